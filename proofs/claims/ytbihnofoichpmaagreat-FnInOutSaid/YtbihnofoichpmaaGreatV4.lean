/- What is proved here: a part of the proof that the statement of this claim holds (several texts of wip/, laid together). -/
import Derived.Test.YtbihnofoichpmaaGreatV3
namespace Go.Proofs.YtbihnofoichpmaaGreat.E
open Go
set_option linter.unusedVariables false
set_option maxRecDepth 100000
set_option linter.unusedSimpArgs false
set_option linter.unusedSectionVars false
noncomputable section
theorem must {ρ:Type}{c:Bool}{a b r:Option ρ}(h:c=true)(k:a=r):(cond c a b)=r:=by rw[h];exact k
theorem mu {ρ:Type}{c:Bool}{a b r:Option ρ}(k:a=r)(h:c=true:=by first|assumption|(simp_all<;>omega)):(cond c a b)=r:=must h k
theorem zcT {ρ:Type}{c:Bool}{a b r:Option ρ}(h:c=false)(k:b=r):(cond c a b)=r:=by rw[h];exact k
theorem br {ρ:Type}{c:Bool}{a b r:Option ρ}(h1:c=true->a=r)(h2:c=false->b=r):(cond c a b)=r:=by
 cases c
 .exact h2 rfl
 .exact h1 rfl
theorem brN {ρ:Type}{c:Bool}{a b r:Option ρ}(h1:c=false->a=r)(h2:c=true->b=r):(cond (cond c false true) a b)=r:=by
 cases c
 .exact h1 rfl
 .exact h2 rfl
theorem shr {α ρ:Type}{x:α}{f:α->Option ρ}{r:Option ρ}(h:f x=r):share x f=r:=h
theorem zih {ρ:Type}{c p:Bool}{a b:Option ρ}(hc:c=true):(cond c (cond (cond p false true) a b) none)=bif p then b else a:=by
 rw[hc];cases p<;>rfl
attribute [simp] zD
@[simp] theorem z4Q {α:Type}(l:List α):(few (ln l)=true)↔l.length<=2147483648:=by
 unfold few ln;rw[decide_eq_true_iff];omega
@[simp] theorem z7M {α:Type}(l m:List α):(ap l m).length=l.length+m.length:=by simp[ap]
attribute [simp] zjy zfE
@[simp] theorem z3J (n:Nat)(k:IntKind)(x:Int):CVB n (.i k x)↔True:=⟨fun _=>trivial,fun _=>.i k x⟩
@[simp] theorem z7Q (n:Nat)(x:Bool):CVB n (.b x)↔True:=⟨fun _=>trivial,fun _=>.b x⟩
theorem zkl {n:Nat}{t:Ty}(l:List t.den):CVB n (.s t l)↔l.length<=n/\∀x∈l,∀c∈t.cells x,CVB n c:=⟨fun h=>h.inv,fun h=>.s t l h.1 h.2⟩
@[simp] theorem zVy (n:Nat)(l:List Int):CVB n (.s .int l)↔l.length<=n:=by rw[zkl];simp[Ty.cells]
@[simp] theorem z6p (n:Nat)(l:List Int):CVB n (.s .u8 l)↔l.length<=n:=by rw[zkl];simp[Ty.cells]
@[simp] theorem z1f (n:Nat)(l:List Bool):CVB n (.s .bool l)↔l.length<=n:=by rw[zkl];simp[Ty.cells]
@[simp] theorem z1h (n:Nat)(l:List Slot):CVB n (.s .slot l)↔l.length<=n:=by rw[zkl];simp[Ty.cells]
@[simp] theorem z4H (n:Nat)(l:List Ins):CVB n (.s .ins l)↔l.length<=n:=by rw[zkl];simp[Ty.cells]
@[simp] theorem zY1 (n:Nat)(l:List Entry):CVB n (.s .entry l)↔l.length<=n:=by rw[zkl];simp[Ty.cells]
@[simp] theorem z4G (n:Nat)(l:List GAct):CVB n (.s .act l)↔l.length<=n:=by rw[zkl];simp[Ty.cells]
@[simp] theorem z1i (n:Nat)(l:List Told):CVB n (.s .told l)↔l.length<=n:=by rw[zkl];simp[Ty.cells]
def SmM (m:List (List Int)):Prop:=m.length<=1048576/\∀x∈m,x.length<=1048576
def SmG (g:Guest):Prop:=g.Prog.length<=1048576/\g.Written.length<=1048576/\g.Live.length<=1048576/\g.Seen.length<=1048576
def zlT (l:List Guest):Prop:=l.length<=1048576/\∀x∈l,SmG x
def SmB (b:Bare):Prop:=SmM b.Memory/\zlT b.Guests/\b.Outs.length<=1048576
def zWv (l:List Bare):Prop:=l.length<=1048576/\∀x∈l,SmB x
theorem z2h:sm=1048576:=rfl
@[simp] theorem zWR (l:List Int):CVB sm (.s .int l)↔l.length<=1048576:=zVy sm l
@[simp] theorem z7t (l:List Int):CVB sm (.s .u8 l)↔l.length<=1048576:=z6p sm l
@[simp] theorem zT5 (l:List Bool):CVB sm (.s .bool l)↔l.length<=1048576:=z1f sm l
@[simp] theorem zT6 (l:List Slot):CVB sm (.s .slot l)↔l.length<=1048576:=z1h sm l
@[simp] theorem z6W (l:List Ins):CVB sm (.s .ins l)↔l.length<=1048576:=z4H sm l
@[simp] theorem zQ5 (l:List Entry):CVB sm (.s .entry l)↔l.length<=1048576:=zY1 sm l
@[simp] theorem z6V (l:List GAct):CVB sm (.s .act l)↔l.length<=1048576:=z4G sm l
@[simp] theorem z6O (l:List Told):CVB sm (.s .told l)↔l.length<=1048576:=z1i sm l
@[simp] theorem zoj (l:List (List Int)):CVB sm (.s (.sl .int) l)↔SmM l:=by rw[zkl];simp[Ty.cells,SmM,z2h]
@[simp] theorem z4l (g:Guest):(∀c∈Ty.cells .guest g,CVB sm c)↔SmG g:=by simp[Ty.cells,SmG,z2h]
@[simp] theorem ztp (l:List Guest):CVB sm (.s .guest l)↔zlT l:=by rw[zkl];simp only[z4l];rfl
@[simp] theorem z4k (b:Bare):(∀c∈Ty.cells .bare b,CVB sm c)↔SmB b:=by
 simp only[Ty.cells,qH,qV,or_false,u4,forall_eq,zoj,ztp,zVy,z3J,and_true];rfl
@[simp] theorem z7w (l:List Bare):CVB sm (.s .bare l)↔zWv l:=by rw[zkl];simp only[z4k];rfl
@[simp] theorem z7P (a:List Ins)(b c:Int)(d e:List Slot)(f:Ctl)(g:Int)(h:GExit)(i:Bool)(j:List Int):SmG ⟨a,b,c,d,e,f,g,h,i,j⟩↔a.length<=1048576/\d.length<=1048576/\e.length<=1048576/\j.length<=1048576:=Iff.rfl
@[simp] theorem z7O (m:List (List Int))(g:List Guest)(o:List Int)(p:Int):SmB ⟨m,g,o,p⟩↔SmM m/\zlT g/\o.length<=1048576:=Iff.rfl
theorem zJ3 {m:List (List Int)}{i:Int}{x:List Int}(h:SmM m)(hx:x.length<=1048576):SmM (up m i x):=by
 refine ⟨by simpa using h.1,fun y hy=>?_⟩
 rcases qZ hy with hy|rfl
 .exact h.2 y hy
 .exact hx
theorem zCI {m:List Guest}{i:Int}{x:Guest}(h:zlT m)(hx:SmG x):zlT (up m i x):=by
 refine ⟨by simpa using h.1,fun y hy=>?_⟩
 rcases qZ hy with hy|rfl
 .exact h.2 y hy
 .exact hx
theorem z5F {m:List Bare}{i:Int}{x:Bare}(h:zWv m)(hx:SmB x):zWv (up m i x):=by
 refine ⟨by simpa using h.1,fun y hy=>?_⟩
 rcases qZ hy with hy|rfl
 .exact h.2 y hy
 .exact hx
theorem z0h {l:List Guest}{i:Int}(h:zlT l)(hh:hasB i (ln l)=true)(d:Guest):SmG (ix l i d):=h.2 _ (zbq hh d)
theorem z6I {l:List (List Int)}{i:Int}(h:SmM l)(hh:hasB i (ln l)=true)(d:List Int):(ix l i d).length<=1048576:=h.2 _ (zbq hh d)
@[simp] theorem z7l:SmG zx:=⟨by decide,by decide,by decide,by decide⟩
def win (x a b:Int):Bool:=ige x a&&ile x b
@[simp] theorem zQn (x a b:Int):zL x a b=win x a b:=rfl
@[simp] theorem z7R (x a b:Int):zco x a b=win x a b:=rfl
@[simp] theorem zRv (i n:Int):inb i n=hasB i n:=rfl
attribute [simp] zdT
@[simp] theorem zoW {α:Type}{l:List α}(h:l.length<=1048576)(i:Int):win i 0 (wsub .i64 (ln l) 1)=hasB i (ln l):=zAW (zcb h).1 i
theorem zGV {α:Type}{l:List α}(h:l.length<=big)(i:Int):win i 0 (wsub .i64 (ln l) 1)=hasB i (ln l):=zAW h i
theorem zfQ {x a b:Int}:(win x a b=true)↔a<=x/\x<=b:=by
 unfold win ige ile;simp only[qD,decide_eq_true_iff]
theorem z5b (a b:Int):ilt a b = !ige a b:=by
 unfold ilt ige
 by_cases h:a<b
 .rw [qI h,qJ (by omega)];rfl
 .rw [qJ h,qI (by omega)];rfl
attribute [simp] zbr zeL zf0 zks zgH zgI zis zgJ zoq zoI zcj zeM
attribute [simp] zd3 zcI zfs zdm
attribute [simp] zfp zc2 zfb zdp
def zbe (a:Int):Int:=bif ilt a 0 then -1 else zTV .i64 a 4
def zcU (a:Int):Int:=bif ilt a 0 then -1 else zkd a 4
@[simp] abbrev zfC (a:Int):Bool:=true
@[simp] abbrev zct (a:Int):Int:=zbe a
def zwe:Run:=rF1 dI fun b=>(zfC b,[aI (zct b)])
def zzL (N:Nat)(a0:Int):OA:=
 (cond (ilt a0 0) (some [(aI (-1))]) (oN (ine 4 0) (some [(aI (zTV .i64 a0 4))])))
theorem zLP (a0:Int)(hc:zfC a0=true):∃N,zzL N a0=some [aI (zct a0)]:=by
 refine ⟨0,?_⟩;unfold zzL oN;refine br (fun _=>?_) (fun _=>must rfl ?_)
 all_goals first|rfl|(simp only [*,zct,zbe,cT,cF]<;>rfl)|simp_all[Ty.cells,zct,zbe]
theorem zFQ:vB 159 zwe:=kF1 ze1 zq zl zn (zo []) zLP
@[simp] abbrev zhY (a:Int):Bool:=true
@[simp] abbrev zdU (a:Int):Int:=zcU a
def zwd:Run:=rF1 dI fun b=>(zhY b,[aI (zdU b)])
def zzK (N:Nat)(a0:Int):OA:=
 (cond (ilt a0 0) (some [(aI (-1))]) (oN (ine 4 0) (some [(aI (zkd a0 4))])))
theorem zLO (a0:Int)(hc:zhY a0=true):∃N,zzK N a0=some [aI (zdU a0)]:=by
 refine ⟨0,?_⟩;unfold zzK oN;refine br (fun _=>?_) (fun _=>must rfl ?_)
 all_goals first|rfl|(simp only [*,zdU,zcU,cT,cF]<;>rfl)|simp_all[Ty.cells,zdU,zcU]
theorem zFP:vB 160 zwd:=kF1 ze1 zq zl zn (zo []) zLO
def zbX (w:Bool):Int:=bif w then 2 else 1
@[simp] abbrev zrm (w:Bool):Bool:=true
@[simp] abbrev zeR (w:Bool):Int:=zbX w
def zBy:Run:=rF1 dB fun b=>(zrm b,[aI (zeR b)])
def zHn (N:Nat)(a0:Bool):OA:=
 (cond a0 (some [(aI 2)]) (some [(aI 1)]))
theorem zR4 (a0:Bool)(hc:zrm a0=true):∃N,zHn N a0=some [aI (zeR a0)]:=by
 refine ⟨0,?_⟩;unfold zHn;refine br (fun _=>?_) (fun _=>?_)
 all_goals first|rfl|(simp only [*,zeR,zbX,cT,cF]<;>rfl)|simp_all[Ty.cells,zeR,zbX]
theorem zK9:vB 185 zBy:=kF1 ze1 zq zl zn (zo []) zR4
def zpU (p:Int)(w:Bool):GExit:=⟨1,p,w,0⟩
def zwU (n:Int):GExit:=⟨2,0,false,n⟩
def zvW (n:Int):GExit:=⟨3,0,false,n⟩
@[simp] abbrev zlM (p:Int)(w:Bool):Bool:=true
@[simp] abbrev zga (p:Int)(w:Bool):GExit:=zpU p w
def ztW:Run:=rF2 dI dB fun b c=>(zlM b c,[.agg (zw6 (zga b c))])
def zyl (N:Nat)(a0:Int)(a1:Bool):OA:=
 (some [(.agg [(.i .i64 1),(.i .i64 a0),(.b a1),(.i .i64 0)])])
theorem zJg (a0:Int)(a1:Bool)(hc:zlM a0 a1=true):∃N,zyl N a0 a1=some [.agg (zw6 (zga a0 a1))]:=by
 refine ⟨0,?_⟩;unfold zyl
 first|rfl|(simp only [*,zga,cT,cF]<;>rfl)|simp_all[Ty.cells,zga]
theorem zC1:vB 187 ztW:=kF2 ze1 zq zl zn (zo []) zJg
@[simp] abbrev zsG (n:Int):Bool:=true
@[simp] abbrev zkG (n:Int):GExit:=zwU n
def zwg:Run:=rF1 dI fun b=>(zsG b,[.agg (zw6 (zkG b))])
def zzO (N:Nat)(a0:Int):OA:=
 (some [(.agg [(.i .i64 2),(.i .i64 0),(.b false),(.i .i64 a0)])])
theorem zLS (a0:Int)(hc:zsG a0=true):∃N,zzO N a0=some [.agg (zw6 (zkG a0))]:=by
 refine ⟨0,?_⟩;unfold zzO
 first|rfl|(simp only [*,zkG,cT,cF]<;>rfl)|simp_all[Ty.cells,zkG]
theorem zFS:vB 219 zwg:=kF1 ze1 zq zl zn (zo []) zLS
@[simp] abbrev zu6 (n:Int):Bool:=true
@[simp] abbrev zmz (n:Int):GExit:=zvW n
def zyS:Run:=rF1 dI fun b=>(zu6 b,[.agg (zw6 (zmz b))])
def zD1 (N:Nat)(a0:Int):OA:=
 (some [(.agg [(.i .i64 3),(.i .i64 0),(.b false),(.i .i64 a0)])])
theorem zPo (a0:Int)(hc:zu6 a0=true):∃N,zD1 N a0=some [.agg (zw6 (zmz a0))]:=by
 refine ⟨0,?_⟩;unfold zD1
 first|rfl|(simp only [*,zmz,cT,cF]<;>rfl)|simp_all[Ty.cells,zmz]
theorem zIx:vB 220 zyS:=kF1 ze1 zq zl zn (zo []) zPo
def zgn (t x:Int):Bool:=bif win t 0 3 then (cond (win x 1 2) (ine (wand .i64 t x) 0) false) else false
@[simp] abbrev zhA (t x:Int):Bool:=true
@[simp] abbrev zhd (t x:Int):Bool:=zgn t x
def zyJ:Run:=rF2 dI dI fun b c=>(zhA b c,[aB (zhd b c)])
def zDT (N:Nat)(a0 a1:Int):OA:=
 (oN (zI a0 0 3) (cond (zL a0 0 3) (oN (zI a1 1 2) (cond (zL a1 1 2) (some [(aB (ine (wand .i64 a0 a1) 0))]) oF)) oF))
theorem zPf (a0 a1:Int)(hc:zhA a0 a1=true):∃N,zDT N a0 a1=some [aB (zhd a0 a1)]:=by
 refine ⟨0,?_⟩;unfold zDT oN;refine must rfl (br (fun _=>must rfl (br (fun _=>?_) (fun _=>?_))) (fun _=>?_))
 all_goals first|rfl|(simp only [*,zhd,zgn,cT,cF]<;>rfl)|simp_all[Ty.cells,zhd,zgn]
theorem zIo:vB 218 zyJ:=kF2 ze1 zq zl zn (zo []) zPf
def zcK (p:Int):Bool:=win p 0 255
@[simp] abbrev zeU (p:Int):Bool:=true
@[simp] abbrev zeT (p:Int):Bool:=zcK p
def zBD:Run:=rF1 dI fun b=>(zeU b,[aB (zeT b)])
def zHs (N:Nat)(a0:Int):OA:=
 (oN (zI a0 0 255) (some [(aB (zL a0 0 255))]))
theorem zSa (a0:Int)(hc:zeU a0=true):∃N,zHs N a0=some [aB (zeT a0)]:=by
 refine ⟨0,?_⟩;unfold zHs oN;refine must rfl ?_
 first|rfl|(simp only [*,zeT,zcK,cT,cF]<;>rfl)|simp_all[Ty.cells,zeT,zcK]
theorem zLe:vB 221 zBD:=kF1 ze1 zq zl zn (zo []) zSa
@[simp] abbrev zra (p:Int):Bool:=true
@[simp] abbrev zop (p:Int):Bool:=zcK p
def zBi:Run:=rF1 dI fun b=>(zra b,[aB (zop b)])
def zG7 (N:Nat)(a0:Int):OA:=
 (oN (zb7 a0 0 255) (some [(aB (zco a0 0 255))]))
theorem zRN (a0:Int)(hc:zra a0=true):∃N,zG7 N a0=some [aB (zop a0)]:=by
 refine ⟨0,?_⟩;unfold zG7 oN;refine must rfl ?_
 first|rfl|(simp only [*,zop,zcK,cT,cF]<;>rfl)|simp_all[Ty.cells,zop,zcK]
theorem zKS:vB 74 zBi:=kF1 ze1 zq zl zn (zo []) zRN
def zb9 (l:List Ins)(p:Int):Ins:=bif hasB p (ln l) then ix l p zn3 else ⟨7,0⟩
@[simp] abbrev ze9 (l:List Ins)(p:Int):Bool:=true
@[simp] abbrev zfj (l:List Ins)(p:Int):Ins:=zb9 l p
def zEQ:Run:=rF2 (dS .ins) dI fun b c=>(ze9 b c,[aT .ins (zfj b c)])
def zNf (N:Nat)(a0:lI)(a1:Int):OA:=
 (oN (zI a1 0 (wsub .i64 (ln a0) 1)) (cond (nB (zL a1 0 (wsub .i64 (ln a0) 1))) (some [(.agg [(.i .i64 7),(.i .i64 0)])]) (oN (inb a1 (ln a0)) (some [(.agg [(.i .i64 (ix a0 a1 zn3).Op),(.i .i64 (ix a0 a1 zn3).X)])]))))
theorem zUt (a0:List Ins)(a1:Int)(hb:zbG big [aS .ins a0,aI a1])(hc:ze9 a0 a1=true):∃N,zNf N a0 a1=some [aT .ins (zfj a0 a1)]:=by
 have hl:=((zcX hb).1 _ (qF.2 rfl)).len;have hw:=zGV hl
 refine ⟨0,?_⟩;unfold zNf oN nB;refine must rfl (brN (fun _=>?_) (fun _=>mu ?_))
 all_goals first|rfl|(simp only [*,zfj,zb9,cT,cF]<;>rfl)|simp_all[Ty.cells,zfj,zb9]
theorem zON:vB 179 zEQ:=hF2 ze1 zq zl zn (zo []) zUt
def zwM (w:Int):Int:=bif ieq w 5 then 1 else 2
def zde (s:Slot)(n:Int):Bool:=bif zcy s noSlot then true else (cond (igt n 0) (cond (win s.Page 0 (wsub .i64 n 1)) (win s.Rights 1 3) false) false)
@[simp] abbrev zrr (s:Slot)(n:Int):Bool:=true
@[simp] abbrev zoO (s:Slot)(n:Int):Bool:=zde s n
def zBH:Run:=rF2 (dT .slot) dI fun b c=>(zrr b c,[aB (zoO b c)])
def zHw (N:Nat)(a0:Slot)(a1:Int):OA:=
 (oN zcj (cond (cond (ieq a0.Page zbr.Page) (ieq a0.Rights zbr.Rights) false) oT (oN (zI a0.Page 0 (wsub .i64 a1 1)) (cond (zL a0.Page 0 (wsub .i64 a1 1)) (cond (igt a1 0) (oN (zI a0.Rights 1 3) (some [(aB (zL a0.Rights 1 3))])) oF) oF))))
theorem zSe (a0:Slot)(a1:Int)(hc:zrr a0 a1=true):∃N,zHw N a0 a1=some [aB (zoO a0 a1)]:=by
 refine ⟨0,?_⟩;unfold zHw oN;refine must rfl (br (fun _=>?_) (fun _=>must rfl (br (fun _=>br (fun _=>must rfl ?_) (fun _=>?_)) (fun _=>?_))))
 all_goals first|rfl|(simp only [*,zoO,zde,zcy,cT,cF]<;>rfl)|simp_all[Ty.cells,zoO,zde,zcy]
theorem zLi:vB 194 zBH:=kF2 ze1 zq zl zn (zo []) zSe
@[simp] abbrev zxp (s:Slot)(n:Int):Bool:=true
@[simp] abbrev zse (s:Slot)(n:Int):Bool:=zde s n
def zBl:Run:=rF2 (dT .slot) dI fun b c=>(zxp b c,[aB (zse b c)])
def zHa (N:Nat)(a0:Slot)(a1:Int):OA:=
 (oN zeM (cond (cond (ieq a0.Page zeL.Page) (ieq a0.Rights zeL.Rights) false) oT (cond (igt a1 0) (oN (zb7 a0.Page 0 (wsub .i64 a1 1)) (cond (zco a0.Page 0 (wsub .i64 a1 1)) (oN (zb7 a0.Rights 1 3) (some [(aB (zco a0.Rights 1 3))])) oF)) oF)))
theorem zRQ (a0:Slot)(a1:Int)(hc:zxp a0 a1=true):∃N,zHa N a0 a1=some [aB (zse a0 a1)]:=by
 refine ⟨0,?_⟩;unfold zHa oN;refine must rfl (br (fun _=>?_) (fun _=>br (fun _=>must rfl (br (fun _=>must rfl ?_) (fun _=>?_))) (fun _=>?_)))
 all_goals first|rfl|(simp only [*,zse,zde,zcy,cT,cF]<;>rfl)|simp_all[Ty.cells,zse,zde,zcy]
theorem zKV:vB 110 zBl:=kF2 ze1 zq zl zn (zo []) zRQ
@[simp] abbrev zfN (l:List Slot):Bool:=pc (l.length<=2147483648)
@[simp] abbrev zey (l:List Slot):List Slot:=l
def ztN:Run:=rF1 (dS .slot) fun b=>(zfN b,[aS .slot (zey b)])
def zyc (N:Nat)(a0:lS):OA:=
 (oN (few (ln (ap [] a0))) (some [(aS .slot (ap [] a0))]))
theorem zI6 (a0:List Slot)(hc:zfN a0=true):∃N,zyc N a0=some [aS .slot (zey a0)]:=by
 have hs:=zD.1 hc;refine ⟨0,?_⟩;unfold zyc oN;refine mu ?_
 first|rfl|(simp only [*,zey,cT,cF]<;>rfl)|simp_all[Ty.cells,zey]
theorem zCS:vB 69 ztN:=kF1 ze1 zq zl zn (zo []) zI6
@[simp] abbrev zsf (l:List Ins):Bool:=pc (l.length<=2147483648)
@[simp] abbrev zm5 (l:List Ins):List Ins:=l
def zv7:Run:=rF1 (dS .ins) fun b=>(zsf b,[aS .ins (zm5 b)])
def zzD (N:Nat)(a0:lI):OA:=
 (oN (few (ln (ap [] a0))) (some [(aS .ins (ap [] a0))]))
theorem zLI (a0:List Ins)(hc:zsf a0=true):∃N,zzD N a0=some [aS .ins (zm5 a0)]:=by
 have hs:=zD.1 hc;refine ⟨0,?_⟩;unfold zzD oN;refine mu ?_
 first|rfl|(simp only [*,zm5,cT,cF]<;>rfl)|simp_all[Ty.cells,zm5]
theorem zFJ:vB 163 zv7:=kF1 ze1 zq zl zn (zo []) zLI
def zha (m:List (List Int))(p c:Int):Bool:=bif hasB p (ln m) then hasB c (ln (ix m p [])) else false
def cellAt (m:List (List Int))(p c:Int):Int:=bif zha m p c then ix (ix m p []) c 0 else 0
def zbx (m:List (List Int))(p c v:Int):List (List Int):=bif zha m p c then (cond (win v 0 99) (up m p (up (ix m p []) c v)) m) else m
theorem zxA (m:List (List Int))(p c:Int):(zha m p c=true)↔hasB p (ln m)=true/\hasB c (ln (ix m p []))=true:=by
 unfold zha;cases hasB p (ln m)<;>simp
theorem z6o {n:Nat}{m:List (List Int)}(h:CVB n (.s (.sl .int) m)):m.length<=n/\∀p:Int,hasB p (ln m)=true->(ix m p []).length<=n :=
 ⟨h.len,fun p hp=>(h.inv.2 _ (zbq hp []) _ (qF.2 rfl)).len⟩
@[simp] abbrev zru (m:List (List Int))(p c:Int):Bool:=true
@[simp] abbrev zoR (m:List (List Int))(p c:Int):Bool:=zha m p c
def zBM:Run:=rF3 (dS (.sl .int)) dI dI fun b c d=>(zru b c d,[aB (zoR b c d)])
def zHB (N:Nat)(a0:lM)(a1 a2:Int):OA:=
 let y0:=(wsub .i64 (ln (ix a0 a1 [])) 1); (oN (zI a1 0 (wsub .i64 (ln a0) 1)) (cond (zL a1 0 (wsub .i64 (ln a0) 1)) (oN (inb a1 (ln a0)) (oN (zI a2 0 y0) (some [(aB (zL a2 0 y0))]))) oF))
theorem zSj (a0:List (List Int))(a1 a2:Int)(hb:zbG big [aS (.sl .int) a0,aI a1,aI a2])(hc:zru a0 a1 a2=true):∃N,zHB N a0 a1 a2=some [aB (zoR a0 a1 a2)]:=by
 have hl:=z6o ((zcX hb).1 _ (qF.2 rfl));have hw:=zGV hl.1;have hw2:∀p i:Int,hasB p (ln a0)=true->win i 0 (wsub .i64 (ln (ix a0 p [])) 1)=hasB i (ln (ix a0 p [])):=fun p i h=>zGV (hl.2 p h) i
 refine ⟨0,?_⟩;unfold zHB oN
 conv=>zeta
 refine must rfl (br (fun _=>mu (must rfl ?_)) (fun _=>?_))
 all_goals first|rfl|(simp only [*,zoR,zha,cT,cF]<;>rfl)|simp_all[Ty.cells,zoR,zha]
theorem zLm:vB 200 zBM:=hF3 ze1 zq zl zn (zo []) zSj
def z3l:zO:=[(177,zBp),(159,zwe),(160,zwd),(185,zBy),(187,ztW),(219,zwg),(220,zyS),(218,zyJ),(221,zBD),(74,zBi),(179,zEQ),(194,zBH),(110,zBl),(69,ztN),(163,zv7),(200,zBM)]++z6j
theorem zfL:zF z3l:=zh zKZ (zh zFQ (zh zFP (zh zK9 (zh zC1 (zh zFS (zh zIx (zh zIo (zh zLe (zh zKS (zh zON (zh zLi (zh zKV (zh zCS (zh zFJ (zh zLm ze1)))))))))))))))
@[simp] abbrev zrk (m:List (List Int))(p c:Int):Bool:=true
@[simp] abbrev zl8 (m:List (List Int))(p c:Int):Int:=cellAt m p c
def zBq:Run:=rF3 (dS (.sl .int)) dI dI fun b c d=>(zrk b c d,[aI (zl8 b c d)])
def zHf (N:Nat)(a0:lM)(a1 a2:Int):OA:=
 (oN (zru a0 a1 a2) (cond (nB (zoR a0 a1 a2)) (some [(aI 0)]) (oN (inb a1 (ln a0)) (oN (inb a2 (ln (ix a0 a1 []))) (some [(aI (ix (ix a0 a1 []) a2 0))])))))
theorem zRV (a0:List (List Int))(a1 a2:Int)(hc:zrk a0 a1 a2=true):∃N,zHf N a0 a1 a2=some [aI (zl8 a0 a1 a2)]:=by
 have hm:=(zxA a0 a1 a2).1;refine ⟨0,?_⟩;unfold zHf oN nB;refine must rfl (brN (fun _=>?_) (fun _=>mu (mu ?_)))
 all_goals first|rfl|(simp only [*,zl8,cellAt,cT,cF]<;>rfl)|simp_all[Ty.cells,zl8,cellAt]
theorem zK1:vB 161 zBq:=kF3 zfL zq zl zn (zo []) zRV
def zcv (t:List Slot)(n p:Int):Bool:=bif t.all (fun s=>zde s p) then ieq (ln t) n else false
@[simp] abbrev zly (t:List Slot)(n p:Int):Bool:=true
@[simp] abbrev zhf (t:List Slot)(n p:Int):Bool:=zcv t n p
def zyZ:Run:=rF3 (dS .slot) dI dI fun b c d=>(zly b c d,[aB (zhf b c d)])
def zD8 (N:Nat)(a0:lS)(a1 a2:Int):OA:=
 (iter (σ:=(Int×(Int×(Int×(lS×Unit))))) N (fun r4 s5=>let y0:=s5.2.2.2.1;let y1:=(ix y0 s5.2.2.1 zK); (cond (ilt s5.2.2.1 (ln y0)) (oN (inb s5.2.2.1 (ln y0)) (oN (zrr y1 s5.2.1) (cond (nB (zoO y1 s5.2.1)) oF (r4 (s5.1,(s5.2.1,((zG .i64 s5.2.2.1 1),(y0,())))))))) (some [(aB (ieq (ln y0) s5.1))]))) (a1,(a2,(0,(a0,())))))
def zP0:FuncId->Nat->Option Tmpl:=zo [(229,0,{ n:=25,tm:=[(0,.sl 0 []),(1,ti),(2,ti),(7,ti)],lo:=[],ro:=[(0,.slot,false)] })]
theorem zPv (a0:List Slot)(a1 a2:Int)(hb:zbG big [aS .slot a0,aI a1,aI a2])(hc:zly a0 a1 a2=true):∃N,zD8 N a0 a1 a2=some [aB (zhf a0 a1 a2)]:=by
 have hl:(_:List _).length<=big:=((zcX hb).1 _ (qF.2 rfl)).len;refine zbP fun N hNN=>?_;unfold zD8 oN nB
 conv=>zeta
 refine (zbc a0 (fun i (t:Unit)=>(a1,a2,(i:Int),a0,())) _ (fun _ x (_:Unit) κ=>bif (fun s=>zde s a2) x then κ () else oF) (fun (t:Unit)=>(some [(.one (.b (ieq (ln a0) a1)))])) (fun i hi t rec=>?_) (fun t rec=>?_) _ () (hNN hl)).trans ?_
 .simp only [zbf hi,zN hi,zba hi,zT hi hl,cT];exact zih rfl
 .simp only [zbd,cF]
 rw[zgl (fun s=>zde s a2)];refine br (fun h0=>?_) (fun h0=>?_)
 .first|rfl|(simp only [h0,zhf,zcv,cT,cF]<;>rfl)|(simp_all [Ty.cells,zhf,zcv];done)
 .first|rfl|(simp only [h0,zhf,zcv,cT,cF]<;>rfl)|(simp_all [Ty.cells,zhf,zcv];done)
theorem zIE:vB 229 zyZ:=hF3 zfL zq zl zn zP0 zPv
@[simp] abbrev zlf (t:List Slot)(n p:Int):Bool:=true
@[simp] abbrev zg5 (t:List Slot)(n p:Int):Bool:=zcv t n p
def zyC:Run:=rF3 (dS .slot) dI dI fun b c d=>(zlf b c d,[aB (zg5 b c d)])
def zDI (N:Nat)(a0:lS)(a1 a2:Int):OA:=
 (iter (σ:=(Int×(Int×(Int×(Int×(lS×Unit)))))) N (fun r4 s5=>let y1:=s5.2.2.2.2.1;let y0:=(ix y1 s5.2.2.2.1 zK); (cond (ilt s5.2.2.2.1 s5.2.2.1) (oN (inb s5.2.2.2.1 (ln y1)) (oN (zxp y0 s5.2.1) (cond (nB (zse y0 s5.2.1)) oF (r4 (s5.1,(s5.2.1,(s5.2.2.1,((zG .i64 s5.2.2.2.1 1),(y1,()))))))))) (some [(aB (ieq (ln y1) s5.1))]))) (a1,(a2,((ln a0),(0,(a0,()))))))
def zPV:FuncId->Nat->Option Tmpl:=zo [(73,0,{ n:=24,tm:=[(0,.sl 0 []),(1,ti),(2,ti),(9,.sl 0 []),(10,ti),(11,ti)],lo:=[],ro:=[(0,.slot,false)] })]
theorem zO4 (a0:List Slot)(a1 a2:Int)(hb:zbG big [aS .slot a0,aI a1,aI a2])(hc:zlf a0 a1 a2=true):∃N,zDI N a0 a1 a2=some [aB (zg5 a0 a1 a2)]:=by
 have hl:(_:List _).length<=big:=((zcX hb).1 _ (qF.2 rfl)).len;refine zbP fun N hNN=>?_;unfold zDI oN nB
 conv=>zeta
 refine (zbc a0 (fun i (t:Unit)=>(a1,a2,(ln a0),(i:Int),a0,())) _ (fun _ x (_:Unit) κ=>bif (fun s=>zde s a2) x then κ () else oF) (fun (t:Unit)=>(some [(.one (.b (ieq (ln a0) a1)))])) (fun i hi t rec=>?_) (fun t rec=>?_) _ () (hNN hl)).trans ?_
 .simp only [zbf hi,zN hi,zba hi,zT hi hl,cT];exact zih rfl
 .simp only [zbd,cF]
 rw[zgl (fun s=>zde s a2)];refine br (fun h0=>?_) (fun h0=>?_)
 .first|rfl|(simp only [h0,zg5,zcv,cT,cF]<;>rfl)|(simp_all [Ty.cells,zg5,zcv];done)
 .first|rfl|(simp only [h0,zg5,zcv,cT,cF]<;>rfl)|(simp_all [Ty.cells,zg5,zcv];done)
theorem zIh:vB 73 zyC:=hF3 zfL zq zl zn zPV zO4
def zb6 (c:List Int):Bool:=bif c.all (fun x=>win x 0 99) then ieq (ln c) 4 else false
@[simp] abbrev zfo (c:List Int):Bool:=true
@[simp] abbrev zeS (c:List Int):Bool:=zb6 c
def zBC:Run:=rF1 (dS .int) fun b=>(zfo b,[aB (zeS b)])
def zHr (N:Nat)(a0:List Int):OA:=
 (iter (σ:=(Int×((List Int)×Unit))) N (fun r2 s3=>(cond (ilt s3.1 (ln s3.2.1)) (oN (inb s3.1 (ln s3.2.1)) (oN (zI (ix s3.2.1 s3.1 0) 0 99) (cond (nB (zL (ix s3.2.1 s3.1 0) 0 99)) oF (r2 ((zG .i64 s3.1 1),(s3.2.1,())))))) (some [(aB (ieq (ln s3.2.1) 4))]))) (0,(a0,())))
def zTI:FuncId->Nat->Option Tmpl:=zo [(227,0,{ n:=19,tm:=[(0,.sl 0 []),(3,ti)],lo:=[],ro:=[(0,.int,false)] })]
theorem zR9 (a0:List Int)(hb:zbG big [aS .int a0])(hc:zfo a0=true):∃N,zHr N a0=some [aB (zeS a0)]:=by
 have hl:(_:List _).length<=big:=((zcX hb).1 _ (qF.2 rfl)).len;refine zbP fun N hNN=>?_;unfold zHr oN nB;refine (zbc a0 (fun i (t:Unit)=>((i:Int),a0,())) _ (fun _ x (_:Unit) κ=>bif (fun x=>win x 0 99) x then κ () else oF) (fun (t:Unit)=>(some [(.one (.b (ieq (ln a0) 4)))])) (fun i hi t rec=>?_) (fun t rec=>?_) _ () (hNN hl)).trans ?_
 .simp only [zbf hi,zN hi,zba hi,zT hi hl,cT];exact zih rfl
 .simp only [zbd,cF]
 rw[zgl (fun x=>win x 0 99)];refine br (fun h0=>?_) (fun h0=>?_)
 .first|rfl|(simp only [h0,zeS,zb6,cT,cF]<;>rfl)|(simp_all [Ty.cells,zeS,zb6];done)
 .first|rfl|(simp only [h0,zeS,zb6,cT,cF]<;>rfl)|(simp_all [Ty.cells,zeS,zb6];done)
theorem zLd:vB 227 zBC:=hF1 zfL zq zl zn zTI zR9
@[simp] abbrev zg4 (c:List Int):Bool:=true
@[simp] abbrev zfM (c:List Int):Bool:=zb6 c
def zBh:Run:=rF1 (dS .int) fun b=>(zg4 b,[aB (zfM b)])
def zG6 (N:Nat)(a0:List Int):OA:=
 (iter (σ:=(Int×(Int×((List Int)×Unit)))) N (fun r2 s3=>(cond (ilt s3.2.1 s3.1) (oN (inb s3.2.1 (ln s3.2.2.1)) (oN (zb7 (ix s3.2.2.1 s3.2.1 0) 0 99) (cond (nB (zco (ix s3.2.2.1 s3.2.1 0) 0 99)) oF (r2 (s3.1,((zG .i64 s3.2.1 1),(s3.2.2.1,()))))))) (some [(aB (ieq (ln s3.2.2.1) 4))]))) ((ln a0),(0,(a0,()))))
def zTA:FuncId->Nat->Option Tmpl:=zo [(72,0,{ n:=18,tm:=[(0,.sl 0 []),(5,.sl 0 []),(6,ti),(7,ti)],lo:=[],ro:=[(0,.int,false)] })]
theorem zRM (a0:List Int)(hb:zbG big [aS .int a0])(hc:zg4 a0=true):∃N,zG6 N a0=some [aB (zfM a0)]:=by
 have hl:(_:List _).length<=big:=((zcX hb).1 _ (qF.2 rfl)).len;refine zbP fun N hNN=>?_;unfold zG6 oN nB;refine (zbc a0 (fun i (t:Unit)=>((ln a0),(i:Int),a0,())) _ (fun _ x (_:Unit) κ=>bif (fun x=>win x 0 99) x then κ () else oF) (fun (t:Unit)=>(some [(.one (.b (ieq (ln a0) 4)))])) (fun i hi t rec=>?_) (fun t rec=>?_) _ () (hNN hl)).trans ?_
 .simp only [zbf hi,zN hi,zba hi,zT hi hl,cT];exact zih rfl
 .simp only [zbd,cF]
 rw[zgl (fun x=>win x 0 99)];refine br (fun h0=>?_) (fun h0=>?_)
 .first|rfl|(simp only [h0,zfM,zb6,cT,cF]<;>rfl)|(simp_all [Ty.cells,zfM,zb6];done)
 .first|rfl|(simp only [h0,zfM,zb6,cT,cF]<;>rfl)|(simp_all [Ty.cells,zfM,zb6];done)
theorem zKR:vB 72 zBh:=hF1 zfL zq zl zn zTA zRM
def zdr (i:Ins):Bool:=bif (ieq i.Op 1||ieq i.Op 2||ieq i.Op 5||ieq i.Op 6) then win i.X 0 99 else (cond (ieq i.Op 3||ieq i.Op 4) (win i.X 0 15) (cond (ieq i.Op 7) (ieq i.X 0) (cond (ieq i.Op 8) (win i.X 0 11) false)))
@[simp] abbrev zBY (i:Ins):Bool:=true
@[simp] abbrev zwF (i:Ins):Bool:=zdr i
def zER:Run:=rF1 (dT .ins) fun b=>(zBY b,[aB (zwF b)])
def zNg (N:Nat)(a0:Ins):OA:=
 let y10:=(ieq a0.Op 4);let y9:=(zI a0.X 0 99);let y8:=(aB (zL a0.X 0 99));let y7:=(ieq a0.Op 8);let y6:=(ieq a0.Op 7);let y5:=(ieq a0.Op 3);let y4:=(zI a0.X 0 11);let y3:=(zI a0.X 0 15);let y2:=(aB (ieq a0.X 0));let y1:=(aB (zL a0.X 0 11));let y0:=(aB (zL a0.X 0 15)); (cond (ieq a0.Op 1) (cond (ieq a0.Op 1) (oN y9 (some [y8])) (cond y5 (cond y5 (oN y3 (some [y0])) (cond y6 (some [y2]) (cond y7 (oN y4 (some [y1])) oF))) (cond y10 (oN y3 (some [y0])) (cond y6 (some [y2]) (cond y7 (oN y4 (some [y1])) oF))))) (cond (ieq a0.Op 2) (cond (ieq a0.Op 2) (oN y9 (some [y8])) (cond y5 (cond y5 (oN y3 (some [y0])) (cond y6 (some [y2]) (cond y7 (oN y4 (some [y1])) oF))) (cond y10 (oN y3 (some [y0])) (cond y6 (some [y2]) (cond y7 (oN y4 (some [y1])) oF))))) (cond (ieq a0.Op 5) (cond (ieq a0.Op 5) (oN y9 (some [y8])) (cond y5 (cond y5 (oN y3 (some [y0])) (cond y6 (some [y2]) (cond y7 (oN y4 (some [y1])) oF))) (cond y10 (oN y3 (some [y0])) (cond y6 (some [y2]) (cond y7 (oN y4 (some [y1])) oF))))) (cond (ieq a0.Op 6) (oN y9 (some [y8])) (cond y5 (cond y5 (oN y3 (some [y0])) (cond y6 (some [y2]) (cond y7 (oN y4 (some [y1])) oF))) (cond y10 (oN y3 (some [y0])) (cond y6 (some [y2]) (cond y7 (oN y4 (some [y1])) oF))))))))
theorem zUu (a0:Ins)(hc:zBY a0=true):∃N,zNg N a0=some [aB (zwF a0)]:=by
 refine ⟨0,?_⟩;unfold zNg oN
 conv=>zeta
 refine br (fun _=>br (fun _=>must rfl ?_) (fun _=>br (fun _=>br (fun _=>must rfl ?_) (fun _=>br (fun _=>?_) (fun _=>br (fun _=>must rfl ?_) (fun _=>?_)))) (fun _=>br (fun _=>must rfl ?_) (fun _=>br (fun _=>?_) (fun _=>br (fun _=>must rfl ?_) (fun _=>?_)))))) (fun _=>br (fun _=>br (fun _=>must rfl ?_) (fun _=>br (fun _=>br (fun _=>must rfl ?_) (fun _=>br (fun _=>?_) (fun _=>br (fun _=>must rfl ?_) (fun _=>?_)))) (fun _=>br (fun _=>must rfl ?_) (fun _=>br (fun _=>?_) (fun _=>br (fun _=>must rfl ?_) (fun _=>?_)))))) (fun _=>br (fun _=>br (fun _=>must rfl ?_) (fun _=>br (fun _=>br (fun _=>must rfl ?_) (fun _=>br (fun _=>?_) (fun _=>br (fun _=>must rfl ?_) (fun _=>?_)))) (fun _=>br (fun _=>must rfl ?_) (fun _=>br (fun _=>?_) (fun _=>br (fun _=>must rfl ?_) (fun _=>?_)))))) (fun _=>br (fun _=>must rfl ?_) (fun _=>br (fun _=>br (fun _=>must rfl ?_) (fun _=>br (fun _=>?_) (fun _=>br (fun _=>must rfl ?_) (fun _=>?_)))) (fun _=>br (fun _=>must rfl ?_) (fun _=>br (fun _=>?_) (fun _=>br (fun _=>must rfl ?_) (fun _=>?_))))))))
 all_goals first|rfl|(simp only [*,zwF,zdr,cT,cF]<;>rfl)|simp_all[Ty.cells,zwF,zdr]
theorem zOO:vB 233 zER:=kF1 zfL zq zl zn (zo []) zUu
@[simp] abbrev zAN (i:Ins):Bool:=true
@[simp] abbrev zvN (i:Ins):Bool:=zdr i
def zEI:Run:=rF1 (dT .ins) fun b=>(zAN b,[aB (zvN b)])
def zM7 (N:Nat)(a0:Ins):OA:=
 let y10:=(ieq a0.Op 4);let y9:=(zb7 a0.X 0 99);let y8:=(aB (zco a0.X 0 99));let y7:=(ieq a0.Op 8);let y6:=(ieq a0.Op 7);let y5:=(ieq a0.Op 3);let y4:=(zb7 a0.X 0 11);let y3:=(zb7 a0.X 0 15);let y2:=(aB (ieq a0.X 0));let y1:=(aB (zco a0.X 0 11));let y0:=(aB (zco a0.X 0 15)); (cond (ieq a0.Op 1) (cond (ieq a0.Op 1) (oN y9 (some [y8])) (cond y5 (cond y5 (oN y3 (some [y0])) (cond y6 (some [y2]) (cond y7 (oN y4 (some [y1])) oF))) (cond y10 (oN y3 (some [y0])) (cond y6 (some [y2]) (cond y7 (oN y4 (some [y1])) oF))))) (cond (ieq a0.Op 2) (cond (ieq a0.Op 2) (oN y9 (some [y8])) (cond y5 (cond y5 (oN y3 (some [y0])) (cond y6 (some [y2]) (cond y7 (oN y4 (some [y1])) oF))) (cond y10 (oN y3 (some [y0])) (cond y6 (some [y2]) (cond y7 (oN y4 (some [y1])) oF))))) (cond (ieq a0.Op 5) (cond (ieq a0.Op 5) (oN y9 (some [y8])) (cond y5 (cond y5 (oN y3 (some [y0])) (cond y6 (some [y2]) (cond y7 (oN y4 (some [y1])) oF))) (cond y10 (oN y3 (some [y0])) (cond y6 (some [y2]) (cond y7 (oN y4 (some [y1])) oF))))) (cond (ieq a0.Op 6) (oN y9 (some [y8])) (cond y5 (cond y5 (oN y3 (some [y0])) (cond y6 (some [y2]) (cond y7 (oN y4 (some [y1])) oF))) (cond y10 (oN y3 (some [y0])) (cond y6 (some [y2]) (cond y7 (oN y4 (some [y1])) oF))))))))
theorem zUk (a0:Ins)(hc:zAN a0=true):∃N,zM7 N a0=some [aB (zvN a0)]:=by
 refine ⟨0,?_⟩;unfold zM7 oN
 conv=>zeta
 refine br (fun _=>br (fun _=>must rfl ?_) (fun _=>br (fun _=>br (fun _=>must rfl ?_) (fun _=>br (fun _=>?_) (fun _=>br (fun _=>must rfl ?_) (fun _=>?_)))) (fun _=>br (fun _=>must rfl ?_) (fun _=>br (fun _=>?_) (fun _=>br (fun _=>must rfl ?_) (fun _=>?_)))))) (fun _=>br (fun _=>br (fun _=>must rfl ?_) (fun _=>br (fun _=>br (fun _=>must rfl ?_) (fun _=>br (fun _=>?_) (fun _=>br (fun _=>must rfl ?_) (fun _=>?_)))) (fun _=>br (fun _=>must rfl ?_) (fun _=>br (fun _=>?_) (fun _=>br (fun _=>must rfl ?_) (fun _=>?_)))))) (fun _=>br (fun _=>br (fun _=>must rfl ?_) (fun _=>br (fun _=>br (fun _=>must rfl ?_) (fun _=>br (fun _=>?_) (fun _=>br (fun _=>must rfl ?_) (fun _=>?_)))) (fun _=>br (fun _=>must rfl ?_) (fun _=>br (fun _=>?_) (fun _=>br (fun _=>must rfl ?_) (fun _=>?_)))))) (fun _=>br (fun _=>must rfl ?_) (fun _=>br (fun _=>br (fun _=>must rfl ?_) (fun _=>br (fun _=>?_) (fun _=>br (fun _=>must rfl ?_) (fun _=>?_)))) (fun _=>br (fun _=>must rfl ?_) (fun _=>br (fun _=>?_) (fun _=>br (fun _=>must rfl ?_) (fun _=>?_))))))))
 all_goals first|rfl|(simp only [*,zvN,zdr,cT,cF]<;>rfl)|simp_all[Ty.cells,zvN,zdr]
theorem zOE:vB 164 zEI:=kF1 zfL zq zl zn (zo []) zUk
def zgz (e:GExit):Bool:=bif (ieq e.Kind 0||ieq e.Kind 4) then (ieq e.Page 0&&(!e.Write&&ieq e.N 0)) else (cond (ieq e.Kind 1) (win e.Page 0 3&&ieq e.N 0) (cond (ieq e.Kind 2||ieq e.Kind 3) (win e.N 0 99&&(ieq e.Page 0 && !e.Write)) false))
@[simp] theorem z7N (x:Bool):zjm x false = !x:=by cases x<;>rfl
attribute [simp] zcC
@[simp] abbrev zxL (e:GExit):Bool:=true
@[simp] abbrev zsH (e:GExit):Bool:=zgz e
def zBs:Run:=rF1 dE fun b=>(zxL b,[aB (zsH b)])
def zHh (N:Nat)(a0:GExit):OA:=
 let y5:=(zL a0.N 0 99);let y4:=(zI a0.N 0 99);let y3:=(ieq a0.Kind 2);let y2:=(ieq a0.Page 0);let y1:=(aB (nB a0.Write));let y0:=(aB (cond (ieq a0.Kind a0.Kind) (cond y2 (cond (zjm a0.Write false) (ieq a0.N 0) false) false) false)); (cond (ieq a0.Kind 0) (cond (ieq a0.Kind 0) (some [y0]) (cond (ieq a0.Kind 1) (oN (zI a0.Page 0 3) (cond (zL a0.Page 0 3) (some [(aB (ieq a0.N 0))]) oF)) (cond y3 (cond y3 (oN y4 (cond y5 (cond y2 (some [y1]) oF) oF)) oF) (cond (ieq a0.Kind 3) (oN y4 (cond y5 (cond y2 (some [y1]) oF) oF)) oF)))) (cond (ieq a0.Kind 4) (some [y0]) (cond (ieq a0.Kind 1) (oN (zI a0.Page 0 3) (cond (zL a0.Page 0 3) (some [(aB (ieq a0.N 0))]) oF)) (cond y3 (cond y3 (oN y4 (cond y5 (cond y2 (some [y1]) oF) oF)) oF) (cond (ieq a0.Kind 3) (oN y4 (cond y5 (cond y2 (some [y1]) oF) oF)) oF)))))
theorem zRX (a0:GExit)(hc:zxL a0=true):∃N,zHh N a0=some [aB (zsH a0)]:=by
 refine ⟨0,?_⟩;unfold zHh oN nB
 conv=>zeta
 refine br (fun _=>br (fun _=>?_) (fun _=>br (fun _=>must rfl (br (fun _=>?_) (fun _=>?_))) (fun _=>br (fun _=>br (fun _=>must rfl (br (fun _=>br (fun _=>?_) (fun _=>?_)) (fun _=>?_))) (fun _=>?_)) (fun _=>br (fun _=>must rfl (br (fun _=>br (fun _=>?_) (fun _=>?_)) (fun _=>?_))) (fun _=>?_))))) (fun _=>br (fun _=>?_) (fun _=>br (fun _=>must rfl (br (fun _=>?_) (fun _=>?_))) (fun _=>br (fun _=>br (fun _=>must rfl (br (fun _=>br (fun _=>?_) (fun _=>?_)) (fun _=>?_))) (fun _=>?_)) (fun _=>br (fun _=>must rfl (br (fun _=>br (fun _=>?_) (fun _=>?_)) (fun _=>?_))) (fun _=>?_)))))
 all_goals first|rfl|(simp only [*,zsH,zgz,cT,cF]<;>rfl)|simp_all[Ty.cells,zsH,zgz]
theorem zK3:vB 231 zBs:=kF1 zfL zq zl zn (zo []) zRX
@[simp] abbrev zxl (e:GExit):Bool:=true
@[simp] abbrev zsc (e:GExit):Bool:=zgz e
def zBb:Run:=rF1 dE fun b=>(zxl b,[aB (zsc b)])
def zGZ (N:Nat)(a0:GExit):OA:=
 let y5:=(zco a0.N 0 99);let y4:=(zb7 a0.N 0 99);let y3:=(ieq a0.Kind 2);let y2:=(aB (ieq a0.N 0));let y1:=(ieq a0.Page 0);let y0:=(aB (nB a0.Write)); (cond (ieq a0.Kind 0) (cond (ieq a0.Kind 0) (cond y1 (cond (nB a0.Write) (some [y2]) oF) oF) (cond (ieq a0.Kind 1) (oN (zb7 a0.Page 0 3) (cond (zco a0.Page 0 3) (some [y2]) oF)) (cond y3 (cond y3 (oN y4 (cond y5 (cond y1 (some [y0]) oF) oF)) oF) (cond (ieq a0.Kind 3) (oN y4 (cond y5 (cond y1 (some [y0]) oF) oF)) oF)))) (cond (ieq a0.Kind 4) (cond y1 (cond (nB a0.Write) (some [y2]) oF) oF) (cond (ieq a0.Kind 1) (oN (zb7 a0.Page 0 3) (cond (zco a0.Page 0 3) (some [y2]) oF)) (cond y3 (cond y3 (oN y4 (cond y5 (cond y1 (some [y0]) oF) oF)) oF) (cond (ieq a0.Kind 3) (oN y4 (cond y5 (cond y1 (some [y0]) oF) oF)) oF)))))
theorem zRE (a0:GExit)(hc:zxl a0=true):∃N,zGZ N a0=some [aB (zsc a0)]:=by
 refine ⟨0,?_⟩;unfold zGZ oN nB
 conv=>zeta
 refine br (fun _=>br (fun _=>br (fun _=>brN (fun _=>?_) (fun _=>?_)) (fun _=>?_)) (fun _=>br (fun _=>must rfl (br (fun _=>?_) (fun _=>?_))) (fun _=>br (fun _=>br (fun _=>must rfl (br (fun _=>br (fun _=>?_) (fun _=>?_)) (fun _=>?_))) (fun _=>?_)) (fun _=>br (fun _=>must rfl (br (fun _=>br (fun _=>?_) (fun _=>?_)) (fun _=>?_))) (fun _=>?_))))) (fun _=>br (fun _=>br (fun _=>brN (fun _=>?_) (fun _=>?_)) (fun _=>?_)) (fun _=>br (fun _=>must rfl (br (fun _=>?_) (fun _=>?_))) (fun _=>br (fun _=>br (fun _=>must rfl (br (fun _=>br (fun _=>?_) (fun _=>?_)) (fun _=>?_))) (fun _=>?_)) (fun _=>br (fun _=>must rfl (br (fun _=>br (fun _=>?_) (fun _=>?_)) (fun _=>?_))) (fun _=>?_)))))
 all_goals first|rfl|(simp only [*,zsc,zgz,cT,cF]<;>rfl)|simp_all[Ty.cells,zsc,zgz]
theorem zKL:vB 113 zBb:=kF1 zfL zq zl zn (zo []) zRE
def zjB (c:Ctl):List Int:=(cond (win c.Traps 0 3) [] [1])++((cond (win c.Post 0 255) [] [2])++((cond (ine c.Post 0) (cond c.Open [] [3]) [])++(cond (ieq c.Traps 2) (cond (ine c.Post 0) [4] []) [])))
@[simp] theorem z7K {α:Type}(x:α)(l m:List α):ap (x :: l) m=x :: ap l m:=rfl
@[simp] abbrev zqN (c:Ctl):Bool:=true
@[simp] abbrev zlr (c:Ctl):List Int:=zjB c
def ztV:Run:=rF1 dC fun b=>(zqN b,[aS .int (zlr b)])
def zyk (N:Nat)(a0:Ctl):OA:=
 let y10:=(aS .int []);let y8:=(ap (ap [] [2]) [4]);let y7:=(ap (ap [] [1]) [4]);let y6:=(aS .int (ap [] [2]));let y5:=(aS .int (ap [] [1]));let y4:=(ap (ap [] [2]) [3]);let y3:=(ap (ap [] [1]) [3]);let y2:=(ieq a0.Traps 2);let y1:=(ine a0.Post 0);let y0:=(ap (ap [] [1]) [2]);let y9:=(aS .int y0); (oN (zI a0.Traps 0 3) (cond (nB (zL a0.Traps 0 3)) (oN (few (ln (ap [] [1]))) (oN (zI a0.Post 0 255) (cond (nB (zL a0.Post 0 255)) (oN (few (ln y0)) (cond y1 (cond (nB a0.Open) (oN (few (ln (ap y0 [3]))) (cond y2 (cond y1 (oN (few (ln (ap (ap y0 [3]) [4]))) (some [(aS .int (ap (ap y0 [3]) [4]))])) (some [(aS .int (ap y0 [3]))])) (some [(aS .int (ap y0 [3]))]))) (cond y2 (cond y1 (oN (few (ln (ap y0 [4]))) (some [(aS .int (ap y0 [4]))])) (some [y9])) (some [y9]))) (cond y2 (cond y1 (oN (few (ln (ap y0 [4]))) (some [(aS .int (ap y0 [4]))])) (some [y9])) (some [y9])))) (cond y1 (cond (nB a0.Open) (oN (few (ln y3)) (cond y2 (cond y1 (oN (few (ln (ap y3 [4]))) (some [(aS .int (ap y3 [4]))])) (some [(aS .int y3)])) (some [(aS .int y3)]))) (cond y2 (cond y1 (oN (few (ln y7)) (some [(aS .int y7)])) (some [y5])) (some [y5]))) (cond y2 (cond y1 (oN (few (ln y7)) (some [(aS .int y7)])) (some [y5])) (some [y5])))))) (oN (zI a0.Post 0 255) (cond (nB (zL a0.Post 0 255)) (oN (few (ln (ap [] [2]))) (cond y1 (cond (nB a0.Open) (oN (few (ln y4)) (cond y2 (cond y1 (oN (few (ln (ap y4 [4]))) (some [(aS .int (ap y4 [4]))])) (some [(aS .int y4)])) (some [(aS .int y4)]))) (cond y2 (cond y1 (oN (few (ln y8)) (some [(aS .int y8)])) (some [y6])) (some [y6]))) (cond y2 (cond y1 (oN (few (ln y8)) (some [(aS .int y8)])) (some [y6])) (some [y6])))) (cond y1 (cond (nB a0.Open) (oN (few (ln (ap [] [3]))) (cond y2 (cond y1 (oN (few (ln (ap (ap [] [3]) [4]))) (some [(aS .int (ap (ap [] [3]) [4]))])) (some [(aS .int (ap [] [3]))])) (some [(aS .int (ap [] [3]))]))) (cond y2 (cond y1 (oN (few (ln (ap [] [4]))) (some [(aS .int (ap [] [4]))])) (some [y10])) (some [y10]))) (cond y2 (cond y1 (oN (few (ln (ap [] [4]))) (some [(aS .int (ap [] [4]))])) (some [y10])) (some [y10])))))))
theorem zJf (a0:Ctl)(hc:zqN a0=true):∃N,zyk N a0=some [aS .int (zlr a0)]:=by
 refine ⟨0,?_⟩;unfold zyk oN nB
 conv=>zeta
 refine must rfl (brN (fun _=>mu (must rfl (brN (fun _=>mu (br (fun _=>brN (fun _=>mu (br (fun _=>br (fun _=>mu ?_) (fun _=>?_)) (fun _=>?_))) (fun _=>br (fun _=>br (fun _=>mu ?_) (fun _=>?_)) (fun _=>?_))) (fun _=>br (fun _=>br (fun _=>mu ?_) (fun _=>?_)) (fun _=>?_)))) (fun _=>br (fun _=>brN (fun _=>mu (br (fun _=>br (fun _=>mu ?_) (fun _=>?_)) (fun _=>?_))) (fun _=>br (fun _=>br (fun _=>mu ?_) (fun _=>?_)) (fun _=>?_))) (fun _=>br (fun _=>br (fun _=>mu ?_) (fun _=>?_)) (fun _=>?_)))))) (fun _=>must rfl (brN (fun _=>mu (br (fun _=>brN (fun _=>mu (br (fun _=>br (fun _=>mu ?_) (fun _=>?_)) (fun _=>?_))) (fun _=>br (fun _=>br (fun _=>mu ?_) (fun _=>?_)) (fun _=>?_))) (fun _=>br (fun _=>br (fun _=>mu ?_) (fun _=>?_)) (fun _=>?_)))) (fun _=>br (fun _=>brN (fun _=>mu (br (fun _=>br (fun _=>mu ?_) (fun _=>?_)) (fun _=>?_))) (fun _=>br (fun _=>br (fun _=>mu ?_) (fun _=>?_)) (fun _=>?_))) (fun _=>br (fun _=>br (fun _=>mu ?_) (fun _=>?_)) (fun _=>?_))))))
 all_goals first|rfl|(simp only [*,zlr,zjB,cT,cF]<;>rfl)|simp_all[Ty.cells,zlr,zjB]
theorem zC0:vB 222 ztV:=kF1 zfL zq zl zn (zo []) zJf
@[simp] abbrev zqp (c:Ctl):Bool:=true
@[simp] abbrev zld (c:Ctl):List Int:=zjB c
def ztJ:Run:=rF1 dC fun b=>(zqp b,[aS .int (zld b)])
def zx8 (N:Nat)(a0:Ctl):OA:=
 let y10:=(aS .int []);let y8:=(ap (ap [] [2]) [4]);let y7:=(ap (ap [] [1]) [4]);let y6:=(aS .int (ap [] [2]));let y5:=(aS .int (ap [] [1]));let y4:=(ap (ap [] [2]) [3]);let y3:=(ap (ap [] [1]) [3]);let y2:=(ieq a0.Traps 2);let y1:=(ine a0.Post 0);let y0:=(ap (ap [] [1]) [2]);let y9:=(aS .int y0); (oN (zb7 a0.Traps 0 3) (cond (nB (zco a0.Traps 0 3)) (oN (few (ln (ap [] [1]))) (oN (zb7 a0.Post 0 255) (cond (nB (zco a0.Post 0 255)) (oN (few (ln y0)) (cond y1 (cond (nB a0.Open) (oN (few (ln (ap y0 [3]))) (cond y2 (cond y1 (oN (few (ln (ap (ap y0 [3]) [4]))) (some [(aS .int (ap (ap y0 [3]) [4]))])) (some [(aS .int (ap y0 [3]))])) (some [(aS .int (ap y0 [3]))]))) (cond y2 (cond y1 (oN (few (ln (ap y0 [4]))) (some [(aS .int (ap y0 [4]))])) (some [y9])) (some [y9]))) (cond y2 (cond y1 (oN (few (ln (ap y0 [4]))) (some [(aS .int (ap y0 [4]))])) (some [y9])) (some [y9])))) (cond y1 (cond (nB a0.Open) (oN (few (ln y3)) (cond y2 (cond y1 (oN (few (ln (ap y3 [4]))) (some [(aS .int (ap y3 [4]))])) (some [(aS .int y3)])) (some [(aS .int y3)]))) (cond y2 (cond y1 (oN (few (ln y7)) (some [(aS .int y7)])) (some [y5])) (some [y5]))) (cond y2 (cond y1 (oN (few (ln y7)) (some [(aS .int y7)])) (some [y5])) (some [y5])))))) (oN (zb7 a0.Post 0 255) (cond (nB (zco a0.Post 0 255)) (oN (few (ln (ap [] [2]))) (cond y1 (cond (nB a0.Open) (oN (few (ln y4)) (cond y2 (cond y1 (oN (few (ln (ap y4 [4]))) (some [(aS .int (ap y4 [4]))])) (some [(aS .int y4)])) (some [(aS .int y4)]))) (cond y2 (cond y1 (oN (few (ln y8)) (some [(aS .int y8)])) (some [y6])) (some [y6]))) (cond y2 (cond y1 (oN (few (ln y8)) (some [(aS .int y8)])) (some [y6])) (some [y6])))) (cond y1 (cond (nB a0.Open) (oN (few (ln (ap [] [3]))) (cond y2 (cond y1 (oN (few (ln (ap (ap [] [3]) [4]))) (some [(aS .int (ap (ap [] [3]) [4]))])) (some [(aS .int (ap [] [3]))])) (some [(aS .int (ap [] [3]))]))) (cond y2 (cond y1 (oN (few (ln (ap [] [4]))) (some [(aS .int (ap [] [4]))])) (some [y10])) (some [y10]))) (cond y2 (cond y1 (oN (few (ln (ap [] [4]))) (some [(aS .int (ap [] [4]))])) (some [y10])) (some [y10])))))))
theorem zI2 (a0:Ctl)(hc:zqp a0=true):∃N,zx8 N a0=some [aS .int (zld a0)]:=by
 refine ⟨0,?_⟩;unfold zx8 oN nB
 conv=>zeta
 refine must rfl (brN (fun _=>mu (must rfl (brN (fun _=>mu (br (fun _=>brN (fun _=>mu (br (fun _=>br (fun _=>mu ?_) (fun _=>?_)) (fun _=>?_))) (fun _=>br (fun _=>br (fun _=>mu ?_) (fun _=>?_)) (fun _=>?_))) (fun _=>br (fun _=>br (fun _=>mu ?_) (fun _=>?_)) (fun _=>?_)))) (fun _=>br (fun _=>brN (fun _=>mu (br (fun _=>br (fun _=>mu ?_) (fun _=>?_)) (fun _=>?_))) (fun _=>br (fun _=>br (fun _=>mu ?_) (fun _=>?_)) (fun _=>?_))) (fun _=>br (fun _=>br (fun _=>mu ?_) (fun _=>?_)) (fun _=>?_)))))) (fun _=>must rfl (brN (fun _=>mu (br (fun _=>brN (fun _=>mu (br (fun _=>br (fun _=>mu ?_) (fun _=>?_)) (fun _=>?_))) (fun _=>br (fun _=>br (fun _=>mu ?_) (fun _=>?_)) (fun _=>?_))) (fun _=>br (fun _=>br (fun _=>mu ?_) (fun _=>?_)) (fun _=>?_)))) (fun _=>br (fun _=>brN (fun _=>mu (br (fun _=>br (fun _=>mu ?_) (fun _=>?_)) (fun _=>?_))) (fun _=>br (fun _=>br (fun _=>mu ?_) (fun _=>?_)) (fun _=>?_))) (fun _=>br (fun _=>br (fun _=>mu ?_) (fun _=>?_)) (fun _=>?_))))))
 all_goals first|rfl|(simp only [*,zld,zjB,cT,cF]<;>rfl)|simp_all[Ty.cells,zld,zjB]
theorem zCO:vB 165 ztJ:=kF1 zfL zq zl zn (zo []) zI2
def zfW (p n:Int):Bool:=ieq (wand .i64 (zCf .i64 p n) 1) 1
def scan (p:Int):Int:=bif zfW p 7 then 7 else (cond (zfW p 6) 6 (cond (zfW p 5) 5 (cond (zfW p 4) 4 (cond (zfW p 3) 3 (cond (zfW p 2) 2 (cond (zfW p 1) 1 (cond (zfW p 0) 0 (-1))))))))
theorem z14:∀n:Fin 256,-1<=scan (n.val:Int)/\scan (n.val:Int)<=7/\(0<=scan (n.val:Int)->wsub .i64 (n.val:Int) (zn2 .i64 1 (scan (n.val:Int)))=zKs .i64 (n.val:Int) (zn2 .i64 1 (scan (n.val:Int)))):=by decide +kernel
theorem zZL {P:Int->Prop}(h:∀n:Fin 256,P (n.val:Int)){x:Int}(h0:0<=x)(h1:x<=255):P x:=by
 have:=h ⟨x.toNat,by omega⟩
 have e:((x.toNat:Nat):Int)=x:=by omega
 simpa [e] using this
def z3m:zO:=[(161,zBq),(229,zyZ),(73,zyC),(227,zBC),(72,zBh),(233,zER),(164,zEI),(231,zBs),(113,zBb),(222,ztV),(165,ztJ)]++z3l
theorem zgx:zF z3m:=zh zK1 (zh zIE (zh zIh (zh zLd (zh zKR (zh zOO (zh zOE (zh zK3 (zh zKL (zh zC0 (zh zCO zfL))))))))))
def zgN (m:List (List Int))(n:Int):Bool:=bif m.all zb6 then ieq (ln m) n else false
@[simp] abbrev zqa (m:List (List Int))(n:Int):Bool:=true
@[simp] abbrev zkQ (m:List (List Int))(n:Int):Bool:=zgN m n
def zES:Run:=rF2 (dS (.sl .int)) dI fun b c=>(zqa b c,[aB (zkQ b c)])
def zNh (N:Nat)(a0:lM)(a1:Int):OA:=
 (iter (σ:=(Int×(Int×(lM×Unit)))) N (fun r3 s4=>let y0:=s4.2.2.1; (cond (ilt s4.2.1 (ln y0)) (oN (inb s4.2.1 (ln y0)) (oN (zfo (ix y0 s4.2.1 [])) (cond (nB (zeS (ix y0 s4.2.1 []))) oF (r3 (s4.1,((zG .i64 s4.2.1 1),(y0,()))))))) (some [(aB (ieq (ln y0) s4.1))]))) (a1,(0,(a0,()))))
def zVi:FuncId->Nat->Option Tmpl:=zo [(214,0,{ n:=22,tm:=[(0,.sl 0 []),(1,ti),(5,ti)],lo:=[],ro:=[(0,(.sl .int),false)] })]
theorem zUv (a0:List (List Int))(a1:Int)(hb:zbG big [aS (.sl .int) a0,aI a1])(hc:zqa a0 a1=true):∃N,zNh N a0 a1=some [aB (zkQ a0 a1)]:=by
 have hl:(_:List _).length<=big:=((zcX hb).1 _ (qF.2 rfl)).len;refine zbP fun N hNN=>?_;unfold zNh oN nB
 conv=>zeta
 refine (zbc a0 (fun i (t:Unit)=>(a1,(i:Int),a0,())) _ (fun _ x (_:Unit) κ=>bif (zb6) x then κ () else oF) (fun (t:Unit)=>(some [(.one (.b (ieq (ln a0) a1)))])) (fun i hi t rec=>?_) (fun t rec=>?_) _ () (hNN hl)).trans ?_
 .simp only [zbf hi,zN hi,zba hi,zT hi hl,cT];exact zih rfl
 .simp only [zbd,cF]
 rw[zgl (zb6)];refine br (fun h0=>?_) (fun h0=>?_)
 .first|rfl|(simp only [h0,zkQ,zgN,cT,cF]<;>rfl)|(simp_all [Ty.cells,zkQ,zgN];done)
 .first|rfl|(simp only [h0,zkQ,zgN,cT,cF]<;>rfl)|(simp_all [Ty.cells,zkQ,zgN];done)
theorem zOP:vB 214 zES:=hF2 zgx zq zl zn zVi zUv
@[simp] abbrev zAO (m:List (List Int))(n:Int):Bool:=true
@[simp] abbrev zoo (m:List (List Int))(n:Int):Bool:=zgN m n
def zEJ:Run:=rF2 (dS (.sl .int)) dI fun b c=>(zAO b c,[aB (zoo b c)])
def zM8 (N:Nat)(a0:lM)(a1:Int):OA:=
 (iter (σ:=(Int×(Int×(Int×(lM×Unit))))) N (fun r3 s4=>let y0:=s4.2.2.2.1; (cond (ilt s4.2.2.1 s4.2.1) (oN (inb s4.2.2.1 (ln y0)) (oN (zg4 (ix y0 s4.2.2.1 [])) (cond (nB (zfM (ix y0 s4.2.2.1 []))) oF (r3 (s4.1,(s4.2.1,((zG .i64 s4.2.2.1 1),(y0,())))))))) (some [(aB (ieq (ln y0) s4.1))]))) (a1,((ln a0),(0,(a0,())))))
def zVf:FuncId->Nat->Option Tmpl:=zo [(46,0,{ n:=21,tm:=[(0,.sl 0 []),(1,ti),(7,.sl 0 []),(8,ti),(9,ti)],lo:=[],ro:=[(0,(.sl .int),false)] })]
theorem zUl (a0:List (List Int))(a1:Int)(hb:zbG big [aS (.sl .int) a0,aI a1])(hc:zAO a0 a1=true):∃N,zM8 N a0 a1=some [aB (zoo a0 a1)]:=by
 have hl:(_:List _).length<=big:=((zcX hb).1 _ (qF.2 rfl)).len;refine zbP fun N hNN=>?_;unfold zM8 oN nB
 conv=>zeta
 refine (zbc a0 (fun i (t:Unit)=>(a1,(ln a0),(i:Int),a0,())) _ (fun _ x (_:Unit) κ=>bif (zb6) x then κ () else oF) (fun (t:Unit)=>(some [(.one (.b (ieq (ln a0) a1)))])) (fun i hi t rec=>?_) (fun t rec=>?_) _ () (hNN hl)).trans ?_
 .simp only [zbf hi,zN hi,zba hi,zT hi hl,cT];exact zih rfl
 .simp only [zbd,cF]
 rw[zgl (zb6)];refine br (fun h0=>?_) (fun h0=>?_)
 .first|rfl|(simp only [h0,zoo,zgN,cT,cF]<;>rfl)|(simp_all [Ty.cells,zoo,zgN];done)
 .first|rfl|(simp only [h0,zoo,zgN,cT,cF]<;>rfl)|(simp_all [Ty.cells,zoo,zgN];done)
theorem zOF:vB 46 zEJ:=hF2 zgx zq zl zn zVf zUl
def zcR (p:List Ins):Bool:=bif p.all zdr then win (ln p) 1 12 else false
@[simp] abbrev zxR (p:List Ins):Bool:=true
@[simp] abbrev zmb (p:List Ins):Bool:=zcR p
def zBE:Run:=rF1 (dS .ins) fun b=>(zxR b,[aB (zmb b)])
def zHt (N:Nat)(a0:lI):OA:=
 (iter (σ:=(Int×(lI×Unit))) N (fun r2 s3=>let y0:=(ix s3.2.1 s3.1 zn3); (cond (ilt s3.1 (ln s3.2.1)) (oN (inb s3.1 (ln s3.2.1)) (oN (zBY y0) (cond (nB (zwF y0)) oF (r2 ((zG .i64 s3.1 1),(s3.2.1,())))))) (oN (zI (ln s3.2.1) 1 12) (some [(aB (zL (ln s3.2.1) 1 12))])))) (0,(a0,())))
def zTJ:FuncId->Nat->Option Tmpl:=zo [(230,0,{ n:=19,tm:=[(0,.sl 0 []),(3,ti)],lo:=[],ro:=[(0,.ins,false)] })]
theorem zSb (a0:List Ins)(hb:zbG big [aS .ins a0])(hc:zxR a0=true):∃N,zHt N a0=some [aB (zmb a0)]:=by
 have hl:(_:List _).length<=big:=((zcX hb).1 _ (qF.2 rfl)).len;refine zbP fun N hNN=>?_;unfold zHt oN nB
 conv=>zeta
 refine (zbc a0 (fun i (t:Unit)=>((i:Int),a0,())) _ (fun _ x (_:Unit) κ=>bif (zdr) x then κ () else oF) (fun (t:Unit)=>(cond (zI (ln a0) 1 12) (some [(.one (.b (zL (ln a0) 1 12)))]) none)) (fun i hi t rec=>?_) (fun t rec=>?_) _ () (hNN hl)).trans ?_
 .simp only [zbf hi,zN hi,zba hi,zT hi hl,cT];exact zih rfl
 .simp only [zbd,cF]
 rw[zgl (zdr)];refine br (fun h0=>?_) (fun h0=>?_)
 .refine must rfl ?_
  first|rfl|(simp only [h0,zmb,zcR,cT,cF]<;>rfl)|(simp_all [Ty.cells,zmb,zcR];done)
 .first|rfl|(simp only [h0,zmb,zcR,cT,cF]<;>rfl)|(simp_all [Ty.cells,zmb,zcR];done)
theorem zLf:vB 230 zBE:=hF1 zgx zq zl zn zTJ zSb
@[simp] abbrev zxo (p:List Ins):Bool:=true
@[simp] abbrev zl1 (p:List Ins):Bool:=zcR p
def zBj:Run:=rF1 (dS .ins) fun b=>(zxo b,[aB (zl1 b)])
def zG8 (N:Nat)(a0:lI):OA:=
 (iter (σ:=(Int×(Int×(lI×Unit)))) N (fun r2 s3=>let y0:=(ix s3.2.2.1 s3.2.1 zn3); (cond (ilt s3.2.1 s3.1) (oN (inb s3.2.1 (ln s3.2.2.1)) (oN (zAN y0) (cond (nB (zvN y0)) oF (r2 (s3.1,((zG .i64 s3.2.1 1),(s3.2.2.1,()))))))) (oN (zb7 (ln s3.2.2.1) 1 12) (some [(aB (zco (ln s3.2.2.1) 1 12))])))) ((ln a0),(0,(a0,()))))
def zTB:FuncId->Nat->Option Tmpl:=zo [(111,0,{ n:=18,tm:=[(0,.sl 0 []),(5,.sl 0 []),(6,ti),(7,ti)],lo:=[],ro:=[(0,.ins,false)] })]
theorem zRO (a0:List Ins)(hb:zbG big [aS .ins a0])(hc:zxo a0=true):∃N,zG8 N a0=some [aB (zl1 a0)]:=by
 have hl:(_:List _).length<=big:=((zcX hb).1 _ (qF.2 rfl)).len;refine zbP fun N hNN=>?_;unfold zG8 oN nB
 conv=>zeta
 refine (zbc a0 (fun i (t:Unit)=>((ln a0),(i:Int),a0,())) _ (fun _ x (_:Unit) κ=>bif (zdr) x then κ () else oF) (fun (t:Unit)=>(cond (zb7 (ln a0) 1 12) (some [(.one (.b (zco (ln a0) 1 12)))]) none)) (fun i hi t rec=>?_) (fun t rec=>?_) _ () (hNN hl)).trans ?_
 .simp only [zbf hi,zN hi,zba hi,zT hi hl,cT];exact zih rfl
 .simp only [zbd,cF]
 rw[zgl (zdr)];refine br (fun h0=>?_) (fun h0=>?_)
 .refine must rfl ?_
  first|rfl|(simp only [h0,zl1,zcR,cT,cF]<;>rfl)|(simp_all [Ty.cells,zl1,zcR];done)
 .first|rfl|(simp only [h0,zl1,zcR,cT,cF]<;>rfl)|(simp_all [Ty.cells,zl1,zcR];done)
theorem zKT:vB 111 zBj:=hF1 zgx zq zl zn zTB zRO
def zgL (c:Ctl):Bool:=ieq (ln (zjB c)) 0
@[simp] abbrev zp8 (c:Ctl):Bool:=true
@[simp] abbrev zoK (c:Ctl):Bool:=zgL c
def zEO:Run:=rF1 dC fun b=>(zp8 b,[aB (zoK b)])
def zNd (N:Nat)(a0:Ctl):OA:=
 (oN (zqN a0) (some [(aB (ieq (ln (zlr a0)) 0))]))
theorem zUr (a0:Ctl)(hc:zp8 a0=true):∃N,zNd N a0=some [aB (zoK a0)]:=by
 refine ⟨0,?_⟩;unfold zNd oN;refine must rfl ?_
 first|rfl|(simp only [*,zoK,zgL,cT,cF]<;>rfl)|simp_all[Ty.cells,zoK,zgL]
theorem zOL:vB 199 zEO:=kF1 zgx zq zl zn (zo []) zUr
@[simp] abbrev zAK (c:Ctl):Bool:=true
@[simp] abbrev zvM (c:Ctl):Bool:=zgL c
def zEG:Run:=rF1 dC fun b=>(zAK b,[aB (zvM b)])
def zM5 (N:Nat)(a0:Ctl):OA:=
 (oN (zqp a0) (some [(aB (ieq (ln (zld a0)) 0))]))
theorem zUi (a0:Ctl)(hc:zAK a0=true):∃N,zM5 N a0=some [aB (zvM a0)]:=by
 refine ⟨0,?_⟩;unfold zM5 oN;refine must rfl ?_
 first|rfl|(simp only [*,zvM,zgL,cT,cF]<;>rfl)|simp_all[Ty.cells,zvM,zgL]
theorem zOC:vB 112 zEG:=kF1 zgx zq zl zn (zo []) zUi
def zdq (p:Int):Int:=bif zcK p then scan p else -1
theorem zWr {x:Int}(h0:0<=x)(h1:x<=255):wcv .u64 x=x:=zZL (P:=fun x=>wcv .u64 x=x) (by decide +kernel) h0 h1
@[simp] abbrev zrt (p:Int):Bool:=true
@[simp] abbrev zmd (p:Int):Int:=zdq p
def zBJ:Run:=rF1 dI fun b=>(zrt b,[aI (zmd b)])
def zHy (N:Nat)(a0:Int):OA:=
 (iter (σ:=(Int×(Int×Unit))) N (fun r2 s3=>(cond (ige s3.2.1 0) (oN (zeU s3.1) (cond (zeT s3.1) (oN (ile 0 (wcv .u64 s3.2.1)) (cond (ieq (wand .i64 (zCf .i64 s3.1 (wcv .u64 s3.2.1)) 1) 1) (some [(aI s3.2.1)]) (r2 (s3.1,((wsub .i64 s3.2.1 1),()))))) (some [(aI (-1))]))) (some [(aI (-1))]))) (a0,(7,())))
def zTL:FuncId->Nat->Option Tmpl:=zo [(217,0,{ n:=19,tm:=[(0,ti),(3,ti)],lo:=[],ro:=[] })]
theorem zSg (a0:Int)(hc:zrt a0=true):∃N,zHy N a0=some [aI (zmd a0)]:=by
 refine ⟨10,?_⟩;unfold zHy oN;cases h:zcK a0
 .rw [zc8];refine must rfl ?_;refine must rfl ?_;refine zcT h ?_;simp[zdq,h]
 .have hs:zeT a0=true:=h;rw[zc8];refine must rfl (must rfl (must hs (must rfl (br (fun h7=>?_) (fun h7=>?_)))))
  .have e7:zfW a0 7=true:=h7;simp[zdq,h,scan,e7]
  have f7:zfW a0 7=false:=h7
  show iter 9 _ (a0,6,())=_
  rw[zc8];refine must rfl (must rfl (must hs (must rfl (br (fun h6=>?_) (fun h6=>?_)))))
  .have e6:zfW a0 6=true:=h6;simp[zdq,h,scan,e6,f7]
  have f6:zfW a0 6=false:=h6
  show iter 8 _ (a0,5,())=_
  rw[zc8];refine must rfl (must rfl (must hs (must rfl (br (fun h5=>?_) (fun h5=>?_)))))
  .have e5:zfW a0 5=true:=h5;simp[zdq,h,scan,e5,f7,f6]
  have f5:zfW a0 5=false:=h5
  show iter 7 _ (a0,4,())=_
  rw[zc8];refine must rfl (must rfl (must hs (must rfl (br (fun h4=>?_) (fun h4=>?_)))))
  .have e4:zfW a0 4=true:=h4;simp[zdq,h,scan,e4,f7,f6,f5]
  have f4:zfW a0 4=false:=h4
  show iter 6 _ (a0,3,())=_
  rw[zc8];refine must rfl (must rfl (must hs (must rfl (br (fun h3=>?_) (fun h3=>?_)))))
  .have e3:zfW a0 3=true:=h3;simp[zdq,h,scan,e3,f7,f6,f5,f4]
  have f3:zfW a0 3=false:=h3
  show iter 5 _ (a0,2,())=_
  rw[zc8];refine must rfl (must rfl (must hs (must rfl (br (fun h2=>?_) (fun h2=>?_)))))
  .have e2:zfW a0 2=true:=h2;simp[zdq,h,scan,e2,f7,f6,f5,f4,f3]
  have f2:zfW a0 2=false:=h2
  show iter 4 _ (a0,1,())=_
  rw[zc8];refine must rfl (must rfl (must hs (must rfl (br (fun h1=>?_) (fun h1=>?_)))))
  .have e1:zfW a0 1=true:=h1;simp[zdq,h,scan,e1,f7,f6,f5,f4,f3,f2]
  have f1:zfW a0 1=false:=h1
  show iter 3 _ (a0,0,())=_
  rw[zc8];refine must rfl (must rfl (must hs (must rfl (br (fun h0=>?_) (fun h0=>?_)))))
  .have e0:zfW a0 0=true:=h0;simp[zdq,h,scan,e0,f7,f6,f5,f4,f3,f2,f1]
  have f0:zfW a0 0=false:=h0
  show iter 2 _ (a0,-1,())=_
  rw[zc8];refine zcT rfl ?_;simp[zdq,h,scan,f7,f6,f5,f4,f3,f2,f1,f0]
theorem zLk:vB 217 zBJ:=kF1 zgx zq zl zn zTL zSg
@[simp] abbrev zht (l:List (List Int)):Bool:=pc (SmM l)
@[simp] abbrev ze6 (l:List (List Int)):List (List Int):=l
def zyD:Run:=rF1 (dS (.sl .int)) fun b=>(zht b,[aS (.sl .int) (ze6 b)])
def zDJ (N:Nat)(a0:lM):OA:=
 (iter (σ:=(Int×(Int×(lM×(lM×Unit))))) N (fun r2 s3=>let y0:=(ix s3.2.2.2.1 s3.2.1 []); (cond (ilt s3.2.1 s3.1) (oN (inb s3.2.1 (ln s3.2.2.2.1)) (oN (zdp y0) (oN (few (ln (ap s3.2.2.1 [(zdm y0)]))) (r2 (s3.1,((zG .i64 s3.2.1 1),((ap s3.2.2.1 [(zdm y0)]),(s3.2.2.2.1,())))))))) (some [(aS (.sl .int) s3.2.2.1)]))) ((ln a0),(0,([],(a0,())))))
def zPW:FuncId->Nat->Option Tmpl:=zo [(44,0,{ n:=20,tm:=[(3,.sl 0 []),(7,.sl 1 []),(8,ti),(9,ti)],lo:=[],ro:=[(0,(.sl .int),true),(1,(.sl .int),false)] })]
theorem zO5 (a0:List (List Int))(hc:zht a0=true):∃N,zDJ N a0=some [aS (.sl .int) (ze6 a0)]:=by
 have hs:=zD.1 hc;have hl:=zcb hs.1;refine zbP fun N hNN=>?_;unfold zDJ oN
 conv=>zeta
 refine (zbc a0 (fun i (t:lM)=>((ln a0),(i:Int),t,a0,())) _ (fun _ x acc κ=>bif zdp x then (cond (few (ln (ap acc [zdm x]))) (κ (ap acc [zdm x])) none) else none) (fun (t:lM)=>(some [(.one (.s (.sl .int) t))])) (fun i hi t rec=>?_) (fun t rec=>?_) _ ([]) (hNN hl.1)).trans ?_
 .simp only [zbf hi,zN hi,zba hi,zT hi hl.1,cT]
 .simp only [zbd,cF]
 exact zii zdp zdm _ a0 0 [] (fun x hx=>⟨by exact zW (jB (hs.2 x hx) (by decide)),rfl⟩) (by simpa using hl.2)
theorem zIi:vB 44 zyD:=kF1 zgx zq zl zn zPW zO5
@[simp] abbrev ziO (g:Guest):Bool:=pc (SmG g)
@[simp] abbrev zfm (g:Guest):Guest:=g
def ztM:Run:=rF1 (dT .guest) fun b=>(ziO b,[aT .guest (zfm b)])
def zyb (N:Nat)(a0:Guest):OA:=
 (oN (zsf a0.Prog) (oN (zfN a0.Written) (oN (zfN a0.Live) (oN (zdp a0.Seen) (some [(aT .guest ({ a0 with Prog:=(zm5 a0.Prog),Written:=(zey a0.Written),Live:=(zey a0.Live),Seen:=(zdm a0.Seen) }:Guest))])))))
theorem zI5 (a0:Guest)(hc:ziO a0=true):∃N,zyb N a0=some [aT .guest (zfm a0)]:=by
 have hs:=zD.1 hc;obtain ⟨h1,h2,h3,h4⟩:=hs;have hs1:a0.Prog.length<=2147483648:=(by omega);have hs2:a0.Written.length<=2147483648:=(by omega);have hs3:a0.Live.length<=2147483648:=(by omega);have hs4:a0.Seen.length<=2147483648:=(by omega)
 refine ⟨0,?_⟩;unfold zyb oN;refine mu (mu (mu (mu ?_)))
 first|rfl|(simp only [*,zfm,cT,cF]<;>rfl)|simp_all[Ty.cells,zfm]
theorem zCR:vB 109 ztM:=kF1 zgx zq zl zn (zo []) zI5
def ze0 (t:List Slot)(p n:Int):Bool:=bif ieq (zbl t p).Page (-1) then false else (cond (enough (zbl t p).Rights n) (win n 1 3) false)
def zck (t:List Slot)(p n:Int):Int:=bif ze0 t p n then (zbl t p).Page else -1
theorem z1T {r:Int}(h:zcE r=true):0<=r/\r<=3:=zfQ.1 h
theorem zWW {a n:Int}(h:enough a n=true):win n 1 3 = !ieq n 0:=by
 unfold enough at h;cases h1:zcE a
 .rw [h1]at h;cases h
 .cases h2:zcE n
  .rw [h1,h2]at h;cases h
  .have:=z1T h2;have e:(win n 1 3=true)↔(!ieq n 0)=true:=by
    rw[zfQ];simp[ieq];omega
   cases h3:win n 1 3<;>cases h4:(!ieq n 0)<;>simp_all
@[simp] abbrev zqQ (t:List Slot)(p n:Int):Bool:=true
@[simp] abbrev ziV (t:List Slot)(p n:Int):Int:=zck t p n
@[simp] abbrev ziW (t:List Slot)(p n:Int):Bool:=ze0 t p n
def zt4:Run:=rF3 (dS .slot) dI dI fun b c d=>(zqQ b c d,[aI (ziV b c d),aB (ziW b c d)])
def zyt (N:Nat)(a0:lS)(a1 a2:Int):OA:=
 let y0:=(zgJ a0 a1); (oN (ziC a0 a1) (cond (ieq y0.Page (-1)) (some [(aI (-1)),(aB false)]) (oN (zfZ y0.Rights a2) (cond (nB (zgI y0.Rights a2)) (some [(aI (-1)),(aB false)]) (cond (ieq a2 0) (some [(aI (-1)),(aB false)]) (some [(aI y0.Page),(aB true)]))))))
theorem zJo (a0:List Slot)(a1 a2:Int)(hc:zqQ a0 a1 a2=true):∃N,zyt N a0 a1 a2=some [aI (ziV a0 a1 a2),aB (ziW a0 a1 a2)]:=by
 have he:=@zWW (zbl a0 a1).Rights a2;refine ⟨0,?_⟩;unfold zyt oN nB
 conv=>zeta
 refine must rfl (br (fun _=>?_) (fun _=>must rfl (brN (fun _=>?_) (fun _=>br (fun _=>?_) (fun _=>?_)))))
 all_goals first|rfl|(simp only [*,ziV,ziW,zck,ze0,cT,cF]<;>rfl)|simp_all[Ty.cells,ziV,ziW,zck,ze0]
theorem zC9:vB 203 zt4:=kF3 zgx zq zl zn (zo []) zJo
def z3n:zO:=[(44,zyD),(109,ztM),(203,zt4),(214,zES),(46,zEJ),(230,zBE),(111,zBj),(199,zEO),(112,zEG),(217,zBJ)]++z3m
theorem zlW:zF z3n:=zh zIi (zh zCR (zh zC9 (zh zOP (zh zOF (zh zLf (zh zKT (zh zOL (zh zOC (zh zLk zgx)))))))))
@[simp] abbrev zh3 (m:List (List Int))(p c v:Int):Bool:=pc (SmM m)
@[simp] abbrev ziD (m:List (List Int))(p c v:Int):List (List Int):=zbx m p c v
def zww:Run:=rF4 (dS (.sl .int)) dI dI dI fun b c d e=>(zh3 b c d e,[aS (.sl .int) (ziD b c d e)])
def zz2 (N:Nat)(a0:lM)(a1 a2 a3:Int):OA:=
 let y0:=(zd3 a0); (oN (zfp a0) (oN (zru a0 a1 a2) (cond (zoR a0 a1 a2) (oN (zI a3 0 99) (cond (zL a3 0 99) (oN (inb a1 (ln y0)) (oN (inb a2 (ln (ix y0 a1 []))) (share (up y0 a1 (up (ix y0 a1 []) a2 a3)) (fun x5=>(some [(aS (.sl .int) x5)]))))) (some [(aS (.sl .int) y0)]))) (some [(aS (.sl .int) y0)]))))
theorem zL9 (a0:List (List Int))(a1 a2 a3:Int)(hc:zh3 a0 a1 a2 a3=true):∃N,zz2 N a0 a1 a2 a3=some [aS (.sl .int) (ziD a0 a1 a2 a3)]:=by
 have hs:=zD.1 hc;have hm:=(zxA a0 a1 a2).1
 refine ⟨0,?_⟩;unfold zz2 oN
 conv=>zeta
 refine mu (must rfl (br (fun _=>must rfl (br (fun _=>mu (mu (shr ?_))) (fun _=>?_))) (fun _=>?_)))
 all_goals first|rfl|(simp only [*,ziD,zbx,cT,cF]<;>rfl)|simp_all[Ty.cells,ziD,zbx]
theorem zF8:vB 155 zww:=kF4 zlW zq zl zn (zo []) zL9
def zhD (g:Guest):Bool:=bif canRun g then (cond g.Ctl.Open (ige (zdq g.Pending) 0) false) else false
@[simp] abbrev znS (g:Guest):Bool:=true
@[simp] abbrev zkS (g:Guest):Bool:=zhD g
def zwv:Run:=rF1 (dT .guest) fun b=>(znS b,[aB (zkS b)])
def zz1 (N:Nat)(a0:Guest):OA:=
 (oN (zrj a0) (cond (zoI a0) (cond a0.Ctl.Open (oN (zrt a0.Pending) (some [(aB (ige (zmd a0.Pending) 0))])) oF) oF))
theorem zL8 (a0:Guest)(hc:znS a0=true):∃N,zz1 N a0=some [aB (zkS a0)]:=by
 refine ⟨0,?_⟩;unfold zz1 oN;refine must rfl (br (fun _=>br (fun _=>must rfl ?_) (fun _=>?_)) (fun _=>?_))
 all_goals first|rfl|(simp only [*,zkS,zhD,cT,cF]<;>rfl)|simp_all[Ty.cells,zkS,zhD]
theorem zF7:vB 178 zwv:=kF1 zlW zq zl zn (zo []) zL8
def zi6 (p:Int):Int:=bif ilt (zdq p) 0 then p else wsub .i64 p (zn2 .i64 1 (zdq p))
def zsh (p:Int):Int:=bif ilt (zdq p) 0 then -1 else zdq p
theorem z0u {p:Int}(h:ilt (zdq p) 0=false):wcv .u64 (zdq p)=zdq p/\ile 0 (zdq p)=true/\zKs .i64 p (zn2 .i64 1 (zdq p))=wsub .i64 p (zn2 .i64 1 (zdq p)):=by
 unfold zdq at *;cases h1:zcK p
 .rw [h1]at h;cases h
 .simp only [h1,cT]at h ⊢;obtain ⟨h0,h2⟩:=zfQ.1 h1;have r:=zZL (P:=fun x=>-1<=scan x/\scan x<=7/\(0<=scan x->wsub .i64 x (zn2 .i64 1 (scan x))=zKs .i64 x (zn2 .i64 1 (scan x)))) z14 h0 h2;have h3:0<=scan p:=by
   unfold ilt at h;have:=jV h;omega
  exact ⟨zWr h3 (by omega),qI h3,(r.2.2 h3).symm⟩
@[simp] abbrev zpF (p:Int):Bool:=true
@[simp] abbrev zjg (p:Int):Int:=zi6 p
@[simp] abbrev zjh (p:Int):Int:=zsh p
@[simp] abbrev zlz (p:Int):Bool:=!ilt (zdq p) 0
def zy0:Run:=rF1 dI fun b=>(zpF b,[aI (zjg b),aI (zjh b),aB (zlz b)])
def zD9 (N:Nat)(a0:Int):OA:=
 (oN (zrt a0) (cond (ilt (zmd a0) 0) (some [(aI a0),(aI (-1)),(aB false)]) (oN (ile 0 (wcv .u64 (zmd a0))) (some [(aI (wsub .i64 a0 (zn2 .i64 1 (wcv .u64 (zmd a0))))),(aI (zmd a0)),(aB true)]))))
theorem zPw (a0:Int)(hc:zpF a0=true):∃N,zD9 N a0=some [aI (zjg a0),aI (zjh a0),aB (zlz a0)]:=by
 have ht:=@z0u a0;refine ⟨0,?_⟩;unfold zD9 oN;refine must rfl (br (fun _=>?_) (fun _=>mu ?_))
 all_goals first|rfl|(simp only [*,zjg,zjh,zlz,zi6,zsh,cT,cF]<;>rfl)|simp_all[Ty.cells,zjg,zjh,zlz,zi6,zsh]
theorem zIF:vB 181 zy0:=kF1 zlW zq zl zn (zo []) zPw
def saw (g:Guest)(n:Int):Guest:=bif ilt (ln g.Seen) 40 then { g with Seen:=ap g.Seen [n] } else g
@[simp] theorem zMA {g:Guest}(n:Int)(h:SmG g):SmG (saw g n):=by
 unfold saw;cases h1:ilt (ln g.Seen) 40
 .exact h
 .have:=qE h1;refine ⟨h.1,h.2.1,h.2.2.1,?_⟩;simp[ln] at *;omega
@[simp] abbrev zCG (g:Guest)(n:Int):Bool:=pc (SmG g)
@[simp] abbrev zxT (g:Guest)(n:Int):Guest:=saw g n
def zOl:Run:=rF2 (dT .guest) dI fun b c=>(zCG b c,[aT .guest (zxT b c)])
def zVr (N:Nat)(a0:Guest)(a1:Int):OA:=
 (oN (zc2 a0) (cond (ilt (ln (zcI a0).Seen) 40) (oN (few (ln (ap (zcI a0).Seen [a1]))) (some [(aT .guest ({ (zcI a0) with Seen:=(ap (zcI a0).Seen [a1]) }:Guest))])) (some [(aT .guest (zcI a0))])))
theorem zZy (a0:Guest)(a1:Int)(hc:zCG a0 a1=true):∃N,zVr N a0 a1=some [aT .guest (zxT a0 a1)]:=by
 have hs:=zD.1 hc;have hz:a0.Seen.length<=1048576:=hs.2.2.2
 refine ⟨0,?_⟩;unfold zVr oN;refine mu (br (fun _=>mu ?_) (fun _=>?_))
 all_goals first|rfl|(simp only [*,zxT,saw,cT,cF]<;>rfl)|simp_all[Ty.cells,zxT,saw]
theorem zUh:vB 182 zOl:=kF2 zlW zq zl zn (zo []) zZy
def stopped (g:Guest)(e:GExit):Guest:={ g with Exit:=e }
@[simp] theorem z6P {g:Guest}(e:GExit)(h:SmG g):SmG (stopped g e):=h
@[simp] abbrev zdQ (g:Guest)(e:GExit):Bool:=pc (SmG g)
@[simp] abbrev zdh (g:Guest)(e:GExit):Guest:=stopped g e
def zyY:Run:=rF2 (dT .guest) dE fun b c=>(zdQ b c,[aT .guest (zdh b c)])
def zD7 (N:Nat)(a0:Guest)(a1:GExit):OA:=
 (oN (zc2 a0) (some [(aT .guest ({ (zcI a0) with Exit:=a1 }:Guest))]))
theorem zPu (a0:Guest)(a1:GExit)(hc:zdQ a0 a1=true):∃N,zD7 N a0 a1=some [aT .guest (zdh a0 a1)]:=by
 have hs:=zD.1 hc;refine ⟨0,?_⟩;unfold zD7 oN;refine mu ?_
 first|rfl|(simp only [*,zdh,stopped,cT,cF]<;>rfl)|simp_all[Ty.cells,zdh,stopped]
theorem zID:vB 186 zyY:=kF2 zlW zq zl zn (zo []) zPu
def zbW (g:Guest):Guest:=bif ige g.Pc 12 then { g with Pc:=12 } else { g with Pc:=zG .i64 g.Pc 1 }
@[simp] theorem zkc {g:Guest}(h:SmG g):SmG (zbW g):=by
 unfold zbW;cases ige g.Pc 12<;>exact h
@[simp] abbrev zdL (g:Guest):Bool:=pc (SmG g)
@[simp] abbrev zfH (g:Guest):Guest:=zbW g
def zEU:Run:=rF1 (dT .guest) fun b=>(zdL b,[aT .guest (zfH b)])
def zNk (N:Nat)(a0:Guest):OA:=
 (oN (zc2 a0) (cond (ige (zcI a0).Pc 12) (some [(aT .guest ({ (zcI a0) with Pc:=12 }:Guest))]) (some [(aT .guest ({ (zcI a0) with Pc:=(zG .i64 (zcI a0).Pc 1) }:Guest))])))
theorem zUy (a0:Guest)(hc:zdL a0=true):∃N,zNk N a0=some [aT .guest (zfH a0)]:=by
 have hs:=zD.1 hc;refine ⟨0,?_⟩;unfold zNk oN;refine mu (br (fun _=>?_) (fun _=>?_))
 all_goals first|rfl|(simp only [*,zfH,zbW,cT,cF]<;>rfl)|simp_all[Ty.cells,zfH,zbW]
theorem zOR:vB 183 zEU:=kF1 zlW zq zl zn (zo []) zUy
def z3o:zO:=[(155,zww),(178,zwv),(181,zy0),(182,zOl),(186,zyY),(183,zEU)]++z3n
theorem zik:zF z3o:=zh zF8 (zh zF7 (zh zIF (zh zUh (zh zID (zh zOR zlW)))))
def interrupted (g:Guest):Guest:=bif zhD g then saw { g with Pending:=zi6 g.Pending } (zG .i64 100 (zsh g.Pending)) else g
@[simp] theorem zWb {g:Guest}(h:SmG g):SmG (interrupted g):=by
 unfold interrupted;cases zhD g
 .exact h
 .exact zMA (g:={ g with Pending:=zi6 g.Pending }) _ h
@[simp] abbrev znJ (g:Guest):Bool:=pc (SmG g)
@[simp] abbrev ziT (g:Guest):Guest:=interrupted g
def zq2:Run:=rF1 (dT .guest) fun b=>(znJ b,[aT .guest (ziT b)])
def zth (N:Nat)(a0:Guest):OA:=
 let y1:=(zG .i64 100 (zjh a0.Pending));let y0:=({ a0 with Pending:=(zjg a0.Pending) }:Guest); (oN (znS a0) (cond (nB (zkS a0)) (oN (zc2 a0) (some [(aT .guest (zcI a0))])) (oN (zpF a0.Pending) (oN (zCG y0 y1) (some [(aT .guest (zxT y0 y1))])))))
theorem zDt (a0:Guest)(hc:znJ a0=true):∃N,zth N a0=some [aT .guest (ziT a0)]:=by
 have hs:=zD.1 hc;have hz:_/\_/\_/\_:=hs
 refine ⟨0,?_⟩;unfold zth oN nB
 conv=>zeta
 refine must rfl (brN (fun _=>mu ?_) (fun _=>must rfl (mu ?_)))
 all_goals first|rfl|(simp only [*,ziT,interrupted,cT,cF]<;>rfl)|simp_all[Ty.cells,ziT,interrupted]
theorem zzs:vB 137 zq2:=kF1 zik zq zl zn (zo []) zDt
def zvV (o:Int):Int:=bif ieq o 3 then 3 else (cond (ieq o 4) 4 (cond (ieq o 5) 5 (cond (ieq o 6) 6 (cond (ieq o 7) 7 2))))
def zS (g:Guest):Int:=bif canRun g then (cond (zhD g) 1 (zvV (zb9 g.Prog g.Pc).Op)) else 0
@[simp] abbrev zej (g:Guest):Bool:=true
@[simp] abbrev zme (g:Guest):Int:=zS g
def zBL:Run:=rF1 (dT .guest) fun b=>(zej b,[aI (zme b)])
def zHA (N:Nat)(a0:Guest):OA:=
 let y0:=(zfj a0.Prog a0.Pc).Op; (oN (zrj a0) (cond (nB (zoI a0)) (some [(aI 0)]) (oN (znS a0) (cond (zkS a0) (some [(aI 1)]) (oN (ze9 a0.Prog a0.Pc) (cond (ieq y0 3) (some [(aI 3)]) (cond (ieq y0 4) (some [(aI 4)]) (cond (ieq y0 5) (some [(aI 5)]) (cond (ieq y0 6) (some [(aI 6)]) (cond (ieq y0 7) (some [(aI 7)]) (some [(aI 2)])))))))))))
theorem zSi (a0:Guest)(hc:zej a0=true):∃N,zHA N a0=some [aI (zme a0)]:=by
 refine ⟨0,?_⟩;unfold zHA oN nB
 conv=>zeta
 refine must rfl (brN (fun _=>?_) (fun _=>must rfl (br (fun _=>?_) (fun _=>must rfl (br (fun _=>?_) (fun _=>br (fun _=>?_) (fun _=>br (fun _=>?_) (fun _=>br (fun _=>?_) (fun _=>br (fun _=>?_) (fun _=>?_))))))))))
 all_goals first|rfl|(simp only [*,zme,zS,zvV,cT,cF]<;>rfl)|simp_all[Ty.cells,zme,zS,zvV]
theorem zb4:vB 136 zBL:=kF1 zik zq zl zn (zo []) zSi
def held (g:Guest):Guest:=zbW { g with Halted:=true }
@[simp] theorem zTh {g:Guest}(h:SmG g):SmG (held g):=zkc (g:={ g with Halted:=true }) h
@[simp] abbrev zl9 (g:Guest):Bool:=pc (SmG g)
@[simp] abbrev zwE (g:Guest):Guest:=held g
def zJP:Run:=rF1 (dT .guest) fun b=>(zl9 b,[aT .guest (zwE b)])
def zQs (N:Nat)(a0:Guest):OA:=
 let y0:=({ a0 with Halted:=true }:Guest); (oN (zdL y0) (some [(aT .guest (zfH y0))]))
theorem zXp (a0:Guest)(hc:zl9 a0=true):∃N,zQs N a0=some [aT .guest (zwE a0)]:=by
 have hs:=zD.1 hc;have hz:_/\_/\_/\_:=hs
 refine ⟨0,?_⟩;unfold zQs oN
 conv=>zeta
 refine mu ?_
 first|rfl|(simp only [*,zwE,held,cT,cF]<;>rfl)|simp_all[Ty.cells,zwE,held]
theorem zRq:vB 197 zJP:=kF1 zik zq zl zn (zo []) zXp
@[simp] abbrev zxU (g:Guest):Bool:=pc (SmG g)
@[simp] abbrev zsU (g:Guest):Guest:=zbW g
def zBI:Run:=rF1 (dT .guest) fun b=>(zxU b,[aT .guest (zsU b)])
def zHx (N:Nat)(a0:Guest):OA:=
 (oN (zdL a0) (some [(aT .guest (zfH a0))]))
theorem zSf (a0:Guest)(hc:zxU a0=true):∃N,zHx N a0=some [aT .guest (zsU a0)]:=by
 have hs:=zD.1 hc;refine ⟨0,?_⟩;unfold zHx oN;refine mu ?_
 first|rfl|(simp only [*,zsU,cT,cF]<;>rfl)|simp_all[Ty.cells,zsU]
theorem zLj:vB 188 zBI:=kF1 zik zq zl zn (zo []) zSf
def loaded (g:Guest)(v:Int):Guest:=zbW (saw { g with A:=v } v)
@[simp] theorem zJ1 {g:Guest}(v:Int)(h:SmG g):SmG (loaded g v):=zkc (zMA (g:={ g with A:=v }) v h)
@[simp] abbrev zxN (g:Guest)(v:Int):Bool:=pc (SmG g)
@[simp] abbrev zsP (g:Guest)(v:Int):Guest:=loaded g v
def zBw:Run:=rF2 (dT .guest) dI fun b c=>(zxN b c,[aT .guest (zsP b c)])
def zHl (N:Nat)(a0:Guest)(a1:Int):OA:=
 let y0:=({ a0 with A:=a1 }:Guest); (oN (zCG y0 a1) (oN (zdL (zxT y0 a1)) (some [(aT .guest (zfH (zxT y0 a1)))])))
theorem zR1 (a0:Guest)(a1:Int)(hc:zxN a0 a1=true):∃N,zHl N a0 a1=some [aT .guest (zsP a0 a1)]:=by
 have hs:=zD.1 hc;have hz:_/\_/\_/\_:=hs;have hk:SmG (saw { a0 with A:=a1 } a1):=zMA (g:={ a0 with A:=a1 }) a1 hs
 refine ⟨0,?_⟩;unfold zHl oN
 conv=>zeta
 refine mu (mu ?_)
 first|rfl|(simp only [*,zsP,loaded,cT,cF]<;>rfl)|simp_all[Ty.cells,zsP,loaded]
theorem zK7:vB 189 zBw:=kF2 zik zq zl zn (zo []) zR1
def zWn (g:Guest)(w:Int):Guest:=bif ieq w 5 then stopped g (zvW (zb9 g.Prog g.Pc).X) else stopped g ⟨4,0,false,0⟩
@[simp] theorem z6Q {g:Guest}(w:Int)(h:SmG g):SmG (zWn g w):=by
 unfold zWn;cases ieq w 5<;>exact h
def zcW (g:Guest):Bool:=zcR g.Prog&&(win g.A 0 99&&(win g.Pc 0 12&&(zcv g.Written 4 8&&(zcv g.Live 4 8&&(zgL g.Ctl&&(zcK g.Pending&&(zgz g.Exit&&ile (ln g.Seen) 40)))))))
@[simp] abbrev zlt (g:Guest):Bool:=true
@[simp] abbrev zjZ (g:Guest):Bool:=zcW g
def zyI:Run:=rF1 (dT .guest) fun b=>(zlt b,[aB (zjZ b)])
def zDS (N:Nat)(a0:Guest):OA:=
 (oN (zxR a0.Prog) (cond (zmb a0.Prog) (oN (zI a0.A 0 99) (cond (zL a0.A 0 99) (oN (zI a0.Pc 0 12) (cond (zL a0.Pc 0 12) (oN (zly a0.Written 4 8) (cond (zhf a0.Written 4 8) (oN (zly a0.Live 4 8) (cond (zhf a0.Live 4 8) (oN (zp8 a0.Ctl) (cond (zoK a0.Ctl) (oN (zeU a0.Pending) (cond (zeT a0.Pending) (oN (zxL a0.Exit) (cond (zsH a0.Exit) (some [(aB (ile (ln a0.Seen) 40))]) oF)) oF)) oF)) oF)) oF)) oF)) oF)) oF))
theorem zPe (a0:Guest)(hc:zlt a0=true):∃N,zDS N a0=some [aB (zjZ a0)]:=by
 refine ⟨0,?_⟩;unfold zDS oN;refine must rfl (br (fun _=>must rfl (br (fun _=>must rfl (br (fun _=>must rfl (br (fun _=>must rfl (br (fun _=>must rfl (br (fun _=>must rfl (br (fun _=>must rfl (br (fun _=>?_) (fun _=>?_))) (fun _=>?_))) (fun _=>?_))) (fun _=>?_))) (fun _=>?_))) (fun _=>?_))) (fun _=>?_))) (fun _=>?_))
 all_goals first|rfl|(simp only [*,zjZ,zcW,cT,cF]<;>rfl)|simp_all[Ty.cells,zjZ,zcW]
theorem zIn:vB 223 zyI:=kF1 zik zq zl zn (zo []) zPe
@[simp] abbrev zo7 (g:Guest):Bool:=true
@[simp] abbrev zms (g:Guest):Bool:=zcW g
def zyB:Run:=rF1 (dT .guest) fun b=>(zo7 b,[aB (zms b)])
def zDG (N:Nat)(a0:Guest):OA:=
 (oN (zxo a0.Prog) (cond (zl1 a0.Prog) (oN (zb7 a0.A 0 99) (cond (zco a0.A 0 99) (oN (zb7 a0.Pc 0 12) (cond (zco a0.Pc 0 12) (oN (zlf a0.Written 4 8) (cond (zg5 a0.Written 4 8) (oN (zlf a0.Live 4 8) (cond (zg5 a0.Live 4 8) (oN (zAK a0.Ctl) (cond (zvM a0.Ctl) (oN (zra a0.Pending) (cond (zop a0.Pending) (oN (zxl a0.Exit) (cond (zsc a0.Exit) (some [(aB (ile (ln a0.Seen) 40))]) oF)) oF)) oF)) oF)) oF)) oF)) oF)) oF))
theorem zO2 (a0:Guest)(hc:zo7 a0=true):∃N,zDG N a0=some [aB (zms a0)]:=by
 refine ⟨0,?_⟩;unfold zDG oN;refine must rfl (br (fun _=>must rfl (br (fun _=>must rfl (br (fun _=>must rfl (br (fun _=>must rfl (br (fun _=>must rfl (br (fun _=>must rfl (br (fun _=>must rfl (br (fun _=>?_) (fun _=>?_))) (fun _=>?_))) (fun _=>?_))) (fun _=>?_))) (fun _=>?_))) (fun _=>?_))) (fun _=>?_))) (fun _=>?_))
 all_goals first|rfl|(simp only [*,zms,zcW,cT,cF]<;>rfl)|simp_all[Ty.cells,zms,zcW]
theorem zIg:vB 75 zyB:=kF1 zik zq zl zn (zo []) zO2
@[simp] abbrev zkt (l:List Guest):Bool:=pc (zlT l)
@[simp] abbrev zjM (l:List Guest):List Guest:=l
def zst:Run:=rF1 (dS .guest) fun b=>(zkt b,[aS .guest (zjM b)])
def zvk (N:Nat)(a0:lG):OA:=
 (iter (σ:=(Int×(Int×(lG×(lG×Unit))))) N (fun r2 s3=>let y0:=(ix s3.2.2.2.1 s3.2.1 zx); (cond (ilt s3.2.1 s3.1) (oN (inb s3.2.1 (ln s3.2.2.2.1)) (oN (ziO y0) (oN (few (ln (ap s3.2.2.1 [(zfm y0)]))) (r2 (s3.1,((zG .i64 s3.2.1 1),((ap s3.2.2.1 [(zfm y0)]),(s3.2.2.2.1,())))))))) (some [(aS .guest s3.2.2.1)]))) ((ln a0),(0,([],(a0,())))))
def zGN:FuncId->Nat->Option Tmpl:=zo [(70,0,{ n:=20,tm:=[(3,.sl 0 []),(7,.sl 1 []),(8,ti),(9,ti)],lo:=[],ro:=[(0,.guest,true),(1,.guest,false)] })]
theorem zGi (a0:List Guest)(hc:zkt a0=true):∃N,zvk N a0=some [aS .guest (zjM a0)]:=by
 have hs:=zD.1 hc;have hl:=zcb hs.1;refine zbP fun N hNN=>?_;unfold zvk oN
 conv=>zeta
 refine (zbc a0 (fun i (t:lG)=>((ln a0),(i:Int),t,a0,())) _ (fun _ x acc κ=>bif ziO x then (cond (few (ln (ap acc [zfm x]))) (κ (ap acc [zfm x])) none) else none) (fun (t:lG)=>(some [(.one (.s .guest t))])) (fun i hi t rec=>?_) (fun t rec=>?_) _ ([]) (hNN hl.1)).trans ?_
 .simp only [zbf hi,zN hi,zba hi,zT hi hl.1,cT]
 .simp only [zbd,cF]
 exact zii ziO zfm _ a0 0 [] (fun x hx=>⟨by exact zW (hs.2 x hx),rfl⟩) (by simpa using hl.2)
theorem zAy:vB 70 zst:=kF1 zik zq zl zn zGN zGi
def gAt (b:Bare)(i:Int):Guest:=bif hasB i (ln b.Guests) then ix b.Guests i zx else Ty.dflt .guest
@[simp] theorem zi0 {b:Bare}(i:Int)(h:SmB b):SmG (gAt b i):=by
 unfold gAt;cases hh:hasB i (ln b.Guests)
 .exact z7l
 .exact z0h h.2.1 hh _
def z3p:zO:=[(137,zq2),(136,zBL),(197,zJP),(188,zBI),(189,zBw),(223,zyI),(75,zyB),(70,zst)]++z3o
theorem zoi:zF z3p:=zh zzs (zh zb4 (zh zRq (zh zLj (zh zK7 (zh zIn (zh zIg (zh zAy zik)))))))
def plainly (g:Guest):Guest:=bif ine (zS g) 2 then g else (cond (win g.A 0 99) (cond (win (zb9 g.Prog g.Pc).X 0 99) (cond (ieq (zb9 g.Prog g.Pc).Op 1) { zbW g with A:=(zb9 g.Prog g.Pc).X } (cond (ieq (zb9 g.Prog g.Pc).Op 2) { zbW g with A:=zkd (zG .i64 g.A (zb9 g.Prog g.Pc).X) 100 } (cond (ieq (zb9 g.Prog g.Pc).Op 8) (cond (ieq g.A 0) { zbW g with Pc:=(zb9 g.Prog g.Pc).X } (zbW g)) (zbW g)))) (zbW g)) (zbW g))
@[simp] theorem z7e (g:Guest):(zbW g).Prog=g.Prog:=by
 unfold zbW;cases ige g.Pc 12<;>rfl
@[simp] theorem z7L (g:Guest):(zbW g).A=g.A:=by
 unfold zbW;cases ige g.Pc 12<;>rfl
@[simp] theorem z5O (g:Guest):(zbW g).Written=g.Written:=by
 unfold zbW;cases ige g.Pc 12<;>rfl
@[simp] theorem z7d (g:Guest):(zbW g).Live=g.Live:=by
 unfold zbW;cases ige g.Pc 12<;>rfl
@[simp] theorem z7u (g:Guest):(zbW g).Ctl=g.Ctl:=by
 unfold zbW;cases ige g.Pc 12<;>rfl
@[simp] theorem z5N (g:Guest):(zbW g).Pending=g.Pending:=by
 unfold zbW;cases ige g.Pc 12<;>rfl
@[simp] theorem z7c (g:Guest):(zbW g).Exit=g.Exit:=by
 unfold zbW;cases ige g.Pc 12<;>rfl
@[simp] theorem z6z (g:Guest):(zbW g).Halted=g.Halted:=by
 unfold zbW;cases ige g.Pc 12<;>rfl
@[simp] theorem z7f (g:Guest):(zbW g).Seen=g.Seen:=by
 unfold zbW;cases ige g.Pc 12<;>rfl
@[simp] theorem z7v (g:Guest)(x:Int):(zbW { g with A:=x }).Pc=(zbW g).Pc:=by
 unfold zbW;cases ige g.Pc 12<;>rfl
@[simp] theorem zE6 {g:Guest}(h:SmG g):SmG (plainly g):=by
 have hm:=zkc h;unfold plainly;cases ine (zS g) 2
 .cases win g.A 0 99
  .exact hm
  .cases win (zb9 g.Prog g.Pc).X 0 99
   .exact hm
   .cases ieq (zb9 g.Prog g.Pc).Op 1
    .cases ieq (zb9 g.Prog g.Pc).Op 2
     .cases ieq (zb9 g.Prog g.Pc).Op 8
      .exact hm
      .cases ieq g.A 0<;>exact hm
     .exact hm
    .exact hm
 .exact h
@[simp] abbrev zu8 (g:Guest):Bool:=pc (SmG g)
@[simp] abbrev zqd (g:Guest):Guest:=plainly g
def zyV:Run:=rF1 (dT .guest) fun b=>(zu8 b,[aT .guest (zqd b)])
def zD4 (N:Nat)(a0:Guest):OA:=
 let y7:=(ieq a0.A 0);let y5:=(zdL a0);let y1:=(aT .guest (zfH a0));let y0:=(zfj a0.Prog a0.Pc);let y8:=({ a0 with A:=y0.X }:Guest);let y6:=(ieq y0.Op 8);let y4:=(zL y0.X 0 99);let y3:=(aT .guest ({ (zcI a0) with Pc:=y0.X }:Guest));let y2:=({ a0 with A:=(zkd (zG .i64 a0.A y0.X) 100) }:Guest); (oN (zej a0) (cond (ine (zme a0) 2) (oN (zc2 a0) (some [(aT .guest (zcI a0))])) (oN (ze9 a0.Prog a0.Pc) (oN (zI a0.A 0 99) (cond (zL a0.A 0 99) (oN (zI y0.X 0 99) (cond y4 (cond (ieq y0.Op 1) (oN (zdL y8) (some [(aT .guest (zfH y8))])) (cond y4 (cond (ieq y0.Op 2) (oN (ine 100 0) (oN (zdL y2) (some [(aT .guest (zfH y2))]))) (cond y4 (cond y6 (cond y7 (oN (zc2 a0) (some [y3])) (oN y5 (some [y1]))) (oN y5 (some [y1]))) (oN y5 (some [y1])))) (cond y4 (cond y6 (cond y7 (oN (zc2 a0) (some [y3])) (oN y5 (some [y1]))) (oN y5 (some [y1]))) (oN y5 (some [y1]))))) (cond y4 (cond (ieq y0.Op 2) (oN (ine 100 0) (oN (zdL y2) (some [(aT .guest (zfH y2))]))) (cond y4 (cond y6 (cond y7 (oN (zc2 a0) (some [y3])) (oN y5 (some [y1]))) (oN y5 (some [y1]))) (oN y5 (some [y1])))) (cond y4 (cond y6 (cond y7 (oN (zc2 a0) (some [y3])) (oN y5 (some [y1]))) (oN y5 (some [y1]))) (oN y5 (some [y1])))))) (oN y5 (some [y1])))))))
theorem zPr (a0:Guest)(hc:zu8 a0=true):∃N,zD4 N a0=some [aT .guest (zqd a0)]:=by
 have hs:=zD.1 hc;have hz:_/\_/\_/\_:=hs
 refine ⟨0,?_⟩;unfold zD4 oN
 conv=>zeta
 refine must rfl (br (fun _=>mu ?_) (fun _=>must rfl (must rfl (br (fun _=>must rfl (br (fun _=>br (fun _=>mu ?_) (fun _=>br (fun _=>br (fun _=>must rfl (mu ?_)) (fun _=>br (fun _=>br (fun _=>br (fun _=>mu ?_) (fun _=>mu ?_)) (fun _=>mu ?_)) (fun _=>mu ?_))) (fun _=>br (fun _=>br (fun _=>br (fun _=>mu ?_) (fun _=>mu ?_)) (fun _=>mu ?_)) (fun _=>mu ?_)))) (fun _=>br (fun _=>br (fun _=>must rfl (mu ?_)) (fun _=>br (fun _=>br (fun _=>br (fun _=>mu ?_) (fun _=>mu ?_)) (fun _=>mu ?_)) (fun _=>mu ?_))) (fun _=>br (fun _=>br (fun _=>br (fun _=>mu ?_) (fun _=>mu ?_)) (fun _=>mu ?_)) (fun _=>mu ?_))))) (fun _=>mu ?_)))))
 all_goals first|rfl|(simp only [*,zqd,plainly,cT,cF]<;>rfl)|simp_all[Ty.cells,zqd,plainly]
theorem zIA:vB 138 zyV:=kF1 zoi zq zl zn (zo []) zPr
def address (g:Guest):Int:=bif ine (zS g) 3 then (cond (ine (zS g) 4) (-1) ((zb9 g.Prog g.Pc).X)) else (zb9 g.Prog g.Pc).X
@[simp] abbrev zpk (g:Guest):Bool:=true
@[simp] abbrev zib (g:Guest):Int:=address g
def zyH:Run:=rF1 (dT .guest) fun b=>(zpk b,[aI (zib b)])
def zDN (N:Nat)(a0:Guest):OA:=
 (oN (zej a0) (cond (ine (zme a0) 3) (cond (ine (zme a0) 4) (some [(aI (-1))]) (oN (ze9 a0.Prog a0.Pc) (some [(aI (zfj a0.Prog a0.Pc).X)]))) (oN (ze9 a0.Prog a0.Pc) (some [(aI (zfj a0.Prog a0.Pc).X)]))))
theorem zO9 (a0:Guest)(hc:zpk a0=true):∃N,zDN N a0=some [aI (zib a0)]:=by
 refine ⟨0,?_⟩;unfold zDN oN;refine must rfl (br (fun _=>br (fun _=>?_) (fun _=>must rfl ?_)) (fun _=>must rfl ?_))
 all_goals first|rfl|(simp only [*,zib,address,cT,cF]<;>rfl)|simp_all[Ty.cells,zib,address]
theorem zIm:vB 184 zyH:=kF1 zoi zq zl zn (zo []) zO9
def ziM (g:Guest)(t w:Int):Guest:=bif ieq w 6 then stopped g (zwU (zb9 g.Prog g.Pc).X) else (cond (ieq w 5&&zgn t 1) (stopped g (zvW (zb9 g.Prog g.Pc).X)) (cond (ieq w 7&&zgn t 2) (stopped g ⟨4,0,false,0⟩) (cond (ieq w 7) (held g) (zbW g))))
def zjt (t w:Int):Bool:=bif ieq w 6 then false else (cond (ieq w 5&&zgn t 1) false (cond (ieq w 7&&zgn t 2) false true))
@[simp] theorem zB5 {g:Guest}(t w:Int)(h:SmG g):SmG (ziM g t w):=by
 unfold ziM;cases ieq w 6
 .cases (ieq w 5&&zgn t 1)
  .cases (ieq w 7&&zgn t 2)
   .cases ieq w 7
    .exact zkc h
    .exact zTh h
   .exact h
  .exact h
 .exact h
@[simp] abbrev zdu (g:Guest)(t w:Int):Bool:=pc (SmG g)
@[simp] abbrev zb1 (g:Guest)(t w:Int):Guest:=ziM g t w
@[simp] abbrev zc3 (g:Guest)(t w:Int):Bool:=zjt t w
def zy5:Run:=rF3 (dT .guest) dI dI fun b c d=>(zdu b c d,[aT .guest (zb1 b c d),aB (zc3 b c d)])
def zEf (N:Nat)(a0:Guest)(a1 a2:Int):OA:=
 let y3:=(aT .guest (zfH a0));let y2:=(aT .guest (zwE a0));let y1:=(⟨4,0,false,0⟩:GExit);let y0:=(zfj a0.Prog a0.Pc).X; (oN (ze9 a0.Prog a0.Pc) (cond (ieq a2 6) (oN (zsG y0) (oN (zdQ a0 (zkG y0)) (some [(aT .guest (zdh a0 (zkG y0))),(aB false)]))) (cond (ieq a2 5) (oN (zhA a1 1) (cond (zhd a1 1) (oN (zu6 y0) (oN (zdQ a0 (zmz y0)) (some [(aT .guest (zdh a0 (zmz y0))),(aB false)]))) (cond (ieq a2 7) (oN (zhA a1 2) (cond (zhd a1 2) (oN (zdQ a0 y1) (some [(aT .guest (zdh a0 y1)),(aB false)])) (cond (ieq a2 7) (oN (zl9 a0) (some [y2,(aB true)])) (oN (zdL a0) (some [y3,(aB true)]))))) (cond (ieq a2 7) (oN (zl9 a0) (some [y2,(aB true)])) (oN (zdL a0) (some [y3,(aB true)])))))) (cond (ieq a2 7) (oN (zhA a1 2) (cond (zhd a1 2) (oN (zdQ a0 y1) (some [(aT .guest (zdh a0 y1)),(aB false)])) (cond (ieq a2 7) (oN (zl9 a0) (some [y2,(aB true)])) (oN (zdL a0) (some [y3,(aB true)]))))) (cond (ieq a2 7) (oN (zl9 a0) (some [y2,(aB true)])) (oN (zdL a0) (some [y3,(aB true)])))))))
theorem zPF (a0:Guest)(a1 a2:Int)(hc:zdu a0 a1 a2=true):∃N,zEf N a0 a1 a2=some [aT .guest (zb1 a0 a1 a2),aB (zc3 a0 a1 a2)]:=by
 have hs:=zD.1 hc;refine ⟨0,?_⟩;unfold zEf oN
 conv=>zeta
 refine must rfl (br (fun _=>must rfl (mu ?_)) (fun _=>br (fun _=>must rfl (br (fun _=>must rfl (mu ?_)) (fun _=>br (fun _=>must rfl (br (fun _=>mu ?_) (fun _=>br (fun _=>mu ?_) (fun _=>mu ?_)))) (fun _=>br (fun _=>mu ?_) (fun _=>mu ?_))))) (fun _=>br (fun _=>must rfl (br (fun _=>mu ?_) (fun _=>br (fun _=>mu ?_) (fun _=>mu ?_)))) (fun _=>br (fun _=>mu ?_) (fun _=>mu ?_)))))
 all_goals first|rfl|(simp only [*,zb1,zc3,ziM,zjt,cT,cF]<;>rfl)|simp_all[Ty.cells,zb1,zc3,ziM,zjt]
theorem zIN:vB 191 zy5:=kF3 zoi zq zl zn (zo []) zPF
def zbV (b:Bare):Bool:=bif b.Guests.all zcW then (zgN b.Memory 8&&(win (ln b.Guests) 1 2&&(ile (ln b.Outs) 40&&zcK b.Pending))) else false
@[simp] abbrev znv (b:Bare):Bool:=true
@[simp] abbrev zeo (b:Bare):Bool:=zbV b
def zBo:Run:=rF1 (dT .bare) fun b=>(znv b,[aB (zeo b)])
def zHd (N:Nat)(a0:Bare):OA:=
 (iter (σ:=(Int×(Int×(lM×(lG×((List Int)×Unit)))))) N (fun r2 s3=>let y0:=s3.2.2.2.1; (cond (ilt s3.1 (ln y0)) (oN (inb s3.1 (ln y0)) (oN (zlt (ix y0 s3.1 zx)) (cond (nB (zjZ (ix y0 s3.1 zx))) oF (r2 ((zG .i64 s3.1 1),(s3.2.1,(s3.2.2.1,(y0,(s3.2.2.2.2.1,()))))))))) (oN (zqa s3.2.2.1 8) (cond (zkQ s3.2.2.1 8) (oN (zI (ln y0) 1 2) (cond (zL (ln y0) 1 2) (cond (ile (ln s3.2.2.2.2.1) 40) (oN (zeU s3.2.1) (some [(aB (zeT s3.2.1))])) oF) oF)) oF)))) (0,(a0.Pending,(a0.Memory,(a0.Guests,(a0.Outs,()))))))
def zTD:FuncId->Nat->Option Tmpl:=zo [(201,0,{ n:=38,tm:=[(1,.lp 0 0),(3,ti)],lo:=[(0,[.sl 0 [],.sl 1 [],.sl 2 [],ti])],ro:=[(0,(.sl .int),false),(1,.guest,false),(2,.int,false)] })]
theorem zRT (a0:Bare)(hb:zbG big [aT .bare a0])(hc:znv a0=true):∃N,zHd N a0=some [aB (zeo a0)]:=by
 have hl:(_:List _).length<=big:=((zcX hb).1 (.s .guest a0.Guests) (by simp[AV.cvs,Ty.cells])).len
 refine zbP fun N hNN=>?_;unfold zHd oN nB
 conv=>zeta
 refine (zbc a0.Guests (fun i (t:Unit)=>((i:Int),a0.Pending,a0.Memory,a0.Guests,a0.Outs,())) _ (fun _ x (_:Unit) κ=>bif (zcW) x then κ () else oF) (fun (t:Unit)=>(cond (zqa a0.Memory 8) (cond (zkQ a0.Memory 8) (cond (zI (ln a0.Guests) 1 2) (cond (zL (ln a0.Guests) 1 2) (cond (ile (ln a0.Outs) 40) (cond (zeU a0.Pending) (some [(.one (.b (zeT a0.Pending)))]) none) oF) oF) none) oF) none)) (fun i hi t rec=>?_) (fun t rec=>?_) _ () (hNN hl)).trans ?_
 .simp only [zbf hi,zN hi,zba hi,zT hi hl,cT];exact zih rfl
 .simp only [zbd,cF]
 rw[zgl (zcW)];refine br (fun h0=>?_) (fun h0=>?_)
 .refine must rfl ?_;refine br (fun h1=>?_) (fun h1=>?_)
  .refine must rfl ?_;refine br (fun h2=>?_) (fun h2=>?_)
   .refine br (fun h3=>?_) (fun h3=>?_)
    .refine must rfl ?_
     first|rfl|(simp only [h0,h1,h2,h3,zeo,zbV,cT,cF]<;>rfl)|(simp_all [Ty.cells,zeo,zbV];done)
    .first|rfl|(simp only [h0,h1,h2,h3,zeo,zbV,cT,cF]<;>rfl)|(simp_all [Ty.cells,zeo,zbV];done)
   .first|rfl|(simp only [h0,h1,h2,zeo,zbV,cT,cF]<;>rfl)|(simp_all [Ty.cells,zeo,zbV];done)
  .first|rfl|(simp only [h0,h1,zeo,zbV,cT,cF]<;>rfl)|(simp_all [Ty.cells,zeo,zbV];done)
 .first|rfl|(simp only [h0,zeo,zbV,cT,cF]<;>rfl)|(simp_all [Ty.cells,zeo,zbV];done)
theorem zKY:vB 201 zBo:=hF1 zoi zq zl zn zTD zRT
@[simp] abbrev zeB (b:Bare):Bool:=pc (SmB b)
@[simp] abbrev zb8 (b:Bare):Bare:=b
def zy4:Run:=rF1 (dT .bare) fun b=>(zeB b,[aT .bare (zb8 b)])
def zEe (N:Nat)(a0:Bare):OA:=
 (oN (zfp a0.Memory) (oN (zfb a0.Guests) (oN (few (ln (ap [] a0.Outs))) (some [(aT .bare (⟨(zd3 a0.Memory),(zfs a0.Guests),(ap [] a0.Outs),a0.Pending⟩:Bare))]))))
theorem zPE (a0:Bare)(hc:zeB a0=true):∃N,zEe N a0=some [aT .bare (zb8 a0)]:=by
 have hs:=zD.1 hc;have hz:_/\_/\_:=hs
 refine ⟨0,?_⟩;unfold zEe oN;refine mu (mu (mu ?_))
 first|rfl|(simp only [*,zb8,cT,cF]<;>rfl)|simp_all[Ty.cells,zb8]
theorem zIM:vB 192 zy4:=kF1 zoi zq zl zn (zo []) zPE
def z3q:zO:=[(138,zyV),(184,zyH),(191,zy5),(201,zBo),(192,zy4)]++z3p
theorem z08:zF z3q:=zh zIA (zh zIm (zh zIN (zh zKY (zh zIM zoi))))
def zdW (b:Bare)(i:Int)(x:Guest):Bare:={ b with Guests:=up b.Guests i x }
def znj (b:Bare)(n:Int):Bare:=bif ilt (ln b.Outs) 40 then { b with Outs:=ap b.Outs [n] } else b
@[simp] theorem zmi {b:Bare}{i:Int}{x:Guest}(h:SmB b)(hx:SmG x):SmB (zdW b i x):=⟨h.1,zCI h.2.1 hx,h.2.2⟩
@[simp] theorem zX3 {b:Bare}{n:Int}(h:SmB b):SmB (znj b n):=by
 unfold znj;cases h1:ilt (ln b.Outs) 40
 .exact h
 .have:=qE h1;refine ⟨h.1,h.2.1,?_⟩;simp[ln] at *;omega
@[simp] theorem z7F (b:Bare)(n:Int):(znj b n).Guests=b.Guests:=by
 unfold znj;cases ilt (ln b.Outs) 40<;>rfl
@[simp] theorem zx2 {m:List (List Int)}{p c v:Int}(h:SmM m):SmM (zbx m p c v):=by
 unfold zbx;cases h1:zha m p c
 .exact h
 .cases h2:win v 0 99
  .exact h
  .exact zJ3 h (by simpa using z6I h ((zxA m p c).1 h1).1 [])
def zWI:zO:=z3q
theorem zrX:zF zWI:=z08
def zmG (b:Bare)(g:Int)(x:Guest)(w:Bool):Bare :=
 bif ze0 x.Live (zbe (address x)) (zbX w) then
  (bif w then zdW { b with Memory:=zbx b.Memory (zck x.Live (zbe (address x)) (zbX w)) (zcU (address x)) x.A } g (zbW x)
  else zdW b g (loaded x (cellAt b.Memory (zck x.Live (zbe (address x)) (zbX w)) (zcU (address x)))))
 else zdW b g (stopped x (zpU (zbe (address x)) w))
def zCJ (b:Bare)(g:Int)(x:Guest)(w:Int):Bare :=
 zdW (cond (cond (zjt x.Ctl.Traps w) (ieq w 5) false) (znj b (zb9 x.Prog x.Pc).X) b) g (ziM x x.Ctl.Traps w)
def stepped (b:Bare)(g:Int)(x:Guest)(w:Int):Bare :=
 bif ieq w 1 then zdW b g (interrupted x) else (cond (ieq w 2) (zdW b g (plainly x)) (cond (ieq w 3) (zmG b g x false) (cond (ieq w 4) (zmG b g x true) (zCJ b g x w))))
def zki (b:Bare)(g:Int):Bool:=bif hasB g (ln b.Guests) then (cond (zbV b) (!ieq (zS (gAt b g)) 0) false) else false
def zhq (b:Bare)(g:Int):Bare:=bif zki b g then stepped b g (gAt b g) (zS (gAt b g)) else b
@[simp] theorem zWa {b:Bare}{g:Int}{x:Guest}{w:Bool}(h:SmB b)(hx:SmG x):SmB (zmG b g x w):=by
 unfold zmG;cases ze0 x.Live (zbe (address x)) (zbX w)
 .exact zmi h hx
 .cases w
  .exact zmi h (zJ1 _ hx)
  .exact ⟨zx2 h.1,zCI h.2.1 (zkc hx),h.2.2⟩
@[simp] theorem z5E {b:Bare}{g:Int}{x:Guest}{w:Int}(h:SmB b)(hx:SmG x):SmB (zCJ b g x w):=by
 unfold zCJ;cases (cond (zjt x.Ctl.Traps w) (ieq w 5) false)
 .exact zmi h (zB5 _ _ hx)
 .exact zmi (zX3 h) (zB5 _ _ hx)
@[simp] theorem zVd {b:Bare}{g:Int}{x:Guest}{w:Int}(h:SmB b)(hx:SmG x):SmB (stepped b g x w):=by
 unfold stepped;cases ieq w 1
 .cases ieq w 2
  .cases ieq w 3
   .cases ieq w 4
    .exact z5E h hx
    .exact zWa h hx
   .exact zWa h hx
  .exact zmi h (zE6 hx)
 .exact zmi h (zWb hx)
@[simp] theorem z7H {b:Bare}{g:Int}(h:SmB b):SmB (zhq b g):=by
 unfold zhq;cases zki b g
 .exact h
 .exact zVd h (zi0 g h)
theorem z7p (x:Guest):ieq (zS x) 0=false->ieq (zS x) 1=false->ieq (zS x) 2=false->ieq (zS x) 3=false->ieq (zS x) 4=false->ieq (zS x) 5=false->ieq (zS x) 6=false->ieq (zS x) 7=true:=by
 unfold zS zvV;cases canRun x
 .intro h;cases h
 .cases zhD x
  .simp only [cT,cF];generalize (zb9 x.Prog x.Pc).Op=o;cases ieq o 3<;>cases ieq o 4<;>cases ieq o 5<;>cases ieq o 6<;>cases ieq o 7<;>simp [ieq]
  .intro _ h;cases h
def SmK (k:Kept):Prop:=k.Known.length<=1048576/\k.Slots.length<=1048576
def zz7 (l:List Kept):Prop:=l.length<=1048576/\∀x∈l,SmK x
def zeF (m:Mon):Prop:=m.Outer.length<=1048576/\SmM m.Out/\m.Dirty.length<=1048576/\zlT m.Guests/\m.Outs.length<=1048576/\zz7 m.Tables
def zpP (l:List Mon):Prop:=l.length<=1048576/\∀x∈l,zeF x
def SmH (h:Host):Prop:=SmM h.Memory/\zpP h.Mons/\h.Buffer.length<=1048576/\h.IoBuffer.length<=1048576
@[simp] theorem zvv (k:Kept):(∀c∈Ty.cells .kept k,CVB sm c)↔SmK k:=by simp[Ty.cells,SmK,z2h]
@[simp] theorem z1g (l:List Kept):CVB sm (.s .kept l)↔zz7 l:=by rw[zkl];simp only[zvv];rfl
@[simp] theorem zVw (m:Mon):(∀c∈Ty.cells .mon m,CVB sm c)↔zeF m:=by
 simp only[Ty.cells,qH,qV,or_false,u4,forall_eq,zoj,ztp,z1g,zWR,zT6,zT5,z3J,and_true,true_and];rfl
@[simp] theorem z4I (l:List Mon):CVB sm (.s .mon l)↔zpP l:=by rw[zkl];simp only[zVw];rfl
@[simp] theorem zJ (h:Host):zbz h↔SmH h:=by
 unfold zbz;simp only[zbh,qH,qV,or_false,u4,forall_eq,zoj,z4I,zQ5];rfl
theorem zbs {p:Prop}(h:p):pc p=true:=zW h
theorem zwJ {l:List Kept}{i:Int}{x:Kept}(h:zz7 l)(hx:SmK x):zz7 (up l i x):=by
 refine ⟨by simpa using h.1,fun y hy=>?_⟩
 rcases qZ hy with hy|rfl
 .exact h.2 y hy
 .exact hx
theorem zif {l:List Mon}{i:Int}{x:Mon}(h:zpP l)(hx:zeF x):zpP (up l i x):=by
 refine ⟨by simpa using h.1,fun y hy=>?_⟩
 rcases qZ hy with hy|rfl
 .exact h.2 y hy
 .exact hx
theorem zmq {α:Type}{l:List α}(h:l.length<=1048576):few (ln (ap [] l))=true:=by
 rw[zjy,z4Q];omega
@[simp] abbrev zbE (h:Host):Bool:=pc (zbz h)
@[simp] abbrev zk (h:Host):Host:=h
def zy6:Run:=rF1 dH fun b=>(zbE b,[aH (zk b)])
def zEg (N:Nat)(a0:Host):OA:=
 (oN (zfp a0.Memory) (oN (few (ln (ap [] a0.Buffer))) (oN (few (ln (ap [] a0.IoBuffer))) (iter (σ:=(Int×(lM×(lN×(lE×(lE×(lM×(lN×(lE×(lE×(lM×(lN×(lE×(lE×Unit)))))))))))))) N (fun r2 s3=>let y2:=s3.2.2.2.2.2.2.2.2.2.2.2.2.1;let y1:=(ix s3.2.2.1 s3.1 zf);let y0:=(ap s3.2.2.2.2.2.2.2.2.2.2.1 [(zmf y1)]); (cond (ilt s3.1 (ln s3.2.2.1)) (oN (inb s3.1 (ln s3.2.2.1)) (oN (ziF y1) (oN (few (ln y0)) (r2 ((zG .i64 s3.1 1),(s3.2.1,(s3.2.2.1,(s3.2.2.2.1,(s3.2.2.2.2.1,(s3.2.2.2.2.2.1,(s3.2.2.2.2.2.2.1,(s3.2.2.2.2.2.2.2.1,(s3.2.2.2.2.2.2.2.2.1,(s3.2.2.2.2.2.2.2.2.2.1,(y0,(s3.2.2.2.2.2.2.2.2.2.2.2.1,(y2,()))))))))))))))))) (some [(aH (⟨s3.2.2.2.2.2.2.2.2.2.1,s3.2.2.2.2.2.2.2.2.2.2.1,s3.2.2.2.2.2.2.2.2.2.2.2.1,y2⟩:Host))]))) (0,(a0.Memory,(a0.Mons,(a0.Buffer,(a0.IoBuffer,([],([],([],([],((zd3 a0.Memory),([],((ap [] a0.Buffer),((ap [] a0.IoBuffer),())))))))))))))))))
def zP4:FuncId->Nat->Option Tmpl:=zo [(90,0,{ n:=36,tm:=[(1,.lp 0 0),(2,.lp 1 0),(3,.lp 2 0),(4,ti)],lo:=[(0,[.sl 0 [],.sl 1 [],.sl 2 [],.sl 3 []]),(1,[.sl 4 [],.sl 5 [],.sl 6 [],.sl 7 []]),(2,[.sl 8 [],.sl 9 [],.sl 10 [],.sl 11 []])],ro:=[(0,(.sl .int),false),(1,.mon,false),(2,.entry,false),(3,.entry,false),(4,(.sl .int),true),(5,.mon,true),(6,.entry,true),(7,.entry,true),(8,(.sl .int),true),(9,.mon,true),(10,.entry,true),(11,.entry,true)] })]
theorem zPG (a0:Host)(hc:zbE a0=true):∃N,zEg N a0=some [aH (zk a0)]:=by
 obtain ⟨h1,h2,h3,h4⟩:=(zJ a0).1 (zD.1 hc);have hl:=zcb h2.1;refine zbP fun N hNN=>?_;unfold zEg oN
 conv=>zeta
 refine must (zbs ((zoj _).2 h1)) (must (zmq h3) (must (zmq h4) ?_));refine (zbc a0.Mons (fun i (t:lN)=>((i:Int),a0.Memory,a0.Mons,a0.Buffer,a0.IoBuffer,[],[],[],[],(zd3 a0.Memory),t,(ap [] a0.Buffer),(ap [] a0.IoBuffer),())) _ (fun _ x acc κ=>bif ziF x then (cond (few (ln (ap acc [zmf x]))) (κ (ap acc [zmf x])) none) else none) (fun (t:lN)=>(some [(.agg (zbh (⟨(zd3 a0.Memory),t,(ap [] a0.Buffer),(ap [] a0.IoBuffer)⟩:Host)))])) (fun i hi t rec=>?_) (fun t rec=>?_) _ ([]) (hNN hl.1)).trans ?_
 .simp only [zbf hi,zN hi,zba hi,zT hi hl.1,cT]
 .simp only [zbd,cF]
 exact zii ziF zmf _ a0.Mons 0 [] (fun x hx=>⟨zbs ((zVw x).2 (h2.2 x hx)),rfl⟩) (by simpa using hl.2)
theorem zIO:vB 90 zy6:=kF1 zrX zq zl zn zP4 zPG
@[simp] abbrev zgC (k:Kept):Bool:=pc (SmK k)
@[simp] abbrev zdn (k:Kept):Kept:=k
def zv6:Run:=rF1 (dT .kept) fun b=>(zgC b,[aT .kept (zdn b)])
def zzC (N:Nat)(a0:Kept):OA:=
 (oN (few (ln (ap [] a0.Known))) (oN (zfN a0.Slots) (some [(aT .kept (⟨(ap [] a0.Known),(zey a0.Slots)⟩:Kept))])))
theorem zLH (a0:Kept)(hc:zgC a0=true):∃N,zzC N a0=some [aT .kept (zdn a0)]:=by
 have hs:=zD.1 hc;obtain ⟨h1,h2⟩:=hs;have hs1:a0.Known.length<=2147483648:=(by omega);have hs2:a0.Slots.length<=2147483648:=(by omega)
 refine ⟨0,?_⟩;unfold zzC oN;refine mu (mu ?_)
 first|rfl|(simp only [*,zdn,cT,cF]<;>rfl)|simp_all[Ty.cells,zdn]
theorem zFI:vB 71 zv6:=kF1 zrX zq zl zn (zo []) zLH
def z3d:zO:=[(90,zy6),(71,zv6)]++zWI
theorem zQU:zF z3d:=zh zIO (zh zFI zrX)
@[simp] abbrev zlg (m:Mon):Bool:=pc (zeF m)
@[simp] abbrev zmt (m:Mon):Mon:=m
def zyE:Run:=rF1 (dT .mon) fun b=>(zlg b,[aT .mon (zmt b)])
def zDK (N:Nat)(a0:Mon):OA:=
 (oN (zfN a0.Outer) (oN (zht a0.Out) (oN (few (ln (ap [] a0.Dirty))) (oN (zkt a0.Guests) (oN (zdp a0.Outs) (iter (σ:=(Int×(Int×(Int×(Int×(Int×(Int×(Int×(Int×(lK×(lK×(lS×(lM×(lB×(lG×((List Int)×(lS×(lM×(lB×(lG×((List Int)×(lK×Unit)))))))))))))))))))))) N (fun r2 s3=>let y5:=s3.2.2.2.2.2.2.2.2.2.2.2.2.1;let y4:=s3.2.2.2.2.2.2.2.2.2.2.2.2.2.1;let y3:=s3.2.2.2.2.2.2.2.2.2.2.2.2.2.2.1;let y2:=s3.2.2.2.2.2.2.2.2.1;let y1:=s3.2.2.2.2.2.2.2.2.2.1;let y0:=(ix y1 s3.2.1 zef); (cond (ilt s3.2.1 s3.1) (oN (inb s3.2.1 (ln y1)) (oN (zgC y0) (oN (few (ln (ap y2 [(zdn y0)]))) (r2 (s3.1,((zG .i64 s3.2.1 1),(s3.2.2.1,(s3.2.2.2.1,(s3.2.2.2.2.1,(s3.2.2.2.2.2.1,(s3.2.2.2.2.2.2.1,(s3.2.2.2.2.2.2.2.1,((ap y2 [(zdn y0)]),(y1,(s3.2.2.2.2.2.2.2.2.2.2.1,(s3.2.2.2.2.2.2.2.2.2.2.2.1,(y5,(y4,(y3,(s3.2.2.2.2.2.2.2.2.2.2.2.2.2.2.2.1,(s3.2.2.2.2.2.2.2.2.2.2.2.2.2.2.2.2.1,(s3.2.2.2.2.2.2.2.2.2.2.2.2.2.2.2.2.2.1,(s3.2.2.2.2.2.2.2.2.2.2.2.2.2.2.2.2.2.2.1,(s3.2.2.2.2.2.2.2.2.2.2.2.2.2.2.2.2.2.2.2.1,(s3.2.2.2.2.2.2.2.2.2.2.2.2.2.2.2.2.2.2.2.2.1,()))))))))))))))))))))))))) (some [(aT .mon (⟨s3.2.2.2.2.2.2.2.2.2.2.1,s3.2.2.2.2.2.2.2.2.2.2.2.1,y5,y4,y3,s3.2.2.1,s3.2.2.2.1,y2,s3.2.2.2.2.1⟩:Mon))]))) ((ln a0.Tables),(0,(a0.Pending,(a0.Traps,(a0.Own,(0,(0,(0,([],(a0.Tables,((zey a0.Outer),((ze6 a0.Out),((ap [] a0.Dirty),((zjM a0.Guests),((zdm a0.Outs),([],([],([],([],([],([],())))))))))))))))))))))))))))
def zPX:FuncId->Nat->Option Tmpl:=zo [(45,0,{ n:=44,tm:=[(1,.lp 0 0),(2,.lp 1 0),(3,.sl 0 []),(29,.sl 1 []),(30,ti),(31,ti)],lo:=[(0,[.sl 2 [],.sl 3 [],.sl 4 [],.sl 5 [],.sl 6 [],ti,ti,.sl 1 [],ti]),(1,[.sl 7 [],.sl 8 [],.sl 9 [],.sl 10 [],.sl 11 [],ti,ti,.sl 12 [],ti])],ro:=[(0,.kept,true),(1,.kept,false),(2,.slot,true),(3,(.sl .int),true),(4,.bool,true),(5,.guest,true),(6,.int,true),(7,.slot,true),(8,(.sl .int),true),(9,.bool,true),(10,.guest,true),(11,.int,true),(12,.kept,true)] })]
theorem zO6 (a0:Mon)(hc:zlg a0=true):∃N,zDK N a0=some [aT .mon (zmt a0)]:=by
 obtain ⟨h1,h2,h3,h4,h5,h6⟩:=zD.1 hc;have hl:=zcb h6.1;refine zbP fun N hNN=>?_;unfold zDK oN
 conv=>zeta
 have c1:zfN a0.Outer=true:=by simp;omega
 have c2:zht a0.Out=true:=by simp;exact h2
 have c4:zkt a0.Guests=true:=by simp;exact h4
 have c5:zdp a0.Outs=true:=by simp;omega
 refine must c1 (must c2 (must (zmq h3) (must c4 (must c5 ?_))));refine (zbc a0.Tables (fun i (t:lK)=>((ln a0.Tables),(i:Int),a0.Pending,a0.Traps,a0.Own,0,0,0,t,a0.Tables,(zey a0.Outer),(ze6 a0.Out),(ap [] a0.Dirty),(zjM a0.Guests),(zdm a0.Outs),[],[],[],[],[],[],())) _ (fun _ x acc κ=>bif zgC x then (cond (few (ln (ap acc [zdn x]))) (κ (ap acc [zdn x])) none) else none) (fun (t:lK)=>(some [(.agg (Ty.cells .mon (⟨(zey a0.Outer),(ze6 a0.Out),(ap [] a0.Dirty),(zjM a0.Guests),(zdm a0.Outs),a0.Pending,a0.Traps,t,a0.Own⟩:Mon)))])) (fun i hi t rec=>?_) (fun t rec=>?_) _ ([]) (hNN hl.1)).trans ?_
 .simp only [zbf hi,zN hi,zba hi,zT hi hl.1,cT]
 .simp only [zbd,cF]
 exact zii zgC zdn _ a0.Tables 0 [] (fun x hx=>⟨zbs (h6.2 x hx),rfl⟩) (by simpa using hl.2)
theorem zIj:vB 45 zyE:=kF1 zQU zq zl zn zPX zO6
def z3e:zO:=[(45,zyE)]++z3d
theorem zwY:zF z3e:=zh zIj zQU
@[simp] abbrev zhQ (h:Host):Bool:=pc (zbz h)
@[simp] abbrev zcZ (h:Host):Host:=h
def zv4:Run:=rF1 dH fun b=>(zhQ b,[aH (zcZ b)])
def zzA (N:Nat)(a0:Host):OA:=
 (oN (zht a0.Memory) (oN (few (ln (ap [] a0.Buffer))) (oN (few (ln (ap [] a0.IoBuffer))) (iter (σ:=(Int×(Int×(lN×(lM×(lN×(lE×(lE×(lM×(lN×(lE×(lE×Unit)))))))))))) N (fun r2 s3=>let y1:=(ix s3.2.2.1 s3.2.1 zf);let y0:=(ap s3.2.2.2.2.2.2.2.2.1 [(zmt y1)]); (cond (ilt s3.2.1 s3.1) (oN (inb s3.2.1 (ln s3.2.2.1)) (oN (zlg y1) (oN (few (ln y0)) (r2 (s3.1,((zG .i64 s3.2.1 1),(s3.2.2.1,(s3.2.2.2.1,(s3.2.2.2.2.1,(s3.2.2.2.2.2.1,(s3.2.2.2.2.2.2.1,(s3.2.2.2.2.2.2.2.1,(y0,(s3.2.2.2.2.2.2.2.2.2.1,(s3.2.2.2.2.2.2.2.2.2.2.1,()))))))))))))))) (some [(aH (⟨s3.2.2.2.2.2.2.2.1,s3.2.2.2.2.2.2.2.2.1,s3.2.2.2.2.2.2.2.2.2.1,s3.2.2.2.2.2.2.2.2.2.2.1⟩:Host))]))) ((ln a0.Mons),(0,(a0.Mons,([],([],([],([],((ze6 a0.Memory),([],((ap [] a0.Buffer),((ap [] a0.IoBuffer),())))))))))))))))
def zML:FuncId->Nat->Option Tmpl:=zo [(20,0,{ n:=34,tm:=[(2,.lp 0 0),(3,.lp 1 0),(19,.sl 0 []),(20,ti),(21,ti)],lo:=[(0,[.sl 1 [],.sl 2 [],.sl 3 [],.sl 4 []]),(1,[.sl 5 [],.sl 6 [],.sl 7 [],.sl 8 []])],ro:=[(0,.mon,false),(1,(.sl .int),true),(2,.mon,true),(3,.entry,true),(4,.entry,true),(5,(.sl .int),true),(6,.mon,true),(7,.entry,true),(8,.entry,true)] })]
theorem zLF (a0:Host)(hc:zhQ a0=true):∃N,zzA N a0=some [aH (zcZ a0)]:=by
 obtain ⟨h1,h2,h3,h4⟩:=(zJ a0).1 (zD.1 hc);have hl:=zcb h2.1;refine zbP fun N hNN=>?_;unfold zzA oN
 conv=>zeta
 have c1:zht a0.Memory=true:=by simp;exact h1
 refine must c1 (must (zmq h3) (must (zmq h4) ?_));refine (zbc a0.Mons (fun i (t:lN)=>((ln a0.Mons),(i:Int),a0.Mons,[],[],[],[],(ze6 a0.Memory),t,(ap [] a0.Buffer),(ap [] a0.IoBuffer),())) _ (fun _ x acc κ=>bif zlg x then (cond (few (ln (ap acc [zmt x]))) (κ (ap acc [zmt x])) none) else none) (fun (t:lN)=>(some [(.agg (zbh (⟨(ze6 a0.Memory),t,(ap [] a0.Buffer),(ap [] a0.IoBuffer)⟩:Host)))])) (fun i hi t rec=>?_) (fun t rec=>?_) _ ([]) (hNN hl.1)).trans ?_
 .simp only [zbf hi,zN hi,zba hi,zT hi hl.1,cT]
 .simp only [zbd,cF]
 exact zii zlg zmt _ a0.Mons 0 [] (fun x hx=>⟨zbs (h2.2 x hx),rfl⟩) (by simpa using hl.2)
theorem zFG:vB 20 zv4:=kF1 zwY zq zl zn zML zLF
def allI {α:Type}(p:Nat->α->Bool):List α->Nat->Bool
 | [],_=>true
 | x :: l,i=>p i x&&allI p l (i+1)
theorem zFA {α ρ:Type}(p:Nat->α->Bool)(r:Option ρ)(K:Unit->Option ρ):∀(l:List α) (i:Nat),goL (fun i x (_:Unit) k=>bif p i x then k () else r) K l i ()=bif allI p l i then K () else r
 | [],_=>rfl
 | x :: l,i=>by
  simp only[goL,allI];cases p i x
  .rfl
  .simp only [cT,u1];exact zFA p r K l (i+1)
theorem zNr {α:Type}(q:α->Bool)(l:List α)(d:α):∀(n i:Nat),i+n<=l.length->zmR (fun j=>q (ix l (j:Int) d)) n i=((l.drop i).take n).all q
 | 0,i,_=>by simp[zmR]
 | n+1,i,h=>by
  have hi:i<l.length:=by omega
  rw[kG hi,List.take_succ_cons,uA,<- zNr q l d n (i+1) (by omega)]
  simp only[zmR,zba hi]
def sameKey (a b:Entry):Bool:=bif ieq a.Tag b.Tag then ieq a.Page b.Page else false
def alone (l:List Entry)(i:Nat)(x:Entry):Bool:=(l.take i).all fun y=>!sameKey x y
def zew (l:List Entry):Bool:=bif allI (alone l) l 0 then ile (ln l) 6 else false
theorem z1v {α:Type}{l:List α}{i:Nat}(h:i<=l.length):inr 0 (i:Int) (ln l)=true:=qI (by simp only[ln];omega)
@[simp] abbrev zm2 (l:List Entry):Bool:=true
@[simp] abbrev zm1 (l:List Entry):Bool:=zew l
def zv0:Run:=rF1 (dS .entry) fun b=>(zm2 b,[aB (zm1 b)])
def zzw (N:Nat)(a0:lE):OA:=
 (iter (σ:=(Int×(Int×(lE×Unit)))) N (fun r2 s3=>let y3:=s3.2.2.1;let y1:=(ix y3 s3.2.1 zev); (cond (ilt s3.2.1 s3.1) (oN (inb s3.2.1 (ln y3)) (oN (inr 0 s3.2.1 (ln y3)) (iter (σ:=(Int×(Int×(Int×(Int×(Int×(Int×(Int×(Int×(lE×(lE×Unit))))))))))) N (fun r4 s5=>let y4:=s5.2.2.2.1;let y2:=s5.2.2.2.2.2.2.2.2.2.1;let y0:=(r4 (s5.1,(s5.2.1,(s5.2.2.1,((zG .i64 y4 1),(s5.2.2.2.2.1,(s5.2.2.2.2.2.1,(s5.2.2.2.2.2.2.1,(s5.2.2.2.2.2.2.2.1,(s5.2.2.2.2.2.2.2.2.1,(y2,()))))))))))); (cond (ilt y4 s5.2.2.1) (oN (inb y4 (ln y2)) (cond (ieq s5.2.2.2.2.1 (ix y2 y4 zev).Tag) (cond (ieq s5.2.2.2.2.2.1 (ix y2 y4 zev).Page) oF y0) y0)) (r2 (s5.1,((zG .i64 s5.2.1 1),(s5.2.2.2.2.2.2.2.2.1,())))))) (s3.1,(s3.2.1,((ln (tk y3 s3.2.1)),(0,(y1.Tag,(y1.Page,(y1.Host,(y1.Rights,(y3,((tk y3 s3.2.1),()))))))))))))) (some [(aB (ile (ln y3) 6))]))) ((ln a0),(0,(a0,()))))
def zMJ:FuncId->Nat->Option Tmpl:=zo [(48,0,{ n:=39,tm:=[(0,.sl 0 []),(7,.sl 0 []),(8,ti),(9,ti)],lo:=[],ro:=[(0,.entry,false)] }),(48,2,{ n:=39,tm:=[(0,.sl 0 []),(4,.lp 0 0),(7,.sl 0 []),(8,ti),(9,ti),(16,.sl 1 []),(17,ti),(18,ti)],lo:=[(0,[ti,ti,ti,ti])],ro:=[(0,.entry,false),(1,.entry,false)] })]
theorem zLB (a0:List Entry)(hb:zbG big [aS .entry a0])(hc:zm2 a0=true):∃N,zzw N a0=some [aB (zm1 a0)]:=by
 have hl:=(len0 hb);refine zbP fun N hNN=>?_;unfold zzw oN
 conv=>zeta
 refine (zbc a0 (fun i (t:Unit)=>((ln a0),(i:Int),a0,())) _ (fun i (x:Entry) (_:Unit) κ=>bif alone a0 i x then κ () else oF) (fun (t:Unit)=>(some [(.one (.b (ile (ln a0) 6)))])) (fun i hi t rec=>?_) (fun t rec=>?_) _ () (hNN hl)).trans ?_
 .simp only [zbf hi,zN hi,zba hi,zT hi hl,cT];rw[z1v (Nat.le_of_lt hi),cT];have hk:(tk a0 (i:Int)).length<=big:=jB (by simp[tk];omega) hl
  refine (zbc (tk a0 (i:Int)) (fun j (u:Unit)=>((ln a0),(i:Int),(ln (tk a0 (i:Int))),(j:Int),a0[i].Tag,a0[i].Page,a0[i].Host,a0[i].Rights,a0,(tk a0 (i:Int)),())) _ (fun _ (y:Entry) (_:Unit) κ=>bif !sameKey a0[i] y then κ () else oF) (fun (u:Unit)=>(rec ((ln a0),((((i+1:Nat)):Int),(a0,()))))) (fun j hj u rec1=>?_) (fun u rec1=>?_) _ () (hNN hk)).trans ?_
  .simp only [zbf hj,zN hj,zba hj,zT hj hk,cT,zT hi hl];unfold sameKey;cases ieq a0[i].Tag (tk a0 (i:Int))[j].Tag<;>cases ieq a0[i].Page (tk a0 (i:Int))[j].Page<;>rfl
  .simp only [zbd,cF,zT hi hl]
  rw[zgl (fun y=>!sameKey a0[i] y)];rfl
 .simp only [zbd,cF]
 rw[zFA (alone a0)];unfold zm1 zew;cases allI (alone a0) a0 0<;>rfl
theorem zFC:vB 48 zv0:=hF1 zwY zq zl zn zMJ zLB
@[simp] abbrev zny (l:List Entry):Bool:=true
@[simp] abbrev znx (l:List Entry):Bool:=zew l
def zwf:Run:=rF1 (dS .entry) fun b=>(zny b,[aB (znx b)])
def zzN (N:Nat)(a0:lE):OA:=
 (iter (σ:=(Int×(lE×Unit))) N (fun r2 s3=>(cond (ilt s3.1 (ln s3.2.1)) (iter (σ:=(Int×(Int×(lE×Unit)))) N (fun r4 s5=>let y0:=s5.2.2.1;let y2:=(ix y0 s5.2.1 zev);let y1:=(r4 (s5.1,((zG .i64 s5.2.1 1),(y0,())))); (cond (ilt s5.2.1 s5.1) (oN (inb s5.1 (ln y0)) (oN (inb s5.2.1 (ln y0)) (cond (ieq (ix y0 s5.1 zev).Tag y2.Tag) (oN (inb s5.1 (ln y0)) (oN (inb s5.2.1 (ln y0)) (cond (ieq (ix y0 s5.1 zev).Page y2.Page) oF y1))) y1))) (r2 ((zG .i64 s5.1 1),(y0,()))))) (s3.1,(0,(s3.2.1,())))) (some [(aB (ile (ln s3.2.1) 6))]))) (0,(a0,())))
def zMQ:FuncId->Nat->Option Tmpl:=zo [(215,0,{ n:=43,tm:=[(0,.sl 0 []),(3,ti)],lo:=[],ro:=[(0,.entry,false)] }),(215,2,{ n:=43,tm:=[(0,.sl 0 []),(3,ti),(4,ti)],lo:=[],ro:=[(0,.entry,false)] })]
theorem zLR (a0:List Entry)(hb:zbG big [aS .entry a0])(hc:zny a0=true):∃N,zzN N a0=some [aB (znx a0)]:=by
 have hl:=(len0 hb);refine zbP fun N hNN=>?_;unfold zzN oN
 conv=>zeta
 refine (zbc a0 (fun i (t:Unit)=>((i:Int),a0,())) _ (fun i (x:Entry) (_:Unit) κ=>bif alone a0 i x then κ () else oF) (fun (t:Unit)=>(some [(.one (.b (ile (ln a0) 6)))])) (fun i hi t rec=>?_) (fun t rec=>?_) _ () (hNN hl)).trans ?_
 .simp only [zbf hi,zN hi,zba hi,zT hi hl,cT];refine (zot i (fun (j:Nat) (_:Unit)=>((i:Int),((j:Int),(a0,())))) _ (fun j (_:Unit) κ=>bif !sameKey a0[i] (ix a0 (j:Int) zev) then κ () else oF) (fun _=>rec (((i+1:Nat):Int),(a0,()))) (fun j hj u rec1=>?_) (fun u rec1=>?_) _ () (hNN (by omega))).trans ?_
  .have hj2:j<a0.length:=by omega
   simp only[show ilt (j:Int) (i:Int)=true from qI (by omega),zN hi,zN hj2,zba hi,zT hj2 hl,cT]
   unfold sameKey;cases ieq a0[i].Tag (ix a0 (j:Int) zev).Tag<;>cases ieq a0[i].Page (ix a0 (j:Int) zev).Page<;>rfl
  .simp only [show ilt (i:Int) (i:Int)=false from qJ (by omega),zT hi hl,cF]
  rw[zCx (fun j=>!sameKey a0[i] (ix a0 (j:Int) zev)),zNr (fun y=>!sameKey a0[i] y) a0 _ i 0 (by omega)]
  rfl
 .simp only [zbd,cF]
 rw[zFA (alone a0)];unfold znx zew;cases allI (alone a0) a0 0<;>rfl
theorem zFR:vB 215 zwf:=hF1 zwY zq zl zn zMQ zLR
def z3f:zO:=[(20,zv4),(215,zwf),(48,zv0)]++z3e
theorem zFt:zF z3f:=zh zFG (zh zFR (zh zFC zwY))
theorem zLw (a b:Int):igt a b = !ile a b:=by
 unfold igt ile
 by_cases h:a<=b
 .rw [qI h,qJ (by omega)];rfl
 .rw [qJ h,qI (by omega)];rfl
theorem stB {c M:Bool}{E:OA}(h:c=true->E=some [AV.one (.b M)]):(cond (cond c false true) (some [AV.one (.b false)]) E)=some [AV.one (.b (cond c M false))]:=by
 cases c
 .rfl
 .exact h rfl
theorem stI {a b:Int}{M:Bool}{E:OA}(h:ieq a b=true->E=some [AV.one (.b M)]):(cond (ine a b) (some [AV.one (.b false)]) E)=some [AV.one (.b (cond (ieq a b) M false))]:=by
 rw[zku];cases hh:ieq a b
 .rfl
 .exact h hh
theorem stG {a b:Int}{M:Bool}{E:OA}(h:ile a b=true->E=some [AV.one (.b M)]):(cond (igt a b) (some [AV.one (.b false)]) E)=some [AV.one (.b (cond (ile a b) M false))]:=by
 rw[zLw];cases hh:ile a b
 .rfl
 .exact h hh
def zkA (s:Slot)(p:List Int):Bool:=bif zcy s noSlot then zb6 p else (cond (enough s.Rights 1) (ile (ln p) 0) false)
def fits (m:Mon)(j:Nat):Bool:=zkA (ix m.Outer (j:Int) zK) (ix m.Out (j:Int) [])
def zdE (m:Mon):Bool:=bif win (ln m.Guests) 1 2 then (cond (ieq (ln m.Tables) (ln m.Guests)) (cond (zcv m.Outer 8 12) (cond (ieq (ln m.Out) 8) (cond (ieq (ln m.Dirty) 8) (cond (ile (ln m.Outs) 40) (cond (zcK m.Pending) (cond (win m.Traps 0 3) (cond (win m.Own 0 1000000000) (cond (m.Guests.all zcW) (zmR (fits m) 8 0) false) false) false) false) false) false) false) false) false) else false
theorem zqh {t:List Slot}{n p:Int}(h:zcv t n p=true):ln t=n:=by
 unfold zcv at h;cases h1:t.all (fun s=>zde s p)
 .rw [h1]at h;cases h
 .rw [h1]at h;exact qE h
@[simp] abbrev zp3 (m:Mon):Bool:=true
@[simp] abbrev zrH (m:Mon):Bool:=zdE m
def zEK:Run:=rF1 (dT .mon) fun b=>(zp3 b,[aB (zrH b)])
def zM9 (N:Nat)(a0:Mon):OA:=
 let y5:=(ln a0.Guests); (oN (zb7 y5 1 2) (cond (nB (zco y5 1 2)) oF (cond (ine (ln a0.Tables) y5) oF (oN (zlf a0.Outer 8 12) (cond (nB (zg5 a0.Outer 8 12)) oF (cond (ine (ln a0.Out) 8) oF (cond (ine (ln a0.Dirty) 8) oF (cond (igt (ln a0.Outs) 40) oF (oN (zra a0.Pending) (cond (nB (zop a0.Pending)) oF (oN (zb7 a0.Traps 0 3) (cond (nB (zco a0.Traps 0 3)) oF (oN (zb7 a0.Own 0 1000000000) (cond (nB (zco a0.Own 0 1000000000)) oF (iter (σ:=(Int×(Int×(Int×(Int×(Int×(lG×(lS×(lM×(lB×((List Int)×(lK×Unit)))))))))))) N (fun r2 s3=>let y6:=s3.2.2.2.2.2.2.1;let y3:=s3.2.2.2.2.2.1;let y7:=(ix y3 s3.2.1 zx); (cond (ilt s3.2.1 s3.1) (oN (inb s3.2.1 (ln y3)) (oN (zo7 y7) (cond (nB (zms y7)) oF (r2 (s3.1,((zG .i64 s3.2.1 1),(s3.2.2.1,(s3.2.2.2.1,(s3.2.2.2.2.1,(y3,(y6,(s3.2.2.2.2.2.2.2.1,(s3.2.2.2.2.2.2.2.2.1,(s3.2.2.2.2.2.2.2.2.2.1,(s3.2.2.2.2.2.2.2.2.2.2.1,()))))))))))))))) (iter (σ:=(Int×(Int×(Int×(Int×(Int×(lS×(lM×(lB×(lG×((List Int)×(lK×Unit)))))))))))) N (fun r4 s5=>let y4:=s5.2.1;let y2:=s5.2.2.2.2.2.2.1;let y1:=(ix s5.2.2.2.2.2.1 y4 zK);let y0:=(r4 (s5.1,((zG .i64 y4 1),(s5.2.2.1,(s5.2.2.2.1,(s5.2.2.2.2.1,(s5.2.2.2.2.2.1,(y2,(s5.2.2.2.2.2.2.2.1,(s5.2.2.2.2.2.2.2.2.1,(s5.2.2.2.2.2.2.2.2.2.1,(s5.2.2.2.2.2.2.2.2.2.2.1,())))))))))))); (cond (ilt y4 s5.1) (oN (inb y4 (ln s5.2.2.2.2.2.1)) (oN zeM (cond (cond (ieq y1.Page zeL.Page) (ieq y1.Rights zeL.Rights) false) (oN (inb y4 (ln y2)) (oN (zg4 (ix y2 y4 [])) (cond (nB (zfM (ix y2 y4 []))) oF y0))) (oN (zit y1.Rights 1) (cond (nB (zis y1.Rights 1)) oF (oN (inb y4 (ln y2)) (cond (igt (ln (ix y2 y4 [])) 0) oF y0))))))) oT)) ((ln y6),(0,(s3.2.2.1,(s3.2.2.2.1,(s3.2.2.2.2.1,(y6,(s3.2.2.2.2.2.2.2.1,(s3.2.2.2.2.2.2.2.2.1,(y3,(s3.2.2.2.2.2.2.2.2.2.1,(s3.2.2.2.2.2.2.2.2.2.2.1,())))))))))))))) (y5,(0,(a0.Pending,(a0.Traps,(a0.Own,(a0.Guests,(a0.Outer,(a0.Out,(a0.Dirty,(a0.Outs,(a0.Tables,()))))))))))))))))))))))))))
def zVg:FuncId->Nat->Option Tmpl:=zo [(49,0,{ n:=106,tm:=[(1,.lp 0 0),(64,.sl 0 []),(65,ti),(66,ti)],lo:=[(0,[.sl 1 [],.sl 2 [],.sl 3 [],.sl 0 [],.sl 4 [],ti,ti,.sl 5 [],ti])],ro:=[(0,.guest,false),(1,.slot,false),(2,(.sl .int),false),(3,.bool,false),(4,.int,false),(5,.kept,false)] }),(49,2,{ n:=106,tm:=[(1,.lp 0 0),(75,.sl 0 []),(76,ti),(77,ti)],lo:=[(0,[.sl 0 [],.sl 1 [],.sl 2 [],.sl 3 [],.sl 4 [],ti,ti,.sl 5 [],ti])],ro:=[(0,.slot,false),(1,(.sl .int),false),(2,.bool,false),(3,.guest,false),(4,.int,false),(5,.kept,false)] })]
theorem zUm (a0:Mon)(hb:zbG big [aT .mon a0])(hc:zp3 a0=true):∃N,zM9 N a0=some [aB (zrH a0)]:=by
 have hg:a0.Guests.length<=big:=((zcX hb).1 (.s .guest a0.Guests) (by simp[AV.cvs,Ty.cells])).len
 have ho:a0.Outer.length<=big:=((zcX hb).1 (.s .slot a0.Outer) (by simp[AV.cvs,Ty.cells])).len
 refine zbP fun N hNN=>?_;unfold zM9 zrH zdE oN nB
 conv=>zeta
 refine must rfl (stB fun h0=>stI fun h1=>must rfl (stB fun h2=>stI fun h3=>stI fun h4=>stG fun h5=>must rfl (stB fun h6=>must rfl (stB fun h7=>must rfl (stB fun h8=>?_)))));have e1:=zqh h2;have e3:ln a0.Out=8:=qE h3;simp only[ln] at e1 e3;refine (zbc a0.Guests (fun i (t:Unit)=>((ln a0.Guests),(i:Int),a0.Pending,a0.Traps,a0.Own,a0.Guests,a0.Outer,a0.Out,a0.Dirty,a0.Outs,a0.Tables,())) _ (fun _ (x:Guest) (_:Unit) κ=>bif zcW x then κ () else oF) (fun (t:Unit)=>(iter (σ:=(Int×(Int×(Int×(Int×(Int×(lS×(lM×(lB×(lG×((List Int)×(lK×Unit)))))))))))) N (fun r4 s5=>(cond (ilt s5.2.1 s5.1) (cond (inb s5.2.1 (ln s5.2.2.2.2.2.1)) (cond zeM (cond (cond (ieq (ix s5.2.2.2.2.2.1 s5.2.1 zK).Page zeL.Page) (ieq (ix s5.2.2.2.2.2.1 s5.2.1 zK).Rights zeL.Rights) false) (cond (inb s5.2.1 (ln s5.2.2.2.2.2.2.1)) (cond (zg4 (ix s5.2.2.2.2.2.2.1 s5.2.1 [])) (cond (cond (zfM (ix s5.2.2.2.2.2.2.1 s5.2.1 [])) false true) oF (r4 (s5.1,((zG .i64 s5.2.1 1),(s5.2.2.1,(s5.2.2.2.1,(s5.2.2.2.2.1,(s5.2.2.2.2.2.1,(s5.2.2.2.2.2.2.1,(s5.2.2.2.2.2.2.2.1,(s5.2.2.2.2.2.2.2.2.1,(s5.2.2.2.2.2.2.2.2.2.1,(s5.2.2.2.2.2.2.2.2.2.2.1,()))))))))))))) none) none) (cond (zit (ix s5.2.2.2.2.2.1 s5.2.1 zK).Rights 1) (cond (cond (zis (ix s5.2.2.2.2.2.1 s5.2.1 zK).Rights 1) false true) oF (cond (inb s5.2.1 (ln s5.2.2.2.2.2.2.1)) (cond (igt (ln (ix s5.2.2.2.2.2.2.1 s5.2.1 [])) 0) oF (r4 (s5.1,((zG .i64 s5.2.1 1),(s5.2.2.1,(s5.2.2.2.1,(s5.2.2.2.2.1,(s5.2.2.2.2.2.1,(s5.2.2.2.2.2.2.1,(s5.2.2.2.2.2.2.2.1,(s5.2.2.2.2.2.2.2.2.1,(s5.2.2.2.2.2.2.2.2.2.1,(s5.2.2.2.2.2.2.2.2.2.2.1,()))))))))))))) none)) none)) none) none) (some [(.one (.b true))]))) ((ln a0.Outer),(0,(a0.Pending,(a0.Traps,(a0.Own,(a0.Outer,(a0.Out,(a0.Dirty,(a0.Guests,(a0.Outs,(a0.Tables,()))))))))))))) (fun i hi t rec=>?_) (fun t rec=>?_) _ () (hNN hg)).trans ?_
 .simp only [zbf hi,zN hi,zba hi,zT hi hg,cT];simp only[zo7,zms,cT];cases zcW a0.Guests[i]<;>rfl
 .simp only [zbd,cF]
 rw[zgl zcW];cases a0.Guests.all zcW
 .rfl
 simp only[cT];refine (zbc a0.Outer (fun j (u:Unit)=>((ln a0.Outer),(j:Int),a0.Pending,a0.Traps,a0.Own,a0.Outer,a0.Out,a0.Dirty,a0.Guests,a0.Outs,a0.Tables,())) _ (fun j (_:Slot) (_:Unit) κ=>bif fits a0 j then κ () else oF) (fun (u:Unit)=>(some [(.one (.b true))])) (fun j hj u rec1=>?_) (fun u rec1=>?_) _ () (hNN ho)).trans ?_
 .simp only [zbf hj,zN hj,zba hj,zT hj ho,cT];have hj2:j<a0.Out.length:=by omega
  simp only[zeM,zeL,zg4,zfM,zit,zis,zN hj2,zLw,cT];unfold fits zkA;simp only[zba hj,zcy];cases ieq a0.Outer[j].Page noSlot.Page<;>cases ieq a0.Outer[j].Rights noSlot.Rights<;>cases enough a0.Outer[j].Rights 1<;>cases ile (ln (ix a0.Out (j:Int) [])) 0<;>cases zb6 (ix a0.Out (j:Int) [])<;>rfl
 .simp only [zbd,cF]
 rw[zvE (fun j (_:Unit) κ=>bif fits a0 j then κ () else oF),zCx (fits a0),show a0.Outer.length=8 by omega]
 cases zmR (fits a0) 8 0<;>rfl
theorem zOG:vB 49 zEK:=hF1 zFt zq zl zn zVg zUm
@[simp] abbrev zqc (m:Mon):Bool:=true
@[simp] abbrev zrN (m:Mon):Bool:=zdE m
def zET:Run:=rF1 (dT .mon) fun b=>(zqc b,[aB (zrN b)])
def zNj (N:Nat)(a0:Mon):OA:=
 (oN (zI (ln a0.Guests) 1 2) (cond (nB (zL (ln a0.Guests) 1 2)) oF (cond (ine (ln a0.Tables) (ln a0.Guests)) oF (oN (zly a0.Outer 8 12) (cond (nB (zhf a0.Outer 8 12)) oF (cond (ine (ln a0.Out) 8) oF (cond (ine (ln a0.Dirty) 8) oF (iter (σ:=(Int×(Int×(Int×(Int×(lS×(lM×(lB×(lG×((List Int)×(lK×Unit))))))))))) N (fun r2 s3=>let y3:=s3.2.2.2.2.2.2.2.1; (cond (ilt s3.1 (ln y3)) (oN (inb s3.1 (ln y3)) (oN (zlt (ix y3 s3.1 zx)) (cond (nB (zjZ (ix y3 s3.1 zx))) oF (r2 ((zG .i64 s3.1 1),(s3.2.1,(s3.2.2.1,(s3.2.2.2.1,(s3.2.2.2.2.1,(s3.2.2.2.2.2.1,(s3.2.2.2.2.2.2.1,(y3,(s3.2.2.2.2.2.2.2.2.1,(s3.2.2.2.2.2.2.2.2.2.1,())))))))))))))) (iter (σ:=(Int×(Int×(Int×(Int×(lS×(lM×(lB×(lG×((List Int)×(lK×Unit))))))))))) N (fun r4 s5=>let y7:=s5.2.2.2.2.1;let y4:=(inb s5.1 (ln s5.2.2.2.2.2.1));let y2:=(ix s5.2.2.2.2.2.1 s5.1 []);let y1:=(ix y7 s5.1 zK);let y6:=(ieq y1.Rights zbr.Rights);let y5:=(ieq y1.Page zbr.Page);let y0:=(r4 ((zG .i64 s5.1 1),(s5.2.1,(s5.2.2.1,(s5.2.2.2.1,(y7,(s5.2.2.2.2.2.1,(s5.2.2.2.2.2.2.1,(s5.2.2.2.2.2.2.2.1,(s5.2.2.2.2.2.2.2.2.1,(s5.2.2.2.2.2.2.2.2.2.1,()))))))))))); (cond (ilt s5.1 8) (oN (inb s5.1 (ln y7)) (oN zcj (cond (nB (cond y5 y6 false)) (oN y4 (cond (igt (ln y2) 0) oF (oN (inb s5.1 (ln y7)) (oN (zfZ y1.Rights 1) (cond (nB (zgI y1.Rights 1)) oF (cond (nB (nB (cond y5 y6 false))) (oN y4 (oN (zfo y2) (cond (nB (zeS y2)) oF y0))) y0)))))) (cond (nB (nB (cond y5 y6 false))) (oN y4 (oN (zfo y2) (cond (nB (zeS y2)) oF y0))) y0)))) (cond (ile (ln s5.2.2.2.2.2.2.2.2.1) 40) (oN (zeU s5.2.1) (cond (zeT s5.2.1) (oN (zI s5.2.2.1 0 3) (cond (zL s5.2.2.1 0 3) (oN (zI s5.2.2.2.1 0 1000000000) (some [(aB (zL s5.2.2.2.1 0 1000000000))])) oF)) oF)) oF))) (0,(s3.2.1,(s3.2.2.1,(s3.2.2.2.1,(s3.2.2.2.2.1,(s3.2.2.2.2.2.1,(s3.2.2.2.2.2.2.1,(y3,(s3.2.2.2.2.2.2.2.2.1,(s3.2.2.2.2.2.2.2.2.2.1,()))))))))))))) (0,(a0.Pending,(a0.Traps,(a0.Own,(a0.Outer,(a0.Out,(a0.Dirty,(a0.Guests,(a0.Outs,(a0.Tables,()))))))))))))))))))
def zVj:FuncId->Nat->Option Tmpl:=zo [(216,0,{ n:=115,tm:=[(1,.lp 0 0),(3,ti)],lo:=[(0,[.sl 0 [],.sl 1 [],.sl 2 [],.sl 3 [],.sl 4 [],ti,ti,.sl 5 [],ti])],ro:=[(0,.slot,false),(1,(.sl .int),false),(2,.bool,false),(3,.guest,false),(4,.int,false),(5,.kept,false)] }),(216,2,{ n:=115,tm:=[(1,.lp 0 0),(4,ti)],lo:=[(0,[.sl 0 [],.sl 1 [],.sl 2 [],.sl 3 [],.sl 4 [],ti,ti,.sl 5 [],ti])],ro:=[(0,.slot,false),(1,(.sl .int),false),(2,.bool,false),(3,.guest,false),(4,.int,false),(5,.kept,false)] })]
theorem zUx (a0:Mon)(hb:zbG big [aT .mon a0])(hc:zqc a0=true):∃N,zNj N a0=some [aB (zrN a0)]:=by
 have hg:a0.Guests.length<=big:=((zcX hb).1 (.s .guest a0.Guests) (by simp[AV.cvs,Ty.cells])).len
 refine zbP fun N hNN=>?_;unfold zNj zrN zdE oN nB
 conv=>zeta
 refine must rfl (stB fun h0=>stI fun h1=>must rfl (stB fun h2=>stI fun h3=>stI fun h4=>?_));have e1:=zqh h2;have e3:ln a0.Out=8:=qE h3;simp only[ln] at e1 e3;refine (zbc a0.Guests (fun i (t:Unit)=>((i:Int),a0.Pending,a0.Traps,a0.Own,a0.Outer,a0.Out,a0.Dirty,a0.Guests,a0.Outs,a0.Tables,())) _ (fun _ (x:Guest) (_:Unit) κ=>bif zcW x then κ () else oF) (fun (t:Unit)=>(iter (σ:=(Int×(Int×(Int×(Int×(lS×(lM×(lB×(lG×((List Int)×(lK×Unit))))))))))) N (fun r4 s5=>(cond (ilt s5.1 8) (cond (inb s5.1 (ln s5.2.2.2.2.1)) (cond zcj (cond (cond (cond (ieq (ix s5.2.2.2.2.1 s5.1 zK).Page zbr.Page) (ieq (ix s5.2.2.2.2.1 s5.1 zK).Rights zbr.Rights) false) false true) (cond (inb s5.1 (ln s5.2.2.2.2.2.1)) (cond (igt (ln (ix s5.2.2.2.2.2.1 s5.1 [])) 0) oF (cond (inb s5.1 (ln s5.2.2.2.2.1)) (cond (zfZ (ix s5.2.2.2.2.1 s5.1 zK).Rights 1) (cond (cond (zgI (ix s5.2.2.2.2.1 s5.1 zK).Rights 1) false true) oF (cond (cond (cond (cond (ieq (ix s5.2.2.2.2.1 s5.1 zK).Page zbr.Page) (ieq (ix s5.2.2.2.2.1 s5.1 zK).Rights zbr.Rights) false) false true) false true) (cond (inb s5.1 (ln s5.2.2.2.2.2.1)) (cond (zfo (ix s5.2.2.2.2.2.1 s5.1 [])) (cond (cond (zeS (ix s5.2.2.2.2.2.1 s5.1 [])) false true) oF (r4 ((zG .i64 s5.1 1),(s5.2.1,(s5.2.2.1,(s5.2.2.2.1,(s5.2.2.2.2.1,(s5.2.2.2.2.2.1,(s5.2.2.2.2.2.2.1,(s5.2.2.2.2.2.2.2.1,(s5.2.2.2.2.2.2.2.2.1,(s5.2.2.2.2.2.2.2.2.2.1,())))))))))))) none) none) (r4 ((zG .i64 s5.1 1),(s5.2.1,(s5.2.2.1,(s5.2.2.2.1,(s5.2.2.2.2.1,(s5.2.2.2.2.2.1,(s5.2.2.2.2.2.2.1,(s5.2.2.2.2.2.2.2.1,(s5.2.2.2.2.2.2.2.2.1,(s5.2.2.2.2.2.2.2.2.2.1,()))))))))))))) none) none)) none) (cond (cond (cond (cond (ieq (ix s5.2.2.2.2.1 s5.1 zK).Page zbr.Page) (ieq (ix s5.2.2.2.2.1 s5.1 zK).Rights zbr.Rights) false) false true) false true) (cond (inb s5.1 (ln s5.2.2.2.2.2.1)) (cond (zfo (ix s5.2.2.2.2.2.1 s5.1 [])) (cond (cond (zeS (ix s5.2.2.2.2.2.1 s5.1 [])) false true) oF (r4 ((zG .i64 s5.1 1),(s5.2.1,(s5.2.2.1,(s5.2.2.2.1,(s5.2.2.2.2.1,(s5.2.2.2.2.2.1,(s5.2.2.2.2.2.2.1,(s5.2.2.2.2.2.2.2.1,(s5.2.2.2.2.2.2.2.2.1,(s5.2.2.2.2.2.2.2.2.2.1,())))))))))))) none) none) (r4 ((zG .i64 s5.1 1),(s5.2.1,(s5.2.2.1,(s5.2.2.2.1,(s5.2.2.2.2.1,(s5.2.2.2.2.2.1,(s5.2.2.2.2.2.2.1,(s5.2.2.2.2.2.2.2.1,(s5.2.2.2.2.2.2.2.2.1,(s5.2.2.2.2.2.2.2.2.2.1,()))))))))))))) none) none) (cond (ile (ln s5.2.2.2.2.2.2.2.2.1) 40) (cond (zeU s5.2.1) (cond (zeT s5.2.1) (cond (zI s5.2.2.1 0 3) (cond (zL s5.2.2.1 0 3) (cond (zI s5.2.2.2.1 0 1000000000) (some [(.one (.b (zL s5.2.2.2.1 0 1000000000)))]) none) oF) none) oF) none) oF))) (0,(a0.Pending,(a0.Traps,(a0.Own,(a0.Outer,(a0.Out,(a0.Dirty,(a0.Guests,(a0.Outs,(a0.Tables,())))))))))))) (fun i hi t rec=>?_) (fun t rec=>?_) _ () (hNN hg)).trans ?_
 .simp only [zbf hi,zN hi,zba hi,zT hi hg,cT];simp only[zlt,zjZ,cT];cases zcW a0.Guests[i]<;>rfl
 .simp only [zbd,cF]
 rw[zgl zcW];cases hq:a0.Guests.all zcW
 .simp only [cF];cases ile (ln a0.Outs) 40<;>cases zcK a0.Pending<;>cases win a0.Traps 0 3<;>cases win a0.Own 0 1000000000<;>rfl
 simp only[cT];refine (zot 8 (fun j (u:Unit)=>((j:Int),a0.Pending,a0.Traps,a0.Own,a0.Outer,a0.Out,a0.Dirty,a0.Guests,a0.Outs,a0.Tables,())) _ (fun j (_:Unit) κ=>bif fits a0 j then κ () else oF) (fun (u:Unit)=>(cond (ile (ln a0.Outs) 40) (cond (zeU a0.Pending) (cond (zeT a0.Pending) (cond (zI a0.Traps 0 3) (cond (zL a0.Traps 0 3) (cond (zI a0.Own 0 1000000000) (some [(.one (.b (zL a0.Own 0 1000000000)))]) none) oF) none) oF) none) oF)) (fun j hj u rec1=>?_) (fun u rec1=>?_) _ () (hNN (by decide))).trans ?_
 .simp only [show ilt (j:Int) 8=true from qI (by omega),zT hj (show 8<=big by decide),cT]
  have hj1:j<a0.Outer.length:=by omega
  have hj2:j<a0.Out.length:=by omega
  simp only[zcj,zbr,zfo,zeS,zfZ,zgI,zN hj1,zN hj2,zLw,cT];unfold fits zkA;simp only[zba hj1,zcy];cases ieq a0.Outer[j].Page noSlot.Page<;>cases ieq a0.Outer[j].Rights noSlot.Rights<;>cases enough a0.Outer[j].Rights 1<;>cases ile (ln (ix a0.Out (j:Int) [])) 0<;>cases zb6 (ix a0.Out (j:Int) [])<;>rfl
 .simp only [show ilt (((8:Nat)):Int) 8=false from qJ (by omega),cF]
  rfl
 rw[zCx (fits a0)];simp only[zeU,zeT,zI,zQn,cT];cases zmR (fits a0) 8 0<;>cases ile (ln a0.Outs) 40<;>cases zcK a0.Pending<;>cases win a0.Traps 0 3<;>cases win a0.Own 0 1000000000<;>rfl
theorem zOQ:vB 216 zET:=hF1 zFt zq zl zn zVj zUx
def z3g:zO:=[(216,zET),(49,zEK)]++z3f
theorem zFu:zF z3g:=zh zOQ (zh zOG zFt)
def zfV:List Slot->List Bool->Option (List Bool)
 | [],u=>some u
 | s :: l,u=>bif ilt s.Page 0 then zfV l u else (cond (ix u s.Page false) none (zfV l (up u s.Page true)))
def zhO:List Mon->List Bool->Bool
 | [],_=>true
 | m :: l,u=>bif zdE m then (match zfV m.Outer u with|some u'=>zhO l u'|none=>false) else false
def zbK (h:Host):Bool:=bif zgN h.Memory 12 then (cond (win (ln h.Mons) 1 3) (cond (zew h.Buffer) (cond (zew h.IoBuffer) (zhO h.Mons (rp 12 false)) false) false) false) else false
theorem zn1:∀(l:List Slot) (u u':List Bool),zfV l u=some u'->u'.length=u.length
 | [],u,u',h=>by cases h;rfl
 | s :: l,u,u',h=>by
  simp only[zfV]at h;cases h1:ilt s.Page 0
  .rw [h1]at h;cases h2:ix u s.Page false
   .rw [h2]at h;simpa using zn1 l _ u' h
   .rw [h2]at h;cases h
  .rw [h1]at h;exact zn1 l u u' h
theorem zCH {t:List Slot}{n:Int}(h:zcv t n 12=true):∀s∈t,s.Page<12:=by
 intro s hs;unfold zcv at h;cases h1:t.all (fun s=>zde s 12)
 .rw [h1]at h;cases h
 .have:=qO.1 h1 s hs;unfold zde at this;cases h2:zcy s noSlot
  .rw [h2] at this;simp only[cF,show igt 12 0=true from rfl,cT] at this
   cases h3:win s.Page 0 (wsub .i64 12 1)
   .rw [h3] at this;cases this
   .have:=(zfQ.1 h3).2;rw[show wsub .i64 12 1=11 from rfl] at this
    omega
  .unfold zcy at h2;rw[qD]at h2;have h2:s.Page = -1:=qE h2.1;omega
theorem zTT {s:Slot}{u:List Bool}(h:s.Page<12)(hu:u.length=12)(h0:ilt s.Page 0=false):inb s.Page (ln u)=true:=by
 have:=jV h0;exact qI (by simp only[ln];omega)
def zrT {ρ:Type}(r:Option ρ)(y:Slot)(u:List Bool)(κ:List Bool->Option ρ):Option ρ:=bif ilt y.Page 0 then κ u else (cond (inb y.Page (ln u)) (cond (ix u y.Page false) r (cond (inb y.Page (ln u)) (share (up u y.Page true) (fun x6=>κ x6)) none)) none)
theorem zxe {ρ:Type}(r:Option ρ)(K:List Bool->Option ρ):∀(l:List Slot) (i:Nat) (u:List Bool),(∀s∈l,s.Page<12)->u.length=12 ->
 goL (fun _ y u κ=>zrT r y u κ) K l i u=match zfV l u with|some u'=>K u'|none=>r
 | [],_,_,_,_=>rfl
 | s :: l,i,u,h,hu=>by
  simp only[goL,zfV,zrT];cases h1:ilt s.Page 0
  .have hh:=zTT (h s (by simp)) hu h1
   rw[hh];cases ix u s.Page false
   .simp only [cF,cT,share];exact zxe r K l (i+1) _ (fun s hs=>h s (by simp[hs])) (by simpa using hu)
   .rfl
  .simp only [cT];exact zxe r K l (i+1) u (fun s hs=>h s (by simp[hs])) hu
def zWA {ρ:Type}(r:Option ρ)(m:Mon)(u:List Bool)(κ:List Bool->Option ρ):Option ρ:=bif zdE m then goL (fun _ y u κ=>zrT r y u κ) κ m.Outer 0 u else r
theorem zcM {c x:Bool}:((cond c x false)=true)↔c=true/\x=true:=by
 cases c<;>simp
theorem zlo {m:Mon}(h:zdE m=true):zcv m.Outer 8 12=true:=by
 unfold zdE at h;simp only[zcM]at h;exact h.2.2.1
theorem zRh {K:Bool->OA}(k:List Bool->OA)(hk:∀u,k u=K true):∀(l:List Mon) (i:Nat) (u:List Bool),u.length=12 ->
 goL (fun _ m u κ=>zWA (K false) m u κ) k l i u=K (zhO l u)
 | [],_,u,_=>hk u
 | m :: l,i,u,hu=>by
  simp only[goL,zhO,zWA];cases h1:zdE m
  .rfl
  .simp only [cT];have ht:=zlo h1;rw[zxe _ _ _ _ _ (zCH ht) hu];cases h2:zfV m.Outer u with
   | none=>rfl
   | some u'=>exact zRh k hk l (i+1) u' ((zn1 _ _ _ h2).trans hu)
@[simp] abbrev zko (h:Host):Bool:=true
@[simp] abbrev zjI (h:Host):Bool:=zbK h
def zBd:Run:=rF1 dH fun b=>(zko b,[aB (zjI b)])
def zG2 (N:Nat)(a0:Host):OA:=
 (oN (zAO a0.Memory 12) (cond (nB (zoo a0.Memory 12)) oF (oN (zb7 (ln a0.Mons) 1 3) (cond (nB (zco (ln a0.Mons) 1 3)) oF (oN (zm2 a0.Buffer) (cond (nB (zm1 a0.Buffer)) oF (oN (zm2 a0.IoBuffer) (cond (nB (zm1 a0.IoBuffer)) oF (oN (cond (few 12) (ieq 12 12) false) (iter (σ:=(Int×(Int×(lB×(lN×Unit))))) N (fun r2 s3=>let y1:=(ix s3.2.2.2.1 s3.2.1 zf); (cond (ilt s3.2.1 s3.1) (oN (inb s3.2.1 (ln s3.2.2.2.1)) (oN (zp3 y1) (cond (nB (zrH y1)) oF (iter (σ:=(Int×(Int×(Int×(Int×(Int×(lB×(lN×Unit)))))))) N (fun r4 s5=>let y4:=s5.2.2.2.2.1;let y3:=s5.2.2.2.2.2.2.1;let y5:=(ix y3 s5.2.2.1 zf).Outer;let y2:=s5.2.2.2.2.2.1;let y0:=(ix y5 y4 zK).Page; (cond (ilt y4 s5.2.2.2.1) (oN (inb y4 (ln y5)) (cond (ilt y0 0) (r4 (s5.1,(s5.2.1,(s5.2.2.1,(s5.2.2.2.1,((zG .i64 y4 1),(y2,(y3,())))))))) (oN (inb y0 (ln y2)) (cond (ix y2 y0 false) oF (oN (inb y0 (ln y2)) (share (up y2 y0 true) (fun x6=>(r4 (s5.1,(s5.2.1,(s5.2.2.1,(s5.2.2.2.1,((zG .i64 y4 1),(x6,(y3,()))))))))))))))) (r2 (s5.1,((zG .i64 s5.2.1 1),(y2,(y3,()))))))) (s3.1,(s3.2.1,(s3.2.1,((ln y1.Outer),(0,(s3.2.2.1,(s3.2.2.2.1,()))))))))))) oT)) ((ln a0.Mons),(0,((rp 12 false),(a0.Mons,()))))))))))))))
def zTz:FuncId->Nat->Option Tmpl:=zo [(21,0,{ n:=63,tm:=[(3,.sl 0 []),(33,.sl 1 []),(34,ti),(35,ti)],lo:=[],ro:=[(0,.bool,true),(1,.mon,false)] }),(21,2,{ n:=63,tm:=[(3,.sl 0 []),(33,.sl 1 []),(34,ti),(35,ti),(43,.sl 1 [0]),(44,ti),(45,ti)],lo:=[],ro:=[(0,.bool,true),(1,.mon,false)] })]
theorem zRH (a0:Host)(hb:zbG big [aH a0])(hc:zko a0=true):∃N,zG2 N a0=some [aB (zjI a0)]:=by
 have hm:CVB big (.s .mon a0.Mons):=(zcX hb).1 _ (by simp[AV.cvs,zbh])
 have hl:=hm.len;refine zbP fun N hNN=>?_;unfold zG2 zjI zbK oN nB
 conv=>zeta
 refine must rfl (stB fun h0=>must rfl (stB fun h1=>must rfl (stB fun h2=>must rfl (stB fun h3=>must rfl ?_))));refine (zbc a0.Mons (fun i (t:lB)=>((ln a0.Mons),(i:Int),t,a0.Mons,())) _ (fun _ (x:Mon) (u:List Bool) κ=>zWA (oF) x u κ) (fun (t:lB)=>(some [(.one (.b true))])) (fun i hi t rec=>?_) (fun t rec=>?_) _ ((rp 12 false)) (hNN hl)).trans ?_
 .simp only [zbf hi,zN hi,zba hi,zT hi hl,cT];unfold zWA;cases h4:zdE a0.Mons[i]
  .simp only [zp3,zrH,h4,cT,cF]
  simp only[zp3,zrH,h4,cT,cF];have ho:a0.Mons[i].Outer.length<=big:=(hm.inv.2 _ (jE hi) (.s .slot _) (by simp[Ty.cells])).len
  refine (zbc a0.Mons[i].Outer (fun j (u:lB)=>((ln a0.Mons),(i:Int),(i:Int),(ln a0.Mons[i].Outer),(j:Int),u,a0.Mons,())) _ (fun _ (y:Slot) (u:List Bool) κ=>zrT (oF) y u κ) (fun (u:lB)=>(rec ((ln a0.Mons),((((i+1:Nat)):Int),(u,(a0.Mons,())))))) (fun j hj u rec1=>?_) (fun u rec1=>?_) _ (t) (hNN ho)).trans ?_
  .simp only [zbf hj,zN hj,zba hj,zT hj ho,cT,zN hi,zba hi,zT hi hl];rfl
  .simp only [zbd,cF,zN hi,zba hi,zT hi hl]
  rfl
 .simp only [zbd,cF]
 exact zRh (K:=fun b=>some [AV.one (.b b)]) _ (fun _=>rfl) _ _ _ rfl
theorem zKN:vB 21 zBd:=hF1 zFu zq zl zn zTz zRH
@[simp] abbrev zeQ (h:Host):Bool:=true
@[simp] abbrev zeP (h:Host):Bool:=zbK h
theorem zFB {ρ:Type}(r:Option ρ)(k:List Bool->Option ρ)(m:Mon):∀(n i:Nat) (u:List Bool),(∀s∈m.Outer,s.Page<12)->u.length=12->i+n=m.Outer.length ->
 goN (fun j u κ=>bif inb (j:Int) (ln m.Outer) then zrT r (ix m.Outer (j:Int) zK) u κ else none) k n i u=goL (fun _ y u κ=>zrT r y u κ) k (m.Outer.drop i) i u
 | 0,i,u,_,_,h=>by
  have:i=m.Outer.length:=by omega
  subst this;simp[goN,goL]
 | n+1,i,u,hs,hu,h=>by
  have hi:i<m.Outer.length:=by omega
  rw[kG hi];simp only[goN,goL,zN hi,zba hi,cT,zrT];cases h1:ilt m.Outer[i].Page 0
  .rw [zTT (hs _ (jE hi)) hu h1];cases ix u m.Outer[i].Page false
   .simp only [cF,cT,share];exact zFB r k m n (i+1) _ hs (by simpa using hu) (by omega)
   .rfl
  .simp only [cT];exact zFB r k m n (i+1) u hs hu (by omega)
def zBv:Run:=rF1 dH fun b=>(zeQ b,[aB (zeP b)])
def zHk (N:Nat)(a0:Host):OA:=
 (oN (zqa a0.Memory 12) (cond (nB (zkQ a0.Memory 12)) oF (oN (zI (ln a0.Mons) 1 3) (cond (nB (zL (ln a0.Mons) 1 3)) oF (oN (zny a0.Buffer) (cond (nB (znx a0.Buffer)) oF (oN (zny a0.IoBuffer) (cond (nB (znx a0.IoBuffer)) oF (oN (cond (few 12) (ieq 12 12) false) (iter (σ:=(Int×(lB×(lM×(lN×(lE×(lE×Unit))))))) N (fun r2 s3=>let y7:=(ix s3.2.2.2.1 s3.1 zf); (cond (ilt s3.1 (ln s3.2.2.2.1)) (oN (inb s3.1 (ln s3.2.2.2.1)) (oN (zqc y7) (cond (nB (zrN y7)) oF (iter (σ:=(Int×(Int×(lB×(lM×(lN×(lE×(lE×Unit)))))))) N (fun r4 s5=>let y6:=(zG .i64 s5.2.1 1);let y5:=s5.2.2.2.2.2.1;let y4:=s5.2.2.2.2.2.2.1;let y3:=s5.2.2.1;let y2:=s5.2.2.2.2.1;let y8:=(ix y2 s5.1 zf).Outer;let y1:=(r4 (s5.1,(y6,(y3,(s5.2.2.2.1,(y2,(y5,(y4,()))))))));let y0:=(ix y8 s5.2.1 zK).Page;let y9:=(inb y0 (ln y3)); (cond (ilt s5.2.1 8) (oN (inb s5.1 (ln y2)) (oN (inb s5.2.1 (ln y8)) (cond (ige y0 0) (oN y9 (cond (ix y3 y0 false) oF (cond (ige y0 0) (oN y9 (share (up y3 y0 true) (fun x6=>(r4 (s5.1,(y6,(x6,(s5.2.2.2.1,(y2,(y5,(y4,()))))))))))) y1))) (cond (ige y0 0) (oN y9 (share (up y3 y0 true) (fun x6=>(r4 (s5.1,(y6,(x6,(s5.2.2.2.1,(y2,(y5,(y4,()))))))))))) y1)))) (r2 ((zG .i64 s5.1 1),(y3,(s5.2.2.2.1,(y2,(y5,(y4,()))))))))) (s3.1,(0,(s3.2.1,(s3.2.2.1,(s3.2.2.2.1,(s3.2.2.2.2.1,(s3.2.2.2.2.2.1,()))))))))))) oT)) (0,((rp 12 false),(a0.Memory,(a0.Mons,(a0.Buffer,(a0.IoBuffer,()))))))))))))))))
def zTF:FuncId->Nat->Option Tmpl:=zo [(175,0,{ n:=72,tm:=[(1,.lp 0 0),(3,.sl 0 []),(4,ti)],lo:=[(0,[.sl 1 [],.sl 2 [],.sl 3 [],.sl 4 []])],ro:=[(0,.bool,true),(1,(.sl .int),false),(2,.mon,false),(3,.entry,false),(4,.entry,false)] }),(175,2,{ n:=72,tm:=[(1,.lp 0 0),(3,.sl 0 []),(4,ti),(5,ti)],lo:=[(0,[.sl 1 [],.sl 2 [],.sl 3 [],.sl 4 []])],ro:=[(0,.bool,true),(1,(.sl .int),false),(2,.mon,false),(3,.entry,false),(4,.entry,false)] })]
theorem zR0 (a0:Host)(hb:zbG big [aH a0])(hc:zeQ a0=true):∃N,zHk N a0=some [aB (zeP a0)]:=by
 have hm:CVB big (.s .mon a0.Mons):=(zcX hb).1 _ (by simp[AV.cvs,zbh])
 have hl:=hm.len;refine zbP fun N hNN=>?_;unfold zHk zeP zbK oN nB
 conv=>zeta
 refine must rfl (stB fun h0=>must rfl (stB fun h1=>must rfl (stB fun h2=>must rfl (stB fun h3=>must rfl ?_))));refine (zbc a0.Mons (fun i (t:lB)=>((i:Int),t,a0.Memory,a0.Mons,a0.Buffer,a0.IoBuffer,())) _ (fun _ (x:Mon) (u:List Bool) κ=>bif zdE x then goN (fun j u κ=>bif inb (j:Int) (ln x.Outer) then zrT (oF) (ix x.Outer (j:Int) zK) u κ else none) κ 8 0 u else oF) (fun (t:lB)=>(some [(.one (.b true))])) (fun i hi t rec=>?_) (fun t rec=>?_) _ ((rp 12 false)) (hNN hl)).trans ?_
 .simp only [zbf hi,zN hi,zba hi,zT hi hl,cT];cases h4:zdE a0.Mons[i]
  .simp only [zqc,zrN,h4,cT,cF]
  simp only[zqc,zrN,h4,cT,cF];refine (zot 8 (fun j (u:lB)=>((i:Int),(j:Int),u,a0.Memory,a0.Mons,a0.Buffer,a0.IoBuffer,())) _ (fun j (u:List Bool) κ=>bif inb (j:Int) (ln a0.Mons[i].Outer) then zrT (oF) (ix a0.Mons[i].Outer (j:Int) zK) u κ else none) (fun (u:lB)=>(rec ((((i+1:Nat)):Int),(u,(a0.Memory,(a0.Mons,(a0.Buffer,(a0.IoBuffer,())))))))) (fun j hj u rec1=>?_) (fun u rec1=>?_) _ (t) (hNN (by decide))).trans ?_
  .simp only [show ilt (j:Int) 8=true from qI (by omega),zT hj (show 8<=big by decide),cT,zN hi,zba hi,zT hi hl]
   unfold zrT;have e:ige (ix a0.Mons[i].Outer (j:Int) zK).Page 0 = !ilt (ix a0.Mons[i].Outer (j:Int) zK).Page 0:=by rw[z5b,Bool.not_not]
   simp only[e];cases ilt (ix a0.Mons[i].Outer (j:Int) zK).Page 0<;>cases inb (j:Int) (ln a0.Mons[i].Outer)<;>cases inb (ix a0.Mons[i].Outer (j:Int) zK).Page (ln u)<;>cases ix u (ix a0.Mons[i].Outer (j:Int) zK).Page false<;>rfl
  .simp only [show ilt (((8:Nat)):Int) 8=false from qJ (by omega),cF,zN hi,zba hi,zT hi hl]
  rfl
 .simp only [zbd,cF]
 have key:∀(l:List Mon) (i:Nat) (u:List Bool),u.length=12->goL (fun _ (x:Mon) (u:List Bool) κ=>bif zdE x then goN (fun j u κ=>bif inb (j:Int) (ln x.Outer) then zrT (oF) (ix x.Outer (j:Int) zK) u κ else none) κ 8 0 u else oF) (fun _=>oT) l i u=some [AV.one (.b (zhO l u))]:=by
  intro l
  induction l with
  | nil=>intro i u _;rfl
  | cons m l ih =>
   intro i u hu;simp only[goL,zhO];cases h1:zdE m
   .rfl
   .have ht:=zlo h1;have e8:0+8=m.Outer.length:=by have:=zqh ht;simp only[ln] at this;omega
    simp only[cT];rw[zFB _ _ m 8 0 u (zCH ht) hu e8,uJ,zxe _ _ _ _ _ (zCH ht) hu];cases h2:zfV m.Outer u with
    | none=>rfl
    | some u'=>exact ih (i+1) u' ((zn1 _ _ _ h2).trans hu)
 exact key _ _ _ rfl
theorem zK6:vB 175 zBv:=hF1 zFu zq zl zn zTF zR0
def z3h:zO:=[(175,zBv),(21,zBd)]++z3g
theorem zwZ:zF z3h:=zh zK6 (zh zKN zFu)
theorem zXe {h:Host}(hh:zbK h=true):(h.Mons.length:Int)<=3:=by
 unfold zbK at hh;simp only[zcM]at hh;exact (zfQ.1 hh.2.1).2
def zcf (h:Host)(m:Int):Bool:=bif zbK h then hasB m (ln h.Mons) else false
def zbC (h:Host)(m p:Int):Bool:=bif zbK h then (cond (hasB m (ln h.Mons)) (hasB p 8) false) else false
theorem zM4 {h:Host}(hh:zbK h=true)(m:Int):win m 0 (wsub .i64 (ln h.Mons) 1)=hasB m (ln h.Mons):=zoW (by have:=zXe hh;omega) m
theorem z7J (p:Int):win p 0 7=hasB p 8:=by
 unfold win ige ile hasB
 by_cases h1:0<=p<;>by_cases h2:p<8
 .rw [qI (p:=p≥0) (by omega),qI (p:=p<=7) (by omega),qI (p:=0<=p/\p<8) ⟨h1,h2⟩];rfl
 .rw [qJ (p:=p<=7) (by omega),qJ (p:=0<=p/\p<8) (by omega)];simp
 .rw [qJ (p:=p≥0) (by omega),qJ (p:=0<=p/\p<8) (by omega)];simp
 .rw [qJ (p:=p≥0) (by omega),qJ (p:=0<=p/\p<8) (by omega)];simp
@[simp] abbrev zeZ (h:Host)(m:Int):Bool:=true
@[simp] abbrev zeY (h:Host)(m:Int):Bool:=zcf h m
def zBP:Run:=rF2 dH dI fun b c=>(zeZ b c,[aB (zeY b c)])
def zHE (N:Nat)(a0:Host)(a1:Int):OA:=
 (oN (zeQ a0) (cond (zeP a0) (oN (zI a1 0 (wsub .i64 (ln a0.Mons) 1)) (some [(aB (zL a1 0 (wsub .i64 (ln a0.Mons) 1)))])) oF))
theorem zSq (a0:Host)(a1:Int)(hc:zeZ a0 a1=true):∃N,zHE N a0 a1=some [aB (zeY a0 a1)]:=by
 refine ⟨0,?_⟩;unfold zHE zeY zcf oN;cases hh:zbK a0
 .simp only [zeQ,zeP,hh,cT,cF]
 .simp only [zeQ,zeP,hh,cT,zI,zQn,zM4 hh]
theorem zLt:vB 141 zBP:=kF2 zwZ zq zl zn (zo []) zSq
@[simp] abbrev zmC (h:Host)(m p:Int):Bool:=true
@[simp] abbrev zgW (h:Host)(m p:Int):Bool:=zbC h m p
def zEZ:Run:=rF3 dH dI dI fun b c d=>(zmC b c d,[aB (zgW b c d)])
def zNp (N:Nat)(a0:Host)(a1 a2:Int):OA:=
 (oN (zeQ a0) (cond (zeP a0) (oN (zI a1 0 (wsub .i64 (ln a0.Mons) 1)) (cond (zL a1 0 (wsub .i64 (ln a0.Mons) 1)) (oN (zI a2 0 7) (some [(aB (zL a2 0 7))])) oF)) oF))
theorem zUE (a0:Host)(a1 a2:Int)(hc:zmC a0 a1 a2=true):∃N,zNp N a0 a1 a2=some [aB (zgW a0 a1 a2)]:=by
 refine ⟨0,?_⟩;unfold zNp zgW zbC oN;cases hh:zbK a0
 .simp only [zeQ,zeP,hh,cT,cF]
 .simp only [zeQ,zeP,hh,cT,zI,zQn,zM4 hh,z7J];cases hasB a1 (ln a0.Mons)<;>rfl
theorem zOX:vB 153 zEZ:=kF3 zwZ zq zl zn (zo []) zUE
@[simp] abbrev zlh (h:Host)(m p:Int):Bool:=true
@[simp] abbrev zg6 (h:Host)(m p:Int):Bool:=zbC h m p
def zyF:Run:=rF3 dH dI dI fun b c d=>(zlh b c d,[aB (zg6 b c d)])
def zDL (N:Nat)(a0:Host)(a1 a2:Int):OA:=
 (oN (zko a0) (cond (zjI a0) (oN (zdi a1 (ln a0.Mons)) (cond (zdT a1 (ln a0.Mons)) (oN (zdi a2 8) (some [(aB (zdT a2 8))])) oF)) oF))
theorem zO7 (a0:Host)(a1 a2:Int)(hc:zlh a0 a1 a2=true):∃N,zDL N a0 a1 a2=some [aB (zg6 a0 a1 a2)]:=by
 refine ⟨0,?_⟩;unfold zDL zg6 zbC oN;cases hh:zbK a0
 .simp only [zko,zjI,hh,cT,cF]
 .simp only [zko,zjI,hh,cT,zdi,zdT];cases hasB a1 (ln a0.Mons)<;>rfl
theorem zIk:vB 38 zyF:=kF3 zwZ zq zl zn (zo []) zO7
def z3i:zO:=[(141,zBP),(153,zEZ),(38,zyF)]++z3h
theorem zQV:zF z3i:=zh zLt (zh zOX (zh zIk zwZ))
def zdc (k:Kept)(p:Int):Bool:=bif hasB p (ln k.Known) then hasB p (ln k.Slots) else false
def zbI (k:Kept)(p:Int):Kept:=bif zdc k p then ⟨up k.Known p false,up k.Slots p noSlot⟩ else k
@[simp] theorem zn0 {k:Kept}{p:Int}(h:SmK k):SmK (zbI k p):=by
 unfold zbI;cases zdc k p
 .exact h
 .exact ⟨by simpa using h.1,by simpa using h.2⟩
theorem has_lt {p:Int}{n m:Int}(h:hasB p n=true):ilt p m=hasB p m:=by
 have h:=qE h;unfold ilt hasB
 by_cases h1:p<m
 .rw [qI h1,qI ⟨h.1,h1⟩]
 .rw [qJ h1,qJ (by omega)]
@[simp] abbrev znW (k:Kept)(p:Int):Bool:=pc (SmK k)
@[simp] abbrev zhC (k:Kept)(p:Int):Bool:=zdc k p
def zBN:Run:=rF2 (dT .kept) dI fun b c=>(znW b c,[aB (zhC b c)])
def zHC (N:Nat)(a0:Kept)(a1:Int):OA:=
 (oN (zI a1 0 (wsub .i64 (ln a0.Known) 1)) (cond (zL a1 0 (wsub .i64 (ln a0.Known) 1)) (some [(aB (ilt a1 (ln a0.Slots)))]) oF))
theorem zSk (a0:Kept)(a1:Int)(hc:znW a0 a1=true):∃N,zHC N a0 a1=some [aB (zhC a0 a1)]:=by
 have hs:=zD.1 hc;refine ⟨0,?_⟩;unfold zHC zhC zdc oN;simp only[zI,zQn,zoW hs.1,cT];cases hh:hasB a1 (ln a0.Known)
 .rfl
 .simp only [cT,has_lt hh]
theorem zLn:vB 196 zBN:=kF2 zQV zq zl zn (zo []) zSk
def z3j:zO:=[(196,zBN)]++z3i
theorem zFv:zF z3j:=zh zLn zQV
@[simp] abbrev zkI (k:Kept)(p:Int):Bool:=pc (SmK k)
@[simp] abbrev zjY (k:Kept)(p:Int):Kept:=zbI k p
def zBt:Run:=rF2 (dT .kept) dI fun b c=>(zkI b c,[aT .kept (zjY b c)])
def zHi (N:Nat)(a0:Kept)(a1:Int):OA:=
 let y0:=(zc9 a0); (oN (zfq a0) (oN (znW y0 a1) (cond (zhC y0 a1) (oN (inb a1 (ln y0.Known)) (share (up y0.Known a1 false) (fun x3=>(oN zcj (oN (inb a1 (ln y0.Slots)) (share (up y0.Slots a1 zbr) (fun x4=>(some [(aT .kept (⟨x3,x4⟩:Kept))])))))))) (some [(aT .kept y0)]))))
theorem zRY (a0:Kept)(a1:Int)(hc:zkI a0 a1=true):∃N,zHi N a0 a1=some [aT .kept (zjY a0 a1)]:=by
 have hs:=zD.1 hc;refine ⟨0,?_⟩;unfold zHi zjY oN
 conv=>zeta
 refine must (zbs ((zvv _).2 hs)) (must (zbs hs) ?_);unfold zbI;cases hh:zdc a0 a1
 .simp only [zhC,zc9,hh,cF]
 .simp only [zhC,zc9,hh,cT];unfold zdc at hh;obtain ⟨h1,h2⟩:=zcM.1 hh;simp only[zRv,h1,h2,cT,share,zcj]
theorem zK4:vB 146 zBt:=kF2 zFv zq zl zn (zo []) zRY
@[simp] abbrev zxm (k:Kept)(p:Int):Bool:=pc (SmK k)
@[simp] abbrev zsd (k:Kept)(p:Int):Kept:=zbI k p
def zBc:Run:=rF2 (dT .kept) dI fun b c=>(zxm b c,[aT .kept (zsd b c)])
def zG0 (N:Nat)(a0:Kept)(a1:Int):OA:=
 let y0:=(zdn a0); (oN (zgC a0) (oN (zdi a1 (ln a0.Known)) (cond (zdT a1 (ln a0.Known)) (oN (zdi a1 (ln a0.Slots)) (cond (zdT a1 (ln a0.Slots)) (oN (inb a1 (ln y0.Known)) (share (up y0.Known a1 false) (fun x3=>(oN zeM (oN (inb a1 (ln y0.Slots)) (share (up y0.Slots a1 zeL) (fun x4=>(some [(aT .kept (⟨x3,x4⟩:Kept))])))))))) (some [(aT .kept y0)]))) (some [(aT .kept y0)]))))
theorem zRF (a0:Kept)(a1:Int)(hc:zxm a0 a1=true):∃N,zG0 N a0 a1=some [aT .kept (zsd a0 a1)]:=by
 have hs:=zD.1 hc;refine ⟨0,?_⟩;unfold zG0 zsd oN
 conv=>zeta
 refine must (zbs hs) (must rfl ?_);unfold zbI zdc;simp only[zdT,zdi,zdn,zRv,share,zeM,cT];cases hasB a1 (ln a0.Known)
 .rfl
 .cases hasB a1 (ln a0.Slots)<;>rfl
theorem zKM:vB 115 zBc:=kF2 zFv zq zl zn (zo []) zRF
def z3k:zO:=[(146,zBt),(115,zBc)]++z3j
theorem zrW:zF z3k:=zh zK4 (zh zKM zFv)
def zd0 (k:Kept)(l:List Int):Kept:=l.foldl zbI k
theorem zWf:∀(l:List Int) {k:Kept},SmK k->SmK (zd0 k l)
 | [],_,h=>h
 | p :: l,k,h=>zWf l (zn0 (p:=p) h)
theorem zxd {ρ:Type}(K:List Bool×List Slot->Option ρ):∀(l:List Int) (i:Nat) (k:Kept),SmK k ->
 goL (fun _ x (t:List Bool×List Slot) κ=>bif pc (SmK ⟨t.1,t.2⟩) then κ ((zbI ⟨t.1,t.2⟩ x).Known,(zbI ⟨t.1,t.2⟩ x).Slots) else none) K l i (k.Known,k.Slots)=K ((zd0 k l).Known,(zd0 k l).Slots)
 | [],_,_,_=>rfl
 | x :: l,i,k,h=>by
  have e:pc (SmK ⟨k.Known,k.Slots⟩)=true:=zbs h;simp only[goL,e,cT];exact zxd K l (i+1) (zbI k x) (zn0 h)
def zCe (l:List Slot)(p:Int):List Int:=idxs (fun (s:Slot)=>ieq s.Page p) l 0
def zg2 (k:Kept)(l:List Slot)(p:Int):Kept:=zd0 k (zCe l p)
theorem z2g {k:Kept}(l:List Slot)(p:Int)(h:SmK k):SmK (zg2 k l p):=zWf _ h
@[simp] abbrev zkH (k:Kept)(l:List Slot)(p:Int):Bool:=pc (SmK k/\l.length<=1048576)
@[simp] abbrev zsI (k:Kept)(l:List Slot)(p:Int):Kept:=zg2 k l p
def zsy:Run:=rF3 (dT .kept) (dS .slot) dI fun b c d=>(zkH b c d,[aT .kept (zsI b c d)])
def zvr (N:Nat)(a0:Kept)(a1:lS)(a2:Int):OA:=
 (oN (zfq a0) (oN (zxV a1 a2) (iter (σ:=(Int×((List Int)×(lB×(lS×(lB×(lS×Unit))))))) N (fun r4 s5=>let y1:=(ix s5.2.1 s5.1 0);let y0:=(⟨s5.2.2.1,s5.2.2.2.1⟩:Kept); (cond (ilt s5.1 (ln s5.2.1)) (oN (inb s5.1 (ln s5.2.1)) (oN (zkI y0 y1) (r4 ((zG .i64 s5.1 1),(s5.2.1,((zjY y0 y1).Known,((zjY y0 y1).Slots,(s5.2.2.2.2.1,(s5.2.2.2.2.2.1,()))))))))) (some [(aT .kept y0)]))) (0,((zoP a1 a2),((zc9 a0).Known,((zc9 a0).Slots,([],([],())))))))))
def zGS:FuncId->Nat->Option Tmpl:=zo [(212,0,{ n:=27,tm:=[(3,.lp 0 0),(6,.lp 1 0),(7,.sl 0 []),(8,ti)],lo:=[(0,[.sl 1 [],.sl 2 []]),(1,[.sl 3 [],.sl 4 []])],ro:=[(0,.int,true),(1,.bool,true),(2,.slot,true),(3,.bool,true),(4,.slot,true)] })]
theorem zGr (a0:Kept)(a1:List Slot)(a2:Int)(hc:zkH a0 a1 a2=true):∃N,zvr N a0 a1 a2=some [aT .kept (zsI a0 a1 a2)]:=by
 obtain ⟨hs,hs2⟩:=zD.1 hc;have hl:(zoP a1 a2).length<=big:=jB (zxt _ a1 0) (zcb hs2).1;refine zbP fun N hNN=>?_;unfold zvr oN
 conv=>zeta
 refine must (zbs ((zvv _).2 hs)) (must (zbs (by omega)) ?_)
 refine (zbc (zoP a1 a2) (fun i (t:lB×lS)=>((i:Int),(zoP a1 a2),t.1,t.2,[],[],())) _ (fun _ (x:Int) (t:List Bool×List Slot) κ=>bif pc (SmK ⟨t.1,t.2⟩) then κ ((zbI ⟨t.1,t.2⟩ x).Known,(zbI ⟨t.1,t.2⟩ x).Slots) else none) (fun (t:lB×lS)=>(some [(.agg (Ty.cells .kept (⟨t.1,t.2⟩:Kept)))])) (fun i hi t rec=>?_) (fun t rec=>?_) _ ((zc9 a0).Known,(zc9 a0).Slots) (hNN hl)).trans ?_
 .simp only [zbf hi,zN hi,zba hi,zT hi hl,cT]
 .simp only [zbd,cF]
 exact zxd _ _ 0 a0 hs
theorem zAE:vB 212 zsy:=kF3 zrW zq zl zn zGS zGr
@[simp] abbrev zhP (k:Kept)(l:List Slot)(p:Int):Bool:=pc (SmK k/\l.length<=1048576)
@[simp] abbrev zm3 (k:Kept)(l:List Slot)(p:Int):Kept:=zg2 k l p
def zsq:Run:=rF3 (dT .kept) (dS .slot) dI fun b c d=>(zhP b c d,[aT .kept (zm3 b c d)])
def zvj (N:Nat)(a0:Kept)(a1:lS)(a2:Int):OA:=
 (oN (zgC a0) (oN (zxq a1 a2) (iter (σ:=(Int×(Int×((List Int)×(lB×(lS×(lB×(lS×Unit)))))))) N (fun r4 s5=>let y1:=(ix s5.2.2.1 s5.2.1 0);let y0:=(⟨s5.2.2.2.2.2.1,s5.2.2.2.2.2.2.1⟩:Kept); (cond (ilt s5.2.1 s5.1) (oN (inb s5.2.1 (ln s5.2.2.1)) (oN (zxm y0 y1) (r4 (s5.1,((zG .i64 s5.2.1 1),(s5.2.2.1,(s5.2.2.2.1,(s5.2.2.2.2.1,((zsd y0 y1).Known,((zsd y0 y1).Slots,())))))))))) (some [(aT .kept y0)]))) ((ln (zjK a1 a2)),(0,((zjK a1 a2),([],([],((zdn a0).Known,((zdn a0).Slots,()))))))))))
def zGM:FuncId->Nat->Option Tmpl:=zo [(76,0,{ n:=25,tm:=[(6,.lp 0 0),(7,.lp 1 0),(14,.sl 0 []),(15,ti),(16,ti)],lo:=[(0,[.sl 1 [],.sl 2 []]),(1,[.sl 3 [],.sl 4 []])],ro:=[(0,.int,true),(1,.bool,true),(2,.slot,true),(3,.bool,true),(4,.slot,true)] })]
theorem zGh (a0:Kept)(a1:List Slot)(a2:Int)(hc:zhP a0 a1 a2=true):∃N,zvj N a0 a1 a2=some [aT .kept (zm3 a0 a1 a2)]:=by
 obtain ⟨hs,hs2⟩:=zD.1 hc;have hl:(zjK a1 a2).length<=big:=jB (zxt _ a1 0) (zcb hs2).1;refine zbP fun N hNN=>?_;unfold zvj oN
 conv=>zeta
 refine must (zbs hs) (must (zbs (by omega)) ?_)
 refine (zbc (zjK a1 a2) (fun i (t:lB×lS)=>((ln (zjK a1 a2)),(i:Int),(zjK a1 a2),[],[],t.1,t.2,())) _ (fun _ (x:Int) (t:List Bool×List Slot) κ=>bif pc (SmK ⟨t.1,t.2⟩) then κ ((zbI ⟨t.1,t.2⟩ x).Known,(zbI ⟨t.1,t.2⟩ x).Slots) else none) (fun (t:lB×lS)=>(some [(.agg (Ty.cells .kept (⟨t.1,t.2⟩:Kept)))])) (fun i hi t rec=>?_) (fun t rec=>?_) _ ((zdn a0).Known,(zdn a0).Slots) (hNN hl)).trans ?_
 .simp only [zbf hi,zN hi,zba hi,zT hi hl,cT]
 .simp only [zbd,cF]
 exact zxd _ _ 0 a0 hs
theorem zAx:vB 76 zsq:=kF3 zrW zq zl zn zGM zGh
def flushed (l:List Entry)(p:Int):List Entry:=l.filter fun e=>!ieq e.Host p
theorem zEq (l:List Entry)(p:Int):(flushed l p).length<=l.length:=k5 _ _
theorem zmZ {α ρ:Type}(p:α->Bool)(K:List α->Option ρ):∀(l:List α) (i:Nat) (acc:List α),acc.length+l.length<=2147483648 ->
 goL (fun _ x acc κ=>bif p x then (cond (few (ln (ap acc [x]))) (κ (ap acc [x])) none) else κ acc) K l i acc=K (acc++l.filter p)
 | [],i,acc,_=>by simp[goL]
 | x :: l,i,acc,h=>by
  simp only[qU]at h;simp only[goL];cases hp:p x
  .rw [cF,zmZ p K l (i+1) acc (by omega),List.filter_cons_of_neg (by simp[hp])]
  .rw [cT,zfT (by simp[ap];omega),cT,zmZ p K l (i+1) _ (by simp[ap];omega),List.filter_cons_of_pos hp]
   simp[ap]
@[simp] abbrev zgV (l:List Entry)(p:Int):Bool:=pc (l.length<=1048576)
@[simp] abbrev zpq (l:List Entry)(p:Int):List Entry:=flushed l p
def ztY:Run:=rF2 (dS .entry) dI fun b c=>(zgV b c,[aS .entry (zpq b c)])
def zyn (N:Nat)(a0:lE)(a1:Int):OA:=
 (iter (σ:=(Int×(Int×(lE×(lE×Unit))))) N (fun r3 s4=>let y1:=s4.2.2.1;let y0:=(ix y1 s4.2.1 zev); (cond (ilt s4.2.1 (ln y1)) (oN (inb s4.2.1 (ln y1)) (cond (ine y0.Host s4.1) (oN (inb s4.2.1 (ln y1)) (oN (few (ln (ap s4.2.2.2.1 [y0]))) (r3 (s4.1,((zG .i64 s4.2.1 1),(y1,((ap s4.2.2.2.1 [y0]),()))))))) (r3 (s4.1,((zG .i64 s4.2.1 1),(y1,(s4.2.2.2.1,()))))))) (some [(aS .entry s4.2.2.2.1)]))) (a1,(0,(a0,([],())))))
def zKm:FuncId->Nat->Option Tmpl:=zo [(213,0,{ n:=29,tm:=[(0,.sl 0 []),(1,ti),(5,.sl 1 []),(6,ti)],lo:=[],ro:=[(0,.entry,false),(1,.entry,true)] })]
theorem zJi (a0:List Entry)(a1:Int)(hc:zgV a0 a1=true):∃N,zyn N a0 a1=some [aS .entry (zpq a0 a1)]:=by
 have hs:=zD.1 hc;have hl:=zcb hs;refine zbP fun N hNN=>?_;unfold zyn oN
 conv=>zeta
 refine (zbc a0 (fun i (t:lE)=>(a1,(i:Int),a0,t,())) _ (fun _ (x:Entry) (t:List Entry) κ=>bif !ieq x.Host a1 then (cond (few (ln (ap t [x]))) (κ (ap t [x])) none) else κ t) (fun (t:lE)=>(some [(.one (.s .entry t))])) (fun i hi t rec=>?_) (fun t rec=>?_) _ ([]) (hNN hl.1)).trans ?_
 .simp only [zbf hi,zN hi,zba hi,zT hi hl.1,cT];rfl
 .simp only [zbd,cF]
 exact zmZ (fun e=>!ieq e.Host a1) _ a0 0 [] (by simpa using hl.2)
theorem zC3:vB 213 ztY:=kF2 zrW zq zl zn zKm zJi
@[simp] abbrev zdP (l:List Entry)(p:Int):Bool:=pc (l.length<=1048576)
@[simp] abbrev zf6 (l:List Entry)(p:Int):List Entry:=flushed l p
def ztK:Run:=rF2 (dS .entry) dI fun b c=>(zdP b c,[aS .entry (zf6 b c)])
def zx9 (N:Nat)(a0:lE)(a1:Int):OA:=
 (iter (σ:=(Int×(Int×(Int×(lE×(lE×Unit)))))) N (fun r3 s4=>let y1:=s4.2.2.2.2.1;let y0:=(ix y1 s4.2.1 zev); (cond (ilt s4.2.1 s4.1) (oN (inb s4.2.1 (ln y1)) (cond (nB (ieq y0.Host s4.2.2.1)) (oN (few (ln (ap s4.2.2.2.1 [y0]))) (r3 (s4.1,((zG .i64 s4.2.1 1),(s4.2.2.1,((ap s4.2.2.2.1 [y0]),(y1,()))))))) (r3 (s4.1,((zG .i64 s4.2.1 1),(s4.2.2.1,(s4.2.2.2.1,(y1,())))))))) (some [(aS .entry s4.2.2.2.1)]))) ((ln a0),(0,(a1,([],(a0,()))))))
def zKe:FuncId->Nat->Option Tmpl:=zo [(116,0,{ n:=25,tm:=[(1,.fn 117 [0]),(5,.sl 0 []),(9,.sl 1 []),(10,ti),(11,ti)],lo:=[(0,[ti])],ro:=[(0,.entry,true),(1,.entry,false)] })]
theorem zI3 (a0:List Entry)(a1:Int)(hc:zdP a0 a1=true):∃N,zx9 N a0 a1=some [aS .entry (zf6 a0 a1)]:=by
 have hs:=zD.1 hc;have hl:=zcb hs;refine zbP fun N hNN=>?_;unfold zx9 oN nB
 conv=>zeta
 refine (zbc a0 (fun i (t:lE)=>((ln a0),(i:Int),a1,t,a0,())) _ (fun _ (x:Entry) (t:List Entry) κ=>bif !ieq x.Host a1 then (cond (few (ln (ap t [x]))) (κ (ap t [x])) none) else κ t) (fun (t:lE)=>(some [(.one (.s .entry t))])) (fun i hi t rec=>?_) (fun t rec=>?_) _ ([]) (hNN hl.1)).trans ?_
 .simp only [zbf hi,zN hi,zba hi,zT hi hl.1,cT];cases ieq a0[i].Host a1<;>rfl
 .simp only [zbd,cF]
 exact zmZ (fun e=>!ieq e.Host a1) _ a0 0 [] (by simpa using hl.2)
theorem zCP:vB 77 ztK:=kF2 zrW zq zl zn zKe zI3
def zWH:zO:=[(212,zsy),(76,zsq),(213,ztY),(77,ztK)]++z3k
theorem zw0:zF zWH:=zh zAE (zh zAx (zh zC3 (zh zCP zrW)))
def ziK (gs:List Guest)(p:Int):Nat->List Kept->List Kept
 | 0,ts=>ts
 | n+1,ts=>up (ziK gs p n ts) (n:Int) (zg2 (ix (ziK gs p n ts) (n:Int) zef) (ix gs (n:Int) zx).Live p)
theorem zmk (gs:List Guest)(p:Int):∀(n:Nat) (ts:List Kept),(ziK gs p n ts).length=ts.length
 | 0,_=>rfl
 | n+1,ts=>by simp only[ziK,zfE];exact zmk gs p n ts
theorem zqg (gs:List Guest)(p:Int):∀(n:Nat) (ts:List Kept),n<=ts.length->zz7 ts->zz7 (ziK gs p n ts)
 | 0,_,_,h=>h
 | n+1,ts,hn,h=>by
  have ih:=zqg gs p n ts (by omega) h
  have hl:n<(ziK gs p n ts).length:=by rw[zmk];omega
  exact zwJ ih (z2g _ _ (by rw[zba hl];exact ih.2 _ (jE hl)))
def zgQ (x:Mon)(p:Int)(n:Nat):Mon:={ x with Tables:=ziK x.Guests p n x.Tables }
theorem z0n {x:Mon}{p:Int}{n:Nat}(hn:n<=x.Tables.length)(h:zeF x):zeF (zgQ x p n):=⟨h.1,h.2.1,h.2.2.1,h.2.2.2.1,h.2.2.2.2.1,zqg _ _ _ _ hn h.2.2.2.2.2⟩
def zbQ (h:Host)(m p:Int)(s:Slot):Host :=
 bif ine (ix (ix h.Mons m zf).Outer p zK).Page (-1)
 then ⟨h.Memory,up h.Mons m { zgQ (ix h.Mons m zf) p (ix h.Mons m zf).Tables.length with Outer:=up (ix h.Mons m zf).Outer p s },flushed h.Buffer (ix (ix h.Mons m zf).Outer p zK).Page,flushed h.IoBuffer (ix (ix h.Mons m zf).Outer p zK).Page⟩
 else ⟨h.Memory,up h.Mons m { zgQ (ix h.Mons m zf) p (ix h.Mons m zf).Tables.length with Outer:=up (ix h.Mons m zf).Outer p s },h.Buffer,h.IoBuffer⟩
def z5Q (h:Host)(m p:Int):Prop:=hasB m (ln h.Mons)=true/\hasB p (ln (ix h.Mons m zf).Outer)=true/\(ix h.Mons m zf).Tables.length<=(ix h.Mons m zf).Guests.length
@[simp] abbrev zeC (h:Host)(m p:Int)(s:Slot):Bool:=pc (zbz h/\z5Q h m p)
@[simp] abbrev zge (h:Host)(m p:Int)(s:Slot):Host:=zbQ h m p s
def zqI:List AV->Option (Bool×List AV)
 | [.agg [.s (.sl .int) b,.s .mon c,.s .entry d,.s .entry e],.one (.i .i64 f),.one (.i .i64 g),.agg [.i .i64 h,.i .i64 j]]=>some ((zeC (⟨b,c,d,e⟩:Host) f g (⟨h,j⟩:Slot)),[aH (zge (⟨b,c,d,e⟩:Host) f g (⟨h,j⟩:Slot))])
 | _=>none
def zuH (N:Nat)(a0:Host)(a1 a2:Int)(a3:Slot):OA:=
 let y7:=(ix a0.Mons a1 zf); (oN (inb a1 (ln a0.Mons)) (oN (inb a2 (ln y7.Outer)) (iter (σ:=(Int×(Int×(Int×(Int×(Int×(Int×(Int×(Int×(Int×(Int×(Int×(Int×(Int×(Int×(Int×(lM×(lN×(lE×(lE×(lM×(lN×(lE×(lE×Unit)))))))))))))))))))))))) N (fun r5 s6=>let y19:=s6.2.2.1;let y18:=s6.2.2.2.2.2.2.2.2.2.2.2.1;let y17:=s6.2.2.2.2.2.2.2.2.2.2.2.2.1;let y15:=s6.2.2.2.2.2.2.2.2.2.2.2.2.2.2.1;let y14:=s6.2.2.2.2.2.2.2.2.2.2.2.2.2.2.2.1;let y13:=s6.2.2.2.2.2.2.2.1;let y11:=s6.2.2.2.2.2.2.2.2.1;let y10:=s6.2.2.2.1;let y9:=s6.2.2.2.2.2.2.2.2.2.2.1;let y8:=s6.2.2.2.2.2.2.2.2.2.2.2.2.2.2.2.2.2.1;let y6:=s6.2.2.2.2.2.2.2.2.2.2.2.2.2.2.2.2.2.2.1;let y5:=s6.2.2.2.2.2.2.1;let y3:=s6.2.2.2.2.2.2.2.2.2.1;let y1:=s6.2.2.2.2.2.2.2.2.2.2.2.2.2.1;let y0:=s6.2.2.2.2.2.2.2.2.2.2.2.2.2.2.2.2.1;let y20:=(ix y0 y3 zf).Guests;let y16:=(ix y20 y10 zx).Live;let y12:=(ix y0 y5 zf);let y4:=(ix y0 y1 zf).Tables;let y2:=(up y0 y5 ({ y12 with Outer:=(up y12.Outer s6.2.1 (⟨s6.2.2.2.2.1,s6.2.2.2.2.2.1⟩:Slot)) }:Mon)); (cond (ilt y10 (ln y4)) (oN (inb y10 (ln y4)) (oN (inb y10 (ln y20)) (oN (zkH (ix y4 y10 zef) y16 s6.2.1) (oN (inb y10 (ln y4)) (share (up y0 y1 ({ (ix y0 y1 zf) with Tables:=(up y4 y10 (zsI (ix y4 y10 zef) y16 s6.2.1)) }:Mon)) (fun x7=>(r5 (s6.1,(s6.2.1,(y19,((zG .i64 y10 1),(s6.2.2.2.2.1,(s6.2.2.2.2.2.1,(y5,(y13,(y11,(y3,(y9,(y18,(y17,(y1,(y15,(y14,(x7,(y8,(y6,(s6.2.2.2.2.2.2.2.2.2.2.2.2.2.2.2.2.2.2.2.1,(s6.2.2.2.2.2.2.2.2.2.2.2.2.2.2.2.2.2.2.2.2.1,(s6.2.2.2.2.2.2.2.2.2.2.2.2.2.2.2.2.2.2.2.2.2.1,(s6.2.2.2.2.2.2.2.2.2.2.2.2.2.2.2.2.2.2.2.2.2.2.1,())))))))))))))))))))))))))))))) (cond (ine y19 (-1)) (oN (zgV y8 y19) (oN (zgV y6 y19) (oN (inb s6.2.1 (ln y12.Outer)) (share y2 (fun x7=>(oN (inb s6.1 (ln x7)) (oN (cond (cond (cond (cond (cond (cond (ieq y1 s6.1) true false) (cond (ieq y9 s6.1) true false) false) (cond (ieq y3 s6.1) true false) false) (cond (ieq y11 s6.1) true false) false) (cond (ieq y13 s6.1) true false) false) (cond (ieq y5 s6.1) true false) false) (share (up x7 s6.1 ({ (ix x7 y5 zf) with Out:=(ix x7 y13 zf).Out,Dirty:=(ix x7 y11 zf).Dirty,Guests:=(ix x7 y3 zf).Guests,Outs:=(ix x7 y9 zf).Outs,Pending:=y18,Traps:=y17,Tables:=(ix x7 y1 zf).Tables,Own:=y15 }:Mon)) (fun x8=>(some [(aH (⟨y14,x8,(zpq y8 y19),(zpq y6 y19)⟩:Host))])))))))))) (oN (inb s6.2.1 (ln y12.Outer)) (share y2 (fun x7=>(oN (inb s6.1 (ln x7)) (oN (cond (cond (cond (cond (cond (cond (ieq y1 s6.1) true false) (cond (ieq y9 s6.1) true false) false) (cond (ieq y3 s6.1) true false) false) (cond (ieq y11 s6.1) true false) false) (cond (ieq y13 s6.1) true false) false) (cond (ieq y5 s6.1) true false) false) (share (up x7 s6.1 ({ (ix x7 y5 zf) with Out:=(ix x7 y13 zf).Out,Dirty:=(ix x7 y11 zf).Dirty,Guests:=(ix x7 y3 zf).Guests,Outs:=(ix x7 y9 zf).Outs,Pending:=y18,Traps:=y17,Tables:=(ix x7 y1 zf).Tables,Own:=y15 }:Mon)) (fun x8=>(some [(aH (⟨y14,x8,y8,y6⟩:Host))]))))))))))) (a1,(a2,((ix y7.Outer a2 zK).Page,(0,(a3.Page,(a3.Rights,(a1,(a1,(a1,(a1,(a1,(y7.Pending,(y7.Traps,(a1,(y7.Own,(a0.Memory,(a0.Mons,(a0.Buffer,(a0.IoBuffer,([],([],([],([],()))))))))))))))))))))))))))
def zP5:FuncId->Nat->Option Tmpl:=zo [(174,0,{ n:=70,tm:=[(1,ti),(2,ti),(4,.lp 0 0),(7,.lp 1 0),(8,.lp 2 0),(9,.lp 3 0),(10,ti),(11,ti)],lo:=[(0,[.sl 0 [],.sl 1 [],.sl 2 [],.sl 3 []]),(1,[ti,ti]),(2,[.sl 4 [],.sl 5 [],.sl 6 [],.sl 7 []]),(3,[.sl 1 [0],.sl 1 [1],.sl 1 [2],.sl 1 [3],.sl 1 [4],ti,ti,.sl 1 [7],ti])],ro:=[(0,(.sl .int),true),(1,.mon,true),(2,.entry,true),(3,.entry,true),(4,(.sl .int),true),(5,.mon,true),(6,.entry,true),(7,.entry,true)] })]
theorem zSI (N:Nat)(a0:Host)(a1 a2:Int)(a3:Slot):zCq (cQ zWH zqu zMu zk5) zP5 N 12 174 [true,true,true,true,false,false,false,false] 1 1 [[0],[1],[2],[4],[7]] .mon [aH a0,aI a1,aI a2,aT .slot a3]=zuH N a0 a1 a2 a3:=by kernel_rfl
theorem zPJ (a0:Host)(a1 a2:Int)(a3:Slot)(hb:zbG big [aH a0,aI a1,aI a2,aT .slot a3])(hc:zeC a0 a1 a2 a3=true):∃N,zuH N a0 a1 a2 a3=some [aH (zge a0 a1 a2 a3)]:=by
 obtain ⟨hs,h1,h2,h3⟩:=zD.1 hc;have hH:=(zJ a0).1 hs;have hm:zeF (ix a0.Mons a1 zf):=hH.2.1.2 _ (zbq h1 _);obtain ⟨k,rfl,hk⟩:=zdA (n:=a0.Mons.length) h1;have hT:=(zcb hm.2.2.2.2.2.1).1;refine zbP fun N hNN=>?_;unfold zuH oN
 conv=>zeta
 refine must h1 (must h2 ?_);refine zvP (ix a0.Mons (k:Int) zf).Tables.length (fun i (t:List Mon)=>((k:Int),a2,(ix (ix a0.Mons (k:Int) zf).Outer a2 zK).Page,(i:Int),a3.Page,a3.Rights,(k:Int),(k:Int),(k:Int),(k:Int),(k:Int),(ix a0.Mons (k:Int) zf).Pending,(ix a0.Mons (k:Int) zf).Traps,(k:Int),(ix a0.Mons (k:Int) zf).Own,a0.Memory,t,a0.Buffer,a0.IoBuffer,[],[],[],[],())) _
  (fun i t=>t=up a0.Mons (k:Int) (zgQ (ix a0.Mons (k:Int) zf) a2 i)) (fun _ _=>some [AV.agg (zbh (zbQ a0 (k:Int) a2 a3))]) (fun i t rec hi hI hr=>?_) (fun t rec hI=>?_) _ 0 a0.Mons ?_ (jU _) ?_
 .subst hI;have hi2:i<(ziK (ix a0.Mons (k:Int) zf).Guests a2 i (ix a0.Mons (k:Int) zf).Tables).length:=by rw[zmk];exact hi
  have hi3:i<(ix a0.Mons (k:Int) zf).Guests.length:=by omega
  have hf:zkH (ix (ziK (ix a0.Mons (k:Int) zf).Guests a2 i (ix a0.Mons (k:Int) zf).Tables) (i:Int) zef) (ix (ix a0.Mons (k:Int) zf).Guests (i:Int) zx).Live a2=true :=
   zbs ⟨by rw[zba hi2];exact (zqg _ _ _ _ (by omega) hm.2.2.2.2.2).2 _ (jE hi2),by rw[zba hi3];exact (hm.2.2.2.1.2 _ (jE hi3)).2.2.1⟩
  simp only[zdx hk,zpO,zgQ,zbf hi2,zN hi2,zN hi3,hf,cT,share,zT hi hT];exact hr _ rfl
 .subst hI;simp only[zdx hk,zpO,zfE,zgQ,ln,zmk,zcC,show ilt (((ix a0.Mons (k:Int) zf).Tables.length:Nat):Int) (((ix a0.Mons (k:Int) zf).Tables.length:Nat):Int)=false from qJ (by omega),cT,cF,share]
  have h1':inb (k:Int) ((a0.Mons.length:Nat):Int)=true:=h1;have h2':inb a2 (((ix a0.Mons (k:Int) zf).Outer.length:Nat):Int)=true:=h2;have f1:zgV a0.Buffer (ix (ix a0.Mons (k:Int) zf).Outer a2 zK).Page=true:=zbs hH.2.2.1;have f2:zgV a0.IoBuffer (ix (ix a0.Mons (k:Int) zf).Outer a2 zK).Page=true:=zbs hH.2.2.2;simp only[h1',h2',f1,f2,cT];unfold zbQ;cases ine (ix (ix a0.Mons (k:Int) zf).Outer a2 zK).Page (-1)<;>rfl
 .exact (zM0 hk _).symm
 .exact hNN (by omega)
theorem zIR:zdG Tryz.prog 174 [true,true,true,true,false,false,false,false] (some (1,1,[[0],[1],[2],[4],[7]])) zqI:=by
 refine zkn (kt:=.mon) (zc4 zw0 zq zl zn) (zex (by kernel_rfl)) (by kernel_rfl) ?_
 intro avs rs hl hr h;have hb:=zhJ hr;unfold zqI at h;split at h
 .obtain ⟨hc,rfl⟩:=zdM h;obtain ⟨N,hN⟩:=zPJ _ _ _ _ (by exact hb) hc
  exact ⟨⟨_,rfl⟩,rfl,_,N,12,(zSI N _ _ _ _ ).trans hN⟩
 .cases h
def zTv:zfd:=[(174,([true,true,true,true,false,false,false,false],(some (1,1,[[0],[1],[2],[4],[7]])),zqI))]++zk5
theorem zdD:zd8 zTv:=zoV zn (by
 intro x hx;simp only[qH,qV,or_false]at hx;rcases hx with rfl
 .exact zIR)
def zKr (x:Mon)(p:Int):Mon:={ x with Dirty:=up x.Dirty p false }
def grd (x:Mon)(p:Int):Mon:={ x with Outer:=up x.Outer p ⟨(ix x.Outer p zK).Page,1⟩ }
def zkZ (h:Host)(m p:Int):Host:={ h with Mons:=up h.Mons m (zKr (ix h.Mons m zf) p) }
def zeI (h:Host)(m p:Int):Host:=bif zbC h m p then (cond (zcy (ix (ix h.Mons m zf).Outer p zK) noSlot) (zkZ h m p) (zbQ (zkZ h m p) m p ⟨(ix (ix h.Mons m zf).Outer p zK).Page,1⟩)) else h
theorem zxi:∀(l:List Mon) (u:List Bool),zhO l u=true->∀x∈l,zdE x=true
 | [],_,_,x,hx=>by cases hx
 | m :: l,u,h,x,hx=>by
  simp only[zhO]at h;cases h1:zdE m
  .rw [h1]at h;cases h
  .rw [h1]at h;simp only[cT]at h;cases h2:zfV m.Outer u with
   | none=>rw[h2]at h;cases h
   | some u' =>
    rw[h2]at h;rcases qH.1 hx with rfl|hx
    .exact h1
    .exact zxi l u' h x hx
structure PageAt (h:Host) (m p:Int):Prop where
 hm:hasB m (ln h.Mons)=true
 hp:hasB p 8=true
 ok:zdE (ix h.Mons m zf)=true
 ho:(ix h.Mons m zf).Outer.length=8
 hd:(ix h.Mons m zf).Dirty.length=8
 ht:(ix h.Mons m zf).Tables.length=(ix h.Mons m zf).Guests.length
 hs:zcy (ix (ix h.Mons m zf).Outer p zK) noSlot=ieq (ix (ix h.Mons m zf).Outer p zK).Page (-1)
theorem zOq {s:Slot}{n:Int}(h:zde s n=true):zcy s noSlot=ieq s.Page (-1):=by
 unfold zde at h;cases h1:zcy s noSlot
 .rw [h1]at h;cases h2:ieq s.Page (-1)
  .rfl
  .have e:s.Page = -1:=qE h2;cases h3:igt n 0
   .rw [h3]at h;cases h
   .cases h4:win s.Page 0 (wsub .i64 n 1)
    .rw [h3,h4]at h;cases h
    .have:=(zfQ.1 h4).1;omega
 .unfold zcy at h1;rw[qD]at h1;exact h1.1.symm
theorem zxE {h:Host}{m p:Int}(hp:zbC h m p=true):PageAt h m p:=by
 unfold zbC at hp;simp only[zcM]at hp;obtain ⟨h0,h1,h2⟩:=hp;unfold zbK at h0;simp only[zcM]at h0;have hok:=zxi _ _ h0.2.2.2.2 _ (zbq h1 zf);have hk:=hok;unfold zdE at hk;simp only[zcM]at hk;have ho:(ix h.Mons m zf).Outer.length=8:=by have:=zqh hk.2.2.1;simp only[ln] at this;omega
 refine ⟨h1,h2,hok,ho,?_,?_,?_⟩
 .have:ln (ix h.Mons m zf).Dirty=8:=qE hk.2.2.2.2.1;simp only[ln] at this;omega
 .have:ln (ix h.Mons m zf).Tables=ln (ix h.Mons m zf).Guests:=qE hk.2.1;simp only[ln] at this;omega
 .have ht:=hk.2.2.1;unfold zcv at ht;simp only[zcM]at ht;have hi:hasB p (ln (ix h.Mons m zf).Outer)=true:=by rw[ln,ho];exact h2
  exact zOq (qO.1 ht.1 _ (zbq hi _))
theorem zTk {x:Mon}{p:Int}(h:zeF x):zeF (zKr x p):=⟨h.1,h.2.1,by simpa [zKr] using h.2.2.1,h.2.2.2⟩
theorem zx1 {h:Host}{m p:Int}(hm:hasB m (ln h.Mons)=true)(hs:SmH h):SmH (zkZ h m p):=⟨hs.1,zif hs.2.1 (zTk (hs.2.1.2 _ (zbq hm _))),hs.2.2⟩
theorem zE7 {h:Host}{m p:Int}{s:Slot}(hm:hasB m (ln h.Mons)=true)(hs:SmH h):SmH (zbQ h m p s):=by
 have hx:=hs.2.1.2 _ (zbq hm zf);have ht:=z0n (p:=p) (qX _) hx;have hM:zpP (up h.Mons m { zgQ (ix h.Mons m zf) p (ix h.Mons m zf).Tables.length with Outer:=up (ix h.Mons m zf).Outer p s }):=zif hs.2.1 ⟨by simpa using hx.1,ht.2⟩
 unfold zbQ;cases ine (ix (ix h.Mons m zf).Outer p zK).Page (-1)
 .exact ⟨hs.1,hM,hs.2.2⟩
 .exact ⟨hs.1,hM,jB (zEq _ _) hs.2.2.1,jB (zEq _ _) hs.2.2.2⟩
theorem zx4 {h:Host}{m p:Int}(hm:hasB m (ln h.Mons)=true):hasB m (ln (zkZ h m p).Mons)=true:=by
 unfold zkZ;simpa [ln] using hm
theorem zOs {h:Host}{m p:Int}(hs:SmH h):SmH (zeI h m p):=by
 unfold zeI;cases hp:zbC h m p
 .exact hs
 .have P:=zxE hp;cases zcy (ix (ix h.Mons m zf).Outer p zK) noSlot
  .exact zE7 (zx4 P.hm) (zx1 P.hm hs)
  .exact zx1 P.hm hs
@[simp] abbrev zBU (h:Host)(m p:Int):Bool:=pc (zbz h)
@[simp] abbrev zt6 (h:Host)(m p:Int):Host:=zeI h m p
@[simp] abbrev zt7 (h:Host)(m p:Int):Bool:=zbC h m p
def zEP:Run:=rF3 dH dI dI fun b c d=>(zBU b c d,[aH (zt6 b c d),aB (zt7 b c d)])
def zNe (N:Nat)(a0:Host)(a1 a2:Int):OA:=
 let y3:=(zk a0);let y2:=(ix y3.Mons a1 zf); (oN (zbE a0) (oN (zmC y3 a1 a2) (cond (nB (zgW y3 a1 a2)) (some [(aH y3),(aB false)]) (oN (inb a1 (ln y3.Mons)) (oN (inb a2 (ln y2.Dirty)) (share (up y3.Mons a1 ({ y2 with Dirty:=(up y2.Dirty a2 false) }:Mon)) (fun x4=>let y4:=(ix x4 a1 zf).Outer;let y1:=({ y3 with Mons:=x4 }:Host);let y0:=(ix y4 a2 zK);let y5:=({ y0 with Rights:=1 }:Slot); (oN (inb a1 (ln x4)) (oN (inb a2 (ln y4)) (oN zcj (cond (cond (ieq y0.Page zbr.Page) (ieq y0.Rights zbr.Rights) false) (some [(aH y1),(aB true)]) (oN (zeC y1 a1 a2 y5) (some [(aH (zge y1 a1 a2 y5)),(aB true)])))))))))))))
theorem zUs (a0:Host)(a1 a2:Int)(hc:zBU a0 a1 a2=true):∃N,zNe N a0 a1 a2=some [aH (zt6 a0 a1 a2),aB (zt7 a0 a1 a2)]:=by
 have hs:=zD.1 hc;have hH:=(zJ a0).1 hs;refine ⟨0,?_⟩;unfold zNe zt6 zt7 zeI oN nB
 conv=>zeta
 refine must (zbs hs) (must rfl ?_);cases hp:zbC a0 a1 a2
 .simp only [zgW,zk,hp,cF,cT]
 .have P:=zxE hp;obtain ⟨k,rfl,hk⟩:=zdA (n:=a0.Mons.length) P.hm;simp only[zgW,zk,hp,cT,cF];have i1:inb a2 (ln (ix a0.Mons (k:Int) zf).Dirty)=true:=by rw[ln,P.hd];exact P.hp
  have i2:inb a2 (ln (ix a0.Mons (k:Int) zf).Outer)=true:=by rw[ln,P.ho];exact P.hp
  refine must P.hm (must i1 ?_);simp only[share,zdx hk,i2,cT,zcj,zbr];refine must (zx4 (p:=a2) P.hm) ?_;have e:∀s:Slot,zcy s noSlot=bif ieq s.Page noSlot.Page then ieq s.Rights noSlot.Rights else false:=fun s=>by
   unfold zcy;cases ieq s.Page noSlot.Page<;>rfl
  rw[<- e];cases zcy (ix (ix a0.Mons (k:Int) zf).Outer a2 zK) noSlot
  .refine zcT rfl (must (zbs ⟨(zJ _).2 (zx1 P.hm hH),zx4 (p:=a2) P.hm,?_,?_⟩) rfl)
   .simp only [zdx hk];exact i2
   .simp only [zdx hk];exact u5 P.ht
  .rfl
theorem zOM:vB 132 zEP:=kF3 zw0 zq zl zdD (zo []) zUs
@[simp] abbrev zAM (h:Host)(m p:Int):Bool:=pc (zbz h)
@[simp] abbrev ztC (h:Host)(m p:Int):Host:=zeI h m p
@[simp] abbrev zAL (h:Host)(m p:Int):Bool:=zbC h m p
def zEH:Run:=rF3 dH dI dI fun b c d=>(zAM b c d,[aH (ztC b c d),aB (zAL b c d)])
def zM6 (N:Nat)(a0:Host)(a1 a2:Int):OA:=
 let y11:=(zcZ a0);let y0:=(ix y11.Mons a1 zf);let y3:=(ix y0.Outer a2 zK); (oN (zhQ a0) (oN (zlh a0 a1 a2) (cond (nB (zg6 a0 a1 a2)) (some [(aH y11),(aB false)]) (oN (inb a1 (ln y11.Mons)) (oN (inb a2 (ln y0.Outer)) (cond (ine y3.Page (-1)) (oN (inb a2 (ln y0.Outer)) (share (up y11.Mons a1 ({ y0 with Outer:=(up y0.Outer a2 ({ y3 with Rights:=1 }:Slot)) }:Mon)) (fun x4=>(oN (inb a1 (ln x4)) (oN (cond (cond (cond (ieq a1 a1) true false) (cond (cond (ieq a1 a1) true false) (cond (cond (ieq a1 a1) true false) (cond (cond (ieq a1 a1) true false) (cond (cond (ieq a1 a1) true false) (cond (ieq a1 a1) (cond (cond (ieq a2 a2) (ieq a1 a1) false) (cond (cond (ieq a1 a1) true false) (cond (cond (ieq a1 a1) true false) (cond (cond (ieq a1 a1) true false) (cond (ieq a1 a1) (cond (cond (ieq a2 a2) (ieq a1 a1) false) (cond (cond (ieq a2 a2) (ieq a1 a1) false) true false) false) false) false) false) false) false) false) false) false) false) false) false) true false) (iter (σ:=(Int×(Int×(Int×(Int×(Int×(Int×(Int×(Int×(lN×(lM×(lN×(lE×(lE×(lM×(lE×(lE×(lM×(lN×(lE×(lE×Unit))))))))))))))))))))) N (fun r5 s6=>let y10:=s6.2.2.2.2.1;let y9:=s6.2.2.2.2.2.2.2.2.1;let y8:=s6.2.2.2.2.2.2.2.2.2.2.2.2.2.1;let y7:=s6.2.2.2.1;let y5:=s6.2.2.2.2.2.2.2.2.2.2.2.2.2.2.1;let y4:=s6.2.2.2.2.2.2.2.2.2.2.2.2.2.2.2.1;let y2:=(ix y9 a1 zf);let y6:=(up y9 a1 ({ y2 with Dirty:=(up y2.Dirty a2 false) }:Mon));let y1:=(ix y9 s6.2.1 zf);let y13:=(ix y1.Tables y7 zef);let y12:=(ix y1.Guests y7 zx).Live; (cond (ilt y7 s6.2.2.1) (oN (inb y7 (ln y1.Tables)) (oN (inb y7 (ln y1.Guests)) (oN (zhP y13 y12 s6.1) (oN (inb y7 (ln y1.Tables)) (share (up y9 s6.2.1 ({ y1 with Tables:=(up y1.Tables y7 (zm3 y13 y12 s6.1)) }:Mon)) (fun x7=>(oN (cond (cond (cond (ieq a1 a1) true false) (cond (cond (ieq a1 a1) true false) (cond (cond (ieq a1 a1) true false) (cond (cond (ieq a1 a1) true false) (cond (cond (ieq a1 a1) true false) (cond (ieq a1 a1) (cond (cond (ieq a2 a2) (ieq a1 a1) false) (cond (cond (ieq a1 a1) true false) (cond (cond (ieq a1 a1) true false) (cond (cond (ieq a1 a1) true false) (cond (ieq a1 a1) (cond (cond (ieq a2 a2) (ieq a1 a1) false) (cond (cond (ieq a2 a2) (ieq a1 a1) false) true false) false) false) false) false) false) false) false) false) false) false) false) false) true false) (r5 (s6.1,(s6.2.1,(s6.2.2.1,((zG .i64 y7 1),(y10,(s6.2.2.2.2.2.1,(s6.2.2.2.2.2.2.1,(s6.2.2.2.2.2.2.2.1,(x7,(s6.2.2.2.2.2.2.2.2.2.1,(s6.2.2.2.2.2.2.2.2.2.2.1,(s6.2.2.2.2.2.2.2.2.2.2.2.1,(s6.2.2.2.2.2.2.2.2.2.2.2.2.1,(y8,(y5,(y4,(s6.2.2.2.2.2.2.2.2.2.2.2.2.2.2.2.2.1,(s6.2.2.2.2.2.2.2.2.2.2.2.2.2.2.2.2.2.1,(s6.2.2.2.2.2.2.2.2.2.2.2.2.2.2.2.2.2.2.1,(s6.2.2.2.2.2.2.2.2.2.2.2.2.2.2.2.2.2.2.2.1,())))))))))))))))))))))))))))) (cond (ine y10 (-1)) (oN (zdP y5 y10) (oN (zdP y4 y10) (oN (inb a2 (ln y2.Dirty)) (share y6 (fun x7=>(some [(aH (⟨y8,x7,(zf6 y5 y10),(zf6 y4 y10)⟩:Host)),(aB true)])))))) (oN (inb a2 (ln y2.Dirty)) (share y6 (fun x7=>(some [(aH (⟨y8,x7,y5,y4⟩:Host)),(aB true)]))))))) (a2,(a1,((ln (ix x4 a1 zf).Guests),(0,(y3.Page,(y3.Rights,(y3.Page,(y3.Rights,(x4,(a0.Memory,(a0.Mons,(a0.Buffer,(a0.IoBuffer,(y11.Memory,(y11.Buffer,(y11.IoBuffer,([],([],([],([],())))))))))))))))))))))))))) (oN (inb a2 (ln y0.Dirty)) (share (up y11.Mons a1 ({ y0 with Dirty:=(up y0.Dirty a2 false) }:Mon)) (fun x4=>(some [(aH ({ y11 with Mons:=x4 }:Host)),(aB true)]))))))))))
def zVe:FuncId->Nat->Option Tmpl:=zo [(50,0,{ n:=71,tm:=[(0,.lp 0 0),(2,ti),(7,.lp 1 0),(8,.ep 0 [] 0),(20,ti),(21,ti)],lo:=[(0,[.sl 5 [],.sl 0 [],.sl 6 [],.sl 7 []]),(1,[ti,ti]),(2,[.sl 1 [],.sl 2 [],.sl 3 [],.sl 4 []]),(3,[.sl 8 [],.sl 9 [],.sl 10 [],.sl 11 []]),(4,[ti,ti])],ro:=[(0,.mon,true),(1,(.sl .int),false),(2,.mon,false),(3,.entry,false),(4,.entry,false),(5,(.sl .int),true),(6,.entry,true),(7,.entry,true),(8,(.sl .int),true),(9,.mon,true),(10,.entry,true),(11,.entry,true)],sk:=[(0,0,0,.sl 1 []),(0,0,1,.sl 2 []),(0,0,2,.sl 3 []),(0,0,3,.sl 4 []),(0,3,0,.lp 2 0),(0,6,0,.lp 3 0),(0,10,0,.lp 4 0),(0,12,0,.sl 5 []),(0,12,2,.sl 6 []),(0,12,3,.sl 7 [])] })]
theorem zUj (a0:Host)(a1 a2:Int)(hc:zAM a0 a1 a2=true):∃N,zM6 N a0 a1 a2=some [aH (ztC a0 a1 a2),aB (zAL a0 a1 a2)]:=by
 have hs:=zD.1 hc;have hH:=(zJ a0).1 hs;refine zbP fun N hNN=>?_;unfold zM6 ztC zAL zeI oN nB
 conv=>zeta
 refine must (zbs hs) (must rfl ?_);rw[show zg6 a0 a1 a2=zbC a0 a1 a2 from rfl]
 cases hp:zbC a0 a1 a2
 .rfl
 .have P:=zxE hp;have hm:zeF (ix a0.Mons a1 zf):=hH.2.1.2 _ (zbq P.hm _);obtain ⟨k,rfl,hk⟩:=zdA (n:=a0.Mons.length) P.hm;have i1:inb a2 (ln (ix a0.Mons (k:Int) zf).Dirty)=true:=by rw[ln,P.hd];exact P.hp
  have i2:inb a2 (ln (ix a0.Mons (k:Int) zf).Outer)=true:=by rw[ln,P.ho];exact P.hp
  have hT:=(zcb hm.2.2.2.2.2.1).1;refine zcT rfl ?_;rw[P.hs];refine must P.hm (must i2 ?_);cases hpg:ieq (ix (ix a0.Mons (k:Int) zf).Outer a2 zK).Page (-1)
  .have hpg2:ine (ix (ix a0.Mons (k:Int) zf).Outer a2 zK).Page (-1)=true:=by rw[zku];exact congrArg not hpg
   refine must hpg2 (must i2 ?_);simp only[share];refine must (by simp only[ln,zfE];exact P.hm) ?_
   simp only[zcC,cT,zcZ];refine zvP (ix a0.Mons (k:Int) zf).Guests.length (fun i (t:List Mon)=>(a2,(k:Int),ln (ix (up a0.Mons (k:Int) (grd (ix a0.Mons (k:Int) zf) a2)) (k:Int) zf).Guests,(i:Int),(ix (ix a0.Mons (k:Int) zf).Outer a2 zK).Page,(ix (ix a0.Mons (k:Int) zf).Outer a2 zK).Rights,(ix (ix a0.Mons (k:Int) zf).Outer a2 zK).Page,(ix (ix a0.Mons (k:Int) zf).Outer a2 zK).Rights,t,a0.Memory,a0.Mons,a0.Buffer,a0.IoBuffer,a0.Memory,a0.Buffer,a0.IoBuffer,[],[],[],[],())) _
    (fun i t=>t=up a0.Mons (k:Int) (zgQ (grd (ix a0.Mons (k:Int) zf) a2) a2 i)) (fun _ _=>some [AV.agg (zbh (zbQ (zkZ a0 (k:Int) a2) (k:Int) a2 ⟨(ix (ix a0.Mons (k:Int) zf).Outer a2 zK).Page,1⟩)),AV.one (.b true)]) (fun i t rec hi hI hr=>?_) (fun t rec hI=>?_) _ 0 (up a0.Mons (k:Int) (grd (ix a0.Mons (k:Int) zf) a2)) rfl (jU _) ?_
   .subst hI;have hi1:i<(ix a0.Mons (k:Int) zf).Tables.length:=by rw[P.ht];exact hi
    have hi2:i<(ziK (ix a0.Mons (k:Int) zf).Guests a2 i (ix a0.Mons (k:Int) zf).Tables).length:=by rw[zmk];exact hi1
    have hf:zhP (ix (ziK (ix a0.Mons (k:Int) zf).Guests a2 i (ix a0.Mons (k:Int) zf).Tables) (i:Int) zef) (ix (ix a0.Mons (k:Int) zf).Guests (i:Int) zx).Live a2=true :=
     zbs ⟨by rw[zba hi2];exact (zqg _ _ _ _ (by omega) hm.2.2.2.2.2).2 _ (jE hi2),by rw[zba hi];exact (hm.2.2.2.1.2 _ (jE hi)).2.2.1⟩
    simp only[zdx hk,zpO,zgQ,grd,zbf hi,zN hi2,zN hi,hf,cT,share,zT hi1 hT];have hr':=hr _ rfl;simp only[zdx hk,zgQ,grd]at hr';exact hr'
   .subst hI;have f1:zdP a0.Buffer (ix (ix a0.Mons (k:Int) zf).Outer a2 zK).Page=true:=zbs hH.2.2.1;have f2:zdP a0.IoBuffer (ix (ix a0.Mons (k:Int) zf).Outer a2 zK).Page=true:=zbs hH.2.2.2;unfold zbQ zkZ zKr;simp only[zdx hk,zpO,zgQ,grd,zbd,hpg2,f1,f2,i1,P.ht,share,cT,cF]
   .exact hNN (by rw[<- P.ht];omega)
  .refine zcT (by rw[zku];exact congrArg not hpg) (must i1 ?_)
   rfl
theorem zOD:vB 23 zEH:=kF3 zw0 zq zl zdD zVe zUj
def zYS:zO:=[(132,zEP),(23,zEH)]++zWH
theorem zNH:zF zYS:=zh zOM (zh zOD zw0)
def zoe (m:Int):Nat->Nat->Host->Host
 | 0,_,h=>h
 | n+1,i,h=>zoe m n (i+1) (zeI h m (i:Int))
def cleaned (h:Host)(m:Int):Host:=bif zcf h m then zoe m 8 0 h else h
theorem zNS {ρ:Type}(m:Int)(K:List (List Int)×List Mon×List Entry×List Entry->Option ρ):∀(n i:Nat) (h:Host),SmH h ->
 goN (fun i (t:List (List Int)×List Mon×List Entry×List Entry) κ=>bif pc (zbz ⟨t.1,t.2.1,t.2.2.1,t.2.2.2⟩) then κ ((zeI ⟨t.1,t.2.1,t.2.2.1,t.2.2.2⟩ m (i:Int)).Memory,(zeI ⟨t.1,t.2.1,t.2.2.1,t.2.2.2⟩ m (i:Int)).Mons,(zeI ⟨t.1,t.2.1,t.2.2.1,t.2.2.2⟩ m (i:Int)).Buffer,(zeI ⟨t.1,t.2.1,t.2.2.1,t.2.2.2⟩ m (i:Int)).IoBuffer) else none) K n i (h.Memory,h.Mons,h.Buffer,h.IoBuffer)
  = K ((zoe m n i h).Memory,(zoe m n i h).Mons,(zoe m n i h).Buffer,(zoe m n i h).IoBuffer)
 | 0,_,_,_=>rfl
 | n+1,i,h,hs=>by
  have e:pc (zbz ⟨h.Memory,h.Mons,h.Buffer,h.IoBuffer⟩)=true:=zbs ((zJ h).2 hs);simp only[goN,e,cT];exact zNS m K n (i+1) (zeI h m (i:Int)) (zOs hs)
@[simp] abbrev zAJ (h:Host)(m:Int):Bool:=pc (zbz h)
@[simp] abbrev zsa (h:Host)(m:Int):Host:=cleaned h m
@[simp] abbrev zsb (h:Host)(m:Int):Bool:=zcf h m
def zv1:Run:=rF2 dH dI fun b c=>(zAJ b c,[aH (zsa b c),aB (zsb b c)])
def zzx (N:Nat)(a0:Host)(a1:Int):OA:=
 let y2:=(zcZ a0); (oN (zhQ a0) (oN (zko a0) (cond (nB (zjI a0)) (some [(aH y2),(aB false)]) (oN (zdi a1 (ln a0.Mons)) (cond (nB (zdT a1 (ln a0.Mons))) (some [(aH y2),(aB false)]) (iter (σ:=(Int×(Int×(lM×(lN×(lE×(lE×(lM×(lN×(lE×(lE×Unit))))))))))) N (fun r3 s4=>let y0:=(⟨s4.2.2.2.2.2.2.1,s4.2.2.2.2.2.2.2.1,s4.2.2.2.2.2.2.2.2.1,s4.2.2.2.2.2.2.2.2.2.1⟩:Host);let y1:=(ztC y0 s4.1 s4.2.1); (cond (ilt s4.2.1 8) (oN (zAM y0 s4.1 s4.2.1) (r3 (s4.1,((zG .i64 s4.2.1 1),(s4.2.2.1,(s4.2.2.2.1,(s4.2.2.2.2.1,(s4.2.2.2.2.2.1,(y1.Memory,(y1.Mons,(y1.Buffer,(y1.IoBuffer,())))))))))))) (some [(aH y0),(aB true)]))) (a1,(0,([],([],([],([],(y2.Memory,(y2.Mons,(y2.Buffer,(y2.IoBuffer,()))))))))))))))))
def zMK:FuncId->Nat->Option Tmpl:=zo [(7,0,{ n:=34,tm:=[(1,ti),(4,.lp 0 0),(6,.lp 1 0),(7,ti)],lo:=[(0,[.sl 0 [],.sl 1 [],.sl 2 [],.sl 3 []]),(1,[.sl 4 [],.sl 5 [],.sl 6 [],.sl 7 []])],ro:=[(0,(.sl .int),true),(1,.mon,true),(2,.entry,true),(3,.entry,true),(4,(.sl .int),true),(5,.mon,true),(6,.entry,true),(7,.entry,true)] })]
theorem zLC (a0:Host)(a1:Int)(hc:zAJ a0 a1=true):∃N,zzx N a0 a1=some [aH (zsa a0 a1),aB (zsb a0 a1)]:=by
 have hs:=zD.1 hc;refine zbP fun N hNN=>?_;unfold zzx zsa zsb cleaned zcf oN nB
 conv=>zeta
 refine must (zbs hs) (must rfl ?_);rw[show zjI a0=zbK a0 from rfl]
 cases hp:zbK a0
 .rfl
 refine zcT rfl (must rfl ?_);rw[show zdT a1 (ln a0.Mons)=hasB a1 (ln a0.Mons) from rfl]
 cases hp:hasB a1 (ln a0.Mons)
 .rfl
 refine zcT rfl ?_;refine (zot 8 (fun i (t:lM×lN×lE×lE)=>(a1,(i:Int),[],[],[],[],t.1,t.2.1,t.2.2.1,t.2.2.2,())) _ (fun i (t:List (List Int)×List Mon×List Entry×List Entry) κ=>bif pc (zbz ⟨t.1,t.2.1,t.2.2.1,t.2.2.2⟩) then κ ((zeI ⟨t.1,t.2.1,t.2.2.1,t.2.2.2⟩ a1 (i:Int)).Memory,(zeI ⟨t.1,t.2.1,t.2.2.1,t.2.2.2⟩ a1 (i:Int)).Mons,(zeI ⟨t.1,t.2.1,t.2.2.1,t.2.2.2⟩ a1 (i:Int)).Buffer,(zeI ⟨t.1,t.2.1,t.2.2.1,t.2.2.2⟩ a1 (i:Int)).IoBuffer) else none) (fun (t:lM×lN×lE×lE)=>(some [(.agg (zbh (⟨t.1,t.2.1,t.2.2.1,t.2.2.2⟩:Host))),(.one (.b true))])) (fun i hi t rec=>?_) (fun t rec=>?_) _ ((zcZ a0).Memory,(zcZ a0).Mons,(zcZ a0).Buffer,(zcZ a0).IoBuffer) (hNN (by decide))).trans ?_
 .simp only [show ilt (i:Int) 8=true from qI (by omega),zT hi (show 8<=big by decide),cT]
 .simp only [show ilt (((8:Nat)):Int) 8=false from qJ (by omega),cF]
 refine (zNS a1 _ 8 0 a0 ((zJ a0).1 hs)).trans ?_;generalize zoe a1 8 0 a0=x;rfl
theorem zFD:vB 7 zv1:=kF2 zNH zq zl zdD zMK zLC
def zYT:zO:=[(7,zv1)]++zYS
theorem zjC:zF zYT:=zh zFD zNH
def zxD (o i t:Int):Int:=bif zgn i t then 1 else (cond (zgn o t) 2 0)
@[simp] abbrev zpB (o i t:Int):Bool:=true
@[simp] abbrev zmA (o i t:Int):Int:=zxD o i t
def zyT:Run:=rF3 dI dI dI fun b c d=>(zpB b c d,[aI (zmA b c d)])
def zD2 (N:Nat)(a0 a1 a2:Int):OA:=
 (oN (zhA a1 a2) (cond (zhd a1 a2) (some [(aI 1)]) (oN (zhA a0 a2) (cond (zhd a0 a2) (some [(aI 2)]) (some [(aI 0)])))))
theorem zPp (a0 a1 a2:Int)(hc:zpB a0 a1 a2=true):∃N,zD2 N a0 a1 a2=some [aI (zmA a0 a1 a2)]:=by
 refine ⟨0,?_⟩;unfold zD2 oN;refine must rfl (br (fun _=>?_) (fun _=>must rfl (br (fun _=>?_) (fun _=>?_))))
 all_goals first|rfl|(simp only [*,zmA,zxD,cT,cF]<;>rfl)|simp_all[Ty.cells,zmA,zxD]
theorem zIy:vB 190 zyT:=kF3 zjC zq zl zdD (zo []) zPp
def zek (m g:Int):Int:=bif win m 0 2 then (cond (win g 0 1) (zG .i64 (zG .i64 1 g) (zmn .i64 m 2)) 0) else 0
@[simp] abbrev zj0 (m g:Int):Bool:=true
@[simp] abbrev zrO (m g:Int):Int:=zek m g
def zEW:Run:=rF2 dI dI fun b c=>(zj0 b c,[aI (zrO b c)])
def zNm (N:Nat)(a0 a1:Int):OA:=
 (oN (zI a0 0 2) (cond (nB (zL a0 0 2)) (some [(aI 0)]) (oN (zI a1 0 1) (cond (nB (zL a1 0 1)) (some [(aI 0)]) (some [(aI (zG .i64 (zG .i64 1 a1) (zmn .i64 a0 2)))])))))
theorem zUA (a0 a1:Int)(hc:zj0 a0 a1=true):∃N,zNm N a0 a1=some [aI (zrO a0 a1)]:=by
 refine ⟨0,?_⟩;unfold zNm oN nB;refine must rfl (brN (fun _=>?_) (fun _=>must rfl (brN (fun _=>?_) (fun _=>?_))))
 all_goals first|rfl|(simp only [*,zrO,zek,cT,cF]<;>rfl)|simp_all[Ty.cells,zrO,zek]
theorem zOT:vB 148 zEW:=kF2 zjC zq zl zdD (zo []) zUA
def zjN (k:Kept)(p:Int):Bool:=bif zdc k p then ix k.Known p false else false
def zeG (k:Kept)(p:Int):Slot:=bif zjN k p then ix k.Slots p zK else noSlot
@[simp] abbrev zCF (k:Kept)(p:Int):Bool:=pc (SmK k)
@[simp] abbrev zrM (k:Kept)(p:Int):Slot:=zeG k p
@[simp] abbrev zCE (k:Kept)(p:Int):Bool:=zjN k p
def zOk:Run:=rF2 (dT .kept) dI fun b c=>(zCF b c,[aT .slot (zrM b c),aB (zCE b c)])
def zVq (N:Nat)(a0:Kept)(a1:Int):OA:=
 let y0:=(ix a0.Slots a1 zK); (oN (znW a0 a1) (cond (nB (zhC a0 a1)) (oN zcj (some [(.agg [(.i .i64 zbr.Page),(.i .i64 zbr.Rights)]),(aB false)])) (oN (inb a1 (ln a0.Known)) (cond (nB (ix a0.Known a1 false)) (oN zcj (some [(.agg [(.i .i64 zbr.Page),(.i .i64 zbr.Rights)]),(aB false)])) (oN (inb a1 (ln a0.Slots)) (some [(.agg [(.i .i64 y0.Page),(.i .i64 y0.Rights)]),(aB true)]))))))
theorem zZx (a0:Kept)(a1:Int)(hc:zCF a0 a1=true):∃N,zVq N a0 a1=some [aT .slot (zrM a0 a1),aB (zCE a0 a1)]:=by
 have hs:=zD.1 hc;refine ⟨0,?_⟩;unfold zVq zrM zCE zeG zjN oN nB
 conv=>zeta
 refine must (zbs hs) ?_;rw[show zhC a0 a1=zdc a0 a1 from rfl]
 cases hh:zdc a0 a1
 .rfl
 .unfold zdc at hh;obtain ⟨h1,h2⟩:=zcM.1 hh;simp only[zB h1,zB h2,cT];cases ix a0.Known a1 false<;>rfl
theorem zUg:vB 206 zOk:=kF2 zjC zq zl zdD (zo []) zZx
def filled (k:Kept)(inner outer:List Slot)(p:Int):Kept:=bif zdc k p then (cond (hasB p (ln inner)) ⟨up k.Known p true,up k.Slots p (zbm (ix inner p zK) outer)⟩ k) else k
@[simp] theorem zX5 {k:Kept}{inner outer:List Slot}{p:Int}(h:SmK k):SmK (filled k inner outer p):=by
 unfold filled;cases zdc k p
 .exact h
 .cases hasB p (ln inner)
  .exact h
  .exact ⟨by simpa using h.1,by simpa using h.2⟩
@[simp] abbrev zGF (k:Kept)(i o:List Slot)(p:Int):Bool:=pc (SmK k)
@[simp] abbrev zJQ (k:Kept)(i o:List Slot)(p:Int):Kept:=filled k i o p
def zJO:Run:=rF4 (dT .kept) (dS .slot) (dS .slot) dI fun b c d e=>(zGF b c d e,[aT .kept (zJQ b c d e)])
def zQr (N:Nat)(a0:Kept)(a1 a2:lS)(a3:Int):OA:=
 let y0:=(zc9 a0); (oN (zfq a0) (oN (znW y0 a3) (cond (zhC y0 a3) (cond (ilt a3 (ln a1)) (oN (inb a3 (ln y0.Known)) (share (up y0.Known a3 true) (fun x5=>(oN (inb a3 (ln a1)) (oN (zjr (ix a1 a3 zK) a2) (oN (inb a3 (ln y0.Slots)) (share (up y0.Slots a3 (zlL (ix a1 a3 zK) a2)) (fun x6=>(some [(aT .kept (⟨x5,x6⟩:Kept))]))))))))) (some [(aT .kept y0)])) (some [(aT .kept y0)]))))
theorem zXo (a0:Kept)(a1 a2:List Slot)(a3:Int)(hc:zGF a0 a1 a2 a3=true):∃N,zQr N a0 a1 a2 a3=some [aT .kept (zJQ a0 a1 a2 a3)]:=by
 have hs:=zD.1 hc;refine ⟨0,?_⟩;unfold zQr zJQ filled oN
 conv=>zeta
 refine must (zbs ((zvv _).2 hs)) (must (zbs hs) ?_);rw[show zhC (zc9 a0) a3=zdc a0 a3 from rfl]
 cases hh:zdc a0 a3
 .rfl
 .unfold zdc at hh;obtain ⟨h1,h2⟩:=zcM.1 hh;rw[has_lt h1 (m:=ln a1)];cases h3:hasB a3 (ln a1)
  .rfl
  .simp only [cT,zc9,zB h1,zB h2,zB h3,share,zjr];rfl
theorem zRp:vB 207 zJO:=kF4 zjC zq zl zdD (zo []) zXo
theorem zRg {α ρ:Type}(p:α->Bool)(r:α->Option ρ)(K:Unit->Option ρ):∀(l:List α) (i:Nat),goL (fun _ x (_:Unit) k=>bif p x then r x else k ()) K l i ()=match l.find? p with|some x=>r x|none=>K ()
 | [],_=>rfl
 | x :: l,i=>by
  simp only[goL];cases h:p x
  .rw [List.find?_cons_of_neg (by simp[h])]
   exact zRg p r K l (i+1)
  .rw [List.find?_cons_of_pos h];rfl
def zCr (b:List Entry)(t p:Int):Option Entry:=b.find? fun e=>bif ieq e.Tag t then ieq e.Page p else false
@[simp] abbrev zlO (b:List Entry)(t p:Int):Bool:=true
@[simp] abbrev zlN (b:List Entry)(t p:Int):Entry:=(zCr b t p).getD ⟨0,0,0,0⟩
@[simp] abbrev ziS (b:List Entry)(t p:Int):Bool:=(zCr b t p).isSome
def ztX:Run:=rF3 (dS .entry) dI dI fun b c d=>(zlO b c d,[aT .entry (zlN b c d),aB (ziS b c d)])
def zym (N:Nat)(a0:lE)(a1 a2:Int):OA:=
 (iter (σ:=(Int×(Int×(Int×(Int×(Int×(Int×(Int×(lE×Unit))))))))) N (fun r4 s5=>let y2:=s5.2.2.2.2.2.2.2.1;let y3:=(inb s5.2.2.1 (ln y2));let y1:=(r4 (s5.1,(s5.2.1,((zG .i64 s5.2.2.1 1),(s5.2.2.2.1,(s5.2.2.2.2.1,(s5.2.2.2.2.2.1,(s5.2.2.2.2.2.2.1,(y2,())))))))));let y0:=(ix y2 s5.2.2.1 zev); (cond (ilt s5.2.2.1 (ln y2)) (oN y3 (cond (ieq y0.Tag s5.1) (oN y3 (cond (ieq y0.Page s5.2.1) (oN y3 (some [(.agg [(.i .i64 y0.Tag),(.i .i64 y0.Page),(.i .i64 y0.Host),(.i .i64 y0.Rights)]),(aB true)])) y1)) y1)) (some [(.agg [(.i .i64 0),(.i .i64 0),(.i .i64 0),(.i .i64 0)]),(aB false)]))) (a1,(a2,(0,(0,(0,(0,(0,(a0,())))))))))
def zKl:FuncId->Nat->Option Tmpl:=zo [(204,0,{ n:=36,tm:=[(0,.sl 0 []),(1,ti),(2,ti),(6,.lp 0 0),(8,ti)],lo:=[(0,[ti,ti,ti,ti])],ro:=[(0,.entry,false)] })]
theorem zJh (a0:List Entry)(a1 a2:Int)(hb:zbG big [aS .entry a0,aI a1,aI a2])(hc:zlO a0 a1 a2=true):∃N,zym N a0 a1 a2=some [aT .entry (zlN a0 a1 a2),aB (ziS a0 a1 a2)]:=by
 have hl:=(len0 hb);refine zbP fun N hNN=>?_;unfold zym oN
 conv=>zeta
 refine (zbc a0 (fun i (t:Unit)=>(a1,a2,(i:Int),0,0,0,0,a0,())) _ (fun _ (x:Entry) (_:Unit) κ=>bif (cond (ieq x.Tag a1) (ieq x.Page a2) false) then (some [AV.agg (Ty.cells .entry x),AV.one (.b true)]) else κ ()) (fun (t:Unit)=>(some [(.agg [(.i .i64 0),(.i .i64 0),(.i .i64 0),(.i .i64 0)]),(.one (.b false))])) (fun i hi t rec=>?_) (fun t rec=>?_) _ () (hNN hl)).trans ?_
 .simp only [zbf hi,zN hi,zba hi,zT hi hl,cT];cases ieq a0[i].Tag a1<;>cases ieq a0[i].Page a2<;>rfl
 .simp only [zbd,cF]
 rw[zRg (fun e:Entry=>bif ieq e.Tag a1 then ieq e.Page a2 else false)]
 unfold zlN ziS zCr;cases a0.find? (fun e:Entry=>bif ieq e.Tag a1 then ieq e.Page a2 else false)<;>rfl
theorem zC2:vB 204 ztX:=hF3 zjC zq zl zdD zKl zJh
def zA2 (t p:Int)(e:Entry):Bool:=bif ine e.Tag t then true else ine e.Page p
def zcn (b:List Entry)(t p:Int):List Entry:=b.filter (zA2 t p)
theorem zw7 (b:List Entry)(t p:Int):(zcn b t p).length<=b.length:=k5 _ _
@[simp] abbrev zfP (b:List Entry)(t p:Int):Bool:=pc (b.length<=1048576)
@[simp] abbrev zls (b:List Entry)(t p:Int):List Entry:=zcn b t p
def ztZ:Run:=rF3 (dS .entry) dI dI fun b c d=>(zfP b c d,[aS .entry (zls b c d)])
def zyo (N:Nat)(a0:lE)(a1 a2:Int):OA:=
 (iter (σ:=(Int×(Int×(Int×(lE×(lE×Unit)))))) N (fun r4 s5=>let y4:=s5.2.2.2.1;let y2:=(inb s5.2.2.1 (ln y4));let y0:=(ix y4 s5.2.2.1 zev);let y3:=(ap s5.2.2.2.2.1 [y0]);let y1:=(r4 (s5.1,(s5.2.1,((zG .i64 s5.2.2.1 1),(y4,(y3,())))))); (cond (ilt s5.2.2.1 (ln y4)) (oN y2 (cond (ine y0.Tag s5.1) (oN y2 (oN (few (ln y3)) y1)) (oN y2 (cond (ine y0.Page s5.2.1) (oN y2 (oN (few (ln y3)) y1)) (r4 (s5.1,(s5.2.1,((zG .i64 s5.2.2.1 1),(y4,(s5.2.2.2.2.1,())))))))))) (some [(aS .entry s5.2.2.2.2.1)]))) (a1,(a2,(0,(a0,([],()))))))
def zKn:FuncId->Nat->Option Tmpl:=zo [(147,0,{ n:=40,tm:=[(0,.sl 0 []),(1,ti),(2,ti),(7,.sl 1 []),(8,ti)],lo:=[],ro:=[(0,.entry,false),(1,.entry,true)] })]
theorem zJj (a0:List Entry)(a1 a2:Int)(hc:zfP a0 a1 a2=true):∃N,zyo N a0 a1 a2=some [aS .entry (zls a0 a1 a2)]:=by
 have hs:=zD.1 hc;have hl:=zcb hs;refine zbP fun N hNN=>?_;unfold zyo oN
 conv=>zeta
 refine (zbc a0 (fun i (t:lE)=>(a1,a2,(i:Int),a0,t,())) _ (fun _ (x:Entry) (t:List Entry) κ=>bif zA2 a1 a2 x then (cond (few (ln (ap t [x]))) (κ (ap t [x])) none) else κ t) (fun (t:lE)=>(some [(.one (.s .entry t))])) (fun i hi t rec=>?_) (fun t rec=>?_) _ ([]) (hNN hl.1)).trans ?_
 .simp only [zbf hi,zN hi,zba hi,zT hi hl.1,cT];unfold zA2;cases ine a0[i].Tag a1<;>cases ine a0[i].Page a2<;>rfl
 .simp only [zbd,cF]
 exact zmZ (zA2 a1 a2) _ a0 0 [] (by simpa using hl.2)
theorem zC4:vB 147 ztZ:=kF3 zjC zq zl zdD zKn zJj
def z3r:zO:=[(190,zyT),(148,zEW),(206,zOk),(207,zJO),(204,ztX),(147,ztZ)]++zYT
theorem zw1:zF z3r:=zh zIy (zh zOT (zh zUg (zh zRp (zh zC2 (zh zC4 zjC)))))
def zso (b:List Entry)(e:Entry):List Entry:=bif igt (ln (ap (zcn b e.Tag e.Page) [e])) 6 then dp (ap (zcn b e.Tag e.Page) [e]) (wsub .i64 (ln (ap (zcn b e.Tag e.Page) [e])) 6) else ap (zcn b e.Tag e.Page) [e]
theorem zGD {b:List Entry}(e:Entry)(h:b.length<=1048576):(zso b e).length<=1048576/\(ap (zcn b e.Tag e.Page) [e]).length<=1048577:=by
 have h1:=zw7 b e.Tag e.Page;have h2:(ap (zcn b e.Tag e.Page) [e]).length<=1048577:=by simp[ap];omega
 refine ⟨?_,h2⟩;unfold zso;cases h3:igt (ln (ap (zcn b e.Tag e.Page) [e])) 6
 .have h3:=jV h3;simp only[ln]at h3;simp only[cF];omega
 .simp only [cT,dp,List.length_drop];have h3:=qE h3;have:wsub .i64 (ln (ap (zcn b e.Tag e.Page) [e])) 6=ln (ap (zcn b e.Tag e.Page) [e])-6:=zCM (by simp only[ln] at *;omega) (by simp only[ln] at *;omega)
  rw[this];simp only[ln] at *;omega
@[simp] abbrev znM (b:List Entry)(e:Entry):Bool:=pc (b.length<=1048576)
@[simp] abbrev znL (b:List Entry)(e:Entry):List Entry:=zso b e
def zwo:Run:=rF2 (dS .entry) (dT .entry) fun b c=>(znM b c,[aS .entry (znL b c)])
def zzW (N:Nat)(a0:lE)(a1:Entry):OA:=
 let y0:=(ap (zls a0 a1.Tag a1.Page) [a1]);let y1:=(wsub .i64 (ln y0) 6); (oN (zfP a0 a1.Tag a1.Page) (oN (few (ln y0)) (cond (igt (ln y0) 6) (oN (inr y1 (ln y0) (ln y0)) (oN (few (ln (ap [] (dp y0 y1)))) (some [(aS .entry (ap [] (dp y0 y1)))]))) (some [(aS .entry y0)]))))
theorem zL1 (a0:List Entry)(a1:Entry)(hc:znM a0 a1=true):∃N,zzW N a0 a1=some [aS .entry (znL a0 a1)]:=by
 have hs:=zD.1 hc;obtain ⟨h1,h2⟩:=zGD a1 hs;refine ⟨0,?_⟩;unfold zzW oN
 conv=>zeta
 refine must (zbs hs) (must (zfT (jB h2 (by decide:1048577<=2147483648))) ?_)
 unfold znL zso at *
 show _=some [AV.one (.s .entry (cond (igt (ln (ap (zcn a0 a1.Tag a1.Page) [a1])) 6) (dp (ap (zcn a0 a1.Tag a1.Page) [a1]) (wsub .i64 (ln (ap (zcn a0 a1.Tag a1.Page) [a1])) 6)) (ap (zcn a0 a1.Tag a1.Page) [a1])))]
 cases h3:igt (ln (ap (zcn a0 a1.Tag a1.Page) [a1])) 6
 .rfl
 .rw [h3]at h1;simp only[cT]at h1;have h3:=qE h3;have e:wsub .i64 (ln (ap (zcn a0 a1.Tag a1.Page) [a1])) 6=ln (ap (zcn a0 a1.Tag a1.Page) [a1])-6:=zCM (by simp only[ln] at *;omega) (by simp only[ln] at *;omega)
  refine must rfl (must (qI ?_) (must ?_ ?_))
  .show 0<=wsub .i64 (ln (ap (zcn a0 a1.Tag a1.Page) [a1])) 6/\wsub .i64 (ln (ap (zcn a0 a1.Tag a1.Page) [a1])) 6<=ln (ap (zcn a0 a1.Tag a1.Page) [a1])/\ln (ap (zcn a0 a1.Tag a1.Page) [a1])<=ln (ap (zcn a0 a1.Tag a1.Page) [a1])
   rw[e];simp only[ln] at *;omega
  .exact zmq h1
  .rw [zjy];rfl
theorem zF1:vB 208 zwo:=kF2 zw1 zq zl zdD (zo []) zL1
def zmY (l:List Slot)(p:Int):Option Nat:=l.findIdx? fun s=>ieq s.Page p
def zhb (p:Int):List Mon->Nat->Int×Int
 | [],_=>(-1,-1)
 | m :: l,i=>match zmY m.Outer p with|some k=>((i:Int),(k:Int))|none=>zhb p l (i+1)
def zbo (h:Host)(p:Int):Int×Int:=bif ilt p 0 then (-1,-1) else zhb p h.Mons 0
theorem zNR {ρ:Type}(p:Slot->Bool)(r:Nat->Option ρ)(K:Unit->Option ρ):∀(l:List Slot) (i:Nat),goL (fun j x (_:Unit) k=>bif p x then r j else k ()) K l i ()=match l.findIdx? p with|some k=>r (i+k)|none=>K ()
 | [],_=>rfl
 | x :: l,i=>by
  simp only[goL];rw[List.findIdx?_cons];cases h:p x
  .simp only [cF,j9,if_false];rw[zNR p r K l (i+1)];cases l.findIdx? p with
   | none=>rfl
   | some k=>simp only[Option.map_some];congr 1;omega
  .rfl
theorem zKF {ρ:Type}(p:Int)(r:Int->Int->Option ρ):∀(l:List Mon) (i:Nat),goL (fun i (x:Mon) (_:Unit) κ=>goL (fun j (y:Slot) (_:Unit) κ₁=>bif ieq y.Page p then r (i:Int) (j:Int) else κ₁ ()) (fun _=>κ ()) x.Outer 0 ()) (fun _=>r (-1) (-1)) l i ()=r (zhb p l i).1 (zhb p l i).2
 | [],_=>rfl
 | m :: l,i=>by
  simp only[goL,zhb];rw[zNR (fun s=>ieq s.Page p) (fun j=>r (i:Int) (j:Int))];unfold zmY;cases m.Outer.findIdx? (fun s=>ieq s.Page p) with
  | none=>exact zKF p r l (i+1)
  | some k=>simp only[jW]
@[simp] abbrev zjo (h:Host)(p:Int):Bool:=true
@[simp] abbrev zfG (h:Host)(p:Int):Int:=(zbo h p).1
@[simp] abbrev zg3 (h:Host)(p:Int):Int:=(zbo h p).2
def zq0:Run:=rF2 dH dI fun b c=>(zjo b c,[aI (zfG b c),aI (zg3 b c)])
def zs7 (N:Nat)(a0:Host)(a1:Int):OA:=
 (cond (ilt a1 0) (some [(aI (-1)),(aI (-1))]) (iter (σ:=(Int×(Int×(Int×(lN×Unit))))) N (fun r3 s4=>let y3:=s4.2.2.1; (cond (ilt y3 s4.2.1) (oN (inb y3 (ln s4.2.2.2.1)) (iter (σ:=(Int×(Int×(Int×(Int×(Int×(Int×(Int×(lN×Unit))))))))) N (fun r5 s6=>let y2:=s6.2.2.2.2.2.2.2.1;let y1:=(ix y2 s6.2.2.2.2.1 zf).Outer;let y0:=s6.2.2.2.2.2.2.1; (cond (ilt y0 s6.2.2.2.2.2.1) (oN (inb y0 (ln y1)) (cond (ieq (ix y1 y0 zK).Page s6.1) (some [(aI s6.2.1),(aI y0)]) (r5 (s6.1,(s6.2.1,(s6.2.2.1,(s6.2.2.2.1,(s6.2.2.2.2.1,(s6.2.2.2.2.2.1,((zG .i64 y0 1),(y2,()))))))))))) (r3 (s6.1,(s6.2.2.1,((zG .i64 s6.2.2.2.1 1),(y2,()))))))) (s4.1,(y3,(s4.2.1,(y3,(y3,((ln (ix s4.2.2.2.1 y3 zf).Outer),(0,(s4.2.2.2.1,())))))))))) (some [(aI (-1)),(aI (-1))]))) (a1,((ln a0.Mons),(0,(a0.Mons,()))))))
def zDD:FuncId->Nat->Option Tmpl:=zo [(37,0,{ n:=36,tm:=[(1,ti),(13,.sl 0 []),(14,ti),(15,ti)],lo:=[],ro:=[(0,.mon,false)] }),(37,2,{ n:=36,tm:=[(1,ti),(6,ti),(13,.sl 0 []),(14,ti),(15,ti),(21,.sl 0 [0]),(22,ti),(23,ti)],lo:=[],ro:=[(0,.mon,false)] })]
theorem zDj (a0:Host)(a1:Int)(hb:zbG big [aH a0,aI a1])(hc:zjo a0 a1=true):∃N,zs7 N a0 a1=some [aI (zfG a0 a1),aI (zg3 a0 a1)]:=by
 have hm:CVB big (.s .mon a0.Mons):=(zcX hb).1 _ (by simp[AV.cvs,zbh])
 have hl:=hm.len;refine zbP fun N hNN=>?_;unfold zs7 zfG zg3 zbo oN
 conv=>zeta
 cases h0:ilt a1 0
 .simp only [cF];refine (zbc a0.Mons (fun i (t:Unit)=>(a1,(ln a0.Mons),(i:Int),a0.Mons,())) _ (fun i (x:Mon) (_:Unit) κ=>goL (fun j (y:Slot) (_:Unit) κ₁=>bif ieq y.Page a1 then some [AV.one (.i .i64 (i:Int)),AV.one (.i .i64 (j:Int))] else κ₁ ()) (fun _=>κ ()) x.Outer 0 ()) (fun (t:Unit)=>(some [(.one (.i .i64 (-1))),(.one (.i .i64 (-1)))])) (fun i hi t rec=>?_) (fun t rec=>?_) _ () (hNN hl)).trans ?_
  .simp only [zbf hi,zN hi,zba hi,zT hi hl,cT];have ho:a0.Mons[i].Outer.length<=big:=(hm.inv.2 _ (jE hi) (.s .slot _) (by simp[Ty.cells])).len
   refine (zbc a0.Mons[i].Outer (fun j (u:Unit)=>(a1,(i:Int),(ln a0.Mons),(i:Int),(i:Int),(ln a0.Mons[i].Outer),(j:Int),a0.Mons,())) _ (fun j (y:Slot) (_:Unit) κ₁=>bif ieq y.Page a1 then some [AV.one (.i .i64 (i:Int)),AV.one (.i .i64 (j:Int))] else κ₁ ()) (fun (u:Unit)=>(rec (a1,((ln a0.Mons),((((i+1:Nat)):Int),(a0.Mons,())))))) (fun j hj u rec1=>?_) (fun u rec1=>?_) _ () (hNN ho)).trans ?_
   .simp only [zbf hj,zN hj,zba hj,zT hj ho,cT,zN hi,zba hi,zT hi hl]
   .simp only [zbd,cF,zN hi,zba hi,zT hi hl]
   rfl
  .simp only [zbd,cF]
  exact zKF a1 (fun i j=>some [AV.one (.i .i64 i),AV.one (.i .i64 j)]) a0.Mons 0
 .rfl
theorem zzj:vB 37 zq0:=hF2 zw1 zq zl zdD zDD zDj
theorem zZh {α τ ρ:Type}(r:Option ρ):∀(l:List α) (i:Nat) (t:τ),goL (fun _ _ _ _=>r) (fun _=>r) l i t=r
 | [],_,_=>rfl
 | _ :: _,_,_=>rfl
@[simp] abbrev zjs (h:Host)(p:Int):Bool:=true
@[simp] abbrev zfI (h:Host)(p:Int):Int:=(zbo h p).1
@[simp] abbrev zhe (h:Host)(p:Int):Int:=(zbo h p).2
def zq3:Run:=rF2 dH dI fun b c=>(zjs b c,[aI (zfI b c),aI (zhe b c)])
def zti (N:Nat)(a0:Host)(a1:Int):OA:=
 (iter (σ:=(Int×(Int×(lM×(lN×(lE×(lE×Unit))))))) N (fun r3 s4=>(cond (ilt s4.2.1 (ln s4.2.2.2.1)) (cond (ige s4.1 0) (iter (σ:=(Int×(Int×(Int×(lM×(lN×(lE×(lE×Unit)))))))) N (fun r5 s6=>let y1:=s6.2.2.2.2.1;let y0:=(ix y1 s6.2.1 zf).Outer; (oN (inb s6.2.1 (ln y1)) (cond (ilt s6.2.2.1 (ln y0)) (oN (inb s6.2.1 (ln y1)) (oN (inb s6.2.2.1 (ln y0)) (cond (ieq (ix y0 s6.2.2.1 zK).Page s6.1) (some [(aI s6.2.1),(aI s6.2.2.1)]) (r5 (s6.1,(s6.2.1,((zG .i64 s6.2.2.1 1),(s6.2.2.2.1,(y1,(s6.2.2.2.2.2.1,(s6.2.2.2.2.2.2.1,()))))))))))) (r3 (s6.1,((zG .i64 s6.2.1 1),(s6.2.2.2.1,(y1,(s6.2.2.2.2.2.1,(s6.2.2.2.2.2.2.1,())))))))))) (s4.1,(s4.2.1,(0,(s4.2.2.1,(s4.2.2.2.1,(s4.2.2.2.2.1,(s4.2.2.2.2.2.1,())))))))) (some [(aI (-1)),(aI (-1))])) (some [(aI (-1)),(aI (-1))]))) (a1,(0,(a0.Memory,(a0.Mons,(a0.Buffer,(a0.IoBuffer,())))))))
def zDE:FuncId->Nat->Option Tmpl:=zo [(210,0,{ n:=44,tm:=[(1,ti),(2,.lp 0 0),(6,ti)],lo:=[(0,[.sl 0 [],.sl 1 [],.sl 2 [],.sl 3 []])],ro:=[(0,(.sl .int),false),(1,.mon,false),(2,.entry,false),(3,.entry,false)] }),(210,2,{ n:=44,tm:=[(1,ti),(2,.lp 0 0),(6,ti),(7,ti)],lo:=[(0,[.sl 0 [],.sl 1 [],.sl 2 [],.sl 3 []])],ro:=[(0,(.sl .int),false),(1,.mon,false),(2,.entry,false),(3,.entry,false)] })]
theorem zDu (a0:Host)(a1:Int)(hb:zbG big [aH a0,aI a1])(hc:zjs a0 a1=true):∃N,zti N a0 a1=some [aI (zfI a0 a1),aI (zhe a0 a1)]:=by
 have hm:CVB big (.s .mon a0.Mons):=(zcX hb).1 _ (by simp[AV.cvs,zbh])
 have hl:=hm.len;refine zbP fun N hNN=>?_;unfold zti zfI zhe zbo oN
 conv=>zeta
 refine (zbc a0.Mons (fun i (t:Unit)=>(a1,(i:Int),a0.Memory,a0.Mons,a0.Buffer,a0.IoBuffer,())) _ (fun i (x:Mon) (_:Unit) κ=>bif ige a1 0 then goL (fun j (y:Slot) (_:Unit) κ₁=>bif ieq y.Page a1 then some [AV.one (.i .i64 (i:Int)),AV.one (.i .i64 (j:Int))] else κ₁ ()) (fun _=>κ ()) x.Outer 0 () else some [AV.one (.i .i64 (-1)),AV.one (.i .i64 (-1))]) (fun (t:Unit)=>(some [(.one (.i .i64 (-1))),(.one (.i .i64 (-1)))])) (fun i hi t rec=>?_) (fun t rec=>?_) _ () (hNN hl)).trans ?_
 .simp only [zbf hi,zN hi,zba hi,zT hi hl,cT];cases h0:ige a1 0
  .rfl
  have ho:a0.Mons[i].Outer.length<=big:=(hm.inv.2 _ (jE hi) (.s .slot _) (by simp[Ty.cells])).len
  simp only[cT];refine (zbc a0.Mons[i].Outer (fun j (_:Unit)=>(a1,((i:Int),((j:Int),(a0.Memory,(a0.Mons,(a0.Buffer,(a0.IoBuffer,())))))))) _ (fun j (y:Slot) (_:Unit) κ₁=>bif ieq y.Page a1 then some [AV.one (.i .i64 (i:Int)),AV.one (.i .i64 (j:Int))] else κ₁ ()) (fun _=>rec (a1,(((i+1:Nat):Int),(a0.Memory,(a0.Mons,(a0.Buffer,(a0.IoBuffer,()))))))) (fun j hj u rec1=>?_) (fun u rec1=>?_) _ () (hNN ho)).trans ?_
  .simp only [zbf hj,zN hj,zba hj,zT hj ho,cT,zN hi,zba hi]
  .simp only [zbd,cF,cT,zN hi,zba hi,zT hi hl]
  rfl
 .simp only [zbd,cF]
 cases h0:ige a1 0
 .have h1:ilt a1 0=true:=by
   have:=jV h0;exact qI (by omega)
  rw[h1];exact zZh _ _ _ _
 .have h1:ilt a1 0=false:=by
   have:=qE h0;exact qJ (by omega)
  rw[h1];exact zKF a1 (fun i j=>some [AV.one (.i .i64 i),AV.one (.i .i64 j)]) a0.Mons 0
theorem zzt:vB 210 zq3:=hF2 zw1 zq zl zdD zDE zDu
def z3s:zO:=[(208,zwo),(210,zq3),(37,zq0)]++z3r
theorem zrY:zF z3s:=zh zF1 (zh zzt (zh zzj zw1))
def zby (h:Host):List Int:=zor (fun i=>ilt (zbo h (i:Int)).1 0) h.Memory.length 0
@[simp] abbrev zkJ (h:Host):Bool:=pc (h.Memory.length<=1048576)
@[simp] abbrev zeO (h:Host):List Int:=zby h
def zBu:Run:=rF1 dH fun b=>(zkJ b,[aS .int (zeO b)])
def zHj (N:Nat)(a0:Host):OA:=
 (iter (σ:=(Int×((List Int)×(lM×(lN×(lE×(lE×Unit))))))) N (fun r2 s3=>let y0:=(⟨s3.2.2.1,s3.2.2.2.1,s3.2.2.2.2.1,s3.2.2.2.2.2.1⟩:Host); (cond (ilt s3.1 (ln s3.2.2.1)) (oN (zjs y0 s3.1) (cond (ilt (zfI y0 s3.1) 0) (oN (few (ln (ap s3.2.1 [s3.1]))) (r2 ((zG .i64 s3.1 1),((ap s3.2.1 [s3.1]),(s3.2.2.1,(s3.2.2.2.1,(s3.2.2.2.2.1,(s3.2.2.2.2.2.1,())))))))) (r2 ((zG .i64 s3.1 1),(s3.2.1,(s3.2.2.1,(s3.2.2.2.1,(s3.2.2.2.2.1,(s3.2.2.2.2.2.1,()))))))))) (some [(aS .int s3.2.1)]))) (0,([],(a0.Memory,(a0.Mons,(a0.Buffer,(a0.IoBuffer,())))))))
def zTE:FuncId->Nat->Option Tmpl:=zo [(209,0,{ n:=28,tm:=[(1,.lp 0 0),(3,.sl 0 []),(4,ti)],lo:=[(0,[.sl 1 [],.sl 2 [],.sl 3 [],.sl 4 []])],ro:=[(0,.int,true),(1,(.sl .int),false),(2,.mon,false),(3,.entry,false),(4,.entry,false)] })]
theorem zRZ (a0:Host)(hc:zkJ a0=true):∃N,zHj N a0=some [aS .int (zeO a0)]:=by
 have hs:=zD.1 hc;have hl:=zcb hs;refine zbP fun N hNN=>?_;unfold zHj oN
 conv=>zeta
 refine (zbc a0.Memory (fun i (t:(List Int))=>((i:Int),t,a0.Memory,a0.Mons,a0.Buffer,a0.IoBuffer,())) _ (fun i (_:List Int) (t:List Int) κ=>bif ilt (zbo a0 (i:Int)).1 0 then (cond (few (ln (ap t [(i:Int)]))) (κ (ap t [(i:Int)])) none) else κ t) (fun (t:(List Int))=>(some [(.one (.s .int t))])) (fun i hi t rec=>?_) (fun t rec=>?_) _ ([]) (hNN hl.1)).trans ?_
 .simp only [zbf hi,zN hi,zba hi,zT hi hl.1,cT]
 .simp only [zbd,cF]
 rw[zvE (fun i (t:List Int) κ=>bif ilt (zbo a0 (i:Int)).1 0 then (cond (few (ln (ap t [(i:Int)]))) (κ (ap t [(i:Int)])) none) else κ t)]
 exact zr5 (fun i=>ilt (zbo a0 (i:Int)).1 0) _ _ 0 [] (by simpa using hl.2)
theorem zK5:vB 209 zBu:=kF1 zrY zq zl zdD zTE zRZ
@[simp] abbrev zeK (h:Host):Bool:=pc (h.Memory.length<=1048576)
@[simp] abbrev zdJ (h:Host):List Int:=zby h
def zsr:Run:=rF1 dH fun b=>(zeK b,[aS .int (zdJ b)])
def zG1 (N:Nat)(a0:Host):OA:=
 (iter (σ:=(Int×(Int×((List Int)×(lM×(lN×(lE×(lE×Unit)))))))) N (fun r2 s3=>let y1:=s3.2.2.2.2.2.2.1;let y0:=(⟨s3.2.2.2.1,s3.2.2.2.2.1,s3.2.2.2.2.2.1,y1⟩:Host); (cond (ilt s3.2.1 s3.1) (oN (zjo y0 s3.2.1) (cond (ilt (zfG y0 s3.2.1) 0) (oN (few (ln (ap s3.2.2.1 [s3.2.1]))) (r2 (s3.1,((zG .i64 s3.2.1 1),((ap s3.2.2.1 [s3.2.1]),(s3.2.2.2.1,(s3.2.2.2.2.1,(s3.2.2.2.2.2.1,(y1,()))))))))) (r2 (s3.1,((zG .i64 s3.2.1 1),(s3.2.2.1,(s3.2.2.2.1,(s3.2.2.2.2.1,(s3.2.2.2.2.2.1,(y1,())))))))))) (some [(aS .int s3.2.2.1)]))) ((ln a0.Memory),(0,([],(a0.Memory,(a0.Mons,(a0.Buffer,(a0.IoBuffer,()))))))))
def zTy:FuncId->Nat->Option Tmpl:=zo [(15,0,{ n:=28,tm:=[(1,.lp 0 0),(3,.sl 0 []),(10,ti),(11,ti)],lo:=[(0,[.sl 1 [],.sl 2 [],.sl 3 [],.sl 4 []])],ro:=[(0,.int,true),(1,(.sl .int),false),(2,.mon,false),(3,.entry,false),(4,.entry,false)] })]
theorem zRG (a0:Host)(hc:zeK a0=true):∃N,zG1 N a0=some [aS .int (zdJ a0)]:=by
 have hs:=zD.1 hc;have hl:=zcb hs;refine zbP fun N hNN=>?_;unfold zG1 oN
 conv=>zeta
 refine (zbc a0.Memory (fun i (t:(List Int))=>((ln a0.Memory),(i:Int),t,a0.Memory,a0.Mons,a0.Buffer,a0.IoBuffer,())) _ (fun i (_:List Int) (t:List Int) κ=>bif ilt (zbo a0 (i:Int)).1 0 then (cond (few (ln (ap t [(i:Int)]))) (κ (ap t [(i:Int)])) none) else κ t) (fun (t:(List Int))=>(some [(.one (.s .int t))])) (fun i hi t rec=>?_) (fun t rec=>?_) _ ([]) (hNN hl.1)).trans ?_
 .simp only [zbf hi,zN hi,zba hi,zT hi hl.1,cT]
 .simp only [zbd,cF]
 rw[zvE (fun i (t:List Int) κ=>bif ilt (zbo a0 (i:Int)).1 0 then (cond (few (ln (ap t [(i:Int)]))) (κ (ap t [(i:Int)])) none) else κ t)]
 exact zr5 (fun i=>ilt (zbo a0 (i:Int)).1 0) _ _ 0 [] (by simpa using hl.2)
theorem zvH:vB 15 zsr:=kF1 zrY zq zl zdD zTy zRG
def zgK (m:List (List Int))(p:Int)(c:List Int):List (List Int):=bif hasB p (ln m) then (cond (zb6 c) (up m p c) m) else m
@[simp] abbrev zj1 (m:List (List Int))(p:Int)(c:List Int):Bool:=pc (SmM m/\c.length<=1048576)
@[simp] abbrev ziE (m:List (List Int))(p:Int)(c:List Int):List (List Int):=zgK m p c
def zwx:Run:=rF3 (dS (.sl .int)) dI (dS .int) fun b c d=>(zj1 b c d,[aS (.sl .int) (ziE b c d)])
def zz3 (N:Nat)(a0:lM)(a1:Int)(a2:List Int):OA:=
 (oN (zfp a0) (oN (zI a1 0 (wsub .i64 (ln a0) 1)) (cond (zL a1 0 (wsub .i64 (ln a0) 1)) (oN (zfo a2) (cond (zeS a2) (oN (few (ln (ap [] a2))) (oN (inb a1 (ln (zd3 a0))) (share (up (zd3 a0) a1 (ap [] a2)) (fun x4=>(some [(aS (.sl .int) x4)]))))) (some [(aS (.sl .int) (zd3 a0))]))) (some [(aS (.sl .int) (zd3 a0))]))))
theorem zMa (a0:List (List Int))(a1:Int)(a2:List Int)(hc:zj1 a0 a1 a2=true):∃N,zz3 N a0 a1 a2=some [aS (.sl .int) (ziE a0 a1 a2)]:=by
 obtain ⟨hs,hs2⟩:=zD.1 hc;refine ⟨0,?_⟩;unfold zz3 ziE zgK oN;refine must (zbs ((zoj _).2 hs)) (must rfl ?_);rw[show zL a1 0 (wsub .i64 (ln a0) 1)=hasB a1 (ln a0) from zoW hs.1 a1]
 cases h1:hasB a1 (ln a0)
 .rfl
 .simp only [cT,zfo,zeS];cases h2:zb6 a2
  .rfl
  .refine must rfl (must (zmq hs2) (must (zB h1) ?_));rw[zjy];rfl
theorem zF9:vB 211 zwx:=kF3 zrY zq zl zdD (zo []) zMa
@[simp] abbrev zjL (m:List (List Int))(p:Int)(c:List Int):Bool:=pc (SmM m/\c.length<=1048576)
@[simp] abbrev ziv (m:List (List Int))(p:Int)(c:List Int):List (List Int):=zgK m p c
def zv3:Run:=rF3 (dS (.sl .int)) dI (dS .int) fun b c d=>(zjL b c d,[aS (.sl .int) (ziv b c d)])
def zzy (N:Nat)(a0:lM)(a1:Int)(a2:List Int):OA:=
 (oN (zht a0) (oN (zdi a1 (ln a0)) (cond (zdT a1 (ln a0)) (oN (zg4 a2) (cond (zfM a2) (oN (zdp a2) (oN (inb a1 (ln (ze6 a0))) (share (up (ze6 a0) a1 (zdm a2)) (fun x4=>(some [(aS (.sl .int) x4)]))))) (some [(aS (.sl .int) (ze6 a0))]))) (some [(aS (.sl .int) (ze6 a0))]))))
theorem zLE (a0:List (List Int))(a1:Int)(a2:List Int)(hc:zjL a0 a1 a2=true):∃N,zzy N a0 a1 a2=some [aS (.sl .int) (ziv a0 a1 a2)]:=by
 obtain ⟨hs,hs2⟩:=zD.1 hc;refine ⟨0,?_⟩;unfold zzy ziv zgK oN;refine must (zbs hs) (must rfl ?_);rw[show zdT a1 (ln a0)=hasB a1 (ln a0) from rfl]
 cases h1:hasB a1 (ln a0)
 .rfl
 .simp only [cT,zg4,zfM];cases h2:zb6 a2
  .rfl
  .refine must rfl (must (zbs (jB hs2 (by decide))) (must (zB h1) rfl))
theorem zFF:vB 60 zv3:=kF3 zrY zq zl zdD (zo []) zLE
def zq8:zO:=[(209,zBu),(15,zsr),(211,zwx),(60,zv3)]++z3s
theorem zil:zF zq8:=zh zK5 (zh zvH (zh zF9 (zh zFF zrY)))
abbrev mZ:Mon:=Ty.dflt .mon
abbrev sZ:Slot:=Ty.dflt .slot
def ShM (x:Mon):Prop:=x.Outer.length=8/\x.Out.length=8/\x.Dirty.length=8/\x.Tables.length=x.Guests.length
def Shape (h:Host):Prop:=SmH h/\∀x∈h.Mons,ShM x
theorem ziH {h:Host}{m:Int}{x:Mon}(hs:Shape h)(h1:zeF x)(h2:ShM x):Shape { h with Mons:=up h.Mons m x }:=by
 refine ⟨⟨hs.1.1,zif hs.1.2.1 h1,hs.1.2.2⟩,fun y hy=>?_⟩;rcases qZ hy with hy|rfl
 .exact hs.2 y hy
 .exact h2
theorem zcJ {h:Host}(hs:Shape h){m:Int}(hm:hasB m (ln h.Mons)=true):zeF (ix h.Mons m mZ)/\ShM (ix h.Mons m mZ):=⟨hs.1.2.1.2 _ (zbq hm _),hs.2 _ (zbq hm _)⟩
theorem zOo {h:Host}{mm:List (List Int)}(hs:Shape h)(h1:SmM mm):Shape { h with Memory:=mm }:=⟨⟨h1,hs.1.2⟩,hs.2⟩
theorem zqV {h:Host}{m p:Int}{s:Slot}(hm:hasB m (ln h.Mons)=true)(hs:Shape h):Shape (zbQ h m p s):=by
 refine ⟨zE7 hm hs.1,?_⟩;obtain ⟨_,h2⟩:=zcJ hs hm;have key:∀y∈up h.Mons m { zgQ (ix h.Mons m mZ) p (ix h.Mons m mZ).Tables.length with Outer:=up (ix h.Mons m mZ).Outer p s },ShM y:=by
  intro y hy;rcases qZ hy with hy|rfl
  .exact hs.2 y hy
  .exact ⟨by simpa using h2.1,h2.2.1,h2.2.2.1,by simpa [zgQ,zmk] using h2.2.2.2⟩
 unfold zbQ;cases ine (ix (ix h.Mons m mZ).Outer p sZ).Page (-1)<;>exact key
theorem zgE (h:Host)(m p:Int)(s:Slot):(zbQ h m p s).Mons=up h.Mons m { zgQ (ix h.Mons m mZ) p (ix h.Mons m mZ).Tables.length with Outer:=up (ix h.Mons m mZ).Outer p s }/\(zbQ h m p s).Memory=h.Memory:=by
 unfold zbQ;cases ine (ix (ix h.Mons m mZ).Outer p sZ).Page (-1)<;>exact ⟨rfl,rfl⟩
theorem zeq {h:Host}{m k:Int}{x:Mon}(hm:hasB m (ln h.Mons)=true):hasB m (ln (up h.Mons k x))=true:=by simpa [ln] using hm
theorem zEu {h:Host}{m k p:Int}{s:Slot}(hm:hasB m (ln h.Mons)=true):hasB m (ln (zbQ h k p s).Mons)=true:=by
 rw[(zgE h k p s).1];exact zeq hm
theorem zdB {α:Type}{l:List α}{p:Int}(h:l.length=8)(hp:hasB p 8=true):hasB p (ln l)=true:=by rw[ln,h];exact hp
def zxu (h:Host)(m p:Int)(s:Slot):Host :=
 bif ine s.Page (-1) then ⟨h.Memory,up h.Mons m (zgQ (ix h.Mons m mZ) p (ix h.Mons m mZ).Guests.length),flushed h.Buffer s.Page,flushed h.IoBuffer s.Page⟩
 else ⟨h.Memory,up h.Mons m (zgQ (ix h.Mons m mZ) p (ix h.Mons m mZ).Guests.length),h.Buffer,h.IoBuffer⟩
theorem zJW {h:Host}{k:Nat}{p:Int}{s:Slot}(hk:k<h.Mons.length)(ht:(ix h.Mons (k:Int) mZ).Tables.length=(ix h.Mons (k:Int) mZ).Guests.length) :
 zxu { h with Mons:=up h.Mons (k:Int) { ix h.Mons (k:Int) mZ with Outer:=up (ix h.Mons (k:Int) mZ).Outer p s } } (k:Int) p (ix (ix h.Mons (k:Int) mZ).Outer p sZ)=zbQ h (k:Int) p s:=by
 unfold zbQ zxu;simp only[zdx hk,zpO,zgQ,ht]
def zXg {ρ:Type}(m p:Int)(i:Nat)(t:List Mon)(κ:List Mon->Option ρ):Option ρ :=
 (cond (inb (i:Int) (ln (ix t m mZ).Tables)) (cond (inb (i:Int) (ln (ix t m mZ).Guests)) (cond (pc (SmK (ix (ix t m mZ).Tables (i:Int) zef)/\(ix (ix t m mZ).Guests (i:Int) zx).Live.length<=1048576)) (cond (inb (i:Int) (ln (ix t m mZ).Tables)) (κ (up t m ({ (ix t m mZ) with Tables:=(up (ix t m mZ).Tables (i:Int) (zg2 (ix (ix t m mZ).Tables (i:Int) zef) (ix (ix t m mZ).Guests (i:Int) zx).Live p)) }:Mon))) none) none) none) none)
theorem zVL {ρ:Type}{mons:List Mon}{k:Nat}(hk:k<mons.length)(p:Int)(hm:zeF (ix mons (k:Int) mZ))(ht:(ix mons (k:Int) mZ).Tables.length=(ix mons (k:Int) mZ).Guests.length)(K:List Mon->Option ρ) :
 ∀(n i:Nat),i+n=(ix mons (k:Int) mZ).Guests.length->goN (fun i t κ=>zXg (k:Int) p i t κ) K n i (up mons (k:Int) (zgQ (ix mons (k:Int) mZ) p i))=K (up mons (k:Int) (zgQ (ix mons (k:Int) mZ) p (ix mons (k:Int) mZ).Guests.length))
 | 0,i,h=>by
  have:i=(ix mons (k:Int) mZ).Guests.length:=by omega
  subst this;rfl
 | n+1,i,h=>by
  have hi3:i<(ix mons (k:Int) mZ).Guests.length:=by omega
  have hi2:i<(ziK (ix mons (k:Int) mZ).Guests p i (ix mons (k:Int) mZ).Tables).length:=by rw[zmk];omega
  have hf:pc (SmK (ix (ziK (ix mons (k:Int) mZ).Guests p i (ix mons (k:Int) mZ).Tables) (i:Int) zef)/\(ix (ix mons (k:Int) mZ).Guests (i:Int) zx).Live.length<=1048576)=true :=
   zbs ⟨by rw[zba hi2];exact (zqg _ _ _ _ (by omega) hm.2.2.2.2.2).2 _ (jE hi2),by rw[zba hi3];exact (hm.2.2.2.1.2 _ (jE hi3)).2.2.1⟩
  simp only[goN,zXg,zdx hk,zpO,zgQ,zN hi2,zN hi3,hf,cT];exact zVL hk p hm ht K n (i+1) (by omega)
@[simp] abbrev zgo (h:Host)(m p:Int)(s:Slot):Bool:=pc (Shape h/\hasB m (ln h.Mons)=true)
@[simp] abbrev zgp (h:Host)(m p:Int)(s:Slot):Host:=zxu h m p s
def zk3:List CV->List AV->Option (Bool×List CV×List AV)
 | [.s (.sl .int) b,.s .mon c,.s .entry d,.s .entry e],[.one (.i .i64 f),.one (.i .i64 g),.agg [.i .i64 h,.i .i64 j]]=>some ((zgo (⟨b,c,d,e⟩:Host) f g (⟨h,j⟩:Slot)),zbh (zgp (⟨b,c,d,e⟩:Host) f g (⟨h,j⟩:Slot)),[])
 | _,_=>none
def zn9 (N:Nat)(c:Host)(a0 a1:Int)(a2:Slot):OA:=
 (oN (inb a0 (ln c.Mons)) (iter (σ:=(Int×(Int×(Int×(Int×(Int×(Int×(lN×(lM×(lE×(lE×Unit))))))))))) N (fun r5 s6=>let y7:=s6.2.2.2.2.2.2.2.1;let y5:=s6.2.2.2.2.2.2.1;let y4:=s6.2.2.2.2.1;let y3:=s6.2.2.2.2.2.2.2.2.1;let y2:=s6.2.2.2.2.2.2.2.2.2.1;let y1:=s6.2.2.2.1;let y0:=(ix y5 s6.2.1 zf);let y8:=(ix y0.Tables y1 zef);let y6:=(ix y0.Guests y1 zx).Live; (cond (ilt y1 s6.2.2.1) (oN (inb y1 (ln y0.Tables)) (oN (inb y1 (ln y0.Guests)) (oN (zhP y8 y6 s6.1) (oN (inb y1 (ln y0.Tables)) (share (up y5 s6.2.1 ({ y0 with Tables:=(up y0.Tables y1 (zm3 y8 y6 s6.1)) }:Mon)) (fun x7=>(r5 (s6.1,(s6.2.1,(s6.2.2.1,((zG .i64 y1 1),(y4,(s6.2.2.2.2.2.1,(x7,(y7,(y3,(y2,()))))))))))))))))) (cond (ine y4 (-1)) (oN (zdP y3 y4) (oN (zdP y2 y4) (some [(aH (⟨y7,y5,(zf6 y3 y4),(zf6 y2 y4)⟩:Host))]))) (some [(aH (⟨y7,y5,y3,y2⟩:Host))])))) (a1,(a0,((ln (ix c.Mons a0 zf).Guests),(0,(a2.Page,(a2.Rights,(c.Mons,(c.Memory,(c.Buffer,(c.IoBuffer,()))))))))))))
def zGO:FuncId->Nat->Option Tmpl:=zo [(50,0,{ n:=71,tm:=[(0,.lp 0 0),(2,ti),(7,.lp 1 0),(8,.ep 0 [] 0),(20,ti),(21,ti)],lo:=[(0,[.sl 1 [],.sl 0 [],.sl 2 [],.sl 3 []]),(1,[ti,ti])],ro:=[(0,.mon,true),(1,(.sl .int),true),(2,.entry,true),(3,.entry,true)] })]
theorem zJu (N:Nat)(c:Host)(a0 a1:Int)(a2:Slot):zgM (cQ zq8 zqu zMu zTv) zGO N 12 50 [true,true,true,true] (zbh c) [aI a0,aI a1,aT .slot a2]=zn9 N c a0 a1 a2:=by kernel_rfl
theorem zGj (c:Host)(a0 a1:Int)(a2:Slot)(hb:zbG big (.agg (zbh c) :: [aI a0,aI a1,aT .slot a2]))(hc:zgo c a0 a1 a2=true):∃N,zn9 N c a0 a1 a2=some (.agg (zbh (zgp c a0 a1 a2)) :: []):=by
 obtain ⟨hs,hm⟩:=zD.1 hc;obtain ⟨g1,g2⟩:=zcJ hs hm;have hg:(ix c.Mons a0 mZ).Guests.length<=big:=(zcb g1.2.2.2.1.1).1;refine zbP fun N hNN=>?_;unfold zn9 oN
 conv=>zeta
 refine must (zB hm) ?_;refine (zbc ((ix c.Mons a0 zf).Guests) (fun i (t:lN)=>(a1,a0,(ln (ix c.Mons a0 zf).Guests),(i:Int),a2.Page,a2.Rights,t,c.Memory,c.Buffer,c.IoBuffer,())) _ (fun i (x:Guest) (t:List Mon) κ=>zXg a0 a1 i t κ) (fun (t:lN)=>(cond (ine a2.Page (-1)) (cond (zdP c.Buffer a2.Page) (cond (zdP c.IoBuffer a2.Page) (some [(.agg (zbh (⟨c.Memory,t,(zf6 c.Buffer a2.Page),(zf6 c.IoBuffer a2.Page)⟩:Host)))]) none) none) (some [(.agg (zbh (⟨c.Memory,t,c.Buffer,c.IoBuffer⟩:Host)))]))) (fun i hi t rec=>?_) (fun t rec=>?_) _ (c.Mons) (hNN hg)).trans ?_
 .simp only [zbf hi,zN hi,zba hi,zT hi hg,cT];rfl
 .simp only [zbd,cF]
 obtain ⟨k,rfl,hk⟩:=zdA (n:=c.Mons.length) hm;rw[zvE (fun i t κ=>zXg (k:Int) a1 i t κ)];have e0:c.Mons=up c.Mons (k:Int) (zgQ (ix c.Mons (k:Int) mZ) a1 0):=(zM0 hk _).symm;refine (congrArg _ e0).trans ((zVL hk a1 g1 g2.2.2.2 _ _ 0 (jW _)).trans ?_)
 show (cond (ine a2.Page (-1)) _ _)=some [AV.agg (zbh (zxu c (k:Int) a1 a2))]
 unfold zxu;cases ine a2.Page (-1)
 .rfl
 .exact must rfl (must (zbs hs.1.2.2.1) (must (zbs hs.1.2.2.2) rfl))
theorem zAz:zdv Tryz.prog 50 [true,true,true,true] zk3:=by
 refine zcd (zc4 zil zq zl zdD) (zex (by kernel_rfl)) ?_
 intro cs avs cs' rs hl hr h;have hb:=zcx hr;unfold zk3 at h;split at h
 .obtain ⟨hc,rfl,rfl⟩:=zcQ h;obtain ⟨N,hN⟩:=zGj _ _ _ _ (by exact hb) hc
  exact ⟨rfl,_,N,12,(zJu N _ _ _ _ ).trans hN⟩
 .cases h
def zXy:zdk:=[(50,([true,true,true,true],zk3))]++zMu
theorem zMv:zcw zXy:=zem zl (by
 intro x hx;simp only[qH,qV,or_false]at hx;rcases hx with rfl
 .exact zAz)
def zd2 (h:Host)(m p:Int):Host:={ h with Mons:=up h.Mons m { ix h.Mons m mZ with Out:=up (ix h.Mons m mZ).Out p (zb5 h.Memory (ix (ix h.Mons m mZ).Outer p sZ).Page) } }
def zcO (h:Host)(m p:Int):Host:=zbQ (zd2 h m p) m p noSlot
theorem zTi {m:List (List Int)}{p:Int}(h:SmM m):(zb5 m p).length<=1048576:=by
 unfold zb5;cases hh:hasB p (ln m)
 .exact (by decide:zx6.length<=1048576)
 .exact h.2 _ (zbq hh _)
theorem zvb {h:Host}{m p:Int}(hs:Shape h)(hm:hasB m (ln h.Mons)=true):Shape (zd2 h m p):=by
 obtain ⟨g1,g2⟩:=zcJ hs hm;exact ziH hs ⟨g1.1,zJ3 g1.2.1 (zTi hs.1.1),g1.2.2⟩ ⟨g2.1,by simpa using g2.2.1,g2.2.2⟩
theorem zJV {h:Host}{m p:Int}(hs:Shape h)(hm:hasB m (ln h.Mons)=true):Shape (zcO h m p):=zqV (zeq hm) (zvb hs hm)
@[simp] abbrev zrz (h:Host)(m p:Int):Bool:=pc (Shape h/\hasB m (ln h.Mons)=true/\hasB p 8=true)
@[simp] abbrev zxY (h:Host)(m p:Int):Host:=zcO h m p
def zsE:List AV->Option (Bool×List AV)
 | [.agg [.s (.sl .int) b,.s .mon c,.s .entry d,.s .entry e],.one (.i .i64 f),.one (.i .i64 g)]=>some ((zrz (⟨b,c,d,e⟩:Host) f g),[aH (zxY (⟨b,c,d,e⟩:Host) f g)])
 | _=>none
def zwP (N:Nat)(a0:Host)(a1 a2:Int):OA:=
 let y0:=(ix a0.Mons a1 zf);let y1:=(ix y0.Outer a2 zK).Page; (oN (inb a1 (ln a0.Mons)) (oN (inb a1 (ln a0.Mons)) (oN (inb a2 (ln y0.Outer)) (oN (ziB a0.Memory y1) (oN (inb a2 (ln y0.Out)) (share (up a0.Mons a1 ({ y0 with Out:=(up y0.Out a2 (zma a0.Memory y1)) }:Mon)) (fun x4=>let y2:=({ a0 with Mons:=x4 }:Host); (oN zcj (oN (zeC y2 a1 a2 zbr) (some [(aH (zge y2 a1 a2 zbr))]))))))))))
theorem zUQ (N:Nat)(a0:Host)(a1 a2:Int):zCq (cQ zq8 zqu zXy zTv) (zo []) N 12 172 [true,true,true,true,false,false] 1 1 [[0],[1],[2],[4],[7]] .mon [aH a0,aI a1,aI a2]=zwP N a0 a1 a2:=by kernel_rfl
theorem zSp (a0:Host)(a1 a2:Int)(hb:zbG big [aH a0,aI a1,aI a2])(hc:zrz a0 a1 a2=true):∃N,zwP N a0 a1 a2=some [aH (zxY a0 a1 a2)]:=by
 obtain ⟨hs,hm,hp⟩:=zD.1 hc;obtain ⟨g1,g2⟩:=zcJ hs hm;obtain ⟨k,rfl,hk⟩:=zdA (n:=a0.Mons.length) hm;have hS:=zvb (p:=a2) hs hm;refine ⟨0,?_⟩;unfold zwP oN
 conv=>zeta
 refine must (zB hm) (must (zB hm) (must (zB (zdB g2.1 hp)) (must (zbs ((zoj _).2 hs.1.1)) (must (zB (zdB g2.2.1 hp)) (shr (must rfl (must (zbs ⟨(zJ _).2 hS.1,zeq hm,?_,?_⟩) rfl)))))))
 .simp only [zdx hk];exact zdB g2.1 hp
 .simp only [zdx hk];exact u5 g2.2.2.2
theorem zLs:zdG Tryz.prog 172 [true,true,true,true,false,false] (some (1,1,[[0],[1],[2],[4],[7]])) zsE:=by
 refine zkn (kt:=.mon) (zc4 zil zq zMv zdD) (zex (by kernel_rfl)) (by kernel_rfl) ?_
 intro avs rs hl hr h;have hb:=zhJ hr;unfold zsE at h;split at h
 .obtain ⟨hc,rfl⟩:=zdM h;obtain ⟨N,hN⟩:=zSp _ _ _ (by exact hb) hc
  exact ⟨⟨_,rfl⟩,rfl,_,N,12,(zUQ N _ _ _ ).trans hN⟩
 .cases h
@[simp] abbrev zxr (h:Host)(m p:Int):Bool:=pc (Shape h/\hasB m (ln h.Mons)=true/\hasB p 8=true)
@[simp] abbrev zxs (h:Host)(m p:Int):Host:=zcO h m p
def zuS:List CV->List AV->Option (Bool×List CV×List AV)
 | [.s (.sl .int) b,.s .mon c,.s .entry d,.s .entry e],[.one (.i .i64 f),.one (.i .i64 g)]=>some ((zxr (⟨b,c,d,e⟩:Host) f g),zbh (zxs (⟨b,c,d,e⟩:Host) f g),[])
 | _,_=>none
def zFg (N:Nat)(c:Host)(a0 a1:Int):OA:=
 let y0:=(ix c.Mons a0 zf);let y1:=(ix y0.Outer a1 zK); (oN (inb a0 (ln c.Mons)) (oN (inb a1 (ln y0.Outer)) (oN (ziu c.Memory y1.Page) (oN (inb a1 (ln y0.Out)) (share (up c.Mons a0 ({ y0 with Out:=(up y0.Out a1 (zl0 c.Memory y1.Page)) }:Mon)) (fun x4=>let y2:=(ix x4 a0 zf); (oN zeM (oN (inb a1 (ln y2.Outer)) (share (up x4 a0 ({ y2 with Outer:=(up y2.Outer a1 zeL) }:Mon)) (fun x5=>let y3:=({ c with Mons:=x5 }:Host); (oN (zgo y3 a0 a1 y1) (some [(aH (zgp y3 a0 a1 y1))]))))))))))))
theorem zZK (N:Nat)(c:Host)(a0 a1:Int):zgM (cQ zq8 zqu zXy zTv) (zo []) N 12 40 [true,true,true,true] (zbh c) [aI a0,aI a1]=zFg N c a0 a1:=by kernel_rfl
theorem zXm (c:Host)(a0 a1:Int)(hb:zbG big (.agg (zbh c) :: [aI a0,aI a1]))(hc:zxr c a0 a1=true):∃N,zFg N c a0 a1=some (.agg (zbh (zxs c a0 a1)) :: []):=by
 obtain ⟨hs,hm,hp⟩:=zD.1 hc;obtain ⟨g1,g2⟩:=zcJ hs hm;obtain ⟨k,rfl,hk⟩:=zdA (n:=c.Mons.length) hm;have hS:=zvb (p:=a1) hs hm;have hm':hasB (k:Int) (ln (zd2 c (k:Int) a1).Mons)=true:=zeq hm;have hk':k<(zd2 c (k:Int) a1).Mons.length:=by simpa [zd2] using hk
 have ex:ix (zd2 c (k:Int) a1).Mons (k:Int) mZ={ ix c.Mons (k:Int) mZ with Out:=up (ix c.Mons (k:Int) mZ).Out a1 (zb5 c.Memory (ix (ix c.Mons (k:Int) mZ).Outer a1 sZ).Page) }:=zdx hk _ _;have hX:Shape { zd2 c (k:Int) a1 with Mons:=up (zd2 c (k:Int) a1).Mons (k:Int) { ix (zd2 c (k:Int) a1).Mons (k:Int) mZ with Outer:=up (ix (zd2 c (k:Int) a1).Mons (k:Int) mZ).Outer a1 noSlot } }:=by
  obtain ⟨q1,q2⟩:=zcJ hS hm';exact ziH hS ⟨by simpa using q1.1,q1.2⟩ ⟨by simpa using q2.1,q2.2⟩
 refine ⟨0,?_⟩;unfold zFg oN
 conv=>zeta
 refine must (zB hm) (must (zB (zdB g2.1 hp)) (must (zbs ((zoj _).2 hs.1.1)) (must (zB (zdB g2.2.1 hp)) (shr (must rfl (must ?_ (shr (must (zbs ⟨hX,zeq hm'⟩) ?_))))))))
 .rw [zdx hk];exact zB (zdB g2.1 hp)
 .have:=zJW (p:=a1) (s:=noSlot) hk' (by rw[ex];exact g2.2.2.2)
  rw[ex] at this
  show some [AV.agg (zbh (zxu { zd2 c (k:Int) a1 with Mons:=up (zd2 c (k:Int) a1).Mons (k:Int) { ix (zd2 c (k:Int) a1).Mons (k:Int) mZ with Outer:=up (ix (zd2 c (k:Int) a1).Mons (k:Int) mZ).Outer a1 noSlot } } (k:Int) a1 (ix (ix c.Mons (k:Int) mZ).Outer a1 sZ)))]=_
  rw[ex];exact congrArg (fun x=>some [AV.agg (zbh x)]) this
theorem zRn:zdv Tryz.prog 40 [true,true,true,true] zuS:=by
 refine zcd (zc4 zil zq zMv zdD) (zex (by kernel_rfl)) ?_
 intro cs avs cs' rs hl hr h;have hb:=zcx hr;unfold zuS at h;split at h
 .obtain ⟨hc,rfl,rfl⟩:=zcQ h;obtain ⟨N,hN⟩:=zXm _ _ _ (by exact hb) hc
  exact ⟨rfl,_,N,12,(zZK N _ _ _ ).trans hN⟩
 .cases h
def zXz:zdk:=[(40,([true,true,true,true],zuS))]++zXy
theorem zMw:zcw zXz:=zem zMv (by
 intro x hx;simp only[qH,qV,or_false]at hx;rcases hx with rfl
 .exact zRn)
def zYa:zfd:=[(172,([true,true,true,true,false,false],(some (1,1,[[0],[1],[2],[4],[7]])),zsE))]++zTv
theorem zMG:zd8 zYa:=zoV zdD (by
 intro x hx;simp only[qH,qV,or_false]at hx;rcases hx with rfl
 .exact zLs)
def cz (l:List Slot):Nat:=l.countP fun s=>ieq s.Page 0
def zH:List Mon->Nat
 | []=>0
 | m :: l=>cz m.Outer+zH l
def bit (u:List Bool):Nat:=bif ix u 0 false then 1 else 0
theorem zvz (s:Slot)(l:List Slot):cz (s :: l)=cz l+bif ieq s.Page 0 then 1 else 0:=by
 unfold cz;rw[uS];cases ieq s.Page 0<;>rfl
theorem z6w {u:List Bool}{p:Int}(hp:0<=p)(hlt:p.toNat<u.length)(x:Bool):ix (up u p x) 0 false=bif ieq p 0 then x else ix u 0 false:=by
 unfold ix up;cases h:ieq p 0
 .have:p≠0:=by simpa [ieq] using h
  have hne:p.toNat≠0:=by omega
  simp[List.getD,jC,hne]
 .have:p=0:=by simpa [ieq] using h
  subst this;have hlt:0<u.length:=hlt;simp[List.getD,jC,hlt]
theorem zCd:∀(l:List Slot) (u u':List Bool),(∀s∈l,s.Page<12)->u.length=12->zfV l u=some u'->cz l+bit u=bit u'
 | [],u,u',_,_,h=>by cases h;simp[cz]
 | s :: l,u,u',hs,hu,h=>by
  simp only[zfV]at h;rw[zvz];cases h1:ilt s.Page 0
  .have h1:=jV h1;rw[show ilt s.Page 0=false from qJ (by omega)]at h
   simp only[cF]at h;cases h2:ix u s.Page false
   .rw [h2]at h;simp only[cF]at h;have hlt:s.Page.toNat<u.length:=by have:=hs s (by simp);omega
    have ih:=zCd l _ u' (fun t ht=>hs t (by simp[ht])) (by simpa using hu) h
    have e:bit (up u s.Page true)=bif ieq s.Page 0 then 1 else bit u:=by
     unfold bit;rw[z6w (by omega) hlt]
     cases ieq s.Page 0<;>rfl
    rw[e] at ih;cases h3:ieq s.Page 0
    .rw [h3] at ih;simp only[cF] at ih ⊢;omega
    .have h4:s.Page=0:=by simpa [ieq] using h3
     rw[h4]at h2;have:bit u=0:=by unfold bit;rw[h2];rfl
     rw[h3] at ih;simp only[cT] at ih ⊢;omega
   .rw [h2]at h;cases h
  .have h1':=qE h1;rw[h1]at h;simp only[cT]at h;have ih:=zCd l u u' (fun t ht=>hs t (by simp[ht])) hu h
   have:ieq s.Page 0=false:=by simp[ieq];omega
   rw[this];simpa using ih
theorem zRr:∀(l:List Mon) (u:List Bool),u.length=12->zhO l u=true->zH l+bit u<=1
 | [],u,_,_=>by unfold zH bit;cases ix u 0 false<;>simp
 | m :: l,u,hu,h=>by
  simp only[zhO]at h;cases h1:zdE m
  .rw [h1]at h;cases h
  .rw [h1]at h;simp only[cT]at h;cases h2:zfV m.Outer u with
   | none=>rw[h2]at h;cases h
   | some u' =>
    rw[h2]at h;have e:=zCd _ _ _ (zCH (zlo h1)) hu h2;have ih:=zRr l u' ((zn1 _ _ _ h2).trans hu) h;simp only[zH];omega
theorem zY2:∀(l:List Slot) (b:Nat) (s:Slot),l[b]?=some s->s.Page=0->cz (l.set b noSlot)+1=cz l
 | [],b,s,h,_=>by simp at h
 | t :: l,0,s,h,hs=>by
  simp only[qG,qC]at h;subst h;rw[List.set_cons_zero,zvz,zvz];have:ieq t.Page 0=true:=by simp[ieq,hs]
  rw[this];rfl
 | t :: l,b+1,s,h,hs=>by
  rw[u0,zvz,zvz];have:=zY2 l b s (by simpa using h) hs
  omega
theorem zTW:∀(l:List Mon) (a:Nat) (x y:Mon),l[a]?=some x->zH (l.set a y)+cz x.Outer=zH l+cz y.Outer
 | [],a,x,y,h=>by simp at h
 | m :: l,0,x,y,h=>by
  simp only[qG,qC]at h;subst h;rw[List.set_cons_zero];simp only[zH];omega
 | m :: l,a+1,x,y,h=>by
  rw[u0];have:=zTW l a x y (by simpa using h)
  simp only[zH];omega
theorem zWZ {l:List Slot}(h:cz l=0):zmY l 0=none:=by
 unfold zmY;rw[List.findIdx?_eq_none_iff];intro s hs;have:=(uX.1 h) s hs;simpa using this
theorem zJB:∀(l:List Mon) (i:Nat),zH l=0->zhb 0 l i=(-1,-1)
 | [],_,_=>rfl
 | m :: l,i,h=>by
  simp only[zH]at h;simp only[zhb];rw[zWZ (by omega)]
  exact zJB l (i+1) (by omega)
theorem zW0 {l:List Slot}{k:Nat}(h:zmY l 0=some k):∃s,l[k]?=some s/\s.Page=0:=by
 unfold zmY at h;rw[uO]at h;obtain ⟨hlt,h1,_⟩:=h;exact ⟨l[k],qB hlt,by simpa [ieq] using h1⟩
theorem zEB:∀(l:List Mon) (i:Nat),zhb 0 l i=(-1,-1)\/∃a b x s,zhb 0 l i=(((i+a:Nat):Int),((b:Nat):Int))/\l[a]?=some x/\x.Outer[b]?=some s/\s.Page=0
 | [],_=>.inl rfl
 | m :: l,i=>by
  simp only[zhb];cases h:zmY m.Outer 0 with
  | none =>
   rcases zEB l (i+1) with h1|⟨a,b,x,s,h1,h2,h3,h4⟩
   .exact .inl h1
   .refine .inr ⟨a+1,b,x,s,?_,by simpa using h2,h3,h4⟩
    have e:i+1+a=i+(a+1):=by omega
    rw[h1,e]
  | some k =>
   obtain ⟨s,h1,h2⟩:=zW0 h;exact .inr ⟨0,k,m,s,rfl,rfl,h1,h2⟩
def Fit (h:Host):Prop:=Shape h/\0<h.Memory.length/\zH h.Mons<=1
theorem zEt {h:Host}(hm:0<h.Memory.length)(ho:ilt (zbo h 0).1 0=true):inb 0 (ln (zby h))=true:=by
 unfold zby;obtain ⟨n,hn⟩:∃n,h.Memory.length=n+1:=⟨h.Memory.length-1,by omega⟩
 rw[hn];simp only[zor];rw[show ilt (zbo h ((0:Nat):Int)).1 0=true from ho]
 exact qI (by simp only[cT,ln,qU];omega)
theorem zW5 {h:Host}(hm:0<h.Memory.length)(h0:ieq (ln (zby h)) 0=true):ilt (zbo h 0).1 0=false:=by
 cases ho:ilt (zbo h 0).1 0
 .rfl
 .have h1:=qE (zEt hm ho);have h2:ln (zby h)=0:=by simpa [ieq] using h0
  omega
def zcS (h:Host):Host:=bif ieq (ln (zby h)) 0 then zcO h (zbo h 0).1 (zbo h 0).2 else h
structure Room (h r:Host):Prop where
 shape:Shape r
 free:inb 0 (ln (zby r))=true
 len:r.Mons.length=h.Mons.length
 outer:∀m,(ix r.Mons m mZ).Outer.length=8\/True
theorem zZQ {h:Host}(hf:Fit h)(h0:ieq (ln (zby h)) 0=true):∃(a b:Nat) (x:Mon) (s:Slot),zbo h 0=((a:Int),(b:Int))/\h.Mons[a]?=some x/\x.Outer[b]?=some s/\s.Page=0:=by
 have h1:=zW5 hf.2.1 h0;have e:zbo h 0=zhb 0 h.Mons 0:=rfl;rcases zEB h.Mons 0 with h2|⟨a,b,x,s,h2,h3⟩
 .rw [e,h2]at h1;cases h1
 .exact ⟨a,b,x,s,by rw[e,h2,jW],h3⟩
theorem zCB {h:Host}(hf:Fit h)(h0:ieq (ln (zby h)) 0=true):hasB (zbo h 0).1 (ln h.Mons)=true/\hasB (zbo h 0).2 8=true:=by
 obtain ⟨a,b,x,s,h1,h2,h3,h4⟩:=zZQ hf h0;rw[h1];have ha:=(qA.1 h2).1;have hb:=(qA.1 h3).1;have hx:=hf.1.2 x (qL h2);refine ⟨qI (by simp only[ln];omega),qI ?_⟩
 have:=hx.1
 show 0<=(b:Int)/\(b:Int)<8
 omega
theorem room {h:Host}(hf:Fit h):Room h (zcS h):=by
 unfold zcS;cases h0:ieq (ln (zby h)) 0
 .refine ⟨hf.1,qI ?_,rfl,fun _=>.inr trivial⟩;have:ln (zby h)≠0:=by simpa [ieq] using h0
  show 0<=(0:Int)/\(0:Int)<ln (zby h)
  simp only[ln] at *;omega
 .obtain ⟨hm,hp⟩:=zCB hf h0;obtain ⟨a,b,x,s,h1,h2,h3,h4⟩:=zZQ hf h0;simp only[cT];rw[h1]at hm hp ⊢;have ha:=(qA.1 h2).1;have hb:=(qA.1 h3).1;have hxa:ix h.Mons (a:Int) mZ=x:=by rw[zba ha];exact (qA.1 h2).2
  have hmons:=(zgE (zd2 h (a:Int) (b:Int)) (a:Int) (b:Int) noSlot).1;have ex:ix (zd2 h (a:Int) (b:Int)).Mons (a:Int) mZ={ x with Out:=up x.Out (b:Int) (zb5 h.Memory (ix x.Outer (b:Int) sZ).Page) }:=by
   unfold zd2;rw[zdx ha,hxa]
  obtain ⟨y,hM,hy⟩:∃y,(zcO h (a:Int) (b:Int)).Mons=h.Mons.set a y/\y.Outer=x.Outer.set b noSlot:=by
   unfold zcO;rw[hmons,ex];unfold zd2;rw[zpO];exact ⟨_,by simp[up];rfl,by simp[up]⟩
  have hz:zH (zcO h (a:Int) (b:Int)).Mons=0:=by
   have e1:=zTW h.Mons a x y h2;have e2:=zY2 x.Outer b s h3 h4;have e3:=hf.2.2;rw[hM];rw[hy] at e1;omega
  have hmem:(zcO h (a:Int) (b:Int)).Memory=h.Memory:=(zgE (zd2 h (a:Int) (b:Int)) (a:Int) (b:Int) noSlot).2;refine ⟨zJV hf.1 hm,zEt (by rw[hmem];exact hf.2.1) ?_,by rw[hM];simp,fun _=>.inr trivial⟩
  have e:zbo (zcO h (a:Int) (b:Int)) 0=zhb 0 (zcO h (a:Int) (b:Int)).Mons 0:=rfl;rw[e,zJB _ _ hz];rfl
theorem zTj {m:List (List Int)}{p:Int}{c:List Int}(h:SmM m)(hc:c.length<=1048576):SmM (zgK m p c):=by
 unfold zgK;cases hasB p (ln m)
 .exact h
 .cases zb6 c
  .exact h
  .exact zJ3 h hc
def landing (r:Host)(m p to:Int):Host:={ r with Memory:=zgK r.Memory to (ix (ix r.Mons m mZ).Out p []),Mons:=up r.Mons m { ix r.Mons m mZ with Out:=up (ix r.Mons m mZ).Out p [] } }
def zdZ (r:Host)(m p to:Int):Host:=zbQ (landing r m p to) m p ⟨to,3⟩
def fetched (h:Host)(m p:Int):Host:=zdZ (zcS h) m p (ix (zby (zcS h)) 0 0)
theorem zTl {r:Host}{m p:Int}(hr:Shape r)(hm:hasB m (ln r.Mons)=true)(hp:hasB p 8=true):(ix (ix r.Mons m mZ).Out p []).length<=1048576:=by
 obtain ⟨g1,g2⟩:=zcJ hr hm;exact g1.2.1.2 _ (zbq (zdB g2.2.1 hp) _)
theorem zqU {r:Host}{m p to:Int}(hr:Shape r)(hm:hasB m (ln r.Mons)=true)(hp:hasB p 8=true):Shape (landing r m p to):=by
 obtain ⟨g1,g2⟩:=zcJ hr hm;exact zOo (h:={ r with Mons:=up r.Mons m { ix r.Mons m mZ with Out:=up (ix r.Mons m mZ).Out p [] } }) (ziH (x:={ ix r.Mons m mZ with Out:=up (ix r.Mons m mZ).Out p [] }) hr ⟨g1.1,zJ3 g1.2.1 (by simp),g1.2.2⟩ ⟨g2.1,by simpa using g2.2.1,g2.2.2⟩) (zTj hr.1.1 (zTl hr hm hp))
theorem zPS {r:Host}{m p to:Int}(hr:Shape r)(hm:hasB m (ln r.Mons)=true)(hp:hasB p 8=true):Shape (zdZ r m p to):=zqV (zeq hm) (zqU hr hm hp)
theorem zsp {h:Host}(hf:Fit h){m:Int}(hm:hasB m (ln h.Mons)=true):hasB m (ln (zcS h).Mons)=true:=by
 rw[ln,(room hf).len];exact hm
theorem zlS {h:Host}{m p:Int}(hf:Fit h)(hm:hasB m (ln h.Mons)=true)(hp:hasB p 8=true):Shape (fetched h m p)/\hasB m (ln (fetched h m p).Mons)=true :=
 ⟨zPS (room hf).shape (zsp hf hm) hp,zEu (zeq (zsp hf hm))⟩
@[simp] abbrev zuA (h:Host)(m p:Int):Bool:=pc (Fit h/\hasB m (ln h.Mons)=true/\hasB p 8=true)
@[simp] abbrev zwH (h:Host)(m p:Int):Host:=fetched h m p
def zuW:List AV->Option (Bool×List AV)
 | [.agg [.s (.sl .int) b,.s .mon c,.s .entry d,.s .entry e],.one (.i .i64 f),.one (.i .i64 g)]=>some ((zuA (⟨b,c,d,e⟩:Host) f g),[aH (zwH (⟨b,c,d,e⟩:Host) f g)])
 | _=>none
def zz5 (N:Nat)(a0:Host)(a1 a2:Int):OA:=
 let y6:=(ix (zeO a0) 0 0);let y2:=(ix a0.Mons a1 zf);let y0:=(zxY a0 (zfI a0 0) (zhe a0 0));let y5:=(ix (zeO y0) 0 0);let y1:=(ix y0.Mons a1 zf); (oN (zkJ a0) (cond (ieq (ln (zeO a0)) 0) (oN (zjs a0 0) (oN (zrz a0 (zfI a0 0) (zhe a0 0)) (oN (zkJ y0) (oN (inb 0 (ln (zeO y0))) (oN (inb a1 (ln y0.Mons)) (oN (inb a2 (ln y1.Out)) (oN (zj1 y0.Memory y5 (ix y1.Out a2 [])) (oN (inb a1 (ln y0.Mons)) (oN (inb a2 (ln y1.Out)) (share (up y0.Mons a1 ({ y1 with Out:=(up y1.Out a2 []) }:Mon)) (fun x4=>let y3:=({ y0 with Memory:=(ziE y0.Memory y5 (ix y1.Out a2 [])),Mons:=x4 }:Host); (oN (zeC y3 a1 a2 (⟨y5,3⟩:Slot)) (some [(aH (zge y3 a1 a2 (⟨y5,3⟩:Slot)))]))))))))))))) (oN (zkJ a0) (oN (inb 0 (ln (zeO a0))) (oN (inb a1 (ln a0.Mons)) (oN (inb a2 (ln y2.Out)) (oN (zj1 a0.Memory y6 (ix y2.Out a2 [])) (oN (inb a1 (ln a0.Mons)) (oN (inb a2 (ln y2.Out)) (share (up a0.Mons a1 ({ y2 with Out:=(up y2.Out a2 []) }:Mon)) (fun x4=>let y4:=({ a0 with Memory:=(ziE a0.Memory y6 (ix y2.Out a2 [])),Mons:=x4 }:Host); (oN (zeC y4 a1 a2 (⟨y6,3⟩:Slot)) (some [(aH (zge y4 a1 a2 (⟨y6,3⟩:Slot)))])))))))))))))
theorem zXt (N:Nat)(a0:Host)(a1 a2:Int):zCq (cQ zq8 zqu zXz zYa) (zo []) N 12 173 [true,true,true,true,false,false] 1 1 [[0],[1],[2],[4],[7]] .mon [aH a0,aI a1,aI a2]=zz5 N a0 a1 a2:=by kernel_rfl
theorem zUD (a0:Host)(a1 a2:Int)(hb:zbG big [aH a0,aI a1,aI a2])(hc:zuA a0 a1 a2=true):∃N,zz5 N a0 a1 a2=some [aH (zwH a0 a1 a2)]:=by
 obtain ⟨hf,hm,hp⟩:=zD.1 hc;have tail:∀r,Shape r->inb 0 (ln (zby r))=true->hasB a1 (ln r.Mons)=true->(cond (zkJ r) (cond (inb 0 (ln (zeO r))) (cond (inb a1 (ln r.Mons)) (cond (inb a2 (ln (ix r.Mons a1 zf).Out)) (cond (zj1 r.Memory (ix (zeO r) 0 0) (ix (ix r.Mons a1 zf).Out a2 [])) (cond (inb a1 (ln r.Mons)) (cond (inb a2 (ln (ix r.Mons a1 zf).Out)) (share (up r.Mons a1 ({ (ix r.Mons a1 zf) with Out:=(up (ix r.Mons a1 zf).Out a2 []) }:Mon)) (fun x4=>(cond (zeC ({ r with Memory:=(ziE r.Memory (ix (zeO r) 0 0) (ix (ix r.Mons a1 zf).Out a2 [])),Mons:=x4 }:Host) a1 a2 (⟨(ix (zeO r) 0 0),3⟩:Slot)) (some [(AV.agg (zbh (zge ({ r with Memory:=(ziE r.Memory (ix (zeO r) 0 0) (ix (ix r.Mons a1 zf).Out a2 [])),Mons:=x4 }:Host) a1 a2 (⟨(ix (zeO r) 0 0),3⟩:Slot))))]) none))) none) none) none) none) none) none) none)=some [AV.agg (zbh (zdZ r a1 a2 (ix (zby r) 0 0)))]:=by
  intro r hr hfree hrm;obtain ⟨g1,g2⟩:=zcJ hr hrm;have hL:=zqU (to:=ix (zby r) 0 0) hr hrm hp;obtain ⟨k,rfl,hk⟩:=zdA (n:=r.Mons.length) hrm;refine must (zbs hr.1.1.1) (must hfree (must (zB hrm) (must (zB (zdB g2.2.1 hp)) (must (zbs ⟨hr.1.1,zTl hr hrm hp⟩) (must (zB hrm) (must (zB (zdB g2.2.1 hp)) (shr (must (zbs ⟨(zJ _).2 hL.1,zeq hrm,?_,?_⟩) rfl))))))))
  .simp only [zdx hk];exact zdB g2.1 hp
  .simp only [zdx hk];exact u5 g2.2.2.2
 have hR:=room hf;have hrm:=zsp hf hm;refine ⟨0,?_⟩;unfold zz5 zwH fetched oN
 conv=>zeta
 refine must (zbs hf.1.1.1.1) ?_;cases h0:ieq (ln (zeO a0)) 0
 .have er:zcS a0=a0:=by unfold zcS;rw[show ieq (ln (zby a0)) 0=false from h0];rfl
  rw[er]at hR hrm ⊢;exact tail a0 hR.shape hR.free hrm
 .obtain ⟨o1,o2⟩:=zCB hf h0;have er:zcS a0=zcO a0 (zbo a0 0).1 (zbo a0 0).2:=by unfold zcS;rw[show ieq (ln (zby a0)) 0=true from h0];rfl
  rw[er]at hR hrm ⊢;exact must rfl (must rfl (must (zbs ⟨hf.1,o1,o2⟩) (tail _ hR.shape hR.free hrm)))
theorem zOW:zdG Tryz.prog 173 [true,true,true,true,false,false] (some (1,1,[[0],[1],[2],[4],[7]])) zuW:=by
 refine zkn (kt:=.mon) (zc4 zil zq zMw zMG) (zex (by kernel_rfl)) (by kernel_rfl) ?_
 intro avs rs hl hr h;have hb:=zhJ hr;unfold zuW at h;split at h
 .obtain ⟨hc,rfl⟩:=zdM h;obtain ⟨N,hN⟩:=zUD _ _ _ (by exact hb) hc
  exact ⟨⟨_,rfl⟩,rfl,_,N,12,(zXt N _ _ _ ).trans hN⟩
 .cases h
@[simp] abbrev zqq (h:Host):Bool:=pc (Shape h/\hasB (zbo h 0).1 (ln h.Mons)=true/\hasB (zbo h 0).2 8=true)
@[simp] abbrev zqr (h:Host):Host:=zcO h (zbo h 0).1 (zbo h 0).2
def zl4:List CV->List AV->Option (Bool×List CV×List AV)
 | [.s (.sl .int) b,.s .mon c,.s .entry d,.s .entry e],[]=>some ((zqq (⟨b,c,d,e⟩:Host)),zbh (zqr (⟨b,c,d,e⟩:Host)),[])
 | _,_=>none
def zqi (N:Nat)(c:Host)  : OA :=
 (oN (zjo c 0) (oN (zxr c (zfG c 0) (zg3 c 0)) (some [(aH (zxs c (zfG c 0) (zg3 c 0)))])))
theorem zMq (N:Nat)(c:Host)  : zgM (cQ zq8 zqu zXz zYa) (zo []) N 12 59 [true,true,true,true] (zbh c) []=zqi N c:=by kernel_rfl
theorem zI7 (c:Host)(hb:zbG big (.agg (zbh c) :: []))(hc:zqq c=true):∃N,zqi N c=some (.agg (zbh (zqr c)) :: []):=by
 have hs:=zD.1 hc;refine ⟨0,?_⟩;unfold zqi oN;exact must rfl (must (zbs hs) rfl)
theorem zCT:zdv Tryz.prog 59 [true,true,true,true] zl4:=by
 refine zcd (zc4 zil zq zMw zMG) (zex (by kernel_rfl)) ?_
 intro cs avs cs' rs hl hr h;have hb:=zcx hr;unfold zl4 at h;split at h
 .obtain ⟨hc,rfl,rfl⟩:=zcQ h;obtain ⟨N,hN⟩:=zI7 _ (by exact hb) hc
  exact ⟨rfl,_,N,12,(zMq N _ ).trans hN⟩
 .cases h
def z1L:zdk:=[(59,([true,true,true,true],zl4))]++zXz
theorem zVX:zcw z1L:=zem zMw (by
 intro x hx;simp only[qH,qV,or_false]at hx;rcases hx with rfl
 .exact zCT)
def zYb:zfd:=[(173,([true,true,true,true,false,false],(some (1,1,[[0],[1],[2],[4],[7]])),zuW))]++zYa
theorem zMH:zd8 zYb:=zoV zMG (by
 intro x hx;simp only[qH,qV,or_false]at hx;rcases hx with rfl
 .exact zOW)
@[simp] abbrev zAP (h:Host)(m p:Int):Bool:=pc (Fit h/\hasB m (ln h.Mons)=true/\hasB p 8=true)
@[simp] abbrev ztD (h:Host)(m p:Int):Host:=fetched h m p
theorem zWB {r:Host}{m p to:Int}(hr:Shape r)(hm:hasB m (ln r.Mons)=true):zxu { landing r m p to with Mons:=up (landing r m p to).Mons m { ix (landing r m p to).Mons m mZ with Outer:=up (ix (landing r m p to).Mons m mZ).Outer p ⟨to,3⟩ } } m p (ix (ix (landing r m p to).Mons m mZ).Outer p sZ)=zdZ r m p to:=by
 obtain ⟨g1,g2⟩:=zcJ hr hm;obtain ⟨k,rfl,hk⟩:=zdA (n:=r.Mons.length) hm;refine zJW (h:=landing r (k:Int) p to) (by simpa [landing] using hk) ?_
 unfold landing;simp only[zdx hk];exact g2.2.2.2
theorem zVb {r:Host}{m p to:Int}(hr:Shape r)(hm:hasB m (ln r.Mons)=true)(hp:hasB p 8=true):Shape { landing r m p to with Mons:=up (landing r m p to).Mons m { ix (landing r m p to).Mons m mZ with Outer:=up (ix (landing r m p to).Mons m mZ).Outer p ⟨to,3⟩ } }:=by
 have hL:=zqU (to:=to) hr hm hp;obtain ⟨q1,q2⟩:=zcJ hL (zeq hm);exact ziH hL ⟨by simpa using q1.1,q1.2⟩ ⟨by simpa using q2.1,q2.2⟩
def zsn:List CV->List AV->Option (Bool×List CV×List AV)
 | [.s (.sl .int) b,.s .mon c,.s .entry d,.s .entry e],[.one (.i .i64 f),.one (.i .i64 g)]=>some ((zAP (⟨b,c,d,e⟩:Host) f g),zbh (ztD (⟨b,c,d,e⟩:Host) f g),[])
 | _,_=>none
def zzE (N:Nat)(c:Host)(a0 a1:Int):OA:=
 let y8:=(ix (zdJ c) 0 0);let y6:=(zqr c);let y7:=(ix (zdJ y6) 0 0);let y1:=(ix c.Mons a0 zf);let y0:=(ix y6.Mons a0 zf); (oN (zeK c) (cond (ieq (ln (zdJ c)) 0) (oN (zqq c) (oN (inb a0 (ln y6.Mons)) (oN (zeK y6) (oN (inb 0 (ln (zdJ y6))) (oN (inb a1 (ln y0.Out)) (oN (zjL y6.Memory y7 (ix y0.Out a1 [])) (oN (inb a1 (ln y0.Out)) (share (up y6.Mons a0 ({ y0 with Out:=(up y0.Out a1 []) }:Mon)) (fun x4=>let y2:=(ix x4 a0 zf);let y9:=(ix y2.Outer a1 zK); (oN (inb a1 (ln y2.Outer)) (oN (inb a1 (ln y2.Outer)) (share (up x4 a0 ({ y2 with Outer:=(up y2.Outer a1 (⟨y7,3⟩:Slot)) }:Mon)) (fun x5=>let y4:=({ y6 with Memory:=(ziv y6.Memory y7 (ix y0.Out a1 [])),Mons:=x5 }:Host); (oN (zgo y4 a0 a1 y9) (some [(aH (zgp y4 a0 a1 y9))]))))))))))))))) (oN (inb a0 (ln c.Mons)) (oN (zeK c) (oN (inb 0 (ln (zdJ c))) (oN (inb a1 (ln y1.Out)) (oN (zjL c.Memory y8 (ix y1.Out a1 [])) (oN (inb a1 (ln y1.Out)) (share (up c.Mons a0 ({ y1 with Out:=(up y1.Out a1 []) }:Mon)) (fun x4=>let y3:=(ix x4 a0 zf);let y10:=(ix y3.Outer a1 zK); (oN (inb a1 (ln y3.Outer)) (oN (inb a1 (ln y3.Outer)) (share (up x4 a0 ({ y3 with Outer:=(up y3.Outer a1 (⟨y8,3⟩:Slot)) }:Mon)) (fun x5=>let y5:=({ c with Memory:=(ziv c.Memory y8 (ix y1.Out a1 [])),Mons:=x5 }:Host); (oN (zgo y5 a0 a1 y10) (some [(aH (zgp y5 a0 a1 y10))]))))))))))))))))
theorem zXs (N:Nat)(c:Host)(a0 a1:Int):zgM (cQ zq8 zqu z1L zYb) (zo []) N 12 39 [true,true,true,true] (zbh c) [aI a0,aI a1]=zzE N c a0 a1:=by kernel_rfl
theorem zUo (c:Host)(a0 a1:Int)(hb:zbG big (.agg (zbh c) :: [aI a0,aI a1]))(hc:zAP c a0 a1=true):∃N,zzE N c a0 a1=some (.agg (zbh (ztD c a0 a1)) :: []):=by
 obtain ⟨hf,hm,hp⟩:=zD.1 hc;have tail:∀r,Shape r->inb 0 (ln (zby r))=true->hasB a0 (ln r.Mons)=true->(cond (inb a0 (ln r.Mons)) (cond (zeK r) (cond (inb 0 (ln (zdJ r))) (cond (inb a1 (ln (ix r.Mons a0 zf).Out)) (cond (zjL r.Memory (ix (zdJ r) 0 0) (ix (ix r.Mons a0 zf).Out a1 [])) (cond (inb a1 (ln (ix r.Mons a0 zf).Out)) (share (up r.Mons a0 ({ (ix r.Mons a0 zf) with Out:=(up (ix r.Mons a0 zf).Out a1 []) }:Mon)) (fun x4=>(cond (inb a1 (ln (ix x4 a0 zf).Outer)) (cond (inb a1 (ln (ix x4 a0 zf).Outer)) (share (up x4 a0 ({ (ix x4 a0 zf) with Outer:=(up (ix x4 a0 zf).Outer a1 (⟨(ix (zdJ r) 0 0),3⟩:Slot)) }:Mon)) (fun x5=>(cond (zgo ({ r with Memory:=(ziv r.Memory (ix (zdJ r) 0 0) (ix (ix r.Mons a0 zf).Out a1 [])),Mons:=x5 }:Host) a0 a1 (ix (ix x4 a0 zf).Outer a1 zK)) (some [(AV.agg (zbh (zgp ({ r with Memory:=(ziv r.Memory (ix (zdJ r) 0 0) (ix (ix r.Mons a0 zf).Out a1 [])),Mons:=x5 }:Host) a0 a1 (ix (ix x4 a0 zf).Outer a1 zK))))]) none))) none) none))) none) none) none) none) none) none)=some [AV.agg (zbh (zdZ r a0 a1 (ix (zby r) 0 0)))]:=by
  intro r hr hfree hrm;obtain ⟨g1,g2⟩:=zcJ hr hrm;have hL:=zVb (to:=ix (zby r) 0 0) hr hrm hp;have hE:=zWB (p:=a1) (to:=ix (zby r) 0 0) hr hrm;obtain ⟨k,rfl,hk⟩:=zdA (n:=r.Mons.length) hrm;have hh:∀(x y:Mon),hasB (k:Int) (ln (up (up r.Mons (k:Int) x) (k:Int) y))=true:=fun x y=>by simpa [ln] using hrm
  have hi:inb a1 (ln (ix (up r.Mons (k:Int) { ix r.Mons (k:Int) mZ with Out:=up (ix r.Mons (k:Int) mZ).Out a1 [] }) (k:Int) mZ).Outer)=true:=by
   rw[zdx hk];exact zB (zdB g2.1 hp)
  refine must (zB hrm) (must (zbs hr.1.1.1) (must hfree (must (zB (zdB g2.2.1 hp)) (must (zbs ⟨hr.1.1,zTl hr hrm hp⟩) (must (zB (zdB g2.2.1 hp)) (shr (must hi (must hi (shr (must (zbs ⟨hL,hh _ _⟩) ?_))))))))));exact congrArg (fun x=>some [AV.agg (zbh x)]) hE
 have hR:=room hf;have hrm:=zsp hf hm;refine ⟨0,?_⟩;unfold zzE ztD fetched oN
 conv=>zeta
 refine must (zbs hf.1.1.1.1) ?_;cases h0:ieq (ln (zdJ c)) 0
 .have er:zcS c=c:=by unfold zcS;rw[show ieq (ln (zby c)) 0=false from h0];rfl
  rw[er]at hR hrm ⊢;exact tail c hR.shape hR.free hrm
 .obtain ⟨o1,o2⟩:=zCB hf h0;have er:zcS c=zcO c (zbo c 0).1 (zbo c 0).2:=by unfold zcS;rw[show ieq (ln (zby c)) 0=true from h0];rfl
  rw[er]at hR hrm ⊢;exact must rfl (must (zbs ⟨hf.1,o1,o2⟩) (tail _ hR.shape hR.free hrm))
theorem zOI:zdv Tryz.prog 39 [true,true,true,true] zsn:=by
 refine zcd (zc4 zil zq zVX zMH) (zex (by kernel_rfl)) ?_
 intro cs avs cs' rs hl hr h;have hb:=zcx hr;unfold zsn at h;split at h
 .obtain ⟨hc,rfl,rfl⟩:=zcQ h;obtain ⟨N,hN⟩:=zUo _ _ _ (by exact hb) hc
  exact ⟨rfl,_,N,12,(zXs N _ _ _ ).trans hN⟩
 .cases h
def z1M:zdk:=[(39,([true,true,true,true],zsn))]++z1L
theorem zVY:zcw z1M:=zem zVX (by
 intro x hx;simp only[qH,qV,or_false]at hx;rcases hx with rfl
 .exact zOI)
def zb2 (h:Host)(m p:Int):Host:={ h with Mons:=up h.Mons m { ix h.Mons m mZ with Dirty:=up (ix h.Mons m mZ).Dirty p true } }
def opened (h:Host)(m p:Int):Host:=bif ieq (wand .i64 (ix (ix h.Mons m mZ).Outer p sZ).Rights 2) 0 then zbQ h m p ⟨(ix (ix h.Mons m mZ).Outer p sZ).Page,3⟩ else h
def zky (h:Host)(m p n:Int):Host:=bif ieq (wand .i64 n 2) 0 then h else opened (zb2 h m p) m p
def mended (h:Host)(m p n:Int):Host:=bif ieq (ix (ix h.Mons m mZ).Outer p sZ).Page (-1) then zky (fetched h m p) m p n else zky h m p n
structure SlotFit (s:Slot):Prop where
 no:zcy s noSlot=ieq s.Page (-1)
 lo:0<=s.Rights
 hi:s.Rights<=3
theorem zX2 {s:Slot}{n:Int}(h:zde s n=true):SlotFit s:=by
 refine ⟨zOq h,?_,?_⟩<;>unfold zde at h<;>cases h1:zcy s noSlot
 .rw [h1]at h;simp only[cF,zcM]at h;have:=(zfQ.1 h.2.2).1;omega
 .unfold zcy at h1;rw[qD]at h1;have:s.Rights=0:=qE h1.2;omega
 .rw [h1]at h;simp only[cF,zcM]at h;have:=(zfQ.1 h.2.2).2;omega
 .unfold zcy at h1;rw[qD]at h1;have:s.Rights=0:=qE h1.2;omega
theorem zqT {h:Host}{m p:Int}(hs:Shape h)(hm:hasB m (ln h.Mons)=true):Shape (zb2 h m p):=by
 obtain ⟨g1,g2⟩:=zcJ hs hm;exact ziH hs ⟨g1.1,g1.2.1,by simpa using g1.2.2.1,g1.2.2.2⟩ ⟨g2.1,g2.2.1,by simpa using g2.2.2.1,g2.2.2.2⟩
theorem zTc {h:Host}{m p:Int}(hs:Shape h)(hm:hasB m (ln h.Mons)=true):Shape (opened h m p)/\hasB m (ln (opened h m p).Mons)=true:=by
 unfold opened;cases ieq (wand .i64 (ix (ix h.Mons m mZ).Outer p sZ).Rights 2) 0
 .exact ⟨hs,hm⟩
 .exact ⟨zqV hm hs,zEu hm⟩
theorem zE5 {h:Host}{m p n:Int}(hs:Shape h)(hm:hasB m (ln h.Mons)=true):Shape (zky h m p n)/\hasB m (ln (zky h m p n).Mons)=true:=by
 unfold zky;cases ieq (wand .i64 n 2) 0
 .exact zTc (zqT hs hm) (zeq hm)
 .exact ⟨hs,hm⟩
theorem zsZ {h:Host}{m p n:Int}(hf:Fit h)(hm:hasB m (ln h.Mons)=true)(hp:hasB p 8=true):Shape (mended h m p n)/\hasB m (ln (mended h m p n).Mons)=true:=by
 unfold mended;cases ieq (ix (ix h.Mons m mZ).Outer p sZ).Page (-1)
 .exact zE5 hf.1 hm
 .obtain ⟨h1,h2⟩:=zlS hf hm hp;exact zE5 h1 h2
def zYi (h:Host)(m p n:Int):Prop:=Fit h/\hasB m (ln h.Mons)=true/\hasB p 8=true/\(n=1\/n=2)/\SlotFit (ix (ix h.Mons m mZ).Outer p sZ)
@[simp] abbrev zlE (h:Host)(m p n:Int):Bool:=pc (zYi h m p n)
@[simp] abbrev zmD (h:Host)(m p n:Int):Host:=mended h m p n
def zqH:List AV->Option (Bool×List AV)
 | [.agg [.s (.sl .int) b,.s .mon c,.s .entry d,.s .entry e],.one (.i .i64 f),.one (.i .i64 g),.one (.i .i64 h)]=>some ((zlE (⟨b,c,d,e⟩:Host) f g h),[aH (zmD (⟨b,c,d,e⟩:Host) f g h)])
 | _=>none
def zuG (N:Nat)(a0:Host)(a1 a2 a3:Int):OA:=
 let y3:=(zwH a0 a1 a2);let y6:=(ix y3.Mons a1 zf);let y0:=(ix a0.Mons a1 zf);let y7:=(ix y0.Outer a2 zK); (oN (inb a1 (ln a0.Mons)) (oN (inb a2 (ln y0.Outer)) (oN zcj (cond (cond (ieq y7.Page zbr.Page) (ieq y7.Rights zbr.Rights) false) (oN (zuA a0 a1 a2) (cond (ieq (wand .i64 a3 2) 0) (some [(aH y3)]) (oN (inb a1 (ln y3.Mons)) (oN (inb a2 (ln y6.Dirty)) (share (up y3.Mons a1 ({ y6 with Dirty:=(up y6.Dirty a2 true) }:Mon)) (fun x5=>let y8:=(ix x5 a1 zf).Outer;let y4:=({ y3 with Mons:=x5 }:Host);let y1:=(ix y8 a2 zK);let y9:=({ y1 with Rights:=3 }:Slot); (oN (inb a1 (ln x5)) (oN (inb a2 (ln y8)) (cond (ieq (wand .i64 y1.Rights 2) 0) (oN (zeC y4 a1 a2 y9) (some [(aH (zge y4 a1 a2 y9))])) (some [(aH y4)])))))))))) (cond (ieq (wand .i64 a3 2) 0) (some [(aH a0)]) (oN (inb a1 (ln a0.Mons)) (oN (inb a2 (ln y0.Dirty)) (share (up a0.Mons a1 ({ y0 with Dirty:=(up y0.Dirty a2 true) }:Mon)) (fun x5=>let y10:=(ix x5 a1 zf).Outer;let y5:=({ a0 with Mons:=x5 }:Host);let y2:=(ix y10 a2 zK);let y11:=({ y2 with Rights:=3 }:Slot); (oN (inb a1 (ln x5)) (oN (inb a2 (ln y10)) (cond (ieq (wand .i64 y2.Rights 2) 0) (oN (zeC y5 a1 a2 y11) (some [(aH (zge y5 a1 a2 y11))])) (some [(aH y5)])))))))))))))
theorem zSH (N:Nat)(a0:Host)(a1 a2 a3:Int):zCq (cQ zq8 zqu z1M zYb) (zo []) N 12 154 [true,true,true,true,false,false,false] 1 1 [[0],[1],[2],[4],[7]] .mon [aH a0,aI a1,aI a2,aI a3]=zuG N a0 a1 a2 a3:=by kernel_rfl
theorem zPI (a0:Host)(a1 a2 a3:Int)(hb:zbG big [aH a0,aI a1,aI a2,aI a3])(hc:zlE a0 a1 a2 a3=true):∃N,zuG N a0 a1 a2 a3=some [aH (zmD a0 a1 a2 a3)]:=by
 obtain ⟨hf,hm,hp,hn,hs⟩:=zD.1 hc;obtain ⟨g1,g2⟩:=zcJ hf.1 hm;have tail:∀r,Shape r->hasB a1 (ln r.Mons)=true->(cond (ieq (wand .i64 a3 2) 0) (some [(AV.agg (zbh r))]) (cond (inb a1 (ln r.Mons)) (cond (inb a2 (ln (ix r.Mons a1 zf).Dirty)) (share (up r.Mons a1 ({ (ix r.Mons a1 zf) with Dirty:=(up (ix r.Mons a1 zf).Dirty a2 true) }:Mon)) (fun x5=>(cond (inb a1 (ln x5)) (cond (inb a2 (ln (ix x5 a1 zf).Outer)) (cond (ieq (wand .i64 (ix (ix x5 a1 zf).Outer a2 zK).Rights 2) 0) (cond (zeC ({ r with Mons:=x5 }:Host) a1 a2 ({ (ix (ix x5 a1 zf).Outer a2 zK) with Rights:=3 }:Slot)) (some [(AV.agg (zbh (zge ({ r with Mons:=x5 }:Host) a1 a2 ({ (ix (ix x5 a1 zf).Outer a2 zK) with Rights:=3 }:Slot))))]) none) (some [(AV.agg (zbh ({ r with Mons:=x5 }:Host)))])) none) none))) none) none))=some [AV.agg (zbh (zky r a1 a2 a3))]:=by
  intro r hr hrm;obtain ⟨q1,q2⟩:=zcJ hr hrm;have hD:=zqT (p:=a2) hr hrm;unfold zky;cases h0:ieq (wand .i64 a3 2) 0
  .obtain ⟨k,rfl,hk⟩:=zdA (n:=r.Mons.length) hrm;have ex:ix (zb2 r (k:Int) a2).Mons (k:Int) mZ={ ix r.Mons (k:Int) mZ with Dirty:=up (ix r.Mons (k:Int) mZ).Dirty a2 true }:=zdx hk _ _;refine zcT rfl (must (zB hrm) (must (zB (zdB q2.2.2.1 hp)) (shr (must (zB (zeq hrm)) (must ?_ ?_)))))
   .rw [zdx hk];exact zB (zdB q2.1 hp)
   .unfold opened
    show (cond (ieq (wand .i64 (ix (ix (zb2 r (k:Int) a2).Mons (k:Int) mZ).Outer a2 sZ).Rights 2) 0) _ _)=_
    cases h1:ieq (wand .i64 (ix (ix (zb2 r (k:Int) a2).Mons (k:Int) mZ).Outer a2 sZ).Rights 2) 0
    .rfl
    .refine must rfl (must (zbs ⟨(zJ _).2 hD.1,zeq hrm,?_,?_⟩) rfl)
     .show hasB a2 (ln (ix (zb2 r (k:Int) a2).Mons (k:Int) mZ).Outer)=true
      rw[ex];exact zdB q2.1 hp
     .show (ix (zb2 r (k:Int) a2).Mons (k:Int) mZ).Tables.length<=(ix (zb2 r (k:Int) a2).Mons (k:Int) mZ).Guests.length
      rw[ex];exact u5 q2.2.2.2
  .rfl
 refine ⟨0,?_⟩;unfold zuG zmD mended oN
 conv=>zeta
 refine must (zB hm) (must (zB (zdB g2.1 hp)) (must rfl ?_));have e:(cond (ieq (ix (ix a0.Mons a1 mZ).Outer a2 sZ).Page zbr.Page) (ieq (ix (ix a0.Mons a1 mZ).Outer a2 sZ).Rights zbr.Rights) false)=ieq (ix (ix a0.Mons a1 mZ).Outer a2 sZ).Page (-1):=by
  rw[<- hs.no];unfold zcy zbr;cases ieq (ix (ix a0.Mons a1 mZ).Outer a2 sZ).Page noSlot.Page<;>rfl
 rw[e];cases h0:ieq (ix (ix a0.Mons a1 mZ).Outer a2 sZ).Page (-1)
 .exact tail a0 hf.1 hm
 .obtain ⟨h1,h2⟩:=zlS (p:=a2) hf hm hp;exact must rfl (must (zbs ⟨hf,hm,hp⟩) (tail _ h1 h2))
theorem zIQ:zdG Tryz.prog 154 [true,true,true,true,false,false,false] (some (1,1,[[0],[1],[2],[4],[7]])) zqH:=by
 refine zkn (kt:=.mon) (zc4 zil zq zVY zMH) (zex (by kernel_rfl)) (by kernel_rfl) ?_
 intro avs rs hl hr h;have hb:=zhJ hr;unfold zqH at h;split at h
 .obtain ⟨hc,rfl⟩:=zdM h;obtain ⟨N,hN⟩:=zPI _ _ _ _ (by exact hb) hc
  exact ⟨⟨_,rfl⟩,rfl,_,N,12,(zSH N _ _ _ _ ).trans hN⟩
 .cases h
def zXK:zdk:=z1M
theorem zb0:zcw zXK:=zVY
def zYc:zfd:=[(154,([true,true,true,true,false,false,false],(some (1,1,[[0],[1],[2],[4],[7]])),zqH))]++zYb
theorem zMI:zd8 zYc:=zoV zMH (by
 intro x hx;simp only[qH,qV,or_false]at hx;rcases hx with rfl
 .exact zIQ)
theorem zXd {h:Host}(hh:zbK h=true):h.Memory.length=12:=by
 unfold zbK at hh;simp only[zcM]at hh;have h1:=hh.1;unfold zgN at h1;simp only[zcM]at h1;have:ln h.Memory=12:=qE h1.2;simp only[ln] at this;omega
theorem zf5 {h:Host}(hh:zbK h=true):∀x∈h.Mons,zdE x=true:=by
 unfold zbK at hh;simp only[zcM]at hh;exact zxi _ _ hh.2.2.2.2
theorem zGz {x:Mon}(hk:zdE x=true):ShM x:=by
 have ho:=zqh (zlo hk);unfold zdE at hk;simp only[zcM]at hk;have e1:ln x.Tables=ln x.Guests:=qE hk.2.1;have e2:ln x.Out=8:=qE hk.2.2.2.1;have e3:ln x.Dirty=8:=qE hk.2.2.2.2.1;simp only[ln] at *;exact ⟨by omega,by omega,by omega,by omega⟩
theorem zdS {h:Host}(hs:SmH h)(hh:zbK h=true):Fit h:=by
 refine ⟨⟨hs,fun x hx=>zGz (zf5 hh x hx)⟩,by rw[zXd hh];decide,?_⟩
 unfold zbK at hh;simp only[zcM]at hh;have:=zRr _ _ rfl hh.2.2.2.2;omega
theorem zrg {x:Mon}(hk:zdE x=true){p:Int}(hp:hasB p 8=true):SlotFit (ix x.Outer p sZ):=by
 have ht:=zlo hk;unfold zcv at ht;simp only[zcM]at ht;exact zX2 (qO.1 ht.1 _ (zbq (zdB (zGz hk).1 hp) _))
theorem zUb {h:Host}{m p:Int}(hf:Fit h)(hm:hasB m (ln h.Mons)=true):Fit (zb2 h m p):=by
 refine ⟨zqT hf.1 hm,hf.2.1,?_⟩;obtain ⟨k,rfl,hk⟩:=zdA (n:=h.Mons.length) hm;have:=zTW h.Mons k (ix h.Mons (k:Int) mZ) { ix h.Mons (k:Int) mZ with Dirty:=up (ix h.Mons (k:Int) mZ).Dirty p true } (by rw[zba hk];exact qB hk)
 have h3:=hf.2.2;unfold zb2;simp only[up,kU]
 dsimp only at this
 simp only[up] at this;omega
abbrev gZ:Guest:=Ty.dflt .guest
def zbJ (h:Host)(m g:Int):Bool:=bif zbK h then (cond (hasB m (ln h.Mons)) (hasB g (ln (ix h.Mons m mZ).Guests)) false) else false
@[simp] abbrev zgg (h:Host)(m g:Int):Bool:=pc (zbz h)
@[simp] abbrev zh4 (h:Host)(m g:Int):Bool:=zbJ h m g
def zE0:Run:=rF3 dH dI dI fun b c d=>(zgg b c d,[aB (zh4 b c d)])
def zNq (N:Nat)(a0:Host)(a1 a2:Int):OA:=
 let y0:=(wsub .i64 (ln (ix a0.Mons a1 zf).Guests) 1); (oN (zeQ a0) (cond (zeP a0) (oN (zI a1 0 (wsub .i64 (ln a0.Mons) 1)) (cond (zL a1 0 (wsub .i64 (ln a0.Mons) 1)) (oN (inb a1 (ln a0.Mons)) (oN (zI a2 0 y0) (some [(aB (zL a2 0 y0))]))) oF)) oF))
theorem zUF (a0:Host)(a1 a2:Int)(hc:zgg a0 a1 a2=true):∃N,zNq N a0 a1 a2=some [aB (zh4 a0 a1 a2)]:=by
 have hs:=(zJ a0).1 (zD.1 hc);refine ⟨0,?_⟩;unfold zNq zh4 zbJ oN
 conv=>zeta
 refine must rfl ?_;rw[show zeP a0=zbK a0 from rfl]
 cases hh:zbK a0
 .rfl
 .rw [show zL a1 0 (wsub .i64 (ln a0.Mons) 1)=hasB a1 (ln a0.Mons) from zoW hs.2.1.1 a1]
  refine must rfl (must rfl ?_);cases h1:hasB a1 (ln a0.Mons)
  .rfl
  .have hg:(ix a0.Mons a1 mZ).Guests.length<=1048576:=(hs.2.1.2 _ (zbq h1 _)).2.2.2.1.1;rw[show zL a2 0 (wsub .i64 (ln (ix a0.Mons a1 zf).Guests) 1)=hasB a2 (ln (ix a0.Mons a1 mZ).Guests) from zoW hg a2]
   exact must rfl (must (zB h1) (must rfl rfl))
theorem zOY:vB 135 zE0:=kF3 zil zq zb0 zMI (zo []) zUF
def zca (h:Host)(m:Int):Nat->Nat->List (List Int)
 | 0,_=>[]
 | n+1,i=>zbY h m (i:Int) :: zca h m n (i+1)
theorem zxG (h:Host)(m:Int):∀(n i:Nat),(zca h m n i).length=n
 | 0,_=>rfl
 | n+1,i=>by simp[zca,zxG h m n]
def zA (h:Host)(m:Int):Bare:=bif hasB m (ln h.Mons) then ⟨zca h m 8 0,(ix h.Mons m mZ).Guests,(ix h.Mons m mZ).Outs,(ix h.Mons m mZ).Pending⟩ else ⟨[],[],[],0⟩
theorem zNT {ρ:Type}(h:Host)(m:Int)(K:List (List Int)->Option ρ):∀(n i:Nat) (acc:List (List Int)),acc.length+n<=2147483648 ->
 goN (fun i acc κ=>bif few (ln (ap acc [zbY h m (i:Int)])) then κ (ap acc [zbY h m (i:Int)]) else none) K n i acc=K (acc++zca h m n i)
 | 0,_,acc,_=>by simp[goN,zca]
 | n+1,i,acc,hl=>by
  simp only[goN,zca];rw[zfT (by simp[ap];omega),cT,zNT h m K n (i+1) _ (by simp[ap];omega)]
  simp[ap]
def z3t:zO:=[(135,zE0)]++zq8
theorem z09:zF z3t:=zh zOY zil
theorem zUS:zb6 zx6=true:=by decide
theorem zVs {p:Nat->Bool}:∀{n i q:Nat},zmR p n i=true->i<=q->q<i+n->p q=true
 | 0,i,q,_,h1,h2=>by omega
 | n+1,i,q,h,h1,h2=>by
  simp only[zmR,qD]at h
  by_cases he:i=q
  .subst he;exact h.1
  .exact zVs h.2 (by omega) (by omega)
theorem zZT {h:Host}{m:Int}(hh:zbK h=true)(hm:hasB m (ln h.Mons)=true){p:Int}(hp:hasB p 8=true):zb6 (zbY h m p)=true:=by
 have hk:=zf5 hh _ (zbq hm mZ);have hsh:=zGz hk;have hmem:h.Memory.all zb6=true:=by
  unfold zbK at hh;simp only[zcM]at hh;have h1:=hh.1;unfold zgN at h1;simp only[zcM]at h1;exact h1.1
 unfold zbY;rw[hm,hp];simp only[cT];have hsl:zbl (ix h.Mons m mZ).Outer p=ix (ix h.Mons m mZ).Outer p sZ:=by
  unfold zbl;rw[zdB hsh.1 hp];rfl
 rw[hsl];have hAt:∀(mm:List (List Int)) (q:Int),(hasB q (ln mm)=true->zb6 (ix mm q [])=true)->zb6 (zb5 mm q)=true:=by
  intro mm q hq;unfold zb5;cases h1:hasB q (ln mm)
  .exact zUS
  .exact hq h1
 cases hpg:ine (ix (ix h.Mons m mZ).Outer p sZ).Page (-1)
 .refine hAt _ _ (fun hq=>?_);obtain ⟨q,rfl,hq8⟩:=zdA (n:=8) hp;have hfit:fits (ix h.Mons m mZ) q=true:=by
   unfold zdE at hk;simp only[zcM]at hk;exact zVs hk.2.2.2.2.2.2.2.2.2.2 (by omega) (by omega)
  unfold fits zkA at hfit;have hno:zcy (ix (ix h.Mons m mZ).Outer (q:Int) sZ) noSlot=true:=by
   rw[(zrg (zf5 hh _ (zbq hm mZ)) hp).no];rw[zku]at hpg;cases h1:ieq (ix (ix h.Mons m mZ).Outer (q:Int) sZ).Page (-1)
   .rw [h1]at hpg;cases hpg
   .rfl
  rw[hno]at hfit;exact hfit
 .exact hAt _ _ (fun hq=>qO.1 hmem _ (zbq hq _))
theorem zOc {h:Host}{m:Int}(hh:zbK h=true)(hm:hasB m (ln h.Mons)=true):∀(n i:Nat),i+n<=8->(zca h m n i).all zb6=true
 | 0,_,_=>rfl
 | n+1,i,hi=>by
  simp only[zca,uA,qD];exact ⟨zZT hh hm (qI (by omega)),zOc hh hm n (i+1) (by omega)⟩
theorem zEj {h:Host}{m:Int}(hh:zbK h=true)(hm:hasB m (ln h.Mons)=true):zbV (zA h m)=true:=by
 have hk:=zf5 hh _ (zbq hm mZ);unfold zdE at hk;simp only[zcM]at hk;unfold zA zbV zgN;rw[hm];simp only[cT,hk.2.2.2.2.2.2.2.2.2.1,zOc hh hm 8 0 (by decide),ln,zxG]
 simp only[ln]at hk;rw[hk.1,hk.2.2.2.2.2.1,hk.2.2.2.2.2.2.1];rfl
def zlG:zO:=z3t
theorem zhr:zF zlG:=z09
end
end Go.Proofs.YtbihnofoichpmaaGreat.E
