/- What is proved here: a part of the proof that the statement of this claim holds (several texts of wip/, laid together). -/
import Derived.Test.YtdaahiceaagpdaaGreatU3
namespace Go.Proofs.YtdaahiceaagpdaaGreat.E
open Go
set_option linter.unusedVariables false
set_option maxRecDepth 100000
set_option linter.unusedSimpArgs false
set_option linter.unusedSectionVars false
noncomputable section
theorem must {ρ:Type}{c:Bool}{a b r:Option ρ}(h:c=true)(k:a=r):(cond c a b)=r:=by rw[h];exact k
theorem mu {ρ:Type}{c:Bool}{a b r:Option ρ}(k:a=r)(h:c=true:=by first|assumption|(simp_all<;>omega)):(cond c a b)=r:=must h k
theorem zc6 {ρ:Type}{c:Bool}{a b r:Option ρ}(h:c=false)(k:b=r):(cond c a b)=r:=by rw[h];exact k
theorem br {ρ:Type}{c:Bool}{a b r:Option ρ}(h1:c=true->a=r)(h2:c=false->b=r):(cond c a b)=r:=by
 cases c
 .exact h2 rfl
 .exact h1 rfl
theorem brN {ρ:Type}{c:Bool}{a b r:Option ρ}(h1:c=false->a=r)(h2:c=true->b=r):(cond (cond c false true) a b)=r:=by
 cases c
 .exact h1 rfl
 .exact h2 rfl
theorem shr {α ρ:Type}{x:α}{f:α->Option ρ}{r:Option ρ}(h:f x=r):share x f=r:=h
theorem zid {ρ:Type}{c p:Bool}{a b:Option ρ}(hc:c=true):(cond c (cond (cond p false true) a b) none)=bif p then b else a:=by
 rw[hc];cases p<;>rfl
attribute [simp] zC
@[simp] theorem z4I {α:Type}(l:List α):(few (ln l)=true)↔l.length<=2147483648:=by
 unfold few ln;rw[decide_eq_true_iff];omega
@[simp] theorem z7C {α:Type}(l m:List α):(ap l m).length=l.length+m.length:=by simp[ap]
attribute [simp] zjv zfG
@[simp] theorem z3B (n:Nat)(k:IntKind)(x:Int):CVB n (.i k x)↔True:=⟨fun _=>trivial,fun _=>.i k x⟩
@[simp] theorem z7G (n:Nat)(x:Bool):CVB n (.b x)↔True:=⟨fun _=>trivial,fun _=>.b x⟩
theorem zkm {n:Nat}{t:Ty}(l:List t.den):CVB n (.s t l)↔l.length<=n/\∀x∈l,∀c∈t.cells x,CVB n c:=⟨fun h=>h.inv,fun h=>.s t l h.1 h.2⟩
@[simp] theorem zVu (n:Nat)(l:List Int):CVB n (.s .int l)↔l.length<=n:=by rw[zkm];simp[Ty.cells]
@[simp] theorem z6i (n:Nat)(l:List Int):CVB n (.s .u8 l)↔l.length<=n:=by rw[zkm];simp[Ty.cells]
@[simp] theorem z09 (n:Nat)(l:List Bool):CVB n (.s .bool l)↔l.length<=n:=by rw[zkm];simp[Ty.cells]
@[simp] theorem z1b (n:Nat)(l:List Slot):CVB n (.s .slot l)↔l.length<=n:=by rw[zkm];simp[Ty.cells]
@[simp] theorem z4z (n:Nat)(l:List Ins):CVB n (.s .ins l)↔l.length<=n:=by rw[zkm];simp[Ty.cells]
@[simp] theorem zYU (n:Nat)(l:List Entry):CVB n (.s .entry l)↔l.length<=n:=by rw[zkm];simp[Ty.cells]
@[simp] theorem z4y (n:Nat)(l:List GAct):CVB n (.s .act l)↔l.length<=n:=by rw[zkm];simp[Ty.cells]
@[simp] theorem z1c (n:Nat)(l:List Told):CVB n (.s .told l)↔l.length<=n:=by rw[zkm];simp[Ty.cells]
def SmM (m:List (List Int)):Prop:=m.length<=1048576/\∀x∈m,x.length<=1048576
def SmG (g:Guest):Prop:=g.Prog.length<=1048576/\g.Written.length<=1048576/\g.Live.length<=1048576/\g.Seen.length<=1048576
def zlW (l:List Guest):Prop:=l.length<=1048576/\∀x∈l,SmG x
def SmB (b:Bare):Prop:=SmM b.Memory/\zlW b.Guests/\b.Outs.length<=1048576
def zWl (l:List Bare):Prop:=l.length<=1048576/\∀x∈l,SmB x
theorem z18:sm=1048576:=rfl
@[simp] theorem zWK (l:List Int):CVB sm (.s .int l)↔l.length<=1048576:=zVu sm l
@[simp] theorem z7j (l:List Int):CVB sm (.s .u8 l)↔l.length<=1048576:=z6i sm l
@[simp] theorem zTX (l:List Bool):CVB sm (.s .bool l)↔l.length<=1048576:=z09 sm l
@[simp] theorem zTY (l:List Slot):CVB sm (.s .slot l)↔l.length<=1048576:=z1b sm l
@[simp] theorem z6N (l:List Ins):CVB sm (.s .ins l)↔l.length<=1048576:=z4z sm l
@[simp] theorem zQ6 (l:List Entry):CVB sm (.s .entry l)↔l.length<=1048576:=zYU sm l
@[simp] theorem z6M (l:List GAct):CVB sm (.s .act l)↔l.length<=1048576:=z4y sm l
@[simp] theorem z6F (l:List Told):CVB sm (.s .told l)↔l.length<=1048576:=z1c sm l
@[simp] theorem zom (l:List (List Int)):CVB sm (.s (.sl .int) l)↔SmM l:=by rw[zkm];simp[Ty.cells,SmM,z18]
@[simp] theorem z4d (g:Guest):(∀c∈Ty.cells .guest g,CVB sm c)↔SmG g:=by simp[Ty.cells,SmG,z18]
@[simp] theorem ztA (l:List Guest):CVB sm (.s .guest l)↔zlW l:=by rw[zkm];simp only[z4d];rfl
@[simp] theorem z4c (b:Bare):(∀c∈Ty.cells .bare b,CVB sm c)↔SmB b:=by
 simp only[Ty.cells,qH,qX,or_false,vC,forall_eq,zom,ztA,zVu,z3B,and_true];rfl
@[simp] theorem z7m (l:List Bare):CVB sm (.s .bare l)↔zWl l:=by rw[zkm];simp only[z4c];rfl
@[simp] theorem z7F (a:List Ins)(b c:Int)(d e:List Slot)(f:Ctl)(g:Int)(h:GExit)(i:Bool)(j:List Int):SmG ⟨a,b,c,d,e,f,g,h,i,j⟩↔a.length<=1048576/\d.length<=1048576/\e.length<=1048576/\j.length<=1048576:=Iff.rfl
@[simp] theorem z7E (m:List (List Int))(g:List Guest)(o:List Int)(p:Int):SmB ⟨m,g,o,p⟩↔SmM m/\zlW g/\o.length<=1048576:=Iff.rfl
theorem zKh {m:List (List Int)}{i:Int}{x:List Int}(h:SmM m)(hx:x.length<=1048576):SmM (up m i x):=by
 refine ⟨by simpa using h.1,fun y hy=>?_⟩
 rcases qZ hy with hy|rfl
 .exact h.2 y hy
 .exact hx
theorem zCO {m:List Guest}{i:Int}{x:Guest}(h:zlW m)(hx:SmG x):zlW (up m i x):=by
 refine ⟨by simpa using h.1,fun y hy=>?_⟩
 rcases qZ hy with hy|rfl
 .exact h.2 y hy
 .exact hx
theorem z5x {m:List Bare}{i:Int}{x:Bare}(h:zWl m)(hx:SmB x):zWl (up m i x):=by
 refine ⟨by simpa using h.1,fun y hy=>?_⟩
 rcases qZ hy with hy|rfl
 .exact h.2 y hy
 .exact hx
theorem z0c {l:List Guest}{i:Int}(h:zlW l)(hh:hasB i (ln l)=true)(d:Guest):SmG (ix l i d):=h.2 _ (zbr hh d)
theorem z6z {l:List (List Int)}{i:Int}(h:SmM l)(hh:hasB i (ln l)=true)(d:List Int):(ix l i d).length<=1048576:=h.2 _ (zbr hh d)
@[simp] theorem z7b:SmG zx:=⟨by decide,by decide,by decide,by decide⟩
def win (x a b:Int):Bool:=ige x a&&ile x b
@[simp] theorem zQq (x a b:Int):zK x a b=win x a b:=rfl
@[simp] theorem z7H (x a b:Int):zcp x a b=win x a b:=rfl
@[simp] theorem zRv (i n:Int):inb i n=hasB i n:=rfl
attribute [simp] zdQ
@[simp] theorem zo3 {α:Type}{l:List α}(h:l.length<=1048576)(i:Int):win i 0 (wsub .i64 (ln l) 1)=hasB i (ln l):=zA0 (zcd h).1 i
theorem zG7 {α:Type}{l:List α}(h:l.length<=big)(i:Int):win i 0 (wsub .i64 (ln l) 1)=hasB i (ln l):=zA0 h i
theorem zfS {x a b:Int}:(win x a b=true)↔a<=x/\x<=b:=by
 unfold win ige ile;simp only[qD,decide_eq_true_iff]
theorem z4T (a b:Int):ilt a b = !ige a b:=by
 unfold ilt ige
 by_cases h:a<b
 .rw [qK h,qJ (by omega)];rfl
 .rw [qJ h,qK (by omega)];rfl
attribute [simp] zbq zeL zf3 zks zgF zgG zdY zgH zos zoO zci zeM
attribute [simp] zd2 zcG zft zdk
attribute [simp] zfq zcY zfa zdp
def zbc (a:Int):Int:=bif ilt a 0 then -1 else zTN .i64 a 4
def zcQ (a:Int):Int:=bif ilt a 0 then -1 else zo4 a 4
@[simp] abbrev zfF (a:Int):Bool:=true
@[simp] abbrev zcu (a:Int):Int:=zbc a
def zwo:Run:=rF1 dI fun b=>(zfF b,[aI (zcu b)])
def zzQ (N:Nat)(a0:Int):OA:=
 (cond (ilt a0 0) (some [(aI (-1))]) (oN (ine 4 0) (some [(aI (zTN .i64 a0 4))])))
theorem zL1 (a0:Int)(hc:zfF a0=true):∃N,zzQ N a0=some [aI (zcu a0)]:=by
 refine ⟨0,?_⟩;unfold zzQ oN;refine br (fun _=>?_) (fun _=>must rfl ?_)
 all_goals first|rfl|(simp only [*,zcu,zbc,cT,cF]<;>rfl)|simp_all[Ty.cells,zcu,zbc]
theorem zFW:vF 271 zwo:=kF1 ze1 zu zl zn (zo []) zL1
@[simp] abbrev zhV (a:Int):Bool:=true
@[simp] abbrev zdT (a:Int):Int:=zcQ a
def zwn:Run:=rF1 dI fun b=>(zhV b,[aI (zdT b)])
def zzP (N:Nat)(a0:Int):OA:=
 (cond (ilt a0 0) (some [(aI (-1))]) (oN (ine 4 0) (some [(aI (zo4 a0 4))])))
theorem zL0 (a0:Int)(hc:zhV a0=true):∃N,zzP N a0=some [aI (zdT a0)]:=by
 refine ⟨0,?_⟩;unfold zzP oN;refine br (fun _=>?_) (fun _=>must rfl ?_)
 all_goals first|rfl|(simp only [*,zdT,zcQ,cT,cF]<;>rfl)|simp_all[Ty.cells,zdT,zcQ]
theorem zFV:vF 272 zwn:=kF1 ze1 zu zl zn (zo []) zL0
def zbZ (w:Bool):Int:=bif w then 2 else 1
@[simp] abbrev zrB (w:Bool):Bool:=true
@[simp] abbrev zeR (w:Bool):Int:=zbZ w
def zBE:Run:=rF1 dB fun b=>(zrB b,[aI (zeR b)])
def zHy (N:Nat)(a0:Bool):OA:=
 (cond a0 (some [(aI 2)]) (some [(aI 1)]))
theorem zR1 (a0:Bool)(hc:zrB a0=true):∃N,zHy N a0=some [aI (zeR a0)]:=by
 refine ⟨0,?_⟩;unfold zHy;refine br (fun _=>?_) (fun _=>?_)
 all_goals first|rfl|(simp only [*,zeR,zbZ,cT,cF]<;>rfl)|simp_all[Ty.cells,zeR,zbZ]
theorem zLm:vF 299 zBE:=kF1 ze1 zu zl zn (zo []) zR1
def zp2 (p:Int)(w:Bool):GExit:=⟨1,p,w,0⟩
def zw3 (n:Int):GExit:=⟨2,0,false,n⟩
def zv8 (n:Int):GExit:=⟨3,0,false,n⟩
@[simp] abbrev zlP (p:Int)(w:Bool):Bool:=true
@[simp] abbrev zgc (p:Int)(w:Bool):GExit:=zp2 p w
def zt5:Run:=rF2 dI dB fun b c=>(zlP b c,[.agg (zxg (zgc b c))])
def zyr (N:Nat)(a0:Int)(a1:Bool):OA:=
 (some [(.agg [(.i .i64 1),(.i .i64 a0),(.b a1),(.i .i64 0)])])
theorem zJu (a0:Int)(a1:Bool)(hc:zlP a0 a1=true):∃N,zyr N a0 a1=some [.agg (zxg (zgc a0 a1))]:=by
 refine ⟨0,?_⟩;unfold zyr
 first|rfl|(simp only [*,zgc,cT,cF]<;>rfl)|simp_all[Ty.cells,zgc]
theorem zC4:vF 301 zt5:=kF2 ze1 zu zl zn (zo []) zJu
@[simp] abbrev zsP (n:Int):Bool:=true
@[simp] abbrev zkH (n:Int):GExit:=zw3 n
def zwq:Run:=rF1 dI fun b=>(zsP b,[.agg (zxg (zkH b))])
def zzT (N:Nat)(a0:Int):OA:=
 (some [(.agg [(.i .i64 2),(.i .i64 0),(.b false),(.i .i64 a0)])])
theorem zL4 (a0:Int)(hc:zsP a0=true):∃N,zzT N a0=some [.agg (zxg (zkH a0))]:=by
 refine ⟨0,?_⟩;unfold zzT
 first|rfl|(simp only [*,zkH,cT,cF]<;>rfl)|simp_all[Ty.cells,zkH]
theorem zFY:vF 319 zwq:=kF1 ze1 zu zl zn (zo []) zL4
@[simp] abbrev zvj (n:Int):Bool:=true
@[simp] abbrev zmC (n:Int):GExit:=zv8 n
def zyW:Run:=rF1 dI fun b=>(zvj b,[.agg (zxg (zmC b))])
def zD4 (N:Nat)(a0:Int):OA:=
 (some [(.agg [(.i .i64 3),(.i .i64 0),(.b false),(.i .i64 a0)])])
theorem zPr (a0:Int)(hc:zvj a0=true):∃N,zD4 N a0=some [.agg (zxg (zmC a0))]:=by
 refine ⟨0,?_⟩;unfold zD4
 first|rfl|(simp only [*,zmC,cT,cF]<;>rfl)|simp_all[Ty.cells,zmC]
theorem zIM:vF 320 zyW:=kF1 ze1 zu zl zn (zo []) zPr
def zgp (t x:Int):Bool:=bif win t 0 3 then (cond (win x 1 2) (ine (wand .i64 t x) 0) false) else false
@[simp] abbrev zhy (t x:Int):Bool:=true
@[simp] abbrev zha (t x:Int):Bool:=zgp t x
def zyN:Run:=rF2 dI dI fun b c=>(zhy b c,[aB (zha b c)])
def zDW (N:Nat)(a0 a1:Int):OA:=
 (oN (zI a0 0 3) (cond (zK a0 0 3) (oN (zI a1 1 2) (cond (zK a1 1 2) (some [(aB (ine (wand .i64 a0 a1) 0))]) oF)) oF))
theorem zPi (a0 a1:Int)(hc:zhy a0 a1=true):∃N,zDW N a0 a1=some [aB (zha a0 a1)]:=by
 refine ⟨0,?_⟩;unfold zDW oN;refine must rfl (br (fun _=>must rfl (br (fun _=>?_) (fun _=>?_))) (fun _=>?_))
 all_goals first|rfl|(simp only [*,zha,zgp,cT,cF]<;>rfl)|simp_all[Ty.cells,zha,zgp]
theorem zID:vF 318 zyN:=kF2 ze1 zu zl zn (zo []) zPi
def zcJ (p:Int):Bool:=win p 0 255
@[simp] abbrev zeU (p:Int):Bool:=true
@[simp] abbrev zeT (p:Int):Bool:=zcJ p
def zBJ:Run:=rF1 dI fun b=>(zeU b,[aB (zeT b)])
def zHD (N:Nat)(a0:Int):OA:=
 (oN (zI a0 0 255) (some [(aB (zK a0 0 255))]))
theorem zR7 (a0:Int)(hc:zeU a0=true):∃N,zHD N a0=some [aB (zeT a0)]:=by
 refine ⟨0,?_⟩;unfold zHD oN;refine must rfl ?_
 first|rfl|(simp only [*,zeT,zcJ,cT,cF]<;>rfl)|simp_all[Ty.cells,zeT,zcJ]
theorem zLr:vF 215 zBJ:=kF1 ze1 zu zl zn (zo []) zR7
@[simp] abbrev zrm (p:Int):Bool:=true
@[simp] abbrev zor (p:Int):Bool:=zcJ p
def zBo:Run:=rF1 dI fun b=>(zrm b,[aB (zor b)])
def zHi (N:Nat)(a0:Int):OA:=
 (oN (zb7 a0 0 255) (some [(aB (zcp a0 0 255))]))
theorem zRK (a0:Int)(hc:zrm a0=true):∃N,zHi N a0=some [aB (zor a0)]:=by
 refine ⟨0,?_⟩;unfold zHi oN;refine must rfl ?_
 first|rfl|(simp only [*,zor,zcJ,cT,cF]<;>rfl)|simp_all[Ty.cells,zor,zcJ]
theorem zK6:vF 167 zBo:=kF1 ze1 zu zl zn (zo []) zRK
def zcb (l:List Ins)(p:Int):Ins:=bif hasB p (ln l) then ix l p zn6 else ⟨7,0⟩
@[simp] abbrev ze8 (l:List Ins)(p:Int):Bool:=true
@[simp] abbrev zfl (l:List Ins)(p:Int):Ins:=zcb l p
def zES:Run:=rF2 (dS .ins) dI fun b c=>(ze8 b c,[aT .ins (zfl b c)])
def zNo (N:Nat)(a0:lI)(a1:Int):OA:=
 (oN (zI a1 0 (wsub .i64 (ln a0) 1)) (cond (nB (zK a1 0 (wsub .i64 (ln a0) 1))) (some [(.agg [(.i .i64 7),(.i .i64 0)])]) (oN (inb a1 (ln a0)) (some [(.agg [(.i .i64 (ix a0 a1 zn6).Op),(.i .i64 (ix a0 a1 zn6).X)])]))))
theorem zUp (a0:List Ins)(a1:Int)(hb:zbB big [aS .ins a0,aI a1])(hc:ze8 a0 a1=true):∃N,zNo N a0 a1=some [aT .ins (zfl a0 a1)]:=by
 have hl:=((zcU hb).1 _ (qF.2 rfl)).len;have hw:=zG7 hl
 refine ⟨0,?_⟩;unfold zNo oN nB;refine must rfl (brN (fun _=>?_) (fun _=>mu ?_))
 all_goals first|rfl|(simp only [*,zfl,zcb,cT,cF]<;>rfl)|simp_all[Ty.cells,zfl,zcb]
theorem zOR:vF 294 zES:=hF2 ze1 zu zl zn (zo []) zUp
def zwV (w:Int):Int:=bif ieq w 5 then 1 else 2
def zde (s:Slot)(n:Int):Bool:=bif zcq s noSlot then true else (cond (igt n 0) (cond (win s.Page 0 (wsub .i64 n 1)) (win s.Rights 1 3) false) false)
@[simp] abbrev zrG (s:Slot)(n:Int):Bool:=true
@[simp] abbrev zoU (s:Slot)(n:Int):Bool:=zde s n
def zBN:Run:=rF2 (dT .slot) dI fun b c=>(zrG b c,[aB (zoU b c)])
def zHH (N:Nat)(a0:Slot)(a1:Int):OA:=
 (oN zci (cond (cond (ieq a0.Page zbq.Page) (ieq a0.Rights zbq.Rights) false) oT (oN (zI a0.Page 0 (wsub .i64 a1 1)) (cond (zK a0.Page 0 (wsub .i64 a1 1)) (cond (igt a1 0) (oN (zI a0.Rights 1 3) (some [(aB (zK a0.Rights 1 3))])) oF) oF))))
theorem zSb (a0:Slot)(a1:Int)(hc:zrG a0 a1=true):∃N,zHH N a0 a1=some [aB (zoU a0 a1)]:=by
 refine ⟨0,?_⟩;unfold zHH oN;refine must rfl (br (fun _=>?_) (fun _=>must rfl (br (fun _=>br (fun _=>must rfl ?_) (fun _=>?_)) (fun _=>?_))))
 all_goals first|rfl|(simp only [*,zoU,zde,zcq,cT,cF]<;>rfl)|simp_all[Ty.cells,zoU,zde,zcq]
theorem zLv:vF 276 zBN:=kF2 ze1 zu zl zn (zo []) zSb
@[simp] abbrev zxx (s:Slot)(n:Int):Bool:=true
@[simp] abbrev zsq (s:Slot)(n:Int):Bool:=zde s n
def zBr:Run:=rF2 (dT .slot) dI fun b c=>(zxx b c,[aB (zsq b c)])
def zHl (N:Nat)(a0:Slot)(a1:Int):OA:=
 (oN zeM (cond (cond (ieq a0.Page zeL.Page) (ieq a0.Rights zeL.Rights) false) oT (cond (igt a1 0) (oN (zb7 a0.Page 0 (wsub .i64 a1 1)) (cond (zcp a0.Page 0 (wsub .i64 a1 1)) (oN (zb7 a0.Rights 1 3) (some [(aB (zcp a0.Rights 1 3))])) oF)) oF)))
theorem zRN (a0:Slot)(a1:Int)(hc:zxx a0 a1=true):∃N,zHl N a0 a1=some [aB (zsq a0 a1)]:=by
 refine ⟨0,?_⟩;unfold zHl oN;refine must rfl (br (fun _=>?_) (fun _=>br (fun _=>must rfl (br (fun _=>must rfl ?_) (fun _=>?_))) (fun _=>?_)))
 all_goals first|rfl|(simp only [*,zsq,zde,zcq,cT,cF]<;>rfl)|simp_all[Ty.cells,zsq,zde,zcq]
theorem zK9:vF 223 zBr:=kF2 ze1 zu zl zn (zo []) zRN
@[simp] abbrev zfP (l:List Slot):Bool:=pc (l.length<=2147483648)
@[simp] abbrev zez (l:List Slot):List Slot:=l
def ztW:Run:=rF1 (dS .slot) fun b=>(zfP b,[aS .slot (zez b)])
def zyi (N:Nat)(a0:lS):OA:=
 (oN (few (ln (ap [] a0))) (some [(aS .slot (ap [] a0))]))
theorem zJk (a0:List Slot)(hc:zfP a0=true):∃N,zyi N a0=some [aS .slot (zez a0)]:=by
 have hs:=zC.1 hc;refine ⟨0,?_⟩;unfold zyi oN;refine mu ?_
 first|rfl|(simp only [*,zez,cT,cF]<;>rfl)|simp_all[Ty.cells,zez]
theorem zCV:vF 171 ztW:=kF1 ze1 zu zl zn (zo []) zJk
@[simp] abbrev zsr (l:List Ins):Bool:=pc (l.length<=2147483648)
@[simp] abbrev zm8 (l:List Ins):List Ins:=l
def zwh:Run:=rF1 (dS .ins) fun b=>(zsr b,[aS .ins (zm8 b)])
def zzI (N:Nat)(a0:lI):OA:=
 (oN (few (ln (ap [] a0))) (some [(aS .ins (ap [] a0))]))
theorem zLU (a0:List Ins)(hc:zsr a0=true):∃N,zzI N a0=some [aS .ins (zm8 a0)]:=by
 have hs:=zC.1 hc;refine ⟨0,?_⟩;unfold zzI oN;refine mu ?_
 first|rfl|(simp only [*,zm8,cT,cF]<;>rfl)|simp_all[Ty.cells,zm8]
theorem zFP:vF 174 zwh:=kF1 ze1 zu zl zn (zo []) zLU
def zg8 (m:List (List Int))(p c:Int):Bool:=bif hasB p (ln m) then hasB c (ln (ix m p [])) else false
def cellAt (m:List (List Int))(p c:Int):Int:=bif zg8 m p c then ix (ix m p []) c 0 else 0
def zbx (m:List (List Int))(p c v:Int):List (List Int):=bif zg8 m p c then (cond (win v 0 99) (up m p (up (ix m p []) c v)) m) else m
theorem zxG (m:List (List Int))(p c:Int):(zg8 m p c=true)↔hasB p (ln m)=true/\hasB c (ln (ix m p []))=true:=by
 unfold zg8;cases hasB p (ln m)<;>simp
theorem z6h {n:Nat}{m:List (List Int)}(h:CVB n (.s (.sl .int) m)):m.length<=n/\∀p:Int,hasB p (ln m)=true->(ix m p []).length<=n :=
 ⟨h.len,fun p hp=>(h.inv.2 _ (zbr hp []) _ (qF.2 rfl)).len⟩
@[simp] abbrev zrI (m:List (List Int))(p c:Int):Bool:=true
@[simp] abbrev zoX (m:List (List Int))(p c:Int):Bool:=zg8 m p c
def zBS:Run:=rF3 (dS (.sl .int)) dI dI fun b c d=>(zrI b c d,[aB (zoX b c d)])
def zHM (N:Nat)(a0:lM)(a1 a2:Int):OA:=
 let y0:=(wsub .i64 (ln (ix a0 a1 [])) 1); (oN (zI a1 0 (wsub .i64 (ln a0) 1)) (cond (zK a1 0 (wsub .i64 (ln a0) 1)) (oN (inb a1 (ln a0)) (oN (zI a2 0 y0) (some [(aB (zK a2 0 y0))]))) oF))
theorem zSg (a0:List (List Int))(a1 a2:Int)(hb:zbB big [aS (.sl .int) a0,aI a1,aI a2])(hc:zrI a0 a1 a2=true):∃N,zHM N a0 a1 a2=some [aB (zoX a0 a1 a2)]:=by
 have hl:=z6h ((zcU hb).1 _ (qF.2 rfl));have hw:=zG7 hl.1;have hw2:∀p i:Int,hasB p (ln a0)=true->win i 0 (wsub .i64 (ln (ix a0 p [])) 1)=hasB i (ln (ix a0 p [])):=fun p i h=>zG7 (hl.2 p h) i
 refine ⟨0,?_⟩;unfold zHM oN
 conv=>zeta
 refine must rfl (br (fun _=>mu (must rfl ?_)) (fun _=>?_))
 all_goals first|rfl|(simp only [*,zoX,zg8,cT,cF]<;>rfl)|simp_all[Ty.cells,zoX,zg8]
theorem zLz:vF 311 zBS:=hF3 ze1 zu zl zn (zo []) zSg
def z3d:zO:=[(292,zBv),(271,zwo),(272,zwn),(299,zBE),(301,zt5),(319,zwq),(320,zyW),(318,zyN),(215,zBJ),(167,zBo),(294,zES),(276,zBN),(223,zBr),(171,ztW),(174,zwh),(311,zBS)]++z6c
theorem zfN:zF z3d:=zh zLd (zh zFW (zh zFV (zh zLm (zh zC4 (zh zFY (zh zIM (zh zID (zh zLr (zh zK6 (zh zOR (zh zLv (zh zK9 (zh zCV (zh zFP (zh zLz ze1)))))))))))))))
@[simp] abbrev zrz (m:List (List Int))(p c:Int):Bool:=true
@[simp] abbrev zmd (m:List (List Int))(p c:Int):Int:=cellAt m p c
def zBw:Run:=rF3 (dS (.sl .int)) dI dI fun b c d=>(zrz b c d,[aI (zmd b c d)])
def zHq (N:Nat)(a0:lM)(a1 a2:Int):OA:=
 (oN (zrI a0 a1 a2) (cond (nB (zoX a0 a1 a2)) (some [(aI 0)]) (oN (inb a1 (ln a0)) (oN (inb a2 (ln (ix a0 a1 []))) (some [(aI (ix (ix a0 a1 []) a2 0))])))))
theorem zRS (a0:List (List Int))(a1 a2:Int)(hc:zrz a0 a1 a2=true):∃N,zHq N a0 a1 a2=some [aI (zmd a0 a1 a2)]:=by
 have hm:=(zxG a0 a1 a2).1;refine ⟨0,?_⟩;unfold zHq oN nB;refine must rfl (brN (fun _=>?_) (fun _=>mu (mu ?_)))
 all_goals first|rfl|(simp only [*,zmd,cellAt,cT,cF]<;>rfl)|simp_all[Ty.cells,zmd,cellAt]
theorem zLe:vF 273 zBw:=kF3 zfN zu zl zn (zo []) zRS
def zcw (t:List Slot)(n p:Int):Bool:=bif t.all (fun s=>zde s p) then ieq (ln t) n else false
@[simp] abbrev zlz (t:List Slot)(n p:Int):Bool:=true
@[simp] abbrev zhc (t:List Slot)(n p:Int):Bool:=zcw t n p
def zy3:Run:=rF3 (dS .slot) dI dI fun b c d=>(zlz b c d,[aB (zhc b c d)])
def zEb (N:Nat)(a0:lS)(a1 a2:Int):OA:=
 (iter (σ:=(Int×(Int×(Int×(lS×Unit))))) N (fun r4 s5=>let y0:=s5.2.2.2.1;let y1:=(ix y0 s5.2.2.1 zJ); (cond (ilt s5.2.2.1 (ln y0)) (oN (inb s5.2.2.1 (ln y0)) (oN (zrG y1 s5.2.1) (cond (nB (zoU y1 s5.2.1)) oF (r4 (s5.1,(s5.2.1,((zG .i64 s5.2.2.1 1),(y0,())))))))) (some [(aB (ieq (ln y0) s5.1))]))) (a1,(a2,(0,(a0,())))))
def zP3:FuncId->Nat->Option Tmpl:=zo [(213,0,{ n:=25,tm:=[(0,.sl 0 []),(1,ti),(2,ti),(7,ti)],lo:=[],ro:=[(0,.slot,false)] })]
theorem zPy (a0:List Slot)(a1 a2:Int)(hb:zbB big [aS .slot a0,aI a1,aI a2])(hc:zlz a0 a1 a2=true):∃N,zEb N a0 a1 a2=some [aB (zhc a0 a1 a2)]:=by
 have hl:(_:List _).length<=big:=((zcU hb).1 _ (qF.2 rfl)).len;refine zbT fun N hNN=>?_;unfold zEb oN nB
 conv=>zeta
 refine (zba a0 (fun i (t:Unit)=>(a1,a2,(i:Int),a0,())) _ (fun _ x (_:Unit) κ=>bif (fun s=>zde s a2) x then κ () else oF) (fun (t:Unit)=>(some [(.one (.b (ieq (ln a0) a1)))])) (fun i hi t rec=>?_) (fun t rec=>?_) _ () (hNN hl)).trans ?_
 .simp only [zbh hi,zN hi,zZ hi,zU hi hl,cT];exact zid rfl
 .simp only [zbb,cF]
 rw[zgn (fun s=>zde s a2)];refine br (fun h0=>?_) (fun h0=>?_)
 .first|rfl|(simp only [h0,zhc,zcw,cT,cF]<;>rfl)|(simp_all [Ty.cells,zhc,zcw];done)
 .first|rfl|(simp only [h0,zhc,zcw,cT,cF]<;>rfl)|(simp_all [Ty.cells,zhc,zcw];done)
theorem zIT:vF 213 zy3:=hF3 zfN zu zl zn zP3 zPy
@[simp] abbrev zlg (t:List Slot)(n p:Int):Bool:=true
@[simp] abbrev zg4 (t:List Slot)(n p:Int):Bool:=zcw t n p
def zyG:Run:=rF3 (dS .slot) dI dI fun b c d=>(zlg b c d,[aB (zg4 b c d)])
def zDL (N:Nat)(a0:lS)(a1 a2:Int):OA:=
 (iter (σ:=(Int×(Int×(Int×(Int×(lS×Unit)))))) N (fun r4 s5=>let y1:=s5.2.2.2.2.1;let y0:=(ix y1 s5.2.2.2.1 zJ); (cond (ilt s5.2.2.2.1 s5.2.2.1) (oN (inb s5.2.2.2.1 (ln y1)) (oN (zxx y0 s5.2.1) (cond (nB (zsq y0 s5.2.1)) oF (r4 (s5.1,(s5.2.1,(s5.2.2.1,((zG .i64 s5.2.2.2.1 1),(y1,()))))))))) (some [(aB (ieq (ln y1) s5.1))]))) (a1,(a2,((ln a0),(0,(a0,()))))))
def zPY:FuncId->Nat->Option Tmpl:=zo [(166,0,{ n:=24,tm:=[(0,.sl 0 []),(1,ti),(2,ti),(9,.sl 0 []),(10,ti),(11,ti)],lo:=[],ro:=[(0,.slot,false)] })]
theorem zO7 (a0:List Slot)(a1 a2:Int)(hb:zbB big [aS .slot a0,aI a1,aI a2])(hc:zlg a0 a1 a2=true):∃N,zDL N a0 a1 a2=some [aB (zg4 a0 a1 a2)]:=by
 have hl:(_:List _).length<=big:=((zcU hb).1 _ (qF.2 rfl)).len;refine zbT fun N hNN=>?_;unfold zDL oN nB
 conv=>zeta
 refine (zba a0 (fun i (t:Unit)=>(a1,a2,(ln a0),(i:Int),a0,())) _ (fun _ x (_:Unit) κ=>bif (fun s=>zde s a2) x then κ () else oF) (fun (t:Unit)=>(some [(.one (.b (ieq (ln a0) a1)))])) (fun i hi t rec=>?_) (fun t rec=>?_) _ () (hNN hl)).trans ?_
 .simp only [zbh hi,zN hi,zZ hi,zU hi hl,cT];exact zid rfl
 .simp only [zbb,cF]
 rw[zgn (fun s=>zde s a2)];refine br (fun h0=>?_) (fun h0=>?_)
 .first|rfl|(simp only [h0,zg4,zcw,cT,cF]<;>rfl)|(simp_all [Ty.cells,zg4,zcw];done)
 .first|rfl|(simp only [h0,zg4,zcw,cT,cF]<;>rfl)|(simp_all [Ty.cells,zg4,zcw];done)
theorem zIw:vF 166 zyG:=hF3 zfN zu zl zn zPY zO7
def zb6 (c:List Int):Bool:=bif c.all (fun x=>win x 0 99) then ieq (ln c) 4 else false
@[simp] abbrev zfp (c:List Int):Bool:=true
@[simp] abbrev zeS (c:List Int):Bool:=zb6 c
def zBI:Run:=rF1 (dS .int) fun b=>(zfp b,[aB (zeS b)])
def zHC (N:Nat)(a0:List Int):OA:=
 (iter (σ:=(Int×((List Int)×Unit))) N (fun r2 s3=>(cond (ilt s3.1 (ln s3.2.1)) (oN (inb s3.1 (ln s3.2.1)) (oN (zI (ix s3.2.1 s3.1 0) 0 99) (cond (nB (zK (ix s3.2.1 s3.1 0) 0 99)) oF (r2 ((zG .i64 s3.1 1),(s3.2.1,())))))) (some [(aB (ieq (ln s3.2.1) 4))]))) (0,(a0,())))
def zTB:FuncId->Nat->Option Tmpl:=zo [(212,0,{ n:=19,tm:=[(0,.sl 0 []),(3,ti)],lo:=[],ro:=[(0,.int,false)] })]
theorem zR6 (a0:List Int)(hb:zbB big [aS .int a0])(hc:zfp a0=true):∃N,zHC N a0=some [aB (zeS a0)]:=by
 have hl:(_:List _).length<=big:=((zcU hb).1 _ (qF.2 rfl)).len;refine zbT fun N hNN=>?_;unfold zHC oN nB;refine (zba a0 (fun i (t:Unit)=>((i:Int),a0,())) _ (fun _ x (_:Unit) κ=>bif (fun x=>win x 0 99) x then κ () else oF) (fun (t:Unit)=>(some [(.one (.b (ieq (ln a0) 4)))])) (fun i hi t rec=>?_) (fun t rec=>?_) _ () (hNN hl)).trans ?_
 .simp only [zbh hi,zN hi,zZ hi,zU hi hl,cT];exact zid rfl
 .simp only [zbb,cF]
 rw[zgn (fun x=>win x 0 99)];refine br (fun h0=>?_) (fun h0=>?_)
 .first|rfl|(simp only [h0,zeS,zb6,cT,cF]<;>rfl)|(simp_all [Ty.cells,zeS,zb6];done)
 .first|rfl|(simp only [h0,zeS,zb6,cT,cF]<;>rfl)|(simp_all [Ty.cells,zeS,zb6];done)
theorem zLq:vF 212 zBI:=hF1 zfN zu zl zn zTB zR6
@[simp] abbrev zg3 (c:List Int):Bool:=true
@[simp] abbrev zfO (c:List Int):Bool:=zb6 c
def zBn:Run:=rF1 (dS .int) fun b=>(zg3 b,[aB (zfO b)])
def zHh (N:Nat)(a0:List Int):OA:=
 (iter (σ:=(Int×(Int×((List Int)×Unit)))) N (fun r2 s3=>(cond (ilt s3.2.1 s3.1) (oN (inb s3.2.1 (ln s3.2.2.1)) (oN (zb7 (ix s3.2.2.1 s3.2.1 0) 0 99) (cond (nB (zcp (ix s3.2.2.1 s3.2.1 0) 0 99)) oF (r2 (s3.1,((zG .i64 s3.2.1 1),(s3.2.2.1,()))))))) (some [(aB (ieq (ln s3.2.2.1) 4))]))) ((ln a0),(0,(a0,()))))
def zTt:FuncId->Nat->Option Tmpl:=zo [(165,0,{ n:=18,tm:=[(0,.sl 0 []),(5,.sl 0 []),(6,ti),(7,ti)],lo:=[],ro:=[(0,.int,false)] })]
theorem zRJ (a0:List Int)(hb:zbB big [aS .int a0])(hc:zg3 a0=true):∃N,zHh N a0=some [aB (zfO a0)]:=by
 have hl:(_:List _).length<=big:=((zcU hb).1 _ (qF.2 rfl)).len;refine zbT fun N hNN=>?_;unfold zHh oN nB;refine (zba a0 (fun i (t:Unit)=>((ln a0),(i:Int),a0,())) _ (fun _ x (_:Unit) κ=>bif (fun x=>win x 0 99) x then κ () else oF) (fun (t:Unit)=>(some [(.one (.b (ieq (ln a0) 4)))])) (fun i hi t rec=>?_) (fun t rec=>?_) _ () (hNN hl)).trans ?_
 .simp only [zbh hi,zN hi,zZ hi,zU hi hl,cT];exact zid rfl
 .simp only [zbb,cF]
 rw[zgn (fun x=>win x 0 99)];refine br (fun h0=>?_) (fun h0=>?_)
 .first|rfl|(simp only [h0,zfO,zb6,cT,cF]<;>rfl)|(simp_all [Ty.cells,zfO,zb6];done)
 .first|rfl|(simp only [h0,zfO,zb6,cT,cF]<;>rfl)|(simp_all [Ty.cells,zfO,zb6];done)
theorem zK5:vF 165 zBn:=hF1 zfN zu zl zn zTt zRJ
def zds (i:Ins):Bool:=bif (ieq i.Op 1||ieq i.Op 2||ieq i.Op 5||ieq i.Op 6) then win i.X 0 99 else (cond (ieq i.Op 3||ieq i.Op 4) (win i.X 0 15) (cond (ieq i.Op 7) (ieq i.X 0) (cond (ieq i.Op 8) (win i.X 0 11) false)))
@[simp] abbrev zB4 (i:Ins):Bool:=true
@[simp] abbrev zwN (i:Ins):Bool:=zds i
def zET:Run:=rF1 (dT .ins) fun b=>(zB4 b,[aB (zwN b)])
def zNp (N:Nat)(a0:Ins):OA:=
 let y10:=(ieq a0.Op 4);let y9:=(zI a0.X 0 99);let y8:=(aB (zK a0.X 0 99));let y7:=(ieq a0.Op 8);let y6:=(ieq a0.Op 7);let y5:=(ieq a0.Op 3);let y4:=(zI a0.X 0 11);let y3:=(zI a0.X 0 15);let y2:=(aB (ieq a0.X 0));let y1:=(aB (zK a0.X 0 11));let y0:=(aB (zK a0.X 0 15)); (cond (ieq a0.Op 1) (cond (ieq a0.Op 1) (oN y9 (some [y8])) (cond y5 (cond y5 (oN y3 (some [y0])) (cond y6 (some [y2]) (cond y7 (oN y4 (some [y1])) oF))) (cond y10 (oN y3 (some [y0])) (cond y6 (some [y2]) (cond y7 (oN y4 (some [y1])) oF))))) (cond (ieq a0.Op 2) (cond (ieq a0.Op 2) (oN y9 (some [y8])) (cond y5 (cond y5 (oN y3 (some [y0])) (cond y6 (some [y2]) (cond y7 (oN y4 (some [y1])) oF))) (cond y10 (oN y3 (some [y0])) (cond y6 (some [y2]) (cond y7 (oN y4 (some [y1])) oF))))) (cond (ieq a0.Op 5) (cond (ieq a0.Op 5) (oN y9 (some [y8])) (cond y5 (cond y5 (oN y3 (some [y0])) (cond y6 (some [y2]) (cond y7 (oN y4 (some [y1])) oF))) (cond y10 (oN y3 (some [y0])) (cond y6 (some [y2]) (cond y7 (oN y4 (some [y1])) oF))))) (cond (ieq a0.Op 6) (oN y9 (some [y8])) (cond y5 (cond y5 (oN y3 (some [y0])) (cond y6 (some [y2]) (cond y7 (oN y4 (some [y1])) oF))) (cond y10 (oN y3 (some [y0])) (cond y6 (some [y2]) (cond y7 (oN y4 (some [y1])) oF))))))))
theorem zUq (a0:Ins)(hc:zB4 a0=true):∃N,zNp N a0=some [aB (zwN a0)]:=by
 refine ⟨0,?_⟩;unfold zNp oN
 conv=>zeta
 refine br (fun _=>br (fun _=>must rfl ?_) (fun _=>br (fun _=>br (fun _=>must rfl ?_) (fun _=>br (fun _=>?_) (fun _=>br (fun _=>must rfl ?_) (fun _=>?_)))) (fun _=>br (fun _=>must rfl ?_) (fun _=>br (fun _=>?_) (fun _=>br (fun _=>must rfl ?_) (fun _=>?_)))))) (fun _=>br (fun _=>br (fun _=>must rfl ?_) (fun _=>br (fun _=>br (fun _=>must rfl ?_) (fun _=>br (fun _=>?_) (fun _=>br (fun _=>must rfl ?_) (fun _=>?_)))) (fun _=>br (fun _=>must rfl ?_) (fun _=>br (fun _=>?_) (fun _=>br (fun _=>must rfl ?_) (fun _=>?_)))))) (fun _=>br (fun _=>br (fun _=>must rfl ?_) (fun _=>br (fun _=>br (fun _=>must rfl ?_) (fun _=>br (fun _=>?_) (fun _=>br (fun _=>must rfl ?_) (fun _=>?_)))) (fun _=>br (fun _=>must rfl ?_) (fun _=>br (fun _=>?_) (fun _=>br (fun _=>must rfl ?_) (fun _=>?_)))))) (fun _=>br (fun _=>must rfl ?_) (fun _=>br (fun _=>br (fun _=>must rfl ?_) (fun _=>br (fun _=>?_) (fun _=>br (fun _=>must rfl ?_) (fun _=>?_)))) (fun _=>br (fun _=>must rfl ?_) (fun _=>br (fun _=>?_) (fun _=>br (fun _=>must rfl ?_) (fun _=>?_))))))))
 all_goals first|rfl|(simp only [*,zwN,zds,cT,cF]<;>rfl)|simp_all[Ty.cells,zwN,zds]
theorem zOS:vF 314 zET:=kF1 zfN zu zl zn (zo []) zUq
@[simp] abbrev zAP (i:Ins):Bool:=true
@[simp] abbrev zvX (i:Ins):Bool:=zds i
def zEL:Run:=rF1 (dT .ins) fun b=>(zAP b,[aB (zvX b)])
def zNg (N:Nat)(a0:Ins):OA:=
 let y10:=(ieq a0.Op 4);let y9:=(zb7 a0.X 0 99);let y8:=(aB (zcp a0.X 0 99));let y7:=(ieq a0.Op 8);let y6:=(ieq a0.Op 7);let y5:=(ieq a0.Op 3);let y4:=(zb7 a0.X 0 11);let y3:=(zb7 a0.X 0 15);let y2:=(aB (ieq a0.X 0));let y1:=(aB (zcp a0.X 0 11));let y0:=(aB (zcp a0.X 0 15)); (cond (ieq a0.Op 1) (cond (ieq a0.Op 1) (oN y9 (some [y8])) (cond y5 (cond y5 (oN y3 (some [y0])) (cond y6 (some [y2]) (cond y7 (oN y4 (some [y1])) oF))) (cond y10 (oN y3 (some [y0])) (cond y6 (some [y2]) (cond y7 (oN y4 (some [y1])) oF))))) (cond (ieq a0.Op 2) (cond (ieq a0.Op 2) (oN y9 (some [y8])) (cond y5 (cond y5 (oN y3 (some [y0])) (cond y6 (some [y2]) (cond y7 (oN y4 (some [y1])) oF))) (cond y10 (oN y3 (some [y0])) (cond y6 (some [y2]) (cond y7 (oN y4 (some [y1])) oF))))) (cond (ieq a0.Op 5) (cond (ieq a0.Op 5) (oN y9 (some [y8])) (cond y5 (cond y5 (oN y3 (some [y0])) (cond y6 (some [y2]) (cond y7 (oN y4 (some [y1])) oF))) (cond y10 (oN y3 (some [y0])) (cond y6 (some [y2]) (cond y7 (oN y4 (some [y1])) oF))))) (cond (ieq a0.Op 6) (oN y9 (some [y8])) (cond y5 (cond y5 (oN y3 (some [y0])) (cond y6 (some [y2]) (cond y7 (oN y4 (some [y1])) oF))) (cond y10 (oN y3 (some [y0])) (cond y6 (some [y2]) (cond y7 (oN y4 (some [y1])) oF))))))))
theorem zUg (a0:Ins)(hc:zAP a0=true):∃N,zNg N a0=some [aB (zvX a0)]:=by
 refine ⟨0,?_⟩;unfold zNg oN
 conv=>zeta
 refine br (fun _=>br (fun _=>must rfl ?_) (fun _=>br (fun _=>br (fun _=>must rfl ?_) (fun _=>br (fun _=>?_) (fun _=>br (fun _=>must rfl ?_) (fun _=>?_)))) (fun _=>br (fun _=>must rfl ?_) (fun _=>br (fun _=>?_) (fun _=>br (fun _=>must rfl ?_) (fun _=>?_)))))) (fun _=>br (fun _=>br (fun _=>must rfl ?_) (fun _=>br (fun _=>br (fun _=>must rfl ?_) (fun _=>br (fun _=>?_) (fun _=>br (fun _=>must rfl ?_) (fun _=>?_)))) (fun _=>br (fun _=>must rfl ?_) (fun _=>br (fun _=>?_) (fun _=>br (fun _=>must rfl ?_) (fun _=>?_)))))) (fun _=>br (fun _=>br (fun _=>must rfl ?_) (fun _=>br (fun _=>br (fun _=>must rfl ?_) (fun _=>br (fun _=>?_) (fun _=>br (fun _=>must rfl ?_) (fun _=>?_)))) (fun _=>br (fun _=>must rfl ?_) (fun _=>br (fun _=>?_) (fun _=>br (fun _=>must rfl ?_) (fun _=>?_)))))) (fun _=>br (fun _=>must rfl ?_) (fun _=>br (fun _=>br (fun _=>must rfl ?_) (fun _=>br (fun _=>?_) (fun _=>br (fun _=>must rfl ?_) (fun _=>?_)))) (fun _=>br (fun _=>must rfl ?_) (fun _=>br (fun _=>?_) (fun _=>br (fun _=>must rfl ?_) (fun _=>?_))))))))
 all_goals first|rfl|(simp only [*,zvX,zds,cT,cF]<;>rfl)|simp_all[Ty.cells,zvX,zds]
theorem zOJ:vF 281 zEL:=kF1 zfN zu zl zn (zo []) zUg
def zgy (e:GExit):Bool:=bif (ieq e.Kind 0||ieq e.Kind 4) then (ieq e.Page 0&&(!e.Write&&ieq e.N 0)) else (cond (ieq e.Kind 1) (win e.Page 0 3&&ieq e.N 0) (cond (ieq e.Kind 2||ieq e.Kind 3) (win e.N 0 99&&(ieq e.Page 0 && !e.Write)) false))
@[simp] theorem z7D (x:Bool):zif x false = !x:=by cases x<;>rfl
attribute [simp] zcC
@[simp] abbrev zxQ (e:GExit):Bool:=true
@[simp] abbrev zsQ (e:GExit):Bool:=zgy e
def zBy:Run:=rF1 dE fun b=>(zxQ b,[aB (zsQ b)])
def zHs (N:Nat)(a0:GExit):OA:=
 let y5:=(zK a0.N 0 99);let y4:=(zI a0.N 0 99);let y3:=(ieq a0.Kind 2);let y2:=(ieq a0.Page 0);let y1:=(aB (nB a0.Write));let y0:=(aB (cond (ieq a0.Kind a0.Kind) (cond y2 (cond (zif a0.Write false) (ieq a0.N 0) false) false) false)); (cond (ieq a0.Kind 0) (cond (ieq a0.Kind 0) (some [y0]) (cond (ieq a0.Kind 1) (oN (zI a0.Page 0 3) (cond (zK a0.Page 0 3) (some [(aB (ieq a0.N 0))]) oF)) (cond y3 (cond y3 (oN y4 (cond y5 (cond y2 (some [y1]) oF) oF)) oF) (cond (ieq a0.Kind 3) (oN y4 (cond y5 (cond y2 (some [y1]) oF) oF)) oF)))) (cond (ieq a0.Kind 4) (some [y0]) (cond (ieq a0.Kind 1) (oN (zI a0.Page 0 3) (cond (zK a0.Page 0 3) (some [(aB (ieq a0.N 0))]) oF)) (cond y3 (cond y3 (oN y4 (cond y5 (cond y2 (some [y1]) oF) oF)) oF) (cond (ieq a0.Kind 3) (oN y4 (cond y5 (cond y2 (some [y1]) oF) oF)) oF)))))
theorem zRU (a0:GExit)(hc:zxQ a0=true):∃N,zHs N a0=some [aB (zsQ a0)]:=by
 refine ⟨0,?_⟩;unfold zHs oN nB
 conv=>zeta
 refine br (fun _=>br (fun _=>?_) (fun _=>br (fun _=>must rfl (br (fun _=>?_) (fun _=>?_))) (fun _=>br (fun _=>br (fun _=>must rfl (br (fun _=>br (fun _=>?_) (fun _=>?_)) (fun _=>?_))) (fun _=>?_)) (fun _=>br (fun _=>must rfl (br (fun _=>br (fun _=>?_) (fun _=>?_)) (fun _=>?_))) (fun _=>?_))))) (fun _=>br (fun _=>?_) (fun _=>br (fun _=>must rfl (br (fun _=>?_) (fun _=>?_))) (fun _=>br (fun _=>br (fun _=>must rfl (br (fun _=>br (fun _=>?_) (fun _=>?_)) (fun _=>?_))) (fun _=>?_)) (fun _=>br (fun _=>must rfl (br (fun _=>br (fun _=>?_) (fun _=>?_)) (fun _=>?_))) (fun _=>?_)))))
 all_goals first|rfl|(simp only [*,zsQ,zgy,cT,cF]<;>rfl)|simp_all[Ty.cells,zsQ,zgy]
theorem zLg:vF 279 zBy:=kF1 zfN zu zl zn (zo []) zRU
@[simp] abbrev zxu (e:GExit):Bool:=true
@[simp] abbrev zso (e:GExit):Bool:=zgy e
def zBg:Run:=rF1 dE fun b=>(zxu b,[aB (zso b)])
def zHb (N:Nat)(a0:GExit):OA:=
 let y5:=(zcp a0.N 0 99);let y4:=(zb7 a0.N 0 99);let y3:=(ieq a0.Kind 2);let y2:=(aB (ieq a0.N 0));let y1:=(ieq a0.Page 0);let y0:=(aB (nB a0.Write)); (cond (ieq a0.Kind 0) (cond (ieq a0.Kind 0) (cond y1 (cond (nB a0.Write) (some [y2]) oF) oF) (cond (ieq a0.Kind 1) (oN (zb7 a0.Page 0 3) (cond (zcp a0.Page 0 3) (some [y2]) oF)) (cond y3 (cond y3 (oN y4 (cond y5 (cond y1 (some [y0]) oF) oF)) oF) (cond (ieq a0.Kind 3) (oN y4 (cond y5 (cond y1 (some [y0]) oF) oF)) oF)))) (cond (ieq a0.Kind 4) (cond y1 (cond (nB a0.Write) (some [y2]) oF) oF) (cond (ieq a0.Kind 1) (oN (zb7 a0.Page 0 3) (cond (zcp a0.Page 0 3) (some [y2]) oF)) (cond y3 (cond y3 (oN y4 (cond y5 (cond y1 (some [y0]) oF) oF)) oF) (cond (ieq a0.Kind 3) (oN y4 (cond y5 (cond y1 (some [y0]) oF) oF)) oF)))))
theorem zRC (a0:GExit)(hc:zxu a0=true):∃N,zHb N a0=some [aB (zso a0)]:=by
 refine ⟨0,?_⟩;unfold zHb oN nB
 conv=>zeta
 refine br (fun _=>br (fun _=>br (fun _=>brN (fun _=>?_) (fun _=>?_)) (fun _=>?_)) (fun _=>br (fun _=>must rfl (br (fun _=>?_) (fun _=>?_))) (fun _=>br (fun _=>br (fun _=>must rfl (br (fun _=>br (fun _=>?_) (fun _=>?_)) (fun _=>?_))) (fun _=>?_)) (fun _=>br (fun _=>must rfl (br (fun _=>br (fun _=>?_) (fun _=>?_)) (fun _=>?_))) (fun _=>?_))))) (fun _=>br (fun _=>br (fun _=>brN (fun _=>?_) (fun _=>?_)) (fun _=>?_)) (fun _=>br (fun _=>must rfl (br (fun _=>?_) (fun _=>?_))) (fun _=>br (fun _=>br (fun _=>must rfl (br (fun _=>br (fun _=>?_) (fun _=>?_)) (fun _=>?_))) (fun _=>?_)) (fun _=>br (fun _=>must rfl (br (fun _=>br (fun _=>?_) (fun _=>?_)) (fun _=>?_))) (fun _=>?_)))))
 all_goals first|rfl|(simp only [*,zso,zgy,cT,cF]<;>rfl)|simp_all[Ty.cells,zso,zgy]
theorem zKX:vF 226 zBg:=kF1 zfN zu zl zn (zo []) zRC
def zjy (c:Ctl):List Int:=(cond (win c.Traps 0 3) [] [1])++((cond (win c.Post 0 255) [] [2])++((cond (ine c.Post 0) (cond c.Open [] [3]) [])++(cond (ieq c.Traps 2) (cond (ine c.Post 0) [4] []) [])))
@[simp] theorem z7A {α:Type}(x:α)(l m:List α):ap (x :: l) m=x :: ap l m:=rfl
@[simp] abbrev zq0 (c:Ctl):Bool:=true
@[simp] abbrev zls (c:Ctl):List Int:=zjy c
def zt4:Run:=rF1 dC fun b=>(zq0 b,[aS .int (zls b)])
def zyq (N:Nat)(a0:Ctl):OA:=
 let y10:=(aS .int []);let y8:=(ap (ap [] [2]) [4]);let y7:=(ap (ap [] [1]) [4]);let y6:=(aS .int (ap [] [2]));let y5:=(aS .int (ap [] [1]));let y4:=(ap (ap [] [2]) [3]);let y3:=(ap (ap [] [1]) [3]);let y2:=(ieq a0.Traps 2);let y1:=(ine a0.Post 0);let y0:=(ap (ap [] [1]) [2]);let y9:=(aS .int y0); (oN (zI a0.Traps 0 3) (cond (nB (zK a0.Traps 0 3)) (oN (few (ln (ap [] [1]))) (oN (zI a0.Post 0 255) (cond (nB (zK a0.Post 0 255)) (oN (few (ln y0)) (cond y1 (cond (nB a0.Open) (oN (few (ln (ap y0 [3]))) (cond y2 (cond y1 (oN (few (ln (ap (ap y0 [3]) [4]))) (some [(aS .int (ap (ap y0 [3]) [4]))])) (some [(aS .int (ap y0 [3]))])) (some [(aS .int (ap y0 [3]))]))) (cond y2 (cond y1 (oN (few (ln (ap y0 [4]))) (some [(aS .int (ap y0 [4]))])) (some [y9])) (some [y9]))) (cond y2 (cond y1 (oN (few (ln (ap y0 [4]))) (some [(aS .int (ap y0 [4]))])) (some [y9])) (some [y9])))) (cond y1 (cond (nB a0.Open) (oN (few (ln y3)) (cond y2 (cond y1 (oN (few (ln (ap y3 [4]))) (some [(aS .int (ap y3 [4]))])) (some [(aS .int y3)])) (some [(aS .int y3)]))) (cond y2 (cond y1 (oN (few (ln y7)) (some [(aS .int y7)])) (some [y5])) (some [y5]))) (cond y2 (cond y1 (oN (few (ln y7)) (some [(aS .int y7)])) (some [y5])) (some [y5])))))) (oN (zI a0.Post 0 255) (cond (nB (zK a0.Post 0 255)) (oN (few (ln (ap [] [2]))) (cond y1 (cond (nB a0.Open) (oN (few (ln y4)) (cond y2 (cond y1 (oN (few (ln (ap y4 [4]))) (some [(aS .int (ap y4 [4]))])) (some [(aS .int y4)])) (some [(aS .int y4)]))) (cond y2 (cond y1 (oN (few (ln y8)) (some [(aS .int y8)])) (some [y6])) (some [y6]))) (cond y2 (cond y1 (oN (few (ln y8)) (some [(aS .int y8)])) (some [y6])) (some [y6])))) (cond y1 (cond (nB a0.Open) (oN (few (ln (ap [] [3]))) (cond y2 (cond y1 (oN (few (ln (ap (ap [] [3]) [4]))) (some [(aS .int (ap (ap [] [3]) [4]))])) (some [(aS .int (ap [] [3]))])) (some [(aS .int (ap [] [3]))]))) (cond y2 (cond y1 (oN (few (ln (ap [] [4]))) (some [(aS .int (ap [] [4]))])) (some [y10])) (some [y10]))) (cond y2 (cond y1 (oN (few (ln (ap [] [4]))) (some [(aS .int (ap [] [4]))])) (some [y10])) (some [y10])))))))
theorem zJt (a0:Ctl)(hc:zq0 a0=true):∃N,zyq N a0=some [aS .int (zls a0)]:=by
 refine ⟨0,?_⟩;unfold zyq oN nB
 conv=>zeta
 refine must rfl (brN (fun _=>mu (must rfl (brN (fun _=>mu (br (fun _=>brN (fun _=>mu (br (fun _=>br (fun _=>mu ?_) (fun _=>?_)) (fun _=>?_))) (fun _=>br (fun _=>br (fun _=>mu ?_) (fun _=>?_)) (fun _=>?_))) (fun _=>br (fun _=>br (fun _=>mu ?_) (fun _=>?_)) (fun _=>?_)))) (fun _=>br (fun _=>brN (fun _=>mu (br (fun _=>br (fun _=>mu ?_) (fun _=>?_)) (fun _=>?_))) (fun _=>br (fun _=>br (fun _=>mu ?_) (fun _=>?_)) (fun _=>?_))) (fun _=>br (fun _=>br (fun _=>mu ?_) (fun _=>?_)) (fun _=>?_)))))) (fun _=>must rfl (brN (fun _=>mu (br (fun _=>brN (fun _=>mu (br (fun _=>br (fun _=>mu ?_) (fun _=>?_)) (fun _=>?_))) (fun _=>br (fun _=>br (fun _=>mu ?_) (fun _=>?_)) (fun _=>?_))) (fun _=>br (fun _=>br (fun _=>mu ?_) (fun _=>?_)) (fun _=>?_)))) (fun _=>br (fun _=>brN (fun _=>mu (br (fun _=>br (fun _=>mu ?_) (fun _=>?_)) (fun _=>?_))) (fun _=>br (fun _=>br (fun _=>mu ?_) (fun _=>?_)) (fun _=>?_))) (fun _=>br (fun _=>br (fun _=>mu ?_) (fun _=>?_)) (fun _=>?_))))))
 all_goals first|rfl|(simp only [*,zls,zjy,cT,cF]<;>rfl)|simp_all[Ty.cells,zls,zjy]
theorem zC3:vF 315 zt4:=kF1 zfN zu zl zn (zo []) zJt
@[simp] abbrev zqD (c:Ctl):Bool:=true
@[simp] abbrev zlf (c:Ctl):List Int:=zjy c
def ztT:Run:=rF1 dC fun b=>(zqD b,[aS .int (zlf b)])
def zye (N:Nat)(a0:Ctl):OA:=
 let y10:=(aS .int []);let y8:=(ap (ap [] [2]) [4]);let y7:=(ap (ap [] [1]) [4]);let y6:=(aS .int (ap [] [2]));let y5:=(aS .int (ap [] [1]));let y4:=(ap (ap [] [2]) [3]);let y3:=(ap (ap [] [1]) [3]);let y2:=(ieq a0.Traps 2);let y1:=(ine a0.Post 0);let y0:=(ap (ap [] [1]) [2]);let y9:=(aS .int y0); (oN (zb7 a0.Traps 0 3) (cond (nB (zcp a0.Traps 0 3)) (oN (few (ln (ap [] [1]))) (oN (zb7 a0.Post 0 255) (cond (nB (zcp a0.Post 0 255)) (oN (few (ln y0)) (cond y1 (cond (nB a0.Open) (oN (few (ln (ap y0 [3]))) (cond y2 (cond y1 (oN (few (ln (ap (ap y0 [3]) [4]))) (some [(aS .int (ap (ap y0 [3]) [4]))])) (some [(aS .int (ap y0 [3]))])) (some [(aS .int (ap y0 [3]))]))) (cond y2 (cond y1 (oN (few (ln (ap y0 [4]))) (some [(aS .int (ap y0 [4]))])) (some [y9])) (some [y9]))) (cond y2 (cond y1 (oN (few (ln (ap y0 [4]))) (some [(aS .int (ap y0 [4]))])) (some [y9])) (some [y9])))) (cond y1 (cond (nB a0.Open) (oN (few (ln y3)) (cond y2 (cond y1 (oN (few (ln (ap y3 [4]))) (some [(aS .int (ap y3 [4]))])) (some [(aS .int y3)])) (some [(aS .int y3)]))) (cond y2 (cond y1 (oN (few (ln y7)) (some [(aS .int y7)])) (some [y5])) (some [y5]))) (cond y2 (cond y1 (oN (few (ln y7)) (some [(aS .int y7)])) (some [y5])) (some [y5])))))) (oN (zb7 a0.Post 0 255) (cond (nB (zcp a0.Post 0 255)) (oN (few (ln (ap [] [2]))) (cond y1 (cond (nB a0.Open) (oN (few (ln y4)) (cond y2 (cond y1 (oN (few (ln (ap y4 [4]))) (some [(aS .int (ap y4 [4]))])) (some [(aS .int y4)])) (some [(aS .int y4)]))) (cond y2 (cond y1 (oN (few (ln y8)) (some [(aS .int y8)])) (some [y6])) (some [y6]))) (cond y2 (cond y1 (oN (few (ln y8)) (some [(aS .int y8)])) (some [y6])) (some [y6])))) (cond y1 (cond (nB a0.Open) (oN (few (ln (ap [] [3]))) (cond y2 (cond y1 (oN (few (ln (ap (ap [] [3]) [4]))) (some [(aS .int (ap (ap [] [3]) [4]))])) (some [(aS .int (ap [] [3]))])) (some [(aS .int (ap [] [3]))]))) (cond y2 (cond y1 (oN (few (ln (ap [] [4]))) (some [(aS .int (ap [] [4]))])) (some [y10])) (some [y10]))) (cond y2 (cond y1 (oN (few (ln (ap [] [4]))) (some [(aS .int (ap [] [4]))])) (some [y10])) (some [y10])))))))
theorem zJg (a0:Ctl)(hc:zqD a0=true):∃N,zye N a0=some [aS .int (zlf a0)]:=by
 refine ⟨0,?_⟩;unfold zye oN nB
 conv=>zeta
 refine must rfl (brN (fun _=>mu (must rfl (brN (fun _=>mu (br (fun _=>brN (fun _=>mu (br (fun _=>br (fun _=>mu ?_) (fun _=>?_)) (fun _=>?_))) (fun _=>br (fun _=>br (fun _=>mu ?_) (fun _=>?_)) (fun _=>?_))) (fun _=>br (fun _=>br (fun _=>mu ?_) (fun _=>?_)) (fun _=>?_)))) (fun _=>br (fun _=>brN (fun _=>mu (br (fun _=>br (fun _=>mu ?_) (fun _=>?_)) (fun _=>?_))) (fun _=>br (fun _=>br (fun _=>mu ?_) (fun _=>?_)) (fun _=>?_))) (fun _=>br (fun _=>br (fun _=>mu ?_) (fun _=>?_)) (fun _=>?_)))))) (fun _=>must rfl (brN (fun _=>mu (br (fun _=>brN (fun _=>mu (br (fun _=>br (fun _=>mu ?_) (fun _=>?_)) (fun _=>?_))) (fun _=>br (fun _=>br (fun _=>mu ?_) (fun _=>?_)) (fun _=>?_))) (fun _=>br (fun _=>br (fun _=>mu ?_) (fun _=>?_)) (fun _=>?_)))) (fun _=>br (fun _=>brN (fun _=>mu (br (fun _=>br (fun _=>mu ?_) (fun _=>?_)) (fun _=>?_))) (fun _=>br (fun _=>br (fun _=>mu ?_) (fun _=>?_)) (fun _=>?_))) (fun _=>br (fun _=>br (fun _=>mu ?_) (fun _=>?_)) (fun _=>?_))))))
 all_goals first|rfl|(simp only [*,zlf,zjy,cT,cF]<;>rfl)|simp_all[Ty.cells,zlf,zjy]
theorem zCS:vF 282 ztT:=kF1 zfN zu zl zn (zo []) zJg
def zfX (p n:Int):Bool:=ieq (wand .i64 (zCk .i64 p n) 1) 1
def scan (p:Int):Int:=bif zfX p 7 then 7 else (cond (zfX p 6) 6 (cond (zfX p 5) 5 (cond (zfX p 4) 4 (cond (zfX p 3) 3 (cond (zfX p 2) 2 (cond (zfX p 1) 1 (cond (zfX p 0) 0 (-1))))))))
theorem z1S:∀n:Fin 256,-1<=scan (n.val:Int)/\scan (n.val:Int)<=7/\(0<=scan (n.val:Int)->wsub .i64 (n.val:Int) (zn5 .i64 1 (scan (n.val:Int)))=zKG .i64 (n.val:Int) (zn5 .i64 1 (scan (n.val:Int)))):=by decide +kernel
theorem zZF {P:Int->Prop}(h:∀n:Fin 256,P (n.val:Int)){x:Int}(h0:0<=x)(h1:x<=255):P x:=by
 have:=h ⟨x.toNat,by omega⟩
 have e:((x.toNat:Nat):Int)=x:=by omega
 simpa [e] using this
def z3e:zO:=[(273,zBw),(213,zy3),(166,zyG),(212,zBI),(165,zBn),(314,zET),(281,zEL),(279,zBy),(226,zBg),(315,zt4),(282,ztT)]++z3d
theorem zgw:zF z3e:=zh zLe (zh zIT (zh zIw (zh zLq (zh zK5 (zh zOS (zh zOJ (zh zLg (zh zKX (zh zC3 (zh zCS zfN))))))))))
def zgL (m:List (List Int))(n:Int):Bool:=bif m.all zb6 then ieq (ln m) n else false
@[simp] abbrev zqm (m:List (List Int))(n:Int):Bool:=true
@[simp] abbrev zkR (m:List (List Int))(n:Int):Bool:=zgL m n
def zEU:Run:=rF2 (dS (.sl .int)) dI fun b c=>(zqm b c,[aB (zkR b c)])
def zNq (N:Nat)(a0:lM)(a1:Int):OA:=
 (iter (σ:=(Int×(Int×(lM×Unit)))) N (fun r3 s4=>let y0:=s4.2.2.1; (cond (ilt s4.2.1 (ln y0)) (oN (inb s4.2.1 (ln y0)) (oN (zfp (ix y0 s4.2.1 [])) (cond (nB (zeS (ix y0 s4.2.1 []))) oF (r3 (s4.1,((zG .i64 s4.2.1 1),(y0,()))))))) (some [(aB (ieq (ln y0) s4.1))]))) (a1,(0,(a0,()))))
def zVd:FuncId->Nat->Option Tmpl:=zo [(155,0,{ n:=22,tm:=[(0,.sl 0 []),(1,ti),(5,ti)],lo:=[],ro:=[(0,(.sl .int),false)] })]
theorem zUr (a0:List (List Int))(a1:Int)(hb:zbB big [aS (.sl .int) a0,aI a1])(hc:zqm a0 a1=true):∃N,zNq N a0 a1=some [aB (zkR a0 a1)]:=by
 have hl:(_:List _).length<=big:=((zcU hb).1 _ (qF.2 rfl)).len;refine zbT fun N hNN=>?_;unfold zNq oN nB
 conv=>zeta
 refine (zba a0 (fun i (t:Unit)=>(a1,(i:Int),a0,())) _ (fun _ x (_:Unit) κ=>bif (zb6) x then κ () else oF) (fun (t:Unit)=>(some [(.one (.b (ieq (ln a0) a1)))])) (fun i hi t rec=>?_) (fun t rec=>?_) _ () (hNN hl)).trans ?_
 .simp only [zbh hi,zN hi,zZ hi,zU hi hl,cT];exact zid rfl
 .simp only [zbb,cF]
 rw[zgn (zb6)];refine br (fun h0=>?_) (fun h0=>?_)
 .first|rfl|(simp only [h0,zkR,zgL,cT,cF]<;>rfl)|(simp_all [Ty.cells,zkR,zgL];done)
 .first|rfl|(simp only [h0,zkR,zgL,cT,cF]<;>rfl)|(simp_all [Ty.cells,zkR,zgL];done)
theorem zOT:vF 155 zEU:=hF2 zgw zu zl zn zVd zUr
@[simp] abbrev zAQ (m:List (List Int))(n:Int):Bool:=true
@[simp] abbrev zoq (m:List (List Int))(n:Int):Bool:=zgL m n
def zEM:Run:=rF2 (dS (.sl .int)) dI fun b c=>(zAQ b c,[aB (zoq b c)])
def zNh (N:Nat)(a0:lM)(a1:Int):OA:=
 (iter (σ:=(Int×(Int×(Int×(lM×Unit))))) N (fun r3 s4=>let y0:=s4.2.2.2.1; (cond (ilt s4.2.2.1 s4.2.1) (oN (inb s4.2.2.1 (ln y0)) (oN (zg3 (ix y0 s4.2.2.1 [])) (cond (nB (zfO (ix y0 s4.2.2.1 []))) oF (r3 (s4.1,(s4.2.1,((zG .i64 s4.2.2.1 1),(y0,())))))))) (some [(aB (ieq (ln y0) s4.1))]))) (a1,((ln a0),(0,(a0,())))))
def zVa:FuncId->Nat->Option Tmpl:=zo [(106,0,{ n:=21,tm:=[(0,.sl 0 []),(1,ti),(7,.sl 0 []),(8,ti),(9,ti)],lo:=[],ro:=[(0,(.sl .int),false)] })]
theorem zUh (a0:List (List Int))(a1:Int)(hb:zbB big [aS (.sl .int) a0,aI a1])(hc:zAQ a0 a1=true):∃N,zNh N a0 a1=some [aB (zoq a0 a1)]:=by
 have hl:(_:List _).length<=big:=((zcU hb).1 _ (qF.2 rfl)).len;refine zbT fun N hNN=>?_;unfold zNh oN nB
 conv=>zeta
 refine (zba a0 (fun i (t:Unit)=>(a1,(ln a0),(i:Int),a0,())) _ (fun _ x (_:Unit) κ=>bif (zb6) x then κ () else oF) (fun (t:Unit)=>(some [(.one (.b (ieq (ln a0) a1)))])) (fun i hi t rec=>?_) (fun t rec=>?_) _ () (hNN hl)).trans ?_
 .simp only [zbh hi,zN hi,zZ hi,zU hi hl,cT];exact zid rfl
 .simp only [zbb,cF]
 rw[zgn (zb6)];refine br (fun h0=>?_) (fun h0=>?_)
 .first|rfl|(simp only [h0,zoq,zgL,cT,cF]<;>rfl)|(simp_all [Ty.cells,zoq,zgL];done)
 .first|rfl|(simp only [h0,zoq,zgL,cT,cF]<;>rfl)|(simp_all [Ty.cells,zoq,zgL];done)
theorem zOK:vF 106 zEM:=hF2 zgw zu zl zn zVa zUh
def zcP (p:List Ins):Bool:=bif p.all zds then win (ln p) 1 12 else false
@[simp] abbrev zxW (p:List Ins):Bool:=true
@[simp] abbrev zmg (p:List Ins):Bool:=zcP p
def zBK:Run:=rF1 (dS .ins) fun b=>(zxW b,[aB (zmg b)])
def zHE (N:Nat)(a0:lI):OA:=
 (iter (σ:=(Int×(lI×Unit))) N (fun r2 s3=>let y0:=(ix s3.2.1 s3.1 zn6); (cond (ilt s3.1 (ln s3.2.1)) (oN (inb s3.1 (ln s3.2.1)) (oN (zB4 y0) (cond (nB (zwN y0)) oF (r2 ((zG .i64 s3.1 1),(s3.2.1,())))))) (oN (zI (ln s3.2.1) 1 12) (some [(aB (zK (ln s3.2.1) 1 12))])))) (0,(a0,())))
def zTC:FuncId->Nat->Option Tmpl:=zo [(277,0,{ n:=19,tm:=[(0,.sl 0 []),(3,ti)],lo:=[],ro:=[(0,.ins,false)] })]
theorem zR8 (a0:List Ins)(hb:zbB big [aS .ins a0])(hc:zxW a0=true):∃N,zHE N a0=some [aB (zmg a0)]:=by
 have hl:(_:List _).length<=big:=((zcU hb).1 _ (qF.2 rfl)).len;refine zbT fun N hNN=>?_;unfold zHE oN nB
 conv=>zeta
 refine (zba a0 (fun i (t:Unit)=>((i:Int),a0,())) _ (fun _ x (_:Unit) κ=>bif (zds) x then κ () else oF) (fun (t:Unit)=>(cond (zI (ln a0) 1 12) (some [(.one (.b (zK (ln a0) 1 12)))]) none)) (fun i hi t rec=>?_) (fun t rec=>?_) _ () (hNN hl)).trans ?_
 .simp only [zbh hi,zN hi,zZ hi,zU hi hl,cT];exact zid rfl
 .simp only [zbb,cF]
 rw[zgn (zds)];refine br (fun h0=>?_) (fun h0=>?_)
 .refine must rfl ?_
  first|rfl|(simp only [h0,zmg,zcP,cT,cF]<;>rfl)|(simp_all [Ty.cells,zmg,zcP];done)
 .first|rfl|(simp only [h0,zmg,zcP,cT,cF]<;>rfl)|(simp_all [Ty.cells,zmg,zcP];done)
theorem zLs:vF 277 zBK:=hF1 zgw zu zl zn zTC zR8
@[simp] abbrev zxw (p:List Ins):Bool:=true
@[simp] abbrev zl5 (p:List Ins):Bool:=zcP p
def zBp:Run:=rF1 (dS .ins) fun b=>(zxw b,[aB (zl5 b)])
def zHj (N:Nat)(a0:lI):OA:=
 (iter (σ:=(Int×(Int×(lI×Unit)))) N (fun r2 s3=>let y0:=(ix s3.2.2.1 s3.2.1 zn6); (cond (ilt s3.2.1 s3.1) (oN (inb s3.2.1 (ln s3.2.2.1)) (oN (zAP y0) (cond (nB (zvX y0)) oF (r2 (s3.1,((zG .i64 s3.2.1 1),(s3.2.2.1,()))))))) (oN (zb7 (ln s3.2.2.1) 1 12) (some [(aB (zcp (ln s3.2.2.1) 1 12))])))) ((ln a0),(0,(a0,()))))
def zTu:FuncId->Nat->Option Tmpl:=zo [(224,0,{ n:=18,tm:=[(0,.sl 0 []),(5,.sl 0 []),(6,ti),(7,ti)],lo:=[],ro:=[(0,.ins,false)] })]
theorem zRL (a0:List Ins)(hb:zbB big [aS .ins a0])(hc:zxw a0=true):∃N,zHj N a0=some [aB (zl5 a0)]:=by
 have hl:(_:List _).length<=big:=((zcU hb).1 _ (qF.2 rfl)).len;refine zbT fun N hNN=>?_;unfold zHj oN nB
 conv=>zeta
 refine (zba a0 (fun i (t:Unit)=>((ln a0),(i:Int),a0,())) _ (fun _ x (_:Unit) κ=>bif (zds) x then κ () else oF) (fun (t:Unit)=>(cond (zb7 (ln a0) 1 12) (some [(.one (.b (zcp (ln a0) 1 12)))]) none)) (fun i hi t rec=>?_) (fun t rec=>?_) _ () (hNN hl)).trans ?_
 .simp only [zbh hi,zN hi,zZ hi,zU hi hl,cT];exact zid rfl
 .simp only [zbb,cF]
 rw[zgn (zds)];refine br (fun h0=>?_) (fun h0=>?_)
 .refine must rfl ?_
  first|rfl|(simp only [h0,zl5,zcP,cT,cF]<;>rfl)|(simp_all [Ty.cells,zl5,zcP];done)
 .first|rfl|(simp only [h0,zl5,zcP,cT,cF]<;>rfl)|(simp_all [Ty.cells,zl5,zcP];done)
theorem zK7:vF 224 zBp:=hF1 zgw zu zl zn zTu zRL
def zgK (c:Ctl):Bool:=ieq (ln (zjy c)) 0
@[simp] abbrev zqk (c:Ctl):Bool:=true
@[simp] abbrev zoQ (c:Ctl):Bool:=zgK c
def zEQ:Run:=rF1 dC fun b=>(zqk b,[aB (zoQ b)])
def zNm (N:Nat)(a0:Ctl):OA:=
 (oN (zq0 a0) (some [(aB (ieq (ln (zls a0)) 0))]))
theorem zUn (a0:Ctl)(hc:zqk a0=true):∃N,zNm N a0=some [aB (zoQ a0)]:=by
 refine ⟨0,?_⟩;unfold zNm oN;refine must rfl ?_
 first|rfl|(simp only [*,zoQ,zgK,cT,cF]<;>rfl)|simp_all[Ty.cells,zoQ,zgK]
theorem zOP:vF 278 zEQ:=kF1 zgw zu zl zn (zo []) zUn
@[simp] abbrev zAM (c:Ctl):Bool:=true
@[simp] abbrev zvW (c:Ctl):Bool:=zgK c
def zEJ:Run:=rF1 dC fun b=>(zAM b,[aB (zvW b)])
def zNe (N:Nat)(a0:Ctl):OA:=
 (oN (zqD a0) (some [(aB (ieq (ln (zlf a0)) 0))]))
theorem zUe (a0:Ctl)(hc:zAM a0=true):∃N,zNe N a0=some [aB (zvW a0)]:=by
 refine ⟨0,?_⟩;unfold zNe oN;refine must rfl ?_
 first|rfl|(simp only [*,zvW,zgK,cT,cF]<;>rfl)|simp_all[Ty.cells,zvW,zgK]
theorem zOH:vF 225 zEJ:=kF1 zgw zu zl zn (zo []) zUe
def zdq (p:Int):Int:=bif zcJ p then scan p else -1
theorem zWg {x:Int}(h0:0<=x)(h1:x<=255):wcv .u64 x=x:=zZF (P:=fun x=>wcv .u64 x=x) (by decide +kernel) h0 h1
@[simp] abbrev zrH (p:Int):Bool:=true
@[simp] abbrev zmi (p:Int):Int:=zdq p
def zBP:Run:=rF1 dI fun b=>(zrH b,[aI (zmi b)])
def zHJ (N:Nat)(a0:Int):OA:=
 (iter (σ:=(Int×(Int×Unit))) N (fun r2 s3=>(cond (ige s3.2.1 0) (oN (zeU s3.1) (cond (zeT s3.1) (oN (ile 0 (wcv .u64 s3.2.1)) (cond (ieq (wand .i64 (zCk .i64 s3.1 (wcv .u64 s3.2.1)) 1) 1) (some [(aI s3.2.1)]) (r2 (s3.1,((wsub .i64 s3.2.1 1),()))))) (some [(aI (-1))]))) (some [(aI (-1))]))) (a0,(7,())))
def zTE:FuncId->Nat->Option Tmpl:=zo [(317,0,{ n:=19,tm:=[(0,ti),(3,ti)],lo:=[],ro:=[] })]
theorem zSd (a0:Int)(hc:zrH a0=true):∃N,zHJ N a0=some [aI (zmi a0)]:=by
 refine ⟨10,?_⟩;unfold zHJ oN;cases h:zcJ a0
 .rw [zc3];refine must rfl ?_;refine must rfl ?_;refine zc6 h ?_;simp[zdq,h]
 .have hs:zeT a0=true:=h;rw[zc3];refine must rfl (must rfl (must hs (must rfl (br (fun h7=>?_) (fun h7=>?_)))))
  .have e7:zfX a0 7=true:=h7;simp[zdq,h,scan,e7]
  have f7:zfX a0 7=false:=h7
  show iter 9 _ (a0,6,())=_
  rw[zc3];refine must rfl (must rfl (must hs (must rfl (br (fun h6=>?_) (fun h6=>?_)))))
  .have e6:zfX a0 6=true:=h6;simp[zdq,h,scan,e6,f7]
  have f6:zfX a0 6=false:=h6
  show iter 8 _ (a0,5,())=_
  rw[zc3];refine must rfl (must rfl (must hs (must rfl (br (fun h5=>?_) (fun h5=>?_)))))
  .have e5:zfX a0 5=true:=h5;simp[zdq,h,scan,e5,f7,f6]
  have f5:zfX a0 5=false:=h5
  show iter 7 _ (a0,4,())=_
  rw[zc3];refine must rfl (must rfl (must hs (must rfl (br (fun h4=>?_) (fun h4=>?_)))))
  .have e4:zfX a0 4=true:=h4;simp[zdq,h,scan,e4,f7,f6,f5]
  have f4:zfX a0 4=false:=h4
  show iter 6 _ (a0,3,())=_
  rw[zc3];refine must rfl (must rfl (must hs (must rfl (br (fun h3=>?_) (fun h3=>?_)))))
  .have e3:zfX a0 3=true:=h3;simp[zdq,h,scan,e3,f7,f6,f5,f4]
  have f3:zfX a0 3=false:=h3
  show iter 5 _ (a0,2,())=_
  rw[zc3];refine must rfl (must rfl (must hs (must rfl (br (fun h2=>?_) (fun h2=>?_)))))
  .have e2:zfX a0 2=true:=h2;simp[zdq,h,scan,e2,f7,f6,f5,f4,f3]
  have f2:zfX a0 2=false:=h2
  show iter 4 _ (a0,1,())=_
  rw[zc3];refine must rfl (must rfl (must hs (must rfl (br (fun h1=>?_) (fun h1=>?_)))))
  .have e1:zfX a0 1=true:=h1;simp[zdq,h,scan,e1,f7,f6,f5,f4,f3,f2]
  have f1:zfX a0 1=false:=h1
  show iter 3 _ (a0,0,())=_
  rw[zc3];refine must rfl (must rfl (must hs (must rfl (br (fun h0=>?_) (fun h0=>?_)))))
  .have e0:zfX a0 0=true:=h0;simp[zdq,h,scan,e0,f7,f6,f5,f4,f3,f2,f1]
  have f0:zfX a0 0=false:=h0
  show iter 2 _ (a0,-1,())=_
  rw[zc3];refine zc6 rfl ?_;simp[zdq,h,scan,f7,f6,f5,f4,f3,f2,f1,f0]
theorem zLx:vF 317 zBP:=kF1 zgw zu zl zn zTE zSd
@[simp] abbrev zhr (l:List (List Int)):Bool:=pc (SmM l)
@[simp] abbrev ze6 (l:List (List Int)):List (List Int):=l
def zyH:Run:=rF1 (dS (.sl .int)) fun b=>(zhr b,[aS (.sl .int) (ze6 b)])
def zDM (N:Nat)(a0:lM):OA:=
 (iter (σ:=(Int×(Int×(lM×(lM×Unit))))) N (fun r2 s3=>let y0:=(ix s3.2.2.2.1 s3.2.1 []); (cond (ilt s3.2.1 s3.1) (oN (inb s3.2.1 (ln s3.2.2.2.1)) (oN (zdp y0) (oN (few (ln (ap s3.2.2.1 [(zdk y0)]))) (r2 (s3.1,((zG .i64 s3.2.1 1),((ap s3.2.2.1 [(zdk y0)]),(s3.2.2.2.1,())))))))) (some [(aS (.sl .int) s3.2.2.1)]))) ((ln a0),(0,([],(a0,())))))
def zPZ:FuncId->Nat->Option Tmpl:=zo [(114,0,{ n:=20,tm:=[(3,.sl 0 []),(7,.sl 1 []),(8,ti),(9,ti)],lo:=[],ro:=[(0,(.sl .int),true),(1,(.sl .int),false)] })]
theorem zO8 (a0:List (List Int))(hc:zhr a0=true):∃N,zDM N a0=some [aS (.sl .int) (ze6 a0)]:=by
 have hs:=zC.1 hc;have hl:=zcd hs.1;refine zbT fun N hNN=>?_;unfold zDM oN
 conv=>zeta
 refine (zba a0 (fun i (t:lM)=>((ln a0),(i:Int),t,a0,())) _ (fun _ x acc κ=>bif zdp x then (cond (few (ln (ap acc [zdk x]))) (κ (ap acc [zdk x])) none) else none) (fun (t:lM)=>(some [(.one (.s (.sl .int) t))])) (fun i hi t rec=>?_) (fun t rec=>?_) _ ([]) (hNN hl.1)).trans ?_
 .simp only [zbh hi,zN hi,zZ hi,zU hi hl.1,cT]
 .simp only [zbb,cF]
 exact zie zdp zdk _ a0 0 [] (fun x hx=>⟨by exact zY (jC (hs.2 x hx) (by decide)),rfl⟩) (by simpa using hl.2)
theorem zIx:vF 114 zyH:=kF1 zgw zu zl zn zPZ zO8
@[simp] abbrev ziJ (g:Guest):Bool:=pc (SmG g)
@[simp] abbrev zfo (g:Guest):Guest:=g
def ztV:Run:=rF1 (dT .guest) fun b=>(ziJ b,[aT .guest (zfo b)])
def zyh (N:Nat)(a0:Guest):OA:=
 (oN (zsr a0.Prog) (oN (zfP a0.Written) (oN (zfP a0.Live) (oN (zdp a0.Seen) (some [(aT .guest ({ a0 with Prog:=(zm8 a0.Prog),Written:=(zez a0.Written),Live:=(zez a0.Live),Seen:=(zdk a0.Seen) }:Guest))])))))
theorem zJj (a0:Guest)(hc:ziJ a0=true):∃N,zyh N a0=some [aT .guest (zfo a0)]:=by
 have hs:=zC.1 hc;obtain ⟨h1,h2,h3,h4⟩:=hs;have hs1:a0.Prog.length<=2147483648:=(by omega);have hs2:a0.Written.length<=2147483648:=(by omega);have hs3:a0.Live.length<=2147483648:=(by omega);have hs4:a0.Seen.length<=2147483648:=(by omega)
 refine ⟨0,?_⟩;unfold zyh oN;refine mu (mu (mu (mu ?_)))
 first|rfl|(simp only [*,zfo,cT,cF]<;>rfl)|simp_all[Ty.cells,zfo]
theorem zCU:vF 119 ztV:=kF1 zgw zu zl zn (zo []) zJj
def ze0 (t:List Slot)(p n:Int):Bool:=bif ieq (zbm t p).Page (-1) then false else (cond (enough (zbm t p).Rights n) (win n 1 3) false)
def zcj (t:List Slot)(p n:Int):Int:=bif ze0 t p n then (zbm t p).Page else -1
theorem z1L {r:Int}(h:zcE r=true):0<=r/\r<=3:=zfS.1 h
theorem zWP {a n:Int}(h:enough a n=true):win n 1 3 = !ieq n 0:=by
 unfold enough at h;cases h1:zcE a
 .rw [h1]at h;cases h
 .cases h2:zcE n
  .rw [h1,h2]at h;cases h
  .have:=z1L h2;have e:(win n 1 3=true)↔(!ieq n 0)=true:=by
    rw[zfS];simp[ieq];omega
   cases h3:win n 1 3<;>cases h4:(!ieq n 0)<;>simp_all
@[simp] abbrev zq3 (t:List Slot)(p n:Int):Bool:=true
@[simp] abbrev ziQ (t:List Slot)(p n:Int):Int:=zcj t p n
@[simp] abbrev ziR (t:List Slot)(p n:Int):Bool:=ze0 t p n
def zug:Run:=rF3 (dS .slot) dI dI fun b c d=>(zq3 b c d,[aI (ziQ b c d),aB (ziR b c d)])
def zyz (N:Nat)(a0:lS)(a1 a2:Int):OA:=
 let y0:=(zgH a0 a1); (oN (ziz a0 a1) (cond (ieq y0.Page (-1)) (some [(aI (-1)),(aB false)]) (oN (zf2 y0.Rights a2) (cond (nB (zgG y0.Rights a2)) (some [(aI (-1)),(aB false)]) (cond (ieq a2 0) (some [(aI (-1)),(aB false)]) (some [(aI y0.Page),(aB true)]))))))
theorem zJC (a0:List Slot)(a1 a2:Int)(hc:zq3 a0 a1 a2=true):∃N,zyz N a0 a1 a2=some [aI (ziQ a0 a1 a2),aB (ziR a0 a1 a2)]:=by
 have he:=@zWP (zbm a0 a1).Rights a2;refine ⟨0,?_⟩;unfold zyz oN nB
 conv=>zeta
 refine must rfl (br (fun _=>?_) (fun _=>must rfl (brN (fun _=>?_) (fun _=>br (fun _=>?_) (fun _=>?_)))))
 all_goals first|rfl|(simp only [*,ziQ,ziR,zcj,ze0,cT,cF]<;>rfl)|simp_all[Ty.cells,ziQ,ziR,zcj,ze0]
theorem zDc:vF 13 zug:=kF3 zgw zu zl zn (zo []) zJC
def z3f:zO:=[(114,zyH),(119,ztV),(13,zug),(155,zEU),(106,zEM),(277,zBK),(224,zBp),(278,zEQ),(225,zEJ),(317,zBP)]++z3e
theorem zlY:zF z3f:=zh zIx (zh zCU (zh zDc (zh zOT (zh zOK (zh zLs (zh zK7 (zh zOP (zh zOH (zh zLx zgw)))))))))
@[simp] abbrev zh0 (m:List (List Int))(p c v:Int):Bool:=pc (SmM m)
@[simp] abbrev ziA (m:List (List Int))(p c v:Int):List (List Int):=zbx m p c v
def zwG:Run:=rF4 (dS (.sl .int)) dI dI dI fun b c d e=>(zh0 b c d e,[aS (.sl .int) (ziA b c d e)])
def zz7 (N:Nat)(a0:lM)(a1 a2 a3:Int):OA:=
 let y0:=(zd2 a0); (oN (zfq a0) (oN (zrI a0 a1 a2) (cond (zoX a0 a1 a2) (oN (zI a3 0 99) (cond (zK a3 0 99) (oN (inb a1 (ln y0)) (oN (inb a2 (ln (ix y0 a1 []))) (share (up y0 a1 (up (ix y0 a1 []) a2 a3)) (fun x5=>(some [(aS (.sl .int) x5)]))))) (some [(aS (.sl .int) y0)]))) (some [(aS (.sl .int) y0)]))))
theorem zMl (a0:List (List Int))(a1 a2 a3:Int)(hc:zh0 a0 a1 a2 a3=true):∃N,zz7 N a0 a1 a2 a3=some [aS (.sl .int) (ziA a0 a1 a2 a3)]:=by
 have hs:=zC.1 hc;have hm:=(zxG a0 a1 a2).1
 refine ⟨0,?_⟩;unfold zz7 oN
 conv=>zeta
 refine mu (must rfl (br (fun _=>must rfl (br (fun _=>mu (mu (shr ?_))) (fun _=>?_))) (fun _=>?_)))
 all_goals first|rfl|(simp only [*,ziA,zbx,cT,cF]<;>rfl)|simp_all[Ty.cells,ziA,zbx]
theorem zGe:vF 268 zwG:=kF4 zlY zu zl zn (zo []) zMl
def zhC (g:Guest):Bool:=bif canRun g then (cond g.Ctl.Open (ige (zdq g.Pending) 0) false) else false
@[simp] abbrev znT (g:Guest):Bool:=true
@[simp] abbrev zkT (g:Guest):Bool:=zhC g
def zwF:Run:=rF1 (dT .guest) fun b=>(znT b,[aB (zkT b)])
def zz6 (N:Nat)(a0:Guest):OA:=
 (oN (zry a0) (cond (zoO a0) (cond a0.Ctl.Open (oN (zrH a0.Pending) (some [(aB (ige (zmi a0.Pending) 0))])) oF) oF))
theorem zMk (a0:Guest)(hc:znT a0=true):∃N,zz6 N a0=some [aB (zkT a0)]:=by
 refine ⟨0,?_⟩;unfold zz6 oN;refine must rfl (br (fun _=>br (fun _=>must rfl ?_) (fun _=>?_)) (fun _=>?_))
 all_goals first|rfl|(simp only [*,zkT,zhC,cT,cF]<;>rfl)|simp_all[Ty.cells,zkT,zhC]
theorem zGd:vF 293 zwF:=kF1 zlY zu zl zn (zo []) zMk
def zi2 (p:Int):Int:=bif ilt (zdq p) 0 then p else wsub .i64 p (zn5 .i64 1 (zdq p))
def zst (p:Int):Int:=bif ilt (zdq p) 0 then -1 else zdq p
theorem z0o {p:Int}(h:ilt (zdq p) 0=false):wcv .u64 (zdq p)=zdq p/\ile 0 (zdq p)=true/\zKG .i64 p (zn5 .i64 1 (zdq p))=wsub .i64 p (zn5 .i64 1 (zdq p)):=by
 unfold zdq at *;cases h1:zcJ p
 .rw [h1]at h;cases h
 .simp only [h1,cT]at h ⊢;obtain ⟨h0,h2⟩:=zfS.1 h1;have r:=zZF (P:=fun x=>-1<=scan x/\scan x<=7/\(0<=scan x->wsub .i64 x (zn5 .i64 1 (scan x))=zKG .i64 x (zn5 .i64 1 (scan x)))) z1S h0 h2;have h3:0<=scan p:=by
   unfold ilt at h;have:=j3 h;omega
  exact ⟨zWg h3 (by omega),qK h3,(r.2.2 h3).symm⟩
@[simp] abbrev zpK (p:Int):Bool:=true
@[simp] abbrev zjd (p:Int):Int:=zi2 p
@[simp] abbrev zje (p:Int):Int:=zst p
@[simp] abbrev zlA (p:Int):Bool:=!ilt (zdq p) 0
def zy4:Run:=rF1 dI fun b=>(zpK b,[aI (zjd b),aI (zje b),aB (zlA b)])
def zEc (N:Nat)(a0:Int):OA:=
 (oN (zrH a0) (cond (ilt (zmi a0) 0) (some [(aI a0),(aI (-1)),(aB false)]) (oN (ile 0 (wcv .u64 (zmi a0))) (some [(aI (wsub .i64 a0 (zn5 .i64 1 (wcv .u64 (zmi a0))))),(aI (zmi a0)),(aB true)]))))
theorem zPz (a0:Int)(hc:zpK a0=true):∃N,zEc N a0=some [aI (zjd a0),aI (zje a0),aB (zlA a0)]:=by
 have ht:=@z0o a0;refine ⟨0,?_⟩;unfold zEc oN;refine must rfl (br (fun _=>?_) (fun _=>mu ?_))
 all_goals first|rfl|(simp only [*,zjd,zje,zlA,zi2,zst,cT,cF]<;>rfl)|simp_all[Ty.cells,zjd,zje,zlA,zi2,zst]
theorem zIU:vF 295 zy4:=kF1 zlY zu zl zn (zo []) zPz
def saw (g:Guest)(n:Int):Guest:=bif ilt (ln g.Seen) 40 then { g with Seen:=ap g.Seen [n] } else g
@[simp] theorem zMN {g:Guest}(n:Int)(h:SmG g):SmG (saw g n):=by
 unfold saw;cases h1:ilt (ln g.Seen) 40
 .exact h
 .have:=qE h1;refine ⟨h.1,h.2.1,h.2.2.1,?_⟩;simp[ln] at *;omega
@[simp] abbrev zCL (g:Guest)(n:Int):Bool:=pc (SmG g)
@[simp] abbrev zxY (g:Guest)(n:Int):Guest:=saw g n
def zOt:Run:=rF2 (dT .guest) dI fun b c=>(zCL b c,[aT .guest (zxY b c)])
def zVn (N:Nat)(a0:Guest)(a1:Int):OA:=
 (oN (zcY a0) (cond (ilt (ln (zcG a0).Seen) 40) (oN (few (ln (ap (zcG a0).Seen [a1]))) (some [(aT .guest ({ (zcG a0) with Seen:=(ap (zcG a0).Seen [a1]) }:Guest))])) (some [(aT .guest (zcG a0))])))
theorem zZr (a0:Guest)(a1:Int)(hc:zCL a0 a1=true):∃N,zVn N a0 a1=some [aT .guest (zxY a0 a1)]:=by
 have hs:=zC.1 hc;have hz:a0.Seen.length<=1048576:=hs.2.2.2
 refine ⟨0,?_⟩;unfold zVn oN;refine mu (br (fun _=>mu ?_) (fun _=>?_))
 all_goals first|rfl|(simp only [*,zxY,saw,cT,cF]<;>rfl)|simp_all[Ty.cells,zxY,saw]
theorem zUd:vF 296 zOt:=kF2 zlY zu zl zn (zo []) zZr
def stopped (g:Guest)(e:GExit):Guest:={ g with Exit:=e }
@[simp] theorem z6G {g:Guest}(e:GExit)(h:SmG g):SmG (stopped g e):=h
@[simp] abbrev zdN (g:Guest)(e:GExit):Bool:=pc (SmG g)
@[simp] abbrev zdg (g:Guest)(e:GExit):Guest:=stopped g e
def zy2:Run:=rF2 (dT .guest) dE fun b c=>(zdN b c,[aT .guest (zdg b c)])
def zEa (N:Nat)(a0:Guest)(a1:GExit):OA:=
 (oN (zcY a0) (some [(aT .guest ({ (zcG a0) with Exit:=a1 }:Guest))]))
theorem zPx (a0:Guest)(a1:GExit)(hc:zdN a0 a1=true):∃N,zEa N a0 a1=some [aT .guest (zdg a0 a1)]:=by
 have hs:=zC.1 hc;refine ⟨0,?_⟩;unfold zEa oN;refine mu ?_
 first|rfl|(simp only [*,zdg,stopped,cT,cF]<;>rfl)|simp_all[Ty.cells,zdg,stopped]
theorem zIS:vF 300 zy2:=kF2 zlY zu zl zn (zo []) zPx
def zbY (g:Guest):Guest:=bif ige g.Pc 12 then { g with Pc:=12 } else { g with Pc:=zG .i64 g.Pc 1 }
@[simp] theorem zkd {g:Guest}(h:SmG g):SmG (zbY g):=by
 unfold zbY;cases ige g.Pc 12<;>exact h
@[simp] abbrev zdI (g:Guest):Bool:=pc (SmG g)
@[simp] abbrev zfJ (g:Guest):Guest:=zbY g
def zEW:Run:=rF1 (dT .guest) fun b=>(zdI b,[aT .guest (zfJ b)])
def zNt (N:Nat)(a0:Guest):OA:=
 (oN (zcY a0) (cond (ige (zcG a0).Pc 12) (some [(aT .guest ({ (zcG a0) with Pc:=12 }:Guest))]) (some [(aT .guest ({ (zcG a0) with Pc:=(zG .i64 (zcG a0).Pc 1) }:Guest))])))
theorem zUu (a0:Guest)(hc:zdI a0=true):∃N,zNt N a0=some [aT .guest (zfJ a0)]:=by
 have hs:=zC.1 hc;refine ⟨0,?_⟩;unfold zNt oN;refine mu (br (fun _=>?_) (fun _=>?_))
 all_goals first|rfl|(simp only [*,zfJ,zbY,cT,cF]<;>rfl)|simp_all[Ty.cells,zfJ,zbY]
theorem zOV:vF 297 zEW:=kF1 zlY zu zl zn (zo []) zUu
def z3g:zO:=[(268,zwG),(293,zwF),(295,zy4),(296,zOt),(300,zy2),(297,zEW)]++z3f
theorem zii:zF z3g:=zh zGe (zh zGd (zh zIU (zh zUd (zh zIS (zh zOV zlY)))))
def interrupted (g:Guest):Guest:=bif zhC g then saw { g with Pending:=zi2 g.Pending } (zG .i64 100 (zst g.Pending)) else g
@[simp] theorem zV2 {g:Guest}(h:SmG g):SmG (interrupted g):=by
 unfold interrupted;cases zhC g
 .exact h
 .exact zMN (g:={ g with Pending:=zi2 g.Pending }) _ h
@[simp] abbrev znL (g:Guest):Bool:=pc (SmG g)
@[simp] abbrev ziO (g:Guest):Guest:=interrupted g
def zrf:Run:=rF1 (dT .guest) fun b=>(znL b,[aT .guest (ziO b)])
def ztr (N:Nat)(a0:Guest):OA:=
 let y1:=(zG .i64 100 (zje a0.Pending));let y0:=({ a0 with Pending:=(zjd a0.Pending) }:Guest); (oN (znT a0) (cond (nB (zkT a0)) (oN (zcY a0) (some [(aT .guest (zcG a0))])) (oN (zpK a0.Pending) (oN (zCL y0 y1) (some [(aT .guest (zxY y0 y1))])))))
theorem zDw (a0:Guest)(hc:znL a0=true):∃N,ztr N a0=some [aT .guest (ziO a0)]:=by
 have hs:=zC.1 hc;have hz:_/\_/\_/\_:=hs
 refine ⟨0,?_⟩;unfold ztr oN nB
 conv=>zeta
 refine must rfl (brN (fun _=>mu ?_) (fun _=>must rfl (mu ?_)))
 all_goals first|rfl|(simp only [*,ziO,interrupted,cT,cF]<;>rfl)|simp_all[Ty.cells,ziO,interrupted]
theorem zzx:vF 253 zrf:=kF1 zii zu zl zn (zo []) zDw
def zv7 (o:Int):Int:=bif ieq o 3 then 3 else (cond (ieq o 4) 4 (cond (ieq o 5) 5 (cond (ieq o 6) 6 (cond (ieq o 7) 7 2))))
def zS (g:Guest):Int:=bif canRun g then (cond (zhC g) 1 (zv7 (zcb g.Prog g.Pc).Op)) else 0
@[simp] abbrev zek (g:Guest):Bool:=true
@[simp] abbrev zmj (g:Guest):Int:=zS g
def zBR:Run:=rF1 (dT .guest) fun b=>(zek b,[aI (zmj b)])
def zHL (N:Nat)(a0:Guest):OA:=
 let y0:=(zfl a0.Prog a0.Pc).Op; (oN (zry a0) (cond (nB (zoO a0)) (some [(aI 0)]) (oN (znT a0) (cond (zkT a0) (some [(aI 1)]) (oN (ze8 a0.Prog a0.Pc) (cond (ieq y0 3) (some [(aI 3)]) (cond (ieq y0 4) (some [(aI 4)]) (cond (ieq y0 5) (some [(aI 5)]) (cond (ieq y0 6) (some [(aI 6)]) (cond (ieq y0 7) (some [(aI 7)]) (some [(aI 2)])))))))))))
theorem zSf (a0:Guest)(hc:zek a0=true):∃N,zHL N a0=some [aI (zmj a0)]:=by
 refine ⟨0,?_⟩;unfold zHL oN nB
 conv=>zeta
 refine must rfl (brN (fun _=>?_) (fun _=>must rfl (br (fun _=>?_) (fun _=>must rfl (br (fun _=>?_) (fun _=>br (fun _=>?_) (fun _=>br (fun _=>?_) (fun _=>br (fun _=>?_) (fun _=>br (fun _=>?_) (fun _=>?_))))))))))
 all_goals first|rfl|(simp only [*,zmj,zS,zv7,cT,cF]<;>rfl)|simp_all[Ty.cells,zmj,zS,zv7]
theorem zb5:vF 252 zBR:=kF1 zii zu zl zn (zo []) zSf
def held (g:Guest):Guest:=zbY { g with Halted:=true }
@[simp] theorem zTb {g:Guest}(h:SmG g):SmG (held g):=zkd (g:={ g with Halted:=true }) h
@[simp] abbrev zme (g:Guest):Bool:=pc (SmG g)
@[simp] abbrev zwM (g:Guest):Guest:=held g
def zJ3:Run:=rF1 (dT .guest) fun b=>(zme b,[aT .guest (zwM b)])
def zQv (N:Nat)(a0:Guest):OA:=
 let y0:=({ a0 with Halted:=true }:Guest); (oN (zdI y0) (some [(aT .guest (zfJ y0))]))
theorem zXi (a0:Guest)(hc:zme a0=true):∃N,zQv N a0=some [aT .guest (zwM a0)]:=by
 have hs:=zC.1 hc;have hz:_/\_/\_/\_:=hs
 refine ⟨0,?_⟩;unfold zQv oN
 conv=>zeta
 refine mu ?_
 first|rfl|(simp only [*,zwM,held,cT,cF]<;>rfl)|simp_all[Ty.cells,zwM,held]
theorem zRr:vF 309 zJ3:=kF1 zii zu zl zn (zo []) zXi
@[simp] abbrev zxZ (g:Guest):Bool:=pc (SmG g)
@[simp] abbrev zs7 (g:Guest):Guest:=zbY g
def zBO:Run:=rF1 (dT .guest) fun b=>(zxZ b,[aT .guest (zs7 b)])
def zHI (N:Nat)(a0:Guest):OA:=
 (oN (zdI a0) (some [(aT .guest (zfJ a0))]))
theorem zSc (a0:Guest)(hc:zxZ a0=true):∃N,zHI N a0=some [aT .guest (zs7 a0)]:=by
 have hs:=zC.1 hc;refine ⟨0,?_⟩;unfold zHI oN;refine mu ?_
 first|rfl|(simp only [*,zs7,cT,cF]<;>rfl)|simp_all[Ty.cells,zs7]
theorem zLw:vF 302 zBO:=kF1 zii zu zl zn (zo []) zSc
def loaded (g:Guest)(v:Int):Guest:=zbY (saw { g with A:=v } v)
@[simp] theorem zKf {g:Guest}(v:Int)(h:SmG g):SmG (loaded g v):=zkd (zMN (g:={ g with A:=v }) v h)
@[simp] abbrev zxS (g:Guest)(v:Int):Bool:=pc (SmG g)
@[simp] abbrev zsZ (g:Guest)(v:Int):Guest:=loaded g v
def zBC:Run:=rF2 (dT .guest) dI fun b c=>(zxS b c,[aT .guest (zsZ b c)])
def zHw (N:Nat)(a0:Guest)(a1:Int):OA:=
 let y0:=({ a0 with A:=a1 }:Guest); (oN (zCL y0 a1) (oN (zdI (zxY y0 a1)) (some [(aT .guest (zfJ (zxY y0 a1)))])))
theorem zRY (a0:Guest)(a1:Int)(hc:zxS a0 a1=true):∃N,zHw N a0 a1=some [aT .guest (zsZ a0 a1)]:=by
 have hs:=zC.1 hc;have hz:_/\_/\_/\_:=hs;have hk:SmG (saw { a0 with A:=a1 } a1):=zMN (g:={ a0 with A:=a1 }) a1 hs
 refine ⟨0,?_⟩;unfold zHw oN
 conv=>zeta
 refine mu (mu ?_)
 first|rfl|(simp only [*,zsZ,loaded,cT,cF]<;>rfl)|simp_all[Ty.cells,zsZ,loaded]
theorem zLk:vF 303 zBC:=kF2 zii zu zl zn (zo []) zRY
def zWd (g:Guest)(w:Int):Guest:=bif ieq w 5 then stopped g (zv8 (zcb g.Prog g.Pc).X) else stopped g ⟨4,0,false,0⟩
@[simp] theorem z6H {g:Guest}(w:Int)(h:SmG g):SmG (zWd g w):=by
 unfold zWd;cases ieq w 5<;>exact h
def zcT (g:Guest):Bool:=zcP g.Prog&&(win g.A 0 99&&(win g.Pc 0 12&&(zcw g.Written 4 8&&(zcw g.Live 4 8&&(zgK g.Ctl&&(zcJ g.Pending&&(zgy g.Exit&&ile (ln g.Seen) 40)))))))
@[simp] abbrev zlu (g:Guest):Bool:=true
@[simp] abbrev zj0 (g:Guest):Bool:=zcT g
def zyM:Run:=rF1 (dT .guest) fun b=>(zlu b,[aB (zj0 b)])
def zDV (N:Nat)(a0:Guest):OA:=
 (oN (zxW a0.Prog) (cond (zmg a0.Prog) (oN (zI a0.A 0 99) (cond (zK a0.A 0 99) (oN (zI a0.Pc 0 12) (cond (zK a0.Pc 0 12) (oN (zlz a0.Written 4 8) (cond (zhc a0.Written 4 8) (oN (zlz a0.Live 4 8) (cond (zhc a0.Live 4 8) (oN (zqk a0.Ctl) (cond (zoQ a0.Ctl) (oN (zeU a0.Pending) (cond (zeT a0.Pending) (oN (zxQ a0.Exit) (cond (zsQ a0.Exit) (some [(aB (ile (ln a0.Seen) 40))]) oF)) oF)) oF)) oF)) oF)) oF)) oF)) oF))
theorem zPh (a0:Guest)(hc:zlu a0=true):∃N,zDV N a0=some [aB (zj0 a0)]:=by
 refine ⟨0,?_⟩;unfold zDV oN;refine must rfl (br (fun _=>must rfl (br (fun _=>must rfl (br (fun _=>must rfl (br (fun _=>must rfl (br (fun _=>must rfl (br (fun _=>must rfl (br (fun _=>must rfl (br (fun _=>?_) (fun _=>?_))) (fun _=>?_))) (fun _=>?_))) (fun _=>?_))) (fun _=>?_))) (fun _=>?_))) (fun _=>?_))) (fun _=>?_))
 all_goals first|rfl|(simp only [*,zj0,zcT,cT,cF]<;>rfl)|simp_all[Ty.cells,zj0,zcT]
theorem zIC:vF 214 zyM:=kF1 zii zu zl zn (zo []) zPh
@[simp] abbrev zpe (g:Guest):Bool:=true
@[simp] abbrev zmv (g:Guest):Bool:=zcT g
def zyF:Run:=rF1 (dT .guest) fun b=>(zpe b,[aB (zmv b)])
def zDK (N:Nat)(a0:Guest):OA:=
 (oN (zxw a0.Prog) (cond (zl5 a0.Prog) (oN (zb7 a0.A 0 99) (cond (zcp a0.A 0 99) (oN (zb7 a0.Pc 0 12) (cond (zcp a0.Pc 0 12) (oN (zlg a0.Written 4 8) (cond (zg4 a0.Written 4 8) (oN (zlg a0.Live 4 8) (cond (zg4 a0.Live 4 8) (oN (zAM a0.Ctl) (cond (zvW a0.Ctl) (oN (zrm a0.Pending) (cond (zor a0.Pending) (oN (zxu a0.Exit) (cond (zso a0.Exit) (some [(aB (ile (ln a0.Seen) 40))]) oF)) oF)) oF)) oF)) oF)) oF)) oF)) oF))
theorem zO6 (a0:Guest)(hc:zpe a0=true):∃N,zDK N a0=some [aB (zmv a0)]:=by
 refine ⟨0,?_⟩;unfold zDK oN;refine must rfl (br (fun _=>must rfl (br (fun _=>must rfl (br (fun _=>must rfl (br (fun _=>must rfl (br (fun _=>must rfl (br (fun _=>must rfl (br (fun _=>must rfl (br (fun _=>?_) (fun _=>?_))) (fun _=>?_))) (fun _=>?_))) (fun _=>?_))) (fun _=>?_))) (fun _=>?_))) (fun _=>?_))) (fun _=>?_))
 all_goals first|rfl|(simp only [*,zmv,zcT,cT,cF]<;>rfl)|simp_all[Ty.cells,zmv,zcT]
theorem zIv:vF 168 zyF:=kF1 zii zu zl zn (zo []) zO6
@[simp] abbrev zkt (l:List Guest):Bool:=pc (zlW l)
@[simp] abbrev zjM (l:List Guest):List Guest:=l
def zsD:Run:=rF1 (dS .guest) fun b=>(zkt b,[aS .guest (zjM b)])
def zvw (N:Nat)(a0:lG):OA:=
 (iter (σ:=(Int×(Int×(lG×(lG×Unit))))) N (fun r2 s3=>let y0:=(ix s3.2.2.2.1 s3.2.1 zx); (cond (ilt s3.2.1 s3.1) (oN (inb s3.2.1 (ln s3.2.2.2.1)) (oN (ziJ y0) (oN (few (ln (ap s3.2.2.1 [(zfo y0)]))) (r2 (s3.1,((zG .i64 s3.2.1 1),((ap s3.2.2.1 [(zfo y0)]),(s3.2.2.2.1,())))))))) (some [(aS .guest s3.2.2.1)]))) ((ln a0),(0,([],(a0,())))))
def zG1:FuncId->Nat->Option Tmpl:=zo [(172,0,{ n:=20,tm:=[(3,.sl 0 []),(7,.sl 1 []),(8,ti),(9,ti)],lo:=[],ro:=[(0,.guest,true),(1,.guest,false)] })]
theorem zGt (a0:List Guest)(hc:zkt a0=true):∃N,zvw N a0=some [aS .guest (zjM a0)]:=by
 have hs:=zC.1 hc;have hl:=zcd hs.1;refine zbT fun N hNN=>?_;unfold zvw oN
 conv=>zeta
 refine (zba a0 (fun i (t:lG)=>((ln a0),(i:Int),t,a0,())) _ (fun _ x acc κ=>bif ziJ x then (cond (few (ln (ap acc [zfo x]))) (κ (ap acc [zfo x])) none) else none) (fun (t:lG)=>(some [(.one (.s .guest t))])) (fun i hi t rec=>?_) (fun t rec=>?_) _ ([]) (hNN hl.1)).trans ?_
 .simp only [zbh hi,zN hi,zZ hi,zU hi hl.1,cT]
 .simp only [zbb,cF]
 exact zie ziJ zfo _ a0 0 [] (fun x hx=>⟨by exact zY (hs.2 x hx),rfl⟩) (by simpa using hl.2)
theorem zAC:vF 172 zsD:=kF1 zii zu zl zn zG1 zGt
def gAt (b:Bare)(i:Int):Guest:=bif hasB i (ln b.Guests) then ix b.Guests i zx else Ty.dflt .guest
@[simp] theorem ziX {b:Bare}(i:Int)(h:SmB b):SmG (gAt b i):=by
 unfold gAt;cases hh:hasB i (ln b.Guests)
 .exact z7b
 .exact z0c h.2.1 hh _
def z3h:zO:=[(253,zrf),(252,zBR),(309,zJ3),(302,zBO),(303,zBC),(214,zyM),(168,zyF),(172,zsD)]++z3g
theorem zol:zF z3h:=zh zzx (zh zb5 (zh zRr (zh zLw (zh zLk (zh zIC (zh zIv (zh zAC zii)))))))
def plainly (g:Guest):Guest:=bif ine (zS g) 2 then g else (cond (win g.A 0 99) (cond (win (zcb g.Prog g.Pc).X 0 99) (cond (ieq (zcb g.Prog g.Pc).Op 1) { zbY g with A:=(zcb g.Prog g.Pc).X } (cond (ieq (zcb g.Prog g.Pc).Op 2) { zbY g with A:=zo4 (zG .i64 g.A (zcb g.Prog g.Pc).X) 100 } (cond (ieq (zcb g.Prog g.Pc).Op 8) (cond (ieq g.A 0) { zbY g with Pc:=(zcb g.Prog g.Pc).X } (zbY g)) (zbY g)))) (zbY g)) (zbY g))
@[simp] theorem z6V (g:Guest):(zbY g).Prog=g.Prog:=by
 unfold zbY;cases ige g.Pc 12<;>rfl
@[simp] theorem z7B (g:Guest):(zbY g).A=g.A:=by
 unfold zbY;cases ige g.Pc 12<;>rfl
@[simp] theorem z5H (g:Guest):(zbY g).Written=g.Written:=by
 unfold zbY;cases ige g.Pc 12<;>rfl
@[simp] theorem z6U (g:Guest):(zbY g).Live=g.Live:=by
 unfold zbY;cases ige g.Pc 12<;>rfl
@[simp] theorem z7k (g:Guest):(zbY g).Ctl=g.Ctl:=by
 unfold zbY;cases ige g.Pc 12<;>rfl
@[simp] theorem z5G (g:Guest):(zbY g).Pending=g.Pending:=by
 unfold zbY;cases ige g.Pc 12<;>rfl
@[simp] theorem z6T (g:Guest):(zbY g).Exit=g.Exit:=by
 unfold zbY;cases ige g.Pc 12<;>rfl
@[simp] theorem z6r (g:Guest):(zbY g).Halted=g.Halted:=by
 unfold zbY;cases ige g.Pc 12<;>rfl
@[simp] theorem z6W (g:Guest):(zbY g).Seen=g.Seen:=by
 unfold zbY;cases ige g.Pc 12<;>rfl
@[simp] theorem z7l (g:Guest)(x:Int):(zbY { g with A:=x }).Pc=(zbY g).Pc:=by
 unfold zbY;cases ige g.Pc 12<;>rfl
@[simp] theorem zE9 {g:Guest}(h:SmG g):SmG (plainly g):=by
 have hm:=zkd h;unfold plainly;cases ine (zS g) 2
 .cases win g.A 0 99
  .exact hm
  .cases win (zcb g.Prog g.Pc).X 0 99
   .exact hm
   .cases ieq (zcb g.Prog g.Pc).Op 1
    .cases ieq (zcb g.Prog g.Pc).Op 2
     .cases ieq (zcb g.Prog g.Pc).Op 8
      .exact hm
      .cases ieq g.A 0<;>exact hm
     .exact hm
    .exact hm
 .exact h
@[simp] abbrev zvl (g:Guest):Bool:=pc (SmG g)
@[simp] abbrev zqp (g:Guest):Guest:=plainly g
def zyZ:Run:=rF1 (dT .guest) fun b=>(zvl b,[aT .guest (zqp b)])
def zD7 (N:Nat)(a0:Guest):OA:=
 let y7:=(ieq a0.A 0);let y5:=(zdI a0);let y1:=(aT .guest (zfJ a0));let y0:=(zfl a0.Prog a0.Pc);let y8:=({ a0 with A:=y0.X }:Guest);let y6:=(ieq y0.Op 8);let y4:=(zK y0.X 0 99);let y3:=(aT .guest ({ (zcG a0) with Pc:=y0.X }:Guest));let y2:=({ a0 with A:=(zo4 (zG .i64 a0.A y0.X) 100) }:Guest); (oN (zek a0) (cond (ine (zmj a0) 2) (oN (zcY a0) (some [(aT .guest (zcG a0))])) (oN (ze8 a0.Prog a0.Pc) (oN (zI a0.A 0 99) (cond (zK a0.A 0 99) (oN (zI y0.X 0 99) (cond y4 (cond (ieq y0.Op 1) (oN (zdI y8) (some [(aT .guest (zfJ y8))])) (cond y4 (cond (ieq y0.Op 2) (oN (ine 100 0) (oN (zdI y2) (some [(aT .guest (zfJ y2))]))) (cond y4 (cond y6 (cond y7 (oN (zcY a0) (some [y3])) (oN y5 (some [y1]))) (oN y5 (some [y1]))) (oN y5 (some [y1])))) (cond y4 (cond y6 (cond y7 (oN (zcY a0) (some [y3])) (oN y5 (some [y1]))) (oN y5 (some [y1]))) (oN y5 (some [y1]))))) (cond y4 (cond (ieq y0.Op 2) (oN (ine 100 0) (oN (zdI y2) (some [(aT .guest (zfJ y2))]))) (cond y4 (cond y6 (cond y7 (oN (zcY a0) (some [y3])) (oN y5 (some [y1]))) (oN y5 (some [y1]))) (oN y5 (some [y1])))) (cond y4 (cond y6 (cond y7 (oN (zcY a0) (some [y3])) (oN y5 (some [y1]))) (oN y5 (some [y1]))) (oN y5 (some [y1])))))) (oN y5 (some [y1])))))))
theorem zPu (a0:Guest)(hc:zvl a0=true):∃N,zD7 N a0=some [aT .guest (zqp a0)]:=by
 have hs:=zC.1 hc;have hz:_/\_/\_/\_:=hs
 refine ⟨0,?_⟩;unfold zD7 oN
 conv=>zeta
 refine must rfl (br (fun _=>mu ?_) (fun _=>must rfl (must rfl (br (fun _=>must rfl (br (fun _=>br (fun _=>mu ?_) (fun _=>br (fun _=>br (fun _=>must rfl (mu ?_)) (fun _=>br (fun _=>br (fun _=>br (fun _=>mu ?_) (fun _=>mu ?_)) (fun _=>mu ?_)) (fun _=>mu ?_))) (fun _=>br (fun _=>br (fun _=>br (fun _=>mu ?_) (fun _=>mu ?_)) (fun _=>mu ?_)) (fun _=>mu ?_)))) (fun _=>br (fun _=>br (fun _=>must rfl (mu ?_)) (fun _=>br (fun _=>br (fun _=>br (fun _=>mu ?_) (fun _=>mu ?_)) (fun _=>mu ?_)) (fun _=>mu ?_))) (fun _=>br (fun _=>br (fun _=>br (fun _=>mu ?_) (fun _=>mu ?_)) (fun _=>mu ?_)) (fun _=>mu ?_))))) (fun _=>mu ?_)))))
 all_goals first|rfl|(simp only [*,zqp,plainly,cT,cF]<;>rfl)|simp_all[Ty.cells,zqp,plainly]
theorem zIP:vF 254 zyZ:=kF1 zol zu zl zn (zo []) zPu
def address (g:Guest):Int:=bif ine (zS g) 3 then (cond (ine (zS g) 4) (-1) ((zcb g.Prog g.Pc).X)) else (zcb g.Prog g.Pc).X
@[simp] abbrev zpp (g:Guest):Bool:=true
@[simp] abbrev zh8 (g:Guest):Int:=address g
def zyL:Run:=rF1 (dT .guest) fun b=>(zpp b,[aI (zh8 b)])
def zDQ (N:Nat)(a0:Guest):OA:=
 (oN (zek a0) (cond (ine (zmj a0) 3) (cond (ine (zmj a0) 4) (some [(aI (-1))]) (oN (ze8 a0.Prog a0.Pc) (some [(aI (zfl a0.Prog a0.Pc).X)]))) (oN (ze8 a0.Prog a0.Pc) (some [(aI (zfl a0.Prog a0.Pc).X)]))))
theorem zPc (a0:Guest)(hc:zpp a0=true):∃N,zDQ N a0=some [aI (zh8 a0)]:=by
 refine ⟨0,?_⟩;unfold zDQ oN;refine must rfl (br (fun _=>br (fun _=>?_) (fun _=>must rfl ?_)) (fun _=>must rfl ?_))
 all_goals first|rfl|(simp only [*,zh8,address,cT,cF]<;>rfl)|simp_all[Ty.cells,zh8,address]
theorem zIB:vF 298 zyL:=kF1 zol zu zl zn (zo []) zPc
def ziG (g:Guest)(t w:Int):Guest:=bif ieq w 6 then stopped g (zw3 (zcb g.Prog g.Pc).X) else (cond (ieq w 5&&zgp t 1) (stopped g (zv8 (zcb g.Prog g.Pc).X)) (cond (ieq w 7&&zgp t 2) (stopped g ⟨4,0,false,0⟩) (cond (ieq w 7) (held g) (zbY g))))
def zjq (t w:Int):Bool:=bif ieq w 6 then false else (cond (ieq w 5&&zgp t 1) false (cond (ieq w 7&&zgp t 2) false true))
@[simp] theorem zCb {g:Guest}(t w:Int)(h:SmG g):SmG (ziG g t w):=by
 unfold ziG;cases ieq w 6
 .cases (ieq w 5&&zgp t 1)
  .cases (ieq w 7&&zgp t 2)
   .cases ieq w 7
    .exact zkd h
    .exact zTb h
   .exact h
  .exact h
 .exact h
@[simp] abbrev zdv (g:Guest)(t w:Int):Bool:=pc (SmG g)
@[simp] abbrev zb3 (g:Guest)(t w:Int):Guest:=ziG g t w
@[simp] abbrev zcZ (g:Guest)(t w:Int):Bool:=zjq t w
def zy9:Run:=rF3 (dT .guest) dI dI fun b c d=>(zdv b c d,[aT .guest (zb3 b c d),aB (zcZ b c d)])
def zEi (N:Nat)(a0:Guest)(a1 a2:Int):OA:=
 let y3:=(aT .guest (zfJ a0));let y2:=(aT .guest (zwM a0));let y1:=(⟨4,0,false,0⟩:GExit);let y0:=(zfl a0.Prog a0.Pc).X; (oN (ze8 a0.Prog a0.Pc) (cond (ieq a2 6) (oN (zsP y0) (oN (zdN a0 (zkH y0)) (some [(aT .guest (zdg a0 (zkH y0))),(aB false)]))) (cond (ieq a2 5) (oN (zhy a1 1) (cond (zha a1 1) (oN (zvj y0) (oN (zdN a0 (zmC y0)) (some [(aT .guest (zdg a0 (zmC y0))),(aB false)]))) (cond (ieq a2 7) (oN (zhy a1 2) (cond (zha a1 2) (oN (zdN a0 y1) (some [(aT .guest (zdg a0 y1)),(aB false)])) (cond (ieq a2 7) (oN (zme a0) (some [y2,(aB true)])) (oN (zdI a0) (some [y3,(aB true)]))))) (cond (ieq a2 7) (oN (zme a0) (some [y2,(aB true)])) (oN (zdI a0) (some [y3,(aB true)])))))) (cond (ieq a2 7) (oN (zhy a1 2) (cond (zha a1 2) (oN (zdN a0 y1) (some [(aT .guest (zdg a0 y1)),(aB false)])) (cond (ieq a2 7) (oN (zme a0) (some [y2,(aB true)])) (oN (zdI a0) (some [y3,(aB true)]))))) (cond (ieq a2 7) (oN (zme a0) (some [y2,(aB true)])) (oN (zdI a0) (some [y3,(aB true)])))))))
theorem zPI (a0:Guest)(a1 a2:Int)(hc:zdv a0 a1 a2=true):∃N,zEi N a0 a1 a2=some [aT .guest (zb3 a0 a1 a2),aB (zcZ a0 a1 a2)]:=by
 have hs:=zC.1 hc;refine ⟨0,?_⟩;unfold zEi oN
 conv=>zeta
 refine must rfl (br (fun _=>must rfl (mu ?_)) (fun _=>br (fun _=>must rfl (br (fun _=>must rfl (mu ?_)) (fun _=>br (fun _=>must rfl (br (fun _=>mu ?_) (fun _=>br (fun _=>mu ?_) (fun _=>mu ?_)))) (fun _=>br (fun _=>mu ?_) (fun _=>mu ?_))))) (fun _=>br (fun _=>must rfl (br (fun _=>mu ?_) (fun _=>br (fun _=>mu ?_) (fun _=>mu ?_)))) (fun _=>br (fun _=>mu ?_) (fun _=>mu ?_)))))
 all_goals first|rfl|(simp only [*,zb3,zcZ,ziG,zjq,cT,cF]<;>rfl)|simp_all[Ty.cells,zb3,zcZ,ziG,zjq]
theorem zI2:vF 305 zy9:=kF3 zol zu zl zn (zo []) zPI
def zbX (b:Bare):Bool:=bif b.Guests.all zcT then (zgL b.Memory 8&&(win (ln b.Guests) 1 2&&(ile (ln b.Outs) 40&&zcJ b.Pending))) else false
@[simp] abbrev znx (b:Bare):Bool:=true
@[simp] abbrev zeo (b:Bare):Bool:=zbX b
def zBu:Run:=rF1 (dT .bare) fun b=>(znx b,[aB (zeo b)])
def zHo (N:Nat)(a0:Bare):OA:=
 (iter (σ:=(Int×(Int×(lM×(lG×((List Int)×Unit)))))) N (fun r2 s3=>let y0:=s3.2.2.2.1; (cond (ilt s3.1 (ln y0)) (oN (inb s3.1 (ln y0)) (oN (zlu (ix y0 s3.1 zx)) (cond (nB (zj0 (ix y0 s3.1 zx))) oF (r2 ((zG .i64 s3.1 1),(s3.2.1,(s3.2.2.1,(y0,(s3.2.2.2.2.1,()))))))))) (oN (zqm s3.2.2.1 8) (cond (zkR s3.2.2.1 8) (oN (zI (ln y0) 1 2) (cond (zK (ln y0) 1 2) (cond (ile (ln s3.2.2.2.2.1) 40) (oN (zeU s3.2.1) (some [(aB (zeT s3.2.1))])) oF) oF)) oF)))) (0,(a0.Pending,(a0.Memory,(a0.Guests,(a0.Outs,()))))))
def zTw:FuncId->Nat->Option Tmpl:=zo [(312,0,{ n:=38,tm:=[(1,.lp 0 0),(3,ti)],lo:=[(0,[.sl 0 [],.sl 1 [],.sl 2 [],ti])],ro:=[(0,(.sl .int),false),(1,.guest,false),(2,.int,false)] })]
theorem zRQ (a0:Bare)(hb:zbB big [aT .bare a0])(hc:znx a0=true):∃N,zHo N a0=some [aB (zeo a0)]:=by
 have hl:(_:List _).length<=big:=((zcU hb).1 (.s .guest a0.Guests) (by simp[AV.cvs,Ty.cells])).len
 refine zbT fun N hNN=>?_;unfold zHo oN nB
 conv=>zeta
 refine (zba a0.Guests (fun i (t:Unit)=>((i:Int),a0.Pending,a0.Memory,a0.Guests,a0.Outs,())) _ (fun _ x (_:Unit) κ=>bif (zcT) x then κ () else oF) (fun (t:Unit)=>(cond (zqm a0.Memory 8) (cond (zkR a0.Memory 8) (cond (zI (ln a0.Guests) 1 2) (cond (zK (ln a0.Guests) 1 2) (cond (ile (ln a0.Outs) 40) (cond (zeU a0.Pending) (some [(.one (.b (zeT a0.Pending)))]) none) oF) oF) none) oF) none)) (fun i hi t rec=>?_) (fun t rec=>?_) _ () (hNN hl)).trans ?_
 .simp only [zbh hi,zN hi,zZ hi,zU hi hl,cT];exact zid rfl
 .simp only [zbb,cF]
 rw[zgn (zcT)];refine br (fun h0=>?_) (fun h0=>?_)
 .refine must rfl ?_;refine br (fun h1=>?_) (fun h1=>?_)
  .refine must rfl ?_;refine br (fun h2=>?_) (fun h2=>?_)
   .refine br (fun h3=>?_) (fun h3=>?_)
    .refine must rfl ?_
     first|rfl|(simp only [h0,h1,h2,h3,zeo,zbX,cT,cF]<;>rfl)|(simp_all [Ty.cells,zeo,zbX];done)
    .first|rfl|(simp only [h0,h1,h2,h3,zeo,zbX,cT,cF]<;>rfl)|(simp_all [Ty.cells,zeo,zbX];done)
   .first|rfl|(simp only [h0,h1,h2,zeo,zbX,cT,cF]<;>rfl)|(simp_all [Ty.cells,zeo,zbX];done)
  .first|rfl|(simp only [h0,h1,zeo,zbX,cT,cF]<;>rfl)|(simp_all [Ty.cells,zeo,zbX];done)
 .first|rfl|(simp only [h0,zeo,zbX,cT,cF]<;>rfl)|(simp_all [Ty.cells,zeo,zbX];done)
theorem zLc:vF 312 zBu:=hF1 zol zu zl zn zTw zRQ
@[simp] abbrev zeC (b:Bare):Bool:=pc (SmB b)
@[simp] abbrev zca (b:Bare):Bare:=b
def zy8:Run:=rF1 (dT .bare) fun b=>(zeC b,[aT .bare (zca b)])
def zEh (N:Nat)(a0:Bare):OA:=
 (oN (zfq a0.Memory) (oN (zfa a0.Guests) (oN (few (ln (ap [] a0.Outs))) (some [(aT .bare (⟨(zd2 a0.Memory),(zft a0.Guests),(ap [] a0.Outs),a0.Pending⟩:Bare))]))))
theorem zPH (a0:Bare)(hc:zeC a0=true):∃N,zEh N a0=some [aT .bare (zca a0)]:=by
 have hs:=zC.1 hc;have hz:_/\_/\_:=hs
 refine ⟨0,?_⟩;unfold zEh oN;refine mu (mu (mu ?_))
 first|rfl|(simp only [*,zca,cT,cF]<;>rfl)|simp_all[Ty.cells,zca]
theorem zI1:vF 306 zy8:=kF1 zol zu zl zn (zo []) zPH
def z3i:zO:=[(254,zyZ),(298,zyL),(305,zy9),(312,zBu),(306,zy8)]++z3h
theorem z02:zF z3i:=zh zIP (zh zIB (zh zI2 (zh zLc (zh zI1 zol))))
def zdV (b:Bare)(i:Int)(x:Guest):Bare:={ b with Guests:=up b.Guests i x }
def znk (b:Bare)(n:Int):Bare:=bif ilt (ln b.Outs) 40 then { b with Outs:=ap b.Outs [n] } else b
@[simp] theorem zmn {b:Bare}{i:Int}{x:Guest}(h:SmB b)(hx:SmG x):SmB (zdV b i x):=⟨h.1,zCO h.2.1 hx,h.2.2⟩
@[simp] theorem zXY {b:Bare}{n:Int}(h:SmB b):SmB (znk b n):=by
 unfold znk;cases h1:ilt (ln b.Outs) 40
 .exact h
 .have:=qE h1;refine ⟨h.1,h.2.1,?_⟩;simp[ln] at *;omega
@[simp] theorem z7v (b:Bare)(n:Int):(znk b n).Guests=b.Guests:=by
 unfold znk;cases ilt (ln b.Outs) 40<;>rfl
@[simp] theorem zx8 {m:List (List Int)}{p c v:Int}(h:SmM m):SmM (zbx m p c v):=by
 unfold zbx;cases h1:zg8 m p c
 .exact h
 .cases h2:win v 0 99
  .exact h
  .exact zKh h (by simpa using z6z h ((zxG m p c).1 h1).1 [])
def zWB:zO:=z3i
theorem zsa:zF zWB:=z02
def zmK (b:Bare)(g:Int)(x:Guest)(w:Bool):Bare :=
 bif ze0 x.Live (zbc (address x)) (zbZ w) then
  (bif w then zdV { b with Memory:=zbx b.Memory (zcj x.Live (zbc (address x)) (zbZ w)) (zcQ (address x)) x.A } g (zbY x)
  else zdV b g (loaded x (cellAt b.Memory (zcj x.Live (zbc (address x)) (zbZ w)) (zcQ (address x)))))
 else zdV b g (stopped x (zp2 (zbc (address x)) w))
def zCP (b:Bare)(g:Int)(x:Guest)(w:Int):Bare :=
 zdV (cond (cond (zjq x.Ctl.Traps w) (ieq w 5) false) (znk b (zcb x.Prog x.Pc).X) b) g (ziG x x.Ctl.Traps w)
def stepped (b:Bare)(g:Int)(x:Guest)(w:Int):Bare :=
 bif ieq w 1 then zdV b g (interrupted x) else (cond (ieq w 2) (zdV b g (plainly x)) (cond (ieq w 3) (zmK b g x false) (cond (ieq w 4) (zmK b g x true) (zCP b g x w))))
def zkj (b:Bare)(g:Int):Bool:=bif hasB g (ln b.Guests) then (cond (zbX b) (!ieq (zS (gAt b g)) 0) false) else false
def zhm (b:Bare)(g:Int):Bare:=bif zkj b g then stepped b g (gAt b g) (zS (gAt b g)) else b
@[simp] theorem zV1 {b:Bare}{g:Int}{x:Guest}{w:Bool}(h:SmB b)(hx:SmG x):SmB (zmK b g x w):=by
 unfold zmK;cases ze0 x.Live (zbc (address x)) (zbZ w)
 .exact zmn h hx
 .cases w
  .exact zmn h (zKf _ hx)
  .exact ⟨zx8 h.1,zCO h.2.1 (zkd hx),h.2.2⟩
@[simp] theorem z5w {b:Bare}{g:Int}{x:Guest}{w:Int}(h:SmB b)(hx:SmG x):SmB (zCP b g x w):=by
 unfold zCP;cases (cond (zjq x.Ctl.Traps w) (ieq w 5) false)
 .exact zmn h (zCb _ _ hx)
 .exact zmn (zXY h) (zCb _ _ hx)
@[simp] theorem zU8 {b:Bare}{g:Int}{x:Guest}{w:Int}(h:SmB b)(hx:SmG x):SmB (stepped b g x w):=by
 unfold stepped;cases ieq w 1
 .cases ieq w 2
  .cases ieq w 3
   .cases ieq w 4
    .exact z5w h hx
    .exact zV1 h hx
   .exact zV1 h hx
  .exact zmn h (zE9 hx)
 .exact zmn h (zV2 hx)
@[simp] theorem z7x {b:Bare}{g:Int}(h:SmB b):SmB (zhm b g):=by
 unfold zhm;cases zkj b g
 .exact h
 .exact zU8 h (ziX g h)
theorem z7f (x:Guest):ieq (zS x) 0=false->ieq (zS x) 1=false->ieq (zS x) 2=false->ieq (zS x) 3=false->ieq (zS x) 4=false->ieq (zS x) 5=false->ieq (zS x) 6=false->ieq (zS x) 7=true:=by
 unfold zS zv7;cases canRun x
 .intro h;cases h
 .cases zhC x
  .simp only [cT,cF];generalize (zcb x.Prog x.Pc).Op=o;cases ieq o 3<;>cases ieq o 4<;>cases ieq o 5<;>cases ieq o 6<;>cases ieq o 7<;>simp [ieq]
  .intro _ h;cases h
def SmK (k:Kept):Prop:=k.Known.length<=1048576/\k.Slots.length<=1048576
def zAc (l:List Kept):Prop:=l.length<=1048576/\∀x∈l,SmK x
def zeG (m:Mon):Prop:=m.Outer.length<=1048576/\SmM m.Out/\m.Dirty.length<=1048576/\zlW m.Guests/\m.Outs.length<=1048576/\zAc m.Tables
def zpW (l:List Mon):Prop:=l.length<=1048576/\∀x∈l,zeG x
def SmH (h:Host):Prop:=SmM h.Memory/\zpW h.Mons/\h.Buffer.length<=1048576/\h.IoBuffer.length<=1048576
@[simp] theorem zvI (k:Kept):(∀c∈Ty.cells .kept k,CVB sm c)↔SmK k:=by simp[Ty.cells,SmK,z18]
@[simp] theorem z1a (l:List Kept):CVB sm (.s .kept l)↔zAc l:=by rw[zkm];simp only[zvI];rfl
@[simp] theorem zVs (m:Mon):(∀c∈Ty.cells .mon m,CVB sm c)↔zeG m:=by
 simp only[Ty.cells,qH,qX,or_false,vC,forall_eq,zom,ztA,z1a,zWK,zTY,zTX,z3B,and_true,true_and];rfl
@[simp] theorem z4A (l:List Mon):CVB sm (.s .mon l)↔zpW l:=by rw[zkm];simp only[zVs];rfl
@[simp] theorem zM (h:Host):zbA h↔SmH h:=by
 unfold zbA;simp only[zbf,qH,qX,or_false,vC,forall_eq,zom,z4A,zQ6];rfl
theorem zbp {p:Prop}(h:p):pc p=true:=zY h
theorem zwR {l:List Kept}{i:Int}{x:Kept}(h:zAc l)(hx:SmK x):zAc (up l i x):=by
 refine ⟨by simpa using h.1,fun y hy=>?_⟩
 rcases qZ hy with hy|rfl
 .exact h.2 y hy
 .exact hx
theorem zic {l:List Mon}{i:Int}{x:Mon}(h:zpW l)(hx:zeG x):zpW (up l i x):=by
 refine ⟨by simpa using h.1,fun y hy=>?_⟩
 rcases qZ hy with hy|rfl
 .exact h.2 y hy
 .exact hx
theorem zmt {α:Type}{l:List α}(h:l.length<=1048576):few (ln (ap [] l))=true:=by
 rw[zjv,z4I];omega
@[simp] abbrev zbD (h:Host):Bool:=pc (zbA h)
@[simp] abbrev zk (h:Host):Host:=h
def zza:Run:=rF1 dH fun b=>(zbD b,[aH (zk b)])
def zEj (N:Nat)(a0:Host):OA:=
 (oN (zfq a0.Memory) (oN (few (ln (ap [] a0.Buffer))) (oN (few (ln (ap [] a0.IoBuffer))) (iter (σ:=(Int×(lM×(lN×(lE×(lE×(lM×(lN×(lE×(lE×(lM×(lN×(lE×(lE×Unit)))))))))))))) N (fun r2 s3=>let y2:=s3.2.2.2.2.2.2.2.2.2.2.2.2.1;let y1:=(ix s3.2.2.1 s3.1 zf);let y0:=(ap s3.2.2.2.2.2.2.2.2.2.2.1 [(zmk y1)]); (cond (ilt s3.1 (ln s3.2.2.1)) (oN (inb s3.1 (ln s3.2.2.1)) (oN (ziC y1) (oN (few (ln y0)) (r2 ((zG .i64 s3.1 1),(s3.2.1,(s3.2.2.1,(s3.2.2.2.1,(s3.2.2.2.2.1,(s3.2.2.2.2.2.1,(s3.2.2.2.2.2.2.1,(s3.2.2.2.2.2.2.2.1,(s3.2.2.2.2.2.2.2.2.1,(s3.2.2.2.2.2.2.2.2.2.1,(y0,(s3.2.2.2.2.2.2.2.2.2.2.2.1,(y2,()))))))))))))))))) (some [(aH (⟨s3.2.2.2.2.2.2.2.2.2.1,s3.2.2.2.2.2.2.2.2.2.2.1,s3.2.2.2.2.2.2.2.2.2.2.2.1,y2⟩:Host))]))) (0,(a0.Memory,(a0.Mons,(a0.Buffer,(a0.IoBuffer,([],([],([],([],((zd2 a0.Memory),([],((ap [] a0.Buffer),((ap [] a0.IoBuffer),())))))))))))))))))
def zP7:FuncId->Nat->Option Tmpl:=zo [(35,0,{ n:=36,tm:=[(1,.lp 0 0),(2,.lp 1 0),(3,.lp 2 0),(4,ti)],lo:=[(0,[.sl 0 [],.sl 1 [],.sl 2 [],.sl 3 []]),(1,[.sl 4 [],.sl 5 [],.sl 6 [],.sl 7 []]),(2,[.sl 8 [],.sl 9 [],.sl 10 [],.sl 11 []])],ro:=[(0,(.sl .int),false),(1,.mon,false),(2,.entry,false),(3,.entry,false),(4,(.sl .int),true),(5,.mon,true),(6,.entry,true),(7,.entry,true),(8,(.sl .int),true),(9,.mon,true),(10,.entry,true),(11,.entry,true)] })]
theorem zPJ (a0:Host)(hc:zbD a0=true):∃N,zEj N a0=some [aH (zk a0)]:=by
 obtain ⟨h1,h2,h3,h4⟩:=(zM a0).1 (zC.1 hc);have hl:=zcd h2.1;refine zbT fun N hNN=>?_;unfold zEj oN
 conv=>zeta
 refine must (zbp ((zom _).2 h1)) (must (zmt h3) (must (zmt h4) ?_));refine (zba a0.Mons (fun i (t:lN)=>((i:Int),a0.Memory,a0.Mons,a0.Buffer,a0.IoBuffer,[],[],[],[],(zd2 a0.Memory),t,(ap [] a0.Buffer),(ap [] a0.IoBuffer),())) _ (fun _ x acc κ=>bif ziC x then (cond (few (ln (ap acc [zmk x]))) (κ (ap acc [zmk x])) none) else none) (fun (t:lN)=>(some [(.agg (zbf (⟨(zd2 a0.Memory),t,(ap [] a0.Buffer),(ap [] a0.IoBuffer)⟩:Host)))])) (fun i hi t rec=>?_) (fun t rec=>?_) _ ([]) (hNN hl.1)).trans ?_
 .simp only [zbh hi,zN hi,zZ hi,zU hi hl.1,cT]
 .simp only [zbb,cF]
 exact zie ziC zmk _ a0.Mons 0 [] (fun x hx=>⟨zbp ((zVs x).2 (h2.2 x hx)),rfl⟩) (by simpa using hl.2)
theorem zI3:vF 35 zza:=kF1 zsa zu zl zn zP7 zPJ
@[simp] abbrev zgB (k:Kept):Bool:=pc (SmK k)
@[simp] abbrev zdl (k:Kept):Kept:=k
def zwg:Run:=rF1 (dT .kept) fun b=>(zgB b,[aT .kept (zdl b)])
def zzH (N:Nat)(a0:Kept):OA:=
 (oN (few (ln (ap [] a0.Known))) (oN (zfP a0.Slots) (some [(aT .kept (⟨(ap [] a0.Known),(zez a0.Slots)⟩:Kept))])))
theorem zLT (a0:Kept)(hc:zgB a0=true):∃N,zzH N a0=some [aT .kept (zdl a0)]:=by
 have hs:=zC.1 hc;obtain ⟨h1,h2⟩:=hs;have hs1:a0.Known.length<=2147483648:=(by omega);have hs2:a0.Slots.length<=2147483648:=(by omega)
 refine ⟨0,?_⟩;unfold zzH oN;refine mu (mu ?_)
 first|rfl|(simp only [*,zdl,cT,cF]<;>rfl)|simp_all[Ty.cells,zdl]
theorem zFO:vF 151 zwg:=kF1 zsa zu zl zn (zo []) zLT
def z2V:zO:=[(35,zza),(151,zwg)]++zWB
theorem zQV:zF z2V:=zh zI3 (zh zFO zsa)
@[simp] abbrev zlh (m:Mon):Bool:=pc (zeG m)
@[simp] abbrev zmw (m:Mon):Mon:=m
def zyI:Run:=rF1 (dT .mon) fun b=>(zlh b,[aT .mon (zmw b)])
def zDN (N:Nat)(a0:Mon):OA:=
 (oN (zfP a0.Outer) (oN (zhr a0.Out) (oN (few (ln (ap [] a0.Dirty))) (oN (zkt a0.Guests) (oN (zdp a0.Outs) (iter (σ:=(Int×(Int×(Int×(Int×(Int×(Int×(Int×(Int×(lK×(lK×(lS×(lM×(lB×(lG×((List Int)×(lS×(lM×(lB×(lG×((List Int)×(lK×Unit)))))))))))))))))))))) N (fun r2 s3=>let y5:=s3.2.2.2.2.2.2.2.2.2.2.2.2.1;let y4:=s3.2.2.2.2.2.2.2.2.2.2.2.2.2.1;let y3:=s3.2.2.2.2.2.2.2.2.2.2.2.2.2.2.1;let y2:=s3.2.2.2.2.2.2.2.2.1;let y1:=s3.2.2.2.2.2.2.2.2.2.1;let y0:=(ix y1 s3.2.1 zee); (cond (ilt s3.2.1 s3.1) (oN (inb s3.2.1 (ln y1)) (oN (zgB y0) (oN (few (ln (ap y2 [(zdl y0)]))) (r2 (s3.1,((zG .i64 s3.2.1 1),(s3.2.2.1,(s3.2.2.2.1,(s3.2.2.2.2.1,(s3.2.2.2.2.2.1,(s3.2.2.2.2.2.2.1,(s3.2.2.2.2.2.2.2.1,((ap y2 [(zdl y0)]),(y1,(s3.2.2.2.2.2.2.2.2.2.2.1,(s3.2.2.2.2.2.2.2.2.2.2.2.1,(y5,(y4,(y3,(s3.2.2.2.2.2.2.2.2.2.2.2.2.2.2.2.1,(s3.2.2.2.2.2.2.2.2.2.2.2.2.2.2.2.2.1,(s3.2.2.2.2.2.2.2.2.2.2.2.2.2.2.2.2.2.1,(s3.2.2.2.2.2.2.2.2.2.2.2.2.2.2.2.2.2.2.1,(s3.2.2.2.2.2.2.2.2.2.2.2.2.2.2.2.2.2.2.2.1,(s3.2.2.2.2.2.2.2.2.2.2.2.2.2.2.2.2.2.2.2.2.1,()))))))))))))))))))))))))) (some [(aT .mon (⟨s3.2.2.2.2.2.2.2.2.2.2.1,s3.2.2.2.2.2.2.2.2.2.2.2.1,y5,y4,y3,s3.2.2.1,s3.2.2.2.1,y2,s3.2.2.2.2.1⟩:Mon))]))) ((ln a0.Tables),(0,(a0.Pending,(a0.Traps,(a0.Own,(0,(0,(0,([],(a0.Tables,((zez a0.Outer),((ze6 a0.Out),((ap [] a0.Dirty),((zjM a0.Guests),((zdk a0.Outs),([],([],([],([],([],([],())))))))))))))))))))))))))))
def zP0:FuncId->Nat->Option Tmpl:=zo [(115,0,{ n:=44,tm:=[(1,.lp 0 0),(2,.lp 1 0),(3,.sl 0 []),(29,.sl 1 []),(30,ti),(31,ti)],lo:=[(0,[.sl 2 [],.sl 3 [],.sl 4 [],.sl 5 [],.sl 6 [],ti,ti,.sl 1 [],ti]),(1,[.sl 7 [],.sl 8 [],.sl 9 [],.sl 10 [],.sl 11 [],ti,ti,.sl 12 [],ti])],ro:=[(0,.kept,true),(1,.kept,false),(2,.slot,true),(3,(.sl .int),true),(4,.bool,true),(5,.guest,true),(6,.int,true),(7,.slot,true),(8,(.sl .int),true),(9,.bool,true),(10,.guest,true),(11,.int,true),(12,.kept,true)] })]
theorem zO9 (a0:Mon)(hc:zlh a0=true):∃N,zDN N a0=some [aT .mon (zmw a0)]:=by
 obtain ⟨h1,h2,h3,h4,h5,h6⟩:=zC.1 hc;have hl:=zcd h6.1;refine zbT fun N hNN=>?_;unfold zDN oN
 conv=>zeta
 have c1:zfP a0.Outer=true:=by simp;omega
 have c2:zhr a0.Out=true:=by simp;exact h2
 have c4:zkt a0.Guests=true:=by simp;exact h4
 have c5:zdp a0.Outs=true:=by simp;omega
 refine must c1 (must c2 (must (zmt h3) (must c4 (must c5 ?_))));refine (zba a0.Tables (fun i (t:lK)=>((ln a0.Tables),(i:Int),a0.Pending,a0.Traps,a0.Own,0,0,0,t,a0.Tables,(zez a0.Outer),(ze6 a0.Out),(ap [] a0.Dirty),(zjM a0.Guests),(zdk a0.Outs),[],[],[],[],[],[],())) _ (fun _ x acc κ=>bif zgB x then (cond (few (ln (ap acc [zdl x]))) (κ (ap acc [zdl x])) none) else none) (fun (t:lK)=>(some [(.agg (Ty.cells .mon (⟨(zez a0.Outer),(ze6 a0.Out),(ap [] a0.Dirty),(zjM a0.Guests),(zdk a0.Outs),a0.Pending,a0.Traps,t,a0.Own⟩:Mon)))])) (fun i hi t rec=>?_) (fun t rec=>?_) _ ([]) (hNN hl.1)).trans ?_
 .simp only [zbh hi,zN hi,zZ hi,zU hi hl.1,cT]
 .simp only [zbb,cF]
 exact zie zgB zdl _ a0.Tables 0 [] (fun x hx=>⟨zbp (h6.2 x hx),rfl⟩) (by simpa using hl.2)
theorem zIy:vF 115 zyI:=kF1 zQV zu zl zn zP0 zO9
def z2W:zO:=[(115,zyI)]++z2V
theorem zw8:zF z2W:=zh zIy zQV
@[simp] abbrev zm7 (h:Host):Bool:=pc (zbA h)
@[simp] abbrev zf0 (h:Host):Host:=h
def zwe:Run:=rF1 dH fun b=>(zm7 b,[aH (zf0 b)])
def zzF (N:Nat)(a0:Host):OA:=
 (oN (zhr a0.Memory) (oN (few (ln (ap [] a0.Buffer))) (oN (few (ln (ap [] a0.IoBuffer))) (iter (σ:=(Int×(Int×(lN×(lM×(lN×(lE×(lE×(lM×(lN×(lE×(lE×Unit)))))))))))) N (fun r2 s3=>let y1:=(ix s3.2.2.1 s3.2.1 zf);let y0:=(ap s3.2.2.2.2.2.2.2.2.1 [(zmw y1)]); (cond (ilt s3.2.1 s3.1) (oN (inb s3.2.1 (ln s3.2.2.1)) (oN (zlh y1) (oN (few (ln y0)) (r2 (s3.1,((zG .i64 s3.2.1 1),(s3.2.2.1,(s3.2.2.2.1,(s3.2.2.2.2.1,(s3.2.2.2.2.2.1,(s3.2.2.2.2.2.2.1,(s3.2.2.2.2.2.2.2.1,(y0,(s3.2.2.2.2.2.2.2.2.2.1,(s3.2.2.2.2.2.2.2.2.2.2.1,()))))))))))))))) (some [(aH (⟨s3.2.2.2.2.2.2.2.1,s3.2.2.2.2.2.2.2.2.1,s3.2.2.2.2.2.2.2.2.2.1,s3.2.2.2.2.2.2.2.2.2.2.1⟩:Host))]))) ((ln a0.Mons),(0,(a0.Mons,([],([],([],([],((ze6 a0.Memory),([],((ap [] a0.Buffer),((ap [] a0.IoBuffer),())))))))))))))))
def zMU:FuncId->Nat->Option Tmpl:=zo [(48,0,{ n:=34,tm:=[(2,.lp 0 0),(3,.lp 1 0),(19,.sl 0 []),(20,ti),(21,ti)],lo:=[(0,[.sl 1 [],.sl 2 [],.sl 3 [],.sl 4 []]),(1,[.sl 5 [],.sl 6 [],.sl 7 [],.sl 8 []])],ro:=[(0,.mon,false),(1,(.sl .int),true),(2,.mon,true),(3,.entry,true),(4,.entry,true),(5,(.sl .int),true),(6,.mon,true),(7,.entry,true),(8,.entry,true)] })]
theorem zLR (a0:Host)(hc:zm7 a0=true):∃N,zzF N a0=some [aH (zf0 a0)]:=by
 obtain ⟨h1,h2,h3,h4⟩:=(zM a0).1 (zC.1 hc);have hl:=zcd h2.1;refine zbT fun N hNN=>?_;unfold zzF oN
 conv=>zeta
 have c1:zhr a0.Memory=true:=by simp;exact h1
 refine must c1 (must (zmt h3) (must (zmt h4) ?_));refine (zba a0.Mons (fun i (t:lN)=>((ln a0.Mons),(i:Int),a0.Mons,[],[],[],[],(ze6 a0.Memory),t,(ap [] a0.Buffer),(ap [] a0.IoBuffer),())) _ (fun _ x acc κ=>bif zlh x then (cond (few (ln (ap acc [zmw x]))) (κ (ap acc [zmw x])) none) else none) (fun (t:lN)=>(some [(.agg (zbf (⟨(ze6 a0.Memory),t,(ap [] a0.Buffer),(ap [] a0.IoBuffer)⟩:Host)))])) (fun i hi t rec=>?_) (fun t rec=>?_) _ ([]) (hNN hl.1)).trans ?_
 .simp only [zbh hi,zN hi,zZ hi,zU hi hl.1,cT]
 .simp only [zbb,cF]
 exact zie zlh zmw _ a0.Mons 0 [] (fun x hx=>⟨zbp (h2.2 x hx),rfl⟩) (by simpa using hl.2)
theorem zFM:vF 48 zwe:=kF1 zw8 zu zl zn zMU zLR
def allI {α:Type}(p:Nat->α->Bool):List α->Nat->Bool
 | [],_=>true
 | x :: l,i=>p i x&&allI p l (i+1)
theorem zFH {α ρ:Type}(p:Nat->α->Bool)(r:Option ρ)(K:Unit->Option ρ):∀(l:List α) (i:Nat),goL (fun i x (_:Unit) k=>bif p i x then k () else r) K l i ()=bif allI p l i then K () else r
 | [],_=>rfl
 | x :: l,i=>by
  simp only[goL,allI];cases p i x
  .rfl
  .simp only [cT,u4];exact zFH p r K l (i+1)
theorem zNA {α:Type}(q:α->Bool)(l:List α)(d:α):∀(n i:Nat),i+n<=l.length->zmU (fun j=>q (ix l (j:Int) d)) n i=((l.drop i).take n).all q
 | 0,i,_=>by simp[zmU]
 | n+1,i,h=>by
  have hi:i<l.length:=by omega
  rw[kJ hi,List.take_succ_cons,uE,<- zNA q l d n (i+1) (by omega)]
  simp only[zmU,zZ hi]
def sameKey (a b:Entry):Bool:=bif ieq a.Tag b.Tag then ieq a.Page b.Page else false
def alone (l:List Entry)(i:Nat)(x:Entry):Bool:=(l.take i).all fun y=>!sameKey x y
def zex (l:List Entry):Bool:=bif allI (alone l) l 0 then ile (ln l) 6 else false
theorem z1p {α:Type}{l:List α}{i:Nat}(h:i<=l.length):inr 0 (i:Int) (ln l)=true:=qK (by simp only[ln];omega)
@[simp] abbrev zm3 (l:List Entry):Bool:=true
@[simp] abbrev zm2 (l:List Entry):Bool:=zex l
def zwb:Run:=rF1 (dS .entry) fun b=>(zm3 b,[aB (zm2 b)])
def zzC (N:Nat)(a0:lE):OA:=
 (iter (σ:=(Int×(Int×(lE×Unit)))) N (fun r2 s3=>let y3:=s3.2.2.1;let y1:=(ix y3 s3.2.1 zew); (cond (ilt s3.2.1 s3.1) (oN (inb s3.2.1 (ln y3)) (oN (inr 0 s3.2.1 (ln y3)) (iter (σ:=(Int×(Int×(Int×(Int×(Int×(Int×(Int×(Int×(lE×(lE×Unit))))))))))) N (fun r4 s5=>let y4:=s5.2.2.2.1;let y2:=s5.2.2.2.2.2.2.2.2.2.1;let y0:=(r4 (s5.1,(s5.2.1,(s5.2.2.1,((zG .i64 y4 1),(s5.2.2.2.2.1,(s5.2.2.2.2.2.1,(s5.2.2.2.2.2.2.1,(s5.2.2.2.2.2.2.2.1,(s5.2.2.2.2.2.2.2.2.1,(y2,()))))))))))); (cond (ilt y4 s5.2.2.1) (oN (inb y4 (ln y2)) (cond (ieq s5.2.2.2.2.1 (ix y2 y4 zew).Tag) (cond (ieq s5.2.2.2.2.2.1 (ix y2 y4 zew).Page) oF y0) y0)) (r2 (s5.1,((zG .i64 s5.2.1 1),(s5.2.2.2.2.2.2.2.2.1,())))))) (s3.1,(s3.2.1,((ln (tk y3 s3.2.1)),(0,(y1.Tag,(y1.Page,(y1.Host,(y1.Rights,(y3,((tk y3 s3.2.1),()))))))))))))) (some [(aB (ile (ln y3) 6))]))) ((ln a0),(0,(a0,()))))
def zMS:FuncId->Nat->Option Tmpl:=zo [(107,0,{ n:=39,tm:=[(0,.sl 0 []),(7,.sl 0 []),(8,ti),(9,ti)],lo:=[],ro:=[(0,.entry,false)] }),(107,2,{ n:=39,tm:=[(0,.sl 0 []),(4,.lp 0 0),(7,.sl 0 []),(8,ti),(9,ti),(16,.sl 1 []),(17,ti),(18,ti)],lo:=[(0,[ti,ti,ti,ti])],ro:=[(0,.entry,false),(1,.entry,false)] })]
theorem zLN (a0:List Entry)(hb:zbB big [aS .entry a0])(hc:zm3 a0=true):∃N,zzC N a0=some [aB (zm2 a0)]:=by
 have hl:=(len0 hb);refine zbT fun N hNN=>?_;unfold zzC oN
 conv=>zeta
 refine (zba a0 (fun i (t:Unit)=>((ln a0),(i:Int),a0,())) _ (fun i (x:Entry) (_:Unit) κ=>bif alone a0 i x then κ () else oF) (fun (t:Unit)=>(some [(.one (.b (ile (ln a0) 6)))])) (fun i hi t rec=>?_) (fun t rec=>?_) _ () (hNN hl)).trans ?_
 .simp only [zbh hi,zN hi,zZ hi,zU hi hl,cT];rw[z1p (Nat.le_of_lt hi),cT];have hk:(tk a0 (i:Int)).length<=big:=jC (by simp[tk];omega) hl
  refine (zba (tk a0 (i:Int)) (fun j (u:Unit)=>((ln a0),(i:Int),(ln (tk a0 (i:Int))),(j:Int),a0[i].Tag,a0[i].Page,a0[i].Host,a0[i].Rights,a0,(tk a0 (i:Int)),())) _ (fun _ (y:Entry) (_:Unit) κ=>bif !sameKey a0[i] y then κ () else oF) (fun (u:Unit)=>(rec ((ln a0),((((i+1:Nat)):Int),(a0,()))))) (fun j hj u rec1=>?_) (fun u rec1=>?_) _ () (hNN hk)).trans ?_
  .simp only [zbh hj,zN hj,zZ hj,zU hj hk,cT,zU hi hl];unfold sameKey;cases ieq a0[i].Tag (tk a0 (i:Int))[j].Tag<;>cases ieq a0[i].Page (tk a0 (i:Int))[j].Page<;>rfl
  .simp only [zbb,cF,zU hi hl]
  rw[zgn (fun y=>!sameKey a0[i] y)];rfl
 .simp only [zbb,cF]
 rw[zFH (alone a0)];unfold zm2 zex;cases allI (alone a0) a0 0<;>rfl
theorem zFJ:vF 107 zwb:=hF1 zw8 zu zl zn zMS zLN
@[simp] abbrev znA (l:List Entry):Bool:=true
@[simp] abbrev znz (l:List Entry):Bool:=zex l
def zwp:Run:=rF1 (dS .entry) fun b=>(znA b,[aB (znz b)])
def zzS (N:Nat)(a0:lE):OA:=
 (iter (σ:=(Int×(lE×Unit))) N (fun r2 s3=>(cond (ilt s3.1 (ln s3.2.1)) (iter (σ:=(Int×(Int×(lE×Unit)))) N (fun r4 s5=>let y0:=s5.2.2.1;let y2:=(ix y0 s5.2.1 zew);let y1:=(r4 (s5.1,((zG .i64 s5.2.1 1),(y0,())))); (cond (ilt s5.2.1 s5.1) (oN (inb s5.1 (ln y0)) (oN (inb s5.2.1 (ln y0)) (cond (ieq (ix y0 s5.1 zew).Tag y2.Tag) (oN (inb s5.1 (ln y0)) (oN (inb s5.2.1 (ln y0)) (cond (ieq (ix y0 s5.1 zew).Page y2.Page) oF y1))) y1))) (r2 ((zG .i64 s5.1 1),(y0,()))))) (s3.1,(0,(s3.2.1,())))) (some [(aB (ile (ln s3.2.1) 6))]))) (0,(a0,())))
def zMZ:FuncId->Nat->Option Tmpl:=zo [(156,0,{ n:=43,tm:=[(0,.sl 0 []),(3,ti)],lo:=[],ro:=[(0,.entry,false)] }),(156,2,{ n:=43,tm:=[(0,.sl 0 []),(3,ti),(4,ti)],lo:=[],ro:=[(0,.entry,false)] })]
theorem zL3 (a0:List Entry)(hb:zbB big [aS .entry a0])(hc:znA a0=true):∃N,zzS N a0=some [aB (znz a0)]:=by
 have hl:=(len0 hb);refine zbT fun N hNN=>?_;unfold zzS oN
 conv=>zeta
 refine (zba a0 (fun i (t:Unit)=>((i:Int),a0,())) _ (fun i (x:Entry) (_:Unit) κ=>bif alone a0 i x then κ () else oF) (fun (t:Unit)=>(some [(.one (.b (ile (ln a0) 6)))])) (fun i hi t rec=>?_) (fun t rec=>?_) _ () (hNN hl)).trans ?_
 .simp only [zbh hi,zN hi,zZ hi,zU hi hl,cT];refine (zov i (fun (j:Nat) (_:Unit)=>((i:Int),((j:Int),(a0,())))) _ (fun j (_:Unit) κ=>bif !sameKey a0[i] (ix a0 (j:Int) zew) then κ () else oF) (fun _=>rec (((i+1:Nat):Int),(a0,()))) (fun j hj u rec1=>?_) (fun u rec1=>?_) _ () (hNN (by omega))).trans ?_
  .have hj2:j<a0.length:=by omega
   simp only[show ilt (j:Int) (i:Int)=true from qK (by omega),zN hi,zN hj2,zZ hi,zU hj2 hl,cT]
   unfold sameKey;cases ieq a0[i].Tag (ix a0 (j:Int) zew).Tag<;>cases ieq a0[i].Page (ix a0 (j:Int) zew).Page<;>rfl
  .simp only [show ilt (i:Int) (i:Int)=false from qJ (by omega),zU hi hl,cF]
  rw[zCC (fun j=>!sameKey a0[i] (ix a0 (j:Int) zew)),zNA (fun y=>!sameKey a0[i] y) a0 _ i 0 (by omega)]
  rfl
 .simp only [zbb,cF]
 rw[zFH (alone a0)];unfold znz zex;cases allI (alone a0) a0 0<;>rfl
theorem zFX:vF 156 zwp:=hF1 zw8 zu zl zn zMZ zL3
def z2X:zO:=[(48,zwe),(156,zwp),(107,zwb)]++z2W
theorem zFx:zF z2X:=zh zFM (zh zFX (zh zFJ zw8))
theorem zLI (a b:Int):igt a b = !ile a b:=by
 unfold igt ile
 by_cases h:a<=b
 .rw [qK h,qJ (by omega)];rfl
 .rw [qJ h,qK (by omega)];rfl
theorem stB {c M:Bool}{E:OA}(h:c=true->E=some [AV.one (.b M)]):(cond (cond c false true) (some [AV.one (.b false)]) E)=some [AV.one (.b (cond c M false))]:=by
 cases c
 .rfl
 .exact h rfl
theorem stI {a b:Int}{M:Bool}{E:OA}(h:ieq a b=true->E=some [AV.one (.b M)]):(cond (ine a b) (some [AV.one (.b false)]) E)=some [AV.one (.b (cond (ieq a b) M false))]:=by
 rw[zmx];cases hh:ieq a b
 .rfl
 .exact h hh
theorem stG {a b:Int}{M:Bool}{E:OA}(h:ile a b=true->E=some [AV.one (.b M)]):(cond (igt a b) (some [AV.one (.b false)]) E)=some [AV.one (.b (cond (ile a b) M false))]:=by
 rw[zLI];cases hh:ile a b
 .rfl
 .exact h hh
def zkB (s:Slot)(p:List Int):Bool:=bif zcq s noSlot then zb6 p else (cond (enough s.Rights 1) (ile (ln p) 0) false)
def fits (m:Mon)(j:Nat):Bool:=zkB (ix m.Outer (j:Int) zJ) (ix m.Out (j:Int) [])
def zdD (m:Mon):Bool:=bif win (ln m.Guests) 1 2 then (cond (ieq (ln m.Tables) (ln m.Guests)) (cond (zcw m.Outer 8 12) (cond (ieq (ln m.Out) 8) (cond (ieq (ln m.Dirty) 8) (cond (ile (ln m.Outs) 40) (cond (zcJ m.Pending) (cond (win m.Traps 0 3) (cond (win m.Own 0 1000000000) (cond (m.Guests.all zcT) (zmU (fits m) 8 0) false) false) false) false) false) false) false) false) false) else false
theorem zqu {t:List Slot}{n p:Int}(h:zcw t n p=true):ln t=n:=by
 unfold zcw at h;cases h1:t.all (fun s=>zde s p)
 .rw [h1]at h;cases h
 .rw [h1]at h;exact qE h
@[simp] abbrev zqc (m:Mon):Bool:=true
@[simp] abbrev zrU (m:Mon):Bool:=zdD m
def zEN:Run:=rF1 (dT .mon) fun b=>(zqc b,[aB (zrU b)])
def zNi (N:Nat)(a0:Mon):OA:=
 let y5:=(ln a0.Guests); (oN (zb7 y5 1 2) (cond (nB (zcp y5 1 2)) oF (cond (ine (ln a0.Tables) y5) oF (oN (zlg a0.Outer 8 12) (cond (nB (zg4 a0.Outer 8 12)) oF (cond (ine (ln a0.Out) 8) oF (cond (ine (ln a0.Dirty) 8) oF (cond (igt (ln a0.Outs) 40) oF (oN (zrm a0.Pending) (cond (nB (zor a0.Pending)) oF (oN (zb7 a0.Traps 0 3) (cond (nB (zcp a0.Traps 0 3)) oF (oN (zb7 a0.Own 0 1000000000) (cond (nB (zcp a0.Own 0 1000000000)) oF (iter (σ:=(Int×(Int×(Int×(Int×(Int×(lG×(lS×(lM×(lB×((List Int)×(lK×Unit)))))))))))) N (fun r2 s3=>let y6:=s3.2.2.2.2.2.2.1;let y3:=s3.2.2.2.2.2.1;let y7:=(ix y3 s3.2.1 zx); (cond (ilt s3.2.1 s3.1) (oN (inb s3.2.1 (ln y3)) (oN (zpe y7) (cond (nB (zmv y7)) oF (r2 (s3.1,((zG .i64 s3.2.1 1),(s3.2.2.1,(s3.2.2.2.1,(s3.2.2.2.2.1,(y3,(y6,(s3.2.2.2.2.2.2.2.1,(s3.2.2.2.2.2.2.2.2.1,(s3.2.2.2.2.2.2.2.2.2.1,(s3.2.2.2.2.2.2.2.2.2.2.1,()))))))))))))))) (iter (σ:=(Int×(Int×(Int×(Int×(Int×(lS×(lM×(lB×(lG×((List Int)×(lK×Unit)))))))))))) N (fun r4 s5=>let y4:=s5.2.1;let y2:=s5.2.2.2.2.2.2.1;let y1:=(ix s5.2.2.2.2.2.1 y4 zJ);let y0:=(r4 (s5.1,((zG .i64 y4 1),(s5.2.2.1,(s5.2.2.2.1,(s5.2.2.2.2.1,(s5.2.2.2.2.2.1,(y2,(s5.2.2.2.2.2.2.2.1,(s5.2.2.2.2.2.2.2.2.1,(s5.2.2.2.2.2.2.2.2.2.1,(s5.2.2.2.2.2.2.2.2.2.2.1,())))))))))))); (cond (ilt y4 s5.1) (oN (inb y4 (ln s5.2.2.2.2.2.1)) (oN zeM (cond (cond (ieq y1.Page zeL.Page) (ieq y1.Rights zeL.Rights) false) (oN (inb y4 (ln y2)) (oN (zg3 (ix y2 y4 [])) (cond (nB (zfO (ix y2 y4 []))) oF y0))) (oN (zdy y1.Rights 1) (cond (nB (zdY y1.Rights 1)) oF (oN (inb y4 (ln y2)) (cond (igt (ln (ix y2 y4 [])) 0) oF y0))))))) oT)) ((ln y6),(0,(s3.2.2.1,(s3.2.2.2.1,(s3.2.2.2.2.1,(y6,(s3.2.2.2.2.2.2.2.1,(s3.2.2.2.2.2.2.2.2.1,(y3,(s3.2.2.2.2.2.2.2.2.2.1,(s3.2.2.2.2.2.2.2.2.2.2.1,())))))))))))))) (y5,(0,(a0.Pending,(a0.Traps,(a0.Own,(a0.Guests,(a0.Outer,(a0.Out,(a0.Dirty,(a0.Outs,(a0.Tables,()))))))))))))))))))))))))))
def zVb:FuncId->Nat->Option Tmpl:=zo [(108,0,{ n:=106,tm:=[(1,.lp 0 0),(64,.sl 0 []),(65,ti),(66,ti)],lo:=[(0,[.sl 1 [],.sl 2 [],.sl 3 [],.sl 0 [],.sl 4 [],ti,ti,.sl 5 [],ti])],ro:=[(0,.guest,false),(1,.slot,false),(2,(.sl .int),false),(3,.bool,false),(4,.int,false),(5,.kept,false)] }),(108,2,{ n:=106,tm:=[(1,.lp 0 0),(75,.sl 0 []),(76,ti),(77,ti)],lo:=[(0,[.sl 0 [],.sl 1 [],.sl 2 [],.sl 3 [],.sl 4 [],ti,ti,.sl 5 [],ti])],ro:=[(0,.slot,false),(1,(.sl .int),false),(2,.bool,false),(3,.guest,false),(4,.int,false),(5,.kept,false)] })]
theorem zUi (a0:Mon)(hb:zbB big [aT .mon a0])(hc:zqc a0=true):∃N,zNi N a0=some [aB (zrU a0)]:=by
 have hg:a0.Guests.length<=big:=((zcU hb).1 (.s .guest a0.Guests) (by simp[AV.cvs,Ty.cells])).len
 have ho:a0.Outer.length<=big:=((zcU hb).1 (.s .slot a0.Outer) (by simp[AV.cvs,Ty.cells])).len
 refine zbT fun N hNN=>?_;unfold zNi zrU zdD oN nB
 conv=>zeta
 refine must rfl (stB fun h0=>stI fun h1=>must rfl (stB fun h2=>stI fun h3=>stI fun h4=>stG fun h5=>must rfl (stB fun h6=>must rfl (stB fun h7=>must rfl (stB fun h8=>?_)))));have e1:=zqu h2;have e3:ln a0.Out=8:=qE h3;simp only[ln] at e1 e3;refine (zba a0.Guests (fun i (t:Unit)=>((ln a0.Guests),(i:Int),a0.Pending,a0.Traps,a0.Own,a0.Guests,a0.Outer,a0.Out,a0.Dirty,a0.Outs,a0.Tables,())) _ (fun _ (x:Guest) (_:Unit) κ=>bif zcT x then κ () else oF) (fun (t:Unit)=>(iter (σ:=(Int×(Int×(Int×(Int×(Int×(lS×(lM×(lB×(lG×((List Int)×(lK×Unit)))))))))))) N (fun r4 s5=>(cond (ilt s5.2.1 s5.1) (cond (inb s5.2.1 (ln s5.2.2.2.2.2.1)) (cond zeM (cond (cond (ieq (ix s5.2.2.2.2.2.1 s5.2.1 zJ).Page zeL.Page) (ieq (ix s5.2.2.2.2.2.1 s5.2.1 zJ).Rights zeL.Rights) false) (cond (inb s5.2.1 (ln s5.2.2.2.2.2.2.1)) (cond (zg3 (ix s5.2.2.2.2.2.2.1 s5.2.1 [])) (cond (cond (zfO (ix s5.2.2.2.2.2.2.1 s5.2.1 [])) false true) oF (r4 (s5.1,((zG .i64 s5.2.1 1),(s5.2.2.1,(s5.2.2.2.1,(s5.2.2.2.2.1,(s5.2.2.2.2.2.1,(s5.2.2.2.2.2.2.1,(s5.2.2.2.2.2.2.2.1,(s5.2.2.2.2.2.2.2.2.1,(s5.2.2.2.2.2.2.2.2.2.1,(s5.2.2.2.2.2.2.2.2.2.2.1,()))))))))))))) none) none) (cond (zdy (ix s5.2.2.2.2.2.1 s5.2.1 zJ).Rights 1) (cond (cond (zdY (ix s5.2.2.2.2.2.1 s5.2.1 zJ).Rights 1) false true) oF (cond (inb s5.2.1 (ln s5.2.2.2.2.2.2.1)) (cond (igt (ln (ix s5.2.2.2.2.2.2.1 s5.2.1 [])) 0) oF (r4 (s5.1,((zG .i64 s5.2.1 1),(s5.2.2.1,(s5.2.2.2.1,(s5.2.2.2.2.1,(s5.2.2.2.2.2.1,(s5.2.2.2.2.2.2.1,(s5.2.2.2.2.2.2.2.1,(s5.2.2.2.2.2.2.2.2.1,(s5.2.2.2.2.2.2.2.2.2.1,(s5.2.2.2.2.2.2.2.2.2.2.1,()))))))))))))) none)) none)) none) none) (some [(.one (.b true))]))) ((ln a0.Outer),(0,(a0.Pending,(a0.Traps,(a0.Own,(a0.Outer,(a0.Out,(a0.Dirty,(a0.Guests,(a0.Outs,(a0.Tables,()))))))))))))) (fun i hi t rec=>?_) (fun t rec=>?_) _ () (hNN hg)).trans ?_
 .simp only [zbh hi,zN hi,zZ hi,zU hi hg,cT];simp only[zpe,zmv,cT];cases zcT a0.Guests[i]<;>rfl
 .simp only [zbb,cF]
 rw[zgn zcT];cases a0.Guests.all zcT
 .rfl
 simp only[cT];refine (zba a0.Outer (fun j (u:Unit)=>((ln a0.Outer),(j:Int),a0.Pending,a0.Traps,a0.Own,a0.Outer,a0.Out,a0.Dirty,a0.Guests,a0.Outs,a0.Tables,())) _ (fun j (_:Slot) (_:Unit) κ=>bif fits a0 j then κ () else oF) (fun (u:Unit)=>(some [(.one (.b true))])) (fun j hj u rec1=>?_) (fun u rec1=>?_) _ () (hNN ho)).trans ?_
 .simp only [zbh hj,zN hj,zZ hj,zU hj ho,cT];have hj2:j<a0.Out.length:=by omega
  simp only[zeM,zeL,zg3,zfO,zdy,zdY,zN hj2,zLI,cT];unfold fits zkB;simp only[zZ hj,zcq];cases ieq a0.Outer[j].Page noSlot.Page<;>cases ieq a0.Outer[j].Rights noSlot.Rights<;>cases enough a0.Outer[j].Rights 1<;>cases ile (ln (ix a0.Out (j:Int) [])) 0<;>cases zb6 (ix a0.Out (j:Int) [])<;>rfl
 .simp only [zbb,cF]
 rw[zvP (fun j (_:Unit) κ=>bif fits a0 j then κ () else oF),zCC (fits a0),show a0.Outer.length=8 by omega]
 cases zmU (fits a0) 8 0<;>rfl
theorem zOL:vF 108 zEN:=hF1 zFx zu zl zn zVb zUi
@[simp] abbrev zqo (m:Mon):Bool:=true
@[simp] abbrev zr2 (m:Mon):Bool:=zdD m
def zEV:Run:=rF1 (dT .mon) fun b=>(zqo b,[aB (zr2 b)])
def zNs (N:Nat)(a0:Mon):OA:=
 (oN (zI (ln a0.Guests) 1 2) (cond (nB (zK (ln a0.Guests) 1 2)) oF (cond (ine (ln a0.Tables) (ln a0.Guests)) oF (oN (zlz a0.Outer 8 12) (cond (nB (zhc a0.Outer 8 12)) oF (cond (ine (ln a0.Out) 8) oF (cond (ine (ln a0.Dirty) 8) oF (iter (σ:=(Int×(Int×(Int×(Int×(lS×(lM×(lB×(lG×((List Int)×(lK×Unit))))))))))) N (fun r2 s3=>let y3:=s3.2.2.2.2.2.2.2.1; (cond (ilt s3.1 (ln y3)) (oN (inb s3.1 (ln y3)) (oN (zlu (ix y3 s3.1 zx)) (cond (nB (zj0 (ix y3 s3.1 zx))) oF (r2 ((zG .i64 s3.1 1),(s3.2.1,(s3.2.2.1,(s3.2.2.2.1,(s3.2.2.2.2.1,(s3.2.2.2.2.2.1,(s3.2.2.2.2.2.2.1,(y3,(s3.2.2.2.2.2.2.2.2.1,(s3.2.2.2.2.2.2.2.2.2.1,())))))))))))))) (iter (σ:=(Int×(Int×(Int×(Int×(lS×(lM×(lB×(lG×((List Int)×(lK×Unit))))))))))) N (fun r4 s5=>let y7:=s5.2.2.2.2.1;let y4:=(inb s5.1 (ln s5.2.2.2.2.2.1));let y2:=(ix s5.2.2.2.2.2.1 s5.1 []);let y1:=(ix y7 s5.1 zJ);let y6:=(ieq y1.Rights zbq.Rights);let y5:=(ieq y1.Page zbq.Page);let y0:=(r4 ((zG .i64 s5.1 1),(s5.2.1,(s5.2.2.1,(s5.2.2.2.1,(y7,(s5.2.2.2.2.2.1,(s5.2.2.2.2.2.2.1,(s5.2.2.2.2.2.2.2.1,(s5.2.2.2.2.2.2.2.2.1,(s5.2.2.2.2.2.2.2.2.2.1,()))))))))))); (cond (ilt s5.1 8) (oN (inb s5.1 (ln y7)) (oN zci (cond (nB (cond y5 y6 false)) (oN y4 (cond (igt (ln y2) 0) oF (oN (inb s5.1 (ln y7)) (oN (zf2 y1.Rights 1) (cond (nB (zgG y1.Rights 1)) oF (cond (nB (nB (cond y5 y6 false))) (oN y4 (oN (zfp y2) (cond (nB (zeS y2)) oF y0))) y0)))))) (cond (nB (nB (cond y5 y6 false))) (oN y4 (oN (zfp y2) (cond (nB (zeS y2)) oF y0))) y0)))) (cond (ile (ln s5.2.2.2.2.2.2.2.2.1) 40) (oN (zeU s5.2.1) (cond (zeT s5.2.1) (oN (zI s5.2.2.1 0 3) (cond (zK s5.2.2.1 0 3) (oN (zI s5.2.2.2.1 0 1000000000) (some [(aB (zK s5.2.2.2.1 0 1000000000))])) oF)) oF)) oF))) (0,(s3.2.1,(s3.2.2.1,(s3.2.2.2.1,(s3.2.2.2.2.1,(s3.2.2.2.2.2.1,(s3.2.2.2.2.2.2.1,(y3,(s3.2.2.2.2.2.2.2.2.1,(s3.2.2.2.2.2.2.2.2.2.1,()))))))))))))) (0,(a0.Pending,(a0.Traps,(a0.Own,(a0.Outer,(a0.Out,(a0.Dirty,(a0.Guests,(a0.Outs,(a0.Tables,()))))))))))))))))))
def zVe:FuncId->Nat->Option Tmpl:=zo [(157,0,{ n:=115,tm:=[(1,.lp 0 0),(3,ti)],lo:=[(0,[.sl 0 [],.sl 1 [],.sl 2 [],.sl 3 [],.sl 4 [],ti,ti,.sl 5 [],ti])],ro:=[(0,.slot,false),(1,(.sl .int),false),(2,.bool,false),(3,.guest,false),(4,.int,false),(5,.kept,false)] }),(157,2,{ n:=115,tm:=[(1,.lp 0 0),(4,ti)],lo:=[(0,[.sl 0 [],.sl 1 [],.sl 2 [],.sl 3 [],.sl 4 [],ti,ti,.sl 5 [],ti])],ro:=[(0,.slot,false),(1,(.sl .int),false),(2,.bool,false),(3,.guest,false),(4,.int,false),(5,.kept,false)] })]
theorem zUt (a0:Mon)(hb:zbB big [aT .mon a0])(hc:zqo a0=true):∃N,zNs N a0=some [aB (zr2 a0)]:=by
 have hg:a0.Guests.length<=big:=((zcU hb).1 (.s .guest a0.Guests) (by simp[AV.cvs,Ty.cells])).len
 refine zbT fun N hNN=>?_;unfold zNs zr2 zdD oN nB
 conv=>zeta
 refine must rfl (stB fun h0=>stI fun h1=>must rfl (stB fun h2=>stI fun h3=>stI fun h4=>?_));have e1:=zqu h2;have e3:ln a0.Out=8:=qE h3;simp only[ln] at e1 e3;refine (zba a0.Guests (fun i (t:Unit)=>((i:Int),a0.Pending,a0.Traps,a0.Own,a0.Outer,a0.Out,a0.Dirty,a0.Guests,a0.Outs,a0.Tables,())) _ (fun _ (x:Guest) (_:Unit) κ=>bif zcT x then κ () else oF) (fun (t:Unit)=>(iter (σ:=(Int×(Int×(Int×(Int×(lS×(lM×(lB×(lG×((List Int)×(lK×Unit))))))))))) N (fun r4 s5=>(cond (ilt s5.1 8) (cond (inb s5.1 (ln s5.2.2.2.2.1)) (cond zci (cond (cond (cond (ieq (ix s5.2.2.2.2.1 s5.1 zJ).Page zbq.Page) (ieq (ix s5.2.2.2.2.1 s5.1 zJ).Rights zbq.Rights) false) false true) (cond (inb s5.1 (ln s5.2.2.2.2.2.1)) (cond (igt (ln (ix s5.2.2.2.2.2.1 s5.1 [])) 0) oF (cond (inb s5.1 (ln s5.2.2.2.2.1)) (cond (zf2 (ix s5.2.2.2.2.1 s5.1 zJ).Rights 1) (cond (cond (zgG (ix s5.2.2.2.2.1 s5.1 zJ).Rights 1) false true) oF (cond (cond (cond (cond (ieq (ix s5.2.2.2.2.1 s5.1 zJ).Page zbq.Page) (ieq (ix s5.2.2.2.2.1 s5.1 zJ).Rights zbq.Rights) false) false true) false true) (cond (inb s5.1 (ln s5.2.2.2.2.2.1)) (cond (zfp (ix s5.2.2.2.2.2.1 s5.1 [])) (cond (cond (zeS (ix s5.2.2.2.2.2.1 s5.1 [])) false true) oF (r4 ((zG .i64 s5.1 1),(s5.2.1,(s5.2.2.1,(s5.2.2.2.1,(s5.2.2.2.2.1,(s5.2.2.2.2.2.1,(s5.2.2.2.2.2.2.1,(s5.2.2.2.2.2.2.2.1,(s5.2.2.2.2.2.2.2.2.1,(s5.2.2.2.2.2.2.2.2.2.1,())))))))))))) none) none) (r4 ((zG .i64 s5.1 1),(s5.2.1,(s5.2.2.1,(s5.2.2.2.1,(s5.2.2.2.2.1,(s5.2.2.2.2.2.1,(s5.2.2.2.2.2.2.1,(s5.2.2.2.2.2.2.2.1,(s5.2.2.2.2.2.2.2.2.1,(s5.2.2.2.2.2.2.2.2.2.1,()))))))))))))) none) none)) none) (cond (cond (cond (cond (ieq (ix s5.2.2.2.2.1 s5.1 zJ).Page zbq.Page) (ieq (ix s5.2.2.2.2.1 s5.1 zJ).Rights zbq.Rights) false) false true) false true) (cond (inb s5.1 (ln s5.2.2.2.2.2.1)) (cond (zfp (ix s5.2.2.2.2.2.1 s5.1 [])) (cond (cond (zeS (ix s5.2.2.2.2.2.1 s5.1 [])) false true) oF (r4 ((zG .i64 s5.1 1),(s5.2.1,(s5.2.2.1,(s5.2.2.2.1,(s5.2.2.2.2.1,(s5.2.2.2.2.2.1,(s5.2.2.2.2.2.2.1,(s5.2.2.2.2.2.2.2.1,(s5.2.2.2.2.2.2.2.2.1,(s5.2.2.2.2.2.2.2.2.2.1,())))))))))))) none) none) (r4 ((zG .i64 s5.1 1),(s5.2.1,(s5.2.2.1,(s5.2.2.2.1,(s5.2.2.2.2.1,(s5.2.2.2.2.2.1,(s5.2.2.2.2.2.2.1,(s5.2.2.2.2.2.2.2.1,(s5.2.2.2.2.2.2.2.2.1,(s5.2.2.2.2.2.2.2.2.2.1,()))))))))))))) none) none) (cond (ile (ln s5.2.2.2.2.2.2.2.2.1) 40) (cond (zeU s5.2.1) (cond (zeT s5.2.1) (cond (zI s5.2.2.1 0 3) (cond (zK s5.2.2.1 0 3) (cond (zI s5.2.2.2.1 0 1000000000) (some [(.one (.b (zK s5.2.2.2.1 0 1000000000)))]) none) oF) none) oF) none) oF))) (0,(a0.Pending,(a0.Traps,(a0.Own,(a0.Outer,(a0.Out,(a0.Dirty,(a0.Guests,(a0.Outs,(a0.Tables,())))))))))))) (fun i hi t rec=>?_) (fun t rec=>?_) _ () (hNN hg)).trans ?_
 .simp only [zbh hi,zN hi,zZ hi,zU hi hg,cT];simp only[zlu,zj0,cT];cases zcT a0.Guests[i]<;>rfl
 .simp only [zbb,cF]
 rw[zgn zcT];cases hq:a0.Guests.all zcT
 .simp only [cF];cases ile (ln a0.Outs) 40<;>cases zcJ a0.Pending<;>cases win a0.Traps 0 3<;>cases win a0.Own 0 1000000000<;>rfl
 simp only[cT];refine (zov 8 (fun j (u:Unit)=>((j:Int),a0.Pending,a0.Traps,a0.Own,a0.Outer,a0.Out,a0.Dirty,a0.Guests,a0.Outs,a0.Tables,())) _ (fun j (_:Unit) κ=>bif fits a0 j then κ () else oF) (fun (u:Unit)=>(cond (ile (ln a0.Outs) 40) (cond (zeU a0.Pending) (cond (zeT a0.Pending) (cond (zI a0.Traps 0 3) (cond (zK a0.Traps 0 3) (cond (zI a0.Own 0 1000000000) (some [(.one (.b (zK a0.Own 0 1000000000)))]) none) oF) none) oF) none) oF)) (fun j hj u rec1=>?_) (fun u rec1=>?_) _ () (hNN (by decide))).trans ?_
 .simp only [show ilt (j:Int) 8=true from qK (by omega),zU hj (show 8<=big by decide),cT]
  have hj1:j<a0.Outer.length:=by omega
  have hj2:j<a0.Out.length:=by omega
  simp only[zci,zbq,zfp,zeS,zf2,zgG,zN hj1,zN hj2,zLI,cT];unfold fits zkB;simp only[zZ hj1,zcq];cases ieq a0.Outer[j].Page noSlot.Page<;>cases ieq a0.Outer[j].Rights noSlot.Rights<;>cases enough a0.Outer[j].Rights 1<;>cases ile (ln (ix a0.Out (j:Int) [])) 0<;>cases zb6 (ix a0.Out (j:Int) [])<;>rfl
 .simp only [show ilt (((8:Nat)):Int) 8=false from qJ (by omega),cF]
  rfl
 rw[zCC (fits a0)];simp only[zeU,zeT,zI,zQq,cT];cases zmU (fits a0) 8 0<;>cases ile (ln a0.Outs) 40<;>cases zcJ a0.Pending<;>cases win a0.Traps 0 3<;>cases win a0.Own 0 1000000000<;>rfl
theorem zOU:vF 157 zEV:=hF1 zFx zu zl zn zVe zUt
def z2Y:zO:=[(157,zEV),(108,zEN)]++z2X
theorem zFy:zF z2Y:=zh zOU (zh zOL zFx)
def zfW:List Slot->List Bool->Option (List Bool)
 | [],u=>some u
 | s :: l,u=>bif ilt s.Page 0 then zfW l u else (cond (ix u s.Page false) none (zfW l (up u s.Page true)))
def zhL:List Mon->List Bool->Bool
 | [],_=>true
 | m :: l,u=>bif zdD m then (match zfW m.Outer u with|some u'=>zhL l u'|none=>false) else false
def zbJ (h:Host):Bool:=bif zgL h.Memory 12 then (cond (win (ln h.Mons) 1 3) (cond (zex h.Buffer) (cond (zex h.IoBuffer) (zhL h.Mons (rp 12 false)) false) false) false) else false
theorem zn2:∀(l:List Slot) (u u':List Bool),zfW l u=some u'->u'.length=u.length
 | [],u,u',h=>by cases h;rfl
 | s :: l,u,u',h=>by
  simp only[zfW]at h;cases h1:ilt s.Page 0
  .rw [h1]at h;cases h2:ix u s.Page false
   .rw [h2]at h;simpa using zn2 l _ u' h
   .rw [h2]at h;cases h
  .rw [h1]at h;exact zn2 l u u' h
theorem zCN {t:List Slot}{n:Int}(h:zcw t n 12=true):∀s∈t,s.Page<12:=by
 intro s hs;unfold zcw at h;cases h1:t.all (fun s=>zde s 12)
 .rw [h1]at h;cases h
 .have:=qM.1 h1 s hs;unfold zde at this;cases h2:zcq s noSlot
  .rw [h2] at this;simp only[cF,show igt 12 0=true from rfl,cT] at this
   cases h3:win s.Page 0 (wsub .i64 12 1)
   .rw [h3] at this;cases this
   .have:=(zfS.1 h3).2;rw[show wsub .i64 12 1=11 from rfl] at this
    omega
  .unfold zcq at h2;rw[qD]at h2;have h2:s.Page = -1:=qE h2.1;omega
theorem zTM {s:Slot}{u:List Bool}(h:s.Page<12)(hu:u.length=12)(h0:ilt s.Page 0=false):inb s.Page (ln u)=true:=by
 have:=j3 h0;exact qK (by simp only[ln];omega)
def zr7 {ρ:Type}(r:Option ρ)(y:Slot)(u:List Bool)(κ:List Bool->Option ρ):Option ρ:=bif ilt y.Page 0 then κ u else (cond (inb y.Page (ln u)) (cond (ix u y.Page false) r (cond (inb y.Page (ln u)) (share (up u y.Page true) (fun x6=>κ x6)) none)) none)
theorem zxn {ρ:Type}(r:Option ρ)(K:List Bool->Option ρ):∀(l:List Slot) (i:Nat) (u:List Bool),(∀s∈l,s.Page<12)->u.length=12 ->
 goL (fun _ y u κ=>zr7 r y u κ) K l i u=match zfW l u with|some u'=>K u'|none=>r
 | [],_,_,_,_=>rfl
 | s :: l,i,u,h,hu=>by
  simp only[goL,zfW,zr7];cases h1:ilt s.Page 0
  .have hh:=zTM (h s (by simp)) hu h1
   rw[hh];cases ix u s.Page false
   .simp only [cF,cT,share];exact zxn r K l (i+1) _ (fun s hs=>h s (by simp[hs])) (by simpa using hu)
   .rfl
  .simp only [cT];exact zxn r K l (i+1) u (fun s hs=>h s (by simp[hs])) hu
def zWq {ρ:Type}(r:Option ρ)(m:Mon)(u:List Bool)(κ:List Bool->Option ρ):Option ρ:=bif zdD m then goL (fun _ y u κ=>zr7 r y u κ) κ m.Outer 0 u else r
theorem zcM {c x:Bool}:((cond c x false)=true)↔c=true/\x=true:=by
 cases c<;>simp
theorem zlo {m:Mon}(h:zdD m=true):zcw m.Outer 8 12=true:=by
 unfold zdD at h;simp only[zcM]at h;exact h.2.2.1
theorem zRh {K:Bool->OA}(k:List Bool->OA)(hk:∀u,k u=K true):∀(l:List Mon) (i:Nat) (u:List Bool),u.length=12 ->
 goL (fun _ m u κ=>zWq (K false) m u κ) k l i u=K (zhL l u)
 | [],_,u,_=>hk u
 | m :: l,i,u,hu=>by
  simp only[goL,zhL,zWq];cases h1:zdD m
  .rfl
  .simp only [cT];have ht:=zlo h1;rw[zxn _ _ _ _ _ (zCN ht) hu];cases h2:zfW m.Outer u with
   | none=>rfl
   | some u'=>exact zRh k hk l (i+1) u' ((zn2 _ _ _ h2).trans hu)
@[simp] abbrev zkq (h:Host):Bool:=true
@[simp] abbrev zjI (h:Host):Bool:=zbJ h
def zBj:Run:=rF1 dH fun b=>(zkq b,[aB (zjI b)])
def zHe (N:Nat)(a0:Host):OA:=
 (oN (zAQ a0.Memory 12) (cond (nB (zoq a0.Memory 12)) oF (oN (zb7 (ln a0.Mons) 1 3) (cond (nB (zcp (ln a0.Mons) 1 3)) oF (oN (zm3 a0.Buffer) (cond (nB (zm2 a0.Buffer)) oF (oN (zm3 a0.IoBuffer) (cond (nB (zm2 a0.IoBuffer)) oF (oN (cond (few 12) (ieq 12 12) false) (iter (σ:=(Int×(Int×(lB×(lN×Unit))))) N (fun r2 s3=>let y1:=(ix s3.2.2.2.1 s3.2.1 zf); (cond (ilt s3.2.1 s3.1) (oN (inb s3.2.1 (ln s3.2.2.2.1)) (oN (zqc y1) (cond (nB (zrU y1)) oF (iter (σ:=(Int×(Int×(Int×(Int×(Int×(lB×(lN×Unit)))))))) N (fun r4 s5=>let y4:=s5.2.2.2.2.1;let y3:=s5.2.2.2.2.2.2.1;let y5:=(ix y3 s5.2.2.1 zf).Outer;let y2:=s5.2.2.2.2.2.1;let y0:=(ix y5 y4 zJ).Page; (cond (ilt y4 s5.2.2.2.1) (oN (inb y4 (ln y5)) (cond (ilt y0 0) (r4 (s5.1,(s5.2.1,(s5.2.2.1,(s5.2.2.2.1,((zG .i64 y4 1),(y2,(y3,())))))))) (oN (inb y0 (ln y2)) (cond (ix y2 y0 false) oF (oN (inb y0 (ln y2)) (share (up y2 y0 true) (fun x6=>(r4 (s5.1,(s5.2.1,(s5.2.2.1,(s5.2.2.2.1,((zG .i64 y4 1),(x6,(y3,()))))))))))))))) (r2 (s5.1,((zG .i64 s5.2.1 1),(y2,(y3,()))))))) (s3.1,(s3.2.1,(s3.2.1,((ln y1.Outer),(0,(s3.2.2.1,(s3.2.2.2.1,()))))))))))) oT)) ((ln a0.Mons),(0,((rp 12 false),(a0.Mons,()))))))))))))))
def zTs:FuncId->Nat->Option Tmpl:=zo [(44,0,{ n:=63,tm:=[(3,.sl 0 []),(33,.sl 1 []),(34,ti),(35,ti)],lo:=[],ro:=[(0,.bool,true),(1,.mon,false)] }),(44,2,{ n:=63,tm:=[(3,.sl 0 []),(33,.sl 1 []),(34,ti),(35,ti),(43,.sl 1 [0]),(44,ti),(45,ti)],lo:=[],ro:=[(0,.bool,true),(1,.mon,false)] })]
theorem zRF (a0:Host)(hb:zbB big [aH a0])(hc:zkq a0=true):∃N,zHe N a0=some [aB (zjI a0)]:=by
 have hm:CVB big (.s .mon a0.Mons):=(zcU hb).1 _ (by simp[AV.cvs,zbf])
 have hl:=hm.len;refine zbT fun N hNN=>?_;unfold zHe zjI zbJ oN nB
 conv=>zeta
 refine must rfl (stB fun h0=>must rfl (stB fun h1=>must rfl (stB fun h2=>must rfl (stB fun h3=>must rfl ?_))));refine (zba a0.Mons (fun i (t:lB)=>((ln a0.Mons),(i:Int),t,a0.Mons,())) _ (fun _ (x:Mon) (u:List Bool) κ=>zWq (oF) x u κ) (fun (t:lB)=>(some [(.one (.b true))])) (fun i hi t rec=>?_) (fun t rec=>?_) _ ((rp 12 false)) (hNN hl)).trans ?_
 .simp only [zbh hi,zN hi,zZ hi,zU hi hl,cT];unfold zWq;cases h4:zdD a0.Mons[i]
  .simp only [zqc,zrU,h4,cT,cF]
  simp only[zqc,zrU,h4,cT,cF];have ho:a0.Mons[i].Outer.length<=big:=(hm.inv.2 _ (jG hi) (.s .slot _) (by simp[Ty.cells])).len
  refine (zba a0.Mons[i].Outer (fun j (u:lB)=>((ln a0.Mons),(i:Int),(i:Int),(ln a0.Mons[i].Outer),(j:Int),u,a0.Mons,())) _ (fun _ (y:Slot) (u:List Bool) κ=>zr7 (oF) y u κ) (fun (u:lB)=>(rec ((ln a0.Mons),((((i+1:Nat)):Int),(u,(a0.Mons,())))))) (fun j hj u rec1=>?_) (fun u rec1=>?_) _ (t) (hNN ho)).trans ?_
  .simp only [zbh hj,zN hj,zZ hj,zU hj ho,cT,zN hi,zZ hi,zU hi hl];rfl
  .simp only [zbb,cF,zN hi,zZ hi,zU hi hl]
  rfl
 .simp only [zbb,cF]
 exact zRh (K:=fun b=>some [AV.one (.b b)]) _ (fun _=>rfl) _ _ _ rfl
theorem zK1:vF 44 zBj:=hF1 zFy zu zl zn zTs zRF
@[simp] abbrev zeQ (h:Host):Bool:=true
@[simp] abbrev zeP (h:Host):Bool:=zbJ h
theorem zFI {ρ:Type}(r:Option ρ)(k:List Bool->Option ρ)(m:Mon):∀(n i:Nat) (u:List Bool),(∀s∈m.Outer,s.Page<12)->u.length=12->i+n=m.Outer.length ->
 goN (fun j u κ=>bif inb (j:Int) (ln m.Outer) then zr7 r (ix m.Outer (j:Int) zJ) u κ else none) k n i u=goL (fun _ y u κ=>zr7 r y u κ) k (m.Outer.drop i) i u
 | 0,i,u,_,_,h=>by
  have:i=m.Outer.length:=by omega
  subst this;simp[goN,goL]
 | n+1,i,u,hs,hu,h=>by
  have hi:i<m.Outer.length:=by omega
  rw[kJ hi];simp only[goN,goL,zN hi,zZ hi,cT,zr7];cases h1:ilt m.Outer[i].Page 0
  .rw [zTM (hs _ (jG hi)) hu h1];cases ix u m.Outer[i].Page false
   .simp only [cF,cT,share];exact zFI r k m n (i+1) _ hs (by simpa using hu) (by omega)
   .rfl
  .simp only [cT];exact zFI r k m n (i+1) u hs hu (by omega)
def zBB:Run:=rF1 dH fun b=>(zeQ b,[aB (zeP b)])
def zHv (N:Nat)(a0:Host):OA:=
 (oN (zqm a0.Memory 12) (cond (nB (zkR a0.Memory 12)) oF (oN (zI (ln a0.Mons) 1 3) (cond (nB (zK (ln a0.Mons) 1 3)) oF (oN (znA a0.Buffer) (cond (nB (znz a0.Buffer)) oF (oN (znA a0.IoBuffer) (cond (nB (znz a0.IoBuffer)) oF (oN (cond (few 12) (ieq 12 12) false) (iter (σ:=(Int×(lB×(lM×(lN×(lE×(lE×Unit))))))) N (fun r2 s3=>let y7:=(ix s3.2.2.2.1 s3.1 zf); (cond (ilt s3.1 (ln s3.2.2.2.1)) (oN (inb s3.1 (ln s3.2.2.2.1)) (oN (zqo y7) (cond (nB (zr2 y7)) oF (iter (σ:=(Int×(Int×(lB×(lM×(lN×(lE×(lE×Unit)))))))) N (fun r4 s5=>let y6:=(zG .i64 s5.2.1 1);let y5:=s5.2.2.2.2.2.1;let y4:=s5.2.2.2.2.2.2.1;let y3:=s5.2.2.1;let y2:=s5.2.2.2.2.1;let y8:=(ix y2 s5.1 zf).Outer;let y1:=(r4 (s5.1,(y6,(y3,(s5.2.2.2.1,(y2,(y5,(y4,()))))))));let y0:=(ix y8 s5.2.1 zJ).Page;let y9:=(inb y0 (ln y3)); (cond (ilt s5.2.1 8) (oN (inb s5.1 (ln y2)) (oN (inb s5.2.1 (ln y8)) (cond (ige y0 0) (oN y9 (cond (ix y3 y0 false) oF (cond (ige y0 0) (oN y9 (share (up y3 y0 true) (fun x6=>(r4 (s5.1,(y6,(x6,(s5.2.2.2.1,(y2,(y5,(y4,()))))))))))) y1))) (cond (ige y0 0) (oN y9 (share (up y3 y0 true) (fun x6=>(r4 (s5.1,(y6,(x6,(s5.2.2.2.1,(y2,(y5,(y4,()))))))))))) y1)))) (r2 ((zG .i64 s5.1 1),(y3,(s5.2.2.2.1,(y2,(y5,(y4,()))))))))) (s3.1,(0,(s3.2.1,(s3.2.2.1,(s3.2.2.2.1,(s3.2.2.2.2.1,(s3.2.2.2.2.2.1,()))))))))))) oT)) (0,((rp 12 false),(a0.Memory,(a0.Mons,(a0.Buffer,(a0.IoBuffer,()))))))))))))))))
def zTy:FuncId->Nat->Option Tmpl:=zo [(97,0,{ n:=72,tm:=[(1,.lp 0 0),(3,.sl 0 []),(4,ti)],lo:=[(0,[.sl 1 [],.sl 2 [],.sl 3 [],.sl 4 []])],ro:=[(0,.bool,true),(1,(.sl .int),false),(2,.mon,false),(3,.entry,false),(4,.entry,false)] }),(97,2,{ n:=72,tm:=[(1,.lp 0 0),(3,.sl 0 []),(4,ti),(5,ti)],lo:=[(0,[.sl 1 [],.sl 2 [],.sl 3 [],.sl 4 []])],ro:=[(0,.bool,true),(1,(.sl .int),false),(2,.mon,false),(3,.entry,false),(4,.entry,false)] })]
theorem zRX (a0:Host)(hb:zbB big [aH a0])(hc:zeQ a0=true):∃N,zHv N a0=some [aB (zeP a0)]:=by
 have hm:CVB big (.s .mon a0.Mons):=(zcU hb).1 _ (by simp[AV.cvs,zbf])
 have hl:=hm.len;refine zbT fun N hNN=>?_;unfold zHv zeP zbJ oN nB
 conv=>zeta
 refine must rfl (stB fun h0=>must rfl (stB fun h1=>must rfl (stB fun h2=>must rfl (stB fun h3=>must rfl ?_))));refine (zba a0.Mons (fun i (t:lB)=>((i:Int),t,a0.Memory,a0.Mons,a0.Buffer,a0.IoBuffer,())) _ (fun _ (x:Mon) (u:List Bool) κ=>bif zdD x then goN (fun j u κ=>bif inb (j:Int) (ln x.Outer) then zr7 (oF) (ix x.Outer (j:Int) zJ) u κ else none) κ 8 0 u else oF) (fun (t:lB)=>(some [(.one (.b true))])) (fun i hi t rec=>?_) (fun t rec=>?_) _ ((rp 12 false)) (hNN hl)).trans ?_
 .simp only [zbh hi,zN hi,zZ hi,zU hi hl,cT];cases h4:zdD a0.Mons[i]
  .simp only [zqo,zr2,h4,cT,cF]
  simp only[zqo,zr2,h4,cT,cF];refine (zov 8 (fun j (u:lB)=>((i:Int),(j:Int),u,a0.Memory,a0.Mons,a0.Buffer,a0.IoBuffer,())) _ (fun j (u:List Bool) κ=>bif inb (j:Int) (ln a0.Mons[i].Outer) then zr7 (oF) (ix a0.Mons[i].Outer (j:Int) zJ) u κ else none) (fun (u:lB)=>(rec ((((i+1:Nat)):Int),(u,(a0.Memory,(a0.Mons,(a0.Buffer,(a0.IoBuffer,())))))))) (fun j hj u rec1=>?_) (fun u rec1=>?_) _ (t) (hNN (by decide))).trans ?_
  .simp only [show ilt (j:Int) 8=true from qK (by omega),zU hj (show 8<=big by decide),cT,zN hi,zZ hi,zU hi hl]
   unfold zr7;have e:ige (ix a0.Mons[i].Outer (j:Int) zJ).Page 0 = !ilt (ix a0.Mons[i].Outer (j:Int) zJ).Page 0:=by rw[z4T,Bool.not_not]
   simp only[e];cases ilt (ix a0.Mons[i].Outer (j:Int) zJ).Page 0<;>cases inb (j:Int) (ln a0.Mons[i].Outer)<;>cases inb (ix a0.Mons[i].Outer (j:Int) zJ).Page (ln u)<;>cases ix u (ix a0.Mons[i].Outer (j:Int) zJ).Page false<;>rfl
  .simp only [show ilt (((8:Nat)):Int) 8=false from qJ (by omega),cF,zN hi,zZ hi,zU hi hl]
  rfl
 .simp only [zbb,cF]
 have key:∀(l:List Mon) (i:Nat) (u:List Bool),u.length=12->goL (fun _ (x:Mon) (u:List Bool) κ=>bif zdD x then goN (fun j u κ=>bif inb (j:Int) (ln x.Outer) then zr7 (oF) (ix x.Outer (j:Int) zJ) u κ else none) κ 8 0 u else oF) (fun _=>oT) l i u=some [AV.one (.b (zhL l u))]:=by
  intro l
  induction l with
  | nil=>intro i u _;rfl
  | cons m l ih =>
   intro i u hu;simp only[goL,zhL];cases h1:zdD m
   .rfl
   .have ht:=zlo h1;have e8:0+8=m.Outer.length:=by have:=zqu ht;simp only[ln] at this;omega
    simp only[cT];rw[zFI _ _ m 8 0 u (zCN ht) hu e8,uP,zxn _ _ _ _ _ (zCN ht) hu];cases h2:zfW m.Outer u with
    | none=>rfl
    | some u'=>exact ih (i+1) u' ((zn2 _ _ _ h2).trans hu)
 exact key _ _ _ rfl
theorem zLj:vF 97 zBB:=hF1 zFy zu zl zn zTy zRX
def z2Z:zO:=[(97,zBB),(44,zBj)]++z2Y
theorem zw9:zF z2Z:=zh zLj (zh zK1 zFy)
theorem zW7 {h:Host}(hh:zbJ h=true):(h.Mons.length:Int)<=3:=by
 unfold zbJ at hh;simp only[zcM]at hh;exact (zfS.1 hh.2.1).2
def zb2 (h:Host)(m:Int):Bool:=bif zbJ h then hasB m (ln h.Mons) else false
def zbQ (h:Host)(m p:Int):Bool:=bif zbJ h then (cond (hasB m (ln h.Mons)) (hasB p 8) false) else false
theorem zNd {h:Host}(hh:zbJ h=true)(m:Int):win m 0 (wsub .i64 (ln h.Mons) 1)=hasB m (ln h.Mons):=zo3 (by have:=zW7 hh;omega) m
theorem z7z (p:Int):win p 0 7=hasB p 8:=by
 unfold win ige ile hasB
 by_cases h1:0<=p<;>by_cases h2:p<8
 .rw [qK (p:=p≥0) (by omega),qK (p:=p<=7) (by omega),qK (p:=0<=p/\p<8) ⟨h1,h2⟩];rfl
 .rw [qJ (p:=p<=7) (by omega),qJ (p:=0<=p/\p<8) (by omega)];simp
 .rw [qJ (p:=p≥0) (by omega),qJ (p:=0<=p/\p<8) (by omega)];simp
 .rw [qJ (p:=p≥0) (by omega),qJ (p:=0<=p/\p<8) (by omega)];simp
@[simp] abbrev zeZ (h:Host)(m:Int):Bool:=true
@[simp] abbrev zeY (h:Host)(m:Int):Bool:=zb2 h m
def zBV:Run:=rF2 dH dI fun b c=>(zeZ b c,[aB (zeY b c)])
def zHP (N:Nat)(a0:Host)(a1:Int):OA:=
 (oN (zeQ a0) (cond (zeP a0) (oN (zI a1 0 (wsub .i64 (ln a0.Mons) 1)) (some [(aB (zK a1 0 (wsub .i64 (ln a0.Mons) 1)))])) oF))
theorem zSn (a0:Host)(a1:Int)(hc:zeZ a0 a1=true):∃N,zHP N a0 a1=some [aB (zeY a0 a1)]:=by
 refine ⟨0,?_⟩;unfold zHP zeY zb2 oN;cases hh:zbJ a0
 .simp only [zeQ,zeP,hh,cT,cF]
 .simp only [zeQ,zeP,hh,cT,zI,zQq,zNd hh]
theorem zLG:vF 257 zBV:=kF2 zw9 zu zl zn (zo []) zSn
@[simp] abbrev zmF (h:Host)(m p:Int):Bool:=true
@[simp] abbrev zgW (h:Host)(m p:Int):Bool:=zbQ h m p
def zE1:Run:=rF3 dH dI dI fun b c d=>(zmF b c d,[aB (zgW b c d)])
def zNy (N:Nat)(a0:Host)(a1 a2:Int):OA:=
 (oN (zeQ a0) (cond (zeP a0) (oN (zI a1 0 (wsub .i64 (ln a0.Mons) 1)) (cond (zK a1 0 (wsub .i64 (ln a0.Mons) 1)) (oN (zI a2 0 7) (some [(aB (zK a2 0 7))])) oF)) oF))
theorem zUA (a0:Host)(a1 a2:Int)(hc:zmF a0 a1 a2=true):∃N,zNy N a0 a1 a2=some [aB (zgW a0 a1 a2)]:=by
 refine ⟨0,?_⟩;unfold zNy zgW zbQ oN;cases hh:zbJ a0
 .simp only [zeQ,zeP,hh,cT,cF]
 .simp only [zeQ,zeP,hh,cT,zI,zQq,zNd hh,z7z];cases hasB a1 (ln a0.Mons)<;>rfl
theorem zO1:vF 267 zE1:=kF3 zw9 zu zl zn (zo []) zUA
@[simp] abbrev zu0 (h:Host)(m p:Int):Bool:=true
@[simp] abbrev zqd (h:Host)(m p:Int):Bool:=zbQ h m p
def zyJ:Run:=rF3 dH dI dI fun b c d=>(zu0 b c d,[aB (zqd b c d)])
def zDO (N:Nat)(a0:Host)(a1 a2:Int):OA:=
 (oN (zkq a0) (cond (zjI a0) (oN (zdh a1 (ln a0.Mons)) (cond (zdQ a1 (ln a0.Mons)) (oN (zdh a2 8) (some [(aB (zdQ a2 8))])) oF)) oF))
theorem zPa (a0:Host)(a1 a2:Int)(hc:zu0 a0 a1 a2=true):∃N,zDO N a0 a1 a2=some [aB (zqd a0 a1 a2)]:=by
 refine ⟨0,?_⟩;unfold zDO zqd zbQ oN;cases hh:zbJ a0
 .simp only [zkq,zjI,hh,cT,cF]
 .simp only [zkq,zjI,hh,cT,zdh,zdQ];cases hasB a1 (ln a0.Mons)<;>rfl
theorem zIz:vF 80 zyJ:=kF3 zw9 zu zl zn (zo []) zPa
def z3a:zO:=[(257,zBV),(267,zE1),(80,zyJ)]++z2Z
theorem zQW:zF z3a:=zh zLG (zh zO1 (zh zIz zw9))
def zdb (k:Kept)(p:Int):Bool:=bif hasB p (ln k.Known) then hasB p (ln k.Slots) else false
def zbG (k:Kept)(p:Int):Kept:=bif zdb k p then ⟨up k.Known p false,up k.Slots p noSlot⟩ else k
@[simp] theorem zn1 {k:Kept}{p:Int}(h:SmK k):SmK (zbG k p):=by
 unfold zbG;cases zdb k p
 .exact h
 .exact ⟨by simpa using h.1,by simpa using h.2⟩
theorem has_lt {p:Int}{n m:Int}(h:hasB p n=true):ilt p m=hasB p m:=by
 have h:=qE h;unfold ilt hasB
 by_cases h1:p<m
 .rw [qK h1,qK ⟨h.1,h1⟩]
 .rw [qJ h1,qJ (by omega)]
@[simp] abbrev znX (k:Kept)(p:Int):Bool:=pc (SmK k)
@[simp] abbrev zhA (k:Kept)(p:Int):Bool:=zdb k p
def zBT:Run:=rF2 (dT .kept) dI fun b c=>(znX b c,[aB (zhA b c)])
def zHN (N:Nat)(a0:Kept)(a1:Int):OA:=
 (oN (zI a1 0 (wsub .i64 (ln a0.Known) 1)) (cond (zK a1 0 (wsub .i64 (ln a0.Known) 1)) (some [(aB (ilt a1 (ln a0.Slots)))]) oF))
theorem zSh (a0:Kept)(a1:Int)(hc:znX a0 a1=true):∃N,zHN N a0 a1=some [aB (zhA a0 a1)]:=by
 have hs:=zC.1 hc;refine ⟨0,?_⟩;unfold zHN zhA zdb oN;simp only[zI,zQq,zo3 hs.1,cT];cases hh:hasB a1 (ln a0.Known)
 .rfl
 .simp only [cT,has_lt hh]
theorem zLA:vF 158 zBT:=kF2 zQW zu zl zn (zo []) zSh
def z3b:zO:=[(158,zBT)]++z3a
theorem zFz:zF z3b:=zh zLA zQW
@[simp] abbrev zkJ (k:Kept)(p:Int):Bool:=pc (SmK k)
@[simp] abbrev zjZ (k:Kept)(p:Int):Kept:=zbG k p
def zBz:Run:=rF2 (dT .kept) dI fun b c=>(zkJ b c,[aT .kept (zjZ b c)])
def zHt (N:Nat)(a0:Kept)(a1:Int):OA:=
 let y0:=(zc4 a0); (oN (zfr a0) (oN (znX y0 a1) (cond (zhA y0 a1) (oN (inb a1 (ln y0.Known)) (share (up y0.Known a1 false) (fun x3=>(oN zci (oN (inb a1 (ln y0.Slots)) (share (up y0.Slots a1 zbq) (fun x4=>(some [(aT .kept (⟨x3,x4⟩:Kept))])))))))) (some [(aT .kept y0)]))))
theorem zRV (a0:Kept)(a1:Int)(hc:zkJ a0 a1=true):∃N,zHt N a0 a1=some [aT .kept (zjZ a0 a1)]:=by
 have hs:=zC.1 hc;refine ⟨0,?_⟩;unfold zHt zjZ oN
 conv=>zeta
 refine must (zbp ((zvI _).2 hs)) (must (zbp hs) ?_);unfold zbG;cases hh:zdb a0 a1
 .simp only [zhA,zc4,hh,cF]
 .simp only [zhA,zc4,hh,cT];unfold zdb at hh;obtain ⟨h1,h2⟩:=zcM.1 hh;simp only[zRv,h1,h2,cT,share,zci]
theorem zLh:vF 262 zBz:=kF2 zFz zu zl zn (zo []) zRV
@[simp] abbrev zxv (k:Kept)(p:Int):Bool:=pc (SmK k)
@[simp] abbrev zsp (k:Kept)(p:Int):Kept:=zbG k p
def zBh:Run:=rF2 (dT .kept) dI fun b c=>(zxv b c,[aT .kept (zsp b c)])
def zHc (N:Nat)(a0:Kept)(a1:Int):OA:=
 let y0:=(zdl a0); (oN (zgB a0) (oN (zdh a1 (ln a0.Known)) (cond (zdQ a1 (ln a0.Known)) (oN (zdh a1 (ln a0.Slots)) (cond (zdQ a1 (ln a0.Slots)) (oN (inb a1 (ln y0.Known)) (share (up y0.Known a1 false) (fun x3=>(oN zeM (oN (inb a1 (ln y0.Slots)) (share (up y0.Slots a1 zeL) (fun x4=>(some [(aT .kept (⟨x3,x4⟩:Kept))])))))))) (some [(aT .kept y0)]))) (some [(aT .kept y0)]))))
theorem zRD (a0:Kept)(a1:Int)(hc:zxv a0 a1=true):∃N,zHc N a0 a1=some [aT .kept (zsp a0 a1)]:=by
 have hs:=zC.1 hc;refine ⟨0,?_⟩;unfold zHc zsp oN
 conv=>zeta
 refine must (zbp hs) (must rfl ?_);unfold zbG zdb;simp only[zdQ,zdh,zdl,zRv,share,zeM,cT];cases hasB a1 (ln a0.Known)
 .rfl
 .cases hasB a1 (ln a0.Slots)<;>rfl
theorem zKY:vF 228 zBh:=kF2 zFz zu zl zn (zo []) zRD
def z3c:zO:=[(262,zBz),(228,zBh)]++z3b
theorem zr9:zF z3c:=zh zLh (zh zKY zFz)
def zd0 (k:Kept)(l:List Int):Kept:=l.foldl zbG k
theorem zV6:∀(l:List Int) {k:Kept},SmK k->SmK (zd0 k l)
 | [],_,h=>h
 | p :: l,k,h=>zV6 l (zn1 (p:=p) h)
theorem zxm {ρ:Type}(K:List Bool×List Slot->Option ρ):∀(l:List Int) (i:Nat) (k:Kept),SmK k ->
 goL (fun _ x (t:List Bool×List Slot) κ=>bif pc (SmK ⟨t.1,t.2⟩) then κ ((zbG ⟨t.1,t.2⟩ x).Known,(zbG ⟨t.1,t.2⟩ x).Slots) else none) K l i (k.Known,k.Slots)=K ((zd0 k l).Known,(zd0 k l).Slots)
 | [],_,_,_=>rfl
 | x :: l,i,k,h=>by
  have e:pc (SmK ⟨k.Known,k.Slots⟩)=true:=zbp h;simp only[goL,e,cT];exact zxm K l (i+1) (zbG k x) (zn1 h)
def zn3 (l:List Slot)(p:Int):List Int:=idxs (fun (s:Slot)=>ieq s.Page p) l 0
def zdP (k:Kept)(l:List Slot)(p:Int):Kept:=zd0 k (zn3 l p)
theorem z16 {k:Kept}(l:List Slot)(p:Int)(h:SmK k):SmK (zdP k l p):=zV6 _ h
@[simp] abbrev zkI (k:Kept)(l:List Slot)(p:Int):Bool:=pc (SmK k/\l.length<=1048576)
@[simp] abbrev zsR (k:Kept)(l:List Slot)(p:Int):Kept:=zdP k l p
def zsH:Run:=rF3 (dT .kept) (dS .slot) dI fun b c d=>(zkI b c d,[aT .kept (zsR b c d)])
def zvD (N:Nat)(a0:Kept)(a1:lS)(a2:Int):OA:=
 (oN (zfr a0) (oN (zx0 a1 a2) (iter (σ:=(Int×((List Int)×(lB×(lS×(lB×(lS×Unit))))))) N (fun r4 s5=>let y1:=(ix s5.2.1 s5.1 0);let y0:=(⟨s5.2.2.1,s5.2.2.2.1⟩:Kept); (cond (ilt s5.1 (ln s5.2.1)) (oN (inb s5.1 (ln s5.2.1)) (oN (zkJ y0 y1) (r4 ((zG .i64 s5.1 1),(s5.2.1,((zjZ y0 y1).Known,((zjZ y0 y1).Slots,(s5.2.2.2.2.1,(s5.2.2.2.2.2.1,()))))))))) (some [(aT .kept y0)]))) (0,((zoV a1 a2),((zc4 a0).Known,((zc4 a0).Slots,([],([],())))))))))
def zG5:FuncId->Nat->Option Tmpl:=zo [(220,0,{ n:=27,tm:=[(3,.lp 0 0),(6,.lp 1 0),(7,.sl 0 []),(8,ti)],lo:=[(0,[.sl 1 [],.sl 2 []]),(1,[.sl 3 [],.sl 4 []])],ro:=[(0,.int,true),(1,.bool,true),(2,.slot,true),(3,.bool,true),(4,.slot,true)] })]
theorem zGB (a0:Kept)(a1:List Slot)(a2:Int)(hc:zkI a0 a1 a2=true):∃N,zvD N a0 a1 a2=some [aT .kept (zsR a0 a1 a2)]:=by
 obtain ⟨hs,hs2⟩:=zC.1 hc;have hl:(zoV a1 a2).length<=big:=jC (zxz _ a1 0) (zcd hs2).1;refine zbT fun N hNN=>?_;unfold zvD oN
 conv=>zeta
 refine must (zbp ((zvI _).2 hs)) (must (zbp (by omega)) ?_)
 refine (zba (zoV a1 a2) (fun i (t:lB×lS)=>((i:Int),(zoV a1 a2),t.1,t.2,[],[],())) _ (fun _ (x:Int) (t:List Bool×List Slot) κ=>bif pc (SmK ⟨t.1,t.2⟩) then κ ((zbG ⟨t.1,t.2⟩ x).Known,(zbG ⟨t.1,t.2⟩ x).Slots) else none) (fun (t:lB×lS)=>(some [(.agg (Ty.cells .kept (⟨t.1,t.2⟩:Kept)))])) (fun i hi t rec=>?_) (fun t rec=>?_) _ ((zc4 a0).Known,(zc4 a0).Slots) (hNN hl)).trans ?_
 .simp only [zbh hi,zN hi,zZ hi,zU hi hl,cT]
 .simp only [zbb,cF]
 exact zxm _ _ 0 a0 hs
theorem zAH:vF 220 zsH:=kF3 zr9 zu zl zn zG5 zGB
@[simp] abbrev zhN (k:Kept)(l:List Slot)(p:Int):Bool:=pc (SmK k/\l.length<=1048576)
@[simp] abbrev zm5 (k:Kept)(l:List Slot)(p:Int):Kept:=zdP k l p
def zsC:Run:=rF3 (dT .kept) (dS .slot) dI fun b c d=>(zhN b c d,[aT .kept (zm5 b c d)])
def zvv (N:Nat)(a0:Kept)(a1:lS)(a2:Int):OA:=
 (oN (zgB a0) (oN (zxy a1 a2) (iter (σ:=(Int×(Int×((List Int)×(lB×(lS×(lB×(lS×Unit)))))))) N (fun r4 s5=>let y1:=(ix s5.2.2.1 s5.2.1 0);let y0:=(⟨s5.2.2.2.2.2.1,s5.2.2.2.2.2.2.1⟩:Kept); (cond (ilt s5.2.1 s5.1) (oN (inb s5.2.1 (ln s5.2.2.1)) (oN (zxv y0 y1) (r4 (s5.1,((zG .i64 s5.2.1 1),(s5.2.2.1,(s5.2.2.2.1,(s5.2.2.2.2.1,((zsp y0 y1).Known,((zsp y0 y1).Slots,())))))))))) (some [(aT .kept y0)]))) ((ln (zjK a1 a2)),(0,((zjK a1 a2),([],([],((zdl a0).Known,((zdl a0).Slots,()))))))))))
def zG0:FuncId->Nat->Option Tmpl:=zo [(178,0,{ n:=25,tm:=[(6,.lp 0 0),(7,.lp 1 0),(14,.sl 0 []),(15,ti),(16,ti)],lo:=[(0,[.sl 1 [],.sl 2 []]),(1,[.sl 3 [],.sl 4 []])],ro:=[(0,.int,true),(1,.bool,true),(2,.slot,true),(3,.bool,true),(4,.slot,true)] })]
theorem zGs (a0:Kept)(a1:List Slot)(a2:Int)(hc:zhN a0 a1 a2=true):∃N,zvv N a0 a1 a2=some [aT .kept (zm5 a0 a1 a2)]:=by
 obtain ⟨hs,hs2⟩:=zC.1 hc;have hl:(zjK a1 a2).length<=big:=jC (zxz _ a1 0) (zcd hs2).1;refine zbT fun N hNN=>?_;unfold zvv oN
 conv=>zeta
 refine must (zbp hs) (must (zbp (by omega)) ?_)
 refine (zba (zjK a1 a2) (fun i (t:lB×lS)=>((ln (zjK a1 a2)),(i:Int),(zjK a1 a2),[],[],t.1,t.2,())) _ (fun _ (x:Int) (t:List Bool×List Slot) κ=>bif pc (SmK ⟨t.1,t.2⟩) then κ ((zbG ⟨t.1,t.2⟩ x).Known,(zbG ⟨t.1,t.2⟩ x).Slots) else none) (fun (t:lB×lS)=>(some [(.agg (Ty.cells .kept (⟨t.1,t.2⟩:Kept)))])) (fun i hi t rec=>?_) (fun t rec=>?_) _ ((zdl a0).Known,(zdl a0).Slots) (hNN hl)).trans ?_
 .simp only [zbh hi,zN hi,zZ hi,zU hi hl,cT]
 .simp only [zbb,cF]
 exact zxm _ _ 0 a0 hs
theorem zAB:vF 178 zsC:=kF3 zr9 zu zl zn zG0 zGs
def flushed (l:List Entry)(p:Int):List Entry:=l.filter fun e=>!ieq e.Host p
theorem zEu (l:List Entry)(p:Int):(flushed l p).length<=l.length:=k8 _ _
theorem zm0 {α ρ:Type}(p:α->Bool)(K:List α->Option ρ):∀(l:List α) (i:Nat) (acc:List α),acc.length+l.length<=2147483648 ->
 goL (fun _ x acc κ=>bif p x then (cond (few (ln (ap acc [x]))) (κ (ap acc [x])) none) else κ acc) K l i acc=K (acc++l.filter p)
 | [],i,acc,_=>by simp[goL]
 | x :: l,i,acc,h=>by
  simp only[qU]at h;simp only[goL];cases hp:p x
  .rw [cF,zm0 p K l (i+1) acc (by omega),List.filter_cons_of_neg (by simp[hp])]
  .rw [cT,zfU (by simp[ap];omega),cT,zm0 p K l (i+1) _ (by simp[ap];omega),List.filter_cons_of_pos hp]
   simp[ap]
@[simp] abbrev zgV (l:List Entry)(p:Int):Bool:=pc (l.length<=1048576)
@[simp] abbrev zpv (l:List Entry)(p:Int):List Entry:=flushed l p
def zt7:Run:=rF2 (dS .entry) dI fun b c=>(zgV b c,[aS .entry (zpv b c)])
def zyt (N:Nat)(a0:lE)(a1:Int):OA:=
 (iter (σ:=(Int×(Int×(lE×(lE×Unit))))) N (fun r3 s4=>let y1:=s4.2.2.1;let y0:=(ix y1 s4.2.1 zew); (cond (ilt s4.2.1 (ln y1)) (oN (inb s4.2.1 (ln y1)) (cond (ine y0.Host s4.1) (oN (inb s4.2.1 (ln y1)) (oN (few (ln (ap s4.2.2.2.1 [y0]))) (r3 (s4.1,((zG .i64 s4.2.1 1),(y1,((ap s4.2.2.2.1 [y0]),()))))))) (r3 (s4.1,((zG .i64 s4.2.1 1),(y1,(s4.2.2.2.1,()))))))) (some [(aS .entry s4.2.2.2.1)]))) (a1,(0,(a0,([],())))))
def zKz:FuncId->Nat->Option Tmpl:=zo [(221,0,{ n:=29,tm:=[(0,.sl 0 []),(1,ti),(5,.sl 1 []),(6,ti)],lo:=[],ro:=[(0,.entry,false),(1,.entry,true)] })]
theorem zJw (a0:List Entry)(a1:Int)(hc:zgV a0 a1=true):∃N,zyt N a0 a1=some [aS .entry (zpv a0 a1)]:=by
 have hs:=zC.1 hc;have hl:=zcd hs;refine zbT fun N hNN=>?_;unfold zyt oN
 conv=>zeta
 refine (zba a0 (fun i (t:lE)=>(a1,(i:Int),a0,t,())) _ (fun _ (x:Entry) (t:List Entry) κ=>bif !ieq x.Host a1 then (cond (few (ln (ap t [x]))) (κ (ap t [x])) none) else κ t) (fun (t:lE)=>(some [(.one (.s .entry t))])) (fun i hi t rec=>?_) (fun t rec=>?_) _ ([]) (hNN hl.1)).trans ?_
 .simp only [zbh hi,zN hi,zZ hi,zU hi hl.1,cT];rfl
 .simp only [zbb,cF]
 exact zm0 (fun e=>!ieq e.Host a1) _ a0 0 [] (by simpa using hl.2)
theorem zC6:vF 221 zt7:=kF2 zr9 zu zl zn zKz zJw
@[simp] abbrev zdM (l:List Entry)(p:Int):Bool:=pc (l.length<=1048576)
@[simp] abbrev zf9 (l:List Entry)(p:Int):List Entry:=flushed l p
def ztU:Run:=rF2 (dS .entry) dI fun b c=>(zdM b c,[aS .entry (zf9 b c)])
def zyf (N:Nat)(a0:lE)(a1:Int):OA:=
 (iter (σ:=(Int×(Int×(Int×(lE×(lE×Unit)))))) N (fun r3 s4=>let y1:=s4.2.2.2.2.1;let y0:=(ix y1 s4.2.1 zew); (cond (ilt s4.2.1 s4.1) (oN (inb s4.2.1 (ln y1)) (cond (nB (ieq y0.Host s4.2.2.1)) (oN (few (ln (ap s4.2.2.2.1 [y0]))) (r3 (s4.1,((zG .i64 s4.2.1 1),(s4.2.2.1,((ap s4.2.2.2.1 [y0]),(y1,()))))))) (r3 (s4.1,((zG .i64 s4.2.1 1),(s4.2.2.1,(s4.2.2.2.1,(y1,())))))))) (some [(aS .entry s4.2.2.2.1)]))) ((ln a0),(0,(a1,([],(a0,()))))))
def zKq:FuncId->Nat->Option Tmpl:=zo [(209,0,{ n:=25,tm:=[(1,.fn 229 [0]),(5,.sl 0 []),(9,.sl 1 []),(10,ti),(11,ti)],lo:=[(0,[ti])],ro:=[(0,.entry,true),(1,.entry,false)] })]
theorem zJh (a0:List Entry)(a1:Int)(hc:zdM a0 a1=true):∃N,zyf N a0 a1=some [aS .entry (zf9 a0 a1)]:=by
 have hs:=zC.1 hc;have hl:=zcd hs;refine zbT fun N hNN=>?_;unfold zyf oN nB
 conv=>zeta
 refine (zba a0 (fun i (t:lE)=>((ln a0),(i:Int),a1,t,a0,())) _ (fun _ (x:Entry) (t:List Entry) κ=>bif !ieq x.Host a1 then (cond (few (ln (ap t [x]))) (κ (ap t [x])) none) else κ t) (fun (t:lE)=>(some [(.one (.s .entry t))])) (fun i hi t rec=>?_) (fun t rec=>?_) _ ([]) (hNN hl.1)).trans ?_
 .simp only [zbh hi,zN hi,zZ hi,zU hi hl.1,cT];cases ieq a0[i].Host a1<;>rfl
 .simp only [zbb,cF]
 exact zm0 (fun e=>!ieq e.Host a1) _ a0 0 [] (by simpa using hl.2)
theorem zCT:vF 179 ztU:=kF2 zr9 zu zl zn zKq zJh
def zWA:zO:=[(220,zsH),(178,zsC),(221,zt7),(179,ztU)]++z3c
theorem zxa:zF zWA:=zh zAH (zh zAB (zh zC6 (zh zCT zr9)))
def zgO (gs:List Guest)(p:Int):Nat->List Kept->List Kept
 | 0,ts=>ts
 | n+1,ts=>up (zgO gs p n ts) (n:Int) (zdP (ix (zgO gs p n ts) (n:Int) zee) (ix gs (n:Int) zx).Live p)
theorem zmp (gs:List Guest)(p:Int):∀(n:Nat) (ts:List Kept),(zgO gs p n ts).length=ts.length
 | 0,_=>rfl
 | n+1,ts=>by simp only[zgO,zfG];exact zmp gs p n ts
theorem zqr (gs:List Guest)(p:Int):∀(n:Nat) (ts:List Kept),n<=ts.length->zAc ts->zAc (zgO gs p n ts)
 | 0,_,_,h=>h
 | n+1,ts,hn,h=>by
  have ih:=zqr gs p n ts (by omega) h
  have hl:n<(zgO gs p n ts).length:=by rw[zmp];omega
  exact zwR ih (z16 _ _ (by rw[zZ hl];exact ih.2 _ (jG hl)))
def zgI (x:Mon)(p:Int)(n:Nat):Mon:={ x with Tables:=zgO x.Guests p n x.Tables }
theorem z0h {x:Mon}{p:Int}{n:Nat}(hn:n<=x.Tables.length)(h:zeG x):zeG (zgI x p n):=⟨h.1,h.2.1,h.2.2.1,h.2.2.2.1,h.2.2.2.2.1,zqr _ _ _ _ hn h.2.2.2.2.2⟩
def zbL (h:Host)(m p:Int)(s:Slot):Host :=
 bif ine (ix (ix h.Mons m zf).Outer p zJ).Page (-1)
 then ⟨h.Memory,up h.Mons m { zgI (ix h.Mons m zf) p (ix h.Mons m zf).Tables.length with Outer:=up (ix h.Mons m zf).Outer p s },flushed h.Buffer (ix (ix h.Mons m zf).Outer p zJ).Page,flushed h.IoBuffer (ix (ix h.Mons m zf).Outer p zJ).Page⟩
 else ⟨h.Memory,up h.Mons m { zgI (ix h.Mons m zf) p (ix h.Mons m zf).Tables.length with Outer:=up (ix h.Mons m zf).Outer p s },h.Buffer,h.IoBuffer⟩
def z5J (h:Host)(m p:Int):Prop:=hasB m (ln h.Mons)=true/\hasB p (ln (ix h.Mons m zf).Outer)=true/\(ix h.Mons m zf).Tables.length<=(ix h.Mons m zf).Guests.length
@[simp] abbrev zeD (h:Host)(m p:Int)(s:Slot):Bool:=pc (zbA h/\z5J h m p)
@[simp] abbrev zgg (h:Host)(m p:Int)(s:Slot):Host:=zbL h m p s
def zqV:List AV->Option (Bool×List AV)
 | [.agg [.s (.sl .int) b,.s .mon c,.s .entry d,.s .entry e],.one (.i .i64 f),.one (.i .i64 g),.agg [.i .i64 h,.i .i64 j]]=>some ((zeD (⟨b,c,d,e⟩:Host) f g (⟨h,j⟩:Slot)),[aH (zgg (⟨b,c,d,e⟩:Host) f g (⟨h,j⟩:Slot))])
 | _=>none
def zuR (N:Nat)(a0:Host)(a1 a2:Int)(a3:Slot):OA:=
 let y7:=(ix a0.Mons a1 zf); (oN (inb a1 (ln a0.Mons)) (oN (inb a2 (ln y7.Outer)) (iter (σ:=(Int×(Int×(Int×(Int×(Int×(Int×(Int×(Int×(Int×(Int×(Int×(Int×(Int×(Int×(Int×(lM×(lN×(lE×(lE×(lM×(lN×(lE×(lE×Unit)))))))))))))))))))))))) N (fun r5 s6=>let y19:=s6.2.2.1;let y18:=s6.2.2.2.2.2.2.2.2.2.2.2.1;let y17:=s6.2.2.2.2.2.2.2.2.2.2.2.2.1;let y15:=s6.2.2.2.2.2.2.2.2.2.2.2.2.2.2.1;let y14:=s6.2.2.2.2.2.2.2.2.2.2.2.2.2.2.2.1;let y13:=s6.2.2.2.2.2.2.2.1;let y11:=s6.2.2.2.2.2.2.2.2.1;let y10:=s6.2.2.2.1;let y9:=s6.2.2.2.2.2.2.2.2.2.2.1;let y8:=s6.2.2.2.2.2.2.2.2.2.2.2.2.2.2.2.2.2.1;let y6:=s6.2.2.2.2.2.2.2.2.2.2.2.2.2.2.2.2.2.2.1;let y5:=s6.2.2.2.2.2.2.1;let y3:=s6.2.2.2.2.2.2.2.2.2.1;let y1:=s6.2.2.2.2.2.2.2.2.2.2.2.2.2.1;let y0:=s6.2.2.2.2.2.2.2.2.2.2.2.2.2.2.2.2.1;let y20:=(ix y0 y3 zf).Guests;let y16:=(ix y20 y10 zx).Live;let y12:=(ix y0 y5 zf);let y4:=(ix y0 y1 zf).Tables;let y2:=(up y0 y5 ({ y12 with Outer:=(up y12.Outer s6.2.1 (⟨s6.2.2.2.2.1,s6.2.2.2.2.2.1⟩:Slot)) }:Mon)); (cond (ilt y10 (ln y4)) (oN (inb y10 (ln y4)) (oN (inb y10 (ln y20)) (oN (zkI (ix y4 y10 zee) y16 s6.2.1) (oN (inb y10 (ln y4)) (share (up y0 y1 ({ (ix y0 y1 zf) with Tables:=(up y4 y10 (zsR (ix y4 y10 zee) y16 s6.2.1)) }:Mon)) (fun x7=>(r5 (s6.1,(s6.2.1,(y19,((zG .i64 y10 1),(s6.2.2.2.2.1,(s6.2.2.2.2.2.1,(y5,(y13,(y11,(y3,(y9,(y18,(y17,(y1,(y15,(y14,(x7,(y8,(y6,(s6.2.2.2.2.2.2.2.2.2.2.2.2.2.2.2.2.2.2.2.1,(s6.2.2.2.2.2.2.2.2.2.2.2.2.2.2.2.2.2.2.2.2.1,(s6.2.2.2.2.2.2.2.2.2.2.2.2.2.2.2.2.2.2.2.2.2.1,(s6.2.2.2.2.2.2.2.2.2.2.2.2.2.2.2.2.2.2.2.2.2.2.1,())))))))))))))))))))))))))))))) (cond (ine y19 (-1)) (oN (zgV y8 y19) (oN (zgV y6 y19) (oN (inb s6.2.1 (ln y12.Outer)) (share y2 (fun x7=>(oN (inb s6.1 (ln x7)) (oN (cond (cond (cond (cond (cond (cond (ieq y1 s6.1) true false) (cond (ieq y9 s6.1) true false) false) (cond (ieq y3 s6.1) true false) false) (cond (ieq y11 s6.1) true false) false) (cond (ieq y13 s6.1) true false) false) (cond (ieq y5 s6.1) true false) false) (share (up x7 s6.1 ({ (ix x7 y5 zf) with Out:=(ix x7 y13 zf).Out,Dirty:=(ix x7 y11 zf).Dirty,Guests:=(ix x7 y3 zf).Guests,Outs:=(ix x7 y9 zf).Outs,Pending:=y18,Traps:=y17,Tables:=(ix x7 y1 zf).Tables,Own:=y15 }:Mon)) (fun x8=>(some [(aH (⟨y14,x8,(zpv y8 y19),(zpv y6 y19)⟩:Host))])))))))))) (oN (inb s6.2.1 (ln y12.Outer)) (share y2 (fun x7=>(oN (inb s6.1 (ln x7)) (oN (cond (cond (cond (cond (cond (cond (ieq y1 s6.1) true false) (cond (ieq y9 s6.1) true false) false) (cond (ieq y3 s6.1) true false) false) (cond (ieq y11 s6.1) true false) false) (cond (ieq y13 s6.1) true false) false) (cond (ieq y5 s6.1) true false) false) (share (up x7 s6.1 ({ (ix x7 y5 zf) with Out:=(ix x7 y13 zf).Out,Dirty:=(ix x7 y11 zf).Dirty,Guests:=(ix x7 y3 zf).Guests,Outs:=(ix x7 y9 zf).Outs,Pending:=y18,Traps:=y17,Tables:=(ix x7 y1 zf).Tables,Own:=y15 }:Mon)) (fun x8=>(some [(aH (⟨y14,x8,y8,y6⟩:Host))]))))))))))) (a1,(a2,((ix y7.Outer a2 zJ).Page,(0,(a3.Page,(a3.Rights,(a1,(a1,(a1,(a1,(a1,(y7.Pending,(y7.Traps,(a1,(y7.Own,(a0.Memory,(a0.Mons,(a0.Buffer,(a0.IoBuffer,([],([],([],([],()))))))))))))))))))))))))))
def zP8:FuncId->Nat->Option Tmpl:=zo [(160,0,{ n:=70,tm:=[(1,ti),(2,ti),(4,.lp 0 0),(7,.lp 1 0),(8,.lp 2 0),(9,.lp 3 0),(10,ti),(11,ti)],lo:=[(0,[.sl 0 [],.sl 1 [],.sl 2 [],.sl 3 []]),(1,[ti,ti]),(2,[.sl 4 [],.sl 5 [],.sl 6 [],.sl 7 []]),(3,[.sl 1 [0],.sl 1 [1],.sl 1 [2],.sl 1 [3],.sl 1 [4],ti,ti,.sl 1 [7],ti])],ro:=[(0,(.sl .int),true),(1,.mon,true),(2,.entry,true),(3,.entry,true),(4,(.sl .int),true),(5,.mon,true),(6,.entry,true),(7,.entry,true)] })]
theorem zSF (N:Nat)(a0:Host)(a1 a2:Int)(a3:Slot):zCv (cQ zWA zox zMG zk6) zP8 N 12 160 [true,true,true,true,false,false,false,false] 1 1 [[0],[1],[2],[4],[7]] .mon [aH a0,aI a1,aI a2,aT .slot a3]=zuR N a0 a1 a2 a3:=by kernel_rfl
theorem zPM (a0:Host)(a1 a2:Int)(a3:Slot)(hb:zbB big [aH a0,aI a1,aI a2,aT .slot a3])(hc:zeD a0 a1 a2 a3=true):∃N,zuR N a0 a1 a2 a3=some [aH (zgg a0 a1 a2 a3)]:=by
 obtain ⟨hs,h1,h2,h3⟩:=zC.1 hc;have hH:=(zM a0).1 hs;have hm:zeG (ix a0.Mons a1 zf):=hH.2.1.2 _ (zbr h1 _);obtain ⟨k,rfl,hk⟩:=zc9 (n:=a0.Mons.length) h1;have hT:=(zcd hm.2.2.2.2.2.1).1;refine zbT fun N hNN=>?_;unfold zuR oN
 conv=>zeta
 refine must h1 (must h2 ?_);refine zv0 (ix a0.Mons (k:Int) zf).Tables.length (fun i (t:List Mon)=>((k:Int),a2,(ix (ix a0.Mons (k:Int) zf).Outer a2 zJ).Page,(i:Int),a3.Page,a3.Rights,(k:Int),(k:Int),(k:Int),(k:Int),(k:Int),(ix a0.Mons (k:Int) zf).Pending,(ix a0.Mons (k:Int) zf).Traps,(k:Int),(ix a0.Mons (k:Int) zf).Own,a0.Memory,t,a0.Buffer,a0.IoBuffer,[],[],[],[],())) _
  (fun i t=>t=up a0.Mons (k:Int) (zgI (ix a0.Mons (k:Int) zf) a2 i)) (fun _ _=>some [AV.agg (zbf (zbL a0 (k:Int) a2 a3))]) (fun i t rec hi hI hr=>?_) (fun t rec hI=>?_) _ 0 a0.Mons ?_ (jV _) ?_
 .subst hI;have hi2:i<(zgO (ix a0.Mons (k:Int) zf).Guests a2 i (ix a0.Mons (k:Int) zf).Tables).length:=by rw[zmp];exact hi
  have hi3:i<(ix a0.Mons (k:Int) zf).Guests.length:=by omega
  have hf:zkI (ix (zgO (ix a0.Mons (k:Int) zf).Guests a2 i (ix a0.Mons (k:Int) zf).Tables) (i:Int) zee) (ix (ix a0.Mons (k:Int) zf).Guests (i:Int) zx).Live a2=true :=
   zbp ⟨by rw[zZ hi2];exact (zqr _ _ _ _ (by omega) hm.2.2.2.2.2).2 _ (jG hi2),by rw[zZ hi3];exact (hm.2.2.2.1.2 _ (jG hi3)).2.2.1⟩
  simp only[zc5 hk,zpU,zgI,zbh hi2,zN hi2,zN hi3,hf,cT,share,zU hi hT];exact hr _ rfl
 .subst hI;simp only[zc5 hk,zpU,zfG,zgI,ln,zmp,zcC,show ilt (((ix a0.Mons (k:Int) zf).Tables.length:Nat):Int) (((ix a0.Mons (k:Int) zf).Tables.length:Nat):Int)=false from qJ (by omega),cT,cF,share]
  have h1':inb (k:Int) ((a0.Mons.length:Nat):Int)=true:=h1;have h2':inb a2 (((ix a0.Mons (k:Int) zf).Outer.length:Nat):Int)=true:=h2;have f1:zgV a0.Buffer (ix (ix a0.Mons (k:Int) zf).Outer a2 zJ).Page=true:=zbp hH.2.2.1;have f2:zgV a0.IoBuffer (ix (ix a0.Mons (k:Int) zf).Outer a2 zJ).Page=true:=zbp hH.2.2.2;simp only[h1',h2',f1,f2,cT];unfold zbL;cases ine (ix (ix a0.Mons (k:Int) zf).Outer a2 zJ).Page (-1)<;>rfl
 .exact (zM9 hk _).symm
 .exact hNN (by omega)
theorem zI6:zdF Tryz.prog 160 [true,true,true,true,false,false,false,false] (some (1,1,[[0],[1],[2],[4],[7]])) zqV:=by
 refine zko (kt:=.mon) (zcS zxa zu zl zn) (zef (by kernel_rfl)) (by kernel_rfl) ?_
 intro avs rs hl hr h;have hb:=zhH hr;unfold zqV at h;split at h
 .obtain ⟨hc,rfl⟩:=zdJ h;obtain ⟨N,hN⟩:=zPM _ _ _ _ (by exact hb) hc
  exact ⟨⟨_,rfl⟩,rfl,_,N,12,(zSF N _ _ _ _ ).trans hN⟩
 .cases h
def zTn:zfc:=[(160,([true,true,true,true,false,false,false,false],(some (1,1,[[0],[1],[2],[4],[7]])),zqV))]++zk6
theorem zdC:zd6 zTn:=zo1 zn (by
 intro x hx;simp only[qH,qX,or_false]at hx;rcases hx with rfl
 .exact zI6)
def zlH (x:Mon)(p:Int):Mon:={ x with Dirty:=up x.Dirty p false }
def grd (x:Mon)(p:Int):Mon:={ x with Outer:=up x.Outer p ⟨(ix x.Outer p zJ).Page,1⟩ }
def zev (h:Host)(m p:Int):Host:={ h with Mons:=up h.Mons m (zlH (ix h.Mons m zf) p) }
def zdo (h:Host)(m p:Int):Host:=bif zbQ h m p then (cond (zcq (ix (ix h.Mons m zf).Outer p zJ) noSlot) (zev h m p) (zbL (zev h m p) m p ⟨(ix (ix h.Mons m zf).Outer p zJ).Page,1⟩)) else h
theorem zxq:∀(l:List Mon) (u:List Bool),zhL l u=true->∀x∈l,zdD x=true
 | [],_,_,x,hx=>by cases hx
 | m :: l,u,h,x,hx=>by
  simp only[zhL]at h;cases h1:zdD m
  .rw [h1]at h;cases h
  .rw [h1]at h;simp only[cT]at h;cases h2:zfW m.Outer u with
   | none=>rw[h2]at h;cases h
   | some u' =>
    rw[h2]at h;rcases qH.1 hx with rfl|hx
    .exact h1
    .exact zxq l u' h x hx
structure PageAt (h:Host) (m p:Int):Prop where
 hm:hasB m (ln h.Mons)=true
 hp:hasB p 8=true
 ok:zdD (ix h.Mons m zf)=true
 ho:(ix h.Mons m zf).Outer.length=8
 hd:(ix h.Mons m zf).Dirty.length=8
 ht:(ix h.Mons m zf).Tables.length=(ix h.Mons m zf).Guests.length
 hs:zcq (ix (ix h.Mons m zf).Outer p zJ) noSlot=ieq (ix (ix h.Mons m zf).Outer p zJ).Page (-1)
theorem zOx {s:Slot}{n:Int}(h:zde s n=true):zcq s noSlot=ieq s.Page (-1):=by
 unfold zde at h;cases h1:zcq s noSlot
 .rw [h1]at h;cases h2:ieq s.Page (-1)
  .rfl
  .have e:s.Page = -1:=qE h2;cases h3:igt n 0
   .rw [h3]at h;cases h
   .cases h4:win s.Page 0 (wsub .i64 n 1)
    .rw [h3,h4]at h;cases h
    .have:=(zfS.1 h4).1;omega
 .unfold zcq at h1;rw[qD]at h1;exact h1.1.symm
theorem zxK {h:Host}{m p:Int}(hp:zbQ h m p=true):PageAt h m p:=by
 unfold zbQ at hp;simp only[zcM]at hp;obtain ⟨h0,h1,h2⟩:=hp;unfold zbJ at h0;simp only[zcM]at h0;have hok:=zxq _ _ h0.2.2.2.2 _ (zbr h1 zf);have hk:=hok;unfold zdD at hk;simp only[zcM]at hk;have ho:(ix h.Mons m zf).Outer.length=8:=by have:=zqu hk.2.2.1;simp only[ln] at this;omega
 refine ⟨h1,h2,hok,ho,?_,?_,?_⟩
 .have:ln (ix h.Mons m zf).Dirty=8:=qE hk.2.2.2.2.1;simp only[ln] at this;omega
 .have:ln (ix h.Mons m zf).Tables=ln (ix h.Mons m zf).Guests:=qE hk.2.1;simp only[ln] at this;omega
 .have ht:=hk.2.2.1;unfold zcw at ht;simp only[zcM]at ht;have hi:hasB p (ln (ix h.Mons m zf).Outer)=true:=by rw[ln,ho];exact h2
  exact zOx (qM.1 ht.1 _ (zbr hi _))
theorem zTe {x:Mon}{p:Int}(h:zeG x):zeG (zlH x p):=⟨h.1,h.2.1,by simpa [zlH] using h.2.2.1,h.2.2.2⟩
theorem zx7 {h:Host}{m p:Int}(hm:hasB m (ln h.Mons)=true)(hs:SmH h):SmH (zev h m p):=⟨hs.1,zic hs.2.1 (zTe (hs.2.1.2 _ (zbr hm _))),hs.2.2⟩
theorem zFa {h:Host}{m p:Int}{s:Slot}(hm:hasB m (ln h.Mons)=true)(hs:SmH h):SmH (zbL h m p s):=by
 have hx:=hs.2.1.2 _ (zbr hm zf);have ht:=z0h (p:=p) (qW _) hx;have hM:zpW (up h.Mons m { zgI (ix h.Mons m zf) p (ix h.Mons m zf).Tables.length with Outer:=up (ix h.Mons m zf).Outer p s }):=zic hs.2.1 ⟨by simpa using hx.1,ht.2⟩
 unfold zbL;cases ine (ix (ix h.Mons m zf).Outer p zJ).Page (-1)
 .exact ⟨hs.1,hM,hs.2.2⟩
 .exact ⟨hs.1,hM,jC (zEu _ _) hs.2.2.1,jC (zEu _ _) hs.2.2.2⟩
theorem zya {h:Host}{m p:Int}(hm:hasB m (ln h.Mons)=true):hasB m (ln (zev h m p).Mons)=true:=by
 unfold zev;simpa [ln] using hm
theorem zCd {h:Host}{m p:Int}(hs:SmH h):SmH (zdo h m p):=by
 unfold zdo;cases hp:zbQ h m p
 .exact hs
 .have P:=zxK hp;cases zcq (ix (ix h.Mons m zf).Outer p zJ) noSlot
  .exact zFa (zya P.hm) (zx7 P.hm hs)
  .exact zx7 P.hm hs
@[simp] abbrev zB0 (h:Host)(m p:Int):Bool:=pc (zbA h)
@[simp] abbrev zui (h:Host)(m p:Int):Host:=zdo h m p
@[simp] abbrev zuj (h:Host)(m p:Int):Bool:=zbQ h m p
def zER:Run:=rF3 dH dI dI fun b c d=>(zB0 b c d,[aH (zui b c d),aB (zuj b c d)])
def zNn (N:Nat)(a0:Host)(a1 a2:Int):OA:=
 let y3:=(zk a0);let y2:=(ix y3.Mons a1 zf); (oN (zbD a0) (oN (zmF y3 a1 a2) (cond (nB (zgW y3 a1 a2)) (some [(aH y3),(aB false)]) (oN (inb a1 (ln y3.Mons)) (oN (inb a2 (ln y2.Dirty)) (share (up y3.Mons a1 ({ y2 with Dirty:=(up y2.Dirty a2 false) }:Mon)) (fun x4=>let y4:=(ix x4 a1 zf).Outer;let y1:=({ y3 with Mons:=x4 }:Host);let y0:=(ix y4 a2 zJ);let y5:=({ y0 with Rights:=1 }:Slot); (oN (inb a1 (ln x4)) (oN (inb a2 (ln y4)) (oN zci (cond (cond (ieq y0.Page zbq.Page) (ieq y0.Rights zbq.Rights) false) (some [(aH y1),(aB true)]) (oN (zeD y1 a1 a2 y5) (some [(aH (zgg y1 a1 a2 y5)),(aB true)])))))))))))))
theorem zUo (a0:Host)(a1 a2:Int)(hc:zB0 a0 a1 a2=true):∃N,zNn N a0 a1 a2=some [aH (zui a0 a1 a2),aB (zuj a0 a1 a2)]:=by
 have hs:=zC.1 hc;have hH:=(zM a0).1 hs;refine ⟨0,?_⟩;unfold zNn zui zuj zdo oN nB
 conv=>zeta
 refine must (zbp hs) (must rfl ?_);cases hp:zbQ a0 a1 a2
 .simp only [zgW,zk,hp,cF,cT]
 .have P:=zxK hp;obtain ⟨k,rfl,hk⟩:=zc9 (n:=a0.Mons.length) P.hm;simp only[zgW,zk,hp,cT,cF];have i1:inb a2 (ln (ix a0.Mons (k:Int) zf).Dirty)=true:=by rw[ln,P.hd];exact P.hp
  have i2:inb a2 (ln (ix a0.Mons (k:Int) zf).Outer)=true:=by rw[ln,P.ho];exact P.hp
  refine must P.hm (must i1 ?_);simp only[share,zc5 hk,i2,cT,zci,zbq];refine must (zya (p:=a2) P.hm) ?_;have e:∀s:Slot,zcq s noSlot=bif ieq s.Page noSlot.Page then ieq s.Rights noSlot.Rights else false:=fun s=>by
   unfold zcq;cases ieq s.Page noSlot.Page<;>rfl
  rw[<- e];cases zcq (ix (ix a0.Mons (k:Int) zf).Outer a2 zJ) noSlot
  .refine zc6 rfl (must (zbp ⟨(zM _).2 (zx7 P.hm hH),zya (p:=a2) P.hm,?_,?_⟩) rfl)
   .simp only [zc5 hk];exact i2
   .simp only [zc5 hk];exact vD P.ht
  .rfl
theorem zOQ:vF 248 zER:=kF3 zxa zu zl zdC (zo []) zUo
@[simp] abbrev zAO (h:Host)(m p:Int):Bool:=pc (zbA h)
@[simp] abbrev ztO (h:Host)(m p:Int):Host:=zdo h m p
@[simp] abbrev zAN (h:Host)(m p:Int):Bool:=zbQ h m p
def zEK:Run:=rF3 dH dI dI fun b c d=>(zAO b c d,[aH (ztO b c d),aB (zAN b c d)])
def zNf (N:Nat)(a0:Host)(a1 a2:Int):OA:=
 let y11:=(zf0 a0);let y0:=(ix y11.Mons a1 zf);let y3:=(ix y0.Outer a2 zJ); (oN (zm7 a0) (oN (zu0 a0 a1 a2) (cond (nB (zqd a0 a1 a2)) (some [(aH y11),(aB false)]) (oN (inb a1 (ln y11.Mons)) (oN (inb a2 (ln y0.Outer)) (cond (ine y3.Page (-1)) (oN (inb a2 (ln y0.Outer)) (share (up y11.Mons a1 ({ y0 with Outer:=(up y0.Outer a2 ({ y3 with Rights:=1 }:Slot)) }:Mon)) (fun x4=>(oN (inb a1 (ln x4)) (oN (cond (cond (cond (ieq a1 a1) true false) (cond (cond (ieq a1 a1) true false) (cond (cond (ieq a1 a1) true false) (cond (cond (ieq a1 a1) true false) (cond (cond (ieq a1 a1) true false) (cond (ieq a1 a1) (cond (cond (ieq a2 a2) (ieq a1 a1) false) (cond (cond (ieq a1 a1) true false) (cond (cond (ieq a1 a1) true false) (cond (cond (ieq a1 a1) true false) (cond (ieq a1 a1) (cond (cond (ieq a2 a2) (ieq a1 a1) false) (cond (cond (ieq a2 a2) (ieq a1 a1) false) true false) false) false) false) false) false) false) false) false) false) false) false) false) true false) (iter (σ:=(Int×(Int×(Int×(Int×(Int×(Int×(Int×(Int×(lN×(lM×(lN×(lE×(lE×(lM×(lE×(lE×(lM×(lN×(lE×(lE×Unit))))))))))))))))))))) N (fun r5 s6=>let y10:=s6.2.2.2.2.1;let y9:=s6.2.2.2.2.2.2.2.2.1;let y8:=s6.2.2.2.2.2.2.2.2.2.2.2.2.2.1;let y7:=s6.2.2.2.1;let y5:=s6.2.2.2.2.2.2.2.2.2.2.2.2.2.2.1;let y4:=s6.2.2.2.2.2.2.2.2.2.2.2.2.2.2.2.1;let y2:=(ix y9 a1 zf);let y6:=(up y9 a1 ({ y2 with Dirty:=(up y2.Dirty a2 false) }:Mon));let y1:=(ix y9 s6.2.1 zf);let y13:=(ix y1.Tables y7 zee);let y12:=(ix y1.Guests y7 zx).Live; (cond (ilt y7 s6.2.2.1) (oN (inb y7 (ln y1.Tables)) (oN (inb y7 (ln y1.Guests)) (oN (zhN y13 y12 s6.1) (oN (inb y7 (ln y1.Tables)) (share (up y9 s6.2.1 ({ y1 with Tables:=(up y1.Tables y7 (zm5 y13 y12 s6.1)) }:Mon)) (fun x7=>(oN (cond (cond (cond (ieq a1 a1) true false) (cond (cond (ieq a1 a1) true false) (cond (cond (ieq a1 a1) true false) (cond (cond (ieq a1 a1) true false) (cond (cond (ieq a1 a1) true false) (cond (ieq a1 a1) (cond (cond (ieq a2 a2) (ieq a1 a1) false) (cond (cond (ieq a1 a1) true false) (cond (cond (ieq a1 a1) true false) (cond (cond (ieq a1 a1) true false) (cond (ieq a1 a1) (cond (cond (ieq a2 a2) (ieq a1 a1) false) (cond (cond (ieq a2 a2) (ieq a1 a1) false) true false) false) false) false) false) false) false) false) false) false) false) false) false) true false) (r5 (s6.1,(s6.2.1,(s6.2.2.1,((zG .i64 y7 1),(y10,(s6.2.2.2.2.2.1,(s6.2.2.2.2.2.2.1,(s6.2.2.2.2.2.2.2.1,(x7,(s6.2.2.2.2.2.2.2.2.2.1,(s6.2.2.2.2.2.2.2.2.2.2.1,(s6.2.2.2.2.2.2.2.2.2.2.2.1,(s6.2.2.2.2.2.2.2.2.2.2.2.2.1,(y8,(y5,(y4,(s6.2.2.2.2.2.2.2.2.2.2.2.2.2.2.2.2.1,(s6.2.2.2.2.2.2.2.2.2.2.2.2.2.2.2.2.2.1,(s6.2.2.2.2.2.2.2.2.2.2.2.2.2.2.2.2.2.2.1,(s6.2.2.2.2.2.2.2.2.2.2.2.2.2.2.2.2.2.2.2.1,())))))))))))))))))))))))))))) (cond (ine y10 (-1)) (oN (zdM y5 y10) (oN (zdM y4 y10) (oN (inb a2 (ln y2.Dirty)) (share y6 (fun x7=>(some [(aH (⟨y8,x7,(zf9 y5 y10),(zf9 y4 y10)⟩:Host)),(aB true)])))))) (oN (inb a2 (ln y2.Dirty)) (share y6 (fun x7=>(some [(aH (⟨y8,x7,y5,y4⟩:Host)),(aB true)]))))))) (a2,(a1,((ln (ix x4 a1 zf).Guests),(0,(y3.Page,(y3.Rights,(y3.Page,(y3.Rights,(x4,(a0.Memory,(a0.Mons,(a0.Buffer,(a0.IoBuffer,(y11.Memory,(y11.Buffer,(y11.IoBuffer,([],([],([],([],())))))))))))))))))))))))))) (oN (inb a2 (ln y0.Dirty)) (share (up y11.Mons a1 ({ y0 with Dirty:=(up y0.Dirty a2 false) }:Mon)) (fun x4=>(some [(aH ({ y11 with Mons:=x4 }:Host)),(aB true)]))))))))))
def zU9:FuncId->Nat->Option Tmpl:=zo [(137,0,{ n:=71,tm:=[(0,.lp 0 0),(2,ti),(7,.lp 1 0),(8,.ep 0 [] 0),(20,ti),(21,ti)],lo:=[(0,[.sl 5 [],.sl 0 [],.sl 6 [],.sl 7 []]),(1,[ti,ti]),(2,[.sl 1 [],.sl 2 [],.sl 3 [],.sl 4 []]),(3,[.sl 8 [],.sl 9 [],.sl 10 [],.sl 11 []]),(4,[ti,ti])],ro:=[(0,.mon,true),(1,(.sl .int),false),(2,.mon,false),(3,.entry,false),(4,.entry,false),(5,(.sl .int),true),(6,.entry,true),(7,.entry,true),(8,(.sl .int),true),(9,.mon,true),(10,.entry,true),(11,.entry,true)],sk:=[(0,0,0,.sl 1 []),(0,0,1,.sl 2 []),(0,0,2,.sl 3 []),(0,0,3,.sl 4 []),(0,3,0,.lp 2 0),(0,6,0,.lp 3 0),(0,10,0,.lp 4 0),(0,12,0,.sl 5 []),(0,12,2,.sl 6 []),(0,12,3,.sl 7 [])] })]
theorem zUf (a0:Host)(a1 a2:Int)(hc:zAO a0 a1 a2=true):∃N,zNf N a0 a1 a2=some [aH (ztO a0 a1 a2),aB (zAN a0 a1 a2)]:=by
 have hs:=zC.1 hc;have hH:=(zM a0).1 hs;refine zbT fun N hNN=>?_;unfold zNf ztO zAN zdo oN nB
 conv=>zeta
 refine must (zbp hs) (must rfl ?_);rw[show zqd a0 a1 a2=zbQ a0 a1 a2 from rfl]
 cases hp:zbQ a0 a1 a2
 .rfl
 .have P:=zxK hp;have hm:zeG (ix a0.Mons a1 zf):=hH.2.1.2 _ (zbr P.hm _);obtain ⟨k,rfl,hk⟩:=zc9 (n:=a0.Mons.length) P.hm;have i1:inb a2 (ln (ix a0.Mons (k:Int) zf).Dirty)=true:=by rw[ln,P.hd];exact P.hp
  have i2:inb a2 (ln (ix a0.Mons (k:Int) zf).Outer)=true:=by rw[ln,P.ho];exact P.hp
  have hT:=(zcd hm.2.2.2.2.2.1).1;refine zc6 rfl ?_;rw[P.hs];refine must P.hm (must i2 ?_);cases hpg:ieq (ix (ix a0.Mons (k:Int) zf).Outer a2 zJ).Page (-1)
  .have hpg2:ine (ix (ix a0.Mons (k:Int) zf).Outer a2 zJ).Page (-1)=true:=by rw[zmx];exact congrArg not hpg
   refine must hpg2 (must i2 ?_);simp only[share];refine must (by simp only[ln,zfG];exact P.hm) ?_
   simp only[zcC,cT,zf0];refine zv0 (ix a0.Mons (k:Int) zf).Guests.length (fun i (t:List Mon)=>(a2,(k:Int),ln (ix (up a0.Mons (k:Int) (grd (ix a0.Mons (k:Int) zf) a2)) (k:Int) zf).Guests,(i:Int),(ix (ix a0.Mons (k:Int) zf).Outer a2 zJ).Page,(ix (ix a0.Mons (k:Int) zf).Outer a2 zJ).Rights,(ix (ix a0.Mons (k:Int) zf).Outer a2 zJ).Page,(ix (ix a0.Mons (k:Int) zf).Outer a2 zJ).Rights,t,a0.Memory,a0.Mons,a0.Buffer,a0.IoBuffer,a0.Memory,a0.Buffer,a0.IoBuffer,[],[],[],[],())) _
    (fun i t=>t=up a0.Mons (k:Int) (zgI (grd (ix a0.Mons (k:Int) zf) a2) a2 i)) (fun _ _=>some [AV.agg (zbf (zbL (zev a0 (k:Int) a2) (k:Int) a2 ⟨(ix (ix a0.Mons (k:Int) zf).Outer a2 zJ).Page,1⟩)),AV.one (.b true)]) (fun i t rec hi hI hr=>?_) (fun t rec hI=>?_) _ 0 (up a0.Mons (k:Int) (grd (ix a0.Mons (k:Int) zf) a2)) rfl (jV _) ?_
   .subst hI;have hi1:i<(ix a0.Mons (k:Int) zf).Tables.length:=by rw[P.ht];exact hi
    have hi2:i<(zgO (ix a0.Mons (k:Int) zf).Guests a2 i (ix a0.Mons (k:Int) zf).Tables).length:=by rw[zmp];exact hi1
    have hf:zhN (ix (zgO (ix a0.Mons (k:Int) zf).Guests a2 i (ix a0.Mons (k:Int) zf).Tables) (i:Int) zee) (ix (ix a0.Mons (k:Int) zf).Guests (i:Int) zx).Live a2=true :=
     zbp ⟨by rw[zZ hi2];exact (zqr _ _ _ _ (by omega) hm.2.2.2.2.2).2 _ (jG hi2),by rw[zZ hi];exact (hm.2.2.2.1.2 _ (jG hi)).2.2.1⟩
    simp only[zc5 hk,zpU,zgI,grd,zbh hi,zN hi2,zN hi,hf,cT,share,zU hi1 hT];have hr':=hr _ rfl;simp only[zc5 hk,zgI,grd]at hr';exact hr'
   .subst hI;have f1:zdM a0.Buffer (ix (ix a0.Mons (k:Int) zf).Outer a2 zJ).Page=true:=zbp hH.2.2.1;have f2:zdM a0.IoBuffer (ix (ix a0.Mons (k:Int) zf).Outer a2 zJ).Page=true:=zbp hH.2.2.2;unfold zbL zev zlH;simp only[zc5 hk,zpU,zgI,grd,zbb,hpg2,f1,f2,i1,P.ht,share,cT,cF]
   .exact hNN (by rw[<- P.ht];omega)
  .refine zc6 (by rw[zmx];exact congrArg not hpg) (must i1 ?_)
   rfl
theorem zOI:vF 70 zEK:=kF3 zxa zu zl zdC zU9 zUf
def zYL:zO:=[(248,zER),(70,zEK)]++zWA
theorem zNS:zF zYL:=zh zOQ (zh zOI zxa)
def zfd (m:Int):Nat->Nat->Host->Host
 | 0,_,h=>h
 | n+1,i,h=>zfd m n (i+1) (zdo h m (i:Int))
theorem zOy (m:Int):∀(n i:Nat) (h:Host),SmH h->SmH (zfd m n i h)
 | 0,_,_,h=>h
 | n+1,i,h,hs=>zOy m n (i+1) _ (zCd hs)
def cleaned (h:Host)(m:Int):Host:=bif zb2 h m then zfd m 8 0 h else h
theorem zN3 {ρ:Type}(m:Int)(K:List (List Int)×List Mon×List Entry×List Entry->Option ρ):∀(n i:Nat) (h:Host),SmH h ->
 goN (fun i (t:List (List Int)×List Mon×List Entry×List Entry) κ=>bif pc (zbA ⟨t.1,t.2.1,t.2.2.1,t.2.2.2⟩) then κ ((zdo ⟨t.1,t.2.1,t.2.2.1,t.2.2.2⟩ m (i:Int)).Memory,(zdo ⟨t.1,t.2.1,t.2.2.1,t.2.2.2⟩ m (i:Int)).Mons,(zdo ⟨t.1,t.2.1,t.2.2.1,t.2.2.2⟩ m (i:Int)).Buffer,(zdo ⟨t.1,t.2.1,t.2.2.1,t.2.2.2⟩ m (i:Int)).IoBuffer) else none) K n i (h.Memory,h.Mons,h.Buffer,h.IoBuffer)
  = K ((zfd m n i h).Memory,(zfd m n i h).Mons,(zfd m n i h).Buffer,(zfd m n i h).IoBuffer)
 | 0,_,_,_=>rfl
 | n+1,i,h,hs=>by
  have e:pc (zbA ⟨h.Memory,h.Mons,h.Buffer,h.IoBuffer⟩)=true:=zbp ((zM h).2 hs);simp only[goN,e,cT];exact zN3 m K n (i+1) (zdo h m (i:Int)) (zCd hs)
@[simp] abbrev zm4 (h:Host)(m:Int):Bool:=pc (zbA h)
@[simp] abbrev zhM (h:Host)(m:Int):Host:=cleaned h m
@[simp] abbrev zgA (h:Host)(m:Int):Bool:=zb2 h m
def zoI:Run:=rF2 dH dI fun b c=>(zm4 b c,[aH (zhM b c),aB (zgA b c)])
def zzD (N:Nat)(a0:Host)(a1:Int):OA:=
 let y2:=(zf0 a0); (oN (zm7 a0) (oN (zkq a0) (cond (nB (zjI a0)) (some [(aH y2),(aB false)]) (oN (zdh a1 (ln a0.Mons)) (cond (nB (zdQ a1 (ln a0.Mons))) (some [(aH y2),(aB false)]) (iter (σ:=(Int×(Int×(lM×(lN×(lE×(lE×(lM×(lN×(lE×(lE×Unit))))))))))) N (fun r3 s4=>let y0:=(⟨s4.2.2.2.2.2.2.1,s4.2.2.2.2.2.2.2.1,s4.2.2.2.2.2.2.2.2.1,s4.2.2.2.2.2.2.2.2.2.1⟩:Host);let y1:=(ztO y0 s4.1 s4.2.1); (cond (ilt s4.2.1 8) (oN (zAO y0 s4.1 s4.2.1) (r3 (s4.1,((zG .i64 s4.2.1 1),(s4.2.2.1,(s4.2.2.2.1,(s4.2.2.2.2.1,(s4.2.2.2.2.2.1,(y1.Memory,(y1.Mons,(y1.Buffer,(y1.IoBuffer,())))))))))))) (some [(aH y0),(aB true)]))) (a1,(0,([],([],([],([],(y2.Memory,(y2.Mons,(y2.Buffer,(y2.IoBuffer,()))))))))))))))))
def zMT:FuncId->Nat->Option Tmpl:=zo [(22,0,{ n:=34,tm:=[(1,ti),(4,.lp 0 0),(6,.lp 1 0),(7,ti)],lo:=[(0,[.sl 0 [],.sl 1 [],.sl 2 [],.sl 3 []]),(1,[.sl 4 [],.sl 5 [],.sl 6 [],.sl 7 []])],ro:=[(0,(.sl .int),true),(1,.mon,true),(2,.entry,true),(3,.entry,true),(4,(.sl .int),true),(5,.mon,true),(6,.entry,true),(7,.entry,true)] })]
theorem zLO (a0:Host)(a1:Int)(hc:zm4 a0 a1=true):∃N,zzD N a0 a1=some [aH (zhM a0 a1),aB (zgA a0 a1)]:=by
 have hs:=zC.1 hc;refine zbT fun N hNN=>?_;unfold zzD zhM zgA cleaned zb2 oN nB
 conv=>zeta
 refine must (zbp hs) (must rfl ?_);rw[show zjI a0=zbJ a0 from rfl]
 cases hp:zbJ a0
 .rfl
 refine zc6 rfl (must rfl ?_);rw[show zdQ a1 (ln a0.Mons)=hasB a1 (ln a0.Mons) from rfl]
 cases hp:hasB a1 (ln a0.Mons)
 .rfl
 refine zc6 rfl ?_;refine (zov 8 (fun i (t:lM×lN×lE×lE)=>(a1,(i:Int),[],[],[],[],t.1,t.2.1,t.2.2.1,t.2.2.2,())) _ (fun i (t:List (List Int)×List Mon×List Entry×List Entry) κ=>bif pc (zbA ⟨t.1,t.2.1,t.2.2.1,t.2.2.2⟩) then κ ((zdo ⟨t.1,t.2.1,t.2.2.1,t.2.2.2⟩ a1 (i:Int)).Memory,(zdo ⟨t.1,t.2.1,t.2.2.1,t.2.2.2⟩ a1 (i:Int)).Mons,(zdo ⟨t.1,t.2.1,t.2.2.1,t.2.2.2⟩ a1 (i:Int)).Buffer,(zdo ⟨t.1,t.2.1,t.2.2.1,t.2.2.2⟩ a1 (i:Int)).IoBuffer) else none) (fun (t:lM×lN×lE×lE)=>(some [(.agg (zbf (⟨t.1,t.2.1,t.2.2.1,t.2.2.2⟩:Host))),(.one (.b true))])) (fun i hi t rec=>?_) (fun t rec=>?_) _ ((zf0 a0).Memory,(zf0 a0).Mons,(zf0 a0).Buffer,(zf0 a0).IoBuffer) (hNN (by decide))).trans ?_
 .simp only [show ilt (i:Int) 8=true from qK (by omega),zU hi (show 8<=big by decide),cT]
 .simp only [show ilt (((8:Nat)):Int) 8=false from qJ (by omega),cF]
 refine (zN3 a1 _ 8 0 a0 ((zM a0).1 hs)).trans ?_;generalize zfd a1 8 0 a0=x;rfl
theorem zsj:vF 22 zoI:=kF2 zNS zu zl zdC zMT zLO
def zYM:zO:=[(22,zoI)]++zYL
theorem zjz:zF zYM:=zh zsj zNS
def zxJ (o i t:Int):Int:=bif zgp i t then 1 else (cond (zgp o t) 2 0)
@[simp] abbrev zpG (o i t:Int):Bool:=true
@[simp] abbrev zmD (o i t:Int):Int:=zxJ o i t
def zyX:Run:=rF3 dI dI dI fun b c d=>(zpG b c d,[aI (zmD b c d)])
def zD5 (N:Nat)(a0 a1 a2:Int):OA:=
 (oN (zhy a1 a2) (cond (zha a1 a2) (some [(aI 1)]) (oN (zhy a0 a2) (cond (zha a0 a2) (some [(aI 2)]) (some [(aI 0)])))))
theorem zPs (a0 a1 a2:Int)(hc:zpG a0 a1 a2=true):∃N,zD5 N a0 a1 a2=some [aI (zmD a0 a1 a2)]:=by
 refine ⟨0,?_⟩;unfold zD5 oN;refine must rfl (br (fun _=>?_) (fun _=>must rfl (br (fun _=>?_) (fun _=>?_))))
 all_goals first|rfl|(simp only [*,zmD,zxJ,cT,cF]<;>rfl)|simp_all[Ty.cells,zmD,zxJ]
theorem zIN:vF 304 zyX:=kF3 zjz zu zl zdC (zo []) zPs
def zel (m g:Int):Int:=bif win m 0 2 then (cond (win g 0 1) (zG .i64 (zG .i64 1 g) (zn4 .i64 m 2)) 0) else 0
@[simp] abbrev zj1 (m g:Int):Bool:=true
@[simp] abbrev zr3 (m g:Int):Int:=zel m g
def zEY:Run:=rF2 dI dI fun b c=>(zj1 b c,[aI (zr3 b c)])
def zNv (N:Nat)(a0 a1:Int):OA:=
 (oN (zI a0 0 2) (cond (nB (zK a0 0 2)) (some [(aI 0)]) (oN (zI a1 0 1) (cond (nB (zK a1 0 1)) (some [(aI 0)]) (some [(aI (zG .i64 (zG .i64 1 a1) (zn4 .i64 a0 2)))])))))
theorem zUw (a0 a1:Int)(hc:zj1 a0 a1=true):∃N,zNv N a0 a1=some [aI (zr3 a0 a1)]:=by
 refine ⟨0,?_⟩;unfold zNv oN nB;refine must rfl (brN (fun _=>?_) (fun _=>must rfl (brN (fun _=>?_) (fun _=>?_))))
 all_goals first|rfl|(simp only [*,zr3,zel,cT,cF]<;>rfl)|simp_all[Ty.cells,zr3,zel]
theorem zOX:vF 99 zEY:=kF2 zjz zu zl zdC (zo []) zUw
def zjN (k:Kept)(p:Int):Bool:=bif zdb k p then ix k.Known p false else false
def zeH (k:Kept)(p:Int):Slot:=bif zjN k p then ix k.Slots p zJ else noSlot
@[simp] abbrev zCK (k:Kept)(p:Int):Bool:=pc (SmK k)
@[simp] abbrev zr1 (k:Kept)(p:Int):Slot:=zeH k p
@[simp] abbrev zCJ (k:Kept)(p:Int):Bool:=zjN k p
def zOs:Run:=rF2 (dT .kept) dI fun b c=>(zCK b c,[aT .slot (zr1 b c),aB (zCJ b c)])
def zVm (N:Nat)(a0:Kept)(a1:Int):OA:=
 let y0:=(ix a0.Slots a1 zJ); (oN (znX a0 a1) (cond (nB (zhA a0 a1)) (oN zci (some [(.agg [(.i .i64 zbq.Page),(.i .i64 zbq.Rights)]),(aB false)])) (oN (inb a1 (ln a0.Known)) (cond (nB (ix a0.Known a1 false)) (oN zci (some [(.agg [(.i .i64 zbq.Page),(.i .i64 zbq.Rights)]),(aB false)])) (oN (inb a1 (ln a0.Slots)) (some [(.agg [(.i .i64 y0.Page),(.i .i64 y0.Rights)]),(aB true)]))))))
theorem zZq (a0:Kept)(a1:Int)(hc:zCK a0 a1=true):∃N,zVm N a0 a1=some [aT .slot (zr1 a0 a1),aB (zCJ a0 a1)]:=by
 have hs:=zC.1 hc;refine ⟨0,?_⟩;unfold zVm zr1 zCJ zeH zjN oN nB
 conv=>zeta
 refine must (zbp hs) ?_;rw[show zhA a0 a1=zdb a0 a1 from rfl]
 cases hh:zdb a0 a1
 .rfl
 .unfold zdb at hh;obtain ⟨h1,h2⟩:=zcM.1 hh;simp only[zB h1,zB h2,cT];cases ix a0.Known a1 false<;>rfl
theorem zUc:vF 101 zOs:=kF2 zjz zu zl zdC (zo []) zZq
def filled (k:Kept)(inner outer:List Slot)(p:Int):Kept:=bif zdb k p then (cond (hasB p (ln inner)) ⟨up k.Known p true,up k.Slots p (zbn (ix inner p zJ) outer)⟩ k) else k
@[simp] theorem zX0 {k:Kept}{inner outer:List Slot}{p:Int}(h:SmK k):SmK (filled k inner outer p):=by
 unfold filled;cases zdb k p
 .exact h
 .cases hasB p (ln inner)
  .exact h
  .exact ⟨by simpa using h.1,by simpa using h.2⟩
@[simp] abbrev zGS (k:Kept)(i o:List Slot)(p:Int):Bool:=pc (SmK k)
@[simp] abbrev zJ4 (k:Kept)(i o:List Slot)(p:Int):Kept:=filled k i o p
def zJ2:Run:=rF4 (dT .kept) (dS .slot) (dS .slot) dI fun b c d e=>(zGS b c d e,[aT .kept (zJ4 b c d e)])
def zQu (N:Nat)(a0:Kept)(a1 a2:lS)(a3:Int):OA:=
 let y0:=(zc4 a0); (oN (zfr a0) (oN (znX y0 a3) (cond (zhA y0 a3) (cond (ilt a3 (ln a1)) (oN (inb a3 (ln y0.Known)) (share (up y0.Known a3 true) (fun x5=>(oN (inb a3 (ln a1)) (oN (zjn (ix a1 a3 zJ) a2) (oN (inb a3 (ln y0.Slots)) (share (up y0.Slots a3 (zlO (ix a1 a3 zJ) a2)) (fun x6=>(some [(aT .kept (⟨x5,x6⟩:Kept))]))))))))) (some [(aT .kept y0)])) (some [(aT .kept y0)]))))
theorem zXh (a0:Kept)(a1 a2:List Slot)(a3:Int)(hc:zGS a0 a1 a2 a3=true):∃N,zQu N a0 a1 a2 a3=some [aT .kept (zJ4 a0 a1 a2 a3)]:=by
 have hs:=zC.1 hc;refine ⟨0,?_⟩;unfold zQu zJ4 filled oN
 conv=>zeta
 refine must (zbp ((zvI _).2 hs)) (must (zbp hs) ?_);rw[show zhA (zc4 a0) a3=zdb a0 a3 from rfl]
 cases hh:zdb a0 a3
 .rfl
 .unfold zdb at hh;obtain ⟨h1,h2⟩:=zcM.1 hh;rw[has_lt h1 (m:=ln a1)];cases h3:hasB a3 (ln a1)
  .rfl
  .simp only [cT,zc4,zB h1,zB h2,zB h3,share,zjn];rfl
theorem zRq:vF 103 zJ2:=kF4 zjz zu zl zdC (zo []) zXh
theorem zRg {α ρ:Type}(p:α->Bool)(r:α->Option ρ)(K:Unit->Option ρ):∀(l:List α) (i:Nat),goL (fun _ x (_:Unit) k=>bif p x then r x else k ()) K l i ()=match l.find? p with|some x=>r x|none=>K ()
 | [],_=>rfl
 | x :: l,i=>by
  simp only[goL];cases h:p x
  .rw [List.find?_cons_of_neg (by simp[h])]
   exact zRg p r K l (i+1)
  .rw [List.find?_cons_of_pos h];rfl
def zCw (b:List Entry)(t p:Int):Option Entry:=b.find? fun e=>bif ieq e.Tag t then ieq e.Page p else false
@[simp] abbrev zlR (b:List Entry)(t p:Int):Bool:=true
@[simp] abbrev zlQ (b:List Entry)(t p:Int):Entry:=(zCw b t p).getD ⟨0,0,0,0⟩
@[simp] abbrev ziN (b:List Entry)(t p:Int):Bool:=(zCw b t p).isSome
def zt6:Run:=rF3 (dS .entry) dI dI fun b c d=>(zlR b c d,[aT .entry (zlQ b c d),aB (ziN b c d)])
def zys (N:Nat)(a0:lE)(a1 a2:Int):OA:=
 (iter (σ:=(Int×(Int×(Int×(Int×(Int×(Int×(Int×(lE×Unit))))))))) N (fun r4 s5=>let y2:=s5.2.2.2.2.2.2.2.1;let y3:=(inb s5.2.2.1 (ln y2));let y1:=(r4 (s5.1,(s5.2.1,((zG .i64 s5.2.2.1 1),(s5.2.2.2.1,(s5.2.2.2.2.1,(s5.2.2.2.2.2.1,(s5.2.2.2.2.2.2.1,(y2,())))))))));let y0:=(ix y2 s5.2.2.1 zew); (cond (ilt s5.2.2.1 (ln y2)) (oN y3 (cond (ieq y0.Tag s5.1) (oN y3 (cond (ieq y0.Page s5.2.1) (oN y3 (some [(.agg [(.i .i64 y0.Tag),(.i .i64 y0.Page),(.i .i64 y0.Host),(.i .i64 y0.Rights)]),(aB true)])) y1)) y1)) (some [(.agg [(.i .i64 0),(.i .i64 0),(.i .i64 0),(.i .i64 0)]),(aB false)]))) (a1,(a2,(0,(0,(0,(0,(0,(a0,())))))))))
def zKx:FuncId->Nat->Option Tmpl:=zo [(100,0,{ n:=36,tm:=[(0,.sl 0 []),(1,ti),(2,ti),(6,.lp 0 0),(8,ti)],lo:=[(0,[ti,ti,ti,ti])],ro:=[(0,.entry,false)] })]
theorem zJv (a0:List Entry)(a1 a2:Int)(hb:zbB big [aS .entry a0,aI a1,aI a2])(hc:zlR a0 a1 a2=true):∃N,zys N a0 a1 a2=some [aT .entry (zlQ a0 a1 a2),aB (ziN a0 a1 a2)]:=by
 have hl:=(len0 hb);refine zbT fun N hNN=>?_;unfold zys oN
 conv=>zeta
 refine (zba a0 (fun i (t:Unit)=>(a1,a2,(i:Int),0,0,0,0,a0,())) _ (fun _ (x:Entry) (_:Unit) κ=>bif (cond (ieq x.Tag a1) (ieq x.Page a2) false) then (some [AV.agg (Ty.cells .entry x),AV.one (.b true)]) else κ ()) (fun (t:Unit)=>(some [(.agg [(.i .i64 0),(.i .i64 0),(.i .i64 0),(.i .i64 0)]),(.one (.b false))])) (fun i hi t rec=>?_) (fun t rec=>?_) _ () (hNN hl)).trans ?_
 .simp only [zbh hi,zN hi,zZ hi,zU hi hl,cT];cases ieq a0[i].Tag a1<;>cases ieq a0[i].Page a2<;>rfl
 .simp only [zbb,cF]
 rw[zRg (fun e:Entry=>bif ieq e.Tag a1 then ieq e.Page a2 else false)]
 unfold zlQ ziN zCw;cases a0.find? (fun e:Entry=>bif ieq e.Tag a1 then ieq e.Page a2 else false)<;>rfl
theorem zC5:vF 100 zt6:=hF3 zjz zu zl zdC zKx zJv
def zA7 (t p:Int)(e:Entry):Bool:=bif ine e.Tag t then true else ine e.Page p
def zco (b:List Entry)(t p:Int):List Entry:=b.filter (zA7 t p)
theorem zxh (b:List Entry)(t p:Int):(zco b t p).length<=b.length:=k8 _ _
@[simp] abbrev zfR (b:List Entry)(t p:Int):Bool:=pc (b.length<=1048576)
@[simp] abbrev zlt (b:List Entry)(t p:Int):List Entry:=zco b t p
def zt8:Run:=rF3 (dS .entry) dI dI fun b c d=>(zfR b c d,[aS .entry (zlt b c d)])
def zyu (N:Nat)(a0:lE)(a1 a2:Int):OA:=
 (iter (σ:=(Int×(Int×(Int×(lE×(lE×Unit)))))) N (fun r4 s5=>let y4:=s5.2.2.2.1;let y2:=(inb s5.2.2.1 (ln y4));let y0:=(ix y4 s5.2.2.1 zew);let y3:=(ap s5.2.2.2.2.1 [y0]);let y1:=(r4 (s5.1,(s5.2.1,((zG .i64 s5.2.2.1 1),(y4,(y3,())))))); (cond (ilt s5.2.2.1 (ln y4)) (oN y2 (cond (ine y0.Tag s5.1) (oN y2 (oN (few (ln y3)) y1)) (oN y2 (cond (ine y0.Page s5.2.1) (oN y2 (oN (few (ln y3)) y1)) (r4 (s5.1,(s5.2.1,((zG .i64 s5.2.2.1 1),(y4,(s5.2.2.2.2.1,())))))))))) (some [(aS .entry s5.2.2.2.2.1)]))) (a1,(a2,(0,(a0,([],()))))))
def zKA:FuncId->Nat->Option Tmpl:=zo [(161,0,{ n:=40,tm:=[(0,.sl 0 []),(1,ti),(2,ti),(7,.sl 1 []),(8,ti)],lo:=[],ro:=[(0,.entry,false),(1,.entry,true)] })]
theorem zJx (a0:List Entry)(a1 a2:Int)(hc:zfR a0 a1 a2=true):∃N,zyu N a0 a1 a2=some [aS .entry (zlt a0 a1 a2)]:=by
 have hs:=zC.1 hc;have hl:=zcd hs;refine zbT fun N hNN=>?_;unfold zyu oN
 conv=>zeta
 refine (zba a0 (fun i (t:lE)=>(a1,a2,(i:Int),a0,t,())) _ (fun _ (x:Entry) (t:List Entry) κ=>bif zA7 a1 a2 x then (cond (few (ln (ap t [x]))) (κ (ap t [x])) none) else κ t) (fun (t:lE)=>(some [(.one (.s .entry t))])) (fun i hi t rec=>?_) (fun t rec=>?_) _ ([]) (hNN hl.1)).trans ?_
 .simp only [zbh hi,zN hi,zZ hi,zU hi hl.1,cT];unfold zA7;cases ine a0[i].Tag a1<;>cases ine a0[i].Page a2<;>rfl
 .simp only [zbb,cF]
 exact zm0 (zA7 a1 a2) _ a0 0 [] (by simpa using hl.2)
theorem zC7:vF 161 zt8:=kF3 zjz zu zl zdC zKA zJx
def z3j:zO:=[(304,zyX),(99,zEY),(101,zOs),(103,zJ2),(100,zt6),(161,zt8)]++zYM
theorem zxb:zF z3j:=zh zIN (zh zOX (zh zUc (zh zRq (zh zC5 (zh zC7 zjz)))))
def zsA (b:List Entry)(e:Entry):List Entry:=bif igt (ln (ap (zco b e.Tag e.Page) [e])) 6 then dp (ap (zco b e.Tag e.Page) [e]) (wsub .i64 (ln (ap (zco b e.Tag e.Page) [e])) 6) else ap (zco b e.Tag e.Page) [e]
theorem zGP {b:List Entry}(e:Entry)(h:b.length<=1048576):(zsA b e).length<=1048576/\(ap (zco b e.Tag e.Page) [e]).length<=1048577:=by
 have h1:=zxh b e.Tag e.Page;have h2:(ap (zco b e.Tag e.Page) [e]).length<=1048577:=by simp[ap];omega
 refine ⟨?_,h2⟩;unfold zsA;cases h3:igt (ln (ap (zco b e.Tag e.Page) [e])) 6
 .have h3:=j3 h3;simp only[ln]at h3;simp only[cF];omega
 .simp only [cT,dp,List.length_drop];have h3:=qE h3;have:wsub .i64 (ln (ap (zco b e.Tag e.Page) [e])) 6=ln (ap (zco b e.Tag e.Page) [e])-6:=zCR (by simp only[ln] at *;omega) (by simp only[ln] at *;omega)
  rw[this];simp only[ln] at *;omega
@[simp] abbrev znO (b:List Entry)(e:Entry):Bool:=pc (b.length<=1048576)
@[simp] abbrev znN (b:List Entry)(e:Entry):List Entry:=zsA b e
def zwz:Run:=rF2 (dS .entry) (dT .entry) fun b c=>(znO b c,[aS .entry (znN b c)])
def zz1 (N:Nat)(a0:lE)(a1:Entry):OA:=
 let y0:=(ap (zlt a0 a1.Tag a1.Page) [a1]);let y1:=(wsub .i64 (ln y0) 6); (oN (zfR a0 a1.Tag a1.Page) (oN (few (ln y0)) (cond (igt (ln y0) 6) (oN (inr y1 (ln y0) (ln y0)) (oN (few (ln (ap [] (dp y0 y1)))) (some [(aS .entry (ap [] (dp y0 y1)))]))) (some [(aS .entry y0)]))))
theorem zMd (a0:List Entry)(a1:Entry)(hc:znO a0 a1=true):∃N,zz1 N a0 a1=some [aS .entry (znN a0 a1)]:=by
 have hs:=zC.1 hc;obtain ⟨h1,h2⟩:=zGP a1 hs;refine ⟨0,?_⟩;unfold zz1 oN
 conv=>zeta
 refine must (zbp hs) (must (zfU (jC h2 (by decide:1048577<=2147483648))) ?_)
 unfold znN zsA at *
 show _=some [AV.one (.s .entry (cond (igt (ln (ap (zco a0 a1.Tag a1.Page) [a1])) 6) (dp (ap (zco a0 a1.Tag a1.Page) [a1]) (wsub .i64 (ln (ap (zco a0 a1.Tag a1.Page) [a1])) 6)) (ap (zco a0 a1.Tag a1.Page) [a1])))]
 cases h3:igt (ln (ap (zco a0 a1.Tag a1.Page) [a1])) 6
 .rfl
 .rw [h3]at h1;simp only[cT]at h1;have h3:=qE h3;have e:wsub .i64 (ln (ap (zco a0 a1.Tag a1.Page) [a1])) 6=ln (ap (zco a0 a1.Tag a1.Page) [a1])-6:=zCR (by simp only[ln] at *;omega) (by simp only[ln] at *;omega)
  refine must rfl (must (qK ?_) (must ?_ ?_))
  .show 0<=wsub .i64 (ln (ap (zco a0 a1.Tag a1.Page) [a1])) 6/\wsub .i64 (ln (ap (zco a0 a1.Tag a1.Page) [a1])) 6<=ln (ap (zco a0 a1.Tag a1.Page) [a1])/\ln (ap (zco a0 a1.Tag a1.Page) [a1])<=ln (ap (zco a0 a1.Tag a1.Page) [a1])
   rw[e];simp only[ln] at *;omega
  .exact zmt h1
  .rw [zjv];rfl
theorem zF7:vF 104 zwz:=kF2 zxb zu zl zdC (zo []) zMd
def zmZ (l:List Slot)(p:Int):Option Nat:=l.findIdx? fun s=>ieq s.Page p
def zg9 (p:Int):List Mon->Nat->Int×Int
 | [],_=>(-1,-1)
 | m :: l,i=>match zmZ m.Outer p with|some k=>((i:Int),(k:Int))|none=>zg9 p l (i+1)
def zbt (h:Host)(p:Int):Int×Int:=bif ilt p 0 then (-1,-1) else zg9 p h.Mons 0
theorem zN2 {ρ:Type}(p:Slot->Bool)(r:Nat->Option ρ)(K:Unit->Option ρ):∀(l:List Slot) (i:Nat),goL (fun j x (_:Unit) k=>bif p x then r j else k ()) K l i ()=match l.findIdx? p with|some k=>r (i+k)|none=>K ()
 | [],_=>rfl
 | x :: l,i=>by
  simp only[goL];rw[List.findIdx?_cons];cases h:p x
  .simp only [cF,kC,if_false];rw[zN2 p r K l (i+1)];cases l.findIdx? p with
   | none=>rfl
   | some k=>simp only[Option.map_some];congr 1;omega
  .rfl
theorem zKS {ρ:Type}(p:Int)(r:Int->Int->Option ρ):∀(l:List Mon) (i:Nat),goL (fun i (x:Mon) (_:Unit) κ=>goL (fun j (y:Slot) (_:Unit) κ₁=>bif ieq y.Page p then r (i:Int) (j:Int) else κ₁ ()) (fun _=>κ ()) x.Outer 0 ()) (fun _=>r (-1) (-1)) l i ()=r (zg9 p l i).1 (zg9 p l i).2
 | [],_=>rfl
 | m :: l,i=>by
  simp only[goL,zg9];rw[zN2 (fun s=>ieq s.Page p) (fun j=>r (i:Int) (j:Int))];unfold zmZ;cases m.Outer.findIdx? (fun s=>ieq s.Page p) with
  | none=>exact zKS p r l (i+1)
  | some k=>simp only[jZ]
@[simp] abbrev zjk (h:Host)(p:Int):Bool:=true
@[simp] abbrev zfI (h:Host)(p:Int):Int:=(zbt h p).1
@[simp] abbrev zg2 (h:Host)(p:Int):Int:=(zbt h p).2
def zrd:Run:=rF2 dH dI fun b c=>(zjk b c,[aI (zfI b c),aI (zg2 b c)])
def zth (N:Nat)(a0:Host)(a1:Int):OA:=
 (cond (ilt a1 0) (some [(aI (-1)),(aI (-1))]) (iter (σ:=(Int×(Int×(Int×(lN×Unit))))) N (fun r3 s4=>let y3:=s4.2.2.1; (cond (ilt y3 s4.2.1) (oN (inb y3 (ln s4.2.2.2.1)) (iter (σ:=(Int×(Int×(Int×(Int×(Int×(Int×(Int×(lN×Unit))))))))) N (fun r5 s6=>let y2:=s6.2.2.2.2.2.2.2.1;let y1:=(ix y2 s6.2.2.2.2.1 zf).Outer;let y0:=s6.2.2.2.2.2.2.1; (cond (ilt y0 s6.2.2.2.2.2.1) (oN (inb y0 (ln y1)) (cond (ieq (ix y1 y0 zJ).Page s6.1) (some [(aI s6.2.1),(aI y0)]) (r5 (s6.1,(s6.2.1,(s6.2.2.1,(s6.2.2.2.1,(s6.2.2.2.2.1,(s6.2.2.2.2.2.1,((zG .i64 y0 1),(y2,()))))))))))) (r3 (s6.1,(s6.2.2.1,((zG .i64 s6.2.2.2.1 1),(y2,()))))))) (s4.1,(y3,(s4.2.1,(y3,(y3,((ln (ix s4.2.2.2.1 y3 zf).Outer),(0,(s4.2.2.2.1,())))))))))) (some [(aI (-1)),(aI (-1))]))) (a1,((ln a0.Mons),(0,(a0.Mons,()))))))
def zDH:FuncId->Nat->Option Tmpl:=zo [(275,0,{ n:=36,tm:=[(1,ti),(13,.sl 0 []),(14,ti),(15,ti)],lo:=[],ro:=[(0,.mon,false)] }),(275,2,{ n:=36,tm:=[(1,ti),(6,ti),(13,.sl 0 []),(14,ti),(15,ti),(21,.sl 0 [0]),(22,ti),(23,ti)],lo:=[],ro:=[(0,.mon,false)] })]
theorem zDm (a0:Host)(a1:Int)(hb:zbB big [aH a0,aI a1])(hc:zjk a0 a1=true):∃N,zth N a0 a1=some [aI (zfI a0 a1),aI (zg2 a0 a1)]:=by
 have hm:CVB big (.s .mon a0.Mons):=(zcU hb).1 _ (by simp[AV.cvs,zbf])
 have hl:=hm.len;refine zbT fun N hNN=>?_;unfold zth zfI zg2 zbt oN
 conv=>zeta
 cases h0:ilt a1 0
 .simp only [cF];refine (zba a0.Mons (fun i (t:Unit)=>(a1,(ln a0.Mons),(i:Int),a0.Mons,())) _ (fun i (x:Mon) (_:Unit) κ=>goL (fun j (y:Slot) (_:Unit) κ₁=>bif ieq y.Page a1 then some [AV.one (.i .i64 (i:Int)),AV.one (.i .i64 (j:Int))] else κ₁ ()) (fun _=>κ ()) x.Outer 0 ()) (fun (t:Unit)=>(some [(.one (.i .i64 (-1))),(.one (.i .i64 (-1)))])) (fun i hi t rec=>?_) (fun t rec=>?_) _ () (hNN hl)).trans ?_
  .simp only [zbh hi,zN hi,zZ hi,zU hi hl,cT];have ho:a0.Mons[i].Outer.length<=big:=(hm.inv.2 _ (jG hi) (.s .slot _) (by simp[Ty.cells])).len
   refine (zba a0.Mons[i].Outer (fun j (u:Unit)=>(a1,(i:Int),(ln a0.Mons),(i:Int),(i:Int),(ln a0.Mons[i].Outer),(j:Int),a0.Mons,())) _ (fun j (y:Slot) (_:Unit) κ₁=>bif ieq y.Page a1 then some [AV.one (.i .i64 (i:Int)),AV.one (.i .i64 (j:Int))] else κ₁ ()) (fun (u:Unit)=>(rec (a1,((ln a0.Mons),((((i+1:Nat)):Int),(a0.Mons,())))))) (fun j hj u rec1=>?_) (fun u rec1=>?_) _ () (hNN ho)).trans ?_
   .simp only [zbh hj,zN hj,zZ hj,zU hj ho,cT,zN hi,zZ hi,zU hi hl]
   .simp only [zbb,cF,zN hi,zZ hi,zU hi hl]
   rfl
  .simp only [zbb,cF]
  exact zKS a1 (fun i j=>some [AV.one (.i .i64 i),AV.one (.i .i64 j)]) a0.Mons 0
 .rfl
theorem zzo:vF 275 zrd:=hF2 zxb zu zl zdC zDH zDm
theorem zY9 {α τ ρ:Type}(r:Option ρ):∀(l:List α) (i:Nat) (t:τ),goL (fun _ _ _ _=>r) (fun _=>r) l i t=r
 | [],_,_=>rfl
 | _ :: _,_,_=>rfl
@[simp] abbrev zjo (h:Host)(p:Int):Bool:=true
@[simp] abbrev zfK (h:Host)(p:Int):Int:=(zbt h p).1
@[simp] abbrev zhb (h:Host)(p:Int):Int:=(zbt h p).2
def zrg:Run:=rF2 dH dI fun b c=>(zjo b c,[aI (zfK b c),aI (zhb b c)])
def zts (N:Nat)(a0:Host)(a1:Int):OA:=
 (iter (σ:=(Int×(Int×(lM×(lN×(lE×(lE×Unit))))))) N (fun r3 s4=>(cond (ilt s4.2.1 (ln s4.2.2.2.1)) (cond (ige s4.1 0) (iter (σ:=(Int×(Int×(Int×(lM×(lN×(lE×(lE×Unit)))))))) N (fun r5 s6=>let y1:=s6.2.2.2.2.1;let y0:=(ix y1 s6.2.1 zf).Outer; (oN (inb s6.2.1 (ln y1)) (cond (ilt s6.2.2.1 (ln y0)) (oN (inb s6.2.1 (ln y1)) (oN (inb s6.2.2.1 (ln y0)) (cond (ieq (ix y0 s6.2.2.1 zJ).Page s6.1) (some [(aI s6.2.1),(aI s6.2.2.1)]) (r5 (s6.1,(s6.2.1,((zG .i64 s6.2.2.1 1),(s6.2.2.2.1,(y1,(s6.2.2.2.2.2.1,(s6.2.2.2.2.2.2.1,()))))))))))) (r3 (s6.1,((zG .i64 s6.2.1 1),(s6.2.2.2.1,(y1,(s6.2.2.2.2.2.1,(s6.2.2.2.2.2.2.1,())))))))))) (s4.1,(s4.2.1,(0,(s4.2.2.1,(s4.2.2.2.1,(s4.2.2.2.2.1,(s4.2.2.2.2.2.1,())))))))) (some [(aI (-1)),(aI (-1))])) (some [(aI (-1)),(aI (-1))]))) (a1,(0,(a0.Memory,(a0.Mons,(a0.Buffer,(a0.IoBuffer,())))))))
def zDI:FuncId->Nat->Option Tmpl:=zo [(217,0,{ n:=44,tm:=[(1,ti),(2,.lp 0 0),(6,ti)],lo:=[(0,[.sl 0 [],.sl 1 [],.sl 2 [],.sl 3 []])],ro:=[(0,(.sl .int),false),(1,.mon,false),(2,.entry,false),(3,.entry,false)] }),(217,2,{ n:=44,tm:=[(1,ti),(2,.lp 0 0),(6,ti),(7,ti)],lo:=[(0,[.sl 0 [],.sl 1 [],.sl 2 [],.sl 3 []])],ro:=[(0,(.sl .int),false),(1,.mon,false),(2,.entry,false),(3,.entry,false)] })]
theorem zDx (a0:Host)(a1:Int)(hb:zbB big [aH a0,aI a1])(hc:zjo a0 a1=true):∃N,zts N a0 a1=some [aI (zfK a0 a1),aI (zhb a0 a1)]:=by
 have hm:CVB big (.s .mon a0.Mons):=(zcU hb).1 _ (by simp[AV.cvs,zbf])
 have hl:=hm.len;refine zbT fun N hNN=>?_;unfold zts zfK zhb zbt oN
 conv=>zeta
 refine (zba a0.Mons (fun i (t:Unit)=>(a1,(i:Int),a0.Memory,a0.Mons,a0.Buffer,a0.IoBuffer,())) _ (fun i (x:Mon) (_:Unit) κ=>bif ige a1 0 then goL (fun j (y:Slot) (_:Unit) κ₁=>bif ieq y.Page a1 then some [AV.one (.i .i64 (i:Int)),AV.one (.i .i64 (j:Int))] else κ₁ ()) (fun _=>κ ()) x.Outer 0 () else some [AV.one (.i .i64 (-1)),AV.one (.i .i64 (-1))]) (fun (t:Unit)=>(some [(.one (.i .i64 (-1))),(.one (.i .i64 (-1)))])) (fun i hi t rec=>?_) (fun t rec=>?_) _ () (hNN hl)).trans ?_
 .simp only [zbh hi,zN hi,zZ hi,zU hi hl,cT];cases h0:ige a1 0
  .rfl
  have ho:a0.Mons[i].Outer.length<=big:=(hm.inv.2 _ (jG hi) (.s .slot _) (by simp[Ty.cells])).len
  simp only[cT];refine (zba a0.Mons[i].Outer (fun j (_:Unit)=>(a1,((i:Int),((j:Int),(a0.Memory,(a0.Mons,(a0.Buffer,(a0.IoBuffer,())))))))) _ (fun j (y:Slot) (_:Unit) κ₁=>bif ieq y.Page a1 then some [AV.one (.i .i64 (i:Int)),AV.one (.i .i64 (j:Int))] else κ₁ ()) (fun _=>rec (a1,(((i+1:Nat):Int),(a0.Memory,(a0.Mons,(a0.Buffer,(a0.IoBuffer,()))))))) (fun j hj u rec1=>?_) (fun u rec1=>?_) _ () (hNN ho)).trans ?_
  .simp only [zbh hj,zN hj,zZ hj,zU hj ho,cT,zN hi,zZ hi]
  .simp only [zbb,cF,cT,zN hi,zZ hi,zU hi hl]
  rfl
 .simp only [zbb,cF]
 cases h0:ige a1 0
 .have h1:ilt a1 0=true:=by
   have:=j3 h0;exact qK (by omega)
  rw[h1];exact zY9 _ _ _ _
 .have h1:ilt a1 0=false:=by
   have:=qE h0;exact qJ (by omega)
  rw[h1];exact zKS a1 (fun i j=>some [AV.one (.i .i64 i),AV.one (.i .i64 j)]) a0.Mons 0
theorem zzy:vF 217 zrg:=hF2 zxb zu zl zdC zDI zDx
def z3k:zO:=[(104,zwz),(217,zrg),(275,zrd)]++z3j
theorem zsb:zF z3k:=zh zF7 (zh zzy (zh zzo zxb))
def zb1 (h:Host):List Int:=zot (fun i=>ilt (zbt h (i:Int)).1 0) h.Memory.length 0
@[simp] abbrev zkK (h:Host):Bool:=pc (h.Memory.length<=1048576)
@[simp] abbrev zeO (h:Host):List Int:=zb1 h
def zBA:Run:=rF1 dH fun b=>(zkK b,[aS .int (zeO b)])
def zHu (N:Nat)(a0:Host):OA:=
 (iter (σ:=(Int×((List Int)×(lM×(lN×(lE×(lE×Unit))))))) N (fun r2 s3=>let y0:=(⟨s3.2.2.1,s3.2.2.2.1,s3.2.2.2.2.1,s3.2.2.2.2.2.1⟩:Host); (cond (ilt s3.1 (ln s3.2.2.1)) (oN (zjo y0 s3.1) (cond (ilt (zfK y0 s3.1) 0) (oN (few (ln (ap s3.2.1 [s3.1]))) (r2 ((zG .i64 s3.1 1),((ap s3.2.1 [s3.1]),(s3.2.2.1,(s3.2.2.2.1,(s3.2.2.2.2.1,(s3.2.2.2.2.2.1,())))))))) (r2 ((zG .i64 s3.1 1),(s3.2.1,(s3.2.2.1,(s3.2.2.2.1,(s3.2.2.2.2.1,(s3.2.2.2.2.2.1,()))))))))) (some [(aS .int s3.2.1)]))) (0,([],(a0.Memory,(a0.Mons,(a0.Buffer,(a0.IoBuffer,())))))))
def zTx:FuncId->Nat->Option Tmpl:=zo [(216,0,{ n:=28,tm:=[(1,.lp 0 0),(3,.sl 0 []),(4,ti)],lo:=[(0,[.sl 1 [],.sl 2 [],.sl 3 [],.sl 4 []])],ro:=[(0,.int,true),(1,(.sl .int),false),(2,.mon,false),(3,.entry,false),(4,.entry,false)] })]
theorem zRW (a0:Host)(hc:zkK a0=true):∃N,zHu N a0=some [aS .int (zeO a0)]:=by
 have hs:=zC.1 hc;have hl:=zcd hs;refine zbT fun N hNN=>?_;unfold zHu oN
 conv=>zeta
 refine (zba a0.Memory (fun i (t:(List Int))=>((i:Int),t,a0.Memory,a0.Mons,a0.Buffer,a0.IoBuffer,())) _ (fun i (_:List Int) (t:List Int) κ=>bif ilt (zbt a0 (i:Int)).1 0 then (cond (few (ln (ap t [(i:Int)]))) (κ (ap t [(i:Int)])) none) else κ t) (fun (t:(List Int))=>(some [(.one (.s .int t))])) (fun i hi t rec=>?_) (fun t rec=>?_) _ ([]) (hNN hl.1)).trans ?_
 .simp only [zbh hi,zN hi,zZ hi,zU hi hl.1,cT]
 .simp only [zbb,cF]
 rw[zvP (fun i (t:List Int) κ=>bif ilt (zbt a0 (i:Int)).1 0 then (cond (few (ln (ap t [(i:Int)]))) (κ (ap t [(i:Int)])) none) else κ t)]
 exact zsh (fun i=>ilt (zbt a0 (i:Int)).1 0) _ _ 0 [] (by simpa using hl.2)
theorem zLi:vF 216 zBA:=kF1 zsb zu zl zdC zTx zRW
@[simp] abbrev zkp (h:Host):Bool:=pc (h.Memory.length<=1048576)
@[simp] abbrev zfg (h:Host):List Int:=zb1 h
def zBi:Run:=rF1 dH fun b=>(zkp b,[aS .int (zfg b)])
def zHd (N:Nat)(a0:Host):OA:=
 (iter (σ:=(Int×(Int×((List Int)×(lM×(lN×(lE×(lE×Unit)))))))) N (fun r2 s3=>let y1:=s3.2.2.2.2.2.2.1;let y0:=(⟨s3.2.2.2.1,s3.2.2.2.2.1,s3.2.2.2.2.2.1,y1⟩:Host); (cond (ilt s3.2.1 s3.1) (oN (zjk y0 s3.2.1) (cond (ilt (zfI y0 s3.2.1) 0) (oN (few (ln (ap s3.2.2.1 [s3.2.1]))) (r2 (s3.1,((zG .i64 s3.2.1 1),((ap s3.2.2.1 [s3.2.1]),(s3.2.2.2.1,(s3.2.2.2.2.1,(s3.2.2.2.2.2.1,(y1,()))))))))) (r2 (s3.1,((zG .i64 s3.2.1 1),(s3.2.2.1,(s3.2.2.2.1,(s3.2.2.2.2.1,(s3.2.2.2.2.2.1,(y1,())))))))))) (some [(aS .int s3.2.2.1)]))) ((ln a0.Memory),(0,([],(a0.Memory,(a0.Mons,(a0.Buffer,(a0.IoBuffer,()))))))))
def zTr:FuncId->Nat->Option Tmpl:=zo [(206,0,{ n:=28,tm:=[(1,.lp 0 0),(3,.sl 0 []),(10,ti),(11,ti)],lo:=[(0,[.sl 1 [],.sl 2 [],.sl 3 [],.sl 4 []])],ro:=[(0,.int,true),(1,(.sl .int),false),(2,.mon,false),(3,.entry,false),(4,.entry,false)] })]
theorem zRE (a0:Host)(hc:zkp a0=true):∃N,zHd N a0=some [aS .int (zfg a0)]:=by
 have hs:=zC.1 hc;have hl:=zcd hs;refine zbT fun N hNN=>?_;unfold zHd oN
 conv=>zeta
 refine (zba a0.Memory (fun i (t:(List Int))=>((ln a0.Memory),(i:Int),t,a0.Memory,a0.Mons,a0.Buffer,a0.IoBuffer,())) _ (fun i (_:List Int) (t:List Int) κ=>bif ilt (zbt a0 (i:Int)).1 0 then (cond (few (ln (ap t [(i:Int)]))) (κ (ap t [(i:Int)])) none) else κ t) (fun (t:(List Int))=>(some [(.one (.s .int t))])) (fun i hi t rec=>?_) (fun t rec=>?_) _ ([]) (hNN hl.1)).trans ?_
 .simp only [zbh hi,zN hi,zZ hi,zU hi hl.1,cT]
 .simp only [zbb,cF]
 rw[zvP (fun i (t:List Int) κ=>bif ilt (zbt a0 (i:Int)).1 0 then (cond (few (ln (ap t [(i:Int)]))) (κ (ap t [(i:Int)])) none) else κ t)]
 exact zsh (fun i=>ilt (zbt a0 (i:Int)).1 0) _ _ 0 [] (by simpa using hl.2)
theorem zKZ:vF 206 zBi:=kF1 zsb zu zl zdC zTr zRE
def zgJ (m:List (List Int))(p:Int)(c:List Int):List (List Int):=bif hasB p (ln m) then (cond (zb6 c) (up m p c) m) else m
@[simp] abbrev zj2 (m:List (List Int))(p:Int)(c:List Int):Bool:=pc (SmM m/\c.length<=1048576)
@[simp] abbrev ziB (m:List (List Int))(p:Int)(c:List Int):List (List Int):=zgJ m p c
def zwH:Run:=rF3 (dS (.sl .int)) dI (dS .int) fun b c d=>(zj2 b c d,[aS (.sl .int) (ziB b c d)])
def zz8 (N:Nat)(a0:lM)(a1:Int)(a2:List Int):OA:=
 (oN (zfq a0) (oN (zI a1 0 (wsub .i64 (ln a0) 1)) (cond (zK a1 0 (wsub .i64 (ln a0) 1)) (oN (zfp a2) (cond (zeS a2) (oN (few (ln (ap [] a2))) (oN (inb a1 (ln (zd2 a0))) (share (up (zd2 a0) a1 (ap [] a2)) (fun x4=>(some [(aS (.sl .int) x4)]))))) (some [(aS (.sl .int) (zd2 a0))]))) (some [(aS (.sl .int) (zd2 a0))]))))
theorem zMm (a0:List (List Int))(a1:Int)(a2:List Int)(hc:zj2 a0 a1 a2=true):∃N,zz8 N a0 a1 a2=some [aS (.sl .int) (ziB a0 a1 a2)]:=by
 obtain ⟨hs,hs2⟩:=zC.1 hc;refine ⟨0,?_⟩;unfold zz8 ziB zgJ oN;refine must (zbp ((zom _).2 hs)) (must rfl ?_);rw[show zK a1 0 (wsub .i64 (ln a0) 1)=hasB a1 (ln a0) from zo3 hs.1 a1]
 cases h1:hasB a1 (ln a0)
 .rfl
 .simp only [cT,zfp,zeS];cases h2:zb6 a2
  .rfl
  .refine must rfl (must (zmt hs2) (must (zB h1) ?_));rw[zjv];rfl
theorem zGf:vF 219 zwH:=kF3 zsb zu zl zdC (zo []) zMm
@[simp] abbrev zjL (m:List (List Int))(p:Int)(c:List Int):Bool:=pc (SmM m/\c.length<=1048576)
@[simp] abbrev zir (m:List (List Int))(p:Int)(c:List Int):List (List Int):=zgJ m p c
def zwd:Run:=rF3 (dS (.sl .int)) dI (dS .int) fun b c d=>(zjL b c d,[aS (.sl .int) (zir b c d)])
def zzE (N:Nat)(a0:lM)(a1:Int)(a2:List Int):OA:=
 (oN (zhr a0) (oN (zdh a1 (ln a0)) (cond (zdQ a1 (ln a0)) (oN (zg3 a2) (cond (zfO a2) (oN (zdp a2) (oN (inb a1 (ln (ze6 a0))) (share (up (ze6 a0) a1 (zdk a2)) (fun x4=>(some [(aS (.sl .int) x4)]))))) (some [(aS (.sl .int) (ze6 a0))]))) (some [(aS (.sl .int) (ze6 a0))]))))
theorem zLQ (a0:List (List Int))(a1:Int)(a2:List Int)(hc:zjL a0 a1 a2=true):∃N,zzE N a0 a1 a2=some [aS (.sl .int) (zir a0 a1 a2)]:=by
 obtain ⟨hs,hs2⟩:=zC.1 hc;refine ⟨0,?_⟩;unfold zzE zir zgJ oN;refine must (zbp hs) (must rfl ?_);rw[show zdQ a1 (ln a0)=hasB a1 (ln a0) from rfl]
 cases h1:hasB a1 (ln a0)
 .rfl
 .simp only [cT,zg3,zfO];cases h2:zb6 a2
  .rfl
  .refine must rfl (must (zbp (jC hs2 (by decide))) (must (zB h1) rfl))
theorem zFL:vF 208 zwd:=kF3 zsb zu zl zdC (zo []) zLQ
def zpa:zO:=[(216,zBA),(206,zBi),(219,zwH),(208,zwd)]++z3k
theorem zhn:zF zpa:=zh zLi (zh zKZ (zh zGf (zh zFL zsb)))
abbrev mZ:Mon:=Ty.dflt .mon
abbrev sZ:Slot:=Ty.dflt .slot
def ShM (x:Mon):Prop:=x.Outer.length=8/\x.Out.length=8/\x.Dirty.length=8/\x.Tables.length=x.Guests.length
def Shape (h:Host):Prop:=SmH h/\∀x∈h.Mons,ShM x
theorem zhB {h:Host}{m:Int}{x:Mon}(hs:Shape h)(h1:zeG x)(h2:ShM x):Shape { h with Mons:=up h.Mons m x }:=by
 refine ⟨⟨hs.1.1,zic hs.1.2.1 h1,hs.1.2.2⟩,fun y hy=>?_⟩;rcases qZ hy with hy|rfl
 .exact hs.2 y hy
 .exact h2
theorem zcf {h:Host}(hs:Shape h){m:Int}(hm:hasB m (ln h.Mons)=true):zeG (ix h.Mons m mZ)/\ShM (ix h.Mons m mZ):=⟨hs.1.2.1.2 _ (zbr hm _),hs.2 _ (zbr hm _)⟩
theorem zOv {h:Host}{mm:List (List Int)}(hs:Shape h)(h1:SmM mm):Shape { h with Memory:=mm }:=⟨⟨h1,hs.1.2⟩,hs.2⟩
theorem zq7 {h:Host}{m p:Int}{s:Slot}(hm:hasB m (ln h.Mons)=true)(hs:Shape h):Shape (zbL h m p s):=by
 refine ⟨zFa hm hs.1,?_⟩;obtain ⟨_,h2⟩:=zcf hs hm;have key:∀y∈up h.Mons m { zgI (ix h.Mons m mZ) p (ix h.Mons m mZ).Tables.length with Outer:=up (ix h.Mons m mZ).Outer p s },ShM y:=by
  intro y hy;rcases qZ hy with hy|rfl
  .exact hs.2 y hy
  .exact ⟨by simpa using h2.1,h2.2.1,h2.2.2.1,by simpa [zgI,zmp] using h2.2.2.2⟩
 unfold zbL;cases ine (ix (ix h.Mons m mZ).Outer p sZ).Page (-1)<;>exact key
theorem zfB (h:Host)(m p:Int)(s:Slot):(zbL h m p s).Mons=up h.Mons m { zgI (ix h.Mons m mZ) p (ix h.Mons m mZ).Tables.length with Outer:=up (ix h.Mons m mZ).Outer p s }/\(zbL h m p s).Memory=h.Memory:=by
 unfold zbL;cases ine (ix (ix h.Mons m mZ).Outer p sZ).Page (-1)<;>exact ⟨rfl,rfl⟩
theorem zd7 {h:Host}{m k:Int}{x:Mon}(hm:hasB m (ln h.Mons)=true):hasB m (ln (up h.Mons k x))=true:=by simpa [ln] using hm
theorem zEy {h:Host}{m k p:Int}{s:Slot}(hm:hasB m (ln h.Mons)=true):hasB m (ln (zbL h k p s).Mons)=true:=by
 rw[(zfB h k p s).1];exact zd7 hm
theorem zda {α:Type}{l:List α}{p:Int}(h:l.length=8)(hp:hasB p 8=true):hasB p (ln l)=true:=by rw[ln,h];exact hp
def zxA (h:Host)(m p:Int)(s:Slot):Host :=
 bif ine s.Page (-1) then ⟨h.Memory,up h.Mons m (zgI (ix h.Mons m mZ) p (ix h.Mons m mZ).Guests.length),flushed h.Buffer s.Page,flushed h.IoBuffer s.Page⟩
 else ⟨h.Memory,up h.Mons m (zgI (ix h.Mons m mZ) p (ix h.Mons m mZ).Guests.length),h.Buffer,h.IoBuffer⟩
theorem zx6 {h:Host}{k:Nat}{p:Int}{s:Slot}(hk:k<h.Mons.length)(ht:(ix h.Mons (k:Int) mZ).Tables.length=(ix h.Mons (k:Int) mZ).Guests.length) :
 zxA { h with Mons:=up h.Mons (k:Int) { ix h.Mons (k:Int) mZ with Outer:=up (ix h.Mons (k:Int) mZ).Outer p s } } (k:Int) p (ix (ix h.Mons (k:Int) mZ).Outer p sZ)=zbL h (k:Int) p s:=by
 unfold zbL zxA;simp only[zc5 hk,zpU,zgI,ht]
def zW9 {ρ:Type}(m p:Int)(i:Nat)(t:List Mon)(κ:List Mon->Option ρ):Option ρ :=
 (cond (inb (i:Int) (ln (ix t m mZ).Tables)) (cond (inb (i:Int) (ln (ix t m mZ).Guests)) (cond (pc (SmK (ix (ix t m mZ).Tables (i:Int) zee)/\(ix (ix t m mZ).Guests (i:Int) zx).Live.length<=1048576)) (cond (inb (i:Int) (ln (ix t m mZ).Tables)) (κ (up t m ({ (ix t m mZ) with Tables:=(up (ix t m mZ).Tables (i:Int) (zdP (ix (ix t m mZ).Tables (i:Int) zee) (ix (ix t m mZ).Guests (i:Int) zx).Live p)) }:Mon))) none) none) none) none)
theorem zVG {ρ:Type}{mons:List Mon}{k:Nat}(hk:k<mons.length)(p:Int)(hm:zeG (ix mons (k:Int) mZ))(ht:(ix mons (k:Int) mZ).Tables.length=(ix mons (k:Int) mZ).Guests.length)(K:List Mon->Option ρ) :
 ∀(n i:Nat),i+n=(ix mons (k:Int) mZ).Guests.length->goN (fun i t κ=>zW9 (k:Int) p i t κ) K n i (up mons (k:Int) (zgI (ix mons (k:Int) mZ) p i))=K (up mons (k:Int) (zgI (ix mons (k:Int) mZ) p (ix mons (k:Int) mZ).Guests.length))
 | 0,i,h=>by
  have:i=(ix mons (k:Int) mZ).Guests.length:=by omega
  subst this;rfl
 | n+1,i,h=>by
  have hi3:i<(ix mons (k:Int) mZ).Guests.length:=by omega
  have hi2:i<(zgO (ix mons (k:Int) mZ).Guests p i (ix mons (k:Int) mZ).Tables).length:=by rw[zmp];omega
  have hf:pc (SmK (ix (zgO (ix mons (k:Int) mZ).Guests p i (ix mons (k:Int) mZ).Tables) (i:Int) zee)/\(ix (ix mons (k:Int) mZ).Guests (i:Int) zx).Live.length<=1048576)=true :=
   zbp ⟨by rw[zZ hi2];exact (zqr _ _ _ _ (by omega) hm.2.2.2.2.2).2 _ (jG hi2),by rw[zZ hi3];exact (hm.2.2.2.1.2 _ (jG hi3)).2.2.1⟩
  simp only[goN,zW9,zc5 hk,zpU,zgI,zN hi2,zN hi3,hf,cT];exact zVG hk p hm ht K n (i+1) (by omega)
@[simp] abbrev zdR (h:Host)(m p:Int)(s:Slot):Bool:=pc (Shape h/\hasB m (ln h.Mons)=true)
@[simp] abbrev zdS (h:Host)(m p:Int)(s:Slot):Host:=zxA h m p s
def zk4:List CV->List AV->Option (Bool×List CV×List AV)
 | [.s (.sl .int) b,.s .mon c,.s .entry d,.s .entry e],[.one (.i .i64 f),.one (.i .i64 g),.agg [.i .i64 h,.i .i64 j]]=>some ((zdR (⟨b,c,d,e⟩:Host) f g (⟨h,j⟩:Slot)),zbf (zdS (⟨b,c,d,e⟩:Host) f g (⟨h,j⟩:Slot)),[])
 | _,_=>none
def zoc (N:Nat)(c:Host)(a0 a1:Int)(a2:Slot):OA:=
 (oN (inb a0 (ln c.Mons)) (iter (σ:=(Int×(Int×(Int×(Int×(Int×(Int×(lN×(lM×(lE×(lE×Unit))))))))))) N (fun r5 s6=>let y7:=s6.2.2.2.2.2.2.2.1;let y5:=s6.2.2.2.2.2.2.1;let y4:=s6.2.2.2.2.1;let y3:=s6.2.2.2.2.2.2.2.2.1;let y2:=s6.2.2.2.2.2.2.2.2.2.1;let y1:=s6.2.2.2.1;let y0:=(ix y5 s6.2.1 zf);let y8:=(ix y0.Tables y1 zee);let y6:=(ix y0.Guests y1 zx).Live; (cond (ilt y1 s6.2.2.1) (oN (inb y1 (ln y0.Tables)) (oN (inb y1 (ln y0.Guests)) (oN (zhN y8 y6 s6.1) (oN (inb y1 (ln y0.Tables)) (share (up y5 s6.2.1 ({ y0 with Tables:=(up y0.Tables y1 (zm5 y8 y6 s6.1)) }:Mon)) (fun x7=>(r5 (s6.1,(s6.2.1,(s6.2.2.1,((zG .i64 y1 1),(y4,(s6.2.2.2.2.2.1,(x7,(y7,(y3,(y2,()))))))))))))))))) (cond (ine y4 (-1)) (oN (zdM y3 y4) (oN (zdM y2 y4) (some [(aH (⟨y7,y5,(zf9 y3 y4),(zf9 y2 y4)⟩:Host))]))) (some [(aH (⟨y7,y5,y3,y2⟩:Host))])))) (a1,(a0,((ln (ix c.Mons a0 zf).Guests),(0,(a2.Page,(a2.Rights,(c.Mons,(c.Memory,(c.Buffer,(c.IoBuffer,()))))))))))))
def zG2:FuncId->Nat->Option Tmpl:=zo [(137,0,{ n:=71,tm:=[(0,.lp 0 0),(2,ti),(7,.lp 1 0),(8,.ep 0 [] 0),(20,ti),(21,ti)],lo:=[(0,[.sl 1 [],.sl 0 [],.sl 2 [],.sl 3 []]),(1,[ti,ti])],ro:=[(0,.mon,true),(1,(.sl .int),true),(2,.entry,true),(3,.entry,true)] })]
theorem zJJ (N:Nat)(c:Host)(a0 a1:Int)(a2:Slot):zfZ (cQ zpa zox zMG zTn) zG2 N 12 137 [true,true,true,true] (zbf c) [aI a0,aI a1,aT .slot a2]=zoc N c a0 a1 a2:=by kernel_rfl
theorem zGu (c:Host)(a0 a1:Int)(a2:Slot)(hb:zbB big (.agg (zbf c) :: [aI a0,aI a1,aT .slot a2]))(hc:zdR c a0 a1 a2=true):∃N,zoc N c a0 a1 a2=some (.agg (zbf (zdS c a0 a1 a2)) :: []):=by
 obtain ⟨hs,hm⟩:=zC.1 hc;obtain ⟨g1,g2⟩:=zcf hs hm;have hg:(ix c.Mons a0 mZ).Guests.length<=big:=(zcd g1.2.2.2.1.1).1;refine zbT fun N hNN=>?_;unfold zoc oN
 conv=>zeta
 refine must (zB hm) ?_;refine (zba ((ix c.Mons a0 zf).Guests) (fun i (t:lN)=>(a1,a0,(ln (ix c.Mons a0 zf).Guests),(i:Int),a2.Page,a2.Rights,t,c.Memory,c.Buffer,c.IoBuffer,())) _ (fun i (x:Guest) (t:List Mon) κ=>zW9 a0 a1 i t κ) (fun (t:lN)=>(cond (ine a2.Page (-1)) (cond (zdM c.Buffer a2.Page) (cond (zdM c.IoBuffer a2.Page) (some [(.agg (zbf (⟨c.Memory,t,(zf9 c.Buffer a2.Page),(zf9 c.IoBuffer a2.Page)⟩:Host)))]) none) none) (some [(.agg (zbf (⟨c.Memory,t,c.Buffer,c.IoBuffer⟩:Host)))]))) (fun i hi t rec=>?_) (fun t rec=>?_) _ (c.Mons) (hNN hg)).trans ?_
 .simp only [zbh hi,zN hi,zZ hi,zU hi hg,cT];rfl
 .simp only [zbb,cF]
 obtain ⟨k,rfl,hk⟩:=zc9 (n:=c.Mons.length) hm;rw[zvP (fun i t κ=>zW9 (k:Int) a1 i t κ)];have e0:c.Mons=up c.Mons (k:Int) (zgI (ix c.Mons (k:Int) mZ) a1 0):=(zM9 hk _).symm;refine (congrArg _ e0).trans ((zVG hk a1 g1 g2.2.2.2 _ _ 0 (jZ _)).trans ?_)
 show (cond (ine a2.Page (-1)) _ _)=some [AV.agg (zbf (zxA c (k:Int) a1 a2))]
 unfold zxA;cases ine a2.Page (-1)
 .rfl
 .exact must rfl (must (zbp hs.1.2.2.1) (must (zbp hs.1.2.2.2) rfl))
theorem zAD:zdm Tryz.prog 137 [true,true,true,true] zk4:=by
 refine zb4 (zcS zhn zu zl zdC) (zef (by kernel_rfl)) ?_
 intro cs avs cs' rs hl hr h;have hb:=zcn hr;unfold zk4 at h;split at h
 .obtain ⟨hc,rfl,rfl⟩:=zcH h;obtain ⟨N,hN⟩:=zGu _ _ _ _ (by exact hb) hc
  exact ⟨rfl,_,N,12,(zJJ N _ _ _ _ ).trans hN⟩
 .cases h
def zXs:zdw:=[(137,([true,true,true,true],zk4))]++zMG
theorem zMH:zcI zXs:=zdZ zl (by
 intro x hx;simp only[qH,qX,or_false]at hx;rcases hx with rfl
 .exact zAD)
def zeh (h:Host)(m p:Int):Host:={ h with Mons:=up h.Mons m { ix h.Mons m mZ with Out:=up (ix h.Mons m mZ).Out p (zb8 h.Memory (ix (ix h.Mons m mZ).Outer p sZ).Page) } }
def zc0 (h:Host)(m p:Int):Host:=zbL (zeh h m p) m p noSlot
theorem zTc {m:List (List Int)}{p:Int}(h:SmM m):(zb8 m p).length<=1048576:=by
 unfold zb8;cases hh:hasB p (ln m)
 .exact (by decide:zyc.length<=1048576)
 .exact h.2 _ (zbr hh _)
theorem zvo {h:Host}{m p:Int}(hs:Shape h)(hm:hasB m (ln h.Mons)=true):Shape (zeh h m p):=by
 obtain ⟨g1,g2⟩:=zcf hs hm;exact zhB hs ⟨g1.1,zKh g1.2.1 (zTc hs.1.1),g1.2.2⟩ ⟨g2.1,by simpa using g2.2.1,g2.2.2⟩
theorem zKa {h:Host}{m p:Int}(hs:Shape h)(hm:hasB m (ln h.Mons)=true):Shape (zc0 h m p):=zq7 (zd7 hm) (zvo hs hm)
@[simp] abbrev zrM (h:Host)(m p:Int):Bool:=pc (Shape h/\hasB m (ln h.Mons)=true/\hasB p 8=true)
@[simp] abbrev zx3 (h:Host)(m p:Int):Host:=zc0 h m p
def zsN:List AV->Option (Bool×List AV)
 | [.agg [.s (.sl .int) b,.s .mon c,.s .entry d,.s .entry e],.one (.i .i64 f),.one (.i .i64 g)]=>some ((zrM (⟨b,c,d,e⟩:Host) f g),[aH (zx3 (⟨b,c,d,e⟩:Host) f g)])
 | _=>none
def zwY (N:Nat)(a0:Host)(a1 a2:Int):OA:=
 let y0:=(ix a0.Mons a1 zf);let y1:=(ix y0.Outer a2 zJ).Page; (oN (inb a1 (ln a0.Mons)) (oN (inb a1 (ln a0.Mons)) (oN (inb a2 (ln y0.Outer)) (oN (ziy a0.Memory y1) (oN (inb a2 (ln y0.Out)) (share (up a0.Mons a1 ({ y0 with Out:=(up y0.Out a2 (zmf a0.Memory y1)) }:Mon)) (fun x4=>let y2:=({ a0 with Mons:=x4 }:Host); (oN zci (oN (zeD y2 a1 a2 zbq) (some [(aH (zgg y2 a1 a2 zbq))]))))))))))
theorem zUM (N:Nat)(a0:Host)(a1 a2:Int):zCv (cQ zpa zox zXs zTn) (zo []) N 12 218 [true,true,true,true,false,false] 1 1 [[0],[1],[2],[4],[7]] .mon [aH a0,aI a1,aI a2]=zwY N a0 a1 a2:=by kernel_rfl
theorem zSm (a0:Host)(a1 a2:Int)(hb:zbB big [aH a0,aI a1,aI a2])(hc:zrM a0 a1 a2=true):∃N,zwY N a0 a1 a2=some [aH (zx3 a0 a1 a2)]:=by
 obtain ⟨hs,hm,hp⟩:=zC.1 hc;obtain ⟨g1,g2⟩:=zcf hs hm;obtain ⟨k,rfl,hk⟩:=zc9 (n:=a0.Mons.length) hm;have hS:=zvo (p:=a2) hs hm;refine ⟨0,?_⟩;unfold zwY oN
 conv=>zeta
 refine must (zB hm) (must (zB hm) (must (zB (zda g2.1 hp)) (must (zbp ((zom _).2 hs.1.1)) (must (zB (zda g2.2.1 hp)) (shr (must rfl (must (zbp ⟨(zM _).2 hS.1,zd7 hm,?_,?_⟩) rfl)))))))
 .simp only [zc5 hk];exact zda g2.1 hp
 .simp only [zc5 hk];exact vD g2.2.2.2
theorem zLF:zdF Tryz.prog 218 [true,true,true,true,false,false] (some (1,1,[[0],[1],[2],[4],[7]])) zsN:=by
 refine zko (kt:=.mon) (zcS zhn zu zMH zdC) (zef (by kernel_rfl)) (by kernel_rfl) ?_
 intro avs rs hl hr h;have hb:=zhH hr;unfold zsN at h;split at h
 .obtain ⟨hc,rfl⟩:=zdJ h;obtain ⟨N,hN⟩:=zSm _ _ _ (by exact hb) hc
  exact ⟨⟨_,rfl⟩,rfl,_,N,12,(zUM N _ _ _ ).trans hN⟩
 .cases h
@[simp] abbrev zGm (h:Host)(m p:Int):Bool:=pc (Shape h/\hasB m (ln h.Mons)=true/\hasB p 8=true)
@[simp] abbrev zGn (h:Host)(m p:Int):Host:=zc0 h m p
def zu5:List CV->List AV->Option (Bool×List CV×List AV)
 | [.s (.sl .int) b,.s .mon c,.s .entry d,.s .entry e],[.one (.i .i64 f),.one (.i .i64 g)]=>some ((zGm (⟨b,c,d,e⟩:Host) f g),zbf (zGn (⟨b,c,d,e⟩:Host) f g),[])
 | _,_=>none
def zFk (N:Nat)(c:Host)(a0 a1:Int):OA:=
 let y0:=(ix c.Mons a0 zf);let y1:=(ix y0.Outer a1 zJ); (oN (inb a0 (ln c.Mons)) (oN (inb a1 (ln y0.Outer)) (oN (ziq c.Memory y1.Page) (oN (inb a1 (ln y0.Out)) (share (up c.Mons a0 ({ y0 with Out:=(up y0.Out a1 (zl4 c.Memory y1.Page)) }:Mon)) (fun x4=>let y2:=(ix x4 a0 zf); (oN zeM (oN (inb a1 (ln y2.Outer)) (share (up x4 a0 ({ y2 with Outer:=(up y2.Outer a1 zeL) }:Mon)) (fun x5=>let y3:=({ c with Mons:=x5 }:Host); (oN (zdR y3 a0 a1 y1) (some [(aH (zdS y3 a0 a1 y1))]))))))))))))
theorem zZE (N:Nat)(c:Host)(a0 a1:Int):zfZ (cQ zpa zox zXs zTn) (zo []) N 12 81 [true,true,true,true] (zbf c) [aI a0,aI a1]=zFk N c a0 a1:=by kernel_rfl
theorem zXf (c:Host)(a0 a1:Int)(hb:zbB big (.agg (zbf c) :: [aI a0,aI a1]))(hc:zGm c a0 a1=true):∃N,zFk N c a0 a1=some (.agg (zbf (zGn c a0 a1)) :: []):=by
 obtain ⟨hs,hm,hp⟩:=zC.1 hc;obtain ⟨g1,g2⟩:=zcf hs hm;obtain ⟨k,rfl,hk⟩:=zc9 (n:=c.Mons.length) hm;have hS:=zvo (p:=a1) hs hm;have hm':hasB (k:Int) (ln (zeh c (k:Int) a1).Mons)=true:=zd7 hm;have hk':k<(zeh c (k:Int) a1).Mons.length:=by simpa [zeh] using hk
 have ex:ix (zeh c (k:Int) a1).Mons (k:Int) mZ={ ix c.Mons (k:Int) mZ with Out:=up (ix c.Mons (k:Int) mZ).Out a1 (zb8 c.Memory (ix (ix c.Mons (k:Int) mZ).Outer a1 sZ).Page) }:=zc5 hk _ _;have hX:Shape { zeh c (k:Int) a1 with Mons:=up (zeh c (k:Int) a1).Mons (k:Int) { ix (zeh c (k:Int) a1).Mons (k:Int) mZ with Outer:=up (ix (zeh c (k:Int) a1).Mons (k:Int) mZ).Outer a1 noSlot } }:=by
  obtain ⟨q1,q2⟩:=zcf hS hm';exact zhB hS ⟨by simpa using q1.1,q1.2⟩ ⟨by simpa using q2.1,q2.2⟩
 refine ⟨0,?_⟩;unfold zFk oN
 conv=>zeta
 refine must (zB hm) (must (zB (zda g2.1 hp)) (must (zbp ((zom _).2 hs.1.1)) (must (zB (zda g2.2.1 hp)) (shr (must rfl (must ?_ (shr (must (zbp ⟨hX,zd7 hm'⟩) ?_))))))))
 .rw [zc5 hk];exact zB (zda g2.1 hp)
 .have:=zx6 (p:=a1) (s:=noSlot) hk' (by rw[ex];exact g2.2.2.2)
  rw[ex] at this
  show some [AV.agg (zbf (zxA { zeh c (k:Int) a1 with Mons:=up (zeh c (k:Int) a1).Mons (k:Int) { ix (zeh c (k:Int) a1).Mons (k:Int) mZ with Outer:=up (ix (zeh c (k:Int) a1).Mons (k:Int) mZ).Outer a1 noSlot } } (k:Int) a1 (ix (ix c.Mons (k:Int) mZ).Outer a1 sZ)))]=_
  rw[ex];exact congrArg (fun x=>some [AV.agg (zbf x)]) this
theorem zRo:zdm Tryz.prog 81 [true,true,true,true] zu5:=by
 refine zb4 (zcS zhn zu zMH zdC) (zef (by kernel_rfl)) ?_
 intro cs avs cs' rs hl hr h;have hb:=zcn hr;unfold zu5 at h;split at h
 .obtain ⟨hc,rfl,rfl⟩:=zcH h;obtain ⟨N,hN⟩:=zXf _ _ _ (by exact hb) hc
  exact ⟨rfl,_,N,12,(zZE N _ _ _ ).trans hN⟩
 .cases h
def zXt:zdw:=[(81,([true,true,true,true],zu5))]++zXs
theorem zMI:zcI zXt:=zdZ zMH (by
 intro x hx;simp only[qH,qX,or_false]at hx;rcases hx with rfl
 .exact zRo)
def zX5:zfc:=[(218,([true,true,true,true,false,false],(some (1,1,[[0],[1],[2],[4],[7]])),zsN))]++zTn
theorem zMQ:zd6 zX5:=zo1 zdC (by
 intro x hx;simp only[qH,qX,or_false]at hx;rcases hx with rfl
 .exact zLF)
def cz (l:List Slot):Nat:=l.countP fun s=>ieq s.Page 0
def zH:List Mon->Nat
 | []=>0
 | m :: l=>cz m.Outer+zH l
def bit (u:List Bool):Nat:=bif ix u 0 false then 1 else 0
theorem zvM (s:Slot)(l:List Slot):cz (s :: l)=cz l+bif ieq s.Page 0 then 1 else 0:=by
 unfold cz;rw[kX];cases ieq s.Page 0<;>rfl
theorem z6o {u:List Bool}{p:Int}(hp:0<=p)(hlt:p.toNat<u.length)(x:Bool):ix (up u p x) 0 false=bif ieq p 0 then x else ix u 0 false:=by
 unfold ix up;cases h:ieq p 0
 .have:p≠0:=by simpa [ieq] using h
  have hne:p.toNat≠0:=by omega
  simp[List.getD,jD,hne]
 .have:p=0:=by simpa [ieq] using h
  subst this;have hlt:0<u.length:=hlt;simp[List.getD,jD,hlt]
theorem zCj:∀(l:List Slot) (u u':List Bool),(∀s∈l,s.Page<12)->u.length=12->zfW l u=some u'->cz l+bit u=bit u'
 | [],u,u',_,_,h=>by cases h;simp[cz]
 | s :: l,u,u',hs,hu,h=>by
  simp only[zfW]at h;rw[zvM];cases h1:ilt s.Page 0
  .have h1:=j3 h1;rw[show ilt s.Page 0=false from qJ (by omega)]at h
   simp only[cF]at h;cases h2:ix u s.Page false
   .rw [h2]at h;simp only[cF]at h;have hlt:s.Page.toNat<u.length:=by have:=hs s (by simp);omega
    have ih:=zCj l _ u' (fun t ht=>hs t (by simp[ht])) (by simpa using hu) h
    have e:bit (up u s.Page true)=bif ieq s.Page 0 then 1 else bit u:=by
     unfold bit;rw[z6o (by omega) hlt]
     cases ieq s.Page 0<;>rfl
    rw[e] at ih;cases h3:ieq s.Page 0
    .rw [h3] at ih;simp only[cF] at ih ⊢;omega
    .have h4:s.Page=0:=by simpa [ieq] using h3
     rw[h4]at h2;have:bit u=0:=by unfold bit;rw[h2];rfl
     rw[h3] at ih;simp only[cT] at ih ⊢;omega
   .rw [h2]at h;cases h
  .have h1':=qE h1;rw[h1]at h;simp only[cT]at h;have ih:=zCj l u u' (fun t ht=>hs t (by simp[ht])) hu h
   have:ieq s.Page 0=false:=by simp[ieq];omega
   rw[this];simpa using ih
theorem zRs:∀(l:List Mon) (u:List Bool),u.length=12->zhL l u=true->zH l+bit u<=1
 | [],u,_,_=>by unfold zH bit;cases ix u 0 false<;>simp
 | m :: l,u,hu,h=>by
  simp only[zhL]at h;cases h1:zdD m
  .rw [h1]at h;cases h
  .rw [h1]at h;simp only[cT]at h;cases h2:zfW m.Outer u with
   | none=>rw[h2]at h;cases h
   | some u' =>
    rw[h2]at h;have e:=zCj _ _ _ (zCN (zlo h1)) hu h2;have ih:=zRs l u' ((zn2 _ _ _ h2).trans hu) h;simp only[zH];omega
theorem zYV:∀(l:List Slot) (b:Nat) (s:Slot),l[b]?=some s->s.Page=0->cz (l.set b noSlot)+1=cz l
 | [],b,s,h,_=>by simp at h
 | t :: l,0,s,h,hs=>by
  simp only[qG,qC]at h;subst h;rw[List.set_cons_zero,zvM,zvM];have:ieq t.Page 0=true:=by simp[ieq,hs]
  rw[this];rfl
 | t :: l,b+1,s,h,hs=>by
  rw[List.set_cons_succ,zvM,zvM];have:=zYV l b s (by simpa using h) hs
  omega
theorem zTO:∀(l:List Mon) (a:Nat) (x y:Mon),l[a]?=some x->zH (l.set a y)+cz x.Outer=zH l+cz y.Outer
 | [],a,x,y,h=>by simp at h
 | m :: l,0,x,y,h=>by
  simp only[qG,qC]at h;subst h;rw[List.set_cons_zero];simp only[zH];omega
 | m :: l,a+1,x,y,h=>by
  rw[List.set_cons_succ];have:=zTO l a x y (by simpa using h)
  simp only[zH];omega
theorem zWS {l:List Slot}(h:cz l=0):zmZ l 0=none:=by
 unfold zmZ;rw[List.findIdx?_eq_none_iff];intro s hs;have:=(uH.1 h) s hs;simpa using this
theorem zJQ:∀(l:List Mon) (i:Nat),zH l=0->zg9 0 l i=(-1,-1)
 | [],_,_=>rfl
 | m :: l,i,h=>by
  simp only[zH]at h;simp only[zg9];rw[zWS (by omega)]
  exact zJQ l (i+1) (by omega)
theorem zWT {l:List Slot}{k:Nat}(h:zmZ l 0=some k):∃s,l[k]?=some s/\s.Page=0:=by
 unfold zmZ at h;rw[uV]at h;obtain ⟨hlt,h1,_⟩:=h;exact ⟨l[k],qB hlt,by simpa [ieq] using h1⟩
theorem zEE:∀(l:List Mon) (i:Nat),zg9 0 l i=(-1,-1)\/∃a b x s,zg9 0 l i=(((i+a:Nat):Int),((b:Nat):Int))/\l[a]?=some x/\x.Outer[b]?=some s/\s.Page=0
 | [],_=>.inl rfl
 | m :: l,i=>by
  simp only[zg9];cases h:zmZ m.Outer 0 with
  | none =>
   rcases zEE l (i+1) with h1|⟨a,b,x,s,h1,h2,h3,h4⟩
   .exact .inl h1
   .refine .inr ⟨a+1,b,x,s,?_,by simpa using h2,h3,h4⟩
    have e:i+1+a=i+(a+1):=by omega
    rw[h1,e]
  | some k =>
   obtain ⟨s,h1,h2⟩:=zWT h;exact .inr ⟨0,k,m,s,rfl,rfl,h1,h2⟩
def Fit (h:Host):Prop:=Shape h/\0<h.Memory.length/\zH h.Mons<=1
theorem zEx {h:Host}(hm:0<h.Memory.length)(ho:ilt (zbt h 0).1 0=true):inb 0 (ln (zb1 h))=true:=by
 unfold zb1;obtain ⟨n,hn⟩:∃n,h.Memory.length=n+1:=⟨h.Memory.length-1,by omega⟩
 rw[hn];simp only[zot];rw[show ilt (zbt h ((0:Nat):Int)).1 0=true from ho]
 exact qK (by simp only[cT,ln,qU];omega)
theorem zWY {h:Host}(hm:0<h.Memory.length)(h0:ieq (ln (zb1 h)) 0=true):ilt (zbt h 0).1 0=false:=by
 cases ho:ilt (zbt h 0).1 0
 .rfl
 .have h1:=qE (zEx hm ho);have h2:ln (zb1 h)=0:=by simpa [ieq] using h0
  omega
def zcK (h:Host):Host:=bif ieq (ln (zb1 h)) 0 then zc0 h (zbt h 0).1 (zbt h 0).2 else h
structure Room (h r:Host):Prop where
 shape:Shape r
 free:inb 0 (ln (zb1 r))=true
 len:r.Mons.length=h.Mons.length
 outer:∀m,(ix r.Mons m mZ).Outer.length=8\/True
theorem zZK {h:Host}(hf:Fit h)(h0:ieq (ln (zb1 h)) 0=true):∃(a b:Nat) (x:Mon) (s:Slot),zbt h 0=((a:Int),(b:Int))/\h.Mons[a]?=some x/\x.Outer[b]?=some s/\s.Page=0:=by
 have h1:=zWY hf.2.1 h0;have e:zbt h 0=zg9 0 h.Mons 0:=rfl;rcases zEE h.Mons 0 with h2|⟨a,b,x,s,h2,h3⟩
 .rw [e,h2]at h1;cases h1
 .exact ⟨a,b,x,s,by rw[e,h2,jZ],h3⟩
theorem zCG {h:Host}(hf:Fit h)(h0:ieq (ln (zb1 h)) 0=true):hasB (zbt h 0).1 (ln h.Mons)=true/\hasB (zbt h 0).2 8=true:=by
 obtain ⟨a,b,x,s,h1,h2,h3,h4⟩:=zZK hf h0;rw[h1];have ha:=(qA.1 h2).1;have hb:=(qA.1 h3).1;have hx:=hf.1.2 x (qL h2);refine ⟨qK (by simp only[ln];omega),qK ?_⟩
 have:=hx.1
 show 0<=(b:Int)/\(b:Int)<8
 omega
theorem room {h:Host}(hf:Fit h):Room h (zcK h):=by
 unfold zcK;cases h0:ieq (ln (zb1 h)) 0
 .refine ⟨hf.1,qK ?_,rfl,fun _=>.inr trivial⟩;have:ln (zb1 h)≠0:=by simpa [ieq] using h0
  show 0<=(0:Int)/\(0:Int)<ln (zb1 h)
  simp only[ln] at *;omega
 .obtain ⟨hm,hp⟩:=zCG hf h0;obtain ⟨a,b,x,s,h1,h2,h3,h4⟩:=zZK hf h0;simp only[cT];rw[h1]at hm hp ⊢;have ha:=(qA.1 h2).1;have hb:=(qA.1 h3).1;have hxa:ix h.Mons (a:Int) mZ=x:=by rw[zZ ha];exact (qA.1 h2).2
  have hmons:=(zfB (zeh h (a:Int) (b:Int)) (a:Int) (b:Int) noSlot).1;have ex:ix (zeh h (a:Int) (b:Int)).Mons (a:Int) mZ={ x with Out:=up x.Out (b:Int) (zb8 h.Memory (ix x.Outer (b:Int) sZ).Page) }:=by
   unfold zeh;rw[zc5 ha,hxa]
  obtain ⟨y,hM,hy⟩:∃y,(zc0 h (a:Int) (b:Int)).Mons=h.Mons.set a y/\y.Outer=x.Outer.set b noSlot:=by
   unfold zc0;rw[hmons,ex];unfold zeh;rw[zpU];exact ⟨_,by simp[up];rfl,by simp[up]⟩
  have hz:zH (zc0 h (a:Int) (b:Int)).Mons=0:=by
   have e1:=zTO h.Mons a x y h2;have e2:=zYV x.Outer b s h3 h4;have e3:=hf.2.2;rw[hM];rw[hy] at e1;omega
  have hmem:(zc0 h (a:Int) (b:Int)).Memory=h.Memory:=(zfB (zeh h (a:Int) (b:Int)) (a:Int) (b:Int) noSlot).2;refine ⟨zKa hf.1 hm,zEx (by rw[hmem];exact hf.2.1) ?_,by rw[hM];simp,fun _=>.inr trivial⟩
  have e:zbt (zc0 h (a:Int) (b:Int)) 0=zg9 0 (zc0 h (a:Int) (b:Int)).Mons 0:=rfl;rw[e,zJQ _ _ hz];rfl
theorem zTd {m:List (List Int)}{p:Int}{c:List Int}(h:SmM m)(hc:c.length<=1048576):SmM (zgJ m p c):=by
 unfold zgJ;cases hasB p (ln m)
 .exact h
 .cases zb6 c
  .exact h
  .exact zKh h hc
def landing (r:Host)(m p to:Int):Host:={ r with Memory:=zgJ r.Memory to (ix (ix r.Mons m mZ).Out p []),Mons:=up r.Mons m { ix r.Mons m mZ with Out:=up (ix r.Mons m mZ).Out p [] } }
def zeq (r:Host)(m p to:Int):Host:=zbL (landing r m p to) m p ⟨to,3⟩
def fetched (h:Host)(m p:Int):Host:=zeq (zcK h) m p (ix (zb1 (zcK h)) 0 0)
theorem zTf {r:Host}{m p:Int}(hr:Shape r)(hm:hasB m (ln r.Mons)=true)(hp:hasB p 8=true):(ix (ix r.Mons m mZ).Out p []).length<=1048576:=by
 obtain ⟨g1,g2⟩:=zcf hr hm;exact g1.2.1.2 _ (zbr (zda g2.2.1 hp) _)
theorem zq6 {r:Host}{m p to:Int}(hr:Shape r)(hm:hasB m (ln r.Mons)=true)(hp:hasB p 8=true):Shape (landing r m p to):=by
 obtain ⟨g1,g2⟩:=zcf hr hm;exact zOv (h:={ r with Mons:=up r.Mons m { ix r.Mons m mZ with Out:=up (ix r.Mons m mZ).Out p [] } }) (zhB (x:={ ix r.Mons m mZ with Out:=up (ix r.Mons m mZ).Out p [] }) hr ⟨g1.1,zKh g1.2.1 (by simp),g1.2.2⟩ ⟨g2.1,by simpa using g2.2.1,g2.2.2⟩) (zTd hr.1.1 (zTf hr hm hp))
theorem zPV {r:Host}{m p to:Int}(hr:Shape r)(hm:hasB m (ln r.Mons)=true)(hp:hasB p 8=true):Shape (zeq r m p to):=zq7 (zd7 hm) (zq6 hr hm hp)
theorem zoH {h:Host}(hf:Fit h){m:Int}(hm:hasB m (ln h.Mons)=true):hasB m (ln (zcK h).Mons)=true:=by
 rw[ln,(room hf).len];exact hm
theorem ziV {h:Host}{m p:Int}(hf:Fit h)(hm:hasB m (ln h.Mons)=true)(hp:hasB p 8=true):Shape (fetched h m p)/\hasB m (ln (fetched h m p).Mons)=true :=
 ⟨zPV (room hf).shape (zoH hf hm) hp,zEy (zd7 (zoH hf hm))⟩
@[simp] abbrev zuJ (h:Host)(m p:Int):Bool:=pc (Fit h/\hasB m (ln h.Mons)=true/\hasB p 8=true)
@[simp] abbrev zwP (h:Host)(m p:Int):Host:=fetched h m p
def zva:List AV->Option (Bool×List AV)
 | [.agg [.s (.sl .int) b,.s .mon c,.s .entry d,.s .entry e],.one (.i .i64 f),.one (.i .i64 g)]=>some ((zuJ (⟨b,c,d,e⟩:Host) f g),[aH (zwP (⟨b,c,d,e⟩:Host) f g)])
 | _=>none
def zAa (N:Nat)(a0:Host)(a1 a2:Int):OA:=
 let y6:=(ix (zeO a0) 0 0);let y2:=(ix a0.Mons a1 zf);let y0:=(zx3 a0 (zfK a0 0) (zhb a0 0));let y5:=(ix (zeO y0) 0 0);let y1:=(ix y0.Mons a1 zf); (oN (zkK a0) (cond (ieq (ln (zeO a0)) 0) (oN (zjo a0 0) (oN (zrM a0 (zfK a0 0) (zhb a0 0)) (oN (zkK y0) (oN (inb 0 (ln (zeO y0))) (oN (inb a1 (ln y0.Mons)) (oN (inb a2 (ln y1.Out)) (oN (zj2 y0.Memory y5 (ix y1.Out a2 [])) (oN (inb a1 (ln y0.Mons)) (oN (inb a2 (ln y1.Out)) (share (up y0.Mons a1 ({ y1 with Out:=(up y1.Out a2 []) }:Mon)) (fun x4=>let y3:=({ y0 with Memory:=(ziB y0.Memory y5 (ix y1.Out a2 [])),Mons:=x4 }:Host); (oN (zeD y3 a1 a2 (⟨y5,3⟩:Slot)) (some [(aH (zgg y3 a1 a2 (⟨y5,3⟩:Slot)))]))))))))))))) (oN (zkK a0) (oN (inb 0 (ln (zeO a0))) (oN (inb a1 (ln a0.Mons)) (oN (inb a2 (ln y2.Out)) (oN (zj2 a0.Memory y6 (ix y2.Out a2 [])) (oN (inb a1 (ln a0.Mons)) (oN (inb a2 (ln y2.Out)) (share (up a0.Mons a1 ({ y2 with Out:=(up y2.Out a2 []) }:Mon)) (fun x4=>let y4:=({ a0 with Memory:=(ziB a0.Memory y6 (ix y2.Out a2 [])),Mons:=x4 }:Host); (oN (zeD y4 a1 a2 (⟨y6,3⟩:Slot)) (some [(aH (zgg y4 a1 a2 (⟨y6,3⟩:Slot)))])))))))))))))
theorem zXm (N:Nat)(a0:Host)(a1 a2:Int):zCv (cQ zpa zox zXt zX5) (zo []) N 12 159 [true,true,true,true,false,false] 1 1 [[0],[1],[2],[4],[7]] .mon [aH a0,aI a1,aI a2]=zAa N a0 a1 a2:=by kernel_rfl
theorem zUz (a0:Host)(a1 a2:Int)(hb:zbB big [aH a0,aI a1,aI a2])(hc:zuJ a0 a1 a2=true):∃N,zAa N a0 a1 a2=some [aH (zwP a0 a1 a2)]:=by
 obtain ⟨hf,hm,hp⟩:=zC.1 hc;have tail:∀r,Shape r->inb 0 (ln (zb1 r))=true->hasB a1 (ln r.Mons)=true->(cond (zkK r) (cond (inb 0 (ln (zeO r))) (cond (inb a1 (ln r.Mons)) (cond (inb a2 (ln (ix r.Mons a1 zf).Out)) (cond (zj2 r.Memory (ix (zeO r) 0 0) (ix (ix r.Mons a1 zf).Out a2 [])) (cond (inb a1 (ln r.Mons)) (cond (inb a2 (ln (ix r.Mons a1 zf).Out)) (share (up r.Mons a1 ({ (ix r.Mons a1 zf) with Out:=(up (ix r.Mons a1 zf).Out a2 []) }:Mon)) (fun x4=>(cond (zeD ({ r with Memory:=(ziB r.Memory (ix (zeO r) 0 0) (ix (ix r.Mons a1 zf).Out a2 [])),Mons:=x4 }:Host) a1 a2 (⟨(ix (zeO r) 0 0),3⟩:Slot)) (some [(AV.agg (zbf (zgg ({ r with Memory:=(ziB r.Memory (ix (zeO r) 0 0) (ix (ix r.Mons a1 zf).Out a2 [])),Mons:=x4 }:Host) a1 a2 (⟨(ix (zeO r) 0 0),3⟩:Slot))))]) none))) none) none) none) none) none) none) none)=some [AV.agg (zbf (zeq r a1 a2 (ix (zb1 r) 0 0)))]:=by
  intro r hr hfree hrm;obtain ⟨g1,g2⟩:=zcf hr hrm;have hL:=zq6 (to:=ix (zb1 r) 0 0) hr hrm hp;obtain ⟨k,rfl,hk⟩:=zc9 (n:=r.Mons.length) hrm;refine must (zbp hr.1.1.1) (must hfree (must (zB hrm) (must (zB (zda g2.2.1 hp)) (must (zbp ⟨hr.1.1,zTf hr hrm hp⟩) (must (zB hrm) (must (zB (zda g2.2.1 hp)) (shr (must (zbp ⟨(zM _).2 hL.1,zd7 hrm,?_,?_⟩) rfl))))))))
  .simp only [zc5 hk];exact zda g2.1 hp
  .simp only [zc5 hk];exact vD g2.2.2.2
 have hR:=room hf;have hrm:=zoH hf hm;refine ⟨0,?_⟩;unfold zAa zwP fetched oN
 conv=>zeta
 refine must (zbp hf.1.1.1.1) ?_;cases h0:ieq (ln (zeO a0)) 0
 .have er:zcK a0=a0:=by unfold zcK;rw[show ieq (ln (zb1 a0)) 0=false from h0];rfl
  rw[er]at hR hrm ⊢;exact tail a0 hR.shape hR.free hrm
 .obtain ⟨o1,o2⟩:=zCG hf h0;have er:zcK a0=zc0 a0 (zbt a0 0).1 (zbt a0 0).2:=by unfold zcK;rw[show ieq (ln (zb1 a0)) 0=true from h0];rfl
  rw[er]at hR hrm ⊢;exact must rfl (must rfl (must (zbp ⟨hf.1,o1,o2⟩) (tail _ hR.shape hR.free hrm)))
theorem zO0:zdF Tryz.prog 159 [true,true,true,true,false,false] (some (1,1,[[0],[1],[2],[4],[7]])) zva:=by
 refine zko (kt:=.mon) (zcS zhn zu zMI zMQ) (zef (by kernel_rfl)) (by kernel_rfl) ?_
 intro avs rs hl hr h;have hb:=zhH hr;unfold zva at h;split at h
 .obtain ⟨hc,rfl⟩:=zdJ h;obtain ⟨N,hN⟩:=zUz _ _ _ (by exact hb) hc
  exact ⟨⟨_,rfl⟩,rfl,_,N,12,(zXm N _ _ _ ).trans hN⟩
 .cases h
@[simp] abbrev zqF (h:Host):Bool:=pc (Shape h/\hasB (zbt h 0).1 (ln h.Mons)=true/\hasB (zbt h 0).2 8=true)
@[simp] abbrev zqG (h:Host):Host:=zc0 h (zbt h 0).1 (zbt h 0).2
def zl9:List CV->List AV->Option (Bool×List CV×List AV)
 | [.s (.sl .int) b,.s .mon c,.s .entry d,.s .entry e],[]=>some ((zqF (⟨b,c,d,e⟩:Host)),zbf (zqG (⟨b,c,d,e⟩:Host)),[])
 | _,_=>none
def zqv (N:Nat)(c:Host)  : OA :=
 (oN (zjk c 0) (oN (zGm c (zfI c 0) (zg2 c 0)) (some [(aH (zGn c (zfI c 0) (zg2 c 0)))])))
theorem zMB (N:Nat)(c:Host)  : zfZ (cQ zpa zox zXt zX5) (zo []) N 12 207 [true,true,true,true] (zbf c) []=zqv N c:=by kernel_rfl
theorem zJl (c:Host)(hb:zbB big (.agg (zbf c) :: []))(hc:zqF c=true):∃N,zqv N c=some (.agg (zbf (zqG c)) :: []):=by
 have hs:=zC.1 hc;refine ⟨0,?_⟩;unfold zqv oN;exact must rfl (must (zbp hs) rfl)
theorem zCW:zdm Tryz.prog 207 [true,true,true,true] zl9:=by
 refine zb4 (zcS zhn zu zMI zMQ) (zef (by kernel_rfl)) ?_
 intro cs avs cs' rs hl hr h;have hb:=zcn hr;unfold zl9 at h;split at h
 .obtain ⟨hc,rfl,rfl⟩:=zcH h;obtain ⟨N,hN⟩:=zJl _ (by exact hb) hc
  exact ⟨rfl,_,N,12,(zMB N _ ).trans hN⟩
 .cases h
def z1G:zdw:=[(207,([true,true,true,true],zl9))]++zXt
theorem zVR:zcI z1G:=zdZ zMI (by
 intro x hx;simp only[qH,qX,or_false]at hx;rcases hx with rfl
 .exact zCW)
def zTo:zfc:=[(159,([true,true,true,true,false,false],(some (1,1,[[0],[1],[2],[4],[7]])),zva))]++zX5
theorem zCQ:zd6 zTo:=zo1 zMQ (by
 intro x hx;simp only[qH,qX,or_false]at hx;rcases hx with rfl
 .exact zO0)
@[simp] abbrev zAS (h:Host)(m p:Int):Bool:=pc (Fit h/\hasB m (ln h.Mons)=true/\hasB p 8=true)
@[simp] abbrev ztP (h:Host)(m p:Int):Host:=fetched h m p
theorem zWr {r:Host}{m p to:Int}(hr:Shape r)(hm:hasB m (ln r.Mons)=true):zxA { landing r m p to with Mons:=up (landing r m p to).Mons m { ix (landing r m p to).Mons m mZ with Outer:=up (ix (landing r m p to).Mons m mZ).Outer p ⟨to,3⟩ } } m p (ix (ix (landing r m p to).Mons m mZ).Outer p sZ)=zeq r m p to:=by
 obtain ⟨g1,g2⟩:=zcf hr hm;obtain ⟨k,rfl,hk⟩:=zc9 (n:=r.Mons.length) hm;refine zx6 (h:=landing r (k:Int) p to) (by simpa [landing] using hk) ?_
 unfold landing;simp only[zc5 hk];exact g2.2.2.2
theorem zU6 {r:Host}{m p to:Int}(hr:Shape r)(hm:hasB m (ln r.Mons)=true)(hp:hasB p 8=true):Shape { landing r m p to with Mons:=up (landing r m p to).Mons m { ix (landing r m p to).Mons m mZ with Outer:=up (ix (landing r m p to).Mons m mZ).Outer p ⟨to,3⟩ } }:=by
 have hL:=zq6 (to:=to) hr hm hp;obtain ⟨q1,q2⟩:=zcf hL (zd7 hm);exact zhB hL ⟨by simpa using q1.1,q1.2⟩ ⟨by simpa using q2.1,q2.2⟩
def zsz:List CV->List AV->Option (Bool×List CV×List AV)
 | [.s (.sl .int) b,.s .mon c,.s .entry d,.s .entry e],[.one (.i .i64 f),.one (.i .i64 g)]=>some ((zAS (⟨b,c,d,e⟩:Host) f g),zbf (ztP (⟨b,c,d,e⟩:Host) f g),[])
 | _,_=>none
def zzJ (N:Nat)(c:Host)(a0 a1:Int):OA:=
 let y8:=(ix (zfg c) 0 0);let y6:=(zqG c);let y7:=(ix (zfg y6) 0 0);let y1:=(ix c.Mons a0 zf);let y0:=(ix y6.Mons a0 zf); (oN (zkp c) (cond (ieq (ln (zfg c)) 0) (oN (zqF c) (oN (inb a0 (ln y6.Mons)) (oN (zkp y6) (oN (inb 0 (ln (zfg y6))) (oN (inb a1 (ln y0.Out)) (oN (zjL y6.Memory y7 (ix y0.Out a1 [])) (oN (inb a1 (ln y0.Out)) (share (up y6.Mons a0 ({ y0 with Out:=(up y0.Out a1 []) }:Mon)) (fun x4=>let y2:=(ix x4 a0 zf);let y9:=(ix y2.Outer a1 zJ); (oN (inb a1 (ln y2.Outer)) (oN (inb a1 (ln y2.Outer)) (share (up x4 a0 ({ y2 with Outer:=(up y2.Outer a1 (⟨y7,3⟩:Slot)) }:Mon)) (fun x5=>let y4:=({ y6 with Memory:=(zir y6.Memory y7 (ix y0.Out a1 [])),Mons:=x5 }:Host); (oN (zdR y4 a0 a1 y9) (some [(aH (zdS y4 a0 a1 y9))]))))))))))))))) (oN (inb a0 (ln c.Mons)) (oN (zkp c) (oN (inb 0 (ln (zfg c))) (oN (inb a1 (ln y1.Out)) (oN (zjL c.Memory y8 (ix y1.Out a1 [])) (oN (inb a1 (ln y1.Out)) (share (up c.Mons a0 ({ y1 with Out:=(up y1.Out a1 []) }:Mon)) (fun x4=>let y3:=(ix x4 a0 zf);let y10:=(ix y3.Outer a1 zJ); (oN (inb a1 (ln y3.Outer)) (oN (inb a1 (ln y3.Outer)) (share (up x4 a0 ({ y3 with Outer:=(up y3.Outer a1 (⟨y8,3⟩:Slot)) }:Mon)) (fun x5=>let y5:=({ c with Memory:=(zir c.Memory y8 (ix y1.Out a1 [])),Mons:=x5 }:Host); (oN (zdR y5 a0 a1 y10) (some [(aH (zdS y5 a0 a1 y10))]))))))))))))))))
theorem zXl (N:Nat)(c:Host)(a0 a1:Int):zfZ (cQ zpa zox z1G zTo) (zo []) N 12 150 [true,true,true,true] (zbf c) [aI a0,aI a1]=zzJ N c a0 a1:=by kernel_rfl
theorem zUk (c:Host)(a0 a1:Int)(hb:zbB big (.agg (zbf c) :: [aI a0,aI a1]))(hc:zAS c a0 a1=true):∃N,zzJ N c a0 a1=some (.agg (zbf (ztP c a0 a1)) :: []):=by
 obtain ⟨hf,hm,hp⟩:=zC.1 hc;have tail:∀r,Shape r->inb 0 (ln (zb1 r))=true->hasB a0 (ln r.Mons)=true->(cond (inb a0 (ln r.Mons)) (cond (zkp r) (cond (inb 0 (ln (zfg r))) (cond (inb a1 (ln (ix r.Mons a0 zf).Out)) (cond (zjL r.Memory (ix (zfg r) 0 0) (ix (ix r.Mons a0 zf).Out a1 [])) (cond (inb a1 (ln (ix r.Mons a0 zf).Out)) (share (up r.Mons a0 ({ (ix r.Mons a0 zf) with Out:=(up (ix r.Mons a0 zf).Out a1 []) }:Mon)) (fun x4=>(cond (inb a1 (ln (ix x4 a0 zf).Outer)) (cond (inb a1 (ln (ix x4 a0 zf).Outer)) (share (up x4 a0 ({ (ix x4 a0 zf) with Outer:=(up (ix x4 a0 zf).Outer a1 (⟨(ix (zfg r) 0 0),3⟩:Slot)) }:Mon)) (fun x5=>(cond (zdR ({ r with Memory:=(zir r.Memory (ix (zfg r) 0 0) (ix (ix r.Mons a0 zf).Out a1 [])),Mons:=x5 }:Host) a0 a1 (ix (ix x4 a0 zf).Outer a1 zJ)) (some [(AV.agg (zbf (zdS ({ r with Memory:=(zir r.Memory (ix (zfg r) 0 0) (ix (ix r.Mons a0 zf).Out a1 [])),Mons:=x5 }:Host) a0 a1 (ix (ix x4 a0 zf).Outer a1 zJ))))]) none))) none) none))) none) none) none) none) none) none)=some [AV.agg (zbf (zeq r a0 a1 (ix (zb1 r) 0 0)))]:=by
  intro r hr hfree hrm;obtain ⟨g1,g2⟩:=zcf hr hrm;have hL:=zU6 (to:=ix (zb1 r) 0 0) hr hrm hp;have hE:=zWr (p:=a1) (to:=ix (zb1 r) 0 0) hr hrm;obtain ⟨k,rfl,hk⟩:=zc9 (n:=r.Mons.length) hrm;have hh:∀(x y:Mon),hasB (k:Int) (ln (up (up r.Mons (k:Int) x) (k:Int) y))=true:=fun x y=>by simpa [ln] using hrm
  have hi:inb a1 (ln (ix (up r.Mons (k:Int) { ix r.Mons (k:Int) mZ with Out:=up (ix r.Mons (k:Int) mZ).Out a1 [] }) (k:Int) mZ).Outer)=true:=by
   rw[zc5 hk];exact zB (zda g2.1 hp)
  refine must (zB hrm) (must (zbp hr.1.1.1) (must hfree (must (zB (zda g2.2.1 hp)) (must (zbp ⟨hr.1.1,zTf hr hrm hp⟩) (must (zB (zda g2.2.1 hp)) (shr (must hi (must hi (shr (must (zbp ⟨hL,hh _ _⟩) ?_))))))))));exact congrArg (fun x=>some [AV.agg (zbf x)]) hE
 have hR:=room hf;have hrm:=zoH hf hm;refine ⟨0,?_⟩;unfold zzJ ztP fetched oN
 conv=>zeta
 refine must (zbp hf.1.1.1.1) ?_;cases h0:ieq (ln (zfg c)) 0
 .have er:zcK c=c:=by unfold zcK;rw[show ieq (ln (zb1 c)) 0=false from h0];rfl
  rw[er]at hR hrm ⊢;exact tail c hR.shape hR.free hrm
 .obtain ⟨o1,o2⟩:=zCG hf h0;have er:zcK c=zc0 c (zbt c 0).1 (zbt c 0).2:=by unfold zcK;rw[show ieq (ln (zb1 c)) 0=true from h0];rfl
  rw[er]at hR hrm ⊢;exact must rfl (must (zbp ⟨hf.1,o1,o2⟩) (tail _ hR.shape hR.free hrm))
theorem zOM:zdm Tryz.prog 150 [true,true,true,true] zsz:=by
 refine zb4 (zcS zhn zu zVR zCQ) (zef (by kernel_rfl)) ?_
 intro cs avs cs' rs hl hr h;have hb:=zcn hr;unfold zsz at h;split at h
 .obtain ⟨hc,rfl,rfl⟩:=zcH h;obtain ⟨N,hN⟩:=zUk _ _ _ (by exact hb) hc
  exact ⟨rfl,_,N,12,(zXl N _ _ _ ).trans hN⟩
 .cases h
def zXu:zdw:=[(150,([true,true,true,true],zsz))]++z1G
theorem zMJ:zcI zXu:=zdZ zVR (by
 intro x hx;simp only[qH,qX,or_false]at hx;rcases hx with rfl
 .exact zOM)
def zbu (h:Host)(m p:Int):Host:={ h with Mons:=up h.Mons m { ix h.Mons m mZ with Dirty:=up (ix h.Mons m mZ).Dirty p true } }
def opened (h:Host)(m p:Int):Host:=bif ieq (wand .i64 (ix (ix h.Mons m mZ).Outer p sZ).Rights 2) 0 then zbL h m p ⟨(ix (ix h.Mons m mZ).Outer p sZ).Page,3⟩ else h
def zit (h:Host)(m p n:Int):Host:=bif ieq (wand .i64 n 2) 0 then h else opened (zbu h m p) m p
def mended (h:Host)(m p n:Int):Host:=bif ieq (ix (ix h.Mons m mZ).Outer p sZ).Page (-1) then zit (fetched h m p) m p n else zit h m p n
theorem z4H {r:Int}(h0:0<=r)(h3:r<=3):enough r 2 = !ieq (wand .i64 r 2) 0:=by
 have:r=0\/r=1\/r=2\/r=3:=by omega
 rcases this with rfl|rfl|rfl|rfl<;>rfl
structure SlotFit (s:Slot):Prop where
 no:zcq s noSlot=ieq s.Page (-1)
 lo:0<=s.Rights
 hi:s.Rights<=3
theorem zXX {s:Slot}{n:Int}(h:zde s n=true):SlotFit s:=by
 refine ⟨zOx h,?_,?_⟩<;>unfold zde at h<;>cases h1:zcq s noSlot
 .rw [h1]at h;simp only[cF,zcM]at h;have:=(zfS.1 h.2.2).1;omega
 .unfold zcq at h1;rw[qD]at h1;have:s.Rights=0:=qE h1.2;omega
 .rw [h1]at h;simp only[cF,zcM]at h;have:=(zfS.1 h.2.2).2;omega
 .unfold zcq at h1;rw[qD]at h1;have:s.Rights=0:=qE h1.2;omega
theorem zlV {h:Host}{m p:Int}(hs:Shape h)(hm:hasB m (ln h.Mons)=true):Shape (zbu h m p):=by
 obtain ⟨g1,g2⟩:=zcf hs hm;exact zhB hs ⟨g1.1,g1.2.1,by simpa using g1.2.2.1,g1.2.2.2⟩ ⟨g2.1,g2.2.1,by simpa using g2.2.2.1,g2.2.2.2⟩
theorem zS7 {h:Host}{m p:Int}(hs:Shape h)(hm:hasB m (ln h.Mons)=true):Shape (opened h m p)/\hasB m (ln (opened h m p).Mons)=true:=by
 unfold opened;cases ieq (wand .i64 (ix (ix h.Mons m mZ).Outer p sZ).Rights 2) 0
 .exact ⟨hs,hm⟩
 .exact ⟨zq7 hm hs,zEy hm⟩
theorem zE7 {h:Host}{m p n:Int}(hs:Shape h)(hm:hasB m (ln h.Mons)=true):Shape (zit h m p n)/\hasB m (ln (zit h m p n).Mons)=true:=by
 unfold zit;cases ieq (wand .i64 n 2) 0
 .exact zS7 (zlV hs hm) (zd7 hm)
 .exact ⟨hs,hm⟩
theorem ztc {h:Host}{m p n:Int}(hf:Fit h)(hm:hasB m (ln h.Mons)=true)(hp:hasB p 8=true):Shape (mended h m p n)/\hasB m (ln (mended h m p n).Mons)=true:=by
 unfold mended;cases ieq (ix (ix h.Mons m mZ).Outer p sZ).Page (-1)
 .exact zE7 hf.1 hm
 .obtain ⟨h1,h2⟩:=ziV hf hm hp;exact zE7 h1 h2
theorem zRa {h:Host}{m p:Int}(hf:Fit h)(hm:hasB m (ln h.Mons)=true)(hp:hasB p 8=true):(ix (ix (fetched h m p).Mons m mZ).Outer p sZ).Rights=3:=by
 have hR:=room hf;have hrm:=zoH hf hm;obtain ⟨g1,g2⟩:=zcf hR.shape hrm;obtain ⟨k,rfl,hk⟩:=zc9 (n:=(zcK h).Mons.length) hrm;obtain ⟨q,rfl,hq⟩:=zc9 (n:=8) hp;unfold fetched zeq;rw[(zfB _ _ _ _).1];have hk':k<(landing (zcK h) (k:Int) (q:Int) (ix (zb1 (zcK h)) 0 0)).Mons.length:=by simpa [landing] using hk
 rw[zc5 hk'];have ho:q<(ix (landing (zcK h) (k:Int) (q:Int) (ix (zb1 (zcK h)) 0 0)).Mons (k:Int) mZ).Outer.length:=by
  unfold landing;rw[zc5 hk]
  show q<(ix (zcK h).Mons (k:Int) mZ).Outer.length
  rw[g2.1];exact hq
 show (ix (up (ix (landing (zcK h) (k:Int) (q:Int) (ix (zb1 (zcK h)) 0 0)).Mons (k:Int) mZ).Outer (q:Int) ⟨_,3⟩) (q:Int) sZ).Rights=3
 rw[zc5 ho]
def zQz (h:Host)(m p n:Int):Prop:=Fit h/\hasB m (ln h.Mons)=true/\hasB p 8=true/\(n=1\/n=2)/\SlotFit (ix (ix h.Mons m mZ).Outer p sZ)
@[simp] abbrev zlF (h:Host)(m p n:Int):Bool:=pc (zQz h m p n)
@[simp] abbrev zmG (h:Host)(m p n:Int):Host:=mended h m p n
def zqU:List AV->Option (Bool×List AV)
 | [.agg [.s (.sl .int) b,.s .mon c,.s .entry d,.s .entry e],.one (.i .i64 f),.one (.i .i64 g),.one (.i .i64 h)]=>some ((zlF (⟨b,c,d,e⟩:Host) f g h),[aH (zmG (⟨b,c,d,e⟩:Host) f g h)])
 | _=>none
def zuQ (N:Nat)(a0:Host)(a1 a2 a3:Int):OA:=
 let y3:=(zwP a0 a1 a2);let y6:=(ix y3.Mons a1 zf);let y0:=(ix a0.Mons a1 zf);let y7:=(ix y0.Outer a2 zJ); (oN (inb a1 (ln a0.Mons)) (oN (inb a2 (ln y0.Outer)) (oN zci (cond (cond (ieq y7.Page zbq.Page) (ieq y7.Rights zbq.Rights) false) (oN (zuJ a0 a1 a2) (cond (ieq (wand .i64 a3 2) 0) (some [(aH y3)]) (oN (inb a1 (ln y3.Mons)) (oN (inb a2 (ln y6.Dirty)) (share (up y3.Mons a1 ({ y6 with Dirty:=(up y6.Dirty a2 true) }:Mon)) (fun x5=>let y8:=(ix x5 a1 zf).Outer;let y4:=({ y3 with Mons:=x5 }:Host);let y1:=(ix y8 a2 zJ);let y9:=({ y1 with Rights:=3 }:Slot); (oN (inb a1 (ln x5)) (oN (inb a2 (ln y8)) (cond (ieq (wand .i64 y1.Rights 2) 0) (oN (zeD y4 a1 a2 y9) (some [(aH (zgg y4 a1 a2 y9))])) (some [(aH y4)])))))))))) (cond (ieq (wand .i64 a3 2) 0) (some [(aH a0)]) (oN (inb a1 (ln a0.Mons)) (oN (inb a2 (ln y0.Dirty)) (share (up a0.Mons a1 ({ y0 with Dirty:=(up y0.Dirty a2 true) }:Mon)) (fun x5=>let y10:=(ix x5 a1 zf).Outer;let y5:=({ a0 with Mons:=x5 }:Host);let y2:=(ix y10 a2 zJ);let y11:=({ y2 with Rights:=3 }:Slot); (oN (inb a1 (ln x5)) (oN (inb a2 (ln y10)) (cond (ieq (wand .i64 y2.Rights 2) 0) (oN (zeD y5 a1 a2 y11) (some [(aH (zgg y5 a1 a2 y11))])) (some [(aH y5)])))))))))))))
theorem zSE (N:Nat)(a0:Host)(a1 a2 a3:Int):zCv (cQ zpa zox zXu zTo) (zo []) N 12 102 [true,true,true,true,false,false,false] 1 1 [[0],[1],[2],[4],[7]] .mon [aH a0,aI a1,aI a2,aI a3]=zuQ N a0 a1 a2 a3:=by kernel_rfl
theorem zPL (a0:Host)(a1 a2 a3:Int)(hb:zbB big [aH a0,aI a1,aI a2,aI a3])(hc:zlF a0 a1 a2 a3=true):∃N,zuQ N a0 a1 a2 a3=some [aH (zmG a0 a1 a2 a3)]:=by
 obtain ⟨hf,hm,hp,hn,hs⟩:=zC.1 hc;obtain ⟨g1,g2⟩:=zcf hf.1 hm;have tail:∀r,Shape r->hasB a1 (ln r.Mons)=true->(cond (ieq (wand .i64 a3 2) 0) (some [(AV.agg (zbf r))]) (cond (inb a1 (ln r.Mons)) (cond (inb a2 (ln (ix r.Mons a1 zf).Dirty)) (share (up r.Mons a1 ({ (ix r.Mons a1 zf) with Dirty:=(up (ix r.Mons a1 zf).Dirty a2 true) }:Mon)) (fun x5=>(cond (inb a1 (ln x5)) (cond (inb a2 (ln (ix x5 a1 zf).Outer)) (cond (ieq (wand .i64 (ix (ix x5 a1 zf).Outer a2 zJ).Rights 2) 0) (cond (zeD ({ r with Mons:=x5 }:Host) a1 a2 ({ (ix (ix x5 a1 zf).Outer a2 zJ) with Rights:=3 }:Slot)) (some [(AV.agg (zbf (zgg ({ r with Mons:=x5 }:Host) a1 a2 ({ (ix (ix x5 a1 zf).Outer a2 zJ) with Rights:=3 }:Slot))))]) none) (some [(AV.agg (zbf ({ r with Mons:=x5 }:Host)))])) none) none))) none) none))=some [AV.agg (zbf (zit r a1 a2 a3))]:=by
  intro r hr hrm;obtain ⟨q1,q2⟩:=zcf hr hrm;have hD:=zlV (p:=a2) hr hrm;unfold zit;cases h0:ieq (wand .i64 a3 2) 0
  .obtain ⟨k,rfl,hk⟩:=zc9 (n:=r.Mons.length) hrm;have ex:ix (zbu r (k:Int) a2).Mons (k:Int) mZ={ ix r.Mons (k:Int) mZ with Dirty:=up (ix r.Mons (k:Int) mZ).Dirty a2 true }:=zc5 hk _ _;refine zc6 rfl (must (zB hrm) (must (zB (zda q2.2.2.1 hp)) (shr (must (zB (zd7 hrm)) (must ?_ ?_)))))
   .rw [zc5 hk];exact zB (zda q2.1 hp)
   .unfold opened
    show (cond (ieq (wand .i64 (ix (ix (zbu r (k:Int) a2).Mons (k:Int) mZ).Outer a2 sZ).Rights 2) 0) _ _)=_
    cases h1:ieq (wand .i64 (ix (ix (zbu r (k:Int) a2).Mons (k:Int) mZ).Outer a2 sZ).Rights 2) 0
    .rfl
    .refine must rfl (must (zbp ⟨(zM _).2 hD.1,zd7 hrm,?_,?_⟩) rfl)
     .show hasB a2 (ln (ix (zbu r (k:Int) a2).Mons (k:Int) mZ).Outer)=true
      rw[ex];exact zda q2.1 hp
     .show (ix (zbu r (k:Int) a2).Mons (k:Int) mZ).Tables.length<=(ix (zbu r (k:Int) a2).Mons (k:Int) mZ).Guests.length
      rw[ex];exact vD q2.2.2.2
  .rfl
 refine ⟨0,?_⟩;unfold zuQ zmG mended oN
 conv=>zeta
 refine must (zB hm) (must (zB (zda g2.1 hp)) (must rfl ?_));have e:(cond (ieq (ix (ix a0.Mons a1 mZ).Outer a2 sZ).Page zbq.Page) (ieq (ix (ix a0.Mons a1 mZ).Outer a2 sZ).Rights zbq.Rights) false)=ieq (ix (ix a0.Mons a1 mZ).Outer a2 sZ).Page (-1):=by
  rw[<- hs.no];unfold zcq zbq;cases ieq (ix (ix a0.Mons a1 mZ).Outer a2 sZ).Page noSlot.Page<;>rfl
 rw[e];cases h0:ieq (ix (ix a0.Mons a1 mZ).Outer a2 sZ).Page (-1)
 .exact tail a0 hf.1 hm
 .obtain ⟨h1,h2⟩:=ziV (p:=a2) hf hm hp;exact must rfl (must (zbp ⟨hf,hm,hp⟩) (tail _ h1 h2))
theorem zI5:zdF Tryz.prog 102 [true,true,true,true,false,false,false] (some (1,1,[[0],[1],[2],[4],[7]])) zqU:=by
 refine zko (kt:=.mon) (zcS zhn zu zMJ zCQ) (zef (by kernel_rfl)) (by kernel_rfl) ?_
 intro avs rs hl hr h;have hb:=zhH hr;unfold zqU at h;split at h
 .obtain ⟨hc,rfl⟩:=zdJ h;obtain ⟨N,hN⟩:=zPL _ _ _ _ (by exact hb) hc
  exact ⟨⟨_,rfl⟩,rfl,_,N,12,(zSE N _ _ _ _ ).trans hN⟩
 .cases h
@[simp] abbrev zRt (h:Host)(m p n:Int):Bool:=pc (zQz h m p n)
@[simp] abbrev zGl (h:Host)(m p n:Int):Host:=mended h m p n
def zu4:List CV->List AV->Option (Bool×List CV×List AV)
 | [.s (.sl .int) b,.s .mon c,.s .entry d,.s .entry e],[.one (.i .i64 f),.one (.i .i64 g),.one (.i .i64 h)]=>some ((zRt (⟨b,c,d,e⟩:Host) f g h),zbf (zGl (⟨b,c,d,e⟩:Host) f g h),[])
 | _,_=>none
def zFj (N:Nat)(c:Host)(a0 a1 a2:Int):OA:=
 let y3:=(ztP c a0 a1);let y6:=(ix y3.Mons a0 zf);let y2:=(ix c.Mons a0 zf); (oN (inb a0 (ln c.Mons)) (oN (inb a1 (ln y2.Outer)) (cond (ieq (ix y2.Outer a1 zJ).Page (-1)) (oN (zAS c a0 a1) (oN (zdy a2 2) (cond (nB (zdY a2 2)) (some [(aH y3)]) (oN (inb a0 (ln y3.Mons)) (oN (inb a1 (ln y6.Dirty)) (share (up y3.Mons a0 ({ y6 with Dirty:=(up y6.Dirty a1 true) }:Mon)) (fun x5=>let y4:=(ix x5 a0 zf);let y0:=(ix y4.Outer a1 zJ); (oN (inb a1 (ln y4.Outer)) (oN (zdy y0.Rights 2) (cond (nB (zdY y0.Rights 2)) (oN (inb a1 (ln y4.Outer)) (share (up x5 a0 ({ y4 with Outer:=(up y4.Outer a1 ({ y0 with Rights:=3 }:Slot)) }:Mon)) (fun x6=>let y7:=({ y3 with Mons:=x6 }:Host); (oN (zdR y7 a0 a1 y0) (some [(aH (zdS y7 a0 a1 y0))]))))) (some [(aH ({ y3 with Mons:=x5 }:Host))]))))))))))) (oN (zdy a2 2) (cond (nB (zdY a2 2)) (some [(aH c)]) (oN (inb a0 (ln c.Mons)) (oN (inb a1 (ln y2.Dirty)) (share (up c.Mons a0 ({ y2 with Dirty:=(up y2.Dirty a1 true) }:Mon)) (fun x5=>let y5:=(ix x5 a0 zf);let y1:=(ix y5.Outer a1 zJ); (oN (inb a1 (ln y5.Outer)) (oN (zdy y1.Rights 2) (cond (nB (zdY y1.Rights 2)) (oN (inb a1 (ln y5.Outer)) (share (up x5 a0 ({ y5 with Outer:=(up y5.Outer a1 ({ y1 with Rights:=3 }:Slot)) }:Mon)) (fun x6=>let y8:=({ c with Mons:=x6 }:Host); (oN (zdR y8 a0 a1 y1) (some [(aH (zdS y8 a0 a1 y1))]))))) (some [(aH ({ c with Mons:=x5 }:Host))])))))))))))))
theorem zZD (N:Nat)(c:Host)(a0 a1 a2:Int):zfZ (cQ zpa zox zXu zTo) (zo []) N 12 92 [true,true,true,true] (zbf c) [aI a0,aI a1,aI a2]=zFj N c a0 a1 a2:=by kernel_rfl
theorem zXe (c:Host)(a0 a1 a2:Int)(hb:zbB big (.agg (zbf c) :: [aI a0,aI a1,aI a2]))(hc:zRt c a0 a1 a2=true):∃N,zFj N c a0 a1 a2=some (.agg (zbf (zGl c a0 a1 a2)) :: []):=by
 obtain ⟨hf,hm,hp,hn,hs⟩:=zC.1 hc;obtain ⟨g1,g2⟩:=zcf hf.1 hm;have en:enough a2 2 = !ieq (wand .i64 a2 2) 0:=by rcases hn with rfl|rfl<;>rfl
 have tail:∀r,Shape r->hasB a0 (ln r.Mons)=true->enough (ix (ix r.Mons a0 mZ).Outer a1 sZ).Rights 2=(!ieq (wand .i64 (ix (ix r.Mons a0 mZ).Outer a1 sZ).Rights 2) 0)->(cond (zdy a2 2) (cond (cond (zdY a2 2) false true) (some [(AV.agg (zbf r))]) (cond (inb a0 (ln r.Mons)) (cond (inb a1 (ln (ix r.Mons a0 zf).Dirty)) (share (up r.Mons a0 ({ (ix r.Mons a0 zf) with Dirty:=(up (ix r.Mons a0 zf).Dirty a1 true) }:Mon)) (fun x5=>(cond (inb a1 (ln (ix x5 a0 zf).Outer)) (cond (zdy (ix (ix x5 a0 zf).Outer a1 zJ).Rights 2) (cond (cond (zdY (ix (ix x5 a0 zf).Outer a1 zJ).Rights 2) false true) (cond (inb a1 (ln (ix x5 a0 zf).Outer)) (share (up x5 a0 ({ (ix x5 a0 zf) with Outer:=(up (ix x5 a0 zf).Outer a1 ({ (ix (ix x5 a0 zf).Outer a1 zJ) with Rights:=3 }:Slot)) }:Mon)) (fun x6=>(cond (zdR ({ r with Mons:=x6 }:Host) a0 a1 (ix (ix x5 a0 zf).Outer a1 zJ)) (some [(AV.agg (zbf (zdS ({ r with Mons:=x6 }:Host) a0 a1 (ix (ix x5 a0 zf).Outer a1 zJ))))]) none))) none) (some [(AV.agg (zbf ({ r with Mons:=x5 }:Host)))])) none) none))) none) none)) none)=some [AV.agg (zbf (zit r a0 a1 a2))]:=by
  intro r hr hrm her;obtain ⟨q1,q2⟩:=zcf hr hrm;have hD:=zlV (p:=a1) hr hrm;unfold zit;simp only[zdy,zdY,en,cT];cases h0:ieq (wand .i64 a2 2) 0
  .obtain ⟨k,rfl,hk⟩:=zc9 (n:=r.Mons.length) hrm;have ex:ix (zbu r (k:Int) a1).Mons (k:Int) mZ={ ix r.Mons (k:Int) mZ with Dirty:=up (ix r.Mons (k:Int) mZ).Dirty a1 true }:=zc5 hk _ _;have hk':k<(zbu r (k:Int) a1).Mons.length:=by simpa [zbu] using hk
   have hi:inb a1 (ln (ix (zbu r (k:Int) a1).Mons (k:Int) mZ).Outer)=true:=by
    rw[ex];exact zB (zda q2.1 hp)
   refine zc6 rfl (must (zB hrm) (must (zB (zda q2.2.2.1 hp)) (shr (must hi ?_))));unfold opened
   show (cond (cond (enough (ix (ix (zbu r (k:Int) a1).Mons (k:Int) mZ).Outer a1 sZ).Rights 2) false true) _ _)=_
   have e2:(cond (enough (ix (ix (zbu r (k:Int) a1).Mons (k:Int) mZ).Outer a1 sZ).Rights 2) false true)=ieq (wand .i64 (ix (ix (zbu r (k:Int) a1).Mons (k:Int) mZ).Outer a1 sZ).Rights 2) 0:=by
    rw[ex]
    show (cond (enough (ix (ix r.Mons (k:Int) mZ).Outer a1 sZ).Rights 2) false true)=ieq (wand .i64 (ix (ix r.Mons (k:Int) mZ).Outer a1 sZ).Rights 2) 0
    rw[her];cases ieq (wand .i64 (ix (ix r.Mons (k:Int) mZ).Outer a1 sZ).Rights 2) 0<;>rfl
   rw[e2];cases h1:ieq (wand .i64 (ix (ix (zbu r (k:Int) a1).Mons (k:Int) mZ).Outer a1 sZ).Rights 2) 0
   .rfl
   .have hX:Shape { zbu r (k:Int) a1 with Mons:=up (zbu r (k:Int) a1).Mons (k:Int) { ix (zbu r (k:Int) a1).Mons (k:Int) mZ with Outer:=up (ix (zbu r (k:Int) a1).Mons (k:Int) mZ).Outer a1 ⟨(ix (ix (zbu r (k:Int) a1).Mons (k:Int) mZ).Outer a1 sZ).Page,3⟩ } }:=by
     obtain ⟨w1,w2⟩:=zcf hD (zd7 hrm);exact zhB hD ⟨by simpa using w1.1,w1.2⟩ ⟨by simpa using w2.1,w2.2⟩
    have hh:∀(x y:Mon),hasB (k:Int) (ln (up (up r.Mons (k:Int) x) (k:Int) y))=true:=fun x y=>by simpa [ln] using hrm
    refine must rfl (must hi (shr (must (zbp ⟨hX,hh _ _⟩) ?_)));exact congrArg (fun x=>some [AV.agg (zbf x)]) (zx6 (h:=zbu r (k:Int) a1) (p:=a1) (s:=⟨(ix (ix (zbu r (k:Int) a1).Mons (k:Int) mZ).Outer a1 sZ).Page,3⟩) hk' (by rw[ex];exact q2.2.2.2))
  .rfl
 refine ⟨0,?_⟩;unfold zFj zGl mended oN nB
 conv=>zeta
 refine must (zB hm) (must (zB (zda g2.1 hp)) ?_);cases h0:ieq (ix (ix c.Mons a0 mZ).Outer a1 sZ).Page (-1)
 .exact tail c hf.1 hm (z4H hs.lo hs.hi)
 .obtain ⟨h1,h2⟩:=ziV (p:=a1) hf hm hp;exact must rfl (must (zbp ⟨hf,hm,hp⟩) (tail _ h1 h2 (by rw[zRa hf hm hp];rfl)))
theorem zRn:zdm Tryz.prog 92 [true,true,true,true] zu4:=by
 refine zb4 (zcS zhn zu zMJ zCQ) (zef (by kernel_rfl)) ?_
 intro cs avs cs' rs hl hr h;have hb:=zcn hr;unfold zu4 at h;split at h
 .obtain ⟨hc,rfl,rfl⟩:=zcH h;obtain ⟨N,hN⟩:=zXe _ _ _ _ (by exact hb) hc
  exact ⟨rfl,_,N,12,(zZD N _ _ _ _ ).trans hN⟩
 .cases h
def zXE:zdw:=[(92,([true,true,true,true],zu4))]++zXu
theorem zb9:zcI zXE:=zdZ zMJ (by
 intro x hx;simp only[qH,qX,or_false]at hx;rcases hx with rfl
 .exact zRn)
def zX6:zfc:=[(102,([true,true,true,true,false,false,false],(some (1,1,[[0],[1],[2],[4],[7]])),zqU))]++zTo
theorem zMR:zd6 zX6:=zo1 zCQ (by
 intro x hx;simp only[qH,qX,or_false]at hx;rcases hx with rfl
 .exact zI5)
theorem zW6 {h:Host}(hh:zbJ h=true):h.Memory.length=12:=by
 unfold zbJ at hh;simp only[zcM]at hh;have h1:=hh.1;unfold zgL at h1;simp only[zcM]at h1;have:ln h.Memory=12:=qE h1.2;simp only[ln] at this;omega
theorem zf8 {h:Host}(hh:zbJ h=true):∀x∈h.Mons,zdD x=true:=by
 unfold zbJ at hh;simp only[zcM]at hh;exact zxq _ _ hh.2.2.2.2
theorem zGI {x:Mon}(hk:zdD x=true):ShM x:=by
 have ho:=zqu (zlo hk);unfold zdD at hk;simp only[zcM]at hk;have e1:ln x.Tables=ln x.Guests:=qE hk.2.1;have e2:ln x.Out=8:=qE hk.2.2.2.1;have e3:ln x.Dirty=8:=qE hk.2.2.2.2.1;simp only[ln] at *;exact ⟨by omega,by omega,by omega,by omega⟩
theorem zeJ {h:Host}(hs:SmH h)(hh:zbJ h=true):Fit h:=by
 refine ⟨⟨hs,fun x hx=>zGI (zf8 hh x hx)⟩,by rw[zW6 hh];decide,?_⟩
 unfold zbJ at hh;simp only[zcM]at hh;have:=zRs _ _ rfl hh.2.2.2.2;omega
theorem zrt {x:Mon}(hk:zdD x=true){p:Int}(hp:hasB p 8=true):SlotFit (ix x.Outer p sZ):=by
 have ht:=zlo hk;unfold zcw at ht;simp only[zcM]at ht;exact zXX (qM.1 ht.1 _ (zbr (zda (zGI hk).1 hp) _))
theorem zT5 {h:Host}{m p:Int}(hf:Fit h)(hm:hasB m (ln h.Mons)=true):Fit (zbu h m p):=by
 refine ⟨zlV hf.1 hm,hf.2.1,?_⟩;obtain ⟨k,rfl,hk⟩:=zc9 (n:=h.Mons.length) hm;have:=zTO h.Mons k (ix h.Mons (k:Int) mZ) { ix h.Mons (k:Int) mZ with Dirty:=up (ix h.Mons (k:Int) mZ).Dirty p true } (by rw[zZ hk];exact qB hk)
 have h3:=hf.2.2;unfold zbu;simp only[up,kW]
 dsimp only at this
 simp only[up] at this;omega
end
end Go.Proofs.YtdaahiceaagpdaaGreat.E
