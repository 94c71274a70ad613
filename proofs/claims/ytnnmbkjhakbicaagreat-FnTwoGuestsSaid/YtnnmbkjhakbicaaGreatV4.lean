/- What is proved here: a part of the proof that the statement of this claim holds (several texts of wip/, laid together). -/
import Derived.Test.YtnnmbkjhakbicaaGreatV3
namespace Go.Proofs.YtnnmbkjhakbicaaGreat.E
open Go
set_option linter.unusedVariables false
set_option maxRecDepth 100000
set_option linter.unusedSimpArgs false
set_option linter.unusedSectionVars false
noncomputable section
theorem must {ρ:Type}{c:Bool}{a b r:Option ρ}(h:c=true)(k:a=r):(cond c a b)=r:=by rw[h];exact k
theorem mu {ρ:Type}{c:Bool}{a b r:Option ρ}(k:a=r)(h:c=true:=by first|assumption|(simp_all<;>omega)):(cond c a b)=r:=must h k
theorem ze5 {ρ:Type}{c:Bool}{a b r:Option ρ}(h:c=false)(k:b=r):(cond c a b)=r:=by rw[h];exact k
theorem br {ρ:Type}{c:Bool}{a b r:Option ρ}(h1:c=true->a=r)(h2:c=false->b=r):(cond c a b)=r:=by
 cases c
 .exact h2 rfl
 .exact h1 rfl
theorem brN {ρ:Type}{c:Bool}{a b r:Option ρ}(h1:c=false->a=r)(h2:c=true->b=r):(cond (cond c false true) a b)=r:=by
 cases c
 .exact h1 rfl
 .exact h2 rfl
theorem shr {α ρ:Type}{x:α}{f:α->Option ρ}{r:Option ρ}(h:f x=r):share x f=r:=h
theorem zgd {ρ:Type}{c p:Bool}{a b:Option ρ}(hc:c=true):(cond c (cond (cond p false true) a b) none)=bif p then b else a:=by
 rw[hc];cases p<;>rfl
attribute [simp] zB
@[simp] theorem zSI {α:Type}(l:List α):(few (ln l)=true)↔l.length<=2147483648:=by
 unfold few ln;rw[decide_eq_true_iff];omega
@[simp] theorem zUV {α:Type}(l m:List α):(ap l m).length=l.length+m.length:=by simp[ap]
attribute [simp] ziy zkE
@[simp] theorem zRQ (n:Nat)(k:IntKind)(x:Int):CVB n (.i k x)↔True:=⟨fun _=>trivial,fun _=>.i k x⟩
@[simp] theorem zU3 (n:Nat)(x:Bool):CVB n (.b x)↔True:=⟨fun _=>trivial,fun _=>.b x⟩
theorem zhU {n:Nat}{t:Ty}(l:List t.den):CVB n (.s t l)↔l.length<=n/\∀x∈l,∀c∈t.cells x,CVB n c:=⟨fun h=>h.inv,fun h=>.s t l h.1 h.2⟩
@[simp] theorem zLu (n:Nat)(l:List Int):CVB n (.s .int l)↔l.length<=n:=by rw[zhU];simp[Ty.cells]
@[simp] theorem zTD (n:Nat)(l:List Int):CVB n (.s .u8 l)↔l.length<=n:=by rw[zhU];simp[Ty.cells]
@[simp] theorem zP4 (n:Nat)(l:List Bool):CVB n (.s .bool l)↔l.length<=n:=by rw[zhU];simp[Ty.cells]
@[simp] theorem zP6 (n:Nat)(l:List Slot):CVB n (.s .slot l)↔l.length<=n:=by rw[zhU];simp[Ty.cells]
@[simp] theorem zSy (n:Nat)(l:List Ins):CVB n (.s .ins l)↔l.length<=n:=by rw[zhU];simp[Ty.cells]
@[simp] theorem zOh (n:Nat)(l:List Entry):CVB n (.s .entry l)↔l.length<=n:=by rw[zhU];simp[Ty.cells]
@[simp] theorem zSx (n:Nat)(l:List GAct):CVB n (.s .act l)↔l.length<=n:=by rw[zhU];simp[Ty.cells]
@[simp] theorem zP7 (n:Nat)(l:List Told):CVB n (.s .told l)↔l.length<=n:=by rw[zhU];simp[Ty.cells]
def SmM (m:List (List Int)):Prop:=m.length<=1048576/\∀x∈m,x.length<=1048576
def SmG (g:Guest):Prop:=g.Prog.length<=1048576/\g.Written.length<=1048576/\g.Live.length<=1048576/\g.Seen.length<=1048576
def znX (l:List Guest):Prop:=l.length<=1048576/\∀x∈l,SmG x
def SmB (b:Bare):Prop:=SmM b.Memory/\znX b.Guests/\b.Outs.length<=1048576
def zL8 (l:List Bare):Prop:=l.length<=1048576/\∀x∈l,SmB x
theorem zQE:sm=1048576:=rfl
@[simp] theorem zMm (l:List Int):CVB sm (.s .int l)↔l.length<=1048576:=zLu sm l
@[simp] theorem zUy (l:List Int):CVB sm (.s .u8 l)↔l.length<=1048576:=zTD sm l
@[simp] theorem zKn (l:List Bool):CVB sm (.s .bool l)↔l.length<=1048576:=zP4 sm l
@[simp] theorem zKo (l:List Slot):CVB sm (.s .slot l)↔l.length<=1048576:=zP6 sm l
@[simp] theorem zUg (l:List Ins):CVB sm (.s .ins l)↔l.length<=1048576:=zSy sm l
@[simp] theorem zHy (l:List Entry):CVB sm (.s .entry l)↔l.length<=1048576:=zOh sm l
@[simp] theorem zUf (l:List GAct):CVB sm (.s .act l)↔l.length<=1048576:=zSx sm l
@[simp] theorem zT7 (l:List Told):CVB sm (.s .told l)↔l.length<=1048576:=zP7 sm l
@[simp] theorem znC (l:List (List Int)):CVB sm (.s (.sl .int) l)↔SmM l:=by rw[zhU];simp[Ty.cells,SmM,zQE]
@[simp] theorem zSl (g:Guest):(∀c∈Ty.cells .guest g,CVB sm c)↔SmG g:=by simp[Ty.cells,SmG,zQE]
@[simp] theorem zt1 (l:List Guest):CVB sm (.s .guest l)↔znX l:=by rw[zhU];simp only[zSl];rfl
@[simp] theorem zSk (b:Bare):(∀c∈Ty.cells .bare b,CVB sm c)↔SmB b:=by
 simp only[Ty.cells,qH,qU,or_false,uT,forall_eq,znC,zt1,zLu,zRQ,and_true];rfl
@[simp] theorem zUB (l:List Bare):CVB sm (.s .bare l)↔zL8 l:=by rw[zhU];simp only[zSk];rfl
@[simp] theorem zUY (a:List Ins)(b c:Int)(d e:List Slot)(f:Ctl)(g:Int)(h:GExit)(i:Bool)(j:List Int):SmG ⟨a,b,c,d,e,f,g,h,i,j⟩↔a.length<=1048576/\d.length<=1048576/\e.length<=1048576/\j.length<=1048576:=Iff.rfl
@[simp] theorem zUX (m:List (List Int))(g:List Guest)(o:List Int)(p:Int):SmB ⟨m,g,o,p⟩↔SmM m/\znX g/\o.length<=1048576:=Iff.rfl
theorem zB3 {m:List (List Int)}{i:Int}{x:List Int}(h:SmM m)(hx:x.length<=1048576):SmM (up m i x):=by
 refine ⟨by simpa using h.1,fun y hy=>?_⟩
 rcases jP hy with hy|rfl
 .exact h.2 y hy
 .exact hx
theorem zEp {m:List Guest}{i:Int}{x:Guest}(h:znX m)(hx:SmG x):znX (up m i x):=by
 refine ⟨by simpa using h.1,fun y hy=>?_⟩
 rcases jP hy with hy|rfl
 .exact h.2 y hy
 .exact hx
theorem zS9 {m:List Bare}{i:Int}{x:Bare}(h:zL8 m)(hx:SmB x):zL8 (up m i x):=by
 refine ⟨by simpa using h.1,fun y hy=>?_⟩
 rcases jP hy with hy|rfl
 .exact h.2 y hy
 .exact hx
theorem zJz {l:List Guest}{i:Int}(h:znX l)(hh:hasB i (ln l)=true)(d:Guest):SmG (ix l i d):=h.2 _ (zbJ hh d)
theorem zTZ {l:List (List Int)}{i:Int}(h:SmM l)(hh:hasB i (ln l)=true)(d:List Int):(ix l i d).length<=1048576:=h.2 _ (zbJ hh d)
@[simp] theorem zUs:SmG zC:=⟨by decide,by decide,by decide,by decide⟩
def win (x a b:Int):Bool:=ige x a&&ile x b
@[simp] theorem zSc (x a b:Int):zba x a b=win x a b:=rfl
@[simp] theorem zU4 (x a b:Int):zbn x a b=win x a b:=rfl
@[simp] theorem zHR (i n:Int):inb i n=hasB i n:=rfl
attribute [simp] zbA
@[simp] theorem zwi {α:Type}{l:List α}(h:l.length<=1048576)(i:Int):win i 0 (wsub .i64 (ln l) 1)=hasB i (ln l):=zuw (zcA h).1 i
theorem zKb {α:Type}{l:List α}(h:l.length<=big)(i:Int):win i 0 (wsub .i64 (ln l) 1)=hasB i (ln l):=zuw h i
theorem zdy {x a b:Int}:(win x a b=true)↔a<=x/\x<=b:=by
 unfold win ige ile;simp only[qD,decide_eq_true_iff]
theorem zSM (a b:Int):ilt a b = !ige a b:=by
 unfold ilt ige
 by_cases h:a<b
 .rw [qL h,qK (by omega)];rfl
 .rw [qK h,qL (by omega)];rfl
attribute [simp] zbo zbx zeB zey ze3 zeS ze4 zcF zgt zdR zkT zb5 zbQ
attribute [simp] zfz zfB zfR zct
attribute [simp] zgX zfQ zfj zcw
def zdr (a:Int):Int:=bif ilt a 0 then -1 else zEC .i64 a 4
def zg6 (a:Int):Int:=bif ilt a 0 then -1 else zjx a 4
@[simp] abbrev zd9 (a:Int):Bool:=true
@[simp] abbrev zcL (a:Int):Int:=zdr a
def zqN:Run:=rF1 dI fun b=>(zd9 b,[aI (zcL b)])
def ztq (N:Nat)(a0:Int):OA:=
 (cond (ilt a0 0) (some [(aI (-1))]) (oN (ine 4 0) (some [(aI (zEC .i64 a0 4))])))
theorem zDG (a0:Int)(hc:zd9 a0=true):∃N,ztq N a0=some [aI (zcL a0)]:=by
 refine ⟨0,?_⟩;unfold ztq oN;refine br (fun _=>?_) (fun _=>must rfl ?_)
 all_goals first|rfl|(simp only [*,zcL,zdr,cT,cF]<;>rfl)|simp_all[Ty.cells,zcL,zdr]
theorem zyr:uV 164 zqN:=kF1 zdb zq zl zn (zo []) zDG
@[simp] abbrev zd8 (a:Int):Bool:=true
@[simp] abbrev zdU (a:Int):Int:=zg6 a
def zqM:Run:=rF1 dI fun b=>(zd8 b,[aI (zdU b)])
def ztp (N:Nat)(a0:Int):OA:=
 (cond (ilt a0 0) (some [(aI (-1))]) (oN (ine 4 0) (some [(aI (zjx a0 4))])))
theorem zDF (a0:Int)(hc:zd8 a0=true):∃N,ztp N a0=some [aI (zdU a0)]:=by
 refine ⟨0,?_⟩;unfold ztp oN;refine br (fun _=>?_) (fun _=>must rfl ?_)
 all_goals first|rfl|(simp only [*,zdU,zg6,cT,cF]<;>rfl)|simp_all[Ty.cells,zdU,zg6]
theorem zyq:uV 169 zqM:=kF1 zdb zq zl zn (zo []) zDF
def zft (w:Bool):Int:=bif w then 2 else 1
@[simp] abbrev zj3 (w:Bool):Bool:=true
@[simp] abbrev zdg (w:Bool):Int:=zft w
def zuT:Run:=rF1 dB fun b=>(zj3 b,[aI (zdg b)])
def zzI (N:Nat)(a0:Bool):OA:=
 (cond a0 (some [(aI 2)]) (some [(aI 1)]))
theorem zIa (a0:Bool)(hc:zj3 a0=true):∃N,zzI N a0=some [aI (zdg a0)]:=by
 refine ⟨0,?_⟩;unfold zzI;refine br (fun _=>?_) (fun _=>?_)
 all_goals first|rfl|(simp only [*,zdg,zft,cT,cF]<;>rfl)|simp_all[Ty.cells,zdg,zft]
theorem zCR:uV 165 zuT:=kF1 zdb zq zl zn (zo []) zIa
def zt4 (p:Int)(w:Bool):GExit:=⟨1,p,w,0⟩
def zx5 (n:Int):GExit:=⟨2,0,false,n⟩
def zEe (n:Int):GExit:=⟨3,0,false,n⟩
@[simp] abbrev zgz (p:Int)(w:Bool):Bool:=true
@[simp] abbrev zfM (p:Int)(w:Bool):GExit:=zt4 p w
def zpg:Run:=rF2 dI dB fun b c=>(zgz b c,[.agg (zrz (zfM b c))])
def zsz (N:Nat)(a0:Int)(a1:Bool):OA:=
 (some [(.agg [(.i .i64 1),(.i .i64 a0),(.b a1),(.i .i64 0)])])
theorem zBl (a0:Int)(a1:Bool)(hc:zgz a0 a1=true):∃N,zsz N a0 a1=some [.agg (zrz (zfM a0 a1))]:=by
 refine ⟨0,?_⟩;unfold zsz
 first|rfl|(simp only [*,zfM,cT,cF]<;>rfl)|simp_all[Ty.cells,zfM]
theorem zwl:uV 167 zpg:=kF2 zdb zq zl zn (zo []) zBl
@[simp] abbrev zjX (n:Int):Bool:=true
@[simp] abbrev zge (n:Int):GExit:=zx5 n
def zqP:Run:=rF1 dI fun b=>(zjX b,[.agg (zrz (zge b))])
def ztt (N:Nat)(a0:Int):OA:=
 (some [(.agg [(.i .i64 2),(.i .i64 0),(.b false),(.i .i64 a0)])])
theorem zDJ (a0:Int)(hc:zjX a0=true):∃N,ztt N a0=some [.agg (zrz (zge a0))]:=by
 refine ⟨0,?_⟩;unfold ztt
 first|rfl|(simp only [*,zge,cT,cF]<;>rfl)|simp_all[Ty.cells,zge]
theorem zyt:uV 289 zqP:=kF1 zdb zq zl zn (zo []) zDJ
@[simp] abbrev zpP (n:Int):Bool:=true
@[simp] abbrev zjB (n:Int):GExit:=zEe n
def zsY:Run:=rF1 dI fun b=>(zpP b,[.agg (zrz (zjB b))])
def zwR (N:Nat)(a0:Int):OA:=
 (some [(.agg [(.i .i64 3),(.i .i64 0),(.b false),(.i .i64 a0)])])
theorem zF1 (a0:Int)(hc:zpP a0=true):∃N,zwR N a0=some [.agg (zrz (zjB a0))]:=by
 refine ⟨0,?_⟩;unfold zwR
 first|rfl|(simp only [*,zjB,cT,cF]<;>rfl)|simp_all[Ty.cells,zjB]
theorem zAR:uV 347 zsY:=kF1 zdb zq zl zn (zo []) zF1
def zcN (t x:Int):Bool:=bif win t 0 3 then (cond (win x 1 2) (ine (wand .i64 t x) 0) false) else false
theorem zSb (x:Int):win x 1 2=(ieq x 1||ieq x 2):=by
 have h:(win x 1 2=true)↔(ieq x 1||ieq x 2)=true:=by
  rw[zdy];simp only[ieq,jS,qI];omega
 cases h1:win x 1 2<;>cases h2:(ieq x 1||ieq x 2)<;>simp_all
@[simp] abbrev zgS (t x:Int):Bool:=true
@[simp] abbrev zf9 (t x:Int):Bool:=zcN t x
def zsX:Run:=rF2 dI dI fun b c=>(zgS b c,[aB (zf9 b c)])
def zwP (N:Nat)(a0 a1:Int):OA:=
 let y0:=(aB (ine (wand .i64 a0 a1) 0)); (oN (zbg a0 0 3) (cond (zbn a0 0 3) (cond (ieq a1 1) (some [y0]) (cond (ieq a1 2) (some [y0]) oF)) oF))
theorem zFZ (a0 a1:Int)(hc:zgS a0 a1=true):∃N,zwP N a0 a1=some [aB (zf9 a0 a1)]:=by
 refine ⟨0,?_⟩;unfold zwP oN
 conv=>zeta
 refine must rfl (br (fun _=>br (fun _=>?_) (fun _=>br (fun _=>?_) (fun _=>?_))) (fun _=>?_))
 all_goals first|rfl|(simp only [*,zf9,zcN,zSb,cT,cF]<;>rfl)|simp_all[Ty.cells,zf9,zcN,zSb]
theorem zAQ:uV 290 zsX:=kF2 zdb zq zl zn (zo []) zFZ
def zdK (p:Int):Bool:=win p 0 255
@[simp] abbrev zgs (p:Int):Bool:=true
@[simp] abbrev zgr (p:Int):Bool:=zdK p
def zvn:Run:=rF1 dI fun b=>(zgs b,[aB (zgr b)])
def zAb (N:Nat)(a0:Int):OA:=
 (oN (zT a0 0 255) (some [(aB (zba a0 0 255))]))
theorem zIG (a0:Int)(hc:zgs a0=true):∃N,zAb N a0=some [aB (zgr a0)]:=by
 refine ⟨0,?_⟩;unfold zAb oN;refine must rfl ?_
 first|rfl|(simp only [*,zgr,zdK,cT,cF]<;>rfl)|simp_all[Ty.cells,zgr,zdK]
theorem zDk:uV 314 zvn:=kF1 zdb zq zl zn (zo []) zIG
@[simp] abbrev zgi (p:Int):Bool:=true
@[simp] abbrev zgh (p:Int):Bool:=zdK p
def zuY:Run:=rF1 dI fun b=>(zgi b,[aB (zgh b)])
def zzM (N:Nat)(a0:Int):OA:=
 (oN (zbg a0 0 255) (some [(aB (zbn a0 0 255))]))
theorem zIf (a0:Int)(hc:zgi a0=true):∃N,zzM N a0=some [aB (zgh a0)]:=by
 refine ⟨0,?_⟩;unfold zzM oN;refine must rfl ?_
 first|rfl|(simp only [*,zgh,zdK,cT,cF]<;>rfl)|simp_all[Ty.cells,zgh,zdK]
theorem zCW:uV 296 zuY:=kF1 zdb zq zl zn (zo []) zIf
def zc8 (l:List Ins)(p:Int):Ins:=bif hasB p (ln l) then ix l p zCm else ⟨7,0⟩
@[simp] abbrev zea (l:List Ins)(p:Int):Bool:=true
@[simp] abbrev zek (l:List Ins)(p:Int):Ins:=zc8 l p
def zxx:Run:=rF2 (dS .ins) dI fun b c=>(zea b c,[aT .ins (zek b c)])
def zEG (N:Nat)(a0:lI)(a1:Int):OA:=
 (oN (zbs a1 (ln a0)) (cond (nB (zbA a1 (ln a0))) (some [(.agg [(.i .i64 7),(.i .i64 0)])]) (oN (inb a1 (ln a0)) (some [(.agg [(.i .i64 (ix a0 a1 zCm).Op),(.i .i64 (ix a0 a1 zCm).X)])]))))
theorem zKC (a0:List Ins)(a1:Int)(hc:zea a0 a1=true):∃N,zEG N a0 a1=some [aT .ins (zek a0 a1)]:=by
 refine ⟨0,?_⟩;unfold zEG oN nB;refine must rfl (brN (fun _=>?_) (fun _=>mu ?_))
 all_goals first|rfl|(simp only [*,zek,zc8,cT,cF]<;>rfl)|simp_all[Ty.cells,zek,zc8]
theorem zFE:uV 279 zxx:=kF2 zdb zq zl zn (zo []) zKC
def zew (w:Int):Int:=bif ieq w 5 then 1 else 2
@[simp] abbrev zke (w:Int):Bool:=true
@[simp] abbrev zeW (w:Int):Int:=zew w
def zvb:Run:=rF1 dI fun b=>(zke b,[aI (zeW b)])
def zzY (N:Nat)(a0:Int):OA:=
 (cond (ieq a0 5) (some [(aI 1)]) (some [(aI 2)]))
theorem zIr (a0:Int)(hc:zke a0=true):∃N,zzY N a0=some [aI (zeW a0)]:=by
 refine ⟨0,?_⟩;unfold zzY;refine br (fun _=>?_) (fun _=>?_)
 all_goals first|rfl|(simp only [*,zeW,zew,cT,cF]<;>rfl)|simp_all[Ty.cells,zeW,zew]
theorem zC8:uV 283 zvb:=kF1 zdb zq zl zn (zo []) zIr
def zdf (s:Slot)(n:Int):Bool:=bif zcq s noSlot then true else (cond (igt n 0) (cond (win s.Page 0 (wsub .i64 n 1)) (win s.Rights 1 3) false) false)
@[simp] abbrev zsk (s:Slot)(n:Int):Bool:=true
@[simp] abbrev zoI (s:Slot)(n:Int):Bool:=zdf s n
def zvs:Run:=rF2 (dT .slot) dI fun b c=>(zsk b c,[aB (zoI b c)])
def zAg (N:Nat)(a0:Slot)(a1:Int):OA:=
 (oN zb5 (cond (cond (ieq a0.Page zbo.Page) (ieq a0.Rights zbo.Rights) false) oT (oN (zT a0.Page 0 (wsub .i64 a1 1)) (cond (zba a0.Page 0 (wsub .i64 a1 1)) (cond (igt a1 0) (oN (zT a0.Rights 1 3) (some [(aB (zba a0.Rights 1 3))])) oF) oF))))
theorem zIL (a0:Slot)(a1:Int)(hc:zsk a0 a1=true):∃N,zAg N a0 a1=some [aB (zoI a0 a1)]:=by
 refine ⟨0,?_⟩;unfold zAg oN;refine must rfl (br (fun _=>?_) (fun _=>must rfl (br (fun _=>br (fun _=>must rfl ?_) (fun _=>?_)) (fun _=>?_))))
 all_goals first|rfl|(simp only [*,zoI,zdf,zcq,cT,cF]<;>rfl)|simp_all[Ty.cells,zoI,zdf,zcq]
theorem zDp:uV 224 zvs:=kF2 zdb zq zl zn (zo []) zIL
@[simp] abbrev znc (s:Slot)(n:Int):Bool:=true
@[simp] abbrev zkW (s:Slot)(n:Int):Bool:=zdf s n
def zu4:Run:=rF2 (dT .slot) dI fun b c=>(znc b c,[aB (zkW b c)])
def zzR (N:Nat)(a0:Slot)(a1:Int):OA:=
 (oN zbQ (cond (cond (ieq a0.Page zbx.Page) (ieq a0.Rights zbx.Rights) false) oT (cond (igt a1 0) (oN (zbg a0.Page 0 (wsub .i64 a1 1)) (cond (zbn a0.Page 0 (wsub .i64 a1 1)) (oN (zbg a0.Rights 1 3) (some [(aB (zbn a0.Rights 1 3))])) oF)) oF)))
theorem zIk (a0:Slot)(a1:Int)(hc:znc a0 a1=true):∃N,zzR N a0 a1=some [aB (zkW a0 a1)]:=by
 refine ⟨0,?_⟩;unfold zzR oN;refine must rfl (br (fun _=>?_) (fun _=>br (fun _=>must rfl (br (fun _=>must rfl ?_) (fun _=>?_))) (fun _=>?_)))
 all_goals first|rfl|(simp only [*,zkW,zdf,zcq,cT,cF]<;>rfl)|simp_all[Ty.cells,zkW,zdf,zcq]
theorem zC1:uV 149 zu4:=kF2 zdb zq zl zn (zo []) zIk
@[simp] abbrev zdE (l:List Slot):Bool:=pc (l.length<=2147483648)
@[simp] abbrev zcI (l:List Slot):List Slot:=l
def zpo:Run:=rF1 (dS .slot) fun b=>(zdE b,[aS .slot (zcI b)])
def zsI (N:Nat)(a0:lS):OA:=
 (oN (few (ln (ap [] a0))) (some [(aS .slot (ap [] a0))]))
theorem zBu (a0:List Slot)(hc:zdE a0=true):∃N,zsI N a0=some [aS .slot (zcI a0)]:=by
 have hs:=zB.1 hc;refine ⟨0,?_⟩;unfold zsI oN;refine mu ?_
 first|rfl|(simp only [*,zcI,cT,cF]<;>rfl)|simp_all[Ty.cells,zcI]
theorem zwu:uV 276 zpo:=kF1 zdb zq zl zn (zo []) zBu
@[simp] abbrev zok (l:List Ins):Bool:=pc (l.length<=2147483648)
@[simp] abbrev zkd (l:List Ins):List Ins:=l
def zq1:Run:=rF1 (dS .ins) fun b=>(zok b,[aS .ins (zkd b)])
def ztG (N:Nat)(a0:lI):OA:=
 (oN (few (ln (ap [] a0))) (some [(aS .ins (ap [] a0))]))
theorem zDX (a0:List Ins)(hc:zok a0=true):∃N,ztG N a0=some [aS .ins (zkd a0)]:=by
 have hs:=zB.1 hc;refine ⟨0,?_⟩;unfold ztG oN;refine mu ?_
 first|rfl|(simp only [*,zkd,cT,cF]<;>rfl)|simp_all[Ty.cells,zkd]
theorem zyF:uV 194 zq1:=kF1 zdb zq zl zn (zo []) zDX
def zf2 (m:List (List Int))(p c:Int):Bool:=bif hasB p (ln m) then hasB c (ln (ix m p [])) else false
def cellAt (m:List (List Int))(p c:Int):Int:=bif zf2 m p c then ix (ix m p []) c 0 else 0
def zfT (m:List (List Int))(p c v:Int):List (List Int):=bif zf2 m p c then (cond (win v 0 99) (up m p (up (ix m p []) c v)) m) else m
theorem zBD (m:List (List Int))(p c:Int):(zf2 m p c=true)↔hasB p (ln m)=true/\hasB c (ln (ix m p []))=true:=by
 unfold zf2;cases hasB p (ln m)<;>simp
theorem zTC {n:Nat}{m:List (List Int)}(h:CVB n (.s (.sl .int) m)):m.length<=n/\∀p:Int,hasB p (ln m)=true->(ix m p []).length<=n :=
 ⟨h.len,fun p hp=>(h.inv.2 _ (zbJ hp []) _ (qE.2 rfl)).len⟩
@[simp] abbrev zsm (m:List (List Int))(p c:Int):Bool:=true
@[simp] abbrev zoK (m:List (List Int))(p c:Int):Bool:=zf2 m p c
def zvu:Run:=rF3 (dS (.sl .int)) dI dI fun b c d=>(zsm b c d,[aB (zoK b c d)])
def zAi (N:Nat)(a0:lM)(a1 a2:Int):OA:=
 let y0:=(wsub .i64 (ln (ix a0 a1 [])) 1); (oN (zT a1 0 (wsub .i64 (ln a0) 1)) (cond (zba a1 0 (wsub .i64 (ln a0) 1)) (oN (inb a1 (ln a0)) (oN (zT a2 0 y0) (some [(aB (zba a2 0 y0))]))) oF))
theorem zIN (a0:List (List Int))(a1 a2:Int)(hb:zbq big [aS (.sl .int) a0,aI a1,aI a2])(hc:zsm a0 a1 a2=true):∃N,zAi N a0 a1 a2=some [aB (zoK a0 a1 a2)]:=by
 have hl:=zTC ((zbN hb).1 _ (qE.2 rfl));have hw:=zKb hl.1;have hw2:∀p i:Int,hasB p (ln a0)=true->win i 0 (wsub .i64 (ln (ix a0 p [])) 1)=hasB i (ln (ix a0 p [])):=fun p i h=>zKb (hl.2 p h) i
 refine ⟨0,?_⟩;unfold zAi oN
 conv=>zeta
 refine must rfl (br (fun _=>mu (must rfl ?_)) (fun _=>?_))
 all_goals first|rfl|(simp only [*,zoK,zf2,cT,cF]<;>rfl)|simp_all[Ty.cells,zoK,zf2]
theorem zDr:uV 179 zvu:=hF3 zdb zq zl zn (zo []) zIN
@[simp] abbrev zjY (m:List (List Int))(p c:Int):Bool:=true
@[simp] abbrev zje (m:List (List Int))(p c:Int):Int:=cellAt m p c
def zuK:Run:=rF3 (dS (.sl .int)) dI dI fun b c d=>(zjY b c d,[aI (zje b c d)])
def zzy (N:Nat)(a0:lM)(a1 a2:Int):OA:=
 let y0:=(ix a0 a1 []); (oN (zbs a1 (ln a0)) (cond (nB (zbA a1 (ln a0))) (some [(aI 0)]) (oN (inb a1 (ln a0)) (oN (zbs a2 (ln y0)) (cond (nB (zbA a2 (ln y0))) (some [(aI 0)]) (oN (inb a1 (ln a0)) (oN (inb a2 (ln y0)) (some [(aI (ix y0 a2 0))]))))))))
theorem zH1 (a0:List (List Int))(a1 a2:Int)(hc:zjY a0 a1 a2=true):∃N,zzy N a0 a1 a2=some [aI (zje a0 a1 a2)]:=by
 refine ⟨0,?_⟩;unfold zzy oN nB
 conv=>zeta
 refine must rfl (brN (fun _=>?_) (fun _=>mu (must rfl (brN (fun _=>?_) (fun _=>mu (mu ?_))))))
 all_goals first|rfl|(simp only [*,zje,cellAt,zf2,cT,cF]<;>rfl)|simp_all[Ty.cells,zje,cellAt,zf2]
theorem zCI:uV 172 zuK:=kF3 zdb zq zl zn (zo []) zH1
def zMk:zK:=[(277,zuJ),(164,zqN),(169,zqM),(165,zuT),(167,zpg),(289,zqP),(347,zsY),(290,zsX),(314,zvn),(296,zuY),(279,zxx),(283,zvb),(224,zvs),(149,zu4),(276,zpo),(194,zq1),(179,zvu),(172,zuK)]++zTx
theorem zdM:zy zMk:=zf zCH (zf zyr (zf zyq (zf zCR (zf zwl (zf zyt (zf zAR (zf zAQ (zf zDk (zf zCW (zf zFE (zf zC8 (zf zDp (zf zC1 (zf zwu (zf zyF (zf zDr (zf zCI zdb)))))))))))))))))
@[simp] abbrev zsc (m:List (List Int))(p c:Int):Bool:=true
@[simp] abbrev zoE (m:List (List Int))(p c:Int):Int:=cellAt m p c
def zoy:Run:=rF3 (dS (.sl .int)) dI dI fun b c d=>(zsc b c d,[aI (zoE b c d)])
def zz1 (N:Nat)(a0:lM)(a1 a2:Int):OA:=
 (oN (zsm a0 a1 a2) (cond (nB (zoK a0 a1 a2)) (some [(aI 0)]) (oN (inb a1 (ln a0)) (oN (inb a2 (ln (ix a0 a1 []))) (some [(aI (ix (ix a0 a1 []) a2 0))])))))
theorem zIu (a0:List (List Int))(a1 a2:Int)(hc:zsc a0 a1 a2=true):∃N,zz1 N a0 a1 a2=some [aI (zoE a0 a1 a2)]:=by
 have hm:=(zBD a0 a1 a2).1;refine ⟨0,?_⟩;unfold zz1 oN nB;refine must rfl (brN (fun _=>?_) (fun _=>mu (mu ?_)))
 all_goals first|rfl|(simp only [*,zoE,cellAt,cT,cF]<;>rfl)|simp_all[Ty.cells,zoE,cellAt]
theorem zqv:uV 73 zoy:=kF3 zdM zq zl zn (zo []) zIu
def zcf (t:List Slot)(n p:Int):Bool:=bif t.all (fun s=>zdf s p) then ieq (ln t) n else false
@[simp] abbrev ziP (t:List Slot)(n p:Int):Bool:=true
@[simp] abbrev zfx (t:List Slot)(n p:Int):Bool:=zcf t n p
def ztc:Run:=rF3 (dS .slot) dI dI fun b c d=>(ziP b c d,[aB (zfx b c d)])
def zw4 (N:Nat)(a0:lS)(a1 a2:Int):OA:=
 (iter (σ:=(Int×(Int×(Int×(lS×Unit))))) N (fun r4 s5=>let y0:=s5.2.2.2.1;let y1:=(ix y0 s5.2.2.1 zL); (cond (ilt s5.2.2.1 (ln y0)) (oN (inb s5.2.2.1 (ln y0)) (oN (zsk y1 s5.2.1) (cond (nB (zoI y1 s5.2.1)) oF (r4 (s5.1,(s5.2.1,((zG .i64 s5.2.2.1 1),(y0,())))))))) (some [(aB (ieq (ln y0) s5.1))]))) (a1,(a2,(0,(a0,())))))
def zGz:FuncId->Nat->Option Tmpl:=zo [(356,0,{ n:=25,tm:=[(0,.sl 0 []),(1,ti),(2,ti),(7,ti)],lo:=[],ro:=[(0,.slot,false)] })]
theorem zGf (a0:List Slot)(a1 a2:Int)(hb:zbq big [aS .slot a0,aI a1,aI a2])(hc:ziP a0 a1 a2=true):∃N,zw4 N a0 a1 a2=some [aB (zfx a0 a1 a2)]:=by
 have hl:(_:List _).length<=big:=((zbN hb).1 _ (qE.2 rfl)).len;refine zbK fun N hNN=>?_;unfold zw4 oN nB
 conv=>zeta
 refine (zQ a0 (fun i (t:Unit)=>(a1,a2,(i:Int),a0,())) _ (fun _ x (_:Unit) κ=>bif (fun s=>zdf s a2) x then κ () else oF) (fun (t:Unit)=>(some [(.one (.b (ieq (ln a0) a1)))])) (fun i hi t rec=>?_) (fun t rec=>?_) _ () (hNN hl)).trans ?_
 .simp only [zbl hi,zU hi,zZ hi,zN hi hl,cT];exact zgd rfl
 .simp only [zbe,cF]
 rw[zdO (fun s=>zdf s a2)];refine br (fun h0=>?_) (fun h0=>?_)
 .first|rfl|(simp only [h0,zfx,zcf,cT,cF]<;>rfl)|(simp_all [Ty.cells,zfx,zcf];done)
 .first|rfl|(simp only [h0,zfx,zcf,cT,cF]<;>rfl)|(simp_all [Ty.cells,zfx,zcf];done)
theorem zA2:uV 356 ztc:=hF3 zdM zq zl zn zGz zGf
@[simp] abbrev ziE (t:List Slot)(n p:Int):Bool:=true
@[simp] abbrev zfs (t:List Slot)(n p:Int):Bool:=zcf t n p
def zs5:Run:=rF3 (dS .slot) dI dI fun b c d=>(ziE b c d,[aB (zfs b c d)])
def zwV (N:Nat)(a0:lS)(a1 a2:Int):OA:=
 (iter (σ:=(Int×(Int×(Int×(Int×(lS×Unit)))))) N (fun r4 s5=>let y1:=s5.2.2.2.2.1;let y0:=(ix y1 s5.2.2.2.1 zL); (cond (ilt s5.2.2.2.1 s5.2.2.1) (oN (inb s5.2.2.2.1 (ln y1)) (oN (znc y0 s5.2.1) (cond (nB (zkW y0 s5.2.1)) oF (r4 (s5.1,(s5.2.1,(s5.2.2.1,((zG .i64 s5.2.2.2.1 1),(y1,()))))))))) (some [(aB (ieq (ln y1) s5.1))]))) (a1,(a2,((ln a0),(0,(a0,()))))))
def zGv:FuncId->Nat->Option Tmpl:=zo [(295,0,{ n:=24,tm:=[(0,.sl 0 []),(1,ti),(2,ti),(9,.sl 0 []),(10,ti),(11,ti)],lo:=[],ro:=[(0,.slot,false)] })]
theorem zF5 (a0:List Slot)(a1 a2:Int)(hb:zbq big [aS .slot a0,aI a1,aI a2])(hc:ziE a0 a1 a2=true):∃N,zwV N a0 a1 a2=some [aB (zfs a0 a1 a2)]:=by
 have hl:(_:List _).length<=big:=((zbN hb).1 _ (qE.2 rfl)).len;refine zbK fun N hNN=>?_;unfold zwV oN nB
 conv=>zeta
 refine (zQ a0 (fun i (t:Unit)=>(a1,a2,(ln a0),(i:Int),a0,())) _ (fun _ x (_:Unit) κ=>bif (fun s=>zdf s a2) x then κ () else oF) (fun (t:Unit)=>(some [(.one (.b (ieq (ln a0) a1)))])) (fun i hi t rec=>?_) (fun t rec=>?_) _ () (hNN hl)).trans ?_
 .simp only [zbl hi,zU hi,zZ hi,zN hi hl,cT];exact zgd rfl
 .simp only [zbe,cF]
 rw[zdO (fun s=>zdf s a2)];refine br (fun h0=>?_) (fun h0=>?_)
 .first|rfl|(simp only [h0,zfs,zcf,cT,cF]<;>rfl)|(simp_all [Ty.cells,zfs,zcf];done)
 .first|rfl|(simp only [h0,zfs,zcf,cT,cF]<;>rfl)|(simp_all [Ty.cells,zfs,zcf];done)
theorem zAV:uV 295 zs5:=hF3 zdM zq zl zn zGv zF5
def zb3 (c:List Int):Bool:=bif c.all (fun x=>win x 0 99) then ieq (ln c) 4 else false
@[simp] abbrev zd0 (c:List Int):Bool:=true
@[simp] abbrev zdx (c:List Int):Bool:=zb3 c
def zvm:Run:=rF1 (dS .int) fun b=>(zd0 b,[aB (zdx b)])
def zAa (N:Nat)(a0:List Int):OA:=
 (iter (σ:=(Int×((List Int)×Unit))) N (fun r2 s3=>(cond (ilt s3.1 (ln s3.2.1)) (oN (inb s3.1 (ln s3.2.1)) (oN (zT (ix s3.2.1 s3.1 0) 0 99) (cond (nB (zba (ix s3.2.1 s3.1 0) 0 99)) oF (r2 ((zG .i64 s3.1 1),(s3.2.1,())))))) (some [(aB (ieq (ln s3.2.1) 4))]))) (0,(a0,())))
def zJ0:FuncId->Nat->Option Tmpl:=zo [(358,0,{ n:=19,tm:=[(0,.sl 0 []),(3,ti)],lo:=[],ro:=[(0,.int,false)] })]
theorem zIF (a0:List Int)(hb:zbq big [aS .int a0])(hc:zd0 a0=true):∃N,zAa N a0=some [aB (zdx a0)]:=by
 have hl:(_:List _).length<=big:=((zbN hb).1 _ (qE.2 rfl)).len;refine zbK fun N hNN=>?_;unfold zAa oN nB;refine (zQ a0 (fun i (t:Unit)=>((i:Int),a0,())) _ (fun _ x (_:Unit) κ=>bif (fun x=>win x 0 99) x then κ () else oF) (fun (t:Unit)=>(some [(.one (.b (ieq (ln a0) 4)))])) (fun i hi t rec=>?_) (fun t rec=>?_) _ () (hNN hl)).trans ?_
 .simp only [zbl hi,zU hi,zZ hi,zN hi hl,cT];exact zgd rfl
 .simp only [zbe,cF]
 rw[zdO (fun x=>win x 0 99)];refine br (fun h0=>?_) (fun h0=>?_)
 .first|rfl|(simp only [h0,zdx,zb3,cT,cF]<;>rfl)|(simp_all [Ty.cells,zdx,zb3];done)
 .first|rfl|(simp only [h0,zdx,zb3,cT,cF]<;>rfl)|(simp_all [Ty.cells,zdx,zb3];done)
theorem zDj:uV 358 zvm:=hF1 zdM zq zl zn zJ0 zIF
@[simp] abbrev zfr (c:List Int):Bool:=true
@[simp] abbrev zer (c:List Int):Bool:=zb3 c
def zuX:Run:=rF1 (dS .int) fun b=>(zfr b,[aB (zer b)])
def zzL (N:Nat)(a0:List Int):OA:=
 (iter (σ:=(Int×(Int×((List Int)×Unit)))) N (fun r2 s3=>(cond (ilt s3.2.1 s3.1) (oN (inb s3.2.1 (ln s3.2.2.1)) (oN (zbg (ix s3.2.2.1 s3.2.1 0) 0 99) (cond (nB (zbn (ix s3.2.2.1 s3.2.1 0) 0 99)) oF (r2 (s3.1,((zG .i64 s3.2.1 1),(s3.2.2.1,()))))))) (some [(aB (ieq (ln s3.2.2.1) 4))]))) ((ln a0),(0,(a0,()))))
def zJR:FuncId->Nat->Option Tmpl:=zo [(294,0,{ n:=18,tm:=[(0,.sl 0 []),(5,.sl 0 []),(6,ti),(7,ti)],lo:=[],ro:=[(0,.int,false)] })]
theorem zIe (a0:List Int)(hb:zbq big [aS .int a0])(hc:zfr a0=true):∃N,zzL N a0=some [aB (zer a0)]:=by
 have hl:(_:List _).length<=big:=((zbN hb).1 _ (qE.2 rfl)).len;refine zbK fun N hNN=>?_;unfold zzL oN nB;refine (zQ a0 (fun i (t:Unit)=>((ln a0),(i:Int),a0,())) _ (fun _ x (_:Unit) κ=>bif (fun x=>win x 0 99) x then κ () else oF) (fun (t:Unit)=>(some [(.one (.b (ieq (ln a0) 4)))])) (fun i hi t rec=>?_) (fun t rec=>?_) _ () (hNN hl)).trans ?_
 .simp only [zbl hi,zU hi,zZ hi,zN hi hl,cT];exact zgd rfl
 .simp only [zbe,cF]
 rw[zdO (fun x=>win x 0 99)];refine br (fun h0=>?_) (fun h0=>?_)
 .first|rfl|(simp only [h0,zer,zb3,cT,cF]<;>rfl)|(simp_all [Ty.cells,zer,zb3];done)
 .first|rfl|(simp only [h0,zer,zb3,cT,cF]<;>rfl)|(simp_all [Ty.cells,zer,zb3];done)
theorem zCV:uV 294 zuX:=hF1 zdM zq zl zn zJR zIe
def zi1 (i:Ins):Bool:=bif (ieq i.Op 1||ieq i.Op 2||ieq i.Op 5||ieq i.Op 6) then win i.X 0 99 else (cond (ieq i.Op 3||ieq i.Op 4) (win i.X 0 15) (cond (ieq i.Op 7) (ieq i.X 0) (cond (ieq i.Op 8) (win i.X 0 11) false)))
@[simp] abbrev zvy (i:Ins):Bool:=true
@[simp] abbrev zrd (i:Ins):Bool:=zi1 i
def zxF:Run:=rF1 (dT .ins) fun b=>(zvy b,[aB (zrd b)])
def zEO (N:Nat)(a0:Ins):OA:=
 let y10:=(ieq a0.Op 4);let y9:=(zT a0.X 0 99);let y8:=(aB (zba a0.X 0 99));let y7:=(ieq a0.Op 8);let y6:=(ieq a0.Op 7);let y5:=(ieq a0.Op 3);let y4:=(zT a0.X 0 11);let y3:=(zT a0.X 0 15);let y2:=(aB (ieq a0.X 0));let y1:=(aB (zba a0.X 0 11));let y0:=(aB (zba a0.X 0 15)); (cond (ieq a0.Op 1) (cond (ieq a0.Op 1) (oN y9 (some [y8])) (cond y5 (cond y5 (oN y3 (some [y0])) (cond y6 (some [y2]) (cond y7 (oN y4 (some [y1])) oF))) (cond y10 (oN y3 (some [y0])) (cond y6 (some [y2]) (cond y7 (oN y4 (some [y1])) oF))))) (cond (ieq a0.Op 2) (cond (ieq a0.Op 2) (oN y9 (some [y8])) (cond y5 (cond y5 (oN y3 (some [y0])) (cond y6 (some [y2]) (cond y7 (oN y4 (some [y1])) oF))) (cond y10 (oN y3 (some [y0])) (cond y6 (some [y2]) (cond y7 (oN y4 (some [y1])) oF))))) (cond (ieq a0.Op 5) (cond (ieq a0.Op 5) (oN y9 (some [y8])) (cond y5 (cond y5 (oN y3 (some [y0])) (cond y6 (some [y2]) (cond y7 (oN y4 (some [y1])) oF))) (cond y10 (oN y3 (some [y0])) (cond y6 (some [y2]) (cond y7 (oN y4 (some [y1])) oF))))) (cond (ieq a0.Op 6) (oN y9 (some [y8])) (cond y5 (cond y5 (oN y3 (some [y0])) (cond y6 (some [y2]) (cond y7 (oN y4 (some [y1])) oF))) (cond y10 (oN y3 (some [y0])) (cond y6 (some [y2]) (cond y7 (oN y4 (some [y1])) oF))))))))
theorem zKL (a0:Ins)(hc:zvy a0=true):∃N,zEO N a0=some [aB (zrd a0)]:=by
 refine ⟨0,?_⟩;unfold zEO oN
 conv=>zeta
 refine br (fun _=>br (fun _=>must rfl ?_) (fun _=>br (fun _=>br (fun _=>must rfl ?_) (fun _=>br (fun _=>?_) (fun _=>br (fun _=>must rfl ?_) (fun _=>?_)))) (fun _=>br (fun _=>must rfl ?_) (fun _=>br (fun _=>?_) (fun _=>br (fun _=>must rfl ?_) (fun _=>?_)))))) (fun _=>br (fun _=>br (fun _=>must rfl ?_) (fun _=>br (fun _=>br (fun _=>must rfl ?_) (fun _=>br (fun _=>?_) (fun _=>br (fun _=>must rfl ?_) (fun _=>?_)))) (fun _=>br (fun _=>must rfl ?_) (fun _=>br (fun _=>?_) (fun _=>br (fun _=>must rfl ?_) (fun _=>?_)))))) (fun _=>br (fun _=>br (fun _=>must rfl ?_) (fun _=>br (fun _=>br (fun _=>must rfl ?_) (fun _=>br (fun _=>?_) (fun _=>br (fun _=>must rfl ?_) (fun _=>?_)))) (fun _=>br (fun _=>must rfl ?_) (fun _=>br (fun _=>?_) (fun _=>br (fun _=>must rfl ?_) (fun _=>?_)))))) (fun _=>br (fun _=>must rfl ?_) (fun _=>br (fun _=>br (fun _=>must rfl ?_) (fun _=>br (fun _=>?_) (fun _=>br (fun _=>must rfl ?_) (fun _=>?_)))) (fun _=>br (fun _=>must rfl ?_) (fun _=>br (fun _=>?_) (fun _=>br (fun _=>must rfl ?_) (fun _=>?_))))))))
 all_goals first|rfl|(simp only [*,zrd,zi1,cT,cF]<;>rfl)|simp_all[Ty.cells,zrd,zi1]
theorem zFN:uV 375 zxF:=kF1 zdM zq zl zn (zo []) zKL
@[simp] abbrev zun (i:Ins):Bool:=true
@[simp] abbrev zqA (i:Ins):Bool:=zi1 i
def zxy:Run:=rF1 (dT .ins) fun b=>(zun b,[aB (zqA b)])
def zEH (N:Nat)(a0:Ins):OA:=
 let y10:=(ieq a0.Op 4);let y9:=(zbg a0.X 0 99);let y8:=(aB (zbn a0.X 0 99));let y7:=(ieq a0.Op 8);let y6:=(ieq a0.Op 7);let y5:=(ieq a0.Op 3);let y4:=(zbg a0.X 0 11);let y3:=(zbg a0.X 0 15);let y2:=(aB (ieq a0.X 0));let y1:=(aB (zbn a0.X 0 11));let y0:=(aB (zbn a0.X 0 15)); (cond (ieq a0.Op 1) (cond (ieq a0.Op 1) (oN y9 (some [y8])) (cond y5 (cond y5 (oN y3 (some [y0])) (cond y6 (some [y2]) (cond y7 (oN y4 (some [y1])) oF))) (cond y10 (oN y3 (some [y0])) (cond y6 (some [y2]) (cond y7 (oN y4 (some [y1])) oF))))) (cond (ieq a0.Op 2) (cond (ieq a0.Op 2) (oN y9 (some [y8])) (cond y5 (cond y5 (oN y3 (some [y0])) (cond y6 (some [y2]) (cond y7 (oN y4 (some [y1])) oF))) (cond y10 (oN y3 (some [y0])) (cond y6 (some [y2]) (cond y7 (oN y4 (some [y1])) oF))))) (cond (ieq a0.Op 5) (cond (ieq a0.Op 5) (oN y9 (some [y8])) (cond y5 (cond y5 (oN y3 (some [y0])) (cond y6 (some [y2]) (cond y7 (oN y4 (some [y1])) oF))) (cond y10 (oN y3 (some [y0])) (cond y6 (some [y2]) (cond y7 (oN y4 (some [y1])) oF))))) (cond (ieq a0.Op 6) (oN y9 (some [y8])) (cond y5 (cond y5 (oN y3 (some [y0])) (cond y6 (some [y2]) (cond y7 (oN y4 (some [y1])) oF))) (cond y10 (oN y3 (some [y0])) (cond y6 (some [y2]) (cond y7 (oN y4 (some [y1])) oF))))))))
theorem zKD (a0:Ins)(hc:zun a0=true):∃N,zEH N a0=some [aB (zqA a0)]:=by
 refine ⟨0,?_⟩;unfold zEH oN
 conv=>zeta
 refine br (fun _=>br (fun _=>must rfl ?_) (fun _=>br (fun _=>br (fun _=>must rfl ?_) (fun _=>br (fun _=>?_) (fun _=>br (fun _=>must rfl ?_) (fun _=>?_)))) (fun _=>br (fun _=>must rfl ?_) (fun _=>br (fun _=>?_) (fun _=>br (fun _=>must rfl ?_) (fun _=>?_)))))) (fun _=>br (fun _=>br (fun _=>must rfl ?_) (fun _=>br (fun _=>br (fun _=>must rfl ?_) (fun _=>br (fun _=>?_) (fun _=>br (fun _=>must rfl ?_) (fun _=>?_)))) (fun _=>br (fun _=>must rfl ?_) (fun _=>br (fun _=>?_) (fun _=>br (fun _=>must rfl ?_) (fun _=>?_)))))) (fun _=>br (fun _=>br (fun _=>must rfl ?_) (fun _=>br (fun _=>br (fun _=>must rfl ?_) (fun _=>br (fun _=>?_) (fun _=>br (fun _=>must rfl ?_) (fun _=>?_)))) (fun _=>br (fun _=>must rfl ?_) (fun _=>br (fun _=>?_) (fun _=>br (fun _=>must rfl ?_) (fun _=>?_)))))) (fun _=>br (fun _=>must rfl ?_) (fun _=>br (fun _=>br (fun _=>must rfl ?_) (fun _=>br (fun _=>?_) (fun _=>br (fun _=>must rfl ?_) (fun _=>?_)))) (fun _=>br (fun _=>must rfl ?_) (fun _=>br (fun _=>?_) (fun _=>br (fun _=>must rfl ?_) (fun _=>?_))))))))
 all_goals first|rfl|(simp only [*,zqA,zi1,cT,cF]<;>rfl)|simp_all[Ty.cells,zqA,zi1]
theorem zFF:uV 372 zxy:=kF1 zdM zq zl zn (zo []) zKD
def zlR (e:GExit):Bool:=bif (ieq e.Kind 0||ieq e.Kind 4) then (ieq e.Page 0&&(!e.Write&&ieq e.N 0)) else (cond (ieq e.Kind 1) (win e.Page 0 3&&ieq e.N 0) (cond (ieq e.Kind 2||ieq e.Kind 3) (win e.N 0 99&&(ieq e.Page 0 && !e.Write)) false))
@[simp] theorem zUW (x:Bool):zml x false = !x:=by cases x<;>rfl
attribute [simp] zrY
@[simp] abbrev zsd (e:GExit):Bool:=true
@[simp] abbrev zoF (e:GExit):Bool:=zlR e
def zvf:Run:=rF1 dE fun b=>(zsd b,[aB (zoF b)])
def zz3 (N:Nat)(a0:GExit):OA:=
 let y5:=(zba a0.N 0 99);let y4:=(zT a0.N 0 99);let y3:=(ieq a0.Kind 2);let y2:=(ieq a0.Page 0);let y1:=(aB (nB a0.Write));let y0:=(aB (cond (ieq a0.Kind a0.Kind) (cond y2 (cond (zml a0.Write false) (ieq a0.N 0) false) false) false)); (cond (ieq a0.Kind 0) (cond (ieq a0.Kind 0) (some [y0]) (cond (ieq a0.Kind 1) (oN (zT a0.Page 0 3) (cond (zba a0.Page 0 3) (some [(aB (ieq a0.N 0))]) oF)) (cond y3 (cond y3 (oN y4 (cond y5 (cond y2 (some [y1]) oF) oF)) oF) (cond (ieq a0.Kind 3) (oN y4 (cond y5 (cond y2 (some [y1]) oF) oF)) oF)))) (cond (ieq a0.Kind 4) (some [y0]) (cond (ieq a0.Kind 1) (oN (zT a0.Page 0 3) (cond (zba a0.Page 0 3) (some [(aB (ieq a0.N 0))]) oF)) (cond y3 (cond y3 (oN y4 (cond y5 (cond y2 (some [y1]) oF) oF)) oF) (cond (ieq a0.Kind 3) (oN y4 (cond y5 (cond y2 (some [y1]) oF) oF)) oF)))))
theorem zIw (a0:GExit)(hc:zsd a0=true):∃N,zz3 N a0=some [aB (zoF a0)]:=by
 refine ⟨0,?_⟩;unfold zz3 oN nB
 conv=>zeta
 refine br (fun _=>br (fun _=>?_) (fun _=>br (fun _=>must rfl (br (fun _=>?_) (fun _=>?_))) (fun _=>br (fun _=>br (fun _=>must rfl (br (fun _=>br (fun _=>?_) (fun _=>?_)) (fun _=>?_))) (fun _=>?_)) (fun _=>br (fun _=>must rfl (br (fun _=>br (fun _=>?_) (fun _=>?_)) (fun _=>?_))) (fun _=>?_))))) (fun _=>br (fun _=>?_) (fun _=>br (fun _=>must rfl (br (fun _=>?_) (fun _=>?_))) (fun _=>br (fun _=>br (fun _=>must rfl (br (fun _=>br (fun _=>?_) (fun _=>?_)) (fun _=>?_))) (fun _=>?_)) (fun _=>br (fun _=>must rfl (br (fun _=>br (fun _=>?_) (fun _=>?_)) (fun _=>?_))) (fun _=>?_)))))
 all_goals first|rfl|(simp only [*,zoF,zlR,cT,cF]<;>rfl)|simp_all[Ty.cells,zoF,zlR]
theorem zDc:uV 357 zvf:=kF1 zdM zq zl zn (zo []) zIw
@[simp] abbrev zrM (e:GExit):Bool:=true
@[simp] abbrev zod (e:GExit):Bool:=zlR e
def zuM:Run:=rF1 dE fun b=>(zrM b,[aB (zod b)])
def zzB (N:Nat)(a0:GExit):OA:=
 let y5:=(zbn a0.N 0 99);let y4:=(zbg a0.N 0 99);let y3:=(ieq a0.Kind 2);let y2:=(aB (ieq a0.N 0));let y1:=(ieq a0.Page 0);let y0:=(aB (nB a0.Write)); (cond (ieq a0.Kind 0) (cond (ieq a0.Kind 0) (cond y1 (cond (nB a0.Write) (some [y2]) oF) oF) (cond (ieq a0.Kind 1) (oN (zbg a0.Page 0 3) (cond (zbn a0.Page 0 3) (some [y2]) oF)) (cond y3 (cond y3 (oN y4 (cond y5 (cond y1 (some [y0]) oF) oF)) oF) (cond (ieq a0.Kind 3) (oN y4 (cond y5 (cond y1 (some [y0]) oF) oF)) oF)))) (cond (ieq a0.Kind 4) (cond y1 (cond (nB a0.Write) (some [y2]) oF) oF) (cond (ieq a0.Kind 1) (oN (zbg a0.Page 0 3) (cond (zbn a0.Page 0 3) (some [y2]) oF)) (cond y3 (cond y3 (oN y4 (cond y5 (cond y1 (some [y0]) oF) oF)) oF) (cond (ieq a0.Kind 3) (oN y4 (cond y5 (cond y1 (some [y0]) oF) oF)) oF)))))
theorem zH3 (a0:GExit)(hc:zrM a0=true):∃N,zzB N a0=some [aB (zod a0)]:=by
 refine ⟨0,?_⟩;unfold zzB oN nB
 conv=>zeta
 refine br (fun _=>br (fun _=>br (fun _=>brN (fun _=>?_) (fun _=>?_)) (fun _=>?_)) (fun _=>br (fun _=>must rfl (br (fun _=>?_) (fun _=>?_))) (fun _=>br (fun _=>br (fun _=>must rfl (br (fun _=>br (fun _=>?_) (fun _=>?_)) (fun _=>?_))) (fun _=>?_)) (fun _=>br (fun _=>must rfl (br (fun _=>br (fun _=>?_) (fun _=>?_)) (fun _=>?_))) (fun _=>?_))))) (fun _=>br (fun _=>br (fun _=>brN (fun _=>?_) (fun _=>?_)) (fun _=>?_)) (fun _=>br (fun _=>must rfl (br (fun _=>?_) (fun _=>?_))) (fun _=>br (fun _=>br (fun _=>must rfl (br (fun _=>br (fun _=>?_) (fun _=>?_)) (fun _=>?_))) (fun _=>?_)) (fun _=>br (fun _=>must rfl (br (fun _=>br (fun _=>?_) (fun _=>?_)) (fun _=>?_))) (fun _=>?_)))))
 all_goals first|rfl|(simp only [*,zod,zlR,cT,cF]<;>rfl)|simp_all[Ty.cells,zod,zlR]
theorem zCK:uV 349 zuM:=kF1 zdM zq zl zn (zo []) zH3
def zhd (c:Ctl):List Int:=(cond (win c.Traps 0 3) [] [1])++((cond (win c.Post 0 255) [] [2])++((cond (ine c.Post 0) (cond c.Open [] [3]) [])++(cond (ieq c.Traps 2) (cond (ine c.Post 0) [4] []) [])))
@[simp] theorem zUT {α:Type}(x:α)(l m:List α):ap (x :: l) m=x :: ap l m:=rfl
@[simp] abbrev zmM (c:Ctl):Bool:=true
@[simp] abbrev ziO (c:Ctl):List Int:=zhd c
def zpq:Run:=rF1 dC fun b=>(zmM b,[aS .int (ziO b)])
def zsJ (N:Nat)(a0:Ctl):OA:=
 let y10:=(aS .int []);let y8:=(ap (ap [] [2]) [4]);let y7:=(ap (ap [] [1]) [4]);let y6:=(aS .int (ap [] [2]));let y5:=(aS .int (ap [] [1]));let y4:=(ap (ap [] [2]) [3]);let y3:=(ap (ap [] [1]) [3]);let y2:=(ieq a0.Traps 2);let y1:=(ine a0.Post 0);let y0:=(ap (ap [] [1]) [2]);let y9:=(aS .int y0); (oN (zT a0.Traps 0 3) (cond (nB (zba a0.Traps 0 3)) (oN (few (ln (ap [] [1]))) (oN (zT a0.Post 0 255) (cond (nB (zba a0.Post 0 255)) (oN (few (ln y0)) (cond y1 (cond (nB a0.Open) (oN (few (ln (ap y0 [3]))) (cond y2 (cond y1 (oN (few (ln (ap (ap y0 [3]) [4]))) (some [(aS .int (ap (ap y0 [3]) [4]))])) (some [(aS .int (ap y0 [3]))])) (some [(aS .int (ap y0 [3]))]))) (cond y2 (cond y1 (oN (few (ln (ap y0 [4]))) (some [(aS .int (ap y0 [4]))])) (some [y9])) (some [y9]))) (cond y2 (cond y1 (oN (few (ln (ap y0 [4]))) (some [(aS .int (ap y0 [4]))])) (some [y9])) (some [y9])))) (cond y1 (cond (nB a0.Open) (oN (few (ln y3)) (cond y2 (cond y1 (oN (few (ln (ap y3 [4]))) (some [(aS .int (ap y3 [4]))])) (some [(aS .int y3)])) (some [(aS .int y3)]))) (cond y2 (cond y1 (oN (few (ln y7)) (some [(aS .int y7)])) (some [y5])) (some [y5]))) (cond y2 (cond y1 (oN (few (ln y7)) (some [(aS .int y7)])) (some [y5])) (some [y5])))))) (oN (zT a0.Post 0 255) (cond (nB (zba a0.Post 0 255)) (oN (few (ln (ap [] [2]))) (cond y1 (cond (nB a0.Open) (oN (few (ln y4)) (cond y2 (cond y1 (oN (few (ln (ap y4 [4]))) (some [(aS .int (ap y4 [4]))])) (some [(aS .int y4)])) (some [(aS .int y4)]))) (cond y2 (cond y1 (oN (few (ln y8)) (some [(aS .int y8)])) (some [y6])) (some [y6]))) (cond y2 (cond y1 (oN (few (ln y8)) (some [(aS .int y8)])) (some [y6])) (some [y6])))) (cond y1 (cond (nB a0.Open) (oN (few (ln (ap [] [3]))) (cond y2 (cond y1 (oN (few (ln (ap (ap [] [3]) [4]))) (some [(aS .int (ap (ap [] [3]) [4]))])) (some [(aS .int (ap [] [3]))])) (some [(aS .int (ap [] [3]))]))) (cond y2 (cond y1 (oN (few (ln (ap [] [4]))) (some [(aS .int (ap [] [4]))])) (some [y10])) (some [y10]))) (cond y2 (cond y1 (oN (few (ln (ap [] [4]))) (some [(aS .int (ap [] [4]))])) (some [y10])) (some [y10])))))))
theorem zBw (a0:Ctl)(hc:zmM a0=true):∃N,zsJ N a0=some [aS .int (ziO a0)]:=by
 refine ⟨0,?_⟩;unfold zsJ oN nB
 conv=>zeta
 refine must rfl (brN (fun _=>mu (must rfl (brN (fun _=>mu (br (fun _=>brN (fun _=>mu (br (fun _=>br (fun _=>mu ?_) (fun _=>?_)) (fun _=>?_))) (fun _=>br (fun _=>br (fun _=>mu ?_) (fun _=>?_)) (fun _=>?_))) (fun _=>br (fun _=>br (fun _=>mu ?_) (fun _=>?_)) (fun _=>?_)))) (fun _=>br (fun _=>brN (fun _=>mu (br (fun _=>br (fun _=>mu ?_) (fun _=>?_)) (fun _=>?_))) (fun _=>br (fun _=>br (fun _=>mu ?_) (fun _=>?_)) (fun _=>?_))) (fun _=>br (fun _=>br (fun _=>mu ?_) (fun _=>?_)) (fun _=>?_)))))) (fun _=>must rfl (brN (fun _=>mu (br (fun _=>brN (fun _=>mu (br (fun _=>br (fun _=>mu ?_) (fun _=>?_)) (fun _=>?_))) (fun _=>br (fun _=>br (fun _=>mu ?_) (fun _=>?_)) (fun _=>?_))) (fun _=>br (fun _=>br (fun _=>mu ?_) (fun _=>?_)) (fun _=>?_)))) (fun _=>br (fun _=>brN (fun _=>mu (br (fun _=>br (fun _=>mu ?_) (fun _=>?_)) (fun _=>?_))) (fun _=>br (fun _=>br (fun _=>mu ?_) (fun _=>?_)) (fun _=>?_))) (fun _=>br (fun _=>br (fun _=>mu ?_) (fun _=>?_)) (fun _=>?_))))))
 all_goals first|rfl|(simp only [*,ziO,zhd,cT,cF]<;>rfl)|simp_all[Ty.cells,ziO,zhd]
theorem zww:uV 320 zpq:=kF1 zdM zq zl zn (zo []) zBw
@[simp] abbrev zmp (c:Ctl):Bool:=true
@[simp] abbrev ziB (c:Ctl):List Int:=zhd c
def zpf:Run:=rF1 dC fun b=>(zmp b,[aS .int (ziB b)])
def zsy (N:Nat)(a0:Ctl):OA:=
 let y10:=(aS .int []);let y8:=(ap (ap [] [2]) [4]);let y7:=(ap (ap [] [1]) [4]);let y6:=(aS .int (ap [] [2]));let y5:=(aS .int (ap [] [1]));let y4:=(ap (ap [] [2]) [3]);let y3:=(ap (ap [] [1]) [3]);let y2:=(ieq a0.Traps 2);let y1:=(ine a0.Post 0);let y0:=(ap (ap [] [1]) [2]);let y9:=(aS .int y0); (oN (zbg a0.Traps 0 3) (cond (nB (zbn a0.Traps 0 3)) (oN (few (ln (ap [] [1]))) (oN (zbg a0.Post 0 255) (cond (nB (zbn a0.Post 0 255)) (oN (few (ln y0)) (cond y1 (cond (nB a0.Open) (oN (few (ln (ap y0 [3]))) (cond y2 (cond y1 (oN (few (ln (ap (ap y0 [3]) [4]))) (some [(aS .int (ap (ap y0 [3]) [4]))])) (some [(aS .int (ap y0 [3]))])) (some [(aS .int (ap y0 [3]))]))) (cond y2 (cond y1 (oN (few (ln (ap y0 [4]))) (some [(aS .int (ap y0 [4]))])) (some [y9])) (some [y9]))) (cond y2 (cond y1 (oN (few (ln (ap y0 [4]))) (some [(aS .int (ap y0 [4]))])) (some [y9])) (some [y9])))) (cond y1 (cond (nB a0.Open) (oN (few (ln y3)) (cond y2 (cond y1 (oN (few (ln (ap y3 [4]))) (some [(aS .int (ap y3 [4]))])) (some [(aS .int y3)])) (some [(aS .int y3)]))) (cond y2 (cond y1 (oN (few (ln y7)) (some [(aS .int y7)])) (some [y5])) (some [y5]))) (cond y2 (cond y1 (oN (few (ln y7)) (some [(aS .int y7)])) (some [y5])) (some [y5])))))) (oN (zbg a0.Post 0 255) (cond (nB (zbn a0.Post 0 255)) (oN (few (ln (ap [] [2]))) (cond y1 (cond (nB a0.Open) (oN (few (ln y4)) (cond y2 (cond y1 (oN (few (ln (ap y4 [4]))) (some [(aS .int (ap y4 [4]))])) (some [(aS .int y4)])) (some [(aS .int y4)]))) (cond y2 (cond y1 (oN (few (ln y8)) (some [(aS .int y8)])) (some [y6])) (some [y6]))) (cond y2 (cond y1 (oN (few (ln y8)) (some [(aS .int y8)])) (some [y6])) (some [y6])))) (cond y1 (cond (nB a0.Open) (oN (few (ln (ap [] [3]))) (cond y2 (cond y1 (oN (few (ln (ap (ap [] [3]) [4]))) (some [(aS .int (ap (ap [] [3]) [4]))])) (some [(aS .int (ap [] [3]))])) (some [(aS .int (ap [] [3]))]))) (cond y2 (cond y1 (oN (few (ln (ap [] [4]))) (some [(aS .int (ap [] [4]))])) (some [y10])) (some [y10]))) (cond y2 (cond y1 (oN (few (ln (ap [] [4]))) (some [(aS .int (ap [] [4]))])) (some [y10])) (some [y10])))))))
theorem zBk (a0:Ctl)(hc:zmp a0=true):∃N,zsy N a0=some [aS .int (ziB a0)]:=by
 refine ⟨0,?_⟩;unfold zsy oN nB
 conv=>zeta
 refine must rfl (brN (fun _=>mu (must rfl (brN (fun _=>mu (br (fun _=>brN (fun _=>mu (br (fun _=>br (fun _=>mu ?_) (fun _=>?_)) (fun _=>?_))) (fun _=>br (fun _=>br (fun _=>mu ?_) (fun _=>?_)) (fun _=>?_))) (fun _=>br (fun _=>br (fun _=>mu ?_) (fun _=>?_)) (fun _=>?_)))) (fun _=>br (fun _=>brN (fun _=>mu (br (fun _=>br (fun _=>mu ?_) (fun _=>?_)) (fun _=>?_))) (fun _=>br (fun _=>br (fun _=>mu ?_) (fun _=>?_)) (fun _=>?_))) (fun _=>br (fun _=>br (fun _=>mu ?_) (fun _=>?_)) (fun _=>?_)))))) (fun _=>must rfl (brN (fun _=>mu (br (fun _=>brN (fun _=>mu (br (fun _=>br (fun _=>mu ?_) (fun _=>?_)) (fun _=>?_))) (fun _=>br (fun _=>br (fun _=>mu ?_) (fun _=>?_)) (fun _=>?_))) (fun _=>br (fun _=>br (fun _=>mu ?_) (fun _=>?_)) (fun _=>?_)))) (fun _=>br (fun _=>brN (fun _=>mu (br (fun _=>br (fun _=>mu ?_) (fun _=>?_)) (fun _=>?_))) (fun _=>br (fun _=>br (fun _=>mu ?_) (fun _=>?_)) (fun _=>?_))) (fun _=>br (fun _=>br (fun _=>mu ?_) (fun _=>?_)) (fun _=>?_))))))
 all_goals first|rfl|(simp only [*,ziB,zhd,cT,cF]<;>rfl)|simp_all[Ty.cells,ziB,zhd]
theorem zwk:uV 353 zpf:=kF1 zdM zq zl zn (zo []) zBk
def len8tab:ByteArray:=⟨⟨[0,1,2,2,3,3,3,3,4,4,4,4,4,4,4,4,5,5,5,5,5,5,5,5,5,5,5,5,5,5,5,5,6,6,6,6,6,6,6,6,6,6,6,6,6,6,6,6,6,6,6,6,6,6,6,6,6,6,6,6,6,6,6,6,7,7,7,7,7,7,7,7,7,7,7,7,7,7,7,7,7,7,7,7,7,7,7,7,7,7,7,7,7,7,7,7,7,7,7,7,7,7,7,7,7,7,7,7,7,7,7,7,7,7,7,7,7,7,7,7,7,7,7,7,7,7,7,7,8,8,8,8,8,8,8,8,8,8,8,8,8,8,8,8,8,8,8,8,8,8,8,8,8,8,8,8,8,8,8,8,8,8,8,8,8,8,8,8,8,8,8,8,8,8,8,8,8,8,8,8,8,8,8,8,8,8,8,8,8,8,8,8,8,8,8,8,8,8,8,8,8,8,8,8,8,8,8,8,8,8,8,8,8,8,8,8,8,8,8,8,8,8,8,8,8,8,8,8,8,8,8,8,8,8,8,8,8,8,8,8,8,8,8,8,8,8,8,8,8,8,8,8,8,8,8,8]⟩⟩
def ztV (p n:Int):Bool:=ieq (wand .i64 (ziv .i64 p n) 1) 1
def scan (p:Int):Int:=bif ztV p 7 then 7 else (cond (ztV p 6) 6 (cond (ztV p 5) 5 (cond (ztV p 4) 4 (cond (ztV p 3) 3 (cond (ztV p 2) 2 (cond (ztV p 1) 1 (cond (ztV p 0) 0 (-1))))))))
theorem zQz:∀n:Fin 256,zG .i64 0 (wcv .i64 (byteAt len8tab (wcv .u8 (n.val:Int))))=scan (n.val:Int)+1:=by decide +kernel
theorem zJv:∀n:Fin 256,-1<=scan (n.val:Int)/\scan (n.val:Int)<=7/\(0<=scan (n.val:Int)->wsub .i64 (n.val:Int) (zmS .i64 1 (scan (n.val:Int)))=zsu .i64 (n.val:Int) (zmS .i64 1 (scan (n.val:Int)))):=by decide +kernel
theorem zuE {P:Int->Prop}(h:∀n:Fin 256,P (n.val:Int)){x:Int}(h0:0<=x)(h1:x<=255):P x:=by
 have:=h ⟨x.toNat,by omega⟩
 have e:((x.toNat:Nat):Int)=x:=by omega
 simpa [e] using this
def ziw (x:Int):Bool:=pc (0<=x/\x<=255)
def zfG (x:Int):Int:=scan x+1
def ze6:List AV->Option (Bool×List AV)
 | [.one (.i .u64 b)]=>some ((ziw b),[aI (zfG b)])
 | _=>none
def zin (N:Nat)(a0:Int):OA:=
 let y2:=(ziv .u64 a0 16);let y0:=(ziv .u64 a0 32);let y1:=(ziv .u64 y0 16); (cond (ige a0 4294967296) (oN (ile 0 32) (cond (ige y0 65536) (oN (ile 0 16) (cond (ige y1 256) (oN (ile 0 8) (oN (inb (wcv .u8 (ziv .u64 y1 8)) 256) (some [(aI (zG .i64 (zG .i64 (zG .i64 32 16) 8) (wcv .i64 (byteAt len8tab (wcv .u8 (ziv .u64 y1 8))))))]))) (oN (inb (wcv .u8 y1) 256) (some [(aI (zG .i64 (zG .i64 32 16) (wcv .i64 (byteAt len8tab (wcv .u8 y1)))))])))) (cond (ige y0 256) (oN (ile 0 8) (oN (inb (wcv .u8 (ziv .u64 y0 8)) 256) (some [(aI (zG .i64 (zG .i64 32 8) (wcv .i64 (byteAt len8tab (wcv .u8 (ziv .u64 y0 8))))))]))) (oN (inb (wcv .u8 y0) 256) (some [(aI (zG .i64 32 (wcv .i64 (byteAt len8tab (wcv .u8 y0)))))]))))) (cond (ige a0 65536) (oN (ile 0 16) (cond (ige y2 256) (oN (ile 0 8) (oN (inb (wcv .u8 (ziv .u64 y2 8)) 256) (some [(aI (zG .i64 (zG .i64 (zG .i64 0 16) 8) (wcv .i64 (byteAt len8tab (wcv .u8 (ziv .u64 y2 8))))))]))) (oN (inb (wcv .u8 y2) 256) (some [(aI (zG .i64 (zG .i64 0 16) (wcv .i64 (byteAt len8tab (wcv .u8 y2)))))])))) (cond (ige a0 256) (oN (ile 0 8) (oN (inb (wcv .u8 (ziv .u64 a0 8)) 256) (some [(aI (zG .i64 (zG .i64 0 8) (wcv .i64 (byteAt len8tab (wcv .u8 (ziv .u64 a0 8))))))]))) (oN (inb (wcv .u8 a0) 256) (some [(aI (zG .i64 0 (wcv .i64 (byteAt len8tab (wcv .u8 a0)))))])))))
theorem zuD (N:Nat)(a0:Int):evalFn (cQ zMk zkg zzb zg0) (zo []) N 12 371 [.one (.i .u64 a0)]=zin N a0:=by kernel_rfl
theorem ztn (a0:Int)(hb:zbq big [.one (.i .u64 a0)])(hc:ziw a0=true):∃N,zin N a0=some [aI (zfG a0)]:=by
 obtain ⟨h0,h1⟩:=zB.1 hc;refine ⟨0,?_⟩;unfold zin oN
 conv=>zeta
 refine ze5 (qK (by omega)) ?_
 refine ze5 (qK (by omega)) ?_
 refine ze5 (qK (by omega)) ?_
 have e:inb (wcv .u8 a0) 256=true:=zuE (P:=fun x=>inb (wcv .u8 x) 256=true) (by decide +kernel) h0 h1
 refine must e ?_;have e2:=zuE (P:=fun x=>zG .i64 0 (wcv .i64 (byteAt len8tab (wcv .u8 x)))=scan x+1) zQz h0 h1;rw[e2];rfl
theorem zjA:uV 371 ze6:=zHK zdM zq zl zn (zcO (by kernel_rfl)) fun avs rs hb h=>by
 unfold ze6 at h;split at h
 .obtain ⟨hc,rfl⟩:=zhI h;exact (ztn _ hb hc).elim fun N e=>⟨zo [],N,(zuD N _).trans e⟩
 .cases h
def zRv:zK:=[(73,zoy),(356,ztc),(295,zs5),(358,zvm),(294,zuX),(375,zxF),(372,zxy),(357,zvf),(349,zuM),(320,zpq),(353,zpf),(371,ze6)]++zMk
theorem zeo:zy zRv:=zf zqv (zf zA2 (zf zAV (zf zDj (zf zCV (zf zFN (zf zFF (zf zDc (zf zCK (zf zww (zf zwk (zf zjA zdM)))))))))))
def zgn (m:List (List Int))(n:Int):Bool:=bif m.all zb3 then ieq (ln m) n else false
@[simp] abbrev zvz (m:List (List Int))(n:Int):Bool:=true
@[simp] abbrev zlb (m:List (List Int))(n:Int):Bool:=zgn m n
def zxG:Run:=rF2 (dS (.sl .int)) dI fun b c=>(zvz b c,[aB (zlb b c)])
def zEP (N:Nat)(a0:lM)(a1:Int):OA:=
 (iter (σ:=(Int×(Int×(lM×Unit)))) N (fun r3 s4=>let y0:=s4.2.2.1; (cond (ilt s4.2.1 (ln y0)) (oN (inb s4.2.1 (ln y0)) (oN (zd0 (ix y0 s4.2.1 [])) (cond (nB (zdx (ix y0 s4.2.1 []))) oF (r3 (s4.1,((zG .i64 s4.2.1 1),(y0,()))))))) (some [(aB (ieq (ln y0) s4.1))]))) (a1,(0,(a0,()))))
def zLi:FuncId->Nat->Option Tmpl:=zo [(313,0,{ n:=22,tm:=[(0,.sl 0 []),(1,ti),(5,ti)],lo:=[],ro:=[(0,(.sl .int),false)] })]
theorem zKM (a0:List (List Int))(a1:Int)(hb:zbq big [aS (.sl .int) a0,aI a1])(hc:zvz a0 a1=true):∃N,zEP N a0 a1=some [aB (zlb a0 a1)]:=by
 have hl:(_:List _).length<=big:=((zbN hb).1 _ (qE.2 rfl)).len;refine zbK fun N hNN=>?_;unfold zEP oN nB
 conv=>zeta
 refine (zQ a0 (fun i (t:Unit)=>(a1,(i:Int),a0,())) _ (fun _ x (_:Unit) κ=>bif (zb3) x then κ () else oF) (fun (t:Unit)=>(some [(.one (.b (ieq (ln a0) a1)))])) (fun i hi t rec=>?_) (fun t rec=>?_) _ () (hNN hl)).trans ?_
 .simp only [zbl hi,zU hi,zZ hi,zN hi hl,cT];exact zgd rfl
 .simp only [zbe,cF]
 rw[zdO (zb3)];refine br (fun h0=>?_) (fun h0=>?_)
 .first|rfl|(simp only [h0,zlb,zgn,cT,cF]<;>rfl)|(simp_all [Ty.cells,zlb,zgn];done)
 .first|rfl|(simp only [h0,zlb,zgn,cT,cF]<;>rfl)|(simp_all [Ty.cells,zlb,zgn];done)
theorem zFO:uV 313 zxG:=hF2 zeo zq zl zn zLi zKM
@[simp] abbrev zlU (m:List (List Int))(n:Int):Bool:=true
@[simp] abbrev zh2 (m:List (List Int))(n:Int):Bool:=zgn m n
def zxz:Run:=rF2 (dS (.sl .int)) dI fun b c=>(zlU b c,[aB (zh2 b c)])
def zEI (N:Nat)(a0:lM)(a1:Int):OA:=
 (iter (σ:=(Int×(Int×(Int×(lM×Unit))))) N (fun r3 s4=>let y0:=s4.2.2.2.1; (cond (ilt s4.2.2.1 s4.2.1) (oN (inb s4.2.2.1 (ln y0)) (oN (zfr (ix y0 s4.2.2.1 [])) (cond (nB (zer (ix y0 s4.2.2.1 []))) oF (r3 (s4.1,(s4.2.1,((zG .i64 s4.2.2.1 1),(y0,())))))))) (some [(aB (ieq (ln y0) s4.1))]))) (a1,((ln a0),(0,(a0,())))))
def zLg:FuncId->Nat->Option Tmpl:=zo [(180,0,{ n:=21,tm:=[(0,.sl 0 []),(1,ti),(7,.sl 0 []),(8,ti),(9,ti)],lo:=[],ro:=[(0,(.sl .int),false)] })]
theorem zKE (a0:List (List Int))(a1:Int)(hb:zbq big [aS (.sl .int) a0,aI a1])(hc:zlU a0 a1=true):∃N,zEI N a0 a1=some [aB (zh2 a0 a1)]:=by
 have hl:(_:List _).length<=big:=((zbN hb).1 _ (qE.2 rfl)).len;refine zbK fun N hNN=>?_;unfold zEI oN nB
 conv=>zeta
 refine (zQ a0 (fun i (t:Unit)=>(a1,(ln a0),(i:Int),a0,())) _ (fun _ x (_:Unit) κ=>bif (zb3) x then κ () else oF) (fun (t:Unit)=>(some [(.one (.b (ieq (ln a0) a1)))])) (fun i hi t rec=>?_) (fun t rec=>?_) _ () (hNN hl)).trans ?_
 .simp only [zbl hi,zU hi,zZ hi,zN hi hl,cT];exact zgd rfl
 .simp only [zbe,cF]
 rw[zdO (zb3)];refine br (fun h0=>?_) (fun h0=>?_)
 .first|rfl|(simp only [h0,zh2,zgn,cT,cF]<;>rfl)|(simp_all [Ty.cells,zh2,zgn];done)
 .first|rfl|(simp only [h0,zh2,zgn,cT,cF]<;>rfl)|(simp_all [Ty.cells,zh2,zgn];done)
theorem zFG:uV 180 zxz:=hF2 zeo zq zl zn zLg zKE
def ze2 (p:List Ins):Bool:=bif p.all zi1 then win (ln p) 1 12 else false
@[simp] abbrev zsg (p:List Ins):Bool:=true
@[simp] abbrev zjq (p:List Ins):Bool:=ze2 p
def zvo:Run:=rF1 (dS .ins) fun b=>(zsg b,[aB (zjq b)])
def zAc (N:Nat)(a0:lI):OA:=
 (iter (σ:=(Int×(lI×Unit))) N (fun r2 s3=>let y0:=(ix s3.2.1 s3.1 zCm); (cond (ilt s3.1 (ln s3.2.1)) (oN (inb s3.1 (ln s3.2.1)) (oN (zvy y0) (cond (nB (zrd y0)) oF (r2 ((zG .i64 s3.1 1),(s3.2.1,())))))) (oN (zT (ln s3.2.1) 1 12) (some [(aB (zba (ln s3.2.1) 1 12))])))) (0,(a0,())))
def zJ1:FuncId->Nat->Option Tmpl:=zo [(355,0,{ n:=19,tm:=[(0,.sl 0 []),(3,ti)],lo:=[],ro:=[(0,.ins,false)] })]
theorem zIH (a0:List Ins)(hb:zbq big [aS .ins a0])(hc:zsg a0=true):∃N,zAc N a0=some [aB (zjq a0)]:=by
 have hl:(_:List _).length<=big:=((zbN hb).1 _ (qE.2 rfl)).len;refine zbK fun N hNN=>?_;unfold zAc oN nB
 conv=>zeta
 refine (zQ a0 (fun i (t:Unit)=>((i:Int),a0,())) _ (fun _ x (_:Unit) κ=>bif (zi1) x then κ () else oF) (fun (t:Unit)=>(cond (zT (ln a0) 1 12) (some [(.one (.b (zba (ln a0) 1 12)))]) none)) (fun i hi t rec=>?_) (fun t rec=>?_) _ () (hNN hl)).trans ?_
 .simp only [zbl hi,zU hi,zZ hi,zN hi hl,cT];exact zgd rfl
 .simp only [zbe,cF]
 rw[zdO (zi1)];refine br (fun h0=>?_) (fun h0=>?_)
 .refine must rfl ?_
  first|rfl|(simp only [h0,zjq,ze2,cT,cF]<;>rfl)|(simp_all [Ty.cells,zjq,ze2];done)
 .first|rfl|(simp only [h0,zjq,ze2,cT,cF]<;>rfl)|(simp_all [Ty.cells,zjq,ze2];done)
theorem zDl:uV 355 zvo:=hF1 zeo zq zl zn zJ1 zIH
@[simp] abbrev zrR (p:List Ins):Bool:=true
@[simp] abbrev zji (p:List Ins):Bool:=ze2 p
def zuZ:Run:=rF1 (dS .ins) fun b=>(zrR b,[aB (zji b)])
def zzN (N:Nat)(a0:lI):OA:=
 (iter (σ:=(Int×(Int×(lI×Unit)))) N (fun r2 s3=>let y0:=(ix s3.2.2.1 s3.2.1 zCm); (cond (ilt s3.2.1 s3.1) (oN (inb s3.2.1 (ln s3.2.2.1)) (oN (zun y0) (cond (nB (zqA y0)) oF (r2 (s3.1,((zG .i64 s3.2.1 1),(s3.2.2.1,()))))))) (oN (zbg (ln s3.2.2.1) 1 12) (some [(aB (zbn (ln s3.2.2.1) 1 12))])))) ((ln a0),(0,(a0,()))))
def zJS:FuncId->Nat->Option Tmpl:=zo [(348,0,{ n:=18,tm:=[(0,.sl 0 []),(5,.sl 0 []),(6,ti),(7,ti)],lo:=[],ro:=[(0,.ins,false)] })]
theorem zIg (a0:List Ins)(hb:zbq big [aS .ins a0])(hc:zrR a0=true):∃N,zzN N a0=some [aB (zji a0)]:=by
 have hl:(_:List _).length<=big:=((zbN hb).1 _ (qE.2 rfl)).len;refine zbK fun N hNN=>?_;unfold zzN oN nB
 conv=>zeta
 refine (zQ a0 (fun i (t:Unit)=>((ln a0),(i:Int),a0,())) _ (fun _ x (_:Unit) κ=>bif (zi1) x then κ () else oF) (fun (t:Unit)=>(cond (zbg (ln a0) 1 12) (some [(.one (.b (zbn (ln a0) 1 12)))]) none)) (fun i hi t rec=>?_) (fun t rec=>?_) _ () (hNN hl)).trans ?_
 .simp only [zbl hi,zU hi,zZ hi,zN hi hl,cT];exact zgd rfl
 .simp only [zbe,cF]
 rw[zdO (zi1)];refine br (fun h0=>?_) (fun h0=>?_)
 .refine must rfl ?_
  first|rfl|(simp only [h0,zji,ze2,cT,cF]<;>rfl)|(simp_all [Ty.cells,zji,ze2];done)
 .first|rfl|(simp only [h0,zji,ze2,cT,cF]<;>rfl)|(simp_all [Ty.cells,zji,ze2];done)
theorem zCX:uV 348 zuZ:=hF1 zeo zq zl zn zJS zIg
def zoZ (c:Ctl):Bool:=ieq (ln (zhd c)) 0
@[simp] abbrev zvx (c:Ctl):Bool:=true
@[simp] abbrev zq9 (c:Ctl):Bool:=zoZ c
def zxE:Run:=rF1 dC fun b=>(zvx b,[aB (zq9 b)])
def zEN (N:Nat)(a0:Ctl):OA:=
 (oN (zmM a0) (some [(aB (ieq (ln (ziO a0)) 0))]))
theorem zKK (a0:Ctl)(hc:zvx a0=true):∃N,zEN N a0=some [aB (zq9 a0)]:=by
 refine ⟨0,?_⟩;unfold zEN oN;refine must rfl ?_
 first|rfl|(simp only [*,zq9,zoZ,cT,cF]<;>rfl)|simp_all[Ty.cells,zq9,zoZ]
theorem zFM:uV 229 zxE:=kF1 zeo zq zl zn (zo []) zKK
@[simp] abbrev zum (c:Ctl):Bool:=true
@[simp] abbrev zqz (c:Ctl):Bool:=zoZ c
def zxw:Run:=rF1 dC fun b=>(zum b,[aB (zqz b)])
def zEF (N:Nat)(a0:Ctl):OA:=
 (oN (zmp a0) (some [(aB (ieq (ln (ziB a0)) 0))]))
theorem zKB (a0:Ctl)(hc:zum a0=true):∃N,zEF N a0=some [aB (zqz a0)]:=by
 refine ⟨0,?_⟩;unfold zEF oN;refine must rfl ?_
 first|rfl|(simp only [*,zqz,zoZ,cT,cF]<;>rfl)|simp_all[Ty.cells,zqz,zoZ]
theorem zFD:uV 305 zxw:=kF1 zeo zq zl zn (zo []) zKB
def zev (p:Int):Int:=bif zdK p then scan p else -1
theorem zL4 {x:Int}(h0:0<=x)(h1:x<=255):wcv .u64 x=x:=zuE (P:=fun x=>wcv .u64 x=x) (by decide +kernel) h0 h1
@[simp] abbrev zne (p:Int):Bool:=true
@[simp] abbrev zjj (p:Int):Int:=zev p
def zu7:Run:=rF1 dI fun b=>(zne b,[aI (zjj b)])
def zzU (N:Nat)(a0:Int):OA:=
 (oN (zgi a0) (cond (nB (zgh a0)) (some [(aI (-1))]) (oN (ziw (wcv .u64 a0)) (some [(aI (wsub .i64 (zfG (wcv .u64 a0)) 1))]))))
theorem zIn (a0:Int)(hc:zne a0=true):∃N,zzU N a0=some [aI (zjj a0)]:=by
 refine ⟨0,?_⟩;unfold zzU oN nB;refine must rfl ?_;cases h:zdK a0
 .refine must (by simp[h]) ?_
  simp[zev,h]
 .obtain ⟨h0,h1⟩:=zdy.1 h;have r:=zuE (P:=fun x=>-1<=scan x/\scan x<=7/\(0<=scan x->wsub .i64 x (zmS .i64 1 (scan x))=zsu .i64 x (zmS .i64 1 (scan x)))) zJv h0 h1;refine ze5 (by simp[h]) ?_
  rw[zL4 h0 h1];refine must (zbk ⟨h0,h1⟩) ?_;have e:wsub .i64 (zfG a0) 1=scan a0:=by
   unfold zfG;rw[znT (by omega) (by omega)];omega
  rw[e];simp[zev,h]
theorem zC4:uV 342 zu7:=kF1 zeo zq zl zn (zo []) zIn
@[simp] abbrev zdX (l:List (List Int)):Bool:=pc (SmM l)
@[simp] abbrev zcs (l:List (List Int)):List (List Int):=l
def zs7:Run:=rF1 (dS (.sl .int)) fun b=>(zdX b,[aS (.sl .int) (zcs b)])
def zwX (N:Nat)(a0:lM):OA:=
 (iter (σ:=(Int×(Int×(lM×(lM×Unit))))) N (fun r2 s3=>let y0:=(ix s3.2.2.2.1 s3.2.1 []); (cond (ilt s3.2.1 s3.1) (oN (inb s3.2.1 (ln s3.2.2.2.1)) (oN (zcw y0) (oN (few (ln (ap s3.2.2.1 [(zct y0)]))) (r2 (s3.1,((zG .i64 s3.2.1 1),((ap s3.2.2.1 [(zct y0)]),(s3.2.2.2.1,())))))))) (some [(aS (.sl .int) s3.2.2.1)]))) ((ln a0),(0,([],(a0,())))))
def zGw:FuncId->Nat->Option Tmpl:=zo [(158,0,{ n:=20,tm:=[(3,.sl 0 []),(7,.sl 1 []),(8,ti),(9,ti)],lo:=[],ro:=[(0,(.sl .int),true),(1,(.sl .int),false)] })]
theorem zF7 (a0:List (List Int))(hc:zdX a0=true):∃N,zwX N a0=some [aS (.sl .int) (zcs a0)]:=by
 have hs:=zB.1 hc;have hl:=zcA hs.1;refine zbK fun N hNN=>?_;unfold zwX oN
 conv=>zeta
 refine (zQ a0 (fun i (t:lM)=>((ln a0),(i:Int),t,a0,())) _ (fun _ x acc κ=>bif zcw x then (cond (few (ln (ap acc [zct x]))) (κ (ap acc [zct x])) none) else none) (fun (t:lM)=>(some [(.one (.s (.sl .int) t))])) (fun i hi t rec=>?_) (fun t rec=>?_) _ ([]) (hNN hl.1)).trans ?_
 .simp only [zbl hi,zU hi,zZ hi,zN hi hl.1,cT]
 .simp only [zbe,cF]
 exact zg8 zcw zct _ a0 0 [] (fun x hx=>⟨by exact zbk (jC (hs.2 x hx) (by decide)),rfl⟩) (by simpa using hl.2)
theorem zAX:uV 158 zs7:=kF1 zeo zq zl zn zGw zF7
@[simp] abbrev zcu (g:Guest):Bool:=pc (SmG g)
@[simp] abbrev zbG (g:Guest):Guest:=g
def zpn:Run:=rF1 (dT .guest) fun b=>(zcu b,[aT .guest (zbG b)])
def zsH (N:Nat)(a0:Guest):OA:=
 (oN (zok a0.Prog) (oN (zdE a0.Written) (oN (zdE a0.Live) (oN (zcw a0.Seen) (some [(aT .guest ({ a0 with Prog:=(zkd a0.Prog),Written:=(zcI a0.Written),Live:=(zcI a0.Live),Seen:=(zct a0.Seen) }:Guest))])))))
theorem zBt (a0:Guest)(hc:zcu a0=true):∃N,zsH N a0=some [aT .guest (zbG a0)]:=by
 have hs:=zB.1 hc;obtain ⟨h1,h2,h3,h4⟩:=hs;have hs1:a0.Prog.length<=2147483648:=(by omega);have hs2:a0.Written.length<=2147483648:=(by omega);have hs3:a0.Live.length<=2147483648:=(by omega);have hs4:a0.Seen.length<=2147483648:=(by omega)
 refine ⟨0,?_⟩;unfold zsH oN;refine mu (mu (mu (mu ?_)))
 first|rfl|(simp only [*,zbG,cT,cF]<;>rfl)|simp_all[Ty.cells,zbG]
theorem zwt:uV 272 zpn:=kF1 zeo zq zl zn (zo []) zBt
def zex (t:List Slot)(p n:Int):Bool:=bif ieq (zcp t p).Page (-1) then false else (cond (enough (zcp t p).Rights n) (win n 1 3) false)
def zb4 (t:List Slot)(p n:Int):Int:=bif zex t p n then (zcp t p).Page else -1
theorem zQw {r:Int}(h:zcU r=true):0<=r/\r<=3:=zdy.1 h
theorem zMq {a n:Int}(h:enough a n=true):win n 1 3 = !ieq n 0:=by
 unfold enough at h;cases h1:zcU a
 .rw [h1]at h;cases h
 .cases h2:zcU n
  .rw [h1,h2]at h;cases h
  .have:=zQw h2;have e:(win n 1 3=true)↔(!ieq n 0)=true:=by
    rw[zdy];simp[ieq];omega
   cases h3:win n 1 3<;>cases h4:(!ieq n 0)<;>simp_all
@[simp] abbrev zgC (t:List Slot)(p n:Int):Bool:=true
@[simp] abbrev zfg (t:List Slot)(p n:Int):Int:=zb4 t p n
@[simp] abbrev zes (t:List Slot)(p n:Int):Bool:=zex t p n
def zpl:Run:=rF3 (dS .slot) dI dI fun b c d=>(zgC b c d,[aI (zfg b c d),aB (zes b c d)])
def zsF (N:Nat)(a0:lS)(a1 a2:Int):OA:=
 let y0:=(zdR a0 a1); (oN (zez a0 a1) (cond (ieq y0.Page (-1)) (some [(aI (-1)),(aB false)]) (oN (zch y0.Rights a2) (cond (nB (zcF y0.Rights a2)) (some [(aI (-1)),(aB false)]) (oN (zbg a2 1 3) (cond (nB (zbn a2 1 3)) (some [(aI (-1)),(aB false)]) (some [(aI y0.Page),(aB true)])))))))
theorem zBr (a0:List Slot)(a1 a2:Int)(hc:zgC a0 a1 a2=true):∃N,zsF N a0 a1 a2=some [aI (zfg a0 a1 a2),aB (zes a0 a1 a2)]:=by
 refine ⟨0,?_⟩;unfold zsF oN nB
 conv=>zeta
 refine must rfl (br (fun _=>?_) (fun _=>must rfl (brN (fun _=>?_) (fun _=>must rfl (brN (fun _=>?_) (fun _=>?_))))))
 all_goals first|rfl|(simp only [*,zfg,zes,zb4,zex,cT,cF]<;>rfl)|simp_all[Ty.cells,zfg,zes,zb4,zex]
theorem zwq:uV 288 zpl:=kF3 zeo zq zl zn (zo []) zBr
@[simp] abbrev zmN (t:List Slot)(p n:Int):Bool:=true
@[simp] abbrev zgH (t:List Slot)(p n:Int):Int:=zb4 t p n
@[simp] abbrev zgI (t:List Slot)(p n:Int):Bool:=zex t p n
def zpu:Run:=rF3 (dS .slot) dI dI fun b c d=>(zmN b c d,[aI (zgH b c d),aB (zgI b c d)])
def zsN (N:Nat)(a0:lS)(a1 a2:Int):OA:=
 let y0:=(zgt a0 a1); (oN (zif a0 a1) (cond (ieq y0.Page (-1)) (some [(aI (-1)),(aB false)]) (oN (zeA y0.Rights a2) (cond (nB (ze4 y0.Rights a2)) (some [(aI (-1)),(aB false)]) (cond (ieq a2 0) (some [(aI (-1)),(aB false)]) (some [(aI y0.Page),(aB true)]))))))
theorem zBA (a0:List Slot)(a1 a2:Int)(hc:zmN a0 a1 a2=true):∃N,zsN N a0 a1 a2=some [aI (zgH a0 a1 a2),aB (zgI a0 a1 a2)]:=by
 have he:=@zMq (zcp a0 a1).Rights a2;refine ⟨0,?_⟩;unfold zsN oN nB
 conv=>zeta
 refine must rfl (br (fun _=>?_) (fun _=>must rfl (brN (fun _=>?_) (fun _=>br (fun _=>?_) (fun _=>?_)))))
 all_goals first|rfl|(simp only [*,zgH,zgI,zb4,zex,cT,cF]<;>rfl)|simp_all[Ty.cells,zgH,zgI,zb4,zex]
theorem zwA:uV 211 zpu:=kF3 zeo zq zl zn (zo []) zBA
def zRw:zK:=[(371,ze6),(158,zs7),(272,zpn),(211,zpu),(288,zpl),(313,zxG),(180,zxz),(355,zvo),(348,zuZ),(229,zxE),(305,zxw),(342,zu7)]++zRv
theorem zjc:zy zRw:=zf zjA (zf zAX (zf zwt (zf zwA (zf zwq (zf zFO (zf zFG (zf zDl (zf zCX (zf zFM (zf zFD (zf zC4 zeo)))))))))))
@[simp] abbrev zhq (m:List (List Int))(p c v:Int):Bool:=pc (SmM m)
@[simp] abbrev zh5 (m:List (List Int))(p c v:Int):List (List Int):=zfT m p c v
def zqV:Run:=rF4 (dS (.sl .int)) dI dI dI fun b c d e=>(zhq b c d e,[aS (.sl .int) (zh5 b c d e)])
def ztz (N:Nat)(a0:lM)(a1 a2 a3:Int):OA:=
 let y0:=(aS (.sl .int) (zcs a0)); (oN (zdX a0) (oN (zbs a1 (ln a0)) (cond (zbA a1 (ln a0)) (oN (inb a1 (ln a0)) (oN (zbs a2 (ln (ix a0 a1 []))) (cond (zbA a2 (ln (ix a0 a1 []))) (oN (zbg a3 0 99) (cond (zbn a3 0 99) (oN (inb a1 (ln (zcs a0))) (oN (inb a2 (ln (ix (zcs a0) a1 []))) (share (up (zcs a0) a1 (up (ix (zcs a0) a1 []) a2 a3)) (fun x5=>(some [(aS (.sl .int) x5)]))))) (some [y0]))) (some [y0])))) (some [y0]))))
theorem zDQ (a0:List (List Int))(a1 a2 a3:Int)(hc:zhq a0 a1 a2 a3=true):∃N,ztz N a0 a1 a2 a3=some [aS (.sl .int) (zh5 a0 a1 a2 a3)]:=by
 have hs:=zB.1 hc;refine ⟨0,?_⟩;unfold ztz oN
 conv=>zeta
 refine mu (must rfl (br (fun _=>mu (must rfl (br (fun _=>must rfl (br (fun _=>mu (mu (shr ?_))) (fun _=>?_))) (fun _=>?_)))) (fun _=>?_)))
 all_goals first|rfl|(simp only [*,zh5,zfT,zf2,cT,cF]<;>rfl)|simp_all[Ty.cells,zh5,zfT,zf2]
theorem zyz:uV 168 zqV:=kF4 zjc zq zl zn (zo []) zDQ
def zjv (g:Guest):Bool:=bif canRun g then (cond g.Ctl.Open (ige (zev g.Pending) 0) false) else false
@[simp] abbrev zkb (g:Guest):Bool:=true
@[simp] abbrev zh4 (g:Guest):Bool:=zjv g
def zqU:Run:=rF1 (dT .guest) fun b=>(zkb b,[aB (zh4 b)])
def zty (N:Nat)(a0:Guest):OA:=
 (oN (zm7 a0) (cond (zkT a0) (cond a0.Ctl.Open (oN (zne a0.Pending) (some [(aB (ige (zjj a0.Pending) 0))])) oF) oF))
theorem zDP (a0:Guest)(hc:zkb a0=true):∃N,zty N a0=some [aB (zh4 a0)]:=by
 refine ⟨0,?_⟩;unfold zty oN;refine must rfl (br (fun _=>br (fun _=>must rfl ?_) (fun _=>?_)) (fun _=>?_))
 all_goals first|rfl|(simp only [*,zh4,zjv,cT,cF]<;>rfl)|simp_all[Ty.cells,zh4,zjv]
theorem zyy:uV 278 zqU:=kF1 zjc zq zl zn (zo []) zDP
def zqD (p:Int):Int:=bif ilt (zev p) 0 then p else wsub .i64 p (zmS .i64 1 (zev p))
def zBg (p:Int):Int:=bif ilt (zev p) 0 then -1 else zev p
theorem zPj {p:Int}(h:ilt (zev p) 0=false):wcv .u64 (zev p)=zev p/\ile 0 (zev p)=true/\zsu .i64 p (zmS .i64 1 (zev p))=wsub .i64 p (zmS .i64 1 (zev p)):=by
 unfold zev at *;cases h1:zdK p
 .rw [h1]at h;cases h
 .simp only [h1,cT]at h ⊢;obtain ⟨h0,h2⟩:=zdy.1 h1;have r:=zuE (P:=fun x=>-1<=scan x/\scan x<=7/\(0<=scan x->wsub .i64 x (zmS .i64 1 (scan x))=zsu .i64 x (zmS .i64 1 (scan x)))) zJv h0 h2;have h3:0<=scan p:=by
   unfold ilt at h;have:=j6 h;omega
  exact ⟨zL4 h3 (by omega),qL h3,(r.2.2 h3).symm⟩
@[simp] abbrev zpS (p:Int):Bool:=true
@[simp] abbrev ziF (p:Int):Int:=zqD p
@[simp] abbrev ziG (p:Int):Int:=zBg p
@[simp] abbrev zlx (p:Int):Bool:=!ilt (zev p) 0
def zs6:Run:=rF1 dI fun b=>(zpS b,[aI (ziF b),aI (ziG b),aB (zlx b)])
def zwW (N:Nat)(a0:Int):OA:=
 (oN (zne a0) (cond (ilt (zjj a0) 0) (some [(aI a0),(aI (-1)),(aB false)]) (oN (ile 0 (zjj a0)) (some [(aI (zsu .i64 a0 (zmS .i64 1 (zjj a0)))),(aI (zjj a0)),(aB true)]))))
theorem zF6 (a0:Int)(hc:zpS a0=true):∃N,zwW N a0=some [aI (ziF a0),aI (ziG a0),aB (zlx a0)]:=by
 have ht:=@zPj a0;refine ⟨0,?_⟩;unfold zwW oN;refine must rfl (br (fun _=>?_) (fun _=>mu ?_))
 all_goals first|rfl|(simp only [*,ziF,ziG,zlx,zqD,zBg,cT,cF]<;>rfl)|simp_all[Ty.cells,ziF,ziG,zlx,zqD,zBg]
theorem zAW:uV 308 zs6:=kF1 zjc zq zl zn (zo []) zF6
def saw (g:Guest)(n:Int):Guest:=bif ilt (ln g.Seen) 40 then { g with Seen:=ap g.Seen [n] } else g
@[simp] theorem zEo {g:Guest}(n:Int)(h:SmG g):SmG (saw g n):=by
 unfold saw;cases h1:ilt (ln g.Seen) 40
 .exact h
 .have:=qG h1;refine ⟨h.1,h.2.1,h.2.2.1,?_⟩;simp[ln] at *;omega
@[simp] abbrev zv3 (g:Guest)(n:Int):Bool:=pc (SmG g)
@[simp] abbrev zrS (g:Guest)(n:Int):Guest:=saw g n
def zFo:Run:=rF2 (dT .guest) dI fun b c=>(zv3 b c,[aT .guest (zrS b c)])
def zLn (N:Nat)(a0:Guest)(a1:Int):OA:=
 (oN (zcu a0) (cond (ilt (ln a0.Seen) 40) (oN (few (ln (ap (zbG a0).Seen [a1]))) (some [(aT .guest ({ (zbG a0) with Seen:=(ap (zbG a0).Seen [a1]) }:Guest))])) (some [(aT .guest (zbG a0))])))
theorem zOF (a0:Guest)(a1:Int)(hc:zv3 a0 a1=true):∃N,zLn N a0 a1=some [aT .guest (zrS a0 a1)]:=by
 have hs:=zB.1 hc;have hz:a0.Seen.length<=1048576:=hs.2.2.2
 refine ⟨0,?_⟩;unfold zLn oN;refine mu (br (fun _=>mu ?_) (fun _=>?_))
 all_goals first|rfl|(simp only [*,zrS,saw,cT,cF]<;>rfl)|simp_all[Ty.cells,zrS,saw]
theorem zKv:uV 281 zFo:=kF2 zjc zq zl zn (zo []) zOF
def stopped (g:Guest)(e:GExit):Guest:={ g with Exit:=e }
@[simp] theorem zT8 {g:Guest}(e:GExit)(h:SmG g):SmG (stopped g e):=h
@[simp] abbrev zdW (g:Guest)(e:GExit):Bool:=pc (SmG g)
@[simp] abbrev zeb (g:Guest)(e:GExit):Guest:=stopped g e
def zs4:Run:=rF2 (dT .guest) dE fun b c=>(zdW b c,[aT .guest (zeb b c)])
def zwU (N:Nat)(a0:Guest)(a1:GExit):OA:=
 (oN (zcu a0) (some [(aT .guest ({ (zbG a0) with Exit:=a1 }:Guest))]))
theorem zF4 (a0:Guest)(a1:GExit)(hc:zdW a0 a1=true):∃N,zwU N a0 a1=some [aT .guest (zeb a0 a1)]:=by
 have hs:=zB.1 hc;refine ⟨0,?_⟩;unfold zwU oN;refine mu ?_
 first|rfl|(simp only [*,zeb,stopped,cT,cF]<;>rfl)|simp_all[Ty.cells,zeb,stopped]
theorem zAU:uV 166 zs4:=kF2 zjc zq zl zn (zo []) zF4
def zbv (g:Guest):Guest:=bif ige g.Pc 12 then { g with Pc:=12 } else { g with Pc:=zG .i64 g.Pc 1 }
@[simp] theorem zjK {g:Guest}(h:SmG g):SmG (zbv g):=by
 unfold zbv;cases ige g.Pc 12<;>exact h
@[simp] abbrev zc7 (g:Guest):Bool:=pc (SmG g)
@[simp] abbrev zcZ (g:Guest):Guest:=zbv g
def zxC:Run:=rF1 (dT .guest) fun b=>(zc7 b,[aT .guest (zcZ b)])
def zEL (N:Nat)(a0:Guest):OA:=
 (oN (zcu a0) (cond (ige a0.Pc 12) (some [(aT .guest ({ (zbG a0) with Pc:=12 }:Guest))]) (some [(aT .guest ({ (zbG a0) with Pc:=(zG .i64 a0.Pc 1) }:Guest))])))
theorem zKH (a0:Guest)(hc:zc7 a0=true):∃N,zEL N a0=some [aT .guest (zcZ a0)]:=by
 have hs:=zB.1 hc;refine ⟨0,?_⟩;unfold zEL oN;refine mu (br (fun _=>?_) (fun _=>?_))
 all_goals first|rfl|(simp only [*,zcZ,zbv,cT,cF]<;>rfl)|simp_all[Ty.cells,zcZ,zbv]
theorem zFJ:uV 190 zxC:=kF1 zjc zq zl zn (zo []) zKH
def zRx:zK:=[(168,zqV),(278,zqU),(308,zs6),(281,zFo),(166,zs4),(190,zxC)]++zRw
theorem zep:zy zRx:=zf zyz (zf zyy (zf zAW (zf zKv (zf zAU (zf zFJ zjc)))))
def interrupted (g:Guest):Guest:=bif zjv g then saw { g with Pending:=zqD g.Pending } (zG .i64 100 (zBg g.Pending)) else g
@[simp] theorem zLS {g:Guest}(h:SmG g):SmG (interrupted g):=by
 unfold interrupted;cases zjv g
 .exact h
 .exact zEo (g:={ g with Pending:=zqD g.Pending }) _ h
@[simp] abbrev zj1 (g:Guest):Bool:=pc (SmG g)
@[simp] abbrev zfe (g:Guest):Guest:=interrupted g
def zmW:Run:=rF1 (dT .guest) fun b=>(zj1 b,[aT .guest (zfe b)])
def zoS (N:Nat)(a0:Guest):OA:=
 let y1:=(zG .i64 100 (ziG a0.Pending));let y0:=({ a0 with Pending:=(ziF a0.Pending) }:Guest); (oN (zkb a0) (cond (nB (zh4 a0)) (oN (zcu a0) (some [(aT .guest (zbG a0))])) (oN (zpS a0.Pending) (oN (zv3 y0 y1) (some [(aT .guest (zrS y0 y1))])))))
theorem zwD (a0:Guest)(hc:zj1 a0=true):∃N,zoS N a0=some [aT .guest (zfe a0)]:=by
 have hs:=zB.1 hc;have hz:_/\_/\_/\_:=hs
 refine ⟨0,?_⟩;unfold zoS oN nB
 conv=>zeta
 refine must rfl (brN (fun _=>mu ?_) (fun _=>must rfl (mu ?_)))
 all_goals first|rfl|(simp only [*,zfe,interrupted,cT,cF]<;>rfl)|simp_all[Ty.cells,zfe,interrupted]
theorem ztj:uV 286 zmW:=kF1 zep zq zl zn (zo []) zwD
def zBL (o:Int):Int:=bif ieq o 3 then 3 else (cond (ieq o 4) 4 (cond (ieq o 5) 5 (cond (ieq o 6) 6 (cond (ieq o 7) 7 2))))
def zD (g:Guest):Int:=bif canRun g then (cond (zjv g) 1 (zBL (zc8 g.Prog g.Pc).Op)) else 0
@[simp] abbrev zgj (g:Guest):Bool:=true
@[simp] abbrev zeV (g:Guest):Int:=zD g
def zu9:Run:=rF1 (dT .guest) fun b=>(zgj b,[aI (zeV b)])
def zzW (N:Nat)(a0:Guest):OA:=
 let y0:=(zek a0.Prog a0.Pc).Op; (oN (zm7 a0) (cond (nB (zkT a0)) (some [(aI 0)]) (oN (zkb a0) (cond (zh4 a0) (some [(aI 1)]) (oN (zea a0.Prog a0.Pc) (cond (ieq y0 3) (some [(aI 3)]) (cond (ieq y0 4) (some [(aI 4)]) (cond (ieq y0 5) (some [(aI 5)]) (cond (ieq y0 6) (some [(aI 6)]) (cond (ieq y0 7) (some [(aI 7)]) (some [(aI 2)])))))))))))
theorem zIp (a0:Guest)(hc:zgj a0=true):∃N,zzW N a0=some [aI (zeV a0)]:=by
 refine ⟨0,?_⟩;unfold zzW oN nB
 conv=>zeta
 refine must rfl (brN (fun _=>?_) (fun _=>must rfl (br (fun _=>?_) (fun _=>must rfl (br (fun _=>?_) (fun _=>br (fun _=>?_) (fun _=>br (fun _=>?_) (fun _=>br (fun _=>?_) (fun _=>br (fun _=>?_) (fun _=>?_))))))))))
 all_goals first|rfl|(simp only [*,zeV,zD,zBL,cT,cF]<;>rfl)|simp_all[Ty.cells,zeV,zD,zBL]
theorem zC6:uV 161 zu9:=kF1 zep zq zl zn (zo []) zIp
def held (g:Guest):Guest:=zbv { g with Halted:=true }
@[simp] theorem zQB {g:Guest}(h:SmG g):SmG (held g):=zjK (g:={ g with Halted:=true }) h
@[simp] abbrev zjg (g:Guest):Bool:=pc (SmG g)
@[simp] abbrev ziD (g:Guest):Guest:=held g
def zBU:Run:=rF1 (dT .guest) fun b=>(zjg b,[aT .guest (ziD b)])
def zG0 (N:Nat)(a0:Guest):OA:=
 let y0:=({ a0 with Halted:=true }:Guest); (oN (zc7 y0) (some [(aT .guest (zcZ y0))]))
theorem zMK (a0:Guest)(hc:zjg a0=true):∃N,zG0 N a0=some [aT .guest (ziD a0)]:=by
 have hs:=zB.1 hc;have hz:_/\_/\_/\_:=hs
 refine ⟨0,?_⟩;unfold zG0 oN
 conv=>zeta
 refine mu ?_
 first|rfl|(simp only [*,ziD,held,cT,cF]<;>rfl)|simp_all[Ty.cells,ziD,held]
theorem zHM:uV 285 zBU:=kF1 zep zq zl zn (zo []) zMK
@[simp] abbrev zj7 (g:Guest):Bool:=pc (SmG g)
@[simp] abbrev zho (g:Guest):Guest:=zbv g
def zu5:Run:=rF1 (dT .guest) fun b=>(zj7 b,[aT .guest (zho b)])
def zzS (N:Nat)(a0:Guest):OA:=
 (oN (zc7 a0) (some [(aT .guest (zcZ a0))]))
theorem zIl (a0:Guest)(hc:zj7 a0=true):∃N,zzS N a0=some [aT .guest (zho a0)]:=by
 have hs:=zB.1 hc;refine ⟨0,?_⟩;unfold zzS oN;refine mu ?_
 first|rfl|(simp only [*,zho,cT,cF]<;>rfl)|simp_all[Ty.cells,zho]
theorem zC2:uV 170 zu5:=kF1 zep zq zl zn (zo []) zIl
def loaded (g:Guest)(v:Int):Guest:=zbv (saw { g with A:=v } v)
@[simp] theorem zB1 {g:Guest}(v:Int)(h:SmG g):SmG (loaded g v):=zjK (zEo (g:={ g with A:=v }) v h)
@[simp] abbrev zj2 (g:Guest)(v:Int):Bool:=pc (SmG g)
@[simp] abbrev zhm (g:Guest)(v:Int):Guest:=loaded g v
def zuR:Run:=rF2 (dT .guest) dI fun b c=>(zj2 b c,[aT .guest (zhm b c)])
def zzG (N:Nat)(a0:Guest)(a1:Int):OA:=
 let y0:=({ a0 with A:=a1 }:Guest); (oN (zv3 y0 a1) (oN (zc7 (zrS y0 a1)) (some [(aT .guest (zcZ (zrS y0 a1)))])))
theorem zH8 (a0:Guest)(a1:Int)(hc:zj2 a0 a1=true):∃N,zzG N a0 a1=some [aT .guest (zhm a0 a1)]:=by
 have hs:=zB.1 hc;have hz:_/\_/\_/\_:=hs;have hk:SmG (saw { a0 with A:=a1 } a1):=zEo (g:={ a0 with A:=a1 }) a1 hs
 refine ⟨0,?_⟩;unfold zzG oN
 conv=>zeta
 refine mu (mu ?_)
 first|rfl|(simp only [*,zhm,loaded,cT,cF]<;>rfl)|simp_all[Ty.cells,zhm,loaded]
theorem zCP:uV 171 zuR:=kF2 zep zq zl zn (zo []) zH8
def zlk (g:Guest)(w:Int):Guest:=bif ieq w 5 then stopped g (zEe (zc8 g.Prog g.Pc).X) else stopped g ⟨4,0,false,0⟩
@[simp] theorem zT9 {g:Guest}(w:Int)(h:SmG g):SmG (zlk g w):=by
 unfold zlk;cases ieq w 5<;>exact h
@[simp] abbrev ziH (g:Guest)(w:Int):Bool:=pc (SmG g)
@[simp] abbrev zga (g:Guest)(w:Int):Guest:=zlk g w
def zs9:Run:=rF2 (dT .guest) dI fun b c=>(ziH b c,[aT .guest (zga b c)])
def zwZ (N:Nat)(a0:Guest)(a1:Int):OA:=
 let y0:=(zek a0.Prog a0.Pc).X; (cond (ieq a1 5) (oN (zea a0.Prog a0.Pc) (oN (zpP y0) (oN (zdW a0 (zjB y0)) (some [(aT .guest (zeb a0 (zjB y0)))])))) (oN (zdW a0 (⟨4,0,false,0⟩:GExit)) (some [(aT .guest (zeb a0 (⟨4,0,false,0⟩:GExit)))])))
theorem zF9 (a0:Guest)(a1:Int)(hc:ziH a0 a1=true):∃N,zwZ N a0 a1=some [aT .guest (zga a0 a1)]:=by
 have hs:=zB.1 hc;refine ⟨0,?_⟩;unfold zwZ oN
 conv=>zeta
 refine br (fun _=>must rfl (must rfl (mu ?_))) (fun _=>mu ?_)
 all_goals first|rfl|(simp only [*,zga,zlk,cT,cF]<;>rfl)|simp_all[Ty.cells,zga,zlk]
theorem zAZ:uV 284 zs9:=kF2 zep zq zl zn (zo []) zF9
def zcl (g:Guest):Bool:=ze2 g.Prog&&(win g.A 0 99&&(win g.Pc 0 12&&(zcf g.Written 4 8&&(zcf g.Live 4 8&&(zoZ g.Ctl&&(zdK g.Pending&&(zlR g.Exit&&ile (ln g.Seen) 40)))))))
@[simp] abbrev zlF (g:Guest):Bool:=true
@[simp] abbrev zjH (g:Guest):Bool:=zcl g
def zta:Run:=rF1 (dT .guest) fun b=>(zlF b,[aB (zjH b)])
def zw2 (N:Nat)(a0:Guest):OA:=
 (oN (zsg a0.Prog) (cond (zjq a0.Prog) (oN (zT a0.A 0 99) (cond (zba a0.A 0 99) (oN (zT a0.Pc 0 12) (cond (zba a0.Pc 0 12) (oN (ziP a0.Written 4 8) (cond (zfx a0.Written 4 8) (oN (ziP a0.Live 4 8) (cond (zfx a0.Live 4 8) (oN (zvx a0.Ctl) (cond (zq9 a0.Ctl) (oN (zgs a0.Pending) (cond (zgr a0.Pending) (oN (zsd a0.Exit) (cond (zoF a0.Exit) (some [(aB (ile (ln a0.Seen) 40))]) oF)) oF)) oF)) oF)) oF)) oF)) oF)) oF))
theorem zGc (a0:Guest)(hc:zlF a0=true):∃N,zw2 N a0=some [aB (zjH a0)]:=by
 refine ⟨0,?_⟩;unfold zw2 oN;refine must rfl (br (fun _=>must rfl (br (fun _=>must rfl (br (fun _=>must rfl (br (fun _=>must rfl (br (fun _=>must rfl (br (fun _=>must rfl (br (fun _=>must rfl (br (fun _=>?_) (fun _=>?_))) (fun _=>?_))) (fun _=>?_))) (fun _=>?_))) (fun _=>?_))) (fun _=>?_))) (fun _=>?_))) (fun _=>?_))
 all_goals first|rfl|(simp only [*,zjH,zcl,cT,cF]<;>rfl)|simp_all[Ty.cells,zjH,zcl]
theorem zA0:uV 312 zta:=kF1 zep zq zl zn (zo []) zGc
@[simp] abbrev ziC (g:Guest):Bool:=true
@[simp] abbrev zhl (g:Guest):Bool:=zcl g
def zsW:Run:=rF1 (dT .guest) fun b=>(ziC b,[aB (zhl b)])
def zwO (N:Nat)(a0:Guest):OA:=
 (oN (zrR a0.Prog) (cond (zji a0.Prog) (oN (zbg a0.A 0 99) (cond (zbn a0.A 0 99) (oN (zbg a0.Pc 0 12) (cond (zbn a0.Pc 0 12) (oN (ziE a0.Written 4 8) (cond (zfs a0.Written 4 8) (oN (ziE a0.Live 4 8) (cond (zfs a0.Live 4 8) (oN (zum a0.Ctl) (cond (zqz a0.Ctl) (oN (zgi a0.Pending) (cond (zgh a0.Pending) (oN (zrM a0.Exit) (cond (zod a0.Exit) (some [(aB (ile (ln a0.Seen) 40))]) oF)) oF)) oF)) oF)) oF)) oF)) oF)) oF))
theorem zFY (a0:Guest)(hc:ziC a0=true):∃N,zwO N a0=some [aB (zhl a0)]:=by
 refine ⟨0,?_⟩;unfold zwO oN;refine must rfl (br (fun _=>must rfl (br (fun _=>must rfl (br (fun _=>must rfl (br (fun _=>must rfl (br (fun _=>must rfl (br (fun _=>must rfl (br (fun _=>must rfl (br (fun _=>?_) (fun _=>?_))) (fun _=>?_))) (fun _=>?_))) (fun _=>?_))) (fun _=>?_))) (fun _=>?_))) (fun _=>?_))) (fun _=>?_))
 all_goals first|rfl|(simp only [*,zhl,zcl,cT,cF]<;>rfl)|simp_all[Ty.cells,zhl,zcl]
theorem zAP:uV 297 zsW:=kF1 zep zq zl zn (zo []) zFY
@[simp] abbrev zdh (l:List Guest):Bool:=pc (znX l)
@[simp] abbrev zec (l:List Guest):List Guest:=l
def zow:Run:=rF1 (dS .guest) fun b=>(zdh b,[aS .guest (zec b)])
def zqh (N:Nat)(a0:lG):OA:=
 (iter (σ:=(Int×(Int×(lG×(lG×Unit))))) N (fun r2 s3=>let y0:=(ix s3.2.2.2.1 s3.2.1 zC); (cond (ilt s3.2.1 s3.1) (oN (inb s3.2.1 (ln s3.2.2.2.1)) (oN (zcu y0) (oN (few (ln (ap s3.2.2.1 [(zbG y0)]))) (r2 (s3.1,((zG .i64 s3.2.1 1),((ap s3.2.2.1 [(zbG y0)]),(s3.2.2.2.1,())))))))) (some [(aS .guest s3.2.2.1)]))) ((ln a0),(0,([],(a0,())))))
def zzr:FuncId->Nat->Option Tmpl:=zo [(147,0,{ n:=20,tm:=[(3,.sl 0 []),(7,.sl 1 []),(8,ti),(9,ti)],lo:=[],ro:=[(0,.guest,true),(1,.guest,false)] })]
theorem zy0 (a0:List Guest)(hc:zdh a0=true):∃N,zqh N a0=some [aS .guest (zec a0)]:=by
 have hs:=zB.1 hc;have hl:=zcA hs.1;refine zbK fun N hNN=>?_;unfold zqh oN
 conv=>zeta
 refine (zQ a0 (fun i (t:lG)=>((ln a0),(i:Int),t,a0,())) _ (fun _ x acc κ=>bif zcu x then (cond (few (ln (ap acc [zbG x]))) (κ (ap acc [zbG x])) none) else none) (fun (t:lG)=>(some [(.one (.s .guest t))])) (fun i hi t rec=>?_) (fun t rec=>?_) _ ([]) (hNN hl.1)).trans ?_
 .simp only [zbl hi,zU hi,zZ hi,zN hi hl.1,cT]
 .simp only [zbe,cF]
 exact zg8 zcu zbG _ a0 0 [] (fun x hx=>⟨by exact zbk (hs.2 x hx),rfl⟩) (by simpa using hl.2)
theorem zug:uV 147 zow:=kF1 zep zq zl zn zzr zy0
def gAt (b:Bare)(i:Int):Guest:=bif hasB i (ln b.Guests) then ix b.Guests i zC else Ty.dflt .guest
@[simp] theorem zma {b:Bare}(i:Int)(h:SmB b):SmG (gAt b i):=by
 unfold gAt;cases hh:hasB i (ln b.Guests)
 .exact zUs
 .exact zJz h.2.1 hh _
@[simp] abbrev zp2 (b:Bare)(i:Int):Bool:=pc (SmB b)
@[simp] abbrev zgV (b:Bare)(i:Int):Guest:=gAt b i
@[simp] abbrev zlE (b:Bare)(i:Int):Bool:=hasB i (ln b.Guests)
def zmG:Run:=rF2 (dT .bare) dI fun b c=>(zp2 b c,[aT .guest (zgV b c),aB (zlE b c)])
def zw1 (N:Nat)(a0:Bare)(a1:Int):OA:=
 let y0:=(ix a0.Guests a1 zC); (oN (zT a1 0 (wsub .i64 (ln a0.Guests) 1)) (cond (nB (zba a1 0 (wsub .i64 (ln a0.Guests) 1))) (some [(aT .guest (⟨[],0,0,[],[],⟨0,0,false⟩,0,⟨0,0,false,0⟩,false,[]⟩:Guest)),(aB false)]) (oN (inb a1 (ln a0.Guests)) (oN (zfQ y0) (some [(aT .guest (zfB y0)),(aB true)])))))
theorem zGb (a0:Bare)(a1:Int)(hc:zp2 a0 a1=true):∃N,zw1 N a0 a1=some [aT .guest (zgV a0 a1),aB (zlE a0 a1)]:=by
 have hs:=zB.1 hc;have hl:a0.Guests.length<=1048576:=hs.2.1.1;have hx:hasB a1 (ln a0.Guests)=true->SmG (ix a0.Guests a1 zC):=fun h=>zJz hs.2.1 h _
 refine ⟨0,?_⟩;unfold zw1 oN nB
 conv=>zeta
 refine must rfl (brN (fun _=>?_) (fun _=>mu (mu ?_)))
 all_goals first|rfl|(simp only [*,zgV,zlE,gAt,Ty.dflt,cT,cF]<;>rfl)|simp_all[Ty.cells,zgV,zlE,gAt,Ty.dflt]
theorem zpa:uV 70 zmG:=kF2 zep zq zl zn (zo []) zGb
@[simp] abbrev zgR (b:Bare)(i:Int):Bool:=pc (SmB b)
@[simp] abbrev zdV (b:Bare)(i:Int):Guest:=gAt b i
@[simp] abbrev zeF (b:Bare)(i:Int):Bool:=hasB i (ln b.Guests)
def zsV:Run:=rF2 (dT .bare) dI fun b c=>(zgR b c,[aT .guest (zdV b c),aB (zeF b c)])
def zwN (N:Nat)(a0:Bare)(a1:Int):OA:=
 let y0:=(ix a0.Guests a1 zC); (oN (zbs a1 (ln a0.Guests)) (cond (nB (zbA a1 (ln a0.Guests))) (some [(aT .guest (⟨[],0,0,[],[],⟨0,0,false⟩,0,⟨0,0,false,0⟩,false,[]⟩:Guest)),(aB false)]) (oN (inb a1 (ln a0.Guests)) (oN (zcu y0) (some [(aT .guest (zbG y0)),(aB true)])))))
theorem zFX (a0:Bare)(a1:Int)(hc:zgR a0 a1=true):∃N,zwN N a0 a1=some [aT .guest (zdV a0 a1),aB (zeF a0 a1)]:=by
 have hs:=zB.1 hc;have hl:a0.Guests.length<=1048576:=hs.2.1.1;have hx:hasB a1 (ln a0.Guests)=true->SmG (ix a0.Guests a1 zC):=fun h=>zJz hs.2.1 h _
 refine ⟨0,?_⟩;unfold zwN oN nB
 conv=>zeta
 refine must rfl (brN (fun _=>?_) (fun _=>mu (mu ?_)))
 all_goals first|rfl|(simp only [*,zdV,zeF,gAt,Ty.dflt,cT,cF]<;>rfl)|simp_all[Ty.cells,zdV,zeF,gAt,Ty.dflt]
theorem zAO:uV 273 zsV:=kF2 zep zq zl zn (zo []) zFX
def zRy:zK:=[(286,zmW),(161,zu9),(285,zBU),(170,zu5),(171,zuR),(284,zs9),(312,zta),(297,zsW),(147,zow),(70,zmG),(273,zsV)]++zRx
theorem zn0:zy zRy:=zf ztj (zf zC6 (zf zHM (zf zC2 (zf zCP (zf zAZ (zf zA0 (zf zAP (zf zug (zf zpa (zf zAO zep))))))))))
def plainly (g:Guest):Guest:=bif ine (zD g) 2 then g else (cond (win g.A 0 99) (cond (win (zc8 g.Prog g.Pc).X 0 99) (cond (ieq (zc8 g.Prog g.Pc).Op 1) { zbv g with A:=(zc8 g.Prog g.Pc).X } (cond (ieq (zc8 g.Prog g.Pc).Op 2) { zbv g with A:=zjx (zG .i64 g.A (zc8 g.Prog g.Pc).X) 100 } (cond (ieq (zc8 g.Prog g.Pc).Op 8) (cond (ieq g.A 0) { zbv g with Pc:=(zc8 g.Prog g.Pc).X } (zbv g)) (zbv g)))) (zbv g)) (zbv g))
@[simp] theorem zUl (g:Guest):(zbv g).Prog=g.Prog:=by
 unfold zbv;cases ige g.Pc 12<;>rfl
@[simp] theorem zUU (g:Guest):(zbv g).A=g.A:=by
 unfold zbv;cases ige g.Pc 12<;>rfl
@[simp] theorem zTd (g:Guest):(zbv g).Written=g.Written:=by
 unfold zbv;cases ige g.Pc 12<;>rfl
@[simp] theorem zUk (g:Guest):(zbv g).Live=g.Live:=by
 unfold zbv;cases ige g.Pc 12<;>rfl
@[simp] theorem zUz (g:Guest):(zbv g).Ctl=g.Ctl:=by
 unfold zbv;cases ige g.Pc 12<;>rfl
@[simp] theorem zTc (g:Guest):(zbv g).Pending=g.Pending:=by
 unfold zbv;cases ige g.Pc 12<;>rfl
@[simp] theorem zUj (g:Guest):(zbv g).Exit=g.Exit:=by
 unfold zbv;cases ige g.Pc 12<;>rfl
@[simp] theorem zTR (g:Guest):(zbv g).Halted=g.Halted:=by
 unfold zbv;cases ige g.Pc 12<;>rfl
@[simp] theorem zUm (g:Guest):(zbv g).Seen=g.Seen:=by
 unfold zbv;cases ige g.Pc 12<;>rfl
@[simp] theorem zUA (g:Guest)(x:Int):(zbv { g with A:=x }).Pc=(zbv g).Pc:=by
 unfold zbv;cases ige g.Pc 12<;>rfl
@[simp] theorem zxS {g:Guest}(h:SmG g):SmG (plainly g):=by
 have hm:=zjK h;unfold plainly;cases ine (zD g) 2
 .cases win g.A 0 99
  .exact hm
  .cases win (zc8 g.Prog g.Pc).X 0 99
   .exact hm
   .cases ieq (zc8 g.Prog g.Pc).Op 1
    .cases ieq (zc8 g.Prog g.Pc).Op 2
     .cases ieq (zc8 g.Prog g.Pc).Op 8
      .exact hm
      .cases ieq g.A 0<;>exact hm
     .exact hm
    .exact hm
 .exact h
@[simp] abbrev zpR (g:Guest):Bool:=pc (SmG g)
@[simp] abbrev zjD (g:Guest):Guest:=plainly g
def zs3:Run:=rF1 (dT .guest) fun b=>(zpR b,[aT .guest (zjD b)])
def zwT (N:Nat)(a0:Guest):OA:=
 let y1:=(aT .guest (zcZ a0));let y0:=(zek a0.Prog a0.Pc); (oN (zgj a0) (cond (ine (zeV a0) 2) (oN (zcu a0) (some [(aT .guest (zbG a0))])) (oN (zea a0.Prog a0.Pc) (oN (zc7 a0) (oN (zbg a0.A 0 99) (cond (nB (zbn a0.A 0 99)) (some [y1]) (oN (zbg y0.X 0 99) (cond (nB (zbn y0.X 0 99)) (some [y1]) (cond (ieq y0.Op 1) (some [(aT .guest ({ (zcZ a0) with A:=y0.X }:Guest))]) (cond (ieq y0.Op 2) (oN (ine 100 0) (some [(aT .guest ({ (zcZ a0) with A:=(zjx (zG .i64 a0.A y0.X) 100) }:Guest))])) (cond (ieq y0.Op 8) (cond (ieq a0.A 0) (some [(aT .guest ({ (zcZ a0) with Pc:=y0.X }:Guest))]) (some [y1])) (some [y1]))))))))))))
theorem zF3 (a0:Guest)(hc:zpR a0=true):∃N,zwT N a0=some [aT .guest (zjD a0)]:=by
 have hs:=zB.1 hc;refine ⟨0,?_⟩;unfold zwT oN nB
 conv=>zeta
 refine must rfl (br (fun _=>mu ?_) (fun _=>must rfl (mu (must rfl (brN (fun _=>?_) (fun _=>must rfl (brN (fun _=>?_) (fun _=>br (fun _=>?_) (fun _=>br (fun _=>must rfl ?_) (fun _=>br (fun _=>br (fun _=>?_) (fun _=>?_)) (fun _=>?_)))))))))))
 all_goals first|rfl|(simp only [*,zjD,plainly,cT,cF]<;>rfl)|simp_all[Ty.cells,zjD,plainly]
theorem zAT:uV 287 zs3:=kF1 zn0 zq zl zn (zo []) zF3
def address (g:Guest):Int:=bif ine (zD g) 3 then (cond (ine (zD g) 4) (-1) ((zc8 g.Prog g.Pc).X)) else (zc8 g.Prog g.Pc).X
@[simp] abbrev zlu (g:Guest):Bool:=true
@[simp] abbrev zhk (g:Guest):Int:=address g
def zsU:Run:=rF1 (dT .guest) fun b=>(zlu b,[aI (zhk b)])
def zwL (N:Nat)(a0:Guest):OA:=
 (oN (zgj a0) (cond (ine (zeV a0) 3) (cond (ine (zeV a0) 4) (some [(aI (-1))]) (oN (zea a0.Prog a0.Pc) (some [(aI (zek a0.Prog a0.Pc).X)]))) (oN (zea a0.Prog a0.Pc) (some [(aI (zek a0.Prog a0.Pc).X)]))))
theorem zFV (a0:Guest)(hc:zlu a0=true):∃N,zwL N a0=some [aI (zhk a0)]:=by
 refine ⟨0,?_⟩;unfold zwL oN;refine must rfl (br (fun _=>br (fun _=>?_) (fun _=>must rfl ?_)) (fun _=>must rfl ?_))
 all_goals first|rfl|(simp only [*,zhk,address,cT,cF]<;>rfl)|simp_all[Ty.cells,zhk,address]
theorem zAN:uV 162 zsU:=kF1 zn0 zq zl zn (zo []) zFV
def zil (g:Guest)(t w:Int):Guest:=bif ieq w 6 then stopped g (zx5 (zc8 g.Prog g.Pc).X) else (cond (ieq w 5&&zcN t 1) (stopped g (zEe (zc8 g.Prog g.Pc).X)) (cond (ieq w 7&&zcN t 2) (stopped g ⟨4,0,false,0⟩) (cond (ieq w 7) (held g) (zbv g))))
def zim (t w:Int):Bool:=bif ieq w 6 then false else (cond (ieq w 5&&zcN t 1) false (cond (ieq w 7&&zcN t 2) false true))
@[simp] theorem zvF {g:Guest}(t w:Int)(h:SmG g):SmG (zil g t w):=by
 unfold zil;cases ieq w 6
 .cases (ieq w 5&&zcN t 1)
  .cases (ieq w 7&&zcN t 2)
   .cases ieq w 7
    .exact zjK h
    .exact zQB h
   .exact h
  .exact h
 .exact h
def zds (b:Bare):Bool:=bif b.Guests.all zcl then (zgn b.Memory 8&&(win (ln b.Guests) 1 2&&(ile (ln b.Outs) 40&&zdK b.Pending))) else false
@[simp] abbrev zh0 (b:Bare):Bool:=true
@[simp] abbrev zc5 (b:Bare):Bool:=zds b
def zuI:Run:=rF1 (dT .bare) fun b=>(zh0 b,[aB (zc5 b)])
def zzw (N:Nat)(a0:Bare):OA:=
 (iter (σ:=(Int×(Int×(Int×(lG×(lM×((List Int)×Unit))))))) N (fun r2 s3=>let y0:=s3.2.2.2.1;let y1:=(ix y0 s3.2.1 zC); (cond (ilt s3.2.1 s3.1) (oN (inb s3.2.1 (ln y0)) (oN (ziC y1) (cond (nB (zhl y1)) oF (r2 (s3.1,((zG .i64 s3.2.1 1),(s3.2.2.1,(y0,(s3.2.2.2.2.1,(s3.2.2.2.2.2.1,())))))))))) (oN (zlU s3.2.2.2.2.1 8) (cond (zh2 s3.2.2.2.2.1 8) (oN (zbg (ln y0) 1 2) (cond (zbn (ln y0) 1 2) (cond (ile (ln s3.2.2.2.2.2.1) 40) (oN (zgi s3.2.2.1) (some [(aB (zgh s3.2.2.1))])) oF) oF)) oF)))) ((ln a0.Guests),(0,(a0.Pending,(a0.Guests,(a0.Memory,(a0.Outs,())))))))
def zJN:FuncId->Nat->Option Tmpl:=zo [(274,0,{ n:=36,tm:=[(1,.lp 0 0),(6,.sl 0 []),(7,ti),(8,ti)],lo:=[(0,[.sl 1 [],.sl 0 [],.sl 2 [],ti])],ro:=[(0,.guest,false),(1,(.sl .int),false),(2,.int,false)] })]
theorem zHZ (a0:Bare)(hb:zbq big [aT .bare a0])(hc:zh0 a0=true):∃N,zzw N a0=some [aB (zc5 a0)]:=by
 have hl:(_:List _).length<=big:=((zbN hb).1 (.s .guest a0.Guests) (by simp[AV.cvs,Ty.cells])).len
 refine zbK fun N hNN=>?_;unfold zzw oN nB
 conv=>zeta
 refine (zQ a0.Guests (fun i (t:Unit)=>((ln a0.Guests),(i:Int),a0.Pending,a0.Guests,a0.Memory,a0.Outs,())) _ (fun _ x (_:Unit) κ=>bif (zcl) x then κ () else oF) (fun (t:Unit)=>(cond (zlU a0.Memory 8) (cond (zh2 a0.Memory 8) (cond (zbg (ln a0.Guests) 1 2) (cond (zbn (ln a0.Guests) 1 2) (cond (ile (ln a0.Outs) 40) (cond (zgi a0.Pending) (some [(.one (.b (zgh a0.Pending)))]) none) oF) oF) none) oF) none)) (fun i hi t rec=>?_) (fun t rec=>?_) _ () (hNN hl)).trans ?_
 .simp only [zbl hi,zU hi,zZ hi,zN hi hl,cT];exact zgd rfl
 .simp only [zbe,cF]
 rw[zdO (zcl)];refine br (fun h0=>?_) (fun h0=>?_)
 .refine must rfl ?_;refine br (fun h1=>?_) (fun h1=>?_)
  .refine must rfl ?_;refine br (fun h2=>?_) (fun h2=>?_)
   .refine br (fun h3=>?_) (fun h3=>?_)
    .refine must rfl ?_
     first|rfl|(simp only [h0,h1,h2,h3,zc5,zds,cT,cF]<;>rfl)|(simp_all [Ty.cells,zc5,zds];done)
    .first|rfl|(simp only [h0,h1,h2,h3,zc5,zds,cT,cF]<;>rfl)|(simp_all [Ty.cells,zc5,zds];done)
   .first|rfl|(simp only [h0,h1,h2,zc5,zds,cT,cF]<;>rfl)|(simp_all [Ty.cells,zc5,zds];done)
  .first|rfl|(simp only [h0,h1,zc5,zds,cT,cF]<;>rfl)|(simp_all [Ty.cells,zc5,zds];done)
 .first|rfl|(simp only [h0,zc5,zds,cT,cF]<;>rfl)|(simp_all [Ty.cells,zc5,zds];done)
theorem zCG:uV 274 zuI:=hF1 zn0 zq zl zn zJN zHZ
@[simp] abbrev zcS (b:Bare):Bool:=pc (SmB b)
@[simp] abbrev zcG (b:Bare):Bare:=b
def zqY:Run:=rF1 (dT .bare) fun b=>(zcS b,[aT .bare (zcG b)])
def ztC (N:Nat)(a0:Bare):OA:=
 (oN (zdX a0.Memory) (oN (zdh a0.Guests) (oN (zcw a0.Outs) (some [(aT .bare (⟨(zcs a0.Memory),(zec a0.Guests),(zct a0.Outs),a0.Pending⟩:Bare))]))))
theorem zDT (a0:Bare)(hc:zcS a0=true):∃N,ztC N a0=some [aT .bare (zcG a0)]:=by
 have hs:=zB.1 hc;have hz:_/\_/\_:=hs
 refine ⟨0,?_⟩;unfold ztC oN;refine mu (mu (mu ?_))
 first|rfl|(simp only [*,zcG,cT,cF]<;>rfl)|simp_all[Ty.cells,zcG]
theorem zyC:uV 89 zqY:=kF1 zn0 zq zl zn (zo []) zDT
def zRz:zK:=[(287,zs3),(162,zsU),(274,zuI),(89,zqY)]++zRy
theorem zyf:zy zRz:=zf zAT (zf zAN (zf zCG (zf zyC zn0)))
def zjs (b:Bare)(i:Int)(x:Guest):Bare:={ b with Guests:=up b.Guests i x }
def zfF (b:Bare)(i:Int)(x:Guest):Bare:=bif hasB i (ln b.Guests) then zjs b i x else b
def zkk (b:Bare)(n:Int):Bare:=bif ilt (ln b.Outs) 40 then { b with Outs:=ap b.Outs [n] } else b
@[simp] theorem zju {b:Bare}{i:Int}{x:Guest}(h:SmB b)(hx:SmG x):SmB (zjs b i x):=⟨h.1,zEp h.2.1 hx,h.2.2⟩
@[simp] theorem zB0 {b:Bare}{n:Int}(h:SmB b):SmB (zkk b n):=by
 unfold zkk;cases h1:ilt (ln b.Outs) 40
 .exact h
 .have:=qG h1;refine ⟨h.1,h.2.1,?_⟩;simp[ln] at *;omega
@[simp] theorem zUP (b:Bare)(n:Int):(zkk b n).Guests=b.Guests:=by
 unfold zkk;cases ilt (ln b.Outs) 40<;>rfl
@[simp] theorem zJC {m:List (List Int)}{p c v:Int}(h:SmM m):SmM (zfT m p c v):=by
 unfold zfT;cases h1:zf2 m p c
 .exact h
 .cases h2:win v 0 99
  .exact h
  .exact zB3 h (by simpa using zTZ h ((zBD m p c).1 h1).1 [])
@[simp] abbrev zby (b:Bare)(i:Int)(x:Guest):Bool:=pc (SmB b/\SmG x)
@[simp] abbrev zb9 (b:Bare)(i:Int)(x:Guest):Bare:=zfF b i x
def zpm:Run:=rF3 (dT .bare) dI (dT .guest) fun b c d=>(zby b c d,[aT .bare (zb9 b c d)])
def zsG (N:Nat)(a0:Bare)(a1:Int)(a2:Guest):OA:=
 (oN (zcS a0) (oN (zbs a1 (ln a0.Guests)) (cond (zbA a1 (ln a0.Guests)) (oN (zcu a2) (oN (inb a1 (ln (zcG a0).Guests)) (share (up (zcG a0).Guests a1 (zbG a2)) (fun x4=>(some [(aT .bare ({ (zcG a0) with Guests:=x4 }:Bare))]))))) (some [(aT .bare (zcG a0))]))))
theorem zBs (a0:Bare)(a1:Int)(a2:Guest)(hc:zby a0 a1 a2=true):∃N,zsG N a0 a1 a2=some [aT .bare (zb9 a0 a1 a2)]:=by
 have hs:=zB.1 hc;refine ⟨0,?_⟩;unfold zsG oN;refine mu (must rfl (br (fun _=>mu (mu (shr ?_))) (fun _=>?_)))
 all_goals first|rfl|(simp only [*,zb9,zfF,zjs,cT,cF]<;>rfl)|simp_all[Ty.cells,zb9,zfF,zjs]
theorem zwr:uV 275 zpm:=kF3 zyf zq zl zn (zo []) zBs
@[simp] abbrev znb (b:Bare)(n:Int):Bool:=pc (SmB b)
@[simp] abbrev zkV (b:Bare)(n:Int):Bare:=zkk b n
def zu0:Run:=rF2 (dT .bare) dI fun b c=>(znb b c,[aT .bare (zkV b c)])
def zzO (N:Nat)(a0:Bare)(a1:Int):OA:=
 (oN (zcS a0) (cond (ilt (ln a0.Outs) 40) (oN (few (ln (ap (zcG a0).Outs [a1]))) (some [(aT .bare ({ (zcG a0) with Outs:=(ap (zcG a0).Outs [a1]) }:Bare))])) (some [(aT .bare (zcG a0))])))
theorem zIh (a0:Bare)(a1:Int)(hc:znb a0 a1=true):∃N,zzO N a0 a1=some [aT .bare (zkV a0 a1)]:=by
 have hs:=zB.1 hc;have hz:a0.Outs.length<=1048576:=hs.2.2
 refine ⟨0,?_⟩;unfold zzO oN;refine mu (br (fun _=>mu ?_) (fun _=>?_))
 all_goals first|rfl|(simp only [*,zkV,zkk,cT,cF]<;>rfl)|simp_all[Ty.cells,zkV,zkk]
theorem zCY:uV 291 zu0:=kF2 zyf zq zl zn (zo []) zIh
def zMl:zK:=[(275,zpm),(291,zu0)]++zRz
theorem zn1:zy zMl:=zf zwr (zf zCY zyf)
def znP (b:Bare)(g:Int)(x:Guest)(w:Bool):Bare :=
 bif zex x.Live (zdr (address x)) (zft w) then
  (bif w then zjs { b with Memory:=zfT b.Memory (zb4 x.Live (zdr (address x)) (zft w)) (zg6 (address x)) x.A } g (zbv x)
  else zjs b g (loaded x (cellAt b.Memory (zb4 x.Live (zdr (address x)) (zft w)) (zg6 (address x)))))
 else zjs b g (stopped x (zt4 (zdr (address x)) w))
def znQ (b:Bare)(g:Int)(x:Guest)(w:Int):Bare :=
 zjs (cond (cond (zim x.Ctl.Traps w) (ieq w 5) false) (zkk b (zc8 x.Prog x.Pc).X) b) g (zil x x.Ctl.Traps w)
def stepped (b:Bare)(g:Int)(x:Guest)(w:Int):Bare :=
 bif ieq w 1 then zjs b g (interrupted x) else (cond (ieq w 2) (zjs b g (plainly x)) (cond (ieq w 3) (znP b g x false) (cond (ieq w 4) (znP b g x true) (znQ b g x w))))
theorem tr1 (x:Guest)(t w:Int):ieq w 6=true->zil x t w=stopped x (zx5 (zc8 x.Prog x.Pc).X)/\zim t w=false:=by
 intro h;simp[zil,zim,h]
theorem tr2 (x:Guest)(t w:Int):ieq w 6=false->(ieq w 5=false->ieq w 6=false->ieq w 7=true)->zcN t (zew w)=true->zil x t w=zlk x w/\zim t w=false:=by
 intro h6 h7 h;unfold zil zim zlk zew at *;cases h5:ieq w 5<;>simp_all
theorem tr3 (x:Guest)(t w:Int):ieq w 6=false->ieq w 7=false->zcN t (zew w)=false->ieq w 5=true->zil x t w=zbv x/\zim t w=true:=by
 intro h6 h7 h h5;unfold zil zim zew at *
 simp_all
theorem tr4 (x:Guest)(t w:Int):ieq w 6=false->(ieq w 5=false->ieq w 6=false->ieq w 7=true)->zcN t (zew w)=false->ieq w 5=false->zil x t w=held x:=by
 intro h6 h7 h h5;unfold zil zew at *
 simp_all
def zkO (b:Bare)(g:Int):Bool:=bif hasB g (ln b.Guests) then (cond (zds b) (!ieq (zD (gAt b g)) 0) false) else false
def zg9 (b:Bare)(g:Int):Bare:=bif zkO b g then stepped b g (gAt b g) (zD (gAt b g)) else b
@[simp] theorem zLR {b:Bare}{g:Int}{x:Guest}{w:Bool}(h:SmB b)(hx:SmG x):SmB (znP b g x w):=by
 unfold znP;cases zex x.Live (zdr (address x)) (zft w)
 .exact zju h hx
 .cases w
  .exact zju h (zB1 _ hx)
  .exact ⟨zJC h.1,zEp h.2.1 (zjK hx),h.2.2⟩
@[simp] theorem zS8 {b:Bare}{g:Int}{x:Guest}{w:Int}(h:SmB b)(hx:SmG x):SmB (znQ b g x w):=by
 unfold znQ;cases (cond (zim x.Ctl.Traps w) (ieq w 5) false)
 .exact zju h (zvF _ _ hx)
 .exact zju (zB0 h) (zvF _ _ hx)
@[simp] theorem zLe {b:Bare}{g:Int}{x:Guest}{w:Int}(h:SmB b)(hx:SmG x):SmB (stepped b g x w):=by
 unfold stepped;cases ieq w 1
 .cases ieq w 2
  .cases ieq w 3
   .cases ieq w 4
    .exact zS8 h hx
    .exact zLR h hx
   .exact zLR h hx
  .exact zju h (zxS hx)
 .exact zju h (zLS hx)
@[simp] theorem zUR {b:Bare}{g:Int}(h:SmB b):SmB (zg9 b g):=by
 unfold zg9;cases zkO b g
 .exact h
 .exact zLe h (zma g h)
theorem zSa (x:Guest):ieq (zD x) 0=false->ieq (zD x) 1=false->ieq (zD x) 2=false->ieq (zD x) 3=false->ieq (zD x) 4=false->ieq (zD x) 5=false->ieq (zD x) 6=false->ieq (zD x) 7=true:=by
 unfold zD zBL;cases canRun x
 .intro h;cases h
 .cases zjv x
  .simp only [cT,cF];generalize (zc8 x.Prog x.Pc).Op=o;cases ieq o 3<;>cases ieq o 4<;>cases ieq o 5<;>cases ieq o 6<;>cases ieq o 7<;>simp [ieq]
  .intro _ h;cases h
theorem zLD {x:Int}{a b:Int}(h:ieq x a=true)(hab:ieq a b=false):ieq x b=false:=by
 have:x=a:=by simpa [ieq] using h
 rw[this];exact hab
@[simp] abbrev zoc (b:Bare)(g:Int):Bool:=pc (SmB b)
@[simp] abbrev zf0 (b:Bare)(g:Int):Bare:=zg9 b g
@[simp] abbrev zjU (b:Bare)(g:Int):Bool:=zkO b g
def zk6:Run:=rF2 (dT .bare) dI fun b c=>(zoc b c,[aT .bare (zf0 b c),aB (zjU b c)])
def ztr (N:Nat)(a0:Bare)(a1:Int):OA:=
 let y21:=a0.Memory;let y12:=(aT .bare (zcG a0));let y0:=(zdV a0 a1);let y20:=y0.Ctl.Traps;let y18:=(aT .bare (zb9 a0 a1 (ziD y0)));let y6:=(zeV y0);let y15:=(aT .bare (zb9 a0 a1 (zga y0 y6)));let y4:=(zhk y0);let y16:=(zdU y4);let y10:=(zcL y4);let y3:=(ieq y6 4);let y8:=(zfM y10 y3);let y13:=(aT .bare (zb9 a0 a1 (zeb y0 y8)));let y2:=(zek y0.Prog y0.Pc).X;let y19:=(zby (zkV a0 y2) a1 (zcZ y0));let y11:=(aT .bare (zb9 (zkV a0 y2) a1 (zcZ y0)));let y9:=(zeb y0 (zge y2));let y1:=(zfg y0.Live y10 (zdg y3));let y7:=(zje y21 y1 y16);let y14:=(aT .bare (zb9 a0 a1 (zhm y0 y7)));let y5:=({ a0 with Memory:=(zh5 y21 y1 y16 y0.A) }:Bare);let y17:=(aT .bare (zb9 y5 a1 (zho y0))); (oN (zgR a0 a1) (oN (zgj y0) (oN (zh0 a0) (cond (nB (zc5 a0)) (oN (zcS a0) (some [y12,(aB false)])) (cond (nB (zeF a0 a1)) (oN (zcS a0) (some [y12,(aB false)])) (cond (ieq y6 0) (oN (zcS a0) (some [y12,(aB false)])) (oN (zlu y0) (oN (zea y0.Prog y0.Pc) (cond (ieq y6 1) (oN (zj1 y0) (oN (zby a0 a1 (zfe y0)) (some [(aT .bare (zb9 a0 a1 (zfe y0))),(aB true)]))) (cond (ieq y6 2) (oN (zpR y0) (oN (zby a0 a1 (zjD y0)) (some [(aT .bare (zb9 a0 a1 (zjD y0))),(aB true)]))) (cond (ieq y6 3) (cond (ieq y6 3) (oN (zd9 y4) (oN (zj3 y3) (oN (zgC y0.Live y10 (zdg y3)) (cond (nB (zes y0.Live y10 (zdg y3))) (oN (zd9 y4) (oN (zgz y10 y3) (oN (zdW y0 y8) (oN (zby a0 a1 (zeb y0 y8)) (some [y13,(aB true)]))))) (cond y3 (oN (zd8 y4) (oN (zhq y21 y1 y16 y0.A) (oN (zj7 y0) (oN (zby y5 a1 (zho y0)) (some [y17,(aB true)]))))) (oN (zd8 y4) (oN (zjY y21 y1 y16) (oN (zj2 y0 y7) (oN (zby a0 a1 (zhm y0 y7)) (some [y14,(aB true)])))))))))) (cond (ieq y6 6) (oN (zjX y2) (oN (zdW y0 (zge y2)) (oN (zby a0 a1 y9) (some [(aT .bare (zb9 a0 a1 y9)),(aB true)])))) (oN (zke y6) (oN (zgS y20 (zeW y6)) (cond (zf9 y20 (zeW y6)) (oN (ziH y0 y6) (oN (zby a0 a1 (zga y0 y6)) (some [y15,(aB true)]))) (cond (ieq y6 5) (oN (znb a0 y2) (oN (zc7 y0) (oN y19 (some [y11,(aB true)])))) (oN (zjg y0) (oN (zby a0 a1 (ziD y0)) (some [y18,(aB true)]))))))))) (cond y3 (oN (zd9 y4) (oN (zj3 y3) (oN (zgC y0.Live y10 (zdg y3)) (cond (nB (zes y0.Live y10 (zdg y3))) (oN (zd9 y4) (oN (zgz y10 y3) (oN (zdW y0 y8) (oN (zby a0 a1 (zeb y0 y8)) (some [y13,(aB true)]))))) (cond y3 (oN (zd8 y4) (oN (zhq y21 y1 y16 y0.A) (oN (zj7 y0) (oN (zby y5 a1 (zho y0)) (some [y17,(aB true)]))))) (oN (zd8 y4) (oN (zjY y21 y1 y16) (oN (zj2 y0 y7) (oN (zby a0 a1 (zhm y0 y7)) (some [y14,(aB true)])))))))))) (cond (ieq y6 6) (oN (zjX y2) (oN (zdW y0 (zge y2)) (oN (zby a0 a1 y9) (some [(aT .bare (zb9 a0 a1 y9)),(aB true)])))) (oN (zke y6) (oN (zgS y20 (zeW y6)) (cond (zf9 y20 (zeW y6)) (oN (ziH y0 y6) (oN (zby a0 a1 (zga y0 y6)) (some [y15,(aB true)]))) (cond (ieq y6 5) (oN (znb a0 y2) (oN (zc7 y0) (oN y19 (some [y11,(aB true)])))) (oN (zjg y0) (oN (zby a0 a1 (ziD y0)) (some [y18,(aB true)]))))))))))))))))))))
theorem zDH (a0:Bare)(a1:Int)(hc:zoc a0 a1=true):∃N,ztr N a0 a1=some [aT .bare (zf0 a0 a1),aB (zjU a0 a1)]:=by
 have hs:=zB.1 hc;have hx:=zma a1 hs;have hz:_/\_/\_:=hs;have hg:a0.Guests.length<=1048576:=hs.2.1.1;have hw7:=zSa (gAt a0 a1);have h34:ieq (zD (gAt a0 a1)) 3=true->ieq (zD (gAt a0 a1)) 4=false:=fun h=>zLD h rfl;have h57:ieq (zD (gAt a0 a1)) 5=true->ieq (zD (gAt a0 a1)) 7=false:=fun h=>zLD h rfl;have t1:=tr1 (gAt a0 a1) (gAt a0 a1).Ctl.Traps (zD (gAt a0 a1));have t2:=tr2 (gAt a0 a1) (gAt a0 a1).Ctl.Traps (zD (gAt a0 a1));have t3:=tr3 (gAt a0 a1) (gAt a0 a1).Ctl.Traps (zD (gAt a0 a1));have t4:=tr4 (gAt a0 a1) (gAt a0 a1).Ctl.Traps (zD (gAt a0 a1));have hp:∀n,SmB (zkk a0 n):=fun n=>zB0 hs
 refine ⟨0,?_⟩;unfold ztr oN nB
 conv=>zeta
 refine mu (must rfl (must rfl (brN (fun _=>mu ?_) (fun _=>brN (fun _=>mu ?_) (fun _=>br (fun _=>mu ?_) (fun _=>must rfl (must rfl (br (fun _=>mu (mu ?_)) (fun _=>br (fun _=>mu (mu ?_)) (fun _=>br (fun _=>br (fun _=>must rfl (must rfl (must rfl (brN (fun _=>must rfl (must rfl (mu (mu ?_)))) (fun _=>br (fun _=>must rfl (mu (mu (mu ?_)))) (fun _=>must rfl (must rfl (mu (mu ?_))))))))) (fun _=>br (fun _=>must rfl (mu (mu ?_))) (fun _=>must rfl (must rfl (br (fun _=>mu (mu ?_)) (fun _=>br (fun _=>mu (mu (mu ?_))) (fun _=>mu (mu ?_)))))))) (fun _=>br (fun _=>must rfl (must rfl (must rfl (brN (fun _=>must rfl (must rfl (mu (mu ?_)))) (fun _=>br (fun _=>must rfl (mu (mu (mu ?_)))) (fun _=>must rfl (must rfl (mu (mu ?_))))))))) (fun _=>br (fun _=>must rfl (mu (mu ?_))) (fun _=>must rfl (must rfl (br (fun _=>mu (mu ?_)) (fun _=>br (fun _=>mu (mu (mu ?_))) (fun _=>mu (mu ?_))))))))))))))))))
 all_goals first|rfl|(simp only [*,zf0,zjU,zg9,zkO,stepped,znP,znQ,zfF,zft,cT,cF]<;>rfl)|simp_all[Ty.cells,zf0,zjU,zg9,zkO,stepped,znP,znQ,zfF,zft]
theorem zn8:uV 174 zk6:=kF2 zn1 zq zl zn (zo []) zDH
def SmK (k:Kept):Prop:=k.Known.length<=1048576/\k.Slots.length<=1048576
def zCp (l:List Kept):Prop:=l.length<=1048576/\∀x∈l,SmK x
def ziY (m:Mon):Prop:=m.Outer.length<=1048576/\SmM m.Out/\m.Dirty.length<=1048576/\znX m.Guests/\m.Outs.length<=1048576/\zCp m.Tables
def ztQ (l:List Mon):Prop:=l.length<=1048576/\∀x∈l,ziY x
def SmH (h:Host):Prop:=SmM h.Memory/\ztQ h.Mons/\h.Buffer.length<=1048576/\h.IoBuffer.length<=1048576
@[simp] theorem zvR (k:Kept):(∀c∈Ty.cells .kept k,CVB sm c)↔SmK k:=by simp[Ty.cells,SmK,zQE]
@[simp] theorem zP5 (l:List Kept):CVB sm (.s .kept l)↔zCp l:=by rw[zhU];simp only[zvR];rfl
@[simp] theorem zSm (m:Mon):(∀c∈Ty.cells .mon m,CVB sm c)↔ziY m:=by
 simp only[Ty.cells,qH,qU,or_false,uT,forall_eq,znC,zt1,zP5,zMm,zKo,zKn,zRQ,and_true,true_and];rfl
@[simp] theorem zSz (l:List Mon):CVB sm (.s .mon l)↔ztQ l:=by rw[zhU];simp only[zSm];rfl
@[simp] theorem zbL (h:Host):zcn h↔SmH h:=by
 unfold zcn;simp only[zbh,qH,qU,or_false,uT,forall_eq,znC,zSz,zHy];rfl
theorem zbj {p:Prop}(h:p):pc p=true:=zbk h
theorem zEq {l:List Kept}{i:Int}{x:Kept}(h:zCp l)(hx:SmK x):zCp (up l i x):=by
 refine ⟨by simpa using h.1,fun y hy=>?_⟩
 rcases jP hy with hy|rfl
 .exact h.2 y hy
 .exact hx
theorem zpA {l:List Mon}{i:Int}{x:Mon}(h:ztQ l)(hx:ziY x):ztQ (up l i x):=by
 refine ⟨by simpa using h.1,fun y hy=>?_⟩
 rcases jP hy with hy|rfl
 .exact h.2 y hy
 .exact hx
theorem zqo {α:Type}{l:List α}(h:l.length<=1048576):few (ln (ap [] l))=true:=by
 rw[ziy,zSI];omega
@[simp] abbrev zee (k:Kept):Bool:=pc (SmK k)
@[simp] abbrev zci (k:Kept):Kept:=k
def zq0:Run:=rF1 (dT .kept) fun b=>(zee b,[aT .kept (zci b)])
def ztF (N:Nat)(a0:Kept):OA:=
 (oN (few (ln (ap [] a0.Known))) (oN (zdE a0.Slots) (some [(aT .kept (⟨(ap [] a0.Known),(zcI a0.Slots)⟩:Kept))])))
theorem zDW (a0:Kept)(hc:zee a0=true):∃N,ztF N a0=some [aT .kept (zci a0)]:=by
 have hs:=zB.1 hc;obtain ⟨h1,h2⟩:=hs;have hs1:a0.Known.length<=2147483648:=(by omega);have hs2:a0.Slots.length<=2147483648:=(by omega)
 refine ⟨0,?_⟩;unfold ztF oN;refine mu (mu ?_)
 first|rfl|(simp only [*,zci,cT,cF]<;>rfl)|simp_all[Ty.cells,zci]
theorem zyE:uV 154 zq0:=kF1 zn1 zq zl zn (zo []) zDW
def zRo:zK:=[(154,zq0)]++zMl
theorem zHq:zy zRo:=zf zyE zn1
@[simp] abbrev zgT (m:Mon):Bool:=pc (ziY m)
@[simp] abbrev zhs (m:Mon):Mon:=m
def zs8:Run:=rF1 (dT .mon) fun b=>(zgT b,[aT .mon (zhs b)])
def zwY (N:Nat)(a0:Mon):OA:=
 (oN (zdE a0.Outer) (oN (zdX a0.Out) (oN (few (ln (ap [] a0.Dirty))) (oN (zdh a0.Guests) (oN (zcw a0.Outs) (iter (σ:=(Int×(Int×(Int×(Int×(Int×(Int×(Int×(Int×(lK×(lK×(lS×(lM×(lB×(lG×((List Int)×(lS×(lM×(lB×(lG×((List Int)×(lK×Unit)))))))))))))))))))))) N (fun r2 s3=>let y5:=s3.2.2.2.2.2.2.2.2.2.2.2.2.1;let y4:=s3.2.2.2.2.2.2.2.2.2.2.2.2.2.1;let y3:=s3.2.2.2.2.2.2.2.2.2.2.2.2.2.2.1;let y2:=s3.2.2.2.2.2.2.2.2.1;let y1:=s3.2.2.2.2.2.2.2.2.2.1;let y0:=(ix y1 s3.2.1 zcr); (cond (ilt s3.2.1 s3.1) (oN (inb s3.2.1 (ln y1)) (oN (zee y0) (oN (few (ln (ap y2 [(zci y0)]))) (r2 (s3.1,((zG .i64 s3.2.1 1),(s3.2.2.1,(s3.2.2.2.1,(s3.2.2.2.2.1,(s3.2.2.2.2.2.1,(s3.2.2.2.2.2.2.1,(s3.2.2.2.2.2.2.2.1,((ap y2 [(zci y0)]),(y1,(s3.2.2.2.2.2.2.2.2.2.2.1,(s3.2.2.2.2.2.2.2.2.2.2.2.1,(y5,(y4,(y3,(s3.2.2.2.2.2.2.2.2.2.2.2.2.2.2.2.1,(s3.2.2.2.2.2.2.2.2.2.2.2.2.2.2.2.2.1,(s3.2.2.2.2.2.2.2.2.2.2.2.2.2.2.2.2.2.1,(s3.2.2.2.2.2.2.2.2.2.2.2.2.2.2.2.2.2.2.1,(s3.2.2.2.2.2.2.2.2.2.2.2.2.2.2.2.2.2.2.2.1,(s3.2.2.2.2.2.2.2.2.2.2.2.2.2.2.2.2.2.2.2.2.1,()))))))))))))))))))))))))) (some [(aT .mon (⟨s3.2.2.2.2.2.2.2.2.2.2.1,s3.2.2.2.2.2.2.2.2.2.2.2.1,y5,y4,y3,s3.2.2.1,s3.2.2.2.1,y2,s3.2.2.2.2.1⟩:Mon))]))) ((ln a0.Tables),(0,(a0.Pending,(a0.Traps,(a0.Own,(0,(0,(0,([],(a0.Tables,((zcI a0.Outer),((zcs a0.Out),((ap [] a0.Dirty),((zec a0.Guests),((zct a0.Outs),([],([],([],([],([],([],())))))))))))))))))))))))))))
def zGx:FuncId->Nat->Option Tmpl:=zo [(159,0,{ n:=44,tm:=[(1,.lp 0 0),(2,.lp 1 0),(3,.sl 0 []),(29,.sl 1 []),(30,ti),(31,ti)],lo:=[(0,[.sl 2 [],.sl 3 [],.sl 4 [],.sl 5 [],.sl 6 [],ti,ti,.sl 1 [],ti]),(1,[.sl 7 [],.sl 8 [],.sl 9 [],.sl 10 [],.sl 11 [],ti,ti,.sl 12 [],ti])],ro:=[(0,.kept,true),(1,.kept,false),(2,.slot,true),(3,(.sl .int),true),(4,.bool,true),(5,.guest,true),(6,.int,true),(7,.slot,true),(8,(.sl .int),true),(9,.bool,true),(10,.guest,true),(11,.int,true),(12,.kept,true)] })]
theorem zF8 (a0:Mon)(hc:zgT a0=true):∃N,zwY N a0=some [aT .mon (zhs a0)]:=by
 obtain ⟨h1,h2,h3,h4,h5,h6⟩:=zB.1 hc;have hl:=zcA h6.1;refine zbK fun N hNN=>?_;unfold zwY oN
 conv=>zeta
 have c1:zdE a0.Outer=true:=by simp;omega
 have c2:zdX a0.Out=true:=by simp;exact h2
 have c4:zdh a0.Guests=true:=by simp;exact h4
 have c5:zcw a0.Outs=true:=by simp;omega
 refine must c1 (must c2 (must (zqo h3) (must c4 (must c5 ?_))));refine (zQ a0.Tables (fun i (t:lK)=>((ln a0.Tables),(i:Int),a0.Pending,a0.Traps,a0.Own,0,0,0,t,a0.Tables,(zcI a0.Outer),(zcs a0.Out),(ap [] a0.Dirty),(zec a0.Guests),(zct a0.Outs),[],[],[],[],[],[],())) _ (fun _ x acc κ=>bif zee x then (cond (few (ln (ap acc [zci x]))) (κ (ap acc [zci x])) none) else none) (fun (t:lK)=>(some [(.agg (Ty.cells .mon (⟨(zcI a0.Outer),(zcs a0.Out),(ap [] a0.Dirty),(zec a0.Guests),(zct a0.Outs),a0.Pending,a0.Traps,t,a0.Own⟩:Mon)))])) (fun i hi t rec=>?_) (fun t rec=>?_) _ ([]) (hNN hl.1)).trans ?_
 .simp only [zbl hi,zU hi,zZ hi,zN hi hl.1,cT]
 .simp only [zbe,cF]
 exact zg8 zee zci _ a0.Tables 0 [] (fun x hx=>⟨zbj (h6.2 x hx),rfl⟩) (by simpa using hl.2)
theorem zAY:uV 159 zs8:=kF1 zHq zq zl zn zGx zF8
def zRp:zK:=[(159,zs8)]++zRo
theorem zrv:zy zRp:=zf zAY zHq
@[simp] abbrev zed (h:Host):Bool:=pc (zcn h)
@[simp] abbrev zY (h:Host):Host:=h
def zk8:Run:=rF1 dH fun b=>(zed b,[aH (zY b)])
def ztD (N:Nat)(a0:Host):OA:=
 (oN (zdX a0.Memory) (oN (few (ln (ap [] a0.Buffer))) (oN (few (ln (ap [] a0.IoBuffer))) (iter (σ:=(Int×(Int×(lN×(lM×(lN×(lE×(lE×(lM×(lN×(lE×(lE×Unit)))))))))))) N (fun r2 s3=>let y1:=(ix s3.2.2.1 s3.2.1 zi);let y0:=(ap s3.2.2.2.2.2.2.2.2.1 [(zhs y1)]); (cond (ilt s3.2.1 s3.1) (oN (inb s3.2.1 (ln s3.2.2.1)) (oN (zgT y1) (oN (few (ln y0)) (r2 (s3.1,((zG .i64 s3.2.1 1),(s3.2.2.1,(s3.2.2.2.1,(s3.2.2.2.2.1,(s3.2.2.2.2.2.1,(s3.2.2.2.2.2.2.1,(s3.2.2.2.2.2.2.2.1,(y0,(s3.2.2.2.2.2.2.2.2.2.1,(s3.2.2.2.2.2.2.2.2.2.2.1,()))))))))))))))) (some [(aH (⟨s3.2.2.2.2.2.2.2.1,s3.2.2.2.2.2.2.2.2.1,s3.2.2.2.2.2.2.2.2.2.1,s3.2.2.2.2.2.2.2.2.2.2.1⟩:Host))]))) ((ln a0.Mons),(0,(a0.Mons,([],([],([],([],((zcs a0.Memory),([],((ap [] a0.Buffer),((ap [] a0.IoBuffer),())))))))))))))))
def zEv:FuncId->Nat->Option Tmpl:=zo [(68,0,{ n:=34,tm:=[(2,.lp 0 0),(3,.lp 1 0),(19,.sl 0 []),(20,ti),(21,ti)],lo:=[(0,[.sl 1 [],.sl 2 [],.sl 3 [],.sl 4 []]),(1,[.sl 5 [],.sl 6 [],.sl 7 [],.sl 8 []])],ro:=[(0,.mon,false),(1,(.sl .int),true),(2,.mon,true),(3,.entry,true),(4,.entry,true),(5,(.sl .int),true),(6,.mon,true),(7,.entry,true),(8,.entry,true)] })]
theorem zDU (a0:Host)(hc:zed a0=true):∃N,ztD N a0=some [aH (zY a0)]:=by
 obtain ⟨h1,h2,h3,h4⟩:=(zbL a0).1 (zB.1 hc);have hl:=zcA h2.1;refine zbK fun N hNN=>?_;unfold ztD oN
 conv=>zeta
 have c1:zdX a0.Memory=true:=by simp;exact h1
 refine must c1 (must (zqo h3) (must (zqo h4) ?_));refine (zQ a0.Mons (fun i (t:lN)=>((ln a0.Mons),(i:Int),a0.Mons,[],[],[],[],(zcs a0.Memory),t,(ap [] a0.Buffer),(ap [] a0.IoBuffer),())) _ (fun _ x acc κ=>bif zgT x then (cond (few (ln (ap acc [zhs x]))) (κ (ap acc [zhs x])) none) else none) (fun (t:lN)=>(some [(.agg (zbh (⟨(zcs a0.Memory),t,(ap [] a0.Buffer),(ap [] a0.IoBuffer)⟩:Host)))])) (fun i hi t rec=>?_) (fun t rec=>?_) _ ([]) (hNN hl.1)).trans ?_
 .simp only [zbl hi,zU hi,zZ hi,zN hi hl.1,cT]
 .simp only [zbe,cF]
 exact zg8 zgT zhs _ a0.Mons 0 [] (fun x hx=>⟨zbj (h2.2 x hx),rfl⟩) (by simpa using hl.2)
theorem zoa:uV 68 zk8:=kF1 zrv zq zl zn zEv zDU
def allI {α:Type}(p:Nat->α->Bool):List α->Nat->Bool
 | [],_=>true
 | x :: l,i=>p i x&&allI p l (i+1)
theorem zyn {α ρ:Type}(p:Nat->α->Bool)(r:Option ρ)(K:Unit->Option ρ):∀(l:List α) (i:Nat),goL (fun i x (_:Unit) k=>bif p i x then k () else r) K l i ()=bif allI p l i then K () else r
 | [],_=>rfl
 | x :: l,i=>by
  simp only[goL,allI];cases p i x
  .rfl
  .simp only [cT,Bool.true_and];exact zyn p r K l (i+1)
theorem zEU {α:Type}(q:α->Bool)(l:List α)(d:α):∀(n i:Nat),i+n<=l.length->zkN (fun j=>q (ix l (j:Int) d)) n i=((l.drop i).take n).all q
 | 0,i,_=>by simp[zkN]
 | n+1,i,h=>by
  have hi:i<l.length:=by omega
  rw[j5 hi,List.take_succ_cons,kQ,<- zEU q l d n (i+1) (by omega)]
  simp only[zkN,zZ hi]
def sameKey (a b:Entry):Bool:=bif ieq a.Tag b.Tag then ieq a.Page b.Page else false
def alone (l:List Entry)(i:Nat)(x:Entry):Bool:=(l.take i).all fun y=>!sameKey x y
def zlq (l:List Entry):Bool:=bif allI (alone l) l 0 then ile (ln l) 6 else false
theorem zQc {α:Type}{l:List α}{i:Nat}(h:i<=l.length):inr 0 (i:Int) (ln l)=true:=qL (by simp only[ln];omega)
@[simp] abbrev zjW (l:List Entry):Bool:=true
@[simp] abbrev zjV (l:List Entry):Bool:=zlq l
def zqO:Run:=rF1 (dS .entry) fun b=>(zjW b,[aB (zjV b)])
def zts (N:Nat)(a0:lE):OA:=
 (iter (σ:=(Int×(Int×(lE×Unit)))) N (fun r2 s3=>let y3:=s3.2.2.1;let y1:=(ix y3 s3.2.1 zdo); (cond (ilt s3.2.1 s3.1) (oN (inb s3.2.1 (ln y3)) (oN (inr 0 s3.2.1 (ln y3)) (iter (σ:=(Int×(Int×(Int×(Int×(Int×(Int×(Int×(Int×(lE×(lE×Unit))))))))))) N (fun r4 s5=>let y4:=s5.2.2.2.1;let y2:=s5.2.2.2.2.2.2.2.2.2.1;let y0:=(r4 (s5.1,(s5.2.1,(s5.2.2.1,((zG .i64 y4 1),(s5.2.2.2.2.1,(s5.2.2.2.2.2.1,(s5.2.2.2.2.2.2.1,(s5.2.2.2.2.2.2.2.1,(s5.2.2.2.2.2.2.2.2.1,(y2,()))))))))))); (cond (ilt y4 s5.2.2.1) (oN (inb y4 (ln y2)) (cond (ieq s5.2.2.2.2.1 (ix y2 y4 zdo).Tag) (cond (ieq s5.2.2.2.2.2.1 (ix y2 y4 zdo).Page) oF y0) y0)) (r2 (s5.1,((zG .i64 s5.2.1 1),(s5.2.2.2.2.2.2.2.2.1,())))))) (s3.1,(s3.2.1,((ln (tk y3 s3.2.1)),(0,(y1.Tag,(y1.Page,(y1.Host,(y1.Rights,(y3,((tk y3 s3.2.1),()))))))))))))) (some [(aB (ile (ln y3) 6))]))) ((ln a0),(0,(a0,()))))
def zEu:FuncId->Nat->Option Tmpl:=zo [(181,0,{ n:=39,tm:=[(0,.sl 0 []),(7,.sl 0 []),(8,ti),(9,ti)],lo:=[],ro:=[(0,.entry,false)] }),(181,2,{ n:=39,tm:=[(0,.sl 0 []),(4,.lp 0 0),(7,.sl 0 []),(8,ti),(9,ti),(16,.sl 1 []),(17,ti),(18,ti)],lo:=[(0,[ti,ti,ti,ti])],ro:=[(0,.entry,false),(1,.entry,false)] })]
theorem zDI (a0:List Entry)(hb:zbq big [aS .entry a0])(hc:zjW a0=true):∃N,zts N a0=some [aB (zjV a0)]:=by
 have hl:=(len0 hb);refine zbK fun N hNN=>?_;unfold zts oN
 conv=>zeta
 refine (zQ a0 (fun i (t:Unit)=>((ln a0),(i:Int),a0,())) _ (fun i (x:Entry) (_:Unit) κ=>bif alone a0 i x then κ () else oF) (fun (t:Unit)=>(some [(.one (.b (ile (ln a0) 6)))])) (fun i hi t rec=>?_) (fun t rec=>?_) _ () (hNN hl)).trans ?_
 .simp only [zbl hi,zU hi,zZ hi,zN hi hl,cT];rw[zQc (Nat.le_of_lt hi),cT];have hk:(tk a0 (i:Int)).length<=big:=jC (by simp[tk];omega) hl
  refine (zQ (tk a0 (i:Int)) (fun j (u:Unit)=>((ln a0),(i:Int),(ln (tk a0 (i:Int))),(j:Int),a0[i].Tag,a0[i].Page,a0[i].Host,a0[i].Rights,a0,(tk a0 (i:Int)),())) _ (fun _ (y:Entry) (_:Unit) κ=>bif !sameKey a0[i] y then κ () else oF) (fun (u:Unit)=>(rec ((ln a0),((((i+1:Nat)):Int),(a0,()))))) (fun j hj u rec1=>?_) (fun u rec1=>?_) _ () (hNN hk)).trans ?_
  .simp only [zbl hj,zU hj,zZ hj,zN hj hk,cT,zN hi hl];unfold sameKey;cases ieq a0[i].Tag (tk a0 (i:Int))[j].Tag<;>cases ieq a0[i].Page (tk a0 (i:Int))[j].Page<;>rfl
  .simp only [zbe,cF,zN hi hl]
  rw[zdO (fun y=>!sameKey a0[i] y)];rfl
 .simp only [zbe,cF]
 rw[zyn (alone a0)];unfold zjV zlq;cases allI (alone a0) a0 0<;>rfl
theorem zys:uV 181 zqO:=hF1 zrv zq zl zn zEu zDI
@[simp] abbrev zkr (l:List Entry):Bool:=true
@[simp] abbrev zkq (l:List Entry):Bool:=zlq l
def zq3:Run:=rF1 (dS .entry) fun b=>(zkr b,[aB (zkq b)])
def ztJ (N:Nat)(a0:lE):OA:=
 (iter (σ:=(Int×(lE×Unit))) N (fun r2 s3=>(cond (ilt s3.1 (ln s3.2.1)) (iter (σ:=(Int×(Int×(lE×Unit)))) N (fun r4 s5=>let y0:=s5.2.2.1;let y2:=(ix y0 s5.2.1 zdo);let y1:=(r4 (s5.1,((zG .i64 s5.2.1 1),(y0,())))); (cond (ilt s5.2.1 s5.1) (oN (inb s5.1 (ln y0)) (oN (inb s5.2.1 (ln y0)) (cond (ieq (ix y0 s5.1 zdo).Tag y2.Tag) (oN (inb s5.1 (ln y0)) (oN (inb s5.2.1 (ln y0)) (cond (ieq (ix y0 s5.1 zdo).Page y2.Page) oF y1))) y1))) (r2 ((zG .i64 s5.1 1),(y0,()))))) (s3.1,(0,(s3.2.1,())))) (some [(aB (ile (ln s3.2.1) 6))]))) (0,(a0,())))
def zEx:FuncId->Nat->Option Tmpl:=zo [(368,0,{ n:=43,tm:=[(0,.sl 0 []),(3,ti)],lo:=[],ro:=[(0,.entry,false)] }),(368,2,{ n:=43,tm:=[(0,.sl 0 []),(3,ti),(4,ti)],lo:=[],ro:=[(0,.entry,false)] })]
theorem zDZ (a0:List Entry)(hb:zbq big [aS .entry a0])(hc:zkr a0=true):∃N,ztJ N a0=some [aB (zkq a0)]:=by
 have hl:=(len0 hb);refine zbK fun N hNN=>?_;unfold ztJ oN
 conv=>zeta
 refine (zQ a0 (fun i (t:Unit)=>((i:Int),a0,())) _ (fun i (x:Entry) (_:Unit) κ=>bif alone a0 i x then κ () else oF) (fun (t:Unit)=>(some [(.one (.b (ile (ln a0) 6)))])) (fun i hi t rec=>?_) (fun t rec=>?_) _ () (hNN hl)).trans ?_
 .simp only [zbl hi,zU hi,zZ hi,zN hi hl,cT];refine (zom i (fun (j:Nat) (_:Unit)=>((i:Int),((j:Int),(a0,())))) _ (fun j (_:Unit) κ=>bif !sameKey a0[i] (ix a0 (j:Int) zdo) then κ () else oF) (fun _=>rec (((i+1:Nat):Int),(a0,()))) (fun j hj u rec1=>?_) (fun u rec1=>?_) _ () (hNN (by omega))).trans ?_
  .have hj2:j<a0.length:=by omega
   simp only[show ilt (j:Int) (i:Int)=true from qL (by omega),zU hi,zU hj2,zZ hi,zN hj2 hl,cT]
   unfold sameKey;cases ieq a0[i].Tag (ix a0 (j:Int) zdo).Tag<;>cases ieq a0[i].Page (ix a0 (j:Int) zdo).Page<;>rfl
  .simp only [show ilt (i:Int) (i:Int)=false from qK (by omega),zN hi hl,cF]
  rw[zqr (fun j=>!sameKey a0[i] (ix a0 (j:Int) zdo)),zEU (fun y=>!sameKey a0[i] y) a0 _ i 0 (by omega)]
  rfl
 .simp only [zbe,cF]
 rw[zyn (alone a0)];unfold zkq zlq;cases allI (alone a0) a0 0<;>rfl
theorem zyH:uV 368 zq3:=hF1 zrv zq zl zn zEx zDZ
def zRq:zK:=[(68,zk8),(368,zq3),(181,zqO)]++zRp
theorem zyc:zy zRq:=zf zoa (zf zyH (zf zys zrv))
theorem zDA (a b:Int):igt a b = !ile a b:=by
 unfold igt ile
 by_cases h:a<=b
 .rw [qL h,qK (by omega)];rfl
 .rw [qK h,qL (by omega)];rfl
theorem stB {c M:Bool}{E:OA}(h:c=true->E=some [AV.one (.b M)]):(cond (cond c false true) (some [AV.one (.b false)]) E)=some [AV.one (.b (cond c M false))]:=by
 cases c
 .rfl
 .exact h rfl
theorem stI {a b:Int}{M:Bool}{E:OA}(h:ieq a b=true->E=some [AV.one (.b M)]):(cond (ine a b) (some [AV.one (.b false)]) E)=some [AV.one (.b (cond (ieq a b) M false))]:=by
 rw[zh7];cases hh:ieq a b
 .rfl
 .exact h hh
theorem stG {a b:Int}{M:Bool}{E:OA}(h:ile a b=true->E=some [AV.one (.b M)]):(cond (igt a b) (some [AV.one (.b false)]) E)=some [AV.one (.b (cond (ile a b) M false))]:=by
 rw[zDA];cases hh:ile a b
 .rfl
 .exact h hh
def znM (s:Slot)(p:List Int):Bool:=bif zcq s noSlot then zb3 p else (cond (enough s.Rights 1) (ile (ln p) 0) false)
def fits (m:Mon)(j:Nat):Bool:=znM (ix m.Outer (j:Int) zL) (ix m.Out (j:Int) [])
def zcM (m:Mon):Bool:=bif win (ln m.Guests) 1 2 then (cond (ieq (ln m.Tables) (ln m.Guests)) (cond (zcf m.Outer 8 12) (cond (ieq (ln m.Out) 8) (cond (ieq (ln m.Dirty) 8) (cond (ile (ln m.Outs) 40) (cond (zdK m.Pending) (cond (win m.Traps 0 3) (cond (win m.Own 0 1000000000) (cond (m.Guests.all zcl) (zkN (fits m) 8 0) false) false) false) false) false) false) false) false) false) else false
theorem zmb {t:List Slot}{n p:Int}(h:zcf t n p=true):ln t=n:=by
 unfold zcf at h;cases h1:t.all (fun s=>zdf s p)
 .rw [h1]at h;cases h
 .rw [h1]at h;exact qG h
@[simp] abbrev zlW (m:Mon):Bool:=true
@[simp] abbrev znH (m:Mon):Bool:=zcM m
def zxB:Run:=rF1 (dT .mon) fun b=>(zlW b,[aB (znH b)])
def zEK (N:Nat)(a0:Mon):OA:=
 let y5:=(ln a0.Guests); (oN (zbg y5 1 2) (cond (nB (zbn y5 1 2)) oF (cond (ine (ln a0.Tables) y5) oF (oN (ziE a0.Outer 8 12) (cond (nB (zfs a0.Outer 8 12)) oF (cond (ine (ln a0.Out) 8) oF (cond (ine (ln a0.Dirty) 8) oF (cond (igt (ln a0.Outs) 40) oF (oN (zgi a0.Pending) (cond (nB (zgh a0.Pending)) oF (oN (zbg a0.Traps 0 3) (cond (nB (zbn a0.Traps 0 3)) oF (oN (zbg a0.Own 0 1000000000) (cond (nB (zbn a0.Own 0 1000000000)) oF (iter (σ:=(Int×(Int×(Int×(Int×(Int×(lG×(lS×(lM×(lB×((List Int)×(lK×Unit)))))))))))) N (fun r2 s3=>let y6:=s3.2.2.2.2.2.2.1;let y3:=s3.2.2.2.2.2.1;let y7:=(ix y3 s3.2.1 zC); (cond (ilt s3.2.1 s3.1) (oN (inb s3.2.1 (ln y3)) (oN (ziC y7) (cond (nB (zhl y7)) oF (r2 (s3.1,((zG .i64 s3.2.1 1),(s3.2.2.1,(s3.2.2.2.1,(s3.2.2.2.2.1,(y3,(y6,(s3.2.2.2.2.2.2.2.1,(s3.2.2.2.2.2.2.2.2.1,(s3.2.2.2.2.2.2.2.2.2.1,(s3.2.2.2.2.2.2.2.2.2.2.1,()))))))))))))))) (iter (σ:=(Int×(Int×(Int×(Int×(Int×(lS×(lM×(lB×(lG×((List Int)×(lK×Unit)))))))))))) N (fun r4 s5=>let y4:=s5.2.1;let y2:=s5.2.2.2.2.2.2.1;let y1:=(ix s5.2.2.2.2.2.1 y4 zL);let y0:=(r4 (s5.1,((zG .i64 y4 1),(s5.2.2.1,(s5.2.2.2.1,(s5.2.2.2.2.1,(s5.2.2.2.2.2.1,(y2,(s5.2.2.2.2.2.2.2.1,(s5.2.2.2.2.2.2.2.2.1,(s5.2.2.2.2.2.2.2.2.2.1,(s5.2.2.2.2.2.2.2.2.2.2.1,())))))))))))); (cond (ilt y4 s5.1) (oN (inb y4 (ln s5.2.2.2.2.2.1)) (oN zbQ (cond (cond (ieq y1.Page zbx.Page) (ieq y1.Rights zbx.Rights) false) (oN (inb y4 (ln y2)) (oN (zfr (ix y2 y4 [])) (cond (nB (zer (ix y2 y4 []))) oF y0))) (oN (zch y1.Rights 1) (cond (nB (zcF y1.Rights 1)) oF (oN (inb y4 (ln y2)) (cond (igt (ln (ix y2 y4 [])) 0) oF y0))))))) oT)) ((ln y6),(0,(s3.2.2.1,(s3.2.2.2.1,(s3.2.2.2.2.1,(y6,(s3.2.2.2.2.2.2.2.1,(s3.2.2.2.2.2.2.2.2.1,(y3,(s3.2.2.2.2.2.2.2.2.2.1,(s3.2.2.2.2.2.2.2.2.2.2.1,())))))))))))))) (y5,(0,(a0.Pending,(a0.Traps,(a0.Own,(a0.Guests,(a0.Outer,(a0.Out,(a0.Dirty,(a0.Outs,(a0.Tables,()))))))))))))))))))))))))))
def zLh:FuncId->Nat->Option Tmpl:=zo [(182,0,{ n:=106,tm:=[(1,.lp 0 0),(64,.sl 0 []),(65,ti),(66,ti)],lo:=[(0,[.sl 1 [],.sl 2 [],.sl 3 [],.sl 0 [],.sl 4 [],ti,ti,.sl 5 [],ti])],ro:=[(0,.guest,false),(1,.slot,false),(2,(.sl .int),false),(3,.bool,false),(4,.int,false),(5,.kept,false)] }),(182,2,{ n:=106,tm:=[(1,.lp 0 0),(75,.sl 0 []),(76,ti),(77,ti)],lo:=[(0,[.sl 0 [],.sl 1 [],.sl 2 [],.sl 3 [],.sl 4 [],ti,ti,.sl 5 [],ti])],ro:=[(0,.slot,false),(1,(.sl .int),false),(2,.bool,false),(3,.guest,false),(4,.int,false),(5,.kept,false)] })]
theorem zKG (a0:Mon)(hb:zbq big [aT .mon a0])(hc:zlW a0=true):∃N,zEK N a0=some [aB (znH a0)]:=by
 have hg:a0.Guests.length<=big:=((zbN hb).1 (.s .guest a0.Guests) (by simp[AV.cvs,Ty.cells])).len
 have ho:a0.Outer.length<=big:=((zbN hb).1 (.s .slot a0.Outer) (by simp[AV.cvs,Ty.cells])).len
 refine zbK fun N hNN=>?_;unfold zEK znH zcM oN nB
 conv=>zeta
 refine must rfl (stB fun h0=>stI fun h1=>must rfl (stB fun h2=>stI fun h3=>stI fun h4=>stG fun h5=>must rfl (stB fun h6=>must rfl (stB fun h7=>must rfl (stB fun h8=>?_)))));have e1:=zmb h2;have e3:ln a0.Out=8:=qG h3;simp only[ln] at e1 e3;refine (zQ a0.Guests (fun i (t:Unit)=>((ln a0.Guests),(i:Int),a0.Pending,a0.Traps,a0.Own,a0.Guests,a0.Outer,a0.Out,a0.Dirty,a0.Outs,a0.Tables,())) _ (fun _ (x:Guest) (_:Unit) κ=>bif zcl x then κ () else oF) (fun (t:Unit)=>(iter (σ:=(Int×(Int×(Int×(Int×(Int×(lS×(lM×(lB×(lG×((List Int)×(lK×Unit)))))))))))) N (fun r4 s5=>(cond (ilt s5.2.1 s5.1) (cond (inb s5.2.1 (ln s5.2.2.2.2.2.1)) (cond zbQ (cond (cond (ieq (ix s5.2.2.2.2.2.1 s5.2.1 zL).Page zbx.Page) (ieq (ix s5.2.2.2.2.2.1 s5.2.1 zL).Rights zbx.Rights) false) (cond (inb s5.2.1 (ln s5.2.2.2.2.2.2.1)) (cond (zfr (ix s5.2.2.2.2.2.2.1 s5.2.1 [])) (cond (cond (zer (ix s5.2.2.2.2.2.2.1 s5.2.1 [])) false true) oF (r4 (s5.1,((zG .i64 s5.2.1 1),(s5.2.2.1,(s5.2.2.2.1,(s5.2.2.2.2.1,(s5.2.2.2.2.2.1,(s5.2.2.2.2.2.2.1,(s5.2.2.2.2.2.2.2.1,(s5.2.2.2.2.2.2.2.2.1,(s5.2.2.2.2.2.2.2.2.2.1,(s5.2.2.2.2.2.2.2.2.2.2.1,()))))))))))))) none) none) (cond (zch (ix s5.2.2.2.2.2.1 s5.2.1 zL).Rights 1) (cond (cond (zcF (ix s5.2.2.2.2.2.1 s5.2.1 zL).Rights 1) false true) oF (cond (inb s5.2.1 (ln s5.2.2.2.2.2.2.1)) (cond (igt (ln (ix s5.2.2.2.2.2.2.1 s5.2.1 [])) 0) oF (r4 (s5.1,((zG .i64 s5.2.1 1),(s5.2.2.1,(s5.2.2.2.1,(s5.2.2.2.2.1,(s5.2.2.2.2.2.1,(s5.2.2.2.2.2.2.1,(s5.2.2.2.2.2.2.2.1,(s5.2.2.2.2.2.2.2.2.1,(s5.2.2.2.2.2.2.2.2.2.1,(s5.2.2.2.2.2.2.2.2.2.2.1,()))))))))))))) none)) none)) none) none) (some [(.one (.b true))]))) ((ln a0.Outer),(0,(a0.Pending,(a0.Traps,(a0.Own,(a0.Outer,(a0.Out,(a0.Dirty,(a0.Guests,(a0.Outs,(a0.Tables,()))))))))))))) (fun i hi t rec=>?_) (fun t rec=>?_) _ () (hNN hg)).trans ?_
 .simp only [zbl hi,zU hi,zZ hi,zN hi hg,cT];simp only[ziC,zhl,cT];cases zcl a0.Guests[i]<;>rfl
 .simp only [zbe,cF]
 rw[zdO zcl];cases a0.Guests.all zcl
 .rfl
 simp only[cT];refine (zQ a0.Outer (fun j (u:Unit)=>((ln a0.Outer),(j:Int),a0.Pending,a0.Traps,a0.Own,a0.Outer,a0.Out,a0.Dirty,a0.Guests,a0.Outs,a0.Tables,())) _ (fun j (_:Slot) (_:Unit) κ=>bif fits a0 j then κ () else oF) (fun (u:Unit)=>(some [(.one (.b true))])) (fun j hj u rec1=>?_) (fun u rec1=>?_) _ () (hNN ho)).trans ?_
 .simp only [zbl hj,zU hj,zZ hj,zN hj ho,cT];have hj2:j<a0.Out.length:=by omega
  simp only[zbQ,zbx,zfr,zer,zch,zcF,zU hj2,zDA,cT];unfold fits znM;simp only[zZ hj,zcq];cases ieq a0.Outer[j].Page noSlot.Page<;>cases ieq a0.Outer[j].Rights noSlot.Rights<;>cases enough a0.Outer[j].Rights 1<;>cases ile (ln (ix a0.Out (j:Int) [])) 0<;>cases zb3 (ix a0.Out (j:Int) [])<;>rfl
 .simp only [zbe,cF]
 rw[znE (fun j (_:Unit) κ=>bif fits a0 j then κ () else oF),zqr (fits a0),show a0.Outer.length=8 by omega]
 cases zkN (fits a0) 8 0<;>rfl
theorem zFI:uV 182 zxB:=hF1 zyc zq zl zn zLh zKG
@[simp] abbrev zl4 (m:Mon):Bool:=true
@[simp] abbrev znO (m:Mon):Bool:=zcM m
def zxH:Run:=rF1 (dT .mon) fun b=>(zl4 b,[aB (znO b)])
def zER (N:Nat)(a0:Mon):OA:=
 (oN (zT (ln a0.Guests) 1 2) (cond (nB (zba (ln a0.Guests) 1 2)) oF (cond (ine (ln a0.Tables) (ln a0.Guests)) oF (oN (ziP a0.Outer 8 12) (cond (nB (zfx a0.Outer 8 12)) oF (cond (ine (ln a0.Out) 8) oF (cond (ine (ln a0.Dirty) 8) oF (iter (σ:=(Int×(Int×(Int×(Int×(lS×(lM×(lB×(lG×((List Int)×(lK×Unit))))))))))) N (fun r2 s3=>let y3:=s3.2.2.2.2.2.2.2.1; (cond (ilt s3.1 (ln y3)) (oN (inb s3.1 (ln y3)) (oN (zlF (ix y3 s3.1 zC)) (cond (nB (zjH (ix y3 s3.1 zC))) oF (r2 ((zG .i64 s3.1 1),(s3.2.1,(s3.2.2.1,(s3.2.2.2.1,(s3.2.2.2.2.1,(s3.2.2.2.2.2.1,(s3.2.2.2.2.2.2.1,(y3,(s3.2.2.2.2.2.2.2.2.1,(s3.2.2.2.2.2.2.2.2.2.1,())))))))))))))) (iter (σ:=(Int×(Int×(Int×(Int×(lS×(lM×(lB×(lG×((List Int)×(lK×Unit))))))))))) N (fun r4 s5=>let y7:=s5.2.2.2.2.1;let y4:=(inb s5.1 (ln s5.2.2.2.2.2.1));let y2:=(ix s5.2.2.2.2.2.1 s5.1 []);let y1:=(ix y7 s5.1 zL);let y6:=(ieq y1.Rights zbo.Rights);let y5:=(ieq y1.Page zbo.Page);let y0:=(r4 ((zG .i64 s5.1 1),(s5.2.1,(s5.2.2.1,(s5.2.2.2.1,(y7,(s5.2.2.2.2.2.1,(s5.2.2.2.2.2.2.1,(s5.2.2.2.2.2.2.2.1,(s5.2.2.2.2.2.2.2.2.1,(s5.2.2.2.2.2.2.2.2.2.1,()))))))))))); (cond (ilt s5.1 8) (oN (inb s5.1 (ln y7)) (oN zb5 (cond (nB (cond y5 y6 false)) (oN y4 (cond (igt (ln y2) 0) oF (oN (inb s5.1 (ln y7)) (oN (zeA y1.Rights 1) (cond (nB (ze4 y1.Rights 1)) oF (cond (nB (nB (cond y5 y6 false))) (oN y4 (oN (zd0 y2) (cond (nB (zdx y2)) oF y0))) y0)))))) (cond (nB (nB (cond y5 y6 false))) (oN y4 (oN (zd0 y2) (cond (nB (zdx y2)) oF y0))) y0)))) (cond (ile (ln s5.2.2.2.2.2.2.2.2.1) 40) (oN (zgs s5.2.1) (cond (zgr s5.2.1) (oN (zT s5.2.2.1 0 3) (cond (zba s5.2.2.1 0 3) (oN (zT s5.2.2.2.1 0 1000000000) (some [(aB (zba s5.2.2.2.1 0 1000000000))])) oF)) oF)) oF))) (0,(s3.2.1,(s3.2.2.1,(s3.2.2.2.1,(s3.2.2.2.2.1,(s3.2.2.2.2.2.1,(s3.2.2.2.2.2.2.1,(y3,(s3.2.2.2.2.2.2.2.2.1,(s3.2.2.2.2.2.2.2.2.2.1,()))))))))))))) (0,(a0.Pending,(a0.Traps,(a0.Own,(a0.Outer,(a0.Out,(a0.Dirty,(a0.Guests,(a0.Outs,(a0.Tables,()))))))))))))))))))
def zLj:FuncId->Nat->Option Tmpl:=zo [(369,0,{ n:=115,tm:=[(1,.lp 0 0),(3,ti)],lo:=[(0,[.sl 0 [],.sl 1 [],.sl 2 [],.sl 3 [],.sl 4 [],ti,ti,.sl 5 [],ti])],ro:=[(0,.slot,false),(1,(.sl .int),false),(2,.bool,false),(3,.guest,false),(4,.int,false),(5,.kept,false)] }),(369,2,{ n:=115,tm:=[(1,.lp 0 0),(4,ti)],lo:=[(0,[.sl 0 [],.sl 1 [],.sl 2 [],.sl 3 [],.sl 4 [],ti,ti,.sl 5 [],ti])],ro:=[(0,.slot,false),(1,(.sl .int),false),(2,.bool,false),(3,.guest,false),(4,.int,false),(5,.kept,false)] })]
theorem zKO (a0:Mon)(hb:zbq big [aT .mon a0])(hc:zl4 a0=true):∃N,zER N a0=some [aB (znO a0)]:=by
 have hg:a0.Guests.length<=big:=((zbN hb).1 (.s .guest a0.Guests) (by simp[AV.cvs,Ty.cells])).len
 refine zbK fun N hNN=>?_;unfold zER znO zcM oN nB
 conv=>zeta
 refine must rfl (stB fun h0=>stI fun h1=>must rfl (stB fun h2=>stI fun h3=>stI fun h4=>?_));have e1:=zmb h2;have e3:ln a0.Out=8:=qG h3;simp only[ln] at e1 e3;refine (zQ a0.Guests (fun i (t:Unit)=>((i:Int),a0.Pending,a0.Traps,a0.Own,a0.Outer,a0.Out,a0.Dirty,a0.Guests,a0.Outs,a0.Tables,())) _ (fun _ (x:Guest) (_:Unit) κ=>bif zcl x then κ () else oF) (fun (t:Unit)=>(iter (σ:=(Int×(Int×(Int×(Int×(lS×(lM×(lB×(lG×((List Int)×(lK×Unit))))))))))) N (fun r4 s5=>(cond (ilt s5.1 8) (cond (inb s5.1 (ln s5.2.2.2.2.1)) (cond zb5 (cond (cond (cond (ieq (ix s5.2.2.2.2.1 s5.1 zL).Page zbo.Page) (ieq (ix s5.2.2.2.2.1 s5.1 zL).Rights zbo.Rights) false) false true) (cond (inb s5.1 (ln s5.2.2.2.2.2.1)) (cond (igt (ln (ix s5.2.2.2.2.2.1 s5.1 [])) 0) oF (cond (inb s5.1 (ln s5.2.2.2.2.1)) (cond (zeA (ix s5.2.2.2.2.1 s5.1 zL).Rights 1) (cond (cond (ze4 (ix s5.2.2.2.2.1 s5.1 zL).Rights 1) false true) oF (cond (cond (cond (cond (ieq (ix s5.2.2.2.2.1 s5.1 zL).Page zbo.Page) (ieq (ix s5.2.2.2.2.1 s5.1 zL).Rights zbo.Rights) false) false true) false true) (cond (inb s5.1 (ln s5.2.2.2.2.2.1)) (cond (zd0 (ix s5.2.2.2.2.2.1 s5.1 [])) (cond (cond (zdx (ix s5.2.2.2.2.2.1 s5.1 [])) false true) oF (r4 ((zG .i64 s5.1 1),(s5.2.1,(s5.2.2.1,(s5.2.2.2.1,(s5.2.2.2.2.1,(s5.2.2.2.2.2.1,(s5.2.2.2.2.2.2.1,(s5.2.2.2.2.2.2.2.1,(s5.2.2.2.2.2.2.2.2.1,(s5.2.2.2.2.2.2.2.2.2.1,())))))))))))) none) none) (r4 ((zG .i64 s5.1 1),(s5.2.1,(s5.2.2.1,(s5.2.2.2.1,(s5.2.2.2.2.1,(s5.2.2.2.2.2.1,(s5.2.2.2.2.2.2.1,(s5.2.2.2.2.2.2.2.1,(s5.2.2.2.2.2.2.2.2.1,(s5.2.2.2.2.2.2.2.2.2.1,()))))))))))))) none) none)) none) (cond (cond (cond (cond (ieq (ix s5.2.2.2.2.1 s5.1 zL).Page zbo.Page) (ieq (ix s5.2.2.2.2.1 s5.1 zL).Rights zbo.Rights) false) false true) false true) (cond (inb s5.1 (ln s5.2.2.2.2.2.1)) (cond (zd0 (ix s5.2.2.2.2.2.1 s5.1 [])) (cond (cond (zdx (ix s5.2.2.2.2.2.1 s5.1 [])) false true) oF (r4 ((zG .i64 s5.1 1),(s5.2.1,(s5.2.2.1,(s5.2.2.2.1,(s5.2.2.2.2.1,(s5.2.2.2.2.2.1,(s5.2.2.2.2.2.2.1,(s5.2.2.2.2.2.2.2.1,(s5.2.2.2.2.2.2.2.2.1,(s5.2.2.2.2.2.2.2.2.2.1,())))))))))))) none) none) (r4 ((zG .i64 s5.1 1),(s5.2.1,(s5.2.2.1,(s5.2.2.2.1,(s5.2.2.2.2.1,(s5.2.2.2.2.2.1,(s5.2.2.2.2.2.2.1,(s5.2.2.2.2.2.2.2.1,(s5.2.2.2.2.2.2.2.2.1,(s5.2.2.2.2.2.2.2.2.2.1,()))))))))))))) none) none) (cond (ile (ln s5.2.2.2.2.2.2.2.2.1) 40) (cond (zgs s5.2.1) (cond (zgr s5.2.1) (cond (zT s5.2.2.1 0 3) (cond (zba s5.2.2.1 0 3) (cond (zT s5.2.2.2.1 0 1000000000) (some [(.one (.b (zba s5.2.2.2.1 0 1000000000)))]) none) oF) none) oF) none) oF))) (0,(a0.Pending,(a0.Traps,(a0.Own,(a0.Outer,(a0.Out,(a0.Dirty,(a0.Guests,(a0.Outs,(a0.Tables,())))))))))))) (fun i hi t rec=>?_) (fun t rec=>?_) _ () (hNN hg)).trans ?_
 .simp only [zbl hi,zU hi,zZ hi,zN hi hg,cT];simp only[zlF,zjH,cT];cases zcl a0.Guests[i]<;>rfl
 .simp only [zbe,cF]
 rw[zdO zcl];cases hq:a0.Guests.all zcl
 .simp only [cF];cases ile (ln a0.Outs) 40<;>cases zdK a0.Pending<;>cases win a0.Traps 0 3<;>cases win a0.Own 0 1000000000<;>rfl
 simp only[cT];refine (zom 8 (fun j (u:Unit)=>((j:Int),a0.Pending,a0.Traps,a0.Own,a0.Outer,a0.Out,a0.Dirty,a0.Guests,a0.Outs,a0.Tables,())) _ (fun j (_:Unit) κ=>bif fits a0 j then κ () else oF) (fun (u:Unit)=>(cond (ile (ln a0.Outs) 40) (cond (zgs a0.Pending) (cond (zgr a0.Pending) (cond (zT a0.Traps 0 3) (cond (zba a0.Traps 0 3) (cond (zT a0.Own 0 1000000000) (some [(.one (.b (zba a0.Own 0 1000000000)))]) none) oF) none) oF) none) oF)) (fun j hj u rec1=>?_) (fun u rec1=>?_) _ () (hNN (by decide))).trans ?_
 .simp only [show ilt (j:Int) 8=true from qL (by omega),zN hj (show 8<=big by decide),cT]
  have hj1:j<a0.Outer.length:=by omega
  have hj2:j<a0.Out.length:=by omega
  simp only[zb5,zbo,zd0,zdx,zeA,ze4,zU hj1,zU hj2,zDA,cT];unfold fits znM;simp only[zZ hj1,zcq];cases ieq a0.Outer[j].Page noSlot.Page<;>cases ieq a0.Outer[j].Rights noSlot.Rights<;>cases enough a0.Outer[j].Rights 1<;>cases ile (ln (ix a0.Out (j:Int) [])) 0<;>cases zb3 (ix a0.Out (j:Int) [])<;>rfl
 .simp only [show ilt (((8:Nat)):Int) 8=false from qK (by omega),cF]
  rfl
 rw[zqr (fits a0)];simp only[zgs,zgr,zT,zSc,cT];cases zkN (fits a0) 8 0<;>cases ile (ln a0.Outs) 40<;>cases zdK a0.Pending<;>cases win a0.Traps 0 3<;>cases win a0.Own 0 1000000000<;>rfl
theorem zFP:uV 369 zxH:=hF1 zyc zq zl zn zLj zKO
def zRr:zK:=[(369,zxH),(182,zxB)]++zRq
theorem zyd:zy zRr:=zf zFP (zf zFI zyc)
def zfE:List Slot->List Bool->Option (List Bool)
 | [],u=>some u
 | s :: l,u=>bif ilt s.Page 0 then zfE l u else (cond (ix u s.Page false) none (zfE l (up u s.Page true)))
def zgy:List Mon->List Bool->Bool
 | [],_=>true
 | m :: l,u=>bif zcM m then (match zfE m.Outer u with|some u'=>zgy l u'|none=>false) else false
def zbC (h:Host):Bool:=bif zgn h.Memory 12 then (cond (win (ln h.Mons) 1 3) (cond (zlq h.Buffer) (cond (zlq h.IoBuffer) (zgy h.Mons (rp 12 false)) false) false) false) else false
theorem zkF:∀(l:List Slot) (u u':List Bool),zfE l u=some u'->u'.length=u.length
 | [],u,u',h=>by cases h;rfl
 | s :: l,u,u',h=>by
  simp only[zfE]at h;cases h1:ilt s.Page 0
  .rw [h1]at h;cases h2:ix u s.Page false
   .rw [h2]at h;simpa using zkF l _ u' h
   .rw [h2]at h;cases h
  .rw [h1]at h;exact zkF l u u' h
theorem zwe {t:List Slot}{n:Int}(h:zcf t n 12=true):∀s∈t,s.Page<12:=by
 intro s hs;unfold zcf at h;cases h1:t.all (fun s=>zdf s 12)
 .rw [h1]at h;cases h
 .have:=qS.1 h1 s hs;unfold zdf at this;cases h2:zcq s noSlot
  .rw [h2] at this;simp only[cF,show igt 12 0=true from rfl,cT] at this
   cases h3:win s.Page 0 (wsub .i64 12 1)
   .rw [h3] at this;cases this
   .have:=(zdy.1 h3).2;rw[show wsub .i64 12 1=11 from rfl] at this
    omega
  .unfold zcq at h2;rw[qD]at h2;have h2:s.Page = -1:=qG h2.1;omega
theorem zKa {s:Slot}{u:List Bool}(h:s.Page<12)(hu:u.length=12)(h0:ilt s.Page 0=false):inb s.Page (ln u)=true:=by
 have:=j6 h0;exact qL (by simp only[ln];omega)
def znY {ρ:Type}(r:Option ρ)(y:Slot)(u:List Bool)(κ:List Bool->Option ρ):Option ρ:=bif ilt y.Page 0 then κ u else (cond (inb y.Page (ln u)) (cond (ix u y.Page false) r (cond (inb y.Page (ln u)) (share (up u y.Page true) (fun x6=>κ x6)) none)) none)
theorem zrI {ρ:Type}(r:Option ρ)(K:List Bool->Option ρ):∀(l:List Slot) (i:Nat) (u:List Bool),(∀s∈l,s.Page<12)->u.length=12 ->
 goL (fun _ y u κ=>znY r y u κ) K l i u=match zfE l u with|some u'=>K u'|none=>r
 | [],_,_,_,_=>rfl
 | s :: l,i,u,h,hu=>by
  simp only[goL,zfE,znY];cases h1:ilt s.Page 0
  .have hh:=zKa (h s (by simp)) hu h1
   rw[hh];cases ix u s.Page false
   .simp only [cF,cT,share];exact zrI r K l (i+1) _ (fun s hs=>h s (by simp[hs])) (by simpa using hu)
   .rfl
  .simp only [cT];exact zrI r K l (i+1) u (fun s hs=>h s (by simp[hs])) hu
def zMb {ρ:Type}(r:Option ρ)(m:Mon)(u:List Bool)(κ:List Bool->Option ρ):Option ρ:=bif zcM m then goL (fun _ y u κ=>znY r y u κ) κ m.Outer 0 u else r
theorem zce {c x:Bool}:((cond c x false)=true)↔c=true/\x=true:=by
 cases c<;>simp
theorem zfO {m:Mon}(h:zcM m=true):zcf m.Outer 8 12=true:=by
 unfold zcM at h;simp only[zce]at h;exact h.2.2.1
theorem zHG {K:Bool->OA}(k:List Bool->OA)(hk:∀u,k u=K true):∀(l:List Mon) (i:Nat) (u:List Bool),u.length=12 ->
 goL (fun _ m u κ=>zMb (K false) m u κ) k l i u=K (zgy l u)
 | [],_,u,_=>hk u
 | m :: l,i,u,hu=>by
  simp only[goL,zgy,zMb];cases h1:zcM m
  .rfl
  .simp only [cT];have ht:=zfO h1;rw[zrI _ _ _ _ _ (zwe ht) hu];cases h2:zfE m.Outer u with
   | none=>rfl
   | some u'=>exact zHG k hk l (i+1) u' ((zkF _ _ _ h2).trans hu)
@[simp] abbrev zfp (h:Host):Bool:=true
@[simp] abbrev zeT (h:Host):Bool:=zbC h
def zuP:Run:=rF1 dH fun b=>(zfp b,[aB (zeT b)])
def zzE (N:Nat)(a0:Host):OA:=
 (oN (zlU a0.Memory 12) (cond (nB (zh2 a0.Memory 12)) oF (oN (zbg (ln a0.Mons) 1 3) (cond (nB (zbn (ln a0.Mons) 1 3)) oF (oN (zjW a0.Buffer) (cond (nB (zjV a0.Buffer)) oF (oN (zjW a0.IoBuffer) (cond (nB (zjV a0.IoBuffer)) oF (oN (cond (few 12) (ieq 12 12) false) (iter (σ:=(Int×(Int×(lB×(lN×Unit))))) N (fun r2 s3=>let y1:=(ix s3.2.2.2.1 s3.2.1 zi); (cond (ilt s3.2.1 s3.1) (oN (inb s3.2.1 (ln s3.2.2.2.1)) (oN (zlW y1) (cond (nB (znH y1)) oF (iter (σ:=(Int×(Int×(Int×(Int×(Int×(lB×(lN×Unit)))))))) N (fun r4 s5=>let y4:=s5.2.2.2.2.1;let y3:=s5.2.2.2.2.2.2.1;let y5:=(ix y3 s5.2.2.1 zi).Outer;let y2:=s5.2.2.2.2.2.1;let y0:=(ix y5 y4 zL).Page; (cond (ilt y4 s5.2.2.2.1) (oN (inb y4 (ln y5)) (cond (ilt y0 0) (r4 (s5.1,(s5.2.1,(s5.2.2.1,(s5.2.2.2.1,((zG .i64 y4 1),(y2,(y3,())))))))) (oN (inb y0 (ln y2)) (cond (ix y2 y0 false) oF (oN (inb y0 (ln y2)) (share (up y2 y0 true) (fun x6=>(r4 (s5.1,(s5.2.1,(s5.2.2.1,(s5.2.2.2.1,((zG .i64 y4 1),(x6,(y3,()))))))))))))))) (r2 (s5.1,((zG .i64 s5.2.1 1),(y2,(y3,()))))))) (s3.1,(s3.2.1,(s3.2.1,((ln y1.Outer),(0,(s3.2.2.1,(s3.2.2.2.1,()))))))))))) oT)) ((ln a0.Mons),(0,((rp 12 false),(a0.Mons,()))))))))))))))
def zJP:FuncId->Nat->Option Tmpl:=zo [(74,0,{ n:=63,tm:=[(3,.sl 0 []),(33,.sl 1 []),(34,ti),(35,ti)],lo:=[],ro:=[(0,.bool,true),(1,.mon,false)] }),(74,2,{ n:=63,tm:=[(3,.sl 0 []),(33,.sl 1 []),(34,ti),(35,ti),(43,.sl 1 [0]),(44,ti),(45,ti)],lo:=[],ro:=[(0,.bool,true),(1,.mon,false)] })]
theorem zH6 (a0:Host)(hb:zbq big [aH a0])(hc:zfp a0=true):∃N,zzE N a0=some [aB (zeT a0)]:=by
 have hm:CVB big (.s .mon a0.Mons):=(zbN hb).1 _ (by simp[AV.cvs,zbh])
 have hl:=hm.len;refine zbK fun N hNN=>?_;unfold zzE zeT zbC oN nB
 conv=>zeta
 refine must rfl (stB fun h0=>must rfl (stB fun h1=>must rfl (stB fun h2=>must rfl (stB fun h3=>must rfl ?_))));refine (zQ a0.Mons (fun i (t:lB)=>((ln a0.Mons),(i:Int),t,a0.Mons,())) _ (fun _ (x:Mon) (u:List Bool) κ=>zMb (oF) x u κ) (fun (t:lB)=>(some [(.one (.b true))])) (fun i hi t rec=>?_) (fun t rec=>?_) _ ((rp 12 false)) (hNN hl)).trans ?_
 .simp only [zbl hi,zU hi,zZ hi,zN hi hl,cT];unfold zMb;cases h4:zcM a0.Mons[i]
  .simp only [zlW,znH,h4,cT,cF]
  simp only[zlW,znH,h4,cT,cF];have ho:a0.Mons[i].Outer.length<=big:=(hm.inv.2 _ (jR hi) (.s .slot _) (by simp[Ty.cells])).len
  refine (zQ a0.Mons[i].Outer (fun j (u:lB)=>((ln a0.Mons),(i:Int),(i:Int),(ln a0.Mons[i].Outer),(j:Int),u,a0.Mons,())) _ (fun _ (y:Slot) (u:List Bool) κ=>znY (oF) y u κ) (fun (u:lB)=>(rec ((ln a0.Mons),((((i+1:Nat)):Int),(u,(a0.Mons,())))))) (fun j hj u rec1=>?_) (fun u rec1=>?_) _ (t) (hNN ho)).trans ?_
  .simp only [zbl hj,zU hj,zZ hj,zN hj ho,cT,zU hi,zZ hi,zN hi hl];rfl
  .simp only [zbe,cF,zU hi,zZ hi,zN hi hl]
  rfl
 .simp only [zbe,cF]
 exact zHG (K:=fun b=>some [AV.one (.b b)]) _ (fun _=>rfl) _ _ _ rfl
theorem zCN:uV 74 zuP:=hF1 zyd zq zl zn zJP zH6
@[simp] abbrev zsf (h:Host):Bool:=true
@[simp] abbrev zse (h:Host):Bool:=zbC h
theorem zyp {ρ:Type}(r:Option ρ)(k:List Bool->Option ρ)(m:Mon):∀(n i:Nat) (u:List Bool),(∀s∈m.Outer,s.Page<12)->u.length=12->i+n=m.Outer.length ->
 goN (fun j u κ=>bif inb (j:Int) (ln m.Outer) then znY r (ix m.Outer (j:Int) zL) u κ else none) k n i u=goL (fun _ y u κ=>znY r y u κ) k (m.Outer.drop i) i u
 | 0,i,u,_,_,h=>by
  have:i=m.Outer.length:=by omega
  subst this;simp[goN,goL]
 | n+1,i,u,hs,hu,h=>by
  have hi:i<m.Outer.length:=by omega
  rw[j5 hi];simp only[goN,goL,zU hi,zZ hi,cT,znY];cases h1:ilt m.Outer[i].Page 0
  .rw [zKa (hs _ (jR hi)) hu h1];cases ix u m.Outer[i].Page false
   .simp only [cF,cT,share];exact zyp r k m n (i+1) _ hs (by simpa using hu) (by omega)
   .rfl
  .simp only [cT];exact zyp r k m n (i+1) u hs hu (by omega)
def zvi:Run:=rF1 dH fun b=>(zsf b,[aB (zse b)])
def zz6 (N:Nat)(a0:Host):OA:=
 (oN (zvz a0.Memory 12) (cond (nB (zlb a0.Memory 12)) oF (oN (zT (ln a0.Mons) 1 3) (cond (nB (zba (ln a0.Mons) 1 3)) oF (oN (zkr a0.Buffer) (cond (nB (zkq a0.Buffer)) oF (oN (zkr a0.IoBuffer) (cond (nB (zkq a0.IoBuffer)) oF (oN (cond (few 12) (ieq 12 12) false) (iter (σ:=(Int×(lB×(lM×(lN×(lE×(lE×Unit))))))) N (fun r2 s3=>let y7:=(ix s3.2.2.2.1 s3.1 zi); (cond (ilt s3.1 (ln s3.2.2.2.1)) (oN (inb s3.1 (ln s3.2.2.2.1)) (oN (zl4 y7) (cond (nB (znO y7)) oF (iter (σ:=(Int×(Int×(lB×(lM×(lN×(lE×(lE×Unit)))))))) N (fun r4 s5=>let y6:=(zG .i64 s5.2.1 1);let y5:=s5.2.2.2.2.2.1;let y4:=s5.2.2.2.2.2.2.1;let y3:=s5.2.2.1;let y2:=s5.2.2.2.2.1;let y8:=(ix y2 s5.1 zi).Outer;let y1:=(r4 (s5.1,(y6,(y3,(s5.2.2.2.1,(y2,(y5,(y4,()))))))));let y0:=(ix y8 s5.2.1 zL).Page;let y9:=(inb y0 (ln y3)); (cond (ilt s5.2.1 8) (oN (inb s5.1 (ln y2)) (oN (inb s5.2.1 (ln y8)) (cond (ige y0 0) (oN y9 (cond (ix y3 y0 false) oF (cond (ige y0 0) (oN y9 (share (up y3 y0 true) (fun x6=>(r4 (s5.1,(y6,(x6,(s5.2.2.2.1,(y2,(y5,(y4,()))))))))))) y1))) (cond (ige y0 0) (oN y9 (share (up y3 y0 true) (fun x6=>(r4 (s5.1,(y6,(x6,(s5.2.2.2.1,(y2,(y5,(y4,()))))))))))) y1)))) (r2 ((zG .i64 s5.1 1),(y3,(s5.2.2.2.1,(y2,(y5,(y4,()))))))))) (s3.1,(0,(s3.2.1,(s3.2.2.1,(s3.2.2.2.1,(s3.2.2.2.2.1,(s3.2.2.2.2.2.1,()))))))))))) oT)) (0,((rp 12 false),(a0.Memory,(a0.Mons,(a0.Buffer,(a0.IoBuffer,()))))))))))))))))
def zJX:FuncId->Nat->Option Tmpl:=zo [(332,0,{ n:=72,tm:=[(1,.lp 0 0),(3,.sl 0 []),(4,ti)],lo:=[(0,[.sl 1 [],.sl 2 [],.sl 3 [],.sl 4 []])],ro:=[(0,.bool,true),(1,(.sl .int),false),(2,.mon,false),(3,.entry,false),(4,.entry,false)] }),(332,2,{ n:=72,tm:=[(1,.lp 0 0),(3,.sl 0 []),(4,ti),(5,ti)],lo:=[(0,[.sl 1 [],.sl 2 [],.sl 3 [],.sl 4 []])],ro:=[(0,.bool,true),(1,(.sl .int),false),(2,.mon,false),(3,.entry,false),(4,.entry,false)] })]
theorem zIz (a0:Host)(hb:zbq big [aH a0])(hc:zsf a0=true):∃N,zz6 N a0=some [aB (zse a0)]:=by
 have hm:CVB big (.s .mon a0.Mons):=(zbN hb).1 _ (by simp[AV.cvs,zbh])
 have hl:=hm.len;refine zbK fun N hNN=>?_;unfold zz6 zse zbC oN nB
 conv=>zeta
 refine must rfl (stB fun h0=>must rfl (stB fun h1=>must rfl (stB fun h2=>must rfl (stB fun h3=>must rfl ?_))));refine (zQ a0.Mons (fun i (t:lB)=>((i:Int),t,a0.Memory,a0.Mons,a0.Buffer,a0.IoBuffer,())) _ (fun _ (x:Mon) (u:List Bool) κ=>bif zcM x then goN (fun j u κ=>bif inb (j:Int) (ln x.Outer) then znY (oF) (ix x.Outer (j:Int) zL) u κ else none) κ 8 0 u else oF) (fun (t:lB)=>(some [(.one (.b true))])) (fun i hi t rec=>?_) (fun t rec=>?_) _ ((rp 12 false)) (hNN hl)).trans ?_
 .simp only [zbl hi,zU hi,zZ hi,zN hi hl,cT];cases h4:zcM a0.Mons[i]
  .simp only [zl4,znO,h4,cT,cF]
  simp only[zl4,znO,h4,cT,cF];refine (zom 8 (fun j (u:lB)=>((i:Int),(j:Int),u,a0.Memory,a0.Mons,a0.Buffer,a0.IoBuffer,())) _ (fun j (u:List Bool) κ=>bif inb (j:Int) (ln a0.Mons[i].Outer) then znY (oF) (ix a0.Mons[i].Outer (j:Int) zL) u κ else none) (fun (u:lB)=>(rec ((((i+1:Nat)):Int),(u,(a0.Memory,(a0.Mons,(a0.Buffer,(a0.IoBuffer,())))))))) (fun j hj u rec1=>?_) (fun u rec1=>?_) _ (t) (hNN (by decide))).trans ?_
  .simp only [show ilt (j:Int) 8=true from qL (by omega),zN hj (show 8<=big by decide),cT,zU hi,zZ hi,zN hi hl]
   unfold znY;have e:ige (ix a0.Mons[i].Outer (j:Int) zL).Page 0 = !ilt (ix a0.Mons[i].Outer (j:Int) zL).Page 0:=by rw[zSM,Bool.not_not]
   simp only[e];cases ilt (ix a0.Mons[i].Outer (j:Int) zL).Page 0<;>cases inb (j:Int) (ln a0.Mons[i].Outer)<;>cases inb (ix a0.Mons[i].Outer (j:Int) zL).Page (ln u)<;>cases ix u (ix a0.Mons[i].Outer (j:Int) zL).Page false<;>rfl
  .simp only [show ilt (((8:Nat)):Int) 8=false from qK (by omega),cF,zU hi,zZ hi,zN hi hl]
  rfl
 .simp only [zbe,cF]
 have key:∀(l:List Mon) (i:Nat) (u:List Bool),u.length=12->goL (fun _ (x:Mon) (u:List Bool) κ=>bif zcM x then goN (fun j u κ=>bif inb (j:Int) (ln x.Outer) then znY (oF) (ix x.Outer (j:Int) zL) u κ else none) κ 8 0 u else oF) (fun _=>oT) l i u=some [AV.one (.b (zgy l u))]:=by
  intro l
  induction l with
  | nil=>intro i u _;rfl
  | cons m l ih =>
   intro i u hu;simp only[goL,zgy];cases h1:zcM m
   .rfl
   .have ht:=zfO h1;have e8:0+8=m.Outer.length:=by have:=zmb ht;simp only[ln] at this;omega
    simp only[cT];rw[zyp _ _ m 8 0 u (zwe ht) hu e8,uJ,zrI _ _ _ _ _ (zwe ht) hu];cases h2:zfE m.Outer u with
    | none=>rfl
    | some u'=>exact ih (i+1) u' ((zkF _ _ _ h2).trans hu)
 exact key _ _ _ rfl
theorem zDf:uV 332 zvi:=hF1 zyd zq zl zn zJX zIz
def zMi:zK:=[(332,zvi),(74,zuP)]++zRr
theorem zHr:zy zMi:=zf zDf (zf zCN zyd)
theorem zMC {h:Host}(hh:zbC h=true):(h.Mons.length:Int)<=3:=by
 unfold zbC at hh;simp only[zce]at hh;exact (zdy.1 hh.2.1).2
def zdJ (h:Host)(m:Int):Bool:=bif zbC h then hasB m (ln h.Mons) else false
def zRs:zK:=zMi
theorem zHs:zy zRs:=zHr
def zdc (k:Kept)(p:Int):Bool:=bif hasB p (ln k.Known) then hasB p (ln k.Slots) else false
def zc4 (k:Kept)(p:Int):Kept:=bif zdc k p then ⟨up k.Known p false,up k.Slots p noSlot⟩ else k
@[simp] theorem zsq {k:Kept}{p:Int}(h:SmK k):SmK (zc4 k p):=by
 unfold zc4;cases zdc k p
 .exact h
 .exact ⟨by simpa using h.1,by simpa using h.2⟩
theorem has_lt {p:Int}{n m:Int}(h:hasB p n=true):ilt p m=hasB p m:=by
 have h:=qG h;unfold ilt hasB
 by_cases h1:p<m
 .rw [qL h1,qL ⟨h.1,h1⟩]
 .rw [qK h1,qK (by omega)]
@[simp] abbrev zkx (k:Kept)(p:Int):Bool:=pc (SmK k)
@[simp] abbrev zfP (k:Kept)(p:Int):Bool:=zdc k p
def zvv:Run:=rF2 (dT .kept) dI fun b c=>(zkx b c,[aB (zfP b c)])
def zAj (N:Nat)(a0:Kept)(a1:Int):OA:=
 (oN (zT a1 0 (wsub .i64 (ln a0.Known) 1)) (cond (zba a1 0 (wsub .i64 (ln a0.Known) 1)) (some [(aB (ilt a1 (ln a0.Slots)))]) oF))
theorem zIO (a0:Kept)(a1:Int)(hc:zkx a0 a1=true):∃N,zAj N a0 a1=some [aB (zfP a0 a1)]:=by
 have hs:=zB.1 hc;refine ⟨0,?_⟩;unfold zAj zfP zdc oN;simp only[zT,zSc,zwi hs.1,cT];cases hh:hasB a1 (ln a0.Known)
 .rfl
 .simp only [cT,has_lt hh]
theorem zDs:uV 335 zvv:=kF2 zHs zq zl zn (zo []) zIO
def zRt:zK:=[(335,zvv)]++zRs
theorem zye:zy zRt:=zf zDs zHs
@[simp] abbrev znk (k:Kept)(p:Int):Bool:=pc (SmK k)
@[simp] abbrev zoG (k:Kept)(p:Int):Kept:=zc4 k p
def zvg:Run:=rF2 (dT .kept) dI fun b c=>(znk b c,[aT .kept (zoG b c)])
def zz4 (N:Nat)(a0:Kept)(a1:Int):OA:=
 let y0:=(zcK a0); (oN (zeJ a0) (oN (zkx y0 a1) (cond (zfP y0 a1) (oN (inb a1 (ln y0.Known)) (share (up y0.Known a1 false) (fun x3=>(oN zb5 (oN (inb a1 (ln y0.Slots)) (share (up y0.Slots a1 zbo) (fun x4=>(some [(aT .kept (⟨x3,x4⟩:Kept))])))))))) (some [(aT .kept y0)]))))
theorem zIx (a0:Kept)(a1:Int)(hc:znk a0 a1=true):∃N,zz4 N a0 a1=some [aT .kept (zoG a0 a1)]:=by
 have hs:=zB.1 hc;refine ⟨0,?_⟩;unfold zz4 zoG oN
 conv=>zeta
 refine must (zbj ((zvR _).2 hs)) (must (zbj hs) ?_);unfold zc4;cases hh:zdc a0 a1
 .simp only [zfP,zcK,hh,cF]
 .simp only [zfP,zcK,hh,cT];unfold zdc at hh;obtain ⟨h1,h2⟩:=zce.1 hh;simp only[zHR,h1,h2,cT,share,zb5]
theorem zDd:uV 260 zvg:=kF2 zye zq zl zn (zo []) zIx
@[simp] abbrev zjZ (k:Kept)(p:Int):Bool:=pc (SmK k)
@[simp] abbrev zjf (k:Kept)(p:Int):Kept:=zc4 k p
def zuN:Run:=rF2 (dT .kept) dI fun b c=>(zjZ b c,[aT .kept (zjf b c)])
def zzC (N:Nat)(a0:Kept)(a1:Int):OA:=
 let y0:=(zci a0); (oN (zee a0) (oN (zbs a1 (ln a0.Known)) (cond (zbA a1 (ln a0.Known)) (oN (zbs a1 (ln a0.Slots)) (cond (zbA a1 (ln a0.Slots)) (oN (inb a1 (ln y0.Known)) (share (up y0.Known a1 false) (fun x3=>(oN zbQ (oN (inb a1 (ln y0.Slots)) (share (up y0.Slots a1 zbx) (fun x4=>(some [(aT .kept (⟨x3,x4⟩:Kept))])))))))) (some [(aT .kept y0)]))) (some [(aT .kept y0)]))))
theorem zH4 (a0:Kept)(a1:Int)(hc:zjZ a0 a1=true):∃N,zzC N a0 a1=some [aT .kept (zjf a0 a1)]:=by
 have hs:=zB.1 hc;refine ⟨0,?_⟩;unfold zzC zjf oN
 conv=>zeta
 refine must (zbj hs) (must rfl ?_);unfold zc4 zdc;simp only[zbA,zbs,zci,zHR,share,zbQ,cT];cases hasB a1 (ln a0.Known)
 .rfl
 .cases hasB a1 (ln a0.Slots)<;>rfl
theorem zCL:uV 65 zuN:=kF2 zye zq zl zn (zo []) zH4
def zRu:zK:=[(260,zvg),(65,zuN)]++zRt
theorem znZ:zy zRu:=zf zDd (zf zCL zye)
def zo5 (k:Kept)(l:List Int):Kept:=l.foldl zc4 k
theorem zLT:∀(l:List Int) {k:Kept},SmK k->SmK (zo5 k l)
 | [],_,h=>h
 | p :: l,k,h=>zLT l (zsq (p:=p) h)
theorem zrG {ρ:Type}(K:List Bool×List Slot->Option ρ):∀(l:List Int) (i:Nat) (k:Kept),SmK k ->
 goL (fun _ x (t:List Bool×List Slot) κ=>bif pc (SmK ⟨t.1,t.2⟩) then κ ((zc4 ⟨t.1,t.2⟩ x).Known,(zc4 ⟨t.1,t.2⟩ x).Slots) else none) K l i (k.Known,k.Slots)=K ((zo5 k l).Known,(zo5 k l).Slots)
 | [],_,_,_=>rfl
 | x :: l,i,k,h=>by
  have e:pc (SmK ⟨k.Known,k.Slots⟩)=true:=zbj h;simp only[goL,e,cT];exact zrG K l (i+1) (zc4 k x) (zsq h)
def zT4 (l:List Slot)(p:Int):List Int:=idxs (fun (s:Slot)=>ieq s.Page p) l 0
def zjS (k:Kept)(l:List Slot)(p:Int):Kept:=zo5 k (zT4 l p)
theorem zQD {k:Kept}(l:List Slot)(p:Int)(h:SmK k):SmK (zjS k l p):=zLT _ h
@[simp] abbrev zid (k:Kept)(l:List Slot)(p:Int):Bool:=pc (SmK k/\l.length<=1048576)
@[simp] abbrev zoH (k:Kept)(l:List Slot)(p:Int):Kept:=zjS k l p
def zoA:Run:=rF3 (dT .kept) (dS .slot) dI fun b c d=>(zid b c d,[aT .kept (zoH b c d)])
def zqj (N:Nat)(a0:Kept)(a1:lS)(a2:Int):OA:=
 (oN (zeJ a0) (oN (zsl a1 a2) (iter (σ:=(Int×((List Int)×(lB×(lS×(lB×(lS×Unit))))))) N (fun r4 s5=>let y1:=(ix s5.2.1 s5.1 0);let y0:=(⟨s5.2.2.1,s5.2.2.2.1⟩:Kept); (cond (ilt s5.1 (ln s5.2.1)) (oN (inb s5.1 (ln s5.2.1)) (oN (znk y0 y1) (r4 ((zG .i64 s5.1 1),(s5.2.1,((zoG y0 y1).Known,((zoG y0 y1).Slots,(s5.2.2.2.2.1,(s5.2.2.2.2.2.1,()))))))))) (some [(aT .kept y0)]))) (0,((zle a1 a2),((zcK a0).Known,((zcK a0).Slots,([],([],())))))))))
def zzu:FuncId->Nat->Option Tmpl:=zo [(366,0,{ n:=27,tm:=[(3,.lp 0 0),(6,.lp 1 0),(7,.sl 0 []),(8,ti)],lo:=[(0,[.sl 1 [],.sl 2 []]),(1,[.sl 3 [],.sl 4 []])],ro:=[(0,.int,true),(1,.bool,true),(2,.slot,true),(3,.bool,true),(4,.slot,true)] })]
theorem zy4 (a0:Kept)(a1:List Slot)(a2:Int)(hc:zid a0 a1 a2=true):∃N,zqj N a0 a1 a2=some [aT .kept (zoH a0 a1 a2)]:=by
 obtain ⟨hs,hs2⟩:=zB.1 hc;have hl:(zle a1 a2).length<=big:=jC (zyV _ a1 0) (zcA hs2).1;refine zbK fun N hNN=>?_;unfold zqj oN
 conv=>zeta
 refine must (zbj ((zvR _).2 hs)) (must (zbj (by omega)) ?_)
 refine (zQ (zle a1 a2) (fun i (t:lB×lS)=>((i:Int),(zle a1 a2),t.1,t.2,[],[],())) _ (fun _ (x:Int) (t:List Bool×List Slot) κ=>bif pc (SmK ⟨t.1,t.2⟩) then κ ((zc4 ⟨t.1,t.2⟩ x).Known,(zc4 ⟨t.1,t.2⟩ x).Slots) else none) (fun (t:lB×lS)=>(some [(.agg (Ty.cells .kept (⟨t.1,t.2⟩:Kept)))])) (fun i hi t rec=>?_) (fun t rec=>?_) _ ((zcK a0).Known,(zcK a0).Slots) (hNN hl)).trans ?_
 .simp only [zbl hi,zU hi,zZ hi,zN hi hl,cT]
 .simp only [zbe,cF]
 exact zrG _ _ 0 a0 hs
theorem zuk:uV 366 zoA:=kF3 znZ zq zl zn zzu zy4
@[simp] abbrev zkU (k:Kept)(l:List Slot)(p:Int):Bool:=pc (SmK k/\l.length<=1048576)
@[simp] abbrev zoe (k:Kept)(l:List Slot)(p:Int):Kept:=zjS k l p
def zov:Run:=rF3 (dT .kept) (dS .slot) dI fun b c d=>(zkU b c d,[aT .kept (zoe b c d)])
def zqg (N:Nat)(a0:Kept)(a1:lS)(a2:Int):OA:=
 (oN (zee a0) (oN (zrT a1 a2) (iter (σ:=(Int×(Int×((List Int)×(lB×(lS×(lB×(lS×Unit)))))))) N (fun r4 s5=>let y1:=(ix s5.2.2.1 s5.2.1 0);let y0:=(⟨s5.2.2.2.2.2.1,s5.2.2.2.2.2.2.1⟩:Kept); (cond (ilt s5.2.1 s5.1) (oN (inb s5.2.1 (ln s5.2.2.1)) (oN (zjZ y0 y1) (r4 (s5.1,((zG .i64 s5.2.1 1),(s5.2.2.1,(s5.2.2.2.1,(s5.2.2.2.2.1,((zjf y0 y1).Known,((zjf y0 y1).Slots,())))))))))) (some [(aT .kept y0)]))) ((ln (zhp a1 a2)),(0,((zhp a1 a2),([],([],((zci a0).Known,((zci a0).Slots,()))))))))))
def zzq:FuncId->Nat->Option Tmpl:=zo [(327,0,{ n:=25,tm:=[(6,.lp 0 0),(7,.lp 1 0),(14,.sl 0 []),(15,ti),(16,ti)],lo:=[(0,[.sl 1 [],.sl 2 []]),(1,[.sl 3 [],.sl 4 []])],ro:=[(0,.int,true),(1,.bool,true),(2,.slot,true),(3,.bool,true),(4,.slot,true)] })]
theorem zyZ (a0:Kept)(a1:List Slot)(a2:Int)(hc:zkU a0 a1 a2=true):∃N,zqg N a0 a1 a2=some [aT .kept (zoe a0 a1 a2)]:=by
 obtain ⟨hs,hs2⟩:=zB.1 hc;have hl:(zhp a1 a2).length<=big:=jC (zyV _ a1 0) (zcA hs2).1;refine zbK fun N hNN=>?_;unfold zqg oN
 conv=>zeta
 refine must (zbj hs) (must (zbj (by omega)) ?_)
 refine (zQ (zhp a1 a2) (fun i (t:lB×lS)=>((ln (zhp a1 a2)),(i:Int),(zhp a1 a2),[],[],t.1,t.2,())) _ (fun _ (x:Int) (t:List Bool×List Slot) κ=>bif pc (SmK ⟨t.1,t.2⟩) then κ ((zc4 ⟨t.1,t.2⟩ x).Known,(zc4 ⟨t.1,t.2⟩ x).Slots) else none) (fun (t:lB×lS)=>(some [(.agg (Ty.cells .kept (⟨t.1,t.2⟩:Kept)))])) (fun i hi t rec=>?_) (fun t rec=>?_) _ ((zci a0).Known,(zci a0).Slots) (hNN hl)).trans ?_
 .simp only [zbl hi,zU hi,zZ hi,zN hi hl,cT]
 .simp only [zbe,cF]
 exact zrG _ _ 0 a0 hs
theorem zue:uV 327 zov:=kF3 znZ zq zl zn zzq zyZ
def flushed (l:List Entry)(p:Int):List Entry:=l.filter fun e=>!ieq e.Host p
theorem zxe (l:List Entry)(p:Int):(flushed l p).length<=l.length:=List.length_filter_le _ _
theorem zhX {α ρ:Type}(p:α->Bool)(K:List α->Option ρ):∀(l:List α) (i:Nat) (acc:List α),acc.length+l.length<=2147483648 ->
 goL (fun _ x acc κ=>bif p x then (cond (few (ln (ap acc [x]))) (κ (ap acc [x])) none) else κ acc) K l i acc=K (acc++l.filter p)
 | [],i,acc,_=>by simp[goL]
 | x :: l,i,acc,h=>by
  simp only[qW]at h;simp only[goL];cases hp:p x
  .rw [cF,zhX p K l (i+1) acc (by omega),List.filter_cons_of_neg (by simp[hp])]
  .rw [cT,zd5 (by simp[ap];omega),cT,zhX p K l (i+1) _ (by simp[ap];omega),List.filter_cons_of_pos hp]
   simp[ap]
@[simp] abbrev zfi (l:List Entry)(p:Int):Bool:=pc (l.length<=1048576)
@[simp] abbrev zlD (l:List Entry)(p:Int):List Entry:=flushed l p
def zps:Run:=rF2 (dS .entry) dI fun b c=>(zfi b c,[aS .entry (zlD b c)])
def zsL (N:Nat)(a0:lE)(a1:Int):OA:=
 (iter (σ:=(Int×(Int×(lE×(lE×Unit))))) N (fun r3 s4=>let y1:=s4.2.2.1;let y0:=(ix y1 s4.2.1 zdo); (cond (ilt s4.2.1 (ln y1)) (oN (inb s4.2.1 (ln y1)) (cond (ine y0.Host s4.1) (oN (inb s4.2.1 (ln y1)) (oN (few (ln (ap s4.2.2.2.1 [y0]))) (r3 (s4.1,((zG .i64 s4.2.1 1),(y1,((ap s4.2.2.2.1 [y0]),()))))))) (r3 (s4.1,((zG .i64 s4.2.1 1),(y1,(s4.2.2.2.1,()))))))) (some [(aS .entry s4.2.2.2.1)]))) (a1,(0,(a0,([],())))))
def zCg:FuncId->Nat->Option Tmpl:=zo [(367,0,{ n:=29,tm:=[(0,.sl 0 []),(1,ti),(5,.sl 1 []),(6,ti)],lo:=[],ro:=[(0,.entry,false),(1,.entry,true)] })]
theorem zBy (a0:List Entry)(a1:Int)(hc:zfi a0 a1=true):∃N,zsL N a0 a1=some [aS .entry (zlD a0 a1)]:=by
 have hs:=zB.1 hc;have hl:=zcA hs;refine zbK fun N hNN=>?_;unfold zsL oN
 conv=>zeta
 refine (zQ a0 (fun i (t:lE)=>(a1,(i:Int),a0,t,())) _ (fun _ (x:Entry) (t:List Entry) κ=>bif !ieq x.Host a1 then (cond (few (ln (ap t [x]))) (κ (ap t [x])) none) else κ t) (fun (t:lE)=>(some [(.one (.s .entry t))])) (fun i hi t rec=>?_) (fun t rec=>?_) _ ([]) (hNN hl.1)).trans ?_
 .simp only [zbl hi,zU hi,zZ hi,zN hi hl.1,cT];rfl
 .simp only [zbe,cF]
 exact zhX (fun e=>!ieq e.Host a1) _ a0 0 [] (by simpa using hl.2)
theorem zwy:uV 367 zps:=kF2 znZ zq zl zn zCg zBy
@[simp] abbrev zfc (l:List Entry)(p:Int):Bool:=pc (l.length<=1048576)
@[simp] abbrev zgQ (l:List Entry)(p:Int):List Entry:=flushed l p
def zpi:Run:=rF2 (dS .entry) dI fun b c=>(zfc b c,[aS .entry (zgQ b c)])
def zsB (N:Nat)(a0:lE)(a1:Int):OA:=
 (iter (σ:=(Int×(Int×(Int×(lE×(lE×Unit)))))) N (fun r3 s4=>let y1:=s4.2.2.2.2.1;let y0:=(ix y1 s4.2.1 zdo); (cond (ilt s4.2.1 s4.1) (oN (inb s4.2.1 (ln y1)) (cond (nB (ieq y0.Host s4.2.2.1)) (oN (few (ln (ap s4.2.2.2.1 [y0]))) (r3 (s4.1,((zG .i64 s4.2.1 1),(s4.2.2.1,((ap s4.2.2.2.1 [y0]),(y1,()))))))) (r3 (s4.1,((zG .i64 s4.2.1 1),(s4.2.2.1,(s4.2.2.2.1,(y1,())))))))) (some [(aS .entry s4.2.2.2.1)]))) ((ln a0),(0,(a1,([],(a0,()))))))
def zCc:FuncId->Nat->Option Tmpl:=zo [(156,0,{ n:=25,tm:=[(1,.fn 362 [0]),(5,.sl 0 []),(9,.sl 1 []),(10,ti),(11,ti)],lo:=[(0,[ti])],ro:=[(0,.entry,true),(1,.entry,false)] })]
theorem zBn (a0:List Entry)(a1:Int)(hc:zfc a0 a1=true):∃N,zsB N a0 a1=some [aS .entry (zgQ a0 a1)]:=by
 have hs:=zB.1 hc;have hl:=zcA hs;refine zbK fun N hNN=>?_;unfold zsB oN nB
 conv=>zeta
 refine (zQ a0 (fun i (t:lE)=>((ln a0),(i:Int),a1,t,a0,())) _ (fun _ (x:Entry) (t:List Entry) κ=>bif !ieq x.Host a1 then (cond (few (ln (ap t [x]))) (κ (ap t [x])) none) else κ t) (fun (t:lE)=>(some [(.one (.s .entry t))])) (fun i hi t rec=>?_) (fun t rec=>?_) _ ([]) (hNN hl.1)).trans ?_
 .simp only [zbl hi,zU hi,zZ hi,zN hi hl.1,cT];cases ieq a0[i].Host a1<;>rfl
 .simp only [zbe,cF]
 exact zhX (fun e=>!ieq e.Host a1) _ a0 0 [] (by simpa using hl.2)
theorem zwn:uV 328 zpi:=kF2 znZ zq zl zn zCc zBn
def zMj:zK:=[(366,zoA),(327,zov),(367,zps),(328,zpi)]++zRu
theorem zHt:zy zMj:=zf zuk (zf zue (zf zwy (zf zwn znZ)))
def zoO (gs:List Guest)(p:Int):Nat->List Kept->List Kept
 | 0,ts=>ts
 | n+1,ts=>up (zoO gs p n ts) (n:Int) (zjS (ix (zoO gs p n ts) (n:Int) zcr) (ix gs (n:Int) zC).Live p)
theorem zlg (gs:List Guest)(p:Int):∀(n:Nat) (ts:List Kept),(zoO gs p n ts).length=ts.length
 | 0,_=>rfl
 | n+1,ts=>by simp only[zoO,zkE];exact zlg gs p n ts
theorem zpz (gs:List Guest)(p:Int):∀(n:Nat) (ts:List Kept),n<=ts.length->zCp ts->zCp (zoO gs p n ts)
 | 0,_,_,h=>h
 | n+1,ts,hn,h=>by
  have ih:=zpz gs p n ts (by omega) h
  have hl:n<(zoO gs p n ts).length:=by rw[zlg];omega
  exact zEq ih (zQD _ _ (by rw[zZ hl];exact ih.2 _ (jR hl)))
def zhJ (x:Mon)(p:Int)(n:Nat):Mon:={ x with Tables:=zoO x.Guests p n x.Tables }
theorem zPd {x:Mon}{p:Int}{n:Nat}(hn:n<=x.Tables.length)(h:ziY x):ziY (zhJ x p n):=⟨h.1,h.2.1,h.2.2.1,h.2.2.2.1,h.2.2.2.2.1,zpz _ _ _ _ hn h.2.2.2.2.2⟩
def zdm (h:Host)(m p:Int)(s:Slot):Host :=
 bif ine (ix (ix h.Mons m zi).Outer p zL).Page (-1)
 then ⟨h.Memory,up h.Mons m { zhJ (ix h.Mons m zi) p (ix h.Mons m zi).Tables.length with Outer:=up (ix h.Mons m zi).Outer p s },flushed h.Buffer (ix (ix h.Mons m zi).Outer p zL).Page,flushed h.IoBuffer (ix (ix h.Mons m zi).Outer p zL).Page⟩
 else ⟨h.Memory,up h.Mons m { zhJ (ix h.Mons m zi) p (ix h.Mons m zi).Tables.length with Outer:=up (ix h.Mons m zi).Outer p s },h.Buffer,h.IoBuffer⟩
def zTg (h:Host)(m p:Int):Prop:=hasB m (ln h.Mons)=true/\hasB p (ln (ix h.Mons m zi).Outer)=true/\(ix h.Mons m zi).Tables.length<=(ix h.Mons m zi).Guests.length
@[simp] abbrev zd1 (h:Host)(m p:Int)(s:Slot):Bool:=pc (zcn h/\zTg h m p)
@[simp] abbrev zfC (h:Host)(m p:Int)(s:Slot):Host:=zdm h m p s
def zmJ:List AV->Option (Bool×List AV)
 | [.agg [.s (.sl .int) b,.s .mon c,.s .entry d,.s .entry e],.one (.i .i64 f),.one (.i .i64 g),.agg [.i .i64 h,.i .i64 j]]=>some ((zd1 (⟨b,c,d,e⟩:Host) f g (⟨h,j⟩:Slot)),[aH (zfC (⟨b,c,d,e⟩:Host) f g (⟨h,j⟩:Slot))])
 | _=>none
def zpG (N:Nat)(a0:Host)(a1 a2:Int)(a3:Slot):OA:=
 let y7:=(ix a0.Mons a1 zi); (oN (inb a1 (ln a0.Mons)) (oN (inb a2 (ln y7.Outer)) (iter (σ:=(Int×(Int×(Int×(Int×(Int×(Int×(Int×(Int×(Int×(Int×(Int×(Int×(Int×(Int×(Int×(lM×(lN×(lE×(lE×(lM×(lN×(lE×(lE×Unit)))))))))))))))))))))))) N (fun r5 s6=>let y19:=s6.2.2.1;let y18:=s6.2.2.2.2.2.2.2.2.2.2.2.1;let y17:=s6.2.2.2.2.2.2.2.2.2.2.2.2.1;let y15:=s6.2.2.2.2.2.2.2.2.2.2.2.2.2.2.1;let y14:=s6.2.2.2.2.2.2.2.2.2.2.2.2.2.2.2.1;let y13:=s6.2.2.2.2.2.2.2.1;let y11:=s6.2.2.2.2.2.2.2.2.1;let y10:=s6.2.2.2.1;let y9:=s6.2.2.2.2.2.2.2.2.2.2.1;let y8:=s6.2.2.2.2.2.2.2.2.2.2.2.2.2.2.2.2.2.1;let y6:=s6.2.2.2.2.2.2.2.2.2.2.2.2.2.2.2.2.2.2.1;let y5:=s6.2.2.2.2.2.2.1;let y3:=s6.2.2.2.2.2.2.2.2.2.1;let y1:=s6.2.2.2.2.2.2.2.2.2.2.2.2.2.1;let y0:=s6.2.2.2.2.2.2.2.2.2.2.2.2.2.2.2.2.1;let y20:=(ix y0 y3 zi).Guests;let y16:=(ix y20 y10 zC).Live;let y12:=(ix y0 y5 zi);let y4:=(ix y0 y1 zi).Tables;let y2:=(up y0 y5 ({ y12 with Outer:=(up y12.Outer s6.2.1 (⟨s6.2.2.2.2.1,s6.2.2.2.2.2.1⟩:Slot)) }:Mon)); (cond (ilt y10 (ln y4)) (oN (inb y10 (ln y4)) (oN (inb y10 (ln y20)) (oN (zid (ix y4 y10 zcr) y16 s6.2.1) (oN (inb y10 (ln y4)) (share (up y0 y1 ({ (ix y0 y1 zi) with Tables:=(up y4 y10 (zoH (ix y4 y10 zcr) y16 s6.2.1)) }:Mon)) (fun x7=>(r5 (s6.1,(s6.2.1,(y19,((zG .i64 y10 1),(s6.2.2.2.2.1,(s6.2.2.2.2.2.1,(y5,(y13,(y11,(y3,(y9,(y18,(y17,(y1,(y15,(y14,(x7,(y8,(y6,(s6.2.2.2.2.2.2.2.2.2.2.2.2.2.2.2.2.2.2.2.1,(s6.2.2.2.2.2.2.2.2.2.2.2.2.2.2.2.2.2.2.2.2.1,(s6.2.2.2.2.2.2.2.2.2.2.2.2.2.2.2.2.2.2.2.2.2.1,(s6.2.2.2.2.2.2.2.2.2.2.2.2.2.2.2.2.2.2.2.2.2.2.1,())))))))))))))))))))))))))))))) (cond (ine y19 (-1)) (oN (zfi y8 y19) (oN (zfi y6 y19) (oN (inb s6.2.1 (ln y12.Outer)) (share y2 (fun x7=>(oN (inb s6.1 (ln x7)) (oN (cond (cond (cond (cond (cond (cond (ieq y1 s6.1) true false) (cond (ieq y9 s6.1) true false) false) (cond (ieq y3 s6.1) true false) false) (cond (ieq y11 s6.1) true false) false) (cond (ieq y13 s6.1) true false) false) (cond (ieq y5 s6.1) true false) false) (share (up x7 s6.1 ({ (ix x7 y5 zi) with Out:=(ix x7 y13 zi).Out,Dirty:=(ix x7 y11 zi).Dirty,Guests:=(ix x7 y3 zi).Guests,Outs:=(ix x7 y9 zi).Outs,Pending:=y18,Traps:=y17,Tables:=(ix x7 y1 zi).Tables,Own:=y15 }:Mon)) (fun x8=>(some [(aH (⟨y14,x8,(zlD y8 y19),(zlD y6 y19)⟩:Host))])))))))))) (oN (inb s6.2.1 (ln y12.Outer)) (share y2 (fun x7=>(oN (inb s6.1 (ln x7)) (oN (cond (cond (cond (cond (cond (cond (ieq y1 s6.1) true false) (cond (ieq y9 s6.1) true false) false) (cond (ieq y3 s6.1) true false) false) (cond (ieq y11 s6.1) true false) false) (cond (ieq y13 s6.1) true false) false) (cond (ieq y5 s6.1) true false) false) (share (up x7 s6.1 ({ (ix x7 y5 zi) with Out:=(ix x7 y13 zi).Out,Dirty:=(ix x7 y11 zi).Dirty,Guests:=(ix x7 y3 zi).Guests,Outs:=(ix x7 y9 zi).Outs,Pending:=y18,Traps:=y17,Tables:=(ix x7 y1 zi).Tables,Own:=y15 }:Mon)) (fun x8=>(some [(aH (⟨y14,x8,y8,y6⟩:Host))]))))))))))) (a1,(a2,((ix y7.Outer a2 zL).Page,(0,(a3.Page,(a3.Rights,(a1,(a1,(a1,(a1,(a1,(y7.Pending,(y7.Traps,(a1,(y7.Own,(a0.Memory,(a0.Mons,(a0.Buffer,(a0.IoBuffer,([],([],([],([],()))))))))))))))))))))))))))
def zGC:FuncId->Nat->Option Tmpl:=zo [(331,0,{ n:=70,tm:=[(1,ti),(2,ti),(4,.lp 0 0),(7,.lp 1 0),(8,.lp 2 0),(9,.lp 3 0),(10,ti),(11,ti)],lo:=[(0,[.sl 0 [],.sl 1 [],.sl 2 [],.sl 3 []]),(1,[ti,ti]),(2,[.sl 4 [],.sl 5 [],.sl 6 [],.sl 7 []]),(3,[.sl 1 [0],.sl 1 [1],.sl 1 [2],.sl 1 [3],.sl 1 [4],ti,ti,.sl 1 [7],ti])],ro:=[(0,(.sl .int),true),(1,.mon,true),(2,.entry,true),(3,.entry,true),(4,(.sl .int),true),(5,.mon,true),(6,.entry,true),(7,.entry,true)] })]
theorem zI7 (N:Nat)(a0:Host)(a1 a2:Int)(a3:Slot):zvV (cQ zMj zkg zzb zg0) zGC N 12 331 [true,true,true,true,false,false,false,false] 1 1 [[0],[1],[2],[4],[7]] .mon [aH a0,aI a1,aI a2,aT .slot a3]=zpG N a0 a1 a2 a3:=by kernel_rfl
theorem zGn (a0:Host)(a1 a2:Int)(a3:Slot)(hb:zbq big [aH a0,aI a1,aI a2,aT .slot a3])(hc:zd1 a0 a1 a2 a3=true):∃N,zpG N a0 a1 a2 a3=some [aH (zfC a0 a1 a2 a3)]:=by
 obtain ⟨hs,h1,h2,h3⟩:=zB.1 hc;have hH:=(zbL a0).1 hs;have hm:ziY (ix a0.Mons a1 zi):=hH.2.1.2 _ (zbJ h1 _);obtain ⟨k,rfl,hk⟩:=zcH (n:=a0.Mons.length) h1;have hT:=(zcA hm.2.2.2.2.2.1).1;refine zbK fun N hNN=>?_;unfold zpG oN
 conv=>zeta
 refine must h1 (must h2 ?_);refine zSO (ix a0.Mons (k:Int) zi).Tables.length (fun i (t:List Mon)=>((k:Int),a2,(ix (ix a0.Mons (k:Int) zi).Outer a2 zL).Page,(i:Int),a3.Page,a3.Rights,(k:Int),(k:Int),(k:Int),(k:Int),(k:Int),(ix a0.Mons (k:Int) zi).Pending,(ix a0.Mons (k:Int) zi).Traps,(k:Int),(ix a0.Mons (k:Int) zi).Own,a0.Memory,t,a0.Buffer,a0.IoBuffer,[],[],[],[],())) _
  (fun i t=>t=up a0.Mons (k:Int) (zhJ (ix a0.Mons (k:Int) zi) a2 i)) (fun _ _=>some [AV.agg (zbh (zdm a0 (k:Int) a2 a3))]) (fun i t rec hi hI hr=>?_) (fun t rec hI=>?_) _ 0 a0.Mons ?_ (jZ _) ?_
 .subst hI;have hi2:i<(zoO (ix a0.Mons (k:Int) zi).Guests a2 i (ix a0.Mons (k:Int) zi).Tables).length:=by rw[zlg];exact hi
  have hi3:i<(ix a0.Mons (k:Int) zi).Guests.length:=by omega
  have hf:zid (ix (zoO (ix a0.Mons (k:Int) zi).Guests a2 i (ix a0.Mons (k:Int) zi).Tables) (i:Int) zcr) (ix (ix a0.Mons (k:Int) zi).Guests (i:Int) zC).Live a2=true :=
   zbj ⟨by rw[zZ hi2];exact (zpz _ _ _ _ (by omega) hm.2.2.2.2.2).2 _ (jR hi2),by rw[zZ hi3];exact (hm.2.2.2.1.2 _ (jR hi3)).2.2.1⟩
  simp only[zdp hk,zst,zhJ,zbl hi2,zU hi2,zU hi3,hf,cT,share,zN hi hT];exact hr _ rfl
 .subst hI;simp only[zdp hk,zst,zkE,zhJ,ln,zlg,zrY,show ilt (((ix a0.Mons (k:Int) zi).Tables.length:Nat):Int) (((ix a0.Mons (k:Int) zi).Tables.length:Nat):Int)=false from qK (by omega),cT,cF,share]
  have h1':inb (k:Int) ((a0.Mons.length:Nat):Int)=true:=h1;have h2':inb a2 (((ix a0.Mons (k:Int) zi).Outer.length:Nat):Int)=true:=h2;have f1:zfi a0.Buffer (ix (ix a0.Mons (k:Int) zi).Outer a2 zL).Page=true:=zbj hH.2.2.1;have f2:zfi a0.IoBuffer (ix (ix a0.Mons (k:Int) zi).Outer a2 zL).Page=true:=zbj hH.2.2.2;simp only[h1',h2',f1,f2,cT];unfold zdm;cases ine (ix (ix a0.Mons (k:Int) zi).Outer a2 zL).Page (-1)<;>rfl
 .exact (zL1 hk _).symm
 .exact hNN (by omega)
theorem zBa:zcP Tryz.prog 331 [true,true,true,true,false,false,false,false] (some (1,1,[[0],[1],[2],[4],[7]])) zmJ:=by
 refine zhZ (kt:=.mon) (zb7 zHt zq zl zn) (zcO (by kernel_rfl)) (by kernel_rfl) ?_
 intro avs rs hl hr h;have hb:=zfX hr;unfold zmJ at h;split at h
 .obtain ⟨hc,rfl⟩:=zhI h;obtain ⟨N,hN⟩:=zGn _ _ _ _ (by exact hb) hc
  exact ⟨⟨_,rfl⟩,rfl,_,N,12,(zI7 N _ _ _ _ ).trans hN⟩
 .cases h
def zJL:zdq:=[(331,([true,true,true,true,false,false,false,false],(some (1,1,[[0],[1],[2],[4],[7]])),zmJ))]++zg0
theorem zcB:zcQ zJL:=zli zn (by
 intro x hx;simp only[qH,qU,or_false]at hx;rcases hx with rfl
 .exact zBa)
theorem zBe:∀(l:List Mon) (u:List Bool),zgy l u=true->∀x∈l,zcM x=true
 | [],_,_,x,hx=>by cases hx
 | m :: l,u,h,x,hx=>by
  simp only[zgy]at h;cases h1:zcM m
  .rw [h1]at h;cases h
  .rw [h1]at h;simp only[cT]at h;cases h2:zfE m.Outer u with
   | none=>rw[h2]at h;cases h
   | some u' =>
    rw[h2]at h;rcases qH.1 hx with rfl|hx
    .exact h1
    .exact zBe l u' h x hx
structure PageAt (h:Host) (m p:Int):Prop where
 hm:hasB m (ln h.Mons)=true
 hp:hasB p 8=true
 ok:zcM (ix h.Mons m zi)=true
 ho:(ix h.Mons m zi).Outer.length=8
 hd:(ix h.Mons m zi).Dirty.length=8
 ht:(ix h.Mons m zi).Tables.length=(ix h.Mons m zi).Guests.length
 hs:zcq (ix (ix h.Mons m zi).Outer p zL) noSlot=ieq (ix (ix h.Mons m zi).Outer p zL).Page (-1)
theorem zPc {s:Slot}{n:Int}(h:zdf s n=true):zcq s noSlot=ieq s.Page (-1):=by
 unfold zdf at h;cases h1:zcq s noSlot
 .rw [h1]at h;cases h2:ieq s.Page (-1)
  .rfl
  .have e:s.Page = -1:=qG h2;cases h3:igt n 0
   .rw [h3]at h;cases h
   .cases h4:win s.Page 0 (wsub .i64 n 1)
    .rw [h3,h4]at h;cases h
    .have:=(zdy.1 h4).1;omega
 .unfold zcq at h1;rw[qD]at h1;exact h1.1.symm
theorem zLf {h:Host}{m p:Int}{s:Slot}(hm:hasB m (ln h.Mons)=true)(hs:SmH h):SmH (zdm h m p s):=by
 have hx:=hs.2.1.2 _ (zbJ hm zi);have ht:=zPd (p:=p) (qV _) hx;have hM:ztQ (up h.Mons m { zhJ (ix h.Mons m zi) p (ix h.Mons m zi).Tables.length with Outer:=up (ix h.Mons m zi).Outer p s }):=zpA hs.2.1 ⟨by simpa using hx.1,ht.2⟩
 unfold zdm;cases ine (ix (ix h.Mons m zi).Outer p zL).Page (-1)
 .exact ⟨hs.1,hM,hs.2.2⟩
 .exact ⟨hs.1,hM,jC (zxe _ _) hs.2.2.1,jC (zxe _ _) hs.2.2.2⟩
def zOd:zK:=zMj
theorem zOe:zy zOd:=zHt
def zOf:zK:=zOd
theorem zdC:zy zOf:=zOe
def zmv (o i t:Int):Int:=bif zcN i t then 1 else (cond (zcN o t) 2 0)
@[simp] abbrev zpQ (o i t:Int):Bool:=true
@[simp] abbrev zjC (o i t:Int):Int:=zmv o i t
def zsZ:Run:=rF3 dI dI dI fun b c d=>(zpQ b c d,[aI (zjC b c d)])
def zwS (N:Nat)(a0 a1 a2:Int):OA:=
 (oN (zgS a1 a2) (cond (zf9 a1 a2) (some [(aI 1)]) (oN (zgS a0 a2) (cond (zf9 a0 a2) (some [(aI 2)]) (some [(aI 0)])))))
theorem zF2 (a0 a1 a2:Int)(hc:zpQ a0 a1 a2=true):∃N,zwS N a0 a1 a2=some [aI (zjC a0 a1 a2)]:=by
 refine ⟨0,?_⟩;unfold zwS oN;refine must rfl (br (fun _=>?_) (fun _=>must rfl (br (fun _=>?_) (fun _=>?_))))
 all_goals first|rfl|(simp only [*,zjC,zmv,cT,cF]<;>rfl)|simp_all[Ty.cells,zjC,zmv]
theorem zAS:uV 282 zsZ:=kF3 zdC zq zl zcB (zo []) zF2
theorem zTJ (p:Int):hasB p 3=win p 0 2:=by
 unfold hasB win ige ile
 by_cases h1:0<=p<;>by_cases h2:p<3
 .rw [qL (p:=0<=p/\p<3) ⟨h1,h2⟩,qL (p:=p≥0) h1,qL (p:=p<=2) (by omega)];rfl
 .rw [qK (p:=0<=p/\p<3) (by omega),qK (p:=p<=2) (by omega)];simp
 .rw [qK (p:=0<=p/\p<3) (by omega),qK (p:=p≥0) (by omega)];simp
 .rw [qK (p:=0<=p/\p<3) (by omega),qK (p:=p≥0) (by omega)];simp
theorem zTI (p:Int):hasB p 2=win p 0 1:=by
 unfold hasB win ige ile
 by_cases h1:0<=p<;>by_cases h2:p<2
 .rw [qL (p:=0<=p/\p<2) ⟨h1,h2⟩,qL (p:=p≥0) h1,qL (p:=p<=1) (by omega)];rfl
 .rw [qK (p:=0<=p/\p<2) (by omega),qK (p:=p<=1) (by omega)];simp
 .rw [qK (p:=0<=p/\p<2) (by omega),qK (p:=p≥0) (by omega)];simp
 .rw [qK (p:=0<=p/\p<2) (by omega),qK (p:=p≥0) (by omega)];simp
def zen (m g:Int):Int:=bif win m 0 2 then (cond (win g 0 1) (zG .i64 (zG .i64 1 g) (zkG .i64 m 2)) 0) else 0
@[simp] abbrev zl5 (m g:Int):Bool:=true
@[simp] abbrev zre (m g:Int):Int:=zen m g
def zxI:Run:=rF2 dI dI fun b c=>(zl5 b c,[aI (zre b c)])
def zES (N:Nat)(a0 a1:Int):OA:=
 (oN (zT a0 0 2) (cond (nB (zba a0 0 2)) (some [(aI 0)]) (oN (zT a1 0 1) (cond (nB (zba a1 0 1)) (some [(aI 0)]) (some [(aI (zG .i64 (zG .i64 1 a1) (zkG .i64 a0 2)))])))))
theorem zKP (a0 a1:Int)(hc:zl5 a0 a1=true):∃N,zES N a0 a1=some [aI (zre a0 a1)]:=by
 refine ⟨0,?_⟩;unfold zES oN nB;refine must rfl (brN (fun _=>?_) (fun _=>must rfl (brN (fun _=>?_) (fun _=>?_))))
 all_goals first|rfl|(simp only [*,zre,zen,cT,cF]<;>rfl)|simp_all[Ty.cells,zre,zen]
theorem zFQ:uV 262 zxI:=kF2 zdC zq zl zcB (zo []) zKP
@[simp] abbrev zlX (m g:Int):Bool:=true
@[simp] abbrev znI (m g:Int):Int:=zen m g
def zxD:Run:=rF2 dI dI fun b c=>(zlX b c,[aI (znI b c)])
def zEM (N:Nat)(a0 a1:Int):OA:=
 (oN (zbs a0 3) (cond (nB (zbA a0 3)) (some [(aI 0)]) (oN (zbs a1 2) (cond (nB (zbA a1 2)) (some [(aI 0)]) (some [(aI (zG .i64 (zG .i64 1 a1) (zkG .i64 a0 2)))])))))
theorem zKI (a0 a1:Int)(hc:zlX a0 a1=true):∃N,zEM N a0 a1=some [aI (znI a0 a1)]:=by
 refine ⟨0,?_⟩;unfold zEM oN nB;refine must rfl (brN (fun _=>?_) (fun _=>must rfl (brN (fun _=>?_) (fun _=>?_))))
 all_goals first|rfl|(simp only [*,znI,zen,zTJ,zTI,cT,cF]<;>rfl)|simp_all[Ty.cells,znI,zen,zTJ,zTI]
theorem zFK:uV 67 zxD:=kF2 zdC zq zl zcB (zo []) zKI
def ziI (k:Kept)(p:Int):Bool:=bif zdc k p then ix k.Known p false else false
def zdG (k:Kept)(p:Int):Slot:=bif ziI k p then ix k.Slots p zL else noSlot
@[simp] abbrev zwa (k:Kept)(p:Int):Bool:=pc (SmK k)
@[simp] abbrev znN (k:Kept)(p:Int):Slot:=zdG k p
@[simp] abbrev zv9 (k:Kept)(p:Int):Bool:=ziI k p
def zFr:Run:=rF2 (dT .kept) dI fun b c=>(zwa b c,[aT .slot (znN b c),aB (zv9 b c)])
def zLq (N:Nat)(a0:Kept)(a1:Int):OA:=
 let y0:=(ix a0.Slots a1 zL); (oN (zkx a0 a1) (cond (nB (zfP a0 a1)) (oN zb5 (some [(.agg [(.i .i64 zbo.Page),(.i .i64 zbo.Rights)]),(aB false)])) (oN (inb a1 (ln a0.Known)) (cond (nB (ix a0.Known a1 false)) (oN zb5 (some [(.agg [(.i .i64 zbo.Page),(.i .i64 zbo.Rights)]),(aB false)])) (oN (inb a1 (ln a0.Slots)) (some [(.agg [(.i .i64 y0.Page),(.i .i64 y0.Rights)]),(aB true)]))))))
theorem zOI (a0:Kept)(a1:Int)(hc:zwa a0 a1=true):∃N,zLq N a0 a1=some [aT .slot (znN a0 a1),aB (zv9 a0 a1)]:=by
 have hs:=zB.1 hc;refine ⟨0,?_⟩;unfold zLq znN zv9 zdG ziI oN nB
 conv=>zeta
 refine must (zbj hs) ?_;rw[show zfP a0 a1=zdc a0 a1 from rfl]
 cases hh:zdc a0 a1
 .rfl
 .unfold zdc at hh;obtain ⟨h1,h2⟩:=zce.1 hh;simp only[zx h1,zx h2,cT];cases ix a0.Known a1 false<;>rfl
theorem zKz:uV 337 zFr:=kF2 zdC zq zl zcB (zo []) zOI
@[simp] abbrev zqx (k:Kept)(p:Int):Bool:=true
@[simp] abbrev znG (k:Kept)(p:Int):Slot:=zdG k p
@[simp] abbrev zv2 (k:Kept)(p:Int):Bool:=ziI k p
def zFn:Run:=rF2 (dT .kept) dI fun b c=>(zqx b c,[aT .slot (znG b c),aB (zv2 b c)])
def zLm (N:Nat)(a0:Kept)(a1:Int):OA:=
 let y0:=(ix a0.Slots a1 zL); (oN (zbs a1 (ln a0.Known)) (cond (nB (zbA a1 (ln a0.Known))) (oN zbQ (some [(.agg [(.i .i64 zbx.Page),(.i .i64 zbx.Rights)]),(aB false)])) (oN (zbs a1 (ln a0.Slots)) (cond (nB (zbA a1 (ln a0.Slots))) (oN zbQ (some [(.agg [(.i .i64 zbx.Page),(.i .i64 zbx.Rights)]),(aB false)])) (oN (inb a1 (ln a0.Known)) (cond (nB (ix a0.Known a1 false)) (oN zbQ (some [(.agg [(.i .i64 zbx.Page),(.i .i64 zbx.Rights)]),(aB false)])) (oN (inb a1 (ln a0.Slots)) (some [(.agg [(.i .i64 y0.Page),(.i .i64 y0.Rights)]),(aB true)]))))))))
theorem zOE (a0:Kept)(a1:Int)(hc:zqx a0 a1=true):∃N,zLm N a0 a1=some [aT .slot (znG a0 a1),aB (zv2 a0 a1)]:=by
 refine ⟨0,?_⟩;unfold zLm znG zv2 zdG ziI zdc oN nB
 conv=>zeta
 rw[show zbA a1 (ln a0.Known)=hasB a1 (ln a0.Known) from rfl,show zbA a1 (ln a0.Slots)=hasB a1 (ln a0.Slots) from rfl]
 cases h1:hasB a1 (ln a0.Known)
 .rfl
 .cases h2:hasB a1 (ln a0.Slots)
  .rfl
  .simp only [zbs,zx h1,zx h2,cT];cases ix a0.Known a1 false<;>rfl
theorem zKu:uV 344 zFn:=kF2 zdC zq zl zcB (zo []) zOE
def filled (k:Kept)(inner outer:List Slot)(p:Int):Kept:=bif zdc k p then (cond (hasB p (ln inner)) ⟨up k.Known p true,up k.Slots p (zcV (ix inner p zL) outer)⟩ k) else k
@[simp] theorem zNp {k:Kept}{inner outer:List Slot}{p:Int}(h:SmK k):SmK (filled k inner outer p):=by
 unfold filled;cases zdc k p
 .exact h
 .cases hasB p (ln inner)
  .exact h
  .exact ⟨by simpa using h.1,by simpa using h.2⟩
@[simp] abbrev zzf (k:Kept)(i o:List Slot)(p:Int):Bool:=pc (SmK k)
@[simp] abbrev zBW (k:Kept)(i o:List Slot)(p:Int):Kept:=filled k i o p
def zBV:Run:=rF4 (dT .kept) (dS .slot) (dS .slot) dI fun b c d e=>(zzf b c d e,[aT .kept (zBW b c d e)])
def zG2 (N:Nat)(a0:Kept)(a1 a2:lS)(a3:Int):OA:=
 let y0:=(zcK a0); (oN (zeJ a0) (oN (zkx y0 a3) (cond (zfP y0 a3) (cond (ilt a3 (ln a1)) (oN (inb a3 (ln y0.Known)) (share (up y0.Known a3 true) (fun x5=>(oN (inb a3 (ln a1)) (oN (zg3 (ix a1 a3 zL) a2) (oN (inb a3 (ln y0.Slots)) (share (up y0.Slots a3 (zi5 (ix a1 a3 zL) a2)) (fun x6=>(some [(aT .kept (⟨x5,x6⟩:Kept))]))))))))) (some [(aT .kept y0)])) (some [(aT .kept y0)]))))
theorem zMN (a0:Kept)(a1 a2:List Slot)(a3:Int)(hc:zzf a0 a1 a2 a3=true):∃N,zG2 N a0 a1 a2 a3=some [aT .kept (zBW a0 a1 a2 a3)]:=by
 have hs:=zB.1 hc;refine ⟨0,?_⟩;unfold zG2 zBW filled oN
 conv=>zeta
 refine must (zbj ((zvR _).2 hs)) (must (zbj hs) ?_);rw[show zfP (zcK a0) a3=zdc a0 a3 from rfl]
 cases hh:zdc a0 a3
 .rfl
 .unfold zdc at hh;obtain ⟨h1,h2⟩:=zce.1 hh;rw[has_lt h1 (m:=ln a1)];cases h3:hasB a3 (ln a1)
  .rfl
  .simp only [cT,zcK,zx h1,zx h2,zx h3,share,zg3];rfl
theorem zHP:uV 338 zBV:=kF4 zdC zq zl zcB (zo []) zMN
@[simp] abbrev zyP (k:Kept)(i o:List Slot)(p:Int):Bool:=pc (SmK k)
@[simp] abbrev zBf (k:Kept)(i o:List Slot)(p:Int):Kept:=filled k i o p
def zBT:Run:=rF4 (dT .kept) (dS .slot) (dS .slot) dI fun b c d e=>(zyP b c d e,[aT .kept (zBf b c d e)])
def zGZ (N:Nat)(a0:Kept)(a1 a2:lS)(a3:Int):OA:=
 let y0:=(zci a0); (oN (zee a0) (oN (zbs a3 (ln a0.Known)) (cond (zbA a3 (ln a0.Known)) (oN (zbs a3 (ln a0.Slots)) (cond (zbA a3 (ln a0.Slots)) (oN (zbs a3 (ln a1)) (cond (zbA a3 (ln a1)) (oN (inb a3 (ln y0.Known)) (share (up y0.Known a3 true) (fun x5=>(oN (inb a3 (ln a1)) (oN (zc6 (ix a1 a3 zL) a2) (oN (inb a3 (ln y0.Slots)) (share (up y0.Slots a3 (zcW (ix a1 a3 zL) a2)) (fun x6=>(some [(aT .kept (⟨x5,x6⟩:Kept))]))))))))) (some [(aT .kept y0)]))) (some [(aT .kept y0)]))) (some [(aT .kept y0)]))))
theorem zMJ (a0:Kept)(a1 a2:List Slot)(a3:Int)(hc:zyP a0 a1 a2 a3=true):∃N,zGZ N a0 a1 a2 a3=some [aT .kept (zBf a0 a1 a2 a3)]:=by
 have hs:=zB.1 hc;refine ⟨0,?_⟩;unfold zGZ zBf filled zdc oN
 conv=>zeta
 refine must (zbj hs) ?_;simp only[zbA,zbs,zci,cT];cases h1:hasB a3 (ln a0.Known)
 .rfl
 .cases h2:hasB a3 (ln a0.Slots)
  .rfl
  .cases h3:hasB a3 (ln a1)
   .rfl
   .simp only [cT,zx h1,zx h2,zx h3,share,zc6];rfl
theorem zHL:uV 345 zBT:=kF4 zdC zq zl zcB (zo []) zMJ
theorem zyo {α ρ:Type}(p:α->Bool)(r:α->Option ρ)(K:Unit->Option ρ):∀(l:List α) (i:Nat),goL (fun _ x (_:Unit) k=>bif p x then r x else k ()) K l i ()=match l.find? p with|some x=>r x|none=>K ()
 | [],_=>rfl
 | x :: l,i=>by
  simp only[goL];cases h:p x
  .rw [List.find?_cons_of_neg (by simp[h])]
   exact zyo p r K l (i+1)
  .rw [List.find?_cons_of_pos h];rfl
def zrA (b:List Entry)(t p:Int):Option Entry:=b.find? fun e=>bif ieq e.Tag t then ieq e.Page p else false
@[simp] abbrev zi7 (b:List Entry)(t p:Int):Bool:=true
@[simp] abbrev zi6 (b:List Entry)(t p:Int):Entry:=(zrA b t p).getD ⟨0,0,0,0⟩
@[simp] abbrev zgF (b:List Entry)(t p:Int):Bool:=(zrA b t p).isSome
def zpr:Run:=rF3 (dS .entry) dI dI fun b c d=>(zi7 b c d,[aT .entry (zi6 b c d),aB (zgF b c d)])
def zsK (N:Nat)(a0:lE)(a1 a2:Int):OA:=
 (iter (σ:=(Int×(Int×(Int×(Int×(Int×(Int×(Int×(lE×Unit))))))))) N (fun r4 s5=>let y2:=s5.2.2.2.2.2.2.2.1;let y3:=(inb s5.2.2.1 (ln y2));let y1:=(r4 (s5.1,(s5.2.1,((zG .i64 s5.2.2.1 1),(s5.2.2.2.1,(s5.2.2.2.2.1,(s5.2.2.2.2.2.1,(s5.2.2.2.2.2.2.1,(y2,())))))))));let y0:=(ix y2 s5.2.2.1 zdo); (cond (ilt s5.2.2.1 (ln y2)) (oN y3 (cond (ieq y0.Tag s5.1) (oN y3 (cond (ieq y0.Page s5.2.1) (oN y3 (some [(.agg [(.i .i64 y0.Tag),(.i .i64 y0.Page),(.i .i64 y0.Host),(.i .i64 y0.Rights)]),(aB true)])) y1)) y1)) (some [(.agg [(.i .i64 0),(.i .i64 0),(.i .i64 0),(.i .i64 0)]),(aB false)]))) (a1,(a2,(0,(0,(0,(0,(0,(a0,())))))))))
def zCf:FuncId->Nat->Option Tmpl:=zo [(336,0,{ n:=36,tm:=[(0,.sl 0 []),(1,ti),(2,ti),(6,.lp 0 0),(8,ti)],lo:=[(0,[ti,ti,ti,ti])],ro:=[(0,.entry,false)] })]
theorem zBx (a0:List Entry)(a1 a2:Int)(hb:zbq big [aS .entry a0,aI a1,aI a2])(hc:zi7 a0 a1 a2=true):∃N,zsK N a0 a1 a2=some [aT .entry (zi6 a0 a1 a2),aB (zgF a0 a1 a2)]:=by
 have hl:=(len0 hb);refine zbK fun N hNN=>?_;unfold zsK oN
 conv=>zeta
 refine (zQ a0 (fun i (t:Unit)=>(a1,a2,(i:Int),0,0,0,0,a0,())) _ (fun _ (x:Entry) (_:Unit) κ=>bif (cond (ieq x.Tag a1) (ieq x.Page a2) false) then (some [AV.agg (Ty.cells .entry x),AV.one (.b true)]) else κ ()) (fun (t:Unit)=>(some [(.agg [(.i .i64 0),(.i .i64 0),(.i .i64 0),(.i .i64 0)]),(.one (.b false))])) (fun i hi t rec=>?_) (fun t rec=>?_) _ () (hNN hl)).trans ?_
 .simp only [zbl hi,zU hi,zZ hi,zN hi hl,cT];cases ieq a0[i].Tag a1<;>cases ieq a0[i].Page a2<;>rfl
 .simp only [zbe,cF]
 rw[zyo (fun e:Entry=>bif ieq e.Tag a1 then ieq e.Page a2 else false)]
 unfold zi6 zgF zrA;cases a0.find? (fun e:Entry=>bif ieq e.Tag a1 then ieq e.Page a2 else false)<;>rfl
theorem zwx:uV 336 zpr:=hF3 zdC zq zl zcB zCf zBx
@[simp] abbrev ziZ (b:List Entry)(t p:Int):Bool:=true
@[simp] abbrev zgA (b:List Entry)(t p:Int):Entry:=(zrA b t p).getD ⟨0,0,0,0⟩
@[simp] abbrev zgB (b:List Entry)(t p:Int):Bool:=(zrA b t p).isSome
def zph:Run:=rF3 (dS .entry) dI dI fun b c d=>(ziZ b c d,[aT .entry (zgA b c d),aB (zgB b c d)])
def zsA (N:Nat)(a0:lE)(a1 a2:Int):OA:=
 (iter (σ:=(Int×(Int×(Int×(Int×(Int×(Int×(Int×(Int×(lE×Unit)))))))))) N (fun r4 s5=>let y2:=s5.2.2.2.2.2.2.2.2.1;let y1:=(r4 (s5.1,(s5.2.1,(s5.2.2.1,((zG .i64 s5.2.2.2.1 1),(s5.2.2.2.2.1,(s5.2.2.2.2.2.1,(s5.2.2.2.2.2.2.1,(s5.2.2.2.2.2.2.2.1,(y2,()))))))))));let y0:=(ix y2 s5.2.2.2.1 zdo); (cond (ilt s5.2.2.2.1 s5.2.2.1) (oN (inb s5.2.2.2.1 (ln y2)) (cond (ieq y0.Tag s5.1) (cond (ieq y0.Page s5.2.1) (some [(.agg [(.i .i64 y0.Tag),(.i .i64 y0.Page),(.i .i64 y0.Host),(.i .i64 y0.Rights)]),(aB true)]) y1) y1)) (some [(.agg [(.i .i64 0),(.i .i64 0),(.i .i64 0),(.i .i64 0)]),(aB false)]))) (a1,(a2,((ln a0),(0,(0,(0,(0,(0,(a0,()))))))))))
def zCb:FuncId->Nat->Option Tmpl:=zo [(343,0,{ n:=29,tm:=[(1,ti),(2,ti),(6,.lp 0 0),(10,.sl 0 []),(11,ti),(12,ti)],lo:=[(0,[ti,ti,ti,ti])],ro:=[(0,.entry,false)] })]
theorem zBm (a0:List Entry)(a1 a2:Int)(hb:zbq big [aS .entry a0,aI a1,aI a2])(hc:ziZ a0 a1 a2=true):∃N,zsA N a0 a1 a2=some [aT .entry (zgA a0 a1 a2),aB (zgB a0 a1 a2)]:=by
 have hl:=(len0 hb);refine zbK fun N hNN=>?_;unfold zsA oN
 conv=>zeta
 refine (zQ a0 (fun i (t:Unit)=>(a1,a2,(ln a0),(i:Int),0,0,0,0,a0,())) _ (fun _ (x:Entry) (_:Unit) κ=>bif (cond (ieq x.Tag a1) (ieq x.Page a2) false) then (some [AV.agg (Ty.cells .entry x),AV.one (.b true)]) else κ ()) (fun (t:Unit)=>(some [(.agg [(.i .i64 0),(.i .i64 0),(.i .i64 0),(.i .i64 0)]),(.one (.b false))])) (fun i hi t rec=>?_) (fun t rec=>?_) _ () (hNN hl)).trans ?_
 .simp only [zbl hi,zU hi,zZ hi,zN hi hl,cT];cases ieq a0[i].Tag a1<;>cases ieq a0[i].Page a2<;>rfl
 .simp only [zbe,cF]
 rw[zyo (fun e:Entry=>bif ieq e.Tag a1 then ieq e.Page a2 else false)]
 unfold zgA zgB zrA;cases a0.find? (fun e:Entry=>bif ieq e.Tag a1 then ieq e.Page a2 else false)<;>rfl
theorem zwm:uV 343 zph:=hF3 zdC zq zl zcB zCb zBm
def zor (t p:Int)(e:Entry):Bool:=bif ine e.Tag t then true else ine e.Page p
def zcg (b:List Entry)(t p:Int):List Entry:=b.filter (zor t p)
theorem zrC (b:List Entry)(t p:Int):(zcg b t p).length<=b.length:=List.length_filter_le _ _
@[simp] abbrev zgG (b:List Entry)(t p:Int):Bool:=pc (b.length<=1048576)
@[simp] abbrev zp1 (b:List Entry)(t p:Int):List Entry:=zcg b t p
def zpt:Run:=rF3 (dS .entry) dI dI fun b c d=>(zgG b c d,[aS .entry (zp1 b c d)])
def zsM (N:Nat)(a0:lE)(a1 a2:Int):OA:=
 (iter (σ:=(Int×(Int×(Int×(lE×(lE×Unit)))))) N (fun r4 s5=>let y4:=s5.2.2.2.1;let y2:=(inb s5.2.2.1 (ln y4));let y0:=(ix y4 s5.2.2.1 zdo);let y3:=(ap s5.2.2.2.2.1 [y0]);let y1:=(r4 (s5.1,(s5.2.1,((zG .i64 s5.2.2.1 1),(y4,(y3,())))))); (cond (ilt s5.2.2.1 (ln y4)) (oN y2 (cond (ine y0.Tag s5.1) (oN y2 (oN (few (ln y3)) y1)) (oN y2 (cond (ine y0.Page s5.2.1) (oN y2 (oN (few (ln y3)) y1)) (r4 (s5.1,(s5.2.1,((zG .i64 s5.2.2.1 1),(y4,(s5.2.2.2.2.1,())))))))))) (some [(aS .entry s5.2.2.2.2.1)]))) (a1,(a2,(0,(a0,([],()))))))
def zCh:FuncId->Nat->Option Tmpl:=zo [(261,0,{ n:=40,tm:=[(0,.sl 0 []),(1,ti),(2,ti),(7,.sl 1 []),(8,ti)],lo:=[],ro:=[(0,.entry,false),(1,.entry,true)] })]
theorem zBz (a0:List Entry)(a1 a2:Int)(hc:zgG a0 a1 a2=true):∃N,zsM N a0 a1 a2=some [aS .entry (zp1 a0 a1 a2)]:=by
 have hs:=zB.1 hc;have hl:=zcA hs;refine zbK fun N hNN=>?_;unfold zsM oN
 conv=>zeta
 refine (zQ a0 (fun i (t:lE)=>(a1,a2,(i:Int),a0,t,())) _ (fun _ (x:Entry) (t:List Entry) κ=>bif zor a1 a2 x then (cond (few (ln (ap t [x]))) (κ (ap t [x])) none) else κ t) (fun (t:lE)=>(some [(.one (.s .entry t))])) (fun i hi t rec=>?_) (fun t rec=>?_) _ ([]) (hNN hl.1)).trans ?_
 .simp only [zbl hi,zU hi,zZ hi,zN hi hl.1,cT];unfold zor;cases ine a0[i].Tag a1<;>cases ine a0[i].Page a2<;>rfl
 .simp only [zbe,cF]
 exact zhX (zor a1 a2) _ a0 0 [] (by simpa using hl.2)
theorem zwz:uV 261 zpt:=kF3 zdC zq zl zcB zCh zBz
@[simp] abbrev zeq (b:List Entry)(t p:Int):Bool:=pc (b.length<=1048576)
@[simp] abbrev zeE (b:List Entry)(t p:Int):List Entry:=zcg b t p
def zpj:Run:=rF3 (dS .entry) dI dI fun b c d=>(zeq b c d,[aS .entry (zeE b c d)])
def zsC (N:Nat)(a0:lE)(a1 a2:Int):OA:=
 (iter (σ:=(Int×(Int×(Int×(Int×(lE×(lE×Unit))))))) N (fun r4 s5=>let y3:=s5.2.2.2.2.2.1;let y0:=(ix y3 s5.2.1 zdo);let y2:=(ap s5.2.2.2.2.1 [y0]);let y1:=(r4 (s5.1,((zG .i64 s5.2.1 1),(s5.2.2.1,(s5.2.2.2.1,(y2,(y3,()))))))); (cond (ilt s5.2.1 s5.1) (oN (inb s5.2.1 (ln y3)) (cond (ieq y0.Tag s5.2.2.1) (cond (nB (ieq y0.Page s5.2.2.2.1)) (oN (few (ln y2)) y1) (r4 (s5.1,((zG .i64 s5.2.1 1),(s5.2.2.1,(s5.2.2.2.1,(s5.2.2.2.2.1,(y3,())))))))) (oN (few (ln y2)) y1))) (some [(aS .entry s5.2.2.2.2.1)]))) ((ln a0),(0,(a1,(a2,([],(a0,())))))))
def zCd:FuncId->Nat->Option Tmpl:=zo [(156,0,{ n:=25,tm:=[(1,.fn 157 [0,1]),(5,.sl 0 []),(9,.sl 1 []),(10,ti),(11,ti)],lo:=[(0,[ti]),(1,[ti])],ro:=[(0,.entry,true),(1,.entry,false)] })]
theorem zBo (a0:List Entry)(a1 a2:Int)(hc:zeq a0 a1 a2=true):∃N,zsC N a0 a1 a2=some [aS .entry (zeE a0 a1 a2)]:=by
 have hs:=zB.1 hc;have hl:=zcA hs;refine zbK fun N hNN=>?_;unfold zsC oN nB
 conv=>zeta
 refine (zQ a0 (fun i (t:lE)=>((ln a0),(i:Int),a1,a2,t,a0,())) _ (fun _ (x:Entry) (t:List Entry) κ=>bif zor a1 a2 x then (cond (few (ln (ap t [x]))) (κ (ap t [x])) none) else κ t) (fun (t:lE)=>(some [(.one (.s .entry t))])) (fun i hi t rec=>?_) (fun t rec=>?_) _ ([]) (hNN hl.1)).trans ?_
 .simp only [zbl hi,zU hi,zZ hi,zN hi hl.1,cT];unfold zor;simp only[zh7];cases ieq a0[i].Tag a1<;>cases ieq a0[i].Page a2<;>rfl
 .simp only [zbe,cF]
 exact zhX (zor a1 a2) _ a0 0 [] (by simpa using hl.2)
theorem zwo:uV 66 zpj:=kF3 zdC zq zl zcB zCd zBo
def zRA:zK:=[(282,zsZ),(262,zxI),(67,zxD),(337,zFr),(344,zFn),(338,zBV),(345,zBT),(336,zpr),(343,zph),(261,zpt),(66,zpj)]++zOf
theorem zn2:zy zRA:=zf zAS (zf zFQ (zf zFK (zf zKz (zf zKu (zf zHP (zf zHL (zf zwx (zf zwm (zf zwz (zf zwo zdC))))))))))
def zuG (b:List Entry)(e:Entry):List Entry:=bif igt (ln (ap (zcg b e.Tag e.Page) [e])) 6 then dp (ap (zcg b e.Tag e.Page) [e]) (wsub .i64 (ln (ap (zcg b e.Tag e.Page) [e])) 6) else ap (zcg b e.Tag e.Page) [e]
theorem zsa {b:List Entry}(e:Entry)(h:b.length<=1048576):(zuG b e).length<=1048576/\(ap (zcg b e.Tag e.Page) [e]).length<=1048577:=by
 have h1:=zrC b e.Tag e.Page;have h2:(ap (zcg b e.Tag e.Page) [e]).length<=1048577:=by simp[ap];omega
 refine ⟨?_,h2⟩;unfold zuG;cases h3:igt (ln (ap (zcg b e.Tag e.Page) [e])) 6
 .have h3:=j6 h3;simp only[ln]at h3;simp only[cF];omega
 .simp only [cT,dp,List.length_drop];have h3:=qG h3;have:wsub .i64 (ln (ap (zcg b e.Tag e.Page) [e])) 6=ln (ap (zcg b e.Tag e.Page) [e])-6:=znT (by simp only[ln] at *;omega) (by simp only[ln] at *;omega)
  rw[this];simp only[ln] at *;omega
@[simp] abbrev zkv (b:List Entry)(e:Entry):Bool:=pc (b.length<=1048576)
@[simp] abbrev zku (b:List Entry)(e:Entry):List Entry:=zuG b e
def zq5:Run:=rF2 (dS .entry) (dT .entry) fun b c=>(zkv b c,[aS .entry (zku b c)])
def ztL (N:Nat)(a0:lE)(a1:Entry):OA:=
 let y0:=(ap (zp1 a0 a1.Tag a1.Page) [a1]);let y1:=(wsub .i64 (ln y0) 6); (oN (zgG a0 a1.Tag a1.Page) (oN (few (ln y0)) (cond (igt (ln y0) 6) (oN (inr y1 (ln y0) (ln y0)) (oN (few (ln (ap [] (dp y0 y1)))) (some [(aS .entry (ap [] (dp y0 y1)))]))) (some [(aS .entry y0)]))))
theorem zD1 (a0:List Entry)(a1:Entry)(hc:zkv a0 a1=true):∃N,ztL N a0 a1=some [aS .entry (zku a0 a1)]:=by
 have hs:=zB.1 hc;obtain ⟨h1,h2⟩:=zsa a1 hs;refine ⟨0,?_⟩;unfold ztL oN
 conv=>zeta
 refine must (zbj hs) (must (zd5 (jC h2 (by decide:1048577<=2147483648))) ?_)
 unfold zku zuG at *
 show _=some [AV.one (.s .entry (cond (igt (ln (ap (zcg a0 a1.Tag a1.Page) [a1])) 6) (dp (ap (zcg a0 a1.Tag a1.Page) [a1]) (wsub .i64 (ln (ap (zcg a0 a1.Tag a1.Page) [a1])) 6)) (ap (zcg a0 a1.Tag a1.Page) [a1])))]
 cases h3:igt (ln (ap (zcg a0 a1.Tag a1.Page) [a1])) 6
 .rfl
 .rw [h3]at h1;simp only[cT]at h1;have h3:=qG h3;have e:wsub .i64 (ln (ap (zcg a0 a1.Tag a1.Page) [a1])) 6=ln (ap (zcg a0 a1.Tag a1.Page) [a1])-6:=znT (by simp only[ln] at *;omega) (by simp only[ln] at *;omega)
  refine must rfl (must (qL ?_) (must ?_ ?_))
  .show 0<=wsub .i64 (ln (ap (zcg a0 a1.Tag a1.Page) [a1])) 6/\wsub .i64 (ln (ap (zcg a0 a1.Tag a1.Page) [a1])) 6<=ln (ap (zcg a0 a1.Tag a1.Page) [a1])/\ln (ap (zcg a0 a1.Tag a1.Page) [a1])<=ln (ap (zcg a0 a1.Tag a1.Page) [a1])
   rw[e];simp only[ln] at *;omega
  .exact zqo h1
  .rw [ziy];rfl
theorem zyJ:uV 339 zq5:=kF2 zn2 zq zl zcB (zo []) zD1
@[simp] abbrev zj5 (b:List Entry)(e:Entry):Bool:=pc (b.length<=1048576)
@[simp] abbrev zj4 (b:List Entry)(e:Entry):List Entry:=zuG b e
def zqQ:Run:=rF2 (dS .entry) (dT .entry) fun b c=>(zj5 b c,[aS .entry (zj4 b c)])
def ztv (N:Nat)(a0:lE)(a1:Entry):OA:=
 let y0:=(ap (zeE a0 a1.Tag a1.Page) [a1]);let y1:=(imax 0 (wsub .i64 (ln y0) 6)); (oN (zeq a0 a1.Tag a1.Page) (oN (few (ln y0)) (oN (inr y1 (ln y0) (ln y0)) (some [(aS .entry (dp y0 y1))]))))
theorem zDL (a0:List Entry)(a1:Entry)(hc:zj5 a0 a1=true):∃N,ztv N a0 a1=some [aS .entry (zj4 a0 a1)]:=by
 have hs:=zB.1 hc;obtain ⟨_,h2⟩:=zsa a1 hs;refine ⟨0,?_⟩;unfold ztv zj4 zuG oN
 conv=>zeta
 simp only[zeE];generalize ap (zcg a0 a1.Tag a1.Page) [a1]=l at h2 ⊢;refine must (zbj hs) (must (zd5 (jC h2 (by decide:1048577<=2147483648))) ?_)
 have e:wsub .i64 (ln l) 6=ln l-6:=znT (by simp only[ln] at *;omega) (by simp only[ln] at *;omega)
 rw[e];cases h3:igt (ln l) 6
 .have h3:=j6 h3;have e2:imax 0 (ln l-6)=0:=by
   unfold imax;rw[if_neg (by omega)]
  rw[e2];exact must (qL (by simp only[ln];omega)) (by simp[dp])
 .have h3:=qG h3;have e2:imax 0 (ln l-6)=ln l-6:=by
   unfold imax;rw[if_pos (by omega)]
  rw[e2];exact must (qL (by simp only[ln] at *;omega)) rfl
theorem zyu:uV 346 zqQ:=kF2 zn2 zq zl zcB (zo []) zDL
def zrB (l:List Slot)(p:Int):Option Nat:=l.findIdx? fun s=>ieq s.Page p
def zi3 (p:Int):List Mon->Nat->Int×Int
 | [],_=>(-1,-1)
 | m :: l,i=>match zrB m.Outer p with|some k=>((i:Int),(k:Int))|none=>zi3 p l (i+1)
def zcC (h:Host)(p:Int):Int×Int:=bif ilt p 0 then (-1,-1) else zi3 p h.Mons 0
theorem zFb {ρ:Type}(p:Slot->Bool)(r:Nat->Option ρ)(K:Unit->Option ρ):∀(l:List Slot) (i:Nat),goL (fun j x (_:Unit) k=>bif p x then r j else k ()) K l i ()=match l.findIdx? p with|some k=>r (i+k)|none=>K ()
 | [],_=>rfl
 | x :: l,i=>by
  simp only[goL];rw[List.findIdx?_cons];cases h:p x
  .simp only [cF,kI,if_false];rw[zFb p r K l (i+1)];cases l.findIdx? p with
   | none=>rfl
   | some k=>simp only[Option.map_some];congr 1;omega
  .rfl
theorem zCz {ρ:Type}(p:Int)(r:Int->Int->Option ρ):∀(l:List Mon) (i:Nat),goL (fun i (x:Mon) (_:Unit) κ=>goL (fun j (y:Slot) (_:Unit) κ₁=>bif ieq y.Page p then r (i:Int) (j:Int) else κ₁ ()) (fun _=>κ ()) x.Outer 0 ()) (fun _=>r (-1) (-1)) l i ()=r (zi3 p l i).1 (zi3 p l i).2
 | [],_=>rfl
 | m :: l,i=>by
  simp only[goL,zi3];rw[zFb (fun s=>ieq s.Page p) (fun j=>r (i:Int) (j:Int))];unfold zrB;cases m.Outer.findIdx? (fun s=>ieq s.Page p) with
  | none=>exact zCz p r l (i+1)
  | some k=>simp only[jY]
@[simp] abbrev zg2 (h:Host)(p:Int):Bool:=true
@[simp] abbrev zel (h:Host)(p:Int):Int:=(zcC h p).1
@[simp] abbrev zfq (h:Host)(p:Int):Int:=(zcC h p).2
def zmX:Run:=rF2 dH dI fun b c=>(zg2 b c,[aI (zel b c),aI (zfq b c)])
def zoT (N:Nat)(a0:Host)(a1:Int):OA:=
 (cond (ilt a1 0) (some [(aI (-1)),(aI (-1))]) (iter (σ:=(Int×(Int×(Int×(lN×Unit))))) N (fun r3 s4=>let y3:=s4.2.2.1; (cond (ilt y3 s4.2.1) (oN (inb y3 (ln s4.2.2.2.1)) (iter (σ:=(Int×(Int×(Int×(Int×(Int×(Int×(Int×(lN×Unit))))))))) N (fun r5 s6=>let y2:=s6.2.2.2.2.2.2.2.1;let y1:=(ix y2 s6.2.2.2.2.1 zi).Outer;let y0:=s6.2.2.2.2.2.2.1; (cond (ilt y0 s6.2.2.2.2.2.1) (oN (inb y0 (ln y1)) (cond (ieq (ix y1 y0 zL).Page s6.1) (some [(aI s6.2.1),(aI y0)]) (r5 (s6.1,(s6.2.1,(s6.2.2.1,(s6.2.2.2.1,(s6.2.2.2.2.1,(s6.2.2.2.2.2.1,((zG .i64 y0 1),(y2,()))))))))))) (r3 (s6.1,(s6.2.2.1,((zG .i64 s6.2.2.2.1 1),(y2,()))))))) (s4.1,(y3,(s4.2.1,(y3,(y3,((ln (ix s4.2.2.2.1 y3 zi).Outer),(0,(s4.2.2.2.1,())))))))))) (some [(aI (-1)),(aI (-1))]))) (a1,((ln a0.Mons),(0,(a0.Mons,()))))))
def zwI:FuncId->Nat->Option Tmpl:=zo [(360,0,{ n:=36,tm:=[(1,ti),(13,.sl 0 []),(14,ti),(15,ti)],lo:=[],ro:=[(0,.mon,false)] }),(360,2,{ n:=36,tm:=[(1,ti),(6,ti),(13,.sl 0 []),(14,ti),(15,ti),(21,.sl 0 [0]),(22,ti),(23,ti)],lo:=[],ro:=[(0,.mon,false)] })]
theorem zwE (a0:Host)(a1:Int)(hb:zbq big [aH a0,aI a1])(hc:zg2 a0 a1=true):∃N,zoT N a0 a1=some [aI (zel a0 a1),aI (zfq a0 a1)]:=by
 have hm:CVB big (.s .mon a0.Mons):=(zbN hb).1 _ (by simp[AV.cvs,zbh])
 have hl:=hm.len;refine zbK fun N hNN=>?_;unfold zoT zel zfq zcC oN
 conv=>zeta
 cases h0:ilt a1 0
 .simp only [cF];refine (zQ a0.Mons (fun i (t:Unit)=>(a1,(ln a0.Mons),(i:Int),a0.Mons,())) _ (fun i (x:Mon) (_:Unit) κ=>goL (fun j (y:Slot) (_:Unit) κ₁=>bif ieq y.Page a1 then some [AV.one (.i .i64 (i:Int)),AV.one (.i .i64 (j:Int))] else κ₁ ()) (fun _=>κ ()) x.Outer 0 ()) (fun (t:Unit)=>(some [(.one (.i .i64 (-1))),(.one (.i .i64 (-1)))])) (fun i hi t rec=>?_) (fun t rec=>?_) _ () (hNN hl)).trans ?_
  .simp only [zbl hi,zU hi,zZ hi,zN hi hl,cT];have ho:a0.Mons[i].Outer.length<=big:=(hm.inv.2 _ (jR hi) (.s .slot _) (by simp[Ty.cells])).len
   refine (zQ a0.Mons[i].Outer (fun j (u:Unit)=>(a1,(i:Int),(ln a0.Mons),(i:Int),(i:Int),(ln a0.Mons[i].Outer),(j:Int),a0.Mons,())) _ (fun j (y:Slot) (_:Unit) κ₁=>bif ieq y.Page a1 then some [AV.one (.i .i64 (i:Int)),AV.one (.i .i64 (j:Int))] else κ₁ ()) (fun (u:Unit)=>(rec (a1,((ln a0.Mons),((((i+1:Nat)):Int),(a0.Mons,())))))) (fun j hj u rec1=>?_) (fun u rec1=>?_) _ () (hNN ho)).trans ?_
   .simp only [zbl hj,zU hj,zZ hj,zN hj ho,cT,zU hi,zZ hi,zN hi hl]
   .simp only [zbe,cF,zU hi,zZ hi,zN hi hl]
   rfl
  .simp only [zbe,cF]
  exact zCz a1 (fun i j=>some [AV.one (.i .i64 i),AV.one (.i .i64 j)]) a0.Mons 0
 .rfl
theorem ztk:uV 360 zmX:=hF2 zn2 zq zl zcB zwI zwE
theorem zOu {α τ ρ:Type}(r:Option ρ):∀(l:List α) (i:Nat) (t:τ),goL (fun _ _ _ _=>r) (fun _=>r) l i t=r
 | [],_,_=>rfl
 | _ :: _,_,_=>rfl
@[simp] abbrev zg4 (h:Host)(p:Int):Bool:=true
@[simp] abbrev zem (h:Host)(p:Int):Int:=(zcC h p).1
@[simp] abbrev zfw (h:Host)(p:Int):Int:=(zcC h p).2
def zmZ:Run:=rF2 dH dI fun b c=>(zg4 b c,[aI (zem b c),aI (zfw b c)])
def zoW (N:Nat)(a0:Host)(a1:Int):OA:=
 (iter (σ:=(Int×(Int×(lM×(lN×(lE×(lE×Unit))))))) N (fun r3 s4=>(cond (ilt s4.2.1 (ln s4.2.2.2.1)) (cond (ige s4.1 0) (iter (σ:=(Int×(Int×(Int×(lM×(lN×(lE×(lE×Unit)))))))) N (fun r5 s6=>let y1:=s6.2.2.2.2.1;let y0:=(ix y1 s6.2.1 zi).Outer; (oN (inb s6.2.1 (ln y1)) (cond (ilt s6.2.2.1 (ln y0)) (oN (inb s6.2.1 (ln y1)) (oN (inb s6.2.2.1 (ln y0)) (cond (ieq (ix y0 s6.2.2.1 zL).Page s6.1) (some [(aI s6.2.1),(aI s6.2.2.1)]) (r5 (s6.1,(s6.2.1,((zG .i64 s6.2.2.1 1),(s6.2.2.2.1,(y1,(s6.2.2.2.2.2.1,(s6.2.2.2.2.2.2.1,()))))))))))) (r3 (s6.1,((zG .i64 s6.2.1 1),(s6.2.2.2.1,(y1,(s6.2.2.2.2.2.1,(s6.2.2.2.2.2.2.1,())))))))))) (s4.1,(s4.2.1,(0,(s4.2.2.1,(s4.2.2.2.1,(s4.2.2.2.2.1,(s4.2.2.2.2.2.1,())))))))) (some [(aI (-1)),(aI (-1))])) (some [(aI (-1)),(aI (-1))]))) (a1,(0,(a0.Memory,(a0.Mons,(a0.Buffer,(a0.IoBuffer,())))))))
def zwK:FuncId->Nat->Option Tmpl:=zo [(364,0,{ n:=44,tm:=[(1,ti),(2,.lp 0 0),(6,ti)],lo:=[(0,[.sl 0 [],.sl 1 [],.sl 2 [],.sl 3 []])],ro:=[(0,(.sl .int),false),(1,.mon,false),(2,.entry,false),(3,.entry,false)] }),(364,2,{ n:=44,tm:=[(1,ti),(2,.lp 0 0),(6,ti),(7,ti)],lo:=[(0,[.sl 0 [],.sl 1 [],.sl 2 [],.sl 3 []])],ro:=[(0,(.sl .int),false),(1,.mon,false),(2,.entry,false),(3,.entry,false)] })]
theorem zwH (a0:Host)(a1:Int)(hb:zbq big [aH a0,aI a1])(hc:zg4 a0 a1=true):∃N,zoW N a0 a1=some [aI (zem a0 a1),aI (zfw a0 a1)]:=by
 have hm:CVB big (.s .mon a0.Mons):=(zbN hb).1 _ (by simp[AV.cvs,zbh])
 have hl:=hm.len;refine zbK fun N hNN=>?_;unfold zoW zem zfw zcC oN
 conv=>zeta
 refine (zQ a0.Mons (fun i (t:Unit)=>(a1,(i:Int),a0.Memory,a0.Mons,a0.Buffer,a0.IoBuffer,())) _ (fun i (x:Mon) (_:Unit) κ=>bif ige a1 0 then goL (fun j (y:Slot) (_:Unit) κ₁=>bif ieq y.Page a1 then some [AV.one (.i .i64 (i:Int)),AV.one (.i .i64 (j:Int))] else κ₁ ()) (fun _=>κ ()) x.Outer 0 () else some [AV.one (.i .i64 (-1)),AV.one (.i .i64 (-1))]) (fun (t:Unit)=>(some [(.one (.i .i64 (-1))),(.one (.i .i64 (-1)))])) (fun i hi t rec=>?_) (fun t rec=>?_) _ () (hNN hl)).trans ?_
 .simp only [zbl hi,zU hi,zZ hi,zN hi hl,cT];cases h0:ige a1 0
  .rfl
  have ho:a0.Mons[i].Outer.length<=big:=(hm.inv.2 _ (jR hi) (.s .slot _) (by simp[Ty.cells])).len
  simp only[cT];refine (zQ a0.Mons[i].Outer (fun j (_:Unit)=>(a1,((i:Int),((j:Int),(a0.Memory,(a0.Mons,(a0.Buffer,(a0.IoBuffer,())))))))) _ (fun j (y:Slot) (_:Unit) κ₁=>bif ieq y.Page a1 then some [AV.one (.i .i64 (i:Int)),AV.one (.i .i64 (j:Int))] else κ₁ ()) (fun _=>rec (a1,(((i+1:Nat):Int),(a0.Memory,(a0.Mons,(a0.Buffer,(a0.IoBuffer,()))))))) (fun j hj u rec1=>?_) (fun u rec1=>?_) _ () (hNN ho)).trans ?_
  .simp only [zbl hj,zU hj,zZ hj,zN hj ho,cT,zU hi,zZ hi]
  .simp only [zbe,cF,cT,zU hi,zZ hi,zN hi hl]
  rfl
 .simp only [zbe,cF]
 cases h0:ige a1 0
 .have h1:ilt a1 0=true:=by
   have:=j6 h0;exact qL (by omega)
  rw[h1];exact zOu _ _ _ _
 .have h1:ilt a1 0=false:=by
   have:=qG h0;exact qK (by omega)
  rw[h1];exact zCz a1 (fun i j=>some [AV.one (.i .i64 i),AV.one (.i .i64 j)]) a0.Mons 0
theorem ztm:uV 364 zmZ:=hF2 zn2 zq zl zcB zwK zwH
def zRB:zK:=[(339,zq5),(346,zqQ),(364,zmZ),(360,zmX)]++zRA
theorem zn3:zy zRB:=zf zyJ (zf zyu (zf ztm (zf ztk zn2)))
def zbX (h:Host):List Int:=zyT (fun i=>ilt (zcC h (i:Int)).1 0) h.Memory.length 0
@[simp] abbrev zie (h:Host):Bool:=pc (h.Memory.length<=1048576)
@[simp] abbrev zdw (h:Host):List Int:=zbX h
def zvh:Run:=rF1 dH fun b=>(zie b,[aS .int (zdw b)])
def zz5 (N:Nat)(a0:Host):OA:=
 (iter (σ:=(Int×((List Int)×(lM×(lN×(lE×(lE×Unit))))))) N (fun r2 s3=>let y0:=(⟨s3.2.2.1,s3.2.2.2.1,s3.2.2.2.2.1,s3.2.2.2.2.2.1⟩:Host); (cond (ilt s3.1 (ln s3.2.2.1)) (oN (zg4 y0 s3.1) (cond (ilt (zem y0 s3.1) 0) (oN (few (ln (ap s3.2.1 [s3.1]))) (r2 ((zG .i64 s3.1 1),((ap s3.2.1 [s3.1]),(s3.2.2.1,(s3.2.2.2.1,(s3.2.2.2.2.1,(s3.2.2.2.2.2.1,())))))))) (r2 ((zG .i64 s3.1 1),(s3.2.1,(s3.2.2.1,(s3.2.2.2.1,(s3.2.2.2.2.1,(s3.2.2.2.2.2.1,()))))))))) (some [(aS .int s3.2.1)]))) (0,([],(a0.Memory,(a0.Mons,(a0.Buffer,(a0.IoBuffer,())))))))
def zJW:FuncId->Nat->Option Tmpl:=zo [(363,0,{ n:=28,tm:=[(1,.lp 0 0),(3,.sl 0 []),(4,ti)],lo:=[(0,[.sl 1 [],.sl 2 [],.sl 3 [],.sl 4 []])],ro:=[(0,.int,true),(1,(.sl .int),false),(2,.mon,false),(3,.entry,false),(4,.entry,false)] })]
theorem zIy (a0:Host)(hc:zie a0=true):∃N,zz5 N a0=some [aS .int (zdw a0)]:=by
 have hs:=zB.1 hc;have hl:=zcA hs;refine zbK fun N hNN=>?_;unfold zz5 oN
 conv=>zeta
 refine (zQ a0.Memory (fun i (t:(List Int))=>((i:Int),t,a0.Memory,a0.Mons,a0.Buffer,a0.IoBuffer,())) _ (fun i (_:List Int) (t:List Int) κ=>bif ilt (zcC a0 (i:Int)).1 0 then (cond (few (ln (ap t [(i:Int)]))) (κ (ap t [(i:Int)])) none) else κ t) (fun (t:(List Int))=>(some [(.one (.s .int t))])) (fun i hi t rec=>?_) (fun t rec=>?_) _ ([]) (hNN hl.1)).trans ?_
 .simp only [zbl hi,zU hi,zZ hi,zN hi hl.1,cT]
 .simp only [zbe,cF]
 rw[znE (fun i (t:List Int) κ=>bif ilt (zcC a0 (i:Int)).1 0 then (cond (few (ln (ap t [(i:Int)]))) (κ (ap t [(i:Int)])) none) else κ t)]
 exact zrJ (fun i=>ilt (zcC a0 (i:Int)).1 0) _ _ 0 [] (by simpa using hl.2)
theorem zDe:uV 363 zvh:=kF1 zn3 zq zl zcB zJW zIy
@[simp] abbrev zh1 (h:Host):Bool:=pc (h.Memory.length<=1048576)
@[simp] abbrev zdQ (h:Host):List Int:=zbX h
def zuO:Run:=rF1 dH fun b=>(zh1 b,[aS .int (zdQ b)])
def zzD (N:Nat)(a0:Host):OA:=
 (iter (σ:=(Int×(Int×((List Int)×(lM×(lN×(lE×(lE×Unit)))))))) N (fun r2 s3=>let y1:=s3.2.2.2.2.2.2.1;let y0:=(⟨s3.2.2.2.1,s3.2.2.2.2.1,s3.2.2.2.2.2.1,y1⟩:Host); (cond (ilt s3.2.1 s3.1) (oN (zg2 y0 s3.2.1) (cond (ilt (zel y0 s3.2.1) 0) (oN (few (ln (ap s3.2.2.1 [s3.2.1]))) (r2 (s3.1,((zG .i64 s3.2.1 1),((ap s3.2.2.1 [s3.2.1]),(s3.2.2.2.1,(s3.2.2.2.2.1,(s3.2.2.2.2.2.1,(y1,()))))))))) (r2 (s3.1,((zG .i64 s3.2.1 1),(s3.2.2.1,(s3.2.2.2.1,(s3.2.2.2.2.1,(s3.2.2.2.2.2.1,(y1,())))))))))) (some [(aS .int s3.2.2.1)]))) ((ln a0.Memory),(0,([],(a0.Memory,(a0.Mons,(a0.Buffer,(a0.IoBuffer,()))))))))
def zJO:FuncId->Nat->Option Tmpl:=zo [(324,0,{ n:=28,tm:=[(1,.lp 0 0),(3,.sl 0 []),(10,ti),(11,ti)],lo:=[(0,[.sl 1 [],.sl 2 [],.sl 3 [],.sl 4 []])],ro:=[(0,.int,true),(1,(.sl .int),false),(2,.mon,false),(3,.entry,false),(4,.entry,false)] })]
theorem zH5 (a0:Host)(hc:zh1 a0=true):∃N,zzD N a0=some [aS .int (zdQ a0)]:=by
 have hs:=zB.1 hc;have hl:=zcA hs;refine zbK fun N hNN=>?_;unfold zzD oN
 conv=>zeta
 refine (zQ a0.Memory (fun i (t:(List Int))=>((ln a0.Memory),(i:Int),t,a0.Memory,a0.Mons,a0.Buffer,a0.IoBuffer,())) _ (fun i (_:List Int) (t:List Int) κ=>bif ilt (zcC a0 (i:Int)).1 0 then (cond (few (ln (ap t [(i:Int)]))) (κ (ap t [(i:Int)])) none) else κ t) (fun (t:(List Int))=>(some [(.one (.s .int t))])) (fun i hi t rec=>?_) (fun t rec=>?_) _ ([]) (hNN hl.1)).trans ?_
 .simp only [zbl hi,zU hi,zZ hi,zN hi hl.1,cT]
 .simp only [zbe,cF]
 rw[znE (fun i (t:List Int) κ=>bif ilt (zcC a0 (i:Int)).1 0 then (cond (few (ln (ap t [(i:Int)]))) (κ (ap t [(i:Int)])) none) else κ t)]
 exact zrJ (fun i=>ilt (zcC a0 (i:Int)).1 0) _ _ 0 [] (by simpa using hl.2)
theorem zCM:uV 324 zuO:=kF1 zn3 zq zl zcB zJO zH5
def zgw (m:List (List Int))(p:Int)(c:List Int):List (List Int):=bif hasB p (ln m) then (cond (zb3 c) (up m p c) m) else m
@[simp] abbrev zhz (m:List (List Int))(p:Int)(c:List Int):Bool:=pc (SmM m/\c.length<=1048576)
@[simp] abbrev zgu (m:List (List Int))(p:Int)(c:List Int):List (List Int):=zgw m p c
def zq7:Run:=rF3 (dS (.sl .int)) dI (dS .int) fun b c d=>(zhz b c d,[aS (.sl .int) (zgu b c d)])
def ztM (N:Nat)(a0:lM)(a1:Int)(a2:List Int):OA:=
 (oN (zgX a0) (oN (zT a1 0 (wsub .i64 (ln a0) 1)) (cond (zba a1 0 (wsub .i64 (ln a0) 1)) (oN (zd0 a2) (cond (zdx a2) (oN (few (ln (ap [] a2))) (oN (inb a1 (ln (zfz a0))) (share (up (zfz a0) a1 (ap [] a2)) (fun x4=>(some [(aS (.sl .int) x4)]))))) (some [(aS (.sl .int) (zfz a0))]))) (some [(aS (.sl .int) (zfz a0))]))))
theorem zD4 (a0:List (List Int))(a1:Int)(a2:List Int)(hc:zhz a0 a1 a2=true):∃N,ztM N a0 a1 a2=some [aS (.sl .int) (zgu a0 a1 a2)]:=by
 obtain ⟨hs,hs2⟩:=zB.1 hc;refine ⟨0,?_⟩;unfold ztM zgu zgw oN;refine must (zbj ((znC _).2 hs)) (must rfl ?_);rw[show zba a1 0 (wsub .i64 (ln a0) 1)=hasB a1 (ln a0) from zwi hs.1 a1]
 cases h1:hasB a1 (ln a0)
 .rfl
 .simp only [cT,zd0,zdx];cases h2:zb3 a2
  .rfl
  .refine must rfl (must (zqo hs2) (must (zx h1) ?_));rw[ziy];rfl
theorem zyL:uV 365 zq7:=kF3 zn3 zq zl zcB (zo []) zD4
@[simp] abbrev zhr (m:List (List Int))(p:Int)(c:List Int):Bool:=pc (SmM m/\c.length<=1048576)
@[simp] abbrev zgk (m:List (List Int))(p:Int)(c:List Int):List (List Int):=zgw m p c
def zqW:Run:=rF3 (dS (.sl .int)) dI (dS .int) fun b c d=>(zhr b c d,[aS (.sl .int) (zgk b c d)])
def ztA (N:Nat)(a0:lM)(a1:Int)(a2:List Int):OA:=
 (oN (zdX a0) (oN (zbs a1 (ln a0)) (cond (zbA a1 (ln a0)) (oN (zfr a2) (cond (zer a2) (oN (zcw a2) (oN (inb a1 (ln (zcs a0))) (share (up (zcs a0) a1 (zct a2)) (fun x4=>(some [(aS (.sl .int) x4)]))))) (some [(aS (.sl .int) (zcs a0))]))) (some [(aS (.sl .int) (zcs a0))]))))
theorem zDR (a0:List (List Int))(a1:Int)(a2:List Int)(hc:zhr a0 a1 a2=true):∃N,ztA N a0 a1 a2=some [aS (.sl .int) (zgk a0 a1 a2)]:=by
 obtain ⟨hs,hs2⟩:=zB.1 hc;refine ⟨0,?_⟩;unfold ztA zgk zgw oN;refine must (zbj hs) (must rfl ?_);rw[show zbA a1 (ln a0)=hasB a1 (ln a0) from rfl]
 cases h1:hasB a1 (ln a0)
 .rfl
 .simp only [cT,zfr,zer];cases h2:zb3 a2
  .rfl
  .refine must rfl (must (zbj (jC hs2 (by decide))) (must (zx h1) rfl))
theorem zyA:uV 326 zqW:=kF3 zn3 zq zl zcB (zo []) zDR
def zlr:zK:=[(363,zvh),(324,zuO),(365,zq7),(326,zqW)]++zRB
theorem zfI:zy zlr:=zf zDe (zf zCM (zf zyL (zf zyA zn3)))
abbrev mZ:Mon:=Ty.dflt .mon
abbrev sZ:Slot:=Ty.dflt .slot
def ShM (x:Mon):Prop:=x.Outer.length=8/\x.Out.length=8/\x.Dirty.length=8/\x.Tables.length=x.Guests.length
def Shape (h:Host):Prop:=SmH h/\∀x∈h.Mons,ShM x
theorem zfS {h:Host}{m:Int}{x:Mon}(hs:Shape h)(h1:ziY x)(h2:ShM x):Shape { h with Mons:=up h.Mons m x }:=by
 refine ⟨⟨hs.1.1,zpA hs.1.2.1 h1,hs.1.2.2⟩,fun y hy=>?_⟩;rcases jP hy with hy|rfl
 .exact hs.2 y hy
 .exact h2
theorem zbB {h:Host}(hs:Shape h){m:Int}(hm:hasB m (ln h.Mons)=true):ziY (ix h.Mons m mZ)/\ShM (ix h.Mons m mZ):=⟨hs.1.2.1.2 _ (zbJ hm _),hs.2 _ (zbJ hm _)⟩
theorem zFv {h:Host}{mm:List (List Int)}(hs:Shape h)(h1:SmM mm):Shape { h with Memory:=mm }:=⟨⟨h1,hs.1.2⟩,hs.2⟩
theorem zmQ {h:Host}{m p:Int}{s:Slot}(hm:hasB m (ln h.Mons)=true)(hs:Shape h):Shape (zdm h m p s):=by
 refine ⟨zLf hm hs.1,?_⟩;obtain ⟨_,h2⟩:=zbB hs hm;have key:∀y∈up h.Mons m { zhJ (ix h.Mons m mZ) p (ix h.Mons m mZ).Tables.length with Outer:=up (ix h.Mons m mZ).Outer p s },ShM y:=by
  intro y hy;rcases jP hy with hy|rfl
  .exact hs.2 y hy
  .exact ⟨by simpa using h2.1,h2.2.1,h2.2.2.1,by simpa [zhJ,zlg] using h2.2.2.2⟩
 unfold zdm;cases ine (ix (ix h.Mons m mZ).Outer p sZ).Page (-1)<;>exact key
theorem zef (h:Host)(m p:Int)(s:Slot):(zdm h m p s).Mons=up h.Mons m { zhJ (ix h.Mons m mZ) p (ix h.Mons m mZ).Tables.length with Outer:=up (ix h.Mons m mZ).Outer p s }/\(zdm h m p s).Memory=h.Memory:=by
 unfold zdm;cases ine (ix (ix h.Mons m mZ).Outer p sZ).Page (-1)<;>exact ⟨rfl,rfl⟩
theorem zdI {h:Host}{m k:Int}{x:Mon}(hm:hasB m (ln h.Mons)=true):hasB m (ln (up h.Mons k x))=true:=by simpa [ln] using hm
theorem zxh {h:Host}{m k p:Int}{s:Slot}(hm:hasB m (ln h.Mons)=true):hasB m (ln (zdm h k p s).Mons)=true:=by
 rw[(zef h k p s).1];exact zdI hm
theorem zcm {α:Type}{l:List α}{p:Int}(h:l.length=8)(hp:hasB p 8=true):hasB p (ln l)=true:=by rw[ln,h];exact hp
def zrZ (h:Host)(m p:Int)(s:Slot):Host :=
 bif ine s.Page (-1) then ⟨h.Memory,up h.Mons m (zhJ (ix h.Mons m mZ) p (ix h.Mons m mZ).Guests.length),flushed h.Buffer s.Page,flushed h.IoBuffer s.Page⟩
 else ⟨h.Memory,up h.Mons m (zhJ (ix h.Mons m mZ) p (ix h.Mons m mZ).Guests.length),h.Buffer,h.IoBuffer⟩
theorem zso {h:Host}{k:Nat}{p:Int}{s:Slot}(hk:k<h.Mons.length)(ht:(ix h.Mons (k:Int) mZ).Tables.length=(ix h.Mons (k:Int) mZ).Guests.length) :
 zrZ { h with Mons:=up h.Mons (k:Int) { ix h.Mons (k:Int) mZ with Outer:=up (ix h.Mons (k:Int) mZ).Outer p s } } (k:Int) p (ix (ix h.Mons (k:Int) mZ).Outer p sZ)=zdm h (k:Int) p s:=by
 unfold zdm zrZ;simp only[zdp hk,zst,zhJ,ht]
def zME {ρ:Type}(m p:Int)(i:Nat)(t:List Mon)(κ:List Mon->Option ρ):Option ρ :=
 (cond (inb (i:Int) (ln (ix t m mZ).Tables)) (cond (inb (i:Int) (ln (ix t m mZ).Guests)) (cond (pc (SmK (ix (ix t m mZ).Tables (i:Int) zcr)/\(ix (ix t m mZ).Guests (i:Int) zC).Live.length<=1048576)) (cond (inb (i:Int) (ln (ix t m mZ).Tables)) (κ (up t m ({ (ix t m mZ) with Tables:=(up (ix t m mZ).Tables (i:Int) (zjS (ix (ix t m mZ).Tables (i:Int) zcr) (ix (ix t m mZ).Guests (i:Int) zC).Live p)) }:Mon))) none) none) none) none)
theorem zLB {ρ:Type}{mons:List Mon}{k:Nat}(hk:k<mons.length)(p:Int)(hm:ziY (ix mons (k:Int) mZ))(ht:(ix mons (k:Int) mZ).Tables.length=(ix mons (k:Int) mZ).Guests.length)(K:List Mon->Option ρ) :
 ∀(n i:Nat),i+n=(ix mons (k:Int) mZ).Guests.length->goN (fun i t κ=>zME (k:Int) p i t κ) K n i (up mons (k:Int) (zhJ (ix mons (k:Int) mZ) p i))=K (up mons (k:Int) (zhJ (ix mons (k:Int) mZ) p (ix mons (k:Int) mZ).Guests.length))
 | 0,i,h=>by
  have:i=(ix mons (k:Int) mZ).Guests.length:=by omega
  subst this;rfl
 | n+1,i,h=>by
  have hi3:i<(ix mons (k:Int) mZ).Guests.length:=by omega
  have hi2:i<(zoO (ix mons (k:Int) mZ).Guests p i (ix mons (k:Int) mZ).Tables).length:=by rw[zlg];omega
  have hf:pc (SmK (ix (zoO (ix mons (k:Int) mZ).Guests p i (ix mons (k:Int) mZ).Tables) (i:Int) zcr)/\(ix (ix mons (k:Int) mZ).Guests (i:Int) zC).Live.length<=1048576)=true :=
   zbj ⟨by rw[zZ hi2];exact (zpz _ _ _ _ (by omega) hm.2.2.2.2.2).2 _ (jR hi2),by rw[zZ hi3];exact (hm.2.2.2.1.2 _ (jR hi3)).2.2.1⟩
  simp only[goN,zME,zdp hk,zst,zhJ,zU hi2,zU hi3,hf,cT];exact zLB hk p hm ht K n (i+1) (by omega)
@[simp] abbrev zc0 (h:Host)(m p:Int)(s:Slot):Bool:=pc (Shape h/\hasB m (ln h.Mons)=true)
@[simp] abbrev zc1 (h:Host)(m p:Int)(s:Slot):Host:=zrZ h m p s
def zis:List CV->List AV->Option (Bool×List CV×List AV)
 | [.s (.sl .int) b,.s .mon c,.s .entry d,.s .entry e],[.one (.i .i64 f),.one (.i .i64 g),.agg [.i .i64 h,.i .i64 j]]=>some ((zc0 (⟨b,c,d,e⟩:Host) f g (⟨h,j⟩:Slot)),zbh (zc1 (⟨b,c,d,e⟩:Host) f g (⟨h,j⟩:Slot)),[])
 | _,_=>none
def zkJ (N:Nat)(c:Host)(a0 a1:Int)(a2:Slot):OA:=
 (oN (inb a0 (ln c.Mons)) (iter (σ:=(Int×(Int×(Int×(Int×(Int×(Int×(lN×(lM×(lE×(lE×Unit))))))))))) N (fun r5 s6=>let y7:=s6.2.2.2.2.2.2.2.1;let y5:=s6.2.2.2.2.2.2.1;let y4:=s6.2.2.2.2.1;let y3:=s6.2.2.2.2.2.2.2.2.1;let y2:=s6.2.2.2.2.2.2.2.2.2.1;let y1:=s6.2.2.2.1;let y0:=(ix y5 s6.2.1 zi);let y8:=(ix y0.Tables y1 zcr);let y6:=(ix y0.Guests y1 zC).Live; (cond (ilt y1 s6.2.2.1) (oN (inb y1 (ln y0.Tables)) (oN (inb y1 (ln y0.Guests)) (oN (zkU y8 y6 s6.1) (oN (inb y1 (ln y0.Tables)) (share (up y5 s6.2.1 ({ y0 with Tables:=(up y0.Tables y1 (zoe y8 y6 s6.1)) }:Mon)) (fun x7=>(r5 (s6.1,(s6.2.1,(s6.2.2.1,((zG .i64 y1 1),(y4,(s6.2.2.2.2.2.1,(x7,(y7,(y3,(y2,()))))))))))))))))) (cond (ine y4 (-1)) (oN (zfc y3 y4) (oN (zfc y2 y4) (some [(aH (⟨y7,y5,(zgQ y3 y4),(zgQ y2 y4)⟩:Host))]))) (some [(aH (⟨y7,y5,y3,y2⟩:Host))])))) (a1,(a0,((ln (ix c.Mons a0 zi).Guests),(0,(a2.Page,(a2.Rights,(c.Mons,(c.Memory,(c.Buffer,(c.IoBuffer,()))))))))))))
def zzs:FuncId->Nat->Option Tmpl:=zo [(246,0,{ n:=71,tm:=[(0,.lp 0 0),(2,ti),(7,.lp 1 0),(8,.ep 0 [] 0),(20,ti),(21,ti)],lo:=[(0,[.sl 1 [],.sl 0 [],.sl 2 [],.sl 3 []]),(1,[ti,ti])],ro:=[(0,.mon,true),(1,(.sl .int),true),(2,.entry,true),(3,.entry,true)] })]
theorem zBI (N:Nat)(c:Host)(a0 a1:Int)(a2:Slot):zej (cQ zlr zkg zzb zJL) zzs N 12 246 [true,true,true,true] (zbh c) [aI a0,aI a1,aT .slot a2]=zkJ N c a0 a1 a2:=by kernel_rfl
theorem zy1 (c:Host)(a0 a1:Int)(a2:Slot)(hb:zbq big (.agg (zbh c) :: [aI a0,aI a1,aT .slot a2]))(hc:zc0 c a0 a1 a2=true):∃N,zkJ N c a0 a1 a2=some (.agg (zbh (zc1 c a0 a1 a2)) :: []):=by
 obtain ⟨hs,hm⟩:=zB.1 hc;obtain ⟨g1,g2⟩:=zbB hs hm;have hg:(ix c.Mons a0 mZ).Guests.length<=big:=(zcA g1.2.2.2.1.1).1;refine zbK fun N hNN=>?_;unfold zkJ oN
 conv=>zeta
 refine must (zx hm) ?_;refine (zQ ((ix c.Mons a0 zi).Guests) (fun i (t:lN)=>(a1,a0,(ln (ix c.Mons a0 zi).Guests),(i:Int),a2.Page,a2.Rights,t,c.Memory,c.Buffer,c.IoBuffer,())) _ (fun i (x:Guest) (t:List Mon) κ=>zME a0 a1 i t κ) (fun (t:lN)=>(cond (ine a2.Page (-1)) (cond (zfc c.Buffer a2.Page) (cond (zfc c.IoBuffer a2.Page) (some [(.agg (zbh (⟨c.Memory,t,(zgQ c.Buffer a2.Page),(zgQ c.IoBuffer a2.Page)⟩:Host)))]) none) none) (some [(.agg (zbh (⟨c.Memory,t,c.Buffer,c.IoBuffer⟩:Host)))]))) (fun i hi t rec=>?_) (fun t rec=>?_) _ (c.Mons) (hNN hg)).trans ?_
 .simp only [zbl hi,zU hi,zZ hi,zN hi hg,cT];rfl
 .simp only [zbe,cF]
 obtain ⟨k,rfl,hk⟩:=zcH (n:=c.Mons.length) hm;rw[znE (fun i t κ=>zME (k:Int) a1 i t κ)];have e0:c.Mons=up c.Mons (k:Int) (zhJ (ix c.Mons (k:Int) mZ) a1 0):=(zL1 hk _).symm;refine (congrArg _ e0).trans ((zLB hk a1 g1 g2.2.2.2 _ _ 0 (jY _)).trans ?_)
 show (cond (ine a2.Page (-1)) _ _)=some [AV.agg (zbh (zrZ c (k:Int) a1 a2))]
 unfold zrZ;cases ine a2.Page (-1)
 .rfl
 .exact must rfl (must (zbj hs.1.2.2.1) (must (zbj hs.1.2.2.2) rfl))
theorem zuh:zcD Tryz.prog 246 [true,true,true,true] zis:=by
 refine zbw (zb7 zfI zq zl zcB) (zcO (by kernel_rfl)) ?_
 intro cs avs cs' rs hl hr h;have hb:=zbI hr;unfold zis at h;split at h
 .obtain ⟨hc,rfl,rfl⟩:=zbU h;obtain ⟨N,hN⟩:=zy1 _ _ _ _ (by exact hb) hc
  exact ⟨rfl,_,N,12,(zBI N _ _ _ _ ).trans hN⟩
 .cases h
def zMW:zcv:=[(246,([true,true,true,true],zis))]++zzb
theorem zEf:zbM zMW:=zcT zl (by
 intro x hx;simp only[qH,qU,or_false]at hx;rcases hx with rfl
 .exact zuh)
def zdZ (h:Host)(m p:Int):Host:={ h with Mons:=up h.Mons m { ix h.Mons m mZ with Out:=up (ix h.Mons m mZ).Out p (zfu h.Memory (ix (ix h.Mons m mZ).Outer p sZ).Page) } }
def zdS (h:Host)(m p:Int):Host:=zdm (zdZ h m p) m p noSlot
theorem zJB {m:List (List Int)}{p:Int}(h:SmM m):(zfu m p).length<=1048576:=by
 unfold zfu;cases hh:hasB p (ln m)
 .exact (by decide:zsv.length<=1048576)
 .exact h.2 _ (zbJ hh _)
theorem zp6 {h:Host}{m p:Int}(hs:Shape h)(hm:hasB m (ln h.Mons)=true):Shape (zdZ h m p):=by
 obtain ⟨g1,g2⟩:=zbB hs hm;exact zfS hs ⟨g1.1,zB3 g1.2.1 (zJB hs.1.1),g1.2.2⟩ ⟨g2.1,by simpa using g2.2.1,g2.2.2⟩
theorem zNm {h:Host}{m p:Int}(hs:Shape h)(hm:hasB m (ln h.Mons)=true):Shape (zdS h m p):=zmQ (zdI hm) (zp6 hs hm)
@[simp] abbrev zsn (h:Host)(m p:Int):Bool:=pc (Shape h/\hasB m (ln h.Mons)=true/\hasB p 8=true)
@[simp] abbrev zzj (h:Host)(m p:Int):Host:=zdS h m p
def zoC:List AV->Option (Bool×List AV)
 | [.agg [.s (.sl .int) b,.s .mon c,.s .entry d,.s .entry e],.one (.i .i64 f),.one (.i .i64 g)]=>some ((zsn (⟨b,c,d,e⟩:Host) f g),[aH (zzj (⟨b,c,d,e⟩:Host) f g)])
 | _=>none
def zrm (N:Nat)(a0:Host)(a1 a2:Int):OA:=
 let y0:=(ix a0.Mons a1 zi);let y1:=(ix y0.Outer a2 zL).Page; (oN (inb a1 (ln a0.Mons)) (oN (inb a1 (ln a0.Mons)) (oN (inb a2 (ln y0.Outer)) (oN (zgq a0.Memory y1) (oN (inb a2 (ln y0.Out)) (share (up a0.Mons a1 ({ y0 with Out:=(up y0.Out a2 (zjo a0.Memory y1)) }:Mon)) (fun x4=>let y2:=({ a0 with Mons:=x4 }:Host); (oN zb5 (oN (zd1 y2 a1 a2 zbo) (some [(aH (zfC y2 a1 a2 zbo))]))))))))))
theorem zKX (N:Nat)(a0:Host)(a1 a2:Int):zvV (cQ zlr zkg zMW zJL) (zo []) N 12 329 [true,true,true,true,false,false] 1 1 [[0],[1],[2],[4],[7]] .mon [aH a0,aI a1,aI a2]=zrm N a0 a1 a2:=by kernel_rfl
theorem zIT (a0:Host)(a1 a2:Int)(hb:zbq big [aH a0,aI a1,aI a2])(hc:zsn a0 a1 a2=true):∃N,zrm N a0 a1 a2=some [aH (zzj a0 a1 a2)]:=by
 obtain ⟨hs,hm,hp⟩:=zB.1 hc;obtain ⟨g1,g2⟩:=zbB hs hm;obtain ⟨k,rfl,hk⟩:=zcH (n:=a0.Mons.length) hm;have hS:=zp6 (p:=a2) hs hm;refine ⟨0,?_⟩;unfold zrm oN
 conv=>zeta
 refine must (zx hm) (must (zx hm) (must (zx (zcm g2.1 hp)) (must (zbj ((znC _).2 hs.1.1)) (must (zx (zcm g2.2.1 hp)) (shr (must rfl (must (zbj ⟨(zbL _).2 hS.1,zdI hm,?_,?_⟩) rfl)))))))
 .simp only [zdp hk];exact zcm g2.1 hp
 .simp only [zdp hk];exact Nat.le_of_eq g2.2.2.2
theorem zDx:zcP Tryz.prog 329 [true,true,true,true,false,false] (some (1,1,[[0],[1],[2],[4],[7]])) zoC:=by
 refine zhZ (kt:=.mon) (zb7 zfI zq zEf zcB) (zcO (by kernel_rfl)) (by kernel_rfl) ?_
 intro avs rs hl hr h;have hb:=zfX hr;unfold zoC at h;split at h
 .obtain ⟨hc,rfl⟩:=zhI h;obtain ⟨N,hN⟩:=zIT _ _ _ (by exact hb) hc
  exact ⟨⟨_,rfl⟩,rfl,_,N,12,(zKX N _ _ _ ).trans hN⟩
 .cases h
@[simp] abbrev zyR (h:Host)(m p:Int):Bool:=pc (Shape h/\hasB m (ln h.Mons)=true/\hasB p 8=true)
@[simp] abbrev zyS (h:Host)(m p:Int):Host:=zdS h m p
def zpX:List CV->List AV->Option (Bool×List CV×List AV)
 | [.s (.sl .int) b,.s .mon c,.s .entry d,.s .entry e],[.one (.i .i64 f),.one (.i .i64 g)]=>some ((zyR (⟨b,c,d,e⟩:Host) f g),zbh (zyS (⟨b,c,d,e⟩:Host) f g),[])
 | _,_=>none
def zx2 (N:Nat)(c:Host)(a0 a1:Int):OA:=
 let y0:=(ix c.Mons a0 zi);let y1:=(ix y0.Outer a1 zL); (oN (inb a0 (ln c.Mons)) (oN (inb a1 (ln y0.Outer)) (oN (zgg c.Memory y1.Page) (oN (inb a1 (ln y0.Out)) (share (up c.Mons a0 ({ y0 with Out:=(up y0.Out a1 (zjh c.Memory y1.Page)) }:Mon)) (fun x4=>let y2:=(ix x4 a0 zi); (oN zbQ (oN (inb a1 (ln y2.Outer)) (share (up x4 a0 ({ y2 with Outer:=(up y2.Outer a1 zbx) }:Mon)) (fun x5=>let y3:=({ c with Mons:=x5 }:Host); (oN (zc0 y3 a0 a1 y1) (some [(aH (zc1 y3 a0 a1 y1))]))))))))))))
theorem zOS (N:Nat)(c:Host)(a0 a1:Int):zej (cQ zlr zkg zMW zJL) (zo []) N 12 244 [true,true,true,true] (zbh c) [aI a0,aI a1]=zx2 N c a0 a1:=by kernel_rfl
theorem zMM (c:Host)(a0 a1:Int)(hb:zbq big (.agg (zbh c) :: [aI a0,aI a1]))(hc:zyR c a0 a1=true):∃N,zx2 N c a0 a1=some (.agg (zbh (zyS c a0 a1)) :: []):=by
 obtain ⟨hs,hm,hp⟩:=zB.1 hc;obtain ⟨g1,g2⟩:=zbB hs hm;obtain ⟨k,rfl,hk⟩:=zcH (n:=c.Mons.length) hm;have hS:=zp6 (p:=a1) hs hm;have hm':hasB (k:Int) (ln (zdZ c (k:Int) a1).Mons)=true:=zdI hm;have hk':k<(zdZ c (k:Int) a1).Mons.length:=by simpa [zdZ] using hk
 have ex:ix (zdZ c (k:Int) a1).Mons (k:Int) mZ={ ix c.Mons (k:Int) mZ with Out:=up (ix c.Mons (k:Int) mZ).Out a1 (zfu c.Memory (ix (ix c.Mons (k:Int) mZ).Outer a1 sZ).Page) }:=zdp hk _ _;have hX:Shape { zdZ c (k:Int) a1 with Mons:=up (zdZ c (k:Int) a1).Mons (k:Int) { ix (zdZ c (k:Int) a1).Mons (k:Int) mZ with Outer:=up (ix (zdZ c (k:Int) a1).Mons (k:Int) mZ).Outer a1 noSlot } }:=by
  obtain ⟨q1,q2⟩:=zbB hS hm';exact zfS hS ⟨by simpa using q1.1,q1.2⟩ ⟨by simpa using q2.1,q2.2⟩
 refine ⟨0,?_⟩;unfold zx2 oN
 conv=>zeta
 refine must (zx hm) (must (zx (zcm g2.1 hp)) (must (zbj ((znC _).2 hs.1.1)) (must (zx (zcm g2.2.1 hp)) (shr (must rfl (must ?_ (shr (must (zbj ⟨hX,zdI hm'⟩) ?_))))))))
 .rw [zdp hk];exact zx (zcm g2.1 hp)
 .have:=zso (p:=a1) (s:=noSlot) hk' (by rw[ex];exact g2.2.2.2)
  rw[ex] at this
  show some [AV.agg (zbh (zrZ { zdZ c (k:Int) a1 with Mons:=up (zdZ c (k:Int) a1).Mons (k:Int) { ix (zdZ c (k:Int) a1).Mons (k:Int) mZ with Outer:=up (ix (zdZ c (k:Int) a1).Mons (k:Int) mZ).Outer a1 noSlot } } (k:Int) a1 (ix (ix c.Mons (k:Int) mZ).Outer a1 sZ)))]=_
  rw[ex];exact congrArg (fun x=>some [AV.agg (zbh x)]) this
theorem zHO:zcD Tryz.prog 244 [true,true,true,true] zpX:=by
 refine zbw (zb7 zfI zq zEf zcB) (zcO (by kernel_rfl)) ?_
 intro cs avs cs' rs hl hr h;have hb:=zbI hr;unfold zpX at h;split at h
 .obtain ⟨hc,rfl,rfl⟩:=zbU h;obtain ⟨N,hN⟩:=zMM _ _ _ (by exact hb) hc
  exact ⟨rfl,_,N,12,(zOS N _ _ _ ).trans hN⟩
 .cases h
def zMX:zcv:=[(244,([true,true,true,true],zpX))]++zMW
theorem zEg:zbM zMX:=zcT zEf (by
 intro x hx;simp only[qH,qU,or_false]at hx;rcases hx with rfl
 .exact zHO)
def zNv:zdq:=[(329,([true,true,true,true,false,false],(some (1,1,[[0],[1],[2],[4],[7]])),zoC))]++zJL
theorem zEt:zcQ zNv:=zli zcB (by
 intro x hx;simp only[qH,qU,or_false]at hx;rcases hx with rfl
 .exact zDx)
def cz (l:List Slot):Nat:=l.countP fun s=>ieq s.Page 0
def zH:List Mon->Nat
 | []=>0
 | m :: l=>cz m.Outer+zH l
def bit (u:List Bool):Nat:=bif ix u 0 false then 1 else 0
theorem zqn (s:Slot)(l:List Slot):cz (s :: l)=cz l+bif ieq s.Page 0 then 1 else 0:=by
 unfold cz;rw[List.countP_cons];cases ieq s.Page 0<;>rfl
theorem zTN {u:List Bool}{p:Int}(hp:0<=p)(hlt:p.toNat<u.length)(x:Bool):ix (up u p x) 0 false=bif ieq p 0 then x else ix u 0 false:=by
 unfold ix up;cases h:ieq p 0
 .have:p≠0:=by simpa [ieq] using h
  have hne:p.toNat≠0:=by omega
  simp[List.getD,jD,hne]
 .have:p=0:=by simpa [ieq] using h
  subst this;have hlt:0<u.length:=hlt;simp[List.getD,jD,hlt]
theorem zvN:∀(l:List Slot) (u u':List Bool),(∀s∈l,s.Page<12)->u.length=12->zfE l u=some u'->cz l+bit u=bit u'
 | [],u,u',_,_,h=>by cases h;simp[cz]
 | s :: l,u,u',hs,hu,h=>by
  simp only[zfE]at h;rw[zqn];cases h1:ilt s.Page 0
  .have h1:=j6 h1;rw[show ilt s.Page 0=false from qK (by omega)]at h
   simp only[cF]at h;cases h2:ix u s.Page false
   .rw [h2]at h;simp only[cF]at h;have hlt:s.Page.toNat<u.length:=by have:=hs s (by simp);omega
    have ih:=zvN l _ u' (fun t ht=>hs t (by simp[ht])) (by simpa using hu) h
    have e:bit (up u s.Page true)=bif ieq s.Page 0 then 1 else bit u:=by
     unfold bit;rw[zTN (by omega) hlt]
     cases ieq s.Page 0<;>rfl
    rw[e] at ih;cases h3:ieq s.Page 0
    .rw [h3] at ih;simp only[cF] at ih ⊢;omega
    .have h4:s.Page=0:=by simpa [ieq] using h3
     rw[h4]at h2;have:bit u=0:=by unfold bit;rw[h2];rfl
     rw[h3] at ih;simp only[cT] at ih ⊢;omega
   .rw [h2]at h;cases h
  .have h1':=qG h1;rw[h1]at h;simp only[cT]at h;have ih:=zvN l u u' (fun t ht=>hs t (by simp[ht])) hu h
   have:ieq s.Page 0=false:=by simp[ieq];omega
   rw[this];simpa using ih
theorem zHQ:∀(l:List Mon) (u:List Bool),u.length=12->zgy l u=true->zH l+bit u<=1
 | [],u,_,_=>by unfold zH bit;cases ix u 0 false<;>simp
 | m :: l,u,hu,h=>by
  simp only[zgy]at h;cases h1:zcM m
  .rw [h1]at h;cases h
  .rw [h1]at h;simp only[cT]at h;cases h2:zfE m.Outer u with
   | none=>rw[h2]at h;cases h
   | some u' =>
    rw[h2]at h;have e:=zvN _ _ _ (zwe (zfO h1)) hu h2;have ih:=zHQ l u' ((zkF _ _ _ h2).trans hu) h;simp only[zH];omega
theorem zOi:∀(l:List Slot) (b:Nat) (s:Slot),l[b]?=some s->s.Page=0->cz (l.set b noSlot)+1=cz l
 | [],b,s,h,_=>by simp at h
 | t :: l,0,s,h,hs=>by
  simp only[qF,qC]at h;subst h;rw[List.set_cons_zero,zqn,zqn];have:ieq t.Page 0=true:=by simp[ieq,hs]
  rw[this];rfl
 | t :: l,b+1,s,h,hs=>by
  rw[List.set_cons_succ,zqn,zqn];have:=zOi l b s (by simpa using h) hs
  omega
theorem zKc:∀(l:List Mon) (a:Nat) (x y:Mon),l[a]?=some x->zH (l.set a y)+cz x.Outer=zH l+cz y.Outer
 | [],a,x,y,h=>by simp at h
 | m :: l,0,x,y,h=>by
  simp only[qF,qC]at h;subst h;rw[List.set_cons_zero];simp only[zH];omega
 | m :: l,a+1,x,y,h=>by
  rw[List.set_cons_succ];have:=zKc l a x y (by simpa using h)
  simp only[zH];omega
theorem zMs {l:List Slot}(h:cz l=0):zrB l 0=none:=by
 unfold zrB;rw[List.findIdx?_eq_none_iff];intro s hs;have:=(List.countP_eq_zero.1 h) s hs;simpa using this
theorem zBM:∀(l:List Mon) (i:Nat),zH l=0->zi3 0 l i=(-1,-1)
 | [],_,_=>rfl
 | m :: l,i,h=>by
  simp only[zH]at h;simp only[zi3];rw[zMs (by omega)]
  exact zBM l (i+1) (by omega)
theorem zMt {l:List Slot}{k:Nat}(h:zrB l 0=some k):∃s,l[k]?=some s/\s.Page=0:=by
 unfold zrB at h;rw[List.findIdx?_eq_some_iff_getElem]at h;obtain ⟨hlt,h1,_⟩:=h;exact ⟨l[k],qB hlt,by simpa [ieq] using h1⟩
theorem zxp:∀(l:List Mon) (i:Nat),zi3 0 l i=(-1,-1)\/∃a b x s,zi3 0 l i=(((i+a:Nat):Int),((b:Nat):Int))/\l[a]?=some x/\x.Outer[b]?=some s/\s.Page=0
 | [],_=>.inl rfl
 | m :: l,i=>by
  simp only[zi3];cases h:zrB m.Outer 0 with
  | none =>
   rcases zxp l (i+1) with h1|⟨a,b,x,s,h1,h2,h3,h4⟩
   .exact .inl h1
   .refine .inr ⟨a+1,b,x,s,?_,by simpa using h2,h3,h4⟩
    have e:i+1+a=i+(a+1):=by omega
    rw[h1,e]
  | some k =>
   obtain ⟨s,h1,h2⟩:=zMt h;exact .inr ⟨0,k,m,s,rfl,rfl,h1,h2⟩
def Fit (h:Host):Prop:=Shape h/\0<h.Memory.length/\zH h.Mons<=1
theorem zxg {h:Host}(hm:0<h.Memory.length)(ho:ilt (zcC h 0).1 0=true):inb 0 (ln (zbX h))=true:=by
 unfold zbX;obtain ⟨n,hn⟩:∃n,h.Memory.length=n+1:=⟨h.Memory.length-1,by omega⟩
 rw[hn];simp only[zyT];rw[show ilt (zcC h ((0:Nat):Int)).1 0=true from ho]
 exact qL (by simp only[cT,ln,qW];omega)
theorem zMx {h:Host}(hm:0<h.Memory.length)(h0:ieq (ln (zbX h)) 0=true):ilt (zcC h 0).1 0=false:=by
 cases ho:ilt (zcC h 0).1 0
 .rfl
 .have h1:=qG (zxg hm ho);have h2:ln (zbX h)=0:=by simpa [ieq] using h0
  omega
def zcy (h:Host):Host:=bif ieq (ln (zbX h)) 0 then zdS h (zcC h 0).1 (zcC h 0).2 else h
structure Room (h r:Host):Prop where
 shape:Shape r
 free:inb 0 (ln (zbX r))=true
 len:r.Mons.length=h.Mons.length
 outer:∀m,(ix r.Mons m mZ).Outer.length=8\/True
theorem zOV {h:Host}(hf:Fit h)(h0:ieq (ln (zbX h)) 0=true):∃(a b:Nat) (x:Mon) (s:Slot),zcC h 0=((a:Int),(b:Int))/\h.Mons[a]?=some x/\x.Outer[b]?=some s/\s.Page=0:=by
 have h1:=zMx hf.2.1 h0;have e:zcC h 0=zi3 0 h.Mons 0:=rfl;rcases zxp h.Mons 0 with h2|⟨a,b,x,s,h2,h3⟩
 .rw [e,h2]at h1;cases h1
 .exact ⟨a,b,x,s,by rw[e,h2,jY],h3⟩
theorem zv7 {h:Host}(hf:Fit h)(h0:ieq (ln (zbX h)) 0=true):hasB (zcC h 0).1 (ln h.Mons)=true/\hasB (zcC h 0).2 8=true:=by
 obtain ⟨a,b,x,s,h1,h2,h3,h4⟩:=zOV hf h0;rw[h1];have ha:=(qA.1 h2).1;have hb:=(qA.1 h3).1;have hx:=hf.1.2 x (qJ h2);refine ⟨qL (by simp only[ln];omega),qL ?_⟩
 have:=hx.1
 show 0<=(b:Int)/\(b:Int)<8
 omega
theorem room {h:Host}(hf:Fit h):Room h (zcy h):=by
 unfold zcy;cases h0:ieq (ln (zbX h)) 0
 .refine ⟨hf.1,qL ?_,rfl,fun _=>.inr trivial⟩;have:ln (zbX h)≠0:=by simpa [ieq] using h0
  show 0<=(0:Int)/\(0:Int)<ln (zbX h)
  simp only[ln] at *;omega
 .obtain ⟨hm,hp⟩:=zv7 hf h0;obtain ⟨a,b,x,s,h1,h2,h3,h4⟩:=zOV hf h0;simp only[cT];rw[h1]at hm hp ⊢;have ha:=(qA.1 h2).1;have hb:=(qA.1 h3).1;have hxa:ix h.Mons (a:Int) mZ=x:=by rw[zZ ha];exact (qA.1 h2).2
  have hmons:=(zef (zdZ h (a:Int) (b:Int)) (a:Int) (b:Int) noSlot).1;have ex:ix (zdZ h (a:Int) (b:Int)).Mons (a:Int) mZ={ x with Out:=up x.Out (b:Int) (zfu h.Memory (ix x.Outer (b:Int) sZ).Page) }:=by
   unfold zdZ;rw[zdp ha,hxa]
  obtain ⟨y,hM,hy⟩:∃y,(zdS h (a:Int) (b:Int)).Mons=h.Mons.set a y/\y.Outer=x.Outer.set b noSlot:=by
   unfold zdS;rw[hmons,ex];unfold zdZ;rw[zst];exact ⟨_,by simp[up];rfl,by simp[up]⟩
  have hz:zH (zdS h (a:Int) (b:Int)).Mons=0:=by
   have e1:=zKc h.Mons a x y h2;have e2:=zOi x.Outer b s h3 h4;have e3:=hf.2.2;rw[hM];rw[hy] at e1;omega
  have hmem:(zdS h (a:Int) (b:Int)).Memory=h.Memory:=(zef (zdZ h (a:Int) (b:Int)) (a:Int) (b:Int) noSlot).2;refine ⟨zNm hf.1 hm,zxg (by rw[hmem];exact hf.2.1) ?_,by rw[hM];simp,fun _=>.inr trivial⟩
  have e:zcC (zdS h (a:Int) (b:Int)) 0=zi3 0 (zdS h (a:Int) (b:Int)).Mons 0:=rfl;rw[e,zBM _ _ hz];rfl
theorem zJD {m:List (List Int)}{p:Int}{c:List Int}(h:SmM m)(hc:c.length<=1048576):SmM (zgw m p c):=by
 unfold zgw;cases hasB p (ln m)
 .exact h
 .cases zb3 c
  .exact h
  .exact zB3 h hc
def landing (r:Host)(m p to:Int):Host:={ r with Memory:=zgw r.Memory to (ix (ix r.Mons m mZ).Out p []),Mons:=up r.Mons m { ix r.Mons m mZ with Out:=up (ix r.Mons m mZ).Out p [] } }
def zhb (r:Host)(m p to:Int):Host:=zdm (landing r m p to) m p ⟨to,3⟩
def fetched (h:Host)(m p:Int):Host:=zhb (zcy h) m p (ix (zbX (zcy h)) 0 0)
theorem zJE {r:Host}{m p:Int}(hr:Shape r)(hm:hasB m (ln r.Mons)=true)(hp:hasB p 8=true):(ix (ix r.Mons m mZ).Out p []).length<=1048576:=by
 obtain ⟨g1,g2⟩:=zbB hr hm;exact g1.2.1.2 _ (zbJ (zcm g2.2.1 hp) _)
theorem zmP {r:Host}{m p to:Int}(hr:Shape r)(hm:hasB m (ln r.Mons)=true)(hp:hasB p 8=true):Shape (landing r m p to):=by
 obtain ⟨g1,g2⟩:=zbB hr hm;exact zFv (h:={ r with Mons:=up r.Mons m { ix r.Mons m mZ with Out:=up (ix r.Mons m mZ).Out p [] } }) (zfS (x:={ ix r.Mons m mZ with Out:=up (ix r.Mons m mZ).Out p [] }) hr ⟨g1.1,zB3 g1.2.1 (by simp),g1.2.2⟩ ⟨g2.1,by simpa using g2.2.1,g2.2.2⟩) (zJD hr.1.1 (zJE hr hm hp))
theorem zGt {r:Host}{m p to:Int}(hr:Shape r)(hm:hasB m (ln r.Mons)=true)(hp:hasB p 8=true):Shape (zhb r m p to):=zmQ (zdI hm) (zmP hr hm hp)
theorem zk5 {h:Host}(hf:Fit h){m:Int}(hm:hasB m (ln h.Mons)=true):hasB m (ln (zcy h).Mons)=true:=by
 rw[ln,(room hf).len];exact hm
theorem zi9 {h:Host}{m p:Int}(hf:Fit h)(hm:hasB m (ln h.Mons)=true)(hp:hasB p 8=true):Shape (fetched h m p)/\hasB m (ln (fetched h m p).Mons)=true :=
 ⟨zGt (room hf).shape (zk5 hf hm) hp,zxh (zdI (zk5 hf hm))⟩
@[simp] abbrev zvB (h:Host)(m p:Int):Bool:=pc (Fit h/\hasB m (ln h.Mons)=true/\hasB p 8=true)
@[simp] abbrev zwc (h:Host)(m p:Int):Host:=fetched h m p
def zp0:List AV->Option (Bool×List AV)
 | [.agg [.s (.sl .int) b,.s .mon c,.s .entry d,.s .entry e],.one (.i .i64 f),.one (.i .i64 g)]=>some ((zvB (⟨b,c,d,e⟩:Host) f g),[aH (zwc (⟨b,c,d,e⟩:Host) f g)])
 | _=>none
def ztO (N:Nat)(a0:Host)(a1 a2:Int):OA:=
 let y6:=(ix (zdw a0) 0 0);let y2:=(ix a0.Mons a1 zi);let y0:=(zzj a0 (zem a0 0) (zfw a0 0));let y5:=(ix (zdw y0) 0 0);let y1:=(ix y0.Mons a1 zi); (oN (zie a0) (cond (ieq (ln (zdw a0)) 0) (oN (zg4 a0 0) (oN (zsn a0 (zem a0 0) (zfw a0 0)) (oN (zie y0) (oN (inb 0 (ln (zdw y0))) (oN (inb a1 (ln y0.Mons)) (oN (inb a2 (ln y1.Out)) (oN (zhz y0.Memory y5 (ix y1.Out a2 [])) (oN (inb a1 (ln y0.Mons)) (oN (inb a2 (ln y1.Out)) (share (up y0.Mons a1 ({ y1 with Out:=(up y1.Out a2 []) }:Mon)) (fun x4=>let y3:=({ y0 with Memory:=(zgu y0.Memory y5 (ix y1.Out a2 [])),Mons:=x4 }:Host); (oN (zd1 y3 a1 a2 (⟨y5,3⟩:Slot)) (some [(aH (zfC y3 a1 a2 (⟨y5,3⟩:Slot)))]))))))))))))) (oN (zie a0) (oN (inb 0 (ln (zdw a0))) (oN (inb a1 (ln a0.Mons)) (oN (inb a2 (ln y2.Out)) (oN (zhz a0.Memory y6 (ix y2.Out a2 [])) (oN (inb a1 (ln a0.Mons)) (oN (inb a2 (ln y2.Out)) (share (up a0.Mons a1 ({ y2 with Out:=(up y2.Out a2 []) }:Mon)) (fun x4=>let y4:=({ a0 with Memory:=(zgu a0.Memory y6 (ix y2.Out a2 [])),Mons:=x4 }:Host); (oN (zd1 y4 a1 a2 (⟨y6,3⟩:Slot)) (some [(aH (zfC y4 a1 a2 (⟨y6,3⟩:Slot)))])))))))))))))
theorem zMS (N:Nat)(a0:Host)(a1 a2:Int):zvV (cQ zlr zkg zMX zNv) (zo []) N 12 330 [true,true,true,true,false,false] 1 1 [[0],[1],[2],[4],[7]] .mon [aH a0,aI a1,aI a2]=ztO N a0 a1 a2:=by kernel_rfl
theorem zKS (a0:Host)(a1 a2:Int)(hb:zbq big [aH a0,aI a1,aI a2])(hc:zvB a0 a1 a2=true):∃N,ztO N a0 a1 a2=some [aH (zwc a0 a1 a2)]:=by
 obtain ⟨hf,hm,hp⟩:=zB.1 hc;have tail:∀r,Shape r->inb 0 (ln (zbX r))=true->hasB a1 (ln r.Mons)=true->(cond (zie r) (cond (inb 0 (ln (zdw r))) (cond (inb a1 (ln r.Mons)) (cond (inb a2 (ln (ix r.Mons a1 zi).Out)) (cond (zhz r.Memory (ix (zdw r) 0 0) (ix (ix r.Mons a1 zi).Out a2 [])) (cond (inb a1 (ln r.Mons)) (cond (inb a2 (ln (ix r.Mons a1 zi).Out)) (share (up r.Mons a1 ({ (ix r.Mons a1 zi) with Out:=(up (ix r.Mons a1 zi).Out a2 []) }:Mon)) (fun x4=>(cond (zd1 ({ r with Memory:=(zgu r.Memory (ix (zdw r) 0 0) (ix (ix r.Mons a1 zi).Out a2 [])),Mons:=x4 }:Host) a1 a2 (⟨(ix (zdw r) 0 0),3⟩:Slot)) (some [(AV.agg (zbh (zfC ({ r with Memory:=(zgu r.Memory (ix (zdw r) 0 0) (ix (ix r.Mons a1 zi).Out a2 [])),Mons:=x4 }:Host) a1 a2 (⟨(ix (zdw r) 0 0),3⟩:Slot))))]) none))) none) none) none) none) none) none) none)=some [AV.agg (zbh (zhb r a1 a2 (ix (zbX r) 0 0)))]:=by
  intro r hr hfree hrm;obtain ⟨g1,g2⟩:=zbB hr hrm;have hL:=zmP (to:=ix (zbX r) 0 0) hr hrm hp;obtain ⟨k,rfl,hk⟩:=zcH (n:=r.Mons.length) hrm;refine must (zbj hr.1.1.1) (must hfree (must (zx hrm) (must (zx (zcm g2.2.1 hp)) (must (zbj ⟨hr.1.1,zJE hr hrm hp⟩) (must (zx hrm) (must (zx (zcm g2.2.1 hp)) (shr (must (zbj ⟨(zbL _).2 hL.1,zdI hrm,?_,?_⟩) rfl))))))))
  .simp only [zdp hk];exact zcm g2.1 hp
  .simp only [zdp hk];exact Nat.le_of_eq g2.2.2.2
 have hR:=room hf;have hrm:=zk5 hf hm;refine ⟨0,?_⟩;unfold ztO zwc fetched oN
 conv=>zeta
 refine must (zbj hf.1.1.1.1) ?_;cases h0:ieq (ln (zdw a0)) 0
 .have er:zcy a0=a0:=by unfold zcy;rw[show ieq (ln (zbX a0)) 0=false from h0];rfl
  rw[er]at hR hrm ⊢;exact tail a0 hR.shape hR.free hrm
 .obtain ⟨o1,o2⟩:=zv7 hf h0;have er:zcy a0=zdS a0 (zcC a0 0).1 (zcC a0 0).2:=by unfold zcy;rw[show ieq (ln (zbX a0)) 0=true from h0];rfl
  rw[er]at hR hrm ⊢;exact must rfl (must rfl (must (zbj ⟨hf.1,o1,o2⟩) (tail _ hR.shape hR.free hrm)))
theorem zFT:zcP Tryz.prog 330 [true,true,true,true,false,false] (some (1,1,[[0],[1],[2],[4],[7]])) zp0:=by
 refine zhZ (kt:=.mon) (zb7 zfI zq zEg zEt) (zcO (by kernel_rfl)) (by kernel_rfl) ?_
 intro avs rs hl hr h;have hb:=zfX hr;unfold zp0 at h;split at h
 .obtain ⟨hc,rfl⟩:=zhI h;obtain ⟨N,hN⟩:=zKS _ _ _ (by exact hb) hc
  exact ⟨⟨_,rfl⟩,rfl,_,N,12,(zMS N _ _ _ ).trans hN⟩
 .cases h
@[simp] abbrev zms (h:Host):Bool:=pc (Shape h/\hasB (zcC h 0).1 (ln h.Mons)=true/\hasB (zcC h 0).2 8=true)
@[simp] abbrev zmt (h:Host):Host:=zdS h (zcC h 0).1 (zcC h 0).2
def zjl:List CV->List AV->Option (Bool×List CV×List AV)
 | [.s (.sl .int) b,.s .mon c,.s .entry d,.s .entry e],[]=>some ((zms (⟨b,c,d,e⟩:Host)),zbh (zmt (⟨b,c,d,e⟩:Host)),[])
 | _,_=>none
def zmi (N:Nat)(c:Host)  : OA :=
 (oN (zg2 c 0) (oN (zyR c (zel c 0) (zfq c 0)) (some [(aH (zyS c (zel c 0) (zfq c 0)))])))
theorem zEa (N:Nat)(c:Host)  : zej (cQ zlr zkg zMX zNv) (zo []) N 12 325 [true,true,true,true] (zbh c) []=zmi N c:=by kernel_rfl
theorem zBv (c:Host)(hb:zbq big (.agg (zbh c) :: []))(hc:zms c=true):∃N,zmi N c=some (.agg (zbh (zmt c)) :: []):=by
 have hs:=zB.1 hc;refine ⟨0,?_⟩;unfold zmi oN;exact must rfl (must (zbj hs) rfl)
theorem zwv:zcD Tryz.prog 325 [true,true,true,true] zjl:=by
 refine zbw (zb7 zfI zq zEg zEt) (zcO (by kernel_rfl)) ?_
 intro cs avs cs' rs hl hr h;have hb:=zbI hr;unfold zjl at h;split at h
 .obtain ⟨hc,rfl,rfl⟩:=zbU h;obtain ⟨N,hN⟩:=zBv _ (by exact hb) hc
  exact ⟨rfl,_,N,12,(zEa N _ ).trans hN⟩
 .cases h
def zQs:zcv:=[(325,([true,true,true,true],zjl))]++zMX
theorem zLN:zbM zQs:=zcT zEg (by
 intro x hx;simp only[qH,qU,or_false]at hx;rcases hx with rfl
 .exact zwv)
def zJM:zdq:=[(330,([true,true,true,true,false,false],(some (1,1,[[0],[1],[2],[4],[7]])),zp0))]++zNv
theorem zwg:zcQ zJM:=zli zEt (by
 intro x hx;simp only[qH,qU,or_false]at hx;rcases hx with rfl
 .exact zFT)
@[simp] abbrev zup (h:Host)(m p:Int):Bool:=pc (Fit h/\hasB m (ln h.Mons)=true/\hasB p 8=true)
@[simp] abbrev zpe (h:Host)(m p:Int):Host:=fetched h m p
theorem zMc {r:Host}{m p to:Int}(hr:Shape r)(hm:hasB m (ln r.Mons)=true):zrZ { landing r m p to with Mons:=up (landing r m p to).Mons m { ix (landing r m p to).Mons m mZ with Outer:=up (ix (landing r m p to).Mons m mZ).Outer p ⟨to,3⟩ } } m p (ix (ix (landing r m p to).Mons m mZ).Outer p sZ)=zhb r m p to:=by
 obtain ⟨g1,g2⟩:=zbB hr hm;obtain ⟨k,rfl,hk⟩:=zcH (n:=r.Mons.length) hm;refine zso (h:=landing r (k:Int) p to) (by simpa [landing] using hk) ?_
 unfold landing;simp only[zdp hk];exact g2.2.2.2
theorem zLd {r:Host}{m p to:Int}(hr:Shape r)(hm:hasB m (ln r.Mons)=true)(hp:hasB p 8=true):Shape { landing r m p to with Mons:=up (landing r m p to).Mons m { ix (landing r m p to).Mons m mZ with Outer:=up (ix (landing r m p to).Mons m mZ).Outer p ⟨to,3⟩ } }:=by
 have hL:=zmP (to:=to) hr hm hp;obtain ⟨q1,q2⟩:=zbB hL (zdI hm);exact zfS hL ⟨by simpa using q1.1,q1.2⟩ ⟨by simpa using q2.1,q2.2⟩
def zos:List CV->List AV->Option (Bool×List CV×List AV)
 | [.s (.sl .int) b,.s .mon c,.s .entry d,.s .entry e],[.one (.i .i64 f),.one (.i .i64 g)]=>some ((zup (⟨b,c,d,e⟩:Host) f g),zbh (zpe (⟨b,c,d,e⟩:Host) f g),[])
 | _,_=>none
def ztH (N:Nat)(c:Host)(a0 a1:Int):OA:=
 let y8:=(ix (zdQ c) 0 0);let y6:=(zmt c);let y7:=(ix (zdQ y6) 0 0);let y1:=(ix c.Mons a0 zi);let y0:=(ix y6.Mons a0 zi); (oN (zh1 c) (cond (ieq (ln (zdQ c)) 0) (oN (zms c) (oN (inb a0 (ln y6.Mons)) (oN (zh1 y6) (oN (inb 0 (ln (zdQ y6))) (oN (inb a1 (ln y0.Out)) (oN (zhr y6.Memory y7 (ix y0.Out a1 [])) (oN (inb a1 (ln y0.Out)) (share (up y6.Mons a0 ({ y0 with Out:=(up y0.Out a1 []) }:Mon)) (fun x4=>let y2:=(ix x4 a0 zi);let y9:=(ix y2.Outer a1 zL); (oN (inb a1 (ln y2.Outer)) (oN (inb a1 (ln y2.Outer)) (share (up x4 a0 ({ y2 with Outer:=(up y2.Outer a1 (⟨y7,3⟩:Slot)) }:Mon)) (fun x5=>let y4:=({ y6 with Memory:=(zgk y6.Memory y7 (ix y0.Out a1 [])),Mons:=x5 }:Host); (oN (zc0 y4 a0 a1 y9) (some [(aH (zc1 y4 a0 a1 y9))]))))))))))))))) (oN (inb a0 (ln c.Mons)) (oN (zh1 c) (oN (inb 0 (ln (zdQ c))) (oN (inb a1 (ln y1.Out)) (oN (zhr c.Memory y8 (ix y1.Out a1 [])) (oN (inb a1 (ln y1.Out)) (share (up c.Mons a0 ({ y1 with Out:=(up y1.Out a1 []) }:Mon)) (fun x4=>let y3:=(ix x4 a0 zi);let y10:=(ix y3.Outer a1 zL); (oN (inb a1 (ln y3.Outer)) (oN (inb a1 (ln y3.Outer)) (share (up x4 a0 ({ y3 with Outer:=(up y3.Outer a1 (⟨y8,3⟩:Slot)) }:Mon)) (fun x5=>let y5:=({ c with Memory:=(zgk c.Memory y8 (ix y1.Out a1 [])),Mons:=x5 }:Host); (oN (zc0 y5 a0 a1 y10) (some [(aH (zc1 y5 a0 a1 y10))]))))))))))))))))
theorem zMQ (N:Nat)(c:Host)(a0 a1:Int):zej (cQ zlr zkg zQs zJM) (zo []) N 12 245 [true,true,true,true] (zbh c) [aI a0,aI a1]=ztH N c a0 a1:=by kernel_rfl
theorem zKJ (c:Host)(a0 a1:Int)(hb:zbq big (.agg (zbh c) :: [aI a0,aI a1]))(hc:zup c a0 a1=true):∃N,ztH N c a0 a1=some (.agg (zbh (zpe c a0 a1)) :: []):=by
 obtain ⟨hf,hm,hp⟩:=zB.1 hc;have tail:∀r,Shape r->inb 0 (ln (zbX r))=true->hasB a0 (ln r.Mons)=true->(cond (inb a0 (ln r.Mons)) (cond (zh1 r) (cond (inb 0 (ln (zdQ r))) (cond (inb a1 (ln (ix r.Mons a0 zi).Out)) (cond (zhr r.Memory (ix (zdQ r) 0 0) (ix (ix r.Mons a0 zi).Out a1 [])) (cond (inb a1 (ln (ix r.Mons a0 zi).Out)) (share (up r.Mons a0 ({ (ix r.Mons a0 zi) with Out:=(up (ix r.Mons a0 zi).Out a1 []) }:Mon)) (fun x4=>(cond (inb a1 (ln (ix x4 a0 zi).Outer)) (cond (inb a1 (ln (ix x4 a0 zi).Outer)) (share (up x4 a0 ({ (ix x4 a0 zi) with Outer:=(up (ix x4 a0 zi).Outer a1 (⟨(ix (zdQ r) 0 0),3⟩:Slot)) }:Mon)) (fun x5=>(cond (zc0 ({ r with Memory:=(zgk r.Memory (ix (zdQ r) 0 0) (ix (ix r.Mons a0 zi).Out a1 [])),Mons:=x5 }:Host) a0 a1 (ix (ix x4 a0 zi).Outer a1 zL)) (some [(AV.agg (zbh (zc1 ({ r with Memory:=(zgk r.Memory (ix (zdQ r) 0 0) (ix (ix r.Mons a0 zi).Out a1 [])),Mons:=x5 }:Host) a0 a1 (ix (ix x4 a0 zi).Outer a1 zL))))]) none))) none) none))) none) none) none) none) none) none)=some [AV.agg (zbh (zhb r a0 a1 (ix (zbX r) 0 0)))]:=by
  intro r hr hfree hrm;obtain ⟨g1,g2⟩:=zbB hr hrm;have hL:=zLd (to:=ix (zbX r) 0 0) hr hrm hp;have hE:=zMc (p:=a1) (to:=ix (zbX r) 0 0) hr hrm;obtain ⟨k,rfl,hk⟩:=zcH (n:=r.Mons.length) hrm;have hh:∀(x y:Mon),hasB (k:Int) (ln (up (up r.Mons (k:Int) x) (k:Int) y))=true:=fun x y=>by simpa [ln] using hrm
  have hi:inb a1 (ln (ix (up r.Mons (k:Int) { ix r.Mons (k:Int) mZ with Out:=up (ix r.Mons (k:Int) mZ).Out a1 [] }) (k:Int) mZ).Outer)=true:=by
   rw[zdp hk];exact zx (zcm g2.1 hp)
  refine must (zx hrm) (must (zbj hr.1.1.1) (must hfree (must (zx (zcm g2.2.1 hp)) (must (zbj ⟨hr.1.1,zJE hr hrm hp⟩) (must (zx (zcm g2.2.1 hp)) (shr (must hi (must hi (shr (must (zbj ⟨hL,hh _ _⟩) ?_))))))))));exact congrArg (fun x=>some [AV.agg (zbh x)]) hE
 have hR:=room hf;have hrm:=zk5 hf hm;refine ⟨0,?_⟩;unfold ztH zpe fetched oN
 conv=>zeta
 refine must (zbj hf.1.1.1.1) ?_;cases h0:ieq (ln (zdQ c)) 0
 .have er:zcy c=c:=by unfold zcy;rw[show ieq (ln (zbX c)) 0=false from h0];rfl
  rw[er]at hR hrm ⊢;exact tail c hR.shape hR.free hrm
 .obtain ⟨o1,o2⟩:=zv7 hf h0;have er:zcy c=zdS c (zcC c 0).1 (zcC c 0).2:=by unfold zcy;rw[show ieq (ln (zbX c)) 0=true from h0];rfl
  rw[er]at hR hrm ⊢;exact must rfl (must (zbj ⟨hf.1,o1,o2⟩) (tail _ hR.shape hR.free hrm))
theorem zFL:zcD Tryz.prog 245 [true,true,true,true] zos:=by
 refine zbw (zb7 zfI zq zLN zwg) (zcO (by kernel_rfl)) ?_
 intro cs avs cs' rs hl hr h;have hb:=zbI hr;unfold zos at h;split at h
 .obtain ⟨hc,rfl,rfl⟩:=zbU h;obtain ⟨N,hN⟩:=zKJ _ _ _ (by exact hb) hc
  exact ⟨rfl,_,N,12,(zMQ N _ _ _ ).trans hN⟩
 .cases h
def zMY:zcv:=[(245,([true,true,true,true],zos))]++zQs
theorem zEh:zbM zMY:=zcT zLN (by
 intro x hx;simp only[qH,qU,or_false]at hx;rcases hx with rfl
 .exact zFL)
end
end Go.Proofs.YtnnmbkjhakbicaaGreat.E
