/- What is proved here: a part of the proof that the statement of this claim holds (several texts of wip/, laid together). -/
import Derived.Test.YtdmheolglokabaaGreatV3
namespace Go.Proofs.YtdmheolglokabaaGreat.E
open Go
set_option linter.unusedVariables false
set_option maxRecDepth 100000
set_option linter.unusedSimpArgs false
set_option linter.unusedSectionVars false
noncomputable section
def noSlot:Slot:=⟨-1,0⟩
def zc6:Bool:=true
@[reducible] def zb0:Slot:=noSlot
def zui:List AV->Option (Bool×List AV)
 | []=>some (zc6,[.agg (Ty.cells .slot zb0)])
 | _=>none
def zGe (N:Nat)  : Option Ans :=
 (some [(.agg [(.i .i64 (-1)),(.i .i64 0)])])
theorem zUi (N:Nat)  : evalFn (cQ zEE zbV zK zO) (zB []) N 12 196 []=zGe N:=by kernel_rfl
theorem zQN  (hb:zG big []) (hc:zc6=true):∃N,zGe N  = some [.agg (Ty.cells .slot zb0)]:=by
 exact ⟨0,rfl⟩
theorem zJ7:Holds Tryz.prog 196 zui:=zo zrW zbd zu zy (zC (by kernel_rfl)) fun avs rs hb h=>by
 unfold zui at h;split at h
 ·obtain ⟨hc,rfl⟩:=zl h;exact (fin0 zQN zUi hc hb :)
 ·cases h
def zc4:Bool:=true
@[reducible] def zcE:Slot:=noSlot
def ztw:List AV->Option (Bool×List AV)
 | []=>some (zc4,[.agg (Ty.cells .slot zcE)])
 | _=>none
def zGb (N:Nat)  : Option Ans :=
 (some [(.agg [(.i .i64 (-1)),(.i .i64 0)])])
theorem zTz (N:Nat)  : evalFn (cQ zEE zbV zK zO) (zB []) N 12 175 []=zGb N:=by kernel_rfl
theorem zP4  (hb:zG big []) (hc:zc4=true):∃N,zGb N  = some [.agg (Ty.cells .slot zcE)]:=by
 exact ⟨0,rfl⟩
theorem zJo:Holds Tryz.prog 175 ztw:=zo zrW zbd zu zy (zC (by kernel_rfl)) fun avs rs hb h=>by
 unfold ztw at h;split at h
 ·obtain ⟨hc,rfl⟩:=zl h;exact (fin0 zP4 zTz hc hb :)
 ·cases h
def zbm (_ _ _:Int):Bool:=true
def zby (x a b:Int):Bool:=ige x a&&ile x b
def ztM:List AV->Option (Bool×List AV)
 | [.one (.i .i64 c),.one (.i .i64 d),.one (.i .i64 e)]=>some ((zbm c d e),[.one (.b (zby c d e))])
 | _=>none
def zyo (N:Nat)(a0 a1 a2:Int):Option Ans :=
 (cond (ige a0 a1) (some [(.one (.b (ile a0 a2)))]) (some [(.one (.b false))]))
theorem zTP (N:Nat)(a0 a1 a2:Int):evalFn (cQ zEE zbV zK zO) (zB []) N 12 118 [.one (.i .i64 a0),.one (.i .i64 a1),.one (.i .i64 a2)]=zyo N a0 a1 a2:=by kernel_rfl
theorem zQk (a0 a1 a2:Int)(hb:zG big [.one (.i .i64 a0),.one (.i .i64 a1),.one (.i .i64 a2)])(hc:(zbm a0 a1 a2)=true):∃N,zyo N a0 a1 a2=some [.one (.b (zby a0 a1 a2))]:=by
 refine ⟨0,?_⟩;unfold zyo zby;cases ige a0 a1<;>rfl
theorem zJE:Holds Tryz.prog 118 ztM:=zo zrW zbd zu zy (zC (by kernel_rfl)) fun avs rs hb h=>by
 unfold ztM at h;split at h
 ·obtain ⟨hc,rfl⟩:=zl h;exact (zd3 zQk zTP hc hb :)
 ·cases h
def zOH:zbQ:=[(196,zui),(175,ztw),(118,ztM)]++zEE
theorem zEw:zbw zOH:=zn zJ7 (zn zJo (zn zJE zrW))
def zdX (r:Int):Bool:=ige r 0&&ile r 3
def zhP (_:Int):Bool:=true
@[reducible] def zf7 (r:Int):Bool:=zdX r
def zon:List AV->Option (Bool×List AV)
 | [.one (.i .i64 c)]=>some ((zhP c),[.one (.b (zf7 c))])
 | _=>none
def zA9 (N:Nat)(a0:Int):Option Ans :=
 (cond (zZ a0 0 3) (some [(.one (.b (zbe a0 0 3)))]) none)
theorem zOd (N:Nat)(a0:Int):evalFn (cQ zOH zbV zK zO) (zB []) N 12 199 [.one (.i .i64 a0)]=zA9 N a0:=by kernel_rfl
theorem zKY (a0:Int)(hb:zG big [.one (.i .i64 a0)])(hc:(zhP a0)=true):∃N,zA9 N a0=some [.one (.b (zf7 a0))]:=by
 exact ⟨0,rfl⟩
theorem zFi:Holds Tryz.prog 199 zon:=zo zEw zbd zu zy (zC (by kernel_rfl)) fun avs rs hb h=>by
 unfold zon at h;split at h
 ·obtain ⟨hc,rfl⟩:=zl h;exact (fin1 zKY zOd hc hb :)
 ·cases h
def zhE (_:Int):Bool:=true
@[reducible] def zf0 (r:Int):Bool:=zdX r
def znY:List AV->Option (Bool×List AV)
 | [.one (.i .i64 c)]=>some ((zhE c),[.one (.b (zf0 c))])
 | _=>none
def zAV (N:Nat)(a0:Int):Option Ans :=
 (cond (zbm a0 0 3) (some [(.one (.b (zby a0 0 3)))]) none)
theorem zNM (N:Nat)(a0:Int):evalFn (cQ zOH zbV zK zO) (zB []) N 12 212 [.one (.i .i64 a0)]=zAV N a0:=by kernel_rfl
theorem zKw (a0:Int)(hb:zG big [.one (.i .i64 a0)])(hc:(zhE a0)=true):∃N,zAV N a0=some [.one (.b (zf0 a0))]:=by
 exact ⟨0,rfl⟩
theorem zEQ:Holds Tryz.prog 212 znY:=zo zEw zbd zu zy (zC (by kernel_rfl)) fun avs rs hb h=>by
 unfold znY at h;split at h
 ·obtain ⟨hc,rfl⟩:=zl h;exact (fin1 zKw zNM hc hb :)
 ·cases h
def zuR:zbQ:=[(199,zon),(212,znY)]++zOH
theorem zk1:zbw zuR:=zn zFi (zn zEQ zEw)
def zgV (a b:Int):Int:=bif zdX a then (cond (zdX b) (wand .i64 a b) 0) else 0
def zor (_ _:Int):Bool:=true
@[reducible] def zgB (a b:Int):Int:=zgV a b
def zlh:List AV->Option (Bool×List AV)
 | [.one (.i .i64 b),.one (.i .i64 c)]=>some ((zor b c),[.one (.i .i64 (zgB b c))])
 | _=>none
def znA (N:Nat)(a0 a1:Int):Option Ans :=
 (cond (zhP a0) (cond (cond (zf7 a0) false true) (some [(.one (.i .i64 0))]) (cond (zhP a1) (cond (cond (zf7 a1) false true) (some [(.one (.i .i64 0))]) (some [(.one (.i .i64 (wand .i64 a0 a1)))])) none)) none)
theorem zIg (N:Nat)(a0 a1:Int):evalFn (cQ zuR zbV zK zO) (zB []) N 12 231 [.one (.i .i64 a0),.one (.i .i64 a1)]=znA N a0 a1:=by kernel_rfl
theorem zFE (a0 a1:Int)(hb:zG big [.one (.i .i64 a0),.one (.i .i64 a1)])(hc:(zor a0 a1)=true):∃N,znA N a0 a1=some [.one (.i .i64 (zgB a0 a1))]:=by
 refine ⟨0,?_⟩;unfold znA zgB zgV zf7;cases zdX a0<;>cases zdX a1<;>rfl
theorem zBA:Holds Tryz.prog 231 zlh:=zo zk1 zbd zu zy (zC (by kernel_rfl)) fun avs rs hb h=>by
 unfold zlh at h;split at h
 ·obtain ⟨hc,rfl⟩:=zl h;exact (fin2 zFE zIg hc hb :)
 ·cases h
def znI (_ _:Int):Bool:=true
@[reducible] def zgv (a b:Int):Int:=zgV a b
def zlc:List AV->Option (Bool×List AV)
 | [.one (.i .i64 b),.one (.i .i64 c)]=>some ((znI b c),[.one (.i .i64 (zgv b c))])
 | _=>none
def zns (N:Nat)(a0 a1:Int):Option Ans :=
 (cond (zhE a0) (cond (cond (zf0 a0) false true) (some [(.one (.i .i64 0))]) (cond (zhE a1) (cond (cond (zf0 a1) false true) (some [(.one (.i .i64 0))]) (some [(.one (.i .i64 (wand .i64 a0 a1)))])) none)) none)
theorem zH8 (N:Nat)(a0 a1:Int):evalFn (cQ zuR zbV zK zO) (zB []) N 12 242 [.one (.i .i64 a0),.one (.i .i64 a1)]=zns N a0 a1:=by kernel_rfl
theorem zFw (a0 a1:Int)(hb:zG big [.one (.i .i64 a0),.one (.i .i64 a1)])(hc:(znI a0 a1)=true):∃N,zns N a0 a1=some [.one (.i .i64 (zgv a0 a1))]:=by
 refine ⟨0,?_⟩;unfold zns zgv zgV zf0;cases zdX a0<;>cases zdX a1<;>rfl
theorem zBs:Holds Tryz.prog 242 zlc:=zo zk1 zbd zu zy (zC (by kernel_rfl)) fun avs rs hb h=>by
 unfold zlc at h;split at h
 ·obtain ⟨hc,rfl⟩:=zl h;exact (fin2 zFw zH8 hc hb :)
 ·cases h
def enough (a b:Int):Bool:=bif zdX a then (cond (zdX b) (ieq (wand .i64 a b) b) false) else false
def zf6 (_ _:Int):Bool:=true
@[reducible] def zgC (a b:Int):Bool:=enough a b
def zt8:List AV->Option (Bool×List AV)
 | [.one (.i .i64 c),.one (.i .i64 d)]=>some ((zf6 c d),[.one (.b (zgC c d))])
 | _=>none
def zyI (N:Nat)(a0 a1:Int):Option Ans :=
 (cond (zhP a0) (cond (zf7 a0) (cond (zhP a1) (cond (zf7 a1) (some [(.one (.b (ieq (wand .i64 a0 a1) a1)))]) (some [(.one (.b false))])) none) (some [(.one (.b false))])) none)
theorem zUb (N:Nat)(a0 a1:Int):evalFn (cQ zuR zbV zK zO) (zB []) N 12 158 [.one (.i .i64 a0),.one (.i .i64 a1)]=zyI N a0 a1:=by kernel_rfl
theorem zQG (a0 a1:Int)(hb:zG big [.one (.i .i64 a0),.one (.i .i64 a1)])(hc:(zf6 a0 a1)=true):∃N,zyI N a0 a1=some [.one (.b (zgC a0 a1))]:=by
 refine ⟨0,?_⟩;unfold zyI zgC enough zf7;cases zdX a0<;>cases zdX a1<;>rfl
theorem zJ0:Holds Tryz.prog 158 zt8:=zo zk1 zbd zu zy (zC (by kernel_rfl)) fun avs rs hb h=>by
 unfold zt8 at h;split at h
 ·obtain ⟨hc,rfl⟩:=zl h;exact (fin2 zQG zUb hc hb :)
 ·cases h
def zdg (_ _:Int):Bool:=true
@[reducible] def zdL (a b:Int):Bool:=enough a b
def zto:List AV->Option (Bool×List AV)
 | [.one (.i .i64 c),.one (.i .i64 d)]=>some ((zdg c d),[.one (.b (zdL c d))])
 | _=>none
def zx1 (N:Nat)(a0 a1:Int):Option Ans :=
 (cond (zhE a0) (cond (zf0 a0) (cond (zhE a1) (cond (zf0 a1) (some [(.one (.b (ieq (wand .i64 a0 a1) a1)))]) (some [(.one (.b false))])) none) (some [(.one (.b false))])) none)
theorem zTr (N:Nat)(a0 a1:Int):evalFn (cQ zuR zbV zK zO) (zB []) N 12 176 [.one (.i .i64 a0),.one (.i .i64 a1)]=zx1 N a0 a1:=by kernel_rfl
theorem zPW (a0 a1:Int)(hb:zG big [.one (.i .i64 a0),.one (.i .i64 a1)])(hc:(zdg a0 a1)=true):∃N,zx1 N a0 a1=some [.one (.b (zdL a0 a1))]:=by
 refine ⟨0,?_⟩;unfold zx1 zdL enough zf0;cases zdX a0<;>cases zdX a1<;>rfl
theorem zJg:Holds Tryz.prog 176 zto:=zo zk1 zbd zu zy (zC (by kernel_rfl)) fun avs rs hb h=>by
 unfold zto at h;split at h
 ·obtain ⟨hc,rfl⟩:=zl h;exact (fin2 zPW zTr hc hb :)
 ·cases h
def zdP (t:List Slot)(p:Int):Slot:=bif hasB p (ln t) then ix t p zQ else noSlot
def zrQ (_:List Slot)(_:Int):Bool:=true
@[reducible] def zeS (t:List Slot)(p:Int):Slot:=zdP t p
def zun:List AV->Option (Bool×List AV)
 | [.one (.s .slot b),.one (.i .i64 c)]=>some ((zrQ b c),[.agg (Ty.cells .slot (zeS b c))])
 | _=>none
def zyT (N:Nat)(a0:List Slot)(a1:Int):Option Ans :=
 (cond (zZ a1 0 (wsub .i64 (ln a0) 1)) (cond (cond (zbe a1 0 (wsub .i64 (ln a0) 1)) false true) (cond zc6 (some [(.agg [(.i .i64 zb0.Page),(.i .i64 zb0.Rights)])]) none) (cond (inb a1 (ln a0)) (some [(.agg [(.i .i64 (ix a0 a1 zQ).Page),(.i .i64 (ix a0 a1 zQ).Rights)])]) none)) none)
theorem zUn (N:Nat)(a0:List Slot)(a1:Int):evalFn (cQ zuR zbV zK zO) (zB []) N 12 198 [.one (.s .slot a0),.one (.i .i64 a1)]=zyT N a0 a1:=by kernel_rfl
theorem zQS (a0:List Slot)(a1:Int)(hb:zG big [.one (.s .slot a0),.one (.i .i64 a1)])(hc:(zrQ a0 a1)=true):∃N,zyT N a0 a1=some [.agg (Ty.cells .slot (zeS a0 a1))]:=by
 have hl:=((zbu hb).1 _ (List.mem_singleton.2 rfl)).len;refine ⟨0,?_⟩;unfold zyT zeS zdP;have e:zbe a1 0 (wsub .i64 (ln a0) 1)=hasB a1 (ln a0):=zHy hl a1;rw [e];cases hh:hasB a1 (ln a0)
 ·rfl
 ·rw [zF hh];rfl
theorem zKc:Holds Tryz.prog 198 zun:=zo zk1 zbd zu zy (zC (by kernel_rfl)) fun avs rs hb h=>by
 unfold zun at h;split at h
 ·obtain ⟨hc,rfl⟩:=zl h;exact (fin2 zQS zUn hc hb :)
 ·cases h
def zjU (_:List Slot)(_:Int):Bool:=true
@[reducible] def zdM (t:List Slot)(p:Int):Slot:=zdP t p
def ztE:List AV->Option (Bool×List AV)
 | [.one (.s .slot b),.one (.i .i64 c)]=>some ((zjU b c),[.agg (Ty.cells .slot (zdM b c))])
 | _=>none
def zyg (N:Nat)(a0:List Slot)(a1:Int):Option Ans :=
 (cond (zcz a1 (ln a0)) (cond (cond (zcS a1 (ln a0)) false true) (cond zc4 (some [(.agg [(.i .i64 zcE.Page),(.i .i64 zcE.Rights)])]) none) (cond (inb a1 (ln a0)) (some [(.agg [(.i .i64 (ix a0 a1 zQ).Page),(.i .i64 (ix a0 a1 zQ).Rights)])]) none)) none)
theorem zTH (N:Nat)(a0:List Slot)(a1:Int):evalFn (cQ zuR zbV zK zO) (zB []) N 12 187 [.one (.s .slot a0),.one (.i .i64 a1)]=zyg N a0 a1:=by kernel_rfl
theorem zQc (a0:List Slot)(a1:Int)(hb:zG big [.one (.s .slot a0),.one (.i .i64 a1)])(hc:(zjU a0 a1)=true):∃N,zyg N a0 a1=some [.agg (Ty.cells .slot (zdM a0 a1))]:=by
 refine ⟨0,?_⟩;unfold zyg zdM zdP zcS;cases hh:hasB a1 (ln a0)
 ·rfl
 ·rw [zF hh];rfl
theorem zJw:Holds Tryz.prog 187 ztE:=zo zk1 zbd zu zy (zC (by kernel_rfl)) fun avs rs hb h=>by
 unfold ztE at h;split at h
 ·obtain ⟨hc,rfl⟩:=zl h;exact (fin2 zQc zTH hc hb :)
 ·cases h
def zOI:zbQ:=[(231,zlh),(242,zlc),(158,zt8),(176,zto),(198,zun),(187,ztE)]++zuR
theorem zEx:zbw zOI:=zn zBA (zn zBs (zn zJ0 (zn zJg (zn zKc (zn zJw zk1)))))
def zec (a b:Slot):Bool:=ieq a.Page b.Page&&ieq a.Rights b.Rights
def zku (s:Slot)(outer:List Slot):Slot :=
 bif ieq s.Page (-1) then noSlot else (cond (ieq (zdP outer s.Page).Page (-1)) noSlot (cond (ieq (zgV s.Rights (zdP outer s.Page).Rights) 0) noSlot ⟨(zdP outer s.Page).Page,zgV s.Rights (zdP outer s.Page).Rights⟩))
def zi1 (_:Slot)(_:List Slot):Bool:=true
def zkU (s:Slot)(outer:List Slot):Slot:=zku s outer
def zkp:List AV->Option (Bool×List AV)
 | [.agg [.i .i64 b,.i .i64 c],.one (.s .slot d)]=>some ((zi1 (⟨b,c⟩:Slot) d),[.agg (Ty.cells .slot (zkU (⟨b,c⟩:Slot) d))])
 | _=>none
def zlQ (N:Nat)(a0:Slot)(a1:List Slot):Option Ans :=
 (cond (zrQ a1 a0.Page) (cond (zor a0.Rights (zeS a1 a0.Page).Rights) (cond (ieq a0.Page (-1)) (cond zc6 (some [(.agg [(.i .i64 zb0.Page),(.i .i64 zb0.Rights)])]) none) (cond (ieq (zeS a1 a0.Page).Page (-1)) (cond zc6 (some [(.agg [(.i .i64 zb0.Page),(.i .i64 zb0.Rights)])]) none) (cond (ieq (zgB a0.Rights (zeS a1 a0.Page).Rights) 0) (cond zc6 (some [(.agg [(.i .i64 zb0.Page),(.i .i64 zb0.Rights)])]) none) (some [(.agg [(.i .i64 (zeS a1 a0.Page).Page),(.i .i64 (zgB a0.Rights (zeS a1 a0.Page).Rights))])])))) none) none)
theorem zFO (N:Nat)(a0:Slot)(a1:List Slot):evalFn (cQ zOI zbV zK zO) (zB []) N 12 203 [.agg (Ty.cells .slot a0),.one (.s .slot a1)]=zlQ N a0 a1:=by kernel_rfl
theorem zDw (a0:Slot)(a1:List Slot)(hb:zG big [.agg (Ty.cells .slot a0),.one (.s .slot a1)])(hc:(zi1 a0 a1)=true):∃N,zlQ N a0 a1=some [.agg (Ty.cells .slot (zkU a0 a1))]:=by
 refine ⟨0,?_⟩;unfold zlQ zkU zku zeS zgB;cases ieq a0.Page (-1)<;>cases ieq (zdP a1 a0.Page).Page (-1)<;>cases ieq (zgV a0.Rights (zdP a1 a0.Page).Rights) 0<;>rfl
theorem zAD:Holds Tryz.prog 203 zkp:=zo zEx zbd zu zy (zC (by kernel_rfl)) fun avs rs hb h=>by
 unfold zkp at h;split at h
 ·obtain ⟨hc,rfl⟩:=zl h;exact (fin2 zDw zFO hc hb :)
 ·cases h
def ziY (_:Slot)(_:List Slot):Bool:=true
def zkN (s:Slot)(outer:List Slot):Slot:=zku s outer
def zkm:List AV->Option (Bool×List AV)
 | [.agg [.i .i64 b,.i .i64 c],.one (.s .slot d)]=>some ((ziY (⟨b,c⟩:Slot) d),[.agg (Ty.cells .slot (zkN (⟨b,c⟩:Slot) d))])
 | _=>none
def zlM (N:Nat)(a0:Slot)(a1:List Slot):Option Ans :=
 (cond (zjU a1 a0.Page) (cond (znI a0.Rights (zdM a1 a0.Page).Rights) (cond (ieq a0.Page (-1)) (cond zc4 (some [(.agg [(.i .i64 zcE.Page),(.i .i64 zcE.Rights)])]) none) (cond (ieq (zdM a1 a0.Page).Page (-1)) (cond zc4 (some [(.agg [(.i .i64 zcE.Page),(.i .i64 zcE.Rights)])]) none) (cond (ieq (zgv a0.Rights (zdM a1 a0.Page).Rights) 0) (cond zc4 (some [(.agg [(.i .i64 zcE.Page),(.i .i64 zcE.Rights)])]) none) (some [(.agg [(.i .i64 (zdM a1 a0.Page).Page),(.i .i64 (zgv a0.Rights (zdM a1 a0.Page).Rights))])])))) none) none)
theorem zFL (N:Nat)(a0:Slot)(a1:List Slot):evalFn (cQ zOI zbV zK zO) (zB []) N 12 216 [.agg (Ty.cells .slot a0),.one (.s .slot a1)]=zlM N a0 a1:=by kernel_rfl
theorem zDt (a0:Slot)(a1:List Slot)(hb:zG big [.agg (Ty.cells .slot a0),.one (.s .slot a1)])(hc:(ziY a0 a1)=true):∃N,zlM N a0 a1=some [.agg (Ty.cells .slot (zkN a0 a1))]:=by
 refine ⟨0,?_⟩;unfold zlM zkN zku zdM zgv;cases ieq a0.Page (-1)<;>cases ieq (zdP a1 a0.Page).Page (-1)<;>cases ieq (zgV a0.Rights (zdP a1 a0.Page).Rights) 0<;>rfl
theorem zAA:Holds Tryz.prog 216 zkm:=zo zEx zbd zu zy (zC (by kernel_rfl)) fun avs rs hb h=>by
 unfold zkm at h;split at h
 ·obtain ⟨hc,rfl⟩:=zl h;exact (fin2 zDt zFL hc hb :)
 ·cases h
def zZ7:zbQ:=[(203,zkp),(216,zkm)]++zOI
theorem zY3:zbw zZ7:=zn zAD (zn zAA zEx)
def zZ8:zbQ:=zZ7
theorem zY4:∀f run,zx zZ8 f=some run->Holds Tryz.prog f run:=zY3
def zZ9:zbQ:=zZ8
theorem zY5:∀f run,zx zZ9 f=some run->Holds Tryz.prog f run:=zY4
def zWh:zbQ:=zZ9
theorem zI4:∀f run,zx zWh f=some run->Holds Tryz.prog f run:=zY5
theorem hE (h:Host):(⟨h.Memory,h.Mons,h.Buffer,h.IoBuffer⟩:Host)=h:=rfl
def idxs {α:Type}(p:α->Bool):List α->Nat->List Int
 | [],_=>[]
 | x :: l,i=>bif p x then (i:Int) :: idxs p l (i+1) else idxs p l (i+1)
theorem zFs {α:Type}(p:α->Bool):∀(l:List α) (i:Nat),(idxs p l i).length<=l.length
 | [],_=>Nat.le_refl _
 | x :: l,i=>by
  have:=zFs p l (i+1);simp only [idxs];cases p x<;>simp<;>omega
theorem zzq {α ρ:Type}(p:α->Bool)(K:List Int->Option ρ):∀(l:List α) (i:Nat) (acc:List Int),acc.length+l.length<=2147483648 ->
 goL (fun i x acc k=>bif p x then (cond (few (ln (ap acc [(i:Int)]))) (k (ap acc [(i:Int)])) none) else k acc) K l i acc=K (acc++idxs p l i)
 | [],i,acc,_=>by simp [goL,idxs]
 | x :: l,i,acc,h=>by
  simp only [List.length_cons] at h;simp only [goL,idxs];cases p x
  ·simp only [cF];exact zzq p K l (i+1) acc (by omega)
  ·simp only [cT];rw [zeo (by simp [ap];omega),cT,zzq p K l (i+1) _ (by simp [ap];omega)]
   simp [ap]
def zFq (p:Nat->Bool):Nat->Nat->List Int
 | 0,_=>[]
 | n+1,i=>bif p i then (i:Int) :: zFq p n (i+1) else zFq p n (i+1)
theorem zzs {ρ:Type}(p:Nat->Bool)(K:List Int->Option ρ):∀(n i:Nat) (acc:List Int),acc.length+n<=2147483648 ->
 goN (fun i acc k=>bif p i then (cond (few (ln (ap acc [(i:Int)]))) (k (ap acc [(i:Int)])) none) else k acc) K n i acc=K (acc++zFq p n i)
 | 0,i,acc,_=>by simp [goN,zFq]
 | n+1,i,acc,h=>by
  simp only [goN,zFq];cases p i
  ·simp only [cF];exact zzs p K n (i+1) acc (by omega)
  ·simp only [cT];rw [zeo (by simp [ap];omega),cT,zzs p K n (i+1) _ (by simp [ap];omega)]
   simp [ap]
@[reducible] def zAe (l:List Slot)(_:Int):Bool:=pc (l.length<=2147483648)
@[reducible] def zox (l:List Slot)(p:Int):List Int:=idxs (fun (s:Slot)=>ieq s.Page p) l 0
def zur:List AV->Option (Bool×List AV)
 | [.one (.s .slot b),.one (.i .i64 c)]=>some ((zAe b c),[.one (.s .int (zox b c))])
 | _=>none
def zyX (N:Nat)(a0:List Slot)(a1:Int):Option Ans :=
 (iter (σ:=(Int×(Int×((List Slot)×((List Int)×Unit))))) N (fun r3 s4=>(cond (ilt s4.2.1 (ln s4.2.2.1)) (cond (inb s4.2.1 (ln s4.2.2.1)) (cond (ieq (ix s4.2.2.1 s4.2.1 zQ).Page s4.1) (cond (few (ln (ap s4.2.2.2.1 [s4.2.1]))) (r3 (s4.1,((zq .i64 s4.2.1 1),(s4.2.2.1,((ap s4.2.2.2.1 [s4.2.1]),()))))) none) (r3 (s4.1,((zq .i64 s4.2.1 1),(s4.2.2.1,(s4.2.2.2.1,())))))) none) (some [(.one (.s .int s4.2.2.2.1))]))) (a1,(0,(a0,([],())))))
def zSw:FuncId->Nat->Option Tmpl:=zB [(249,0,{ n:=26,tm:=[(0,.sl 0 []),(1,.i .i64),(5,.sl 1 []),(6,.i .i64)],lo:=[],ro:=[(0,.slot,false),(1,.int,true)] })]
theorem zUr (N:Nat)(a0:List Slot)(a1:Int):evalFn (cQ zWh zbV zK zO) zSw N 12 249 [.one (.s .slot a0),.one (.i .i64 a1)]=zyX N a0 a1:=by kernel_rfl
theorem zQW (a0:List Slot)(a1:Int)(hb:zG big [.one (.s .slot a0),.one (.i .i64 a1)])(hc:(zAe a0 a1)=true):∃N,zyX N a0 a1=some [.one (.s .int (zox a0 a1))]:=by
 have hl:=((zbu hb).1 _ (List.mem_singleton.2 rfl)).len;have hs:=zJ.1 hc;refine ⟨NN,?_⟩;have hNN:∀{n:Nat},n<=big->n<NN:=fun h=>zb8 h;generalize NN=N at hNN ⊢;unfold zyX;refine (zbF a0 (fun i (t:(List Int))=>(a1,(i:Int),a0,t,())) _ (fun i (x:Slot) (t:List Int) κ=>bif ieq x.Page a1 then (cond (few (ln (ap t [(i:Int)]))) (κ (ap t [(i:Int)])) none) else κ t) (fun (t:(List Int))=>(some [(.one (.s .int t))])) (fun i hi t rec=>?_) (fun t rec=>?_) _ ([]) (hNN hl)).trans ?_
 ·simp only [zbv hi,zbg hi,zbq hi,zbf hi hl,cT]
 ·simp only [zbj,cF]
 exact zzq (fun (s:Slot)=>ieq s.Page a1) _ _ 0 [] (by simpa using hs)
theorem zKg:Holds Tryz.prog 249 zur:=zo zI4 zbd zu zy (zC (by kernel_rfl)) fun avs rs hb h=>by
 unfold zur at h;split at h
 ·obtain ⟨hc,rfl⟩:=zl h;exact (fin2 zQW zUr hc hb :)
 ·cases h
@[reducible] def zzH (l:List Slot)(_:Int):Bool:=pc (l.length<=2147483648)
@[reducible] def zjm (l:List Slot)(p:Int):List Int:=idxs (fun (s:Slot)=>ieq s.Page p) l 0
def ztI:List AV->Option (Bool×List AV)
 | [.one (.s .slot b),.one (.i .i64 c)]=>some ((zzH b c),[.one (.s .int (zjm b c))])
 | _=>none
def zyk (N:Nat)(a0:List Slot)(a1:Int):Option Ans :=
 (iter (σ:=(Int×(Int×(Int×((List Int)×((List Slot)×Unit)))))) N (fun r3 s4=>(cond (ilt s4.2.2.1 s4.2.1) (cond (inb s4.2.2.1 (ln s4.2.2.2.2.1)) (cond (ieq (ix s4.2.2.2.2.1 s4.2.2.1 zQ).Page s4.1) (cond (few (ln (ap s4.2.2.2.1 [s4.2.2.1]))) (r3 (s4.1,(s4.2.1,((zq .i64 s4.2.2.1 1),((ap s4.2.2.2.1 [s4.2.2.1]),(s4.2.2.2.2.1,())))))) none) (r3 (s4.1,(s4.2.1,((zq .i64 s4.2.2.1 1),(s4.2.2.2.1,(s4.2.2.2.2.1,()))))))) none) (some [(.one (.s .int s4.2.2.2.1))]))) (a1,((ln a0),(0,([],(a0,()))))))
def zSi:FuncId->Nat->Option Tmpl:=zB [(253,0,{ n:=26,tm:=[(1,.i .i64),(5,.sl 0 []),(9,.sl 1 []),(10,.i .i64),(11,.i .i64)],lo:=[],ro:=[(0,.int,true),(1,.slot,false)] })]
theorem zTL (N:Nat)(a0:List Slot)(a1:Int):evalFn (cQ zWh zbV zK zO) zSi N 12 253 [.one (.s .slot a0),.one (.i .i64 a1)]=zyk N a0 a1:=by kernel_rfl
theorem zQg (a0:List Slot)(a1:Int)(hb:zG big [.one (.s .slot a0),.one (.i .i64 a1)])(hc:(zzH a0 a1)=true):∃N,zyk N a0 a1=some [.one (.s .int (zjm a0 a1))]:=by
 have hl:=((zbu hb).1 _ (List.mem_singleton.2 rfl)).len;have hs:=zJ.1 hc;refine ⟨NN,?_⟩;have hNN:∀{n:Nat},n<=big->n<NN:=fun h=>zb8 h;generalize NN=N at hNN ⊢;unfold zyk;refine (zbF a0 (fun i (t:(List Int))=>(a1,(ln a0),(i:Int),t,a0,())) _ (fun i (x:Slot) (t:List Int) κ=>bif ieq x.Page a1 then (cond (few (ln (ap t [(i:Int)]))) (κ (ap t [(i:Int)])) none) else κ t) (fun (t:(List Int))=>(some [(.one (.s .int t))])) (fun i hi t rec=>?_) (fun t rec=>?_) _ ([]) (hNN hl)).trans ?_
 ·simp only [zbv hi,zbg hi,zbq hi,zbf hi hl,cT]
 ·simp only [zbj,cF]
 exact zzq (fun (s:Slot)=>ieq s.Page a1) _ _ 0 [] (by simpa using hs)
theorem zJA:Holds Tryz.prog 253 ztI:=zo zI4 zbd zu zy (zC (by kernel_rfl)) fun avs rs hb h=>by
 unfold ztI at h;split at h
 ·obtain ⟨hc,rfl⟩:=zl h;exact (fin2 zQg zTL hc hb :)
 ·cases h
def z0a:zbQ:=[(249,zur),(253,ztI)]++zWh
theorem zY6:zbw z0a:=zn zKg (zn zJA zI4)
def z0b:zbQ:=z0a
theorem zY7:∀f run,zx z0b f=some run->Holds Tryz.prog f run:=zY6
def zVZ:zbQ:=z0b
theorem zPj:∀f run,zx zVZ f=some run->Holds Tryz.prog f run:=zY7
theorem zjW (x y:Int):ine x y = !ieq x y:=rfl
def zdn (l:List Int):Bool:=pc (l.length<=2147483648)
@[reducible] def zdh (l:List Int):List Int:=l
def zn4:List AV->Option (Bool×List AV)
 | [.one (.s .int b)]=>some ((zdn b),[.one (.s .int (zdh b))])
 | _=>none
def zsj (N:Nat)(a0:List Int):Option Ans :=
 (cond (few (ln (ap [] a0))) (some [(.one (.s .int (ap [] a0)))]) none)
theorem zNS (N:Nat)(a0:List Int):evalFn (cQ zVZ zbV zK zO) (zB []) N 12 113 [.one (.s .int a0)]=zsj N a0:=by kernel_rfl
theorem zKD (a0:List Int)(hb:zG big [.one (.s .int a0)])(hc:(zdn a0)=true):∃N,zsj N a0=some [.one (.s .int (zdh a0))]:=by
 refine ⟨0,?_⟩;unfold zsj;rw [zkt,zeo (zJ.1 hc),cT]
theorem zEW:Holds Tryz.prog 113 zn4:=zo zPj zbd zu zy (zC (by kernel_rfl)) fun avs rs hb h=>by
 unfold zn4 at h;split at h
 ·obtain ⟨hc,rfl⟩:=zl h;exact (fin1 zKD zNS hc hb :)
 ·cases h
def zOJ:zbQ:=[(113,zn4)]++zVZ
theorem zEy:zbw zOJ:=zn zEW zPj
def zAm:List Int:=rp 4 0
def zha (m:List (List Int))(p:Int):List Int:=bif hasB p (ln m) then ix m p [] else zAm
def zz9 (m:List (List Int))(_:Int):Bool:=pc (CVB sm (.s (.sl .int) m))
def zz8 (m:List (List Int))(p:Int):List Int:=zha m p
theorem zYx {m:List (List Int)}{p:Int}(hs:CVB sm (.s (.sl .int) m))(hh:hasB p (ln m)=true):(ix m p []).length<=2147483648 :=
 (zcA (hs.inv.2 _ (zdd hh ([]:List Int)) (.s .int _) (List.mem_singleton.2 rfl)).len).2
def zuj:List AV->Option (Bool×List AV)
 | [.one (.s (.sl .int) b),.one (.i .i64 c)]=>some ((zz9 b c),[.one (.s .int (zz8 b c))])
 | _=>none
def zyP (N:Nat)(a0:List (List Int))(a1:Int):Option Ans :=
 (cond (zZ a1 0 (wsub .i64 (ln a0) 1)) (cond (cond (zbe a1 0 (wsub .i64 (ln a0) 1)) false true) (cond (cond (few 4) (ieq 4 4) false) (some [(.one (.s .int (rp 4 0)))]) none) (cond (inb a1 (ln a0)) (cond (few (ln (ap [] (ix a0 a1 [])))) (some [(.one (.s .int (ap [] (ix a0 a1 []))))]) none) none)) none)
theorem zUj (N:Nat)(a0:List (List Int))(a1:Int):evalFn (cQ zOJ zbV zK zO) (zB []) N 12 248 [.one (.s (.sl .int) a0),.one (.i .i64 a1)]=zyP N a0 a1:=by kernel_rfl
theorem zQO (a0:List (List Int))(a1:Int)(hb:zG big [.one (.s (.sl .int) a0),.one (.i .i64 a1)])(hc:(zz9 a0 a1)=true):∃N,zyP N a0 a1=some [.one (.s .int (zz8 a0 a1))]:=by
 have hs:=zJ.1 hc;refine ⟨0,?_⟩;unfold zyP zz8 zha;have e:zbe a1 0 (wsub .i64 (ln a0) 1)=hasB a1 (ln a0):=zHy (zcA hs.len).1 a1;rw [e];cases hh:hasB a1 (ln a0)
 ·rfl
 ·simp only [zZ,cT,cF,zF hh,zkt,zeo (zYx hs hh)]
theorem zJ8:Holds Tryz.prog 248 zuj:=zo zEy zbd zu zy (zC (by kernel_rfl)) fun avs rs hb h=>by
 unfold zuj at h;split at h
 ·obtain ⟨hc,rfl⟩:=zl h;exact (fin2 zQO zUj hc hb :)
 ·cases h
def zhZ (m:List (List Int))(_:Int):Bool:=pc (CVB sm (.s (.sl .int) m))
def zk3 (m:List (List Int))(p:Int):List Int:=zha m p
def ztx:List AV->Option (Bool×List AV)
 | [.one (.s (.sl .int) b),.one (.i .i64 c)]=>some ((zhZ b c),[.one (.s .int (zk3 b c))])
 | _=>none
def zx9 (N:Nat)(a0:List (List Int))(a1:Int):Option Ans :=
 (cond (zcz a1 (ln a0)) (cond (cond (zcS a1 (ln a0)) false true) (cond (cond (few 4) (ieq 4 4) false) (some [(.one (.s .int (rp 4 0)))]) none) (cond (inb a1 (ln a0)) (cond (zdn (ix a0 a1 [])) (some [(.one (.s .int (zdh (ix a0 a1 []))))]) none) none)) none)
theorem zTA (N:Nat)(a0:List (List Int))(a1:Int):evalFn (cQ zOJ zbV zK zO) (zB []) N 12 188 [.one (.s (.sl .int) a0),.one (.i .i64 a1)]=zx9 N a0 a1:=by kernel_rfl
theorem zP5 (a0:List (List Int))(a1:Int)(hb:zG big [.one (.s (.sl .int) a0),.one (.i .i64 a1)])(hc:(zhZ a0 a1)=true):∃N,zx9 N a0 a1=some [.one (.s .int (zk3 a0 a1))]:=by
 have hs:=zJ.1 hc;refine ⟨0,?_⟩;unfold zx9 zk3 zha zcS;cases hh:hasB a1 (ln a0)
 ·rfl
 ·simp only [zcz,cT,cF,zF hh,show zdn (ix a0 a1 [])=true from zU (zYx hs hh),zdh]
theorem zJp:Holds Tryz.prog 188 ztx:=zo zEy zbd zu zy (zC (by kernel_rfl)) fun avs rs hb h=>by
 unfold ztx at h;split at h
 ·obtain ⟨hc,rfl⟩:=zl h;exact (fin2 zP5 zTA hc hb :)
 ·cases h
def zV1:zbQ:=[(248,zuj),(188,ztx)]++zOJ
theorem zPk:zbw zV1:=zn zJ8 (zn zJp zEy)
def zjA (h:Host)(m p:Int):List Int :=
 bif hasB m (ln h.Mons) then (cond (hasB p 8) (cond (ine (zdP (ix h.Mons m zf).Outer p).Page (-1)) (zha h.Memory (zdP (ix h.Mons m zf).Outer p).Page) (zha (ix h.Mons m zf).Out p)) zAm) else zAm
def zzC (h:Host)(_ _:Int):Bool:=pc (zea h)
def zs5 (h:Host)(m p:Int):List Int:=zjA h m p
def zty:List AV->Option (Bool×List AV)
 | [.agg [.s (.sl .int) b,.s .mon c,.s .entry d,.s .entry e],.one (.i .i64 f),.one (.i .i64 g)]=>some ((zzC (⟨b,c,d,e⟩:Host) f g),[.one (.s .int (zs5 (⟨b,c,d,e⟩:Host) f g))])
 | _=>none
def zya (N:Nat)(a0:Host)(a1 a2:Int):Option Ans :=
 (cond (zcz a1 (ln a0.Mons)) (cond (cond (zcS a1 (ln a0.Mons)) false true) (cond (cond (few 4) (ieq 4 4) false) (some [(.one (.s .int (rp 4 0)))]) none) (cond (zcz a2 8) (cond (cond (zcS a2 8) false true) (cond (cond (few 4) (ieq 4 4) false) (some [(.one (.s .int (rp 4 0)))]) none) (cond (inb a1 (ln a0.Mons)) (cond (zjU (ix a0.Mons a1 zf).Outer a2) (cond (ine (zdM (ix a0.Mons a1 zf).Outer a2).Page (-1)) (cond (zhZ a0.Memory (zdM (ix a0.Mons a1 zf).Outer a2).Page) (some [(.one (.s .int (zk3 a0.Memory (zdM (ix a0.Mons a1 zf).Outer a2).Page)))]) none) (cond (zhZ (ix a0.Mons a1 zf).Out a2) (some [(.one (.s .int (zk3 (ix a0.Mons a1 zf).Out a2)))]) none)) none) none)) none)) none)
theorem zTB (N:Nat)(a0:Host)(a1 a2:Int):evalFn (cQ zV1 zbV zK zO) (zB []) N 12 142 [.agg (zA a0),.one (.i .i64 a1),.one (.i .i64 a2)]=zya N a0 a1 a2:=by kernel_rfl
theorem zP6 (a0:Host)(a1 a2:Int)(hb:zG big [.agg (zA a0),.one (.i .i64 a1),.one (.i .i64 a2)])(hc:(zzC a0 a1 a2)=true):∃N,zya N a0 a1 a2=some [.one (.s .int (zs5 a0 a1 a2))]:=by
 have hs:=zJ.1 hc;refine ⟨0,?_⟩;unfold zya zs5 zjA zcS;cases hh:hasB a1 (ln a0.Mons)
 ·rfl
 ·cases h8:hasB a2 8
  ·rfl
  ·have ho:CVB sm (.s (.sl .int) (ix a0.Mons a1 zf).Out):=hs.mons.inv.2 _ (zdd hh zf) (.s (.sl .int) _) (by simp [Ty.cells])
   simp only [zcz,cT,cF,zF hh,zjU,zdM,show ∀p,zhZ a0.Memory p=true from fun p=>zU hs.mem,show ∀p,zhZ (ix a0.Mons a1 zf).Out p=true from fun p=>zU ho,zk3]
   cases ine (zdP (ix a0.Mons a1 zf).Outer a2).Page (-1)<;>rfl
theorem zJq:Holds Tryz.prog 142 zty:=zo zPk zbd zu zy (zC (by kernel_rfl)) fun avs rs hb h=>by
 unfold zty at h;split at h
 ·obtain ⟨hc,rfl⟩:=zl h;exact (zd3 zP6 zTB hc hb :)
 ·cases h
def z0c:zbQ:=[(142,zty)]++zV1
theorem zY8:zbw z0c:=zn zJq zPk
def z0d:zbQ:=z0c
theorem zY9:∀f run,zx z0d f=some run->Holds Tryz.prog f run:=zY8
def zkg:zbQ:=z0d
theorem zfa:∀f run,zx zkg f=some run->Holds Tryz.prog f run:=zY9
def mkB:Int:=4611686018427387904
section
variable {α:Type}
def mcL (m:α->Int):List α->Int
 | []=>0
 | x :: l=>m x+mcL m l
def mkL (f:α->Int->α)(nx:α->Int->Int):List α->Int->List α
 | [],_=>[]
 | x :: l,k=>f x k :: mkL f nx l (nx x k)
def enL (nx:α->Int->Int):List α->Int->Int
 | [],k=>k
 | x :: l,k=>enL nx l (nx x k)
structure Mk (f:α->Int->α) (nx:α->Int->Int) (m:α->Int):Prop where
 nn:∀x,0<=m x
 nx:∀x k,nx x k=k+m x
 f2:∀x k,f (f x k) k=f x k
 m2:∀x k,m (f x k)=m x
variable {f:α->Int->α} {nx:α->Int->Int} {m:α->Int}
theorem zbZ (h:∀x,0<=m x):∀l:List α,0<=mcL m l
 | []=>Int.le_refl _
 | x :: l=>by
  have h1:=h x;have h2:=zbZ h l;simp only [mcL];omega
theorem zbO (h:∀x k,nx x k=k+m x):∀(l:List α) (k:Int),enL nx l k=k+mcL m l
 | [],k=>by simp [enL,mcL]
 | x :: l,k=>by
  have h2:=zbO h l (nx x k);simp only [enL,mcL];rw [h2,h];omega
theorem zdR (h:Mk f nx m):∀(l:List α) (k:Int),mcL m (mkL f nx l k)=mcL m l
 | [],_=>rfl
 | x :: l,k=>by simp only [mkL,mcL,zdR h l,h.m2]
theorem zic (h:Mk f nx m):∀(l:List α) (k:Int),mkL f nx (mkL f nx l k) k=mkL f nx l k
 | [],_=>rfl
 | x :: l,k=>by
  have e:nx (f x k) k=nx x k:=by rw [h.nx,h.nx,h.m2]
  simp only [mkL,h.f2,e,zic h l]
theorem Mk.list (h:Mk f nx m):Mk (fun l k=>mkL f nx l k) (fun l k=>enL nx l k) (fun l=>mcL m l) :=
 ⟨fun l=>zbZ h.nn l,fun l k=>zbO h.nx l k,fun l k=>zic h l k,fun l k=>zdR h l k⟩
theorem zg4 {ρ:Type}(h:Mk f nx m)(F:(Int×Int×List α×Unit->Option ρ)->Int×Int×List α×Unit->Option ρ)(K:Int->List α->Option ρ)(hstep:∀(i:Nat) (L:List α) (hi:i<L.length) (k:Int) (rec:Int×Int×List α×Unit->Option ρ),0<=k->k+m L[i]<=mkB->L.length<=big->F rec (k,(i:Int),L,())=rec (nx L[i] k,((i+1:Nat):Int),L.set i (f L[i] k),()))(hend:∀(L:List α) (k:Int) (rec:Int×Int×List α×Unit->Option ρ),F rec (k,(L.length:Int),L,())=K k L) :
 ∀(l:List α) (k:Int) (N:Nat),l.length<=big->0<=k->k+mcL m l<=mkB->l.length<N->iter N F (k,0,l,())=K (enL nx l k) (mkL f nx l k):=by
 have key:∀(rest done:List α) (k:Int) (N:Nat),(done++rest).length<=big->0<=k->k+mcL m rest<=mkB->rest.length<N->iter N F (k,(done.length:Int),done++rest,())=K (enL nx rest k) (done++mkL f nx rest k):=by
  intro rest
  induction rest with
  | nil =>
   intro done k N hl h0 h1 hN;obtain ⟨n,rfl⟩:∃n,N=n+1:=⟨N-1,by simp at hN;omega⟩
   rw [zcw];simp only [List.append_nil,mkL,enL];exact hend done k _
  | cons x rest ih =>
   intro done k N hl h0 h1 hN;simp only [List.length_cons] at hN;obtain ⟨n,rfl⟩:∃n,N=n+1:=⟨N-1,by omega⟩
   have hi:done.length<(done++x :: rest).length:=by simp
   have hx:(done++x :: rest)[done.length]=x:=by simp
   have hnn:=h.nn x;have hn2:=zbZ h.nn rest;simp only [mcL] at h1;rw [zcw,hstep done.length (done++x :: rest) hi k _ h0 (by rw [hx];omega) hl,hx]
   have e:(done++x :: rest).set done.length (f x k)=(done++[f x k])++rest:=by simp
   have e2:done.length+1=(done++[f x k]).length:=by simp
   rw [e,e2,ih (done++[f x k]) (nx x k) n (by simpa using hl) (by rw [h.nx];omega) (by rw [h.nx];omega) (by omega)]
   simp [mkL,enL]
 intro l k N hl h0 h1 hN;exact key l [] k N hl h0 h1 hN
theorem zg3 {ρ:Type}(h:Mk f nx m)(l:List α)(F:(Int×Int×List α×Unit->Option ρ)->Int×Int×List α×Unit->Option ρ)(K:Int->Option ρ)(hstep:∀(i:Nat) (hi:i<l.length) (k:Int) (rec:Int×Int×List α×Unit->Option ρ),f l[i] k=l[i]->0<=k->k+m l[i]<=mkB->F rec (k,(i:Int),l,())=rec (nx l[i] k,((i+1:Nat):Int),l,()))(hend:∀(k:Int) (rec:Int×Int×List α×Unit->Option ρ),F rec (k,(l.length:Int),l,())=K k) :
 ∀(k:Int) (N:Nat),mkL f nx l k=l->0<=k->k+mcL m l<=mkB->l.length<N->iter N F (k,0,l,())=K (enL nx l k):=by
 have key:∀(j:Nat) (i:Nat) (k:Int) (N:Nat),l.length-i=j->i<=l.length->mkL f nx (l.drop i) k=l.drop i->0<=k->k+mcL m (l.drop i)<=mkB->j<N->iter N F (k,(i:Int),l,())=K (enL nx (l.drop i) k):=by
  intro j
  induction j with
  | zero =>
   intro i k N hj hi he h0 h1 hN;have:i=l.length:=by omega
   subst this;obtain ⟨n,rfl⟩:∃n,N=n+1:=⟨N-1,by omega⟩
   rw [zcw,hend,List.drop_length];rfl
  | succ j ih =>
   intro i k N hj hi he h0 h1 hN;obtain ⟨n,rfl⟩:∃n,N=n+1:=⟨N-1,by omega⟩
   have hlt:i<l.length:=by omega
   have hd:=List.drop_eq_getElem_cons hlt;rw [hd] at he h1 ⊢;simp only [mkL,List.cons.injEq] at he;simp only [mcL] at h1;have hnn:=h.nn l[i];have hn2:=zbZ h.nn (l.drop (i+1));rw [zcw,hstep i hlt k _ he.1 h0 (by omega)]
   simp only [enL];exact ih (i+1) (nx l[i] k) n (by omega) (by omega) he.2 (by rw [h.nx];omega) (by rw [h.nx];omega) (by omega)
 intro k N he h0 h1 hN;have:=key l.length 0 k N (by omega) (Nat.zero_le _) (by simpa using he) h0 (by simpa using h1) hN
 simpa using this
end
section
variable {α:Type}
theorem zno (l:List α)(i:Nat)(x:α):up l (i:Int) x=l.set i x:=by simp [up]
theorem ztf (l:List α)(i:Nat)(x:α):ln (l.set i x)=ln l:=by simp [ln]
theorem zxA {l:List α}{i:Nat}(h:i<l.length)(x d:α):ix (l.set i x) (i:Int) d=x:=by simp [ix,List.getD,h]
theorem set_set (l:List α)(i:Nat)(x y:α):(l.set i x).set i y=l.set i y:=List.set_set ..
end
theorem zhw:ine 3 0=true:=rfl
theorem zeA {k:Int}(h:0<=k):ilt k 0=false:=decide_eq_false (by omega)
theorem zKm {α:Type}{l:List α}{i:Nat}(h:i<l.length)(x:α):inb (i:Int) (ln (l.set i x))=true:=by rw [ztf];exact zbg h
def zzi (_:Int)(k:Int):Int:=k
def zeO (_:Int)(k:Int):Int:=k+1
def zkh (_:Int):Int:=1
theorem zet:Mk zzi zeO zkh:=⟨fun _=>by unfold zkh;decide,fun _ _=>rfl,fun _ _=>rfl,fun _ _=>rfl⟩
def zuT (_:Bool)(k:Int):Bool:=ieq (zfH k 3) 0
def zcm (_:Bool)(k:Int):Int:=k+1
def zi0 (_:Bool):Int:=1
theorem zd9:Mk zuT zcm zi0:=⟨fun _=>by unfold zi0;decide,fun _ _=>rfl,fun _ _=>rfl,fun _ _=>rfl⟩
def zl7 (_:Slot)(k:Int):Slot:=⟨k,k+1⟩
def zbc (_:Slot)(k:Int):Int:=k+1+1
def zf4 (_:Slot):Int:=2
theorem zcv:Mk zl7 zbc zf4:=⟨fun _=>by unfold zf4;decide,fun _ k=>by unfold zbc zf4;omega,fun _ _=>rfl,fun _ _=>rfl⟩
def zPy (_:Ins)(k:Int):Ins:=⟨k,k+1⟩
def zcF (_:Ins)(k:Int):Int:=k+1+1
def znP (_:Ins):Int:=2
theorem zkK:Mk zPy zcF znP:=⟨fun _=>by unfold znP;decide,fun _ k=>by unfold zcF znP;omega,fun _ _=>rfl,fun _ _=>rfl⟩
def zPx (_:Entry)(k:Int):Entry:=⟨k,k+1,k+1+1,k+1+1+1⟩
def zxK (_:Entry)(k:Int):Int:=k+1+1+1+1
def zgx (_:Entry):Int:=4
theorem zix:Mk zPx zxK zgx:=⟨fun _=>by unfold zgx;decide,fun _ k=>by unfold zxK zgx;omega,fun _ _=>rfl,fun _ _=>rfl⟩
def zGt (l:List Int)(k:Int):List Int:=mkL zzi zeO l k
def zcC (l:List Int)(k:Int):Int:=enL zeO l k
def zh9 (l:List Int):Int:=mcL zkh l
theorem zfV:Mk zGt zcC zh9:=zet.list
def zzj (x:Kept)(k:Int):Kept:=⟨mkL zuT zcm x.Known (k),mkL zl7 zbc x.Slots (enL zcm x.Known (k))⟩
def zj5 (x:Kept)(k:Int):Int:=enL zbc x.Slots (enL zcm x.Known (k))
def zg9 (x:Kept):Int:=mcL zi0 x.Known+mcL zf4 x.Slots
theorem z08 (x:Kept):0<=zg9 x:=by
 have h0:=zbZ zd9.nn x.Known;have h1:=zbZ zcv.nn x.Slots;unfold zg9;omega
theorem z09 (x:Kept)(k:Int):zj5 x k=k+zg9 x:=by
 unfold zj5 zg9;simp only [zbO zd9.nx,zbO zcv.nx];omega
theorem zii:Mk zzj zj5 zg9:=⟨z08,z09,fun x k=>by simp only [zzj,zbO zd9.nx,zbO zcv.nx,zdR zd9,zdR zcv,zic zd9,zic zcv],fun x k=>by simp only [zg9,zzj,zdR zd9,zdR zcv]⟩
def zsP (x:Guest)(k:Int):Guest:=⟨mkL zPy zcF x.Prog (k),enL zcF x.Prog (k),enL zcF x.Prog (k)+1,mkL zl7 zbc x.Written (enL zcF x.Prog (k)+1+1),mkL zl7 zbc x.Live (enL zbc x.Written (enL zcF x.Prog (k)+1+1)),⟨enL zbc x.Live (enL zbc x.Written (enL zcF x.Prog (k)+1+1)),enL zbc x.Live (enL zbc x.Written (enL zcF x.Prog (k)+1+1))+1,ieq (zfH (enL zbc x.Live (enL zbc x.Written (enL zcF x.Prog (k)+1+1))+1+1) 3) 0⟩,enL zbc x.Live (enL zbc x.Written (enL zcF x.Prog (k)+1+1))+1+1+1,⟨enL zbc x.Live (enL zbc x.Written (enL zcF x.Prog (k)+1+1))+1+1+1+1,enL zbc x.Live (enL zbc x.Written (enL zcF x.Prog (k)+1+1))+1+1+1+1+1,ieq (zfH (enL zbc x.Live (enL zbc x.Written (enL zcF x.Prog (k)+1+1))+1+1+1+1+1+1) 3) 0,enL zbc x.Live (enL zbc x.Written (enL zcF x.Prog (k)+1+1))+1+1+1+1+1+1+1⟩,ieq (zfH (enL zbc x.Live (enL zbc x.Written (enL zcF x.Prog (k)+1+1))+1+1+1+1+1+1+1+1) 3) 0,mkL zzi zeO x.Seen (enL zbc x.Live (enL zbc x.Written (enL zcF x.Prog (k)+1+1))+1+1+1+1+1+1+1+1+1)⟩
def zcQ (x:Guest)(k:Int):Int:=enL zeO x.Seen (enL zbc x.Live (enL zbc x.Written (enL zcF x.Prog (k)+1+1))+1+1+1+1+1+1+1+1+1)
def zfC (x:Guest):Int:=mcL znP x.Prog+mcL zf4 x.Written+mcL zf4 x.Live+mcL zkh x.Seen+11
theorem zZG (x:Guest):0<=zfC x:=by
 have h0:=zbZ zkK.nn x.Prog;have h1:=zbZ zcv.nn x.Written;have h2:=zbZ zcv.nn x.Live;have h3:=zbZ zet.nn x.Seen;unfold zfC;omega
theorem zZI (x:Guest)(k:Int):zcQ x k=k+zfC x:=by
 unfold zcQ zfC;simp only [zbO zkK.nx,zbO zet.nx,zbO zcv.nx];omega
theorem zgI:Mk zsP zcQ zfC:=⟨zZG,zZI,fun x k=>by simp only [zsP,zbO zkK.nx,zbO zet.nx,zbO zcv.nx,zdR zkK,zdR zet,zdR zcv,zic zkK,zic zet,zic zcv],fun x k=>by simp only [zfC,zsP,zdR zkK,zdR zet,zdR zcv]⟩
def zPz (x:Mon)(k:Int):Mon:=⟨mkL zl7 zbc x.Outer (k),mkL zGt zcC x.Out (enL zbc x.Outer (k)),mkL zuT zcm x.Dirty (enL zcC x.Out (enL zbc x.Outer (k))),mkL zsP zcQ x.Guests (enL zcm x.Dirty (enL zcC x.Out (enL zbc x.Outer (k)))),mkL zzi zeO x.Outs (enL zcQ x.Guests (enL zcm x.Dirty (enL zcC x.Out (enL zbc x.Outer (k))))),enL zeO x.Outs (enL zcQ x.Guests (enL zcm x.Dirty (enL zcC x.Out (enL zbc x.Outer (k))))),enL zeO x.Outs (enL zcQ x.Guests (enL zcm x.Dirty (enL zcC x.Out (enL zbc x.Outer (k)))))+1,mkL zzj zj5 x.Tables (enL zeO x.Outs (enL zcQ x.Guests (enL zcm x.Dirty (enL zcC x.Out (enL zbc x.Outer (k)))))+1+1),enL zj5 x.Tables (enL zeO x.Outs (enL zcQ x.Guests (enL zcm x.Dirty (enL zcC x.Out (enL zbc x.Outer (k)))))+1+1)⟩
def zFK (x:Mon)(k:Int):Int:=enL zj5 x.Tables (enL zeO x.Outs (enL zcQ x.Guests (enL zcm x.Dirty (enL zcC x.Out (enL zbc x.Outer (k)))))+1+1)+1
def zjx (x:Mon):Int:=mcL zf4 x.Outer+mcL zh9 x.Out+mcL zi0 x.Dirty+mcL zfC x.Guests+mcL zkh x.Outs+mcL zg9 x.Tables+3
theorem z1T (x:Mon):0<=zjx x:=by
 have h0:=zbZ zcv.nn x.Outer;have h1:=zbZ zfV.nn x.Out;have h2:=zbZ zd9.nn x.Dirty;have h3:=zbZ zgI.nn x.Guests;have h4:=zbZ zet.nn x.Outs;have h5:=zbZ zii.nn x.Tables;unfold zjx;omega
theorem z1U (x:Mon)(k:Int):zFK x k=k+zjx x:=by
 unfold zFK zjx;simp only [zbO zd9.nx,zbO zgI.nx,zbO zet.nx,zbO zfV.nx,zbO zii.nx,zbO zcv.nx];omega
theorem zCd:Mk zPz zFK zjx:=⟨z1T,z1U,fun x k=>by simp only [zPz,zbO zd9.nx,zbO zgI.nx,zbO zet.nx,zbO zfV.nx,zbO zii.nx,zbO zcv.nx,zdR zd9,zdR zgI,zdR zet,zdR zfV,zdR zii,zdR zcv,zic zd9,zic zgI,zic zet,zic zfV,zic zii,zic zcv],fun x k=>by simp only [zjx,zPz,zdR zd9,zdR zgI,zdR zet,zdR zfV,zdR zii,zdR zcv]⟩
def zfA (l:List Int)(k:Int):Bool:=pc (0<=k/\k+mcL zkh l<=mkB)
def zfz (l:List Int)(k:Int):List Int:=mkL zzi zeO l k
def zdq (l:List Int)(k:Int):Int:=enL zeO l k
def zmC:CV->Int->Option (Bool×CV×Int)
 | .s .int l,k=>some (zfA l k,.s .int (zfz l k),zdq l k)
 | _,_=>none
def zst (N:Nat)(a0:List Int)(a1:Int):Option Ans :=
 (iter (σ:=(Int×(Int×((List Int)×Unit)))) N (fun r3 s4=>(cond (ilt s4.2.1 (ln s4.2.2.1)) (cond (inb s4.2.1 (ln s4.2.2.1)) (share (up s4.2.2.1 s4.2.1 s4.1) (fun x5=>(r3 ((zq .i64 s4.1 1),((zq .i64 s4.2.1 1),(x5,())))))) none) (some [(.one (.s .int s4.2.2.1)),(.one (.i .i64 s4.1))]))) (a1,(0,(a0,()))))
def zxV:FuncId->Nat->Option Tmpl:=zB [(71,0,{ n:=19,tm:=[(0,.sl 0 []),(1,.i .i64),(5,.i .i64)],lo:=[],ro:=[(0,.int,true)] })]
theorem zN2 (N:Nat)(a0:List Int)(a1:Int):zl6 (cQ zkg zbV zK zO) zxV N 12 71 .int a0 a1=zst N a0 a1:=by kernel_rfl
theorem zKN (a0:List Int)(a1:Int)(hb:CVB big (.s .int a0))(hc:zfA a0 a1=true):∃N,zst N a0 a1=some [.one (.s .int (zfz a0 a1)),.one (.i .i64 (zdq a0 a1))]:=by
 obtain ⟨h0,h1⟩:=zJ.1 hc;have hl:=hb.len;refine ⟨NN,?_⟩;have hNN:∀{n:Nat},n<=big->n<NN:=fun h=>zb8 h;generalize NN=N at hNN ⊢;unfold zst;exact zg4 zet _ (fun k L=>some [AV.one (.s .int L),AV.one (.i .i64 k)]) (fun i L hi k rec h0 h1 hL=>by
  have hw:=zbf hi hL;generalize hx:L[i]=x at h1 ⊢;have hix:∀d,ix L (i:Int) d=x:=fun d=>(zbq hi d).trans hx;simp only [zkh,mkB] at h1;simp (disch:=omega) only [share,zbv hi,zbg hi,hw,zno,zeF,zhw,cT];rfl
  ) (fun L k rec=>by simp only [zbj,cF]) a0 a1 N hl h0 h1 (hNN hl)
theorem zE6:zen Tryz.prog 71 zmC:=by
 refine zd5 (zdF zfa zbd zu zy) (zC (by kernel_rfl)) ?_
 intro t l k c' k' hr h;obtain ⟨W,v,S,hrep⟩:=hr;have hb:=CVB.of_rep hrep;unfold zmC at h;split at h
 ·rename_i t2 l2 heq;cases heq;simp only [Option.some.injEq,Prod.mk.injEq] at h;obtain ⟨hc,rfl,rfl⟩:=h;obtain ⟨N,hN⟩:=zKN _ _ hb hc;exact ⟨zxV,N,12,(zN2 N _ _).trans hN⟩
 ·cases h
def zgQ (l:List Bool)(k:Int):Bool:=pc (0<=k/\k+mcL zi0 l<=mkB)
def zgP (l:List Bool)(k:Int):List Bool:=mkL zuT zcm l k
def zco (l:List Bool)(k:Int):Int:=enL zcm l k
def zk6:CV->Int->Option (Bool×CV×Int)
 | .s .bool l,k=>some (zgQ l k,.s .bool (zgP l k),zco l k)
 | _,_=>none
def zpP (N:Nat)(a0:List Bool)(a1:Int):Option Ans :=
 (iter (σ:=(Int×(Int×((List Bool)×Unit)))) N (fun r3 s4=>(cond (ilt s4.2.1 (ln s4.2.2.1)) (cond (ine 3 0) (cond (inb s4.2.1 (ln s4.2.2.1)) (share (up s4.2.2.1 s4.2.1 (ieq (zfH s4.1 3) 0)) (fun x5=>(r3 ((zq .i64 s4.1 1),((zq .i64 s4.2.1 1),(x5,())))))) none) none) (some [(.one (.s .bool s4.2.2.1)),(.one (.i .i64 s4.1))]))) (a1,(0,(a0,()))))
def zvH:FuncId->Nat->Option Tmpl:=zB [(73,0,{ n:=21,tm:=[(0,.sl 0 []),(1,.i .i64),(5,.i .i64)],lo:=[],ro:=[(0,.bool,true)] })]
theorem zLj (N:Nat)(a0:List Bool)(a1:Int):zl6 (cQ zkg zbV zK zO) zvH N 12 73 .bool a0 a1=zpP N a0 a1:=by kernel_rfl
theorem zHT (a0:List Bool)(a1:Int)(hb:CVB big (.s .bool a0))(hc:zgQ a0 a1=true):∃N,zpP N a0 a1=some [.one (.s .bool (zgP a0 a1)),.one (.i .i64 (zco a0 a1))]:=by
 obtain ⟨h0,h1⟩:=zJ.1 hc;have hl:=hb.len;refine ⟨NN,?_⟩;have hNN:∀{n:Nat},n<=big->n<NN:=fun h=>zb8 h;generalize NN=N at hNN ⊢;unfold zpP;exact zg4 zd9 _ (fun k L=>some [AV.one (.s .bool L),AV.one (.i .i64 k)]) (fun i L hi k rec h0 h1 hL=>by
  have hw:=zbf hi hL;generalize hx:L[i]=x at h1 ⊢;have hix:∀d,ix L (i:Int) d=x:=fun d=>(zbq hi d).trans hx;simp only [zi0,mkB] at h1;simp (disch:=omega) only [share,zbv hi,zbg hi,hw,zno,zeF,zhw,cT];rfl
  ) (fun L k rec=>by simp only [zbj,cF]) a0 a1 N hl h0 h1 (hNN hl)
theorem zC9:zen Tryz.prog 73 zk6:=by
 refine zd5 (zdF zfa zbd zu zy) (zC (by kernel_rfl)) ?_
 intro t l k c' k' hr h;obtain ⟨W,v,S,hrep⟩:=hr;have hb:=CVB.of_rep hrep;unfold zk6 at h;split at h
 ·rename_i t2 l2 heq;cases heq;simp only [Option.some.injEq,Prod.mk.injEq] at h;obtain ⟨hc,rfl,rfl⟩:=h;obtain ⟨N,hN⟩:=zHT _ _ hb hc;exact ⟨zvH,N,12,(zLj N _ _).trans hN⟩
 ·cases h
def zd0 (l:List Slot)(k:Int):Bool:=pc (0<=k/\k+mcL zf4 l<=mkB)
def zev (l:List Slot)(k:Int):List Slot:=mkL zl7 zbc l k
def zbb (l:List Slot)(k:Int):Int:=enL zbc l k
def zk9:CV->Int->Option (Bool×CV×Int)
 | .s .slot l,k=>some (zd0 l k,.s .slot (zev l k),zbb l k)
 | _,_=>none
def zpS (N:Nat)(a0:List Slot)(a1:Int):Option Ans :=
 (iter (σ:=(Int×(Int×((List Slot)×Unit)))) N (fun r3 s4=>(cond (ilt s4.2.1 (ln s4.2.2.1)) (cond (inb s4.2.1 (ln s4.2.2.1)) (share (up s4.2.2.1 s4.2.1 ({ (ix s4.2.2.1 s4.2.1 zQ) with Page:=s4.1 }:Slot)) (fun x5=>(cond (inb s4.2.1 (ln x5)) (share (up x5 s4.2.1 ({ (ix x5 s4.2.1 zQ) with Rights:=(zq .i64 s4.1 1) }:Slot)) (fun x6=>(r3 ((zq .i64 (zq .i64 s4.1 1) 1),((zq .i64 s4.2.1 1),(x6,())))))) none))) none) (some [(.one (.s .slot s4.2.2.1)),(.one (.i .i64 s4.1))]))) (a1,(0,(a0,()))))
def zvK:FuncId->Nat->Option Tmpl:=zB [(72,0,{ n:=27,tm:=[(0,.sl 0 []),(1,.i .i64),(5,.i .i64)],lo:=[],ro:=[(0,.slot,true)] })]
theorem zLm (N:Nat)(a0:List Slot)(a1:Int):zl6 (cQ zkg zbV zK zO) zvK N 12 72 .slot a0 a1=zpS N a0 a1:=by kernel_rfl
theorem zHW (a0:List Slot)(a1:Int)(hb:CVB big (.s .slot a0))(hc:zd0 a0 a1=true):∃N,zpS N a0 a1=some [.one (.s .slot (zev a0 a1)),.one (.i .i64 (zbb a0 a1))]:=by
 obtain ⟨h0,h1⟩:=zJ.1 hc;have hl:=hb.len;refine ⟨NN,?_⟩;have hNN:∀{n:Nat},n<=big->n<NN:=fun h=>zb8 h;generalize NN=N at hNN ⊢;unfold zpS;exact zg4 zcv _ (fun k L=>some [AV.one (.s .slot L),AV.one (.i .i64 k)]) (fun i L hi k rec h0 h1 hL=>by
  have hw:=zbf hi hL;generalize hx:L[i]=x at h1 ⊢;have hix:∀d,ix L (i:Int) d=x:=fun d=>(zbq hi d).trans hx;simp only [zf4,mkB] at h1;simp (disch:=omega) only [share,zbv hi,zbg hi,hix,hw,zno,ztf,zxA hi,set_set,zeF,zhw,cT];rfl
  ) (fun L k rec=>by simp only [zbj,cF]) a0 a1 N hl h0 h1 (hNN hl)
theorem zDc:zen Tryz.prog 72 zk9:=by
 refine zd5 (zdF zfa zbd zu zy) (zC (by kernel_rfl)) ?_
 intro t l k c' k' hr h;obtain ⟨W,v,S,hrep⟩:=hr;have hb:=CVB.of_rep hrep;unfold zk9 at h;split at h
 ·rename_i t2 l2 heq;cases heq;simp only [Option.some.injEq,Prod.mk.injEq] at h;obtain ⟨hc,rfl,rfl⟩:=h;obtain ⟨N,hN⟩:=zHW _ _ hb hc;exact ⟨zvK,N,12,(zLm N _ _).trans hN⟩
 ·cases h
def zmv (l:List Ins)(k:Int):Bool:=pc (0<=k/\k+mcL znP l<=mkB)
def zmu (l:List Ins)(k:Int):List Ins:=mkL zPy zcF l k
def zcd (l:List Ins)(k:Int):Int:=enL zcF l k
def zmB:CV->Int->Option (Bool×CV×Int)
 | .s .ins l,k=>some (zmv l k,.s .ins (zmu l k),zcd l k)
 | _,_=>none
def zss (N:Nat)(a0:List Ins)(a1:Int):Option Ans :=
 (iter (σ:=(Int×(Int×((List Ins)×Unit)))) N (fun r3 s4=>(cond (ilt s4.2.1 (ln s4.2.2.1)) (cond (inb s4.2.1 (ln s4.2.2.1)) (share (up s4.2.2.1 s4.2.1 ({ (ix s4.2.2.1 s4.2.1 zfs) with Op:=s4.1 }:Ins)) (fun x5=>(cond (inb s4.2.1 (ln x5)) (share (up x5 s4.2.1 ({ (ix x5 s4.2.1 zfs) with X:=(zq .i64 s4.1 1) }:Ins)) (fun x6=>(r3 ((zq .i64 (zq .i64 s4.1 1) 1),((zq .i64 s4.2.1 1),(x6,())))))) none))) none) (some [(.one (.s .ins s4.2.2.1)),(.one (.i .i64 s4.1))]))) (a1,(0,(a0,()))))
def zxU:FuncId->Nat->Option Tmpl:=zB [(147,0,{ n:=27,tm:=[(0,.sl 0 []),(1,.i .i64),(5,.i .i64)],lo:=[],ro:=[(0,.ins,true)] })]
theorem zN1 (N:Nat)(a0:List Ins)(a1:Int):zl6 (cQ zkg zbV zK zO) zxU N 12 147 .ins a0 a1=zss N a0 a1:=by kernel_rfl
theorem zKM (a0:List Ins)(a1:Int)(hb:CVB big (.s .ins a0))(hc:zmv a0 a1=true):∃N,zss N a0 a1=some [.one (.s .ins (zmu a0 a1)),.one (.i .i64 (zcd a0 a1))]:=by
 obtain ⟨h0,h1⟩:=zJ.1 hc;have hl:=hb.len;refine ⟨NN,?_⟩;have hNN:∀{n:Nat},n<=big->n<NN:=fun h=>zb8 h;generalize NN=N at hNN ⊢;unfold zss;exact zg4 zkK _ (fun k L=>some [AV.one (.s .ins L),AV.one (.i .i64 k)]) (fun i L hi k rec h0 h1 hL=>by
  have hw:=zbf hi hL;generalize hx:L[i]=x at h1 ⊢;have hix:∀d,ix L (i:Int) d=x:=fun d=>(zbq hi d).trans hx;simp only [znP,mkB] at h1;simp (disch:=omega) only [share,zbv hi,zbg hi,hix,hw,zno,ztf,zxA hi,set_set,zeF,zhw,cT];rfl
  ) (fun L k rec=>by simp only [zbj,cF]) a0 a1 N hl h0 h1 (hNN hl)
theorem zE5:zen Tryz.prog 147 zmB:=by
 refine zd5 (zdF zfa zbd zu zy) (zC (by kernel_rfl)) ?_
 intro t l k c' k' hr h;obtain ⟨W,v,S,hrep⟩:=hr;have hb:=CVB.of_rep hrep;unfold zmB at h;split at h
 ·rename_i t2 l2 heq;cases heq;simp only [Option.some.injEq,Prod.mk.injEq] at h;obtain ⟨hc,rfl,rfl⟩:=h;obtain ⟨N,hN⟩:=zKM _ _ hb hc;exact ⟨zxU,N,12,(zN1 N _ _).trans hN⟩
 ·cases h
def zdH (l:List Entry)(k:Int):Bool:=pc (0<=k/\k+mcL zgx l<=mkB)
def zeB (l:List Entry)(k:Int):List Entry:=mkL zPx zxK l k
def zbP (l:List Entry)(k:Int):Int:=enL zxK l k
def zki:CV->Int->Option (Bool×CV×Int)
 | .s .entry l,k=>some (zdH l k,.s .entry (zeB l k),zbP l k)
 | _,_=>none
def zny (N:Nat)(a0:List Entry)(a1:Int):Option Ans :=
 (iter (σ:=(Int×(Int×((List Entry)×Unit)))) N (fun r3 s4=>(cond (ilt s4.2.1 (ln s4.2.2.1)) (cond (inb s4.2.1 (ln s4.2.2.1)) (share (up s4.2.2.1 s4.2.1 ({ (ix s4.2.2.1 s4.2.1 zbz) with Tag:=s4.1 }:Entry)) (fun x5=>(cond (inb s4.2.1 (ln x5)) (share (up x5 s4.2.1 ({ (ix x5 s4.2.1 zbz) with Page:=(zq .i64 s4.1 1) }:Entry)) (fun x6=>(cond (inb s4.2.1 (ln x6)) (share (up x6 s4.2.1 ({ (ix x6 s4.2.1 zbz) with Host:=(zq .i64 (zq .i64 s4.1 1) 1) }:Entry)) (fun x7=>(cond (inb s4.2.1 (ln x7)) (share (up x7 s4.2.1 ({ (ix x7 s4.2.1 zbz) with Rights:=(zq .i64 (zq .i64 (zq .i64 s4.1 1) 1) 1) }:Entry)) (fun x8=>(r3 ((zq .i64 (zq .i64 (zq .i64 (zq .i64 s4.1 1) 1) 1) 1),((zq .i64 s4.2.1 1),(x8,())))))) none))) none))) none))) none) (some [(.one (.s .entry s4.2.2.1)),(.one (.i .i64 s4.1))]))) (a1,(0,(a0,()))))
def zuK:FuncId->Nat->Option Tmpl:=zB [(29,0,{ n:=41,tm:=[(0,.sl 0 []),(1,.i .i64),(5,.i .i64)],lo:=[],ro:=[(0,.entry,true)] })]
theorem zIe (N:Nat)(a0:List Entry)(a1:Int):zl6 (cQ zkg zbV zK zO) zuK N 12 29 .entry a0 a1=zny N a0 a1:=by kernel_rfl
theorem zFC (a0:List Entry)(a1:Int)(hb:CVB big (.s .entry a0))(hc:zdH a0 a1=true):∃N,zny N a0 a1=some [.one (.s .entry (zeB a0 a1)),.one (.i .i64 (zbP a0 a1))]:=by
 obtain ⟨h0,h1⟩:=zJ.1 hc;have hl:=hb.len;refine ⟨NN,?_⟩;have hNN:∀{n:Nat},n<=big->n<NN:=fun h=>zb8 h;generalize NN=N at hNN ⊢;unfold zny;exact zg4 zix _ (fun k L=>some [AV.one (.s .entry L),AV.one (.i .i64 k)]) (fun i L hi k rec h0 h1 hL=>by
  have hw:=zbf hi hL;generalize hx:L[i]=x at h1 ⊢;have hix:∀d,ix L (i:Int) d=x:=fun d=>(zbq hi d).trans hx;simp only [zgx,mkB] at h1;simp (disch:=omega) only [share,zbv hi,zbg hi,hix,hw,zno,ztf,zxA hi,set_set,zeF,zhw,cT];rfl
  ) (fun L k rec=>by simp only [zbj,cF]) a0 a1 N hl h0 h1 (hNN hl)
theorem zBy:zen Tryz.prog 29 zki:=by
 refine zd5 (zdF zfa zbd zu zy) (zC (by kernel_rfl)) ?_
 intro t l k c' k' hr h;obtain ⟨W,v,S,hrep⟩:=hr;have hb:=CVB.of_rep hrep;unfold zki at h;split at h
 ·rename_i t2 l2 heq;cases heq;simp only [Option.some.injEq,Prod.mk.injEq] at h;obtain ⟨hc,rfl,rfl⟩:=h;obtain ⟨N,hN⟩:=zFC _ _ hb hc;exact ⟨zuK,N,12,(zIe N _ _).trans hN⟩
 ·cases h
def zQ5:zEn:=[(71,zmC),(73,zk6),(72,zk9),(147,zmB),(29,zki)]++zbV
theorem zCF:∀f run,zx zQ5 f=some run->zen Tryz.prog f run:=zFI zbd (by
 intro x hx;simp only [List.mem_cons,List.not_mem_nil,or_false] at hx;rcases hx with rfl|rfl|rfl|rfl|rfl
 ·exact zE6
 ·exact zC9
 ·exact zDc
 ·exact zE5
 ·exact zBy)
def zeY (l:List (List Int))(k:Int):Bool:=pc (0<=k/\k+mcL zh9 l<=mkB)
def zfR (l:List (List Int))(k:Int):List (List Int):=mkL zGt zcC l k
def zX (l:List (List Int))(k:Int):Int:=enL zcC l k
def zk7:CV->Int->Option (Bool×CV×Int)
 | .s (.sl .int) l,k=>some (zeY l k,.s (.sl .int) (zfR l k),zX l k)
 | _,_=>none
def zpQ (N:Nat)(a0:List (List Int))(a1:Int):Option Ans :=
 (iter (σ:=(Int×(Int×((List (List Int))×Unit)))) N (fun r3 s4=>(cond (ilt s4.2.1 (ln s4.2.2.1)) (cond (inb s4.2.1 (ln s4.2.2.1)) (cond (zfA (ix s4.2.2.1 s4.2.1 []) s4.1) (share (up s4.2.2.1 s4.2.1 (zfz (ix s4.2.2.1 s4.2.1 []) s4.1)) (fun x5=>(r3 ((zdq (ix s4.2.2.1 s4.2.1 []) s4.1),((zq .i64 s4.2.1 1),(x5,())))))) none) none) (some [(.one (.s (.sl .int) s4.2.2.1)),(.one (.i .i64 s4.1))]))) (a1,(0,(a0,()))))
def zvI:FuncId->Nat->Option Tmpl:=zB [(27,0,{ n:=19,tm:=[(0,.sl 0 []),(1,.i .i64),(5,.i .i64)],lo:=[],ro:=[(0,(.sl .int),true)] })]
theorem zLk (N:Nat)(a0:List (List Int))(a1:Int):zl6 (cQ zkg zQ5 zK zO) zvI N 12 27 (.sl .int) a0 a1=zpQ N a0 a1:=by kernel_rfl
theorem zHU (a0:List (List Int))(a1:Int)(hb:CVB big (.s (.sl .int) a0))(hc:zeY a0 a1=true):∃N,zpQ N a0 a1=some [.one (.s (.sl .int) (zfR a0 a1)),.one (.i .i64 (zX a0 a1))]:=by
 obtain ⟨h0,h1⟩:=zJ.1 hc;have hl:=hb.len;refine ⟨NN,?_⟩;have hNN:∀{n:Nat},n<=big->n<NN:=fun h=>zb8 h;generalize NN=N at hNN ⊢;unfold zpQ;exact zg4 zfV _ (fun k L=>some [AV.one (.s (.sl .int) L),AV.one (.i .i64 k)]) (fun i L hi k rec h0 h1 hL=>by
  have hw:=zbf hi hL;generalize hx:L[i]=x at h1 ⊢;have hix:∀d,ix L (i:Int) d=x:=fun d=>(zbq hi d).trans hx;have c1:zfA x k=true:=zU ⟨h0,h1⟩;simp only [share,zbv hi,zbg hi,hix,c1,hw,zno,zfz,zdq,cT];rfl
  ) (fun L k rec=>by simp only [zbj,cF]) a0 a1 N hl h0 h1 (hNN hl)
theorem zDa:zen Tryz.prog 27 zk7:=by
 refine zd5 (zdF zfa zCF zu zy) (zC (by kernel_rfl)) ?_
 intro t l k c' k' hr h;obtain ⟨W,v,S,hrep⟩:=hr;have hb:=CVB.of_rep hrep;unfold zk7 at h;split at h
 ·rename_i t2 l2 heq;cases heq;simp only [Option.some.injEq,Prod.mk.injEq] at h;obtain ⟨hc,rfl,rfl⟩:=h;obtain ⟨N,hN⟩:=zHU _ _ hb hc;exact ⟨zvI,N,12,(zLk N _ _).trans hN⟩
 ·cases h
def zkR (l:List Kept)(k:Int):Bool:=pc (0<=k/\k+mcL zg9 l<=mkB)
def zkQ (l:List Kept)(k:Int):List Kept:=mkL zzj zj5 l k
def zin (l:List Kept)(k:Int):Int:=enL zj5 l k
def zk8:CV->Int->Option (Bool×CV×Int)
 | .s .kept l,k=>some (zkR l k,.s .kept (zkQ l k),zin l k)
 | _,_=>none
def zpR (N:Nat)(a0:List Kept)(a1:Int):Option Ans :=
 (iter (σ:=(Int×(Int×((List Kept)×Unit)))) N (fun r3 s4=>(cond (ilt s4.2.1 (ln s4.2.2.1)) (cond (inb s4.2.1 (ln s4.2.2.1)) (cond (zgQ (ix s4.2.2.1 s4.2.1 zbD).Known s4.1) (share (up s4.2.2.1 s4.2.1 ({ (ix s4.2.2.1 s4.2.1 zbD) with Known:=(zgP (ix s4.2.2.1 s4.2.1 zbD).Known s4.1) }:Kept)) (fun x5=>(cond (inb s4.2.1 (ln x5)) (cond (zd0 (ix x5 s4.2.1 zbD).Slots (zco (ix s4.2.2.1 s4.2.1 zbD).Known s4.1)) (share (up x5 s4.2.1 ({ (ix x5 s4.2.1 zbD) with Slots:=(zev (ix x5 s4.2.1 zbD).Slots (zco (ix s4.2.2.1 s4.2.1 zbD).Known s4.1)) }:Kept)) (fun x6=>(r3 ((zbb (ix x5 s4.2.1 zbD).Slots (zco (ix s4.2.2.1 s4.2.1 zbD).Known s4.1)),((zq .i64 s4.2.1 1),(x6,())))))) none) none))) none) none) (some [(.one (.s .kept s4.2.2.1)),(.one (.i .i64 s4.1))]))) (a1,(0,(a0,()))))
def zvJ:FuncId->Nat->Option Tmpl:=zB [(75,0,{ n:=27,tm:=[(0,.sl 0 []),(1,.i .i64),(5,.i .i64)],lo:=[],ro:=[(0,.kept,true)] })]
theorem zLl (N:Nat)(a0:List Kept)(a1:Int):zl6 (cQ zkg zQ5 zK zO) zvJ N 12 75 .kept a0 a1=zpR N a0 a1:=by kernel_rfl
theorem zHV (a0:List Kept)(a1:Int)(hb:CVB big (.s .kept a0))(hc:zkR a0 a1=true):∃N,zpR N a0 a1=some [.one (.s .kept (zkQ a0 a1)),.one (.i .i64 (zin a0 a1))]:=by
 obtain ⟨h0,h1⟩:=zJ.1 hc;have hl:=hb.len;refine ⟨NN,?_⟩;have hNN:∀{n:Nat},n<=big->n<NN:=fun h=>zb8 h;generalize NN=N at hNN ⊢;unfold zpR;exact zg4 zii _ (fun k L=>some [AV.one (.s .kept L),AV.one (.i .i64 k)]) (fun i L hi k rec h0 h1 hL=>by
  have hw:=zbf hi hL;generalize hx:L[i]=x at h1 ⊢;have hix:∀d,ix L (i:Int) d=x:=fun d=>(zbq hi d).trans hx;simp only [zg9,mkB] at h1;have hn0:=zbZ zd9.nn x.Known;have hn1:=zbZ zcv.nn x.Slots;have he0:=zbO zd9.nx x.Known (k);have he1:=zbO zcv.nx x.Slots (enL zcm x.Known (k));have c0:zgQ x.Known (k)=true:=zU ⟨by omega,by unfold mkB;omega⟩
  have c1:zd0 x.Slots (enL zcm x.Known (k))=true:=zU ⟨by omega,by unfold mkB;omega⟩
  simp (disch:=omega) only [share,zbv hi,zbg hi,zKm hi,hix,hw,zno,ztf,zxA hi,set_set,zeF,zhw,cT,c0,zgP,zco,c1,zev,zbb];rfl
  ) (fun L k rec=>by simp only [zbj,cF]) a0 a1 N hl h0 h1 (hNN hl)
theorem zDb:zen Tryz.prog 75 zk8:=by
 refine zd5 (zdF zfa zCF zu zy) (zC (by kernel_rfl)) ?_
 intro t l k c' k' hr h;obtain ⟨W,v,S,hrep⟩:=hr;have hb:=CVB.of_rep hrep;unfold zk8 at h;split at h
 ·rename_i t2 l2 heq;cases heq;simp only [Option.some.injEq,Prod.mk.injEq] at h;obtain ⟨hc,rfl,rfl⟩:=h;obtain ⟨N,hN⟩:=zHV _ _ hb hc;exact ⟨zvJ,N,12,(zLl N _ _).trans hN⟩
 ·cases h
def zj1 (l:List Guest)(k:Int):Bool:=pc (0<=k/\k+mcL zfC l<=mkB)
def zj0 (l:List Guest)(k:Int):List Guest:=mkL zsP zcQ l k
def zdp (l:List Guest)(k:Int):Int:=enL zcQ l k
def zkj:CV->Int->Option (Bool×CV×Int)
 | .s .guest l,k=>some (zj1 l k,.s .guest (zj0 l k),zdp l k)
 | _,_=>none
def znz (N:Nat)(a0:List Guest)(a1:Int):Option Ans :=
 (iter (σ:=(Int×(Int×((List Guest)×Unit)))) N (fun r3 s4=>(cond (ilt s4.2.1 (ln s4.2.2.1)) (cond (inb s4.2.1 (ln s4.2.2.1)) (cond (zmv (ix s4.2.2.1 s4.2.1 zi).Prog s4.1) (share (up s4.2.2.1 s4.2.1 ({ (ix s4.2.2.1 s4.2.1 zi) with Prog:=(zmu (ix s4.2.2.1 s4.2.1 zi).Prog s4.1) }:Guest)) (fun x5=>(cond (inb s4.2.1 (ln x5)) (share (up x5 s4.2.1 ({ (ix x5 s4.2.1 zi) with A:=(zcd (ix s4.2.2.1 s4.2.1 zi).Prog s4.1) }:Guest)) (fun x6=>(cond (inb s4.2.1 (ln x6)) (share (up x6 s4.2.1 ({ (ix x6 s4.2.1 zi) with Pc:=(zq .i64 (zcd (ix s4.2.2.1 s4.2.1 zi).Prog s4.1) 1) }:Guest)) (fun x7=>(cond (inb s4.2.1 (ln x7)) (cond (zd0 (ix x7 s4.2.1 zi).Written (zq .i64 (zq .i64 (zcd (ix s4.2.2.1 s4.2.1 zi).Prog s4.1) 1) 1)) (share (up x7 s4.2.1 ({ (ix x7 s4.2.1 zi) with Written:=(zev (ix x7 s4.2.1 zi).Written (zq .i64 (zq .i64 (zcd (ix s4.2.2.1 s4.2.1 zi).Prog s4.1) 1) 1)) }:Guest)) (fun x8=>(cond (inb s4.2.1 (ln x8)) (cond (zd0 (ix x8 s4.2.1 zi).Live (zbb (ix x7 s4.2.1 zi).Written (zq .i64 (zq .i64 (zcd (ix s4.2.2.1 s4.2.1 zi).Prog s4.1) 1) 1))) (share (up x8 s4.2.1 ({ (ix x8 s4.2.1 zi) with Live:=(zev (ix x8 s4.2.1 zi).Live (zbb (ix x7 s4.2.1 zi).Written (zq .i64 (zq .i64 (zcd (ix s4.2.2.1 s4.2.1 zi).Prog s4.1) 1) 1))) }:Guest)) (fun x9=>(cond (inb s4.2.1 (ln x9)) (share (up x9 s4.2.1 ({ (ix x9 s4.2.1 zi) with Ctl:=({ (ix x9 s4.2.1 zi).Ctl with Traps:=(zbb (ix x8 s4.2.1 zi).Live (zbb (ix x7 s4.2.1 zi).Written (zq .i64 (zq .i64 (zcd (ix s4.2.2.1 s4.2.1 zi).Prog s4.1) 1) 1))) }:Ctl) }:Guest)) (fun x10=>(cond (inb s4.2.1 (ln x10)) (share (up x10 s4.2.1 ({ (ix x10 s4.2.1 zi) with Ctl:=({ (ix x10 s4.2.1 zi).Ctl with Post:=(zq .i64 (zbb (ix x8 s4.2.1 zi).Live (zbb (ix x7 s4.2.1 zi).Written (zq .i64 (zq .i64 (zcd (ix s4.2.2.1 s4.2.1 zi).Prog s4.1) 1) 1))) 1) }:Ctl) }:Guest)) (fun x11=>(cond (ine 3 0) (cond (inb s4.2.1 (ln x11)) (share (up x11 s4.2.1 ({ (ix x11 s4.2.1 zi) with Ctl:=({ (ix x11 s4.2.1 zi).Ctl with Open:=(ieq (zfH (zq .i64 (zq .i64 (zbb (ix x8 s4.2.1 zi).Live (zbb (ix x7 s4.2.1 zi).Written (zq .i64 (zq .i64 (zcd (ix s4.2.2.1 s4.2.1 zi).Prog s4.1) 1) 1))) 1) 1) 3) 0) }:Ctl) }:Guest)) (fun x12=>(cond (inb s4.2.1 (ln x12)) (share (up x12 s4.2.1 ({ (ix x12 s4.2.1 zi) with Pending:=(zq .i64 (zq .i64 (zq .i64 (zbb (ix x8 s4.2.1 zi).Live (zbb (ix x7 s4.2.1 zi).Written (zq .i64 (zq .i64 (zcd (ix s4.2.2.1 s4.2.1 zi).Prog s4.1) 1) 1))) 1) 1) 1) }:Guest)) (fun x13=>(cond (inb s4.2.1 (ln x13)) (share (up x13 s4.2.1 ({ (ix x13 s4.2.1 zi) with Exit:=({ (ix x13 s4.2.1 zi).Exit with Kind:=(zq .i64 (zq .i64 (zq .i64 (zq .i64 (zbb (ix x8 s4.2.1 zi).Live (zbb (ix x7 s4.2.1 zi).Written (zq .i64 (zq .i64 (zcd (ix s4.2.2.1 s4.2.1 zi).Prog s4.1) 1) 1))) 1) 1) 1) 1) }:GExit) }:Guest)) (fun x14=>(cond (inb s4.2.1 (ln x14)) (share (up x14 s4.2.1 ({ (ix x14 s4.2.1 zi) with Exit:=({ (ix x14 s4.2.1 zi).Exit with Page:=(zq .i64 (zq .i64 (zq .i64 (zq .i64 (zq .i64 (zbb (ix x8 s4.2.1 zi).Live (zbb (ix x7 s4.2.1 zi).Written (zq .i64 (zq .i64 (zcd (ix s4.2.2.1 s4.2.1 zi).Prog s4.1) 1) 1))) 1) 1) 1) 1) 1) }:GExit) }:Guest)) (fun x15=>(cond (ine 3 0) (cond (inb s4.2.1 (ln x15)) (share (up x15 s4.2.1 ({ (ix x15 s4.2.1 zi) with Exit:=({ (ix x15 s4.2.1 zi).Exit with Write:=(ieq (zfH (zq .i64 (zq .i64 (zq .i64 (zq .i64 (zq .i64 (zq .i64 (zbb (ix x8 s4.2.1 zi).Live (zbb (ix x7 s4.2.1 zi).Written (zq .i64 (zq .i64 (zcd (ix s4.2.2.1 s4.2.1 zi).Prog s4.1) 1) 1))) 1) 1) 1) 1) 1) 1) 3) 0) }:GExit) }:Guest)) (fun x16=>(cond (inb s4.2.1 (ln x16)) (share (up x16 s4.2.1 ({ (ix x16 s4.2.1 zi) with Exit:=({ (ix x16 s4.2.1 zi).Exit with N:=(zq .i64 (zq .i64 (zq .i64 (zq .i64 (zq .i64 (zq .i64 (zq .i64 (zbb (ix x8 s4.2.1 zi).Live (zbb (ix x7 s4.2.1 zi).Written (zq .i64 (zq .i64 (zcd (ix s4.2.2.1 s4.2.1 zi).Prog s4.1) 1) 1))) 1) 1) 1) 1) 1) 1) 1) }:GExit) }:Guest)) (fun x17=>(cond (ine 3 0) (cond (inb s4.2.1 (ln x17)) (share (up x17 s4.2.1 ({ (ix x17 s4.2.1 zi) with Halted:=(ieq (zfH (zq .i64 (zq .i64 (zq .i64 (zq .i64 (zq .i64 (zq .i64 (zq .i64 (zq .i64 (zbb (ix x8 s4.2.1 zi).Live (zbb (ix x7 s4.2.1 zi).Written (zq .i64 (zq .i64 (zcd (ix s4.2.2.1 s4.2.1 zi).Prog s4.1) 1) 1))) 1) 1) 1) 1) 1) 1) 1) 1) 3) 0) }:Guest)) (fun x18=>(cond (inb s4.2.1 (ln x18)) (cond (zfA (ix x18 s4.2.1 zi).Seen (zq .i64 (zq .i64 (zq .i64 (zq .i64 (zq .i64 (zq .i64 (zq .i64 (zq .i64 (zq .i64 (zbb (ix x8 s4.2.1 zi).Live (zbb (ix x7 s4.2.1 zi).Written (zq .i64 (zq .i64 (zcd (ix s4.2.2.1 s4.2.1 zi).Prog s4.1) 1) 1))) 1) 1) 1) 1) 1) 1) 1) 1) 1)) (share (up x18 s4.2.1 ({ (ix x18 s4.2.1 zi) with Seen:=(zfz (ix x18 s4.2.1 zi).Seen (zq .i64 (zq .i64 (zq .i64 (zq .i64 (zq .i64 (zq .i64 (zq .i64 (zq .i64 (zq .i64 (zbb (ix x8 s4.2.1 zi).Live (zbb (ix x7 s4.2.1 zi).Written (zq .i64 (zq .i64 (zcd (ix s4.2.2.1 s4.2.1 zi).Prog s4.1) 1) 1))) 1) 1) 1) 1) 1) 1) 1) 1) 1)) }:Guest)) (fun x19=>(r3 ((zdq (ix x18 s4.2.1 zi).Seen (zq .i64 (zq .i64 (zq .i64 (zq .i64 (zq .i64 (zq .i64 (zq .i64 (zq .i64 (zq .i64 (zbb (ix x8 s4.2.1 zi).Live (zbb (ix x7 s4.2.1 zi).Written (zq .i64 (zq .i64 (zcd (ix s4.2.2.1 s4.2.1 zi).Prog s4.1) 1) 1))) 1) 1) 1) 1) 1) 1) 1) 1) 1)),((zq .i64 s4.2.1 1),(x19,())))))) none) none))) none) none))) none))) none) none))) none))) none))) none))) none) none))) none))) none))) none) none))) none) none))) none))) none))) none) none) (some [(.one (.s .guest s4.2.2.1)),(.one (.i .i64 s4.1))]))) (a1,(0,(a0,()))))
def zuL:FuncId->Nat->Option Tmpl:=zB [(74,0,{ n:=131,tm:=[(0,.sl 0 []),(1,.i .i64),(5,.i .i64)],lo:=[],ro:=[(0,.guest,true)] })]
theorem zIf (N:Nat)(a0:List Guest)(a1:Int):zl6 (cQ zkg zQ5 zK zO) zuL N 12 74 .guest a0 a1=znz N a0 a1:=by kernel_rfl
theorem zFD (a0:List Guest)(a1:Int)(hb:CVB big (.s .guest a0))(hc:zj1 a0 a1=true):∃N,znz N a0 a1=some [.one (.s .guest (zj0 a0 a1)),.one (.i .i64 (zdp a0 a1))]:=by
 obtain ⟨h0,h1⟩:=zJ.1 hc;have hl:=hb.len;refine ⟨NN,?_⟩;have hNN:∀{n:Nat},n<=big->n<NN:=fun h=>zb8 h;generalize NN=N at hNN ⊢;unfold znz;exact zg4 zgI _ (fun k L=>some [AV.one (.s .guest L),AV.one (.i .i64 k)]) (fun i L hi k rec h0 h1 hL=>by
  have hw:=zbf hi hL;generalize hx:L[i]=x at h1 ⊢;have hix:∀d,ix L (i:Int) d=x:=fun d=>(zbq hi d).trans hx;simp only [zfC,mkB] at h1;have hn0:=zbZ zkK.nn x.Prog;have hn1:=zbZ zcv.nn x.Written;have hn2:=zbZ zcv.nn x.Live;have hn3:=zbZ zet.nn x.Seen;have he0:=zbO zkK.nx x.Prog (k);have he1:=zbO zcv.nx x.Written (enL zcF x.Prog (k)+1+1);have he2:=zbO zcv.nx x.Live (enL zbc x.Written (enL zcF x.Prog (k)+1+1));have he3:=zbO zet.nx x.Seen (enL zbc x.Live (enL zbc x.Written (enL zcF x.Prog (k)+1+1))+1+1+1+1+1+1+1+1+1);have c0:zmv x.Prog (k)=true:=zU ⟨by omega,by unfold mkB;omega⟩
  have c1:zd0 x.Written (enL zcF x.Prog (k)+1+1)=true:=zU ⟨by omega,by unfold mkB;omega⟩
  have c2:zd0 x.Live (enL zbc x.Written (enL zcF x.Prog (k)+1+1))=true:=zU ⟨by omega,by unfold mkB;omega⟩
  have c3:zfA x.Seen (enL zbc x.Live (enL zbc x.Written (enL zcF x.Prog (k)+1+1))+1+1+1+1+1+1+1+1+1)=true:=zU ⟨by omega,by unfold mkB;omega⟩
  simp (disch:=omega) only [share,zbv hi,zbg hi,zKm hi,hix,hw,zno,ztf,zxA hi,set_set,zeF,zhw,cT,c0,zmu,zcd,c1,zev,zbb,c2,c3,zfz,zdq];rfl
  ) (fun L k rec=>by simp only [zbj,cF]) a0 a1 N hl h0 h1 (hNN hl)
theorem zBz:zen Tryz.prog 74 zkj:=by
 refine zd5 (zdF zfa zCF zu zy) (zC (by kernel_rfl)) ?_
 intro t l k c' k' hr h;obtain ⟨W,v,S,hrep⟩:=hr;have hb:=CVB.of_rep hrep;unfold zkj at h;split at h
 ·rename_i t2 l2 heq;cases heq;simp only [Option.some.injEq,Prod.mk.injEq] at h;obtain ⟨hc,rfl,rfl⟩:=h;obtain ⟨N,hN⟩:=zFD _ _ hb hc;exact ⟨zuL,N,12,(zIf N _ _).trans hN⟩
 ·cases h
def zZz:zEn:=[(27,zk7),(75,zk8),(74,zkj)]++zQ5
theorem zVg:∀f run,zx zZz f=some run->zen Tryz.prog f run:=zFI zCF (by
 intro x hx;simp only [List.mem_cons,List.not_mem_nil,or_false] at hx;rcases hx with rfl|rfl|rfl
 ·exact zDa
 ·exact zDb
 ·exact zBz)
def zhH (l:List Mon)(k:Int):Bool:=pc (0<=k/\k+mcL zjx l<=mkB)
def zjw (l:List Mon)(k:Int):List Mon:=mkL zPz zFK l k
def zbX (l:List Mon)(k:Int):Int:=enL zFK l k
def zmD:CV->Int->Option (Bool×CV×Int)
 | .s .mon l,k=>some (zhH l k,.s .mon (zjw l k),zbX l k)
 | _,_=>none
def zsu (N:Nat)(a0:List Mon)(a1:Int):Option Ans :=
 (iter (σ:=(Int×(Int×((List Mon)×Unit)))) N (fun r3 s4=>(cond (ilt s4.2.1 (ln s4.2.2.1)) (cond (inb s4.2.1 (ln s4.2.2.1)) (cond (zd0 (ix s4.2.2.1 s4.2.1 zf).Outer s4.1) (share (up s4.2.2.1 s4.2.1 ({ (ix s4.2.2.1 s4.2.1 zf) with Outer:=(zev (ix s4.2.2.1 s4.2.1 zf).Outer s4.1) }:Mon)) (fun x5=>(cond (inb s4.2.1 (ln x5)) (cond (zeY (ix x5 s4.2.1 zf).Out (zbb (ix s4.2.2.1 s4.2.1 zf).Outer s4.1)) (share (up x5 s4.2.1 ({ (ix x5 s4.2.1 zf) with Out:=(zfR (ix x5 s4.2.1 zf).Out (zbb (ix s4.2.2.1 s4.2.1 zf).Outer s4.1)) }:Mon)) (fun x6=>(cond (inb s4.2.1 (ln x6)) (cond (zgQ (ix x6 s4.2.1 zf).Dirty (zX (ix x5 s4.2.1 zf).Out (zbb (ix s4.2.2.1 s4.2.1 zf).Outer s4.1))) (share (up x6 s4.2.1 ({ (ix x6 s4.2.1 zf) with Dirty:=(zgP (ix x6 s4.2.1 zf).Dirty (zX (ix x5 s4.2.1 zf).Out (zbb (ix s4.2.2.1 s4.2.1 zf).Outer s4.1))) }:Mon)) (fun x7=>(cond (inb s4.2.1 (ln x7)) (cond (zj1 (ix x7 s4.2.1 zf).Guests (zco (ix x6 s4.2.1 zf).Dirty (zX (ix x5 s4.2.1 zf).Out (zbb (ix s4.2.2.1 s4.2.1 zf).Outer s4.1)))) (share (up x7 s4.2.1 ({ (ix x7 s4.2.1 zf) with Guests:=(zj0 (ix x7 s4.2.1 zf).Guests (zco (ix x6 s4.2.1 zf).Dirty (zX (ix x5 s4.2.1 zf).Out (zbb (ix s4.2.2.1 s4.2.1 zf).Outer s4.1)))) }:Mon)) (fun x8=>(cond (inb s4.2.1 (ln x8)) (cond (zfA (ix x8 s4.2.1 zf).Outs (zdp (ix x7 s4.2.1 zf).Guests (zco (ix x6 s4.2.1 zf).Dirty (zX (ix x5 s4.2.1 zf).Out (zbb (ix s4.2.2.1 s4.2.1 zf).Outer s4.1))))) (share (up x8 s4.2.1 ({ (ix x8 s4.2.1 zf) with Outs:=(zfz (ix x8 s4.2.1 zf).Outs (zdp (ix x7 s4.2.1 zf).Guests (zco (ix x6 s4.2.1 zf).Dirty (zX (ix x5 s4.2.1 zf).Out (zbb (ix s4.2.2.1 s4.2.1 zf).Outer s4.1))))) }:Mon)) (fun x9=>(cond (inb s4.2.1 (ln x9)) (share (up x9 s4.2.1 ({ (ix x9 s4.2.1 zf) with Pending:=(zdq (ix x8 s4.2.1 zf).Outs (zdp (ix x7 s4.2.1 zf).Guests (zco (ix x6 s4.2.1 zf).Dirty (zX (ix x5 s4.2.1 zf).Out (zbb (ix s4.2.2.1 s4.2.1 zf).Outer s4.1))))) }:Mon)) (fun x10=>(cond (inb s4.2.1 (ln x10)) (share (up x10 s4.2.1 ({ (ix x10 s4.2.1 zf) with Traps:=(zq .i64 (zdq (ix x8 s4.2.1 zf).Outs (zdp (ix x7 s4.2.1 zf).Guests (zco (ix x6 s4.2.1 zf).Dirty (zX (ix x5 s4.2.1 zf).Out (zbb (ix s4.2.2.1 s4.2.1 zf).Outer s4.1))))) 1) }:Mon)) (fun x11=>(cond (inb s4.2.1 (ln x11)) (cond (zkR (ix x11 s4.2.1 zf).Tables (zq .i64 (zq .i64 (zdq (ix x8 s4.2.1 zf).Outs (zdp (ix x7 s4.2.1 zf).Guests (zco (ix x6 s4.2.1 zf).Dirty (zX (ix x5 s4.2.1 zf).Out (zbb (ix s4.2.2.1 s4.2.1 zf).Outer s4.1))))) 1) 1)) (share (up x11 s4.2.1 ({ (ix x11 s4.2.1 zf) with Tables:=(zkQ (ix x11 s4.2.1 zf).Tables (zq .i64 (zq .i64 (zdq (ix x8 s4.2.1 zf).Outs (zdp (ix x7 s4.2.1 zf).Guests (zco (ix x6 s4.2.1 zf).Dirty (zX (ix x5 s4.2.1 zf).Out (zbb (ix s4.2.2.1 s4.2.1 zf).Outer s4.1))))) 1) 1)) }:Mon)) (fun x12=>(cond (inb s4.2.1 (ln x12)) (share (up x12 s4.2.1 ({ (ix x12 s4.2.1 zf) with Own:=(zin (ix x11 s4.2.1 zf).Tables (zq .i64 (zq .i64 (zdq (ix x8 s4.2.1 zf).Outs (zdp (ix x7 s4.2.1 zf).Guests (zco (ix x6 s4.2.1 zf).Dirty (zX (ix x5 s4.2.1 zf).Out (zbb (ix s4.2.2.1 s4.2.1 zf).Outer s4.1))))) 1) 1)) }:Mon)) (fun x13=>(r3 ((zq .i64 (zin (ix x11 s4.2.1 zf).Tables (zq .i64 (zq .i64 (zdq (ix x8 s4.2.1 zf).Outs (zdp (ix x7 s4.2.1 zf).Guests (zco (ix x6 s4.2.1 zf).Dirty (zX (ix x5 s4.2.1 zf).Out (zbb (ix s4.2.2.1 s4.2.1 zf).Outer s4.1))))) 1) 1)) 1),((zq .i64 s4.2.1 1),(x13,())))))) none))) none) none))) none))) none))) none) none))) none) none))) none) none))) none) none))) none) none) (some [(.one (.s .mon s4.2.2.1)),(.one (.i .i64 s4.1))]))) (a1,(0,(a0,()))))
def zxW:FuncId->Nat->Option Tmpl:=zB [(28,0,{ n:=76,tm:=[(0,.sl 0 []),(1,.i .i64),(5,.i .i64)],lo:=[],ro:=[(0,.mon,true)] })]
theorem zN3 (N:Nat)(a0:List Mon)(a1:Int):zl6 (cQ zkg zZz zK zO) zxW N 12 28 .mon a0 a1=zsu N a0 a1:=by kernel_rfl
theorem zKO (a0:List Mon)(a1:Int)(hb:CVB big (.s .mon a0))(hc:zhH a0 a1=true):∃N,zsu N a0 a1=some [.one (.s .mon (zjw a0 a1)),.one (.i .i64 (zbX a0 a1))]:=by
 obtain ⟨h0,h1⟩:=zJ.1 hc;have hl:=hb.len;refine ⟨NN,?_⟩;have hNN:∀{n:Nat},n<=big->n<NN:=fun h=>zb8 h;generalize NN=N at hNN ⊢;unfold zsu;exact zg4 zCd _ (fun k L=>some [AV.one (.s .mon L),AV.one (.i .i64 k)]) (fun i L hi k rec h0 h1 hL=>by
  have hw:=zbf hi hL;generalize hx:L[i]=x at h1 ⊢;have hix:∀d,ix L (i:Int) d=x:=fun d=>(zbq hi d).trans hx;simp only [zjx,mkB] at h1;have hn0:=zbZ zcv.nn x.Outer;have hn1:=zbZ zfV.nn x.Out;have hn2:=zbZ zd9.nn x.Dirty;have hn3:=zbZ zgI.nn x.Guests;have hn4:=zbZ zet.nn x.Outs;have hn5:=zbZ zii.nn x.Tables;have he0:=zbO zcv.nx x.Outer (k);have he1:=zbO zfV.nx x.Out (enL zbc x.Outer (k));have he2:=zbO zd9.nx x.Dirty (enL zcC x.Out (enL zbc x.Outer (k)));have he3:=zbO zgI.nx x.Guests (enL zcm x.Dirty (enL zcC x.Out (enL zbc x.Outer (k))));have he4:=zbO zet.nx x.Outs (enL zcQ x.Guests (enL zcm x.Dirty (enL zcC x.Out (enL zbc x.Outer (k)))));have he5:=zbO zii.nx x.Tables (enL zeO x.Outs (enL zcQ x.Guests (enL zcm x.Dirty (enL zcC x.Out (enL zbc x.Outer (k)))))+1+1);have c0:zd0 x.Outer (k)=true:=zU ⟨by omega,by unfold mkB;omega⟩
  have c1:zeY x.Out (enL zbc x.Outer (k))=true:=zU ⟨by omega,by unfold mkB;omega⟩
  have c2:zgQ x.Dirty (enL zcC x.Out (enL zbc x.Outer (k)))=true:=zU ⟨by omega,by unfold mkB;omega⟩
  have c3:zj1 x.Guests (enL zcm x.Dirty (enL zcC x.Out (enL zbc x.Outer (k))))=true:=zU ⟨by omega,by unfold mkB;omega⟩
  have c4:zfA x.Outs (enL zcQ x.Guests (enL zcm x.Dirty (enL zcC x.Out (enL zbc x.Outer (k)))))=true:=zU ⟨by omega,by unfold mkB;omega⟩
  have c5:zkR x.Tables (enL zeO x.Outs (enL zcQ x.Guests (enL zcm x.Dirty (enL zcC x.Out (enL zbc x.Outer (k)))))+1+1)=true:=zU ⟨by omega,by unfold mkB;omega⟩
  simp (disch:=omega) only [share,zbv hi,zbg hi,zKm hi,hix,hw,zno,ztf,zxA hi,set_set,zeF,zhw,cT,c0,zev,zbb,c1,zfR,zX,c2,zgP,zco,c3,zj0,zdp,c4,zfz,zdq,c5,zkQ,zin];rfl
  ) (fun L k rec=>by simp only [zbj,cF]) a0 a1 N hl h0 h1 (hNN hl)
theorem zE7:zen Tryz.prog 28 zmD:=by
 refine zd5 (zdF zfa zVg zu zy) (zC (by kernel_rfl)) ?_
 intro t l k c' k' hr h;obtain ⟨W,v,S,hrep⟩:=hr;have hb:=CVB.of_rep hrep;unfold zmD at h;split at h
 ·rename_i t2 l2 heq;cases heq;simp only [Option.some.injEq,Prod.mk.injEq] at h;obtain ⟨hc,rfl,rfl⟩:=h;obtain ⟨N,hN⟩:=zKO _ _ hb hc;exact ⟨zxW,N,12,(zN3 N _ _).trans hN⟩
 ·cases h
def zV:zEn:=[(28,zmD)]++zZz
theorem zD:∀f run,zx zV f=some run->zen Tryz.prog f run:=zFI zVg (by
 intro x hx;simp only [List.mem_cons,List.not_mem_nil,or_false] at hx;rcases hx with rfl
 ·exact zE7)
def zfy (l:List Int)(k:Int):Bool:=pc (mkL zzi zeO l k=l/\0<=k/\k+mcL zkh l<=mkB)
def zdi (l:List Int)(k:Int):Int:=enL zeO l k
def zob:List AV->Option (Bool×List AV)
 | [.one (.s .int b),.one (.i .i64 c)]=>some ((zfy b c),[.one (.i .i64 (zdi b c))])
 | _=>none
def zsq (N:Nat)(a0:List Int)(a1:Int):Option Ans :=
 (iter (σ:=(Int×(Int×((List Int)×Unit)))) N (fun r3 s4=>(cond (ilt s4.2.1 (ln s4.2.2.1)) (cond (inb s4.2.1 (ln s4.2.2.1)) (cond (ine (ix s4.2.2.1 s4.2.1 0) s4.1) (some [(.one (.i .i64 (-1)))]) (r3 ((zq .i64 s4.1 1),((zq .i64 s4.2.1 1),(s4.2.2.1,()))))) none) (some [(.one (.i .i64 s4.1))]))) (a1,(0,(a0,()))))
def zLL:FuncId->Nat->Option Tmpl:=zB [(76,0,{ n:=21,tm:=[(0,.sl 0 []),(1,.i .i64),(5,.i .i64)],lo:=[],ro:=[(0,.int,false)] })]
theorem zNZ (N:Nat)(a0:List Int)(a1:Int):evalFn (cQ zkg zV zK zO) zLL N 12 76 [.one (.s .int a0),.one (.i .i64 a1)]=zsq N a0 a1:=by kernel_rfl
theorem zKK (a0:List Int)(a1:Int)(hb:zG big [.one (.s .int a0),.one (.i .i64 a1)])(hc:(zfy a0 a1)=true):∃N,zsq N a0 a1=some [.one (.i .i64 (zdi a0 a1))]:=by
 obtain ⟨he,h0,h1⟩:=zJ.1 hc;have hl:=((zbu hb).1 _ (List.mem_singleton.2 rfl)).len;refine ⟨NN,?_⟩;have hNN:∀{n:Nat},n<=big->n<NN:=fun h=>zb8 h;generalize NN=N at hNN ⊢;unfold zsq;exact zg3 zet a0 _ (fun k=>some [AV.one (.i .i64 k)]) (fun i hi k rec he h0 h1=>by
  have hw:=zbf hi hl;have hix:∀d,ix a0 (i:Int) d=a0[i]:=fun d=>zbq hi d;generalize a0[i]=x at he h1 hix ⊢;simp only [zkh,mkB] at h1;rw [<- he] at hix;simp (disch:=omega) only [zbv hi,zbg hi,hix,zzi,hw,zeF,zhw,zb2,zcj,cT,cF];rfl
  ) (fun k rec=>by simp only [zbj,cF]) a1 N he h0 h1 (hNN hl)
theorem zE3:Holds Tryz.prog 76 zob:=zo zfa zD zu zy (zC (by kernel_rfl)) fun avs rs hb h=>by
 unfold zob at h;split at h
 ·obtain ⟨hc,rfl⟩:=zl h;exact (fin2 zKK zNZ hc hb :)
 ·cases h
def zgN (l:List Bool)(k:Int):Bool:=pc (mkL zuT zcm l k=l/\0<=k/\k+mcL zi0 l<=mkB)
def zcB (l:List Bool)(k:Int):Int:=enL zcm l k
def zmQ:List AV->Option (Bool×List AV)
 | [.one (.s .bool b),.one (.i .i64 c)]=>some ((zgN b c),[.one (.i .i64 (zcB b c))])
 | _=>none
def zpL (N:Nat)(a0:List Bool)(a1:Int):Option Ans :=
 (iter (σ:=(Int×(Int×((List Bool)×Unit)))) N (fun r3 s4=>(cond (ilt s4.2.1 (ln s4.2.2.1)) (cond (inb s4.2.1 (ln s4.2.2.1)) (cond (ine 3 0) (cond (cond (zhh (ix s4.2.2.1 s4.2.1 false) (ieq (zfH s4.1 3) 0)) false true) (some [(.one (.i .i64 (-1)))]) (r3 ((zq .i64 s4.1 1),((zq .i64 s4.2.1 1),(s4.2.2.1,()))))) none) none) (some [(.one (.i .i64 s4.1))]))) (a1,(0,(a0,()))))
def zIJ:FuncId->Nat->Option Tmpl:=zB [(78,0,{ n:=23,tm:=[(0,.sl 0 []),(1,.i .i64),(5,.i .i64)],lo:=[],ro:=[(0,.bool,false)] })]
theorem zLf (N:Nat)(a0:List Bool)(a1:Int):evalFn (cQ zkg zV zK zO) zIJ N 12 78 [.one (.s .bool a0),.one (.i .i64 a1)]=zpL N a0 a1:=by kernel_rfl
theorem zHP (a0:List Bool)(a1:Int)(hb:zG big [.one (.s .bool a0),.one (.i .i64 a1)])(hc:(zgN a0 a1)=true):∃N,zpL N a0 a1=some [.one (.i .i64 (zcB a0 a1))]:=by
 obtain ⟨he,h0,h1⟩:=zJ.1 hc;have hl:=((zbu hb).1 _ (List.mem_singleton.2 rfl)).len;refine ⟨NN,?_⟩;have hNN:∀{n:Nat},n<=big->n<NN:=fun h=>zb8 h;generalize NN=N at hNN ⊢;unfold zpL;exact zg3 zd9 a0 _ (fun k=>some [AV.one (.i .i64 k)]) (fun i hi k rec he h0 h1=>by
  have hw:=zbf hi hl;have hix:∀d,ix a0 (i:Int) d=a0[i]:=fun d=>zbq hi d;generalize a0[i]=x at he h1 hix ⊢;simp only [zi0,mkB] at h1;rw [<- he] at hix;simp (disch:=omega) only [zbv hi,zbg hi,hix,zuT,hw,zeF,zhw,zb2,zcj,cT,cF];rfl
  ) (fun k rec=>by simp only [zbj,cF]) a1 N he h0 h1 (hNN hl)
theorem zC5:Holds Tryz.prog 78 zmQ:=zo zfa zD zu zy (zC (by kernel_rfl)) fun avs rs hb h=>by
 unfold zmQ at h;split at h
 ·obtain ⟨hc,rfl⟩:=zl h;exact (fin2 zHP zLf hc hb :)
 ·cases h
def zdZ (l:List Slot)(k:Int):Bool:=pc (mkL zl7 zbc l k=l/\0<=k/\k+mcL zf4 l<=mkB)
def zbh (l:List Slot)(k:Int):Int:=enL zbc l k
def zmT:List AV->Option (Bool×List AV)
 | [.one (.s .slot b),.one (.i .i64 c)]=>some ((zdZ b c),[.one (.i .i64 (zbh b c))])
 | _=>none
def zpO (N:Nat)(a0:List Slot)(a1:Int):Option Ans :=
 (iter (σ:=(Int×(Int×((List Slot)×Unit)))) N (fun r3 s4=>(cond (ilt s4.2.1 (ln s4.2.2.1)) (cond (inb s4.2.1 (ln s4.2.2.1)) (cond (ine (ix s4.2.2.1 s4.2.1 zQ).Page s4.1) (some [(.one (.i .i64 (-1)))]) (cond (inb s4.2.1 (ln s4.2.2.1)) (cond (ine (ix s4.2.2.1 s4.2.1 zQ).Rights (zq .i64 s4.1 1)) (some [(.one (.i .i64 (-1)))]) (r3 ((zq .i64 (zq .i64 s4.1 1) 1),((zq .i64 s4.2.1 1),(s4.2.2.1,()))))) none)) none) (some [(.one (.i .i64 s4.1))]))) (a1,(0,(a0,()))))
def zIM:FuncId->Nat->Option Tmpl:=zB [(77,0,{ n:=31,tm:=[(0,.sl 0 []),(1,.i .i64),(5,.i .i64)],lo:=[],ro:=[(0,.slot,false)] })]
theorem zLi (N:Nat)(a0:List Slot)(a1:Int):evalFn (cQ zkg zV zK zO) zIM N 12 77 [.one (.s .slot a0),.one (.i .i64 a1)]=zpO N a0 a1:=by kernel_rfl
theorem zHS (a0:List Slot)(a1:Int)(hb:zG big [.one (.s .slot a0),.one (.i .i64 a1)])(hc:(zdZ a0 a1)=true):∃N,zpO N a0 a1=some [.one (.i .i64 (zbh a0 a1))]:=by
 obtain ⟨he,h0,h1⟩:=zJ.1 hc;have hl:=((zbu hb).1 _ (List.mem_singleton.2 rfl)).len;refine ⟨NN,?_⟩;have hNN:∀{n:Nat},n<=big->n<NN:=fun h=>zb8 h;generalize NN=N at hNN ⊢;unfold zpO;exact zg3 zcv a0 _ (fun k=>some [AV.one (.i .i64 k)]) (fun i hi k rec he h0 h1=>by
  have hw:=zbf hi hl;have hix:∀d,ix a0 (i:Int) d=a0[i]:=fun d=>zbq hi d;generalize a0[i]=x at he h1 hix ⊢;simp only [zf4,mkB] at h1;have v_Page:x.Page=k:=(congrArg (fun (z:Slot)=>z.Page) he).symm;have v_Rights:x.Rights=k+1:=(congrArg (fun (z:Slot)=>z.Rights) he).symm;simp (disch:=omega) only [zbv hi,zbg hi,hix,hw,v_Page,v_Rights,zeF,zhw,zb2,zcj,cT,cF];rfl
  ) (fun k rec=>by simp only [zbj,cF]) a1 N he h0 h1 (hNN hl)
theorem zC8:Holds Tryz.prog 77 zmT:=zo zfa zD zu zy (zC (by kernel_rfl)) fun avs rs hb h=>by
 unfold zmT at h;split at h
 ·obtain ⟨hc,rfl⟩:=zl h;exact (fin2 zHS zLi hc hb :)
 ·cases h
def zms (l:List Ins)(k:Int):Bool:=pc (mkL zPy zcF l k=l/\0<=k/\k+mcL znP l<=mkB)
def zcu (l:List Ins)(k:Int):Int:=enL zcF l k
def zoa:List AV->Option (Bool×List AV)
 | [.one (.s .ins b),.one (.i .i64 c)]=>some ((zms b c),[.one (.i .i64 (zcu b c))])
 | _=>none
def zsp (N:Nat)(a0:List Ins)(a1:Int):Option Ans :=
 (iter (σ:=(Int×(Int×((List Ins)×Unit)))) N (fun r3 s4=>(cond (ilt s4.2.1 (ln s4.2.2.1)) (cond (inb s4.2.1 (ln s4.2.2.1)) (cond (ine (ix s4.2.2.1 s4.2.1 zfs).Op s4.1) (some [(.one (.i .i64 (-1)))]) (cond (inb s4.2.1 (ln s4.2.2.1)) (cond (ine (ix s4.2.2.1 s4.2.1 zfs).X (zq .i64 s4.1 1)) (some [(.one (.i .i64 (-1)))]) (r3 ((zq .i64 (zq .i64 s4.1 1) 1),((zq .i64 s4.2.1 1),(s4.2.2.1,()))))) none)) none) (some [(.one (.i .i64 s4.1))]))) (a1,(0,(a0,()))))
def zLK:FuncId->Nat->Option Tmpl:=zB [(148,0,{ n:=31,tm:=[(0,.sl 0 []),(1,.i .i64),(5,.i .i64)],lo:=[],ro:=[(0,.ins,false)] })]
theorem zNY (N:Nat)(a0:List Ins)(a1:Int):evalFn (cQ zkg zV zK zO) zLK N 12 148 [.one (.s .ins a0),.one (.i .i64 a1)]=zsp N a0 a1:=by kernel_rfl
theorem zKJ (a0:List Ins)(a1:Int)(hb:zG big [.one (.s .ins a0),.one (.i .i64 a1)])(hc:(zms a0 a1)=true):∃N,zsp N a0 a1=some [.one (.i .i64 (zcu a0 a1))]:=by
 obtain ⟨he,h0,h1⟩:=zJ.1 hc;have hl:=((zbu hb).1 _ (List.mem_singleton.2 rfl)).len;refine ⟨NN,?_⟩;have hNN:∀{n:Nat},n<=big->n<NN:=fun h=>zb8 h;generalize NN=N at hNN ⊢;unfold zsp;exact zg3 zkK a0 _ (fun k=>some [AV.one (.i .i64 k)]) (fun i hi k rec he h0 h1=>by
  have hw:=zbf hi hl;have hix:∀d,ix a0 (i:Int) d=a0[i]:=fun d=>zbq hi d;generalize a0[i]=x at he h1 hix ⊢;simp only [znP,mkB] at h1;have v_Op:x.Op=k:=(congrArg (fun (z:Ins)=>z.Op) he).symm;have v_X:x.X=k+1:=(congrArg (fun (z:Ins)=>z.X) he).symm;simp (disch:=omega) only [zbv hi,zbg hi,hix,hw,v_Op,v_X,zeF,zhw,zb2,zcj,cT,cF];rfl
  ) (fun k rec=>by simp only [zbj,cF]) a1 N he h0 h1 (hNN hl)
theorem zE2:Holds Tryz.prog 148 zoa:=zo zfa zD zu zy (zC (by kernel_rfl)) fun avs rs hb h=>by
 unfold zoa at h;split at h
 ·obtain ⟨hc,rfl⟩:=zl h;exact (fin2 zKJ zNY hc hb :)
 ·cases h
def zgo (l:List Entry)(k:Int):Bool:=pc (mkL zPx zxK l k=l/\0<=k/\k+mcL zgx l<=mkB)
def zcK (l:List Entry)(k:Int):Int:=enL zxK l k
def zlf:List AV->Option (Bool×List AV)
 | [.one (.s .entry b),.one (.i .i64 c)]=>some ((zgo b c),[.one (.i .i64 (zcK b c))])
 | _=>none
def znw (N:Nat)(a0:List Entry)(a1:Int):Option Ans :=
 (iter (σ:=(Int×(Int×((List Entry)×Unit)))) N (fun r3 s4=>(cond (ilt s4.2.1 (ln s4.2.2.1)) (cond (inb s4.2.1 (ln s4.2.2.1)) (cond (ine (ix s4.2.2.1 s4.2.1 zbz).Tag s4.1) (some [(.one (.i .i64 (-1)))]) (cond (inb s4.2.1 (ln s4.2.2.1)) (cond (ine (ix s4.2.2.1 s4.2.1 zbz).Page (zq .i64 s4.1 1)) (some [(.one (.i .i64 (-1)))]) (cond (inb s4.2.1 (ln s4.2.2.1)) (cond (ine (ix s4.2.2.1 s4.2.1 zbz).Host (zq .i64 (zq .i64 s4.1 1) 1)) (some [(.one (.i .i64 (-1)))]) (cond (inb s4.2.1 (ln s4.2.2.1)) (cond (ine (ix s4.2.2.1 s4.2.1 zbz).Rights (zq .i64 (zq .i64 (zq .i64 s4.1 1) 1) 1)) (some [(.one (.i .i64 (-1)))]) (r3 ((zq .i64 (zq .i64 (zq .i64 (zq .i64 s4.1 1) 1) 1) 1),((zq .i64 s4.2.1 1),(s4.2.2.1,()))))) none)) none)) none)) none) (some [(.one (.i .i64 s4.1))]))) (a1,(0,(a0,()))))
def zF7:FuncId->Nat->Option Tmpl:=zB [(32,0,{ n:=49,tm:=[(0,.sl 0 []),(1,.i .i64),(5,.i .i64)],lo:=[],ro:=[(0,.entry,false)] })]
theorem zIc (N:Nat)(a0:List Entry)(a1:Int):evalFn (cQ zkg zV zK zO) zF7 N 12 32 [.one (.s .entry a0),.one (.i .i64 a1)]=znw N a0 a1:=by kernel_rfl
theorem zFA (a0:List Entry)(a1:Int)(hb:zG big [.one (.s .entry a0),.one (.i .i64 a1)])(hc:(zgo a0 a1)=true):∃N,znw N a0 a1=some [.one (.i .i64 (zcK a0 a1))]:=by
 obtain ⟨he,h0,h1⟩:=zJ.1 hc;have hl:=((zbu hb).1 _ (List.mem_singleton.2 rfl)).len;refine ⟨NN,?_⟩;have hNN:∀{n:Nat},n<=big->n<NN:=fun h=>zb8 h;generalize NN=N at hNN ⊢;unfold znw;exact zg3 zix a0 _ (fun k=>some [AV.one (.i .i64 k)]) (fun i hi k rec he h0 h1=>by
  have hw:=zbf hi hl;have hix:∀d,ix a0 (i:Int) d=a0[i]:=fun d=>zbq hi d;generalize a0[i]=x at he h1 hix ⊢;simp only [zgx,mkB] at h1;have v_Tag:x.Tag=k:=(congrArg (fun (z:Entry)=>z.Tag) he).symm;have v_Page:x.Page=k+1:=(congrArg (fun (z:Entry)=>z.Page) he).symm;have v_Host:x.Host=k+1+1:=(congrArg (fun (z:Entry)=>z.Host) he).symm;have v_Rights:x.Rights=k+1+1+1:=(congrArg (fun (z:Entry)=>z.Rights) he).symm;simp (disch:=omega) only [zbv hi,zbg hi,hix,hw,v_Tag,v_Page,v_Host,v_Rights,zeF,zhw,zb2,zcj,cT,cF];rfl
  ) (fun k rec=>by simp only [zbj,cF]) a1 N he h0 h1 (hNN hl)
theorem zBw:Holds Tryz.prog 32 zlf:=zo zfa zD zu zy (zC (by kernel_rfl)) fun avs rs hb h=>by
 unfold zlf at h;split at h
 ·obtain ⟨hc,rfl⟩:=zl h;exact (fin2 zFA zIc hc hb :)
 ·cases h
def zGp:zbQ:=[(76,zob),(78,zmQ),(77,zmT),(148,zoa),(32,zlf)]++zkg
theorem zzc:zbw zGp:=zn zE3 (zn zC5 (zn zC8 (zn zE2 (zn zBw zfa))))
def zgO (l:List (List Int))(k:Int):Bool:=pc (mkL zGt zcC l k=l/\0<=k/\k+mcL zh9 l<=mkB)
def zbM (l:List (List Int))(k:Int):Int:=enL zcC l k
def zmR:List AV->Option (Bool×List AV)
 | [.one (.s (.sl .int) b),.one (.i .i64 c)]=>some ((zgO b c),[.one (.i .i64 (zbM b c))])
 | _=>none
def zpM (N:Nat)(a0:List (List Int))(a1:Int):Option Ans :=
 (iter (σ:=(Int×(Int×((List (List Int))×Unit)))) N (fun r3 s4=>(cond (ilt s4.2.1 (ln s4.2.2.1)) (cond (inb s4.2.1 (ln s4.2.2.1)) (cond (zfy (ix s4.2.2.1 s4.2.1 []) s4.1) (cond (ilt (zdi (ix s4.2.2.1 s4.2.1 []) s4.1) 0) (some [(.one (.i .i64 (-1)))]) (r3 ((zdi (ix s4.2.2.1 s4.2.1 []) s4.1),((zq .i64 s4.2.1 1),(s4.2.2.1,()))))) none) none) (some [(.one (.i .i64 s4.1))]))) (a1,(0,(a0,()))))
def zIK:FuncId->Nat->Option Tmpl:=zB [(30,0,{ n:=21,tm:=[(0,.sl 0 []),(1,.i .i64),(5,.i .i64)],lo:=[],ro:=[(0,(.sl .int),false)] })]
theorem zLg (N:Nat)(a0:List (List Int))(a1:Int):evalFn (cQ zGp zV zK zO) zIK N 12 30 [.one (.s (.sl .int) a0),.one (.i .i64 a1)]=zpM N a0 a1:=by kernel_rfl
theorem zHQ (a0:List (List Int))(a1:Int)(hb:zG big [.one (.s (.sl .int) a0),.one (.i .i64 a1)])(hc:(zgO a0 a1)=true):∃N,zpM N a0 a1=some [.one (.i .i64 (zbM a0 a1))]:=by
 obtain ⟨he,h0,h1⟩:=zJ.1 hc;have hl:=((zbu hb).1 _ (List.mem_singleton.2 rfl)).len;refine ⟨NN,?_⟩;have hNN:∀{n:Nat},n<=big->n<NN:=fun h=>zb8 h;generalize NN=N at hNN ⊢;unfold zpM;exact zg3 zfV a0 _ (fun k=>some [AV.one (.i .i64 k)]) (fun i hi k rec he h0 h1=>by
  have hw:=zbf hi hl;have hix:∀d,ix a0 (i:Int) d=a0[i]:=fun d=>zbq hi d;generalize a0[i]=x at he h1 hix ⊢;have c1:zfy x k=true:=zU ⟨he,h0,h1⟩;have c2:ilt (enL zeO x k) 0=false:=zeA (by rw [zbO zet.nx];have:=zbZ zet.nn x;omega)
  simp only [zbv hi,zbg hi,hix,c1,zdi,c2,hw,cT,cF];rfl
  ) (fun k rec=>by simp only [zbj,cF]) a1 N he h0 h1 (hNN hl)
theorem zC6:Holds Tryz.prog 30 zmR:=zo zzc zD zu zy (zC (by kernel_rfl)) fun avs rs hb h=>by
 unfold zmR at h;split at h
 ·obtain ⟨hc,rfl⟩:=zl h;exact (fin2 zHQ zLg hc hb :)
 ·cases h
def zkP (l:List Kept)(k:Int):Bool:=pc (mkL zzj zj5 l k=l/\0<=k/\k+mcL zg9 l<=mkB)
def ziI (l:List Kept)(k:Int):Int:=enL zj5 l k
def zmS:List AV->Option (Bool×List AV)
 | [.one (.s .kept b),.one (.i .i64 c)]=>some ((zkP b c),[.one (.i .i64 (ziI b c))])
 | _=>none
def zpN (N:Nat)(a0:List Kept)(a1:Int):Option Ans :=
 (iter (σ:=(Int×(Int×((List Kept)×Unit)))) N (fun r3 s4=>(cond (ilt s4.2.1 (ln s4.2.2.1)) (cond (inb s4.2.1 (ln s4.2.2.1)) (cond (zgN (ix s4.2.2.1 s4.2.1 zbD).Known s4.1) (cond (ilt (zcB (ix s4.2.2.1 s4.2.1 zbD).Known s4.1) 0) (some [(.one (.i .i64 (-1)))]) (cond (inb s4.2.1 (ln s4.2.2.1)) (cond (zdZ (ix s4.2.2.1 s4.2.1 zbD).Slots (zcB (ix s4.2.2.1 s4.2.1 zbD).Known s4.1)) (cond (ilt (zbh (ix s4.2.2.1 s4.2.1 zbD).Slots (zcB (ix s4.2.2.1 s4.2.1 zbD).Known s4.1)) 0) (some [(.one (.i .i64 (-1)))]) (r3 ((zbh (ix s4.2.2.1 s4.2.1 zbD).Slots (zcB (ix s4.2.2.1 s4.2.1 zbD).Known s4.1)),((zq .i64 s4.2.1 1),(s4.2.2.1,()))))) none) none)) none) none) (some [(.one (.i .i64 s4.1))]))) (a1,(0,(a0,()))))
def zIL:FuncId->Nat->Option Tmpl:=zB [(80,0,{ n:=31,tm:=[(0,.sl 0 []),(1,.i .i64),(5,.i .i64)],lo:=[],ro:=[(0,.kept,false)] })]
theorem zLh (N:Nat)(a0:List Kept)(a1:Int):evalFn (cQ zGp zV zK zO) zIL N 12 80 [.one (.s .kept a0),.one (.i .i64 a1)]=zpN N a0 a1:=by kernel_rfl
theorem zHR (a0:List Kept)(a1:Int)(hb:zG big [.one (.s .kept a0),.one (.i .i64 a1)])(hc:(zkP a0 a1)=true):∃N,zpN N a0 a1=some [.one (.i .i64 (ziI a0 a1))]:=by
 obtain ⟨he,h0,h1⟩:=zJ.1 hc;have hl:=((zbu hb).1 _ (List.mem_singleton.2 rfl)).len;refine ⟨NN,?_⟩;have hNN:∀{n:Nat},n<=big->n<NN:=fun h=>zb8 h;generalize NN=N at hNN ⊢;unfold zpN;exact zg3 zii a0 _ (fun k=>some [AV.one (.i .i64 k)]) (fun i hi k rec he h0 h1=>by
  have hw:=zbf hi hl;have hix:∀d,ix a0 (i:Int) d=a0[i]:=fun d=>zbq hi d;generalize a0[i]=x at he h1 hix ⊢;simp only [zg9,mkB] at h1;have hn0:=zbZ zd9.nn x.Known;have hn1:=zbZ zcv.nn x.Slots;have he0:=zbO zd9.nx x.Known (k);have he1:=zbO zcv.nx x.Slots (enL zcm x.Known (k));have w0:mkL zuT zcm x.Known (k)=x.Known:=congrArg (fun (z:Kept)=>z.Known) he;have w1:mkL zl7 zbc x.Slots (enL zcm x.Known (k))=x.Slots:=congrArg (fun (z:Kept)=>z.Slots) he;have c0:zgN x.Known (k)=true:=zU ⟨w0,by omega,by unfold mkB;omega⟩
  have d0:ilt (enL zcm x.Known (k)) 0=false:=zeA (by omega)
  have c1:zdZ x.Slots (enL zcm x.Known (k))=true:=zU ⟨w1,by omega,by unfold mkB;omega⟩
  have d1:ilt (enL zbc x.Slots (enL zcm x.Known (k))) 0=false:=zeA (by omega)
  simp (disch:=omega) only [zbv hi,zbg hi,hix,hw,c0,d0,zcB,c1,d1,zbh,zeF,zhw,zb2,zcj,cT,cF];rfl
  ) (fun k rec=>by simp only [zbj,cF]) a1 N he h0 h1 (hNN hl)
theorem zC7:Holds Tryz.prog 80 zmS:=zo zzc zD zu zy (zC (by kernel_rfl)) fun avs rs hb h=>by
 unfold zmS at h;split at h
 ·obtain ⟨hc,rfl⟩:=zl h;exact (fin2 zHR zLh hc hb :)
 ·cases h
def zjZ (l:List Guest)(k:Int):Bool:=pc (mkL zsP zcQ l k=l/\0<=k/\k+mcL zfC l<=mkB)
def zdD (l:List Guest)(k:Int):Int:=enL zcQ l k
def zlg:List AV->Option (Bool×List AV)
 | [.one (.s .guest b),.one (.i .i64 c)]=>some ((zjZ b c),[.one (.i .i64 (zdD b c))])
 | _=>none
def znx (N:Nat)(a0:List Guest)(a1:Int):Option Ans :=
 (iter (σ:=(Int×(Int×((List Guest)×Unit)))) N (fun r3 s4=>(cond (ilt s4.2.1 (ln s4.2.2.1)) (cond (inb s4.2.1 (ln s4.2.2.1)) (cond (zms (ix s4.2.2.1 s4.2.1 zi).Prog s4.1) (cond (ilt (zcu (ix s4.2.2.1 s4.2.1 zi).Prog s4.1) 0) (some [(.one (.i .i64 (-1)))]) (cond (inb s4.2.1 (ln s4.2.2.1)) (cond (ine (ix s4.2.2.1 s4.2.1 zi).A (zcu (ix s4.2.2.1 s4.2.1 zi).Prog s4.1)) (some [(.one (.i .i64 (-1)))]) (cond (inb s4.2.1 (ln s4.2.2.1)) (cond (ine (ix s4.2.2.1 s4.2.1 zi).Pc (zq .i64 (zcu (ix s4.2.2.1 s4.2.1 zi).Prog s4.1) 1)) (some [(.one (.i .i64 (-1)))]) (cond (inb s4.2.1 (ln s4.2.2.1)) (cond (zdZ (ix s4.2.2.1 s4.2.1 zi).Written (zq .i64 (zq .i64 (zcu (ix s4.2.2.1 s4.2.1 zi).Prog s4.1) 1) 1)) (cond (ilt (zbh (ix s4.2.2.1 s4.2.1 zi).Written (zq .i64 (zq .i64 (zcu (ix s4.2.2.1 s4.2.1 zi).Prog s4.1) 1) 1)) 0) (some [(.one (.i .i64 (-1)))]) (cond (inb s4.2.1 (ln s4.2.2.1)) (cond (zdZ (ix s4.2.2.1 s4.2.1 zi).Live (zbh (ix s4.2.2.1 s4.2.1 zi).Written (zq .i64 (zq .i64 (zcu (ix s4.2.2.1 s4.2.1 zi).Prog s4.1) 1) 1))) (cond (ilt (zbh (ix s4.2.2.1 s4.2.1 zi).Live (zbh (ix s4.2.2.1 s4.2.1 zi).Written (zq .i64 (zq .i64 (zcu (ix s4.2.2.1 s4.2.1 zi).Prog s4.1) 1) 1))) 0) (some [(.one (.i .i64 (-1)))]) (cond (inb s4.2.1 (ln s4.2.2.1)) (cond (ine (ix s4.2.2.1 s4.2.1 zi).Ctl.Traps (zbh (ix s4.2.2.1 s4.2.1 zi).Live (zbh (ix s4.2.2.1 s4.2.1 zi).Written (zq .i64 (zq .i64 (zcu (ix s4.2.2.1 s4.2.1 zi).Prog s4.1) 1) 1)))) (some [(.one (.i .i64 (-1)))]) (cond (inb s4.2.1 (ln s4.2.2.1)) (cond (ine (ix s4.2.2.1 s4.2.1 zi).Ctl.Post (zq .i64 (zbh (ix s4.2.2.1 s4.2.1 zi).Live (zbh (ix s4.2.2.1 s4.2.1 zi).Written (zq .i64 (zq .i64 (zcu (ix s4.2.2.1 s4.2.1 zi).Prog s4.1) 1) 1))) 1)) (some [(.one (.i .i64 (-1)))]) (cond (inb s4.2.1 (ln s4.2.2.1)) (cond (ine 3 0) (cond (cond (zhh (ix s4.2.2.1 s4.2.1 zi).Ctl.Open (ieq (zfH (zq .i64 (zq .i64 (zbh (ix s4.2.2.1 s4.2.1 zi).Live (zbh (ix s4.2.2.1 s4.2.1 zi).Written (zq .i64 (zq .i64 (zcu (ix s4.2.2.1 s4.2.1 zi).Prog s4.1) 1) 1))) 1) 1) 3) 0)) false true) (some [(.one (.i .i64 (-1)))]) (cond (inb s4.2.1 (ln s4.2.2.1)) (cond (ine (ix s4.2.2.1 s4.2.1 zi).Pending (zq .i64 (zq .i64 (zq .i64 (zbh (ix s4.2.2.1 s4.2.1 zi).Live (zbh (ix s4.2.2.1 s4.2.1 zi).Written (zq .i64 (zq .i64 (zcu (ix s4.2.2.1 s4.2.1 zi).Prog s4.1) 1) 1))) 1) 1) 1)) (some [(.one (.i .i64 (-1)))]) (cond (inb s4.2.1 (ln s4.2.2.1)) (cond (ine (ix s4.2.2.1 s4.2.1 zi).Exit.Kind (zq .i64 (zq .i64 (zq .i64 (zq .i64 (zbh (ix s4.2.2.1 s4.2.1 zi).Live (zbh (ix s4.2.2.1 s4.2.1 zi).Written (zq .i64 (zq .i64 (zcu (ix s4.2.2.1 s4.2.1 zi).Prog s4.1) 1) 1))) 1) 1) 1) 1)) (some [(.one (.i .i64 (-1)))]) (cond (inb s4.2.1 (ln s4.2.2.1)) (cond (ine (ix s4.2.2.1 s4.2.1 zi).Exit.Page (zq .i64 (zq .i64 (zq .i64 (zq .i64 (zq .i64 (zbh (ix s4.2.2.1 s4.2.1 zi).Live (zbh (ix s4.2.2.1 s4.2.1 zi).Written (zq .i64 (zq .i64 (zcu (ix s4.2.2.1 s4.2.1 zi).Prog s4.1) 1) 1))) 1) 1) 1) 1) 1)) (some [(.one (.i .i64 (-1)))]) (cond (inb s4.2.1 (ln s4.2.2.1)) (cond (ine 3 0) (cond (cond (zhh (ix s4.2.2.1 s4.2.1 zi).Exit.Write (ieq (zfH (zq .i64 (zq .i64 (zq .i64 (zq .i64 (zq .i64 (zq .i64 (zbh (ix s4.2.2.1 s4.2.1 zi).Live (zbh (ix s4.2.2.1 s4.2.1 zi).Written (zq .i64 (zq .i64 (zcu (ix s4.2.2.1 s4.2.1 zi).Prog s4.1) 1) 1))) 1) 1) 1) 1) 1) 1) 3) 0)) false true) (some [(.one (.i .i64 (-1)))]) (cond (inb s4.2.1 (ln s4.2.2.1)) (cond (ine (ix s4.2.2.1 s4.2.1 zi).Exit.N (zq .i64 (zq .i64 (zq .i64 (zq .i64 (zq .i64 (zq .i64 (zq .i64 (zbh (ix s4.2.2.1 s4.2.1 zi).Live (zbh (ix s4.2.2.1 s4.2.1 zi).Written (zq .i64 (zq .i64 (zcu (ix s4.2.2.1 s4.2.1 zi).Prog s4.1) 1) 1))) 1) 1) 1) 1) 1) 1) 1)) (some [(.one (.i .i64 (-1)))]) (cond (inb s4.2.1 (ln s4.2.2.1)) (cond (ine 3 0) (cond (cond (zhh (ix s4.2.2.1 s4.2.1 zi).Halted (ieq (zfH (zq .i64 (zq .i64 (zq .i64 (zq .i64 (zq .i64 (zq .i64 (zq .i64 (zq .i64 (zbh (ix s4.2.2.1 s4.2.1 zi).Live (zbh (ix s4.2.2.1 s4.2.1 zi).Written (zq .i64 (zq .i64 (zcu (ix s4.2.2.1 s4.2.1 zi).Prog s4.1) 1) 1))) 1) 1) 1) 1) 1) 1) 1) 1) 3) 0)) false true) (some [(.one (.i .i64 (-1)))]) (cond (inb s4.2.1 (ln s4.2.2.1)) (cond (zfy (ix s4.2.2.1 s4.2.1 zi).Seen (zq .i64 (zq .i64 (zq .i64 (zq .i64 (zq .i64 (zq .i64 (zq .i64 (zq .i64 (zq .i64 (zbh (ix s4.2.2.1 s4.2.1 zi).Live (zbh (ix s4.2.2.1 s4.2.1 zi).Written (zq .i64 (zq .i64 (zcu (ix s4.2.2.1 s4.2.1 zi).Prog s4.1) 1) 1))) 1) 1) 1) 1) 1) 1) 1) 1) 1)) (cond (ilt (zdi (ix s4.2.2.1 s4.2.1 zi).Seen (zq .i64 (zq .i64 (zq .i64 (zq .i64 (zq .i64 (zq .i64 (zq .i64 (zq .i64 (zq .i64 (zbh (ix s4.2.2.1 s4.2.1 zi).Live (zbh (ix s4.2.2.1 s4.2.1 zi).Written (zq .i64 (zq .i64 (zcu (ix s4.2.2.1 s4.2.1 zi).Prog s4.1) 1) 1))) 1) 1) 1) 1) 1) 1) 1) 1) 1)) 0) (some [(.one (.i .i64 (-1)))]) (r3 ((zdi (ix s4.2.2.1 s4.2.1 zi).Seen (zq .i64 (zq .i64 (zq .i64 (zq .i64 (zq .i64 (zq .i64 (zq .i64 (zq .i64 (zq .i64 (zbh (ix s4.2.2.1 s4.2.1 zi).Live (zbh (ix s4.2.2.1 s4.2.1 zi).Written (zq .i64 (zq .i64 (zcu (ix s4.2.2.1 s4.2.1 zi).Prog s4.1) 1) 1))) 1) 1) 1) 1) 1) 1) 1) 1) 1)),((zq .i64 s4.2.1 1),(s4.2.2.1,()))))) none) none)) none) none)) none)) none) none)) none)) none)) none)) none) none)) none)) none)) none) none)) none) none)) none)) none)) none) none) (some [(.one (.i .i64 s4.1))]))) (a1,(0,(a0,()))))
def zF8:FuncId->Nat->Option Tmpl:=zB [(79,0,{ n:=161,tm:=[(0,.sl 0 []),(1,.i .i64),(5,.i .i64)],lo:=[],ro:=[(0,.guest,false)] })]
theorem zId (N:Nat)(a0:List Guest)(a1:Int):evalFn (cQ zGp zV zK zO) zF8 N 12 79 [.one (.s .guest a0),.one (.i .i64 a1)]=znx N a0 a1:=by kernel_rfl
theorem zFB (a0:List Guest)(a1:Int)(hb:zG big [.one (.s .guest a0),.one (.i .i64 a1)])(hc:(zjZ a0 a1)=true):∃N,znx N a0 a1=some [.one (.i .i64 (zdD a0 a1))]:=by
 obtain ⟨he,h0,h1⟩:=zJ.1 hc;have hl:=((zbu hb).1 _ (List.mem_singleton.2 rfl)).len;refine ⟨NN,?_⟩;have hNN:∀{n:Nat},n<=big->n<NN:=fun h=>zb8 h;generalize NN=N at hNN ⊢;unfold znx;exact zg3 zgI a0 _ (fun k=>some [AV.one (.i .i64 k)]) (fun i hi k rec he h0 h1=>by
  have hw:=zbf hi hl;have hix:∀d,ix a0 (i:Int) d=a0[i]:=fun d=>zbq hi d;generalize a0[i]=x at he h1 hix ⊢;simp only [zfC,mkB] at h1;have hn0:=zbZ zkK.nn x.Prog;have hn1:=zbZ zcv.nn x.Written;have hn2:=zbZ zcv.nn x.Live;have hn3:=zbZ zet.nn x.Seen;have he0:=zbO zkK.nx x.Prog (k);have he1:=zbO zcv.nx x.Written (enL zcF x.Prog (k)+1+1);have he2:=zbO zcv.nx x.Live (enL zbc x.Written (enL zcF x.Prog (k)+1+1));have he3:=zbO zet.nx x.Seen (enL zbc x.Live (enL zbc x.Written (enL zcF x.Prog (k)+1+1))+1+1+1+1+1+1+1+1+1);have w0:mkL zPy zcF x.Prog (k)=x.Prog:=congrArg (fun (z:Guest)=>z.Prog) he;have v_A:x.A=enL zcF x.Prog (k):=(congrArg (fun (z:Guest)=>z.A) he).symm;have v_Pc:x.Pc=enL zcF x.Prog (k)+1:=(congrArg (fun (z:Guest)=>z.Pc) he).symm;have w1:mkL zl7 zbc x.Written (enL zcF x.Prog (k)+1+1)=x.Written:=congrArg (fun (z:Guest)=>z.Written) he;have w2:mkL zl7 zbc x.Live (enL zbc x.Written (enL zcF x.Prog (k)+1+1))=x.Live:=congrArg (fun (z:Guest)=>z.Live) he;have v_Ctl_Traps:x.Ctl.Traps=enL zbc x.Live (enL zbc x.Written (enL zcF x.Prog (k)+1+1)):=(congrArg (fun (z:Guest)=>z.Ctl.Traps) he).symm;have v_Ctl_Post:x.Ctl.Post=enL zbc x.Live (enL zbc x.Written (enL zcF x.Prog (k)+1+1))+1:=(congrArg (fun (z:Guest)=>z.Ctl.Post) he).symm;have v_Ctl_Open:x.Ctl.Open=ieq (zfH (enL zbc x.Live (enL zbc x.Written (enL zcF x.Prog (k)+1+1))+1+1) 3) 0:=(congrArg (fun (z:Guest)=>z.Ctl.Open) he).symm;have v_Pending:x.Pending=enL zbc x.Live (enL zbc x.Written (enL zcF x.Prog (k)+1+1))+1+1+1:=(congrArg (fun (z:Guest)=>z.Pending) he).symm;have v_Exit_Kind:x.Exit.Kind=enL zbc x.Live (enL zbc x.Written (enL zcF x.Prog (k)+1+1))+1+1+1+1:=(congrArg (fun (z:Guest)=>z.Exit.Kind) he).symm;have v_Exit_Page:x.Exit.Page=enL zbc x.Live (enL zbc x.Written (enL zcF x.Prog (k)+1+1))+1+1+1+1+1:=(congrArg (fun (z:Guest)=>z.Exit.Page) he).symm;have v_Exit_Write:x.Exit.Write=ieq (zfH (enL zbc x.Live (enL zbc x.Written (enL zcF x.Prog (k)+1+1))+1+1+1+1+1+1) 3) 0:=(congrArg (fun (z:Guest)=>z.Exit.Write) he).symm;have v_Exit_N:x.Exit.N=enL zbc x.Live (enL zbc x.Written (enL zcF x.Prog (k)+1+1))+1+1+1+1+1+1+1:=(congrArg (fun (z:Guest)=>z.Exit.N) he).symm;have v_Halted:x.Halted=ieq (zfH (enL zbc x.Live (enL zbc x.Written (enL zcF x.Prog (k)+1+1))+1+1+1+1+1+1+1+1) 3) 0:=(congrArg (fun (z:Guest)=>z.Halted) he).symm;have w3:mkL zzi zeO x.Seen (enL zbc x.Live (enL zbc x.Written (enL zcF x.Prog (k)+1+1))+1+1+1+1+1+1+1+1+1)=x.Seen:=congrArg (fun (z:Guest)=>z.Seen) he;have c0:zms x.Prog (k)=true:=zU ⟨w0,by omega,by unfold mkB;omega⟩
  have d0:ilt (enL zcF x.Prog (k)) 0=false:=zeA (by omega)
  have c1:zdZ x.Written (enL zcF x.Prog (k)+1+1)=true:=zU ⟨w1,by omega,by unfold mkB;omega⟩
  have d1:ilt (enL zbc x.Written (enL zcF x.Prog (k)+1+1)) 0=false:=zeA (by omega)
  have c2:zdZ x.Live (enL zbc x.Written (enL zcF x.Prog (k)+1+1))=true:=zU ⟨w2,by omega,by unfold mkB;omega⟩
  have d2:ilt (enL zbc x.Live (enL zbc x.Written (enL zcF x.Prog (k)+1+1))) 0=false:=zeA (by omega)
  have c3:zfy x.Seen (enL zbc x.Live (enL zbc x.Written (enL zcF x.Prog (k)+1+1))+1+1+1+1+1+1+1+1+1)=true:=zU ⟨w3,by omega,by unfold mkB;omega⟩
  have d3:ilt (enL zeO x.Seen (enL zbc x.Live (enL zbc x.Written (enL zcF x.Prog (k)+1+1))+1+1+1+1+1+1+1+1+1)) 0=false:=zeA (by omega)
  simp (disch:=omega) only [zbv hi,zbg hi,hix,hw,v_A,v_Pc,v_Ctl_Traps,v_Ctl_Post,v_Ctl_Open,v_Pending,v_Exit_Kind,v_Exit_Page,v_Exit_Write,v_Exit_N,v_Halted,c0,d0,zcu,c1,d1,zbh,c2,d2,c3,d3,zdi,zeF,zhw,zb2,zcj,cT,cF];rfl
  ) (fun k rec=>by simp only [zbj,cF]) a1 N he h0 h1 (hNN hl)
theorem zBx:Holds Tryz.prog 79 zlg:=zo zzc zD zu zy (zC (by kernel_rfl)) fun avs rs hb h=>by
 unfold zlg at h;split at h
 ·obtain ⟨hc,rfl⟩:=zl h;exact (fin2 zFB zId hc hb :)
 ·cases h
def zV2:zbQ:=[(30,zmR),(80,zmS),(79,zlg)]++zGp
theorem zPl:zbw zV2:=zn zC6 (zn zC7 (zn zBx zzc))
def zmt (l:List Mon)(k:Int):Bool:=pc (mkL zPz zFK l k=l/\0<=k/\k+mcL zjx l<=mkB)
def zdz (l:List Mon)(k:Int):Int:=enL zFK l k
def zoc:List AV->Option (Bool×List AV)
 | [.one (.s .mon b),.one (.i .i64 c)]=>some ((zmt b c),[.one (.i .i64 (zdz b c))])
 | _=>none
def zsr (N:Nat)(a0:List Mon)(a1:Int):Option Ans :=
 (iter (σ:=(Int×(Int×((List Mon)×Unit)))) N (fun r3 s4=>(cond (ilt s4.2.1 (ln s4.2.2.1)) (cond (inb s4.2.1 (ln s4.2.2.1)) (cond (zdZ (ix s4.2.2.1 s4.2.1 zf).Outer s4.1) (cond (ilt (zbh (ix s4.2.2.1 s4.2.1 zf).Outer s4.1) 0) (some [(.one (.i .i64 (-1)))]) (cond (inb s4.2.1 (ln s4.2.2.1)) (cond (zgO (ix s4.2.2.1 s4.2.1 zf).Out (zbh (ix s4.2.2.1 s4.2.1 zf).Outer s4.1)) (cond (ilt (zbM (ix s4.2.2.1 s4.2.1 zf).Out (zbh (ix s4.2.2.1 s4.2.1 zf).Outer s4.1)) 0) (some [(.one (.i .i64 (-1)))]) (cond (inb s4.2.1 (ln s4.2.2.1)) (cond (zgN (ix s4.2.2.1 s4.2.1 zf).Dirty (zbM (ix s4.2.2.1 s4.2.1 zf).Out (zbh (ix s4.2.2.1 s4.2.1 zf).Outer s4.1))) (cond (ilt (zcB (ix s4.2.2.1 s4.2.1 zf).Dirty (zbM (ix s4.2.2.1 s4.2.1 zf).Out (zbh (ix s4.2.2.1 s4.2.1 zf).Outer s4.1))) 0) (some [(.one (.i .i64 (-1)))]) (cond (inb s4.2.1 (ln s4.2.2.1)) (cond (zjZ (ix s4.2.2.1 s4.2.1 zf).Guests (zcB (ix s4.2.2.1 s4.2.1 zf).Dirty (zbM (ix s4.2.2.1 s4.2.1 zf).Out (zbh (ix s4.2.2.1 s4.2.1 zf).Outer s4.1)))) (cond (ilt (zdD (ix s4.2.2.1 s4.2.1 zf).Guests (zcB (ix s4.2.2.1 s4.2.1 zf).Dirty (zbM (ix s4.2.2.1 s4.2.1 zf).Out (zbh (ix s4.2.2.1 s4.2.1 zf).Outer s4.1)))) 0) (some [(.one (.i .i64 (-1)))]) (cond (inb s4.2.1 (ln s4.2.2.1)) (cond (zfy (ix s4.2.2.1 s4.2.1 zf).Outs (zdD (ix s4.2.2.1 s4.2.1 zf).Guests (zcB (ix s4.2.2.1 s4.2.1 zf).Dirty (zbM (ix s4.2.2.1 s4.2.1 zf).Out (zbh (ix s4.2.2.1 s4.2.1 zf).Outer s4.1))))) (cond (ilt (zdi (ix s4.2.2.1 s4.2.1 zf).Outs (zdD (ix s4.2.2.1 s4.2.1 zf).Guests (zcB (ix s4.2.2.1 s4.2.1 zf).Dirty (zbM (ix s4.2.2.1 s4.2.1 zf).Out (zbh (ix s4.2.2.1 s4.2.1 zf).Outer s4.1))))) 0) (some [(.one (.i .i64 (-1)))]) (cond (inb s4.2.1 (ln s4.2.2.1)) (cond (ine (ix s4.2.2.1 s4.2.1 zf).Pending (zdi (ix s4.2.2.1 s4.2.1 zf).Outs (zdD (ix s4.2.2.1 s4.2.1 zf).Guests (zcB (ix s4.2.2.1 s4.2.1 zf).Dirty (zbM (ix s4.2.2.1 s4.2.1 zf).Out (zbh (ix s4.2.2.1 s4.2.1 zf).Outer s4.1)))))) (some [(.one (.i .i64 (-1)))]) (cond (inb s4.2.1 (ln s4.2.2.1)) (cond (ine (ix s4.2.2.1 s4.2.1 zf).Traps (zq .i64 (zdi (ix s4.2.2.1 s4.2.1 zf).Outs (zdD (ix s4.2.2.1 s4.2.1 zf).Guests (zcB (ix s4.2.2.1 s4.2.1 zf).Dirty (zbM (ix s4.2.2.1 s4.2.1 zf).Out (zbh (ix s4.2.2.1 s4.2.1 zf).Outer s4.1))))) 1)) (some [(.one (.i .i64 (-1)))]) (cond (inb s4.2.1 (ln s4.2.2.1)) (cond (zkP (ix s4.2.2.1 s4.2.1 zf).Tables (zq .i64 (zq .i64 (zdi (ix s4.2.2.1 s4.2.1 zf).Outs (zdD (ix s4.2.2.1 s4.2.1 zf).Guests (zcB (ix s4.2.2.1 s4.2.1 zf).Dirty (zbM (ix s4.2.2.1 s4.2.1 zf).Out (zbh (ix s4.2.2.1 s4.2.1 zf).Outer s4.1))))) 1) 1)) (cond (ilt (ziI (ix s4.2.2.1 s4.2.1 zf).Tables (zq .i64 (zq .i64 (zdi (ix s4.2.2.1 s4.2.1 zf).Outs (zdD (ix s4.2.2.1 s4.2.1 zf).Guests (zcB (ix s4.2.2.1 s4.2.1 zf).Dirty (zbM (ix s4.2.2.1 s4.2.1 zf).Out (zbh (ix s4.2.2.1 s4.2.1 zf).Outer s4.1))))) 1) 1)) 0) (some [(.one (.i .i64 (-1)))]) (cond (inb s4.2.1 (ln s4.2.2.1)) (cond (ine (ix s4.2.2.1 s4.2.1 zf).Own (ziI (ix s4.2.2.1 s4.2.1 zf).Tables (zq .i64 (zq .i64 (zdi (ix s4.2.2.1 s4.2.1 zf).Outs (zdD (ix s4.2.2.1 s4.2.1 zf).Guests (zcB (ix s4.2.2.1 s4.2.1 zf).Dirty (zbM (ix s4.2.2.1 s4.2.1 zf).Out (zbh (ix s4.2.2.1 s4.2.1 zf).Outer s4.1))))) 1) 1))) (some [(.one (.i .i64 (-1)))]) (r3 ((zq .i64 (ziI (ix s4.2.2.1 s4.2.1 zf).Tables (zq .i64 (zq .i64 (zdi (ix s4.2.2.1 s4.2.1 zf).Outs (zdD (ix s4.2.2.1 s4.2.1 zf).Guests (zcB (ix s4.2.2.1 s4.2.1 zf).Dirty (zbM (ix s4.2.2.1 s4.2.1 zf).Out (zbh (ix s4.2.2.1 s4.2.1 zf).Outer s4.1))))) 1) 1)) 1),((zq .i64 s4.2.1 1),(s4.2.2.1,()))))) none)) none) none)) none)) none)) none) none)) none) none)) none) none)) none) none)) none) none) (some [(.one (.i .i64 s4.1))]))) (a1,(0,(a0,()))))
def zLM:FuncId->Nat->Option Tmpl:=zB [(31,0,{ n:=94,tm:=[(0,.sl 0 []),(1,.i .i64),(5,.i .i64)],lo:=[],ro:=[(0,.mon,false)] })]
theorem zN0 (N:Nat)(a0:List Mon)(a1:Int):evalFn (cQ zV2 zV zK zO) zLM N 12 31 [.one (.s .mon a0),.one (.i .i64 a1)]=zsr N a0 a1:=by kernel_rfl
theorem zKL (a0:List Mon)(a1:Int)(hb:zG big [.one (.s .mon a0),.one (.i .i64 a1)])(hc:(zmt a0 a1)=true):∃N,zsr N a0 a1=some [.one (.i .i64 (zdz a0 a1))]:=by
 obtain ⟨he,h0,h1⟩:=zJ.1 hc;have hl:=((zbu hb).1 _ (List.mem_singleton.2 rfl)).len;refine ⟨NN,?_⟩;have hNN:∀{n:Nat},n<=big->n<NN:=fun h=>zb8 h;generalize NN=N at hNN ⊢;unfold zsr;exact zg3 zCd a0 _ (fun k=>some [AV.one (.i .i64 k)]) (fun i hi k rec he h0 h1=>by
  have hw:=zbf hi hl;have hix:∀d,ix a0 (i:Int) d=a0[i]:=fun d=>zbq hi d;generalize a0[i]=x at he h1 hix ⊢;simp only [zjx,mkB] at h1;have hn0:=zbZ zcv.nn x.Outer;have hn1:=zbZ zfV.nn x.Out;have hn2:=zbZ zd9.nn x.Dirty;have hn3:=zbZ zgI.nn x.Guests;have hn4:=zbZ zet.nn x.Outs;have hn5:=zbZ zii.nn x.Tables;have he0:=zbO zcv.nx x.Outer (k);have he1:=zbO zfV.nx x.Out (enL zbc x.Outer (k));have he2:=zbO zd9.nx x.Dirty (enL zcC x.Out (enL zbc x.Outer (k)));have he3:=zbO zgI.nx x.Guests (enL zcm x.Dirty (enL zcC x.Out (enL zbc x.Outer (k))));have he4:=zbO zet.nx x.Outs (enL zcQ x.Guests (enL zcm x.Dirty (enL zcC x.Out (enL zbc x.Outer (k)))));have he5:=zbO zii.nx x.Tables (enL zeO x.Outs (enL zcQ x.Guests (enL zcm x.Dirty (enL zcC x.Out (enL zbc x.Outer (k)))))+1+1);have w0:mkL zl7 zbc x.Outer (k)=x.Outer:=congrArg (fun (z:Mon)=>z.Outer) he;have w1:mkL zGt zcC x.Out (enL zbc x.Outer (k))=x.Out:=congrArg (fun (z:Mon)=>z.Out) he;have w2:mkL zuT zcm x.Dirty (enL zcC x.Out (enL zbc x.Outer (k)))=x.Dirty:=congrArg (fun (z:Mon)=>z.Dirty) he;have w3:mkL zsP zcQ x.Guests (enL zcm x.Dirty (enL zcC x.Out (enL zbc x.Outer (k))))=x.Guests:=congrArg (fun (z:Mon)=>z.Guests) he;have w4:mkL zzi zeO x.Outs (enL zcQ x.Guests (enL zcm x.Dirty (enL zcC x.Out (enL zbc x.Outer (k)))))=x.Outs:=congrArg (fun (z:Mon)=>z.Outs) he;have v_Pending:x.Pending=enL zeO x.Outs (enL zcQ x.Guests (enL zcm x.Dirty (enL zcC x.Out (enL zbc x.Outer (k))))):=(congrArg (fun (z:Mon)=>z.Pending) he).symm;have v_Traps:x.Traps=enL zeO x.Outs (enL zcQ x.Guests (enL zcm x.Dirty (enL zcC x.Out (enL zbc x.Outer (k)))))+1:=(congrArg (fun (z:Mon)=>z.Traps) he).symm;have w5:mkL zzj zj5 x.Tables (enL zeO x.Outs (enL zcQ x.Guests (enL zcm x.Dirty (enL zcC x.Out (enL zbc x.Outer (k)))))+1+1)=x.Tables:=congrArg (fun (z:Mon)=>z.Tables) he;have v_Own:x.Own=enL zj5 x.Tables (enL zeO x.Outs (enL zcQ x.Guests (enL zcm x.Dirty (enL zcC x.Out (enL zbc x.Outer (k)))))+1+1):=(congrArg (fun (z:Mon)=>z.Own) he).symm;have c0:zdZ x.Outer (k)=true:=zU ⟨w0,by omega,by unfold mkB;omega⟩
  have d0:ilt (enL zbc x.Outer (k)) 0=false:=zeA (by omega)
  have c1:zgO x.Out (enL zbc x.Outer (k))=true:=zU ⟨w1,by omega,by unfold mkB;omega⟩
  have d1:ilt (enL zcC x.Out (enL zbc x.Outer (k))) 0=false:=zeA (by omega)
  have c2:zgN x.Dirty (enL zcC x.Out (enL zbc x.Outer (k)))=true:=zU ⟨w2,by omega,by unfold mkB;omega⟩
  have d2:ilt (enL zcm x.Dirty (enL zcC x.Out (enL zbc x.Outer (k)))) 0=false:=zeA (by omega)
  have c3:zjZ x.Guests (enL zcm x.Dirty (enL zcC x.Out (enL zbc x.Outer (k))))=true:=zU ⟨w3,by omega,by unfold mkB;omega⟩
  have d3:ilt (enL zcQ x.Guests (enL zcm x.Dirty (enL zcC x.Out (enL zbc x.Outer (k))))) 0=false:=zeA (by omega)
  have c4:zfy x.Outs (enL zcQ x.Guests (enL zcm x.Dirty (enL zcC x.Out (enL zbc x.Outer (k)))))=true:=zU ⟨w4,by omega,by unfold mkB;omega⟩
  have d4:ilt (enL zeO x.Outs (enL zcQ x.Guests (enL zcm x.Dirty (enL zcC x.Out (enL zbc x.Outer (k)))))) 0=false:=zeA (by omega)
  have c5:zkP x.Tables (enL zeO x.Outs (enL zcQ x.Guests (enL zcm x.Dirty (enL zcC x.Out (enL zbc x.Outer (k)))))+1+1)=true:=zU ⟨w5,by omega,by unfold mkB;omega⟩
  have d5:ilt (enL zj5 x.Tables (enL zeO x.Outs (enL zcQ x.Guests (enL zcm x.Dirty (enL zcC x.Out (enL zbc x.Outer (k)))))+1+1)) 0=false:=zeA (by omega)
  simp (disch:=omega) only [zbv hi,zbg hi,hix,hw,v_Pending,v_Traps,v_Own,c0,d0,zbh,c1,d1,zbM,c2,d2,zcB,c3,d3,zdD,c4,d4,zdi,c5,d5,ziI,zeF,zhw,zb2,zcj,cT,cF];rfl
  ) (fun k rec=>by simp only [zbj,cF]) a1 N he h0 h1 (hNN hl)
theorem zE4:Holds Tryz.prog 31 zoc:=zo zPl zD zu zy (zC (by kernel_rfl)) fun avs rs hb h=>by
 unfold zoc at h;split at h
 ·obtain ⟨hc,rfl⟩:=zl h;exact (fin2 zKL zN0 hc hb :)
 ·cases h
def z0e:zbQ:=[(31,zoc)]++zV2
theorem zZa:zbw z0e:=zn zE4 zPl
def ze9:zbQ:=z0e
theorem zcV:∀f run,zx ze9 f=some run->Holds Tryz.prog f run:=zZa
def W (c:Int)(f:Int->Int):Prop:=∀n,0<=n->n<=1048576->f n<=n/\(0<=f n->c<=15*(n-f n))
theorem zhu {a b:Int}{f g:Int->Int}(hf:W a f)(hg:W b g):W (a+b) (fun n=>thn (f n) g):=by
 intro n h0 h1;obtain ⟨x,y⟩:=hf n h0 h1
 show thn (f n) g<=n/\(0<=thn (f n) g->a+b<=15*(n-thn (f n) g))
 unfold thn;split
 ·exact ⟨by omega,fun h=>by omega⟩
 ·obtain ⟨z,u⟩:=hg (f n) (by omega) (by omega)
  refine ⟨by omega,fun h=>?_⟩
  have:=y (by omega)
  have:=u h;omega
theorem zVK:W 0 (fun n=>n):=fun n h0 h1=>by
 show n<=n/\(0<=n->0<=15*(n-n))
 exact ⟨Int.le_refl _,fun h=>by omega⟩
theorem zYa {α:Type}{m:α->Int}(h:∀x,m x<=15):∀l:List α,mcL m l<=15*l.length
 | []=>by simp [mcL]
 | x :: l=>by
  have:=zYa h l;have:=h x;simp only [mcL,List.length_cons];omega
theorem zxk {α:Type}{m:α->Int}(h:∀x,m x<=15)(l:List α):W (mcL m l) (szL l):=by
 intro n h0 h1;have:=zYa h l;unfold szL;split
 ·exact ⟨by omega,fun h=>by omega⟩
 ·exact ⟨by omega,fun h=>by omega⟩
theorem z1z {α:Type}{m mc:α->Int}{s:Int}{f:α->Int->Int}(hs:s<=15)(h:∀x,W (mc x) (f x))(hm:∀x,m x=mc x+s):∀l:List α,W (mcL m l-15*l.length) (zAi f l)
 | []=>fun n h0 h1=>⟨Int.le_refl _,fun h=>by simp [mcL,zAi]⟩
 | x :: l=>by
  intro n h0 h1;obtain ⟨a,b⟩:=h x n h0 h1;simp only [zAi,mcL,List.length_cons];unfold thn;split
  ·exact ⟨by omega,fun h=>by omega⟩
  ·obtain ⟨c,d⟩:=z1z hs h hm l (f x n) (by omega) (by omega)
   refine ⟨by omega,fun hp=>?_⟩
   have:=b (by omega)
   have:=d hp;have:=hm x;omega
theorem zGg {α:Type}{m mc:α->Int}{s:Int}{f:α->Int->Int}(hs:s<=15)(h:∀x,W (mc x) (f x))(hm:∀x,m x=mc x+s)(l:List α):W (mcL m l) (zoA f l):=by
 intro n h0 h1;unfold zoA thn;split
 ·exact ⟨by omega,fun h=>by omega⟩
 ·obtain ⟨c,d⟩:=z1z hs h hm l (n-l.length) (by omega) (by omega)
  refine ⟨by omega,fun hp=>?_⟩
  have:=d hp;omega
theorem z1w (l:List Int):W (zh9 l) (zcI l):=zxk (fun _=>by unfold zkh;decide) l
theorem zUN (l:List (List Int)):W (mcL zh9 l) (zcb l):=zGg (s:=0) (by decide) z1w (fun x=>by omega) l
theorem zXA (l:List Bool):W (mcL zi0 l) (zcx l):=zxk (fun _=>by unfold zi0;decide) l
theorem zZ1 (l:List Int):W (mcL zkh l) (zcI l):=zxk (fun _=>by unfold zkh;decide) l
theorem zGf (l:List Slot):W (mcL zf4 l) (zbK l):=zxk (fun _=>by unfold zf4;decide) l
theorem z2i (l:List Ins):W (mcL znP l) (zdW l):=zxk (fun _=>by unfold znP;decide) l
theorem zUM (l:List Entry):W (mcL zgx l) (zcT l):=zxk (fun _=>by unfold zgx;decide) l
theorem zYO (x:Guest):W (mcL znP x.Prog+(mcL zf4 x.Written+(mcL zf4 x.Live+(mcL zkh x.Seen+0)))) (zga x):=by
 show W _ (fun n=>thn (zdW x.Prog n) (fun n=>thn (zbK x.Written n) (fun n=>thn (zbK x.Live n) (fun n=>thn (zcI x.Seen n) (fun n=>n)))))
 exact zhu (z2i _) (zhu (zGf _) (zhu (zGf _) (zhu (zZ1 _) zVK)))
theorem z0H (l:List Guest):W (mcL zfC l) (zdA l):=zGg (s:=11) (by decide) zYO (fun x=>by unfold zfC;omega) l
theorem z0I (x:Kept):W (mcL zi0 x.Known+(mcL zf4 x.Slots+0)) (zhl x):=by
 show W _ (fun n=>thn (zcx x.Known n) (fun n=>thn (zbK x.Slots n) (fun n=>n)))
 exact zhu (zXA _) (zhu (zGf _) zVK)
theorem z1x (l:List Kept):W (mcL zg9 l) (zfB l):=zGg (s:=0) (by decide) z0I (fun x=>by unfold zg9;omega) l
theorem z1y (x:Mon):W (mcL zf4 x.Outer+(mcL zh9 x.Out+(mcL zi0 x.Dirty+(mcL zfC x.Guests+(mcL zkh x.Outs+(mcL zg9 x.Tables+0)))))) (ziL x):=by
 show W _ (fun n=>thn (zbK x.Outer n) (fun n=>thn (zcb x.Out n) (fun n=>thn (zcx x.Dirty n) (fun n=>thn (zdA x.Guests n) (fun n=>thn (zcI x.Outs n) (fun n=>thn (zfB x.Tables n) (fun n=>n)))))))
 exact zhu (zGf _) (zhu (zUN _) (zhu (zXA _) (zhu (z0H _) (zhu (zZ1 _) (zhu (z1x _) zVK)))))
theorem z2j (l:List Mon):W (mcL zjx l) (zey l):=zGg (s:=3) (by decide) z1y (fun x=>by unfold zjx;omega) l
def zrM (h:Host):Int:=mcL zh9 h.Memory+(mcL zjx h.Mons+(mcL zgx h.Buffer+(mcL zgx h.IoBuffer+0)))
theorem zXB (h:Host):W (zrM h) (zfc h):=by
 show W _ (fun n=>thn (zcb h.Memory n) (fun n=>thn (zey h.Mons n) (fun n=>thn (zcT h.Buffer n) (fun n=>thn (zcT h.IoBuffer n) (fun n=>n)))))
 exact zhu (zUN _) (zhu (z2j _) (zhu (zUM _) (zhu (zUM _) zVK)))
structure MarkH (h:Host) (k:Int):Prop where
 c1:zeY h.Memory k=true
 c2:zhH h.Mons (zX h.Memory k)=true
 c3:zdH h.Buffer (zbX h.Mons (zX h.Memory k))=true
 c4:zdH h.IoBuffer (zbP h.Buffer (zbX h.Mons (zX h.Memory k)))=true
 nn:0<=zbP h.IoBuffer (zbP h.Buffer (zbX h.Mons (zX h.Memory k)))
 le:zbP h.IoBuffer (zbP h.Buffer (zbX h.Mons (zX h.Memory k)))<=k+15728640
theorem zX9 {h:Host}{n:Int}(h0:0<=n)(h1:n<=1048576)(hp:0<=zfc h n)(k:Int)(hk0:0<=k)(hk1:k<=1000000000000):MarkH h k:=by
 obtain ⟨hle,hw⟩:=zXB h n h0 h1;have hw:=hw hp;unfold zrM at hw;have n1:=zbZ zfV.nn h.Memory;have n2:=zbZ zCd.nn h.Mons;have n3:=zbZ zix.nn h.Buffer;have n4:=zbZ zix.nn h.IoBuffer;have e1:zX h.Memory k=k+mcL zh9 h.Memory:=zbO zfV.nx _ _;have e2:∀k,zbX h.Mons k=k+mcL zjx h.Mons:=zbO zCd.nx _;have e3:∀k,zbP h.Buffer k=k+mcL zgx h.Buffer:=zbO zix.nx _;have e4:∀k,zbP h.IoBuffer k=k+mcL zgx h.IoBuffer:=zbO zix.nx _;have hB:mkB=4611686018427387904:=rfl;refine ⟨zU ⟨by omega,by omega⟩,zU ⟨?_,?_⟩,zU ⟨?_,?_⟩,zU ⟨?_,?_⟩,?_,?_⟩<;>simp only [e1,e2,e3,e4]<;>omega
section
variable {α:Type} {f:α->Int->α} {nx:α->Int->Int} {m:α->Int}
structure Res (f:α->Int->α) (nx:α->Int->Int) (m:α->Int) (l:List α):Prop where
 c:0<=(1:Int)/\1+mcL m l<=mkB
 hc:mkL f nx (mkL f nx l 1) 1=mkL f nx l 1/\0<=(1:Int)/\1+mcL m (mkL f nx l 1)<=mkB
 e:enL nx (mkL f nx l 1) 1=enL nx l 1
 nn:ilt (enL nx l 1) 0=false
theorem res (h:Mk f nx m)(l:List α)(hl:mcL m l<=1000000000000):Res f nx m l:=by
 have hB:mkB=4611686018427387904:=rfl;have hn:=zbZ h.nn l;refine ⟨⟨by decide,by omega⟩,⟨zic h l 1,by decide,by rw [zdR h];omega⟩,by rw [zbO h.nx,zbO h.nx,zdR h],zeA (by rw [zbO h.nx];omega)⟩
end
theorem zVf:∀l:List Int,mcL zkh l=l.length
 | []=>rfl
 | x :: l=>by simp only [mcL,zVf l,zkh,List.length_cons];omega
def canRun (g:Guest):Bool:=bif (ieq g.Exit.Kind 0&&(ieq g.Exit.Page 0&&(zhh g.Exit.Write false&&ieq g.Exit.N 0))) then !g.Halted else false
def zrN (_:Guest):Bool:=true
@[reducible] def zos (g:Guest):Bool:=canRun g
def zt6:List AV->Option (Bool×List AV)
 | [.agg [.s .ins c,.i .i64 d,.i .i64 e,.s .slot f,.s .slot g,.i .i64 h,.i .i64 j,.b k,.i .i64 l,.i .i64 m,.i .i64 n,.b o,.i .i64 p,.b q,.s .int r]]=>some ((zrN (⟨c,d,e,f,g,⟨h,j,k⟩,l,⟨m,n,o,p⟩,q,r⟩:Guest)),[.one (.b (zos (⟨c,d,e,f,g,⟨h,j,k⟩,l,⟨m,n,o,p⟩,q,r⟩:Guest)))])
 | _=>none
def zyG (N:Nat)(a0:Guest):Option Ans :=
 (cond (cond (ieq a0.Exit.Kind 0) (cond (ieq a0.Exit.Page 0) (cond (zhh a0.Exit.Write false) (ieq a0.Exit.N 0) false) false) false) (some [(.one (.b (cond a0.Halted false true)))]) (some [(.one (.b false))]))
theorem zT9 (N:Nat)(a0:Guest):evalFn (cQ zEE zbV zK zO) (zB []) N 12 89 [.agg (Ty.cells .guest a0)]=zyG N a0:=by kernel_rfl
theorem zQE (a0:Guest)(hb:zG big [.agg (Ty.cells .guest a0)])(hc:(zrN a0)=true):∃N,zyG N a0=some [.one (.b (zos a0))]:=by
 refine ⟨0,?_⟩;unfold zyG zos canRun;cases ieq a0.Exit.Kind 0<;>cases ieq a0.Exit.Page 0<;>cases zhh a0.Exit.Write false<;>cases ieq a0.Exit.N 0<;>simp
theorem zJY:Holds Tryz.prog 89 zt6:=zo zrW zbd zu zy (zC (by kernel_rfl)) fun avs rs hb h=>by
 unfold zt6 at h;split at h
 ·obtain ⟨hc,rfl⟩:=zl h;exact (fin1 zQE zT9 hc hb :)
 ·cases h
def zrm (_:Guest):Bool:=true
@[reducible] def znJ (g:Guest):Bool:=canRun g
def ztm:List AV->Option (Bool×List AV)
 | [.agg [.s .ins c,.i .i64 d,.i .i64 e,.s .slot f,.s .slot g,.i .i64 h,.i .i64 j,.b k,.i .i64 l,.i .i64 m,.i .i64 n,.b o,.i .i64 p,.b q,.s .int r]]=>some ((zrm (⟨c,d,e,f,g,⟨h,j,k⟩,l,⟨m,n,o,p⟩,q,r⟩:Guest)),[.one (.b (znJ (⟨c,d,e,f,g,⟨h,j,k⟩,l,⟨m,n,o,p⟩,q,r⟩:Guest)))])
 | _=>none
def zxZ (N:Nat)(a0:Guest):Option Ans :=
 (cond (cond (ieq a0.Exit.Kind 0) (cond (ieq a0.Exit.Page 0) (cond (zhh a0.Exit.Write false) (ieq a0.Exit.N 0) false) false) false) (some [(.one (.b (cond a0.Halted false true)))]) (some [(.one (.b false))]))
theorem zTp (N:Nat)(a0:Guest):evalFn (cQ zEE zbV zK zO) (zB []) N 12 121 [.agg (Ty.cells .guest a0)]=zxZ N a0:=by kernel_rfl
theorem zPU (a0:Guest)(hb:zG big [.agg (Ty.cells .guest a0)])(hc:(zrm a0)=true):∃N,zxZ N a0=some [.one (.b (znJ a0))]:=by
 refine ⟨0,?_⟩;unfold zxZ znJ canRun;cases ieq a0.Exit.Kind 0<;>cases ieq a0.Exit.Page 0<;>cases zhh a0.Exit.Write false<;>cases ieq a0.Exit.N 0<;>simp
theorem zJe:Holds Tryz.prog 121 ztm:=zo zrW zbd zu zy (zC (by kernel_rfl)) fun avs rs hb h=>by
 unfold ztm at h;split at h
 ·obtain ⟨hc,rfl⟩:=zl h;exact (fin1 zPU zTp hc hb :)
 ·cases h
theorem must {ρ:Type}{c:Bool}{a b r:Option ρ}(h:c=true)(k:a=r):(cond c a b)=r:=by rw [h];exact k
theorem zeN {ρ:Type}{c:Bool}{a b r:Option ρ}(h:c=false)(k:b=r):(cond c a b)=r:=by rw [h];exact k
theorem br {ρ:Type}{c:Bool}{a b r:Option ρ}(h1:c=true->a=r)(h2:c=false->b=r):(cond c a b)=r:=by
 cases c
 ·exact h2 rfl
 ·exact h1 rfl
theorem brN {ρ:Type}{c:Bool}{a b r:Option ρ}(h1:c=false->a=r)(h2:c=true->b=r):(cond (cond c false true) a b)=r:=by
 cases c
 ·exact h1 rfl
 ·exact h2 rfl
theorem shr {α ρ:Type}{x:α}{f:α->Option ρ}{r:Option ρ}(h:f x=r):share x f=r:=h
theorem zhW {ρ:Type}{c p:Bool}{a b:Option ρ}(hc:c=true):(cond c (cond (cond p false true) a b) none)=bif p then b else a:=by
 rw [hc];cases p<;>rfl
attribute [simp] zJ
@[simp] theorem z0X {α:Type}(l:List α):(few (ln l)=true)↔l.length<=2147483648:=by
 unfold few ln;rw [decide_eq_true_iff];omega
@[simp] theorem z2Y {α:Type}(l m:List α):(ap l m).length=l.length+m.length:=by simp [ap]
attribute [simp] zkt zuM
@[simp] theorem z0k (n:Nat)(k:IntKind)(x:Int):CVB n (.i k x)↔True:=⟨fun _=>trivial,fun _=>.i k x⟩
@[simp] theorem z3c (n:Nat)(x:Bool):CVB n (.b x)↔True:=⟨fun _=>trivial,fun _=>.b x⟩
theorem zjM {n:Nat}{t:Ty}(l:List t.den):CVB n (.s t l)↔l.length<=n/\∀x∈l,∀c∈t.cells x,CVB n c:=⟨fun h=>h.inv,fun h=>.s t l h.1 h.2⟩
@[simp] theorem zU3 (n:Nat)(l:List Int):CVB n (.s .int l)↔l.length<=n:=by rw [zjM];simp [Ty.cells]
@[simp] theorem z1H (n:Nat)(l:List Int):CVB n (.s .u8 l)↔l.length<=n:=by rw [zjM];simp [Ty.cells]
@[simp] theorem zZg (n:Nat)(l:List Bool):CVB n (.s .bool l)↔l.length<=n:=by rw [zjM];simp [Ty.cells]
@[simp] theorem zZi (n:Nat)(l:List Slot):CVB n (.s .slot l)↔l.length<=n:=by rw [zjM];simp [Ty.cells]
@[simp] theorem z0Q (n:Nat)(l:List Ins):CVB n (.s .ins l)↔l.length<=n:=by rw [zjM];simp [Ty.cells]
@[simp] theorem zXI (n:Nat)(l:List Entry):CVB n (.s .entry l)↔l.length<=n:=by rw [zjM];simp [Ty.cells]
@[simp] theorem z0P (n:Nat)(l:List GAct):CVB n (.s .act l)↔l.length<=n:=by rw [zjM];simp [Ty.cells]
@[simp] theorem zZj (n:Nat)(l:List Told):CVB n (.s .told l)↔l.length<=n:=by rw [zjM];simp [Ty.cells]
def SmM (m:List (List Int)):Prop:=m.length<=1048576/\∀x∈m,x.length<=1048576
def SmG (g:Guest):Prop:=g.Prog.length<=1048576/\g.Written.length<=1048576/\g.Live.length<=1048576/\g.Seen.length<=1048576
def zBe (l:List Guest):Prop:=l.length<=1048576/\∀x∈l,SmG x
def SmB (b:Bare):Prop:=SmM b.Memory/\zBe b.Guests/\b.Outs.length<=1048576
def zVJ (l:List Bare):Prop:=l.length<=1048576/\∀x∈l,SmB x
theorem zZS:sm=1048576:=rfl
@[simp] theorem zWi (l:List Int):CVB sm (.s .int l)↔l.length<=1048576:=zU3 sm l
@[simp] theorem z2G (l:List Int):CVB sm (.s .u8 l)↔l.length<=1048576:=z1H sm l
@[simp] theorem zSN (l:List Bool):CVB sm (.s .bool l)↔l.length<=1048576:=zZg sm l
@[simp] theorem zSO (l:List Slot):CVB sm (.s .slot l)↔l.length<=1048576:=zZi sm l
@[simp] theorem z2o (l:List Ins):CVB sm (.s .ins l)↔l.length<=1048576:=z0Q sm l
@[simp] theorem zPu (l:List Entry):CVB sm (.s .entry l)↔l.length<=1048576:=zXI sm l
@[simp] theorem z2m (l:List GAct):CVB sm (.s .act l)↔l.length<=1048576:=z0P sm l
@[simp] theorem z2f (l:List Told):CVB sm (.s .told l)↔l.length<=1048576:=zZj sm l
@[simp] theorem znF (l:List (List Int)):CVB sm (.s (.sl .int) l)↔SmM l:=by rw [zjM];simp [Ty.cells,SmM,zZS]
@[simp] theorem z0N (g:Guest):(∀c∈Ty.cells .guest g,CVB sm c)↔SmG g:=by simp [Ty.cells,SmG,zZS]
@[simp] theorem zLZ (l:List Guest):CVB sm (.s .guest l)↔zBe l:=by rw [zjM];simp only [z0N];rfl
@[simp] theorem z0M (b:Bare):(∀c∈Ty.cells .bare b,CVB sm c)↔SmB b:=by
 simp only [Ty.cells,List.mem_cons,List.not_mem_nil,or_false,forall_eq_or_imp,forall_eq,znF,zLZ,zU3,z0k,and_true];rfl
@[simp] theorem z2J (l:List Bare):CVB sm (.s .bare l)↔zVJ l:=by rw [zjM];simp only [z0M];rfl
@[simp] theorem z3b (a:List Ins)(b c:Int)(d e:List Slot)(f:Ctl)(g:Int)(h:GExit)(i:Bool)(j:List Int):SmG ⟨a,b,c,d,e,f,g,h,i,j⟩↔a.length<=1048576/\d.length<=1048576/\e.length<=1048576/\j.length<=1048576:=Iff.rfl
@[simp] theorem z3a (m:List (List Int))(g:List Guest)(o:List Int)(p:Int):SmB ⟨m,g,o,p⟩↔SmM m/\zBe g/\o.length<=1048576:=Iff.rfl
theorem zIv {m:List (List Int)}{i:Int}{x:List Int}(h:SmM m)(hx:x.length<=1048576):SmM (up m i x):=by
 refine ⟨by simpa using h.1,fun y hy=>?_⟩
 rcases List.mem_or_eq_of_mem_set hy with hy|rfl
 ·exact h.2 y hy
 ·exact hx
theorem zLC {m:List Guest}{i:Int}{x:Guest}(h:zBe m)(hx:SmG x):zBe (up m i x):=by
 refine ⟨by simpa using h.1,fun y hy=>?_⟩
 rcases List.mem_or_eq_of_mem_set hy with hy|rfl
 ·exact h.2 y hy
 ·exact hx
theorem z1o {m:List Bare}{i:Int}{x:Bare}(h:zVJ m)(hx:SmB x):zVJ (up m i x):=by
 refine ⟨by simpa using h.1,fun y hy=>?_⟩
 rcases List.mem_or_eq_of_mem_set hy with hy|rfl
 ·exact h.2 y hy
 ·exact hx
theorem zYF {l:List Guest}{i:Int}(h:zBe l)(hh:hasB i (ln l)=true)(d:Guest):SmG (ix l i d):=h.2 _ (zdd hh d)
theorem z15 {l:List (List Int)}{i:Int}(h:SmM l)(hh:hasB i (ln l)=true)(d:List Int):(ix l i d).length<=1048576:=h.2 _ (zdd hh d)
@[simp] theorem z2A:SmG zi:=⟨by decide,by decide,by decide,by decide⟩
def win (x a b:Int):Bool:=ige x a&&ile x b
@[simp] theorem z0D (x a b:Int):zbe x a b=win x a b:=rfl
@[simp] theorem z3d (x a b:Int):zby x a b=win x a b:=rfl
@[simp] theorem zPP (i n:Int):inb i n=hasB i n:=rfl
attribute [simp] zcS
@[simp] theorem zr5 {α:Type}{l:List α}(h:l.length<=1048576)(i:Int):win i 0 (wsub .i64 (ln l) 1)=hasB i (ln l):=zL6 (zcA h).1 i
theorem zGa {α:Type}{l:List α}(h:l.length<=big)(i:Int):win i 0 (wsub .i64 (ln l) 1)=hasB i (ln l):=zL6 h i
theorem zfT {x a b:Int}:(win x a b=true)↔a<=x/\x<=b:=by
 unfold win ige ile;simp only [Bool.and_eq_true,decide_eq_true_iff]
theorem z00 (a b:Int):ilt a b = !ige a b:=by
 unfold ilt ige
 by_cases h:a<b
 ·rw [decide_eq_true h,decide_eq_false (by omega)];rfl
 ·rw [decide_eq_false h,decide_eq_true (by omega)];rfl
attribute [simp] zb0 zcE zf7 zf0 zgB zgv zgC zdL zeS zdM zos znJ zc6 zc4
attribute [simp] zdf zcy zkH zdh
attribute [simp] zgi zc8 zit zdn
def zdw (a:Int):Int:=bif ilt a 0 then -1 else zSF .i64 a 4
def zgq (a:Int):Int:=bif ilt a 0 then -1 else zfH a 4
@[simp,reducible] def zhO (a:Int):Bool:=true
@[simp,reducible] def zM (a:Int):Int:=zdw a
def zoi:List AV->Option (Bool×List AV)
 | [.one (.i .i64 b)]=>some ((zhO b),[.one (.i .i64 (zM b))])
 | _=>none
def zsA (N:Nat)(a0:Int):Option Ans :=
 (cond (ilt a0 0) (some [(.one (.i .i64 (-1)))]) (cond (ine 4 0) (some [(.one (.i .i64 (zSF .i64 a0 4)))]) none))
theorem zN9 (N:Nat)(a0:Int):evalFn (cQ ze9 zV zK zO) (zB []) N 12 98 [.one (.i .i64 a0)]=zsA N a0:=by kernel_rfl
theorem zKU (a0:Int)(hb:zG big [.one (.i .i64 a0)])(hc:(zhO a0)=true):∃N,zsA N a0=some [.one (.i .i64 (zM a0))]:=by
 refine ⟨0,?_⟩;unfold zsA;refine br (fun _=>?_) (fun _=>must rfl ?_)
 all_goals first|rfl|(simp only [*,zM,zdw,cT,cF]<;>rfl)|simp_all [Ty.cells,zM,zdw]
theorem zFd:Holds Tryz.prog 98 zoi:=zo zcV zD zu zy (zC (by kernel_rfl)) fun avs rs hb h=>by
 unfold zoi at h;split at h
 ·obtain ⟨hc,rfl⟩:=zl h;exact (fin1 zKU zN9 hc hb :)
 ·cases h
@[simp,reducible] def zfv (a:Int):Bool:=true
@[simp,reducible] def zbH (a:Int):Int:=zdw a
def znS:List AV->Option (Bool×List AV)
 | [.one (.i .i64 b)]=>some ((zfv b),[.one (.i .i64 (zbH b))])
 | _=>none
def zr8 (N:Nat)(a0:Int):Option Ans :=
 (cond (ilt a0 0) (some [(.one (.i .i64 (-1)))]) (cond (ine 4 0) (some [(.one (.i .i64 (zSF .i64 a0 4)))]) none))
theorem zNG (N:Nat)(a0:Int):evalFn (cQ ze9 zV zK zO) (zB []) N 12 56 [.one (.i .i64 a0)]=zr8 N a0:=by kernel_rfl
theorem zKq (a0:Int)(hb:zG big [.one (.i .i64 a0)])(hc:(zfv a0)=true):∃N,zr8 N a0=some [.one (.i .i64 (zbH a0))]:=by
 refine ⟨0,?_⟩;unfold zr8;refine br (fun _=>?_) (fun _=>must rfl ?_)
 all_goals first|rfl|(simp only [*,zbH,zdw,cT,cF]<;>rfl)|simp_all [Ty.cells,zbH,zdw]
theorem zEK:Holds Tryz.prog 56 znS:=zo zcV zD zu zy (zC (by kernel_rfl)) fun avs rs hb h=>by
 unfold znS at h;split at h
 ·obtain ⟨hc,rfl⟩:=zl h;exact (fin1 zKq zNG hc hb :)
 ·cases h
@[simp,reducible] def znc (a:Int):Bool:=true
@[simp,reducible] def zf5 (a:Int):Int:=zgq a
def zoh:List AV->Option (Bool×List AV)
 | [.one (.i .i64 b)]=>some ((znc b),[.one (.i .i64 (zf5 b))])
 | _=>none
def zsz (N:Nat)(a0:Int):Option Ans :=
 (cond (ilt a0 0) (some [(.one (.i .i64 (-1)))]) (cond (ine 4 0) (some [(.one (.i .i64 (zfH a0 4)))]) none))
theorem zN8 (N:Nat)(a0:Int):evalFn (cQ ze9 zV zK zO) (zB []) N 12 103 [.one (.i .i64 a0)]=zsz N a0:=by kernel_rfl
theorem zKT (a0:Int)(hb:zG big [.one (.i .i64 a0)])(hc:(znc a0)=true):∃N,zsz N a0=some [.one (.i .i64 (zf5 a0))]:=by
 refine ⟨0,?_⟩;unfold zsz;refine br (fun _=>?_) (fun _=>must rfl ?_)
 all_goals first|rfl|(simp only [*,zf5,zgq,cT,cF]<;>rfl)|simp_all [Ty.cells,zf5,zgq]
theorem zFc:Holds Tryz.prog 103 zoh:=zo zcV zD zu zy (zC (by kernel_rfl)) fun avs rs hb h=>by
 unfold zoh at h;split at h
 ·obtain ⟨hc,rfl⟩:=zl h;exact (fin1 zKT zN8 hc hb :)
 ·cases h
@[simp,reducible] def zfu (a:Int):Bool:=true
@[simp,reducible] def zcl (a:Int):Int:=zgq a
def znR:List AV->Option (Bool×List AV)
 | [.one (.i .i64 b)]=>some ((zfu b),[.one (.i .i64 (zcl b))])
 | _=>none
def zr7 (N:Nat)(a0:Int):Option Ans :=
 (cond (ilt a0 0) (some [(.one (.i .i64 (-1)))]) (cond (ine 4 0) (some [(.one (.i .i64 (zfH a0 4)))]) none))
theorem zNF (N:Nat)(a0:Int):evalFn (cQ ze9 zV zK zO) (zB []) N 12 61 [.one (.i .i64 a0)]=zr7 N a0:=by kernel_rfl
theorem zKp (a0:Int)(hb:zG big [.one (.i .i64 a0)])(hc:(zfu a0)=true):∃N,zr7 N a0=some [.one (.i .i64 (zcl a0))]:=by
 refine ⟨0,?_⟩;unfold zr7;refine br (fun _=>?_) (fun _=>must rfl ?_)
 all_goals first|rfl|(simp only [*,zcl,zgq,cT,cF]<;>rfl)|simp_all [Ty.cells,zcl,zgq]
theorem zEJ:Holds Tryz.prog 61 znR:=zo zcV zD zu zy (zC (by kernel_rfl)) fun avs rs hb h=>by
 unfold znR at h;split at h
 ·obtain ⟨hc,rfl⟩:=zl h;exact (fin1 zKp zNF hc hb :)
 ·cases h
def zeP (w:Bool):Int:=bif w then 2 else 1
@[simp,reducible] def zrP (w:Bool):Bool:=true
@[simp,reducible] def zba (w:Bool):Int:=zeP w
def zuh:List AV->Option (Bool×List AV)
 | [.one (.b c)]=>some ((zrP c),[.one (.i .i64 (zba c))])
 | _=>none
def zyO (N:Nat)(a0:Bool):Option Ans :=
 (cond a0 (some [(.one (.i .i64 2))]) (some [(.one (.i .i64 1))]))
theorem zUh (N:Nat)(a0:Bool):evalFn (cQ ze9 zV zK zO) (zB []) N 12 99 [.one (.b a0)]=zyO N a0:=by kernel_rfl
theorem zQM (a0:Bool)(hb:zG big [.one (.b a0)])(hc:(zrP a0)=true):∃N,zyO N a0=some [.one (.i .i64 (zba a0))]:=by
 refine ⟨0,?_⟩;unfold zyO;refine br (fun _=>?_) (fun _=>?_)
 all_goals first|rfl|(simp only [*,zba,zeP,cT,cF]<;>rfl)|simp_all [Ty.cells,zba,zeP]
theorem zJ6:Holds Tryz.prog 99 zuh:=zo zcV zD zu zy (zC (by kernel_rfl)) fun avs rs hb h=>by
 unfold zuh at h;split at h
 ·obtain ⟨hc,rfl⟩:=zl h;exact (fin1 zQM zUh hc hb :)
 ·cases h
@[simp,reducible] def zmi (w:Bool):Bool:=true
@[simp,reducible] def zcr (w:Bool):Int:=zeP w
def ztv:List AV->Option (Bool×List AV)
 | [.one (.b c)]=>some ((zmi c),[.one (.i .i64 (zcr c))])
 | _=>none
def zx8 (N:Nat)(a0:Bool):Option Ans :=
 (cond a0 (some [(.one (.i .i64 2))]) (some [(.one (.i .i64 1))]))
theorem zTy (N:Nat)(a0:Bool):evalFn (cQ ze9 zV zK zO) (zB []) N 12 57 [.one (.b a0)]=zx8 N a0:=by kernel_rfl
theorem zP3 (a0:Bool)(hb:zG big [.one (.b a0)])(hc:(zmi a0)=true):∃N,zx8 N a0=some [.one (.i .i64 (zcr a0))]:=by
 refine ⟨0,?_⟩;unfold zx8;refine br (fun _=>?_) (fun _=>?_)
 all_goals first|rfl|(simp only [*,zcr,zeP,cT,cF]<;>rfl)|simp_all [Ty.cells,zcr,zeP]
theorem zJn:Holds Tryz.prog 57 ztv:=zo zcV zD zu zy (zC (by kernel_rfl)) fun avs rs hb h=>by
 unfold ztv at h;split at h
 ·obtain ⟨hc,rfl⟩:=zl h;exact (fin1 zP3 zTy hc hb :)
 ·cases h
def zuU (p:Int)(w:Bool):GExit:=⟨1,p,w,0⟩
def zy6 (n:Int):GExit:=⟨2,0,false,n⟩
def zCH (n:Int):GExit:=⟨3,0,false,n⟩
@[simp,reducible] def zkW (p:Int)(w:Bool):Bool:=true
@[simp,reducible] def zgf (p:Int)(w:Bool):GExit:=zuU p w
def zmY:List AV->Option (Bool×List AV)
 | [.one (.i .i64 c),.one (.b d)]=>some ((zkW c d),[.agg (zdQ (zgf c d))])
 | _=>none
def zpV (N:Nat)(a0:Int)(a1:Bool):Option Ans :=
 (some [(.agg [(.i .i64 1),(.i .i64 a0),(.b a1),(.i .i64 0)])])
theorem zLp (N:Nat)(a0:Int)(a1:Bool):evalFn (cQ ze9 zV zK zO) (zB []) N 12 101 [.one (.i .i64 a0),.one (.b a1)]=zpV N a0 a1:=by kernel_rfl
theorem zHZ (a0:Int)(a1:Bool)(hb:zG big [.one (.i .i64 a0),.one (.b a1)])(hc:(zkW a0 a1)=true):∃N,zpV N a0 a1=some [.agg (zdQ (zgf a0 a1))]:=by
 refine ⟨0,?_⟩;unfold zpV
 first|rfl|(simp only [*,zgf,cT,cF]<;>rfl)|simp_all [Ty.cells,zgf]
theorem zDf:Holds Tryz.prog 101 zmY:=zo zcV zD zu zy (zC (by kernel_rfl)) fun avs rs hb h=>by
 unfold zmY at h;split at h
 ·obtain ⟨hc,rfl⟩:=zl h;exact (fin2 zHZ zLp hc hb :)
 ·cases h
@[simp,reducible] def zik (p:Int)(w:Bool):Bool:=true
@[simp,reducible] def zdY (p:Int)(w:Bool):GExit:=zuU p w
def zmI:List AV->Option (Bool×List AV)
 | [.one (.i .i64 c),.one (.b d)]=>some ((zik c d),[.agg (zdQ (zdY c d))])
 | _=>none
def zpw (N:Nat)(a0:Int)(a1:Bool):Option Ans :=
 (some [(.agg [(.i .i64 1),(.i .i64 a0),(.b a1),(.i .i64 0)])])
theorem zK6 (N:Nat)(a0:Int)(a1:Bool):evalFn (cQ ze9 zV zK zO) (zB []) N 12 59 [.one (.i .i64 a0),.one (.b a1)]=zpw N a0 a1:=by kernel_rfl
theorem zHG (a0:Int)(a1:Bool)(hb:zG big [.one (.i .i64 a0),.one (.b a1)])(hc:(zik a0 a1)=true):∃N,zpw N a0 a1=some [.agg (zdQ (zdY a0 a1))]:=by
 refine ⟨0,?_⟩;unfold zpw
 first|rfl|(simp only [*,zdY,cT,cF]<;>rfl)|simp_all [Ty.cells,zdY]
theorem zCW:Holds Tryz.prog 59 zmI:=zo zcV zD zu zy (zC (by kernel_rfl)) fun avs rs hb h=>by
 unfold zmI at h;split at h
 ·obtain ⟨hc,rfl⟩:=zl h;exact (fin2 zHG zK6 hc hb :)
 ·cases h
@[simp,reducible] def zuy (n:Int):Bool:=true
@[simp,reducible] def zj7 (n:Int):GExit:=zy6 n
def zok:List AV->Option (Bool×List AV)
 | [.one (.i .i64 b)]=>some ((zuy b),[.agg (zdQ (zj7 b))])
 | _=>none
def zsC (N:Nat)(a0:Int):Option Ans :=
 (some [(.agg [(.i .i64 2),(.i .i64 0),(.b false),(.i .i64 a0)])])
theorem zOb (N:Nat)(a0:Int):evalFn (cQ ze9 zV zK zO) (zB []) N 12 165 [.one (.i .i64 a0)]=zsC N a0:=by kernel_rfl
theorem zKW (a0:Int)(hb:zG big [.one (.i .i64 a0)])(hc:(zuy a0)=true):∃N,zsC N a0=some [.agg (zdQ (zj7 a0))]:=by
 refine ⟨0,?_⟩;unfold zsC
 first|rfl|(simp only [*,zj7,cT,cF]<;>rfl)|simp_all [Ty.cells,zj7]
theorem zFf:Holds Tryz.prog 165 zok:=zo zcV zD zu zy (zC (by kernel_rfl)) fun avs rs hb h=>by
 unfold zok at h;split at h
 ·obtain ⟨hc,rfl⟩:=zl h;exact (fin1 zKW zOb hc hb :)
 ·cases h
@[simp,reducible] def zme (n:Int):Bool:=true
@[simp,reducible] def zfh (n:Int):GExit:=zy6 n
def znV:List AV->Option (Bool×List AV)
 | [.one (.i .i64 b)]=>some ((zme b),[.agg (zdQ (zfh b))])
 | _=>none
def zsb (N:Nat)(a0:Int):Option Ans :=
 (some [(.agg [(.i .i64 2),(.i .i64 0),(.b false),(.i .i64 a0)])])
theorem zNJ (N:Nat)(a0:Int):evalFn (cQ ze9 zV zK zO) (zB []) N 12 139 [.one (.i .i64 a0)]=zsb N a0:=by kernel_rfl
theorem zKt (a0:Int)(hb:zG big [.one (.i .i64 a0)])(hc:(zme a0)=true):∃N,zsb N a0=some [.agg (zdQ (zfh a0))]:=by
 refine ⟨0,?_⟩;unfold zsb
 first|rfl|(simp only [*,zfh,cT,cF]<;>rfl)|simp_all [Ty.cells,zfh]
theorem zEN:Holds Tryz.prog 139 znV:=zo zcV zD zu zy (zC (by kernel_rfl)) fun avs rs hb h=>by
 unfold znV at h;split at h
 ·obtain ⟨hc,rfl⟩:=zl h;exact (fin1 zKt zNJ hc hb :)
 ·cases h
@[simp,reducible] def zxa (n:Int):Bool:=true
@[simp,reducible] def zlH (n:Int):GExit:=zCH n
def zqK:List AV->Option (Bool×List AV)
 | [.one (.i .i64 b)]=>some ((zxa b),[.agg (zdQ (zlH b))])
 | _=>none
def zwj (N:Nat)(a0:Int):Option Ans :=
 (some [(.agg [(.i .i64 3),(.i .i64 0),(.b false),(.i .i64 a0)])])
theorem zRH (N:Nat)(a0:Int):evalFn (cQ ze9 zV zK zO) (zB []) N 12 166 [.one (.i .i64 a0)]=zwj N a0:=by kernel_rfl
theorem zNr (a0:Int)(hb:zG big [.one (.i .i64 a0)])(hc:(zxa a0)=true):∃N,zwj N a0=some [.agg (zdQ (zlH a0))]:=by
 refine ⟨0,?_⟩;unfold zwj
 first|rfl|(simp only [*,zlH,cT,cF]<;>rfl)|simp_all [Ty.cells,zlH]
theorem zHg:Holds Tryz.prog 166 zqK:=zo zcV zD zu zy (zC (by kernel_rfl)) fun avs rs hb h=>by
 unfold zqK at h;split at h
 ·obtain ⟨hc,rfl⟩:=zl h;exact (fin1 zNr zRH hc hb :)
 ·cases h
@[simp,reducible] def zwD (n:Int):Bool:=true
@[simp,reducible] def zlx (n:Int):GExit:=zCH n
def zqf:List AV->Option (Bool×List AV)
 | [.one (.i .i64 b)]=>some ((zwD b),[.agg (zdQ (zlx b))])
 | _=>none
def zvQ (N:Nat)(a0:Int):Option Ans :=
 (some [(.agg [(.i .i64 3),(.i .i64 0),(.b false),(.i .i64 a0)])])
theorem zRd (N:Nat)(a0:Int):evalFn (cQ ze9 zV zK zO) (zB []) N 12 185 [.one (.i .i64 a0)]=zvQ N a0:=by kernel_rfl
theorem zMX (a0:Int)(hb:zG big [.one (.i .i64 a0)])(hc:(zwD a0)=true):∃N,zvQ N a0=some [.agg (zdQ (zlx a0))]:=by
 refine ⟨0,?_⟩;unfold zvQ
 first|rfl|(simp only [*,zlx,cT,cF]<;>rfl)|simp_all [Ty.cells,zlx]
theorem zGM:Holds Tryz.prog 185 zqf:=zo zcV zD zu zy (zC (by kernel_rfl)) fun avs rs hb h=>by
 unfold zqf at h;split at h
 ·obtain ⟨hc,rfl⟩:=zl h;exact (fin1 zMX zRd hc hb :)
 ·cases h
def zdl (t x:Int):Bool:=bif win t 0 3 then (cond (win x 1 2) (ine (wand .i64 t x) 0) false) else false
theorem z0C (x:Int):win x 1 2=(ieq x 1||ieq x 2):=by
 have h:(win x 1 2=true)↔(ieq x 1||ieq x 2)=true:=by
  rw [zfT];simp only [ieq,Bool.or_eq_true,beq_iff_eq];omega
 cases h1:win x 1 2<;>cases h2:(ieq x 1||ieq x 2)<;>simp_all
@[simp,reducible] def zhm (t x:Int):Bool:=true
@[simp,reducible] def zhb (t x:Int):Bool:=zdl t x
def zqJ:List AV->Option (Bool×List AV)
 | [.one (.i .i64 c),.one (.i .i64 d)]=>some ((zhm c d),[.one (.b (zhb c d))])
 | _=>none
def zwi (N:Nat)(a0 a1:Int):Option Ans :=
 (cond (zZ a0 0 3) (cond (zbe a0 0 3) (cond (zZ a1 1 2) (cond (zbe a1 1 2) (some [(.one (.b (ine (wand .i64 a0 a1) 0)))]) (some [(.one (.b false))])) none) (some [(.one (.b false))])) none)
theorem zRG (N:Nat)(a0 a1:Int):evalFn (cQ ze9 zV zK zO) (zB []) N 12 164 [.one (.i .i64 a0),.one (.i .i64 a1)]=zwi N a0 a1:=by kernel_rfl
theorem zNq (a0 a1:Int)(hb:zG big [.one (.i .i64 a0),.one (.i .i64 a1)])(hc:(zhm a0 a1)=true):∃N,zwi N a0 a1=some [.one (.b (zhb a0 a1))]:=by
 refine ⟨0,?_⟩;unfold zwi;refine must rfl (br (fun _=>must rfl (br (fun _=>?_) (fun _=>?_))) (fun _=>?_))
 all_goals first|rfl|(simp only [*,zhb,zdl,cT,cF]<;>rfl)|simp_all [Ty.cells,zhb,zdl]
theorem zHf:Holds Tryz.prog 164 zqJ:=zo zcV zD zu zy (zC (by kernel_rfl)) fun avs rs hb h=>by
 unfold zqJ at h;split at h
 ·obtain ⟨hc,rfl⟩:=zl h;exact (fin2 zNq zRG hc hb :)
 ·cases h
@[simp,reducible] def ziC (t x:Int):Bool:=true
@[simp,reducible] def zhS (t x:Int):Bool:=zdl t x
def zqe:List AV->Option (Bool×List AV)
 | [.one (.i .i64 c),.one (.i .i64 d)]=>some ((ziC c d),[.one (.b (zhS c d))])
 | _=>none
def zvP (N:Nat)(a0 a1:Int):Option Ans :=
 (cond (zbm a0 0 3) (cond (zby a0 0 3) (cond (ieq a1 1) (some [(.one (.b (ine (wand .i64 a0 a1) 0)))]) (cond (ieq a1 2) (some [(.one (.b (ine (wand .i64 a0 a1) 0)))]) (some [(.one (.b false))]))) (some [(.one (.b false))])) none)
theorem zRc (N:Nat)(a0 a1:Int):evalFn (cQ ze9 zV zK zO) (zB []) N 12 140 [.one (.i .i64 a0),.one (.i .i64 a1)]=zvP N a0 a1:=by kernel_rfl
theorem zMW (a0 a1:Int)(hb:zG big [.one (.i .i64 a0),.one (.i .i64 a1)])(hc:(ziC a0 a1)=true):∃N,zvP N a0 a1=some [.one (.b (zhS a0 a1))]:=by
 refine ⟨0,?_⟩;unfold zvP;refine must rfl (br (fun _=>br (fun _=>?_) (fun _=>br (fun _=>?_) (fun _=>?_))) (fun _=>?_))
 all_goals first|rfl|(simp only [*,zhS,zdl,z0C,cT,cF]<;>rfl)|simp_all [Ty.cells,zhS,zdl,z0C]
theorem zGL:Holds Tryz.prog 140 zqe:=zo zcV zD zu zy (zC (by kernel_rfl)) fun avs rs hb h=>by
 unfold zqe at h;split at h
 ·obtain ⟨hc,rfl⟩:=zl h;exact (fin2 zMW zRc hc hb :)
 ·cases h
def zgz (p:Int):Bool:=win p 0 255
@[simp,reducible] def zhc (p:Int):Bool:=true
@[simp,reducible] def zgD (p:Int):Bool:=zgz p
def zul:List AV->Option (Bool×List AV)
 | [.one (.i .i64 c)]=>some ((zhc c),[.one (.b (zgD c))])
 | _=>none
def zyR (N:Nat)(a0:Int):Option Ans :=
 (cond (zZ a0 0 255) (some [(.one (.b (zbe a0 0 255)))]) none)
theorem zUl (N:Nat)(a0:Int):evalFn (cQ ze9 zV zK zO) (zB []) N 12 197 [.one (.i .i64 a0)]=zyR N a0:=by kernel_rfl
theorem zQQ (a0:Int)(hb:zG big [.one (.i .i64 a0)])(hc:(zhc a0)=true):∃N,zyR N a0=some [.one (.b (zgD a0))]:=by
 refine ⟨0,?_⟩;unfold zyR;refine must rfl ?_
 first|rfl|(simp only [*,zgD,zgz,cT,cF]<;>rfl)|simp_all [Ty.cells,zgD,zgz]
theorem zKa:Holds Tryz.prog 197 zul:=zo zcV zD zu zy (zC (by kernel_rfl)) fun avs rs hb h=>by
 unfold zul at h;split at h
 ·obtain ⟨hc,rfl⟩:=zl h;exact (fin1 zQQ zUl hc hb :)
 ·cases h
@[simp,reducible] def zh1 (p:Int):Bool:=true
@[simp,reducible] def zh0 (p:Int):Bool:=zgz p
def ztA:List AV->Option (Bool×List AV)
 | [.one (.i .i64 c)]=>some ((zh1 c),[.one (.b (zh0 c))])
 | _=>none
def zyc (N:Nat)(a0:Int):Option Ans :=
 (cond (zbm a0 0 255) (some [(.one (.b (zby a0 0 255)))]) none)
theorem zTD (N:Nat)(a0:Int):evalFn (cQ ze9 zV zK zO) (zB []) N 12 173 [.one (.i .i64 a0)]=zyc N a0:=by kernel_rfl
theorem zP8 (a0:Int)(hb:zG big [.one (.i .i64 a0)])(hc:(zh1 a0)=true):∃N,zyc N a0=some [.one (.b (zh0 a0))]:=by
 refine ⟨0,?_⟩;unfold zyc;refine must rfl ?_
 first|rfl|(simp only [*,zh0,zgz,cT,cF]<;>rfl)|simp_all [Ty.cells,zh0,zgz]
theorem zJs:Holds Tryz.prog 173 ztA:=zo zcV zD zu zy (zC (by kernel_rfl)) fun avs rs hb h=>by
 unfold ztA at h;split at h
 ·obtain ⟨hc,rfl⟩:=zl h;exact (fin1 zP8 zTD hc hb :)
 ·cases h
def zdE (l:List Ins)(p:Int):Ins:=bif hasB p (ln l) then ix l p zfs else ⟨7,0⟩
@[simp,reducible] def ze0 (l:List Ins)(p:Int):Bool:=true
@[simp,reducible] def zbN (l:List Ins)(p:Int):Ins:=zdE l p
def zw1:List AV->Option (Bool×List AV)
 | [.one (.s .ins b),.one (.i .i64 c)]=>some ((ze0 b c),[.agg (Ty.cells .ins (zbN b c))])
 | _=>none
def zA4 (N:Nat)(a0:List Ins)(a1:Int):Option Ans :=
 (cond (zZ a1 0 (wsub .i64 (ln a0) 1)) (cond (cond (zbe a1 0 (wsub .i64 (ln a0) 1)) false true) (some [(.agg [(.i .i64 7),(.i .i64 0)])]) (cond (inb a1 (ln a0)) (some [(.agg [(.i .i64 (ix a0 a1 zfs).Op),(.i .i64 (ix a0 a1 zfs).X)])]) none)) none)
theorem zW2 (N:Nat)(a0:List Ins)(a1:Int):evalFn (cQ ze9 zV zK zO) (zB []) N 12 91 [.one (.s .ins a0),.one (.i .i64 a1)]=zA4 N a0 a1:=by kernel_rfl
theorem zTf (a0:List Ins)(a1:Int)(hb:zG big [.one (.s .ins a0),.one (.i .i64 a1)])(hc:(ze0 a0 a1)=true):∃N,zA4 N a0 a1=some [.agg (Ty.cells .ins (zbN a0 a1))]:=by
 have hl:=((zbu hb).1 _ (List.mem_singleton.2 rfl)).len;have hw:=zGa hl
 refine ⟨0,?_⟩;unfold zA4;refine must rfl (brN (fun _=>?_) (fun _=>must (by first|assumption|(simp_all<;>omega)) ?_))
 all_goals first|rfl|(simp only [*,zbN,zdE,cT,cF]<;>rfl)|simp_all [Ty.cells,zbN,zdE]
theorem zMI:Holds Tryz.prog 91 zw1:=zo zcV zD zu zy (zC (by kernel_rfl)) fun avs rs hb h=>by
 unfold zw1 at h;split at h
 ·obtain ⟨hc,rfl⟩:=zl h;exact (fin2 zTf zW2 hc hb :)
 ·cases h
@[simp,reducible] def zfw (l:List Ins)(p:Int):Bool:=true
@[simp,reducible] def zb3 (l:List Ins)(p:Int):Ins:=zdE l p
def zwM:List AV->Option (Bool×List AV)
 | [.one (.s .ins b),.one (.i .i64 c)]=>some ((zfw b c),[.agg (Ty.cells .ins (zb3 b c))])
 | _=>none
def zAP (N:Nat)(a0:List Ins)(a1:Int):Option Ans :=
 (cond (zcz a1 (ln a0)) (cond (cond (zcS a1 (ln a0)) false true) (some [(.agg [(.i .i64 7),(.i .i64 0)])]) (cond (inb a1 (ln a0)) (some [(.agg [(.i .i64 (ix a0 a1 zfs).Op),(.i .i64 (ix a0 a1 zfs).X)])]) none)) none)
theorem zWM (N:Nat)(a0:List Ins)(a1:Int):evalFn (cQ ze9 zV zK zO) (zB []) N 12 123 [.one (.s .ins a0),.one (.i .i64 a1)]=zAP N a0 a1:=by kernel_rfl
theorem zSZ (a0:List Ins)(a1:Int)(hb:zG big [.one (.s .ins a0),.one (.i .i64 a1)])(hc:(zfw a0 a1)=true):∃N,zAP N a0 a1=some [.agg (Ty.cells .ins (zb3 a0 a1))]:=by
 refine ⟨0,?_⟩;unfold zAP;refine must rfl (brN (fun _=>?_) (fun _=>must (by first|assumption|(simp_all<;>omega)) ?_))
 all_goals first|rfl|(simp only [*,zb3,zdE,cT,cF]<;>rfl)|simp_all [Ty.cells,zb3,zdE]
theorem zMs:Holds Tryz.prog 123 zwM:=zo zcV zD zu zy (zC (by kernel_rfl)) fun avs rs hb h=>by
 unfold zwM at h;split at h
 ·obtain ⟨hc,rfl⟩:=zl h;exact (fin2 zSZ zWM hc hb :)
 ·cases h
def zeU (w:Int):Int:=bif ieq w 5 then 1 else 2
@[simp,reducible] def zmo (w:Int):Bool:=true
@[simp,reducible] def zfP (w:Int):Int:=zeU w
def ztL:List AV->Option (Bool×List AV)
 | [.one (.i .i64 b)]=>some ((zmo b),[.one (.i .i64 (zfP b))])
 | _=>none
def zyn (N:Nat)(a0:Int):Option Ans :=
 (cond (ieq a0 5) (some [(.one (.i .i64 1))]) (some [(.one (.i .i64 2))]))
theorem zTO (N:Nat)(a0:Int):evalFn (cQ ze9 zV zK zO) (zB []) N 12 129 [.one (.i .i64 a0)]=zyn N a0:=by kernel_rfl
theorem zQj (a0:Int)(hb:zG big [.one (.i .i64 a0)])(hc:(zmo a0)=true):∃N,zyn N a0=some [.one (.i .i64 (zfP a0))]:=by
 refine ⟨0,?_⟩;unfold zyn;refine br (fun _=>?_) (fun _=>?_)
 all_goals first|rfl|(simp only [*,zfP,zeU,cT,cF]<;>rfl)|simp_all [Ty.cells,zfP,zeU]
theorem zJD:Holds Tryz.prog 129 ztL:=zo zcV zD zu zy (zC (by kernel_rfl)) fun avs rs hb h=>by
 unfold ztL at h;split at h
 ·obtain ⟨hc,rfl⟩:=zl h;exact (fin1 zQj zTO hc hb :)
 ·cases h
def zeT (s:Slot)(n:Int):Bool:=bif zec s noSlot then true else (cond (igt n 0) (cond (win s.Page 0 (wsub .i64 n 1)) (win s.Rights 1 3) false) false)
@[simp,reducible] def zAc (s:Slot)(n:Int):Bool:=true
@[simp,reducible] def zuD (s:Slot)(n:Int):Bool:=zeT s n
def zuo:List AV->Option (Bool×List AV)
 | [.agg [.i .i64 c,.i .i64 d],.one (.i .i64 e)]=>some ((zAc (⟨c,d⟩:Slot) e),[.one (.b (zuD (⟨c,d⟩:Slot) e))])
 | _=>none
def zyU (N:Nat)(a0:Slot)(a1:Int):Option Ans :=
 (cond zc6 (cond (cond (ieq a0.Page zb0.Page) (ieq a0.Rights zb0.Rights) false) (some [(.one (.b true))]) (cond (zZ a0.Page 0 (wsub .i64 a1 1)) (cond (zbe a0.Page 0 (wsub .i64 a1 1)) (cond (igt a1 0) (cond (zZ a0.Rights 1 3) (some [(.one (.b (zbe a0.Rights 1 3)))]) none) (some [(.one (.b false))])) (some [(.one (.b false))])) none)) none)
theorem zUo (N:Nat)(a0:Slot)(a1:Int):evalFn (cQ ze9 zV zK zO) (zB []) N 12 221 [.agg (Ty.cells .slot a0),.one (.i .i64 a1)]=zyU N a0 a1:=by kernel_rfl
theorem zQT (a0:Slot)(a1:Int)(hb:zG big [.agg (Ty.cells .slot a0),.one (.i .i64 a1)])(hc:(zAc a0 a1)=true):∃N,zyU N a0 a1=some [.one (.b (zuD a0 a1))]:=by
 refine ⟨0,?_⟩;unfold zyU;refine must rfl (br (fun _=>?_) (fun _=>must rfl (br (fun _=>br (fun _=>must rfl ?_) (fun _=>?_)) (fun _=>?_))))
 all_goals first|rfl|(simp only [*,zuD,zeT,zec,cT,cF]<;>rfl)|simp_all [Ty.cells,zuD,zeT,zec]
theorem zKd:Holds Tryz.prog 221 zuo:=zo zcV zD zu zy (zC (by kernel_rfl)) fun avs rs hb h=>by
 unfold zuo at h;split at h
 ·obtain ⟨hc,rfl⟩:=zl h;exact (fin2 zQT zUo hc hb :)
 ·cases h
@[simp,reducible] def zzG (s:Slot)(n:Int):Bool:=true
@[simp,reducible] def zs6 (s:Slot)(n:Int):Bool:=zeT s n
def ztF:List AV->Option (Bool×List AV)
 | [.agg [.i .i64 c,.i .i64 d],.one (.i .i64 e)]=>some ((zzG (⟨c,d⟩:Slot) e),[.one (.b (zs6 (⟨c,d⟩:Slot) e))])
 | _=>none
def zyh (N:Nat)(a0:Slot)(a1:Int):Option Ans :=
 (cond zc4 (cond (cond (ieq a0.Page zcE.Page) (ieq a0.Rights zcE.Rights) false) (some [(.one (.b true))]) (cond (igt a1 0) (cond (zbm a0.Page 0 (wsub .i64 a1 1)) (cond (zby a0.Page 0 (wsub .i64 a1 1)) (cond (zbm a0.Rights 1 3) (some [(.one (.b (zby a0.Rights 1 3)))]) none) (some [(.one (.b false))])) none) (some [(.one (.b false))]))) none)
theorem zTI (N:Nat)(a0:Slot)(a1:Int):evalFn (cQ ze9 zV zK zO) (zB []) N 12 208 [.agg (Ty.cells .slot a0),.one (.i .i64 a1)]=zyh N a0 a1:=by kernel_rfl
theorem zQd (a0:Slot)(a1:Int)(hb:zG big [.agg (Ty.cells .slot a0),.one (.i .i64 a1)])(hc:(zzG a0 a1)=true):∃N,zyh N a0 a1=some [.one (.b (zs6 a0 a1))]:=by
 refine ⟨0,?_⟩;unfold zyh;refine must rfl (br (fun _=>?_) (fun _=>br (fun _=>must rfl (br (fun _=>must rfl ?_) (fun _=>?_))) (fun _=>?_)))
 all_goals first|rfl|(simp only [*,zs6,zeT,zec,cT,cF]<;>rfl)|simp_all [Ty.cells,zs6,zeT,zec]
theorem zJx:Holds Tryz.prog 208 ztF:=zo zcV zD zu zy (zC (by kernel_rfl)) fun avs rs hb h=>by
 unfold ztF at h;split at h
 ·obtain ⟨hc,rfl⟩:=zl h;exact (fin2 zQd zTI hc hb :)
 ·cases h
@[simp,reducible] def zfO (l:List Slot):Bool:=pc (l.length<=2147483648)
@[simp,reducible] def zeG (l:List Slot):List Slot:=l
def zmP:List AV->Option (Bool×List AV)
 | [.one (.s .slot b)]=>some ((zfO b),[.one (.s .slot (zeG b))])
 | _=>none
def zpD (N:Nat)(a0:List Slot):Option Ans :=
 (cond (few (ln (ap [] a0))) (some [(.one (.s .slot (ap [] a0)))]) none)
theorem zLd (N:Nat)(a0:List Slot):evalFn (cQ ze9 zV zK zO) (zB []) N 12 114 [.one (.s .slot a0)]=zpD N a0:=by kernel_rfl
theorem zHN (a0:List Slot)(hb:zG big [.one (.s .slot a0)])(hc:(zfO a0)=true):∃N,zpD N a0=some [.one (.s .slot (zeG a0))]:=by
 have hs:=zJ.1 hc;refine ⟨0,?_⟩;unfold zpD;refine must (by first|assumption|(simp_all<;>omega)) ?_
 first|rfl|(simp only [*,zeG,cT,cF]<;>rfl)|simp_all [Ty.cells,zeG]
theorem zC3:Holds Tryz.prog 114 zmP:=zo zcV zD zu zy (zC (by kernel_rfl)) fun avs rs hb h=>by
 unfold zmP at h;split at h
 ·obtain ⟨hc,rfl⟩:=zl h;exact (fin1 zHN zLd hc hb :)
 ·cases h
@[simp,reducible] def zs7 (l:List Ins):Bool:=pc (l.length<=2147483648)
@[simp,reducible] def zmn (l:List Ins):List Ins:=l
def zn6:List AV->Option (Bool×List AV)
 | [.one (.s .ins b)]=>some ((zs7 b),[.one (.s .ins (zmn b))])
 | _=>none
def zsl (N:Nat)(a0:List Ins):Option Ans :=
 (cond (few (ln (ap [] a0))) (some [(.one (.s .ins (ap [] a0)))]) none)
theorem zNU (N:Nat)(a0:List Ins):evalFn (cQ ze9 zV zK zO) (zB []) N 12 184 [.one (.s .ins a0)]=zsl N a0:=by kernel_rfl
theorem zKF (a0:List Ins)(hb:zG big [.one (.s .ins a0)])(hc:(zs7 a0)=true):∃N,zsl N a0=some [.one (.s .ins (zmn a0))]:=by
 have hs:=zJ.1 hc;refine ⟨0,?_⟩;unfold zsl;refine must (by first|assumption|(simp_all<;>omega)) ?_
 first|rfl|(simp only [*,zmn,cT,cF]<;>rfl)|simp_all [Ty.cells,zmn]
theorem zEY:Holds Tryz.prog 184 zn6:=zo zcV zD zu zy (zC (by kernel_rfl)) fun avs rs hb h=>by
 unfold zn6 at h;split at h
 ·obtain ⟨hc,rfl⟩:=zl h;exact (fin1 zKF zNU hc hb :)
 ·cases h
def zhK (m:List (List Int))(p c:Int):Bool:=bif hasB p (ln m) then hasB c (ln (ix m p [])) else false
def cellAt (m:List (List Int))(p c:Int):Int:=bif zhK m p c then ix (ix m p []) c 0 else 0
def zfg (m:List (List Int))(p c v:Int):List (List Int):=bif zhK m p c then (cond (win v 0 99) (up m p (up (ix m p []) c v)) m) else m
theorem zzU (m:List (List Int))(p c:Int):(zhK m p c=true)↔hasB p (ln m)=true/\hasB c (ln (ix m p []))=true:=by
 unfold zhK;cases hasB p (ln m)<;>simp
theorem z1G {n:Nat}{m:List (List Int)}(h:CVB n (.s (.sl .int) m)):m.length<=n/\∀p:Int,hasB p (ln m)=true->(ix m p []).length<=n :=
 ⟨h.len,fun p hp=>(h.inv.2 _ (zdd hp []) _ (List.mem_singleton.2 rfl)).len⟩
@[simp,reducible] def zrS (m:List (List Int))(p c:Int):Bool:=true
@[simp,reducible] def zoy (m:List (List Int))(p c:Int):Bool:=zhK m p c
def zut:List AV->Option (Bool×List AV)
 | [.one (.s (.sl .int) c),.one (.i .i64 d),.one (.i .i64 e)]=>some ((zrS c d e),[.one (.b (zoy c d e))])
 | _=>none
def zyZ (N:Nat)(a0:List (List Int))(a1 a2:Int):Option Ans :=
 (cond (zZ a1 0 (wsub .i64 (ln a0) 1)) (cond (zbe a1 0 (wsub .i64 (ln a0) 1)) (cond (inb a1 (ln a0)) (cond (zZ a2 0 (wsub .i64 (ln (ix a0 a1 [])) 1)) (some [(.one (.b (zbe a2 0 (wsub .i64 (ln (ix a0 a1 [])) 1))))]) none) none) (some [(.one (.b false))])) none)
theorem zUt (N:Nat)(a0:List (List Int))(a1 a2:Int):evalFn (cQ ze9 zV zK zO) (zB []) N 12 163 [.one (.s (.sl .int) a0),.one (.i .i64 a1),.one (.i .i64 a2)]=zyZ N a0 a1 a2:=by kernel_rfl
theorem zQY (a0:List (List Int))(a1 a2:Int)(hb:zG big [.one (.s (.sl .int) a0),.one (.i .i64 a1),.one (.i .i64 a2)])(hc:(zrS a0 a1 a2)=true):∃N,zyZ N a0 a1 a2=some [.one (.b (zoy a0 a1 a2))]:=by
 have hl:=z1G ((zbu hb).1 _ (List.mem_singleton.2 rfl));have hw:=zGa hl.1;have hw2:∀p i:Int,hasB p (ln a0)=true->win i 0 (wsub .i64 (ln (ix a0 p [])) 1)=hasB i (ln (ix a0 p [])):=fun p i h=>zGa (hl.2 p h) i
 refine ⟨0,?_⟩;unfold zyZ;refine must rfl (br (fun _=>must (by first|assumption|(simp_all<;>omega)) (must rfl ?_)) (fun _=>?_))
 all_goals first|rfl|(simp only [*,zoy,zhK,cT,cF]<;>rfl)|simp_all [Ty.cells,zoy,zhK]
theorem zKh:Holds Tryz.prog 163 zut:=zo zcV zD zu zy (zC (by kernel_rfl)) fun avs rs hb h=>by
 unfold zut at h;split at h
 ·obtain ⟨hc,rfl⟩:=zl h;exact (zd3 zQY zUt hc hb :)
 ·cases h
@[simp,reducible] def zmf (m:List (List Int))(p c:Int):Bool:=true
@[simp,reducible] def zfL (m:List (List Int))(p c:Int):Int:=cellAt m p c
def ztn:List AV->Option (Bool×List AV)
 | [.one (.s (.sl .int) b),.one (.i .i64 c),.one (.i .i64 d)]=>some ((zmf b c d),[.one (.i .i64 (zfL b c d))])
 | _=>none
def zx0 (N:Nat)(a0:List (List Int))(a1 a2:Int):Option Ans :=
 (cond (zcz a1 (ln a0)) (cond (cond (zcS a1 (ln a0)) false true) (some [(.one (.i .i64 0))]) (cond (inb a1 (ln a0)) (cond (zcz a2 (ln (ix a0 a1 []))) (cond (cond (zcS a2 (ln (ix a0 a1 []))) false true) (some [(.one (.i .i64 0))]) (cond (inb a1 (ln a0)) (cond (inb a2 (ln (ix a0 a1 []))) (some [(.one (.i .i64 (ix (ix a0 a1 []) a2 0)))]) none) none)) none) none)) none)
theorem zTq (N:Nat)(a0:List (List Int))(a1 a2:Int):evalFn (cQ ze9 zV zK zO) (zB []) N 12 64 [.one (.s (.sl .int) a0),.one (.i .i64 a1),.one (.i .i64 a2)]=zx0 N a0 a1 a2:=by kernel_rfl
theorem zPV (a0:List (List Int))(a1 a2:Int)(hb:zG big [.one (.s (.sl .int) a0),.one (.i .i64 a1),.one (.i .i64 a2)])(hc:(zmf a0 a1 a2)=true):∃N,zx0 N a0 a1 a2=some [.one (.i .i64 (zfL a0 a1 a2))]:=by
 refine ⟨0,?_⟩;unfold zx0;refine must rfl (brN (fun _=>?_) (fun _=>must (by first|assumption|(simp_all<;>omega)) (must rfl (brN (fun _=>?_) (fun _=>must (by first|assumption|(simp_all<;>omega)) (must (by first|assumption|(simp_all<;>omega)) ?_))))))
 all_goals first|rfl|(simp only [*,zfL,cellAt,zhK,cT,cF]<;>rfl)|simp_all [Ty.cells,zfL,cellAt,zhK]
theorem zJf:Holds Tryz.prog 64 ztn:=zo zcV zD zu zy (zC (by kernel_rfl)) fun avs rs hb h=>by
 unfold ztn at h;split at h
 ·obtain ⟨hc,rfl⟩:=zl h;exact (zd3 zPV zTq hc hb :)
 ·cases h
def ziV:zbQ:=[(89,zt6),(121,ztm),(98,zoi),(56,znS),(103,zoh),(61,znR),(99,zuh),(57,ztv),(101,zmY),(59,zmI),(165,zok),(139,znV),(166,zqK),(185,zqf),(164,zqJ),(140,zqe),(197,zul),(173,ztA),(91,zw1),(123,zwM),(129,ztL),(221,zuo),(208,ztF),(114,zmP),(184,zn6),(163,zut),(64,ztn)]++ze9
theorem ze6:zbw ziV:=zn zJY (zn zJe (zn zFd (zn zEK (zn zFc (zn zEJ (zn zJ6 (zn zJn (zn zDf (zn zCW (zn zFf (zn zEN (zn zHg (zn zGM (zn zHf (zn zGL (zn zKa (zn zJs (zn zMI (zn zMs (zn zJD (zn zKd (zn zJx (zn zC3 (zn zEY (zn zKh (zn zJf zcV))))))))))))))))))))))))))
@[simp,reducible] def zz4 (m:List (List Int))(p c:Int):Bool:=true
@[simp,reducible] def zot (m:List (List Int))(p c:Int):Int:=cellAt m p c
def zt7:List AV->Option (Bool×List AV)
 | [.one (.s (.sl .int) b),.one (.i .i64 c),.one (.i .i64 d)]=>some ((zz4 b c d),[.one (.i .i64 (zot b c d))])
 | _=>none
def zyH (N:Nat)(a0:List (List Int))(a1 a2:Int):Option Ans :=
 (cond (zrS a0 a1 a2) (cond (cond (zoy a0 a1 a2) false true) (some [(.one (.i .i64 0))]) (cond (inb a1 (ln a0)) (cond (inb a2 (ln (ix a0 a1 []))) (some [(.one (.i .i64 (ix (ix a0 a1 []) a2 0)))]) none) none)) none)
theorem zUa (N:Nat)(a0:List (List Int))(a1 a2:Int):evalFn (cQ ziV zV zK zO) (zB []) N 12 106 [.one (.s (.sl .int) a0),.one (.i .i64 a1),.one (.i .i64 a2)]=zyH N a0 a1 a2:=by kernel_rfl
theorem zQF (a0:List (List Int))(a1 a2:Int)(hb:zG big [.one (.s (.sl .int) a0),.one (.i .i64 a1),.one (.i .i64 a2)])(hc:(zz4 a0 a1 a2)=true):∃N,zyH N a0 a1 a2=some [.one (.i .i64 (zot a0 a1 a2))]:=by
 have hm:=(zzU a0 a1 a2).1;refine ⟨0,?_⟩;unfold zyH;refine must rfl (brN (fun _=>?_) (fun _=>must (by first|assumption|(simp_all<;>omega)) (must (by first|assumption|(simp_all<;>omega)) ?_)))
 all_goals first|rfl|(simp only [*,zot,cellAt,cT,cF]<;>rfl)|simp_all [Ty.cells,zot,cellAt]
theorem zJZ:Holds Tryz.prog 106 zt7:=zo ze6 zD zu zy (zC (by kernel_rfl)) fun avs rs hb h=>by
 unfold zt7 at h;split at h
 ·obtain ⟨hc,rfl⟩:=zl h;exact (zd3 zQF zUa hc hb :)
 ·cases h
def zdK (t:List Slot)(n p:Int):Bool:=bif t.all (fun s=>zeT s p) then ieq (ln t) n else false
@[simp,reducible] def zkG (t:List Slot)(n p:Int):Bool:=true
@[simp,reducible] def zhd (t:List Slot)(n p:Int):Bool:=zdK t n p
def zqO:List AV->Option (Bool×List AV)
 | [.one (.s .slot c),.one (.i .i64 d),.one (.i .i64 e)]=>some ((zkG c d e),[.one (.b (zhd c d e))])
 | _=>none
def zwn (N:Nat)(a0:List Slot)(a1 a2:Int):Option Ans :=
 (iter (σ:=(Int×(Int×(Int×((List Slot)×Unit))))) N (fun r4 s5=>(cond (ilt s5.2.2.1 (ln s5.2.2.2.1)) (cond (inb s5.2.2.1 (ln s5.2.2.2.1)) (cond (zAc (ix s5.2.2.2.1 s5.2.2.1 zQ) s5.2.1) (cond (cond (zuD (ix s5.2.2.2.1 s5.2.2.1 zQ) s5.2.1) false true) (some [(.one (.b false))]) (r4 (s5.1,(s5.2.1,((zq .i64 s5.2.2.1 1),(s5.2.2.2.1,())))))) none) none) (some [(.one (.b (ieq (ln s5.2.2.2.1) s5.1)))]))) (a1,(a2,(0,(a0,())))))
def zOw:FuncId->Nat->Option Tmpl:=zB [(194,0,{ n:=25,tm:=[(0,.sl 0 []),(1,.i .i64),(2,.i .i64),(7,.i .i64)],lo:=[],ro:=[(0,.slot,false)] })]
theorem zRL (N:Nat)(a0:List Slot)(a1 a2:Int):evalFn (cQ ziV zV zK zO) zOw N 12 194 [.one (.s .slot a0),.one (.i .i64 a1),.one (.i .i64 a2)]=zwn N a0 a1 a2:=by kernel_rfl
theorem zNv (a0:List Slot)(a1 a2:Int)(hb:zG big [.one (.s .slot a0),.one (.i .i64 a1),.one (.i .i64 a2)])(hc:(zkG a0 a1 a2)=true):∃N,zwn N a0 a1 a2=some [.one (.b (zhd a0 a1 a2))]:=by
 have hl:(_:List _).length<=big:=((zbu hb).1 _ (List.mem_singleton.2 rfl)).len;refine ⟨NN,?_⟩;have hNN:∀{n:Nat},n<=big->n<NN:=fun h=>zb8 h;generalize NN=N at hNN ⊢;unfold zwn;refine (zbF a0 (fun i (t:Unit)=>(a1,a2,(i:Int),a0,())) _ (fun _ x (_:Unit) κ=>bif (fun s=>zeT s a2) x then κ () else some [AV.one (.b false)]) (fun (t:Unit)=>(some [(.one (.b (ieq (ln a0) a1)))])) (fun i hi t rec=>?_) (fun t rec=>?_) _ () (hNN hl)).trans ?_
 ·simp only [zbv hi,zbg hi,zbq hi,zbf hi hl,cT];exact zhW rfl
 ·simp only [zbj,cF]
 rw [zgm (fun s=>zeT s a2)];refine br (fun h0=>?_) (fun h0=>?_)
 ·first|rfl|(simp only [h0,zhd,zdK,cT,cF]<;>rfl)|(simp_all [Ty.cells,zhd,zdK];done)
 ·first|rfl|(simp only [h0,zhd,zdK,cT,cF]<;>rfl)|(simp_all [Ty.cells,zhd,zdK];done)
theorem zHk:Holds Tryz.prog 194 zqO:=zo ze6 zD zu zy (zC (by kernel_rfl)) fun avs rs hb h=>by
 unfold zqO at h;split at h
 ·obtain ⟨hc,rfl⟩:=zl h;exact (zd3 zNv zRL hc hb :)
 ·cases h
@[simp,reducible] def zkA (t:List Slot)(n p:Int):Bool:=true
@[simp,reducible] def zg1 (t:List Slot)(n p:Int):Bool:=zdK t n p
def zqj:List AV->Option (Bool×List AV)
 | [.one (.s .slot c),.one (.i .i64 d),.one (.i .i64 e)]=>some ((zkA c d e),[.one (.b (zg1 c d e))])
 | _=>none
def zvU (N:Nat)(a0:List Slot)(a1 a2:Int):Option Ans :=
 (iter (σ:=(Int×(Int×(Int×(Int×((List Slot)×Unit)))))) N (fun r4 s5=>(cond (ilt s5.2.2.2.1 s5.2.2.1) (cond (inb s5.2.2.2.1 (ln s5.2.2.2.2.1)) (cond (zzG (ix s5.2.2.2.2.1 s5.2.2.2.1 zQ) s5.2.1) (cond (cond (zs6 (ix s5.2.2.2.2.1 s5.2.2.2.1 zQ) s5.2.1) false true) (some [(.one (.b false))]) (r4 (s5.1,(s5.2.1,(s5.2.2.1,((zq .i64 s5.2.2.2.1 1),(s5.2.2.2.2.1,()))))))) none) none) (some [(.one (.b (ieq (ln s5.2.2.2.2.1) s5.1)))]))) (a1,(a2,((ln a0),(0,(a0,()))))))
def zOj:FuncId->Nat->Option Tmpl:=zB [(172,0,{ n:=24,tm:=[(0,.sl 0 []),(1,.i .i64),(2,.i .i64),(9,.sl 0 []),(10,.i .i64),(11,.i .i64)],lo:=[],ro:=[(0,.slot,false)] })]
theorem zRh (N:Nat)(a0:List Slot)(a1 a2:Int):evalFn (cQ ziV zV zK zO) zOj N 12 172 [.one (.s .slot a0),.one (.i .i64 a1),.one (.i .i64 a2)]=zvU N a0 a1 a2:=by kernel_rfl
theorem zM1 (a0:List Slot)(a1 a2:Int)(hb:zG big [.one (.s .slot a0),.one (.i .i64 a1),.one (.i .i64 a2)])(hc:(zkA a0 a1 a2)=true):∃N,zvU N a0 a1 a2=some [.one (.b (zg1 a0 a1 a2))]:=by
 have hl:(_:List _).length<=big:=((zbu hb).1 _ (List.mem_singleton.2 rfl)).len;refine ⟨NN,?_⟩;have hNN:∀{n:Nat},n<=big->n<NN:=fun h=>zb8 h;generalize NN=N at hNN ⊢;unfold zvU;refine (zbF a0 (fun i (t:Unit)=>(a1,a2,(ln a0),(i:Int),a0,())) _ (fun _ x (_:Unit) κ=>bif (fun s=>zeT s a2) x then κ () else some [AV.one (.b false)]) (fun (t:Unit)=>(some [(.one (.b (ieq (ln a0) a1)))])) (fun i hi t rec=>?_) (fun t rec=>?_) _ () (hNN hl)).trans ?_
 ·simp only [zbv hi,zbg hi,zbq hi,zbf hi hl,cT];exact zhW rfl
 ·simp only [zbj,cF]
 rw [zgm (fun s=>zeT s a2)];refine br (fun h0=>?_) (fun h0=>?_)
 ·first|rfl|(simp only [h0,zg1,zdK,cT,cF]<;>rfl)|(simp_all [Ty.cells,zg1,zdK];done)
 ·first|rfl|(simp only [h0,zg1,zdK,cT,cF]<;>rfl)|(simp_all [Ty.cells,zg1,zdK];done)
theorem zGQ:Holds Tryz.prog 172 zqj:=zo ze6 zD zu zy (zC (by kernel_rfl)) fun avs rs hb h=>by
 unfold zqj at h;split at h
 ·obtain ⟨hc,rfl⟩:=zl h;exact (zd3 zM1 zRh hc hb :)
 ·cases h
def zc5 (c:List Int):Bool:=bif c.all (fun x=>win x 0 99) then ieq (ln c) 4 else false
@[simp,reducible] def zfn (c:List Int):Bool:=true
@[simp,reducible] def zeR (c:List Int):Bool:=zc5 c
def zuk:List AV->Option (Bool×List AV)
 | [.one (.s .int c)]=>some ((zfn c),[.one (.b (zeR c))])
 | _=>none
def zyQ (N:Nat)(a0:List Int):Option Ans :=
 (iter (σ:=(Int×((List Int)×Unit))) N (fun r2 s3=>(cond (ilt s3.1 (ln s3.2.1)) (cond (inb s3.1 (ln s3.2.1)) (cond (zZ (ix s3.2.1 s3.1 0) 0 99) (cond (cond (zbe (ix s3.2.1 s3.1 0) 0 99) false true) (some [(.one (.b false))]) (r2 ((zq .i64 s3.1 1),(s3.2.1,())))) none) none) (some [(.one (.b (ieq (ln s3.2.1) 4)))]))) (0,(a0,())))
def zSt:FuncId->Nat->Option Tmpl:=zB [(193,0,{ n:=19,tm:=[(0,.sl 0 []),(3,.i .i64)],lo:=[],ro:=[(0,.int,false)] })]
theorem zUk (N:Nat)(a0:List Int):evalFn (cQ ziV zV zK zO) zSt N 12 193 [.one (.s .int a0)]=zyQ N a0:=by kernel_rfl
theorem zQP (a0:List Int)(hb:zG big [.one (.s .int a0)])(hc:(zfn a0)=true):∃N,zyQ N a0=some [.one (.b (zeR a0))]:=by
 have hl:(_:List _).length<=big:=((zbu hb).1 _ (List.mem_singleton.2 rfl)).len;refine ⟨NN,?_⟩;have hNN:∀{n:Nat},n<=big->n<NN:=fun h=>zb8 h;generalize NN=N at hNN ⊢;unfold zyQ;refine (zbF a0 (fun i (t:Unit)=>((i:Int),a0,())) _ (fun _ x (_:Unit) κ=>bif (fun x=>win x 0 99) x then κ () else some [AV.one (.b false)]) (fun (t:Unit)=>(some [(.one (.b (ieq (ln a0) 4)))])) (fun i hi t rec=>?_) (fun t rec=>?_) _ () (hNN hl)).trans ?_
 ·simp only [zbv hi,zbg hi,zbq hi,zbf hi hl,cT];exact zhW rfl
 ·simp only [zbj,cF]
 rw [zgm (fun x=>win x 0 99)];refine br (fun h0=>?_) (fun h0=>?_)
 ·first|rfl|(simp only [h0,zeR,zc5,cT,cF]<;>rfl)|(simp_all [Ty.cells,zeR,zc5];done)
 ·first|rfl|(simp only [h0,zeR,zc5,cT,cF]<;>rfl)|(simp_all [Ty.cells,zeR,zc5];done)
theorem zJ9:Holds Tryz.prog 193 zuk:=zo ze6 zD zu zy (zC (by kernel_rfl)) fun avs rs hb h=>by
 unfold zuk at h;split at h
 ·obtain ⟨hc,rfl⟩:=zl h;exact (fin1 zQP zUk hc hb :)
 ·cases h
@[simp,reducible] def zg0 (c:List Int):Bool:=true
@[simp,reducible] def zfM (c:List Int):Bool:=zc5 c
def ztz:List AV->Option (Bool×List AV)
 | [.one (.s .int c)]=>some ((zg0 c),[.one (.b (zfM c))])
 | _=>none
def zyb (N:Nat)(a0:List Int):Option Ans :=
 (iter (σ:=(Int×(Int×((List Int)×Unit)))) N (fun r2 s3=>(cond (ilt s3.2.1 s3.1) (cond (inb s3.2.1 (ln s3.2.2.1)) (cond (zbm (ix s3.2.2.1 s3.2.1 0) 0 99) (cond (cond (zby (ix s3.2.2.1 s3.2.1 0) 0 99) false true) (some [(.one (.b false))]) (r2 (s3.1,((zq .i64 s3.2.1 1),(s3.2.2.1,()))))) none) none) (some [(.one (.b (ieq (ln s3.2.2.1) 4)))]))) ((ln a0),(0,(a0,()))))
def zSf:FuncId->Nat->Option Tmpl:=zB [(171,0,{ n:=18,tm:=[(0,.sl 0 []),(5,.sl 0 []),(6,.i .i64),(7,.i .i64)],lo:=[],ro:=[(0,.int,false)] })]
theorem zTC (N:Nat)(a0:List Int):evalFn (cQ ziV zV zK zO) zSf N 12 171 [.one (.s .int a0)]=zyb N a0:=by kernel_rfl
theorem zP7 (a0:List Int)(hb:zG big [.one (.s .int a0)])(hc:(zg0 a0)=true):∃N,zyb N a0=some [.one (.b (zfM a0))]:=by
 have hl:(_:List _).length<=big:=((zbu hb).1 _ (List.mem_singleton.2 rfl)).len;refine ⟨NN,?_⟩;have hNN:∀{n:Nat},n<=big->n<NN:=fun h=>zb8 h;generalize NN=N at hNN ⊢;unfold zyb;refine (zbF a0 (fun i (t:Unit)=>((ln a0),(i:Int),a0,())) _ (fun _ x (_:Unit) κ=>bif (fun x=>win x 0 99) x then κ () else some [AV.one (.b false)]) (fun (t:Unit)=>(some [(.one (.b (ieq (ln a0) 4)))])) (fun i hi t rec=>?_) (fun t rec=>?_) _ () (hNN hl)).trans ?_
 ·simp only [zbv hi,zbg hi,zbq hi,zbf hi hl,cT];exact zhW rfl
 ·simp only [zbj,cF]
 rw [zgm (fun x=>win x 0 99)];refine br (fun h0=>?_) (fun h0=>?_)
 ·first|rfl|(simp only [h0,zfM,zc5,cT,cF]<;>rfl)|(simp_all [Ty.cells,zfM,zc5];done)
 ·first|rfl|(simp only [h0,zfM,zc5,cT,cF]<;>rfl)|(simp_all [Ty.cells,zfM,zc5];done)
theorem zJr:Holds Tryz.prog 171 ztz:=zo ze6 zD zu zy (zC (by kernel_rfl)) fun avs rs hb h=>by
 unfold ztz at h;split at h
 ·obtain ⟨hc,rfl⟩:=zl h;exact (fin1 zP7 zTC hc hb :)
 ·cases h
def zmp (i:Ins):Bool:=bif (ieq i.Op 1||ieq i.Op 2||ieq i.Op 5||ieq i.Op 6) then win i.X 0 99 else (cond (ieq i.Op 3||ieq i.Op 4) (win i.X 0 15) (cond (ieq i.Op 7) (ieq i.X 0) (cond (ieq i.Op 8) (win i.X 0 11) false)))
@[simp,reducible] def zB1 (i:Ins):Bool:=true
@[simp,reducible] def zxR (i:Ins):Bool:=zmp i
def zw2:List AV->Option (Bool×List AV)
 | [.agg [.i .i64 c,.i .i64 d]]=>some ((zB1 (⟨c,d⟩:Ins)),[.one (.b (zxR (⟨c,d⟩:Ins)))])
 | _=>none
def zA5 (N:Nat)(a0:Ins):Option Ans :=
 (cond (ieq a0.Op 1) (cond (ieq a0.Op 1) (cond (zZ a0.X 0 99) (some [(.one (.b (zbe a0.X 0 99)))]) none) (cond (ieq a0.Op 3) (cond (ieq a0.Op 3) (cond (zZ a0.X 0 15) (some [(.one (.b (zbe a0.X 0 15)))]) none) (cond (ieq a0.Op 7) (some [(.one (.b (ieq a0.X 0)))]) (cond (ieq a0.Op 8) (cond (zZ a0.X 0 11) (some [(.one (.b (zbe a0.X 0 11)))]) none) (some [(.one (.b false))])))) (cond (ieq a0.Op 4) (cond (zZ a0.X 0 15) (some [(.one (.b (zbe a0.X 0 15)))]) none) (cond (ieq a0.Op 7) (some [(.one (.b (ieq a0.X 0)))]) (cond (ieq a0.Op 8) (cond (zZ a0.X 0 11) (some [(.one (.b (zbe a0.X 0 11)))]) none) (some [(.one (.b false))])))))) (cond (ieq a0.Op 2) (cond (ieq a0.Op 2) (cond (zZ a0.X 0 99) (some [(.one (.b (zbe a0.X 0 99)))]) none) (cond (ieq a0.Op 3) (cond (ieq a0.Op 3) (cond (zZ a0.X 0 15) (some [(.one (.b (zbe a0.X 0 15)))]) none) (cond (ieq a0.Op 7) (some [(.one (.b (ieq a0.X 0)))]) (cond (ieq a0.Op 8) (cond (zZ a0.X 0 11) (some [(.one (.b (zbe a0.X 0 11)))]) none) (some [(.one (.b false))])))) (cond (ieq a0.Op 4) (cond (zZ a0.X 0 15) (some [(.one (.b (zbe a0.X 0 15)))]) none) (cond (ieq a0.Op 7) (some [(.one (.b (ieq a0.X 0)))]) (cond (ieq a0.Op 8) (cond (zZ a0.X 0 11) (some [(.one (.b (zbe a0.X 0 11)))]) none) (some [(.one (.b false))])))))) (cond (ieq a0.Op 5) (cond (ieq a0.Op 5) (cond (zZ a0.X 0 99) (some [(.one (.b (zbe a0.X 0 99)))]) none) (cond (ieq a0.Op 3) (cond (ieq a0.Op 3) (cond (zZ a0.X 0 15) (some [(.one (.b (zbe a0.X 0 15)))]) none) (cond (ieq a0.Op 7) (some [(.one (.b (ieq a0.X 0)))]) (cond (ieq a0.Op 8) (cond (zZ a0.X 0 11) (some [(.one (.b (zbe a0.X 0 11)))]) none) (some [(.one (.b false))])))) (cond (ieq a0.Op 4) (cond (zZ a0.X 0 15) (some [(.one (.b (zbe a0.X 0 15)))]) none) (cond (ieq a0.Op 7) (some [(.one (.b (ieq a0.X 0)))]) (cond (ieq a0.Op 8) (cond (zZ a0.X 0 11) (some [(.one (.b (zbe a0.X 0 11)))]) none) (some [(.one (.b false))])))))) (cond (ieq a0.Op 6) (cond (zZ a0.X 0 99) (some [(.one (.b (zbe a0.X 0 99)))]) none) (cond (ieq a0.Op 3) (cond (ieq a0.Op 3) (cond (zZ a0.X 0 15) (some [(.one (.b (zbe a0.X 0 15)))]) none) (cond (ieq a0.Op 7) (some [(.one (.b (ieq a0.X 0)))]) (cond (ieq a0.Op 8) (cond (zZ a0.X 0 11) (some [(.one (.b (zbe a0.X 0 11)))]) none) (some [(.one (.b false))])))) (cond (ieq a0.Op 4) (cond (zZ a0.X 0 15) (some [(.one (.b (zbe a0.X 0 15)))]) none) (cond (ieq a0.Op 7) (some [(.one (.b (ieq a0.X 0)))]) (cond (ieq a0.Op 8) (cond (zZ a0.X 0 11) (some [(.one (.b (zbe a0.X 0 11)))]) none) (some [(.one (.b false))])))))))))
theorem zW3 (N:Nat)(a0:Ins):evalFn (cQ ziV zV zK zO) (zB []) N 12 246 [.agg (Ty.cells .ins a0)]=zA5 N a0:=by kernel_rfl
theorem zTg (a0:Ins)(hb:zG big [.agg (Ty.cells .ins a0)])(hc:(zB1 a0)=true):∃N,zA5 N a0=some [.one (.b (zxR a0))]:=by
 refine ⟨0,?_⟩;unfold zA5;refine br (fun _=>br (fun _=>must rfl ?_) (fun _=>br (fun _=>br (fun _=>must rfl ?_) (fun _=>br (fun _=>?_) (fun _=>br (fun _=>must rfl ?_) (fun _=>?_)))) (fun _=>br (fun _=>must rfl ?_) (fun _=>br (fun _=>?_) (fun _=>br (fun _=>must rfl ?_) (fun _=>?_)))))) (fun _=>br (fun _=>br (fun _=>must rfl ?_) (fun _=>br (fun _=>br (fun _=>must rfl ?_) (fun _=>br (fun _=>?_) (fun _=>br (fun _=>must rfl ?_) (fun _=>?_)))) (fun _=>br (fun _=>must rfl ?_) (fun _=>br (fun _=>?_) (fun _=>br (fun _=>must rfl ?_) (fun _=>?_)))))) (fun _=>br (fun _=>br (fun _=>must rfl ?_) (fun _=>br (fun _=>br (fun _=>must rfl ?_) (fun _=>br (fun _=>?_) (fun _=>br (fun _=>must rfl ?_) (fun _=>?_)))) (fun _=>br (fun _=>must rfl ?_) (fun _=>br (fun _=>?_) (fun _=>br (fun _=>must rfl ?_) (fun _=>?_)))))) (fun _=>br (fun _=>must rfl ?_) (fun _=>br (fun _=>br (fun _=>must rfl ?_) (fun _=>br (fun _=>?_) (fun _=>br (fun _=>must rfl ?_) (fun _=>?_)))) (fun _=>br (fun _=>must rfl ?_) (fun _=>br (fun _=>?_) (fun _=>br (fun _=>must rfl ?_) (fun _=>?_))))))))
 all_goals first|rfl|(simp only [*,zxR,zmp,cT,cF]<;>rfl)|simp_all [Ty.cells,zxR,zmp]
theorem zMJ:Holds Tryz.prog 246 zw2:=zo ze6 zD zu zy (zC (by kernel_rfl)) fun avs rs hb h=>by
 unfold zw2 at h;split at h
 ·obtain ⟨hc,rfl⟩:=zl h;exact (fin1 zTg zW3 hc hb :)
 ·cases h
@[simp,reducible] def zBD (i:Ins):Bool:=true
@[simp,reducible] def zxx (i:Ins):Bool:=zmp i
def zwN:List AV->Option (Bool×List AV)
 | [.agg [.i .i64 c,.i .i64 d]]=>some ((zBD (⟨c,d⟩:Ins)),[.one (.b (zxx (⟨c,d⟩:Ins)))])
 | _=>none
def zAQ (N:Nat)(a0:Ins):Option Ans :=
 (cond (ieq a0.Op 1) (cond (ieq a0.Op 1) (cond (zbm a0.X 0 99) (some [(.one (.b (zby a0.X 0 99)))]) none) (cond (ieq a0.Op 3) (cond (ieq a0.Op 3) (cond (zbm a0.X 0 15) (some [(.one (.b (zby a0.X 0 15)))]) none) (cond (ieq a0.Op 7) (some [(.one (.b (ieq a0.X 0)))]) (cond (ieq a0.Op 8) (cond (zbm a0.X 0 11) (some [(.one (.b (zby a0.X 0 11)))]) none) (some [(.one (.b false))])))) (cond (ieq a0.Op 4) (cond (zbm a0.X 0 15) (some [(.one (.b (zby a0.X 0 15)))]) none) (cond (ieq a0.Op 7) (some [(.one (.b (ieq a0.X 0)))]) (cond (ieq a0.Op 8) (cond (zbm a0.X 0 11) (some [(.one (.b (zby a0.X 0 11)))]) none) (some [(.one (.b false))])))))) (cond (ieq a0.Op 2) (cond (ieq a0.Op 2) (cond (zbm a0.X 0 99) (some [(.one (.b (zby a0.X 0 99)))]) none) (cond (ieq a0.Op 3) (cond (ieq a0.Op 3) (cond (zbm a0.X 0 15) (some [(.one (.b (zby a0.X 0 15)))]) none) (cond (ieq a0.Op 7) (some [(.one (.b (ieq a0.X 0)))]) (cond (ieq a0.Op 8) (cond (zbm a0.X 0 11) (some [(.one (.b (zby a0.X 0 11)))]) none) (some [(.one (.b false))])))) (cond (ieq a0.Op 4) (cond (zbm a0.X 0 15) (some [(.one (.b (zby a0.X 0 15)))]) none) (cond (ieq a0.Op 7) (some [(.one (.b (ieq a0.X 0)))]) (cond (ieq a0.Op 8) (cond (zbm a0.X 0 11) (some [(.one (.b (zby a0.X 0 11)))]) none) (some [(.one (.b false))])))))) (cond (ieq a0.Op 5) (cond (ieq a0.Op 5) (cond (zbm a0.X 0 99) (some [(.one (.b (zby a0.X 0 99)))]) none) (cond (ieq a0.Op 3) (cond (ieq a0.Op 3) (cond (zbm a0.X 0 15) (some [(.one (.b (zby a0.X 0 15)))]) none) (cond (ieq a0.Op 7) (some [(.one (.b (ieq a0.X 0)))]) (cond (ieq a0.Op 8) (cond (zbm a0.X 0 11) (some [(.one (.b (zby a0.X 0 11)))]) none) (some [(.one (.b false))])))) (cond (ieq a0.Op 4) (cond (zbm a0.X 0 15) (some [(.one (.b (zby a0.X 0 15)))]) none) (cond (ieq a0.Op 7) (some [(.one (.b (ieq a0.X 0)))]) (cond (ieq a0.Op 8) (cond (zbm a0.X 0 11) (some [(.one (.b (zby a0.X 0 11)))]) none) (some [(.one (.b false))])))))) (cond (ieq a0.Op 6) (cond (zbm a0.X 0 99) (some [(.one (.b (zby a0.X 0 99)))]) none) (cond (ieq a0.Op 3) (cond (ieq a0.Op 3) (cond (zbm a0.X 0 15) (some [(.one (.b (zby a0.X 0 15)))]) none) (cond (ieq a0.Op 7) (some [(.one (.b (ieq a0.X 0)))]) (cond (ieq a0.Op 8) (cond (zbm a0.X 0 11) (some [(.one (.b (zby a0.X 0 11)))]) none) (some [(.one (.b false))])))) (cond (ieq a0.Op 4) (cond (zbm a0.X 0 15) (some [(.one (.b (zby a0.X 0 15)))]) none) (cond (ieq a0.Op 7) (some [(.one (.b (ieq a0.X 0)))]) (cond (ieq a0.Op 8) (cond (zbm a0.X 0 11) (some [(.one (.b (zby a0.X 0 11)))]) none) (some [(.one (.b false))])))))))))
theorem zWN (N:Nat)(a0:Ins):evalFn (cQ ziV zV zK zO) (zB []) N 12 233 [.agg (Ty.cells .ins a0)]=zAQ N a0:=by kernel_rfl
theorem zS0 (a0:Ins)(hb:zG big [.agg (Ty.cells .ins a0)])(hc:(zBD a0)=true):∃N,zAQ N a0=some [.one (.b (zxx a0))]:=by
 refine ⟨0,?_⟩;unfold zAQ;refine br (fun _=>br (fun _=>must rfl ?_) (fun _=>br (fun _=>br (fun _=>must rfl ?_) (fun _=>br (fun _=>?_) (fun _=>br (fun _=>must rfl ?_) (fun _=>?_)))) (fun _=>br (fun _=>must rfl ?_) (fun _=>br (fun _=>?_) (fun _=>br (fun _=>must rfl ?_) (fun _=>?_)))))) (fun _=>br (fun _=>br (fun _=>must rfl ?_) (fun _=>br (fun _=>br (fun _=>must rfl ?_) (fun _=>br (fun _=>?_) (fun _=>br (fun _=>must rfl ?_) (fun _=>?_)))) (fun _=>br (fun _=>must rfl ?_) (fun _=>br (fun _=>?_) (fun _=>br (fun _=>must rfl ?_) (fun _=>?_)))))) (fun _=>br (fun _=>br (fun _=>must rfl ?_) (fun _=>br (fun _=>br (fun _=>must rfl ?_) (fun _=>br (fun _=>?_) (fun _=>br (fun _=>must rfl ?_) (fun _=>?_)))) (fun _=>br (fun _=>must rfl ?_) (fun _=>br (fun _=>?_) (fun _=>br (fun _=>must rfl ?_) (fun _=>?_)))))) (fun _=>br (fun _=>must rfl ?_) (fun _=>br (fun _=>br (fun _=>must rfl ?_) (fun _=>br (fun _=>?_) (fun _=>br (fun _=>must rfl ?_) (fun _=>?_)))) (fun _=>br (fun _=>must rfl ?_) (fun _=>br (fun _=>?_) (fun _=>br (fun _=>must rfl ?_) (fun _=>?_))))))))
 all_goals first|rfl|(simp only [*,zxx,zmp,cT,cF]<;>rfl)|simp_all [Ty.cells,zxx,zmp]
theorem zMt:Holds Tryz.prog 233 zwN:=zo ze6 zD zu zy (zC (by kernel_rfl)) fun avs rs hb h=>by
 unfold zwN at h;split at h
 ·obtain ⟨hc,rfl⟩:=zl h;exact (fin1 zS0 zWN hc hb :)
 ·cases h
def zsO (e:GExit):Bool:=bif (ieq e.Kind 0||ieq e.Kind 4) then (ieq e.Page 0&&(!e.Write&&ieq e.N 0)) else (cond (ieq e.Kind 1) (win e.Page 0 3&&ieq e.N 0) (cond (ieq e.Kind 2||ieq e.Kind 3) (win e.N 0 99&&(ieq e.Page 0 && !e.Write)) false))
@[simp] theorem z2Z (x:Bool):zhh x false = !x:=by cases x<;>rfl
attribute [simp] zfQ
@[simp,reducible] def zz5 (e:GExit):Bool:=true
@[simp,reducible] def zuz (e:GExit):Bool:=zsO e
def zt9:List AV->Option (Bool×List AV)
 | [.agg [.i .i64 c,.i .i64 d,.b e,.i .i64 f]]=>some ((zz5 (⟨c,d,e,f⟩:GExit)),[.one (.b (zuz (⟨c,d,e,f⟩:GExit)))])
 | _=>none
def zyJ (N:Nat)(a0:GExit):Option Ans :=
 (cond (ieq a0.Kind 0) (cond (ieq a0.Kind 0) (some [(.one (.b (cond (ieq a0.Kind a0.Kind) (cond (ieq a0.Page 0) (cond (zhh a0.Write false) (ieq a0.N 0) false) false) false)))]) (cond (ieq a0.Kind 1) (cond (zZ a0.Page 0 3) (cond (zbe a0.Page 0 3) (some [(.one (.b (ieq a0.N 0)))]) (some [(.one (.b false))])) none) (cond (ieq a0.Kind 2) (cond (ieq a0.Kind 2) (cond (zZ a0.N 0 99) (cond (zbe a0.N 0 99) (cond (ieq a0.Page 0) (some [(.one (.b (cond a0.Write false true)))]) (some [(.one (.b false))])) (some [(.one (.b false))])) none) (some [(.one (.b false))])) (cond (ieq a0.Kind 3) (cond (zZ a0.N 0 99) (cond (zbe a0.N 0 99) (cond (ieq a0.Page 0) (some [(.one (.b (cond a0.Write false true)))]) (some [(.one (.b false))])) (some [(.one (.b false))])) none) (some [(.one (.b false))]))))) (cond (ieq a0.Kind 4) (some [(.one (.b (cond (ieq a0.Kind a0.Kind) (cond (ieq a0.Page 0) (cond (zhh a0.Write false) (ieq a0.N 0) false) false) false)))]) (cond (ieq a0.Kind 1) (cond (zZ a0.Page 0 3) (cond (zbe a0.Page 0 3) (some [(.one (.b (ieq a0.N 0)))]) (some [(.one (.b false))])) none) (cond (ieq a0.Kind 2) (cond (ieq a0.Kind 2) (cond (zZ a0.N 0 99) (cond (zbe a0.N 0 99) (cond (ieq a0.Page 0) (some [(.one (.b (cond a0.Write false true)))]) (some [(.one (.b false))])) (some [(.one (.b false))])) none) (some [(.one (.b false))])) (cond (ieq a0.Kind 3) (cond (zZ a0.N 0 99) (cond (zbe a0.N 0 99) (cond (ieq a0.Page 0) (some [(.one (.b (cond a0.Write false true)))]) (some [(.one (.b false))])) (some [(.one (.b false))])) none) (some [(.one (.b false))]))))))
theorem zUc (N:Nat)(a0:GExit):evalFn (cQ ziV zV zK zO) (zB []) N 12 224 [.agg (zdQ a0)]=zyJ N a0:=by kernel_rfl
theorem zQH (a0:GExit)(hb:zG big [.agg (zdQ a0)])(hc:(zz5 a0)=true):∃N,zyJ N a0=some [.one (.b (zuz a0))]:=by
 refine ⟨0,?_⟩;unfold zyJ;refine br (fun _=>br (fun _=>?_) (fun _=>br (fun _=>must rfl (br (fun _=>?_) (fun _=>?_))) (fun _=>br (fun _=>br (fun _=>must rfl (br (fun _=>br (fun _=>?_) (fun _=>?_)) (fun _=>?_))) (fun _=>?_)) (fun _=>br (fun _=>must rfl (br (fun _=>br (fun _=>?_) (fun _=>?_)) (fun _=>?_))) (fun _=>?_))))) (fun _=>br (fun _=>?_) (fun _=>br (fun _=>must rfl (br (fun _=>?_) (fun _=>?_))) (fun _=>br (fun _=>br (fun _=>must rfl (br (fun _=>br (fun _=>?_) (fun _=>?_)) (fun _=>?_))) (fun _=>?_)) (fun _=>br (fun _=>must rfl (br (fun _=>br (fun _=>?_) (fun _=>?_)) (fun _=>?_))) (fun _=>?_)))))
 all_goals first|rfl|(simp only [*,zuz,zsO,cT,cF]<;>rfl)|simp_all [Ty.cells,zuz,zsO]
theorem zJ1:Holds Tryz.prog 224 zt9:=zo ze6 zD zu zy (zC (by kernel_rfl)) fun avs rs hb h=>by
 unfold zt9 at h;split at h
 ·obtain ⟨hc,rfl⟩:=zl h;exact (fin1 zQH zUc hc hb :)
 ·cases h
@[simp,reducible] def zzx (e:GExit):Bool:=true
@[simp,reducible] def zsW (e:GExit):Bool:=zsO e
def ztp:List AV->Option (Bool×List AV)
 | [.agg [.i .i64 c,.i .i64 d,.b e,.i .i64 f]]=>some ((zzx (⟨c,d,e,f⟩:GExit)),[.one (.b (zsW (⟨c,d,e,f⟩:GExit)))])
 | _=>none
def zx2 (N:Nat)(a0:GExit):Option Ans :=
 (cond (ieq a0.Kind 0) (cond (ieq a0.Kind 0) (cond (ieq a0.Page 0) (cond (cond a0.Write false true) (some [(.one (.b (ieq a0.N 0)))]) (some [(.one (.b false))])) (some [(.one (.b false))])) (cond (ieq a0.Kind 1) (cond (zbm a0.Page 0 3) (cond (zby a0.Page 0 3) (some [(.one (.b (ieq a0.N 0)))]) (some [(.one (.b false))])) none) (cond (ieq a0.Kind 2) (cond (ieq a0.Kind 2) (cond (zbm a0.N 0 99) (cond (zby a0.N 0 99) (cond (ieq a0.Page 0) (some [(.one (.b (cond a0.Write false true)))]) (some [(.one (.b false))])) (some [(.one (.b false))])) none) (some [(.one (.b false))])) (cond (ieq a0.Kind 3) (cond (zbm a0.N 0 99) (cond (zby a0.N 0 99) (cond (ieq a0.Page 0) (some [(.one (.b (cond a0.Write false true)))]) (some [(.one (.b false))])) (some [(.one (.b false))])) none) (some [(.one (.b false))]))))) (cond (ieq a0.Kind 4) (cond (ieq a0.Page 0) (cond (cond a0.Write false true) (some [(.one (.b (ieq a0.N 0)))]) (some [(.one (.b false))])) (some [(.one (.b false))])) (cond (ieq a0.Kind 1) (cond (zbm a0.Page 0 3) (cond (zby a0.Page 0 3) (some [(.one (.b (ieq a0.N 0)))]) (some [(.one (.b false))])) none) (cond (ieq a0.Kind 2) (cond (ieq a0.Kind 2) (cond (zbm a0.N 0 99) (cond (zby a0.N 0 99) (cond (ieq a0.Page 0) (some [(.one (.b (cond a0.Write false true)))]) (some [(.one (.b false))])) (some [(.one (.b false))])) none) (some [(.one (.b false))])) (cond (ieq a0.Kind 3) (cond (zbm a0.N 0 99) (cond (zby a0.N 0 99) (cond (ieq a0.Page 0) (some [(.one (.b (cond a0.Write false true)))]) (some [(.one (.b false))])) (some [(.one (.b false))])) none) (some [(.one (.b false))]))))))
theorem zTs (N:Nat)(a0:GExit):evalFn (cQ ziV zV zK zO) (zB []) N 12 211 [.agg (zdQ a0)]=zx2 N a0:=by kernel_rfl
theorem zPX (a0:GExit)(hb:zG big [.agg (zdQ a0)])(hc:(zzx a0)=true):∃N,zx2 N a0=some [.one (.b (zsW a0))]:=by
 refine ⟨0,?_⟩;unfold zx2;refine br (fun _=>br (fun _=>br (fun _=>brN (fun _=>?_) (fun _=>?_)) (fun _=>?_)) (fun _=>br (fun _=>must rfl (br (fun _=>?_) (fun _=>?_))) (fun _=>br (fun _=>br (fun _=>must rfl (br (fun _=>br (fun _=>?_) (fun _=>?_)) (fun _=>?_))) (fun _=>?_)) (fun _=>br (fun _=>must rfl (br (fun _=>br (fun _=>?_) (fun _=>?_)) (fun _=>?_))) (fun _=>?_))))) (fun _=>br (fun _=>br (fun _=>brN (fun _=>?_) (fun _=>?_)) (fun _=>?_)) (fun _=>br (fun _=>must rfl (br (fun _=>?_) (fun _=>?_))) (fun _=>br (fun _=>br (fun _=>must rfl (br (fun _=>br (fun _=>?_) (fun _=>?_)) (fun _=>?_))) (fun _=>?_)) (fun _=>br (fun _=>must rfl (br (fun _=>br (fun _=>?_) (fun _=>?_)) (fun _=>?_))) (fun _=>?_)))))
 all_goals first|rfl|(simp only [*,zsW,zsO,cT,cF]<;>rfl)|simp_all [Ty.cells,zsW,zsO]
theorem zJh:Holds Tryz.prog 211 ztp:=zo ze6 zD zu zy (zC (by kernel_rfl)) fun avs rs hb h=>by
 unfold ztp at h;split at h
 ·obtain ⟨hc,rfl⟩:=zl h;exact (fin1 zPX zTs hc hb :)
 ·cases h
def zjc (c:Ctl):List Int:=(cond (win c.Traps 0 3) [] [1])++((cond (win c.Post 0 255) [] [2])++((cond (ine c.Post 0) (cond c.Open [] [3]) [])++(cond (ieq c.Traps 2) (cond (ine c.Post 0) [4] []) [])))
@[simp] theorem z2W {α:Type}(x:α)(l m:List α):ap (x :: l) m=x :: ap l m:=rfl
@[simp,reducible] def zqY (c:Ctl):Bool:=true
@[simp,reducible] def zkF (c:Ctl):List Int:=zjc c
def zmW:List AV->Option (Bool×List AV)
 | [.agg [.i .i64 c,.i .i64 d,.b e]]=>some ((zqY (⟨c,d,e⟩:Ctl)),[.one (.s .int (zkF (⟨c,d,e⟩:Ctl)))])
 | _=>none
def zpT (N:Nat)(a0:Ctl):Option Ans :=
 (cond (zZ a0.Traps 0 3) (cond (cond (zbe a0.Traps 0 3) false true) (cond (few (ln (ap [] [1]))) (cond (zZ a0.Post 0 255) (cond (cond (zbe a0.Post 0 255) false true) (cond (few (ln (ap (ap [] [1]) [2]))) (cond (ine a0.Post 0) (cond (cond a0.Open false true) (cond (few (ln (ap (ap (ap [] [1]) [2]) [3]))) (cond (ieq a0.Traps 2) (cond (ine a0.Post 0) (cond (few (ln (ap (ap (ap (ap [] [1]) [2]) [3]) [4]))) (some [(.one (.s .int (ap (ap (ap (ap [] [1]) [2]) [3]) [4])))]) none) (some [(.one (.s .int (ap (ap (ap [] [1]) [2]) [3])))])) (some [(.one (.s .int (ap (ap (ap [] [1]) [2]) [3])))])) none) (cond (ieq a0.Traps 2) (cond (ine a0.Post 0) (cond (few (ln (ap (ap (ap [] [1]) [2]) [4]))) (some [(.one (.s .int (ap (ap (ap [] [1]) [2]) [4])))]) none) (some [(.one (.s .int (ap (ap [] [1]) [2])))])) (some [(.one (.s .int (ap (ap [] [1]) [2])))]))) (cond (ieq a0.Traps 2) (cond (ine a0.Post 0) (cond (few (ln (ap (ap (ap [] [1]) [2]) [4]))) (some [(.one (.s .int (ap (ap (ap [] [1]) [2]) [4])))]) none) (some [(.one (.s .int (ap (ap [] [1]) [2])))])) (some [(.one (.s .int (ap (ap [] [1]) [2])))]))) none) (cond (ine a0.Post 0) (cond (cond a0.Open false true) (cond (few (ln (ap (ap [] [1]) [3]))) (cond (ieq a0.Traps 2) (cond (ine a0.Post 0) (cond (few (ln (ap (ap (ap [] [1]) [3]) [4]))) (some [(.one (.s .int (ap (ap (ap [] [1]) [3]) [4])))]) none) (some [(.one (.s .int (ap (ap [] [1]) [3])))])) (some [(.one (.s .int (ap (ap [] [1]) [3])))])) none) (cond (ieq a0.Traps 2) (cond (ine a0.Post 0) (cond (few (ln (ap (ap [] [1]) [4]))) (some [(.one (.s .int (ap (ap [] [1]) [4])))]) none) (some [(.one (.s .int (ap [] [1])))])) (some [(.one (.s .int (ap [] [1])))]))) (cond (ieq a0.Traps 2) (cond (ine a0.Post 0) (cond (few (ln (ap (ap [] [1]) [4]))) (some [(.one (.s .int (ap (ap [] [1]) [4])))]) none) (some [(.one (.s .int (ap [] [1])))])) (some [(.one (.s .int (ap [] [1])))])))) none) none) (cond (zZ a0.Post 0 255) (cond (cond (zbe a0.Post 0 255) false true) (cond (few (ln (ap [] [2]))) (cond (ine a0.Post 0) (cond (cond a0.Open false true) (cond (few (ln (ap (ap [] [2]) [3]))) (cond (ieq a0.Traps 2) (cond (ine a0.Post 0) (cond (few (ln (ap (ap (ap [] [2]) [3]) [4]))) (some [(.one (.s .int (ap (ap (ap [] [2]) [3]) [4])))]) none) (some [(.one (.s .int (ap (ap [] [2]) [3])))])) (some [(.one (.s .int (ap (ap [] [2]) [3])))])) none) (cond (ieq a0.Traps 2) (cond (ine a0.Post 0) (cond (few (ln (ap (ap [] [2]) [4]))) (some [(.one (.s .int (ap (ap [] [2]) [4])))]) none) (some [(.one (.s .int (ap [] [2])))])) (some [(.one (.s .int (ap [] [2])))]))) (cond (ieq a0.Traps 2) (cond (ine a0.Post 0) (cond (few (ln (ap (ap [] [2]) [4]))) (some [(.one (.s .int (ap (ap [] [2]) [4])))]) none) (some [(.one (.s .int (ap [] [2])))])) (some [(.one (.s .int (ap [] [2])))]))) none) (cond (ine a0.Post 0) (cond (cond a0.Open false true) (cond (few (ln (ap [] [3]))) (cond (ieq a0.Traps 2) (cond (ine a0.Post 0) (cond (few (ln (ap (ap [] [3]) [4]))) (some [(.one (.s .int (ap (ap [] [3]) [4])))]) none) (some [(.one (.s .int (ap [] [3])))])) (some [(.one (.s .int (ap [] [3])))])) none) (cond (ieq a0.Traps 2) (cond (ine a0.Post 0) (cond (few (ln (ap [] [4]))) (some [(.one (.s .int (ap [] [4])))]) none) (some [(.one (.s .int []))])) (some [(.one (.s .int []))]))) (cond (ieq a0.Traps 2) (cond (ine a0.Post 0) (cond (few (ln (ap [] [4]))) (some [(.one (.s .int (ap [] [4])))]) none) (some [(.one (.s .int []))])) (some [(.one (.s .int []))])))) none)) none)
theorem zLn (N:Nat)(a0:Ctl):evalFn (cQ ziV zV zK zO) (zB []) N 12 247 [.agg (zkf a0)]=zpT N a0:=by kernel_rfl
theorem zHX (a0:Ctl)(hb:zG big [.agg (zkf a0)])(hc:(zqY a0)=true):∃N,zpT N a0=some [.one (.s .int (zkF a0))]:=by
 refine ⟨0,?_⟩;unfold zpT;refine must rfl (brN (fun _=>must (by first|assumption|(simp_all<;>omega)) (must rfl (brN (fun _=>must (by first|assumption|(simp_all<;>omega)) (br (fun _=>brN (fun _=>must (by first|assumption|(simp_all<;>omega)) (br (fun _=>br (fun _=>must (by first|assumption|(simp_all<;>omega)) ?_) (fun _=>?_)) (fun _=>?_))) (fun _=>br (fun _=>br (fun _=>must (by first|assumption|(simp_all<;>omega)) ?_) (fun _=>?_)) (fun _=>?_))) (fun _=>br (fun _=>br (fun _=>must (by first|assumption|(simp_all<;>omega)) ?_) (fun _=>?_)) (fun _=>?_)))) (fun _=>br (fun _=>brN (fun _=>must (by first|assumption|(simp_all<;>omega)) (br (fun _=>br (fun _=>must (by first|assumption|(simp_all<;>omega)) ?_) (fun _=>?_)) (fun _=>?_))) (fun _=>br (fun _=>br (fun _=>must (by first|assumption|(simp_all<;>omega)) ?_) (fun _=>?_)) (fun _=>?_))) (fun _=>br (fun _=>br (fun _=>must (by first|assumption|(simp_all<;>omega)) ?_) (fun _=>?_)) (fun _=>?_)))))) (fun _=>must rfl (brN (fun _=>must (by first|assumption|(simp_all<;>omega)) (br (fun _=>brN (fun _=>must (by first|assumption|(simp_all<;>omega)) (br (fun _=>br (fun _=>must (by first|assumption|(simp_all<;>omega)) ?_) (fun _=>?_)) (fun _=>?_))) (fun _=>br (fun _=>br (fun _=>must (by first|assumption|(simp_all<;>omega)) ?_) (fun _=>?_)) (fun _=>?_))) (fun _=>br (fun _=>br (fun _=>must (by first|assumption|(simp_all<;>omega)) ?_) (fun _=>?_)) (fun _=>?_)))) (fun _=>br (fun _=>brN (fun _=>must (by first|assumption|(simp_all<;>omega)) (br (fun _=>br (fun _=>must (by first|assumption|(simp_all<;>omega)) ?_) (fun _=>?_)) (fun _=>?_))) (fun _=>br (fun _=>br (fun _=>must (by first|assumption|(simp_all<;>omega)) ?_) (fun _=>?_)) (fun _=>?_))) (fun _=>br (fun _=>br (fun _=>must (by first|assumption|(simp_all<;>omega)) ?_) (fun _=>?_)) (fun _=>?_))))))
 all_goals first|rfl|(simp only [*,zkF,zjc,cT,cF]<;>rfl)|simp_all [Ty.cells,zkF,zjc]
theorem zDd:Holds Tryz.prog 247 zmW:=zo ze6 zD zu zy (zC (by kernel_rfl)) fun avs rs hb h=>by
 unfold zmW at h;split at h
 ·obtain ⟨hc,rfl⟩:=zl h;exact (fin1 zHX zLn hc hb :)
 ·cases h
@[simp,reducible] def zp4 (c:Ctl):Bool:=true
@[simp,reducible] def zkx (c:Ctl):List Int:=zjc c
def zmG:List AV->Option (Bool×List AV)
 | [.agg [.i .i64 c,.i .i64 d,.b e]]=>some ((zp4 (⟨c,d,e⟩:Ctl)),[.one (.s .int (zkx (⟨c,d,e⟩:Ctl)))])
 | _=>none
def zpu (N:Nat)(a0:Ctl):Option Ans :=
 (cond (zbm a0.Traps 0 3) (cond (cond (zby a0.Traps 0 3) false true) (cond (few (ln (ap [] [1]))) (cond (zbm a0.Post 0 255) (cond (cond (zby a0.Post 0 255) false true) (cond (few (ln (ap (ap [] [1]) [2]))) (cond (ine a0.Post 0) (cond (cond a0.Open false true) (cond (few (ln (ap (ap (ap [] [1]) [2]) [3]))) (cond (ieq a0.Traps 2) (cond (ine a0.Post 0) (cond (few (ln (ap (ap (ap (ap [] [1]) [2]) [3]) [4]))) (some [(.one (.s .int (ap (ap (ap (ap [] [1]) [2]) [3]) [4])))]) none) (some [(.one (.s .int (ap (ap (ap [] [1]) [2]) [3])))])) (some [(.one (.s .int (ap (ap (ap [] [1]) [2]) [3])))])) none) (cond (ieq a0.Traps 2) (cond (ine a0.Post 0) (cond (few (ln (ap (ap (ap [] [1]) [2]) [4]))) (some [(.one (.s .int (ap (ap (ap [] [1]) [2]) [4])))]) none) (some [(.one (.s .int (ap (ap [] [1]) [2])))])) (some [(.one (.s .int (ap (ap [] [1]) [2])))]))) (cond (ieq a0.Traps 2) (cond (ine a0.Post 0) (cond (few (ln (ap (ap (ap [] [1]) [2]) [4]))) (some [(.one (.s .int (ap (ap (ap [] [1]) [2]) [4])))]) none) (some [(.one (.s .int (ap (ap [] [1]) [2])))])) (some [(.one (.s .int (ap (ap [] [1]) [2])))]))) none) (cond (ine a0.Post 0) (cond (cond a0.Open false true) (cond (few (ln (ap (ap [] [1]) [3]))) (cond (ieq a0.Traps 2) (cond (ine a0.Post 0) (cond (few (ln (ap (ap (ap [] [1]) [3]) [4]))) (some [(.one (.s .int (ap (ap (ap [] [1]) [3]) [4])))]) none) (some [(.one (.s .int (ap (ap [] [1]) [3])))])) (some [(.one (.s .int (ap (ap [] [1]) [3])))])) none) (cond (ieq a0.Traps 2) (cond (ine a0.Post 0) (cond (few (ln (ap (ap [] [1]) [4]))) (some [(.one (.s .int (ap (ap [] [1]) [4])))]) none) (some [(.one (.s .int (ap [] [1])))])) (some [(.one (.s .int (ap [] [1])))]))) (cond (ieq a0.Traps 2) (cond (ine a0.Post 0) (cond (few (ln (ap (ap [] [1]) [4]))) (some [(.one (.s .int (ap (ap [] [1]) [4])))]) none) (some [(.one (.s .int (ap [] [1])))])) (some [(.one (.s .int (ap [] [1])))])))) none) none) (cond (zbm a0.Post 0 255) (cond (cond (zby a0.Post 0 255) false true) (cond (few (ln (ap [] [2]))) (cond (ine a0.Post 0) (cond (cond a0.Open false true) (cond (few (ln (ap (ap [] [2]) [3]))) (cond (ieq a0.Traps 2) (cond (ine a0.Post 0) (cond (few (ln (ap (ap (ap [] [2]) [3]) [4]))) (some [(.one (.s .int (ap (ap (ap [] [2]) [3]) [4])))]) none) (some [(.one (.s .int (ap (ap [] [2]) [3])))])) (some [(.one (.s .int (ap (ap [] [2]) [3])))])) none) (cond (ieq a0.Traps 2) (cond (ine a0.Post 0) (cond (few (ln (ap (ap [] [2]) [4]))) (some [(.one (.s .int (ap (ap [] [2]) [4])))]) none) (some [(.one (.s .int (ap [] [2])))])) (some [(.one (.s .int (ap [] [2])))]))) (cond (ieq a0.Traps 2) (cond (ine a0.Post 0) (cond (few (ln (ap (ap [] [2]) [4]))) (some [(.one (.s .int (ap (ap [] [2]) [4])))]) none) (some [(.one (.s .int (ap [] [2])))])) (some [(.one (.s .int (ap [] [2])))]))) none) (cond (ine a0.Post 0) (cond (cond a0.Open false true) (cond (few (ln (ap [] [3]))) (cond (ieq a0.Traps 2) (cond (ine a0.Post 0) (cond (few (ln (ap (ap [] [3]) [4]))) (some [(.one (.s .int (ap (ap [] [3]) [4])))]) none) (some [(.one (.s .int (ap [] [3])))])) (some [(.one (.s .int (ap [] [3])))])) none) (cond (ieq a0.Traps 2) (cond (ine a0.Post 0) (cond (few (ln (ap [] [4]))) (some [(.one (.s .int (ap [] [4])))]) none) (some [(.one (.s .int []))])) (some [(.one (.s .int []))]))) (cond (ieq a0.Traps 2) (cond (ine a0.Post 0) (cond (few (ln (ap [] [4]))) (some [(.one (.s .int (ap [] [4])))]) none) (some [(.one (.s .int []))])) (some [(.one (.s .int []))])))) none)) none)
theorem zK4 (N:Nat)(a0:Ctl):evalFn (cQ ziV zV zK zO) (zB []) N 12 234 [.agg (zkf a0)]=zpu N a0:=by kernel_rfl
theorem zHE (a0:Ctl)(hb:zG big [.agg (zkf a0)])(hc:(zp4 a0)=true):∃N,zpu N a0=some [.one (.s .int (zkx a0))]:=by
 refine ⟨0,?_⟩;unfold zpu;refine must rfl (brN (fun _=>must (by first|assumption|(simp_all<;>omega)) (must rfl (brN (fun _=>must (by first|assumption|(simp_all<;>omega)) (br (fun _=>brN (fun _=>must (by first|assumption|(simp_all<;>omega)) (br (fun _=>br (fun _=>must (by first|assumption|(simp_all<;>omega)) ?_) (fun _=>?_)) (fun _=>?_))) (fun _=>br (fun _=>br (fun _=>must (by first|assumption|(simp_all<;>omega)) ?_) (fun _=>?_)) (fun _=>?_))) (fun _=>br (fun _=>br (fun _=>must (by first|assumption|(simp_all<;>omega)) ?_) (fun _=>?_)) (fun _=>?_)))) (fun _=>br (fun _=>brN (fun _=>must (by first|assumption|(simp_all<;>omega)) (br (fun _=>br (fun _=>must (by first|assumption|(simp_all<;>omega)) ?_) (fun _=>?_)) (fun _=>?_))) (fun _=>br (fun _=>br (fun _=>must (by first|assumption|(simp_all<;>omega)) ?_) (fun _=>?_)) (fun _=>?_))) (fun _=>br (fun _=>br (fun _=>must (by first|assumption|(simp_all<;>omega)) ?_) (fun _=>?_)) (fun _=>?_)))))) (fun _=>must rfl (brN (fun _=>must (by first|assumption|(simp_all<;>omega)) (br (fun _=>brN (fun _=>must (by first|assumption|(simp_all<;>omega)) (br (fun _=>br (fun _=>must (by first|assumption|(simp_all<;>omega)) ?_) (fun _=>?_)) (fun _=>?_))) (fun _=>br (fun _=>br (fun _=>must (by first|assumption|(simp_all<;>omega)) ?_) (fun _=>?_)) (fun _=>?_))) (fun _=>br (fun _=>br (fun _=>must (by first|assumption|(simp_all<;>omega)) ?_) (fun _=>?_)) (fun _=>?_)))) (fun _=>br (fun _=>brN (fun _=>must (by first|assumption|(simp_all<;>omega)) (br (fun _=>br (fun _=>must (by first|assumption|(simp_all<;>omega)) ?_) (fun _=>?_)) (fun _=>?_))) (fun _=>br (fun _=>br (fun _=>must (by first|assumption|(simp_all<;>omega)) ?_) (fun _=>?_)) (fun _=>?_))) (fun _=>br (fun _=>br (fun _=>must (by first|assumption|(simp_all<;>omega)) ?_) (fun _=>?_)) (fun _=>?_))))))
 all_goals first|rfl|(simp only [*,zkx,zjc,cT,cF]<;>rfl)|simp_all [Ty.cells,zkx,zjc]
theorem zCU:Holds Tryz.prog 234 zmG:=zo ze6 zD zu zy (zC (by kernel_rfl)) fun avs rs hb h=>by
 unfold zmG at h;split at h
 ·obtain ⟨hc,rfl⟩:=zl h;exact (fin1 zHE zK4 hc hb :)
 ·cases h
def len8tab:ByteArray:=⟨⟨[0,1,2,2,3,3,3,3,4,4,4,4,4,4,4,4,5,5,5,5,5,5,5,5,5,5,5,5,5,5,5,5,6,6,6,6,6,6,6,6,6,6,6,6,6,6,6,6,6,6,6,6,6,6,6,6,6,6,6,6,6,6,6,6,7,7,7,7,7,7,7,7,7,7,7,7,7,7,7,7,7,7,7,7,7,7,7,7,7,7,7,7,7,7,7,7,7,7,7,7,7,7,7,7,7,7,7,7,7,7,7,7,7,7,7,7,7,7,7,7,7,7,7,7,7,7,7,7,8,8,8,8,8,8,8,8,8,8,8,8,8,8,8,8,8,8,8,8,8,8,8,8,8,8,8,8,8,8,8,8,8,8,8,8,8,8,8,8,8,8,8,8,8,8,8,8,8,8,8,8,8,8,8,8,8,8,8,8,8,8,8,8,8,8,8,8,8,8,8,8,8,8,8,8,8,8,8,8,8,8,8,8,8,8,8,8,8,8,8,8,8,8,8,8,8,8,8,8,8,8,8,8,8,8,8,8,8,8,8,8,8,8,8,8,8,8,8,8,8,8,8,8,8,8,8,8]⟩⟩
def zfY (p n:Int):Bool:=ieq (wand .i64 (zee .i64 p n) 1) 1
def scan (p:Int):Int:=bif zfY p 7 then 7 else (cond (zfY p 6) 6 (cond (zfY p 5) 5 (cond (zfY p 4) 4 (cond (zfY p 3) 3 (cond (zfY p 2) 2 (cond (zfY p 1) 1 (cond (zfY p 0) 0 (-1))))))))
theorem zZO:∀n:Fin 256,zq .i64 0 (wcv .i64 (byteAt len8tab (wcv .u8 (n.val:Int))))=scan (n.val:Int)+1:=by decide +kernel
theorem zR0:∀n:Fin 256,-1<=scan (n.val:Int)/\scan (n.val:Int)<=7/\(0<=scan (n.val:Int)->wsub .i64 (n.val:Int) (zoD .i64 1 (scan (n.val:Int)))=zAl .i64 (n.val:Int) (zoD .i64 1 (scan (n.val:Int)))):=by decide +kernel
theorem zBQ {P:Int->Prop}(h:∀n:Fin 256,P (n.val:Int)){x:Int}(h0:0<=x)(h1:x<=255):P x:=by
 have:=h ⟨x.toNat,by omega⟩
 have e:((x.toNat:Nat):Int)=x:=by omega
 simpa [e] using this
def zks (x:Int):Bool:=pc (0<=x/\x<=255)
def zhg (x:Int):Int:=scan x+1
def zgE:List AV->Option (Bool×List AV)
 | [.one (.i .u64 b)]=>some ((zks b),[.one (.i .i64 (zhg b))])
 | _=>none
def zkc (N:Nat)(a0:Int):Option Ans :=
 (cond (ige a0 4294967296) (cond (ile 0 32) (cond (ige (zee .u64 a0 32) 65536) (cond (ile 0 16) (cond (ige (zee .u64 (zee .u64 a0 32) 16) 256) (cond (ile 0 8) (cond (inb (wcv .u8 (zee .u64 (zee .u64 (zee .u64 a0 32) 16) 8)) 256) (some [(.one (.i .i64 (zq .i64 (zq .i64 (zq .i64 32 16) 8) (wcv .i64 (byteAt len8tab (wcv .u8 (zee .u64 (zee .u64 (zee .u64 a0 32) 16) 8)))))))]) none) none) (cond (inb (wcv .u8 (zee .u64 (zee .u64 a0 32) 16)) 256) (some [(.one (.i .i64 (zq .i64 (zq .i64 32 16) (wcv .i64 (byteAt len8tab (wcv .u8 (zee .u64 (zee .u64 a0 32) 16)))))))]) none)) none) (cond (ige (zee .u64 a0 32) 256) (cond (ile 0 8) (cond (inb (wcv .u8 (zee .u64 (zee .u64 a0 32) 8)) 256) (some [(.one (.i .i64 (zq .i64 (zq .i64 32 8) (wcv .i64 (byteAt len8tab (wcv .u8 (zee .u64 (zee .u64 a0 32) 8)))))))]) none) none) (cond (inb (wcv .u8 (zee .u64 a0 32)) 256) (some [(.one (.i .i64 (zq .i64 32 (wcv .i64 (byteAt len8tab (wcv .u8 (zee .u64 a0 32)))))))]) none))) none) (cond (ige a0 65536) (cond (ile 0 16) (cond (ige (zee .u64 a0 16) 256) (cond (ile 0 8) (cond (inb (wcv .u8 (zee .u64 (zee .u64 a0 16) 8)) 256) (some [(.one (.i .i64 (zq .i64 (zq .i64 (zq .i64 0 16) 8) (wcv .i64 (byteAt len8tab (wcv .u8 (zee .u64 (zee .u64 a0 16) 8)))))))]) none) none) (cond (inb (wcv .u8 (zee .u64 a0 16)) 256) (some [(.one (.i .i64 (zq .i64 (zq .i64 0 16) (wcv .i64 (byteAt len8tab (wcv .u8 (zee .u64 a0 16)))))))]) none)) none) (cond (ige a0 256) (cond (ile 0 8) (cond (inb (wcv .u8 (zee .u64 a0 8)) 256) (some [(.one (.i .i64 (zq .i64 (zq .i64 0 8) (wcv .i64 (byteAt len8tab (wcv .u8 (zee .u64 a0 8)))))))]) none) none) (cond (inb (wcv .u8 a0) 256) (some [(.one (.i .i64 (zq .i64 0 (wcv .i64 (byteAt len8tab (wcv .u8 a0))))))]) none))))
theorem zBP (N:Nat)(a0:Int):evalFn (cQ ziV zV zK zO) (zB []) N 12 213 [.one (.i .u64 a0)]=zkc N a0:=by kernel_rfl
theorem zAN (a0:Int)(hb:zG big [.one (.i .u64 a0)])(hc:(zks a0)=true):∃N,zkc N a0=some [.one (.i .i64 (zhg a0))]:=by
 obtain ⟨h0,h1⟩:=zJ.1 hc;refine ⟨0,?_⟩;unfold zkc;refine zeN (decide_eq_false (by omega)) ?_
 refine zeN (decide_eq_false (by omega)) ?_
 refine zeN (decide_eq_false (by omega)) ?_
 have e:inb (wcv .u8 a0) 256=true:=zBQ (P:=fun x=>inb (wcv .u8 x) 256=true) (by decide +kernel) h0 h1
 refine must e ?_;have e2:=zBQ (P:=fun x=>zq .i64 0 (wcv .i64 (byteAt len8tab (wcv .u8 x)))=scan x+1) zZO h0 h1;rw [e2];rfl
theorem zlw:Holds Tryz.prog 213 zgE:=zo ze6 zD zu zy (zC (by kernel_rfl)) fun avs rs hb h=>by
 unfold zgE at h;split at h
 ·obtain ⟨hc,rfl⟩:=zl h;exact (fin1 zAN zBP hc hb :)
 ·cases h
def ziW:zbQ:=[(106,zt7),(194,zqO),(172,zqj),(193,zuk),(171,ztz),(246,zw2),(233,zwN),(224,zt9),(211,ztp),(247,zmW),(234,zmG),(213,zgE)]++ziV
theorem ze7:zbw ziW:=zn zJZ (zn zHk (zn zGQ (zn zJ9 (zn zJr (zn zMJ (zn zMt (zn zJ1 (zn zJh (zn zDd (zn zCU (zn zlw ze6)))))))))))
def zib (m:List (List Int))(n:Int):Bool:=bif m.all zc5 then ieq (ln m) n else false
@[simp,reducible] def zB2 (m:List (List Int))(n:Int):Bool:=true
@[simp,reducible] def zow (m:List (List Int))(n:Int):Bool:=zib m n
def zw3:List AV->Option (Bool×List AV)
 | [.one (.s (.sl .int) c),.one (.i .i64 d)]=>some ((zB2 c d),[.one (.b (zow c d))])
 | _=>none
def zA6 (N:Nat)(a0:List (List Int))(a1:Int):Option Ans :=
 (iter (σ:=(Int×(Int×((List (List Int))×Unit)))) N (fun r3 s4=>(cond (ilt s4.2.1 (ln s4.2.2.1)) (cond (inb s4.2.1 (ln s4.2.2.1)) (cond (zfn (ix s4.2.2.1 s4.2.1 [])) (cond (cond (zeR (ix s4.2.2.1 s4.2.1 [])) false true) (some [(.one (.b false))]) (r3 (s4.1,((zq .i64 s4.2.1 1),(s4.2.2.1,()))))) none) none) (some [(.one (.b (ieq (ln s4.2.2.1) s4.1)))]))) (a1,(0,(a0,()))))
def zUI:FuncId->Nat->Option Tmpl:=zB [(151,0,{ n:=22,tm:=[(0,.sl 0 []),(1,.i .i64),(5,.i .i64)],lo:=[],ro:=[(0,(.sl .int),false)] })]
theorem zW4 (N:Nat)(a0:List (List Int))(a1:Int):evalFn (cQ ziW zV zK zO) zUI N 12 151 [.one (.s (.sl .int) a0),.one (.i .i64 a1)]=zA6 N a0 a1:=by kernel_rfl
theorem zTh (a0:List (List Int))(a1:Int)(hb:zG big [.one (.s (.sl .int) a0),.one (.i .i64 a1)])(hc:(zB2 a0 a1)=true):∃N,zA6 N a0 a1=some [.one (.b (zow a0 a1))]:=by
 have hl:(_:List _).length<=big:=((zbu hb).1 _ (List.mem_singleton.2 rfl)).len;refine ⟨NN,?_⟩;have hNN:∀{n:Nat},n<=big->n<NN:=fun h=>zb8 h;generalize NN=N at hNN ⊢;unfold zA6;refine (zbF a0 (fun i (t:Unit)=>(a1,(i:Int),a0,())) _ (fun _ x (_:Unit) κ=>bif (zc5) x then κ () else some [AV.one (.b false)]) (fun (t:Unit)=>(some [(.one (.b (ieq (ln a0) a1)))])) (fun i hi t rec=>?_) (fun t rec=>?_) _ () (hNN hl)).trans ?_
 ·simp only [zbv hi,zbg hi,zbq hi,zbf hi hl,cT];exact zhW rfl
 ·simp only [zbj,cF]
 rw [zgm (zc5)];refine br (fun h0=>?_) (fun h0=>?_)
 ·first|rfl|(simp only [h0,zow,zib,cT,cF]<;>rfl)|(simp_all [Ty.cells,zow,zib];done)
 ·first|rfl|(simp only [h0,zow,zib,cT,cF]<;>rfl)|(simp_all [Ty.cells,zow,zib];done)
theorem zMK:Holds Tryz.prog 151 zw3:=zo ze7 zD zu zy (zC (by kernel_rfl)) fun avs rs hb h=>by
 unfold zw3 at h;split at h
 ·obtain ⟨hc,rfl⟩:=zl h;exact (fin2 zTh zW4 hc hb :)
 ·cases h
@[simp,reducible] def zph (m:List (List Int))(n:Int):Bool:=true
@[simp,reducible] def zjT (m:List (List Int))(n:Int):Bool:=zib m n
def zwO:List AV->Option (Bool×List AV)
 | [.one (.s (.sl .int) c),.one (.i .i64 d)]=>some ((zph c d),[.one (.b (zjT c d))])
 | _=>none
def zAR (N:Nat)(a0:List (List Int))(a1:Int):Option Ans :=
 (iter (σ:=(Int×(Int×(Int×((List (List Int))×Unit))))) N (fun r3 s4=>(cond (ilt s4.2.2.1 s4.2.1) (cond (inb s4.2.2.1 (ln s4.2.2.2.1)) (cond (zg0 (ix s4.2.2.2.1 s4.2.2.1 [])) (cond (cond (zfM (ix s4.2.2.2.1 s4.2.2.1 [])) false true) (some [(.one (.b false))]) (r3 (s4.1,(s4.2.1,((zq .i64 s4.2.2.1 1),(s4.2.2.2.1,())))))) none) none) (some [(.one (.b (ieq (ln s4.2.2.2.1) s4.1)))]))) (a1,((ln a0),(0,(a0,())))))
def zUG:FuncId->Nat->Option Tmpl:=zB [(117,0,{ n:=21,tm:=[(0,.sl 0 []),(1,.i .i64),(7,.sl 0 []),(8,.i .i64),(9,.i .i64)],lo:=[],ro:=[(0,(.sl .int),false)] })]
theorem zWO (N:Nat)(a0:List (List Int))(a1:Int):evalFn (cQ ziW zV zK zO) zUG N 12 117 [.one (.s (.sl .int) a0),.one (.i .i64 a1)]=zAR N a0 a1:=by kernel_rfl
theorem zS1 (a0:List (List Int))(a1:Int)(hb:zG big [.one (.s (.sl .int) a0),.one (.i .i64 a1)])(hc:(zph a0 a1)=true):∃N,zAR N a0 a1=some [.one (.b (zjT a0 a1))]:=by
 have hl:(_:List _).length<=big:=((zbu hb).1 _ (List.mem_singleton.2 rfl)).len;refine ⟨NN,?_⟩;have hNN:∀{n:Nat},n<=big->n<NN:=fun h=>zb8 h;generalize NN=N at hNN ⊢;unfold zAR;refine (zbF a0 (fun i (t:Unit)=>(a1,(ln a0),(i:Int),a0,())) _ (fun _ x (_:Unit) κ=>bif (zc5) x then κ () else some [AV.one (.b false)]) (fun (t:Unit)=>(some [(.one (.b (ieq (ln a0) a1)))])) (fun i hi t rec=>?_) (fun t rec=>?_) _ () (hNN hl)).trans ?_
 ·simp only [zbv hi,zbg hi,zbq hi,zbf hi hl,cT];exact zhW rfl
 ·simp only [zbj,cF]
 rw [zgm (zc5)];refine br (fun h0=>?_) (fun h0=>?_)
 ·first|rfl|(simp only [h0,zjT,zib,cT,cF]<;>rfl)|(simp_all [Ty.cells,zjT,zib];done)
 ·first|rfl|(simp only [h0,zjT,zib,cT,cF]<;>rfl)|(simp_all [Ty.cells,zjT,zib];done)
theorem zMu:Holds Tryz.prog 117 zwO:=zo ze7 zD zu zy (zC (by kernel_rfl)) fun avs rs hb h=>by
 unfold zwO at h;split at h
 ·obtain ⟨hc,rfl⟩:=zl h;exact (fin2 zS1 zWO hc hb :)
 ·cases h
def zjC (p:List Ins):Bool:=bif p.all zmp then win (ln p) 1 12 else false
@[simp,reducible] def zAa (p:List Ins):Bool:=true
@[simp,reducible] def zlj (p:List Ins):Bool:=zjC p
def zum:List AV->Option (Bool×List AV)
 | [.one (.s .ins c)]=>some ((zAa c),[.one (.b (zlj c))])
 | _=>none
def zyS (N:Nat)(a0:List Ins):Option Ans :=
 (iter (σ:=(Int×((List Ins)×Unit))) N (fun r2 s3=>(cond (ilt s3.1 (ln s3.2.1)) (cond (inb s3.1 (ln s3.2.1)) (cond (zB1 (ix s3.2.1 s3.1 zfs)) (cond (cond (zxR (ix s3.2.1 s3.1 zfs)) false true) (some [(.one (.b false))]) (r2 ((zq .i64 s3.1 1),(s3.2.1,())))) none) none) (cond (zZ (ln s3.2.1) 1 12) (some [(.one (.b (zbe (ln s3.2.1) 1 12)))]) none))) (0,(a0,())))
def zSu:FuncId->Nat->Option Tmpl:=zB [(222,0,{ n:=19,tm:=[(0,.sl 0 []),(3,.i .i64)],lo:=[],ro:=[(0,.ins,false)] })]
theorem zUm (N:Nat)(a0:List Ins):evalFn (cQ ziW zV zK zO) zSu N 12 222 [.one (.s .ins a0)]=zyS N a0:=by kernel_rfl
theorem zQR (a0:List Ins)(hb:zG big [.one (.s .ins a0)])(hc:(zAa a0)=true):∃N,zyS N a0=some [.one (.b (zlj a0))]:=by
 have hl:(_:List _).length<=big:=((zbu hb).1 _ (List.mem_singleton.2 rfl)).len;refine ⟨NN,?_⟩;have hNN:∀{n:Nat},n<=big->n<NN:=fun h=>zb8 h;generalize NN=N at hNN ⊢;unfold zyS;refine (zbF a0 (fun i (t:Unit)=>((i:Int),a0,())) _ (fun _ x (_:Unit) κ=>bif (zmp) x then κ () else some [AV.one (.b false)]) (fun (t:Unit)=>(cond (zZ (ln a0) 1 12) (some [(.one (.b (zbe (ln a0) 1 12)))]) none)) (fun i hi t rec=>?_) (fun t rec=>?_) _ () (hNN hl)).trans ?_
 ·simp only [zbv hi,zbg hi,zbq hi,zbf hi hl,cT];exact zhW rfl
 ·simp only [zbj,cF]
 rw [zgm (zmp)];refine br (fun h0=>?_) (fun h0=>?_)
 ·refine must rfl ?_
  first|rfl|(simp only [h0,zlj,zjC,cT,cF]<;>rfl)|(simp_all [Ty.cells,zlj,zjC];done)
 ·first|rfl|(simp only [h0,zlj,zjC,cT,cF]<;>rfl)|(simp_all [Ty.cells,zlj,zjC];done)
theorem zKb:Holds Tryz.prog 222 zum:=zo ze7 zD zu zy (zC (by kernel_rfl)) fun avs rs hb h=>by
 unfold zum at h;split at h
 ·obtain ⟨hc,rfl⟩:=zl h;exact (fin1 zQR zUm hc hb :)
 ·cases h
@[simp,reducible] def zzD (p:List Ins):Bool:=true
@[simp,reducible] def zk4 (p:List Ins):Bool:=zjC p
def ztB:List AV->Option (Bool×List AV)
 | [.one (.s .ins c)]=>some ((zzD c),[.one (.b (zk4 c))])
 | _=>none
def zyd (N:Nat)(a0:List Ins):Option Ans :=
 (iter (σ:=(Int×(Int×((List Ins)×Unit)))) N (fun r2 s3=>(cond (ilt s3.2.1 s3.1) (cond (inb s3.2.1 (ln s3.2.2.1)) (cond (zBD (ix s3.2.2.1 s3.2.1 zfs)) (cond (cond (zxx (ix s3.2.2.1 s3.2.1 zfs)) false true) (some [(.one (.b false))]) (r2 (s3.1,((zq .i64 s3.2.1 1),(s3.2.2.1,()))))) none) none) (cond (zbm (ln s3.2.2.1) 1 12) (some [(.one (.b (zby (ln s3.2.2.1) 1 12)))]) none))) ((ln a0),(0,(a0,()))))
def zSg:FuncId->Nat->Option Tmpl:=zB [(209,0,{ n:=18,tm:=[(0,.sl 0 []),(5,.sl 0 []),(6,.i .i64),(7,.i .i64)],lo:=[],ro:=[(0,.ins,false)] })]
theorem zTE (N:Nat)(a0:List Ins):evalFn (cQ ziW zV zK zO) zSg N 12 209 [.one (.s .ins a0)]=zyd N a0:=by kernel_rfl
theorem zP9 (a0:List Ins)(hb:zG big [.one (.s .ins a0)])(hc:(zzD a0)=true):∃N,zyd N a0=some [.one (.b (zk4 a0))]:=by
 have hl:(_:List _).length<=big:=((zbu hb).1 _ (List.mem_singleton.2 rfl)).len;refine ⟨NN,?_⟩;have hNN:∀{n:Nat},n<=big->n<NN:=fun h=>zb8 h;generalize NN=N at hNN ⊢;unfold zyd;refine (zbF a0 (fun i (t:Unit)=>((ln a0),(i:Int),a0,())) _ (fun _ x (_:Unit) κ=>bif (zmp) x then κ () else some [AV.one (.b false)]) (fun (t:Unit)=>(cond (zbm (ln a0) 1 12) (some [(.one (.b (zby (ln a0) 1 12)))]) none)) (fun i hi t rec=>?_) (fun t rec=>?_) _ () (hNN hl)).trans ?_
 ·simp only [zbv hi,zbg hi,zbq hi,zbf hi hl,cT];exact zhW rfl
 ·simp only [zbj,cF]
 rw [zgm (zmp)];refine br (fun h0=>?_) (fun h0=>?_)
 ·refine must rfl ?_
  first|rfl|(simp only [h0,zk4,zjC,cT,cF]<;>rfl)|(simp_all [Ty.cells,zk4,zjC];done)
 ·first|rfl|(simp only [h0,zk4,zjC,cT,cF]<;>rfl)|(simp_all [Ty.cells,zk4,zjC];done)
theorem zJt:Holds Tryz.prog 209 ztB:=zo ze7 zD zu zy (zC (by kernel_rfl)) fun avs rs hb h=>by
 unfold ztB at h;split at h
 ·obtain ⟨hc,rfl⟩:=zl h;exact (fin1 zP9 zTE hc hb :)
 ·cases h
def zza (c:Ctl):Bool:=ieq (ln (zjc c)) 0
@[simp,reducible] def zBZ (c:Ctl):Bool:=true
@[simp,reducible] def zxQ (c:Ctl):Bool:=zza c
def zw0:List AV->Option (Bool×List AV)
 | [.agg [.i .i64 c,.i .i64 d,.b e]]=>some ((zBZ (⟨c,d,e⟩:Ctl)),[.one (.b (zxQ (⟨c,d,e⟩:Ctl)))])
 | _=>none
def zA3 (N:Nat)(a0:Ctl):Option Ans :=
 (cond (zqY a0) (some [(.one (.b (ieq (ln (zkF a0)) 0)))]) none)
theorem zW1 (N:Nat)(a0:Ctl):evalFn (cQ ziW zV zK zO) (zB []) N 12 223 [.agg (zkf a0)]=zA3 N a0:=by kernel_rfl
theorem zTe (a0:Ctl)(hb:zG big [.agg (zkf a0)])(hc:(zBZ a0)=true):∃N,zA3 N a0=some [.one (.b (zxQ a0))]:=by
 refine ⟨0,?_⟩;unfold zA3;refine must rfl ?_
 first|rfl|(simp only [*,zxQ,zza,cT,cF]<;>rfl)|simp_all [Ty.cells,zxQ,zza]
theorem zMH:Holds Tryz.prog 223 zw0:=zo ze7 zD zu zy (zC (by kernel_rfl)) fun avs rs hb h=>by
 unfold zw0 at h;split at h
 ·obtain ⟨hc,rfl⟩:=zl h;exact (fin1 zTe zW1 hc hb :)
 ·cases h
@[simp,reducible] def zBC (c:Ctl):Bool:=true
@[simp,reducible] def zxw (c:Ctl):Bool:=zza c
def zwL:List AV->Option (Bool×List AV)
 | [.agg [.i .i64 c,.i .i64 d,.b e]]=>some ((zBC (⟨c,d,e⟩:Ctl)),[.one (.b (zxw (⟨c,d,e⟩:Ctl)))])
 | _=>none
def zAO (N:Nat)(a0:Ctl):Option Ans :=
 (cond (zp4 a0) (some [(.one (.b (ieq (ln (zkx a0)) 0)))]) none)
theorem zWL (N:Nat)(a0:Ctl):evalFn (cQ ziW zV zK zO) (zB []) N 12 210 [.agg (zkf a0)]=zAO N a0:=by kernel_rfl
theorem zSY (a0:Ctl)(hb:zG big [.agg (zkf a0)])(hc:(zBC a0)=true):∃N,zAO N a0=some [.one (.b (zxw a0))]:=by
 refine ⟨0,?_⟩;unfold zAO;refine must rfl ?_
 first|rfl|(simp only [*,zxw,zza,cT,cF]<;>rfl)|simp_all [Ty.cells,zxw,zza]
theorem zMr:Holds Tryz.prog 210 zwL:=zo ze7 zD zu zy (zC (by kernel_rfl)) fun avs rs hb h=>by
 unfold zwL at h;split at h
 ·obtain ⟨hc,rfl⟩:=zl h;exact (fin1 zSY zWL hc hb :)
 ·cases h
def zde (p:Int):Int:=bif zgz p then scan p else -1
theorem zVH {x:Int}(h0:0<=x)(h1:x<=255):wcv .u64 x=x:=zBQ (P:=fun x=>wcv .u64 x=x) (by decide +kernel) h0 h1
@[simp,reducible] def zrr (p:Int):Bool:=true
@[simp,reducible] def zk5 (p:Int):Int:=zde p
def ztH:List AV->Option (Bool×List AV)
 | [.one (.i .i64 b)]=>some ((zrr b),[.one (.i .i64 (zk5 b))])
 | _=>none
def zyj (N:Nat)(a0:Int):Option Ans :=
 (cond (zh1 a0) (cond (cond (zh0 a0) false true) (some [(.one (.i .i64 (-1)))]) (cond (zks (wcv .u64 a0)) (some [(.one (.i .i64 (wsub .i64 (zhg (wcv .u64 a0)) 1)))]) none)) none)
theorem zTK (N:Nat)(a0:Int):evalFn (cQ ziW zV zK zO) (zB []) N 12 177 [.one (.i .i64 a0)]=zyj N a0:=by kernel_rfl
theorem zQf (a0:Int)(hb:zG big [.one (.i .i64 a0)])(hc:(zrr a0)=true):∃N,zyj N a0=some [.one (.i .i64 (zk5 a0))]:=by
 refine ⟨0,?_⟩;unfold zyj;refine must rfl ?_;cases h:zgz a0
 ·refine must (by simp [h]) ?_
  simp [zde,h]
 ·obtain ⟨h0,h1⟩:=zfT.1 h;have r:=zBQ (P:=fun x=>-1<=scan x/\scan x<=7/\(0<=scan x->wsub .i64 x (zoD .i64 1 (scan x))=zAl .i64 x (zoD .i64 1 (scan x)))) zR0 h0 h1;refine zeN (by simp [h]) ?_
  rw [zVH h0 h1];refine must (zU ⟨h0,h1⟩) ?_;have e:wsub .i64 (zhg a0) 1=scan a0:=by
   unfold zhg;rw [zoE (by omega) (by omega)];omega
  rw [e];simp [zde,h]
theorem zJz:Holds Tryz.prog 177 ztH:=zo ze7 zD zu zy (zC (by kernel_rfl)) fun avs rs hb h=>by
 unfold ztH at h;split at h
 ·obtain ⟨hc,rfl⟩:=zl h;exact (fin1 zQf zTK hc hb :)
 ·cases h
@[simp,reducible] def zrR (p:Int):Bool:=true
@[simp,reducible] def zlk (p:Int):Int:=zde p
def zuq:List AV->Option (Bool×List AV)
 | [.one (.i .i64 b)]=>some ((zrR b),[.one (.i .i64 (zlk b))])
 | _=>none
def zyW (N:Nat)(a0:Int):Option Ans :=
 (iter (σ:=(Int×(Int×Unit))) N (fun r2 s3=>(cond (ige s3.2.1 0) (cond (zhc s3.1) (cond (zgD s3.1) (cond (ile 0 (wcv .u64 s3.2.1)) (cond (ieq (wand .i64 (zee .i64 s3.1 (wcv .u64 s3.2.1)) 1) 1) (some [(.one (.i .i64 s3.2.1))]) (r2 (s3.1,((wsub .i64 s3.2.1 1),())))) none) (some [(.one (.i .i64 (-1)))])) none) (some [(.one (.i .i64 (-1)))]))) (a0,(7,())))
def zSv:FuncId->Nat->Option Tmpl:=zB [(154,0,{ n:=19,tm:=[(0,.i .i64),(3,.i .i64)],lo:=[],ro:=[] })]
theorem zUq (N:Nat)(a0:Int):evalFn (cQ ziW zV zK zO) zSv N 12 154 [.one (.i .i64 a0)]=zyW N a0:=by kernel_rfl
theorem zQV (a0:Int)(hb:zG big [.one (.i .i64 a0)])(hc:(zrR a0)=true):∃N,zyW N a0=some [.one (.i .i64 (zlk a0))]:=by
 refine ⟨10,?_⟩;unfold zyW;cases h:zgz a0
 ·rw [zcw];refine must rfl ?_;refine must rfl ?_;refine zeN h ?_;simp [zde,h]
 ·have hs:zgD a0=true:=h;rw [zcw];refine must rfl (must rfl (must hs (must rfl (br (fun h7=>?_) (fun h7=>?_)))))
  ·have e7:zfY a0 7=true:=h7;simp [zde,h,scan,e7]
  have f7:zfY a0 7=false:=h7
  show iter 9 _ (a0,6,())=_
  rw [zcw];refine must rfl (must rfl (must hs (must rfl (br (fun h6=>?_) (fun h6=>?_)))))
  ·have e6:zfY a0 6=true:=h6;simp [zde,h,scan,e6,f7]
  have f6:zfY a0 6=false:=h6
  show iter 8 _ (a0,5,())=_
  rw [zcw];refine must rfl (must rfl (must hs (must rfl (br (fun h5=>?_) (fun h5=>?_)))))
  ·have e5:zfY a0 5=true:=h5;simp [zde,h,scan,e5,f7,f6]
  have f5:zfY a0 5=false:=h5
  show iter 7 _ (a0,4,())=_
  rw [zcw];refine must rfl (must rfl (must hs (must rfl (br (fun h4=>?_) (fun h4=>?_)))))
  ·have e4:zfY a0 4=true:=h4;simp [zde,h,scan,e4,f7,f6,f5]
  have f4:zfY a0 4=false:=h4
  show iter 6 _ (a0,3,())=_
  rw [zcw];refine must rfl (must rfl (must hs (must rfl (br (fun h3=>?_) (fun h3=>?_)))))
  ·have e3:zfY a0 3=true:=h3;simp [zde,h,scan,e3,f7,f6,f5,f4]
  have f3:zfY a0 3=false:=h3
  show iter 5 _ (a0,2,())=_
  rw [zcw];refine must rfl (must rfl (must hs (must rfl (br (fun h2=>?_) (fun h2=>?_)))))
  ·have e2:zfY a0 2=true:=h2;simp [zde,h,scan,e2,f7,f6,f5,f4,f3]
  have f2:zfY a0 2=false:=h2
  show iter 4 _ (a0,1,())=_
  rw [zcw];refine must rfl (must rfl (must hs (must rfl (br (fun h1=>?_) (fun h1=>?_)))))
  ·have e1:zfY a0 1=true:=h1;simp [zde,h,scan,e1,f7,f6,f5,f4,f3,f2]
  have f1:zfY a0 1=false:=h1
  show iter 3 _ (a0,0,())=_
  rw [zcw];refine must rfl (must rfl (must hs (must rfl (br (fun h0=>?_) (fun h0=>?_)))))
  ·have e0:zfY a0 0=true:=h0;simp [zde,h,scan,e0,f7,f6,f5,f4,f3,f2,f1]
  have f0:zfY a0 0=false:=h0
  show iter 2 _ (a0,-1,())=_
  rw [zcw];refine zeN rfl ?_;simp [zde,h,scan,f7,f6,f5,f4,f3,f2,f1,f0]
theorem zKf:Holds Tryz.prog 154 zuq:=zo ze7 zD zu zy (zC (by kernel_rfl)) fun avs rs hb h=>by
 unfold zuq at h;split at h
 ·obtain ⟨hc,rfl⟩:=zl h;exact (fin1 zQV zUq hc hb :)
 ·cases h
end
end Go.Proofs.YtdmheolglokabaaGreat.E
