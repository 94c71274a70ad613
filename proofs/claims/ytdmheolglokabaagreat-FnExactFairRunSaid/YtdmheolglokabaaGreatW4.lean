/- What is proved here: a part of the proof that the statement of this claim holds (several texts of wip/, laid together). -/
import Derived.Test.YtdmheolglokabaaGreatW3
namespace Go.Proofs.YtdmheolglokabaaGreat.E
open Go
set_option linter.unusedVariables false
set_option maxRecDepth 100000
set_option linter.unusedSimpArgs false
set_option linter.unusedSectionVars false
noncomputable section
def noSlot:Slot:=⟨-1,0⟩
def zc5:Bool:=true
@[reducible] def zbZ:Slot:=noSlot
def ztk:List AV->Option (Bool×List AV)
 | []=>some (zc5,[.agg (Ty.cells .slot zbZ)])
 | _=>none
def zHb (N:Nat)  : Option Ans :=
 (some [(.agg [(.i .i64 (-1)),(.i .i64 0)])])
theorem zTT (N:Nat)  : evalFn (cQ zF0 zbV zK zO) (zB []) N 12 196 []=zHb N:=by kernel_rfl
theorem zRq  (hb:zG big []) (hc:zc5=true):∃N,zHb N  = some [.agg (Ty.cells .slot zbZ)]:=by
 exact ⟨0,rfl⟩
theorem zKC:Holds Tryz.prog 196 ztk:=zo zr6 zbe zu zA (zC (by kernel_rfl)) fun avs rs hb h=>by
 unfold ztk at h;split at h
 ·obtain ⟨hc,rfl⟩:=zl h;exact (fin0 zRq zTT hc hb :)
 ·cases h
def zc6:Bool:=true
@[reducible] def zcD:Slot:=noSlot
def zuL:List AV->Option (Bool×List AV)
 | []=>some (zc6,[.agg (Ty.cells .slot zcD)])
 | _=>none
def zIk (N:Nat)  : Option Ans :=
 (some [(.agg [(.i .i64 (-1)),(.i .i64 0)])])
theorem zUO (N:Nat)  : evalFn (cQ zF0 zbV zK zO) (zB []) N 12 175 []=zIk N:=by kernel_rfl
theorem zPO  (hb:zG big []) (hc:zc6=true):∃N,zIk N  = some [.agg (Ty.cells .slot zcD)]:=by
 exact ⟨0,rfl⟩
theorem zJE:Holds Tryz.prog 175 zuL:=zo zr6 zbe zu zA (zC (by kernel_rfl)) fun avs rs hb h=>by
 unfold zuL at h;split at h
 ·obtain ⟨hc,rfl⟩:=zl h;exact (fin0 zPO zUO hc hb :)
 ·cases h
def zbn (_ _ _:Int):Bool:=true
def zbx (x a b:Int):Bool:=ige x a&&ile x b
def zuJ:List AV->Option (Bool×List AV)
 | [.one (.i .i64 c),.one (.i .i64 d),.one (.i .i64 e)]=>some ((zbn c d e),[.one (.b (zbx c d e))])
 | _=>none
def zzs (N:Nat)(a0 a1 a2:Int):Option Ans :=
 (cond (ige a0 a1) (some [(.one (.b (ile a0 a2)))]) (some [(.one (.b false))]))
theorem zTV (N:Nat)(a0 a1 a2:Int):evalFn (cQ zF0 zbV zK zO) (zB []) N 12 118 [.one (.i .i64 a0),.one (.i .i64 a1),.one (.i .i64 a2)]=zzs N a0 a1 a2:=by kernel_rfl
theorem zSl (a0 a1 a2:Int)(hb:zG big [.one (.i .i64 a0),.one (.i .i64 a1),.one (.i .i64 a2)])(hc:(zbn a0 a1 a2)=true):∃N,zzs N a0 a1 a2=some [.one (.b (zbx a0 a1 a2))]:=by
 refine ⟨0,?_⟩;unfold zzs zbx;cases ige a0 a1<;>rfl
theorem zJr:Holds Tryz.prog 118 zuJ:=zo zr6 zbe zu zA (zC (by kernel_rfl)) fun avs rs hb h=>by
 unfold zuJ at h;split at h
 ·obtain ⟨hc,rfl⟩:=zl h;exact (zd7 zSl zTV hc hb :)
 ·cases h
def zPg:zbP:=[(196,ztk),(175,zuL),(118,zuJ)]++zF0
theorem zE5:zbv zPg:=zn zKC (zn zJE (zn zJr zr6))
def zdX (r:Int):Bool:=ige r 0&&ile r 3
def zhE (_:Int):Bool:=true
@[reducible] def zga (r:Int):Bool:=zdX r
def znY:List AV->Option (Bool×List AV)
 | [.one (.i .i64 c)]=>some ((zhE c),[.one (.b (zga c))])
 | _=>none
def zCi (N:Nat)(a0:Int):Option Ans :=
 (cond (zZ a0 0 3) (some [(.one (.b (zbf a0 0 3)))]) none)
theorem zOd (N:Nat)(a0:Int):evalFn (cQ zPg zbV zK zO) (zB []) N 12 199 [.one (.i .i64 a0)]=zCi N a0:=by kernel_rfl
theorem zJm (a0:Int)(hb:zG big [.one (.i .i64 a0)])(hc:(zhE a0)=true):∃N,zCi N a0=some [.one (.b (zga a0))]:=by
 exact ⟨0,rfl⟩
theorem zFV:Holds Tryz.prog 199 znY:=zo zE5 zbe zu zA (zC (by kernel_rfl)) fun avs rs hb h=>by
 unfold znY at h;split at h
 ·obtain ⟨hc,rfl⟩:=zl h;exact (fin1 zJm zOd hc hb :)
 ·cases h
def zhN (_:Int):Bool:=true
@[reducible] def zf2 (r:Int):Bool:=zdX r
def zol:List AV->Option (Bool×List AV)
 | [.one (.i .i64 c)]=>some ((zhN c),[.one (.b (zf2 c))])
 | _=>none
def zBu (N:Nat)(a0:Int):Option Ans :=
 (cond (zbn a0 0 3) (some [(.one (.b (zbx a0 0 3)))]) none)
theorem zNY (N:Nat)(a0:Int):evalFn (cQ zPg zbV zK zO) (zB []) N 12 212 [.one (.i .i64 a0)]=zBu N a0:=by kernel_rfl
theorem zL6 (a0:Int)(hb:zG big [.one (.i .i64 a0)])(hc:(zhN a0)=true):∃N,zBu N a0=some [.one (.b (zf2 a0))]:=by
 exact ⟨0,rfl⟩
theorem zFK:Holds Tryz.prog 212 zol:=zo zE5 zbe zu zA (zC (by kernel_rfl)) fun avs rs hb h=>by
 unfold zol at h;split at h
 ·obtain ⟨hc,rfl⟩:=zl h;exact (fin1 zL6 zNY hc hb :)
 ·cases h
def zvx:zbP:=[(199,znY),(212,zol)]++zPg
theorem zk3:zbv zvx:=zn zFV (zn zFK zE5)
def zhi (a b:Int):Int:=bif zdX a then (cond (zdX b) (wand .i64 a b) 0) else 0
def zoa (_ _:Int):Bool:=true
@[reducible] def zgD (a b:Int):Int:=zhi a b
def zlf:List AV->Option (Bool×List AV)
 | [.one (.i .i64 b),.one (.i .i64 c)]=>some ((zoa b c),[.one (.i .i64 (zgD b c))])
 | _=>none
def znJ (N:Nat)(a0 a1:Int):Option Ans :=
 (cond (zhE a0) (cond (cond (zga a0) false true) (some [(.one (.i .i64 0))]) (cond (zhE a1) (cond (cond (zga a1) false true) (some [(.one (.i .i64 0))]) (some [(.one (.i .i64 (wand .i64 a0 a1)))])) none)) none)
theorem zHX (N:Nat)(a0 a1:Int):evalFn (cQ zvx zbV zK zO) (zB []) N 12 231 [.one (.i .i64 a0),.one (.i .i64 a1)]=znJ N a0 a1:=by kernel_rfl
theorem zES (a0 a1:Int)(hb:zG big [.one (.i .i64 a0),.one (.i .i64 a1)])(hc:(zoa a0 a1)=true):∃N,znJ N a0 a1=some [.one (.i .i64 (zgD a0 a1))]:=by
 refine ⟨0,?_⟩;unfold znJ zgD zhi zga;cases zdX a0<;>cases zdX a1<;>rfl
theorem zA8:Holds Tryz.prog 231 zlf:=zo zk3 zbe zu zA (zC (by kernel_rfl)) fun avs rs hb h=>by
 unfold zlf at h;split at h
 ·obtain ⟨hc,rfl⟩:=zl h;exact (fin2 zES zHX hc hb :)
 ·cases h
def znO (_ _:Int):Bool:=true
@[reducible] def zgw (a b:Int):Int:=zhi a b
def zlc:List AV->Option (Bool×List AV)
 | [.one (.i .i64 b),.one (.i .i64 c)]=>some ((znO b c),[.one (.i .i64 (zgw b c))])
 | _=>none
def zn5 (N:Nat)(a0 a1:Int):Option Ans :=
 (cond (zhN a0) (cond (cond (zf2 a0) false true) (some [(.one (.i .i64 0))]) (cond (zhN a1) (cond (cond (zf2 a1) false true) (some [(.one (.i .i64 0))]) (some [(.one (.i .i64 (wand .i64 a0 a1)))])) none)) none)
theorem zIQ (N:Nat)(a0 a1:Int):evalFn (cQ zvx zbV zK zO) (zB []) N 12 242 [.one (.i .i64 a0),.one (.i .i64 a1)]=zn5 N a0 a1:=by kernel_rfl
theorem zGh (a0 a1:Int)(hb:zG big [.one (.i .i64 a0),.one (.i .i64 a1)])(hc:(znO a0 a1)=true):∃N,zn5 N a0 a1=some [.one (.i .i64 (zgw a0 a1))]:=by
 refine ⟨0,?_⟩;unfold zn5 zgw zhi zf2;cases zdX a0<;>cases zdX a1<;>rfl
theorem zBR:Holds Tryz.prog 242 zlc:=zo zk3 zbe zu zA (zC (by kernel_rfl)) fun avs rs hb h=>by
 unfold zlc at h;split at h
 ·obtain ⟨hc,rfl⟩:=zl h;exact (fin2 zGh zIQ hc hb :)
 ·cases h
def enough (a b:Int):Bool:=bif zdX a then (cond (zdX b) (ieq (wand .i64 a b) b) false) else false
def zf1 (_ _:Int):Bool:=true
@[reducible] def zgF (a b:Int):Bool:=enough a b
def zuE:List AV->Option (Bool×List AV)
 | [.one (.i .i64 c),.one (.i .i64 d)]=>some ((zf1 c d),[.one (.b (zgF c d))])
 | _=>none
def zyP (N:Nat)(a0 a1:Int):Option Ans :=
 (cond (zhE a0) (cond (zga a0) (cond (zhE a1) (cond (zga a1) (some [(.one (.b (ieq (wand .i64 a0 a1) a1)))]) (some [(.one (.b false))])) none) (some [(.one (.b false))])) none)
theorem zT3 (N:Nat)(a0 a1:Int):evalFn (cQ zvx zbV zK zO) (zB []) N 12 158 [.one (.i .i64 a0),.one (.i .i64 a1)]=zyP N a0 a1:=by kernel_rfl
theorem zPZ (a0 a1:Int)(hb:zG big [.one (.i .i64 a0),.one (.i .i64 a1)])(hc:(zf1 a0 a1)=true):∃N,zyP N a0 a1=some [.one (.b (zgF a0 a1))]:=by
 refine ⟨0,?_⟩;unfold zyP zgF enough zga;cases zdX a0<;>cases zdX a1<;>rfl
theorem zJv:Holds Tryz.prog 158 zuE:=zo zk3 zbe zu zA (zC (by kernel_rfl)) fun avs rs hb h=>by
 unfold zuE at h;split at h
 ·obtain ⟨hc,rfl⟩:=zl h;exact (fin2 zPZ zT3 hc hb :)
 ·cases h
def zdi (_ _:Int):Bool:=true
@[reducible] def zdM (a b:Int):Bool:=enough a b
def zsP:List AV->Option (Bool×List AV)
 | [.one (.i .i64 c),.one (.i .i64 d)]=>some ((zdi c d),[.one (.b (zdM c d))])
 | _=>none
def zAk (N:Nat)(a0 a1:Int):Option Ans :=
 (cond (zhN a0) (cond (zf2 a0) (cond (zhN a1) (cond (zf2 a1) (some [(.one (.b (ieq (wand .i64 a0 a1) a1)))]) (some [(.one (.b false))])) none) (some [(.one (.b false))])) none)
theorem zTX (N:Nat)(a0 a1:Int):evalFn (cQ zvx zbV zK zO) (zB []) N 12 176 [.one (.i .i64 a0),.one (.i .i64 a1)]=zAk N a0 a1:=by kernel_rfl
theorem zR3 (a0 a1:Int)(hb:zG big [.one (.i .i64 a0),.one (.i .i64 a1)])(hc:(zdi a0 a1)=true):∃N,zAk N a0 a1=some [.one (.b (zdM a0 a1))]:=by
 refine ⟨0,?_⟩;unfold zAk zdM enough zf2;cases zdX a0<;>cases zdX a1<;>rfl
theorem zLY:Holds Tryz.prog 176 zsP:=zo zk3 zbe zu zA (zC (by kernel_rfl)) fun avs rs hb h=>by
 unfold zsP at h;split at h
 ·obtain ⟨hc,rfl⟩:=zl h;exact (fin2 zR3 zTX hc hb :)
 ·cases h
def zdR (t:List Slot)(p:Int):Slot:=bif hasB p (ln t) then ix t p zQ else noSlot
def zrt (_:List Slot)(_:Int):Bool:=true
@[reducible] def zeU (t:List Slot)(p:Int):Slot:=zdR t p
def zuh:List AV->Option (Bool×List AV)
 | [.one (.s .slot b),.one (.i .i64 c)]=>some ((zrt b c),[.agg (Ty.cells .slot (zeU b c))])
 | _=>none
def zzm (N:Nat)(a0:List Slot)(a1:Int):Option Ans :=
 (cond (zZ a1 0 (wsub .i64 (ln a0) 1)) (cond (cond (zbf a1 0 (wsub .i64 (ln a0) 1)) false true) (cond zc5 (some [(.agg [(.i .i64 zbZ.Page),(.i .i64 zbZ.Rights)])]) none) (cond (inb a1 (ln a0)) (some [(.agg [(.i .i64 (ix a0 a1 zQ).Page),(.i .i64 (ix a0 a1 zQ).Rights)])]) none)) none)
theorem zTg (N:Nat)(a0:List Slot)(a1:Int):evalFn (cQ zvx zbV zK zO) (zB []) N 12 198 [.one (.s .slot a0),.one (.i .i64 a1)]=zzm N a0 a1:=by kernel_rfl
theorem zRK (a0:List Slot)(a1:Int)(hb:zG big [.one (.s .slot a0),.one (.i .i64 a1)])(hc:(zrt a0 a1)=true):∃N,zzm N a0 a1=some [.agg (Ty.cells .slot (zeU a0 a1))]:=by
 have hl:=((zbt hb).1 _ (List.mem_singleton.2 rfl)).len;refine ⟨0,?_⟩;unfold zzm zeU zdR;have e:zbf a1 0 (wsub .i64 (ln a0) 1)=hasB a1 (ln a0):=zHc hl a1;rw [e];cases hh:hasB a1 (ln a0)
 ·rfl
 ·rw [zF hh];rfl
theorem zLq:Holds Tryz.prog 198 zuh:=zo zk3 zbe zu zA (zC (by kernel_rfl)) fun avs rs hb h=>by
 unfold zuh at h;split at h
 ·obtain ⟨hc,rfl⟩:=zl h;exact (fin2 zRK zTg hc hb :)
 ·cases h
def zj5 (_:List Slot)(_:Int):Bool:=true
@[reducible] def zdO (t:List Slot)(p:Int):Slot:=zdR t p
def zsA:List AV->Option (Bool×List AV)
 | [.one (.s .slot b),.one (.i .i64 c)]=>some ((zj5 b c),[.agg (Ty.cells .slot (zdO b c))])
 | _=>none
def zyy (N:Nat)(a0:List Slot)(a1:Int):Option Ans :=
 (cond (zcz a1 (ln a0)) (cond (cond (zcT a1 (ln a0)) false true) (cond zc6 (some [(.agg [(.i .i64 zcD.Page),(.i .i64 zcD.Rights)])]) none) (cond (inb a1 (ln a0)) (some [(.agg [(.i .i64 (ix a0 a1 zQ).Page),(.i .i64 (ix a0 a1 zQ).Rights)])]) none)) none)
theorem zUs (N:Nat)(a0:List Slot)(a1:Int):evalFn (cQ zvx zbV zK zO) (zB []) N 12 187 [.one (.s .slot a0),.one (.i .i64 a1)]=zyy N a0 a1:=by kernel_rfl
theorem zP3 (a0:List Slot)(a1:Int)(hb:zG big [.one (.s .slot a0),.one (.i .i64 a1)])(hc:(zj5 a0 a1)=true):∃N,zyy N a0 a1=some [.agg (Ty.cells .slot (zdO a0 a1))]:=by
 refine ⟨0,?_⟩;unfold zyy zdO zdR zcT;cases hh:hasB a1 (ln a0)
 ·rfl
 ·rw [zF hh];rfl
theorem zKa:Holds Tryz.prog 187 zsA:=zo zk3 zbe zu zA (zC (by kernel_rfl)) fun avs rs hb h=>by
 unfold zsA at h;split at h
 ·obtain ⟨hc,rfl⟩:=zl h;exact (fin2 zP3 zUs hc hb :)
 ·cases h
def zPf:zbP:=[(231,zlf),(242,zlc),(158,zuE),(176,zsP),(198,zuh),(187,zsA)]++zvx
theorem zFJ:zbv zPf:=zn zA8 (zn zBR (zn zJv (zn zLY (zn zLq (zn zKa zk3)))))
def zef (a b:Slot):Bool:=ieq a.Page b.Page&&ieq a.Rights b.Rights
def zkI (s:Slot)(outer:List Slot):Slot :=
 bif ieq s.Page (-1) then noSlot else (cond (ieq (zdR outer s.Page).Page (-1)) noSlot (cond (ieq (zhi s.Rights (zdR outer s.Page).Rights) 0) noSlot ⟨(zdR outer s.Page).Page,zhi s.Rights (zdR outer s.Page).Rights⟩))
def ziZ (_:Slot)(_:List Slot):Bool:=true
def zkW (s:Slot)(outer:List Slot):Slot:=zkI s outer
def zkq:List AV->Option (Bool×List AV)
 | [.agg [.i .i64 b,.i .i64 c],.one (.s .slot d)]=>some ((ziZ (⟨b,c⟩:Slot) d),[.agg (Ty.cells .slot (zkW (⟨b,c⟩:Slot) d))])
 | _=>none
def zmo (N:Nat)(a0:Slot)(a1:List Slot):Option Ans :=
 (cond (zrt a1 a0.Page) (cond (zoa a0.Rights (zeU a1 a0.Page).Rights) (cond (ieq a0.Page (-1)) (cond zc5 (some [(.agg [(.i .i64 zbZ.Page),(.i .i64 zbZ.Rights)])]) none) (cond (ieq (zeU a1 a0.Page).Page (-1)) (cond zc5 (some [(.agg [(.i .i64 zbZ.Page),(.i .i64 zbZ.Rights)])]) none) (cond (ieq (zgD a0.Rights (zeU a1 a0.Page).Rights) 0) (cond zc5 (some [(.agg [(.i .i64 zbZ.Page),(.i .i64 zbZ.Rights)])]) none) (some [(.agg [(.i .i64 (zeU a1 a0.Page).Page),(.i .i64 (zgD a0.Rights (zeU a1 a0.Page).Rights))])])))) none) none)
theorem zFe (N:Nat)(a0:Slot)(a1:List Slot):evalFn (cQ zPf zbV zK zO) (zB []) N 12 203 [.agg (Ty.cells .slot a0),.one (.s .slot a1)]=zmo N a0 a1:=by kernel_rfl
theorem zDz (a0:Slot)(a1:List Slot)(hb:zG big [.agg (Ty.cells .slot a0),.one (.s .slot a1)])(hc:(ziZ a0 a1)=true):∃N,zmo N a0 a1=some [.agg (Ty.cells .slot (zkW a0 a1))]:=by
 refine ⟨0,?_⟩;unfold zmo zkW zkI zeU zgD;cases ieq a0.Page (-1)<;>cases ieq (zdR a1 a0.Page).Page (-1)<;>cases ieq (zhi a0.Rights (zdR a1 a0.Page).Rights) 0<;>rfl
theorem zAX:Holds Tryz.prog 203 zkq:=zo zFJ zbe zu zA (zC (by kernel_rfl)) fun avs rs hb h=>by
 unfold zkq at h;split at h
 ·obtain ⟨hc,rfl⟩:=zl h;exact (fin2 zDz zFe hc hb :)
 ·cases h
def zi0 (_:Slot)(_:List Slot):Bool:=true
def zkR (s:Slot)(outer:List Slot):Slot:=zkI s outer
def zkt:List AV->Option (Bool×List AV)
 | [.agg [.i .i64 b,.i .i64 c],.one (.s .slot d)]=>some ((zi0 (⟨b,c⟩:Slot) d),[.agg (Ty.cells .slot (zkR (⟨b,c⟩:Slot) d))])
 | _=>none
def zmH (N:Nat)(a0:Slot)(a1:List Slot):Option Ans :=
 (cond (zj5 a1 a0.Page) (cond (znO a0.Rights (zdO a1 a0.Page).Rights) (cond (ieq a0.Page (-1)) (cond zc6 (some [(.agg [(.i .i64 zcD.Page),(.i .i64 zcD.Rights)])]) none) (cond (ieq (zdO a1 a0.Page).Page (-1)) (cond zc6 (some [(.agg [(.i .i64 zcD.Page),(.i .i64 zcD.Rights)])]) none) (cond (ieq (zgw a0.Rights (zdO a1 a0.Page).Rights) 0) (cond zc6 (some [(.agg [(.i .i64 zcD.Page),(.i .i64 zcD.Rights)])]) none) (some [(.agg [(.i .i64 (zdO a1 a0.Page).Page),(.i .i64 (zgw a0.Rights (zdO a1 a0.Page).Rights))])])))) none) none)
theorem zEx (N:Nat)(a0:Slot)(a1:List Slot):evalFn (cQ zPf zbV zK zO) (zB []) N 12 216 [.agg (Ty.cells .slot a0),.one (.s .slot a1)]=zmH N a0 a1:=by kernel_rfl
theorem zDB (a0:Slot)(a1:List Slot)(hb:zG big [.agg (Ty.cells .slot a0),.one (.s .slot a1)])(hc:(zi0 a0 a1)=true):∃N,zmH N a0 a1=some [.agg (Ty.cells .slot (zkR a0 a1))]:=by
 refine ⟨0,?_⟩;unfold zmH zkR zkI zdO zgw;cases ieq a0.Page (-1)<;>cases ieq (zdR a1 a0.Page).Page (-1)<;>cases ieq (zhi a0.Rights (zdR a1 a0.Page).Rights) 0<;>rfl
theorem zA2:Holds Tryz.prog 216 zkt:=zo zFJ zbe zu zA (zC (by kernel_rfl)) fun avs rs hb h=>by
 unfold zkt at h;split at h
 ·obtain ⟨hc,rfl⟩:=zl h;exact (fin2 zDB zEx hc hb :)
 ·cases h
def z01:zbP:=[(203,zkq),(216,zkt)]++zPf
theorem zZS:zbv z01:=zn zAX (zn zA2 zFJ)
def z0S:zbP:=z01
theorem zZf:∀f run,zy z0S f=some run->Holds Tryz.prog f run:=zZS
def z0Z:zbP:=z0S
theorem zZ7:∀f run,zy z0Z f=some run->Holds Tryz.prog f run:=zZf
def zXO:zbP:=z0Z
theorem zJV:∀f run,zy zXO f=some run->Holds Tryz.prog f run:=zZ7
theorem hE (h:Host):(⟨h.Memory,h.Mons,h.Buffer,h.IoBuffer⟩:Host)=h:=rfl
def idxs {α:Type}(p:α->Bool):List α->Nat->List Int
 | [],_=>[]
 | x :: l,i=>bif p x then (i:Int) :: idxs p l (i+1) else idxs p l (i+1)
theorem zE4 {α:Type}(p:α->Bool):∀(l:List α) (i:Nat),(idxs p l i).length<=l.length
 | [],_=>Nat.le_refl _
 | x :: l,i=>by
  have:=zE4 p l (i+1);simp only [idxs];cases p x<;>simp<;>omega
theorem zz2 {α ρ:Type}(p:α->Bool)(K:List Int->Option ρ):∀(l:List α) (i:Nat) (acc:List Int),acc.length+l.length<=2147483648 ->
 goL (fun i x acc k=>bif p x then (cond (few (ln (ap acc [(i:Int)]))) (k (ap acc [(i:Int)])) none) else k acc) K l i acc=K (acc++idxs p l i)
 | [],i,acc,_=>by simp [goL,idxs]
 | x :: l,i,acc,h=>by
  simp only [List.length_cons] at h;simp only [goL,idxs];cases p x
  ·simp only [cF];exact zz2 p K l (i+1) acc (by omega)
  ·simp only [cT];rw [zes (by simp [ap];omega),cT,zz2 p K l (i+1) _ (by simp [ap];omega)]
   simp [ap]
def zFg (p:Nat->Bool):Nat->Nat->List Int
 | 0,_=>[]
 | n+1,i=>bif p i then (i:Int) :: zFg p n (i+1) else zFg p n (i+1)
theorem zzL {ρ:Type}(p:Nat->Bool)(K:List Int->Option ρ):∀(n i:Nat) (acc:List Int),acc.length+n<=2147483648 ->
 goN (fun i acc k=>bif p i then (cond (few (ln (ap acc [(i:Int)]))) (k (ap acc [(i:Int)])) none) else k acc) K n i acc=K (acc++zFg p n i)
 | 0,i,acc,_=>by simp [goN,zFg]
 | n+1,i,acc,h=>by
  simp only [goN,zFg];cases p i
  ·simp only [cF];exact zzL p K n (i+1) acc (by omega)
  ·simp only [cT];rw [zes (by simp [ap];omega),cT,zzL p K n (i+1) _ (by simp [ap];omega)]
   simp [ap]
@[reducible] def zy3 (l:List Slot)(_:Int):Bool:=pc (l.length<=2147483648)
@[reducible] def zoC (l:List Slot)(p:Int):List Int:=idxs (fun (s:Slot)=>ieq s.Page p) l 0
def zt4:List AV->Option (Bool×List AV)
 | [.one (.s .slot b),.one (.i .i64 c)]=>some ((zy3 b c),[.one (.s .int (zoC b c))])
 | _=>none
def zyV (N:Nat)(a0:List Slot)(a1:Int):Option Ans :=
 (iter (σ:=(Int×(Int×((List Slot)×((List Int)×Unit))))) N (fun r3 s4=>(cond (ilt s4.2.1 (ln s4.2.2.1)) (cond (inb s4.2.1 (ln s4.2.2.1)) (cond (ieq (ix s4.2.2.1 s4.2.1 zQ).Page s4.1) (cond (few (ln (ap s4.2.2.2.1 [s4.2.1]))) (r3 (s4.1,((zq .i64 s4.2.1 1),(s4.2.2.1,((ap s4.2.2.2.1 [s4.2.1]),()))))) none) (r3 (s4.1,((zq .i64 s4.2.1 1),(s4.2.2.1,(s4.2.2.2.1,())))))) none) (some [(.one (.s .int s4.2.2.2.1))]))) (a1,(0,(a0,([],())))))
def zRC:FuncId->Nat->Option Tmpl:=zB [(249,0,{ n:=26,tm:=[(0,.sl 0 []),(1,.i .i64),(5,.sl 1 []),(6,.i .i64)],lo:=[],ro:=[(0,.slot,false),(1,.int,true)] })]
theorem zS8 (N:Nat)(a0:List Slot)(a1:Int):evalFn (cQ zXO zbV zK zO) zRC N 12 249 [.one (.s .slot a0),.one (.i .i64 a1)]=zyV N a0 a1:=by kernel_rfl
theorem zPL (a0:List Slot)(a1:Int)(hb:zG big [.one (.s .slot a0),.one (.i .i64 a1)])(hc:(zy3 a0 a1)=true):∃N,zyV N a0 a1=some [.one (.s .int (zoC a0 a1))]:=by
 have hl:=((zbt hb).1 _ (List.mem_singleton.2 rfl)).len;have hs:=zI.1 hc;refine ⟨NN,?_⟩;have hNN:∀{n:Nat},n<=big->n<NN:=fun h=>zb4 h;generalize NN=N at hNN ⊢;unfold zyV;refine (zbF a0 (fun i (t:(List Int))=>(a1,(i:Int),a0,t,())) _ (fun i (x:Slot) (t:List Int) κ=>bif ieq x.Page a1 then (cond (few (ln (ap t [(i:Int)]))) (κ (ap t [(i:Int)])) none) else κ t) (fun (t:(List Int))=>(some [(.one (.s .int t))])) (fun i hi t rec=>?_) (fun t rec=>?_) _ ([]) (hNN hl)).trans ?_
 ·simp only [zbu hi,zbh hi,zbq hi,zbd hi hl,cT]
 ·simp only [zbk,cF]
 exact zz2 (fun (s:Slot)=>ieq s.Page a1) _ _ 0 [] (by simpa using hs)
theorem zJe:Holds Tryz.prog 249 zt4:=zo zJV zbe zu zA (zC (by kernel_rfl)) fun avs rs hb h=>by
 unfold zt4 at h;split at h
 ·obtain ⟨hc,rfl⟩:=zl h;exact (fin2 zPL zS8 hc hb :)
 ·cases h
@[reducible] def zyI (l:List Slot)(_:Int):Bool:=pc (l.length<=2147483648)
@[reducible] def zjn (l:List Slot)(p:Int):List Int:=idxs (fun (s:Slot)=>ieq s.Page p) l 0
def zsr:List AV->Option (Bool×List AV)
 | [.one (.s .slot b),.one (.i .i64 c)]=>some ((zyI b c),[.one (.s .int (zjn b c))])
 | _=>none
def zAo (N:Nat)(a0:List Slot)(a1:Int):Option Ans :=
 (iter (σ:=(Int×(Int×(Int×((List Int)×((List Slot)×Unit)))))) N (fun r3 s4=>(cond (ilt s4.2.2.1 s4.2.1) (cond (inb s4.2.2.1 (ln s4.2.2.2.2.1)) (cond (ieq (ix s4.2.2.2.2.1 s4.2.2.1 zQ).Page s4.1) (cond (few (ln (ap s4.2.2.2.1 [s4.2.2.1]))) (r3 (s4.1,(s4.2.1,((zq .i64 s4.2.2.1 1),((ap s4.2.2.2.1 [s4.2.2.1]),(s4.2.2.2.2.1,())))))) none) (r3 (s4.1,(s4.2.1,((zq .i64 s4.2.2.1 1),(s4.2.2.2.1,(s4.2.2.2.2.1,()))))))) none) (some [(.one (.s .int s4.2.2.2.1))]))) (a1,((ln a0),(0,([],(a0,()))))))
def zQV:FuncId->Nat->Option Tmpl:=zB [(253,0,{ n:=26,tm:=[(1,.i .i64),(5,.sl 0 []),(9,.sl 1 []),(10,.i .i64),(11,.i .i64)],lo:=[],ro:=[(0,.int,true),(1,.slot,false)] })]
theorem zTl (N:Nat)(a0:List Slot)(a1:Int):evalFn (cQ zXO zbV zK zO) zQV N 12 253 [.one (.s .slot a0),.one (.i .i64 a1)]=zAo N a0 a1:=by kernel_rfl
theorem zRx (a0:List Slot)(a1:Int)(hb:zG big [.one (.s .slot a0),.one (.i .i64 a1)])(hc:(zyI a0 a1)=true):∃N,zAo N a0 a1=some [.one (.s .int (zjn a0 a1))]:=by
 have hl:=((zbt hb).1 _ (List.mem_singleton.2 rfl)).len;have hs:=zI.1 hc;refine ⟨NN,?_⟩;have hNN:∀{n:Nat},n<=big->n<NN:=fun h=>zb4 h;generalize NN=N at hNN ⊢;unfold zAo;refine (zbF a0 (fun i (t:(List Int))=>(a1,(ln a0),(i:Int),t,a0,())) _ (fun i (x:Slot) (t:List Int) κ=>bif ieq x.Page a1 then (cond (few (ln (ap t [(i:Int)]))) (κ (ap t [(i:Int)])) none) else κ t) (fun (t:(List Int))=>(some [(.one (.s .int t))])) (fun i hi t rec=>?_) (fun t rec=>?_) _ ([]) (hNN hl)).trans ?_
 ·simp only [zbu hi,zbh hi,zbq hi,zbd hi hl,cT]
 ·simp only [zbk,cF]
 exact zz2 (fun (s:Slot)=>ieq s.Page a1) _ _ 0 [] (by simpa using hs)
theorem zL0:Holds Tryz.prog 253 zsr:=zo zJV zbe zu zA (zC (by kernel_rfl)) fun avs rs hb h=>by
 unfold zsr at h;split at h
 ·obtain ⟨hc,rfl⟩:=zl h;exact (fin2 zRx zTl hc hb :)
 ·cases h
def z0t:zbP:=[(249,zt4),(253,zsr)]++zXO
theorem zZH:zbv z0t:=zn zJe (zn zL0 zJV)
def z02:zbP:=z0t
theorem z0b:∀f run,zy z02 f=some run->Holds Tryz.prog f run:=zZH
def zWj:zbP:=z02
theorem zPS:∀f run,zy zWj f=some run->Holds Tryz.prog f run:=z0b
theorem zj2 (x y:Int):ine x y = !ieq x y:=rfl
def zdl (l:List Int):Bool:=pc (l.length<=2147483648)
@[reducible] def zdh (l:List Int):List Int:=l
def znQ:List AV->Option (Bool×List AV)
 | [.one (.s .int b)]=>some ((zdl b),[.one (.s .int (zdh b))])
 | _=>none
def zsk (N:Nat)(a0:List Int):Option Ans :=
 (cond (few (ln (ap [] a0))) (some [(.one (.s .int (ap [] a0)))]) none)
theorem zMM (N:Nat)(a0:List Int):evalFn (cQ zWj zbV zK zO) (zB []) N 12 113 [.one (.s .int a0)]=zsk N a0:=by kernel_rfl
theorem zKS (a0:List Int)(hb:zG big [.one (.s .int a0)])(hc:(zdl a0)=true):∃N,zsk N a0=some [.one (.s .int (zdh a0))]:=by
 refine ⟨0,?_⟩;unfold zsk;rw [zkD,zes (zI.1 hc),cT]
theorem zEX:Holds Tryz.prog 113 znQ:=zo zPS zbe zu zA (zC (by kernel_rfl)) fun avs rs hb h=>by
 unfold znQ at h;split at h
 ·obtain ⟨hc,rfl⟩:=zl h;exact (fin1 zKS zMM hc hb :)
 ·cases h
def zPk:zbP:=[(113,znQ)]++zWj
theorem zF5:zbv zPk:=zn zEX zPS
def zyd:List Int:=rp 4 0
def zg5 (m:List (List Int))(p:Int):List Int:=bif hasB p (ln m) then ix m p [] else zyd
def zye (m:List (List Int))(_:Int):Bool:=pc (CVB sm (.s (.sl .int) m))
def zzB (m:List (List Int))(p:Int):List Int:=zg5 m p
theorem zY5 {m:List (List Int)}{p:Int}(hs:CVB sm (.s (.sl .int) m))(hh:hasB p (ln m)=true):(ix m p []).length<=2147483648 :=
 (zcA (hs.inv.2 _ (zde hh ([]:List Int)) (.s .int _) (List.mem_singleton.2 rfl)).len).2
def zsq:List AV->Option (Bool×List AV)
 | [.one (.s (.sl .int) b),.one (.i .i64 c)]=>some ((zye b c),[.one (.s .int (zzB b c))])
 | _=>none
def zzX (N:Nat)(a0:List (List Int))(a1:Int):Option Ans :=
 (cond (zZ a1 0 (wsub .i64 (ln a0) 1)) (cond (cond (zbf a1 0 (wsub .i64 (ln a0) 1)) false true) (cond (cond (few 4) (ieq 4 4) false) (some [(.one (.s .int (rp 4 0)))]) none) (cond (inb a1 (ln a0)) (cond (few (ln (ap [] (ix a0 a1 [])))) (some [(.one (.s .int (ap [] (ix a0 a1 []))))]) none) none)) none)
theorem zTa (N:Nat)(a0:List (List Int))(a1:Int):evalFn (cQ zPk zbV zK zO) (zB []) N 12 248 [.one (.s (.sl .int) a0),.one (.i .i64 a1)]=zzX N a0 a1:=by kernel_rfl
theorem zQp (a0:List (List Int))(a1:Int)(hb:zG big [.one (.s (.sl .int) a0),.one (.i .i64 a1)])(hc:(zye a0 a1)=true):∃N,zzX N a0 a1=some [.one (.s .int (zzB a0 a1))]:=by
 have hs:=zI.1 hc;refine ⟨0,?_⟩;unfold zzX zzB zg5;have e:zbf a1 0 (wsub .i64 (ln a0) 1)=hasB a1 (ln a0):=zHc (zcA hs.len).1 a1;rw [e];cases hh:hasB a1 (ln a0)
 ·rfl
 ·simp only [zZ,cT,cF,zF hh,zkD,zes (zY5 hs hh)]
theorem zKb:Holds Tryz.prog 248 zsq:=zo zF5 zbe zu zA (zC (by kernel_rfl)) fun avs rs hb h=>by
 unfold zsq at h;split at h
 ·obtain ⟨hc,rfl⟩:=zl h;exact (fin2 zQp zTa hc hb :)
 ·cases h
def zh7 (m:List (List Int))(_:Int):Bool:=pc (CVB sm (.s (.sl .int) m))
def zlh (m:List (List Int))(p:Int):List Int:=zg5 m p
def zth:List AV->Option (Bool×List AV)
 | [.one (.s (.sl .int) b),.one (.i .i64 c)]=>some ((zh7 b c),[.one (.s .int (zlh b c))])
 | _=>none
def zyT (N:Nat)(a0:List (List Int))(a1:Int):Option Ans :=
 (cond (zcz a1 (ln a0)) (cond (cond (zcT a1 (ln a0)) false true) (cond (cond (few 4) (ieq 4 4) false) (some [(.one (.s .int (rp 4 0)))]) none) (cond (inb a1 (ln a0)) (cond (zdl (ix a0 a1 [])) (some [(.one (.s .int (zdh (ix a0 a1 []))))]) none) none)) none)
theorem zTM (N:Nat)(a0:List (List Int))(a1:Int):evalFn (cQ zPk zbV zK zO) (zB []) N 12 188 [.one (.s (.sl .int) a0),.one (.i .i64 a1)]=zyT N a0 a1:=by kernel_rfl
theorem zQy (a0:List (List Int))(a1:Int)(hb:zG big [.one (.s (.sl .int) a0),.one (.i .i64 a1)])(hc:(zh7 a0 a1)=true):∃N,zyT N a0 a1=some [.one (.s .int (zlh a0 a1))]:=by
 have hs:=zI.1 hc;refine ⟨0,?_⟩;unfold zyT zlh zg5 zcT;cases hh:hasB a1 (ln a0)
 ·rfl
 ·simp only [zcz,cT,cF,zF hh,show zdl (ix a0 a1 [])=true from zU (zY5 hs hh),zdh]
theorem zKE:Holds Tryz.prog 188 zth:=zo zF5 zbe zu zA (zC (by kernel_rfl)) fun avs rs hb h=>by
 unfold zth at h;split at h
 ·obtain ⟨hc,rfl⟩:=zl h;exact (fin2 zQy zTM hc hb :)
 ·cases h
def zXD:zbP:=[(248,zsq),(188,zth)]++zPk
theorem zQ7:zbv zXD:=zn zKb (zn zKE zF5)
def zjg (h:Host)(m p:Int):List Int :=
 bif hasB m (ln h.Mons) then (cond (hasB p 8) (cond (ine (zdR (ix h.Mons m zf).Outer p).Page (-1)) (zg5 h.Memory (zdR (ix h.Mons m zf).Outer p).Page) (zg5 (ix h.Mons m zf).Out p)) zyd) else zyd
def zAg (h:Host)(_ _:Int):Bool:=pc (zdQ h)
def zty (h:Host)(m p:Int):List Int:=zjg h m p
def zuS:List AV->Option (Bool×List AV)
 | [.agg [.s (.sl .int) b,.s .mon c,.s .entry d,.s .entry e],.one (.i .i64 f),.one (.i .i64 g)]=>some ((zAg (⟨b,c,d,e⟩:Host) f g),[.one (.s .int (zty (⟨b,c,d,e⟩:Host) f g))])
 | _=>none
def zzW (N:Nat)(a0:Host)(a1 a2:Int):Option Ans :=
 (cond (zcz a1 (ln a0.Mons)) (cond (cond (zcT a1 (ln a0.Mons)) false true) (cond (cond (few 4) (ieq 4 4) false) (some [(.one (.s .int (rp 4 0)))]) none) (cond (zcz a2 8) (cond (cond (zcT a2 8) false true) (cond (cond (few 4) (ieq 4 4) false) (some [(.one (.s .int (rp 4 0)))]) none) (cond (inb a1 (ln a0.Mons)) (cond (zj5 (ix a0.Mons a1 zf).Outer a2) (cond (ine (zdO (ix a0.Mons a1 zf).Outer a2).Page (-1)) (cond (zh7 a0.Memory (zdO (ix a0.Mons a1 zf).Outer a2).Page) (some [(.one (.s .int (zlh a0.Memory (zdO (ix a0.Mons a1 zf).Outer a2).Page)))]) none) (cond (zh7 (ix a0.Mons a1 zf).Out a2) (some [(.one (.s .int (zlh (ix a0.Mons a1 zf).Out a2)))]) none)) none) none)) none)) none)
theorem zUr (N:Nat)(a0:Host)(a1 a2:Int):evalFn (cQ zXD zbV zK zO) (zB []) N 12 142 [.agg (zx a0),.one (.i .i64 a1),.one (.i .i64 a2)]=zzW N a0 a1 a2:=by kernel_rfl
theorem zSq (a0:Host)(a1 a2:Int)(hb:zG big [.agg (zx a0),.one (.i .i64 a1),.one (.i .i64 a2)])(hc:(zAg a0 a1 a2)=true):∃N,zzW N a0 a1 a2=some [.one (.s .int (zty a0 a1 a2))]:=by
 have hs:=zI.1 hc;refine ⟨0,?_⟩;unfold zzW zty zjg zcT;cases hh:hasB a1 (ln a0.Mons)
 ·rfl
 ·cases h8:hasB a2 8
  ·rfl
  ·have ho:CVB sm (.s (.sl .int) (ix a0.Mons a1 zf).Out):=hs.mons.inv.2 _ (zde hh zf) (.s (.sl .int) _) (by simp [Ty.cells])
   simp only [zcz,cT,cF,zF hh,zj5,zdO,show ∀p,zh7 a0.Memory p=true from fun p=>zU hs.mem,show ∀p,zh7 (ix a0.Mons a1 zf).Out p=true from fun p=>zU ho,zlh]
   cases ine (zdR (ix a0.Mons a1 zf).Outer a2).Page (-1)<;>rfl
theorem zK1:Holds Tryz.prog 142 zuS:=zo zQ7 zbe zu zA (zC (by kernel_rfl)) fun avs rs hb h=>by
 unfold zuS at h;split at h
 ·obtain ⟨hc,rfl⟩:=zl h;exact (zd7 zSq zUr hc hb :)
 ·cases h
def z0X:zbP:=[(142,zuS)]++zXD
theorem zZ0:zbv z0X:=zn zK1 zQ7
def z0C:zbP:=z0X
theorem zZW:∀f run,zy z0C f=some run->Holds Tryz.prog f run:=zZ0
def zkh:zbP:=z0C
theorem zfd:∀f run,zy zkh f=some run->Holds Tryz.prog f run:=zZW
def mkB:Int:=4611686018427387904
section
variable {α:Type}
def mcL (m:α->Int):List α->Int
 | []=>0
 | x :: l=>m x+mcL m l
def mkL (f:α->Int->α)(nx:α->Int->Int):List α->Int->List α
 | [],_=>[]
 | x :: l,k=>f x k :: mkL f nx l (nx x k)
def enL (nx:α->Int->Int):List α->Int->Int
 | [],k=>k
 | x :: l,k=>enL nx l (nx x k)
structure Mk (f:α->Int->α) (nx:α->Int->Int) (m:α->Int):Prop where
 nn:∀x,0<=m x
 nx:∀x k,nx x k=k+m x
 f2:∀x k,f (f x k) k=f x k
 m2:∀x k,m (f x k)=m x
variable {f:α->Int->α} {nx:α->Int->Int} {m:α->Int}
theorem zb0 (h:∀x,0<=m x):∀l:List α,0<=mcL m l
 | []=>Int.le_refl _
 | x :: l=>by
  have h1:=h x;have h2:=zb0 h l;simp only [mcL];omega
theorem zbO (h:∀x k,nx x k=k+m x):∀(l:List α) (k:Int),enL nx l k=k+mcL m l
 | [],k=>by simp [enL,mcL]
 | x :: l,k=>by
  have h2:=zbO h l (nx x k);simp only [enL,mcL];rw [h2,h];omega
theorem zdU (h:Mk f nx m):∀(l:List α) (k:Int),mcL m (mkL f nx l k)=mcL m l
 | [],_=>rfl
 | x :: l,k=>by simp only [mkL,mcL,zdU h l,h.m2]
theorem zie (h:Mk f nx m):∀(l:List α) (k:Int),mkL f nx (mkL f nx l k) k=mkL f nx l k
 | [],_=>rfl
 | x :: l,k=>by
  have e:nx (f x k) k=nx x k:=by rw [h.nx,h.nx,h.m2]
  simp only [mkL,h.f2,e,zie h l]
theorem Mk.list (h:Mk f nx m):Mk (fun l k=>mkL f nx l k) (fun l k=>enL nx l k) (fun l=>mcL m l) :=
 ⟨fun l=>zb0 h.nn l,fun l k=>zbO h.nx l k,fun l k=>zie h l k,fun l k=>zdU h l k⟩
theorem zhd {ρ:Type}(h:Mk f nx m)(F:(Int×Int×List α×Unit->Option ρ)->Int×Int×List α×Unit->Option ρ)(K:Int->List α->Option ρ)(hstep:∀(i:Nat) (L:List α) (hi:i<L.length) (k:Int) (rec:Int×Int×List α×Unit->Option ρ),0<=k->k+m L[i]<=mkB->L.length<=big->F rec (k,(i:Int),L,())=rec (nx L[i] k,((i+1:Nat):Int),L.set i (f L[i] k),()))(hend:∀(L:List α) (k:Int) (rec:Int×Int×List α×Unit->Option ρ),F rec (k,(L.length:Int),L,())=K k L) :
 ∀(l:List α) (k:Int) (N:Nat),l.length<=big->0<=k->k+mcL m l<=mkB->l.length<N->iter N F (k,0,l,())=K (enL nx l k) (mkL f nx l k):=by
 have key:∀(rest done:List α) (k:Int) (N:Nat),(done++rest).length<=big->0<=k->k+mcL m rest<=mkB->rest.length<N->iter N F (k,(done.length:Int),done++rest,())=K (enL nx rest k) (done++mkL f nx rest k):=by
  intro rest
  induction rest with
  | nil =>
   intro done k N hl h0 h1 hN;obtain ⟨n,rfl⟩:∃n,N=n+1:=⟨N-1,by simp at hN;omega⟩
   rw [zcx];simp only [List.append_nil,mkL,enL];exact hend done k _
  | cons x rest ih =>
   intro done k N hl h0 h1 hN;simp only [List.length_cons] at hN;obtain ⟨n,rfl⟩:∃n,N=n+1:=⟨N-1,by omega⟩
   have hi:done.length<(done++x :: rest).length:=by simp
   have hx:(done++x :: rest)[done.length]=x:=by simp
   have hnn:=h.nn x;have hn2:=zb0 h.nn rest;simp only [mcL] at h1;rw [zcx,hstep done.length (done++x :: rest) hi k _ h0 (by rw [hx];omega) hl,hx]
   have e:(done++x :: rest).set done.length (f x k)=(done++[f x k])++rest:=by simp
   have e2:done.length+1=(done++[f x k]).length:=by simp
   rw [e,e2,ih (done++[f x k]) (nx x k) n (by simpa using hl) (by rw [h.nx];omega) (by rw [h.nx];omega) (by omega)]
   simp [mkL,enL]
 intro l k N hl h0 h1 hN;exact key l [] k N hl h0 h1 hN
theorem zhg {ρ:Type}(h:Mk f nx m)(l:List α)(F:(Int×Int×List α×Unit->Option ρ)->Int×Int×List α×Unit->Option ρ)(K:Int->Option ρ)(hstep:∀(i:Nat) (hi:i<l.length) (k:Int) (rec:Int×Int×List α×Unit->Option ρ),f l[i] k=l[i]->0<=k->k+m l[i]<=mkB->F rec (k,(i:Int),l,())=rec (nx l[i] k,((i+1:Nat):Int),l,()))(hend:∀(k:Int) (rec:Int×Int×List α×Unit->Option ρ),F rec (k,(l.length:Int),l,())=K k) :
 ∀(k:Int) (N:Nat),mkL f nx l k=l->0<=k->k+mcL m l<=mkB->l.length<N->iter N F (k,0,l,())=K (enL nx l k):=by
 have key:∀(j:Nat) (i:Nat) (k:Int) (N:Nat),l.length-i=j->i<=l.length->mkL f nx (l.drop i) k=l.drop i->0<=k->k+mcL m (l.drop i)<=mkB->j<N->iter N F (k,(i:Int),l,())=K (enL nx (l.drop i) k):=by
  intro j
  induction j with
  | zero =>
   intro i k N hj hi he h0 h1 hN;have:i=l.length:=by omega
   subst this;obtain ⟨n,rfl⟩:∃n,N=n+1:=⟨N-1,by omega⟩
   rw [zcx,hend,List.drop_length];rfl
  | succ j ih =>
   intro i k N hj hi he h0 h1 hN;obtain ⟨n,rfl⟩:∃n,N=n+1:=⟨N-1,by omega⟩
   have hlt:i<l.length:=by omega
   have hd:=List.drop_eq_getElem_cons hlt;rw [hd] at he h1 ⊢;simp only [mkL,List.cons.injEq] at he;simp only [mcL] at h1;have hnn:=h.nn l[i];have hn2:=zb0 h.nn (l.drop (i+1));rw [zcx,hstep i hlt k _ he.1 h0 (by omega)]
   simp only [enL];exact ih (i+1) (nx l[i] k) n (by omega) (by omega) he.2 (by rw [h.nx];omega) (by rw [h.nx];omega) (by omega)
 intro k N he h0 h1 hN;have:=key l.length 0 k N (by omega) (Nat.zero_le _) (by simpa using he) h0 (by simpa using h1) hN
 simpa using this
end
section
variable {α:Type}
theorem zmV (l:List α)(i:Nat)(x:α):up l (i:Int) x=l.set i x:=by simp [up]
theorem zuk (l:List α)(i:Nat)(x:α):ln (l.set i x)=ln l:=by simp [ln]
theorem zx8 {l:List α}{i:Nat}(h:i<l.length)(x d:α):ix (l.set i x) (i:Int) d=x:=by simp [ix,List.getD,h]
theorem set_set (l:List α)(i:Nat)(x y:α):(l.set i x).set i y=l.set i y:=List.set_set ..
end
theorem zhz:ine 3 0=true:=rfl
theorem zeC {k:Int}(h:0<=k):ilt k 0=false:=decide_eq_false (by omega)
theorem zK9 {α:Type}{l:List α}{i:Nat}(h:i<l.length)(x:α):inb (i:Int) (ln (l.set i x))=true:=by rw [zuk];exact zbh h
def zyw (_:Int)(k:Int):Int:=k
def zeT (_:Int)(k:Int):Int:=k+1
def zkj (_:Int):Int:=1
theorem zew:Mk zyw zeT zkj:=⟨fun _=>by unfold zkj;decide,fun _ _=>rfl,fun _ _=>rfl,fun _ _=>rfl⟩
def zvp (_:Bool)(k:Int):Bool:=ieq (zfw k 3) 0
def zcm (_:Bool)(k:Int):Int:=k+1
def zi1 (_:Bool):Int:=1
theorem zee:Mk zvp zcm zi1:=⟨fun _=>by unfold zi1;decide,fun _ _=>rfl,fun _ _=>rfl,fun _ _=>rfl⟩
def zmg (_:Slot)(k:Int):Slot:=⟨k,k+1⟩
def zbc (_:Slot)(k:Int):Int:=k+1+1
def zf4 (_:Slot):Int:=2
theorem zcv:Mk zmg zbc zf4:=⟨fun _=>by unfold zf4;decide,fun _ k=>by unfold zbc zf4;omega,fun _ _=>rfl,fun _ _=>rfl⟩
def zQQ (_:Ins)(k:Int):Ins:=⟨k,k+1⟩
def zcE (_:Ins)(k:Int):Int:=k+1+1
def zod (_:Ins):Int:=2
theorem zk1:Mk zQQ zcE zod:=⟨fun _=>by unfold zod;decide,fun _ k=>by unfold zcE zod;omega,fun _ _=>rfl,fun _ _=>rfl⟩
def zRg (_:Entry)(k:Int):Entry:=⟨k,k+1,k+1+1,k+1+1+1⟩
def zxR (_:Entry)(k:Int):Int:=k+1+1+1+1
def zgy (_:Entry):Int:=4
theorem ziP:Mk zRg zxR zgy:=⟨fun _=>by unfold zgy;decide,fun _ k=>by unfold zxR zgy;omega,fun _ _=>rfl,fun _ _=>rfl⟩
def zHt (l:List Int)(k:Int):List Int:=mkL zyw zeT l k
def zcC (l:List Int)(k:Int):Int:=enL zeT l k
def zh8 (l:List Int):Int:=mcL zkj l
theorem zfZ:Mk zHt zcC zh8:=zew.list
def zzR (x:Kept)(k:Int):Kept:=⟨mkL zvp zcm x.Known (k),mkL zmg zbc x.Slots (enL zcm x.Known (k))⟩
def zjZ (x:Kept)(k:Int):Int:=enL zbc x.Slots (enL zcm x.Known (k))
def zhc (x:Kept):Int:=mcL zi1 x.Known+mcL zf4 x.Slots
theorem z04 (x:Kept):0<=zhc x:=by
 have h0:=zb0 zee.nn x.Known;have h1:=zb0 zcv.nn x.Slots;unfold zhc;omega
theorem z1b (x:Kept)(k:Int):zjZ x k=k+zhc x:=by
 unfold zjZ zhc;simp only [zbO zee.nx,zbO zcv.nx];omega
theorem zis:Mk zzR zjZ zhc:=⟨z04,z1b,fun x k=>by simp only [zzR,zbO zee.nx,zbO zcv.nx,zdU zee,zdU zcv,zie zee,zie zcv],fun x k=>by simp only [zhc,zzR,zdU zee,zdU zcv]⟩
def zua (x:Guest)(k:Int):Guest:=⟨mkL zQQ zcE x.Prog (k),enL zcE x.Prog (k),enL zcE x.Prog (k)+1,mkL zmg zbc x.Written (enL zcE x.Prog (k)+1+1),mkL zmg zbc x.Live (enL zbc x.Written (enL zcE x.Prog (k)+1+1)),⟨enL zbc x.Live (enL zbc x.Written (enL zcE x.Prog (k)+1+1)),enL zbc x.Live (enL zbc x.Written (enL zcE x.Prog (k)+1+1))+1,ieq (zfw (enL zbc x.Live (enL zbc x.Written (enL zcE x.Prog (k)+1+1))+1+1) 3) 0⟩,enL zbc x.Live (enL zbc x.Written (enL zcE x.Prog (k)+1+1))+1+1+1,⟨enL zbc x.Live (enL zbc x.Written (enL zcE x.Prog (k)+1+1))+1+1+1+1,enL zbc x.Live (enL zbc x.Written (enL zcE x.Prog (k)+1+1))+1+1+1+1+1,ieq (zfw (enL zbc x.Live (enL zbc x.Written (enL zcE x.Prog (k)+1+1))+1+1+1+1+1+1) 3) 0,enL zbc x.Live (enL zbc x.Written (enL zcE x.Prog (k)+1+1))+1+1+1+1+1+1+1⟩,ieq (zfw (enL zbc x.Live (enL zbc x.Written (enL zcE x.Prog (k)+1+1))+1+1+1+1+1+1+1+1) 3) 0,mkL zyw zeT x.Seen (enL zbc x.Live (enL zbc x.Written (enL zcE x.Prog (k)+1+1))+1+1+1+1+1+1+1+1+1)⟩
def zcO (x:Guest)(k:Int):Int:=enL zeT x.Seen (enL zbc x.Live (enL zbc x.Written (enL zcE x.Prog (k)+1+1))+1+1+1+1+1+1+1+1+1)
def zfB (x:Guest):Int:=mcL zod x.Prog+mcL zf4 x.Written+mcL zf4 x.Live+mcL zkj x.Seen+11
theorem zZx (x:Guest):0<=zfB x:=by
 have h0:=zb0 zk1.nn x.Prog;have h1:=zb0 zcv.nn x.Written;have h2:=zb0 zcv.nn x.Live;have h3:=zb0 zew.nn x.Seen;unfold zfB;omega
theorem zZ1 (x:Guest)(k:Int):zcO x k=k+zfB x:=by
 unfold zcO zfB;simp only [zbO zk1.nx,zbO zew.nx,zbO zcv.nx];omega
theorem zgS:Mk zua zcO zfB:=⟨zZx,zZ1,fun x k=>by simp only [zua,zbO zk1.nx,zbO zew.nx,zbO zcv.nx,zdU zk1,zdU zew,zdU zcv,zie zk1,zie zew,zie zcv],fun x k=>by simp only [zfB,zua,zdU zk1,zdU zew,zdU zcv]⟩
def zPN (x:Mon)(k:Int):Mon:=⟨mkL zmg zbc x.Outer (k),mkL zHt zcC x.Out (enL zbc x.Outer (k)),mkL zvp zcm x.Dirty (enL zcC x.Out (enL zbc x.Outer (k))),mkL zua zcO x.Guests (enL zcm x.Dirty (enL zcC x.Out (enL zbc x.Outer (k)))),mkL zyw zeT x.Outs (enL zcO x.Guests (enL zcm x.Dirty (enL zcC x.Out (enL zbc x.Outer (k))))),enL zeT x.Outs (enL zcO x.Guests (enL zcm x.Dirty (enL zcC x.Out (enL zbc x.Outer (k))))),enL zeT x.Outs (enL zcO x.Guests (enL zcm x.Dirty (enL zcC x.Out (enL zbc x.Outer (k)))))+1,mkL zzR zjZ x.Tables (enL zeT x.Outs (enL zcO x.Guests (enL zcm x.Dirty (enL zcC x.Out (enL zbc x.Outer (k)))))+1+1),enL zjZ x.Tables (enL zeT x.Outs (enL zcO x.Guests (enL zcm x.Dirty (enL zcC x.Out (enL zbc x.Outer (k)))))+1+1)⟩
def zF9 (x:Mon)(k:Int):Int:=enL zjZ x.Tables (enL zeT x.Outs (enL zcO x.Guests (enL zcm x.Dirty (enL zcC x.Out (enL zbc x.Outer (k)))))+1+1)+1
def zjz (x:Mon):Int:=mcL zf4 x.Outer+mcL zh8 x.Out+mcL zi1 x.Dirty+mcL zfB x.Guests+mcL zkj x.Outs+mcL zhc x.Tables+3
theorem z2s (x:Mon):0<=zjz x:=by
 have h0:=zb0 zcv.nn x.Outer;have h1:=zb0 zfZ.nn x.Out;have h2:=zb0 zee.nn x.Dirty;have h3:=zb0 zgS.nn x.Guests;have h4:=zb0 zew.nn x.Outs;have h5:=zb0 zis.nn x.Tables;unfold zjz;omega
theorem z2y (x:Mon)(k:Int):zF9 x k=k+zjz x:=by
 unfold zF9 zjz;simp only [zbO zee.nx,zbO zgS.nx,zbO zew.nx,zbO zfZ.nx,zbO zis.nx,zbO zcv.nx];omega
theorem zCz:Mk zPN zF9 zjz:=⟨z2s,z2y,fun x k=>by simp only [zPN,zbO zee.nx,zbO zgS.nx,zbO zew.nx,zbO zfZ.nx,zbO zis.nx,zbO zcv.nx,zdU zee,zdU zgS,zdU zew,zdU zfZ,zdU zis,zdU zcv,zie zee,zie zgS,zie zew,zie zfZ,zie zis,zie zcv],fun x k=>by simp only [zjz,zPN,zdU zee,zdU zgS,zdU zew,zdU zfZ,zdU zis,zdU zcv]⟩
def zfA (l:List Int)(k:Int):Bool:=pc (0<=k/\k+mcL zkj l<=mkB)
def zfG (l:List Int)(k:Int):List Int:=mkL zyw zeT l k
def zdn (l:List Int)(k:Int):Int:=enL zeT l k
def zmJ:CV->Int->Option (Bool×CV×Int)
 | .s .int l,k=>some (zfA l k,.s .int (zfG l k),zdn l k)
 | _,_=>none
def zt6 (N:Nat)(a0:List Int)(a1:Int):Option Ans :=
 (iter (σ:=(Int×(Int×((List Int)×Unit)))) N (fun r3 s4=>(cond (ilt s4.2.1 (ln s4.2.2.1)) (cond (inb s4.2.1 (ln s4.2.2.1)) (share (up s4.2.2.1 s4.2.1 s4.1) (fun x5=>(r3 ((zq .i64 s4.1 1),((zq .i64 s4.2.1 1),(x5,())))))) none) (some [(.one (.s .int s4.2.2.1)),(.one (.i .i64 s4.1))]))) (a1,(0,(a0,()))))
def zx1:FuncId->Nat->Option Tmpl:=zB [(71,0,{ n:=19,tm:=[(0,.sl 0 []),(1,.i .i64),(5,.i .i64)],lo:=[],ro:=[(0,.int,true)] })]
theorem zNz (N:Nat)(a0:List Int)(a1:Int):zmD (cQ zkh zbV zK zO) zx1 N 12 71 .int a0 a1=zt6 N a0 a1:=by kernel_rfl
theorem zLz (a0:List Int)(a1:Int)(hb:CVB big (.s .int a0))(hc:zfA a0 a1=true):∃N,zt6 N a0 a1=some [.one (.s .int (zfG a0 a1)),.one (.i .i64 (zdn a0 a1))]:=by
 obtain ⟨h0,h1⟩:=zI.1 hc;have hl:=hb.len;refine ⟨NN,?_⟩;have hNN:∀{n:Nat},n<=big->n<NN:=fun h=>zb4 h;generalize NN=N at hNN ⊢;unfold zt6;exact zhd zew _ (fun k L=>some [AV.one (.s .int L),AV.one (.i .i64 k)]) (fun i L hi k rec h0 h1 hL=>by
  have hw:=zbd hi hL;generalize hx:L[i]=x at h1 ⊢;have hix:∀d,ix L (i:Int) d=x:=fun d=>(zbq hi d).trans hx;simp only [zkj,mkB] at h1;simp (disch:=omega) only [share,zbu hi,zbh hi,hw,zmV,zeB,zhz,cT];rfl
  ) (fun L k rec=>by simp only [zbk,cF]) a0 a1 N hl h0 h1 (hNN hl)
theorem zFQ:zet Tryz.prog 71 zmJ:=by
 refine zec (zdJ zfd zbe zu zA) (zC (by kernel_rfl)) ?_
 intro t l k c' k' hr h;obtain ⟨W,v,S,hrep⟩:=hr;have hb:=CVB.of_rep hrep;unfold zmJ at h;split at h
 ·rename_i t2 l2 heq;cases heq;simp only [Option.some.injEq,Prod.mk.injEq] at h;obtain ⟨hc,rfl,rfl⟩:=h;obtain ⟨N,hN⟩:=zLz _ _ hb hc;exact ⟨zx1,N,12,(zNz N _ _).trans hN⟩
 ·cases h
def zgN (l:List Bool)(k:Int):Bool:=pc (0<=k/\k+mcL zi1 l<=mkB)
def zgU (l:List Bool)(k:Int):List Bool:=mkL zvp zcm l k
def zco (l:List Bool)(k:Int):Int:=enL zcm l k
def zk2:CV->Int->Option (Bool×CV×Int)
 | .s .bool l,k=>some (zgN l k,.s .bool (zgU l k),zco l k)
 | _,_=>none
def zqf (N:Nat)(a0:List Bool)(a1:Int):Option Ans :=
 (iter (σ:=(Int×(Int×((List Bool)×Unit)))) N (fun r3 s4=>(cond (ilt s4.2.1 (ln s4.2.2.1)) (cond (ine 3 0) (cond (inb s4.2.1 (ln s4.2.2.1)) (share (up s4.2.2.1 s4.2.1 (ieq (zfw s4.1 3) 0)) (fun x5=>(r3 ((zq .i64 s4.1 1),((zq .i64 s4.2.1 1),(x5,())))))) none) none) (some [(.one (.s .bool s4.2.2.1)),(.one (.i .i64 s4.1))]))) (a1,(0,(a0,()))))
def zvq:FuncId->Nat->Option Tmpl:=zB [(73,0,{ n:=21,tm:=[(0,.sl 0 []),(1,.i .i64),(5,.i .i64)],lo:=[],ro:=[(0,.bool,true)] })]
theorem zLe (N:Nat)(a0:List Bool)(a1:Int):zmD (cQ zkh zbV zK zO) zvq N 12 73 .bool a0 a1=zqf N a0 a1:=by kernel_rfl
theorem zIs (a0:List Bool)(a1:Int)(hb:CVB big (.s .bool a0))(hc:zgN a0 a1=true):∃N,zqf N a0 a1=some [.one (.s .bool (zgU a0 a1)),.one (.i .i64 (zco a0 a1))]:=by
 obtain ⟨h0,h1⟩:=zI.1 hc;have hl:=hb.len;refine ⟨NN,?_⟩;have hNN:∀{n:Nat},n<=big->n<NN:=fun h=>zb4 h;generalize NN=N at hNN ⊢;unfold zqf;exact zhd zee _ (fun k L=>some [AV.one (.s .bool L),AV.one (.i .i64 k)]) (fun i L hi k rec h0 h1 hL=>by
  have hw:=zbd hi hL;generalize hx:L[i]=x at h1 ⊢;have hix:∀d,ix L (i:Int) d=x:=fun d=>(zbq hi d).trans hx;simp only [zi1,mkB] at h1;simp (disch:=omega) only [share,zbu hi,zbh hi,hw,zmV,zeB,zhz,cT];rfl
  ) (fun L k rec=>by simp only [zbk,cF]) a0 a1 N hl h0 h1 (hNN hl)
theorem zDw:zet Tryz.prog 73 zk2:=by
 refine zec (zdJ zfd zbe zu zA) (zC (by kernel_rfl)) ?_
 intro t l k c' k' hr h;obtain ⟨W,v,S,hrep⟩:=hr;have hb:=CVB.of_rep hrep;unfold zk2 at h;split at h
 ·rename_i t2 l2 heq;cases heq;simp only [Option.some.injEq,Prod.mk.injEq] at h;obtain ⟨hc,rfl,rfl⟩:=h;obtain ⟨N,hN⟩:=zIs _ _ hb hc;exact ⟨zvq,N,12,(zLe N _ _).trans hN⟩
 ·cases h
def zd1 (l:List Slot)(k:Int):Bool:=pc (0<=k/\k+mcL zf4 l<=mkB)
def zev (l:List Slot)(k:Int):List Slot:=mkL zmg zbc l k
def zbb (l:List Slot)(k:Int):Int:=enL zbc l k
def zlq:CV->Int->Option (Bool×CV×Int)
 | .s .slot l,k=>some (zd1 l k,.s .slot (zev l k),zbb l k)
 | _,_=>none
def zqM (N:Nat)(a0:List Slot)(a1:Int):Option Ans :=
 (iter (σ:=(Int×(Int×((List Slot)×Unit)))) N (fun r3 s4=>(cond (ilt s4.2.1 (ln s4.2.2.1)) (cond (inb s4.2.1 (ln s4.2.2.1)) (share (up s4.2.2.1 s4.2.1 ({ (ix s4.2.2.1 s4.2.1 zQ) with Page:=s4.1 }:Slot)) (fun x5=>(cond (inb s4.2.1 (ln x5)) (share (up x5 s4.2.1 ({ (ix x5 s4.2.1 zQ) with Rights:=(zq .i64 s4.1 1) }:Slot)) (fun x6=>(r3 ((zq .i64 (zq .i64 s4.1 1) 1),((zq .i64 s4.2.1 1),(x6,())))))) none))) none) (some [(.one (.s .slot s4.2.2.1)),(.one (.i .i64 s4.1))]))) (a1,(0,(a0,()))))
def zva:FuncId->Nat->Option Tmpl:=zB [(72,0,{ n:=27,tm:=[(0,.sl 0 []),(1,.i .i64),(5,.i .i64)],lo:=[],ro:=[(0,.slot,true)] })]
theorem zLK (N:Nat)(a0:List Slot)(a1:Int):zmD (cQ zkh zbV zK zO) zva N 12 72 .slot a0 a1=zqM N a0 a1:=by kernel_rfl
theorem zIE (a0:List Slot)(a1:Int)(hb:CVB big (.s .slot a0))(hc:zd1 a0 a1=true):∃N,zqM N a0 a1=some [.one (.s .slot (zev a0 a1)),.one (.i .i64 (zbb a0 a1))]:=by
 obtain ⟨h0,h1⟩:=zI.1 hc;have hl:=hb.len;refine ⟨NN,?_⟩;have hNN:∀{n:Nat},n<=big->n<NN:=fun h=>zb4 h;generalize NN=N at hNN ⊢;unfold zqM;exact zhd zcv _ (fun k L=>some [AV.one (.s .slot L),AV.one (.i .i64 k)]) (fun i L hi k rec h0 h1 hL=>by
  have hw:=zbd hi hL;generalize hx:L[i]=x at h1 ⊢;have hix:∀d,ix L (i:Int) d=x:=fun d=>(zbq hi d).trans hx;simp only [zf4,mkB] at h1;simp (disch:=omega) only [share,zbu hi,zbh hi,hix,hw,zmV,zuk,zx8 hi,set_set,zeB,zhz,cT];rfl
  ) (fun L k rec=>by simp only [zbk,cF]) a0 a1 N hl h0 h1 (hNN hl)
theorem zDY:zet Tryz.prog 72 zlq:=by
 refine zec (zdJ zfd zbe zu zA) (zC (by kernel_rfl)) ?_
 intro t l k c' k' hr h;obtain ⟨W,v,S,hrep⟩:=hr;have hb:=CVB.of_rep hrep;unfold zlq at h;split at h
 ·rename_i t2 l2 heq;cases heq;simp only [Option.some.injEq,Prod.mk.injEq] at h;obtain ⟨hc,rfl,rfl⟩:=h;obtain ⟨N,hN⟩:=zIE _ _ hb hc;exact ⟨zva,N,12,(zLK N _ _).trans hN⟩
 ·cases h
def zmU (l:List Ins)(k:Int):Bool:=pc (0<=k/\k+mcL zod l<=mkB)
def zmZ (l:List Ins)(k:Int):List Ins:=mkL zQQ zcE l k
def zcd (l:List Ins)(k:Int):Int:=enL zcE l k
def zl2:CV->Int->Option (Bool×CV×Int)
 | .s .ins l,k=>some (zmU l k,.s .ins (zmZ l k),zcd l k)
 | _,_=>none
def ztE (N:Nat)(a0:List Ins)(a1:Int):Option Ans :=
 (iter (σ:=(Int×(Int×((List Ins)×Unit)))) N (fun r3 s4=>(cond (ilt s4.2.1 (ln s4.2.2.1)) (cond (inb s4.2.1 (ln s4.2.2.1)) (share (up s4.2.2.1 s4.2.1 ({ (ix s4.2.2.1 s4.2.1 zfj) with Op:=s4.1 }:Ins)) (fun x5=>(cond (inb s4.2.1 (ln x5)) (share (up x5 s4.2.1 ({ (ix x5 s4.2.1 zfj) with X:=(zq .i64 s4.1 1) }:Ins)) (fun x6=>(r3 ((zq .i64 (zq .i64 s4.1 1) 1),((zq .i64 s4.2.1 1),(x6,())))))) none))) none) (some [(.one (.s .ins s4.2.2.1)),(.one (.i .i64 s4.1))]))) (a1,(0,(a0,()))))
def zxJ:FuncId->Nat->Option Tmpl:=zB [(147,0,{ n:=27,tm:=[(0,.sl 0 []),(1,.i .i64),(5,.i .i64)],lo:=[],ro:=[(0,.ins,true)] })]
theorem zOy (N:Nat)(a0:List Ins)(a1:Int):zmD (cQ zkh zbV zK zO) zxJ N 12 147 .ins a0 a1=ztE N a0 a1:=by kernel_rfl
theorem zLO (a0:List Ins)(a1:Int)(hb:CVB big (.s .ins a0))(hc:zmU a0 a1=true):∃N,ztE N a0 a1=some [.one (.s .ins (zmZ a0 a1)),.one (.i .i64 (zcd a0 a1))]:=by
 obtain ⟨h0,h1⟩:=zI.1 hc;have hl:=hb.len;refine ⟨NN,?_⟩;have hNN:∀{n:Nat},n<=big->n<NN:=fun h=>zb4 h;generalize NN=N at hNN ⊢;unfold ztE;exact zhd zk1 _ (fun k L=>some [AV.one (.s .ins L),AV.one (.i .i64 k)]) (fun i L hi k rec h0 h1 hL=>by
  have hw:=zbd hi hL;generalize hx:L[i]=x at h1 ⊢;have hix:∀d,ix L (i:Int) d=x:=fun d=>(zbq hi d).trans hx;simp only [zod,mkB] at h1;simp (disch:=omega) only [share,zbu hi,zbh hi,hix,hw,zmV,zuk,zx8 hi,set_set,zeB,zhz,cT];rfl
  ) (fun L k rec=>by simp only [zbk,cF]) a0 a1 N hl h0 h1 (hNN hl)
theorem zFZ:zet Tryz.prog 147 zl2:=by
 refine zec (zdJ zfd zbe zu zA) (zC (by kernel_rfl)) ?_
 intro t l k c' k' hr h;obtain ⟨W,v,S,hrep⟩:=hr;have hb:=CVB.of_rep hrep;unfold zl2 at h;split at h
 ·rename_i t2 l2 heq;cases heq;simp only [Option.some.injEq,Prod.mk.injEq] at h;obtain ⟨hc,rfl,rfl⟩:=h;obtain ⟨N,hN⟩:=zLO _ _ hb hc;exact ⟨zxJ,N,12,(zOy N _ _).trans hN⟩
 ·cases h
def zdK (l:List Entry)(k:Int):Bool:=pc (0<=k/\k+mcL zgy l<=mkB)
def zeA (l:List Entry)(k:Int):List Entry:=mkL zRg zxR l k
def zbQ (l:List Entry)(k:Int):Int:=enL zxR l k
def zkg:CV->Int->Option (Bool×CV×Int)
 | .s .entry l,k=>some (zdK l k,.s .entry (zeA l k),zbQ l k)
 | _,_=>none
def zoc (N:Nat)(a0:List Entry)(a1:Int):Option Ans :=
 (iter (σ:=(Int×(Int×((List Entry)×Unit)))) N (fun r3 s4=>(cond (ilt s4.2.1 (ln s4.2.2.1)) (cond (inb s4.2.1 (ln s4.2.2.1)) (share (up s4.2.2.1 s4.2.1 ({ (ix s4.2.2.1 s4.2.1 zby) with Tag:=s4.1 }:Entry)) (fun x5=>(cond (inb s4.2.1 (ln x5)) (share (up x5 s4.2.1 ({ (ix x5 s4.2.1 zby) with Page:=(zq .i64 s4.1 1) }:Entry)) (fun x6=>(cond (inb s4.2.1 (ln x6)) (share (up x6 s4.2.1 ({ (ix x6 s4.2.1 zby) with Host:=(zq .i64 (zq .i64 s4.1 1) 1) }:Entry)) (fun x7=>(cond (inb s4.2.1 (ln x7)) (share (up x7 s4.2.1 ({ (ix x7 s4.2.1 zby) with Rights:=(zq .i64 (zq .i64 (zq .i64 s4.1 1) 1) 1) }:Entry)) (fun x8=>(r3 ((zq .i64 (zq .i64 (zq .i64 (zq .i64 s4.1 1) 1) 1) 1),((zq .i64 s4.2.1 1),(x8,())))))) none))) none))) none))) none) (some [(.one (.s .entry s4.2.2.1)),(.one (.i .i64 s4.1))]))) (a1,(0,(a0,()))))
def ztC:FuncId->Nat->Option Tmpl:=zB [(29,0,{ n:=41,tm:=[(0,.sl 0 []),(1,.i .i64),(5,.i .i64)],lo:=[],ro:=[(0,.entry,true)] })]
theorem zIX (N:Nat)(a0:List Entry)(a1:Int):zmD (cQ zkh zbV zK zO) ztC N 12 29 .entry a0 a1=zoc N a0 a1:=by kernel_rfl
theorem zFs (a0:List Entry)(a1:Int)(hb:CVB big (.s .entry a0))(hc:zdK a0 a1=true):∃N,zoc N a0 a1=some [.one (.s .entry (zeA a0 a1)),.one (.i .i64 (zbQ a0 a1))]:=by
 obtain ⟨h0,h1⟩:=zI.1 hc;have hl:=hb.len;refine ⟨NN,?_⟩;have hNN:∀{n:Nat},n<=big->n<NN:=fun h=>zb4 h;generalize NN=N at hNN ⊢;unfold zoc;exact zhd ziP _ (fun k L=>some [AV.one (.s .entry L),AV.one (.i .i64 k)]) (fun i L hi k rec h0 h1 hL=>by
  have hw:=zbd hi hL;generalize hx:L[i]=x at h1 ⊢;have hix:∀d,ix L (i:Int) d=x:=fun d=>(zbq hi d).trans hx;simp only [zgy,mkB] at h1;simp (disch:=omega) only [share,zbu hi,zbh hi,hix,hw,zmV,zuk,zx8 hi,set_set,zeB,zhz,cT];rfl
  ) (fun L k rec=>by simp only [zbk,cF]) a0 a1 N hl h0 h1 (hNN hl)
theorem zBC:zet Tryz.prog 29 zkg:=by
 refine zec (zdJ zfd zbe zu zA) (zC (by kernel_rfl)) ?_
 intro t l k c' k' hr h;obtain ⟨W,v,S,hrep⟩:=hr;have hb:=CVB.of_rep hrep;unfold zkg at h;split at h
 ·rename_i t2 l2 heq;cases heq;simp only [Option.some.injEq,Prod.mk.injEq] at h;obtain ⟨hc,rfl,rfl⟩:=h;obtain ⟨N,hN⟩:=zFs _ _ hb hc;exact ⟨ztC,N,12,(zIX N _ _).trans hN⟩
 ·cases h
def zP7:zEQ:=[(71,zmJ),(73,zk2),(72,zlq),(147,zl2),(29,zkg)]++zbV
theorem zCW:∀f run,zy zP7 f=some run->zet Tryz.prog f run:=zET zbe (by
 intro x hx;simp only [List.mem_cons,List.not_mem_nil,or_false] at hx;rcases hx with rfl|rfl|rfl|rfl|rfl
 ·exact zFQ
 ·exact zDw
 ·exact zDY
 ·exact zFZ
 ·exact zBC)
def ze3 (l:List (List Int))(k:Int):Bool:=pc (0<=k/\k+mcL zh8 l<=mkB)
def zfV (l:List (List Int))(k:Int):List (List Int):=mkL zHt zcC l k
def zX (l:List (List Int))(k:Int):Int:=enL zcC l k
def zlm:CV->Int->Option (Bool×CV×Int)
 | .s (.sl .int) l,k=>some (ze3 l k,.s (.sl .int) (zfV l k),zX l k)
 | _,_=>none
def zqr (N:Nat)(a0:List (List Int))(a1:Int):Option Ans :=
 (iter (σ:=(Int×(Int×((List (List Int))×Unit)))) N (fun r3 s4=>(cond (ilt s4.2.1 (ln s4.2.2.1)) (cond (inb s4.2.1 (ln s4.2.2.1)) (cond (zfA (ix s4.2.2.1 s4.2.1 []) s4.1) (share (up s4.2.2.1 s4.2.1 (zfG (ix s4.2.2.1 s4.2.1 []) s4.1)) (fun x5=>(r3 ((zdn (ix s4.2.2.1 s4.2.1 []) s4.1),((zq .i64 s4.2.1 1),(x5,())))))) none) none) (some [(.one (.s (.sl .int) s4.2.2.1)),(.one (.i .i64 s4.1))]))) (a1,(0,(a0,()))))
def zvo:FuncId->Nat->Option Tmpl:=zB [(27,0,{ n:=19,tm:=[(0,.sl 0 []),(1,.i .i64),(5,.i .i64)],lo:=[],ro:=[(0,(.sl .int),true)] })]
theorem zLs (N:Nat)(a0:List (List Int))(a1:Int):zmD (cQ zkh zP7 zK zO) zvo N 12 27 (.sl .int) a0 a1=zqr N a0 a1:=by kernel_rfl
theorem zGO (a0:List (List Int))(a1:Int)(hb:CVB big (.s (.sl .int) a0))(hc:ze3 a0 a1=true):∃N,zqr N a0 a1=some [.one (.s (.sl .int) (zfV a0 a1)),.one (.i .i64 (zX a0 a1))]:=by
 obtain ⟨h0,h1⟩:=zI.1 hc;have hl:=hb.len;refine ⟨NN,?_⟩;have hNN:∀{n:Nat},n<=big->n<NN:=fun h=>zb4 h;generalize NN=N at hNN ⊢;unfold zqr;exact zhd zfZ _ (fun k L=>some [AV.one (.s (.sl .int) L),AV.one (.i .i64 k)]) (fun i L hi k rec h0 h1 hL=>by
  have hw:=zbd hi hL;generalize hx:L[i]=x at h1 ⊢;have hix:∀d,ix L (i:Int) d=x:=fun d=>(zbq hi d).trans hx;have c1:zfA x k=true:=zU ⟨h0,h1⟩;simp only [share,zbu hi,zbh hi,hix,c1,hw,zmV,zfG,zdn,cT];rfl
  ) (fun L k rec=>by simp only [zbk,cF]) a0 a1 N hl h0 h1 (hNN hl)
theorem zDf:zet Tryz.prog 27 zlm:=by
 refine zec (zdJ zfd zCW zu zA) (zC (by kernel_rfl)) ?_
 intro t l k c' k' hr h;obtain ⟨W,v,S,hrep⟩:=hr;have hb:=CVB.of_rep hrep;unfold zlm at h;split at h
 ·rename_i t2 l2 heq;cases heq;simp only [Option.some.injEq,Prod.mk.injEq] at h;obtain ⟨hc,rfl,rfl⟩:=h;obtain ⟨N,hN⟩:=zGO _ _ hb hc;exact ⟨zvo,N,12,(zLs N _ _).trans hN⟩
 ·cases h
def zkM (l:List Kept)(k:Int):Bool:=pc (0<=k/\k+mcL zhc l<=mkB)
def zkU (l:List Kept)(k:Int):List Kept:=mkL zzR zjZ l k
def ziu (l:List Kept)(k:Int):Int:=enL zjZ l k
def zlp:CV->Int->Option (Bool×CV×Int)
 | .s .kept l,k=>some (zkM l k,.s .kept (zkU l k),ziu l k)
 | _,_=>none
def zqo (N:Nat)(a0:List Kept)(a1:Int):Option Ans :=
 (iter (σ:=(Int×(Int×((List Kept)×Unit)))) N (fun r3 s4=>(cond (ilt s4.2.1 (ln s4.2.2.1)) (cond (inb s4.2.1 (ln s4.2.2.1)) (cond (zgN (ix s4.2.2.1 s4.2.1 zbB).Known s4.1) (share (up s4.2.2.1 s4.2.1 ({ (ix s4.2.2.1 s4.2.1 zbB) with Known:=(zgU (ix s4.2.2.1 s4.2.1 zbB).Known s4.1) }:Kept)) (fun x5=>(cond (inb s4.2.1 (ln x5)) (cond (zd1 (ix x5 s4.2.1 zbB).Slots (zco (ix s4.2.2.1 s4.2.1 zbB).Known s4.1)) (share (up x5 s4.2.1 ({ (ix x5 s4.2.1 zbB) with Slots:=(zev (ix x5 s4.2.1 zbB).Slots (zco (ix s4.2.2.1 s4.2.1 zbB).Known s4.1)) }:Kept)) (fun x6=>(r3 ((zbb (ix x5 s4.2.1 zbB).Slots (zco (ix s4.2.2.1 s4.2.1 zbB).Known s4.1)),((zq .i64 s4.2.1 1),(x6,())))))) none) none))) none) none) (some [(.one (.s .kept s4.2.2.1)),(.one (.i .i64 s4.1))]))) (a1,(0,(a0,()))))
def zvO:FuncId->Nat->Option Tmpl:=zB [(75,0,{ n:=27,tm:=[(0,.sl 0 []),(1,.i .i64),(5,.i .i64)],lo:=[],ro:=[(0,.kept,true)] })]
theorem zKG (N:Nat)(a0:List Kept)(a1:Int):zmD (cQ zkh zP7 zK zO) zvO N 12 75 .kept a0 a1=zqo N a0 a1:=by kernel_rfl
theorem zGs (a0:List Kept)(a1:Int)(hb:CVB big (.s .kept a0))(hc:zkM a0 a1=true):∃N,zqo N a0 a1=some [.one (.s .kept (zkU a0 a1)),.one (.i .i64 (ziu a0 a1))]:=by
 obtain ⟨h0,h1⟩:=zI.1 hc;have hl:=hb.len;refine ⟨NN,?_⟩;have hNN:∀{n:Nat},n<=big->n<NN:=fun h=>zb4 h;generalize NN=N at hNN ⊢;unfold zqo;exact zhd zis _ (fun k L=>some [AV.one (.s .kept L),AV.one (.i .i64 k)]) (fun i L hi k rec h0 h1 hL=>by
  have hw:=zbd hi hL;generalize hx:L[i]=x at h1 ⊢;have hix:∀d,ix L (i:Int) d=x:=fun d=>(zbq hi d).trans hx;simp only [zhc,mkB] at h1;have hn0:=zb0 zee.nn x.Known;have hn1:=zb0 zcv.nn x.Slots;have he0:=zbO zee.nx x.Known (k);have he1:=zbO zcv.nx x.Slots (enL zcm x.Known (k));have c0:zgN x.Known (k)=true:=zU ⟨by omega,by unfold mkB;omega⟩
  have c1:zd1 x.Slots (enL zcm x.Known (k))=true:=zU ⟨by omega,by unfold mkB;omega⟩
  simp (disch:=omega) only [share,zbu hi,zbh hi,zK9 hi,hix,hw,zmV,zuk,zx8 hi,set_set,zeB,zhz,cT,c0,zgU,zco,c1,zev,zbb];rfl
  ) (fun L k rec=>by simp only [zbk,cF]) a0 a1 N hl h0 h1 (hNN hl)
theorem zDu:zet Tryz.prog 75 zlp:=by
 refine zec (zdJ zfd zCW zu zA) (zC (by kernel_rfl)) ?_
 intro t l k c' k' hr h;obtain ⟨W,v,S,hrep⟩:=hr;have hb:=CVB.of_rep hrep;unfold zlp at h;split at h
 ·rename_i t2 l2 heq;cases heq;simp only [Option.some.injEq,Prod.mk.injEq] at h;obtain ⟨hc,rfl,rfl⟩:=h;obtain ⟨N,hN⟩:=zGs _ _ hb hc;exact ⟨zvO,N,12,(zKG N _ _).trans hN⟩
 ·cases h
def zjX (l:List Guest)(k:Int):Bool:=pc (0<=k/\k+mcL zfB l<=mkB)
def zkd (l:List Guest)(k:Int):List Guest:=mkL zua zcO l k
def zdp (l:List Guest)(k:Int):Int:=enL zcO l k
def zkm:CV->Int->Option (Bool×CV×Int)
 | .s .guest l,k=>some (zjX l k,.s .guest (zkd l k),zdp l k)
 | _,_=>none
def zoo (N:Nat)(a0:List Guest)(a1:Int):Option Ans :=
 (iter (σ:=(Int×(Int×((List Guest)×Unit)))) N (fun r3 s4=>(cond (ilt s4.2.1 (ln s4.2.2.1)) (cond (inb s4.2.1 (ln s4.2.2.1)) (cond (zmU (ix s4.2.2.1 s4.2.1 zi).Prog s4.1) (share (up s4.2.2.1 s4.2.1 ({ (ix s4.2.2.1 s4.2.1 zi) with Prog:=(zmZ (ix s4.2.2.1 s4.2.1 zi).Prog s4.1) }:Guest)) (fun x5=>(cond (inb s4.2.1 (ln x5)) (share (up x5 s4.2.1 ({ (ix x5 s4.2.1 zi) with A:=(zcd (ix s4.2.2.1 s4.2.1 zi).Prog s4.1) }:Guest)) (fun x6=>(cond (inb s4.2.1 (ln x6)) (share (up x6 s4.2.1 ({ (ix x6 s4.2.1 zi) with Pc:=(zq .i64 (zcd (ix s4.2.2.1 s4.2.1 zi).Prog s4.1) 1) }:Guest)) (fun x7=>(cond (inb s4.2.1 (ln x7)) (cond (zd1 (ix x7 s4.2.1 zi).Written (zq .i64 (zq .i64 (zcd (ix s4.2.2.1 s4.2.1 zi).Prog s4.1) 1) 1)) (share (up x7 s4.2.1 ({ (ix x7 s4.2.1 zi) with Written:=(zev (ix x7 s4.2.1 zi).Written (zq .i64 (zq .i64 (zcd (ix s4.2.2.1 s4.2.1 zi).Prog s4.1) 1) 1)) }:Guest)) (fun x8=>(cond (inb s4.2.1 (ln x8)) (cond (zd1 (ix x8 s4.2.1 zi).Live (zbb (ix x7 s4.2.1 zi).Written (zq .i64 (zq .i64 (zcd (ix s4.2.2.1 s4.2.1 zi).Prog s4.1) 1) 1))) (share (up x8 s4.2.1 ({ (ix x8 s4.2.1 zi) with Live:=(zev (ix x8 s4.2.1 zi).Live (zbb (ix x7 s4.2.1 zi).Written (zq .i64 (zq .i64 (zcd (ix s4.2.2.1 s4.2.1 zi).Prog s4.1) 1) 1))) }:Guest)) (fun x9=>(cond (inb s4.2.1 (ln x9)) (share (up x9 s4.2.1 ({ (ix x9 s4.2.1 zi) with Ctl:=({ (ix x9 s4.2.1 zi).Ctl with Traps:=(zbb (ix x8 s4.2.1 zi).Live (zbb (ix x7 s4.2.1 zi).Written (zq .i64 (zq .i64 (zcd (ix s4.2.2.1 s4.2.1 zi).Prog s4.1) 1) 1))) }:Ctl) }:Guest)) (fun x10=>(cond (inb s4.2.1 (ln x10)) (share (up x10 s4.2.1 ({ (ix x10 s4.2.1 zi) with Ctl:=({ (ix x10 s4.2.1 zi).Ctl with Post:=(zq .i64 (zbb (ix x8 s4.2.1 zi).Live (zbb (ix x7 s4.2.1 zi).Written (zq .i64 (zq .i64 (zcd (ix s4.2.2.1 s4.2.1 zi).Prog s4.1) 1) 1))) 1) }:Ctl) }:Guest)) (fun x11=>(cond (ine 3 0) (cond (inb s4.2.1 (ln x11)) (share (up x11 s4.2.1 ({ (ix x11 s4.2.1 zi) with Ctl:=({ (ix x11 s4.2.1 zi).Ctl with Open:=(ieq (zfw (zq .i64 (zq .i64 (zbb (ix x8 s4.2.1 zi).Live (zbb (ix x7 s4.2.1 zi).Written (zq .i64 (zq .i64 (zcd (ix s4.2.2.1 s4.2.1 zi).Prog s4.1) 1) 1))) 1) 1) 3) 0) }:Ctl) }:Guest)) (fun x12=>(cond (inb s4.2.1 (ln x12)) (share (up x12 s4.2.1 ({ (ix x12 s4.2.1 zi) with Pending:=(zq .i64 (zq .i64 (zq .i64 (zbb (ix x8 s4.2.1 zi).Live (zbb (ix x7 s4.2.1 zi).Written (zq .i64 (zq .i64 (zcd (ix s4.2.2.1 s4.2.1 zi).Prog s4.1) 1) 1))) 1) 1) 1) }:Guest)) (fun x13=>(cond (inb s4.2.1 (ln x13)) (share (up x13 s4.2.1 ({ (ix x13 s4.2.1 zi) with Exit:=({ (ix x13 s4.2.1 zi).Exit with Kind:=(zq .i64 (zq .i64 (zq .i64 (zq .i64 (zbb (ix x8 s4.2.1 zi).Live (zbb (ix x7 s4.2.1 zi).Written (zq .i64 (zq .i64 (zcd (ix s4.2.2.1 s4.2.1 zi).Prog s4.1) 1) 1))) 1) 1) 1) 1) }:GExit) }:Guest)) (fun x14=>(cond (inb s4.2.1 (ln x14)) (share (up x14 s4.2.1 ({ (ix x14 s4.2.1 zi) with Exit:=({ (ix x14 s4.2.1 zi).Exit with Page:=(zq .i64 (zq .i64 (zq .i64 (zq .i64 (zq .i64 (zbb (ix x8 s4.2.1 zi).Live (zbb (ix x7 s4.2.1 zi).Written (zq .i64 (zq .i64 (zcd (ix s4.2.2.1 s4.2.1 zi).Prog s4.1) 1) 1))) 1) 1) 1) 1) 1) }:GExit) }:Guest)) (fun x15=>(cond (ine 3 0) (cond (inb s4.2.1 (ln x15)) (share (up x15 s4.2.1 ({ (ix x15 s4.2.1 zi) with Exit:=({ (ix x15 s4.2.1 zi).Exit with Write:=(ieq (zfw (zq .i64 (zq .i64 (zq .i64 (zq .i64 (zq .i64 (zq .i64 (zbb (ix x8 s4.2.1 zi).Live (zbb (ix x7 s4.2.1 zi).Written (zq .i64 (zq .i64 (zcd (ix s4.2.2.1 s4.2.1 zi).Prog s4.1) 1) 1))) 1) 1) 1) 1) 1) 1) 3) 0) }:GExit) }:Guest)) (fun x16=>(cond (inb s4.2.1 (ln x16)) (share (up x16 s4.2.1 ({ (ix x16 s4.2.1 zi) with Exit:=({ (ix x16 s4.2.1 zi).Exit with N:=(zq .i64 (zq .i64 (zq .i64 (zq .i64 (zq .i64 (zq .i64 (zq .i64 (zbb (ix x8 s4.2.1 zi).Live (zbb (ix x7 s4.2.1 zi).Written (zq .i64 (zq .i64 (zcd (ix s4.2.2.1 s4.2.1 zi).Prog s4.1) 1) 1))) 1) 1) 1) 1) 1) 1) 1) }:GExit) }:Guest)) (fun x17=>(cond (ine 3 0) (cond (inb s4.2.1 (ln x17)) (share (up x17 s4.2.1 ({ (ix x17 s4.2.1 zi) with Halted:=(ieq (zfw (zq .i64 (zq .i64 (zq .i64 (zq .i64 (zq .i64 (zq .i64 (zq .i64 (zq .i64 (zbb (ix x8 s4.2.1 zi).Live (zbb (ix x7 s4.2.1 zi).Written (zq .i64 (zq .i64 (zcd (ix s4.2.2.1 s4.2.1 zi).Prog s4.1) 1) 1))) 1) 1) 1) 1) 1) 1) 1) 1) 3) 0) }:Guest)) (fun x18=>(cond (inb s4.2.1 (ln x18)) (cond (zfA (ix x18 s4.2.1 zi).Seen (zq .i64 (zq .i64 (zq .i64 (zq .i64 (zq .i64 (zq .i64 (zq .i64 (zq .i64 (zq .i64 (zbb (ix x8 s4.2.1 zi).Live (zbb (ix x7 s4.2.1 zi).Written (zq .i64 (zq .i64 (zcd (ix s4.2.2.1 s4.2.1 zi).Prog s4.1) 1) 1))) 1) 1) 1) 1) 1) 1) 1) 1) 1)) (share (up x18 s4.2.1 ({ (ix x18 s4.2.1 zi) with Seen:=(zfG (ix x18 s4.2.1 zi).Seen (zq .i64 (zq .i64 (zq .i64 (zq .i64 (zq .i64 (zq .i64 (zq .i64 (zq .i64 (zq .i64 (zbb (ix x8 s4.2.1 zi).Live (zbb (ix x7 s4.2.1 zi).Written (zq .i64 (zq .i64 (zcd (ix s4.2.2.1 s4.2.1 zi).Prog s4.1) 1) 1))) 1) 1) 1) 1) 1) 1) 1) 1) 1)) }:Guest)) (fun x19=>(r3 ((zdn (ix x18 s4.2.1 zi).Seen (zq .i64 (zq .i64 (zq .i64 (zq .i64 (zq .i64 (zq .i64 (zq .i64 (zq .i64 (zq .i64 (zbb (ix x8 s4.2.1 zi).Live (zbb (ix x7 s4.2.1 zi).Written (zq .i64 (zq .i64 (zcd (ix s4.2.2.1 s4.2.1 zi).Prog s4.1) 1) 1))) 1) 1) 1) 1) 1) 1) 1) 1) 1)),((zq .i64 s4.2.1 1),(x19,())))))) none) none))) none) none))) none))) none) none))) none))) none))) none))) none) none))) none))) none))) none) none))) none) none))) none))) none))) none) none) (some [(.one (.s .guest s4.2.2.1)),(.one (.i .i64 s4.1))]))) (a1,(0,(a0,()))))
def zsO:FuncId->Nat->Option Tmpl:=zB [(74,0,{ n:=131,tm:=[(0,.sl 0 []),(1,.i .i64),(5,.i .i64)],lo:=[],ro:=[(0,.guest,true)] })]
theorem zG1 (N:Nat)(a0:List Guest)(a1:Int):zmD (cQ zkh zP7 zK zO) zsO N 12 74 .guest a0 a1=zoo N a0 a1:=by kernel_rfl
theorem zFo (a0:List Guest)(a1:Int)(hb:CVB big (.s .guest a0))(hc:zjX a0 a1=true):∃N,zoo N a0 a1=some [.one (.s .guest (zkd a0 a1)),.one (.i .i64 (zdp a0 a1))]:=by
 obtain ⟨h0,h1⟩:=zI.1 hc;have hl:=hb.len;refine ⟨NN,?_⟩;have hNN:∀{n:Nat},n<=big->n<NN:=fun h=>zb4 h;generalize NN=N at hNN ⊢;unfold zoo;exact zhd zgS _ (fun k L=>some [AV.one (.s .guest L),AV.one (.i .i64 k)]) (fun i L hi k rec h0 h1 hL=>by
  have hw:=zbd hi hL;generalize hx:L[i]=x at h1 ⊢;have hix:∀d,ix L (i:Int) d=x:=fun d=>(zbq hi d).trans hx;simp only [zfB,mkB] at h1;have hn0:=zb0 zk1.nn x.Prog;have hn1:=zb0 zcv.nn x.Written;have hn2:=zb0 zcv.nn x.Live;have hn3:=zb0 zew.nn x.Seen;have he0:=zbO zk1.nx x.Prog (k);have he1:=zbO zcv.nx x.Written (enL zcE x.Prog (k)+1+1);have he2:=zbO zcv.nx x.Live (enL zbc x.Written (enL zcE x.Prog (k)+1+1));have he3:=zbO zew.nx x.Seen (enL zbc x.Live (enL zbc x.Written (enL zcE x.Prog (k)+1+1))+1+1+1+1+1+1+1+1+1);have c0:zmU x.Prog (k)=true:=zU ⟨by omega,by unfold mkB;omega⟩
  have c1:zd1 x.Written (enL zcE x.Prog (k)+1+1)=true:=zU ⟨by omega,by unfold mkB;omega⟩
  have c2:zd1 x.Live (enL zbc x.Written (enL zcE x.Prog (k)+1+1))=true:=zU ⟨by omega,by unfold mkB;omega⟩
  have c3:zfA x.Seen (enL zbc x.Live (enL zbc x.Written (enL zcE x.Prog (k)+1+1))+1+1+1+1+1+1+1+1+1)=true:=zU ⟨by omega,by unfold mkB;omega⟩
  simp (disch:=omega) only [share,zbu hi,zbh hi,zK9 hi,hix,hw,zmV,zuk,zx8 hi,set_set,zeB,zhz,cT,c0,zmZ,zcd,c1,zev,zbb,c2,c3,zfG,zdn];rfl
  ) (fun L k rec=>by simp only [zbk,cF]) a0 a1 N hl h0 h1 (hNN hl)
theorem zBv:zet Tryz.prog 74 zkm:=by
 refine zec (zdJ zfd zCW zu zA) (zC (by kernel_rfl)) ?_
 intro t l k c' k' hr h;obtain ⟨W,v,S,hrep⟩:=hr;have hb:=CVB.of_rep hrep;unfold zkm at h;split at h
 ·rename_i t2 l2 heq;cases heq;simp only [Option.some.injEq,Prod.mk.injEq] at h;obtain ⟨hc,rfl,rfl⟩:=h;obtain ⟨N,hN⟩:=zFo _ _ hb hc;exact ⟨zsO,N,12,(zG1 N _ _).trans hN⟩
 ·cases h
def zZD:zEQ:=[(27,zlm),(75,zlp),(74,zkm)]++zP7
theorem zVu:∀f run,zy zZD f=some run->zet Tryz.prog f run:=zET zCW (by
 intro x hx;simp only [List.mem_cons,List.not_mem_nil,or_false] at hx;rcases hx with rfl|rfl|rfl
 ·exact zDf
 ·exact zDu
 ·exact zBv)
def zhQ (l:List Mon)(k:Int):Bool:=pc (0<=k/\k+mcL zjz l<=mkB)
def zja (l:List Mon)(k:Int):List Mon:=mkL zPN zF9 l k
def zbX (l:List Mon)(k:Int):Int:=enL zF9 l k
def zlX:CV->Int->Option (Bool×CV×Int)
 | .s .mon l,k=>some (zhQ l k,.s .mon (zja l k),zbX l k)
 | _,_=>none
def zuq (N:Nat)(a0:List Mon)(a1:Int):Option Ans :=
 (iter (σ:=(Int×(Int×((List Mon)×Unit)))) N (fun r3 s4=>(cond (ilt s4.2.1 (ln s4.2.2.1)) (cond (inb s4.2.1 (ln s4.2.2.1)) (cond (zd1 (ix s4.2.2.1 s4.2.1 zf).Outer s4.1) (share (up s4.2.2.1 s4.2.1 ({ (ix s4.2.2.1 s4.2.1 zf) with Outer:=(zev (ix s4.2.2.1 s4.2.1 zf).Outer s4.1) }:Mon)) (fun x5=>(cond (inb s4.2.1 (ln x5)) (cond (ze3 (ix x5 s4.2.1 zf).Out (zbb (ix s4.2.2.1 s4.2.1 zf).Outer s4.1)) (share (up x5 s4.2.1 ({ (ix x5 s4.2.1 zf) with Out:=(zfV (ix x5 s4.2.1 zf).Out (zbb (ix s4.2.2.1 s4.2.1 zf).Outer s4.1)) }:Mon)) (fun x6=>(cond (inb s4.2.1 (ln x6)) (cond (zgN (ix x6 s4.2.1 zf).Dirty (zX (ix x5 s4.2.1 zf).Out (zbb (ix s4.2.2.1 s4.2.1 zf).Outer s4.1))) (share (up x6 s4.2.1 ({ (ix x6 s4.2.1 zf) with Dirty:=(zgU (ix x6 s4.2.1 zf).Dirty (zX (ix x5 s4.2.1 zf).Out (zbb (ix s4.2.2.1 s4.2.1 zf).Outer s4.1))) }:Mon)) (fun x7=>(cond (inb s4.2.1 (ln x7)) (cond (zjX (ix x7 s4.2.1 zf).Guests (zco (ix x6 s4.2.1 zf).Dirty (zX (ix x5 s4.2.1 zf).Out (zbb (ix s4.2.2.1 s4.2.1 zf).Outer s4.1)))) (share (up x7 s4.2.1 ({ (ix x7 s4.2.1 zf) with Guests:=(zkd (ix x7 s4.2.1 zf).Guests (zco (ix x6 s4.2.1 zf).Dirty (zX (ix x5 s4.2.1 zf).Out (zbb (ix s4.2.2.1 s4.2.1 zf).Outer s4.1)))) }:Mon)) (fun x8=>(cond (inb s4.2.1 (ln x8)) (cond (zfA (ix x8 s4.2.1 zf).Outs (zdp (ix x7 s4.2.1 zf).Guests (zco (ix x6 s4.2.1 zf).Dirty (zX (ix x5 s4.2.1 zf).Out (zbb (ix s4.2.2.1 s4.2.1 zf).Outer s4.1))))) (share (up x8 s4.2.1 ({ (ix x8 s4.2.1 zf) with Outs:=(zfG (ix x8 s4.2.1 zf).Outs (zdp (ix x7 s4.2.1 zf).Guests (zco (ix x6 s4.2.1 zf).Dirty (zX (ix x5 s4.2.1 zf).Out (zbb (ix s4.2.2.1 s4.2.1 zf).Outer s4.1))))) }:Mon)) (fun x9=>(cond (inb s4.2.1 (ln x9)) (share (up x9 s4.2.1 ({ (ix x9 s4.2.1 zf) with Pending:=(zdn (ix x8 s4.2.1 zf).Outs (zdp (ix x7 s4.2.1 zf).Guests (zco (ix x6 s4.2.1 zf).Dirty (zX (ix x5 s4.2.1 zf).Out (zbb (ix s4.2.2.1 s4.2.1 zf).Outer s4.1))))) }:Mon)) (fun x10=>(cond (inb s4.2.1 (ln x10)) (share (up x10 s4.2.1 ({ (ix x10 s4.2.1 zf) with Traps:=(zq .i64 (zdn (ix x8 s4.2.1 zf).Outs (zdp (ix x7 s4.2.1 zf).Guests (zco (ix x6 s4.2.1 zf).Dirty (zX (ix x5 s4.2.1 zf).Out (zbb (ix s4.2.2.1 s4.2.1 zf).Outer s4.1))))) 1) }:Mon)) (fun x11=>(cond (inb s4.2.1 (ln x11)) (cond (zkM (ix x11 s4.2.1 zf).Tables (zq .i64 (zq .i64 (zdn (ix x8 s4.2.1 zf).Outs (zdp (ix x7 s4.2.1 zf).Guests (zco (ix x6 s4.2.1 zf).Dirty (zX (ix x5 s4.2.1 zf).Out (zbb (ix s4.2.2.1 s4.2.1 zf).Outer s4.1))))) 1) 1)) (share (up x11 s4.2.1 ({ (ix x11 s4.2.1 zf) with Tables:=(zkU (ix x11 s4.2.1 zf).Tables (zq .i64 (zq .i64 (zdn (ix x8 s4.2.1 zf).Outs (zdp (ix x7 s4.2.1 zf).Guests (zco (ix x6 s4.2.1 zf).Dirty (zX (ix x5 s4.2.1 zf).Out (zbb (ix s4.2.2.1 s4.2.1 zf).Outer s4.1))))) 1) 1)) }:Mon)) (fun x12=>(cond (inb s4.2.1 (ln x12)) (share (up x12 s4.2.1 ({ (ix x12 s4.2.1 zf) with Own:=(ziu (ix x11 s4.2.1 zf).Tables (zq .i64 (zq .i64 (zdn (ix x8 s4.2.1 zf).Outs (zdp (ix x7 s4.2.1 zf).Guests (zco (ix x6 s4.2.1 zf).Dirty (zX (ix x5 s4.2.1 zf).Out (zbb (ix s4.2.2.1 s4.2.1 zf).Outer s4.1))))) 1) 1)) }:Mon)) (fun x13=>(r3 ((zq .i64 (ziu (ix x11 s4.2.1 zf).Tables (zq .i64 (zq .i64 (zdn (ix x8 s4.2.1 zf).Outs (zdp (ix x7 s4.2.1 zf).Guests (zco (ix x6 s4.2.1 zf).Dirty (zX (ix x5 s4.2.1 zf).Out (zbb (ix s4.2.2.1 s4.2.1 zf).Outer s4.1))))) 1) 1)) 1),((zq .i64 s4.2.1 1),(x13,())))))) none))) none) none))) none))) none))) none) none))) none) none))) none) none))) none) none))) none) none) (some [(.one (.s .mon s4.2.2.1)),(.one (.i .i64 s4.1))]))) (a1,(0,(a0,()))))
def zx2:FuncId->Nat->Option Tmpl:=zB [(28,0,{ n:=76,tm:=[(0,.sl 0 []),(1,.i .i64),(5,.i .i64)],lo:=[],ro:=[(0,.mon,true)] })]
theorem zNQ (N:Nat)(a0:List Mon)(a1:Int):zmD (cQ zkh zZD zK zO) zx2 N 12 28 .mon a0 a1=zuq N a0 a1:=by kernel_rfl
theorem zLv (a0:List Mon)(a1:Int)(hb:CVB big (.s .mon a0))(hc:zhQ a0 a1=true):∃N,zuq N a0 a1=some [.one (.s .mon (zja a0 a1)),.one (.i .i64 (zbX a0 a1))]:=by
 obtain ⟨h0,h1⟩:=zI.1 hc;have hl:=hb.len;refine ⟨NN,?_⟩;have hNN:∀{n:Nat},n<=big->n<NN:=fun h=>zb4 h;generalize NN=N at hNN ⊢;unfold zuq;exact zhd zCz _ (fun k L=>some [AV.one (.s .mon L),AV.one (.i .i64 k)]) (fun i L hi k rec h0 h1 hL=>by
  have hw:=zbd hi hL;generalize hx:L[i]=x at h1 ⊢;have hix:∀d,ix L (i:Int) d=x:=fun d=>(zbq hi d).trans hx;simp only [zjz,mkB] at h1;have hn0:=zb0 zcv.nn x.Outer;have hn1:=zb0 zfZ.nn x.Out;have hn2:=zb0 zee.nn x.Dirty;have hn3:=zb0 zgS.nn x.Guests;have hn4:=zb0 zew.nn x.Outs;have hn5:=zb0 zis.nn x.Tables;have he0:=zbO zcv.nx x.Outer (k);have he1:=zbO zfZ.nx x.Out (enL zbc x.Outer (k));have he2:=zbO zee.nx x.Dirty (enL zcC x.Out (enL zbc x.Outer (k)));have he3:=zbO zgS.nx x.Guests (enL zcm x.Dirty (enL zcC x.Out (enL zbc x.Outer (k))));have he4:=zbO zew.nx x.Outs (enL zcO x.Guests (enL zcm x.Dirty (enL zcC x.Out (enL zbc x.Outer (k)))));have he5:=zbO zis.nx x.Tables (enL zeT x.Outs (enL zcO x.Guests (enL zcm x.Dirty (enL zcC x.Out (enL zbc x.Outer (k)))))+1+1);have c0:zd1 x.Outer (k)=true:=zU ⟨by omega,by unfold mkB;omega⟩
  have c1:ze3 x.Out (enL zbc x.Outer (k))=true:=zU ⟨by omega,by unfold mkB;omega⟩
  have c2:zgN x.Dirty (enL zcC x.Out (enL zbc x.Outer (k)))=true:=zU ⟨by omega,by unfold mkB;omega⟩
  have c3:zjX x.Guests (enL zcm x.Dirty (enL zcC x.Out (enL zbc x.Outer (k))))=true:=zU ⟨by omega,by unfold mkB;omega⟩
  have c4:zfA x.Outs (enL zcO x.Guests (enL zcm x.Dirty (enL zcC x.Out (enL zbc x.Outer (k)))))=true:=zU ⟨by omega,by unfold mkB;omega⟩
  have c5:zkM x.Tables (enL zeT x.Outs (enL zcO x.Guests (enL zcm x.Dirty (enL zcC x.Out (enL zbc x.Outer (k)))))+1+1)=true:=zU ⟨by omega,by unfold mkB;omega⟩
  simp (disch:=omega) only [share,zbu hi,zbh hi,zK9 hi,hix,hw,zmV,zuk,zx8 hi,set_set,zeB,zhz,cT,c0,zev,zbb,c1,zfV,zX,c2,zgU,zco,c3,zkd,zdp,c4,zfG,zdn,c5,zkU,ziu];rfl
  ) (fun L k rec=>by simp only [zbk,cF]) a0 a1 N hl h0 h1 (hNN hl)
theorem zEA:zet Tryz.prog 28 zlX:=by
 refine zec (zdJ zfd zVu zu zA) (zC (by kernel_rfl)) ?_
 intro t l k c' k' hr h;obtain ⟨W,v,S,hrep⟩:=hr;have hb:=CVB.of_rep hrep;unfold zlX at h;split at h
 ·rename_i t2 l2 heq;cases heq;simp only [Option.some.injEq,Prod.mk.injEq] at h;obtain ⟨hc,rfl,rfl⟩:=h;obtain ⟨N,hN⟩:=zLv _ _ hb hc;exact ⟨zx2,N,12,(zNQ N _ _).trans hN⟩
 ·cases h
def zV:zEQ:=[(28,zlX)]++zZD
theorem zD:∀f run,zy zV f=some run->zet Tryz.prog f run:=zET zVu (by
 intro x hx;simp only [List.mem_cons,List.not_mem_nil,or_false] at hx;rcases hx with rfl
 ·exact zEA)
def zfH (l:List Int)(k:Int):Bool:=pc (mkL zyw zeT l k=l/\0<=k/\k+mcL zkj l<=mkB)
def zdj (l:List Int)(k:Int):Int:=enL zeT l k
def zoG:List AV->Option (Bool×List AV)
 | [.one (.s .int b),.one (.i .i64 c)]=>some ((zfH b c),[.one (.i .i64 (zdj b c))])
 | _=>none
def ztV (N:Nat)(a0:List Int)(a1:Int):Option Ans :=
 (iter (σ:=(Int×(Int×((List Int)×Unit)))) N (fun r3 s4=>(cond (ilt s4.2.1 (ln s4.2.2.1)) (cond (inb s4.2.1 (ln s4.2.2.1)) (cond (ine (ix s4.2.2.1 s4.2.1 0) s4.1) (some [(.one (.i .i64 (-1)))]) (r3 ((zq .i64 s4.1 1),((zq .i64 s4.2.1 1),(s4.2.2.1,()))))) none) (some [(.one (.i .i64 s4.1))]))) (a1,(0,(a0,()))))
def zKW:FuncId->Nat->Option Tmpl:=zB [(76,0,{ n:=21,tm:=[(0,.sl 0 []),(1,.i .i64),(5,.i .i64)],lo:=[],ro:=[(0,.int,false)] })]
theorem zOf (N:Nat)(a0:List Int)(a1:Int):evalFn (cQ zkh zV zK zO) zKW N 12 76 [.one (.s .int a0),.one (.i .i64 a1)]=ztV N a0 a1:=by kernel_rfl
theorem zJn (a0:List Int)(a1:Int)(hb:zG big [.one (.s .int a0),.one (.i .i64 a1)])(hc:(zfH a0 a1)=true):∃N,ztV N a0 a1=some [.one (.i .i64 (zdj a0 a1))]:=by
 obtain ⟨he,h0,h1⟩:=zI.1 hc;have hl:=((zbt hb).1 _ (List.mem_singleton.2 rfl)).len;refine ⟨NN,?_⟩;have hNN:∀{n:Nat},n<=big->n<NN:=fun h=>zb4 h;generalize NN=N at hNN ⊢;unfold ztV;exact zhg zew a0 _ (fun k=>some [AV.one (.i .i64 k)]) (fun i hi k rec he h0 h1=>by
  have hw:=zbd hi hl;have hix:∀d,ix a0 (i:Int) d=a0[i]:=fun d=>zbq hi d;generalize a0[i]=x at he h1 hix ⊢;simp only [zkj,mkB] at h1;rw [<- he] at hix;simp (disch:=omega) only [zbu hi,zbh hi,hix,zyw,hw,zeB,zhz,zb2,zcj,cT,cF];rfl
  ) (fun k rec=>by simp only [zbk,cF]) a1 N he h0 h1 (hNN hl)
theorem zGf:Holds Tryz.prog 76 zoG:=zo zfd zD zu zA (zC (by kernel_rfl)) fun avs rs hb h=>by
 unfold zoG at h;split at h
 ·obtain ⟨hc,rfl⟩:=zl h;exact (fin2 zJn zOf hc hb :)
 ·cases h
def zgV (l:List Bool)(k:Int):Bool:=pc (mkL zvp zcm l k=l/\0<=k/\k+mcL zi1 l<=mkB)
def zcB (l:List Bool)(k:Int):Int:=enL zcm l k
def znb:List AV->Option (Bool×List AV)
 | [.one (.s .bool b),.one (.i .i64 c)]=>some ((zgV b c),[.one (.i .i64 (zcB b c))])
 | _=>none
def zpW (N:Nat)(a0:List Bool)(a1:Int):Option Ans :=
 (iter (σ:=(Int×(Int×((List Bool)×Unit)))) N (fun r3 s4=>(cond (ilt s4.2.1 (ln s4.2.2.1)) (cond (inb s4.2.1 (ln s4.2.2.1)) (cond (ine 3 0) (cond (cond (zhr (ix s4.2.2.1 s4.2.1 false) (ieq (zfw s4.1 3) 0)) false true) (some [(.one (.i .i64 (-1)))]) (r3 ((zq .i64 s4.1 1),((zq .i64 s4.2.1 1),(s4.2.2.1,()))))) none) none) (some [(.one (.i .i64 s4.1))]))) (a1,(0,(a0,()))))
def zIC:FuncId->Nat->Option Tmpl:=zB [(78,0,{ n:=23,tm:=[(0,.sl 0 []),(1,.i .i64),(5,.i .i64)],lo:=[],ro:=[(0,.bool,false)] })]
theorem zJW (N:Nat)(a0:List Bool)(a1:Int):evalFn (cQ zkh zV zK zO) zIC N 12 78 [.one (.s .bool a0),.one (.i .i64 a1)]=zpW N a0 a1:=by kernel_rfl
theorem zIM (a0:List Bool)(a1:Int)(hb:zG big [.one (.s .bool a0),.one (.i .i64 a1)])(hc:(zgV a0 a1)=true):∃N,zpW N a0 a1=some [.one (.i .i64 (zcB a0 a1))]:=by
 obtain ⟨he,h0,h1⟩:=zI.1 hc;have hl:=((zbt hb).1 _ (List.mem_singleton.2 rfl)).len;refine ⟨NN,?_⟩;have hNN:∀{n:Nat},n<=big->n<NN:=fun h=>zb4 h;generalize NN=N at hNN ⊢;unfold zpW;exact zhg zee a0 _ (fun k=>some [AV.one (.i .i64 k)]) (fun i hi k rec he h0 h1=>by
  have hw:=zbd hi hl;have hix:∀d,ix a0 (i:Int) d=a0[i]:=fun d=>zbq hi d;generalize a0[i]=x at he h1 hix ⊢;simp only [zi1,mkB] at h1;rw [<- he] at hix;simp (disch:=omega) only [zbu hi,zbh hi,hix,zvp,hw,zeB,zhz,zb2,zcj,cT,cF];rfl
  ) (fun k rec=>by simp only [zbk,cF]) a1 N he h0 h1 (hNN hl)
theorem zDl:Holds Tryz.prog 78 znb:=zo zfd zD zu zA (zC (by kernel_rfl)) fun avs rs hb h=>by
 unfold znb at h;split at h
 ·obtain ⟨hc,rfl⟩:=zl h;exact (fin2 zIM zJW hc hb :)
 ·cases h
def zd2 (l:List Slot)(k:Int):Bool:=pc (mkL zmg zbc l k=l/\0<=k/\k+mcL zf4 l<=mkB)
def zbi (l:List Slot)(k:Int):Int:=enL zbc l k
def zmA:List AV->Option (Bool×List AV)
 | [.one (.s .slot b),.one (.i .i64 c)]=>some ((zd2 b c),[.one (.i .i64 (zbi b c))])
 | _=>none
def zpZ (N:Nat)(a0:List Slot)(a1:Int):Option Ans :=
 (iter (σ:=(Int×(Int×((List Slot)×Unit)))) N (fun r3 s4=>(cond (ilt s4.2.1 (ln s4.2.2.1)) (cond (inb s4.2.1 (ln s4.2.2.1)) (cond (ine (ix s4.2.2.1 s4.2.1 zQ).Page s4.1) (some [(.one (.i .i64 (-1)))]) (cond (inb s4.2.1 (ln s4.2.2.1)) (cond (ine (ix s4.2.2.1 s4.2.1 zQ).Rights (zq .i64 s4.1 1)) (some [(.one (.i .i64 (-1)))]) (r3 ((zq .i64 (zq .i64 s4.1 1) 1),((zq .i64 s4.2.1 1),(s4.2.2.1,()))))) none)) none) (some [(.one (.i .i64 s4.1))]))) (a1,(0,(a0,()))))
def zGA:FuncId->Nat->Option Tmpl:=zB [(77,0,{ n:=31,tm:=[(0,.sl 0 []),(1,.i .i64),(5,.i .i64)],lo:=[],ro:=[(0,.slot,false)] })]
theorem zLc (N:Nat)(a0:List Slot)(a1:Int):evalFn (cQ zkh zV zK zO) zGA N 12 77 [.one (.s .slot a0),.one (.i .i64 a1)]=zpZ N a0 a1:=by kernel_rfl
theorem zHU (a0:List Slot)(a1:Int)(hb:zG big [.one (.s .slot a0),.one (.i .i64 a1)])(hc:(zd2 a0 a1)=true):∃N,zpZ N a0 a1=some [.one (.i .i64 (zbi a0 a1))]:=by
 obtain ⟨he,h0,h1⟩:=zI.1 hc;have hl:=((zbt hb).1 _ (List.mem_singleton.2 rfl)).len;refine ⟨NN,?_⟩;have hNN:∀{n:Nat},n<=big->n<NN:=fun h=>zb4 h;generalize NN=N at hNN ⊢;unfold zpZ;exact zhg zcv a0 _ (fun k=>some [AV.one (.i .i64 k)]) (fun i hi k rec he h0 h1=>by
  have hw:=zbd hi hl;have hix:∀d,ix a0 (i:Int) d=a0[i]:=fun d=>zbq hi d;generalize a0[i]=x at he h1 hix ⊢;simp only [zf4,mkB] at h1;have v_Page:x.Page=k:=(congrArg (fun (z:Slot)=>z.Page) he).symm;have v_Rights:x.Rights=k+1:=(congrArg (fun (z:Slot)=>z.Rights) he).symm;simp (disch:=omega) only [zbu hi,zbh hi,hix,hw,v_Page,v_Rights,zeB,zhz,zb2,zcj,cT,cF];rfl
  ) (fun k rec=>by simp only [zbk,cF]) a1 N he h0 h1 (hNN hl)
theorem zDd:Holds Tryz.prog 77 zmA:=zo zfd zD zu zA (zC (by kernel_rfl)) fun avs rs hb h=>by
 unfold zmA at h;split at h
 ·obtain ⟨hc,rfl⟩:=zl h;exact (fin2 zHU zLc hc hb :)
 ·cases h
def zm4 (l:List Ins)(k:Int):Bool:=pc (mkL zQQ zcE l k=l/\0<=k/\k+mcL zod l<=mkB)
def zcu (l:List Ins)(k:Int):Int:=enL zcE l k
def znM:List AV->Option (Bool×List AV)
 | [.one (.s .ins b),.one (.i .i64 c)]=>some ((zm4 b c),[.one (.i .i64 (zcu b c))])
 | _=>none
def zsV (N:Nat)(a0:List Ins)(a1:Int):Option Ans :=
 (iter (σ:=(Int×(Int×((List Ins)×Unit)))) N (fun r3 s4=>(cond (ilt s4.2.1 (ln s4.2.2.1)) (cond (inb s4.2.1 (ln s4.2.2.1)) (cond (ine (ix s4.2.2.1 s4.2.1 zfj).Op s4.1) (some [(.one (.i .i64 (-1)))]) (cond (inb s4.2.1 (ln s4.2.2.1)) (cond (ine (ix s4.2.2.1 s4.2.1 zfj).X (zq .i64 s4.1 1)) (some [(.one (.i .i64 (-1)))]) (r3 ((zq .i64 (zq .i64 s4.1 1) 1),((zq .i64 s4.2.1 1),(s4.2.2.1,()))))) none)) none) (some [(.one (.i .i64 s4.1))]))) (a1,(0,(a0,()))))
def zLS:FuncId->Nat->Option Tmpl:=zB [(148,0,{ n:=31,tm:=[(0,.sl 0 []),(1,.i .i64),(5,.i .i64)],lo:=[],ro:=[(0,.ins,false)] })]
theorem zNT (N:Nat)(a0:List Ins)(a1:Int):evalFn (cQ zkh zV zK zO) zLS N 12 148 [.one (.s .ins a0),.one (.i .i64 a1)]=zsV N a0 a1:=by kernel_rfl
theorem zLr (a0:List Ins)(a1:Int)(hb:zG big [.one (.s .ins a0),.one (.i .i64 a1)])(hc:(zm4 a0 a1)=true):∃N,zsV N a0 a1=some [.one (.i .i64 (zcu a0 a1))]:=by
 obtain ⟨he,h0,h1⟩:=zI.1 hc;have hl:=((zbt hb).1 _ (List.mem_singleton.2 rfl)).len;refine ⟨NN,?_⟩;have hNN:∀{n:Nat},n<=big->n<NN:=fun h=>zb4 h;generalize NN=N at hNN ⊢;unfold zsV;exact zhg zk1 a0 _ (fun k=>some [AV.one (.i .i64 k)]) (fun i hi k rec he h0 h1=>by
  have hw:=zbd hi hl;have hix:∀d,ix a0 (i:Int) d=a0[i]:=fun d=>zbq hi d;generalize a0[i]=x at he h1 hix ⊢;simp only [zod,mkB] at h1;have v_Op:x.Op=k:=(congrArg (fun (z:Ins)=>z.Op) he).symm;have v_X:x.X=k+1:=(congrArg (fun (z:Ins)=>z.X) he).symm;simp (disch:=omega) only [zbu hi,zbh hi,hix,hw,v_Op,v_X,zeB,zhz,zb2,zcj,cT,cF];rfl
  ) (fun k rec=>by simp only [zbk,cF]) a1 N he h0 h1 (hNN hl)
theorem zEy:Holds Tryz.prog 148 znM:=zo zfd zD zu zA (zC (by kernel_rfl)) fun avs rs hb h=>by
 unfold znM at h;split at h
 ·obtain ⟨hc,rfl⟩:=zl h;exact (fin2 zLr zNT hc hb :)
 ·cases h
def zgn (l:List Entry)(k:Int):Bool:=pc (mkL zRg zxR l k=l/\0<=k/\k+mcL zgy l<=mkB)
def zcJ (l:List Entry)(k:Int):Int:=enL zxR l k
def zk9:List AV->Option (Bool×List AV)
 | [.one (.s .entry b),.one (.i .i64 c)]=>some ((zgn b c),[.one (.i .i64 (zcJ b c))])
 | _=>none
def zn0 (N:Nat)(a0:List Entry)(a1:Int):Option Ans :=
 (iter (σ:=(Int×(Int×((List Entry)×Unit)))) N (fun r3 s4=>(cond (ilt s4.2.1 (ln s4.2.2.1)) (cond (inb s4.2.1 (ln s4.2.2.1)) (cond (ine (ix s4.2.2.1 s4.2.1 zby).Tag s4.1) (some [(.one (.i .i64 (-1)))]) (cond (inb s4.2.1 (ln s4.2.2.1)) (cond (ine (ix s4.2.2.1 s4.2.1 zby).Page (zq .i64 s4.1 1)) (some [(.one (.i .i64 (-1)))]) (cond (inb s4.2.1 (ln s4.2.2.1)) (cond (ine (ix s4.2.2.1 s4.2.1 zby).Host (zq .i64 (zq .i64 s4.1 1) 1)) (some [(.one (.i .i64 (-1)))]) (cond (inb s4.2.1 (ln s4.2.2.1)) (cond (ine (ix s4.2.2.1 s4.2.1 zby).Rights (zq .i64 (zq .i64 (zq .i64 s4.1 1) 1) 1)) (some [(.one (.i .i64 (-1)))]) (r3 ((zq .i64 (zq .i64 (zq .i64 (zq .i64 s4.1 1) 1) 1) 1),((zq .i64 s4.2.1 1),(s4.2.2.1,()))))) none)) none)) none)) none) (some [(.one (.i .i64 s4.1))]))) (a1,(0,(a0,()))))
def zF2:FuncId->Nat->Option Tmpl:=zB [(32,0,{ n:=49,tm:=[(0,.sl 0 []),(1,.i .i64),(5,.i .i64)],lo:=[],ro:=[(0,.entry,false)] })]
theorem zId (N:Nat)(a0:List Entry)(a1:Int):evalFn (cQ zkh zV zK zO) zF2 N 12 32 [.one (.s .entry a0),.one (.i .i64 a1)]=zn0 N a0 a1:=by kernel_rfl
theorem zE6 (a0:List Entry)(a1:Int)(hb:zG big [.one (.s .entry a0),.one (.i .i64 a1)])(hc:(zgn a0 a1)=true):∃N,zn0 N a0 a1=some [.one (.i .i64 (zcJ a0 a1))]:=by
 obtain ⟨he,h0,h1⟩:=zI.1 hc;have hl:=((zbt hb).1 _ (List.mem_singleton.2 rfl)).len;refine ⟨NN,?_⟩;have hNN:∀{n:Nat},n<=big->n<NN:=fun h=>zb4 h;generalize NN=N at hNN ⊢;unfold zn0;exact zhg ziP a0 _ (fun k=>some [AV.one (.i .i64 k)]) (fun i hi k rec he h0 h1=>by
  have hw:=zbd hi hl;have hix:∀d,ix a0 (i:Int) d=a0[i]:=fun d=>zbq hi d;generalize a0[i]=x at he h1 hix ⊢;simp only [zgy,mkB] at h1;have v_Tag:x.Tag=k:=(congrArg (fun (z:Entry)=>z.Tag) he).symm;have v_Page:x.Page=k+1:=(congrArg (fun (z:Entry)=>z.Page) he).symm;have v_Host:x.Host=k+1+1:=(congrArg (fun (z:Entry)=>z.Host) he).symm;have v_Rights:x.Rights=k+1+1+1:=(congrArg (fun (z:Entry)=>z.Rights) he).symm;simp (disch:=omega) only [zbu hi,zbh hi,hix,hw,v_Tag,v_Page,v_Host,v_Rights,zeB,zhz,zb2,zcj,cT,cF];rfl
  ) (fun k rec=>by simp only [zbk,cF]) a1 N he h0 h1 (hNN hl)
theorem zBy:Holds Tryz.prog 32 zk9:=zo zfd zD zu zA (zC (by kernel_rfl)) fun avs rs hb h=>by
 unfold zk9 at h;split at h
 ·obtain ⟨hc,rfl⟩:=zl h;exact (fin2 zE6 zId hc hb :)
 ·cases h
def zHJ:zbP:=[(76,zoG),(78,znb),(77,zmA),(148,znM),(32,zk9)]++zkh
theorem zzt:zbv zHJ:=zn zGf (zn zDl (zn zDd (zn zEy (zn zBy zfd))))
def zgM (l:List (List Int))(k:Int):Bool:=pc (mkL zHt zcC l k=l/\0<=k/\k+mcL zh8 l<=mkB)
def zbM (l:List (List Int))(k:Int):Int:=enL zcC l k
def zmO:List AV->Option (Bool×List AV)
 | [.one (.s (.sl .int) b),.one (.i .i64 c)]=>some ((zgM b c),[.one (.i .i64 (zbM b c))])
 | _=>none
def zqB (N:Nat)(a0:List (List Int))(a1:Int):Option Ans :=
 (iter (σ:=(Int×(Int×((List (List Int))×Unit)))) N (fun r3 s4=>(cond (ilt s4.2.1 (ln s4.2.2.1)) (cond (inb s4.2.1 (ln s4.2.2.1)) (cond (zfH (ix s4.2.2.1 s4.2.1 []) s4.1) (cond (ilt (zdj (ix s4.2.2.1 s4.2.1 []) s4.1) 0) (some [(.one (.i .i64 (-1)))]) (r3 ((zdj (ix s4.2.2.1 s4.2.1 []) s4.1),((zq .i64 s4.2.1 1),(s4.2.2.1,()))))) none) none) (some [(.one (.i .i64 s4.1))]))) (a1,(0,(a0,()))))
def zHe:FuncId->Nat->Option Tmpl:=zB [(30,0,{ n:=21,tm:=[(0,.sl 0 []),(1,.i .i64),(5,.i .i64)],lo:=[],ro:=[(0,(.sl .int),false)] })]
theorem zKf (N:Nat)(a0:List (List Int))(a1:Int):evalFn (cQ zHJ zV zK zO) zHe N 12 30 [.one (.s (.sl .int) a0),.one (.i .i64 a1)]=zqB N a0 a1:=by kernel_rfl
theorem zGY (a0:List (List Int))(a1:Int)(hb:zG big [.one (.s (.sl .int) a0),.one (.i .i64 a1)])(hc:(zgM a0 a1)=true):∃N,zqB N a0 a1=some [.one (.i .i64 (zbM a0 a1))]:=by
 obtain ⟨he,h0,h1⟩:=zI.1 hc;have hl:=((zbt hb).1 _ (List.mem_singleton.2 rfl)).len;refine ⟨NN,?_⟩;have hNN:∀{n:Nat},n<=big->n<NN:=fun h=>zb4 h;generalize NN=N at hNN ⊢;unfold zqB;exact zhg zfZ a0 _ (fun k=>some [AV.one (.i .i64 k)]) (fun i hi k rec he h0 h1=>by
  have hw:=zbd hi hl;have hix:∀d,ix a0 (i:Int) d=a0[i]:=fun d=>zbq hi d;generalize a0[i]=x at he h1 hix ⊢;have c1:zfH x k=true:=zU ⟨he,h0,h1⟩;have c2:ilt (enL zeT x k) 0=false:=zeC (by rw [zbO zew.nx];have:=zb0 zew.nn x;omega)
  simp only [zbu hi,zbh hi,hix,c1,zdj,c2,hw,cT,cF];rfl
  ) (fun k rec=>by simp only [zbk,cF]) a1 N he h0 h1 (hNN hl)
theorem zDW:Holds Tryz.prog 30 zmO:=zo zzt zD zu zA (zC (by kernel_rfl)) fun avs rs hb h=>by
 unfold zmO at h;split at h
 ·obtain ⟨hc,rfl⟩:=zl h;exact (fin2 zGY zKf hc hb :)
 ·cases h
def zkV (l:List Kept)(k:Int):Bool:=pc (mkL zzR zjZ l k=l/\0<=k/\k+mcL zhc l<=mkB)
def ziF (l:List Kept)(k:Int):Int:=enL zjZ l k
def zmW:List AV->Option (Bool×List AV)
 | [.one (.s .kept b),.one (.i .i64 c)]=>some ((zkV b c),[.one (.i .i64 (ziF b c))])
 | _=>none
def zqa (N:Nat)(a0:List Kept)(a1:Int):Option Ans :=
 (iter (σ:=(Int×(Int×((List Kept)×Unit)))) N (fun r3 s4=>(cond (ilt s4.2.1 (ln s4.2.2.1)) (cond (inb s4.2.1 (ln s4.2.2.1)) (cond (zgV (ix s4.2.2.1 s4.2.1 zbB).Known s4.1) (cond (ilt (zcB (ix s4.2.2.1 s4.2.1 zbB).Known s4.1) 0) (some [(.one (.i .i64 (-1)))]) (cond (inb s4.2.1 (ln s4.2.2.1)) (cond (zd2 (ix s4.2.2.1 s4.2.1 zbB).Slots (zcB (ix s4.2.2.1 s4.2.1 zbB).Known s4.1)) (cond (ilt (zbi (ix s4.2.2.1 s4.2.1 zbB).Slots (zcB (ix s4.2.2.1 s4.2.1 zbB).Known s4.1)) 0) (some [(.one (.i .i64 (-1)))]) (r3 ((zbi (ix s4.2.2.1 s4.2.1 zbB).Slots (zcB (ix s4.2.2.1 s4.2.1 zbB).Known s4.1)),((zq .i64 s4.2.1 1),(s4.2.2.1,()))))) none) none)) none) none) (some [(.one (.i .i64 s4.1))]))) (a1,(0,(a0,()))))
def zGL:FuncId->Nat->Option Tmpl:=zB [(80,0,{ n:=31,tm:=[(0,.sl 0 []),(1,.i .i64),(5,.i .i64)],lo:=[],ro:=[(0,.kept,false)] })]
theorem zLx (N:Nat)(a0:List Kept)(a1:Int):evalFn (cQ zHJ zV zK zO) zGL N 12 80 [.one (.s .kept a0),.one (.i .i64 a1)]=zqa N a0 a1:=by kernel_rfl
theorem zH8 (a0:List Kept)(a1:Int)(hb:zG big [.one (.s .kept a0),.one (.i .i64 a1)])(hc:(zkV a0 a1)=true):∃N,zqa N a0 a1=some [.one (.i .i64 (ziF a0 a1))]:=by
 obtain ⟨he,h0,h1⟩:=zI.1 hc;have hl:=((zbt hb).1 _ (List.mem_singleton.2 rfl)).len;refine ⟨NN,?_⟩;have hNN:∀{n:Nat},n<=big->n<NN:=fun h=>zb4 h;generalize NN=N at hNN ⊢;unfold zqa;exact zhg zis a0 _ (fun k=>some [AV.one (.i .i64 k)]) (fun i hi k rec he h0 h1=>by
  have hw:=zbd hi hl;have hix:∀d,ix a0 (i:Int) d=a0[i]:=fun d=>zbq hi d;generalize a0[i]=x at he h1 hix ⊢;simp only [zhc,mkB] at h1;have hn0:=zb0 zee.nn x.Known;have hn1:=zb0 zcv.nn x.Slots;have he0:=zbO zee.nx x.Known (k);have he1:=zbO zcv.nx x.Slots (enL zcm x.Known (k));have w0:mkL zvp zcm x.Known (k)=x.Known:=congrArg (fun (z:Kept)=>z.Known) he;have w1:mkL zmg zbc x.Slots (enL zcm x.Known (k))=x.Slots:=congrArg (fun (z:Kept)=>z.Slots) he;have c0:zgV x.Known (k)=true:=zU ⟨w0,by omega,by unfold mkB;omega⟩
  have d0:ilt (enL zcm x.Known (k)) 0=false:=zeC (by omega)
  have c1:zd2 x.Slots (enL zcm x.Known (k))=true:=zU ⟨w1,by omega,by unfold mkB;omega⟩
  have d1:ilt (enL zbc x.Slots (enL zcm x.Known (k))) 0=false:=zeC (by omega)
  simp (disch:=omega) only [zbu hi,zbh hi,hix,hw,c0,d0,zcB,c1,d1,zbi,zeB,zhz,zb2,zcj,cT,cF];rfl
  ) (fun k rec=>by simp only [zbk,cF]) a1 N he h0 h1 (hNN hl)
theorem zDK:Holds Tryz.prog 80 zmW:=zo zzt zD zu zA (zC (by kernel_rfl)) fun avs rs hb h=>by
 unfold zmW at h;split at h
 ·obtain ⟨hc,rfl⟩:=zl h;exact (fin2 zH8 zLx hc hb :)
 ·cases h
def zj3 (l:List Guest)(k:Int):Bool:=pc (mkL zua zcO l k=l/\0<=k/\k+mcL zfB l<=mkB)
def zdB (l:List Guest)(k:Int):Int:=enL zcO l k
def zlb:List AV->Option (Bool×List AV)
 | [.one (.s .guest b),.one (.i .i64 c)]=>some ((zj3 b c),[.one (.i .i64 (zdB b c))])
 | _=>none
def zoj (N:Nat)(a0:List Guest)(a1:Int):Option Ans :=
 (iter (σ:=(Int×(Int×((List Guest)×Unit)))) N (fun r3 s4=>(cond (ilt s4.2.1 (ln s4.2.2.1)) (cond (inb s4.2.1 (ln s4.2.2.1)) (cond (zm4 (ix s4.2.2.1 s4.2.1 zi).Prog s4.1) (cond (ilt (zcu (ix s4.2.2.1 s4.2.1 zi).Prog s4.1) 0) (some [(.one (.i .i64 (-1)))]) (cond (inb s4.2.1 (ln s4.2.2.1)) (cond (ine (ix s4.2.2.1 s4.2.1 zi).A (zcu (ix s4.2.2.1 s4.2.1 zi).Prog s4.1)) (some [(.one (.i .i64 (-1)))]) (cond (inb s4.2.1 (ln s4.2.2.1)) (cond (ine (ix s4.2.2.1 s4.2.1 zi).Pc (zq .i64 (zcu (ix s4.2.2.1 s4.2.1 zi).Prog s4.1) 1)) (some [(.one (.i .i64 (-1)))]) (cond (inb s4.2.1 (ln s4.2.2.1)) (cond (zd2 (ix s4.2.2.1 s4.2.1 zi).Written (zq .i64 (zq .i64 (zcu (ix s4.2.2.1 s4.2.1 zi).Prog s4.1) 1) 1)) (cond (ilt (zbi (ix s4.2.2.1 s4.2.1 zi).Written (zq .i64 (zq .i64 (zcu (ix s4.2.2.1 s4.2.1 zi).Prog s4.1) 1) 1)) 0) (some [(.one (.i .i64 (-1)))]) (cond (inb s4.2.1 (ln s4.2.2.1)) (cond (zd2 (ix s4.2.2.1 s4.2.1 zi).Live (zbi (ix s4.2.2.1 s4.2.1 zi).Written (zq .i64 (zq .i64 (zcu (ix s4.2.2.1 s4.2.1 zi).Prog s4.1) 1) 1))) (cond (ilt (zbi (ix s4.2.2.1 s4.2.1 zi).Live (zbi (ix s4.2.2.1 s4.2.1 zi).Written (zq .i64 (zq .i64 (zcu (ix s4.2.2.1 s4.2.1 zi).Prog s4.1) 1) 1))) 0) (some [(.one (.i .i64 (-1)))]) (cond (inb s4.2.1 (ln s4.2.2.1)) (cond (ine (ix s4.2.2.1 s4.2.1 zi).Ctl.Traps (zbi (ix s4.2.2.1 s4.2.1 zi).Live (zbi (ix s4.2.2.1 s4.2.1 zi).Written (zq .i64 (zq .i64 (zcu (ix s4.2.2.1 s4.2.1 zi).Prog s4.1) 1) 1)))) (some [(.one (.i .i64 (-1)))]) (cond (inb s4.2.1 (ln s4.2.2.1)) (cond (ine (ix s4.2.2.1 s4.2.1 zi).Ctl.Post (zq .i64 (zbi (ix s4.2.2.1 s4.2.1 zi).Live (zbi (ix s4.2.2.1 s4.2.1 zi).Written (zq .i64 (zq .i64 (zcu (ix s4.2.2.1 s4.2.1 zi).Prog s4.1) 1) 1))) 1)) (some [(.one (.i .i64 (-1)))]) (cond (inb s4.2.1 (ln s4.2.2.1)) (cond (ine 3 0) (cond (cond (zhr (ix s4.2.2.1 s4.2.1 zi).Ctl.Open (ieq (zfw (zq .i64 (zq .i64 (zbi (ix s4.2.2.1 s4.2.1 zi).Live (zbi (ix s4.2.2.1 s4.2.1 zi).Written (zq .i64 (zq .i64 (zcu (ix s4.2.2.1 s4.2.1 zi).Prog s4.1) 1) 1))) 1) 1) 3) 0)) false true) (some [(.one (.i .i64 (-1)))]) (cond (inb s4.2.1 (ln s4.2.2.1)) (cond (ine (ix s4.2.2.1 s4.2.1 zi).Pending (zq .i64 (zq .i64 (zq .i64 (zbi (ix s4.2.2.1 s4.2.1 zi).Live (zbi (ix s4.2.2.1 s4.2.1 zi).Written (zq .i64 (zq .i64 (zcu (ix s4.2.2.1 s4.2.1 zi).Prog s4.1) 1) 1))) 1) 1) 1)) (some [(.one (.i .i64 (-1)))]) (cond (inb s4.2.1 (ln s4.2.2.1)) (cond (ine (ix s4.2.2.1 s4.2.1 zi).Exit.Kind (zq .i64 (zq .i64 (zq .i64 (zq .i64 (zbi (ix s4.2.2.1 s4.2.1 zi).Live (zbi (ix s4.2.2.1 s4.2.1 zi).Written (zq .i64 (zq .i64 (zcu (ix s4.2.2.1 s4.2.1 zi).Prog s4.1) 1) 1))) 1) 1) 1) 1)) (some [(.one (.i .i64 (-1)))]) (cond (inb s4.2.1 (ln s4.2.2.1)) (cond (ine (ix s4.2.2.1 s4.2.1 zi).Exit.Page (zq .i64 (zq .i64 (zq .i64 (zq .i64 (zq .i64 (zbi (ix s4.2.2.1 s4.2.1 zi).Live (zbi (ix s4.2.2.1 s4.2.1 zi).Written (zq .i64 (zq .i64 (zcu (ix s4.2.2.1 s4.2.1 zi).Prog s4.1) 1) 1))) 1) 1) 1) 1) 1)) (some [(.one (.i .i64 (-1)))]) (cond (inb s4.2.1 (ln s4.2.2.1)) (cond (ine 3 0) (cond (cond (zhr (ix s4.2.2.1 s4.2.1 zi).Exit.Write (ieq (zfw (zq .i64 (zq .i64 (zq .i64 (zq .i64 (zq .i64 (zq .i64 (zbi (ix s4.2.2.1 s4.2.1 zi).Live (zbi (ix s4.2.2.1 s4.2.1 zi).Written (zq .i64 (zq .i64 (zcu (ix s4.2.2.1 s4.2.1 zi).Prog s4.1) 1) 1))) 1) 1) 1) 1) 1) 1) 3) 0)) false true) (some [(.one (.i .i64 (-1)))]) (cond (inb s4.2.1 (ln s4.2.2.1)) (cond (ine (ix s4.2.2.1 s4.2.1 zi).Exit.N (zq .i64 (zq .i64 (zq .i64 (zq .i64 (zq .i64 (zq .i64 (zq .i64 (zbi (ix s4.2.2.1 s4.2.1 zi).Live (zbi (ix s4.2.2.1 s4.2.1 zi).Written (zq .i64 (zq .i64 (zcu (ix s4.2.2.1 s4.2.1 zi).Prog s4.1) 1) 1))) 1) 1) 1) 1) 1) 1) 1)) (some [(.one (.i .i64 (-1)))]) (cond (inb s4.2.1 (ln s4.2.2.1)) (cond (ine 3 0) (cond (cond (zhr (ix s4.2.2.1 s4.2.1 zi).Halted (ieq (zfw (zq .i64 (zq .i64 (zq .i64 (zq .i64 (zq .i64 (zq .i64 (zq .i64 (zq .i64 (zbi (ix s4.2.2.1 s4.2.1 zi).Live (zbi (ix s4.2.2.1 s4.2.1 zi).Written (zq .i64 (zq .i64 (zcu (ix s4.2.2.1 s4.2.1 zi).Prog s4.1) 1) 1))) 1) 1) 1) 1) 1) 1) 1) 1) 3) 0)) false true) (some [(.one (.i .i64 (-1)))]) (cond (inb s4.2.1 (ln s4.2.2.1)) (cond (zfH (ix s4.2.2.1 s4.2.1 zi).Seen (zq .i64 (zq .i64 (zq .i64 (zq .i64 (zq .i64 (zq .i64 (zq .i64 (zq .i64 (zq .i64 (zbi (ix s4.2.2.1 s4.2.1 zi).Live (zbi (ix s4.2.2.1 s4.2.1 zi).Written (zq .i64 (zq .i64 (zcu (ix s4.2.2.1 s4.2.1 zi).Prog s4.1) 1) 1))) 1) 1) 1) 1) 1) 1) 1) 1) 1)) (cond (ilt (zdj (ix s4.2.2.1 s4.2.1 zi).Seen (zq .i64 (zq .i64 (zq .i64 (zq .i64 (zq .i64 (zq .i64 (zq .i64 (zq .i64 (zq .i64 (zbi (ix s4.2.2.1 s4.2.1 zi).Live (zbi (ix s4.2.2.1 s4.2.1 zi).Written (zq .i64 (zq .i64 (zcu (ix s4.2.2.1 s4.2.1 zi).Prog s4.1) 1) 1))) 1) 1) 1) 1) 1) 1) 1) 1) 1)) 0) (some [(.one (.i .i64 (-1)))]) (r3 ((zdj (ix s4.2.2.1 s4.2.1 zi).Seen (zq .i64 (zq .i64 (zq .i64 (zq .i64 (zq .i64 (zq .i64 (zq .i64 (zq .i64 (zq .i64 (zbi (ix s4.2.2.1 s4.2.1 zi).Live (zbi (ix s4.2.2.1 s4.2.1 zi).Written (zq .i64 (zq .i64 (zcu (ix s4.2.2.1 s4.2.1 zi).Prog s4.1) 1) 1))) 1) 1) 1) 1) 1) 1) 1) 1) 1)),((zq .i64 s4.2.1 1),(s4.2.2.1,()))))) none) none)) none) none)) none)) none) none)) none)) none)) none)) none) none)) none)) none)) none) none)) none) none)) none)) none)) none) none) (some [(.one (.i .i64 s4.1))]))) (a1,(0,(a0,()))))
def zEC:FuncId->Nat->Option Tmpl:=zB [(79,0,{ n:=161,tm:=[(0,.sl 0 []),(1,.i .i64),(5,.i .i64)],lo:=[],ro:=[(0,.guest,false)] })]
theorem zHf (N:Nat)(a0:List Guest)(a1:Int):evalFn (cQ zHJ zV zK zO) zEC N 12 79 [.one (.s .guest a0),.one (.i .i64 a1)]=zoj N a0 a1:=by kernel_rfl
theorem zFO (a0:List Guest)(a1:Int)(hb:zG big [.one (.s .guest a0),.one (.i .i64 a1)])(hc:(zj3 a0 a1)=true):∃N,zoj N a0 a1=some [.one (.i .i64 (zdB a0 a1))]:=by
 obtain ⟨he,h0,h1⟩:=zI.1 hc;have hl:=((zbt hb).1 _ (List.mem_singleton.2 rfl)).len;refine ⟨NN,?_⟩;have hNN:∀{n:Nat},n<=big->n<NN:=fun h=>zb4 h;generalize NN=N at hNN ⊢;unfold zoj;exact zhg zgS a0 _ (fun k=>some [AV.one (.i .i64 k)]) (fun i hi k rec he h0 h1=>by
  have hw:=zbd hi hl;have hix:∀d,ix a0 (i:Int) d=a0[i]:=fun d=>zbq hi d;generalize a0[i]=x at he h1 hix ⊢;simp only [zfB,mkB] at h1;have hn0:=zb0 zk1.nn x.Prog;have hn1:=zb0 zcv.nn x.Written;have hn2:=zb0 zcv.nn x.Live;have hn3:=zb0 zew.nn x.Seen;have he0:=zbO zk1.nx x.Prog (k);have he1:=zbO zcv.nx x.Written (enL zcE x.Prog (k)+1+1);have he2:=zbO zcv.nx x.Live (enL zbc x.Written (enL zcE x.Prog (k)+1+1));have he3:=zbO zew.nx x.Seen (enL zbc x.Live (enL zbc x.Written (enL zcE x.Prog (k)+1+1))+1+1+1+1+1+1+1+1+1);have w0:mkL zQQ zcE x.Prog (k)=x.Prog:=congrArg (fun (z:Guest)=>z.Prog) he;have v_A:x.A=enL zcE x.Prog (k):=(congrArg (fun (z:Guest)=>z.A) he).symm;have v_Pc:x.Pc=enL zcE x.Prog (k)+1:=(congrArg (fun (z:Guest)=>z.Pc) he).symm;have w1:mkL zmg zbc x.Written (enL zcE x.Prog (k)+1+1)=x.Written:=congrArg (fun (z:Guest)=>z.Written) he;have w2:mkL zmg zbc x.Live (enL zbc x.Written (enL zcE x.Prog (k)+1+1))=x.Live:=congrArg (fun (z:Guest)=>z.Live) he;have v_Ctl_Traps:x.Ctl.Traps=enL zbc x.Live (enL zbc x.Written (enL zcE x.Prog (k)+1+1)):=(congrArg (fun (z:Guest)=>z.Ctl.Traps) he).symm;have v_Ctl_Post:x.Ctl.Post=enL zbc x.Live (enL zbc x.Written (enL zcE x.Prog (k)+1+1))+1:=(congrArg (fun (z:Guest)=>z.Ctl.Post) he).symm;have v_Ctl_Open:x.Ctl.Open=ieq (zfw (enL zbc x.Live (enL zbc x.Written (enL zcE x.Prog (k)+1+1))+1+1) 3) 0:=(congrArg (fun (z:Guest)=>z.Ctl.Open) he).symm;have v_Pending:x.Pending=enL zbc x.Live (enL zbc x.Written (enL zcE x.Prog (k)+1+1))+1+1+1:=(congrArg (fun (z:Guest)=>z.Pending) he).symm;have v_Exit_Kind:x.Exit.Kind=enL zbc x.Live (enL zbc x.Written (enL zcE x.Prog (k)+1+1))+1+1+1+1:=(congrArg (fun (z:Guest)=>z.Exit.Kind) he).symm;have v_Exit_Page:x.Exit.Page=enL zbc x.Live (enL zbc x.Written (enL zcE x.Prog (k)+1+1))+1+1+1+1+1:=(congrArg (fun (z:Guest)=>z.Exit.Page) he).symm;have v_Exit_Write:x.Exit.Write=ieq (zfw (enL zbc x.Live (enL zbc x.Written (enL zcE x.Prog (k)+1+1))+1+1+1+1+1+1) 3) 0:=(congrArg (fun (z:Guest)=>z.Exit.Write) he).symm;have v_Exit_N:x.Exit.N=enL zbc x.Live (enL zbc x.Written (enL zcE x.Prog (k)+1+1))+1+1+1+1+1+1+1:=(congrArg (fun (z:Guest)=>z.Exit.N) he).symm;have v_Halted:x.Halted=ieq (zfw (enL zbc x.Live (enL zbc x.Written (enL zcE x.Prog (k)+1+1))+1+1+1+1+1+1+1+1) 3) 0:=(congrArg (fun (z:Guest)=>z.Halted) he).symm;have w3:mkL zyw zeT x.Seen (enL zbc x.Live (enL zbc x.Written (enL zcE x.Prog (k)+1+1))+1+1+1+1+1+1+1+1+1)=x.Seen:=congrArg (fun (z:Guest)=>z.Seen) he;have c0:zm4 x.Prog (k)=true:=zU ⟨w0,by omega,by unfold mkB;omega⟩
  have d0:ilt (enL zcE x.Prog (k)) 0=false:=zeC (by omega)
  have c1:zd2 x.Written (enL zcE x.Prog (k)+1+1)=true:=zU ⟨w1,by omega,by unfold mkB;omega⟩
  have d1:ilt (enL zbc x.Written (enL zcE x.Prog (k)+1+1)) 0=false:=zeC (by omega)
  have c2:zd2 x.Live (enL zbc x.Written (enL zcE x.Prog (k)+1+1))=true:=zU ⟨w2,by omega,by unfold mkB;omega⟩
  have d2:ilt (enL zbc x.Live (enL zbc x.Written (enL zcE x.Prog (k)+1+1))) 0=false:=zeC (by omega)
  have c3:zfH x.Seen (enL zbc x.Live (enL zbc x.Written (enL zcE x.Prog (k)+1+1))+1+1+1+1+1+1+1+1+1)=true:=zU ⟨w3,by omega,by unfold mkB;omega⟩
  have d3:ilt (enL zeT x.Seen (enL zbc x.Live (enL zbc x.Written (enL zcE x.Prog (k)+1+1))+1+1+1+1+1+1+1+1+1)) 0=false:=zeC (by omega)
  simp (disch:=omega) only [zbu hi,zbh hi,hix,hw,v_A,v_Pc,v_Ctl_Traps,v_Ctl_Post,v_Ctl_Open,v_Pending,v_Exit_Kind,v_Exit_Page,v_Exit_Write,v_Exit_N,v_Halted,c0,d0,zcu,c1,d1,zbi,c2,d2,c3,d3,zdj,zeB,zhz,zb2,zcj,cT,cF];rfl
  ) (fun k rec=>by simp only [zbk,cF]) a1 N he h0 h1 (hNN hl)
theorem zBf:Holds Tryz.prog 79 zlb:=zo zzt zD zu zA (zC (by kernel_rfl)) fun avs rs hb h=>by
 unfold zlb at h;split at h
 ·obtain ⟨hc,rfl⟩:=zl h;exact (fin2 zFO zHf hc hb :)
 ·cases h
def zW0:zbP:=[(30,zmO),(80,zmW),(79,zlb)]++zHJ
theorem zRd:zbv zW0:=zn zDW (zn zDK (zn zBf zzt))
def zml (l:List Mon)(k:Int):Bool:=pc (mkL zPN zF9 l k=l/\0<=k/\k+mcL zjz l<=mkB)
def zdw (l:List Mon)(k:Int):Int:=enL zF9 l k
def znZ:List AV->Option (Bool×List AV)
 | [.one (.s .mon b),.one (.i .i64 c)]=>some ((zml b c),[.one (.i .i64 (zdw b c))])
 | _=>none
def zuN (N:Nat)(a0:List Mon)(a1:Int):Option Ans :=
 (iter (σ:=(Int×(Int×((List Mon)×Unit)))) N (fun r3 s4=>(cond (ilt s4.2.1 (ln s4.2.2.1)) (cond (inb s4.2.1 (ln s4.2.2.1)) (cond (zd2 (ix s4.2.2.1 s4.2.1 zf).Outer s4.1) (cond (ilt (zbi (ix s4.2.2.1 s4.2.1 zf).Outer s4.1) 0) (some [(.one (.i .i64 (-1)))]) (cond (inb s4.2.1 (ln s4.2.2.1)) (cond (zgM (ix s4.2.2.1 s4.2.1 zf).Out (zbi (ix s4.2.2.1 s4.2.1 zf).Outer s4.1)) (cond (ilt (zbM (ix s4.2.2.1 s4.2.1 zf).Out (zbi (ix s4.2.2.1 s4.2.1 zf).Outer s4.1)) 0) (some [(.one (.i .i64 (-1)))]) (cond (inb s4.2.1 (ln s4.2.2.1)) (cond (zgV (ix s4.2.2.1 s4.2.1 zf).Dirty (zbM (ix s4.2.2.1 s4.2.1 zf).Out (zbi (ix s4.2.2.1 s4.2.1 zf).Outer s4.1))) (cond (ilt (zcB (ix s4.2.2.1 s4.2.1 zf).Dirty (zbM (ix s4.2.2.1 s4.2.1 zf).Out (zbi (ix s4.2.2.1 s4.2.1 zf).Outer s4.1))) 0) (some [(.one (.i .i64 (-1)))]) (cond (inb s4.2.1 (ln s4.2.2.1)) (cond (zj3 (ix s4.2.2.1 s4.2.1 zf).Guests (zcB (ix s4.2.2.1 s4.2.1 zf).Dirty (zbM (ix s4.2.2.1 s4.2.1 zf).Out (zbi (ix s4.2.2.1 s4.2.1 zf).Outer s4.1)))) (cond (ilt (zdB (ix s4.2.2.1 s4.2.1 zf).Guests (zcB (ix s4.2.2.1 s4.2.1 zf).Dirty (zbM (ix s4.2.2.1 s4.2.1 zf).Out (zbi (ix s4.2.2.1 s4.2.1 zf).Outer s4.1)))) 0) (some [(.one (.i .i64 (-1)))]) (cond (inb s4.2.1 (ln s4.2.2.1)) (cond (zfH (ix s4.2.2.1 s4.2.1 zf).Outs (zdB (ix s4.2.2.1 s4.2.1 zf).Guests (zcB (ix s4.2.2.1 s4.2.1 zf).Dirty (zbM (ix s4.2.2.1 s4.2.1 zf).Out (zbi (ix s4.2.2.1 s4.2.1 zf).Outer s4.1))))) (cond (ilt (zdj (ix s4.2.2.1 s4.2.1 zf).Outs (zdB (ix s4.2.2.1 s4.2.1 zf).Guests (zcB (ix s4.2.2.1 s4.2.1 zf).Dirty (zbM (ix s4.2.2.1 s4.2.1 zf).Out (zbi (ix s4.2.2.1 s4.2.1 zf).Outer s4.1))))) 0) (some [(.one (.i .i64 (-1)))]) (cond (inb s4.2.1 (ln s4.2.2.1)) (cond (ine (ix s4.2.2.1 s4.2.1 zf).Pending (zdj (ix s4.2.2.1 s4.2.1 zf).Outs (zdB (ix s4.2.2.1 s4.2.1 zf).Guests (zcB (ix s4.2.2.1 s4.2.1 zf).Dirty (zbM (ix s4.2.2.1 s4.2.1 zf).Out (zbi (ix s4.2.2.1 s4.2.1 zf).Outer s4.1)))))) (some [(.one (.i .i64 (-1)))]) (cond (inb s4.2.1 (ln s4.2.2.1)) (cond (ine (ix s4.2.2.1 s4.2.1 zf).Traps (zq .i64 (zdj (ix s4.2.2.1 s4.2.1 zf).Outs (zdB (ix s4.2.2.1 s4.2.1 zf).Guests (zcB (ix s4.2.2.1 s4.2.1 zf).Dirty (zbM (ix s4.2.2.1 s4.2.1 zf).Out (zbi (ix s4.2.2.1 s4.2.1 zf).Outer s4.1))))) 1)) (some [(.one (.i .i64 (-1)))]) (cond (inb s4.2.1 (ln s4.2.2.1)) (cond (zkV (ix s4.2.2.1 s4.2.1 zf).Tables (zq .i64 (zq .i64 (zdj (ix s4.2.2.1 s4.2.1 zf).Outs (zdB (ix s4.2.2.1 s4.2.1 zf).Guests (zcB (ix s4.2.2.1 s4.2.1 zf).Dirty (zbM (ix s4.2.2.1 s4.2.1 zf).Out (zbi (ix s4.2.2.1 s4.2.1 zf).Outer s4.1))))) 1) 1)) (cond (ilt (ziF (ix s4.2.2.1 s4.2.1 zf).Tables (zq .i64 (zq .i64 (zdj (ix s4.2.2.1 s4.2.1 zf).Outs (zdB (ix s4.2.2.1 s4.2.1 zf).Guests (zcB (ix s4.2.2.1 s4.2.1 zf).Dirty (zbM (ix s4.2.2.1 s4.2.1 zf).Out (zbi (ix s4.2.2.1 s4.2.1 zf).Outer s4.1))))) 1) 1)) 0) (some [(.one (.i .i64 (-1)))]) (cond (inb s4.2.1 (ln s4.2.2.1)) (cond (ine (ix s4.2.2.1 s4.2.1 zf).Own (ziF (ix s4.2.2.1 s4.2.1 zf).Tables (zq .i64 (zq .i64 (zdj (ix s4.2.2.1 s4.2.1 zf).Outs (zdB (ix s4.2.2.1 s4.2.1 zf).Guests (zcB (ix s4.2.2.1 s4.2.1 zf).Dirty (zbM (ix s4.2.2.1 s4.2.1 zf).Out (zbi (ix s4.2.2.1 s4.2.1 zf).Outer s4.1))))) 1) 1))) (some [(.one (.i .i64 (-1)))]) (r3 ((zq .i64 (ziF (ix s4.2.2.1 s4.2.1 zf).Tables (zq .i64 (zq .i64 (zdj (ix s4.2.2.1 s4.2.1 zf).Outs (zdB (ix s4.2.2.1 s4.2.1 zf).Guests (zcB (ix s4.2.2.1 s4.2.1 zf).Dirty (zbM (ix s4.2.2.1 s4.2.1 zf).Out (zbi (ix s4.2.2.1 s4.2.1 zf).Outer s4.1))))) 1) 1)) 1),((zq .i64 s4.2.1 1),(s4.2.2.1,()))))) none)) none) none)) none)) none)) none) none)) none) none)) none) none)) none) none)) none) none) (some [(.one (.i .i64 s4.1))]))) (a1,(0,(a0,()))))
def zKR:FuncId->Nat->Option Tmpl:=zB [(31,0,{ n:=94,tm:=[(0,.sl 0 []),(1,.i .i64),(5,.i .i64)],lo:=[],ro:=[(0,.mon,false)] })]
theorem zM8 (N:Nat)(a0:List Mon)(a1:Int):evalFn (cQ zW0 zV zK zO) zKR N 12 31 [.one (.s .mon a0),.one (.i .i64 a1)]=zuN N a0 a1:=by kernel_rfl
theorem zLG (a0:List Mon)(a1:Int)(hb:zG big [.one (.s .mon a0),.one (.i .i64 a1)])(hc:(zml a0 a1)=true):∃N,zuN N a0 a1=some [.one (.i .i64 (zdw a0 a1))]:=by
 obtain ⟨he,h0,h1⟩:=zI.1 hc;have hl:=((zbt hb).1 _ (List.mem_singleton.2 rfl)).len;refine ⟨NN,?_⟩;have hNN:∀{n:Nat},n<=big->n<NN:=fun h=>zb4 h;generalize NN=N at hNN ⊢;unfold zuN;exact zhg zCz a0 _ (fun k=>some [AV.one (.i .i64 k)]) (fun i hi k rec he h0 h1=>by
  have hw:=zbd hi hl;have hix:∀d,ix a0 (i:Int) d=a0[i]:=fun d=>zbq hi d;generalize a0[i]=x at he h1 hix ⊢;simp only [zjz,mkB] at h1;have hn0:=zb0 zcv.nn x.Outer;have hn1:=zb0 zfZ.nn x.Out;have hn2:=zb0 zee.nn x.Dirty;have hn3:=zb0 zgS.nn x.Guests;have hn4:=zb0 zew.nn x.Outs;have hn5:=zb0 zis.nn x.Tables;have he0:=zbO zcv.nx x.Outer (k);have he1:=zbO zfZ.nx x.Out (enL zbc x.Outer (k));have he2:=zbO zee.nx x.Dirty (enL zcC x.Out (enL zbc x.Outer (k)));have he3:=zbO zgS.nx x.Guests (enL zcm x.Dirty (enL zcC x.Out (enL zbc x.Outer (k))));have he4:=zbO zew.nx x.Outs (enL zcO x.Guests (enL zcm x.Dirty (enL zcC x.Out (enL zbc x.Outer (k)))));have he5:=zbO zis.nx x.Tables (enL zeT x.Outs (enL zcO x.Guests (enL zcm x.Dirty (enL zcC x.Out (enL zbc x.Outer (k)))))+1+1);have w0:mkL zmg zbc x.Outer (k)=x.Outer:=congrArg (fun (z:Mon)=>z.Outer) he;have w1:mkL zHt zcC x.Out (enL zbc x.Outer (k))=x.Out:=congrArg (fun (z:Mon)=>z.Out) he;have w2:mkL zvp zcm x.Dirty (enL zcC x.Out (enL zbc x.Outer (k)))=x.Dirty:=congrArg (fun (z:Mon)=>z.Dirty) he;have w3:mkL zua zcO x.Guests (enL zcm x.Dirty (enL zcC x.Out (enL zbc x.Outer (k))))=x.Guests:=congrArg (fun (z:Mon)=>z.Guests) he;have w4:mkL zyw zeT x.Outs (enL zcO x.Guests (enL zcm x.Dirty (enL zcC x.Out (enL zbc x.Outer (k)))))=x.Outs:=congrArg (fun (z:Mon)=>z.Outs) he;have v_Pending:x.Pending=enL zeT x.Outs (enL zcO x.Guests (enL zcm x.Dirty (enL zcC x.Out (enL zbc x.Outer (k))))):=(congrArg (fun (z:Mon)=>z.Pending) he).symm;have v_Traps:x.Traps=enL zeT x.Outs (enL zcO x.Guests (enL zcm x.Dirty (enL zcC x.Out (enL zbc x.Outer (k)))))+1:=(congrArg (fun (z:Mon)=>z.Traps) he).symm;have w5:mkL zzR zjZ x.Tables (enL zeT x.Outs (enL zcO x.Guests (enL zcm x.Dirty (enL zcC x.Out (enL zbc x.Outer (k)))))+1+1)=x.Tables:=congrArg (fun (z:Mon)=>z.Tables) he;have v_Own:x.Own=enL zjZ x.Tables (enL zeT x.Outs (enL zcO x.Guests (enL zcm x.Dirty (enL zcC x.Out (enL zbc x.Outer (k)))))+1+1):=(congrArg (fun (z:Mon)=>z.Own) he).symm;have c0:zd2 x.Outer (k)=true:=zU ⟨w0,by omega,by unfold mkB;omega⟩
  have d0:ilt (enL zbc x.Outer (k)) 0=false:=zeC (by omega)
  have c1:zgM x.Out (enL zbc x.Outer (k))=true:=zU ⟨w1,by omega,by unfold mkB;omega⟩
  have d1:ilt (enL zcC x.Out (enL zbc x.Outer (k))) 0=false:=zeC (by omega)
  have c2:zgV x.Dirty (enL zcC x.Out (enL zbc x.Outer (k)))=true:=zU ⟨w2,by omega,by unfold mkB;omega⟩
  have d2:ilt (enL zcm x.Dirty (enL zcC x.Out (enL zbc x.Outer (k)))) 0=false:=zeC (by omega)
  have c3:zj3 x.Guests (enL zcm x.Dirty (enL zcC x.Out (enL zbc x.Outer (k))))=true:=zU ⟨w3,by omega,by unfold mkB;omega⟩
  have d3:ilt (enL zcO x.Guests (enL zcm x.Dirty (enL zcC x.Out (enL zbc x.Outer (k))))) 0=false:=zeC (by omega)
  have c4:zfH x.Outs (enL zcO x.Guests (enL zcm x.Dirty (enL zcC x.Out (enL zbc x.Outer (k)))))=true:=zU ⟨w4,by omega,by unfold mkB;omega⟩
  have d4:ilt (enL zeT x.Outs (enL zcO x.Guests (enL zcm x.Dirty (enL zcC x.Out (enL zbc x.Outer (k)))))) 0=false:=zeC (by omega)
  have c5:zkV x.Tables (enL zeT x.Outs (enL zcO x.Guests (enL zcm x.Dirty (enL zcC x.Out (enL zbc x.Outer (k)))))+1+1)=true:=zU ⟨w5,by omega,by unfold mkB;omega⟩
  have d5:ilt (enL zjZ x.Tables (enL zeT x.Outs (enL zcO x.Guests (enL zcm x.Dirty (enL zcC x.Out (enL zbc x.Outer (k)))))+1+1)) 0=false:=zeC (by omega)
  simp (disch:=omega) only [zbu hi,zbh hi,hix,hw,v_Pending,v_Traps,v_Own,c0,d0,zbi,c1,d1,zbM,c2,d2,zcB,c3,d3,zdB,c4,d4,zdj,c5,d5,ziF,zeB,zhz,zb2,zcj,cT,cF];rfl
  ) (fun k rec=>by simp only [zbk,cF]) a1 N he h0 h1 (hNN hl)
theorem zFb:Holds Tryz.prog 31 znZ:=zo zRd zD zu zA (zC (by kernel_rfl)) fun avs rs hb h=>by
 unfold znZ at h;split at h
 ·obtain ⟨hc,rfl⟩:=zl h;exact (fin2 zLG zM8 hc hb :)
 ·cases h
def z0r:zbP:=[(31,znZ)]++zW0
theorem z0n:zbv z0r:=zn zFb zRd
def zfi:zbP:=z0r
theorem zcV:∀f run,zy zfi f=some run->Holds Tryz.prog f run:=z0n
def W (c:Int)(f:Int->Int):Prop:=∀n,0<=n->n<=1048576->f n<=n/\(0<=f n->c<=15*(n-f n))
theorem zhx {a b:Int}{f g:Int->Int}(hf:W a f)(hg:W b g):W (a+b) (fun n=>thn (f n) g):=by
 intro n h0 h1;obtain ⟨x,y⟩:=hf n h0 h1
 show thn (f n) g<=n/\(0<=thn (f n) g->a+b<=15*(n-thn (f n) g))
 unfold thn;split
 ·exact ⟨by omega,fun h=>by omega⟩
 ·obtain ⟨z,u⟩:=hg (f n) (by omega) (by omega)
  refine ⟨by omega,fun h=>?_⟩
  have:=y (by omega)
  have:=u h;omega
theorem zXN:W 0 (fun n=>n):=fun n h0 h1=>by
 show n<=n/\(0<=n->0<=15*(n-n))
 exact ⟨Int.le_refl _,fun h=>by omega⟩
theorem zYk {α:Type}{m:α->Int}(h:∀x,m x<=15):∀l:List α,mcL m l<=15*l.length
 | []=>by simp [mcL]
 | x :: l=>by
  have:=zYk h l;have:=h x;simp only [mcL,List.length_cons];omega
theorem zxN {α:Type}{m:α->Int}(h:∀x,m x<=15)(l:List α):W (mcL m l) (szL l):=by
 intro n h0 h1;have:=zYk h l;unfold szL;split
 ·exact ⟨by omega,fun h=>by omega⟩
 ·exact ⟨by omega,fun h=>by omega⟩
theorem z1Z {α:Type}{m mc:α->Int}{s:Int}{f:α->Int->Int}(hs:s<=15)(h:∀x,W (mc x) (f x))(hm:∀x,m x=mc x+s):∀l:List α,W (mcL m l-15*l.length) (zyS f l)
 | []=>fun n h0 h1=>⟨Int.le_refl _,fun h=>by simp [mcL,zyS]⟩
 | x :: l=>by
  intro n h0 h1;obtain ⟨a,b⟩:=h x n h0 h1;simp only [zyS,mcL,List.length_cons];unfold thn;split
  ·exact ⟨by omega,fun h=>by omega⟩
  ·obtain ⟨c,d⟩:=z1Z hs h hm l (f x n) (by omega) (by omega)
   refine ⟨by omega,fun hp=>?_⟩
   have:=b (by omega)
   have:=d hp;have:=hm x;omega
theorem zH5 {α:Type}{m mc:α->Int}{s:Int}{f:α->Int->Int}(hs:s<=15)(h:∀x,W (mc x) (f x))(hm:∀x,m x=mc x+s)(l:List α):W (mcL m l) (zox f l):=by
 intro n h0 h1;unfold zox thn;split
 ·exact ⟨by omega,fun h=>by omega⟩
 ·obtain ⟨c,d⟩:=z1Z hs h hm l (n-l.length) (by omega) (by omega)
  refine ⟨by omega,fun hp=>?_⟩
  have:=d hp;omega
theorem z1T (l:List Int):W (zh8 l) (zcI l):=zxN (fun _=>by unfold zkj;decide) l
theorem zVM (l:List (List Int)):W (mcL zh8 l) (zcc l):=zH5 (s:=0) (by decide) z1T (fun x=>by omega) l
theorem zYf (l:List Bool):W (mcL zi1 l) (zcw l):=zxN (fun _=>by unfold zi1;decide) l
theorem z0Q (l:List Int):W (mcL zkj l) (zcI l):=zxN (fun _=>by unfold zkj;decide) l
theorem zHW (l:List Slot):W (mcL zf4 l) (zbK l):=zxN (fun _=>by unfold zf4;decide) l
theorem z2U (l:List Ins):W (mcL zod l) (zdW l):=zxN (fun _=>by unfold zod;decide) l
theorem zV2 (l:List Entry):W (mcL zgy l) (zcS l):=zxN (fun _=>by unfold zgy;decide) l
theorem z0c (x:Guest):W (mcL zod x.Prog+(mcL zf4 x.Written+(mcL zf4 x.Live+(mcL zkj x.Seen+0)))) (zgd x):=by
 show W _ (fun n=>thn (zdW x.Prog n) (fun n=>thn (zbK x.Written n) (fun n=>thn (zbK x.Live n) (fun n=>thn (zcI x.Seen n) (fun n=>n)))))
 exact zhx (z2U _) (zhx (zHW _) (zhx (zHW _) (zhx (z0Q _) zXN)))
theorem z1w (l:List Guest):W (mcL zfB l) (zdz l):=zH5 (s:=11) (by decide) z0c (fun x=>by unfold zfB;omega) l
theorem z1v (x:Kept):W (mcL zi1 x.Known+(mcL zf4 x.Slots+0)) (zhq x):=by
 show W _ (fun n=>thn (zcw x.Known n) (fun n=>thn (zbK x.Slots n) (fun n=>n)))
 exact zhx (zYf _) (zhx (zHW _) zXN)
theorem z2m (l:List Kept):W (mcL zhc l) (zfx l):=zH5 (s:=0) (by decide) z1v (fun x=>by unfold zhc;omega) l
theorem z2x (x:Mon):W (mcL zf4 x.Outer+(mcL zh8 x.Out+(mcL zi1 x.Dirty+(mcL zfB x.Guests+(mcL zkj x.Outs+(mcL zhc x.Tables+0)))))) (ziT x):=by
 show W _ (fun n=>thn (zbK x.Outer n) (fun n=>thn (zcc x.Out n) (fun n=>thn (zcw x.Dirty n) (fun n=>thn (zdz x.Guests n) (fun n=>thn (zcI x.Outs n) (fun n=>thn (zfx x.Tables n) (fun n=>n)))))))
 exact zhx (zHW _) (zhx (zVM _) (zhx (zYf _) (zhx (z1w _) (zhx (z0Q _) (zhx (z2m _) zXN)))))
theorem z2Q (l:List Mon):W (mcL zjz l) (zez l):=zH5 (s:=3) (by decide) z2x (fun x=>by unfold zjz;omega) l
def zrG (h:Host):Int:=mcL zh8 h.Memory+(mcL zjz h.Mons+(mcL zgy h.Buffer+(mcL zgy h.IoBuffer+0)))
theorem zX6 (h:Host):W (zrG h) (zfe h):=by
 show W _ (fun n=>thn (zcc h.Memory n) (fun n=>thn (zez h.Mons n) (fun n=>thn (zcS h.Buffer n) (fun n=>thn (zcS h.IoBuffer n) (fun n=>n)))))
 exact zhx (zVM _) (zhx (z2Q _) (zhx (zV2 _) (zhx (zV2 _) zXN)))
structure MarkH (h:Host) (k:Int):Prop where
 c1:ze3 h.Memory k=true
 c2:zhQ h.Mons (zX h.Memory k)=true
 c3:zdK h.Buffer (zbX h.Mons (zX h.Memory k))=true
 c4:zdK h.IoBuffer (zbQ h.Buffer (zbX h.Mons (zX h.Memory k)))=true
 nn:0<=zbQ h.IoBuffer (zbQ h.Buffer (zbX h.Mons (zX h.Memory k)))
 le:zbQ h.IoBuffer (zbQ h.Buffer (zbX h.Mons (zX h.Memory k)))<=k+15728640
theorem zYC {h:Host}{n:Int}(h0:0<=n)(h1:n<=1048576)(hp:0<=zfe h n)(k:Int)(hk0:0<=k)(hk1:k<=1000000000000):MarkH h k:=by
 obtain ⟨hle,hw⟩:=zX6 h n h0 h1;have hw:=hw hp;unfold zrG at hw;have n1:=zb0 zfZ.nn h.Memory;have n2:=zb0 zCz.nn h.Mons;have n3:=zb0 ziP.nn h.Buffer;have n4:=zb0 ziP.nn h.IoBuffer;have e1:zX h.Memory k=k+mcL zh8 h.Memory:=zbO zfZ.nx _ _;have e2:∀k,zbX h.Mons k=k+mcL zjz h.Mons:=zbO zCz.nx _;have e3:∀k,zbQ h.Buffer k=k+mcL zgy h.Buffer:=zbO ziP.nx _;have e4:∀k,zbQ h.IoBuffer k=k+mcL zgy h.IoBuffer:=zbO ziP.nx _;have hB:mkB=4611686018427387904:=rfl;refine ⟨zU ⟨by omega,by omega⟩,zU ⟨?_,?_⟩,zU ⟨?_,?_⟩,zU ⟨?_,?_⟩,?_,?_⟩<;>simp only [e1,e2,e3,e4]<;>omega
section
variable {α:Type} {f:α->Int->α} {nx:α->Int->Int} {m:α->Int}
structure Res (f:α->Int->α) (nx:α->Int->Int) (m:α->Int) (l:List α):Prop where
 c:0<=(1:Int)/\1+mcL m l<=mkB
 hc:mkL f nx (mkL f nx l 1) 1=mkL f nx l 1/\0<=(1:Int)/\1+mcL m (mkL f nx l 1)<=mkB
 e:enL nx (mkL f nx l 1) 1=enL nx l 1
 nn:ilt (enL nx l 1) 0=false
theorem res (h:Mk f nx m)(l:List α)(hl:mcL m l<=1000000000000):Res f nx m l:=by
 have hB:mkB=4611686018427387904:=rfl;have hn:=zb0 h.nn l;refine ⟨⟨by decide,by omega⟩,⟨zie h l 1,by decide,by rw [zdU h];omega⟩,by rw [zbO h.nx,zbO h.nx,zdU h],zeC (by rw [zbO h.nx];omega)⟩
end
theorem zVo:∀l:List Int,mcL zkj l=l.length
 | []=>rfl
 | x :: l=>by simp only [mcL,zVo l,zkj,List.length_cons];omega
def canRun (g:Guest):Bool:=bif (ieq g.Exit.Kind 0&&(ieq g.Exit.Page 0&&(zhr g.Exit.Write false&&ieq g.Exit.N 0))) then !g.Halted else false
def zr3 (_:Guest):Bool:=true
@[reducible] def zn3 (g:Guest):Bool:=canRun g
def zsB:List AV->Option (Bool×List AV)
 | [.agg [.s .ins c,.i .i64 d,.i .i64 e,.s .slot f,.s .slot g,.i .i64 h,.i .i64 j,.b k,.i .i64 l,.i .i64 m,.i .i64 n,.b o,.i .i64 p,.b q,.s .int r]]=>some ((zr3 (⟨c,d,e,f,g,⟨h,j,k⟩,l,⟨m,n,o,p⟩,q,r⟩:Guest)),[.one (.b (zn3 (⟨c,d,e,f,g,⟨h,j,k⟩,l,⟨m,n,o,p⟩,q,r⟩:Guest)))])
 | _=>none
def zAu (N:Nat)(a0:Guest):Option Ans :=
 (cond (cond (ieq a0.Exit.Kind 0) (cond (ieq a0.Exit.Page 0) (cond (zhr a0.Exit.Write false) (ieq a0.Exit.N 0) false) false) false) (some [(.one (.b (cond a0.Halted false true)))]) (some [(.one (.b false))]))
theorem zT8 (N:Nat)(a0:Guest):evalFn (cQ zF0 zbV zK zO) (zB []) N 12 89 [.agg (Ty.cells .guest a0)]=zAu N a0:=by kernel_rfl
theorem zSM (a0:Guest)(hb:zG big [.agg (Ty.cells .guest a0)])(hc:(zr3 a0)=true):∃N,zAu N a0=some [.one (.b (zn3 a0))]:=by
 refine ⟨0,?_⟩;unfold zAu zn3 canRun;cases ieq a0.Exit.Kind 0<;>cases ieq a0.Exit.Page 0<;>cases zhr a0.Exit.Write false<;>cases ieq a0.Exit.N 0<;>simp
theorem zLI:Holds Tryz.prog 89 zsB:=zo zr6 zbe zu zA (zC (by kernel_rfl)) fun avs rs hb h=>by
 unfold zsB at h;split at h
 ·obtain ⟨hc,rfl⟩:=zl h;exact (fin1 zSM zT8 hc hb :)
 ·cases h
def zrD (_:Guest):Bool:=true
@[reducible] def znA (g:Guest):Bool:=canRun g
def zsz:List AV->Option (Bool×List AV)
 | [.agg [.s .ins c,.i .i64 d,.i .i64 e,.s .slot f,.s .slot g,.i .i64 h,.i .i64 j,.b k,.i .i64 l,.i .i64 m,.i .i64 n,.b o,.i .i64 p,.b q,.s .int r]]=>some ((zrD (⟨c,d,e,f,g,⟨h,j,k⟩,l,⟨m,n,o,p⟩,q,r⟩:Guest)),[.one (.b (znA (⟨c,d,e,f,g,⟨h,j,k⟩,l,⟨m,n,o,p⟩,q,r⟩:Guest)))])
 | _=>none
def zyh (N:Nat)(a0:Guest):Option Ans :=
 (cond (cond (ieq a0.Exit.Kind 0) (cond (ieq a0.Exit.Page 0) (cond (zhr a0.Exit.Write false) (ieq a0.Exit.N 0) false) false) false) (some [(.one (.b (cond a0.Halted false true)))]) (some [(.one (.b false))]))
theorem zUm (N:Nat)(a0:Guest):evalFn (cQ zF0 zbV zK zO) (zB []) N 12 121 [.agg (Ty.cells .guest a0)]=zyh N a0:=by kernel_rfl
theorem zSJ (a0:Guest)(hb:zG big [.agg (Ty.cells .guest a0)])(hc:(zrD a0)=true):∃N,zyh N a0=some [.one (.b (znA a0))]:=by
 refine ⟨0,?_⟩;unfold zyh znA canRun;cases ieq a0.Exit.Kind 0<;>cases ieq a0.Exit.Page 0<;>cases zhr a0.Exit.Write false<;>cases ieq a0.Exit.N 0<;>simp
theorem zKJ:Holds Tryz.prog 121 zsz:=zo zr6 zbe zu zA (zC (by kernel_rfl)) fun avs rs hb h=>by
 unfold zsz at h;split at h
 ·obtain ⟨hc,rfl⟩:=zl h;exact (fin1 zSJ zUm hc hb :)
 ·cases h
theorem must {ρ:Type}{c:Bool}{a b r:Option ρ}(h:c=true)(k:a=r):(cond c a b)=r:=by rw [h];exact k
theorem zex {ρ:Type}{c:Bool}{a b r:Option ρ}(h:c=false)(k:b=r):(cond c a b)=r:=by rw [h];exact k
theorem br {ρ:Type}{c:Bool}{a b r:Option ρ}(h1:c=true->a=r)(h2:c=false->b=r):(cond c a b)=r:=by
 cases c
 ·exact h2 rfl
 ·exact h1 rfl
theorem brN {ρ:Type}{c:Bool}{a b r:Option ρ}(h1:c=false->a=r)(h2:c=true->b=r):(cond (cond c false true) a b)=r:=by
 cases c
 ·exact h1 rfl
 ·exact h2 rfl
theorem shr {α ρ:Type}{x:α}{f:α->Option ρ}{r:Option ρ}(h:f x=r):share x f=r:=h
theorem zhZ {ρ:Type}{c p:Bool}{a b:Option ρ}(hc:c=true):(cond c (cond (cond p false true) a b) none)=bif p then b else a:=by
 rw [hc];cases p<;>rfl
attribute [simp] zI
@[simp] theorem z07 {α:Type}(l:List α):(few (ln l)=true)↔l.length<=2147483648:=by
 unfold few ln;rw [decide_eq_true_iff];omega
@[simp] theorem z3z {α:Type}(l m:List α):(ap l m).length=l.length+m.length:=by simp [ap]
attribute [simp] zkD ztw
@[simp] theorem z0K (n:Nat)(k:IntKind)(x:Int):CVB n (.i k x)↔True:=⟨fun _=>trivial,fun _=>.i k x⟩
@[simp] theorem z3D (n:Nat)(x:Bool):CVB n (.b x)↔True:=⟨fun _=>trivial,fun _=>.b x⟩
theorem zkb {n:Nat}{t:Ty}(l:List t.den):CVB n (.s t l)↔l.length<=n/\∀x∈l,∀c∈t.cells x,CVB n c:=⟨fun h=>h.inv,fun h=>.s t l h.1 h.2⟩
@[simp] theorem zVT (n:Nat)(l:List Int):CVB n (.s .int l)↔l.length<=n:=by rw [zkb];simp [Ty.cells]
@[simp] theorem z2E (n:Nat)(l:List Int):CVB n (.s .u8 l)↔l.length<=n:=by rw [zkb];simp [Ty.cells]
@[simp] theorem zZU (n:Nat)(l:List Bool):CVB n (.s .bool l)↔l.length<=n:=by rw [zkb];simp [Ty.cells]
@[simp] theorem zZi (n:Nat)(l:List Slot):CVB n (.s .slot l)↔l.length<=n:=by rw [zkb];simp [Ty.cells]
@[simp] theorem z1F (n:Nat)(l:List Ins):CVB n (.s .ins l)↔l.length<=n:=by rw [zkb];simp [Ty.cells]
@[simp] theorem zX4 (n:Nat)(l:List Entry):CVB n (.s .entry l)↔l.length<=n:=by rw [zkb];simp [Ty.cells]
@[simp] theorem z1s (n:Nat)(l:List GAct):CVB n (.s .act l)↔l.length<=n:=by rw [zkb];simp [Ty.cells]
@[simp] theorem zZE (n:Nat)(l:List Told):CVB n (.s .told l)↔l.length<=n:=by rw [zkb];simp [Ty.cells]
def SmM (m:List (List Int)):Prop:=m.length<=1048576/\∀x∈m,x.length<=1048576
def SmG (g:Guest):Prop:=g.Prog.length<=1048576/\g.Written.length<=1048576/\g.Live.length<=1048576/\g.Seen.length<=1048576
def zBw (l:List Guest):Prop:=l.length<=1048576/\∀x∈l,SmG x
def SmB (b:Bare):Prop:=SmM b.Memory/\zBw b.Guests/\b.Outs.length<=1048576
def zWT (l:List Bare):Prop:=l.length<=1048576/\∀x∈l,SmB x
theorem zZY:sm=1048576:=rfl
@[simp] theorem zXR (l:List Int):CVB sm (.s .int l)↔l.length<=1048576:=zVT sm l
@[simp] theorem z3g (l:List Int):CVB sm (.s .u8 l)↔l.length<=1048576:=z2E sm l
@[simp] theorem zU5 (l:List Bool):CVB sm (.s .bool l)↔l.length<=1048576:=zZU sm l
@[simp] theorem zUq (l:List Slot):CVB sm (.s .slot l)↔l.length<=1048576:=zZi sm l
@[simp] theorem z2X (l:List Ins):CVB sm (.s .ins l)↔l.length<=1048576:=z1F sm l
@[simp] theorem zRu (l:List Entry):CVB sm (.s .entry l)↔l.length<=1048576:=zX4 sm l
@[simp] theorem z2K (l:List GAct):CVB sm (.s .act l)↔l.length<=1048576:=z1s sm l
@[simp] theorem z2H (l:List Told):CVB sm (.s .told l)↔l.length<=1048576:=zZE sm l
@[simp] theorem znV (l:List (List Int)):CVB sm (.s (.sl .int) l)↔SmM l:=by rw [zkb];simp [Ty.cells,SmM,zZY]
@[simp] theorem z06 (g:Guest):(∀c∈Ty.cells .guest g,CVB sm c)↔SmG g:=by simp [Ty.cells,SmG,zZY]
@[simp] theorem zMx (l:List Guest):CVB sm (.s .guest l)↔zBw l:=by rw [zkb];simp only [z06];rfl
@[simp] theorem z1a (b:Bare):(∀c∈Ty.cells .bare b,CVB sm c)↔SmB b:=by
 simp only [Ty.cells,List.mem_cons,List.not_mem_nil,or_false,forall_eq_or_imp,forall_eq,znV,zMx,zVT,z0K,and_true];rfl
@[simp] theorem z3s (l:List Bare):CVB sm (.s .bare l)↔zWT l:=by rw [zkb];simp only [z1a];rfl
@[simp] theorem z3B (a:List Ins)(b c:Int)(d e:List Slot)(f:Ctl)(g:Int)(h:GExit)(i:Bool)(j:List Int):SmG ⟨a,b,c,d,e,f,g,h,i,j⟩↔a.length<=1048576/\d.length<=1048576/\e.length<=1048576/\j.length<=1048576:=Iff.rfl
@[simp] theorem z3A (m:List (List Int))(g:List Guest)(o:List Int)(p:Int):SmB ⟨m,g,o,p⟩↔SmM m/\zBw g/\o.length<=1048576:=Iff.rfl
theorem zIB {m:List (List Int)}{i:Int}{x:List Int}(h:SmM m)(hx:x.length<=1048576):SmM (up m i x):=by
 refine ⟨by simpa using h.1,fun y hy=>?_⟩
 rcases List.mem_or_eq_of_mem_set hy with hy|rfl
 ·exact h.2 y hy
 ·exact hx
theorem zJR {m:List Guest}{i:Int}{x:Guest}(h:zBw m)(hx:SmG x):zBw (up m i x):=by
 refine ⟨by simpa using h.1,fun y hy=>?_⟩
 rcases List.mem_or_eq_of_mem_set hy with hy|rfl
 ·exact h.2 y hy
 ·exact hx
theorem z1N {m:List Bare}{i:Int}{x:Bare}(h:zWT m)(hx:SmB x):zWT (up m i x):=by
 refine ⟨by simpa using h.1,fun y hy=>?_⟩
 rcases List.mem_or_eq_of_mem_set hy with hy|rfl
 ·exact h.2 y hy
 ·exact hx
theorem zYV {l:List Guest}{i:Int}(h:zBw l)(hh:hasB i (ln l)=true)(d:Guest):SmG (ix l i d):=h.2 _ (zde hh d)
theorem z2j {l:List (List Int)}{i:Int}(h:SmM l)(hh:hasB i (ln l)=true)(d:List Int):(ix l i d).length<=1048576:=h.2 _ (zde hh d)
@[simp] theorem z3b:SmG zi:=⟨by decide,by decide,by decide,by decide⟩
def win (x a b:Int):Bool:=ige x a&&ile x b
@[simp] theorem z0T (x a b:Int):zbf x a b=win x a b:=rfl
@[simp] theorem z3C (x a b:Int):zbx x a b=win x a b:=rfl
@[simp] theorem zSE (i n:Int):inb i n=hasB i n:=rfl
attribute [simp] zcT
@[simp] theorem zr8 {α:Type}{l:List α}(h:l.length<=1048576)(i:Int):win i 0 (wsub .i64 (ln l) 1)=hasB i (ln l):=zMo (zcA h).1 i
theorem zEV {α:Type}{l:List α}(h:l.length<=big)(i:Int):win i 0 (wsub .i64 (ln l) 1)=hasB i (ln l):=zMo h i
theorem zfU {x a b:Int}:(win x a b=true)↔a<=x/\x<=b:=by
 unfold win ige ile;simp only [Bool.and_eq_true,decide_eq_true_iff]
theorem z1e (a b:Int):ilt a b = !ige a b:=by
 unfold ilt ige
 by_cases h:a<b
 ·rw [decide_eq_true h,decide_eq_false (by omega)];rfl
 ·rw [decide_eq_false h,decide_eq_true (by omega)];rfl
attribute [simp] zbZ zcD zga zf2 zgD zgw zgF zdM zeU zdO zn3 znA zc5 zc6
attribute [simp] zdg zcy zkz zdh
attribute [simp] zgh zc7 zik zdl
def zdA (a:Int):Int:=bif ilt a 0 then -1 else zRY .i64 a 4
def zgB (a:Int):Int:=bif ilt a 0 then -1 else zfw a 4
@[simp,reducible] def zhD (a:Int):Bool:=true
@[simp,reducible] def zM (a:Int):Int:=zdA a
def znv:List AV->Option (Bool×List AV)
 | [.one (.i .i64 b)]=>some ((zhD b),[.one (.i .i64 (zM b))])
 | _=>none
def ztc (N:Nat)(a0:Int):Option Ans :=
 (cond (ilt a0 0) (some [(.one (.i .i64 (-1)))]) (cond (ine 4 0) (some [(.one (.i .i64 (zRY .i64 a0 4)))]) none))
theorem zOk (N:Nat)(a0:Int):evalFn (cQ zfi zV zK zO) (zB []) N 12 98 [.one (.i .i64 a0)]=ztc N a0:=by kernel_rfl
theorem zLo (a0:Int)(hb:zG big [.one (.i .i64 a0)])(hc:(zhD a0)=true):∃N,ztc N a0=some [.one (.i .i64 (zM a0))]:=by
 refine ⟨0,?_⟩;unfold ztc;refine br (fun _=>?_) (fun _=>must rfl ?_)
 all_goals first|rfl|(simp only [*,zM,zdA,cT,cF]<;>rfl)|simp_all [Ty.cells,zM,zdA]
theorem zE1:Holds Tryz.prog 98 znv:=zo zcV zD zu zA (zC (by kernel_rfl)) fun avs rs hb h=>by
 unfold znv at h;split at h
 ·obtain ⟨hc,rfl⟩:=zl h;exact (fin1 zLo zOk hc hb :)
 ·cases h
@[simp,reducible] def zfK (a:Int):Bool:=true
@[simp,reducible] def zbH (a:Int):Int:=zdA a
def zon:List AV->Option (Bool×List AV)
 | [.one (.i .i64 b)]=>some ((zfK b),[.one (.i .i64 (zbH b))])
 | _=>none
def zto (N:Nat)(a0:Int):Option Ans :=
 (cond (ilt a0 0) (some [(.one (.i .i64 (-1)))]) (cond (ine 4 0) (some [(.one (.i .i64 (zRY .i64 a0 4)))]) none))
theorem zNH (N:Nat)(a0:Int):evalFn (cQ zfi zV zK zO) (zB []) N 12 56 [.one (.i .i64 a0)]=zto N a0:=by kernel_rfl
theorem zKD (a0:Int)(hb:zG big [.one (.i .i64 a0)])(hc:(zfK a0)=true):∃N,zto N a0=some [.one (.i .i64 (zbH a0))]:=by
 refine ⟨0,?_⟩;unfold zto;refine br (fun _=>?_) (fun _=>must rfl ?_)
 all_goals first|rfl|(simp only [*,zbH,zdA,cT,cF]<;>rfl)|simp_all [Ty.cells,zbH,zdA]
theorem zEW:Holds Tryz.prog 56 zon:=zo zcV zD zu zA (zC (by kernel_rfl)) fun avs rs hb h=>by
 unfold zon at h;split at h
 ·obtain ⟨hc,rfl⟩:=zl h;exact (fin1 zKD zNH hc hb :)
 ·cases h
@[simp,reducible] def zmN (a:Int):Bool:=true
@[simp,reducible] def zf9 (a:Int):Int:=zgB a
def zn4:List AV->Option (Bool×List AV)
 | [.one (.i .i64 b)]=>some ((zmN b),[.one (.i .i64 (zf9 b))])
 | _=>none
def zum (N:Nat)(a0:Int):Option Ans :=
 (cond (ilt a0 0) (some [(.one (.i .i64 (-1)))]) (cond (ine 4 0) (some [(.one (.i .i64 (zfw a0 4)))]) none))
theorem zOi (N:Nat)(a0:Int):evalFn (cQ zfi zV zK zO) (zB []) N 12 103 [.one (.i .i64 a0)]=zum N a0:=by kernel_rfl
theorem zKg (a0:Int)(hb:zG big [.one (.i .i64 a0)])(hc:(zmN a0)=true):∃N,zum N a0=some [.one (.i .i64 (zf9 a0))]:=by
 refine ⟨0,?_⟩;unfold zum;refine br (fun _=>?_) (fun _=>must rfl ?_)
 all_goals first|rfl|(simp only [*,zf9,zgB,cT,cF]<;>rfl)|simp_all [Ty.cells,zf9,zgB]
theorem zE2:Holds Tryz.prog 103 zn4:=zo zcV zD zu zA (zC (by kernel_rfl)) fun avs rs hb h=>by
 unfold zn4 at h;split at h
 ·obtain ⟨hc,rfl⟩:=zl h;exact (fin1 zKg zOi hc hb :)
 ·cases h
@[simp,reducible] def zfJ (a:Int):Bool:=true
@[simp,reducible] def zcn (a:Int):Int:=zgB a
def znw:List AV->Option (Bool×List AV)
 | [.one (.i .i64 b)]=>some ((zfJ b),[.one (.i .i64 (zcn b))])
 | _=>none
def ztb (N:Nat)(a0:Int):Option Ans :=
 (cond (ilt a0 0) (some [(.one (.i .i64 (-1)))]) (cond (ine 4 0) (some [(.one (.i .i64 (zfw a0 4)))]) none))
theorem zMV (N:Nat)(a0:Int):evalFn (cQ zfi zV zK zO) (zB []) N 12 61 [.one (.i .i64 a0)]=ztb N a0:=by kernel_rfl
theorem zJo (a0:Int)(hb:zG big [.one (.i .i64 a0)])(hc:(zfJ a0)=true):∃N,ztb N a0=some [.one (.i .i64 (zcn a0))]:=by
 refine ⟨0,?_⟩;unfold ztb;refine br (fun _=>?_) (fun _=>must rfl ?_)
 all_goals first|rfl|(simp only [*,zcn,zgB,cT,cF]<;>rfl)|simp_all [Ty.cells,zcn,zgB]
theorem zEE:Holds Tryz.prog 61 znw:=zo zcV zD zu zA (zC (by kernel_rfl)) fun avs rs hb h=>by
 unfold znw at h;split at h
 ·obtain ⟨hc,rfl⟩:=zl h;exact (fin1 zJo zMV hc hb :)
 ·cases h
def zeN (w:Bool):Int:=bif w then 2 else 1
@[simp,reducible] def zrH (w:Bool):Bool:=true
@[simp,reducible] def zba (w:Bool):Int:=zeN w
def ztO:List AV->Option (Bool×List AV)
 | [.one (.b c)]=>some ((zrH c),[.one (.i .i64 (zba c))])
 | _=>none
def zzh (N:Nat)(a0:Bool):Option Ans :=
 (cond a0 (some [(.one (.i .i64 2))]) (some [(.one (.i .i64 1))]))
theorem zUk (N:Nat)(a0:Bool):evalFn (cQ zfi zV zK zO) (zB []) N 12 99 [.one (.b a0)]=zzh N a0:=by kernel_rfl
theorem zSi (a0:Bool)(hb:zG big [.one (.b a0)])(hc:(zrH a0)=true):∃N,zzh N a0=some [.one (.i .i64 (zba a0))]:=by
 refine ⟨0,?_⟩;unfold zzh;refine br (fun _=>?_) (fun _=>?_)
 all_goals first|rfl|(simp only [*,zba,zeN,cT,cF]<;>rfl)|simp_all [Ty.cells,zba,zeN]
theorem zJK:Holds Tryz.prog 99 ztO:=zo zcV zD zu zA (zC (by kernel_rfl)) fun avs rs hb h=>by
 unfold ztO at h;split at h
 ·obtain ⟨hc,rfl⟩:=zl h;exact (fin1 zSi zUk hc hb :)
 ·cases h
@[simp,reducible] def zl7 (w:Bool):Bool:=true
@[simp,reducible] def zcr (w:Bool):Int:=zeN w
def zsL:List AV->Option (Bool×List AV)
 | [.one (.b c)]=>some ((zl7 c),[.one (.i .i64 (zcr c))])
 | _=>none
def zyp (N:Nat)(a0:Bool):Option Ans :=
 (cond a0 (some [(.one (.i .i64 2))]) (some [(.one (.i .i64 1))]))
theorem zTx (N:Nat)(a0:Bool):evalFn (cQ zfi zV zK zO) (zB []) N 12 57 [.one (.b a0)]=zyp N a0:=by kernel_rfl
theorem zS1 (a0:Bool)(hb:zG big [.one (.b a0)])(hc:(zl7 a0)=true):∃N,zyp N a0=some [.one (.i .i64 (zcr a0))]:=by
 refine ⟨0,?_⟩;unfold zyp;refine br (fun _=>?_) (fun _=>?_)
 all_goals first|rfl|(simp only [*,zcr,zeN,cT,cF]<;>rfl)|simp_all [Ty.cells,zcr,zeN]
theorem zLk:Holds Tryz.prog 57 zsL:=zo zcV zD zu zA (zC (by kernel_rfl)) fun avs rs hb h=>by
 unfold zsL at h;split at h
 ·obtain ⟨hc,rfl⟩:=zl h;exact (fin1 zS1 zTx hc hb :)
 ·cases h
def zu7 (p:Int)(w:Bool):GExit:=⟨1,p,w,0⟩
def zzr (n:Int):GExit:=⟨2,0,false,n⟩
def zCV (n:Int):GExit:=⟨3,0,false,n⟩
@[simp,reducible] def zkO (p:Int)(w:Bool):Bool:=true
@[simp,reducible] def zgk (p:Int)(w:Bool):GExit:=zu7 p w
def zlQ:List AV->Option (Bool×List AV)
 | [.one (.i .i64 c),.one (.b d)]=>some ((zkO c d),[.agg (zdT (zgk c d))])
 | _=>none
def zqx (N:Nat)(a0:Int)(a1:Bool):Option Ans :=
 (some [(.agg [(.i .i64 1),(.i .i64 a0),(.b a1),(.i .i64 0)])])
theorem zLE (N:Nat)(a0:Int)(a1:Bool):evalFn (cQ zfi zV zK zO) (zB []) N 12 101 [.one (.i .i64 a0),.one (.b a1)]=zqx N a0 a1:=by kernel_rfl
theorem zHz (a0:Int)(a1:Bool)(hb:zG big [.one (.i .i64 a0),.one (.b a1)])(hc:(zkO a0 a1)=true):∃N,zqx N a0 a1=some [.agg (zdT (zgk a0 a1))]:=by
 refine ⟨0,?_⟩;unfold zqx
 first|rfl|(simp only [*,zgk,cT,cF]<;>rfl)|simp_all [Ty.cells,zgk]
theorem zDJ:Holds Tryz.prog 101 zlQ:=zo zcV zD zu zA (zC (by kernel_rfl)) fun avs rs hb h=>by
 unfold zlQ at h;split at h
 ·obtain ⟨hc,rfl⟩:=zl h;exact (fin2 zHz zLE hc hb :)
 ·cases h
@[simp,reducible] def zir (p:Int)(w:Bool):Bool:=true
@[simp,reducible] def zd5 (p:Int)(w:Bool):GExit:=zu7 p w
def zmT:List AV->Option (Bool×List AV)
 | [.one (.i .i64 c),.one (.b d)]=>some ((zir c d),[.agg (zdT (zd5 c d))])
 | _=>none
def zrh (N:Nat)(a0:Int)(a1:Bool):Option Ans :=
 (some [(.agg [(.i .i64 1),(.i .i64 a0),(.b a1),(.i .i64 0)])])
theorem zLZ (N:Nat)(a0:Int)(a1:Bool):evalFn (cQ zfi zV zK zO) (zB []) N 12 59 [.one (.i .i64 a0),.one (.b a1)]=zrh N a0 a1:=by kernel_rfl
theorem zI1 (a0:Int)(a1:Bool)(hb:zG big [.one (.i .i64 a0),.one (.b a1)])(hc:(zir a0 a1)=true):∃N,zrh N a0 a1=some [.agg (zdT (zd5 a0 a1))]:=by
 refine ⟨0,?_⟩;unfold zrh
 first|rfl|(simp only [*,zd5,cT,cF]<;>rfl)|simp_all [Ty.cells,zd5]
theorem zDO:Holds Tryz.prog 59 zmT:=zo zcV zD zu zA (zC (by kernel_rfl)) fun avs rs hb h=>by
 unfold zmT at h;split at h
 ·obtain ⟨hc,rfl⟩:=zl h;exact (fin2 zI1 zLZ hc hb :)
 ·cases h
@[simp,reducible] def zsv (n:Int):Bool:=true
@[simp,reducible] def zjW (n:Int):GExit:=zzr n
def zoA:List AV->Option (Bool×List AV)
 | [.one (.i .i64 b)]=>some ((zsv b),[.agg (zdT (zjW b))])
 | _=>none
def ztd (N:Nat)(a0:Int):Option Ans :=
 (some [(.agg [(.i .i64 2),(.i .i64 0),(.b false),(.i .i64 a0)])])
theorem zOj (N:Nat)(a0:Int):evalFn (cQ zfi zV zK zO) (zB []) N 12 165 [.one (.i .i64 a0)]=ztd N a0:=by kernel_rfl
theorem zK7 (a0:Int)(hb:zG big [.one (.i .i64 a0)])(hc:(zsv a0)=true):∃N,ztd N a0=some [.agg (zdT (zjW a0))]:=by
 refine ⟨0,?_⟩;unfold ztd
 first|rfl|(simp only [*,zjW,cT,cF]<;>rfl)|simp_all [Ty.cells,zjW]
theorem zFt:Holds Tryz.prog 165 zoA:=zo zcV zD zu zA (zC (by kernel_rfl)) fun avs rs hb h=>by
 unfold zoA at h;split at h
 ·obtain ⟨hc,rfl⟩:=zl h;exact (fin1 zK7 zOj hc hb :)
 ·cases h
@[simp,reducible] def zne (n:Int):Bool:=true
@[simp,reducible] def zfn (n:Int):GExit:=zzr n
def zn9:List AV->Option (Bool×List AV)
 | [.one (.i .i64 b)]=>some ((zne b),[.agg (zdT (zfn b))])
 | _=>none
def zsJ (N:Nat)(a0:Int):Option Ans :=
 (some [(.agg [(.i .i64 2),(.i .i64 0),(.b false),(.i .i64 a0)])])
theorem zM4 (N:Nat)(a0:Int):evalFn (cQ zfi zV zK zO) (zB []) N 12 139 [.one (.i .i64 a0)]=zsJ N a0:=by kernel_rfl
theorem zKY (a0:Int)(hb:zG big [.one (.i .i64 a0)])(hc:(zne a0)=true):∃N,zsJ N a0=some [.agg (zdT (zfn a0))]:=by
 refine ⟨0,?_⟩;unfold zsJ
 first|rfl|(simp only [*,zfn,cT,cF]<;>rfl)|simp_all [Ty.cells,zfn]
theorem zFA:Holds Tryz.prog 139 zn9:=zo zcV zD zu zA (zC (by kernel_rfl)) fun avs rs hb h=>by
 unfold zn9 at h;split at h
 ·obtain ⟨hc,rfl⟩:=zl h;exact (fin1 zKY zM4 hc hb :)
 ·cases h
@[simp,reducible] def zwa (n:Int):Bool:=true
@[simp,reducible] def zlJ (n:Int):GExit:=zCV n
def zpC:List AV->Option (Bool×List AV)
 | [.one (.i .i64 b)]=>some ((zwa b),[.agg (zdT (zlJ b))])
 | _=>none
def zwQ (N:Nat)(a0:Int):Option Ans :=
 (some [(.agg [(.i .i64 3),(.i .i64 0),(.b false),(.i .i64 a0)])])
theorem zQF (N:Nat)(a0:Int):evalFn (cQ zfi zV zK zO) (zB []) N 12 166 [.one (.i .i64 a0)]=zwQ N a0:=by kernel_rfl
theorem zOF (a0:Int)(hb:zG big [.one (.i .i64 a0)])(hc:(zwa a0)=true):∃N,zwQ N a0=some [.agg (zdT (zlJ a0))]:=by
 refine ⟨0,?_⟩;unfold zwQ
 first|rfl|(simp only [*,zlJ,cT,cF]<;>rfl)|simp_all [Ty.cells,zlJ]
theorem zGM:Holds Tryz.prog 166 zpC:=zo zcV zD zu zA (zC (by kernel_rfl)) fun avs rs hb h=>by
 unfold zpC at h;split at h
 ·obtain ⟨hc,rfl⟩:=zl h;exact (fin1 zOF zQF hc hb :)
 ·cases h
@[simp,reducible] def zxo (n:Int):Bool:=true
@[simp,reducible] def zlI (n:Int):GExit:=zCV n
def zqZ:List AV->Option (Bool×List AV)
 | [.one (.i .i64 b)]=>some ((zxo b),[.agg (zdT (zlI b))])
 | _=>none
def zxv (N:Nat)(a0:Int):Option Ans :=
 (some [(.agg [(.i .i64 3),(.i .i64 0),(.b false),(.i .i64 a0)])])
theorem zQJ (N:Nat)(a0:Int):evalFn (cQ zfi zV zK zO) (zB []) N 12 185 [.one (.i .i64 a0)]=zxv N a0:=by kernel_rfl
theorem zNj (a0:Int)(hb:zG big [.one (.i .i64 a0)])(hc:(zxo a0)=true):∃N,zxv N a0=some [.agg (zdT (zlI a0))]:=by
 refine ⟨0,?_⟩;unfold zxv
 first|rfl|(simp only [*,zlI,cT,cF]<;>rfl)|simp_all [Ty.cells,zlI]
theorem zH1:Holds Tryz.prog 185 zqZ:=zo zcV zD zu zA (zC (by kernel_rfl)) fun avs rs hb h=>by
 unfold zqZ at h;split at h
 ·obtain ⟨hc,rfl⟩:=zl h;exact (fin1 zNj zQJ hc hb :)
 ·cases h
def zds (t x:Int):Bool:=bif win t 0 3 then (cond (win x 1 2) (ine (wand .i64 t x) 0) false) else false
theorem z0H (x:Int):win x 1 2=(ieq x 1||ieq x 2):=by
 have h:(win x 1 2=true)↔(ieq x 1||ieq x 2)=true:=by
  rw [zfU];simp only [ieq,Bool.or_eq_true,beq_iff_eq];omega
 cases h1:win x 1 2<;>cases h2:(ieq x 1||ieq x 2)<;>simp_all
@[simp,reducible] def zhs (t x:Int):Bool:=true
@[simp,reducible] def zhf (t x:Int):Bool:=zds t x
def zrf:List AV->Option (Bool×List AV)
 | [.one (.i .i64 c),.one (.i .i64 d)]=>some ((zhs c d),[.one (.b (zhf c d))])
 | _=>none
def zwC (N:Nat)(a0 a1:Int):Option Ans :=
 (cond (zZ a0 0 3) (cond (zbf a0 0 3) (cond (zZ a1 1 2) (cond (zbf a1 1 2) (some [(.one (.b (ine (wand .i64 a0 a1) 0)))]) (some [(.one (.b false))])) none) (some [(.one (.b false))])) none)
theorem zR0 (N:Nat)(a0 a1:Int):evalFn (cQ zfi zV zK zO) (zB []) N 12 164 [.one (.i .i64 a0),.one (.i .i64 a1)]=zwC N a0 a1:=by kernel_rfl
theorem zOg (a0 a1:Int)(hb:zG big [.one (.i .i64 a0),.one (.i .i64 a1)])(hc:(zhs a0 a1)=true):∃N,zwC N a0 a1=some [.one (.b (zhf a0 a1))]:=by
 refine ⟨0,?_⟩;unfold zwC;refine must rfl (br (fun _=>must rfl (br (fun _=>?_) (fun _=>?_))) (fun _=>?_))
 all_goals first|rfl|(simp only [*,zhf,zds,cT,cF]<;>rfl)|simp_all [Ty.cells,zhf,zds]
theorem zIG:Holds Tryz.prog 164 zrf:=zo zcV zD zu zA (zC (by kernel_rfl)) fun avs rs hb h=>by
 unfold zrf at h;split at h
 ·obtain ⟨hc,rfl⟩:=zl h;exact (fin2 zOg zR0 hc hb :)
 ·cases h
@[simp,reducible] def ziy (t x:Int):Bool:=true
@[simp,reducible] def zhW (t x:Int):Bool:=zds t x
def zpS:List AV->Option (Bool×List AV)
 | [.one (.i .i64 c),.one (.i .i64 d)]=>some ((ziy c d),[.one (.b (zhW c d))])
 | _=>none
def zxl (N:Nat)(a0 a1:Int):Option Ans :=
 (cond (zbn a0 0 3) (cond (zbx a0 0 3) (cond (ieq a1 1) (some [(.one (.b (ine (wand .i64 a0 a1) 0)))]) (cond (ieq a1 2) (some [(.one (.b (ine (wand .i64 a0 a1) 0)))]) (some [(.one (.b false))]))) (some [(.one (.b false))])) none)
theorem zPu (N:Nat)(a0 a1:Int):evalFn (cQ zfi zV zK zO) (zB []) N 12 140 [.one (.i .i64 a0),.one (.i .i64 a1)]=zxl N a0 a1:=by kernel_rfl
theorem zNE (a0 a1:Int)(hb:zG big [.one (.i .i64 a0),.one (.i .i64 a1)])(hc:(ziy a0 a1)=true):∃N,zxl N a0 a1=some [.one (.b (zhW a0 a1))]:=by
 refine ⟨0,?_⟩;unfold zxl;refine must rfl (br (fun _=>br (fun _=>?_) (fun _=>br (fun _=>?_) (fun _=>?_))) (fun _=>?_))
 all_goals first|rfl|(simp only [*,zhW,zds,z0H,cT,cF]<;>rfl)|simp_all [Ty.cells,zhW,zds,z0H]
theorem zIx:Holds Tryz.prog 140 zpS:=zo zcV zD zu zA (zC (by kernel_rfl)) fun avs rs hb h=>by
 unfold zpS at h;split at h
 ·obtain ⟨hc,rfl⟩:=zl h;exact (fin2 zNE zPu hc hb :)
 ·cases h
def zgx (p:Int):Bool:=win p 0 255
@[simp,reducible] def zg7 (p:Int):Bool:=true
@[simp,reducible] def zgC (p:Int):Bool:=zgx p
def zs6:List AV->Option (Bool×List AV)
 | [.one (.i .i64 c)]=>some ((zg7 c),[.one (.b (zgC c))])
 | _=>none
def zyB (N:Nat)(a0:Int):Option Ans :=
 (cond (zZ a0 0 255) (some [(.one (.b (zbf a0 0 255)))]) none)
theorem zUj (N:Nat)(a0:Int):evalFn (cQ zfi zV zK zO) (zB []) N 12 197 [.one (.i .i64 a0)]=zyB N a0:=by kernel_rfl
theorem zQj (a0:Int)(hb:zG big [.one (.i .i64 a0)])(hc:(zg7 a0)=true):∃N,zyB N a0=some [.one (.b (zgC a0))]:=by
 refine ⟨0,?_⟩;unfold zyB;refine must rfl ?_
 first|rfl|(simp only [*,zgC,zgx,cT,cF]<;>rfl)|simp_all [Ty.cells,zgC,zgx]
theorem zKk:Holds Tryz.prog 197 zs6:=zo zcV zD zu zA (zC (by kernel_rfl)) fun avs rs hb h=>by
 unfold zs6 at h;split at h
 ·obtain ⟨hc,rfl⟩:=zl h;exact (fin1 zQj zUj hc hb :)
 ·cases h
@[simp,reducible] def zhX (p:Int):Bool:=true
@[simp,reducible] def zh1 (p:Int):Bool:=zgx p
def zte:List AV->Option (Bool×List AV)
 | [.one (.i .i64 c)]=>some ((zhX c),[.one (.b (zh1 c))])
 | _=>none
def zzk (N:Nat)(a0:Int):Option Ans :=
 (cond (zbn a0 0 255) (some [(.one (.b (zbx a0 0 255)))]) none)
theorem zUL (N:Nat)(a0:Int):evalFn (cQ zfi zV zK zO) (zB []) N 12 173 [.one (.i .i64 a0)]=zzk N a0:=by kernel_rfl
theorem zSa (a0:Int)(hb:zG big [.one (.i .i64 a0)])(hc:(zhX a0)=true):∃N,zzk N a0=some [.one (.b (zh1 a0))]:=by
 refine ⟨0,?_⟩;unfold zzk;refine must rfl ?_
 first|rfl|(simp only [*,zh1,zgx,cT,cF]<;>rfl)|simp_all [Ty.cells,zh1,zgx]
theorem zJX:Holds Tryz.prog 173 zte:=zo zcV zD zu zA (zC (by kernel_rfl)) fun avs rs hb h=>by
 unfold zte at h;split at h
 ·obtain ⟨hc,rfl⟩:=zl h;exact (fin1 zSa zUL hc hb :)
 ·cases h
def zdE (l:List Ins)(p:Int):Ins:=bif hasB p (ln l) then ix l p zfj else ⟨7,0⟩
@[simp,reducible] def zeZ (l:List Ins)(p:Int):Bool:=true
@[simp,reducible] def zbN (l:List Ins)(p:Int):Ins:=zdE l p
def zxa:List AV->Option (Bool×List AV)
 | [.one (.s .ins b),.one (.i .i64 c)]=>some ((zeZ b c),[.agg (Ty.cells .ins (zbN b c))])
 | _=>none
def zBp (N:Nat)(a0:List Ins)(a1:Int):Option Ans :=
 (cond (zZ a1 0 (wsub .i64 (ln a0) 1)) (cond (cond (zbf a1 0 (wsub .i64 (ln a0) 1)) false true) (some [(.agg [(.i .i64 7),(.i .i64 0)])]) (cond (inb a1 (ln a0)) (some [(.agg [(.i .i64 (ix a0 a1 zfj).Op),(.i .i64 (ix a0 a1 zfj).X)])]) none)) none)
theorem zWX (N:Nat)(a0:List Ins)(a1:Int):evalFn (cQ zfi zV zK zO) (zB []) N 12 91 [.one (.s .ins a0),.one (.i .i64 a1)]=zBp N a0 a1:=by kernel_rfl
theorem zU1 (a0:List Ins)(a1:Int)(hb:zG big [.one (.s .ins a0),.one (.i .i64 a1)])(hc:(zeZ a0 a1)=true):∃N,zBp N a0 a1=some [.agg (Ty.cells .ins (zbN a0 a1))]:=by
 have hl:=((zbt hb).1 _ (List.mem_singleton.2 rfl)).len;have hw:=zEV hl
 refine ⟨0,?_⟩;unfold zBp;refine must rfl (brN (fun _=>?_) (fun _=>must (by first|assumption|(simp_all<;>omega)) ?_))
 all_goals first|rfl|(simp only [*,zbN,zdE,cT,cF]<;>rfl)|simp_all [Ty.cells,zbN,zdE]
theorem zOR:Holds Tryz.prog 91 zxa:=zo zcV zD zu zA (zC (by kernel_rfl)) fun avs rs hb h=>by
 unfold zxa at h;split at h
 ·obtain ⟨hc,rfl⟩:=zl h;exact (fin2 zU1 zWX hc hb :)
 ·cases h
@[simp,reducible] def zfF (l:List Ins)(p:Int):Bool:=true
@[simp,reducible] def zb3 (l:List Ins)(p:Int):Ins:=zdE l p
def zxi:List AV->Option (Bool×List AV)
 | [.one (.s .ins b),.one (.i .i64 c)]=>some ((zfF b c),[.agg (Ty.cells .ins (zb3 b c))])
 | _=>none
def zCb (N:Nat)(a0:List Ins)(a1:Int):Option Ans :=
 (cond (zcz a1 (ln a0)) (cond (cond (zcT a1 (ln a0)) false true) (some [(.agg [(.i .i64 7),(.i .i64 0)])]) (cond (inb a1 (ln a0)) (some [(.agg [(.i .i64 (ix a0 a1 zfj).Op),(.i .i64 (ix a0 a1 zfj).X)])]) none)) none)
theorem zXh (N:Nat)(a0:List Ins)(a1:Int):evalFn (cQ zfi zV zK zO) (zB []) N 12 123 [.one (.s .ins a0),.one (.i .i64 a1)]=zCb N a0 a1:=by kernel_rfl
theorem zT0 (a0:List Ins)(a1:Int)(hb:zG big [.one (.s .ins a0),.one (.i .i64 a1)])(hc:(zfF a0 a1)=true):∃N,zCb N a0 a1=some [.agg (Ty.cells .ins (zb3 a0 a1))]:=by
 refine ⟨0,?_⟩;unfold zCb;refine must rfl (brN (fun _=>?_) (fun _=>must (by first|assumption|(simp_all<;>omega)) ?_))
 all_goals first|rfl|(simp only [*,zb3,zdE,cT,cF]<;>rfl)|simp_all [Ty.cells,zb3,zdE]
theorem zMU:Holds Tryz.prog 123 zxi:=zo zcV zD zu zA (zC (by kernel_rfl)) fun avs rs hb h=>by
 unfold zxi at h;split at h
 ·obtain ⟨hc,rfl⟩:=zl h;exact (fin2 zT0 zXh hc hb :)
 ·cases h
def zeO (w:Int):Int:=bif ieq w 5 then 1 else 2
@[simp,reducible] def zmQ (w:Int):Bool:=true
@[simp,reducible] def zfO (w:Int):Int:=zeO w
def zuA:List AV->Option (Bool×List AV)
 | [.one (.i .i64 b)]=>some ((zmQ b),[.one (.i .i64 (zfO b))])
 | _=>none
def zze (N:Nat)(a0:Int):Option Ans :=
 (cond (ieq a0 5) (some [(.one (.i .i64 1))]) (some [(.one (.i .i64 2))]))
theorem zUo (N:Nat)(a0:Int):evalFn (cQ zfi zV zK zO) (zB []) N 12 129 [.one (.i .i64 a0)]=zze N a0:=by kernel_rfl
theorem zSR (a0:Int)(hb:zG big [.one (.i .i64 a0)])(hc:(zmQ a0)=true):∃N,zze N a0=some [.one (.i .i64 (zfO a0))]:=by
 refine ⟨0,?_⟩;unfold zze;refine br (fun _=>?_) (fun _=>?_)
 all_goals first|rfl|(simp only [*,zfO,zeO,cT,cF]<;>rfl)|simp_all [Ty.cells,zfO,zeO]
theorem zKP:Holds Tryz.prog 129 zuA:=zo zcV zD zu zA (zC (by kernel_rfl)) fun avs rs hb h=>by
 unfold zuA at h;split at h
 ·obtain ⟨hc,rfl⟩:=zl h;exact (fin1 zSR zUo hc hb :)
 ·cases h
def zeK (s:Slot)(n:Int):Bool:=bif zef s noSlot then true else (cond (igt n 0) (cond (win s.Page 0 (wsub .i64 n 1)) (win s.Rights 1 3) false) false)
@[simp,reducible] def zz3 (s:Slot)(n:Int):Bool:=true
@[simp,reducible] def ztF (s:Slot)(n:Int):Bool:=zeK s n
def ztx:List AV->Option (Bool×List AV)
 | [.agg [.i .i64 c,.i .i64 d],.one (.i .i64 e)]=>some ((zz3 (⟨c,d⟩:Slot) e),[.one (.b (ztF (⟨c,d⟩:Slot) e))])
 | _=>none
def zAa (N:Nat)(a0:Slot)(a1:Int):Option Ans :=
 (cond zc5 (cond (cond (ieq a0.Page zbZ.Page) (ieq a0.Rights zbZ.Rights) false) (some [(.one (.b true))]) (cond (zZ a0.Page 0 (wsub .i64 a1 1)) (cond (zbf a0.Page 0 (wsub .i64 a1 1)) (cond (igt a1 0) (cond (zZ a0.Rights 1 3) (some [(.one (.b (zbf a0.Rights 1 3)))]) none) (some [(.one (.b false))])) (some [(.one (.b false))])) none)) none)
theorem zTC (N:Nat)(a0:Slot)(a1:Int):evalFn (cQ zfi zV zK zO) (zB []) N 12 221 [.agg (Ty.cells .slot a0),.one (.i .i64 a1)]=zAa N a0 a1:=by kernel_rfl
theorem zSK (a0:Slot)(a1:Int)(hb:zG big [.agg (Ty.cells .slot a0),.one (.i .i64 a1)])(hc:(zz3 a0 a1)=true):∃N,zAa N a0 a1=some [.one (.b (ztF a0 a1))]:=by
 refine ⟨0,?_⟩;unfold zAa;refine must rfl (br (fun _=>?_) (fun _=>must rfl (br (fun _=>br (fun _=>must rfl ?_) (fun _=>?_)) (fun _=>?_))))
 all_goals first|rfl|(simp only [*,ztF,zeK,zef,cT,cF]<;>rfl)|simp_all [Ty.cells,ztF,zeK,zef]
theorem zKm:Holds Tryz.prog 221 ztx:=zo zcV zD zu zA (zC (by kernel_rfl)) fun avs rs hb h=>by
 unfold ztx at h;split at h
 ·obtain ⟨hc,rfl⟩:=zl h;exact (fin2 zSK zTC hc hb :)
 ·cases h
@[simp,reducible] def zza (s:Slot)(n:Int):Bool:=true
@[simp,reducible] def zuH (s:Slot)(n:Int):Bool:=zeK s n
def zuu:List AV->Option (Bool×List AV)
 | [.agg [.i .i64 c,.i .i64 d],.one (.i .i64 e)]=>some ((zza (⟨c,d⟩:Slot) e),[.one (.b (zuH (⟨c,d⟩:Slot) e))])
 | _=>none
def zzf (N:Nat)(a0:Slot)(a1:Int):Option Ans :=
 (cond zc6 (cond (cond (ieq a0.Page zcD.Page) (ieq a0.Rights zcD.Rights) false) (some [(.one (.b true))]) (cond (igt a1 0) (cond (zbn a0.Page 0 (wsub .i64 a1 1)) (cond (zbx a0.Page 0 (wsub .i64 a1 1)) (cond (zbn a0.Rights 1 3) (some [(.one (.b (zbx a0.Rights 1 3)))]) none) (some [(.one (.b false))])) none) (some [(.one (.b false))]))) none)
theorem zTW (N:Nat)(a0:Slot)(a1:Int):evalFn (cQ zfi zV zK zO) (zB []) N 12 208 [.agg (Ty.cells .slot a0),.one (.i .i64 a1)]=zzf N a0 a1:=by kernel_rfl
theorem zPH (a0:Slot)(a1:Int)(hb:zG big [.agg (Ty.cells .slot a0),.one (.i .i64 a1)])(hc:(zza a0 a1)=true):∃N,zzf N a0 a1=some [.one (.b (zuH a0 a1))]:=by
 refine ⟨0,?_⟩;unfold zzf;refine must rfl (br (fun _=>?_) (fun _=>br (fun _=>must rfl (br (fun _=>must rfl ?_) (fun _=>?_))) (fun _=>?_)))
 all_goals first|rfl|(simp only [*,zuH,zeK,zef,cT,cF]<;>rfl)|simp_all [Ty.cells,zuH,zeK,zef]
theorem zJx:Holds Tryz.prog 208 zuu:=zo zcV zD zu zA (zC (by kernel_rfl)) fun avs rs hb h=>by
 unfold zuu at h;split at h
 ·obtain ⟨hc,rfl⟩:=zl h;exact (fin2 zPH zTW hc hb :)
 ·cases h
@[simp,reducible] def zfR (l:List Slot):Bool:=pc (l.length<=2147483648)
@[simp,reducible] def zeJ (l:List Slot):List Slot:=l
def zmR:List AV->Option (Bool×List AV)
 | [.one (.s .slot b)]=>some ((zfR b),[.one (.s .slot (zeJ b))])
 | _=>none
def zql (N:Nat)(a0:List Slot):Option Ans :=
 (cond (few (ln (ap [] a0))) (some [(.one (.s .slot (ap [] a0)))]) none)
theorem zJh (N:Nat)(a0:List Slot):evalFn (cQ zfi zV zK zO) (zB []) N 12 114 [.one (.s .slot a0)]=zql N a0:=by kernel_rfl
theorem zI5 (a0:List Slot)(hb:zG big [.one (.s .slot a0)])(hc:(zfR a0)=true):∃N,zql N a0=some [.one (.s .slot (zeJ a0))]:=by
 have hs:=zI.1 hc;refine ⟨0,?_⟩;unfold zql;refine must (by first|assumption|(simp_all<;>omega)) ?_
 first|rfl|(simp only [*,zeJ,cT,cF]<;>rfl)|simp_all [Ty.cells,zeJ]
theorem zDT:Holds Tryz.prog 114 zmR:=zo zcV zD zu zA (zC (by kernel_rfl)) fun avs rs hb h=>by
 unfold zmR at h;split at h
 ·obtain ⟨hc,rfl⟩:=zl h;exact (fin1 zI5 zJh hc hb :)
 ·cases h
@[simp,reducible] def zss (l:List Ins):Bool:=pc (l.length<=2147483648)
@[simp,reducible] def zl5 (l:List Ins):List Ins:=l
def znG:List AV->Option (Bool×List AV)
 | [.one (.s .ins b)]=>some ((zss b),[.one (.s .ins (zl5 b))])
 | _=>none
def ztQ (N:Nat)(a0:List Ins):Option Ans :=
 (cond (few (ln (ap [] a0))) (some [(.one (.s .ins (ap [] a0)))]) none)
theorem zMR (N:Nat)(a0:List Ins):evalFn (cQ zfi zV zK zO) (zB []) N 12 184 [.one (.s .ins a0)]=ztQ N a0:=by kernel_rfl
theorem zL5 (a0:List Ins)(hb:zG big [.one (.s .ins a0)])(hc:(zss a0)=true):∃N,ztQ N a0=some [.one (.s .ins (zl5 a0))]:=by
 have hs:=zI.1 hc;refine ⟨0,?_⟩;unfold ztQ;refine must (by first|assumption|(simp_all<;>omega)) ?_
 first|rfl|(simp only [*,zl5,cT,cF]<;>rfl)|simp_all [Ty.cells,zl5]
theorem zFx:Holds Tryz.prog 184 znG:=zo zcV zD zu zA (zC (by kernel_rfl)) fun avs rs hb h=>by
 unfold znG at h;split at h
 ·obtain ⟨hc,rfl⟩:=zl h;exact (fin1 zL5 zMR hc hb :)
 ·cases h
def zhS (m:List (List Int))(p c:Int):Bool:=bif hasB p (ln m) then hasB c (ln (ix m p [])) else false
def cellAt (m:List (List Int))(p c:Int):Int:=bif zhS m p c then ix (ix m p []) c 0 else 0
def ze8 (m:List (List Int))(p c v:Int):List (List Int):=bif zhS m p c then (cond (win v 0 99) (up m p (up (ix m p []) c v)) m) else m
theorem zzO (m:List (List Int))(p c:Int):(zhS m p c=true)↔hasB p (ln m)=true/\hasB c (ln (ix m p []))=true:=by
 unfold zhS;cases hasB p (ln m)<;>simp
theorem z2u {n:Nat}{m:List (List Int)}(h:CVB n (.s (.sl .int) m)):m.length<=n/\∀p:Int,hasB p (ln m)=true->(ix m p []).length<=n :=
 ⟨h.len,fun p hp=>(h.inv.2 _ (zde hp []) _ (List.mem_singleton.2 rfl)).len⟩
@[simp,reducible] def zrL (m:List (List Int))(p c:Int):Bool:=true
@[simp,reducible] def zoh (m:List (List Int))(p c:Int):Bool:=zhS m p c
def ztJ:List AV->Option (Bool×List AV)
 | [.one (.s (.sl .int) c),.one (.i .i64 d),.one (.i .i64 e)]=>some ((zrL c d e),[.one (.b (zoh c d e))])
 | _=>none
def zzM (N:Nat)(a0:List (List Int))(a1 a2:Int):Option Ans :=
 (cond (zZ a1 0 (wsub .i64 (ln a0) 1)) (cond (zbf a1 0 (wsub .i64 (ln a0) 1)) (cond (inb a1 (ln a0)) (cond (zZ a2 0 (wsub .i64 (ln (ix a0 a1 [])) 1)) (some [(.one (.b (zbf a2 0 (wsub .i64 (ln (ix a0 a1 [])) 1))))]) none) none) (some [(.one (.b false))])) none)
theorem zTk (N:Nat)(a0:List (List Int))(a1 a2:Int):evalFn (cQ zfi zV zK zO) (zB []) N 12 163 [.one (.s (.sl .int) a0),.one (.i .i64 a1),.one (.i .i64 a2)]=zzM N a0 a1 a2:=by kernel_rfl
theorem zPA (a0:List (List Int))(a1 a2:Int)(hb:zG big [.one (.s (.sl .int) a0),.one (.i .i64 a1),.one (.i .i64 a2)])(hc:(zrL a0 a1 a2)=true):∃N,zzM N a0 a1 a2=some [.one (.b (zoh a0 a1 a2))]:=by
 have hl:=z2u ((zbt hb).1 _ (List.mem_singleton.2 rfl));have hw:=zEV hl.1;have hw2:∀p i:Int,hasB p (ln a0)=true->win i 0 (wsub .i64 (ln (ix a0 p [])) 1)=hasB i (ln (ix a0 p [])):=fun p i h=>zEV (hl.2 p h) i
 refine ⟨0,?_⟩;unfold zzM;refine must rfl (br (fun _=>must (by first|assumption|(simp_all<;>omega)) (must rfl ?_)) (fun _=>?_))
 all_goals first|rfl|(simp only [*,zoh,zhS,cT,cF]<;>rfl)|simp_all [Ty.cells,zoh,zhS]
theorem zJd:Holds Tryz.prog 163 ztJ:=zo zcV zD zu zA (zC (by kernel_rfl)) fun avs rs hb h=>by
 unfold ztJ at h;split at h
 ·obtain ⟨hc,rfl⟩:=zl h;exact (zd7 zPA zTk hc hb :)
 ·cases h
@[simp,reducible] def zmF (m:List (List Int))(p c:Int):Bool:=true
@[simp,reducible] def zfQ (m:List (List Int))(p c:Int):Int:=cellAt m p c
def zt8:List AV->Option (Bool×List AV)
 | [.one (.s (.sl .int) b),.one (.i .i64 c),.one (.i .i64 d)]=>some ((zmF b c d),[.one (.i .i64 (zfQ b c d))])
 | _=>none
def zzQ (N:Nat)(a0:List (List Int))(a1 a2:Int):Option Ans :=
 (cond (zcz a1 (ln a0)) (cond (cond (zcT a1 (ln a0)) false true) (some [(.one (.i .i64 0))]) (cond (inb a1 (ln a0)) (cond (zcz a2 (ln (ix a0 a1 []))) (cond (cond (zcT a2 (ln (ix a0 a1 []))) false true) (some [(.one (.i .i64 0))]) (cond (inb a1 (ln a0)) (cond (inb a2 (ln (ix a0 a1 []))) (some [(.one (.i .i64 (ix (ix a0 a1 []) a2 0)))]) none) none)) none) none)) none)
theorem zTF (N:Nat)(a0:List (List Int))(a1 a2:Int):evalFn (cQ zfi zV zK zO) (zB []) N 12 64 [.one (.s (.sl .int) a0),.one (.i .i64 a1),.one (.i .i64 a2)]=zzQ N a0 a1 a2:=by kernel_rfl
theorem zQa (a0:List (List Int))(a1 a2:Int)(hb:zG big [.one (.s (.sl .int) a0),.one (.i .i64 a1),.one (.i .i64 a2)])(hc:(zmF a0 a1 a2)=true):∃N,zzQ N a0 a1 a2=some [.one (.i .i64 (zfQ a0 a1 a2))]:=by
 refine ⟨0,?_⟩;unfold zzQ;refine must rfl (brN (fun _=>?_) (fun _=>must (by first|assumption|(simp_all<;>omega)) (must rfl (brN (fun _=>?_) (fun _=>must (by first|assumption|(simp_all<;>omega)) (must (by first|assumption|(simp_all<;>omega)) ?_))))))
 all_goals first|rfl|(simp only [*,zfQ,cellAt,zhS,cT,cF]<;>rfl)|simp_all [Ty.cells,zfQ,cellAt,zhS]
theorem zKZ:Holds Tryz.prog 64 zt8:=zo zcV zD zu zA (zC (by kernel_rfl)) fun avs rs hb h=>by
 unfold zt8 at h;split at h
 ·obtain ⟨hc,rfl⟩:=zl h;exact (zd7 zQa zTF hc hb :)
 ·cases h
def zi3:zbP:=[(89,zsB),(121,zsz),(98,znv),(56,zon),(103,zn4),(61,znw),(99,ztO),(57,zsL),(101,zlQ),(59,zmT),(165,zoA),(139,zn9),(166,zpC),(185,zqZ),(164,zrf),(140,zpS),(197,zs6),(173,zte),(91,zxa),(123,zxi),(129,zuA),(221,ztx),(208,zuu),(114,zmR),(184,znG),(163,ztJ),(64,zt8)]++zfi
theorem ze6:zbv zi3:=zn zLI (zn zKJ (zn zE1 (zn zEW (zn zE2 (zn zEE (zn zJK (zn zLk (zn zDJ (zn zDO (zn zFt (zn zFA (zn zGM (zn zH1 (zn zIG (zn zIx (zn zKk (zn zJX (zn zOR (zn zMU (zn zKP (zn zKm (zn zJx (zn zDT (zn zFx (zn zJd (zn zKZ zcV))))))))))))))))))))))))))
@[simp,reducible] def zz6 (m:List (List Int))(p c:Int):Bool:=true
@[simp,reducible] def zoD (m:List (List Int))(p c:Int):Int:=cellAt m p c
def ztR:List AV->Option (Bool×List AV)
 | [.one (.s (.sl .int) b),.one (.i .i64 c),.one (.i .i64 d)]=>some ((zz6 b c d),[.one (.i .i64 (zoD b c d))])
 | _=>none
def zy0 (N:Nat)(a0:List (List Int))(a1 a2:Int):Option Ans :=
 (cond (zrL a0 a1 a2) (cond (cond (zoh a0 a1 a2) false true) (some [(.one (.i .i64 0))]) (cond (inb a1 (ln a0)) (cond (inb a2 (ln (ix a0 a1 []))) (some [(.one (.i .i64 (ix (ix a0 a1 []) a2 0)))]) none) none)) none)
theorem zTb (N:Nat)(a0:List (List Int))(a1 a2:Int):evalFn (cQ zi3 zV zK zO) (zB []) N 12 106 [.one (.s (.sl .int) a0),.one (.i .i64 a1),.one (.i .i64 a2)]=zy0 N a0 a1 a2:=by kernel_rfl
theorem zQY (a0:List (List Int))(a1 a2:Int)(hb:zG big [.one (.s (.sl .int) a0),.one (.i .i64 a1),.one (.i .i64 a2)])(hc:(zz6 a0 a1 a2)=true):∃N,zy0 N a0 a1 a2=some [.one (.i .i64 (zoD a0 a1 a2))]:=by
 have hm:=(zzO a0 a1 a2).1;refine ⟨0,?_⟩;unfold zy0;refine must rfl (brN (fun _=>?_) (fun _=>must (by first|assumption|(simp_all<;>omega)) (must (by first|assumption|(simp_all<;>omega)) ?_)))
 all_goals first|rfl|(simp only [*,zoD,cellAt,cT,cF]<;>rfl)|simp_all [Ty.cells,zoD,cellAt]
theorem zKA:Holds Tryz.prog 106 ztR:=zo ze6 zD zu zA (zC (by kernel_rfl)) fun avs rs hb h=>by
 unfold ztR at h;split at h
 ·obtain ⟨hc,rfl⟩:=zl h;exact (zd7 zQY zTb hc hb :)
 ·cases h
def zdI (t:List Slot)(n p:Int):Bool:=bif t.all (fun s=>zeK s p) then ieq (ln t) n else false
@[simp,reducible] def zkC (t:List Slot)(n p:Int):Bool:=true
@[simp,reducible] def zg1 (t:List Slot)(n p:Int):Bool:=zdI t n p
def zqs:List AV->Option (Bool×List AV)
 | [.one (.s .slot c),.one (.i .i64 d),.one (.i .i64 e)]=>some ((zkC c d e),[.one (.b (zg1 c d e))])
 | _=>none
def zwR (N:Nat)(a0:List Slot)(a1 a2:Int):Option Ans :=
 (iter (σ:=(Int×(Int×(Int×((List Slot)×Unit))))) N (fun r4 s5=>(cond (ilt s5.2.2.1 (ln s5.2.2.2.1)) (cond (inb s5.2.2.1 (ln s5.2.2.2.1)) (cond (zz3 (ix s5.2.2.2.1 s5.2.2.1 zQ) s5.2.1) (cond (cond (ztF (ix s5.2.2.2.1 s5.2.2.1 zQ) s5.2.1) false true) (some [(.one (.b false))]) (r4 (s5.1,(s5.2.1,((zq .i64 s5.2.2.1 1),(s5.2.2.2.1,())))))) none) none) (some [(.one (.b (ieq (ln s5.2.2.2.1) s5.1)))]))) (a1,(a2,(0,(a0,())))))
def zNO:FuncId->Nat->Option Tmpl:=zB [(194,0,{ n:=25,tm:=[(0,.sl 0 []),(1,.i .i64),(2,.i .i64),(7,.i .i64)],lo:=[],ro:=[(0,.slot,false)] })]
theorem zQL (N:Nat)(a0:List Slot)(a1 a2:Int):evalFn (cQ zi3 zV zK zO) zNO N 12 194 [.one (.s .slot a0),.one (.i .i64 a1),.one (.i .i64 a2)]=zwR N a0 a1 a2:=by kernel_rfl
theorem zNi (a0:List Slot)(a1 a2:Int)(hb:zG big [.one (.s .slot a0),.one (.i .i64 a1),.one (.i .i64 a2)])(hc:(zkC a0 a1 a2)=true):∃N,zwR N a0 a1 a2=some [.one (.b (zg1 a0 a1 a2))]:=by
 have hl:(_:List _).length<=big:=((zbt hb).1 _ (List.mem_singleton.2 rfl)).len;refine ⟨NN,?_⟩;have hNN:∀{n:Nat},n<=big->n<NN:=fun h=>zb4 h;generalize NN=N at hNN ⊢;unfold zwR;refine (zbF a0 (fun i (t:Unit)=>(a1,a2,(i:Int),a0,())) _ (fun _ x (_:Unit) κ=>bif (fun s=>zeK s a2) x then κ () else some [AV.one (.b false)]) (fun (t:Unit)=>(some [(.one (.b (ieq (ln a0) a1)))])) (fun i hi t rec=>?_) (fun t rec=>?_) _ () (hNN hl)).trans ?_
 ·simp only [zbu hi,zbh hi,zbq hi,zbd hi hl,cT];exact zhZ rfl
 ·simp only [zbk,cF]
 rw [zgr (fun s=>zeK s a2)];refine br (fun h0=>?_) (fun h0=>?_)
 ·first|rfl|(simp only [h0,zg1,zdI,cT,cF]<;>rfl)|(simp_all [Ty.cells,zg1,zdI];done)
 ·first|rfl|(simp only [h0,zg1,zdI,cT,cF]<;>rfl)|(simp_all [Ty.cells,zg1,zdI];done)
theorem zI4:Holds Tryz.prog 194 zqs:=zo ze6 zD zu zA (zC (by kernel_rfl)) fun avs rs hb h=>by
 unfold zqs at h;split at h
 ·obtain ⟨hc,rfl⟩:=zl h;exact (zd7 zNi zQL hc hb :)
 ·cases h
@[simp,reducible] def zkw (t:List Slot)(n p:Int):Bool:=true
@[simp,reducible] def zhb (t:List Slot)(n p:Int):Bool:=zdI t n p
def zqW:List AV->Option (Bool×List AV)
 | [.one (.s .slot c),.one (.i .i64 d),.one (.i .i64 e)]=>some ((zkw c d e),[.one (.b (zhb c d e))])
 | _=>none
def zwy (N:Nat)(a0:List Slot)(a1 a2:Int):Option Ans :=
 (iter (σ:=(Int×(Int×(Int×(Int×((List Slot)×Unit)))))) N (fun r4 s5=>(cond (ilt s5.2.2.2.1 s5.2.2.1) (cond (inb s5.2.2.2.1 (ln s5.2.2.2.2.1)) (cond (zza (ix s5.2.2.2.2.1 s5.2.2.2.1 zQ) s5.2.1) (cond (cond (zuH (ix s5.2.2.2.2.1 s5.2.2.2.1 zQ) s5.2.1) false true) (some [(.one (.b false))]) (r4 (s5.1,(s5.2.1,(s5.2.2.1,((zq .i64 s5.2.2.2.1 1),(s5.2.2.2.2.1,()))))))) none) none) (some [(.one (.b (ieq (ln s5.2.2.2.2.1) s5.1)))]))) (a1,(a2,((ln a0),(0,(a0,()))))))
def zOJ:FuncId->Nat->Option Tmpl:=zB [(172,0,{ n:=24,tm:=[(0,.sl 0 []),(1,.i .i64),(2,.i .i64),(9,.sl 0 []),(10,.i .i64),(11,.i .i64)],lo:=[],ro:=[(0,.slot,false)] })]
theorem zPq (N:Nat)(a0:List Slot)(a1 a2:Int):evalFn (cQ zi3 zV zK zO) zOJ N 12 172 [.one (.s .slot a0),.one (.i .i64 a1),.one (.i .i64 a2)]=zwy N a0 a1 a2:=by kernel_rfl
theorem zN5 (a0:List Slot)(a1 a2:Int)(hb:zG big [.one (.s .slot a0),.one (.i .i64 a1),.one (.i .i64 a2)])(hc:(zkw a0 a1 a2)=true):∃N,zwy N a0 a1 a2=some [.one (.b (zhb a0 a1 a2))]:=by
 have hl:(_:List _).length<=big:=((zbt hb).1 _ (List.mem_singleton.2 rfl)).len;refine ⟨NN,?_⟩;have hNN:∀{n:Nat},n<=big->n<NN:=fun h=>zb4 h;generalize NN=N at hNN ⊢;unfold zwy;refine (zbF a0 (fun i (t:Unit)=>(a1,a2,(ln a0),(i:Int),a0,())) _ (fun _ x (_:Unit) κ=>bif (fun s=>zeK s a2) x then κ () else some [AV.one (.b false)]) (fun (t:Unit)=>(some [(.one (.b (ieq (ln a0) a1)))])) (fun i hi t rec=>?_) (fun t rec=>?_) _ () (hNN hl)).trans ?_
 ·simp only [zbu hi,zbh hi,zbq hi,zbd hi hl,cT];exact zhZ rfl
 ·simp only [zbk,cF]
 rw [zgr (fun s=>zeK s a2)];refine br (fun h0=>?_) (fun h0=>?_)
 ·first|rfl|(simp only [h0,zhb,zdI,cT,cF]<;>rfl)|(simp_all [Ty.cells,zhb,zdI];done)
 ·first|rfl|(simp only [h0,zhb,zdI,cT,cF]<;>rfl)|(simp_all [Ty.cells,zhb,zdI];done)
theorem zGv:Holds Tryz.prog 172 zqW:=zo ze6 zD zu zA (zC (by kernel_rfl)) fun avs rs hb h=>by
 unfold zqW at h;split at h
 ·obtain ⟨hc,rfl⟩:=zl h;exact (zd7 zN5 zPq hc hb :)
 ·cases h
def zc4 (c:List Int):Bool:=bif c.all (fun x=>win x 0 99) then ieq (ln c) 4 else false
@[simp,reducible] def zfm (c:List Int):Bool:=true
@[simp,reducible] def zeP (c:List Int):Bool:=zc4 c
def ztI:List AV->Option (Bool×List AV)
 | [.one (.s .int c)]=>some ((zfm c),[.one (.b (zeP c))])
 | _=>none
def zz4 (N:Nat)(a0:List Int):Option Ans :=
 (iter (σ:=(Int×((List Int)×Unit))) N (fun r2 s3=>(cond (ilt s3.1 (ln s3.2.1)) (cond (inb s3.1 (ln s3.2.1)) (cond (zZ (ix s3.2.1 s3.1 0) 0 99) (cond (cond (zbf (ix s3.2.1 s3.1 0) 0 99) false true) (some [(.one (.b false))]) (r2 ((zq .i64 s3.1 1),(s3.2.1,())))) none) none) (some [(.one (.b (ieq (ln s3.2.1) 4)))]))) (0,(a0,())))
def zRT:FuncId->Nat->Option Tmpl:=zB [(193,0,{ n:=19,tm:=[(0,.sl 0 []),(3,.i .i64)],lo:=[],ro:=[(0,.int,false)] })]
theorem zTY (N:Nat)(a0:List Int):evalFn (cQ zi3 zV zK zO) zRT N 12 193 [.one (.s .int a0)]=zz4 N a0:=by kernel_rfl
theorem zSw (a0:List Int)(hb:zG big [.one (.s .int a0)])(hc:(zfm a0)=true):∃N,zz4 N a0=some [.one (.b (zeP a0))]:=by
 have hl:(_:List _).length<=big:=((zbt hb).1 _ (List.mem_singleton.2 rfl)).len;refine ⟨NN,?_⟩;have hNN:∀{n:Nat},n<=big->n<NN:=fun h=>zb4 h;generalize NN=N at hNN ⊢;unfold zz4;refine (zbF a0 (fun i (t:Unit)=>((i:Int),a0,())) _ (fun _ x (_:Unit) κ=>bif (fun x=>win x 0 99) x then κ () else some [AV.one (.b false)]) (fun (t:Unit)=>(some [(.one (.b (ieq (ln a0) 4)))])) (fun i hi t rec=>?_) (fun t rec=>?_) _ () (hNN hl)).trans ?_
 ·simp only [zbu hi,zbh hi,zbq hi,zbd hi hl,cT];exact zhZ rfl
 ·simp only [zbk,cF]
 rw [zgr (fun x=>win x 0 99)];refine br (fun h0=>?_) (fun h0=>?_)
 ·first|rfl|(simp only [h0,zeP,zc4,cT,cF]<;>rfl)|(simp_all [Ty.cells,zeP,zc4];done)
 ·first|rfl|(simp only [h0,zeP,zc4,cT,cF]<;>rfl)|(simp_all [Ty.cells,zeP,zc4];done)
theorem zKz:Holds Tryz.prog 193 ztI:=zo ze6 zD zu zA (zC (by kernel_rfl)) fun avs rs hb h=>by
 unfold ztI at h;split at h
 ·obtain ⟨hc,rfl⟩:=zl h;exact (fin1 zSw zTY hc hb :)
 ·cases h
@[simp,reducible] def zgY (c:List Int):Bool:=true
@[simp,reducible] def zfP (c:List Int):Bool:=zc4 c
def zuD:List AV->Option (Bool×List AV)
 | [.one (.s .int c)]=>some ((zgY c),[.one (.b (zfP c))])
 | _=>none
def zzx (N:Nat)(a0:List Int):Option Ans :=
 (iter (σ:=(Int×(Int×((List Int)×Unit)))) N (fun r2 s3=>(cond (ilt s3.2.1 s3.1) (cond (inb s3.2.1 (ln s3.2.2.1)) (cond (zbn (ix s3.2.2.1 s3.2.1 0) 0 99) (cond (cond (zbx (ix s3.2.2.1 s3.2.1 0) 0 99) false true) (some [(.one (.b false))]) (r2 (s3.1,((zq .i64 s3.2.1 1),(s3.2.2.1,()))))) none) none) (some [(.one (.b (ieq (ln s3.2.2.1) 4)))]))) ((ln a0),(0,(a0,()))))
def zQA:FuncId->Nat->Option Tmpl:=zB [(171,0,{ n:=18,tm:=[(0,.sl 0 []),(5,.sl 0 []),(6,.i .i64),(7,.i .i64)],lo:=[],ro:=[(0,.int,false)] })]
theorem zUd (N:Nat)(a0:List Int):evalFn (cQ zi3 zV zK zO) zQA N 12 171 [.one (.s .int a0)]=zzx N a0:=by kernel_rfl
theorem zQC (a0:List Int)(hb:zG big [.one (.s .int a0)])(hc:(zgY a0)=true):∃N,zzx N a0=some [.one (.b (zfP a0))]:=by
 have hl:(_:List _).length<=big:=((zbt hb).1 _ (List.mem_singleton.2 rfl)).len;refine ⟨NN,?_⟩;have hNN:∀{n:Nat},n<=big->n<NN:=fun h=>zb4 h;generalize NN=N at hNN ⊢;unfold zzx;refine (zbF a0 (fun i (t:Unit)=>((ln a0),(i:Int),a0,())) _ (fun _ x (_:Unit) κ=>bif (fun x=>win x 0 99) x then κ () else some [AV.one (.b false)]) (fun (t:Unit)=>(some [(.one (.b (ieq (ln a0) 4)))])) (fun i hi t rec=>?_) (fun t rec=>?_) _ () (hNN hl)).trans ?_
 ·simp only [zbu hi,zbh hi,zbq hi,zbd hi hl,cT];exact zhZ rfl
 ·simp only [zbk,cF]
 rw [zgr (fun x=>win x 0 99)];refine br (fun h0=>?_) (fun h0=>?_)
 ·first|rfl|(simp only [h0,zfP,zc4,cT,cF]<;>rfl)|(simp_all [Ty.cells,zfP,zc4];done)
 ·first|rfl|(simp only [h0,zfP,zc4,cT,cF]<;>rfl)|(simp_all [Ty.cells,zfP,zc4];done)
theorem zKh:Holds Tryz.prog 171 zuD:=zo ze6 zD zu zA (zC (by kernel_rfl)) fun avs rs hb h=>by
 unfold zuD at h;split at h
 ·obtain ⟨hc,rfl⟩:=zl h;exact (fin1 zQC zUd hc hb :)
 ·cases h
def zmI (i:Ins):Bool:=bif (ieq i.Op 1||ieq i.Op 2||ieq i.Op 5||ieq i.Op 6) then win i.X 0 99 else (cond (ieq i.Op 3||ieq i.Op 4) (win i.X 0 15) (cond (ieq i.Op 7) (ieq i.X 0) (cond (ieq i.Op 8) (win i.X 0 11) false)))
@[simp,reducible] def zCo (i:Ins):Bool:=true
@[simp,reducible] def zya (i:Ins):Bool:=zmI i
def zw5:List AV->Option (Bool×List AV)
 | [.agg [.i .i64 c,.i .i64 d]]=>some ((zCo (⟨c,d⟩:Ins)),[.one (.b (zya (⟨c,d⟩:Ins)))])
 | _=>none
def zCj (N:Nat)(a0:Ins):Option Ans :=
 (cond (ieq a0.Op 1) (cond (ieq a0.Op 1) (cond (zZ a0.X 0 99) (some [(.one (.b (zbf a0.X 0 99)))]) none) (cond (ieq a0.Op 3) (cond (ieq a0.Op 3) (cond (zZ a0.X 0 15) (some [(.one (.b (zbf a0.X 0 15)))]) none) (cond (ieq a0.Op 7) (some [(.one (.b (ieq a0.X 0)))]) (cond (ieq a0.Op 8) (cond (zZ a0.X 0 11) (some [(.one (.b (zbf a0.X 0 11)))]) none) (some [(.one (.b false))])))) (cond (ieq a0.Op 4) (cond (zZ a0.X 0 15) (some [(.one (.b (zbf a0.X 0 15)))]) none) (cond (ieq a0.Op 7) (some [(.one (.b (ieq a0.X 0)))]) (cond (ieq a0.Op 8) (cond (zZ a0.X 0 11) (some [(.one (.b (zbf a0.X 0 11)))]) none) (some [(.one (.b false))])))))) (cond (ieq a0.Op 2) (cond (ieq a0.Op 2) (cond (zZ a0.X 0 99) (some [(.one (.b (zbf a0.X 0 99)))]) none) (cond (ieq a0.Op 3) (cond (ieq a0.Op 3) (cond (zZ a0.X 0 15) (some [(.one (.b (zbf a0.X 0 15)))]) none) (cond (ieq a0.Op 7) (some [(.one (.b (ieq a0.X 0)))]) (cond (ieq a0.Op 8) (cond (zZ a0.X 0 11) (some [(.one (.b (zbf a0.X 0 11)))]) none) (some [(.one (.b false))])))) (cond (ieq a0.Op 4) (cond (zZ a0.X 0 15) (some [(.one (.b (zbf a0.X 0 15)))]) none) (cond (ieq a0.Op 7) (some [(.one (.b (ieq a0.X 0)))]) (cond (ieq a0.Op 8) (cond (zZ a0.X 0 11) (some [(.one (.b (zbf a0.X 0 11)))]) none) (some [(.one (.b false))])))))) (cond (ieq a0.Op 5) (cond (ieq a0.Op 5) (cond (zZ a0.X 0 99) (some [(.one (.b (zbf a0.X 0 99)))]) none) (cond (ieq a0.Op 3) (cond (ieq a0.Op 3) (cond (zZ a0.X 0 15) (some [(.one (.b (zbf a0.X 0 15)))]) none) (cond (ieq a0.Op 7) (some [(.one (.b (ieq a0.X 0)))]) (cond (ieq a0.Op 8) (cond (zZ a0.X 0 11) (some [(.one (.b (zbf a0.X 0 11)))]) none) (some [(.one (.b false))])))) (cond (ieq a0.Op 4) (cond (zZ a0.X 0 15) (some [(.one (.b (zbf a0.X 0 15)))]) none) (cond (ieq a0.Op 7) (some [(.one (.b (ieq a0.X 0)))]) (cond (ieq a0.Op 8) (cond (zZ a0.X 0 11) (some [(.one (.b (zbf a0.X 0 11)))]) none) (some [(.one (.b false))])))))) (cond (ieq a0.Op 6) (cond (zZ a0.X 0 99) (some [(.one (.b (zbf a0.X 0 99)))]) none) (cond (ieq a0.Op 3) (cond (ieq a0.Op 3) (cond (zZ a0.X 0 15) (some [(.one (.b (zbf a0.X 0 15)))]) none) (cond (ieq a0.Op 7) (some [(.one (.b (ieq a0.X 0)))]) (cond (ieq a0.Op 8) (cond (zZ a0.X 0 11) (some [(.one (.b (zbf a0.X 0 11)))]) none) (some [(.one (.b false))])))) (cond (ieq a0.Op 4) (cond (zZ a0.X 0 15) (some [(.one (.b (zbf a0.X 0 15)))]) none) (cond (ieq a0.Op 7) (some [(.one (.b (ieq a0.X 0)))]) (cond (ieq a0.Op 8) (cond (zZ a0.X 0 11) (some [(.one (.b (zbf a0.X 0 11)))]) none) (some [(.one (.b false))])))))))))
theorem zWS (N:Nat)(a0:Ins):evalFn (cQ zi3 zV zK zO) (zB []) N 12 246 [.agg (Ty.cells .ins a0)]=zCj N a0:=by kernel_rfl
theorem zS9 (a0:Ins)(hb:zG big [.agg (Ty.cells .ins a0)])(hc:(zCo a0)=true):∃N,zCj N a0=some [.one (.b (zya a0))]:=by
 refine ⟨0,?_⟩;unfold zCj;refine br (fun _=>br (fun _=>must rfl ?_) (fun _=>br (fun _=>br (fun _=>must rfl ?_) (fun _=>br (fun _=>?_) (fun _=>br (fun _=>must rfl ?_) (fun _=>?_)))) (fun _=>br (fun _=>must rfl ?_) (fun _=>br (fun _=>?_) (fun _=>br (fun _=>must rfl ?_) (fun _=>?_)))))) (fun _=>br (fun _=>br (fun _=>must rfl ?_) (fun _=>br (fun _=>br (fun _=>must rfl ?_) (fun _=>br (fun _=>?_) (fun _=>br (fun _=>must rfl ?_) (fun _=>?_)))) (fun _=>br (fun _=>must rfl ?_) (fun _=>br (fun _=>?_) (fun _=>br (fun _=>must rfl ?_) (fun _=>?_)))))) (fun _=>br (fun _=>br (fun _=>must rfl ?_) (fun _=>br (fun _=>br (fun _=>must rfl ?_) (fun _=>br (fun _=>?_) (fun _=>br (fun _=>must rfl ?_) (fun _=>?_)))) (fun _=>br (fun _=>must rfl ?_) (fun _=>br (fun _=>?_) (fun _=>br (fun _=>must rfl ?_) (fun _=>?_)))))) (fun _=>br (fun _=>must rfl ?_) (fun _=>br (fun _=>br (fun _=>must rfl ?_) (fun _=>br (fun _=>?_) (fun _=>br (fun _=>must rfl ?_) (fun _=>?_)))) (fun _=>br (fun _=>must rfl ?_) (fun _=>br (fun _=>?_) (fun _=>br (fun _=>must rfl ?_) (fun _=>?_))))))))
 all_goals first|rfl|(simp only [*,zya,zmI,cT,cF]<;>rfl)|simp_all [Ty.cells,zya,zmI]
theorem zNW:Holds Tryz.prog 246 zw5:=zo ze6 zD zu zA (zC (by kernel_rfl)) fun avs rs hb h=>by
 unfold zw5 at h;split at h
 ·obtain ⟨hc,rfl⟩:=zl h;exact (fin1 zS9 zWS hc hb :)
 ·cases h
@[simp,reducible] def zBA (i:Ins):Bool:=true
@[simp,reducible] def zxG (i:Ins):Bool:=zmI i
def zxq:List AV->Option (Bool×List AV)
 | [.agg [.i .i64 c,.i .i64 d]]=>some ((zBA (⟨c,d⟩:Ins)),[.one (.b (zxG (⟨c,d⟩:Ins)))])
 | _=>none
def zBH (N:Nat)(a0:Ins):Option Ans :=
 (cond (ieq a0.Op 1) (cond (ieq a0.Op 1) (cond (zbn a0.X 0 99) (some [(.one (.b (zbx a0.X 0 99)))]) none) (cond (ieq a0.Op 3) (cond (ieq a0.Op 3) (cond (zbn a0.X 0 15) (some [(.one (.b (zbx a0.X 0 15)))]) none) (cond (ieq a0.Op 7) (some [(.one (.b (ieq a0.X 0)))]) (cond (ieq a0.Op 8) (cond (zbn a0.X 0 11) (some [(.one (.b (zbx a0.X 0 11)))]) none) (some [(.one (.b false))])))) (cond (ieq a0.Op 4) (cond (zbn a0.X 0 15) (some [(.one (.b (zbx a0.X 0 15)))]) none) (cond (ieq a0.Op 7) (some [(.one (.b (ieq a0.X 0)))]) (cond (ieq a0.Op 8) (cond (zbn a0.X 0 11) (some [(.one (.b (zbx a0.X 0 11)))]) none) (some [(.one (.b false))])))))) (cond (ieq a0.Op 2) (cond (ieq a0.Op 2) (cond (zbn a0.X 0 99) (some [(.one (.b (zbx a0.X 0 99)))]) none) (cond (ieq a0.Op 3) (cond (ieq a0.Op 3) (cond (zbn a0.X 0 15) (some [(.one (.b (zbx a0.X 0 15)))]) none) (cond (ieq a0.Op 7) (some [(.one (.b (ieq a0.X 0)))]) (cond (ieq a0.Op 8) (cond (zbn a0.X 0 11) (some [(.one (.b (zbx a0.X 0 11)))]) none) (some [(.one (.b false))])))) (cond (ieq a0.Op 4) (cond (zbn a0.X 0 15) (some [(.one (.b (zbx a0.X 0 15)))]) none) (cond (ieq a0.Op 7) (some [(.one (.b (ieq a0.X 0)))]) (cond (ieq a0.Op 8) (cond (zbn a0.X 0 11) (some [(.one (.b (zbx a0.X 0 11)))]) none) (some [(.one (.b false))])))))) (cond (ieq a0.Op 5) (cond (ieq a0.Op 5) (cond (zbn a0.X 0 99) (some [(.one (.b (zbx a0.X 0 99)))]) none) (cond (ieq a0.Op 3) (cond (ieq a0.Op 3) (cond (zbn a0.X 0 15) (some [(.one (.b (zbx a0.X 0 15)))]) none) (cond (ieq a0.Op 7) (some [(.one (.b (ieq a0.X 0)))]) (cond (ieq a0.Op 8) (cond (zbn a0.X 0 11) (some [(.one (.b (zbx a0.X 0 11)))]) none) (some [(.one (.b false))])))) (cond (ieq a0.Op 4) (cond (zbn a0.X 0 15) (some [(.one (.b (zbx a0.X 0 15)))]) none) (cond (ieq a0.Op 7) (some [(.one (.b (ieq a0.X 0)))]) (cond (ieq a0.Op 8) (cond (zbn a0.X 0 11) (some [(.one (.b (zbx a0.X 0 11)))]) none) (some [(.one (.b false))])))))) (cond (ieq a0.Op 6) (cond (zbn a0.X 0 99) (some [(.one (.b (zbx a0.X 0 99)))]) none) (cond (ieq a0.Op 3) (cond (ieq a0.Op 3) (cond (zbn a0.X 0 15) (some [(.one (.b (zbx a0.X 0 15)))]) none) (cond (ieq a0.Op 7) (some [(.one (.b (ieq a0.X 0)))]) (cond (ieq a0.Op 8) (cond (zbn a0.X 0 11) (some [(.one (.b (zbx a0.X 0 11)))]) none) (some [(.one (.b false))])))) (cond (ieq a0.Op 4) (cond (zbn a0.X 0 15) (some [(.one (.b (zbx a0.X 0 15)))]) none) (cond (ieq a0.Op 7) (some [(.one (.b (ieq a0.X 0)))]) (cond (ieq a0.Op 8) (cond (zbn a0.X 0 11) (some [(.one (.b (zbx a0.X 0 11)))]) none) (some [(.one (.b false))])))))))))
theorem zXF (N:Nat)(a0:Ins):evalFn (cQ zi3 zV zK zO) (zB []) N 12 233 [.agg (Ty.cells .ins a0)]=zBH N a0:=by kernel_rfl
theorem zUR (a0:Ins)(hb:zG big [.agg (Ty.cells .ins a0)])(hc:(zBA a0)=true):∃N,zBH N a0=some [.one (.b (zxG a0))]:=by
 refine ⟨0,?_⟩;unfold zBH;refine br (fun _=>br (fun _=>must rfl ?_) (fun _=>br (fun _=>br (fun _=>must rfl ?_) (fun _=>br (fun _=>?_) (fun _=>br (fun _=>must rfl ?_) (fun _=>?_)))) (fun _=>br (fun _=>must rfl ?_) (fun _=>br (fun _=>?_) (fun _=>br (fun _=>must rfl ?_) (fun _=>?_)))))) (fun _=>br (fun _=>br (fun _=>must rfl ?_) (fun _=>br (fun _=>br (fun _=>must rfl ?_) (fun _=>br (fun _=>?_) (fun _=>br (fun _=>must rfl ?_) (fun _=>?_)))) (fun _=>br (fun _=>must rfl ?_) (fun _=>br (fun _=>?_) (fun _=>br (fun _=>must rfl ?_) (fun _=>?_)))))) (fun _=>br (fun _=>br (fun _=>must rfl ?_) (fun _=>br (fun _=>br (fun _=>must rfl ?_) (fun _=>br (fun _=>?_) (fun _=>br (fun _=>must rfl ?_) (fun _=>?_)))) (fun _=>br (fun _=>must rfl ?_) (fun _=>br (fun _=>?_) (fun _=>br (fun _=>must rfl ?_) (fun _=>?_)))))) (fun _=>br (fun _=>must rfl ?_) (fun _=>br (fun _=>br (fun _=>must rfl ?_) (fun _=>br (fun _=>?_) (fun _=>br (fun _=>must rfl ?_) (fun _=>?_)))) (fun _=>br (fun _=>must rfl ?_) (fun _=>br (fun _=>?_) (fun _=>br (fun _=>must rfl ?_) (fun _=>?_))))))))
 all_goals first|rfl|(simp only [*,zxG,zmI,cT,cF]<;>rfl)|simp_all [Ty.cells,zxG,zmI]
theorem zOa:Holds Tryz.prog 233 zxq:=zo ze6 zD zu zA (zC (by kernel_rfl)) fun avs rs hb h=>by
 unfold zxq at h;split at h
 ·obtain ⟨hc,rfl⟩:=zl h;exact (fin1 zUR zXF hc hb :)
 ·cases h
def zsZ (e:GExit):Bool:=bif (ieq e.Kind 0||ieq e.Kind 4) then (ieq e.Page 0&&(!e.Write&&ieq e.N 0)) else (cond (ieq e.Kind 1) (win e.Page 0 3&&ieq e.N 0) (cond (ieq e.Kind 2||ieq e.Kind 3) (win e.N 0 99&&(ieq e.Page 0 && !e.Write)) false))
@[simp] theorem z3y (x:Bool):zhr x false = !x:=by cases x<;>rfl
attribute [simp] zfN
@[simp,reducible] def zzT (e:GExit):Bool:=true
@[simp,reducible] def zuF (e:GExit):Bool:=zsZ e
def ztl:List AV->Option (Bool×List AV)
 | [.agg [.i .i64 c,.i .i64 d,.b e,.i .i64 f]]=>some ((zzT (⟨c,d,e,f⟩:GExit)),[.one (.b (zuF (⟨c,d,e,f⟩:GExit)))])
 | _=>none
def zAd (N:Nat)(a0:GExit):Option Ans :=
 (cond (ieq a0.Kind 0) (cond (ieq a0.Kind 0) (some [(.one (.b (cond (ieq a0.Kind a0.Kind) (cond (ieq a0.Page 0) (cond (zhr a0.Write false) (ieq a0.N 0) false) false) false)))]) (cond (ieq a0.Kind 1) (cond (zZ a0.Page 0 3) (cond (zbf a0.Page 0 3) (some [(.one (.b (ieq a0.N 0)))]) (some [(.one (.b false))])) none) (cond (ieq a0.Kind 2) (cond (ieq a0.Kind 2) (cond (zZ a0.N 0 99) (cond (zbf a0.N 0 99) (cond (ieq a0.Page 0) (some [(.one (.b (cond a0.Write false true)))]) (some [(.one (.b false))])) (some [(.one (.b false))])) none) (some [(.one (.b false))])) (cond (ieq a0.Kind 3) (cond (zZ a0.N 0 99) (cond (zbf a0.N 0 99) (cond (ieq a0.Page 0) (some [(.one (.b (cond a0.Write false true)))]) (some [(.one (.b false))])) (some [(.one (.b false))])) none) (some [(.one (.b false))]))))) (cond (ieq a0.Kind 4) (some [(.one (.b (cond (ieq a0.Kind a0.Kind) (cond (ieq a0.Page 0) (cond (zhr a0.Write false) (ieq a0.N 0) false) false) false)))]) (cond (ieq a0.Kind 1) (cond (zZ a0.Page 0 3) (cond (zbf a0.Page 0 3) (some [(.one (.b (ieq a0.N 0)))]) (some [(.one (.b false))])) none) (cond (ieq a0.Kind 2) (cond (ieq a0.Kind 2) (cond (zZ a0.N 0 99) (cond (zbf a0.N 0 99) (cond (ieq a0.Page 0) (some [(.one (.b (cond a0.Write false true)))]) (some [(.one (.b false))])) (some [(.one (.b false))])) none) (some [(.one (.b false))])) (cond (ieq a0.Kind 3) (cond (zZ a0.N 0 99) (cond (zbf a0.N 0 99) (cond (ieq a0.Page 0) (some [(.one (.b (cond a0.Write false true)))]) (some [(.one (.b false))])) (some [(.one (.b false))])) none) (some [(.one (.b false))]))))))
theorem zTv (N:Nat)(a0:GExit):evalFn (cQ zi3 zV zK zO) (zB []) N 12 224 [.agg (zdT a0)]=zAd N a0:=by kernel_rfl
theorem zS6 (a0:GExit)(hb:zG big [.agg (zdT a0)])(hc:(zzT a0)=true):∃N,zAd N a0=some [.one (.b (zuF a0))]:=by
 refine ⟨0,?_⟩;unfold zAd;refine br (fun _=>br (fun _=>?_) (fun _=>br (fun _=>must rfl (br (fun _=>?_) (fun _=>?_))) (fun _=>br (fun _=>br (fun _=>must rfl (br (fun _=>br (fun _=>?_) (fun _=>?_)) (fun _=>?_))) (fun _=>?_)) (fun _=>br (fun _=>must rfl (br (fun _=>br (fun _=>?_) (fun _=>?_)) (fun _=>?_))) (fun _=>?_))))) (fun _=>br (fun _=>?_) (fun _=>br (fun _=>must rfl (br (fun _=>?_) (fun _=>?_))) (fun _=>br (fun _=>br (fun _=>must rfl (br (fun _=>br (fun _=>?_) (fun _=>?_)) (fun _=>?_))) (fun _=>?_)) (fun _=>br (fun _=>must rfl (br (fun _=>br (fun _=>?_) (fun _=>?_)) (fun _=>?_))) (fun _=>?_)))))
 all_goals first|rfl|(simp only [*,zuF,zsZ,cT,cF]<;>rfl)|simp_all [Ty.cells,zuF,zsZ]
theorem zJf:Holds Tryz.prog 224 ztl:=zo ze6 zD zu zA (zC (by kernel_rfl)) fun avs rs hb h=>by
 unfold ztl at h;split at h
 ·obtain ⟨hc,rfl⟩:=zl h;exact (fin1 zS6 zTv hc hb :)
 ·cases h
@[simp,reducible] def zyq (e:GExit):Bool:=true
@[simp,reducible] def ztn (e:GExit):Bool:=zsZ e
def zsW:List AV->Option (Bool×List AV)
 | [.agg [.i .i64 c,.i .i64 d,.b e,.i .i64 f]]=>some ((zyq (⟨c,d,e,f⟩:GExit)),[.one (.b (ztn (⟨c,d,e,f⟩:GExit)))])
 | _=>none
def zyu (N:Nat)(a0:GExit):Option Ans :=
 (cond (ieq a0.Kind 0) (cond (ieq a0.Kind 0) (cond (ieq a0.Page 0) (cond (cond a0.Write false true) (some [(.one (.b (ieq a0.N 0)))]) (some [(.one (.b false))])) (some [(.one (.b false))])) (cond (ieq a0.Kind 1) (cond (zbn a0.Page 0 3) (cond (zbx a0.Page 0 3) (some [(.one (.b (ieq a0.N 0)))]) (some [(.one (.b false))])) none) (cond (ieq a0.Kind 2) (cond (ieq a0.Kind 2) (cond (zbn a0.N 0 99) (cond (zbx a0.N 0 99) (cond (ieq a0.Page 0) (some [(.one (.b (cond a0.Write false true)))]) (some [(.one (.b false))])) (some [(.one (.b false))])) none) (some [(.one (.b false))])) (cond (ieq a0.Kind 3) (cond (zbn a0.N 0 99) (cond (zbx a0.N 0 99) (cond (ieq a0.Page 0) (some [(.one (.b (cond a0.Write false true)))]) (some [(.one (.b false))])) (some [(.one (.b false))])) none) (some [(.one (.b false))]))))) (cond (ieq a0.Kind 4) (cond (ieq a0.Page 0) (cond (cond a0.Write false true) (some [(.one (.b (ieq a0.N 0)))]) (some [(.one (.b false))])) (some [(.one (.b false))])) (cond (ieq a0.Kind 1) (cond (zbn a0.Page 0 3) (cond (zbx a0.Page 0 3) (some [(.one (.b (ieq a0.N 0)))]) (some [(.one (.b false))])) none) (cond (ieq a0.Kind 2) (cond (ieq a0.Kind 2) (cond (zbn a0.N 0 99) (cond (zbx a0.N 0 99) (cond (ieq a0.Page 0) (some [(.one (.b (cond a0.Write false true)))]) (some [(.one (.b false))])) (some [(.one (.b false))])) none) (some [(.one (.b false))])) (cond (ieq a0.Kind 3) (cond (zbn a0.N 0 99) (cond (zbx a0.N 0 99) (cond (ieq a0.Page 0) (some [(.one (.b (cond a0.Write false true)))]) (some [(.one (.b false))])) (some [(.one (.b false))])) none) (some [(.one (.b false))]))))))
theorem zTf (N:Nat)(a0:GExit):evalFn (cQ zi3 zV zK zO) (zB []) N 12 211 [.agg (zdT a0)]=zyu N a0:=by kernel_rfl
theorem zRf (a0:GExit)(hb:zG big [.agg (zdT a0)])(hc:(zyq a0)=true):∃N,zyu N a0=some [.one (.b (ztn a0))]:=by
 refine ⟨0,?_⟩;unfold zyu;refine br (fun _=>br (fun _=>br (fun _=>brN (fun _=>?_) (fun _=>?_)) (fun _=>?_)) (fun _=>br (fun _=>must rfl (br (fun _=>?_) (fun _=>?_))) (fun _=>br (fun _=>br (fun _=>must rfl (br (fun _=>br (fun _=>?_) (fun _=>?_)) (fun _=>?_))) (fun _=>?_)) (fun _=>br (fun _=>must rfl (br (fun _=>br (fun _=>?_) (fun _=>?_)) (fun _=>?_))) (fun _=>?_))))) (fun _=>br (fun _=>br (fun _=>brN (fun _=>?_) (fun _=>?_)) (fun _=>?_)) (fun _=>br (fun _=>must rfl (br (fun _=>?_) (fun _=>?_))) (fun _=>br (fun _=>br (fun _=>must rfl (br (fun _=>br (fun _=>?_) (fun _=>?_)) (fun _=>?_))) (fun _=>?_)) (fun _=>br (fun _=>must rfl (br (fun _=>br (fun _=>?_) (fun _=>?_)) (fun _=>?_))) (fun _=>?_)))))
 all_goals first|rfl|(simp only [*,ztn,zsZ,cT,cF]<;>rfl)|simp_all [Ty.cells,ztn,zsZ]
theorem zK8:Holds Tryz.prog 211 zsW:=zo ze6 zD zu zA (zC (by kernel_rfl)) fun avs rs hb h=>by
 unfold zsW at h;split at h
 ·obtain ⟨hc,rfl⟩:=zl h;exact (fin1 zRf zTf hc hb :)
 ·cases h
def zi8 (c:Ctl):List Int:=(cond (win c.Traps 0 3) [] [1])++((cond (win c.Post 0 255) [] [2])++((cond (ine c.Post 0) (cond c.Open [] [3]) [])++(cond (ieq c.Traps 2) (cond (ine c.Post 0) [4] []) [])))
@[simp] theorem z3w {α:Type}(x:α)(l m:List α):ap (x :: l) m=x :: ap l m:=rfl
@[simp,reducible] def zq8 (c:Ctl):Bool:=true
@[simp,reducible] def zkx (c:Ctl):List Int:=zi8 c
def zm2:List AV->Option (Bool×List AV)
 | [.agg [.i .i64 c,.i .i64 d,.b e]]=>some ((zq8 (⟨c,d,e⟩:Ctl)),[.one (.s .int (zkx (⟨c,d,e⟩:Ctl)))])
 | _=>none
def zqJ (N:Nat)(a0:Ctl):Option Ans :=
 (cond (zZ a0.Traps 0 3) (cond (cond (zbf a0.Traps 0 3) false true) (cond (few (ln (ap [] [1]))) (cond (zZ a0.Post 0 255) (cond (cond (zbf a0.Post 0 255) false true) (cond (few (ln (ap (ap [] [1]) [2]))) (cond (ine a0.Post 0) (cond (cond a0.Open false true) (cond (few (ln (ap (ap (ap [] [1]) [2]) [3]))) (cond (ieq a0.Traps 2) (cond (ine a0.Post 0) (cond (few (ln (ap (ap (ap (ap [] [1]) [2]) [3]) [4]))) (some [(.one (.s .int (ap (ap (ap (ap [] [1]) [2]) [3]) [4])))]) none) (some [(.one (.s .int (ap (ap (ap [] [1]) [2]) [3])))])) (some [(.one (.s .int (ap (ap (ap [] [1]) [2]) [3])))])) none) (cond (ieq a0.Traps 2) (cond (ine a0.Post 0) (cond (few (ln (ap (ap (ap [] [1]) [2]) [4]))) (some [(.one (.s .int (ap (ap (ap [] [1]) [2]) [4])))]) none) (some [(.one (.s .int (ap (ap [] [1]) [2])))])) (some [(.one (.s .int (ap (ap [] [1]) [2])))]))) (cond (ieq a0.Traps 2) (cond (ine a0.Post 0) (cond (few (ln (ap (ap (ap [] [1]) [2]) [4]))) (some [(.one (.s .int (ap (ap (ap [] [1]) [2]) [4])))]) none) (some [(.one (.s .int (ap (ap [] [1]) [2])))])) (some [(.one (.s .int (ap (ap [] [1]) [2])))]))) none) (cond (ine a0.Post 0) (cond (cond a0.Open false true) (cond (few (ln (ap (ap [] [1]) [3]))) (cond (ieq a0.Traps 2) (cond (ine a0.Post 0) (cond (few (ln (ap (ap (ap [] [1]) [3]) [4]))) (some [(.one (.s .int (ap (ap (ap [] [1]) [3]) [4])))]) none) (some [(.one (.s .int (ap (ap [] [1]) [3])))])) (some [(.one (.s .int (ap (ap [] [1]) [3])))])) none) (cond (ieq a0.Traps 2) (cond (ine a0.Post 0) (cond (few (ln (ap (ap [] [1]) [4]))) (some [(.one (.s .int (ap (ap [] [1]) [4])))]) none) (some [(.one (.s .int (ap [] [1])))])) (some [(.one (.s .int (ap [] [1])))]))) (cond (ieq a0.Traps 2) (cond (ine a0.Post 0) (cond (few (ln (ap (ap [] [1]) [4]))) (some [(.one (.s .int (ap (ap [] [1]) [4])))]) none) (some [(.one (.s .int (ap [] [1])))])) (some [(.one (.s .int (ap [] [1])))])))) none) none) (cond (zZ a0.Post 0 255) (cond (cond (zbf a0.Post 0 255) false true) (cond (few (ln (ap [] [2]))) (cond (ine a0.Post 0) (cond (cond a0.Open false true) (cond (few (ln (ap (ap [] [2]) [3]))) (cond (ieq a0.Traps 2) (cond (ine a0.Post 0) (cond (few (ln (ap (ap (ap [] [2]) [3]) [4]))) (some [(.one (.s .int (ap (ap (ap [] [2]) [3]) [4])))]) none) (some [(.one (.s .int (ap (ap [] [2]) [3])))])) (some [(.one (.s .int (ap (ap [] [2]) [3])))])) none) (cond (ieq a0.Traps 2) (cond (ine a0.Post 0) (cond (few (ln (ap (ap [] [2]) [4]))) (some [(.one (.s .int (ap (ap [] [2]) [4])))]) none) (some [(.one (.s .int (ap [] [2])))])) (some [(.one (.s .int (ap [] [2])))]))) (cond (ieq a0.Traps 2) (cond (ine a0.Post 0) (cond (few (ln (ap (ap [] [2]) [4]))) (some [(.one (.s .int (ap (ap [] [2]) [4])))]) none) (some [(.one (.s .int (ap [] [2])))])) (some [(.one (.s .int (ap [] [2])))]))) none) (cond (ine a0.Post 0) (cond (cond a0.Open false true) (cond (few (ln (ap [] [3]))) (cond (ieq a0.Traps 2) (cond (ine a0.Post 0) (cond (few (ln (ap (ap [] [3]) [4]))) (some [(.one (.s .int (ap (ap [] [3]) [4])))]) none) (some [(.one (.s .int (ap [] [3])))])) (some [(.one (.s .int (ap [] [3])))])) none) (cond (ieq a0.Traps 2) (cond (ine a0.Post 0) (cond (few (ln (ap [] [4]))) (some [(.one (.s .int (ap [] [4])))]) none) (some [(.one (.s .int []))])) (some [(.one (.s .int []))]))) (cond (ieq a0.Traps 2) (cond (ine a0.Post 0) (cond (few (ln (ap [] [4]))) (some [(.one (.s .int (ap [] [4])))]) none) (some [(.one (.s .int []))])) (some [(.one (.s .int []))])))) none)) none)
theorem zJG (N:Nat)(a0:Ctl):evalFn (cQ zi3 zV zK zO) (zB []) N 12 247 [.agg (zkv a0)]=zqJ N a0:=by kernel_rfl
theorem zHG (a0:Ctl)(hb:zG big [.agg (zkv a0)])(hc:(zq8 a0)=true):∃N,zqJ N a0=some [.one (.s .int (zkx a0))]:=by
 refine ⟨0,?_⟩;unfold zqJ;refine must rfl (brN (fun _=>must (by first|assumption|(simp_all<;>omega)) (must rfl (brN (fun _=>must (by first|assumption|(simp_all<;>omega)) (br (fun _=>brN (fun _=>must (by first|assumption|(simp_all<;>omega)) (br (fun _=>br (fun _=>must (by first|assumption|(simp_all<;>omega)) ?_) (fun _=>?_)) (fun _=>?_))) (fun _=>br (fun _=>br (fun _=>must (by first|assumption|(simp_all<;>omega)) ?_) (fun _=>?_)) (fun _=>?_))) (fun _=>br (fun _=>br (fun _=>must (by first|assumption|(simp_all<;>omega)) ?_) (fun _=>?_)) (fun _=>?_)))) (fun _=>br (fun _=>brN (fun _=>must (by first|assumption|(simp_all<;>omega)) (br (fun _=>br (fun _=>must (by first|assumption|(simp_all<;>omega)) ?_) (fun _=>?_)) (fun _=>?_))) (fun _=>br (fun _=>br (fun _=>must (by first|assumption|(simp_all<;>omega)) ?_) (fun _=>?_)) (fun _=>?_))) (fun _=>br (fun _=>br (fun _=>must (by first|assumption|(simp_all<;>omega)) ?_) (fun _=>?_)) (fun _=>?_)))))) (fun _=>must rfl (brN (fun _=>must (by first|assumption|(simp_all<;>omega)) (br (fun _=>brN (fun _=>must (by first|assumption|(simp_all<;>omega)) (br (fun _=>br (fun _=>must (by first|assumption|(simp_all<;>omega)) ?_) (fun _=>?_)) (fun _=>?_))) (fun _=>br (fun _=>br (fun _=>must (by first|assumption|(simp_all<;>omega)) ?_) (fun _=>?_)) (fun _=>?_))) (fun _=>br (fun _=>br (fun _=>must (by first|assumption|(simp_all<;>omega)) ?_) (fun _=>?_)) (fun _=>?_)))) (fun _=>br (fun _=>brN (fun _=>must (by first|assumption|(simp_all<;>omega)) (br (fun _=>br (fun _=>must (by first|assumption|(simp_all<;>omega)) ?_) (fun _=>?_)) (fun _=>?_))) (fun _=>br (fun _=>br (fun _=>must (by first|assumption|(simp_all<;>omega)) ?_) (fun _=>?_)) (fun _=>?_))) (fun _=>br (fun _=>br (fun _=>must (by first|assumption|(simp_all<;>omega)) ?_) (fun _=>?_)) (fun _=>?_))))))
 all_goals first|rfl|(simp only [*,zkx,zi8,cT,cF]<;>rfl)|simp_all [Ty.cells,zkx,zi8]
theorem zDA:Holds Tryz.prog 247 zm2:=zo ze6 zD zu zA (zC (by kernel_rfl)) fun avs rs hb h=>by
 unfold zm2 at h;split at h
 ·obtain ⟨hc,rfl⟩:=zl h;exact (fin1 zHG zJG hc hb :)
 ·cases h
@[simp,reducible] def zqY (c:Ctl):Bool:=true
@[simp,reducible] def zkH (c:Ctl):List Int:=zi8 c
def zno:List AV->Option (Bool×List AV)
 | [.agg [.i .i64 c,.i .i64 d,.b e]]=>some ((zqY (⟨c,d,e⟩:Ctl)),[.one (.s .int (zkH (⟨c,d,e⟩:Ctl)))])
 | _=>none
def zpJ (N:Nat)(a0:Ctl):Option Ans :=
 (cond (zbn a0.Traps 0 3) (cond (cond (zbx a0.Traps 0 3) false true) (cond (few (ln (ap [] [1]))) (cond (zbn a0.Post 0 255) (cond (cond (zbx a0.Post 0 255) false true) (cond (few (ln (ap (ap [] [1]) [2]))) (cond (ine a0.Post 0) (cond (cond a0.Open false true) (cond (few (ln (ap (ap (ap [] [1]) [2]) [3]))) (cond (ieq a0.Traps 2) (cond (ine a0.Post 0) (cond (few (ln (ap (ap (ap (ap [] [1]) [2]) [3]) [4]))) (some [(.one (.s .int (ap (ap (ap (ap [] [1]) [2]) [3]) [4])))]) none) (some [(.one (.s .int (ap (ap (ap [] [1]) [2]) [3])))])) (some [(.one (.s .int (ap (ap (ap [] [1]) [2]) [3])))])) none) (cond (ieq a0.Traps 2) (cond (ine a0.Post 0) (cond (few (ln (ap (ap (ap [] [1]) [2]) [4]))) (some [(.one (.s .int (ap (ap (ap [] [1]) [2]) [4])))]) none) (some [(.one (.s .int (ap (ap [] [1]) [2])))])) (some [(.one (.s .int (ap (ap [] [1]) [2])))]))) (cond (ieq a0.Traps 2) (cond (ine a0.Post 0) (cond (few (ln (ap (ap (ap [] [1]) [2]) [4]))) (some [(.one (.s .int (ap (ap (ap [] [1]) [2]) [4])))]) none) (some [(.one (.s .int (ap (ap [] [1]) [2])))])) (some [(.one (.s .int (ap (ap [] [1]) [2])))]))) none) (cond (ine a0.Post 0) (cond (cond a0.Open false true) (cond (few (ln (ap (ap [] [1]) [3]))) (cond (ieq a0.Traps 2) (cond (ine a0.Post 0) (cond (few (ln (ap (ap (ap [] [1]) [3]) [4]))) (some [(.one (.s .int (ap (ap (ap [] [1]) [3]) [4])))]) none) (some [(.one (.s .int (ap (ap [] [1]) [3])))])) (some [(.one (.s .int (ap (ap [] [1]) [3])))])) none) (cond (ieq a0.Traps 2) (cond (ine a0.Post 0) (cond (few (ln (ap (ap [] [1]) [4]))) (some [(.one (.s .int (ap (ap [] [1]) [4])))]) none) (some [(.one (.s .int (ap [] [1])))])) (some [(.one (.s .int (ap [] [1])))]))) (cond (ieq a0.Traps 2) (cond (ine a0.Post 0) (cond (few (ln (ap (ap [] [1]) [4]))) (some [(.one (.s .int (ap (ap [] [1]) [4])))]) none) (some [(.one (.s .int (ap [] [1])))])) (some [(.one (.s .int (ap [] [1])))])))) none) none) (cond (zbn a0.Post 0 255) (cond (cond (zbx a0.Post 0 255) false true) (cond (few (ln (ap [] [2]))) (cond (ine a0.Post 0) (cond (cond a0.Open false true) (cond (few (ln (ap (ap [] [2]) [3]))) (cond (ieq a0.Traps 2) (cond (ine a0.Post 0) (cond (few (ln (ap (ap (ap [] [2]) [3]) [4]))) (some [(.one (.s .int (ap (ap (ap [] [2]) [3]) [4])))]) none) (some [(.one (.s .int (ap (ap [] [2]) [3])))])) (some [(.one (.s .int (ap (ap [] [2]) [3])))])) none) (cond (ieq a0.Traps 2) (cond (ine a0.Post 0) (cond (few (ln (ap (ap [] [2]) [4]))) (some [(.one (.s .int (ap (ap [] [2]) [4])))]) none) (some [(.one (.s .int (ap [] [2])))])) (some [(.one (.s .int (ap [] [2])))]))) (cond (ieq a0.Traps 2) (cond (ine a0.Post 0) (cond (few (ln (ap (ap [] [2]) [4]))) (some [(.one (.s .int (ap (ap [] [2]) [4])))]) none) (some [(.one (.s .int (ap [] [2])))])) (some [(.one (.s .int (ap [] [2])))]))) none) (cond (ine a0.Post 0) (cond (cond a0.Open false true) (cond (few (ln (ap [] [3]))) (cond (ieq a0.Traps 2) (cond (ine a0.Post 0) (cond (few (ln (ap (ap [] [3]) [4]))) (some [(.one (.s .int (ap (ap [] [3]) [4])))]) none) (some [(.one (.s .int (ap [] [3])))])) (some [(.one (.s .int (ap [] [3])))])) none) (cond (ieq a0.Traps 2) (cond (ine a0.Post 0) (cond (few (ln (ap [] [4]))) (some [(.one (.s .int (ap [] [4])))]) none) (some [(.one (.s .int []))])) (some [(.one (.s .int []))]))) (cond (ieq a0.Traps 2) (cond (ine a0.Post 0) (cond (few (ln (ap [] [4]))) (some [(.one (.s .int (ap [] [4])))]) none) (some [(.one (.s .int []))])) (some [(.one (.s .int []))])))) none)) none)
theorem zLL (N:Nat)(a0:Ctl):evalFn (cQ zi3 zV zK zO) (zB []) N 12 234 [.agg (zkv a0)]=zpJ N a0:=by kernel_rfl
theorem zGE (a0:Ctl)(hb:zG big [.agg (zkv a0)])(hc:(zqY a0)=true):∃N,zpJ N a0=some [.one (.s .int (zkH a0))]:=by
 refine ⟨0,?_⟩;unfold zpJ;refine must rfl (brN (fun _=>must (by first|assumption|(simp_all<;>omega)) (must rfl (brN (fun _=>must (by first|assumption|(simp_all<;>omega)) (br (fun _=>brN (fun _=>must (by first|assumption|(simp_all<;>omega)) (br (fun _=>br (fun _=>must (by first|assumption|(simp_all<;>omega)) ?_) (fun _=>?_)) (fun _=>?_))) (fun _=>br (fun _=>br (fun _=>must (by first|assumption|(simp_all<;>omega)) ?_) (fun _=>?_)) (fun _=>?_))) (fun _=>br (fun _=>br (fun _=>must (by first|assumption|(simp_all<;>omega)) ?_) (fun _=>?_)) (fun _=>?_)))) (fun _=>br (fun _=>brN (fun _=>must (by first|assumption|(simp_all<;>omega)) (br (fun _=>br (fun _=>must (by first|assumption|(simp_all<;>omega)) ?_) (fun _=>?_)) (fun _=>?_))) (fun _=>br (fun _=>br (fun _=>must (by first|assumption|(simp_all<;>omega)) ?_) (fun _=>?_)) (fun _=>?_))) (fun _=>br (fun _=>br (fun _=>must (by first|assumption|(simp_all<;>omega)) ?_) (fun _=>?_)) (fun _=>?_)))))) (fun _=>must rfl (brN (fun _=>must (by first|assumption|(simp_all<;>omega)) (br (fun _=>brN (fun _=>must (by first|assumption|(simp_all<;>omega)) (br (fun _=>br (fun _=>must (by first|assumption|(simp_all<;>omega)) ?_) (fun _=>?_)) (fun _=>?_))) (fun _=>br (fun _=>br (fun _=>must (by first|assumption|(simp_all<;>omega)) ?_) (fun _=>?_)) (fun _=>?_))) (fun _=>br (fun _=>br (fun _=>must (by first|assumption|(simp_all<;>omega)) ?_) (fun _=>?_)) (fun _=>?_)))) (fun _=>br (fun _=>brN (fun _=>must (by first|assumption|(simp_all<;>omega)) (br (fun _=>br (fun _=>must (by first|assumption|(simp_all<;>omega)) ?_) (fun _=>?_)) (fun _=>?_))) (fun _=>br (fun _=>br (fun _=>must (by first|assumption|(simp_all<;>omega)) ?_) (fun _=>?_)) (fun _=>?_))) (fun _=>br (fun _=>br (fun _=>must (by first|assumption|(simp_all<;>omega)) ?_) (fun _=>?_)) (fun _=>?_))))))
 all_goals first|rfl|(simp only [*,zkH,zi8,cT,cF]<;>rfl)|simp_all [Ty.cells,zkH,zi8]
theorem zDU:Holds Tryz.prog 234 zno:=zo ze6 zD zu zA (zC (by kernel_rfl)) fun avs rs hb h=>by
 unfold zno at h;split at h
 ·obtain ⟨hc,rfl⟩:=zl h;exact (fin1 zGE zLL hc hb :)
 ·cases h
def len8tab:ByteArray:=⟨⟨[0,1,2,2,3,3,3,3,4,4,4,4,4,4,4,4,5,5,5,5,5,5,5,5,5,5,5,5,5,5,5,5,6,6,6,6,6,6,6,6,6,6,6,6,6,6,6,6,6,6,6,6,6,6,6,6,6,6,6,6,6,6,6,6,7,7,7,7,7,7,7,7,7,7,7,7,7,7,7,7,7,7,7,7,7,7,7,7,7,7,7,7,7,7,7,7,7,7,7,7,7,7,7,7,7,7,7,7,7,7,7,7,7,7,7,7,7,7,7,7,7,7,7,7,7,7,7,7,8,8,8,8,8,8,8,8,8,8,8,8,8,8,8,8,8,8,8,8,8,8,8,8,8,8,8,8,8,8,8,8,8,8,8,8,8,8,8,8,8,8,8,8,8,8,8,8,8,8,8,8,8,8,8,8,8,8,8,8,8,8,8,8,8,8,8,8,8,8,8,8,8,8,8,8,8,8,8,8,8,8,8,8,8,8,8,8,8,8,8,8,8,8,8,8,8,8,8,8,8,8,8,8,8,8,8,8,8,8,8,8,8,8,8,8,8,8,8,8,8,8,8,8,8,8,8,8]⟩⟩
def zf6 (p n:Int):Bool:=ieq (wand .i64 (zeg .i64 p n) 1) 1
def scan (p:Int):Int:=bif zf6 p 7 then 7 else (cond (zf6 p 6) 6 (cond (zf6 p 5) 5 (cond (zf6 p 4) 4 (cond (zf6 p 3) 3 (cond (zf6 p 2) 2 (cond (zf6 p 1) 1 (cond (zf6 p 0) 0 (-1))))))))
theorem z0f:∀n:Fin 256,zq .i64 0 (wcv .i64 (byteAt len8tab (wcv .u8 (n.val:Int))))=scan (n.val:Int)+1:=by decide +kernel
theorem zRP:∀n:Fin 256,-1<=scan (n.val:Int)/\scan (n.val:Int)<=7/\(0<=scan (n.val:Int)->wsub .i64 (n.val:Int) (znE .i64 1 (scan (n.val:Int)))=zyM .i64 (n.val:Int) (znE .i64 1 (scan (n.val:Int)))):=by decide +kernel
theorem zBG {P:Int->Prop}(h:∀n:Fin 256,P (n.val:Int)){x:Int}(h0:0<=x)(h1:x<=255):P x:=by
 have:=h ⟨x.toNat,by omega⟩
 have e:((x.toNat:Nat):Int)=x:=by omega
 simpa [e] using this
def zks (x:Int):Bool:=pc (0<=x/\x<=255)
def zg6 (x:Int):Int:=scan x+1
def zgG:List AV->Option (Bool×List AV)
 | [.one (.i .u64 b)]=>some ((zks b),[.one (.i .i64 (zg6 b))])
 | _=>none
def zki (N:Nat)(a0:Int):Option Ans :=
 (cond (ige a0 4294967296) (cond (ile 0 32) (cond (ige (zeg .u64 a0 32) 65536) (cond (ile 0 16) (cond (ige (zeg .u64 (zeg .u64 a0 32) 16) 256) (cond (ile 0 8) (cond (inb (wcv .u8 (zeg .u64 (zeg .u64 (zeg .u64 a0 32) 16) 8)) 256) (some [(.one (.i .i64 (zq .i64 (zq .i64 (zq .i64 32 16) 8) (wcv .i64 (byteAt len8tab (wcv .u8 (zeg .u64 (zeg .u64 (zeg .u64 a0 32) 16) 8)))))))]) none) none) (cond (inb (wcv .u8 (zeg .u64 (zeg .u64 a0 32) 16)) 256) (some [(.one (.i .i64 (zq .i64 (zq .i64 32 16) (wcv .i64 (byteAt len8tab (wcv .u8 (zeg .u64 (zeg .u64 a0 32) 16)))))))]) none)) none) (cond (ige (zeg .u64 a0 32) 256) (cond (ile 0 8) (cond (inb (wcv .u8 (zeg .u64 (zeg .u64 a0 32) 8)) 256) (some [(.one (.i .i64 (zq .i64 (zq .i64 32 8) (wcv .i64 (byteAt len8tab (wcv .u8 (zeg .u64 (zeg .u64 a0 32) 8)))))))]) none) none) (cond (inb (wcv .u8 (zeg .u64 a0 32)) 256) (some [(.one (.i .i64 (zq .i64 32 (wcv .i64 (byteAt len8tab (wcv .u8 (zeg .u64 a0 32)))))))]) none))) none) (cond (ige a0 65536) (cond (ile 0 16) (cond (ige (zeg .u64 a0 16) 256) (cond (ile 0 8) (cond (inb (wcv .u8 (zeg .u64 (zeg .u64 a0 16) 8)) 256) (some [(.one (.i .i64 (zq .i64 (zq .i64 (zq .i64 0 16) 8) (wcv .i64 (byteAt len8tab (wcv .u8 (zeg .u64 (zeg .u64 a0 16) 8)))))))]) none) none) (cond (inb (wcv .u8 (zeg .u64 a0 16)) 256) (some [(.one (.i .i64 (zq .i64 (zq .i64 0 16) (wcv .i64 (byteAt len8tab (wcv .u8 (zeg .u64 a0 16)))))))]) none)) none) (cond (ige a0 256) (cond (ile 0 8) (cond (inb (wcv .u8 (zeg .u64 a0 8)) 256) (some [(.one (.i .i64 (zq .i64 (zq .i64 0 8) (wcv .i64 (byteAt len8tab (wcv .u8 (zeg .u64 a0 8)))))))]) none) none) (cond (inb (wcv .u8 a0) 256) (some [(.one (.i .i64 (zq .i64 0 (wcv .i64 (byteAt len8tab (wcv .u8 a0))))))]) none))))
theorem zB9 (N:Nat)(a0:Int):evalFn (cQ zi3 zV zK zO) (zB []) N 12 213 [.one (.i .u64 a0)]=zki N a0:=by kernel_rfl
theorem zA3 (a0:Int)(hb:zG big [.one (.i .u64 a0)])(hc:(zks a0)=true):∃N,zki N a0=some [.one (.i .i64 (zg6 a0))]:=by
 obtain ⟨h0,h1⟩:=zI.1 hc;refine ⟨0,?_⟩;unfold zki;refine zex (decide_eq_false (by omega)) ?_
 refine zex (decide_eq_false (by omega)) ?_
 refine zex (decide_eq_false (by omega)) ?_
 have e:inb (wcv .u8 a0) 256=true:=zBG (P:=fun x=>inb (wcv .u8 x) 256=true) (by decide +kernel) h0 h1
 refine must e ?_;have e2:=zBG (P:=fun x=>zq .i64 0 (wcv .i64 (byteAt len8tab (wcv .u8 x)))=scan x+1) z0f h0 h1;rw [e2];rfl
theorem zlz:Holds Tryz.prog 213 zgG:=zo ze6 zD zu zA (zC (by kernel_rfl)) fun avs rs hb h=>by
 unfold zgG at h;split at h
 ·obtain ⟨hc,rfl⟩:=zl h;exact (fin1 zA3 zB9 hc hb :)
 ·cases h
def zi6:zbP:=[(106,ztR),(194,zqs),(172,zqW),(193,ztI),(171,zuD),(246,zw5),(233,zxq),(224,ztl),(211,zsW),(247,zm2),(234,zno),(213,zgG)]++zi3
theorem zfg:zbv zi6:=zn zKA (zn zI4 (zn zGv (zn zKz (zn zKh (zn zNW (zn zOa (zn zJf (zn zK8 (zn zDA (zn zDU (zn zlz ze6)))))))))))
def zh5 (m:List (List Int))(n:Int):Bool:=bif m.all zc4 then ieq (ln m) n else false
@[simp,reducible] def zBS (m:List (List Int))(n:Int):Bool:=true
@[simp,reducible] def zob (m:List (List Int))(n:Int):Bool:=zh5 m n
def zwx:List AV->Option (Bool×List AV)
 | [.one (.s (.sl .int) c),.one (.i .i64 d)]=>some ((zBS c d),[.one (.b (zob c d))])
 | _=>none
def zBU (N:Nat)(a0:List (List Int))(a1:Int):Option Ans :=
 (iter (σ:=(Int×(Int×((List (List Int))×Unit)))) N (fun r3 s4=>(cond (ilt s4.2.1 (ln s4.2.2.1)) (cond (inb s4.2.1 (ln s4.2.2.1)) (cond (zfm (ix s4.2.2.1 s4.2.1 [])) (cond (cond (zeP (ix s4.2.2.1 s4.2.1 [])) false true) (some [(.one (.b false))]) (r3 (s4.1,((zq .i64 s4.2.1 1),(s4.2.2.1,()))))) none) none) (some [(.one (.b (ieq (ln s4.2.2.1) s4.1)))]))) (a1,(0,(a0,()))))
def zTn:FuncId->Nat->Option Tmpl:=zB [(151,0,{ n:=22,tm:=[(0,.sl 0 []),(1,.i .i64),(5,.i .i64)],lo:=[],ro:=[(0,(.sl .int),false)] })]
theorem zWh (N:Nat)(a0:List (List Int))(a1:Int):evalFn (cQ zi6 zV zK zO) zTn N 12 151 [.one (.s (.sl .int) a0),.one (.i .i64 a1)]=zBU N a0 a1:=by kernel_rfl
theorem zUv (a0:List (List Int))(a1:Int)(hb:zG big [.one (.s (.sl .int) a0),.one (.i .i64 a1)])(hc:(zBS a0 a1)=true):∃N,zBU N a0 a1=some [.one (.b (zob a0 a1))]:=by
 have hl:(_:List _).length<=big:=((zbt hb).1 _ (List.mem_singleton.2 rfl)).len;refine ⟨NN,?_⟩;have hNN:∀{n:Nat},n<=big->n<NN:=fun h=>zb4 h;generalize NN=N at hNN ⊢;unfold zBU;refine (zbF a0 (fun i (t:Unit)=>(a1,(i:Int),a0,())) _ (fun _ x (_:Unit) κ=>bif (zc4) x then κ () else some [AV.one (.b false)]) (fun (t:Unit)=>(some [(.one (.b (ieq (ln a0) a1)))])) (fun i hi t rec=>?_) (fun t rec=>?_) _ () (hNN hl)).trans ?_
 ·simp only [zbu hi,zbh hi,zbq hi,zbd hi hl,cT];exact zhZ rfl
 ·simp only [zbk,cF]
 rw [zgr (zc4)];refine br (fun h0=>?_) (fun h0=>?_)
 ·first|rfl|(simp only [h0,zob,zh5,cT,cF]<;>rfl)|(simp_all [Ty.cells,zob,zh5];done)
 ·first|rfl|(simp only [h0,zob,zh5,cT,cF]<;>rfl)|(simp_all [Ty.cells,zob,zh5];done)
theorem zOs:Holds Tryz.prog 151 zwx:=zo zfg zD zu zA (zC (by kernel_rfl)) fun avs rs hb h=>by
 unfold zwx at h;split at h
 ·obtain ⟨hc,rfl⟩:=zl h;exact (fin2 zUv zWh hc hb :)
 ·cases h
@[simp,reducible] def zpz (m:List (List Int))(n:Int):Bool:=true
@[simp,reducible] def zjY (m:List (List Int))(n:Int):Bool:=zh5 m n
def zw7:List AV->Option (Bool×List AV)
 | [.one (.s (.sl .int) c),.one (.i .i64 d)]=>some ((zpz c d),[.one (.b (zjY c d))])
 | _=>none
def zB5 (N:Nat)(a0:List (List Int))(a1:Int):Option Ans :=
 (iter (σ:=(Int×(Int×(Int×((List (List Int))×Unit))))) N (fun r3 s4=>(cond (ilt s4.2.2.1 s4.2.1) (cond (inb s4.2.2.1 (ln s4.2.2.2.1)) (cond (zgY (ix s4.2.2.2.1 s4.2.2.1 [])) (cond (cond (zfP (ix s4.2.2.2.1 s4.2.2.1 [])) false true) (some [(.one (.b false))]) (r3 (s4.1,(s4.2.1,((zq .i64 s4.2.2.1 1),(s4.2.2.2.1,())))))) none) none) (some [(.one (.b (ieq (ln s4.2.2.2.1) s4.1)))]))) (a1,((ln a0),(0,(a0,())))))
def zTc:FuncId->Nat->Option Tmpl:=zB [(117,0,{ n:=21,tm:=[(0,.sl 0 []),(1,.i .i64),(7,.sl 0 []),(8,.i .i64),(9,.i .i64)],lo:=[],ro:=[(0,(.sl .int),false)] })]
theorem zW1 (N:Nat)(a0:List (List Int))(a1:Int):evalFn (cQ zi6 zV zK zO) zTc N 12 117 [.one (.s (.sl .int) a0),.one (.i .i64 a1)]=zB5 N a0 a1:=by kernel_rfl
theorem zTe (a0:List (List Int))(a1:Int)(hb:zG big [.one (.s (.sl .int) a0),.one (.i .i64 a1)])(hc:(zpz a0 a1)=true):∃N,zB5 N a0 a1=some [.one (.b (zjY a0 a1))]:=by
 have hl:(_:List _).length<=big:=((zbt hb).1 _ (List.mem_singleton.2 rfl)).len;refine ⟨NN,?_⟩;have hNN:∀{n:Nat},n<=big->n<NN:=fun h=>zb4 h;generalize NN=N at hNN ⊢;unfold zB5;refine (zbF a0 (fun i (t:Unit)=>(a1,(ln a0),(i:Int),a0,())) _ (fun _ x (_:Unit) κ=>bif (zc4) x then κ () else some [AV.one (.b false)]) (fun (t:Unit)=>(some [(.one (.b (ieq (ln a0) a1)))])) (fun i hi t rec=>?_) (fun t rec=>?_) _ () (hNN hl)).trans ?_
 ·simp only [zbu hi,zbh hi,zbq hi,zbd hi hl,cT];exact zhZ rfl
 ·simp only [zbk,cF]
 rw [zgr (zc4)];refine br (fun h0=>?_) (fun h0=>?_)
 ·first|rfl|(simp only [h0,zjY,zh5,cT,cF]<;>rfl)|(simp_all [Ty.cells,zjY,zh5];done)
 ·first|rfl|(simp only [h0,zjY,zh5,cT,cF]<;>rfl)|(simp_all [Ty.cells,zjY,zh5];done)
theorem zNP:Holds Tryz.prog 117 zw7:=zo zfg zD zu zA (zC (by kernel_rfl)) fun avs rs hb h=>by
 unfold zw7 at h;split at h
 ·obtain ⟨hc,rfl⟩:=zl h;exact (fin2 zTe zW1 hc hb :)
 ·cases h
def zjl (p:List Ins):Bool:=bif p.all zmI then win (ln p) 1 12 else false
@[simp,reducible] def zz9 (p:List Ins):Bool:=true
@[simp,reducible] def zle (p:List Ins):Bool:=zjl p
def ztm:List AV->Option (Bool×List AV)
 | [.one (.s .ins c)]=>some ((zz9 c),[.one (.b (zle c))])
 | _=>none
def zyr (N:Nat)(a0:List Ins):Option Ans :=
 (iter (σ:=(Int×((List Ins)×Unit))) N (fun r2 s3=>(cond (ilt s3.1 (ln s3.2.1)) (cond (inb s3.1 (ln s3.2.1)) (cond (zCo (ix s3.2.1 s3.1 zfj)) (cond (cond (zya (ix s3.2.1 s3.1 zfj)) false true) (some [(.one (.b false))]) (r2 ((zq .i64 s3.1 1),(s3.2.1,())))) none) none) (cond (zZ (ln s3.2.1) 1 12) (some [(.one (.b (zbf (ln s3.2.1) 1 12)))]) none))) (0,(a0,())))
def zS7:FuncId->Nat->Option Tmpl:=zB [(222,0,{ n:=19,tm:=[(0,.sl 0 []),(3,.i .i64)],lo:=[],ro:=[(0,.ins,false)] })]
theorem zTA (N:Nat)(a0:List Ins):evalFn (cQ zi6 zV zK zO) zS7 N 12 222 [.one (.s .ins a0)]=zyr N a0:=by kernel_rfl
theorem zPR (a0:List Ins)(hb:zG big [.one (.s .ins a0)])(hc:(zz9 a0)=true):∃N,zyr N a0=some [.one (.b (zle a0))]:=by
 have hl:(_:List _).length<=big:=((zbt hb).1 _ (List.mem_singleton.2 rfl)).len;refine ⟨NN,?_⟩;have hNN:∀{n:Nat},n<=big->n<NN:=fun h=>zb4 h;generalize NN=N at hNN ⊢;unfold zyr;refine (zbF a0 (fun i (t:Unit)=>((i:Int),a0,())) _ (fun _ x (_:Unit) κ=>bif (zmI) x then κ () else some [AV.one (.b false)]) (fun (t:Unit)=>(cond (zZ (ln a0) 1 12) (some [(.one (.b (zbf (ln a0) 1 12)))]) none)) (fun i hi t rec=>?_) (fun t rec=>?_) _ () (hNN hl)).trans ?_
 ·simp only [zbu hi,zbh hi,zbq hi,zbd hi hl,cT];exact zhZ rfl
 ·simp only [zbk,cF]
 rw [zgr (zmI)];refine br (fun h0=>?_) (fun h0=>?_)
 ·refine must rfl ?_
  first|rfl|(simp only [h0,zle,zjl,cT,cF]<;>rfl)|(simp_all [Ty.cells,zle,zjl];done)
 ·first|rfl|(simp only [h0,zle,zjl,cT,cF]<;>rfl)|(simp_all [Ty.cells,zle,zjl];done)
theorem zKH:Holds Tryz.prog 222 ztm:=zo zfg zD zu zA (zC (by kernel_rfl)) fun avs rs hb h=>by
 unfold ztm at h;split at h
 ·obtain ⟨hc,rfl⟩:=zl h;exact (fin1 zPR zTA hc hb :)
 ·cases h
@[simp,reducible] def zyx (p:List Ins):Bool:=true
@[simp,reducible] def zli (p:List Ins):Bool:=zjl p
def zsw:List AV->Option (Bool×List AV)
 | [.one (.s .ins c)]=>some ((zyx c),[.one (.b (zli c))])
 | _=>none
def zAj (N:Nat)(a0:List Ins):Option Ans :=
 (iter (σ:=(Int×(Int×((List Ins)×Unit)))) N (fun r2 s3=>(cond (ilt s3.2.1 s3.1) (cond (inb s3.2.1 (ln s3.2.2.1)) (cond (zBA (ix s3.2.2.1 s3.2.1 zfj)) (cond (cond (zxG (ix s3.2.2.1 s3.2.1 zfj)) false true) (some [(.one (.b false))]) (r2 (s3.1,((zq .i64 s3.2.1 1),(s3.2.2.1,()))))) none) none) (cond (zbn (ln s3.2.2.1) 1 12) (some [(.one (.b (zbx (ln s3.2.2.1) 1 12)))]) none))) ((ln a0),(0,(a0,()))))
def zQr:FuncId->Nat->Option Tmpl:=zB [(209,0,{ n:=18,tm:=[(0,.sl 0 []),(5,.sl 0 []),(6,.i .i64),(7,.i .i64)],lo:=[],ro:=[(0,.ins,false)] })]
theorem zUD (N:Nat)(a0:List Ins):evalFn (cQ zi6 zV zK zO) zQr N 12 209 [.one (.s .ins a0)]=zAj N a0:=by kernel_rfl
theorem zQB (a0:List Ins)(hb:zG big [.one (.s .ins a0)])(hc:(zyx a0)=true):∃N,zAj N a0=some [.one (.b (zli a0))]:=by
 have hl:(_:List _).length<=big:=((zbt hb).1 _ (List.mem_singleton.2 rfl)).len;refine ⟨NN,?_⟩;have hNN:∀{n:Nat},n<=big->n<NN:=fun h=>zb4 h;generalize NN=N at hNN ⊢;unfold zAj;refine (zbF a0 (fun i (t:Unit)=>((ln a0),(i:Int),a0,())) _ (fun _ x (_:Unit) κ=>bif (zmI) x then κ () else some [AV.one (.b false)]) (fun (t:Unit)=>(cond (zbn (ln a0) 1 12) (some [(.one (.b (zbx (ln a0) 1 12)))]) none)) (fun i hi t rec=>?_) (fun t rec=>?_) _ () (hNN hl)).trans ?_
 ·simp only [zbu hi,zbh hi,zbq hi,zbd hi hl,cT];exact zhZ rfl
 ·simp only [zbk,cF]
 rw [zgr (zmI)];refine br (fun h0=>?_) (fun h0=>?_)
 ·refine must rfl ?_
  first|rfl|(simp only [h0,zli,zjl,cT,cF]<;>rfl)|(simp_all [Ty.cells,zli,zjl];done)
 ·first|rfl|(simp only [h0,zli,zjl,cT,cF]<;>rfl)|(simp_all [Ty.cells,zli,zjl];done)
theorem zLJ:Holds Tryz.prog 209 zsw:=zo zfg zD zu zA (zC (by kernel_rfl)) fun avs rs hb h=>by
 unfold zsw at h;split at h
 ·obtain ⟨hc,rfl⟩:=zl h;exact (fin1 zQB zUD hc hb :)
 ·cases h
def zAs (c:Ctl):Bool:=ieq (ln (zi8 c)) 0
@[simp,reducible] def zCr (c:Ctl):Bool:=true
@[simp,reducible] def zxC (c:Ctl):Bool:=zAs c
def zwh:List AV->Option (Bool×List AV)
 | [.agg [.i .i64 c,.i .i64 d,.b e]]=>some ((zCr (⟨c,d,e⟩:Ctl)),[.one (.b (zxC (⟨c,d,e⟩:Ctl)))])
 | _=>none
def zBn (N:Nat)(a0:Ctl):Option Ans :=
 (cond (zq8 a0) (some [(.one (.b (ieq (ln (zkx a0)) 0)))]) none)
theorem zXl (N:Nat)(a0:Ctl):evalFn (cQ zi6 zV zK zO) (zB []) N 12 223 [.agg (zkv a0)]=zBn N a0:=by kernel_rfl
theorem zUY (a0:Ctl)(hb:zG big [.agg (zkv a0)])(hc:(zCr a0)=true):∃N,zBn N a0=some [.one (.b (zxC a0))]:=by
 refine ⟨0,?_⟩;unfold zBn;refine must rfl ?_
 first|rfl|(simp only [*,zxC,zAs,cT,cF]<;>rfl)|simp_all [Ty.cells,zxC,zAs]
theorem zN8:Holds Tryz.prog 223 zwh:=zo zfg zD zu zA (zC (by kernel_rfl)) fun avs rs hb h=>by
 unfold zwh at h;split at h
 ·obtain ⟨hc,rfl⟩:=zl h;exact (fin1 zUY zXl hc hb :)
 ·cases h
@[simp,reducible] def zBz (c:Ctl):Bool:=true
@[simp,reducible] def zxE (c:Ctl):Bool:=zAs c
def zvX:List AV->Option (Bool×List AV)
 | [.agg [.i .i64 c,.i .i64 d,.b e]]=>some ((zBz (⟨c,d,e⟩:Ctl)),[.one (.b (zxE (⟨c,d,e⟩:Ctl)))])
 | _=>none
def zCp (N:Nat)(a0:Ctl):Option Ans :=
 (cond (zqY a0) (some [(.one (.b (ieq (ln (zkH a0)) 0)))]) none)
theorem zWL (N:Nat)(a0:Ctl):evalFn (cQ zi6 zV zK zO) (zB []) N 12 210 [.agg (zkv a0)]=zCp N a0:=by kernel_rfl
theorem zUl (a0:Ctl)(hb:zG big [.agg (zkv a0)])(hc:(zBz a0)=true):∃N,zCp N a0=some [.one (.b (zxE a0))]:=by
 refine ⟨0,?_⟩;unfold zCp;refine must rfl ?_
 first|rfl|(simp only [*,zxE,zAs,cT,cF]<;>rfl)|simp_all [Ty.cells,zxE,zAs]
theorem zNo:Holds Tryz.prog 210 zvX:=zo zfg zD zu zA (zC (by kernel_rfl)) fun avs rs hb h=>by
 unfold zvX at h;split at h
 ·obtain ⟨hc,rfl⟩:=zl h;exact (fin1 zUl zWL hc hb :)
 ·cases h
def zdf (p:Int):Int:=bif zgx p then scan p else -1
theorem zVB {x:Int}(h0:0<=x)(h1:x<=255):wcv .u64 x=x:=zBG (P:=fun x=>wcv .u64 x=x) (by decide +kernel) h0 h1
@[simp,reducible] def zrZ (p:Int):Bool:=true
@[simp,reducible] def zld (p:Int):Int:=zdf p
def zuK:List AV->Option (Bool×List AV)
 | [.one (.i .i64 b)]=>some ((zrZ b),[.one (.i .i64 (zld b))])
 | _=>none
def zz5 (N:Nat)(a0:Int):Option Ans :=
 (cond (zhX a0) (cond (cond (zh1 a0) false true) (some [(.one (.i .i64 (-1)))]) (cond (zks (wcv .u64 a0)) (some [(.one (.i .i64 (wsub .i64 (zg6 (wcv .u64 a0)) 1)))]) none)) none)
theorem zUc (N:Nat)(a0:Int):evalFn (cQ zi6 zV zK zO) (zB []) N 12 177 [.one (.i .i64 a0)]=zz5 N a0:=by kernel_rfl
theorem zSy (a0:Int)(hb:zG big [.one (.i .i64 a0)])(hc:(zrZ a0)=true):∃N,zz5 N a0=some [.one (.i .i64 (zld a0))]:=by
 refine ⟨0,?_⟩;unfold zz5;refine must rfl ?_;cases h:zgx a0
 ·refine must (by simp [h]) ?_
  simp [zdf,h]
 ·obtain ⟨h0,h1⟩:=zfU.1 h;have r:=zBG (P:=fun x=>-1<=scan x/\scan x<=7/\(0<=scan x->wsub .i64 x (znE .i64 1 (scan x))=zyM .i64 x (znE .i64 1 (scan x)))) zRP h0 h1;refine zex (by simp [h]) ?_
  rw [zVB h0 h1];refine must (zU ⟨h0,h1⟩) ?_;have e:wsub .i64 (zg6 a0) 1=scan a0:=by
   unfold zg6;rw [zlv (by omega) (by omega)];omega
  rw [e];simp [zdf,h]
theorem zKT:Holds Tryz.prog 177 zuK:=zo zfg zD zu zA (zC (by kernel_rfl)) fun avs rs hb h=>by
 unfold zuK at h;split at h
 ·obtain ⟨hc,rfl⟩:=zl h;exact (fin1 zSy zUc hc hb :)
 ·cases h
@[simp,reducible] def zrW (p:Int):Bool:=true
@[simp,reducible] def zk8 (p:Int):Int:=zdf p
def ztr:List AV->Option (Bool×List AV)
 | [.one (.i .i64 b)]=>some ((zrW b),[.one (.i .i64 (zk8 b))])
 | _=>none
def zyE (N:Nat)(a0:Int):Option Ans :=
 (iter (σ:=(Int×(Int×Unit))) N (fun r2 s3=>(cond (ige s3.2.1 0) (cond (zg7 s3.1) (cond (zgC s3.1) (cond (ile 0 (wcv .u64 s3.2.1)) (cond (ieq (wand .i64 (zeg .i64 s3.1 (wcv .u64 s3.2.1)) 1) 1) (some [(.one (.i .i64 s3.2.1))]) (r2 (s3.1,((wsub .i64 s3.2.1 1),())))) none) (some [(.one (.i .i64 (-1)))])) none) (some [(.one (.i .i64 (-1)))]))) (a0,(7,())))
def zPz:FuncId->Nat->Option Tmpl:=zB [(154,0,{ n:=19,tm:=[(0,.i .i64),(3,.i .i64)],lo:=[],ro:=[] })]
theorem zUX (N:Nat)(a0:Int):evalFn (cQ zi6 zV zK zO) zPz N 12 154 [.one (.i .i64 a0)]=zyE N a0:=by kernel_rfl
theorem zSV (a0:Int)(hb:zG big [.one (.i .i64 a0)])(hc:(zrW a0)=true):∃N,zyE N a0=some [.one (.i .i64 (zk8 a0))]:=by
 refine ⟨10,?_⟩;unfold zyE;cases h:zgx a0
 ·rw [zcx];refine must rfl ?_;refine must rfl ?_;refine zex h ?_;simp [zdf,h]
 ·have hs:zgC a0=true:=h;rw [zcx];refine must rfl (must rfl (must hs (must rfl (br (fun h7=>?_) (fun h7=>?_)))))
  ·have e7:zf6 a0 7=true:=h7;simp [zdf,h,scan,e7]
  have f7:zf6 a0 7=false:=h7
  show iter 9 _ (a0,6,())=_
  rw [zcx];refine must rfl (must rfl (must hs (must rfl (br (fun h6=>?_) (fun h6=>?_)))))
  ·have e6:zf6 a0 6=true:=h6;simp [zdf,h,scan,e6,f7]
  have f6:zf6 a0 6=false:=h6
  show iter 8 _ (a0,5,())=_
  rw [zcx];refine must rfl (must rfl (must hs (must rfl (br (fun h5=>?_) (fun h5=>?_)))))
  ·have e5:zf6 a0 5=true:=h5;simp [zdf,h,scan,e5,f7,f6]
  have f5:zf6 a0 5=false:=h5
  show iter 7 _ (a0,4,())=_
  rw [zcx];refine must rfl (must rfl (must hs (must rfl (br (fun h4=>?_) (fun h4=>?_)))))
  ·have e4:zf6 a0 4=true:=h4;simp [zdf,h,scan,e4,f7,f6,f5]
  have f4:zf6 a0 4=false:=h4
  show iter 6 _ (a0,3,())=_
  rw [zcx];refine must rfl (must rfl (must hs (must rfl (br (fun h3=>?_) (fun h3=>?_)))))
  ·have e3:zf6 a0 3=true:=h3;simp [zdf,h,scan,e3,f7,f6,f5,f4]
  have f3:zf6 a0 3=false:=h3
  show iter 5 _ (a0,2,())=_
  rw [zcx];refine must rfl (must rfl (must hs (must rfl (br (fun h2=>?_) (fun h2=>?_)))))
  ·have e2:zf6 a0 2=true:=h2;simp [zdf,h,scan,e2,f7,f6,f5,f4,f3]
  have f2:zf6 a0 2=false:=h2
  show iter 4 _ (a0,1,())=_
  rw [zcx];refine must rfl (must rfl (must hs (must rfl (br (fun h1=>?_) (fun h1=>?_)))))
  ·have e1:zf6 a0 1=true:=h1;simp [zdf,h,scan,e1,f7,f6,f5,f4,f3,f2]
  have f1:zf6 a0 1=false:=h1
  show iter 3 _ (a0,0,())=_
  rw [zcx];refine must rfl (must rfl (must hs (must rfl (br (fun h0=>?_) (fun h0=>?_)))))
  ·have e0:zf6 a0 0=true:=h0;simp [zdf,h,scan,e0,f7,f6,f5,f4,f3,f2,f1]
  have f0:zf6 a0 0=false:=h0
  show iter 2 _ (a0,-1,())=_
  rw [zcx];refine zex rfl ?_;simp [zdf,h,scan,f7,f6,f5,f4,f3,f2,f1,f0]
theorem zLi:Holds Tryz.prog 154 ztr:=zo zfg zD zu zA (zC (by kernel_rfl)) fun avs rs hb h=>by
 unfold ztr at h;split at h
 ·obtain ⟨hc,rfl⟩:=zl h;exact (fin1 zSV zUX hc hb :)
 ·cases h
end
end Go.Proofs.YtdmheolglokabaaGreat.E
