/- What is proved here: a part of the proof that the statement of this claim holds (several texts of wip/, laid together). -/
import Derived.Test.YtdmheolglokabaaGreatW4
namespace Go.Proofs.YtdmheolglokabaaGreat.E
open Go
set_option linter.unusedVariables false
set_option maxRecDepth 100000
set_option linter.unusedSimpArgs false
set_option linter.unusedSectionVars false
noncomputable section
@[simp,reducible] def zfl (l:List (List Int)):Bool:=pc (SmM l)
@[simp,reducible] def zcX (l:List (List Int)):List (List Int):=l
def zpF:List AV->Option (Bool×List AV)
 | [.one (.s (.sl .int) b)]=>some ((zfl b),[.one (.s (.sl .int) (zcX b))])
 | _=>none
def zw1 (N:Nat)(a0:List (List Int)):Option Ans :=
 (iter (σ:=(Int×(Int×((List (List Int))×((List (List Int))×Unit))))) N (fun r2 s3=>(cond (ilt s3.2.1 s3.1) (cond (inb s3.2.1 (ln s3.2.2.2.1)) (cond (zdl (ix s3.2.2.2.1 s3.2.1 [])) (cond (few (ln (ap s3.2.2.1 [(zdh (ix s3.2.2.2.1 s3.2.1 []))]))) (r2 (s3.1,((zq .i64 s3.2.1 1),((ap s3.2.2.1 [(zdh (ix s3.2.2.2.1 s3.2.1 []))]),(s3.2.2.2.1,()))))) none) none) none) (some [(.one (.s (.sl .int) s3.2.2.1))]))) ((ln a0),(0,([],(a0,())))))
def zNh:FuncId->Nat->Option Tmpl:=zB [(48,0,{ n:=20,tm:=[(3,.sl 0 []),(7,.sl 1 []),(8,.i .i64),(9,.i .i64)],lo:=[],ro:=[(0,(.sl .int),true),(1,(.sl .int),false)] })]
theorem zSY (N:Nat)(a0:List (List Int)):evalFn (cQ zi6 zV zK zO) zNh N 12 48 [.one (.s (.sl .int) a0)]=zw1 N a0:=by kernel_rfl
theorem zNV (a0:List (List Int))(hb:zG big [.one (.s (.sl .int) a0)])(hc:(zfl a0)=true):∃N,zw1 N a0=some [.one (.s (.sl .int) (zcX a0))]:=by
 have hs:=zI.1 hc;have hl:=zcA hs.1;refine ⟨NN,?_⟩;have hNN:∀{n:Nat},n<=big->n<NN:=fun h=>zb4 h;generalize NN=N at hNN ⊢;unfold zw1;refine (zbF a0 (fun i (t:(List (List Int)))=>((ln a0),(i:Int),t,a0,())) _ (fun _ x acc κ=>bif zdl x then (cond (few (ln (ap acc [zdh x]))) (κ (ap acc [zdh x])) none) else none) (fun (t:(List (List Int)))=>(some [(.one (.s (.sl .int) t))])) (fun i hi t rec=>?_) (fun t rec=>?_) _ ([]) (hNN hl.1)).trans ?_
 ·simp only [zbu hi,zbh hi,zbq hi,zbd hi hl.1,cT]
 ·simp only [zbk,cF]
 exact zh4 zdl zdh _ a0 0 [] (fun x hx=>⟨by exact zU (Nat.le_trans (hs.2 x hx) (by decide)),rfl⟩) (by simpa using hl.2)
theorem zIt:Holds Tryz.prog 48 zpF:=zo zfg zD zu zA (zC (by kernel_rfl)) fun avs rs hb h=>by
 unfold zpF at h;split at h
 ·obtain ⟨hc,rfl⟩:=zl h;exact (fin1 zNV zSY hc hb :)
 ·cases h
@[simp,reducible] def zdk (g:Guest):Bool:=pc (SmG g)
@[simp,reducible] def zcs (g:Guest):Guest:=g
def zmc:List AV->Option (Bool×List AV)
 | [.agg [.s .ins c,.i .i64 d,.i .i64 e,.s .slot f,.s .slot g,.i .i64 h,.i .i64 j,.b k,.i .i64 l,.i .i64 m,.i .i64 n,.b o,.i .i64 p,.b q,.s .int r]]=>some ((zdk (⟨c,d,e,f,g,⟨h,j,k⟩,l,⟨m,n,o,p⟩,q,r⟩:Guest)),[.agg (Ty.cells .guest (zcs (⟨c,d,e,f,g,⟨h,j,k⟩,l,⟨m,n,o,p⟩,q,r⟩:Guest)))])
 | _=>none
def zq4 (N:Nat)(a0:Guest):Option Ans :=
 (cond (zss a0.Prog) (cond (zfR a0.Written) (cond (zfR a0.Live) (cond (zdl a0.Seen) (some [(.agg (Ty.cells .guest ({ a0 with Prog:=(zl5 a0.Prog),Written:=(zeJ a0.Written),Live:=(zeJ a0.Live),Seen:=(zdh a0.Seen) }:Guest)))]) none) none) none) none)
theorem zJu (N:Nat)(a0:Guest):evalFn (cQ zi6 zV zK zO) (zB []) N 12 125 [.agg (Ty.cells .guest a0)]=zq4 N a0:=by kernel_rfl
theorem zH7 (a0:Guest)(hb:zG big [.agg (Ty.cells .guest a0)])(hc:(zdk a0)=true):∃N,zq4 N a0=some [.agg (Ty.cells .guest (zcs a0))]:=by
 have hs:=zI.1 hc;obtain ⟨h1,h2,h3,h4⟩:=hs;have hs1:a0.Prog.length<=2147483648:=(by omega);have hs2:a0.Written.length<=2147483648:=(by omega);have hs3:a0.Live.length<=2147483648:=(by omega);have hs4:a0.Seen.length<=2147483648:=(by omega)
 refine ⟨0,?_⟩;unfold zq4;refine must (by first|assumption|(simp_all<;>omega)) (must (by first|assumption|(simp_all<;>omega)) (must (by first|assumption|(simp_all<;>omega)) (must (by first|assumption|(simp_all<;>omega)) ?_)))
 first|rfl|(simp only [*,zcs,cT,cF]<;>rfl)|simp_all [Ty.cells,zcs]
theorem zDy:Holds Tryz.prog 125 zmc:=zo zfg zD zu zA (zC (by kernel_rfl)) fun avs rs hb h=>by
 unfold zmc at h;split at h
 ·obtain ⟨hc,rfl⟩:=zl h;exact (fin1 zH7 zJu hc hb :)
 ·cases h
def zfW (t:List Slot)(p n:Int):Bool:=bif ieq (zdR t p).Page (-1) then false else (cond (enough (zdR t p).Rights n) (win n 1 3) false)
def zcQ (t:List Slot)(p n:Int):Int:=bif zfW t p n then (zdR t p).Page else -1
theorem zZp {r:Int}(h:zdX r=true):0<=r/\r<=3:=zfU.1 h
theorem zWu {a n:Int}(h:enough a n=true):win n 1 3 = !ieq n 0:=by
 unfold enough at h;cases h1:zdX a
 ·rw [h1] at h;cases h
 ·cases h2:zdX n
  ·rw [h1,h2] at h;cases h
  ·have:=zZp h2;have e:(win n 1 3=true)↔(!ieq n 0)=true:=by
    rw [zfU];simp [ieq];omega
   cases h3:win n 1 3<;>cases h4:(!ieq n 0)<;>simp_all
@[simp,reducible] def ziv (t:List Slot)(p n:Int):Bool:=true
@[simp,reducible] def zb5 (t:List Slot)(p n:Int):Int:=zcQ t p n
@[simp,reducible] def zfS (t:List Slot)(p n:Int):Bool:=zfW t p n
def zmn:List AV->Option (Bool×List AV)
 | [.one (.s .slot c),.one (.i .i64 d),.one (.i .i64 e)]=>some ((ziv c d e),[.one (.i .i64 (zb5 c d e)),.one (.b (zfS c d e))])
 | _=>none
def zqG (N:Nat)(a0:List Slot)(a1 a2:Int):Option Ans :=
 (cond (zj5 a0 a1) (cond (ieq (zdO a0 a1).Page (-1)) (some [(.one (.i .i64 (-1))),(.one (.b false))]) (cond (zdi (zdO a0 a1).Rights a2) (cond (cond (zdM (zdO a0 a1).Rights a2) false true) (some [(.one (.i .i64 (-1))),(.one (.b false))]) (cond (zbn a2 1 3) (cond (cond (zbx a2 1 3) false true) (some [(.one (.i .i64 (-1))),(.one (.b false))]) (some [(.one (.i .i64 (zdO a0 a1).Page)),(.one (.b true))])) none)) none)) none)
theorem zKj (N:Nat)(a0:List Slot)(a1 a2:Int):evalFn (cQ zi6 zV zK zO) (zB []) N 12 138 [.one (.s .slot a0),.one (.i .i64 a1),.one (.i .i64 a2)]=zqG N a0 a1 a2:=by kernel_rfl
theorem zHR (a0:List Slot)(a1 a2:Int)(hb:zG big [.one (.s .slot a0),.one (.i .i64 a1),.one (.i .i64 a2)])(hc:(ziv a0 a1 a2)=true):∃N,zqG N a0 a1 a2=some [.one (.i .i64 (zb5 a0 a1 a2)),.one (.b (zfS a0 a1 a2))]:=by
 refine ⟨0,?_⟩;unfold zqG;refine must rfl (br (fun _=>?_) (fun _=>must rfl (brN (fun _=>?_) (fun _=>must rfl (brN (fun _=>?_) (fun _=>?_))))))
 all_goals first|rfl|(simp only [*,zb5,zfS,zcQ,zfW,cT,cF]<;>rfl)|simp_all [Ty.cells,zb5,zfS,zcQ,zfW]
theorem zDM:Holds Tryz.prog 138 zmn:=zo zfg zD zu zA (zC (by kernel_rfl)) fun avs rs hb h=>by
 unfold zmn at h;split at h
 ·obtain ⟨hc,rfl⟩:=zl h;exact (zd7 zHR zKj hc hb :)
 ·cases h
@[simp,reducible] def zqz (t:List Slot)(p n:Int):Bool:=true
@[simp,reducible] def zit (t:List Slot)(p n:Int):Int:=zcQ t p n
@[simp,reducible] def zio (t:List Slot)(p n:Int):Bool:=zfW t p n
def zma:List AV->Option (Bool×List AV)
 | [.one (.s .slot c),.one (.i .i64 d),.one (.i .i64 e)]=>some ((zqz c d e),[.one (.i .i64 (zit c d e)),.one (.b (zio c d e))])
 | _=>none
def zqc (N:Nat)(a0:List Slot)(a1 a2:Int):Option Ans :=
 (cond (zrt a0 a1) (cond (ieq (zeU a0 a1).Page (-1)) (some [(.one (.i .i64 (-1))),(.one (.b false))]) (cond (zf1 (zeU a0 a1).Rights a2) (cond (cond (zgF (zeU a0 a1).Rights a2) false true) (some [(.one (.i .i64 (-1))),(.one (.b false))]) (cond (ieq a2 0) (some [(.one (.i .i64 (-1))),(.one (.b false))]) (some [(.one (.i .i64 (zeU a0 a1).Page)),(.one (.b true))]))) none)) none)
theorem zLP (N:Nat)(a0:List Slot)(a1 a2:Int):evalFn (cQ zi6 zV zK zO) (zB []) N 12 155 [.one (.s .slot a0),.one (.i .i64 a1),.one (.i .i64 a2)]=zqc N a0 a1 a2:=by kernel_rfl
theorem zIp (a0:List Slot)(a1 a2:Int)(hb:zG big [.one (.s .slot a0),.one (.i .i64 a1),.one (.i .i64 a2)])(hc:(zqz a0 a1 a2)=true):∃N,zqc N a0 a1 a2=some [.one (.i .i64 (zit a0 a1 a2)),.one (.b (zio a0 a1 a2))]:=by
 have he:=@zWu (zdR a0 a1).Rights a2;refine ⟨0,?_⟩;unfold zqc;refine must rfl (br (fun _=>?_) (fun _=>must rfl (brN (fun _=>?_) (fun _=>br (fun _=>?_) (fun _=>?_)))))
 all_goals first|rfl|(simp only [*,zit,zio,zcQ,zfW,cT,cF]<;>rfl)|simp_all [Ty.cells,zit,zio,zcQ,zfW]
theorem zDh:Holds Tryz.prog 155 zma:=zo zfg zD zu zA (zC (by kernel_rfl)) fun avs rs hb h=>by
 unfold zma at h;split at h
 ·obtain ⟨hc,rfl⟩:=zl h;exact (zd7 zIp zLP hc hb :)
 ·cases h
def zi4:zbP:=[(213,zgG),(48,zpF),(125,zmc),(155,zma),(138,zmn),(151,zwx),(117,zw7),(222,ztm),(209,zsw),(223,zwh),(210,zvX),(154,ztr),(177,zuK)]++zi6
theorem zfa:zbv zi4:=zn zlz (zn zIt (zn zDy (zn zDh (zn zDM (zn zOs (zn zNP (zn zKH (zn zLJ (zn zN8 (zn zNo (zn zLi (zn zKT zfg))))))))))))
@[simp,reducible] def ztj (m:List (List Int))(p c v:Int):Bool:=pc (SmM m)
@[simp,reducible] def zmP (m:List (List Int))(p c v:Int):List (List Int):=ze8 m p c v
def znD:List AV->Option (Bool×List AV)
 | [.one (.s (.sl .int) b),.one (.i .i64 c),.one (.i .i64 d),.one (.i .i64 e)]=>some ((ztj b c d e),[.one (.s (.sl .int) (zmP b c d e))])
 | _=>none
def zsR (N:Nat)(a0:List (List Int))(a1 a2 a3:Int):Option Ans :=
 (cond (zgh a0) (cond (zrL a0 a1 a2) (cond (zoh a0 a1 a2) (cond (zZ a3 0 99) (cond (zbf a3 0 99) (cond (inb a1 (ln (zdg a0))) (cond (inb a2 (ln (ix (zdg a0) a1 []))) (share (up (zdg a0) a1 (up (ix (zdg a0) a1 []) a2 a3)) (fun x5=>(some [(.one (.s (.sl .int) x5))]))) none) none) (some [(.one (.s (.sl .int) (zdg a0)))])) none) (some [(.one (.s (.sl .int) (zdg a0)))])) none) none)
theorem zOK (N:Nat)(a0:List (List Int))(a1 a2 a3:Int):evalFn (cQ zi4 zV zK zO) (zB []) N 12 102 [.one (.s (.sl .int) a0),.one (.i .i64 a1),.one (.i .i64 a2),.one (.i .i64 a3)]=zsR N a0 a1 a2 a3:=by kernel_rfl
theorem zLm (a0:List (List Int))(a1 a2 a3:Int)(hb:zG big [.one (.s (.sl .int) a0),.one (.i .i64 a1),.one (.i .i64 a2),.one (.i .i64 a3)])(hc:(ztj a0 a1 a2 a3)=true):∃N,zsR N a0 a1 a2 a3=some [.one (.s (.sl .int) (zmP a0 a1 a2 a3))]:=by
 have hs:=zI.1 hc;have hm:=(zzO a0 a1 a2).1
 refine ⟨0,?_⟩;unfold zsR;refine must (by first|assumption|(simp_all<;>omega)) (must rfl (br (fun _=>must rfl (br (fun _=>must (by first|assumption|(simp_all<;>omega)) (must (by first|assumption|(simp_all<;>omega)) (shr ?_))) (fun _=>?_))) (fun _=>?_)))
 all_goals first|rfl|(simp only [*,zmP,ze8,cT,cF]<;>rfl)|simp_all [Ty.cells,zmP,ze8]
theorem zGi:Holds Tryz.prog 102 znD:=zo zfa zD zu zA (zC (by kernel_rfl)) fun avs rs hb h=>by
 unfold znD at h;split at h
 ·obtain ⟨hc,rfl⟩:=zl h;exact (zWD zLm zOK hc hb :)
 ·cases h
@[simp,reducible] def zjq (m:List (List Int))(p c v:Int):Bool:=pc (SmM m)
@[simp,reducible] def zf3 (m:List (List Int))(p c v:Int):List (List Int):=ze8 m p c v
def zor:List AV->Option (Bool×List AV)
 | [.one (.s (.sl .int) b),.one (.i .i64 c),.one (.i .i64 d),.one (.i .i64 e)]=>some ((zjq b c d e),[.one (.s (.sl .int) (zf3 b c d e))])
 | _=>none
def zun (N:Nat)(a0:List (List Int))(a1 a2 a3:Int):Option Ans :=
 (cond (zfl a0) (cond (zcz a1 (ln a0)) (cond (zcT a1 (ln a0)) (cond (inb a1 (ln a0)) (cond (zcz a2 (ln (ix a0 a1 []))) (cond (zcT a2 (ln (ix a0 a1 []))) (cond (zbn a3 0 99) (cond (zbx a3 0 99) (cond (inb a1 (ln (zcX a0))) (cond (inb a2 (ln (ix (zcX a0) a1 []))) (share (up (zcX a0) a1 (up (ix (zcX a0) a1 []) a2 a3)) (fun x5=>(some [(.one (.s (.sl .int) x5))]))) none) none) (some [(.one (.s (.sl .int) (zcX a0)))])) none) (some [(.one (.s (.sl .int) (zcX a0)))])) none) none) (some [(.one (.s (.sl .int) (zcX a0)))])) none) none)
theorem zNI (N:Nat)(a0:List (List Int))(a1 a2 a3:Int):evalFn (cQ zi4 zV zK zO) (zB []) N 12 60 [.one (.s (.sl .int) a0),.one (.i .i64 a1),.one (.i .i64 a2),.one (.i .i64 a3)]=zun N a0 a1 a2 a3:=by kernel_rfl
theorem zLl (a0:List (List Int))(a1 a2 a3:Int)(hb:zG big [.one (.s (.sl .int) a0),.one (.i .i64 a1),.one (.i .i64 a2),.one (.i .i64 a3)])(hc:(zjq a0 a1 a2 a3)=true):∃N,zun N a0 a1 a2 a3=some [.one (.s (.sl .int) (zf3 a0 a1 a2 a3))]:=by
 have hs:=zI.1 hc;refine ⟨0,?_⟩;unfold zun;refine must (by first|assumption|(simp_all<;>omega)) (must rfl (br (fun _=>must (by first|assumption|(simp_all<;>omega)) (must rfl (br (fun _=>must rfl (br (fun _=>must (by first|assumption|(simp_all<;>omega)) (must (by first|assumption|(simp_all<;>omega)) (shr ?_))) (fun _=>?_))) (fun _=>?_)))) (fun _=>?_)))
 all_goals first|rfl|(simp only [*,zf3,ze8,zhS,cT,cF]<;>rfl)|simp_all [Ty.cells,zf3,ze8,zhS]
theorem zFi:Holds Tryz.prog 60 zor:=zo zfa zD zu zA (zC (by kernel_rfl)) fun avs rs hb h=>by
 unfold zor at h;split at h
 ·obtain ⟨hc,rfl⟩:=zl h;exact (zWD zLl zNI hc hb :)
 ·cases h
def zhu (g:Guest):Bool:=bif canRun g then (cond g.Ctl.Open (ige (zdf g.Pending) 0) false) else false
@[simp,reducible] def zmx (g:Guest):Bool:=true
@[simp,reducible] def zj6 (g:Guest):Bool:=zhu g
def zou:List AV->Option (Bool×List AV)
 | [.agg [.s .ins c,.i .i64 d,.i .i64 e,.s .slot f,.s .slot g,.i .i64 h,.i .i64 j,.b k,.i .i64 l,.i .i64 m,.i .i64 n,.b o,.i .i64 p,.b q,.s .int r]]=>some ((zmx (⟨c,d,e,f,g,⟨h,j,k⟩,l,⟨m,n,o,p⟩,q,r⟩:Guest)),[.one (.b (zj6 (⟨c,d,e,f,g,⟨h,j,k⟩,l,⟨m,n,o,p⟩,q,r⟩:Guest)))])
 | _=>none
def zuB (N:Nat)(a0:Guest):Option Ans :=
 (cond (zr3 a0) (cond (zn3 a0) (cond a0.Ctl.Open (cond (zrW a0.Pending) (some [(.one (.b (ige (zk8 a0.Pending) 0)))]) none) (some [(.one (.b false))])) (some [(.one (.b false))])) none)
theorem zNk (N:Nat)(a0:Guest):evalFn (cQ zi4 zV zK zO) (zB []) N 12 90 [.agg (Ty.cells .guest a0)]=zuB N a0:=by kernel_rfl
theorem zL3 (a0:Guest)(hb:zG big [.agg (Ty.cells .guest a0)])(hc:(zmx a0)=true):∃N,zuB N a0=some [.one (.b (zj6 a0))]:=by
 refine ⟨0,?_⟩;unfold zuB;refine must rfl (br (fun _=>br (fun _=>must rfl ?_) (fun _=>?_)) (fun _=>?_))
 all_goals first|rfl|(simp only [*,zj6,zhu,cT,cF]<;>rfl)|simp_all [Ty.cells,zj6,zhu]
theorem zGg:Holds Tryz.prog 90 zou:=zo zfa zD zu zA (zC (by kernel_rfl)) fun avs rs hb h=>by
 unfold zou at h;split at h
 ·obtain ⟨hc,rfl⟩:=zl h;exact (fin1 zL3 zNk hc hb :)
 ·cases h
@[simp,reducible] def znj (g:Guest):Bool:=true
@[simp,reducible] def zjL (g:Guest):Bool:=zhu g
def zny:List AV->Option (Bool×List AV)
 | [.agg [.s .ins c,.i .i64 d,.i .i64 e,.s .slot f,.s .slot g,.i .i64 h,.i .i64 j,.b k,.i .i64 l,.i .i64 m,.i .i64 n,.b o,.i .i64 p,.b q,.s .int r]]=>some ((znj (⟨c,d,e,f,g,⟨h,j,k⟩,l,⟨m,n,o,p⟩,q,r⟩:Guest)),[.one (.b (zjL (⟨c,d,e,f,g,⟨h,j,k⟩,l,⟨m,n,o,p⟩,q,r⟩:Guest)))])
 | _=>none
def zts (N:Nat)(a0:Guest):Option Ans :=
 (cond (zrD a0) (cond (znA a0) (cond a0.Ctl.Open (cond (zrZ a0.Pending) (some [(.one (.b (ige (zld a0.Pending) 0)))]) none) (some [(.one (.b false))])) (some [(.one (.b false))])) none)
theorem zNJ (N:Nat)(a0:Guest):evalFn (cQ zi4 zV zK zO) (zB []) N 12 122 [.agg (Ty.cells .guest a0)]=zts N a0:=by kernel_rfl
theorem zLh (a0:Guest)(hb:zG big [.agg (Ty.cells .guest a0)])(hc:(znj a0)=true):∃N,zts N a0=some [.one (.b (zjL a0))]:=by
 refine ⟨0,?_⟩;unfold zts;refine must rfl (br (fun _=>br (fun _=>must rfl ?_) (fun _=>?_)) (fun _=>?_))
 all_goals first|rfl|(simp only [*,zjL,zhu,cT,cF]<;>rfl)|simp_all [Ty.cells,zjL,zhu]
theorem zFB:Holds Tryz.prog 122 zny:=zo zfa zD zu zA (zC (by kernel_rfl)) fun avs rs hb h=>by
 unfold zny at h;split at h
 ·obtain ⟨hc,rfl⟩:=zl h;exact (fin1 zLh zNJ hc hb :)
 ·cases h
def zlN (p:Int):Int:=bif ilt (zdf p) 0 then p else wsub .i64 p (znE .i64 1 (zdf p))
def zuX (p:Int):Int:=bif ilt (zdf p) 0 then -1 else zdf p
theorem zMD {p:Int}(h:ilt (zdf p) 0=false):wcv .u64 (zdf p)=zdf p/\ile 0 (zdf p)=true/\zyM .i64 p (znE .i64 1 (zdf p))=wsub .i64 p (znE .i64 1 (zdf p)):=by
 unfold zdf at *;cases h1:zgx p
 ·rw [h1] at h;cases h
 ·simp only [h1,cT] at h ⊢;obtain ⟨h0,h2⟩:=zfU.1 h1;have r:=zBG (P:=fun x=>-1<=scan x/\scan x<=7/\(0<=scan x->wsub .i64 x (znE .i64 1 (scan x))=zyM .i64 x (znE .i64 1 (scan x)))) zRP h0 h2;have h3:0<=scan p:=by
   unfold ilt at h;have:=of_decide_eq_false h;omega
  exact ⟨zVB h3 (by omega),decide_eq_true h3,(r.2.2 h3).symm⟩
@[simp,reducible] def zwL (p:Int):Bool:=true
@[simp,reducible] def ziw (p:Int):Int:=zlN p
@[simp,reducible] def ziS (p:Int):Int:=zuX p
@[simp,reducible] def zoQ (p:Int):Bool:=!ilt (zdf p) 0
def zqK:List AV->Option (Bool×List AV)
 | [.one (.i .i64 c)]=>some ((zwL c),[.one (.i .i64 (ziw c)),.one (.i .i64 (ziS c)),.one (.b (zoQ c))])
 | _=>none
def zxe (N:Nat)(a0:Int):Option Ans :=
 (cond (zrW a0) (cond (ilt (zk8 a0) 0) (some [(.one (.i .i64 a0)),(.one (.i .i64 (-1))),(.one (.b false))]) (cond (ile 0 (wcv .u64 (zk8 a0))) (some [(.one (.i .i64 (wsub .i64 a0 (znE .i64 1 (wcv .u64 (zk8 a0)))))),(.one (.i .i64 (zk8 a0))),(.one (.b true))]) none)) none)
theorem zPt (N:Nat)(a0:Int):evalFn (cQ zi4 zV zK zO) (zB []) N 12 93 [.one (.i .i64 a0)]=zxe N a0:=by kernel_rfl
theorem zM6 (a0:Int)(hb:zG big [.one (.i .i64 a0)])(hc:(zwL a0)=true):∃N,zxe N a0=some [.one (.i .i64 (ziw a0)),.one (.i .i64 (ziS a0)),.one (.b (zoQ a0))]:=by
 have ht:=@zMD a0;refine ⟨0,?_⟩;unfold zxe;refine must rfl (br (fun _=>?_) (fun _=>must (by first|assumption|(simp_all<;>omega)) ?_))
 all_goals first|rfl|(simp only [*,ziw,ziS,zoQ,zlN,zuX,cT,cF]<;>rfl)|simp_all [Ty.cells,ziw,ziS,zoQ,zlN,zuX]
theorem zGZ:Holds Tryz.prog 93 zqK:=zo zfa zD zu zA (zC (by kernel_rfl)) fun avs rs hb h=>by
 unfold zqK at h;split at h
 ·obtain ⟨hc,rfl⟩:=zl h;exact (fin1 zM6 zPt hc hb :)
 ·cases h
@[simp,reducible] def zxm (p:Int):Bool:=true
@[simp,reducible] def ziK (p:Int):Int:=zlN p
@[simp,reducible] def ziQ (p:Int):Int:=zuX p
@[simp,reducible] def zoP (p:Int):Bool:=!ilt (zdf p) 0
def zqA:List AV->Option (Bool×List AV)
 | [.one (.i .i64 c)]=>some ((zxm c),[.one (.i .i64 (ziK c)),.one (.i .i64 (ziQ c)),.one (.b (zoP c))])
 | _=>none
def zwZ (N:Nat)(a0:Int):Option Ans :=
 (cond (zrZ a0) (cond (ilt (zld a0) 0) (some [(.one (.i .i64 a0)),(.one (.i .i64 (-1))),(.one (.b false))]) (cond (ile 0 (zld a0)) (some [(.one (.i .i64 (zyM .i64 a0 (znE .i64 1 (zld a0))))),(.one (.i .i64 (zld a0))),(.one (.b true))]) none)) none)
theorem zQu (N:Nat)(a0:Int):evalFn (cQ zi4 zV zK zO) (zB []) N 12 186 [.one (.i .i64 a0)]=zwZ N a0:=by kernel_rfl
theorem zOP (a0:Int)(hb:zG big [.one (.i .i64 a0)])(hc:(zxm a0)=true):∃N,zwZ N a0=some [.one (.i .i64 (ziK a0)),.one (.i .i64 (ziQ a0)),.one (.b (zoP a0))]:=by
 have ht:=@zMD a0;refine ⟨0,?_⟩;unfold zwZ;refine must rfl (br (fun _=>?_) (fun _=>must (by first|assumption|(simp_all<;>omega)) ?_))
 all_goals first|rfl|(simp only [*,ziK,ziQ,zoP,zlN,zuX,cT,cF]<;>rfl)|simp_all [Ty.cells,ziK,ziQ,zoP,zlN,zuX]
theorem zIj:Holds Tryz.prog 186 zqA:=zo zfa zD zu zA (zC (by kernel_rfl)) fun avs rs hb h=>by
 unfold zqA at h;split at h
 ·obtain ⟨hc,rfl⟩:=zl h;exact (fin1 zOP zQu hc hb :)
 ·cases h
def saw (g:Guest)(n:Int):Guest:=bif ilt (ln g.Seen) 40 then { g with Seen:=ap g.Seen [n] } else g
@[simp] theorem zCv {g:Guest}(n:Int)(h:SmG g):SmG (saw g n):=by
 unfold saw;cases h1:ilt (ln g.Seen) 40
 ·exact h
 ·have:=of_decide_eq_true h1;refine ⟨h.1,h.2.1,h.2.2.1,?_⟩;simp [ln] at *;omega
@[simp,reducible] def zCK (g:Guest)(n:Int):Bool:=pc (SmG g)
@[simp,reducible] def zAl (g:Guest)(n:Int):Guest:=saw g n
def zBE:List AV->Option (Bool×List AV)
 | [.agg [.s .ins c,.i .i64 d,.i .i64 e,.s .slot f,.s .slot g,.i .i64 h,.i .i64 j,.b k,.i .i64 l,.i .i64 m,.i .i64 n,.b o,.i .i64 p,.b q,.s .int r],.one (.i .i64 t)]=>some ((zCK (⟨c,d,e,f,g,⟨h,j,k⟩,l,⟨m,n,o,p⟩,q,r⟩:Guest) t),[.agg (Ty.cells .guest (zAl (⟨c,d,e,f,g,⟨h,j,k⟩,l,⟨m,n,o,p⟩,q,r⟩:Guest) t))])
 | _=>none
def zJk (N:Nat)(a0:Guest)(a1:Int):Option Ans :=
 (cond (zc7 a0) (cond (ilt (ln (zcy a0).Seen) 40) (cond (few (ln (ap (zcy a0).Seen [a1]))) (some [(.agg (Ty.cells .guest ({ (zcy a0) with Seen:=(ap (zcy a0).Seen [a1]) }:Guest)))]) none) (some [(.agg (Ty.cells .guest (zcy a0)))])) none)
theorem z0i (N:Nat)(a0:Guest)(a1:Int):evalFn (cQ zi4 zV zK zO) (zB []) N 12 94 [.agg (Ty.cells .guest a0),.one (.i .i64 a1)]=zJk N a0 a1:=by kernel_rfl
theorem zYt (a0:Guest)(a1:Int)(hb:zG big [.agg (Ty.cells .guest a0),.one (.i .i64 a1)])(hc:(zCK a0 a1)=true):∃N,zJk N a0 a1=some [.agg (Ty.cells .guest (zAl a0 a1))]:=by
 have hs:=zI.1 hc;have hz:a0.Seen.length<=1048576:=hs.2.2.2
 refine ⟨0,?_⟩;unfold zJk;refine must (by first|assumption|(simp_all<;>omega)) (br (fun _=>must (by first|assumption|(simp_all<;>omega)) ?_) (fun _=>?_))
 all_goals first|rfl|(simp only [*,zAl,saw,cT,cF]<;>rfl)|simp_all [Ty.cells,zAl,saw]
theorem zU7:Holds Tryz.prog 94 zBE:=zo zfa zD zu zA (zC (by kernel_rfl)) fun avs rs hb h=>by
 unfold zBE at h;split at h
 ·obtain ⟨hc,rfl⟩:=zl h;exact (fin2 zYt z0i hc hb :)
 ·cases h
@[simp,reducible] def zCX (g:Guest)(n:Int):Bool:=pc (SmG g)
@[simp,reducible] def zzc (g:Guest)(n:Int):Guest:=saw g n
def zBF:List AV->Option (Bool×List AV)
 | [.agg [.s .ins c,.i .i64 d,.i .i64 e,.s .slot f,.s .slot g,.i .i64 h,.i .i64 j,.b k,.i .i64 l,.i .i64 m,.i .i64 n,.b o,.i .i64 p,.b q,.s .int r],.one (.i .i64 t)]=>some ((zCX (⟨c,d,e,f,g,⟨h,j,k⟩,l,⟨m,n,o,p⟩,q,r⟩:Guest) t),[.agg (Ty.cells .guest (zzc (⟨c,d,e,f,g,⟨h,j,k⟩,l,⟨m,n,o,p⟩,q,r⟩:Guest) t))])
 | _=>none
def zJ8 (N:Nat)(a0:Guest)(a1:Int):Option Ans :=
 (cond (zdk a0) (cond (ilt (ln a0.Seen) 40) (cond (few (ln (ap (zcs a0).Seen [a1]))) (some [(.agg (Ty.cells .guest ({ (zcs a0) with Seen:=(ap (zcs a0).Seen [a1]) }:Guest)))]) none) (some [(.agg (Ty.cells .guest (zcs a0)))])) none)
theorem z0k (N:Nat)(a0:Guest)(a1:Int):evalFn (cQ zi4 zV zK zO) (zB []) N 12 127 [.agg (Ty.cells .guest a0),.one (.i .i64 a1)]=zJ8 N a0 a1:=by kernel_rfl
theorem zYE (a0:Guest)(a1:Int)(hb:zG big [.agg (Ty.cells .guest a0),.one (.i .i64 a1)])(hc:(zCX a0 a1)=true):∃N,zJ8 N a0 a1=some [.agg (Ty.cells .guest (zzc a0 a1))]:=by
 have hs:=zI.1 hc;have hz:a0.Seen.length<=1048576:=hs.2.2.2
 refine ⟨0,?_⟩;unfold zJ8;refine must (by first|assumption|(simp_all<;>omega)) (br (fun _=>must (by first|assumption|(simp_all<;>omega)) ?_) (fun _=>?_))
 all_goals first|rfl|(simp only [*,zzc,saw,cT,cF]<;>rfl)|simp_all [Ty.cells,zzc,saw]
theorem zTz:Holds Tryz.prog 127 zBF:=zo zfa zD zu zA (zC (by kernel_rfl)) fun avs rs hb h=>by
 unfold zBF at h;split at h
 ·obtain ⟨hc,rfl⟩:=zl h;exact (fin2 zYE z0k hc hb :)
 ·cases h
def stopped (g:Guest)(e:GExit):Guest:={ g with Exit:=e }
@[simp] theorem z2F {g:Guest}(e:GExit)(h:SmG g):SmG (stopped g e):=h
@[simp,reducible] def zgb (g:Guest)(e:GExit):Bool:=pc (SmG g)
@[simp,reducible] def zgc (g:Guest)(e:GExit):Guest:=stopped g e
def zqg:List AV->Option (Bool×List AV)
 | [.agg [.s .ins c,.i .i64 d,.i .i64 e,.s .slot f,.s .slot g,.i .i64 h,.i .i64 j,.b k,.i .i64 l,.i .i64 m,.i .i64 n,.b o,.i .i64 p,.b q,.s .int r],.agg [.i .i64 t,.i .i64 u,.b v,.i .i64 w]]=>some ((zgb (⟨c,d,e,f,g,⟨h,j,k⟩,l,⟨m,n,o,p⟩,q,r⟩:Guest) (⟨t,u,v,w⟩:GExit)),[.agg (Ty.cells .guest (zgc (⟨c,d,e,f,g,⟨h,j,k⟩,l,⟨m,n,o,p⟩,q,r⟩:Guest) (⟨t,u,v,w⟩:GExit)))])
 | _=>none
def zv6 (N:Nat)(a0:Guest)(a1:GExit):Option Ans :=
 (cond (zc7 a0) (some [(.agg (Ty.cells .guest ({ (zcy a0) with Exit:=a1 }:Guest)))]) none)
theorem zPU (N:Nat)(a0:Guest)(a1:GExit):evalFn (cQ zi4 zV zK zO) (zB []) N 12 100 [.agg (Ty.cells .guest a0),.agg (zdT a1)]=zv6 N a0 a1:=by kernel_rfl
theorem zOU (a0:Guest)(a1:GExit)(hb:zG big [.agg (Ty.cells .guest a0),.agg (zdT a1)])(hc:(zgb a0 a1)=true):∃N,zv6 N a0 a1=some [.agg (Ty.cells .guest (zgc a0 a1))]:=by
 have hs:=zI.1 hc;refine ⟨0,?_⟩;unfold zv6;refine must (by first|assumption|(simp_all<;>omega)) ?_
 first|rfl|(simp only [*,zgc,stopped,cT,cF]<;>rfl)|simp_all [Ty.cells,zgc,stopped]
theorem zIN:Holds Tryz.prog 100 zqg:=zo zfa zD zu zA (zC (by kernel_rfl)) fun avs rs hb h=>by
 unfold zqg at h;split at h
 ·obtain ⟨hc,rfl⟩:=zl h;exact (fin2 zOU zPU hc hb :)
 ·cases h
@[simp,reducible] def zfu (g:Guest)(e:GExit):Bool:=pc (SmG g)
@[simp,reducible] def zdZ (g:Guest)(e:GExit):Guest:=stopped g e
def zp1:List AV->Option (Bool×List AV)
 | [.agg [.s .ins c,.i .i64 d,.i .i64 e,.s .slot f,.s .slot g,.i .i64 h,.i .i64 j,.b k,.i .i64 l,.i .i64 m,.i .i64 n,.b o,.i .i64 p,.b q,.s .int r],.agg [.i .i64 t,.i .i64 u,.b v,.i .i64 w]]=>some ((zfu (⟨c,d,e,f,g,⟨h,j,k⟩,l,⟨m,n,o,p⟩,q,r⟩:Guest) (⟨t,u,v,w⟩:GExit)),[.agg (Ty.cells .guest (zdZ (⟨c,d,e,f,g,⟨h,j,k⟩,l,⟨m,n,o,p⟩,q,r⟩:Guest) (⟨t,u,v,w⟩:GExit)))])
 | _=>none
def zwm (N:Nat)(a0:Guest)(a1:GExit):Option Ans :=
 (cond (zdk a0) (some [(.agg (Ty.cells .guest ({ (zcs a0) with Exit:=a1 }:Guest)))]) none)
theorem zSx (N:Nat)(a0:Guest)(a1:GExit):evalFn (cQ zi4 zV zK zO) (zB []) N 12 58 [.agg (Ty.cells .guest a0),.agg (zdT a1)]=zwm N a0 a1:=by kernel_rfl
theorem zOc (a0:Guest)(a1:GExit)(hb:zG big [.agg (Ty.cells .guest a0),.agg (zdT a1)])(hc:(zfu a0 a1)=true):∃N,zwm N a0 a1=some [.agg (Ty.cells .guest (zdZ a0 a1))]:=by
 have hs:=zI.1 hc;refine ⟨0,?_⟩;unfold zwm;refine must (by first|assumption|(simp_all<;>omega)) ?_
 first|rfl|(simp only [*,zdZ,stopped,cT,cF]<;>rfl)|simp_all [Ty.cells,zdZ,stopped]
theorem zIH:Holds Tryz.prog 58 zp1:=zo zfa zD zu zA (zC (by kernel_rfl)) fun avs rs hb h=>by
 unfold zp1 at h;split at h
 ·obtain ⟨hc,rfl⟩:=zl h;exact (fin2 zOc zSx hc hb :)
 ·cases h
def zb7 (g:Guest):Guest:=bif ige g.Pc 12 then { g with Pc:=12 } else { g with Pc:=zq .i64 g.Pc 1 }
@[simp] theorem zlw {g:Guest}(h:SmG g):SmG (zb7 g):=by
 unfold zb7;cases ige g.Pc 12<;>exact h
@[simp,reducible] def zcq (g:Guest):Bool:=pc (SmG g)
@[simp,reducible] def zcN (g:Guest):Guest:=zb7 g
def zwB:List AV->Option (Bool×List AV)
 | [.agg [.s .ins c,.i .i64 d,.i .i64 e,.s .slot f,.s .slot g,.i .i64 h,.i .i64 j,.b k,.i .i64 l,.i .i64 m,.i .i64 n,.b o,.i .i64 p,.b q,.s .int r]]=>some ((zcq (⟨c,d,e,f,g,⟨h,j,k⟩,l,⟨m,n,o,p⟩,q,r⟩:Guest)),[.agg (Ty.cells .guest (zcN (⟨c,d,e,f,g,⟨h,j,k⟩,l,⟨m,n,o,p⟩,q,r⟩:Guest)))])
 | _=>none
def zBx (N:Nat)(a0:Guest):Option Ans :=
 (cond (zc7 a0) (cond (ige (zcy a0).Pc 12) (some [(.agg (Ty.cells .guest ({ (zcy a0) with Pc:=12 }:Guest)))]) (some [(.agg (Ty.cells .guest ({ (zcy a0) with Pc:=(zq .i64 (zcy a0).Pc 1) }:Guest)))])) none)
theorem zXr (N:Nat)(a0:Guest):evalFn (cQ zi4 zV zK zO) (zB []) N 12 95 [.agg (Ty.cells .guest a0)]=zBx N a0:=by kernel_rfl
theorem zU9 (a0:Guest)(hb:zG big [.agg (Ty.cells .guest a0)])(hc:(zcq a0)=true):∃N,zBx N a0=some [.agg (Ty.cells .guest (zcN a0))]:=by
 have hs:=zI.1 hc;refine ⟨0,?_⟩;unfold zBx;refine must (by first|assumption|(simp_all<;>omega)) (br (fun _=>?_) (fun _=>?_))
 all_goals first|rfl|(simp only [*,zcN,zb7,cT,cF]<;>rfl)|simp_all [Ty.cells,zcN,zb7]
theorem zOL:Holds Tryz.prog 95 zwB:=zo zfa zD zu zA (zC (by kernel_rfl)) fun avs rs hb h=>by
 unfold zwB at h;split at h
 ·obtain ⟨hc,rfl⟩:=zl h;exact (fin1 zU9 zXr hc hb :)
 ·cases h
@[simp,reducible] def zej (g:Guest):Bool:=pc (SmG g)
@[simp,reducible] def zdb (g:Guest):Guest:=zb7 g
def zwW:List AV->Option (Bool×List AV)
 | [.agg [.s .ins c,.i .i64 d,.i .i64 e,.s .slot f,.s .slot g,.i .i64 h,.i .i64 j,.b k,.i .i64 l,.i .i64 m,.i .i64 n,.b o,.i .i64 p,.b q,.s .int r]]=>some ((zej (⟨c,d,e,f,g,⟨h,j,k⟩,l,⟨m,n,o,p⟩,q,r⟩:Guest)),[.agg (Ty.cells .guest (zdb (⟨c,d,e,f,g,⟨h,j,k⟩,l,⟨m,n,o,p⟩,q,r⟩:Guest)))])
 | _=>none
def zA6 (N:Nat)(a0:Guest):Option Ans :=
 (cond (zdk a0) (cond (ige a0.Pc 12) (some [(.agg (Ty.cells .guest ({ (zcs a0) with Pc:=12 }:Guest)))]) (some [(.agg (Ty.cells .guest ({ (zcs a0) with Pc:=(zq .i64 a0.Pc 1) }:Guest)))])) none)
theorem zW4 (N:Nat)(a0:Guest):evalFn (cQ zi4 zV zK zO) (zB []) N 12 126 [.agg (Ty.cells .guest a0)]=zA6 N a0:=by kernel_rfl
theorem zTE (a0:Guest)(hb:zG big [.agg (Ty.cells .guest a0)])(hc:(zej a0)=true):∃N,zA6 N a0=some [.agg (Ty.cells .guest (zdb a0))]:=by
 have hs:=zI.1 hc;refine ⟨0,?_⟩;unfold zA6;refine must (by first|assumption|(simp_all<;>omega)) (br (fun _=>?_) (fun _=>?_))
 all_goals first|rfl|(simp only [*,zdb,zb7,cT,cF]<;>rfl)|simp_all [Ty.cells,zdb,zb7]
theorem zOo:Holds Tryz.prog 126 zwW:=zo zfa zD zu zA (zC (by kernel_rfl)) fun avs rs hb h=>by
 unfold zwW at h;split at h
 ·obtain ⟨hc,rfl⟩:=zl h;exact (fin1 zTE zW4 hc hb :)
 ·cases h
def zha:zbP:=[(102,znD),(60,zor),(90,zou),(122,zny),(93,zqK),(186,zqA),(94,zBE),(127,zBF),(100,zqg),(58,zp1),(95,zwB),(126,zwW)]++zi4
theorem zeh:zbv zha:=zn zGi (zn zFi (zn zGg (zn zFB (zn zGZ (zn zIj (zn zU7 (zn zTz (zn zIN (zn zIH (zn zOL (zn zOo zfa)))))))))))
def interrupted (g:Guest):Guest:=bif zhu g then saw { g with Pending:=zlN g.Pending } (zq .i64 100 (zuX g.Pending)) else g
@[simp] theorem zVX {g:Guest}(h:SmG g):SmG (interrupted g):=by
 unfold interrupted;cases zhu g
 ·exact h
 ·exact zCv (g:={ g with Pending:=zlN g.Pending }) _ h
@[simp,reducible] def zme (g:Guest):Bool:=pc (SmG g)
@[simp,reducible] def zin (g:Guest):Guest:=interrupted g
def zkp:List AV->Option (Bool×List AV)
 | [.agg [.s .ins c,.i .i64 d,.i .i64 e,.s .slot f,.s .slot g,.i .i64 h,.i .i64 j,.b k,.i .i64 l,.i .i64 m,.i .i64 n,.b o,.i .i64 p,.b q,.s .int r]]=>some ((zme (⟨c,d,e,f,g,⟨h,j,k⟩,l,⟨m,n,o,p⟩,q,r⟩:Guest)),[.agg (Ty.cells .guest (zin (⟨c,d,e,f,g,⟨h,j,k⟩,l,⟨m,n,o,p⟩,q,r⟩:Guest)))])
 | _=>none
def zl1 (N:Nat)(a0:Guest):Option Ans :=
 (cond (zmx a0) (cond (cond (zj6 a0) false true) (cond (zc7 a0) (some [(.agg (Ty.cells .guest (zcy a0)))]) none) (cond (zwL a0.Pending) (cond (zCK ({ a0 with Pending:=(ziw a0.Pending) }:Guest) (zq .i64 100 (ziS a0.Pending))) (some [(.agg (Ty.cells .guest (zAl ({ a0 with Pending:=(ziw a0.Pending) }:Guest) (zq .i64 100 (ziS a0.Pending)))))]) none) none)) none)
theorem zFE (N:Nat)(a0:Guest):evalFn (cQ zha zV zK zO) (zB []) N 12 41 [.agg (Ty.cells .guest a0)]=zl1 N a0:=by kernel_rfl
theorem zDc (a0:Guest)(hb:zG big [.agg (Ty.cells .guest a0)])(hc:(zme a0)=true):∃N,zl1 N a0=some [.agg (Ty.cells .guest (zin a0))]:=by
 have hs:=zI.1 hc;have hz:_/\_/\_/\_:=hs
 refine ⟨0,?_⟩;unfold zl1;refine must rfl (brN (fun _=>must (by first|assumption|(simp_all<;>omega)) ?_) (fun _=>must rfl (must (by first|assumption|(simp_all<;>omega)) ?_)))
 all_goals first|rfl|(simp only [*,zin,interrupted,cT,cF]<;>rfl)|simp_all [Ty.cells,zin,interrupted]
theorem zAW:Holds Tryz.prog 41 zkp:=zo zeh zD zu zA (zC (by kernel_rfl)) fun avs rs hb h=>by
 unfold zkp at h;split at h
 ·obtain ⟨hc,rfl⟩:=zl h;exact (fin1 zDc zFE hc hb :)
 ·cases h
@[simp,reducible] def znh (g:Guest):Bool:=pc (SmG g)
@[simp,reducible] def zgW (g:Guest):Guest:=interrupted g
def zko:List AV->Option (Bool×List AV)
 | [.agg [.s .ins c,.i .i64 d,.i .i64 e,.s .slot f,.s .slot g,.i .i64 h,.i .i64 j,.b k,.i .i64 l,.i .i64 m,.i .i64 n,.b o,.i .i64 p,.b q,.s .int r]]=>some ((znh (⟨c,d,e,f,g,⟨h,j,k⟩,l,⟨m,n,o,p⟩,q,r⟩:Guest)),[.agg (Ty.cells .guest (zgW (⟨c,d,e,f,g,⟨h,j,k⟩,l,⟨m,n,o,p⟩,q,r⟩:Guest)))])
 | _=>none
def znm (N:Nat)(a0:Guest):Option Ans :=
 (cond (znj a0) (cond (cond (zjL a0) false true) (cond (zdk a0) (some [(.agg (Ty.cells .guest (zcs a0)))]) none) (cond (zxm a0.Pending) (cond (zCX ({ a0 with Pending:=(ziK a0.Pending) }:Guest) (zq .i64 100 (ziQ a0.Pending))) (some [(.agg (Ty.cells .guest (zzc ({ a0 with Pending:=(ziK a0.Pending) }:Guest) (zq .i64 100 (ziQ a0.Pending)))))]) none) none)) none)
theorem zFU (N:Nat)(a0:Guest):evalFn (cQ zha zV zK zO) (zB []) N 12 136 [.agg (Ty.cells .guest a0)]=znm N a0:=by kernel_rfl
theorem zDx (a0:Guest)(hb:zG big [.agg (Ty.cells .guest a0)])(hc:(znh a0)=true):∃N,znm N a0=some [.agg (Ty.cells .guest (zgW a0))]:=by
 have hs:=zI.1 hc;have hz:_/\_/\_/\_:=hs
 refine ⟨0,?_⟩;unfold znm;refine must rfl (brN (fun _=>must (by first|assumption|(simp_all<;>omega)) ?_) (fun _=>must rfl (must (by first|assumption|(simp_all<;>omega)) ?_)))
 all_goals first|rfl|(simp only [*,zgW,interrupted,cT,cF]<;>rfl)|simp_all [Ty.cells,zgW,interrupted]
theorem zAQ:Holds Tryz.prog 136 zko:=zo zeh zD zu zA (zC (by kernel_rfl)) fun avs rs hb h=>by
 unfold zko at h;split at h
 ·obtain ⟨hc,rfl⟩:=zl h;exact (fin1 zDx zFU hc hb :)
 ·cases h
def zxP (o:Int):Int:=bif ieq o 3 then 3 else (cond (ieq o 4) 4 (cond (ieq o 5) 5 (cond (ieq o 6) 6 (cond (ieq o 7) 7 2))))
def zN (g:Guest):Int:=bif canRun g then (cond (zhu g) 1 (zxP (zdE g.Prog g.Pc).Op)) else 0
@[simp,reducible] def zey (g:Guest):Bool:=true
@[simp,reducible] def zk5 (g:Guest):Int:=zN g
def zsM:List AV->Option (Bool×List AV)
 | [.agg [.s .ins c,.i .i64 d,.i .i64 e,.s .slot f,.s .slot g,.i .i64 h,.i .i64 j,.b k,.i .i64 l,.i .i64 m,.i .i64 n,.b o,.i .i64 p,.b q,.s .int r]]=>some ((zey (⟨c,d,e,f,g,⟨h,j,k⟩,l,⟨m,n,o,p⟩,q,r⟩:Guest)),[.one (.i .i64 (zk5 (⟨c,d,e,f,g,⟨h,j,k⟩,l,⟨m,n,o,p⟩,q,r⟩:Guest)))])
 | _=>none
def zyi (N:Nat)(a0:Guest):Option Ans :=
 (cond (zr3 a0) (cond (cond (zn3 a0) false true) (some [(.one (.i .i64 0))]) (cond (zmx a0) (cond (zj6 a0) (some [(.one (.i .i64 1))]) (cond (zeZ a0.Prog a0.Pc) (cond (ieq (zbN a0.Prog a0.Pc).Op 3) (some [(.one (.i .i64 3))]) (cond (ieq (zbN a0.Prog a0.Pc).Op 4) (some [(.one (.i .i64 4))]) (cond (ieq (zbN a0.Prog a0.Pc).Op 5) (some [(.one (.i .i64 5))]) (cond (ieq (zbN a0.Prog a0.Pc).Op 6) (some [(.one (.i .i64 6))]) (cond (ieq (zbN a0.Prog a0.Pc).Op 7) (some [(.one (.i .i64 7))]) (some [(.one (.i .i64 2))])))))) none)) none)) none)
theorem zT1 (N:Nat)(a0:Guest):evalFn (cQ zha zV zK zO) (zB []) N 12 40 [.agg (Ty.cells .guest a0)]=zyi N a0:=by kernel_rfl
theorem zQ6 (a0:Guest)(hb:zG big [.agg (Ty.cells .guest a0)])(hc:(zey a0)=true):∃N,zyi N a0=some [.one (.i .i64 (zk5 a0))]:=by
 refine ⟨0,?_⟩;unfold zyi;refine must rfl (brN (fun _=>?_) (fun _=>must rfl (br (fun _=>?_) (fun _=>must rfl (br (fun _=>?_) (fun _=>br (fun _=>?_) (fun _=>br (fun _=>?_) (fun _=>br (fun _=>?_) (fun _=>br (fun _=>?_) (fun _=>?_))))))))))
 all_goals first|rfl|(simp only [*,zk5,zN,zxP,cT,cF]<;>rfl)|simp_all [Ty.cells,zk5,zN,zxP]
theorem zcf:Holds Tryz.prog 40 zsM:=zo zeh zD zu zA (zC (by kernel_rfl)) fun avs rs hb h=>by
 unfold zsM at h;split at h
 ·obtain ⟨hc,rfl⟩:=zl h;exact (fin1 zQ6 zT1 hc hb :)
 ·cases h
@[simp,reducible] def zic (g:Guest):Bool:=true
@[simp,reducible] def zbp (g:Guest):Int:=zN g
def zuT:List AV->Option (Bool×List AV)
 | [.agg [.s .ins c,.i .i64 d,.i .i64 e,.s .slot f,.s .slot g,.i .i64 h,.i .i64 j,.b k,.i .i64 l,.i .i64 m,.i .i64 n,.b o,.i .i64 p,.b q,.s .int r]]=>some ((zic (⟨c,d,e,f,g,⟨h,j,k⟩,l,⟨m,n,o,p⟩,q,r⟩:Guest)),[.one (.i .i64 (zbp (⟨c,d,e,f,g,⟨h,j,k⟩,l,⟨m,n,o,p⟩,q,r⟩:Guest)))])
 | _=>none
def zzN (N:Nat)(a0:Guest):Option Ans :=
 (cond (zrD a0) (cond (cond (znA a0) false true) (some [(.one (.i .i64 0))]) (cond (znj a0) (cond (zjL a0) (some [(.one (.i .i64 1))]) (cond (zfF a0.Prog a0.Pc) (cond (ieq (zb3 a0.Prog a0.Pc).Op 3) (some [(.one (.i .i64 3))]) (cond (ieq (zb3 a0.Prog a0.Pc).Op 4) (some [(.one (.i .i64 4))]) (cond (ieq (zb3 a0.Prog a0.Pc).Op 5) (some [(.one (.i .i64 5))]) (cond (ieq (zb3 a0.Prog a0.Pc).Op 6) (some [(.one (.i .i64 6))]) (cond (ieq (zb3 a0.Prog a0.Pc).Op 7) (some [(.one (.i .i64 7))]) (some [(.one (.i .i64 2))])))))) none)) none)) none)
theorem zTt (N:Nat)(a0:Guest):evalFn (cQ zha zV zK zO) (zB []) N 12 53 [.agg (Ty.cells .guest a0)]=zzN N a0:=by kernel_rfl
theorem zSz (a0:Guest)(hb:zG big [.agg (Ty.cells .guest a0)])(hc:(zic a0)=true):∃N,zzN N a0=some [.one (.i .i64 (zbp a0))]:=by
 refine ⟨0,?_⟩;unfold zzN;refine must rfl (brN (fun _=>?_) (fun _=>must rfl (br (fun _=>?_) (fun _=>must rfl (br (fun _=>?_) (fun _=>br (fun _=>?_) (fun _=>br (fun _=>?_) (fun _=>br (fun _=>?_) (fun _=>br (fun _=>?_) (fun _=>?_))))))))))
 all_goals first|rfl|(simp only [*,zbp,zN,zxP,cT,cF]<;>rfl)|simp_all [Ty.cells,zbp,zN,zxP]
theorem zJQ:Holds Tryz.prog 53 zuT:=zo zeh zD zu zA (zC (by kernel_rfl)) fun avs rs hb h=>by
 unfold zuT at h;split at h
 ·obtain ⟨hc,rfl⟩:=zl h;exact (fin1 zSz zTt hc hb :)
 ·cases h
def held (g:Guest):Guest:=zb7 { g with Halted:=true }
@[simp] theorem zZZ {g:Guest}(h:SmG g):SmG (held g):=zlw (g:={ g with Halted:=true }) h
@[simp,reducible] def zop (g:Guest):Bool:=pc (SmG g)
@[simp,reducible] def zpq (g:Guest):Guest:=held g
def zzd:List AV->Option (Bool×List AV)
 | [.agg [.s .ins c,.i .i64 d,.i .i64 e,.s .slot f,.s .slot g,.i .i64 h,.i .i64 j,.b k,.i .i64 l,.i .i64 m,.i .i64 n,.b o,.i .i64 p,.b q,.s .int r]]=>some ((zop (⟨c,d,e,f,g,⟨h,j,k⟩,l,⟨m,n,o,p⟩,q,r⟩:Guest)),[.agg (Ty.cells .guest (zpq (⟨c,d,e,f,g,⟨h,j,k⟩,l,⟨m,n,o,p⟩,q,r⟩:Guest)))])
 | _=>none
def zEP (N:Nat)(a0:Guest):Option Ans :=
 (cond (zcq ({ a0 with Halted:=true }:Guest)) (some [(.agg (Ty.cells .guest (zcN ({ a0 with Halted:=true }:Guest))))]) none)
theorem zYm (N:Nat)(a0:Guest):evalFn (cQ zha zV zK zO) (zB []) N 12 167 [.agg (Ty.cells .guest a0)]=zEP N a0:=by kernel_rfl
theorem zXP (a0:Guest)(hb:zG big [.agg (Ty.cells .guest a0)])(hc:(zop a0)=true):∃N,zEP N a0=some [.agg (Ty.cells .guest (zpq a0))]:=by
 have hs:=zI.1 hc;have hz:_/\_/\_/\_:=hs
 refine ⟨0,?_⟩;unfold zEP;refine must (by first|assumption|(simp_all<;>omega)) ?_
 first|rfl|(simp only [*,zpq,held,cT,cF]<;>rfl)|simp_all [Ty.cells,zpq,held]
theorem zPw:Holds Tryz.prog 167 zzd:=zo zeh zD zu zA (zC (by kernel_rfl)) fun avs rs hb h=>by
 unfold zzd at h;split at h
 ·obtain ⟨hc,rfl⟩:=zl h;exact (fin1 zXP zYm hc hb :)
 ·cases h
@[simp,reducible] def zlk (g:Guest):Bool:=pc (SmG g)
@[simp,reducible] def zjw (g:Guest):Guest:=held g
def zyO:List AV->Option (Bool×List AV)
 | [.agg [.s .ins c,.i .i64 d,.i .i64 e,.s .slot f,.s .slot g,.i .i64 h,.i .i64 j,.b k,.i .i64 l,.i .i64 m,.i .i64 n,.b o,.i .i64 p,.b q,.s .int r]]=>some ((zlk (⟨c,d,e,f,g,⟨h,j,k⟩,l,⟨m,n,o,p⟩,q,r⟩:Guest)),[.agg (Ty.cells .guest (zjw (⟨c,d,e,f,g,⟨h,j,k⟩,l,⟨m,n,o,p⟩,q,r⟩:Guest)))])
 | _=>none
def zEL (N:Nat)(a0:Guest):Option Ans :=
 (cond (zej ({ a0 with Halted:=true }:Guest)) (some [(.agg (Ty.cells .guest (zdb ({ a0 with Halted:=true }:Guest))))]) none)
theorem zX5 (N:Nat)(a0:Guest):evalFn (cQ zha zV zK zO) (zB []) N 12 131 [.agg (Ty.cells .guest a0)]=zEL N a0:=by kernel_rfl
theorem zXo (a0:Guest)(hb:zG big [.agg (Ty.cells .guest a0)])(hc:(zlk a0)=true):∃N,zEL N a0=some [.agg (Ty.cells .guest (zjw a0))]:=by
 have hs:=zI.1 hc;have hz:_/\_/\_/\_:=hs
 refine ⟨0,?_⟩;unfold zEL;refine must (by first|assumption|(simp_all<;>omega)) ?_
 first|rfl|(simp only [*,zjw,held,cT,cF]<;>rfl)|simp_all [Ty.cells,zjw,held]
theorem zQb:Holds Tryz.prog 131 zyO:=zo zeh zD zu zA (zC (by kernel_rfl)) fun avs rs hb h=>by
 unfold zyO at h;split at h
 ·obtain ⟨hc,rfl⟩:=zl h;exact (fin1 zXo zX5 hc hb :)
 ·cases h
@[simp,reducible] def zyF (g:Guest):Bool:=pc (SmG g)
@[simp,reducible] def ztu (g:Guest):Guest:=zb7 g
def zuy:List AV->Option (Bool×List AV)
 | [.agg [.s .ins c,.i .i64 d,.i .i64 e,.s .slot f,.s .slot g,.i .i64 h,.i .i64 j,.b k,.i .i64 l,.i .i64 m,.i .i64 n,.b o,.i .i64 p,.b q,.s .int r]]=>some ((zyF (⟨c,d,e,f,g,⟨h,j,k⟩,l,⟨m,n,o,p⟩,q,r⟩:Guest)),[.agg (Ty.cells .guest (ztu (⟨c,d,e,f,g,⟨h,j,k⟩,l,⟨m,n,o,p⟩,q,r⟩:Guest)))])
 | _=>none
def zAh (N:Nat)(a0:Guest):Option Ans :=
 (cond (zcq a0) (some [(.agg (Ty.cells .guest (zcN a0)))]) none)
theorem zU2 (N:Nat)(a0:Guest):evalFn (cQ zha zV zK zO) (zB []) N 12 104 [.agg (Ty.cells .guest a0)]=zAh N a0:=by kernel_rfl
theorem zRN (a0:Guest)(hb:zG big [.agg (Ty.cells .guest a0)])(hc:(zyF a0)=true):∃N,zAh N a0=some [.agg (Ty.cells .guest (ztu a0))]:=by
 have hs:=zI.1 hc;refine ⟨0,?_⟩;unfold zAh;refine must (by first|assumption|(simp_all<;>omega)) ?_
 first|rfl|(simp only [*,ztu,cT,cF]<;>rfl)|simp_all [Ty.cells,ztu]
theorem zKN:Holds Tryz.prog 104 zuy:=zo zeh zD zu zA (zC (by kernel_rfl)) fun avs rs hb h=>by
 unfold zuy at h;split at h
 ·obtain ⟨hc,rfl⟩:=zl h;exact (fin1 zRN zU2 hc hb :)
 ·cases h
@[simp,reducible] def znc (g:Guest):Bool:=pc (SmG g)
@[simp,reducible] def zh6 (g:Guest):Guest:=zb7 g
def zuI:List AV->Option (Bool×List AV)
 | [.agg [.s .ins c,.i .i64 d,.i .i64 e,.s .slot f,.s .slot g,.i .i64 h,.i .i64 j,.b k,.i .i64 l,.i .i64 m,.i .i64 n,.b o,.i .i64 p,.b q,.s .int r]]=>some ((znc (⟨c,d,e,f,g,⟨h,j,k⟩,l,⟨m,n,o,p⟩,q,r⟩:Guest)),[.agg (Ty.cells .guest (zh6 (⟨c,d,e,f,g,⟨h,j,k⟩,l,⟨m,n,o,p⟩,q,r⟩:Guest)))])
 | _=>none
def zyY (N:Nat)(a0:Guest):Option Ans :=
 (cond (zej a0) (some [(.agg (Ty.cells .guest (zdb a0)))]) none)
theorem zUG (N:Nat)(a0:Guest):evalFn (cQ zha zV zK zO) (zB []) N 12 62 [.agg (Ty.cells .guest a0)]=zyY N a0:=by kernel_rfl
theorem zSc (a0:Guest)(hb:zG big [.agg (Ty.cells .guest a0)])(hc:(znc a0)=true):∃N,zyY N a0=some [.agg (Ty.cells .guest (zh6 a0))]:=by
 have hs:=zI.1 hc;refine ⟨0,?_⟩;unfold zyY;refine must (by first|assumption|(simp_all<;>omega)) ?_
 first|rfl|(simp only [*,zh6,cT,cF]<;>rfl)|simp_all [Ty.cells,zh6]
theorem zLR:Holds Tryz.prog 62 zuI:=zo zeh zD zu zA (zC (by kernel_rfl)) fun avs rs hb h=>by
 unfold zuI at h;split at h
 ·obtain ⟨hc,rfl⟩:=zl h;exact (fin1 zSc zUG hc hb :)
 ·cases h
def loaded (g:Guest)(v:Int):Guest:=zb7 (saw { g with A:=v } v)
@[simp] theorem zHl {g:Guest}(v:Int)(h:SmG g):SmG (loaded g v):=zlw (zCv (g:={ g with A:=v }) v h)
@[simp,reducible] def zAf (g:Guest)(v:Int):Bool:=pc (SmG g)
@[simp,reducible] def ztT (g:Guest)(v:Int):Guest:=loaded g v
def zs9:List AV->Option (Bool×List AV)
 | [.agg [.s .ins c,.i .i64 d,.i .i64 e,.s .slot f,.s .slot g,.i .i64 h,.i .i64 j,.b k,.i .i64 l,.i .i64 m,.i .i64 n,.b o,.i .i64 p,.b q,.s .int r],.one (.i .i64 t)]=>some ((zAf (⟨c,d,e,f,g,⟨h,j,k⟩,l,⟨m,n,o,p⟩,q,r⟩:Guest) t),[.agg (Ty.cells .guest (ztT (⟨c,d,e,f,g,⟨h,j,k⟩,l,⟨m,n,o,p⟩,q,r⟩:Guest) t))])
 | _=>none
def zyL (N:Nat)(a0:Guest)(a1:Int):Option Ans :=
 (cond (zCK ({ a0 with A:=a1 }:Guest) a1) (cond (zcq (zAl ({ a0 with A:=a1 }:Guest) a1)) (some [(.agg (Ty.cells .guest (zcN (zAl ({ a0 with A:=a1 }:Guest) a1))))]) none) none)
theorem zTw (N:Nat)(a0:Guest)(a1:Int):evalFn (cQ zha zV zK zO) (zB []) N 12 105 [.agg (Ty.cells .guest a0),.one (.i .i64 a1)]=zyL N a0 a1:=by kernel_rfl
theorem zRr (a0:Guest)(a1:Int)(hb:zG big [.agg (Ty.cells .guest a0),.one (.i .i64 a1)])(hc:(zAf a0 a1)=true):∃N,zyL N a0 a1=some [.agg (Ty.cells .guest (ztT a0 a1))]:=by
 have hs:=zI.1 hc;have hz:_/\_/\_/\_:=hs;have hk:SmG (saw { a0 with A:=a1 } a1):=zCv (g:={ a0 with A:=a1 }) a1 hs
 refine ⟨0,?_⟩;unfold zyL;refine must (by first|assumption|(simp_all<;>omega)) (must (by first|assumption|(simp_all<;>omega)) ?_)
 first|rfl|(simp only [*,ztT,loaded,cT,cF]<;>rfl)|simp_all [Ty.cells,ztT,loaded]
theorem zJ7:Holds Tryz.prog 105 zs9:=zo zeh zD zu zA (zC (by kernel_rfl)) fun avs rs hb h=>by
 unfold zs9 at h;split at h
 ·obtain ⟨hc,rfl⟩:=zl h;exact (fin2 zRr zTw hc hb :)
 ·cases h
@[simp,reducible] def zlP (g:Guest)(v:Int):Bool:=pc (SmG g)
@[simp,reducible] def zhY (g:Guest)(v:Int):Guest:=loaded g v
def zsQ:List AV->Option (Bool×List AV)
 | [.agg [.s .ins c,.i .i64 d,.i .i64 e,.s .slot f,.s .slot g,.i .i64 h,.i .i64 j,.b k,.i .i64 l,.i .i64 m,.i .i64 n,.b o,.i .i64 p,.b q,.s .int r],.one (.i .i64 t)]=>some ((zlP (⟨c,d,e,f,g,⟨h,j,k⟩,l,⟨m,n,o,p⟩,q,r⟩:Guest) t),[.agg (Ty.cells .guest (zhY (⟨c,d,e,f,g,⟨h,j,k⟩,l,⟨m,n,o,p⟩,q,r⟩:Guest) t))])
 | _=>none
def zzn (N:Nat)(a0:Guest)(a1:Int):Option Ans :=
 (cond (zCX ({ a0 with A:=a1 }:Guest) a1) (cond (zej (zzc ({ a0 with A:=a1 }:Guest) a1)) (some [(.agg (Ty.cells .guest (zdb (zzc ({ a0 with A:=a1 }:Guest) a1))))]) none) none)
theorem zTm (N:Nat)(a0:Guest)(a1:Int):evalFn (cQ zha zV zK zO) (zB []) N 12 63 [.agg (Ty.cells .guest a0),.one (.i .i64 a1)]=zzn N a0 a1:=by kernel_rfl
theorem zSg (a0:Guest)(a1:Int)(hb:zG big [.agg (Ty.cells .guest a0),.one (.i .i64 a1)])(hc:(zlP a0 a1)=true):∃N,zzn N a0 a1=some [.agg (Ty.cells .guest (zhY a0 a1))]:=by
 have hs:=zI.1 hc;have hz:_/\_/\_/\_:=hs;have hk:SmG (saw { a0 with A:=a1 } a1):=zCv (g:={ a0 with A:=a1 }) a1 hs
 refine ⟨0,?_⟩;unfold zzn;refine must (by first|assumption|(simp_all<;>omega)) (must (by first|assumption|(simp_all<;>omega)) ?_)
 first|rfl|(simp only [*,zhY,loaded,cT,cF]<;>rfl)|simp_all [Ty.cells,zhY,loaded]
theorem zLy:Holds Tryz.prog 63 zsQ:=zo zeh zD zu zA (zC (by kernel_rfl)) fun avs rs hb h=>by
 unfold zsQ at h;split at h
 ·obtain ⟨hc,rfl⟩:=zl h;exact (fin2 zSg zTm hc hb :)
 ·cases h
def znS (g:Guest)(w:Int):Guest:=bif ieq w 5 then stopped g (zCV (zdE g.Prog g.Pc).X) else stopped g ⟨4,0,false,0⟩
@[simp] theorem z2G {g:Guest}(w:Int)(h:SmG g):SmG (znS g w):=by
 unfold znS;cases ieq w 5<;>exact h
@[simp,reducible] def zkL (g:Guest)(w:Int):Bool:=pc (SmG g)
@[simp,reducible] def zhe (g:Guest)(w:Int):Guest:=znS g w
def zqR:List AV->Option (Bool×List AV)
 | [.agg [.s .ins c,.i .i64 d,.i .i64 e,.s .slot f,.s .slot g,.i .i64 h,.i .i64 j,.b k,.i .i64 l,.i .i64 m,.i .i64 n,.b o,.i .i64 p,.b q,.s .int r],.one (.i .i64 t)]=>some ((zkL (⟨c,d,e,f,g,⟨h,j,k⟩,l,⟨m,n,o,p⟩,q,r⟩:Guest) t),[.agg (Ty.cells .guest (zhe (⟨c,d,e,f,g,⟨h,j,k⟩,l,⟨m,n,o,p⟩,q,r⟩:Guest) t))])
 | _=>none
def zwU (N:Nat)(a0:Guest)(a1:Int):Option Ans :=
 (cond (ieq a1 5) (cond (zfF a0.Prog a0.Pc) (cond (zxo (zb3 a0.Prog a0.Pc).X) (cond (zfu a0 (zlI (zb3 a0.Prog a0.Pc).X)) (some [(.agg (Ty.cells .guest (zdZ a0 (zlI (zb3 a0.Prog a0.Pc).X))))]) none) none) none) (cond (zfu a0 (⟨4,0,false,0⟩:GExit)) (some [(.agg (Ty.cells .guest (zdZ a0 (⟨4,0,false,0⟩:GExit))))]) none))
theorem zRQ (N:Nat)(a0:Guest)(a1:Int):evalFn (cQ zha zV zK zO) (zB []) N 12 130 [.agg (Ty.cells .guest a0),.one (.i .i64 a1)]=zwU N a0 a1:=by kernel_rfl
theorem zNx (a0:Guest)(a1:Int)(hb:zG big [.agg (Ty.cells .guest a0),.one (.i .i64 a1)])(hc:(zkL a0 a1)=true):∃N,zwU N a0 a1=some [.agg (Ty.cells .guest (zhe a0 a1))]:=by
 have hs:=zI.1 hc;refine ⟨0,?_⟩;unfold zwU;refine br (fun _=>must rfl (must rfl (must (by first|assumption|(simp_all<;>omega)) ?_))) (fun _=>must (by first|assumption|(simp_all<;>omega)) ?_)
 all_goals first|rfl|(simp only [*,zhe,znS,cT,cF]<;>rfl)|simp_all [Ty.cells,zhe,znS]
theorem zHx:Holds Tryz.prog 130 zqR:=zo zeh zD zu zA (zC (by kernel_rfl)) fun avs rs hb h=>by
 unfold zqR at h;split at h
 ·obtain ⟨hc,rfl⟩:=zl h;exact (fin2 zNx zRQ hc hb :)
 ·cases h
def zdF (g:Guest):Bool:=zjl g.Prog&&(win g.A 0 99&&(win g.Pc 0 12&&(zdI g.Written 4 8&&(zdI g.Live 4 8&&(zAs g.Ctl&&(zgx g.Pending&&(zsZ g.Exit&&ile (ln g.Seen) 40)))))))
@[simp,reducible] def zoJ (g:Guest):Bool:=true
@[simp,reducible] def zlC (g:Guest):Bool:=zdF g
def zpX:List AV->Option (Bool×List AV)
 | [.agg [.s .ins c,.i .i64 d,.i .i64 e,.s .slot f,.s .slot g,.i .i64 h,.i .i64 j,.b k,.i .i64 l,.i .i64 m,.i .i64 n,.b o,.i .i64 p,.b q,.s .int r]]=>some ((zoJ (⟨c,d,e,f,g,⟨h,j,k⟩,l,⟨m,n,o,p⟩,q,r⟩:Guest)),[.one (.b (zlC (⟨c,d,e,f,g,⟨h,j,k⟩,l,⟨m,n,o,p⟩,q,r⟩:Guest)))])
 | _=>none
def zwD (N:Nat)(a0:Guest):Option Ans :=
 (cond (zz9 a0.Prog) (cond (zle a0.Prog) (cond (zZ a0.A 0 99) (cond (zbf a0.A 0 99) (cond (zZ a0.Pc 0 12) (cond (zbf a0.Pc 0 12) (cond (zkC a0.Written 4 8) (cond (zg1 a0.Written 4 8) (cond (zkC a0.Live 4 8) (cond (zg1 a0.Live 4 8) (cond (zCr a0.Ctl) (cond (zxC a0.Ctl) (cond (zg7 a0.Pending) (cond (zgC a0.Pending) (cond (zzT a0.Exit) (cond (zuF a0.Exit) (some [(.one (.b (ile (ln a0.Seen) 40)))]) (some [(.one (.b false))])) none) (some [(.one (.b false))])) none) (some [(.one (.b false))])) none) (some [(.one (.b false))])) none) (some [(.one (.b false))])) none) (some [(.one (.b false))])) none) (some [(.one (.b false))])) none) (some [(.one (.b false))])) none)
theorem zQZ (N:Nat)(a0:Guest):evalFn (cQ zha zV zK zO) (zB []) N 12 195 [.agg (Ty.cells .guest a0)]=zwD N a0:=by kernel_rfl
theorem zNw (a0:Guest)(hb:zG big [.agg (Ty.cells .guest a0)])(hc:(zoJ a0)=true):∃N,zwD N a0=some [.one (.b (zlC a0))]:=by
 refine ⟨0,?_⟩;unfold zwD;refine must rfl (br (fun _=>must rfl (br (fun _=>must rfl (br (fun _=>must rfl (br (fun _=>must rfl (br (fun _=>must rfl (br (fun _=>must rfl (br (fun _=>must rfl (br (fun _=>?_) (fun _=>?_))) (fun _=>?_))) (fun _=>?_))) (fun _=>?_))) (fun _=>?_))) (fun _=>?_))) (fun _=>?_))) (fun _=>?_))
 all_goals first|rfl|(simp only [*,zlC,zdF,cT,cF]<;>rfl)|simp_all [Ty.cells,zlC,zdF]
theorem zGW:Holds Tryz.prog 195 zpX:=zo zeh zD zu zA (zC (by kernel_rfl)) fun avs rs hb h=>by
 unfold zpX at h;split at h
 ·obtain ⟨hc,rfl⟩:=zl h;exact (fin1 zNw zQZ hc hb :)
 ·cases h
@[simp,reducible] def zky (g:Guest):Bool:=true
@[simp,reducible] def zju (g:Guest):Bool:=zdF g
def zqH:List AV->Option (Bool×List AV)
 | [.agg [.s .ins c,.i .i64 d,.i .i64 e,.s .slot f,.s .slot g,.i .i64 h,.i .i64 j,.b k,.i .i64 l,.i .i64 m,.i .i64 n,.b o,.i .i64 p,.b q,.s .int r]]=>some ((zky (⟨c,d,e,f,g,⟨h,j,k⟩,l,⟨m,n,o,p⟩,q,r⟩:Guest)),[.one (.b (zju (⟨c,d,e,f,g,⟨h,j,k⟩,l,⟨m,n,o,p⟩,q,r⟩:Guest)))])
 | _=>none
def zxd (N:Nat)(a0:Guest):Option Ans :=
 (cond (zyx a0.Prog) (cond (zli a0.Prog) (cond (zbn a0.A 0 99) (cond (zbx a0.A 0 99) (cond (zbn a0.Pc 0 12) (cond (zbx a0.Pc 0 12) (cond (zkw a0.Written 4 8) (cond (zhb a0.Written 4 8) (cond (zkw a0.Live 4 8) (cond (zhb a0.Live 4 8) (cond (zBz a0.Ctl) (cond (zxE a0.Ctl) (cond (zhX a0.Pending) (cond (zh1 a0.Pending) (cond (zyq a0.Exit) (cond (ztn a0.Exit) (some [(.one (.b (ile (ln a0.Seen) 40)))]) (some [(.one (.b false))])) none) (some [(.one (.b false))])) none) (some [(.one (.b false))])) none) (some [(.one (.b false))])) none) (some [(.one (.b false))])) none) (some [(.one (.b false))])) none) (some [(.one (.b false))])) none) (some [(.one (.b false))])) none)
theorem zSb (N:Nat)(a0:Guest):evalFn (cQ zha zV zK zO) (zB []) N 12 174 [.agg (Ty.cells .guest a0)]=zxd N a0:=by kernel_rfl
theorem zN2 (a0:Guest)(hb:zG big [.agg (Ty.cells .guest a0)])(hc:(zky a0)=true):∃N,zxd N a0=some [.one (.b (zju a0))]:=by
 refine ⟨0,?_⟩;unfold zxd;refine must rfl (br (fun _=>must rfl (br (fun _=>must rfl (br (fun _=>must rfl (br (fun _=>must rfl (br (fun _=>must rfl (br (fun _=>must rfl (br (fun _=>must rfl (br (fun _=>?_) (fun _=>?_))) (fun _=>?_))) (fun _=>?_))) (fun _=>?_))) (fun _=>?_))) (fun _=>?_))) (fun _=>?_))) (fun _=>?_))
 all_goals first|rfl|(simp only [*,zju,zdF,cT,cF]<;>rfl)|simp_all [Ty.cells,zju,zdF]
theorem zI8:Holds Tryz.prog 174 zqH:=zo zeh zD zu zA (zC (by kernel_rfl)) fun avs rs hb h=>by
 unfold zqH at h;split at h
 ·obtain ⟨hc,rfl⟩:=zl h;exact (fin1 zN2 zSb hc hb :)
 ·cases h
@[simp,reducible] def zhK (l:List Guest):Bool:=pc (zBw l)
@[simp,reducible] def zhM (l:List Guest):List Guest:=l
def zlg:List AV->Option (Bool×List AV)
 | [.one (.s .guest b)]=>some ((zhK b),[.one (.s .guest (zhM b))])
 | _=>none
def znC (N:Nat)(a0:List Guest):Option Ans :=
 (iter (σ:=(Int×(Int×((List Guest)×((List Guest)×Unit))))) N (fun r2 s3=>(cond (ilt s3.2.1 s3.1) (cond (inb s3.2.1 (ln s3.2.2.2.1)) (cond (zdk (ix s3.2.2.2.1 s3.2.1 zi)) (cond (few (ln (ap s3.2.2.1 [(zcs (ix s3.2.2.2.1 s3.2.1 zi))]))) (r2 (s3.1,((zq .i64 s3.2.1 1),((ap s3.2.2.1 [(zcs (ix s3.2.2.2.1 s3.2.1 zi))]),(s3.2.2.2.1,()))))) none) none) none) (some [(.one (.s .guest s3.2.2.1))]))) ((ln a0),(0,([],(a0,())))))
def zE9:FuncId->Nat->Option Tmpl:=zB [(115,0,{ n:=20,tm:=[(3,.sl 0 []),(7,.sl 1 []),(8,.i .i64),(9,.i .i64)],lo:=[],ro:=[(0,.guest,true),(1,.guest,false)] })]
theorem zGP (N:Nat)(a0:List Guest):evalFn (cQ zha zV zK zO) zE9 N 12 115 [.one (.s .guest a0)]=znC N a0:=by kernel_rfl
theorem zE0 (a0:List Guest)(hb:zG big [.one (.s .guest a0)])(hc:(zhK a0)=true):∃N,znC N a0=some [.one (.s .guest (zhM a0))]:=by
 have hs:=zI.1 hc;have hl:=zcA hs.1;refine ⟨NN,?_⟩;have hNN:∀{n:Nat},n<=big->n<NN:=fun h=>zb4 h;generalize NN=N at hNN ⊢;unfold znC;refine (zbF a0 (fun i (t:(List Guest))=>((ln a0),(i:Int),t,a0,())) _ (fun _ x acc κ=>bif zdk x then (cond (few (ln (ap acc [zcs x]))) (κ (ap acc [zcs x])) none) else none) (fun (t:(List Guest))=>(some [(.one (.s .guest t))])) (fun i hi t rec=>?_) (fun t rec=>?_) _ ([]) (hNN hl.1)).trans ?_
 ·simp only [zbu hi,zbh hi,zbq hi,zbd hi hl.1,cT]
 ·simp only [zbk,cF]
 exact zh4 zdk zcs _ a0 0 [] (fun x hx=>⟨by exact zU (hs.2 x hx),rfl⟩) (by simpa using hl.2)
theorem zBQ:Holds Tryz.prog 115 zlg:=zo zeh zD zu zA (zC (by kernel_rfl)) fun avs rs hb h=>by
 unfold zlg at h;split at h
 ·obtain ⟨hc,rfl⟩:=zl h;exact (fin1 zE0 zGP hc hb :)
 ·cases h
def gAt (b:Bare)(i:Int):Guest:=bif hasB i (ln b.Guests) then ix b.Guests i zi else Ty.dflt .guest
@[simp] theorem zY6 {b:Bare}(i:Int)(h:SmB b):SmG (gAt b i):=by
 unfold gAt;cases hh:hasB i (ln b.Guests)
 ·exact z3b
 ·exact zYV h.2.1 hh _
@[simp,reducible] def zwg (b:Bare)(i:Int):Bool:=pc (SmB b)
@[simp,reducible] def zk (b:Bare)(i:Int):Guest:=gAt b i
@[simp,reducible] def zkE (b:Bare)(i:Int):Bool:=hasB i (ln b.Guests)
def zq0:List AV->Option (Bool×List AV)
 | [.agg [.s (.sl .int) c,.s .guest d,.s .int e,.i .i64 f],.one (.i .i64 g)]=>some ((zwg (⟨c,d,e,f⟩:Bare) g),[.agg (Ty.cells .guest (zk (⟨c,d,e,f⟩:Bare) g)),.one (.b (zkE (⟨c,d,e,f⟩:Bare) g))])
 | _=>none
def zw6 (N:Nat)(a0:Bare)(a1:Int):Option Ans :=
 (cond (zcz a1 (ln a0.Guests)) (cond (cond (zcT a1 (ln a0.Guests)) false true) (some [(.agg (Ty.cells .guest (⟨[],0,0,[],[],⟨0,0,false⟩,0,⟨0,0,false,0⟩,false,[]⟩:Guest))),(.one (.b false))]) (cond (inb a1 (ln a0.Guests)) (cond (zdk (ix a0.Guests a1 zi)) (some [(.agg (Ty.cells .guest (zcs (ix a0.Guests a1 zi)))),(.one (.b true))]) none) none)) none)
theorem zRs (N:Nat)(a0:Bare)(a1:Int):evalFn (cQ zha zV zK zO) (zB []) N 12 132 [.agg (Ty.cells .bare a0),.one (.i .i64 a1)]=zw6 N a0 a1:=by kernel_rfl
theorem zOn (a0:Bare)(a1:Int)(hb:zG big [.agg (Ty.cells .bare a0),.one (.i .i64 a1)])(hc:(zwg a0 a1)=true):∃N,zw6 N a0 a1=some [.agg (Ty.cells .guest (zk a0 a1)),.one (.b (zkE a0 a1))]:=by
 have hs:=zI.1 hc;have hl:a0.Guests.length<=1048576:=hs.2.1.1;have hx:hasB a1 (ln a0.Guests)=true->SmG (ix a0.Guests a1 zi):=fun h=>zYV hs.2.1 h _
 refine ⟨0,?_⟩;unfold zw6;refine must rfl (brN (fun _=>?_) (fun _=>must (by first|assumption|(simp_all<;>omega)) (must (by first|assumption|(simp_all<;>omega)) ?_)))
 all_goals first|rfl|(simp only [*,zk,zkE,gAt,Ty.dflt,cT,cF]<;>rfl)|simp_all [Ty.cells,zk,zkE,gAt,Ty.dflt]
theorem zGD:Holds Tryz.prog 132 zq0:=zo zeh zD zu zA (zC (by kernel_rfl)) fun avs rs hb h=>by
 unfold zq0 at h;split at h
 ·obtain ⟨hc,rfl⟩:=zl h;exact (fin2 zOn zRs hc hb :)
 ·cases h
def zrC:zbP:=[(41,zkp),(136,zko),(40,zsM),(53,zuT),(167,zzd),(131,zyO),(104,zuy),(62,zuI),(105,zs9),(63,zsQ),(130,zqR),(195,zpX),(174,zqH),(115,zlg),(132,zq0)]++zha
theorem zjm:zbv zrC:=zn zAW (zn zAQ (zn zcf (zn zJQ (zn zPw (zn zQb (zn zKN (zn zLR (zn zJ7 (zn zLy (zn zHx (zn zGW (zn zI8 (zn zBQ (zn zGD zeh))))))))))))))
def plainly (g:Guest):Guest:=bif ine (zN g) 2 then g else (cond (win g.A 0 99) (cond (win (zdE g.Prog g.Pc).X 0 99) (cond (ieq (zdE g.Prog g.Pc).Op 1) { zb7 g with A:=(zdE g.Prog g.Pc).X } (cond (ieq (zdE g.Prog g.Pc).Op 2) { zb7 g with A:=zfw (zq .i64 g.A (zdE g.Prog g.Pc).X) 100 } (cond (ieq (zdE g.Prog g.Pc).Op 8) (cond (ieq g.A 0) { zb7 g with Pc:=(zdE g.Prog g.Pc).X } (zb7 g)) (zb7 g)))) (zb7 g)) (zb7 g))
@[simp] theorem z2S (g:Guest):(zb7 g).Prog=g.Prog:=by
 unfold zb7;cases ige g.Pc 12<;>rfl
@[simp] theorem z3x (g:Guest):(zb7 g).A=g.A:=by
 unfold zb7;cases ige g.Pc 12<;>rfl
@[simp] theorem z1R (g:Guest):(zb7 g).Written=g.Written:=by
 unfold zb7;cases ige g.Pc 12<;>rfl
@[simp] theorem z3e (g:Guest):(zb7 g).Live=g.Live:=by
 unfold zb7;cases ige g.Pc 12<;>rfl
@[simp] theorem z3h (g:Guest):(zb7 g).Ctl=g.Ctl:=by
 unfold zb7;cases ige g.Pc 12<;>rfl
@[simp] theorem z1Q (g:Guest):(zb7 g).Pending=g.Pending:=by
 unfold zb7;cases ige g.Pc 12<;>rfl
@[simp] theorem z2Y (g:Guest):(zb7 g).Exit=g.Exit:=by
 unfold zb7;cases ige g.Pc 12<;>rfl
@[simp] theorem z2q (g:Guest):(zb7 g).Halted=g.Halted:=by
 unfold zb7;cases ige g.Pc 12<;>rfl
@[simp] theorem z3c (g:Guest):(zb7 g).Seen=g.Seen:=by
 unfold zb7;cases ige g.Pc 12<;>rfl
@[simp] theorem z3f (g:Guest)(x:Int):(zb7 { g with A:=x }).Pc=(zb7 g).Pc:=by
 unfold zb7;cases ige g.Pc 12<;>rfl
@[simp] theorem zEn {g:Guest}(h:SmG g):SmG (plainly g):=by
 have hm:=zlw h;unfold plainly;cases ine (zN g) 2
 ·cases win g.A 0 99
  ·exact hm
  ·cases win (zdE g.Prog g.Pc).X 0 99
   ·exact hm
   ·cases ieq (zdE g.Prog g.Pc).Op 1
    ·cases ieq (zdE g.Prog g.Pc).Op 2
     ·cases ieq (zdE g.Prog g.Pc).Op 8
      ·exact hm
      ·cases ieq g.A 0<;>exact hm
     ·exact hm
    ·exact hm
 ·exact h
@[simp,reducible] def zwX (g:Guest):Bool:=pc (SmG g)
@[simp,reducible] def zlH (g:Guest):Guest:=plainly g
def zq1:List AV->Option (Bool×List AV)
 | [.agg [.s .ins c,.i .i64 d,.i .i64 e,.s .slot f,.s .slot g,.i .i64 h,.i .i64 j,.b k,.i .i64 l,.i .i64 m,.i .i64 n,.b o,.i .i64 p,.b q,.s .int r]]=>some ((zwX (⟨c,d,e,f,g,⟨h,j,k⟩,l,⟨m,n,o,p⟩,q,r⟩:Guest)),[.agg (Ty.cells .guest (zlH (⟨c,d,e,f,g,⟨h,j,k⟩,l,⟨m,n,o,p⟩,q,r⟩:Guest)))])
 | _=>none
def zwS (N:Nat)(a0:Guest):Option Ans :=
 (cond (zic a0) (cond (ine (zbp a0) 2) (cond (zdk a0) (some [(.agg (Ty.cells .guest (zcs a0)))]) none) (cond (zfF a0.Prog a0.Pc) (cond (zej a0) (cond (zbn a0.A 0 99) (cond (cond (zbx a0.A 0 99) false true) (some [(.agg (Ty.cells .guest (zdb a0)))]) (cond (zbn (zb3 a0.Prog a0.Pc).X 0 99) (cond (cond (zbx (zb3 a0.Prog a0.Pc).X 0 99) false true) (some [(.agg (Ty.cells .guest (zdb a0)))]) (cond (ieq (zb3 a0.Prog a0.Pc).Op 1) (some [(.agg (Ty.cells .guest ({ (zdb a0) with A:=(zb3 a0.Prog a0.Pc).X }:Guest)))]) (cond (ieq (zb3 a0.Prog a0.Pc).Op 2) (cond (ine 100 0) (some [(.agg (Ty.cells .guest ({ (zdb a0) with A:=(zfw (zq .i64 a0.A (zb3 a0.Prog a0.Pc).X) 100) }:Guest)))]) none) (cond (ieq (zb3 a0.Prog a0.Pc).Op 8) (cond (ieq a0.A 0) (some [(.agg (Ty.cells .guest ({ (zdb a0) with Pc:=(zb3 a0.Prog a0.Pc).X }:Guest)))]) (some [(.agg (Ty.cells .guest (zdb a0)))])) (some [(.agg (Ty.cells .guest (zdb a0)))]))))) none)) none) none) none)) none)
theorem zSP (N:Nat)(a0:Guest):evalFn (cQ zrC zV zK zO) (zB []) N 12 137 [.agg (Ty.cells .guest a0)]=zwS N a0:=by kernel_rfl
theorem zN1 (a0:Guest)(hb:zG big [.agg (Ty.cells .guest a0)])(hc:(zwX a0)=true):∃N,zwS N a0=some [.agg (Ty.cells .guest (zlH a0))]:=by
 have hs:=zI.1 hc;refine ⟨0,?_⟩;unfold zwS;refine must rfl (br (fun _=>must (by first|assumption|(simp_all<;>omega)) ?_) (fun _=>must rfl (must (by first|assumption|(simp_all<;>omega)) (must rfl (brN (fun _=>?_) (fun _=>must rfl (brN (fun _=>?_) (fun _=>br (fun _=>?_) (fun _=>br (fun _=>must rfl ?_) (fun _=>br (fun _=>br (fun _=>?_) (fun _=>?_)) (fun _=>?_)))))))))))
 all_goals first|rfl|(simp only [*,zlH,plainly,cT,cF]<;>rfl)|simp_all [Ty.cells,zlH,plainly]
theorem zIh:Holds Tryz.prog 137 zq1:=zo zjm zD zu zA (zC (by kernel_rfl)) fun avs rs hb h=>by
 unfold zq1 at h;split at h
 ·obtain ⟨hc,rfl⟩:=zl h;exact (fin1 zN1 zSP hc hb :)
 ·cases h
@[simp,reducible] def zwp (g:Guest):Bool:=pc (SmG g)
@[simp,reducible] def zpl (g:Guest):Guest:=plainly g
def zqF:List AV->Option (Bool×List AV)
 | [.agg [.s .ins c,.i .i64 d,.i .i64 e,.s .slot f,.s .slot g,.i .i64 h,.i .i64 j,.b k,.i .i64 l,.i .i64 m,.i .i64 n,.b o,.i .i64 p,.b q,.s .int r]]=>some ((zwp (⟨c,d,e,f,g,⟨h,j,k⟩,l,⟨m,n,o,p⟩,q,r⟩:Guest)),[.agg (Ty.cells .guest (zpl (⟨c,d,e,f,g,⟨h,j,k⟩,l,⟨m,n,o,p⟩,q,r⟩:Guest)))])
 | _=>none
def zxw (N:Nat)(a0:Guest):Option Ans :=
 (cond (zey a0) (cond (ine (zk5 a0) 2) (cond (zc7 a0) (some [(.agg (Ty.cells .guest (zcy a0)))]) none) (cond (zeZ a0.Prog a0.Pc) (cond (zZ a0.A 0 99) (cond (zbf a0.A 0 99) (cond (zZ (zbN a0.Prog a0.Pc).X 0 99) (cond (zbf (zbN a0.Prog a0.Pc).X 0 99) (cond (ieq (zbN a0.Prog a0.Pc).Op 1) (cond (zcq ({ a0 with A:=(zbN a0.Prog a0.Pc).X }:Guest)) (some [(.agg (Ty.cells .guest (zcN ({ a0 with A:=(zbN a0.Prog a0.Pc).X }:Guest))))]) none) (cond (zbf (zbN a0.Prog a0.Pc).X 0 99) (cond (ieq (zbN a0.Prog a0.Pc).Op 2) (cond (ine 100 0) (cond (zcq ({ a0 with A:=(zfw (zq .i64 a0.A (zbN a0.Prog a0.Pc).X) 100) }:Guest)) (some [(.agg (Ty.cells .guest (zcN ({ a0 with A:=(zfw (zq .i64 a0.A (zbN a0.Prog a0.Pc).X) 100) }:Guest))))]) none) none) (cond (zbf (zbN a0.Prog a0.Pc).X 0 99) (cond (ieq (zbN a0.Prog a0.Pc).Op 8) (cond (ieq a0.A 0) (cond (zc7 a0) (some [(.agg (Ty.cells .guest ({ (zcy a0) with Pc:=(zbN a0.Prog a0.Pc).X }:Guest)))]) none) (cond (zcq a0) (some [(.agg (Ty.cells .guest (zcN a0)))]) none)) (cond (zcq a0) (some [(.agg (Ty.cells .guest (zcN a0)))]) none)) (cond (zcq a0) (some [(.agg (Ty.cells .guest (zcN a0)))]) none))) (cond (zbf (zbN a0.Prog a0.Pc).X 0 99) (cond (ieq (zbN a0.Prog a0.Pc).Op 8) (cond (ieq a0.A 0) (cond (zc7 a0) (some [(.agg (Ty.cells .guest ({ (zcy a0) with Pc:=(zbN a0.Prog a0.Pc).X }:Guest)))]) none) (cond (zcq a0) (some [(.agg (Ty.cells .guest (zcN a0)))]) none)) (cond (zcq a0) (some [(.agg (Ty.cells .guest (zcN a0)))]) none)) (cond (zcq a0) (some [(.agg (Ty.cells .guest (zcN a0)))]) none)))) (cond (zbf (zbN a0.Prog a0.Pc).X 0 99) (cond (ieq (zbN a0.Prog a0.Pc).Op 2) (cond (ine 100 0) (cond (zcq ({ a0 with A:=(zfw (zq .i64 a0.A (zbN a0.Prog a0.Pc).X) 100) }:Guest)) (some [(.agg (Ty.cells .guest (zcN ({ a0 with A:=(zfw (zq .i64 a0.A (zbN a0.Prog a0.Pc).X) 100) }:Guest))))]) none) none) (cond (zbf (zbN a0.Prog a0.Pc).X 0 99) (cond (ieq (zbN a0.Prog a0.Pc).Op 8) (cond (ieq a0.A 0) (cond (zc7 a0) (some [(.agg (Ty.cells .guest ({ (zcy a0) with Pc:=(zbN a0.Prog a0.Pc).X }:Guest)))]) none) (cond (zcq a0) (some [(.agg (Ty.cells .guest (zcN a0)))]) none)) (cond (zcq a0) (some [(.agg (Ty.cells .guest (zcN a0)))]) none)) (cond (zcq a0) (some [(.agg (Ty.cells .guest (zcN a0)))]) none))) (cond (zbf (zbN a0.Prog a0.Pc).X 0 99) (cond (ieq (zbN a0.Prog a0.Pc).Op 8) (cond (ieq a0.A 0) (cond (zc7 a0) (some [(.agg (Ty.cells .guest ({ (zcy a0) with Pc:=(zbN a0.Prog a0.Pc).X }:Guest)))]) none) (cond (zcq a0) (some [(.agg (Ty.cells .guest (zcN a0)))]) none)) (cond (zcq a0) (some [(.agg (Ty.cells .guest (zcN a0)))]) none)) (cond (zcq a0) (some [(.agg (Ty.cells .guest (zcN a0)))]) none)))) none) (cond (zcq a0) (some [(.agg (Ty.cells .guest (zcN a0)))]) none)) none) none)) none)
theorem zRU (N:Nat)(a0:Guest):evalFn (cQ zrC zV zK zO) (zB []) N 12 42 [.agg (Ty.cells .guest a0)]=zxw N a0:=by kernel_rfl
theorem zOm (a0:Guest)(hb:zG big [.agg (Ty.cells .guest a0)])(hc:(zwp a0)=true):∃N,zxw N a0=some [.agg (Ty.cells .guest (zpl a0))]:=by
 have hs:=zI.1 hc;have hz:_/\_/\_/\_:=hs
 refine ⟨0,?_⟩;unfold zxw;refine must rfl (br (fun _=>must (by first|assumption|(simp_all<;>omega)) ?_) (fun _=>must rfl (must rfl (br (fun _=>must rfl (br (fun _=>br (fun _=>must (by first|assumption|(simp_all<;>omega)) ?_) (fun _=>br (fun _=>br (fun _=>must rfl (must (by first|assumption|(simp_all<;>omega)) ?_)) (fun _=>br (fun _=>br (fun _=>br (fun _=>must (by first|assumption|(simp_all<;>omega)) ?_) (fun _=>must (by first|assumption|(simp_all<;>omega)) ?_)) (fun _=>must (by first|assumption|(simp_all<;>omega)) ?_)) (fun _=>must (by first|assumption|(simp_all<;>omega)) ?_))) (fun _=>br (fun _=>br (fun _=>br (fun _=>must (by first|assumption|(simp_all<;>omega)) ?_) (fun _=>must (by first|assumption|(simp_all<;>omega)) ?_)) (fun _=>must (by first|assumption|(simp_all<;>omega)) ?_)) (fun _=>must (by first|assumption|(simp_all<;>omega)) ?_)))) (fun _=>br (fun _=>br (fun _=>must rfl (must (by first|assumption|(simp_all<;>omega)) ?_)) (fun _=>br (fun _=>br (fun _=>br (fun _=>must (by first|assumption|(simp_all<;>omega)) ?_) (fun _=>must (by first|assumption|(simp_all<;>omega)) ?_)) (fun _=>must (by first|assumption|(simp_all<;>omega)) ?_)) (fun _=>must (by first|assumption|(simp_all<;>omega)) ?_))) (fun _=>br (fun _=>br (fun _=>br (fun _=>must (by first|assumption|(simp_all<;>omega)) ?_) (fun _=>must (by first|assumption|(simp_all<;>omega)) ?_)) (fun _=>must (by first|assumption|(simp_all<;>omega)) ?_)) (fun _=>must (by first|assumption|(simp_all<;>omega)) ?_))))) (fun _=>must (by first|assumption|(simp_all<;>omega)) ?_)))))
 all_goals first|rfl|(simp only [*,zpl,plainly,cT,cF]<;>rfl)|simp_all [Ty.cells,zpl,plainly]
theorem zGC:Holds Tryz.prog 42 zqF:=zo zjm zD zu zA (zC (by kernel_rfl)) fun avs rs hb h=>by
 unfold zqF at h;split at h
 ·obtain ⟨hc,rfl⟩:=zl h;exact (fin1 zOm zRU hc hb :)
 ·cases h
def address (g:Guest):Int:=bif ine (zN g) 3 then (cond (ine (zN g) 4) (-1) ((zdE g.Prog g.Pc).X)) else (zdE g.Prog g.Pc).X
@[simp,reducible] def zo6 (g:Guest):Bool:=true
@[simp,reducible] def zL (g:Guest):Int:=address g
def zra:List AV->Option (Bool×List AV)
 | [.agg [.s .ins c,.i .i64 d,.i .i64 e,.s .slot f,.s .slot g,.i .i64 h,.i .i64 j,.b k,.i .i64 l,.i .i64 m,.i .i64 n,.b o,.i .i64 p,.b q,.s .int r]]=>some ((zo6 (⟨c,d,e,f,g,⟨h,j,k⟩,l,⟨m,n,o,p⟩,q,r⟩:Guest)),[.one (.i .i64 (zL (⟨c,d,e,f,g,⟨h,j,k⟩,l,⟨m,n,o,p⟩,q,r⟩:Guest)))])
 | _=>none
def zxy (N:Nat)(a0:Guest):Option Ans :=
 (cond (zey a0) (cond (ine (zk5 a0) 3) (cond (ine (zk5 a0) 4) (some [(.one (.i .i64 (-1)))]) (cond (zeZ a0.Prog a0.Pc) (some [(.one (.i .i64 (zbN a0.Prog a0.Pc).X))]) none)) (cond (zeZ a0.Prog a0.Pc) (some [(.one (.i .i64 (zbN a0.Prog a0.Pc).X))]) none)) none)
theorem zSn (N:Nat)(a0:Guest):evalFn (cQ zrC zV zK zO) (zB []) N 12 96 [.agg (Ty.cells .guest a0)]=zxy N a0:=by kernel_rfl
theorem zNe (a0:Guest)(hb:zG big [.agg (Ty.cells .guest a0)])(hc:(zo6 a0)=true):∃N,zxy N a0=some [.one (.i .i64 (zL a0))]:=by
 refine ⟨0,?_⟩;unfold zxy;refine must rfl (br (fun _=>br (fun _=>?_) (fun _=>must rfl ?_)) (fun _=>must rfl ?_))
 all_goals first|rfl|(simp only [*,zL,address,cT,cF]<;>rfl)|simp_all [Ty.cells,zL,address]
theorem zHV:Holds Tryz.prog 96 zra:=zo zjm zD zu zA (zC (by kernel_rfl)) fun avs rs hb h=>by
 unfold zra at h;split at h
 ·obtain ⟨hc,rfl⟩:=zl h;exact (fin1 zNe zSn hc hb :)
 ·cases h
@[simp,reducible] def zo5 (g:Guest):Bool:=true
@[simp,reducible] def zbs (g:Guest):Int:=address g
def zpY:List AV->Option (Bool×List AV)
 | [.agg [.s .ins c,.i .i64 d,.i .i64 e,.s .slot f,.s .slot g,.i .i64 h,.i .i64 j,.b k,.i .i64 l,.i .i64 m,.i .i64 n,.b o,.i .i64 p,.b q,.s .int r]]=>some ((zo5 (⟨c,d,e,f,g,⟨h,j,k⟩,l,⟨m,n,o,p⟩,q,r⟩:Guest)),[.one (.i .i64 (zbs (⟨c,d,e,f,g,⟨h,j,k⟩,l,⟨m,n,o,p⟩,q,r⟩:Guest)))])
 | _=>none
def zwV (N:Nat)(a0:Guest):Option Ans :=
 (cond (zic a0) (cond (ine (zbp a0) 3) (cond (ine (zbp a0) 4) (some [(.one (.i .i64 (-1)))]) (cond (zfF a0.Prog a0.Pc) (some [(.one (.i .i64 (zb3 a0.Prog a0.Pc).X))]) none)) (cond (zfF a0.Prog a0.Pc) (some [(.one (.i .i64 (zb3 a0.Prog a0.Pc).X))]) none)) none)
theorem zP4 (N:Nat)(a0:Guest):evalFn (cQ zrC zV zK zO) (zB []) N 12 54 [.agg (Ty.cells .guest a0)]=zwV N a0:=by kernel_rfl
theorem zN6 (a0:Guest)(hb:zG big [.agg (Ty.cells .guest a0)])(hc:(zo5 a0)=true):∃N,zwV N a0=some [.one (.i .i64 (zbs a0))]:=by
 refine ⟨0,?_⟩;unfold zwV;refine must rfl (br (fun _=>br (fun _=>?_) (fun _=>must rfl ?_)) (fun _=>must rfl ?_))
 all_goals first|rfl|(simp only [*,zbs,address,cT,cF]<;>rfl)|simp_all [Ty.cells,zbs,address]
theorem zGt:Holds Tryz.prog 54 zpY:=zo zjm zD zu zA (zC (by kernel_rfl)) fun avs rs hb h=>by
 unfold zpY at h;split at h
 ·obtain ⟨hc,rfl⟩:=zl h;exact (fin1 zN6 zP4 hc hb :)
 ·cases h
def zfv (g:Guest)(t w:Int):Guest:=bif ieq w 6 then stopped g (zzr (zdE g.Prog g.Pc).X) else (cond (ieq w 5&&zds t 1) (stopped g (zCV (zdE g.Prog g.Pc).X)) (cond (ieq w 7&&zds t 2) (stopped g ⟨4,0,false,0⟩) (cond (ieq w 7) (held g) (zb7 g))))
def zgH (t w:Int):Bool:=bif ieq w 6 then false else (cond (ieq w 5&&zds t 1) false (cond (ieq w 7&&zds t 2) false true))
@[simp] theorem zB6 {g:Guest}(t w:Int)(h:SmG g):SmG (zfv g t w):=by
 unfold zfv;cases ieq w 6
 ·cases (ieq w 5&&zds t 1)
  ·cases (ieq w 7&&zds t 2)
   ·cases ieq w 7
    ·exact zlw h
    ·exact zZZ h
   ·exact h
  ·exact h
 ·exact h
@[simp,reducible] def zdH (g:Guest)(t w:Int):Bool:=pc (SmG g)
@[simp,reducible] def zbR (g:Guest)(t w:Int):Guest:=zfv g t w
@[simp,reducible] def zc8 (g:Guest)(t w:Int):Bool:=zgH t w
def zq3:List AV->Option (Bool×List AV)
 | [.agg [.s .ins c,.i .i64 d,.i .i64 e,.s .slot f,.s .slot g,.i .i64 h,.i .i64 j,.b k,.i .i64 l,.i .i64 m,.i .i64 n,.b o,.i .i64 p,.b q,.s .int r],.one (.i .i64 t),.one (.i .i64 u)]=>some ((zdH (⟨c,d,e,f,g,⟨h,j,k⟩,l,⟨m,n,o,p⟩,q,r⟩:Guest) t u),[.agg (Ty.cells .guest (zbR (⟨c,d,e,f,g,⟨h,j,k⟩,l,⟨m,n,o,p⟩,q,r⟩:Guest) t u)),.one (.b (zc8 (⟨c,d,e,f,g,⟨h,j,k⟩,l,⟨m,n,o,p⟩,q,r⟩:Guest) t u))])
 | _=>none
def zwN (N:Nat)(a0:Guest)(a1 a2:Int):Option Ans :=
 (cond (zeZ a0.Prog a0.Pc) (cond (ieq a2 6) (cond (zsv (zbN a0.Prog a0.Pc).X) (cond (zgb a0 (zjW (zbN a0.Prog a0.Pc).X)) (some [(.agg (Ty.cells .guest (zgc a0 (zjW (zbN a0.Prog a0.Pc).X)))),(.one (.b false))]) none) none) (cond (ieq a2 5) (cond (zhs a1 1) (cond (zhf a1 1) (cond (zwa (zbN a0.Prog a0.Pc).X) (cond (zgb a0 (zlJ (zbN a0.Prog a0.Pc).X)) (some [(.agg (Ty.cells .guest (zgc a0 (zlJ (zbN a0.Prog a0.Pc).X)))),(.one (.b false))]) none) none) (cond (ieq a2 7) (cond (zhs a1 2) (cond (zhf a1 2) (cond (zgb a0 (⟨4,0,false,0⟩:GExit)) (some [(.agg (Ty.cells .guest (zgc a0 (⟨4,0,false,0⟩:GExit)))),(.one (.b false))]) none) (cond (ieq a2 7) (cond (zop a0) (some [(.agg (Ty.cells .guest (zpq a0))),(.one (.b true))]) none) (cond (zcq a0) (some [(.agg (Ty.cells .guest (zcN a0))),(.one (.b true))]) none))) none) (cond (ieq a2 7) (cond (zop a0) (some [(.agg (Ty.cells .guest (zpq a0))),(.one (.b true))]) none) (cond (zcq a0) (some [(.agg (Ty.cells .guest (zcN a0))),(.one (.b true))]) none)))) none) (cond (ieq a2 7) (cond (zhs a1 2) (cond (zhf a1 2) (cond (zgb a0 (⟨4,0,false,0⟩:GExit)) (some [(.agg (Ty.cells .guest (zgc a0 (⟨4,0,false,0⟩:GExit)))),(.one (.b false))]) none) (cond (ieq a2 7) (cond (zop a0) (some [(.agg (Ty.cells .guest (zpq a0))),(.one (.b true))]) none) (cond (zcq a0) (some [(.agg (Ty.cells .guest (zcN a0))),(.one (.b true))]) none))) none) (cond (ieq a2 7) (cond (zop a0) (some [(.agg (Ty.cells .guest (zpq a0))),(.one (.b true))]) none) (cond (zcq a0) (some [(.agg (Ty.cells .guest (zcN a0))),(.one (.b true))]) none))))) none)
theorem zRD (N:Nat)(a0:Guest)(a1 a2:Int):evalFn (cQ zrC zV zK zO) (zB []) N 12 108 [.agg (Ty.cells .guest a0),.one (.i .i64 a1),.one (.i .i64 a2)]=zwN N a0 a1 a2:=by kernel_rfl
theorem zMW (a0:Guest)(a1 a2:Int)(hb:zG big [.agg (Ty.cells .guest a0),.one (.i .i64 a1),.one (.i .i64 a2)])(hc:(zdH a0 a1 a2)=true):∃N,zwN N a0 a1 a2=some [.agg (Ty.cells .guest (zbR a0 a1 a2)),.one (.b (zc8 a0 a1 a2))]:=by
 have hs:=zI.1 hc;refine ⟨0,?_⟩;unfold zwN;refine must rfl (br (fun _=>must rfl (must (by first|assumption|(simp_all<;>omega)) ?_)) (fun _=>br (fun _=>must rfl (br (fun _=>must rfl (must (by first|assumption|(simp_all<;>omega)) ?_)) (fun _=>br (fun _=>must rfl (br (fun _=>must (by first|assumption|(simp_all<;>omega)) ?_) (fun _=>br (fun _=>must (by first|assumption|(simp_all<;>omega)) ?_) (fun _=>must (by first|assumption|(simp_all<;>omega)) ?_)))) (fun _=>br (fun _=>must (by first|assumption|(simp_all<;>omega)) ?_) (fun _=>must (by first|assumption|(simp_all<;>omega)) ?_))))) (fun _=>br (fun _=>must rfl (br (fun _=>must (by first|assumption|(simp_all<;>omega)) ?_) (fun _=>br (fun _=>must (by first|assumption|(simp_all<;>omega)) ?_) (fun _=>must (by first|assumption|(simp_all<;>omega)) ?_)))) (fun _=>br (fun _=>must (by first|assumption|(simp_all<;>omega)) ?_) (fun _=>must (by first|assumption|(simp_all<;>omega)) ?_)))))
 all_goals first|rfl|(simp only [*,zbR,zc8,zfv,zgH,cT,cF]<;>rfl)|simp_all [Ty.cells,zbR,zc8,zfv,zgH]
theorem zHj:Holds Tryz.prog 108 zq3:=zo zjm zD zu zA (zC (by kernel_rfl)) fun avs rs hb h=>by
 unfold zq3 at h;split at h
 ·obtain ⟨hc,rfl⟩:=zl h;exact (zd7 zMW zRD hc hb :)
 ·cases h
def zg0 (b:Bare):Bool:=bif b.Guests.all zdF then (zh5 b.Memory 8&&(win (ln b.Guests) 1 2&&(ile (ln b.Outs) 40&&zgx b.Pending))) else false
@[simp,reducible] def zy5 (b:Bare):Bool:=true
@[simp,reducible] def zfb (b:Bare):Bool:=zg0 b
def zsS:List AV->Option (Bool×List AV)
 | [.agg [.s (.sl .int) c,.s .guest d,.s .int e,.i .i64 f]]=>some ((zy5 (⟨c,d,e,f⟩:Bare)),[.one (.b (zfb (⟨c,d,e,f⟩:Bare)))])
 | _=>none
def zyW (N:Nat)(a0:Bare):Option Ans :=
 (iter (σ:=(Int×(Int×(Int×((List Guest)×((List (List Int))×((List Int)×Unit))))))) N (fun r2 s3=>(cond (ilt s3.2.1 s3.1) (cond (inb s3.2.1 (ln s3.2.2.2.1)) (cond (zky (ix s3.2.2.2.1 s3.2.1 zi)) (cond (cond (zju (ix s3.2.2.2.1 s3.2.1 zi)) false true) (some [(.one (.b false))]) (r2 (s3.1,((zq .i64 s3.2.1 1),(s3.2.2.1,(s3.2.2.2.1,(s3.2.2.2.2.1,(s3.2.2.2.2.2.1,())))))))) none) none) (cond (zpz s3.2.2.2.2.1 8) (cond (zjY s3.2.2.2.2.1 8) (cond (zbn (ln s3.2.2.2.1) 1 2) (cond (zbx (ln s3.2.2.2.1) 1 2) (cond (ile (ln s3.2.2.2.2.2.1) 40) (cond (zhX s3.2.2.1) (some [(.one (.b (zh1 s3.2.2.1)))]) none) (some [(.one (.b false))])) (some [(.one (.b false))])) none) (some [(.one (.b false))])) none))) ((ln a0.Guests),(0,(a0.Pending,(a0.Guests,(a0.Memory,(a0.Outs,())))))))
def zQW:FuncId->Nat->Option Tmpl:=zB [(133,0,{ n:=36,tm:=[(1,.lp 0 0),(6,.sl 0 []),(7,.i .i64),(8,.i .i64)],lo:=[(0,[.sl 1 [],.sl 0 [],.sl 2 [],.i .i64])],ro:=[(0,.guest,false),(1,(.sl .int),false),(2,.int,false)] })]
theorem zTj (N:Nat)(a0:Bare):evalFn (cQ zrC zV zK zO) zQW N 12 133 [.agg (Ty.cells .bare a0)]=zyW N a0:=by kernel_rfl
theorem zRb (a0:Bare)(hb:zG big [.agg (Ty.cells .bare a0)])(hc:(zy5 a0)=true):∃N,zyW N a0=some [.one (.b (zfb a0))]:=by
 have hl:(_:List _).length<=big:=((zbt hb).1 (.s .guest a0.Guests) (by simp [AV.cvs,Ty.cells])).len
 refine ⟨NN,?_⟩;have hNN:∀{n:Nat},n<=big->n<NN:=fun h=>zb4 h;generalize NN=N at hNN ⊢;unfold zyW;refine (zbF a0.Guests (fun i (t:Unit)=>((ln a0.Guests),(i:Int),a0.Pending,a0.Guests,a0.Memory,a0.Outs,())) _ (fun _ x (_:Unit) κ=>bif (zdF) x then κ () else some [AV.one (.b false)]) (fun (t:Unit)=>(cond (zpz a0.Memory 8) (cond (zjY a0.Memory 8) (cond (zbn (ln a0.Guests) 1 2) (cond (zbx (ln a0.Guests) 1 2) (cond (ile (ln a0.Outs) 40) (cond (zhX a0.Pending) (some [(.one (.b (zh1 a0.Pending)))]) none) (some [(.one (.b false))])) (some [(.one (.b false))])) none) (some [(.one (.b false))])) none)) (fun i hi t rec=>?_) (fun t rec=>?_) _ () (hNN hl)).trans ?_
 ·simp only [zbu hi,zbh hi,zbq hi,zbd hi hl,cT];exact zhZ rfl
 ·simp only [zbk,cF]
 rw [zgr (zdF)];refine br (fun h0=>?_) (fun h0=>?_)
 ·refine must rfl ?_;refine br (fun h1=>?_) (fun h1=>?_)
  ·refine must rfl ?_;refine br (fun h2=>?_) (fun h2=>?_)
   ·refine br (fun h3=>?_) (fun h3=>?_)
    ·refine must rfl ?_
     first|rfl|(simp only [h0,h1,h2,h3,zfb,zg0,cT,cF]<;>rfl)|(simp_all [Ty.cells,zfb,zg0];done)
    ·first|rfl|(simp only [h0,h1,h2,h3,zfb,zg0,cT,cF]<;>rfl)|(simp_all [Ty.cells,zfb,zg0];done)
   ·first|rfl|(simp only [h0,h1,h2,zfb,zg0,cT,cF]<;>rfl)|(simp_all [Ty.cells,zfb,zg0];done)
  ·first|rfl|(simp only [h0,h1,zfb,zg0,cT,cF]<;>rfl)|(simp_all [Ty.cells,zfb,zg0];done)
 ·first|rfl|(simp only [h0,zfb,zg0,cT,cF]<;>rfl)|(simp_all [Ty.cells,zfb,zg0];done)
theorem zKe:Holds Tryz.prog 133 zsS:=zo zjm zD zu zA (zC (by kernel_rfl)) fun avs rs hb h=>by
 unfold zsS at h;split at h
 ·obtain ⟨hc,rfl⟩:=zl h;exact (fin1 zRb zTj hc hb :)
 ·cases h
@[simp,reducible] def zgu (b:Bare):Bool:=pc (SmB b)
@[simp,reducible] def zdx (b:Bare):Bare:=b
def zov:List AV->Option (Bool×List AV)
 | [.agg [.s (.sl .int) b,.s .guest c,.s .int d,.i .i64 e]]=>some ((zgu (⟨b,c,d,e⟩:Bare)),[.agg (Ty.cells .bare (zdx (⟨b,c,d,e⟩:Bare)))])
 | _=>none
def zsC (N:Nat)(a0:Bare):Option Ans :=
 (cond (zfl a0.Memory) (cond (zhK a0.Guests) (cond (zdl a0.Outs) (some [(.agg (Ty.cells .bare (⟨(zcX a0.Memory),(zhM a0.Guests),(zdh a0.Outs),a0.Pending⟩:Bare)))]) none) none) none)
theorem zNF (N:Nat)(a0:Bare):evalFn (cQ zrC zV zK zO) (zB []) N 12 134 [.agg (Ty.cells .bare a0)]=zsC N a0:=by kernel_rfl
theorem zL7 (a0:Bare)(hb:zG big [.agg (Ty.cells .bare a0)])(hc:(zgu a0)=true):∃N,zsC N a0=some [.agg (Ty.cells .bare (zdx a0))]:=by
 have hs:=zI.1 hc;have hz:_/\_/\_:=hs
 refine ⟨0,?_⟩;unfold zsC;refine must (by first|assumption|(simp_all<;>omega)) (must (by first|assumption|(simp_all<;>omega)) (must (by first|assumption|(simp_all<;>omega)) ?_))
 first|rfl|(simp only [*,zdx,cT,cF]<;>rfl)|simp_all [Ty.cells,zdx]
theorem zEY:Holds Tryz.prog 134 zov:=zo zjm zD zu zA (zC (by kernel_rfl)) fun avs rs hb h=>by
 unfold zov at h;split at h
 ·obtain ⟨hc,rfl⟩:=zl h;exact (fin1 zL7 zNF hc hb :)
 ·cases h
def zO2:zbP:=[(42,zqF),(137,zq1),(96,zra),(54,zpY),(108,zq3),(133,zsS),(134,zov)]++zrC
theorem zE8:zbv zO2:=zn zGC (zn zIh (zn zHV (zn zGt (zn zHj (zn zKe (zn zEY zjm))))))
def znt (b:Bare)(i:Int)(x:Guest):Bare:={ b with Guests:=up b.Guests i x }
def zpg (b:Bare)(i:Int)(x:Guest):Bare:=bif hasB i (ln b.Guests) then znt b i x else b
def zmf (b:Bare)(n:Int):Bare:=bif ilt (ln b.Outs) 40 then { b with Outs:=ap b.Outs [n] } else b
@[simp] theorem znL {b:Bare}{i:Int}{x:Guest}(h:SmB b)(hx:SmG x):SmB (znt b i x):=⟨h.1,zJR h.2.1 hx,h.2.2⟩
@[simp] theorem zIb {b:Bare}{n:Int}(h:SmB b):SmB (zmf b n):=by
 unfold zmf;cases h1:ilt (ln b.Outs) 40
 ·exact h
 ·have:=of_decide_eq_true h1;refine ⟨h.1,h.2.1,?_⟩;simp [ln] at *;omega
@[simp] theorem z3o (b:Bare)(n:Int):(zmf b n).Guests=b.Guests:=by
 unfold zmf;cases ilt (ln b.Outs) 40<;>rfl
@[simp] theorem zQG {m:List (List Int)}{p c v:Int}(h:SmM m):SmM (ze8 m p c v):=by
 unfold ze8;cases h1:zhS m p c
 ·exact h
 ·cases h2:win v 0 99
  ·exact h
  ·exact zIB h (by simpa using z2j h ((zzO m p c).1 h1).1 [])
@[simp,reducible] def zcg (b:Bare)(i:Int)(x:Guest):Bool:=pc (SmB b/\SmG x)
@[simp,reducible] def zct (b:Bare)(i:Int)(x:Guest):Bare:=zpg b i x
def zl3:List AV->Option (Bool×List AV)
 | [.agg [.s (.sl .int) c,.s .guest d,.s .int e,.i .i64 f],.one (.i .i64 g),.agg [.s .ins h,.i .i64 j,.i .i64 k,.s .slot l,.s .slot m,.i .i64 n,.i .i64 o,.b p,.i .i64 q,.i .i64 r,.i .i64 t,.b u,.i .i64 v,.b w,.s .int x]]=>some ((zcg (⟨c,d,e,f⟩:Bare) g (⟨h,j,k,l,m,⟨n,o,p⟩,q,⟨r,t,u,v⟩,w,x⟩:Guest)),[.agg (Ty.cells .bare (zct (⟨c,d,e,f⟩:Bare) g (⟨h,j,k,l,m,⟨n,o,p⟩,q,⟨r,t,u,v⟩,w,x⟩:Guest)))])
 | _=>none
def zp0 (N:Nat)(a0:Bare)(a1:Int)(a2:Guest):Option Ans :=
 (cond (zgu a0) (cond (zcz a1 (ln a0.Guests)) (cond (zcT a1 (ln a0.Guests)) (cond (zdk a2) (cond (inb a1 (ln (zdx a0).Guests)) (share (up (zdx a0).Guests a1 (zcs a2)) (fun x4=>(some [(.agg (Ty.cells .bare ({ (zdx a0) with Guests:=x4 }:Bare)))]))) none) none) (some [(.agg (Ty.cells .bare (zdx a0)))])) none) none)
theorem zJ4 (N:Nat)(a0:Bare)(a1:Int)(a2:Guest):evalFn (cQ zO2 zV zK zO) (zB []) N 12 135 [.agg (Ty.cells .bare a0),.one (.i .i64 a1),.agg (Ty.cells .guest a2)]=zp0 N a0 a1 a2:=by kernel_rfl
theorem zH6 (a0:Bare)(a1:Int)(a2:Guest)(hb:zG big [.agg (Ty.cells .bare a0),.one (.i .i64 a1),.agg (Ty.cells .guest a2)])(hc:(zcg a0 a1 a2)=true):∃N,zp0 N a0 a1 a2=some [.agg (Ty.cells .bare (zct a0 a1 a2))]:=by
 have hs:=zI.1 hc;refine ⟨0,?_⟩;unfold zp0;refine must (by first|assumption|(simp_all<;>omega)) (must rfl (br (fun _=>must (by first|assumption|(simp_all<;>omega)) (must (by first|assumption|(simp_all<;>omega)) (shr ?_))) (fun _=>?_)))
 all_goals first|rfl|(simp only [*,zct,zpg,znt,cT,cF]<;>rfl)|simp_all [Ty.cells,zct,zpg,znt]
theorem zDn:Holds Tryz.prog 135 zl3:=zo zE8 zD zu zA (zC (by kernel_rfl)) fun avs rs hb h=>by
 unfold zl3 at h;split at h
 ·obtain ⟨hc,rfl⟩:=zl h;exact (zd7 zH6 zJ4 hc hb :)
 ·cases h
@[simp,reducible] def zrQ (b:Bare)(n:Int):Bool:=pc (SmB b)
@[simp,reducible] def zjx (b:Bare)(n:Int):Bare:=zmf b n
def zti:List AV->Option (Bool×List AV)
 | [.agg [.s (.sl .int) b,.s .guest c,.s .int d,.i .i64 e],.one (.i .i64 f)]=>some ((zrQ (⟨b,c,d,e⟩:Bare) f),[.agg (Ty.cells .bare (zjx (⟨b,c,d,e⟩:Bare) f))])
 | _=>none
def zy8 (N:Nat)(a0:Bare)(a1:Int):Option Ans :=
 (cond (zgu a0) (cond (ilt (ln a0.Outs) 40) (cond (few (ln (ap (zdx a0).Outs [a1]))) (some [(.agg (Ty.cells .bare ({ (zdx a0) with Outs:=(ap (zdx a0).Outs [a1]) }:Bare)))]) none) (some [(.agg (Ty.cells .bare (zdx a0)))])) none)
theorem zT5 (N:Nat)(a0:Bare)(a1:Int):evalFn (cQ zO2 zV zK zO) (zB []) N 12 141 [.agg (Ty.cells .bare a0),.one (.i .i64 a1)]=zy8 N a0 a1:=by kernel_rfl
theorem zQR (a0:Bare)(a1:Int)(hb:zG big [.agg (Ty.cells .bare a0),.one (.i .i64 a1)])(hc:(zrQ a0 a1)=true):∃N,zy8 N a0 a1=some [.agg (Ty.cells .bare (zjx a0 a1))]:=by
 have hs:=zI.1 hc;have hz:a0.Outs.length<=1048576:=hs.2.2
 refine ⟨0,?_⟩;unfold zy8;refine must (by first|assumption|(simp_all<;>omega)) (br (fun _=>must (by first|assumption|(simp_all<;>omega)) ?_) (fun _=>?_))
 all_goals first|rfl|(simp only [*,zjx,zmf,cT,cF]<;>rfl)|simp_all [Ty.cells,zjx,zmf]
theorem zLA:Holds Tryz.prog 141 zti:=zo zE8 zD zu zA (zC (by kernel_rfl)) fun avs rs hb h=>by
 unfold zti at h;split at h
 ·obtain ⟨hc,rfl⟩:=zl h;exact (fin2 zQR zT5 hc hb :)
 ·cases h
def zzi:zbP:=[(135,zl3),(141,zti)]++zO2
theorem znI:zbv zzi:=zn zDn (zn zLA zE8)
def zsh (b:Bare)(g:Int)(x:Guest)(w:Bool):Bare :=
 bif zfW x.Live (zdA (address x)) (zeN w) then
  (bif w then znt { b with Memory:=ze8 b.Memory (zcQ x.Live (zdA (address x)) (zeN w)) (zgB (address x)) x.A } g (zb7 x)
  else znt b g (loaded x (cellAt b.Memory (zcQ x.Live (zdA (address x)) (zeN w)) (zgB (address x)))))
 else znt b g (stopped x (zu7 (zdA (address x)) w))
def zsc (b:Bare)(g:Int)(x:Guest)(w:Int):Bare :=
 znt (cond (cond (zgH x.Ctl.Traps w) (ieq w 5) false) (zmf b (zdE x.Prog x.Pc).X) b) g (zfv x x.Ctl.Traps w)
def stepped (b:Bare)(g:Int)(x:Guest)(w:Int):Bare :=
 bif ieq w 1 then znt b g (interrupted x) else (cond (ieq w 2) (znt b g (plainly x)) (cond (ieq w 3) (zsh b g x false) (cond (ieq w 4) (zsh b g x true) (zsc b g x w))))
theorem tr1 (x:Guest)(t w:Int):ieq w 6=true->zfv x t w=stopped x (zzr (zdE x.Prog x.Pc).X)/\zgH t w=false:=by
 intro h;simp [zfv,zgH,h]
theorem tr2 (x:Guest)(t w:Int):ieq w 6=false->(ieq w 5=false->ieq w 6=false->ieq w 7=true)->zds t (zeO w)=true->zfv x t w=znS x w/\zgH t w=false:=by
 intro h6 h7 h;unfold zfv zgH znS zeO at *;cases h5:ieq w 5<;>simp_all
theorem tr3 (x:Guest)(t w:Int):ieq w 6=false->ieq w 7=false->zds t (zeO w)=false->ieq w 5=true->zfv x t w=zb7 x/\zgH t w=true:=by
 intro h6 h7 h h5;unfold zfv zgH zeO at *
 simp_all
theorem tr4 (x:Guest)(t w:Int):ieq w 6=false->(ieq w 5=false->ieq w 6=false->ieq w 7=true)->zds t (zeO w)=false->ieq w 5=false->zfv x t w=held x:=by
 intro h6 h7 h h5;unfold zfv zeO at *
 simp_all
def znF (b:Bare)(g:Int):Bool:=bif hasB g (ln b.Guests) then (cond (zg0 b) (!ieq (zN (gAt b g)) 0) false) else false
def zjG (b:Bare)(g:Int):Bare:=bif znF b g then stepped b g (gAt b g) (zN (gAt b g)) else b
@[simp] theorem zV9 {b:Bare}{g:Int}{x:Guest}{w:Bool}(h:SmB b)(hx:SmG x):SmB (zsh b g x w):=by
 unfold zsh;cases zfW x.Live (zdA (address x)) (zeN w)
 ·exact znL h hx
 ·cases w
  ·exact znL h (zHl _ hx)
  ·exact ⟨zQG h.1,zJR h.2.1 (zlw hx),h.2.2⟩
@[simp] theorem z1h {b:Bare}{g:Int}{x:Guest}{w:Int}(h:SmB b)(hx:SmG x):SmB (zsc b g x w):=by
 unfold zsc;cases (cond (zgH x.Ctl.Traps w) (ieq w 5) false)
 ·exact znL h (zB6 _ _ hx)
 ·exact znL (zIb h) (zB6 _ _ hx)
@[simp] theorem zTp {b:Bare}{g:Int}{x:Guest}{w:Int}(h:SmB b)(hx:SmG x):SmB (stepped b g x w):=by
 unfold stepped;cases ieq w 1
 ·cases ieq w 2
  ·cases ieq w 3
   ·cases ieq w 4
    ·exact z1h h hx
    ·exact zV9 h hx
   ·exact zV9 h hx
  ·exact znL h (zEn hx)
 ·exact znL h (zVX hx)
@[simp] theorem z3u {b:Bare}{g:Int}(h:SmB b):SmB (zjG b g):=by
 unfold zjG;cases znF b g
 ·exact h
 ·exact zTp h (zY6 g h)
theorem zWG (x:Guest):ieq (zN x) 0=false->ieq (zN x) 1=false->ieq (zN x) 2=false->ieq (zN x) 3=false->ieq (zN x) 4=false->ieq (zN x) 5=false->ieq (zN x) 6=false->ieq (zN x) 7=true:=by
 unfold zN zxP;cases canRun x
 ·intro h;cases h
 ·cases zhu x
  ·simp only [cT,cF];generalize (zdE x.Prog x.Pc).Op=o;cases ieq o 3<;>cases ieq o 4<;>cases ieq o 5<;>cases ieq o 6<;>cases ieq o 7<;>simp [ieq]
  ·intro _ h;cases h
theorem zVP {x:Int}{a b:Int}(h:ieq x a=true)(hab:ieq a b=false):ieq x b=false:=by
 have:x=a:=by simpa [ieq] using h
 rw [this];exact hab
@[simp,reducible] def zuZ (b:Bare)(g:Int):Bool:=pc (SmB b)
@[simp,reducible] def zhP (b:Bare)(g:Int):Bare:=zjG b g
@[simp,reducible] def zmC (b:Bare)(g:Int):Bool:=znF b g
def zn8:List AV->Option (Bool×List AV)
 | [.agg [.s (.sl .int) c,.s .guest d,.s .int e,.i .i64 f],.one (.i .i64 g)]=>some ((zuZ (⟨c,d,e,f⟩:Bare) g),[.agg (Ty.cells .bare (zhP (⟨c,d,e,f⟩:Bare) g)),.one (.b (zmC (⟨c,d,e,f⟩:Bare) g))])
 | _=>none
def zug (N:Nat)(a0:Bare)(a1:Int):Option Ans :=
 (cond (zwg a0 a1) (cond (zic (zk a0 a1)) (cond (zy5 a0) (cond (cond (zfb a0) false true) (cond (zgu a0) (some [(.agg (Ty.cells .bare (zdx a0))),(.one (.b false))]) none) (cond (cond (zkE a0 a1) false true) (cond (zgu a0) (some [(.agg (Ty.cells .bare (zdx a0))),(.one (.b false))]) none) (cond (ieq (zbp (zk a0 a1)) 0) (cond (zgu a0) (some [(.agg (Ty.cells .bare (zdx a0))),(.one (.b false))]) none) (cond (zo5 (zk a0 a1)) (cond (zfF (zk a0 a1).Prog (zk a0 a1).Pc) (cond (ieq (zbp (zk a0 a1)) 1) (cond (znh (zk a0 a1)) (cond (zcg a0 a1 (zgW (zk a0 a1))) (some [(.agg (Ty.cells .bare (zct a0 a1 (zgW (zk a0 a1))))),(.one (.b true))]) none) none) (cond (ieq (zbp (zk a0 a1)) 2) (cond (zwX (zk a0 a1)) (cond (zcg a0 a1 (zlH (zk a0 a1))) (some [(.agg (Ty.cells .bare (zct a0 a1 (zlH (zk a0 a1))))),(.one (.b true))]) none) none) (cond (ieq (zbp (zk a0 a1)) 3) (cond (ieq (zbp (zk a0 a1)) 3) (cond (zfK (zbs (zk a0 a1))) (cond (zl7 (ieq (zbp (zk a0 a1)) 4)) (cond (ziv (zk a0 a1).Live (zbH (zbs (zk a0 a1))) (zcr (ieq (zbp (zk a0 a1)) 4))) (cond (cond (zfS (zk a0 a1).Live (zbH (zbs (zk a0 a1))) (zcr (ieq (zbp (zk a0 a1)) 4))) false true) (cond (zfK (zbs (zk a0 a1))) (cond (zir (zbH (zbs (zk a0 a1))) (ieq (zbp (zk a0 a1)) 4)) (cond (zfu (zk a0 a1) (zd5 (zbH (zbs (zk a0 a1))) (ieq (zbp (zk a0 a1)) 4))) (cond (zcg a0 a1 (zdZ (zk a0 a1) (zd5 (zbH (zbs (zk a0 a1))) (ieq (zbp (zk a0 a1)) 4)))) (some [(.agg (Ty.cells .bare (zct a0 a1 (zdZ (zk a0 a1) (zd5 (zbH (zbs (zk a0 a1))) (ieq (zbp (zk a0 a1)) 4)))))),(.one (.b true))]) none) none) none) none) (cond (ieq (zbp (zk a0 a1)) 4) (cond (zfJ (zbs (zk a0 a1))) (cond (zjq a0.Memory (zb5 (zk a0 a1).Live (zbH (zbs (zk a0 a1))) (zcr (ieq (zbp (zk a0 a1)) 4))) (zcn (zbs (zk a0 a1))) (zk a0 a1).A) (cond (znc (zk a0 a1)) (cond (zcg ({ a0 with Memory:=(zf3 a0.Memory (zb5 (zk a0 a1).Live (zbH (zbs (zk a0 a1))) (zcr (ieq (zbp (zk a0 a1)) 4))) (zcn (zbs (zk a0 a1))) (zk a0 a1).A) }:Bare) a1 (zh6 (zk a0 a1))) (some [(.agg (Ty.cells .bare (zct ({ a0 with Memory:=(zf3 a0.Memory (zb5 (zk a0 a1).Live (zbH (zbs (zk a0 a1))) (zcr (ieq (zbp (zk a0 a1)) 4))) (zcn (zbs (zk a0 a1))) (zk a0 a1).A) }:Bare) a1 (zh6 (zk a0 a1))))),(.one (.b true))]) none) none) none) none) (cond (zfJ (zbs (zk a0 a1))) (cond (zmF a0.Memory (zb5 (zk a0 a1).Live (zbH (zbs (zk a0 a1))) (zcr (ieq (zbp (zk a0 a1)) 4))) (zcn (zbs (zk a0 a1)))) (cond (zlP (zk a0 a1) (zfQ a0.Memory (zb5 (zk a0 a1).Live (zbH (zbs (zk a0 a1))) (zcr (ieq (zbp (zk a0 a1)) 4))) (zcn (zbs (zk a0 a1))))) (cond (zcg a0 a1 (zhY (zk a0 a1) (zfQ a0.Memory (zb5 (zk a0 a1).Live (zbH (zbs (zk a0 a1))) (zcr (ieq (zbp (zk a0 a1)) 4))) (zcn (zbs (zk a0 a1)))))) (some [(.agg (Ty.cells .bare (zct a0 a1 (zhY (zk a0 a1) (zfQ a0.Memory (zb5 (zk a0 a1).Live (zbH (zbs (zk a0 a1))) (zcr (ieq (zbp (zk a0 a1)) 4))) (zcn (zbs (zk a0 a1)))))))),(.one (.b true))]) none) none) none) none))) none) none) none) (cond (ieq (zbp (zk a0 a1)) 6) (cond (zne (zb3 (zk a0 a1).Prog (zk a0 a1).Pc).X) (cond (zfu (zk a0 a1) (zfn (zb3 (zk a0 a1).Prog (zk a0 a1).Pc).X)) (cond (zcg a0 a1 (zdZ (zk a0 a1) (zfn (zb3 (zk a0 a1).Prog (zk a0 a1).Pc).X))) (some [(.agg (Ty.cells .bare (zct a0 a1 (zdZ (zk a0 a1) (zfn (zb3 (zk a0 a1).Prog (zk a0 a1).Pc).X))))),(.one (.b true))]) none) none) none) (cond (zmQ (zbp (zk a0 a1))) (cond (ziy (zk a0 a1).Ctl.Traps (zfO (zbp (zk a0 a1)))) (cond (zhW (zk a0 a1).Ctl.Traps (zfO (zbp (zk a0 a1)))) (cond (zkL (zk a0 a1) (zbp (zk a0 a1))) (cond (zcg a0 a1 (zhe (zk a0 a1) (zbp (zk a0 a1)))) (some [(.agg (Ty.cells .bare (zct a0 a1 (zhe (zk a0 a1) (zbp (zk a0 a1)))))),(.one (.b true))]) none) none) (cond (ieq (zbp (zk a0 a1)) 5) (cond (zrQ a0 (zb3 (zk a0 a1).Prog (zk a0 a1).Pc).X) (cond (zej (zk a0 a1)) (cond (zcg (zjx a0 (zb3 (zk a0 a1).Prog (zk a0 a1).Pc).X) a1 (zdb (zk a0 a1))) (some [(.agg (Ty.cells .bare (zct (zjx a0 (zb3 (zk a0 a1).Prog (zk a0 a1).Pc).X) a1 (zdb (zk a0 a1))))),(.one (.b true))]) none) none) none) (cond (zlk (zk a0 a1)) (cond (zcg a0 a1 (zjw (zk a0 a1))) (some [(.agg (Ty.cells .bare (zct a0 a1 (zjw (zk a0 a1))))),(.one (.b true))]) none) none))) none) none))) (cond (ieq (zbp (zk a0 a1)) 4) (cond (zfK (zbs (zk a0 a1))) (cond (zl7 (ieq (zbp (zk a0 a1)) 4)) (cond (ziv (zk a0 a1).Live (zbH (zbs (zk a0 a1))) (zcr (ieq (zbp (zk a0 a1)) 4))) (cond (cond (zfS (zk a0 a1).Live (zbH (zbs (zk a0 a1))) (zcr (ieq (zbp (zk a0 a1)) 4))) false true) (cond (zfK (zbs (zk a0 a1))) (cond (zir (zbH (zbs (zk a0 a1))) (ieq (zbp (zk a0 a1)) 4)) (cond (zfu (zk a0 a1) (zd5 (zbH (zbs (zk a0 a1))) (ieq (zbp (zk a0 a1)) 4))) (cond (zcg a0 a1 (zdZ (zk a0 a1) (zd5 (zbH (zbs (zk a0 a1))) (ieq (zbp (zk a0 a1)) 4)))) (some [(.agg (Ty.cells .bare (zct a0 a1 (zdZ (zk a0 a1) (zd5 (zbH (zbs (zk a0 a1))) (ieq (zbp (zk a0 a1)) 4)))))),(.one (.b true))]) none) none) none) none) (cond (ieq (zbp (zk a0 a1)) 4) (cond (zfJ (zbs (zk a0 a1))) (cond (zjq a0.Memory (zb5 (zk a0 a1).Live (zbH (zbs (zk a0 a1))) (zcr (ieq (zbp (zk a0 a1)) 4))) (zcn (zbs (zk a0 a1))) (zk a0 a1).A) (cond (znc (zk a0 a1)) (cond (zcg ({ a0 with Memory:=(zf3 a0.Memory (zb5 (zk a0 a1).Live (zbH (zbs (zk a0 a1))) (zcr (ieq (zbp (zk a0 a1)) 4))) (zcn (zbs (zk a0 a1))) (zk a0 a1).A) }:Bare) a1 (zh6 (zk a0 a1))) (some [(.agg (Ty.cells .bare (zct ({ a0 with Memory:=(zf3 a0.Memory (zb5 (zk a0 a1).Live (zbH (zbs (zk a0 a1))) (zcr (ieq (zbp (zk a0 a1)) 4))) (zcn (zbs (zk a0 a1))) (zk a0 a1).A) }:Bare) a1 (zh6 (zk a0 a1))))),(.one (.b true))]) none) none) none) none) (cond (zfJ (zbs (zk a0 a1))) (cond (zmF a0.Memory (zb5 (zk a0 a1).Live (zbH (zbs (zk a0 a1))) (zcr (ieq (zbp (zk a0 a1)) 4))) (zcn (zbs (zk a0 a1)))) (cond (zlP (zk a0 a1) (zfQ a0.Memory (zb5 (zk a0 a1).Live (zbH (zbs (zk a0 a1))) (zcr (ieq (zbp (zk a0 a1)) 4))) (zcn (zbs (zk a0 a1))))) (cond (zcg a0 a1 (zhY (zk a0 a1) (zfQ a0.Memory (zb5 (zk a0 a1).Live (zbH (zbs (zk a0 a1))) (zcr (ieq (zbp (zk a0 a1)) 4))) (zcn (zbs (zk a0 a1)))))) (some [(.agg (Ty.cells .bare (zct a0 a1 (zhY (zk a0 a1) (zfQ a0.Memory (zb5 (zk a0 a1).Live (zbH (zbs (zk a0 a1))) (zcr (ieq (zbp (zk a0 a1)) 4))) (zcn (zbs (zk a0 a1)))))))),(.one (.b true))]) none) none) none) none))) none) none) none) (cond (ieq (zbp (zk a0 a1)) 6) (cond (zne (zb3 (zk a0 a1).Prog (zk a0 a1).Pc).X) (cond (zfu (zk a0 a1) (zfn (zb3 (zk a0 a1).Prog (zk a0 a1).Pc).X)) (cond (zcg a0 a1 (zdZ (zk a0 a1) (zfn (zb3 (zk a0 a1).Prog (zk a0 a1).Pc).X))) (some [(.agg (Ty.cells .bare (zct a0 a1 (zdZ (zk a0 a1) (zfn (zb3 (zk a0 a1).Prog (zk a0 a1).Pc).X))))),(.one (.b true))]) none) none) none) (cond (zmQ (zbp (zk a0 a1))) (cond (ziy (zk a0 a1).Ctl.Traps (zfO (zbp (zk a0 a1)))) (cond (zhW (zk a0 a1).Ctl.Traps (zfO (zbp (zk a0 a1)))) (cond (zkL (zk a0 a1) (zbp (zk a0 a1))) (cond (zcg a0 a1 (zhe (zk a0 a1) (zbp (zk a0 a1)))) (some [(.agg (Ty.cells .bare (zct a0 a1 (zhe (zk a0 a1) (zbp (zk a0 a1)))))),(.one (.b true))]) none) none) (cond (ieq (zbp (zk a0 a1)) 5) (cond (zrQ a0 (zb3 (zk a0 a1).Prog (zk a0 a1).Pc).X) (cond (zej (zk a0 a1)) (cond (zcg (zjx a0 (zb3 (zk a0 a1).Prog (zk a0 a1).Pc).X) a1 (zdb (zk a0 a1))) (some [(.agg (Ty.cells .bare (zct (zjx a0 (zb3 (zk a0 a1).Prog (zk a0 a1).Pc).X) a1 (zdb (zk a0 a1))))),(.one (.b true))]) none) none) none) (cond (zlk (zk a0 a1)) (cond (zcg a0 a1 (zjw (zk a0 a1))) (some [(.agg (Ty.cells .bare (zct a0 a1 (zjw (zk a0 a1))))),(.one (.b true))]) none) none))) none) none)))))) none) none)))) none) none) none)
theorem zNM (N:Nat)(a0:Bare)(a1:Int):evalFn (cQ zzi zV zK zO) (zB []) N 12 66 [.agg (Ty.cells .bare a0),.one (.i .i64 a1)]=zug N a0 a1:=by kernel_rfl
theorem zJB (a0:Bare)(a1:Int)(hb:zG big [.agg (Ty.cells .bare a0),.one (.i .i64 a1)])(hc:(zuZ a0 a1)=true):∃N,zug N a0 a1=some [.agg (Ty.cells .bare (zhP a0 a1)),.one (.b (zmC a0 a1))]:=by
 have hs:=zI.1 hc;have hx:=zY6 a1 hs;have hz:_/\_/\_:=hs;have hg:a0.Guests.length<=1048576:=hs.2.1.1;have hw7:=zWG (gAt a0 a1);have h34:ieq (zN (gAt a0 a1)) 3=true->ieq (zN (gAt a0 a1)) 4=false:=fun h=>zVP h rfl;have h57:ieq (zN (gAt a0 a1)) 5=true->ieq (zN (gAt a0 a1)) 7=false:=fun h=>zVP h rfl;have t1:=tr1 (gAt a0 a1) (gAt a0 a1).Ctl.Traps (zN (gAt a0 a1));have t2:=tr2 (gAt a0 a1) (gAt a0 a1).Ctl.Traps (zN (gAt a0 a1));have t3:=tr3 (gAt a0 a1) (gAt a0 a1).Ctl.Traps (zN (gAt a0 a1));have t4:=tr4 (gAt a0 a1) (gAt a0 a1).Ctl.Traps (zN (gAt a0 a1));have hp:∀n,SmB (zmf a0 n):=fun n=>zIb hs
 refine ⟨0,?_⟩;unfold zug;refine must (by first|assumption|(simp_all<;>omega)) (must rfl (must rfl (brN (fun _=>must (by first|assumption|(simp_all<;>omega)) ?_) (fun _=>brN (fun _=>must (by first|assumption|(simp_all<;>omega)) ?_) (fun _=>br (fun _=>must (by first|assumption|(simp_all<;>omega)) ?_) (fun _=>must rfl (must rfl (br (fun _=>must (by first|assumption|(simp_all<;>omega)) (must (by first|assumption|(simp_all<;>omega)) ?_)) (fun _=>br (fun _=>must (by first|assumption|(simp_all<;>omega)) (must (by first|assumption|(simp_all<;>omega)) ?_)) (fun _=>br (fun _=>br (fun _=>must rfl (must rfl (must rfl (brN (fun _=>must rfl (must rfl (must (by first|assumption|(simp_all<;>omega)) (must (by first|assumption|(simp_all<;>omega)) ?_)))) (fun _=>br (fun _=>must rfl (must (by first|assumption|(simp_all<;>omega)) (must (by first|assumption|(simp_all<;>omega)) (must (by first|assumption|(simp_all<;>omega)) ?_)))) (fun _=>must rfl (must rfl (must (by first|assumption|(simp_all<;>omega)) (must (by first|assumption|(simp_all<;>omega)) ?_))))))))) (fun _=>br (fun _=>must rfl (must (by first|assumption|(simp_all<;>omega)) (must (by first|assumption|(simp_all<;>omega)) ?_))) (fun _=>must rfl (must rfl (br (fun _=>must (by first|assumption|(simp_all<;>omega)) (must (by first|assumption|(simp_all<;>omega)) ?_)) (fun _=>br (fun _=>must (by first|assumption|(simp_all<;>omega)) (must (by first|assumption|(simp_all<;>omega)) (must (by first|assumption|(simp_all<;>omega)) ?_))) (fun _=>must (by first|assumption|(simp_all<;>omega)) (must (by first|assumption|(simp_all<;>omega)) ?_)))))))) (fun _=>br (fun _=>must rfl (must rfl (must rfl (brN (fun _=>must rfl (must rfl (must (by first|assumption|(simp_all<;>omega)) (must (by first|assumption|(simp_all<;>omega)) ?_)))) (fun _=>br (fun _=>must rfl (must (by first|assumption|(simp_all<;>omega)) (must (by first|assumption|(simp_all<;>omega)) (must (by first|assumption|(simp_all<;>omega)) ?_)))) (fun _=>must rfl (must rfl (must (by first|assumption|(simp_all<;>omega)) (must (by first|assumption|(simp_all<;>omega)) ?_))))))))) (fun _=>br (fun _=>must rfl (must (by first|assumption|(simp_all<;>omega)) (must (by first|assumption|(simp_all<;>omega)) ?_))) (fun _=>must rfl (must rfl (br (fun _=>must (by first|assumption|(simp_all<;>omega)) (must (by first|assumption|(simp_all<;>omega)) ?_)) (fun _=>br (fun _=>must (by first|assumption|(simp_all<;>omega)) (must (by first|assumption|(simp_all<;>omega)) (must (by first|assumption|(simp_all<;>omega)) ?_))) (fun _=>must (by first|assumption|(simp_all<;>omega)) (must (by first|assumption|(simp_all<;>omega)) ?_))))))))))))))))))
 all_goals first|rfl|(simp only [*,zhP,zmC,zjG,znF,stepped,zsh,zsc,zpg,zeN,cT,cF]<;>rfl)|simp_all [Ty.cells,zhP,zmC,zjG,znF,stepped,zsh,zsc,zpg,zeN]
theorem zFh:Holds Tryz.prog 66 zn8:=zo znI zD zu zA (zC (by kernel_rfl)) fun avs rs hb h=>by
 unfold zn8 at h;split at h
 ·obtain ⟨hc,rfl⟩:=zl h;exact (fin2 zJB zNM hc hb :)
 ·cases h
def SmK (k:Kept):Prop:=k.Known.length<=1048576/\k.Slots.length<=1048576
def zLN (l:List Kept):Prop:=l.length<=1048576/\∀x∈l,SmK x
def znq (m:Mon):Prop:=m.Outer.length<=1048576/\SmM m.Out/\m.Dirty.length<=1048576/\zBw m.Guests/\m.Outs.length<=1048576/\zLN m.Tables
def zCm (l:List Mon):Prop:=l.length<=1048576/\∀x∈l,znq x
def SmH (h:Host):Prop:=SmM h.Memory/\zCm h.Mons/\h.Buffer.length<=1048576/\h.IoBuffer.length<=1048576
@[simp] theorem zCY (k:Kept):(∀c∈Ty.cells .kept k,CVB sm c)↔SmK k:=by simp [Ty.cells,SmK,zZY]
@[simp] theorem zZm (l:List Kept):CVB sm (.s .kept l)↔zLN l:=by rw [zkb];simp only [zCY];rfl
@[simp] theorem zVV (m:Mon):(∀c∈Ty.cells .mon m,CVB sm c)↔znq m:=by
 simp only [Ty.cells,List.mem_cons,List.not_mem_nil,or_false,forall_eq_or_imp,forall_eq,znV,zMx,zZm,zXR,zUq,zU5,z0K,and_true,true_and];rfl
@[simp] theorem z1i (l:List Mon):CVB sm (.s .mon l)↔zCm l:=by rw [zkb];simp only [zVV];rfl
@[simp] theorem zbg (h:Host):zdQ h↔SmH h:=by
 unfold zdQ;simp only [zx,List.mem_cons,List.not_mem_nil,or_false,forall_eq_or_imp,forall_eq,znV,z1i,zRu];rfl
theorem zbr {p:Prop}(h:p):pc p=true:=zU h
theorem zVG {l:List Kept}{i:Int}{x:Kept}(h:zLN l)(hx:SmK x):zLN (up l i x):=by
 refine ⟨by simpa using h.1,fun y hy=>?_⟩
 rcases List.mem_or_eq_of_mem_set hy with hy|rfl
 ·exact h.2 y hy
 ·exact hx
theorem zL9 {l:List Mon}{i:Int}{x:Mon}(h:zCm l)(hx:znq x):zCm (up l i x):=by
 refine ⟨by simpa using h.1,fun y hy=>?_⟩
 rcases List.mem_or_eq_of_mem_set hy with hy|rfl
 ·exact h.2 y hy
 ·exact hx
theorem zoy {α:Type}{l:List α}(h:l.length<=1048576):few (ln (ap [] l))=true:=by
 rw [zkD,z07];omega
@[simp,reducible] def zd4 (h:Host):Bool:=pc (zdQ h)
@[simp,reducible] def zh (h:Host):Host:=h
def zqP:List AV->Option (Bool×List AV)
 | [.agg [.s (.sl .int) b,.s .mon c,.s .entry d,.s .entry e]]=>some ((zd4 (⟨b,c,d,e⟩:Host)),[.agg (zx (zh (⟨b,c,d,e⟩:Host)))])
 | _=>none
def zwc (N:Nat)(a0:Host):Option Ans :=
 (cond (zgh a0.Memory) (cond (few (ln (ap [] a0.Buffer))) (cond (few (ln (ap [] a0.IoBuffer))) (iter (σ:=(Int×((List (List Int))×((List Mon)×((List Entry)×((List Entry)×((List (List Int))×((List Mon)×((List Entry)×((List Entry)×((List (List Int))×((List Mon)×((List Entry)×((List Entry)×Unit)))))))))))))) N (fun r2 s3=>(cond (ilt s3.1 (ln s3.2.2.1)) (cond (inb s3.1 (ln s3.2.2.1)) (cond (zm6 (ix s3.2.2.1 s3.1 zf)) (cond (few (ln (ap s3.2.2.2.2.2.2.2.2.2.2.1 [(zlj (ix s3.2.2.1 s3.1 zf))]))) (r2 ((zq .i64 s3.1 1),(s3.2.1,(s3.2.2.1,(s3.2.2.2.1,(s3.2.2.2.2.1,(s3.2.2.2.2.2.1,(s3.2.2.2.2.2.2.1,(s3.2.2.2.2.2.2.2.1,(s3.2.2.2.2.2.2.2.2.1,(s3.2.2.2.2.2.2.2.2.2.1,((ap s3.2.2.2.2.2.2.2.2.2.2.1 [(zlj (ix s3.2.2.1 s3.1 zf))]),(s3.2.2.2.2.2.2.2.2.2.2.2.1,(s3.2.2.2.2.2.2.2.2.2.2.2.2.1,())))))))))))))) none) none) none) (some [(.agg (zx (⟨s3.2.2.2.2.2.2.2.2.2.1,s3.2.2.2.2.2.2.2.2.2.2.1,s3.2.2.2.2.2.2.2.2.2.2.2.1,s3.2.2.2.2.2.2.2.2.2.2.2.2.1⟩:Host)))]))) (0,(a0.Memory,(a0.Mons,(a0.Buffer,(a0.IoBuffer,([],([],([],([],((zdg a0.Memory),([],((ap [] a0.Buffer),((ap [] a0.IoBuffer),())))))))))))))) none) none) none)
def zNn:FuncId->Nat->Option Tmpl:=zB [(17,0,{ n:=36,tm:=[(1,.lp 0 0),(2,.lp 1 0),(3,.lp 2 0),(4,.i .i64)],lo:=[(0,[.sl 0 [],.sl 1 [],.sl 2 [],.sl 3 []]),(1,[.sl 4 [],.sl 5 [],.sl 6 [],.sl 7 []]),(2,[.sl 8 [],.sl 9 [],.sl 10 [],.sl 11 []])],ro:=[(0,(.sl .int),false),(1,.mon,false),(2,.entry,false),(3,.entry,false),(4,(.sl .int),true),(5,.mon,true),(6,.entry,true),(7,.entry,true),(8,(.sl .int),true),(9,.mon,true),(10,.entry,true),(11,.entry,true)] })]
theorem zRI (N:Nat)(a0:Host):evalFn (cQ zzi zV zK zO) zNn N 12 17 [.agg (zx a0)]=zwc N a0:=by kernel_rfl
theorem zOz (a0:Host)(hb:zG big [.agg (zx a0)])(hc:(zd4 a0)=true):∃N,zwc N a0=some [.agg (zx (zh a0))]:=by
 obtain ⟨h1,h2,h3,h4⟩:=(zbg a0).1 (zI.1 hc);have hl:=zcA h2.1;refine ⟨NN,?_⟩;have hNN:∀{n:Nat},n<=big->n<NN:=fun h=>zb4 h;generalize NN=N at hNN ⊢;unfold zwc;refine must (zbr ((znV _).2 h1)) (must (zoy h3) (must (zoy h4) ?_));refine (zbF a0.Mons (fun i (t:(List Mon))=>((i:Int),a0.Memory,a0.Mons,a0.Buffer,a0.IoBuffer,[],[],[],[],(zdg a0.Memory),t,(ap [] a0.Buffer),(ap [] a0.IoBuffer),())) _ (fun _ x acc κ=>bif zm6 x then (cond (few (ln (ap acc [zlj x]))) (κ (ap acc [zlj x])) none) else none) (fun (t:(List Mon))=>(some [(.agg (zx (⟨(zdg a0.Memory),t,(ap [] a0.Buffer),(ap [] a0.IoBuffer)⟩:Host)))])) (fun i hi t rec=>?_) (fun t rec=>?_) _ ([]) (hNN hl.1)).trans ?_
 ·simp only [zbu hi,zbh hi,zbq hi,zbd hi hl.1,cT]
 ·simp only [zbk,cF]
 exact zh4 zm6 zlj _ a0.Mons 0 [] (fun x hx=>⟨zbr ((zVV x).2 (h2.2 x hx)),rfl⟩) (by simpa using hl.2)
theorem zIo:Holds Tryz.prog 17 zqP:=zo znI zD zu zA (zC (by kernel_rfl)) fun avs rs hb h=>by
 unfold zqP at h;split at h
 ·obtain ⟨hc,rfl⟩:=zl h;exact (fin1 zOz zRI hc hb :)
 ·cases h
@[simp,reducible] def zfI (k:Kept):Bool:=pc (SmK k)
@[simp,reducible] def zb9 (k:Kept):Kept:=k
def zow:List AV->Option (Bool×List AV)
 | [.agg [.s .bool b,.s .slot c]]=>some ((zfI (⟨b,c⟩:Kept)),[.agg (Ty.cells .kept (zb9 (⟨b,c⟩:Kept)))])
 | _=>none
def zuY (N:Nat)(a0:Kept):Option Ans :=
 (cond (few (ln (ap [] a0.Known))) (cond (zfR a0.Slots) (some [(.agg (Ty.cells .kept (⟨(ap [] a0.Known),(zeJ a0.Slots)⟩:Kept)))]) none) none)
theorem zOO (N:Nat)(a0:Kept):evalFn (cQ zzi zV zK zO) (zB []) N 12 116 [.agg (Ty.cells .kept a0)]=zuY N a0:=by kernel_rfl
theorem zLd (a0:Kept)(hb:zG big [.agg (Ty.cells .kept a0)])(hc:(zfI a0)=true):∃N,zuY N a0=some [.agg (Ty.cells .kept (zb9 a0))]:=by
 have hs:=zI.1 hc;obtain ⟨h1,h2⟩:=hs;have hs1:a0.Known.length<=2147483648:=(by omega);have hs2:a0.Slots.length<=2147483648:=(by omega)
 refine ⟨0,?_⟩;unfold zuY;refine must (by first|assumption|(simp_all<;>omega)) (must (by first|assumption|(simp_all<;>omega)) ?_)
 first|rfl|(simp only [*,zb9,cT,cF]<;>rfl)|simp_all [Ty.cells,zb9]
theorem zFN:Holds Tryz.prog 116 zow:=zo znI zD zu zA (zC (by kernel_rfl)) fun avs rs hb h=>by
 unfold zow at h;split at h
 ·obtain ⟨hc,rfl⟩:=zl h;exact (fin1 zLd zOO hc hb :)
 ·cases h
def zWF:zbP:=[(17,zqP),(116,zow)]++zzi
theorem zQo:zbv zWF:=zn zIo (zn zFN znI)
@[simp,reducible] def ziR (m:Mon):Bool:=pc (znq m)
@[simp,reducible] def zhU (m:Mon):Mon:=m
def zpO:List AV->Option (Bool×List AV)
 | [.agg [.s .slot b,.s (.sl .int) c,.s .bool d,.s .guest e,.s .int f,.i .i64 g,.i .i64 h,.s .kept j,.i .i64 k]]=>some ((ziR (⟨b,c,d,e,f,g,h,j,k⟩:Mon)),[.agg (Ty.cells .mon (zhU (⟨b,c,d,e,f,g,h,j,k⟩:Mon)))])
 | _=>none
def zxf (N:Nat)(a0:Mon):Option Ans :=
 (cond (zfR a0.Outer) (cond (zfl a0.Out) (cond (few (ln (ap [] a0.Dirty))) (cond (zhK a0.Guests) (cond (zdl a0.Outs) (iter (σ:=(Int×(Int×(Int×(Int×(Int×(Int×(Int×(Int×((List Kept)×((List Kept)×((List Slot)×((List (List Int))×((List Bool)×((List Guest)×((List Int)×((List Slot)×((List (List Int))×((List Bool)×((List Guest)×((List Int)×((List Kept)×Unit)))))))))))))))))))))) N (fun r2 s3=>(cond (ilt s3.2.1 s3.1) (cond (inb s3.2.1 (ln s3.2.2.2.2.2.2.2.2.2.1)) (cond (zfI (ix s3.2.2.2.2.2.2.2.2.2.1 s3.2.1 zbB)) (cond (few (ln (ap s3.2.2.2.2.2.2.2.2.1 [(zb9 (ix s3.2.2.2.2.2.2.2.2.2.1 s3.2.1 zbB))]))) (r2 (s3.1,((zq .i64 s3.2.1 1),(s3.2.2.1,(s3.2.2.2.1,(s3.2.2.2.2.1,(s3.2.2.2.2.2.1,(s3.2.2.2.2.2.2.1,(s3.2.2.2.2.2.2.2.1,((ap s3.2.2.2.2.2.2.2.2.1 [(zb9 (ix s3.2.2.2.2.2.2.2.2.2.1 s3.2.1 zbB))]),(s3.2.2.2.2.2.2.2.2.2.1,(s3.2.2.2.2.2.2.2.2.2.2.1,(s3.2.2.2.2.2.2.2.2.2.2.2.1,(s3.2.2.2.2.2.2.2.2.2.2.2.2.1,(s3.2.2.2.2.2.2.2.2.2.2.2.2.2.1,(s3.2.2.2.2.2.2.2.2.2.2.2.2.2.2.1,(s3.2.2.2.2.2.2.2.2.2.2.2.2.2.2.2.1,(s3.2.2.2.2.2.2.2.2.2.2.2.2.2.2.2.2.1,(s3.2.2.2.2.2.2.2.2.2.2.2.2.2.2.2.2.2.1,(s3.2.2.2.2.2.2.2.2.2.2.2.2.2.2.2.2.2.2.1,(s3.2.2.2.2.2.2.2.2.2.2.2.2.2.2.2.2.2.2.2.1,(s3.2.2.2.2.2.2.2.2.2.2.2.2.2.2.2.2.2.2.2.2.1,())))))))))))))))))))))) none) none) none) (some [(.agg (Ty.cells .mon (⟨s3.2.2.2.2.2.2.2.2.2.2.1,s3.2.2.2.2.2.2.2.2.2.2.2.1,s3.2.2.2.2.2.2.2.2.2.2.2.2.1,s3.2.2.2.2.2.2.2.2.2.2.2.2.2.1,s3.2.2.2.2.2.2.2.2.2.2.2.2.2.2.1,s3.2.2.1,s3.2.2.2.1,s3.2.2.2.2.2.2.2.2.1,s3.2.2.2.2.1⟩:Mon)))]))) ((ln a0.Tables),(0,(a0.Pending,(a0.Traps,(a0.Own,(0,(0,(0,([],(a0.Tables,((zeJ a0.Outer),((zcX a0.Out),((ap [] a0.Dirty),((zhM a0.Guests),((zdh a0.Outs),([],([],([],([],([],([],())))))))))))))))))))))) none) none) none) none) none)
def zN9:FuncId->Nat->Option Tmpl:=zB [(49,0,{ n:=44,tm:=[(1,.lp 0 0),(2,.lp 1 0),(3,.sl 0 []),(29,.sl 1 []),(30,.i .i64),(31,.i .i64)],lo:=[(0,[.sl 2 [],.sl 3 [],.sl 4 [],.sl 5 [],.sl 6 [],.i .i64,.i .i64,.sl 1 [],.i .i64]),(1,[.sl 7 [],.sl 8 [],.sl 9 [],.sl 10 [],.sl 11 [],.i .i64,.i .i64,.sl 12 [],.i .i64])],ro:=[(0,.kept,true),(1,.kept,false),(2,.slot,true),(3,(.sl .int),true),(4,.bool,true),(5,.guest,true),(6,.int,true),(7,.slot,true),(8,(.sl .int),true),(9,.bool,true),(10,.guest,true),(11,.int,true),(12,.kept,true)] })]
theorem zQi (N:Nat)(a0:Mon):evalFn (cQ zWF zV zK zO) zN9 N 12 49 [.agg (Ty.cells .mon a0)]=zxf N a0:=by kernel_rfl
theorem zNm (a0:Mon)(hb:zG big [.agg (Ty.cells .mon a0)])(hc:(ziR a0)=true):∃N,zxf N a0=some [.agg (Ty.cells .mon (zhU a0))]:=by
 obtain ⟨h1,h2,h3,h4,h5,h6⟩:=zI.1 hc;have hl:=zcA h6.1;refine ⟨NN,?_⟩;have hNN:∀{n:Nat},n<=big->n<NN:=fun h=>zb4 h;generalize NN=N at hNN ⊢;unfold zxf;have c1:zfR a0.Outer=true:=by simp;omega
 have c2:zfl a0.Out=true:=by simp;exact h2
 have c4:zhK a0.Guests=true:=by simp;exact h4
 have c5:zdl a0.Outs=true:=by simp;omega
 refine must c1 (must c2 (must (zoy h3) (must c4 (must c5 ?_))));refine (zbF a0.Tables (fun i (t:(List Kept))=>((ln a0.Tables),(i:Int),a0.Pending,a0.Traps,a0.Own,0,0,0,t,a0.Tables,(zeJ a0.Outer),(zcX a0.Out),(ap [] a0.Dirty),(zhM a0.Guests),(zdh a0.Outs),[],[],[],[],[],[],())) _ (fun _ x acc κ=>bif zfI x then (cond (few (ln (ap acc [zb9 x]))) (κ (ap acc [zb9 x])) none) else none) (fun (t:(List Kept))=>(some [(.agg (Ty.cells .mon (⟨(zeJ a0.Outer),(zcX a0.Out),(ap [] a0.Dirty),(zhM a0.Guests),(zdh a0.Outs),a0.Pending,a0.Traps,t,a0.Own⟩:Mon)))])) (fun i hi t rec=>?_) (fun t rec=>?_) _ ([]) (hNN hl.1)).trans ?_
 ·simp only [zbu hi,zbh hi,zbq hi,zbd hi hl.1,cT]
 ·simp only [zbk,cF]
 exact zh4 zfI zb9 _ a0.Tables 0 [] (fun x hx=>⟨zbr (h6.2 x hx),rfl⟩) (by simpa using hl.2)
theorem zIK:Holds Tryz.prog 49 zpO:=zo zQo zD zu zA (zC (by kernel_rfl)) fun avs rs hb h=>by
 unfold zpO at h;split at h
 ·obtain ⟨hc,rfl⟩:=zl h;exact (fin1 zNm zQi hc hb :)
 ·cases h
def zIU:zbP:=[(49,zpO)]++zWF
theorem zAy:zbv zIU:=zn zIK zQo
@[simp,reducible] def zhC (h:Host):Bool:=pc (zdQ h)
@[simp,reducible] def zS (h:Host):Host:=h
def zoB:List AV->Option (Bool×List AV)
 | [.agg [.s (.sl .int) b,.s .mon c,.s .entry d,.s .entry e]]=>some ((zhC (⟨b,c,d,e⟩:Host)),[.agg (zx (zS (⟨b,c,d,e⟩:Host)))])
 | _=>none
def ztv (N:Nat)(a0:Host):Option Ans :=
 (cond (zfl a0.Memory) (cond (few (ln (ap [] a0.Buffer))) (cond (few (ln (ap [] a0.IoBuffer))) (iter (σ:=(Int×(Int×((List Mon)×((List (List Int))×((List Mon)×((List Entry)×((List Entry)×((List (List Int))×((List Mon)×((List Entry)×((List Entry)×Unit)))))))))))) N (fun r2 s3=>(cond (ilt s3.2.1 s3.1) (cond (inb s3.2.1 (ln s3.2.2.1)) (cond (ziR (ix s3.2.2.1 s3.2.1 zf)) (cond (few (ln (ap s3.2.2.2.2.2.2.2.2.1 [(zhU (ix s3.2.2.1 s3.2.1 zf))]))) (r2 (s3.1,((zq .i64 s3.2.1 1),(s3.2.2.1,(s3.2.2.2.1,(s3.2.2.2.2.1,(s3.2.2.2.2.2.1,(s3.2.2.2.2.2.2.1,(s3.2.2.2.2.2.2.2.1,((ap s3.2.2.2.2.2.2.2.2.1 [(zhU (ix s3.2.2.1 s3.2.1 zf))]),(s3.2.2.2.2.2.2.2.2.2.1,(s3.2.2.2.2.2.2.2.2.2.2.1,())))))))))))) none) none) none) (some [(.agg (zx (⟨s3.2.2.2.2.2.2.2.1,s3.2.2.2.2.2.2.2.2.1,s3.2.2.2.2.2.2.2.2.2.1,s3.2.2.2.2.2.2.2.2.2.2.1⟩:Host)))]))) ((ln a0.Mons),(0,(a0.Mons,([],([],([],([],((zcX a0.Memory),([],((ap [] a0.Buffer),((ap [] a0.IoBuffer),())))))))))))) none) none) none)
def zLU:FuncId->Nat->Option Tmpl:=zB [(22,0,{ n:=34,tm:=[(2,.lp 0 0),(3,.lp 1 0),(19,.sl 0 []),(20,.i .i64),(21,.i .i64)],lo:=[(0,[.sl 1 [],.sl 2 [],.sl 3 [],.sl 4 []]),(1,[.sl 5 [],.sl 6 [],.sl 7 [],.sl 8 []])],ro:=[(0,.mon,false),(1,(.sl .int),true),(2,.mon,true),(3,.entry,true),(4,.entry,true),(5,(.sl .int),true),(6,.mon,true),(7,.entry,true),(8,.entry,true)] })]
theorem zMT (N:Nat)(a0:Host):evalFn (cQ zIU zV zK zO) zLU N 12 22 [.agg (zx a0)]=ztv N a0:=by kernel_rfl
theorem zKL (a0:Host)(hb:zG big [.agg (zx a0)])(hc:(zhC a0)=true):∃N,ztv N a0=some [.agg (zx (zS a0))]:=by
 obtain ⟨h1,h2,h3,h4⟩:=(zbg a0).1 (zI.1 hc);have hl:=zcA h2.1;refine ⟨NN,?_⟩;have hNN:∀{n:Nat},n<=big->n<NN:=fun h=>zb4 h;generalize NN=N at hNN ⊢;unfold ztv;have c1:zfl a0.Memory=true:=by simp;exact h1
 refine must c1 (must (zoy h3) (must (zoy h4) ?_));refine (zbF a0.Mons (fun i (t:(List Mon))=>((ln a0.Mons),(i:Int),a0.Mons,[],[],[],[],(zcX a0.Memory),t,(ap [] a0.Buffer),(ap [] a0.IoBuffer),())) _ (fun _ x acc κ=>bif ziR x then (cond (few (ln (ap acc [zhU x]))) (κ (ap acc [zhU x])) none) else none) (fun (t:(List Mon))=>(some [(.agg (zx (⟨(zcX a0.Memory),t,(ap [] a0.Buffer),(ap [] a0.IoBuffer)⟩:Host)))])) (fun i hi t rec=>?_) (fun t rec=>?_) _ ([]) (hNN hl.1)).trans ?_
 ·simp only [zbu hi,zbh hi,zbq hi,zbd hi hl.1,cT]
 ·simp only [zbk,cF]
 exact zh4 ziR zhU _ a0.Mons 0 [] (fun x hx=>⟨zbr (h2.2 x hx),rfl⟩) (by simpa using hl.2)
theorem zFC:Holds Tryz.prog 22 zoB:=zo zAy zD zu zA (zC (by kernel_rfl)) fun avs rs hb h=>by
 unfold zoB at h;split at h
 ·obtain ⟨hc,rfl⟩:=zl h;exact (fin1 zKL zMT hc hb :)
 ·cases h
def allI {α:Type}(p:Nat->α->Bool):List α->Nat->Bool
 | [],_=>true
 | x :: l,i=>p i x&&allI p l (i+1)
theorem zEZ {α ρ:Type}(p:Nat->α->Bool)(r:Option ρ)(K:Unit->Option ρ):∀(l:List α) (i:Nat),goL (fun i x (_:Unit) k=>bif p i x then k () else r) K l i ()=bif allI p l i then K () else r
 | [],_=>rfl
 | x :: l,i=>by
  simp only [goL,allI];cases p i x
  ·rfl
  ·simp only [cT,Bool.true_and];exact zEZ p r K l (i+1)
theorem zMI {α:Type}(q:α->Bool)(l:List α)(d:α):∀(n i:Nat),i+n<=l.length->zs3 (fun j=>q (ix l (j:Int) d)) n i=((l.drop i).take n).all q
 | 0,i,_=>by simp [zs3]
 | n+1,i,h=>by
  have hi:i<l.length:=by omega
  rw [List.drop_eq_getElem_cons hi,List.take_succ_cons,List.all_cons,<- zMI q l d n (i+1) (by omega)]
  simp only [zs3,zbq hi]
def sameKey (a b:Entry):Bool:=bif ieq a.Tag b.Tag then ieq a.Page b.Page else false
def alone (l:List Entry)(i:Nat)(x:Entry):Bool:=(l.take i).all fun y=>!sameKey x y
def zCL (l:List Entry):Bool:=bif allI (alone l) l 0 then ile (ln l) 6 else false
theorem z0m {α:Type}{l:List α}{i:Nat}(h:i<=l.length):inr 0 (i:Int) (ln l)=true:=decide_eq_true (by simp only [ln];omega)
@[simp,reducible] def zm8 (l:List Entry):Bool:=true
@[simp,reducible] def zmr (l:List Entry):Bool:=zCL l
def zos:List AV->Option (Bool×List AV)
 | [.one (.s .entry c)]=>some ((zm8 c),[.one (.b (zmr c))])
 | _=>none
def zsj (N:Nat)(a0:List Entry):Option Ans :=
 (iter (σ:=(Int×(Int×((List Entry)×Unit)))) N (fun r2 s3=>(cond (ilt s3.2.1 s3.1) (cond (inb s3.2.1 (ln s3.2.2.1)) (cond (inr 0 s3.2.1 (ln s3.2.2.1)) (iter (σ:=(Int×(Int×(Int×(Int×(Int×(Int×(Int×(Int×((List Entry)×((List Entry)×Unit))))))))))) N (fun r4 s5=>(cond (ilt s5.2.2.2.1 s5.2.2.1) (cond (inb s5.2.2.2.1 (ln s5.2.2.2.2.2.2.2.2.2.1)) (cond (ieq s5.2.2.2.2.1 (ix s5.2.2.2.2.2.2.2.2.2.1 s5.2.2.2.1 zby).Tag) (cond (ieq s5.2.2.2.2.2.1 (ix s5.2.2.2.2.2.2.2.2.2.1 s5.2.2.2.1 zby).Page) (some [(.one (.b false))]) (r4 (s5.1,(s5.2.1,(s5.2.2.1,((zq .i64 s5.2.2.2.1 1),(s5.2.2.2.2.1,(s5.2.2.2.2.2.1,(s5.2.2.2.2.2.2.1,(s5.2.2.2.2.2.2.2.1,(s5.2.2.2.2.2.2.2.2.1,(s5.2.2.2.2.2.2.2.2.2.1,())))))))))))) (r4 (s5.1,(s5.2.1,(s5.2.2.1,((zq .i64 s5.2.2.2.1 1),(s5.2.2.2.2.1,(s5.2.2.2.2.2.1,(s5.2.2.2.2.2.2.1,(s5.2.2.2.2.2.2.2.1,(s5.2.2.2.2.2.2.2.2.1,(s5.2.2.2.2.2.2.2.2.2.1,())))))))))))) none) (r2 (s5.1,((zq .i64 s5.2.1 1),(s5.2.2.2.2.2.2.2.2.1,())))))) (s3.1,(s3.2.1,((ln (tk s3.2.2.1 s3.2.1)),(0,((ix s3.2.2.1 s3.2.1 zby).Tag,((ix s3.2.2.1 s3.2.1 zby).Page,((ix s3.2.2.1 s3.2.1 zby).Host,((ix s3.2.2.1 s3.2.1 zby).Rights,(s3.2.2.1,((tk s3.2.2.1 s3.2.1),()))))))))))) none) none) (some [(.one (.b (ile (ln s3.2.2.1) 6)))]))) ((ln a0),(0,(a0,()))))
def zL1:FuncId->Nat->Option Tmpl:=zB [(119,0,{ n:=39,tm:=[(0,.sl 0 []),(7,.sl 0 []),(8,.i .i64),(9,.i .i64)],lo:=[],ro:=[(0,.entry,false)] }),(119,2,{ n:=39,tm:=[(0,.sl 0 []),(4,.lp 0 0),(7,.sl 0 []),(8,.i .i64),(9,.i .i64),(16,.sl 1 []),(17,.i .i64),(18,.i .i64)],lo:=[(0,[.i .i64,.i .i64,.i .i64,.i .i64])],ro:=[(0,.entry,false),(1,.entry,false)] })]
theorem zNc (N:Nat)(a0:List Entry):evalFn (cQ zIU zV zK zO) zL1 N 12 119 [.one (.s .entry a0)]=zsj N a0:=by kernel_rfl
theorem zJS (a0:List Entry)(hb:zG big [.one (.s .entry a0)])(hc:(zm8 a0)=true):∃N,zsj N a0=some [.one (.b (zmr a0))]:=by
 have hl:=((zbt hb).1 _ (List.mem_singleton.2 rfl)).len;refine ⟨NN,?_⟩;have hNN:∀{n:Nat},n<=big->n<NN:=fun h=>zb4 h;generalize NN=N at hNN ⊢;unfold zsj;refine (zbF a0 (fun i (t:Unit)=>((ln a0),(i:Int),a0,())) _ (fun i (x:Entry) (_:Unit) κ=>bif alone a0 i x then κ () else some [AV.one (.b false)]) (fun (t:Unit)=>(some [(.one (.b (ile (ln a0) 6)))])) (fun i hi t rec=>?_) (fun t rec=>?_) _ () (hNN hl)).trans ?_
 ·simp only [zbu hi,zbh hi,zbq hi,zbd hi hl,cT];rw [z0m (Nat.le_of_lt hi),cT];have hk:(tk a0 (i:Int)).length<=big:=Nat.le_trans (by simp [tk];omega) hl
  refine (zbF (tk a0 (i:Int)) (fun j (u:Unit)=>((ln a0),(i:Int),(ln (tk a0 (i:Int))),(j:Int),a0[i].Tag,a0[i].Page,a0[i].Host,a0[i].Rights,a0,(tk a0 (i:Int)),())) _ (fun _ (y:Entry) (_:Unit) κ=>bif !sameKey a0[i] y then κ () else some [AV.one (.b false)]) (fun (u:Unit)=>(rec ((ln a0),((((i+1:Nat)):Int),(a0,()))))) (fun j hj u rec1=>?_) (fun u rec1=>?_) _ () (hNN hk)).trans ?_
  ·simp only [zbu hj,zbh hj,zbq hj,zbd hj hk,cT,zbd hi hl];unfold sameKey;cases ieq a0[i].Tag (tk a0 (i:Int))[j].Tag<;>cases ieq a0[i].Page (tk a0 (i:Int))[j].Page<;>rfl
  ·simp only [zbk,cF,zbd hi hl]
  rw [zgr (fun y=>!sameKey a0[i] y)];rfl
 ·simp only [zbk,cF]
 rw [zEZ (alone a0)];unfold zmr zCL;cases allI (alone a0) a0 0<;>rfl
theorem zGm:Holds Tryz.prog 119 zos:=zo zAy zD zu zA (zC (by kernel_rfl)) fun avs rs hb h=>by
 unfold zos at h;split at h
 ·obtain ⟨hc,rfl⟩:=zl h;exact (fin1 zJS zNc hc hb :)
 ·cases h
@[simp,reducible] def zmh (l:List Entry):Bool:=true
@[simp,reducible] def zl8 (l:List Entry):Bool:=zCL l
def znB:List AV->Option (Bool×List AV)
 | [.one (.s .entry c)]=>some ((zmh c),[.one (.b (zl8 c))])
 | _=>none
def zuW (N:Nat)(a0:List Entry):Option Ans :=
 (iter (σ:=(Int×((List Entry)×Unit))) N (fun r2 s3=>(cond (ilt s3.1 (ln s3.2.1)) (iter (σ:=(Int×(Int×((List Entry)×Unit)))) N (fun r4 s5=>(cond (ilt s5.2.1 s5.1) (cond (inb s5.1 (ln s5.2.2.1)) (cond (inb s5.2.1 (ln s5.2.2.1)) (cond (ieq (ix s5.2.2.1 s5.1 zby).Tag (ix s5.2.2.1 s5.2.1 zby).Tag) (cond (inb s5.1 (ln s5.2.2.1)) (cond (inb s5.2.1 (ln s5.2.2.1)) (cond (ieq (ix s5.2.2.1 s5.1 zby).Page (ix s5.2.2.1 s5.2.1 zby).Page) (some [(.one (.b false))]) (r4 (s5.1,((zq .i64 s5.2.1 1),(s5.2.2.1,()))))) none) none) (r4 (s5.1,((zq .i64 s5.2.1 1),(s5.2.2.1,()))))) none) none) (r2 ((zq .i64 s5.1 1),(s5.2.2.1,()))))) (s3.1,(0,(s3.2.1,())))) (some [(.one (.b (ile (ln s3.2.1) 6)))]))) (0,(a0,())))
def zKK:FuncId->Nat->Option Tmpl:=zB [(152,0,{ n:=43,tm:=[(0,.sl 0 []),(3,.i .i64)],lo:=[],ro:=[(0,.entry,false)] }),(152,2,{ n:=43,tm:=[(0,.sl 0 []),(3,.i .i64),(4,.i .i64)],lo:=[],ro:=[(0,.entry,false)] })]
theorem zM5 (N:Nat)(a0:List Entry):evalFn (cQ zIU zV zK zO) zKK N 12 152 [.one (.s .entry a0)]=zuW N a0:=by kernel_rfl
theorem zKV (a0:List Entry)(hb:zG big [.one (.s .entry a0)])(hc:(zmh a0)=true):∃N,zuW N a0=some [.one (.b (zl8 a0))]:=by
 have hl:=((zbt hb).1 _ (List.mem_singleton.2 rfl)).len;refine ⟨NN,?_⟩;have hNN:∀{n:Nat},n<=big->n<NN:=fun h=>zb4 h;generalize NN=N at hNN ⊢;unfold zuW;refine (zbF a0 (fun i (t:Unit)=>((i:Int),a0,())) _ (fun i (x:Entry) (_:Unit) κ=>bif alone a0 i x then κ () else some [AV.one (.b false)]) (fun (t:Unit)=>(some [(.one (.b (ile (ln a0) 6)))])) (fun i hi t rec=>?_) (fun t rec=>?_) _ () (hNN hl)).trans ?_
 ·simp only [zbu hi,zbh hi,zbq hi,zbd hi hl,cT];refine (zz8 i (fun (j:Nat) (_:Unit)=>((i:Int),((j:Int),(a0,())))) _ (fun j (_:Unit) κ=>bif !sameKey a0[i] (ix a0 (j:Int) zby) then κ () else some [AV.one (.b false)]) (fun _=>rec (((i+1:Nat):Int),(a0,()))) (fun j hj u rec1=>?_) (fun u rec1=>?_) _ () (hNN (by omega))).trans ?_
  ·have hj2:j<a0.length:=by omega
   simp only [show ilt (j:Int) (i:Int)=true from decide_eq_true (by omega),zbh hi,zbh hj2,zbq hi,zbd hj2 hl,cT]
   unfold sameKey;cases ieq a0[i].Tag (ix a0 (j:Int) zby).Tag<;>cases ieq a0[i].Page (ix a0 (j:Int) zby).Page<;>rfl
  ·simp only [show ilt (i:Int) (i:Int)=false from decide_eq_false (by omega),zbd hi hl,cF]
  rw [zC9 (fun j=>!sameKey a0[i] (ix a0 (j:Int) zby)),zMI (fun y=>!sameKey a0[i] y) a0 _ i 0 (by omega)]
  rfl
 ·simp only [zbk,cF]
 rw [zEZ (alone a0)];unfold zl8 zCL;cases allI (alone a0) a0 0<;>rfl
theorem zFH:Holds Tryz.prog 152 znB:=zo zAy zD zu zA (zC (by kernel_rfl)) fun avs rs hb h=>by
 unfold znB at h;split at h
 ·obtain ⟨hc,rfl⟩:=zl h;exact (fin1 zKV zM5 hc hb :)
 ·cases h
def zOZ:zbP:=[(22,zoB),(152,znB),(119,zos)]++zIU
theorem zFy:zbv zOZ:=zn zFC (zn zFH (zn zGm zAy))
theorem zJc (a b:Int):igt a b = !ile a b:=by
 unfold igt ile
 by_cases h:a<=b
 ·rw [decide_eq_true h,decide_eq_false (by omega)];rfl
 ·rw [decide_eq_false h,decide_eq_true (by omega)];rfl
theorem stB {c M:Bool}{E:Option Ans}(h:c=true->E=some [AV.one (.b M)]):(cond (cond c false true) (some [AV.one (.b false)]) E)=some [AV.one (.b (cond c M false))]:=by
 cases c
 ·rfl
 ·exact h rfl
theorem stI {a b:Int}{M:Bool}{E:Option Ans}(h:ieq a b=true->E=some [AV.one (.b M)]):(cond (ine a b) (some [AV.one (.b false)]) E)=some [AV.one (.b (cond (ieq a b) M false))]:=by
 rw [zj2];cases hh:ieq a b
 ·rfl
 ·exact h hh
theorem stG {a b:Int}{M:Bool}{E:Option Ans}(h:ile a b=true->E=some [AV.one (.b M)]):(cond (igt a b) (some [AV.one (.b false)]) E)=some [AV.one (.b (cond (ile a b) M false))]:=by
 rw [zJc];cases hh:ile a b
 ·rfl
 ·exact h hh
def zCR (s:Slot)(p:List Int):Bool:=bif zef s noSlot then zc4 p else (cond (enough s.Rights 1) (ile (ln p) 0) false)
def fits (m:Mon)(j:Nat):Bool:=zCR (ix m.Outer (j:Int) zQ) (ix m.Out (j:Int) [])
def zek (m:Mon):Bool:=bif win (ln m.Guests) 1 2 then (cond (ieq (ln m.Tables) (ln m.Guests)) (cond (zdI m.Outer 8 12) (cond (ieq (ln m.Out) 8) (cond (ieq (ln m.Dirty) 8) (cond (ile (ln m.Outs) 40) (cond (zgx m.Pending) (cond (win m.Traps 0 3) (cond (win m.Own 0 1000000000) (cond (m.Guests.all zdF) (zs3 (fits m) 8 0) false) false) false) false) false) false) false) false) false) else false
theorem zu8 {t:List Slot}{n p:Int}(h:zdI t n p=true):ln t=n:=by
 unfold zdI at h;cases h1:t.all (fun s=>zeK s p)
 ·rw [h1] at h;cases h
 ·rw [h1] at h;exact of_decide_eq_true h
@[simp,reducible] def zph (m:Mon):Bool:=true
@[simp,reducible] def zse (m:Mon):Bool:=zek m
def zwJ:List AV->Option (Bool×List AV)
 | [.agg [.s .slot c,.s (.sl .int) d,.s .bool e,.s .guest f,.s .int g,.i .i64 h,.i .i64 j,.s .kept k,.i .i64 l]]=>some ((zph (⟨c,d,e,f,g,h,j,k,l⟩:Mon)),[.one (.b (zse (⟨c,d,e,f,g,h,j,k,l⟩:Mon)))])
 | _=>none
def zBB (N:Nat)(a0:Mon):Option Ans :=
 (cond (zbn (ln a0.Guests) 1 2) (cond (cond (zbx (ln a0.Guests) 1 2) false true) (some [(.one (.b false))]) (cond (ine (ln a0.Tables) (ln a0.Guests)) (some [(.one (.b false))]) (cond (zkw a0.Outer 8 12) (cond (cond (zhb a0.Outer 8 12) false true) (some [(.one (.b false))]) (cond (ine (ln a0.Out) 8) (some [(.one (.b false))]) (cond (ine (ln a0.Dirty) 8) (some [(.one (.b false))]) (cond (igt (ln a0.Outs) 40) (some [(.one (.b false))]) (cond (zhX a0.Pending) (cond (cond (zh1 a0.Pending) false true) (some [(.one (.b false))]) (cond (zbn a0.Traps 0 3) (cond (cond (zbx a0.Traps 0 3) false true) (some [(.one (.b false))]) (cond (zbn a0.Own 0 1000000000) (cond (cond (zbx a0.Own 0 1000000000) false true) (some [(.one (.b false))]) (iter (σ:=(Int×(Int×(Int×(Int×(Int×((List Guest)×((List Slot)×((List (List Int))×((List Bool)×((List Int)×((List Kept)×Unit)))))))))))) N (fun r2 s3=>(cond (ilt s3.2.1 s3.1) (cond (inb s3.2.1 (ln s3.2.2.2.2.2.1)) (cond (zky (ix s3.2.2.2.2.2.1 s3.2.1 zi)) (cond (cond (zju (ix s3.2.2.2.2.2.1 s3.2.1 zi)) false true) (some [(.one (.b false))]) (r2 (s3.1,((zq .i64 s3.2.1 1),(s3.2.2.1,(s3.2.2.2.1,(s3.2.2.2.2.1,(s3.2.2.2.2.2.1,(s3.2.2.2.2.2.2.1,(s3.2.2.2.2.2.2.2.1,(s3.2.2.2.2.2.2.2.2.1,(s3.2.2.2.2.2.2.2.2.2.1,(s3.2.2.2.2.2.2.2.2.2.2.1,()))))))))))))) none) none) (iter (σ:=(Int×(Int×(Int×(Int×(Int×((List Slot)×((List (List Int))×((List Bool)×((List Guest)×((List Int)×((List Kept)×Unit)))))))))))) N (fun r4 s5=>(cond (ilt s5.2.1 s5.1) (cond (inb s5.2.1 (ln s5.2.2.2.2.2.1)) (cond zc6 (cond (cond (ieq (ix s5.2.2.2.2.2.1 s5.2.1 zQ).Page zcD.Page) (ieq (ix s5.2.2.2.2.2.1 s5.2.1 zQ).Rights zcD.Rights) false) (cond (inb s5.2.1 (ln s5.2.2.2.2.2.2.1)) (cond (zgY (ix s5.2.2.2.2.2.2.1 s5.2.1 [])) (cond (cond (zfP (ix s5.2.2.2.2.2.2.1 s5.2.1 [])) false true) (some [(.one (.b false))]) (r4 (s5.1,((zq .i64 s5.2.1 1),(s5.2.2.1,(s5.2.2.2.1,(s5.2.2.2.2.1,(s5.2.2.2.2.2.1,(s5.2.2.2.2.2.2.1,(s5.2.2.2.2.2.2.2.1,(s5.2.2.2.2.2.2.2.2.1,(s5.2.2.2.2.2.2.2.2.2.1,(s5.2.2.2.2.2.2.2.2.2.2.1,()))))))))))))) none) none) (cond (zdi (ix s5.2.2.2.2.2.1 s5.2.1 zQ).Rights 1) (cond (cond (zdM (ix s5.2.2.2.2.2.1 s5.2.1 zQ).Rights 1) false true) (some [(.one (.b false))]) (cond (inb s5.2.1 (ln s5.2.2.2.2.2.2.1)) (cond (igt (ln (ix s5.2.2.2.2.2.2.1 s5.2.1 [])) 0) (some [(.one (.b false))]) (r4 (s5.1,((zq .i64 s5.2.1 1),(s5.2.2.1,(s5.2.2.2.1,(s5.2.2.2.2.1,(s5.2.2.2.2.2.1,(s5.2.2.2.2.2.2.1,(s5.2.2.2.2.2.2.2.1,(s5.2.2.2.2.2.2.2.2.1,(s5.2.2.2.2.2.2.2.2.2.1,(s5.2.2.2.2.2.2.2.2.2.2.1,()))))))))))))) none)) none)) none) none) (some [(.one (.b true))]))) ((ln s3.2.2.2.2.2.2.1),(0,(s3.2.2.1,(s3.2.2.2.1,(s3.2.2.2.2.1,(s3.2.2.2.2.2.2.1,(s3.2.2.2.2.2.2.2.1,(s3.2.2.2.2.2.2.2.2.1,(s3.2.2.2.2.2.1,(s3.2.2.2.2.2.2.2.2.2.1,(s3.2.2.2.2.2.2.2.2.2.2.1,())))))))))))))) ((ln a0.Guests),(0,(a0.Pending,(a0.Traps,(a0.Own,(a0.Guests,(a0.Outer,(a0.Out,(a0.Dirty,(a0.Outs,(a0.Tables,()))))))))))))) none)) none)) none))))) none))) none)
def zUB:FuncId->Nat->Option Tmpl:=zB [(120,0,{ n:=106,tm:=[(1,.lp 0 0),(64,.sl 0 []),(65,.i .i64),(66,.i .i64)],lo:=[(0,[.sl 1 [],.sl 2 [],.sl 3 [],.sl 0 [],.sl 4 [],.i .i64,.i .i64,.sl 5 [],.i .i64])],ro:=[(0,.guest,false),(1,.slot,false),(2,(.sl .int),false),(3,.bool,false),(4,.int,false),(5,.kept,false)] }),(120,2,{ n:=106,tm:=[(1,.lp 0 0),(75,.sl 0 []),(76,.i .i64),(77,.i .i64)],lo:=[(0,[.sl 0 [],.sl 1 [],.sl 2 [],.sl 3 [],.sl 4 [],.i .i64,.i .i64,.sl 5 [],.i .i64])],ro:=[(0,.slot,false),(1,(.sl .int),false),(2,.bool,false),(3,.guest,false),(4,.int,false),(5,.kept,false)] })]
theorem zW6 (N:Nat)(a0:Mon):evalFn (cQ zOZ zV zK zO) zUB N 12 120 [.agg (Ty.cells .mon a0)]=zBB N a0:=by kernel_rfl
theorem zU6 (a0:Mon)(hb:zG big [.agg (Ty.cells .mon a0)])(hc:(zph a0)=true):∃N,zBB N a0=some [.one (.b (zse a0))]:=by
 have hg:a0.Guests.length<=big:=((zbt hb).1 (.s .guest a0.Guests) (by simp [AV.cvs,Ty.cells])).len
 have ho:a0.Outer.length<=big:=((zbt hb).1 (.s .slot a0.Outer) (by simp [AV.cvs,Ty.cells])).len
 refine ⟨NN,?_⟩;have hNN:∀{n:Nat},n<=big->n<NN:=fun h=>zb4 h;generalize NN=N at hNN ⊢;unfold zBB zse zek;refine must rfl (stB fun h0=>stI fun h1=>must rfl (stB fun h2=>stI fun h3=>stI fun h4=>stG fun h5=>must rfl (stB fun h6=>must rfl (stB fun h7=>must rfl (stB fun h8=>?_)))));have e1:=zu8 h2;have e3:ln a0.Out=8:=of_decide_eq_true h3;simp only [ln] at e1 e3;refine (zbF a0.Guests (fun i (t:Unit)=>((ln a0.Guests),(i:Int),a0.Pending,a0.Traps,a0.Own,a0.Guests,a0.Outer,a0.Out,a0.Dirty,a0.Outs,a0.Tables,())) _ (fun _ (x:Guest) (_:Unit) κ=>bif zdF x then κ () else some [AV.one (.b false)]) (fun (t:Unit)=>(iter (σ:=(Int×(Int×(Int×(Int×(Int×((List Slot)×((List (List Int))×((List Bool)×((List Guest)×((List Int)×((List Kept)×Unit)))))))))))) N (fun r4 s5=>(cond (ilt s5.2.1 s5.1) (cond (inb s5.2.1 (ln s5.2.2.2.2.2.1)) (cond zc6 (cond (cond (ieq (ix s5.2.2.2.2.2.1 s5.2.1 zQ).Page zcD.Page) (ieq (ix s5.2.2.2.2.2.1 s5.2.1 zQ).Rights zcD.Rights) false) (cond (inb s5.2.1 (ln s5.2.2.2.2.2.2.1)) (cond (zgY (ix s5.2.2.2.2.2.2.1 s5.2.1 [])) (cond (cond (zfP (ix s5.2.2.2.2.2.2.1 s5.2.1 [])) false true) (some [(.one (.b false))]) (r4 (s5.1,((zq .i64 s5.2.1 1),(s5.2.2.1,(s5.2.2.2.1,(s5.2.2.2.2.1,(s5.2.2.2.2.2.1,(s5.2.2.2.2.2.2.1,(s5.2.2.2.2.2.2.2.1,(s5.2.2.2.2.2.2.2.2.1,(s5.2.2.2.2.2.2.2.2.2.1,(s5.2.2.2.2.2.2.2.2.2.2.1,()))))))))))))) none) none) (cond (zdi (ix s5.2.2.2.2.2.1 s5.2.1 zQ).Rights 1) (cond (cond (zdM (ix s5.2.2.2.2.2.1 s5.2.1 zQ).Rights 1) false true) (some [(.one (.b false))]) (cond (inb s5.2.1 (ln s5.2.2.2.2.2.2.1)) (cond (igt (ln (ix s5.2.2.2.2.2.2.1 s5.2.1 [])) 0) (some [(.one (.b false))]) (r4 (s5.1,((zq .i64 s5.2.1 1),(s5.2.2.1,(s5.2.2.2.1,(s5.2.2.2.2.1,(s5.2.2.2.2.2.1,(s5.2.2.2.2.2.2.1,(s5.2.2.2.2.2.2.2.1,(s5.2.2.2.2.2.2.2.2.1,(s5.2.2.2.2.2.2.2.2.2.1,(s5.2.2.2.2.2.2.2.2.2.2.1,()))))))))))))) none)) none)) none) none) (some [(.one (.b true))]))) ((ln a0.Outer),(0,(a0.Pending,(a0.Traps,(a0.Own,(a0.Outer,(a0.Out,(a0.Dirty,(a0.Guests,(a0.Outs,(a0.Tables,()))))))))))))) (fun i hi t rec=>?_) (fun t rec=>?_) _ () (hNN hg)).trans ?_
 ·simp only [zbu hi,zbh hi,zbq hi,zbd hi hg,cT];simp only [zky,zju,cT];cases zdF a0.Guests[i]<;>rfl
 ·simp only [zbk,cF]
 rw [zgr zdF];cases a0.Guests.all zdF
 ·rfl
 simp only [cT];refine (zbF a0.Outer (fun j (u:Unit)=>((ln a0.Outer),(j:Int),a0.Pending,a0.Traps,a0.Own,a0.Outer,a0.Out,a0.Dirty,a0.Guests,a0.Outs,a0.Tables,())) _ (fun j (_:Slot) (_:Unit) κ=>bif fits a0 j then κ () else some [AV.one (.b false)]) (fun (u:Unit)=>(some [(.one (.b true))])) (fun j hj u rec1=>?_) (fun u rec1=>?_) _ () (hNN ho)).trans ?_
 ·simp only [zbu hj,zbh hj,zbq hj,zbd hj ho,cT];have hj2:j<a0.Out.length:=by omega
  simp only [zc6,zcD,zgY,zfP,zdi,zdM,zbh hj2,zJc,cT];unfold fits zCR;simp only [zbq hj,zef];cases ieq a0.Outer[j].Page noSlot.Page<;>cases ieq a0.Outer[j].Rights noSlot.Rights<;>cases enough a0.Outer[j].Rights 1<;>cases ile (ln (ix a0.Out (j:Int) [])) 0<;>cases zc4 (ix a0.Out (j:Int) [])<;>rfl
 ·simp only [zbk,cF]
 rw [zyb (fun j (_:Unit) κ=>bif fits a0 j then κ () else some [AV.one (.b false)]),zC9 (fits a0),show a0.Outer.length=8 by omega]
 cases zs3 (fits a0) 8 0<;>rfl
theorem zNR:Holds Tryz.prog 120 zwJ:=zo zFy zD zu zA (zC (by kernel_rfl)) fun avs rs hb h=>by
 unfold zwJ at h;split at h
 ·obtain ⟨hc,rfl⟩:=zl h;exact (fin1 zU6 zW6 hc hb :)
 ·cases h
@[simp,reducible] def zpu (m:Mon):Bool:=true
@[simp,reducible] def zsd (m:Mon):Bool:=zek m
def zwH:List AV->Option (Bool×List AV)
 | [.agg [.s .slot c,.s (.sl .int) d,.s .bool e,.s .guest f,.s .int g,.i .i64 h,.i .i64 j,.s .kept k,.i .i64 l]]=>some ((zpu (⟨c,d,e,f,g,h,j,k,l⟩:Mon)),[.one (.b (zsd (⟨c,d,e,f,g,h,j,k,l⟩:Mon)))])
 | _=>none
def zCs (N:Nat)(a0:Mon):Option Ans :=
 (cond (zZ (ln a0.Guests) 1 2) (cond (cond (zbf (ln a0.Guests) 1 2) false true) (some [(.one (.b false))]) (cond (ine (ln a0.Tables) (ln a0.Guests)) (some [(.one (.b false))]) (cond (zkC a0.Outer 8 12) (cond (cond (zg1 a0.Outer 8 12) false true) (some [(.one (.b false))]) (cond (ine (ln a0.Out) 8) (some [(.one (.b false))]) (cond (ine (ln a0.Dirty) 8) (some [(.one (.b false))]) (iter (σ:=(Int×(Int×(Int×(Int×((List Slot)×((List (List Int))×((List Bool)×((List Guest)×((List Int)×((List Kept)×Unit))))))))))) N (fun r2 s3=>(cond (ilt s3.1 (ln s3.2.2.2.2.2.2.2.1)) (cond (inb s3.1 (ln s3.2.2.2.2.2.2.2.1)) (cond (zoJ (ix s3.2.2.2.2.2.2.2.1 s3.1 zi)) (cond (cond (zlC (ix s3.2.2.2.2.2.2.2.1 s3.1 zi)) false true) (some [(.one (.b false))]) (r2 ((zq .i64 s3.1 1),(s3.2.1,(s3.2.2.1,(s3.2.2.2.1,(s3.2.2.2.2.1,(s3.2.2.2.2.2.1,(s3.2.2.2.2.2.2.1,(s3.2.2.2.2.2.2.2.1,(s3.2.2.2.2.2.2.2.2.1,(s3.2.2.2.2.2.2.2.2.2.1,())))))))))))) none) none) (iter (σ:=(Int×(Int×(Int×(Int×((List Slot)×((List (List Int))×((List Bool)×((List Guest)×((List Int)×((List Kept)×Unit))))))))))) N (fun r4 s5=>(cond (ilt s5.1 8) (cond (inb s5.1 (ln s5.2.2.2.2.1)) (cond zc5 (cond (cond (cond (ieq (ix s5.2.2.2.2.1 s5.1 zQ).Page zbZ.Page) (ieq (ix s5.2.2.2.2.1 s5.1 zQ).Rights zbZ.Rights) false) false true) (cond (inb s5.1 (ln s5.2.2.2.2.2.1)) (cond (igt (ln (ix s5.2.2.2.2.2.1 s5.1 [])) 0) (some [(.one (.b false))]) (cond (inb s5.1 (ln s5.2.2.2.2.1)) (cond (zf1 (ix s5.2.2.2.2.1 s5.1 zQ).Rights 1) (cond (cond (zgF (ix s5.2.2.2.2.1 s5.1 zQ).Rights 1) false true) (some [(.one (.b false))]) (cond (cond (cond (cond (ieq (ix s5.2.2.2.2.1 s5.1 zQ).Page zbZ.Page) (ieq (ix s5.2.2.2.2.1 s5.1 zQ).Rights zbZ.Rights) false) false true) false true) (cond (inb s5.1 (ln s5.2.2.2.2.2.1)) (cond (zfm (ix s5.2.2.2.2.2.1 s5.1 [])) (cond (cond (zeP (ix s5.2.2.2.2.2.1 s5.1 [])) false true) (some [(.one (.b false))]) (r4 ((zq .i64 s5.1 1),(s5.2.1,(s5.2.2.1,(s5.2.2.2.1,(s5.2.2.2.2.1,(s5.2.2.2.2.2.1,(s5.2.2.2.2.2.2.1,(s5.2.2.2.2.2.2.2.1,(s5.2.2.2.2.2.2.2.2.1,(s5.2.2.2.2.2.2.2.2.2.1,())))))))))))) none) none) (r4 ((zq .i64 s5.1 1),(s5.2.1,(s5.2.2.1,(s5.2.2.2.1,(s5.2.2.2.2.1,(s5.2.2.2.2.2.1,(s5.2.2.2.2.2.2.1,(s5.2.2.2.2.2.2.2.1,(s5.2.2.2.2.2.2.2.2.1,(s5.2.2.2.2.2.2.2.2.2.1,()))))))))))))) none) none)) none) (cond (cond (cond (cond (ieq (ix s5.2.2.2.2.1 s5.1 zQ).Page zbZ.Page) (ieq (ix s5.2.2.2.2.1 s5.1 zQ).Rights zbZ.Rights) false) false true) false true) (cond (inb s5.1 (ln s5.2.2.2.2.2.1)) (cond (zfm (ix s5.2.2.2.2.2.1 s5.1 [])) (cond (cond (zeP (ix s5.2.2.2.2.2.1 s5.1 [])) false true) (some [(.one (.b false))]) (r4 ((zq .i64 s5.1 1),(s5.2.1,(s5.2.2.1,(s5.2.2.2.1,(s5.2.2.2.2.1,(s5.2.2.2.2.2.1,(s5.2.2.2.2.2.2.1,(s5.2.2.2.2.2.2.2.1,(s5.2.2.2.2.2.2.2.2.1,(s5.2.2.2.2.2.2.2.2.2.1,())))))))))))) none) none) (r4 ((zq .i64 s5.1 1),(s5.2.1,(s5.2.2.1,(s5.2.2.2.1,(s5.2.2.2.2.1,(s5.2.2.2.2.2.1,(s5.2.2.2.2.2.2.1,(s5.2.2.2.2.2.2.2.1,(s5.2.2.2.2.2.2.2.2.1,(s5.2.2.2.2.2.2.2.2.2.1,()))))))))))))) none) none) (cond (ile (ln s5.2.2.2.2.2.2.2.2.1) 40) (cond (zg7 s5.2.1) (cond (zgC s5.2.1) (cond (zZ s5.2.2.1 0 3) (cond (zbf s5.2.2.1 0 3) (cond (zZ s5.2.2.2.1 0 1000000000) (some [(.one (.b (zbf s5.2.2.2.1 0 1000000000)))]) none) (some [(.one (.b false))])) none) (some [(.one (.b false))])) none) (some [(.one (.b false))])))) (0,(s3.2.1,(s3.2.2.1,(s3.2.2.2.1,(s3.2.2.2.2.1,(s3.2.2.2.2.2.1,(s3.2.2.2.2.2.2.1,(s3.2.2.2.2.2.2.2.1,(s3.2.2.2.2.2.2.2.2.1,(s3.2.2.2.2.2.2.2.2.2.1,()))))))))))))) (0,(a0.Pending,(a0.Traps,(a0.Own,(a0.Outer,(a0.Out,(a0.Dirty,(a0.Guests,(a0.Outs,(a0.Tables,())))))))))))))) none))) none)
def zUI:FuncId->Nat->Option Tmpl:=zB [(153,0,{ n:=115,tm:=[(1,.lp 0 0),(3,.i .i64)],lo:=[(0,[.sl 0 [],.sl 1 [],.sl 2 [],.sl 3 [],.sl 4 [],.i .i64,.i .i64,.sl 5 [],.i .i64])],ro:=[(0,.slot,false),(1,(.sl .int),false),(2,.bool,false),(3,.guest,false),(4,.int,false),(5,.kept,false)] }),(153,2,{ n:=115,tm:=[(1,.lp 0 0),(4,.i .i64)],lo:=[(0,[.sl 0 [],.sl 1 [],.sl 2 [],.sl 3 [],.sl 4 [],.i .i64,.i .i64,.sl 5 [],.i .i64])],ro:=[(0,.slot,false),(1,(.sl .int),false),(2,.bool,false),(3,.guest,false),(4,.int,false),(5,.kept,false)] })]
theorem zXC (N:Nat)(a0:Mon):evalFn (cQ zOZ zV zK zO) zUI N 12 153 [.agg (Ty.cells .mon a0)]=zCs N a0:=by kernel_rfl
theorem zT6 (a0:Mon)(hb:zG big [.agg (Ty.cells .mon a0)])(hc:(zpu a0)=true):∃N,zCs N a0=some [.one (.b (zsd a0))]:=by
 have hg:a0.Guests.length<=big:=((zbt hb).1 (.s .guest a0.Guests) (by simp [AV.cvs,Ty.cells])).len
 refine ⟨NN,?_⟩;have hNN:∀{n:Nat},n<=big->n<NN:=fun h=>zb4 h;generalize NN=N at hNN ⊢;unfold zCs zsd zek;refine must rfl (stB fun h0=>stI fun h1=>must rfl (stB fun h2=>stI fun h3=>stI fun h4=>?_));have e1:=zu8 h2;have e3:ln a0.Out=8:=of_decide_eq_true h3;simp only [ln] at e1 e3;refine (zbF a0.Guests (fun i (t:Unit)=>((i:Int),a0.Pending,a0.Traps,a0.Own,a0.Outer,a0.Out,a0.Dirty,a0.Guests,a0.Outs,a0.Tables,())) _ (fun _ (x:Guest) (_:Unit) κ=>bif zdF x then κ () else some [AV.one (.b false)]) (fun (t:Unit)=>(iter (σ:=(Int×(Int×(Int×(Int×((List Slot)×((List (List Int))×((List Bool)×((List Guest)×((List Int)×((List Kept)×Unit))))))))))) N (fun r4 s5=>(cond (ilt s5.1 8) (cond (inb s5.1 (ln s5.2.2.2.2.1)) (cond zc5 (cond (cond (cond (ieq (ix s5.2.2.2.2.1 s5.1 zQ).Page zbZ.Page) (ieq (ix s5.2.2.2.2.1 s5.1 zQ).Rights zbZ.Rights) false) false true) (cond (inb s5.1 (ln s5.2.2.2.2.2.1)) (cond (igt (ln (ix s5.2.2.2.2.2.1 s5.1 [])) 0) (some [(.one (.b false))]) (cond (inb s5.1 (ln s5.2.2.2.2.1)) (cond (zf1 (ix s5.2.2.2.2.1 s5.1 zQ).Rights 1) (cond (cond (zgF (ix s5.2.2.2.2.1 s5.1 zQ).Rights 1) false true) (some [(.one (.b false))]) (cond (cond (cond (cond (ieq (ix s5.2.2.2.2.1 s5.1 zQ).Page zbZ.Page) (ieq (ix s5.2.2.2.2.1 s5.1 zQ).Rights zbZ.Rights) false) false true) false true) (cond (inb s5.1 (ln s5.2.2.2.2.2.1)) (cond (zfm (ix s5.2.2.2.2.2.1 s5.1 [])) (cond (cond (zeP (ix s5.2.2.2.2.2.1 s5.1 [])) false true) (some [(.one (.b false))]) (r4 ((zq .i64 s5.1 1),(s5.2.1,(s5.2.2.1,(s5.2.2.2.1,(s5.2.2.2.2.1,(s5.2.2.2.2.2.1,(s5.2.2.2.2.2.2.1,(s5.2.2.2.2.2.2.2.1,(s5.2.2.2.2.2.2.2.2.1,(s5.2.2.2.2.2.2.2.2.2.1,())))))))))))) none) none) (r4 ((zq .i64 s5.1 1),(s5.2.1,(s5.2.2.1,(s5.2.2.2.1,(s5.2.2.2.2.1,(s5.2.2.2.2.2.1,(s5.2.2.2.2.2.2.1,(s5.2.2.2.2.2.2.2.1,(s5.2.2.2.2.2.2.2.2.1,(s5.2.2.2.2.2.2.2.2.2.1,()))))))))))))) none) none)) none) (cond (cond (cond (cond (ieq (ix s5.2.2.2.2.1 s5.1 zQ).Page zbZ.Page) (ieq (ix s5.2.2.2.2.1 s5.1 zQ).Rights zbZ.Rights) false) false true) false true) (cond (inb s5.1 (ln s5.2.2.2.2.2.1)) (cond (zfm (ix s5.2.2.2.2.2.1 s5.1 [])) (cond (cond (zeP (ix s5.2.2.2.2.2.1 s5.1 [])) false true) (some [(.one (.b false))]) (r4 ((zq .i64 s5.1 1),(s5.2.1,(s5.2.2.1,(s5.2.2.2.1,(s5.2.2.2.2.1,(s5.2.2.2.2.2.1,(s5.2.2.2.2.2.2.1,(s5.2.2.2.2.2.2.2.1,(s5.2.2.2.2.2.2.2.2.1,(s5.2.2.2.2.2.2.2.2.2.1,())))))))))))) none) none) (r4 ((zq .i64 s5.1 1),(s5.2.1,(s5.2.2.1,(s5.2.2.2.1,(s5.2.2.2.2.1,(s5.2.2.2.2.2.1,(s5.2.2.2.2.2.2.1,(s5.2.2.2.2.2.2.2.1,(s5.2.2.2.2.2.2.2.2.1,(s5.2.2.2.2.2.2.2.2.2.1,()))))))))))))) none) none) (cond (ile (ln s5.2.2.2.2.2.2.2.2.1) 40) (cond (zg7 s5.2.1) (cond (zgC s5.2.1) (cond (zZ s5.2.2.1 0 3) (cond (zbf s5.2.2.1 0 3) (cond (zZ s5.2.2.2.1 0 1000000000) (some [(.one (.b (zbf s5.2.2.2.1 0 1000000000)))]) none) (some [(.one (.b false))])) none) (some [(.one (.b false))])) none) (some [(.one (.b false))])))) (0,(a0.Pending,(a0.Traps,(a0.Own,(a0.Outer,(a0.Out,(a0.Dirty,(a0.Guests,(a0.Outs,(a0.Tables,())))))))))))) (fun i hi t rec=>?_) (fun t rec=>?_) _ () (hNN hg)).trans ?_
 ·simp only [zbu hi,zbh hi,zbq hi,zbd hi hg,cT];simp only [zoJ,zlC,cT];cases zdF a0.Guests[i]<;>rfl
 ·simp only [zbk,cF]
 rw [zgr zdF];cases hq:a0.Guests.all zdF
 ·simp only [cF];cases ile (ln a0.Outs) 40<;>cases zgx a0.Pending<;>cases win a0.Traps 0 3<;>cases win a0.Own 0 1000000000<;>rfl
 simp only [cT];refine (zz8 8 (fun j (u:Unit)=>((j:Int),a0.Pending,a0.Traps,a0.Own,a0.Outer,a0.Out,a0.Dirty,a0.Guests,a0.Outs,a0.Tables,())) _ (fun j (_:Unit) κ=>bif fits a0 j then κ () else some [AV.one (.b false)]) (fun (u:Unit)=>(cond (ile (ln a0.Outs) 40) (cond (zg7 a0.Pending) (cond (zgC a0.Pending) (cond (zZ a0.Traps 0 3) (cond (zbf a0.Traps 0 3) (cond (zZ a0.Own 0 1000000000) (some [(.one (.b (zbf a0.Own 0 1000000000)))]) none) (some [(.one (.b false))])) none) (some [(.one (.b false))])) none) (some [(.one (.b false))]))) (fun j hj u rec1=>?_) (fun u rec1=>?_) _ () (hNN (by decide))).trans ?_
 ·simp only [show ilt (j:Int) 8=true from decide_eq_true (by omega),zbd hj (show 8<=big by decide),cT]
  have hj1:j<a0.Outer.length:=by omega
  have hj2:j<a0.Out.length:=by omega
  simp only [zc5,zbZ,zfm,zeP,zf1,zgF,zbh hj1,zbh hj2,zJc,cT];unfold fits zCR;simp only [zbq hj1,zef];cases ieq a0.Outer[j].Page noSlot.Page<;>cases ieq a0.Outer[j].Rights noSlot.Rights<;>cases enough a0.Outer[j].Rights 1<;>cases ile (ln (ix a0.Out (j:Int) [])) 0<;>cases zc4 (ix a0.Out (j:Int) [])<;>rfl
 ·simp only [show ilt (((8:Nat)):Int) 8=false from decide_eq_false (by omega),cF]
  rfl
 rw [zC9 (fits a0)];simp only [zg7,zgC,zZ,z0T,cT];cases zs3 (fits a0) 8 0<;>cases ile (ln a0.Outs) 40<;>cases zgx a0.Pending<;>cases win a0.Traps 0 3<;>cases win a0.Own 0 1000000000<;>rfl
theorem zMS:Holds Tryz.prog 153 zwH:=zo zFy zD zu zA (zC (by kernel_rfl)) fun avs rs hb h=>by
 unfold zwH at h;split at h
 ·obtain ⟨hc,rfl⟩:=zl h;exact (fin1 zT6 zXC hc hb :)
 ·cases h
def zO9:zbP:=[(153,zwH),(120,zwJ)]++zOZ
theorem zF1:zbv zO9:=zn zMS (zn zNR zFy)
def zhR:List Slot->List Bool->Option (List Bool)
 | [],u=>some u
 | s :: l,u=>bif ilt s.Page 0 then zhR l u else (cond (ix u s.Page false) none (zhR l (up u s.Page true)))
def zkA:List Mon->List Bool->Bool
 | [],_=>true
 | m :: l,u=>bif zek m then (match zhR m.Outer u with|some u'=>zkA l u'|none=>false) else false
def zdd (h:Host):Bool:=bif zh5 h.Memory 12 then (cond (win (ln h.Mons) 1 3) (cond (zCL h.Buffer) (cond (zCL h.IoBuffer) (zkA h.Mons (rp 12 false)) false) false) false) else false
theorem zlT:∀(l:List Slot) (u u':List Bool),zhR l u=some u'->u'.length=u.length
 | [],u,u',h=>by cases h;rfl
 | s :: l,u,u',h=>by
  simp only [zhR] at h;cases h1:ilt s.Page 0
  ·rw [h1] at h;cases h2:ix u s.Page false
   ·rw [h2] at h;simpa using zlT l _ u' h
   ·rw [h2] at h;cases h
  ·rw [h1] at h;exact zlT l u u' h
theorem zCQ {t:List Slot}{n:Int}(h:zdI t n 12=true):∀s∈t,s.Page<12:=by
 intro s hs;unfold zdI at h;cases h1:t.all (fun s=>zeK s 12)
 ·rw [h1] at h;cases h
 ·have:=List.all_eq_true.1 h1 s hs;unfold zeK at this;cases h2:zef s noSlot
  ·rw [h2] at this;simp only [cF,show igt 12 0=true from rfl,cT] at this
   cases h3:win s.Page 0 (wsub .i64 12 1)
   ·rw [h3] at this;cases this
   ·have:=(zfU.1 h3).2;rw [show wsub .i64 12 1=11 from rfl] at this
    omega
  ·unfold zef at h2;rw [Bool.and_eq_true] at h2;have h2:s.Page = -1:=of_decide_eq_true h2.1;omega
theorem zPo {s:Slot}{u:List Bool}(h:s.Page<12)(hu:u.length=12)(h0:ilt s.Page 0=false):inb s.Page (ln u)=true:=by
 have:=of_decide_eq_false h0;exact decide_eq_true (by simp only [ln];omega)
def zsD {ρ:Type}(r:Option ρ)(y:Slot)(u:List Bool)(κ:List Bool->Option ρ):Option ρ:=bif ilt y.Page 0 then κ u else (cond (inb y.Page (ln u)) (cond (ix u y.Page false) r (cond (inb y.Page (ln u)) (share (up u y.Page true) (fun x6=>κ x6)) none)) none)
theorem zyG {ρ:Type}(r:Option ρ)(K:List Bool->Option ρ):∀(l:List Slot) (i:Nat) (u:List Bool),(∀s∈l,s.Page<12)->u.length=12 ->
 goL (fun _ y u κ=>zsD r y u κ) K l i u=match zhR l u with|some u'=>K u'|none=>r
 | [],_,_,_,_=>rfl
 | s :: l,i,u,h,hu=>by
  simp only [goL,zhR,zsD];cases h1:ilt s.Page 0
  ·have hh:=zPo (h s (by simp)) hu h1
   rw [hh];cases ix u s.Page false
   ·simp only [cF,cT,share];exact zyG r K l (i+1) _ (fun s hs=>h s (by simp [hs])) (by simpa using hu)
   ·rfl
  ·simp only [cT];exact zyG r K l (i+1) u (fun s hs=>h s (by simp [hs])) hu
def zXJ {ρ:Type}(r:Option ρ)(m:Mon)(u:List Bool)(κ:List Bool->Option ρ):Option ρ:=bif zek m then goL (fun _ y u κ=>zsD r y u κ) κ m.Outer 0 u else r
theorem zdm {c x:Bool}:((cond c x false)=true)↔c=true/\x=true:=by
 cases c<;>simp
theorem zkJ {m:Mon}(h:zek m=true):zdI m.Outer 8 12=true:=by
 unfold zek at h;simp only [zdm] at h;exact h.2.2.1
theorem zRV {K:Bool->Option Ans}(k:List Bool->Option Ans)(hk:∀u,k u=K true):∀(l:List Mon) (i:Nat) (u:List Bool),u.length=12 ->
 goL (fun _ m u κ=>zXJ (K false) m u κ) k l i u=K (zkA l u)
 | [],_,u,_=>hk u
 | m :: l,i,u,hu=>by
  simp only [goL,zkA,zXJ];cases h1:zek m
  ·rfl
  ·simp only [cT];have ht:=zkJ h1;rw [zyG _ _ _ _ _ (zCQ ht) hu];cases h2:zhR m.Outer u with
   | none=>rfl
   | some u'=>exact zRV k hk l (i+1) u' ((zlT _ _ _ h2).trans hu)
@[simp,reducible] def zrz (h:Host):Bool:=true
@[simp,reducible] def zuV (h:Host):Bool:=zdd h
def zsy:List AV->Option (Bool×List AV)
 | [.agg [.s (.sl .int) c,.s .mon d,.s .entry e,.s .entry f]]=>some ((zrz (⟨c,d,e,f⟩:Host)),[.one (.b (zuV (⟨c,d,e,f⟩:Host)))])
 | _=>none
def zz7 (N:Nat)(a0:Host):Option Ans :=
 (cond (zpz a0.Memory 12) (cond (cond (zjY a0.Memory 12) false true) (some [(.one (.b false))]) (cond (zbn (ln a0.Mons) 1 3) (cond (cond (zbx (ln a0.Mons) 1 3) false true) (some [(.one (.b false))]) (cond (zm8 a0.Buffer) (cond (cond (zmr a0.Buffer) false true) (some [(.one (.b false))]) (cond (zm8 a0.IoBuffer) (cond (cond (zmr a0.IoBuffer) false true) (some [(.one (.b false))]) (cond (cond (few 12) (ieq 12 12) false) (iter (σ:=(Int×(Int×((List Bool)×((List Mon)×Unit))))) N (fun r2 s3=>(cond (ilt s3.2.1 s3.1) (cond (inb s3.2.1 (ln s3.2.2.2.1)) (cond (zph (ix s3.2.2.2.1 s3.2.1 zf)) (cond (cond (zse (ix s3.2.2.2.1 s3.2.1 zf)) false true) (some [(.one (.b false))]) (iter (σ:=(Int×(Int×(Int×(Int×(Int×((List Bool)×((List Mon)×Unit)))))))) N (fun r4 s5=>(cond (ilt s5.2.2.2.2.1 s5.2.2.2.1) (cond (inb s5.2.2.2.2.1 (ln (ix s5.2.2.2.2.2.2.1 s5.2.2.1 zf).Outer)) (cond (ilt (ix (ix s5.2.2.2.2.2.2.1 s5.2.2.1 zf).Outer s5.2.2.2.2.1 zQ).Page 0) (r4 (s5.1,(s5.2.1,(s5.2.2.1,(s5.2.2.2.1,((zq .i64 s5.2.2.2.2.1 1),(s5.2.2.2.2.2.1,(s5.2.2.2.2.2.2.1,())))))))) (cond (inb (ix (ix s5.2.2.2.2.2.2.1 s5.2.2.1 zf).Outer s5.2.2.2.2.1 zQ).Page (ln s5.2.2.2.2.2.1)) (cond (ix s5.2.2.2.2.2.1 (ix (ix s5.2.2.2.2.2.2.1 s5.2.2.1 zf).Outer s5.2.2.2.2.1 zQ).Page false) (some [(.one (.b false))]) (cond (inb (ix (ix s5.2.2.2.2.2.2.1 s5.2.2.1 zf).Outer s5.2.2.2.2.1 zQ).Page (ln s5.2.2.2.2.2.1)) (share (up s5.2.2.2.2.2.1 (ix (ix s5.2.2.2.2.2.2.1 s5.2.2.1 zf).Outer s5.2.2.2.2.1 zQ).Page true) (fun x6=>(r4 (s5.1,(s5.2.1,(s5.2.2.1,(s5.2.2.2.1,((zq .i64 s5.2.2.2.2.1 1),(x6,(s5.2.2.2.2.2.2.1,())))))))))) none)) none)) none) (r2 (s5.1,((zq .i64 s5.2.1 1),(s5.2.2.2.2.2.1,(s5.2.2.2.2.2.2.1,()))))))) (s3.1,(s3.2.1,(s3.2.1,((ln (ix s3.2.2.2.1 s3.2.1 zf).Outer),(0,(s3.2.2.1,(s3.2.2.2.1,()))))))))) none) none) (some [(.one (.b true))]))) ((ln a0.Mons),(0,((rp 12 false),(a0.Mons,()))))) none)) none)) none)) none)) none)
def zQ2:FuncId->Nat->Option Tmpl:=zB [(51,0,{ n:=63,tm:=[(3,.sl 0 []),(33,.sl 1 []),(34,.i .i64),(35,.i .i64)],lo:=[],ro:=[(0,.bool,true),(1,.mon,false)] }),(51,2,{ n:=63,tm:=[(3,.sl 0 []),(33,.sl 1 []),(34,.i .i64),(35,.i .i64),(43,.sl 1 [0]),(44,.i .i64),(45,.i .i64)],lo:=[],ro:=[(0,.bool,true),(1,.mon,false)] })]
theorem zT7 (N:Nat)(a0:Host):evalFn (cQ zO9 zV zK zO) zQ2 N 12 51 [.agg (zx a0)]=zz7 N a0:=by kernel_rfl
theorem zQU (a0:Host)(hb:zG big [.agg (zx a0)])(hc:(zrz a0)=true):∃N,zz7 N a0=some [.one (.b (zuV a0))]:=by
 have hm:CVB big (.s .mon a0.Mons):=(zbt hb).1 _ (by simp [AV.cvs,zx])
 have hl:=hm.len;refine ⟨NN,?_⟩;have hNN:∀{n:Nat},n<=big->n<NN:=fun h=>zb4 h;generalize NN=N at hNN ⊢;unfold zz7 zuV zdd;refine must rfl (stB fun h0=>must rfl (stB fun h1=>must rfl (stB fun h2=>must rfl (stB fun h3=>must rfl ?_))));refine (zbF a0.Mons (fun i (t:(List Bool))=>((ln a0.Mons),(i:Int),t,a0.Mons,())) _ (fun _ (x:Mon) (u:List Bool) κ=>zXJ (some [AV.one (.b false)]) x u κ) (fun (t:(List Bool))=>(some [(.one (.b true))])) (fun i hi t rec=>?_) (fun t rec=>?_) _ ((rp 12 false)) (hNN hl)).trans ?_
 ·simp only [zbu hi,zbh hi,zbq hi,zbd hi hl,cT];unfold zXJ;cases h4:zek a0.Mons[i]
  ·simp only [zph,zse,h4,cT,cF]
  simp only [zph,zse,h4,cT,cF];have ho:a0.Mons[i].Outer.length<=big:=(hm.inv.2 _ (List.getElem_mem hi) (.s .slot _) (by simp [Ty.cells])).len
  refine (zbF a0.Mons[i].Outer (fun j (u:(List Bool))=>((ln a0.Mons),(i:Int),(i:Int),(ln a0.Mons[i].Outer),(j:Int),u,a0.Mons,())) _ (fun _ (y:Slot) (u:List Bool) κ=>zsD (some [AV.one (.b false)]) y u κ) (fun (u:(List Bool))=>(rec ((ln a0.Mons),((((i+1:Nat)):Int),(u,(a0.Mons,())))))) (fun j hj u rec1=>?_) (fun u rec1=>?_) _ (t) (hNN ho)).trans ?_
  ·simp only [zbu hj,zbh hj,zbq hj,zbd hj ho,cT,zbh hi,zbq hi,zbd hi hl];rfl
  ·simp only [zbk,cF,zbh hi,zbq hi,zbd hi hl]
  rfl
 ·simp only [zbk,cF]
 exact zRV (K:=fun b=>some [AV.one (.b b)]) _ (fun _=>rfl) _ _ _ rfl
theorem zJL:Holds Tryz.prog 51 zsy:=zo zF1 zD zu zA (zC (by kernel_rfl)) fun avs rs hb h=>by
 unfold zsy at h;split at h
 ·obtain ⟨hc,rfl⟩:=zl h;exact (fin1 zQU zT7 hc hb :)
 ·cases h
@[simp,reducible] def zru (h:Host):Bool:=true
@[simp,reducible] def znT (h:Host):Bool:=zdd h
theorem zGl {ρ:Type}(r:Option ρ)(k:List Bool->Option ρ)(m:Mon):∀(n i:Nat) (u:List Bool),(∀s∈m.Outer,s.Page<12)->u.length=12->i+n=m.Outer.length ->
 goN (fun j u κ=>bif inb (j:Int) (ln m.Outer) then zsD r (ix m.Outer (j:Int) zQ) u κ else none) k n i u=goL (fun _ y u κ=>zsD r y u κ) k (m.Outer.drop i) i u
 | 0,i,u,_,_,h=>by
  have:i=m.Outer.length:=by omega
  subst this;simp [goN,goL]
 | n+1,i,u,hs,hu,h=>by
  have hi:i<m.Outer.length:=by omega
  rw [List.drop_eq_getElem_cons hi];simp only [goN,goL,zbh hi,zbq hi,cT,zsD];cases h1:ilt m.Outer[i].Page 0
  ·rw [zPo (hs _ (List.getElem_mem hi)) hu h1];cases ix u m.Outer[i].Page false
   ·simp only [cF,cT,share];exact zGl r k m n (i+1) _ hs (by simpa using hu) (by omega)
   ·rfl
  ·simp only [cT];exact zGl r k m n (i+1) u hs hu (by omega)
def zsG:List AV->Option (Bool×List AV)
 | [.agg [.s (.sl .int) c,.s .mon d,.s .entry e,.s .entry f]]=>some ((zru (⟨c,d,e,f⟩:Host)),[.one (.b (znT (⟨c,d,e,f⟩:Host)))])
 | _=>none
def zzv (N:Nat)(a0:Host):Option Ans :=
 (cond (zBS a0.Memory 12) (cond (cond (zob a0.Memory 12) false true) (some [(.one (.b false))]) (cond (zZ (ln a0.Mons) 1 3) (cond (cond (zbf (ln a0.Mons) 1 3) false true) (some [(.one (.b false))]) (cond (zmh a0.Buffer) (cond (cond (zl8 a0.Buffer) false true) (some [(.one (.b false))]) (cond (zmh a0.IoBuffer) (cond (cond (zl8 a0.IoBuffer) false true) (some [(.one (.b false))]) (cond (cond (few 12) (ieq 12 12) false) (iter (σ:=(Int×((List Bool)×((List (List Int))×((List Mon)×((List Entry)×((List Entry)×Unit))))))) N (fun r2 s3=>(cond (ilt s3.1 (ln s3.2.2.2.1)) (cond (inb s3.1 (ln s3.2.2.2.1)) (cond (zpu (ix s3.2.2.2.1 s3.1 zf)) (cond (cond (zsd (ix s3.2.2.2.1 s3.1 zf)) false true) (some [(.one (.b false))]) (iter (σ:=(Int×(Int×((List Bool)×((List (List Int))×((List Mon)×((List Entry)×((List Entry)×Unit)))))))) N (fun r4 s5=>(cond (ilt s5.2.1 8) (cond (inb s5.1 (ln s5.2.2.2.2.1)) (cond (inb s5.2.1 (ln (ix s5.2.2.2.2.1 s5.1 zf).Outer)) (cond (ige (ix (ix s5.2.2.2.2.1 s5.1 zf).Outer s5.2.1 zQ).Page 0) (cond (inb (ix (ix s5.2.2.2.2.1 s5.1 zf).Outer s5.2.1 zQ).Page (ln s5.2.2.1)) (cond (ix s5.2.2.1 (ix (ix s5.2.2.2.2.1 s5.1 zf).Outer s5.2.1 zQ).Page false) (some [(.one (.b false))]) (cond (ige (ix (ix s5.2.2.2.2.1 s5.1 zf).Outer s5.2.1 zQ).Page 0) (cond (inb (ix (ix s5.2.2.2.2.1 s5.1 zf).Outer s5.2.1 zQ).Page (ln s5.2.2.1)) (share (up s5.2.2.1 (ix (ix s5.2.2.2.2.1 s5.1 zf).Outer s5.2.1 zQ).Page true) (fun x6=>(r4 (s5.1,((zq .i64 s5.2.1 1),(x6,(s5.2.2.2.1,(s5.2.2.2.2.1,(s5.2.2.2.2.2.1,(s5.2.2.2.2.2.2.1,())))))))))) none) (r4 (s5.1,((zq .i64 s5.2.1 1),(s5.2.2.1,(s5.2.2.2.1,(s5.2.2.2.2.1,(s5.2.2.2.2.2.1,(s5.2.2.2.2.2.2.1,())))))))))) none) (cond (ige (ix (ix s5.2.2.2.2.1 s5.1 zf).Outer s5.2.1 zQ).Page 0) (cond (inb (ix (ix s5.2.2.2.2.1 s5.1 zf).Outer s5.2.1 zQ).Page (ln s5.2.2.1)) (share (up s5.2.2.1 (ix (ix s5.2.2.2.2.1 s5.1 zf).Outer s5.2.1 zQ).Page true) (fun x6=>(r4 (s5.1,((zq .i64 s5.2.1 1),(x6,(s5.2.2.2.1,(s5.2.2.2.2.1,(s5.2.2.2.2.2.1,(s5.2.2.2.2.2.2.1,())))))))))) none) (r4 (s5.1,((zq .i64 s5.2.1 1),(s5.2.2.1,(s5.2.2.2.1,(s5.2.2.2.2.1,(s5.2.2.2.2.2.1,(s5.2.2.2.2.2.2.1,())))))))))) none) none) (r2 ((zq .i64 s5.1 1),(s5.2.2.1,(s5.2.2.2.1,(s5.2.2.2.2.1,(s5.2.2.2.2.2.1,(s5.2.2.2.2.2.2.1,()))))))))) (s3.1,(0,(s3.2.1,(s3.2.2.1,(s3.2.2.2.1,(s3.2.2.2.2.1,(s3.2.2.2.2.2.1,()))))))))) none) none) (some [(.one (.b true))]))) (0,((rp 12 false),(a0.Memory,(a0.Mons,(a0.Buffer,(a0.IoBuffer,()))))))) none)) none)) none)) none)) none)
def zSk:FuncId->Nat->Option Tmpl:=zB [(87,0,{ n:=72,tm:=[(1,.lp 0 0),(3,.sl 0 []),(4,.i .i64)],lo:=[(0,[.sl 1 [],.sl 2 [],.sl 3 [],.sl 4 []])],ro:=[(0,.bool,true),(1,(.sl .int),false),(2,.mon,false),(3,.entry,false),(4,.entry,false)] }),(87,2,{ n:=72,tm:=[(1,.lp 0 0),(3,.sl 0 []),(4,.i .i64),(5,.i .i64)],lo:=[(0,[.sl 1 [],.sl 2 [],.sl 3 [],.sl 4 []])],ro:=[(0,.bool,true),(1,(.sl .int),false),(2,.mon,false),(3,.entry,false),(4,.entry,false)] })]
theorem zTG (N:Nat)(a0:Host):evalFn (cQ zO9 zV zK zO) zSk N 12 87 [.agg (zx a0)]=zzv N a0:=by kernel_rfl
theorem zQH (a0:Host)(hb:zG big [.agg (zx a0)])(hc:(zru a0)=true):∃N,zzv N a0=some [.one (.b (znT a0))]:=by
 have hm:CVB big (.s .mon a0.Mons):=(zbt hb).1 _ (by simp [AV.cvs,zx])
 have hl:=hm.len;refine ⟨NN,?_⟩;have hNN:∀{n:Nat},n<=big->n<NN:=fun h=>zb4 h;generalize NN=N at hNN ⊢;unfold zzv znT zdd;refine must rfl (stB fun h0=>must rfl (stB fun h1=>must rfl (stB fun h2=>must rfl (stB fun h3=>must rfl ?_))));refine (zbF a0.Mons (fun i (t:(List Bool))=>((i:Int),t,a0.Memory,a0.Mons,a0.Buffer,a0.IoBuffer,())) _ (fun _ (x:Mon) (u:List Bool) κ=>bif zek x then goN (fun j u κ=>bif inb (j:Int) (ln x.Outer) then zsD (some [AV.one (.b false)]) (ix x.Outer (j:Int) zQ) u κ else none) κ 8 0 u else some [AV.one (.b false)]) (fun (t:(List Bool))=>(some [(.one (.b true))])) (fun i hi t rec=>?_) (fun t rec=>?_) _ ((rp 12 false)) (hNN hl)).trans ?_
 ·simp only [zbu hi,zbh hi,zbq hi,zbd hi hl,cT];cases h4:zek a0.Mons[i]
  ·simp only [zpu,zsd,h4,cT,cF]
  simp only [zpu,zsd,h4,cT,cF];refine (zz8 8 (fun j (u:(List Bool))=>((i:Int),(j:Int),u,a0.Memory,a0.Mons,a0.Buffer,a0.IoBuffer,())) _ (fun j (u:List Bool) κ=>bif inb (j:Int) (ln a0.Mons[i].Outer) then zsD (some [AV.one (.b false)]) (ix a0.Mons[i].Outer (j:Int) zQ) u κ else none) (fun (u:(List Bool))=>(rec ((((i+1:Nat)):Int),(u,(a0.Memory,(a0.Mons,(a0.Buffer,(a0.IoBuffer,())))))))) (fun j hj u rec1=>?_) (fun u rec1=>?_) _ (t) (hNN (by decide))).trans ?_
  ·simp only [show ilt (j:Int) 8=true from decide_eq_true (by omega),zbd hj (show 8<=big by decide),cT,zbh hi,zbq hi,zbd hi hl]
   unfold zsD;have e:ige (ix a0.Mons[i].Outer (j:Int) zQ).Page 0 = !ilt (ix a0.Mons[i].Outer (j:Int) zQ).Page 0:=by rw [z1e,Bool.not_not]
   simp only [e];cases ilt (ix a0.Mons[i].Outer (j:Int) zQ).Page 0<;>cases inb (j:Int) (ln a0.Mons[i].Outer)<;>cases inb (ix a0.Mons[i].Outer (j:Int) zQ).Page (ln u)<;>cases ix u (ix a0.Mons[i].Outer (j:Int) zQ).Page false<;>rfl
  ·simp only [show ilt (((8:Nat)):Int) 8=false from decide_eq_false (by omega),cF,zbh hi,zbq hi,zbd hi hl]
  rfl
 ·simp only [zbk,cF]
 have key:∀(l:List Mon) (i:Nat) (u:List Bool),u.length=12->goL (fun _ (x:Mon) (u:List Bool) κ=>bif zek x then goN (fun j u κ=>bif inb (j:Int) (ln x.Outer) then zsD (some [AV.one (.b false)]) (ix x.Outer (j:Int) zQ) u κ else none) κ 8 0 u else some [AV.one (.b false)]) (fun _=>some [AV.one (.b true)]) l i u=some [AV.one (.b (zkA l u))]:=by
  intro l
  induction l with
  | nil=>intro i u _;rfl
  | cons m l ih =>
   intro i u hu;simp only [goL,zkA];cases h1:zek m
   ·rfl
   ·have ht:=zkJ h1;have e8:0+8=m.Outer.length:=by have:=zu8 ht;simp only [ln] at this;omega
    simp only [cT];rw [zGl _ _ m 8 0 u (zCQ ht) hu e8,List.drop_zero,zyG _ _ _ _ _ (zCQ ht) hu];cases h2:zhR m.Outer u with
    | none=>rfl
    | some u'=>exact ih (i+1) u' ((zlT _ _ _ h2).trans hu)
 exact key _ _ _ rfl
theorem zKw:Holds Tryz.prog 87 zsG:=zo zF1 zD zu zA (zC (by kernel_rfl)) fun avs rs hb h=>by
 unfold zsG at h;split at h
 ·obtain ⟨hc,rfl⟩:=zl h;exact (fin1 zQH zTG hc hb :)
 ·cases h
def z0M:zbP:=[(87,zsG),(51,zsy)]++zO9
theorem zZ6:zbv z0M:=zn zKw (zn zJL zF1)
def zXn:zbP:=z0M
theorem zQs:∀f run,zy zXn f=some run->Holds Tryz.prog f run:=zZ6
def zeo (k:Kept)(p:Int):Bool:=bif hasB p (ln k.Known) then hasB p (ln k.Slots) else false
def zeM (k:Kept)(p:Int):Kept:=bif zeo k p then ⟨up k.Known p false,up k.Slots p noSlot⟩ else k
@[simp] theorem zG3 {k:Kept}{p:Int}(h:SmK k):SmK (zeM k p):=by
 unfold zeM;cases zeo k p
 ·exact h
 ·exact ⟨by simpa using h.1,by simpa using h.2⟩
theorem has_lt {p:Int}{n m:Int}(h:hasB p n=true):ilt p m=hasB p m:=by
 have h:=of_decide_eq_true h;unfold ilt hasB
 by_cases h1:p<m
 ·rw [decide_eq_true h1,decide_eq_true ⟨h.1,h1⟩]
 ·rw [decide_eq_false h1,decide_eq_false (by omega)]
@[simp,reducible] def znd (k:Kept)(p:Int):Bool:=pc (SmK k)
@[simp,reducible] def zhv (k:Kept)(p:Int):Bool:=zeo k p
def zsE:List AV->Option (Bool×List AV)
 | [.agg [.s .bool c,.s .slot d],.one (.i .i64 e)]=>some ((znd (⟨c,d⟩:Kept) e),[.one (.b (zhv (⟨c,d⟩:Kept) e))])
 | _=>none
def zzA (N:Nat)(a0:Kept)(a1:Int):Option Ans :=
 (cond (zZ a1 0 (wsub .i64 (ln a0.Known) 1)) (cond (zbf a1 0 (wsub .i64 (ln a0.Known) 1)) (some [(.one (.b (ilt a1 (ln a0.Slots))))]) (some [(.one (.b false))])) none)
theorem zUe (N:Nat)(a0:Kept)(a1:Int):evalFn (cQ zXn zV zK zO) (zB []) N 12 200 [.agg (Ty.cells .kept a0),.one (.i .i64 a1)]=zzA N a0 a1:=by kernel_rfl
theorem zQ9 (a0:Kept)(a1:Int)(hb:zG big [.agg (Ty.cells .kept a0),.one (.i .i64 a1)])(hc:(znd a0 a1)=true):∃N,zzA N a0 a1=some [.one (.b (zhv a0 a1))]:=by
 have hs:=zI.1 hc;refine ⟨0,?_⟩;unfold zzA zhv zeo;simp only [zZ,z0T,zr8 hs.1,cT];cases hh:hasB a1 (ln a0.Known)
 ·rfl
 ·simp only [cT,has_lt hh]
theorem zKr:Holds Tryz.prog 200 zsE:=zo zQs zD zu zA (zC (by kernel_rfl)) fun avs rs hb h=>by
 unfold zsE at h;split at h
 ·obtain ⟨hc,rfl⟩:=zl h;exact (fin2 zQ9 zUe hc hb :)
 ·cases h
def zO0:zbP:=[(200,zsE)]++zXn
theorem zED:zbv zO0:=zn zKr zQs
@[simp,reducible] def zyK (k:Kept)(p:Int):Bool:=pc (SmK k)
@[simp,reducible] def zt5 (k:Kept)(p:Int):Kept:=zeM k p
def zuf:List AV->Option (Bool×List AV)
 | [.agg [.s .bool b,.s .slot c],.one (.i .i64 d)]=>some ((zyK (⟨b,c⟩:Kept) d),[.agg (Ty.cells .kept (zt5 (⟨b,c⟩:Kept) d))])
 | _=>none
def zzK (N:Nat)(a0:Kept)(a1:Int):Option Ans :=
 (cond (zgm a0) (cond (znd (zcb a0) a1) (cond (zhv (zcb a0) a1) (cond (inb a1 (ln (zcb a0).Known)) (share (up (zcb a0).Known a1 false) (fun x3=>(cond zc5 (cond (inb a1 (ln (zcb a0).Slots)) (share (up (zcb a0).Slots a1 zbZ) (fun x4=>(some [(.agg (Ty.cells .kept (⟨x3,x4⟩:Kept)))]))) none) none))) none) (some [(.agg (Ty.cells .kept (zcb a0)))])) none) none)
theorem zTy (N:Nat)(a0:Kept)(a1:Int):evalFn (cQ zO0 zV zK zO) (zB []) N 12 250 [.agg (Ty.cells .kept a0),.one (.i .i64 a1)]=zzK N a0 a1:=by kernel_rfl
theorem zQ5 (a0:Kept)(a1:Int)(hb:zG big [.agg (Ty.cells .kept a0),.one (.i .i64 a1)])(hc:(zyK a0 a1)=true):∃N,zzK N a0 a1=some [.agg (Ty.cells .kept (zt5 a0 a1))]:=by
 have hs:=zI.1 hc;refine ⟨0,?_⟩;unfold zzK zt5;refine must (zbr ((zCY _).2 hs)) (must (zbr hs) ?_);unfold zeM;cases hh:zeo a0 a1
 ·simp only [zhv,zcb,hh,cF]
 ·simp only [zhv,zcb,hh,cT];unfold zeo at hh;obtain ⟨h1,h2⟩:=zdm.1 hh;simp only [zSE,h1,h2,cT,share,zc5]
theorem zK4:Holds Tryz.prog 250 zuf:=zo zED zD zu zA (zC (by kernel_rfl)) fun avs rs hb h=>by
 unfold zuf at h;split at h
 ·obtain ⟨hc,rfl⟩:=zl h;exact (fin2 zQ5 zTy hc hb :)
 ·cases h
@[simp,reducible] def zy9 (k:Kept)(p:Int):Bool:=pc (SmK k)
@[simp,reducible] def zs5 (k:Kept)(p:Int):Kept:=zeM k p
def zuj:List AV->Option (Bool×List AV)
 | [.agg [.s .bool b,.s .slot c],.one (.i .i64 d)]=>some ((zy9 (⟨b,c⟩:Kept) d),[.agg (Ty.cells .kept (zs5 (⟨b,c⟩:Kept) d))])
 | _=>none
def zAB (N:Nat)(a0:Kept)(a1:Int):Option Ans :=
 (cond (zfI a0) (cond (zcz a1 (ln a0.Known)) (cond (zcT a1 (ln a0.Known)) (cond (zcz a1 (ln a0.Slots)) (cond (zcT a1 (ln a0.Slots)) (cond (inb a1 (ln (zb9 a0).Known)) (share (up (zb9 a0).Known a1 false) (fun x3=>(cond zc6 (cond (inb a1 (ln (zb9 a0).Slots)) (share (up (zb9 a0).Slots a1 zcD) (fun x4=>(some [(.agg (Ty.cells .kept (⟨x3,x4⟩:Kept)))]))) none) none))) none) (some [(.agg (Ty.cells .kept (zb9 a0)))])) none) (some [(.agg (Ty.cells .kept (zb9 a0)))])) none) none)
theorem zUM (N:Nat)(a0:Kept)(a1:Int):evalFn (cQ zO0 zV zK zO) (zB []) N 12 254 [.agg (Ty.cells .kept a0),.one (.i .i64 a1)]=zAB N a0 a1:=by kernel_rfl
theorem zRF (a0:Kept)(a1:Int)(hb:zG big [.agg (Ty.cells .kept a0),.one (.i .i64 a1)])(hc:(zy9 a0 a1)=true):∃N,zAB N a0 a1=some [.agg (Ty.cells .kept (zs5 a0 a1))]:=by
 have hs:=zI.1 hc;refine ⟨0,?_⟩;unfold zAB zs5;refine must (zbr hs) (must rfl ?_);unfold zeM zeo;simp only [zcT,zcz,zb9,zSE,share,zc6,cT];cases hasB a1 (ln a0.Known)
 ·rfl
 ·cases hasB a1 (ln a0.Slots)<;>rfl
theorem zL4:Holds Tryz.prog 254 zuj:=zo zED zD zu zA (zC (by kernel_rfl)) fun avs rs hb h=>by
 unfold zuj at h;split at h
 ·obtain ⟨hc,rfl⟩:=zl h;exact (fin2 zRF zUM hc hb :)
 ·cases h
def zCA:zbP:=[(250,zuf),(254,zuj)]++zO0
theorem ztK:zbv zCA:=zn zK4 (zn zL4 zED)
def zvL (k:Kept)(l:List Int):Kept:=l.foldl zeM k
theorem zVA:∀(l:List Int) {k:Kept},SmK k->SmK (zvL k l)
 | [],_,h=>h
 | p :: l,k,h=>zVA l (zG3 (p:=p) h)
theorem zAc {ρ:Type}(K:List Bool×List Slot->Option ρ):∀(l:List Int) (i:Nat) (k:Kept),SmK k ->
 goL (fun _ x (t:List Bool×List Slot) κ=>bif pc (SmK ⟨t.1,t.2⟩) then κ ((zeM ⟨t.1,t.2⟩ x).Known,(zeM ⟨t.1,t.2⟩ x).Slots) else none) K l i (k.Known,k.Slots)=K ((zvL k l).Known,(zvL k l).Slots)
 | [],_,_,_=>rfl
 | x :: l,i,k,h=>by
  have e:pc (SmK ⟨k.Known,k.Slots⟩)=true:=zbr h;simp only [goL,e,cT];exact zAc K l (i+1) (zeM k x) (zG3 h)
def z2f (l:List Slot)(p:Int):List Int:=idxs (fun (s:Slot)=>ieq s.Page p) l 0
def zlU (k:Kept)(l:List Slot)(p:Int):Kept:=zvL k (z2f l p)
theorem zZ2 {k:Kept}(l:List Slot)(p:Int)(h:SmK k):SmK (zlU k l p):=zVA _ h
@[simp,reducible] def zj1 (k:Kept)(l:List Slot)(p:Int):Bool:=pc (SmK k/\l.length<=1048576)
@[simp,reducible] def zur (k:Kept)(l:List Slot)(p:Int):Kept:=zlU k l p
def zk7:List AV->Option (Bool×List AV)
 | [.agg [.s .bool b,.s .slot c],.one (.s .slot d),.one (.i .i64 e)]=>some ((zj1 (⟨b,c⟩:Kept) d e),[.agg (Ty.cells .kept (zur (⟨b,c⟩:Kept) d e))])
 | _=>none
def znx (N:Nat)(a0:Kept)(a1:List Slot)(a2:Int):Option Ans :=
 (cond (zgm a0) (cond (zy3 a1 a2) (iter (σ:=(Int×((List Int)×((List Bool)×((List Slot)×((List Bool)×((List Slot)×Unit))))))) N (fun r4 s5=>(cond (ilt s5.1 (ln s5.2.1)) (cond (inb s5.1 (ln s5.2.1)) (cond (zyK (⟨s5.2.2.1,s5.2.2.2.1⟩:Kept) (ix s5.2.1 s5.1 0)) (r4 ((zq .i64 s5.1 1),(s5.2.1,((zt5 (⟨s5.2.2.1,s5.2.2.2.1⟩:Kept) (ix s5.2.1 s5.1 0)).Known,((zt5 (⟨s5.2.2.1,s5.2.2.2.1⟩:Kept) (ix s5.2.1 s5.1 0)).Slots,(s5.2.2.2.2.1,(s5.2.2.2.2.2.1,()))))))) none) none) (some [(.agg (Ty.cells .kept (⟨s5.2.2.1,s5.2.2.2.1⟩:Kept)))]))) (0,((zoC a1 a2),((zcb a0).Known,((zcb a0).Slots,([],([],()))))))) none) none)
def zFj:FuncId->Nat->Option Tmpl:=zB [(229,0,{ n:=27,tm:=[(3,.lp 0 0),(6,.lp 1 0),(7,.sl 0 []),(8,.i .i64)],lo:=[(0,[.sl 1 [],.sl 2 []]),(1,[.sl 3 [],.sl 4 []])],ro:=[(0,.int,true),(1,.bool,true),(2,.slot,true),(3,.bool,true),(4,.slot,true)] })]
theorem zIT (N:Nat)(a0:Kept)(a1:List Slot)(a2:Int):evalFn (cQ zCA zV zK zO) zFj N 12 229 [.agg (Ty.cells .kept a0),.one (.s .slot a1),.one (.i .i64 a2)]=znx N a0 a1 a2:=by kernel_rfl
theorem zEz (a0:Kept)(a1:List Slot)(a2:Int)(hb:zG big [.agg (Ty.cells .kept a0),.one (.s .slot a1),.one (.i .i64 a2)])(hc:(zj1 a0 a1 a2)=true):∃N,znx N a0 a1 a2=some [.agg (Ty.cells .kept (zur a0 a1 a2))]:=by
 obtain ⟨hs,hs2⟩:=zI.1 hc;have hl:(zoC a1 a2).length<=big:=Nat.le_trans (zE4 _ a1 0) (zcA hs2).1;refine ⟨NN,?_⟩;have hNN:∀{n:Nat},n<=big->n<NN:=fun h=>zb4 h;generalize NN=N at hNN ⊢;unfold znx;refine must (zbr ((zCY _).2 hs)) (must (zbr (by omega)) ?_)
 refine (zbF (zoC a1 a2) (fun i (t:(List Bool)×(List Slot))=>((i:Int),(zoC a1 a2),t.1,t.2,[],[],())) _ (fun _ (x:Int) (t:List Bool×List Slot) κ=>bif pc (SmK ⟨t.1,t.2⟩) then κ ((zeM ⟨t.1,t.2⟩ x).Known,(zeM ⟨t.1,t.2⟩ x).Slots) else none) (fun (t:(List Bool)×(List Slot))=>(some [(.agg (Ty.cells .kept (⟨t.1,t.2⟩:Kept)))])) (fun i hi t rec=>?_) (fun t rec=>?_) _ ((zcb a0).Known,(zcb a0).Slots) (hNN hl)).trans ?_
 ·simp only [zbu hi,zbh hi,zbq hi,zbd hi hl,cT]
 ·simp only [zbk,cF]
 exact zAc _ _ 0 a0 hs
theorem zBO:Holds Tryz.prog 229 zk7:=zo ztK zD zu zA (zC (by kernel_rfl)) fun avs rs hb h=>by
 unfold zk7 at h;split at h
 ·obtain ⟨hc,rfl⟩:=zl h;exact (zd7 zEz zIT hc hb :)
 ·cases h
@[simp,reducible] def zoE (k:Kept)(l:List Slot)(p:Int):Bool:=pc (SmK k/\l.length<=1048576)
@[simp,reducible] def zuQ (k:Kept)(l:List Slot)(p:Int):Kept:=zlU k l p
def zll:List AV->Option (Bool×List AV)
 | [.agg [.s .bool b,.s .slot c],.one (.s .slot d),.one (.i .i64 e)]=>some ((zoE (⟨b,c⟩:Kept) d e),[.agg (Ty.cells .kept (zuQ (⟨b,c⟩:Kept) d e))])
 | _=>none
def znR (N:Nat)(a0:Kept)(a1:List Slot)(a2:Int):Option Ans :=
 (cond (zfI a0) (cond (zyI a1 a2) (iter (σ:=(Int×(Int×((List Int)×((List Bool)×((List Slot)×((List Bool)×((List Slot)×Unit)))))))) N (fun r4 s5=>(cond (ilt s5.2.1 s5.1) (cond (inb s5.2.1 (ln s5.2.2.1)) (cond (zy9 (⟨s5.2.2.2.2.2.1,s5.2.2.2.2.2.2.1⟩:Kept) (ix s5.2.2.1 s5.2.1 0)) (r4 (s5.1,((zq .i64 s5.2.1 1),(s5.2.2.1,(s5.2.2.2.1,(s5.2.2.2.2.1,((zs5 (⟨s5.2.2.2.2.2.1,s5.2.2.2.2.2.2.1⟩:Kept) (ix s5.2.2.1 s5.2.1 0)).Known,((zs5 (⟨s5.2.2.2.2.2.1,s5.2.2.2.2.2.2.1⟩:Kept) (ix s5.2.2.1 s5.2.1 0)).Slots,())))))))) none) none) (some [(.agg (Ty.cells .kept (⟨s5.2.2.2.2.2.1,s5.2.2.2.2.2.2.1⟩:Kept)))]))) ((ln (zjn a1 a2)),(0,((zjn a1 a2),([],([],((zb9 a0).Known,((zb9 a0).Slots,())))))))) none) none)
def zFP:FuncId->Nat->Option Tmpl:=zB [(240,0,{ n:=25,tm:=[(6,.lp 0 0),(7,.lp 1 0),(14,.sl 0 []),(15,.i .i64),(16,.i .i64)],lo:=[(0,[.sl 1 [],.sl 2 []]),(1,[.sl 3 [],.sl 4 []])],ro:=[(0,.int,true),(1,.bool,true),(2,.slot,true),(3,.bool,true),(4,.slot,true)] })]
theorem zIm (N:Nat)(a0:Kept)(a1:List Slot)(a2:Int):evalFn (cQ zCA zV zK zO) zFP N 12 240 [.agg (Ty.cells .kept a0),.one (.s .slot a1),.one (.i .i64 a2)]=znR N a0 a1 a2:=by kernel_rfl
theorem zEK (a0:Kept)(a1:List Slot)(a2:Int)(hb:zG big [.agg (Ty.cells .kept a0),.one (.s .slot a1),.one (.i .i64 a2)])(hc:(zoE a0 a1 a2)=true):∃N,znR N a0 a1 a2=some [.agg (Ty.cells .kept (zuQ a0 a1 a2))]:=by
 obtain ⟨hs,hs2⟩:=zI.1 hc;have hl:(zjn a1 a2).length<=big:=Nat.le_trans (zE4 _ a1 0) (zcA hs2).1;refine ⟨NN,?_⟩;have hNN:∀{n:Nat},n<=big->n<NN:=fun h=>zb4 h;generalize NN=N at hNN ⊢;unfold znR;refine must (zbr hs) (must (zbr (by omega)) ?_)
 refine (zbF (zjn a1 a2) (fun i (t:(List Bool)×(List Slot))=>((ln (zjn a1 a2)),(i:Int),(zjn a1 a2),[],[],t.1,t.2,())) _ (fun _ (x:Int) (t:List Bool×List Slot) κ=>bif pc (SmK ⟨t.1,t.2⟩) then κ ((zeM ⟨t.1,t.2⟩ x).Known,(zeM ⟨t.1,t.2⟩ x).Slots) else none) (fun (t:(List Bool)×(List Slot))=>(some [(.agg (Ty.cells .kept (⟨t.1,t.2⟩:Kept)))])) (fun i hi t rec=>?_) (fun t rec=>?_) _ ((zb9 a0).Known,(zb9 a0).Slots) (hNN hl)).trans ?_
 ·simp only [zbu hi,zbh hi,zbq hi,zbd hi hl,cT]
 ·simp only [zbk,cF]
 exact zAc _ _ 0 a0 hs
theorem zB1:Holds Tryz.prog 240 zll:=zo ztK zD zu zA (zC (by kernel_rfl)) fun avs rs hb h=>by
 unfold zll at h;split at h
 ·obtain ⟨hc,rfl⟩:=zl h;exact (zd7 zEK zIm hc hb :)
 ·cases h
def flushed (l:List Entry)(p:Int):List Entry:=l.filter fun e=>!ieq e.Host p
theorem zEm (l:List Entry)(p:Int):(flushed l p).length<=l.length:=List.length_filter_le _ _
theorem zjK {α ρ:Type}(p:α->Bool)(K:List α->Option ρ):∀(l:List α) (i:Nat) (acc:List α),acc.length+l.length<=2147483648 ->
 goL (fun _ x acc κ=>bif p x then (cond (few (ln (ap acc [x]))) (κ (ap acc [x])) none) else κ acc) K l i acc=K (acc++l.filter p)
 | [],i,acc,_=>by simp [goL]
 | x :: l,i,acc,h=>by
  simp only [List.length_cons] at h;simp only [goL];cases hp:p x
  ·rw [cF,zjK p K l (i+1) acc (by omega),List.filter_cons_of_neg (by simp [hp])]
  ·rw [cT,zes (by simp [ap];omega),cT,zjK p K l (i+1) _ (by simp [ap];omega),List.filter_cons_of_pos hp]
   simp [ap]
@[simp,reducible] def zgK (l:List Entry)(p:Int):Bool:=pc (l.length<=1048576)
@[simp,reducible] def zpb (l:List Entry)(p:Int):List Entry:=flushed l p
def zlW:List AV->Option (Bool×List AV)
 | [.one (.s .entry b),.one (.i .i64 c)]=>some ((zgK b c),[.one (.s .entry (zpb b c))])
 | _=>none
def zqi (N:Nat)(a0:List Entry)(a1:Int):Option Ans :=
 (iter (σ:=(Int×(Int×((List Entry)×((List Entry)×Unit))))) N (fun r3 s4=>(cond (ilt s4.2.1 (ln s4.2.2.1)) (cond (inb s4.2.1 (ln s4.2.2.1)) (cond (ine (ix s4.2.2.1 s4.2.1 zby).Host s4.1) (cond (inb s4.2.1 (ln s4.2.2.1)) (cond (few (ln (ap s4.2.2.2.1 [(ix s4.2.2.1 s4.2.1 zby)]))) (r3 (s4.1,((zq .i64 s4.2.1 1),(s4.2.2.1,((ap s4.2.2.2.1 [(ix s4.2.2.1 s4.2.1 zby)]),()))))) none) none) (r3 (s4.1,((zq .i64 s4.2.1 1),(s4.2.2.1,(s4.2.2.2.1,())))))) none) (some [(.one (.s .entry s4.2.2.2.1))]))) (a1,(0,(a0,([],())))))
def zHs:FuncId->Nat->Option Tmpl:=zB [(230,0,{ n:=29,tm:=[(0,.sl 0 []),(1,.i .i64),(5,.sl 1 []),(6,.i .i64)],lo:=[],ro:=[(0,.entry,false),(1,.entry,true)] })]
theorem zJA (N:Nat)(a0:List Entry)(a1:Int):evalFn (cQ zCA zV zK zO) zHs N 12 230 [.one (.s .entry a0),.one (.i .i64 a1)]=zqi N a0 a1:=by kernel_rfl
theorem zIa (a0:List Entry)(a1:Int)(hb:zG big [.one (.s .entry a0),.one (.i .i64 a1)])(hc:(zgK a0 a1)=true):∃N,zqi N a0 a1=some [.one (.s .entry (zpb a0 a1))]:=by
 have hs:=zI.1 hc;have hl:=zcA hs;refine ⟨NN,?_⟩;have hNN:∀{n:Nat},n<=big->n<NN:=fun h=>zb4 h;generalize NN=N at hNN ⊢;unfold zqi;refine (zbF a0 (fun i (t:(List Entry))=>(a1,(i:Int),a0,t,())) _ (fun _ (x:Entry) (t:List Entry) κ=>bif !ieq x.Host a1 then (cond (few (ln (ap t [x]))) (κ (ap t [x])) none) else κ t) (fun (t:(List Entry))=>(some [(.one (.s .entry t))])) (fun i hi t rec=>?_) (fun t rec=>?_) _ ([]) (hNN hl.1)).trans ?_
 ·simp only [zbu hi,zbh hi,zbq hi,zbd hi hl.1,cT];rfl
 ·simp only [zbk,cF]
 exact zjK (fun e=>!ieq e.Host a1) _ a0 0 [] (by simpa using hl.2)
theorem zDr:Holds Tryz.prog 230 zlW:=zo ztK zD zu zA (zC (by kernel_rfl)) fun avs rs hb h=>by
 unfold zlW at h;split at h
 ·obtain ⟨hc,rfl⟩:=zl h;exact (fin2 zIa zJA hc hb :)
 ·cases h
@[simp,reducible] def zgT (l:List Entry)(p:Int):Bool:=pc (l.length<=1048576)
@[simp,reducible] def ziC (l:List Entry)(p:Int):List Entry:=flushed l p
def zmm:List AV->Option (Bool×List AV)
 | [.one (.s .entry b),.one (.i .i64 c)]=>some ((zgT b c),[.one (.s .entry (ziC b c))])
 | _=>none
def zp6 (N:Nat)(a0:List Entry)(a1:Int):Option Ans :=
 (iter (σ:=(Int×(Int×(Int×((List Entry)×((List Entry)×Unit)))))) N (fun r3 s4=>(cond (ilt s4.2.1 s4.1) (cond (inb s4.2.1 (ln s4.2.2.2.2.1)) (cond (cond (ieq (ix s4.2.2.2.2.1 s4.2.1 zby).Host s4.2.2.1) false true) (cond (few (ln (ap s4.2.2.2.1 [(ix s4.2.2.2.2.1 s4.2.1 zby)]))) (r3 (s4.1,((zq .i64 s4.2.1 1),(s4.2.2.1,((ap s4.2.2.2.1 [(ix s4.2.2.2.2.1 s4.2.1 zby)]),(s4.2.2.2.2.1,())))))) none) (r3 (s4.1,((zq .i64 s4.2.1 1),(s4.2.2.1,(s4.2.2.2.1,(s4.2.2.2.2.1,()))))))) none) (some [(.one (.s .entry s4.2.2.2.1))]))) ((ln a0),(0,(a1,([],(a0,()))))))
def zIl:FuncId->Nat->Option Tmpl:=zB [(243,0,{ n:=25,tm:=[(1,.fn 255 [0]),(5,.sl 0 []),(9,.sl 1 []),(10,.i .i64),(11,.i .i64)],lo:=[(0,[.i .i64])],ro:=[(0,.entry,true),(1,.entry,false)] })]
theorem zLt (N:Nat)(a0:List Entry)(a1:Int):evalFn (cQ zCA zV zK zO) zIl N 12 241 [.one (.s .entry a0),.one (.i .i64 a1)]=zp6 N a0 a1:=by kernel_rfl
theorem zIL (a0:List Entry)(a1:Int)(hb:zG big [.one (.s .entry a0),.one (.i .i64 a1)])(hc:(zgT a0 a1)=true):∃N,zp6 N a0 a1=some [.one (.s .entry (ziC a0 a1))]:=by
 have hs:=zI.1 hc;have hl:=zcA hs;refine ⟨NN,?_⟩;have hNN:∀{n:Nat},n<=big->n<NN:=fun h=>zb4 h;generalize NN=N at hNN ⊢;unfold zp6;refine (zbF a0 (fun i (t:(List Entry))=>((ln a0),(i:Int),a1,t,a0,())) _ (fun _ (x:Entry) (t:List Entry) κ=>bif !ieq x.Host a1 then (cond (few (ln (ap t [x]))) (κ (ap t [x])) none) else κ t) (fun (t:(List Entry))=>(some [(.one (.s .entry t))])) (fun i hi t rec=>?_) (fun t rec=>?_) _ ([]) (hNN hl.1)).trans ?_
 ·simp only [zbu hi,zbh hi,zbq hi,zbd hi hl.1,cT];cases ieq a0[i].Host a1<;>rfl
 ·simp only [zbk,cF]
 exact zjK (fun e=>!ieq e.Host a1) _ a0 0 [] (by simpa using hl.2)
theorem zDe:Holds Tryz.prog 241 zmm:=zo ztK zD zu zA (zC (by kernel_rfl)) fun avs rs hb h=>by
 unfold zmm at h;split at h
 ·obtain ⟨hc,rfl⟩:=zl h;exact (fin2 zIL zLt hc hb :)
 ·cases h
def zXd:zbP:=[(229,zk7),(240,zll),(230,zlW),(241,zmm)]++zCA
theorem zSC:zbv zXd:=zn zBO (zn zB1 (zn zDr (zn zDe ztK)))
def zt9 (gs:List Guest)(p:Int):Nat->List Kept->List Kept
 | 0,ts=>ts
 | n+1,ts=>up (zt9 gs p n ts) (n:Int) (zlU (ix (zt9 gs p n ts) (n:Int) zbB) (ix gs (n:Int) zi).Live p)
theorem znU (gs:List Guest)(p:Int):∀(n:Nat) (ts:List Kept),(zt9 gs p n ts).length=ts.length
 | 0,_=>rfl
 | n+1,ts=>by simp only [zt9,ztw];exact znU gs p n ts
theorem zvB (gs:List Guest)(p:Int):∀(n:Nat) (ts:List Kept),n<=ts.length->zLN ts->zLN (zt9 gs p n ts)
 | 0,_,_,h=>h
 | n+1,ts,hn,h=>by
  have ih:=zvB gs p n ts (by omega) h
  have hl:n<(zt9 gs p n ts).length:=by rw [znU];omega
  exact zVG ih (zZ2 _ _ (by rw [zbq hl];exact ih.2 _ (List.getElem_mem hl)))
def zjj (x:Mon)(p:Int)(n:Nat):Mon:={ x with Tables:=zt9 x.Guests p n x.Tables }
theorem zYe {x:Mon}{p:Int}{n:Nat}(hn:n<=x.Tables.length)(h:znq x):znq (zjj x p n):=⟨h.1,h.2.1,h.2.2.1,h.2.2.2.1,h.2.2.2.2.1,zvB _ _ _ _ hn h.2.2.2.2.2⟩
def zeF (h:Host)(m p:Int)(s:Slot):Host :=
 bif ine (ix (ix h.Mons m zf).Outer p zQ).Page (-1)
 then ⟨h.Memory,up h.Mons m { zjj (ix h.Mons m zf) p (ix h.Mons m zf).Tables.length with Outer:=up (ix h.Mons m zf).Outer p s },flushed h.Buffer (ix (ix h.Mons m zf).Outer p zQ).Page,flushed h.IoBuffer (ix (ix h.Mons m zf).Outer p zQ).Page⟩
 else ⟨h.Memory,up h.Mons m { zjj (ix h.Mons m zf) p (ix h.Mons m zf).Tables.length with Outer:=up (ix h.Mons m zf).Outer p s },h.Buffer,h.IoBuffer⟩
def z2g (h:Host)(m p:Int):Prop:=hasB m (ln h.Mons)=true/\hasB p (ln (ix h.Mons m zf).Outer)=true/\(ix h.Mons m zf).Tables.length<=(ix h.Mons m zf).Guests.length
@[simp,reducible] def zfr (h:Host)(m p:Int)(s:Slot):Bool:=pc (zdQ h/\z2g h m p)
@[simp,reducible] def zhh (h:Host)(m p:Int)(s:Slot):Host:=zeF h m p s
def zpT:List AV->Option (Bool×List AV)
 | [.agg [.s (.sl .int) b,.s .mon c,.s .entry d,.s .entry e],.one (.i .i64 f),.one (.i .i64 g),.agg [.i .i64 h,.i .i64 j]]=>some ((zfr (⟨b,c,d,e⟩:Host) f g (⟨h,j⟩:Slot)),[.agg (zx (zhh (⟨b,c,d,e⟩:Host) f g (⟨h,j⟩:Slot)))])
 | _=>none
def zxu (N:Nat)(a0:Host)(a1 a2:Int)(a3:Slot):Option Ans :=
 (cond (inb a1 (ln a0.Mons)) (cond (inb a2 (ln (ix a0.Mons a1 zf).Outer)) (iter (σ:=(Int×(Int×(Int×(Int×(Int×(Int×(Int×(Int×(Int×(Int×(Int×(Int×(Int×(Int×(Int×((List (List Int))×((List Mon)×((List Entry)×((List Entry)×((List (List Int))×((List Mon)×((List Entry)×((List Entry)×Unit)))))))))))))))))))))))) N (fun r5 s6=>(cond (ilt s6.2.2.2.1 (ln (ix s6.2.2.2.2.2.2.2.2.2.2.2.2.2.2.2.2.1 s6.2.2.2.2.2.2.2.2.2.2.2.2.2.1 zf).Tables)) (cond (inb s6.2.2.2.1 (ln (ix s6.2.2.2.2.2.2.2.2.2.2.2.2.2.2.2.2.1 s6.2.2.2.2.2.2.2.2.2.2.2.2.2.1 zf).Tables)) (cond (inb s6.2.2.2.1 (ln (ix s6.2.2.2.2.2.2.2.2.2.2.2.2.2.2.2.2.1 s6.2.2.2.2.2.2.2.2.2.1 zf).Guests)) (cond (zj1 (ix (ix s6.2.2.2.2.2.2.2.2.2.2.2.2.2.2.2.2.1 s6.2.2.2.2.2.2.2.2.2.2.2.2.2.1 zf).Tables s6.2.2.2.1 zbB) (ix (ix s6.2.2.2.2.2.2.2.2.2.2.2.2.2.2.2.2.1 s6.2.2.2.2.2.2.2.2.2.1 zf).Guests s6.2.2.2.1 zi).Live s6.2.1) (cond (inb s6.2.2.2.1 (ln (ix s6.2.2.2.2.2.2.2.2.2.2.2.2.2.2.2.2.1 s6.2.2.2.2.2.2.2.2.2.2.2.2.2.1 zf).Tables)) (share (up s6.2.2.2.2.2.2.2.2.2.2.2.2.2.2.2.2.1 s6.2.2.2.2.2.2.2.2.2.2.2.2.2.1 ({ (ix s6.2.2.2.2.2.2.2.2.2.2.2.2.2.2.2.2.1 s6.2.2.2.2.2.2.2.2.2.2.2.2.2.1 zf) with Tables:=(up (ix s6.2.2.2.2.2.2.2.2.2.2.2.2.2.2.2.2.1 s6.2.2.2.2.2.2.2.2.2.2.2.2.2.1 zf).Tables s6.2.2.2.1 (zur (ix (ix s6.2.2.2.2.2.2.2.2.2.2.2.2.2.2.2.2.1 s6.2.2.2.2.2.2.2.2.2.2.2.2.2.1 zf).Tables s6.2.2.2.1 zbB) (ix (ix s6.2.2.2.2.2.2.2.2.2.2.2.2.2.2.2.2.1 s6.2.2.2.2.2.2.2.2.2.1 zf).Guests s6.2.2.2.1 zi).Live s6.2.1)) }:Mon)) (fun x7=>(r5 (s6.1,(s6.2.1,(s6.2.2.1,((zq .i64 s6.2.2.2.1 1),(s6.2.2.2.2.1,(s6.2.2.2.2.2.1,(s6.2.2.2.2.2.2.1,(s6.2.2.2.2.2.2.2.1,(s6.2.2.2.2.2.2.2.2.1,(s6.2.2.2.2.2.2.2.2.2.1,(s6.2.2.2.2.2.2.2.2.2.2.1,(s6.2.2.2.2.2.2.2.2.2.2.2.1,(s6.2.2.2.2.2.2.2.2.2.2.2.2.1,(s6.2.2.2.2.2.2.2.2.2.2.2.2.2.1,(s6.2.2.2.2.2.2.2.2.2.2.2.2.2.2.1,(s6.2.2.2.2.2.2.2.2.2.2.2.2.2.2.2.1,(x7,(s6.2.2.2.2.2.2.2.2.2.2.2.2.2.2.2.2.2.1,(s6.2.2.2.2.2.2.2.2.2.2.2.2.2.2.2.2.2.2.1,(s6.2.2.2.2.2.2.2.2.2.2.2.2.2.2.2.2.2.2.2.1,(s6.2.2.2.2.2.2.2.2.2.2.2.2.2.2.2.2.2.2.2.2.1,(s6.2.2.2.2.2.2.2.2.2.2.2.2.2.2.2.2.2.2.2.2.2.1,(s6.2.2.2.2.2.2.2.2.2.2.2.2.2.2.2.2.2.2.2.2.2.2.1,())))))))))))))))))))))))))) none) none) none) none) (cond (ine s6.2.2.1 (-1)) (cond (zgK s6.2.2.2.2.2.2.2.2.2.2.2.2.2.2.2.2.2.1 s6.2.2.1) (cond (zgK s6.2.2.2.2.2.2.2.2.2.2.2.2.2.2.2.2.2.2.1 s6.2.2.1) (cond (inb s6.2.1 (ln (ix s6.2.2.2.2.2.2.2.2.2.2.2.2.2.2.2.2.1 s6.2.2.2.2.2.2.1 zf).Outer)) (share (up s6.2.2.2.2.2.2.2.2.2.2.2.2.2.2.2.2.1 s6.2.2.2.2.2.2.1 ({ (ix s6.2.2.2.2.2.2.2.2.2.2.2.2.2.2.2.2.1 s6.2.2.2.2.2.2.1 zf) with Outer:=(up (ix s6.2.2.2.2.2.2.2.2.2.2.2.2.2.2.2.2.1 s6.2.2.2.2.2.2.1 zf).Outer s6.2.1 (⟨s6.2.2.2.2.1,s6.2.2.2.2.2.1⟩:Slot)) }:Mon)) (fun x7=>(cond (inb s6.1 (ln x7)) (cond (cond (cond (cond (cond (cond (cond (ieq s6.2.2.2.2.2.2.2.2.2.2.2.2.2.1 s6.1) true false) (cond (ieq s6.2.2.2.2.2.2.2.2.2.2.1 s6.1) true false) false) (cond (ieq s6.2.2.2.2.2.2.2.2.2.1 s6.1) true false) false) (cond (ieq s6.2.2.2.2.2.2.2.2.1 s6.1) true false) false) (cond (ieq s6.2.2.2.2.2.2.2.1 s6.1) true false) false) (cond (ieq s6.2.2.2.2.2.2.1 s6.1) true false) false) (share (up x7 s6.1 ({ (ix x7 s6.2.2.2.2.2.2.1 zf) with Out:=(ix x7 s6.2.2.2.2.2.2.2.1 zf).Out,Dirty:=(ix x7 s6.2.2.2.2.2.2.2.2.1 zf).Dirty,Guests:=(ix x7 s6.2.2.2.2.2.2.2.2.2.1 zf).Guests,Outs:=(ix x7 s6.2.2.2.2.2.2.2.2.2.2.1 zf).Outs,Pending:=s6.2.2.2.2.2.2.2.2.2.2.2.1,Traps:=s6.2.2.2.2.2.2.2.2.2.2.2.2.1,Tables:=(ix x7 s6.2.2.2.2.2.2.2.2.2.2.2.2.2.1 zf).Tables,Own:=s6.2.2.2.2.2.2.2.2.2.2.2.2.2.2.1 }:Mon)) (fun x8=>(some [(.agg (zx (⟨s6.2.2.2.2.2.2.2.2.2.2.2.2.2.2.2.1,x8,(zpb s6.2.2.2.2.2.2.2.2.2.2.2.2.2.2.2.2.2.1 s6.2.2.1),(zpb s6.2.2.2.2.2.2.2.2.2.2.2.2.2.2.2.2.2.2.1 s6.2.2.1)⟩:Host)))]))) none) none))) none) none) none) (cond (inb s6.2.1 (ln (ix s6.2.2.2.2.2.2.2.2.2.2.2.2.2.2.2.2.1 s6.2.2.2.2.2.2.1 zf).Outer)) (share (up s6.2.2.2.2.2.2.2.2.2.2.2.2.2.2.2.2.1 s6.2.2.2.2.2.2.1 ({ (ix s6.2.2.2.2.2.2.2.2.2.2.2.2.2.2.2.2.1 s6.2.2.2.2.2.2.1 zf) with Outer:=(up (ix s6.2.2.2.2.2.2.2.2.2.2.2.2.2.2.2.2.1 s6.2.2.2.2.2.2.1 zf).Outer s6.2.1 (⟨s6.2.2.2.2.1,s6.2.2.2.2.2.1⟩:Slot)) }:Mon)) (fun x7=>(cond (inb s6.1 (ln x7)) (cond (cond (cond (cond (cond (cond (cond (ieq s6.2.2.2.2.2.2.2.2.2.2.2.2.2.1 s6.1) true false) (cond (ieq s6.2.2.2.2.2.2.2.2.2.2.1 s6.1) true false) false) (cond (ieq s6.2.2.2.2.2.2.2.2.2.1 s6.1) true false) false) (cond (ieq s6.2.2.2.2.2.2.2.2.1 s6.1) true false) false) (cond (ieq s6.2.2.2.2.2.2.2.1 s6.1) true false) false) (cond (ieq s6.2.2.2.2.2.2.1 s6.1) true false) false) (share (up x7 s6.1 ({ (ix x7 s6.2.2.2.2.2.2.1 zf) with Out:=(ix x7 s6.2.2.2.2.2.2.2.1 zf).Out,Dirty:=(ix x7 s6.2.2.2.2.2.2.2.2.1 zf).Dirty,Guests:=(ix x7 s6.2.2.2.2.2.2.2.2.2.1 zf).Guests,Outs:=(ix x7 s6.2.2.2.2.2.2.2.2.2.2.1 zf).Outs,Pending:=s6.2.2.2.2.2.2.2.2.2.2.2.1,Traps:=s6.2.2.2.2.2.2.2.2.2.2.2.2.1,Tables:=(ix x7 s6.2.2.2.2.2.2.2.2.2.2.2.2.2.1 zf).Tables,Own:=s6.2.2.2.2.2.2.2.2.2.2.2.2.2.2.1 }:Mon)) (fun x8=>(some [(.agg (zx (⟨s6.2.2.2.2.2.2.2.2.2.2.2.2.2.2.2.1,x8,s6.2.2.2.2.2.2.2.2.2.2.2.2.2.2.2.2.2.1,s6.2.2.2.2.2.2.2.2.2.2.2.2.2.2.2.2.2.2.1⟩:Host)))]))) none) none))) none)))) (a1,(a2,((ix (ix a0.Mons a1 zf).Outer a2 zQ).Page,(0,(a3.Page,(a3.Rights,(a1,(a1,(a1,(a1,(a1,((ix a0.Mons a1 zf).Pending,((ix a0.Mons a1 zf).Traps,(a1,((ix a0.Mons a1 zf).Own,(a0.Memory,(a0.Mons,(a0.Buffer,(a0.IoBuffer,([],([],([],([],())))))))))))))))))))))))) none) none)
def zN4:FuncId->Nat->Option Tmpl:=zB [(202,0,{ n:=70,tm:=[(1,.i .i64),(2,.i .i64),(4,.lp 0 0),(7,.lp 1 0),(8,.lp 2 0),(9,.lp 3 0),(10,.i .i64),(11,.i .i64)],lo:=[(0,[.sl 0 [],.sl 1 [],.sl 2 [],.sl 3 []]),(1,[.i .i64,.i .i64]),(2,[.sl 4 [],.sl 5 [],.sl 6 [],.sl 7 []]),(3,[.sl 1 [0],.sl 1 [1],.sl 1 [2],.sl 1 [3],.sl 1 [4],.i .i64,.i .i64,.sl 1 [7],.i .i64])],ro:=[(0,(.sl .int),true),(1,.mon,true),(2,.entry,true),(3,.entry,true),(4,(.sl .int),true),(5,.mon,true),(6,.entry,true),(7,.entry,true)] })]
theorem zRj (N:Nat)(a0:Host)(a1 a2:Int)(a3:Slot):zCJ (cQ zXd zV zK zO) zN4 N 12 202 [true,true,true,true,false,false,false,false] 1 1 [[0],[1],[2],[4],[7]] .mon [.agg (zx a0),.one (.i .i64 a1),.one (.i .i64 a2),.agg (Ty.cells .slot a3)]=zxu N a0 a1 a2 a3:=by kernel_rfl
theorem zOA (a0:Host)(a1 a2:Int)(a3:Slot)(hb:zG big [.agg (zx a0),.one (.i .i64 a1),.one (.i .i64 a2),.agg (Ty.cells .slot a3)])(hc:(zfr a0 a1 a2 a3)=true):∃N,zxu N a0 a1 a2 a3=some [.agg (zx (zhh a0 a1 a2 a3))]:=by
 obtain ⟨hs,h1,h2,h3⟩:=zI.1 hc;have hH:=(zbg a0).1 hs;have hm:znq (ix a0.Mons a1 zf):=hH.2.1.2 _ (zde h1 _);obtain ⟨k,rfl,hk⟩:=zem (n:=a0.Mons.length) h1;have hT:=(zcA hm.2.2.2.2.2.1).1;refine ⟨NN,?_⟩;have hNN:∀{n:Nat},n<=big->n<NN:=fun h=>zb4 h;generalize NN=N at hNN ⊢;unfold zxu;refine must h1 (must h2 ?_);refine zoe (ix a0.Mons (k:Int) zf).Tables.length (fun i (t:List Mon)=>((k:Int),a2,(ix (ix a0.Mons (k:Int) zf).Outer a2 zQ).Page,(i:Int),a3.Page,a3.Rights,(k:Int),(k:Int),(k:Int),(k:Int),(k:Int),(ix a0.Mons (k:Int) zf).Pending,(ix a0.Mons (k:Int) zf).Traps,(k:Int),(ix a0.Mons (k:Int) zf).Own,a0.Memory,t,a0.Buffer,a0.IoBuffer,[],[],[],[],())) _
  (fun i t=>t=up a0.Mons (k:Int) (zjj (ix a0.Mons (k:Int) zf) a2 i)) (fun _ _=>some [AV.agg (zx (zeF a0 (k:Int) a2 a3))]) (fun i t rec hi hI hr=>?_) (fun t rec hI=>?_) _ 0 a0.Mons ?_ (Nat.zero_le _) ?_
 ·subst hI;have hi2:i<(zt9 (ix a0.Mons (k:Int) zf).Guests a2 i (ix a0.Mons (k:Int) zf).Tables).length:=by rw [znU];exact hi
  have hi3:i<(ix a0.Mons (k:Int) zf).Guests.length:=by omega
  have hf:zj1 (ix (zt9 (ix a0.Mons (k:Int) zf).Guests a2 i (ix a0.Mons (k:Int) zf).Tables) (i:Int) zbB) (ix (ix a0.Mons (k:Int) zf).Guests (i:Int) zi).Live a2=true :=
   zbr ⟨by rw [zbq hi2];exact (zvB _ _ _ _ (by omega) hm.2.2.2.2.2).2 _ (List.getElem_mem hi2),by rw [zbq hi3];exact (hm.2.2.2.1.2 _ (List.getElem_mem hi3)).2.2.1⟩
  simp only [ze5 hk,zCH,zjj,zbu hi2,zbh hi2,zbh hi3,hf,cT,share,zbd hi hT];exact hr _ rfl
 ·subst hI;simp only [ze5 hk,zCH,ztw,zjj,ln,znU,zfN,show ilt (((ix a0.Mons (k:Int) zf).Tables.length:Nat):Int) (((ix a0.Mons (k:Int) zf).Tables.length:Nat):Int)=false from decide_eq_false (by omega),cT,cF,share]
  have h1':inb (k:Int) ((a0.Mons.length:Nat):Int)=true:=h1;have h2':inb a2 (((ix a0.Mons (k:Int) zf).Outer.length:Nat):Int)=true:=h2;have f1:zgK a0.Buffer (ix (ix a0.Mons (k:Int) zf).Outer a2 zQ).Page=true:=zbr hH.2.2.1;have f2:zgK a0.IoBuffer (ix (ix a0.Mons (k:Int) zf).Outer a2 zQ).Page=true:=zbr hH.2.2.2;simp only [h1',h2',f1,f2,cT];unfold zeF;cases ine (ix (ix a0.Mons (k:Int) zf).Outer a2 zQ).Page (-1)<;>rfl
 ·exact (zVm hk _).symm
 ·exact hNN (by omega)
theorem zG2:zeG Tryz.prog 202 [true,true,true,true,false,false,false,false] (some (1,1,[[0],[1],[2],[4],[7]])) zpT:=by
 refine zjQ (kt:=.mon) (zdJ zSC zD zu zA) (zC (by kernel_rfl)) (by kernel_rfl) ?_
 intro avs rs hl hr h;have hb:=zjv hr;unfold zpT at h;split at h
 ·obtain ⟨hc,rfl⟩:=zl h;obtain ⟨N,hN⟩:=zOA _ _ _ _ (by exact hb) hc
  exact ⟨⟨_,rfl⟩,rfl,_,N,12,(zRj N _ _ _ _ ).trans hN⟩
 ·cases h
def zfE:zzE:=[(202,([true,true,true,true,false,false,false,false],(some (1,1,[[0],[1],[2],[4],[7]])),zpT))]++zO
theorem zc3:∀f own inp run,zy zfE f=some (own,inp,run)->zeG Tryz.prog f own inp run:=ztD zA (by
 intro x hx;simp only [List.mem_cons,List.not_mem_nil,or_false] at hx;rcases hx with rfl
 ·exact zG2)
theorem zIW:∀(l:List Mon) (u:List Bool),zkA l u=true->∀x∈l,zek x=true
 | [],_,_,x,hx=>by cases hx
 | m :: l,u,h,x,hx=>by
  simp only [zkA] at h;cases h1:zek m
  ·rw [h1] at h;cases h
  ·rw [h1] at h;simp only [cT] at h;cases h2:zhR m.Outer u with
   | none=>rw [h2] at h;cases h
   | some u' =>
    rw [h2] at h;rcases List.mem_cons.1 hx with rfl|hx
    ·exact h1
    ·exact zIW l u' h x hx
structure PageAt (h:Host) (m p:Int):Prop where
 hm:hasB m (ln h.Mons)=true
 hp:hasB p 8=true
 ok:zek (ix h.Mons m (Ty.dflt .mon))=true
 ho:(ix h.Mons m (Ty.dflt .mon)).Outer.length=8
 hd:(ix h.Mons m (Ty.dflt .mon)).Dirty.length=8
 ht:(ix h.Mons m (Ty.dflt .mon)).Tables.length=(ix h.Mons m (Ty.dflt .mon)).Guests.length
 hs:zef (ix (ix h.Mons m (Ty.dflt .mon)).Outer p (Ty.dflt .slot)) noSlot=ieq (ix (ix h.Mons m (Ty.dflt .mon)).Outer p (Ty.dflt .slot)).Page (-1)
theorem zX2 {s:Slot}{n:Int}(h:zeK s n=true):zef s noSlot=ieq s.Page (-1):=by
 unfold zeK at h;cases h1:zef s noSlot
 ·rw [h1] at h;cases h2:ieq s.Page (-1)
  ·rfl
  ·have e:s.Page = -1:=of_decide_eq_true h2;cases h3:igt n 0
   ·rw [h3] at h;cases h
   ·cases h4:win s.Page 0 (wsub .i64 n 1)
    ·rw [h3,h4] at h;cases h
    ·have:=(zfU.1 h4).1;omega
 ·unfold zef at h1;rw [Bool.and_eq_true] at h1;exact h1.1.symm
theorem zTd {h:Host}{m p:Int}{s:Slot}(hm:hasB m (ln h.Mons)=true)(hs:SmH h):SmH (zeF h m p s):=by
 have hx:=hs.2.1.2 _ (zde hm zf);have ht:=zYe (p:=p) (Nat.le_refl _) hx;have hM:zCm (up h.Mons m { zjj (ix h.Mons m zf) p (ix h.Mons m zf).Tables.length with Outer:=up (ix h.Mons m zf).Outer p s }):=zL9 hs.2.1 ⟨by simpa using hx.1,ht.2⟩
 unfold zeF;cases ine (ix (ix h.Mons m zf).Outer p zQ).Page (-1)
 ·exact ⟨hs.1,hM,hs.2.2⟩
 ·exact ⟨hs.1,hM,Nat.le_trans (zEm _ _) hs.2.2.1,Nat.le_trans (zEm _ _) hs.2.2.2⟩
def zY9:zbP:=zXd
theorem zY2:∀f run,zy zY9 f=some run->Holds Tryz.prog f run:=zSC
def zfX:zbP:=zY9
theorem zdV:∀f run,zy zfX f=some run->Holds Tryz.prog f run:=zY2
def ziV (o i t:Int):Int:=bif zds i t then 1 else (cond (zds o t) 2 0)
@[simp,reducible] def zo4 (o i t:Int):Bool:=true
@[simp,reducible] def zlD (o i t:Int):Int:=ziV o i t
def zqT:List AV->Option (Bool×List AV)
 | [.one (.i .i64 b),.one (.i .i64 c),.one (.i .i64 d)]=>some ((zo4 b c d),[.one (.i .i64 (zlD b c d))])
 | _=>none
def zwr (N:Nat)(a0 a1 a2:Int):Option Ans :=
 (cond (zhs a1 a2) (cond (zhf a1 a2) (some [(.one (.i .i64 1))]) (cond (zhs a0 a2) (cond (zhf a0 a2) (some [(.one (.i .i64 2))]) (some [(.one (.i .i64 0))])) none)) none)
theorem zS4 (N:Nat)(a0 a1 a2:Int):evalFn (cQ zfX zV zK zfE) (zB []) N 12 107 [.one (.i .i64 a0),.one (.i .i64 a1),.one (.i .i64 a2)]=zwr N a0 a1 a2:=by kernel_rfl
theorem zNp (a0 a1 a2:Int)(hb:zG big [.one (.i .i64 a0),.one (.i .i64 a1),.one (.i .i64 a2)])(hc:(zo4 a0 a1 a2)=true):∃N,zwr N a0 a1 a2=some [.one (.i .i64 (zlD a0 a1 a2))]:=by
 refine ⟨0,?_⟩;unfold zwr;refine must rfl (br (fun _=>?_) (fun _=>must rfl (br (fun _=>?_) (fun _=>?_))))
 all_goals first|rfl|(simp only [*,zlD,ziV,cT,cF]<;>rfl)|simp_all [Ty.cells,zlD,ziV]
theorem zGQ:Holds Tryz.prog 107 zqT:=zo zdV zD zu zc3 (zC (by kernel_rfl)) fun avs rs hb h=>by
 unfold zqT at h;split at h
 ·obtain ⟨hc,rfl⟩:=zl h;exact (zd7 zNp zS4 hc hb :)
 ·cases h
@[simp,reducible] def zxb (o i t:Int):Bool:=true
@[simp,reducible] def zjF (o i t:Int):Int:=ziV o i t
def zrb:List AV->Option (Bool×List AV)
 | [.one (.i .i64 b),.one (.i .i64 c),.one (.i .i64 d)]=>some ((zxb b c d),[.one (.i .i64 (zjF b c d))])
 | _=>none
def zwE (N:Nat)(a0 a1 a2:Int):Option Ans :=
 (cond (ziy a1 a2) (cond (zhW a1 a2) (some [(.one (.i .i64 1))]) (cond (ziy a0 a2) (cond (zhW a0 a2) (some [(.one (.i .i64 2))]) (some [(.one (.i .i64 0))])) none)) none)
theorem zSU (N:Nat)(a0 a1 a2:Int):evalFn (cQ zfX zV zK zfE) (zB []) N 12 128 [.one (.i .i64 a0),.one (.i .i64 a1),.one (.i .i64 a2)]=zwE N a0 a1 a2:=by kernel_rfl
theorem zM0 (a0 a1 a2:Int)(hb:zG big [.one (.i .i64 a0),.one (.i .i64 a1),.one (.i .i64 a2)])(hc:(zxb a0 a1 a2)=true):∃N,zwE N a0 a1 a2=some [.one (.i .i64 (zjF a0 a1 a2))]:=by
 refine ⟨0,?_⟩;unfold zwE;refine must rfl (br (fun _=>?_) (fun _=>must rfl (br (fun _=>?_) (fun _=>?_))))
 all_goals first|rfl|(simp only [*,zjF,ziV,cT,cF]<;>rfl)|simp_all [Ty.cells,zjF,ziV]
theorem zHZ:Holds Tryz.prog 128 zrb:=zo zdV zD zu zc3 (zC (by kernel_rfl)) fun avs rs hb h=>by
 unfold zrb at h;split at h
 ·obtain ⟨hc,rfl⟩:=zl h;exact (zd7 zM0 zSU hc hb :)
 ·cases h
theorem z1X (p:Int):hasB p 3=win p 0 2:=by
 unfold hasB win ige ile
 by_cases h1:0<=p<;>by_cases h2:p<3
 ·rw [decide_eq_true (p:=0<=p/\p<3) ⟨h1,h2⟩,decide_eq_true (p:=p≥0) h1,decide_eq_true (p:=p<=2) (by omega)];rfl
 ·rw [decide_eq_false (p:=0<=p/\p<3) (by omega),decide_eq_false (p:=p<=2) (by omega)];simp
 ·rw [decide_eq_false (p:=0<=p/\p<3) (by omega),decide_eq_false (p:=p≥0) (by omega)];simp
 ·rw [decide_eq_false (p:=0<=p/\p<3) (by omega),decide_eq_false (p:=p≥0) (by omega)];simp
theorem z2k (p:Int):hasB p 2=win p 0 1:=by
 unfold hasB win ige ile
 by_cases h1:0<=p<;>by_cases h2:p<2
 ·rw [decide_eq_true (p:=0<=p/\p<2) ⟨h1,h2⟩,decide_eq_true (p:=p≥0) h1,decide_eq_true (p:=p<=1) (by omega)];rfl
 ·rw [decide_eq_false (p:=0<=p/\p<2) (by omega),decide_eq_false (p:=p<=1) (by omega)];simp
 ·rw [decide_eq_false (p:=0<=p/\p<2) (by omega),decide_eq_false (p:=p≥0) (by omega)];simp
 ·rw [decide_eq_false (p:=0<=p/\p<2) (by omega),decide_eq_false (p:=p≥0) (by omega)];simp
def zi2 (m g:Int):Int:=bif win m 0 2 then (cond (win g 0 1) (zq .i64 (zq .i64 1 g) (zQI .i64 m 2)) 0) else 0
@[simp,reducible] def zB3 (m g:Int):Bool:=true
@[simp,reducible] def zch (m g:Int):Int:=zi2 m g
def zwF:List AV->Option (Bool×List AV)
 | [.one (.i .i64 b),.one (.i .i64 c)]=>some ((zB3 b c),[.one (.i .i64 (zch b c))])
 | _=>none
def zBq (N:Nat)(a0 a1:Int):Option Ans :=
 (cond (zZ a0 0 2) (cond (cond (zbf a0 0 2) false true) (some [(.one (.i .i64 0))]) (cond (zZ a1 0 1) (cond (cond (zbf a1 0 1) false true) (some [(.one (.i .i64 0))]) (some [(.one (.i .i64 (zq .i64 (zq .i64 1 a1) (zQI .i64 a0 2))))])) none)) none)
theorem zWC (N:Nat)(a0 a1:Int):evalFn (cQ zfX zV zK zfE) (zB []) N 12 156 [.one (.i .i64 a0),.one (.i .i64 a1)]=zBq N a0 a1:=by kernel_rfl
theorem zTN (a0 a1:Int)(hb:zG big [.one (.i .i64 a0),.one (.i .i64 a1)])(hc:(zB3 a0 a1)=true):∃N,zBq N a0 a1=some [.one (.i .i64 (zch a0 a1))]:=by
 refine ⟨0,?_⟩;unfold zBq;refine must rfl (brN (fun _=>?_) (fun _=>must rfl (brN (fun _=>?_) (fun _=>?_))))
 all_goals first|rfl|(simp only [*,zch,zi2,cT,cF]<;>rfl)|simp_all [Ty.cells,zch,zi2]
theorem zM2:Holds Tryz.prog 156 zwF:=zo zdV zD zu zc3 (zC (by kernel_rfl)) fun avs rs hb h=>by
 unfold zwF at h;split at h
 ·obtain ⟨hc,rfl⟩:=zl h;exact (fin2 zTN zWC hc hb :)
 ·cases h
@[simp,reducible] def zvr (m g:Int):Bool:=true
@[simp,reducible] def zen (m g:Int):Int:=zi2 m g
def zwO:List AV->Option (Bool×List AV)
 | [.one (.i .i64 b),.one (.i .i64 c)]=>some ((zvr b c),[.one (.i .i64 (zen b c))])
 | _=>none
def zCa (N:Nat)(a0 a1:Int):Option Ans :=
 (cond (zcz a0 3) (cond (cond (zcT a0 3) false true) (some [(.one (.i .i64 0))]) (cond (zcz a1 2) (cond (cond (zcT a1 2) false true) (some [(.one (.i .i64 0))]) (some [(.one (.i .i64 (zq .i64 (zq .i64 1 a1) (zQI .i64 a0 2))))])) none)) none)
theorem zWN (N:Nat)(a0 a1:Int):evalFn (cQ zfX zV zK zfE) (zB []) N 12 178 [.one (.i .i64 a0),.one (.i .i64 a1)]=zCa N a0 a1:=by kernel_rfl
theorem zTZ (a0 a1:Int)(hb:zG big [.one (.i .i64 a0),.one (.i .i64 a1)])(hc:(zvr a0 a1)=true):∃N,zCa N a0 a1=some [.one (.i .i64 (zen a0 a1))]:=by
 refine ⟨0,?_⟩;unfold zCa;refine must rfl (brN (fun _=>?_) (fun _=>must rfl (brN (fun _=>?_) (fun _=>?_))))
 all_goals first|rfl|(simp only [*,zen,zi2,z1X,z2k,cT,cF]<;>rfl)|simp_all [Ty.cells,zen,zi2,z1X,z2k]
theorem zN7:Holds Tryz.prog 178 zwO:=zo zdV zD zu zc3 (zC (by kernel_rfl)) fun avs rs hb h=>by
 unfold zwO at h;split at h
 ·obtain ⟨hc,rfl⟩:=zl h;exact (fin2 zTZ zWN hc hb :)
 ·cases h
def zkF (k:Kept)(p:Int):Bool:=bif zeo k p then ix k.Known p false else false
def ze4 (k:Kept)(p:Int):Slot:=bif zkF k p then ix k.Slots p zQ else noSlot
@[simp,reducible] def zCE (k:Kept)(p:Int):Bool:=pc (SmK k)
@[simp,reducible] def ziJ (k:Kept)(p:Int):Slot:=ze4 k p
@[simp,reducible] def zC8 (k:Kept)(p:Int):Bool:=zkF k p
def zBo:List AV->Option (Bool×List AV)
 | [.agg [.s .bool c,.s .slot d],.one (.i .i64 e)]=>some ((zCE (⟨c,d⟩:Kept) e),[.agg (Ty.cells .slot (ziJ (⟨c,d⟩:Kept) e)),.one (.b (zC8 (⟨c,d⟩:Kept) e))])
 | _=>none
def zKt (N:Nat)(a0:Kept)(a1:Int):Option Ans :=
 (cond (znd a0 a1) (cond (cond (zhv a0 a1) false true) (cond zc5 (some [(.agg [(.i .i64 zbZ.Page),(.i .i64 zbZ.Rights)]),(.one (.b false))]) none) (cond (inb a1 (ln a0.Known)) (cond (cond (ix a0.Known a1 false) false true) (cond zc5 (some [(.agg [(.i .i64 zbZ.Page),(.i .i64 zbZ.Rights)]),(.one (.b false))]) none) (cond (inb a1 (ln a0.Slots)) (some [(.agg [(.i .i64 (ix a0.Slots a1 zQ).Page),(.i .i64 (ix a0.Slots a1 zQ).Rights)]),(.one (.b true))]) none)) none)) none)
theorem zZM (N:Nat)(a0:Kept)(a1:Int):evalFn (cQ zfX zV zK zfE) (zB []) N 12 159 [.agg (Ty.cells .kept a0),.one (.i .i64 a1)]=zKt N a0 a1:=by kernel_rfl
theorem zYb (a0:Kept)(a1:Int)(hb:zG big [.agg (Ty.cells .kept a0),.one (.i .i64 a1)])(hc:(zCE a0 a1)=true):∃N,zKt N a0 a1=some [.agg (Ty.cells .slot (ziJ a0 a1)),.one (.b (zC8 a0 a1))]:=by
 have hs:=zI.1 hc;refine ⟨0,?_⟩;unfold zKt ziJ zC8 ze4 zkF;refine must (zbr hs) ?_;rw [show zhv a0 a1=zeo a0 a1 from rfl]
 cases hh:zeo a0 a1
 ·rfl
 ·unfold zeo at hh;obtain ⟨h1,h2⟩:=zdm.1 hh;simp only [zF h1,zF h2,cT];cases ix a0.Known a1 false<;>rfl
theorem zUS:Holds Tryz.prog 159 zBo:=zo zdV zD zu zc3 (zC (by kernel_rfl)) fun avs rs hb h=>by
 unfold zBo at h;split at h
 ·obtain ⟨hc,rfl⟩:=zl h;exact (fin2 zYb zZM hc hb :)
 ·cases h
@[simp,reducible] def zxB (k:Kept)(p:Int):Bool:=true
@[simp,reducible] def ziH (k:Kept)(p:Int):Slot:=ze4 k p
@[simp,reducible] def zCP (k:Kept)(p:Int):Bool:=zkF k p
def zBM:List AV->Option (Bool×List AV)
 | [.agg [.s .bool c,.s .slot d],.one (.i .i64 e)]=>some ((zxB (⟨c,d⟩:Kept) e),[.agg (Ty.cells .slot (ziH (⟨c,d⟩:Kept) e)),.one (.b (zCP (⟨c,d⟩:Kept) e))])
 | _=>none
def zJD (N:Nat)(a0:Kept)(a1:Int):Option Ans :=
 (cond (zcz a1 (ln a0.Known)) (cond (cond (zcT a1 (ln a0.Known)) false true) (cond zc6 (some [(.agg [(.i .i64 zcD.Page),(.i .i64 zcD.Rights)]),(.one (.b false))]) none) (cond (zcz a1 (ln a0.Slots)) (cond (cond (zcT a1 (ln a0.Slots)) false true) (cond zc6 (some [(.agg [(.i .i64 zcD.Page),(.i .i64 zcD.Rights)]),(.one (.b false))]) none) (cond (inb a1 (ln a0.Known)) (cond (cond (ix a0.Known a1 false) false true) (cond zc6 (some [(.agg [(.i .i64 zcD.Page),(.i .i64 zcD.Rights)]),(.one (.b false))]) none) (cond (inb a1 (ln a0.Slots)) (some [(.agg [(.i .i64 (ix a0.Slots a1 zQ).Page),(.i .i64 (ix a0.Slots a1 zQ).Rights)]),(.one (.b true))]) none)) none)) none)) none)
theorem zZA (N:Nat)(a0:Kept)(a1:Int):evalFn (cQ zfX zV zK zfE) (zB []) N 12 180 [.agg (Ty.cells .kept a0),.one (.i .i64 a1)]=zJD N a0 a1:=by kernel_rfl
theorem zY4 (a0:Kept)(a1:Int)(hb:zG big [.agg (Ty.cells .kept a0),.one (.i .i64 a1)])(hc:(zxB a0 a1)=true):∃N,zJD N a0 a1=some [.agg (Ty.cells .slot (ziH a0 a1)),.one (.b (zCP a0 a1))]:=by
 refine ⟨0,?_⟩;unfold zJD ziH zCP ze4 zkF zeo;rw [show zcT a1 (ln a0.Known)=hasB a1 (ln a0.Known) from rfl,show zcT a1 (ln a0.Slots)=hasB a1 (ln a0.Slots) from rfl]
 cases h1:hasB a1 (ln a0.Known)
 ·rfl
 ·cases h2:hasB a1 (ln a0.Slots)
  ·rfl
  ·simp only [zcz,zF h1,zF h2,cT];cases ix a0.Known a1 false<;>rfl
theorem zUx:Holds Tryz.prog 180 zBM:=zo zdV zD zu zc3 (zC (by kernel_rfl)) fun avs rs hb h=>by
 unfold zBM at h;split at h
 ·obtain ⟨hc,rfl⟩:=zl h;exact (fin2 zY4 zZA hc hb :)
 ·cases h
def filled (k:Kept)(inner outer:List Slot)(p:Int):Kept:=bif zeo k p then (cond (hasB p (ln inner)) ⟨up k.Known p true,up k.Slots p (zkI (ix inner p zQ) outer)⟩ k) else k
@[simp] theorem zXa {k:Kept}{inner outer:List Slot}{p:Int}(h:SmK k):SmK (filled k inner outer p):=by
 unfold filled;cases zeo k p
 ·exact h
 ·cases hasB p (ln inner)
  ·exact h
  ·exact ⟨by simpa using h.1,by simpa using h.2⟩
@[simp,reducible] def zFM (k:Kept)(i o:List Slot)(p:Int):Bool:=pc (SmK k)
@[simp,reducible] def zHQ (k:Kept)(i o:List Slot)(p:Int):Kept:=filled k i o p
def zzF:List AV->Option (Bool×List AV)
 | [.agg [.s .bool b,.s .slot c],.one (.s .slot d),.one (.s .slot e),.one (.i .i64 f)]=>some ((zFM (⟨b,c⟩:Kept) d e f),[.agg (Ty.cells .kept (zHQ (⟨b,c⟩:Kept) d e f))])
 | _=>none
def zFa (N:Nat)(a0:Kept)(a1 a2:List Slot)(a3:Int):Option Ans :=
 (cond (zgm a0) (cond (znd (zcb a0) a3) (cond (zhv (zcb a0) a3) (cond (ilt a3 (ln a1)) (cond (inb a3 (ln (zcb a0).Known)) (share (up (zcb a0).Known a3 true) (fun x5=>(cond (inb a3 (ln a1)) (cond (ziZ (ix a1 a3 zQ) a2) (cond (inb a3 (ln (zcb a0).Slots)) (share (up (zcb a0).Slots a3 (zkW (ix a1 a3 zQ) a2)) (fun x6=>(some [(.agg (Ty.cells .kept (⟨x5,x6⟩:Kept)))]))) none) none) none))) none) (some [(.agg (Ty.cells .kept (zcb a0)))])) (some [(.agg (Ty.cells .kept (zcb a0)))])) none) none)
theorem zYz (N:Nat)(a0:Kept)(a1 a2:List Slot)(a3:Int):evalFn (cQ zfX zV zK zfE) (zB []) N 12 161 [.agg (Ty.cells .kept a0),.one (.s .slot a1),.one (.s .slot a2),.one (.i .i64 a3)]=zFa N a0 a1 a2 a3:=by kernel_rfl
theorem zXH (a0:Kept)(a1 a2:List Slot)(a3:Int)(hb:zG big [.agg (Ty.cells .kept a0),.one (.s .slot a1),.one (.s .slot a2),.one (.i .i64 a3)])(hc:(zFM a0 a1 a2 a3)=true):∃N,zFa N a0 a1 a2 a3=some [.agg (Ty.cells .kept (zHQ a0 a1 a2 a3))]:=by
 have hs:=zI.1 hc;refine ⟨0,?_⟩;unfold zFa zHQ filled;refine must (zbr ((zCY _).2 hs)) (must (zbr hs) ?_);rw [show zhv (zcb a0) a3=zeo a0 a3 from rfl]
 cases hh:zeo a0 a3
 ·rfl
 ·unfold zeo at hh;obtain ⟨h1,h2⟩:=zdm.1 hh;rw [has_lt h1 (m:=ln a1)];cases h3:hasB a3 (ln a1)
  ·rfl
  ·simp only [cT,zcb,zF h1,zF h2,zF h3,share,ziZ];rfl
theorem zSQ:Holds Tryz.prog 161 zzF:=zo zdV zD zu zc3 (zC (by kernel_rfl)) fun avs rs hb h=>by
 unfold zzF at h;split at h
 ·obtain ⟨hc,rfl⟩:=zl h;exact (zWD zXH zYz hc hb :)
 ·cases h
@[simp,reducible] def zEU (k:Kept)(i o:List Slot)(p:Int):Bool:=pc (SmK k)
@[simp,reducible] def zIV (k:Kept)(i o:List Slot)(p:Int):Kept:=filled k i o p
def zyn:List AV->Option (Bool×List AV)
 | [.agg [.s .bool b,.s .slot c],.one (.s .slot d),.one (.s .slot e),.one (.i .i64 f)]=>some ((zEU (⟨b,c⟩:Kept) d e f),[.agg (Ty.cells .kept (zIV (⟨b,c⟩:Kept) d e f))])
 | _=>none
def zEw (N:Nat)(a0:Kept)(a1 a2:List Slot)(a3:Int):Option Ans :=
 (cond (zfI a0) (cond (zcz a3 (ln a0.Known)) (cond (zcT a3 (ln a0.Known)) (cond (zcz a3 (ln a0.Slots)) (cond (zcT a3 (ln a0.Slots)) (cond (zcz a3 (ln a1)) (cond (zcT a3 (ln a1)) (cond (inb a3 (ln (zb9 a0).Known)) (share (up (zb9 a0).Known a3 true) (fun x5=>(cond (inb a3 (ln a1)) (cond (zi0 (ix a1 a3 zQ) a2) (cond (inb a3 (ln (zb9 a0).Slots)) (share (up (zb9 a0).Slots a3 (zkR (ix a1 a3 zQ) a2)) (fun x6=>(some [(.agg (Ty.cells .kept (⟨x5,x6⟩:Kept)))]))) none) none) none))) none) (some [(.agg (Ty.cells .kept (zb9 a0)))])) none) (some [(.agg (Ty.cells .kept (zb9 a0)))])) none) (some [(.agg (Ty.cells .kept (zb9 a0)))])) none) none)
theorem zYp (N:Nat)(a0:Kept)(a1 a2:List Slot)(a3:Int):evalFn (cQ zfX zV zK zfE) (zB []) N 12 182 [.agg (Ty.cells .kept a0),.one (.s .slot a1),.one (.s .slot a2),.one (.i .i64 a3)]=zEw N a0 a1 a2 a3:=by kernel_rfl
theorem zWH (a0:Kept)(a1 a2:List Slot)(a3:Int)(hb:zG big [.agg (Ty.cells .kept a0),.one (.s .slot a1),.one (.s .slot a2),.one (.i .i64 a3)])(hc:(zEU a0 a1 a2 a3)=true):∃N,zEw N a0 a1 a2 a3=some [.agg (Ty.cells .kept (zIV a0 a1 a2 a3))]:=by
 have hs:=zI.1 hc;refine ⟨0,?_⟩;unfold zEw zIV filled zeo;refine must (zbr hs) ?_;simp only [zcT,zcz,zb9,cT];cases h1:hasB a3 (ln a0.Known)
 ·rfl
 ·cases h2:hasB a3 (ln a0.Slots)
  ·rfl
  ·cases h3:hasB a3 (ln a1)
   ·rfl
   ·simp only [cT,zF h1,zF h2,zF h3,share,zi0];rfl
theorem zSG:Holds Tryz.prog 182 zyn:=zo zdV zD zu zc3 (zC (by kernel_rfl)) fun avs rs hb h=>by
 unfold zyn at h;split at h
 ·obtain ⟨hc,rfl⟩:=zl h;exact (zWD zWH zYp hc hb :)
 ·cases h
theorem zEH {α ρ:Type}(p:α->Bool)(r:α->Option ρ)(K:Unit->Option ρ):∀(l:List α) (i:Nat),goL (fun _ x (_:Unit) k=>bif p x then r x else k ()) K l i ()=match l.find? p with|some x=>r x|none=>K ()
 | [],_=>rfl
 | x :: l,i=>by
  simp only [goL];cases h:p x
  ·rw [List.find?_cons_of_neg (by simp [h])]
   exact zEH p r K l (i+1)
  ·rw [List.find?_cons_of_pos h];rfl
def zzG (b:List Entry)(t p:Int):Option Entry:=b.find? fun e=>bif ieq e.Tag t then ieq e.Page p else false
@[simp,reducible] def zkY (b:List Entry)(t p:Int):Bool:=true
@[simp,reducible] def zbW (b:List Entry)(t p:Int):Entry:=(zzG b t p).getD ⟨0,0,0,0⟩
@[simp,reducible] def ziq (b:List Entry)(t p:Int):Bool:=(zzG b t p).isSome
def zlZ:List AV->Option (Bool×List AV)
 | [.one (.s .entry c),.one (.i .i64 d),.one (.i .i64 e)]=>some ((zkY c d e),[.agg (Ty.cells .entry (zbW c d e)),.one (.b (ziq c d e))])
 | _=>none
def zq2 (N:Nat)(a0:List Entry)(a1 a2:Int):Option Ans :=
 (iter (σ:=(Int×(Int×(Int×(Int×(Int×(Int×(Int×((List Entry)×Unit))))))))) N (fun r4 s5=>(cond (ilt s5.2.2.1 (ln s5.2.2.2.2.2.2.2.1)) (cond (inb s5.2.2.1 (ln s5.2.2.2.2.2.2.2.1)) (cond (ieq (ix s5.2.2.2.2.2.2.2.1 s5.2.2.1 zby).Tag s5.1) (cond (inb s5.2.2.1 (ln s5.2.2.2.2.2.2.2.1)) (cond (ieq (ix s5.2.2.2.2.2.2.2.1 s5.2.2.1 zby).Page s5.2.1) (cond (inb s5.2.2.1 (ln s5.2.2.2.2.2.2.2.1)) (some [(.agg [(.i .i64 (ix s5.2.2.2.2.2.2.2.1 s5.2.2.1 zby).Tag),(.i .i64 (ix s5.2.2.2.2.2.2.2.1 s5.2.2.1 zby).Page),(.i .i64 (ix s5.2.2.2.2.2.2.2.1 s5.2.2.1 zby).Host),(.i .i64 (ix s5.2.2.2.2.2.2.2.1 s5.2.2.1 zby).Rights)]),(.one (.b true))]) none) (r4 (s5.1,(s5.2.1,((zq .i64 s5.2.2.1 1),(s5.2.2.2.1,(s5.2.2.2.2.1,(s5.2.2.2.2.2.1,(s5.2.2.2.2.2.2.1,(s5.2.2.2.2.2.2.2.1,())))))))))) none) (r4 (s5.1,(s5.2.1,((zq .i64 s5.2.2.1 1),(s5.2.2.2.1,(s5.2.2.2.2.1,(s5.2.2.2.2.2.1,(s5.2.2.2.2.2.2.1,(s5.2.2.2.2.2.2.2.1,())))))))))) none) (some [(.agg [(.i .i64 0),(.i .i64 0),(.i .i64 0),(.i .i64 0)]),(.one (.b false))]))) (a1,(a2,(0,(0,(0,(0,(0,(a0,())))))))))
def zIq:FuncId->Nat->Option Tmpl:=zB [(157,0,{ n:=36,tm:=[(0,.sl 0 []),(1,.i .i64),(2,.i .i64),(6,.lp 0 0),(8,.i .i64)],lo:=[(0,[.i .i64,.i .i64,.i .i64,.i .i64])],ro:=[(0,.entry,false)] })]
theorem zJN (N:Nat)(a0:List Entry)(a1 a2:Int):evalFn (cQ zfX zV zK zfE) zIq N 12 157 [.one (.s .entry a0),.one (.i .i64 a1),.one (.i .i64 a2)]=zq2 N a0 a1 a2:=by kernel_rfl
theorem zGq (a0:List Entry)(a1 a2:Int)(hb:zG big [.one (.s .entry a0),.one (.i .i64 a1),.one (.i .i64 a2)])(hc:(zkY a0 a1 a2)=true):∃N,zq2 N a0 a1 a2=some [.agg (Ty.cells .entry (zbW a0 a1 a2)),.one (.b (ziq a0 a1 a2))]:=by
 have hl:=((zbt hb).1 _ (List.mem_singleton.2 rfl)).len;refine ⟨NN,?_⟩;have hNN:∀{n:Nat},n<=big->n<NN:=fun h=>zb4 h;generalize NN=N at hNN ⊢;unfold zq2;refine (zbF a0 (fun i (t:Unit)=>(a1,a2,(i:Int),0,0,0,0,a0,())) _ (fun _ (x:Entry) (_:Unit) κ=>bif (cond (ieq x.Tag a1) (ieq x.Page a2) false) then (some [AV.agg (Ty.cells .entry x),AV.one (.b true)]) else κ ()) (fun (t:Unit)=>(some [(.agg [(.i .i64 0),(.i .i64 0),(.i .i64 0),(.i .i64 0)]),(.one (.b false))])) (fun i hi t rec=>?_) (fun t rec=>?_) _ () (hNN hl)).trans ?_
 ·simp only [zbu hi,zbh hi,zbq hi,zbd hi hl,cT];cases ieq a0[i].Tag a1<;>cases ieq a0[i].Page a2<;>rfl
 ·simp only [zbk,cF]
 rw [zEH (fun e:Entry=>bif ieq e.Tag a1 then ieq e.Page a2 else false)]
 unfold zbW ziq zzG;cases a0.find? (fun e:Entry=>bif ieq e.Tag a1 then ieq e.Page a2 else false)<;>rfl
theorem zDP:Holds Tryz.prog 157 zlZ:=zo zdV zD zu zc3 (zC (by kernel_rfl)) fun avs rs hb h=>by
 unfold zlZ at h;split at h
 ·obtain ⟨hc,rfl⟩:=zl h;exact (zd7 zGq zJN hc hb :)
 ·cases h
@[simp,reducible] def zkT (b:List Entry)(t p:Int):Bool:=true
@[simp,reducible] def zeu (b:List Entry)(t p:Int):Entry:=(zzG b t p).getD ⟨0,0,0,0⟩
@[simp,reducible] def zil (b:List Entry)(t p:Int):Bool:=(zzG b t p).isSome
def zms:List AV->Option (Bool×List AV)
 | [.one (.s .entry c),.one (.i .i64 d),.one (.i .i64 e)]=>some ((zkT c d e),[.agg (Ty.cells .entry (zeu c d e)),.one (.b (zil c d e))])
 | _=>none
def zpE (N:Nat)(a0:List Entry)(a1 a2:Int):Option Ans :=
 (iter (σ:=(Int×(Int×(Int×(Int×(Int×(Int×(Int×(Int×((List Entry)×Unit)))))))))) N (fun r4 s5=>(cond (ilt s5.2.2.2.1 s5.2.2.1) (cond (inb s5.2.2.2.1 (ln s5.2.2.2.2.2.2.2.2.1)) (cond (ieq (ix s5.2.2.2.2.2.2.2.2.1 s5.2.2.2.1 zby).Tag s5.1) (cond (ieq (ix s5.2.2.2.2.2.2.2.2.1 s5.2.2.2.1 zby).Page s5.2.1) (some [(.agg [(.i .i64 (ix s5.2.2.2.2.2.2.2.2.1 s5.2.2.2.1 zby).Tag),(.i .i64 (ix s5.2.2.2.2.2.2.2.2.1 s5.2.2.2.1 zby).Page),(.i .i64 (ix s5.2.2.2.2.2.2.2.2.1 s5.2.2.2.1 zby).Host),(.i .i64 (ix s5.2.2.2.2.2.2.2.2.1 s5.2.2.2.1 zby).Rights)]),(.one (.b true))]) (r4 (s5.1,(s5.2.1,(s5.2.2.1,((zq .i64 s5.2.2.2.1 1),(s5.2.2.2.2.1,(s5.2.2.2.2.2.1,(s5.2.2.2.2.2.2.1,(s5.2.2.2.2.2.2.2.1,(s5.2.2.2.2.2.2.2.2.1,()))))))))))) (r4 (s5.1,(s5.2.1,(s5.2.2.1,((zq .i64 s5.2.2.2.1 1),(s5.2.2.2.2.1,(s5.2.2.2.2.2.1,(s5.2.2.2.2.2.2.1,(s5.2.2.2.2.2.2.2.1,(s5.2.2.2.2.2.2.2.2.1,()))))))))))) none) (some [(.agg [(.i .i64 0),(.i .i64 0),(.i .i64 0),(.i .i64 0)]),(.one (.b false))]))) (a1,(a2,((ln a0),(0,(0,(0,(0,(0,(a0,()))))))))))
def zIF:FuncId->Nat->Option Tmpl:=zB [(179,0,{ n:=29,tm:=[(1,.i .i64),(2,.i .i64),(6,.lp 0 0),(10,.sl 0 []),(11,.i .i64),(12,.i .i64)],lo:=[(0,[.i .i64,.i .i64,.i .i64,.i .i64])],ro:=[(0,.entry,false)] })]
theorem zLM (N:Nat)(a0:List Entry)(a1 a2:Int):evalFn (cQ zfX zV zK zfE) zIF N 12 179 [.one (.s .entry a0),.one (.i .i64 a1),.one (.i .i64 a2)]=zpE N a0 a1 a2:=by kernel_rfl
theorem zI2 (a0:List Entry)(a1 a2:Int)(hb:zG big [.one (.s .entry a0),.one (.i .i64 a1),.one (.i .i64 a2)])(hc:(zkT a0 a1 a2)=true):∃N,zpE N a0 a1 a2=some [.agg (Ty.cells .entry (zeu a0 a1 a2)),.one (.b (zil a0 a1 a2))]:=by
 have hl:=((zbt hb).1 _ (List.mem_singleton.2 rfl)).len;refine ⟨NN,?_⟩;have hNN:∀{n:Nat},n<=big->n<NN:=fun h=>zb4 h;generalize NN=N at hNN ⊢;unfold zpE;refine (zbF a0 (fun i (t:Unit)=>(a1,a2,(ln a0),(i:Int),0,0,0,0,a0,())) _ (fun _ (x:Entry) (_:Unit) κ=>bif (cond (ieq x.Tag a1) (ieq x.Page a2) false) then (some [AV.agg (Ty.cells .entry x),AV.one (.b true)]) else κ ()) (fun (t:Unit)=>(some [(.agg [(.i .i64 0),(.i .i64 0),(.i .i64 0),(.i .i64 0)]),(.one (.b false))])) (fun i hi t rec=>?_) (fun t rec=>?_) _ () (hNN hl)).trans ?_
 ·simp only [zbu hi,zbh hi,zbq hi,zbd hi hl,cT];cases ieq a0[i].Tag a1<;>cases ieq a0[i].Page a2<;>rfl
 ·simp only [zbk,cF]
 rw [zEH (fun e:Entry=>bif ieq e.Tag a1 then ieq e.Page a2 else false)]
 unfold zeu zil zzG;cases a0.find? (fun e:Entry=>bif ieq e.Tag a1 then ieq e.Page a2 else false)<;>rfl
theorem zDG:Holds Tryz.prog 179 zms:=zo zdV zD zu zc3 (zC (by kernel_rfl)) fun avs rs hb h=>by
 unfold zms at h;split at h
 ·obtain ⟨hc,rfl⟩:=zl h;exact (zd7 zI2 zLM hc hb :)
 ·cases h
def zsn (t p:Int)(e:Entry):Bool:=bif ine e.Tag t then true else ine e.Page p
def zdC (b:List Entry)(t p:Int):List Entry:=b.filter (zsn t p)
theorem zXG (b:List Entry)(t p:Int):(zdC b t p).length<=b.length:=List.length_filter_le _ _
@[simp,reducible] def zqy (b:List Entry)(t p:Int):Bool:=pc (b.length<=1048576)
@[simp,reducible] def zd6 (b:List Entry)(t p:Int):List Entry:=zdC b t p
def zmj:List AV->Option (Bool×List AV)
 | [.one (.s .entry b),.one (.i .i64 c),.one (.i .i64 d)]=>some ((zqy b c d),[.one (.s .entry (zd6 b c d))])
 | _=>none
def zqm (N:Nat)(a0:List Entry)(a1 a2:Int):Option Ans :=
 (iter (σ:=(Int×(Int×(Int×((List Entry)×((List Entry)×Unit)))))) N (fun r4 s5=>(cond (ilt s5.2.2.1 (ln s5.2.2.2.1)) (cond (inb s5.2.2.1 (ln s5.2.2.2.1)) (cond (ine (ix s5.2.2.2.1 s5.2.2.1 zby).Tag s5.1) (cond (inb s5.2.2.1 (ln s5.2.2.2.1)) (cond (few (ln (ap s5.2.2.2.2.1 [(ix s5.2.2.2.1 s5.2.2.1 zby)]))) (r4 (s5.1,(s5.2.1,((zq .i64 s5.2.2.1 1),(s5.2.2.2.1,((ap s5.2.2.2.2.1 [(ix s5.2.2.2.1 s5.2.2.1 zby)]),())))))) none) none) (cond (inb s5.2.2.1 (ln s5.2.2.2.1)) (cond (ine (ix s5.2.2.2.1 s5.2.2.1 zby).Page s5.2.1) (cond (inb s5.2.2.1 (ln s5.2.2.2.1)) (cond (few (ln (ap s5.2.2.2.2.1 [(ix s5.2.2.2.1 s5.2.2.1 zby)]))) (r4 (s5.1,(s5.2.1,((zq .i64 s5.2.2.1 1),(s5.2.2.2.1,((ap s5.2.2.2.2.1 [(ix s5.2.2.2.1 s5.2.2.1 zby)]),())))))) none) none) (r4 (s5.1,(s5.2.1,((zq .i64 s5.2.2.1 1),(s5.2.2.2.1,(s5.2.2.2.2.1,()))))))) none)) none) (some [(.one (.s .entry s5.2.2.2.2.1))]))) (a1,(a2,(0,(a0,([],()))))))
def zG8:FuncId->Nat->Option Tmpl:=zB [(204,0,{ n:=40,tm:=[(0,.sl 0 []),(1,.i .i64),(2,.i .i64),(7,.sl 1 []),(8,.i .i64)],lo:=[],ro:=[(0,.entry,false),(1,.entry,true)] })]
theorem zJ9 (N:Nat)(a0:List Entry)(a1 a2:Int):evalFn (cQ zfX zV zK zfE) zG8 N 12 204 [.one (.s .entry a0),.one (.i .i64 a1),.one (.i .i64 a2)]=zqm N a0 a1 a2:=by kernel_rfl
theorem zGx (a0:List Entry)(a1 a2:Int)(hb:zG big [.one (.s .entry a0),.one (.i .i64 a1),.one (.i .i64 a2)])(hc:(zqy a0 a1 a2)=true):∃N,zqm N a0 a1 a2=some [.one (.s .entry (zd6 a0 a1 a2))]:=by
 have hs:=zI.1 hc;have hl:=zcA hs;refine ⟨NN,?_⟩;have hNN:∀{n:Nat},n<=big->n<NN:=fun h=>zb4 h;generalize NN=N at hNN ⊢;unfold zqm;refine (zbF a0 (fun i (t:(List Entry))=>(a1,a2,(i:Int),a0,t,())) _ (fun _ (x:Entry) (t:List Entry) κ=>bif zsn a1 a2 x then (cond (few (ln (ap t [x]))) (κ (ap t [x])) none) else κ t) (fun (t:(List Entry))=>(some [(.one (.s .entry t))])) (fun i hi t rec=>?_) (fun t rec=>?_) _ ([]) (hNN hl.1)).trans ?_
 ·simp only [zbu hi,zbh hi,zbq hi,zbd hi hl.1,cT];unfold zsn;cases ine a0[i].Tag a1<;>cases ine a0[i].Page a2<;>rfl
 ·simp only [zbk,cF]
 exact zjK (zsn a1 a2) _ a0 0 [] (by simpa using hl.2)
theorem zDD:Holds Tryz.prog 204 zmj:=zo zdV zD zu zc3 (zC (by kernel_rfl)) fun avs rs hb h=>by
 unfold zmj at h;split at h
 ·obtain ⟨hc,rfl⟩:=zl h;exact (zd7 zGx zJ9 hc hb :)
 ·cases h
@[simp,reducible] def zqd (b:List Entry)(t p:Int):Bool:=pc (b.length<=1048576)
@[simp,reducible] def zft (b:List Entry)(t p:Int):List Entry:=zdC b t p
def znk:List AV->Option (Bool×List AV)
 | [.one (.s .entry b),.one (.i .i64 c),.one (.i .i64 d)]=>some ((zqd b c d),[.one (.s .entry (zft b c d))])
 | _=>none
def zpG (N:Nat)(a0:List Entry)(a1 a2:Int):Option Ans :=
 (iter (σ:=(Int×(Int×(Int×(Int×((List Entry)×((List Entry)×Unit))))))) N (fun r4 s5=>(cond (ilt s5.2.1 s5.1) (cond (inb s5.2.1 (ln s5.2.2.2.2.2.1)) (cond (ieq (ix s5.2.2.2.2.2.1 s5.2.1 zby).Tag s5.2.2.1) (cond (cond (ieq (ix s5.2.2.2.2.2.1 s5.2.1 zby).Page s5.2.2.2.1) false true) (cond (few (ln (ap s5.2.2.2.2.1 [(ix s5.2.2.2.2.2.1 s5.2.1 zby)]))) (r4 (s5.1,((zq .i64 s5.2.1 1),(s5.2.2.1,(s5.2.2.2.1,((ap s5.2.2.2.2.1 [(ix s5.2.2.2.2.2.1 s5.2.1 zby)]),(s5.2.2.2.2.2.1,()))))))) none) (r4 (s5.1,((zq .i64 s5.2.1 1),(s5.2.2.1,(s5.2.2.2.1,(s5.2.2.2.2.1,(s5.2.2.2.2.2.1,())))))))) (cond (few (ln (ap s5.2.2.2.2.1 [(ix s5.2.2.2.2.2.1 s5.2.1 zby)]))) (r4 (s5.1,((zq .i64 s5.2.1 1),(s5.2.2.1,(s5.2.2.2.1,((ap s5.2.2.2.2.1 [(ix s5.2.2.2.2.2.1 s5.2.1 zby)]),(s5.2.2.2.2.2.1,()))))))) none)) none) (some [(.one (.s .entry s5.2.2.2.2.1))]))) ((ln a0),(0,(a1,(a2,([],(a0,())))))))
def zHL:FuncId->Nat->Option Tmpl:=zB [(243,0,{ n:=25,tm:=[(1,.fn 244 [0,1]),(5,.sl 0 []),(9,.sl 1 []),(10,.i .i64),(11,.i .i64)],lo:=[(0,[.i .i64]),(1,[.i .i64])],ro:=[(0,.entry,true),(1,.entry,false)] })]
theorem zKu (N:Nat)(a0:List Entry)(a1 a2:Int):evalFn (cQ zfX zV zK zfE) zHL N 12 217 [.one (.s .entry a0),.one (.i .i64 a1),.one (.i .i64 a2)]=zpG N a0 a1 a2:=by kernel_rfl
theorem zGK (a0:List Entry)(a1 a2:Int)(hb:zG big [.one (.s .entry a0),.one (.i .i64 a1),.one (.i .i64 a2)])(hc:(zqd a0 a1 a2)=true):∃N,zpG N a0 a1 a2=some [.one (.s .entry (zft a0 a1 a2))]:=by
 have hs:=zI.1 hc;have hl:=zcA hs;refine ⟨NN,?_⟩;have hNN:∀{n:Nat},n<=big->n<NN:=fun h=>zb4 h;generalize NN=N at hNN ⊢;unfold zpG;refine (zbF a0 (fun i (t:(List Entry))=>((ln a0),(i:Int),a1,a2,t,a0,())) _ (fun _ (x:Entry) (t:List Entry) κ=>bif zsn a1 a2 x then (cond (few (ln (ap t [x]))) (κ (ap t [x])) none) else κ t) (fun (t:(List Entry))=>(some [(.one (.s .entry t))])) (fun i hi t rec=>?_) (fun t rec=>?_) _ ([]) (hNN hl.1)).trans ?_
 ·simp only [zbu hi,zbh hi,zbq hi,zbd hi hl.1,cT];unfold zsn;simp only [zj2];cases ieq a0[i].Tag a1<;>cases ieq a0[i].Page a2<;>rfl
 ·simp only [zbk,cF]
 exact zjK (zsn a1 a2) _ a0 0 [] (by simpa using hl.2)
theorem zDL:Holds Tryz.prog 217 znk:=zo zdV zD zu zc3 (zC (by kernel_rfl)) fun avs rs hb h=>by
 unfold znk at h;split at h
 ·obtain ⟨hc,rfl⟩:=zl h;exact (zd7 zGK zKu hc hb :)
 ·cases h
def zC1:zbP:=[(107,zqT),(128,zrb),(156,zwF),(178,zwO),(159,zBo),(180,zBM),(161,zzF),(182,zyn),(157,zlZ),(179,zms),(204,zmj),(217,znk)]++zfX
theorem zuO:zbv zC1:=zn zGQ (zn zHZ (zn zM2 (zn zN7 (zn zUS (zn zUx (zn zSQ (zn zSG (zn zDP (zn zDG (zn zDD (zn zDL zdV)))))))))))
def zA9 (b:List Entry)(e:Entry):List Entry:=bif igt (ln (ap (zdC b e.Tag e.Page) [e])) 6 then dp (ap (zdC b e.Tag e.Page) [e]) (wsub .i64 (ln (ap (zdC b e.Tag e.Page) [e])) 6) else ap (zdC b e.Tag e.Page) [e]
theorem zz1 {b:List Entry}(e:Entry)(h:b.length<=1048576):(zA9 b e).length<=1048576/\(ap (zdC b e.Tag e.Page) [e]).length<=1048577:=by
 have h1:=zXG b e.Tag e.Page;have h2:(ap (zdC b e.Tag e.Page) [e]).length<=1048577:=by simp [ap];omega
 refine ⟨?_,h2⟩;unfold zA9;cases h3:igt (ln (ap (zdC b e.Tag e.Page) [e])) 6
 ·have h3:=of_decide_eq_false h3;simp only [ln] at h3;simp only [cF];omega
 ·simp only [cT,dp,List.length_drop];have h3:=of_decide_eq_true h3;have:wsub .i64 (ln (ap (zdC b e.Tag e.Page) [e])) 6=ln (ap (zdC b e.Tag e.Page) [e])-6:=zlv (by simp only [ln] at *;omega) (by simp only [ln] at *;omega)
  rw [this];simp only [ln] at *;omega
@[simp,reducible] def zna (b:List Entry)(e:Entry):Bool:=pc (b.length<=1048576)
@[simp,reducible] def znf (b:List Entry)(e:Entry):List Entry:=zA9 b e
def znz:List AV->Option (Bool×List AV)
 | [.one (.s .entry b),.agg [.i .i64 c,.i .i64 d,.i .i64 e,.i .i64 f]]=>some ((zna b (⟨c,d,e,f⟩:Entry)),[.one (.s .entry (znf b (⟨c,d,e,f⟩:Entry)))])
 | _=>none
def zt3 (N:Nat)(a0:List Entry)(a1:Entry):Option Ans :=
 (cond (zqy a0 a1.Tag a1.Page) (cond (few (ln (ap (zd6 a0 a1.Tag a1.Page) [a1]))) (cond (igt (ln (ap (zd6 a0 a1.Tag a1.Page) [a1])) 6) (cond (inr (wsub .i64 (ln (ap (zd6 a0 a1.Tag a1.Page) [a1])) 6) (ln (ap (zd6 a0 a1.Tag a1.Page) [a1])) (ln (ap (zd6 a0 a1.Tag a1.Page) [a1]))) (cond (few (ln (ap [] (dp (ap (zd6 a0 a1.Tag a1.Page) [a1]) (wsub .i64 (ln (ap (zd6 a0 a1.Tag a1.Page) [a1])) 6))))) (some [(.one (.s .entry (ap [] (dp (ap (zd6 a0 a1.Tag a1.Page) [a1]) (wsub .i64 (ln (ap (zd6 a0 a1.Tag a1.Page) [a1])) 6)))))]) none) none) (some [(.one (.s .entry (ap (zd6 a0 a1.Tag a1.Page) [a1])))])) none) none)
theorem zOx (N:Nat)(a0:List Entry)(a1:Entry):evalFn (cQ zC1 zV zK zfE) (zB []) N 12 162 [.one (.s .entry a0),.agg (Ty.cells .entry a1)]=zt3 N a0 a1:=by kernel_rfl
theorem zKl (a0:List Entry)(a1:Entry)(hb:zG big [.one (.s .entry a0),.agg (Ty.cells .entry a1)])(hc:(zna a0 a1)=true):∃N,zt3 N a0 a1=some [.one (.s .entry (znf a0 a1))]:=by
 have hs:=zI.1 hc;obtain ⟨h1,h2⟩:=zz1 a1 hs;refine ⟨0,?_⟩;unfold zt3;refine must (zbr hs) (must (zes (Nat.le_trans h2 (by decide:1048577<=2147483648))) ?_)
 unfold znf zA9 at *
 show _=some [AV.one (.s .entry (cond (igt (ln (ap (zdC a0 a1.Tag a1.Page) [a1])) 6) (dp (ap (zdC a0 a1.Tag a1.Page) [a1]) (wsub .i64 (ln (ap (zdC a0 a1.Tag a1.Page) [a1])) 6)) (ap (zdC a0 a1.Tag a1.Page) [a1])))]
 cases h3:igt (ln (ap (zdC a0 a1.Tag a1.Page) [a1])) 6
 ·rfl
 ·rw [h3] at h1;simp only [cT] at h1;have h3:=of_decide_eq_true h3;have e:wsub .i64 (ln (ap (zdC a0 a1.Tag a1.Page) [a1])) 6=ln (ap (zdC a0 a1.Tag a1.Page) [a1])-6:=zlv (by simp only [ln] at *;omega) (by simp only [ln] at *;omega)
  refine must rfl (must (decide_eq_true ?_) (must ?_ ?_))
  ·show 0<=wsub .i64 (ln (ap (zdC a0 a1.Tag a1.Page) [a1])) 6/\wsub .i64 (ln (ap (zdC a0 a1.Tag a1.Page) [a1])) 6<=ln (ap (zdC a0 a1.Tag a1.Page) [a1])/\ln (ap (zdC a0 a1.Tag a1.Page) [a1])<=ln (ap (zdC a0 a1.Tag a1.Page) [a1])
   rw [e];simp only [ln] at *;omega
  ·exact zoy h1
  ·rw [zkD];rfl
theorem zFX:Holds Tryz.prog 162 znz:=zo zuO zD zu zc3 (zC (by kernel_rfl)) fun avs rs hb h=>by
 unfold znz at h;split at h
 ·obtain ⟨hc,rfl⟩:=zl h;exact (fin2 zKl zOx hc hb :)
 ·cases h
@[simp,reducible] def zng (b:List Entry)(e:Entry):Bool:=pc (b.length<=1048576)
@[simp,reducible] def zmK (b:List Entry)(e:Entry):List Entry:=zA9 b e
def znW:List AV->Option (Bool×List AV)
 | [.one (.s .entry b),.agg [.i .i64 c,.i .i64 d,.i .i64 e,.i .i64 f]]=>some ((zng b (⟨c,d,e,f⟩:Entry)),[.one (.s .entry (zmK b (⟨c,d,e,f⟩:Entry)))])
 | _=>none
def zsp (N:Nat)(a0:List Entry)(a1:Entry):Option Ans :=
 (cond (zqd a0 a1.Tag a1.Page) (cond (few (ln (ap (zft a0 a1.Tag a1.Page) [a1]))) (cond (inr (imax 0 (wsub .i64 (ln (ap (zft a0 a1.Tag a1.Page) [a1])) 6)) (ln (ap (zft a0 a1.Tag a1.Page) [a1])) (ln (ap (zft a0 a1.Tag a1.Page) [a1]))) (some [(.one (.s .entry (dp (ap (zft a0 a1.Tag a1.Page) [a1]) (imax 0 (wsub .i64 (ln (ap (zft a0 a1.Tag a1.Page) [a1])) 6)))))]) none) none) none)
theorem zOG (N:Nat)(a0:List Entry)(a1:Entry):evalFn (cQ zC1 zV zK zfE) (zB []) N 12 183 [.one (.s .entry a0),.agg (Ty.cells .entry a1)]=zsp N a0 a1:=by kernel_rfl
theorem zJj (a0:List Entry)(a1:Entry)(hb:zG big [.one (.s .entry a0),.agg (Ty.cells .entry a1)])(hc:(zng a0 a1)=true):∃N,zsp N a0 a1=some [.one (.s .entry (zmK a0 a1))]:=by
 have hs:=zI.1 hc;obtain ⟨_,h2⟩:=zz1 a1 hs;refine ⟨0,?_⟩;unfold zsp zmK zA9;simp only [zft];generalize ap (zdC a0 a1.Tag a1.Page) [a1]=l at h2 ⊢;refine must (zbr hs) (must (zes (Nat.le_trans h2 (by decide:1048577<=2147483648))) ?_)
 have e:wsub .i64 (ln l) 6=ln l-6:=zlv (by simp only [ln] at *;omega) (by simp only [ln] at *;omega)
 rw [e];cases h3:igt (ln l) 6
 ·have h3:=of_decide_eq_false h3;have e2:imax 0 (ln l-6)=0:=by
   unfold imax;rw [if_neg (by omega)]
  rw [e2];exact must (decide_eq_true (by simp only [ln];omega)) (by simp [dp])
 ·have h3:=of_decide_eq_true h3;have e2:imax 0 (ln l-6)=ln l-6:=by
   unfold imax;rw [if_pos (by omega)]
  rw [e2];exact must (decide_eq_true (by simp only [ln] at *;omega)) rfl
theorem zFF:Holds Tryz.prog 183 znW:=zo zuO zD zu zc3 (zC (by kernel_rfl)) fun avs rs hb h=>by
 unfold znW at h;split at h
 ·obtain ⟨hc,rfl⟩:=zl h;exact (fin2 zJj zOG hc hb :)
 ·cases h
def zAA (l:List Slot)(p:Int):Option Nat:=l.findIdx? fun s=>ieq s.Page p
def zkP (p:Int):List Mon->Nat->Int×Int
 | [],_=>(-1,-1)
 | m :: l,i=>match zAA m.Outer p with|some k=>((i:Int),(k:Int))|none=>zkP p l (i+1)
def zdv (h:Host)(p:Int):Int×Int:=bif ilt p 0 then (-1,-1) else zkP p h.Mons 0
theorem zMw {ρ:Type}(p:Slot->Bool)(r:Nat->Option ρ)(K:Unit->Option ρ):∀(l:List Slot) (i:Nat),goL (fun j x (_:Unit) k=>bif p x then r j else k ()) K l i ()=match l.findIdx? p with|some k=>r (i+k)|none=>K ()
 | [],_=>rfl
 | x :: l,i=>by
  simp only [goL];rw [List.findIdx?_cons];cases h:p x
  ·simp only [cF,Bool.false_eq_true,if_false];rw [zMw p r K l (i+1)];cases l.findIdx? p with
   | none=>rfl
   | some k=>simp only [Option.map_some];congr 1;omega
  ·rfl
theorem zLb {ρ:Type}(p:Int)(r:Int->Int->Option ρ):∀(l:List Mon) (i:Nat),goL (fun i (x:Mon) (_:Unit) κ=>goL (fun j (y:Slot) (_:Unit) κ₁=>bif ieq y.Page p then r (i:Int) (j:Int) else κ₁ ()) (fun _=>κ ()) x.Outer 0 ()) (fun _=>r (-1) (-1)) l i ()=r (zkP p l i).1 (zkP p l i).2
 | [],_=>rfl
 | m :: l,i=>by
  simp only [goL,zkP];rw [zMw (fun s=>ieq s.Page p) (fun j=>r (i:Int) (j:Int))];unfold zAA;cases m.Outer.findIdx? (fun s=>ieq s.Page p) with
  | none=>exact zLb p r l (i+1)
  | some k=>simp only [Nat.zero_add]
@[simp,reducible] def ziX (h:Host)(p:Int):Bool:=true
@[simp,reducible] def zfM (h:Host)(p:Int):Int:=(zdv h p).1
@[simp,reducible] def zg9 (h:Host)(p:Int):Int:=(zdv h p).2
def zkr:List AV->Option (Bool×List AV)
 | [.agg [.s (.sl .int) b,.s .mon c,.s .entry d,.s .entry e],.one (.i .i64 f)]=>some ((ziX (⟨b,c,d,e⟩:Host) f),[.one (.i .i64 (zfM (⟨b,c,d,e⟩:Host) f)),.one (.i .i64 (zg9 (⟨b,c,d,e⟩:Host) f))])
 | _=>none
def znr (N:Nat)(a0:Host)(a1:Int):Option Ans :=
 (cond (ilt a1 0) (some [(.one (.i .i64 (-1))),(.one (.i .i64 (-1)))]) (iter (σ:=(Int×(Int×(Int×((List Mon)×Unit))))) N (fun r3 s4=>(cond (ilt s4.2.2.1 s4.2.1) (cond (inb s4.2.2.1 (ln s4.2.2.2.1)) (iter (σ:=(Int×(Int×(Int×(Int×(Int×(Int×(Int×((List Mon)×Unit))))))))) N (fun r5 s6=>(cond (ilt s6.2.2.2.2.2.2.1 s6.2.2.2.2.2.1) (cond (inb s6.2.2.2.2.2.2.1 (ln (ix s6.2.2.2.2.2.2.2.1 s6.2.2.2.2.1 zf).Outer)) (cond (ieq (ix (ix s6.2.2.2.2.2.2.2.1 s6.2.2.2.2.1 zf).Outer s6.2.2.2.2.2.2.1 zQ).Page s6.1) (some [(.one (.i .i64 s6.2.1)),(.one (.i .i64 s6.2.2.2.2.2.2.1))]) (r5 (s6.1,(s6.2.1,(s6.2.2.1,(s6.2.2.2.1,(s6.2.2.2.2.1,(s6.2.2.2.2.2.1,((zq .i64 s6.2.2.2.2.2.2.1 1),(s6.2.2.2.2.2.2.2.1,())))))))))) none) (r3 (s6.1,(s6.2.2.1,((zq .i64 s6.2.2.2.1 1),(s6.2.2.2.2.2.2.2.1,()))))))) (s4.1,(s4.2.2.1,(s4.2.1,(s4.2.2.1,(s4.2.2.1,((ln (ix s4.2.2.2.1 s4.2.2.1 zf).Outer),(0,(s4.2.2.2.1,()))))))))) none) (some [(.one (.i .i64 (-1))),(.one (.i .i64 (-1)))]))) (a1,((ln a0.Mons),(0,(a0.Mons,()))))))
def zDQ:FuncId->Nat->Option Tmpl:=zB [(251,0,{ n:=36,tm:=[(1,.i .i64),(13,.sl 0 []),(14,.i .i64),(15,.i .i64)],lo:=[],ro:=[(0,.mon,false)] }),(251,2,{ n:=36,tm:=[(1,.i .i64),(6,.i .i64),(13,.sl 0 []),(14,.i .i64),(15,.i .i64),(21,.sl 0 [0]),(22,.i .i64),(23,.i .i64)],lo:=[],ro:=[(0,.mon,false)] })]
theorem zFL (N:Nat)(a0:Host)(a1:Int):evalFn (cQ zC1 zV zK zfE) zDQ N 12 251 [.agg (zx a0),.one (.i .i64 a1)]=znr N a0 a1:=by kernel_rfl
theorem zDj (a0:Host)(a1:Int)(hb:zG big [.agg (zx a0),.one (.i .i64 a1)])(hc:(ziX a0 a1)=true):∃N,znr N a0 a1=some [.one (.i .i64 (zfM a0 a1)),.one (.i .i64 (zg9 a0 a1))]:=by
 have hm:CVB big (.s .mon a0.Mons):=(zbt hb).1 _ (by simp [AV.cvs,zx])
 have hl:=hm.len;refine ⟨NN,?_⟩;have hNN:∀{n:Nat},n<=big->n<NN:=fun h=>zb4 h;generalize NN=N at hNN ⊢;unfold znr zfM zg9 zdv;cases h0:ilt a1 0
 ·simp only [cF];refine (zbF a0.Mons (fun i (t:Unit)=>(a1,(ln a0.Mons),(i:Int),a0.Mons,())) _ (fun i (x:Mon) (_:Unit) κ=>goL (fun j (y:Slot) (_:Unit) κ₁=>bif ieq y.Page a1 then some [AV.one (.i .i64 (i:Int)),AV.one (.i .i64 (j:Int))] else κ₁ ()) (fun _=>κ ()) x.Outer 0 ()) (fun (t:Unit)=>(some [(.one (.i .i64 (-1))),(.one (.i .i64 (-1)))])) (fun i hi t rec=>?_) (fun t rec=>?_) _ () (hNN hl)).trans ?_
  ·simp only [zbu hi,zbh hi,zbq hi,zbd hi hl,cT];have ho:a0.Mons[i].Outer.length<=big:=(hm.inv.2 _ (List.getElem_mem hi) (.s .slot _) (by simp [Ty.cells])).len
   refine (zbF a0.Mons[i].Outer (fun j (u:Unit)=>(a1,(i:Int),(ln a0.Mons),(i:Int),(i:Int),(ln a0.Mons[i].Outer),(j:Int),a0.Mons,())) _ (fun j (y:Slot) (_:Unit) κ₁=>bif ieq y.Page a1 then some [AV.one (.i .i64 (i:Int)),AV.one (.i .i64 (j:Int))] else κ₁ ()) (fun (u:Unit)=>(rec (a1,((ln a0.Mons),((((i+1:Nat)):Int),(a0.Mons,())))))) (fun j hj u rec1=>?_) (fun u rec1=>?_) _ () (hNN ho)).trans ?_
   ·simp only [zbu hj,zbh hj,zbq hj,zbd hj ho,cT,zbh hi,zbq hi,zbd hi hl]
   ·simp only [zbk,cF,zbh hi,zbq hi,zbd hi hl]
   rfl
  ·simp only [zbk,cF]
  exact zLb a1 (fun i j=>some [AV.one (.i .i64 i),AV.one (.i .i64 j)]) a0.Mons 0
 ·rfl
theorem zAS:Holds Tryz.prog 251 zkr:=zo zuO zD zu zc3 (zC (by kernel_rfl)) fun avs rs hb h=>by
 unfold zkr at h;split at h
 ·obtain ⟨hc,rfl⟩:=zl h;exact (fin2 zDj zFL hc hb :)
 ·cases h
theorem zYI {α τ ρ:Type}(r:Option ρ):∀(l:List α) (i:Nat) (t:τ),goL (fun _ _ _ _=>r) (fun _=>r) l i t=r
 | [],_,_=>rfl
 | _ :: _,_,_=>rfl
@[simp,reducible] def ziY (h:Host)(p:Int):Bool:=true
@[simp,reducible] def zbC (h:Host)(p:Int):Int:=(zdv h p).1
@[simp,reducible] def zbG (h:Host)(p:Int):Int:=(zdv h p).2
def zkk:List AV->Option (Bool×List AV)
 | [.agg [.s (.sl .int) b,.s .mon c,.s .entry d,.s .entry e],.one (.i .i64 f)]=>some ((ziY (⟨b,c,d,e⟩:Host) f),[.one (.i .i64 (zbC (⟨b,c,d,e⟩:Host) f)),.one (.i .i64 (zbG (⟨b,c,d,e⟩:Host) f))])
 | _=>none
def znp (N:Nat)(a0:Host)(a1:Int):Option Ans :=
 (iter (σ:=(Int×(Int×((List (List Int))×((List Mon)×((List Entry)×((List Entry)×Unit))))))) N (fun r3 s4=>(cond (ilt s4.2.1 (ln s4.2.2.2.1)) (cond (ige s4.1 0) (iter (σ:=(Int×(Int×(Int×((List (List Int))×((List Mon)×((List Entry)×((List Entry)×Unit)))))))) N (fun r5 s6=>(cond (inb s6.2.1 (ln s6.2.2.2.2.1)) (cond (ilt s6.2.2.1 (ln (ix s6.2.2.2.2.1 s6.2.1 zf).Outer)) (cond (inb s6.2.1 (ln s6.2.2.2.2.1)) (cond (inb s6.2.2.1 (ln (ix s6.2.2.2.2.1 s6.2.1 zf).Outer)) (cond (ieq (ix (ix s6.2.2.2.2.1 s6.2.1 zf).Outer s6.2.2.1 zQ).Page s6.1) (some [(.one (.i .i64 s6.2.1)),(.one (.i .i64 s6.2.2.1))]) (r5 (s6.1,(s6.2.1,((zq .i64 s6.2.2.1 1),(s6.2.2.2.1,(s6.2.2.2.2.1,(s6.2.2.2.2.2.1,(s6.2.2.2.2.2.2.1,()))))))))) none) none) (r3 (s6.1,((zq .i64 s6.2.1 1),(s6.2.2.2.1,(s6.2.2.2.2.1,(s6.2.2.2.2.2.1,(s6.2.2.2.2.2.2.1,())))))))) none)) (s4.1,(s4.2.1,(0,(s4.2.2.1,(s4.2.2.2.1,(s4.2.2.2.2.1,(s4.2.2.2.2.2.1,())))))))) (some [(.one (.i .i64 (-1))),(.one (.i .i64 (-1)))])) (some [(.one (.i .i64 (-1))),(.one (.i .i64 (-1)))]))) (a1,(0,(a0.Memory,(a0.Mons,(a0.Buffer,(a0.IoBuffer,())))))))
def zDE:FuncId->Nat->Option Tmpl:=zB [(226,0,{ n:=44,tm:=[(1,.i .i64),(2,.lp 0 0),(6,.i .i64)],lo:=[(0,[.sl 0 [],.sl 1 [],.sl 2 [],.sl 3 []])],ro:=[(0,(.sl .int),false),(1,.mon,false),(2,.entry,false),(3,.entry,false)] }),(226,2,{ n:=44,tm:=[(1,.i .i64),(2,.lp 0 0),(6,.i .i64),(7,.i .i64)],lo:=[(0,[.sl 0 [],.sl 1 [],.sl 2 [],.sl 3 []])],ro:=[(0,(.sl .int),false),(1,.mon,false),(2,.entry,false),(3,.entry,false)] })]
theorem zGc (N:Nat)(a0:Host)(a1:Int):evalFn (cQ zC1 zV zK zfE) zDE N 12 226 [.agg (zx a0),.one (.i .i64 a1)]=znp N a0 a1:=by kernel_rfl
theorem zDC (a0:Host)(a1:Int)(hb:zG big [.agg (zx a0),.one (.i .i64 a1)])(hc:(ziY a0 a1)=true):∃N,znp N a0 a1=some [.one (.i .i64 (zbC a0 a1)),.one (.i .i64 (zbG a0 a1))]:=by
 have hm:CVB big (.s .mon a0.Mons):=(zbt hb).1 _ (by simp [AV.cvs,zx])
 have hl:=hm.len;refine ⟨NN,?_⟩;have hNN:∀{n:Nat},n<=big->n<NN:=fun h=>zb4 h;generalize NN=N at hNN ⊢;unfold znp zbC zbG zdv;refine (zbF a0.Mons (fun i (t:Unit)=>(a1,(i:Int),a0.Memory,a0.Mons,a0.Buffer,a0.IoBuffer,())) _ (fun i (x:Mon) (_:Unit) κ=>bif ige a1 0 then goL (fun j (y:Slot) (_:Unit) κ₁=>bif ieq y.Page a1 then some [AV.one (.i .i64 (i:Int)),AV.one (.i .i64 (j:Int))] else κ₁ ()) (fun _=>κ ()) x.Outer 0 () else some [AV.one (.i .i64 (-1)),AV.one (.i .i64 (-1))]) (fun (t:Unit)=>(some [(.one (.i .i64 (-1))),(.one (.i .i64 (-1)))])) (fun i hi t rec=>?_) (fun t rec=>?_) _ () (hNN hl)).trans ?_
 ·simp only [zbu hi,zbh hi,zbq hi,zbd hi hl,cT];cases h0:ige a1 0
  ·rfl
  have ho:a0.Mons[i].Outer.length<=big:=(hm.inv.2 _ (List.getElem_mem hi) (.s .slot _) (by simp [Ty.cells])).len
  simp only [cT];refine (zbF a0.Mons[i].Outer (fun j (_:Unit)=>(a1,((i:Int),((j:Int),(a0.Memory,(a0.Mons,(a0.Buffer,(a0.IoBuffer,())))))))) _ (fun j (y:Slot) (_:Unit) κ₁=>bif ieq y.Page a1 then some [AV.one (.i .i64 (i:Int)),AV.one (.i .i64 (j:Int))] else κ₁ ()) (fun _=>rec (a1,(((i+1:Nat):Int),(a0.Memory,(a0.Mons,(a0.Buffer,(a0.IoBuffer,()))))))) (fun j hj u rec1=>?_) (fun u rec1=>?_) _ () (hNN ho)).trans ?_
  ·simp only [zbu hj,zbh hj,zbq hj,zbd hj ho,cT,zbh hi,zbq hi]
  ·simp only [zbk,cF,cT,zbh hi,zbq hi,zbd hi hl]
  rfl
 ·simp only [zbk,cF]
 cases h0:ige a1 0
 ·have h1:ilt a1 0=true:=by
   have:=of_decide_eq_false h0;exact decide_eq_true (by omega)
  rw [h1];exact zYI _ _ _ _
 ·have h1:ilt a1 0=false:=by
   have:=of_decide_eq_true h0;exact decide_eq_false (by omega)
  rw [h1];exact zLb a1 (fun i j=>some [AV.one (.i .i64 i),AV.one (.i .i64 j)]) a0.Mons 0
theorem zAU:Holds Tryz.prog 226 zkk:=zo zuO zD zu zc3 (zC (by kernel_rfl)) fun avs rs hb h=>by
 unfold zkk at h;split at h
 ·obtain ⟨hc,rfl⟩:=zl h;exact (fin2 zDC zGc hc hb :)
 ·cases h
def zC7:zbP:=[(162,znz),(183,znW),(226,zkk),(251,zkr)]++zC1
theorem zsI:zbv zC7:=zn zFX (zn zFF (zn zAU (zn zAS zuO)))
def zcP (h:Host):List Int:=zFg (fun i=>ilt (zdv h (i:Int)).1 0) h.Memory.length 0
@[simp,reducible] def zjR (h:Host):Bool:=pc (h.Memory.length<=1048576)
@[simp,reducible] def zc1 (h:Host):List Int:=zcP h
def ztB:List AV->Option (Bool×List AV)
 | [.agg [.s (.sl .int) b,.s .mon c,.s .entry d,.s .entry e]]=>some ((zjR (⟨b,c,d,e⟩:Host)),[.one (.s .int (zc1 (⟨b,c,d,e⟩:Host)))])
 | _=>none
def zzY (N:Nat)(a0:Host):Option Ans :=
 (iter (σ:=(Int×((List Int)×((List (List Int))×((List Mon)×((List Entry)×((List Entry)×Unit))))))) N (fun r2 s3=>(cond (ilt s3.1 (ln s3.2.2.1)) (cond (ziY (⟨s3.2.2.1,s3.2.2.2.1,s3.2.2.2.2.1,s3.2.2.2.2.2.1⟩:Host) s3.1) (cond (ilt (zbC (⟨s3.2.2.1,s3.2.2.2.1,s3.2.2.2.2.1,s3.2.2.2.2.2.1⟩:Host) s3.1) 0) (cond (few (ln (ap s3.2.1 [s3.1]))) (r2 ((zq .i64 s3.1 1),((ap s3.2.1 [s3.1]),(s3.2.2.1,(s3.2.2.2.1,(s3.2.2.2.2.1,(s3.2.2.2.2.2.1,()))))))) none) (r2 ((zq .i64 s3.1 1),(s3.2.1,(s3.2.2.1,(s3.2.2.2.1,(s3.2.2.2.2.1,(s3.2.2.2.2.2.1,())))))))) none) (some [(.one (.s .int s3.2.1))]))) (0,([],(a0.Memory,(a0.Mons,(a0.Buffer,(a0.IoBuffer,())))))))
def zPF:FuncId->Nat->Option Tmpl:=zB [(225,0,{ n:=28,tm:=[(1,.lp 0 0),(3,.sl 0 []),(4,.i .i64)],lo:=[(0,[.sl 1 [],.sl 2 [],.sl 3 [],.sl 4 []])],ro:=[(0,.int,true),(1,(.sl .int),false),(2,.mon,false),(3,.entry,false),(4,.entry,false)] })]
theorem zVa (N:Nat)(a0:Host):evalFn (cQ zC7 zV zK zfE) zPF N 12 225 [.agg (zx a0)]=zzY N a0:=by kernel_rfl
theorem zRE (a0:Host)(hb:zG big [.agg (zx a0)])(hc:(zjR a0)=true):∃N,zzY N a0=some [.one (.s .int (zc1 a0))]:=by
 have hs:=zI.1 hc;have hl:=zcA hs;refine ⟨NN,?_⟩;have hNN:∀{n:Nat},n<=big->n<NN:=fun h=>zb4 h;generalize NN=N at hNN ⊢;unfold zzY;refine (zbF a0.Memory (fun i (t:(List Int))=>((i:Int),t,a0.Memory,a0.Mons,a0.Buffer,a0.IoBuffer,())) _ (fun i (_:List Int) (t:List Int) κ=>bif ilt (zdv a0 (i:Int)).1 0 then (cond (few (ln (ap t [(i:Int)]))) (κ (ap t [(i:Int)])) none) else κ t) (fun (t:(List Int))=>(some [(.one (.s .int t))])) (fun i hi t rec=>?_) (fun t rec=>?_) _ ([]) (hNN hl.1)).trans ?_
 ·simp only [zbu hi,zbh hi,zbq hi,zbd hi hl.1,cT]
 ·simp only [zbk,cF]
 rw [zyb (fun i (t:List Int) κ=>bif ilt (zdv a0 (i:Int)).1 0 then (cond (few (ln (ap t [(i:Int)]))) (κ (ap t [(i:Int)])) none) else κ t)]
 exact zzL (fun i=>ilt (zdv a0 (i:Int)).1 0) _ _ 0 [] (by simpa using hl.2)
theorem zJ3:Holds Tryz.prog 225 ztB:=zo zsI zD zu zc3 (zC (by kernel_rfl)) fun avs rs hb h=>by
 unfold ztB at h;split at h
 ·obtain ⟨hc,rfl⟩:=zl h;exact (fin1 zRE zVa hc hb :)
 ·cases h
@[simp,reducible] def zj9 (h:Host):Bool:=pc (h.Memory.length<=1048576)
@[simp,reducible] def zdy (h:Host):List Int:=zcP h
def zut:List AV->Option (Bool×List AV)
 | [.agg [.s (.sl .int) b,.s .mon c,.s .entry d,.s .entry e]]=>some ((zj9 (⟨b,c,d,e⟩:Host)),[.one (.s .int (zdy (⟨b,c,d,e⟩:Host)))])
 | _=>none
def zyc (N:Nat)(a0:Host):Option Ans :=
 (iter (σ:=(Int×(Int×((List Int)×((List (List Int))×((List Mon)×((List Entry)×((List Entry)×Unit)))))))) N (fun r2 s3=>(cond (ilt s3.2.1 s3.1) (cond (ziX (⟨s3.2.2.2.1,s3.2.2.2.2.1,s3.2.2.2.2.2.1,s3.2.2.2.2.2.2.1⟩:Host) s3.2.1) (cond (ilt (zfM (⟨s3.2.2.2.1,s3.2.2.2.2.1,s3.2.2.2.2.2.1,s3.2.2.2.2.2.2.1⟩:Host) s3.2.1) 0) (cond (few (ln (ap s3.2.2.1 [s3.2.1]))) (r2 (s3.1,((zq .i64 s3.2.1 1),((ap s3.2.2.1 [s3.2.1]),(s3.2.2.2.1,(s3.2.2.2.2.1,(s3.2.2.2.2.2.1,(s3.2.2.2.2.2.2.1,())))))))) none) (r2 (s3.1,((zq .i64 s3.2.1 1),(s3.2.2.1,(s3.2.2.2.1,(s3.2.2.2.2.1,(s3.2.2.2.2.2.1,(s3.2.2.2.2.2.2.1,()))))))))) none) (some [(.one (.s .int s3.2.2.1))]))) ((ln a0.Memory),(0,([],(a0.Memory,(a0.Mons,(a0.Buffer,(a0.IoBuffer,()))))))))
def zRw:FuncId->Nat->Option Tmpl:=zB [(237,0,{ n:=28,tm:=[(1,.lp 0 0),(3,.sl 0 []),(10,.i .i64),(11,.i .i64)],lo:=[(0,[.sl 1 [],.sl 2 [],.sl 3 [],.sl 4 []])],ro:=[(0,.int,true),(1,(.sl .int),false),(2,.mon,false),(3,.entry,false),(4,.entry,false)] })]
theorem zTP (N:Nat)(a0:Host):evalFn (cQ zC7 zV zK zfE) zRw N 12 237 [.agg (zx a0)]=zyc N a0:=by kernel_rfl
theorem zS3 (a0:Host)(hb:zG big [.agg (zx a0)])(hc:(zj9 a0)=true):∃N,zyc N a0=some [.one (.s .int (zdy a0))]:=by
 have hs:=zI.1 hc;have hl:=zcA hs;refine ⟨NN,?_⟩;have hNN:∀{n:Nat},n<=big->n<NN:=fun h=>zb4 h;generalize NN=N at hNN ⊢;unfold zyc;refine (zbF a0.Memory (fun i (t:(List Int))=>((ln a0.Memory),(i:Int),t,a0.Memory,a0.Mons,a0.Buffer,a0.IoBuffer,())) _ (fun i (_:List Int) (t:List Int) κ=>bif ilt (zdv a0 (i:Int)).1 0 then (cond (few (ln (ap t [(i:Int)]))) (κ (ap t [(i:Int)])) none) else κ t) (fun (t:(List Int))=>(some [(.one (.s .int t))])) (fun i hi t rec=>?_) (fun t rec=>?_) _ ([]) (hNN hl.1)).trans ?_
 ·simp only [zbu hi,zbh hi,zbq hi,zbd hi hl.1,cT]
 ·simp only [zbk,cF]
 rw [zyb (fun i (t:List Int) κ=>bif ilt (zdv a0 (i:Int)).1 0 then (cond (few (ln (ap t [(i:Int)]))) (κ (ap t [(i:Int)])) none) else κ t)]
 exact zzL (fun i=>ilt (zdv a0 (i:Int)).1 0) _ _ 0 [] (by simpa using hl.2)
theorem zL2:Holds Tryz.prog 237 zut:=zo zsI zD zu zc3 (zC (by kernel_rfl)) fun avs rs hb h=>by
 unfold zut at h;split at h
 ·obtain ⟨hc,rfl⟩:=zl h;exact (fin1 zS3 zTP hc hb :)
 ·cases h
def zh9 (m:List (List Int))(p:Int)(c:List Int):List (List Int):=bif hasB p (ln m) then (cond (zc4 c) (up m p c) m) else m
@[simp,reducible] def zi7 (m:List (List Int))(p:Int)(c:List Int):Bool:=pc (SmM m/\c.length<=1048576)
@[simp,reducible] def zf5 (m:List (List Int))(p:Int)(c:List Int):List (List Int):=zh9 m p c
def zoi:List AV->Option (Bool×List AV)
 | [.one (.s (.sl .int) b),.one (.i .i64 c),.one (.s .int d)]=>some ((zi7 b c d),[.one (.s (.sl .int) (zf5 b c d))])
 | _=>none
def zsU (N:Nat)(a0:List (List Int))(a1:Int)(a2:List Int):Option Ans :=
 (cond (zgh a0) (cond (zZ a1 0 (wsub .i64 (ln a0) 1)) (cond (zbf a1 0 (wsub .i64 (ln a0) 1)) (cond (zfm a2) (cond (zeP a2) (cond (few (ln (ap [] a2))) (cond (inb a1 (ln (zdg a0))) (share (up (zdg a0) a1 (ap [] a2)) (fun x4=>(some [(.one (.s (.sl .int) x4))]))) none) none) (some [(.one (.s (.sl .int) (zdg a0)))])) none) (some [(.one (.s (.sl .int) (zdg a0)))])) none) none)
theorem zMX (N:Nat)(a0:List (List Int))(a1:Int)(a2:List Int):evalFn (cQ zC7 zV zK zfE) (zB []) N 12 228 [.one (.s (.sl .int) a0),.one (.i .i64 a1),.one (.s .int a2)]=zsU N a0 a1 a2:=by kernel_rfl
theorem zKO (a0:List (List Int))(a1:Int)(a2:List Int)(hb:zG big [.one (.s (.sl .int) a0),.one (.i .i64 a1),.one (.s .int a2)])(hc:(zi7 a0 a1 a2)=true):∃N,zsU N a0 a1 a2=some [.one (.s (.sl .int) (zf5 a0 a1 a2))]:=by
 obtain ⟨hs,hs2⟩:=zI.1 hc;refine ⟨0,?_⟩;unfold zsU zf5 zh9;refine must (zbr ((znV _).2 hs)) (must rfl ?_);rw [show zbf a1 0 (wsub .i64 (ln a0) 1)=hasB a1 (ln a0) from zr8 hs.1 a1]
 cases h1:hasB a1 (ln a0)
 ·rfl
 ·simp only [cT,zfm,zeP];cases h2:zc4 a2
  ·rfl
  ·refine must rfl (must (zoy hs2) (must (zF h1) ?_));rw [zkD];rfl
theorem zFu:Holds Tryz.prog 228 zoi:=zo zsI zD zu zc3 (zC (by kernel_rfl)) fun avs rs hb h=>by
 unfold zoi at h;split at h
 ·obtain ⟨hc,rfl⟩:=zl h;exact (zd7 zKO zMX hc hb :)
 ·cases h
@[simp,reducible] def zjA (m:List (List Int))(p:Int)(c:List Int):Bool:=pc (SmM m/\c.length<=1048576)
@[simp,reducible] def zf7 (m:List (List Int))(p:Int)(c:List Int):List (List Int):=zh9 m p c
def znX:List AV->Option (Bool×List AV)
 | [.one (.s (.sl .int) b),.one (.i .i64 c),.one (.s .int d)]=>some ((zjA b c d),[.one (.s (.sl .int) (zf7 b c d))])
 | _=>none
def zs8 (N:Nat)(a0:List (List Int))(a1:Int)(a2:List Int):Option Ans :=
 (cond (zfl a0) (cond (zcz a1 (ln a0)) (cond (zcT a1 (ln a0)) (cond (zgY a2) (cond (zfP a2) (cond (zdl a2) (cond (inb a1 (ln (zcX a0))) (share (up (zcX a0) a1 (zdh a2)) (fun x4=>(some [(.one (.s (.sl .int) x4))]))) none) none) (some [(.one (.s (.sl .int) (zcX a0)))])) none) (some [(.one (.s (.sl .int) (zcX a0)))])) none) none)
theorem zOH (N:Nat)(a0:List (List Int))(a1:Int)(a2:List Int):evalFn (cQ zC7 zV zK zfE) (zB []) N 12 239 [.one (.s (.sl .int) a0),.one (.i .i64 a1),.one (.s .int a2)]=zs8 N a0 a1 a2:=by kernel_rfl
theorem zJq (a0:List (List Int))(a1:Int)(a2:List Int)(hb:zG big [.one (.s (.sl .int) a0),.one (.i .i64 a1),.one (.s .int a2)])(hc:(zjA a0 a1 a2)=true):∃N,zs8 N a0 a1 a2=some [.one (.s (.sl .int) (zf7 a0 a1 a2))]:=by
 obtain ⟨hs,hs2⟩:=zI.1 hc;refine ⟨0,?_⟩;unfold zs8 zf7 zh9;refine must (zbr hs) (must rfl ?_);rw [show zcT a1 (ln a0)=hasB a1 (ln a0) from rfl]
 cases h1:hasB a1 (ln a0)
 ·rfl
 ·simp only [cT,zgY,zfP];cases h2:zc4 a2
  ·rfl
  ·refine must rfl (must (zbr (Nat.le_trans hs2 (by decide))) (must (zF h1) rfl))
theorem zFY:Holds Tryz.prog 239 znX:=zo zsI zD zu zc3 (zC (by kernel_rfl)) fun avs rs hb h=>by
 unfold znX at h;split at h
 ·obtain ⟨hc,rfl⟩:=zl h;exact (zd7 zJq zOH hc hb :)
 ·cases h
def zkN:zbP:=[(225,ztB),(237,zut),(228,zoi),(239,znX)]++zC7
theorem zgz:zbv zkN:=zn zJ3 (zn zL2 (zn zFu (zn zFY zsI)))
abbrev mZ:Mon:=Ty.dflt .mon
abbrev sZ:Slot:=Ty.dflt .slot
def ShM (x:Mon):Prop:=x.Outer.length=8/\x.Out.length=8/\x.Dirty.length=8/\x.Tables.length=x.Guests.length
def Shape (h:Host):Prop:=SmH h/\∀x∈h.Mons,ShM x
theorem zhn {h:Host}{m:Int}{x:Mon}(hs:Shape h)(h1:znq x)(h2:ShM x):Shape { h with Mons:=up h.Mons m x }:=by
 refine ⟨⟨hs.1.1,zL9 hs.1.2.1 h1,hs.1.2.2⟩,fun y hy=>?_⟩;rcases List.mem_or_eq_of_mem_set hy with hy|rfl
 ·exact hs.2 y hy
 ·exact h2
theorem zck {h:Host}(hs:Shape h){m:Int}(hm:hasB m (ln h.Mons)=true):znq (ix h.Mons m mZ)/\ShM (ix h.Mons m mZ):=⟨hs.1.2.1.2 _ (zde hm _),hs.2 _ (zde hm _)⟩
theorem zMd {h:Host}{mm:List (List Int)}(hs:Shape h)(h1:SmM mm):Shape { h with Memory:=mm }:=⟨⟨h1,hs.1.2⟩,hs.2⟩
theorem zqp {h:Host}{m p:Int}{s:Slot}(hm:hasB m (ln h.Mons)=true)(hs:Shape h):Shape (zeF h m p s):=by
 refine ⟨zTd hm hs.1,?_⟩;obtain ⟨_,h2⟩:=zck hs hm;have key:∀y∈up h.Mons m { zjj (ix h.Mons m mZ) p (ix h.Mons m mZ).Tables.length with Outer:=up (ix h.Mons m mZ).Outer p s },ShM y:=by
  intro y hy;rcases List.mem_or_eq_of_mem_set hy with hy|rfl
  ·exact hs.2 y hy
  ·exact ⟨by simpa using h2.1,h2.2.1,h2.2.2.1,by simpa [zjj,znU] using h2.2.2.2⟩
 unfold zeF;cases ine (ix (ix h.Mons m mZ).Outer p sZ).Page (-1)<;>exact key
theorem zfy (h:Host)(m p:Int)(s:Slot):(zeF h m p s).Mons=up h.Mons m { zjj (ix h.Mons m mZ) p (ix h.Mons m mZ).Tables.length with Outer:=up (ix h.Mons m mZ).Outer p s }/\(zeF h m p s).Memory=h.Memory:=by
 unfold zeF;cases ine (ix (ix h.Mons m mZ).Outer p sZ).Page (-1)<;>exact ⟨rfl,rfl⟩
theorem zed {h:Host}{m k:Int}{x:Mon}(hm:hasB m (ln h.Mons)=true):hasB m (ln (up h.Mons k x))=true:=by simpa [ln] using hm
theorem zEl {h:Host}{m k p:Int}{s:Slot}(hm:hasB m (ln h.Mons)=true):hasB m (ln (zeF h k p s).Mons)=true:=by
 rw [(zfy h k p s).1];exact zed hm
theorem zdc {α:Type}{l:List α}{p:Int}(h:l.length=8)(hp:hasB p 8=true):hasB p (ln l)=true:=by rw [ln,h];exact hp
def zzo (h:Host)(m p:Int)(s:Slot):Host :=
 bif ine s.Page (-1) then ⟨h.Memory,up h.Mons m (zjj (ix h.Mons m mZ) p (ix h.Mons m mZ).Guests.length),flushed h.Buffer s.Page,flushed h.IoBuffer s.Page⟩
 else ⟨h.Memory,up h.Mons m (zjj (ix h.Mons m mZ) p (ix h.Mons m mZ).Guests.length),h.Buffer,h.IoBuffer⟩
theorem zyl {h:Host}{k:Nat}{p:Int}{s:Slot}(hk:k<h.Mons.length)(ht:(ix h.Mons (k:Int) mZ).Tables.length=(ix h.Mons (k:Int) mZ).Guests.length) :
 zzo { h with Mons:=up h.Mons (k:Int) { ix h.Mons (k:Int) mZ with Outer:=up (ix h.Mons (k:Int) mZ).Outer p s } } (k:Int) p (ix (ix h.Mons (k:Int) mZ).Outer p sZ)=zeF h (k:Int) p s:=by
 unfold zeF zzo;simp only [ze5 hk,zCH,zjj,ht]
def zWy {ρ:Type}(m p:Int)(i:Nat)(t:List Mon)(κ:List Mon->Option ρ):Option ρ :=
 (cond (inb (i:Int) (ln (ix t m mZ).Tables)) (cond (inb (i:Int) (ln (ix t m mZ).Guests)) (cond (pc (SmK (ix (ix t m mZ).Tables (i:Int) zbB)/\(ix (ix t m mZ).Guests (i:Int) zi).Live.length<=1048576)) (cond (inb (i:Int) (ln (ix t m mZ).Tables)) (κ (up t m ({ (ix t m mZ) with Tables:=(up (ix t m mZ).Tables (i:Int) (zlU (ix (ix t m mZ).Tables (i:Int) zbB) (ix (ix t m mZ).Guests (i:Int) zi).Live p)) }:Mon))) none) none) none) none)
theorem zV3 {ρ:Type}{mons:List Mon}{k:Nat}(hk:k<mons.length)(p:Int)(hm:znq (ix mons (k:Int) mZ))(ht:(ix mons (k:Int) mZ).Tables.length=(ix mons (k:Int) mZ).Guests.length)(K:List Mon->Option ρ) :
 ∀(n i:Nat),i+n=(ix mons (k:Int) mZ).Guests.length->goN (fun i t κ=>zWy (k:Int) p i t κ) K n i (up mons (k:Int) (zjj (ix mons (k:Int) mZ) p i))=K (up mons (k:Int) (zjj (ix mons (k:Int) mZ) p (ix mons (k:Int) mZ).Guests.length))
 | 0,i,h=>by
  have:i=(ix mons (k:Int) mZ).Guests.length:=by omega
  subst this;rfl
 | n+1,i,h=>by
  have hi3:i<(ix mons (k:Int) mZ).Guests.length:=by omega
  have hi2:i<(zt9 (ix mons (k:Int) mZ).Guests p i (ix mons (k:Int) mZ).Tables).length:=by rw [znU];omega
  have hf:pc (SmK (ix (zt9 (ix mons (k:Int) mZ).Guests p i (ix mons (k:Int) mZ).Tables) (i:Int) zbB)/\(ix (ix mons (k:Int) mZ).Guests (i:Int) zi).Live.length<=1048576)=true :=
   zbr ⟨by rw [zbq hi2];exact (zvB _ _ _ _ (by omega) hm.2.2.2.2.2).2 _ (List.getElem_mem hi2),by rw [zbq hi3];exact (hm.2.2.2.1.2 _ (List.getElem_mem hi3)).2.2.1⟩
  simp only [goN,zWy,ze5 hk,zCH,zjj,zbh hi2,zbh hi3,hf,cT];exact zV3 hk p hm ht K n (i+1) (by omega)
@[simp,reducible] def zeb (h:Host)(m p:Int)(s:Slot):Bool:=pc (Shape h/\hasB m (ln h.Mons)=true)
@[simp,reducible] def zd9 (h:Host)(m p:Int)(s:Slot):Host:=zzo h m p s
def zkl:List CV->List AV->Option (Bool×List CV×List AV)
 | [.s (.sl .int) b,.s .mon c,.s .entry d,.s .entry e],[.one (.i .i64 f),.one (.i .i64 g),.agg [.i .i64 h,.i .i64 j]]=>some ((zeb (⟨b,c,d,e⟩:Host) f g (⟨h,j⟩:Slot)),zx (zd9 (⟨b,c,d,e⟩:Host) f g (⟨h,j⟩:Slot)),[])
 | _,_=>none
def zoz (N:Nat)(c:Host)(a0 a1:Int)(a2:Slot):Option Ans :=
 (cond (inb a0 (ln c.Mons)) (iter (σ:=(Int×(Int×(Int×(Int×(Int×(Int×((List Mon)×((List (List Int))×((List Entry)×((List Entry)×Unit))))))))))) N (fun r5 s6=>(cond (ilt s6.2.2.2.1 s6.2.2.1) (cond (inb s6.2.2.2.1 (ln (ix s6.2.2.2.2.2.2.1 s6.2.1 zf).Tables)) (cond (inb s6.2.2.2.1 (ln (ix s6.2.2.2.2.2.2.1 s6.2.1 zf).Guests)) (cond (zoE (ix (ix s6.2.2.2.2.2.2.1 s6.2.1 zf).Tables s6.2.2.2.1 zbB) (ix (ix s6.2.2.2.2.2.2.1 s6.2.1 zf).Guests s6.2.2.2.1 zi).Live s6.1) (cond (inb s6.2.2.2.1 (ln (ix s6.2.2.2.2.2.2.1 s6.2.1 zf).Tables)) (share (up s6.2.2.2.2.2.2.1 s6.2.1 ({ (ix s6.2.2.2.2.2.2.1 s6.2.1 zf) with Tables:=(up (ix s6.2.2.2.2.2.2.1 s6.2.1 zf).Tables s6.2.2.2.1 (zuQ (ix (ix s6.2.2.2.2.2.2.1 s6.2.1 zf).Tables s6.2.2.2.1 zbB) (ix (ix s6.2.2.2.2.2.2.1 s6.2.1 zf).Guests s6.2.2.2.1 zi).Live s6.1)) }:Mon)) (fun x7=>(r5 (s6.1,(s6.2.1,(s6.2.2.1,((zq .i64 s6.2.2.2.1 1),(s6.2.2.2.2.1,(s6.2.2.2.2.2.1,(x7,(s6.2.2.2.2.2.2.2.1,(s6.2.2.2.2.2.2.2.2.1,(s6.2.2.2.2.2.2.2.2.2.1,()))))))))))))) none) none) none) none) (cond (ine s6.2.2.2.2.1 (-1)) (cond (zgT s6.2.2.2.2.2.2.2.2.1 s6.2.2.2.2.1) (cond (zgT s6.2.2.2.2.2.2.2.2.2.1 s6.2.2.2.2.1) (some [(.agg (zx (⟨s6.2.2.2.2.2.2.2.1,s6.2.2.2.2.2.2.1,(ziC s6.2.2.2.2.2.2.2.2.1 s6.2.2.2.2.1),(ziC s6.2.2.2.2.2.2.2.2.2.1 s6.2.2.2.2.1)⟩:Host)))]) none) none) (some [(.agg (zx (⟨s6.2.2.2.2.2.2.2.1,s6.2.2.2.2.2.2.1,s6.2.2.2.2.2.2.2.2.1,s6.2.2.2.2.2.2.2.2.2.1⟩:Host)))])))) (a1,(a0,((ln (ix c.Mons a0 zf).Guests),(0,(a2.Page,(a2.Rights,(c.Mons,(c.Memory,(c.Buffer,(c.IoBuffer,()))))))))))) none)
def zFc:FuncId->Nat->Option Tmpl:=zB [(215,0,{ n:=71,tm:=[(0,.lp 0 0),(2,.i .i64),(7,.lp 1 0),(8,.ep 0 [] 0),(20,.i .i64),(21,.i .i64)],lo:=[(0,[.sl 1 [],.sl 0 [],.sl 2 [],.sl 3 []]),(1,[.i .i64,.i .i64])],ro:=[(0,.mon,true),(1,(.sl .int),true),(2,.entry,true),(3,.entry,true)] })]
theorem zIP (N:Nat)(c:Host)(a0 a1:Int)(a2:Slot):zyU (cQ zkN zV zK zfE) zFc N 12 215 [true,true,true,true] (zx c) [.one (.i .i64 a0),.one (.i .i64 a1),.agg (Ty.cells .slot a2)]=zoz N c a0 a1 a2:=by kernel_rfl
theorem zEO (c:Host)(a0 a1:Int)(a2:Slot)(hb:zG big (.agg (zx c) :: [.one (.i .i64 a0),.one (.i .i64 a1),.agg (Ty.cells .slot a2)]))(hc:(zeb c a0 a1 a2)=true):∃N,zoz N c a0 a1 a2=some (.agg (zx (zd9 c a0 a1 a2)) :: []):=by
 obtain ⟨hs,hm⟩:=zI.1 hc;obtain ⟨g1,g2⟩:=zck hs hm;have hg:(ix c.Mons a0 mZ).Guests.length<=big:=(zcA g1.2.2.2.1.1).1;refine ⟨NN,?_⟩;have hNN:∀{n:Nat},n<=big->n<NN:=fun h=>zb4 h;generalize NN=N at hNN ⊢;unfold zoz;refine must (zF hm) ?_;refine (zbF ((ix c.Mons a0 zf).Guests) (fun i (t:(List Mon))=>(a1,a0,(ln (ix c.Mons a0 zf).Guests),(i:Int),a2.Page,a2.Rights,t,c.Memory,c.Buffer,c.IoBuffer,())) _ (fun i (x:Guest) (t:List Mon) κ=>zWy a0 a1 i t κ) (fun (t:(List Mon))=>(cond (ine a2.Page (-1)) (cond (zgT c.Buffer a2.Page) (cond (zgT c.IoBuffer a2.Page) (some [(.agg (zx (⟨c.Memory,t,(ziC c.Buffer a2.Page),(ziC c.IoBuffer a2.Page)⟩:Host)))]) none) none) (some [(.agg (zx (⟨c.Memory,t,c.Buffer,c.IoBuffer⟩:Host)))]))) (fun i hi t rec=>?_) (fun t rec=>?_) _ (c.Mons) (hNN hg)).trans ?_
 ·simp only [zbu hi,zbh hi,zbq hi,zbd hi hg,cT];rfl
 ·simp only [zbk,cF]
 obtain ⟨k,rfl,hk⟩:=zem (n:=c.Mons.length) hm;rw [zyb (fun i t κ=>zWy (k:Int) a1 i t κ)];have e0:c.Mons=up c.Mons (k:Int) (zjj (ix c.Mons (k:Int) mZ) a1 0):=(zVm hk _).symm;refine (congrArg _ e0).trans ((zV3 hk a1 g1 g2.2.2.2 _ _ 0 (Nat.zero_add _)).trans ?_)
 show (cond (ine a2.Page (-1)) _ _)=some [AV.agg (zx (zzo c (k:Int) a1 a2))]
 unfold zzo;cases ine a2.Page (-1)
 ·rfl
 ·exact must rfl (must (zbr hs.1.2.2.1) (must (zbr hs.1.2.2.2) rfl))
theorem zBj:zeL Tryz.prog 215 [true,true,true,true] zkl:=by
 refine zhI (zdJ zgz zD zu zc3) (zC (by kernel_rfl)) ?_
 intro cs avs cs' rs hl hr h;have hb:=zjd hr;unfold zkl at h;split at h
 ·obtain ⟨hc,rfl,rfl⟩:=zkG h;obtain ⟨N,hN⟩:=zEO _ _ _ _ (by exact hb) hc
  exact ⟨rfl,_,N,12,(zIP N _ _ _ _ ).trans hN⟩
 ·cases h
def zWE:zzu:=[(215,([true,true,true,true],zkl))]++zK
theorem zJC:∀f own run,zy zWE f=some (own,run)->zeL Tryz.prog f own run:=ztL zu (by
 intro x hx;simp only [List.mem_cons,List.not_mem_nil,or_false] at hx;rcases hx with rfl
 ·exact zBj)
def zfq (h:Host)(m p:Int):Host:={ h with Mons:=up h.Mons m { ix h.Mons m mZ with Out:=up (ix h.Mons m mZ).Out p (zg5 h.Memory (ix (ix h.Mons m mZ).Outer p sZ).Page) } }
def ze9 (h:Host)(m p:Int):Host:=zeF (zfq h m p) m p noSlot
theorem zSe {m:List (List Int)}{p:Int}(h:SmM m):(zg5 m p).length<=1048576:=by
 unfold zg5;cases hh:hasB p (ln m)
 ·exact (by decide:zyd.length<=1048576)
 ·exact h.2 _ (zde hh _)
theorem zxk {h:Host}{m p:Int}(hs:Shape h)(hm:hasB m (ln h.Mons)=true):Shape (zfq h m p):=by
 obtain ⟨g1,g2⟩:=zck hs hm;exact zhn hs ⟨g1.1,zIB g1.2.1 (zSe hs.1.1),g1.2.2⟩ ⟨g2.1,by simpa using g2.2.1,g2.2.2⟩
theorem zWo {h:Host}{m p:Int}(hs:Shape h)(hm:hasB m (ln h.Mons)=true):Shape (ze9 h m p):=zqp (zed hm) (zxk hs hm)
@[simp,reducible] def zyk (h:Host)(m p:Int):Bool:=pc (Shape h/\hasB m (ln h.Mons)=true/\hasB p 8=true)
@[simp,reducible] def zcL (h:Host)(m p:Int):Host:=ze9 h m p
def zsY:List AV->Option (Bool×List AV)
 | [.agg [.s (.sl .int) b,.s .mon c,.s .entry d,.s .entry e],.one (.i .i64 f),.one (.i .i64 g)]=>some ((zyk (⟨b,c,d,e⟩:Host) f g),[.agg (zx (zcL (⟨b,c,d,e⟩:Host) f g))])
 | _=>none
def zyJ (N:Nat)(a0:Host)(a1 a2:Int):Option Ans :=
 (cond (inb a1 (ln a0.Mons)) (cond (inb a1 (ln a0.Mons)) (cond (inb a2 (ln (ix a0.Mons a1 zf).Outer)) (cond (zye a0.Memory (ix (ix a0.Mons a1 zf).Outer a2 zQ).Page) (cond (inb a2 (ln (ix a0.Mons a1 zf).Out)) (share (up a0.Mons a1 ({ (ix a0.Mons a1 zf) with Out:=(up (ix a0.Mons a1 zf).Out a2 (zzB a0.Memory (ix (ix a0.Mons a1 zf).Outer a2 zQ).Page)) }:Mon)) (fun x4=>(cond zc5 (cond (zfr ({ a0 with Mons:=x4 }:Host) a1 a2 zbZ) (some [(.agg (zx (zhh ({ a0 with Mons:=x4 }:Host) a1 a2 zbZ)))]) none) none))) none) none) none) none) none)
theorem zUu (N:Nat)(a0:Host)(a1 a2:Int):zCJ (cQ zkN zV zWE zfE) (zB []) N 12 227 [true,true,true,true,false,false] 1 1 [[0],[1],[2],[4],[7]] .mon [.agg (zx a0),.one (.i .i64 a1),.one (.i .i64 a2)]=zyJ N a0 a1 a2:=by kernel_rfl
theorem zSX (a0:Host)(a1 a2:Int)(hb:zG big [.agg (zx a0),.one (.i .i64 a1),.one (.i .i64 a2)])(hc:(zyk a0 a1 a2)=true):∃N,zyJ N a0 a1 a2=some [.agg (zx (zcL a0 a1 a2))]:=by
 obtain ⟨hs,hm,hp⟩:=zI.1 hc;obtain ⟨g1,g2⟩:=zck hs hm;obtain ⟨k,rfl,hk⟩:=zem (n:=a0.Mons.length) hm;have hS:=zxk (p:=a2) hs hm;refine ⟨0,?_⟩;unfold zyJ;refine must (zF hm) (must (zF hm) (must (zF (zdc g2.1 hp)) (must (zbr ((znV _).2 hs.1.1)) (must (zF (zdc g2.2.1 hp)) (shr (must rfl (must (zbr ⟨(zbg _).2 hS.1,zed hm,?_,?_⟩) rfl)))))))
 ·simp only [ze5 hk];exact zdc g2.1 hp
 ·simp only [ze5 hk];exact Nat.le_of_eq g2.2.2.2
theorem zLW:zeG Tryz.prog 227 [true,true,true,true,false,false] (some (1,1,[[0],[1],[2],[4],[7]])) zsY:=by
 refine zjQ (kt:=.mon) (zdJ zgz zD zJC zc3) (zC (by kernel_rfl)) (by kernel_rfl) ?_
 intro avs rs hl hr h;have hb:=zjv hr;unfold zsY at h;split at h
 ·obtain ⟨hc,rfl⟩:=zl h;obtain ⟨N,hN⟩:=zSX _ _ _ (by exact hb) hc
  exact ⟨⟨_,rfl⟩,rfl,_,N,12,(zUu N _ _ _ ).trans hN⟩
 ·cases h
@[simp,reducible] def zFn (h:Host)(m p:Int):Bool:=pc (Shape h/\hasB m (ln h.Mons)=true/\hasB p 8=true)
@[simp,reducible] def zGe (h:Host)(m p:Int):Host:=ze9 h m p
def zv7:List CV->List AV->Option (Bool×List CV×List AV)
 | [.s (.sl .int) b,.s .mon c,.s .entry d,.s .entry e],[.one (.i .i64 f),.one (.i .i64 g)]=>some ((zFn (⟨b,c,d,e⟩:Host) f g),zx (zGe (⟨b,c,d,e⟩:Host) f g),[])
 | _,_=>none
def zFR (N:Nat)(c:Host)(a0 a1:Int):Option Ans :=
 (cond (inb a0 (ln c.Mons)) (cond (inb a1 (ln (ix c.Mons a0 zf).Outer)) (cond (zh7 c.Memory (ix (ix c.Mons a0 zf).Outer a1 zQ).Page) (cond (inb a1 (ln (ix c.Mons a0 zf).Out)) (share (up c.Mons a0 ({ (ix c.Mons a0 zf) with Out:=(up (ix c.Mons a0 zf).Out a1 (zlh c.Memory (ix (ix c.Mons a0 zf).Outer a1 zQ).Page)) }:Mon)) (fun x4=>(cond zc6 (cond (inb a1 (ln (ix x4 a0 zf).Outer)) (share (up x4 a0 ({ (ix x4 a0 zf) with Outer:=(up (ix x4 a0 zf).Outer a1 zcD) }:Mon)) (fun x5=>(cond (zeb ({ c with Mons:=x5 }:Host) a0 a1 (ix (ix c.Mons a0 zf).Outer a1 zQ)) (some [(.agg (zx (zd9 ({ c with Mons:=x5 }:Host) a0 a1 (ix (ix c.Mons a0 zf).Outer a1 zQ))))]) none))) none) none))) none) none) none) none)
theorem zYD (N:Nat)(c:Host)(a0 a1:Int):zyU (cQ zkN zV zWE zfE) (zB []) N 12 252 [true,true,true,true] (zx c) [.one (.i .i64 a0),.one (.i .i64 a1)]=zFR N c a0 a1:=by kernel_rfl
theorem zXu (c:Host)(a0 a1:Int)(hb:zG big (.agg (zx c) :: [.one (.i .i64 a0),.one (.i .i64 a1)]))(hc:(zFn c a0 a1)=true):∃N,zFR N c a0 a1=some (.agg (zx (zGe c a0 a1)) :: []):=by
 obtain ⟨hs,hm,hp⟩:=zI.1 hc;obtain ⟨g1,g2⟩:=zck hs hm;obtain ⟨k,rfl,hk⟩:=zem (n:=c.Mons.length) hm;have hS:=zxk (p:=a1) hs hm;have hm':hasB (k:Int) (ln (zfq c (k:Int) a1).Mons)=true:=zed hm;have hk':k<(zfq c (k:Int) a1).Mons.length:=by simpa [zfq] using hk
 have ex:ix (zfq c (k:Int) a1).Mons (k:Int) mZ={ ix c.Mons (k:Int) mZ with Out:=up (ix c.Mons (k:Int) mZ).Out a1 (zg5 c.Memory (ix (ix c.Mons (k:Int) mZ).Outer a1 sZ).Page) }:=ze5 hk _ _;have hX:Shape { zfq c (k:Int) a1 with Mons:=up (zfq c (k:Int) a1).Mons (k:Int) { ix (zfq c (k:Int) a1).Mons (k:Int) mZ with Outer:=up (ix (zfq c (k:Int) a1).Mons (k:Int) mZ).Outer a1 noSlot } }:=by
  obtain ⟨q1,q2⟩:=zck hS hm';exact zhn hS ⟨by simpa using q1.1,q1.2⟩ ⟨by simpa using q2.1,q2.2⟩
 refine ⟨0,?_⟩;unfold zFR;refine must (zF hm) (must (zF (zdc g2.1 hp)) (must (zbr ((znV _).2 hs.1.1)) (must (zF (zdc g2.2.1 hp)) (shr (must rfl (must ?_ (shr (must (zbr ⟨hX,zed hm'⟩) ?_))))))))
 ·rw [ze5 hk];exact zF (zdc g2.1 hp)
 ·have:=zyl (p:=a1) (s:=noSlot) hk' (by rw [ex];exact g2.2.2.2)
  rw [ex] at this
  show some [AV.agg (zx (zzo { zfq c (k:Int) a1 with Mons:=up (zfq c (k:Int) a1).Mons (k:Int) { ix (zfq c (k:Int) a1).Mons (k:Int) mZ with Outer:=up (ix (zfq c (k:Int) a1).Mons (k:Int) mZ).Outer a1 noSlot } } (k:Int) a1 (ix (ix c.Mons (k:Int) mZ).Outer a1 sZ)))]=_
  rw [ex];exact congrArg (fun x=>some [AV.agg (zx x)]) this
theorem zSF:zeL Tryz.prog 252 [true,true,true,true] zv7:=by
 refine zhI (zdJ zgz zD zJC zc3) (zC (by kernel_rfl)) ?_
 intro cs avs cs' rs hl hr h;have hb:=zjd hr;unfold zv7 at h;split at h
 ·obtain ⟨hc,rfl,rfl⟩:=zkG h;obtain ⟨N,hN⟩:=zXu _ _ _ (by exact hb) hc
  exact ⟨rfl,_,N,12,(zYD N _ _ _ ).trans hN⟩
 ·cases h
def zXM:zzu:=[(252,([true,true,true,true],zv7))]++zWE
theorem zKc:∀f own run,zy zXM f=some (own,run)->zeL Tryz.prog f own run:=ztL zJC (by
 intro x hx;simp only [List.mem_cons,List.not_mem_nil,or_false] at hx;rcases hx with rfl
 ·exact zSF)
def zWx:zzE:=[(227,([true,true,true,true,false,false],(some (1,1,[[0],[1],[2],[4],[7]])),zsY))]++zfE
theorem zJI:∀f own inp run,zy zWx f=some (own,inp,run)->zeG Tryz.prog f own inp run:=ztD zc3 (by
 intro x hx;simp only [List.mem_cons,List.not_mem_nil,or_false] at hx;rcases hx with rfl
 ·exact zLW)
end
end Go.Proofs.YtdmheolglokabaaGreat.E
