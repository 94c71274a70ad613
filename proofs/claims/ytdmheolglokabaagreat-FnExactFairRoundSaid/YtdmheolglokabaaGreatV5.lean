/- What is proved here: a part of the proof that the statement of this claim holds (several texts of wip/, laid together). -/
import Derived.Test.YtdmheolglokabaaGreatV4
namespace Go.Proofs.YtdmheolglokabaaGreat.E
open Go
set_option linter.unusedVariables false
set_option maxRecDepth 100000
set_option linter.unusedSimpArgs false
set_option linter.unusedSectionVars false
noncomputable section
@[simp,reducible] def zfk (l:List (List Int)):Bool:=pc (SmM l)
@[simp,reducible] def zcW (l:List (List Int)):List (List Int):=l
def zql:List AV->Option (Bool×List AV)
 | [.one (.s (.sl .int) b)]=>some ((zfk b),[.one (.s (.sl .int) (zcW b))])
 | _=>none
def zvW (N:Nat)(a0:List (List Int)):Option Ans :=
 (iter (σ:=(Int×(Int×((List (List Int))×((List (List Int))×Unit))))) N (fun r2 s3=>(cond (ilt s3.2.1 s3.1) (cond (inb s3.2.1 (ln s3.2.2.2.1)) (cond (zdn (ix s3.2.2.2.1 s3.2.1 [])) (cond (few (ln (ap s3.2.2.1 [(zdh (ix s3.2.2.2.1 s3.2.1 []))]))) (r2 (s3.1,((zq .i64 s3.2.1 1),((ap s3.2.2.1 [(zdh (ix s3.2.2.2.1 s3.2.1 []))]),(s3.2.2.2.1,()))))) none) none) none) (some [(.one (.s (.sl .int) s3.2.2.1))]))) ((ln a0),(0,([],(a0,())))))
def zOk:FuncId->Nat->Option Tmpl:=zB [(48,0,{ n:=20,tm:=[(3,.sl 0 []),(7,.sl 1 []),(8,.i .i64),(9,.i .i64)],lo:=[],ro:=[(0,(.sl .int),true),(1,(.sl .int),false)] })]
theorem zRj (N:Nat)(a0:List (List Int)):evalFn (cQ ziW zV zK zO) zOk N 12 48 [.one (.s (.sl .int) a0)]=zvW N a0:=by kernel_rfl
theorem zM3 (a0:List (List Int))(hb:zG big [.one (.s (.sl .int) a0)])(hc:(zfk a0)=true):∃N,zvW N a0=some [.one (.s (.sl .int) (zcW a0))]:=by
 have hs:=zJ.1 hc;have hl:=zcA hs.1;refine ⟨NN,?_⟩;have hNN:∀{n:Nat},n<=big->n<NN:=fun h=>zb8 h;generalize NN=N at hNN ⊢;unfold zvW;refine (zbF a0 (fun i (t:(List (List Int)))=>((ln a0),(i:Int),t,a0,())) _ (fun _ x acc κ=>bif zdn x then (cond (few (ln (ap acc [zdh x]))) (κ (ap acc [zdh x])) none) else none) (fun (t:(List (List Int)))=>(some [(.one (.s (.sl .int) t))])) (fun i hi t rec=>?_) (fun t rec=>?_) _ ([]) (hNN hl.1)).trans ?_
 ·simp only [zbv hi,zbg hi,zbq hi,zbf hi hl.1,cT]
 ·simp only [zbj,cF]
 exact zhX zdn zdh _ a0 0 [] (fun x hx=>⟨by exact zU (Nat.le_trans (hs.2 x hx) (by decide)),rfl⟩) (by simpa using hl.2)
theorem zGS:Holds Tryz.prog 48 zql:=zo ze7 zD zu zy (zC (by kernel_rfl)) fun avs rs hb h=>by
 unfold zql at h;split at h
 ·obtain ⟨hc,rfl⟩:=zl h;exact (fin1 zM3 zRj hc hb :)
 ·cases h
@[simp,reducible] def zdj (g:Guest):Bool:=pc (SmG g)
@[simp,reducible] def zct (g:Guest):Guest:=g
def zmO:List AV->Option (Bool×List AV)
 | [.agg [.s .ins c,.i .i64 d,.i .i64 e,.s .slot f,.s .slot g,.i .i64 h,.i .i64 j,.b k,.i .i64 l,.i .i64 m,.i .i64 n,.b o,.i .i64 p,.b q,.s .int r]]=>some ((zdj (⟨c,d,e,f,g,⟨h,j,k⟩,l,⟨m,n,o,p⟩,q,r⟩:Guest)),[.agg (Ty.cells .guest (zct (⟨c,d,e,f,g,⟨h,j,k⟩,l,⟨m,n,o,p⟩,q,r⟩:Guest)))])
 | _=>none
def zpC (N:Nat)(a0:Guest):Option Ans :=
 (cond (zs7 a0.Prog) (cond (zfO a0.Written) (cond (zfO a0.Live) (cond (zdn a0.Seen) (some [(.agg (Ty.cells .guest ({ a0 with Prog:=(zmn a0.Prog),Written:=(zeG a0.Written),Live:=(zeG a0.Live),Seen:=(zdh a0.Seen) }:Guest)))]) none) none) none) none)
theorem zLc (N:Nat)(a0:Guest):evalFn (cQ ziW zV zK zO) (zB []) N 12 125 [.agg (Ty.cells .guest a0)]=zpC N a0:=by kernel_rfl
theorem zHM (a0:Guest)(hb:zG big [.agg (Ty.cells .guest a0)])(hc:(zdj a0)=true):∃N,zpC N a0=some [.agg (Ty.cells .guest (zct a0))]:=by
 have hs:=zJ.1 hc;obtain ⟨h1,h2,h3,h4⟩:=hs;have hs1:a0.Prog.length<=2147483648:=(by omega);have hs2:a0.Written.length<=2147483648:=(by omega);have hs3:a0.Live.length<=2147483648:=(by omega);have hs4:a0.Seen.length<=2147483648:=(by omega)
 refine ⟨0,?_⟩;unfold zpC;refine must (by first|assumption|(simp_all<;>omega)) (must (by first|assumption|(simp_all<;>omega)) (must (by first|assumption|(simp_all<;>omega)) (must (by first|assumption|(simp_all<;>omega)) ?_)))
 first|rfl|(simp only [*,zct,cT,cF]<;>rfl)|simp_all [Ty.cells,zct]
theorem zC2:Holds Tryz.prog 125 zmO:=zo ze7 zD zu zy (zC (by kernel_rfl)) fun avs rs hb h=>by
 unfold zmO at h;split at h
 ·obtain ⟨hc,rfl⟩:=zl h;exact (fin1 zHM zLc hc hb :)
 ·cases h
def zfX (t:List Slot)(p n:Int):Bool:=bif ieq (zdP t p).Page (-1) then false else (cond (enough (zdP t p).Rights n) (win n 1 3) false)
def zcR (t:List Slot)(p n:Int):Int:=bif zfX t p n then (zdP t p).Page else -1
theorem zZL {r:Int}(h:zdX r=true):0<=r/\r<=3:=zfT.1 h
theorem zWm {a n:Int}(h:enough a n=true):win n 1 3 = !ieq n 0:=by
 unfold enough at h;cases h1:zdX a
 ·rw [h1] at h;cases h
 ·cases h2:zdX n
  ·rw [h1,h2] at h;cases h
  ·have:=zZL h2;have e:(win n 1 3=true)↔(!ieq n 0)=true:=by
    rw [zfT];simp [ieq];omega
   cases h3:win n 1 3<;>cases h4:(!ieq n 0)<;>simp_all
@[simp,reducible] def zim (t:List Slot)(p n:Int):Bool:=true
@[simp,reducible] def zb4 (t:List Slot)(p n:Int):Int:=zcR t p n
@[simp,reducible] def zfN (t:List Slot)(p n:Int):Bool:=zfX t p n
def zmM:List AV->Option (Bool×List AV)
 | [.one (.s .slot c),.one (.i .i64 d),.one (.i .i64 e)]=>some ((zim c d e),[.one (.i .i64 (zb4 c d e)),.one (.b (zfN c d e))])
 | _=>none
def zpA (N:Nat)(a0:List Slot)(a1 a2:Int):Option Ans :=
 (cond (zjU a0 a1) (cond (ieq (zdM a0 a1).Page (-1)) (some [(.one (.i .i64 (-1))),(.one (.b false))]) (cond (zdg (zdM a0 a1).Rights a2) (cond (cond (zdL (zdM a0 a1).Rights a2) false true) (some [(.one (.i .i64 (-1))),(.one (.b false))]) (cond (zbm a2 1 3) (cond (cond (zby a2 1 3) false true) (some [(.one (.i .i64 (-1))),(.one (.b false))]) (some [(.one (.i .i64 (zdM a0 a1).Page)),(.one (.b true))])) none)) none)) none)
theorem zLa (N:Nat)(a0:List Slot)(a1 a2:Int):evalFn (cQ ziW zV zK zO) (zB []) N 12 138 [.one (.s .slot a0),.one (.i .i64 a1),.one (.i .i64 a2)]=zpA N a0 a1 a2:=by kernel_rfl
theorem zHK (a0:List Slot)(a1 a2:Int)(hb:zG big [.one (.s .slot a0),.one (.i .i64 a1),.one (.i .i64 a2)])(hc:(zim a0 a1 a2)=true):∃N,zpA N a0 a1 a2=some [.one (.i .i64 (zb4 a0 a1 a2)),.one (.b (zfN a0 a1 a2))]:=by
 refine ⟨0,?_⟩;unfold zpA;refine must rfl (br (fun _=>?_) (fun _=>must rfl (brN (fun _=>?_) (fun _=>must rfl (brN (fun _=>?_) (fun _=>?_))))))
 all_goals first|rfl|(simp only [*,zb4,zfN,zcR,zfX,cT,cF]<;>rfl)|simp_all [Ty.cells,zb4,zfN,zcR,zfX]
theorem zC0:Holds Tryz.prog 138 zmM:=zo ze7 zD zu zy (zC (by kernel_rfl)) fun avs rs hb h=>by
 unfold zmM at h;split at h
 ·obtain ⟨hc,rfl⟩:=zl h;exact (zd3 zHK zLa hc hb :)
 ·cases h
@[simp,reducible] def zq0 (t:List Slot)(p n:Int):Bool:=true
@[simp,reducible] def zir (t:List Slot)(p n:Int):Int:=zcR t p n
@[simp,reducible] def zis (t:List Slot)(p n:Int):Bool:=zfX t p n
def zm2:List AV->Option (Bool×List AV)
 | [.one (.s .slot c),.one (.i .i64 d),.one (.i .i64 e)]=>some ((zq0 c d e),[.one (.i .i64 (zir c d e)),.one (.b (zis c d e))])
 | _=>none
def zpZ (N:Nat)(a0:List Slot)(a1 a2:Int):Option Ans :=
 (cond (zrQ a0 a1) (cond (ieq (zeS a0 a1).Page (-1)) (some [(.one (.i .i64 (-1))),(.one (.b false))]) (cond (zf6 (zeS a0 a1).Rights a2) (cond (cond (zgC (zeS a0 a1).Rights a2) false true) (some [(.one (.i .i64 (-1))),(.one (.b false))]) (cond (ieq a2 0) (some [(.one (.i .i64 (-1))),(.one (.b false))]) (some [(.one (.i .i64 (zeS a0 a1).Page)),(.one (.b true))]))) none)) none)
theorem zLt (N:Nat)(a0:List Slot)(a1 a2:Int):evalFn (cQ ziW zV zK zO) (zB []) N 12 155 [.one (.s .slot a0),.one (.i .i64 a1),.one (.i .i64 a2)]=zpZ N a0 a1 a2:=by kernel_rfl
theorem zH3 (a0:List Slot)(a1 a2:Int)(hb:zG big [.one (.s .slot a0),.one (.i .i64 a1),.one (.i .i64 a2)])(hc:(zq0 a0 a1 a2)=true):∃N,zpZ N a0 a1 a2=some [.one (.i .i64 (zir a0 a1 a2)),.one (.b (zis a0 a1 a2))]:=by
 have he:=@zWm (zdP a0 a1).Rights a2;refine ⟨0,?_⟩;unfold zpZ;refine must rfl (br (fun _=>?_) (fun _=>must rfl (brN (fun _=>?_) (fun _=>br (fun _=>?_) (fun _=>?_)))))
 all_goals first|rfl|(simp only [*,zir,zis,zcR,zfX,cT,cF]<;>rfl)|simp_all [Ty.cells,zir,zis,zcR,zfX]
theorem zDj:Holds Tryz.prog 155 zm2:=zo ze7 zD zu zy (zC (by kernel_rfl)) fun avs rs hb h=>by
 unfold zm2 at h;split at h
 ·obtain ⟨hc,rfl⟩:=zl h;exact (zd3 zH3 zLt hc hb :)
 ·cases h
def ziX:zbQ:=[(213,zgE),(48,zql),(125,zmO),(155,zm2),(138,zmM),(151,zw3),(117,zwO),(222,zum),(209,ztB),(223,zw0),(210,zwL),(154,zuq),(177,ztH)]++ziW
theorem ze8:zbw ziX:=zn zlw (zn zGS (zn zC2 (zn zDj (zn zC0 (zn zMK (zn zMu (zn zKb (zn zJt (zn zMH (zn zMr (zn zKf (zn zJz ze7))))))))))))
@[simp,reducible] def zuF (m:List (List Int))(p c v:Int):Bool:=pc (SmM m)
@[simp,reducible] def znj (m:List (List Int))(p c v:Int):List (List Int):=zfg m p c v
def zop:List AV->Option (Bool×List AV)
 | [.one (.s (.sl .int) b),.one (.i .i64 c),.one (.i .i64 d),.one (.i .i64 e)]=>some ((zuF b c d e),[.one (.s (.sl .int) (znj b c d e))])
 | _=>none
def zsF (N:Nat)(a0:List (List Int))(a1 a2 a3:Int):Option Ans :=
 (cond (zgi a0) (cond (zrS a0 a1 a2) (cond (zoy a0 a1 a2) (cond (zZ a3 0 99) (cond (zbe a3 0 99) (cond (inb a1 (ln (zdf a0))) (cond (inb a2 (ln (ix (zdf a0) a1 []))) (share (up (zdf a0) a1 (up (ix (zdf a0) a1 []) a2 a3)) (fun x5=>(some [(.one (.s (.sl .int) x5))]))) none) none) (some [(.one (.s (.sl .int) (zdf a0)))])) none) (some [(.one (.s (.sl .int) (zdf a0)))])) none) none)
theorem zOf (N:Nat)(a0:List (List Int))(a1 a2 a3:Int):evalFn (cQ ziX zV zK zO) (zB []) N 12 102 [.one (.s (.sl .int) a0),.one (.i .i64 a1),.one (.i .i64 a2),.one (.i .i64 a3)]=zsF N a0 a1 a2 a3:=by kernel_rfl
theorem zK1 (a0:List (List Int))(a1 a2 a3:Int)(hb:zG big [.one (.s (.sl .int) a0),.one (.i .i64 a1),.one (.i .i64 a2),.one (.i .i64 a3)])(hc:(zuF a0 a1 a2 a3)=true):∃N,zsF N a0 a1 a2 a3=some [.one (.s (.sl .int) (znj a0 a1 a2 a3))]:=by
 have hs:=zJ.1 hc;have hm:=(zzU a0 a1 a2).1
 refine ⟨0,?_⟩;unfold zsF;refine must (by first|assumption|(simp_all<;>omega)) (must rfl (br (fun _=>must rfl (br (fun _=>must (by first|assumption|(simp_all<;>omega)) (must (by first|assumption|(simp_all<;>omega)) (shr ?_))) (fun _=>?_))) (fun _=>?_)))
 all_goals first|rfl|(simp only [*,znj,zfg,cT,cF]<;>rfl)|simp_all [Ty.cells,znj,zfg]
theorem zFk:Holds Tryz.prog 102 zop:=zo ze8 zD zu zy (zC (by kernel_rfl)) fun avs rs hb h=>by
 unfold zop at h;split at h
 ·obtain ⟨hc,rfl⟩:=zl h;exact (zWn zK1 zOf hc hb :)
 ·cases h
@[simp,reducible] def zjn (m:List (List Int))(p c v:Int):Bool:=pc (SmM m)
@[simp,reducible] def zf1 (m:List (List Int))(p c v:Int):List (List Int):=zfg m p c v
def zn0:List AV->Option (Bool×List AV)
 | [.one (.s (.sl .int) b),.one (.i .i64 c),.one (.i .i64 d),.one (.i .i64 e)]=>some ((zjn b c d e),[.one (.s (.sl .int) (zf1 b c d e))])
 | _=>none
def zsf (N:Nat)(a0:List (List Int))(a1 a2 a3:Int):Option Ans :=
 (cond (zfk a0) (cond (zcz a1 (ln a0)) (cond (zcS a1 (ln a0)) (cond (inb a1 (ln a0)) (cond (zcz a2 (ln (ix a0 a1 []))) (cond (zcS a2 (ln (ix a0 a1 []))) (cond (zbm a3 0 99) (cond (zby a3 0 99) (cond (inb a1 (ln (zcW a0))) (cond (inb a2 (ln (ix (zcW a0) a1 []))) (share (up (zcW a0) a1 (up (ix (zcW a0) a1 []) a2 a3)) (fun x5=>(some [(.one (.s (.sl .int) x5))]))) none) none) (some [(.one (.s (.sl .int) (zcW a0)))])) none) (some [(.one (.s (.sl .int) (zcW a0)))])) none) none) (some [(.one (.s (.sl .int) (zcW a0)))])) none) none)
theorem zNO (N:Nat)(a0:List (List Int))(a1 a2 a3:Int):evalFn (cQ ziX zV zK zO) (zB []) N 12 60 [.one (.s (.sl .int) a0),.one (.i .i64 a1),.one (.i .i64 a2),.one (.i .i64 a3)]=zsf N a0 a1 a2 a3:=by kernel_rfl
theorem zKz (a0:List (List Int))(a1 a2 a3:Int)(hb:zG big [.one (.s (.sl .int) a0),.one (.i .i64 a1),.one (.i .i64 a2),.one (.i .i64 a3)])(hc:(zjn a0 a1 a2 a3)=true):∃N,zsf N a0 a1 a2 a3=some [.one (.s (.sl .int) (zf1 a0 a1 a2 a3))]:=by
 have hs:=zJ.1 hc;refine ⟨0,?_⟩;unfold zsf;refine must (by first|assumption|(simp_all<;>omega)) (must rfl (br (fun _=>must (by first|assumption|(simp_all<;>omega)) (must rfl (br (fun _=>must rfl (br (fun _=>must (by first|assumption|(simp_all<;>omega)) (must (by first|assumption|(simp_all<;>omega)) (shr ?_))) (fun _=>?_))) (fun _=>?_)))) (fun _=>?_)))
 all_goals first|rfl|(simp only [*,zf1,zfg,zhK,cT,cF]<;>rfl)|simp_all [Ty.cells,zf1,zfg,zhK]
theorem zES:Holds Tryz.prog 60 zn0:=zo ze8 zD zu zy (zC (by kernel_rfl)) fun avs rs hb h=>by
 unfold zn0 at h;split at h
 ·obtain ⟨hc,rfl⟩:=zl h;exact (zWn zKz zNO hc hb :)
 ·cases h
def zhs (g:Guest):Bool:=bif canRun g then (cond g.Ctl.Open (ige (zde g.Pending) 0) false) else false
@[simp,reducible] def zni (g:Guest):Bool:=true
@[simp,reducible] def zka (g:Guest):Bool:=zhs g
def zoo:List AV->Option (Bool×List AV)
 | [.agg [.s .ins c,.i .i64 d,.i .i64 e,.s .slot f,.s .slot g,.i .i64 h,.i .i64 j,.b k,.i .i64 l,.i .i64 m,.i .i64 n,.b o,.i .i64 p,.b q,.s .int r]]=>some ((zni (⟨c,d,e,f,g,⟨h,j,k⟩,l,⟨m,n,o,p⟩,q,r⟩:Guest)),[.one (.b (zka (⟨c,d,e,f,g,⟨h,j,k⟩,l,⟨m,n,o,p⟩,q,r⟩:Guest)))])
 | _=>none
def zsE (N:Nat)(a0:Guest):Option Ans :=
 (cond (zrN a0) (cond (zos a0) (cond a0.Ctl.Open (cond (zrR a0.Pending) (some [(.one (.b (ige (zlk a0.Pending) 0)))]) none) (some [(.one (.b false))])) (some [(.one (.b false))])) none)
theorem zOe (N:Nat)(a0:Guest):evalFn (cQ ziX zV zK zO) (zB []) N 12 90 [.agg (Ty.cells .guest a0)]=zsE N a0:=by kernel_rfl
theorem zKZ (a0:Guest)(hb:zG big [.agg (Ty.cells .guest a0)])(hc:(zni a0)=true):∃N,zsE N a0=some [.one (.b (zka a0))]:=by
 refine ⟨0,?_⟩;unfold zsE;refine must rfl (br (fun _=>br (fun _=>must rfl ?_) (fun _=>?_)) (fun _=>?_))
 all_goals first|rfl|(simp only [*,zka,zhs,cT,cF]<;>rfl)|simp_all [Ty.cells,zka,zhs]
theorem zFj:Holds Tryz.prog 90 zoo:=zo ze8 zD zu zy (zC (by kernel_rfl)) fun avs rs hb h=>by
 unfold zoo at h;split at h
 ·obtain ⟨hc,rfl⟩:=zl h;exact (fin1 zKZ zOe hc hb :)
 ·cases h
@[simp,reducible] def zmm (g:Guest):Bool:=true
@[simp,reducible] def zjV (g:Guest):Bool:=zhs g
def znZ:List AV->Option (Bool×List AV)
 | [.agg [.s .ins c,.i .i64 d,.i .i64 e,.s .slot f,.s .slot g,.i .i64 h,.i .i64 j,.b k,.i .i64 l,.i .i64 m,.i .i64 n,.b o,.i .i64 p,.b q,.s .int r]]=>some ((zmm (⟨c,d,e,f,g,⟨h,j,k⟩,l,⟨m,n,o,p⟩,q,r⟩:Guest)),[.one (.b (zjV (⟨c,d,e,f,g,⟨h,j,k⟩,l,⟨m,n,o,p⟩,q,r⟩:Guest)))])
 | _=>none
def zse (N:Nat)(a0:Guest):Option Ans :=
 (cond (zrm a0) (cond (znJ a0) (cond a0.Ctl.Open (cond (zrr a0.Pending) (some [(.one (.b (ige (zk5 a0.Pending) 0)))]) none) (some [(.one (.b false))])) (some [(.one (.b false))])) none)
theorem zNN (N:Nat)(a0:Guest):evalFn (cQ ziX zV zK zO) (zB []) N 12 122 [.agg (Ty.cells .guest a0)]=zse N a0:=by kernel_rfl
theorem zKx (a0:Guest)(hb:zG big [.agg (Ty.cells .guest a0)])(hc:(zmm a0)=true):∃N,zse N a0=some [.one (.b (zjV a0))]:=by
 refine ⟨0,?_⟩;unfold zse;refine must rfl (br (fun _=>br (fun _=>must rfl ?_) (fun _=>?_)) (fun _=>?_))
 all_goals first|rfl|(simp only [*,zjV,zhs,cT,cF]<;>rfl)|simp_all [Ty.cells,zjV,zhs]
theorem zER:Holds Tryz.prog 122 znZ:=zo ze8 zD zu zy (zC (by kernel_rfl)) fun avs rs hb h=>by
 unfold znZ at h;split at h
 ·obtain ⟨hc,rfl⟩:=zl h;exact (fin1 zKx zNN hc hb :)
 ·cases h
def zlz (p:Int):Int:=bif ilt (zde p) 0 then p else wsub .i64 p (zoD .i64 1 (zde p))
def zs8 (p:Int):Int:=bif ilt (zde p) 0 then -1 else zde p
theorem zMm {p:Int}(h:ilt (zde p) 0=false):wcv .u64 (zde p)=zde p/\ile 0 (zde p)=true/\zAl .i64 p (zoD .i64 1 (zde p))=wsub .i64 p (zoD .i64 1 (zde p)):=by
 unfold zde at *;cases h1:zgz p
 ·rw [h1] at h;cases h
 ·simp only [h1,cT] at h ⊢;obtain ⟨h0,h2⟩:=zfT.1 h1;have r:=zBQ (P:=fun x=>-1<=scan x/\scan x<=7/\(0<=scan x->wsub .i64 x (zoD .i64 1 (scan x))=zAl .i64 x (zoD .i64 1 (scan x)))) zR0 h0 h2;have h3:0<=scan p:=by
   unfold ilt at h;have:=of_decide_eq_false h;omega
  exact ⟨zVH h3 (by omega),decide_eq_true h3,(r.2.2 h3).symm⟩
@[simp,reducible] def zxc (p:Int):Bool:=true
@[simp,reducible] def ziQ (p:Int):Int:=zlz p
@[simp,reducible] def ziR (p:Int):Int:=zs8 p
@[simp,reducible] def zo7 (p:Int):Bool:=!ilt (zde p) 0
def zqP:List AV->Option (Bool×List AV)
 | [.one (.i .i64 c)]=>some ((zxc c),[.one (.i .i64 (ziQ c)),.one (.i .i64 (ziR c)),.one (.b (zo7 c))])
 | _=>none
def zwo (N:Nat)(a0:Int):Option Ans :=
 (cond (zrR a0) (cond (ilt (zlk a0) 0) (some [(.one (.i .i64 a0)),(.one (.i .i64 (-1))),(.one (.b false))]) (cond (ile 0 (wcv .u64 (zlk a0))) (some [(.one (.i .i64 (wsub .i64 a0 (zoD .i64 1 (wcv .u64 (zlk a0)))))),(.one (.i .i64 (zlk a0))),(.one (.b true))]) none)) none)
theorem zRM (N:Nat)(a0:Int):evalFn (cQ ziX zV zK zO) (zB []) N 12 93 [.one (.i .i64 a0)]=zwo N a0:=by kernel_rfl
theorem zNw (a0:Int)(hb:zG big [.one (.i .i64 a0)])(hc:(zxc a0)=true):∃N,zwo N a0=some [.one (.i .i64 (ziQ a0)),.one (.i .i64 (ziR a0)),.one (.b (zo7 a0))]:=by
 have ht:=@zMm a0;refine ⟨0,?_⟩;unfold zwo;refine must rfl (br (fun _=>?_) (fun _=>must (by first|assumption|(simp_all<;>omega)) ?_))
 all_goals first|rfl|(simp only [*,ziQ,ziR,zo7,zlz,zs8,cT,cF]<;>rfl)|simp_all [Ty.cells,ziQ,ziR,zo7,zlz,zs8]
theorem zHl:Holds Tryz.prog 93 zqP:=zo ze8 zD zu zy (zC (by kernel_rfl)) fun avs rs hb h=>by
 unfold zqP at h;split at h
 ·obtain ⟨hc,rfl⟩:=zl h;exact (fin1 zNw zRM hc hb :)
 ·cases h
@[simp,reducible] def zwG (p:Int):Bool:=true
@[simp,reducible] def ziD (p:Int):Int:=zlz p
@[simp,reducible] def ziE (p:Int):Int:=zs8 p
@[simp,reducible] def zoN (p:Int):Bool:=!ilt (zde p) 0
def zqk:List AV->Option (Bool×List AV)
 | [.one (.i .i64 c)]=>some ((zwG c),[.one (.i .i64 (ziD c)),.one (.i .i64 (ziE c)),.one (.b (zoN c))])
 | _=>none
def zvV (N:Nat)(a0:Int):Option Ans :=
 (cond (zrr a0) (cond (ilt (zk5 a0) 0) (some [(.one (.i .i64 a0)),(.one (.i .i64 (-1))),(.one (.b false))]) (cond (ile 0 (zk5 a0)) (some [(.one (.i .i64 (zAl .i64 a0 (zoD .i64 1 (zk5 a0))))),(.one (.i .i64 (zk5 a0))),(.one (.b true))]) none)) none)
theorem zRi (N:Nat)(a0:Int):evalFn (cQ ziX zV zK zO) (zB []) N 12 186 [.one (.i .i64 a0)]=zvV N a0:=by kernel_rfl
theorem zM2 (a0:Int)(hb:zG big [.one (.i .i64 a0)])(hc:(zwG a0)=true):∃N,zvV N a0=some [.one (.i .i64 (ziD a0)),.one (.i .i64 (ziE a0)),.one (.b (zoN a0))]:=by
 have ht:=@zMm a0;refine ⟨0,?_⟩;unfold zvV;refine must rfl (br (fun _=>?_) (fun _=>must (by first|assumption|(simp_all<;>omega)) ?_))
 all_goals first|rfl|(simp only [*,ziD,ziE,zoN,zlz,zs8,cT,cF]<;>rfl)|simp_all [Ty.cells,ziD,ziE,zoN,zlz,zs8]
theorem zGR:Holds Tryz.prog 186 zqk:=zo ze8 zD zu zy (zC (by kernel_rfl)) fun avs rs hb h=>by
 unfold zqk at h;split at h
 ·obtain ⟨hc,rfl⟩:=zl h;exact (fin1 zM2 zRi hc hb :)
 ·cases h
def saw (g:Guest)(n:Int):Guest:=bif ilt (ln g.Seen) 40 then { g with Seen:=ap g.Seen [n] } else g
@[simp] theorem zCO {g:Guest}(n:Int)(h:SmG g):SmG (saw g n):=by
 unfold saw;cases h1:ilt (ln g.Seen) 40
 ·exact h
 ·have:=of_decide_eq_true h1;refine ⟨h.1,h.2.1,h.2.2.1,?_⟩;simp [ln] at *;omega
@[simp,reducible] def zCM (g:Guest)(n:Int):Bool:=pc (SmG g)
@[simp,reducible] def zAb (g:Guest)(n:Int):Guest:=saw g n
def zBX:List AV->Option (Bool×List AV)
 | [.agg [.s .ins c,.i .i64 d,.i .i64 e,.s .slot f,.s .slot g,.i .i64 h,.i .i64 j,.b k,.i .i64 l,.i .i64 m,.i .i64 n,.b o,.i .i64 p,.b q,.s .int r],.one (.i .i64 t)]=>some ((zCM (⟨c,d,e,f,g,⟨h,j,k⟩,l,⟨m,n,o,p⟩,q,r⟩:Guest) t),[.agg (Ty.cells .guest (zAb (⟨c,d,e,f,g,⟨h,j,k⟩,l,⟨m,n,o,p⟩,q,r⟩:Guest) t))])
 | _=>none
def zIX (N:Nat)(a0:Guest)(a1:Int):Option Ans :=
 (cond (zc8 a0) (cond (ilt (ln (zcy a0).Seen) 40) (cond (few (ln (ap (zcy a0).Seen [a1]))) (some [(.agg (Ty.cells .guest ({ (zcy a0) with Seen:=(ap (zcy a0).Seen [a1]) }:Guest)))]) none) (some [(.agg (Ty.cells .guest (zcy a0)))])) none)
theorem zZF (N:Nat)(a0:Guest)(a1:Int):evalFn (cQ ziX zV zK zO) (zB []) N 12 94 [.agg (Ty.cells .guest a0),.one (.i .i64 a1)]=zIX N a0 a1:=by kernel_rfl
theorem zX6 (a0:Guest)(a1:Int)(hb:zG big [.agg (Ty.cells .guest a0),.one (.i .i64 a1)])(hc:(zCM a0 a1)=true):∃N,zIX N a0 a1=some [.agg (Ty.cells .guest (zAb a0 a1))]:=by
 have hs:=zJ.1 hc;have hz:a0.Seen.length<=1048576:=hs.2.2.2
 refine ⟨0,?_⟩;unfold zIX;refine must (by first|assumption|(simp_all<;>omega)) (br (fun _=>must (by first|assumption|(simp_all<;>omega)) ?_) (fun _=>?_))
 all_goals first|rfl|(simp only [*,zAb,saw,cT,cF]<;>rfl)|simp_all [Ty.cells,zAb,saw]
theorem zSX:Holds Tryz.prog 94 zBX:=zo ze8 zD zu zy (zC (by kernel_rfl)) fun avs rs hb h=>by
 unfold zBX at h;split at h
 ·obtain ⟨hc,rfl⟩:=zl h;exact (fin2 zX6 zZF hc hb :)
 ·cases h
@[simp,reducible] def zCz (g:Guest)(n:Int):Bool:=pc (SmG g)
@[simp,reducible] def zzE (g:Guest)(n:Int):Guest:=saw g n
def zBU:List AV->Option (Bool×List AV)
 | [.agg [.s .ins c,.i .i64 d,.i .i64 e,.s .slot f,.s .slot g,.i .i64 h,.i .i64 j,.b k,.i .i64 l,.i .i64 m,.i .i64 n,.b o,.i .i64 p,.b q,.s .int r],.one (.i .i64 t)]=>some ((zCz (⟨c,d,e,f,g,⟨h,j,k⟩,l,⟨m,n,o,p⟩,q,r⟩:Guest) t),[.agg (Ty.cells .guest (zzE (⟨c,d,e,f,g,⟨h,j,k⟩,l,⟨m,n,o,p⟩,q,r⟩:Guest) t))])
 | _=>none
def zIU (N:Nat)(a0:Guest)(a1:Int):Option Ans :=
 (cond (zdj a0) (cond (ilt (ln a0.Seen) 40) (cond (few (ln (ap (zct a0).Seen [a1]))) (some [(.agg (Ty.cells .guest ({ (zct a0) with Seen:=(ap (zct a0).Seen [a1]) }:Guest)))]) none) (some [(.agg (Ty.cells .guest (zct a0)))])) none)
theorem zZC (N:Nat)(a0:Guest)(a1:Int):evalFn (cQ ziX zV zK zO) (zB []) N 12 127 [.agg (Ty.cells .guest a0),.one (.i .i64 a1)]=zIU N a0 a1:=by kernel_rfl
theorem zX3 (a0:Guest)(a1:Int)(hb:zG big [.agg (Ty.cells .guest a0),.one (.i .i64 a1)])(hc:(zCz a0 a1)=true):∃N,zIU N a0 a1=some [.agg (Ty.cells .guest (zzE a0 a1))]:=by
 have hs:=zJ.1 hc;have hz:a0.Seen.length<=1048576:=hs.2.2.2
 refine ⟨0,?_⟩;unfold zIU;refine must (by first|assumption|(simp_all<;>omega)) (br (fun _=>must (by first|assumption|(simp_all<;>omega)) ?_) (fun _=>?_))
 all_goals first|rfl|(simp only [*,zzE,saw,cT,cF]<;>rfl)|simp_all [Ty.cells,zzE,saw]
theorem zSU:Holds Tryz.prog 127 zBU:=zo ze8 zD zu zy (zC (by kernel_rfl)) fun avs rs hb h=>by
 unfold zBU at h;split at h
 ·obtain ⟨hc,rfl⟩:=zl h;exact (fin2 zX3 zZC hc hb :)
 ·cases h
def stopped (g:Guest)(e:GExit):Guest:={ g with Exit:=e }
@[simp] theorem z2g {g:Guest}(e:GExit)(h:SmG g):SmG (stopped g e):=h
@[simp,reducible] def zgh (g:Guest)(e:GExit):Bool:=pc (SmG g)
@[simp,reducible] def zgg (g:Guest)(e:GExit):Guest:=stopped g e
def zqN:List AV->Option (Bool×List AV)
 | [.agg [.s .ins c,.i .i64 d,.i .i64 e,.s .slot f,.s .slot g,.i .i64 h,.i .i64 j,.b k,.i .i64 l,.i .i64 m,.i .i64 n,.b o,.i .i64 p,.b q,.s .int r],.agg [.i .i64 t,.i .i64 u,.b v,.i .i64 w]]=>some ((zgh (⟨c,d,e,f,g,⟨h,j,k⟩,l,⟨m,n,o,p⟩,q,r⟩:Guest) (⟨t,u,v,w⟩:GExit)),[.agg (Ty.cells .guest (zgg (⟨c,d,e,f,g,⟨h,j,k⟩,l,⟨m,n,o,p⟩,q,r⟩:Guest) (⟨t,u,v,w⟩:GExit)))])
 | _=>none
def zwm (N:Nat)(a0:Guest)(a1:GExit):Option Ans :=
 (cond (zc8 a0) (some [(.agg (Ty.cells .guest ({ (zcy a0) with Exit:=a1 }:Guest)))]) none)
theorem zRK (N:Nat)(a0:Guest)(a1:GExit):evalFn (cQ ziX zV zK zO) (zB []) N 12 100 [.agg (Ty.cells .guest a0),.agg (zdQ a1)]=zwm N a0 a1:=by kernel_rfl
theorem zNu (a0:Guest)(a1:GExit)(hb:zG big [.agg (Ty.cells .guest a0),.agg (zdQ a1)])(hc:(zgh a0 a1)=true):∃N,zwm N a0 a1=some [.agg (Ty.cells .guest (zgg a0 a1))]:=by
 have hs:=zJ.1 hc;refine ⟨0,?_⟩;unfold zwm;refine must (by first|assumption|(simp_all<;>omega)) ?_
 first|rfl|(simp only [*,zgg,stopped,cT,cF]<;>rfl)|simp_all [Ty.cells,zgg,stopped]
theorem zHj:Holds Tryz.prog 100 zqN:=zo ze8 zD zu zy (zC (by kernel_rfl)) fun avs rs hb h=>by
 unfold zqN at h;split at h
 ·obtain ⟨hc,rfl⟩:=zl h;exact (fin2 zNu zRK hc hb :)
 ·cases h
@[simp,reducible] def zfj (g:Guest)(e:GExit):Bool:=pc (SmG g)
@[simp,reducible] def zdV (g:Guest)(e:GExit):Guest:=stopped g e
def zqi:List AV->Option (Bool×List AV)
 | [.agg [.s .ins c,.i .i64 d,.i .i64 e,.s .slot f,.s .slot g,.i .i64 h,.i .i64 j,.b k,.i .i64 l,.i .i64 m,.i .i64 n,.b o,.i .i64 p,.b q,.s .int r],.agg [.i .i64 t,.i .i64 u,.b v,.i .i64 w]]=>some ((zfj (⟨c,d,e,f,g,⟨h,j,k⟩,l,⟨m,n,o,p⟩,q,r⟩:Guest) (⟨t,u,v,w⟩:GExit)),[.agg (Ty.cells .guest (zdV (⟨c,d,e,f,g,⟨h,j,k⟩,l,⟨m,n,o,p⟩,q,r⟩:Guest) (⟨t,u,v,w⟩:GExit)))])
 | _=>none
def zvT (N:Nat)(a0:Guest)(a1:GExit):Option Ans :=
 (cond (zdj a0) (some [(.agg (Ty.cells .guest ({ (zct a0) with Exit:=a1 }:Guest)))]) none)
theorem zRg (N:Nat)(a0:Guest)(a1:GExit):evalFn (cQ ziX zV zK zO) (zB []) N 12 58 [.agg (Ty.cells .guest a0),.agg (zdQ a1)]=zvT N a0 a1:=by kernel_rfl
theorem zM0 (a0:Guest)(a1:GExit)(hb:zG big [.agg (Ty.cells .guest a0),.agg (zdQ a1)])(hc:(zfj a0 a1)=true):∃N,zvT N a0 a1=some [.agg (Ty.cells .guest (zdV a0 a1))]:=by
 have hs:=zJ.1 hc;refine ⟨0,?_⟩;unfold zvT;refine must (by first|assumption|(simp_all<;>omega)) ?_
 first|rfl|(simp only [*,zdV,stopped,cT,cF]<;>rfl)|simp_all [Ty.cells,zdV,stopped]
theorem zGP:Holds Tryz.prog 58 zqi:=zo ze8 zD zu zy (zC (by kernel_rfl)) fun avs rs hb h=>by
 unfold zqi at h;split at h
 ·obtain ⟨hc,rfl⟩:=zl h;exact (fin2 zM0 zRg hc hb :)
 ·cases h
def zb7 (g:Guest):Guest:=bif ige g.Pc 12 then { g with Pc:=12 } else { g with Pc:=zq .i64 g.Pc 1 }
@[simp] theorem zlJ {g:Guest}(h:SmG g):SmG (zb7 g):=by
 unfold zb7;cases ige g.Pc 12<;>exact h
@[simp,reducible] def zcp (g:Guest):Bool:=pc (SmG g)
@[simp,reducible] def zcN (g:Guest):Guest:=zb7 g
def zw5:List AV->Option (Bool×List AV)
 | [.agg [.s .ins c,.i .i64 d,.i .i64 e,.s .slot f,.s .slot g,.i .i64 h,.i .i64 j,.b k,.i .i64 l,.i .i64 m,.i .i64 n,.b o,.i .i64 p,.b q,.s .int r]]=>some ((zcp (⟨c,d,e,f,g,⟨h,j,k⟩,l,⟨m,n,o,p⟩,q,r⟩:Guest)),[.agg (Ty.cells .guest (zcN (⟨c,d,e,f,g,⟨h,j,k⟩,l,⟨m,n,o,p⟩,q,r⟩:Guest)))])
 | _=>none
def zA8 (N:Nat)(a0:Guest):Option Ans :=
 (cond (zc8 a0) (cond (ige (zcy a0).Pc 12) (some [(.agg (Ty.cells .guest ({ (zcy a0) with Pc:=12 }:Guest)))]) (some [(.agg (Ty.cells .guest ({ (zcy a0) with Pc:=(zq .i64 (zcy a0).Pc 1) }:Guest)))])) none)
theorem zW6 (N:Nat)(a0:Guest):evalFn (cQ ziX zV zK zO) (zB []) N 12 95 [.agg (Ty.cells .guest a0)]=zA8 N a0:=by kernel_rfl
theorem zTj (a0:Guest)(hb:zG big [.agg (Ty.cells .guest a0)])(hc:(zcp a0)=true):∃N,zA8 N a0=some [.agg (Ty.cells .guest (zcN a0))]:=by
 have hs:=zJ.1 hc;refine ⟨0,?_⟩;unfold zA8;refine must (by first|assumption|(simp_all<;>omega)) (br (fun _=>?_) (fun _=>?_))
 all_goals first|rfl|(simp only [*,zcN,zb7,cT,cF]<;>rfl)|simp_all [Ty.cells,zcN,zb7]
theorem zMM:Holds Tryz.prog 95 zw5:=zo ze8 zD zu zy (zC (by kernel_rfl)) fun avs rs hb h=>by
 unfold zw5 at h;split at h
 ·obtain ⟨hc,rfl⟩:=zl h;exact (fin1 zTj zW6 hc hb :)
 ·cases h
@[simp,reducible] def zef (g:Guest):Bool:=pc (SmG g)
@[simp,reducible] def zdb (g:Guest):Guest:=zb7 g
def zwR:List AV->Option (Bool×List AV)
 | [.agg [.s .ins c,.i .i64 d,.i .i64 e,.s .slot f,.s .slot g,.i .i64 h,.i .i64 j,.b k,.i .i64 l,.i .i64 m,.i .i64 n,.b o,.i .i64 p,.b q,.s .int r]]=>some ((zef (⟨c,d,e,f,g,⟨h,j,k⟩,l,⟨m,n,o,p⟩,q,r⟩:Guest)),[.agg (Ty.cells .guest (zdb (⟨c,d,e,f,g,⟨h,j,k⟩,l,⟨m,n,o,p⟩,q,r⟩:Guest)))])
 | _=>none
def zAU (N:Nat)(a0:Guest):Option Ans :=
 (cond (zdj a0) (cond (ige a0.Pc 12) (some [(.agg (Ty.cells .guest ({ (zct a0) with Pc:=12 }:Guest)))]) (some [(.agg (Ty.cells .guest ({ (zct a0) with Pc:=(zq .i64 a0.Pc 1) }:Guest)))])) none)
theorem zWR (N:Nat)(a0:Guest):evalFn (cQ ziX zV zK zO) (zB []) N 12 126 [.agg (Ty.cells .guest a0)]=zAU N a0:=by kernel_rfl
theorem zS4 (a0:Guest)(hb:zG big [.agg (Ty.cells .guest a0)])(hc:(zef a0)=true):∃N,zAU N a0=some [.agg (Ty.cells .guest (zdb a0))]:=by
 have hs:=zJ.1 hc;refine ⟨0,?_⟩;unfold zAU;refine must (by first|assumption|(simp_all<;>omega)) (br (fun _=>?_) (fun _=>?_))
 all_goals first|rfl|(simp only [*,zdb,zb7,cT,cF]<;>rfl)|simp_all [Ty.cells,zdb,zb7]
theorem zMx:Holds Tryz.prog 126 zwR:=zo ze8 zD zu zy (zC (by kernel_rfl)) fun avs rs hb h=>by
 unfold zwR at h;split at h
 ·obtain ⟨hc,rfl⟩:=zl h;exact (fin1 zS4 zWR hc hb :)
 ·cases h
def zgX:zbQ:=[(102,zop),(60,zn0),(90,zoo),(122,znZ),(93,zqP),(186,zqk),(94,zBX),(127,zBU),(100,zqN),(58,zqi),(95,zw5),(126,zwR)]++ziX
theorem zed:zbw zgX:=zn zFk (zn zES (zn zFj (zn zER (zn zHl (zn zGR (zn zSX (zn zSU (zn zHj (zn zGP (zn zMM (zn zMx ze8)))))))))))
def interrupted (g:Guest):Guest:=bif zhs g then saw { g with Pending:=zlz g.Pending } (zq .i64 100 (zs8 g.Pending)) else g
@[simp] theorem zVq {g:Guest}(h:SmG g):SmG (interrupted g):=by
 unfold interrupted;cases zhs g
 ·exact h
 ·exact zCO (g:={ g with Pending:=zlz g.Pending }) _ h
@[simp,reducible] def znf (g:Guest):Bool:=pc (SmG g)
@[simp,reducible] def ziq (g:Guest):Guest:=interrupted g
def zkq:List AV->Option (Bool×List AV)
 | [.agg [.s .ins c,.i .i64 d,.i .i64 e,.s .slot f,.s .slot g,.i .i64 h,.i .i64 j,.b k,.i .i64 l,.i .i64 m,.i .i64 n,.b o,.i .i64 p,.b q,.s .int r]]=>some ((znf (⟨c,d,e,f,g,⟨h,j,k⟩,l,⟨m,n,o,p⟩,q,r⟩:Guest)),[.agg (Ty.cells .guest (ziq (⟨c,d,e,f,g,⟨h,j,k⟩,l,⟨m,n,o,p⟩,q,r⟩:Guest)))])
 | _=>none
def zlZ (N:Nat)(a0:Guest):Option Ans :=
 (cond (zni a0) (cond (cond (zka a0) false true) (cond (zc8 a0) (some [(.agg (Ty.cells .guest (zcy a0)))]) none) (cond (zxc a0.Pending) (cond (zCM ({ a0 with Pending:=(ziQ a0.Pending) }:Guest) (zq .i64 100 (ziR a0.Pending))) (some [(.agg (Ty.cells .guest (zAb ({ a0 with Pending:=(ziQ a0.Pending) }:Guest) (zq .i64 100 (ziR a0.Pending)))))]) none) none)) none)
theorem zFX (N:Nat)(a0:Guest):evalFn (cQ zgX zV zK zO) (zB []) N 12 41 [.agg (Ty.cells .guest a0)]=zlZ N a0:=by kernel_rfl
theorem zDF (a0:Guest)(hb:zG big [.agg (Ty.cells .guest a0)])(hc:(znf a0)=true):∃N,zlZ N a0=some [.agg (Ty.cells .guest (ziq a0))]:=by
 have hs:=zJ.1 hc;have hz:_/\_/\_/\_:=hs
 refine ⟨0,?_⟩;unfold zlZ;refine must rfl (brN (fun _=>must (by first|assumption|(simp_all<;>omega)) ?_) (fun _=>must rfl (must (by first|assumption|(simp_all<;>omega)) ?_)))
 all_goals first|rfl|(simp only [*,ziq,interrupted,cT,cF]<;>rfl)|simp_all [Ty.cells,ziq,interrupted]
theorem zAL:Holds Tryz.prog 41 zkq:=zo zed zD zu zy (zC (by kernel_rfl)) fun avs rs hb h=>by
 unfold zkq at h;split at h
 ·obtain ⟨hc,rfl⟩:=zl h;exact (fin1 zDF zFX hc hb :)
 ·cases h
@[simp,reducible] def zmg (g:Guest):Bool:=pc (SmG g)
@[simp,reducible] def zgM (g:Guest):Guest:=interrupted g
def zkn:List AV->Option (Bool×List AV)
 | [.agg [.s .ins c,.i .i64 d,.i .i64 e,.s .slot f,.s .slot g,.i .i64 h,.i .i64 j,.b k,.i .i64 l,.i .i64 m,.i .i64 n,.b o,.i .i64 p,.b q,.s .int r]]=>some ((zmg (⟨c,d,e,f,g,⟨h,j,k⟩,l,⟨m,n,o,p⟩,q,r⟩:Guest)),[.agg (Ty.cells .guest (zgM (⟨c,d,e,f,g,⟨h,j,k⟩,l,⟨m,n,o,p⟩,q,r⟩:Guest)))])
 | _=>none
def zlN (N:Nat)(a0:Guest):Option Ans :=
 (cond (zmm a0) (cond (cond (zjV a0) false true) (cond (zdj a0) (some [(.agg (Ty.cells .guest (zct a0)))]) none) (cond (zwG a0.Pending) (cond (zCz ({ a0 with Pending:=(ziD a0.Pending) }:Guest) (zq .i64 100 (ziE a0.Pending))) (some [(.agg (Ty.cells .guest (zzE ({ a0 with Pending:=(ziD a0.Pending) }:Guest) (zq .i64 100 (ziE a0.Pending)))))]) none) none)) none)
theorem zFM (N:Nat)(a0:Guest):evalFn (cQ zgX zV zK zO) (zB []) N 12 136 [.agg (Ty.cells .guest a0)]=zlN N a0:=by kernel_rfl
theorem zDu (a0:Guest)(hb:zG big [.agg (Ty.cells .guest a0)])(hc:(zmg a0)=true):∃N,zlN N a0=some [.agg (Ty.cells .guest (zgM a0))]:=by
 have hs:=zJ.1 hc;have hz:_/\_/\_/\_:=hs
 refine ⟨0,?_⟩;unfold zlN;refine must rfl (brN (fun _=>must (by first|assumption|(simp_all<;>omega)) ?_) (fun _=>must rfl (must (by first|assumption|(simp_all<;>omega)) ?_)))
 all_goals first|rfl|(simp only [*,zgM,interrupted,cT,cF]<;>rfl)|simp_all [Ty.cells,zgM,interrupted]
theorem zAB:Holds Tryz.prog 136 zkn:=zo zed zD zu zy (zC (by kernel_rfl)) fun avs rs hb h=>by
 unfold zkn at h;split at h
 ·obtain ⟨hc,rfl⟩:=zl h;exact (fin1 zDu zFM hc hb :)
 ·cases h
def zxN (o:Int):Int:=bif ieq o 3 then 3 else (cond (ieq o 4) 4 (cond (ieq o 5) 5 (cond (ieq o 6) 6 (cond (ieq o 7) 7 2))))
def zN (g:Guest):Int:=bif canRun g then (cond (zhs g) 1 (zxN (zdE g.Prog g.Pc).Op)) else 0
@[simp,reducible] def zex (g:Guest):Bool:=true
@[simp,reducible] def zll (g:Guest):Int:=zN g
def zus:List AV->Option (Bool×List AV)
 | [.agg [.s .ins c,.i .i64 d,.i .i64 e,.s .slot f,.s .slot g,.i .i64 h,.i .i64 j,.b k,.i .i64 l,.i .i64 m,.i .i64 n,.b o,.i .i64 p,.b q,.s .int r]]=>some ((zex (⟨c,d,e,f,g,⟨h,j,k⟩,l,⟨m,n,o,p⟩,q,r⟩:Guest)),[.one (.i .i64 (zll (⟨c,d,e,f,g,⟨h,j,k⟩,l,⟨m,n,o,p⟩,q,r⟩:Guest)))])
 | _=>none
def zyY (N:Nat)(a0:Guest):Option Ans :=
 (cond (zrN a0) (cond (cond (zos a0) false true) (some [(.one (.i .i64 0))]) (cond (zni a0) (cond (zka a0) (some [(.one (.i .i64 1))]) (cond (ze0 a0.Prog a0.Pc) (cond (ieq (zbN a0.Prog a0.Pc).Op 3) (some [(.one (.i .i64 3))]) (cond (ieq (zbN a0.Prog a0.Pc).Op 4) (some [(.one (.i .i64 4))]) (cond (ieq (zbN a0.Prog a0.Pc).Op 5) (some [(.one (.i .i64 5))]) (cond (ieq (zbN a0.Prog a0.Pc).Op 6) (some [(.one (.i .i64 6))]) (cond (ieq (zbN a0.Prog a0.Pc).Op 7) (some [(.one (.i .i64 7))]) (some [(.one (.i .i64 2))])))))) none)) none)) none)
theorem zUs (N:Nat)(a0:Guest):evalFn (cQ zgX zV zK zO) (zB []) N 12 40 [.agg (Ty.cells .guest a0)]=zyY N a0:=by kernel_rfl
theorem zQX (a0:Guest)(hb:zG big [.agg (Ty.cells .guest a0)])(hc:(zex a0)=true):∃N,zyY N a0=some [.one (.i .i64 (zll a0))]:=by
 refine ⟨0,?_⟩;unfold zyY;refine must rfl (brN (fun _=>?_) (fun _=>must rfl (br (fun _=>?_) (fun _=>must rfl (br (fun _=>?_) (fun _=>br (fun _=>?_) (fun _=>br (fun _=>?_) (fun _=>br (fun _=>?_) (fun _=>br (fun _=>?_) (fun _=>?_))))))))))
 all_goals first|rfl|(simp only [*,zll,zN,zxN,cT,cF]<;>rfl)|simp_all [Ty.cells,zll,zN,zxN]
theorem zcf:Holds Tryz.prog 40 zus:=zo zed zD zu zy (zC (by kernel_rfl)) fun avs rs hb h=>by
 unfold zus at h;split at h
 ·obtain ⟨hc,rfl⟩:=zl h;exact (fin1 zQX zUs hc hb :)
 ·cases h
@[simp,reducible] def zh3 (g:Guest):Bool:=true
@[simp,reducible] def zbp (g:Guest):Int:=zN g
def ztJ:List AV->Option (Bool×List AV)
 | [.agg [.s .ins c,.i .i64 d,.i .i64 e,.s .slot f,.s .slot g,.i .i64 h,.i .i64 j,.b k,.i .i64 l,.i .i64 m,.i .i64 n,.b o,.i .i64 p,.b q,.s .int r]]=>some ((zh3 (⟨c,d,e,f,g,⟨h,j,k⟩,l,⟨m,n,o,p⟩,q,r⟩:Guest)),[.one (.i .i64 (zbp (⟨c,d,e,f,g,⟨h,j,k⟩,l,⟨m,n,o,p⟩,q,r⟩:Guest)))])
 | _=>none
def zyl (N:Nat)(a0:Guest):Option Ans :=
 (cond (zrm a0) (cond (cond (znJ a0) false true) (some [(.one (.i .i64 0))]) (cond (zmm a0) (cond (zjV a0) (some [(.one (.i .i64 1))]) (cond (zfw a0.Prog a0.Pc) (cond (ieq (zb3 a0.Prog a0.Pc).Op 3) (some [(.one (.i .i64 3))]) (cond (ieq (zb3 a0.Prog a0.Pc).Op 4) (some [(.one (.i .i64 4))]) (cond (ieq (zb3 a0.Prog a0.Pc).Op 5) (some [(.one (.i .i64 5))]) (cond (ieq (zb3 a0.Prog a0.Pc).Op 6) (some [(.one (.i .i64 6))]) (cond (ieq (zb3 a0.Prog a0.Pc).Op 7) (some [(.one (.i .i64 7))]) (some [(.one (.i .i64 2))])))))) none)) none)) none)
theorem zTM (N:Nat)(a0:Guest):evalFn (cQ zgX zV zK zO) (zB []) N 12 53 [.agg (Ty.cells .guest a0)]=zyl N a0:=by kernel_rfl
theorem zQh (a0:Guest)(hb:zG big [.agg (Ty.cells .guest a0)])(hc:(zh3 a0)=true):∃N,zyl N a0=some [.one (.i .i64 (zbp a0))]:=by
 refine ⟨0,?_⟩;unfold zyl;refine must rfl (brN (fun _=>?_) (fun _=>must rfl (br (fun _=>?_) (fun _=>must rfl (br (fun _=>?_) (fun _=>br (fun _=>?_) (fun _=>br (fun _=>?_) (fun _=>br (fun _=>?_) (fun _=>br (fun _=>?_) (fun _=>?_))))))))))
 all_goals first|rfl|(simp only [*,zbp,zN,zxN,cT,cF]<;>rfl)|simp_all [Ty.cells,zbp,zN,zxN]
theorem zJB:Holds Tryz.prog 53 ztJ:=zo zed zD zu zy (zC (by kernel_rfl)) fun avs rs hb h=>by
 unfold ztJ at h;split at h
 ·obtain ⟨hc,rfl⟩:=zl h;exact (fin1 zQh zTM hc hb :)
 ·cases h
def held (g:Guest):Guest:=zb7 { g with Halted:=true }
@[simp] theorem zZQ {g:Guest}(h:SmG g):SmG (held g):=zlJ (g:={ g with Halted:=true }) h
@[simp,reducible] def zou (g:Guest):Bool:=pc (SmG g)
@[simp,reducible] def zpq (g:Guest):Guest:=held g
def zz2:List AV->Option (Bool×List AV)
 | [.agg [.s .ins c,.i .i64 d,.i .i64 e,.s .slot f,.s .slot g,.i .i64 h,.i .i64 j,.b k,.i .i64 l,.i .i64 m,.i .i64 n,.b o,.i .i64 p,.b q,.s .int r]]=>some ((zou (⟨c,d,e,f,g,⟨h,j,k⟩,l,⟨m,n,o,p⟩,q,r⟩:Guest)),[.agg (Ty.cells .guest (zpq (⟨c,d,e,f,g,⟨h,j,k⟩,l,⟨m,n,o,p⟩,q,r⟩:Guest)))])
 | _=>none
def zEm (N:Nat)(a0:Guest):Option Ans :=
 (cond (zcp ({ a0 with Halted:=true }:Guest)) (some [(.agg (Ty.cells .guest (zcN ({ a0 with Halted:=true }:Guest))))]) none)
theorem zYj (N:Nat)(a0:Guest):evalFn (cQ zgX zV zK zO) (zB []) N 12 167 [.agg (Ty.cells .guest a0)]=zEm N a0:=by kernel_rfl
theorem zWJ (a0:Guest)(hb:zG big [.agg (Ty.cells .guest a0)])(hc:(zou a0)=true):∃N,zEm N a0=some [.agg (Ty.cells .guest (zpq a0))]:=by
 have hs:=zJ.1 hc;have hz:_/\_/\_/\_:=hs
 refine ⟨0,?_⟩;unfold zEm;refine must (by first|assumption|(simp_all<;>omega)) ?_
 first|rfl|(simp only [*,zpq,held,cT,cF]<;>rfl)|simp_all [Ty.cells,zpq,held]
theorem zPN:Holds Tryz.prog 167 zz2:=zo zed zD zu zy (zC (by kernel_rfl)) fun avs rs hb h=>by
 unfold zz2 at h;split at h
 ·obtain ⟨hc,rfl⟩:=zl h;exact (fin1 zWJ zYj hc hb :)
 ·cases h
@[simp,reducible] def zk2 (g:Guest):Bool:=pc (SmG g)
@[simp,reducible] def zji (g:Guest):Guest:=held g
def zz0:List AV->Option (Bool×List AV)
 | [.agg [.s .ins c,.i .i64 d,.i .i64 e,.s .slot f,.s .slot g,.i .i64 h,.i .i64 j,.b k,.i .i64 l,.i .i64 m,.i .i64 n,.b o,.i .i64 p,.b q,.s .int r]]=>some ((zk2 (⟨c,d,e,f,g,⟨h,j,k⟩,l,⟨m,n,o,p⟩,q,r⟩:Guest)),[.agg (Ty.cells .guest (zji (⟨c,d,e,f,g,⟨h,j,k⟩,l,⟨m,n,o,p⟩,q,r⟩:Guest)))])
 | _=>none
def zEi (N:Nat)(a0:Guest):Option Ans :=
 (cond (zef ({ a0 with Halted:=true }:Guest)) (some [(.agg (Ty.cells .guest (zdb ({ a0 with Halted:=true }:Guest))))]) none)
theorem zYf (N:Nat)(a0:Guest):evalFn (cQ zgX zV zK zO) (zB []) N 12 131 [.agg (Ty.cells .guest a0)]=zEi N a0:=by kernel_rfl
theorem zWF (a0:Guest)(hb:zG big [.agg (Ty.cells .guest a0)])(hc:(zk2 a0)=true):∃N,zEi N a0=some [.agg (Ty.cells .guest (zji a0))]:=by
 have hs:=zJ.1 hc;have hz:_/\_/\_/\_:=hs
 refine ⟨0,?_⟩;unfold zEi;refine must (by first|assumption|(simp_all<;>omega)) ?_
 first|rfl|(simp only [*,zji,held,cT,cF]<;>rfl)|simp_all [Ty.cells,zji,held]
theorem zPJ:Holds Tryz.prog 131 zz0:=zo zed zD zu zy (zC (by kernel_rfl)) fun avs rs hb h=>by
 unfold zz0 at h;split at h
 ·obtain ⟨hc,rfl⟩:=zl h;exact (fin1 zWF zYf hc hb :)
 ·cases h
@[simp,reducible] def zAd (g:Guest):Bool:=pc (SmG g)
@[simp,reducible] def zuE (g:Guest):Guest:=zb7 g
def zup:List AV->Option (Bool×List AV)
 | [.agg [.s .ins c,.i .i64 d,.i .i64 e,.s .slot f,.s .slot g,.i .i64 h,.i .i64 j,.b k,.i .i64 l,.i .i64 m,.i .i64 n,.b o,.i .i64 p,.b q,.s .int r]]=>some ((zAd (⟨c,d,e,f,g,⟨h,j,k⟩,l,⟨m,n,o,p⟩,q,r⟩:Guest)),[.agg (Ty.cells .guest (zuE (⟨c,d,e,f,g,⟨h,j,k⟩,l,⟨m,n,o,p⟩,q,r⟩:Guest)))])
 | _=>none
def zyV (N:Nat)(a0:Guest):Option Ans :=
 (cond (zcp a0) (some [(.agg (Ty.cells .guest (zcN a0)))]) none)
theorem zUp (N:Nat)(a0:Guest):evalFn (cQ zgX zV zK zO) (zB []) N 12 104 [.agg (Ty.cells .guest a0)]=zyV N a0:=by kernel_rfl
theorem zQU (a0:Guest)(hb:zG big [.agg (Ty.cells .guest a0)])(hc:(zAd a0)=true):∃N,zyV N a0=some [.agg (Ty.cells .guest (zuE a0))]:=by
 have hs:=zJ.1 hc;refine ⟨0,?_⟩;unfold zyV;refine must (by first|assumption|(simp_all<;>omega)) ?_
 first|rfl|(simp only [*,zuE,cT,cF]<;>rfl)|simp_all [Ty.cells,zuE]
theorem zKe:Holds Tryz.prog 104 zup:=zo zed zD zu zy (zC (by kernel_rfl)) fun avs rs hb h=>by
 unfold zup at h;split at h
 ·obtain ⟨hc,rfl⟩:=zl h;exact (fin1 zQU zUp hc hb :)
 ·cases h
@[simp,reducible] def zml (g:Guest):Bool:=pc (SmG g)
@[simp,reducible] def zh2 (g:Guest):Guest:=zb7 g
def ztG:List AV->Option (Bool×List AV)
 | [.agg [.s .ins c,.i .i64 d,.i .i64 e,.s .slot f,.s .slot g,.i .i64 h,.i .i64 j,.b k,.i .i64 l,.i .i64 m,.i .i64 n,.b o,.i .i64 p,.b q,.s .int r]]=>some ((zml (⟨c,d,e,f,g,⟨h,j,k⟩,l,⟨m,n,o,p⟩,q,r⟩:Guest)),[.agg (Ty.cells .guest (zh2 (⟨c,d,e,f,g,⟨h,j,k⟩,l,⟨m,n,o,p⟩,q,r⟩:Guest)))])
 | _=>none
def zyi (N:Nat)(a0:Guest):Option Ans :=
 (cond (zef a0) (some [(.agg (Ty.cells .guest (zdb a0)))]) none)
theorem zTJ (N:Nat)(a0:Guest):evalFn (cQ zgX zV zK zO) (zB []) N 12 62 [.agg (Ty.cells .guest a0)]=zyi N a0:=by kernel_rfl
theorem zQe (a0:Guest)(hb:zG big [.agg (Ty.cells .guest a0)])(hc:(zml a0)=true):∃N,zyi N a0=some [.agg (Ty.cells .guest (zh2 a0))]:=by
 have hs:=zJ.1 hc;refine ⟨0,?_⟩;unfold zyi;refine must (by first|assumption|(simp_all<;>omega)) ?_
 first|rfl|(simp only [*,zh2,cT,cF]<;>rfl)|simp_all [Ty.cells,zh2]
theorem zJy:Holds Tryz.prog 62 ztG:=zo zed zD zu zy (zC (by kernel_rfl)) fun avs rs hb h=>by
 unfold ztG at h;split at h
 ·obtain ⟨hc,rfl⟩:=zl h;exact (fin1 zQe zTJ hc hb :)
 ·cases h
def loaded (g:Guest)(v:Int):Guest:=zb7 (saw { g with A:=v } v)
@[simp] theorem zIt {g:Guest}(v:Int)(h:SmG g):SmG (loaded g v):=zlJ (zCO (g:={ g with A:=v }) v h)
@[simp,reducible] def zz7 (g:Guest)(v:Int):Bool:=pc (SmG g)
@[simp,reducible] def zuC (g:Guest)(v:Int):Guest:=loaded g v
def zug:List AV->Option (Bool×List AV)
 | [.agg [.s .ins c,.i .i64 d,.i .i64 e,.s .slot f,.s .slot g,.i .i64 h,.i .i64 j,.b k,.i .i64 l,.i .i64 m,.i .i64 n,.b o,.i .i64 p,.b q,.s .int r],.one (.i .i64 t)]=>some ((zz7 (⟨c,d,e,f,g,⟨h,j,k⟩,l,⟨m,n,o,p⟩,q,r⟩:Guest) t),[.agg (Ty.cells .guest (zuC (⟨c,d,e,f,g,⟨h,j,k⟩,l,⟨m,n,o,p⟩,q,r⟩:Guest) t))])
 | _=>none
def zyN (N:Nat)(a0:Guest)(a1:Int):Option Ans :=
 (cond (zCM ({ a0 with A:=a1 }:Guest) a1) (cond (zcp (zAb ({ a0 with A:=a1 }:Guest) a1)) (some [(.agg (Ty.cells .guest (zcN (zAb ({ a0 with A:=a1 }:Guest) a1))))]) none) none)
theorem zUg (N:Nat)(a0:Guest)(a1:Int):evalFn (cQ zgX zV zK zO) (zB []) N 12 105 [.agg (Ty.cells .guest a0),.one (.i .i64 a1)]=zyN N a0 a1:=by kernel_rfl
theorem zQL (a0:Guest)(a1:Int)(hb:zG big [.agg (Ty.cells .guest a0),.one (.i .i64 a1)])(hc:(zz7 a0 a1)=true):∃N,zyN N a0 a1=some [.agg (Ty.cells .guest (zuC a0 a1))]:=by
 have hs:=zJ.1 hc;have hz:_/\_/\_/\_:=hs;have hk:SmG (saw { a0 with A:=a1 } a1):=zCO (g:={ a0 with A:=a1 }) a1 hs
 refine ⟨0,?_⟩;unfold zyN;refine must (by first|assumption|(simp_all<;>omega)) (must (by first|assumption|(simp_all<;>omega)) ?_)
 first|rfl|(simp only [*,zuC,loaded,cT,cF]<;>rfl)|simp_all [Ty.cells,zuC,loaded]
theorem zJ5:Holds Tryz.prog 105 zug:=zo zed zD zu zy (zC (by kernel_rfl)) fun avs rs hb h=>by
 unfold zug at h;split at h
 ·obtain ⟨hc,rfl⟩:=zl h;exact (fin2 zQL zUg hc hb :)
 ·cases h
@[simp,reducible] def zmh (g:Guest)(v:Int):Bool:=pc (SmG g)
@[simp,reducible] def zhY (g:Guest)(v:Int):Guest:=loaded g v
def ztt:List AV->Option (Bool×List AV)
 | [.agg [.s .ins c,.i .i64 d,.i .i64 e,.s .slot f,.s .slot g,.i .i64 h,.i .i64 j,.b k,.i .i64 l,.i .i64 m,.i .i64 n,.b o,.i .i64 p,.b q,.s .int r],.one (.i .i64 t)]=>some ((zmh (⟨c,d,e,f,g,⟨h,j,k⟩,l,⟨m,n,o,p⟩,q,r⟩:Guest) t),[.agg (Ty.cells .guest (zhY (⟨c,d,e,f,g,⟨h,j,k⟩,l,⟨m,n,o,p⟩,q,r⟩:Guest) t))])
 | _=>none
def zx6 (N:Nat)(a0:Guest)(a1:Int):Option Ans :=
 (cond (zCz ({ a0 with A:=a1 }:Guest) a1) (cond (zef (zzE ({ a0 with A:=a1 }:Guest) a1)) (some [(.agg (Ty.cells .guest (zdb (zzE ({ a0 with A:=a1 }:Guest) a1))))]) none) none)
theorem zTw (N:Nat)(a0:Guest)(a1:Int):evalFn (cQ zgX zV zK zO) (zB []) N 12 63 [.agg (Ty.cells .guest a0),.one (.i .i64 a1)]=zx6 N a0 a1:=by kernel_rfl
theorem zP1 (a0:Guest)(a1:Int)(hb:zG big [.agg (Ty.cells .guest a0),.one (.i .i64 a1)])(hc:(zmh a0 a1)=true):∃N,zx6 N a0 a1=some [.agg (Ty.cells .guest (zhY a0 a1))]:=by
 have hs:=zJ.1 hc;have hz:_/\_/\_/\_:=hs;have hk:SmG (saw { a0 with A:=a1 } a1):=zCO (g:={ a0 with A:=a1 }) a1 hs
 refine ⟨0,?_⟩;unfold zx6;refine must (by first|assumption|(simp_all<;>omega)) (must (by first|assumption|(simp_all<;>omega)) ?_)
 first|rfl|(simp only [*,zhY,loaded,cT,cF]<;>rfl)|simp_all [Ty.cells,zhY,loaded]
theorem zJl:Holds Tryz.prog 63 ztt:=zo zed zD zu zy (zC (by kernel_rfl)) fun avs rs hb h=>by
 unfold ztt at h;split at h
 ·obtain ⟨hc,rfl⟩:=zl h;exact (fin2 zP1 zTw hc hb :)
 ·cases h
def zoC (g:Guest)(w:Int):Guest:=bif ieq w 5 then stopped g (zCH (zdE g.Prog g.Pc).X) else stopped g ⟨4,0,false,0⟩
@[simp] theorem z2h {g:Guest}(w:Int)(h:SmG g):SmG (zoC g w):=by
 unfold zoC;cases ieq w 5<;>exact h
@[simp,reducible] def zkB (g:Guest)(w:Int):Bool:=pc (SmG g)
@[simp,reducible] def zg2 (g:Guest)(w:Int):Guest:=zoC g w
def zqn:List AV->Option (Bool×List AV)
 | [.agg [.s .ins c,.i .i64 d,.i .i64 e,.s .slot f,.s .slot g,.i .i64 h,.i .i64 j,.b k,.i .i64 l,.i .i64 m,.i .i64 n,.b o,.i .i64 p,.b q,.s .int r],.one (.i .i64 t)]=>some ((zkB (⟨c,d,e,f,g,⟨h,j,k⟩,l,⟨m,n,o,p⟩,q,r⟩:Guest) t),[.agg (Ty.cells .guest (zg2 (⟨c,d,e,f,g,⟨h,j,k⟩,l,⟨m,n,o,p⟩,q,r⟩:Guest) t))])
 | _=>none
def zvY (N:Nat)(a0:Guest)(a1:Int):Option Ans :=
 (cond (ieq a1 5) (cond (zfw a0.Prog a0.Pc) (cond (zwD (zb3 a0.Prog a0.Pc).X) (cond (zfj a0 (zlx (zb3 a0.Prog a0.Pc).X)) (some [(.agg (Ty.cells .guest (zdV a0 (zlx (zb3 a0.Prog a0.Pc).X))))]) none) none) none) (cond (zfj a0 (⟨4,0,false,0⟩:GExit)) (some [(.agg (Ty.cells .guest (zdV a0 (⟨4,0,false,0⟩:GExit))))]) none))
theorem zRl (N:Nat)(a0:Guest)(a1:Int):evalFn (cQ zgX zV zK zO) (zB []) N 12 130 [.agg (Ty.cells .guest a0),.one (.i .i64 a1)]=zvY N a0 a1:=by kernel_rfl
theorem zM5 (a0:Guest)(a1:Int)(hb:zG big [.agg (Ty.cells .guest a0),.one (.i .i64 a1)])(hc:(zkB a0 a1)=true):∃N,zvY N a0 a1=some [.agg (Ty.cells .guest (zg2 a0 a1))]:=by
 have hs:=zJ.1 hc;refine ⟨0,?_⟩;unfold zvY;refine br (fun _=>must rfl (must rfl (must (by first|assumption|(simp_all<;>omega)) ?_))) (fun _=>must (by first|assumption|(simp_all<;>omega)) ?_)
 all_goals first|rfl|(simp only [*,zg2,zoC,cT,cF]<;>rfl)|simp_all [Ty.cells,zg2,zoC]
theorem zGU:Holds Tryz.prog 130 zqn:=zo zed zD zu zy (zC (by kernel_rfl)) fun avs rs hb h=>by
 unfold zqn at h;split at h
 ·obtain ⟨hc,rfl⟩:=zl h;exact (fin2 zM5 zRl hc hb :)
 ·cases h
def zdG (g:Guest):Bool:=zjC g.Prog&&(win g.A 0 99&&(win g.Pc 0 12&&(zdK g.Written 4 8&&(zdK g.Live 4 8&&(zza g.Ctl&&(zgz g.Pending&&(zsO g.Exit&&ile (ln g.Seen) 40)))))))
@[simp,reducible] def zo5 (g:Guest):Bool:=true
@[simp,reducible] def zlG (g:Guest):Bool:=zdG g
def zqI:List AV->Option (Bool×List AV)
 | [.agg [.s .ins c,.i .i64 d,.i .i64 e,.s .slot f,.s .slot g,.i .i64 h,.i .i64 j,.b k,.i .i64 l,.i .i64 m,.i .i64 n,.b o,.i .i64 p,.b q,.s .int r]]=>some ((zo5 (⟨c,d,e,f,g,⟨h,j,k⟩,l,⟨m,n,o,p⟩,q,r⟩:Guest)),[.one (.b (zlG (⟨c,d,e,f,g,⟨h,j,k⟩,l,⟨m,n,o,p⟩,q,r⟩:Guest)))])
 | _=>none
def zwh (N:Nat)(a0:Guest):Option Ans :=
 (cond (zAa a0.Prog) (cond (zlj a0.Prog) (cond (zZ a0.A 0 99) (cond (zbe a0.A 0 99) (cond (zZ a0.Pc 0 12) (cond (zbe a0.Pc 0 12) (cond (zkG a0.Written 4 8) (cond (zhd a0.Written 4 8) (cond (zkG a0.Live 4 8) (cond (zhd a0.Live 4 8) (cond (zBZ a0.Ctl) (cond (zxQ a0.Ctl) (cond (zhc a0.Pending) (cond (zgD a0.Pending) (cond (zz5 a0.Exit) (cond (zuz a0.Exit) (some [(.one (.b (ile (ln a0.Seen) 40)))]) (some [(.one (.b false))])) none) (some [(.one (.b false))])) none) (some [(.one (.b false))])) none) (some [(.one (.b false))])) none) (some [(.one (.b false))])) none) (some [(.one (.b false))])) none) (some [(.one (.b false))])) none) (some [(.one (.b false))])) none)
theorem zRF (N:Nat)(a0:Guest):evalFn (cQ zgX zV zK zO) (zB []) N 12 195 [.agg (Ty.cells .guest a0)]=zwh N a0:=by kernel_rfl
theorem zNp (a0:Guest)(hb:zG big [.agg (Ty.cells .guest a0)])(hc:(zo5 a0)=true):∃N,zwh N a0=some [.one (.b (zlG a0))]:=by
 refine ⟨0,?_⟩;unfold zwh;refine must rfl (br (fun _=>must rfl (br (fun _=>must rfl (br (fun _=>must rfl (br (fun _=>must rfl (br (fun _=>must rfl (br (fun _=>must rfl (br (fun _=>must rfl (br (fun _=>?_) (fun _=>?_))) (fun _=>?_))) (fun _=>?_))) (fun _=>?_))) (fun _=>?_))) (fun _=>?_))) (fun _=>?_))) (fun _=>?_))
 all_goals first|rfl|(simp only [*,zlG,zdG,cT,cF]<;>rfl)|simp_all [Ty.cells,zlG,zdG]
theorem zHe:Holds Tryz.prog 195 zqI:=zo zed zD zu zy (zC (by kernel_rfl)) fun avs rs hb h=>by
 unfold zqI at h;split at h
 ·obtain ⟨hc,rfl⟩:=zl h;exact (fin1 zNp zRF hc hb :)
 ·cases h
@[simp,reducible] def zkz (g:Guest):Bool:=true
@[simp,reducible] def zjh (g:Guest):Bool:=zdG g
def zqd:List AV->Option (Bool×List AV)
 | [.agg [.s .ins c,.i .i64 d,.i .i64 e,.s .slot f,.s .slot g,.i .i64 h,.i .i64 j,.b k,.i .i64 l,.i .i64 m,.i .i64 n,.b o,.i .i64 p,.b q,.s .int r]]=>some ((zkz (⟨c,d,e,f,g,⟨h,j,k⟩,l,⟨m,n,o,p⟩,q,r⟩:Guest)),[.one (.b (zjh (⟨c,d,e,f,g,⟨h,j,k⟩,l,⟨m,n,o,p⟩,q,r⟩:Guest)))])
 | _=>none
def zvO (N:Nat)(a0:Guest):Option Ans :=
 (cond (zzD a0.Prog) (cond (zk4 a0.Prog) (cond (zbm a0.A 0 99) (cond (zby a0.A 0 99) (cond (zbm a0.Pc 0 12) (cond (zby a0.Pc 0 12) (cond (zkA a0.Written 4 8) (cond (zg1 a0.Written 4 8) (cond (zkA a0.Live 4 8) (cond (zg1 a0.Live 4 8) (cond (zBC a0.Ctl) (cond (zxw a0.Ctl) (cond (zh1 a0.Pending) (cond (zh0 a0.Pending) (cond (zzx a0.Exit) (cond (zsW a0.Exit) (some [(.one (.b (ile (ln a0.Seen) 40)))]) (some [(.one (.b false))])) none) (some [(.one (.b false))])) none) (some [(.one (.b false))])) none) (some [(.one (.b false))])) none) (some [(.one (.b false))])) none) (some [(.one (.b false))])) none) (some [(.one (.b false))])) none) (some [(.one (.b false))])) none)
theorem zRb (N:Nat)(a0:Guest):evalFn (cQ zgX zV zK zO) (zB []) N 12 174 [.agg (Ty.cells .guest a0)]=zvO N a0:=by kernel_rfl
theorem zMV (a0:Guest)(hb:zG big [.agg (Ty.cells .guest a0)])(hc:(zkz a0)=true):∃N,zvO N a0=some [.one (.b (zjh a0))]:=by
 refine ⟨0,?_⟩;unfold zvO;refine must rfl (br (fun _=>must rfl (br (fun _=>must rfl (br (fun _=>must rfl (br (fun _=>must rfl (br (fun _=>must rfl (br (fun _=>must rfl (br (fun _=>must rfl (br (fun _=>?_) (fun _=>?_))) (fun _=>?_))) (fun _=>?_))) (fun _=>?_))) (fun _=>?_))) (fun _=>?_))) (fun _=>?_))) (fun _=>?_))
 all_goals first|rfl|(simp only [*,zjh,zdG,cT,cF]<;>rfl)|simp_all [Ty.cells,zjh,zdG]
theorem zGK:Holds Tryz.prog 174 zqd:=zo zed zD zu zy (zC (by kernel_rfl)) fun avs rs hb h=>by
 unfold zqd at h;split at h
 ·obtain ⟨hc,rfl⟩:=zl h;exact (fin1 zMV zRb hc hb :)
 ·cases h
@[simp,reducible] def zhG (l:List Guest):Bool:=pc (zBe l)
@[simp,reducible] def zhF (l:List Guest):List Guest:=l
def zle:List AV->Option (Bool×List AV)
 | [.one (.s .guest b)]=>some ((zhG b),[.one (.s .guest (zhF b))])
 | _=>none
def znu (N:Nat)(a0:List Guest):Option Ans :=
 (iter (σ:=(Int×(Int×((List Guest)×((List Guest)×Unit))))) N (fun r2 s3=>(cond (ilt s3.2.1 s3.1) (cond (inb s3.2.1 (ln s3.2.2.2.1)) (cond (zdj (ix s3.2.2.2.1 s3.2.1 zi)) (cond (few (ln (ap s3.2.2.1 [(zct (ix s3.2.2.2.1 s3.2.1 zi))]))) (r2 (s3.1,((zq .i64 s3.2.1 1),((ap s3.2.2.1 [(zct (ix s3.2.2.2.1 s3.2.1 zi))]),(s3.2.2.2.1,()))))) none) none) none) (some [(.one (.s .guest s3.2.2.1))]))) ((ln a0),(0,([],(a0,())))))
def zF5:FuncId->Nat->Option Tmpl:=zB [(115,0,{ n:=20,tm:=[(3,.sl 0 []),(7,.sl 1 []),(8,.i .i64),(9,.i .i64)],lo:=[],ro:=[(0,.guest,true),(1,.guest,false)] })]
theorem zIa (N:Nat)(a0:List Guest):evalFn (cQ zgX zV zK zO) zF5 N 12 115 [.one (.s .guest a0)]=znu N a0:=by kernel_rfl
theorem zFy (a0:List Guest)(hb:zG big [.one (.s .guest a0)])(hc:(zhG a0)=true):∃N,znu N a0=some [.one (.s .guest (zhF a0))]:=by
 have hs:=zJ.1 hc;have hl:=zcA hs.1;refine ⟨NN,?_⟩;have hNN:∀{n:Nat},n<=big->n<NN:=fun h=>zb8 h;generalize NN=N at hNN ⊢;unfold znu;refine (zbF a0 (fun i (t:(List Guest))=>((ln a0),(i:Int),t,a0,())) _ (fun _ x acc κ=>bif zdj x then (cond (few (ln (ap acc [zct x]))) (κ (ap acc [zct x])) none) else none) (fun (t:(List Guest))=>(some [(.one (.s .guest t))])) (fun i hi t rec=>?_) (fun t rec=>?_) _ ([]) (hNN hl.1)).trans ?_
 ·simp only [zbv hi,zbg hi,zbq hi,zbf hi hl.1,cT]
 ·simp only [zbj,cF]
 exact zhX zdj zct _ a0 0 [] (fun x hx=>⟨by exact zU (hs.2 x hx),rfl⟩) (by simpa using hl.2)
theorem zBu:Holds Tryz.prog 115 zle:=zo zed zD zu zy (zC (by kernel_rfl)) fun avs rs hb h=>by
 unfold zle at h;split at h
 ·obtain ⟨hc,rfl⟩:=zl h;exact (fin1 zFy zIa hc hb :)
 ·cases h
def gAt (b:Bare)(i:Int):Guest:=bif hasB i (ln b.Guests) then ix b.Guests i zi else Ty.dflt .guest
@[simp] theorem zYE {b:Bare}(i:Int)(h:SmB b):SmG (gAt b i):=by
 unfold gAt;cases hh:hasB i (ln b.Guests)
 ·exact z2A
 ·exact zYF h.2.1 hh _
@[simp,reducible] def zwC (b:Bare)(i:Int):Bool:=pc (SmB b)
@[simp,reducible] def zk (b:Bare)(i:Int):Guest:=gAt b i
@[simp,reducible] def zky (b:Bare)(i:Int):Bool:=hasB i (ln b.Guests)
def zqc:List AV->Option (Bool×List AV)
 | [.agg [.s (.sl .int) c,.s .guest d,.s .int e,.i .i64 f],.one (.i .i64 g)]=>some ((zwC (⟨c,d,e,f⟩:Bare) g),[.agg (Ty.cells .guest (zk (⟨c,d,e,f⟩:Bare) g)),.one (.b (zky (⟨c,d,e,f⟩:Bare) g))])
 | _=>none
def zvN (N:Nat)(a0:Bare)(a1:Int):Option Ans :=
 (cond (zcz a1 (ln a0.Guests)) (cond (cond (zcS a1 (ln a0.Guests)) false true) (some [(.agg (Ty.cells .guest (⟨[],0,0,[],[],⟨0,0,false⟩,0,⟨0,0,false,0⟩,false,[]⟩:Guest))),(.one (.b false))]) (cond (inb a1 (ln a0.Guests)) (cond (zdj (ix a0.Guests a1 zi)) (some [(.agg (Ty.cells .guest (zct (ix a0.Guests a1 zi)))),(.one (.b true))]) none) none)) none)
theorem zRa (N:Nat)(a0:Bare)(a1:Int):evalFn (cQ zgX zV zK zO) (zB []) N 12 132 [.agg (Ty.cells .bare a0),.one (.i .i64 a1)]=zvN N a0 a1:=by kernel_rfl
theorem zMU (a0:Bare)(a1:Int)(hb:zG big [.agg (Ty.cells .bare a0),.one (.i .i64 a1)])(hc:(zwC a0 a1)=true):∃N,zvN N a0 a1=some [.agg (Ty.cells .guest (zk a0 a1)),.one (.b (zky a0 a1))]:=by
 have hs:=zJ.1 hc;have hl:a0.Guests.length<=1048576:=hs.2.1.1;have hx:hasB a1 (ln a0.Guests)=true->SmG (ix a0.Guests a1 zi):=fun h=>zYF hs.2.1 h _
 refine ⟨0,?_⟩;unfold zvN;refine must rfl (brN (fun _=>?_) (fun _=>must (by first|assumption|(simp_all<;>omega)) (must (by first|assumption|(simp_all<;>omega)) ?_)))
 all_goals first|rfl|(simp only [*,zk,zky,gAt,Ty.dflt,cT,cF]<;>rfl)|simp_all [Ty.cells,zk,zky,gAt,Ty.dflt]
theorem zGJ:Holds Tryz.prog 132 zqc:=zo zed zD zu zy (zC (by kernel_rfl)) fun avs rs hb h=>by
 unfold zqc at h;split at h
 ·obtain ⟨hc,rfl⟩:=zl h;exact (fin2 zMU zRa hc hb :)
 ·cases h
def zrl:zbQ:=[(41,zkq),(136,zkn),(40,zus),(53,ztJ),(167,zz2),(131,zz0),(104,zup),(62,ztG),(105,zug),(63,ztt),(130,zqn),(195,zqI),(174,zqd),(115,zle),(132,zqc)]++zgX
theorem zje:zbw zrl:=zn zAL (zn zAB (zn zcf (zn zJB (zn zPN (zn zPJ (zn zKe (zn zJy (zn zJ5 (zn zJl (zn zGU (zn zHe (zn zGK (zn zBu (zn zGJ zed))))))))))))))
def plainly (g:Guest):Guest:=bif ine (zN g) 2 then g else (cond (win g.A 0 99) (cond (win (zdE g.Prog g.Pc).X 0 99) (cond (ieq (zdE g.Prog g.Pc).Op 1) { zb7 g with A:=(zdE g.Prog g.Pc).X } (cond (ieq (zdE g.Prog g.Pc).Op 2) { zb7 g with A:=zfH (zq .i64 g.A (zdE g.Prog g.Pc).X) 100 } (cond (ieq (zdE g.Prog g.Pc).Op 8) (cond (ieq g.A 0) { zb7 g with Pc:=(zdE g.Prog g.Pc).X } (zb7 g)) (zb7 g)))) (zb7 g)) (zb7 g))
@[simp] theorem z2u (g:Guest):(zb7 g).Prog=g.Prog:=by
 unfold zb7;cases ige g.Pc 12<;>rfl
@[simp] theorem z2X (g:Guest):(zb7 g).A=g.A:=by
 unfold zb7;cases ige g.Pc 12<;>rfl
@[simp] theorem z1t (g:Guest):(zb7 g).Written=g.Written:=by
 unfold zb7;cases ige g.Pc 12<;>rfl
@[simp] theorem z2t (g:Guest):(zb7 g).Live=g.Live:=by
 unfold zb7;cases ige g.Pc 12<;>rfl
@[simp] theorem z2H (g:Guest):(zb7 g).Ctl=g.Ctl:=by
 unfold zb7;cases ige g.Pc 12<;>rfl
@[simp] theorem z1s (g:Guest):(zb7 g).Pending=g.Pending:=by
 unfold zb7;cases ige g.Pc 12<;>rfl
@[simp] theorem z2s (g:Guest):(zb7 g).Exit=g.Exit:=by
 unfold zb7;cases ige g.Pc 12<;>rfl
@[simp] theorem z1S (g:Guest):(zb7 g).Halted=g.Halted:=by
 unfold zb7;cases ige g.Pc 12<;>rfl
@[simp] theorem z2v (g:Guest):(zb7 g).Seen=g.Seen:=by
 unfold zb7;cases ige g.Pc 12<;>rfl
@[simp] theorem z2I (g:Guest)(x:Int):(zb7 { g with A:=x }).Pc=(zb7 g).Pc:=by
 unfold zb7;cases ige g.Pc 12<;>rfl
@[simp] theorem zD7 {g:Guest}(h:SmG g):SmG (plainly g):=by
 have hm:=zlJ h;unfold plainly;cases ine (zN g) 2
 ·cases win g.A 0 99
  ·exact hm
  ·cases win (zdE g.Prog g.Pc).X 0 99
   ·exact hm
   ·cases ieq (zdE g.Prog g.Pc).Op 1
    ·cases ieq (zdE g.Prog g.Pc).Op 2
     ·cases ieq (zdE g.Prog g.Pc).Op 8
      ·exact hm
      ·cases ieq g.A 0<;>exact hm
     ·exact hm
    ·exact hm
 ·exact h
@[simp,reducible] def zwF (g:Guest):Bool:=pc (SmG g)
@[simp,reducible] def zly (g:Guest):Guest:=plainly g
def zqh:List AV->Option (Bool×List AV)
 | [.agg [.s .ins c,.i .i64 d,.i .i64 e,.s .slot f,.s .slot g,.i .i64 h,.i .i64 j,.b k,.i .i64 l,.i .i64 m,.i .i64 n,.b o,.i .i64 p,.b q,.s .int r]]=>some ((zwF (⟨c,d,e,f,g,⟨h,j,k⟩,l,⟨m,n,o,p⟩,q,r⟩:Guest)),[.agg (Ty.cells .guest (zly (⟨c,d,e,f,g,⟨h,j,k⟩,l,⟨m,n,o,p⟩,q,r⟩:Guest)))])
 | _=>none
def zvS (N:Nat)(a0:Guest):Option Ans :=
 (cond (zh3 a0) (cond (ine (zbp a0) 2) (cond (zdj a0) (some [(.agg (Ty.cells .guest (zct a0)))]) none) (cond (zfw a0.Prog a0.Pc) (cond (zef a0) (cond (zbm a0.A 0 99) (cond (cond (zby a0.A 0 99) false true) (some [(.agg (Ty.cells .guest (zdb a0)))]) (cond (zbm (zb3 a0.Prog a0.Pc).X 0 99) (cond (cond (zby (zb3 a0.Prog a0.Pc).X 0 99) false true) (some [(.agg (Ty.cells .guest (zdb a0)))]) (cond (ieq (zb3 a0.Prog a0.Pc).Op 1) (some [(.agg (Ty.cells .guest ({ (zdb a0) with A:=(zb3 a0.Prog a0.Pc).X }:Guest)))]) (cond (ieq (zb3 a0.Prog a0.Pc).Op 2) (cond (ine 100 0) (some [(.agg (Ty.cells .guest ({ (zdb a0) with A:=(zfH (zq .i64 a0.A (zb3 a0.Prog a0.Pc).X) 100) }:Guest)))]) none) (cond (ieq (zb3 a0.Prog a0.Pc).Op 8) (cond (ieq a0.A 0) (some [(.agg (Ty.cells .guest ({ (zdb a0) with Pc:=(zb3 a0.Prog a0.Pc).X }:Guest)))]) (some [(.agg (Ty.cells .guest (zdb a0)))])) (some [(.agg (Ty.cells .guest (zdb a0)))]))))) none)) none) none) none)) none)
theorem zRf (N:Nat)(a0:Guest):evalFn (cQ zrl zV zK zO) (zB []) N 12 137 [.agg (Ty.cells .guest a0)]=zvS N a0:=by kernel_rfl
theorem zMZ (a0:Guest)(hb:zG big [.agg (Ty.cells .guest a0)])(hc:(zwF a0)=true):∃N,zvS N a0=some [.agg (Ty.cells .guest (zly a0))]:=by
 have hs:=zJ.1 hc;refine ⟨0,?_⟩;unfold zvS;refine must rfl (br (fun _=>must (by first|assumption|(simp_all<;>omega)) ?_) (fun _=>must rfl (must (by first|assumption|(simp_all<;>omega)) (must rfl (brN (fun _=>?_) (fun _=>must rfl (brN (fun _=>?_) (fun _=>br (fun _=>?_) (fun _=>br (fun _=>must rfl ?_) (fun _=>br (fun _=>br (fun _=>?_) (fun _=>?_)) (fun _=>?_)))))))))))
 all_goals first|rfl|(simp only [*,zly,plainly,cT,cF]<;>rfl)|simp_all [Ty.cells,zly,plainly]
theorem zGO:Holds Tryz.prog 137 zqh:=zo zje zD zu zy (zC (by kernel_rfl)) fun avs rs hb h=>by
 unfold zqh at h;split at h
 ·obtain ⟨hc,rfl⟩:=zl h;exact (fin1 zMZ zRf hc hb :)
 ·cases h
@[simp,reducible] def zxb (g:Guest):Bool:=pc (SmG g)
@[simp,reducible] def zps (g:Guest):Guest:=plainly g
def zqM:List AV->Option (Bool×List AV)
 | [.agg [.s .ins c,.i .i64 d,.i .i64 e,.s .slot f,.s .slot g,.i .i64 h,.i .i64 j,.b k,.i .i64 l,.i .i64 m,.i .i64 n,.b o,.i .i64 p,.b q,.s .int r]]=>some ((zxb (⟨c,d,e,f,g,⟨h,j,k⟩,l,⟨m,n,o,p⟩,q,r⟩:Guest)),[.agg (Ty.cells .guest (zps (⟨c,d,e,f,g,⟨h,j,k⟩,l,⟨m,n,o,p⟩,q,r⟩:Guest)))])
 | _=>none
def zwl (N:Nat)(a0:Guest):Option Ans :=
 (cond (zex a0) (cond (ine (zll a0) 2) (cond (zc8 a0) (some [(.agg (Ty.cells .guest (zcy a0)))]) none) (cond (ze0 a0.Prog a0.Pc) (cond (zZ a0.A 0 99) (cond (zbe a0.A 0 99) (cond (zZ (zbN a0.Prog a0.Pc).X 0 99) (cond (zbe (zbN a0.Prog a0.Pc).X 0 99) (cond (ieq (zbN a0.Prog a0.Pc).Op 1) (cond (zcp ({ a0 with A:=(zbN a0.Prog a0.Pc).X }:Guest)) (some [(.agg (Ty.cells .guest (zcN ({ a0 with A:=(zbN a0.Prog a0.Pc).X }:Guest))))]) none) (cond (zbe (zbN a0.Prog a0.Pc).X 0 99) (cond (ieq (zbN a0.Prog a0.Pc).Op 2) (cond (ine 100 0) (cond (zcp ({ a0 with A:=(zfH (zq .i64 a0.A (zbN a0.Prog a0.Pc).X) 100) }:Guest)) (some [(.agg (Ty.cells .guest (zcN ({ a0 with A:=(zfH (zq .i64 a0.A (zbN a0.Prog a0.Pc).X) 100) }:Guest))))]) none) none) (cond (zbe (zbN a0.Prog a0.Pc).X 0 99) (cond (ieq (zbN a0.Prog a0.Pc).Op 8) (cond (ieq a0.A 0) (cond (zc8 a0) (some [(.agg (Ty.cells .guest ({ (zcy a0) with Pc:=(zbN a0.Prog a0.Pc).X }:Guest)))]) none) (cond (zcp a0) (some [(.agg (Ty.cells .guest (zcN a0)))]) none)) (cond (zcp a0) (some [(.agg (Ty.cells .guest (zcN a0)))]) none)) (cond (zcp a0) (some [(.agg (Ty.cells .guest (zcN a0)))]) none))) (cond (zbe (zbN a0.Prog a0.Pc).X 0 99) (cond (ieq (zbN a0.Prog a0.Pc).Op 8) (cond (ieq a0.A 0) (cond (zc8 a0) (some [(.agg (Ty.cells .guest ({ (zcy a0) with Pc:=(zbN a0.Prog a0.Pc).X }:Guest)))]) none) (cond (zcp a0) (some [(.agg (Ty.cells .guest (zcN a0)))]) none)) (cond (zcp a0) (some [(.agg (Ty.cells .guest (zcN a0)))]) none)) (cond (zcp a0) (some [(.agg (Ty.cells .guest (zcN a0)))]) none)))) (cond (zbe (zbN a0.Prog a0.Pc).X 0 99) (cond (ieq (zbN a0.Prog a0.Pc).Op 2) (cond (ine 100 0) (cond (zcp ({ a0 with A:=(zfH (zq .i64 a0.A (zbN a0.Prog a0.Pc).X) 100) }:Guest)) (some [(.agg (Ty.cells .guest (zcN ({ a0 with A:=(zfH (zq .i64 a0.A (zbN a0.Prog a0.Pc).X) 100) }:Guest))))]) none) none) (cond (zbe (zbN a0.Prog a0.Pc).X 0 99) (cond (ieq (zbN a0.Prog a0.Pc).Op 8) (cond (ieq a0.A 0) (cond (zc8 a0) (some [(.agg (Ty.cells .guest ({ (zcy a0) with Pc:=(zbN a0.Prog a0.Pc).X }:Guest)))]) none) (cond (zcp a0) (some [(.agg (Ty.cells .guest (zcN a0)))]) none)) (cond (zcp a0) (some [(.agg (Ty.cells .guest (zcN a0)))]) none)) (cond (zcp a0) (some [(.agg (Ty.cells .guest (zcN a0)))]) none))) (cond (zbe (zbN a0.Prog a0.Pc).X 0 99) (cond (ieq (zbN a0.Prog a0.Pc).Op 8) (cond (ieq a0.A 0) (cond (zc8 a0) (some [(.agg (Ty.cells .guest ({ (zcy a0) with Pc:=(zbN a0.Prog a0.Pc).X }:Guest)))]) none) (cond (zcp a0) (some [(.agg (Ty.cells .guest (zcN a0)))]) none)) (cond (zcp a0) (some [(.agg (Ty.cells .guest (zcN a0)))]) none)) (cond (zcp a0) (some [(.agg (Ty.cells .guest (zcN a0)))]) none)))) none) (cond (zcp a0) (some [(.agg (Ty.cells .guest (zcN a0)))]) none)) none) none)) none)
theorem zRJ (N:Nat)(a0:Guest):evalFn (cQ zrl zV zK zO) (zB []) N 12 42 [.agg (Ty.cells .guest a0)]=zwl N a0:=by kernel_rfl
theorem zNt (a0:Guest)(hb:zG big [.agg (Ty.cells .guest a0)])(hc:(zxb a0)=true):∃N,zwl N a0=some [.agg (Ty.cells .guest (zps a0))]:=by
 have hs:=zJ.1 hc;have hz:_/\_/\_/\_:=hs
 refine ⟨0,?_⟩;unfold zwl;refine must rfl (br (fun _=>must (by first|assumption|(simp_all<;>omega)) ?_) (fun _=>must rfl (must rfl (br (fun _=>must rfl (br (fun _=>br (fun _=>must (by first|assumption|(simp_all<;>omega)) ?_) (fun _=>br (fun _=>br (fun _=>must rfl (must (by first|assumption|(simp_all<;>omega)) ?_)) (fun _=>br (fun _=>br (fun _=>br (fun _=>must (by first|assumption|(simp_all<;>omega)) ?_) (fun _=>must (by first|assumption|(simp_all<;>omega)) ?_)) (fun _=>must (by first|assumption|(simp_all<;>omega)) ?_)) (fun _=>must (by first|assumption|(simp_all<;>omega)) ?_))) (fun _=>br (fun _=>br (fun _=>br (fun _=>must (by first|assumption|(simp_all<;>omega)) ?_) (fun _=>must (by first|assumption|(simp_all<;>omega)) ?_)) (fun _=>must (by first|assumption|(simp_all<;>omega)) ?_)) (fun _=>must (by first|assumption|(simp_all<;>omega)) ?_)))) (fun _=>br (fun _=>br (fun _=>must rfl (must (by first|assumption|(simp_all<;>omega)) ?_)) (fun _=>br (fun _=>br (fun _=>br (fun _=>must (by first|assumption|(simp_all<;>omega)) ?_) (fun _=>must (by first|assumption|(simp_all<;>omega)) ?_)) (fun _=>must (by first|assumption|(simp_all<;>omega)) ?_)) (fun _=>must (by first|assumption|(simp_all<;>omega)) ?_))) (fun _=>br (fun _=>br (fun _=>br (fun _=>must (by first|assumption|(simp_all<;>omega)) ?_) (fun _=>must (by first|assumption|(simp_all<;>omega)) ?_)) (fun _=>must (by first|assumption|(simp_all<;>omega)) ?_)) (fun _=>must (by first|assumption|(simp_all<;>omega)) ?_))))) (fun _=>must (by first|assumption|(simp_all<;>omega)) ?_)))))
 all_goals first|rfl|(simp only [*,zps,plainly,cT,cF]<;>rfl)|simp_all [Ty.cells,zps,plainly]
theorem zHi:Holds Tryz.prog 42 zqM:=zo zje zD zu zy (zC (by kernel_rfl)) fun avs rs hb h=>by
 unfold zqM at h;split at h
 ·obtain ⟨hc,rfl⟩:=zl h;exact (fin1 zNt zRJ hc hb :)
 ·cases h
def address (g:Guest):Int:=bif ine (zN g) 3 then (cond (ine (zN g) 4) (-1) ((zdE g.Prog g.Pc).X)) else (zdE g.Prog g.Pc).X
@[simp,reducible] def zo3 (g:Guest):Bool:=true
@[simp,reducible] def zL (g:Guest):Int:=address g
def zqG:List AV->Option (Bool×List AV)
 | [.agg [.s .ins c,.i .i64 d,.i .i64 e,.s .slot f,.s .slot g,.i .i64 h,.i .i64 j,.b k,.i .i64 l,.i .i64 m,.i .i64 n,.b o,.i .i64 p,.b q,.s .int r]]=>some ((zo3 (⟨c,d,e,f,g,⟨h,j,k⟩,l,⟨m,n,o,p⟩,q,r⟩:Guest)),[.one (.i .i64 (zL (⟨c,d,e,f,g,⟨h,j,k⟩,l,⟨m,n,o,p⟩,q,r⟩:Guest)))])
 | _=>none
def zwf (N:Nat)(a0:Guest):Option Ans :=
 (cond (zex a0) (cond (ine (zll a0) 3) (cond (ine (zll a0) 4) (some [(.one (.i .i64 (-1)))]) (cond (ze0 a0.Prog a0.Pc) (some [(.one (.i .i64 (zbN a0.Prog a0.Pc).X))]) none)) (cond (ze0 a0.Prog a0.Pc) (some [(.one (.i .i64 (zbN a0.Prog a0.Pc).X))]) none)) none)
theorem zRD (N:Nat)(a0:Guest):evalFn (cQ zrl zV zK zO) (zB []) N 12 96 [.agg (Ty.cells .guest a0)]=zwf N a0:=by kernel_rfl
theorem zNn (a0:Guest)(hb:zG big [.agg (Ty.cells .guest a0)])(hc:(zo3 a0)=true):∃N,zwf N a0=some [.one (.i .i64 (zL a0))]:=by
 refine ⟨0,?_⟩;unfold zwf;refine must rfl (br (fun _=>br (fun _=>?_) (fun _=>must rfl ?_)) (fun _=>must rfl ?_))
 all_goals first|rfl|(simp only [*,zL,address,cT,cF]<;>rfl)|simp_all [Ty.cells,zL,address]
theorem zHc:Holds Tryz.prog 96 zqG:=zo zje zD zu zy (zC (by kernel_rfl)) fun avs rs hb h=>by
 unfold zqG at h;split at h
 ·obtain ⟨hc,rfl⟩:=zl h;exact (fin1 zNn zRD hc hb :)
 ·cases h
@[simp,reducible] def zoM (g:Guest):Bool:=true
@[simp,reducible] def zbr (g:Guest):Int:=address g
def zqa:List AV->Option (Bool×List AV)
 | [.agg [.s .ins c,.i .i64 d,.i .i64 e,.s .slot f,.s .slot g,.i .i64 h,.i .i64 j,.b k,.i .i64 l,.i .i64 m,.i .i64 n,.b o,.i .i64 p,.b q,.s .int r]]=>some ((zoM (⟨c,d,e,f,g,⟨h,j,k⟩,l,⟨m,n,o,p⟩,q,r⟩:Guest)),[.one (.i .i64 (zbr (⟨c,d,e,f,g,⟨h,j,k⟩,l,⟨m,n,o,p⟩,q,r⟩:Guest)))])
 | _=>none
def zvL (N:Nat)(a0:Guest):Option Ans :=
 (cond (zh3 a0) (cond (ine (zbp a0) 3) (cond (ine (zbp a0) 4) (some [(.one (.i .i64 (-1)))]) (cond (zfw a0.Prog a0.Pc) (some [(.one (.i .i64 (zb3 a0.Prog a0.Pc).X))]) none)) (cond (zfw a0.Prog a0.Pc) (some [(.one (.i .i64 (zb3 a0.Prog a0.Pc).X))]) none)) none)
theorem zQ8 (N:Nat)(a0:Guest):evalFn (cQ zrl zV zK zO) (zB []) N 12 54 [.agg (Ty.cells .guest a0)]=zvL N a0:=by kernel_rfl
theorem zMS (a0:Guest)(hb:zG big [.agg (Ty.cells .guest a0)])(hc:(zoM a0)=true):∃N,zvL N a0=some [.one (.i .i64 (zbr a0))]:=by
 refine ⟨0,?_⟩;unfold zvL;refine must rfl (br (fun _=>br (fun _=>?_) (fun _=>must rfl ?_)) (fun _=>must rfl ?_))
 all_goals first|rfl|(simp only [*,zbr,address,cT,cF]<;>rfl)|simp_all [Ty.cells,zbr,address]
theorem zGH:Holds Tryz.prog 54 zqa:=zo zje zD zu zy (zC (by kernel_rfl)) fun avs rs hb h=>by
 unfold zqa at h;split at h
 ·obtain ⟨hc,rfl⟩:=zl h;exact (fin1 zMS zQ8 hc hb :)
 ·cases h
def zfq (g:Guest)(t w:Int):Guest:=bif ieq w 6 then stopped g (zy6 (zdE g.Prog g.Pc).X) else (cond (ieq w 5&&zdl t 1) (stopped g (zCH (zdE g.Prog g.Pc).X)) (cond (ieq w 7&&zdl t 2) (stopped g ⟨4,0,false,0⟩) (cond (ieq w 7) (held g) (zb7 g))))
def zgF (t w:Int):Bool:=bif ieq w 6 then false else (cond (ieq w 5&&zdl t 1) false (cond (ieq w 7&&zdl t 2) false true))
@[simp] theorem zB6 {g:Guest}(t w:Int)(h:SmG g):SmG (zfq g t w):=by
 unfold zfq;cases ieq w 6
 ·cases (ieq w 5&&zdl t 1)
  ·cases (ieq w 7&&zdl t 2)
   ·cases ieq w 7
    ·exact zlJ h
    ·exact zZQ h
   ·exact h
  ·exact h
 ·exact h
@[simp,reducible] def zdJ (g:Guest)(t w:Int):Bool:=pc (SmG g)
@[simp,reducible] def zbS (g:Guest)(t w:Int):Guest:=zfq g t w
@[simp,reducible] def zc9 (g:Guest)(t w:Int):Bool:=zgF t w
def zqT:List AV->Option (Bool×List AV)
 | [.agg [.s .ins c,.i .i64 d,.i .i64 e,.s .slot f,.s .slot g,.i .i64 h,.i .i64 j,.b k,.i .i64 l,.i .i64 m,.i .i64 n,.b o,.i .i64 p,.b q,.s .int r],.one (.i .i64 t),.one (.i .i64 u)]=>some ((zdJ (⟨c,d,e,f,g,⟨h,j,k⟩,l,⟨m,n,o,p⟩,q,r⟩:Guest) t u),[.agg (Ty.cells .guest (zbS (⟨c,d,e,f,g,⟨h,j,k⟩,l,⟨m,n,o,p⟩,q,r⟩:Guest) t u)),.one (.b (zc9 (⟨c,d,e,f,g,⟨h,j,k⟩,l,⟨m,n,o,p⟩,q,r⟩:Guest) t u))])
 | _=>none
def zwt (N:Nat)(a0:Guest)(a1 a2:Int):Option Ans :=
 (cond (ze0 a0.Prog a0.Pc) (cond (ieq a2 6) (cond (zuy (zbN a0.Prog a0.Pc).X) (cond (zgh a0 (zj7 (zbN a0.Prog a0.Pc).X)) (some [(.agg (Ty.cells .guest (zgg a0 (zj7 (zbN a0.Prog a0.Pc).X)))),(.one (.b false))]) none) none) (cond (ieq a2 5) (cond (zhm a1 1) (cond (zhb a1 1) (cond (zxa (zbN a0.Prog a0.Pc).X) (cond (zgh a0 (zlH (zbN a0.Prog a0.Pc).X)) (some [(.agg (Ty.cells .guest (zgg a0 (zlH (zbN a0.Prog a0.Pc).X)))),(.one (.b false))]) none) none) (cond (ieq a2 7) (cond (zhm a1 2) (cond (zhb a1 2) (cond (zgh a0 (⟨4,0,false,0⟩:GExit)) (some [(.agg (Ty.cells .guest (zgg a0 (⟨4,0,false,0⟩:GExit)))),(.one (.b false))]) none) (cond (ieq a2 7) (cond (zou a0) (some [(.agg (Ty.cells .guest (zpq a0))),(.one (.b true))]) none) (cond (zcp a0) (some [(.agg (Ty.cells .guest (zcN a0))),(.one (.b true))]) none))) none) (cond (ieq a2 7) (cond (zou a0) (some [(.agg (Ty.cells .guest (zpq a0))),(.one (.b true))]) none) (cond (zcp a0) (some [(.agg (Ty.cells .guest (zcN a0))),(.one (.b true))]) none)))) none) (cond (ieq a2 7) (cond (zhm a1 2) (cond (zhb a1 2) (cond (zgh a0 (⟨4,0,false,0⟩:GExit)) (some [(.agg (Ty.cells .guest (zgg a0 (⟨4,0,false,0⟩:GExit)))),(.one (.b false))]) none) (cond (ieq a2 7) (cond (zou a0) (some [(.agg (Ty.cells .guest (zpq a0))),(.one (.b true))]) none) (cond (zcp a0) (some [(.agg (Ty.cells .guest (zcN a0))),(.one (.b true))]) none))) none) (cond (ieq a2 7) (cond (zou a0) (some [(.agg (Ty.cells .guest (zpq a0))),(.one (.b true))]) none) (cond (zcp a0) (some [(.agg (Ty.cells .guest (zcN a0))),(.one (.b true))]) none))))) none)
theorem zRQ (N:Nat)(a0:Guest)(a1 a2:Int):evalFn (cQ zrl zV zK zO) (zB []) N 12 108 [.agg (Ty.cells .guest a0),.one (.i .i64 a1),.one (.i .i64 a2)]=zwt N a0 a1 a2:=by kernel_rfl
theorem zNA (a0:Guest)(a1 a2:Int)(hb:zG big [.agg (Ty.cells .guest a0),.one (.i .i64 a1),.one (.i .i64 a2)])(hc:(zdJ a0 a1 a2)=true):∃N,zwt N a0 a1 a2=some [.agg (Ty.cells .guest (zbS a0 a1 a2)),.one (.b (zc9 a0 a1 a2))]:=by
 have hs:=zJ.1 hc;refine ⟨0,?_⟩;unfold zwt;refine must rfl (br (fun _=>must rfl (must (by first|assumption|(simp_all<;>omega)) ?_)) (fun _=>br (fun _=>must rfl (br (fun _=>must rfl (must (by first|assumption|(simp_all<;>omega)) ?_)) (fun _=>br (fun _=>must rfl (br (fun _=>must (by first|assumption|(simp_all<;>omega)) ?_) (fun _=>br (fun _=>must (by first|assumption|(simp_all<;>omega)) ?_) (fun _=>must (by first|assumption|(simp_all<;>omega)) ?_)))) (fun _=>br (fun _=>must (by first|assumption|(simp_all<;>omega)) ?_) (fun _=>must (by first|assumption|(simp_all<;>omega)) ?_))))) (fun _=>br (fun _=>must rfl (br (fun _=>must (by first|assumption|(simp_all<;>omega)) ?_) (fun _=>br (fun _=>must (by first|assumption|(simp_all<;>omega)) ?_) (fun _=>must (by first|assumption|(simp_all<;>omega)) ?_)))) (fun _=>br (fun _=>must (by first|assumption|(simp_all<;>omega)) ?_) (fun _=>must (by first|assumption|(simp_all<;>omega)) ?_)))))
 all_goals first|rfl|(simp only [*,zbS,zc9,zfq,zgF,cT,cF]<;>rfl)|simp_all [Ty.cells,zbS,zc9,zfq,zgF]
theorem zHp:Holds Tryz.prog 108 zqT:=zo zje zD zu zy (zC (by kernel_rfl)) fun avs rs hb h=>by
 unfold zqT at h;split at h
 ·obtain ⟨hc,rfl⟩:=zl h;exact (zd3 zNA zRQ hc hb :)
 ·cases h
def zgU (b:Bare):Bool:=bif b.Guests.all zdG then (zib b.Memory 8&&(win (ln b.Guests) 1 2&&(ile (ln b.Outs) 40&&zgz b.Pending))) else false
@[simp,reducible] def zzw (b:Bare):Bool:=true
@[simp,reducible] def zfb (b:Bare):Bool:=zgU b
def ztl:List AV->Option (Bool×List AV)
 | [.agg [.s (.sl .int) c,.s .guest d,.s .int e,.i .i64 f]]=>some ((zzw (⟨c,d,e,f⟩:Bare)),[.one (.b (zfb (⟨c,d,e,f⟩:Bare)))])
 | _=>none
def zxY (N:Nat)(a0:Bare):Option Ans :=
 (iter (σ:=(Int×(Int×(Int×((List Guest)×((List (List Int))×((List Int)×Unit))))))) N (fun r2 s3=>(cond (ilt s3.2.1 s3.1) (cond (inb s3.2.1 (ln s3.2.2.2.1)) (cond (zkz (ix s3.2.2.2.1 s3.2.1 zi)) (cond (cond (zjh (ix s3.2.2.2.1 s3.2.1 zi)) false true) (some [(.one (.b false))]) (r2 (s3.1,((zq .i64 s3.2.1 1),(s3.2.2.1,(s3.2.2.2.1,(s3.2.2.2.2.1,(s3.2.2.2.2.2.1,())))))))) none) none) (cond (zph s3.2.2.2.2.1 8) (cond (zjT s3.2.2.2.2.1 8) (cond (zbm (ln s3.2.2.2.1) 1 2) (cond (zby (ln s3.2.2.2.1) 1 2) (cond (ile (ln s3.2.2.2.2.2.1) 40) (cond (zh1 s3.2.2.1) (some [(.one (.b (zh0 s3.2.2.1)))]) none) (some [(.one (.b false))])) (some [(.one (.b false))])) none) (some [(.one (.b false))])) none))) ((ln a0.Guests),(0,(a0.Pending,(a0.Guests,(a0.Memory,(a0.Outs,())))))))
def zSc:FuncId->Nat->Option Tmpl:=zB [(133,0,{ n:=36,tm:=[(1,.lp 0 0),(6,.sl 0 []),(7,.i .i64),(8,.i .i64)],lo:=[(0,[.sl 1 [],.sl 0 [],.sl 2 [],.i .i64])],ro:=[(0,.guest,false),(1,(.sl .int),false),(2,.int,false)] })]
theorem zTo (N:Nat)(a0:Bare):evalFn (cQ zrl zV zK zO) zSc N 12 133 [.agg (Ty.cells .bare a0)]=zxY N a0:=by kernel_rfl
theorem zPT (a0:Bare)(hb:zG big [.agg (Ty.cells .bare a0)])(hc:(zzw a0)=true):∃N,zxY N a0=some [.one (.b (zfb a0))]:=by
 have hl:(_:List _).length<=big:=((zbu hb).1 (.s .guest a0.Guests) (by simp [AV.cvs,Ty.cells])).len
 refine ⟨NN,?_⟩;have hNN:∀{n:Nat},n<=big->n<NN:=fun h=>zb8 h;generalize NN=N at hNN ⊢;unfold zxY;refine (zbF a0.Guests (fun i (t:Unit)=>((ln a0.Guests),(i:Int),a0.Pending,a0.Guests,a0.Memory,a0.Outs,())) _ (fun _ x (_:Unit) κ=>bif (zdG) x then κ () else some [AV.one (.b false)]) (fun (t:Unit)=>(cond (zph a0.Memory 8) (cond (zjT a0.Memory 8) (cond (zbm (ln a0.Guests) 1 2) (cond (zby (ln a0.Guests) 1 2) (cond (ile (ln a0.Outs) 40) (cond (zh1 a0.Pending) (some [(.one (.b (zh0 a0.Pending)))]) none) (some [(.one (.b false))])) (some [(.one (.b false))])) none) (some [(.one (.b false))])) none)) (fun i hi t rec=>?_) (fun t rec=>?_) _ () (hNN hl)).trans ?_
 ·simp only [zbv hi,zbg hi,zbq hi,zbf hi hl,cT];exact zhW rfl
 ·simp only [zbj,cF]
 rw [zgm (zdG)];refine br (fun h0=>?_) (fun h0=>?_)
 ·refine must rfl ?_;refine br (fun h1=>?_) (fun h1=>?_)
  ·refine must rfl ?_;refine br (fun h2=>?_) (fun h2=>?_)
   ·refine br (fun h3=>?_) (fun h3=>?_)
    ·refine must rfl ?_
     first|rfl|(simp only [h0,h1,h2,h3,zfb,zgU,cT,cF]<;>rfl)|(simp_all [Ty.cells,zfb,zgU];done)
    ·first|rfl|(simp only [h0,h1,h2,h3,zfb,zgU,cT,cF]<;>rfl)|(simp_all [Ty.cells,zfb,zgU];done)
   ·first|rfl|(simp only [h0,h1,h2,zfb,zgU,cT,cF]<;>rfl)|(simp_all [Ty.cells,zfb,zgU];done)
  ·first|rfl|(simp only [h0,h1,zfb,zgU,cT,cF]<;>rfl)|(simp_all [Ty.cells,zfb,zgU];done)
 ·first|rfl|(simp only [h0,zfb,zgU,cT,cF]<;>rfl)|(simp_all [Ty.cells,zfb,zgU];done)
theorem zJd:Holds Tryz.prog 133 ztl:=zo zje zD zu zy (zC (by kernel_rfl)) fun avs rs hb h=>by
 unfold ztl at h;split at h
 ·obtain ⟨hc,rfl⟩:=zl h;exact (fin1 zPT zTo hc hb :)
 ·cases h
@[simp,reducible] def zgw (b:Bare):Bool:=pc (SmB b)
@[simp,reducible] def zdy (b:Bare):Bare:=b
def zn2:List AV->Option (Bool×List AV)
 | [.agg [.s (.sl .int) b,.s .guest c,.s .int d,.i .i64 e]]=>some ((zgw (⟨b,c,d,e⟩:Bare)),[.agg (Ty.cells .bare (zdy (⟨b,c,d,e⟩:Bare)))])
 | _=>none
def zsh (N:Nat)(a0:Bare):Option Ans :=
 (cond (zfk a0.Memory) (cond (zhG a0.Guests) (cond (zdn a0.Outs) (some [(.agg (Ty.cells .bare (⟨(zcW a0.Memory),(zhF a0.Guests),(zdh a0.Outs),a0.Pending⟩:Bare)))]) none) none) none)
theorem zNQ (N:Nat)(a0:Bare):evalFn (cQ zrl zV zK zO) (zB []) N 12 134 [.agg (Ty.cells .bare a0)]=zsh N a0:=by kernel_rfl
theorem zKB (a0:Bare)(hb:zG big [.agg (Ty.cells .bare a0)])(hc:(zgw a0)=true):∃N,zsh N a0=some [.agg (Ty.cells .bare (zdy a0))]:=by
 have hs:=zJ.1 hc;have hz:_/\_/\_:=hs
 refine ⟨0,?_⟩;unfold zsh;refine must (by first|assumption|(simp_all<;>omega)) (must (by first|assumption|(simp_all<;>omega)) (must (by first|assumption|(simp_all<;>omega)) ?_))
 first|rfl|(simp only [*,zdy,cT,cF]<;>rfl)|simp_all [Ty.cells,zdy]
theorem zEU:Holds Tryz.prog 134 zn2:=zo zje zD zu zy (zC (by kernel_rfl)) fun avs rs hb h=>by
 unfold zn2 at h;split at h
 ·obtain ⟨hc,rfl⟩:=zl h;exact (fin1 zKB zNQ hc hb :)
 ·cases h
def zON:zbQ:=[(42,zqM),(137,zqh),(96,zqG),(54,zqa),(108,zqT),(133,ztl),(134,zn2)]++zrl
theorem zEC:zbw zON:=zn zHi (zn zGO (zn zHc (zn zGH (zn zHp (zn zJd (zn zEU zje))))))
def znm (b:Bare)(i:Int)(x:Guest):Bare:={ b with Guests:=up b.Guests i x }
def zpt (b:Bare)(i:Int)(x:Guest):Bare:=bif hasB i (ln b.Guests) then znm b i x else b
def zmF (b:Bare)(n:Int):Bare:=bif ilt (ln b.Outs) 40 then { b with Outs:=ap b.Outs [n] } else b
@[simp] theorem zoz {b:Bare}{i:Int}{x:Guest}(h:SmB b)(hx:SmG x):SmB (znm b i x):=⟨h.1,zLC h.2.1 hx,h.2.2⟩
@[simp] theorem zIs {b:Bare}{n:Int}(h:SmB b):SmB (zmF b n):=by
 unfold zmF;cases h1:ilt (ln b.Outs) 40
 ·exact h
 ·have:=of_decide_eq_true h1;refine ⟨h.1,h.2.1,?_⟩;simp [ln] at *;omega
@[simp] theorem z2S (b:Bare)(n:Int):(zmF b n).Guests=b.Guests:=by
 unfold zmF;cases ilt (ln b.Outs) 40<;>rfl
@[simp] theorem zR4 {m:List (List Int)}{p c v:Int}(h:SmM m):SmM (zfg m p c v):=by
 unfold zfg;cases h1:zhK m p c
 ·exact h
 ·cases h2:win v 0 99
  ·exact h
  ·exact zIv h (by simpa using z15 h ((zzU m p c).1 h1).1 [])
@[simp,reducible] def zcg (b:Bare)(i:Int)(x:Guest):Bool:=pc (SmB b/\SmG x)
@[simp,reducible] def zcs (b:Bare)(i:Int)(x:Guest):Bare:=zpt b i x
def zmN:List AV->Option (Bool×List AV)
 | [.agg [.s (.sl .int) c,.s .guest d,.s .int e,.i .i64 f],.one (.i .i64 g),.agg [.s .ins h,.i .i64 j,.i .i64 k,.s .slot l,.s .slot m,.i .i64 n,.i .i64 o,.b p,.i .i64 q,.i .i64 r,.i .i64 t,.b u,.i .i64 v,.b w,.s .int x]]=>some ((zcg (⟨c,d,e,f⟩:Bare) g (⟨h,j,k,l,m,⟨n,o,p⟩,q,⟨r,t,u,v⟩,w,x⟩:Guest)),[.agg (Ty.cells .bare (zcs (⟨c,d,e,f⟩:Bare) g (⟨h,j,k,l,m,⟨n,o,p⟩,q,⟨r,t,u,v⟩,w,x⟩:Guest)))])
 | _=>none
def zpB (N:Nat)(a0:Bare)(a1:Int)(a2:Guest):Option Ans :=
 (cond (zgw a0) (cond (zcz a1 (ln a0.Guests)) (cond (zcS a1 (ln a0.Guests)) (cond (zdj a2) (cond (inb a1 (ln (zdy a0).Guests)) (share (up (zdy a0).Guests a1 (zct a2)) (fun x4=>(some [(.agg (Ty.cells .bare ({ (zdy a0) with Guests:=x4 }:Bare)))]))) none) none) (some [(.agg (Ty.cells .bare (zdy a0)))])) none) none)
theorem zLb (N:Nat)(a0:Bare)(a1:Int)(a2:Guest):evalFn (cQ zON zV zK zO) (zB []) N 12 135 [.agg (Ty.cells .bare a0),.one (.i .i64 a1),.agg (Ty.cells .guest a2)]=zpB N a0 a1 a2:=by kernel_rfl
theorem zHL (a0:Bare)(a1:Int)(a2:Guest)(hb:zG big [.agg (Ty.cells .bare a0),.one (.i .i64 a1),.agg (Ty.cells .guest a2)])(hc:(zcg a0 a1 a2)=true):∃N,zpB N a0 a1 a2=some [.agg (Ty.cells .bare (zcs a0 a1 a2))]:=by
 have hs:=zJ.1 hc;refine ⟨0,?_⟩;unfold zpB;refine must (by first|assumption|(simp_all<;>omega)) (must rfl (br (fun _=>must (by first|assumption|(simp_all<;>omega)) (must (by first|assumption|(simp_all<;>omega)) (shr ?_))) (fun _=>?_)))
 all_goals first|rfl|(simp only [*,zcs,zpt,znm,cT,cF]<;>rfl)|simp_all [Ty.cells,zcs,zpt,znm]
theorem zC1:Holds Tryz.prog 135 zmN:=zo zEC zD zu zy (zC (by kernel_rfl)) fun avs rs hb h=>by
 unfold zmN at h;split at h
 ·obtain ⟨hc,rfl⟩:=zl h;exact (zd3 zHL zLb hc hb :)
 ·cases h
@[simp,reducible] def zrq (b:Bare)(n:Int):Bool:=pc (SmB b)
@[simp,reducible] def zjl (b:Bare)(n:Int):Bare:=zmF b n
def ztC:List AV->Option (Bool×List AV)
 | [.agg [.s (.sl .int) b,.s .guest c,.s .int d,.i .i64 e],.one (.i .i64 f)]=>some ((zrq (⟨b,c,d,e⟩:Bare) f),[.agg (Ty.cells .bare (zjl (⟨b,c,d,e⟩:Bare) f))])
 | _=>none
def zye (N:Nat)(a0:Bare)(a1:Int):Option Ans :=
 (cond (zgw a0) (cond (ilt (ln a0.Outs) 40) (cond (few (ln (ap (zdy a0).Outs [a1]))) (some [(.agg (Ty.cells .bare ({ (zdy a0) with Outs:=(ap (zdy a0).Outs [a1]) }:Bare)))]) none) (some [(.agg (Ty.cells .bare (zdy a0)))])) none)
theorem zTF (N:Nat)(a0:Bare)(a1:Int):evalFn (cQ zON zV zK zO) (zB []) N 12 141 [.agg (Ty.cells .bare a0),.one (.i .i64 a1)]=zye N a0 a1:=by kernel_rfl
theorem zQa (a0:Bare)(a1:Int)(hb:zG big [.agg (Ty.cells .bare a0),.one (.i .i64 a1)])(hc:(zrq a0 a1)=true):∃N,zye N a0 a1=some [.agg (Ty.cells .bare (zjl a0 a1))]:=by
 have hs:=zJ.1 hc;have hz:a0.Outs.length<=1048576:=hs.2.2
 refine ⟨0,?_⟩;unfold zye;refine must (by first|assumption|(simp_all<;>omega)) (br (fun _=>must (by first|assumption|(simp_all<;>omega)) ?_) (fun _=>?_))
 all_goals first|rfl|(simp only [*,zjl,zmF,cT,cF]<;>rfl)|simp_all [Ty.cells,zjl,zmF]
theorem zJu:Holds Tryz.prog 141 ztC:=zo zEC zD zu zy (zC (by kernel_rfl)) fun avs rs hb h=>by
 unfold ztC at h;split at h
 ·obtain ⟨hc,rfl⟩:=zl h;exact (fin2 zQa zTF hc hb :)
 ·cases h
def zze:zbQ:=[(135,zmN),(141,ztC)]++zON
theorem znE:zbw zze:=zn zC1 (zn zJu zEC)
def zr3 (b:Bare)(g:Int)(x:Guest)(w:Bool):Bare :=
 bif zfX x.Live (zdw (address x)) (zeP w) then
  (bif w then znm { b with Memory:=zfg b.Memory (zcR x.Live (zdw (address x)) (zeP w)) (zgq (address x)) x.A } g (zb7 x)
  else znm b g (loaded x (cellAt b.Memory (zcR x.Live (zdw (address x)) (zeP w)) (zgq (address x)))))
 else znm b g (stopped x (zuU (zdw (address x)) w))
def zr4 (b:Bare)(g:Int)(x:Guest)(w:Int):Bare :=
 znm (cond (cond (zgF x.Ctl.Traps w) (ieq w 5) false) (zmF b (zdE x.Prog x.Pc).X) b) g (zfq x x.Ctl.Traps w)
def stepped (b:Bare)(g:Int)(x:Guest)(w:Int):Bare :=
 bif ieq w 1 then znm b g (interrupted x) else (cond (ieq w 2) (znm b g (plainly x)) (cond (ieq w 3) (zr3 b g x false) (cond (ieq w 4) (zr3 b g x true) (zr4 b g x w))))
theorem tr1 (x:Guest)(t w:Int):ieq w 6=true->zfq x t w=stopped x (zy6 (zdE x.Prog x.Pc).X)/\zgF t w=false:=by
 intro h;simp [zfq,zgF,h]
theorem tr2 (x:Guest)(t w:Int):ieq w 6=false->(ieq w 5=false->ieq w 6=false->ieq w 7=true)->zdl t (zeU w)=true->zfq x t w=zoC x w/\zgF t w=false:=by
 intro h6 h7 h;unfold zfq zgF zoC zeU at *;cases h5:ieq w 5<;>simp_all
theorem tr3 (x:Guest)(t w:Int):ieq w 6=false->ieq w 7=false->zdl t (zeU w)=false->ieq w 5=true->zfq x t w=zb7 x/\zgF t w=true:=by
 intro h6 h7 h h5;unfold zfq zgF zeU at *
 simp_all
theorem tr4 (x:Guest)(t w:Int):ieq w 6=false->(ieq w 5=false->ieq w 6=false->ieq w 7=true)->zdl t (zeU w)=false->ieq w 5=false->zfq x t w=held x:=by
 intro h6 h7 h h5;unfold zfq zeU at *
 simp_all
def znD (b:Bare)(g:Int):Bool:=bif hasB g (ln b.Guests) then (cond (zgU b) (!ieq (zN (gAt b g)) 0) false) else false
def zi9 (b:Bare)(g:Int):Bare:=bif znD b g then stepped b g (gAt b g) (zN (gAt b g)) else b
@[simp] theorem zVp {b:Bare}{g:Int}{x:Guest}{w:Bool}(h:SmB b)(hx:SmG x):SmB (zr3 b g x w):=by
 unfold zr3;cases zfX x.Live (zdw (address x)) (zeP w)
 ·exact zoz h hx
 ·cases w
  ·exact zoz h (zIt _ hx)
  ·exact ⟨zR4 h.1,zLC h.2.1 (zlJ hx),h.2.2⟩
@[simp] theorem z1m {b:Bare}{g:Int}{x:Guest}{w:Int}(h:SmB b)(hx:SmG x):SmB (zr4 b g x w):=by
 unfold zr4;cases (cond (zgF x.Ctl.Traps w) (ieq w 5) false)
 ·exact zoz h (zB6 _ _ hx)
 ·exact zoz (zIs h) (zB6 _ _ hx)
@[simp] theorem zUE {b:Bare}{g:Int}{x:Guest}{w:Int}(h:SmB b)(hx:SmG x):SmB (stepped b g x w):=by
 unfold stepped;cases ieq w 1
 ·cases ieq w 2
  ·cases ieq w 3
   ·cases ieq w 4
    ·exact z1m h hx
    ·exact zVp h hx
   ·exact zVp h hx
  ·exact zoz h (zD7 hx)
 ·exact zoz h (zVq hx)
@[simp] theorem z2U {b:Bare}{g:Int}(h:SmB b):SmB (zi9 b g):=by
 unfold zi9;cases znD b g
 ·exact h
 ·exact zUE h (zYE g h)
theorem zXx (x:Guest):ieq (zN x) 0=false->ieq (zN x) 1=false->ieq (zN x) 2=false->ieq (zN x) 3=false->ieq (zN x) 4=false->ieq (zN x) 5=false->ieq (zN x) 6=false->ieq (zN x) 7=true:=by
 unfold zN zxN;cases canRun x
 ·intro h;cases h
 ·cases zhs x
  ·simp only [cT,cF];generalize (zdE x.Prog x.Pc).Op=o;cases ieq o 3<;>cases ieq o 4<;>cases ieq o 5<;>cases ieq o 6<;>cases ieq o 7<;>simp [ieq]
  ·intro _ h;cases h
theorem zVb {x:Int}{a b:Int}(h:ieq x a=true)(hab:ieq a b=false):ieq x b=false:=by
 have:x=a:=by simpa [ieq] using h
 rw [this];exact hab
@[simp,reducible] def zsV (b:Bare)(g:Int):Bool:=pc (SmB b)
@[simp,reducible] def zhD (b:Bare)(g:Int):Bare:=zi9 b g
@[simp,reducible] def zmb (b:Bare)(g:Int):Bool:=znD b g
def znT:List AV->Option (Bool×List AV)
 | [.agg [.s (.sl .int) c,.s .guest d,.s .int e,.i .i64 f],.one (.i .i64 g)]=>some ((zsV (⟨c,d,e,f⟩:Bare) g),[.agg (Ty.cells .bare (zhD (⟨c,d,e,f⟩:Bare) g)),.one (.b (zmb (⟨c,d,e,f⟩:Bare) g))])
 | _=>none
def zr9 (N:Nat)(a0:Bare)(a1:Int):Option Ans :=
 (cond (zwC a0 a1) (cond (zh3 (zk a0 a1)) (cond (zzw a0) (cond (cond (zfb a0) false true) (cond (zgw a0) (some [(.agg (Ty.cells .bare (zdy a0))),(.one (.b false))]) none) (cond (cond (zky a0 a1) false true) (cond (zgw a0) (some [(.agg (Ty.cells .bare (zdy a0))),(.one (.b false))]) none) (cond (ieq (zbp (zk a0 a1)) 0) (cond (zgw a0) (some [(.agg (Ty.cells .bare (zdy a0))),(.one (.b false))]) none) (cond (zoM (zk a0 a1)) (cond (zfw (zk a0 a1).Prog (zk a0 a1).Pc) (cond (ieq (zbp (zk a0 a1)) 1) (cond (zmg (zk a0 a1)) (cond (zcg a0 a1 (zgM (zk a0 a1))) (some [(.agg (Ty.cells .bare (zcs a0 a1 (zgM (zk a0 a1))))),(.one (.b true))]) none) none) (cond (ieq (zbp (zk a0 a1)) 2) (cond (zwF (zk a0 a1)) (cond (zcg a0 a1 (zly (zk a0 a1))) (some [(.agg (Ty.cells .bare (zcs a0 a1 (zly (zk a0 a1))))),(.one (.b true))]) none) none) (cond (ieq (zbp (zk a0 a1)) 3) (cond (ieq (zbp (zk a0 a1)) 3) (cond (zfv (zbr (zk a0 a1))) (cond (zmi (ieq (zbp (zk a0 a1)) 4)) (cond (zim (zk a0 a1).Live (zbH (zbr (zk a0 a1))) (zcr (ieq (zbp (zk a0 a1)) 4))) (cond (cond (zfN (zk a0 a1).Live (zbH (zbr (zk a0 a1))) (zcr (ieq (zbp (zk a0 a1)) 4))) false true) (cond (zfv (zbr (zk a0 a1))) (cond (zik (zbH (zbr (zk a0 a1))) (ieq (zbp (zk a0 a1)) 4)) (cond (zfj (zk a0 a1) (zdY (zbH (zbr (zk a0 a1))) (ieq (zbp (zk a0 a1)) 4))) (cond (zcg a0 a1 (zdV (zk a0 a1) (zdY (zbH (zbr (zk a0 a1))) (ieq (zbp (zk a0 a1)) 4)))) (some [(.agg (Ty.cells .bare (zcs a0 a1 (zdV (zk a0 a1) (zdY (zbH (zbr (zk a0 a1))) (ieq (zbp (zk a0 a1)) 4)))))),(.one (.b true))]) none) none) none) none) (cond (ieq (zbp (zk a0 a1)) 4) (cond (zfu (zbr (zk a0 a1))) (cond (zjn a0.Memory (zb4 (zk a0 a1).Live (zbH (zbr (zk a0 a1))) (zcr (ieq (zbp (zk a0 a1)) 4))) (zcl (zbr (zk a0 a1))) (zk a0 a1).A) (cond (zml (zk a0 a1)) (cond (zcg ({ a0 with Memory:=(zf1 a0.Memory (zb4 (zk a0 a1).Live (zbH (zbr (zk a0 a1))) (zcr (ieq (zbp (zk a0 a1)) 4))) (zcl (zbr (zk a0 a1))) (zk a0 a1).A) }:Bare) a1 (zh2 (zk a0 a1))) (some [(.agg (Ty.cells .bare (zcs ({ a0 with Memory:=(zf1 a0.Memory (zb4 (zk a0 a1).Live (zbH (zbr (zk a0 a1))) (zcr (ieq (zbp (zk a0 a1)) 4))) (zcl (zbr (zk a0 a1))) (zk a0 a1).A) }:Bare) a1 (zh2 (zk a0 a1))))),(.one (.b true))]) none) none) none) none) (cond (zfu (zbr (zk a0 a1))) (cond (zmf a0.Memory (zb4 (zk a0 a1).Live (zbH (zbr (zk a0 a1))) (zcr (ieq (zbp (zk a0 a1)) 4))) (zcl (zbr (zk a0 a1)))) (cond (zmh (zk a0 a1) (zfL a0.Memory (zb4 (zk a0 a1).Live (zbH (zbr (zk a0 a1))) (zcr (ieq (zbp (zk a0 a1)) 4))) (zcl (zbr (zk a0 a1))))) (cond (zcg a0 a1 (zhY (zk a0 a1) (zfL a0.Memory (zb4 (zk a0 a1).Live (zbH (zbr (zk a0 a1))) (zcr (ieq (zbp (zk a0 a1)) 4))) (zcl (zbr (zk a0 a1)))))) (some [(.agg (Ty.cells .bare (zcs a0 a1 (zhY (zk a0 a1) (zfL a0.Memory (zb4 (zk a0 a1).Live (zbH (zbr (zk a0 a1))) (zcr (ieq (zbp (zk a0 a1)) 4))) (zcl (zbr (zk a0 a1)))))))),(.one (.b true))]) none) none) none) none))) none) none) none) (cond (ieq (zbp (zk a0 a1)) 6) (cond (zme (zb3 (zk a0 a1).Prog (zk a0 a1).Pc).X) (cond (zfj (zk a0 a1) (zfh (zb3 (zk a0 a1).Prog (zk a0 a1).Pc).X)) (cond (zcg a0 a1 (zdV (zk a0 a1) (zfh (zb3 (zk a0 a1).Prog (zk a0 a1).Pc).X))) (some [(.agg (Ty.cells .bare (zcs a0 a1 (zdV (zk a0 a1) (zfh (zb3 (zk a0 a1).Prog (zk a0 a1).Pc).X))))),(.one (.b true))]) none) none) none) (cond (zmo (zbp (zk a0 a1))) (cond (ziC (zk a0 a1).Ctl.Traps (zfP (zbp (zk a0 a1)))) (cond (zhS (zk a0 a1).Ctl.Traps (zfP (zbp (zk a0 a1)))) (cond (zkB (zk a0 a1) (zbp (zk a0 a1))) (cond (zcg a0 a1 (zg2 (zk a0 a1) (zbp (zk a0 a1)))) (some [(.agg (Ty.cells .bare (zcs a0 a1 (zg2 (zk a0 a1) (zbp (zk a0 a1)))))),(.one (.b true))]) none) none) (cond (ieq (zbp (zk a0 a1)) 5) (cond (zrq a0 (zb3 (zk a0 a1).Prog (zk a0 a1).Pc).X) (cond (zef (zk a0 a1)) (cond (zcg (zjl a0 (zb3 (zk a0 a1).Prog (zk a0 a1).Pc).X) a1 (zdb (zk a0 a1))) (some [(.agg (Ty.cells .bare (zcs (zjl a0 (zb3 (zk a0 a1).Prog (zk a0 a1).Pc).X) a1 (zdb (zk a0 a1))))),(.one (.b true))]) none) none) none) (cond (zk2 (zk a0 a1)) (cond (zcg a0 a1 (zji (zk a0 a1))) (some [(.agg (Ty.cells .bare (zcs a0 a1 (zji (zk a0 a1))))),(.one (.b true))]) none) none))) none) none))) (cond (ieq (zbp (zk a0 a1)) 4) (cond (zfv (zbr (zk a0 a1))) (cond (zmi (ieq (zbp (zk a0 a1)) 4)) (cond (zim (zk a0 a1).Live (zbH (zbr (zk a0 a1))) (zcr (ieq (zbp (zk a0 a1)) 4))) (cond (cond (zfN (zk a0 a1).Live (zbH (zbr (zk a0 a1))) (zcr (ieq (zbp (zk a0 a1)) 4))) false true) (cond (zfv (zbr (zk a0 a1))) (cond (zik (zbH (zbr (zk a0 a1))) (ieq (zbp (zk a0 a1)) 4)) (cond (zfj (zk a0 a1) (zdY (zbH (zbr (zk a0 a1))) (ieq (zbp (zk a0 a1)) 4))) (cond (zcg a0 a1 (zdV (zk a0 a1) (zdY (zbH (zbr (zk a0 a1))) (ieq (zbp (zk a0 a1)) 4)))) (some [(.agg (Ty.cells .bare (zcs a0 a1 (zdV (zk a0 a1) (zdY (zbH (zbr (zk a0 a1))) (ieq (zbp (zk a0 a1)) 4)))))),(.one (.b true))]) none) none) none) none) (cond (ieq (zbp (zk a0 a1)) 4) (cond (zfu (zbr (zk a0 a1))) (cond (zjn a0.Memory (zb4 (zk a0 a1).Live (zbH (zbr (zk a0 a1))) (zcr (ieq (zbp (zk a0 a1)) 4))) (zcl (zbr (zk a0 a1))) (zk a0 a1).A) (cond (zml (zk a0 a1)) (cond (zcg ({ a0 with Memory:=(zf1 a0.Memory (zb4 (zk a0 a1).Live (zbH (zbr (zk a0 a1))) (zcr (ieq (zbp (zk a0 a1)) 4))) (zcl (zbr (zk a0 a1))) (zk a0 a1).A) }:Bare) a1 (zh2 (zk a0 a1))) (some [(.agg (Ty.cells .bare (zcs ({ a0 with Memory:=(zf1 a0.Memory (zb4 (zk a0 a1).Live (zbH (zbr (zk a0 a1))) (zcr (ieq (zbp (zk a0 a1)) 4))) (zcl (zbr (zk a0 a1))) (zk a0 a1).A) }:Bare) a1 (zh2 (zk a0 a1))))),(.one (.b true))]) none) none) none) none) (cond (zfu (zbr (zk a0 a1))) (cond (zmf a0.Memory (zb4 (zk a0 a1).Live (zbH (zbr (zk a0 a1))) (zcr (ieq (zbp (zk a0 a1)) 4))) (zcl (zbr (zk a0 a1)))) (cond (zmh (zk a0 a1) (zfL a0.Memory (zb4 (zk a0 a1).Live (zbH (zbr (zk a0 a1))) (zcr (ieq (zbp (zk a0 a1)) 4))) (zcl (zbr (zk a0 a1))))) (cond (zcg a0 a1 (zhY (zk a0 a1) (zfL a0.Memory (zb4 (zk a0 a1).Live (zbH (zbr (zk a0 a1))) (zcr (ieq (zbp (zk a0 a1)) 4))) (zcl (zbr (zk a0 a1)))))) (some [(.agg (Ty.cells .bare (zcs a0 a1 (zhY (zk a0 a1) (zfL a0.Memory (zb4 (zk a0 a1).Live (zbH (zbr (zk a0 a1))) (zcr (ieq (zbp (zk a0 a1)) 4))) (zcl (zbr (zk a0 a1)))))))),(.one (.b true))]) none) none) none) none))) none) none) none) (cond (ieq (zbp (zk a0 a1)) 6) (cond (zme (zb3 (zk a0 a1).Prog (zk a0 a1).Pc).X) (cond (zfj (zk a0 a1) (zfh (zb3 (zk a0 a1).Prog (zk a0 a1).Pc).X)) (cond (zcg a0 a1 (zdV (zk a0 a1) (zfh (zb3 (zk a0 a1).Prog (zk a0 a1).Pc).X))) (some [(.agg (Ty.cells .bare (zcs a0 a1 (zdV (zk a0 a1) (zfh (zb3 (zk a0 a1).Prog (zk a0 a1).Pc).X))))),(.one (.b true))]) none) none) none) (cond (zmo (zbp (zk a0 a1))) (cond (ziC (zk a0 a1).Ctl.Traps (zfP (zbp (zk a0 a1)))) (cond (zhS (zk a0 a1).Ctl.Traps (zfP (zbp (zk a0 a1)))) (cond (zkB (zk a0 a1) (zbp (zk a0 a1))) (cond (zcg a0 a1 (zg2 (zk a0 a1) (zbp (zk a0 a1)))) (some [(.agg (Ty.cells .bare (zcs a0 a1 (zg2 (zk a0 a1) (zbp (zk a0 a1)))))),(.one (.b true))]) none) none) (cond (ieq (zbp (zk a0 a1)) 5) (cond (zrq a0 (zb3 (zk a0 a1).Prog (zk a0 a1).Pc).X) (cond (zef (zk a0 a1)) (cond (zcg (zjl a0 (zb3 (zk a0 a1).Prog (zk a0 a1).Pc).X) a1 (zdb (zk a0 a1))) (some [(.agg (Ty.cells .bare (zcs (zjl a0 (zb3 (zk a0 a1).Prog (zk a0 a1).Pc).X) a1 (zdb (zk a0 a1))))),(.one (.b true))]) none) none) none) (cond (zk2 (zk a0 a1)) (cond (zcg a0 a1 (zji (zk a0 a1))) (some [(.agg (Ty.cells .bare (zcs a0 a1 (zji (zk a0 a1))))),(.one (.b true))]) none) none))) none) none)))))) none) none)))) none) none) none)
theorem zNH (N:Nat)(a0:Bare)(a1:Int):evalFn (cQ zze zV zK zO) (zB []) N 12 66 [.agg (Ty.cells .bare a0),.one (.i .i64 a1)]=zr9 N a0 a1:=by kernel_rfl
theorem zKr (a0:Bare)(a1:Int)(hb:zG big [.agg (Ty.cells .bare a0),.one (.i .i64 a1)])(hc:(zsV a0 a1)=true):∃N,zr9 N a0 a1=some [.agg (Ty.cells .bare (zhD a0 a1)),.one (.b (zmb a0 a1))]:=by
 have hs:=zJ.1 hc;have hx:=zYE a1 hs;have hz:_/\_/\_:=hs;have hg:a0.Guests.length<=1048576:=hs.2.1.1;have hw7:=zXx (gAt a0 a1);have h34:ieq (zN (gAt a0 a1)) 3=true->ieq (zN (gAt a0 a1)) 4=false:=fun h=>zVb h rfl;have h57:ieq (zN (gAt a0 a1)) 5=true->ieq (zN (gAt a0 a1)) 7=false:=fun h=>zVb h rfl;have t1:=tr1 (gAt a0 a1) (gAt a0 a1).Ctl.Traps (zN (gAt a0 a1));have t2:=tr2 (gAt a0 a1) (gAt a0 a1).Ctl.Traps (zN (gAt a0 a1));have t3:=tr3 (gAt a0 a1) (gAt a0 a1).Ctl.Traps (zN (gAt a0 a1));have t4:=tr4 (gAt a0 a1) (gAt a0 a1).Ctl.Traps (zN (gAt a0 a1));have hp:∀n,SmB (zmF a0 n):=fun n=>zIs hs
 refine ⟨0,?_⟩;unfold zr9;refine must (by first|assumption|(simp_all<;>omega)) (must rfl (must rfl (brN (fun _=>must (by first|assumption|(simp_all<;>omega)) ?_) (fun _=>brN (fun _=>must (by first|assumption|(simp_all<;>omega)) ?_) (fun _=>br (fun _=>must (by first|assumption|(simp_all<;>omega)) ?_) (fun _=>must rfl (must rfl (br (fun _=>must (by first|assumption|(simp_all<;>omega)) (must (by first|assumption|(simp_all<;>omega)) ?_)) (fun _=>br (fun _=>must (by first|assumption|(simp_all<;>omega)) (must (by first|assumption|(simp_all<;>omega)) ?_)) (fun _=>br (fun _=>br (fun _=>must rfl (must rfl (must rfl (brN (fun _=>must rfl (must rfl (must (by first|assumption|(simp_all<;>omega)) (must (by first|assumption|(simp_all<;>omega)) ?_)))) (fun _=>br (fun _=>must rfl (must (by first|assumption|(simp_all<;>omega)) (must (by first|assumption|(simp_all<;>omega)) (must (by first|assumption|(simp_all<;>omega)) ?_)))) (fun _=>must rfl (must rfl (must (by first|assumption|(simp_all<;>omega)) (must (by first|assumption|(simp_all<;>omega)) ?_))))))))) (fun _=>br (fun _=>must rfl (must (by first|assumption|(simp_all<;>omega)) (must (by first|assumption|(simp_all<;>omega)) ?_))) (fun _=>must rfl (must rfl (br (fun _=>must (by first|assumption|(simp_all<;>omega)) (must (by first|assumption|(simp_all<;>omega)) ?_)) (fun _=>br (fun _=>must (by first|assumption|(simp_all<;>omega)) (must (by first|assumption|(simp_all<;>omega)) (must (by first|assumption|(simp_all<;>omega)) ?_))) (fun _=>must (by first|assumption|(simp_all<;>omega)) (must (by first|assumption|(simp_all<;>omega)) ?_)))))))) (fun _=>br (fun _=>must rfl (must rfl (must rfl (brN (fun _=>must rfl (must rfl (must (by first|assumption|(simp_all<;>omega)) (must (by first|assumption|(simp_all<;>omega)) ?_)))) (fun _=>br (fun _=>must rfl (must (by first|assumption|(simp_all<;>omega)) (must (by first|assumption|(simp_all<;>omega)) (must (by first|assumption|(simp_all<;>omega)) ?_)))) (fun _=>must rfl (must rfl (must (by first|assumption|(simp_all<;>omega)) (must (by first|assumption|(simp_all<;>omega)) ?_))))))))) (fun _=>br (fun _=>must rfl (must (by first|assumption|(simp_all<;>omega)) (must (by first|assumption|(simp_all<;>omega)) ?_))) (fun _=>must rfl (must rfl (br (fun _=>must (by first|assumption|(simp_all<;>omega)) (must (by first|assumption|(simp_all<;>omega)) ?_)) (fun _=>br (fun _=>must (by first|assumption|(simp_all<;>omega)) (must (by first|assumption|(simp_all<;>omega)) (must (by first|assumption|(simp_all<;>omega)) ?_))) (fun _=>must (by first|assumption|(simp_all<;>omega)) (must (by first|assumption|(simp_all<;>omega)) ?_))))))))))))))))))
 all_goals first|rfl|(simp only [*,zhD,zmb,zi9,znD,stepped,zr3,zr4,zpt,zeP,cT,cF]<;>rfl)|simp_all [Ty.cells,zhD,zmb,zi9,znD,stepped,zr3,zr4,zpt,zeP]
theorem zEL:Holds Tryz.prog 66 znT:=zo znE zD zu zy (zC (by kernel_rfl)) fun avs rs hb h=>by
 unfold znT at h;split at h
 ·obtain ⟨hc,rfl⟩:=zl h;exact (fin2 zKr zNH hc hb :)
 ·cases h
def SmK (k:Kept):Prop:=k.Known.length<=1048576/\k.Slots.length<=1048576
def zIZ (l:List Kept):Prop:=l.length<=1048576/\∀x∈l,SmK x
def zl1 (m:Mon):Prop:=m.Outer.length<=1048576/\SmM m.Out/\m.Dirty.length<=1048576/\zBe m.Guests/\m.Outs.length<=1048576/\zIZ m.Tables
def zBf (l:List Mon):Prop:=l.length<=1048576/\∀x∈l,zl1 x
def SmH (h:Host):Prop:=SmM h.Memory/\zBf h.Mons/\h.Buffer.length<=1048576/\h.IoBuffer.length<=1048576
@[simp] theorem zCg (k:Kept):(∀c∈Ty.cells .kept k,CVB sm c)↔SmK k:=by simp [Ty.cells,SmK,zZS]
@[simp] theorem zZh (l:List Kept):CVB sm (.s .kept l)↔zIZ l:=by rw [zjM];simp only [zCg];rfl
@[simp] theorem zUQ (m:Mon):(∀c∈Ty.cells .mon m,CVB sm c)↔zl1 m:=by
 simp only [Ty.cells,List.mem_cons,List.not_mem_nil,or_false,forall_eq_or_imp,forall_eq,znF,zLZ,zZh,zWi,zSO,zSN,z0k,and_true,true_and];rfl
@[simp] theorem z0R (l:List Mon):CVB sm (.s .mon l)↔zBf l:=by rw [zjM];simp only [zUQ];rfl
@[simp] theorem zbo (h:Host):zea h↔SmH h:=by
 unfold zea;simp only [zA,List.mem_cons,List.not_mem_nil,or_false,forall_eq_or_imp,forall_eq,znF,z0R,zPu];rfl
theorem zbt {p:Prop}(h:p):pc p=true:=zU h
theorem zVs {l:List Kept}{i:Int}{x:Kept}(h:zIZ l)(hx:SmK x):zIZ (up l i x):=by
 refine ⟨by simpa using h.1,fun y hy=>?_⟩
 rcases List.mem_or_eq_of_mem_set hy with hy|rfl
 ·exact h.2 y hy
 ·exact hx
theorem zMj {l:List Mon}{i:Int}{x:Mon}(h:zBf l)(hx:zl1 x):zBf (up l i x):=by
 refine ⟨by simpa using h.1,fun y hy=>?_⟩
 rcases List.mem_or_eq_of_mem_set hy with hy|rfl
 ·exact h.2 y hy
 ·exact hx
theorem znG {α:Type}{l:List α}(h:l.length<=1048576):few (ln (ap [] l))=true:=by
 rw [zkt,z0X];omega
@[simp,reducible] def zer (h:Host):Bool:=pc (zea h)
@[simp,reducible] def zh (h:Host):Host:=h
def zqU:List AV->Option (Bool×List AV)
 | [.agg [.s (.sl .int) b,.s .mon c,.s .entry d,.s .entry e]]=>some ((zer (⟨b,c,d,e⟩:Host)),[.agg (zA (zh (⟨b,c,d,e⟩:Host)))])
 | _=>none
def zwu (N:Nat)(a0:Host):Option Ans :=
 (cond (zgi a0.Memory) (cond (few (ln (ap [] a0.Buffer))) (cond (few (ln (ap [] a0.IoBuffer))) (iter (σ:=(Int×((List (List Int))×((List Mon)×((List Entry)×((List Entry)×((List (List Int))×((List Mon)×((List Entry)×((List Entry)×((List (List Int))×((List Mon)×((List Entry)×((List Entry)×Unit)))))))))))))) N (fun r2 s3=>(cond (ilt s3.1 (ln s3.2.2.1)) (cond (inb s3.1 (ln s3.2.2.1)) (cond (znl (ix s3.2.2.1 s3.1 zf)) (cond (few (ln (ap s3.2.2.2.2.2.2.2.2.2.2.1 [(zlm (ix s3.2.2.1 s3.1 zf))]))) (r2 ((zq .i64 s3.1 1),(s3.2.1,(s3.2.2.1,(s3.2.2.2.1,(s3.2.2.2.2.1,(s3.2.2.2.2.2.1,(s3.2.2.2.2.2.2.1,(s3.2.2.2.2.2.2.2.1,(s3.2.2.2.2.2.2.2.2.1,(s3.2.2.2.2.2.2.2.2.2.1,((ap s3.2.2.2.2.2.2.2.2.2.2.1 [(zlm (ix s3.2.2.1 s3.1 zf))]),(s3.2.2.2.2.2.2.2.2.2.2.2.1,(s3.2.2.2.2.2.2.2.2.2.2.2.2.1,())))))))))))))) none) none) none) (some [(.agg (zA (⟨s3.2.2.2.2.2.2.2.2.2.1,s3.2.2.2.2.2.2.2.2.2.2.1,s3.2.2.2.2.2.2.2.2.2.2.2.1,s3.2.2.2.2.2.2.2.2.2.2.2.2.1⟩:Host)))]))) (0,(a0.Memory,(a0.Mons,(a0.Buffer,(a0.IoBuffer,([],([],([],([],((zdf a0.Memory),([],((ap [] a0.Buffer),((ap [] a0.IoBuffer),())))))))))))))) none) none) none)
def zOy:FuncId->Nat->Option Tmpl:=zB [(17,0,{ n:=36,tm:=[(1,.lp 0 0),(2,.lp 1 0),(3,.lp 2 0),(4,.i .i64)],lo:=[(0,[.sl 0 [],.sl 1 [],.sl 2 [],.sl 3 []]),(1,[.sl 4 [],.sl 5 [],.sl 6 [],.sl 7 []]),(2,[.sl 8 [],.sl 9 [],.sl 10 [],.sl 11 []])],ro:=[(0,(.sl .int),false),(1,.mon,false),(2,.entry,false),(3,.entry,false),(4,(.sl .int),true),(5,.mon,true),(6,.entry,true),(7,.entry,true),(8,(.sl .int),true),(9,.mon,true),(10,.entry,true),(11,.entry,true)] })]
theorem zRR (N:Nat)(a0:Host):evalFn (cQ zze zV zK zO) zOy N 12 17 [.agg (zA a0)]=zwu N a0:=by kernel_rfl
theorem zNB (a0:Host)(hb:zG big [.agg (zA a0)])(hc:(zer a0)=true):∃N,zwu N a0=some [.agg (zA (zh a0))]:=by
 obtain ⟨h1,h2,h3,h4⟩:=(zbo a0).1 (zJ.1 hc);have hl:=zcA h2.1;refine ⟨NN,?_⟩;have hNN:∀{n:Nat},n<=big->n<NN:=fun h=>zb8 h;generalize NN=N at hNN ⊢;unfold zwu;refine must (zbt ((znF _).2 h1)) (must (znG h3) (must (znG h4) ?_));refine (zbF a0.Mons (fun i (t:(List Mon))=>((i:Int),a0.Memory,a0.Mons,a0.Buffer,a0.IoBuffer,[],[],[],[],(zdf a0.Memory),t,(ap [] a0.Buffer),(ap [] a0.IoBuffer),())) _ (fun _ x acc κ=>bif znl x then (cond (few (ln (ap acc [zlm x]))) (κ (ap acc [zlm x])) none) else none) (fun (t:(List Mon))=>(some [(.agg (zA (⟨(zdf a0.Memory),t,(ap [] a0.Buffer),(ap [] a0.IoBuffer)⟩:Host)))])) (fun i hi t rec=>?_) (fun t rec=>?_) _ ([]) (hNN hl.1)).trans ?_
 ·simp only [zbv hi,zbg hi,zbq hi,zbf hi hl.1,cT]
 ·simp only [zbj,cF]
 exact zhX znl zlm _ a0.Mons 0 [] (fun x hx=>⟨zbt ((zUQ x).2 (h2.2 x hx)),rfl⟩) (by simpa using hl.2)
theorem zHq:Holds Tryz.prog 17 zqU:=zo znE zD zu zy (zC (by kernel_rfl)) fun avs rs hb h=>by
 unfold zqU at h;split at h
 ·obtain ⟨hc,rfl⟩:=zl h;exact (fin1 zNB zRR hc hb :)
 ·cases h
@[simp,reducible] def zfx (k:Kept):Bool:=pc (SmK k)
@[simp,reducible] def zb9 (k:Kept):Kept:=k
def zn5:List AV->Option (Bool×List AV)
 | [.agg [.s .bool b,.s .slot c]]=>some ((zfx (⟨b,c⟩:Kept)),[.agg (Ty.cells .kept (zb9 (⟨b,c⟩:Kept)))])
 | _=>none
def zsk (N:Nat)(a0:Kept):Option Ans :=
 (cond (few (ln (ap [] a0.Known))) (cond (zfO a0.Slots) (some [(.agg (Ty.cells .kept (⟨(ap [] a0.Known),(zeG a0.Slots)⟩:Kept)))]) none) none)
theorem zNT (N:Nat)(a0:Kept):evalFn (cQ zze zV zK zO) (zB []) N 12 116 [.agg (Ty.cells .kept a0)]=zsk N a0:=by kernel_rfl
theorem zKE (a0:Kept)(hb:zG big [.agg (Ty.cells .kept a0)])(hc:(zfx a0)=true):∃N,zsk N a0=some [.agg (Ty.cells .kept (zb9 a0))]:=by
 have hs:=zJ.1 hc;obtain ⟨h1,h2⟩:=hs;have hs1:a0.Known.length<=2147483648:=(by omega);have hs2:a0.Slots.length<=2147483648:=(by omega)
 refine ⟨0,?_⟩;unfold zsk;refine must (by first|assumption|(simp_all<;>omega)) (must (by first|assumption|(simp_all<;>omega)) ?_)
 first|rfl|(simp only [*,zb9,cT,cF]<;>rfl)|simp_all [Ty.cells,zb9]
theorem zEX:Holds Tryz.prog 116 zn5:=zo znE zD zu zy (zC (by kernel_rfl)) fun avs rs hb h=>by
 unfold zn5 at h;split at h
 ·obtain ⟨hc,rfl⟩:=zl h;exact (fin1 zKE zNT hc hb :)
 ·cases h
def zV3:zbQ:=[(17,zqU),(116,zn5)]++zze
theorem zPm:zbw zV3:=zn zHq (zn zEX znE)
@[simp,reducible] def ziF (m:Mon):Bool:=pc (zl1 m)
@[simp,reducible] def zhT (m:Mon):Mon:=m
def zqm:List AV->Option (Bool×List AV)
 | [.agg [.s .slot b,.s (.sl .int) c,.s .bool d,.s .guest e,.s .int f,.i .i64 g,.i .i64 h,.s .kept j,.i .i64 k]]=>some ((ziF (⟨b,c,d,e,f,g,h,j,k⟩:Mon)),[.agg (Ty.cells .mon (zhT (⟨b,c,d,e,f,g,h,j,k⟩:Mon)))])
 | _=>none
def zvX (N:Nat)(a0:Mon):Option Ans :=
 (cond (zfO a0.Outer) (cond (zfk a0.Out) (cond (few (ln (ap [] a0.Dirty))) (cond (zhG a0.Guests) (cond (zdn a0.Outs) (iter (σ:=(Int×(Int×(Int×(Int×(Int×(Int×(Int×(Int×((List Kept)×((List Kept)×((List Slot)×((List (List Int))×((List Bool)×((List Guest)×((List Int)×((List Slot)×((List (List Int))×((List Bool)×((List Guest)×((List Int)×((List Kept)×Unit)))))))))))))))))))))) N (fun r2 s3=>(cond (ilt s3.2.1 s3.1) (cond (inb s3.2.1 (ln s3.2.2.2.2.2.2.2.2.2.1)) (cond (zfx (ix s3.2.2.2.2.2.2.2.2.2.1 s3.2.1 zbD)) (cond (few (ln (ap s3.2.2.2.2.2.2.2.2.1 [(zb9 (ix s3.2.2.2.2.2.2.2.2.2.1 s3.2.1 zbD))]))) (r2 (s3.1,((zq .i64 s3.2.1 1),(s3.2.2.1,(s3.2.2.2.1,(s3.2.2.2.2.1,(s3.2.2.2.2.2.1,(s3.2.2.2.2.2.2.1,(s3.2.2.2.2.2.2.2.1,((ap s3.2.2.2.2.2.2.2.2.1 [(zb9 (ix s3.2.2.2.2.2.2.2.2.2.1 s3.2.1 zbD))]),(s3.2.2.2.2.2.2.2.2.2.1,(s3.2.2.2.2.2.2.2.2.2.2.1,(s3.2.2.2.2.2.2.2.2.2.2.2.1,(s3.2.2.2.2.2.2.2.2.2.2.2.2.1,(s3.2.2.2.2.2.2.2.2.2.2.2.2.2.1,(s3.2.2.2.2.2.2.2.2.2.2.2.2.2.2.1,(s3.2.2.2.2.2.2.2.2.2.2.2.2.2.2.2.1,(s3.2.2.2.2.2.2.2.2.2.2.2.2.2.2.2.2.1,(s3.2.2.2.2.2.2.2.2.2.2.2.2.2.2.2.2.2.1,(s3.2.2.2.2.2.2.2.2.2.2.2.2.2.2.2.2.2.2.1,(s3.2.2.2.2.2.2.2.2.2.2.2.2.2.2.2.2.2.2.2.1,(s3.2.2.2.2.2.2.2.2.2.2.2.2.2.2.2.2.2.2.2.2.1,())))))))))))))))))))))) none) none) none) (some [(.agg (Ty.cells .mon (⟨s3.2.2.2.2.2.2.2.2.2.2.1,s3.2.2.2.2.2.2.2.2.2.2.2.1,s3.2.2.2.2.2.2.2.2.2.2.2.2.1,s3.2.2.2.2.2.2.2.2.2.2.2.2.2.1,s3.2.2.2.2.2.2.2.2.2.2.2.2.2.2.1,s3.2.2.1,s3.2.2.2.1,s3.2.2.2.2.2.2.2.2.1,s3.2.2.2.2.1⟩:Mon)))]))) ((ln a0.Tables),(0,(a0.Pending,(a0.Traps,(a0.Own,(0,(0,(0,([],(a0.Tables,((zeG a0.Outer),((zcW a0.Out),((ap [] a0.Dirty),((zhF a0.Guests),((zdh a0.Outs),([],([],([],([],([],([],())))))))))))))))))))))) none) none) none) none) none)
def zOl:FuncId->Nat->Option Tmpl:=zB [(49,0,{ n:=44,tm:=[(1,.lp 0 0),(2,.lp 1 0),(3,.sl 0 []),(29,.sl 1 []),(30,.i .i64),(31,.i .i64)],lo:=[(0,[.sl 2 [],.sl 3 [],.sl 4 [],.sl 5 [],.sl 6 [],.i .i64,.i .i64,.sl 1 [],.i .i64]),(1,[.sl 7 [],.sl 8 [],.sl 9 [],.sl 10 [],.sl 11 [],.i .i64,.i .i64,.sl 12 [],.i .i64])],ro:=[(0,.kept,true),(1,.kept,false),(2,.slot,true),(3,(.sl .int),true),(4,.bool,true),(5,.guest,true),(6,.int,true),(7,.slot,true),(8,(.sl .int),true),(9,.bool,true),(10,.guest,true),(11,.int,true),(12,.kept,true)] })]
theorem zRk (N:Nat)(a0:Mon):evalFn (cQ zV3 zV zK zO) zOl N 12 49 [.agg (Ty.cells .mon a0)]=zvX N a0:=by kernel_rfl
theorem zM4 (a0:Mon)(hb:zG big [.agg (Ty.cells .mon a0)])(hc:(ziF a0)=true):∃N,zvX N a0=some [.agg (Ty.cells .mon (zhT a0))]:=by
 obtain ⟨h1,h2,h3,h4,h5,h6⟩:=zJ.1 hc;have hl:=zcA h6.1;refine ⟨NN,?_⟩;have hNN:∀{n:Nat},n<=big->n<NN:=fun h=>zb8 h;generalize NN=N at hNN ⊢;unfold zvX;have c1:zfO a0.Outer=true:=by simp;omega
 have c2:zfk a0.Out=true:=by simp;exact h2
 have c4:zhG a0.Guests=true:=by simp;exact h4
 have c5:zdn a0.Outs=true:=by simp;omega
 refine must c1 (must c2 (must (znG h3) (must c4 (must c5 ?_))));refine (zbF a0.Tables (fun i (t:(List Kept))=>((ln a0.Tables),(i:Int),a0.Pending,a0.Traps,a0.Own,0,0,0,t,a0.Tables,(zeG a0.Outer),(zcW a0.Out),(ap [] a0.Dirty),(zhF a0.Guests),(zdh a0.Outs),[],[],[],[],[],[],())) _ (fun _ x acc κ=>bif zfx x then (cond (few (ln (ap acc [zb9 x]))) (κ (ap acc [zb9 x])) none) else none) (fun (t:(List Kept))=>(some [(.agg (Ty.cells .mon (⟨(zeG a0.Outer),(zcW a0.Out),(ap [] a0.Dirty),(zhF a0.Guests),(zdh a0.Outs),a0.Pending,a0.Traps,t,a0.Own⟩:Mon)))])) (fun i hi t rec=>?_) (fun t rec=>?_) _ ([]) (hNN hl.1)).trans ?_
 ·simp only [zbv hi,zbg hi,zbq hi,zbf hi hl.1,cT]
 ·simp only [zbj,cF]
 exact zhX zfx zb9 _ a0.Tables 0 [] (fun x hx=>⟨zbt (h6.2 x hx),rfl⟩) (by simpa using hl.2)
theorem zGT:Holds Tryz.prog 49 zqm:=zo zPm zD zu zy (zC (by kernel_rfl)) fun avs rs hb h=>by
 unfold zqm at h;split at h
 ·obtain ⟨hc,rfl⟩:=zl h;exact (fin1 zM4 zRk hc hb :)
 ·cases h
def zGq:zbQ:=[(49,zqm)]++zV3
theorem zzd:zbw zGq:=zn zGT zPm
@[simp,reducible] def zjq (h:Host):Bool:=pc (zea h)
@[simp,reducible] def zS (h:Host):Host:=h
def zn3:List AV->Option (Bool×List AV)
 | [.agg [.s (.sl .int) b,.s .mon c,.s .entry d,.s .entry e]]=>some ((zjq (⟨b,c,d,e⟩:Host)),[.agg (zA (zS (⟨b,c,d,e⟩:Host)))])
 | _=>none
def zsi (N:Nat)(a0:Host):Option Ans :=
 (cond (zfk a0.Memory) (cond (few (ln (ap [] a0.Buffer))) (cond (few (ln (ap [] a0.IoBuffer))) (iter (σ:=(Int×(Int×((List Mon)×((List (List Int))×((List Mon)×((List Entry)×((List Entry)×((List (List Int))×((List Mon)×((List Entry)×((List Entry)×Unit)))))))))))) N (fun r2 s3=>(cond (ilt s3.2.1 s3.1) (cond (inb s3.2.1 (ln s3.2.2.1)) (cond (ziF (ix s3.2.2.1 s3.2.1 zf)) (cond (few (ln (ap s3.2.2.2.2.2.2.2.2.1 [(zhT (ix s3.2.2.1 s3.2.1 zf))]))) (r2 (s3.1,((zq .i64 s3.2.1 1),(s3.2.2.1,(s3.2.2.2.1,(s3.2.2.2.2.1,(s3.2.2.2.2.2.1,(s3.2.2.2.2.2.2.1,(s3.2.2.2.2.2.2.2.1,((ap s3.2.2.2.2.2.2.2.2.1 [(zhT (ix s3.2.2.1 s3.2.1 zf))]),(s3.2.2.2.2.2.2.2.2.2.1,(s3.2.2.2.2.2.2.2.2.2.2.1,())))))))))))) none) none) none) (some [(.agg (zA (⟨s3.2.2.2.2.2.2.2.1,s3.2.2.2.2.2.2.2.2.1,s3.2.2.2.2.2.2.2.2.2.1,s3.2.2.2.2.2.2.2.2.2.2.1⟩:Host)))]))) ((ln a0.Mons),(0,(a0.Mons,([],([],([],([],((zcW a0.Memory),([],((ap [] a0.Buffer),((ap [] a0.IoBuffer),())))))))))))) none) none) none)
def zLH:FuncId->Nat->Option Tmpl:=zB [(22,0,{ n:=34,tm:=[(2,.lp 0 0),(3,.lp 1 0),(19,.sl 0 []),(20,.i .i64),(21,.i .i64)],lo:=[(0,[.sl 1 [],.sl 2 [],.sl 3 [],.sl 4 []]),(1,[.sl 5 [],.sl 6 [],.sl 7 [],.sl 8 []])],ro:=[(0,.mon,false),(1,(.sl .int),true),(2,.mon,true),(3,.entry,true),(4,.entry,true),(5,(.sl .int),true),(6,.mon,true),(7,.entry,true),(8,.entry,true)] })]
theorem zNR (N:Nat)(a0:Host):evalFn (cQ zGq zV zK zO) zLH N 12 22 [.agg (zA a0)]=zsi N a0:=by kernel_rfl
theorem zKC (a0:Host)(hb:zG big [.agg (zA a0)])(hc:(zjq a0)=true):∃N,zsi N a0=some [.agg (zA (zS a0))]:=by
 obtain ⟨h1,h2,h3,h4⟩:=(zbo a0).1 (zJ.1 hc);have hl:=zcA h2.1;refine ⟨NN,?_⟩;have hNN:∀{n:Nat},n<=big->n<NN:=fun h=>zb8 h;generalize NN=N at hNN ⊢;unfold zsi;have c1:zfk a0.Memory=true:=by simp;exact h1
 refine must c1 (must (znG h3) (must (znG h4) ?_));refine (zbF a0.Mons (fun i (t:(List Mon))=>((ln a0.Mons),(i:Int),a0.Mons,[],[],[],[],(zcW a0.Memory),t,(ap [] a0.Buffer),(ap [] a0.IoBuffer),())) _ (fun _ x acc κ=>bif ziF x then (cond (few (ln (ap acc [zhT x]))) (κ (ap acc [zhT x])) none) else none) (fun (t:(List Mon))=>(some [(.agg (zA (⟨(zcW a0.Memory),t,(ap [] a0.Buffer),(ap [] a0.IoBuffer)⟩:Host)))])) (fun i hi t rec=>?_) (fun t rec=>?_) _ ([]) (hNN hl.1)).trans ?_
 ·simp only [zbv hi,zbg hi,zbq hi,zbf hi hl.1,cT]
 ·simp only [zbj,cF]
 exact zhX ziF zhT _ a0.Mons 0 [] (fun x hx=>⟨zbt (h2.2 x hx),rfl⟩) (by simpa using hl.2)
theorem zEV:Holds Tryz.prog 22 zn3:=zo zzd zD zu zy (zC (by kernel_rfl)) fun avs rs hb h=>by
 unfold zn3 at h;split at h
 ·obtain ⟨hc,rfl⟩:=zl h;exact (fin1 zKC zNR hc hb :)
 ·cases h
def allI {α:Type}(p:Nat->α->Bool):List α->Nat->Bool
 | [],_=>true
 | x :: l,i=>p i x&&allI p l (i+1)
theorem zEG {α ρ:Type}(p:Nat->α->Bool)(r:Option ρ)(K:Unit->Option ρ):∀(l:List α) (i:Nat),goL (fun i x (_:Unit) k=>bif p i x then k () else r) K l i ()=bif allI p l i then K () else r
 | [],_=>rfl
 | x :: l,i=>by
  simp only [goL,allI];cases p i x
  ·rfl
  ·simp only [cT,Bool.true_and];exact zEG p r K l (i+1)
theorem zLU {α:Type}(q:α->Bool)(l:List α)(d:α):∀(n i:Nat),i+n<=l.length->zsH (fun j=>q (ix l (j:Int) d)) n i=((l.drop i).take n).all q
 | 0,i,_=>by simp [zsH]
 | n+1,i,h=>by
  have hi:i<l.length:=by omega
  rw [List.drop_eq_getElem_cons hi,List.take_succ_cons,List.all_cons,<- zLU q l d n (i+1) (by omega)]
  simp only [zsH,zbq hi]
def sameKey (a b:Entry):Bool:=bif ieq a.Tag b.Tag then ieq a.Page b.Page else false
def alone (l:List Entry)(i:Nat)(x:Entry):Bool:=(l.take i).all fun y=>!sameKey x y
def zCf (l:List Entry):Bool:=bif allI (alone l) l 0 then ile (ln l) 6 else false
theorem zZp {α:Type}{l:List α}{i:Nat}(h:i<=l.length):inr 0 (i:Int) (ln l)=true:=decide_eq_true (by simp only [ln];omega)
@[simp,reducible] def zmd (l:List Entry):Bool:=true
@[simp,reducible] def zmc (l:List Entry):Bool:=zCf l
def znU:List AV->Option (Bool×List AV)
 | [.one (.s .entry c)]=>some ((zmd c),[.one (.b (zmc c))])
 | _=>none
def zsa (N:Nat)(a0:List Entry):Option Ans :=
 (iter (σ:=(Int×(Int×((List Entry)×Unit)))) N (fun r2 s3=>(cond (ilt s3.2.1 s3.1) (cond (inb s3.2.1 (ln s3.2.2.1)) (cond (inr 0 s3.2.1 (ln s3.2.2.1)) (iter (σ:=(Int×(Int×(Int×(Int×(Int×(Int×(Int×(Int×((List Entry)×((List Entry)×Unit))))))))))) N (fun r4 s5=>(cond (ilt s5.2.2.2.1 s5.2.2.1) (cond (inb s5.2.2.2.1 (ln s5.2.2.2.2.2.2.2.2.2.1)) (cond (ieq s5.2.2.2.2.1 (ix s5.2.2.2.2.2.2.2.2.2.1 s5.2.2.2.1 zbz).Tag) (cond (ieq s5.2.2.2.2.2.1 (ix s5.2.2.2.2.2.2.2.2.2.1 s5.2.2.2.1 zbz).Page) (some [(.one (.b false))]) (r4 (s5.1,(s5.2.1,(s5.2.2.1,((zq .i64 s5.2.2.2.1 1),(s5.2.2.2.2.1,(s5.2.2.2.2.2.1,(s5.2.2.2.2.2.2.1,(s5.2.2.2.2.2.2.2.1,(s5.2.2.2.2.2.2.2.2.1,(s5.2.2.2.2.2.2.2.2.2.1,())))))))))))) (r4 (s5.1,(s5.2.1,(s5.2.2.1,((zq .i64 s5.2.2.2.1 1),(s5.2.2.2.2.1,(s5.2.2.2.2.2.1,(s5.2.2.2.2.2.2.1,(s5.2.2.2.2.2.2.2.1,(s5.2.2.2.2.2.2.2.2.1,(s5.2.2.2.2.2.2.2.2.2.1,())))))))))))) none) (r2 (s5.1,((zq .i64 s5.2.1 1),(s5.2.2.2.2.2.2.2.2.1,())))))) (s3.1,(s3.2.1,((ln (tk s3.2.2.1 s3.2.1)),(0,((ix s3.2.2.1 s3.2.1 zbz).Tag,((ix s3.2.2.1 s3.2.1 zbz).Page,((ix s3.2.2.1 s3.2.1 zbz).Host,((ix s3.2.2.1 s3.2.1 zbz).Rights,(s3.2.2.1,((tk s3.2.2.1 s3.2.1),()))))))))))) none) none) (some [(.one (.b (ile (ln s3.2.2.1) 6)))]))) ((ln a0),(0,(a0,()))))
def zLG:FuncId->Nat->Option Tmpl:=zB [(119,0,{ n:=39,tm:=[(0,.sl 0 []),(7,.sl 0 []),(8,.i .i64),(9,.i .i64)],lo:=[],ro:=[(0,.entry,false)] }),(119,2,{ n:=39,tm:=[(0,.sl 0 []),(4,.lp 0 0),(7,.sl 0 []),(8,.i .i64),(9,.i .i64),(16,.sl 1 []),(17,.i .i64),(18,.i .i64)],lo:=[(0,[.i .i64,.i .i64,.i .i64,.i .i64])],ro:=[(0,.entry,false),(1,.entry,false)] })]
theorem zNI (N:Nat)(a0:List Entry):evalFn (cQ zGq zV zK zO) zLG N 12 119 [.one (.s .entry a0)]=zsa N a0:=by kernel_rfl
theorem zKs (a0:List Entry)(hb:zG big [.one (.s .entry a0)])(hc:(zmd a0)=true):∃N,zsa N a0=some [.one (.b (zmc a0))]:=by
 have hl:=((zbu hb).1 _ (List.mem_singleton.2 rfl)).len;refine ⟨NN,?_⟩;have hNN:∀{n:Nat},n<=big->n<NN:=fun h=>zb8 h;generalize NN=N at hNN ⊢;unfold zsa;refine (zbF a0 (fun i (t:Unit)=>((ln a0),(i:Int),a0,())) _ (fun i (x:Entry) (_:Unit) κ=>bif alone a0 i x then κ () else some [AV.one (.b false)]) (fun (t:Unit)=>(some [(.one (.b (ile (ln a0) 6)))])) (fun i hi t rec=>?_) (fun t rec=>?_) _ () (hNN hl)).trans ?_
 ·simp only [zbv hi,zbg hi,zbq hi,zbf hi hl,cT];rw [zZp (Nat.le_of_lt hi),cT];have hk:(tk a0 (i:Int)).length<=big:=Nat.le_trans (by simp [tk];omega) hl
  refine (zbF (tk a0 (i:Int)) (fun j (u:Unit)=>((ln a0),(i:Int),(ln (tk a0 (i:Int))),(j:Int),a0[i].Tag,a0[i].Page,a0[i].Host,a0[i].Rights,a0,(tk a0 (i:Int)),())) _ (fun _ (y:Entry) (_:Unit) κ=>bif !sameKey a0[i] y then κ () else some [AV.one (.b false)]) (fun (u:Unit)=>(rec ((ln a0),((((i+1:Nat)):Int),(a0,()))))) (fun j hj u rec1=>?_) (fun u rec1=>?_) _ () (hNN hk)).trans ?_
  ·simp only [zbv hj,zbg hj,zbq hj,zbf hj hk,cT,zbf hi hl];unfold sameKey;cases ieq a0[i].Tag (tk a0 (i:Int))[j].Tag<;>cases ieq a0[i].Page (tk a0 (i:Int))[j].Page<;>rfl
  ·simp only [zbj,cF,zbf hi hl]
  rw [zgm (fun y=>!sameKey a0[i] y)];rfl
 ·simp only [zbj,cF]
 rw [zEG (alone a0)];unfold zmc zCf;cases allI (alone a0) a0 0<;>rfl
theorem zEM:Holds Tryz.prog 119 znU:=zo zzd zD zu zy (zC (by kernel_rfl)) fun avs rs hb h=>by
 unfold znU at h;split at h
 ·obtain ⟨hc,rfl⟩:=zl h;exact (fin1 zKs zNI hc hb :)
 ·cases h
@[simp,reducible] def zne (l:List Entry):Bool:=true
@[simp,reducible] def znd (l:List Entry):Bool:=zCf l
def zoj:List AV->Option (Bool×List AV)
 | [.one (.s .entry c)]=>some ((zne c),[.one (.b (znd c))])
 | _=>none
def zsB (N:Nat)(a0:List Entry):Option Ans :=
 (iter (σ:=(Int×((List Entry)×Unit))) N (fun r2 s3=>(cond (ilt s3.1 (ln s3.2.1)) (iter (σ:=(Int×(Int×((List Entry)×Unit)))) N (fun r4 s5=>(cond (ilt s5.2.1 s5.1) (cond (inb s5.1 (ln s5.2.2.1)) (cond (inb s5.2.1 (ln s5.2.2.1)) (cond (ieq (ix s5.2.2.1 s5.1 zbz).Tag (ix s5.2.2.1 s5.2.1 zbz).Tag) (cond (inb s5.1 (ln s5.2.2.1)) (cond (inb s5.2.1 (ln s5.2.2.1)) (cond (ieq (ix s5.2.2.1 s5.1 zbz).Page (ix s5.2.2.1 s5.2.1 zbz).Page) (some [(.one (.b false))]) (r4 (s5.1,((zq .i64 s5.2.1 1),(s5.2.2.1,()))))) none) none) (r4 (s5.1,((zq .i64 s5.2.1 1),(s5.2.2.1,()))))) none) none) (r2 ((zq .i64 s5.1 1),(s5.2.2.1,()))))) (s3.1,(0,(s3.2.1,())))) (some [(.one (.b (ile (ln s3.2.1) 6)))]))) (0,(a0,())))
def zLQ:FuncId->Nat->Option Tmpl:=zB [(152,0,{ n:=43,tm:=[(0,.sl 0 []),(3,.i .i64)],lo:=[],ro:=[(0,.entry,false)] }),(152,2,{ n:=43,tm:=[(0,.sl 0 []),(3,.i .i64),(4,.i .i64)],lo:=[],ro:=[(0,.entry,false)] })]
theorem zOa (N:Nat)(a0:List Entry):evalFn (cQ zGq zV zK zO) zLQ N 12 152 [.one (.s .entry a0)]=zsB N a0:=by kernel_rfl
theorem zKV (a0:List Entry)(hb:zG big [.one (.s .entry a0)])(hc:(zne a0)=true):∃N,zsB N a0=some [.one (.b (znd a0))]:=by
 have hl:=((zbu hb).1 _ (List.mem_singleton.2 rfl)).len;refine ⟨NN,?_⟩;have hNN:∀{n:Nat},n<=big->n<NN:=fun h=>zb8 h;generalize NN=N at hNN ⊢;unfold zsB;refine (zbF a0 (fun i (t:Unit)=>((i:Int),a0,())) _ (fun i (x:Entry) (_:Unit) κ=>bif alone a0 i x then κ () else some [AV.one (.b false)]) (fun (t:Unit)=>(some [(.one (.b (ile (ln a0) 6)))])) (fun i hi t rec=>?_) (fun t rec=>?_) _ () (hNN hl)).trans ?_
 ·simp only [zbv hi,zbg hi,zbq hi,zbf hi hl,cT];refine (zzN i (fun (j:Nat) (_:Unit)=>((i:Int),((j:Int),(a0,())))) _ (fun j (_:Unit) κ=>bif !sameKey a0[i] (ix a0 (j:Int) zbz) then κ () else some [AV.one (.b false)]) (fun _=>rec (((i+1:Nat):Int),(a0,()))) (fun j hj u rec1=>?_) (fun u rec1=>?_) _ () (hNN (by omega))).trans ?_
  ·have hj2:j<a0.length:=by omega
   simp only [show ilt (j:Int) (i:Int)=true from decide_eq_true (by omega),zbg hi,zbg hj2,zbq hi,zbf hj2 hl,cT]
   unfold sameKey;cases ieq a0[i].Tag (ix a0 (j:Int) zbz).Tag<;>cases ieq a0[i].Page (ix a0 (j:Int) zbz).Page<;>rfl
  ·simp only [show ilt (i:Int) (i:Int)=false from decide_eq_false (by omega),zbf hi hl,cF]
  rw [zCw (fun j=>!sameKey a0[i] (ix a0 (j:Int) zbz)),zLU (fun y=>!sameKey a0[i] y) a0 _ i 0 (by omega)]
  rfl
 ·simp only [zbj,cF]
 rw [zEG (alone a0)];unfold znd zCf;cases allI (alone a0) a0 0<;>rfl
theorem zFe:Holds Tryz.prog 152 zoj:=zo zzd zD zu zy (zC (by kernel_rfl)) fun avs rs hb h=>by
 unfold zoj at h;split at h
 ·obtain ⟨hc,rfl⟩:=zl h;exact (fin1 zKV zOa hc hb :)
 ·cases h
def zOK:zbQ:=[(22,zn3),(152,zoj),(119,znU)]++zGq
theorem zEz:zbw zOK:=zn zEV (zn zFe (zn zEM zzd))
theorem zKl (a b:Int):igt a b = !ile a b:=by
 unfold igt ile
 by_cases h:a<=b
 ·rw [decide_eq_true h,decide_eq_false (by omega)];rfl
 ·rw [decide_eq_false h,decide_eq_true (by omega)];rfl
theorem stB {c M:Bool}{E:Option Ans}(h:c=true->E=some [AV.one (.b M)]):(cond (cond c false true) (some [AV.one (.b false)]) E)=some [AV.one (.b (cond c M false))]:=by
 cases c
 ·rfl
 ·exact h rfl
theorem stI {a b:Int}{M:Bool}{E:Option Ans}(h:ieq a b=true->E=some [AV.one (.b M)]):(cond (ine a b) (some [AV.one (.b false)]) E)=some [AV.one (.b (cond (ieq a b) M false))]:=by
 rw [zjW];cases hh:ieq a b
 ·rfl
 ·exact h hh
theorem stG {a b:Int}{M:Bool}{E:Option Ans}(h:ile a b=true->E=some [AV.one (.b M)]):(cond (igt a b) (some [AV.one (.b false)]) E)=some [AV.one (.b (cond (ile a b) M false))]:=by
 rw [zKl];cases hh:ile a b
 ·rfl
 ·exact h hh
def zCJ (s:Slot)(p:List Int):Bool:=bif zec s noSlot then zc5 p else (cond (enough s.Rights 1) (ile (ln p) 0) false)
def fits (m:Mon)(j:Nat):Bool:=zCJ (ix m.Outer (j:Int) zQ) (ix m.Out (j:Int) [])
def zeg (m:Mon):Bool:=bif win (ln m.Guests) 1 2 then (cond (ieq (ln m.Tables) (ln m.Guests)) (cond (zdK m.Outer 8 12) (cond (ieq (ln m.Out) 8) (cond (ieq (ln m.Dirty) 8) (cond (ile (ln m.Outs) 40) (cond (zgz m.Pending) (cond (win m.Traps 0 3) (cond (win m.Own 0 1000000000) (cond (m.Guests.all zdG) (zsH (fits m) 8 0) false) false) false) false) false) false) false) false) false) else false
theorem zvG {t:List Slot}{n p:Int}(h:zdK t n p=true):ln t=n:=by
 unfold zdK at h;cases h1:t.all (fun s=>zeT s p)
 ·rw [h1] at h;cases h
 ·rw [h1] at h;exact of_decide_eq_true h
@[simp,reducible] def zpj (m:Mon):Bool:=true
@[simp,reducible] def zrY (m:Mon):Bool:=zeg m
def zwQ:List AV->Option (Bool×List AV)
 | [.agg [.s .slot c,.s (.sl .int) d,.s .bool e,.s .guest f,.s .int g,.i .i64 h,.i .i64 j,.s .kept k,.i .i64 l]]=>some ((zpj (⟨c,d,e,f,g,h,j,k,l⟩:Mon)),[.one (.b (zrY (⟨c,d,e,f,g,h,j,k,l⟩:Mon)))])
 | _=>none
def zAT (N:Nat)(a0:Mon):Option Ans :=
 (cond (zbm (ln a0.Guests) 1 2) (cond (cond (zby (ln a0.Guests) 1 2) false true) (some [(.one (.b false))]) (cond (ine (ln a0.Tables) (ln a0.Guests)) (some [(.one (.b false))]) (cond (zkA a0.Outer 8 12) (cond (cond (zg1 a0.Outer 8 12) false true) (some [(.one (.b false))]) (cond (ine (ln a0.Out) 8) (some [(.one (.b false))]) (cond (ine (ln a0.Dirty) 8) (some [(.one (.b false))]) (cond (igt (ln a0.Outs) 40) (some [(.one (.b false))]) (cond (zh1 a0.Pending) (cond (cond (zh0 a0.Pending) false true) (some [(.one (.b false))]) (cond (zbm a0.Traps 0 3) (cond (cond (zby a0.Traps 0 3) false true) (some [(.one (.b false))]) (cond (zbm a0.Own 0 1000000000) (cond (cond (zby a0.Own 0 1000000000) false true) (some [(.one (.b false))]) (iter (σ:=(Int×(Int×(Int×(Int×(Int×((List Guest)×((List Slot)×((List (List Int))×((List Bool)×((List Int)×((List Kept)×Unit)))))))))))) N (fun r2 s3=>(cond (ilt s3.2.1 s3.1) (cond (inb s3.2.1 (ln s3.2.2.2.2.2.1)) (cond (zkz (ix s3.2.2.2.2.2.1 s3.2.1 zi)) (cond (cond (zjh (ix s3.2.2.2.2.2.1 s3.2.1 zi)) false true) (some [(.one (.b false))]) (r2 (s3.1,((zq .i64 s3.2.1 1),(s3.2.2.1,(s3.2.2.2.1,(s3.2.2.2.2.1,(s3.2.2.2.2.2.1,(s3.2.2.2.2.2.2.1,(s3.2.2.2.2.2.2.2.1,(s3.2.2.2.2.2.2.2.2.1,(s3.2.2.2.2.2.2.2.2.2.1,(s3.2.2.2.2.2.2.2.2.2.2.1,()))))))))))))) none) none) (iter (σ:=(Int×(Int×(Int×(Int×(Int×((List Slot)×((List (List Int))×((List Bool)×((List Guest)×((List Int)×((List Kept)×Unit)))))))))))) N (fun r4 s5=>(cond (ilt s5.2.1 s5.1) (cond (inb s5.2.1 (ln s5.2.2.2.2.2.1)) (cond zc4 (cond (cond (ieq (ix s5.2.2.2.2.2.1 s5.2.1 zQ).Page zcE.Page) (ieq (ix s5.2.2.2.2.2.1 s5.2.1 zQ).Rights zcE.Rights) false) (cond (inb s5.2.1 (ln s5.2.2.2.2.2.2.1)) (cond (zg0 (ix s5.2.2.2.2.2.2.1 s5.2.1 [])) (cond (cond (zfM (ix s5.2.2.2.2.2.2.1 s5.2.1 [])) false true) (some [(.one (.b false))]) (r4 (s5.1,((zq .i64 s5.2.1 1),(s5.2.2.1,(s5.2.2.2.1,(s5.2.2.2.2.1,(s5.2.2.2.2.2.1,(s5.2.2.2.2.2.2.1,(s5.2.2.2.2.2.2.2.1,(s5.2.2.2.2.2.2.2.2.1,(s5.2.2.2.2.2.2.2.2.2.1,(s5.2.2.2.2.2.2.2.2.2.2.1,()))))))))))))) none) none) (cond (zdg (ix s5.2.2.2.2.2.1 s5.2.1 zQ).Rights 1) (cond (cond (zdL (ix s5.2.2.2.2.2.1 s5.2.1 zQ).Rights 1) false true) (some [(.one (.b false))]) (cond (inb s5.2.1 (ln s5.2.2.2.2.2.2.1)) (cond (igt (ln (ix s5.2.2.2.2.2.2.1 s5.2.1 [])) 0) (some [(.one (.b false))]) (r4 (s5.1,((zq .i64 s5.2.1 1),(s5.2.2.1,(s5.2.2.2.1,(s5.2.2.2.2.1,(s5.2.2.2.2.2.1,(s5.2.2.2.2.2.2.1,(s5.2.2.2.2.2.2.2.1,(s5.2.2.2.2.2.2.2.2.1,(s5.2.2.2.2.2.2.2.2.2.1,(s5.2.2.2.2.2.2.2.2.2.2.1,()))))))))))))) none)) none)) none) none) (some [(.one (.b true))]))) ((ln s3.2.2.2.2.2.2.1),(0,(s3.2.2.1,(s3.2.2.2.1,(s3.2.2.2.2.1,(s3.2.2.2.2.2.2.1,(s3.2.2.2.2.2.2.2.1,(s3.2.2.2.2.2.2.2.2.1,(s3.2.2.2.2.2.1,(s3.2.2.2.2.2.2.2.2.2.1,(s3.2.2.2.2.2.2.2.2.2.2.1,())))))))))))))) ((ln a0.Guests),(0,(a0.Pending,(a0.Traps,(a0.Own,(a0.Guests,(a0.Outer,(a0.Out,(a0.Dirty,(a0.Outs,(a0.Tables,()))))))))))))) none)) none)) none))))) none))) none)
def zUH:FuncId->Nat->Option Tmpl:=zB [(120,0,{ n:=106,tm:=[(1,.lp 0 0),(64,.sl 0 []),(65,.i .i64),(66,.i .i64)],lo:=[(0,[.sl 1 [],.sl 2 [],.sl 3 [],.sl 0 [],.sl 4 [],.i .i64,.i .i64,.sl 5 [],.i .i64])],ro:=[(0,.guest,false),(1,.slot,false),(2,(.sl .int),false),(3,.bool,false),(4,.int,false),(5,.kept,false)] }),(120,2,{ n:=106,tm:=[(1,.lp 0 0),(75,.sl 0 []),(76,.i .i64),(77,.i .i64)],lo:=[(0,[.sl 0 [],.sl 1 [],.sl 2 [],.sl 3 [],.sl 4 [],.i .i64,.i .i64,.sl 5 [],.i .i64])],ro:=[(0,.slot,false),(1,(.sl .int),false),(2,.bool,false),(3,.guest,false),(4,.int,false),(5,.kept,false)] })]
theorem zWQ (N:Nat)(a0:Mon):evalFn (cQ zOK zV zK zO) zUH N 12 120 [.agg (Ty.cells .mon a0)]=zAT N a0:=by kernel_rfl
theorem zS3 (a0:Mon)(hb:zG big [.agg (Ty.cells .mon a0)])(hc:(zpj a0)=true):∃N,zAT N a0=some [.one (.b (zrY a0))]:=by
 have hg:a0.Guests.length<=big:=((zbu hb).1 (.s .guest a0.Guests) (by simp [AV.cvs,Ty.cells])).len
 have ho:a0.Outer.length<=big:=((zbu hb).1 (.s .slot a0.Outer) (by simp [AV.cvs,Ty.cells])).len
 refine ⟨NN,?_⟩;have hNN:∀{n:Nat},n<=big->n<NN:=fun h=>zb8 h;generalize NN=N at hNN ⊢;unfold zAT zrY zeg;refine must rfl (stB fun h0=>stI fun h1=>must rfl (stB fun h2=>stI fun h3=>stI fun h4=>stG fun h5=>must rfl (stB fun h6=>must rfl (stB fun h7=>must rfl (stB fun h8=>?_)))));have e1:=zvG h2;have e3:ln a0.Out=8:=of_decide_eq_true h3;simp only [ln] at e1 e3;refine (zbF a0.Guests (fun i (t:Unit)=>((ln a0.Guests),(i:Int),a0.Pending,a0.Traps,a0.Own,a0.Guests,a0.Outer,a0.Out,a0.Dirty,a0.Outs,a0.Tables,())) _ (fun _ (x:Guest) (_:Unit) κ=>bif zdG x then κ () else some [AV.one (.b false)]) (fun (t:Unit)=>(iter (σ:=(Int×(Int×(Int×(Int×(Int×((List Slot)×((List (List Int))×((List Bool)×((List Guest)×((List Int)×((List Kept)×Unit)))))))))))) N (fun r4 s5=>(cond (ilt s5.2.1 s5.1) (cond (inb s5.2.1 (ln s5.2.2.2.2.2.1)) (cond zc4 (cond (cond (ieq (ix s5.2.2.2.2.2.1 s5.2.1 zQ).Page zcE.Page) (ieq (ix s5.2.2.2.2.2.1 s5.2.1 zQ).Rights zcE.Rights) false) (cond (inb s5.2.1 (ln s5.2.2.2.2.2.2.1)) (cond (zg0 (ix s5.2.2.2.2.2.2.1 s5.2.1 [])) (cond (cond (zfM (ix s5.2.2.2.2.2.2.1 s5.2.1 [])) false true) (some [(.one (.b false))]) (r4 (s5.1,((zq .i64 s5.2.1 1),(s5.2.2.1,(s5.2.2.2.1,(s5.2.2.2.2.1,(s5.2.2.2.2.2.1,(s5.2.2.2.2.2.2.1,(s5.2.2.2.2.2.2.2.1,(s5.2.2.2.2.2.2.2.2.1,(s5.2.2.2.2.2.2.2.2.2.1,(s5.2.2.2.2.2.2.2.2.2.2.1,()))))))))))))) none) none) (cond (zdg (ix s5.2.2.2.2.2.1 s5.2.1 zQ).Rights 1) (cond (cond (zdL (ix s5.2.2.2.2.2.1 s5.2.1 zQ).Rights 1) false true) (some [(.one (.b false))]) (cond (inb s5.2.1 (ln s5.2.2.2.2.2.2.1)) (cond (igt (ln (ix s5.2.2.2.2.2.2.1 s5.2.1 [])) 0) (some [(.one (.b false))]) (r4 (s5.1,((zq .i64 s5.2.1 1),(s5.2.2.1,(s5.2.2.2.1,(s5.2.2.2.2.1,(s5.2.2.2.2.2.1,(s5.2.2.2.2.2.2.1,(s5.2.2.2.2.2.2.2.1,(s5.2.2.2.2.2.2.2.2.1,(s5.2.2.2.2.2.2.2.2.2.1,(s5.2.2.2.2.2.2.2.2.2.2.1,()))))))))))))) none)) none)) none) none) (some [(.one (.b true))]))) ((ln a0.Outer),(0,(a0.Pending,(a0.Traps,(a0.Own,(a0.Outer,(a0.Out,(a0.Dirty,(a0.Guests,(a0.Outs,(a0.Tables,()))))))))))))) (fun i hi t rec=>?_) (fun t rec=>?_) _ () (hNN hg)).trans ?_
 ·simp only [zbv hi,zbg hi,zbq hi,zbf hi hg,cT];simp only [zkz,zjh,cT];cases zdG a0.Guests[i]<;>rfl
 ·simp only [zbj,cF]
 rw [zgm zdG];cases a0.Guests.all zdG
 ·rfl
 simp only [cT];refine (zbF a0.Outer (fun j (u:Unit)=>((ln a0.Outer),(j:Int),a0.Pending,a0.Traps,a0.Own,a0.Outer,a0.Out,a0.Dirty,a0.Guests,a0.Outs,a0.Tables,())) _ (fun j (_:Slot) (_:Unit) κ=>bif fits a0 j then κ () else some [AV.one (.b false)]) (fun (u:Unit)=>(some [(.one (.b true))])) (fun j hj u rec1=>?_) (fun u rec1=>?_) _ () (hNN ho)).trans ?_
 ·simp only [zbv hj,zbg hj,zbq hj,zbf hj ho,cT];have hj2:j<a0.Out.length:=by omega
  simp only [zc4,zcE,zg0,zfM,zdg,zdL,zbg hj2,zKl,cT];unfold fits zCJ;simp only [zbq hj,zec];cases ieq a0.Outer[j].Page noSlot.Page<;>cases ieq a0.Outer[j].Rights noSlot.Rights<;>cases enough a0.Outer[j].Rights 1<;>cases ile (ln (ix a0.Out (j:Int) [])) 0<;>cases zc5 (ix a0.Out (j:Int) [])<;>rfl
 ·simp only [zbj,cF]
 rw [zxs (fun j (_:Unit) κ=>bif fits a0 j then κ () else some [AV.one (.b false)]),zCw (fits a0),show a0.Outer.length=8 by omega]
 cases zsH (fits a0) 8 0<;>rfl
theorem zMw:Holds Tryz.prog 120 zwQ:=zo zEz zD zu zy (zC (by kernel_rfl)) fun avs rs hb h=>by
 unfold zwQ at h;split at h
 ·obtain ⟨hc,rfl⟩:=zl h;exact (fin1 zS3 zWQ hc hb :)
 ·cases h
@[simp,reducible] def zpr (m:Mon):Bool:=true
@[simp,reducible] def zr2 (m:Mon):Bool:=zeg m
def zw4:List AV->Option (Bool×List AV)
 | [.agg [.s .slot c,.s (.sl .int) d,.s .bool e,.s .guest f,.s .int g,.i .i64 h,.i .i64 j,.s .kept k,.i .i64 l]]=>some ((zpr (⟨c,d,e,f,g,h,j,k,l⟩:Mon)),[.one (.b (zr2 (⟨c,d,e,f,g,h,j,k,l⟩:Mon)))])
 | _=>none
def zA7 (N:Nat)(a0:Mon):Option Ans :=
 (cond (zZ (ln a0.Guests) 1 2) (cond (cond (zbe (ln a0.Guests) 1 2) false true) (some [(.one (.b false))]) (cond (ine (ln a0.Tables) (ln a0.Guests)) (some [(.one (.b false))]) (cond (zkG a0.Outer 8 12) (cond (cond (zhd a0.Outer 8 12) false true) (some [(.one (.b false))]) (cond (ine (ln a0.Out) 8) (some [(.one (.b false))]) (cond (ine (ln a0.Dirty) 8) (some [(.one (.b false))]) (iter (σ:=(Int×(Int×(Int×(Int×((List Slot)×((List (List Int))×((List Bool)×((List Guest)×((List Int)×((List Kept)×Unit))))))))))) N (fun r2 s3=>(cond (ilt s3.1 (ln s3.2.2.2.2.2.2.2.1)) (cond (inb s3.1 (ln s3.2.2.2.2.2.2.2.1)) (cond (zo5 (ix s3.2.2.2.2.2.2.2.1 s3.1 zi)) (cond (cond (zlG (ix s3.2.2.2.2.2.2.2.1 s3.1 zi)) false true) (some [(.one (.b false))]) (r2 ((zq .i64 s3.1 1),(s3.2.1,(s3.2.2.1,(s3.2.2.2.1,(s3.2.2.2.2.1,(s3.2.2.2.2.2.1,(s3.2.2.2.2.2.2.1,(s3.2.2.2.2.2.2.2.1,(s3.2.2.2.2.2.2.2.2.1,(s3.2.2.2.2.2.2.2.2.2.1,())))))))))))) none) none) (iter (σ:=(Int×(Int×(Int×(Int×((List Slot)×((List (List Int))×((List Bool)×((List Guest)×((List Int)×((List Kept)×Unit))))))))))) N (fun r4 s5=>(cond (ilt s5.1 8) (cond (inb s5.1 (ln s5.2.2.2.2.1)) (cond zc6 (cond (cond (cond (ieq (ix s5.2.2.2.2.1 s5.1 zQ).Page zb0.Page) (ieq (ix s5.2.2.2.2.1 s5.1 zQ).Rights zb0.Rights) false) false true) (cond (inb s5.1 (ln s5.2.2.2.2.2.1)) (cond (igt (ln (ix s5.2.2.2.2.2.1 s5.1 [])) 0) (some [(.one (.b false))]) (cond (inb s5.1 (ln s5.2.2.2.2.1)) (cond (zf6 (ix s5.2.2.2.2.1 s5.1 zQ).Rights 1) (cond (cond (zgC (ix s5.2.2.2.2.1 s5.1 zQ).Rights 1) false true) (some [(.one (.b false))]) (cond (cond (cond (cond (ieq (ix s5.2.2.2.2.1 s5.1 zQ).Page zb0.Page) (ieq (ix s5.2.2.2.2.1 s5.1 zQ).Rights zb0.Rights) false) false true) false true) (cond (inb s5.1 (ln s5.2.2.2.2.2.1)) (cond (zfn (ix s5.2.2.2.2.2.1 s5.1 [])) (cond (cond (zeR (ix s5.2.2.2.2.2.1 s5.1 [])) false true) (some [(.one (.b false))]) (r4 ((zq .i64 s5.1 1),(s5.2.1,(s5.2.2.1,(s5.2.2.2.1,(s5.2.2.2.2.1,(s5.2.2.2.2.2.1,(s5.2.2.2.2.2.2.1,(s5.2.2.2.2.2.2.2.1,(s5.2.2.2.2.2.2.2.2.1,(s5.2.2.2.2.2.2.2.2.2.1,())))))))))))) none) none) (r4 ((zq .i64 s5.1 1),(s5.2.1,(s5.2.2.1,(s5.2.2.2.1,(s5.2.2.2.2.1,(s5.2.2.2.2.2.1,(s5.2.2.2.2.2.2.1,(s5.2.2.2.2.2.2.2.1,(s5.2.2.2.2.2.2.2.2.1,(s5.2.2.2.2.2.2.2.2.2.1,()))))))))))))) none) none)) none) (cond (cond (cond (cond (ieq (ix s5.2.2.2.2.1 s5.1 zQ).Page zb0.Page) (ieq (ix s5.2.2.2.2.1 s5.1 zQ).Rights zb0.Rights) false) false true) false true) (cond (inb s5.1 (ln s5.2.2.2.2.2.1)) (cond (zfn (ix s5.2.2.2.2.2.1 s5.1 [])) (cond (cond (zeR (ix s5.2.2.2.2.2.1 s5.1 [])) false true) (some [(.one (.b false))]) (r4 ((zq .i64 s5.1 1),(s5.2.1,(s5.2.2.1,(s5.2.2.2.1,(s5.2.2.2.2.1,(s5.2.2.2.2.2.1,(s5.2.2.2.2.2.2.1,(s5.2.2.2.2.2.2.2.1,(s5.2.2.2.2.2.2.2.2.1,(s5.2.2.2.2.2.2.2.2.2.1,())))))))))))) none) none) (r4 ((zq .i64 s5.1 1),(s5.2.1,(s5.2.2.1,(s5.2.2.2.1,(s5.2.2.2.2.1,(s5.2.2.2.2.2.1,(s5.2.2.2.2.2.2.1,(s5.2.2.2.2.2.2.2.1,(s5.2.2.2.2.2.2.2.2.1,(s5.2.2.2.2.2.2.2.2.2.1,()))))))))))))) none) none) (cond (ile (ln s5.2.2.2.2.2.2.2.2.1) 40) (cond (zhc s5.2.1) (cond (zgD s5.2.1) (cond (zZ s5.2.2.1 0 3) (cond (zbe s5.2.2.1 0 3) (cond (zZ s5.2.2.2.1 0 1000000000) (some [(.one (.b (zbe s5.2.2.2.1 0 1000000000)))]) none) (some [(.one (.b false))])) none) (some [(.one (.b false))])) none) (some [(.one (.b false))])))) (0,(s3.2.1,(s3.2.2.1,(s3.2.2.2.1,(s3.2.2.2.2.1,(s3.2.2.2.2.2.1,(s3.2.2.2.2.2.2.1,(s3.2.2.2.2.2.2.2.1,(s3.2.2.2.2.2.2.2.2.1,(s3.2.2.2.2.2.2.2.2.2.1,()))))))))))))) (0,(a0.Pending,(a0.Traps,(a0.Own,(a0.Outer,(a0.Out,(a0.Dirty,(a0.Guests,(a0.Outs,(a0.Tables,())))))))))))))) none))) none)
def zUJ:FuncId->Nat->Option Tmpl:=zB [(153,0,{ n:=115,tm:=[(1,.lp 0 0),(3,.i .i64)],lo:=[(0,[.sl 0 [],.sl 1 [],.sl 2 [],.sl 3 [],.sl 4 [],.i .i64,.i .i64,.sl 5 [],.i .i64])],ro:=[(0,.slot,false),(1,(.sl .int),false),(2,.bool,false),(3,.guest,false),(4,.int,false),(5,.kept,false)] }),(153,2,{ n:=115,tm:=[(1,.lp 0 0),(4,.i .i64)],lo:=[(0,[.sl 0 [],.sl 1 [],.sl 2 [],.sl 3 [],.sl 4 [],.i .i64,.i .i64,.sl 5 [],.i .i64])],ro:=[(0,.slot,false),(1,(.sl .int),false),(2,.bool,false),(3,.guest,false),(4,.int,false),(5,.kept,false)] })]
theorem zW5 (N:Nat)(a0:Mon):evalFn (cQ zOK zV zK zO) zUJ N 12 153 [.agg (Ty.cells .mon a0)]=zA7 N a0:=by kernel_rfl
theorem zTi (a0:Mon)(hb:zG big [.agg (Ty.cells .mon a0)])(hc:(zpr a0)=true):∃N,zA7 N a0=some [.one (.b (zr2 a0))]:=by
 have hg:a0.Guests.length<=big:=((zbu hb).1 (.s .guest a0.Guests) (by simp [AV.cvs,Ty.cells])).len
 refine ⟨NN,?_⟩;have hNN:∀{n:Nat},n<=big->n<NN:=fun h=>zb8 h;generalize NN=N at hNN ⊢;unfold zA7 zr2 zeg;refine must rfl (stB fun h0=>stI fun h1=>must rfl (stB fun h2=>stI fun h3=>stI fun h4=>?_));have e1:=zvG h2;have e3:ln a0.Out=8:=of_decide_eq_true h3;simp only [ln] at e1 e3;refine (zbF a0.Guests (fun i (t:Unit)=>((i:Int),a0.Pending,a0.Traps,a0.Own,a0.Outer,a0.Out,a0.Dirty,a0.Guests,a0.Outs,a0.Tables,())) _ (fun _ (x:Guest) (_:Unit) κ=>bif zdG x then κ () else some [AV.one (.b false)]) (fun (t:Unit)=>(iter (σ:=(Int×(Int×(Int×(Int×((List Slot)×((List (List Int))×((List Bool)×((List Guest)×((List Int)×((List Kept)×Unit))))))))))) N (fun r4 s5=>(cond (ilt s5.1 8) (cond (inb s5.1 (ln s5.2.2.2.2.1)) (cond zc6 (cond (cond (cond (ieq (ix s5.2.2.2.2.1 s5.1 zQ).Page zb0.Page) (ieq (ix s5.2.2.2.2.1 s5.1 zQ).Rights zb0.Rights) false) false true) (cond (inb s5.1 (ln s5.2.2.2.2.2.1)) (cond (igt (ln (ix s5.2.2.2.2.2.1 s5.1 [])) 0) (some [(.one (.b false))]) (cond (inb s5.1 (ln s5.2.2.2.2.1)) (cond (zf6 (ix s5.2.2.2.2.1 s5.1 zQ).Rights 1) (cond (cond (zgC (ix s5.2.2.2.2.1 s5.1 zQ).Rights 1) false true) (some [(.one (.b false))]) (cond (cond (cond (cond (ieq (ix s5.2.2.2.2.1 s5.1 zQ).Page zb0.Page) (ieq (ix s5.2.2.2.2.1 s5.1 zQ).Rights zb0.Rights) false) false true) false true) (cond (inb s5.1 (ln s5.2.2.2.2.2.1)) (cond (zfn (ix s5.2.2.2.2.2.1 s5.1 [])) (cond (cond (zeR (ix s5.2.2.2.2.2.1 s5.1 [])) false true) (some [(.one (.b false))]) (r4 ((zq .i64 s5.1 1),(s5.2.1,(s5.2.2.1,(s5.2.2.2.1,(s5.2.2.2.2.1,(s5.2.2.2.2.2.1,(s5.2.2.2.2.2.2.1,(s5.2.2.2.2.2.2.2.1,(s5.2.2.2.2.2.2.2.2.1,(s5.2.2.2.2.2.2.2.2.2.1,())))))))))))) none) none) (r4 ((zq .i64 s5.1 1),(s5.2.1,(s5.2.2.1,(s5.2.2.2.1,(s5.2.2.2.2.1,(s5.2.2.2.2.2.1,(s5.2.2.2.2.2.2.1,(s5.2.2.2.2.2.2.2.1,(s5.2.2.2.2.2.2.2.2.1,(s5.2.2.2.2.2.2.2.2.2.1,()))))))))))))) none) none)) none) (cond (cond (cond (cond (ieq (ix s5.2.2.2.2.1 s5.1 zQ).Page zb0.Page) (ieq (ix s5.2.2.2.2.1 s5.1 zQ).Rights zb0.Rights) false) false true) false true) (cond (inb s5.1 (ln s5.2.2.2.2.2.1)) (cond (zfn (ix s5.2.2.2.2.2.1 s5.1 [])) (cond (cond (zeR (ix s5.2.2.2.2.2.1 s5.1 [])) false true) (some [(.one (.b false))]) (r4 ((zq .i64 s5.1 1),(s5.2.1,(s5.2.2.1,(s5.2.2.2.1,(s5.2.2.2.2.1,(s5.2.2.2.2.2.1,(s5.2.2.2.2.2.2.1,(s5.2.2.2.2.2.2.2.1,(s5.2.2.2.2.2.2.2.2.1,(s5.2.2.2.2.2.2.2.2.2.1,())))))))))))) none) none) (r4 ((zq .i64 s5.1 1),(s5.2.1,(s5.2.2.1,(s5.2.2.2.1,(s5.2.2.2.2.1,(s5.2.2.2.2.2.1,(s5.2.2.2.2.2.2.1,(s5.2.2.2.2.2.2.2.1,(s5.2.2.2.2.2.2.2.2.1,(s5.2.2.2.2.2.2.2.2.2.1,()))))))))))))) none) none) (cond (ile (ln s5.2.2.2.2.2.2.2.2.1) 40) (cond (zhc s5.2.1) (cond (zgD s5.2.1) (cond (zZ s5.2.2.1 0 3) (cond (zbe s5.2.2.1 0 3) (cond (zZ s5.2.2.2.1 0 1000000000) (some [(.one (.b (zbe s5.2.2.2.1 0 1000000000)))]) none) (some [(.one (.b false))])) none) (some [(.one (.b false))])) none) (some [(.one (.b false))])))) (0,(a0.Pending,(a0.Traps,(a0.Own,(a0.Outer,(a0.Out,(a0.Dirty,(a0.Guests,(a0.Outs,(a0.Tables,())))))))))))) (fun i hi t rec=>?_) (fun t rec=>?_) _ () (hNN hg)).trans ?_
 ·simp only [zbv hi,zbg hi,zbq hi,zbf hi hg,cT];simp only [zo5,zlG,cT];cases zdG a0.Guests[i]<;>rfl
 ·simp only [zbj,cF]
 rw [zgm zdG];cases hq:a0.Guests.all zdG
 ·simp only [cF];cases ile (ln a0.Outs) 40<;>cases zgz a0.Pending<;>cases win a0.Traps 0 3<;>cases win a0.Own 0 1000000000<;>rfl
 simp only [cT];refine (zzN 8 (fun j (u:Unit)=>((j:Int),a0.Pending,a0.Traps,a0.Own,a0.Outer,a0.Out,a0.Dirty,a0.Guests,a0.Outs,a0.Tables,())) _ (fun j (_:Unit) κ=>bif fits a0 j then κ () else some [AV.one (.b false)]) (fun (u:Unit)=>(cond (ile (ln a0.Outs) 40) (cond (zhc a0.Pending) (cond (zgD a0.Pending) (cond (zZ a0.Traps 0 3) (cond (zbe a0.Traps 0 3) (cond (zZ a0.Own 0 1000000000) (some [(.one (.b (zbe a0.Own 0 1000000000)))]) none) (some [(.one (.b false))])) none) (some [(.one (.b false))])) none) (some [(.one (.b false))]))) (fun j hj u rec1=>?_) (fun u rec1=>?_) _ () (hNN (by decide))).trans ?_
 ·simp only [show ilt (j:Int) 8=true from decide_eq_true (by omega),zbf hj (show 8<=big by decide),cT]
  have hj1:j<a0.Outer.length:=by omega
  have hj2:j<a0.Out.length:=by omega
  simp only [zc6,zb0,zfn,zeR,zf6,zgC,zbg hj1,zbg hj2,zKl,cT];unfold fits zCJ;simp only [zbq hj1,zec];cases ieq a0.Outer[j].Page noSlot.Page<;>cases ieq a0.Outer[j].Rights noSlot.Rights<;>cases enough a0.Outer[j].Rights 1<;>cases ile (ln (ix a0.Out (j:Int) [])) 0<;>cases zc5 (ix a0.Out (j:Int) [])<;>rfl
 ·simp only [show ilt (((8:Nat)):Int) 8=false from decide_eq_false (by omega),cF]
  rfl
 rw [zCw (fits a0)];simp only [zhc,zgD,zZ,z0D,cT];cases zsH (fits a0) 8 0<;>cases ile (ln a0.Outs) 40<;>cases zgz a0.Pending<;>cases win a0.Traps 0 3<;>cases win a0.Own 0 1000000000<;>rfl
theorem zML:Holds Tryz.prog 153 zw4:=zo zEz zD zu zy (zC (by kernel_rfl)) fun avs rs hb h=>by
 unfold zw4 at h;split at h
 ·obtain ⟨hc,rfl⟩:=zl h;exact (fin1 zTi zW5 hc hb :)
 ·cases h
def zOL:zbQ:=[(153,zw4),(120,zwQ)]++zOK
theorem zEA:zbw zOL:=zn zML (zn zMw zEz)
def zhR:List Slot->List Bool->Option (List Bool)
 | [],u=>some u
 | s :: l,u=>bif ilt s.Page 0 then zhR l u else (cond (ix u s.Page false) none (zhR l (up u s.Page true)))
def zkw:List Mon->List Bool->Bool
 | [],_=>true
 | m :: l,u=>bif zeg m then (match zhR m.Outer u with|some u'=>zkw l u'|none=>false) else false
def zdm (h:Host):Bool:=bif zib h.Memory 12 then (cond (win (ln h.Mons) 1 3) (cond (zCf h.Buffer) (cond (zCf h.IoBuffer) (zkw h.Mons (rp 12 false)) false) false) false) else false
theorem znp:∀(l:List Slot) (u u':List Bool),zhR l u=some u'->u'.length=u.length
 | [],u,u',h=>by cases h;rfl
 | s :: l,u,u',h=>by
  simp only [zhR] at h;cases h1:ilt s.Page 0
  ·rw [h1] at h;cases h2:ix u s.Page false
   ·rw [h2] at h;simpa using znp l _ u' h
   ·rw [h2] at h;cases h
  ·rw [h1] at h;exact znp l u u' h
theorem zCN {t:List Slot}{n:Int}(h:zdK t n 12=true):∀s∈t,s.Page<12:=by
 intro s hs;unfold zdK at h;cases h1:t.all (fun s=>zeT s 12)
 ·rw [h1] at h;cases h
 ·have:=List.all_eq_true.1 h1 s hs;unfold zeT at this;cases h2:zec s noSlot
  ·rw [h2] at this;simp only [cF,show igt 12 0=true from rfl,cT] at this
   cases h3:win s.Page 0 (wsub .i64 12 1)
   ·rw [h3] at this;cases this
   ·have:=(zfT.1 h3).2;rw [show wsub .i64 12 1=11 from rfl] at this
    omega
  ·unfold zec at h2;rw [Bool.and_eq_true] at h2;have h2:s.Page = -1:=of_decide_eq_true h2.1;omega
theorem zSD {s:Slot}{u:List Bool}(h:s.Page<12)(hu:u.length=12)(h0:ilt s.Page 0=false):inb s.Page (ln u)=true:=by
 have:=of_decide_eq_false h0;exact decide_eq_true (by simp only [ln];omega)
def zsI {ρ:Type}(r:Option ρ)(y:Slot)(u:List Bool)(κ:List Bool->Option ρ):Option ρ:=bif ilt y.Page 0 then κ u else (cond (inb y.Page (ln u)) (cond (ix u y.Page false) r (cond (inb y.Page (ln u)) (share (up u y.Page true) (fun x6=>κ x6)) none)) none)
theorem zzr {ρ:Type}(r:Option ρ)(K:List Bool->Option ρ):∀(l:List Slot) (i:Nat) (u:List Bool),(∀s∈l,s.Page<12)->u.length=12 ->
 goL (fun _ y u κ=>zsI r y u κ) K l i u=match zhR l u with|some u'=>K u'|none=>r
 | [],_,_,_,_=>rfl
 | s :: l,i,u,h,hu=>by
  simp only [goL,zhR,zsI];cases h1:ilt s.Page 0
  ·have hh:=zSD (h s (by simp)) hu h1
   rw [hh];cases ix u s.Page false
   ·simp only [cF,cT,share];exact zzr r K l (i+1) _ (fun s hs=>h s (by simp [hs])) (by simpa using hu)
   ·rfl
  ·simp only [cT];exact zzr r K l (i+1) u (fun s hs=>h s (by simp [hs])) hu
def zVM {ρ:Type}(r:Option ρ)(m:Mon)(u:List Bool)(κ:List Bool->Option ρ):Option ρ:=bif zeg m then goL (fun _ y u κ=>zsI r y u κ) κ m.Outer 0 u else r
theorem zdk {c x:Bool}:((cond c x false)=true)↔c=true/\x=true:=by
 cases c<;>simp
theorem zkE {m:Mon}(h:zeg m=true):zdK m.Outer 8 12=true:=by
 unfold zeg at h;simp only [zdk] at h;exact h.2.2.1
theorem zPF {K:Bool->Option Ans}(k:List Bool->Option Ans)(hk:∀u,k u=K true):∀(l:List Mon) (i:Nat) (u:List Bool),u.length=12 ->
 goL (fun _ m u κ=>zVM (K false) m u κ) k l i u=K (zkw l u)
 | [],_,u,_=>hk u
 | m :: l,i,u,hu=>by
  simp only [goL,zkw,zVM];cases h1:zeg m
  ·rfl
  ·simp only [cT];have ht:=zkE h1;rw [zzr _ _ _ _ _ (zCN ht) hu];cases h2:zhR m.Outer u with
   | none=>rfl
   | some u'=>exact zPF k hk l (i+1) u' ((znp _ _ _ h2).trans hu)
@[simp,reducible] def zrn (h:Host):Bool:=true
@[simp,reducible] def zsZ (h:Host):Bool:=zdm h
def zts:List AV->Option (Bool×List AV)
 | [.agg [.s (.sl .int) c,.s .mon d,.s .entry e,.s .entry f]]=>some ((zrn (⟨c,d,e,f⟩:Host)),[.one (.b (zsZ (⟨c,d,e,f⟩:Host)))])
 | _=>none
def zx5 (N:Nat)(a0:Host):Option Ans :=
 (cond (zph a0.Memory 12) (cond (cond (zjT a0.Memory 12) false true) (some [(.one (.b false))]) (cond (zbm (ln a0.Mons) 1 3) (cond (cond (zby (ln a0.Mons) 1 3) false true) (some [(.one (.b false))]) (cond (zmd a0.Buffer) (cond (cond (zmc a0.Buffer) false true) (some [(.one (.b false))]) (cond (zmd a0.IoBuffer) (cond (cond (zmc a0.IoBuffer) false true) (some [(.one (.b false))]) (cond (cond (few 12) (ieq 12 12) false) (iter (σ:=(Int×(Int×((List Bool)×((List Mon)×Unit))))) N (fun r2 s3=>(cond (ilt s3.2.1 s3.1) (cond (inb s3.2.1 (ln s3.2.2.2.1)) (cond (zpj (ix s3.2.2.2.1 s3.2.1 zf)) (cond (cond (zrY (ix s3.2.2.2.1 s3.2.1 zf)) false true) (some [(.one (.b false))]) (iter (σ:=(Int×(Int×(Int×(Int×(Int×((List Bool)×((List Mon)×Unit)))))))) N (fun r4 s5=>(cond (ilt s5.2.2.2.2.1 s5.2.2.2.1) (cond (inb s5.2.2.2.2.1 (ln (ix s5.2.2.2.2.2.2.1 s5.2.2.1 zf).Outer)) (cond (ilt (ix (ix s5.2.2.2.2.2.2.1 s5.2.2.1 zf).Outer s5.2.2.2.2.1 zQ).Page 0) (r4 (s5.1,(s5.2.1,(s5.2.2.1,(s5.2.2.2.1,((zq .i64 s5.2.2.2.2.1 1),(s5.2.2.2.2.2.1,(s5.2.2.2.2.2.2.1,())))))))) (cond (inb (ix (ix s5.2.2.2.2.2.2.1 s5.2.2.1 zf).Outer s5.2.2.2.2.1 zQ).Page (ln s5.2.2.2.2.2.1)) (cond (ix s5.2.2.2.2.2.1 (ix (ix s5.2.2.2.2.2.2.1 s5.2.2.1 zf).Outer s5.2.2.2.2.1 zQ).Page false) (some [(.one (.b false))]) (cond (inb (ix (ix s5.2.2.2.2.2.2.1 s5.2.2.1 zf).Outer s5.2.2.2.2.1 zQ).Page (ln s5.2.2.2.2.2.1)) (share (up s5.2.2.2.2.2.1 (ix (ix s5.2.2.2.2.2.2.1 s5.2.2.1 zf).Outer s5.2.2.2.2.1 zQ).Page true) (fun x6=>(r4 (s5.1,(s5.2.1,(s5.2.2.1,(s5.2.2.2.1,((zq .i64 s5.2.2.2.2.1 1),(x6,(s5.2.2.2.2.2.2.1,())))))))))) none)) none)) none) (r2 (s5.1,((zq .i64 s5.2.1 1),(s5.2.2.2.2.2.1,(s5.2.2.2.2.2.2.1,()))))))) (s3.1,(s3.2.1,(s3.2.1,((ln (ix s3.2.2.2.1 s3.2.1 zf).Outer),(0,(s3.2.2.1,(s3.2.2.2.1,()))))))))) none) none) (some [(.one (.b true))]))) ((ln a0.Mons),(0,((rp 12 false),(a0.Mons,()))))) none)) none)) none)) none)) none)
def zSe:FuncId->Nat->Option Tmpl:=zB [(51,0,{ n:=63,tm:=[(3,.sl 0 []),(33,.sl 1 []),(34,.i .i64),(35,.i .i64)],lo:=[],ro:=[(0,.bool,true),(1,.mon,false)] }),(51,2,{ n:=63,tm:=[(3,.sl 0 []),(33,.sl 1 []),(34,.i .i64),(35,.i .i64),(43,.sl 1 [0]),(44,.i .i64),(45,.i .i64)],lo:=[],ro:=[(0,.bool,true),(1,.mon,false)] })]
theorem zTv (N:Nat)(a0:Host):evalFn (cQ zOL zV zK zO) zSe N 12 51 [.agg (zA a0)]=zx5 N a0:=by kernel_rfl
theorem zP0 (a0:Host)(hb:zG big [.agg (zA a0)])(hc:(zrn a0)=true):∃N,zx5 N a0=some [.one (.b (zsZ a0))]:=by
 have hm:CVB big (.s .mon a0.Mons):=(zbu hb).1 _ (by simp [AV.cvs,zA])
 have hl:=hm.len;refine ⟨NN,?_⟩;have hNN:∀{n:Nat},n<=big->n<NN:=fun h=>zb8 h;generalize NN=N at hNN ⊢;unfold zx5 zsZ zdm;refine must rfl (stB fun h0=>must rfl (stB fun h1=>must rfl (stB fun h2=>must rfl (stB fun h3=>must rfl ?_))));refine (zbF a0.Mons (fun i (t:(List Bool))=>((ln a0.Mons),(i:Int),t,a0.Mons,())) _ (fun _ (x:Mon) (u:List Bool) κ=>zVM (some [AV.one (.b false)]) x u κ) (fun (t:(List Bool))=>(some [(.one (.b true))])) (fun i hi t rec=>?_) (fun t rec=>?_) _ ((rp 12 false)) (hNN hl)).trans ?_
 ·simp only [zbv hi,zbg hi,zbq hi,zbf hi hl,cT];unfold zVM;cases h4:zeg a0.Mons[i]
  ·simp only [zpj,zrY,h4,cT,cF]
  simp only [zpj,zrY,h4,cT,cF];have ho:a0.Mons[i].Outer.length<=big:=(hm.inv.2 _ (List.getElem_mem hi) (.s .slot _) (by simp [Ty.cells])).len
  refine (zbF a0.Mons[i].Outer (fun j (u:(List Bool))=>((ln a0.Mons),(i:Int),(i:Int),(ln a0.Mons[i].Outer),(j:Int),u,a0.Mons,())) _ (fun _ (y:Slot) (u:List Bool) κ=>zsI (some [AV.one (.b false)]) y u κ) (fun (u:(List Bool))=>(rec ((ln a0.Mons),((((i+1:Nat)):Int),(u,(a0.Mons,())))))) (fun j hj u rec1=>?_) (fun u rec1=>?_) _ (t) (hNN ho)).trans ?_
  ·simp only [zbv hj,zbg hj,zbq hj,zbf hj ho,cT,zbg hi,zbq hi,zbf hi hl];rfl
  ·simp only [zbj,cF,zbg hi,zbq hi,zbf hi hl]
  rfl
 ·simp only [zbj,cF]
 exact zPF (K:=fun b=>some [AV.one (.b b)]) _ (fun _=>rfl) _ _ _ rfl
theorem zJk:Holds Tryz.prog 51 zts:=zo zEA zD zu zy (zC (by kernel_rfl)) fun avs rs hb h=>by
 unfold zts at h;split at h
 ·obtain ⟨hc,rfl⟩:=zl h;exact (fin1 zP0 zTv hc hb :)
 ·cases h
@[simp,reducible] def zrO (h:Host):Bool:=true
@[simp,reducible] def zov (h:Host):Bool:=zdm h
theorem zEI {ρ:Type}(r:Option ρ)(k:List Bool->Option ρ)(m:Mon):∀(n i:Nat) (u:List Bool),(∀s∈m.Outer,s.Page<12)->u.length=12->i+n=m.Outer.length ->
 goN (fun j u κ=>bif inb (j:Int) (ln m.Outer) then zsI r (ix m.Outer (j:Int) zQ) u κ else none) k n i u=goL (fun _ y u κ=>zsI r y u κ) k (m.Outer.drop i) i u
 | 0,i,u,_,_,h=>by
  have:i=m.Outer.length:=by omega
  subst this;simp [goN,goL]
 | n+1,i,u,hs,hu,h=>by
  have hi:i<m.Outer.length:=by omega
  rw [List.drop_eq_getElem_cons hi];simp only [goN,goL,zbg hi,zbq hi,cT,zsI];cases h1:ilt m.Outer[i].Page 0
  ·rw [zSD (hs _ (List.getElem_mem hi)) hu h1];cases ix u m.Outer[i].Page false
   ·simp only [cF,cT,share];exact zEI r k m n (i+1) _ hs (by simpa using hu) (by omega)
   ·rfl
  ·simp only [cT];exact zEI r k m n (i+1) u hs hu (by omega)
def zuf:List AV->Option (Bool×List AV)
 | [.agg [.s (.sl .int) c,.s .mon d,.s .entry e,.s .entry f]]=>some ((zrO (⟨c,d,e,f⟩:Host)),[.one (.b (zov (⟨c,d,e,f⟩:Host)))])
 | _=>none
def zyM (N:Nat)(a0:Host):Option Ans :=
 (cond (zB2 a0.Memory 12) (cond (cond (zow a0.Memory 12) false true) (some [(.one (.b false))]) (cond (zZ (ln a0.Mons) 1 3) (cond (cond (zbe (ln a0.Mons) 1 3) false true) (some [(.one (.b false))]) (cond (zne a0.Buffer) (cond (cond (znd a0.Buffer) false true) (some [(.one (.b false))]) (cond (zne a0.IoBuffer) (cond (cond (znd a0.IoBuffer) false true) (some [(.one (.b false))]) (cond (cond (few 12) (ieq 12 12) false) (iter (σ:=(Int×((List Bool)×((List (List Int))×((List Mon)×((List Entry)×((List Entry)×Unit))))))) N (fun r2 s3=>(cond (ilt s3.1 (ln s3.2.2.2.1)) (cond (inb s3.1 (ln s3.2.2.2.1)) (cond (zpr (ix s3.2.2.2.1 s3.1 zf)) (cond (cond (zr2 (ix s3.2.2.2.1 s3.1 zf)) false true) (some [(.one (.b false))]) (iter (σ:=(Int×(Int×((List Bool)×((List (List Int))×((List Mon)×((List Entry)×((List Entry)×Unit)))))))) N (fun r4 s5=>(cond (ilt s5.2.1 8) (cond (inb s5.1 (ln s5.2.2.2.2.1)) (cond (inb s5.2.1 (ln (ix s5.2.2.2.2.1 s5.1 zf).Outer)) (cond (ige (ix (ix s5.2.2.2.2.1 s5.1 zf).Outer s5.2.1 zQ).Page 0) (cond (inb (ix (ix s5.2.2.2.2.1 s5.1 zf).Outer s5.2.1 zQ).Page (ln s5.2.2.1)) (cond (ix s5.2.2.1 (ix (ix s5.2.2.2.2.1 s5.1 zf).Outer s5.2.1 zQ).Page false) (some [(.one (.b false))]) (cond (ige (ix (ix s5.2.2.2.2.1 s5.1 zf).Outer s5.2.1 zQ).Page 0) (cond (inb (ix (ix s5.2.2.2.2.1 s5.1 zf).Outer s5.2.1 zQ).Page (ln s5.2.2.1)) (share (up s5.2.2.1 (ix (ix s5.2.2.2.2.1 s5.1 zf).Outer s5.2.1 zQ).Page true) (fun x6=>(r4 (s5.1,((zq .i64 s5.2.1 1),(x6,(s5.2.2.2.1,(s5.2.2.2.2.1,(s5.2.2.2.2.2.1,(s5.2.2.2.2.2.2.1,())))))))))) none) (r4 (s5.1,((zq .i64 s5.2.1 1),(s5.2.2.1,(s5.2.2.2.1,(s5.2.2.2.2.1,(s5.2.2.2.2.2.1,(s5.2.2.2.2.2.2.1,())))))))))) none) (cond (ige (ix (ix s5.2.2.2.2.1 s5.1 zf).Outer s5.2.1 zQ).Page 0) (cond (inb (ix (ix s5.2.2.2.2.1 s5.1 zf).Outer s5.2.1 zQ).Page (ln s5.2.2.1)) (share (up s5.2.2.1 (ix (ix s5.2.2.2.2.1 s5.1 zf).Outer s5.2.1 zQ).Page true) (fun x6=>(r4 (s5.1,((zq .i64 s5.2.1 1),(x6,(s5.2.2.2.1,(s5.2.2.2.2.1,(s5.2.2.2.2.2.1,(s5.2.2.2.2.2.2.1,())))))))))) none) (r4 (s5.1,((zq .i64 s5.2.1 1),(s5.2.2.1,(s5.2.2.2.1,(s5.2.2.2.2.1,(s5.2.2.2.2.2.1,(s5.2.2.2.2.2.2.1,())))))))))) none) none) (r2 ((zq .i64 s5.1 1),(s5.2.2.1,(s5.2.2.2.1,(s5.2.2.2.2.1,(s5.2.2.2.2.2.1,(s5.2.2.2.2.2.2.1,()))))))))) (s3.1,(0,(s3.2.1,(s3.2.2.1,(s3.2.2.2.1,(s3.2.2.2.2.1,(s3.2.2.2.2.2.1,()))))))))) none) none) (some [(.one (.b true))]))) (0,((rp 12 false),(a0.Memory,(a0.Mons,(a0.Buffer,(a0.IoBuffer,()))))))) none)) none)) none)) none)) none)
def zSs:FuncId->Nat->Option Tmpl:=zB [(87,0,{ n:=72,tm:=[(1,.lp 0 0),(3,.sl 0 []),(4,.i .i64)],lo:=[(0,[.sl 1 [],.sl 2 [],.sl 3 [],.sl 4 []])],ro:=[(0,.bool,true),(1,(.sl .int),false),(2,.mon,false),(3,.entry,false),(4,.entry,false)] }),(87,2,{ n:=72,tm:=[(1,.lp 0 0),(3,.sl 0 []),(4,.i .i64),(5,.i .i64)],lo:=[(0,[.sl 1 [],.sl 2 [],.sl 3 [],.sl 4 []])],ro:=[(0,.bool,true),(1,(.sl .int),false),(2,.mon,false),(3,.entry,false),(4,.entry,false)] })]
theorem zUf (N:Nat)(a0:Host):evalFn (cQ zOL zV zK zO) zSs N 12 87 [.agg (zA a0)]=zyM N a0:=by kernel_rfl
theorem zQK (a0:Host)(hb:zG big [.agg (zA a0)])(hc:(zrO a0)=true):∃N,zyM N a0=some [.one (.b (zov a0))]:=by
 have hm:CVB big (.s .mon a0.Mons):=(zbu hb).1 _ (by simp [AV.cvs,zA])
 have hl:=hm.len;refine ⟨NN,?_⟩;have hNN:∀{n:Nat},n<=big->n<NN:=fun h=>zb8 h;generalize NN=N at hNN ⊢;unfold zyM zov zdm;refine must rfl (stB fun h0=>must rfl (stB fun h1=>must rfl (stB fun h2=>must rfl (stB fun h3=>must rfl ?_))));refine (zbF a0.Mons (fun i (t:(List Bool))=>((i:Int),t,a0.Memory,a0.Mons,a0.Buffer,a0.IoBuffer,())) _ (fun _ (x:Mon) (u:List Bool) κ=>bif zeg x then goN (fun j u κ=>bif inb (j:Int) (ln x.Outer) then zsI (some [AV.one (.b false)]) (ix x.Outer (j:Int) zQ) u κ else none) κ 8 0 u else some [AV.one (.b false)]) (fun (t:(List Bool))=>(some [(.one (.b true))])) (fun i hi t rec=>?_) (fun t rec=>?_) _ ((rp 12 false)) (hNN hl)).trans ?_
 ·simp only [zbv hi,zbg hi,zbq hi,zbf hi hl,cT];cases h4:zeg a0.Mons[i]
  ·simp only [zpr,zr2,h4,cT,cF]
  simp only [zpr,zr2,h4,cT,cF];refine (zzN 8 (fun j (u:(List Bool))=>((i:Int),(j:Int),u,a0.Memory,a0.Mons,a0.Buffer,a0.IoBuffer,())) _ (fun j (u:List Bool) κ=>bif inb (j:Int) (ln a0.Mons[i].Outer) then zsI (some [AV.one (.b false)]) (ix a0.Mons[i].Outer (j:Int) zQ) u κ else none) (fun (u:(List Bool))=>(rec ((((i+1:Nat)):Int),(u,(a0.Memory,(a0.Mons,(a0.Buffer,(a0.IoBuffer,())))))))) (fun j hj u rec1=>?_) (fun u rec1=>?_) _ (t) (hNN (by decide))).trans ?_
  ·simp only [show ilt (j:Int) 8=true from decide_eq_true (by omega),zbf hj (show 8<=big by decide),cT,zbg hi,zbq hi,zbf hi hl]
   unfold zsI;have e:ige (ix a0.Mons[i].Outer (j:Int) zQ).Page 0 = !ilt (ix a0.Mons[i].Outer (j:Int) zQ).Page 0:=by rw [z00,Bool.not_not]
   simp only [e];cases ilt (ix a0.Mons[i].Outer (j:Int) zQ).Page 0<;>cases inb (j:Int) (ln a0.Mons[i].Outer)<;>cases inb (ix a0.Mons[i].Outer (j:Int) zQ).Page (ln u)<;>cases ix u (ix a0.Mons[i].Outer (j:Int) zQ).Page false<;>rfl
  ·simp only [show ilt (((8:Nat)):Int) 8=false from decide_eq_false (by omega),cF,zbg hi,zbq hi,zbf hi hl]
  rfl
 ·simp only [zbj,cF]
 have key:∀(l:List Mon) (i:Nat) (u:List Bool),u.length=12->goL (fun _ (x:Mon) (u:List Bool) κ=>bif zeg x then goN (fun j u κ=>bif inb (j:Int) (ln x.Outer) then zsI (some [AV.one (.b false)]) (ix x.Outer (j:Int) zQ) u κ else none) κ 8 0 u else some [AV.one (.b false)]) (fun _=>some [AV.one (.b true)]) l i u=some [AV.one (.b (zkw l u))]:=by
  intro l
  induction l with
  | nil=>intro i u _;rfl
  | cons m l ih =>
   intro i u hu;simp only [goL,zkw];cases h1:zeg m
   ·rfl
   ·have ht:=zkE h1;have e8:0+8=m.Outer.length:=by have:=zvG ht;simp only [ln] at this;omega
    simp only [cT];rw [zEI _ _ m 8 0 u (zCN ht) hu e8,List.drop_zero,zzr _ _ _ _ _ (zCN ht) hu];cases h2:zhR m.Outer u with
    | none=>rfl
    | some u'=>exact ih (i+1) u' ((znp _ _ _ h2).trans hu)
 exact key _ _ _ rfl
theorem zJ4:Holds Tryz.prog 87 zuf:=zo zEA zD zu zy (zC (by kernel_rfl)) fun avs rs hb h=>by
 unfold zuf at h;split at h
 ·obtain ⟨hc,rfl⟩:=zl h;exact (fin1 zQK zUf hc hb :)
 ·cases h
def z0g:zbQ:=[(87,zuf),(51,zts)]++zOL
theorem zZc:zbw z0g:=zn zJ4 (zn zJk zEA)
def zV4:zbQ:=z0g
theorem zPn:∀f run,zx zV4 f=some run->Holds Tryz.prog f run:=zZc
def zel (k:Kept)(p:Int):Bool:=bif hasB p (ln k.Known) then hasB p (ln k.Slots) else false
def zeL (k:Kept)(p:Int):Kept:=bif zel k p then ⟨up k.Known p false,up k.Slots p noSlot⟩ else k
@[simp] theorem zIu {k:Kept}{p:Int}(h:SmK k):SmK (zeL k p):=by
 unfold zeL;cases zel k p
 ·exact h
 ·exact ⟨by simpa using h.1,by simpa using h.2⟩
theorem has_lt {p:Int}{n m:Int}(h:hasB p n=true):ilt p m=hasB p m:=by
 have h:=of_decide_eq_true h;unfold ilt hasB
 by_cases h1:p<m
 ·rw [decide_eq_true h1,decide_eq_true ⟨h.1,h1⟩]
 ·rw [decide_eq_false h1,decide_eq_false (by omega)]
@[simp,reducible] def znk (k:Kept)(p:Int):Bool:=pc (SmK k)
@[simp,reducible] def zhn (k:Kept)(p:Int):Bool:=zel k p
def zuu:List AV->Option (Bool×List AV)
 | [.agg [.s .bool c,.s .slot d],.one (.i .i64 e)]=>some ((znk (⟨c,d⟩:Kept) e),[.one (.b (zhn (⟨c,d⟩:Kept) e))])
 | _=>none
def zy0 (N:Nat)(a0:Kept)(a1:Int):Option Ans :=
 (cond (zZ a1 0 (wsub .i64 (ln a0.Known) 1)) (cond (zbe a1 0 (wsub .i64 (ln a0.Known) 1)) (some [(.one (.b (ilt a1 (ln a0.Slots))))]) (some [(.one (.b false))])) none)
theorem zUu (N:Nat)(a0:Kept)(a1:Int):evalFn (cQ zV4 zV zK zO) (zB []) N 12 200 [.agg (Ty.cells .kept a0),.one (.i .i64 a1)]=zy0 N a0 a1:=by kernel_rfl
theorem zQZ (a0:Kept)(a1:Int)(hb:zG big [.agg (Ty.cells .kept a0),.one (.i .i64 a1)])(hc:(znk a0 a1)=true):∃N,zy0 N a0 a1=some [.one (.b (zhn a0 a1))]:=by
 have hs:=zJ.1 hc;refine ⟨0,?_⟩;unfold zy0 zhn zel;simp only [zZ,z0D,zr5 hs.1,cT];cases hh:hasB a1 (ln a0.Known)
 ·rfl
 ·simp only [cT,has_lt hh]
theorem zKi:Holds Tryz.prog 200 zuu:=zo zPn zD zu zy (zC (by kernel_rfl)) fun avs rs hb h=>by
 unfold zuu at h;split at h
 ·obtain ⟨hc,rfl⟩:=zl h;exact (fin2 zQZ zUu hc hb :)
 ·cases h
def zOM:zbQ:=[(200,zuu)]++zV4
theorem zEB:zbw zOM:=zn zKi zPn
@[simp,reducible] def zz6 (k:Kept)(p:Int):Bool:=pc (SmK k)
@[simp,reducible] def zuA (k:Kept)(p:Int):Kept:=zeL k p
def zua:List AV->Option (Bool×List AV)
 | [.agg [.s .bool b,.s .slot c],.one (.i .i64 d)]=>some ((zz6 (⟨b,c⟩:Kept) d),[.agg (Ty.cells .kept (zuA (⟨b,c⟩:Kept) d))])
 | _=>none
def zyK (N:Nat)(a0:Kept)(a1:Int):Option Ans :=
 (cond (zgj a0) (cond (znk (zcc a0) a1) (cond (zhn (zcc a0) a1) (cond (inb a1 (ln (zcc a0).Known)) (share (up (zcc a0).Known a1 false) (fun x3=>(cond zc6 (cond (inb a1 (ln (zcc a0).Slots)) (share (up (zcc a0).Slots a1 zb0) (fun x4=>(some [(.agg (Ty.cells .kept (⟨x3,x4⟩:Kept)))]))) none) none))) none) (some [(.agg (Ty.cells .kept (zcc a0)))])) none) none)
theorem zUd (N:Nat)(a0:Kept)(a1:Int):evalFn (cQ zOM zV zK zO) (zB []) N 12 250 [.agg (Ty.cells .kept a0),.one (.i .i64 a1)]=zyK N a0 a1:=by kernel_rfl
theorem zQI (a0:Kept)(a1:Int)(hb:zG big [.agg (Ty.cells .kept a0),.one (.i .i64 a1)])(hc:(zz6 a0 a1)=true):∃N,zyK N a0 a1=some [.agg (Ty.cells .kept (zuA a0 a1))]:=by
 have hs:=zJ.1 hc;refine ⟨0,?_⟩;unfold zyK zuA;refine must (zbt ((zCg _).2 hs)) (must (zbt hs) ?_);unfold zeL;cases hh:zel a0 a1
 ·simp only [zhn,zcc,hh,cF]
 ·simp only [zhn,zcc,hh,cT];unfold zel at hh;obtain ⟨h1,h2⟩:=zdk.1 hh;simp only [zPP,h1,h2,cT,share,zc6]
theorem zJ2:Holds Tryz.prog 250 zua:=zo zEB zD zu zy (zC (by kernel_rfl)) fun avs rs hb h=>by
 unfold zua at h;split at h
 ·obtain ⟨hc,rfl⟩:=zl h;exact (fin2 zQI zUd hc hb :)
 ·cases h
@[simp,reducible] def zzy (k:Kept)(p:Int):Bool:=pc (SmK k)
@[simp,reducible] def zsX (k:Kept)(p:Int):Kept:=zeL k p
def ztq:List AV->Option (Bool×List AV)
 | [.agg [.s .bool b,.s .slot c],.one (.i .i64 d)]=>some ((zzy (⟨b,c⟩:Kept) d),[.agg (Ty.cells .kept (zsX (⟨b,c⟩:Kept) d))])
 | _=>none
def zx3 (N:Nat)(a0:Kept)(a1:Int):Option Ans :=
 (cond (zfx a0) (cond (zcz a1 (ln a0.Known)) (cond (zcS a1 (ln a0.Known)) (cond (zcz a1 (ln a0.Slots)) (cond (zcS a1 (ln a0.Slots)) (cond (inb a1 (ln (zb9 a0).Known)) (share (up (zb9 a0).Known a1 false) (fun x3=>(cond zc4 (cond (inb a1 (ln (zb9 a0).Slots)) (share (up (zb9 a0).Slots a1 zcE) (fun x4=>(some [(.agg (Ty.cells .kept (⟨x3,x4⟩:Kept)))]))) none) none))) none) (some [(.agg (Ty.cells .kept (zb9 a0)))])) none) (some [(.agg (Ty.cells .kept (zb9 a0)))])) none) none)
theorem zTt (N:Nat)(a0:Kept)(a1:Int):evalFn (cQ zOM zV zK zO) (zB []) N 12 254 [.agg (Ty.cells .kept a0),.one (.i .i64 a1)]=zx3 N a0 a1:=by kernel_rfl
theorem zPY (a0:Kept)(a1:Int)(hb:zG big [.agg (Ty.cells .kept a0),.one (.i .i64 a1)])(hc:(zzy a0 a1)=true):∃N,zx3 N a0 a1=some [.agg (Ty.cells .kept (zsX a0 a1))]:=by
 have hs:=zJ.1 hc;refine ⟨0,?_⟩;unfold zx3 zsX;refine must (zbt hs) (must rfl ?_);unfold zeL zel;simp only [zcS,zcz,zb9,zPP,share,zc4,cT];cases hasB a1 (ln a0.Known)
 ·rfl
 ·cases hasB a1 (ln a0.Slots)<;>rfl
theorem zJi:Holds Tryz.prog 254 ztq:=zo zEB zD zu zy (zC (by kernel_rfl)) fun avs rs hb h=>by
 unfold ztq at h;split at h
 ·obtain ⟨hc,rfl⟩:=zl h;exact (fin2 zPY zTt hc hb :)
 ·cases h
def zCm:zbQ:=[(250,zua),(254,ztq)]++zOM
theorem zsL:zbw zCm:=zn zJ2 (zn zJi zEB)
def zuX (k:Kept)(l:List Int):Kept:=l.foldl zeL k
theorem zVr:∀(l:List Int) {k:Kept},SmK k->SmK (zuX k l)
 | [],_,h=>h
 | p :: l,k,h=>zVr l (zIu (p:=p) h)
theorem zzp {ρ:Type}(K:List Bool×List Slot->Option ρ):∀(l:List Int) (i:Nat) (k:Kept),SmK k ->
 goL (fun _ x (t:List Bool×List Slot) κ=>bif pc (SmK ⟨t.1,t.2⟩) then κ ((zeL ⟨t.1,t.2⟩ x).Known,(zeL ⟨t.1,t.2⟩ x).Slots) else none) K l i (k.Known,k.Slots)=K ((zuX k l).Known,(zuX k l).Slots)
 | [],_,_,_=>rfl
 | x :: l,i,k,h=>by
  have e:pc (SmK ⟨k.Known,k.Slots⟩)=true:=zbt h;simp only [goL,e,cT];exact zzp K l (i+1) (zeL k x) (zIu h)
def z18 (l:List Slot)(p:Int):List Int:=idxs (fun (s:Slot)=>ieq s.Page p) l 0
def zl9 (k:Kept)(l:List Slot)(p:Int):Kept:=zuX k (z18 l p)
theorem zZR {k:Kept}(l:List Slot)(p:Int)(h:SmK k):SmK (zl9 k l p):=zVr _ h
@[simp,reducible] def zj8 (k:Kept)(l:List Slot)(p:Int):Bool:=pc (SmK k/\l.length<=1048576)
@[simp,reducible] def zuB (k:Kept)(l:List Slot)(p:Int):Kept:=zl9 k l p
def zli:List AV->Option (Bool×List AV)
 | [.agg [.s .bool b,.s .slot c],.one (.s .slot d),.one (.i .i64 e)]=>some ((zj8 (⟨b,c⟩:Kept) d e),[.agg (Ty.cells .kept (zuB (⟨b,c⟩:Kept) d e))])
 | _=>none
def znB (N:Nat)(a0:Kept)(a1:List Slot)(a2:Int):Option Ans :=
 (cond (zgj a0) (cond (zAe a1 a2) (iter (σ:=(Int×((List Int)×((List Bool)×((List Slot)×((List Bool)×((List Slot)×Unit))))))) N (fun r4 s5=>(cond (ilt s5.1 (ln s5.2.1)) (cond (inb s5.1 (ln s5.2.1)) (cond (zz6 (⟨s5.2.2.1,s5.2.2.2.1⟩:Kept) (ix s5.2.1 s5.1 0)) (r4 ((zq .i64 s5.1 1),(s5.2.1,((zuA (⟨s5.2.2.1,s5.2.2.2.1⟩:Kept) (ix s5.2.1 s5.1 0)).Known,((zuA (⟨s5.2.2.1,s5.2.2.2.1⟩:Kept) (ix s5.2.1 s5.1 0)).Slots,(s5.2.2.2.2.1,(s5.2.2.2.2.2.1,()))))))) none) none) (some [(.agg (Ty.cells .kept (⟨s5.2.2.1,s5.2.2.2.1⟩:Kept)))]))) (0,((zox a1 a2),((zcc a0).Known,((zcc a0).Slots,([],([],()))))))) none) none)
def zF9:FuncId->Nat->Option Tmpl:=zB [(229,0,{ n:=27,tm:=[(3,.lp 0 0),(6,.lp 1 0),(7,.sl 0 []),(8,.i .i64)],lo:=[(0,[.sl 1 [],.sl 2 []]),(1,[.sl 3 [],.sl 4 []])],ro:=[(0,.int,true),(1,.bool,true),(2,.slot,true),(3,.bool,true),(4,.slot,true)] })]
theorem zIh (N:Nat)(a0:Kept)(a1:List Slot)(a2:Int):evalFn (cQ zCm zV zK zO) zF9 N 12 229 [.agg (Ty.cells .kept a0),.one (.s .slot a1),.one (.i .i64 a2)]=znB N a0 a1 a2:=by kernel_rfl
theorem zFF (a0:Kept)(a1:List Slot)(a2:Int)(hb:zG big [.agg (Ty.cells .kept a0),.one (.s .slot a1),.one (.i .i64 a2)])(hc:(zj8 a0 a1 a2)=true):∃N,znB N a0 a1 a2=some [.agg (Ty.cells .kept (zuB a0 a1 a2))]:=by
 obtain ⟨hs,hs2⟩:=zJ.1 hc;have hl:(zox a1 a2).length<=big:=Nat.le_trans (zFs _ a1 0) (zcA hs2).1;refine ⟨NN,?_⟩;have hNN:∀{n:Nat},n<=big->n<NN:=fun h=>zb8 h;generalize NN=N at hNN ⊢;unfold znB;refine must (zbt ((zCg _).2 hs)) (must (zbt (by omega)) ?_)
 refine (zbF (zox a1 a2) (fun i (t:(List Bool)×(List Slot))=>((i:Int),(zox a1 a2),t.1,t.2,[],[],())) _ (fun _ (x:Int) (t:List Bool×List Slot) κ=>bif pc (SmK ⟨t.1,t.2⟩) then κ ((zeL ⟨t.1,t.2⟩ x).Known,(zeL ⟨t.1,t.2⟩ x).Slots) else none) (fun (t:(List Bool)×(List Slot))=>(some [(.agg (Ty.cells .kept (⟨t.1,t.2⟩:Kept)))])) (fun i hi t rec=>?_) (fun t rec=>?_) _ ((zcc a0).Known,(zcc a0).Slots) (hNN hl)).trans ?_
 ·simp only [zbv hi,zbg hi,zbq hi,zbf hi hl,cT]
 ·simp only [zbj,cF]
 exact zzp _ _ 0 a0 hs
theorem zBB:Holds Tryz.prog 229 zli:=zo zsL zD zu zy (zC (by kernel_rfl)) fun avs rs hb h=>by
 unfold zli at h;split at h
 ·obtain ⟨hc,rfl⟩:=zl h;exact (zd3 zFF zIh hc hb :)
 ·cases h
@[simp,reducible] def znK (k:Kept)(l:List Slot)(p:Int):Bool:=pc (SmK k/\l.length<=1048576)
@[simp,reducible] def zsY (k:Kept)(l:List Slot)(p:Int):Kept:=zl9 k l p
def zld:List AV->Option (Bool×List AV)
 | [.agg [.s .bool b,.s .slot c],.one (.s .slot d),.one (.i .i64 e)]=>some ((znK (⟨b,c⟩:Kept) d e),[.agg (Ty.cells .kept (zsY (⟨b,c⟩:Kept) d e))])
 | _=>none
def znt (N:Nat)(a0:Kept)(a1:List Slot)(a2:Int):Option Ans :=
 (cond (zfx a0) (cond (zzH a1 a2) (iter (σ:=(Int×(Int×((List Int)×((List Bool)×((List Slot)×((List Bool)×((List Slot)×Unit)))))))) N (fun r4 s5=>(cond (ilt s5.2.1 s5.1) (cond (inb s5.2.1 (ln s5.2.2.1)) (cond (zzy (⟨s5.2.2.2.2.2.1,s5.2.2.2.2.2.2.1⟩:Kept) (ix s5.2.2.1 s5.2.1 0)) (r4 (s5.1,((zq .i64 s5.2.1 1),(s5.2.2.1,(s5.2.2.2.1,(s5.2.2.2.2.1,((zsX (⟨s5.2.2.2.2.2.1,s5.2.2.2.2.2.2.1⟩:Kept) (ix s5.2.2.1 s5.2.1 0)).Known,((zsX (⟨s5.2.2.2.2.2.1,s5.2.2.2.2.2.2.1⟩:Kept) (ix s5.2.2.1 s5.2.1 0)).Slots,())))))))) none) none) (some [(.agg (Ty.cells .kept (⟨s5.2.2.2.2.2.1,s5.2.2.2.2.2.2.1⟩:Kept)))]))) ((ln (zjm a1 a2)),(0,((zjm a1 a2),([],([],((zb9 a0).Known,((zb9 a0).Slots,())))))))) none) none)
def zF4:FuncId->Nat->Option Tmpl:=zB [(240,0,{ n:=25,tm:=[(6,.lp 0 0),(7,.lp 1 0),(14,.sl 0 []),(15,.i .i64),(16,.i .i64)],lo:=[(0,[.sl 1 [],.sl 2 []]),(1,[.sl 3 [],.sl 4 []])],ro:=[(0,.int,true),(1,.bool,true),(2,.slot,true),(3,.bool,true),(4,.slot,true)] })]
theorem zH9 (N:Nat)(a0:Kept)(a1:List Slot)(a2:Int):evalFn (cQ zCm zV zK zO) zF4 N 12 240 [.agg (Ty.cells .kept a0),.one (.s .slot a1),.one (.i .i64 a2)]=znt N a0 a1 a2:=by kernel_rfl
theorem zFx (a0:Kept)(a1:List Slot)(a2:Int)(hb:zG big [.agg (Ty.cells .kept a0),.one (.s .slot a1),.one (.i .i64 a2)])(hc:(znK a0 a1 a2)=true):∃N,znt N a0 a1 a2=some [.agg (Ty.cells .kept (zsY a0 a1 a2))]:=by
 obtain ⟨hs,hs2⟩:=zJ.1 hc;have hl:(zjm a1 a2).length<=big:=Nat.le_trans (zFs _ a1 0) (zcA hs2).1;refine ⟨NN,?_⟩;have hNN:∀{n:Nat},n<=big->n<NN:=fun h=>zb8 h;generalize NN=N at hNN ⊢;unfold znt;refine must (zbt hs) (must (zbt (by omega)) ?_)
 refine (zbF (zjm a1 a2) (fun i (t:(List Bool)×(List Slot))=>((ln (zjm a1 a2)),(i:Int),(zjm a1 a2),[],[],t.1,t.2,())) _ (fun _ (x:Int) (t:List Bool×List Slot) κ=>bif pc (SmK ⟨t.1,t.2⟩) then κ ((zeL ⟨t.1,t.2⟩ x).Known,(zeL ⟨t.1,t.2⟩ x).Slots) else none) (fun (t:(List Bool)×(List Slot))=>(some [(.agg (Ty.cells .kept (⟨t.1,t.2⟩:Kept)))])) (fun i hi t rec=>?_) (fun t rec=>?_) _ ((zb9 a0).Known,(zb9 a0).Slots) (hNN hl)).trans ?_
 ·simp only [zbv hi,zbg hi,zbq hi,zbf hi hl,cT]
 ·simp only [zbj,cF]
 exact zzp _ _ 0 a0 hs
theorem zBt:Holds Tryz.prog 240 zld:=zo zsL zD zu zy (zC (by kernel_rfl)) fun avs rs hb h=>by
 unfold zld at h;split at h
 ·obtain ⟨hc,rfl⟩:=zl h;exact (zd3 zFx zH9 hc hb :)
 ·cases h
def flushed (l:List Entry)(p:Int):List Entry:=l.filter fun e=>!ieq e.Host p
theorem zDP (l:List Entry)(p:Int):(flushed l p).length<=l.length:=List.length_filter_le _ _
theorem zjQ {α ρ:Type}(p:α->Bool)(K:List α->Option ρ):∀(l:List α) (i:Nat) (acc:List α),acc.length+l.length<=2147483648 ->
 goL (fun _ x acc κ=>bif p x then (cond (few (ln (ap acc [x]))) (κ (ap acc [x])) none) else κ acc) K l i acc=K (acc++l.filter p)
 | [],i,acc,_=>by simp [goL]
 | x :: l,i,acc,h=>by
  simp only [List.length_cons] at h;simp only [goL];cases hp:p x
  ·rw [cF,zjQ p K l (i+1) acc (by omega),List.filter_cons_of_neg (by simp [hp])]
  ·rw [cT,zeo (by simp [ap];omega),cT,zjQ p K l (i+1) _ (by simp [ap];omega),List.filter_cons_of_pos hp]
   simp [ap]
@[simp,reducible] def zgS (l:List Entry)(p:Int):Bool:=pc (l.length<=1048576)
@[simp,reducible] def zo4 (l:List Entry)(p:Int):List Entry:=flushed l p
def zm0:List AV->Option (Bool×List AV)
 | [.one (.s .entry b),.one (.i .i64 c)]=>some ((zgS b c),[.one (.s .entry (zo4 b c))])
 | _=>none
def zpX (N:Nat)(a0:List Entry)(a1:Int):Option Ans :=
 (iter (σ:=(Int×(Int×((List Entry)×((List Entry)×Unit))))) N (fun r3 s4=>(cond (ilt s4.2.1 (ln s4.2.2.1)) (cond (inb s4.2.1 (ln s4.2.2.1)) (cond (ine (ix s4.2.2.1 s4.2.1 zbz).Host s4.1) (cond (inb s4.2.1 (ln s4.2.2.1)) (cond (few (ln (ap s4.2.2.2.1 [(ix s4.2.2.1 s4.2.1 zbz)]))) (r3 (s4.1,((zq .i64 s4.2.1 1),(s4.2.2.1,((ap s4.2.2.2.1 [(ix s4.2.2.1 s4.2.1 zbz)]),()))))) none) none) (r3 (s4.1,((zq .i64 s4.2.1 1),(s4.2.2.1,(s4.2.2.2.1,())))))) none) (some [(.one (.s .entry s4.2.2.2.1))]))) (a1,(0,(a0,([],())))))
def zIP:FuncId->Nat->Option Tmpl:=zB [(230,0,{ n:=29,tm:=[(0,.sl 0 []),(1,.i .i64),(5,.sl 1 []),(6,.i .i64)],lo:=[],ro:=[(0,.entry,false),(1,.entry,true)] })]
theorem zLr (N:Nat)(a0:List Entry)(a1:Int):evalFn (cQ zCm zV zK zO) zIP N 12 230 [.one (.s .entry a0),.one (.i .i64 a1)]=zpX N a0 a1:=by kernel_rfl
theorem zH1 (a0:List Entry)(a1:Int)(hb:zG big [.one (.s .entry a0),.one (.i .i64 a1)])(hc:(zgS a0 a1)=true):∃N,zpX N a0 a1=some [.one (.s .entry (zo4 a0 a1))]:=by
 have hs:=zJ.1 hc;have hl:=zcA hs;refine ⟨NN,?_⟩;have hNN:∀{n:Nat},n<=big->n<NN:=fun h=>zb8 h;generalize NN=N at hNN ⊢;unfold zpX;refine (zbF a0 (fun i (t:(List Entry))=>(a1,(i:Int),a0,t,())) _ (fun _ (x:Entry) (t:List Entry) κ=>bif !ieq x.Host a1 then (cond (few (ln (ap t [x]))) (κ (ap t [x])) none) else κ t) (fun (t:(List Entry))=>(some [(.one (.s .entry t))])) (fun i hi t rec=>?_) (fun t rec=>?_) _ ([]) (hNN hl.1)).trans ?_
 ·simp only [zbv hi,zbg hi,zbq hi,zbf hi hl.1,cT];rfl
 ·simp only [zbj,cF]
 exact zjQ (fun e=>!ieq e.Host a1) _ a0 0 [] (by simpa using hl.2)
theorem zDh:Holds Tryz.prog 230 zm0:=zo zsL zD zu zy (zC (by kernel_rfl)) fun avs rs hb h=>by
 unfold zm0 at h;split at h
 ·obtain ⟨hc,rfl⟩:=zl h;exact (fin2 zH1 zLr hc hb :)
 ·cases h
@[simp,reducible] def zgL (l:List Entry)(p:Int):Bool:=pc (l.length<=1048576)
@[simp,reducible] def ziB (l:List Entry)(p:Int):List Entry:=flushed l p
def zmK:List AV->Option (Bool×List AV)
 | [.one (.s .entry b),.one (.i .i64 c)]=>some ((zgL b c),[.one (.s .entry (ziB b c))])
 | _=>none
def zpy (N:Nat)(a0:List Entry)(a1:Int):Option Ans :=
 (iter (σ:=(Int×(Int×(Int×((List Entry)×((List Entry)×Unit)))))) N (fun r3 s4=>(cond (ilt s4.2.1 s4.1) (cond (inb s4.2.1 (ln s4.2.2.2.2.1)) (cond (cond (ieq (ix s4.2.2.2.2.1 s4.2.1 zbz).Host s4.2.2.1) false true) (cond (few (ln (ap s4.2.2.2.1 [(ix s4.2.2.2.2.1 s4.2.1 zbz)]))) (r3 (s4.1,((zq .i64 s4.2.1 1),(s4.2.2.1,((ap s4.2.2.2.1 [(ix s4.2.2.2.2.1 s4.2.1 zbz)]),(s4.2.2.2.2.1,())))))) none) (r3 (s4.1,((zq .i64 s4.2.1 1),(s4.2.2.1,(s4.2.2.2.1,(s4.2.2.2.2.1,()))))))) none) (some [(.one (.s .entry s4.2.2.2.1))]))) ((ln a0),(0,(a1,([],(a0,()))))))
def zIH:FuncId->Nat->Option Tmpl:=zB [(243,0,{ n:=25,tm:=[(1,.fn 255 [0]),(5,.sl 0 []),(9,.sl 1 []),(10,.i .i64),(11,.i .i64)],lo:=[(0,[.i .i64])],ro:=[(0,.entry,true),(1,.entry,false)] })]
theorem zK8 (N:Nat)(a0:List Entry)(a1:Int):evalFn (cQ zCm zV zK zO) zIH N 12 241 [.one (.s .entry a0),.one (.i .i64 a1)]=zpy N a0 a1:=by kernel_rfl
theorem zHI (a0:List Entry)(a1:Int)(hb:zG big [.one (.s .entry a0),.one (.i .i64 a1)])(hc:(zgL a0 a1)=true):∃N,zpy N a0 a1=some [.one (.s .entry (ziB a0 a1))]:=by
 have hs:=zJ.1 hc;have hl:=zcA hs;refine ⟨NN,?_⟩;have hNN:∀{n:Nat},n<=big->n<NN:=fun h=>zb8 h;generalize NN=N at hNN ⊢;unfold zpy;refine (zbF a0 (fun i (t:(List Entry))=>((ln a0),(i:Int),a1,t,a0,())) _ (fun _ (x:Entry) (t:List Entry) κ=>bif !ieq x.Host a1 then (cond (few (ln (ap t [x]))) (κ (ap t [x])) none) else κ t) (fun (t:(List Entry))=>(some [(.one (.s .entry t))])) (fun i hi t rec=>?_) (fun t rec=>?_) _ ([]) (hNN hl.1)).trans ?_
 ·simp only [zbv hi,zbg hi,zbq hi,zbf hi hl.1,cT];cases ieq a0[i].Host a1<;>rfl
 ·simp only [zbj,cF]
 exact zjQ (fun e=>!ieq e.Host a1) _ a0 0 [] (by simpa using hl.2)
theorem zCY:Holds Tryz.prog 241 zmK:=zo zsL zD zu zy (zC (by kernel_rfl)) fun avs rs hb h=>by
 unfold zmK at h;split at h
 ·obtain ⟨hc,rfl⟩:=zl h;exact (fin2 zHI zK8 hc hb :)
 ·cases h
def zV5:zbQ:=[(229,zli),(240,zld),(230,zm0),(241,zmK)]++zCm
theorem zPo:zbw zV5:=zn zBB (zn zBt (zn zDh (zn zCY zsL)))
def zuI (gs:List Guest)(p:Int):Nat->List Kept->List Kept
 | 0,ts=>ts
 | n+1,ts=>up (zuI gs p n ts) (n:Int) (zl9 (ix (zuI gs p n ts) (n:Int) zbD) (ix gs (n:Int) zi).Live p)
theorem zoB (gs:List Guest)(p:Int):∀(n:Nat) (ts:List Kept),(zuI gs p n ts).length=ts.length
 | 0,_=>rfl
 | n+1,ts=>by simp only [zuI,zuM];exact zoB gs p n ts
theorem zvF (gs:List Guest)(p:Int):∀(n:Nat) (ts:List Kept),n<=ts.length->zIZ ts->zIZ (zuI gs p n ts)
 | 0,_,_,h=>h
 | n+1,ts,hn,h=>by
  have ih:=zvF gs p n ts (by omega) h
  have hl:n<(zuI gs p n ts).length:=by rw [zoB];omega
  exact zVs ih (zZR _ _ (by rw [zbq hl];exact ih.2 _ (List.getElem_mem hl)))
def zjF (x:Mon)(p:Int)(n:Nat):Mon:={ x with Tables:=zuI x.Guests p n x.Tables }
theorem zYG {x:Mon}{p:Int}{n:Nat}(hn:n<=x.Tables.length)(h:zl1 x):zl1 (zjF x p n):=⟨h.1,h.2.1,h.2.2.1,h.2.2.2.1,h.2.2.2.2.1,zvF _ _ _ _ hn h.2.2.2.2.2⟩
def zeC (h:Host)(m p:Int)(s:Slot):Host :=
 bif ine (ix (ix h.Mons m zf).Outer p zQ).Page (-1)
 then ⟨h.Memory,up h.Mons m { zjF (ix h.Mons m zf) p (ix h.Mons m zf).Tables.length with Outer:=up (ix h.Mons m zf).Outer p s },flushed h.Buffer (ix (ix h.Mons m zf).Outer p zQ).Page,flushed h.IoBuffer (ix (ix h.Mons m zf).Outer p zQ).Page⟩
 else ⟨h.Memory,up h.Mons m { zjF (ix h.Mons m zf) p (ix h.Mons m zf).Tables.length with Outer:=up (ix h.Mons m zf).Outer p s },h.Buffer,h.IoBuffer⟩
def z1v (h:Host)(m p:Int):Prop:=hasB m (ln h.Mons)=true/\hasB p (ln (ix h.Mons m zf).Outer)=true/\(ix h.Mons m zf).Tables.length<=(ix h.Mons m zf).Guests.length
@[simp,reducible] def zfo (h:Host)(m p:Int)(s:Slot):Bool:=pc (zea h/\z1v h m p)
@[simp,reducible] def zhe (h:Host)(m p:Int)(s:Slot):Host:=zeC h m p s
def zqW:List AV->Option (Bool×List AV)
 | [.agg [.s (.sl .int) b,.s .mon c,.s .entry d,.s .entry e],.one (.i .i64 f),.one (.i .i64 g),.agg [.i .i64 h,.i .i64 j]]=>some ((zfo (⟨b,c,d,e⟩:Host) f g (⟨h,j⟩:Slot)),[.agg (zA (zhe (⟨b,c,d,e⟩:Host) f g (⟨h,j⟩:Slot)))])
 | _=>none
def zww (N:Nat)(a0:Host)(a1 a2:Int)(a3:Slot):Option Ans :=
 (cond (inb a1 (ln a0.Mons)) (cond (inb a2 (ln (ix a0.Mons a1 zf).Outer)) (iter (σ:=(Int×(Int×(Int×(Int×(Int×(Int×(Int×(Int×(Int×(Int×(Int×(Int×(Int×(Int×(Int×((List (List Int))×((List Mon)×((List Entry)×((List Entry)×((List (List Int))×((List Mon)×((List Entry)×((List Entry)×Unit)))))))))))))))))))))))) N (fun r5 s6=>(cond (ilt s6.2.2.2.1 (ln (ix s6.2.2.2.2.2.2.2.2.2.2.2.2.2.2.2.2.1 s6.2.2.2.2.2.2.2.2.2.2.2.2.2.1 zf).Tables)) (cond (inb s6.2.2.2.1 (ln (ix s6.2.2.2.2.2.2.2.2.2.2.2.2.2.2.2.2.1 s6.2.2.2.2.2.2.2.2.2.2.2.2.2.1 zf).Tables)) (cond (inb s6.2.2.2.1 (ln (ix s6.2.2.2.2.2.2.2.2.2.2.2.2.2.2.2.2.1 s6.2.2.2.2.2.2.2.2.2.1 zf).Guests)) (cond (zj8 (ix (ix s6.2.2.2.2.2.2.2.2.2.2.2.2.2.2.2.2.1 s6.2.2.2.2.2.2.2.2.2.2.2.2.2.1 zf).Tables s6.2.2.2.1 zbD) (ix (ix s6.2.2.2.2.2.2.2.2.2.2.2.2.2.2.2.2.1 s6.2.2.2.2.2.2.2.2.2.1 zf).Guests s6.2.2.2.1 zi).Live s6.2.1) (cond (inb s6.2.2.2.1 (ln (ix s6.2.2.2.2.2.2.2.2.2.2.2.2.2.2.2.2.1 s6.2.2.2.2.2.2.2.2.2.2.2.2.2.1 zf).Tables)) (share (up s6.2.2.2.2.2.2.2.2.2.2.2.2.2.2.2.2.1 s6.2.2.2.2.2.2.2.2.2.2.2.2.2.1 ({ (ix s6.2.2.2.2.2.2.2.2.2.2.2.2.2.2.2.2.1 s6.2.2.2.2.2.2.2.2.2.2.2.2.2.1 zf) with Tables:=(up (ix s6.2.2.2.2.2.2.2.2.2.2.2.2.2.2.2.2.1 s6.2.2.2.2.2.2.2.2.2.2.2.2.2.1 zf).Tables s6.2.2.2.1 (zuB (ix (ix s6.2.2.2.2.2.2.2.2.2.2.2.2.2.2.2.2.1 s6.2.2.2.2.2.2.2.2.2.2.2.2.2.1 zf).Tables s6.2.2.2.1 zbD) (ix (ix s6.2.2.2.2.2.2.2.2.2.2.2.2.2.2.2.2.1 s6.2.2.2.2.2.2.2.2.2.1 zf).Guests s6.2.2.2.1 zi).Live s6.2.1)) }:Mon)) (fun x7=>(r5 (s6.1,(s6.2.1,(s6.2.2.1,((zq .i64 s6.2.2.2.1 1),(s6.2.2.2.2.1,(s6.2.2.2.2.2.1,(s6.2.2.2.2.2.2.1,(s6.2.2.2.2.2.2.2.1,(s6.2.2.2.2.2.2.2.2.1,(s6.2.2.2.2.2.2.2.2.2.1,(s6.2.2.2.2.2.2.2.2.2.2.1,(s6.2.2.2.2.2.2.2.2.2.2.2.1,(s6.2.2.2.2.2.2.2.2.2.2.2.2.1,(s6.2.2.2.2.2.2.2.2.2.2.2.2.2.1,(s6.2.2.2.2.2.2.2.2.2.2.2.2.2.2.1,(s6.2.2.2.2.2.2.2.2.2.2.2.2.2.2.2.1,(x7,(s6.2.2.2.2.2.2.2.2.2.2.2.2.2.2.2.2.2.1,(s6.2.2.2.2.2.2.2.2.2.2.2.2.2.2.2.2.2.2.1,(s6.2.2.2.2.2.2.2.2.2.2.2.2.2.2.2.2.2.2.2.1,(s6.2.2.2.2.2.2.2.2.2.2.2.2.2.2.2.2.2.2.2.2.1,(s6.2.2.2.2.2.2.2.2.2.2.2.2.2.2.2.2.2.2.2.2.2.1,(s6.2.2.2.2.2.2.2.2.2.2.2.2.2.2.2.2.2.2.2.2.2.2.1,())))))))))))))))))))))))))) none) none) none) none) (cond (ine s6.2.2.1 (-1)) (cond (zgS s6.2.2.2.2.2.2.2.2.2.2.2.2.2.2.2.2.2.1 s6.2.2.1) (cond (zgS s6.2.2.2.2.2.2.2.2.2.2.2.2.2.2.2.2.2.2.1 s6.2.2.1) (cond (inb s6.2.1 (ln (ix s6.2.2.2.2.2.2.2.2.2.2.2.2.2.2.2.2.1 s6.2.2.2.2.2.2.1 zf).Outer)) (share (up s6.2.2.2.2.2.2.2.2.2.2.2.2.2.2.2.2.1 s6.2.2.2.2.2.2.1 ({ (ix s6.2.2.2.2.2.2.2.2.2.2.2.2.2.2.2.2.1 s6.2.2.2.2.2.2.1 zf) with Outer:=(up (ix s6.2.2.2.2.2.2.2.2.2.2.2.2.2.2.2.2.1 s6.2.2.2.2.2.2.1 zf).Outer s6.2.1 (⟨s6.2.2.2.2.1,s6.2.2.2.2.2.1⟩:Slot)) }:Mon)) (fun x7=>(cond (inb s6.1 (ln x7)) (cond (cond (cond (cond (cond (cond (cond (ieq s6.2.2.2.2.2.2.2.2.2.2.2.2.2.1 s6.1) true false) (cond (ieq s6.2.2.2.2.2.2.2.2.2.2.1 s6.1) true false) false) (cond (ieq s6.2.2.2.2.2.2.2.2.2.1 s6.1) true false) false) (cond (ieq s6.2.2.2.2.2.2.2.2.1 s6.1) true false) false) (cond (ieq s6.2.2.2.2.2.2.2.1 s6.1) true false) false) (cond (ieq s6.2.2.2.2.2.2.1 s6.1) true false) false) (share (up x7 s6.1 ({ (ix x7 s6.2.2.2.2.2.2.1 zf) with Out:=(ix x7 s6.2.2.2.2.2.2.2.1 zf).Out,Dirty:=(ix x7 s6.2.2.2.2.2.2.2.2.1 zf).Dirty,Guests:=(ix x7 s6.2.2.2.2.2.2.2.2.2.1 zf).Guests,Outs:=(ix x7 s6.2.2.2.2.2.2.2.2.2.2.1 zf).Outs,Pending:=s6.2.2.2.2.2.2.2.2.2.2.2.1,Traps:=s6.2.2.2.2.2.2.2.2.2.2.2.2.1,Tables:=(ix x7 s6.2.2.2.2.2.2.2.2.2.2.2.2.2.1 zf).Tables,Own:=s6.2.2.2.2.2.2.2.2.2.2.2.2.2.2.1 }:Mon)) (fun x8=>(some [(.agg (zA (⟨s6.2.2.2.2.2.2.2.2.2.2.2.2.2.2.2.1,x8,(zo4 s6.2.2.2.2.2.2.2.2.2.2.2.2.2.2.2.2.2.1 s6.2.2.1),(zo4 s6.2.2.2.2.2.2.2.2.2.2.2.2.2.2.2.2.2.2.1 s6.2.2.1)⟩:Host)))]))) none) none))) none) none) none) (cond (inb s6.2.1 (ln (ix s6.2.2.2.2.2.2.2.2.2.2.2.2.2.2.2.2.1 s6.2.2.2.2.2.2.1 zf).Outer)) (share (up s6.2.2.2.2.2.2.2.2.2.2.2.2.2.2.2.2.1 s6.2.2.2.2.2.2.1 ({ (ix s6.2.2.2.2.2.2.2.2.2.2.2.2.2.2.2.2.1 s6.2.2.2.2.2.2.1 zf) with Outer:=(up (ix s6.2.2.2.2.2.2.2.2.2.2.2.2.2.2.2.2.1 s6.2.2.2.2.2.2.1 zf).Outer s6.2.1 (⟨s6.2.2.2.2.1,s6.2.2.2.2.2.1⟩:Slot)) }:Mon)) (fun x7=>(cond (inb s6.1 (ln x7)) (cond (cond (cond (cond (cond (cond (cond (ieq s6.2.2.2.2.2.2.2.2.2.2.2.2.2.1 s6.1) true false) (cond (ieq s6.2.2.2.2.2.2.2.2.2.2.1 s6.1) true false) false) (cond (ieq s6.2.2.2.2.2.2.2.2.2.1 s6.1) true false) false) (cond (ieq s6.2.2.2.2.2.2.2.2.1 s6.1) true false) false) (cond (ieq s6.2.2.2.2.2.2.2.1 s6.1) true false) false) (cond (ieq s6.2.2.2.2.2.2.1 s6.1) true false) false) (share (up x7 s6.1 ({ (ix x7 s6.2.2.2.2.2.2.1 zf) with Out:=(ix x7 s6.2.2.2.2.2.2.2.1 zf).Out,Dirty:=(ix x7 s6.2.2.2.2.2.2.2.2.1 zf).Dirty,Guests:=(ix x7 s6.2.2.2.2.2.2.2.2.2.1 zf).Guests,Outs:=(ix x7 s6.2.2.2.2.2.2.2.2.2.2.1 zf).Outs,Pending:=s6.2.2.2.2.2.2.2.2.2.2.2.1,Traps:=s6.2.2.2.2.2.2.2.2.2.2.2.2.1,Tables:=(ix x7 s6.2.2.2.2.2.2.2.2.2.2.2.2.2.1 zf).Tables,Own:=s6.2.2.2.2.2.2.2.2.2.2.2.2.2.2.1 }:Mon)) (fun x8=>(some [(.agg (zA (⟨s6.2.2.2.2.2.2.2.2.2.2.2.2.2.2.2.1,x8,s6.2.2.2.2.2.2.2.2.2.2.2.2.2.2.2.2.2.1,s6.2.2.2.2.2.2.2.2.2.2.2.2.2.2.2.2.2.2.1⟩:Host)))]))) none) none))) none)))) (a1,(a2,((ix (ix a0.Mons a1 zf).Outer a2 zQ).Page,(0,(a3.Page,(a3.Rights,(a1,(a1,(a1,(a1,(a1,((ix a0.Mons a1 zf).Pending,((ix a0.Mons a1 zf).Traps,(a1,((ix a0.Mons a1 zf).Own,(a0.Memory,(a0.Mons,(a0.Buffer,(a0.IoBuffer,([],([],([],([],())))))))))))))))))))))))) none) none)
def zOz:FuncId->Nat->Option Tmpl:=zB [(202,0,{ n:=70,tm:=[(1,.i .i64),(2,.i .i64),(4,.lp 0 0),(7,.lp 1 0),(8,.lp 2 0),(9,.lp 3 0),(10,.i .i64),(11,.i .i64)],lo:=[(0,[.sl 0 [],.sl 1 [],.sl 2 [],.sl 3 []]),(1,[.i .i64,.i .i64]),(2,[.sl 4 [],.sl 5 [],.sl 6 [],.sl 7 []]),(3,[.sl 1 [0],.sl 1 [1],.sl 1 [2],.sl 1 [3],.sl 1 [4],.i .i64,.i .i64,.sl 1 [7],.i .i64])],ro:=[(0,(.sl .int),true),(1,.mon,true),(2,.entry,true),(3,.entry,true),(4,(.sl .int),true),(5,.mon,true),(6,.entry,true),(7,.entry,true)] })]
theorem zRT (N:Nat)(a0:Host)(a1 a2:Int)(a3:Slot):zCq (cQ zV5 zV zK zO) zOz N 12 202 [true,true,true,true,false,false,false,false] 1 1 [[0],[1],[2],[4],[7]] .mon [.agg (zA a0),.one (.i .i64 a1),.one (.i .i64 a2),.agg (Ty.cells .slot a3)]=zww N a0 a1 a2 a3:=by kernel_rfl
theorem zND (a0:Host)(a1 a2:Int)(a3:Slot)(hb:zG big [.agg (zA a0),.one (.i .i64 a1),.one (.i .i64 a2),.agg (Ty.cells .slot a3)])(hc:(zfo a0 a1 a2 a3)=true):∃N,zww N a0 a1 a2 a3=some [.agg (zA (zhe a0 a1 a2 a3))]:=by
 obtain ⟨hs,h1,h2,h3⟩:=zJ.1 hc;have hH:=(zbo a0).1 hs;have hm:zl1 (ix a0.Mons a1 zf):=hH.2.1.2 _ (zdd h1 _);obtain ⟨k,rfl,hk⟩:=zej (n:=a0.Mons.length) h1;have hT:=(zcA hm.2.2.2.2.2.1).1;refine ⟨NN,?_⟩;have hNN:∀{n:Nat},n<=big->n<NN:=fun h=>zb8 h;generalize NN=N at hNN ⊢;unfold zww;refine must h1 (must h2 ?_);refine zxz (ix a0.Mons (k:Int) zf).Tables.length (fun i (t:List Mon)=>((k:Int),a2,(ix (ix a0.Mons (k:Int) zf).Outer a2 zQ).Page,(i:Int),a3.Page,a3.Rights,(k:Int),(k:Int),(k:Int),(k:Int),(k:Int),(ix a0.Mons (k:Int) zf).Pending,(ix a0.Mons (k:Int) zf).Traps,(k:Int),(ix a0.Mons (k:Int) zf).Own,a0.Memory,t,a0.Buffer,a0.IoBuffer,[],[],[],[],())) _
  (fun i t=>t=up a0.Mons (k:Int) (zjF (ix a0.Mons (k:Int) zf) a2 i)) (fun _ _=>some [AV.agg (zA (zeC a0 (k:Int) a2 a3))]) (fun i t rec hi hI hr=>?_) (fun t rec hI=>?_) _ 0 a0.Mons ?_ (Nat.zero_le _) ?_
 ·subst hI;have hi2:i<(zuI (ix a0.Mons (k:Int) zf).Guests a2 i (ix a0.Mons (k:Int) zf).Tables).length:=by rw [zoB];exact hi
  have hi3:i<(ix a0.Mons (k:Int) zf).Guests.length:=by omega
  have hf:zj8 (ix (zuI (ix a0.Mons (k:Int) zf).Guests a2 i (ix a0.Mons (k:Int) zf).Tables) (i:Int) zbD) (ix (ix a0.Mons (k:Int) zf).Guests (i:Int) zi).Live a2=true :=
   zbt ⟨by rw [zbq hi2];exact (zvF _ _ _ _ (by omega) hm.2.2.2.2.2).2 _ (List.getElem_mem hi2),by rw [zbq hi3];exact (hm.2.2.2.1.2 _ (List.getElem_mem hi3)).2.2.1⟩
  simp only [ze3 hk,zCR,zjF,zbv hi2,zbg hi2,zbg hi3,hf,cT,share,zbf hi hT];exact hr _ rfl
 ·subst hI;simp only [ze3 hk,zCR,zuM,zjF,ln,zoB,zfQ,show ilt (((ix a0.Mons (k:Int) zf).Tables.length:Nat):Int) (((ix a0.Mons (k:Int) zf).Tables.length:Nat):Int)=false from decide_eq_false (by omega),cT,cF,share]
  have h1':inb (k:Int) ((a0.Mons.length:Nat):Int)=true:=h1;have h2':inb a2 (((ix a0.Mons (k:Int) zf).Outer.length:Nat):Int)=true:=h2;have f1:zgS a0.Buffer (ix (ix a0.Mons (k:Int) zf).Outer a2 zQ).Page=true:=zbt hH.2.2.1;have f2:zgS a0.IoBuffer (ix (ix a0.Mons (k:Int) zf).Outer a2 zQ).Page=true:=zbt hH.2.2.2;simp only [h1',h2',f1,f2,cT];unfold zeC;cases ine (ix (ix a0.Mons (k:Int) zf).Outer a2 zQ).Page (-1)<;>rfl
 ·exact (zVD hk _).symm
 ·exact hNN (by omega)
theorem zHs:zez Tryz.prog 202 [true,true,true,true,false,false,false,false] (some (1,1,[[0],[1],[2],[4],[7]])) zqW:=by
 refine zjR (kt:=.mon) (zdF zPo zD zu zy) (zC (by kernel_rfl)) (by kernel_rfl) ?_
 intro avs rs hl hr h;have hb:=zi8 hr;unfold zqW at h;split at h
 ·obtain ⟨hc,rfl⟩:=zl h;obtain ⟨N,hN⟩:=zND _ _ _ _ (by exact hb) hc
  exact ⟨⟨_,rfl⟩,rfl,_,N,12,(zRT N _ _ _ _ ).trans hN⟩
 ·cases h
def zfG:zy4:=[(202,([true,true,true,true,false,false,false,false],(some (1,1,[[0],[1],[2],[4],[7]])),zqW))]++zO
theorem zc3:∀f own inp run,zx zfG f=some (own,inp,run)->zez Tryz.prog f own inp run:=zuJ zy (by
 intro x hx;simp only [List.mem_cons,List.not_mem_nil,or_false] at hx;rcases hx with rfl
 ·exact zHs)
theorem zHu:∀(l:List Mon) (u:List Bool),zkw l u=true->∀x∈l,zeg x=true
 | [],_,_,x,hx=>by cases hx
 | m :: l,u,h,x,hx=>by
  simp only [zkw] at h;cases h1:zeg m
  ·rw [h1] at h;cases h
  ·rw [h1] at h;simp only [cT] at h;cases h2:zhR m.Outer u with
   | none=>rw [h2] at h;cases h
   | some u' =>
    rw [h2] at h;rcases List.mem_cons.1 hx with rfl|hx
    ·exact h1
    ·exact zHu l u' h x hx
structure PageAt (h:Host) (m p:Int):Prop where
 hm:hasB m (ln h.Mons)=true
 hp:hasB p 8=true
 ok:zeg (ix h.Mons m (Ty.dflt .mon))=true
 ho:(ix h.Mons m (Ty.dflt .mon)).Outer.length=8
 hd:(ix h.Mons m (Ty.dflt .mon)).Dirty.length=8
 ht:(ix h.Mons m (Ty.dflt .mon)).Tables.length=(ix h.Mons m (Ty.dflt .mon)).Guests.length
 hs:zec (ix (ix h.Mons m (Ty.dflt .mon)).Outer p (Ty.dflt .slot)) noSlot=ieq (ix (ix h.Mons m (Ty.dflt .mon)).Outer p (Ty.dflt .slot)).Page (-1)
theorem zYD {s:Slot}{n:Int}(h:zeT s n=true):zec s noSlot=ieq s.Page (-1):=by
 unfold zeT at h;cases h1:zec s noSlot
 ·rw [h1] at h;cases h2:ieq s.Page (-1)
  ·rfl
  ·have e:s.Page = -1:=of_decide_eq_true h2;cases h3:igt n 0
   ·rw [h3] at h;cases h
   ·cases h4:win s.Page 0 (wsub .i64 n 1)
    ·rw [h3,h4] at h;cases h
    ·have:=(zfT.1 h4).1;omega
 ·unfold zec at h1;rw [Bool.and_eq_true] at h1;exact h1.1.symm
theorem zUF {h:Host}{m p:Int}{s:Slot}(hm:hasB m (ln h.Mons)=true)(hs:SmH h):SmH (zeC h m p s):=by
 have hx:=hs.2.1.2 _ (zdd hm zf);have ht:=zYG (p:=p) (Nat.le_refl _) hx;have hM:zBf (up h.Mons m { zjF (ix h.Mons m zf) p (ix h.Mons m zf).Tables.length with Outer:=up (ix h.Mons m zf).Outer p s }):=zMj hs.2.1 ⟨by simpa using hx.1,ht.2⟩
 unfold zeC;cases ine (ix (ix h.Mons m zf).Outer p zQ).Page (-1)
 ·exact ⟨hs.1,hM,hs.2.2⟩
 ·exact ⟨hs.1,hM,Nat.le_trans (zDP _ _) hs.2.2.1,Nat.le_trans (zDP _ _) hs.2.2.2⟩
def zXG:zbQ:=zV5
theorem zXH:∀f run,zx zXG f=some run->Holds Tryz.prog f run:=zPo
def zfW:zbQ:=zXG
theorem zdT:∀f run,zx zfW f=some run->Holds Tryz.prog f run:=zXH
def ziT (o i t:Int):Int:=bif zdl i t then 1 else (cond (zdl o t) 2 0)
@[simp,reducible] def zo6 (o i t:Int):Bool:=true
@[simp,reducible] def zlI (o i t:Int):Int:=ziT o i t
def zqL:List AV->Option (Bool×List AV)
 | [.one (.i .i64 b),.one (.i .i64 c),.one (.i .i64 d)]=>some ((zo6 b c d),[.one (.i .i64 (zlI b c d))])
 | _=>none
def zwk (N:Nat)(a0 a1 a2:Int):Option Ans :=
 (cond (zhm a1 a2) (cond (zhb a1 a2) (some [(.one (.i .i64 1))]) (cond (zhm a0 a2) (cond (zhb a0 a2) (some [(.one (.i .i64 2))]) (some [(.one (.i .i64 0))])) none)) none)
theorem zRI (N:Nat)(a0 a1 a2:Int):evalFn (cQ zfW zV zK zfG) (zB []) N 12 107 [.one (.i .i64 a0),.one (.i .i64 a1),.one (.i .i64 a2)]=zwk N a0 a1 a2:=by kernel_rfl
theorem zNs (a0 a1 a2:Int)(hb:zG big [.one (.i .i64 a0),.one (.i .i64 a1),.one (.i .i64 a2)])(hc:(zo6 a0 a1 a2)=true):∃N,zwk N a0 a1 a2=some [.one (.i .i64 (zlI a0 a1 a2))]:=by
 refine ⟨0,?_⟩;unfold zwk;refine must rfl (br (fun _=>?_) (fun _=>must rfl (br (fun _=>?_) (fun _=>?_))))
 all_goals first|rfl|(simp only [*,zlI,ziT,cT,cF]<;>rfl)|simp_all [Ty.cells,zlI,ziT]
theorem zHh:Holds Tryz.prog 107 zqL:=zo zdT zD zu zc3 (zC (by kernel_rfl)) fun avs rs hb h=>by
 unfold zqL at h;split at h
 ·obtain ⟨hc,rfl⟩:=zl h;exact (zd3 zNs zRI hc hb :)
 ·cases h
@[simp,reducible] def zwE (o i t:Int):Bool:=true
@[simp,reducible] def zjk (o i t:Int):Int:=ziT o i t
def zqg:List AV->Option (Bool×List AV)
 | [.one (.i .i64 b),.one (.i .i64 c),.one (.i .i64 d)]=>some ((zwE b c d),[.one (.i .i64 (zjk b c d))])
 | _=>none
def zvR (N:Nat)(a0 a1 a2:Int):Option Ans :=
 (cond (ziC a1 a2) (cond (zhS a1 a2) (some [(.one (.i .i64 1))]) (cond (ziC a0 a2) (cond (zhS a0 a2) (some [(.one (.i .i64 2))]) (some [(.one (.i .i64 0))])) none)) none)
theorem zRe (N:Nat)(a0 a1 a2:Int):evalFn (cQ zfW zV zK zfG) (zB []) N 12 128 [.one (.i .i64 a0),.one (.i .i64 a1),.one (.i .i64 a2)]=zvR N a0 a1 a2:=by kernel_rfl
theorem zMY (a0 a1 a2:Int)(hb:zG big [.one (.i .i64 a0),.one (.i .i64 a1),.one (.i .i64 a2)])(hc:(zwE a0 a1 a2)=true):∃N,zvR N a0 a1 a2=some [.one (.i .i64 (zjk a0 a1 a2))]:=by
 refine ⟨0,?_⟩;unfold zvR;refine must rfl (br (fun _=>?_) (fun _=>must rfl (br (fun _=>?_) (fun _=>?_))))
 all_goals first|rfl|(simp only [*,zjk,ziT,cT,cF]<;>rfl)|simp_all [Ty.cells,zjk,ziT]
theorem zGN:Holds Tryz.prog 128 zqg:=zo zdT zD zu zc3 (zC (by kernel_rfl)) fun avs rs hb h=>by
 unfold zqg at h;split at h
 ·obtain ⟨hc,rfl⟩:=zl h;exact (zd3 zMY zRe hc hb :)
 ·cases h
theorem z1M (p:Int):hasB p 3=win p 0 2:=by
 unfold hasB win ige ile
 by_cases h1:0<=p<;>by_cases h2:p<3
 ·rw [decide_eq_true (p:=0<=p/\p<3) ⟨h1,h2⟩,decide_eq_true (p:=p≥0) h1,decide_eq_true (p:=p<=2) (by omega)];rfl
 ·rw [decide_eq_false (p:=0<=p/\p<3) (by omega),decide_eq_false (p:=p<=2) (by omega)];simp
 ·rw [decide_eq_false (p:=0<=p/\p<3) (by omega),decide_eq_false (p:=p≥0) (by omega)];simp
 ·rw [decide_eq_false (p:=0<=p/\p<3) (by omega),decide_eq_false (p:=p≥0) (by omega)];simp
theorem z1L (p:Int):hasB p 2=win p 0 1:=by
 unfold hasB win ige ile
 by_cases h1:0<=p<;>by_cases h2:p<2
 ·rw [decide_eq_true (p:=0<=p/\p<2) ⟨h1,h2⟩,decide_eq_true (p:=p≥0) h1,decide_eq_true (p:=p<=1) (by omega)];rfl
 ·rw [decide_eq_false (p:=0<=p/\p<2) (by omega),decide_eq_false (p:=p<=1) (by omega)];simp
 ·rw [decide_eq_false (p:=0<=p/\p<2) (by omega),decide_eq_false (p:=p≥0) (by omega)];simp
 ·rw [decide_eq_false (p:=0<=p/\p<2) (by omega),decide_eq_false (p:=p≥0) (by omega)];simp
def zi3 (m g:Int):Int:=bif win m 0 2 then (cond (win g 0 1) (zq .i64 (zq .i64 1 g) (zSE .i64 m 2)) 0) else 0
@[simp,reducible] def zB3 (m g:Int):Bool:=true
@[simp,reducible] def zci (m g:Int):Int:=zi3 m g
def zw6:List AV->Option (Bool×List AV)
 | [.one (.i .i64 b),.one (.i .i64 c)]=>some ((zB3 b c),[.one (.i .i64 (zci b c))])
 | _=>none
def zBa (N:Nat)(a0 a1:Int):Option Ans :=
 (cond (zZ a0 0 2) (cond (cond (zbe a0 0 2) false true) (some [(.one (.i .i64 0))]) (cond (zZ a1 0 1) (cond (cond (zbe a1 0 1) false true) (some [(.one (.i .i64 0))]) (some [(.one (.i .i64 (zq .i64 (zq .i64 1 a1) (zSE .i64 a0 2))))])) none)) none)
theorem zW7 (N:Nat)(a0 a1:Int):evalFn (cQ zfW zV zK zfG) (zB []) N 12 156 [.one (.i .i64 a0),.one (.i .i64 a1)]=zBa N a0 a1:=by kernel_rfl
theorem zTk (a0 a1:Int)(hb:zG big [.one (.i .i64 a0),.one (.i .i64 a1)])(hc:(zB3 a0 a1)=true):∃N,zBa N a0 a1=some [.one (.i .i64 (zci a0 a1))]:=by
 refine ⟨0,?_⟩;unfold zBa;refine must rfl (brN (fun _=>?_) (fun _=>must rfl (brN (fun _=>?_) (fun _=>?_))))
 all_goals first|rfl|(simp only [*,zci,zi3,cT,cF]<;>rfl)|simp_all [Ty.cells,zci,zi3]
theorem zMN:Holds Tryz.prog 156 zw6:=zo zdT zD zu zc3 (zC (by kernel_rfl)) fun avs rs hb h=>by
 unfold zw6 at h;split at h
 ·obtain ⟨hc,rfl⟩:=zl h;exact (fin2 zTk zW7 hc hb :)
 ·cases h
@[simp,reducible] def zu0 (m g:Int):Bool:=true
@[simp,reducible] def zek (m g:Int):Int:=zi3 m g
def zwS:List AV->Option (Bool×List AV)
 | [.one (.i .i64 b),.one (.i .i64 c)]=>some ((zu0 b c),[.one (.i .i64 (zek b c))])
 | _=>none
def zAW (N:Nat)(a0 a1:Int):Option Ans :=
 (cond (zcz a0 3) (cond (cond (zcS a0 3) false true) (some [(.one (.i .i64 0))]) (cond (zcz a1 2) (cond (cond (zcS a1 2) false true) (some [(.one (.i .i64 0))]) (some [(.one (.i .i64 (zq .i64 (zq .i64 1 a1) (zSE .i64 a0 2))))])) none)) none)
theorem zWS (N:Nat)(a0 a1:Int):evalFn (cQ zfW zV zK zfG) (zB []) N 12 178 [.one (.i .i64 a0),.one (.i .i64 a1)]=zAW N a0 a1:=by kernel_rfl
theorem zS5 (a0 a1:Int)(hb:zG big [.one (.i .i64 a0),.one (.i .i64 a1)])(hc:(zu0 a0 a1)=true):∃N,zAW N a0 a1=some [.one (.i .i64 (zek a0 a1))]:=by
 refine ⟨0,?_⟩;unfold zAW;refine must rfl (brN (fun _=>?_) (fun _=>must rfl (brN (fun _=>?_) (fun _=>?_))))
 all_goals first|rfl|(simp only [*,zek,zi3,z1M,z1L,cT,cF]<;>rfl)|simp_all [Ty.cells,zek,zi3,z1M,z1L]
theorem zMy:Holds Tryz.prog 178 zwS:=zo zdT zD zu zc3 (zC (by kernel_rfl)) fun avs rs hb h=>by
 unfold zwS at h;split at h
 ·obtain ⟨hc,rfl⟩:=zl h;exact (fin2 zS5 zWS hc hb :)
 ·cases h
def zkC (k:Kept)(p:Int):Bool:=bif zel k p then ix k.Known p false else false
def ze2 (k:Kept)(p:Int):Slot:=bif zkC k p then ix k.Slots p zQ else noSlot
@[simp,reducible] def zCL (k:Kept)(p:Int):Bool:=pc (SmK k)
@[simp,reducible] def ziP (k:Kept)(p:Int):Slot:=ze2 k p
@[simp,reducible] def zCK (k:Kept)(p:Int):Bool:=zkC k p
def zBW:List AV->Option (Bool×List AV)
 | [.agg [.s .bool c,.s .slot d],.one (.i .i64 e)]=>some ((zCL (⟨c,d⟩:Kept) e),[.agg (Ty.cells .slot (ziP (⟨c,d⟩:Kept) e)),.one (.b (zCK (⟨c,d⟩:Kept) e))])
 | _=>none
def zIW (N:Nat)(a0:Kept)(a1:Int):Option Ans :=
 (cond (znk a0 a1) (cond (cond (zhn a0 a1) false true) (cond zc6 (some [(.agg [(.i .i64 zb0.Page),(.i .i64 zb0.Rights)]),(.one (.b false))]) none) (cond (inb a1 (ln a0.Known)) (cond (cond (ix a0.Known a1 false) false true) (cond zc6 (some [(.agg [(.i .i64 zb0.Page),(.i .i64 zb0.Rights)]),(.one (.b false))]) none) (cond (inb a1 (ln a0.Slots)) (some [(.agg [(.i .i64 (ix a0.Slots a1 zQ).Page),(.i .i64 (ix a0.Slots a1 zQ).Rights)]),(.one (.b true))]) none)) none)) none)
theorem zZE (N:Nat)(a0:Kept)(a1:Int):evalFn (cQ zfW zV zK zfG) (zB []) N 12 159 [.agg (Ty.cells .kept a0),.one (.i .i64 a1)]=zIW N a0 a1:=by kernel_rfl
theorem zX5 (a0:Kept)(a1:Int)(hb:zG big [.agg (Ty.cells .kept a0),.one (.i .i64 a1)])(hc:(zCL a0 a1)=true):∃N,zIW N a0 a1=some [.agg (Ty.cells .slot (ziP a0 a1)),.one (.b (zCK a0 a1))]:=by
 have hs:=zJ.1 hc;refine ⟨0,?_⟩;unfold zIW ziP zCK ze2 zkC;refine must (zbt hs) ?_;rw [show zhn a0 a1=zel a0 a1 from rfl]
 cases hh:zel a0 a1
 ·rfl
 ·unfold zel at hh;obtain ⟨h1,h2⟩:=zdk.1 hh;simp only [zF h1,zF h2,cT];cases ix a0.Known a1 false<;>rfl
theorem zSW:Holds Tryz.prog 159 zBW:=zo zdT zD zu zc3 (zC (by kernel_rfl)) fun avs rs hb h=>by
 unfold zBW at h;split at h
 ·obtain ⟨hc,rfl⟩:=zl h;exact (fin2 zX5 zZE hc hb :)
 ·cases h
@[simp,reducible] def zxv (k:Kept)(p:Int):Bool:=true
@[simp,reducible] def ziA (k:Kept)(p:Int):Slot:=ze2 k p
@[simp,reducible] def zCy (k:Kept)(p:Int):Bool:=zkC k p
def zBT:List AV->Option (Bool×List AV)
 | [.agg [.s .bool c,.s .slot d],.one (.i .i64 e)]=>some ((zxv (⟨c,d⟩:Kept) e),[.agg (Ty.cells .slot (ziA (⟨c,d⟩:Kept) e)),.one (.b (zCy (⟨c,d⟩:Kept) e))])
 | _=>none
def zIT (N:Nat)(a0:Kept)(a1:Int):Option Ans :=
 (cond (zcz a1 (ln a0.Known)) (cond (cond (zcS a1 (ln a0.Known)) false true) (cond zc4 (some [(.agg [(.i .i64 zcE.Page),(.i .i64 zcE.Rights)]),(.one (.b false))]) none) (cond (zcz a1 (ln a0.Slots)) (cond (cond (zcS a1 (ln a0.Slots)) false true) (cond zc4 (some [(.agg [(.i .i64 zcE.Page),(.i .i64 zcE.Rights)]),(.one (.b false))]) none) (cond (inb a1 (ln a0.Known)) (cond (cond (ix a0.Known a1 false) false true) (cond zc4 (some [(.agg [(.i .i64 zcE.Page),(.i .i64 zcE.Rights)]),(.one (.b false))]) none) (cond (inb a1 (ln a0.Slots)) (some [(.agg [(.i .i64 (ix a0.Slots a1 zQ).Page),(.i .i64 (ix a0.Slots a1 zQ).Rights)]),(.one (.b true))]) none)) none)) none)) none)
theorem zZB (N:Nat)(a0:Kept)(a1:Int):evalFn (cQ zfW zV zK zfG) (zB []) N 12 180 [.agg (Ty.cells .kept a0),.one (.i .i64 a1)]=zIT N a0 a1:=by kernel_rfl
theorem zX2 (a0:Kept)(a1:Int)(hb:zG big [.agg (Ty.cells .kept a0),.one (.i .i64 a1)])(hc:(zxv a0 a1)=true):∃N,zIT N a0 a1=some [.agg (Ty.cells .slot (ziA a0 a1)),.one (.b (zCy a0 a1))]:=by
 refine ⟨0,?_⟩;unfold zIT ziA zCy ze2 zkC zel;rw [show zcS a1 (ln a0.Known)=hasB a1 (ln a0.Known) from rfl,show zcS a1 (ln a0.Slots)=hasB a1 (ln a0.Slots) from rfl]
 cases h1:hasB a1 (ln a0.Known)
 ·rfl
 ·cases h2:hasB a1 (ln a0.Slots)
  ·rfl
  ·simp only [zcz,zF h1,zF h2,cT];cases ix a0.Known a1 false<;>rfl
theorem zST:Holds Tryz.prog 180 zBT:=zo zdT zD zu zc3 (zC (by kernel_rfl)) fun avs rs hb h=>by
 unfold zBT at h;split at h
 ·obtain ⟨hc,rfl⟩:=zl h;exact (fin2 zX2 zZB hc hb :)
 ·cases h
def filled (k:Kept)(inner outer:List Slot)(p:Int):Kept:=bif zel k p then (cond (hasB p (ln inner)) ⟨up k.Known p true,up k.Slots p (zku (ix inner p zQ) outer)⟩ k) else k
@[simp] theorem zXr {k:Kept}{inner outer:List Slot}{p:Int}(h:SmK k):SmK (filled k inner outer p):=by
 unfold filled;cases zel k p
 ·exact h
 ·cases hasB p (ln inner)
  ·exact h
  ·exact ⟨by simpa using h.1,by simpa using h.2⟩
@[simp,reducible] def zFZ (k:Kept)(i o:List Slot)(p:Int):Bool:=pc (SmK k)
@[simp,reducible] def zIq (k:Kept)(i o:List Slot)(p:Int):Kept:=filled k i o p
def zz1:List AV->Option (Bool×List AV)
 | [.agg [.s .bool b,.s .slot c],.one (.s .slot d),.one (.s .slot e),.one (.i .i64 f)]=>some ((zFZ (⟨b,c⟩:Kept) d e f),[.agg (Ty.cells .kept (zIq (⟨b,c⟩:Kept) d e f))])
 | _=>none
def zEl (N:Nat)(a0:Kept)(a1 a2:List Slot)(a3:Int):Option Ans :=
 (cond (zgj a0) (cond (znk (zcc a0) a3) (cond (zhn (zcc a0) a3) (cond (ilt a3 (ln a1)) (cond (inb a3 (ln (zcc a0).Known)) (share (up (zcc a0).Known a3 true) (fun x5=>(cond (inb a3 (ln a1)) (cond (zi1 (ix a1 a3 zQ) a2) (cond (inb a3 (ln (zcc a0).Slots)) (share (up (zcc a0).Slots a3 (zkU (ix a1 a3 zQ) a2)) (fun x6=>(some [(.agg (Ty.cells .kept (⟨x5,x6⟩:Kept)))]))) none) none) none))) none) (some [(.agg (Ty.cells .kept (zcc a0)))])) (some [(.agg (Ty.cells .kept (zcc a0)))])) none) none)
theorem zYi (N:Nat)(a0:Kept)(a1 a2:List Slot)(a3:Int):evalFn (cQ zfW zV zK zfG) (zB []) N 12 161 [.agg (Ty.cells .kept a0),.one (.s .slot a1),.one (.s .slot a2),.one (.i .i64 a3)]=zEl N a0 a1 a2 a3:=by kernel_rfl
theorem zWI (a0:Kept)(a1 a2:List Slot)(a3:Int)(hb:zG big [.agg (Ty.cells .kept a0),.one (.s .slot a1),.one (.s .slot a2),.one (.i .i64 a3)])(hc:(zFZ a0 a1 a2 a3)=true):∃N,zEl N a0 a1 a2 a3=some [.agg (Ty.cells .kept (zIq a0 a1 a2 a3))]:=by
 have hs:=zJ.1 hc;refine ⟨0,?_⟩;unfold zEl zIq filled;refine must (zbt ((zCg _).2 hs)) (must (zbt hs) ?_);rw [show zhn (zcc a0) a3=zel a0 a3 from rfl]
 cases hh:zel a0 a3
 ·rfl
 ·unfold zel at hh;obtain ⟨h1,h2⟩:=zdk.1 hh;rw [has_lt h1 (m:=ln a1)];cases h3:hasB a3 (ln a1)
  ·rfl
  ·simp only [cT,zcc,zF h1,zF h2,zF h3,share,zi1];rfl
theorem zPM:Holds Tryz.prog 161 zz1:=zo zdT zD zu zc3 (zC (by kernel_rfl)) fun avs rs hb h=>by
 unfold zz1 at h;split at h
 ·obtain ⟨hc,rfl⟩:=zl h;exact (zWn zWI zYi hc hb :)
 ·cases h
@[simp,reducible] def zFm (k:Kept)(i o:List Slot)(p:Int):Bool:=pc (SmK k)
@[simp,reducible] def zHw (k:Kept)(i o:List Slot)(p:Int):Kept:=filled k i o p
def zzZ:List AV->Option (Bool×List AV)
 | [.agg [.s .bool b,.s .slot c],.one (.s .slot d),.one (.s .slot e),.one (.i .i64 f)]=>some ((zFm (⟨b,c⟩:Kept) d e f),[.agg (Ty.cells .kept (zHw (⟨b,c⟩:Kept) d e f))])
 | _=>none
def zEh (N:Nat)(a0:Kept)(a1 a2:List Slot)(a3:Int):Option Ans :=
 (cond (zfx a0) (cond (zcz a3 (ln a0.Known)) (cond (zcS a3 (ln a0.Known)) (cond (zcz a3 (ln a0.Slots)) (cond (zcS a3 (ln a0.Slots)) (cond (zcz a3 (ln a1)) (cond (zcS a3 (ln a1)) (cond (inb a3 (ln (zb9 a0).Known)) (share (up (zb9 a0).Known a3 true) (fun x5=>(cond (inb a3 (ln a1)) (cond (ziY (ix a1 a3 zQ) a2) (cond (inb a3 (ln (zb9 a0).Slots)) (share (up (zb9 a0).Slots a3 (zkN (ix a1 a3 zQ) a2)) (fun x6=>(some [(.agg (Ty.cells .kept (⟨x5,x6⟩:Kept)))]))) none) none) none))) none) (some [(.agg (Ty.cells .kept (zb9 a0)))])) none) (some [(.agg (Ty.cells .kept (zb9 a0)))])) none) (some [(.agg (Ty.cells .kept (zb9 a0)))])) none) none)
theorem zYe (N:Nat)(a0:Kept)(a1 a2:List Slot)(a3:Int):evalFn (cQ zfW zV zK zfG) (zB []) N 12 182 [.agg (Ty.cells .kept a0),.one (.s .slot a1),.one (.s .slot a2),.one (.i .i64 a3)]=zEh N a0 a1 a2 a3:=by kernel_rfl
theorem zWE (a0:Kept)(a1 a2:List Slot)(a3:Int)(hb:zG big [.agg (Ty.cells .kept a0),.one (.s .slot a1),.one (.s .slot a2),.one (.i .i64 a3)])(hc:(zFm a0 a1 a2 a3)=true):∃N,zEh N a0 a1 a2 a3=some [.agg (Ty.cells .kept (zHw a0 a1 a2 a3))]:=by
 have hs:=zJ.1 hc;refine ⟨0,?_⟩;unfold zEh zHw filled zel;refine must (zbt hs) ?_;simp only [zcS,zcz,zb9,cT];cases h1:hasB a3 (ln a0.Known)
 ·rfl
 ·cases h2:hasB a3 (ln a0.Slots)
  ·rfl
  ·cases h3:hasB a3 (ln a1)
   ·rfl
   ·simp only [cT,zF h1,zF h2,zF h3,share,ziY];rfl
theorem zPI:Holds Tryz.prog 182 zzZ:=zo zdT zD zu zc3 (zC (by kernel_rfl)) fun avs rs hb h=>by
 unfold zzZ at h;split at h
 ·obtain ⟨hc,rfl⟩:=zl h;exact (zWn zWE zYe hc hb :)
 ·cases h
theorem zEH {α ρ:Type}(p:α->Bool)(r:α->Option ρ)(K:Unit->Option ρ):∀(l:List α) (i:Nat),goL (fun _ x (_:Unit) k=>bif p x then r x else k ()) K l i ()=match l.find? p with|some x=>r x|none=>K ()
 | [],_=>rfl
 | x :: l,i=>by
  simp only [goL];cases h:p x
  ·rw [List.find?_cons_of_neg (by simp [h])]
   exact zEH p r K l (i+1)
  ·rw [List.find?_cons_of_pos h];rfl
def zzk (b:List Entry)(t p:Int):Option Entry:=b.find? fun e=>bif ieq e.Tag t then ieq e.Page p else false
@[simp,reducible] def zkX (b:List Entry)(t p:Int):Bool:=true
@[simp,reducible] def zbW (b:List Entry)(t p:Int):Entry:=(zzk b t p).getD ⟨0,0,0,0⟩
@[simp,reducible] def zio (b:List Entry)(t p:Int):Bool:=(zzk b t p).isSome
def zmZ:List AV->Option (Bool×List AV)
 | [.one (.s .entry c),.one (.i .i64 d),.one (.i .i64 e)]=>some ((zkX c d e),[.agg (Ty.cells .entry (zbW c d e)),.one (.b (zio c d e))])
 | _=>none
def zpW (N:Nat)(a0:List Entry)(a1 a2:Int):Option Ans :=
 (iter (σ:=(Int×(Int×(Int×(Int×(Int×(Int×(Int×((List Entry)×Unit))))))))) N (fun r4 s5=>(cond (ilt s5.2.2.1 (ln s5.2.2.2.2.2.2.2.1)) (cond (inb s5.2.2.1 (ln s5.2.2.2.2.2.2.2.1)) (cond (ieq (ix s5.2.2.2.2.2.2.2.1 s5.2.2.1 zbz).Tag s5.1) (cond (inb s5.2.2.1 (ln s5.2.2.2.2.2.2.2.1)) (cond (ieq (ix s5.2.2.2.2.2.2.2.1 s5.2.2.1 zbz).Page s5.2.1) (cond (inb s5.2.2.1 (ln s5.2.2.2.2.2.2.2.1)) (some [(.agg [(.i .i64 (ix s5.2.2.2.2.2.2.2.1 s5.2.2.1 zbz).Tag),(.i .i64 (ix s5.2.2.2.2.2.2.2.1 s5.2.2.1 zbz).Page),(.i .i64 (ix s5.2.2.2.2.2.2.2.1 s5.2.2.1 zbz).Host),(.i .i64 (ix s5.2.2.2.2.2.2.2.1 s5.2.2.1 zbz).Rights)]),(.one (.b true))]) none) (r4 (s5.1,(s5.2.1,((zq .i64 s5.2.2.1 1),(s5.2.2.2.1,(s5.2.2.2.2.1,(s5.2.2.2.2.2.1,(s5.2.2.2.2.2.2.1,(s5.2.2.2.2.2.2.2.1,())))))))))) none) (r4 (s5.1,(s5.2.1,((zq .i64 s5.2.2.1 1),(s5.2.2.2.1,(s5.2.2.2.2.1,(s5.2.2.2.2.2.1,(s5.2.2.2.2.2.2.1,(s5.2.2.2.2.2.2.2.1,())))))))))) none) (some [(.agg [(.i .i64 0),(.i .i64 0),(.i .i64 0),(.i .i64 0)]),(.one (.b false))]))) (a1,(a2,(0,(0,(0,(0,(0,(a0,())))))))))
def zIO:FuncId->Nat->Option Tmpl:=zB [(157,0,{ n:=36,tm:=[(0,.sl 0 []),(1,.i .i64),(2,.i .i64),(6,.lp 0 0),(8,.i .i64)],lo:=[(0,[.i .i64,.i .i64,.i .i64,.i .i64])],ro:=[(0,.entry,false)] })]
theorem zLq (N:Nat)(a0:List Entry)(a1 a2:Int):evalFn (cQ zfW zV zK zfG) zIO N 12 157 [.one (.s .entry a0),.one (.i .i64 a1),.one (.i .i64 a2)]=zpW N a0 a1 a2:=by kernel_rfl
theorem zH0 (a0:List Entry)(a1 a2:Int)(hb:zG big [.one (.s .entry a0),.one (.i .i64 a1),.one (.i .i64 a2)])(hc:(zkX a0 a1 a2)=true):∃N,zpW N a0 a1 a2=some [.agg (Ty.cells .entry (zbW a0 a1 a2)),.one (.b (zio a0 a1 a2))]:=by
 have hl:=((zbu hb).1 _ (List.mem_singleton.2 rfl)).len;refine ⟨NN,?_⟩;have hNN:∀{n:Nat},n<=big->n<NN:=fun h=>zb8 h;generalize NN=N at hNN ⊢;unfold zpW;refine (zbF a0 (fun i (t:Unit)=>(a1,a2,(i:Int),0,0,0,0,a0,())) _ (fun _ (x:Entry) (_:Unit) κ=>bif (cond (ieq x.Tag a1) (ieq x.Page a2) false) then (some [AV.agg (Ty.cells .entry x),AV.one (.b true)]) else κ ()) (fun (t:Unit)=>(some [(.agg [(.i .i64 0),(.i .i64 0),(.i .i64 0),(.i .i64 0)]),(.one (.b false))])) (fun i hi t rec=>?_) (fun t rec=>?_) _ () (hNN hl)).trans ?_
 ·simp only [zbv hi,zbg hi,zbq hi,zbf hi hl,cT];cases ieq a0[i].Tag a1<;>cases ieq a0[i].Page a2<;>rfl
 ·simp only [zbj,cF]
 rw [zEH (fun e:Entry=>bif ieq e.Tag a1 then ieq e.Page a2 else false)]
 unfold zbW zio zzk;cases a0.find? (fun e:Entry=>bif ieq e.Tag a1 then ieq e.Page a2 else false)<;>rfl
theorem zDg:Holds Tryz.prog 157 zmZ:=zo zdT zD zu zc3 (zC (by kernel_rfl)) fun avs rs hb h=>by
 unfold zmZ at h;split at h
 ·obtain ⟨hc,rfl⟩:=zl h;exact (zd3 zH0 zLq hc hb :)
 ·cases h
@[simp,reducible] def zkO (b:List Entry)(t p:Int):Bool:=true
@[simp,reducible] def zeu (b:List Entry)(t p:Int):Entry:=(zzk b t p).getD ⟨0,0,0,0⟩
@[simp,reducible] def zil (b:List Entry)(t p:Int):Bool:=(zzk b t p).isSome
def zmJ:List AV->Option (Bool×List AV)
 | [.one (.s .entry c),.one (.i .i64 d),.one (.i .i64 e)]=>some ((zkO c d e),[.agg (Ty.cells .entry (zeu c d e)),.one (.b (zil c d e))])
 | _=>none
def zpx (N:Nat)(a0:List Entry)(a1 a2:Int):Option Ans :=
 (iter (σ:=(Int×(Int×(Int×(Int×(Int×(Int×(Int×(Int×((List Entry)×Unit)))))))))) N (fun r4 s5=>(cond (ilt s5.2.2.2.1 s5.2.2.1) (cond (inb s5.2.2.2.1 (ln s5.2.2.2.2.2.2.2.2.1)) (cond (ieq (ix s5.2.2.2.2.2.2.2.2.1 s5.2.2.2.1 zbz).Tag s5.1) (cond (ieq (ix s5.2.2.2.2.2.2.2.2.1 s5.2.2.2.1 zbz).Page s5.2.1) (some [(.agg [(.i .i64 (ix s5.2.2.2.2.2.2.2.2.1 s5.2.2.2.1 zbz).Tag),(.i .i64 (ix s5.2.2.2.2.2.2.2.2.1 s5.2.2.2.1 zbz).Page),(.i .i64 (ix s5.2.2.2.2.2.2.2.2.1 s5.2.2.2.1 zbz).Host),(.i .i64 (ix s5.2.2.2.2.2.2.2.2.1 s5.2.2.2.1 zbz).Rights)]),(.one (.b true))]) (r4 (s5.1,(s5.2.1,(s5.2.2.1,((zq .i64 s5.2.2.2.1 1),(s5.2.2.2.2.1,(s5.2.2.2.2.2.1,(s5.2.2.2.2.2.2.1,(s5.2.2.2.2.2.2.2.1,(s5.2.2.2.2.2.2.2.2.1,()))))))))))) (r4 (s5.1,(s5.2.1,(s5.2.2.1,((zq .i64 s5.2.2.2.1 1),(s5.2.2.2.2.1,(s5.2.2.2.2.2.1,(s5.2.2.2.2.2.2.1,(s5.2.2.2.2.2.2.2.1,(s5.2.2.2.2.2.2.2.2.1,()))))))))))) none) (some [(.agg [(.i .i64 0),(.i .i64 0),(.i .i64 0),(.i .i64 0)]),(.one (.b false))]))) (a1,(a2,((ln a0),(0,(0,(0,(0,(0,(a0,()))))))))))
def zIG:FuncId->Nat->Option Tmpl:=zB [(179,0,{ n:=29,tm:=[(1,.i .i64),(2,.i .i64),(6,.lp 0 0),(10,.sl 0 []),(11,.i .i64),(12,.i .i64)],lo:=[(0,[.i .i64,.i .i64,.i .i64,.i .i64])],ro:=[(0,.entry,false)] })]
theorem zK7 (N:Nat)(a0:List Entry)(a1 a2:Int):evalFn (cQ zfW zV zK zfG) zIG N 12 179 [.one (.s .entry a0),.one (.i .i64 a1),.one (.i .i64 a2)]=zpx N a0 a1 a2:=by kernel_rfl
theorem zHH (a0:List Entry)(a1 a2:Int)(hb:zG big [.one (.s .entry a0),.one (.i .i64 a1),.one (.i .i64 a2)])(hc:(zkO a0 a1 a2)=true):∃N,zpx N a0 a1 a2=some [.agg (Ty.cells .entry (zeu a0 a1 a2)),.one (.b (zil a0 a1 a2))]:=by
 have hl:=((zbu hb).1 _ (List.mem_singleton.2 rfl)).len;refine ⟨NN,?_⟩;have hNN:∀{n:Nat},n<=big->n<NN:=fun h=>zb8 h;generalize NN=N at hNN ⊢;unfold zpx;refine (zbF a0 (fun i (t:Unit)=>(a1,a2,(ln a0),(i:Int),0,0,0,0,a0,())) _ (fun _ (x:Entry) (_:Unit) κ=>bif (cond (ieq x.Tag a1) (ieq x.Page a2) false) then (some [AV.agg (Ty.cells .entry x),AV.one (.b true)]) else κ ()) (fun (t:Unit)=>(some [(.agg [(.i .i64 0),(.i .i64 0),(.i .i64 0),(.i .i64 0)]),(.one (.b false))])) (fun i hi t rec=>?_) (fun t rec=>?_) _ () (hNN hl)).trans ?_
 ·simp only [zbv hi,zbg hi,zbq hi,zbf hi hl,cT];cases ieq a0[i].Tag a1<;>cases ieq a0[i].Page a2<;>rfl
 ·simp only [zbj,cF]
 rw [zEH (fun e:Entry=>bif ieq e.Tag a1 then ieq e.Page a2 else false)]
 unfold zeu zil zzk;cases a0.find? (fun e:Entry=>bif ieq e.Tag a1 then ieq e.Page a2 else false)<;>rfl
theorem zCX:Holds Tryz.prog 179 zmJ:=zo zdT zD zu zc3 (zC (by kernel_rfl)) fun avs rs hb h=>by
 unfold zmJ at h;split at h
 ·obtain ⟨hc,rfl⟩:=zl h;exact (zd3 zHH zK7 hc hb :)
 ·cases h
def zti (t p:Int)(e:Entry):Bool:=bif ine e.Tag t then true else ine e.Page p
def zdC (b:List Entry)(t p:Int):List Entry:=b.filter (zti t p)
theorem zWq (b:List Entry)(t p:Int):(zdC b t p).length<=b.length:=List.length_filter_le _ _
@[simp,reducible] def zqZ (b:List Entry)(t p:Int):Bool:=pc (b.length<=1048576)
@[simp,reducible] def zd1 (b:List Entry)(t p:Int):List Entry:=zdC b t p
def zm1:List AV->Option (Bool×List AV)
 | [.one (.s .entry b),.one (.i .i64 c),.one (.i .i64 d)]=>some ((zqZ b c d),[.one (.s .entry (zd1 b c d))])
 | _=>none
def zpY (N:Nat)(a0:List Entry)(a1 a2:Int):Option Ans :=
 (iter (σ:=(Int×(Int×(Int×((List Entry)×((List Entry)×Unit)))))) N (fun r4 s5=>(cond (ilt s5.2.2.1 (ln s5.2.2.2.1)) (cond (inb s5.2.2.1 (ln s5.2.2.2.1)) (cond (ine (ix s5.2.2.2.1 s5.2.2.1 zbz).Tag s5.1) (cond (inb s5.2.2.1 (ln s5.2.2.2.1)) (cond (few (ln (ap s5.2.2.2.2.1 [(ix s5.2.2.2.1 s5.2.2.1 zbz)]))) (r4 (s5.1,(s5.2.1,((zq .i64 s5.2.2.1 1),(s5.2.2.2.1,((ap s5.2.2.2.2.1 [(ix s5.2.2.2.1 s5.2.2.1 zbz)]),())))))) none) none) (cond (inb s5.2.2.1 (ln s5.2.2.2.1)) (cond (ine (ix s5.2.2.2.1 s5.2.2.1 zbz).Page s5.2.1) (cond (inb s5.2.2.1 (ln s5.2.2.2.1)) (cond (few (ln (ap s5.2.2.2.2.1 [(ix s5.2.2.2.1 s5.2.2.1 zbz)]))) (r4 (s5.1,(s5.2.1,((zq .i64 s5.2.2.1 1),(s5.2.2.2.1,((ap s5.2.2.2.2.1 [(ix s5.2.2.2.1 s5.2.2.1 zbz)]),())))))) none) none) (r4 (s5.1,(s5.2.1,((zq .i64 s5.2.2.1 1),(s5.2.2.2.1,(s5.2.2.2.2.1,()))))))) none)) none) (some [(.one (.s .entry s5.2.2.2.2.1))]))) (a1,(a2,(0,(a0,([],()))))))
def zIQ:FuncId->Nat->Option Tmpl:=zB [(204,0,{ n:=40,tm:=[(0,.sl 0 []),(1,.i .i64),(2,.i .i64),(7,.sl 1 []),(8,.i .i64)],lo:=[],ro:=[(0,.entry,false),(1,.entry,true)] })]
theorem zLs (N:Nat)(a0:List Entry)(a1 a2:Int):evalFn (cQ zfW zV zK zfG) zIQ N 12 204 [.one (.s .entry a0),.one (.i .i64 a1),.one (.i .i64 a2)]=zpY N a0 a1 a2:=by kernel_rfl
theorem zH2 (a0:List Entry)(a1 a2:Int)(hb:zG big [.one (.s .entry a0),.one (.i .i64 a1),.one (.i .i64 a2)])(hc:(zqZ a0 a1 a2)=true):∃N,zpY N a0 a1 a2=some [.one (.s .entry (zd1 a0 a1 a2))]:=by
 have hs:=zJ.1 hc;have hl:=zcA hs;refine ⟨NN,?_⟩;have hNN:∀{n:Nat},n<=big->n<NN:=fun h=>zb8 h;generalize NN=N at hNN ⊢;unfold zpY;refine (zbF a0 (fun i (t:(List Entry))=>(a1,a2,(i:Int),a0,t,())) _ (fun _ (x:Entry) (t:List Entry) κ=>bif zti a1 a2 x then (cond (few (ln (ap t [x]))) (κ (ap t [x])) none) else κ t) (fun (t:(List Entry))=>(some [(.one (.s .entry t))])) (fun i hi t rec=>?_) (fun t rec=>?_) _ ([]) (hNN hl.1)).trans ?_
 ·simp only [zbv hi,zbg hi,zbq hi,zbf hi hl.1,cT];unfold zti;cases ine a0[i].Tag a1<;>cases ine a0[i].Page a2<;>rfl
 ·simp only [zbj,cF]
 exact zjQ (zti a1 a2) _ a0 0 [] (by simpa using hl.2)
theorem zDi:Holds Tryz.prog 204 zm1:=zo zdT zD zu zc3 (zC (by kernel_rfl)) fun avs rs hb h=>by
 unfold zm1 at h;split at h
 ·obtain ⟨hc,rfl⟩:=zl h;exact (zd3 zH2 zLs hc hb :)
 ·cases h
@[simp,reducible] def zp5 (b:List Entry)(t p:Int):Bool:=pc (b.length<=1048576)
@[simp,reducible] def zfi (b:List Entry)(t p:Int):List Entry:=zdC b t p
def zmL:List AV->Option (Bool×List AV)
 | [.one (.s .entry b),.one (.i .i64 c),.one (.i .i64 d)]=>some ((zp5 b c d),[.one (.s .entry (zfi b c d))])
 | _=>none
def zpz (N:Nat)(a0:List Entry)(a1 a2:Int):Option Ans :=
 (iter (σ:=(Int×(Int×(Int×(Int×((List Entry)×((List Entry)×Unit))))))) N (fun r4 s5=>(cond (ilt s5.2.1 s5.1) (cond (inb s5.2.1 (ln s5.2.2.2.2.2.1)) (cond (ieq (ix s5.2.2.2.2.2.1 s5.2.1 zbz).Tag s5.2.2.1) (cond (cond (ieq (ix s5.2.2.2.2.2.1 s5.2.1 zbz).Page s5.2.2.2.1) false true) (cond (few (ln (ap s5.2.2.2.2.1 [(ix s5.2.2.2.2.2.1 s5.2.1 zbz)]))) (r4 (s5.1,((zq .i64 s5.2.1 1),(s5.2.2.1,(s5.2.2.2.1,((ap s5.2.2.2.2.1 [(ix s5.2.2.2.2.2.1 s5.2.1 zbz)]),(s5.2.2.2.2.2.1,()))))))) none) (r4 (s5.1,((zq .i64 s5.2.1 1),(s5.2.2.1,(s5.2.2.2.1,(s5.2.2.2.2.1,(s5.2.2.2.2.2.1,())))))))) (cond (few (ln (ap s5.2.2.2.2.1 [(ix s5.2.2.2.2.2.1 s5.2.1 zbz)]))) (r4 (s5.1,((zq .i64 s5.2.1 1),(s5.2.2.1,(s5.2.2.2.1,((ap s5.2.2.2.2.1 [(ix s5.2.2.2.2.2.1 s5.2.1 zbz)]),(s5.2.2.2.2.2.1,()))))))) none)) none) (some [(.one (.s .entry s5.2.2.2.2.1))]))) ((ln a0),(0,(a1,(a2,([],(a0,())))))))
def zII:FuncId->Nat->Option Tmpl:=zB [(243,0,{ n:=25,tm:=[(1,.fn 244 [0,1]),(5,.sl 0 []),(9,.sl 1 []),(10,.i .i64),(11,.i .i64)],lo:=[(0,[.i .i64]),(1,[.i .i64])],ro:=[(0,.entry,true),(1,.entry,false)] })]
theorem zK9 (N:Nat)(a0:List Entry)(a1 a2:Int):evalFn (cQ zfW zV zK zfG) zII N 12 217 [.one (.s .entry a0),.one (.i .i64 a1),.one (.i .i64 a2)]=zpz N a0 a1 a2:=by kernel_rfl
theorem zHJ (a0:List Entry)(a1 a2:Int)(hb:zG big [.one (.s .entry a0),.one (.i .i64 a1),.one (.i .i64 a2)])(hc:(zp5 a0 a1 a2)=true):∃N,zpz N a0 a1 a2=some [.one (.s .entry (zfi a0 a1 a2))]:=by
 have hs:=zJ.1 hc;have hl:=zcA hs;refine ⟨NN,?_⟩;have hNN:∀{n:Nat},n<=big->n<NN:=fun h=>zb8 h;generalize NN=N at hNN ⊢;unfold zpz;refine (zbF a0 (fun i (t:(List Entry))=>((ln a0),(i:Int),a1,a2,t,a0,())) _ (fun _ (x:Entry) (t:List Entry) κ=>bif zti a1 a2 x then (cond (few (ln (ap t [x]))) (κ (ap t [x])) none) else κ t) (fun (t:(List Entry))=>(some [(.one (.s .entry t))])) (fun i hi t rec=>?_) (fun t rec=>?_) _ ([]) (hNN hl.1)).trans ?_
 ·simp only [zbv hi,zbg hi,zbq hi,zbf hi hl.1,cT];unfold zti;simp only [zjW];cases ieq a0[i].Tag a1<;>cases ieq a0[i].Page a2<;>rfl
 ·simp only [zbj,cF]
 exact zjQ (zti a1 a2) _ a0 0 [] (by simpa using hl.2)
theorem zCZ:Holds Tryz.prog 217 zmL:=zo zdT zD zu zc3 (zC (by kernel_rfl)) fun avs rs hb h=>by
 unfold zmL at h;split at h
 ·obtain ⟨hc,rfl⟩:=zl h;exact (zd3 zHJ zK9 hc hb :)
 ·cases h
def zCn:zbQ:=[(107,zqL),(128,zqg),(156,zw6),(178,zwS),(159,zBW),(180,zBT),(161,zz1),(182,zzZ),(157,zmZ),(179,zmJ),(204,zm1),(217,zmL)]++zfW
theorem zsM:zbw zCn:=zn zHh (zn zGN (zn zMN (zn zMy (zn zSW (zn zST (zn zPM (zn zPI (zn zDg (zn zCX (zn zDi (zn zCZ zdT)))))))))))
def zBR (b:List Entry)(e:Entry):List Entry:=bif igt (ln (ap (zdC b e.Tag e.Page) [e])) 6 then dp (ap (zdC b e.Tag e.Page) [e]) (wsub .i64 (ln (ap (zdC b e.Tag e.Page) [e])) 6) else ap (zdC b e.Tag e.Page) [e]
theorem zzY {b:List Entry}(e:Entry)(h:b.length<=1048576):(zBR b e).length<=1048576/\(ap (zdC b e.Tag e.Page) [e]).length<=1048577:=by
 have h1:=zWq b e.Tag e.Page;have h2:(ap (zdC b e.Tag e.Page) [e]).length<=1048577:=by simp [ap];omega
 refine ⟨?_,h2⟩;unfold zBR;cases h3:igt (ln (ap (zdC b e.Tag e.Page) [e])) 6
 ·have h3:=of_decide_eq_false h3;simp only [ln] at h3;simp only [cF];omega
 ·simp only [cT,dp,List.length_drop];have h3:=of_decide_eq_true h3;have:wsub .i64 (ln (ap (zdC b e.Tag e.Page) [e])) 6=ln (ap (zdC b e.Tag e.Page) [e])-6:=zoE (by simp only [ln] at *;omega) (by simp only [ln] at *;omega)
  rw [this];simp only [ln] at *;omega
@[simp,reducible] def znh (b:List Entry)(e:Entry):Bool:=pc (b.length<=1048576)
@[simp,reducible] def zng (b:List Entry)(e:Entry):List Entry:=zBR b e
def zom:List AV->Option (Bool×List AV)
 | [.one (.s .entry b),.agg [.i .i64 c,.i .i64 d,.i .i64 e,.i .i64 f]]=>some ((znh b (⟨c,d,e,f⟩:Entry)),[.one (.s .entry (zng b (⟨c,d,e,f⟩:Entry)))])
 | _=>none
def zsD (N:Nat)(a0:List Entry)(a1:Entry):Option Ans :=
 (cond (zqZ a0 a1.Tag a1.Page) (cond (few (ln (ap (zd1 a0 a1.Tag a1.Page) [a1]))) (cond (igt (ln (ap (zd1 a0 a1.Tag a1.Page) [a1])) 6) (cond (inr (wsub .i64 (ln (ap (zd1 a0 a1.Tag a1.Page) [a1])) 6) (ln (ap (zd1 a0 a1.Tag a1.Page) [a1])) (ln (ap (zd1 a0 a1.Tag a1.Page) [a1]))) (cond (few (ln (ap [] (dp (ap (zd1 a0 a1.Tag a1.Page) [a1]) (wsub .i64 (ln (ap (zd1 a0 a1.Tag a1.Page) [a1])) 6))))) (some [(.one (.s .entry (ap [] (dp (ap (zd1 a0 a1.Tag a1.Page) [a1]) (wsub .i64 (ln (ap (zd1 a0 a1.Tag a1.Page) [a1])) 6)))))]) none) none) (some [(.one (.s .entry (ap (zd1 a0 a1.Tag a1.Page) [a1])))])) none) none)
theorem zOc (N:Nat)(a0:List Entry)(a1:Entry):evalFn (cQ zCn zV zK zfG) (zB []) N 12 162 [.one (.s .entry a0),.agg (Ty.cells .entry a1)]=zsD N a0 a1:=by kernel_rfl
theorem zKX (a0:List Entry)(a1:Entry)(hb:zG big [.one (.s .entry a0),.agg (Ty.cells .entry a1)])(hc:(znh a0 a1)=true):∃N,zsD N a0 a1=some [.one (.s .entry (zng a0 a1))]:=by
 have hs:=zJ.1 hc;obtain ⟨h1,h2⟩:=zzY a1 hs;refine ⟨0,?_⟩;unfold zsD;refine must (zbt hs) (must (zeo (Nat.le_trans h2 (by decide:1048577<=2147483648))) ?_)
 unfold zng zBR at *
 show _=some [AV.one (.s .entry (cond (igt (ln (ap (zdC a0 a1.Tag a1.Page) [a1])) 6) (dp (ap (zdC a0 a1.Tag a1.Page) [a1]) (wsub .i64 (ln (ap (zdC a0 a1.Tag a1.Page) [a1])) 6)) (ap (zdC a0 a1.Tag a1.Page) [a1])))]
 cases h3:igt (ln (ap (zdC a0 a1.Tag a1.Page) [a1])) 6
 ·rfl
 ·rw [h3] at h1;simp only [cT] at h1;have h3:=of_decide_eq_true h3;have e:wsub .i64 (ln (ap (zdC a0 a1.Tag a1.Page) [a1])) 6=ln (ap (zdC a0 a1.Tag a1.Page) [a1])-6:=zoE (by simp only [ln] at *;omega) (by simp only [ln] at *;omega)
  refine must rfl (must (decide_eq_true ?_) (must ?_ ?_))
  ·show 0<=wsub .i64 (ln (ap (zdC a0 a1.Tag a1.Page) [a1])) 6/\wsub .i64 (ln (ap (zdC a0 a1.Tag a1.Page) [a1])) 6<=ln (ap (zdC a0 a1.Tag a1.Page) [a1])/\ln (ap (zdC a0 a1.Tag a1.Page) [a1])<=ln (ap (zdC a0 a1.Tag a1.Page) [a1])
   rw [e];simp only [ln] at *;omega
  ·exact znG h1
  ·rw [zkt];rfl
theorem zFh:Holds Tryz.prog 162 zom:=zo zsM zD zu zc3 (zC (by kernel_rfl)) fun avs rs hb h=>by
 unfold zom at h;split at h
 ·obtain ⟨hc,rfl⟩:=zl h;exact (fin2 zKX zOc hc hb :)
 ·cases h
@[simp,reducible] def zmk (b:List Entry)(e:Entry):Bool:=pc (b.length<=1048576)
@[simp,reducible] def zmj (b:List Entry)(e:Entry):List Entry:=zBR b e
def znX:List AV->Option (Bool×List AV)
 | [.one (.s .entry b),.agg [.i .i64 c,.i .i64 d,.i .i64 e,.i .i64 f]]=>some ((zmk b (⟨c,d,e,f⟩:Entry)),[.one (.s .entry (zmj b (⟨c,d,e,f⟩:Entry)))])
 | _=>none
def zsd (N:Nat)(a0:List Entry)(a1:Entry):Option Ans :=
 (cond (zp5 a0 a1.Tag a1.Page) (cond (few (ln (ap (zfi a0 a1.Tag a1.Page) [a1]))) (cond (inr (imax 0 (wsub .i64 (ln (ap (zfi a0 a1.Tag a1.Page) [a1])) 6)) (ln (ap (zfi a0 a1.Tag a1.Page) [a1])) (ln (ap (zfi a0 a1.Tag a1.Page) [a1]))) (some [(.one (.s .entry (dp (ap (zfi a0 a1.Tag a1.Page) [a1]) (imax 0 (wsub .i64 (ln (ap (zfi a0 a1.Tag a1.Page) [a1])) 6)))))]) none) none) none)
theorem zNL (N:Nat)(a0:List Entry)(a1:Entry):evalFn (cQ zCn zV zK zfG) (zB []) N 12 183 [.one (.s .entry a0),.agg (Ty.cells .entry a1)]=zsd N a0 a1:=by kernel_rfl
theorem zKv (a0:List Entry)(a1:Entry)(hb:zG big [.one (.s .entry a0),.agg (Ty.cells .entry a1)])(hc:(zmk a0 a1)=true):∃N,zsd N a0 a1=some [.one (.s .entry (zmj a0 a1))]:=by
 have hs:=zJ.1 hc;obtain ⟨_,h2⟩:=zzY a1 hs;refine ⟨0,?_⟩;unfold zsd zmj zBR;simp only [zfi];generalize ap (zdC a0 a1.Tag a1.Page) [a1]=l at h2 ⊢;refine must (zbt hs) (must (zeo (Nat.le_trans h2 (by decide:1048577<=2147483648))) ?_)
 have e:wsub .i64 (ln l) 6=ln l-6:=zoE (by simp only [ln] at *;omega) (by simp only [ln] at *;omega)
 rw [e];cases h3:igt (ln l) 6
 ·have h3:=of_decide_eq_false h3;have e2:imax 0 (ln l-6)=0:=by
   unfold imax;rw [if_neg (by omega)]
  rw [e2];exact must (decide_eq_true (by simp only [ln];omega)) (by simp [dp])
 ·have h3:=of_decide_eq_true h3;have e2:imax 0 (ln l-6)=ln l-6:=by
   unfold imax;rw [if_pos (by omega)]
  rw [e2];exact must (decide_eq_true (by simp only [ln] at *;omega)) rfl
theorem zEP:Holds Tryz.prog 183 znX:=zo zsM zD zu zc3 (zC (by kernel_rfl)) fun avs rs hb h=>by
 unfold znX at h;split at h
 ·obtain ⟨hc,rfl⟩:=zl h;exact (fin2 zKv zNL hc hb :)
 ·cases h
def zzl (l:List Slot)(p:Int):Option Nat:=l.findIdx? fun s=>ieq s.Page p
def zkT (p:Int):List Mon->Nat->Int×Int
 | [],_=>(-1,-1)
 | m :: l,i=>match zzl m.Outer p with|some k=>((i:Int),(k:Int))|none=>zkT p l (i+1)
def zdv (h:Host)(p:Int):Int×Int:=bif ilt p 0 then (-1,-1) else zkT p h.Mons 0
theorem zL4 {ρ:Type}(p:Slot->Bool)(r:Nat->Option ρ)(K:Unit->Option ρ):∀(l:List Slot) (i:Nat),goL (fun j x (_:Unit) k=>bif p x then r j else k ()) K l i ()=match l.findIdx? p with|some k=>r (i+k)|none=>K ()
 | [],_=>rfl
 | x :: l,i=>by
  simp only [goL];rw [List.findIdx?_cons];cases h:p x
  ·simp only [cF,Bool.false_eq_true,if_false];rw [zL4 p r K l (i+1)];cases l.findIdx? p with
   | none=>rfl
   | some k=>simp only [Option.map_some];congr 1;omega
  ·rfl
theorem zI8 {ρ:Type}(p:Int)(r:Int->Int->Option ρ):∀(l:List Mon) (i:Nat),goL (fun i (x:Mon) (_:Unit) κ=>goL (fun j (y:Slot) (_:Unit) κ₁=>bif ieq y.Page p then r (i:Int) (j:Int) else κ₁ ()) (fun _=>κ ()) x.Outer 0 ()) (fun _=>r (-1) (-1)) l i ()=r (zkT p l i).1 (zkT p l i).2
 | [],_=>rfl
 | m :: l,i=>by
  simp only [goL,zkT];rw [zL4 (fun s=>ieq s.Page p) (fun j=>r (i:Int) (j:Int))];unfold zzl;cases m.Outer.findIdx? (fun s=>ieq s.Page p) with
  | none=>exact zI8 p r l (i+1)
  | some k=>simp only [Nat.zero_add]
@[simp,reducible] def ziZ (h:Host)(p:Int):Bool:=true
@[simp,reducible] def zfJ (h:Host)(p:Int):Int:=(zdv h p).1
@[simp,reducible] def zgZ (h:Host)(p:Int):Int:=(zdv h p).2
def zko:List AV->Option (Bool×List AV)
 | [.agg [.s (.sl .int) b,.s .mon c,.s .entry d,.s .entry e],.one (.i .i64 f)]=>some ((ziZ (⟨b,c,d,e⟩:Host) f),[.one (.i .i64 (zfJ (⟨b,c,d,e⟩:Host) f)),.one (.i .i64 (zgZ (⟨b,c,d,e⟩:Host) f))])
 | _=>none
def zlO (N:Nat)(a0:Host)(a1:Int):Option Ans :=
 (cond (ilt a1 0) (some [(.one (.i .i64 (-1))),(.one (.i .i64 (-1)))]) (iter (σ:=(Int×(Int×(Int×((List Mon)×Unit))))) N (fun r3 s4=>(cond (ilt s4.2.2.1 s4.2.1) (cond (inb s4.2.2.1 (ln s4.2.2.2.1)) (iter (σ:=(Int×(Int×(Int×(Int×(Int×(Int×(Int×((List Mon)×Unit))))))))) N (fun r5 s6=>(cond (ilt s6.2.2.2.2.2.2.1 s6.2.2.2.2.2.1) (cond (inb s6.2.2.2.2.2.2.1 (ln (ix s6.2.2.2.2.2.2.2.1 s6.2.2.2.2.1 zf).Outer)) (cond (ieq (ix (ix s6.2.2.2.2.2.2.2.1 s6.2.2.2.2.1 zf).Outer s6.2.2.2.2.2.2.1 zQ).Page s6.1) (some [(.one (.i .i64 s6.2.1)),(.one (.i .i64 s6.2.2.2.2.2.2.1))]) (r5 (s6.1,(s6.2.1,(s6.2.2.1,(s6.2.2.2.1,(s6.2.2.2.2.1,(s6.2.2.2.2.2.1,((zq .i64 s6.2.2.2.2.2.2.1 1),(s6.2.2.2.2.2.2.2.1,())))))))))) none) (r3 (s6.1,(s6.2.2.1,((zq .i64 s6.2.2.2.1 1),(s6.2.2.2.2.2.2.2.1,()))))))) (s4.1,(s4.2.2.1,(s4.2.1,(s4.2.2.1,(s4.2.2.1,((ln (ix s4.2.2.2.1 s4.2.2.1 zf).Outer),(0,(s4.2.2.2.1,()))))))))) none) (some [(.one (.i .i64 (-1))),(.one (.i .i64 (-1)))]))) (a1,((ln a0.Mons),(0,(a0.Mons,()))))))
def zDH:FuncId->Nat->Option Tmpl:=zB [(251,0,{ n:=36,tm:=[(1,.i .i64),(13,.sl 0 []),(14,.i .i64),(15,.i .i64)],lo:=[],ro:=[(0,.mon,false)] }),(251,2,{ n:=36,tm:=[(1,.i .i64),(6,.i .i64),(13,.sl 0 []),(14,.i .i64),(15,.i .i64),(21,.sl 0 [0]),(22,.i .i64),(23,.i .i64)],lo:=[],ro:=[(0,.mon,false)] })]
theorem zFN (N:Nat)(a0:Host)(a1:Int):evalFn (cQ zCn zV zK zfG) zDH N 12 251 [.agg (zA a0),.one (.i .i64 a1)]=zlO N a0 a1:=by kernel_rfl
theorem zDv (a0:Host)(a1:Int)(hb:zG big [.agg (zA a0),.one (.i .i64 a1)])(hc:(ziZ a0 a1)=true):∃N,zlO N a0 a1=some [.one (.i .i64 (zfJ a0 a1)),.one (.i .i64 (zgZ a0 a1))]:=by
 have hm:CVB big (.s .mon a0.Mons):=(zbu hb).1 _ (by simp [AV.cvs,zA])
 have hl:=hm.len;refine ⟨NN,?_⟩;have hNN:∀{n:Nat},n<=big->n<NN:=fun h=>zb8 h;generalize NN=N at hNN ⊢;unfold zlO zfJ zgZ zdv;cases h0:ilt a1 0
 ·simp only [cF];refine (zbF a0.Mons (fun i (t:Unit)=>(a1,(ln a0.Mons),(i:Int),a0.Mons,())) _ (fun i (x:Mon) (_:Unit) κ=>goL (fun j (y:Slot) (_:Unit) κ₁=>bif ieq y.Page a1 then some [AV.one (.i .i64 (i:Int)),AV.one (.i .i64 (j:Int))] else κ₁ ()) (fun _=>κ ()) x.Outer 0 ()) (fun (t:Unit)=>(some [(.one (.i .i64 (-1))),(.one (.i .i64 (-1)))])) (fun i hi t rec=>?_) (fun t rec=>?_) _ () (hNN hl)).trans ?_
  ·simp only [zbv hi,zbg hi,zbq hi,zbf hi hl,cT];have ho:a0.Mons[i].Outer.length<=big:=(hm.inv.2 _ (List.getElem_mem hi) (.s .slot _) (by simp [Ty.cells])).len
   refine (zbF a0.Mons[i].Outer (fun j (u:Unit)=>(a1,(i:Int),(ln a0.Mons),(i:Int),(i:Int),(ln a0.Mons[i].Outer),(j:Int),a0.Mons,())) _ (fun j (y:Slot) (_:Unit) κ₁=>bif ieq y.Page a1 then some [AV.one (.i .i64 (i:Int)),AV.one (.i .i64 (j:Int))] else κ₁ ()) (fun (u:Unit)=>(rec (a1,((ln a0.Mons),((((i+1:Nat)):Int),(a0.Mons,())))))) (fun j hj u rec1=>?_) (fun u rec1=>?_) _ () (hNN ho)).trans ?_
   ·simp only [zbv hj,zbg hj,zbq hj,zbf hj ho,cT,zbg hi,zbq hi,zbf hi hl]
   ·simp only [zbj,cF,zbg hi,zbq hi,zbf hi hl]
   rfl
  ·simp only [zbj,cF]
  exact zI8 a1 (fun i j=>some [AV.one (.i .i64 i),AV.one (.i .i64 j)]) a0.Mons 0
 ·rfl
theorem zAC:Holds Tryz.prog 251 zko:=zo zsM zD zu zc3 (zC (by kernel_rfl)) fun avs rs hb h=>by
 unfold zko at h;split at h
 ·obtain ⟨hc,rfl⟩:=zl h;exact (fin2 zDv zFN hc hb :)
 ·cases h
theorem zXT {α τ ρ:Type}(r:Option ρ):∀(l:List α) (i:Nat) (t:τ),goL (fun _ _ _ _=>r) (fun _=>r) l i t=r
 | [],_,_=>rfl
 | _ :: _,_,_=>rfl
@[simp,reducible] def zi2 (h:Host)(p:Int):Bool:=true
@[simp,reducible] def zbC (h:Host)(p:Int):Int:=(zdv h p).1
@[simp,reducible] def zbG (h:Host)(p:Int):Int:=(zdv h p).2
def zkr:List AV->Option (Bool×List AV)
 | [.agg [.s (.sl .int) b,.s .mon c,.s .entry d,.s .entry e],.one (.i .i64 f)]=>some ((zi2 (⟨b,c,d,e⟩:Host) f),[.one (.i .i64 (zbC (⟨b,c,d,e⟩:Host) f)),.one (.i .i64 (zbG (⟨b,c,d,e⟩:Host) f))])
 | _=>none
def zl0 (N:Nat)(a0:Host)(a1:Int):Option Ans :=
 (iter (σ:=(Int×(Int×((List (List Int))×((List Mon)×((List Entry)×((List Entry)×Unit))))))) N (fun r3 s4=>(cond (ilt s4.2.1 (ln s4.2.2.2.1)) (cond (ige s4.1 0) (iter (σ:=(Int×(Int×(Int×((List (List Int))×((List Mon)×((List Entry)×((List Entry)×Unit)))))))) N (fun r5 s6=>(cond (inb s6.2.1 (ln s6.2.2.2.2.1)) (cond (ilt s6.2.2.1 (ln (ix s6.2.2.2.2.1 s6.2.1 zf).Outer)) (cond (inb s6.2.1 (ln s6.2.2.2.2.1)) (cond (inb s6.2.2.1 (ln (ix s6.2.2.2.2.1 s6.2.1 zf).Outer)) (cond (ieq (ix (ix s6.2.2.2.2.1 s6.2.1 zf).Outer s6.2.2.1 zQ).Page s6.1) (some [(.one (.i .i64 s6.2.1)),(.one (.i .i64 s6.2.2.1))]) (r5 (s6.1,(s6.2.1,((zq .i64 s6.2.2.1 1),(s6.2.2.2.1,(s6.2.2.2.2.1,(s6.2.2.2.2.2.1,(s6.2.2.2.2.2.2.1,()))))))))) none) none) (r3 (s6.1,((zq .i64 s6.2.1 1),(s6.2.2.2.1,(s6.2.2.2.2.1,(s6.2.2.2.2.2.1,(s6.2.2.2.2.2.2.1,())))))))) none)) (s4.1,(s4.2.1,(0,(s4.2.2.1,(s4.2.2.2.1,(s4.2.2.2.2.1,(s4.2.2.2.2.2.1,())))))))) (some [(.one (.i .i64 (-1))),(.one (.i .i64 (-1)))])) (some [(.one (.i .i64 (-1))),(.one (.i .i64 (-1)))]))) (a1,(0,(a0.Memory,(a0.Mons,(a0.Buffer,(a0.IoBuffer,())))))))
def zDI:FuncId->Nat->Option Tmpl:=zB [(226,0,{ n:=44,tm:=[(1,.i .i64),(2,.lp 0 0),(6,.i .i64)],lo:=[(0,[.sl 0 [],.sl 1 [],.sl 2 [],.sl 3 []])],ro:=[(0,(.sl .int),false),(1,.mon,false),(2,.entry,false),(3,.entry,false)] }),(226,2,{ n:=44,tm:=[(1,.i .i64),(2,.lp 0 0),(6,.i .i64),(7,.i .i64)],lo:=[(0,[.sl 0 [],.sl 1 [],.sl 2 [],.sl 3 []])],ro:=[(0,(.sl .int),false),(1,.mon,false),(2,.entry,false),(3,.entry,false)] })]
theorem zFY (N:Nat)(a0:Host)(a1:Int):evalFn (cQ zCn zV zK zfG) zDI N 12 226 [.agg (zA a0),.one (.i .i64 a1)]=zl0 N a0 a1:=by kernel_rfl
theorem zDG (a0:Host)(a1:Int)(hb:zG big [.agg (zA a0),.one (.i .i64 a1)])(hc:(zi2 a0 a1)=true):∃N,zl0 N a0 a1=some [.one (.i .i64 (zbC a0 a1)),.one (.i .i64 (zbG a0 a1))]:=by
 have hm:CVB big (.s .mon a0.Mons):=(zbu hb).1 _ (by simp [AV.cvs,zA])
 have hl:=hm.len;refine ⟨NN,?_⟩;have hNN:∀{n:Nat},n<=big->n<NN:=fun h=>zb8 h;generalize NN=N at hNN ⊢;unfold zl0 zbC zbG zdv;refine (zbF a0.Mons (fun i (t:Unit)=>(a1,(i:Int),a0.Memory,a0.Mons,a0.Buffer,a0.IoBuffer,())) _ (fun i (x:Mon) (_:Unit) κ=>bif ige a1 0 then goL (fun j (y:Slot) (_:Unit) κ₁=>bif ieq y.Page a1 then some [AV.one (.i .i64 (i:Int)),AV.one (.i .i64 (j:Int))] else κ₁ ()) (fun _=>κ ()) x.Outer 0 () else some [AV.one (.i .i64 (-1)),AV.one (.i .i64 (-1))]) (fun (t:Unit)=>(some [(.one (.i .i64 (-1))),(.one (.i .i64 (-1)))])) (fun i hi t rec=>?_) (fun t rec=>?_) _ () (hNN hl)).trans ?_
 ·simp only [zbv hi,zbg hi,zbq hi,zbf hi hl,cT];cases h0:ige a1 0
  ·rfl
  have ho:a0.Mons[i].Outer.length<=big:=(hm.inv.2 _ (List.getElem_mem hi) (.s .slot _) (by simp [Ty.cells])).len
  simp only [cT];refine (zbF a0.Mons[i].Outer (fun j (_:Unit)=>(a1,((i:Int),((j:Int),(a0.Memory,(a0.Mons,(a0.Buffer,(a0.IoBuffer,())))))))) _ (fun j (y:Slot) (_:Unit) κ₁=>bif ieq y.Page a1 then some [AV.one (.i .i64 (i:Int)),AV.one (.i .i64 (j:Int))] else κ₁ ()) (fun _=>rec (a1,(((i+1:Nat):Int),(a0.Memory,(a0.Mons,(a0.Buffer,(a0.IoBuffer,()))))))) (fun j hj u rec1=>?_) (fun u rec1=>?_) _ () (hNN ho)).trans ?_
  ·simp only [zbv hj,zbg hj,zbq hj,zbf hj ho,cT,zbg hi,zbq hi]
  ·simp only [zbj,cF,cT,zbg hi,zbq hi,zbf hi hl]
  rfl
 ·simp only [zbj,cF]
 cases h0:ige a1 0
 ·have h1:ilt a1 0=true:=by
   have:=of_decide_eq_false h0;exact decide_eq_true (by omega)
  rw [h1];exact zXT _ _ _ _
 ·have h1:ilt a1 0=false:=by
   have:=of_decide_eq_true h0;exact decide_eq_false (by omega)
  rw [h1];exact zI8 a1 (fun i j=>some [AV.one (.i .i64 i),AV.one (.i .i64 j)]) a0.Mons 0
theorem zAM:Holds Tryz.prog 226 zkr:=zo zsM zD zu zc3 (zC (by kernel_rfl)) fun avs rs hb h=>by
 unfold zkr at h;split at h
 ·obtain ⟨hc,rfl⟩:=zl h;exact (fin2 zDG zFY hc hb :)
 ·cases h
def zCo:zbQ:=[(162,zom),(183,znX),(226,zkr),(251,zko)]++zCn
theorem zsN:zbw zCo:=zn zFh (zn zEP (zn zAM (zn zAC zsM)))
def zcO (h:Host):List Int:=zFq (fun i=>ilt (zdv h (i:Int)).1 0) h.Memory.length 0
@[simp,reducible] def zj9 (h:Host):Bool:=pc (h.Memory.length<=1048576)
@[simp,reducible] def zc2 (h:Host):List Int:=zcO h
def zue:List AV->Option (Bool×List AV)
 | [.agg [.s (.sl .int) b,.s .mon c,.s .entry d,.s .entry e]]=>some ((zj9 (⟨b,c,d,e⟩:Host)),[.one (.s .int (zc2 (⟨b,c,d,e⟩:Host)))])
 | _=>none
def zyL (N:Nat)(a0:Host):Option Ans :=
 (iter (σ:=(Int×((List Int)×((List (List Int))×((List Mon)×((List Entry)×((List Entry)×Unit))))))) N (fun r2 s3=>(cond (ilt s3.1 (ln s3.2.2.1)) (cond (zi2 (⟨s3.2.2.1,s3.2.2.2.1,s3.2.2.2.2.1,s3.2.2.2.2.2.1⟩:Host) s3.1) (cond (ilt (zbC (⟨s3.2.2.1,s3.2.2.2.1,s3.2.2.2.2.1,s3.2.2.2.2.2.1⟩:Host) s3.1) 0) (cond (few (ln (ap s3.2.1 [s3.1]))) (r2 ((zq .i64 s3.1 1),((ap s3.2.1 [s3.1]),(s3.2.2.1,(s3.2.2.2.1,(s3.2.2.2.2.1,(s3.2.2.2.2.2.1,()))))))) none) (r2 ((zq .i64 s3.1 1),(s3.2.1,(s3.2.2.1,(s3.2.2.2.1,(s3.2.2.2.2.1,(s3.2.2.2.2.2.1,())))))))) none) (some [(.one (.s .int s3.2.1))]))) (0,([],(a0.Memory,(a0.Mons,(a0.Buffer,(a0.IoBuffer,())))))))
def zSr:FuncId->Nat->Option Tmpl:=zB [(225,0,{ n:=28,tm:=[(1,.lp 0 0),(3,.sl 0 []),(4,.i .i64)],lo:=[(0,[.sl 1 [],.sl 2 [],.sl 3 [],.sl 4 []])],ro:=[(0,.int,true),(1,(.sl .int),false),(2,.mon,false),(3,.entry,false),(4,.entry,false)] })]
theorem zUe (N:Nat)(a0:Host):evalFn (cQ zCo zV zK zfG) zSr N 12 225 [.agg (zA a0)]=zyL N a0:=by kernel_rfl
theorem zQJ (a0:Host)(hb:zG big [.agg (zA a0)])(hc:(zj9 a0)=true):∃N,zyL N a0=some [.one (.s .int (zc2 a0))]:=by
 have hs:=zJ.1 hc;have hl:=zcA hs;refine ⟨NN,?_⟩;have hNN:∀{n:Nat},n<=big->n<NN:=fun h=>zb8 h;generalize NN=N at hNN ⊢;unfold zyL;refine (zbF a0.Memory (fun i (t:(List Int))=>((i:Int),t,a0.Memory,a0.Mons,a0.Buffer,a0.IoBuffer,())) _ (fun i (_:List Int) (t:List Int) κ=>bif ilt (zdv a0 (i:Int)).1 0 then (cond (few (ln (ap t [(i:Int)]))) (κ (ap t [(i:Int)])) none) else κ t) (fun (t:(List Int))=>(some [(.one (.s .int t))])) (fun i hi t rec=>?_) (fun t rec=>?_) _ ([]) (hNN hl.1)).trans ?_
 ·simp only [zbv hi,zbg hi,zbq hi,zbf hi hl.1,cT]
 ·simp only [zbj,cF]
 rw [zxs (fun i (t:List Int) κ=>bif ilt (zdv a0 (i:Int)).1 0 then (cond (few (ln (ap t [(i:Int)]))) (κ (ap t [(i:Int)])) none) else κ t)]
 exact zzs (fun i=>ilt (zdv a0 (i:Int)).1 0) _ _ 0 [] (by simpa using hl.2)
theorem zJ3:Holds Tryz.prog 225 zue:=zo zsN zD zu zc3 (zC (by kernel_rfl)) fun avs rs hb h=>by
 unfold zue at h;split at h
 ·obtain ⟨hc,rfl⟩:=zl h;exact (fin1 zQJ zUe hc hb :)
 ·cases h
@[simp,reducible] def zjS (h:Host):Bool:=pc (h.Memory.length<=1048576)
@[simp,reducible] def zdx (h:Host):List Int:=zcO h
def ztr:List AV->Option (Bool×List AV)
 | [.agg [.s (.sl .int) b,.s .mon c,.s .entry d,.s .entry e]]=>some ((zjS (⟨b,c,d,e⟩:Host)),[.one (.s .int (zdx (⟨b,c,d,e⟩:Host)))])
 | _=>none
def zx4 (N:Nat)(a0:Host):Option Ans :=
 (iter (σ:=(Int×(Int×((List Int)×((List (List Int))×((List Mon)×((List Entry)×((List Entry)×Unit)))))))) N (fun r2 s3=>(cond (ilt s3.2.1 s3.1) (cond (ziZ (⟨s3.2.2.2.1,s3.2.2.2.2.1,s3.2.2.2.2.2.1,s3.2.2.2.2.2.2.1⟩:Host) s3.2.1) (cond (ilt (zfJ (⟨s3.2.2.2.1,s3.2.2.2.2.1,s3.2.2.2.2.2.1,s3.2.2.2.2.2.2.1⟩:Host) s3.2.1) 0) (cond (few (ln (ap s3.2.2.1 [s3.2.1]))) (r2 (s3.1,((zq .i64 s3.2.1 1),((ap s3.2.2.1 [s3.2.1]),(s3.2.2.2.1,(s3.2.2.2.2.1,(s3.2.2.2.2.2.1,(s3.2.2.2.2.2.2.1,())))))))) none) (r2 (s3.1,((zq .i64 s3.2.1 1),(s3.2.2.1,(s3.2.2.2.1,(s3.2.2.2.2.1,(s3.2.2.2.2.2.1,(s3.2.2.2.2.2.2.1,()))))))))) none) (some [(.one (.s .int s3.2.2.1))]))) ((ln a0.Memory),(0,([],(a0.Memory,(a0.Mons,(a0.Buffer,(a0.IoBuffer,()))))))))
def zSd:FuncId->Nat->Option Tmpl:=zB [(237,0,{ n:=28,tm:=[(1,.lp 0 0),(3,.sl 0 []),(10,.i .i64),(11,.i .i64)],lo:=[(0,[.sl 1 [],.sl 2 [],.sl 3 [],.sl 4 []])],ro:=[(0,.int,true),(1,(.sl .int),false),(2,.mon,false),(3,.entry,false),(4,.entry,false)] })]
theorem zTu (N:Nat)(a0:Host):evalFn (cQ zCo zV zK zfG) zSd N 12 237 [.agg (zA a0)]=zx4 N a0:=by kernel_rfl
theorem zPZ (a0:Host)(hb:zG big [.agg (zA a0)])(hc:(zjS a0)=true):∃N,zx4 N a0=some [.one (.s .int (zdx a0))]:=by
 have hs:=zJ.1 hc;have hl:=zcA hs;refine ⟨NN,?_⟩;have hNN:∀{n:Nat},n<=big->n<NN:=fun h=>zb8 h;generalize NN=N at hNN ⊢;unfold zx4;refine (zbF a0.Memory (fun i (t:(List Int))=>((ln a0.Memory),(i:Int),t,a0.Memory,a0.Mons,a0.Buffer,a0.IoBuffer,())) _ (fun i (_:List Int) (t:List Int) κ=>bif ilt (zdv a0 (i:Int)).1 0 then (cond (few (ln (ap t [(i:Int)]))) (κ (ap t [(i:Int)])) none) else κ t) (fun (t:(List Int))=>(some [(.one (.s .int t))])) (fun i hi t rec=>?_) (fun t rec=>?_) _ ([]) (hNN hl.1)).trans ?_
 ·simp only [zbv hi,zbg hi,zbq hi,zbf hi hl.1,cT]
 ·simp only [zbj,cF]
 rw [zxs (fun i (t:List Int) κ=>bif ilt (zdv a0 (i:Int)).1 0 then (cond (few (ln (ap t [(i:Int)]))) (κ (ap t [(i:Int)])) none) else κ t)]
 exact zzs (fun i=>ilt (zdv a0 (i:Int)).1 0) _ _ 0 [] (by simpa using hl.2)
theorem zJj:Holds Tryz.prog 237 ztr:=zo zsN zD zu zc3 (zC (by kernel_rfl)) fun avs rs hb h=>by
 unfold ztr at h;split at h
 ·obtain ⟨hc,rfl⟩:=zl h;exact (fin1 zPZ zTu hc hb :)
 ·cases h
def zif (m:List (List Int))(p:Int)(c:List Int):List (List Int):=bif hasB p (ln m) then (cond (zc5 c) (up m p c) m) else m
@[simp,reducible] def zjD (m:List (List Int))(p:Int)(c:List Int):Bool:=pc (SmM m/\c.length<=1048576)
@[simp,reducible] def zf8 (m:List (List Int))(p:Int)(c:List Int):List (List Int):=zif m p c
def zoq:List AV->Option (Bool×List AV)
 | [.one (.s (.sl .int) b),.one (.i .i64 c),.one (.s .int d)]=>some ((zjD b c d),[.one (.s (.sl .int) (zf8 b c d))])
 | _=>none
def zsG (N:Nat)(a0:List (List Int))(a1:Int)(a2:List Int):Option Ans :=
 (cond (zgi a0) (cond (zZ a1 0 (wsub .i64 (ln a0) 1)) (cond (zbe a1 0 (wsub .i64 (ln a0) 1)) (cond (zfn a2) (cond (zeR a2) (cond (few (ln (ap [] a2))) (cond (inb a1 (ln (zdf a0))) (share (up (zdf a0) a1 (ap [] a2)) (fun x4=>(some [(.one (.s (.sl .int) x4))]))) none) none) (some [(.one (.s (.sl .int) (zdf a0)))])) none) (some [(.one (.s (.sl .int) (zdf a0)))])) none) none)
theorem zOg (N:Nat)(a0:List (List Int))(a1:Int)(a2:List Int):evalFn (cQ zCo zV zK zfG) (zB []) N 12 228 [.one (.s (.sl .int) a0),.one (.i .i64 a1),.one (.s .int a2)]=zsG N a0 a1 a2:=by kernel_rfl
theorem zK2 (a0:List (List Int))(a1:Int)(a2:List Int)(hb:zG big [.one (.s (.sl .int) a0),.one (.i .i64 a1),.one (.s .int a2)])(hc:(zjD a0 a1 a2)=true):∃N,zsG N a0 a1 a2=some [.one (.s (.sl .int) (zf8 a0 a1 a2))]:=by
 obtain ⟨hs,hs2⟩:=zJ.1 hc;refine ⟨0,?_⟩;unfold zsG zf8 zif;refine must (zbt ((znF _).2 hs)) (must rfl ?_);rw [show zbe a1 0 (wsub .i64 (ln a0) 1)=hasB a1 (ln a0) from zr5 hs.1 a1]
 cases h1:hasB a1 (ln a0)
 ·rfl
 ·simp only [cT,zfn,zeR];cases h2:zc5 a2
  ·rfl
  ·refine must rfl (must (znG hs2) (must (zF h1) ?_));rw [zkt];rfl
theorem zFl:Holds Tryz.prog 228 zoq:=zo zsN zD zu zc3 (zC (by kernel_rfl)) fun avs rs hb h=>by
 unfold zoq at h;split at h
 ·obtain ⟨hc,rfl⟩:=zl h;exact (zd3 zK2 zOg hc hb :)
 ·cases h
@[simp,reducible] def zjo (m:List (List Int))(p:Int)(c:List Int):Bool:=pc (SmM m/\c.length<=1048576)
@[simp,reducible] def zf2 (m:List (List Int))(p:Int)(c:List Int):List (List Int):=zif m p c
def zn1:List AV->Option (Bool×List AV)
 | [.one (.s (.sl .int) b),.one (.i .i64 c),.one (.s .int d)]=>some ((zjo b c d),[.one (.s (.sl .int) (zf2 b c d))])
 | _=>none
def zsg (N:Nat)(a0:List (List Int))(a1:Int)(a2:List Int):Option Ans :=
 (cond (zfk a0) (cond (zcz a1 (ln a0)) (cond (zcS a1 (ln a0)) (cond (zg0 a2) (cond (zfM a2) (cond (zdn a2) (cond (inb a1 (ln (zcW a0))) (share (up (zcW a0) a1 (zdh a2)) (fun x4=>(some [(.one (.s (.sl .int) x4))]))) none) none) (some [(.one (.s (.sl .int) (zcW a0)))])) none) (some [(.one (.s (.sl .int) (zcW a0)))])) none) none)
theorem zNP (N:Nat)(a0:List (List Int))(a1:Int)(a2:List Int):evalFn (cQ zCo zV zK zfG) (zB []) N 12 239 [.one (.s (.sl .int) a0),.one (.i .i64 a1),.one (.s .int a2)]=zsg N a0 a1 a2:=by kernel_rfl
theorem zKA (a0:List (List Int))(a1:Int)(a2:List Int)(hb:zG big [.one (.s (.sl .int) a0),.one (.i .i64 a1),.one (.s .int a2)])(hc:(zjo a0 a1 a2)=true):∃N,zsg N a0 a1 a2=some [.one (.s (.sl .int) (zf2 a0 a1 a2))]:=by
 obtain ⟨hs,hs2⟩:=zJ.1 hc;refine ⟨0,?_⟩;unfold zsg zf2 zif;refine must (zbt hs) (must rfl ?_);rw [show zcS a1 (ln a0)=hasB a1 (ln a0) from rfl]
 cases h1:hasB a1 (ln a0)
 ·rfl
 ·simp only [cT,zg0,zfM];cases h2:zc5 a2
  ·rfl
  ·refine must rfl (must (zbt (Nat.le_trans hs2 (by decide))) (must (zF h1) rfl))
theorem zET:Holds Tryz.prog 239 zn1:=zo zsN zD zu zc3 (zC (by kernel_rfl)) fun avs rs hb h=>by
 unfold zn1 at h;split at h
 ·obtain ⟨hc,rfl⟩:=zl h;exact (zd3 zKA zNP hc hb :)
 ·cases h
def zkL:zbQ:=[(225,zue),(237,ztr),(228,zoq),(239,zn1)]++zCo
theorem zgr:zbw zkL:=zn zJ3 (zn zJj (zn zFl (zn zET zsN)))
abbrev mZ:Mon:=Ty.dflt .mon
abbrev sZ:Slot:=Ty.dflt .slot
def ShM (x:Mon):Prop:=x.Outer.length=8/\x.Out.length=8/\x.Dirty.length=8/\x.Tables.length=x.Guests.length
def Shape (h:Host):Prop:=SmH h/\∀x∈h.Mons,ShM x
theorem zhp {h:Host}{m:Int}{x:Mon}(hs:Shape h)(h1:zl1 x)(h2:ShM x):Shape { h with Mons:=up h.Mons m x }:=by
 refine ⟨⟨hs.1.1,zMj hs.1.2.1 h1,hs.1.2.2⟩,fun y hy=>?_⟩;rcases List.mem_or_eq_of_mem_set hy with hy|rfl
 ·exact hs.2 y hy
 ·exact h2
theorem zck {h:Host}(hs:Shape h){m:Int}(hm:hasB m (ln h.Mons)=true):zl1 (ix h.Mons m mZ)/\ShM (ix h.Mons m mZ):=⟨hs.1.2.1.2 _ (zdd hm _),hs.2 _ (zdd hm _)⟩
theorem zMi {h:Host}{mm:List (List Int)}(hs:Shape h)(h1:SmM mm):Shape { h with Memory:=mm }:=⟨⟨h1,hs.1.2⟩,hs.2⟩
theorem zq3 {h:Host}{m p:Int}{s:Slot}(hm:hasB m (ln h.Mons)=true)(hs:Shape h):Shape (zeC h m p s):=by
 refine ⟨zUF hm hs.1,?_⟩;obtain ⟨_,h2⟩:=zck hs hm;have key:∀y∈up h.Mons m { zjF (ix h.Mons m mZ) p (ix h.Mons m mZ).Tables.length with Outer:=up (ix h.Mons m mZ).Outer p s },ShM y:=by
  intro y hy;rcases List.mem_or_eq_of_mem_set hy with hy|rfl
  ·exact hs.2 y hy
  ·exact ⟨by simpa using h2.1,h2.2.1,h2.2.2.1,by simpa [zjF,zoB] using h2.2.2.2⟩
 unfold zeC;cases ine (ix (ix h.Mons m mZ).Outer p sZ).Page (-1)<;>exact key
theorem zfD (h:Host)(m p:Int)(s:Slot):(zeC h m p s).Mons=up h.Mons m { zjF (ix h.Mons m mZ) p (ix h.Mons m mZ).Tables.length with Outer:=up (ix h.Mons m mZ).Outer p s }/\(zeC h m p s).Memory=h.Memory:=by
 unfold zeC;cases ine (ix (ix h.Mons m mZ).Outer p sZ).Page (-1)<;>exact ⟨rfl,rfl⟩
theorem zeb {h:Host}{m k:Int}{x:Mon}(hm:hasB m (ln h.Mons)=true):hasB m (ln (up h.Mons k x))=true:=by simpa [ln] using hm
theorem zDS {h:Host}{m k p:Int}{s:Slot}(hm:hasB m (ln h.Mons)=true):hasB m (ln (zeC h k p s).Mons)=true:=by
 rw [(zfD h k p s).1];exact zeb hm
theorem zda {α:Type}{l:List α}{p:Int}(h:l.length=8)(hp:hasB p 8=true):hasB p (ln l)=true:=by rw [ln,h];exact hp
def zzM (h:Host)(m p:Int)(s:Slot):Host :=
 bif ine s.Page (-1) then ⟨h.Memory,up h.Mons m (zjF (ix h.Mons m mZ) p (ix h.Mons m mZ).Guests.length),flushed h.Buffer s.Page,flushed h.IoBuffer s.Page⟩
 else ⟨h.Memory,up h.Mons m (zjF (ix h.Mons m mZ) p (ix h.Mons m mZ).Guests.length),h.Buffer,h.IoBuffer⟩
theorem zAh {h:Host}{k:Nat}{p:Int}{s:Slot}(hk:k<h.Mons.length)(ht:(ix h.Mons (k:Int) mZ).Tables.length=(ix h.Mons (k:Int) mZ).Guests.length) :
 zzM { h with Mons:=up h.Mons (k:Int) { ix h.Mons (k:Int) mZ with Outer:=up (ix h.Mons (k:Int) mZ).Outer p s } } (k:Int) p (ix (ix h.Mons (k:Int) mZ).Outer p sZ)=zeC h (k:Int) p s:=by
 unfold zeC zzM;simp only [ze3 hk,zCR,zjF,ht]
def zWz {ρ:Type}(m p:Int)(i:Nat)(t:List Mon)(κ:List Mon->Option ρ):Option ρ :=
 (cond (inb (i:Int) (ln (ix t m mZ).Tables)) (cond (inb (i:Int) (ln (ix t m mZ).Guests)) (cond (pc (SmK (ix (ix t m mZ).Tables (i:Int) zbD)/\(ix (ix t m mZ).Guests (i:Int) zi).Live.length<=1048576)) (cond (inb (i:Int) (ln (ix t m mZ).Tables)) (κ (up t m ({ (ix t m mZ) with Tables:=(up (ix t m mZ).Tables (i:Int) (zl9 (ix (ix t m mZ).Tables (i:Int) zbD) (ix (ix t m mZ).Guests (i:Int) zi).Live p)) }:Mon))) none) none) none) none)
theorem zVa {ρ:Type}{mons:List Mon}{k:Nat}(hk:k<mons.length)(p:Int)(hm:zl1 (ix mons (k:Int) mZ))(ht:(ix mons (k:Int) mZ).Tables.length=(ix mons (k:Int) mZ).Guests.length)(K:List Mon->Option ρ) :
 ∀(n i:Nat),i+n=(ix mons (k:Int) mZ).Guests.length->goN (fun i t κ=>zWz (k:Int) p i t κ) K n i (up mons (k:Int) (zjF (ix mons (k:Int) mZ) p i))=K (up mons (k:Int) (zjF (ix mons (k:Int) mZ) p (ix mons (k:Int) mZ).Guests.length))
 | 0,i,h=>by
  have:i=(ix mons (k:Int) mZ).Guests.length:=by omega
  subst this;rfl
 | n+1,i,h=>by
  have hi3:i<(ix mons (k:Int) mZ).Guests.length:=by omega
  have hi2:i<(zuI (ix mons (k:Int) mZ).Guests p i (ix mons (k:Int) mZ).Tables).length:=by rw [zoB];omega
  have hf:pc (SmK (ix (zuI (ix mons (k:Int) mZ).Guests p i (ix mons (k:Int) mZ).Tables) (i:Int) zbD)/\(ix (ix mons (k:Int) mZ).Guests (i:Int) zi).Live.length<=1048576)=true :=
   zbt ⟨by rw [zbq hi2];exact (zvF _ _ _ _ (by omega) hm.2.2.2.2.2).2 _ (List.getElem_mem hi2),by rw [zbq hi3];exact (hm.2.2.2.1.2 _ (List.getElem_mem hi3)).2.2.1⟩
  simp only [goN,zWz,ze3 hk,zCR,zjF,zbg hi2,zbg hi3,hf,cT];exact zVa hk p hm ht K n (i+1) (by omega)
@[simp,reducible] def zd6 (h:Host)(m p:Int)(s:Slot):Bool:=pc (Shape h/\hasB m (ln h.Mons)=true)
@[simp,reducible] def zd7 (h:Host)(m p:Int)(s:Slot):Host:=zzM h m p s
def zkk:List CV->List AV->Option (Bool×List CV×List AV)
 | [.s (.sl .int) b,.s .mon c,.s .entry d,.s .entry e],[.one (.i .i64 f),.one (.i .i64 g),.agg [.i .i64 h,.i .i64 j]]=>some ((zd6 (⟨b,c,d,e⟩:Host) f g (⟨h,j⟩:Slot)),zA (zd7 (⟨b,c,d,e⟩:Host) f g (⟨h,j⟩:Slot)),[])
 | _,_=>none
def znv (N:Nat)(c:Host)(a0 a1:Int)(a2:Slot):Option Ans :=
 (cond (inb a0 (ln c.Mons)) (iter (σ:=(Int×(Int×(Int×(Int×(Int×(Int×((List Mon)×((List (List Int))×((List Entry)×((List Entry)×Unit))))))))))) N (fun r5 s6=>(cond (ilt s6.2.2.2.1 s6.2.2.1) (cond (inb s6.2.2.2.1 (ln (ix s6.2.2.2.2.2.2.1 s6.2.1 zf).Tables)) (cond (inb s6.2.2.2.1 (ln (ix s6.2.2.2.2.2.2.1 s6.2.1 zf).Guests)) (cond (znK (ix (ix s6.2.2.2.2.2.2.1 s6.2.1 zf).Tables s6.2.2.2.1 zbD) (ix (ix s6.2.2.2.2.2.2.1 s6.2.1 zf).Guests s6.2.2.2.1 zi).Live s6.1) (cond (inb s6.2.2.2.1 (ln (ix s6.2.2.2.2.2.2.1 s6.2.1 zf).Tables)) (share (up s6.2.2.2.2.2.2.1 s6.2.1 ({ (ix s6.2.2.2.2.2.2.1 s6.2.1 zf) with Tables:=(up (ix s6.2.2.2.2.2.2.1 s6.2.1 zf).Tables s6.2.2.2.1 (zsY (ix (ix s6.2.2.2.2.2.2.1 s6.2.1 zf).Tables s6.2.2.2.1 zbD) (ix (ix s6.2.2.2.2.2.2.1 s6.2.1 zf).Guests s6.2.2.2.1 zi).Live s6.1)) }:Mon)) (fun x7=>(r5 (s6.1,(s6.2.1,(s6.2.2.1,((zq .i64 s6.2.2.2.1 1),(s6.2.2.2.2.1,(s6.2.2.2.2.2.1,(x7,(s6.2.2.2.2.2.2.2.1,(s6.2.2.2.2.2.2.2.2.1,(s6.2.2.2.2.2.2.2.2.2.1,()))))))))))))) none) none) none) none) (cond (ine s6.2.2.2.2.1 (-1)) (cond (zgL s6.2.2.2.2.2.2.2.2.1 s6.2.2.2.2.1) (cond (zgL s6.2.2.2.2.2.2.2.2.2.1 s6.2.2.2.2.1) (some [(.agg (zA (⟨s6.2.2.2.2.2.2.2.1,s6.2.2.2.2.2.2.1,(ziB s6.2.2.2.2.2.2.2.2.1 s6.2.2.2.2.1),(ziB s6.2.2.2.2.2.2.2.2.2.1 s6.2.2.2.2.1)⟩:Host)))]) none) none) (some [(.agg (zA (⟨s6.2.2.2.2.2.2.2.1,s6.2.2.2.2.2.2.1,s6.2.2.2.2.2.2.2.2.1,s6.2.2.2.2.2.2.2.2.2.1⟩:Host)))])))) (a1,(a0,((ln (ix c.Mons a0 zf).Guests),(0,(a2.Page,(a2.Rights,(c.Mons,(c.Memory,(c.Buffer,(c.IoBuffer,()))))))))))) none)
def zF6:FuncId->Nat->Option Tmpl:=zB [(215,0,{ n:=71,tm:=[(0,.lp 0 0),(2,.i .i64),(7,.lp 1 0),(8,.ep 0 [] 0),(20,.i .i64),(21,.i .i64)],lo:=[(0,[.sl 1 [],.sl 0 [],.sl 2 [],.sl 3 []]),(1,[.i .i64,.i .i64])],ro:=[(0,.mon,true),(1,(.sl .int),true),(2,.entry,true),(3,.entry,true)] })]
theorem zIb (N:Nat)(c:Host)(a0 a1:Int)(a2:Slot):zzh (cQ zkL zV zK zfG) zF6 N 12 215 [true,true,true,true] (zA c) [.one (.i .i64 a0),.one (.i .i64 a1),.agg (Ty.cells .slot a2)]=znv N c a0 a1 a2:=by kernel_rfl
theorem zFz (c:Host)(a0 a1:Int)(a2:Slot)(hb:zG big (.agg (zA c) :: [.one (.i .i64 a0),.one (.i .i64 a1),.agg (Ty.cells .slot a2)]))(hc:(zd6 c a0 a1 a2)=true):∃N,znv N c a0 a1 a2=some (.agg (zA (zd7 c a0 a1 a2)) :: []):=by
 obtain ⟨hs,hm⟩:=zJ.1 hc;obtain ⟨g1,g2⟩:=zck hs hm;have hg:(ix c.Mons a0 mZ).Guests.length<=big:=(zcA g1.2.2.2.1.1).1;refine ⟨NN,?_⟩;have hNN:∀{n:Nat},n<=big->n<NN:=fun h=>zb8 h;generalize NN=N at hNN ⊢;unfold znv;refine must (zF hm) ?_;refine (zbF ((ix c.Mons a0 zf).Guests) (fun i (t:(List Mon))=>(a1,a0,(ln (ix c.Mons a0 zf).Guests),(i:Int),a2.Page,a2.Rights,t,c.Memory,c.Buffer,c.IoBuffer,())) _ (fun i (x:Guest) (t:List Mon) κ=>zWz a0 a1 i t κ) (fun (t:(List Mon))=>(cond (ine a2.Page (-1)) (cond (zgL c.Buffer a2.Page) (cond (zgL c.IoBuffer a2.Page) (some [(.agg (zA (⟨c.Memory,t,(ziB c.Buffer a2.Page),(ziB c.IoBuffer a2.Page)⟩:Host)))]) none) none) (some [(.agg (zA (⟨c.Memory,t,c.Buffer,c.IoBuffer⟩:Host)))]))) (fun i hi t rec=>?_) (fun t rec=>?_) _ (c.Mons) (hNN hg)).trans ?_
 ·simp only [zbv hi,zbg hi,zbq hi,zbf hi hg,cT];rfl
 ·simp only [zbj,cF]
 obtain ⟨k,rfl,hk⟩:=zej (n:=c.Mons.length) hm;rw [zxs (fun i t κ=>zWz (k:Int) a1 i t κ)];have e0:c.Mons=up c.Mons (k:Int) (zjF (ix c.Mons (k:Int) mZ) a1 0):=(zVD hk _).symm;refine (congrArg _ e0).trans ((zVa hk a1 g1 g2.2.2.2 _ _ 0 (Nat.zero_add _)).trans ?_)
 show (cond (ine a2.Page (-1)) _ _)=some [AV.agg (zA (zzM c (k:Int) a1 a2))]
 unfold zzM;cases ine a2.Page (-1)
 ·rfl
 ·exact must rfl (must (zbt hs.1.2.2.1) (must (zbt hs.1.2.2.2) rfl))
theorem zBv:zeJ Tryz.prog 215 [true,true,true,true] zkk:=by
 refine zhC (zdF zgr zD zu zc3) (zC (by kernel_rfl)) ?_
 intro cs avs cs' rs hl hr h;have hb:=zi7 hr;unfold zkk at h;split at h
 ·obtain ⟨hc,rfl,rfl⟩:=zkI h;obtain ⟨N,hN⟩:=zFz _ _ _ _ (by exact hb) hc
  exact ⟨rfl,_,N,12,(zIb N _ _ _ _ ).trans hN⟩
 ·cases h
def zXe:zy3:=[(215,([true,true,true,true],zkk))]++zK
theorem zLy:∀f own run,zx zXe f=some (own,run)->zeJ Tryz.prog f own run:=ztj zu (by
 intro x hx;simp only [List.mem_cons,List.not_mem_nil,or_false] at hx;rcases hx with rfl
 ·exact zBv)
def zfm (h:Host)(m p:Int):Host:={ h with Mons:=up h.Mons m { ix h.Mons m mZ with Out:=up (ix h.Mons m mZ).Out p (zha h.Memory (ix (ix h.Mons m mZ).Outer p sZ).Page) } }
def zfe (h:Host)(m p:Int):Host:=zeC (zfm h m p) m p noSlot
theorem zR3 {m:List (List Int)}{p:Int}(h:SmM m):(zha m p).length<=1048576:=by
 unfold zha;cases hh:hasB p (ln m)
 ·exact (by decide:zAm.length<=1048576)
 ·exact h.2 _ (zdd hh _)
theorem zxe {h:Host}{m p:Int}(hs:Shape h)(hm:hasB m (ln h.Mons)=true):Shape (zfm h m p):=by
 obtain ⟨g1,g2⟩:=zck hs hm;exact zhp hs ⟨g1.1,zIv g1.2.1 (zR3 hs.1.1),g1.2.2⟩ ⟨g2.1,by simpa using g2.2.1,g2.2.2⟩
theorem zXp {h:Host}{m p:Int}(hs:Shape h)(hm:hasB m (ln h.Mons)=true):Shape (zfe h m p):=zq3 (zeb hm) (zxe hs hm)
@[simp,reducible] def zAf (h:Host)(m p:Int):Bool:=pc (Shape h/\hasB m (ln h.Mons)=true/\hasB p 8=true)
@[simp,reducible] def zcL (h:Host)(m p:Int):Host:=zfe h m p
def zuw:List AV->Option (Bool×List AV)
 | [.agg [.s (.sl .int) b,.s .mon c,.s .entry d,.s .entry e],.one (.i .i64 f),.one (.i .i64 g)]=>some ((zAf (⟨b,c,d,e⟩:Host) f g),[.agg (zA (zcL (⟨b,c,d,e⟩:Host) f g))])
 | _=>none
def zy2 (N:Nat)(a0:Host)(a1 a2:Int):Option Ans :=
 (cond (inb a1 (ln a0.Mons)) (cond (inb a1 (ln a0.Mons)) (cond (inb a2 (ln (ix a0.Mons a1 zf).Outer)) (cond (zz9 a0.Memory (ix (ix a0.Mons a1 zf).Outer a2 zQ).Page) (cond (inb a2 (ln (ix a0.Mons a1 zf).Out)) (share (up a0.Mons a1 ({ (ix a0.Mons a1 zf) with Out:=(up (ix a0.Mons a1 zf).Out a2 (zz8 a0.Memory (ix (ix a0.Mons a1 zf).Outer a2 zQ).Page)) }:Mon)) (fun x4=>(cond zc6 (cond (zfo ({ a0 with Mons:=x4 }:Host) a1 a2 zb0) (some [(.agg (zA (zhe ({ a0 with Mons:=x4 }:Host) a1 a2 zb0)))]) none) none))) none) none) none) none) none)
theorem zUw (N:Nat)(a0:Host)(a1 a2:Int):zCq (cQ zkL zV zXe zfG) (zB []) N 12 227 [true,true,true,true,false,false] 1 1 [[0],[1],[2],[4],[7]] .mon [.agg (zA a0),.one (.i .i64 a1),.one (.i .i64 a2)]=zy2 N a0 a1 a2:=by kernel_rfl
theorem zQ1 (a0:Host)(a1 a2:Int)(hb:zG big [.agg (zA a0),.one (.i .i64 a1),.one (.i .i64 a2)])(hc:(zAf a0 a1 a2)=true):∃N,zy2 N a0 a1 a2=some [.agg (zA (zcL a0 a1 a2))]:=by
 obtain ⟨hs,hm,hp⟩:=zJ.1 hc;obtain ⟨g1,g2⟩:=zck hs hm;obtain ⟨k,rfl,hk⟩:=zej (n:=a0.Mons.length) hm;have hS:=zxe (p:=a2) hs hm;refine ⟨0,?_⟩;unfold zy2;refine must (zF hm) (must (zF hm) (must (zF (zda g2.1 hp)) (must (zbt ((znF _).2 hs.1.1)) (must (zF (zda g2.2.1 hp)) (shr (must rfl (must (zbt ⟨(zbo _).2 hS.1,zeb hm,?_,?_⟩) rfl)))))))
 ·simp only [ze3 hk];exact zda g2.1 hp
 ·simp only [ze3 hk];exact Nat.le_of_eq g2.2.2.2
theorem zKk:zez Tryz.prog 227 [true,true,true,true,false,false] (some (1,1,[[0],[1],[2],[4],[7]])) zuw:=by
 refine zjR (kt:=.mon) (zdF zgr zD zLy zc3) (zC (by kernel_rfl)) (by kernel_rfl) ?_
 intro avs rs hl hr h;have hb:=zi8 hr;unfold zuw at h;split at h
 ·obtain ⟨hc,rfl⟩:=zl h;obtain ⟨N,hN⟩:=zQ1 _ _ _ (by exact hb) hc
  exact ⟨⟨_,rfl⟩,rfl,_,N,12,(zUw N _ _ _ ).trans hN⟩
 ·cases h
@[simp,reducible] def zFo (h:Host)(m p:Int):Bool:=pc (Shape h/\hasB m (ln h.Mons)=true/\hasB p 8=true)
@[simp,reducible] def zFp (h:Host)(m p:Int):Host:=zfe h m p
def zwK:List CV->List AV->Option (Bool×List CV×List AV)
 | [.s (.sl .int) b,.s .mon c,.s .entry d,.s .entry e],[.one (.i .i64 f),.one (.i .i64 g)]=>some ((zFo (⟨b,c,d,e⟩:Host) f g),zA (zFp (⟨b,c,d,e⟩:Host) f g),[])
 | _,_=>none
def zEk (N:Nat)(c:Host)(a0 a1:Int):Option Ans :=
 (cond (inb a0 (ln c.Mons)) (cond (inb a1 (ln (ix c.Mons a0 zf).Outer)) (cond (zhZ c.Memory (ix (ix c.Mons a0 zf).Outer a1 zQ).Page) (cond (inb a1 (ln (ix c.Mons a0 zf).Out)) (share (up c.Mons a0 ({ (ix c.Mons a0 zf) with Out:=(up (ix c.Mons a0 zf).Out a1 (zk3 c.Memory (ix (ix c.Mons a0 zf).Outer a1 zQ).Page)) }:Mon)) (fun x4=>(cond zc4 (cond (inb a1 (ln (ix x4 a0 zf).Outer)) (share (up x4 a0 ({ (ix x4 a0 zf) with Outer:=(up (ix x4 a0 zf).Outer a1 zcE) }:Mon)) (fun x5=>(cond (zd6 ({ c with Mons:=x5 }:Host) a0 a1 (ix (ix c.Mons a0 zf).Outer a1 zQ)) (some [(.agg (zA (zd7 ({ c with Mons:=x5 }:Host) a0 a1 (ix (ix c.Mons a0 zf).Outer a1 zQ))))]) none))) none) none))) none) none) none) none)
theorem zYh (N:Nat)(c:Host)(a0 a1:Int):zzh (cQ zkL zV zXe zfG) (zB []) N 12 252 [true,true,true,true] (zA c) [.one (.i .i64 a0),.one (.i .i64 a1)]=zEk N c a0 a1:=by kernel_rfl
theorem zWH (c:Host)(a0 a1:Int)(hb:zG big (.agg (zA c) :: [.one (.i .i64 a0),.one (.i .i64 a1)]))(hc:(zFo c a0 a1)=true):∃N,zEk N c a0 a1=some (.agg (zA (zFp c a0 a1)) :: []):=by
 obtain ⟨hs,hm,hp⟩:=zJ.1 hc;obtain ⟨g1,g2⟩:=zck hs hm;obtain ⟨k,rfl,hk⟩:=zej (n:=c.Mons.length) hm;have hS:=zxe (p:=a1) hs hm;have hm':hasB (k:Int) (ln (zfm c (k:Int) a1).Mons)=true:=zeb hm;have hk':k<(zfm c (k:Int) a1).Mons.length:=by simpa [zfm] using hk
 have ex:ix (zfm c (k:Int) a1).Mons (k:Int) mZ={ ix c.Mons (k:Int) mZ with Out:=up (ix c.Mons (k:Int) mZ).Out a1 (zha c.Memory (ix (ix c.Mons (k:Int) mZ).Outer a1 sZ).Page) }:=ze3 hk _ _;have hX:Shape { zfm c (k:Int) a1 with Mons:=up (zfm c (k:Int) a1).Mons (k:Int) { ix (zfm c (k:Int) a1).Mons (k:Int) mZ with Outer:=up (ix (zfm c (k:Int) a1).Mons (k:Int) mZ).Outer a1 noSlot } }:=by
  obtain ⟨q1,q2⟩:=zck hS hm';exact zhp hS ⟨by simpa using q1.1,q1.2⟩ ⟨by simpa using q2.1,q2.2⟩
 refine ⟨0,?_⟩;unfold zEk;refine must (zF hm) (must (zF (zda g2.1 hp)) (must (zbt ((znF _).2 hs.1.1)) (must (zF (zda g2.2.1 hp)) (shr (must rfl (must ?_ (shr (must (zbt ⟨hX,zeb hm'⟩) ?_))))))))
 ·rw [ze3 hk];exact zF (zda g2.1 hp)
 ·have:=zAh (p:=a1) (s:=noSlot) hk' (by rw [ex];exact g2.2.2.2)
  rw [ex] at this
  show some [AV.agg (zA (zzM { zfm c (k:Int) a1 with Mons:=up (zfm c (k:Int) a1).Mons (k:Int) { ix (zfm c (k:Int) a1).Mons (k:Int) mZ with Outer:=up (ix (zfm c (k:Int) a1).Mons (k:Int) mZ).Outer a1 noSlot } } (k:Int) a1 (ix (ix c.Mons (k:Int) mZ).Outer a1 sZ)))]=_
  rw [ex];exact congrArg (fun x=>some [AV.agg (zA x)]) this
theorem zPL:zeJ Tryz.prog 252 [true,true,true,true] zwK:=by
 refine zhC (zdF zgr zD zLy zc3) (zC (by kernel_rfl)) ?_
 intro cs avs cs' rs hl hr h;have hb:=zi7 hr;unfold zwK at h;split at h
 ·obtain ⟨hc,rfl,rfl⟩:=zkI h;obtain ⟨N,hN⟩:=zWH _ _ _ (by exact hb) hc
  exact ⟨rfl,_,N,12,(zYh N _ _ _ ).trans hN⟩
 ·cases h
def zXf:zy3:=[(252,([true,true,true,true],zwK))]++zXe
theorem zLz:∀f own run,zx zXf f=some (own,run)->zeJ Tryz.prog f own run:=ztj zLy (by
 intro x hx;simp only [List.mem_cons,List.not_mem_nil,or_false] at hx;rcases hx with rfl
 ·exact zPL)
def zXw:zy4:=[(227,([true,true,true,true,false,false],(some (1,1,[[0],[1],[2],[4],[7]])),zuw))]++zfG
theorem zLF:∀f own inp run,zx zXw f=some (own,inp,run)->zez Tryz.prog f own inp run:=zuJ zc3 (by
 intro x hx;simp only [List.mem_cons,List.not_mem_nil,or_false] at hx;rcases hx with rfl
 ·exact zKk)
end
end Go.Proofs.YtdmheolglokabaaGreat.E
