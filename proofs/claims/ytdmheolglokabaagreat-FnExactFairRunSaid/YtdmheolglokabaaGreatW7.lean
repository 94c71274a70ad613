/- What is proved here: FnExactFairRun: for every input the law returns true, and each argument reads afterwards as it read before. No conditions. -/
import Derived.Test.YtdmheolglokabaaGreatW6
namespace Go.Proofs.YtdmheolglokabaaGreat.E
open Go
set_option linter.unusedVariables false
set_option maxRecDepth 100000
set_option linter.unusedSimpArgs false
set_option linter.unusedSectionVars false
noncomputable section
section
open Go Go.ChangeShapes Go.WideShapes Go.ChangeAt
def z0V:zbP:=[(13,zqw),(12,zrd)]++z0J
theorem zZ3:zbv z0V:=zn zG5 (zn zHh zZF)
def zje (N:Nat)(a0:Host)(a1:Int):Option Ans :=
 (cond (zrN a0 1048576) (cond (ilt (zfe a0 1048576) 0) (some [(.one (.b true))]) (cond (zia a0) (cond (zpd (zY a0) a1) (cond (zia a0) (cond (zkB (zY a0) a1) (cond (zh2 (zbD (zY a0) a1) (zfo (zY a0) a1)) (cond (cond (zjt (zbD (zY a0) a1) (zfo (zY a0) a1)) false true) (some [(.one (.b false))]) (cond (ine (ziI (zY a0) a1) (ziU (zY a0) a1)) (some [(.one (.b false))]) (cond (zia a0) (cond (zh2 (zY a0) (zY a0)) (cond (cond (zjt (zY a0) (zY a0)) false true) (some [(.one (.b false))]) (cond (ze3 (zY a0).Memory 1) (share (zfV (zY a0).Memory 1) (fun x3=>(cond (zhQ (zY a0).Mons (zX (zY a0).Memory 1)) (share (zja (zY a0).Mons (zX (zY a0).Memory 1)) (fun x4=>(cond (zdK (zY a0).Buffer (zbX (zY a0).Mons (zX (zY a0).Memory 1))) (share (zeA (zY a0).Buffer (zbX (zY a0).Mons (zX (zY a0).Memory 1))) (fun x5=>(cond (zdK (zY a0).IoBuffer (zbQ (zY a0).Buffer (zbX (zY a0).Mons (zX (zY a0).Memory 1)))) (share (zeA (zY a0).IoBuffer (zbQ (zY a0).Buffer (zbX (zY a0).Mons (zX (zY a0).Memory 1)))) (fun x6=>(cond (ilt (zbQ (zY a0).IoBuffer (zbQ (zY a0).Buffer (zbX (zY a0).Mons (zX (zY a0).Memory 1)))) 0) (some [(.one (.b false))]) (cond (zh2 (zbD (zY a0) a1) (zfo (zY a0) a1)) (cond (cond (zjt (zbD (zY a0) a1) (zfo (zY a0) a1)) false true) (some [(.one (.b false))]) (cond (ine (ziI (zY a0) a1) (ziU (zY a0) a1)) (some [(.one (.b false))]) (cond (ze3 (zbD (zY a0) a1).Memory 1) (share (zfV (zbD (zY a0) a1).Memory 1) (fun x7=>(cond (zhQ (zbD (zY a0) a1).Mons (zX (zbD (zY a0) a1).Memory 1)) (share (zja (zbD (zY a0) a1).Mons (zX (zbD (zY a0) a1).Memory 1)) (fun x8=>(cond (zdK (zbD (zY a0) a1).Buffer (zbX (zbD (zY a0) a1).Mons (zX (zbD (zY a0) a1).Memory 1))) (share (zeA (zbD (zY a0) a1).Buffer (zbX (zbD (zY a0) a1).Mons (zX (zbD (zY a0) a1).Memory 1))) (fun x9=>(cond (zdK (zbD (zY a0) a1).IoBuffer (zbQ (zbD (zY a0) a1).Buffer (zbX (zbD (zY a0) a1).Mons (zX (zbD (zY a0) a1).Memory 1)))) (share (zeA (zbD (zY a0) a1).IoBuffer (zbQ (zbD (zY a0) a1).Buffer (zbX (zbD (zY a0) a1).Mons (zX (zbD (zY a0) a1).Memory 1)))) (fun x10=>(cond (zjB (⟨x7,x8,x9,x10⟩:Host) 1) (cond (ilt (zf0 (⟨x7,x8,x9,x10⟩:Host) 1) 0) (some [(.one (.b false))]) (cond (ine (zf0 (⟨x7,x8,x9,x10⟩:Host) 1) (zbQ (zbD (zY a0) a1).IoBuffer (zbQ (zbD (zY a0) a1).Buffer (zbX (zbD (zY a0) a1).Mons (zX (zbD (zY a0) a1).Memory 1))))) (some [(.one (.b false))]) (cond (zia a0) (cond (zkB (zY a0) a1) (cond (zh2 (zbD (zY a0) a1) (zfo (zY a0) a1)) (cond (cond (zjt (zbD (zY a0) a1) (zfo (zY a0) a1)) false true) (some [(.one (.b false))]) (cond (ine (ziI (zY a0) a1) (ziU (zY a0) a1)) (some [(.one (.b false))]) (cond (zjB (⟨x7,x8,x9,x10⟩:Host) 1) (cond (ilt (zf0 (⟨x7,x8,x9,x10⟩:Host) 1) 0) (some [(.one (.b false))]) (cond (ine (zf0 (⟨x7,x8,x9,x10⟩:Host) 1) (zbQ (zbD (zY a0) a1).IoBuffer (zbQ (zbD (zY a0) a1).Buffer (zbX (zbD (zY a0) a1).Mons (zX (zbD (zY a0) a1).Memory 1))))) (some [(.one (.b false))]) (some [(.one (.b true))]))) none))) none) none) none))) none))) none))) none))) none))) none))) none)))) none))) none))) none))) none)) none) none))) none) none) none) none) none)) none)
theorem zAP (N:Nat)(a0:Host)(a1:Int):evalFn (cQ z0V zV zgI zjC) (zB []) N 12 4 [.agg (zx a0),.one (.i .i64 a1)]=zje N a0 a1:=by kernel_rfl
theorem zAp (a0:Host)(a1:Int)(ho:∀c∈zJ [.agg (zx a0),.one (.i .i64 a1)],CVOk c):∃N,zje N a0 a1=some [.one (.b true)]:=by
 have hb:zG big [.agg (zx a0),.one (.i .i64 a1)]:=fun c hc=>CVB.of_ok (ho c hc);refine ⟨0,?_⟩;unfold zje;rw [zYO,cT];cases hz:ilt (zfe a0 1048576) 0
 ·obtain ⟨hs,h0,h1⟩:=zWW (by omega) (by omega) hz
  have M:=zYC (by omega) (by omega) h0 1 (by decide) (by decide)
  have hb:=zXI (by omega) (by omega) h0
  have hS:=(zbg a0).1 hs;have R:=z3m (h:=(zeV (brought a1 0 40).toNat (0,a0)).2) (z1U hb hS (zRi _ (0,a0) hS) (fun hh=>zMH hh _ _));have s1:zpd a0 a1=true:=zU hs;have i1:zkB a0 a1=true:=zU hs;have r1:=R.hc;have r2:=R.e;have r3:=R.nn;unfold zlL at r1 r2;unfold zRh at r2 r3;rw [cF,zQO hs,cT,zL8,s1,cT,i1,cT];simp only [zfo,ziU,zbD,ziI];generalize (zeV (brought a1 0 40).toNat (0,a0)).2=g at *;simp only [share,zQO hs,zL8,zZw,zZP,zb2,M.c1,M.c2,M.c3,M.c4,zeC M.nn,R.c1,R.c2,R.c3,R.c4,s1,i1,r1,r2,r3,zb2,Bool.not_true,cT,cF]
 ·rfl
theorem zwf:Tryz.f4.params.toList.map (zcp Tryz.prog 4)=[some (true,[.s (.sl .int),.s .mon,.s .entry,.s .entry]),some (false,[.i .i64])]:=by kernel_rfl
theorem zt1:zVz 4 Tryz.f4.params.toList:=by
 refine zTH zZ3 zD zdS zeW (zC (by kernel_rfl)) ?_
 intro avs hg;obtain ⟨h1,h2⟩:=hg;rw [zwf] at h1;obtain ⟨v0,r0,rfl,e0,h1⟩:=zCt h1;obtain ⟨v1,r1,rfl,e1,h1⟩:=zCt h1;cases List.map_eq_nil_iff.1 h1;obtain ⟨a0,rfl⟩:=z1q e0;obtain ⟨a1,rfl⟩:=z3q e1;obtain ⟨N,hN⟩:=zAp a0 a1 h2;exact ⟨zB [],N,12,(zAP N a0 a1).trans hN⟩
theorem zxK (H:Type)(ds:List (DataW H))(h:ds.length=Tryz.f4.params.toList.length):Rows.fnExactFairRunSpec.fn H ds={ results:=[.lit (.bool true)],args:=ds }:=by
 have hl:ds.length=2:=h.trans (by kernel_rfl)
 match ds,hl with
 | [d1,d2],_=>rfl
set_option maxRecDepth 100000 in
theorem zu0 (os:Os)(started:os.Started)(H:Type)(enc:TypeId×Value->H) :
 ReturnsInHanded {} Tryz.checked os 4 .any (Rows.fnExactFairRunSpec.pre6 enc Tryz.prog Tryz.f4 Rows.fnExactFairRunRow.domain false) (Rows.fnExactFairRunSpec.post enc Tryz.prog Tryz.f4 false true false false):=by
 refine returnsInHanded_of_change_shaped (C:=Tryz.checked) own started (by kernel_rfl) Tryz.func4
  (ChangeSpec.witness6 (enc:=enc) (C:=Tryz.checked) false ⟨#[],#[.agg #[.slice none 0 0,.slice none 0 0,.slice none 0 0,.slice none 0 0],.int .i64 0],[]⟩ 8 (by kernel_rfl) (by kernel_rfl) (by kernel_rfl) (by kernel_rfl)) ?_
 intro W base args ds gs before hval hW _ hsz _ _;exact zHv (P:=Tryz.prog) zZv zZN rfl zxK (by kernel_rfl) (B:=4) (by kernel_rfl) (by kernel_rfl) zt1 W base args ds gs before hval hW hsz
theorem said_fnExactFairRun:Rows.FnExactFairRunSaid :=
 OpenClaim.holds_of_wide 4 Tryz.f4 rfl rfl rfl rfl rfl rfl rfl ⟨rfl,rfl,rfl,rfl,rfl⟩ rfl rfl rfl rfl rfl (by kernel_rfl) Tryz.func4 (by kernel_rfl)
  (of_decide_eq_true (by kernel_rfl)) (by unfold Func.isWrapper;first|(rw [if_pos (by decide +kernel)];kernel_rfl)|(rw [if_neg (by decide +kernel)];exact ⟨rfl,rfl⟩))
  (fun os started H enc _=>zu0 os started H enc)
end
end
end Go.Proofs.YtdmheolglokabaaGreat.E
