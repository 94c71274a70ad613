/- What is proved here: FnSilent: for every input the law returns true, and each argument reads afterwards as it read before. No conditions. -/
import Derived.Test.YtdaahiceaagpdaaGreatW6
namespace Go.Proofs.YtdaahiceaagpdaaGreat.E
open Go
set_option linter.unusedVariables false
set_option maxRecDepth 100000
set_option linter.unusedSimpArgs false
set_option linter.unusedSectionVars false
noncomputable section
def zTb (l:List Int):Prop:=l.length=12/\∀i:Int,0<=i->i<12->0<=ix l i 0/\ix l i 0<10000
def z7g:zdw:=z0v
theorem z4Z:zct z7g:=zzf
def zbal:zdw:=z7g
theorem z5a:zct zbal:=z4Z
def zk7 (N:Nat)(a0:List Int):OA:=
 (iter (σ:=(Int×(Int×((List Int)×((List Int)×Unit))))) N (fun r2 s3=>let y4:=s3.2.2.1; (cond (ilt s3.2.1 (ln y4)) (cond (ilt s3.2.1 4000) (oN (inb s3.2.1 (ln y4)) (r2 ((wand .i64 (zI .i64 (zI .i64 (zl2 .i64 s3.1 131) (wcv .i64 (ix y4 s3.2.1 0))) 7) 1073741823),((zI .i64 s3.2.1 1),(y4,(s3.2.2.2.1,())))))) (iter (σ:=(Int×(Int×(Int×((List Int)×((List Int)×Unit)))))) N (fun r4 s5=>let y0:=(⟨s5.2.2.2.2.1,s5.2.1,s5.2.2.1⟩:Cur);let y2:=(ap s5.2.2.2.1 [(zba y0 10000)]); (cond (ilt s5.1 12) (oN (zY y0 10000) (oN (few (ln y2)) (r4 ((zI .i64 s5.1 1),((zD y0 10000).i,((zD y0 10000).h,(y2,(s5.2.2.2.2.1,())))))))) (some [(aS .int s5.2.2.2.1)]))) (0,(0,(s3.1,([],(y4,()))))))) (iter (σ:=(Int×(Int×(Int×((List Int)×((List Int)×Unit)))))) N (fun r4 s5=>let y1:=(⟨s5.2.2.2.2.1,s5.2.1,s5.2.2.1⟩:Cur);let y3:=(ap s5.2.2.2.1 [(zba y1 10000)]); (cond (ilt s5.1 12) (oN (zY y1 10000) (oN (few (ln y3)) (r4 ((zI .i64 s5.1 1),((zD y1 10000).i,((zD y1 10000).h,(y3,(s5.2.2.2.2.1,())))))))) (some [(aS .int s5.2.2.2.1)]))) (0,(0,(s3.1,([],(y4,())))))))) ((zI .i64 94701 (ln a0)),(0,(a0,([],())))))
def zI1:FuncId->Nat->Option Tmpl:=zq [(32,0,{ n:=32,tm:=[(0,.sl 0 []),(3,ti),(4,ti)],lo:=[],ro:=[(0,.u8,false),(1,.int,true)],sk:=[(0,2,0,.sl 1 [])] }),(9,0,{ n:=19,tm:=[(3,.lp 0 0),(4,.sl 0 []),(5,ti)],lo:=[(0,[.sl 1 [],ti,ti])],ro:=[(0,.int,true),(1,.u8,false)] })]
def zhM (a0:List Int)(v0:List Int):Prop:=(∃N,zk7 N a0=some [aS .int v0])/\(zTb v0)
def zg4 (a0:List Int):Bool:=pc (∃v0,zhM a0 v0)
def zyb (a0:List Int):List Int:=Classical.epsilon fun r=>zhM a0 r
def zge (a0:List Int):List Int:=(zyb a0)
theorem zya {a0:List Int}(h:zg4 a0=true):zhM a0 (zge a0):=by
 obtain ⟨v0,h2⟩:=zF.1 h;have h3:zhM a0 (zyb a0):=Classical.epsilon_spec (p:=fun r=>zhM a0 r) ⟨v0,h2⟩;exact h3
theorem zPh (a0:List Int)(h:∃N,Ends (fun a=>∃v0,a=[aS .int v0]/\(zTb v0)) (zk7 N a0)):zg4 a0=true:=by
 obtain ⟨N,a,e,v0,rfl,h⟩:=h;exact zU ⟨v0,⟨N,e⟩,h⟩
def zt7:Run:=rF1 (dS .u8) fun b=>(zg4 b,[aS .int (zge b)])
theorem zIw (a0:List Int)(hc:zg4 a0=true):∃N,zk7 N a0=some [aS .int (zge a0)]:=by
 exact (zya hc).1
theorem zCh:vJ 9 zt7:=kF1 zBZ zbo z5a zo zI1 zIw
theorem zVD {a0:List Int}(h:a0.length<=big):zg4 a0=true:=by
 refine zPh a0 (zce fun N hNN=>?_);unfold zk7 oN
 conv=>zeta
 have h12:12<N:=hNN (by rw[zs5];omega)
 refine zxc (fun n s=>∃(t:Int) (i:Nat),s=(t,(i:Int),a0,[],())/\i+n=a0.length) ?_ N a0.length _ ⟨_,0,rfl,by omega⟩ (hNN h)
 rintro n s rec ⟨t,i,rfl,hi⟩ hrec
 dsimp only
 refine zdn (fun h1=>zdn (fun h2=>?_) (fun _=>?_)) (fun _=>?_)
 .have hlt:(i:Int)<ln a0:=qE h1;unfold ln at hlt;refine zbq (qJ ⟨by omega,by unfold ln;omega⟩) (hrec (n-1) _ (by omega) (by rw[zZ (show i<a0.length by omega) h];exact ⟨_,i+1,rfl,by omega⟩))
 all_goals
  refine zxc (fun n s=>∃(k:Nat) (i x:Int) (l:List Int),s=((k:Int),i,x,l,a0,())/\k+n=12/\0<=i/\l.length=k/\∀y∈l,0<=y/\y<10000) ?_ N 12 _ ⟨0,0,t,[],rfl,rfl,jW 0,rfl,by simp⟩ h12
  rintro n' s rec' ⟨k,i',x,l,rfl,hk,hi0,hlk,hl⟩ hrec'
  dsimp only
  have hcur:zdI ⟨a0,i',x⟩:=⟨hi0,h⟩;have hx:=zmZ hcur (n:=10000) (by omega)
  refine zdn (fun h3=>?_) (fun h3=>⟨_,rfl,l,rfl,?_⟩)
  .have h3':(k:Int)<12:=qE h3;have hnew:∀y∈ap l [zba ⟨a0,i',x⟩ 10000],0<=y/\y<10000:=by
    intro y hy;rcases jK.1 hy with hy|hy
    .exact hl y hy
    .rw [qF.1 hy];exact hx
   exact zbq (zii hcur _) (zbq (zxe (by rw[zqq];unfold ln;omega)) (hrec' (n'-1) _ (by omega) (by rw[zlU (show -9223372036854775808<=(k:Int)+1 by omega) (by omega)];exact ⟨k+1,_,_,_,rfl,by omega,zcy _ _,by simp[ap,hlk],hnew⟩)))
  .have h3':¬ (k:Int)<12:=jT h3;exact ⟨by omega,fun j h0 h1=>hl _ (zbu (qJ ⟨h0,by unfold ln;omega⟩) 0)⟩
theorem zVc {α β:Type}{f:α->β}{l:List α}{x:β}{xs:List β}(h:l.map f=x :: xs):∃a r,l=a :: r/\f a=x/\r.map f=xs:=by
 cases l with
 | nil=>cases h
 | cons a r =>
  simp only[jC,List.cons.injEq]at h;exact ⟨a,r,rfl,h.1,h.2⟩
theorem z9S {a:AV}{ct:CTy}(h:some a.sh=some (false,[ct])):∃c,a = .one c/\c.ty=ct:=by
 cases a with
 | one c =>
  simp only[AV.sh,qC,jR,List.cons.injEq,and_true,true_and]at h;exact ⟨c,rfl,h⟩
 | agg l=>simp[AV.sh]at h
theorem sh_s {a:AV}{t:Ty}(h:some a.sh=some (false,[.s t])):∃l:List t.den,a = .one (.s t l):=by
 obtain ⟨c,rfl,hc⟩:=z9S h;obtain ⟨l,rfl⟩:=zld hc;exact ⟨l,rfl⟩
section
open Go Go.ChangeShapes Go.WideShapes Go.ChangeAt
abbrev zOh (_:List Int):Bool:=true
abbrev zLv (l:List Int):Bool:=igt (ln l) 1048576
def zQS:Run:=rF1 (dS .u8) fun b=>(zOh b,[aB (zLv b)])
def zYa (N:Nat)(a0:List Int):OA:=
 (some [(aB (igt (ln a0) 1048576))])
theorem z2m (a0:List Int)(hc:zOh a0=true):∃N,zYa N a0=some [aB (zLv a0)]:=by
 refine ⟨0,?_⟩;unfold zYa
 first|rfl|(simp only [*,zLv,cT,cF]<;>rfl)|simp_all[Ty.cells,zLv]
theorem zWY:vJ 7 zQS:=kF1 zBZ zbo zzf zo (zq []) z2m
def z6P:zO:=[(7,zQS),(9,zt7),(19,zxN),(20,zDu),(17,zpO),(18,zpN),(21,zGF)]++z1j
theorem z4j:zG z6P:=zh zWY (zh zCh (zh zHR (zh zNY (zh ztI (zh ztH (zh zRf zBZ))))))
def znV (N:Nat)(a0:List Int):OA:=
 let y5:=(zoR a0);let y0:=(ziK (ix (zge a0) 0 0) (ln y5.Mons));let y7:=(ln (ix y5.Mons y0 zf).Guests);let y3:=(zkt y5 y0 0);let y2:=(zkt y5 y0 3);let y1:=(ziK (ix (zge a0) 1 0) y7);let y6:=(zof y3 y0 y1);let y4:=(zof y2 y0 y1); (oN (zOh a0) (cond (zLv a0) oT (oN (ziC a0) (oN (zg4 a0) (oN (inb 0 (ln (zge a0))) (oN (ine (ln y5.Mons) 0) (oN (inb 1 (ln (zge a0))) (oN (inb y0 (ln y5.Mons)) (oN (ine y7 0) (oN (zoo y5 y0 3) (oN (zoo y5 y0 0) (oN (zoh y2 y0 y1) (oN (zoh y3 y0 y1) (cond (zon y5 y0 3) (cond (ziX (zog y2 y0 y1) (zog y3 y0 y1)) (oN (zsR y4 y0) (oN (zsR y6 y0) (oN (ztV (znn y4 y0) (znn y6 y0)) (cond (zsF (znn y4 y0) (znn y6 y0)) (oN (ziO y6 y0) (oN (ziO y3 y0) (cond (ieq (zfF y6 y0) (zfF y3 y0)) (oN (ziO y4 y0) (oN (ziO y2 y0) (cond (ige (zfF y4 y0) (zfF y2 y0)) (oN (ziO y4 y0) (oN (ziO y2 y0) (some [(aB (ile (zfF y4 y0) (zI .i64 (zfF y2 y0) 1)))]))) oF))) oF))) oF)))) oF) oF))))))))))))))
theorem zSr (N:Nat)(a0:List Int):evalFn (cQ z6P znd z0v zk0) (zq []) N 12 4 [aS .u8 a0]=znV N a0:=by kernel_rfl
theorem zKk (N:Nat)(a0:List Int)(hl:a0.length<=big):Ends (fun a=>a=[.one (.b true)]) (znV N a0):=by
 unfold znV oN
 conv=>zeta
 refine zbq rfl (zdn (fun _=>zKj rfl) (fun _=>zbq (zKi hl) (zbq (zVD hl) ?_)));obtain ⟨S,hs⟩:=z4I (zDH (zKi hl)).2;obtain ⟨hp1,hp2⟩:=(zya (zVD hl)).2;generalize zoR a0=h at S hs;generalize zge a0=p at hp1 hp2;have hS:zb2 h:=(zK h).2 hs;have hn1:=S.ok.n1;have hlp:ln p=12:=by unfold ln;omega
 have hM:(0:Int)<ln h.Mons:=by unfold ln;omega
 have c1:inb 0 (ln p)=true:=zx (zB.2 (by omega))
 have c2:inb 1 (ln p)=true:=zx (zB.2 (by omega))
 have mM:=zPH (hp2 0 (by omega) (by omega)).1 hM
 have hm:hasB (ziK (ix p 0 0) (ln h.Mons)) (ln h.Mons)=true:=zB.2 mM;refine zbq c1 (zbq (ztd.2 (by omega)) (zbq c2 ?_))
 generalize ziK (ix p 0 0) (ln h.Mons)=m at mM hm;have hG:(0:Int)<ln (ix h.Mons m mZ).Guests:=by have:=(S.ok.mon hm).g1;unfold ln;omega
 refine zbq (zx hm) (zbq (ztd.2 (Int.ne_of_gt hG)) ?_);generalize ziK (ix p 1 0) (ln (ix h.Mons m zf).Guests)=g;obtain ⟨k1,k2,k3,k4,k5,k6,k7,k8,k9,k10,k11⟩:=silent S hm g;have s3:SmH (zbn h m 3):=zDX hs;have s0:SmH (zbn h m 0):=zDX hs;have t3:SmH (zS (zbn h m 3) m g).1:=(zDS m g s3).sm;have t0:SmH (zS (zbn h m 0) m g).1:=(zDS m g s0).sm;have p3:=(zK _).2 s3;have p0:=(zK _).2 s0;have q3:=(zK _).2 t3;have q0:=(zK _).2 t0;have w:zI .i64 (zeG (zbn h m 3) m) 1=zeG (zbn h m 3) m+1:=zlU (by omega) (by omega)
 have own:∀r:Host,hasB m (ln r.Mons)=true->zfF r m=zeG r m:=fun r hr=>by
  show (cond (hasB m (ln r.Mons)) (ix r.Mons m mZ) mZ).Own=_
  rw[hr];rfl
 have o3:=own _ k8;have o0:=own _ k9;have u3:=own _ k10;have u0:=own _ k11;refine zbq (zU hS) (zbq (zU hS) (zbq (zU p3) (zbq (zU p0) (zbq k1 (zbq ?_ (zbq (zU q3) (zbq (zU q0) (zbq (zU k3) (zbq rfl (zbq (zU q0) (zbq (zU p0) (zbq ?_ (zbq (zU q3) (zbq (zU p3) (zbq ?_ (zbq (zU q3) (zbq (zU p3) (zKj ?_))))))))))))))))))
 .show ziX (zS (zbn h m 3) m g).2 (zS (zbn h m 0) m g).2=true
  rw[k2];exact ziL _
 .show ieq (zfF (zS (zbn h m 0) m g).1 m) (zfF (zbn h m 0) m)=true
  rw[u0,o0,k4];exact zhe _
 .show ige (zfF (zS (zbn h m 3) m g).1 m) (zfF (zbn h m 3) m)=true
  rw[u3,o3];exact qJ (by omega)
 .show [AV.one (.b (ile (zfF (zS (zbn h m 3) m g).1 m) (zI .i64 (zfF (zbn h m 3) m) 1)))]=_
  rw[u3,o3,w,show ile (zeG (zS (zbn h m 3) m g).1 m) (zeG (zbn h m 3) m+1)=true from qJ (by omega)]
theorem zM0 (a0:List Int)(ho:∀c∈zA [aS .u8 a0],CVOk c):∃N,znV N a0=some [.one (.b true)]:=by
 have hb:zbN big [aS .u8 a0]:=fun c hc=>CVB.of_ok (ho c hc);have hl:=(len0 hb);exact ⟨5,z8f (G:=fun a=>a=[.one (.b true)]) (zKk 5 a0 hl)⟩
theorem zIT:Tryz.f4.params.toList.map (zck Tryz.prog 4)=[some (false,[.s .u8])]:=by kernel_rfl
theorem zBP:zX6 4 Tryz.f4.params.toList:=by
 refine zWI z4j zbo zzf zo (zem (by kernel_rfl)) ?_
 intro avs hg;obtain ⟨h1,h2⟩:=hg;rw[zIT]at h1;obtain ⟨v0,r0,rfl,e0,h1⟩:=zVc h1;cases List.map_eq_nil_iff.1 h1;obtain ⟨a0,rfl⟩:=sh_s e0;obtain ⟨N,hN⟩:=zM0 a0 h2;exact ⟨zq [],N,12,(zSr N a0).trans hN⟩
theorem zMD (H:Type)(ds:List (DataW H))(h:ds.length=Tryz.f4.params.toList.length):Rows.fnSilentSpec.fn H ds={ results:=[.lit (.bool true)],args:=ds }:=by
 have hl:ds.length=1:=h.trans (by kernel_rfl)
 match ds,hl with
 | [d],_=>rfl
set_option maxRecDepth 100000 in
theorem zFm (os:Os)(started:os.Started)(H:Type)(enc:TypeId×Value->H) :
 ReturnsInHanded {} Tryz.checked os 4 .any (Rows.fnSilentSpec.pre6 enc Tryz.prog Tryz.f4 Rows.fnSilentRow.domain false) (Rows.fnSilentSpec.post enc Tryz.prog Tryz.f4 false true false false):=by
 refine returnsInHanded_of_change_shaped (C:=Tryz.checked) own started (by kernel_rfl) Tryz.func4
  (ChangeSpec.witness6 (enc:=enc) (C:=Tryz.checked) false ⟨#[],#[.slice none 0 0],[]⟩ 8 (by kernel_rfl) (by kernel_rfl) (by kernel_rfl) (by kernel_rfl)) ?_
 intro W base args ds gs before hval hW _ hsz _ _;exact zLw (P:=Tryz.prog) z3H z4G rfl zMD (by kernel_rfl) (B:=4) (by kernel_rfl) (by kernel_rfl) zBP W base args ds gs before hval hW hsz
end
section
open Go Go.ChangeShapes Go.WideShapes Go.ChangeAt
abbrev PP:=Tryz.pinned.checked.prog
abbrev cc:=Rows.fnSilentRow
abbrev ss:=Rows.fnSilentSpec
theorem jf1:cc.wf (OpenSpec.ofChange ss)=true:=by kernel_rfl
theorem jf2:laidOutB PP=true:=by kernel_rfl
theorem jf3:mapsRowed PP=true:=by kernel_rfl
theorem jf4:Tryz.f4.params.all (PP.readableRec ·)=true:=by kernel_rfl
theorem jf5:namedTie PP cc.named ss.vars=true:=by kernel_rfl
theorem jf6:(cc.inPlace==PP.inPlace 4)=true:=by kernel_rfl
theorem jf7:(cc.unfollowed==PP.unfollowed 4)=true:=by kernel_rfl
theorem jf8:(cc.recurses==PP.recurses 4)=true:=by kernel_rfl
theorem jf9:(cc.named==PP.varsNamed 4)=true:=by kernel_rfl
theorem jf10:(cc.lifted==PP.liftsFinal)=true:=by kernel_rfl
theorem jf11:PP.stopsHeard=true:=by kernel_rfl
theorem jf12:PP.mayEnter=true:=by kernel_rfl
theorem jf13:(cc.plainKeys==PP.plainKeys)=true:=by kernel_rfl
theorem jf14:(PP.make==some cc.make)=true:=by kernel_rfl
theorem zT4:joinedFacts PP 4 Tryz.f4 ss cc=true:=by
 unfold joinedFacts;simp only[qD]
 repeat' apply And.intro
 all_goals first|with_reducible exact jf1|with_reducible exact jf2|with_reducible exact jf3|with_reducible exact jf4|with_reducible exact jf5|with_reducible exact jf6|with_reducible exact jf7|with_reducible exact jf8|with_reducible exact jf9|with_reducible exact jf10|with_reducible exact jf11|with_reducible exact jf12|with_reducible exact jf13|with_reducible exact jf14|kernel_rfl
theorem said_fnSilent:Rows.FnSilentSaid :=
 OpenClaim.holds_of_wide 4 Tryz.f4 rfl rfl rfl rfl rfl rfl rfl ⟨rfl,rfl,rfl,rfl,rfl⟩ rfl rfl rfl rfl rfl (by kernel_rfl) Tryz.func4 zT4
  (qE (by kernel_rfl)) (by unfold Func.isWrapper;first|(rw [if_pos (by decide +kernel)];kernel_rfl)|(rw [if_neg (by decide +kernel)];exact ⟨rfl,rfl⟩))
  (fun os started H enc _=>zFm os started H enc)
end
end
end Go.Proofs.YtdaahiceaagpdaaGreat.E
