/- What is proved here: a part of the proof that the statement of this claim holds (several texts of wip/, laid together). -/
import Derived.Test.YtdnmkiajccpnoaaGreatU6
namespace Go.Proofs.YtdnmkiajccpnoaaGreat.E
open Go
set_option linter.unusedVariables false
set_option maxRecDepth 100000
set_option linter.unusedSimpArgs false
set_option linter.unusedSectionVars false
noncomputable section
def zWO (l:List Int):Prop:=l.length=12/\∀i:Int,0<=i->i<12->0<=ix l i 0/\ix l i 0<10000
def zsu (N:Nat)(c:Cur)  : OA :=
 let y0:=(zbG c [0,0,0,1,1,2,(-1),9223372036854775807]); (oN (zcq c [0,0,0,1,1,2,(-1),9223372036854775807]) (some [(.agg [(.s .u8 c.b),(.i .i64 y0.i),(.i .i64 y0.h)]),(aI (zdH c [0,0,0,1,1,2,(-1),9223372036854775807]))]))
theorem z3F (N:Nat)(c:Cur)  : zfW (cQ zNa zly z3W zj6) (zk []) N 12 128 [false,true,true] (zbv c) []=zsu N c:=by kernel_rfl
def zqp (c:Cur)(s:Cur)(v0:Int):Prop:=(∃N,zsu N c=some (AV.agg (zbv s) :: [aI v0]))/\(s.b=c.b/\0<=s.i)/\(True)
def zjG (c:Cur)  : Bool:=pc (∃s v0,zqp c s v0)
def zx6 (c:Cur)  : Cur×Int:=Classical.epsilon fun r=>zqp c r.1 r.2
def zio (c:Cur)  : Cur:=bif zjG c then (zx6 c).1 else ⟨[],0,0⟩
def zG3 (c:Cur)  : Int:=(zx6 c).2
theorem zUe {c:Cur}(h:zjG c=true):zqp c (zio c) (zG3 c):=by
 obtain ⟨s,v0,h2⟩:=zy.1 h;have h3:zqp c (zx6 c).1 (zx6 c).2:=Classical.epsilon_spec (p:=fun r=>zqp c r.1 r.2) ⟨(s,v0),h2⟩;unfold zio;rw[h,cT];exact h3
theorem z6A (c:Cur)  : 0<=(zio c).i:=by
 unfold zio;cases h:zjG c with
 | false=>exact jY 0
 | true =>
  have:=(zUe h).2.1.2;unfold zio at this
  rwa [h] at this
theorem z6z (c:Cur)(h:∃N,Ends (fun a=>∃s v0,a=(AV.agg (zbv s) :: [aI v0])/\(s.b=c.b/\0<=s.i)/\(True)) (zsu N c)):zjG c=true:=by
 obtain ⟨N,a,e,s,v0,rfl,h⟩:=h;exact zN ⟨s,v0,⟨N,e⟩,h⟩
def zvU:List CV->List AV->Option (Bool×List CV×List AV)
 | [.s .u8 b,.i .i64 c,.i .i64 d],[]=>some ((zjG (⟨b,c,d⟩:Cur)),zbv (zio (⟨b,c,d⟩:Cur)),[aI (zG3 (⟨b,c,d⟩:Cur))])
 | _,_=>none
theorem z0O (c:Cur)(hb:zbC big (.agg (zbv c) :: []))(hc:zjG c=true):∃N,zsu N c=some (.agg (zbv (zio c)) :: [aI (zG3 c)]):=by
 exact (zUe hc).1
theorem zUP:zdp Tryz.prog 128 [false,true,true] zvU:=by
 refine zbW (zcD zsw zbg zLN zn) (zdT (by kernel_rfl)) ?_
 intro cs avs cs' rs hl hr h;have hb:=zb9 hr;unfold zvU at h;split at h
 .obtain ⟨hc,rfl,rfl⟩:=zcj h;obtain ⟨N,hN⟩:=z0O _ (by exact hb) hc
  exact ⟨rfl,_,N,12,(z3F N _ ).trans hN⟩
 .cases h
theorem at_t {c:Cur}(h:zcV c):zjG c=true:=by
 refine z6z c ⟨0,?_⟩;unfold zsu oN
 conv=>zeta
 exact zbp (zzG h (by simp)) (zkX aI (zho _ _) trivial)
def z3X:zdq:=[(128,([false,true,true],zvU))]++z3W
theorem zY2:zck z3X:=zdR zLN (by
 intro x hx;simp only[qI,qX,or_false]at hx;rcases hx with rfl
 .exact zUP)
def zoV (N:Nat)(c:Cur)  : OA :=
 let y2:=(zlQ c);let y1:=({ (zdm c) with b:=c.b }:Cur);let y4:=(zZ y1 10);let y0:=({ (zB y1 10) with b:=c.b }:Cur);let y3:=(zbG y0 [(-1),4,8,16,100,9223372036854775807]); (oN (zfr c) (oN (zX y1 10) (cond (ieq y4 0) (oN (zX y0 20) (some [(.agg [(.s .u8 c.b),(.i .i64 (zB y0 20).i),(.i .i64 (zB y0 20).h)]),(.agg [(.i .i64 (wsub .i64 (zZ y0 20) 1)),(.i .i64 y2.M),(.i .i64 y2.G),(.i .i64 y2.X),(.i .i64 y2.Y),(.i .i64 y2.Z)])])) (cond (ieq y4 1) (oN (zjG y0) (some [(.agg [(.s .u8 c.b),(.i .i64 (zio y0).i),(.i .i64 (zio y0).h)]),(.agg [(.i .i64 y2.Kind),(.i .i64 (zG3 y0)),(.i .i64 y2.G),(.i .i64 y2.X),(.i .i64 y2.Y),(.i .i64 y2.Z)])])) (cond (ieq y4 2) (oN (zcq y0 [(-1),4,8,16,100,9223372036854775807]) (some [(.agg [(.s .u8 c.b),(.i .i64 y3.i),(.i .i64 y3.h)]),(.agg [(.i .i64 y2.Kind),(.i .i64 y2.M),(.i .i64 y2.G),(.i .i64 (zdH y0 [(-1),4,8,16,100,9223372036854775807])),(.i .i64 y2.Y),(.i .i64 y2.Z)])])) (cond (ieq y4 3) (oN (zcq y0 [(-1),0,1,4]) (some [(.agg [(.s .u8 c.b),(.i .i64 (zbG y0 [(-1),0,1,4]).i),(.i .i64 (zbG y0 [(-1),0,1,4]).h)]),(.agg [(.i .i64 y2.Kind),(.i .i64 y2.M),(.i .i64 y2.G),(.i .i64 y2.X),(.i .i64 y2.Y),(.i .i64 (zdH y0 [(-1),0,1,4]))])])) (some [(.agg [(.s .u8 c.b),(.i .i64 (zB y1 10).i),(.i .i64 (zB y1 10).h)]),(.agg [(.i .i64 y2.Kind),(.i .i64 y2.M),(.i .i64 y2.G),(.i .i64 y2.X),(.i .i64 y2.Y),(.i .i64 y2.Z)])])))))))
theorem z04 (N:Nat)(c:Cur)  : zfW (cQ zNa zly z3X zj6) (zk []) N 12 50 [false,true,true] (zbv c) []=zoV N c:=by kernel_rfl
def znG (c:Cur)(s:Cur)(v0:GAct):Prop:=(∃N,zoV N c=some (AV.agg (zbv s) :: [aT .act v0]))/\(s.b=c.b/\0<=s.i)/\(True)
def zir (c:Cur)  : Bool:=pc (∃s v0,znG c s v0)
def zuL (c:Cur)  : Cur×GAct:=Classical.epsilon fun r=>znG c r.1 r.2
def zuM (c:Cur)  : Cur:=bif zir c then (zuL c).1 else ⟨[],0,0⟩
def zBE (c:Cur)  : GAct:=(zuL c).2
theorem z4i {c:Cur}(h:zir c=true):znG c (zuM c) (zBE c):=by
 obtain ⟨s,v0,h2⟩:=zy.1 h;have h3:znG c (zuL c).1 (zuL c).2:=Classical.epsilon_spec (p:=fun r=>znG c r.1 r.2) ⟨(s,v0),h2⟩;unfold zuM;rw[h,cT];exact h3
theorem z4j (c:Cur)(h:∃N,Ends (fun a=>∃s v0,a=(AV.agg (zbv s) :: [aT .act v0])/\(s.b=c.b/\0<=s.i)/\(True)) (zoV N c)):zir c=true:=by
 obtain ⟨N,a,e,s,v0,rfl,h⟩:=h;exact zN ⟨s,v0,⟨N,e⟩,h⟩
def zty:List CV->List AV->Option (Bool×List CV×List AV)
 | [.s .u8 b,.i .i64 c,.i .i64 d],[]=>some ((zir (⟨b,c,d⟩:Cur)),zbv (zuM (⟨b,c,d⟩:Cur)),[aT .act (zBE (⟨b,c,d⟩:Cur))])
 | _,_=>none
theorem zYB (c:Cur)(hb:zbC big (.agg (zbv c) :: []))(hc:zir c=true):∃N,zoV N c=some (.agg (zbv (zuM c)) :: [aT .act (zBE c)]):=by
 exact (z4i hc).1
theorem zRn:zdp Tryz.prog 50 [false,true,true] zty:=by
 refine zbW (zcD zsw zbg zY2 zn) (zdT (by kernel_rfl)) ?_
 intro cs avs cs' rs hl hr h;have hb:=zb9 hr;unfold zty at h;split at h
 .obtain ⟨hc,rfl,rfl⟩:=zcj h;obtain ⟨N,hN⟩:=zYB _ (by exact hb) hc
  exact ⟨rfl,_,N,12,(z04 N _ ).trans hN⟩
 .cases h
theorem zbcJ {c:Cur}(h:zcV c):zir c=true:=by
 refine z4j c ⟨0,?_⟩;have h1:zcV { zdm c with b:=c.b }:=zem h (zPv _);have h2:zcV { zB { zdm c with b:=c.b } 10 with b:=c.b }:=zem h (zca _ _);unfold zoV oN
 conv=>zeta
 exact zbp (z8K h) (zbp (zhd h1 _) (zcR (fun _=>zbp (zhd h2 _) (zkX (aT .act) (v:=⟨wsub .i64 (zZ { zB { zdm c with b:=c.b } 10 with b:=c.b } 20) 1,(zlQ c).M,(zlQ c).G,(zlQ c).X,(zlQ c).Y,(zlQ c).Z⟩) (zca { zB { zdm c with b:=c.b } 10 with b:=c.b } 20) trivial))
  (fun _=>zcR (fun _=>zbp (at_t h2) (zkX (aT .act) (v:=⟨(zlQ c).Kind,zG3 { zB { zdm c with b:=c.b } 10 with b:=c.b },(zlQ c).G,(zlQ c).X,(zlQ c).Y,(zlQ c).Z⟩) (z6A { zB { zdm c with b:=c.b } 10 with b:=c.b }) trivial))
  (fun _=>zcR (fun _=>zbp (zzG h2 (by simp)) (zkX (aT .act) (v:=⟨(zlQ c).Kind,(zlQ c).M,(zlQ c).G,zdH { zB { zdm c with b:=c.b } 10 with b:=c.b } [-1,4,8,16,100,9223372036854775807],(zlQ c).Y,(zlQ c).Z⟩) (zho { zB { zdm c with b:=c.b } 10 with b:=c.b } [-1,4,8,16,100,9223372036854775807]) trivial))
  (fun _=>zcR (fun _=>zbp (zzG h2 (by simp)) (zkX (aT .act) (v:=⟨(zlQ c).Kind,(zlQ c).M,(zlQ c).G,(zlQ c).X,(zlQ c).Y,zdH { zB { zdm c with b:=c.b } 10 with b:=c.b } [-1,0,1,4]⟩) (zho { zB { zdm c with b:=c.b } 10 with b:=c.b } [-1,0,1,4]) trivial))
  (fun _=>zkX (aT .act) (v:=zlQ c) (zca { zdm c with b:=c.b } 10) trivial))))))
def z95:zdq:=[(50,([false,true,true],zty))]++z3X
theorem zvS:zck z95:=zdR zY2 (by
 intro x hx;simp only[qI,qX,or_false]at hx;rcases hx with rfl
 .exact zRn)
def zl1 (N:Nat)(a0:List Int):OA:=
 (iter (σ:=(Int×(Int×((List Int)×((List Int)×Unit))))) N (fun r2 s3=>let y4:=s3.2.2.1; (cond (ilt s3.2.1 (ln y4)) (cond (ilt s3.2.1 4000) (oN (inb s3.2.1 (ln y4)) (r2 ((wand .i64 (zD .i64 (zD .i64 (zmW .i64 s3.1 131) (wcv .i64 (ix y4 s3.2.1 0))) 7) 1073741823),((zD .i64 s3.2.1 1),(y4,(s3.2.2.2.1,())))))) (iter (σ:=(Int×(Int×(Int×((List Int)×((List Int)×Unit)))))) N (fun r4 s5=>let y0:=(⟨s5.2.2.2.2.1,s5.2.1,s5.2.2.1⟩:Cur);let y2:=(ap s5.2.2.2.1 [(zZ y0 10000)]); (cond (ilt s5.1 12) (oN (zX y0 10000) (oN (few (ln y2)) (r4 ((zD .i64 s5.1 1),((zB y0 10000).i,((zB y0 10000).h,(y2,(s5.2.2.2.2.1,())))))))) (some [(aS .int s5.2.2.2.1)]))) (0,(0,(s3.1,([],(y4,()))))))) (iter (σ:=(Int×(Int×(Int×((List Int)×((List Int)×Unit)))))) N (fun r4 s5=>let y1:=(⟨s5.2.2.2.2.1,s5.2.1,s5.2.2.1⟩:Cur);let y3:=(ap s5.2.2.2.1 [(zZ y1 10000)]); (cond (ilt s5.1 12) (oN (zX y1 10000) (oN (few (ln y3)) (r4 ((zD .i64 s5.1 1),((zB y1 10000).i,((zB y1 10000).h,(y3,(s5.2.2.2.2.1,())))))))) (some [(aS .int s5.2.2.2.1)]))) (0,(0,(s3.1,([],(y4,())))))))) ((zD .i64 94701 (ln a0)),(0,(a0,([],())))))
def zL3:FuncId->Nat->Option Tmpl:=zk [(16,0,{ n:=32,tm:=[(0,.sl 0 []),(3,ti),(4,ti)],lo:=[],ro:=[(0,.u8,false),(1,.int,true)],sk:=[(0,2,0,.sl 1 [])] }),(7,0,{ n:=19,tm:=[(3,.lp 0 0),(4,.sl 0 []),(5,ti)],lo:=[(0,[.sl 1 [],ti,ti])],ro:=[(0,.int,true),(1,.u8,false)] })]
def zif (a0:List Int)(v0:List Int):Prop:=(∃N,zl1 N a0=some [aS .int v0])/\(zWO v0)
def zhn (a0:List Int):Bool:=pc (∃v0,zif a0 v0)
def zAt (a0:List Int):List Int:=Classical.epsilon fun r=>zif a0 r
def zjq (a0:List Int):List Int:=(zAt a0)
theorem zAs {a0:List Int}(h:zhn a0=true):zif a0 (zjq a0):=by
 obtain ⟨v0,h2⟩:=zy.1 h;have h3:zif a0 (zAt a0):=Classical.epsilon_spec (p:=fun r=>zif a0 r) ⟨v0,h2⟩;exact h3
theorem zSF (a0:List Int)(h:∃N,Ends (fun a=>∃v0,a=[aS .int v0]/\(zWO v0)) (zl1 N a0)):zhn a0=true:=by
 obtain ⟨N,a,e,v0,rfl,h⟩:=h;exact zN ⟨v0,⟨N,e⟩,h⟩
def zv6:Run:=rF1 (dS .u8) fun b=>(zhn b,[aS .int (zjq b)])
theorem zLz (a0:List Int)(hc:zhn a0=true):∃N,zl1 N a0=some [aS .int (zjq a0)]:=by
 exact (zAs hc).1
theorem zE1:u4 7 zv6:=kF1 zsw zbg zvS zn zL3 zLz
theorem zY4 {a0:List Int}(h:a0.length<=big):zhn a0=true:=by
 refine zSF a0 (zbV fun N hNN=>?_);unfold zl1 oN
 conv=>zeta
 have h12:12<N:=hNN (by rw[zuP];omega)
 refine zsy (fun n s=>∃(t:Int) (i:Nat),s=(t,(i:Int),a0,[],())/\i+n=a0.length) ?_ N a0.length _ ⟨_,0,rfl,by omega⟩ (hNN h)
 rintro n s rec ⟨t,i,rfl,hi⟩ hrec
 dsimp only
 refine zcR (fun h1=>zcR (fun h2=>?_) (fun _=>?_)) (fun _=>?_)
 .have hlt:(i:Int)<ln a0:=qD h1;unfold ln at hlt;refine zbp (qK ⟨by omega,by unfold ln;omega⟩) (hrec (n-1) _ (by omega) (by rw[zU (show i<a0.length by omega) h];exact ⟨_,i+1,rfl,by omega⟩))
 all_goals
  refine zsy (fun n s=>∃(k:Nat) (i x:Int) (l:List Int),s=((k:Int),i,x,l,a0,())/\k+n=12/\0<=i/\l.length=k/\∀y∈l,0<=y/\y<10000) ?_ N 12 _ ⟨0,0,t,[],rfl,rfl,jY 0,rfl,by simp⟩ h12
  rintro n' s rec' ⟨k,i',x,l,rfl,hk,hi0,hlk,hl⟩ hrec'
  dsimp only
  have hcur:zcV ⟨a0,i',x⟩:=⟨hi0,h⟩;have hx:=znZ hcur (n:=10000) (by omega)
  refine zcR (fun h3=>?_) (fun h3=>⟨_,rfl,l,rfl,?_⟩)
  .have h3':(k:Int)<12:=qD h3;have hnew:∀y∈ap l [zZ ⟨a0,i',x⟩ 10000],0<=y/\y<10000:=by
    intro y hy;rcases jN.1 hy with hy|hy
    .exact hl y hy
    .rw [qF.1 hy];exact hx
   exact zbp (zhd hcur _) (zbp (zo2 (by rw[znP];unfold ln;omega)) (hrec' (n'-1) _ (by omega) (by rw[zmO (show -9223372036854775808<=(k:Int)+1 by omega) (by omega)];exact ⟨k+1,_,_,_,rfl,by omega,zca _ _,by simp[ap,hlk],hnew⟩)))
  .have h3':¬ (k:Int)<12:=qV h3;exact ⟨by omega,fun j h0 h1=>hl _ (zbt (qK ⟨h0,by unfold ln;omega⟩) 0)⟩
def zrv (N:Nat)(a0:List Int):OA:=
 (iter (σ:=(Int×(Int×((List Int)×Unit)))) N (fun r2 s3=>let y6:=s3.2.2.1;let y4:=(⟨y6,0,s3.1⟩:Cur);let y2:=(aS (.sl (.sl .ins)) (zlO y4));let y0:=({ (zej y4) with b:=y6 }:Cur);let y3:=({ (zd8 y0 30) with b:=y6 }:Cur);let y1:=({ (zb8 y3 6) with b:=y6 }:Cur);let y5:=(ap (ziq y0 30) [(zBE y1)]); (cond (ilt s3.2.1 (ln y6)) (cond (ilt s3.2.1 4000) (oN (inb s3.2.1 (ln y6)) (r2 ((wand .i64 (zD .i64 (zD .i64 (zmW .i64 s3.1 131) (wcv .i64 (ix y6 s3.2.1 0))) 7) 1073741823),((zD .i64 s3.2.1 1),(y6,()))))) (oN (zf8 y4) (oN (ze8 y0 30) (oN (zdM y3 6) (cond (zik y3 6) (oN (zir y1) (oN (few (ln y5)) (some [y2,(aS .act y5)]))) (some [y2,(aS .act (ziq y0 30))])))))) (oN (zf8 y4) (oN (ze8 y0 30) (oN (zdM y3 6) (cond (zik y3 6) (oN (zir y1) (oN (few (ln y5)) (some [y2,(aS .act y5)]))) (some [y2,(aS .act (ziq y0 30))]))))))) ((zD .i64 94701 (ln a0)),(0,(a0,()))))
def zWi:FuncId->Nat->Option Tmpl:=zk [(16,0,{ n:=32,tm:=[(0,.sl 0 []),(3,ti),(4,ti)],lo:=[],ro:=[(0,.u8,false)] })]
def zlT (a0:List Int)(v0:List (List (List Ins)))(v1:List GAct):Prop:=(∃N,zrv N a0=some [aS (.sl (.sl .ins)) v0,aS .act v1])/\((zoX v0/\zzj v0)/\v1.length<=80)
def zkU (a0:List Int):Bool:=pc (∃v0 v1,zlT a0 v0 v1)
def zsp (a0:List Int):List (List (List Ins))×List GAct:=Classical.epsilon fun r=>zlT a0 r.1 r.2
def zsn (a0:List Int):List (List (List Ins)):=(zsp a0).1
def zso (a0:List Int):List GAct:=(zsp a0).2
theorem zJN {a0:List Int}(h:zkU a0=true):zlT a0 (zsn a0) (zso a0):=by
 obtain ⟨v0,v1,h2⟩:=zy.1 h;have h3:zlT a0 (zsp a0).1 (zsp a0).2:=Classical.epsilon_spec (p:=fun r=>zlT a0 r.1 r.2) ⟨(v0,v1),h2⟩;exact h3
theorem z1o (a0:List Int)(h:∃N,Ends (fun a=>∃v0 v1,a=[aS (.sl (.sl .ins)) v0,aS .act v1]/\((zoX v0/\zzj v0)/\v1.length<=80)) (zrv N a0)):zkU a0=true:=by
 obtain ⟨N,a,e,v0,v1,rfl,h⟩:=h;exact zN ⟨v0,v1,⟨N,e⟩,h⟩
def zDa:Run:=rF1 (dS .u8) fun b=>(zkU b,[aS (.sl (.sl .ins)) (zsn b),aS .act (zso b)])
theorem zV1 (a0:List Int)(hc:zkU a0=true):∃N,zrv N a0=some [aS (.sl (.sl .ins)) (zsn a0),aS .act (zso a0)]:=by
 exact (zJN hc).1
theorem zOq:u4 15 zDa:=kF1 zsw zbg zvS zn zWi zV1
theorem few75 {l:List GAct}{y:GAct}(h:l.length<=75):few (ln (ap l [y]))=true:=zo2 (by rw[znP];unfold ln;omega)
theorem ap75 {l:List GAct}{y:GAct}(h:l.length<=75):(ap l [y]).length<=80:=by
 simp only [ap,List.length_append,List.length_singleton];omega
theorem z4N {a0:List Int}(h:a0.length<=big):zkU a0=true:=by
 refine z1o a0 (zbV fun N hNN=>?_);unfold zrv oN
 conv=>zeta
 refine zsy (fun n s=>∃(t:Int) (i:Nat),s=(t,(i:Int),a0,())/\i+n=a0.length) ?_ N a0.length _ ⟨_,0,rfl,by omega⟩ (hNN h)
 rintro n s rec ⟨t,i,rfl,hi⟩ hrec
 dsimp only
 refine zcR (fun h1=>zcR (fun h2=>?_) (fun _=>?_)) (fun _=>?_)
 .have hlt:(i:Int)<ln a0:=qD h1;unfold ln at hlt;exact zbp (qK ⟨by omega,by unfold ln;omega⟩) (hrec (n-1) _ (by omega) (by rw[zU (show i<a0.length by omega) h];exact ⟨_,i+1,rfl,by omega⟩))
 all_goals
  have hc0:zcV ⟨a0,0,t⟩:=⟨jY 0,h⟩;have h1:zcV { zej ⟨a0,0,t⟩ with b:=a0 }:=zem hc0 (z4g _);have h2:zcV { zd8 { zej ⟨a0,0,t⟩ with b:=a0 } 30 with b:=a0 }:=zem hc0 (z1m _ _);have h3:zcV { zb8 { zd8 { zej ⟨a0,0,t⟩ with b:=a0 } 30 with b:=a0 } 6 with b:=a0 }:=zem hc0 (zg6 _ _);have g1:=(zBC (z8L hc0)).2.2;have g2:=(zyP (z4I h1 (m:=30) (by omega) (by omega))).2.2
  have g3:(ziq { zej ⟨a0,0,t⟩ with b:=a0 } 30).length<=75:=by
   unfold ln at g2;omega
  have S:zoX (zlO ⟨a0,0,t⟩):=⟨by omega,fun p hp=>by
   have g:=g1.2.2 p hp;exact ⟨by omega,fun x hx=>by have:=z8i (g.2.2 x hx);omega⟩⟩
  have P:zzj (zlO ⟨a0,0,t⟩):=⟨g1.1,fun p hp=>⟨(g1.2.2 p hp).1,(g1.2.2 p hp).2.2⟩⟩;refine zbp (z8L hc0) (zbp (z4I h1 (by omega) (by omega)) (zbp (zPb h2 6) (zcR (fun _=>zbp (zbcJ h3) (zbp ?_ ⟨_,rfl,_,_,rfl,⟨S,P⟩,?_⟩)) (fun _=>⟨_,rfl,_,_,rfl,⟨S,P⟩,jA g3 (by decide)⟩))))
  .exact few75 g3
  .exact ap75 g3
def z4U:zV:=[(15,zDa)]++zNa
theorem zEA:zJ z4U:=zf zOq zsw
def zjJ (N:Nat)(a0:List Int):OA:=
 (oN (zkU a0) (some [(aS (.sl (.sl .ins)) (zsn a0)),(aS .act (zso a0))]))
def zgF (a0:List Int)(v0:List (List (List Ins)))(v1:List GAct):Prop:=(∃N,zjJ N a0=some [aS (.sl (.sl .ins)) v0,aS .act v1])/\((zoX v0/\zzj v0)/\v1.length<=80)
def zfS (a0:List Int):Bool:=pc (∃v0 v1,zgF a0 v0 v1)
def zj1 (a0:List Int):List (List (List Ins))×List GAct:=Classical.epsilon fun r=>zgF a0 r.1 r.2
def zd4 (a0:List Int):List (List (List Ins)):=(zj1 a0).1
def zdF (a0:List Int):List GAct:=(zj1 a0).2
theorem zwf {a0:List Int}(h:zfS a0=true):zgF a0 (zd4 a0) (zdF a0):=by
 obtain ⟨v0,v1,h2⟩:=zy.1 h;have h3:zgF a0 (zj1 a0).1 (zj1 a0).2:=Classical.epsilon_spec (p:=fun r=>zgF a0 r.1 r.2) ⟨(v0,v1),h2⟩;exact h3
theorem zLR (a0:List Int)(h:∃N,Ends (fun a=>∃v0 v1,a=[aS (.sl (.sl .ins)) v0,aS .act v1]/\((zoX v0/\zzj v0)/\v1.length<=80)) (zjJ N a0)):zfS a0=true:=by
 obtain ⟨N,a,e,v0,v1,rfl,h⟩:=h;exact zN ⟨v0,v1,⟨N,e⟩,h⟩
def zsY:Run:=rF1 (dS .u8) fun b=>(zfS b,[aS (.sl (.sl .ins)) (zd4 b),aS .act (zdF b)])
theorem zFh (a0:List Int)(hc:zfS a0=true):∃N,zjJ N a0=some [aS (.sl (.sl .ins)) (zd4 a0),aS .act (zdF a0)]:=by
 exact (zwf hc).1
theorem zA1:u4 6 zsY:=kF1 zEA zbg zvS zn (zk []) zFh
theorem z5V {a0:List Int}(h:a0.length<=big):zfS a0=true:=by
 refine zLR a0 ⟨0,?_⟩;unfold zjJ oN;exact zbp (z4N h) ⟨_,rfl,_,_,rfl,(zJN (z4N h)).2⟩
theorem zYG {α β:Type}{f:α->β}{l:List α}{x:β}{xs:List β}(h:l.map f=x :: xs):∃a r,l=a :: r/\f a=x/\r.map f=xs:=by
 cases l with
 | nil=>cases h
 | cons a r =>
  simp only[jJ,List.cons.injEq]at h;exact ⟨a,r,rfl,h.1,h.2⟩
theorem zbcm {a:AV}{ct:CTy}(h:some a.sh=some (false,[ct])):∃c,a = .one c/\c.ty=ct:=by
 cases a with
 | one c =>
  simp only[AV.sh,qC,jQ,List.cons.injEq,and_true,true_and]at h;exact ⟨c,rfl,h⟩
 | agg l=>simp[AV.sh]at h
theorem sh_s {a:AV}{t:Ty}(h:some a.sh=some (false,[.s t])):∃l:List t.den,a = .one (.s t l):=by
 obtain ⟨c,rfl,hc⟩:=zbcm h;obtain ⟨l,rfl⟩:=zl5 hc;exact ⟨l,rfl⟩
section
open Go Go.ChangeShapes Go.WideShapes Go.ChangeAt
abbrev zRu (_:List Int):Bool:=true
abbrev zOw (l:List Int):Bool:=igt (ln l) 1048576
def zUb:Run:=rF1 (dS .u8) fun b=>(zRu b,[aB (zOw b)])
def z1I (N:Nat)(a0:List Int):OA:=
 (some [(aB (igt (ln a0) 1048576))])
theorem z5S (a0:List Int)(hc:zRu a0=true):∃N,z1I N a0=some [aB (zOw a0)]:=by
 refine ⟨0,?_⟩;unfold z1I
 first|rfl|(simp only [*,zOw,cT,cF]<;>rfl)|simp_all[Ty.cells,zOw]
theorem z0m:u4 5 zUb:=kF1 zEA zbg zvS zn (zk []) z5S
def z9D:zV:=[(5,zUb),(6,zsY),(7,zv6),(11,zz4),(12,zpM),(8,zq4),(10,zq7),(9,ztF)]++z4U
theorem z7C:zJ z9D:=zf z0m (zf zA1 (zf zE1 (zf zKM (zf ztY (zf zvu (zf zvy (zf zw4 zEA)))))))
theorem zZc:∀(l1 l2:List GAct) (u:Host×List Told),zqZ (l1++l2) u=zqZ l2 (zqZ l1 u)
 | [],_,_=>rfl
 | a :: l1,l2,u=>zZc l1 l2 (zbB u.1 a,ap u.2 [zbP u.1 a])
theorem zP2:∀(l:List GAct) (h:Host),(zGC l h).length=l.length
 | [],_=>rfl
 | a :: l,h=>congrArg (· + 1) (zP2 l (zbB h a))
def part (ps:List (List (List Ins)))(l:List GAct)(j:Nat):Host×List Told:=zqZ (l.take j) (zi4 ps,[])
theorem zbba {ps:List (List (List Ins))}{l:List GAct}{j:Nat}(hj:j<l.length):part ps l (j+1)=(zbB (part ps l j).1 l[j],ap (part ps l j).2 [zbP (part ps l j).1 l[j]]):=by
 unfold part;rw[List.take_succ_eq_append_getElem hj,zZc];rfl
theorem z8f (ps:List (List (List Ins)))(l:List GAct)(j:Nat):(part ps l j).2.length<=l.length:=by
 unfold part;rw[z2g];simp only[jK,zP2,kK];omega
theorem zT4 {ps:List (List (List Ins))}{l:List GAct}(h:l.length<=80)(j:Nat):zjR ps (l.take j)=part ps l j:=by
 unfold zjR part;rw[kY (by simp only[kK];omega)]
def zrt (N:Nat)(a0:List Int):OA:=
 let y3:=(zmX (ix (zjq a0) 0 0) (zD .i64 (ln (zdF a0)) 1));let y1:=(ap [] (tk (zdF a0) y3));let y5:=(zvD (zd4 a0) y1); (oN (zRu a0) (cond (zOw a0) oT (oN (zfS a0) (oN (zhn a0) (oN (inb 0 (ln (zjq a0))) (oN (ine (zD .i64 (ln (zdF a0)) 1) 0) (oN (inr 0 y3 (ln (zdF a0))) (oN (few (ln y1)) (oN (zpd (zd4 a0) y1) (iter (σ:=(Int×(lQ×(lA×(lT×(lM×(lN×(lE×(lE×Unit))))))))) N (fun r2 s3=>let y4:=s3.2.2.1;let y2:=(ix y4 s3.1 z4G);let y0:=(⟨s3.2.2.2.2.1,s3.2.2.2.2.2.1,s3.2.2.2.2.2.2.1,s3.2.2.2.2.2.2.2.1⟩:Host);let y7:=(zkA y0 y2);let y6:=(ap s3.2.2.2.1 [(zkB y0 y2)]); (cond (ilt s3.1 (ln y4)) (oN (inb s3.1 (ln y4)) (oN (znb y0 y2) (oN (few (ln y6)) (r2 ((zD .i64 s3.1 1),(s3.2.1,(y4,(y6,(y7.Memory,(y7.Mons,(y7.Buffer,(y7.IoBuffer,())))))))))))) (oN (zlH s3.2.1 y4) (oN (zvO y0 (zlG s3.2.1 y4)) (cond (zut y0 (zlG s3.2.1 y4)) (oN (zts s3.2.2.2.1 (zp4 s3.2.1 y4)) (cond (zrR s3.2.2.2.1 (zp4 s3.2.1 y4)) (some [(aB (ile (ln y4) 80))]) oF)) oF))))) (y3,((zd4 a0),((zdF a0),((zvE (zd4 a0) y1),(y5.Memory,(y5.Mons,(y5.Buffer,(y5.IoBuffer,()))))))))))))))))))
def zDk:FuncId->Nat->Option Tmpl:=zk [(3,0,{ n:=79,tm:=[(3,.sl 0 []),(4,.sl 1 []),(7,.lp 0 0),(8,.sl 2 []),(9,ti)],lo:=[(0,[.sl 3 [],.sl 4 [],.sl 5 [],.sl 6 []])],ro:=[(0,(.sl (.sl .ins)),true),(1,.act,true),(2,.told,true),(3,(.sl .int),true),(4,.mon,true),(5,.entry,true),(6,.entry,true)] })]
theorem zYL (N:Nat)(a0:List Int):evalFn (cQ z9D zly z95 zj6) zDk N 12 3 [aS .u8 a0]=zrt N a0:=by kernel_rfl
theorem zQd (N:Nat)(a0:List Int)(hl:a0.length<=big)(hN:80<N):Ends (fun a=>a=[.one (.b true)]) (zrt N a0):=by
 unfold zrt oN
 conv=>zeta
 refine zbp rfl (zcR (fun _=>zNd rfl) (fun _=>zbp (z5V hl) (zbp (zY4 hl) ?_)));obtain ⟨⟨hps,hP⟩,h80⟩:=(zwf (z5V hl)).2;obtain ⟨hp1,hp2⟩:=(zAs (zY4 hl)).2;generalize zd4 a0=ps at hps hP;generalize zdF a0=l at h80;generalize zjq a0=p at hp1 hp2;have hlp:ln p=12:=by unfold ln;omega
 have hw:zD .i64 (ln l) 1=((l.length+1:Nat):Int):=by unfold ln;rw[zmO (by omega) (by omega)];rfl
 rw[hw];have mk:=zS9 (hp2 0 (by omega) (by omega)).1 (show (0:Int)<((l.length+1:Nat):Int) by omega)
 generalize zmX (ix p 0 0) ((l.length+1:Nat):Int)=k at mk;obtain ⟨c,rfl⟩:=Int.eq_ofNat_of_zero_le mk.1;have hcl:c<=l.length:=by omega
 have e1:ap [] (tk l (c:Int))=l.take c:=by simp[ap,tk]
 rw[e1];have e2:zjR ps (l.take c)=part ps l c:=zT4 h80 c;have hS:∀j,zbA (part ps l j).1:=fun j=>(zF _).2 (z2j _ _ (zSK hps));have c1:inb 0 (ln p)=true:=zx (zjQ.2 (by omega))
 have c2:ine ((l.length+1:Nat):Int) 0=true:=zbaY.2 (by omega)
 have c3:inr 0 (c:Int) (ln l)=true:=by
  unfold inr ln;simp;omega
 have c4:few (ln (l.take c))=true:=zo2 (by unfold ln;simp only[kK];omega)
 have c5:zpd ps (l.take c)=true:=zN ⟨hps,by simp only[kK];omega⟩
 refine zbp c1 (zbp c2 (zbp c3 (zbp c4 (zbp c5 ?_))));refine zsy (fun n s=>∃j:Nat,s=((j:Int),ps,l,(part ps l j).2,(part ps l j).1.Memory,(part ps l j).1.Mons,(part ps l j).1.Buffer,(part ps l j).1.IoBuffer,())/\j+n=l.length) ?_ N (l.length-c) _ ⟨c,by rw[<- e2],by omega⟩ (by omega)
 rintro n s rec ⟨j,rfl,hj⟩ hrec
 dsimp only
 refine zcR (fun h1=>?_) (fun h1=>?_)
 .have hlt:(j:Int)<ln l:=qD h1;unfold ln at hlt;have hj':j<l.length:=by omega
  have hb:inb (j:Int) (ln l)=true:=zx (zjQ.2 (by unfold ln;omega))
  refine zbp hb (zbp (zN (hS j)) (zbp (zo2 (by rw[znP];unfold ln;have:=z8f ps l j;omega)) (hrec (n-1) _ (by omega) ⟨j+1,?_,by omega⟩)))
  rw[zbba hj',zmO (show -9223372036854775808<=(j:Int)+1 by omega) (by omega),zbca hj']
  rfl
 .have hge:¬ (j:Int)<ln l:=qV h1;unfold ln at hge;have hj':j=l.length:=by omega
  have e3:part ps l j=zjR ps l:=by
   rw[<- zT4 h80 j,hj',uY]
  have s1:zlH ps l=true:=zN ⟨hps,by omega⟩
  refine zbp s1 (zbp (zN (congrArg Prod.fst e3)) (zbp rfl (zbp (zN (congrArg Prod.snd e3)) (zbp rfl (zNd ?_)))));have:ile (ln l) 80=true:=qK (by unfold ln;omega)
  rw[this]
theorem zUo (a0:List Int)(ho:∀c∈zA [aS .u8 a0],CVOk c):∃N,zrt N a0=some [.one (.b true)]:=by
 have hb:zbC big [aS .u8 a0]:=fun c hc=>CVB.of_ok (ho c hc);have hl:=(len0 hb);exact ⟨100,zbaR (G:=fun a=>a=[.one (.b true)]) (zQd 100 a0 hl (by decide))⟩
theorem zPz:Tryz.f3.params.toList.map (zcd Tryz.prog 4)=[some (false,[.s .u8])]:=by kernel_rfl
theorem zHb:z1E 3 Tryz.f3.params.toList:=by
 refine z0a z7C zbg zvS zn (zdT (by kernel_rfl)) ?_
 intro avs hg;obtain ⟨h1,h2⟩:=hg;rw[zPz]at h1;obtain ⟨v0,r0,rfl,e0,h1⟩:=zYG h1;cases List.map_eq_nil_iff.1 h1;obtain ⟨a0,rfl⟩:=sh_s e0;obtain ⟨N,hN⟩:=zUo a0 h2;exact ⟨zDk,N,12,(zYL N a0).trans hN⟩
theorem zSL (H:Type)(ds:List (DataW H))(h:ds.length=Tryz.f3.params.toList.length):Rows.fnPartsSpec.fn H ds={ results:=[.lit (.bool true)],args:=ds }:=by
 have hl:ds.length=1:=h.trans (by kernel_rfl)
 match ds,hl with
 | [d],_=>rfl
set_option maxRecDepth 100000 in
theorem zLH (os:Os)(started:os.Started)(H:Type)(enc:TypeId×Value->H) :
 ReturnsInHanded {} Tryz.checked os 3 .any (Rows.fnPartsSpec.pre6 enc Tryz.prog Tryz.f3 Rows.fnPartsRow.domain false) (Rows.fnPartsSpec.post enc Tryz.prog Tryz.f3 false true false false):=by
 refine returnsInHanded_of_change_shaped (C:=Tryz.checked) own started (by kernel_rfl) Tryz.func3
  (ChangeSpec.witness6 (enc:=enc) (C:=Tryz.checked) false ⟨#[],#[.slice none 0 0],[]⟩ 8 (by kernel_rfl) (by kernel_rfl) (by kernel_rfl) (by kernel_rfl)) ?_
 intro W base args ds gs before hval hW _ hsz _ _;exact zOx (P:=Tryz.prog) z7d z7R rfl zSL (by kernel_rfl) (B:=4) (by kernel_rfl) (by kernel_rfl) zHb W base args ds gs before hval hW hsz
end
section
open Go Go.ChangeShapes Go.WideShapes Go.ChangeAt
abbrev PP:=Tryz.pinned.checked.prog
abbrev cc:=Rows.fnPartsRow
abbrev ss:=Rows.fnPartsSpec
theorem jf1:cc.wf (OpenSpec.ofChange ss)=true:=by kernel_rfl
theorem jf2:laidOutB PP=true:=by kernel_rfl
theorem jf3:mapsRowed PP=true:=by kernel_rfl
theorem jf4:Tryz.f3.params.all (PP.readableRec ·)=true:=by kernel_rfl
theorem jf5:namedTie PP cc.named ss.vars=true:=by kernel_rfl
theorem jf6:(cc.inPlace==PP.inPlace 3)=true:=by kernel_rfl
theorem jf7:(cc.unfollowed==PP.unfollowed 3)=true:=by kernel_rfl
theorem jf8:(cc.recurses==PP.recurses 3)=true:=by kernel_rfl
theorem jf9:(cc.named==PP.varsNamed 3)=true:=by kernel_rfl
theorem jf10:(cc.lifted==PP.liftsFinal)=true:=by kernel_rfl
theorem jf11:PP.stopsHeard=true:=by kernel_rfl
theorem jf12:PP.mayEnter=true:=by kernel_rfl
theorem jf13:(cc.plainKeys==PP.plainKeys)=true:=by kernel_rfl
theorem jf14:(PP.make==some cc.make)=true:=by kernel_rfl
theorem zXw:joinedFacts PP 3 Tryz.f3 ss cc=true:=by
 unfold joinedFacts;simp only[qE]
 repeat' apply And.intro
 all_goals first|with_reducible exact jf1|with_reducible exact jf2|with_reducible exact jf3|with_reducible exact jf4|with_reducible exact jf5|with_reducible exact jf6|with_reducible exact jf7|with_reducible exact jf8|with_reducible exact jf9|with_reducible exact jf10|with_reducible exact jf11|with_reducible exact jf12|with_reducible exact jf13|with_reducible exact jf14|kernel_rfl
theorem said_fnParts:Rows.FnPartsSaid :=
 OpenClaim.holds_of_wide 3 Tryz.f3 rfl rfl rfl rfl rfl rfl rfl ⟨rfl,rfl,rfl,rfl,rfl⟩ rfl rfl rfl rfl rfl (by kernel_rfl) Tryz.func3 zXw
  (qD (by kernel_rfl)) (by unfold Func.isWrapper;first|(rw [if_pos (by decide +kernel)];kernel_rfl)|(rw [if_neg (by decide +kernel)];exact ⟨rfl,rfl⟩))
  (fun os started H enc _=>zLH os started H enc)
end
end
end Go.Proofs.YtdnmkiajccpnoaaGreat.E
