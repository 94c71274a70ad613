/- What is proved here: a part of the proof of the claim. -/
import Derived.Test.YtklhnfomjjnjjaaGreatV6
namespace Go.Proofs.YtklhnfomjjnjjaaGreat.E
open Go
set_option linter.defProp false
set_option linter.constructorNameAsVariable false
set_option linter.unusedVariables false
set_option maxRecDepth 100000
set_option linter.unusedSimpArgs false
set_option linter.unusedSectionVars false
noncomputable section
structure MonS (x:Mon):Prop where
 sm:zfm x
 g1:1<=x.ad.length
 g2:x.ad.length<=2
 t2:x.aj.length<=2
 o8:x.ae.length<=8
 pg:∀s∈x.ae,I64 s.af
 tk:∀k∈x.aj,k.ay.length<=k.aA.length
structure AnyH (h:ac):Prop where
 mem:SmM h.ag
 n1:1<=h.aa.length
 n3:h.aa.length<=3
 mons:∀x∈h.aa,MonS x
 b1:h.ao.length<=1048576
 b2:h.an.length<=1048576
def AnyH.sm {h:ac}(k:AnyH h):SmH h:=⟨k.mem,⟨qS k.n3 (by decide),λx a=>(k.mons x a).sm⟩,k.b1,k.b2⟩
def z3h {h:ac}(S:Safe h)(sm:SmH h):AnyH h :=
 ⟨sm.1,S.ok.n1,S.ok.n3,λx a=>by
  have k:=S.ok.mons x a;refine⟨sm.2.1.2 x a,k.g1,k.g2,by rw[k.gt];exact k.g2,by rw[k.o8];exact qV 8,λs b=>?_,λy c=>?_⟩
  .rcases k.sl s b with rfl|⟨h1,h2,_⟩
   .exact⟨by decide,by decide⟩
   .exact⟨by omega,by omega⟩
  .obtain⟨m,hm,rfl⟩:=zBI a mZ;obtain⟨g,hg,rfl⟩:=zBI c kZ;have:=S.rt.t m hm g (by have e:(ix h.aa m mZ).aj.length=(ix h.aa m mZ).ad.length:=k.gt;unfold ln at hg ⊢;rw[<- e];exact hg)
   rw[this.l1,this.l2];exact qV _,sm.2.2.1,sm.2.2.2⟩
def zwc {h:ac}(k:AnyH h)(i:Int){x:Mon}(b:MonS x):AnyH {h with aa:=up h.aa i x} :=
 ⟨k.mem,by rw[zhK];exact k.n1,by rw[zhK];exact k.n3,λy a=>by
  rcases qX a with a|rfl
  .exact k.mons y a
  .exact b,k.b1,k.b2⟩
def z8X {g:ah}(h:GuS g):SmG g:=⟨qS h.1 (by decide),qS h.2.1 (by decide),qS h.2.2.1 (by decide),qS h.2.2.2 (by decide)⟩
def z3s {l:List ah}(h:zkl l)(i:Int){g:ah}(hg:SmG g):zkl (up l i g):=
 ⟨by rw[zhK];exact h.1,λy a=>by
  rcases qX a with a|rfl
  .exact h.2 y a
  .exact hg⟩
def z7G {l:List LI}(h:SmM l)(i:Int){g:LI}(hg:g.length<=1048576):SmM (up l i g):=
 ⟨by rw[zhK];exact h.1,λy a=>by
  rcases qX a with a|rfl
  .exact h.2 y a
  .exact hg⟩
def zxG (N:Nat)(c:Cur)  : OA :=
 let j:=zq9 c;let r:=({ (zik c) with b:=c.b}:Cur);let f:=j.aa;let k:=zn r<|ln f;let m:=inb k<|ln f;let g:=ix f k zk;let q:=({ (zf r<|ln f) with b:=c.b}:Cur);let e:=zf q 24;let l:=zn q 24;let a:=({e with b:=c.b}:Cur);let n:=zba a [-1,1000000000,1000000001];let p:=({ (zf a 8) with b:=c.b}:Cur); (oN (zml c)<|oN (zB r<|ln f)<|oN (zB q 24)<|cond (ieq l 0) (oN (zfA a 8 12)<|oN m<|p0 (up f k ({g with ae:=(zeZ a 8 12)}:Mon)) λd=>some [.agg [.s .u8 c.b,.i .i64 (zgy a 8 12).i,.i .i64 (zgy a 8 12).h],aH ({j with aa:=d}:ac)])<|cond (ieq l 1) (oN m<|oN (zB a 8)<|oN (zkX p)<|oN (inb (zn a 8)<|ln g.Out)<|p0 (up f k ({g with Out:=(up g.Out (zn a 8)<|zsi p)}:Mon)) λd=>some [.agg [.s .u8 c.b,.i .i64 (zkY p).i,.i .i64 (zkY p).h],aH ({j with aa:=d}:ac)])<|cond (ieq l 2) (oN m<|oN (zoN a)<|oN (inb 0<|ln g.ad)<|p0 (up f k ({g with ad:=(up g.ad 0<|zyH a)}:Mon)) λd=>some [.agg [.s .u8 c.b,.i .i64 (zoO a).i,.i .i64 (zoO a).h],aH ({j with aa:=d}:ac)])<|cond (ieq l 3) (oN m<|p0 (up f k ({g with aj:=[]}:Mon)) λd=>some [.agg [.s .u8 c.b,.i .i64 e.i,.i .i64 e.h],aH ({j with aa:=d}:ac)])<|cond (ieq l 4) (oN (zjK a)<|some [.agg [.s .u8 c.b,.i .i64 (zjL a).i,.i .i64 (zjL a).h],aH ({j with ao:=(zqu a)}:ac)])<|cond (ieq l 5) (oN (zkZ a)<|oN m<|p0 (up f k ({g with aq:=(zsj a)}:Mon)) λd=>some [.agg [.s .u8 c.b,.i .i64 (zk0 a).i,.i .i64 (zk0 a).h],aH ({j with aa:=d}:ac)])<|cond (ieq l 6) (oN (zbt a [-1,1000000000,1000000001])<|oN m<|p0 (up f k ({g with Own:=(zbm a [-1,1000000000,1000000001])}:Mon)) λd=>some [.agg [.s .u8 c.b,.i .i64 n.i,.i .i64 n.h],aH ({j with aa:=d}:ac)])<|cond (ieq l 7) (oN (zoC a)<|some [.agg [.s .u8 c.b,.i .i64 (zhT a).i,.i .i64 (zhT a).h],aH ({j with ag:=(zpG a)}:ac)])<|some [.agg [.s .u8 c.b,.i .i64 e.i,.i .i64 e.h],aH j])
def zqC (c:Cur)(s:Cur)(a:ac):Prop:=(∃N,zxG N c=some (AV.agg (zbU s)::[aH a]))/\(s.b=c.b/\0<=s.i)/\(AnyH a)
def zlJ (c:Cur)  : Bool:=wC (zqC c)
def zsk (c:Cur)  : Cur:=wS (zqC c)
def zyI (c:Cur)  : ac:=wV (zqC c)
def zKr {c:Cur}(h:zlJ c=true):zqC c (zsk c) (zyI c):=wG h
def zYy (c:Cur)  : 0<=(zsk c).i:=wP λh=>h.2.1.2
def zYx (c:Cur)(h:∃N,Ends (wE (λa=>aH a) c.b λa=>AnyH a)<|zxG N c):zlJ c=true:=wI (λ_ _ h=>h) h
def zzp:zdU:=rP0 λc=>(zlJ c,zsk c,[aH<|zyI c])
def zL6:zbR Tryz.prog 37 [false,true,true] zzp:=hP0 zA1 zT zTb zq (zu []) (λ_ h=>(zKr h).1)
def zZ6 {c:Cur}(h:zbd c):zlJ c=true:=by
 refine zYx c ⟨0,?_⟩;unfold zxG oN;conv=>zeta
 obtain⟨S,sm⟩:=z2E (zFg<|zZ8 h).2.2;have A:=z3h S sm;have q:∀{s:Cur},0<=s.i->zbd {s with b:=c.b}:=λy=>zbL h y;have w:zbd {zik c with b:=c.b}:=q (zVt _);have l:0<ln (zq9 c).aa:=by have:=A.n1;unfold ln;omega
 have a:=zt4 w l (kP _);have u:=zbF a zk;generalize B:zq9 c=H at *;generalize zn {zik c with b:=c.b} (ln H.aa)=m at *;have M:=A.mons _ u;have x:=S.ok.mons _ u;generalize C:ix H.aa m zk=X at *;obtain⟨p,e,f,j,k,t⟩:=M.sm;have d:∀{n},zbd {zf {zf {zik c with b:=c.b} n with b:=c.b} 24 with b:=c.b}:=λ{n}=>q (zD _ _);refine zy (zZ8 h) (zy (zbB w _) (zy (zbB (q<|zD _ _) 24)
  (zbE (λ_=>zy (znv d (by omega) (by omega) _) (zy a<|zlg<|zbG aH (v:={H with aa:=up H.aa m {X with ae:=zeZ _ _ _}}) (zox _ _ _)<|zwc A m ?_))
  (λ_=>zbE (λ_=>zy a (zy (zbB d 8)<|zy (zVV<|q<|zD _ _)<|zy (zt4 d (by omega) ?_)<|zlg<|zbG aH (v:={H with aa:=up H.aa m {X with Out:=up X.Out _ (zsi _)}}) (zTs _)<|zwc A m ?_))
  (λ_=>zbE (λ_=>zy a (zy (zH7 d)<|zy ?_<|zlg<|zbG aH (v:={H with aa:=up H.aa m {X with ad:=up X.ad 0 (zyH _)}}) (zYu _)<|zwc A m ?_))
  (λ_=>zbE (λ_=>zy a (zlg<|zbG aH (v:={H with aa:=up H.aa m {X with aj:=[]}}) (zD _ _)<|zwc A m ?_))
  (λ_=>zbE (λ_=>zy (zQ3 d) (zbG aH (v:={H with ao:=zqu _}) (zP8 _) ⟨A.mem,A.n1,A.n3,A.mons,qS (zzZ<|zQ3 d).2.2 (by decide),A.b2⟩))
  (λ_=>zbE (λ_=>zy (z7O d) (zy a<|zlg<|zbG aH (v:={H with aa:=up H.aa m {X with aq:=zsj _}}) (zTx _)<|zwc A m ?_))
  (λ_=>zbE (λ_=>zy (zeE d (by simp)) (zy a<|zlg<|zbG aH (v:={H with aa:=up H.aa m {X with Own:=zbm _ _}}) (zbS _ _)<|zwc A m ?_))
  (λ_=>zbE (λ_=>zy (zR6 d) (zbG aH (v:={H with ag:=zpG _}) (zYh _) ⟨?_,A.n1,A.n3,A.mons,A.b1,A.b2⟩))
  (λ_=>zbG aH (v:=H) (zD _ _) A)))))))))))
 {have g:=(zow<|znv (d (n:=ln H.aa)) (n:=8) (by omega) (by omega) 12).2.2 (by omega) (by omega);refine⟨⟨?_,e,f,j,k,t⟩,M.g1,M.g2,M.t2,?_,g.2 (by omega) (by omega),M.tk⟩;{have:=g.1;unfold ln at this;exact qS (m:=8) (by exact Int.ofNat_le.1 this) (by decide)};{have:=g.1;unfold ln at this;exact Int.ofNat_le.1 this}};{unfold ln;rw[x.u8];decide};{exact⟨⟨p,z7G e _<|qS (zCc<|zVV<|q<|zD _ _).2.2 (by decide),f,j,k,t⟩,M.g1,M.g2,M.t2,M.o8,M.pg,M.tk⟩};{exact qK (by have:=M.g1;unfold ln;omega)};{exact⟨⟨p,e,f,z3s j 0<|z8X (zKp<|zH7 d).2.2,k,t⟩,by rw[zhK];exact M.g1,by rw[zhK];exact M.g2,M.t2,M.o8,M.pg,M.tk⟩};{exact⟨⟨p,e,f,j,k,⟨by simp,by simp⟩⟩,M.g1,M.g2,by simp,M.o8,M.pg,by simp⟩};{exact⟨⟨p,e,f,j,k,t⟩,M.g1,M.g2,M.t2,M.o8,M.pg,M.tk⟩};{exact⟨⟨p,e,f,j,k,t⟩,M.g1,M.g2,M.t2,M.o8,M.pg,M.tk⟩};{have g:=(zKn<|zR6<|d (n:=ln H.aa)).2.2;exact⟨qS g.1 (by decide),λr z=>qS (g.2 r z) (by decide)⟩}
def z5H:zcQ:=[(37,[false,true,true],zzp)]++z5G
def z2Y:zb2 z5H:=zcp zTb (by
 intro x a;simp only[qG,qO,or_false]at a;rcases a with rfl
 .exact zL6)
def zAL (N:Nat)(c:Cur)  : OA :=
 let a:=zba c [0,0,0,1,1,2,-1,9223372036854775807]; (oN (zbt c [0,0,0,1,1,2,-1,9223372036854775807])<|some [.agg [.s .u8 c.b,.i .i64 a.i,.i .i64 a.h],aI<|zbm c [0,0,0,1,1,2,-1,9223372036854775807]])
def zsl (c:Cur)(s:Cur)(a:Int):Prop:=(∃N,zAL N c=some (AV.agg (zbU s)::[aI a]))/\(s.b=c.b/\0<=s.i)/\(True)
def znk (c:Cur)  : Bool:=wC (zsl c)
def zu9 (c:Cur)  : Cur:=wS (zsl c)
def zC2 (c:Cur)  : Int:=wV (zsl c)
def z0X {c:Cur}(h:znk c=true):zsl c (zu9 c) (zC2 c):=wG h
def z0Z (c:Cur)  : 0<=(zu9 c).i:=wP λh=>h.2.1.2
def z0Y (c:Cur)(h:∃N,Ends (wE (λa=>aI a) c.b λa=>True)<|zAL N c):znk c=true:=wI (λ_ _ h=>h) h
def zBQ:zdU:=rP0 λc=>(znk c,zu9 c,[aI<|zC2 c])
def zPh:zbR Tryz.prog 38 [false,true,true] zBQ:=hP0 zA1 zT zGY zq (zu []) (λ_ h=>(z0X h).1)
def z9N {c:Cur}(h:zbd c):znk c=true:=by
 refine z0Y c ⟨0,?_⟩;unfold zAL oN;conv=>zeta
 exact zy (zeE h (by simp)) (zbG aI (zbS _ _) trivial)
def z5I:zcQ:=[(38,[false,true,true],zBQ)]++z5H
def zG3:zb2 z5I:=zcp z2Y (by
 intro x a;simp only[qG,qO,or_false]at a;rcases a with rfl
 .exact zPh)
def z4t:zW:=[(144,zrz)]++zZe
def z2a:zL z4t:=zh zuq zA1
def zNZ {a:LI}(h:a.length<=big){G:Ans->Prop}{N:Nat}(l:a.length<N){g:Int}{R:Int->OA}{d:Type}(S:Int->Int->d){F:(d->OA)->d->OA}(k:∀rec i t,F rec (S i t)=bif ilt i (ln a) then (cond (ilt i 4000) (cond (inb i<|ln a) (rec<|S (zO .i64 i 1)<|wand .i64 (zO .i64 (zO .i64 (zm8 .i64 t 131)<|wcv .i64<|ix a i 0) 7) 1073741823) none)<|R t) else R t)(e:∀t,zbd ⟨a,0,t⟩->Ends G (R t)):Ends G (iter N F<|S 0 g):=by refine zlV (λn s=>∃(i:Nat) (t:Int),s=S (i:Int) t/\i+n=a.length) ?_ N a.length _ ⟨0,g,rfl,by omega⟩ l;rintro n s rec ⟨i,t,rfl,p⟩ b;rw[k];have f:zbd ⟨a,0,t⟩:=⟨kP 0,h⟩;refine zbE (λj=>zbE (λm=>?_) λ_=>e t f) (λ_=>e t f);have c:(i:Int)<ln a:=qF j;unfold ln at c;rw[zbg (show i<a.length by omega) h];exact zy (qK ⟨by omega,by unfold ln;omega⟩) (b (n-1) _ (by omega) ⟨i+1,_,rfl,by omega⟩)
def z8Q {b:LI}(h:b.length<=big){s:Cur}(a:0<=s.i):zbd {s with b:=b}:=⟨a,h⟩
def z4u:zW:=z4t
def zRh:zL z4u:=z2a
def zpQ (N:Nat)(g:LI):OA:=
 (iter (σ:=(Int×Int×LI×lM×lN×lE×lE×Unit)) N (λh a=>let c:=a.2.2.1;let e:=(⟨c,0,a.1⟩:Cur);let d:=({ (zsk e) with b:=c}:Cur);let f:=({ (zu9 d) with b:=c}:Cur); (cond (ilt a.2.1<|ln c) (cond (ilt a.2.1 4000) (oN (inb a.2.1<|ln c)<|h (wand .i64 (zO .i64 (zO .i64 (zm8 .i64 a.1 131)<|wcv .i64<|ix c a.2.1 0) 7) 1073741823,zO .i64 a.2.1 1,c,a.2.2.2.1,a.2.2.2.2.1,a.2.2.2.2.2.1,a.2.2.2.2.2.2.1,()))<|oN (zlJ e)<|oN (znk d)<|oN (zj1 f)<|some [aH<|zyI e,aI<|zC2 d,aI<|zu7 f])<|oN (zlJ e)<|oN (znk d)<|oN (zj1 f)<|some [aH<|zyI e,aI<|zC2 d,aI<|zu7 f])) (zO .i64 94701<|ln g,0,g,[],[],[],[],()))
def zQq:=zu [(16,0,{n:=32,tm:=[(0,.sl 0 []),(3,ti),(4,ti)],lo:=[(0,[.sl 1 [],.sl 2 [],.sl 3 [],.sl 4 []])],ro:=[(0,.u8,false),(1,.sl .int,true),(2,.mon,true),(3,.entry,true),(4,.entry,true)],sk:=[(0,2,0,.lp 0 0)]})]
def ztJ (b:LI)(a:ac)(c:Int)(d:Int):Prop:=(∃N,zpQ N b=some [aH a,aI c,aI d])/\(AnyH a)
def zj3 (a:LI):Bool:=uC (T:=ac×Int×Int) (λr=>ztJ a r.1 r.2.1 r.2.2)
def zvR (a:LI):ac×Int×Int:=uV (λr=>ztJ a r.1 r.2.1 r.2.2)
def zqD (a:LI):ac:=(zvR a).1
def zqE (a:LI):Int:=(zvR a).2.1
def zqF (a:LI):Int:=(zvR a).2.2
def zFh {a:LI}(h:zj3 a=true):ztJ a (zqD a) (zqE a) (zqF a):=uG h
def zVu (f:LI)(h:∃N,Ends (λa=>∃b c d,a=[aH b,aI c,aI d]/\(AnyH b))<|zpQ N f):zj3 f=true:=by obtain⟨N,a,e,b,c,d,rfl,h⟩:=h;exact zbs ⟨(b,c,d),⟨N,e⟩,h⟩
def zzP:Run:=rF1 (dS .u8) λb=>(zj3 b,[aH<|zqD b,aI<|zqE b,aI<|zqF b])
def zPX (a:LI)(b:zj3 a=true):∃N,zpQ N a=some [aH<|zqD a,aI<|zqE a,aI<|zqF a]:=by exact(zFh b).1
def zJk:vM 14 zzP:=kF1 zRh zT zG3 zq zQq zPX
def zOq {a:LI}(h:a.length<=big):zj3 a=true:=by
 refine zVu a (zct λN b=>?_);unfold zpQ oN;conv=>zeta
 refine zNZ h (b h) ((λi t=>(t,(i:Int),a,[],[],[],[],())):Int->Int->_) (λrec i t=>by dsimp only) (λt c=>?_);exact zy (zZ6 c) (zy (z9N<|z8Q h<|zYy _)<|zy (z7p<|z8Q h<|z0Z _) ⟨_,rfl,_,_,_,rfl,(zKr<|zZ6 c).2.2⟩)
def z4v:zW:=[(14,zzP)]++z4u
def zFK:zL z4v:=zh zJk zRh
def zZR:At->Option CV
 |.i k n=>some (.i k n)
 |.b x=>some (.b x)
 |_=>none
def z2O (b:List TV)(st:St):OA:=
 match b,st.tm with
 |[.at<|.lp l 0],[.v<|.at<|.sl r []] =>
  match zl st.lo l with
  |some (.sl a []::cs)=>cond (Nat.beq r a&&(st.root r).isSome) (match zb6 zZR cs with|some cvs=>some (cvs.map AV.one)|none=>none) none
  |_=>none
 |_,_=>none
def zVY:∀(cvs:LC),zx (cvs.map AV.one)=cvs
 |[]=>rfl
 |c::l=>by have:=zVY l;simp only[zx,jC,jV,AV.cvs] at this ⊢;rw[this];rfl
def zIs {w:World}{st:St}{E:Env}:∀(m:List At) (cvs:LC) (e:List Value),zb6 zZR m=some cvs->e.length=m.length->(∀(j:Nat) (c:At) (u:Value),m[j]?=some c->e[j]?=some u->VA w st E c u)->zcM true w cvs e (λ_ _=>False)
 |[],cvs,e,h,q,_=>by cases h;exact⟨by simpa using q,λi c x h=>by simp at h⟩
 |a::m,cvs,e,h,q,A=>by cases e with|nil=>simp at q|cons y e=>simp only[zb6]at h;split at h;{rename_i c d;split at h;{rename_i B s;cases h;obtain⟨D,F⟩:=zIs m B e s (by simpa using q) (λj c u d G=>A (j+1) c u (by simpa using d) (by simpa using G));refine⟨by simp[D],λi C x g v=>?_⟩;cases i with|zero=>simp only[qH,qC]at g v;subst g v;have z:=A 0 a y rfl rfl;(cases a with|i k n=>cases d;cases z;exact .i _ _ _|b x=>cases d;cases z;exact .b _ _|bad=>cases d|sl r p=>cases d|lp l o=>cases d|ep r p i o=>cases d|fn f c=>cases d|kp r J t=>cases d)|succ i=>exact F i C x (by simpa using g) (by simpa using v)};{cases h}};{cases h}
def zLo {C:Cfg}(hO:EngOk C){f:FuncId}{a6:LW}(hf:FnOk C.P f)(h:∀(A T:LA),(∃w xs,zcM false w (zx A) xs λ_ b=>b<w.heap.size)->a6 A=some (true,T)->
 ∃(t:Ty) (l:List t.den) (tms:FuncId->Nat->Option Tmpl) (N D:Nat),A=[.one<|.s t l]/\zpY C tms N (zlU C tms N D) f [.v<|.at<|.sl 0 []] {tm:=[.v<|.at<|.sl 0 []],lo:=[],ro:=[(0,⟨t,l,false,none⟩)],stk:=[],nid:=1,ep:=0} z2O=some T):zH3 C.P f a6:=by
 refine⟨hf,λw A xs T B a1=>?_⟩;obtain⟨t,l,tms,N,D,rfl,Z⟩:=h A T ⟨w,xs,B⟩ a1;have b5:xs.length=1:=B.1;obtain⟨u,rfl⟩:∃u,xs=[u]:=List.length_eq_one_iff.1 b5;have hu:Rep false w u (.s t l) (λb=>b<w.heap.size):=B.2 0 _ u rfl rfl;obtain⟨⟨a,a7,b2,_⟩,_⟩:=hu.len;generalize q:({tm:=[.v<|.at<|.sl 0 []],lo:=[],ro:=[(0,⟨t,l,false,none⟩)],stk:=[],nid:=1,ep:=0}:St)=M at Z;have L:∀(r:Nat) (R:Root),zl M.ro r=some R->r=0/\R=⟨t,l,false,none⟩:=by intro r R p;rw[<- q]at p;simp only[zl]at p;split at p;{rename_i J;simp only[qJ]at J;cases p;exact⟨J.symm,rfl⟩};{cases p}
 have z:∀(r:Nat) (R:Root),M.root r=some R->r=0/\R=⟨t,l,false,none⟩:=λr R p=>L r R (zbr p).1;have I:∀l,zl M.lo l=none:=λl=>by rw[<- q];rfl
 let E:Env:={ρ:=λ_=>u,φ:=λ_ b=>b<w.heap.size,β:=λ_=>0,κ:=w}
 have a4:VA w M E (.sl 0 []) u:=⟨⟨a,_,a7,b2⟩,λR _=>by simp[zX,E]⟩
 have hS:Sim w (λx=>x=w.heap.size) (λn=>n<1) M E #[u] [] w:=by
  refine⟨⟨rfl,rfl,rfl,qV _,λ_ _ _=>rfl,λr R p=>?_,λr R _ x hx=>hx,λr R p ho=>?_,λhz=>absurd rfl hz,λr R r' R' p ho=>?_,λl U K=>?_,λl l' U b6 K=>?_,λl U r R K=>?_,λr R e p J=>?_,rfl⟩,⟨λn R G=>?_,λn U G=>?_,λm k n G=>?_,λf hf=>?_⟩,⟨?_,λi m v k y=>?_⟩,?_⟩;{obtain⟨_,rfl⟩:=z r R p;exact hu};{obtain⟨_,rfl⟩:=z r R p;cases ho};{obtain⟨_,rfl⟩:=z r R p;cases ho};{rw [I]at K;cases K};{rw [I]at K;cases K};{rw [I]at K;cases K};{obtain⟨_,rfl⟩:=L r R p;cases J};{obtain⟨rfl,_⟩:=L n R G;exact Nat.one_pos};{rw [I]at G;cases G};{rw [<- q]at k;simp only[qD]at k;subst k;simp only[MV.ids,zbA,zS,jV,kV,At.ids,zbk,zbq,q9,qD]at G;omega};{rw [<- q]at hf;simp at hf};{rw [<- q];rfl}
  .rw [<- q]at k
   match i,k,y with
   | 0,k,y=>simp only[qH,qC]at k;have y:u=v:=(by simpa using y);subst k y;exact a4
   |i+1,k,y=>simp at k
  {rw [<- q];trivial}
 have a0:M.nid=1:=by rw[<- q]
 obtain⟨_,H⟩:=zh3 hO (zhb hO (tms:=tms) (N:=N) D) f _ M _ T Z w (λx=>x=w.heap.size) _ E #[u] [] w #[u]
  (λv Q=>Grown w Q/\∃(ys:List Value) (b:Nat) (e:TypeId),zcM true Q (zx T) ys (λ_ _=>False)/\v = .pointer (some ⟨b,0,none⟩)/\w.heap.size<=b/\Q.heap[b]?=some (.cells (u::ys).toArray e (0,0))) hS (λn G h=>by rw[a0]at G;omega) rfl
  (λi m v k y=>by
   match i,k,y with
   | 0,k,y=>simp only[qH,qC]at k;have y:u=v:=(by simpa using y);subst k y;exact a4
   |i+1,k,y=>simp at k)
  (λm k n G=>by
   simp only[qD]at k;subst k;simp only[MV.ids,zbA,zS,jV,kV,At.ids,zbk,zbq,q9,qD]at G;omega)
  (λU' O E' Q b7 v W _ _ _ y _ d=>by
   have S:=W.mem;unfold z2O at d;split at d
   .rename_i l1 r htm hdd;split at d
    .rename_i r' U hcs;cases X:(Nat.beq r r'&&(O.root r).isSome) with
     |false=>rw[X]at d;cases d
     |true=>rw[X,cond_true]at d;simp only[qE]at X;have b0:r=r':=kD X.1;subst b0;obtain⟨R,p⟩:=k6.1 X.2;split at d;{rename_i cvs Y;cases d;obtain⟨V,g,e,h2,h3,h4⟩:=S.loc l1 _ hcs;have y:VA Q O E' (.lp l1 0) v:=y;have b4:=y.2 _ hcs;have F:0<g.size:=(by rw[h3];simp);have a2:=(h4 0 _ (g[0]'F) rfl (jE F)).2.2 R p;have b1:=W.tm.2 0 _ u (by rw[htm];rfl) rfl;have a3:=b1.2 R p;simp only[zX,qC]at a2 a3;have b3:g[0]'F=u:=a2.symm.trans a3;refine⟨⟨S.os,S.tape,S.output,S.size,λb hb=>S.keep b hb (λh=>by omega)⟩,g.toList.drop 1,E'.β l1,e,?_,b4,?_,?_⟩;{rw [zVY];refine zIs (w:=Q) (st:=O) (E:=E') U cvs _ Y ?_ (λj c x a9 hx=>?_);{simp [h3]};{refine(h4 (j+1) c x (by simpa using a9) ?_).2;rw[jO]at hx;rw[Nat.add_comm];simpa using hx}};{rcases V with V|V;{exact kX V.symm};{exact V}};{rw [h2];have:(u::g.toList.drop 1)=g.toList:=(by cases a5:g.toList with|nil=>have:=congrArg List.length a5;rw[kK,k7] at this;omega|cons x r=>have:g[0]'F=x:=(by have h5:g.toList[0]?=some x:=(by rw[a5];rfl);rw[kL,jE F]at h5;exact Option.some.inj h5);rw[<- b3,this];rfl);rw[this,jM]}};{cases d}
    .cases d
   .cases d)
 refine H.mono ?_;intro e Q J;cases e with
 |returned v=>exact J
 |panicked a8=>exact J.elim
 |outgrown=>exact J.elim
def zCw (N:Nat)(b:LI):OA:=
 iter (σ:=(Int×Int×LI×Unit)) N (λc a=>cond (ilt a.2.1<|ln a.2.2.1) (cond (ilt a.2.1 4000) (cond (inb a.2.1<|ln a.2.2.1) (c (wand .i64 (zO .i64 (zO .i64 (zm8 .i64 a.1 131)<|wcv .i64<|ix a.2.2.1 a.2.1 0) 7) 1073741823,zO .i64 a.2.1 1,a.2.2.1,())) none)<|some [aI 0,aI a.1])<|some [aI 0,aI a.1]) (zO .i64 94701<|ln b,0,b,())
def zNi:=zu [(16,0,{n:=32,tm:=[(0,.sl 0 []),(3,ti),(4,ti)],lo:=[],ro:=[(0,.u8,false)]})]
def z8N (N:Nat)(a:LI):zpY (cQ zvz zSP zBN zHg) zNi N (zlU (cQ zvz zSP zBN zHg) zNi N 12) 16 [.v<|.at<|.sl 0 []] {tm:=[.v<|.at<|.sl 0 []],lo:=[],ro:=[(0,⟨.u8,a,false,none⟩)],stk:=[],nid:=1,ep:=0} z2O=zCw N a:=by kernel_rfl
def z2P {b:LI}(h:b.length<=big):∃N,Ends (λa=>∃t:Int,a=[aI 0,aI t]) (zCw N b):=by refine zct λN c=>?_;unfold zCw;exact zNZ h (c h) (λi t=>(t,i,b,())) (λrec i t=>by dsimp only) (λt d=>⟨_,rfl,t,rfl⟩)
def newT (a:LI):Int:=@Classical.epsilon Int ⟨0⟩ (λt=>∃N,zCw N a=some [aI 0,aI t])
def z7i {b:LI}(h:b.length<=big):∃N,zCw N b=some [aI 0,aI<|newT b]:=by obtain⟨N,a,e,t,rfl⟩:=z2P h;exact @Classical.epsilon_spec Int (λt=>∃N,zCw N b=some [aI 0,aI t]) ⟨t,N,e⟩
def zCZ:LW
 |[.one<|.s .u8 b]=>some (true,[aI 0,aI<|newT b])
 |_=>none
def zZ7:zef Tryz.prog 16 [] (some (0,0,[])) zCZ:=by show zH3 Tryz.prog 16 zCZ;refine zLo (zfU zdo zT zA zq) (ziq (by kernel_rfl)) λb f e h=>?_;have d:=zEB e;unfold zCZ at h;split at h;{rename_i a;cases h;obtain⟨N,c⟩:=z7i (len0 d);exact⟨.u8,a,zNi,N,12,rfl,(z8N N a).trans c⟩};{cases h}
def z92:zfn:=[(16,[],some (0,0,[]),zCZ)]++zHg
def z7M:zej z92:=zm5 zq λx a=>by rw[qD.1 a];exact zZ7
def zvm (N:Nat)(c:Cur)  : OA :=
 let a:=zba c [1,1,2,2,3,0,4,-1]; (oN (zbt c [1,1,2,2,3,0,4,-1])<|some [.agg [.s .u8 c.b,.i .i64 a.i,.i .i64 a.h],aI<|zbm c [1,1,2,2,3,0,4,-1]])
def zoE (c:Cur)(s:Cur)(a:Int):Prop:=(∃N,zvm N c=some (AV.agg (zbU s)::[aI a]))/\(s.b=c.b/\0<=s.i)/\(True)
def zmi (c:Cur)  : Bool:=wC (zoE c)
def zFf (c:Cur)  : Cur:=wS (zoE c)
def zCd (c:Cur)  : Int:=wV (zoE c)
def zVj {c:Cur}(h:zmi c=true):zoE c (zFf c) (zCd c):=wG h
def zVk (c:Cur)(h:∃N,Ends (wE (λa=>aI a) c.b λa=>True)<|zvm N c):zmi c=true:=wI (λ_ _ h=>h) h
def zwN:zdU:=rP0 λc=>(zmi c,zFf c,[aI<|zCd c])
def zJa:zbR Tryz.prog 15 [false,true,true] zwN:=hP0 zFK zT zG3 zq (zu []) (λ_ h=>(zVj h).1)
def z8L {c:Cur}(h:zbd c):zmi c=true:=by
 refine zVk c ⟨0,?_⟩;unfold zvm oN;conv=>zeta
 exact zy (zeE h (by simp)) (zbG aI (zbS _ _) trivial)
def z9W:zcQ:=[(15,[false,true,true],zwN)]++z5I
def z7q:zb2 z9W:=zcp zG3 (by
 intro x a;simp only[qG,qO,or_false]at a;rcases a with rfl
 .exact zJa)
def znr (N:Nat)(a:LI):OA:=
 (oN (zj3 a)<|oN (zmi (⟨a,0,newT a⟩:Cur))<|some [aH<|zqD a,aI<|zqE a,aI<|zqF a,aI<|zCd (⟨a,0,newT a⟩:Cur)])
def zrI (b:LI)(a:ac)(c:Int)(d:Int)(e:Int):Prop:=(∃N,znr N b=some [aH a,aI c,aI d,aI e])/\(AnyH a)
def ziJ (a:LI):Bool:=uC (T:=ac×Int×Int×Int) (λr=>zrI a r.1 r.2.1 r.2.2.1 r.2.2.2)
def zoj (a:LI):ac×Int×Int×Int:=uV (λr=>zrI a r.1 r.2.1 r.2.2.1 r.2.2.2)
def zkN (a:LI):ac:=(zoj a).1
def zkO (a:LI):Int:=(zoj a).2.1
def zkP (a:LI):Int:=(zoj a).2.2.1
def zkQ (a:LI):Int:=(zoj a).2.2.2
def zB9 {a:LI}(h:ziJ a=true):zrI a (zkN a) (zkO a) (zkP a) (zkQ a):=uG h
def zTm (g:LI)(h:∃N,Ends (λa=>∃b c d f,a=[aH b,aI c,aI d,aI f]/\(AnyH b))<|znr N g):ziJ g=true:=by obtain⟨N,a,e,b,c,d,f,rfl,h⟩:=h;exact zbs ⟨(b,c,d,f),⟨N,e⟩,h⟩
def zw3:Run:=rF1 (dS .u8) λb=>(ziJ b,[aH<|zkN b,aI<|zkO b,aI<|zkP b,aI<|zkQ b])
def zMw (a:LI)(b:ziJ a=true):∃N,znr N a=some [aH<|zkN a,aI<|zkO a,aI<|zkP a,aI<|zkQ a]:=by exact(zB9 b).1
def zGc:vM 5 zw3:=kF1 zFK zT z7q z7M (zu []) zMw
def zIo {a:LI}(h:a.length<=big):ziJ a=true:=by refine zTm a ⟨0,?_⟩;unfold znr oN;exact zy (zOq h) (zy (z8L ⟨kP 0,h⟩) ⟨_,rfl,_,_,_,_,rfl,(zFh<|zOq h).2⟩)
def zZC:zW:=[(5,zw3)]++z4v
def zOe:zL zZC:=zh zGc zFK
def z8m:zW:=[(21,zhB),(22,zjX),(23,zjW),(17,zhB),(18,zjX),(19,zjW)]++zvz
def zOd:zL z8m:=zh zuu (zh zzf<|zh zze<|zh zs3<|zh zul<|zh zwo zdo)
def zmv (h:ac)(m p n:Int):Bool:=bif zbX h m p then zi n 1 3 else false
def zlm (h:ac)(m p n:Int):ac:=bif zmv h m p n then A0 h m p n else h
def zWj {h:ac}(f:zcN h){m p n:Int}(d:zbX h m p=true)(e:zi n 1 3=true):zH4 h m p n:=by obtain⟨a,b,c⟩:=zf6.1 d;have g:=zfE.1 e;exact⟨zew ((zU _).1 f) a,b,c,by omega,znQ (zf3 a _<|zbF (zI b) mZ) c⟩
@[simp] abbrev zpF (h:ac)(_ _ _:Int):Bool:=pc (zcN h)
@[simp] abbrev zia (h:ac)(m p n:Int):ac:=zlm h m p n
@[simp] abbrev zhk (h:ac)(m p n:Int):Bool:=zmv h m p n
def zr9:Run:=rF4 dH dI dI dI λb c d e=>(zpF b c d e,[aH<|zia b c d e,aB<|zhk b c d e])
def zQQ (N:Nat)(e:ac)(b c d:Int):OA:=
 let a:=zo e; (oN (zbu e)<|oN (zhX a b c)<|cond (nB<|zd1 a b c) (some [aH a,aB false])<|oN (zM d 1 3)<|cond (nB<|zi d 1 3) (some [aH a,aB false])<|oN (zgZ a b c d)<|some [aH<|zgt a b c d,aB true])
def zXW (a:ac)(b c d:Int)(h:zpF a b c d=true):∃N,zQQ N a b c d=some [aH<|zia a b c d,aB<|zhk a b c d]:=by
 have e:=zN.1 h;refine⟨0,?_⟩;unfold zQQ zia zhk zlm zmv oN nB;conv=>zeta
 refine j0 (zbD e) (j0 rfl ?_);rw[show zd1 (zo a) b c=zbX a b c from rfl];cases f:zbX a b c;{rfl};{refine zdM rfl (j0 rfl ?_);rw[show zi d 1 3=zi d 1 3 from rfl];cases g:zi d 1 3;{rfl};{exact zdM rfl (j0 (zbD<|zWj e f g) rfl)}}
def zRY:vM 7 zr9:=kF4 zOd zT zce zxt (zu []) zXW
def zQM (N:Nat)(a:ac)(b c d:Int):OA:=
 (oN (zbu a)<|oN (zhX a b c)<|cond (nB<|zd1 a b c) (some [aH<|zo a,aB false])<|oN (zM d 1 3)<|cond (nB<|zi d 1 3) (some [aH<|zo a,aB false])<|oN (zgZ (zo a) b c d)<|some [aH<|zgt (zo a) b c d,aB true])
def zXQ (a:ac)(b c d:Int)(h:zpF a b c d=true):∃N,zQM N a b c d=some [aH<|zia a b c d,aB<|zhk a b c d]:=by have e:=zN.1 h;refine⟨0,?_⟩;unfold zQM zia zhk zlm zmv oN nB;refine j0 (zbD e) (j0 rfl ?_);rw[show zd1 a b c=zbX a b c from rfl];cases f:zbX a b c;{rfl};{refine zdM rfl (j0 rfl ?_);rw[show zi d 1 3=zi d 1 3 from rfl];cases g:zi d 1 3;{rfl};{exact zdM rfl (j0 (zbD<|zWj e f g) rfl)}}
def zRS:vM 6 zr9:=kF4 zOd zT zce zxt (zu []) zXQ
def z8n:zW:=[(30,zqd)]++zvz
def zZB:zL z8n:=zh zrn zdo
def zwi (h:ac)(m p:Int):Bool:=bif ige p 0 then (cond (ilt p<|ln (zdz h m).ar) (ix (zdz h m).ar p false) false) else false
@[simp] abbrev zjU (h:ac)(_ _:Int):Bool:=pc (zcN h)
@[simp] abbrev zuv (h:ac)(m p:Int):Bool:=zwi h m p
def zzt:Run:=rF3 dH dI dI λb c d=>(zjU b c d,[aB<|zuv b c d])
def zD5 (N:Nat)(c:ac)(d a:Int):OA:=
 let b:=(zdz c d).ar; (oN (zu6 c d)<|cond (ige a 0) (cond (ilt a<|ln b) (oN (inb a<|ln b)<|some [aB<|ix b a false]) oF) oF)
def zPq (b:ac)(c a:Int)(f:zjU b c a=true):∃N,zD5 N b c a=some [aB<|zuv b c a]:=by
 have g:=zN.1 f;refine⟨0,?_⟩;unfold zD5 zuv zwi oN;conv=>zeta
 refine j0 (zbD g) ?_;cases d:ige a 0;{rfl};{cases e:ilt a (ln (zdz b c).ar);{rfl};{exact j0 rfl (j0 rfl (j0 (qK ⟨qF d,qF e⟩) rfl))}}
def zIL:vM 10 zzt:=kF3 zZB zT zA zq (zu []) zPq
def zgj (x y:LI):Bool:=pc (x=y)
def zwY:Run:=rF2 (dS .int) (dS .int) λb c=>(zgj b c,[aB<|zc8 b c])
def zNg:=zu [(53,0,{n:=26,tm:=[(0,.sl 0 []),(1,.sl 1 []),(5,ti)],lo:=[],ro:=[(0,.int,false),(1,.int,false)]})]
def zMo (a b:LI)(d:zbV big [aS .int a,aS .int b])(e:zgj a b=true):∃N,zpP N a b=some [aB<|zc8 a b]:=by have:=zN.1 e;subst this;have f:=len0 d;refine⟨a.length+1,?_⟩;unfold zpP oN;rw[zb4];refine zg4 a z9J _ _ f (λi c rec=>?_) (λrec=>?_) (jS _);{simp only [zbx c,zbe c,zbl c,zje,zb4,zda,zde,cT,cF,jN,jQ]};{simp only [zbp,cF,zc8]}
def zF6:vM 53 zwY:=hF2 zdo zT zA zq zNg zMo
def zhz (x y:List Bool):Bool:=pc (x=y)
def zh6 (_ _:List Bool):Bool:=true
def zuL:Run:=rF2 (dS .bool) (dS .bool) λb c=>(zhz b c,[aB<|zh6 b c])
def zyV (N:Nat)(b c:lB):OA:=
 (cond (ine (ln b)<|ln c) oF<|iter (σ:=(Int×lB×lB×Unit)) N (λd a=>cond (ilt a.1<|ln a.2.1) (oN (inb a.1<|ln a.2.1)<|oN (inb a.1<|ln a.2.2.1)<|cond (nB<|ziu (ix a.2.1 a.1 false)<|ix a.2.2.1 a.1 false) oF<|d (zO .i64 a.1 1,a.2.1,a.2.2.1,())) oT) (0,b,c,()))
def zKO:=zu [(95,0,{n:=26,tm:=[(0,.sl 0 []),(1,.sl 1 []),(5,ti)],lo:=[],ro:=[(0,.bool,false),(1,.bool,false)]})]
def zJA (a b:List Bool)(d:zbV big [aS .bool a,aS .bool b])(e:zhz a b=true):∃N,zyV N a b=some [aB<|zh6 a b]:=by have:=zN.1 e;subst this;have f:=len0 d;refine⟨a.length+1,?_⟩;unfold zyV oN nB;rw[zb4];refine zg4 a z9c _ _ f (λi c rec=>?_) (λrec=>?_) (jS _);{simp only [zbx c,zbe c,zbl c,zje,zb4,zda,zde,cT,cF,jN,jQ]};{simp only [zbp,cF,zh6]}
def zDd:vM 95 zuL:=hF2 zdo zT zA zq zKO zJA
def zdq (x y:List k0):Bool:=pc (x=y)
def zdD (_ _:List k0):Bool:=true
def zkd:Run:=rF2 (dS .slot) (dS .slot) λb c=>(zdq b c,[aB<|zdD b c])
def zmp (N:Nat)(b c:lS):OA:=
 (cond (ine (ln b)<|ln c) oF<|iter (σ:=(Int×lS×lS×Unit)) N (λf a=>let e:=ix a.2.1 a.1 zY;let d:=ix a.2.2.1 a.1 zY; (cond (ilt a.1<|ln a.2.1) (oN (inb a.1<|ln a.2.1)<|oN (inb a.1<|ln a.2.2.1)<|cond (nB<|cond (ieq e.af d.af) (ieq e.ai d.ai) false) oF<|f (zO .i64 a.1 1,a.2.1,a.2.2.1,())) oT)) (0,b,c,()))
def zKR:=zu [(94,0,{n:=26,tm:=[(0,.sl 0 []),(1,.sl 1 []),(5,ti)],lo:=[],ro:=[(0,.slot,false),(1,.slot,false)]})]
def zJE (a b:List k0)(d:zbV big [aS .slot a,aS .slot b])(e:zdq a b=true):∃N,zmp N a b=some [aB<|zdD a b]:=by
 have:=zN.1 e;subst this;have f:=len0 d;refine⟨a.length+1,?_⟩;unfold zmp oN nB;conv=>zeta
 rw[zb4];refine zg4 a zY _ _ f (λi c rec=>?_) (λrec=>?_) (jS _);{simp only [zbx c,zbe c,zbl c,zje,zb4,zda,zde,cT,cF,jN,jQ]};{simp only [zbp,cF,zdD]}
def zDh:vM 94 zkd:=hF2 zdo zT zA zq zKR zJE
def ziA (x y:List au):Bool:=pc (x=y)
def ziz (_ _:List au):Bool:=true
def ztn:Run:=rF2 (dS .entry) (dS .entry) λb c=>(ziA b c,[aB<|ziz b c])
def zv3 (N:Nat)(d e:lE):OA:=
 (cond (ine (ln d)<|ln e) oF<|iter (σ:=(Int×lE×lE×Unit)) N (λf a=>let c:=ix a.2.1 a.1 zfb;let b:=ix a.2.2.1 a.1 zfb; (cond (ilt a.1<|ln a.2.1) (oN (inb a.1<|ln a.2.1)<|oN (inb a.1<|ln a.2.2.1)<|cond (nB<|cond (ieq c.Tag b.Tag) (cond (ieq c.af b.af) (cond (ieq c.ac b.ac) (ieq c.ai b.ai) false) false) false) oF<|f (zO .i64 a.1 1,a.2.1,a.2.2.1,())) oT)) (0,d,e,()))
def zHk:=zu [(27,0,{n:=26,tm:=[(0,.sl 0 []),(1,.sl 1 []),(5,ti)],lo:=[],ro:=[(0,.entry,false),(1,.entry,false)]})]
def zGG (a b:List au)(d:zbV big [aS .entry a,aS .entry b])(e:ziA a b=true):∃N,zv3 N a b=some [aB<|ziz a b]:=by
 have:=zN.1 e;subst this;have f:=len0 d;refine⟨a.length+1,?_⟩;unfold zv3 oN nB;conv=>zeta
 rw[zb4];refine zg4 a zfb _ _ f (λi c rec=>?_) (λrec=>?_) (jS _);{simp only [zbx c,zbe c,zbl c,zje,zb4,zda,zde,cT,cF,jN,jQ]};{simp only [zbp,cF,ziz]}
def zBh:vM 27 ztn:=hF2 zdo zT zA zq zHk zGG
def zhg (x y:List Ins):Bool:=pc (x=y)
def zgP (_ _:List Ins):Bool:=true
def zls:Run:=rF2 (dS .ins) (dS .ins) λb c=>(zhg b c,[aB<|zgP b c])
def znq (N:Nat)(b c:lI):OA:=
 (cond (ine (ln b)<|ln c) oF<|iter (σ:=(Int×lI×lI×Unit)) N (λf a=>let e:=ix a.2.1 a.1 zsn;let d:=ix a.2.2.1 a.1 zsn; (cond (ilt a.1<|ln a.2.1) (oN (inb a.1<|ln a.2.1)<|oN (inb a.1<|ln a.2.2.1)<|cond (nB<|cond (ieq e.Op d.Op) (ieq e.X d.X) false) oF<|f (zO .i64 a.1 1,a.2.1,a.2.2.1,())) oT)) (0,b,c,()))
def zNf:=zu [(163,0,{n:=26,tm:=[(0,.sl 0 []),(1,.sl 1 []),(5,ti)],lo:=[],ro:=[(0,.ins,false),(1,.ins,false)]})]
def zMn (a b:List Ins)(d:zbV big [aS .ins a,aS .ins b])(e:zhg a b=true):∃N,znq N a b=some [aB<|zgP a b]:=by
 have:=zN.1 e;subst this;have f:=len0 d;refine⟨a.length+1,?_⟩;unfold znq oN nB;conv=>zeta
 rw[zb4];refine zg4 a zsn _ _ f (λi c rec=>?_) (λrec=>?_) (jS _);{simp only [zbx c,zbe c,zbl c,zje,zb4,zda,zde,cT,cF,jN,jQ]};{simp only [zbp,cF,zgP]}
def zF5:vM 163 zls:=hF2 zdo zT zA zq zNf zMn
def zZF:zW:=[(53,zwY),(95,zuL),(94,zkd),(27,ztn),(163,zls)]++zvz
def zt9:zL zZF:=zh zF6 (zh zDd<|zh zDh<|zh zBh<|zh zF5 zdo)
def zeW (x y:List LI):Bool:=pc (x=y)
def zeR (_ _:List LI):Bool:=true
def zkc:Run:=rF2 (dS<|.sl .int) (dS<|.sl .int) λb c=>(zeW b c,[aB<|zeR b c])
def zyY (N:Nat)(b:lM)(c:lM):OA:=
 (cond (ine (ln b)<|ln c) oF<|iter (σ:=(Int×lM×lM×Unit)) N (λd a=>cond (ilt a.1<|ln a.2.1) (oN (inb a.1<|ln a.2.1)<|oN (inb a.1<|ln a.2.2.1)<|oN (zgj (ix a.2.1 a.1 [])<|ix a.2.2.1 a.1 [])<|cond (nB<|zc8 (ix a.2.1 a.1 [])<|ix a.2.2.1 a.1 []) oF<|d (zO .i64 a.1 1,a.2.1,a.2.2.1,())) oT) (0,b,c,()))
def zKQ:=zu [(25,0,{n:=27,tm:=[(0,.sl 0 []),(1,.sl 1 []),(5,ti)],lo:=[],ro:=[(0,.sl .int,false),(1,.sl .int,false)]})]
def zJD (a:List LI)(b:List LI)(d:zbV big [aS (.sl .int) a,aS (.sl .int) b])(e:zeW a b=true):∃N,zyY N a b=some [aB<|zeR a b]:=by have:=zN.1 e;subst this;have f:=len0 d;refine⟨a.length+1,?_⟩;unfold zyY oN nB;rw[zb4];refine zg4 a (Ty.dflt<|.sl .int) _ _ f (λi c rec=>?_) (λrec=>?_) (jS _);{simp only [zbx c,zbe c,zbl c,zgj,zc8,zje,zb4,zda,zde,cT,cF,jN,jQ]};{simp only [zbp,cF,zeR]}
def zDg:vM 25 zkc:=hF2 zt9 zT zA zq zKQ zJD
def znN (x y:ax):Bool:=pc (x=y)
def znM (_ _:ax):Bool:=true
def zwZ:Run:=rF2 (dT .kept) (dT .kept) λb c=>(znN b c,[aB<|znM b c])
def zAp (N:Nat)(a b:ax):OA:=
 (oN (zhz a.ay b.ay)<|cond (zh6 a.ay b.ay) (oN (zdq a.aA b.aA)<|some [aB<|zdD a.aA b.aA]) oF)
def zMp (a b:ax)(c:znN a b=true):∃N,zAp N a b=some [aB<|znM a b]:=by have:=zN.1 c;subst this;refine⟨0,?_⟩;simp only[zAp,zhz,zh6,zdq,zdD,zje,zb4,zda,zde,cT,cF,jN,jQ,znM]
def zF7:vM 139 zwZ:=kF2 zt9 zT zA zq (zu []) zMp
def zhA (x y:ah):Bool:=pc (x=y)
def zgV (_ _:ah):Bool:=true
def zkb:Run:=rF2 (dT .guest) (dT .guest) λb c=>(zhA b c,[aB<|zgV b c])
def zyW (N:Nat)(a b:ah):OA:=
 (oN (zhg a.aw b.aw)<|cond (zgP a.aw b.aw) (cond (ieq a.A b.A) (cond (ieq a.Pc b.Pc) (oN (zdq a.az b.az)<|cond (zdD a.az b.az) (oN (zdq a.av b.av)<|cond (zdD a.av b.av) (cond (cond (ieq a.Ctl.aq b.Ctl.aq) (cond (ieq a.Ctl.Post b.Ctl.Post) (ziu a.Ctl.Open b.Ctl.Open) false) false) (cond (ieq a.ak b.ak) (cond (cond (ieq a.Exit.Kind b.Exit.Kind) (cond (ieq a.Exit.af b.Exit.af) (cond (ziu a.Exit.Write b.Exit.Write) (ieq a.Exit.N b.Exit.N) false) false) false) (cond (ziu a.aF b.aF) (oN (zgj a.aC b.aC)<|some [aB<|zc8 a.aC b.aC]) oF) oF) oF) oF) oF) oF) oF) oF) oF)
def zJB (a b:ah)(c:zhA a b=true):∃N,zyW N a b=some [aB<|zgV a b]:=by have:=zN.1 c;subst this;refine⟨0,?_⟩;simp only[zyW,zhg,zgP,zdq,zdD,zgj,zc8,zje,zb4,zda,zde,cT,cF,jN,jQ,zgV]
def zDe:vM 138 zkb:=kF2 zt9 zT zA zq (zu []) zJB
def zZG:zW:=[(25,zkc),(139,zwZ),(138,zkb)]++zZF
def zA4:zL zZG:=zh zDg (zh zF7<|zh zDe zt9)
def zmt (x y:List ax):Bool:=pc (x=y)
def zlY (_ _:List ax):Bool:=true
def zuM:Run:=rF2 (dS .kept) (dS .kept) λb c=>(zmt b c,[aB<|zlY b c])
def zyX (N:Nat)(b c:lK):OA:=
 (cond (ine (ln b)<|ln c) oF<|iter (σ:=(Int×lK×lK×Unit)) N (λf a=>let e:=ix a.2.1 a.1 zfF;let d:=ix a.2.2.1 a.1 zfF; (cond (ilt a.1<|ln a.2.1) (oN (inb a.1<|ln a.2.1)<|oN (inb a.1<|ln a.2.2.1)<|oN (znN e d)<|cond (nB<|znM e d) oF<|f (zO .i64 a.1 1,a.2.1,a.2.2.1,())) oT)) (0,b,c,()))
def zKP:=zu [(97,0,{n:=27,tm:=[(0,.sl 0 []),(1,.sl 1 []),(5,ti)],lo:=[],ro:=[(0,.kept,false),(1,.kept,false)]})]
def zJC (a b:List ax)(d:zbV big [aS .kept a,aS .kept b])(e:zmt a b=true):∃N,zyX N a b=some [aB<|zlY a b]:=by
 have:=zN.1 e;subst this;have f:=len0 d;refine⟨a.length+1,?_⟩;unfold zyX oN nB;conv=>zeta
 rw[zb4];refine zg4 a zfF _ _ f (λi c rec=>?_) (λrec=>?_) (jS _);{simp only [zbx c,zbe c,zbl c,znN,znM,zje,zb4,zda,zde,cT,cF,jN,jQ]};{simp only [zbp,cF,zlY]}
def zDf:vM 97 zuM:=hF2 zA4 zT zA zq zKP zJC
def zfV (x y:List ah):Bool:=pc (x=y)
def zfu (_ _:List ah):Bool:=true
def zjh:Run:=rF2 (dS .guest) (dS .guest) λb c=>(zfV b c,[aB<|zfu b c])
def zk8 (N:Nat)(b c:lG):OA:=
 (cond (ine (ln b)<|ln c) oF<|iter (σ:=(Int×lG×lG×Unit)) N (λf a=>let e:=ix a.2.1 a.1 zF;let d:=ix a.2.2.1 a.1 zF; (cond (ilt a.1<|ln a.2.1) (oN (inb a.1<|ln a.2.1)<|oN (inb a.1<|ln a.2.2.1)<|oN (zhA e d)<|cond (nB<|zgV e d) oF<|f (zO .i64 a.1 1,a.2.1,a.2.2.1,())) oT)) (0,b,c,()))
def zHl:=zu [(96,0,{n:=27,tm:=[(0,.sl 0 []),(1,.sl 1 []),(5,ti)],lo:=[],ro:=[(0,.guest,false),(1,.guest,false)]})]
def zGH (a b:List ah)(d:zbV big [aS .guest a,aS .guest b])(e:zfV a b=true):∃N,zk8 N a b=some [aB<|zfu a b]:=by
 have:=zN.1 e;subst this;have f:=len0 d;refine⟨a.length+1,?_⟩;unfold zk8 oN nB;conv=>zeta
 rw[zb4];refine zg4 a zF _ _ f (λi c rec=>?_) (λrec=>?_) (jS _);{simp only [zbx c,zbe c,zbl c,zhA,zgV,zje,zb4,zda,zde,cT,cF,jN,jQ]};{simp only [zbp,cF,zfu]}
def zBi:vM 96 zjh:=hF2 zA4 zT zA zq zHl zGH
def zZH:zW:=[(97,zuM),(96,zjh)]++zZG
def zOf:zL zZH:=zh zDf (zh zBi zA4)
def zp4 (x y:Mon):Bool:=pc (x=y)
def zqZ (_ _:Mon):Bool:=true
def zzu:Run:=rF2 (dT .mon) (dT .mon) λb c=>(zp4 b c,[aB<|zqZ b c])
def zD6 (N:Nat)(a b:Mon):OA:=
 (oN (zdq a.ae b.ae)<|cond (zdD a.ae b.ae) (oN (zeW a.Out b.Out)<|cond (zeR a.Out b.Out) (oN (zhz a.ar b.ar)<|cond (zh6 a.ar b.ar) (oN (zfV a.ad b.ad)<|cond (zfu a.ad b.ad) (oN (zgj a.Outs b.Outs)<|cond (zc8 a.Outs b.Outs) (cond (ieq a.ak b.ak) (cond (ieq a.aq b.aq) (oN (zmt a.aj b.aj)<|cond (zlY a.aj b.aj) (some [aB<|ieq a.Own b.Own]) oF) oF) oF) oF) oF) oF) oF) oF)
def zPr (a b:Mon)(c:zp4 a b=true):∃N,zD6 N a b=some [aB<|zqZ a b]:=by have:=zN.1 c;subst this;refine⟨0,?_⟩;simp only[zD6,zdq,zdD,zeW,zeR,zhz,zh6,zfV,zfu,zgj,zc8,zmt,zlY,zje,zb4,zda,zde,cT,cF,jN,jQ,zqZ]
def zIM:vM 54 zzu:=kF2 zOf zT zA zq (zu []) zPr
def zZI:zW:=[(54,zzu)]++zZH
def zOg:zL zZI:=zh zIM zOf
def znP (x y:List Mon):Bool:=pc (x=y)
def znO (_ _:List Mon):Bool:=true
def zw0:Run:=rF2 (dS .mon) (dS .mon) λb c=>(znP b c,[aB<|znO b c])
def zAq (N:Nat)(b c:lN):OA:=
 (cond (ine (ln b)<|ln c) oF<|iter (σ:=(Int×lN×lN×Unit)) N (λf a=>let e:=ix a.2.1 a.1 zk;let d:=ix a.2.2.1 a.1 zk; (cond (ilt a.1<|ln a.2.1) (oN (inb a.1<|ln a.2.1)<|oN (inb a.1<|ln a.2.2.1)<|oN (zp4 e d)<|cond (nB<|zqZ e d) oF<|f (zO .i64 a.1 1,a.2.1,a.2.2.1,())) oT)) (0,b,c,()))
def zNh:=zu [(26,0,{n:=27,tm:=[(0,.sl 0 []),(1,.sl 1 []),(5,ti)],lo:=[],ro:=[(0,.mon,false),(1,.mon,false)]})]
def zMq (a b:List Mon)(d:zbV big [aS .mon a,aS .mon b])(e:znP a b=true):∃N,zAq N a b=some [aB<|znO a b]:=by
 have:=zN.1 e;subst this;have f:=len0 d;refine⟨a.length+1,?_⟩;unfold zAq oN nB;conv=>zeta
 rw[zb4];refine zg4 a zk _ _ f (λi c rec=>?_) (λrec=>?_) (jS _);{simp only [zbx c,zbe c,zbl c,zp4,zqZ,zje,zb4,zda,zde,cT,cF,jN,jQ]};{simp only [zbp,cF,znO]}
def zF8:vM 26 zw0:=hF2 zOg zT zA zq zNh zMq
def z8o:zW:=[(26,zw0)]++zZI
def zZJ:zL z8o:=zh zF8 zOg
def znL (x y:ac):Bool:=pc (x=y)
def znK (_ _:ac):Bool:=true
def zwX:Run:=rF2 dH dH λb c=>(znL b c,[aB<|znK b c])
def zAo (N:Nat)(a b:ac):OA:=
 (oN (zeW a.ag b.ag)<|cond (zeR a.ag b.ag) (oN (znP a.aa b.aa)<|cond (znO a.aa b.aa) (oN (ziA a.ao b.ao)<|cond (ziz a.ao b.ao) (oN (ziA a.an b.an)<|some [aB<|ziz a.an b.an]) oF) oF) oF)
def zMm (a b:ac)(c:znL a b=true):∃N,zAo N a b=some [aB<|znK a b]:=by have:=zN.1 c;subst this;refine⟨0,?_⟩;simp only[zAo,zeW,zeR,znP,znO,ziA,ziz,zje,zb4,zda,zde,cT,cF,jN,jQ,znK]
def zF4:vM 8 zwX:=kF2 zZJ zT zA zq (zu []) zMm
def z4W:zW:=[(30,zqd),(101,ztt),(100,zrC)]++zvz
def zxV:zL z4W:=zh zrn (zh zwu<|zh zut zdo)
def zpc (l:LI):eqI l l=true:=by unfold eqI;induction l with|nil=>rfl|cons x l a=>rw[all2,zda,a];rfl
def zKX:=zu [(165,0,{n:=26,tm:=[(0,.sl 0 []),(1,.sl 1 []),(5,ti)],lo:=[],ro:=[(0,.slot,false),(1,.slot,false)]})]
def zJO (a b:List k0)(d:zbV big [aS .slot a,aS .slot b])(e:zdq a b=true):∃N,zmp N a b=some [aB<|zdD a b]:=by
 have:=zN.1 e;subst this;have f:=len0 d;refine⟨a.length+1,?_⟩;unfold zmp oN nB;conv=>zeta
 rw[zb4];refine zg4 a zY _ _ f (λi c rec=>?_) (λrec=>?_) (jS _);{simp only [zbx c,zbe c,zbl c,zpc,zje,zb4,zda,zde,cT,cF,jN,jQ]};{simp only [zbp,cF,zdD]}
def zDq:vM 165 zkd:=hF2 zxV zT zA zq zKX zJO
def zNo:=zu [(164,0,{n:=26,tm:=[(0,.sl 0 []),(1,.sl 1 []),(5,ti)],lo:=[],ro:=[(0,.ins,false),(1,.ins,false)]})]
def zMG (a b:List Ins)(d:zbV big [aS .ins a,aS .ins b])(e:zhg a b=true):∃N,znq N a b=some [aB<|zgP a b]:=by
 have:=zN.1 e;subst this;have f:=len0 d;refine⟨a.length+1,?_⟩;unfold znq oN nB;conv=>zeta
 rw[zb4];refine zg4 a zsn _ _ f (λi c rec=>?_) (λrec=>?_) (jS _);{simp only [zbx c,zbe c,zbl c,zpc,zje,zb4,zda,zde,cT,cF,jN,jQ]};{simp only [zbp,cF,zgP]}
def zGm:vM 164 zls:=hF2 zxV zT zA zq zNo zMG
def zEq (N:Nat)(b:lM)(c:lM):OA:=
 (cond (ine (ln b)<|ln c) oF<|iter (σ:=(Int×lM×lM×Unit)) N (λd a=>cond (ilt a.1<|ln a.2.1) (oN (inb a.1<|ln a.2.1)<|oN (inb a.1<|ln a.2.2.1)<|oN (zc8 (ix a.2.1 a.1 [])<|ix a.2.2.1 a.1 [])<|cond (nB<|zhV (ix a.2.1 a.1 [])<|ix a.2.2.1 a.1 []) oF<|d (zO .i64 a.1 1,a.2.1,a.2.2.1,())) oT) (0,b,c,()))
def zQj:=zu [(98,0,{n:=27,tm:=[(0,.sl 0 []),(1,.sl 1 []),(5,ti)],lo:=[],ro:=[(0,.sl .int,false),(1,.sl .int,false)]})]
def zPL (a:List LI)(b:List LI)(d:zbV big [aS (.sl .int) a,aS (.sl .int) b])(e:zeW a b=true):∃N,zEq N a b=some [aB<|zeR a b]:=by have:=zN.1 e;subst this;have f:=len0 d;refine⟨a.length+1,?_⟩;unfold zEq oN nB;rw[zb4];refine zg4 a (Ty.dflt<|.sl .int) _ _ f (λi c rec=>?_) (λrec=>?_) (jS _);{simp only [zbx c,zbe c,zbl c,zc8,zhV,zpc,zje,zb4,zda,zde,cT,cF,jN,jQ]};{simp only [zbp,cF,zeR]}
def zI0:vM 98 zkc:=hF2 zxV zT zA zq zQj zPL
def z4X:zW:=[(165,zkd),(164,zls),(98,zkc)]++z4W
def zRo:zL z4X:=zh zDq (zh zGm<|zh zI0 zxV)
def zy8 (N:Nat)(a b:ah):OA:=
 (oN (zhg a.aw b.aw)<|cond (zgP a.aw b.aw) (cond (ieq a.A b.A) (cond (ieq a.Pc b.Pc) (oN (zdq a.az b.az)<|cond (zdD a.az b.az) (oN (zdq a.av b.av)<|cond (zdD a.av b.av) (cond (cond (ieq a.Ctl.aq b.Ctl.aq) (cond (ieq a.Ctl.Post b.Ctl.Post) (ziu a.Ctl.Open b.Ctl.Open) false) false) (cond (ieq a.ak b.ak) (cond (cond (ieq a.Exit.Kind b.Exit.Kind) (cond (ieq a.Exit.af b.Exit.af) (cond (ziu a.Exit.Write b.Exit.Write) (ieq a.Exit.N b.Exit.N) false) false) false) (cond (ziu a.aF b.aF) (oN (zc8 a.aC b.aC)<|some [aB<|zhV a.aC b.aC]) oF) oF) oF) oF) oF) oF) oF) oF) oF)
def zJN (a b:ah)(c:zhA a b=true):∃N,zy8 N a b=some [aB<|zgV a b]:=by have:=zN.1 c;subst this;refine⟨0,?_⟩;simp only[zy8,zhg,zgP,zdq,zdD,zc8,zhV,zpc,zje,zb4,zda,zde,cT,cF,jN,jQ,zgV]
def zDp:vM 140 zkb:=kF2 zRo zT zA zq (zu []) zJN
def z4Y:zW:=[(140,zkb)]++z4X
def zRp:zL z4Y:=zh zDp zRo
def zAg:=zu [(99,0,{n:=27,tm:=[(0,.sl 0 []),(1,.sl 1 []),(5,ti)],lo:=[],ro:=[(0,.guest,false),(1,.guest,false)]})]
def zAf (a b:List ah)(d:zbV big [aS .guest a,aS .guest b])(e:zfV a b=true):∃N,zk8 N a b=some [aB<|zfu a b]:=by
 have:=zN.1 e;subst this;have f:=len0 d;refine⟨a.length+1,?_⟩;unfold zk8 oN nB;conv=>zeta
 rw[zb4];refine zg4 a zF _ _ f (λi c rec=>?_) (λrec=>?_) (jS _);{simp only [zbx c,zbe c,zbl c,zhA,zgV,zpc,zje,zb4,zda,zde,cT,cF,jN,jQ]};{simp only [zbp,cF,zfu]}
def zww:vM 99 zjh:=hF2 zRp zT zA zq zAg zAf
def z4Z:zW:=[(99,zjh)]++z4Y
def zRq:zL z4Z:=zh zww zRp
def ztC (x y:am):Bool:=pc (x=y)
def zsh (_ _:am):Bool:=true
def zxa:Run:=rF2 (dT .bare) (dT .bare) λb c=>(ztC b c,[aB<|zsh b c])
def zAE (N:Nat)(a b:am):OA:=
 (oN (zeW a.ag b.ag)<|cond (zeR a.ag b.ag) (oN (zfV a.ad b.ad)<|cond (zfu a.ad b.ad) (oN (zc8 a.Outs b.Outs)<|cond (zhV a.Outs b.Outs) (some [aB<|ieq a.ak b.ak]) oF) oF) oF)
def zMF (a b:am)(c:ztC a b=true):∃N,zAE N a b=some [aB<|zsh a b]:=by have:=zN.1 c;subst this;refine⟨0,?_⟩;simp only[zAE,zeW,zeR,zfV,zfu,zc8,zhV,zpc,zje,zb4,zda,zde,cT,cF,jN,jQ,zsh]
def zGl:vM 59 zxa:=kF2 zRq zT zA zq (zu []) zMF
def z5a:zW:=[(59,zxa)]++z4Z
def zRr:zL z5a:=zh zGl zRq
@[simp] abbrev zmX (h:ac)(m:Int):am:=zK h m
def zB1:Run:=rF2 dH dI λb c=>(zh9 b c,[aT .bare<|zmX b c])
def zHR (N:Nat)(b:ac)(c:Int):OA:=
 (oN (zu6 b c)<|cond (nB<|zq7 b c) (some [aT .bare (⟨[],[],[],0⟩:am)])<|iter (σ:=(Int×Int×Int×Int×lM×lN×lE×lE×lM×lG×LI×lM×lG×LI×Unit)) N (λh a=>let b:=a.2.2.2.2.2;let c:=b.2.2.2.2;let g:=c.2.2.2.1;let f:=c.2.2.2.2.1;let d:=(⟨a.2.2.2.2.1,b.1,b.2.1,b.2.2.1⟩:ac);let e:=ap c.2.2.1 [zyy d a.1 a.2.1]; (cond (ilt a.2.1 8) (oN (zyz d a.1 a.2.1)<|oN (few<|ln e)<|h (a.1,zO .i64 a.2.1 1,a.2.2.1,a.2.2.2.1,a.2.2.2.2.1,b.1,b.2.1,b.2.2.1,b.2.2.2.1,c.1,c.2.1,e,g,f,()))<|some [aT .bare (⟨c.2.2.1,g,f,a.2.2.2.1⟩:am)])) (c,0,0,(zdz b c).ak,b.ag,b.aa,b.ao,b.an,[],[],[],[],(zdz b c).ad,(zdz b c).Outs,()))
def zUa:=zu [(60,0,{n:=39,tm:=[(1,ti),(2,.lp 0 0),(4,.lp 1 0),(7,.lp 2 0),(8,ti)],lo:=[(0,[.sl 0 [],.sl 1 [],.sl 2 [],.sl 3 []]),(1,[.sl 4 [],.sl 5 [],.sl 6 [],ti]),(2,[.sl 7 [],.sl 8 [],.sl 9 [],ti])],ro:=[(0,.sl .int,false),(1,.mon,false),(2,.entry,false),(3,.entry,false),(4,.sl .int,true),(5,.guest,true),(6,.int,true),(7,.sl .int,true),(8,.guest,true),(9,.int,true)]})]
def zSy (a:ac)(b:Int)(f:zh9 a b=true):∃N,zHR N a b=some [aT .bare<|zmX a b]:=by
 have e:=zN.1 f;refine zct λN d=>?_;unfold zHR zmX zK oN nB;conv=>zeta
 refine j0 (zbD e) ?_;rw[show zq7 a b=i0 b (ln a.aa) from rfl];cases g:i0 b (ln a.aa);{rfl};{refine zdM rfl ?_;refine(zye 8 (λi (t:lM)=>(b,(i:Int),0,(zdz a b).ak,a.ag,a.aa,a.ao,a.an,[],[],[],t,(zdz a b).ad,(zdz a b).Outs,())) _ (λi (c:List LI) j=>bif few (ln<|ap c [zcC a b (i:Int)]) then j (ap c [zcC a b (i:Int)]) else none) (λ(t:lM)=>some [.agg<|Ty.cells .bare (⟨t,(zdz a b).ad,(zdz a b).Outs,(zdz a b).ak⟩:am)]) (λi h t rec=>?_) (λt rec=>?_) _ ([])<|d (by decide)).trans ?_;{simp only [show ilt (i:Int) 8=true from qK (by omega),zbg h (show 8<=big by decide),cT];exact j0 (zbD e) rfl};{simp only [show ilt ((8:Nat):Int) 8=false from qQ (by omega),cF]};rw[zOo a b _ 8 0 [] (by decide)];simp only[zdz,g,cT,jT]}
def zLQ:vM 60 zB1:=kF2 zRr zT zA zq zUa zSy
def z5b:zW:=[(60,zB1)]++z5a
def zRs:zL z5b:=zh zLQ zRr
def zRN {d:Type}(h:ac)(K:List am->Option d):∀(l:List Mon) (i:Nat) (a:List am),a.length+l.length<=2147483648->
 goL (λi (_:Mon) a c=>bif few (ln<|ap a [zK h (i:Int)]) then c (ap a [zK h (i:Int)]) else none) K l i a=K (a++(List.range' i l.length).map λ(i:Nat)=>zK h (i:Int))
 |[],_,a,_=>by simp[goL]
 |x::l,i,a,b=>by simp only[qZ]at b;simp only[goL];rw[zgI (by simp[ap];omega),cT,zRN h K l (i+1) _ (by simp[ap];omega)];simp[ap,u1]
@[simp] abbrev zqf (h:ac):List am:=zcG h
def zuN:Run:=rF1 dH λb=>(zbu b,[aS .bare<|zqf b])
def zyZ (N:Nat)(b:ac):OA:=
 (iter (σ:=(Int×lR×lM×lN×lE×lE×Unit)) N (λe a=>let b:=a.2.2.2.2;let c:=(⟨a.2.2.1,a.2.2.2.1,b.1,b.2.1⟩:ac);let d:=ap a.2.1 [zmX c a.1]; (cond (ilt a.1<|ln a.2.2.2.1) (oN (zh9 c a.1)<|oN (few<|ln d)<|e (zO .i64 a.1 1,d,a.2.2.1,a.2.2.2.1,b.1,b.2.1,()))<|some [aS .bare a.2.1])) (0,[],b.ag,b.aa,b.ao,b.an,()))
def zKS:=zu [(33,0,{n:=20,tm:=[(1,.lp 0 0),(3,.sl 0 []),(4,ti)],lo:=[(0,[.sl 1 [],.sl 2 [],.sl 3 [],.sl 4 []])],ro:=[(0,.bare,true),(1,.sl .int,false),(2,.mon,false),(3,.entry,false),(4,.entry,false)]})]
def zJF (a:ac)(f:zbu a=true):∃N,zyZ N a=some [aS .bare<|zqf a]:=by
 have d:=zN.1 f;have e:a.aa.length<=big:=(zcP ((zU a).1 d).2.1.1).1;refine zct λN c=>?_;unfold zyZ oN;conv=>zeta
 refine(zbo a.aa (λi (t:lR)=>((i:Int),t,a.ag,a.aa,a.ao,a.an,())) _ (λi (x:Mon) (t:List am) g=>bif few (ln<|ap t [zK a (i:Int)]) then g (ap t [zK a (i:Int)]) else none) (λ(t:lR)=>some [.one<|.s .bare t]) (λi b t rec=>?_) (λt rec=>?_) _ ([])<|c e).trans ?_;{simp only [zbx b,zbe b,zbl b,zbg b e,cT];exact j0 (zbD d) rfl};{simp only [zbp,cF]};rw[zRN a _ _ 0 [] (by simpa using (zcP ((zU a).1 d).2.1.1).2)];simp[zcG,u4]
def zDi:vM 33 zuN:=kF1 zRs zT zA zq zKS zJF
def z5c:zW:=[(33,zuN)]++z5b
def zRt:zL z5c:=zh zDi zRs
def zWc {a c:Type}(K:Unit->Option c):∀(l:List a) (i:Nat),goL (λ_ _ (_:Unit) b=>b ()) K l i ()=K ()
 |[],_=>rfl
 |_::l,i=>zWc K l (i+1)
@[simp] abbrev ztA (h:ac)(l:List am):Bool:=pc (zcN h/\l=zcG h)
@[simp] abbrev zyw (_:ac)(_:List am):Bool:=true
def zw8:Run:=rF2 dH (dS .bare) λb c=>(ztA b c,[aB<|zyw b c])
def zAB (N:Nat)(b:ac)(d:lR):OA:=
 (cond (ine (ln d)<|ln b.aa) oF<|iter (σ:=(Int×lR×lM×lN×lE×lE×Unit)) N (λf a=>let b:=a.2.2.2.2;let e:=ix a.2.1 a.1 zK5;let c:=(⟨a.2.2.1,a.2.2.2.1,b.1,b.2.1⟩:ac); (cond (ilt a.1<|ln a.2.1) (oN (zh9 c a.1)<|oN (inb a.1<|ln a.2.1)<|oN (ztC (zmX c a.1) e)<|cond (nB<|zsh (zmX c a.1) e) oF<|f (zO .i64 a.1 1,a.2.1,a.2.2.1,a.2.2.2.1,b.1,b.2.1,())) oT)) (0,d,b.ag,b.aa,b.ao,b.an,()))
def zNm:=zu [(32,0,{n:=27,tm:=[(1,.sl 0 []),(2,.lp 0 0),(5,ti)],lo:=[(0,[.sl 1 [],.sl 2 [],.sl 3 [],.sl 4 []])],ro:=[(0,.bare,false),(1,.sl .int,false),(2,.mon,false),(3,.entry,false),(4,.entry,false)]})]
def zMC (a:ac)(c:List am)(k:ztA a c=true):∃N,zAB N a c=some [aB<|zyw a c]:=by
 obtain⟨j,g⟩:=zN.1 k;have h:c.length<=big:=(by rw[g,zgT];exact(zcP ((zU a).1 j).2.1.1).1);refine zct λN f=>?_;unfold zAB oN nB;conv=>zeta
 rw[show ine (ln c) (ln a.aa)=false by unfold ln;rw[g,zgT];exact zb4 _];refine zdM rfl ?_;refine(zbo c (λi (t:Unit)=>((i:Int),c,a.ag,a.aa,a.ao,a.an,())) _ (λi (x:am) (_:Unit) l=>l ()) (λ(t:Unit)=>some [.one<|.b true]) (λi d t rec=>?_) (λt rec=>?_) _ ()<|f h).trans ?_;{simp only [zbx d,zbe d,zbl d,zbg d h,cT];have e:zmX a (i:Int)=c[i]:=(by simp[g,zcG]);refine j0 (zbD j) ?_;rw[e];exact j0 (zbs rfl) rfl};{simp only [zbp,cF]};rw[zWc]
def zGi:vM 32 zw8:=kF2 zRt zT zA zq zNm zMC
def z9j:zW:=[(32,zw8)]++z5c
def z2j:zL z9j:=zh zGi zRt
@[simp] abbrev ztD (a b:ac):Bool:=pc (zcN a/\zcN b/\zcG a=zcG b)
@[simp] abbrev zyA (_ _:ac):Bool:=true
def zxb:Run:=rF2 dH dH λb c=>(ztD b c,[aB<|zyA b c])
def zAF (N:Nat)(b a:ac):OA:=
 (oN (zbu a)<|oN (ztA b<|zqf a)<|some [aB<|zyw b<|zqf a])
def zMH (a b:ac)(f:ztD a b=true):∃N,zAF N a b=some [aB<|zyA a b]:=by obtain⟨c,d,e⟩:=zN.1 f;refine⟨0,?_⟩;unfold zAF oN;exact j0 (zbD d) (j0 (zbD ⟨c,e.symm⟩) rfl)
def zGn:vM 12 zxb:=kF2 z2j zT zA zq (zu []) zMH
def z3F (n:Int):wand .i64 n 2=0\/wand .i64 n 2=2:=by have e:(BitVec.ofInt 64 2)=BitVec.twoPow 64 1:=(by decide);have k:wand .i64 n 2=IntKind.wrap .i64 ((BitVec.ofInt 64 n &&& BitVec.ofInt 64 2).toNat:Int):=rfl;rw[k,e,BitVec.and_twoPow];split;{right;decide};{left;decide}
def zP2 {h:ac}(H:HOk h){m p:Int}(n:Int)(c:i0 m (ln h.aa)=true)(b:i0 p 8=true) :
 0<=(ix (ix (A0 h m p n).aa m mZ).ae p sZ).af/\enough (ix (ix (A0 h m p n).aa m mZ).ae p sZ).ai (wor .i64 (wand .i64 n 2) 1)=true:=by
 have M:=zq1 H (m:=m) (p:=p) n c b;have a:i0 m (ln (A0 h m p n).aa)=true:=by rw[M.op.like.has];exact c
 have X:=M.op.ok.mon a;refine⟨((X.slot b).pos M.inn).1,?_⟩;rcases z3F n with e|e
 .rw [e,show wor .i64 0 1=1 by decide]
  rcases X.enough1 b M.inn with e|e<;>rw [e]<;>decide
 .rw [M.ri (by rw[e];decide),e]
  decide
def zSO {d b:Type}{f:d->b}{l:List d}{x:b}{c:List b}(h:l.map f=x::c):∃a r,l=a::r/\f a=x/\r.map f=c:=by cases l with|nil=>cases h|cons a r=>simp only[jC,List.cons.injEq]at h;exact⟨a,r,rfl,h.1,h.2⟩
def z8W {a:AV}{b:CTy}(h:some a.sh=some (false,[b])):∃c,a = .one c/\c.ty=b:=by cases a with|one c=>simp only[AV.sh,qC,jU,List.cons.injEq,and_true,true_and]at h;exact⟨c,rfl,h⟩|agg l=>simp[AV.sh]at h
def z9Y {a:AV}{t:Ty}(h:some a.sh=some (false,[.s t])):∃l:List t.den,a = .one (.s t l):=by obtain⟨c,rfl,b⟩:=z8W h;obtain⟨l,rfl⟩:=zle b;exact⟨l,rfl⟩
section
open Go Go.ChangeShapes Go.WideShapes Go.ChangeAt
abbrev zMf (_:LI):Bool:=true
abbrev zJu (l:LI):Bool:=igt (ln l) 1048576
def zOL:Run:=rF1 (dS .u8) λb=>(zMf b,[aB<|zJu b])
def zVO (N:Nat)(a:LI):OA:=
 (some [aB<|igt (ln a) 1048576])
def z0i (a:LI)(b:zMf a=true):∃N,zVO N a=some [aB<|zJu a]:=by refine⟨0,?_⟩;unfold zVO;first|rfl|(simp only [*,zJu,cT,cF]<;>rfl)|simp_all[Ty.cells,zJu]
def zUL:vM 4 zOL:=kF1 zOe zT zA zq (zu []) z0i
def z4E:zW:=[(4,zOL),(6,zr9),(7,zr9),(8,zwX),(9,zrA),(10,zzt),(11,zkL),(12,zxb),(13,zkK)]++zZC
def z2c:zL z4E:=zh zUL (zh zRS<|zh zRY<|zh zF4<|zh zur<|zh zIL<|zh zwp<|zh zGn<|zh zwq zOe)
def z7h (x:Bool):(cond (ziu x x) false true)=false:=by rw[zde];rfl
abbrev zkC:List (List<|List Ins):=[[[(⟨7,0⟩:Ins)]]]
def zJZ:zCx zkC:=⟨by decide,λp a=>by
 rw[qD.1 a];exact⟨by decide,λx b=>by rw[qD.1 b];decide⟩⟩
def zJY:HOk (zcH zkC):=(zJq (ps:=zkC) ⟨by decide,λp a=>by
 rw[qD.1 a];exact⟨by decide,λx b=>by rw[qD.1 b];decide⟩⟩).ok
def one_has:zbX (zcH zkC) 0 2=true:=zf6.2 ⟨zgv.2 zJY,by decide,by decide⟩
def z5k:zmv (zcH zkC) 0 2 2=true:=by unfold zmv;rw[one_has];rfl
def z5j:zlm (zcH zkC) 0 2 2=A0 (zcH zkC) 0 2 2:=by unfold zlm;rw[z5k];rfl
def zMV {h:ac}(c:SmH h)(H:HOk h){m p:Int}(n:Int)(a:i0 m (ln h.aa)=true)(b:i0 p 8=true):Shape (A0 h m p n)/\i0 m (ln (A0 h m p n).aa)=true:=zoT (zew c<|zgv.2 H) a b
def z9x:zwi (zlm (zcH zkC) 0 2 2) 0 2=true:=by rw[z5j];have a:i0 0 (ln (zcH zkC).aa)=true:=(by decide);obtain⟨d,b⟩:=zMV (zxo zJZ) zJY 2 a (p:=2) (by decide);have M:=zq1 zJY (m:=0) (p:=2) 2 a (by decide);have c:=M.dt (by decide);have f:=(zcm d b).2.2.2.1;have e:zdz (A0 (zcH zkC) 0 2 2) 0=ix (A0 (zcH zkC) 0 2 2).aa 0 mZ:=(by unfold zdz;rw[b];rfl);unfold zwi;rw[e,c,show ilt 2 (ln (ix (A0 (zcH zkC) 0 2 2).aa 0 mZ).ar)=true from qK (by unfold ln;omega)];rfl
def z7k:zcN (zlm (zcH zkC) 0 2 2):=by rw[z5j];exact(zU _).2 (zMV (zxo zJZ) zJY 2 (by decide) (by decide)).1.1
def z7a {h:ac}{m p n:Int}(k:zmv h m p n=false):zlm h m p n=h:=by unfold zlm;rw[k];rfl
def znp (N:Nat)(f:LI):OA:=
 let e:=zkQ f;let g:=wand .i64 e 2;let d:=zkO f;let b:=zkN f;let a:=zkP f;let h:=zgp [[[(⟨7,0⟩:Ins)]]];let j:=zia h 0 2 2;let l:=aB<|zuv j 0 2;let c:=zia b d a e;let i:=ix c.aa d zk;let k:=ix i.ae a zY; (oN (zMf f)<|cond (zJu f) oT<|oN (ziJ f)<|oN (zpF b d a e)<|oN (zpF b d a e)<|cond (nB<|ziu (zhk b d a e)<|zhk b d a e) oF<|oN (znL c<|zia b d a e)<|cond (nB<|znK c<|zia b d a e) oF<|oN (zql [[[(⟨7,0⟩:Ins)]]])<|oN (zpF h 0 2 2)<|cond (nB<|zhk b d a e) (oN (znL c b)<|cond (znK c b) (cond (zhk h 0 2 2) (oN (zjU j 0 2)<|some [l]) oF) oF)<|oN (inb d<|ln c.aa)<|oN (inb a<|ln i.ae)<|cond (ige k.af 0) (oN (zcr k.ai<|wor .i64 g 1)<|cond (zdc k.ai<|wor .i64 g 1) (oN (ztD c b)<|cond (zyA c b) (oN (zdL c)<|cond (zdO c) (cond (ieq g 0) (cond (zhk h 0 2 2) (oN (zjU j 0 2)<|some [l]) oF)<|oN (inb d<|ln c.aa)<|oN (inb a<|ln i.ar)<|cond (ix i.ar a false) (cond (zhk h 0 2 2) (oN (zjU j 0 2)<|some [l]) oF) oF) oF) oF) oF) oF)
def zP3 (N:Nat)(a:LI):evalFn (cQ z4E zSP zBN zHg) (zu []) N 12 3 [aS .u8 a]=znp N a:=by kernel_rfl
def zIp (N:Nat)(g:LI)(r:g.length<=big):Ends (λa=>a=[.one<|.b true]) (znp N g):=by
 unfold znp oN nB;conv=>zeta
 have A:=(zB9<|zIo r).2;refine zy rfl (zbE (λ_=>zsS rfl) λ_=>zy (zIo r) ?_);generalize zkN g=h at A;generalize zkO g=m;generalize zkP g=p;generalize zkQ g=n;have j:=(zU _).2 A.sm;have v:zcN (zcH zkC):=(zU _).2 (zxo zJZ);have c:Ends (λa=>a=[AV.one<|.b true]) (cond (zmv (zcH zkC) 0 2 2) (cond (zjU (zlm (zcH zkC) 0 2 2) 0 2) (some [AV.one<|.b<|zwi (zlm (zcH zkC) 0 2 2) 0 2]) none)<|some [AV.one<|.b false]):=
  zy z5k (zy (zbs z7k)<|zsS<|congrArg (λb=>[AV.one<|.b b]) z9x)
 refine zy (zbs j) (zy (zbs j)<|zLh (z7h _)<|zy (zbs rfl) (zLh rfl (zy (zbs zJZ)<|zy (zbs v) ?_)));cases d:zmv h m p n with|false=>refine zy (show (cond (zmv h m p n) false true)=true by rw[d];rfl) (zy (zbs<|z7a d) (zy rfl c))|true=>refine zLh (show (cond (zmv h m p n) false true)=false by rw[d];rfl) ?_;have e:zlm h m p n=A0 h m p n:=(by unfold zlm;rw[d];rfl);have u:zbX h m p=true:=(by unfold zmv at d;cases q:zbX h m p with|true=>rfl|false=>rw[q]at d;cases d);obtain⟨y,k,i⟩:=zf6.1 u;have H:=zgv.1 y;have M:=zq1 H (m:=m) (p:=p) n k i;obtain⟨z,B⟩:=zP2 H n k i;obtain⟨s,l⟩:=zMV A.sm H n k i;have w:=(zcm s l).2;have f:zcG (A0 h m p n)=zcG h:=zH6 M.op.like.len M.op.like.seen;have x:zcN (A0 h m p n):=(zU _).2 s.1;simp only[zia,e];refine zy (zI l) (zy (zI<|zdp w.1 i)<|zy (qK z) (zy rfl (zy B<|zy (zbs ⟨x,j,f⟩) (zy rfl (zy rfl (zy (zgv.2 M.op.ok)<|zbE (λ_=>c) λt=>zy (zI l) (zy (zI<|zdp w.2.2.1 i)<|zy (M.dt t) c)))))))
def zK9 (d:LI)(h:∀c∈zx [aS .u8 d],CVOk c):∃N,znp N d=some [.one<|.b true]:=by have e:zbV big [aS .u8 d]:=λc f=>CVB.of_ok (h c f);have g:=len0 e;exact⟨5,z6F (G:=λa=>a=[.one<|.b true])<|zIp 5 d g⟩
def zHd:Tryz.f3.params.toList.map (zcA Tryz.prog 4)=[some (false,[.s .u8])]:=by kernel_rfl
def zAR:zVM 3 Tryz.f3.params.toList:=by refine zUt z2c zT zA zq (ziq (by kernel_rfl)) ?_;intro c hg;obtain⟨a,e⟩:=hg;rw[zHd]at a;obtain⟨h,g,rfl,d,a⟩:=zSO a;cases List.map_eq_nil_iff.1 a;obtain⟨b,rfl⟩:=z9Y d;obtain⟨N,f⟩:=zK9 b e;exact⟨zu [],N,12,(zP3 N b).trans f⟩
def zKE (H:Type)(a:List (DataW H))(h:a.length=Tryz.f3.params.toList.length):Rows.fnMendedSpec.fn H a={results:=[.lit<|.bool true],args:=a}:=by
 have b:a.length=1:=h.trans (by kernel_rfl)
 match a,b with
 |[d],_=>rfl
set_option maxRecDepth 100000 in
def zDQ (g:Os)(a:g.Started)(H:Type)(enc:TypeId×Value->H) :
 ReturnsInHanded {} Tryz.checked g 3 .any (Rows.fnMendedSpec.pre6 enc Tryz.prog Tryz.f3 Rows.fnMendedRow.domain false) (Rows.fnMendedSpec.post enc Tryz.prog Tryz.f3 false true false false):=by
 refine returnsInHanded_of_change_shaped (C:=Tryz.checked) own a (by kernel_rfl) Tryz.func3
  (ChangeSpec.witness6 (enc:=enc) (C:=Tryz.checked) false ⟨#[],#[.slice none 0 0],[]⟩ 8 (by kernel_rfl) (by kernel_rfl) (by kernel_rfl) (by kernel_rfl)) ?_
 intro W d c h i b e j _ f _ _;exact zJv (P:=Tryz.prog) z1G z2C rfl zKE (by kernel_rfl) (B:=4) (by kernel_rfl) (by kernel_rfl) zAR W d c h i b e j f
end
end
end Go.Proofs.YtklhnfomjjnjjaaGreat.E
