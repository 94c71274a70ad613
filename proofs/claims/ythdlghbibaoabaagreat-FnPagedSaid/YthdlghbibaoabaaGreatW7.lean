/- What is proved here: a part of the proof that the statement of this claim holds (several texts of wip/, laid together). -/
import Derived.Test.YthdlghbibaoabaaGreatW6
namespace Go.Proofs.YthdlghbibaoabaaGreat.E
open Go
set_option linter.constructorNameAsVariable false
set_option linter.unusedVariables false
set_option maxRecDepth 100000
set_option linter.unusedSimpArgs false
set_option linter.unusedSectionVars false
noncomputable section
theorem zZX:∀(l:List GAct) (u:Host×List Told),SmH u.1->SmH (zD6 l u).1
 |[],u,h=>h
 |a::l,u,h=>zZX l (zeg u.1 a,ap u.2 [zi3 u.1 a]) (zZV h)
theorem z6s {h:Host}(L:z0d h):Safe h/\SmH h:=by obtain⟨c,l,a,b,rfl⟩:=L;refine⟨?_,zZX _ _ (zPU a)⟩;unfold zz3;rw[zZM];exact(z3l _ (z0X b)).1
def z2D:zW:=z2B
theorem zDi:zK z2D:=z2C
structure MonS (x:Mon):Prop where
 sm:zeP x
 g1:1<=x.Guests.length
 g2:x.Guests.length<=2
 t2:x.Tables.length<=2
 o8:x.Outer.length<=8
 pg:∀s∈x.Outer,I64 s.Page
structure AnyH (h:Host):Prop where
 mem:SmM h.Memory
 n1:1<=h.Mons.length
 n3:h.Mons.length<=3
 mons:∀x∈h.Mons,MonS x
 b1:h.Buffer.length<=1048576
 b2:h.IoBuffer.length<=1048576
theorem AnyH.sm {h:Host}(k:AnyH h):SmH h:=⟨k.mem,⟨qU k.n3 (by decide),fun x a=>(k.mons x a).sm⟩,k.b1,k.b2⟩
theorem z6V {h:Host}(S:Safe h)(sm:SmH h):AnyH h :=
 ⟨sm.1,S.ok.n1,S.ok.n3,fun x a=>by
  have k:=S.ok.mons x a;refine⟨sm.2.1.2 x a,k.g1,k.g2,by rw[k.gt];exact k.g2,by rw[k.o8];exact qZ 8,fun s b=>?_⟩
  rcases k.sl s b with rfl|⟨c,d,_⟩
  .exact⟨by decide,by decide⟩
  .exact⟨by omega,by omega⟩,sm.2.2.1,sm.2.2.2⟩
theorem zxT {h:Host}(k:AnyH h)(i:Int){x:Mon}(b:MonS x):AnyH {h with Mons:=up h.Mons i x} :=
 ⟨k.mem,by rw[zhB];exact k.n1,by rw[zhB];exact k.n3,fun y a=>by
  rcases qW a with a|rfl
  .exact k.mons y a
  .exact b,k.b1,k.b2⟩
theorem zbb2 {g:Guest}(h:GuS g):SmG g:=⟨qU h.1 (by decide),qU h.2.1 (by decide),qU h.2.2.1 (by decide),qU h.2.2.2 (by decide)⟩
theorem z7g {l:List Guest}(h:zkh l)(i:Int){g:Guest}(hg:SmG g):zkh (up l i g):=
 ⟨by rw[zhB];exact h.1,fun y a=>by
  rcases qW a with a|rfl
  .exact h.2 y a
  .exact hg⟩
theorem zba2 {l:List (List Int)}(h:SmM l)(i:Int){g:List Int}(hg:g.length<=1048576):SmM (up l i g):=
 ⟨by rw[zhB];exact h.1,fun y a=>by
  rcases qW a with a|rfl
  .exact h.2 y a
  .exact hg⟩
def zzw (N:Nat)(c:Cur)  : OA :=
 let j:=(zrX c);let r:=({ (zia c) with b:=c.b}:Cur);let f:=j.Mons;let k:=(zk r (ln f));let m:=(inb k (ln f));let g:=(ix f k zh);let q:=({ (zf r (ln f)) with b:=c.b}:Cur);let e:=(zf q 24);let l:=(zk q 24);let a:=({e with b:=c.b}:Cur);let n:=(zba a [(-1),1000000000,1000000001]);let p:=({ (zf a 8) with b:=c.b}:Cur); (oN (zmp c) (oN (zx r (ln f)) (oN (zx q 24) (cond (ieq l 0) (oN (zff a 8 12) (oN m (share (up f k ({g with Outer:=(zey a 8 12)}:Mon)) (fun d=>(some [(.agg [(.s .u8 c.b),(.i .i64 (zf7 a 8 12).i),(.i .i64 (zf7 a 8 12).h)]),(aH ({j with Mons:=d}:Host))]))))) (cond (ieq l 1) (oN m (oN (zx a 8) (oN (zkR p) (oN (inb (zk a 8) (ln g.Out)) (share (up f k ({g with Out:=(up g.Out (zk a 8) (zti p))}:Mon)) (fun d=>(some [(.agg [(.s .u8 c.b),(.i .i64 (zkS p).i),(.i .i64 (zkS p).h)]),(aH ({j with Mons:=d}:Host))]))))))) (cond (ieq l 2) (oN m (oN (zo7 a) (oN (inb 0 (ln g.Guests)) (share (up f k ({g with Guests:=(up g.Guests 0 (zAL a))}:Mon)) (fun d=>(some [(.agg [(.s .u8 c.b),(.i .i64 (zo8 a).i),(.i .i64 (zo8 a).h)]),(aH ({j with Mons:=d}:Host))])))))) (cond (ieq l 3) (oN m (share (up f k ({g with Tables:=[]}:Mon)) (fun d=>(some [(.agg [(.s .u8 c.b),(.i .i64 e.i),(.i .i64 e.h)]),(aH ({j with Mons:=d}:Host))])))) (cond (ieq l 4) (oN (zjI a) (some [(.agg [(.s .u8 c.b),(.i .i64 (zjJ a).i),(.i .i64 (zjJ a).h)]),(aH ({j with Buffer:=(zq9 a)}:Host))])) (cond (ieq l 5) (oN (zkT a) (oN m (share (up f k ({g with Traps:=(ztk a)}:Mon)) (fun d=>(some [(.agg [(.s .u8 c.b),(.i .i64 (zkU a).i),(.i .i64 (zkU a).h)]),(aH ({j with Mons:=d}:Host))]))))) (cond (ieq l 6) (oN (zbp a [(-1),1000000000,1000000001]) (oN m (share (up f k ({g with Own:=(zbk a [(-1),1000000000,1000000001])}:Mon)) (fun d=>(some [(.agg [(.s .u8 c.b),(.i .i64 n.i),(.i .i64 n.h)]),(aH ({j with Mons:=d}:Host))]))))) (cond (ieq l 7) (oN (zoW a) (some [(.agg [(.s .u8 c.b),(.i .i64 (zhM a).i),(.i .i64 (zhM a).h)]),(aH ({j with Memory:=(zqa a)}:Host))])) (some [(.agg [(.s .u8 c.b),(.i .i64 e.i),(.i .i64 e.h)]),(aH j)]))))))))))))
def zri (c:Cur)(s:Cur)(a:Host):Prop:=(∃N,zzw N c=some (AV.agg (zbS s)::[aH a]))/\(s.b=c.b/\0<=s.i)/\(AnyH a)
def zhQ (c:Cur)  : Bool:=wC (zri c)
def zpb (c:Cur)  : Cur:=wS (zri c)
def zqc (c:Cur)  : Host:=wV (zri c)
theorem zAM {c:Cur}(h:zhQ c=true):zri c (zpb c) (zqc c):=wG h
theorem zM8 (c:Cur)  : 0<=(zpb c).i:=wP fun h=>h.2.1.2
theorem z1Q (c:Cur)(h:∃N,Ends (wE (fun a=>aH a) c.b fun a=>AnyH a) (zzw N c)):zhQ c=true:=wI (fun _ _ h=>h) h
def zBz:zdy:=rP0 fun c=>(zhQ c,zpb c,[aH (zqc c)])
theorem zOJ:zbN Tryz.prog 82 [false,true,true] zBz:=hP0 zDi zU zWk zn (zq []) (fun _ h=>(zAM h).1)
theorem zLm {c:Cur}(h:zbd c):zhQ c=true:=by
 refine z1Q c ⟨0,?_⟩;unfold zzw oN;conv=>zeta
 obtain⟨S,sm⟩:=z6s (zHX (z3C h)).2.2;have A:=z6V S sm;have q:∀{s:Cur},0<=s.i->zbd {s with b:=c.b}:=fun y=>zbJ h y;have w:zbd {zia c with b:=c.b}:=q (zYM _);have l:0<ln (zrX c).Mons:=by have:=A.n1;unfold ln;omega
 have a:=zvk w l (kS _);have u:=zbD a zh;generalize B:zrX c=H at *;generalize zk {zia c with b:=c.b} (ln H.Mons)=m at *;have M:=A.mons _ u;have x:=S.ok.mons _ u;generalize C:ix H.Mons m zh=X at *;obtain⟨p,e,f,j,k,t⟩:=M.sm;have d:∀{n},zbd {zf {zf {zia c with b:=c.b} n with b:=c.b} 24 with b:=c.b}:=fun {n}=>q (zD _ _);refine zu (z3C h) (zu (zby w _) (zu (zby (q (zD _ _)) 24)
  (zbB (fun _=>zu (znH d (by omega) (by omega) _) (zu a (zk7 (zbH aH (v:={H with Mons:=up H.Mons m {X with Outer:=zey _ _ _}}) (zoR _ _ _) (zxT A m ?_)))))
  (fun _=>zbB (fun _=>zu a (zu (zby d 8) (zu (zZf (q (zD _ _))) (zu (zvk d (by omega) ?_) (zk7 (zbH aH (v:={H with Mons:=up H.Mons m {X with Out:=up X.Out _ (zti _)}}) (zWz _) (zxT A m ?_)))))))
  (fun _=>zbB (fun _=>zu a (zu (zKQ d) (zu ?_ (zk7 (zbH aH (v:={H with Mons:=up H.Mons m {X with Guests:=up X.Guests 0 (zAL _)}}) (z1N _) (zxT A m ?_))))))
  (fun _=>zbB (fun _=>zu a (zk7 (zbH aH (v:={H with Mons:=up H.Mons m {X with Tables:=[]}}) (zD _ _) (zxT A m ?_))))
  (fun _=>zbB (fun _=>zu (zT0 d) (zbH aH (v:={H with Buffer:=zq9 _}) (zS5 _) ⟨A.mem,A.n1,A.n3,A.mons,qU (zCd (zT0 d)).2.2 (by decide),A.b2⟩))
  (fun _=>zbB (fun _=>zu (zba9 d) (zu a (zk7 (zbH aH (v:={H with Mons:=up H.Mons m {X with Traps:=ztk _}}) (zWE _) (zxT A m ?_)))))
  (fun _=>zbB (fun _=>zu (zeb d (by simp)) (zu a (zk7 (zbH aH (v:={H with Mons:=up H.Mons m {X with Own:=zbk _ _}}) (zbT _ _) (zxT A m ?_)))))
  (fun _=>zbB (fun _=>zu (zU2 d) (zbH aH (v:={H with Memory:=zqa _}) (z1A _) ⟨?_,A.n1,A.n3,A.mons,A.b1,A.b2⟩))
  (fun _=>zbH aH (v:=H) (zD _ _) A)))))))))))
 {have g:=(zoQ (znH (d (n:=ln H.Mons)) (n:=8) (by omega) (by omega) 12)).2.2 (by omega) (by omega);refine⟨⟨?_,e,f,j,k,t⟩,M.g1,M.g2,M.t2,?_,g.2 (by omega) (by omega)⟩;{have:=g.1;unfold ln at this;exact qU (m:=8) (by exact Int.ofNat_le.1 this) (by decide)};{have:=g.1;unfold ln at this;exact Int.ofNat_le.1 this}};{unfold ln;rw[x.u8];decide};{exact⟨⟨p,zba2 e _ (qU (zEP (zZf (q (zD _ _)))).2.2 (by decide)),f,j,k,t⟩,M.g1,M.g2,M.t2,M.o8,M.pg⟩};{exact qJ (by have:=M.g1;unfold ln;omega)};{exact⟨⟨p,e,f,z7g j 0 (zbb2 (zM6 (zKQ d)).2.2),k,t⟩,by rw[zhB];exact M.g1,by rw[zhB];exact M.g2,M.t2,M.o8,M.pg⟩};{exact⟨⟨p,e,f,j,k,⟨by simp,by simp⟩⟩,M.g1,M.g2,by simp,M.o8,M.pg⟩};{exact⟨⟨p,e,f,j,k,t⟩,M.g1,M.g2,M.t2,M.o8,M.pg⟩};{exact⟨⟨p,e,f,j,k,t⟩,M.g1,M.g2,M.t2,M.o8,M.pg⟩};{have g:=(zM4 (zU2 (d (n:=ln H.Mons)))).2.2;exact⟨qU g.1 (by decide),fun r z=>qU (g.2 r z) (by decide)⟩}
def z9r:zcU:=[(82,([false,true,true],zBz))]++z9q
theorem z6L:zb2 z9r:=zcu zWk (by
 intro x a;simp only[qG,qO,or_false]at a;rcases a with rfl
 .exact zOJ)
def zC3 (N:Nat)(c:Cur)  : OA :=
 let a:=(zba c [0,0,0,1,1,2,(-1),9223372036854775807]); (oN (zbp c [0,0,0,1,1,2,(-1),9223372036854775807]) (some [(.agg [(.s .u8 c.b),(.i .i64 a.i),(.i .i64 a.h)]),(aI (zbk c [0,0,0,1,1,2,(-1),9223372036854775807]))]))
def ztm (c:Cur)(s:Cur)(a:Int):Prop:=(∃N,zC3 N c=some (AV.agg (zbS s)::[aI a]))/\(s.b=c.b/\0<=s.i)/\(True)
def znx (c:Cur)  : Bool:=wC (ztm c)
def zwM (c:Cur)  : Cur:=wS (ztm c)
def zFC (c:Cur)  : Int:=wV (ztm c)
theorem z4A {c:Cur}(h:znx c=true):ztm c (zwM c) (zFC c):=wG h
theorem z4C (c:Cur)  : 0<=(zwM c).i:=wP fun h=>h.2.1.2
theorem z4B (c:Cur)(h:∃N,Ends (wE (fun a=>aI a) c.b fun a=>True) (zC3 N c)):znx c=true:=wI (fun _ _ h=>h) h
def zD4:zdy:=rP0 fun c=>(znx c,zwM c,[aI (zFC c)])
theorem zSc:zbN Tryz.prog 95 [false,true,true] zD4:=hP0 zDi zU zJF zn (zq []) (fun _ h=>(z4A h).1)
theorem at_t {c:Cur}(h:zbd c):znx c=true:=by
 refine z4B c ⟨0,?_⟩;unfold zC3 oN;conv=>zeta
 exact zu (zeb h (by simp)) (zbH aI (zbT _ _) trivial)
def zbct:zcU:=[(95,([false,true,true],zD4))]++z9r
theorem zJK:zb2 zbct:=zcu z6L (by
 intro x a;simp only[qG,qO,or_false]at a;rcases a with rfl
 .exact zSc)
def z8g:zW:=[(92,zsn)]++z2D
theorem z5Q:zK z8g:=zi zvC zDi
theorem zQP {a0:List Int}(h:a0.length<=big){G:Ans->Prop}{N:Nat}(j:a0.length<N){e:Int}{R:Int->OA}{σ:Type}(S:Int->Int->σ){F:(σ->OA)->σ->OA}(g:∀rec i t,F rec (S i t)=bif ilt i (ln a0) then (cond (ilt i 4000) (cond (inb i (ln a0)) (rec (S (zM .i64 i 1) (wand .i64 (zM .i64 (zM .i64 (zng .i64 t 131) (wcv .i64 (ix a0 i 0))) 7) 1073741823))) none) (R t)) else R t)(c:∀t,zbd ⟨a0,0,t⟩->Ends G (R t)):Ends G (iter N F (S 0 e)):=by refine zlV (fun n s=>∃(i:Nat) (t:Int),s=S (i:Int) t/\i+n=a0.length) ?_ N a0.length _ ⟨0,e,rfl,by omega⟩ j;rintro n s rec ⟨i,t,rfl,l⟩ a;rw[g];have d:zbd ⟨a0,0,t⟩:=⟨kS 0,h⟩;refine zbB (fun f=>zbB (fun k=>?_) (fun _=>c t d)) (fun _=>c t d);have b:(i:Int)<ln a0:=qE f;unfold ln at b;rw[zbh (show i<a0.length by omega) h];exact zu (qJ ⟨by omega,by unfold ln;omega⟩) (a (n-1) _ (by omega) ⟨i+1,_,rfl,by omega⟩)
theorem z6P {b:List Int}(h:b.length<=big){s:Cur}(a:0<=s.i):zbd {s with b:=b}:=⟨a,h⟩
def z8h:zW:=z8g
theorem zUe:zK z8h:=z5Q
def zqk (N:Nat)(a0:List Int):OA:=
 (iter (σ:=(Int×(Int×((List Int)×(lM×(lN×(lE×(lE×Unit)))))))) N (fun g a=>let c:=a.2.2.1;let e:=(⟨c,0,a.1⟩:Cur);let d:=({ (zpb e) with b:=c}:Cur);let f:=({ (zwM d) with b:=c}:Cur); (cond (ilt a.2.1 (ln c)) (cond (ilt a.2.1 4000) (oN (inb a.2.1 (ln c)) (g ((wand .i64 (zM .i64 (zM .i64 (zng .i64 a.1 131) (wcv .i64 (ix c a.2.1 0))) 7) 1073741823),((zM .i64 a.2.1 1),(c,(a.2.2.2.1,(a.2.2.2.2.1,(a.2.2.2.2.2.1,(a.2.2.2.2.2.2.1,()))))))))) (oN (zhQ e) (oN (znx d) (oN (zj4 f) (some [(aH (zqc e)),(aI (zFC d)),(aI (zwK f))]))))) (oN (zhQ e) (oN (znx d) (oN (zj4 f) (some [(aH (zqc e)),(aI (zFC d)),(aI (zwK f))])))))) ((zM .i64 94701 (ln a0)),(0,(a0,([],([],([],([],()))))))))
def zTn:FuncId->Nat->Option Tmpl:=zq [(52,0,{n:=32,tm:=[(0,.sl 0 []),(3,ti),(4,ti)],lo:=[(0,[.sl 1 [],.sl 2 [],.sl 3 [],.sl 4 []])],ro:=[(0,.u8,false),(1,(.sl .int),true),(2,.mon,true),(3,.entry,true),(4,.entry,true)],sk:=[(0,2,0,.lp 0 0)]})]
def zuV (a0:List Int)(a:Host)(b:Int)(c:Int):Prop:=(∃N,zqk N a0=some [aH a,aI b,aI c])/\(AnyH a)
def zj6 (a0:List Int):Bool:=uC (T:=Host×Int×Int) (fun r=>zuV a0 r.1 r.2.1 r.2.2)
def zxy (a0:List Int):Host×Int×Int:=uV (fun r=>zuV a0 r.1 r.2.1 r.2.2)
def zrj (a0:List Int):Host:=(zxy a0).1
def zrk (a0:List Int):Int:=(zxy a0).2.1
def zrl (a0:List Int):Int:=(zxy a0).2.2
theorem zHY {a0:List Int}(h:zj6 a0=true):zuV a0 (zrj a0) (zrk a0) (zrl a0):=uG h
theorem zYN (a0:List Int)(h:∃N,Ends (fun a=>∃b c d,a=[aH b,aI c,aI d]/\(AnyH b)) (zqk N a0)):zj6 a0=true:=by obtain⟨N,a,e,b,c,d,rfl,h⟩:=h;exact zbg ⟨(b,c,d),⟨N,e⟩,h⟩
def zB3:Run:=rF1 (dS .u8) fun b=>(zj6 b,[aH (zrj b),aI (zrk b),aI (zrl b)])
theorem zSV (a0:List Int)(a:zj6 a0=true):∃N,zqk N a0=some [aH (zrj a0),aI (zrk a0),aI (zrl a0)]:=by exact(zHY a).1
theorem zL1:vM 67 zB3:=kF1 zUe zU zJK zn zTn zSV
theorem zRe {a0:List Int}(h:a0.length<=big):zj6 a0=true:=by
 refine zYN a0 (zcq fun N a=>?_);unfold zqk oN;conv=>zeta
 refine zQP h (a h) ((fun i t=>(t,(i:Int),a0,[],[],[],[],())):Int->Int->_) (fun rec i t=>by dsimp only) (fun t b=>?_);exact zu (zLm b) (zu (at_t (z6P h (zM8 _))) (zu (zbaN (z6P h (z4C _))) ⟨_,rfl,_,_,_,rfl,(zAM (zLm b)).2.2⟩))
def z8i:zW:=[(67,zB3)]++z8h
theorem zIs:zK z8i:=zi zL1 zUe
def zj9 (N:Nat)(a0:List Int):OA:=
 (oN (zj6 a0) (some [(aH (zrj a0)),(aI (zrk a0)),(aI (zrl a0))]))
def zm2 (a0:List Int)(a:Host)(b:Int)(c:Int):Prop:=(∃N,zj9 N a0=some [aH a,aI b,aI c])/\(AnyH a)
def zf4 (a0:List Int):Bool:=uC (T:=Host×Int×Int) (fun r=>zm2 a0 r.1 r.2.1 r.2.2)
def zow (a0:List Int):Host×Int×Int:=uV (fun r=>zm2 a0 r.1 r.2.1 r.2.2)
def zhG (a0:List Int):Host:=(zow a0).1
def zhH (a0:List Int):Int:=(zow a0).2.1
def zhI (a0:List Int):Int:=(zow a0).2.2
theorem zwi {a0:List Int}(h:zf4 a0=true):zm2 a0 (zhG a0) (zhH a0) (zhI a0):=uG h
theorem zM0 (a0:List Int)(h:∃N,Ends (fun a=>∃b c d,a=[aH b,aI c,aI d]/\(AnyH b)) (zj9 N a0)):zf4 a0=true:=by obtain⟨N,a,e,b,c,d,rfl,h⟩:=h;exact zbg ⟨(b,c,d),⟨N,e⟩,h⟩
def zsP:Run:=rF1 (dS .u8) fun b=>(zf4 b,[aH (zhG b),aI (zhH b),aI (zhI b)])
theorem zGh (a0:List Int)(a:zf4 a0=true):∃N,zj9 N a0=some [aH (zhG a0),aI (zhH a0),aI (zhI a0)]:=by exact(zwi a).1
theorem zCi:vM 25 zsP:=kF1 zIs zU zJK zn (zq []) zGh
theorem zBl {a0:List Int}(h:a0.length<=big):zf4 a0=true:=by refine zM0 a0 ⟨0,?_⟩;unfold zj9 oN;exact zu (zRe h) ⟨_,rfl,_,_,_,rfl,(zHY (zRe h)).2⟩
def zg6 (N:Nat)(a0:List Int):OA:=
 (iter (σ:=(Int×(Int×((List Int)×(lM×(lN×(lE×(lE×Unit)))))))) N (fun h a=>let c:=a.2.2.1;let d:=(⟨c,0,a.1⟩:Cur);let e:=({ (zpb d) with b:=c}:Cur);let g:=(zbp e [0,1,2,3,5,11,12,(-1)]);let f:=(aI (zbk e [0,1,2,3,5,11,12,(-1)])); (cond (ilt a.2.1 (ln c)) (cond (ilt a.2.1 4000) (oN (inb a.2.1 (ln c)) (h ((wand .i64 (zM .i64 (zM .i64 (zng .i64 a.1 131) (wcv .i64 (ix c a.2.1 0))) 7) 1073741823),((zM .i64 a.2.1 1),(c,(a.2.2.2.1,(a.2.2.2.2.1,(a.2.2.2.2.2.1,(a.2.2.2.2.2.2.1,()))))))))) (oN (zhQ d) (oN g (some [(aH (zqc d)),f])))) (oN (zhQ d) (oN g (some [(aH (zqc d)),f]))))) ((zM .i64 94701 (ln a0)),(0,(a0,([],([],([],([],()))))))))
def zzj:FuncId->Nat->Option Tmpl:=zq [(52,0,{n:=32,tm:=[(0,.sl 0 []),(3,ti),(4,ti)],lo:=[(0,[.sl 1 [],.sl 2 [],.sl 3 [],.sl 4 []])],ro:=[(0,.u8,false),(1,(.sl .int),true),(2,.mon,true),(3,.entry,true),(4,.entry,true)],sk:=[(0,2,0,.lp 0 0)]})]
def zjc (a0:List Int)(a:Host)(b:Int):Prop:=(∃N,zg6 N a0=some [aH a,aI b])/\(AnyH a)
def zek (a0:List Int):Bool:=uC (T:=Host×Int) (fun r=>zjc a0 r.1 r.2)
def zpp (a0:List Int):Host×Int:=uV (fun r=>zjc a0 r.1 r.2)
def zhc (a0:List Int):Host:=(zpp a0).1
def zhd (a0:List Int):Int:=(zpp a0).2
theorem zCt {a0:List Int}(h:zek a0=true):zjc a0 (zhc a0) (zhd a0):=uG h
theorem zCu (a0:List Int)(h:∃N,Ends (fun a=>∃b c,a=[aH b,aI c]/\(AnyH b)) (zg6 N a0)):zek a0=true:=by obtain⟨N,a,e,b,c,rfl,h⟩:=h;exact zbg ⟨(b,c),⟨N,e⟩,h⟩
def znt:Run:=rF1 (dS .u8) fun b=>(zek b,[aH (zhc b),aI (zhd b)])
theorem zyk (a0:List Int)(a:zek a0=true):∃N,zg6 N a0=some [aH (zhc a0),aI (zhd a0)]:=by exact(zCt a).1
theorem zu4:vM 34 znt:=kF1 zIs zU zJK zn zzj zyk
theorem zXL {a0:List Int}(h:a0.length<=big):zek a0=true:=by
 refine zCu a0 (zcq fun N a=>?_);unfold zg6 oN;conv=>zeta
 refine zQP h (a h) ((fun i t=>(t,(i:Int),a0,[],[],[],[],())):Int->Int->_) (fun rec i t=>by dsimp only) (fun t b=>?_);exact zu (zLm b) (zu (zeb (z6P h (zM8 _)) (by simp)) ⟨_,rfl,_,_,rfl,(zAM (zLm b)).2.2⟩)
def z8j:zW:=[(25,zsP),(34,znt)]++z8i
theorem zUf:zK z8j:=zi zCi (zi zu4 zIs)
def ze7 (x y:List Int):Bool:=pc (x=y)
def zfI (_ _:List Int):Bool:=true
def zpV:Run:=rF2 (dS .int) (dS .int) fun b c=>(ze7 b c,[aB (zfI b c)])
def zCF (N:Nat)(a0 b:List Int):OA:=
 (cond (ine (ln a0) (ln b)) oF (iter (σ:=(Int×((List Int)×((List Int)×Unit)))) N (fun c a=>(cond (ilt a.1 (ln a.2.1)) (oN (inb a.1 (ln a.2.1)) (oN (inb a.1 (ln a.2.2.1)) (cond (ine (ix a.2.1 a.1 0) (ix a.2.2.1 a.1 0)) oF (c ((zM .i64 a.1 1),(a.2.1,(a.2.2.1,()))))))) oT)) (0,(a0,(b,())))))
def zP4:FuncId->Nat->Option Tmpl:=zq [(12,0,{n:=26,tm:=[(0,.sl 0 []),(1,.sl 1 []),(5,ti)],lo:=[],ro:=[(0,.int,false),(1,.int,false)]})]
theorem zO2 (a0 a:List Int)(c:zb6 big [aS .int a0,aS .int a])(d:ze7 a0 a=true):∃N,zCF N a0 a=some [aB (zfI a0 a)]:=by have:=zL.1 d;subst this;have e:=(len0 c);refine⟨a0.length+1,?_⟩;unfold zCF oN;rw[zb3];refine zgF a0 zbcF _ _ e (fun i b rec=>?_) (fun rec=>?_) (jS _);{simp only [zbs b,zbe b,zbj b,zi8,zb3,zcI,zc7,cT,cF,jM,jO]};{simp only [zbn,cF,zfI]}
theorem ztZ:vM 12 zpV:=hF2 zdC zU zy zn zP4 zO2
def zhl (x y:List Bool):Bool:=pc (x=y)
def zhZ (_ _:List Bool):Bool:=true
def zv2:Run:=rF2 (dS .bool) (dS .bool) fun b c=>(zhl b c,[aB (zhZ b c)])
def zA2 (N:Nat)(a0 b:lB):OA:=
 (cond (ine (ln a0) (ln b)) oF (iter (σ:=(Int×(lB×(lB×Unit)))) N (fun c a=>(cond (ilt a.1 (ln a.2.1)) (oN (inb a.1 (ln a.2.1)) (oN (inb a.1 (ln a.2.2.1)) (cond (nB (zhf (ix a.2.1 a.1 false) (ix a.2.2.1 a.1 false))) oF (c ((zM .i64 a.1 1),(a.2.1,(a.2.2.1,()))))))) oT)) (0,(a0,(b,())))))
def zNu:FuncId->Nat->Option Tmpl:=zq [(50,0,{n:=26,tm:=[(0,.sl 0 []),(1,.sl 1 []),(5,ti)],lo:=[],ro:=[(0,.bool,false),(1,.bool,false)]})]
theorem zMh (a0 a:List Bool)(c:zb6 big [aS .bool a0,aS .bool a])(d:zhl a0 a=true):∃N,zA2 N a0 a=some [aB (zhZ a0 a)]:=by have:=zL.1 d;subst this;have e:=(len0 c);refine⟨a0.length+1,?_⟩;unfold zA2 oN nB;rw[zb3];refine zgF a0 zbb8 _ _ e (fun i b rec=>?_) (fun rec=>?_) (jS _);{simp only [zbs b,zbe b,zbj b,zi8,zb3,zcI,zc7,cT,cF,jM,jO]};{simp only [zbn,cF,zhZ]}
theorem zFO:vM 50 zv2:=hF2 zdC zU zy zn zNu zMh
def zes (x y:List Slot):Bool:=pc (x=y)
def zeT (_ _:List Slot):Bool:=true
def zv6:Run:=rF2 (dS .slot) (dS .slot) fun b c=>(zes b c,[aB (zeT b c)])
def zA6 (N:Nat)(a0 b:lS):OA:=
 (cond (ine (ln a0) (ln b)) oF (iter (σ:=(Int×(lS×(lS×Unit)))) N (fun e a=>let d:=(ix a.2.1 a.1 zQ);let c:=(ix a.2.2.1 a.1 zQ); (cond (ilt a.1 (ln a.2.1)) (oN (inb a.1 (ln a.2.1)) (oN (inb a.1 (ln a.2.2.1)) (cond (nB (cond (ieq d.Page c.Page) (ieq d.Rights c.Rights) false)) oF (e ((zM .i64 a.1 1),(a.2.1,(a.2.2.1,()))))))) oT)) (0,(a0,(b,())))))
def zNx:FuncId->Nat->Option Tmpl:=zq [(209,0,{n:=26,tm:=[(0,.sl 0 []),(1,.sl 1 []),(5,ti)],lo:=[],ro:=[(0,.slot,false),(1,.slot,false)]})]
theorem zMl (a0 a:List Slot)(c:zb6 big [aS .slot a0,aS .slot a])(d:zes a0 a=true):∃N,zA6 N a0 a=some [aB (zeT a0 a)]:=by
 have:=zL.1 d;subst this;have e:=(len0 c);refine⟨a0.length+1,?_⟩;unfold zA6 oN nB;conv=>zeta
 rw[zb3];refine zgF a0 zQ _ _ e (fun i b rec=>?_) (fun rec=>?_) (jS _);{simp only [zbs b,zbe b,zbj b,zi8,zb3,zcI,zc7,cT,cF,jM,jO]};{simp only [zbn,cF,zeT]}
theorem zFS:vM 209 zv6:=hF2 zdC zU zy zn zNx zMl
def zir (x y:List Entry):Bool:=pc (x=y)
def ziq (_ _:List Entry):Bool:=true
def zuq:Run:=rF2 (dS .entry) (dS .entry) fun b c=>(zir b c,[aB (ziq b c)])
def zxJ (N:Nat)(a0 d:lE):OA:=
 (cond (ine (ln a0) (ln d)) oF (iter (σ:=(Int×(lE×(lE×Unit)))) N (fun e a=>let c:=(ix a.2.1 a.1 zeO);let b:=(ix a.2.2.1 a.1 zeO); (cond (ilt a.1 (ln a.2.1)) (oN (inb a.1 (ln a.2.1)) (oN (inb a.1 (ln a.2.2.1)) (cond (nB (cond (ieq c.Tag b.Tag) (cond (ieq c.Page b.Page) (cond (ieq c.Host b.Host) (ieq c.Rights b.Rights) false) false) false)) oF (e ((zM .i64 a.1 1),(a.2.1,(a.2.2.1,()))))))) oT)) (0,(a0,(d,())))))
def zJ0:FuncId->Nat->Option Tmpl:=zq [(81,0,{n:=26,tm:=[(0,.sl 0 []),(1,.sl 1 []),(5,ti)],lo:=[],ro:=[(0,.entry,false),(1,.entry,false)]})]
theorem zJn (a0 a:List Entry)(c:zb6 big [aS .entry a0,aS .entry a])(d:zir a0 a=true):∃N,zxJ N a0 a=some [aB (ziq a0 a)]:=by
 have:=zL.1 d;subst this;have e:=(len0 c);refine⟨a0.length+1,?_⟩;unfold zxJ oN nB;conv=>zeta
 rw[zb3];refine zgF a0 zeO _ _ e (fun i b rec=>?_) (fun rec=>?_) (jS _);{simp only [zbs b,zbe b,zbj b,zi8,zb3,zcI,zc7,cT,cF,jM,jO]};{simp only [zbn,cF,ziq]}
theorem zDy:vM 81 zuq:=hF2 zdC zU zy zn zJ0 zJn
def zn3 (x y:List Ins):Bool:=pc (x=y)
def zn2 (_ _:List Ins):Bool:=true
def zyK:Run:=rF2 (dS .ins) (dS .ins) fun b c=>(zn3 b c,[aB (zn2 b c)])
def zCE (N:Nat)(a0 b:lI):OA:=
 (cond (ine (ln a0) (ln b)) oF (iter (σ:=(Int×(lI×(lI×Unit)))) N (fun e a=>let d:=(ix a.2.1 a.1 zpk);let c:=(ix a.2.2.1 a.1 zpk); (cond (ilt a.1 (ln a.2.1)) (oN (inb a.1 (ln a.2.1)) (oN (inb a.1 (ln a.2.2.1)) (cond (nB (cond (ieq d.Op c.Op) (ieq d.X c.X) false)) oF (e ((zM .i64 a.1 1),(a.2.1,(a.2.2.1,()))))))) oT)) (0,(a0,(b,())))))
def zP3:FuncId->Nat->Option Tmpl:=zq [(317,0,{n:=26,tm:=[(0,.sl 0 []),(1,.sl 1 []),(5,ti)],lo:=[],ro:=[(0,.ins,false),(1,.ins,false)]})]
theorem zO1 (a0 a:List Ins)(c:zb6 big [aS .ins a0,aS .ins a])(d:zn3 a0 a=true):∃N,zCE N a0 a=some [aB (zn2 a0 a)]:=by
 have:=zL.1 d;subst this;have e:=(len0 c);refine⟨a0.length+1,?_⟩;unfold zCE oN nB;conv=>zeta
 rw[zb3];refine zgF a0 zpk _ _ e (fun i b rec=>?_) (fun rec=>?_) (jS _);{simp only [zbs b,zbe b,zbj b,zi8,zb3,zcI,zc7,cT,cF,jM,jO]};{simp only [zbn,cF,zn2]}
theorem zIN:vM 317 zyK:=hF2 zdC zU zy zn zP3 zO1
def z3c:zW:=[(12,zpV),(50,zv2),(209,zv6),(81,zuq),(317,zyK)]++zNS
theorem zvn:zK z3c:=zi ztZ (zi zFO (zi zFS (zi zDy (zi zIN zdC))))
def zhm (x y:List (List Int)):Bool:=pc (x=y)
def zh0 (_ _:List (List Int)):Bool:=true
def zv5:Run:=rF2 (dS (.sl .int)) (dS (.sl .int)) fun b c=>(zhm b c,[aB (zh0 b c)])
def zA5 (N:Nat)(a0:lM)(b:lM):OA:=
 (cond (ine (ln a0) (ln b)) oF (iter (σ:=(Int×(lM×(lM×Unit)))) N (fun c a=>(cond (ilt a.1 (ln a.2.1)) (oN (inb a.1 (ln a.2.1)) (oN (inb a.1 (ln a.2.2.1)) (oN (ze7 (ix a.2.1 a.1 []) (ix a.2.2.1 a.1 [])) (cond (nB (zfI (ix a.2.1 a.1 []) (ix a.2.2.1 a.1 []))) oF (c ((zM .i64 a.1 1),(a.2.1,(a.2.2.1,())))))))) oT)) (0,(a0,(b,())))))
def zNw:FuncId->Nat->Option Tmpl:=zq [(79,0,{n:=27,tm:=[(0,.sl 0 []),(1,.sl 1 []),(5,ti)],lo:=[],ro:=[(0,(.sl .int),false),(1,(.sl .int),false)]})]
theorem zMk (a0:List (List Int))(a:List (List Int))(c:zb6 big [aS (.sl .int) a0,aS (.sl .int) a])(d:zhm a0 a=true):∃N,zA5 N a0 a=some [aB (zh0 a0 a)]:=by have:=zL.1 d;subst this;have e:=(len0 c);refine⟨a0.length+1,?_⟩;unfold zA5 oN nB;rw[zb3];refine zgF a0 (Ty.dflt (.sl .int)) _ _ e (fun i b rec=>?_) (fun rec=>?_) (jS _);{simp only [zbs b,zbe b,zbj b,ze7,zfI,zi8,zb3,zcI,zc7,cT,cF,jM,jO]};{simp only [zbn,cF,zh0]}
theorem zFR:vM 79 zv5:=hF2 zvn zU zy zn zNw zMk
def zn5 (x y:Kept):Bool:=pc (x=y)
def zn4 (_ _:Kept):Bool:=true
def zyL:Run:=rF2 (dT .kept) (dT .kept) fun b c=>(zn5 b c,[aB (zn4 b c)])
def zCG (N:Nat)(a0 a:Kept):OA:=
 (oN (zhl a0.Known a.Known) (cond (zhZ a0.Known a.Known) (oN (zes a0.Slots a.Slots) (some [(aB (zeT a0.Slots a.Slots))])) oF))
theorem zO3 (a0 a:Kept)(b:zn5 a0 a=true):∃N,zCG N a0 a=some [aB (zn4 a0 a)]:=by have:=zL.1 b;subst this;refine⟨0,?_⟩;simp only[zCG,zhl,zhZ,zes,zeT,zi8,zb3,zcI,zc7,cT,cF,jM,jO,zn4]
theorem zIO:vM 276 zyL:=kF2 zvn zU zy zn (zq []) zO3
def zmw (x y:Guest):Bool:=pc (x=y)
def zl1 (_ _:Guest):Bool:=true
def zv3:Run:=rF2 (dT .guest) (dT .guest) fun b c=>(zmw b c,[aB (zl1 b c)])
def zA3 (N:Nat)(a0 a:Guest):OA:=
 (oN (zn3 a0.Prog a.Prog) (cond (zn2 a0.Prog a.Prog) (cond (ieq a0.A a.A) (cond (ieq a0.Pc a.Pc) (oN (zes a0.Written a.Written) (cond (zeT a0.Written a.Written) (oN (zes a0.Live a.Live) (cond (zeT a0.Live a.Live) (cond (cond (ieq a0.Ctl.Traps a.Ctl.Traps) (cond (ieq a0.Ctl.Post a.Ctl.Post) (zhf a0.Ctl.Open a.Ctl.Open) false) false) (cond (ieq a0.Pending a.Pending) (cond (cond (ieq a0.Exit.Kind a.Exit.Kind) (cond (ieq a0.Exit.Page a.Exit.Page) (cond (zhf a0.Exit.Write a.Exit.Write) (ieq a0.Exit.N a.Exit.N) false) false) false) (cond (zhf a0.Halted a.Halted) (oN (ze7 a0.Seen a.Seen) (some [(aB (zfI a0.Seen a.Seen))])) oF) oF) oF) oF) oF)) oF)) oF) oF) oF))
theorem zMi (a0 a:Guest)(b:zmw a0 a=true):∃N,zA3 N a0 a=some [aB (zl1 a0 a)]:=by have:=zL.1 b;subst this;refine⟨0,?_⟩;simp only[zA3,zn3,zn2,zes,zeT,ze7,zfI,zi8,zb3,zcI,zc7,cT,cF,jM,jO,zl1]
theorem zFP:vM 275 zv3:=kF2 zvn zU zy zn (zq []) zMi
def z3d:zW:=[(79,zv5),(276,zyL),(275,zv3)]++z3c
theorem zDl:zK z3d:=zi zFR (zi zIO (zi zFP zvn))
def zmx (x y:List Kept):Bool:=pc (x=y)
def zl2 (_ _:List Kept):Bool:=true
def zv4:Run:=rF2 (dS .kept) (dS .kept) fun b c=>(zmx b c,[aB (zl2 b c)])
def zA4 (N:Nat)(a0 b:lK):OA:=
 (cond (ine (ln a0) (ln b)) oF (iter (σ:=(Int×(lK×(lK×Unit)))) N (fun e a=>let d:=(ix a.2.1 a.1 zep);let c:=(ix a.2.2.1 a.1 zep); (cond (ilt a.1 (ln a.2.1)) (oN (inb a.1 (ln a.2.1)) (oN (inb a.1 (ln a.2.2.1)) (oN (zn5 d c) (cond (nB (zn4 d c)) oF (e ((zM .i64 a.1 1),(a.2.1,(a.2.2.1,())))))))) oT)) (0,(a0,(b,())))))
def zNv:FuncId->Nat->Option Tmpl:=zq [(211,0,{n:=27,tm:=[(0,.sl 0 []),(1,.sl 1 []),(5,ti)],lo:=[],ro:=[(0,.kept,false),(1,.kept,false)]})]
theorem zMj (a0 a:List Kept)(c:zb6 big [aS .kept a0,aS .kept a])(d:zmx a0 a=true):∃N,zA4 N a0 a=some [aB (zl2 a0 a)]:=by
 have:=zL.1 d;subst this;have e:=(len0 c);refine⟨a0.length+1,?_⟩;unfold zA4 oN nB;conv=>zeta
 rw[zb3];refine zgF a0 zep _ _ e (fun i b rec=>?_) (fun rec=>?_) (jS _);{simp only [zbs b,zbe b,zbj b,zn5,zn4,zi8,zb3,zcI,zc7,cT,cF,jM,jO]};{simp only [zbn,cF,zl2]}
theorem zFQ:vM 211 zv4:=hF2 zDl zU zy zn zNv zMj
def zle (x y:List Guest):Bool:=pc (x=y)
def zky (_ _:List Guest):Bool:=true
def zur:Run:=rF2 (dS .guest) (dS .guest) fun b c=>(zle b c,[aB (zky b c)])
def zxK (N:Nat)(a0 b:lG):OA:=
 (cond (ine (ln a0) (ln b)) oF (iter (σ:=(Int×(lG×(lG×Unit)))) N (fun e a=>let d:=(ix a.2.1 a.1 zC);let c:=(ix a.2.2.1 a.1 zC); (cond (ilt a.1 (ln a.2.1)) (oN (inb a.1 (ln a.2.1)) (oN (inb a.1 (ln a.2.2.1)) (oN (zmw d c) (cond (nB (zl1 d c)) oF (e ((zM .i64 a.1 1),(a.2.1,(a.2.2.1,())))))))) oT)) (0,(a0,(b,())))))
def zJ1:FuncId->Nat->Option Tmpl:=zq [(210,0,{n:=27,tm:=[(0,.sl 0 []),(1,.sl 1 []),(5,ti)],lo:=[],ro:=[(0,.guest,false),(1,.guest,false)]})]
theorem zJo (a0 a:List Guest)(c:zb6 big [aS .guest a0,aS .guest a])(d:zle a0 a=true):∃N,zxK N a0 a=some [aB (zky a0 a)]:=by
 have:=zL.1 d;subst this;have e:=(len0 c);refine⟨a0.length+1,?_⟩;unfold zxK oN nB;conv=>zeta
 rw[zb3];refine zgF a0 zC _ _ e (fun i b rec=>?_) (fun rec=>?_) (jS _);{simp only [zbs b,zbe b,zbj b,zmw,zl1,zi8,zb3,zcI,zc7,cT,cF,jM,jO]};{simp only [zbn,cF,zky]}
theorem zDz:vM 210 zur:=hF2 zDl zU zy zn zJ1 zJo
def z3e:zW:=[(211,zv4),(210,zur)]++z3d
theorem zQ3:zK z3e:=zi zFQ (zi zDz zDl)
def zqB (x y:Mon):Bool:=pc (x=y)
def zrK (_ _:Mon):Bool:=true
def zBG:Run:=rF2 (dT .mon) (dT .mon) fun b c=>(zqB b c,[aB (zrK b c)])
def zGI (N:Nat)(a0 a:Mon):OA:=
 (oN (zes a0.Outer a.Outer) (cond (zeT a0.Outer a.Outer) (oN (zhm a0.Out a.Out) (cond (zh0 a0.Out a.Out) (oN (zhl a0.Dirty a.Dirty) (cond (zhZ a0.Dirty a.Dirty) (oN (zle a0.Guests a.Guests) (cond (zky a0.Guests a.Guests) (oN (ze7 a0.Outs a.Outs) (cond (zfI a0.Outs a.Outs) (cond (ieq a0.Pending a.Pending) (cond (ieq a0.Traps a.Traps) (oN (zmx a0.Tables a.Tables) (cond (zl2 a0.Tables a.Tables) (some [(aB (ieq a0.Own a.Own))]) oF)) oF) oF) oF)) oF)) oF)) oF)) oF))
theorem zSo (a0 a:Mon)(b:zqB a0 a=true):∃N,zGI N a0 a=some [aB (zrK a0 a)]:=by have:=zL.1 b;subst this;refine⟨0,?_⟩;simp only[zGI,zes,zeT,zhm,zh0,zhl,zhZ,zle,zky,ze7,zfI,zmx,zl2,zi8,zb3,zcI,zc7,cT,cF,jM,jO,zrK]
theorem zLu:vM 136 zBG:=kF2 zQ3 zU zy zn (zq []) zSo
def z3f:zW:=[(136,zBG)]++z3e
theorem zQ4:zK z3f:=zi zLu zQ3
def zn7 (x y:List Mon):Bool:=pc (x=y)
def zn6 (_ _:List Mon):Bool:=true
def zyM:Run:=rF2 (dS .mon) (dS .mon) fun b c=>(zn7 b c,[aB (zn6 b c)])
def zCH (N:Nat)(a0 b:lN):OA:=
 (cond (ine (ln a0) (ln b)) oF (iter (σ:=(Int×(lN×(lN×Unit)))) N (fun e a=>let d:=(ix a.2.1 a.1 zh);let c:=(ix a.2.2.1 a.1 zh); (cond (ilt a.1 (ln a.2.1)) (oN (inb a.1 (ln a.2.1)) (oN (inb a.1 (ln a.2.2.1)) (oN (zqB d c) (cond (nB (zrK d c)) oF (e ((zM .i64 a.1 1),(a.2.1,(a.2.2.1,())))))))) oT)) (0,(a0,(b,())))))
def zP5:FuncId->Nat->Option Tmpl:=zq [(80,0,{n:=27,tm:=[(0,.sl 0 []),(1,.sl 1 []),(5,ti)],lo:=[],ro:=[(0,.mon,false),(1,.mon,false)]})]
theorem zO4 (a0 a:List Mon)(c:zb6 big [aS .mon a0,aS .mon a])(d:zn7 a0 a=true):∃N,zCH N a0 a=some [aB (zn6 a0 a)]:=by
 have:=zL.1 d;subst this;have e:=(len0 c);refine⟨a0.length+1,?_⟩;unfold zCH oN nB;conv=>zeta
 rw[zb3];refine zgF a0 zh _ _ e (fun i b rec=>?_) (fun rec=>?_) (jS _);{simp only [zbs b,zbe b,zbj b,zqB,zrK,zi8,zb3,zcI,zc7,cT,cF,jM,jO]};{simp only [zbn,cF,zn6]}
theorem zIP:vM 80 zyM:=hF2 zQ4 zU zy zn zP5 zO4
def zbbx:zW:=[(80,zyM)]++z3f
theorem z3g:zK zbbx:=zi zIP zQ4
def zkz (x y:Host):Bool:=pc (x=y)
def zlf (_ _:Host):Bool:=true
def zyJ:Run:=rF2 dH dH fun b c=>(zkz b c,[aB (zlf b c)])
def zCD (N:Nat)(a0 a:Host):OA:=
 (oN (zhm a0.Memory a.Memory) (cond (zh0 a0.Memory a.Memory) (oN (zn7 a0.Mons a.Mons) (cond (zn6 a0.Mons a.Mons) (oN (zir a0.Buffer a.Buffer) (cond (ziq a0.Buffer a.Buffer) (oN (zir a0.IoBuffer a.IoBuffer) (some [(aB (ziq a0.IoBuffer a.IoBuffer))])) oF)) oF)) oF))
theorem zO0 (a0 a:Host)(b:zkz a0 a=true):∃N,zCD N a0 a=some [aB (zlf a0 a)]:=by have:=zL.1 b;subst this;refine⟨0,?_⟩;simp only[zCD,zhm,zh0,zn7,zn6,zir,ziq,zi8,zb3,zcI,zc7,cT,cF,jM,jO,zlf]
theorem zIM:vM 32 zyJ:=kF2 z3g zU zy zn (zq []) zO0
def z8K:zW:=[(57,zxk),(230,zuC),(229,zsr)]++zNS
theorem zzN:zK z8K:=zi zBq (zi zyb (zi zvG zdC))
theorem zpC (l:List Int):eqI l l=true:=by unfold eqI;induction l with|nil=>rfl|cons x l a=>rw[all2,zcI,a];rfl
def zjD (x y:List Slot):Bool:=pc (x=y)
def zj1 (_ _:List Slot):Bool:=true
def zwf:Run:=rF2 (dS .slot) (dS .slot) fun b c=>(zjD b c,[aB (zj1 b c)])
def zBh (N:Nat)(a0 b:lS):OA:=
 (cond (ine (ln a0) (ln b)) oF (iter (σ:=(Int×(lS×(lS×Unit)))) N (fun e a=>let d:=(ix a.2.1 a.1 zQ);let c:=(ix a.2.2.1 a.1 zQ); (cond (ilt a.1 (ln a.2.1)) (oN (inb a.1 (ln a.2.1)) (oN (inb a.1 (ln a.2.2.1)) (cond (nB (cond (ieq d.Page c.Page) (ieq d.Rights c.Rights) false)) oF (e ((zM .i64 a.1 1),(a.2.1,(a.2.2.1,()))))))) oT)) (0,(a0,(b,())))))
def zND:FuncId->Nat->Option Tmpl:=zq [(321,0,{n:=26,tm:=[(0,.sl 0 []),(1,.sl 1 []),(5,ti)],lo:=[],ro:=[(0,.slot,false),(1,.slot,false)]})]
theorem zMw (a0 a:List Slot)(c:zb6 big [aS .slot a0,aS .slot a])(d:zjD a0 a=true):∃N,zBh N a0 a=some [aB (zj1 a0 a)]:=by
 have:=zL.1 d;subst this;have e:=(len0 c);refine⟨a0.length+1,?_⟩;unfold zBh oN nB;conv=>zeta
 rw[zb3];refine zgF a0 zQ _ _ e (fun i b rec=>?_) (fun rec=>?_) (jS _);{simp only [zbs b,zbe b,zbj b,zpC,zi8,zb3,zcI,zc7,cT,cF,jM,jO]};{simp only [zbn,cF,zj1]}
theorem zF1:vM 321 zwf:=hF2 zzN zU zy zn zND zMw
def zoI (x y:List Ins):Bool:=pc (x=y)
def zoH (_ _:List Ins):Bool:=true
def zyY:Run:=rF2 (dS .ins) (dS .ins) fun b c=>(zoI b c,[aB (zoH b c)])
def zCW (N:Nat)(a0 b:lI):OA:=
 (cond (ine (ln a0) (ln b)) oF (iter (σ:=(Int×(lI×(lI×Unit)))) N (fun e a=>let d:=(ix a.2.1 a.1 zpk);let c:=(ix a.2.2.1 a.1 zpk); (cond (ilt a.1 (ln a.2.1)) (oN (inb a.1 (ln a.2.1)) (oN (inb a.1 (ln a.2.2.1)) (cond (nB (cond (ieq d.Op c.Op) (ieq d.X c.X) false)) oF (e ((zM .i64 a.1 1),(a.2.1,(a.2.2.1,()))))))) oT)) (0,(a0,(b,())))))
def zQb:FuncId->Nat->Option Tmpl:=zq [(320,0,{n:=26,tm:=[(0,.sl 0 []),(1,.sl 1 []),(5,ti)],lo:=[],ro:=[(0,.ins,false),(1,.ins,false)]})]
theorem zPk (a0 a:List Ins)(c:zb6 big [aS .ins a0,aS .ins a])(d:zoI a0 a=true):∃N,zCW N a0 a=some [aB (zoH a0 a)]:=by
 have:=zL.1 d;subst this;have e:=(len0 c);refine⟨a0.length+1,?_⟩;unfold zCW oN nB;conv=>zeta
 rw[zb3];refine zgF a0 zpk _ _ e (fun i b rec=>?_) (fun rec=>?_) (jS _);{simp only [zbs b,zbe b,zbj b,zpC,zi8,zb3,zcI,zc7,cT,cF,jM,jO]};{simp only [zbn,cF,zoH]}
theorem zI2:vM 320 zyY:=hF2 zzN zU zy zn zQb zPk
def zq3 (x y:List (List Int)):Bool:=pc (x=y)
def zrW (_ _:List (List Int)):Bool:=true
def zBT:Run:=rF2 (dS (.sl .int)) (dS (.sl .int)) fun b c=>(zq3 b c,[aB (zrW b c)])
def zG2 (N:Nat)(a0:lM)(b:lM):OA:=
 (cond (ine (ln a0) (ln b)) oF (iter (σ:=(Int×(lM×(lM×Unit)))) N (fun c a=>(cond (ilt a.1 (ln a.2.1)) (oN (inb a.1 (ln a.2.1)) (oN (inb a.1 (ln a.2.2.1)) (oN (zgy (ix a.2.1 a.1 []) (ix a.2.2.1 a.1 [])) (cond (nB (zhN (ix a.2.1 a.1 []) (ix a.2.2.1 a.1 []))) oF (c ((zM .i64 a.1 1),(a.2.1,(a.2.2.1,())))))))) oT)) (0,(a0,(b,())))))
def zTg:FuncId->Nat->Option Tmpl:=zq [(227,0,{n:=27,tm:=[(0,.sl 0 []),(1,.sl 1 []),(5,ti)],lo:=[],ro:=[(0,(.sl .int),false),(1,(.sl .int),false)]})]
theorem zSJ (a0:List (List Int))(a:List (List Int))(c:zb6 big [aS (.sl .int) a0,aS (.sl .int) a])(d:zq3 a0 a=true):∃N,zG2 N a0 a=some [aB (zrW a0 a)]:=by have:=zL.1 d;subst this;have e:=(len0 c);refine⟨a0.length+1,?_⟩;unfold zG2 oN nB;rw[zb3];refine zgF a0 (Ty.dflt (.sl .int)) _ _ e (fun i b rec=>?_) (fun rec=>?_) (jS _);{simp only [zbs b,zbe b,zbj b,zgy,zhN,zpC,zi8,zb3,zcI,zc7,cT,cF,jM,jO]};{simp only [zbn,cF,zrW]}
theorem zLH:vM 227 zBT:=hF2 zzN zU zy zn zTg zSJ
def z8L:zW:=[(321,zwf),(320,zyY),(227,zBT)]++z8K
theorem zUm:zK z8L:=zi zF1 (zi zI2 (zi zLH zzN))
def zmE (x y:Guest):Bool:=pc (x=y)
def zmi (_ _:Guest):Bool:=true
def zwe:Run:=rF2 (dT .guest) (dT .guest) fun b c=>(zmE b c,[aB (zmi b c)])
def zBg (N:Nat)(a0 a:Guest):OA:=
 (oN (zoI a0.Prog a.Prog) (cond (zoH a0.Prog a.Prog) (cond (ieq a0.A a.A) (cond (ieq a0.Pc a.Pc) (oN (zjD a0.Written a.Written) (cond (zj1 a0.Written a.Written) (oN (zjD a0.Live a.Live) (cond (zj1 a0.Live a.Live) (cond (cond (ieq a0.Ctl.Traps a.Ctl.Traps) (cond (ieq a0.Ctl.Post a.Ctl.Post) (zhf a0.Ctl.Open a.Ctl.Open) false) false) (cond (ieq a0.Pending a.Pending) (cond (cond (ieq a0.Exit.Kind a.Exit.Kind) (cond (ieq a0.Exit.Page a.Exit.Page) (cond (zhf a0.Exit.Write a.Exit.Write) (ieq a0.Exit.N a.Exit.N) false) false) false) (cond (zhf a0.Halted a.Halted) (oN (zgy a0.Seen a.Seen) (some [(aB (zhN a0.Seen a.Seen))])) oF) oF) oF) oF) oF)) oF)) oF) oF) oF))
theorem zMv (a0 a:Guest)(b:zmE a0 a=true):∃N,zBg N a0 a=some [aB (zmi a0 a)]:=by have:=zL.1 b;subst this;refine⟨0,?_⟩;simp only[zBg,zoI,zoH,zjD,zj1,zgy,zhN,zpC,zi8,zb3,zcI,zc7,cT,cF,jM,jO,zmi]
theorem zF0:vM 284 zwe:=kF2 zUm zU zy zn (zq []) zMv
def z8M:zW:=[(284,zwe)]++z8L
theorem zUn:zK z8M:=zi zF0 zUm
def zie (x y:List Guest):Bool:=pc (x=y)
def zhP (_ _:List Guest):Bool:=true
def zpo:Run:=rF2 (dS .guest) (dS .guest) fun b c=>(zie b c,[aB (zhP b c)])
def zsJ (N:Nat)(a0 b:lG):OA:=
 (cond (ine (ln a0) (ln b)) oF (iter (σ:=(Int×(lG×(lG×Unit)))) N (fun e a=>let d:=(ix a.2.1 a.1 zC);let c:=(ix a.2.2.1 a.1 zC); (cond (ilt a.1 (ln a.2.1)) (oN (inb a.1 (ln a.2.1)) (oN (inb a.1 (ln a.2.2.1)) (oN (zmE d c) (cond (nB (zmi d c)) oF (e ((zM .i64 a.1 1),(a.2.1,(a.2.2.1,())))))))) oT)) (0,(a0,(b,())))))
def zCv:FuncId->Nat->Option Tmpl:=zq [(228,0,{n:=27,tm:=[(0,.sl 0 []),(1,.sl 1 []),(5,ti)],lo:=[],ro:=[(0,.guest,false),(1,.guest,false)]})]
theorem zCs (a0 a:List Guest)(c:zb6 big [aS .guest a0,aS .guest a])(d:zie a0 a=true):∃N,zsJ N a0 a=some [aB (zhP a0 a)]:=by
 have:=zL.1 d;subst this;have e:=(len0 c);refine⟨a0.length+1,?_⟩;unfold zsJ oN nB;conv=>zeta
 rw[zb3];refine zgF a0 zC _ _ e (fun i b rec=>?_) (fun rec=>?_) (jS _);{simp only [zbs b,zbe b,zbj b,zmE,zmi,zpC,zi8,zb3,zcI,zc7,cT,cF,jM,jO]};{simp only [zbn,cF,zhP]}
theorem zyd:vM 228 zpo:=hF2 zUn zU zy zn zCv zCs
def z8N:zW:=[(228,zpo)]++z8M
theorem zUo:zK z8N:=zi zyd zUn
def zuO (x y:Bare):Bool:=pc (x=y)
def zte (_ _:Bare):Bool:=true
def zyX:Run:=rF2 (dT .bare) (dT .bare) fun b c=>(zuO b c,[aB (zte b c)])
def zCV (N:Nat)(a0 a:Bare):OA:=
 (oN (zq3 a0.Memory a.Memory) (cond (zrW a0.Memory a.Memory) (oN (zie a0.Guests a.Guests) (cond (zhP a0.Guests a.Guests) (oN (zgy a0.Outs a.Outs) (cond (zhN a0.Outs a.Outs) (some [(aB (ieq a0.Pending a.Pending))]) oF)) oF)) oF))
theorem zPj (a0 a:Bare)(b:zuO a0 a=true):∃N,zCV N a0 a=some [aB (zte a0 a)]:=by have:=zL.1 b;subst this;refine⟨0,?_⟩;simp only[zCV,zq3,zrW,zie,zhP,zgy,zhN,zpC,zi8,zb3,zcI,zc7,cT,cF,jM,jO,zte]
theorem zI1:vM 151 zyX:=kF2 zUo zU zy zn (zq []) zPj
def z8O:zW:=[(151,zyX)]++z8N
theorem zUp:zK z8O:=zi zI1 zUo
@[simp] abbrev ztf (h:Host)(m:Int):Bool:=pc (zci h)
@[simp] abbrev zm6 (h:Host)(m:Int):Bare:=zG h m
def zEw:Run:=rF2 dH dI fun b c=>(ztf b c,[aT .bare (zm6 b c)])
def zKC (N:Nat)(a0:Host)(b:Int):OA:=
 (oN (zEN a0 b) (cond (nB (zrT a0 b)) (some [(aT .bare (⟨[],[],[],0⟩:Bare))]) (iter (σ:=(Int×(Int×(Int×(Int×(lM×(lN×(lE×(lE×(lM×(lG×((List Int)×(lM×(lG×((List Int)×Unit))))))))))))))) N (fun g a=>let f:=a.2.2.2.2.2.2.2.2.2.2.2.2.1;let e:=a.2.2.2.2.2.2.2.2.2.2.2.2.2.1;let c:=(⟨a.2.2.2.2.1,a.2.2.2.2.2.1,a.2.2.2.2.2.2.1,a.2.2.2.2.2.2.2.1⟩:Host);let d:=(ap a.2.2.2.2.2.2.2.2.2.2.2.1 [(zAA c a.1 a.2.1)]); (cond (ilt a.2.1 8) (oN (zAB c a.1 a.2.1) (oN (few (ln d)) (g (a.1,((zM .i64 a.2.1 1),(a.2.2.1,(a.2.2.2.1,(a.2.2.2.2.1,(a.2.2.2.2.2.1,(a.2.2.2.2.2.2.1,(a.2.2.2.2.2.2.2.1,(a.2.2.2.2.2.2.2.2.1,(a.2.2.2.2.2.2.2.2.2.1,(a.2.2.2.2.2.2.2.2.2.2.1,(d,(f,(e,()))))))))))))))))) (some [(aT .bare (⟨a.2.2.2.2.2.2.2.2.2.2.2.1,f,e,a.2.2.2.1⟩:Bare))]))) (b,(0,(0,((zeL a0 b).Pending,(a0.Memory,(a0.Mons,(a0.Buffer,(a0.IoBuffer,([],([],([],([],((zeL a0 b).Guests,((zeL a0 b).Outs,())))))))))))))))))
def zXi:FuncId->Nat->Option Tmpl:=zq [(152,0,{n:=39,tm:=[(1,ti),(2,.lp 0 0),(4,.lp 1 0),(7,.lp 2 0),(8,ti)],lo:=[(0,[.sl 0 [],.sl 1 [],.sl 2 [],.sl 3 []]),(1,[.sl 4 [],.sl 5 [],.sl 6 [],ti]),(2,[.sl 7 [],.sl 8 [],.sl 9 [],ti])],ro:=[(0,(.sl .int),false),(1,.mon,false),(2,.entry,false),(3,.entry,false),(4,(.sl .int),true),(5,.guest,true),(6,.int,true),(7,(.sl .int),true),(8,.guest,true),(9,.int,true)]})]
theorem zVD (a0:Host)(a:Int)(e:ztf a0 a=true):∃N,zKC N a0 a=some [aT .bare (zm6 a0 a)]:=by
 have d:=zL.1 e;refine zcq fun N c=>?_;unfold zKC zm6 zG oN nB;conv=>zeta
 refine must (zbC d) ?_;rw[show zrT a0 a=hasB a (ln a0.Mons) from rfl];cases f:hasB a (ln a0.Mons);{rfl};{refine zdh rfl ?_;refine(zAf 8 (fun i (t:lM)=>(a,(i:Int),0,(zeL a0 a).Pending,a0.Memory,a0.Mons,a0.Buffer,a0.IoBuffer,[],[],[],t,(zeL a0 a).Guests,(zeL a0 a).Outs,())) _ (fun i (b:List (List Int)) h=>bif few (ln (ap b [zcB a0 a (i:Int)])) then h (ap b [zcB a0 a (i:Int)]) else none) (fun (t:lM)=>(some [(.agg (Ty.cells .bare (⟨t,(zeL a0 a).Guests,(zeL a0 a).Outs,(zeL a0 a).Pending⟩:Bare)))])) (fun i g t rec=>?_) (fun t rec=>?_) _ ([]) (c (by decide))).trans ?_;{simp only [show ilt (i:Int) 8=true from qJ (by omega),zbh g (show 8<=big by decide),cT];exact must (zbC d) rfl};{simp only [show ilt (((8:Nat)):Int) 8=false from qL (by omega),cF]};rw[zRc a0 a _ 8 0 [] (by decide)];simp only[zeL,f,cT,jU]}
theorem zOt:vM 152 zEw:=kF2 zUp zU zy zn zXi zVD
def z8P:zW:=[(152,zEw)]++z8O
theorem zUq:zK z8P:=zi zOt zUp
theorem zUK {c:Type}(h:Host)(K:List Bare->Option c):∀(l:List Mon) (i:Nat) (a:List Bare),a.length+l.length<=2147483648->
 goL (fun i (_:Mon) a κ=>bif few (ln (ap a [zG h (i:Int)])) then κ (ap a [zG h (i:Int)]) else none) K l i a=K (a++(List.range' i l.length).map fun (i:Nat)=>zG h (i:Int))
 |[],_,a,_=>by simp[goL]
 |x::l,i,a,b=>by simp only[qY]at b;simp only[goL];rw[zgi (by simp[ap];omega),cT,zUK h K l (i+1) _ (by simp[ap];omega)];simp[ap,u1]
@[simp] abbrev zsw (h:Host):Bool:=pc (zci h)
@[simp] abbrev zqJ (h:Host):List Bare:=zcL h
def zv7:Run:=rF1 dH fun b=>(zsw b,[aS .bare (zqJ b)])
def zA7 (N:Nat)(a0:Host):OA:=
 (iter (σ:=(Int×(lR×(lM×(lN×(lE×(lE×Unit))))))) N (fun d a=>let b:=(⟨a.2.2.1,a.2.2.2.1,a.2.2.2.2.1,a.2.2.2.2.2.1⟩:Host);let c:=(ap a.2.1 [(zm6 b a.1)]); (cond (ilt a.1 (ln a.2.2.2.1)) (oN (ztf b a.1) (oN (few (ln c)) (d ((zM .i64 a.1 1),(c,(a.2.2.1,(a.2.2.2.1,(a.2.2.2.2.1,(a.2.2.2.2.2.1,()))))))))) (some [(aS .bare a.2.1)]))) (0,([],(a0.Memory,(a0.Mons,(a0.Buffer,(a0.IoBuffer,())))))))
def zNy:FuncId->Nat->Option Tmpl:=zq [(91,0,{n:=20,tm:=[(1,.lp 0 0),(3,.sl 0 []),(4,ti)],lo:=[(0,[.sl 1 [],.sl 2 [],.sl 3 [],.sl 4 []])],ro:=[(0,.bare,true),(1,(.sl .int),false),(2,.mon,false),(3,.entry,false),(4,.entry,false)]})]
theorem zMm (a0:Host)(e:zsw a0=true):∃N,zA7 N a0=some [aS .bare (zqJ a0)]:=by
 have c:=zL.1 e;have d:a0.Mons.length<=big:=(zcF ((zV a0).1 c).2.1.1).1;refine zcq fun N b=>?_;unfold zA7 oN;conv=>zeta
 refine(zbm a0.Mons (fun i (t:lR)=>((i:Int),t,a0.Memory,a0.Mons,a0.Buffer,a0.IoBuffer,())) _ (fun i (x:Mon) (t:List Bare) f=>bif few (ln (ap t [zG a0 (i:Int)])) then f (ap t [zG a0 (i:Int)]) else none) (fun (t:lR)=>(some [(.one (.s .bare t))])) (fun i a t rec=>?_) (fun t rec=>?_) _ ([]) (b d)).trans ?_;{simp only [zbs a,zbe a,zbj a,zbh a d,cT];exact must (zbC c) rfl};{simp only [zbn,cF]};rw[zUK a0 _ _ 0 [] (by simpa using (zcF ((zV a0).1 c).2.1.1).2)];simp[zcL,u4]
theorem zFT:vM 91 zv7:=kF1 zUq zU zy zn zNy zMm
def z8Q:zW:=[(91,zv7)]++z8P
theorem zUr:zK z8Q:=zi zFT zUq
theorem zZu {a b:Type}(K:Unit->Option b):∀(l:List a) (i:Nat),goL (fun _ _ (_:Unit) κ=>κ ()) K l i ()=K ()
 |[],_=>rfl
 |_::l,i=>zZu K l (i+1)
@[simp] abbrev zuL (h:Host)(l:List Bare):Bool:=pc (zci h/\l=zcL h)
@[simp] abbrev zAy (_:Host)(_:List Bare):Bool:=true
def zyU:Run:=rF2 dH (dS .bare) fun b c=>(zuL b c,[aB (zAy b c)])
def zCS (N:Nat)(a0:Host)(c:lR):OA:=
 (cond (ine (ln c) (ln a0.Mons)) oF (iter (σ:=(Int×(lR×(lM×(lN×(lE×(lE×Unit))))))) N (fun e a=>let d:=(ix a.2.1 a.1 zNL);let b:=(⟨a.2.2.1,a.2.2.2.1,a.2.2.2.2.1,a.2.2.2.2.2.1⟩:Host); (cond (ilt a.1 (ln a.2.1)) (oN (ztf b a.1) (oN (inb a.1 (ln a.2.1)) (oN (zuO (zm6 b a.1) d) (cond (nB (zte (zm6 b a.1) d)) oF (e ((zM .i64 a.1 1),(a.2.1,(a.2.2.1,(a.2.2.2.1,(a.2.2.2.2.1,(a.2.2.2.2.2.1,()))))))))))) oT)) (0,(c,(a0.Memory,(a0.Mons,(a0.Buffer,(a0.IoBuffer,()))))))))
def zP9:FuncId->Nat->Option Tmpl:=zq [(90,0,{n:=27,tm:=[(1,.sl 0 []),(2,.lp 0 0),(5,ti)],lo:=[(0,[.sl 1 [],.sl 2 [],.sl 3 [],.sl 4 []])],ro:=[(0,.bare,false),(1,(.sl .int),false),(2,.mon,false),(3,.entry,false),(4,.entry,false)]})]
theorem zPf (a0:Host)(a:List Bare)(j:zuL a0 a=true):∃N,zCS N a0 a=some [aB (zAy a0 a)]:=by
 obtain⟨h,f⟩:=zL.1 j;have g:a.length<=big:=(by rw[f,zgr];exact(zcF ((zV a0).1 h).2.1.1).1);refine zcq fun N d=>?_;unfold zCS oN nB;conv=>zeta
 rw[show ine (ln a) (ln a0.Mons)=false by unfold ln;rw[f,zgr];exact zb3 _];refine zdh rfl ?_;refine(zbm a (fun i (t:Unit)=>((i:Int),a,a0.Memory,a0.Mons,a0.Buffer,a0.IoBuffer,())) _ (fun i (x:Bare) (_:Unit) k=>k ()) (fun (t:Unit)=>(some [(.one (.b true))])) (fun i c t rec=>?_) (fun t rec=>?_) _ () (d g)).trans ?_;{simp only [zbs c,zbe c,zbj c,zbh c g,cT];have e:zm6 a0 (i:Int)=a[i]:=(by simp[f,zcL]);refine must (zbC h) ?_;rw[e];exact must (zbg rfl) rfl};{simp only [zbn,cF]};rw[zZu]
theorem zIY:vM 90 zyU:=kF2 zUr zU zy zn zP9 zPf
def zbcf:zW:=[(90,zyU)]++z8Q
theorem z5Y:zK zbcf:=zi zIY zUr
@[simp] abbrev ziC (a b:Host):Bool:=pc (zci a/\zci b/\zcL a=zcL b)
@[simp] abbrev zoJ (_ _:Host):Bool:=true
def zyZ:Run:=rF2 dH dH fun b c=>(ziC b c,[aB (zoJ b c)])
def zCX (N:Nat)(a0 a:Host):OA:=
 (oN (zsw a) (oN (zuL a0 (zqJ a)) (some [(aB (zAy a0 (zqJ a)))])))
theorem zPl (a0 a:Host)(e:ziC a0 a=true):∃N,zCX N a0 a=some [aB (zoJ a0 a)]:=by obtain⟨b,c,d⟩:=zL.1 e;refine⟨0,?_⟩;unfold zCX oN;exact must (zbC c) (must (zbC ⟨b,d.symm⟩) rfl)
theorem zI3:vM 39 zyZ:=kF2 z5Y zU zy zn (zq []) zPl
theorem zVV {c b:Type}{f:c->b}{l:List c}{x:b}{xs:List b}(h:l.map f=x::xs):∃a r,l=a::r/\f a=x/\r.map f=xs:=by cases l with|nil=>cases h|cons a r=>simp only[jB,List.cons.injEq]at h;exact⟨a,r,rfl,h.1,h.2⟩
theorem zbb1 {a:AV}{b:CTy}(h:some a.sh=some (false,[b])):∃c,a = .one c/\c.ty=b:=by cases a with|one c=>simp only[AV.sh,qC,jT,List.cons.injEq,and_true,true_and]at h;exact⟨c,rfl,h⟩|agg l=>simp[AV.sh]at h
theorem sh_s {a:AV}{t:Ty}(h:some a.sh=some (false,[.s t])):∃l:List t.den,a = .one (.s t l):=by obtain⟨c,rfl,b⟩:=zbb1 h;obtain⟨l,rfl⟩:=zk5 b;exact⟨l,rfl⟩
section
open Go Go.ChangeShapes Go.WideShapes Go.ChangeAt
abbrev zOS (_:List Int):Bool:=true
abbrev zMa (l:List Int):Bool:=igt (ln l) 1048576
def zRB:Run:=rF1 (dS .u8) fun b=>(zOS b,[aB (zMa b)])
def zY8 (N:Nat)(a0:List Int):OA:=
 (some [(aB (igt (ln a0) 1048576))])
theorem z3M (a0:List Int)(a:zOS a0=true):∃N,zY8 N a0=some [aB (zMa a0)]:=by refine⟨0,?_⟩;unfold zY8;first|rfl|(simp only [*,zMa,cT,cF]<;>rfl)|simp_all[Ty.cells,zMa]
theorem zXU:vM 7 zRB:=kF1 zUf zU zy zn (zq []) z3M
def z8y:zW:=[(7,zRB),(12,zpV),(32,zyJ),(26,zsi),(27,zuo),(28,zxi),(29,zsq),(30,zuB),(31,zxj),(33,zun),(24,zuu),(35,zlQ),(36,zlR),(37,zso),(38,zux),(39,zyZ)]++z8j
theorem z5S:zK z8y:=zi zXU (zi ztZ (zi zIM (zi zvx (zi zx5 (zi zBn (zi zvF (zi zya (zi zBp (zi zx4 (zi zx6 (zi zpl (zi zpn (zi zvD (zi zx7 (zi zI3 zUf)))))))))))))))
def zqj (N:Nat)(a0:List Int):OA:=
 let f:=(zhd a0);let e:=(zhc a0);let c:=(zhI a0);let b:=(zhH a0);let h:=(zdA [[[(⟨7,0⟩:Ins)]]]);let d:=(zhx h 0 3);let g:=(aB (ieq (ln (zdT d)) 11));let a:=(zhG a0);let k:=(zvH a b c);let j:=(zhx a b c);let i:=(zqy a b c); (oN (zOS a0) (cond (zMa a0) oT (oN (zf4 a0) (oN (zqz a b c) (oN (zsW a b c) (oN (zDH a b c) (oN (zq2 a b c) (oN (ztd a b c) (oN (zwj a b c) (cond (nB (zhf (zhX a b c) (zmg a b c))) oF (oN (zkz i (zjZ a b c)) (cond (nB (zlf i (zjZ a b c))) oF (cond (nB (zhf (zi4 a b c) (zoG a b c))) oF (oN (zkz j (zly a b c)) (cond (nB (zlf j (zly a b c))) oF (cond (nB (zhf (zvI a b c) (zrQ a b c))) oF (oN (zkz k (znu a b c)) (cond (nB (zlf k (znu a b c))) oF (oN (zfF a) (oN (zjd a) (oN (ze7 (zdT a) (zee a)) (cond (nB (zfI (zdT a) (zee a))) oF (oN (zek a0) (oN (zhw e f) (oN (zhK e f) (oN (zqX [[[(⟨7,0⟩:Ins)]]]) (oN (zsW h 0 3) (oN (zqz d 0 3) (cond (ieq (ze6 e f) (zfb e f)) (cond (ieq (zf3 e f) (zf6 e f)) (oN (zew a) (cond (nB (zeD a)) (cond (zi4 h 0 3) (cond (zhX d 0 3) (oN (zfF d) (some [g])) oF) oF) (oN (ziC i a) (cond (zoJ i a) (oN (ziC j a) (cond (zoJ j a) (oN (ziC k a) (cond (zoJ k a) (cond (zi4 h 0 3) (cond (zhX d 0 3) (oN (zfF d) (some [g])) oF) oF) oF)) oF)) oF)))) oF) oF)))))))))))))))))))))))))))))
theorem zV1 (N:Nat)(a0:List Int):evalFn (cQ z8y z6A zPK z2f) (zq []) N 12 4 [aS .u8 a0]=zqj N a0:=by kernel_rfl
theorem zbbV:(zpO (zdA [[[(⟨7,0⟩:Ins)]]]) 0 3&&(znr (zix (zdA [[[(⟨7,0⟩:Ins)]]]) 0 3) 0 3&&ieq (ln (zb4 (zix (zdA [[[(⟨7,0⟩:Ins)]]]) 0 3))) 11))=true:=by kernel_rfl
theorem z9s:zE7 [[[(⟨7,0⟩:Ins)]]]:=⟨by simp,by
 intro p a;rw[qF.1 a];exact⟨by simp,fun q b=>by rw[qF.1 b];simp⟩⟩
theorem zPF (x:Bool):(cond (zhf x x) false true)=false:=by rw[zc7];rfl
theorem zNW (N:Nat)(a0:List Int)(n:a0.length<=big):Ends (fun a=>a=[.one (.b true)]) (zqj N a0):=by
 unfold zqj oN nB;conv=>zeta
 have A:=(zwi (zBl n)).2;refine zu rfl (zbB (fun _=>ztU rfl) (fun _=>zu (zBl n) ?_));generalize zhG a0=h at A;generalize zhH a0=m;generalize zhI a0=p;have g:=A.sm;have f:zci h:=(zV _).2 g;have l:=zbbV;simp only[qD] at l;obtain⟨l,q,t⟩:=l;have c:SmH (zdA [[[(⟨7,0⟩:Ins)]]]):=zPU z9s;have d:SmH (zix (zdA [[[(⟨7,0⟩:Ins)]]]) 0 3):=zWR c;refine zu (zbg f) (zu (zbg f) (zu (zbg f) (zu (zbg f) (zu (zbg f) (zu (zbg f) (zpB (zPF _) (zu (zbg rfl) (zpB rfl (zpB (zPF _) (zu (zbg rfl) (zpB rfl (zpB (zPF _) (zu (zbg rfl) (zpB rfl
  (zu (zbg g.1.1) (zu (zbg g.1.1) (zu (zbg rfl) (zpB rfl (zu (zXL n) (zu rfl (zu rfl (zu (zbg z9s) ?_))))))))))))))))))))))
 generalize zdA [[[(⟨7,0⟩:Ins)]]]=one at l q t c d;have j:Ends (fun a=>a=[.one (.b true)]) (cond (zi4 one 0 3) (cond (zhX (zhx one 0 3) 0 3) (cond (zfF (zhx one 0 3)) (some [AV.one (.b (ieq (ln (zdT (zhx one 0 3))) 11))]) none) (some [AV.one (.b false)])) (some [AV.one (.b false)])):=
  zu l (zu q (zu (zbg d.1.1) (ztU (by show [AV.one (.b (ieq (ln (zb4 (zix one 0 3))) 11))]=_;rw[t]))))
 refine zu (zbg ((zV _).2 c)) (zu (zbg ((zV _).2 d)) (zu (zcI _) (zu (zcI _) (zu rfl (zbB (fun _=>j) (fun e=>?_))))));have H:HOk h:=(by apply zil.1;cases u:zbX h with|true=>rfl|false=>have e:(cond (zbX h) false true)=false:=e;rw[u]at e;cases e);have seen:∀{r:Host},Op h r->SmH r->ziC r h=true:=fun k s=>zbg ⟨(zV _).2 s,f,zKP k.like.len fun i=>k.like.seen i⟩;exact zu (seen (zMI H m p) (zZW g)) (zu rfl (zu (seen (zRq H m p) (zWR g)) (zu rfl (zu (seen (zRo H m p) (zRK g)) (zu rfl j)))))
theorem zRR (a0:List Int)(g:∀c∈zA [aS .u8 a0],CVOk c):∃N,zqj N a0=some [.one (.b true)]:=by have d:zb6 big [aS .u8 a0]:=fun c e=>CVB.of_ok (g c e);have f:=(len0 d);exact⟨5,zbah (G:=fun a=>a=[.one (.b true)]) (zNW 5 a0 f)⟩
theorem zNa:Tryz.f4.params.toList.map (zcz Tryz.prog 4)=[some (false,[.s .u8])]:=by kernel_rfl
theorem zFI:zY6 4 Tryz.f4.params.toList:=by refine zXB z5S zU zy zn (ziZ (by kernel_rfl)) ?_;intro c hg;obtain⟨a,e⟩:=hg;rw[zNa]at a;obtain⟨h,g,rfl,d,a⟩:=zVV a;cases List.map_eq_nil_iff.1 a;obtain⟨b,rfl⟩:=sh_s d;obtain⟨N,f⟩:=zRR b e;exact⟨zq [],N,12,(zV1 N b).trans f⟩
theorem zPV (H:Type)(a:List (DataW H))(h:a.length=Tryz.f4.params.toList.length):Rows.fnPagedSpec.fn H a={results:=[.lit (.bool true)],args:=a}:=by
 have b:a.length=1:=h.trans (by kernel_rfl)
 match a,b with
 |[d],_=>rfl
set_option maxRecDepth 100000 in
theorem zJz (g:Os)(a:g.Started)(H:Type)(enc:TypeId×Value->H) :
 ReturnsInHanded {} Tryz.checked g 4 .any (Rows.fnPagedSpec.pre6 enc Tryz.prog Tryz.f4 Rows.fnPagedRow.domain false) (Rows.fnPagedSpec.post enc Tryz.prog Tryz.f4 false true false false):=by
 refine returnsInHanded_of_change_shaped (C:=Tryz.checked) own a (by kernel_rfl) Tryz.func4
  (ChangeSpec.witness6 (enc:=enc) (C:=Tryz.checked) false ⟨#[],#[.slice none 0 0],[]⟩ 8 (by kernel_rfl) (by kernel_rfl) (by kernel_rfl) (by kernel_rfl)) ?_
 intro W d c h i b e j _ f _ _;exact zMb (P:=Tryz.prog) z5r z6q rfl zPV (by kernel_rfl) (B:=4) (by kernel_rfl) (by kernel_rfl) zFI W d c h i b e j f
end
end
end Go.Proofs.YthdlghbibaoabaaGreat.E
