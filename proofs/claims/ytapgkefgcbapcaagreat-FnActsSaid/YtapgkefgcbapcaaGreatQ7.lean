/- What is proved here: a part of the proof of the claim. -/
import Derived.Test.YtapgkefgcbapcaaGreatQ6
import Derived.WalkKit
import Derived.Tactics2
import Derived.Deep.RegionWith
import Derived.Laws.Rows
import Derived.Test.YtapgkefgcbapcaaGreatProg
namespace Go.Proofs.YtapgkefgcbapcaaGreat.E
open Go
set_option linter.defProp false
set_option linter.constructorNameAsVariable false
set_option linter.unusedVariables false
set_option maxRecDepth 100000
set_option linter.unusedSimpArgs false
set_option linter.unusedSectionVars false
noncomputable section
section
open Go Go.RowKit
structure Cw (w0:World) (blk:Nat) (u:Value) (c:Cur) (w:World):Prop where
 os:w.os=w0.os
 tape:w.tape=w0.tape
 output:w.output=w0.output
 size:w0.heap.size<=w.heap.size
 keep:∀b,b<w0.heap.size->b≠blk->w.heap[b]?=w0.heap[b]?
 cur:∃e,w.heap[blk]?=some (.cells #[u,.int .i64 c.i,.int .i64 c.h] e (0,0))
def Cw.trans {g w1 h:World}{blk:Nat}{u:Value}{i d:Cur}(a:Cw g blk u i w1)(c:Cw w1 blk u d h):Cw g blk u d h :=
 ⟨c.os.trans a.os,c.tape.trans a.tape,c.output.trans a.output,qT a.size c.size,λb e f=>(c.keep b (jB e a.size) f).trans (a.keep b e f),c.cur⟩
def Cw.drew {a w:World}{blk:Nat}{u:Value}{c:Cur}(h:Cw a blk u c w):Cw a blk u c w.drew:=⟨h.os,h.tape,h.output,h.size,h.keep,h.cur⟩
def Cw.at (w:World)(blk:Nat)(u:Value)(c:Cur)(h:∃e,w.heap[blk]?=some (.cells #[u,.int .i64 c.i,.int .i64 c.h] e (0,0))):Cw w blk u c w:=⟨rfl,rfl,rfl,qX _,λ_ _ _=>rfl,h⟩
def Cw.alloc {d w:World}{blk:Nat}{u:Value}{c:Cur}(h:Cw d blk u c w)(a:blk<w.heap.size)(o:Obj):Cw d blk u c (w.alloc o):=
 ⟨h.os,h.tape,h.output,qT h.size (by simp),λb a g=>(heap_alloc_old w o<|jB a h.size).trans (h.keep b a g),by obtain⟨e,f⟩:=h.cur;exact⟨e,(heap_alloc_old w o a).trans f⟩⟩
def Cw.lt {b w:World}{blk:Nat}{u:Value}{c:Cur}(h:Cw b blk u c w):blk<w.heap.size:=by obtain⟨e,a⟩:=h.cur;exact(qO.1 a).1
def zKn {P:Program}{f:FuncId}{y:LC->LA->Option (Bool×LC×LA)}(V:zbU P f [false,true,true] y){w:World}{blk:Nat}{u:Value}{c c2:Cur}{z:zbd}(q:∃e,w.heap[blk]?=some (.cells #[u,.int .i64 c.i,.int .i64 c.h] e (0,0)))(hu:Rep false w u (.s .u8 c.b) z)(W:∀x,z x->x<w.heap.size/\x≠blk){avs rs:LA}{xs:List Value}{Ka:zbd}(l:zeb false w (zI avs) xs λ_=>Ka)(p:∀x,Ka x->x<w.heap.size/\x≠blk)(hr:y (zb5 c) avs=some (true,zb5 c2,rs)) :
 Calls P f (#[.pointer<|some ⟨blk,0,none⟩]++(zb6 avs xs).toArray) w λe B=>∃C A,e = .returned (zmk<|zb6 rs C)/\Cw w blk u c2 B/\zvX (zrp f) B (zI rs) C A/\(∀i x,i<(zI rs).length->A i x->w.heap.size<=x/\x<B.heap.size):=by
 obtain⟨e,Y⟩:=q;refine(V.2 w blk _ e (zb5 c) (λj x=>j=0/\z x) avs xs Ka (zb5 c2) rs Y rfl rfl ?_ ?_ ?_ l ?_ hr).mono ?_
 .intro j cv v m k
  match j,m,k with
  | 0,m,k=>cases m;cases k;exact hu.weak (λx l=>⟨rfl,l⟩)
  | 1,m,k=>cases m;cases k;exact .i _ _ _
  | 2,m,k=>cases m;cases k;exact .i _ _ _
  |j+3,m,k=>simp[zb5]at m
 .intro j x _ l;exact W x l.2
 .intro i j x r t n hne l hx2;have:i=0:=l.1;subst this;simp[zbk]at n
 .intro x l;refine⟨(p x l).1,(p x l).2,λj t n d=>?_⟩;have:j=0:=d.1;subst this;simp[zbk]at n
 .intro E B hp;cases E with
  |panicked _=>exact hp.elim
  |outgrown=>exact hp.elim
  |returned v=>
   obtain⟨Q,R,S,T,U,a,G,K',C,A,I,L,g3,F,M,N,g7,O,g9,J,K⟩:=hp;have g:∀i x,i<(zb5 c).length->zbk [false,true,true] i->¬ ((λ(j:Nat) x=>j=0/\z x) i x):=by intro i x r n d;have:i=0:=d.1;subst this;simp[zbk]at n
   have k:a = #[u,.int .i64 c2.i,.int .i64 c2.h]:=by
    have hs:a.size=3:=L;have D:=(F 0 _ (a[0]'(by omega)) rfl (jM _)).2 (by simp[zbk]);have H:=F 1 _ (a[1]'(by omega)) rfl (jM _);have E:=F 2 _ (a[2]'(by omega)) rfl (jM _);have D:u=a[0]'(by omega):=(by simpa using D);apply Array.ext;{exact hs}
    .intro i r hi2
     match i,r with
     | 0,_=>exact D.symm
     | 1,_=>exact H
     | 2,_=>exact E
     |i+3,h=>omega
   subst k;refine⟨C,A,by rw[N],⟨Q,R,S,T,λb X Z=>U b X Z λj t n d=>g j b t n d,G,I⟩,M,λi x r d=>?_⟩;obtain⟨k1,k2,k3⟩:=O i x r d;rcases k3 with⟨j,t,n,d⟩|d;{exact absurd d (g j x t n)};{exact⟨d,k1⟩}
def zf1 (c:Cur):List LI:=ziO c 3
def zBG (c:Cur):Cur:={zkL c 3 with b:=c.b}
def z4U (c:Cur):Int:=zx (zBG c) 8
def zj5 (c:Cur):Cur:={zf (zBG c) 8 with b:=c.b}
def z4T (c:Cur):Int:=zx (zj5 c) 3
def zvw (c:Cur):Cur:={zf (zj5 c) 3 with b:=c.b}
def l04n (c:Cur):Int:=zx (zvw c) 4
def z4R (c:Cur):Cur:={zf (zvw c) 4 with b:=c.b}
def zwM (c:Cur):Int:=zbu (zj5 c) [-1,100]
def z4S (c:Cur):Cur:={zbe (zj5 c) [-1,100] with b:=c.b}
def zqV (_:Nat)(c:Cur):OA:=
 bif zi4 c 3 then (bif zC (zBG c) 8 then (bif ieq (z4U c) 0 then (cond (zC (zj5 c) 3) (cond (zC (zvw c) 4) (some (AV.agg (zb5<|z4R c)::[aS (.sl .int)<|up (zf1 c) (z4T c)<|tk (ix (zf1 c) 0 [])<|l04n c])) none) none)
  else (bif ieq (z4U c) 1 then (cond (zbC (zj5 c) [-1,100]) (some (AV.agg (zb5<|z4S c)::[aS (.sl .int)<|up (zf1 c) 1<|up (ix (zf1 c) 1 []) 2<|zwM c])) none)
  else (cond (ieq (z4U c) 2) (cond (zC (zj5 c) 3) (some (AV.agg (zb5<|zvw c)::[aS (.sl .int)<|tk (zf1 c)<|z4T c])) none)<|some (AV.agg (zb5<|zj5 c)::[aS (.sl .int)<|zf1 c])))) else none) else none
def ztD (c:Cur)(s:Cur)(a:List LI):Prop:=(∃N,zqV N c=some (AV.agg (zb5 s)::[aS (.sl .int) a]))/\(s.b=c.b/\0<=s.i)/\(a.length<=3/\∀r∈a,r.length<=4)
def zoP (c:Cur)  : Bool:=wC (ztD c)
def zhW (c:Cur)  : Cur:=wS (ztD c)
def znW (c:Cur)  : List LI:=wV (ztD c)
def zBY {c:Cur}(h:zoP c=true):ztD c (zhW c) (znW c):=wG h
def zPO (c:Cur)  : 0<=(zhW c).i:=wP λh=>h.2.1.2
def z5z (c:Cur)(h:∃N,Ends (wE (λa=>aS (.sl .int) a) c.b λa=>a.length<=3/\∀r∈a,r.length<=4)<|zqV N c):zoP c=true:=wI (λ_ _ h=>h) h
def zuP:zeD:=rP0 λc=>(zoP c,zhW c,[aS (.sl .int)<|znW c])
def zbae {w:World}{blk:Nat}{u:Value}{c:Cur}{l:zbd}{n:Int}(g:∃e,w.heap[blk]?=some (.cells #[u,.int .i64 c.i,.int .i64 c.h] e (0,0)))(t:Rep false w u (.s .u8 c.b) l)(q:∀x,l x->x<w.heap.size/\x≠blk)(r:zi4 c n=true) :
 Calls Tryz.prog 340 #[.pointer<|some ⟨blk,0,none⟩,.int .i64 n] w λe k=>∃v j,e = .returned v/\Cw w blk u {zkL c n with b:=c.b} k/\Rep true k v (.s (.sl .int)<|ziO c n) j/\(∀x,j x->w.heap.size<=x/\x<k.heap.size):=by
 have:=zKn (c:=c) (c2:=zkL c n) zz1 g t q (avs:=[.one<|.i .i64 n]) (rs:=[aS (.sl .int)<|ziO c n]) (xs:=[.int .i64 n]) (Ka:=λ_=>False) ⟨rfl,λi A x a d=>by
  match i,a,d with
  | 0,a,d=>cases a;cases d;exact .i _ _ _
  |i+1,a,d=>simp at d⟩ (λx d=>d.elim) (by show some (zi4 ⟨c.b,c.i,c.h⟩ n,_,_)=_;rw[show (⟨c.b,c.i,c.h⟩:Cur)=c from rfl,r])
 refine Calls.mono this ?_
 rintro e k ⟨z,j,rfl,f,m,p⟩
 match z,m.1 with
 |[y],_=>exact⟨y,j 0,rfl,⟨f.os,f.tape,f.output,f.size,f.keep,f.cur⟩,m.2 0 _ y rfl rfl,λx d=>p 0 x (by simp[zI,AV.cvs]) d⟩
def zvk {w:World}{blk:Nat}{u:Value}{c:Cur}{j:zbd}{n:Int}(g:∃e,w.heap[blk]?=some (.cells #[u,.int .i64 c.i,.int .i64 c.h] e (0,0)))(r:Rep false w u (.s .u8 c.b) j)(p:∀x,j x->x<w.heap.size/\x≠blk)(q:zC c n=true) :
 Calls Tryz.prog 101 #[.pointer<|some ⟨blk,0,none⟩,.int .i64 n] w λe l=>e = .returned (.int .i64<|zx c n)/\Cw w blk u {zf c n with b:=c.b} l:=by
 have:=zKn (c:=c) (c2:=zf c n) zwI g r p (avs:=[.one<|.i .i64 n]) (rs:=[aI<|zx c n]) (xs:=[.int .i64 n]) (Ka:=λ_=>False) ⟨rfl,λi z x a d=>by
  match i,a,d with
  | 0,a,d=>cases a;cases d;exact .i _ _ _
  |i+1,a,d=>simp at d⟩ (λx d=>d.elim) (by show some (zC ⟨c.b,c.i,c.h⟩ n,_,_)=_;rw[show (⟨c.b,c.i,c.h⟩:Cur)=c from rfl,q])
 refine Calls.mono this ?_
 rintro e l ⟨t,v,rfl,f,k,A⟩
 match t,k.1,k.2 with
 |[y],_,m=>have:=(m 0 _ y rfl rfl).int_inv;subst this;exact⟨rfl,f.os,f.tape,f.output,f.size,f.keep,f.cur⟩
def z8h {w:World}{blk:Nat}{u:Value}{c:Cur}{k:zbd}{l:LI}{v:Value}{Ka:zbd}(f:∃e,w.heap[blk]?=some (.cells #[u,.int .i64 c.i,.int .i64 c.h] e (0,0)))(t:Rep false w u (.s .u8 c.b) k)(q:∀x,k x->x<w.heap.size/\x≠blk)(r:zbC c l=true)(z:Rep false w v (.s .int l) Ka)(j:∀x,Ka x->x<w.heap.size/\x≠blk) :
 Calls Tryz.prog 109 #[.pointer<|some ⟨blk,0,none⟩,v] w λe n=>e = .returned (.int .i64<|zbu c l)/\Cw w blk u {zbe c l with b:=c.b} n:=by
 have:=zKn (c:=c) (c2:=zbe c l) zt7 f t q (avs:=[.one<|.s .int l]) (rs:=[aI<|zbu c l]) (xs:=[v]) (Ka:=Ka) ⟨rfl,λi C x a g=>by
  match i,a,g with
  | 0,a,g=>cases a;cases g;exact z
  |i+1,a,g=>simp at g⟩ j (by show some (zbC ⟨c.b,c.i,c.h⟩ l,_,_)=_;rw[show (⟨c.b,c.i,c.h⟩:Cur)=c from rfl,r])
 refine Calls.mono this ?_
 rintro e n ⟨A,B,rfl,d,m,D⟩
 match A,m.1,m.2 with
 |[y],_,p=>have:=(p 0 _ y rfl rfl).int_inv;subst this;exact⟨rfl,d.os,d.tape,d.output,d.size,d.keep,d.cur⟩
def z8p {w:World}{v:Value}{l:List LI}{K:zbd}(h:Rep true w v (.s (.sl .int) l) K)(n:l.length=3):∃(b off cap:Nat) (arr:LV) (e:TypeId) (V:Nat->Value) (c:Nat->zbd),v = .slice (some ⟨b,off,none⟩) 3 cap/\w.heap[b]?=some (.cells arr e (0,0))/\3<=cap/\off+cap<=arr.size/\K b/\
 (∀i x,i<3->c i x->K x/\x≠b)/\(∀i g x,i<3->g<3->c i x->c g x->i=g)/\(∀i,i<3->arr[off+i]?=some (V i))/\∀i x,l[i]?=some x->Rep true w (V i) (.s .int x) (c i):=by
 cases h with
 |nil=>simp at n
 |void _ _ _ B=>cases B
 |sl _ _ b off cap arr e E V c _ y k r p f u a d C z=>have:=k rfl;subst this;have t:Ty.wi (.sl .int)=1:=rfl;rw[t,u1]at f;refine⟨b,off,cap,arr,e,λi=>V i 0,λi=>c i 0,by rw[n],y,by omega,f,u,λi x q j=>⟨(a i 0 x (by omega) (by decide) j).1,(a i 0 x (by omega) (by decide) j).2 rfl⟩,λi g x q A j m=>(d rfl i 0 g 0 x (by omega) (by decide) (by omega) (by decide) j m).1,λi q=>?_,λi x D=>z i x D 0 _ rfl⟩;have:=C i 0 (by omega) (by decide);rwa [t,u1,kA] at this
def zZ0 {w:World}{v:Value}{l:LI}{K:zbd}(h:Rep true w v (.s .int l) K)(d:l.length=4):∃(b off cap:Nat) (arr:LV) (e:TypeId),v = .slice (some ⟨b,off,none⟩) 4 cap/\w.heap[b]?=some (.cells arr e (0,0))/\4<=cap/\off+cap<=arr.size/\K b/\
 ∀i x,l[i]?=some x->arr[off+i]?=some (.int .i64 x):=by
 cases h with
 |nil=>simp at d
 |void _ _ _ u=>cases u
 |sl _ _ b off cap arr e A V z _ q c j f a p k g y r=>have:=c rfl;subst this;have m:Ty.wi .int=1:=rfl;rw[m,u1]at a;refine⟨b,off,cap,arr,e,by rw[d],q,by omega,a,p,λi x n=>?_⟩;have t:i<l.length:=(qA.1 n).1;have:=y i 0 t (by decide);rw[m,u1,kA] at this;rw[this,(r i x n 0 (.i .i64 x) rfl).int_inv]
def zL4 {o:Bool}{w:World}{b off cap:Nat}{arr:LV}{e:TypeId}(g:w.heap[b]?=some (.cells arr e (0,0))){l:LI}(r:l.length<=1000)(c:l.length<=cap)(m:off+cap<=arr.size)(n:∀i x,l[i]?=some x->arr[off+i]?=some (.int .i64 x)):Rep o w (.slice (some ⟨b,off,none⟩) l.length cap) (.s .int l) (λx=>x=b):=by
 refine .sl .int l b off cap arr e (0,0) (λi j=>.int .i64 (l.getD i 0)) (λ_ _ _=>False) _ g (λ_=>rfl) (by rw[zsF];omega) c (by show off+cap*1<=arr.size;omega) rfl (λi j x _ _ h=>h.elim) (λ_ i j t u x _ _ _ _ h=>h.elim) (λi j f k=>?_) (λi x p j q a=>?_);{have d:j=0:=(by have:j<1:=k;omega);subst d;have:=n i _ (qB f);show arr[off+i*1+0]?=_;rw[u1,kA,this];simp[List.getD,qB f]}
 .match j,a with
  | 0,a=>cases a;have:l.getD i 0=x:=(by simp[List.getD,p]);show Rep o w (.int .i64<|l.getD i 0) _ _;rw[this];exact .i _ _ _
  |j+1,a=>simp[Ty.cells]at a
def zL5 {w:World}{b off cap:Nat}{arr:LV}{e:TypeId}(n:w.heap[b]?=some (.cells arr e (0,0))){l:List LI}(A:l.length<=1000)(c:l.length<=cap)(t:off+cap<=arr.size)(V:Nat->Value){K:zbd}(f:K b)(u:∀i,i<l.length->arr[off+i]?=some (V i))(r:∀i x,l[i]?=some x->∃d,Rep false w (V i) (.s .int x) d/\∀y,d y->K y):Rep false w (.slice (some ⟨b,off,none⟩) l.length cap) (.s (.sl .int) l) K:=by
 refine .sl (.sl .int) l b off cap arr e (0,0) (λi _=>V i) (λ_ _=>K) _ n (λ_=>rfl) (by rw[zsF];omega) c (by show off+cap*1<=arr.size;omega) f (λi j x _ _ h=>⟨h,λh=>by cases h⟩) (λh=>by cases h) (λi j p q=>?_) (λi x v j z a=>?_);{have g:j=0:=(by have:j<1:=q;omega);subst g;show arr[off+i*1+0]?=_;rw[u1,kA];exact u i p}
 .match j,a with
  | 0,a=>cases a;obtain⟨d,k,m⟩:=r i x v;exact k.weak m
  |j+1,a=>simp[Ty.cells]at a
def zxO {w:World}{b o:Nat}{arr:LV}{e:TypeId}(a:w.heap[b]?=some (.cells arr e (0,0))):w.frozen? ⟨b,o,none⟩=false:=by simp[World.frozen?,a]
set_option maxHeartbeats 3000000 in
def z1z {w:World}{blk:Nat}{u:Value}{c:Cur}{K0:zbd}{r:Ans}(N:Nat)(b5:∃e,w.heap[blk]?=some (.cells #[u,.int .i64 c.i,.int .i64 c.h] e (0,0)))(hu:Rep false w u (.s .u8 c.b) K0)(hK:∀x,K0 x->x<w.heap.size/\x≠blk)(hE:zqV N c=some r) :
 Calls Tryz.prog 243 #[.pointer<|some ⟨blk,0,none⟩] w λe p=>∃c2 l v Kr,r=AV.agg (zb5 c2)::[aS (.sl .int) l]/\e = .returned v/\Cw w blk u c2 p/\Rep false p v (.s (.sl .int) l) Kr/\(∀x,Kr x->w.heap.size<=x/\x<p.heap.size):=by
 unfold zqV at hE;cases hm:zi4 c 3 with
 |false=>rw[hm]at hE;cases hE
 |true=>
 cases K:zC (zBG c) 8 with
 |false=>rw[hm,K]at hE;cases hE
 |true=>
 rw[hm,K,cT,cT]at hE;have a7:∀{p:World} {O:Cur},Cw w blk u O p->O.b=c.b->Rep false p u (.s .u8 O.b) K0/\∀x,K0 x->x<p.heap.size/\x≠blk:=by intro p O h e;rw[e];exact⟨hu.frame λx d=>h.keep x (hK x d).1 (hK x d).2,λx d=>⟨jB (hK x d).1 h.size,(hK x d).2⟩⟩
 have hM:=(zvO hm).2.2 (by omega) (by omega)
 have a8:(zf1 c).length=3:=by have:=hM.1;unfold ln at this;unfold zf1;omega
 have h5:=(zj0 K).2.2 (by omega)
 obtain⟨k,hk⟩:∃k,zx (zBG c) 8=k:=⟨_,rfl⟩;have f1:z4U c=k:=hk;rw[f1]at hE
 go_enter Tryz.func243,Tryz.ntmps243
 go_wp2_with fail
 refine(zbae b5 hu hK hm).mono ?_
 rintro e L ⟨v,K1,rfl,F,b3,m⟩
 have b3:Rep true L v (.s (.sl .int)<|zf1 c) K1:=b3;have F:Cw w blk u (zBG c) L:=F;obtain⟨E,t,a3,d7,e0,V,Kc,rfl,c3,g9,d1,Z,G,e9,hV,c1⟩:=z8p b3 a8;have h3:blk<w.heap.size:=by obtain⟨e,he⟩:=b5;exact(qO.1 he).1
 have e5:E≠blk:=by have:=(m E Z).1;omega
 have cellAt:∀{p:World} {O:Cur},Cw L blk u O p->p.heap[E]?=some (.cells d7 e0 (0,0)):=λh=>(h.keep E (m E Z).2 e5).trans c3
 go_wp2_with fail
 obtain⟨g1,f2⟩:=a7 F rfl;refine(zvk F.cur g1 f2 K).mono ?_;rw[hk]
 rintro e X ⟨rfl,B⟩
 have B:Cw L blk u (zj5 c) X:=B;obtain⟨g2,f3⟩:=a7 (F.trans B) rfl;have g0:=B.size;have g8:w.heap.size<=E/\E<L.heap.size:=m E Z
 have b2:∀{p:World} (i:Nat) (x:LI),(∀b,Kc i b->b<L.heap.size->b≠blk->b≠E->p.heap[b]?=L.heap[b]?)->i<3->(zf1 c)[i]?=some x->Rep false p (V i) (.s .int x) (Kc i)/\∀y,Kc i y->w.heap.size<=y/\y<L.heap.size:=by intro p i x hf P d;refine⟨((c1 i x d).frame λy S=>?_).ro,λy S=>m y (G i y P S).1⟩;have:=m y (G i y P S).1;exact hf y S this.2 (by omega) (G i y P S).2
 go_wp2_with fail
 .have h0:ieq k 0=true:=by assumption
  rw[h0,cT]at hE;cases J:zC (zj5 c) 3 with
  |false=>rw[J]at hE;cases hE
  |true=>
  cases b4:zC (zvw c) 4 with
  |false=>rw[J,b4]at hE;cases hE
  |true=>
   rw[J,b4,cT,cT]at hE;have hj:=(zj0 J).2.2 (by omega);obtain⟨j,a0⟩:=uX hj.1;have c8:z4T c=(j:Int):=a0;have hn:=(zj0 b4).2.2 (by omega);obtain⟨n,c9⟩:=uX hn.1;have f8:l04n c=(n:Int):=c9;rw[c8,f8]at hE;rw[a0]at hj;rw[c9]at hn;have e6:j<3:=(by omega);have h6:n<4:=(by omega);obtain⟨R0,c0⟩:∃R0,(zf1 c)[0]?=some R0:=⟨_,qB (by omega)⟩;have e2:R0.length=4:=hM.2 R0 (qJ c0);obtain⟨f,a,g,T,e1,f0,c4,c6,a9,D,W⟩:=zZ0 (c1 0 R0 c0) e2;have Q:∀{p:World} {O:Cur},Cw L blk u O p->p.cell? ⟨E,t,none⟩=some (.slice (some ⟨f,a,none⟩) 4 g):=λh=>(by have:=hV 0 (by omega);rw[kA,f0] at this;rw[D0<|cellAt h];exact this);have b7:∀{p:World} {O:Cur},Cw L blk u O p->p.cell? ⟨E,t+j,none⟩=some (V j)/\p.frozen? ⟨E,t+j,none⟩=false:=λh=>by rw[D0<|cellAt h];exact⟨hV j e6,zxO<|cellAt h⟩
   have d8:∀{I:World},Cw L blk u (z4R c) I->∃c2 l v Kr,r=AV.agg (zb5 c2)::[aS (.sl .int) l]/\Ending.returned (.slice (some ⟨E,t,none⟩) 3 a3) = .returned v/\Cw w blk u c2 (I.setCell ⟨E,t+j,none⟩<|.slice (some ⟨f,a,none⟩) n g)/\Rep false (I.setCell ⟨E,t+j,none⟩<|.slice (some ⟨f,a,none⟩) n g) v (.s (.sl .int) l) Kr/\
    (∀x,Kr x->w.heap.size<=x/\x<(I.setCell ⟨E,t+j,none⟩<|.slice (some ⟨f,a,none⟩) n g).heap.size):=by
    intro I h4;have hz:=h4.size;have a6:=m f (G 0 f (by omega) D).1
    have U:f≠blk:=by omega
    have a5:f≠E:=(G 0 f (by omega) D).2
    have ho:∀b,b≠E->(I.setCell ⟨E,t+j,none⟩<|.slice (some ⟨f,a,none⟩) n g).heap[b]?=I.heap[b]?:=λb K=>heap_setCell_other I _ b _ K;have d0:=heap_setCell_same I E (t+j) d7 e0 (.slice (some ⟨f,a,none⟩) n g) (cellAt h4);have A:=F.trans h4;refine⟨_,_,_,K1,(Option.some.inj hE).symm,rfl,⟨A.os,A.tape,A.output,by rw[World.size_setCell];exact A.size,λb K hn=>(ho b (by omega)).trans (A.keep b K hn),by obtain⟨e,he⟩:=A.cur;exact⟨e,(ho blk λh=>e5 h.symm).trans he⟩⟩,?_,λx d=>⟨(m x d).1,by rw[World.size_setCell];have:=m x d;omega⟩⟩
    have c7:ix (zf1 c) 0 []=R0:=by unfold ix;simp[List.getD,c0]
    have a1:(up (zf1 c) (j:Int)<|tk (ix (zf1 c) 0 []) (n:Int)).length=3:=by rw[zkw];exact a8
    have:=zL5 d0 (l:=up (zf1 c) (j:Int) (tk (ix (zf1 c) 0 []) (n:Int))) (by omega) (cap:=a3) (off:=t) (by omega) (by simpa using d1) (λi=>if i=j then .slice (some ⟨f,a,none⟩) n g else V i) Z (λi P=>by
     rw[a1]at P;rw[kM]
     by_cases M:i=j
     .subst M;rw[if_pos rfl,if_pos (by omega),if_pos rfl]
     .rw [if_neg (by omega),if_neg M]
      exact hV i P) (λi x d=>by
     have P:i<3:=by rw[<- a1];exact(qA.1 d).1
     unfold up at d;rw[jC]at d
     by_cases M:i=j
     .subst M;rw[kN,if_pos rfl,if_pos (by omega),c7]at d
      cases d;refine⟨λx=>x=f,?_,λy S=>by rw[S];exact(G 0 f (by omega) D).1⟩
      have hl:(tk R0 (n:Int)).length=n:=by simp[tk];omega
      have:=zL4 (o:=false) (w:=I.setCell ⟨E,t+i,none⟩ (.slice (some ⟨f,a,none⟩) n g)) (b:=f) (off:=a) (cap:=g) (arr:=T) (e:=e1) ((ho f a5).trans ((h4.keep f a6.2 U).trans c4)) (l:=tk R0 (n:Int)) (by omega) (by omega) a9 (λq z hq=>by
       unfold tk at hq;rw[jP]at hq;split at hq
       .exact W q z hq
       .cases hq)
      rw[hl] at this;rw[if_pos rfl];exact this
     .rw [kN,if_neg (by omega)]at d
      rw[if_neg M];exact⟨Kc i,(b2 i x (λb _ K hn c3=>(ho b c3).trans (h4.keep b K hn)) P d).1,λy S=>(G i y P S).1⟩)
    rw[a1] at this;exact this
   have Y:Cw L blk u (zj5 c) X.drew:=B.drew;obtain⟨e8,e7⟩:=a7 (F.trans Y) rfl;have d2:=Q Y
   go_region_with (first
    |(go_at_call_of 101 (Value.int IntKind.i64 3);refine(zvk (c:=zj5 c) (n:=3) Y.cur e8 e7 J).mono ?_;rw[a0];rintro e w3 ⟨rfl,H⟩;have H:Cw X.drew blk u (zvw c) w3:=H;have C:=Y.trans H;have d3:=Q C;obtain⟨g3,f4⟩:=a7 (F.trans C) rfl)
    |(go_at_call_of 101 (Value.int IntKind.i64 4);refine(zvk (c:=zvw c) (n:=4) C.cur g3 f4 b4).mono ?_;rw[c9];rintro e I ⟨rfl,b8⟩;have b8:Cw w3 blk u (z4R c) I:=b8;have b9:=C.trans b8;have d4:=Q b9;obtain⟨d5,d6⟩:=b7 b9))
   (all_goals go_wp2);(all_goals go_ret);all_goals exact d8 b9
 .have h0:ieq k 0=false:=by assumption
  have h1:ieq k 1=true:=by assumption
  rw[h0,h1,cF,cT]at hE;cases c5:zbC (zj5 c) [-1,100] with
  |false=>rw[c5]at hE;cases hE
  |true=>
   rw[c5,cT]at hE;obtain⟨R1,a4⟩:∃R1,(zf1 c)[1]?=some R1:=⟨_,qB (by omega)⟩;have e3:R1.length=4:=hM.2 R1 (qJ a4);obtain⟨f,a,g,T,e1,e4,c4,c6,a9,D,W⟩:=zZ0 (c1 1 R1 a4) e3;have a6:=m f (G 1 f (by omega) D).1;have U:f≠blk:=(by omega);have a5:f≠E:=(G 1 f (by omega) D).2;have R:∀{p:World} {O:Cur},Cw L blk u O p->p.cell? ⟨E,t+1,none⟩=some (.slice (some ⟨f,a,none⟩) 4 g):=λh=>(by have:=hV 1 (by omega);rw[e4] at this;rw[D0<|cellAt h];exact this);have a2:∀{p:World} {O:Cur},Cw L blk u O p->p.heap[f]?=some (.cells T e1 (0,0)):=λh=>(h.keep f a6.2 U).trans c4;have b6:∀{p:World} {O:Cur},Cw L blk u O p->p.cell? ⟨f,a+2,none⟩=some (.int .i64 R1[2])/\p.frozen? ⟨f,a+2,none⟩=false:=λh=>by rw[D0<|a2 h];exact⟨W 2 _<|qB (by omega),zxO<|a2 h⟩
   have Y:Cw L blk u (zj5 c) X.drew:=B.drew;have d2:=R Y;have d9:∀{I:World},Cw L blk u (z4S c) I->∃c2 l v Kr,r=AV.agg (zb5 c2)::[aS (.sl .int) l]/\Ending.returned (.slice (some ⟨E,t,none⟩) 3 a3) = .returned v/\Cw w blk u c2 (I.setCell ⟨f,a+2,none⟩<|.int .i64<|zwM c)/\Rep false (I.setCell ⟨f,a+2,none⟩<|.int .i64<|zwM c) v (.s (.sl .int) l) Kr/\
    (∀x,Kr x->w.heap.size<=x/\x<(I.setCell ⟨f,a+2,none⟩<|.int .i64<|zwM c).heap.size):=by
    intro I h4;have hz:=h4.size;have ho:∀b,b≠f->(I.setCell ⟨f,a+2,none⟩<|.int .i64<|zwM c).heap[b]?=I.heap[b]?:=λb K=>heap_setCell_other I _ b _ K;have d0:=heap_setCell_same I f (a+2) T e1 (.int .i64<|zwM c) (a2 h4);have A:=F.trans h4;refine⟨_,_,_,K1,(Option.some.inj hE).symm,rfl,⟨A.os,A.tape,A.output,by rw[World.size_setCell];exact A.size,λb K hn=>(ho b (by omega)).trans (A.keep b K hn),by obtain⟨e,he⟩:=A.cur;exact⟨e,(ho blk λh=>U h.symm).trans he⟩⟩,?_,λx d=>⟨(m x d).1,by rw[World.size_setCell];have:=m x d;omega⟩⟩
    have c7:ix (zf1 c) 1 []=R1:=by unfold ix;show (zf1 c).getD 1 []=R1;simp[List.getD,a4]
    have a1:(up (zf1 c) 1<|up (ix (zf1 c) 1 []) 2<|zwM c).length=3:=by rw[zkw];exact a8
    have:=zL5 ((ho E λh=>a5 h.symm).trans (cellAt h4)) (l:=up (zf1 c) 1 (up (ix (zf1 c) 1 []) 2<|zwM c)) (by omega) (cap:=a3) (off:=t) (by omega) d1 V Z (λi P=>hV i (by omega)) (λi x d=>by
     have P:i<3:=by rw[<- a1];exact(qA.1 d).1
     unfold up at d;rw[jC]at d
     by_cases M:i=1
     .subst M;rw[show (1:Int).toNat=1 from rfl,if_pos rfl,if_pos (by omega),c7]at d
      cases d;refine⟨λx=>x=f,?_,λy S=>by rw[S];exact(G 1 f (by omega) D).1⟩
      have hl:(List.set R1 (2:Int).toNat<|zwM c).length=4:=by simp;omega
      have:=zL4 (o:=false) (w:=I.setCell ⟨f,a+2,none⟩ (.int .i64<|zwM c)) (b:=f) (off:=a) (cap:=g) d0 (l:=List.set R1 (2:Int).toNat (zwM c)) (by omega) (by omega) (by simpa using a9) (λq z hq=>by
       rw[jC]at hq;rw[kM]
       by_cases f9:q=2
       .subst f9;rw[show (2:Int).toNat=2 from rfl,if_pos rfl,if_pos (by omega)]at hq
        cases hq;rw[if_pos rfl,if_pos (by omega)]
       .rw [show (2:Int).toNat=2 from rfl,if_neg (by omega)]at hq
        rw[if_neg (by omega)]
        exact W q z hq)
      rw[hl] at this;rw[e4];exact this
     .rw [show (1:Int).toNat=1 from rfl,if_neg (by omega)]at d
      refine⟨Kc i,(b2 i x (λb f6 K hn g7=>?_) P d).1,λy S=>(G i y P S).1⟩;exact(ho b λe=>M (e9 i 1 b P (by omega) f6 (by rw[e];exact D))).trans (h4.keep b K hn))
    rw[a1] at this;exact this
   have hA:Cw L blk u (zj5 c) (X.alloc<|Obj.cells #[Value.int .i64<|-1,Value.int .i64 100] 3).drew:=(B.alloc B.lt _).drew;obtain⟨g4,f5⟩:=a7 (F.trans hA) rfl;have dA:=R hA;have g5:Rep false (X.alloc<|Obj.cells #[Value.int .i64<|-1,Value.int .i64 100] 3).drew (.slice (some ⟨X.heap.size,0,none⟩) 2 2) (.s .int [-1,100]) (λx=>x=X.heap.size):=by
    have hh:(X.alloc<|Obj.cells #[Value.int .i64<|-1,Value.int .i64 100] 3).drew.heap[X.heap.size]?=some (.cells #[Value.int .i64<|-1,Value.int .i64 100] 3 (0,0)):=heap_alloc_new X _;exact zL4 (o:=false) hh (l:=[-1,100]) (cap:=2) (off:=0) (by decide) (by decide) (by decide) (λi x d=>by
     match i,d with
     | 0,d=>cases d;rfl
     | 1,d=>cases d;rfl
     |i+2,d=>simp at d)
   go_region_with (first
    |(go_at_call_of 109 (Value.slice (some ⟨X.heap.size,0,none⟩) 2 2);refine(z8h (c:=zj5 c) (l:=[-1,100]) hA.cur g4 f5 c5 g5 (λx d=>by rw[d];exact⟨by simp,Nat.ne_of_gt B.lt⟩)).mono ?_;rintro e w3 ⟨rfl,H⟩;have H:Cw (X.alloc<|Obj.cells #[Value.int .i64<|-1,Value.int .i64 100] 3).drew blk u (z4S c) w3:=H;have C:=hA.trans H;have d3:=R C;obtain⟨d4,d5⟩:=b6 C))
   (all_goals go_wp2);(all_goals go_ret);all_goals exact d9 C
 .have h0:ieq k 0=false:=by assumption
  have h1:ieq k 1=false:=by assumption
  have h2:ieq k 2=true:=by assumption
  rw[h0,h1,h2,cF,cF,cT]at hE;cases J:zC (zj5 c) 3 with
  |false=>rw[J]at hE;cases hE
  |true=>
   rw[J,cT]at hE;have hj:=(zj0 J).2.2 (by omega);obtain⟨j,a0⟩:=uX hj.1;have c8:z4T c=(j:Int):=a0;rw[c8]at hE;refine(zvk B.cur g2 f3 J).mono ?_;rw[a0];rintro e w3 ⟨rfl,H⟩;have H:Cw X blk u (zvw c) w3:=H;go_wp2;go_ret;have e6:j<3:=(by omega);have f7:(tk (zf1 c) (j:Int)).length=j:=(by simp[tk];omega);have C:=B.trans H;refine⟨_,_,_,K1,(Option.some.inj hE).symm,rfl,F.trans C,?_,λx d=>⟨(m x d).1,by have:=m x d;have:=C.size;omega⟩⟩
   have:=zL5 (cellAt C) (l:=tk (zf1 c) (j:Int)) (by omega) (cap:=a3) (off:=t) (by omega) d1 V Z (λi P=>hV i (by omega)) (λi x d=>by
    have P:i<(tk (zf1 c) (j:Int)).length:=(qA.1 d).1;have g6:(zf1 c)[i]?=some x:=by unfold tk at d;rw[jP]at d;split at d;{exact d};{cases d}
    exact⟨Kc i,(b2 i x (λb _ K hn _=>C.keep b K hn) (by omega) g6).1,λy S=>(G i y (by omega) S).1⟩)
   rw[f7] at this;exact this
 .have h0:ieq k 0=false:=by assumption
  have h1:ieq k 1=false:=by assumption
  have h2:ieq k 2=false:=by assumption
  rw[h0,h1,h2,cF,cF,cF]at hE
  go_ret
  exact⟨_,_,_,K1,(Option.some.inj hE).symm,rfl,F.trans B,(b3.frame λx d=>B.keep x (m x d).2 (by have:=m x d;omega)).ro,λx d=>⟨(m x d).1,by have:=m x d;omega⟩⟩
def zBF {c:Cur}(h:zbf c):zoP c=true:=by
 refine z5z c ⟨0,?_⟩;unfold zqV;have t:=zbcd h (a0:=3) (by omega) (by omega);have y:zbf (zBG c):=zbI h (zPP _ _);have k:zbf (zj5 c):=zbI h (zG _ _);have z:zbf (zvw c):=zbI h (zG _ _);have p:=(zvO t).2.2 (by omega) (by omega);have A:(zf1 c).length=3:=(by have:=p.1;unfold ln at this;unfold zf1;omega);have f:∀r∈zf1 c,r.length<=4:=λr f=>uD (p.2 r f);have u:∀n,(ix (zf1 c) n []).length<=4:=(by intro n;unfold ix List.getD;cases e:(zf1 c)[n.toNat]? with|none=>simp|some r=>exact f r (qJ e));have g:∀(n:Int) (r:LI),r.length<=4->∀q∈up (zf1 c) n r,q.length<=4:=by intro n r j q e;rcases jD e with e|rfl;{exact f q e};{exact j}
 have d:∀(s:Cur) (l:List LI),s.b=c.b->0<=s.i->l.length<=3->(∀r∈l,r.length<=4)->Ends (λa=>∃s m,a=(AV.agg (zb5 s)::[aS (.sl .int) m])/\(s.b=c.b/\0<=s.i)/\(m.length<=3/\∀r∈m,r.length<=4)) (some (AV.agg (zb5 s)::[aS (.sl .int) l])):=
  λs l v w x j=>⟨_,rfl,s,l,rfl,⟨v,w⟩,x,j⟩
 exact zB t (zB (zbA y 8) (zbB (λ_=>zB (zbA k 3) (zB (zbA z 4) (d _ _ rfl (zG _ _) (by rw[zkw];omega) (g _ _<|qT (zFM _ _)<|u _))))
  (λ_=>zbB (λ_=>zB (zfY k (by simp)) (d _ _ rfl (zb4 _ _) (by rw[zkw];omega) (g _ _ (by rw[zkw];exact u _)))) λ_=>zbB (λ_=>zB (zbA k 3) (d _ _ rfl (zG _ _) (qT (zFM _ _) (by omega)) λr e=>f r (j8 e))) λ_=>d _ _ rfl (zG _ _) (by omega) f)))
def zRU:zbU Tryz.prog 243 [false,true,true] zuP:=by
 refine⟨ziX (by kernel_rfl),?_⟩;intro w blk d e cs K T xs Ka U rs D P a4 k A X n W g;unfold zuP rP0 at g;obtain⟨⟨p,q,r⟩,rfl,g⟩:=z8a g;obtain⟨rfl,R,rfl,rfl⟩:=zx9 g;dsimp only at R ⊢;have hs:d.size=3:=P;have M:xs=[]:=List.eq_nil_of_length_eq_zero n.1;subst M;obtain⟨N,hE⟩:=(zBY R).1;have v1:=(k 1 _ (d[1]'(by omega)) rfl (jM _)).int_inv;have v2:=(k 2 _ (d[2]'(by omega)) rfl (jM _)).int_inv
 have m:d = #[d[0]'(by omega),.int .i64 q,.int .i64 r]:=by
  apply Array.ext;{exact hs}
  .intro i E hi2
   match i,E with
   | 0,_=>rfl
   | 1,_=>exact v1
   | 2,_=>exact v2
   |i+3,h=>omega
 have hu:=k 0 _ (d[0]'(by omega)) rfl (jM _);have f:Rep false w (d[0]'(by omega)) (.s .u8 p) (K 0):=hu;generalize d[0]'(by omega)=u at m f;subst m;refine(z1z (c:=⟨p,q,r⟩) (u:=u) (K0:=K 0) N ⟨e,D⟩ f (λx n=>A 0 x (show 0<3 by decide) n) hE).mono ?_;rintro e2 w' ⟨z,l,v,S,hr,rfl,y,Y,t⟩;have B:AV.agg (zb5<|zhW ⟨p,q,r⟩)::[aS (.sl .int)<|znW ⟨p,q,r⟩]=AV.agg (zb5 z)::[aS (.sl .int) l]:=hr;simp only[List.cons.injEq,AV.agg.injEq,AV.one.injEq,and_true]at B;obtain⟨C,I⟩:=B;have I:znW ⟨p,q,r⟩=l:=(by cases I;rfl);subst I;have O:zhW ⟨p,q,r⟩=z:=(by have C:=C;simp only[zb5,List.cons.injEq,CV.s.injEq,CV.i.injEq,true_and,and_true,heq_eq_eq]at C;obtain⟨F,G,H⟩:=C;generalize zhW ⟨p,q,r⟩=s at F G H;obtain⟨a1,a2,a3⟩:=s;obtain⟨b1,b2,b3⟩:=z;simp only at F G H;rw[F,G,H]);rw[O];obtain⟨V,J⟩:=y.cur;refine⟨y.os,y.tape,y.output,y.size,λb D hn _=>y.keep b D hn,#[u,.int .i64 z.i,.int .i64 z.h],V,λ_ _=>False,[v],λ_=>S,J,rfl,rfl,?_,⟨rfl,λi Q x a n=>?_⟩,rfl,λj x _ h=>h.elim,λi x E L=>⟨(t x L).2,?_,.inr (t x L).1⟩,λi j x _ _ _ h=>h.elim,?_,λi j x _ _ h=>h.elim⟩
 .intro j Q u' a f
  match j,a,f with
  | 0,a,f=>cases a;exact⟨λh=>by simp[zbk]at h,λ_=>f⟩
  | 1,a,f=>cases a;cases f;rfl
  | 2,a,f=>cases a;cases f;rfl
  |j+3,a,f=>simp[zb5]at a
 .match i,a,n with
  | 0,a,n=>cases a;cases n;exact Y
  |i+1,a,n=>simp at n
 {have:=(qO.1 D).1;have:=(t x L).1;omega};{intro i j Q x E ho Z a0 _;have h1:i<1:=(qA.1 E).1;have h2:j<1:=Z;omega}
def zbcw:zdb:=[(243,[false,true,true],zuP)]++zbcv
def zZP:zce zbcw:=zcF zbap (by
 intro x a;simp only[qG,qN,or_false]at a;rcases a with rfl
 .exact zRU)
end
def zbft:zbb:=[(197,zoB),(384,zlB)]++zbbs
def zKi:zN zbft:=zh zqd (zh zwG zfm)
def zGv {g:Type}{c e:Cur}(h:zbf c)(j:0<=e.i){P:g->Prop}{q:Int}(A:0<q)(M:q<=1000){fc:Cur->Bool}{fs:Cur->Cur}{fv:Cur->g}(E:∀{c:Cur},zbf c->fc c=true)(H:∀c,0<=(fs c).i)(hg:∀{c:Cur},zbf c->P (fv c)){G:Ans->Prop}{l0:List g}{z:Nat}(O:l0.length<=z)(I:z<=1000)(m:∀x∈l0,P x){p:Type}(S:Nat->Int×Int×Int×List g->p){F:(p->OA)->p->OA}(D:∀rec t i k l,∃r,F rec (S 0 (t,i,k,l))=(bif zC ⟨c.b,i,k⟩ q then (bif ilt t (zx ⟨c.b,i,k⟩ q) then (bif fc { zf ⟨c.b,i,k⟩ q with b:=c.b } then (bif few (ln (ap l [fv { zf ⟨c.b,i,k⟩ q with b:=c.b }])) then
        rec (S 0 (zM .i64 t 1,(fs {zf ⟨c.b,i,k⟩ q with b:=c.b}).i,(fs {zf ⟨c.b,i,k⟩ q with b:=c.b}).h,ap l [fv {zf ⟨c.b,i,k⟩ q with b:=c.b}])) else none) else none) else some r) else none)/\(ln l<=z+q->(∀x∈l,P x)->G r)):Ends G (q0 1002 F (S 0 (0,e.i,e.h,l0))):=by
 refine zmH (fun n s=>∃t i k l,s=S 0 (t,i,k,l)/\t+(n:Int)=1000/\0<=t/\t<=q/\0<=i/\(∀x∈l,P x)/\ln l<=z+t) ?_ 1002 1000 _ ⟨0,e.i,e.h,l0,rfl,rfl,kQ 0,by omega,j,m,by unfold ln;omega⟩ (by omega)
 rintro n s rec ⟨t,i,k,l,rfl,J,B,K,C,u,L⟩ f
 obtain⟨r,hF1,hF2⟩:=D rec t i k l;rw[hF1];have a:zbf ⟨c.b,i,k⟩:=zbI h C;have d:=zgs a A;have v:zbf {zf ⟨c.b,i,k⟩ q with b:=c.b}:=zbI h (zG _ _);refine zB (zbA a _) (zbB (fun w=>?_) (fun w=>?_))
 .have hlt:t<zx ⟨c.b,i,k⟩ q:=qD w;have N:=zjC (y:=1) B (by omega) (by omega) (by omega)
  refine zB (E v) (zB (zkt (by rw[zhg];omega)) (f (n-1) _ (by omega) ⟨_,_,_,_,rfl,by omega,by omega,by omega,H _,?_,by rw[zhg];omega⟩))
  intro x d;rcases jK.1 d with d|d
  .exact u x d
  .rw [qF.1 d];exact hg v
 .exact zwt (hF2 (by omega) u)
def z7j {c d:Cur}(h:zbf c)(f:0<=d.i){m q x:Int}(t:0<q)(g:0<=m)(D:m+q<=1000){G:Ans->Prop}{l0:LI}(B:ln l0<=m+q){j:Type}(S:Nat->Int×Int×LI->j){F:(j->OA)->j->OA}(w:∀rec i k l,∃r,F rec (S 0 (i,k,l))=(bif zC ⟨c.b,i,k⟩ q then (bif ilt (ln l) (zM .i64 m (zx ⟨c.b,i,k⟩ q)) then (bif few (ln (ap l [x])) then
        rec (S 0 ((zf ⟨c.b,i,k⟩ q).i,(zf ⟨c.b,i,k⟩ q).h,ap l [x])) else none) else some r) else none)/\(ln l<=m+q->G r)):Ends G (q0 1002 F (S 0 (d.i,d.h,l0))):=by
 refine zmH (fun n s=>∃i k l,s=S 0 (i,k,l)/\ln l+(n:Int)=1000/\0<=i/\ln l<=m+q) ?_ 1002 (1000-ln l0).toNat _ ⟨d.i,d.h,l0,rfl,by unfold ln at *;omega,f,B⟩ (by unfold ln at *;omega)
 rintro n s rec ⟨i,k,l,rfl,C,u,v⟩ e
 obtain⟨r,hF1,hF2⟩:=w rec i k l;rw[hF1];have a:zbf ⟨c.b,i,k⟩:=zbI h u;have A:=zgs a t;have z:=zjC (x:=m) (y:=zx ⟨c.b,i,k⟩ q) g (by omega) A.1 (by omega)
 refine zB (zbA a _) (zbB (fun p=>?_) (fun p=>?_))
 .have hlt:ln l<zM .i64 m (zx ⟨c.b,i,k⟩ q):=qD p;rw[z]at hlt;exact zB (zkt (by rw[zhg];omega)) (e (n-1) _ (by unfold ln at *;omega) ⟨_,_,_,rfl,by rw[zhg];omega,zG _ _,by rw[zhg];omega⟩)
 .exact zwt (hF2 v)
def GuS (g:ah):Prop:=g.aw.length<=13/\g.ar.length<=4/\g.ax.length<=4/\g.aC.length<=50
def zGg {c:Cur}(h:zbf c):(zeq c 4 8).length<=4:=by have:=(zbd1 h (n:=4) (m:=8) (by omega) (by omega) (by omega) (by omega)).1;unfold ln at this;omega
def zwj (N:Nat)(c:Cur)  : OA :=
 let C:=({ (zbh c) with b:=c.b}:Cur);let v:=zeq C 4 8;let d:=zcN<|zcr c;let y9:=({ (zK C 4 8) with b:=c.b}:Cur);let x:=zeq y9 4 8;let y2:=({ (zK y9 4 8) with b:=c.b}:Cur);let w:=zx y2 100;let B:=({ (zf y2 100) with b:=c.b}:Cur);let y:=zx B 4;let y0:=({ (zf B 4) with b:=c.b}:Cur);let I:=({ (zcI y0) with b:=c.b}:Cur);let e:=zc1 y0;let A:=({ (zV I 3) with b:=c.b}:Cur);let H:=({ (zf A 256) with b:=c.b}:Cur);let r:=({ (zV A 4) with b:=c.b}:Cur);let u:=({ (zgM r) with b:=c.b}:Cur);let q:=({ (zV H 4) with b:=c.b}:Cur);let t:=({ (zgM q) with b:=c.b}:Cur); (oN (zjk c)<|oN (zlF<|zcr c)<|oN (zj1 C 4 8)<|oN (zj1 y9 4 8)<|oN (zC y2 100)<|oN (zC B 4)<|oN (zmx y0)<|oN (zdo I 3)<|cond (zdH I 3) (oN (zC A 256)<|oN (zdo H 4)<|cond (zdH H 4) (oN (zk6 q)<|oN (zdo t 12)<|q0 (σ:=(Int×Int×Int×Int×Int×Int×Int×Bool×Int×Int×Int×Bool×Int×Bool×Int×Int×Int×Int×Bool×Int×Int×Int×Bool×Int×Bool×LI×lI×lS×lS×LI×lI×lS×lS×LI×Unit)) N (λz a=>let c:=a.2.2.2.2.2.2.2.2.2.2.2.2;let d:=c.2.2.2.2.2.2.2.2.2.2;let d6:=c.2.2.1;let d2:=c.2.2.2.1;let c8:=c.2.2.2.2.1;let c4:=c.2.2.2.2.2.1;let c0:=c.2.2.2.2.2.2.1;let b6:=c.2.2.2.2.2.2.2.1;let b2:=c.2.2.2.2.2.2.2.2.1;let a8:=c.2.2.2.2.2.2.2.2.2.1;let a4:=d.1;let a0:=d.2.1;let W:=d.2.2.1;let S:=d.2.2.2.2.2.2.2.2.1;let O:=d.2.2.2.2.2.2.2.2.2.1;let J:=d.2.2.2.2.2.2.2.2.2.2.1;let D:=d.2.2.2.2.2.2.2.2.2.2.2.1;let y4:=d.2.2.2.1;let l:=(⟨y4,a.2.1,a.2.2.1⟩:Cur);let f:=({ (zf l 4) with b:=y4}:Cur); (oN (zC l 4)<|cond (ilt a.1<|zx l 4) (oN (zC f 100)<|oN (few<|ln<|ap D [zx f 100])<|z (zM .i64 a.1 1,(zf f 100).i,(zf f 100).h,a.2.2.2.1,a.2.2.2.2.1,a.2.2.2.2.2.1,a.2.2.2.2.2.2.1,a.2.2.2.2.2.2.2.1,a.2.2.2.2.2.2.2.2.1,a.2.2.2.2.2.2.2.2.2.1,a.2.2.2.2.2.2.2.2.2.2.1,a.2.2.2.2.2.2.2.2.2.2.2.1,c.1,c.2.1,d6,d2,c8,c4,c0,b6,b2,a8,a4,a0,W,y4,d.2.2.2.2.1,d.2.2.2.2.2.1,d.2.2.2.2.2.2.1,d.2.2.2.2.2.2.2.1,S,O,J,ap D [zx f 100],()))<|some [.agg [.s .u8 y4,.i .i64 (zf l 4).i,.i .i64 (zf l 4).h],aT .guest (⟨S,d6,d2,O,J,⟨c8,c4,c0⟩,b6,⟨b2,a8,a4,a0⟩,W,D⟩:ah)])) (0,(zV t 12).i,(zV t 12).h,0,0,0,0,false,0,0,0,false,0,false,w,y,e.aq,e.Post,e.Open,zx A 256,(zcB q).Kind,(zcB q).af,(zcB q).Write,(zcB q).N,zdH t 12,c.b,[],[],[],[],d.aw,v,x,d.aC,()))<|oN (zdo q 12)<|q0 (σ:=(Int×Int×Int×Int×Int×Int×Int×Bool×Int×Int×Int×Bool×Int×Bool×Int×Int×Int×Int×Bool×Int×Int×Int×Bool×Int×Bool×LI×lI×lS×lS×LI×lI×lS×lS×LI×Unit)) N (λz a=>let c:=a.2.2.2.2.2.2.2.2.2.2.2.2;let d:=c.2.2.2.2.2.2.2.2.2.2;let d7:=c.2.2.1;let d3:=c.2.2.2.1;let c9:=c.2.2.2.2.1;let c5:=c.2.2.2.2.2.1;let c1:=c.2.2.2.2.2.2.1;let b7:=c.2.2.2.2.2.2.2.1;let b3:=c.2.2.2.2.2.2.2.2.1;let a9:=c.2.2.2.2.2.2.2.2.2.1;let a5:=d.1;let a1:=d.2.1;let X:=d.2.2.1;let T:=d.2.2.2.2.2.2.2.2.1;let P:=d.2.2.2.2.2.2.2.2.2.1;let K:=d.2.2.2.2.2.2.2.2.2.2.1;let E:=d.2.2.2.2.2.2.2.2.2.2.2.1;let y5:=d.2.2.2.1;let m:=(⟨y5,a.2.1,a.2.2.1⟩:Cur);let g:=({ (zf m 4) with b:=y5}:Cur); (oN (zC m 4)<|cond (ilt a.1<|zx m 4) (oN (zC g 100)<|oN (few<|ln<|ap E [zx g 100])<|z (zM .i64 a.1 1,(zf g 100).i,(zf g 100).h,a.2.2.2.1,a.2.2.2.2.1,a.2.2.2.2.2.1,a.2.2.2.2.2.2.1,a.2.2.2.2.2.2.2.1,a.2.2.2.2.2.2.2.2.1,a.2.2.2.2.2.2.2.2.2.1,a.2.2.2.2.2.2.2.2.2.2.1,a.2.2.2.2.2.2.2.2.2.2.2.1,c.1,c.2.1,d7,d3,c9,c5,c1,b7,b3,a9,a5,a1,X,y5,d.2.2.2.2.1,d.2.2.2.2.2.1,d.2.2.2.2.2.2.1,d.2.2.2.2.2.2.2.1,T,P,K,ap E [zx g 100],()))<|some [.agg [.s .u8 y5,.i .i64 (zf m 4).i,.i .i64 (zf m 4).h],aT .guest (⟨T,d7,d3,P,K,⟨c9,c5,c1⟩,b7,⟨b3,a9,a5,a1⟩,X,E⟩:ah)])) (0,(zV q 12).i,(zV q 12).h,0,0,0,0,false,0,0,0,false,0,false,w,y,e.aq,e.Post,e.Open,zx A 256,d.Exit.Kind,d.Exit.af,d.Exit.Write,d.Exit.N,zdH q 12,c.b,[],[],[],[],d.aw,v,x,d.aC,()))<|oN (zdo A 4)<|cond (zdH A 4) (oN (zk6 r)<|oN (zdo u 12)<|q0 (σ:=(Int×Int×Int×Int×Int×Int×Int×Bool×Int×Int×Int×Bool×Int×Bool×Int×Int×Int×Int×Bool×Int×Int×Int×Bool×Int×Bool×LI×lI×lS×lS×LI×lI×lS×lS×LI×Unit)) N (λz a=>let c:=a.2.2.2.2.2.2.2.2.2.2.2.2;let d:=c.2.2.2.2.2.2.2.2.2.2;let d8:=c.2.2.1;let d4:=c.2.2.2.1;let d0:=c.2.2.2.2.1;let c6:=c.2.2.2.2.2.1;let c2:=c.2.2.2.2.2.2.1;let b8:=c.2.2.2.2.2.2.2.1;let b4:=c.2.2.2.2.2.2.2.2.1;let b0:=c.2.2.2.2.2.2.2.2.2.1;let a6:=d.1;let a2:=d.2.1;let Y:=d.2.2.1;let U:=d.2.2.2.2.2.2.2.2.1;let Q:=d.2.2.2.2.2.2.2.2.2.1;let L:=d.2.2.2.2.2.2.2.2.2.2.1;let F:=d.2.2.2.2.2.2.2.2.2.2.2.1;let y6:=d.2.2.2.1;let n:=(⟨y6,a.2.1,a.2.2.1⟩:Cur);let j:=({ (zf n 4) with b:=y6}:Cur); (oN (zC n 4)<|cond (ilt a.1<|zx n 4) (oN (zC j 100)<|oN (few<|ln<|ap F [zx j 100])<|z (zM .i64 a.1 1,(zf j 100).i,(zf j 100).h,a.2.2.2.1,a.2.2.2.2.1,a.2.2.2.2.2.1,a.2.2.2.2.2.2.1,a.2.2.2.2.2.2.2.1,a.2.2.2.2.2.2.2.2.1,a.2.2.2.2.2.2.2.2.2.1,a.2.2.2.2.2.2.2.2.2.2.1,a.2.2.2.2.2.2.2.2.2.2.2.1,c.1,c.2.1,d8,d4,d0,c6,c2,b8,b4,b0,a6,a2,Y,y6,d.2.2.2.2.1,d.2.2.2.2.2.1,d.2.2.2.2.2.2.1,d.2.2.2.2.2.2.2.1,U,Q,L,ap F [zx j 100],()))<|some [.agg [.s .u8 y6,.i .i64 (zf n 4).i,.i .i64 (zf n 4).h],aT .guest (⟨U,d8,d4,Q,L,⟨d0,c6,c2⟩,b8,⟨b4,b0,a6,a2⟩,Y,F⟩:ah)])) (0,(zV u 12).i,(zV u 12).h,0,0,0,0,false,0,0,0,false,0,false,w,y,e.aq,e.Post,e.Open,d.aj,(zcB r).Kind,(zcB r).af,(zcB r).Write,(zcB r).N,zdH u 12,c.b,[],[],[],[],d.aw,v,x,d.aC,()))<|oN (zdo r 12)<|q0 (σ:=(Int×Int×Int×Int×Int×Int×Int×Bool×Int×Int×Int×Bool×Int×Bool×Int×Int×Int×Int×Bool×Int×Int×Int×Bool×Int×Bool×LI×lI×lS×lS×LI×lI×lS×lS×LI×Unit)) N (λz a=>let c:=a.2.2.2.2.2.2.2.2.2.2.2.2;let d:=c.2.2.2.2.2.2.2.2.2.2;let d9:=c.2.2.1;let d5:=c.2.2.2.1;let d1:=c.2.2.2.2.1;let c7:=c.2.2.2.2.2.1;let c3:=c.2.2.2.2.2.2.1;let b9:=c.2.2.2.2.2.2.2.1;let b5:=c.2.2.2.2.2.2.2.2.1;let b1:=c.2.2.2.2.2.2.2.2.2.1;let a7:=d.1;let a3:=d.2.1;let Z:=d.2.2.1;let V:=d.2.2.2.2.2.2.2.2.1;let R:=d.2.2.2.2.2.2.2.2.2.1;let M:=d.2.2.2.2.2.2.2.2.2.2.1;let G:=d.2.2.2.2.2.2.2.2.2.2.2.1;let y7:=d.2.2.2.1;let p:=(⟨y7,a.2.1,a.2.2.1⟩:Cur);let k:=({ (zf p 4) with b:=y7}:Cur); (oN (zC p 4)<|cond (ilt a.1<|zx p 4) (oN (zC k 100)<|oN (few<|ln<|ap G [zx k 100])<|z (zM .i64 a.1 1,(zf k 100).i,(zf k 100).h,a.2.2.2.1,a.2.2.2.2.1,a.2.2.2.2.2.1,a.2.2.2.2.2.2.1,a.2.2.2.2.2.2.2.1,a.2.2.2.2.2.2.2.2.1,a.2.2.2.2.2.2.2.2.2.1,a.2.2.2.2.2.2.2.2.2.2.1,a.2.2.2.2.2.2.2.2.2.2.2.1,c.1,c.2.1,d9,d5,d1,c7,c3,b9,b5,b1,a7,a3,Z,y7,d.2.2.2.2.1,d.2.2.2.2.2.1,d.2.2.2.2.2.2.1,d.2.2.2.2.2.2.2.1,V,R,M,ap G [zx k 100],()))<|some [.agg [.s .u8 y7,.i .i64 (zf p 4).i,.i .i64 (zf p 4).h],aT .guest (⟨V,d9,d5,R,M,⟨d1,c7,c3⟩,b9,⟨b5,b1,a7,a3⟩,Z,G⟩:ah)])) (0,(zV r 12).i,(zV r 12).h,0,0,0,0,false,0,0,0,false,0,false,w,y,e.aq,e.Post,e.Open,d.aj,d.Exit.Kind,d.Exit.af,d.Exit.Write,d.Exit.N,zdH r 12,c.b,[],[],[],[],d.aw,v,x,d.aC,()))
def zTJ:=zo [(338,0,{n:=50,tm:=[(0,.lp 0 0),(2,.lp 1 0),(3,.lp 2 0),(4,ti)],lo:=[(0,[.sl 0 [],ti,ti]),(1,[.sl 1 [],ti,ti,.sl 2 [],.sl 3 [],ti,ti,.b,ti,ti,ti,.b,ti,.b,.sl 4 []]),(2,[.sl 5 [],ti,ti,.sl 6 [],.sl 7 [],ti,ti,.b,ti,ti,ti,.b,ti,.b,.sl 8 []])],ro:=[(0,.u8,false),(1,.ins,true),(2,.slot,true),(3,.slot,true),(4,.int,true),(5,.ins,true),(6,.slot,true),(7,.slot,true),(8,.int,true)]})]
def zp2 (c:Cur)(s:Cur)(a:ah):Prop:=(∃N,zwj N c=some (AV.agg (zb5 s)::[aT .guest a]))/\(s.b=c.b/\0<=s.i)/\(GuS a/\a.aC.length<=4)
def zin (c:Cur)  : Bool:=wC (zp2 c)
def zfy (c:Cur)  : Cur:=wS (zp2 c)
def zbS (c:Cur)  : ah:=wV (zp2 c)
def zsl {c:Cur}(h:zin c=true):zp2 c (zfy c) (zbS c):=wG h
def zn1 (c:Cur)  : 0<=(zfy c).i:=wP λh=>h.2.1.2
def z0e (c:Cur)(h:∃N,Ends (wE (λa=>aT .guest a) c.b λa=>GuS a/\a.aC.length<=4)<|zwj N c):zin c=true:=wI (λ_ _ h=>h) h
def zyh:zeD:=rP0 λc=>(zin c,zfy c,[aT .guest<|zbS c])
def zLr:zbU Tryz.prog 338 [false,true,true] zyh:=hP0 zKi zY zZP zn zTJ (λ_ h=>(zsl h).1)
def zp9 {c:Cur}(h:zbf c):zin c=true:=by
 refine z0e c ⟨1002,?_⟩;unfold zwj oN;conv=>zeta
 have f:=zFQ h;have j:=zL2 (ztH f).2.2;have e:zlF (zcr c)=true:=zba (by omega);have q:∀{s:Cur},0<=s.i->zbf {s with b:=c.b}:=fun g=>zbI h g;have d:GuS ⟨zcr c,0,0,[],[],⟨0,0,false⟩,0,⟨0,0,false,0⟩,false,[]⟩:=⟨by dsimp only;omega,by simp,by simp,by simp⟩
 refine zB f (zB e (zB (zAN (q (zk5 _)) (by omega) (by omega) _) (zB (zAN (q (zj2 _ _ _)) (by omega) (by omega) _) (zB (zbA (q (zj2 _ _ _)) _) (zB (zbA (q (zG _ _)) _) (zB (z4e (q (zG _ _))) (zB (zky (q (zB1 _)) _)
  (zbB (fun _=>zB (zbA (q (zcx _ _)) _) (zB (zky (q (zG _ _)) _) (zbB (fun _=>zB (zYf (q (zcx _ _))) (zB (zky (q (zzh _)) _) ?_)) (fun _=>zB (zky (q (zcx _ _)) _) ?_))))
   (fun _=>zB (zky (q (zcx _ _)) _) (zbB (fun _=>zB (zYf (q (zcx _ _))) (zB (zky (q (zzh _)) _) ?_)) (fun _=>zB (zky (q (zcx _ _)) _) ?_)))))))))))
 .exact zGv h (zcx _ _) (P:=fun _=>True) (q:=4) (by omega) (by omega) (fc:=fun c=>zC c 100) (fs:=fun c=>zf c 100) (fv:=fun c=>zx c 100) (fun h=>zbA h _) (fun c=>zG c _) (fun _=>trivial) (z:=0) (l0:=(zcN (zcr c)).aC) (qX 0) (by omega) (by simp) ((fun _ t=>(t.1,t.2.1,t.2.2.1,0,0,0,0,false,0,0,0,false,0,false,(zx ({ (zK ({ (zK ({ (zbh c) with b:=c.b }:Cur) 4 8) with b:=c.b }:Cur) 4 8) with b:=c.b }:Cur) 100),(zx ({ (zf ({ (zK ({ (zK ({ (zbh c) with b:=c.b }:Cur) 4 8) with b:=c.b }:Cur) 4 8) with b:=c.b }:Cur) 100) with b:=c.b }:Cur) 4),(zc1 ({ (zf ({ (zf ({ (zK ({ (zK ({ (zbh c) with b:=c.b }:Cur) 4 8) with b:=c.b }:Cur) 4 8) with b:=c.b }:Cur) 100) with b:=c.b }:Cur) 4) with b:=c.b }:Cur)).aq,(zc1 ({ (zf ({ (zf ({ (zK ({ (zK ({ (zbh c) with b:=c.b }:Cur) 4 8) with b:=c.b }:Cur) 4 8) with b:=c.b }:Cur) 100) with b:=c.b }:Cur) 4) with b:=c.b }:Cur)).Post,(zc1 ({ (zf ({ (zf ({ (zK ({ (zK ({ (zbh c) with b:=c.b }:Cur) 4 8) with b:=c.b }:Cur) 4 8) with b:=c.b }:Cur) 100) with b:=c.b }:Cur) 4) with b:=c.b }:Cur)).Open,(zx ({ (zV ({ (zcI ({ (zf ({ (zf ({ (zK ({ (zK ({ (zbh c) with b:=c.b }:Cur) 4 8) with b:=c.b }:Cur) 4 8) with b:=c.b }:Cur) 100) with b:=c.b }:Cur) 4) with b:=c.b }:Cur)) with b:=c.b }:Cur) 3) with b:=c.b }:Cur) 256),(zcB ({ (zV ({ (zf ({ (zV ({ (zcI ({ (zf ({ (zf ({ (zK ({ (zK ({ (zbh c) with b:=c.b }:Cur) 4 8) with b:=c.b }:Cur) 4 8) with b:=c.b }:Cur) 100) with b:=c.b }:Cur) 4) with b:=c.b }:Cur)) with b:=c.b }:Cur) 3) with b:=c.b }:Cur) 256) with b:=c.b }:Cur) 4) with b:=c.b }:Cur)).Kind,(zcB ({ (zV ({ (zf ({ (zV ({ (zcI ({ (zf ({ (zf ({ (zK ({ (zK ({ (zbh c) with b:=c.b }:Cur) 4 8) with b:=c.b }:Cur) 4 8) with b:=c.b }:Cur) 100) with b:=c.b }:Cur) 4) with b:=c.b }:Cur)) with b:=c.b }:Cur) 3) with b:=c.b }:Cur) 256) with b:=c.b }:Cur) 4) with b:=c.b }:Cur)).af,(zcB ({ (zV ({ (zf ({ (zV ({ (zcI ({ (zf ({ (zf ({ (zK ({ (zK ({ (zbh c) with b:=c.b }:Cur) 4 8) with b:=c.b }:Cur) 4 8) with b:=c.b }:Cur) 100) with b:=c.b }:Cur) 4) with b:=c.b }:Cur)) with b:=c.b }:Cur) 3) with b:=c.b }:Cur) 256) with b:=c.b }:Cur) 4) with b:=c.b }:Cur)).Write,(zcB ({ (zV ({ (zf ({ (zV ({ (zcI ({ (zf ({ (zf ({ (zK ({ (zK ({ (zbh c) with b:=c.b }:Cur) 4 8) with b:=c.b }:Cur) 4 8) with b:=c.b }:Cur) 100) with b:=c.b }:Cur) 4) with b:=c.b }:Cur)) with b:=c.b }:Cur) 3) with b:=c.b }:Cur) 256) with b:=c.b }:Cur) 4) with b:=c.b }:Cur)).N,(zdH ({ (zgM ({ (zV ({ (zf ({ (zV ({ (zcI ({ (zf ({ (zf ({ (zK ({ (zK ({ (zbh c) with b:=c.b }:Cur) 4 8) with b:=c.b }:Cur) 4 8) with b:=c.b }:Cur) 100) with b:=c.b }:Cur) 4) with b:=c.b }:Cur)) with b:=c.b }:Cur) 3) with b:=c.b }:Cur) 256) with b:=c.b }:Cur) 4) with b:=c.b }:Cur)) with b:=c.b }:Cur) 12),c.b,[],[],[],[],(zcN (zcr c)).aw,(zeq ({ (zbh c) with b:=c.b }:Cur) 4 8),(zeq ({ (zK ({ (zbh c) with b:=c.b }:Cur) 4 8) with b:=c.b }:Cur) 4 8),t.2.2.2,())):Nat->Int×Int×Int×LI->_)
   (fun rec t i k l=>⟨_,rfl,fun a _=>⟨⟨_,_,_⟩,_,rfl,⟨rfl,zG _ _⟩,⟨⟨d.1,zGg (q (zk5 _)),zGg (q (zj2 _ _ _)),by unfold ln at a;dsimp only;omega⟩,by unfold ln at a;dsimp only;omega⟩⟩⟩)
 .exact zGv h (zcx _ _) (P:=fun _=>True) (q:=4) (by omega) (by omega) (fc:=fun c=>zC c 100) (fs:=fun c=>zf c 100) (fv:=fun c=>zx c 100) (fun h=>zbA h _) (fun c=>zG c _) (fun _=>trivial) (z:=0) (l0:=(zcN (zcr c)).aC) (qX 0) (by omega) (by simp) ((fun _ t=>(t.1,t.2.1,t.2.2.1,0,0,0,0,false,0,0,0,false,0,false,(zx ({ (zK ({ (zK ({ (zbh c) with b:=c.b }:Cur) 4 8) with b:=c.b }:Cur) 4 8) with b:=c.b }:Cur) 100),(zx ({ (zf ({ (zK ({ (zK ({ (zbh c) with b:=c.b }:Cur) 4 8) with b:=c.b }:Cur) 4 8) with b:=c.b }:Cur) 100) with b:=c.b }:Cur) 4),(zc1 ({ (zf ({ (zf ({ (zK ({ (zK ({ (zbh c) with b:=c.b }:Cur) 4 8) with b:=c.b }:Cur) 4 8) with b:=c.b }:Cur) 100) with b:=c.b }:Cur) 4) with b:=c.b }:Cur)).aq,(zc1 ({ (zf ({ (zf ({ (zK ({ (zK ({ (zbh c) with b:=c.b }:Cur) 4 8) with b:=c.b }:Cur) 4 8) with b:=c.b }:Cur) 100) with b:=c.b }:Cur) 4) with b:=c.b }:Cur)).Post,(zc1 ({ (zf ({ (zf ({ (zK ({ (zK ({ (zbh c) with b:=c.b }:Cur) 4 8) with b:=c.b }:Cur) 4 8) with b:=c.b }:Cur) 100) with b:=c.b }:Cur) 4) with b:=c.b }:Cur)).Open,(zx ({ (zV ({ (zcI ({ (zf ({ (zf ({ (zK ({ (zK ({ (zbh c) with b:=c.b }:Cur) 4 8) with b:=c.b }:Cur) 4 8) with b:=c.b }:Cur) 100) with b:=c.b }:Cur) 4) with b:=c.b }:Cur)) with b:=c.b }:Cur) 3) with b:=c.b }:Cur) 256),(zcN (zcr c)).Exit.Kind,(zcN (zcr c)).Exit.af,(zcN (zcr c)).Exit.Write,(zcN (zcr c)).Exit.N,(zdH ({ (zV ({ (zf ({ (zV ({ (zcI ({ (zf ({ (zf ({ (zK ({ (zK ({ (zbh c) with b:=c.b }:Cur) 4 8) with b:=c.b }:Cur) 4 8) with b:=c.b }:Cur) 100) with b:=c.b }:Cur) 4) with b:=c.b }:Cur)) with b:=c.b }:Cur) 3) with b:=c.b }:Cur) 256) with b:=c.b }:Cur) 4) with b:=c.b }:Cur) 12),c.b,[],[],[],[],(zcN (zcr c)).aw,(zeq ({ (zbh c) with b:=c.b }:Cur) 4 8),(zeq ({ (zK ({ (zbh c) with b:=c.b }:Cur) 4 8) with b:=c.b }:Cur) 4 8),t.2.2.2,())):Nat->Int×Int×Int×LI->_)
   (fun rec t i k l=>⟨_,rfl,fun a _=>⟨⟨_,_,_⟩,_,rfl,⟨rfl,zG _ _⟩,⟨⟨d.1,zGg (q (zk5 _)),zGg (q (zj2 _ _ _)),by unfold ln at a;dsimp only;omega⟩,by unfold ln at a;dsimp only;omega⟩⟩⟩)
 .exact zGv h (zcx _ _) (P:=fun _=>True) (q:=4) (by omega) (by omega) (fc:=fun c=>zC c 100) (fs:=fun c=>zf c 100) (fv:=fun c=>zx c 100) (fun h=>zbA h _) (fun c=>zG c _) (fun _=>trivial) (z:=0) (l0:=(zcN (zcr c)).aC) (qX 0) (by omega) (by simp) ((fun _ t=>(t.1,t.2.1,t.2.2.1,0,0,0,0,false,0,0,0,false,0,false,(zx ({ (zK ({ (zK ({ (zbh c) with b:=c.b }:Cur) 4 8) with b:=c.b }:Cur) 4 8) with b:=c.b }:Cur) 100),(zx ({ (zf ({ (zK ({ (zK ({ (zbh c) with b:=c.b }:Cur) 4 8) with b:=c.b }:Cur) 4 8) with b:=c.b }:Cur) 100) with b:=c.b }:Cur) 4),(zc1 ({ (zf ({ (zf ({ (zK ({ (zK ({ (zbh c) with b:=c.b }:Cur) 4 8) with b:=c.b }:Cur) 4 8) with b:=c.b }:Cur) 100) with b:=c.b }:Cur) 4) with b:=c.b }:Cur)).aq,(zc1 ({ (zf ({ (zf ({ (zK ({ (zK ({ (zbh c) with b:=c.b }:Cur) 4 8) with b:=c.b }:Cur) 4 8) with b:=c.b }:Cur) 100) with b:=c.b }:Cur) 4) with b:=c.b }:Cur)).Post,(zc1 ({ (zf ({ (zf ({ (zK ({ (zK ({ (zbh c) with b:=c.b }:Cur) 4 8) with b:=c.b }:Cur) 4 8) with b:=c.b }:Cur) 100) with b:=c.b }:Cur) 4) with b:=c.b }:Cur)).Open,(zcN (zcr c)).aj,(zcB ({ (zV ({ (zV ({ (zcI ({ (zf ({ (zf ({ (zK ({ (zK ({ (zbh c) with b:=c.b }:Cur) 4 8) with b:=c.b }:Cur) 4 8) with b:=c.b }:Cur) 100) with b:=c.b }:Cur) 4) with b:=c.b }:Cur)) with b:=c.b }:Cur) 3) with b:=c.b }:Cur) 4) with b:=c.b }:Cur)).Kind,(zcB ({ (zV ({ (zV ({ (zcI ({ (zf ({ (zf ({ (zK ({ (zK ({ (zbh c) with b:=c.b }:Cur) 4 8) with b:=c.b }:Cur) 4 8) with b:=c.b }:Cur) 100) with b:=c.b }:Cur) 4) with b:=c.b }:Cur)) with b:=c.b }:Cur) 3) with b:=c.b }:Cur) 4) with b:=c.b }:Cur)).af,(zcB ({ (zV ({ (zV ({ (zcI ({ (zf ({ (zf ({ (zK ({ (zK ({ (zbh c) with b:=c.b }:Cur) 4 8) with b:=c.b }:Cur) 4 8) with b:=c.b }:Cur) 100) with b:=c.b }:Cur) 4) with b:=c.b }:Cur)) with b:=c.b }:Cur) 3) with b:=c.b }:Cur) 4) with b:=c.b }:Cur)).Write,(zcB ({ (zV ({ (zV ({ (zcI ({ (zf ({ (zf ({ (zK ({ (zK ({ (zbh c) with b:=c.b }:Cur) 4 8) with b:=c.b }:Cur) 4 8) with b:=c.b }:Cur) 100) with b:=c.b }:Cur) 4) with b:=c.b }:Cur)) with b:=c.b }:Cur) 3) with b:=c.b }:Cur) 4) with b:=c.b }:Cur)).N,(zdH ({ (zgM ({ (zV ({ (zV ({ (zcI ({ (zf ({ (zf ({ (zK ({ (zK ({ (zbh c) with b:=c.b }:Cur) 4 8) with b:=c.b }:Cur) 4 8) with b:=c.b }:Cur) 100) with b:=c.b }:Cur) 4) with b:=c.b }:Cur)) with b:=c.b }:Cur) 3) with b:=c.b }:Cur) 4) with b:=c.b }:Cur)) with b:=c.b }:Cur) 12),c.b,[],[],[],[],(zcN (zcr c)).aw,(zeq ({ (zbh c) with b:=c.b }:Cur) 4 8),(zeq ({ (zK ({ (zbh c) with b:=c.b }:Cur) 4 8) with b:=c.b }:Cur) 4 8),t.2.2.2,())):Nat->Int×Int×Int×LI->_)
   (fun rec t i k l=>⟨_,rfl,fun a _=>⟨⟨_,_,_⟩,_,rfl,⟨rfl,zG _ _⟩,⟨⟨d.1,zGg (q (zk5 _)),zGg (q (zj2 _ _ _)),by unfold ln at a;dsimp only;omega⟩,by unfold ln at a;dsimp only;omega⟩⟩⟩)
 .exact zGv h (zcx _ _) (P:=fun _=>True) (q:=4) (by omega) (by omega) (fc:=fun c=>zC c 100) (fs:=fun c=>zf c 100) (fv:=fun c=>zx c 100) (fun h=>zbA h _) (fun c=>zG c _) (fun _=>trivial) (z:=0) (l0:=(zcN (zcr c)).aC) (qX 0) (by omega) (by simp) ((fun _ t=>(t.1,t.2.1,t.2.2.1,0,0,0,0,false,0,0,0,false,0,false,(zx ({ (zK ({ (zK ({ (zbh c) with b:=c.b }:Cur) 4 8) with b:=c.b }:Cur) 4 8) with b:=c.b }:Cur) 100),(zx ({ (zf ({ (zK ({ (zK ({ (zbh c) with b:=c.b }:Cur) 4 8) with b:=c.b }:Cur) 4 8) with b:=c.b }:Cur) 100) with b:=c.b }:Cur) 4),(zc1 ({ (zf ({ (zf ({ (zK ({ (zK ({ (zbh c) with b:=c.b }:Cur) 4 8) with b:=c.b }:Cur) 4 8) with b:=c.b }:Cur) 100) with b:=c.b }:Cur) 4) with b:=c.b }:Cur)).aq,(zc1 ({ (zf ({ (zf ({ (zK ({ (zK ({ (zbh c) with b:=c.b }:Cur) 4 8) with b:=c.b }:Cur) 4 8) with b:=c.b }:Cur) 100) with b:=c.b }:Cur) 4) with b:=c.b }:Cur)).Post,(zc1 ({ (zf ({ (zf ({ (zK ({ (zK ({ (zbh c) with b:=c.b }:Cur) 4 8) with b:=c.b }:Cur) 4 8) with b:=c.b }:Cur) 100) with b:=c.b }:Cur) 4) with b:=c.b }:Cur)).Open,(zcN (zcr c)).aj,(zcN (zcr c)).Exit.Kind,(zcN (zcr c)).Exit.af,(zcN (zcr c)).Exit.Write,(zcN (zcr c)).Exit.N,(zdH ({ (zV ({ (zV ({ (zcI ({ (zf ({ (zf ({ (zK ({ (zK ({ (zbh c) with b:=c.b }:Cur) 4 8) with b:=c.b }:Cur) 4 8) with b:=c.b }:Cur) 100) with b:=c.b }:Cur) 4) with b:=c.b }:Cur)) with b:=c.b }:Cur) 3) with b:=c.b }:Cur) 4) with b:=c.b }:Cur) 12),c.b,[],[],[],[],(zcN (zcr c)).aw,(zeq ({ (zbh c) with b:=c.b }:Cur) 4 8),(zeq ({ (zK ({ (zbh c) with b:=c.b }:Cur) 4 8) with b:=c.b }:Cur) 4 8),t.2.2.2,())):Nat->Int×Int×Int×LI->_)
   (fun rec t i k l=>⟨_,rfl,fun a _=>⟨⟨_,_,_⟩,_,rfl,⟨rfl,zG _ _⟩,⟨⟨d.1,zGg (q (zk5 _)),zGg (q (zj2 _ _ _)),by unfold ln at a;dsimp only;omega⟩,by unfold ln at a;dsimp only;omega⟩⟩⟩)
def zbcx:zdb:=[(338,[false,true,true],zyh)]++zbcw
def zL1:zce zbcx:=zcF zZP (by
 intro x a;simp only[qG,qN,or_false]at a;rcases a with rfl
 .exact zLr)
def zAY (N:Nat)(c:Cur)  : OA :=
 let e:=zbS c;let B:=({ (zfy c) with b:=c.b}:Cur);let f:=zf B 14;let j:=zx B 14;let d:=({f with b:=c.b}:Cur);let g:=ziC d 4 8;let p:=zbe d [-1,12,13,9223372036854775807]; (oN (zin c)<|oN (zC B 14)<|cond (ieq j 0) (oN (zlM d)<|some [.agg [.s .u8 c.b,.i .i64 (zlN d).i,.i .i64 (zlN d).h],aT .guest ({e with aw:=(zsd d)}:ah)])<|cond (ieq j 1) (oN (zbC d [-1,100])<|some [.agg [.s .u8 c.b,.i .i64 (zbe d [-1,100]).i,.i .i64 (zbe d [-1,100]).h],aT .guest ({e with A:=(zbu d [-1,100])}:ah)])<|cond (ieq j 2) (oN (zbC d [-1,12,13,9223372036854775807])<|some [.agg [.s .u8 c.b,.i .i64 p.i,.i .i64 p.h],aT .guest ({e with Pc:=(zbu d [-1,12,13,9223372036854775807])}:ah)])<|cond (ieq j 3) (oN (zg0 d 4 8)<|some [.agg [.s .u8 c.b,.i .i64 g.i,.i .i64 g.h],aT .guest ({e with ax:=(zgq d 4 8)}:ah)])<|cond (ieq j 4) (oN (zsf d)<|some [.agg [.s .u8 c.b,.i .i64 (zsg d).i,.i .i64 (zsg d).h],aT .guest ({e with Ctl:=(zB0 d)}:ah)])<|cond (ieq j 5) (oN (zm1 d)<|some [.agg [.s .u8 c.b,.i .i64 (zk7 d).i,.i .i64 (zk7 d).h],aT .guest ({e with aj:=(zqN d)}:ah)])<|cond (ieq j 6) (oN (zsh d)<|some [.agg [.s .u8 c.b,.i .i64 (zsi d).i,.i .i64 (zsi d).h],aT .guest ({e with Exit:=(zB2 d)}:ah)])<|cond (ieq j 7) (q0 (σ:=(Int×Int×Int×Int×Int×Int×Bool×Int×Int×Int×Bool×Int×Bool×Int×Int×Int×Int×Bool×Int×Int×Int×Bool×Int×Bool×LI×lI×lS×lS×LI×lI×lS×lS×LI×Unit)) N (λG a=>let y:=a.2.2.2.2.2.2.2.2.2.2.2.2.2.1;let x:=a.2.2.2.2.2.2.2.2.2.2.2.2.2.2.1;let w:=a.2.2.2.2.2.2.2.2.2.2.2.2.2.2.2.1;let v:=a.2.2.2.2.2.2.2.2.2.2.2.2.2.2.2.2.1;let u:=a.2.2.2.2.2.2.2.2.2.2.2.2.2.2.2.2.2.1;let t:=a.2.2.2.2.2.2.2.2.2.2.2.2.2.2.2.2.2.2.1;let r:=a.2.2.2.2.2.2.2.2.2.2.2.2.2.2.2.2.2.2.2.1;let q:=a.2.2.2.2.2.2.2.2.2.2.2.2.2.2.2.2.2.2.2.2.1;let n:=a.2.2.2.2.2.2.2.2.2.2.2.2.2.2.2.2.2.2.2.2.2.1;let m:=a.2.2.2.2.2.2.2.2.2.2.2.2.2.2.2.2.2.2.2.2.2.2.1;let l:=a.2.2.2.2.2.2.2.2.2.2.2.2.2.2.2.2.2.2.2.2.2.2.2.1;let F:=a.2.2.2.2.2.2.2.2.2.2.2.2.2.2.2.2.2.2.2.2.2.2.2.2.2.2.2.2.2.1;let E:=a.2.2.2.2.2.2.2.2.2.2.2.2.2.2.2.2.2.2.2.2.2.2.2.2.2.2.2.2.2.2.1;let D:=a.2.2.2.2.2.2.2.2.2.2.2.2.2.2.2.2.2.2.2.2.2.2.2.2.2.2.2.2.2.2.2.1;let C:=a.2.2.2.2.2.2.2.2.2.2.2.2.2.2.2.2.2.2.2.2.2.2.2.2.1;let z:=a.2.2.2.2.2.2.2.2.2.2.2.2.2.2.2.2.2.2.2.2.2.2.2.2.2.2.2.2.2.2.2.2.1;let k:=(⟨C,a.1,a.2.1⟩:Cur); (oN (zC k 3)<|cond (ilt (ln z)<|zM .i64 39<|zx k 3) (oN (few<|ln<|ap z [1])<|G ((zf k 3).i,(zf k 3).h,a.2.2.1,a.2.2.2.1,a.2.2.2.2.1,a.2.2.2.2.2.1,a.2.2.2.2.2.2.1,a.2.2.2.2.2.2.2.1,a.2.2.2.2.2.2.2.2.1,a.2.2.2.2.2.2.2.2.2.1,a.2.2.2.2.2.2.2.2.2.2.1,a.2.2.2.2.2.2.2.2.2.2.2.1,a.2.2.2.2.2.2.2.2.2.2.2.2.1,y,x,w,v,u,t,r,q,n,m,l,C,a.2.2.2.2.2.2.2.2.2.2.2.2.2.2.2.2.2.2.2.2.2.2.2.2.2.1,a.2.2.2.2.2.2.2.2.2.2.2.2.2.2.2.2.2.2.2.2.2.2.2.2.2.2.1,a.2.2.2.2.2.2.2.2.2.2.2.2.2.2.2.2.2.2.2.2.2.2.2.2.2.2.2.1,a.2.2.2.2.2.2.2.2.2.2.2.2.2.2.2.2.2.2.2.2.2.2.2.2.2.2.2.2.1,F,E,D,ap z [1],()))<|some [.agg [.s .u8 C,.i .i64 (zf k 3).i,.i .i64 (zf k 3).h],aT .guest (⟨F,y,x,E,D,⟨w,v,u⟩,t,⟨r,q,n,m⟩,l,z⟩:ah)])) (f.i,f.h,0,0,0,0,false,0,0,0,false,0,false,e.A,e.Pc,e.Ctl.aq,e.Ctl.Post,e.Ctl.Open,e.aj,e.Exit.Kind,e.Exit.af,e.Exit.Write,e.Exit.N,e.aF,c.b,[],[],[],[],e.aw,e.ar,e.ax,e.aC,()))<|cond (ieq j 8) (oN (zg0 d 4 8)<|some [.agg [.s .u8 c.b,.i .i64 g.i,.i .i64 g.h],aT .guest ({e with ar:=(zgq d 4 8)}:ah)])<|some [.agg [.s .u8 c.b,.i .i64 f.i,.i .i64 f.h],aT .guest e])
def z0X:=zo [(241,1,{n:=65,tm:=[(0,.lp 0 0),(2,.lp 1 0),(3,.lp 2 0)],lo:=[(0,[.sl 0 [],ti,ti]),(1,[.sl 1 [],ti,ti,.sl 2 [],.sl 3 [],ti,ti,.b,ti,ti,ti,.b,ti,.b,.sl 4 []]),(2,[.sl 5 [],ti,ti,.sl 6 [],.sl 7 [],ti,ti,.b,ti,ti,ti,.b,ti,.b,.sl 8 []])],ro:=[(0,.u8,false),(1,.ins,true),(2,.slot,true),(3,.slot,true),(4,.int,true),(5,.ins,true),(6,.slot,true),(7,.slot,true),(8,.int,true)]})]
def ztL (c:Cur)(s:Cur)(a:ah):Prop:=(∃N,zAY N c=some (AV.agg (zb5 s)::[aT .guest a]))/\(s.b=c.b/\0<=s.i)/\(GuS a)
def zoT (c:Cur)  : Bool:=wC (ztL c)
def zmy (c:Cur)  : Cur:=wS (ztL c)
def zs3 (c:Cur)  : ah:=wV (ztL c)
def zB3 {c:Cur}(h:zoT c=true):ztL c (zmy c) (zs3 c):=wG h
def zPR (c:Cur)  : 0<=(zmy c).i:=wP λh=>h.2.1.2
def z5K (c:Cur)(h:∃N,Ends (wE (λa=>aT .guest a) c.b λa=>GuS a)<|zAY N c):zoT c=true:=wI (λ_ _ h=>h) h
def zC3:zeD:=rP0 λc=>(zoT c,zmy c,[aT .guest<|zs3 c])
def zR1:zbU Tryz.prog 241 [false,true,true] zC3:=hP0 zKi zY zL1 zn z0X (λ_ h=>(zB3 h).1)
def zvi {c:Cur}(h:zbf c):zoT c=true:=by
 refine z5K c ⟨1002,?_⟩;unfold zAY oN;conv=>zeta
 have q:∀{s:Cur},0<=s.i->zbf {s with b:=c.b}:=λr=>zbI h r;have a:zbf {zf {zfy c with b:=c.b} 14 with b:=c.b}:=q (zG _ _);obtain⟨⟨d,e,f,g⟩,w⟩:=(zsl<|zp9 h).2.2;have p:(zgq {zf {zfy c with b:=c.b} 14 with b:=c.b} 4 8).length<=4:=by have:=((zr6<|zqZ a (n:=4) (by omega) (by omega) 8).2.2 (by omega) (by omega)).1;unfold ln at this;omega
 have j:=(zAM<|zUk a).2.2;refine zB (zp9 h) (zB (zbA (q<|zn1 _) _) (zbB (λ_=>zB (zUk a) (zbF (aT .guest) (v:={zbS c with aw:=zsd _}) (zTm _) ⟨j,e,f,g⟩))
  (λ_=>zbB (λ_=>zB (zfY a (by simp)) (zbF (aT .guest) (v:={zbS c with A:=zbu _ _}) (zb4 _ _) ⟨d,e,f,g⟩))
  (λ_=>zbB (λ_=>zB (zfY a (by simp)) (zbF (aT .guest) (v:={zbS c with Pc:=zbu _ _}) (zb4 _ _) ⟨d,e,f,g⟩))
  (λ_=>zbB (λ_=>zB (zqZ a (by omega) (by omega) _) (zbF (aT .guest) (v:={zbS c with ax:=zgq _ _ _}) (zr7 _ _ _) ⟨d,e,p,g⟩))
  (λ_=>zbB (λ_=>zB (z8X a) (zbF (aT .guest) (v:={zbS c with Ctl:=zB0 _}) (z5E _) ⟨d,e,f,g⟩))
  (λ_=>zbB (λ_=>zB (z8g a) (zbF (aT .guest) (v:={zbS c with aj:=zqN _}) (zJI _) ⟨d,e,f,g⟩))
  (λ_=>zbB (λ_=>zB (z6q a) (zbF (aT .guest) (v:={zbS c with Exit:=zB2 _}) (z5J _) ⟨d,e,f,g⟩))
  (λ_=>zbB (λ_=>?_)
  (λ_=>zbB (λ_=>zB (zqZ a (by omega) (by omega) _) (zbF (aT .guest) (v:={zbS c with ar:=zgq _ _ _}) (zr7 _ _ _) ⟨d,p,f,g⟩))
  (λ_=>zbF (aT .guest) (v:=zbS c) (zG _ _) ⟨d,e,f,g⟩)))))))))))
 exact z7j h (zG _ _) (m:=39) (q:=3) (x:=1) (by omega) (by omega) (by omega) (l0:=(zbS c).aC) (by unfold ln;omega) ((λ_ t=>(t.1,t.2.1,0,0,0,0,false,0,0,0,false,0,false,(zbS c).A,(zbS c).Pc,(zbS c).Ctl.aq,(zbS c).Ctl.Post,(zbS c).Ctl.Open,(zbS c).aj,(zbS c).Exit.Kind,(zbS c).Exit.af,(zbS c).Exit.Write,(zbS c).Exit.N,(zbS c).aF,c.b,[],[],[],[],(zbS c).aw,(zbS c).ar,(zbS c).ax,t.2.2,())):Nat->Int×Int×LI->_)
  (λrec i k l=>⟨_,rfl,λu=>⟨⟨_,_,_⟩,_,rfl,⟨rfl,zG _ _⟩,⟨d,e,f,by unfold ln at u;dsimp only;omega⟩⟩⟩)
def zbdL (b:List au)(e:au)(h:b.length<=1048576):(zBU b e).length<=6:=by have c:=(zw2 e h).2;unfold zBU;generalize ap (zel b e.Tag e.af) [e]=l at c;cases a:igt (ln l) 6 with|false=>have:¬ ln l>6:=qM a;rw[cF];unfold ln at this;omega|true=>rw[cT,zs7 (by unfold ln;omega) (by unfold ln;omega)];have:ln l>6:=qD a;simp only[dp,List.length_drop];unfold ln at *;omega
def zuC (N:Nat)(c:Cur)  : OA :=
 (q0 (σ:=(Int×Int×Int×lE×LI×Unit)) N (λl d=>let e:=d.2.2.2.2.1;let j:=(⟨e,d.2.1,d.2.2.1⟩:Cur);let a:=({ (zf j 9) with b:=e}:Cur);let g:=({ (zV a 8) with b:=e}:Cur);let f:=({ (zim g) with b:=e}:Cur);let k:=ap d.2.2.2.1 [zoR g,zoR f]; (oN (zC j 9)<|cond (ilt d.1<|zx j 9) (oN (zj3 a)<|oN (zii d.2.2.2.1<|zoR a)<|l (zM .i64 d.1 1,(zim a).i,(zim a).h,zhS d.2.2.2.1<|zoR a,e,()))<|oN (zdo a 8)<|cond (zdH a 8) (oN (zj3 g)<|oN (zj3 f)<|oN (few<|ln k)<|some [.agg [.s .u8 e,.i .i64 (zim f).i,.i .i64 (zim f).h],aS .entry k])<|some [.agg [.s .u8 e,.i .i64 (zV a 8).i,.i .i64 (zV a 8).h],aS .entry d.2.2.2.1])) (0,c.i,c.h,[],c.b,()))
def zQy:=zo [(220,0,{n:=26,tm:=[(0,.lp 0 0),(3,.sl 0 []),(4,ti)],lo:=[(0,[.sl 1 [],ti,ti])],ro:=[(0,.entry,true),(1,.u8,false)]})]
def zoQ (c:Cur)(s:Cur)(a:List au):Prop:=(∃N,zuC N c=some (AV.agg (zb5 s)::[aS .entry a]))/\(s.b=c.b/\0<=s.i)/\(a.length<=8)
def zmQ (c:Cur)  : Bool:=wC (zoQ c)
def zmR (c:Cur)  : Cur:=wS (zoQ c)
def ztF (c:Cur)  : List au:=wV (zoQ c)
def zDt {c:Cur}(h:zmQ c=true):zoQ c (zmR c) (ztF c):=wG h
def zWT (c:Cur)  : 0<=(zmR c).i:=wP λh=>h.2.1.2
def zWS (c:Cur)(h:∃N,Ends (wE (λa=>aS .entry a) c.b λa=>a.length<=8)<|zuC N c):zmQ c=true:=wI (λ_ _ h=>h) h
def zwZ:zeD:=rP0 λc=>(zmQ c,zmR c,[aS .entry<|ztF c])
def zHB:zbU Tryz.prog 220 [false,true,true] zwZ:=hP0 zKi zY zL1 zn zQy (λ_ h=>(zDt h).1)
def zXO {c:Cur}(h:zbf c):zmQ c=true:=by
 refine zWS c ⟨1002,?_⟩;unfold zuC oN;conv=>zeta
 refine zmH (λn s=>∃t i k l,s=(((λ_ t=>(t.1,t.2.1,t.2.2.1,t.2.2.2,c.b,())):Nat->Int×Int×Int×List au->_) 0 (t,i,k,l))/\t+(n:Int)=10/\0<=t/\0<=i/\l.length<=6) ?_ 1002 10 _ ⟨0,c.i,c.h,[],rfl,rfl,kQ 0,h.1,by simp⟩ (by omega);rintro n s rec ⟨t,i,k,l,rfl,p,g,j,r⟩ d;dsimp only;have a:zbf ⟨c.b,i,k⟩:=zbI h j;have v:=zgs a (n:=9) (by omega);have q:∀{s:Cur},0<=s.i->zbf {s with b:=c.b}:=λf=>zbI h f;refine zB (zbA a 9) (zbB (λe=>?_) λe=>?_);{have m:t<zx ⟨c.b,i,k⟩ 9:=qD e;have u:=zjC (y:=1) g (by omega) (by omega) (by omega);exact zB (zQQ<|q<|zG _ _) (zB (zba (by omega))<|d (n-1) _ (by omega) ⟨zM .i64 t 1,_,_,_,rfl,by omega,by omega,zxd _,zbdL _ _ (by omega)⟩)};{refine zB (zky (q<|zG _ _) 8) (zbB (λ_=>zB (zQQ<|q<|zcx _ _) (zB (zQQ<|q<|zxd _)<|zB (zkt ?_)<|zbF (aS .entry) (zxd _) ?_)) λ_=>zbF (aS .entry) (zcx _ _) (by omega));{simp only [ln,ap,kL,qY,k7];omega};{simp only [ap,kL,qY,k7];omega}}
def zbcy:zdb:=[(241,[false,true,true],zC3),(220,[false,true,true],zwZ)]++zbcx
def zZQ:zce zbcy:=zcF zL1 (by
 intro x a;simp only[qG,qN,or_false]at a;rcases a with rfl|rfl
 .exact zR1
 .exact zHB)
def z8E {l:List Mon}{m:Int}{x:Mon}(h:∀y∈l,ShM y)(b:ShM x):∀y∈up l m x,ShM y:=by intro y a;rcases jD a with a|rfl;{exact h y a};{exact b}
def zv4 (b:ai)(g:Int)(k:Bool)(x:ah):(chg b g k x).ac.length=b.ac.length:=by unfold chg;cases (cond (zbV b g) k false);{rfl};{exact zfB _ _ _}
def zJp (n:Int):∀(a:LI) (l:List ah),(zqK n a l).length=l.length
 |[],_=>rfl
 |k::a,l=>(zJp n a<|zGN n l k).trans (zyb _ _ _)
def z9Z (b:ai)(n:Int):(zmi b n).ac.length=b.ac.length:=by unfold zmi;cases ziw b n;{rfl};{unfold zGO;cases ieq (ln<|zft b.ac n) 0;{exact zJp _ _ _};{rfl}}
def zbdx (b:ai):(zns b).ac.length=b.ac.length:=by unfold zns;cases zcp b<;>rfl
def zUJ {h:ad}{m:Int}{b:ai}(e:Shape h)(d:j0 m (ln h.aa)=true)(g:zm7 b.ac)(c:b.ac.length=(ix h.aa m mZ).ac.length):Keep h (zcS h m b):=by obtain⟨f,a⟩:=zcv e d;exact⟨zhB e (zP7 f g) ⟨a.1,a.2.1,a.2.2.1,a.2.2.2.trans c.symm⟩,ztV d c,rfl⟩
def zme {h:ad}{m:Int}{b:ai}(d:Shape h)(e:zcm h m=true->SmB b)(f:b.ac.length=(zT h m).ac.length):Keep h (zgn h m b):=by unfold zgn;cases a:zcm h m;{exact Keep.rfl' d};{have c:=(zbr.1 a).2;exact zUJ d c (e a).2.1 (by rw[f,zzj c])}
def z4M {h:ad}{m g p:Int}(c:Shape h):Keep h (zi8 h m g p):=by have a:SmH (zi8 h m g p):=zU9 c.1;unfold zi8 at a ⊢;cases i:zcm h m;{exact Keep.rfl' c};{cases l:zcA (zT h m) g (j0 p 4);{exact Keep.rfl' c};{rw [i,l]at a;have e:=(zbr.1 i).2;have j:=zex c.1 e;have k:SmB (chg (zT h m) g (j0 p 4)<|ziQ (gAt (zT h m) g) p):=zhC j (zoX _<|zfz _ j);have f:Keep h (zcS h m<|chg (zT h m) g (j0 p 4)<|ziQ (gAt (zT h m) g) p):=zUJ c e k.2.1 (by rw[zv4,zzj e]);have b:=f.has e;obtain⟨n,d⟩:=zcv f.shape b;simp only[cT]at a ⊢;exact f.trans ⟨⟨a,z8E f.shape.2 ⟨d.1,d.2.1,d.2.2.1,by simpa using d.2.2.2⟩⟩,ztV b rfl,rfl⟩}}
def z7z {h:ad}{m p c v:Int}(f:Shape h):Keep h (zmb h m p c v):=by unfold zmb;cases d:zeI h m p c v;{exact Keep.rfl' f};{have i:zbP h m p=true:=(by unfold zeI at d;cases b:zbP h m p;{rw [b]at d;cases d};{rfl});obtain⟨j,e,b⟩:=zfC.1 i;have a:=zeX f.1 j;have g:Keep h (mended h m p 2):=⟨(zst a e b).1,zES<|zUI a e b,zUR _ _ _ _⟩;exact g.trans (zFz g.shape)}
def zPo {h:ad}{m g page need:Int}(a:zca h m g page need=true):zcy h m g=true:=by unfold zca at a;cases b:zcy h m g;{rw [b]at a;cases a};{rfl}
def z9V {h:ad}{m g a v:Int}(f:Shape h):Keep h (zom h m g a v):=by unfold zom;cases c:zi7 h m g a v;{exact Keep.rfl' f};{have j:zca h m g (zco a) 2=true:=(by unfold zi7 at c;cases d:zl a 0 15;{rw [d]at c;cases c};{cases e:zl v 0 99;{rw [d,e]at c;cases c};{rw [d,e]at c;exact c}});have i:=zua (b:=h.am) (page:=zco a) (need:=2) (io:=true) f.1 (zPo j);exact i.trans (zFz i.shape)}
def z7A {h:ad}{m g a:Int}(e:Shape h):Keep h (zmc h m g a):=by unfold zmc;cases c:zgR h m g a;{exact Keep.rfl' e};{have f:zca h m g (zco a) 1=true:=(by unfold zgR at c;cases d:zl a 0 15;{rw [d]at c;cases c};{rw [d]at c;exact c});exact zua (b:=h.am) (page:=zco a) (need:=1) (io:=true) e.1 (zPo f)}
def z9W {h:ad}{m p:Int}(a:Shape h):Keep h (zly h m p):=by unfold zly;cases c:zbP h m p;{exact Keep.rfl' a};{obtain⟨d,b,e⟩:=zfC.1 c;cases ziv h m p;{exact⟨zB7 a b,zES<|z3f b,congrArg List.length<|z3n h m p⟩};{exact Keep.rfl' a}}
def zbdw {h:ad}{m p:Int}(b:Shape h):Keep h (znK h m p):=by unfold znK;cases d:zbP h m p;{exact Keep.rfl' b};{obtain⟨e,c,f⟩:=zfC.1 d;have a:=zeX b.1 e;cases ziv h m p;{exact Keep.rfl' b};{exact⟨(zko a c f).1,zES<|zNH a c,zPr _ _ _⟩}}
def z4N {h:ad}{m p:Int}(e:Shape h):Keep h (znB h m p):=by unfold znB;cases g:zbP h m p;{exact Keep.rfl' e};{obtain⟨i,d,j⟩:=zfC.1 g;obtain⟨f,b⟩:=zcv e d;have c:Keep h (zm6 h m p):=⟨zhB e (zGd f) ⟨b.1,b.2.1,by simpa [zGm] using b.2.2.1,b.2.2.2⟩,ztV d rfl,rfl⟩;have a:=c.has d;generalize zdz (ix (ix h.aa m zi).ae p zX) A0=y;cases y;{exact c.trans ⟨zp5 a c.shape,zES<|zvo a,congrArg List.length (zgW _ _ _ _).2⟩};{exact c}}
def z4Q {h:ad}{m t:Int}(b:Shape h):Keep h (ziP h m t):=by unfold ziP;cases zbW h;{exact Keep.rfl' b};{cases d:j0 m (ln h.aa);{exact Keep.rfl' b};{cases zl t 0 3;{exact Keep.rfl' b};{obtain⟨a,c⟩:=zcv b d;exact⟨zhB b ⟨a.1,a.2.1,a.2.2.1,a.2.2.2.1,a.2.2.2.2.1,a.2.2.2.2.2⟩ ⟨c.1,c.2.1,c.2.2.1,c.2.2.2⟩,ztV d rfl,rfl⟩}}}
def zUq:∀(n j:Nat) (l:List aA),(zvm n j l).length=l.length
 | 0,_,_=>rfl
 |n+1,j,l=>(zUq n (j+1) _).trans (zfB _ _ _)
def zI3:∀(n i:Nat) (t:List Mon),i+n<=t.length->(∀x∈t,ShM x)->(∀x∈zmE n i t,ShM x)/\cnt (zmE n i t)=cnt t
 | 0,_,_,_,h=>⟨h,rfl⟩
 |n+1,i,t,f,h=>by have e:i<t.length:=(by omega);have d:j0 (i:Int) (ln t)=true:=qL (by simp only[ln];omega);have c:ShM (ix t (i:Int) mZ):=h _ (zbJ d _);obtain⟨a,b⟩:=zI3 n (i+1) (up t (i:Int)<|zq3 (ix t (i:Int) mZ) (ix t (i:Int) mZ).ak.length 0) (by rw[zfB];omega) (z8E h ⟨c.1,c.2.1,c.2.2.1,(zUq _ _ _).trans c.2.2.2⟩);exact⟨a,b.trans (ztV d rfl)⟩
def z7y {h:ad}(c:Shape h):Keep h (cold h):=by obtain⟨a,b⟩:=zI3 h.aa.length 0 h.aa (by omega) c.2;exact⟨⟨z0u c.1,a⟩,b,rfl⟩
def z9U {h:ad}{a:r0}(b:Shape h):Keep h (zck h a):=by have d:zcm h a.M=true->SmB (zT h a.M):=λc=>zex b.1 (zbr.1 c).2;unfold zck;cases zl a.Kind 1 17;{exact Keep.rfl' b};{cases zl a.Kind 13 17;{simp only [cT,cF];unfold zhh;cases ieq a.Kind 1;{cases ieq a.Kind 2;{cases ieq a.Kind 3;{cases ieq a.Kind 4;{cases ieq a.Kind 5;{cases ieq a.Kind 6;{cases ieq a.Kind 7;{cases ieq a.Kind 8;{cases ieq a.Kind 9;{cases ieq a.Kind 10;{cases ieq a.Kind 11;{exact z7A b};{exact z9V b}};{exact zme b (λc=>zGS (d c)) (zbdx _)}};{exact zme b (λc=>zB9 _ (d c)) (z9Z _ _)}};{exact z7z b}};{exact zme b (λc=>zGT _ _ (d c)) (zv4 _ _ _ _)}};{exact zme b (λc=>zvV _ _ (d c)) (zv4 _ _ _ _)}};{exact zme b (λc=>zvW _ (d c)) (zv4 _ _ _ _)}};{exact zme b (λc=>zvU _ _ (d c)) (zv4 _ _ _ _)}};{exact z4M b}};{exact zme b (λc=>zGU _ _ _ (d c)) (zv4 _ _ _ _)}};{show Keep h (zcO h a.M a.G).1;cases hg:zcy h a.M a.G;{rw [zjB hg];exact Keep.rfl' b};{exact zUK b.1 hg}}};{simp only [cT];unfold ziS;cases ieq a.Kind 13;{cases ieq a.Kind 14;{cases ieq a.Kind 15;{cases ieq a.Kind 16;{exact z7y b};{exact z4Q b}};{exact z4N b}};{exact zbdw b}};{exact z9W b}}}
def zZ2:∀(l:List r0) (u:ad×List aE),Shape u.1->Keep u.1 (zL7 l u).1/\(zL7 l u).2.length=u.2.length+l.length
 |[],u,h=>⟨Keep.rfl' h,rfl⟩
 |a::l,u,h=>by have k:=z9U (a:=a) h;obtain⟨b,c⟩:=zZ2 l (zck u.1 a,ap u.2 [zcW u.1 a]) k.shape;refine⟨k.trans b,?_⟩;rw[zL7,c];simp[ap];omega
def z8D {b:List (List<|List Ins)}(h:zGq b):Shape (zhs b):=by refine⟨z3C h,λx a=>?_⟩;simp only[zhs,jH]at a;obtain⟨p,c,rfl⟩:=a;exact⟨rfl,rfl,rfl,by simp[zlw]⟩
structure LiveS (h:ad):Prop where
 sm:SmH h
 n1:1<=h.aa.length
 n3:h.aa.length<=3
 mons:∀x∈h.aa,ShM x/\1<=x.ac.length/\x.ac.length<=2
def z92 {h:ad}(L:z3T h):LiveS h:=by obtain⟨a,l,g,f,rfl⟩:=L;obtain⟨k,_⟩:=zZ2 (l.take 80) (zhs a,[]) (z8D g);have b:(zBB a l).1.aa.length=(zhs a).aa.length:=z2W k.cnt;have d:(zhs a).aa.length=min 3 a.length:=(by simp[zhs]);have hg:∀n∈cnt (zhs a).aa,1<=n/\n<=2:=(by intro n b;obtain⟨x,c,rfl⟩:=jH.1 b;obtain⟨p,j,rfl⟩:=jH.1 c;have:=(f.2 p<|j8 j).1;have e:(zlw p).ac.length=min 2 p.length:=(by simp[zlw]);rw[e];omega);have i:=f.1;refine⟨k.shape.1,by rw[b,d];omega,by rw[b,d];omega,λx c=>⟨k.shape.2 x c,?_⟩⟩;refine hg _ ?_;rw[<- k.cnt];exact jH.2 ⟨x,c,rfl⟩
structure MonS (x:Mon):Prop where
 sm:zfJ x
 g1:1<=x.ac.length
 g2:x.ac.length<=2
 t2:x.ak.length<=2
 o8:x.ae.length<=8
structure AnyH (h:ad):Prop where
 mem:SmM h.ag
 n1:1<=h.aa.length
 n3:h.aa.length<=3
 mons:∀x∈h.aa,MonS x
 b1:h.ao.length<=1048576
 b2:h.am.length<=1048576
def AnyH.sm {h:ad}(k:AnyH h):SmH h:=⟨k.mem,⟨qT k.n3 (by decide),λx a=>(k.mons x a).sm⟩,k.b1,k.b2⟩
def z90 {h:ad}(S:LiveS h):AnyH h :=
 ⟨S.sm.1,S.n1,S.n3,λx b=>by
  obtain⟨k,c,a⟩:=S.mons x b;exact⟨S.sm.2.1.2 x b,c,a,by rw[k.2.2.2];exact a,by rw[k.1];exact qX 8⟩,S.sm.2.2.1,S.sm.2.2.2⟩
def zzM {h:ad}(k:AnyH h)(i:Int){x:Mon}(b:MonS x):AnyH {h with aa:=up h.aa i x} :=
 ⟨k.mem,by rw[zkw];exact k.n1,by rw[zkw];exact k.n3,λy a=>by
  rcases jD a with a|rfl
  .exact k.mons y a
  .exact b,k.b1,k.b2⟩
def zP2 {g:ah}(h:GuS g):SmG g:=⟨qT h.1 (by decide),qT h.2.1 (by decide),qT h.2.2.1 (by decide),qT h.2.2.2 (by decide)⟩
def z0t {l:List ah}(h:zm7 l)(i:Int){g:ah}(hg:SmG g):zm7 (up l i g):=
 ⟨by rw[zkw];exact h.1,λy a=>by
  rcases jD a with a|rfl
  .exact h.2 y a
  .exact hg⟩
def zbd0 {l:List LI}(h:SmM l)(i:Int){g:LI}(hg:g.length<=1048576):SmM (up l i g):=
 ⟨by rw[zkw];exact h.1,λy a=>by
  rcases jD a with a|rfl
  .exact h.2 y a
  .exact hg⟩
def zA1 (N:Nat)(c:Cur)  : OA :=
 let j:=zup c;let r:=({ (zk9 c) with b:=c.b}:Cur);let f:=j.aa;let k:=zx r<|ln f;let m:=inb k<|ln f;let g:=ix f k zi;let q:=({ (zf r<|ln f) with b:=c.b}:Cur);let e:=zf q 24;let l:=zx q 24;let a:=({e with b:=c.b}:Cur);let n:=zbe a [-1,1000000000,1000000001];let p:=({ (zf a 8) with b:=c.b}:Cur); (oN (zpu c)<|oN (zC r<|ln f)<|oN (zC q 24)<|cond (ieq l 0) (oN (zg0 a 8 12)<|oN m<|p0 (up f k ({g with ae:=(zgq a 8 12)}:Mon)) λd=>some [.agg [.s .u8 c.b,.i .i64 (ziC a 8 12).i,.i .i64 (ziC a 8 12).h],aH ({j with aa:=d}:ad)])<|cond (ieq l 1) (oN m<|oN (zC a 8)<|oN (znX p)<|oN (inb (zx a 8)<|ln g.Out)<|p0 (up f k ({g with Out:=(up g.Out (zx a 8)<|zvN p)}:Mon)) λd=>some [.agg [.s .u8 c.b,.i .i64 (znY p).i,.i .i64 (znY p).h],aH ({j with aa:=d}:ad)])<|cond (ieq l 2) (oN m<|oN (zoT a)<|oN (inb 0<|ln g.ac)<|p0 (up f k ({g with ac:=(up g.ac 0<|zs3 a)}:Mon)) λd=>some [.agg [.s .u8 c.b,.i .i64 (zmy a).i,.i .i64 (zmy a).h],aH ({j with aa:=d}:ad)])<|cond (ieq l 3) (oN m<|p0 (up f k ({g with ak:=[]}:Mon)) λd=>some [.agg [.s .u8 c.b,.i .i64 e.i,.i .i64 e.h],aH ({j with aa:=d}:ad)])<|cond (ieq l 4) (oN (zmQ a)<|some [.agg [.s .u8 c.b,.i .i64 (zmR a).i,.i .i64 (zmR a).h],aH ({j with ao:=(ztF a)}:ad)])<|cond (ieq l 5) (oN (znZ a)<|oN m<|p0 (up f k ({g with aq:=(zvP a)}:Mon)) λd=>some [.agg [.s .u8 c.b,.i .i64 (zn0 a).i,.i .i64 (zn0 a).h],aH ({j with aa:=d}:ad)])<|cond (ieq l 6) (oN (zbC a [-1,1000000000,1000000001])<|oN m<|p0 (up f k ({g with Own:=(zbu a [-1,1000000000,1000000001])}:Mon)) λd=>some [.agg [.s .u8 c.b,.i .i64 n.i,.i .i64 n.h],aH ({j with aa:=d}:ad)])<|cond (ieq l 7) (oN (zoP a)<|some [.agg [.s .u8 c.b,.i .i64 (zhW a).i,.i .i64 (zhW a).h],aH ({j with ag:=(znW a)}:ad)])<|some [.agg [.s .u8 c.b,.i .i64 e.i,.i .i64 e.h],aH j])
def ztO (c:Cur)(s:Cur)(a:ad):Prop:=(∃N,zA1 N c=some (AV.agg (zb5 s)::[aH a]))/\(s.b=c.b/\0<=s.i)/\(AnyH a)
def zoW (c:Cur)  : Bool:=wC (ztO c)
def zsp (c:Cur)  : Cur:=wS (ztO c)
def zB5 (c:Cur)  : ad:=wV (ztO c)
def zPU {c:Cur}(h:zoW c=true):ztO c (zsp c) (zB5 c):=wG h
def z5Q (c:Cur)  : 0<=(zsp c).i:=wP λh=>h.2.1.2
def z5P (c:Cur)(h:∃N,Ends (wE (λa=>aH a) c.b λa=>AnyH a)<|zA1 N c):zoW c=true:=wI (λ_ _ h=>h) h
def zC6:zeD:=rP0 λc=>(zoW c,zsp c,[aH<|zB5 c])
def zR4:zbU Tryz.prog 105 [false,true,true] zC6:=hP0 zxD zY zZQ zn (zo []) (λ_ h=>(zPU h).1)
def z7v {c:Cur}(h:zbf c):zoW c=true:=by
 refine z5P c ⟨0,?_⟩;unfold zA1 oN;conv=>zeta
 have S:=z92 (zJK<|z7w h).2.2;have A:=z90 S;have q:∀{s:Cur},0<=s.i->zbf {s with b:=c.b}:=λy=>zbI h y;have w:zbf {zk9 c with b:=c.b}:=q (z2r _);have l:0<ln (zup c).aa:=by have:=A.n1;unfold ln;omega
 have a:=zxz w l (kQ _);have u:=zbJ a zi;generalize B:zup c=H at *;generalize zx {zk9 c with b:=c.b} (ln H.aa)=m at *;have M:=A.mons _ u;have x:=(S.mons _ u).1;generalize C:ix H.aa m zi=X at *;obtain⟨p,e,f,j,k,t⟩:=M.sm;have d:∀{n},zbf {zf {zf {zk9 c with b:=c.b} n with b:=c.b} 24 with b:=c.b}:=λ{n}=>q (zG _ _);refine zB (z7w h) (zB (zbA w _) (zB (zbA (q<|zG _ _) 24)
  (zbB (λ_=>zB (zqZ d (by omega) (by omega) _) (zB a<|zlm<|zbF aH (v:={H with aa:=up H.aa m {X with ae:=zgq _ _ _}}) (zr7 _ _ _)<|zzM A m ?_))
  (λ_=>zbB (λ_=>zB a (zB (zbA d 8)<|zB (z2U<|q<|zG _ _)<|zB (zxz d (by omega) ?_)<|zlm<|zbF aH (v:={H with aa:=up H.aa m {X with Out:=up X.Out _ (zvN _)}}) (zZ8 _)<|zzM A m ?_))
  (λ_=>zbB (λ_=>zB a (zB (zvi d)<|zB ?_<|zlm<|zbF aH (v:={H with aa:=up H.aa m {X with ac:=up X.ac 0 (zs3 _)}}) (zPR _)<|zzM A m ?_))
  (λ_=>zbB (λ_=>zB a (zlm<|zbF aH (v:={H with aa:=up H.aa m {X with ak:=[]}}) (zG _ _)<|zzM A m ?_))
  (λ_=>zbB (λ_=>zB (zXO d) (zbF aH (v:={H with ao:=ztF _}) (zWT _) ⟨A.mem,A.n1,A.n3,A.mons,qT (zDt<|zXO d).2.2 (by decide),A.b2⟩))
  (λ_=>zbB (λ_=>zB (zbd4 d) (zB a<|zlm<|zbF aH (v:={H with aa:=up H.aa m {X with aq:=zvP _}}) (z0d _)<|zzM A m ?_))
  (λ_=>zbB (λ_=>zB (zfY d (by simp)) (zB a<|zlm<|zbF aH (v:={H with aa:=up H.aa m {X with Own:=zbu _ _}}) (zb4 _ _)<|zzM A m ?_))
  (λ_=>zbB (λ_=>zB (zBF d) (zbF aH (v:={H with ag:=znW _}) (zPO _) ⟨?_,A.n1,A.n3,A.mons,A.b1,A.b2⟩))
  (λ_=>zbF aH (v:=H) (zG _ _) A)))))))))))
 {have g:=(zr6<|zqZ (d (n:=ln H.aa)) (n:=8) (by omega) (by omega) 12).2.2 (by omega) (by omega);refine⟨⟨?_,e,f,j,k,t⟩,M.g1,M.g2,M.t2,?_⟩;{have:=g.1;unfold ln at this;exact qT (m:=8) (by exact Int.ofNat_le.1 this) (by decide)};{have:=g.1;unfold ln at this;exact Int.ofNat_le.1 this}};{unfold ln;rw[x.2.1];decide};{exact⟨⟨p,zbd0 e _<|qT (zF6<|z2U<|q<|zG _ _).2.2 (by decide),f,j,k,t⟩,M.g1,M.g2,M.t2,M.o8⟩};{exact qL (by have:=M.g1;unfold ln;omega)};{exact⟨⟨p,e,f,z0t j 0<|zP2 (zB3<|zvi d).2.2,k,t⟩,by rw[zkw];exact M.g1,by rw[zkw];exact M.g2,M.t2,M.o8⟩};{exact⟨⟨p,e,f,j,k,⟨by simp,by simp⟩⟩,M.g1,M.g2,by simp,M.o8⟩};{exact⟨⟨p,e,f,j,k,t⟩,M.g1,M.g2,M.t2,M.o8⟩};{exact⟨⟨p,e,f,j,k,t⟩,M.g1,M.g2,M.t2,M.o8⟩};{have g:=(zBY<|zBF<|d (n:=ln H.aa)).2.2;exact⟨qT g.1 (by decide),λr z=>qT (g.2 r z) (by decide)⟩}
def zbcz:zdb:=[(105,[false,true,true],zC6)]++zbcy
def zbaq:zce zbcz:=zcF zZQ (by
 intro x a;simp only[qG,qN,or_false]at a;rcases a with rfl
 .exact zR4)
def zEE (N:Nat)(c:Cur)  : OA :=
 let a:=zbe c [0,0,0,1,1,2,-1,9223372036854775807]; (oN (zbC c [0,0,0,1,1,2,-1,9223372036854775807])<|some [.agg [.s .u8 c.b,.i .i64 a.i,.i .i64 a.h],aI<|zbu c [0,0,0,1,1,2,-1,9223372036854775807]])
def zvR (c:Cur)(s:Cur)(a:Int):Prop:=(∃N,zEE N c=some (AV.agg (zb5 s)::[aI a]))/\(s.b=c.b/\0<=s.i)/\(True)
def zun (c:Cur)  : Bool:=wC (zvR c)
def zuo (c:Cur)  : Cur:=wS (zvR c)
def zGP (c:Cur)  : Int:=wV (zvR c)
def z8u {c:Cur}(h:zun c=true):zvR c (zuo c) (zGP c):=wG h
def z8w (c:Cur)  : 0<=(zuo c).i:=wP λh=>h.2.1.2
def z8v (c:Cur)(h:∃N,Ends (wE (λa=>aI a) c.b λa=>True)<|zEE N c):zun c=true:=wI (λ_ _ h=>h) h
def zw1:zeD:=rP0 λc=>(zun c,zuo c,[aI<|zGP c])
def zCR:zbU Tryz.prog 199 [false,true,true] zw1:=hP0 zxD zY zBR zn (zo []) (λ_ h=>(z8u h).1)
def at_t {c:Cur}(h:zbf c):zun c=true:=by
 refine z8v c ⟨0,?_⟩;unfold zEE oN;conv=>zeta
 exact zB (zfY h (by simp)) (zbF aI (zb4 _ _) trivial)
def zbfH:zdb:=[(199,[false,true,true],zw1)]++z5s
def zbao:zce zbfH:=zcF zBR (by
 intro x a;simp only[qG,qN,or_false]at a;rcases a with rfl
 .exact zCR)
def zA4 (N:Nat)(c:Cur)  : OA :=
 let a:=zc5 c;let e:=({ (zdq c) with b:=c.b}:Cur);let f:=zx e 10;let d:=({ (zf e 10) with b:=c.b}:Cur);let g:=zbe d [-1,4,8,16,100,9223372036854775807]; (oN (zkN c)<|oN (zC e 10)<|cond (ieq f 0) (oN (zC d 20)<|some [.agg [.s .u8 c.b,.i .i64 (zf d 20).i,.i .i64 (zf d 20).h],.agg [.i .i64<|wsub .i64 (zx d 20) 1,.i .i64 a.M,.i .i64 a.G,.i .i64 a.X,.i .i64 a.Y,.i .i64 a.Z]])<|cond (ieq f 1) (oN (zun d)<|some [.agg [.s .u8 c.b,.i .i64 (zuo d).i,.i .i64 (zuo d).h],.agg [.i .i64 a.Kind,.i .i64<|zGP d,.i .i64 a.G,.i .i64 a.X,.i .i64 a.Y,.i .i64 a.Z]])<|cond (ieq f 2) (oN (zbC d [-1,4,8,16,100,9223372036854775807])<|some [.agg [.s .u8 c.b,.i .i64 g.i,.i .i64 g.h],.agg [.i .i64 a.Kind,.i .i64 a.M,.i .i64 a.G,.i .i64<|zbu d [-1,4,8,16,100,9223372036854775807],.i .i64 a.Y,.i .i64 a.Z]])<|cond (ieq f 3) (oN (zbC d [-1,0,1,4])<|some [.agg [.s .u8 c.b,.i .i64 (zbe d [-1,0,1,4]).i,.i .i64 (zbe d [-1,0,1,4]).h],.agg [.i .i64 a.Kind,.i .i64 a.M,.i .i64 a.G,.i .i64 a.X,.i .i64 a.Y,.i .i64<|zbu d [-1,0,1,4]]])<|some [.agg [.s .u8 c.b,.i .i64 (zf e 10).i,.i .i64 (zf e 10).h],.agg [.i .i64 a.Kind,.i .i64 a.M,.i .i64 a.G,.i .i64 a.X,.i .i64 a.Y,.i .i64 a.Z]])
def ztQ (c:Cur)(s:Cur)(a:r0):Prop:=(∃N,zA4 N c=some (AV.agg (zb5 s)::[aT .act a]))/\(s.b=c.b/\0<=s.i)/\(True)
def zh2 (c:Cur)  : Bool:=wC (ztQ c)
def zPW (c:Cur)  : Cur:=wS (ztQ c)
def zn3 (c:Cur)  : r0:=wV (ztQ c)
def z5T {c:Cur}(h:zh2 c=true):ztQ c (zPW c) (zn3 c):=wG h
def z5U (c:Cur)(h:∃N,Ends (wE (λa=>aT .act a) c.b λa=>True)<|zA4 N c):zh2 c=true:=wI (λ_ _ h=>h) h
def zC8:zeD:=rP0 λc=>(zh2 c,zPW c,[aT .act<|zn3 c])
def zR9:zbU Tryz.prog 123 [false,true,true] zC8:=hP0 zxD zY zbao zn (zo []) (λ_ h=>(z5T h).1)
def z3V {c:Cur}(h:zbf c):zh2 c=true:=by
 refine z5U c ⟨0,?_⟩;have d:zbf {zdq c with b:=c.b}:=zbI h (zPV _);have a:zbf {zf {zdq c with b:=c.b} 10 with b:=c.b}:=zbI h (zG _ _);unfold zA4 oN;conv=>zeta
 exact zB (zbaS h) (zB (zbA d _) (zbB (λ_=>zB (zbA a _) (zbF (aT .act) (v:=⟨wsub .i64 (zx {zf {zdq c with b:=c.b} 10 with b:=c.b} 20) 1,(zc5 c).M,(zc5 c).G,(zc5 c).X,(zc5 c).Y,(zc5 c).Z⟩) (zG {zf {zdq c with b:=c.b} 10 with b:=c.b} 20) trivial))
  (λ_=>zbB (λ_=>zB (at_t a) (zbF (aT .act) (v:=⟨(zc5 c).Kind,zGP {zf {zdq c with b:=c.b} 10 with b:=c.b},(zc5 c).G,(zc5 c).X,(zc5 c).Y,(zc5 c).Z⟩) (z8w {zf {zdq c with b:=c.b} 10 with b:=c.b}) trivial))
  (λ_=>zbB (λ_=>zB (zfY a (by simp)) (zbF (aT .act) (v:=⟨(zc5 c).Kind,(zc5 c).M,(zc5 c).G,zbu {zf {zdq c with b:=c.b} 10 with b:=c.b} [-1,4,8,16,100,9223372036854775807],(zc5 c).Y,(zc5 c).Z⟩) (zb4 {zf {zdq c with b:=c.b} 10 with b:=c.b} [-1,4,8,16,100,9223372036854775807]) trivial))
  (λ_=>zbB (λ_=>zB (zfY a (by simp)) (zbF (aT .act) (v:=⟨(zc5 c).Kind,(zc5 c).M,(zc5 c).G,(zc5 c).X,(zc5 c).Y,zbu {zf {zdq c with b:=c.b} 10 with b:=c.b} [-1,0,1,4]⟩) (zb4 {zf {zdq c with b:=c.b} 10 with b:=c.b} [-1,0,1,4]) trivial))
  (λ_=>zbF (aT .act) (v:=zc5 c) (zG {zdq c with b:=c.b} 10) trivial))))))
def zbcA:zdb:=[(199,[false,true,true],zw1),(123,[false,true,true],zC8)]++zbcz
def zwW:zce zbcA:=zcF zbaq (by
 intro x a;simp only[qG,qN,or_false]at a;rcases a with rfl|rfl
 .exact zCR
 .exact zR9)
def zbbt:zbb:=[(31,ziK)]++z6E
def zBg:zN zbbt:=zh zra zxD
def zxA {a:LI}(h:a.length<=big){G:Ans->Prop}{N:Nat}(l:a.length<N){g:Int}{R:Int->OA}{d:Type}(S:Int->Int->d){F:(d->OA)->d->OA}(k:∀rec i t,F rec (S i t)=bif ilt i (ln a) then (cond (ilt i 4000) (cond (inb i<|ln a) (rec<|S (zM .i64 i 1)<|wand .i64 (zM .i64 (zM .i64 (zm8 .i64 t 131)<|wcv .i64<|ix a i 0) 7) 1073741823) none)<|R t) else R t)(e:∀t,zbf ⟨a,0,t⟩->Ends G (R t)):Ends G (q0 N F<|S 0 g):=by refine zmH (λn s=>∃(i:Nat) (t:Int),s=S (i:Int) t/\i+n=a.length) ?_ N a.length _ ⟨0,g,rfl,by omega⟩ l;rintro n s rec ⟨i,t,rfl,p⟩ b;rw[k];have f:zbf ⟨a,0,t⟩:=⟨kQ 0,h⟩;refine zbB (λj=>zbB (λm=>?_) λ_=>e t f) (λ_=>e t f);have c:(i:Int)<ln a:=qD j;unfold ln at c;rw[zbj (show i<a.length by omega) h];exact zB (qL ⟨by omega,by unfold ln;omega⟩) (b (n-1) _ (by omega) ⟨i+1,_,rfl,by omega⟩)
def q_of {b:LI}(h:b.length<=big){s:Cur}(a:0<=s.i):zbf {s with b:=b}:=⟨a,h⟩
def zbbu:zbb:=zbbt
def z9E:zN zbbu:=zBg
def zbbv:zbb:=zbbu
def z9F:zN zbbv:=z9E
def z4f:zbb:=zbbv
def zBh:zN z4f:=z9F
def zna (N:Nat)(g:LI):OA:=
 (q0 (σ:=(Int×Int×Int×Int×Int×Int×Int×Int×LI×lM×lN×lE×lE×Unit)) N (λh a=>let g:=a.2.2.2.2.2.2;let d:=g.2.2.1;let e:=(⟨d,0,a.1⟩:Cur);let f:=({ (zsp e) with b:=d}:Cur);let c:=zn3 f; (cond (ilt a.2.1<|ln d) (cond (ilt a.2.1 4000) (oN (inb a.2.1<|ln d)<|h (wand .i64 (zM .i64 (zM .i64 (zm8 .i64 a.1 131)<|wcv .i64<|ix d a.2.1 0) 7) 1073741823,zM .i64 a.2.1 1,a.2.2.1,a.2.2.2.1,a.2.2.2.2.1,a.2.2.2.2.2.1,g.1,g.2.1,d,g.2.2.2.1,g.2.2.2.2.1,g.2.2.2.2.2.1,g.2.2.2.2.2.2.1,()))<|oN (zoW e)<|oN (zh2 f)<|some [aH<|zB5 e,.agg [.i .i64 c.Kind,.i .i64 c.M,.i .i64 c.G,.i .i64 c.X,.i .i64 c.Y,.i .i64 c.Z]])<|oN (zoW e)<|oN (zh2 f)<|some [aH<|zB5 e,.agg [.i .i64 c.Kind,.i .i64 c.M,.i .i64 c.G,.i .i64 c.X,.i .i64 c.Y,.i .i64 c.Z]])) (zM .i64 94701<|ln g,0,0,0,0,0,0,0,g,[],[],[],[],()))
def zH3:=zo [(100,0,{n:=32,tm:=[(0,.sl 0 []),(3,ti),(4,ti)],lo:=[(0,[.sl 1 [],.sl 2 [],.sl 3 [],.sl 4 []]),(1,[ti,ti,ti,ti,ti,ti])],ro:=[(0,.u8,false),(1,.sl .int,true),(2,.mon,true),(3,.entry,true),(4,.entry,true)],sk:=[(0,2,0,.lp 0 0),(0,3,0,.lp 1 0)]})]
def zqm (b:LI)(a:ad)(c:r0):Prop:=(∃N,zna N b=some [aH a,aT .act c])/\(AnyH a)
def ziA (a:LI):Bool:=uC (T:=ad×r0) (λr=>zqm a r.1 r.2)
def zyy (a:LI):ad×r0:=uV (λr=>zqm a r.1 r.2)
def zkE (a:LI):ad:=(zyy a).1
def zkF (a:LI):r0:=(zyy a).2
def zyx {a:LI}(h:ziA a=true):zqm a (zkE a) (zkF a):=uG h
def zPI (d:LI)(h:∃N,Ends (λa=>∃b c,a=[aH b,aT .act c]/\(AnyH b))<|zna N d):ziA d=true:=by obtain⟨N,a,e,b,c,rfl,h⟩:=h;exact zba ⟨(b,c),⟨N,e⟩,h⟩
def zvd:Run:=rF1 (dS .u8) λb=>(ziA b,[aH<|zkE b,aT .act<|zkF b])
def zHH (a:LI)(b:ziA a=true):∃N,zna N a=some [aH<|zkE a,aT .act<|zkF a]:=by exact(zyx b).1
def zDC:vP 29 zvd:=kF1 zBh zY zwW zn zH3 zHH
def zCN {a:LI}(h:a.length<=big):ziA a=true:=by
 refine zPI a (zcf λN c=>?_);unfold zna oN;conv=>zeta
 refine zxA h (c h) ((λi t=>(t,(i:Int),0,0,0,0,0,0,a,[],[],[],[],())):Int->Int->_) (λrec i t=>by dsimp only) (λt d=>?_);exact zB (z7v d) (zB (z3V<|q_of h<|z5Q _) ⟨_,rfl,_,zn3 {zsp ⟨a,0,t⟩ with b:=a},rfl,(zPU<|z7v d).2.2⟩)
def zbfu:zbb:=z4f
def zXY:zN zbfu:=zBh
def zpA (N:Nat)(e:LI):OA:=
 (q0 (σ:=(Int×Int×Int×Int×Int×Int×Int×Int×LI×Unit)) N (λf a=>let e:=a.2.2.2.2;let c:=e.2.2.2.2.1;let d:=(⟨c,0,a.1⟩:Cur);let b:=zn3 d; (cond (ilt a.2.1<|ln c) (cond (ilt a.2.1 4000) (oN (inb a.2.1<|ln c)<|f (wand .i64 (zM .i64 (zM .i64 (zm8 .i64 a.1 131)<|wcv .i64<|ix c a.2.1 0) 7) 1073741823,zM .i64 a.2.1 1,a.2.2.1,a.2.2.2.1,e.1,e.2.1,e.2.2.1,e.2.2.2.1,c,()))<|oN (zh2 d)<|some [.agg [.i .i64 b.Kind,.i .i64 b.M,.i .i64 b.G,.i .i64 b.X,.i .i64 b.Y,.i .i64 b.Z]])<|oN (zh2 d)<|some [.agg [.i .i64 b.Kind,.i .i64 b.M,.i .i64 b.G,.i .i64 b.X,.i .i64 b.Y,.i .i64 b.Z]])) (zM .i64 94701<|ln e,0,0,0,0,0,0,0,e,()))
def zQs:=zo [(100,0,{n:=32,tm:=[(0,.sl 0 []),(3,ti),(4,ti)],lo:=[(0,[ti,ti,ti,ti,ti,ti])],ro:=[(0,.u8,false)],sk:=[(0,2,0,.lp 0 0)]})]
def zsY (a:LI)(b:r0):Prop:=(∃N,zpA N a=some [aT .act b])/\(True)
def zkn (a:LI):Bool:=uC (T:=r0) (λr=>zsY a r)
def zWO (a:LI):r0:=uV (λr=>zsY a r)
def zpm (a:LI):r0:=(zWO a)
def zWM {a:LI}(h:zkn a=true):zsY a (zpm a):=uG h
def zWN (c:LI)(h:∃N,Ends (λa=>∃b,a=[aT .act b]/\(True))<|zpA N c):zkn c=true:=by obtain⟨N,a,e,b,rfl,h⟩:=h;exact zba ⟨b,⟨N,e⟩,h⟩
def zys:Run:=rF1 (dS .u8) λb=>(zkn b,[aT .act<|zpm b])
def zPb (a:LI)(b:zkn a=true):∃N,zpA N a=some [aT .act<|zpm a]:=by exact(zWM b).1
def zHj:vP 35 zys:=kF1 zXY zY zwW zn zQs zPb
def z1m {a:LI}(h:a.length<=big):zkn a=true:=by
 refine zWN a (zcf λN b=>?_);unfold zpA oN;conv=>zeta
 refine zxA h (b h) ((λi t=>(t,(i:Int),0,0,0,0,0,0,a,())):Int->Int->_) (λrec i t=>by dsimp only) (λt c=>?_);exact zB (z3V c) ⟨_,rfl,zn3 ⟨a,0,t⟩,rfl,trivial⟩
def znb (N:Nat)(c:LI):OA:=
 (q0 (σ:=(Int×Int×LI×Unit)) N (λe a=>let b:=(⟨a.2.2.1,0,a.1⟩:Cur);let d:=aI<|wsub .i64 (zx b 20) 1; (cond (ilt a.2.1<|ln a.2.2.1) (cond (ilt a.2.1 4000) (oN (inb a.2.1<|ln a.2.2.1)<|e (wand .i64 (zM .i64 (zM .i64 (zm8 .i64 a.1 131)<|wcv .i64<|ix a.2.2.1 a.2.1 0) 7) 1073741823,zM .i64 a.2.1 1,a.2.2.1,()))<|oN (zC b 20)<|some [d])<|oN (zC b 20)<|some [d])) (zM .i64 94701<|ln c,0,c,()))
def zH4:=zo [(100,0,{n:=32,tm:=[(0,.sl 0 []),(3,ti),(4,ti)],lo:=[],ro:=[(0,.u8,false)]})]
def zqn (a:LI)(b:Int):Prop:=(∃N,znb N a=some [aI b])/\(True)
def ziB (a:LI):Bool:=uC (T:=Int) (λr=>zqn a r)
def zPL (a:LI):Int:=uV (λr=>zqn a r)
def zha (a:LI):Int:=(zPL a)
def zPJ {a:LI}(h:ziB a=true):zqn a (zha a):=uG h
def zPK (c:LI)(h:∃N,Ends (λa=>∃b,a=[aI b]/\(True))<|znb N c):ziB c=true:=by obtain⟨N,a,e,b,rfl,h⟩:=h;exact zba ⟨b,⟨N,e⟩,h⟩
def zve:Run:=rF1 (dS .u8) λb=>(ziB b,[aI<|zha b])
def zHI (a:LI)(b:ziB a=true):∃N,znb N a=some [aI<|zha a]:=by exact(zPJ b).1
def zDD:vP 36 zve:=kF1 zXY zY zwW zn zH4 zHI
def zVh {a:LI}(h:a.length<=big):ziB a=true:=by
 refine zPK a (zcf λN b=>?_);unfold znb oN;conv=>zeta
 refine zxA h (b h) ((λi t=>(t,(i:Int),a,())):Int->Int->_) (λrec i t=>by dsimp only) (λt c=>?_);exact zB (zbA c 20) ⟨_,rfl,_,rfl,trivial⟩
instance:Nonempty ai:=⟨⟨[],[],[],0⟩⟩
structure BaS (b:ai):Prop where
 m:SmM b.ag
 g1:1<=b.ac.length
 g2:b.ac.length<=2
 gs:∀g∈b.ac,GuS g
 o:b.Outs.length<=4
def BaS.sm {b:ai}(k:BaS b):SmB b:=⟨k.m,⟨qT k.g2 (by decide),λg hg=>zP2 (k.gs g hg)⟩,qT k.o (by decide)⟩
def zyT (N:Nat)(c:Cur)  : OA :=
 (oN (zi4 c 8)<|q0 (σ:=(Int×Int×Int×Int×Int×LI×lM×lG×LI×lM×lG×LI×Unit)) N (λt a=>let c:=a.2.2.2.2.2.2;let f:=a.2.2.2.2.2.1;let p:=c.2.2.2.2.1;let k:=(⟨f,a.2.1,a.2.2.1⟩:Cur);let j:=({ (zf k 2) with b:=f}:Cur); (oN (zC k 2)<|cond (ilt a.1<|zM .i64 1<|zx k 2) (oN (zin j)<|oN (few<|ln<|ap p [zbS j])<|t (zM .i64 a.1 1,(zfy j).i,(zfy j).h,a.2.2.2.1,a.2.2.2.2.1,f,c.1,c.2.1,c.2.2.1,c.2.2.2.1,ap p [zbS j],c.2.2.2.2.2.1,()))<|q0 (σ:=(Int×Int×Int×Int×Int×LI×lM×lG×LI×lM×lG×LI×Unit)) N (λu d=>let a:=d.2.2.2.2;let c:=a.2.2.2.2;let r:=c.2.1;let q:=c.2.2.1;let m:=c.2.2.2.1;let g:=a.2.1;let n:=(⟨g,d.2.1,d.2.2.1⟩:Cur);let e:=({ (zf n 4) with b:=g}:Cur);let l:=({ (zV e 3) with b:=g}:Cur); (oN (zC n 4)<|cond (ilt d.1<|zx n 4) (oN (zC e 100)<|oN (few<|ln<|ap m [zx e 100])<|u (zM .i64 d.1 1,(zf e 100).i,(zf e 100).h,d.2.2.2.1,a.1,g,a.2.2.1,a.2.2.2.1,c.1,r,q,ap m [zx e 100],()))<|oN (zdo e 3)<|cond (zdH e 3) (oN (zC l 256)<|some [.agg [.s .u8 g,.i .i64 (zf l 256).i,.i .i64 (zf l 256).h],aT .bare (⟨r,q,m,zx l 256⟩:ai)])<|some [.agg [.s .u8 g,.i .i64 (zV e 3).i,.i .i64 (zV e 3).h],aT .bare (⟨r,q,m,a.1⟩:ai)])) (0,(zf k 2).i,(zf k 2).h,a.2.2.2.1,a.2.2.2.2.1,f,c.1,c.2.1,c.2.2.1,c.2.2.2.1,p,c.2.2.2.2.2.1,()))) (0,(zkL c 8).i,(zkL c 8).h,0,0,c.b,[],[],[],ziO c 8,[],[],()))
def zXa:=zo [(153,0,{n:=42,tm:=[(0,.lp 0 0),(2,.lp 1 0),(3,.lp 2 0),(4,ti)],lo:=[(0,[.sl 0 [],ti,ti]),(1,[.sl 1 [],.sl 2 [],.sl 3 [],ti]),(2,[.sl 4 [],.sl 5 [],.sl 6 [],ti])],ro:=[(0,.u8,false),(1,.sl .int,true),(2,.guest,true),(3,.int,true),(4,.sl .int,true),(5,.guest,true),(6,.int,true)]}),(153,2,{n:=42,tm:=[(0,.lp 0 0),(2,.lp 1 0),(3,.lp 2 0),(5,ti)],lo:=[(0,[.sl 0 [],ti,ti]),(1,[.sl 1 [],.sl 2 [],.sl 3 [],ti]),(2,[.sl 4 [],.sl 5 [],.sl 6 [],ti])],ro:=[(0,.u8,false),(1,.sl .int,true),(2,.guest,true),(3,.int,true),(4,.sl .int,true),(5,.guest,true),(6,.int,true)]})]
def zsm (c:Cur)(s:Cur)(a:ai):Prop:=(∃N,zyT N c=some (AV.agg (zb5 s)::[aT .bare a]))/\(s.b=c.b/\0<=s.i)/\(BaS a)
def zk8 (c:Cur)  : Bool:=wC (zsm c)
def zm2 (c:Cur)  : Cur:=wS (zsm c)
def zeH (c:Cur)  : ai:=wV (zsm c)
def zzi {c:Cur}(h:zk8 c=true):zsm c (zm2 c) (zeH c):=wG h
def zJJ (c:Cur)  : 0<=(zm2 c).i:=wP λh=>h.2.1.2
def z2p (c:Cur)(h:∃N,Ends (wE (λa=>aT .bare a) c.b λa=>BaS a)<|zyT N c):zk8 c=true:=wI (λ_ _ h=>h) h
def zAq:zeD:=rP0 λc=>(zk8 c,zm2 c,[aT .bare<|zeH c])
def zOB:zbU Tryz.prog 153 [false,true,true] zAq:=hP0 zBg zY zwW zn zXa (λ_ h=>(zzi h).1)
def zBa {c:Cur}(h:zbf c):zk8 c=true:=by
 refine z2p c ⟨1002,?_⟩;unfold zyT oN;conv=>zeta
 have D:=zbcd h (a0:=8) (by omega) (by omega);have y:=(zvO D).2.2 (by omega) (by omega);have sm:SmM (ziO c 8):=⟨by have:=y.1;unfold ln at this;exact qT (m:=8) (by omega) (by decide),fun r J=>by rw[y.2 r J];decide⟩;refine zB D (zmH (fun n s=>∃(t i k:Int) (l:List ah),s=(t,i,k,0,0,c.b,[],[],[],ziO c 8,l,[],())/\t+(n:Int)=10/\0<=t/\t<=2/\0<=i/\ln l=t/\∀g∈l,GuS g) ?_ 1002 10 _ ⟨0,_,_,[],rfl,rfl,kQ 0,by omega,zPP _ _,rfl,by simp⟩ (by omega));rintro n s rec ⟨t,i,k,l,rfl,N,O,P,I,z,A⟩ q;dsimp only;have e:zbf ⟨c.b,i,k⟩:=zbI h I;have S:=zgs e (n:=2) (by omega);have E:zM .i64 1 (zx ⟨c.b,i,k⟩ 2)=1+zx ⟨c.b,i,k⟩ 2:=zo0 (by omega) (by omega);refine zB (zbA e 2) (zbB (fun w=>?_) (fun w=>?_));{have j:=qD w;rw[E]at j;have B:zbf {zf ⟨c.b,i,k⟩ 2 with b:=c.b}:=zbI h (zG _ _);have Q:zM .i64 t 1=t+1:=zo0 (by omega) (by omega);refine zB (zp9 B) (zB (zkt (by rw[zhg];omega)) (q (n-1) _ (by omega) ⟨zM .i64 t 1,_,_,_,rfl,by omega,by omega,by omega,zn1 _,by rw[zhg];omega,fun g hg=>?_⟩));rcases jK.1 hg with hg|hg;{exact A g hg};{rw [qF.1 hg];exact(zsl (zp9 B)).2.2.1}}
 .have hge:=qM w;rw[E]at hge;refine zmH (fun n s=>∃(u i k:Int) (o:LI),s=(u,i,k,0,0,c.b,[],[],[],ziO c 8,l,o,())/\u+(n:Int)=10/\0<=u/\u<=3/\0<=i/\ln o=u) ?_ 1002 10 _ ⟨0,_,_,[],rfl,rfl,kQ 0,by omega,zG _ _,rfl⟩ (by omega);rintro n s H ⟨u,F,G,o,rfl,T,U,V,L,M⟩ f;dsimp only;have a:zbf ⟨c.b,F,G⟩:=zbI h L;have K:=zgs a (n:=4) (by omega);have C:zbf {zf ⟨c.b,F,G⟩ 4 with b:=c.b}:=zbI h (zG _ _);have d:∀p:Int,BaS ⟨ziO c 8,l,o,p⟩:=fun p=>⟨sm,by unfold ln at z;dsimp only;omega,by unfold ln at z;dsimp only;omega,A,by unfold ln at M;dsimp only;omega⟩;refine zB (zbA a 4) (zbB (fun x=>?_) (fun _=>?_));{have j:=qD x;have R:zM .i64 u 1=u+1:=zo0 (by omega) (by omega);exact zB (zbA C 100) (zB (zkt (by rw[zhg];omega)) (f (n-1) _ (by omega) ⟨zM .i64 u 1,_,_,_,rfl,by omega,by omega,by omega,zG _ _,by rw[zhg];omega⟩))}
  .refine zB (zky C 3) (zbB (fun _=>zB (zbA (zbI h (zcx _ _)) 256) (zbF (aT .bare) (v:=⟨ziO c 8,l,o,zx _ 256⟩) (zG _ _) (d _)))
    (fun _=>zbF (aT .bare) (v:=⟨ziO c 8,l,o,0⟩) (zcx _ _) (d _)))
def zbcB:zdb:=[(153,[false,true,true],zAq)]++zbcA
def zZR:zce zbcB:=zcF zwW (by
 intro x a;simp only[qG,qN,or_false]at a;rcases a with rfl
 .exact zOB)
def zAZ (N:Nat)(c:Cur)  : OA :=
 let e:=zeH c;let n:=({ (zm2 c) with b:=c.b}:Cur);let j:=zx n 14;let f:=zf n 14;let d:=({f with b:=c.b}:Cur);let k:=({ (zfy d) with b:=c.b}:Cur);let p:=ap e.ac [zbS d,zbS k]; (oN (zk8 c)<|oN (zC n 14)<|cond (ieq j 0) (oN (zoP d)<|some [.agg [.s .u8 c.b,.i .i64 (zhW d).i,.i .i64 (zhW d).h],aT .bare ({e with ag:=(znW d)}:ai)])<|cond (ieq j 1) (oN (zoT d)<|oN (inb 0<|ln e.ac)<|p0 (up e.ac 0<|zs3 d) λm=>some [.agg [.s .u8 c.b,.i .i64 (zmy d).i,.i .i64 (zmy d).h],aT .bare ({e with ac:=m}:ai)])<|cond (ieq j 2) (oN (zin d)<|oN (zin k)<|oN (few<|ln p)<|some [.agg [.s .u8 c.b,.i .i64 (zfy k).i,.i .i64 (zfy k).h],aT .bare ({e with ac:=p}:ai)])<|cond (ieq j 3) (p0 [] λm=>some [.agg [.s .u8 c.b,.i .i64 f.i,.i .i64 f.h],aT .bare ({e with ac:=m}:ai)])<|cond (ieq j 4) (q0 (σ:=(Int×Int×Int×Int×LI×lM×lG×LI×lM×lG×LI×Unit)) N (λq a=>let b:=a.2.2.2.2;let c:=b.2.2.2.2;let l:=c.2.2.1;let g:=(⟨b.1,a.1,a.2.1⟩:Cur); (oN (zC g 3)<|cond (ilt (ln l)<|zM .i64 39<|zx g 3) (oN (few<|ln<|ap l [1])<|q ((zf g 3).i,(zf g 3).h,a.2.2.1,a.2.2.2.1,b.1,b.2.1,b.2.2.1,b.2.2.2.1,c.1,c.2.1,ap l [1],()))<|some [.agg [.s .u8 b.1,.i .i64 (zf g 3).i,.i .i64 (zf g 3).h],aT .bare (⟨c.1,c.2.1,l,a.2.2.2.1⟩:ai)])) (f.i,f.h,0,e.aj,c.b,[],[],[],e.ag,e.ac,e.Outs,()))<|cond (ieq j 5) (oN (zm1 d)<|some [.agg [.s .u8 c.b,.i .i64 (zk7 d).i,.i .i64 (zk7 d).h],aT .bare ({e with aj:=(zqN d)}:ai)])<|some [.agg [.s .u8 c.b,.i .i64 f.i,.i .i64 f.h],aT .bare e])
def z0Y:=zo [(152,1,{n:=54,tm:=[(0,.lp 0 0),(2,.lp 1 0),(3,.lp 2 0)],lo:=[(0,[.sl 0 [],ti,ti]),(1,[.sl 1 [],.sl 2 [],.sl 3 [],ti]),(2,[.sl 4 [],.sl 5 [],.sl 6 [],ti])],ro:=[(0,.u8,false),(1,.sl .int,true),(2,.guest,true),(3,.int,true),(4,.sl .int,true),(5,.guest,true),(6,.int,true)]})]
def ztM (c:Cur)(s:Cur)(a:ai):Prop:=(∃N,zAZ N c=some (AV.agg (zb5 s)::[aT .bare a]))/\(s.b=c.b/\0<=s.i)/\(SmB a)
def zoU (c:Cur)  : Bool:=wC (ztM c)
def zvQ (c:Cur)  : Cur:=wS (ztM c)
def zB4 (c:Cur)  : ai:=wV (ztM c)
def zPS {c:Cur}(h:zoU c=true):ztM c (zvQ c) (zB4 c):=wG h
def z5M (c:Cur)  : 0<=(zvQ c).i:=wP λh=>h.2.1.2
def z5L (c:Cur)(h:∃N,Ends (wE (λa=>aT .bare a) c.b λa=>SmB a)<|zAZ N c):zoU c=true:=wI (λ_ _ h=>h) h
def zC4:zeD:=rP0 λc=>(zoU c,zvQ c,[aT .bare<|zB4 c])
def zR2:zbU Tryz.prog 152 [false,true,true] zC4:=hP0 zBg zY zZR zn z0Y (λ_ h=>(zPS h).1)
def z2R {c:Cur}(h:zbf c):zoU c=true:=by
 refine z5L c ⟨1002,?_⟩;unfold zAZ oN;conv=>zeta
 have q:∀{s:Cur},0<=s.i->zbf {s with b:=c.b}:=fun j=>zbI h j;have B:=(zzi (zBa h)).2.2;have a:zbf {zf {zm2 c with b:=c.b} 14 with b:=c.b}:=q (zG _ _);have S:=B.sm;have e:=(zBY (zBF a)).2.2;have f:∀{c:Cur},zbf c->SmG (zbS c):=fun n=>zP2 (zsl (zp9 n)).2.2.1;have d:inb 0 (ln (zeH c).ac)=true:=qL (by have:=B.g1;unfold ln;omega)
 refine zB (zBa h) (zB (zbA (q (zJJ _)) 14) (zbB (fun _=>zB (zBF a) (zbF (aT .bare) (v:={zeH c with ag:=znW _}) (zPO _) ⟨⟨qT e.1 (by decide),fun r u=>qT (e.2 r u) (by decide)⟩,S.2⟩))
  (fun _=>zbB (fun _=>zB (zvi a) (zB d (zlm (zbF (aT .bare) (v:={zeH c with ac:=up (zeH c).ac 0 (zs3 _)}) (zPR _) ⟨S.1,z0t S.2.1 0 (zP2 (zB3 (zvi a)).2.2),S.2.2⟩))))
  (fun _=>zbB (fun _=>zB (zp9 a) (zB (zp9 (q (zn1 _))) (zB (zkt ?_) (zbF (aT .bare) (v:={zeH c with ac:=ap (zeH c).ac [zbS _,zbS _]}) (zn1 _) ⟨S.1,⟨?_,fun g hg=>?_⟩,S.2.2⟩))))
  (fun _=>zbB (fun _=>zlm (zbF (aT .bare) (v:={zeH c with ac:=[]}) (zG _ _) ⟨S.1,⟨by simp,by simp⟩,S.2.2⟩))
  (fun _=>zbB (fun _=>?_)
  (fun _=>zbB (fun _=>zB (z8g a) (zbF (aT .bare) (v:={zeH c with aj:=zqN _}) (zJI _) S)) (fun _=>zbF (aT .bare) (v:=zeH c) (zG _ _) S))))))))
 {have:=B.g2;simp only[ln,ap,kL,qY,k7];omega};{have:=B.g2;simp only[ap,kL,qY,k7];omega};{rcases jK.1 hg with hg|hg;{exact S.2.1.2 g hg};{rcases qG.1 hg with rfl|hg;{exact f a};{rw [qF.1 hg];exact f (q (zn1 _))}}}
 .exact z7j h (zG _ _) (m:=39) (q:=3) (x:=1) (by omega) (by omega) (by omega) (l0:=(zeH c).Outs) (by have:=B.o;unfold ln;omega) ((fun _ t=>(t.1,t.2.1,0,(zeH c).aj,c.b,[],[],[],(zeH c).ag,(zeH c).ac,t.2.2,())):Nat->Int×Int×LI->_)
   (fun rec i k l=>⟨_,rfl,fun p=>⟨⟨_,_,_⟩,_,rfl,⟨rfl,zG _ _⟩,⟨S.1,S.2.1,by unfold ln at p;dsimp only;omega⟩⟩⟩)
def zbfI:zdb:=[(152,[false,true,true],zC4)]++zbcB
def zbar:zce zbfI:=zcF zZR (by
 intro x a;simp only[qG,qN,or_false]at a;rcases a with rfl
 .exact zR2)
def zm9 (N:Nat)(h:LI):OA:=
 (q0 (σ:=(Int×Int×Int×Int×Int×Int×Int×Int×LI×lR×Unit)) N (λk a=>let h:=a.2.2.2.2;let d:=h.2.2.2.2.1;let f:=(⟨d,0,a.1⟩:Cur);let e:=({ (zvQ f) with b:=d}:Cur);let j:=aS .bare [zB4 f,zeH e];let g:=({ (zm2 e) with b:=d}:Cur);let c:=zn3 g; (cond (ilt a.2.1<|ln d) (cond (ilt a.2.1 4000) (oN (inb a.2.1<|ln d)<|k (wand .i64 (zM .i64 (zM .i64 (zm8 .i64 a.1 131)<|wcv .i64<|ix d a.2.1 0) 7) 1073741823,zM .i64 a.2.1 1,a.2.2.1,a.2.2.2.1,h.1,h.2.1,h.2.2.1,h.2.2.2.1,d,h.2.2.2.2.2.1,()))<|oN (zoU f)<|oN (zk8 e)<|oN (zh2 g)<|some [j,.agg [.i .i64 c.Kind,.i .i64 c.M,.i .i64 c.G,.i .i64 c.X,.i .i64 c.Y,.i .i64 c.Z]])<|oN (zoU f)<|oN (zk8 e)<|oN (zh2 g)<|some [j,.agg [.i .i64 c.Kind,.i .i64 c.M,.i .i64 c.G,.i .i64 c.X,.i .i64 c.Y,.i .i64 c.Z]])) (zM .i64 94701<|ln h,0,0,0,0,0,0,0,h,[],()))
def zH2:=zo [(100,0,{n:=32,tm:=[(0,.sl 0 []),(3,ti),(4,ti)],lo:=[(0,[ti,ti,ti,ti,ti,ti])],ro:=[(0,.u8,false),(1,.bare,true)],sk:=[(0,2,0,.sl 1 []),(0,3,0,.lp 0 0)]})]
def zql (b:LI)(a:List ai)(c:r0):Prop:=(∃N,zm9 N b=some [aS .bare a,aT .act c])/\(zwl a)
def ziz (a:LI):Bool:=uC (T:=List ai×r0) (λr=>zql a r.1 r.2)
def zyw (a:LI):List ai×r0:=uV (λr=>zql a r.1 r.2)
def zkC (a:LI):List ai:=(zyw a).1
def zkD (a:LI):r0:=(zyw a).2
def zyv {a:LI}(h:ziz a=true):zql a (zkC a) (zkD a):=uG h
def zPH (d:LI)(h:∃N,Ends (λa=>∃b c,a=[aS .bare b,aT .act c]/\(zwl b))<|zm9 N d):ziz d=true:=by obtain⟨N,a,e,b,c,rfl,h⟩:=h;exact zba ⟨(b,c),⟨N,e⟩,h⟩
def zvc:Run:=rF1 (dS .u8) λb=>(ziz b,[aS .bare<|zkC b,aT .act<|zkD b])
def zHG (a:LI)(b:ziz a=true):∃N,zm9 N a=some [aS .bare<|zkC a,aT .act<|zkD a]:=by exact(zyv b).1
def zDB:vP 32 zvc:=kF1 zBg zY zbar zn zH2 zHG
def zCM {a:LI}(h:a.length<=big):ziz a=true:=by
 refine zPH a (zcf λN c=>?_);unfold zm9 oN;conv=>zeta
 refine zxA h (c h) ((λi t=>(t,(i:Int),0,0,0,0,0,0,a,[],())):Int->Int->_) (λrec i t=>by dsimp only) (λt f=>?_);have e:=q_of h (z5M ⟨a,0,t⟩);refine zB (z2R f) (zB (zBa e)<|zB (z3V<|q_of h<|zJJ _) ⟨_,rfl,[zB4 ⟨a,0,t⟩,zeH _],zn3 _,rfl,⟨by simp,λb d=>?_⟩⟩);rcases qG.1 d with rfl|d;{exact(zPS<|z2R f).2.2};{rw [qF.1 d];exact(zzi<|zBa e).2.2.sm}
def zpB (b:ai)(a:r0):ai:=bif ieq a.Kind 1 then zjE b a.G else (cond (ieq a.Kind 2) (chg b a.G (zF9 a.X ⟨a.Y,a.Z⟩)<|zB6 (gAt b a.G) a.X ⟨a.Y,a.Z⟩)<|cond (ieq a.Kind 3) (chg b a.G (j0 a.X 4)<|ziQ (gAt b a.G) a.X)<|cond (ieq a.Kind 4) (chg b a.G (zEL (gAt b a.G) a.X)<|zEM (gAt b a.G) a.X)<|cond (ieq a.Kind 5) (chg b a.G (zFR<|gAt b a.G)<|zFT<|gAt b a.G)<|cond (ieq a.Kind 6) (chg b a.G (zkA (gAt b a.G).aj a.X)<|zqe (gAt b a.G) a.X)<|cond (ieq a.Kind 7) (chg b a.G (ztg ⟨a.X,a.Y,ieq a.Z 1⟩)<|zQL (gAt b a.G) ⟨a.X,a.Y,ieq a.Z 1⟩)<|cond (ieq a.Kind 8) (zot b a.X a.Y a.Z)<|cond (ieq a.Kind 9) (zmi b a.X)<|cond (ieq a.Kind 10) (zns b)<|cond (ieq a.Kind 11) (zE6 b a.G a.X a.Y)<|b)
def zxy (b:ai)(a:r0):aE:=bif ieq a.Kind 1 then ⟨zmV b a.G,0⟩ else (cond (ieq a.Kind 2) ⟨zcA b a.G<|zF9 a.X ⟨a.Y,a.Z⟩,0⟩<|cond (ieq a.Kind 3) ⟨zcA b a.G<|j0 a.X 4,0⟩<|cond (ieq a.Kind 4) ⟨zcA b a.G<|zEL (gAt b a.G) a.X,0⟩<|cond (ieq a.Kind 5) ⟨zcA b a.G<|zFR<|gAt b a.G,0⟩<|cond (ieq a.Kind 6) ⟨zcA b a.G<|zkA (gAt b a.G).aj a.X,0⟩<|cond (ieq a.Kind 7) ⟨zcA b a.G<|ztg ⟨a.X,a.Y,ieq a.Z 1⟩,0⟩<|cond (ieq a.Kind 8) ⟨zmJ b a.X a.Y a.Z,0⟩<|cond (ieq a.Kind 9) ⟨ziw b a.X,0⟩<|cond (ieq a.Kind 10) ⟨zqX b,zA5 b⟩<|cond (ieq a.Kind 11) ⟨zxI b a.G a.X a.Y,0⟩<|⟨zir b a.G a.X 1,znc b a.G a.X⟩)
def zvj (l:List ai)(a:r0):List ai:=bif zl a.Kind 1 17 then (cond (zl a.Kind 13 17) l<|cond (j0 a.M<|ln l) (up l a.M<|zpB (ix l a.M zdf) a) l) else l
def zA8 (l:List ai)(a:r0):aE:=bif zl a.Kind 1 17 then (cond (zl a.Kind 13 17) ⟨false,0⟩<|cond (j0 a.M<|ln l) (zxy (ix l a.M zdf) a)<|cond (ieq a.Kind 10) ⟨false,-1⟩ ⟨false,0⟩) else ⟨false,0⟩
section
open Go Go.RowKit
def zPE {P:Program}{g:Func}{p q:Tmp}{ty i:TypeId}(h:g.results = #[.cell p ty,.cell q i])(b:LV)(w:World) :
 (results g b).run P w =
  ((asAddr<|b.getD p undef).run P w).andThen λa c=>((loadVar ty a).run P c).andThen λv d=>((asAddr<|b.getD q undef).run P d).andThen λj e=>((loadVar i j).run P e).andThen λk f=>.ok (.tuple #[v,k]) f:=by
 simp only[results,h];simp[Sem.run_bind,Result.andThen]
def zbcP (w:World)(h i j:Option Addr)(d f g l m n:Nat)(k:Int)(u s t x y:Int)(N:Int)(ok:Bool)(c:∀p,Below w.heap.size w p->Calls Tryz.prog 342 #[.agg #[.slice h d l,.slice i f m,.slice j g n,.int .i64 k],.int .i64 s,.int .i64 t] p λe a=>e = .returned (.tuple #[.int .i64 N,.bool ok])/\Below p.heap.size p a) :
 Calls Tryz.prog 155 #[.agg #[.slice h d l,.slice i f m,.slice j g n,.int .i64 k],.agg #[.int .i64 12,.int .i64 u,.int .i64 s,.int .i64 t,.int .i64 x,.int .i64 y]] w λe z =>
  e = .returned (.tuple #[.agg #[.slice h d l,.slice i f m,.slice j g n,.int .i64 k],.agg #[.bool ok,.int .i64 N]])/\Below w.heap.size w z:=by
 go_enter Tryz.func155,Tryz.ntmps155
 go_wp2_with fail
 refine(c _<|((((Below.refl _ _).alloc (by simp) _).alloc (by simp) _).alloc (by simp;omega) _ |>.alloc (by simp;omega) _).alloc (by simp;omega) _).mono ?_
 rintro e a ⟨rfl,b⟩
 have r:=b.size;simp only[World.size_alloc]at r;have A:a.cell? ⟨w.heap.size+1+1+1+1,0,none⟩=some (.slice h d l):=(b.cell (by simp)).trans (by go_simp)
 have B:a.cell? ⟨w.heap.size+1+1+1+1,1,none⟩=some (.slice i f m):=(b.cell (by simp)).trans (by go_simp)
 have C:a.cell? ⟨w.heap.size+1+1+1+1,2,none⟩=some (.slice j g n):=(b.cell (by simp)).trans (by go_simp)
 have D:a.cell? ⟨w.heap.size+1+1+1+1,3,none⟩=some (.int .i64 k):=(b.cell (by simp)).trans (by go_simp)
 have E:a.cell? ⟨w.heap.size+1+1,0,none⟩=some (.slice none 0 0):=(b.cell (by simp)).trans (by go_simp)
 have K:a.frozen? ⟨w.heap.size+1+1,0,none⟩=false:=(b.frozen (by simp)).trans (by go_simp)
 have F:a.cell? ⟨w.heap.size+1+1,1,none⟩=some (.slice none 0 0):=(b.cell (by simp)).trans (by go_simp)
 have L:a.frozen? ⟨w.heap.size+1+1,1,none⟩=false:=(b.frozen (by simp)).trans (by go_simp)
 have G:a.cell? ⟨w.heap.size+1+1,2,none⟩=some (.slice none 0 0):=(b.cell (by simp)).trans (by go_simp)
 have M:a.frozen? ⟨w.heap.size+1+1,2,none⟩=false:=(b.frozen (by simp)).trans (by go_simp)
 have H:a.cell? ⟨w.heap.size+1+1,3,none⟩=some (.int .i64 0):=(b.cell (by simp)).trans (by go_simp)
 have O:a.frozen? ⟨w.heap.size+1+1,3,none⟩=false:=(b.frozen (by simp)).trans (by go_simp)
 have I:a.cell? ⟨w.heap.size+1+1+1,0,none⟩=some (.bool false):=(b.cell (by simp)).trans (by go_simp)
 have P:a.frozen? ⟨w.heap.size+1+1+1,0,none⟩=false:=(b.frozen (by simp)).trans (by go_simp)
 have J:a.cell? ⟨w.heap.size+1+1+1,1,none⟩=some (.int .i64 0):=(b.cell (by simp)).trans (by go_simp)
 have Q:a.frozen? ⟨w.heap.size+1+1+1,1,none⟩=false:=(b.frozen (by simp)).trans (by go_simp)
 go_wp2
 refine bodyPost_ret (v:=.tuple #[.agg #[.slice h d l,.slice i f m,.slice j g n,.int .i64 k],.agg #[.bool ok,.int .i64 N]]) ?_ rfl ?_
 .rw [zPE (by rfl)]
  go_simp
  trace_state
 .refine⟨rfl,?_⟩;have q:Below w.heap.size w a:=(((((Below.refl _ _).alloc (by simp) _).alloc (by simp) _).alloc (by simp;omega) _ |>.alloc (by simp;omega) _).alloc (by simp;omega) _).trans (b.mono (by simp;omega))
  exact(((((q.setCell (by simp;omega) _).setCell (by simp;omega) _).setCell (by simp;omega) _).setCell (by simp;omega) _).setCell (by simp;omega) _).setCell (by simp;omega) _
end
def zXX:zbb:=[(112,znf),(104,znf)]++z6z
def zxC:zN zXX:=zh zLt (zh zG8 z6A)
def zbaB {b:ai}{p c v:Int}(h:SmB b):SmB (zot b p c v):=by unfold zot;cases zmJ b p c v;{exact h};{exact⟨zqu h.1,h.2⟩}
def zbdV {b:ai}{g a v:Int}(h:SmB b):SmB (zE6 b g a v):=by unfold zE6;cases zxI b g a v;{exact h};{exact⟨zqu h.1,h.2⟩}
def z0o {b:ai}{a:r0}(h:SmB b):SmB (zpB b a):=by have hg:=zfz a.G h;unfold zpB;cases ieq a.Kind 1;{cases ieq a.Kind 2;{cases ieq a.Kind 3;{cases ieq a.Kind 4;{cases ieq a.Kind 5;{cases ieq a.Kind 6;{cases ieq a.Kind 7;{cases ieq a.Kind 8;{cases ieq a.Kind 9;{cases ieq a.Kind 10;{cases ieq a.Kind 11;{exact h};{exact zbdV h}};{exact z0n h}};{exact zU8 h}};{exact zbaB h}};{exact zhC h hg}};{exact zhC h hg}};{exact zhC h (z0s hg)}};{exact zhC h (z0q _ hg)}};{exact zhC h (zoX _ hg)}};{exact zhC h (zMc _ _ hg)}};{exact zbaC h}
def zbeR {k:Int}(h:1<=k/\k<=11)(c:ieq k 1=false)(d:ieq k 2=false)(e:ieq k 3=false)(f:ieq k 4=false)(g:ieq k 5=false)(i:ieq k 6=false)(j:ieq k 7=false)(l:ieq k 8=false)(m:ieq k 9=false)(a:ieq k 10=false)(b:ieq k 11=false):False:=by have:=qM c;have:=qM d;have:=qM e;have:=qM f;have:=qM g;have:=qM i;have:=qM j;have:=qM l;have:=qM m;have:=qM a;have:=qM b;omega
@[simp] abbrev ztk (b:ai)(a:r0):Bool:=pc (SmB b/\1<=a.Kind/\a.Kind<=11)
@[simp] abbrev zja (b:ai)(a:r0):ai:=zpB b a
@[simp] abbrev zjb (b:ai)(a:r0):aE:=zxy b a
def zC9:Run:=rF2 (dT .bare) (dT .act) λb c=>(ztk b c,[aT .bare<|zja b c,aT .told<|zjb b c])
def zIn (N:Nat)(c:ai)(a:r0):OA:=
 let d:=(⟨a.Y,a.Z⟩:k0); (cond (ieq a.Kind 1) (oN (zbT c a.G)<|some [aT .bare<|zfq c a.G,.agg [.b<|zgS c a.G,.i .i64 0]])<|cond (ieq a.Kind 2) (oN (zhQ c a.G a.X d)<|some [aT .bare<|zc8 c a.G a.X d,.agg [.b<|zdl c a.G a.X d,.i .i64 0]])<|cond (ieq a.Kind 3) (oN (ziL c a.G a.X)<|some [aT .bare<|zcQ c a.G a.X,.agg [.b<|zei c a.G a.X,.i .i64 0]])<|cond (ieq a.Kind 4) (oN (zfR c a.G a.X)<|some [aT .bare<|zb0 c a.G a.X,.agg [.b<|zcb c a.G a.X,.i .i64 0]])<|cond (ieq a.Kind 5) (oN (zbT c a.G)<|some [aT .bare<|zb2 c a.G,.agg [.b<|zcd c a.G,.i .i64 0]])<|cond (ieq a.Kind 6) (oN (zfS c a.G a.X)<|some [aT .bare<|zb1 c a.G a.X,.agg [.b<|zcc c a.G a.X,.i .i64 0]])<|cond (ieq a.Kind 7) (oN (zeQ a)<|oN (zhN c a.G<|zeV a)<|some [aT .bare<|zcK c a.G<|zeV a,.agg [.b<|zcV c a.G<|zeV a,.i .i64 0]])<|cond (ieq a.Kind 8) (oN (zlD c a.X a.Y a.Z)<|some [aT .bare<|zeN c a.X a.Y a.Z,.agg [.b<|zfu c a.X a.Y a.Z,.i .i64 0]])<|cond (ieq a.Kind 9) (oN (zdm c a.X)<|some [aT .bare<|zcZ c a.X,.agg [.b<|zdd c a.X,.i .i64 0]])<|cond (ieq a.Kind 10) (oN (zW c)<|some [aT .bare<|zcU c,.agg [.b<|zc7 c,.i .i64<|zdS c]])<|cond (ieq a.Kind 11) (oN (zpk c a.G a.X a.Y)<|some [aT .bare<|zhO c a.G a.X a.Y,.agg [.b<|zhP c a.G a.X a.Y,.i .i64 0]])<|oN (ieq a.Kind 12)<|oN (zjQ c a.G a.X) none)
def zV6 (b:ai)(a:r0)(c:ztk b a=true):∃N,zIn N b a=some [aT .bare<|zja b a,aT .told<|zjb b a]:=by
 have e:=(zF.1 c).1;have d:=@zbeR a.Kind (zF.1 c).2;refine⟨0,?_⟩;unfold zIn oN;conv=>zeta
 refine br (λ_=>mu ?_) (λ_=>br (λ_=>mu ?_) λ_=>br (λ_=>mu ?_) λ_=>br (λ_=>mu ?_) λ_=>br (λ_=>mu ?_) λ_=>br (λ_=>mu ?_) λ_=>br (λ_=>i0 rfl (mu ?_)) λ_=>br (λ_=>mu ?_) λ_=>br (λ_=>mu ?_) λ_=>br (λ_=>mu ?_) λ_=>br (λ_=>mu ?_) λ_=>mu (mu (by exfalso;first|assumption|(simp_all<;>omega))));all_goals first|rfl|(simp only [*,zja,zjb,zpB,zxy,cT,cF]<;>rfl)|simp_all[Ty.cells,zja,zjb,zpB,zxy]
def zN2:vP 155 zC9:=kF2 zxC zq zu zn (zo []) zV6
@[simp] abbrev zpj (l:List ai)(a:r0):Bool:=pc (zwl l)
@[simp] abbrev zd7 (l:List ai)(a:r0):List ai:=zvj l a
@[simp] abbrev zdT (l:List ai)(a:r0):aE:=zA8 l a
def zuS:Run:=rF2 (dS .bare) (dT .act) λb c=>(zpj b c,[aS .bare<|zd7 b c,aT .told<|zdT b c])
def zIv (N:Nat)(k:lR)(a:r0):OA:=
 let j:=ieq a.M a.M;let h:=(⟨a.Y,a.Z⟩:k0);let e:=zcJ k;let g:=aS .bare e;let f:=inb a.M<|ln e;let c:=ix e a.M zdf; (oN (zke k)<|oN (zeQ a)<|cond (nB<|zlC a) (some [g,.agg [.b false,.i .i64 0]])<|oN (zfb a.Kind)<|cond (zfw a.Kind) (some [g,.agg [.b false,.i .i64 0]])<|oN (zJ a.M 0<|wsub .i64 (ln e) 1)<|cond (nB<|zl a.M 0<|wsub .i64 (ln e) 1) (cond (ieq a.Kind 10) (some [g,.agg [.b false,.i .i64<|-1]])<|some [g,.agg [.b false,.i .i64 0]])<|oN f<|cond (ieq a.Kind 1) (oN (zbT c a.G)<|oN f<|p0 (up e a.M<|zfq c a.G) λd=>some [aS .bare d,.agg [.b<|zgS c a.G,.i .i64 0]])<|cond (ieq a.Kind 2) (oN (zhQ c a.G a.X h)<|oN f<|p0 (up e a.M<|zc8 c a.G a.X h) λd=>some [aS .bare d,.agg [.b<|zdl c a.G a.X h,.i .i64 0]])<|cond (ieq a.Kind 3) (oN (ziL c a.G a.X)<|oN f<|p0 (up e a.M<|zcQ c a.G a.X) λd=>some [aS .bare d,.agg [.b<|zei c a.G a.X,.i .i64 0]])<|cond (ieq a.Kind 4) (oN (zfR c a.G a.X)<|oN f<|p0 (up e a.M<|zb0 c a.G a.X) λd=>some [aS .bare d,.agg [.b<|zcb c a.G a.X,.i .i64 0]])<|cond (ieq a.Kind 5) (oN (zbT c a.G)<|oN f<|p0 (up e a.M<|zb2 c a.G) λd=>some [aS .bare d,.agg [.b<|zcd c a.G,.i .i64 0]])<|cond (ieq a.Kind 6) (oN (zfS c a.G a.X)<|oN f<|p0 (up e a.M<|zb1 c a.G a.X) λd=>some [aS .bare d,.agg [.b<|zcc c a.G a.X,.i .i64 0]])<|cond (ieq a.Kind 7) (oN (zeQ a)<|oN (zhN c a.G<|zeV a)<|oN f<|p0 (up e a.M<|zcK c a.G<|zeV a) λd=>some [aS .bare d,.agg [.b<|zcV c a.G<|zeV a,.i .i64 0]])<|cond (ieq a.Kind 8) (oN (zlD c a.X a.Y a.Z)<|oN f<|p0 (up e a.M<|zeN c a.X a.Y a.Z) λd=>some [aS .bare d,.agg [.b<|zfu c a.X a.Y a.Z,.i .i64 0]])<|cond (ieq a.Kind 9) (oN (zdm c a.X)<|oN f<|p0 (up e a.M<|zcZ c a.X) λd=>some [aS .bare d,.agg [.b<|zdd c a.X,.i .i64 0]])<|cond (ieq a.Kind 10) (oN (zW c)<|oN f<|p0 (up e a.M<|zcU c) λd=>some [aS .bare d,.agg [.b<|zc7 c,.i .i64<|zdS c]])<|cond (ieq a.Kind 11) (oN (zpk c a.G a.X a.Y)<|oN f<|p0 (up e a.M<|zhO c a.G a.X a.Y) λd=>some [aS .bare d,.agg [.b<|zhP c a.G a.X a.Y,.i .i64 0]])<|oN (zjQ c a.G a.X)<|oN f<|oN (cond (cond (cond j true false) (cond j true false) false) (cond j true false) false)<|p0 (up e a.M c) λd=>some [aS .bare d,.agg [.b<|zie c a.G a.X,.i .i64<|zid c a.G a.X]])
def zWd (a:List ai)(b:r0)(d:zpj a b=true):∃N,zIv N a b=some [aS .bare<|zd7 a b,aT .told<|zdT a b]:=by
 have c:=zF.1 d;have f:j0 b.M (ln a)=true->SmB (ix a b.M zdf):=λh=>z0p c h _;have e:a.length<=1048576:=c.1;refine⟨0,?_⟩;unfold zIv oN nB;conv=>zeta
 refine mu (i0 rfl (brN (λ_=>?_) λ_=>i0 rfl (br (λ_=>?_) λ_=>i0 rfl (brN (λ_=>br (λ_=>?_) λ_=>?_) λ_=>mu (br (λ_=>mu (mu<|shr ?_)) λ_=>br (λ_=>mu (mu<|shr ?_)) λ_=>br (λ_=>mu (mu<|shr ?_)) λ_=>br (λ_=>mu (mu<|shr ?_)) λ_=>br (λ_=>mu (mu<|shr ?_)) λ_=>br (λ_=>mu (mu<|shr ?_)) λ_=>br (λ_=>i0 rfl (mu<|mu<|shr ?_)) λ_=>br (λ_=>mu (mu<|shr ?_)) λ_=>br (λ_=>mu (mu<|shr ?_)) λ_=>br (λ_=>mu (mu<|shr ?_)) λ_=>br (λ_=>mu (mu<|shr ?_)) λ_=>mu (mu<|mu<|shr ?_))))));all_goals first|rfl|(simp only [*,zd7,zdT,zvj,zA8,zpB,zxy,cT,cF]<;>rfl)|simp_all[Ty.cells,zd7,zdT,zvj,zA8,zpB,zxy]
def zxX:vP 34 zuS:=kF2 zxC zq zu zn (zo []) zWd
def z6B:zbb:=[(155,zC9),(34,zuS)]++zXX
def z6C:zN z6B:=zh zN2 (zh zxX zxC)
def zbfC {k:Int}(h:ieq k 12=false)(d:zl k 1 17=true)(c:zl k 13 17=false):1<=k/\k<=11:=by have e:=qM h;have a:=zff.1 d;have b:¬ (13<=k/\k<=17):=λf=>(by rw[zff.2 f]at c;cases c);omega
@[simp] abbrev zrd (l:List ai)(a:r0):Bool:=pc (zwl l/\ieq a.Kind 12=false)
def zAu:LW
 |[.one<|.s .bare b,.agg [.i .i64 c,.i .i64 d,.i .i64 e,.i .i64 f,.i .i64 g,.i .i64 h]]=>some (zrd b (⟨c,d,e,f,g,h⟩:r0),[.one<|.s .bare<|zd7 b (⟨c,d,e,f,g,h⟩:r0),.agg<|Ty.cells .told<|zdT b (⟨c,d,e,f,g,h⟩:r0)])
 |_=>none
def zwb (N:Nat)(c:lR)(a:r0):OA:=
 (cond (zke c) (cond (zeQ a) (cond (cond (zlC a) false true) (some [.one<|.s .bare<|zcJ c,.agg [.b false,.i .i64 0]])<|cond (zfb a.Kind) (cond (zfw a.Kind) (some [.one<|.s .bare<|zcJ c,.agg [.b false,.i .i64 0]])<|cond (zbi a.M<|ln c) (cond (cond (zbX a.M<|ln c) false true) (cond (ieq a.Kind 10) (some [.one<|.s .bare<|zcJ c,.agg [.b false,.i .i64<|-1]])<|cond (zbi a.M<|ln c) (cond (cond (zbX a.M<|ln c) false true) (some [.one<|.s .bare<|zcJ c,.agg [.b false,.i .i64 0]])<|cond (inb a.M<|ln c) (cond (ztk (ix c a.M zdf) a) (cond (zW<|zja (ix c a.M zdf) a) (cond (inb a.M<|ln<|zcJ c) (p0 (up (zcJ c) a.M<|zO<|zja (ix c a.M zdf) a) λd=>some [.one<|.s .bare d,.agg [.b (zjb (ix c a.M zdf) a).Ok,.i .i64 (zjb (ix c a.M zdf) a).N]]) none) none) none) none) none)<|cond (zbi a.M<|ln c) (cond (cond (zbX a.M<|ln c) false true) (some [.one<|.s .bare<|zcJ c,.agg [.b false,.i .i64 0]])<|cond (inb a.M<|ln c) (cond (ztk (ix c a.M zdf) a) (cond (zW<|zja (ix c a.M zdf) a) (cond (inb a.M<|ln<|zcJ c) (p0 (up (zcJ c) a.M<|zO<|zja (ix c a.M zdf) a) λd=>some [.one<|.s .bare d,.agg [.b (zjb (ix c a.M zdf) a).Ok,.i .i64 (zjb (ix c a.M zdf) a).N]]) none) none) none) none) none) none) none) none) none)
def zWK (N:Nat)(a:List ai)(b:r0):evalFn (cQ z6B zo6 zBQ zMe) (zo []) N 12 33 [.one<|.s .bare a,.agg<|Ty.cells .act b]=zwb N a b:=by kernel_rfl
def zSg (a:List ai)(b:r0)(f:zbE big [.one<|.s .bare a,.agg<|Ty.cells .act b])(c:zrd a b=true):∃N,zwb N a b=some [.one<|.s .bare<|zd7 a b,.agg<|Ty.cells .told<|zdT a b]:=by have d:=(zF.1 c).1;have e:j0 b.M (ln a)=true->SmB (ix a b.M zdf):=λh=>z0p d h _;have j:j0 b.M (ln a)=true->SmB (zpB (ix a b.M zdf) b):=λh=>z0o (e h);have i:a.length<=1048576:=d.1;have g:=zbfC (zF.1 c).2;refine⟨0,?_⟩;unfold zwb;refine i0 (by first|assumption|(simp_all<;>omega)) (i0 rfl (brN (λ_=>?_) λ_=>i0 rfl (br (λ_=>?_) λ_=>i0 rfl (brN (λ_=>br (λ_=>?_) λ_=>i0 rfl (brN (λ_=>?_) λ_=>i0 (by first|assumption|(simp_all<;>omega)) (i0 (by first|assumption|(simp_all<;>omega))<|i0 (by first|assumption|(simp_all<;>omega))<|i0 (by first|assumption|(simp_all<;>omega))<|shr ?_))) λ_=>i0 rfl (brN (λ_=>?_) λ_=>i0 (by first|assumption|(simp_all<;>omega)) (i0 (by first|assumption|(simp_all<;>omega))<|i0 (by first|assumption|(simp_all<;>omega))<|i0 (by first|assumption|(simp_all<;>omega))<|shr ?_))))));all_goals first|rfl|(simp only [*,zd7,zdT,zvj,zA8,cT,cF]<;>rfl)|simp_all[Ty.cells,zd7,zdT,zvj,zA8]
def zwy:vP 33 zAu:=zBy z6C zq zu zn (ziX (by kernel_rfl)) λb f c h=>by unfold zAu at h;split at h;{rename_i a k m g x y z;obtain⟨d,rfl⟩:=zd4 h;obtain⟨N,e⟩:=zSg a ⟨k,m,g,x,y,z⟩ c d;exact⟨zo [],N,(zWK N a ⟨k,m,g,x,y,z⟩).trans e⟩};{cases h}
def zbej {b:ai}{a:r0}(h:a.Kind=12):zpB b a=b:=by unfold zpB;rw[h];rfl
def zbcO {b:ai}{a:r0}(h:a.Kind=12):zxy b a=⟨zir b a.G a.X 1,znc b a.G a.X⟩:=by unfold zxy;rw[h];rfl
@[simp] abbrev zzr (b:ai)(a:r0):Bool:=pc (SmB b/\a.Kind=12)
def zxh:LW
 |[.agg [.s (.sl .int) m,.s .guest g,.s .int o,.i .i64 p],.agg [.i .i64 k,.i .i64 q,.i .i64 u,.i .i64 x,.i .i64 y,.i .i64 z]]=>some (zzr ⟨m,g,o,p⟩ ⟨k,q,u,x,y,z⟩,[.agg [.b<|zir ⟨m,g,o,p⟩ u x 1,.i .i64<|znc ⟨m,g,o,p⟩ u x]])
 |_=>none
def zZZ {w:World}{v:Value}{t:Ty}{l:List t.den}{S:zbd}(h:Rep false w v (.s t l) S):∃p n q,v = .slice p n q:=by obtain⟨⟨a,b,c,_⟩,_⟩:=h.len;exact⟨a,_,b,c⟩
def zQ2:zNe Tryz.prog 155 zxh:=by
 refine⟨ziX (by kernel_rfl),?_⟩;intro w a0 xs rs a j;unfold zxh at j;split at j
 .rename_i m g o p k q u x y z;obtain⟨hc,rfl⟩:=zd4 j;obtain⟨G,H⟩:=zF.1 hc;simp only at H;subst H;have hl:xs.length=10:=a.1
  match xs,hl with
  |[V,W,X,Y,Z,A,C,w3,w4,w5],_=>
   have S:Rep false w V (.s (.sl .int) m) (fun b=>b<w.heap.size):=a.2 0 _ V rfl rfl;have T:Rep false w W (.s .guest g) (fun b=>b<w.heap.size):=a.2 1 _ W rfl rfl;have U:Rep false w X (.s .int o) (fun b=>b<w.heap.size):=a.2 2 _ X rfl rfl;have r3:Rep false w Y (.i .i64 p) (fun b=>b<w.heap.size):=a.2 3 _ Y rfl rfl;have s0:Rep false w Z (.i .i64 12) (fun b=>b<w.heap.size):=a.2 4 _ Z rfl rfl;have s1:Rep false w A (.i .i64 q) (fun b=>b<w.heap.size):=a.2 5 _ A rfl rfl;have s2:Rep false w C (.i .i64 u) (fun b=>b<w.heap.size):=a.2 6 _ C rfl rfl;have s3:Rep false w w3 (.i .i64 x) (fun b=>b<w.heap.size):=a.2 7 _ w3 rfl rfl;have s4:Rep false w w4 (.i .i64 y) (fun b=>b<w.heap.size):=a.2 8 _ w4 rfl rfl;have s5:Rep false w w5 (.i .i64 z) (fun b=>b<w.heap.size):=a.2 9 _ w5 rfl rfl;obtain⟨M,I,P,rfl⟩:=zZZ S;obtain⟨N,J,Q,rfl⟩:=zZZ T;obtain⟨O,L,R,rfl⟩:=zZZ U;obtain rfl:=r3.int_inv;obtain rfl:=s0.int_inv;obtain rfl:=s1.int_inv;obtain rfl:=s2.int_inv;obtain rfl:=s3.int_inv;obtain rfl:=s4.int_inv;obtain rfl:=s5.int_inv;refine(zbcP w M N O I J L P Q R p q u x y z (znc ⟨m,g,o,p⟩ u x) (zir ⟨m,g,o,p⟩ u x 1) ?_).mono ?_
   .intro A hB;have h:∀b,b<w.heap.size->A.heap[b]?=w.heap[b]?:=fun b l=>hB.block b l;have B:zeb false A (zI [.agg (Ty.cells .bare ⟨m,g,o,p⟩),.one (.i .i64 u),.one (.i .i64 x)]) [.slice M I P,.slice N J Q,.slice O L R,.int .i64 p,.int .i64 u,.int .i64 x] (fun _ b=>b<A.heap.size):=by
     refine⟨rfl,fun i c v f d=>?_⟩
     match i,f,d with
     | 0,f,d=>cases f;cases d;exact(S.frame h).weak (fun b l=>jB l hB.size)
     | 1,f,d=>cases f;cases d;exact(T.frame h).weak (fun b l=>jB l hB.size)
     | 2,f,d=>cases f;cases d;exact(U.frame h).weak (fun b l=>jB l hB.size)
     | 3,f,d=>cases f;cases d;exact .i _ _ _
     | 4,f,d=>cases f;cases d;exact .i _ _ _
     | 5,f,d=>cases f;cases d;exact .i _ _ _
     |i+6,f,d=>cases d
    have n:zhv [.agg (Ty.cells .bare ⟨m,g,o,p⟩),.one (.i .i64 u),.one (.i .i64 x)]=some (true,[.one (.i .i64 (znc ⟨m,g,o,p⟩ u x)),.one (.b (zir ⟨m,g,o,p⟩ u x 1))]):=by show some (zjQ ⟨m,g,o,p⟩ u x,_)=_;rw[show zjQ ⟨m,g,o,p⟩ u x=true from zba G]
    refine(zqc.2 A _ _ _ B n).mono ?_;intro e C E;cases e with
    |panicked D=>exact E.elim
    |outgrown=>exact E.elim
    |returned v=>
     obtain⟨hg,ys,K,t,rfl,a1⟩:=E;have F:ys.length=2:=t.1
     match ys,F with
     |[y0,y1],_=>have e0:Rep true C y0 (.i .i64 (znc ⟨m,g,o,p⟩ u x)) (K 0):=t.2 0 _ y0 rfl rfl;have e1:Rep true C y1 (.b (zir ⟨m,g,o,p⟩ u x 1)) (K 1):=t.2 1 _ y1 rfl rfl;obtain rfl:=e0.int_inv;obtain rfl:=e1.bool_inv;exact⟨rfl,⟨hg.os,hg.tape,hg.output,hg.size,hg.keep⟩⟩
   .rintro r w' ⟨rfl,hB⟩;refine⟨⟨hB.os,hB.tape,hB.output,hB.size,fun b l=>hB.block b l⟩,[.bool (zir ⟨m,g,o,p⟩ u x 1),.int .i64 (znc ⟨m,g,o,p⟩ u x)],⟨rfl,fun i c v f d=>?_⟩,rfl⟩
    match i,f,d with
    | 0,f,d=>cases f;cases d;exact .b _ _
    | 1,f,d=>cases f;cases d;exact .i _ _ _
    |i+2,f,d=>cases d
 {cases j}
def tctV:zgr:=[(155,[],none,zxh)]++zMe
def zbd2:∀f own a b,zy tctV f=some (own,a,b)->zfg Tryz.prog f own a b:=zqx zn (by
 intro x c;simp only[qG,qN,or_false]at c;subst c;exact zQ2)
@[simp] abbrev zre (l:List ai)(a:r0):Bool:=pc (zwl l/\a.Kind=12)
def zAv:LW
 |[.one<|.s .bare b,.agg [.i .i64 c,.i .i64 d,.i .i64 e,.i .i64 f,.i .i64 g,.i .i64 h]]=>some (zre b (⟨c,d,e,f,g,h⟩:r0),[.one<|.s .bare<|zd7 b (⟨c,d,e,f,g,h⟩:r0),.agg<|Ty.cells .told<|zdT b (⟨c,d,e,f,g,h⟩:r0)])
 |_=>none
def zwc (N:Nat)(c:lR)(a:r0):OA:=
 (cond (zke c) (cond (zeQ a) (cond (cond (zlC a) false true) (some [.one<|.s .bare<|zcJ c,.agg [.b false,.i .i64 0]])<|cond (zfb a.Kind) (cond (zfw a.Kind) (some [.one<|.s .bare<|zcJ c,.agg [.b false,.i .i64 0]])<|cond (zbi a.M<|ln c) (cond (cond (zbX a.M<|ln c) false true) (cond (ieq a.Kind 10) (some [.one<|.s .bare<|zcJ c,.agg [.b false,.i .i64<|-1]])<|cond (zbi a.M<|ln c) (cond (cond (zbX a.M<|ln c) false true) (some [.one<|.s .bare<|zcJ c,.agg [.b false,.i .i64 0]])<|cond (inb a.M<|ln c) (cond (zzr (ix c a.M zdf) a) (cond (zW<|ix c a.M zdf) (cond (inb a.M<|ln<|zcJ c) (p0 (up (zcJ c) a.M<|zO<|ix c a.M zdf) λd=>some [.one<|.s .bare d,.agg [.b<|zir (ix c a.M zdf) a.G a.X 1,.i .i64<|znc (ix c a.M zdf) a.G a.X]]) none) none) none) none) none)<|cond (zbi a.M<|ln c) (cond (cond (zbX a.M<|ln c) false true) (some [.one<|.s .bare<|zcJ c,.agg [.b false,.i .i64 0]])<|cond (inb a.M<|ln c) (cond (zzr (ix c a.M zdf) a) (cond (zW<|ix c a.M zdf) (cond (inb a.M<|ln<|zcJ c) (p0 (up (zcJ c) a.M<|zO<|ix c a.M zdf) λd=>some [.one<|.s .bare d,.agg [.b<|zir (ix c a.M zdf) a.G a.X 1,.i .i64<|znc (ix c a.M zdf) a.G a.X]]) none) none) none) none) none) none) none) none) none)
def zWL (N:Nat)(a:List ai)(b:r0):evalFn (cQ zXX zo6 zBQ tctV) (zo []) N 12 33 [.one<|.s .bare a,.agg<|Ty.cells .act b]=zwc N a b:=by kernel_rfl
def zSh (c:List ai)(a:r0)(j:zbE big [.one<|.s .bare c,.agg<|Ty.cells .act a])(d:zre c a=true):∃N,zwc N c a=some [.one<|.s .bare<|zd7 c a,.agg<|Ty.cells .told<|zdT c a]:=by have f:=(zF.1 d).1;have g:j0 a.M (ln c)=true->SmB (ix c a.M zdf):=λh=>z0p f h _;have l:j0 a.M (ln c)=true->SmB (zpB (ix c a.M zdf) a):=λh=>z0o (g h);have k:c.length<=1048576:=f.1;have e:a.Kind=12:=(zF.1 d).2;have m:=zbej (b:=ix c a.M zdf) e;have i:=zbcO (b:=ix c a.M zdf) e;refine⟨0,?_⟩;unfold zwc;refine i0 (by first|assumption|(simp_all<;>omega)) (i0 rfl (brN (λ_=>?_) λ_=>i0 rfl (br (λ_=>?_) λ_=>i0 rfl (brN (λ_=>br (λ_=>?_) λ_=>i0 rfl (brN (λ_=>?_) λ_=>i0 (by first|assumption|(simp_all<;>omega)) (i0 (by first|assumption|(simp_all<;>omega))<|i0 (by first|assumption|(simp_all<;>omega))<|i0 (by first|assumption|(simp_all<;>omega))<|shr ?_))) λ_=>i0 rfl (brN (λ_=>?_) λ_=>i0 (by first|assumption|(simp_all<;>omega)) (i0 (by first|assumption|(simp_all<;>omega))<|i0 (by first|assumption|(simp_all<;>omega))<|i0 (by first|assumption|(simp_all<;>omega))<|shr ?_))))));all_goals first|rfl|(simp only [*,zd7,zdT,zvj,zA8,cT,cF]<;>rfl)|simp_all[Ty.cells,zd7,zdT,zvj,zA8]
def zKz:vP 33 zAv:=zBy zxC zq zu zbd2 (ziX (by kernel_rfl)) λb f c h=>by unfold zAv at h;split at h;{rename_i a k m g x y z;obtain⟨d,rfl⟩:=zd4 h;obtain⟨N,e⟩:=zSh a ⟨k,m,g,x,y,z⟩ c d;exact⟨zo [],N,(zWL N a ⟨k,m,g,x,y,z⟩).trans e⟩};{cases h}
def zuR:LW
 |[.one<|.s .bare b,.agg [.i .i64 c,.i .i64 d,.i .i64 e,.i .i64 f,.i .i64 g,.i .i64 h]]=>some (zpj b (⟨c,d,e,f,g,h⟩:r0),[.one<|.s .bare<|zd7 b (⟨c,d,e,f,g,h⟩:r0),.agg<|Ty.cells .told<|zdT b (⟨c,d,e,f,g,h⟩:r0)])
 |_=>none
def zNM:vP 33 zuR:=by refine⟨zwy.1,?_⟩;intro w m l p h g;unfold zuR at g;split at g;{rename_i j a b c d e f;obtain⟨n,rfl⟩:=zd4 g;have k:=zF.1 n;cases i:ieq a 12;{refine zwy.2 w _ l _ h ?_;show some (zrd j ⟨a,b,c,d,e,f⟩,_)=_;rw[show zrd j ⟨a,b,c,d,e,f⟩=true from zba ⟨k,i⟩]};{refine zKz.2 w _ l _ h ?_;show some (zre j ⟨a,b,c,d,e,f⟩,_)=_;rw[show zre j ⟨a,b,c,d,e,f⟩=true from zba ⟨k,qD i⟩]}};{cases g}
def zga (x y:LI):Bool:=pc (x=y)
def zAC:Run:=rF2 (dS .int) (dS .int) λb c=>(zga b c,[aB<|zdp b c])
def zTz:=zo [(50,0,{n:=26,tm:=[(0,.sl 0 []),(1,.sl 1 []),(5,ti)],lo:=[],ro:=[(0,.int,false),(1,.int,false)]})]
def zSG (a b:LI)(d:zbE big [aS .int a,aS .int b])(e:zga a b=true):∃N,zs8 N a b=some [aB<|zdp a b]:=by have:=zF.1 e;subst this;have f:=len0 d;refine⟨a.length+1,?_⟩;unfold zs8 oN;rw[zcj];refine zit a zbfS _ _ f (λi c rec=>?_) (λrec=>?_) (jU _);{simp only [zbw c,zbc c,zbn c,zkW,zcj,zcX,zdg,cT,cF,jQ,jR]};{simp only [zbq,cF,zdp]}
def zKZ:vP 50 zAC:=hF2 zeS zY zu zn zTz zSG
def zkf (x y:List Bool):Bool:=pc (x=y)
def zkV (_ _:List Bool):Bool:=true
def zyp:Run:=rF2 (dS .bool) (dS .bool) λb c=>(zkf b c,[aB<|zkV b c])
def zCv (N:Nat)(b c:lB):OA:=
 (cond (ine (ln b)<|ln c) oF<|q0 (σ:=(Int×lB×lB×Unit)) N (λd a=>cond (ilt a.1<|ln a.2.1) (oN (inb a.1<|ln a.2.1)<|oN (inb a.1<|ln a.2.2.1)<|cond (nB<|zhn (ix a.2.1 a.1 false)<|ix a.2.2.1 a.1 false) oF<|d (zM .i64 a.1 1,a.2.1,a.2.2.1,())) oT) (0,b,c,()))
def zQn:=zo [(194,0,{n:=26,tm:=[(0,.sl 0 []),(1,.sl 1 []),(5,ti)],lo:=[],ro:=[(0,.bool,false),(1,.bool,false)]})]
def zO4 (a b:List Bool)(d:zbE big [aS .bool a,aS .bool b])(e:zkf a b=true):∃N,zCv N a b=some [aB<|zkV a b]:=by have:=zF.1 e;subst this;have f:=len0 d;refine⟨a.length+1,?_⟩;unfold zCv oN nB;rw[zcj];refine zit a zbfe _ _ f (λi c rec=>?_) (λrec=>?_) (jU _);{simp only [zbw c,zbc c,zbn c,zkW,zcj,zcX,zdg,cT,cF,jQ,jR]};{simp only [zbq,cF,zkV]}
def zHc:vP 194 zyp:=hF2 zeS zY zu zn zQn zO4
def zeh (x y:List k0):Bool:=pc (x=y)
def zet (_ _:List k0):Bool:=true
def zni:Run:=rF2 (dS .slot) (dS .slot) λb c=>(zeh b c,[aB<|zet b c])
def zpz (N:Nat)(b c:lS):OA:=
 (cond (ine (ln b)<|ln c) oF<|q0 (σ:=(Int×lS×lS×Unit)) N (λf a=>let e:=ix a.2.1 a.1 zX;let d:=ix a.2.2.1 a.1 zX; (cond (ilt a.1<|ln a.2.1) (oN (inb a.1<|ln a.2.1)<|oN (inb a.1<|ln a.2.2.1)<|cond (nB<|cond (ieq e.af d.af) (ieq e.an d.an) false) oF<|f (zM .i64 a.1 1,a.2.1,a.2.2.1,())) oT)) (0,b,c,()))
def zQq:=zo [(193,0,{n:=26,tm:=[(0,.sl 0 []),(1,.sl 1 []),(5,ti)],lo:=[],ro:=[(0,.slot,false),(1,.slot,false)]})]
def zO8 (a b:List k0)(d:zbE big [aS .slot a,aS .slot b])(e:zeh a b=true):∃N,zpz N a b=some [aB<|zet a b]:=by
 have:=zF.1 e;subst this;have f:=len0 d;refine⟨a.length+1,?_⟩;unfold zpz oN nB;conv=>zeta
 rw[zcj];refine zit a zX _ _ f (λi c rec=>?_) (λrec=>?_) (jU _);{simp only [zbw c,zbc c,zbn c,zkW,zcj,zcX,zdg,cT,cF,jQ,jR]};{simp only [zbq,cF,zet]}
def zHg:vP 193 zni:=hF2 zeS zY zu zn zQq zO8
def zlu (x y:List au):Bool:=pc (x=y)
def zlt (_ _:List au):Bool:=true
def zw4:Run:=rF2 (dS .entry) (dS .entry) λb c=>(zlu b c,[aB<|zlt b c])
def zzD (N:Nat)(d e:lE):OA:=
 (cond (ine (ln d)<|ln e) oF<|q0 (σ:=(Int×lE×lE×Unit)) N (λf a=>let c:=ix a.2.1 a.1 zfW;let b:=ix a.2.2.1 a.1 zfW; (cond (ilt a.1<|ln a.2.1) (oN (inb a.1<|ln a.2.1)<|oN (inb a.1<|ln a.2.2.1)<|cond (nB<|cond (ieq c.Tag b.Tag) (cond (ieq c.af b.af) (cond (ieq c.ad b.ad) (ieq c.an b.an) false) false) false) oF<|f (zM .i64 a.1 1,a.2.1,a.2.2.1,())) oT)) (0,d,e,()))
def zMi:=zo [(117,0,{n:=26,tm:=[(0,.sl 0 []),(1,.sl 1 []),(5,ti)],lo:=[],ro:=[(0,.entry,false),(1,.entry,false)]})]
def zLH (a b:List au)(d:zbE big [aS .entry a,aS .entry b])(e:zlu a b=true):∃N,zzD N a b=some [aB<|zlt a b]:=by
 have:=zF.1 e;subst this;have f:=len0 d;refine⟨a.length+1,?_⟩;unfold zzD oN nB;conv=>zeta
 rw[zcj];refine zit a zfW _ _ f (λi c rec=>?_) (λrec=>?_) (jU _);{simp only [zbw c,zbc c,zbn c,zkW,zcj,zcX,zdg,cT,cF,jQ,jR]};{simp only [zbq,cF,zlt]}
def zFn:vP 117 zw4:=hF2 zeS zY zu zn zMi zLH
def zjL (x y:List Ins):Bool:=pc (x=y)
def zi1 (_ _:List Ins):Bool:=true
def zoy:Run:=rF2 (dS .ins) (dS .ins) λb c=>(zjL b c,[aB<|zi1 b c])
def zqT (N:Nat)(b c:lI):OA:=
 (cond (ine (ln b)<|ln c) oF<|q0 (σ:=(Int×lI×lI×Unit)) N (λf a=>let e:=ix a.2.1 a.1 zsx;let d:=ix a.2.2.1 a.1 zsx; (cond (ilt a.1<|ln a.2.1) (oN (inb a.1<|ln a.2.1)<|oN (inb a.1<|ln a.2.2.1)<|cond (nB<|cond (ieq e.Op d.Op) (ieq e.X d.X) false) oF<|f (zM .i64 a.1 1,a.2.1,a.2.2.1,())) oT)) (0,b,c,()))
def zTy:=zo [(440,0,{n:=26,tm:=[(0,.sl 0 []),(1,.sl 1 []),(5,ti)],lo:=[],ro:=[(0,.ins,false),(1,.ins,false)]})]
def zSF (a b:List Ins)(d:zbE big [aS .ins a,aS .ins b])(e:zjL a b=true):∃N,zqT N a b=some [aB<|zi1 a b]:=by
 have:=zF.1 e;subst this;have f:=len0 d;refine⟨a.length+1,?_⟩;unfold zqT oN nB;conv=>zeta
 rw[zcj];refine zit a zsx _ _ f (λi c rec=>?_) (λrec=>?_) (jU _);{simp only [zbw c,zbc c,zbn c,zkW,zcj,zcX,zdg,cT,cF,jQ,jR]};{simp only [zbq,cF,zi1]}
def zKY:vP 440 zoy:=hF2 zeS zY zu zn zTy zSF
def z7a:zbb:=[(50,zAC),(194,zyp),(193,zni),(117,zw4),(440,zoy)]++zQM
def zxE:zN z7a:=zh zKZ (zh zHc<|zh zHg<|zh zFn<|zh zKY zeS)
def ze1 (x y:List LI):Bool:=pc (x=y)
def ze7 (_ _:List LI):Bool:=true
def znh:Run:=rF2 (dS<|.sl .int) (dS<|.sl .int) λb c=>(ze1 b c,[aB<|ze7 b c])
def zCy (N:Nat)(b:lM)(c:lM):OA:=
 (cond (ine (ln b)<|ln c) oF<|q0 (σ:=(Int×lM×lM×Unit)) N (λd a=>cond (ilt a.1<|ln a.2.1) (oN (inb a.1<|ln a.2.1)<|oN (inb a.1<|ln a.2.2.1)<|oN (zga (ix a.2.1 a.1 [])<|ix a.2.2.1 a.1 [])<|cond (nB<|zdp (ix a.2.1 a.1 [])<|ix a.2.2.1 a.1 []) oF<|d (zM .i64 a.1 1,a.2.1,a.2.2.1,())) oT) (0,b,c,()))
def zQp:=zo [(115,0,{n:=27,tm:=[(0,.sl 0 []),(1,.sl 1 []),(5,ti)],lo:=[],ro:=[(0,.sl .int,false),(1,.sl .int,false)]})]
def zO7 (a:List LI)(b:List LI)(d:zbE big [aS (.sl .int) a,aS (.sl .int) b])(e:ze1 a b=true):∃N,zCy N a b=some [aB<|ze7 a b]:=by have:=zF.1 e;subst this;have f:=len0 d;refine⟨a.length+1,?_⟩;unfold zCy oN nB;rw[zcj];refine zit a (Ty.dflt<|.sl .int) _ _ f (λi c rec=>?_) (λrec=>?_) (jU _);{simp only [zbw c,zbc c,zbn c,zga,zdp,zkW,zcj,zcX,zdg,cT,cF,jQ,jR]};{simp only [zbq,cF,ze7]}
def zHf:vP 115 znh:=hF2 zxE zY zu zn zQp zO7
def zrk (x y:aA):Bool:=pc (x=y)
def zrj (_ _:aA):Bool:=true
def zAD:Run:=rF2 (dT .kept) (dT .kept) λb c=>(zrk b c,[aB<|zrj b c])
def zEf (N:Nat)(a b:aA):OA:=
 (oN (zkf a.ay b.ay)<|cond (zkV a.ay b.ay) (oN (zeh a.az b.az)<|some [aB<|zet a.az b.az]) oF)
def zSH (a b:aA)(c:zrk a b=true):∃N,zEf N a b=some [aB<|zrj a b]:=by have:=zF.1 c;subst this;refine⟨0,?_⟩;simp only[zEf,zkf,zkV,zeh,zet,zkW,zcj,zcX,zdg,cT,cF,jQ,jR,zrj]
def zK1:vP 367 zAD:=kF2 zxE zY zu zn (zo []) zSH
def zkg (x y:ah):Bool:=pc (x=y)
def zjc (_ _:ah):Bool:=true
def zng:Run:=rF2 (dT .guest) (dT .guest) λb c=>(zkg b c,[aB<|zjc b c])
def zCw (N:Nat)(a b:ah):OA:=
 (oN (zjL a.aw b.aw)<|cond (zi1 a.aw b.aw) (cond (ieq a.A b.A) (cond (ieq a.Pc b.Pc) (oN (zeh a.ar b.ar)<|cond (zet a.ar b.ar) (oN (zeh a.ax b.ax)<|cond (zet a.ax b.ax) (cond (cond (ieq a.Ctl.aq b.Ctl.aq) (cond (ieq a.Ctl.Post b.Ctl.Post) (zhn a.Ctl.Open b.Ctl.Open) false) false) (cond (ieq a.aj b.aj) (cond (cond (ieq a.Exit.Kind b.Exit.Kind) (cond (ieq a.Exit.af b.Exit.af) (cond (zhn a.Exit.Write b.Exit.Write) (ieq a.Exit.N b.Exit.N) false) false) false) (cond (zhn a.aF b.aF) (oN (zga a.aC b.aC)<|some [aB<|zdp a.aC b.aC]) oF) oF) oF) oF) oF) oF) oF) oF) oF)
def zO5 (a b:ah)(c:zkg a b=true):∃N,zCw N a b=some [aB<|zjc a b]:=by have:=zF.1 c;subst this;refine⟨0,?_⟩;simp only[zCw,zjL,zi1,zeh,zet,zga,zdp,zkW,zcj,zcX,zdg,cT,cF,jQ,jR,zjc]
def zHd:vP 356 zng:=kF2 zxE zY zu zn (zo []) zO5
def z7b:zbb:=[(115,znh),(367,zAD),(356,zng)]++z7a
def zE1:zN z7b:=zh zHf (zh zK1<|zh zHd zxE)
def zpF (x y:List aA):Bool:=pc (x=y)
def zpf (_ _:List aA):Bool:=true
def zyq:Run:=rF2 (dS .kept) (dS .kept) λb c=>(zpF b c,[aB<|zpf b c])
def zCx (N:Nat)(b c:lK):OA:=
 (cond (ine (ln b)<|ln c) oF<|q0 (σ:=(Int×lK×lK×Unit)) N (λf a=>let e:=ix a.2.1 a.1 zec;let d:=ix a.2.2.1 a.1 zec; (cond (ilt a.1<|ln a.2.1) (oN (inb a.1<|ln a.2.1)<|oN (inb a.1<|ln a.2.2.1)<|oN (zrk e d)<|cond (nB<|zrj e d) oF<|f (zM .i64 a.1 1,a.2.1,a.2.2.1,())) oT)) (0,b,c,()))
def zQo:=zo [(195,0,{n:=27,tm:=[(0,.sl 0 []),(1,.sl 1 []),(5,ti)],lo:=[],ro:=[(0,.kept,false),(1,.kept,false)]})]
def zO6 (a b:List aA)(d:zbE big [aS .kept a,aS .kept b])(e:zpF a b=true):∃N,zCx N a b=some [aB<|zpf a b]:=by
 have:=zF.1 e;subst this;have f:=len0 d;refine⟨a.length+1,?_⟩;unfold zCx oN nB;conv=>zeta
 rw[zcj];refine zit a zec _ _ f (λi c rec=>?_) (λrec=>?_) (jU _);{simp only [zbw c,zbc c,zbn c,zrk,zrj,zkW,zcj,zcX,zdg,cT,cF,jQ,jR]};{simp only [zbq,cF,zpf]}
def zHe:vP 195 zyq:=hF2 zE1 zY zu zn zQo zO6
def zfM (x y:List ah):Bool:=pc (x=y)
def zfs (_ _:List ah):Bool:=true
def zml:Run:=rF2 (dS .guest) (dS .guest) λb c=>(zfM b c,[aB<|zfs b c])
def zoc (N:Nat)(b c:lG):OA:=
 (cond (ine (ln b)<|ln c) oF<|q0 (σ:=(Int×lG×lG×Unit)) N (λf a=>let e:=ix a.2.1 a.1 zA;let d:=ix a.2.2.1 a.1 zA; (cond (ilt a.1<|ln a.2.1) (oN (inb a.1<|ln a.2.1)<|oN (inb a.1<|ln a.2.2.1)<|oN (zkg e d)<|cond (nB<|zjc e d) oF<|f (zM .i64 a.1 1,a.2.1,a.2.2.1,())) oT)) (0,b,c,()))
def zMj:=zo [(175,0,{n:=27,tm:=[(0,.sl 0 []),(1,.sl 1 []),(5,ti)],lo:=[],ro:=[(0,.guest,false),(1,.guest,false)]})]
def zLI (a b:List ah)(d:zbE big [aS .guest a,aS .guest b])(e:zfM a b=true):∃N,zoc N a b=some [aB<|zfs a b]:=by
 have:=zF.1 e;subst this;have f:=len0 d;refine⟨a.length+1,?_⟩;unfold zoc oN nB;conv=>zeta
 rw[zcj];refine zit a zA _ _ f (λi c rec=>?_) (λrec=>?_) (jU _);{simp only [zbw c,zbc c,zbn c,zkg,zjc,zkW,zcj,zcX,zdg,cT,cF,jQ,jR]};{simp only [zbq,cF,zfs]}
def zFo:vP 175 zml:=hF2 zE1 zY zu zn zMj zLI
def z7c:zbb:=[(195,zyq),(175,zml)]++z7b
def zE2:zN z7c:=zh zHe (zh zFo zE1)
def ztm (x y:Mon):Bool:=pc (x=y)
def zue (_ _:Mon):Bool:=true
def zDd:Run:=rF2 (dT .mon) (dT .mon) λb c=>(ztm b c,[aB<|zue b c])
def zIs (N:Nat)(a b:Mon):OA:=
 (oN (zeh a.ae b.ae)<|cond (zet a.ae b.ae) (oN (ze1 a.Out b.Out)<|cond (ze7 a.Out b.Out) (oN (zkf a.av b.av)<|cond (zkV a.av b.av) (oN (zfM a.ac b.ac)<|cond (zfs a.ac b.ac) (oN (zga a.Outs b.Outs)<|cond (zdp a.Outs b.Outs) (cond (ieq a.aj b.aj) (cond (ieq a.aq b.aq) (oN (zpF a.ak b.ak)<|cond (zpf a.ak b.ak) (some [aB<|ieq a.Own b.Own]) oF) oF) oF) oF) oF) oF) oF) oF)
def zWb (a b:Mon)(c:ztm a b=true):∃N,zIs N a b=some [aB<|zue a b]:=by have:=zF.1 c;subst this;refine⟨0,?_⟩;simp only[zIs,zeh,zet,ze1,ze7,zkf,zkV,zfM,zfs,zga,zdp,zpF,zpf,zkW,zcj,zcX,zdg,cT,cF,jQ,jR,zue]
def zN7:vP 69 zDd:=kF2 zE2 zY zu zn (zo []) zWb
def zls (x y:ai):Bool:=pc (x=y)
def zkv (_ _:ai):Bool:=true
def zox:Run:=rF2 (dT .bare) (dT .bare) λb c=>(zls b c,[aB<|zkv b c])
def zEd (N:Nat)(a b:ai):OA:=
 (oN (ze1 a.ag b.ag)<|cond (ze7 a.ag b.ag) (oN (zfM a.ac b.ac)<|cond (zfs a.ac b.ac) (oN (zga a.Outs b.Outs)<|cond (zdp a.Outs b.Outs) (some [aB<|ieq a.aj b.aj]) oF) oF) oF)
def zSD (a b:ai)(c:zls a b=true):∃N,zEd N a b=some [aB<|zkv a b]:=by have:=zF.1 c;subst this;refine⟨0,?_⟩;simp only[zEd,ze1,ze7,zfM,zfs,zga,zdp,zkW,zcj,zcX,zdg,cT,cF,jQ,jR,zkv]
def zKW:vP 53 zox:=kF2 zE2 zY zu zn (zo []) zSD
def z7d:zbb:=[(69,zDd),(53,zox)]++z7c
def zE3:zN z7d:=zh zN7 (zh zKW zE2)
def zrm (x y:List Mon):Bool:=pc (x=y)
def zrl (_ _:List Mon):Bool:=true
def zAE:Run:=rF2 (dS .mon) (dS .mon) λb c=>(zrm b c,[aB<|zrl b c])
def zEg (N:Nat)(b c:lN):OA:=
 (cond (ine (ln b)<|ln c) oF<|q0 (σ:=(Int×lN×lN×Unit)) N (λf a=>let e:=ix a.2.1 a.1 zi;let d:=ix a.2.2.1 a.1 zi; (cond (ilt a.1<|ln a.2.1) (oN (inb a.1<|ln a.2.1)<|oN (inb a.1<|ln a.2.2.1)<|oN (ztm e d)<|cond (nB<|zue e d) oF<|f (zM .i64 a.1 1,a.2.1,a.2.2.1,())) oT)) (0,b,c,()))
def zTA:=zo [(116,0,{n:=27,tm:=[(0,.sl 0 []),(1,.sl 1 []),(5,ti)],lo:=[],ro:=[(0,.mon,false),(1,.mon,false)]})]
def zSI (a b:List Mon)(d:zbE big [aS .mon a,aS .mon b])(e:zrm a b=true):∃N,zEg N a b=some [aB<|zrl a b]:=by
 have:=zF.1 e;subst this;have f:=len0 d;refine⟨a.length+1,?_⟩;unfold zEg oN nB;conv=>zeta
 rw[zcj];refine zit a zi _ _ f (λi c rec=>?_) (λrec=>?_) (jU _);{simp only [zbw c,zbc c,zbn c,ztm,zue,zkW,zcj,zcX,zdg,cT,cF,jQ,jR]};{simp only [zbq,cF,zrl]}
def zK2:vP 116 zAE:=hF2 zE3 zY zu zn zTA zSI
def zpE (x y:List ai):Bool:=pc (x=y)
def zpe (_ _:List ai):Bool:=true
def zru:Run:=rF2 (dS .bare) (dS .bare) λb c=>(zpE b c,[aB<|zpe b c])
def zCu (N:Nat)(b c:lR):OA:=
 (cond (ine (ln b)<|ln c) oF<|q0 (σ:=(Int×lR×lR×Unit)) N (λf a=>let e:=ix a.2.1 a.1 zdf;let d:=ix a.2.2.1 a.1 zdf; (cond (ilt a.1<|ln a.2.1) (oN (inb a.1<|ln a.2.1)<|oN (inb a.1<|ln a.2.2.1)<|oN (zls e d)<|cond (nB<|zkv e d) oF<|f (zM .i64 a.1 1,a.2.1,a.2.2.1,())) oT)) (0,b,c,()))
def zQm:=zo [(25,0,{n:=27,tm:=[(0,.sl 0 []),(1,.sl 1 []),(5,ti)],lo:=[],ro:=[(0,.bare,false),(1,.bare,false)]})]
def zO3 (a b:List ai)(d:zbE big [aS .bare a,aS .bare b])(e:zpE a b=true):∃N,zCu N a b=some [aB<|zpe a b]:=by
 have:=zF.1 e;subst this;have f:=len0 d;refine⟨a.length+1,?_⟩;unfold zCu oN nB;conv=>zeta
 rw[zcj];refine zit a zdf _ _ f (λi c rec=>?_) (λrec=>?_) (jU _);{simp only [zbw c,zbc c,zbn c,zls,zkv,zkW,zcj,zcX,zdg,cT,cF,jQ,jR]};{simp only [zbq,cF,zpe]}
def zu6:vP 25 zru:=hF2 zE3 zY zu zn zQm zO3
def zbez:zbb:=[(116,zAE),(25,zru)]++z7d
def z7e:zN zbez:=zh zK2 (zh zu6 zE3)
def zwN (x y:ad):Bool:=pc (x=y)
def zvx (_ _:ad):Bool:=true
def zAB:Run:=rF2 dH dH λb c=>(zwN b c,[aB<|zvx b c])
def zEe (N:Nat)(a b:ad):OA:=
 (oN (ze1 a.ag b.ag)<|cond (ze7 a.ag b.ag) (oN (zrm a.aa b.aa)<|cond (zrl a.aa b.aa) (oN (zlu a.ao b.ao)<|cond (zlt a.ao b.ao) (oN (zlu a.am b.am)<|some [aB<|zlt a.am b.am]) oF) oF) oF)
def zSE (a b:ad)(c:zwN a b=true):∃N,zEe N a b=some [aB<|zvx a b]:=by have:=zF.1 c;subst this;refine⟨0,?_⟩;simp only[zEe,ze1,ze7,zrm,zrl,zlu,zlt,zkW,zcj,zcX,zdg,cT,cF,jQ,jR,zvx]
def zKX:vP 24 zAB:=kF2 z7e zY zu zn (zo []) zSE
def zbt {i n:Int}:j0 i n=true↔0<=i/\i<n:=by unfold j0;exact decide_eq_true_iff
def zo1 {x a b:Int}:zl x a b=true↔a<=x/\x<=b:=by simp[zl,ige,ile]
def zef {x y:Int}:ieq x y=true↔x=y:=by simp[ieq]
def z3h {x y:Int}:ine x y=true↔x≠y:=by simp[ine]
def ziR {x y:Int}:ieq x y=false↔x≠y:=by simp[ieq]
def ziE {a b:Bool}:(cond a b false)=true↔a=true/\b=true:=by cases a<;>simp
def zeR {a:Type}(l:List a)(i:Int)(x:a):(up l i x).length=l.length:=by simp[up]
def zjM {a:Type}(l:List a)(i:Int)(x:a):ln (up l i x)=ln l:=by simp[up,ln]
def zOO {a:Type}{l:List a}{i:Int}(h:j0 i (ln l)=true)(d:a):∃k:Nat,∃b:k<l.length,i=(k:Int)/\ix l i d=l[k]:=by rw[zbt]at h;unfold ln at h;refine⟨i.toNat,by omega,by omega,?_⟩;simp[ix,List.getD,qB (show i.toNat<l.length by omega)]
def zz5 {a:Type}{l:List a}{k:Nat}(h:k<l.length)(d:a):ix l (k:Int) d=l[k]:=by simp[ix,List.getD,qB h]
def zGG {a:Type}{l:List a}{i:Int}(h:j0 i (ln l)=true)(d:a):ix l i d∈l:=by obtain⟨k,b,_,e⟩:=zOO h d;rw[e];exact jI b
def zbeX {a:Type}{l:List a}{x:a}(h:x∈l)(d:a):∃i,j0 i (ln l)=true/\ix l i d=x:=by obtain⟨k,b,e⟩:=List.mem_iff_getElem.1 h;exact⟨(k:Int),zbt.2 (by unfold ln;omega),(zz5 b d).trans e⟩
def zcz {a:Type}{l:List a}{i:Int}(h:j0 i (ln l)=true)(x d:a):ix (up l i x) i d=x:=by rw[zbt]at h;unfold ln at h;simp[ix,up,List.getD,show i.toNat<l.length by omega]
def zdP {a:Type}{l:List a}{i j:Int}(b:0<=i)(c:0<=j)(h:i≠j)(x d:a):ix (up l i x) j d=ix l j d:=by have:i.toNat≠j.toNat:=(by omega);simp[ix,up,List.getD,jC,this]
def zbfb {a:Type}(l:List a)(i:Int)(x y:a):up (up l i x) i y=up l i y:=by simp[up]
def zMm {a:Type}{l:List a}{i:Int}(h:j0 i (ln l)=true)(d:a):up l i (ix l i d)=l:=by obtain⟨k,b,rfl,e⟩:=zOO h d;rw[e];simp[up]
def cPg (x:Mon)(q:Int):Nat:=x.ae.countP λs=>ieq s.af q
def ziF (l:List Mon)(q:Int):Nat:=(l.map λx=>cPg x q).sum
def z6v {a:Type}(P:a->Bool){l:List a}{i:Int}(h:j0 i (ln l)=true)(x d:a):(up l i x).countP P+(if P (ix l i d) then 1 else 0)=l.countP P+(if P x then 1 else 0):=by
 obtain⟨k,b,rfl,e⟩:=zOO h d;rw[e];simp only[up,kN,List.countP_set b];have:(if P l[k]=true then 1 else 0)<=l.countP P:=by
  split
  .rename_i hp;exact List.countP_pos_iff.2 ⟨l[k],jI b,hp⟩
  .omega
 omega
def zGf {l:List Mon}{m:Int}(h:j0 m (ln l)=true)(x:Mon)(q:Int):ziF (up l m x) q+cPg (ix l m mZ) q=ziF l q+cPg x q:=by obtain⟨k,a,rfl,e⟩:=zOO h mZ;rw[e];clear h e;unfold up;simp only[kN];induction l generalizing k with|nil=>simp at a|cons y l b=>(cases k with|zero=>simp[ziF];omega|succ k=>have:=b k (by simpa using a);simp[ziF] at this ⊢;omega)
def z9a {l:List Mon}{m p:Int}(a:j0 m (ln l)=true)(b:j0 p (ln (ix l m mZ).ae)=true):1<=ziF l (ix (ix l m mZ).ae p sZ).af:=by have d:1<=cPg (ix l m mZ) (ix (ix l m mZ).ae p sZ).af:=List.countP_pos_iff.2 ⟨_,zGG b sZ,by simp[ieq]⟩;have:=zGf a (⟨[],[],[],[],[],0,0,[],0⟩:Mon) (ix (ix l m mZ).ae p sZ).af;have c:cPg (⟨[],[],[],[],[],0,0,[],0⟩:Mon) (ix (ix l m mZ).ae p sZ).af=0:=rfl;omega
def zJ7 {a b c:Bool}:(cond a b c)=true↔(a=true/\b=true)\/(a=false/\c=true):=by cases a<;>simp
def SOk (s:k0):Prop:=s=A0\/(0<=s.af/\s.af<=11/\1<=s.an/\s.an<=3)
def z0l {a b:k0}(c:a.af=b.af)(d:a.an=b.an):a=b:=by cases a;cases b;simp_all
def zvT {a b:k0}:zdz a b=true↔a=b:=by simp only[zdz,qE,zef];exact⟨λh=>z0l h.1 h.2,λh=>by rw[h];exact⟨rfl,rfl⟩⟩
def zyK {a b:k0}:zdz a b=false↔a≠b:=by rw[<- Bool.not_eq_true,zvT]
def z3z {s:k0}:zfZ s 12=true↔SOk s:=by unfold zfZ SOk;rw[zJ7,zvT,zyK];have:wsub .i64 12 1=11:=(by decide);simp only[this,zJ7,zo1];simp[igt];constructor;{rintro (h|⟨h,⟨a,b⟩,c⟩);{exact .inl h};{exact .inr ⟨a,b,c⟩}};{intro h;by_cases d:s=A0;{exact .inl d};{rcases h with h|⟨a,b,c⟩;{exact .inl h};{exact .inr ⟨d,⟨a,b⟩,c⟩}}}
def SOk.none {s:k0}(h:SOk s)(a:s.af = -1):s=A0:=by rcases h with h|h;{exact h};{omega}
def SOk.pos {s:k0}(h:SOk s)(a:s.af≠-1):0<=s.af/\s.af<=11/\1<=s.an/\s.an<=3:=by rcases h with h|h;{rw [h]at a;exact absurd rfl a};{exact h}
structure MOk (x:Mon):Prop where
 g1:1<=x.ac.length
 g2:x.ac.length<=2
 gt:x.ak.length=x.ac.length
 o8:x.ae.length=8
 sl:∀s∈x.ae,SOk s
 u8:x.Out.length=8
 d8:x.av.length=8
 outs:x.Outs.length<=40
 pend:zhj x.aj=true
 tr:zl x.aq 0 3=true
 own:zl x.Own 0 1000000000=true
 gs:∀g∈x.ac,zey g=true
 fit:∀p,j0 p 8=true->zos (ix x.ae p sZ) (ix x.Out p [])=true
def zXH {P:Nat->Bool}:∀{n i:Nat},zqY P n i=true↔∀j,i<=j->j<i+n->P j=true
 | 0,i=>by simp[zqY];intro j a b;omega
 |n+1,i=>by rw[zqY,qE,zXH];constructor;{rintro⟨a,b⟩ j c d;by_cases e:j=i;{rw [e];exact a};{exact b j (by omega) (by omega)}};{intro h;exact⟨h i (by omega) (by omega),λj a b=>h j (by omega) (by omega)⟩}
def z2C {t:List k0}{n p:Int}:zek t n p=true↔(∀s∈t,zfZ s p=true)/\ln t=n:=by unfold zek;rw[ziE,qP,zef]
def zbdy {x:Mon}:zfQ x=true↔MOk x:=by unfold zfQ;simp only[ziE,zo1,zef,z2C,zXH,qP,ile,jA];constructor;{rintro⟨⟨g,i⟩,m,⟨k,l⟩,n,q,r,e,a,b,c,d⟩;unfold ln at *;refine⟨by omega,by omega,by omega,by omega,λs f=>z3z.1 (k s f),by omega,by omega,by omega,e,zo1.2 a,zo1.2 b,c,λp t=>?_⟩;have u:=zbt.1 t;have:=d p.toNat (by omega) (by omega);unfold fits at this;rwa [show ((p.toNat:Nat):Int)=p by omega] at this};{intro h;obtain⟨g,i,m,k,l,n,q,r,e,a,b,c,d⟩:=h;unfold ln;exact⟨⟨by omega,by omega⟩,by omega,⟨λs f=>z3z.2 (l s f),by omega⟩,by omega,by omega,by omega,e,zo1.1 a,zo1.1 b,c,λj g i=>d (j:Int) (zbt.2 (by omega))⟩}
def zBc (o:List k0)(s:k0)(q:Int):(s::o).countP (λs=>ieq s.af q)=o.countP (λs=>ieq s.af q)+if s.af=q then 1 else 0:=by rw[vJ];simp[ieq]
def zCf:∀{o:List k0} {u:List Bool},(∀s∈o,s.af<u.length)->
 (∀c,ziT o u=some c↔(∀q,0<=q->o.countP (λs=>ieq s.af q)+(if ix u q false then 1 else 0)<=1)/\
  c=(o.foldl (λu s=>bif ilt s.af 0 then u else up u s.af true) u))
 |[],u,h,c=>by simp[ziT];exact⟨λh=>⟨λq _=>by split<;>omega,h.symm⟩,λh=>h.2.symm⟩
 |s::o,u,h,c=>by
  unfold ziT;by_cases g:s.af<0;{have b:ilt s.af 0=true:=qL g;rw[b,cond_true,zCf λy d=>h y (qZ _ d)];simp only[uP,b,cond_true];refine and_congr (forall_congr' λq=>forall_congr' λf=>?_) Iff.rfl;have e:(if s.af=q then 1 else 0)=0:=if_neg (by omega);rw[zBc,e,kA]};{have b:ilt s.af 0=false:=qH g;have k:=h s jJ;have j:j0 s.af (ln u)=true:=zbt.2 ⟨by omega,by unfold ln;omega⟩;rw[b,cond_false];cases i:ix u s.af false with|true=>rw[cond_true];constructor;{intro h;cases h};{rintro⟨h,_⟩;have:=h s.af (by omega);rw[zBc,if_pos rfl,i] at this;simp at this}|false=>rw[cond_false,zCf (λy d=>by rw[zeR];exact h y (qZ _ d))];simp only[uP,b,cond_false];refine and_congr (forall_congr' λq=>forall_congr' λf=>?_) Iff.rfl;rw[zBc];by_cases a:s.af=q;{subst a;rw[zcz j,i];simp};{rw [zdP (by omega) f a,if_neg a,kA]}}
def zMn:∀(o:List k0) (u:List Bool),(o.foldl (λu s=>bif ilt s.af 0 then u else up u s.af true) u).length=u.length
 |[],u=>rfl
 |s::o,u=>by rw[uP,zMn];cases ilt s.af 0<;>simp [zeR]
def zTO:∀(o:List k0) (u:List Bool) (q:Int),0<=q->(∀s∈o,s.af<u.length)->(ix (o.foldl (λu s=>bif ilt s.af 0 then u else up u s.af true) u) q false=true↔ix u q false=true\/1<=o.countP λs=>ieq s.af q)
 |[],u,q,b,h=>by simp
 |s::o,u,q,b,h=>by
  rw[uP,zTO _ _ q b (λy f=>by have:=h y (qZ _ f);cases ilt s.af 0<;>simpa [zeR] using this),zBc];by_cases c:s.af<0;{rw [show ilt s.af 0=true from qL c,cond_true,if_neg (by omega),kA]};{rw [show ilt s.af 0=false from qH c,cond_false];have e:=h s jJ;have d:j0 s.af (ln u)=true:=zbt.2 ⟨by omega,by unfold ln;omega⟩;by_cases a:s.af=q;{subst a;rw[zcz d];simp};{rw [zdP (by omega) b a,if_neg a,kA]}}
def zBA:∀{l:List Mon} {u:List Bool},u.length=12->(zlo l u=true↔(∀x∈l,MOk x)/\∀q,0<=q->ziF l q+(if l≠[]/\ix u q false then 1 else 0)<=1)
 |[],u,c=>by simp[zlo,ziF]
 |x::l,u,c=>by
  unfold zlo;rw[ziE,zbdy];constructor;{rintro⟨f,b⟩;have k:∀s∈x.ae,s.af<u.length:=λs n=>(by rcases f.sl s n with h|h;{rw [h,c];decide};{rw [c];omega});split at b;{rename_i B d;obtain⟨g,rfl⟩:=(zCf k B).1 d;rw[zBA (by rw[zMn,c])]at b;obtain⟨v,w⟩:=b;refine⟨by simpa using ⟨f,v⟩,λq a=>?_⟩;have z:=g q a;have i:=w q a;have m:=zTO x.ae u q a k;simp only[ziF,jG,u2]at i ⊢;unfold cPg at i ⊢;simp only[ne_eq,reduceCtorEq,not_false_eq_true,true_and];by_cases r:l=[];{subst r;simpa using z};{simp only [r,ne_eq,not_false_eq_true,true_and]at i;by_cases j:ix (x.ae.foldl (λu s=>bif ilt s.af 0 then u else up u s.af true) u) q false=true;{rw [if_pos j]at i;omega};{rw [if_neg j]at i;have p:¬ (ix u q false=true\/1<=x.ae.countP λs=>ieq s.af q):=λe=>j (m.2 e);rw[not_or]at p;rw[if_neg p.1];omega}}};{cases b}}
  .rintro⟨f,b⟩;have t:MOk x:=f x jJ;refine⟨t,?_⟩;have k:∀s∈x.ae,s.af<u.length:=λs n=>by rcases t.sl s n with h|h;{rw [h,c];decide};{rw [c];omega}
   have d:=(zCf k _).2 ⟨λq a=>by
    have:=b q a;simp only[ziF,jG,u2,ne_eq,reduceCtorEq,not_false_eq_true,true_and] at this;unfold cPg at this;omega,rfl⟩
   rw[d];simp only;rw[zBA (by rw[zMn,c])];refine⟨λy A=>f y (qZ _ A),λq a=>?_⟩;have g:=b q a;have m:=zTO x.ae u q a k;simp only[ziF,jG,u2,ne_eq,reduceCtorEq,not_false_eq_true,true_and]at g ⊢;unfold cPg at g ⊢;split;{rename_i j;rcases m.1 j.2 with h|h;{rw [if_pos h]at g;omega};{omega}};{omega}
structure HOk (h:ad):Prop where
 m12:h.ag.length=12
 pgs:∀c∈h.ag,zdr c=true
 n1:1<=h.aa.length
 n3:h.aa.length<=3
 b1:zhF h.ao=true
 b2:zhF h.am=true
 mons:∀x∈h.aa,MOk x
 uq:∀q,0<=q->ziF h.aa q<=1
def zQZ {h:ad}:zbW h=true↔HOk h:=by unfold zbW zlf;simp only[ziE,zo1,zef,qP];rw[zBA (by simp[rp])];have g:∀q,ix (rp 12 false) q false=false:=λq=>(by unfold ix rp;rw[kI,kH];split<;>rfl);simp only[g,kS,and_false,if_false,kA];unfold ln;constructor;{rintro⟨⟨e,f⟩,⟨i,j⟩,a,b,c,d⟩;exact⟨by omega,e,by omega,by omega,a,b,c,d⟩};{rintro⟨e,f,i,j,a,b,c,d⟩;exact⟨⟨f,by omega⟩,⟨by omega,by omega⟩,a,b,c,d⟩}
def HOk.mon {h:ad}(H:HOk h){m:Int}(a:j0 m (ln h.aa)=true):MOk (ix h.aa m mZ):=H.mons _ (zGG a _)
def MOk.hasO {x:Mon}(H:MOk x){p:Int}(a:j0 p 8=true):j0 p (ln x.ae)=true:=by rw[ln,H.o8];exact a
def MOk.hasU {x:Mon}(H:MOk x){p:Int}(a:j0 p 8=true):j0 p (ln x.Out)=true:=by rw[ln,H.u8];exact a
def MOk.slot {x:Mon}(H:MOk x){p:Int}(a:j0 p 8=true):SOk (ix x.ae p sZ):=H.sl _ (zGG (H.hasO a) _)
def HOk.up {h:ad}(H:HOk h){m:Int}(k:j0 m (ln h.aa)=true){x:Mon}(l:MOk x){a:ad}(e:a.aa=up h.aa m x)(d:a.ag.length=12)(f:∀c∈a.ag,zdr c=true)(i:zhF a.ao=true)(j:zhF a.am=true)(n:∀q,0<=q->cPg x q<=cPg (ix h.aa m mZ) q\/ziF h.aa q=0/\cPg x q<=1):HOk a:=by refine⟨d,f,by rw[e,zeR];exact H.n1,by rw[e,zeR];exact H.n3,i,j,λy b=>?_,λq g=>?_⟩;{rw [e]at b;unfold E.up at b;rcases jD b with h|h;{exact H.mons y h};{rw [h];exact l}};{rw [e];have p:=zGf k x q;have r:=H.uq q g;have s:=n q g;omega}
structure KOk (k:aA) (inner outer:List k0):Prop where
 l1:k.ay.length=inner.length
 l2:k.az.length=inner.length
 at':∀i,j0 i (ln inner)=true->ix k.az i sZ=bif ix k.ay i false then zdQ (ix inner i sZ) outer else A0
def TOk (x:Mon):Prop:=∀g,j0 g (ln x.ac)=true->KOk (ix x.ak g kZ) (ix x.ac g gZ).ax x.ae
structure Rt (h:ad):Prop where
 t:∀m,j0 m (ln h.aa)=true->TOk (ix h.aa m mZ)
 e1:∀e∈h.ao,zhG h e=true
 e2:∀e∈h.am,zhG h e=true
structure Safe (h:ad):Prop where
 ok:HOk h
 rt:Rt h
def zEP {a b:k0}:below' a b=true↔a=A0\/(a.af=b.af/\enough b.an a.an=true):=by unfold below';rw[zJ7,zvT,zyK,ziE,zef];by_cases h:a=A0<;>simp [h]
def z8Q (x:Int):wand .i64 0 x=0:=by unfold wand;have:(BitVec.ofInt 64 0 &&& BitVec.ofInt 64 x)=0#64:=(by rw[show BitVec.ofInt 64 0=0#64 from rfl,BitVec.zero_and]);show IntKind.wrap .i64 ((BitVec.ofInt 64 0 &&& BitVec.ofInt 64 x).toNat:Int)=0;rw[this];rfl
def z88 {a:k0}(h:below' a A0=true):a=A0:=by rcases zEP.1 h with h|⟨c,b⟩;{exact h};{refine z0l c ?_;unfold enough at b;rw[show A0.an=0 from rfl,z8Q]at b;simp only[ziE,zef]at b;exact b.2.2.symm}
def zxJ {h:ad}{e:au}:zhG h e=true↔j0 (zpy e.Tag) (ln h.aa)=true/\j0 (zn6 e.Tag) (ln (ix h.aa (zpy e.Tag) mZ).ac)=true/\
 below' ⟨e.ad,e.an⟩ (zdQ (zc2 (ix (ix h.aa (zpy e.Tag) mZ).ac (zn6 e.Tag) gZ).ax e.af) (ix h.aa (zpy e.Tag) mZ).ae)=true:=by
 unfold zhG;rw[ziE,ziE]
def z8F {o:List k0}{p q:Int}{s:k0}(a:0<=p)(h:q≠p):zc2 (up o p s) q=zc2 o q:=by unfold zc2;rw[zjM];cases b:j0 q (ln o) with|false=>rfl|true=>rw[cond_true,cond_true,zdP a (zbt.1 b).1<|Ne.symm h]
def zNq {s:k0}{o:List k0}{p:Int}{t:k0}(a:0<=p)(h:s.af≠p):zdQ s (up o p t)=zdQ s o:=by unfold zdQ;rw[z8F a h]
def z4c {s:k0}{o:List k0}:zdQ s o=A0\/(zdQ s o).af=(zc2 o s.af).af:=by unfold zdQ;cases ieq s.af (-1)<;>cases ieq (zc2 o s.af).af (-1)<;>cases ieq (zof s.an (zc2 o s.af).an) 0<;>simp
def zq7 (k:aA)(q:Int):(zct k q).ay.length=k.ay.length/\(zct k q).az.length=k.az.length:=by unfold zct;cases ze6 k q<;>simp [zeR]
def zCO:∀(l:LI) (k:aA),(zf4 k l).ay.length=k.ay.length/\(zf4 k l).az.length=k.az.length
 |[],k=>⟨rfl,rfl⟩
 |q::l,k=>by have a:=zCO l (zct k q);have b:=zq7 k q;exact⟨a.1.trans b.1,a.2.trans b.2⟩
def zJd {k:aA}{q i:Int}(d:k.ay.length=k.az.length)(b:j0 i (ln k.ay)=true) :
 ix (zct k q).ay i false=(cond (ieq q i) false<|ix k.ay i false)/\ix (zct k q).az i sZ=(cond (ieq q i) A0<|ix k.az i sZ):=by
 have c:j0 i (ln k.az)=true:=by unfold ln at b ⊢;rwa [<- d]
 unfold zct ze6
 by_cases e:q=i
 .subst e;simp only[b,c,cond_true,ieq,beq_self_eq_true];exact⟨zcz b _ _,zcz c _ _⟩
 .rw [show ieq q i=false from ziR.2 e]
  by_cases a:j0 q (ln k.ay)=true
  .have hq':j0 q (ln k.az)=true:=by unfold ln at a ⊢;rwa [<- d]
   simp only[a,hq',cond_true,cond_false];exact⟨zdP (zbt.1 a).1 (zbt.1 b).1 e _ _,zdP (zbt.1 a).1 (zbt.1 b).1 e _ _⟩
  .rw [Bool.not_eq_true]at a;simp[a]
def zFb:∀(l:LI) {k:aA} {i:Int},k.ay.length=k.az.length->j0 i (ln k.ay)=true->
 (i∈l->ix (zf4 k l).ay i false=false/\ix (zf4 k l).az i sZ=A0)/\
 (i∉l->ix (zf4 k l).ay i false=ix k.ay i false/\ix (zf4 k l).az i sZ=ix k.az i sZ)
 |[],k,i,d,c=>⟨λh=>by simp at h,λ_=>⟨rfl,rfl⟩⟩
 |q::l,k,i,d,c=>by have b:=zq7 k q;have g:=zJd (q:=q) d c;have f:=zFb l (k:=zct k q) (i:=i) (by rw[b.1,b.2,d]) (by unfold ln at c ⊢;rwa [b.1]);show (_->ix (zf4 (zct k q) l).ay i false=_/\ix (zf4 (zct k q) l).az i sZ=_)/\(_->ix (zf4 (zct k q) l).ay i false=_/\ix (zf4 (zct k q) l).az i sZ=_);by_cases a:i∈l;{refine⟨λ_=>f.1 a,λh=>absurd (qZ _ a) h⟩};{rw [(f.2 a).1,(f.2 a).2,g.1,g.2];by_cases e:q=i;{subst e;simp[ieq]};{rw [ziR.2 e];simp[a,Ne.symm e]}}
def zYC {e:Type}{P:e->Bool}{d:e}:∀{l:List e} {n:Nat} {i:Int},i∈idxs P l n↔∃k:Nat,∃h:k<l.length,i=((n+k:Nat):Int)/\P l[k]=true
 |[],n,i=>by simp[idxs]
 |x::l,n,i=>by
  have g:=@zYC e P d l (n+1) i;unfold idxs;constructor
  .intro h;cases f:P x with
   |true=>rw[f,cond_true,qG]at h;rcases h with h|h;{exact⟨0,by simp,by simpa using h,f⟩};{obtain⟨k,c,b,a⟩:=g.1 h;exact⟨k+1,by simpa using c,by rw[b];congr 1;omega,by simpa using a⟩}
   |false=>rw[f,cond_false]at h;obtain⟨k,c,b,a⟩:=g.1 h;exact⟨k+1,by simpa using c,by rw[b];congr 1;omega,by simpa using a⟩
  {rintro⟨k,c,b,a⟩;cases k with|zero=>simp only[List.getElem_cons_zero]at a;rw[a,cond_true,b];exact jJ|succ k=>have:=g.2 ⟨k,by simpa using c,by rw[b];congr 1;omega,by simpa using a⟩;cases P x;{exact this};{exact qZ _ this}}
def z07 {l:List k0}{p i:Int}:i∈zGo l p↔j0 i (ln l)=true/\(ix l i sZ).af=p:=by unfold zGo;rw[zYC (d:=sZ)];constructor;{rintro⟨k,a,rfl,c⟩;rw[kB,zz5 a];exact⟨zbt.2 (by unfold ln;omega),zef.1 c⟩};{rintro⟨a,b⟩;obtain⟨k,f,rfl,e⟩:=zOO a sZ;exact⟨k,f,by simp,by rw[e]at b;exact zef.2 b⟩}
def z4L {k:aA}{a b:List k0}(h:KOk k a b){p:Int}(j:0<=p)(s:k0):KOk (zl9 k a p) a (up b p s):=by have g:=zCO (zGo a p) k;refine⟨g.1.trans h.l1,g.2.trans h.l2,λi d=>?_⟩;have e:j0 i (ln k.ay)=true:=(by unfold ln at d ⊢;rwa [h.l1]);have f:=zFb (zGo a p) (by rw[h.l1,h.l2]) e;unfold zl9;by_cases c:(ix a i sZ).af=p;{have:=f.1 (z07.2 ⟨d,c⟩);rw[this.1,this.2];rfl};{have:=f.2 (λh=>c (z07.1 h).2);rw[this.1,this.2,h.at' i d,zNq j c]}
def zGh (b:List ah)(p:Int):∀(n:Nat) (a:List aA),(zmB b p n a).length=a.length
 | 0,a=>rfl
 |n+1,a=>by rw[zmB,zeR,zGh b p n]
def zTs (b:List ah)(p:Int):∀(n:Nat) (a:List aA),n<=a.length->∀i,0<=i->ix (zmB b p n a) i kZ=if i<n then zl9 (ix a i kZ) (ix b i gZ).ax p else ix a i kZ
 | 0,a,_,i,c=>by rw[if_neg (by omega)];rfl
 |n+1,a,d,i,c=>by rw[zmB];by_cases e:i=n;{subst e;rw[zcz (by rw[ln,zGh];exact zbt.2 (by omega)),if_pos (by omega),zTs b p n a (by omega) _ c,if_neg (by omega)]};{rw [zdP (by omega) c<|Ne.symm e,zTs b p n a (by omega) i c];by_cases h:i<n;{rw [if_pos h,if_pos (by omega)]};{rw [if_neg h,if_neg (by omega)]}}
def zmA (x:Mon)(p:Int)(s:k0):Mon:={zkb x p x.ak.length with ae:=up x.ae p s}
def z8G {x:Mon}(h:TOk x)(c:x.ak.length=x.ac.length){p:Int}(b:0<=p)(s:k0):TOk (zmA x p s):=by intro g hg;have a:j0 g (ln x.ac)=true:=hg;show KOk (ix (zmB x.ac p x.ak.length x.ak) g kZ) (ix x.ac g gZ).ax (up x.ae p s);rw[zTs _ _ _ _ (qX _) _ (zbt.1 a).1,if_pos (by have:=zbt.1 a;unfold ln at this;omega)];exact z4L (h g a) b s
def zu3 (h:ad)(m p:Int)(s:k0):(zcD h m p s).aa=up h.aa m (zmA (ix h.aa m mZ) p s):=by unfold zcD;cases ine (ix (ix h.aa m zi).ae p zX).af (-1)<;>rfl
def zzl (h:ad)(m p:Int)(s:k0):(zcD h m p s).ag=h.ag:=by unfold zcD;cases ine (ix (ix h.aa m zi).ae p zX).af (-1)<;>rfl
def zU7 (h:ad)(m p:Int)(s:k0):(zcD h m p s).ao=(cond (ieq (ix (ix h.aa m mZ).ae p sZ).af<|-1) h.ao<|flushed h.ao (ix (ix h.aa m mZ).ae p sZ).af)/\
 (zcD h m p s).am=(cond (ieq (ix (ix h.aa m mZ).ae p sZ).af<|-1) h.am<|flushed h.am (ix (ix h.aa m mZ).ae p sZ).af):=by
 unfold zcD
 by_cases e:(ix (ix h.aa m zi).ae p zX).af = -1
 .rw [show ine (ix (ix h.aa m zi).ae p zX).af (-1)=false by simp[ine,e],show ieq (ix (ix h.aa m mZ).ae p sZ).af (-1)=true from zef.2 e]
  exact⟨rfl,rfl⟩
 .rw [show ine (ix (ix h.aa m zi).ae p zX).af (-1)=true from z3h.2 e,show ieq (ix (ix h.aa m mZ).ae p sZ).af (-1)=false from ziR.2 e]
  exact⟨rfl,rfl⟩
def zNt {h k:ad}{m p:Int}{s:k0}(n:j0 m (ln h.aa)=true)(q:j0 p (ln (ix h.aa m mZ).ae)=true){x:Mon}(u:k.aa=up h.aa m x)(t:x.ac=(ix h.aa m mZ).ac)(v:x.ae=up (ix h.aa m mZ).ae p s){e:au}(w:zhG h e=true)(c:(ix (ix h.aa m mZ).ae p sZ).af = -1\/e.ad≠(ix (ix h.aa m mZ).ae p sZ).af):zhG k e=true:=by obtain⟨f,g,b⟩:=zxJ.1 w;rw[zxJ,u,zjM];refine⟨f,?_⟩;by_cases l:m=zpy e.Tag;{rw [<- l]at f g b ⊢;rw[zcz n,t,v];refine⟨g,?_⟩;by_cases j:(zc2 (ix (ix h.aa m mZ).ac (zn6 e.Tag) gZ).ax e.af).af=p;{have a:zdQ (zc2 (ix (ix h.aa m mZ).ac (zn6 e.Tag) gZ).ax e.af) (ix h.aa m mZ).ae=A0\/e.ad≠(zdQ (zc2 (ix (ix h.aa m mZ).ac (zn6 e.Tag) gZ).ax e.af) (ix h.aa m mZ).ae).af:=(by rcases z4c (s:=zc2 (ix (ix h.aa m mZ).ac (zn6 e.Tag) gZ).ax e.af) (o:=(ix h.aa m mZ).ae) with d|d;{exact .inl d};{rw [j]at d;have r:zc2 (ix h.aa m mZ).ae p=ix (ix h.aa m mZ).ae p sZ:=(by unfold zc2;rw[q];rfl);rw[r]at d;rcases c with c|c;{left;unfold zdQ;rw[j,r,c,show ieq (-1) (-1)=true from rfl];cases ieq p (-1)<;>rfl};{exact .inr (by rw[d];exact c)}});have i:(⟨e.ad,e.an⟩:k0)=A0:=(by rcases a with a|a;{rw [a]at b;exact z88 b};{rcases zEP.1 b with h|h;{exact h};{exact absurd h.1 a}});rw[i];exact zEP.2 (.inl rfl)};{rw [zNq (zbt.1 q).1 j];exact b}};{rw [zdP (zbt.1 n).1 (zbt.1 f).1 l];exact⟨g,b⟩}
def zBV {h:ad}(H:Rt h){m p:Int}(d:j0 m (ln h.aa)=true)(q:j0 p (ln (ix h.aa m mZ).ae)=true)(u:(ix h.aa m mZ).ak.length=(ix h.aa m mZ).ac.length)(s:k0):Rt (zcD h m p s):=by have c:=zU7 h m p s;have i:=zu3 h m p s;have f:∀(b:List au),(∀e∈b,zhG h e=true)->∀e∈(cond (ieq (ix (ix h.aa m mZ).ae p sZ).af<|-1) b<|flushed b (ix (ix h.aa m mZ).ae p sZ).af),zhG (zcD h m p s) e=true:=(by intro b c e a;by_cases n:(ix (ix h.aa m mZ).ae p sZ).af = -1;{rw [zef.2 n,cond_true]at a;exact zNt d q i rfl rfl (c e a) (.inl n)};{rw [ziR.2 n,cond_false]at a;obtain⟨j,l⟩:=List.mem_filter.1 a;exact zNt d q i rfl rfl (c e j) (.inr (by simpa [ieq] using l))});refine⟨λk g=>?_,λe a=>f _ H.e1 e (by rwa [c.1]at a),λe a=>f _ H.e2 e (by rwa [c.2]at a)⟩;rw[i]at g ⊢;rw[zjM]at g;by_cases r:m=k;{subst r;rw[zcz d];exact z8G (H.t m d) u (zbt.1 q).1 s};{rw [zdP (zbt.1 d).1 (zbt.1 g).1 r];exact H.t k g}
def zUj:∀(l a:List au),allI (alone<|a++l) l a.length=true↔(∀x∈l,∀y∈a,sameKey x y=false)/\l.Pairwise (λy x=>sameKey x y=false)
 |[],a=>by simp[allI]
 |x::l,a=>by have g:=zUj l (a++[x]);rw[kJ,List.singleton_append,kL,List.length_singleton] at g;rw[allI,qE,g,List.pairwise_cons];have h:alone (a++x::l) a.length x=true↔∀y∈a,sameKey x y=false:=(by unfold alone;rw[kU rfl,qP];simp);rw[h];constructor;{rintro⟨d,e,f⟩;refine⟨λz c y b=>?_,λz c=>e z c x (by simp),f⟩;rcases qG.1 c with rfl|c;{exact d y b};{exact e z c y (by simp[b])}};{rintro⟨d,e,f⟩;refine⟨λy b=>d x (by simp) y b,λz c y b=>?_,f⟩;rcases jK.1 b with b|b;{exact d z (by simp[c]) y b};{rw [qF.1 b];exact e z c}}
def zbcR {l:List au}:zhF l=true↔l.Pairwise (λy x=>sameKey x y=false)/\l.length<=6:=by unfold zhF;have:=zUj l [];simp only[jW,k7] at this;have a:ile (ln l) 6=true↔l.length<=6:=(by rw[ile,jA,ln];omega);rw[ziE,this,a];simp
def z3Z {l:List au}(h:zhF l=true)(P:au->Bool):zhF (l.filter P)=true:=by rw[zbcR]at h ⊢;exact⟨h.1.sublist List.filter_sublist,qT (u4 _ _) h.2⟩
def zI2 {l:List au}(h:zhF l=true)(p:Int):zhF (flushed l p)=true:=z3Z h _
def zXP {x x':Mon}{p:Int}(a:j0 p (ln x.ae)=true){s:k0}(h:x'.ae=up x.ae p s)(q:Int):cPg x' q+(if (ix x.ae p sZ).af=q then 1 else 0)=cPg x q+(if s.af=q then 1 else 0):=by have:=z6v (λs=>ieq s.af q) a s sZ;simp only[zef] at this;unfold cPg;rw[h];exact this
def zzR {s:k0}(d:SOk s){c:LI}:zos s c=true↔(s.af = -1->zdr c=true)/\(s.af≠-1->enough s.an 1=true/\c=[]):=by unfold zos;by_cases e:s=A0;{rw [zvT.2 e,cond_true,e];simp[A0]};{rw [zyK.2 e,cond_false,ziE];have:s.af≠-1:=λh=>e (d.none h);have b:ile (ln c) 0=true↔c=[]:=(by rw[ile,jA,ln,<- uU];omega);rw[b];exact⟨λh=>⟨λa=>absurd a this,λ_=>h⟩,λh=>h.2 this⟩}
structure Chg (x x':Mon) (p:Int) (s:k0) (c:List Int):Prop where
 o:x'.ae=up x.ae p s
 u:x'.Out=up x.Out p c
 g:x'.ac=x.ac
 t:x'.ak.length=x.ak.length
 d:x'.av.length=x.av.length
 a1:x'.Outs=x.Outs
 a2:x'.aj=x.aj
 a3:x'.aq=x.aq
 a4:x'.Own=x.Own
def MOk.chg {x i:Mon}(H:MOk x){p:Int}(a:j0 p 8=true){s:k0}{c:LI}(k:Chg x i p s c)(l:SOk s)(j:zos s c=true):MOk i:=by refine⟨by rw[k.g];exact H.g1,by rw[k.g];exact H.g2,by rw[k.t,k.g];exact H.gt,by rw[k.o,zeR];exact H.o8,λy f=>?_,by rw[k.u,zeR];exact H.u8,by rw[k.d];exact H.d8,by rw[k.a1];exact H.outs,by rw[k.a2];exact H.pend,by rw[k.a3];exact H.tr,by rw[k.a4];exact H.own,by rw[k.g];exact H.gs,λq b=>?_⟩;{rw [k.o]at f;rcases jD f with h|h;{exact H.sl y h};{rw [h];exact l}};{rw [k.o,k.u];by_cases e:p=q;{subst e;rw[zcz<|H.hasO a,zcz<|H.hasU a];exact j};{rw [zdP (zbt.1 a).1 (zbt.1 b).1 e,zdP (zbt.1 a).1 (zbt.1 b).1 e];exact H.fit q b}}
structure Like (h r:ad):Prop where
 len:r.aa.length=h.aa.length
 g:∀i,j0 i (ln h.aa)=true->(ix r.aa i mZ).ac=(ix h.aa i mZ).ac
 o:∀i,j0 i (ln h.aa)=true->(ix r.aa i mZ).Outs=(ix h.aa i mZ).Outs
 p:∀i,j0 i (ln h.aa)=true->(ix r.aa i mZ).aj=(ix h.aa i mZ).aj
 tr:∀i,j0 i (ln h.aa)=true->(ix r.aa i mZ).aq=(ix h.aa i mZ).aq
 ow:∀i,j0 i (ln h.aa)=true->(ix r.aa i mZ).Own=(ix h.aa i mZ).Own
 pg:∀i k,j0 i (ln h.aa)=true->j0 k 8=true->zeB r i k=zeB h i k
def Like.refl (h:ad):Like h h:=⟨rfl,λ_ _=>rfl,λ_ _=>rfl,λ_ _=>rfl,λ_ _=>rfl,λ_ _=>rfl,λ_ _ _ _=>rfl⟩
def Like.trans {a b c:ad}(x:Like a b)(y:Like b c):Like a c:=by have k:∀i,j0 i (ln a.aa)=true->j0 i (ln b.aa)=true:=λi e=>(by unfold ln at e ⊢;rwa [x.len]);exact⟨y.len.trans x.len,λi h=>(y.g i<|k i h).trans (x.g i h),λi h=>(y.o i<|k i h).trans (x.o i h),λi h=>(y.p i<|k i h).trans (x.p i h),λi h=>(y.tr i<|k i h).trans (x.tr i h),λi h=>(y.ow i<|k i h).trans (x.ow i h),λi q h d=>(y.pg i q (k i h) d).trans (x.pg i q h d)⟩
def Like.has {h r:ad}(k:Like h r){i:Int}:j0 i (ln r.aa)=j0 i (ln h.aa):=by unfold ln;rw[k.len]
def zy6 {h r:ad}{m:Int}:∀(n i:Nat),(∀k:Nat,i<=k->k<i+n->zeB r m (k:Int)=zeB h m (k:Int))->zib r m n i=zib h m n i
 | 0,i,_=>rfl
 |n+1,i,h=>by rw[zib,zib,h i (by omega) (by omega),zy6 n (i+1) λk a b=>h k (by omega) (by omega)]
def Like.seen {h r:ad}(k:Like h r)(m:Int):zT r m=zT h m:=by unfold zT;rw[k.has];cases a:j0 m (ln h.aa) with|false=>rfl|true=>simp only[cond_true];rw[k.g m a,k.o m a,k.p m a,zy6 8 0 λj b c=>k.pg m j a (zbt.2 (by omega))]
def zqJ {h:ad}{m p:Int}(a:j0 m (ln h.aa)=true)(c:j0 p 8=true)(b:j0 p (ln (ix h.aa m mZ).ae)=true) :
 zeB h m p=bif ieq (ix (ix h.aa m mZ).ae p sZ).af (-1) then zdc (ix h.aa m mZ).Out p else zdc h.ag (ix (ix h.aa m mZ).ae p sZ).af:=by
 unfold zeB;have:zc2 (ix h.aa m mZ).ae p=ix (ix h.aa m mZ).ae p sZ:=by unfold zc2;rw[b];rfl
 rw[a,c,cond_true,cond_true,this]
 by_cases e:(ix (ix h.aa m mZ).ae p sZ).af = -1
 .rw [zef.2 e,show ine (ix (ix h.aa m mZ).ae p sZ).af (-1)=false by simp[ine,e]];rfl
 .rw [ziR.2 e,show ine (ix (ix h.aa m mZ).ae p sZ).af (-1)=true from z3h.2 e];rfl
def zqI {m:List LI}{p:Int}(h:j0 p (ln m)=true):zdc m p=ix m p []:=by unfold zdc;rw[h];rfl
def z8d {m:List LI}(h:∀c∈m,zdr c=true)(p:Int):zdr (zdc m p)=true:=by unfold zdc;cases a:j0 p (ln m) with|false=>rfl|true=>exact h _ (zGG a _)
def zyL {h r:ad}(H:HOk h){m p:Int}(b:j0 m (ln h.aa)=true)(i:j0 p 8=true){x:Mon}{s:k0}{c:LI}(n:r.aa=up h.aa m x)(k:Chg (ix h.aa m mZ) x p s c)(u:SOk s)(t:zos s c=true)(f:r.ag.length=12)(g:∀c∈r.ag,zdr c=true)(j:zhF r.ao=true)(l:zhF r.am=true)(v:0<=s.af->s.af=(ix (ix h.aa m mZ).ae p sZ).af\/ziF h.aa s.af=0):HOk r:=by refine H.up b ((H.mon b).chg i k u t) n f g j l λq z=>?_;have d:=zXP ((H.mon b).hasO i) k.o q;by_cases e:s.af=q;{have a:=v (by omega);rw[if_pos e]at d;rcases a with a|a;{rw [if_pos (by omega)]at d;left;omega};{right;rw[e] at a;refine⟨a,?_⟩;have:=zGf b x q;have y:cPg (ix h.aa m mZ) q<=ziF h.aa q:=(by have:=zGf b (⟨[],[],[],[],[],0,0,[],0⟩:Mon) q;have w:cPg (⟨[],[],[],[],[],0,0,[],0⟩:Mon) q=0:=rfl;omega);omega}};{rw [if_neg e]at d;left;split at d<;>omega}
def zx7 {h r:ad}(H:HOk h){m p:Int}(a:j0 m (ln h.aa)=true)(y:j0 p 8=true){x:Mon}{s:k0}{c:LI}(n:r.aa=up h.aa m x)(k:Chg (ix h.aa m mZ) x p s c)(B:(cond (ieq s.af<|-1) c<|zdc r.ag s.af)=zeB h m p)(f:∀i q,j0 i (ln h.aa)=true->j0 q 8=true->¬ (i=m/\q=p)->(ix (ix h.aa i mZ).ae q sZ).af≠-1->zdc r.ag (ix (ix h.aa i mZ).ae q sZ).af=zdc h.ag (ix (ix h.aa i mZ).ae q sZ).af):Like h r:=by have l:=(zbt.1 a).1;have t:=(zbt.1 y).1;have e:∀{C:Type} (F:Mon->C),F x=F (ix h.aa m mZ)->∀i,j0 i (ln h.aa)=true->F (ix r.aa i mZ)=F (ix h.aa i mZ):=(by intro C F D i d;rw[n];by_cases e:m=i;{subst e;rw[zcz a];exact D};{rw [zdP l (zbt.1 d).1 e]});refine⟨by rw[n,zeR],e Mon.ac k.g,e Mon.Outs k.a1,e Mon.aj k.a2,e Mon.aq k.a3,e Mon.Own k.a4,λi q d b=>?_⟩;have A:j0 i (ln r.aa)=true:=(by rw[n,zjM];exact d);have w:=(H.mon d).hasO b;have z:j0 q (ln (ix r.aa i mZ).ae)=true:=(by rw[n];by_cases e:m=i;{subst e;rw[zcz a,k.o,zjM];exact w};{rw [zdP l (zbt.1 d).1 e];exact w});rw[zqJ A b z];by_cases e:m=i;{subst e;rw[n,zcz a,k.o,k.u];by_cases v:p=q;{subst v;rw[zcz<|(H.mon a).hasO y,<- B];cases ieq s.af (-1);{rfl};{rw [cond_true,cond_true,zqI (by rw[zjM];exact(H.mon a).hasU y),zcz<|(H.mon a).hasU y]}};{rw [zdP t (zbt.1 b).1 v,zqJ a b w];by_cases j:(ix (ix h.aa m mZ).ae q sZ).af = -1;{rw [zef.2 j,cond_true,cond_true,zqI (by rw[zjM];exact(H.mon a).hasU b),zqI<|(H.mon a).hasU b,zdP t (zbt.1 b).1 v]};{rw [ziR.2 j,cond_false,cond_false,f m q a b (λh=>v h.2.symm) j]}}};{rw [n,zdP l (zbt.1 d).1 e,zqJ d b w];by_cases j:(ix (ix h.aa i mZ).ae q sZ).af = -1;{rw [zef.2 j,cond_true,cond_true]};{rw [ziR.2 j,cond_false,cond_false,f i q d b (λh=>e h.1.symm) j]}}
structure Op (h r:ad):Prop where
 ok:HOk r
 like:Like h r
 rt:Rt h->Rt r
def Op.refl {h:ad}(H:HOk h):Op h h:=⟨H,Like.refl h,id⟩
def Op.trans {a b c:ad}(x:Op a b)(y:Op b c):Op a c:=⟨y.ok,x.like.trans y.like,λh=>y.rt (x.rt h)⟩
def Op.safe {h r:ad}(k:Op h r)(s:Safe h):Safe r:=⟨k.ok,k.rt s.rt⟩
def zZ1 {h r:ad}(H:Rt h){m:Int}(l:j0 m (ln h.aa)=true){x:Mon}(u:r.aa=up h.aa m x)(q:r.ao=h.ao)(s:r.am=h.am)(y:x.ac.length=(ix h.aa m mZ).ac.length)(w:∀g,j0 g (ln (ix h.aa m mZ).ac)=true->(ix x.ac g gZ).ax=(ix (ix h.aa m mZ).ac g gZ).ax)(z:x.ak=(ix h.aa m mZ).ak)(v:x.ae=(ix h.aa m mZ).ae):Rt r:=by have d:=(zbt.1 l).1;have hg:∀g,j0 g (ln x.ac)=j0 g (ln (ix h.aa m mZ).ac):=λg=>(by unfold ln;rw[y]);have f:∀e,zhG h e=true->zhG r e=true:=(by intro e c;obtain⟨n,i,p⟩:=zxJ.1 c;rw[zxJ,u,zjM];refine⟨n,?_⟩;by_cases b:m=zpy e.Tag;{rw [<- b]at n i p ⊢;rw[zcz l,hg,w _ i,v];exact⟨i,p⟩};{rw [zdP d (zbt.1 n).1 b];exact⟨i,p⟩});refine⟨λk j=>?_,λe c=>f e (H.e1 e (by rwa [q]at c)),λe c=>f e (H.e2 e (by rwa [s]at c))⟩;rw[u]at j ⊢;rw[zjM]at j;by_cases b:m=k;{subst b;rw[zcz l];intro g a;rw[hg]at a;rw[z,w g a,v];exact H.t m l g a};{rw [zdP d (zbt.1 j).1 b];exact H.t k j}
def zsu {h a:ad}{m p:Int}{s:k0}{x:Mon}(b:j0 m (ln h.aa)=true)(e:a.aa=up h.aa m x):(zcD a m p s).aa=up h.aa m (zmA x p s):=by rw[zu3,e,zcz b,zbfb]
def zER {x a:Mon}{p:Int}{s:k0}{c:LI}(h:a.ae=x.ae)(j:a.Out=up x.Out p c)(hg:a.ac=x.ac)(i:a.ak=x.ak)(g:a.av.length=x.av.length)(b:a.Outs=x.Outs)(d:a.aj=x.aj)(e:a.aq=x.aq)(f:a.Own=x.Own):Chg x (zmA a p s) p s c :=
 ⟨by show up a.ae p s=_;rw[h],j,hg,by show (zmB a.ac p a.ak.length a.ak).length=_;rw[zGh,i],g,b,d,e,f⟩
def zxg {h:ad}{m p:Int}{s:k0}(a:zhF h.ao=true)(b:zhF h.am=true):zhF (zcD h m p s).ao=true/\zhF (zcD h m p s).am=true:=by have:=zU7 h m p s;rw[this.1,this.2];cases ieq (ix (ix h.aa m mZ).ae p sZ).af (-1);{exact⟨zI2 a _,zI2 b _⟩};{exact⟨a,b⟩}
def z3p {h:ad}(H:HOk h){m p:Int}(b:j0 m (ln h.aa)=true)(c:j0 p 8=true)(l:(ix (ix h.aa m mZ).ae p sZ).af≠-1):Op h (zeP h m p):=by
 have X:=H.mon b;have f:(zeP h m p).aa=up h.aa m (zmA {ix h.aa m mZ with Out:=up (ix h.aa m mZ).Out p (zdc h.ag (ix (ix h.aa m mZ).ae p sZ).af)} p A0):=zsu b rfl;have k:Chg (ix h.aa m mZ) (zmA {ix h.aa m mZ with Out:=up (ix h.aa m mZ).Out p (zdc h.ag (ix (ix h.aa m mZ).ae p sZ).af)} p A0) p A0 (zdc h.ag (ix (ix h.aa m mZ).ae p sZ).af):=zER rfl rfl rfl rfl rfl rfl rfl rfl rfl;have a:(zeP h m p).ag=h.ag:=zzl _ _ _ _;have g:=zxg (h:=zgm h m p) (m:=m) (p:=p) (s:=A0) H.b1 H.b2;refine⟨zyL H b c f k (.inl rfl) ((zzR (.inl rfl)).2 ⟨λ_=>z8d H.pgs _,λh=>absurd rfl h⟩) (by rw[a];exact H.m12) (by rw[a];exact H.pgs) g.1 g.2 λh=>absurd h (by decide),
  zx7 H b c f k ?_ (λi q _ _ _ _=>by rw[a]),λR=>?_⟩
 {rw [zqJ b c<|X.hasO c,ziR.2 l];rfl};{have j:Rt (zgm h m p):=zZ1 (x:={ix h.aa m mZ with Out:=up (ix h.aa m mZ).Out p (zdc h.ag (ix (ix h.aa m mZ).ae p sZ).af)}) R b rfl rfl rfl rfl (λ_ _=>rfl) rfl rfl;have d:j0 m (ln (zgm h m p).aa)=true:=(by show j0 m (ln<|up h.aa m _)=true;rw[zjM];exact b);have e:ix (zgm h m p).aa m mZ={ix h.aa m mZ with Out:=up (ix h.aa m mZ).Out p (zdc h.ag (ix (ix h.aa m mZ).ae p sZ).af)}:=zcz b _ _;exact zBV j d (by rw[e];exact X.hasO c) (by rw[e];exact X.gt) A0}
def zJa {o:List k0}{q:Int}:zq6 o q=none↔o.countP (λs=>ieq s.af q)=0:=by unfold zq6;rw[List.findIdx?_eq_none_iff,List.countP_eq_zero];simp
def z1p {o:List k0}{q:Int}{k:Nat}(h:zq6 o q=some k):∃a:k<o.length,o[k].af=q:=by unfold zq6 at h;rw[u0]at h;obtain⟨a,b,_⟩:=h;exact⟨a,zef.1 b⟩
def zBN {q:Int}:∀(l:List Mon) (i:Nat),((zkz q l i).1<0↔ziF l q=0)/\(¬ (zkz q l i).1<0->∃a b:Nat,∃f:a<l.length,∃g:b<l[a].ae.length,zkz q l i=(((i+a:Nat):Int),(b:Int))/\l[a].ae[b].af=q)
 |[],i=>⟨by simp[zkz,ziF],λh=>absurd (show (-1:Int)<0 by decide) h⟩
 |x::l,i=>by have j:=zBN (q:=q) l (i+1);unfold zkz;split;{rename_i k c;obtain⟨m,n⟩:=z1p c;refine⟨⟨λh=>by simp at h;omega,λh=>?_⟩,λ_=>⟨0,k,by simp,m,by simp,n⟩⟩;exfalso;simp only[ziF,jG,u2]at h;have d:x.ae.countP (λs=>ieq s.af q)=0:=(by unfold cPg at h;omega);rw[zJa.2 d]at c;cases c};{rename_i c;have d:=zJa.1 c;refine⟨?_,λh=>?_⟩;{rw [j.1];simp only[ziF,jG,u2];unfold cPg;omega};{obtain⟨a,b,f,g,e,p⟩:=j.2 h;exact⟨a+1,b,by simpa using f,by simpa using g,by rw[e];simp;omega,by simpa using p⟩}}
def zLU {h:ad}{q:Int}(a:0<=q):(zbQ h q).1<0↔ziF h.aa q=0:=by unfold zbQ;rw[show ilt q 0=false from qH (by omega),cond_false];exact(zBN h.aa 0).1
def zbal {h:ad}(H:HOk h){q:Int}(j:0<=q)(c:¬ (zbQ h q).1<0):j0 (zbQ h q).1 (ln h.aa)=true/\j0 (zbQ h q).2 8=true/\(ix (ix h.aa (zbQ h q).1 mZ).ae (zbQ h q).2 sZ).af=q:=by unfold zbQ at c ⊢;rw[show ilt q 0=false from qH (by omega),cond_false]at c ⊢;obtain⟨a,b,d,f,e,g⟩:=(zBN h.aa 0).2 c;rw[e,kB];have i:=(H.mons _<|jI d).o8;exact⟨zbt.2 (by unfold ln;simp;omega),zbt.2 (by simp;omega),by rw[zz5 d,zz5 f];exact g⟩
def zYA {P:Nat->Bool}:∀{n i:Nat} {q:Int},q∈zy4 P n i↔∃k:Nat,q=(k:Int)/\i<=k/\k<i+n/\P k=true
 | 0,i,q=>by simp[zy4];intro k _ _ _;omega
 |n+1,i,q=>by
  have d:=@zYA P n (i+1) q;unfold zy4;constructor
  .intro h;cases c:P i with
   |true=>rw[c,cond_true,qG]at h;rcases h with h|h;{exact⟨i,h,by omega,by omega,c⟩};{obtain⟨k,a,f,g,b⟩:=d.1 h;exact⟨k,a,by omega,by omega,b⟩}
   |false=>rw[c,cond_false]at h;obtain⟨k,a,f,g,b⟩:=d.1 h;exact⟨k,a,by omega,by omega,b⟩
  {rintro⟨k,a,f,g,b⟩;by_cases e:k=i;{subst e;rw[b,cond_true,a];exact jJ};{have:=d.2 ⟨k,a,by omega,by omega,b⟩;cases P i;{exact this};{exact qZ _ this}}}
def zKr {h:ad}{q:Int}:q∈zcL h↔j0 q (ln h.ag)=true/\ziF h.aa q=0:=by unfold zcL;rw[zYA];constructor;{rintro⟨k,rfl,b,c,d⟩;exact⟨zbt.2 (by unfold ln;omega),(zLU (by omega)).1 (qD d)⟩};{rintro⟨b,c⟩;have a:=zbt.1 b;unfold ln at a;refine⟨q.toNat,by omega,by omega,by omega,?_⟩;rw[show ((q.toNat:Nat):Int)=q by omega];exact qL ((zLU a.1).2 c)}
def z4F {h:ad}(a:zcL h≠[]):j0 (ix (zcL h) 0 0) (ln h.ag)=true/\ziF h.aa (ix (zcL h) 0 0)=0:=by refine zKr.1 (zGG (zbt.2 ⟨by omega,?_⟩) 0);unfold ln;have:=kX.2 a;omega
structure But (h r:ad) (m p:Int):Prop where
 ne:∀i k,j0 i (ln h.aa)=true->j0 k 8=true->¬ (i=m/\k=p)->ix (ix r.aa i mZ).ae k sZ=ix (ix h.aa i mZ).ae k sZ
def zJ8 {h r:ad}{m p:Int}(a:j0 m (ln h.aa)=true)(j:j0 p 8=true){x:Mon}{s:k0}(b:r.aa=up h.aa m x)(g:x.ae=up (ix h.aa m mZ).ae p s):But h r m p:=by refine⟨λi k d f c=>?_⟩;rw[b];by_cases e:m=i;{subst e;rw[zcz a,g,zdP (zbt.1 j).1 (zbt.1 f).1 λe=>c ⟨rfl,e.symm⟩]};{rw [zdP (zbt.1 a).1 (zbt.1 d).1 e]}
def z8B {h:ad}(H:HOk h){m p:Int}(a:j0 m (ln h.aa)=true)(c:j0 p 8=true):But h (zeP h m p) m p/\ix (ix (zeP h m p).aa m mZ).ae p sZ=A0:=by have b:(zeP h m p).aa=up h.aa m (zmA {ix h.aa m mZ with Out:=up (ix h.aa m mZ).Out p (zdc h.ag (ix (ix h.aa m mZ).ae p sZ).af)} p A0):=zsu a rfl;refine⟨zJ8 a c b rfl,?_⟩;rw[b,zcz a];exact zcz ((H.mon a).hasO c) _ _
structure Roomy (h r:ad):Prop where
 op:Op h r
 free:zcL r≠[]
 sl:∀i k,j0 i (ln h.aa)=true->j0 k 8=true->ix (ix r.aa i mZ).ae k sZ=ix (ix h.aa i mZ).ae k sZ\/ix (ix r.aa i mZ).ae k sZ=A0
 dirt:∀i,(ix r.aa i mZ).av=(ix h.aa i mZ).av
def zQP {h r:ad}{m:Int}(c:j0 m (ln h.aa)=true){x:Mon}(a:r.aa=up h.aa m x)(b:x.av=(ix h.aa m mZ).av)(i:Int):(ix r.aa i mZ).av=(ix h.aa i mZ).av:=by
 rw[a];by_cases e:i.toNat=m.toNat
 {have:∀l:List Mon,ix l i mZ=ix l m mZ:=λl=>(by unfold ix;rw[e]);rw[this,this,zcz c,b]};{unfold ix up;simp[List.getD,jC,Ne.symm e]}
def roomy {h:ad}(H:HOk h):Roomy h (zdZ h):=by unfold zdZ;by_cases b:zcL h=[];{rw [show ieq (ln<|zcL h) 0=true by rw[b];rfl,cond_true];have p:¬ (zbQ h 0).1<0:=λd=>(by have:(0:Int)∈zcL h:=zKr.2 ⟨zbt.2 (by unfold ln;rw[H.m12];omega),(zLU (by omega)).1 d⟩;rw[b] at this;cases this);obtain⟨a,c,f⟩:=zbal H (by omega) p;have k:=z3p H a c (by rw[f];decide);have j:=z8B H a c;refine⟨k,λd=>?_,λi q g r=>?_,λi=>zQP (x:=zmA {ix h.aa (zbQ h 0).1 mZ with Out:=up (ix h.aa (zbQ h 0).1 mZ).Out (zbQ h 0).2 (zdc h.ag (ix (ix h.aa (zbQ h 0).1 mZ).ae (zbQ h 0).2 sZ).af)} (zbQ h 0).2 A0) a (zsu a rfl) rfl i⟩;{have:(0:Int)∈zcL (zeP h (zbQ h 0).1 (zbQ h 0).2):=(by refine zKr.2 ⟨zbt.2 (by unfold ln;rw[k.ok.m12];omega),?_⟩;have n:(zeP h (zbQ h 0).1 (zbQ h 0).2).aa=up h.aa (zbQ h 0).1 (zmA {ix h.aa (zbQ h 0).1 mZ with Out:=up (ix h.aa (zbQ h 0).1 mZ).Out (zbQ h 0).2 (zdc h.ag (ix (ix h.aa (zbQ h 0).1 mZ).ae (zbQ h 0).2 sZ).af)} (zbQ h 0).2 A0):=zsu a rfl;have l:=zGf a (zmA {ix h.aa (zbQ h 0).1 mZ with Out:=up (ix h.aa (zbQ h 0).1 mZ).Out (zbQ h 0).2 (zdc h.ag (ix (ix h.aa (zbQ h 0).1 mZ).ae (zbQ h 0).2 sZ).af)} (zbQ h 0).2 A0) 0;rw[<- n] at l;have m:=zXP (x':=zmA {ix h.aa (zbQ h 0).1 mZ with Out:=up (ix h.aa (zbQ h 0).1 mZ).Out (zbQ h 0).2 (zdc h.ag (ix (ix h.aa (zbQ h 0).1 mZ).ae (zbQ h 0).2 sZ).af)} (zbQ h 0).2 A0) ((H.mon a).hasO c) (s:=A0) rfl 0;rw[if_pos f,if_neg (by decide)] at m;have t:=H.uq 0 (by omega);omega);rw[d] at this;cases this};{by_cases e:i=(zbQ h 0).1/\q=(zbQ h 0).2;{rw [e.1,e.2];exact .inr j.2};{exact .inl (j.1.ne i q g r e)}}};{have:ieq (ln<|zcL h) 0=false:=ziR.2 (by unfold ln;have:=kX.2 b;omega);rw[this,cond_false];exact⟨Op.refl H,b,λi k g u=>.inl rfl,λ_=>rfl⟩}
def z2I {m:List LI}{p:Int}{c:LI}(b:j0 p (ln m)=true)(a:zdr c=true):zlc m p c=up m p c:=by unfold zlc;rw[b,a];rfl
def zZD {m:List LI}{p q:Int}{c:LI}(a:0<=p)(h:q≠p):zdc (up m p c) q=zdc m q:=by unfold zdc;rw[zjM];cases b:j0 q (ln m) with|false=>rfl|true=>rw[cond_true,cond_true,zdP a (zbt.1 b).1<|Ne.symm h]
def zZC {m:List LI}{p:Int}{c:LI}(a:j0 p (ln m)=true):zdc (up m p c) p=c:=by rw[zqI (by rw[zjM];exact a),zcz a]
def z5i {h:ad}(H:HOk h){m p a:Int}(d:j0 m (ln h.aa)=true)(f:j0 p 8=true)(z:(ix (ix h.aa m mZ).ae p sZ).af = -1)(u:j0 a (ln h.ag)=true)(B:ziF h.aa a=0) :
 Op h (zgu h m p a)/\But h (zgu h m p a) m p/\ix (ix (zgu h m p a).aa m mZ).ae p sZ=⟨a,3⟩/\∀i,(ix (zgu h m p a).aa i mZ).av=(ix h.aa i mZ).av:=by
 have X:=H.mon d;have g:=zbt.1 u;unfold ln at g;rw[H.m12]at g;have l:(zgu h m p a).aa=up h.aa m (zmA {ix h.aa m mZ with Out:=up (ix h.aa m mZ).Out p []} p ⟨a,3⟩):=zsu d rfl;have k:Chg (ix h.aa m mZ) (zmA {ix h.aa m mZ with Out:=up (ix h.aa m mZ).Out p []} p ⟨a,3⟩) p ⟨a,3⟩ []:=zER rfl rfl rfl rfl rfl rfl rfl rfl rfl;have j:=((zzR<|X.slot f).1 (X.fit p f)).1 z;have b:(zgu h m p a).ag=up h.ag a (ix (ix h.aa m mZ).Out p []):=by show (zcD (landing h m p a) m p ⟨a,3⟩).ag=_;rw[zzl];exact z2I u j
 have A:SOk ⟨a,3⟩:=.inr ⟨g.1,by show a<=11;omega,by show (1:Int)<=3;omega,by show (3:Int)<=3;omega⟩
 have w:=zxg (h:=landing h m p a) (m:=m) (p:=p) (s:=⟨a,3⟩) H.b1 H.b2;refine⟨⟨zyL H d f l k A ((zzR A).2 ⟨λh=>absurd h (by show a≠-1;omega),λ_=>⟨show enough 3 1=true by decide,rfl⟩⟩) (by rw[b,zeR];exact H.m12) (λc r=>?_) w.1 w.2 λ_=>.inr B,
  zx7 H d f l k ?_ λi q y D r C=>?_,λR=>?_⟩,zJ8 d f l rfl,?_,λi=>zQP (x:=zmA {ix h.aa m mZ with Out:=up (ix h.aa m mZ).Out p []} p ⟨a,3⟩) d l rfl i⟩
 .rw [b]at r;rcases jD r with n|n
  .exact H.pgs c n
  .rw [n];exact j
 .rw [zqJ d f<|X.hasO f,zef.2 z,cond_true,zqI<|X.hasU f];rw[show ieq (⟨a,3⟩:k0).af (-1)=false from ziR.2 (by show a≠-1;omega),cond_false,b]
  exact zZC u
 .rw [b];refine zZD g.1 (λe=>?_);have:=z9a y ((H.mon y).hasO D);rw[e] at this;omega
 .have R1:Rt (landing h m p a):=zZ1 (x:={ix h.aa m mZ with Out:=up (ix h.aa m mZ).Out p []}) R d rfl rfl rfl rfl (λ_ _=>rfl) rfl rfl;have t:j0 m (ln (landing h m p a).aa)=true:=by show j0 m (ln<|up h.aa m _)=true;rw[zjM];exact d
  have v:ix (landing h m p a).aa m mZ={ix h.aa m mZ with Out:=up (ix h.aa m mZ).Out p []}:=zcz d _ _;exact zBV R1 t (by rw[v];exact X.hasO f) (by rw[v];exact X.gt) _
 .rw [l,zcz d];exact zcz (X.hasO f) _ _
def z5j {h:ad}(H:HOk h){m p:Int}(f:j0 m (ln h.aa)=true)(g:j0 p 8=true)(k:(ix (ix h.aa m mZ).ae p sZ).af = -1) :
 Op h (fetched h m p)/\(∃e,0<=e/\e<=11/\ix (ix (fetched h m p).aa m mZ).ae p sZ=⟨e,3⟩)/\∀i,(ix (fetched h m p).aa i mZ).av=(ix h.aa i mZ).av:=by
 have R:=roomy H;have c:j0 m (ln (zdZ h).aa)=true:=by rw[R.op.like.has];exact f
 have d:(ix (ix (zdZ h).aa m mZ).ae p sZ).af = -1:=by rcases R.sl m p f g with b|b<;>rw [b];{exact k};{rfl}
 obtain⟨b,j⟩:=z4F R.free;obtain⟨l,r,n,q⟩:=z5i R.op.ok c g d b j;have a:=zbt.1 b;unfold ln at a;rw[R.op.ok.m12]at a;exact⟨R.op.trans l,⟨_,a.1,by omega,n⟩,λi=>(q i).trans (R.dirt i)⟩
def zUU {h:ad}(H:HOk h){m p:Int}(a:j0 m (ln h.aa)=true)(b:j0 p 8=true) :
 (cond (ieq (ix (ix h.aa m mZ).ae p sZ).af<|-1) (ix (ix h.aa m mZ).Out p [])<|zdc h.ag (ix (ix h.aa m mZ).ae p sZ).af)=zeB h m p:=by
 rw[zqJ a b<|(H.mon a).hasO b,zqI<|(H.mon a).hasU b]
structure Mark (x y:Mon):Prop where
 o:y.ae=x.ae
 u:y.Out=x.Out
 g:y.ac=x.ac
 t:y.ak=x.ak
 d:y.av.length=x.av.length
 a1:y.Outs=x.Outs
 a2:y.aj=x.aj
 a3:y.aq=x.aq
 a4:y.Own=x.Own
def zbdJ {h:ad}(H:HOk h){m:Int}(b:j0 m (ln h.aa)=true){y:Mon}(k:Mark (ix h.aa m mZ) y):Op h {h with aa:=up h.aa m y}/\∀i q,ix (ix (up h.aa m y) i mZ).ae q sZ=ix (ix h.aa i mZ).ae q sZ:=by
 have X:=H.mon b;have a:j0 0 8=true:=(by decide);have c:Chg (ix h.aa m mZ) y 0 (ix (ix h.aa m mZ).ae 0 sZ) (ix (ix h.aa m mZ).Out 0 []):=⟨by rw[zMm<|X.hasO a,k.o],by rw[zMm<|X.hasU a,k.u],k.g,by rw[k.t],k.d,k.a1,k.a2,k.a3,k.a4⟩
 refine⟨⟨zyL H b a rfl c (X.slot a) (X.fit 0 a) H.m12 H.pgs H.b1 H.b2 λ_=>.inl rfl,zx7 H b a rfl c (zUU H b a) λ_ _ _ _ _ _=>rfl,
  λR=>zZ1 R b rfl rfl rfl (by rw[k.g]) (λg _=>by rw[k.g]) k.t k.o⟩,λi q=>?_⟩
 by_cases e:i.toNat=m.toNat
 {have:∀l:List Mon,ix l i mZ=ix l m mZ:=λl=>(by unfold ix;rw[e]);rw[this,this,zcz b,k.o]};{have:ix (up h.aa m y) i mZ=ix h.aa i mZ:=(by unfold ix up;simp[List.getD,jC,Ne.symm e]);rw[this]}
def z7X {h:ad}(H:HOk h){m:Int}(a:j0 m (ln h.aa)=true)(p:Int):Op h (zm6 h m p)/\∀i q,ix (ix (zm6 h m p).aa i mZ).ae q sZ=ix (ix h.aa i mZ).ae q sZ :=
 zbdJ H a ⟨rfl,rfl,rfl,rfl,zeR _ _ _,rfl,rfl,rfl,rfl⟩
def z7W {h:ad}(H:HOk h){m p:Int}(c:j0 m (ln h.aa)=true)(b:j0 p 8=true)(g:(ix (ix h.aa m mZ).ae p sZ).af≠-1){r:Int}(n:r=1\/r=3) :
 Op h (zcD h m p ⟨(ix (ix h.aa m mZ).ae p sZ).af,r⟩)/\But h (zcD h m p ⟨(ix (ix h.aa m mZ).ae p sZ).af,r⟩) m p/\
  ix (ix (zcD h m p ⟨(ix (ix h.aa m mZ).ae p sZ).af,r⟩).aa m mZ).ae p sZ=⟨(ix (ix h.aa m mZ).ae p sZ).af,r⟩/\∀i,(ix (zcD h m p ⟨(ix (ix h.aa m mZ).ae p sZ).af,r⟩).aa i mZ).av=(ix h.aa i mZ).av:=by
 have X:=H.mon c;have d:=(X.slot b).pos g;have e:=zu3 h m p ⟨(ix (ix h.aa m mZ).ae p sZ).af,r⟩;have k:Chg (ix h.aa m mZ) (zmA (ix h.aa m mZ) p ⟨(ix (ix h.aa m mZ).ae p sZ).af,r⟩) p ⟨(ix (ix h.aa m mZ).ae p sZ).af,r⟩ (ix (ix h.aa m mZ).Out p []):=
  zER rfl (zMm (X.hasU b) _).symm rfl rfl rfl rfl rfl rfl rfl
 have l:SOk ⟨(ix (ix h.aa m mZ).ae p sZ).af,r⟩:=.inr ⟨d.1,d.2.1,by show 1<=r;omega,by show r<=3;omega⟩
 have f:=((zzR<|X.slot b).1 (X.fit p b)).2 g;have j:=zxg (h:=h) (m:=m) (p:=p) (s:=⟨(ix (ix h.aa m mZ).ae p sZ).af,r⟩) H.b1 H.b2;have a:=zzl h m p ⟨(ix (ix h.aa m mZ).ae p sZ).af,r⟩;refine⟨⟨zyL H c b e k l ((zzR l).2 ⟨λh=>absurd h g,λ_=>⟨?_,f.2⟩⟩) (by rw[a];exact H.m12) (by rw[a];exact H.pgs) j.1 j.2 λ_=>.inl rfl,
  zx7 H c b e k (by rw[a];exact zUU H c b) (λi q _ _ _ _=>by rw[a]),λR=>zBV R c (X.hasO b) X.gt _⟩,zJ8 c b e rfl,?_,λi=>zQP c e rfl i⟩
 .show enough r 1=true
  rcases n with rfl|rfl<;>decide
 .rw [e,zcz c];exact zcz (X.hasO b) _ _
structure Mended (h r:ad) (m p n:Int):Prop where
 op:Op h r
 inn:(ix (ix r.aa m mZ).ae p sZ).af≠-1
 ri:ieq (wand .i64 n 2) 0=false->(ix (ix r.aa m mZ).ae p sZ).an=3
 dt:ieq (wand .i64 n 2) 0=false->ix (ix r.aa m mZ).av p false=true
 d0:ieq (wand .i64 n 2) 0=true->(ix r.aa m mZ).av=(ix h.aa m mZ).av
 dk:∀k,j0 k 8=true->k≠p->ix (ix r.aa m mZ).av k false=ix (ix h.aa m mZ).av k false
 dm:∀i,j0 i (ln h.aa)=true->i≠m->(ix r.aa i mZ).av=(ix h.aa i mZ).av
def zwU {h:ad}{m p:Int}:zbP h m p=true↔HOk h/\j0 m (ln h.aa)=true/\j0 p 8=true:=by unfold zbP;rw[ziE,ziE,zQZ]
def z5k {h:ad}(H:HOk h)(m p:Int):Op h (zly h m p):=by unfold zly;cases a:zbP h m p with|false=>exact Op.refl H|true=>obtain⟨_,b,c⟩:=zwU.1 a;rw[cond_true];unfold ziv;by_cases e:(ix (ix h.aa m mZ).ae p sZ).af = -1;{rw [zef.2 e];exact Op.refl H};{rw [ziR.2 e];exact z3p H b c e}
def z7V {h:ad}(H:HOk h)(m p:Int):Op h (znK h m p):=by unfold znK;cases a:zbP h m p with|false=>exact Op.refl H|true=>obtain⟨_,b,c⟩:=zwU.1 a;rw[cond_true];unfold ziv;by_cases e:(ix (ix h.aa m mZ).ae p sZ).af = -1;{rw [zef.2 e];exact(z5j H b c e).1};{rw [ziR.2 e];exact Op.refl H}
def z7U {h:ad}(H:HOk h)(m p:Int):Op h (znB h m p):=by unfold znB;cases g:zbP h m p with|false=>exact Op.refl H|true=>obtain⟨_,b,c⟩:=zwU.1 g;rw[cond_true];obtain⟨a,d⟩:=z7X H b p;(cases e:zdz (ix (ix h.aa m zi).ae p zX) A0 with|true=>exact a|false=>rw[cond_false];have i:(ix (ix h.aa m mZ).ae p sZ).af≠-1:=λf=>zyK.1 e (((H.mon b).slot c).none f);have:=z7W a.ok (m:=m) (p:=p) (by rw[a.like.has];exact b) c (by rw[d];exact i) (r:=1) (.inl rfl);rw[d m p] at this;exact a.trans this.1)
structure KeepP (x y:Mon):Prop where
 o:y.ae=x.ae
 u:y.Out=x.Out
def z5o {h r:ad}{m:Int}(b:j0 m (ln h.aa)=true){y:Mon}(c:r.aa=up h.aa m y)(a:r.ag=h.ag)(k:KeepP (ix h.aa m mZ) y)(i q:Int):zeB r i q=zeB h i q:=by unfold zeB;rw[c,zjM,a];cases d:j0 i (ln h.aa) with|false=>rfl|true=>by_cases e:m=i;{subst e;rw[zcz b,k.o,k.u]};{rw [zdP (zbt.1 b).1 (zbt.1 d).1 e]}
def zbaA {h r:ad}{m:Int}(b:j0 m (ln h.aa)=true){y:Mon}(c:r.aa=up h.aa m y)(a:r.ag=h.ag)(k:KeepP (ix h.aa m mZ) y)(i:Int) :
 zT r i=bif ieq i m then ⟨(zT h i).ag,y.ac,y.Outs,y.aj⟩ else zT h i:=by
 have f:zib r i 8 0=zib h i 8 0:=zy6 8 0 (λj _ _=>z5o b c a k i j);unfold zT;rw[f,c,zjM]
 by_cases e:i=m
 .subst e;rw[b,zef.2 rfl,zcz b];rfl
 .rw [ziR.2 e,cond_false];cases d:j0 i (ln h.aa) with
  |false=>rfl
  |true=>rw[zdP (zbt.1 b).1 (zbt.1 d).1<|Ne.symm e]
def z98 {x y:Mon}(X:MOk x)(k:KeepP x y)(g:y.ac.length=x.ac.length)(t:y.ak.length=x.ak.length)(d:y.av.length=x.av.length)(o:y.Outs.length<=40)(p:zhj y.aj=true)(tr:zl y.aq 0 3=true)(b:zl y.Own 0 1000000000=true)(a:∀g∈y.ac,zey g=true):MOk y :=
 ⟨by rw[g];exact X.g1,by rw[g];exact X.g2,by rw[t,g];exact X.gt,by rw[k.o];exact X.o8,by rw[k.o];exact X.sl,by rw[k.u];exact X.u8,by rw[d];exact X.d8,o,p,tr,b,a,by rw[k.o,k.u];exact X.fit⟩
def zJe:∀(n i:Nat) (k:aA),(zjt n i k).ay.length=k.ay.length/\(zjt n i k).az.length=k.az.length
 | 0,i,k=>⟨rfl,rfl⟩
 |n+1,i,k=>by have a:=zJe n (i+1) (zct k (i:Int));have b:=zq7 k (i:Int);exact⟨a.1.trans b.1,a.2.trans b.2⟩
def zNA:∀(n i:Nat) (k:aA),k.ay.length=k.az.length->∀j,j0 j (ln k.ay)=true->
 ((i:Int)<=j/\j<((i+n:Nat):Int)->ix (zjt n i k).ay j false=false/\ix (zjt n i k).az j sZ=A0)/\
 (¬ ((i:Int)<=j/\j<((i+n:Nat):Int))->ix (zjt n i k).ay j false=ix k.ay j false/\ix (zjt n i k).az j sZ=ix k.az j sZ)
 | 0,i,k,_,j,_=>⟨λh=>by omega,λ_=>⟨rfl,rfl⟩⟩
 |n+1,i,k,g,j,f=>by have b:=zq7 k (i:Int);have d:=zJd (q:=(i:Int)) g f;have c:=zNA n (i+1) (zct k (i:Int)) (by rw[b.1,b.2,g]) j (by unfold ln at f ⊢;rwa [b.1]);rw[zjt];by_cases a:((i+1:Nat):Int)<=j/\j<((i+1+n:Nat):Int);{exact⟨λ_=>c.1 a,λh=>absurd (by omega) h⟩};{rw [(c.2 a).1,(c.2 a).2,d.1,d.2];by_cases e:(i:Int)=j;{rw [zef.2 e];exact⟨λ_=>⟨rfl,rfl⟩,λh=>absurd (by omega) h⟩};{rw [ziR.2 e];exact⟨λh=>absurd (by omega) a,λ_=>⟨rfl,rfl⟩⟩}}
def zVM {k:aA}{a b:List k0}(h:KOk k a b):KOk (ziY k) a b:=by have e:=zJe k.ay.length 0 k;refine⟨e.1.trans h.l1,e.2.trans h.l2,λi f=>?_⟩;have c:j0 i (ln k.ay)=true:=(by unfold ln at f ⊢;rwa [h.l1]);have d:=zbt.1 c;unfold ln at d;have:=(zNA k.ay.length 0 k (by rw[h.l1,h.l2]) i c).1 ⟨by omega,by omega⟩;unfold ziY;rw[this.1,this.2];rfl
def zNp:∀(n j:Nat) (l:List aA),(zvm n j l).length=l.length
 | 0,_,_=>rfl
 |n+1,j,l=>by rw[zvm,zNp n,zeR]
def zXR:∀(n j:Nat) (l:List aA),j+n<=l.length->∀g,0<=g->ix (zvm n j l) g kZ=if (j:Int)<=g/\g<((j+n:Nat):Int) then ziY (ix l g kZ) else ix l g kZ
 | 0,j,l,_,g,hg=>by rw[if_neg (by omega)];rfl
 |n+1,j,l,a,g,hg=>by rw[zvm,zXR n (j+1) _ (by rw[zeR];omega) g hg];by_cases e:(j:Int)=g;{subst e;rw[if_neg (by omega),if_pos (by omega),zcz<|zbt.2 ⟨by omega,by unfold ln;omega⟩]};{rw [zdP (by omega) hg e];by_cases h:((j+1:Nat):Int)<=g/\g<((j+1+n:Nat):Int);{rw [if_pos h,if_pos (by omega)]};{rw [if_neg h,if_neg (by omega)]}}
def zNo:∀(n i:Nat) (l:List Mon),(zmE n i l).length=l.length
 | 0,_,_=>rfl
 |n+1,i,l=>by rw[zmE,zNo n,zeR]
def zUp:∀(n i:Nat) (l:List Mon),i+n<=l.length->∀m,0<=m->ix (zmE n i l) m mZ=if (i:Int)<=m/\m<((i+n:Nat):Int) then zq3 (ix l m mZ) (ix l m mZ).ak.length 0 else ix l m mZ
 | 0,i,l,_,m,a=>by rw[if_neg (by omega)];rfl
 |n+1,i,l,b,m,a=>by rw[zmE,zUp n (i+1) _ (by rw[zeR];omega) m a];by_cases e:(i:Int)=m;{subst e;rw[if_neg (by omega),if_pos (by omega),zcz<|zbt.2 ⟨by omega,by unfold ln;omega⟩]};{rw [zdP (by omega) a e];by_cases h:((i+1:Nat):Int)<=m/\m<((i+1+n:Nat):Int);{rw [if_pos h,if_pos (by omega)]};{rw [if_neg h,if_neg (by omega)]}}
def z9f (h:ad){m:Int}(a:j0 m (ln h.aa)=true):ix (cold h).aa m mZ=zq3 (ix h.aa m mZ) (ix h.aa m mZ).ak.length 0:=by have:=zbt.1 a;unfold ln at this;show ix (zmE h.aa.length 0 h.aa) m mZ=_;rw[zUp _ _ _ (by omega) m this.1,if_pos (by omega)]
def zzP (h:ad):(cold h).aa.length=h.aa.length:=zNo _ _ _
def zKb (h:ad)(m:Int):j0 m (ln (cold h).aa)=j0 m (ln h.aa):=by unfold ln;rw[zzP]
def zbcS {l a:List Mon}(d:a.length=l.length)(h:∀m,j0 m (ln l)=true->(ix a m mZ).ae=(ix l m mZ).ae)(q:Int):ziF a q=ziF l q:=by have:a.map (λx=>cPg x q)=l.map (λx=>cPg x q):=(by refine List.ext_getElem (by simp[d]) λk b c=>?_;simp only[uQ]at b c;have:=h (k:Int) (zbt.2 ⟨by omega,by unfold ln;omega⟩);rw[zz5 b,zz5 c] at this;simp[cPg,this]);unfold ziF;rw[this]
def zbdI {h:ad}(H:HOk h):Op h (cold h):=by have c:∀m,j0 m (ln h.aa)=true->ix (cold h).aa m mZ=zq3 (ix h.aa m mZ) (ix h.aa m mZ).ak.length 0:=λm a=>z9f h a;have n:∀i q,zeB (cold h) i q=zeB h i q:=(by intro i q;unfold zeB;rw[zKb];cases b:j0 i (ln h.aa) with|false=>rfl|true=>rw[c i b];rfl);refine⟨⟨H.m12,H.pgs,by rw[zzP];exact H.n1,by rw[zzP];exact H.n3,rfl,rfl,λy s=>?_,λq r=>?_⟩,⟨zzP h,λi b=>by rw[c i b];rfl,λi b=>by rw[c i b];rfl,λi b=>by rw[c i b];rfl,λi b=>by rw[c i b];rfl,λi b=>by rw[c i b];rfl,λi k _ _=>n i k⟩,λR=>⟨λm a=>?_,λe j=>(by cases j),λe j=>(by cases j)⟩⟩;{obtain⟨m,a,rfl⟩:=zbeX s mZ;rw[zKb]at a;rw[c m a];have X:=H.mon a;have k:KeepP (ix h.aa m mZ) (zq3 (ix h.aa m mZ) (ix h.aa m mZ).ak.length 0):=⟨rfl,rfl⟩;exact z98 X k rfl (zNp _ _ _) rfl X.outs X.pend X.tr X.own X.gs};{rw [zbcS (l:=h.aa) (zzP h) (λm a=>by rw[c m a];rfl)];exact H.uq q r};{rw [zKb]at a;rw[c m a];have X:=H.mon a;intro g hg;show KOk (ix (zvm (ix h.aa m mZ).ak.length 0 (ix h.aa m mZ).ak) g kZ) (ix (ix h.aa m mZ).ac g gZ).ax (ix h.aa m mZ).ae;have d:j0 g (ln (ix h.aa m mZ).ac)=true:=hg;have f:=zbt.1 d;unfold ln at f;have p:=X.gt;rw[zXR _ _ _ (by omega) g f.1,if_pos (by omega)];exact zVM (R.t m a g d)}
structure GOk (x:ah):Prop where
 prog:ze2 x.aw=true
 a:zl x.A 0 99=true
 pc:zl x.Pc 0 12=true
 w:zek x.ar 4 8=true
 l:zek x.ax 4 8=true
 ctl:ztg x.Ctl=true
 pend:zhj x.aj=true
 ex:zwu x.Exit=true
 seen:ile (ln x.aC) 40=true
def zbdr {x:ah}:zey x=true↔GOk x:=by unfold zey;simp only[qE];exact⟨λ⟨a,b,c,d,e,f,g,h,i⟩=>⟨a,b,c,d,e,f,g,h,i⟩,λ⟨a,b,c,d,e,f,g,h,i⟩=>⟨a,b,c,d,e,f,g,h,i⟩⟩
def HOk.guest {h:ad}(H:HOk h){m g:Int}(a:j0 m (ln h.aa)=true)(hg:j0 g (ln (ix h.aa m mZ).ac)=true):GOk (ix (ix h.aa m mZ).ac g gZ):=zbdr.1 ((H.mon a).gs _ (zGG hg _))
structure Walked (l:List k0) (p n q:Int):Prop where
 hp:j0 p (ln l)=true
 pg:(ix l p sZ).af=q
 q8:j0 q 8=true
 en:enough (ix l p sZ).an n=true
structure Looked (h r:ad) (m g page need q host:Int):Prop where
 op:Op h r
 inn:(ix (ix r.aa m mZ).ae q sZ).af=host
 ne:host≠-1
 en:enough (zdQ (ix (ix (ix h.aa m mZ).ac g gZ).ax page sZ) (ix r.aa m mZ).ae).an need=true
 cp:(zdQ (ix (ix (ix h.aa m mZ).ac g gZ).ax page sZ) (ix r.aa m mZ).ae).af=host
 dk:∀k,j0 k 8=true->k≠q->ix (ix r.aa m mZ).av k false=ix (ix h.aa m mZ).av k false
 dq:need=2->ix (ix r.aa m mZ).av q false=true
 d1:need=1->(ix r.aa m mZ).av=(ix h.aa m mZ).av
 dm:∀i,j0 i (ln h.aa)=true->i≠m->(ix r.aa i mZ).av=(ix h.aa i mZ).av
structure GKeep (x y:ah):Prop where
 ok:GOk y
 live:y.ax=x.ax
structure SimT (h r:ad) (m:Int) (f:ai->ai):Prop where
 safe:Safe r
 seen:∀i,zT r i=bif ieq i m then f (zT h i) else zT h i
 len:r.aa.length=h.aa.length
def SimT.trans {a b c:ad}{m:Int}{f g:ai->ai}(x:SimT a b m f)(y:SimT b c m g):SimT a c m (λt=>g (f t)):=by refine⟨y.safe,λi=>?_,y.len.trans x.len⟩;rw[y.seen i,x.seen i];cases ieq i m<;>rfl
def SimT.congr {h r:ad}{m:Int}{f g:ai->ai}(x:SimT h r m f)(e:f (zT h m)=g (zT h m)):SimT h r m g:=by refine⟨x.safe,λi=>?_,x.len⟩;rw[x.seen i];by_cases a:i=m;{subst a;rw[zef.2 rfl,cond_true,cond_true,e]};{rw [ziR.2 a];rfl}
def SimT.has {h r:ad}{m:Int}{f:ai->ai}(x:SimT h r m f)(i:Int):j0 i (ln r.aa)=j0 i (ln h.aa):=by unfold ln;rw[x.len]
def SimT.refl {h:ad}(S:Safe h)(m:Int):SimT h h m id:=⟨S,λi=>by cases ieq i m<;>rfl,rfl⟩
structure BackOk (b c:ai):Prop where
 m:c.ag=b.ag
 o:c.Outs=b.Outs
 n:c.ac.length=b.ac.length
 g:∀j,j0 j (ln b.ac)=true->GKeep (ix b.ac j gZ) (ix c.ac j gZ)
 p:zhj b.aj=true->zhj c.aj=true
def zio (h:ad):List ai:=(List.range h.aa.length).map λ(i:Nat)=>zT h (i:Int)
def zI0 (h:ad):(zio h).length=h.aa.length:=by simp[zio]
def z3U {h r:ad}(a:r.aa.length=h.aa.length)(e:∀i,zT r i=zT h i):zio r=zio h:=by unfold zio;rw[a];exact List.map_congr_left λi _=>e _
structure ax (u:ad×List aE) (v:List ai×List aE):Prop where
 safe:Safe u.1
 seen:zio u.1=v.1
def zbbU:zbb:=[(73,zza),(52,znQ),(297,zuU)]++zQM
def zBm:zN zbbU:=zh zCQ (zh zz0<|zh zx3 zeS)
def zsI (l:LI):eqI l l=true:=by unfold eqI;induction l with|nil=>rfl|cons x l a=>rw[all2,zcX,a];rfl
def zQx:=zo [(463,0,{n:=26,tm:=[(0,.sl 0 []),(1,.sl 1 []),(5,ti)],lo:=[],ro:=[(0,.slot,false),(1,.slot,false)]})]
def zPj (a b:List k0)(d:zbE big [aS .slot a,aS .slot b])(e:zeh a b=true):∃N,zpz N a b=some [aB<|zet a b]:=by
 have:=zF.1 e;subst this;have f:=len0 d;refine⟨a.length+1,?_⟩;unfold zpz oN nB;conv=>zeta
 rw[zcj];refine zit a zX _ _ f (λi c rec=>?_) (λrec=>?_) (jU _);{simp only [zbw c,zbc c,zbn c,zsI,zkW,zcj,zcX,zdg,cT,cF,jQ,jR]};{simp only [zbq,cF,zet]}
def zHq:vP 463 zni:=hF2 zBm zY zu zn zQx zPj
def zTG:=zo [(462,0,{n:=26,tm:=[(0,.sl 0 []),(1,.sl 1 []),(5,ti)],lo:=[],ro:=[(0,.ins,false),(1,.ins,false)]})]
def zSX (a b:List Ins)(d:zbE big [aS .ins a,aS .ins b])(e:zjL a b=true):∃N,zqT N a b=some [aB<|zi1 a b]:=by
 have:=zF.1 e;subst this;have f:=len0 d;refine⟨a.length+1,?_⟩;unfold zqT oN nB;conv=>zeta
 rw[zcj];refine zit a zsx _ _ f (λi c rec=>?_) (λrec=>?_) (jU _);{simp only [zbw c,zbc c,zbn c,zsI,zkW,zcj,zcX,zdg,cT,cF,jQ,jR]};{simp only [zbq,cF,zi1]}
def zLg:vP 462 zoy:=hF2 zBm zY zu zn zTG zSX
def zIP (N:Nat)(b:lM)(c:lM):OA:=
 (cond (ine (ln b)<|ln c) oF<|q0 (σ:=(Int×lM×lM×Unit)) N (λd a=>cond (ilt a.1<|ln a.2.1) (oN (inb a.1<|ln a.2.1)<|oN (inb a.1<|ln a.2.2.1)<|oN (zdp (ix a.2.1 a.1 [])<|ix a.2.2.1 a.1 [])<|cond (nB<|zkK (ix a.2.1 a.1 [])<|ix a.2.2.1 a.1 []) oF<|d (zM .i64 a.1 1,a.2.1,a.2.2.1,())) oT) (0,b,c,()))
def zW4:=zo [(295,0,{n:=27,tm:=[(0,.sl 0 []),(1,.sl 1 []),(5,ti)],lo:=[],ro:=[(0,.sl .int,false),(1,.sl .int,false)]})]
def zWu (a:List LI)(b:List LI)(d:zbE big [aS (.sl .int) a,aS (.sl .int) b])(e:ze1 a b=true):∃N,zIP N a b=some [aB<|ze7 a b]:=by have:=zF.1 e;subst this;have f:=len0 d;refine⟨a.length+1,?_⟩;unfold zIP oN nB;rw[zcj];refine zit a (Ty.dflt<|.sl .int) _ _ f (λi c rec=>?_) (λrec=>?_) (jU _);{simp only [zbw c,zbc c,zbn c,zdp,zkK,zsI,zkW,zcj,zcX,zdg,cT,cF,jQ,jR]};{simp only [zbq,cF,ze7]}
def zOm:vP 295 znh:=hF2 zBm zY zu zn zW4 zWu
def zbbV:zbb:=[(463,zni),(462,zoy),(295,znh)]++zbbU
def zX5:zN zbbV:=zh zHq (zh zLg<|zh zOm zBm)
def zCI (N:Nat)(a b:ah):OA:=
 (oN (zjL a.aw b.aw)<|cond (zi1 a.aw b.aw) (cond (ieq a.A b.A) (cond (ieq a.Pc b.Pc) (oN (zeh a.ar b.ar)<|cond (zet a.ar b.ar) (oN (zeh a.ax b.ax)<|cond (zet a.ax b.ax) (cond (cond (ieq a.Ctl.aq b.Ctl.aq) (cond (ieq a.Ctl.Post b.Ctl.Post) (zhn a.Ctl.Open b.Ctl.Open) false) false) (cond (ieq a.aj b.aj) (cond (cond (ieq a.Exit.Kind b.Exit.Kind) (cond (ieq a.Exit.af b.Exit.af) (cond (zhn a.Exit.Write b.Exit.Write) (ieq a.Exit.N b.Exit.N) false) false) false) (cond (zhn a.aF b.aF) (oN (zdp a.aC b.aC)<|some [aB<|zkK a.aC b.aC]) oF) oF) oF) oF) oF) oF) oF) oF) oF)
def zPi (a b:ah)(c:zkg a b=true):∃N,zCI N a b=some [aB<|zjc a b]:=by have:=zF.1 c;subst this;refine⟨0,?_⟩;simp only[zCI,zjL,zi1,zeh,zet,zdp,zkK,zsI,zkW,zcj,zcX,zdg,cT,cF,jQ,jR,zjc]
def zHp:vP 412 zng:=kF2 zX5 zY zu zn (zo []) zPi
def zbbW:zbb:=[(412,zng)]++zbbV
def zX6:zN zbbW:=zh zHp zX5
def zDQ:=zo [(296,0,{n:=27,tm:=[(0,.sl 0 []),(1,.sl 1 []),(5,ti)],lo:=[],ro:=[(0,.guest,false),(1,.guest,false)]})]
def zDO (a b:List ah)(d:zbE big [aS .guest a,aS .guest b])(e:zfM a b=true):∃N,zoc N a b=some [aB<|zfs a b]:=by
 have:=zF.1 e;subst this;have f:=len0 d;refine⟨a.length+1,?_⟩;unfold zoc oN nB;conv=>zeta
 rw[zcj];refine zit a zA _ _ f (λi c rec=>?_) (λrec=>?_) (jU _);{simp only [zbw c,zbc c,zbn c,zkg,zjc,zsI,zkW,zcj,zcX,zdg,cT,cF,jQ,jR]};{simp only [zbq,cF,zfs]}
def zz2:vP 296 zml:=hF2 zX6 zY zu zn zDQ zDO
def zbbX:zbb:=[(296,zml)]++zbbW
def zX7:zN zbbX:=zh zz2 zX6
def zEx (N:Nat)(a b:ai):OA:=
 (oN (ze1 a.ag b.ag)<|cond (ze7 a.ag b.ag) (oN (zfM a.ac b.ac)<|cond (zfs a.ac b.ac) (oN (zdp a.Outs b.Outs)<|cond (zkK a.Outs b.Outs) (some [aB<|ieq a.aj b.aj]) oF) oF) oF)
def zSW (a b:ai)(c:zls a b=true):∃N,zEx N a b=some [aB<|zkv a b]:=by have:=zF.1 c;subst this;refine⟨0,?_⟩;simp only[zEx,ze1,ze7,zfM,zfs,zdp,zkK,zsI,zkW,zcj,zcX,zdg,cT,cF,jQ,jR,zkv]
def zLf:vP 114 zox:=kF2 zX7 zY zu zn (zo []) zSW
def zbbY:zbb:=[(114,zox)]++zbbX
def zX8:zN zbbY:=zh zLf zX7
def zM2 (N:Nat)(b:ad)(c:Int):OA:=
 (oN (zF5 b c)<|cond (nB<|zul b c) (some [aT .bare (⟨[],[],[],0⟩:ai)])<|q0 (σ:=(Int×Int×Int×Int×lM×lN×lE×lE×lM×lG×LI×lM×lG×LI×Unit)) N (λh a=>let b:=a.2.2.2.2.2;let c:=b.2.2.2.2;let g:=c.2.2.2.1;let f:=c.2.2.2.2.1;let d:=(⟨a.2.2.2.2.1,b.1,b.2.1,b.2.2.1⟩:ad);let e:=ap c.2.2.1 [zqo d a.1 a.2.1]; (cond (ilt a.2.1 8) (oN (zr0 d a.1 a.2.1)<|oN (few<|ln e)<|h (a.1,zM .i64 a.2.1 1,a.2.2.1,a.2.2.2.1,a.2.2.2.2.1,b.1,b.2.1,b.2.2.1,b.2.2.2.1,c.1,c.2.1,e,g,f,()))<|some [aT .bare (⟨c.2.2.1,g,f,a.2.2.2.1⟩:ai)])) (c,0,0,(zgC b c).aj,b.ag,b.aa,b.ao,b.am,[],[],[],[],(zgC b c).ac,(zgC b c).Outs,()))
def z0T:=zo [(55,0,{n:=39,tm:=[(1,ti),(2,.lp 0 0),(4,.lp 1 0),(7,.lp 2 0),(8,ti)],lo:=[(0,[.sl 0 [],.sl 1 [],.sl 2 [],.sl 3 []]),(1,[.sl 4 [],.sl 5 [],.sl 6 [],ti]),(2,[.sl 7 [],.sl 8 [],.sl 9 [],ti])],ro:=[(0,.sl .int,false),(1,.mon,false),(2,.entry,false),(3,.entry,false),(4,.sl .int,true),(5,.guest,true),(6,.int,true),(7,.sl .int,true),(8,.guest,true),(9,.int,true)]})]
def zZg (a:ad)(b:Int)(f:zcT a b=true):∃N,zM2 N a b=some [aT .bare<|zdh a b]:=by
 have e:=zF.1 f;refine zcf λN d=>?_;unfold zM2 zdh zT oN nB;conv=>zeta
 refine i0 (zbv e) ?_;rw[show zul a b=j0 b (ln a.aa) from rfl];cases g:j0 b (ln a.aa);{rfl};{refine zb9 rfl ?_;refine(zwL 8 (λi (t:lM)=>(b,(i:Int),0,(zgC a b).aj,a.ag,a.aa,a.ao,a.am,[],[],[],t,(zgC a b).ac,(zgC a b).Outs,())) _ (λi (c:List LI) j=>bif few (ln<|ap c [zeB a b (i:Int)]) then j (ap c [zeB a b (i:Int)]) else none) (λ(t:lM)=>some [.agg<|Ty.cells .bare (⟨t,(zgC a b).ac,(zgC a b).Outs,(zgC a b).aj⟩:ai)]) (λi h t rec=>?_) (λt rec=>?_) _ ([])<|d (by decide)).trans ?_;{simp only [show ilt (i:Int) 8=true from qL (by omega),zbj h (show 8<=big by decide),cT];exact i0 (zbv e) rfl};{simp only [show ilt ((8:Nat):Int) 8=false from qH (by omega),cF]};rw[zFe a b _ 8 0 [] (by decide)];simp only[zgC,g,cT,jW]}
def zRN:vP 55 zrr:=kF2 zX8 zY zu zn z0T zZg
def zbbZ:zbb:=[(55,zrr)]++zbbY
def zX9:zN zbbZ:=zh zRN zX8
def zYn {d:Type}(h:ad)(K:List ai->Option d):∀(l:List Mon) (i:Nat) (a:List ai),a.length+l.length<=2147483648->
 goL (λi (_:Mon) a c=>bif few (ln<|ap a [zT h (i:Int)]) then c (ap a [zT h (i:Int)]) else none) K l i a=K (a++(List.range' i l.length).map λ(i:Nat)=>zT h (i:Int))
 |[],_,a,_=>by simp[goL]
 |x::l,i,a,b=>by simp only[qY]at b;simp only[goL];rw[zh8 (by simp[ap];omega),cT,zYn h K l (i+1) _ (by simp[ap];omega)];simp[ap,u3]
@[simp] abbrev ztz (h:ad):List ai:=zio h
def zyr:Run:=rF1 dH λb=>(zS b,[aS .bare<|ztz b])
def zCz (N:Nat)(b:ad):OA:=
 (q0 (σ:=(Int×lR×lM×lN×lE×lE×Unit)) N (λe a=>let b:=a.2.2.2.2;let c:=(⟨a.2.2.1,a.2.2.2.1,b.1,b.2.1⟩:ad);let d:=ap a.2.1 [zdh c a.1]; (cond (ilt a.1<|ln a.2.2.2.1) (oN (zcT c a.1)<|oN (few<|ln d)<|e (zM .i64 a.1 1,d,a.2.2.1,a.2.2.2.1,b.1,b.2.1,()))<|some [aS .bare a.2.1])) (0,[],b.ag,b.aa,b.ao,b.am,()))
def zQr:=zo [(11,0,{n:=20,tm:=[(1,.lp 0 0),(3,.sl 0 []),(4,ti)],lo:=[(0,[.sl 1 [],.sl 2 [],.sl 3 [],.sl 4 []])],ro:=[(0,.bare,true),(1,.sl .int,false),(2,.mon,false),(3,.entry,false),(4,.entry,false)]})]
def zO9 (a:ad)(f:zS a=true):∃N,zCz N a=some [aS .bare<|ztz a]:=by
 have d:=zF.1 f;have e:a.aa.length<=big:=(zcC ((zQ a).1 d).2.1.1).1;refine zcf λN c=>?_;unfold zCz oN;conv=>zeta
 refine(zbp a.aa (λi (t:lR)=>((i:Int),t,a.ag,a.aa,a.ao,a.am,())) _ (λi (x:Mon) (t:List ai) g=>bif few (ln<|ap t [zT a (i:Int)]) then g (ap t [zT a (i:Int)]) else none) (λ(t:lR)=>some [.one<|.s .bare t]) (λi b t rec=>?_) (λt rec=>?_) _ ([])<|c e).trans ?_;{simp only [zbw b,zbc b,zbn b,zbj b e,cT];exact i0 (zbv d) rfl};{simp only [zbq,cF]};rw[zYn a _ _ 0 [] (by simpa using (zcC ((zQ a).1 d).2.1.1).2)];simp[zio,vC]
def zHh:vP 11 zyr:=kF1 zX9 zY zu zn zQr zO9
def zbb0:zbb:=[(11,zyr)]++zbbZ
def zYa:zN zbb0:=zh zHh zX9
def z3e {a c:Type}(K:Unit->Option c):∀(l:List a) (i:Nat),goL (λ_ _ (_:Unit) b=>b ()) K l i ()=K ()
 |[],_=>rfl
 |_::l,i=>z3e K l (i+1)
@[simp] abbrev zxb (h:ad)(l:List ai):Bool:=pc (zdJ h/\l=zio h)
@[simp] abbrev zBX (_:ad)(_:List ai):Bool:=true
def zAG:Run:=rF2 dH (dS .bare) λb c=>(zxb b c,[aB<|zBX b c])
def zEu (N:Nat)(b:ad)(d:lR):OA:=
 (cond (ine (ln d)<|ln b.aa) oF<|q0 (σ:=(Int×lR×lM×lN×lE×lE×Unit)) N (λf a=>let b:=a.2.2.2.2;let e:=ix a.2.1 a.1 zdf;let c:=(⟨a.2.2.1,a.2.2.2.1,b.1,b.2.1⟩:ad); (cond (ilt a.1<|ln a.2.1) (oN (zcT c a.1)<|oN (inb a.1<|ln a.2.1)<|oN (zls (zdh c a.1) e)<|cond (nB<|zkv (zdh c a.1) e) oF<|f (zM .i64 a.1 1,a.2.1,a.2.2.1,a.2.2.2.1,b.1,b.2.1,())) oT)) (0,d,b.ag,b.aa,b.ao,b.am,()))
def zTE:=zo [(23,0,{n:=27,tm:=[(1,.sl 0 []),(2,.lp 0 0),(5,ti)],lo:=[(0,[.sl 1 [],.sl 2 [],.sl 3 [],.sl 4 []])],ro:=[(0,.bare,false),(1,.sl .int,false),(2,.mon,false),(3,.entry,false),(4,.entry,false)]})]
def zST (a:ad)(c:List ai)(k:zxb a c=true):∃N,zEu N a c=some [aB<|zBX a c]:=by
 obtain⟨j,g⟩:=zF.1 k;have h:c.length<=big:=(by rw[g,zI0];exact(zcC ((zQ a).1 j).2.1.1).1);refine zcf λN f=>?_;unfold zEu oN nB;conv=>zeta
 rw[show ine (ln c) (ln a.aa)=false by unfold ln;rw[g,zI0];exact zcj _];refine zb9 rfl ?_;refine(zbp c (λi (t:Unit)=>((i:Int),c,a.ag,a.aa,a.ao,a.am,())) _ (λi (x:ai) (_:Unit) l=>l ()) (λ(t:Unit)=>some [.one<|.b true]) (λi d t rec=>?_) (λt rec=>?_) _ ()<|f h).trans ?_;{simp only [zbw d,zbc d,zbn d,zbj d h,cT];have e:zdh a (i:Int)=c[i]:=(by simp[g,zio]);refine i0 (zbv j) ?_;rw[e];exact i0 (zba rfl) rfl};{simp only [zbq,cF]};rw[z3e]
def zLc:vP 23 zAG:=kF2 zYa zY zu zn zTE zST
def zbfv:zbb:=[(23,zAG)]++zbb0
def z9J:zN zbfv:=zh zLc zYa
@[simp] abbrev zr1 (a b:ad):Bool:=pc (zdJ a/\zdJ b/\zio a=zio b)
@[simp] abbrev zvM (_ _:ad):Bool:=true
def zAH:Run:=rF2 dH dH λb c=>(zr1 b c,[aB<|zvM b c])
def zEy (N:Nat)(b a:ad):OA:=
 (oN (zS a)<|oN (zxb b<|ztz a)<|some [aB<|zBX b<|ztz a])
def zSY (a b:ad)(f:zr1 a b=true):∃N,zEy N a b=some [aB<|zvM a b]:=by obtain⟨c,d,e⟩:=zF.1 f;refine⟨0,?_⟩;unfold zEy oN;exact i0 (zbv d) (i0 (zbv ⟨c,e.symm⟩) rfl)
def zLh:vP 43 zAH:=kF2 z9J zY zu zn (zo []) zSY
def z6l {h:ad}(H:HOk h)(m t:Int):(∀i,zT (ziP h m t) i=zT h i)/\(ziP h m t).aa.length=h.aa.length:=by
 unfold ziP;rw[zQZ.2 H,cond_true];cases a:j0 m (ln h.aa) with
 |false=>exact⟨λ_=>rfl,rfl⟩
 |true=>
  cases b:zl t 0 3 with
  |false=>exact⟨λ_=>rfl,rfl⟩
  |true=>have k:KeepP (ix h.aa m mZ) {ix h.aa m mZ with aq:=t}:=⟨rfl,rfl⟩;refine⟨λi=>?_,zeR _ _ _⟩;rw[cond_true,cond_true];refine(zbaA (h:=h) (r:={h with aa:=up h.aa m {ix h.aa m mZ with aq:=t}}) a rfl rfl k i).trans ?_;by_cases e:i=m;{subst e;rw[zef.2 rfl,cond_true];unfold zT;rw[a];rfl};{rw [ziR.2 e];rfl}
def z5n {h:ad}(H:HOk h)(a:r0)(b:zl a.Kind 13 17=true):zio (zck h a)=zio h:=by
 have c:zl a.Kind 1 17=true:=zo1.2 (by have:=zo1.1 b;omega);have e:zck h a=ziS h a:=(by unfold zck;rw[c,b];rfl);rw[e];suffices k:(∀i,zT (ziS h a) i=zT h i)/\(ziS h a).aa.length=h.aa.length from z3U k.2 k.1
 unfold ziS;have k:∀r,Op h r->(∀i,zT r i=zT h i)/\r.aa.length=h.aa.length:=λr k=>⟨λi=>k.like.seen i,k.like.len⟩;cases ieq a.Kind 13 with|true=>exact k _ (z5k H _ _)|false=>(cases ieq a.Kind 14 with|true=>exact k _ (z7V H _ _)|false=>(cases ieq a.Kind 15 with|true=>exact k _ (z7U H _ _)|false=>(cases ieq a.Kind 16 with|true=>exact z6l H _ _|false=>exact k _ (zbdI H))))
def z5m {a:r0}(h:zl a.Kind 13 17=true)(L:List ai):zvj L a=L:=by unfold zvj;rw[h];cases zl a.Kind 1 17<;>rfl
def zZs {d b:Type}{f:d->b}{l:List d}{x:b}{c:List b}(h:l.map f=x::c):∃a r,l=a::r/\f a=x/\r.map f=c:=by cases l with|nil=>cases h|cons a r=>simp only[jG,List.cons.injEq]at h;exact⟨a,r,rfl,h.1,h.2⟩
def zbe6 {a:AV}{b:CTy}(h:some a.sh=some (false,[b])):∃c,a = .one c/\c.ty=b:=by cases a with|one c=>simp only[AV.sh,qC,jT,List.cons.injEq,and_true,true_and]at h;exact⟨c,rfl,h⟩|agg l=>simp[AV.sh]at h
def sh_s {a:AV}{t:Ty}(h:some a.sh=some (false,[.s t])):∃l:List t.den,a = .one (.s t l):=by obtain⟨c,rfl,b⟩:=zbe6 h;obtain⟨l,rfl⟩:=zoh b;exact⟨l,rfl⟩
section
open Go Go.ChangeShapes Go.WideShapes Go.ChangeAt
abbrev zSf (_:LI):Bool:=true
abbrev zOP (l:LI):Bool:=igt (ln l) 1048576
def zU1:Run:=rF1 (dS .u8) λb=>(zSf b,[aB<|zOP b])
def z2N (N:Nat)(a:LI):OA:=
 (some [aB<|igt (ln a) 1048576])
def z7G (a:LI)(b:zSf a=true):∃N,z2N N a=some [aB<|zOP a]:=by refine⟨0,?_⟩;unfold z2N;first|rfl|(simp only [*,zOP,cT,cF]<;>rfl)|simp_all[Ty.cells,zOP]
def z1w:vP 9 zU1:=kF1 zBh zY zu zn (zo []) z7G
def zbbe:zbb:=[(9,zU1),(29,zvd),(30,ziK),(31,ziK),(32,zvc),(33,zuR),(34,zuS),(35,zys),(36,zve),(24,zAB),(25,zru),(37,zjf),(38,zjf),(39,zg8),(40,zg8),(41,zje),(42,zje),(28,znO),(43,zAH)]++z4f
def z9w:zN zbbe:=zh z1w (zh zDC<|zh zxV<|zh zra<|zh zDB<|zh zNM<|zh zxX<|zh zHj<|zh zDD<|zh zKX<|zh zu6<|zh zuJ<|zh zuL<|zh zq9<|zh zrb<|zh zuI<|zh zuK<|zh zzX<|zh zLh zBh)
def nB_f {b:Bool}(h:(cond b false true)=false):b=true:=by cases b;cases h;rfl
def z3o (x:Bool):(cond (zhn x x) false true)=false:=by rw[zdg];rfl
def zVb (t:aE):(cond (cond (zhn t.Ok t.Ok) (ieq t.N t.N) false) false true)=false:=by rw[zdg,zcX];rfl
def z9g (c:Ctl):(cond (cond (ieq c.aq c.aq) (cond (ieq c.Post c.Post) (zhn c.Open c.Open) false) false) false true)=false:=by rw[zdg,zcX,zcX];rfl
def zvf (N:Nat)(c:LI):OA:=
 let e:=zfw 12;let d:=zfb 12;let n:=zfw 17;let m:=zfb 17;let j:=zpm c;let h:=zkD c;let g:=zkC c;let i:=zd7 g h;let b:=zkF c;let a:=zkE c;let l:=zgd a b;let p:=(⟨1,0,0,0,0,0⟩:r0);let f:=zeQ p;let k:=aB<|zlC p; (oN (zSf c)<|cond (zOP c) oT<|oN (ziA c)<|oN (zgj a b)<|oN (zgj a b)<|oN (ziz c)<|oN (zpj g h)<|oN (zpj g h)<|oN (zkn c)<|oN (ziB c)<|cond (nB<|cond (zhn (zfG a b).Ok (zfG a b).Ok) (ieq (zfG a b).N (zfG a b).N) false) oF<|oN (zwN l<|zgd a b)<|cond (nB<|zvx l<|zgd a b) oF<|cond (nB<|cond (zhn (zdT g h).Ok (zdT g h).Ok) (ieq (zdT g h).N (zdT g h).N) false) oF<|oN (zpE i<|zd7 g h)<|cond (nB<|zpe i<|zd7 g h) oF<|oN (zeQ j)<|oN (zeQ j)<|cond (nB<|cond (ieq (zeV j).aq (zeV j).aq) (cond (ieq (zeV j).Post (zeV j).Post) (zhn (zeV j).Open (zeV j).Open) false) false) oF<|oN (zfb<|zha c)<|oN (zfb<|zha c)<|cond (nB<|zhn (zfw<|zha c)<|zfw<|zha c) oF<|oN (zeQ b)<|oN (zeQ b)<|cond (nB<|zhn (zlC b)<|zlC b) oF<|oN (zfb h.Kind)<|cond (nB<|zfw h.Kind) (oN (zfb b.Kind)<|cond (nB<|zfw b.Kind) (oN m<|cond n (oN d<|cond (nB e) (oN f<|some [k]) oF) oF)<|oN (zb8 a)<|cond (nB<|zb7 a) (oN m<|cond n (oN d<|cond (nB e) (oN f<|some [k]) oF) oF)<|oN (zr1 l a)<|cond (zvM l a) (oN m<|cond n (oN d<|cond (nB e) (oN f<|some [k]) oF) oF) oF)<|oN (zpE i g)<|cond (zpe i g) (oN (zfb b.Kind)<|cond (nB<|zfw b.Kind) (oN m<|cond n (oN d<|cond (nB e) (oN f<|some [k]) oF) oF)<|oN (zb8 a)<|cond (nB<|zb7 a) (oN m<|cond n (oN d<|cond (nB e) (oN f<|some [k]) oF) oF)<|oN (zr1 l a)<|cond (zvM l a) (oN m<|cond n (oN d<|cond (nB e) (oN f<|some [k]) oF) oF) oF) oF)
def z1X (N:Nat)(a:LI):evalFn (cQ zbbe mct0 zBQ zMe) (zo []) N 12 4 [aS .u8 a]=zvf N a:=by kernel_rfl
def zVi (N:Nat)(d:LI)(e:d.length<=big):Ends (λa=>a=[.one<|.b true]) (zvf N d):=by
 unfold zvf oN nB;conv=>zeta
 have A:=(zyx<|zCN e).2.sm;have C:=(zyv<|zCM e).2;refine zB rfl (zbB (λ_=>zwt rfl) λ_=>zB (zCN e) ?_);generalize zkE d=h at A;generalize zkF d=a;have f:=(zQ _).2 A;refine zB (zba f) (zB (zba f)<|zB (zCM e) ?_);generalize zkC d=l at C;generalize zkD d=b;refine zB (zba C) (zB (zba C)<|zB (z1m e)<|zB (zVh e) ?_);generalize zpm d=c;generalize zha d=k;refine zsH (zVb _) (zB (zba rfl) (zsH rfl (zsH (zVb _)<|zB (zba rfl) (zsH rfl (zB rfl (zB rfl (zsH (z9g _) (zB rfl (zB rfl (zsH (z3o _) (zB rfl (zB rfl (zsH (z3o _) (zB rfl ?_))))))))))))));refine zbB (λ_=>?_) (λg=>zB (zba<|z5m (nB_f g) l) (zB rfl ?_));(all_goals refine zB rfl (zbB (λ_=>?_) λi=>zB rfl (zbB (λ_=>?_) λj=>zB (zba ⟨(zQ _).2 (zTp A),f,z5n (zQZ.1<|nB_f j) a<|nB_f i⟩) (zB rfl ?_))));all_goals exact zB rfl (zB rfl (zB rfl (zB rfl (zB rfl (zwt rfl)))))
def zXI (d:LI)(h:∀c∈zI [aS .u8 d],CVOk c):∃N,zvf N d=some [.one<|.b true]:=by have e:zbE big [aS .u8 d]:=λc f=>CVB.of_ok (h c f);have g:=len0 e;exact⟨5,zbdo (G:=λa=>a=[.one<|.b true])<|zVi 5 d g⟩
def zTn:Tryz.f4.params.toList.map (zc4 Tryz.prog 4)=[some (false,[.s .u8])]:=by kernel_rfl
def zJ4:z2J 4 Tryz.f4.params.toList:=by refine z1e z9w zY zu zn (ziX (by kernel_rfl)) ?_;intro c hg;obtain⟨a,e⟩:=hg;rw[zTn]at a;obtain⟨h,g,rfl,d,a⟩:=zZs a;cases List.map_eq_nil_iff.1 a;obtain⟨b,rfl⟩:=sh_s d;obtain⟨N,f⟩:=zXI b e;exact⟨zo [],N,12,(z1X N b).trans f⟩
def zWY (H:Type)(a:List (DataW H))(h:a.length=Tryz.f4.params.toList.length):Rows.fnActsSpec.fn H a={results:=[.lit<|.bool true],args:=a}:=by
 have b:a.length=1:=h.trans (by kernel_rfl)
 match a,b with
 |[d],_=>rfl
set_option maxRecDepth 100000 in
def zPm (g:Os)(a:g.Started)(H:Type)(enc:TypeId×Value->H) :
 ReturnsInHanded {} Tryz.checked g 4 .any (Rows.fnActsSpec.pre6 enc Tryz.prog Tryz.f4 Rows.fnActsRow.domain false) (Rows.fnActsSpec.post enc Tryz.prog Tryz.f4 false true false false):=by
 refine returnsInHanded_of_change_shaped (C:=Tryz.checked) own a (by kernel_rfl) Tryz.func4
  (ChangeSpec.witness6 (enc:=enc) (C:=Tryz.checked) false ⟨#[],#[.slice none 0 0],[]⟩ 8 (by kernel_rfl) (by kernel_rfl) (by kernel_rfl) (by kernel_rfl)) ?_
 intro W d c h i b e j _ f _ _;exact zOQ (P:=Tryz.prog) z9d z9X rfl zWY (by kernel_rfl) (B:=4) (by kernel_rfl) (by kernel_rfl) zJ4 W d c h i b e j f
end
end
end Go.Proofs.YtapgkefgcbapcaaGreat.E
