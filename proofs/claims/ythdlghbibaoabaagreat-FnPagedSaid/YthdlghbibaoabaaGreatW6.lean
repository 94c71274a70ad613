/- What is proved here: a part of the proof that the statement of this claim holds (several texts of wip/, laid together). -/
import Derived.Test.YthdlghbibaoabaaGreatW5
import Derived.WalkKit
import Derived.Tactics2
import Derived.Deep.RegionWith
import Derived.Laws.Rows
namespace Go.Proofs.YthdlghbibaoabaaGreat.E
open Go
set_option linter.unusedVariables false
set_option maxRecDepth 100000
set_option linter.unusedSimpArgs false
set_option linter.unusedSectionVars false
noncomputable section
instance:Inhabited Slot:=⟨⟨0,0⟩⟩
instance:Inhabited Entry:=⟨⟨0,0,0,0⟩⟩
instance:Inhabited GExit:=⟨⟨0,0,false,0⟩⟩
instance:Inhabited Guest:=⟨⟨[],0,0,[],[],⟨0,0,false⟩,0,⟨0,0,false,0⟩,false,[]⟩⟩
theorem zvk {c:Cur}(h:zbd c){n m:Int}(a:0<n)(b:n<=m):inb (zk c n) m=true:=by have:=zfu h a;exact qJ (by omega)
theorem zDc {c:Cur}(h:zbd c){n m:Int}(a:0<n)(b:n<=m+1):inr 0 (zk c n) m=true:=by have:=zfu h a;exact qJ (by omega)
theorem zDV {a:Type}(l:List a)(n:Int):(tk l n).length<=l.length:=by simp[tk];omega
theorem zhB {a:Type}(l:List a)(n:Int)(x:a):(up l n x).length=l.length:=by simp[up]
theorem z6t {a:Type}(l:List a)(n:Int):ln (tk l n)<=ln l:=by have:=zDV l n;unfold ln;omega
theorem z6u {a:Type}(l:List a)(n:Int)(x:a):ln (up l n x)=ln l:=by unfold ln;rw[zhB]
def I64 (x:Int):Prop:=-9223372036854775808<=x/\x<=9223372036854775807
theorem zVZ {f:Type}{c:Cur}(h:zbd c){P:f->Prop}{m:Int}(q:0<=m)(H:m<=1000){fc:Cur->Bool}{fs:Cur->Cur}{fv:Cur->f}(w:∀{c:Cur},zbd c->fc c=true)(B:∀c,0<=(fs c).i)(hg:∀{c:Cur},zbd c->P (fv c)){G:Ans->Prop}{R:Cur->List f->Ans}(v:∀s l,s.b=c.b->0<=s.i->ln l=m->(∀x∈l,P x)->G (R s l)){σ:Type}(S:Int->Int×Int×List f->σ){F:(σ->OA)->σ->OA}(u:∀rec t i k l,F rec (S t (i,k,l))=bif ilt t m then (cond (fc ⟨c.b,i,k⟩) (cond (few (ln (ap l [fv ⟨c.b,i,k⟩]))) (rec (S (zM .i64 t 1) ((fs ⟨c.b,i,k⟩).i,(fs ⟨c.b,i,k⟩).h,ap l [fv ⟨c.b,i,k⟩]))) none) none) else some (R ⟨c.b,i,k⟩ l)):Ends G (iter 1002 F (S 0 (c.i,c.h,[]))):=by refine zlV (fun n s=>∃t i k l,s=S t (i,k,l)/\t+(n:Int)=1000/\0<=t/\t<=m/\0<=i/\(∀x∈l,P x)/\ln l=t) ?_ 1002 1000 _ ⟨0,c.i,c.h,[],rfl,rfl,kS 0,q,h.1,by simp,rfl⟩ (by omega);rintro n s rec ⟨t,i,k,l,rfl,C,r,D,j,p,E⟩ d;rw[u];have a:zbd ⟨c.b,i,k⟩:=zbJ h j;refine zbB (fun g=>?_) (fun g=>?_);{have A:t<m:=qE g;have I:=zgR (y:=1) r (by omega) (by omega) (by omega);refine zu (w a) (zu (zkp (by rw[zg9];omega)) (d (n-1) _ (by omega) ⟨_,_,_,_,rfl,by omega,by omega,by omega,B _,?_,by rw[zg9];omega⟩));intro x e;rcases jJ.1 e with e|e;{exact p x e};{rw [qF.1 e];exact hg a}};{have z:¬ t<m:=jW g;exact ztU (v _ l rfl j (by omega) p)}
def zr3 (N:Nat)(c:Cur)  : OA :=
 let a:=(zba c [3,3,1,2,0,3,1,(-1),4,9223372036854775807]); (oN (zbp c [3,3,1,2,0,3,1,(-1),4,9223372036854775807]) (some [(.agg [(.s .u8 c.b),(.i .i64 a.i),(.i .i64 a.h)]),(aI (zbk c [3,3,1,2,0,3,1,(-1),4,9223372036854775807]))]))
def zlD (c:Cur)(s:Cur)(a:Int):Prop:=(∃N,zr3 N c=some (AV.agg (zbS s)::[aI a]))/\(s.b=c.b/\0<=s.i)/\(True)
def zjG (c:Cur)  : Bool:=wC (zlD c)
def zjH (c:Cur)  : Cur:=wS (zlD c)
def zq5 (c:Cur)  : Int:=wV (zlD c)
theorem zS1 {c:Cur}(h:zjG c=true):zlD c (zjH c) (zq5 c):=wG h
theorem zS3 (c:Cur)  : 0<=(zjH c).i:=wP fun h=>h.2.1.2
theorem zS2 (c:Cur)(h:∃N,Ends (wE (fun a=>aI a) c.b fun a=>True) (zr3 N c)):zjG c=true:=wI (fun _ _ h=>h) h
def zuj:zdy:=rP0 fun c=>(zjG c,zjH c,[aI (zq5 c)])
theorem zGb:zbN Tryz.prog 278 [false,true,true] zuj:=hP0 zdC zU zJF zn (zq []) (fun _ h=>(zS1 h).1)
theorem z6R {c:Cur}(h:zbd c):zjG c=true:=by
 refine zS2 c ⟨0,?_⟩;unfold zr3 oN;conv=>zeta
 exact zu (zeb h (by simp)) (zbH aI (zbT _ _) trivial)
def z9g:zcU:=[(278,([false,true,true],zuj))]++z9f
theorem zWh:zb2 z9g:=zcu zJF (by
 intro x a;simp only[qG,qO,or_false]at a;rcases a with rfl
 .exact zGb)
def z8f:zW:=[(75,zuA),(293,zoh),(318,zpX),(319,zsp)]++zNS
theorem zdN:zK z8f:=zi zx9 (zi zsL (zi zt1 (zi zvE zdC)))
def zwW (N:Nat)(c:Cur)(a0:Int):OA:=
 let d:=({ (zO c 5) with b:=c.b}:Cur);let a:=({ (zf d a0) with b:=c.b}:Cur); (oN (zcT c 5) (cond (zc1 c 5) (oN zcv (some [(.agg [(.s .u8 c.b),(.i .i64 (zO c 5).i),(.i .i64 (zO c 5).h)]),(.agg [(.i .i64 zbu.Page),(.i .i64 zbu.Rights)])])) (oN (zx d a0) (oN (zbp a [3,3,3,1,2]) (some [(.agg [(.s .u8 c.b),(.i .i64 (zba a [3,3,3,1,2]).i),(.i .i64 (zba a [3,3,3,1,2]).h)]),(.agg [(.i .i64 (zk d a0)),(.i .i64 (zbk a [3,3,3,1,2]))])])))))
def zoV (c:Cur)(a0:Int)(s:Cur)(a:Slot):Prop:=(∃N,zwW N c a0=some (AV.agg (zbS s)::[aT .slot a]))/\(s.b=c.b/\0<=s.i)/\((0<a0->a0<=1000->I64 a.Page))
def zh5 (c:Cur)(a0:Int):Bool:=wC (zoV c a0)
def zfK (c:Cur)(a0:Int):Cur:=wS (zoV c a0)
def zfq (c:Cur)(a0:Int):Slot:=wV (zoV c a0)
theorem zxu {c:Cur}{a0:Int}(h:zh5 c a0=true):zoV c a0 (zfK c a0) (zfq c a0):=wG h
theorem zHV (c:Cur)(a0:Int):0<=(zfK c a0).i:=wP fun h=>h.2.1.2
theorem zYD (c:Cur)(a0:Int)(h:∃N,Ends (wE (fun a=>aT .slot a) c.b fun a=>(0<a0->a0<=1000->I64 a.Page)) (zwW N c a0)):zh5 c a0=true:=wI (fun _ _ h=>h) h
def zyu:zdy:=rP1 dI fun c b=>(zh5 c b,zfK c b,[aT .slot (zfq c b)])
theorem zLO:zbN Tryz.prog 277 [false,true,true] zyu:=hP1 zdN zU zWh zn (zq []) (fun _ _ h=>(zxu h).1)
theorem zNc {c:Cur}(h:zbd c)(a:Int):zh5 c a=true:=by
 refine zYD c a ⟨0,?_⟩;unfold zwW oN;conv=>zeta
 have d:zbd {zO c 5 with b:=c.b}:=zbJ h (zcg _ _);have g:zbd {zf {zO c 5 with b:=c.b} a with b:=c.b}:=zbJ h (zD _ _);refine zu (ziw h 5) (zbB (fun _=>zu rfl (zbH (aT .slot) (v:=⟨_,_⟩) (zcg _ _) (fun _ _=>?_))) (fun _=>zu (zby d a) (zu (zeb g (by simp)) (zbH (aT .slot) (v:=⟨_,_⟩) (zbT _ _) (fun e f=>?_)))));{exact⟨by decide,by decide⟩};{have:=zfu d e;exact⟨Int.le_trans (by decide) this.1,Int.le_trans (vL this.2) (by omega)⟩}
def z9h:zcU:=[(277,([false,true,true],zyu))]++z9g
theorem zJG:zb2 z9h:=zcu zWh (by
 intro x a;simp only[qG,qO,or_false]at a;rcases a with rfl
 .exact zLO)
def zzo (N:Nat)(c:Cur)(a0:Int):OA:=
 let d:=({ (zfK c a0) with b:=c.b}:Cur);let a:=({ (zf d 12) with b:=c.b}:Cur);let e:=(zba a [(-1),(-2),a0,9223372036854775807,(-9223372036854775808)]); (oN (zh5 c a0) (oN (zx d 12) (cond (ieq (zk d 12) 0) (oN (zbp a [(-1),(-2),a0,9223372036854775807,(-9223372036854775808)]) (some [(.agg [(.s .u8 c.b),(.i .i64 e.i),(.i .i64 e.h)]),(.agg [(.i .i64 (zbk a [(-1),(-2),a0,9223372036854775807,(-9223372036854775808)])),(.i .i64 (zfq c a0).Rights)])])) (cond (ieq (zk d 12) 1) (oN (zjG a) (some [(.agg [(.s .u8 c.b),(.i .i64 (zjH a).i),(.i .i64 (zjH a).h)]),(.agg [(.i .i64 (zfq c a0).Page),(.i .i64 (zq5 a))])])) (some [(.agg [(.s .u8 c.b),(.i .i64 (zf d 12).i),(.i .i64 (zf d 12).h)]),(.agg [(.i .i64 (zfq c a0).Page),(.i .i64 (zfq c a0).Rights)])])))))
def zq6 (c:Cur)(a0:Int)(s:Cur)(a:Slot):Prop:=(∃N,zzo N c a0=some (AV.agg (zbS s)::[aT .slot a]))/\(s.b=c.b/\0<=s.i)/\((0<a0->a0<=1000->I64 a.Page))
def zoS (c:Cur)(a0:Int):Bool:=wC (zq6 c a0)
def zoT (c:Cur)(a0:Int):Cur:=wS (zq6 c a0)
def zJS (c:Cur)(a0:Int):Slot:=wV (zq6 c a0)
theorem zM3 {c:Cur}{a0:Int}(h:zoS c a0=true):zq6 c a0 (zoT c a0) (zJS c a0):=wG h
theorem z1y (c:Cur)(a0:Int):0<=(zoT c a0).i:=wP fun h=>h.2.1.2
theorem z1x (c:Cur)(a0:Int)(h:∃N,Ends (wE (fun a=>aT .slot a) c.b fun a=>(0<a0->a0<=1000->I64 a.Page)) (zzo N c a0)):zoS c a0=true:=wI (fun _ _ h=>h) h
def zBr:zdy:=rP1 dI fun c b=>(zoS c b,zoT c b,[aT .slot (zJS c b)])
theorem zOz:zbN Tryz.prog 213 [false,true,true] zBr:=hP1 zdN zU zJG zn (zq []) (fun _ _ h=>(zM3 h).1)
theorem zQL {c:Cur}(h:zbd c)(a:Int):zoS c a=true:=by
 refine z1x c a ⟨0,?_⟩;unfold zzo oN;conv=>zeta
 have d:zbd {zfK c a with b:=c.b}:=zbJ h (zHV _ _);have f:zbd {zf {zfK c a with b:=c.b} 12 with b:=c.b}:=zbJ h (zD _ _);have g:=(zxu (zNc h a)).2.2;refine zu (zNc h a) (zu (zby d 12) (zbB (fun _=>zu (zeb f (by simp)) (zbH (aT .slot) (v:=⟨zbk _ _,(zfq c a).Rights⟩) (zbT _ _) (fun e i=>?_))) (fun _=>zbB (fun _=>zu (z6R f) (zbH (aT .slot) (v:=⟨(zfq c a).Page,zq5 _⟩) (zS3 _) (fun e d=>g e d))) (fun _=>zbH (aT .slot) (v:=⟨(zfq c a).Page,(zfq c a).Rights⟩) (zD _ _) (fun e d=>g e d)))));have j:=zZH f (l:=[-1,-2,a,9223372036854775807,-9223372036854775808]) (by simp);simp only[qG,qO,or_false]at j;unfold I64;dsimp only;omega
def ztF (N:Nat)(c:Cur)(a0 g:Int):OA:=
 (iter (σ:=(Int×(Int×(Int×(Int×(Int×(lS×((List Int)×Unit)))))))) N (fun j a=>let e:=a.2.2.2.2.2.2.1;let d:=(⟨e,a.2.2.2.1,a.2.2.2.2.1⟩:Cur);let f:=(ap a.2.2.2.2.2.1 [(zfq d a.2.1)]); (cond (ilt a.2.2.1 a.1) (oN (zh5 d a.2.1) (oN (few (ln f)) (j (a.1,(a.2.1,((zM .i64 a.2.2.1 1),((zfK d a.2.1).i,((zfK d a.2.1).h,(f,(e,())))))))))) (some [(.agg [(.s .u8 e),(.i .i64 a.2.2.2.1),(.i .i64 a.2.2.2.2.1)]),(aS .slot a.2.2.2.2.2.1)]))) (a0,(g,(0,(c.i,(c.h,([],(c.b,()))))))))
def zQd:FuncId->Nat->Option Tmpl:=zq [(212,0,{n:=22,tm:=[(0,.lp 0 0),(1,ti),(2,ti),(7,.sl 0 []),(8,ti)],lo:=[(0,[.sl 1 [],ti,ti])],ro:=[(0,.slot,true),(1,.u8,false)]})]
def zmG (c:Cur)(a0:Int)(a:Int)(s:Cur)(d:List Slot):Prop:=(∃N,ztF N c a0 a=some (AV.agg (zbS s)::[aS .slot d]))/\(s.b=c.b/\0<=s.i)/\((0<=a0->a0<=1000->ln d=a0/\(0<a->a<=1000->∀s∈d,I64 s.Page)))
def zg2 (c:Cur)(a0:Int)(a:Int):Bool:=wC (zmG c a0 a)
def zI (c:Cur)(a0:Int)(a:Int):Cur:=wS (zmG c a0 a)
def zdi (c:Cur)(a0:Int)(a:Int):List Slot:=wV (zmG c a0 a)
theorem zuR {c:Cur}{a0:Int}{a:Int}(h:zg2 c a0 a=true):zmG c a0 a (zI c a0 a) (zdi c a0 a):=wG h
theorem zg3 (c:Cur)(a0:Int)(a:Int):0<=(zI c a0 a).i:=wP fun h=>h.2.1.2
theorem zWx (c:Cur)(a0:Int)(a:Int)(h:∃N,Ends (wE (fun d=>aS .slot d) c.b fun d=>(0<=a0->a0<=1000->ln d=a0/\(0<a->a<=1000->∀s∈d,I64 s.Page))) (ztF N c a0 a)):zg2 c a0 a=true:=wI (fun _ _ h=>h) h
def zvQ:zdy:=rP2 dI dI fun c b d=>(zg2 c b d,zI c b d,[aS .slot (zdi c b d)])
theorem zI9:zbN Tryz.prog 212 [false,true,true] zvQ:=hP2 zdN zU zJG zn zQd (fun _ _ _ h=>(zuR h).1)
theorem zzh {c:Cur}(h:zbd c){a0:Int}(f:0<=a0)(g:a0<=1000)(a:Int):zg2 c a0 a=true:=by
 refine zWx c a0 a ⟨1002,?_⟩;unfold ztF oN;conv=>zeta
 exact zVZ h (P:=fun s=>0<a->a<=1000->I64 s.Page) f g (fc:=fun c=>zh5 c a) (fs:=fun c=>zfK c a) (fv:=fun c=>zfq c a) (R:=fun s l=>AV.agg (zbS s)::[aS .slot l]) (fun h=>zNc h a) (fun c=>zHV c a) (fun h=>(zxu (zNc h a)).2.2) (fun s l j m n p=>⟨s,l,rfl,⟨j,m⟩,fun _ _=>⟨n,fun d e s q=>p s q d e⟩⟩) ((fun i t=>(a0,a,(i:Int),t.1,t.2.1,t.2.2,c.b,())):Int->Int×Int×List Slot->_) (fun rec t i k l=>rfl)
theorem zba7 {c:Cur}(h:zbd c){n m:Int}(a:0<=n)(b:n<=1000)(d:0<m)(e:m<=1000):ln (zdi c n m)=n/\∀s∈zdi c n m,I64 s.Page:=by have g:=(zuR (zzh h a b m)).2.2 a b;exact⟨g.1,g.2 d e⟩
def z9i:zcU:=[(213,([false,true,true],zBr)),(212,([false,true,true],zvQ))]++z9h
theorem zJH:zb2 z9i:=zcu zJG (by
 intro x a;simp only[qG,qO,or_false]at a;rcases a with rfl|rfl
 .exact zOz
 .exact zI9)
def znE (N:Nat)(c:Cur)(a0 a:Int):OA:=
 let f:=(zdi c a0 a);let e:=({ (zI c a0 a) with b:=c.b}:Cur);let d:=({ (zf e 8) with b:=c.b}:Cur);let j:=(zk d a0);let g:=({ (zf d a0) with b:=c.b}:Cur); (oN (zg2 c a0 a) (oN (zx e 8) (cond (ieq (zk e 8) 0) (oN (zx d a0) (oN (zoS g a) (oN (inb j (ln f)) (share (up f j (zJS g a)) (fun k=>(some [(.agg [(.s .u8 c.b),(.i .i64 (zoT g a).i),(.i .i64 (zoT g a).h)]),(aS .slot k)])))))) (cond (ieq (zk e 8) 1) (oN (zx d a0) (oN (inr 0 j (ln f)) (some [(.agg [(.s .u8 c.b),(.i .i64 (zf d a0).i),(.i .i64 (zf d a0).h)]),(aS .slot (tk f j))]))) (some [(.agg [(.s .u8 c.b),(.i .i64 (zf e 8).i),(.i .i64 (zf e 8).h)]),(aS .slot f)])))))
def zjj (c:Cur)(a0:Int)(a:Int)(s:Cur)(d:List Slot):Prop:=(∃N,znE N c a0 a=some (AV.agg (zbS s)::[aS .slot d]))/\(s.b=c.b/\0<=s.i)/\((0<a0->a0<=1000->ln d<=a0/\(0<a->a<=1000->∀s∈d,I64 s.Page)))
def zff (c:Cur)(a0:Int)(a:Int):Bool:=wC (zjj c a0 a)
def zf7 (c:Cur)(a0:Int)(a:Int):Cur:=wS (zjj c a0 a)
def zey (c:Cur)(a0:Int)(a:Int):List Slot:=wV (zjj c a0 a)
theorem zoQ {c:Cur}{a0:Int}{a:Int}(h:zff c a0 a=true):zjj c a0 a (zf7 c a0 a) (zey c a0 a):=wG h
theorem zoR (c:Cur)(a0:Int)(a:Int):0<=(zf7 c a0 a).i:=wP fun h=>h.2.1.2
theorem zM2 (c:Cur)(a0:Int)(a:Int)(h:∃N,Ends (wE (fun d=>aS .slot d) c.b fun d=>(0<a0->a0<=1000->ln d<=a0/\(0<a->a<=1000->∀s∈d,I64 s.Page))) (znE N c a0 a)):zff c a0 a=true:=wI (fun _ _ h=>h) h
def zrM:zdy:=rP2 dI dI fun c b d=>(zff c b d,zf7 c b d,[aS .slot (zey c b d)])
theorem zCr:zbN Tryz.prog 137 [false,true,true] zrM:=hP2 zdN zU zJH zn (zq []) (fun _ _ _ h=>(zoQ h).1)
theorem znH {c:Cur}(h:zbd c){n:Int}(a:0<n)(j:n<=1000)(m:Int):zff c n m=true:=by
 refine zM2 c n m ⟨0,?_⟩;unfold znE oN;conv=>zeta
 have l:zbd {zI c n m with b:=c.b}:=zbJ h (zg3 _ _ _);have i:zbd {zf {zI c n m with b:=c.b} 8 with b:=c.b}:=zbJ h (zD _ _);have k:zbd {zf {zf {zI c n m with b:=c.b} 8 with b:=c.b} n with b:=c.b}:=zbJ h (zD _ _);have g:=(zuR (zzh h (vL a) j m)).2.2 (vL a) j;generalize zdi c n m=T at g;refine zu (zzh h (vL a) j m) (zu (zby l 8) (zbB (fun _=>zu (zby i n) (zu (zQL k m) (zu (zvk i a (by omega)) (zk7 (zbH (aS .slot) (z1y _ _) (fun _ _=>⟨by rw[z6u];omega,fun e f s d=>?_⟩)))))) (fun _=>zbB (fun _=>zu (zby i n) (zu (zDc i a (by omega)) (zbH (aS .slot) (zD _ _) (fun _ _=>⟨?_,fun e f s d=>g.2 e f s (jV d)⟩)))) (fun _=>zbH (aS .slot) (zD _ _) (fun _ _=>⟨by omega,g.2⟩)))));{rcases qW d with d|rfl;{exact g.2 e f s d};{exact(zM3 (zQL k m)).2.2 e f}};{have:=z6t T;exact Int.le_trans (this _) (by omega)}
def zwX (N:Nat)(c:Cur)  : OA :=
 (iter (σ:=(Int×(Int×(Int×((List Int)×((List Int)×Unit)))))) N (fun f a=>let d:=(⟨a.2.2.2.2.1,a.2.1,a.2.2.1⟩:Cur);let e:=(ap a.2.2.2.1 [(zk d 100)]); (cond (ilt a.1 4) (oN (zx d 100) (oN (few (ln e)) (f ((zM .i64 a.1 1),((zf d 100).i,((zf d 100).h,(e,(a.2.2.2.2.1,())))))))) (some [(.agg [(.s .u8 a.2.2.2.2.1),(.i .i64 a.2.1),(.i .i64 a.2.2.1)]),(aS .int a.2.2.2.1)]))) (0,(c.i,(c.h,([],(c.b,()))))))
def zTk:FuncId->Nat->Option Tmpl:=zq [(214,0,{n:=16,tm:=[(0,.lp 0 0),(3,.sl 0 []),(4,ti)],lo:=[(0,[.sl 1 [],ti,ti])],ro:=[(0,.int,true),(1,.u8,false)]})]
def zoX (c:Cur)(s:Cur)(a:List Int):Prop:=(∃N,zwX N c=some (AV.agg (zbS s)::[aS .int a]))/\(s.b=c.b/\0<=s.i)/\(a.length=4)
def zh6 (c:Cur)  : Bool:=wC (zoX c)
def zeV (c:Cur)  : Cur:=wS (zoX c)
def znw (c:Cur)  : List Int:=wV (zoX c)
theorem zxv {c:Cur}(h:zh6 c=true):zoX c (zeV c) (znw c):=wG h
theorem zHW (c:Cur)  : 0<=(zeV c).i:=wP fun h=>h.2.1.2
theorem zYE (c:Cur)(h:∃N,Ends (wE (fun a=>aS .int a) c.b fun a=>a.length=4) (zwX N c)):zh6 c=true:=wI (fun _ _ h=>h) h
def zyv:zdy:=rP0 fun c=>(zh6 c,zeV c,[aS .int (znw c)])
theorem zLQ:zbN Tryz.prog 214 [false,true,true] zyv:=hP0 zdN zU zJH zn zTk (fun _ h=>(zxv h).1)
theorem zMO {c:Cur}(h:zbd c):zh6 c=true:=by
 refine zYE c ⟨1002,?_⟩;unfold zwX oN;conv=>zeta
 exact zVZ h (P:=fun _=>True) (m:=4) (by omega) (by omega) (fc:=fun c=>zx c 100) (fs:=fun c=>zf c 100) (fv:=fun c=>zk c 100) (R:=fun s l=>AV.agg (zbS s)::[aS .int l]) (fun h=>zby h _) (fun c=>zD c _) (fun _=>trivial) (fun s l a d e f=>⟨s,l,rfl,⟨a,d⟩,by unfold ln at e;omega⟩) ((fun i t=>((i:Int),t.1,t.2.1,t.2.2,c.b,())):Int->Int×Int×List Int->_) (fun rec t i k l=>rfl)
def z9j:zcU:=[(137,([false,true,true],zrM)),(214,([false,true,true],zyv))]++z9i
theorem zJI:zb2 z9j:=zcu zJH (by
 intro x a;simp only[qG,qO,or_false]at a;rcases a with rfl|rfl
 .exact zCr
 .exact zLQ)
def zzp (N:Nat)(c:Cur)(a0:Int):OA:=
 (iter (σ:=(Int×(Int×(Int×(Int×(lM×((List Int)×Unit))))))) N (fun f a=>let d:=(⟨a.2.2.2.2.2.1,a.2.2.1,a.2.2.2.1⟩:Cur);let e:=(ap a.2.2.2.2.1 [(znw d)]); (cond (ilt a.2.1 a.1) (oN (zh6 d) (oN (few (ln e)) (f (a.1,((zM .i64 a.2.1 1),((zeV d).i,((zeV d).h,(e,(a.2.2.2.2.2.1,()))))))))) (some [(.agg [(.s .u8 a.2.2.2.2.2.1),(.i .i64 a.2.2.1),(.i .i64 a.2.2.2.1)]),(aS (.sl .int) a.2.2.2.2.1)]))) (a0,(0,(c.i,(c.h,([],(c.b,())))))))
def zXl:FuncId->Nat->Option Tmpl:=zq [(222,0,{n:=19,tm:=[(0,.lp 0 0),(1,ti),(5,.sl 0 []),(6,ti)],lo:=[(0,[.sl 1 [],ti,ti])],ro:=[(0,(.sl .int),true),(1,.u8,false)]})]
def zq8 (c:Cur)(a0:Int)(s:Cur)(a:List (List Int)):Prop:=(∃N,zzp N c a0=some (AV.agg (zbS s)::[aS (.sl .int) a]))/\(s.b=c.b/\0<=s.i)/\((0<=a0->a0<=1000->ln a=a0/\∀r∈a,r.length=4))
def zhO (c:Cur)(a0:Int):Bool:=wC (zq8 c a0)
def zlE (c:Cur)(a0:Int):Cur:=wS (zq8 c a0)
def zuS (c:Cur)(a0:Int):List (List Int):=wV (zq8 c a0)
theorem zAG {c:Cur}{a0:Int}(h:zhO c a0=true):zq8 c a0 (zlE c a0) (zuS c a0):=wG h
theorem z1C (c:Cur)(a0:Int):0<=(zlE c a0).i:=wP fun h=>h.2.1.2
theorem z1B (c:Cur)(a0:Int)(h:∃N,Ends (wE (fun a=>aS (.sl .int) a) c.b fun a=>(0<=a0->a0<=1000->ln a=a0/\∀r∈a,r.length=4)) (zzp N c a0)):zhO c a0=true:=wI (fun _ _ h=>h) h
def zBs:zdy:=rP1 dI fun c b=>(zhO c b,zlE c b,[aS (.sl .int) (zuS c b)])
theorem zyc:zbN Tryz.prog 222 [false,true,true] zBs:=hP1 zdN zU zJI zn zXl (fun _ _ h=>(zAG h).1)
theorem zbco {c:Cur}(h:zbd c){a0:Int}(a:0<=a0)(d:a0<=1000):zhO c a0=true:=by
 refine z1B c a0 ⟨1002,?_⟩;unfold zzp oN;conv=>zeta
 exact zVZ h (P:=fun r=>r.length=4) a d (fc:=zh6) (fs:=zeV) (fv:=znw) (R:=fun s l=>AV.agg (zbS s)::[aS (.sl .int) l]) zMO zHW (fun h=>(zxv (zMO h)).2.2) (fun s l e f g j=>⟨s,l,rfl,⟨e,f⟩,fun _ _=>⟨g,j⟩⟩) ((fun i t=>(a0,(i:Int),t.1,t.2.1,t.2.2,c.b,())):Int->Int×Int×List (List Int)->_) (fun rec t i k l=>rfl)
def ztG (N:Nat)(c:Cur)  : OA :=
 let d:=(znw c);let e:=({ (zeV c) with b:=c.b}:Cur);let f:=(zf e 6);let a:=({f with b:=c.b}:Cur);let g:=({ (zf a 4) with b:=c.b}:Cur); (oN (zh6 c) (oN (zx e 6) (cond (ieq (zk e 6) 0) (oN (zx a 4) (oN (inr 0 (zk a 4) (ln d)) (some [(.agg [(.s .u8 c.b),(.i .i64 (zf a 4).i),(.i .i64 (zf a 4).h)]),(aS .int (tk d (zk a 4)))]))) (cond (ieq (zk e 6) 1) (oN (zx a 4) (oN (zbp g [(-1),99,100]) (oN (inb (zk a 4) (ln d)) (share (up d (zk a 4) (zbk g [(-1),99,100])) (fun j=>(some [(.agg [(.s .u8 c.b),(.i .i64 (zba g [(-1),99,100]).i),(.i .i64 (zba g [(-1),99,100]).h)]),(aS .int j)])))))) (cond (ieq (zk e 6) 2) (oN (few (ln (ap d [1]))) (some [(.agg [(.s .u8 c.b),(.i .i64 f.i),(.i .i64 f.h)]),(aS .int (ap d [1]))])) (some [(.agg [(.s .u8 c.b),(.i .i64 f.i),(.i .i64 f.h)]),(aS .int d)]))))))
def zmH (c:Cur)(s:Cur)(a:List Int):Prop:=(∃N,ztG N c=some (AV.agg (zbS s)::[aS .int a]))/\(s.b=c.b/\0<=s.i)/\(a.length<=5)
def zkR (c:Cur)  : Bool:=wC (zmH c)
def zkS (c:Cur)  : Cur:=wS (zmH c)
def zti (c:Cur)  : List Int:=wV (zmH c)
theorem zEP {c:Cur}(h:zkR c=true):zmH c (zkS c) (zti c):=wG h
theorem zWz (c:Cur)  : 0<=(zkS c).i:=wP fun h=>h.2.1.2
theorem zWy (c:Cur)(h:∃N,Ends (wE (fun a=>aS .int a) c.b fun a=>a.length<=5) (ztG N c)):zkR c=true:=wI (fun _ _ h=>h) h
def zvR:zdy:=rP0 fun c=>(zkR c,zkS c,[aS .int (zti c)])
theorem zJa:zbN Tryz.prog 138 [false,true,true] zvR:=hP0 zdN zU zJI zn (zq []) (fun _ h=>(zEP h).1)
theorem zZf {c:Cur}(h:zbd c):zkR c=true:=by
 refine zWy c ⟨0,?_⟩;unfold ztG oN;conv=>zeta
 have e:zbd {zeV c with b:=c.b}:=zbJ h (zHW _);have a:zbd {zf {zeV c with b:=c.b} 6 with b:=c.b}:=zbJ h (zD _ _);have f:zbd {zf {zf {zeV c with b:=c.b} 6 with b:=c.b} 4 with b:=c.b}:=zbJ h (zD _ _);have g:=(zxv (zMO h)).2.2;generalize znw c=T at g;have d:ln T=4:=(by unfold ln;omega);refine zu (zMO h) (zu (zby e 6) (zbB (fun _=>zu (zby a 4) (zu (zDc a (by omega) (by omega)) (zbH (aS .int) (zD _ _) (qU (zDV T _) (by omega))))) (fun _=>zbB (fun _=>zu (zby a 4) (zu (zeb f (by simp)) (zu (zvk a (by omega) (by omega)) (zk7 (zbH (aS .int) (zbT _ _) (by rw[zhB];omega)))))) (fun _=>zbB (fun _=>zu (zkp (by rw[zg9];omega)) (zbH (aS .int) (zD _ _) ?_)) (fun _=>zbH (aS .int) (zD _ _) (by omega))))));simp[ap];omega
def z9k:zcU:=[(222,([false,true,true],zBs)),(138,([false,true,true],zvR))]++z9j
theorem zWi:zb2 z9k:=zcu zJI (by
 intro x a;simp only[qG,qO,or_false]at a;rcases a with rfl|rfl
 .exact zyc
 .exact zJa)
def zr5 (N:Nat)(c:Cur)  : OA :=
 let d:=({ (zfN c) with b:=c.b}:Cur);let a:=({ (zf d 10) with b:=c.b}:Cur);let e:=(zba a [(-1),0,12,15,16,99,100,9223372036854775807]); (oN (zjk c) (oN (zx d 10) (cond (ieq (zk d 10) 0) (oN (zx a 11) (some [(.agg [(.s .u8 c.b),(.i .i64 (zf a 11).i),(.i .i64 (zf a 11).h)]),(.agg [(.i .i64 (wsub .i64 (zk a 11) 1)),(.i .i64 (zfA c).X)])])) (cond (ieq (zk d 10) 1) (oN (zbp a [(-1),0,12,15,16,99,100,9223372036854775807]) (some [(.agg [(.s .u8 c.b),(.i .i64 e.i),(.i .i64 e.h)]),(.agg [(.i .i64 (zfA c).Op),(.i .i64 (zbk a [(-1),0,12,15,16,99,100,9223372036854775807]))])])) (some [(.agg [(.s .u8 c.b),(.i .i64 (zf d 10).i),(.i .i64 (zf d 10).h)]),(.agg [(.i .i64 (zfA c).Op),(.i .i64 (zfA c).X)])])))))
def zlH (c:Cur)(s:Cur)(a:Ins):Prop:=(∃N,zr5 N c=some (AV.agg (zbS s)::[aT .ins a]))/\(s.b=c.b/\0<=s.i)/\(True)
def zjK (c:Cur)  : Bool:=wC (zlH c)
def zjL (c:Cur)  : Cur:=wS (zlH c)
def zxw (c:Cur)  : Ins:=wV (zlH c)
theorem zS6 {c:Cur}(h:zjK c=true):zlH c (zjL c) (zxw c):=wG h
theorem zS8 (c:Cur)  : 0<=(zjL c).i:=wP fun h=>h.2.1.2
theorem zS7 (c:Cur)(h:∃N,Ends (wE (fun a=>aT .ins a) c.b fun a=>True) (zr5 N c)):zjK c=true:=wI (fun _ _ h=>h) h
def zul:zdy:=rP0 fun c=>(zjK c,zjL c,[aT .ins (zxw c)])
theorem zGd:zbN Tryz.prog 280 [false,true,true] zul:=hP0 zdN zU zWi zn (zq []) (fun _ h=>(zS6 h).1)
theorem z5k {c:Cur}(h:zbd c):zjK c=true:=by
 refine zS7 c ⟨0,?_⟩;unfold zr5 oN;conv=>zeta
 have d:zbd {zfN c with b:=c.b}:=zbJ h (zAH _);have a:zbd {zf {zfN c with b:=c.b} 10 with b:=c.b}:=zbJ h (zD _ _);exact zu (zTw h) (zu (zby d 10) (zbB (fun _=>zu (zby a 11) (zbH (aT .ins) (v:=⟨wsub .i64 _ 1,(zfA c).X⟩) (zD _ _) trivial)) (fun _=>zbB (fun _=>zu (zeb a (by simp)) (zbH (aT .ins) (v:=⟨(zfA c).Op,zbk _ _⟩) (zbT _ _) trivial)) (fun _=>zbH (aT .ins) (v:=zfA c) (zD _ _) trivial))))
def z9l:zcU:=[(280,([false,true,true],zul))]++z9k
theorem zAt:zb2 z9l:=zcu zWi (by
 intro x a;simp only[qG,qO,or_false]at a;rcases a with rfl
 .exact zGd)
def zpt (N:Nat)(c:Cur)  : OA :=
 let e:=(zbY c);let g:=({ (zY c) with b:=c.b}:Cur);let k:=(zf g 8);let d:=({k with b:=c.b}:Cur); (oN (zgz c) (oN (zx g 8) (cond (ieq (zk g 8) 0) (oN (zjK d) (oN (inb 0 (ln e)) (share (up e 0 (zxw d)) (fun m=>(some [(.agg [(.s .u8 c.b),(.i .i64 (zjL d).i),(.i .i64 (zjL d).h)]),(aS .ins m)]))))) (cond (ieq (zk g 8) 1) (iter (σ:=(Int×(Int×(lI×((List Int)×Unit))))) N (fun l a=>let j:=(⟨a.2.2.2.1,a.1,a.2.1⟩:Cur);let f:=({ (zf j 2) with b:=a.2.2.2.1}:Cur); (oN (zx j 2) (cond (ilt (ln a.2.2.1) (zM .i64 12 (zk j 2))) (oN (zjk f) (oN (few (ln (ap a.2.2.1 [(zfA f)]))) (l ((zfN f).i,((zfN f).h,((ap a.2.2.1 [(zfA f)]),(a.2.2.2.1,()))))))) (some [(.agg [(.s .u8 a.2.2.2.1),(.i .i64 (zf j 2).i),(.i .i64 (zf j 2).h)]),(aS .ins a.2.2.1)])))) (k.i,(k.h,(e,(c.b,()))))) (cond (ieq (zk g 8) 2) (oN (zx d 2) (oN (inr 0 (zk d 2) (ln e)) (some [(.agg [(.s .u8 c.b),(.i .i64 (zf d 2).i),(.i .i64 (zf d 2).h)]),(aS .ins (tk e (zk d 2)))]))) (some [(.agg [(.s .u8 c.b),(.i .i64 k.i),(.i .i64 k.h)]),(aS .ins e)]))))))
def zJ3:FuncId->Nat->Option Tmpl:=zq [(216,1,{n:=34,tm:=[(0,.lp 0 0),(3,.sl 0 [])],lo:=[(0,[.sl 1 [],ti,ti])],ro:=[(0,.ins,true),(1,.u8,false)]})]
def zke (c:Cur)(s:Cur)(a:List Ins):Prop:=(∃N,zpt N c=some (AV.agg (zbS s)::[aS .ins a]))/\(s.b=c.b/\0<=s.i)/\(a.length<=13)
def ziF (c:Cur)  : Bool:=wC (zke c)
def ziG (c:Cur)  : Cur:=wS (zke c)
def zoZ (c:Cur)  : List Ins:=wV (zke c)
theorem zzc {c:Cur}(h:ziF c=true):zke c (ziG c) (zoZ c):=wG h
theorem zPS (c:Cur)  : 0<=(ziG c).i:=wP fun h=>h.2.1.2
theorem zPR (c:Cur)(h:∃N,Ends (wE (fun a=>aS .ins a) c.b fun a=>a.length<=13) (zpt N c)):ziF c=true:=wI (fun _ _ h=>h) h
def zsN:zdy:=rP0 fun c=>(ziF c,ziG c,[aS .ins (zoZ c)])
theorem zDF:zbN Tryz.prog 216 [false,true,true] zsN:=hP0 zdN zU zAt zn zJ3 (fun _ h=>(zzc h).1)
theorem zQK {c:Cur}(h:zbd c):ziF c=true:=by
 refine zPR c ⟨1002,?_⟩;unfold zpt oN;conv=>zeta
 have B:zbd {zY c with b:=c.b}:=zbJ h (zh8 _);have q:zbd {zf {zY c with b:=c.b} 8 with b:=c.b}:=zbJ h (zD _ _);have g:=(zrb (zD2 h)).2.2;have p:=zJM g;have j:1<=(zbY c).length:=(by unfold zc4 at g;cases d:(zbY c).all zdH with|false=>rw[d] at g;cases g|true=>rw[d,cT] at g;have:=(zfC.1 g).1;unfold ln at this;omega);generalize zbY c=T at p j;have y:1<=ln T/\ln T<=12:=(by unfold ln;omega);have e:(2:Int)<=ln T+1:=(by omega);refine zu (zD2 h) (zu (zby B 8) (zbB (fun _=>zu (z5k q) (zu (qJ (by omega)) (zk7 (zbH (aS .ins) (zS8 _) (by rw[zhB];omega))))) (fun _=>zbB (fun _=>?_) (fun _=>zbB (fun _=>zu (zby q 2) (zu (zDc q (n:=2) (by omega) e) (zbH (aS .ins) (zD _ _) (qU (zDV T _) (by omega))))) (fun _=>zbH (aS .ins) (zD _ _) (by omega))))));{refine zlV (fun n s=>s.2.2.1.length+n=13/\0<=s.1/\s.2.2.2.1=c.b) ?_ 1002 (13-T.length) _ ⟨by dsimp only;omega,zD _ _,rfl⟩ (by omega);rintro n ⟨i,k,l,b,u⟩ rec ⟨v,r,t⟩ m;dsimp only at v r t ⊢;subst t;have a:zbd ⟨c.b,i,k⟩:=zbJ h r;have A:=zfu a (n:=2) (by omega);have z:=zgR (x:=12) (by omega) (by omega) A.1 (by omega);have w:zbd {zf ⟨c.b,i,k⟩ 2 with b:=c.b}:=zbJ h (zD _ _);refine zu (zby a 2) (zbB (fun d=>?_) (fun d=>?_));{have f:ln l<zM .i64 12 (zk ⟨c.b,i,k⟩ 2):=qE d;rw[z]at f;unfold ln at f;exact zu (zTw w) (zu (zkp (by rw[zg9];unfold ln;omega)) (m (n-1) _ (by omega) ⟨by simp[ap];omega,zAH _,rfl⟩))};{exact zbH (aS .ins) (zD _ _) (by omega)}}
def zzr (N:Nat)(c:Cur)  : OA :=
 let a:=(zcw c);let e:=({ (zcd c) with b:=c.b}:Cur);let f:=(zf e 8);let d:=({f with b:=c.b}:Cur);let g:=(zba d [(-1),255,256,9223372036854775807]); (oN (zjl c) (oN (zx e 8) (cond (ieq (zk e 8) 0) (oN (zbp d [(-1),2,3,4]) (some [(.agg [(.s .u8 c.b),(.i .i64 (zba d [(-1),2,3,4]).i),(.i .i64 (zba d [(-1),2,3,4]).h)]),(.agg [(.i .i64 (zbk d [(-1),2,3,4])),(.i .i64 a.Post),(.b a.Open)])])) (cond (ieq (zk e 8) 1) (oN (zbp d [(-1),255,256,9223372036854775807]) (some [(.agg [(.s .u8 c.b),(.i .i64 g.i),(.i .i64 g.h)]),(.agg [(.i .i64 a.Traps),(.i .i64 (zbk d [(-1),255,256,9223372036854775807])),(.b a.Open)])])) (cond (ieq (zk e 8) 2) (some [(.agg [(.s .u8 c.b),(.i .i64 f.i),(.i .i64 f.h)]),(.agg [(.i .i64 a.Traps),(.i .i64 a.Post),(.b (nB a.Open))])]) (some [(.agg [(.s .u8 c.b),(.i .i64 f.i),(.i .i64 f.h)]),(.agg [(.i .i64 a.Traps),(.i .i64 a.Post),(.b a.Open)])]))))))
def zrd (c:Cur)(s:Cur)(a:Ctl):Prop:=(∃N,zzr N c=some (AV.agg (zbS s)::[.agg (znM a)]))/\(s.b=c.b/\0<=s.i)/\(True)
def zo1 (c:Cur)  : Bool:=wC (zrd c)
def zo2 (c:Cur)  : Cur:=wS (zrd c)
def zAI (c:Cur)  : Ctl:=wV (zrd c)
theorem z1E {c:Cur}(h:zo1 c=true):zrd c (zo2 c) (zAI c):=wG h
theorem z1G (c:Cur)  : 0<=(zo2 c).i:=wP fun h=>h.2.1.2
theorem z1F (c:Cur)(h:∃N,Ends (wE (fun a=>.agg (znM a)) c.b fun a=>True) (zzr N c)):zo1 c=true:=wI (fun _ _ h=>h) h
def zBu:zdy:=rP0 fun c=>(zo1 c,zo2 c,[.agg (znM (zAI c))])
theorem zOE:zbN Tryz.prog 217 [false,true,true] zBu:=hP0 zdN zU zAt zn (zq []) (fun _ h=>(z1E h).1)
theorem z5j {c:Cur}(h:zbd c):zo1 c=true:=by
 refine z1F c ⟨0,?_⟩;unfold zzr oN nB;conv=>zeta
 have d:zbd {zcd c with b:=c.b}:=zbJ h (zAJ _);have a:zbd {zf {zcd c with b:=c.b} 8 with b:=c.b}:=zbJ h (zD _ _);exact zu (z0q h) (zu (zby d 8) (zbB (fun _=>zu (zeb a (by simp)) (zbH (fun x=>AV.agg (znM x)) (v:=⟨zbk _ _,(zcw c).Post,(zcw c).Open⟩) (zbT _ _) trivial)) (fun _=>zbB (fun _=>zu (zeb a (by simp)) (zbH (fun x=>AV.agg (znM x)) (v:=⟨(zcw c).Traps,zbk _ _,(zcw c).Open⟩) (zbT _ _) trivial)) (fun _=>zbB (fun _=>zbH (fun x=>AV.agg (znM x)) (v:=⟨(zcw c).Traps,(zcw c).Post,bif (zcw c).Open then false else true⟩) (zD _ _) trivial) (fun _=>zbH (fun x=>AV.agg (znM x)) (v:=(zcw c)) (zD _ _) trivial)))))
def zwZ (N:Nat)(c:Cur)  : OA :=
 let f:=(zf c 5);let d:=({f with b:=c.b}:Cur);let j:=(zf d 100);let a:=(zk d 100);let e:=({ (zf d 4) with b:=c.b}:Cur);let g:=(zeU (zk d 4) (zc1 e 2)); (oN (zx c 5) (cond (ieq (zk c 5) 0) (oN (zx d 4) (oN (zcT e 2) (oN (zjA (zk d 4) (zc1 e 2)) (some [(.agg [(.s .u8 c.b),(.i .i64 (zO e 2).i),(.i .i64 (zO e 2).h)]),(.agg [(.i .i64 g.Kind),(.i .i64 g.Page),(.b g.Write),(.i .i64 g.N)])])))) (cond (ieq (zk c 5) 1) (oN (zx d 100) (oN (zov a) (some [(.agg [(.s .u8 c.b),(.i .i64 j.i),(.i .i64 j.h)]),(.agg [(.i .i64 (ze9 a).Kind),(.i .i64 (ze9 a).Page),(.b (ze9 a).Write),(.i .i64 (ze9 a).N)])]))) (cond (ieq (zk c 5) 2) (oN (zx d 100) (oN (zq0 a) (some [(.agg [(.s .u8 c.b),(.i .i64 j.i),(.i .i64 j.h)]),(.agg [(.i .i64 (zfX a).Kind),(.i .i64 (zfX a).Page),(.b (zfX a).Write),(.i .i64 (zfX a).N)])]))) (cond (ieq (zk c 5) 3) (some [(.agg [(.s .u8 c.b),(.i .i64 f.i),(.i .i64 f.h)]),(.agg [(.i .i64 4),(.i .i64 0),(.b false),(.i .i64 0)])]) (some [(.agg [(.s .u8 c.b),(.i .i64 f.i),(.i .i64 f.h)]),(.agg [(.i .i64 0),(.i .i64 0),(.b false),(.i .i64 0)])]))))))
def zo5 (c:Cur)(s:Cur)(a:GExit):Prop:=(∃N,zwZ N c=some (AV.agg (zbS s)::[.agg (zft a)]))/\(s.b=c.b/\0<=s.i)/\(True)
def zh9 (c:Cur)  : Bool:=wC (zo5 c)
def zeW (c:Cur)  : Cur:=wS (zo5 c)
def zb5 (c:Cur)  : GExit:=wV (zo5 c)
theorem zYG {c:Cur}(h:zh9 c=true):zo5 c (zeW c) (zb5 c):=wG h
theorem zxx (c:Cur)  : 0<=(zeW c).i:=wP fun h=>h.2.1.2
theorem zYH (c:Cur)(h:∃N,Ends (wE (fun a=>.agg (zft a)) c.b fun a=>True) (zwZ N c)):zh9 c=true:=wI (fun _ _ h=>h) h
def zyx:zdy:=rP0 fun c=>(zh9 c,zeW c,[.agg (zft (zb5 c))])
theorem zLT:zbN Tryz.prog 279 [false,true,true] zyx:=hP0 zdN zU zAt zn (zq []) (fun _ h=>(zYG h).1)
theorem zUz {c:Cur}(h:zbd c):zh9 c=true:=by
 refine zYH c ⟨0,?_⟩;unfold zwZ oN;conv=>zeta
 have a:zbd {zf c 5 with b:=c.b}:=zbJ h (zD _ _);have d:zbd {zf {zf c 5 with b:=c.b} 4 with b:=c.b}:=zbJ h (zD _ _);exact zu (zby h 5) (zbB (fun _=>zu (zby a 4) (zu (ziw d 2) (zu rfl (zbH (fun x=>AV.agg (zft x)) (v:=zeU _ _) (zcg _ _) trivial)))) (fun _=>zbB (fun _=>zu (zby a 100) (zu rfl (zbH (fun x=>AV.agg (zft x)) (v:=ze9 _) (zD _ _) trivial))) (fun _=>zbB (fun _=>zu (zby a 100) (zu rfl (zbH (fun x=>AV.agg (zft x)) (v:=zfX _) (zD _ _) trivial))) (fun _=>zbB (fun _=>zbH (fun x=>AV.agg (zft x)) (v:=⟨4,0,false,0⟩) (zD _ _) trivial) (fun _=>zbH (fun x=>AV.agg (zft x)) (v:=⟨0,0,false,0⟩) (zD _ _) trivial)))))
def z9m:zcU:=[(216,([false,true,true],zsN)),(217,([false,true,true],zBu)),(279,([false,true,true],zyx))]++z9l
theorem zmW:zb2 z9m:=zcu zAt (by
 intro x a;simp only[qG,qO,or_false]at a;rcases a with rfl|rfl|rfl
 .exact zDF
 .exact zOE
 .exact zLT)
def zzt (N:Nat)(c:Cur)  : OA :=
 let a:=(zb5 c);let e:=({ (zeW c) with b:=c.b}:Cur);let d:=({ (zf e 8) with b:=c.b}:Cur); (oN (zh9 c) (oN (zx e 8) (cond (ieq (zk e 8) 0) (oN (zx d 7) (some [(.agg [(.s .u8 c.b),(.i .i64 (zf d 7).i),(.i .i64 (zf d 7).h)]),(.agg [(.i .i64 (wsub .i64 (zk d 7) 1)),(.i .i64 a.Page),(.b a.Write),(.i .i64 a.N)])])) (cond (ieq (zk e 8) 1) (oN (zbp d [(-1),3,4]) (some [(.agg [(.s .u8 c.b),(.i .i64 (zba d [(-1),3,4]).i),(.i .i64 (zba d [(-1),3,4]).h)]),(.agg [(.i .i64 a.Kind),(.i .i64 (zbk d [(-1),3,4])),(.b a.Write),(.i .i64 a.N)])])) (cond (ieq (zk e 8) 2) (oN (zbp d [(-1),99,100]) (some [(.agg [(.s .u8 c.b),(.i .i64 (zba d [(-1),99,100]).i),(.i .i64 (zba d [(-1),99,100]).h)]),(.agg [(.i .i64 a.Kind),(.i .i64 a.Page),(.b a.Write),(.i .i64 (zbk d [(-1),99,100]))])])) (some [(.agg [(.s .u8 c.b),(.i .i64 (zf e 8).i),(.i .i64 (zf e 8).h)]),(.agg [(.i .i64 a.Kind),(.i .i64 a.Page),(.b a.Write),(.i .i64 a.N)])]))))))
def zrf (c:Cur)(s:Cur)(a:GExit):Prop:=(∃N,zzt N c=some (AV.agg (zbS s)::[.agg (zft a)]))/\(s.b=c.b/\0<=s.i)/\(True)
def zo3 (c:Cur)  : Bool:=wC (zrf c)
def zo4 (c:Cur)  : Cur:=wS (zrf c)
def zAK (c:Cur)  : GExit:=wV (zrf c)
theorem z1J {c:Cur}(h:zo3 c=true):zrf c (zo4 c) (zAK c):=wG h
theorem z1L (c:Cur)  : 0<=(zo4 c).i:=wP fun h=>h.2.1.2
theorem z1K (c:Cur)(h:∃N,Ends (wE (fun a=>.agg (zft a)) c.b fun a=>True) (zzt N c)):zo3 c=true:=wI (fun _ _ h=>h) h
def zBw:zdy:=rP0 fun c=>(zo3 c,zo4 c,[.agg (zft (zAK c))])
theorem zOG:zbN Tryz.prog 219 [false,true,true] zBw:=hP0 zdN zU zmW zn (zq []) (fun _ h=>(z1J h).1)
theorem z2q {c:Cur}(h:zbd c):zo3 c=true:=by
 refine z1K c ⟨0,?_⟩;unfold zzt oN;conv=>zeta
 have d:zbd {zeW c with b:=c.b}:=zbJ h (zxx _);have a:zbd {zf {zeW c with b:=c.b} 8 with b:=c.b}:=zbJ h (zD _ _);exact zu (zUz h) (zu (zby d 8) (zbB (fun _=>zu (zby a 7) (zbH (fun x=>AV.agg (zft x)) (v:=⟨wsub .i64 _ 1,(zb5 c).Page,(zb5 c).Write,(zb5 c).N⟩) (zD _ _) trivial)) (fun _=>zbB (fun _=>zu (zeb a (by simp)) (zbH (fun x=>AV.agg (zft x)) (v:=⟨(zb5 c).Kind,zbk _ _,(zb5 c).Write,(zb5 c).N⟩) (zbT _ _) trivial)) (fun _=>zbB (fun _=>zu (zeb a (by simp)) (zbH (fun x=>AV.agg (zft x)) (v:=⟨(zb5 c).Kind,(zb5 c).Page,(zb5 c).Write,zbk _ _⟩) (zbT _ _) trivial)) (fun _=>zbH (fun x=>AV.agg (zft x)) (v:=(zb5 c)) (zD _ _) trivial)))))
def zw0 (N:Nat)(c:Cur)  : OA :=
 let a:=({ (zf c 256) with b:=c.b}:Cur);let d:=({ (zf a 256) with b:=c.b}:Cur);let e:=(zba d [0,1,128,255,(zk c 256),(zk a 256),(-1),256,9223372036854775807]); (oN (zx c 256) (oN (zx a 256) (oN (zbp d [0,1,128,255,(zk c 256),(zk a 256),(-1),256,9223372036854775807]) (some [(.agg [(.s .u8 c.b),(.i .i64 e.i),(.i .i64 e.h)]),(aI (zbk d [0,1,128,255,(zk c 256),(zk a 256),(-1),256,9223372036854775807]))]))))
def zo6 (c:Cur)(s:Cur)(a:Int):Prop:=(∃N,zw0 N c=some (AV.agg (zbS s)::[aI a]))/\(s.b=c.b/\0<=s.i)/\(True)
def zmn (c:Cur)  : Bool:=wC (zo6 c)
def zmo (c:Cur)  : Cur:=wS (zo6 c)
def zwL (c:Cur)  : Int:=wV (zo6 c)
theorem zYI {c:Cur}(h:zmn c=true):zo6 c (zmo c) (zwL c):=wG h
theorem zYK (c:Cur)  : 0<=(zmo c).i:=wP fun h=>h.2.1.2
theorem zYJ (c:Cur)(h:∃N,Ends (wE (fun a=>aI a) c.b fun a=>True) (zw0 N c)):zmn c=true:=wI (fun _ _ h=>h) h
def zyy:zdy:=rP0 fun c=>(zmn c,zmo c,[aI (zwL c)])
theorem zLU:zbN Tryz.prog 218 [false,true,true] zyy:=hP0 zdN zU zmW zn (zq []) (fun _ h=>(zYI h).1)
theorem zbbU {c:Cur}(h:zbd c):zmn c=true:=by
 refine zYJ c ⟨0,?_⟩;unfold zw0 oN;conv=>zeta
 have a:zbd {zf c 256 with b:=c.b}:=zbJ h (zD _ _);have d:zbd {zf {zf c 256 with b:=c.b} 256 with b:=c.b}:=zbJ h (zD _ _);exact zu (zby h 256) (zu (zby a 256) (zu (zeb d (by simp)) (zbH aI (zbT _ _) trivial)))
def ztI (N:Nat)(c:Cur)  : OA :=
 let a:=(zba c [0,1,2,3,0,1,(-1),4,9223372036854775807]); (oN (zbp c [0,1,2,3,0,1,(-1),4,9223372036854775807]) (some [(.agg [(.s .u8 c.b),(.i .i64 a.i),(.i .i64 a.h)]),(aI (zbk c [0,1,2,3,0,1,(-1),4,9223372036854775807]))]))
def zmJ (c:Cur)(s:Cur)(a:Int):Prop:=(∃N,ztI N c=some (AV.agg (zbS s)::[aI a]))/\(s.b=c.b/\0<=s.i)/\(True)
def zkT (c:Cur)  : Bool:=wC (zmJ c)
def zkU (c:Cur)  : Cur:=wS (zmJ c)
def ztk (c:Cur)  : Int:=wV (zmJ c)
theorem zWC {c:Cur}(h:zkT c=true):zmJ c (zkU c) (ztk c):=wG h
theorem zWE (c:Cur)  : 0<=(zkU c).i:=wP fun h=>h.2.1.2
theorem zWD (c:Cur)(h:∃N,Ends (wE (fun a=>aI a) c.b fun a=>True) (ztI N c)):zkT c=true:=wI (fun _ _ h=>h) h
def zvT:zdy:=rP0 fun c=>(zkT c,zkU c,[aI (ztk c)])
theorem zJc:zbN Tryz.prog 141 [false,true,true] zvT:=hP0 zdN zU zmW zn (zq []) (fun _ h=>(zWC h).1)
theorem zba9 {c:Cur}(h:zbd c):zkT c=true:=by
 refine zWD c ⟨0,?_⟩;unfold ztI oN;conv=>zeta
 exact zu (zeb h (by simp)) (zbH aI (zbT _ _) trivial)
def z2m (N:Nat)(c:Cur)  : OA :=
 let a:=(zba c [0,0,1,1,2,(-1),9223372036854775807]); (oN (zbp c [0,0,1,1,2,(-1),9223372036854775807]) (some [(.agg [(.s .u8 c.b),(.i .i64 a.i),(.i .i64 a.h)]),(aI (zbk c [0,0,1,1,2,(-1),9223372036854775807]))]))
def ztl (c:Cur)(s:Cur)(a:Int):Prop:=(∃N,z2m N c=some (AV.agg (zbS s)::[aI a]))/\(s.b=c.b/\0<=s.i)/\(True)
def zRE (c:Cur)  : Bool:=wC (ztl c)
def zRF (c:Cur)  : Cur:=wS (ztl c)
def zZO (c:Cur)  : Int:=wV (ztl c)
theorem z4z {c:Cur}(h:zRE c=true):ztl c (zRF c) (zZO c):=wG h
def zD3:zdy:=rP0 fun c=>(zRE c,zRF c,[aI (zZO c)])
theorem zSa:zbN Tryz.prog 96 [false,true,true] zD3:=hP0 zdN zU zmW zn (zq []) (fun _ h=>(z4z h).1)
def zwV (N:Nat)(c:Cur)  : OA :=
 let a:=(zba c [0,1,2,3,3,4,7,8,(-1),9223372036854775807,(-9223372036854775808)]); (oN (zbp c [0,1,2,3,3,4,7,8,(-1),9223372036854775807,(-9223372036854775808)]) (some [(.agg [(.s .u8 c.b),(.i .i64 a.i),(.i .i64 a.h)]),(aI (zbk c [0,1,2,3,3,4,7,8,(-1),9223372036854775807,(-9223372036854775808)]))]))
def zoU (c:Cur)(s:Cur)(a:Int):Prop:=(∃N,zwV N c=some (AV.agg (zbS s)::[aI a]))/\(s.b=c.b/\0<=s.i)/\(True)
def zj4 (c:Cur)  : Bool:=wC (zoU c)
def zHU (c:Cur)  : Cur:=wS (zoU c)
def zwK (c:Cur)  : Int:=wV (zoU c)
theorem zYB {c:Cur}(h:zj4 c=true):zoU c (zHU c) (zwK c):=wG h
theorem zYC (c:Cur)(h:∃N,Ends (wE (fun a=>aI a) c.b fun a=>True) (zwV N c)):zj4 c=true:=wI (fun _ _ h=>h) h
def zyt:zdy:=rP0 fun c=>(zj4 c,zHU c,[aI (zwK c)])
theorem zLN:zbN Tryz.prog 122 [false,true,true] zyt:=hP0 zdN zU zmW zn (zq []) (fun _ h=>(zYB h).1)
theorem zbaN {c:Cur}(h:zbd c):zj4 c=true:=by
 refine zYC c ⟨0,?_⟩;unfold zwV oN;conv=>zeta
 exact zu (zeb h (by simp)) (zbH aI (zbT _ _) trivial)
def ztH (N:Nat)(c:Cur)  : OA :=
 let e:=({ (zf c 3) with b:=c.b}:Cur);let d:=({ (zf e 4) with b:=c.b}:Cur);let a:=({ (zf d 6) with b:=c.b}:Cur); (oN (zx c 3) (oN (zx e 4) (oN (zx d 6) (oN (zx a 3) (some [(.agg [(.s .u8 c.b),(.i .i64 (zf a 3).i),(.i .i64 (zf a 3).h)]),(.agg [(.i .i64 (zM .i64 1 (zk c 3))),(.i .i64 (zk e 4)),(.i .i64 (zk d 6)),(.i .i64 (zM .i64 1 (zk a 3)))])])))))
def zmI (c:Cur)(s:Cur)(a:Entry):Prop:=(∃N,ztH N c=some (AV.agg (zbS s)::[aT .entry a]))/\(s.b=c.b/\0<=s.i)/\(True)
def zg4 (c:Cur)  : Bool:=wC (zmI c)
def zfZ (c:Cur)  : Cur:=wS (zmI c)
def zlG (c:Cur)  : Entry:=wV (zmI c)
theorem zWA {c:Cur}(h:zg4 c=true):zmI c (zfZ c) (zlG c):=wG h
theorem zuT (c:Cur)  : 0<=(zfZ c).i:=wP fun h=>h.2.1.2
theorem zWB (c:Cur)(h:∃N,Ends (wE (fun a=>aT .entry a) c.b fun a=>True) (ztH N c)):zg4 c=true:=wI (fun _ _ h=>h) h
def zvS:zdy:=rP0 fun c=>(zg4 c,zfZ c,[aT .entry (zlG c)])
theorem zJb:zbN Tryz.prog 221 [false,true,true] zvS:=hP0 zdN zU zmW zn (zq []) (fun _ h=>(zWA h).1)
theorem zNX {c:Cur}(h:zbd c):zg4 c=true:=by
 refine zWB c ⟨0,?_⟩;unfold ztH oN;conv=>zeta
 have a:zbd {zf c 3 with b:=c.b}:=zbJ h (zD _ _);have d:zbd {zf {zf c 3 with b:=c.b} 4 with b:=c.b}:=zbJ h (zD _ _);have e:zbd {zf {zf {zf c 3 with b:=c.b} 4 with b:=c.b} 6 with b:=c.b}:=zbJ h (zD _ _);exact zu (zby h 3) (zu (zby a 4) (zu (zby d 6) (zu (zby e 3) (zbH (aT .entry) (v:=⟨_,_,_,_⟩) (zD _ _) trivial))))
def z9n:zcU:=[(219,([false,true,true],zBw)),(218,([false,true,true],zyy)),(141,([false,true,true],zvT)),(96,([false,true,true],zD3)),(122,([false,true,true],zyt)),(221,([false,true,true],zvS))]++z9m
theorem z6K:zb2 z9n:=zcu zmW (by
 intro x a;simp only[qG,qO,or_false]at a;rcases a with rfl|rfl|rfl|rfl|rfl|rfl
 .exact zOG
 .exact zLU
 .exact zJc
 .exact zSa
 .exact zLN
 .exact zJb)
section
open Go Go.RowKit
structure Cw (w0:World) (blk:Nat) (u:Value) (c:Cur) (w:World):Prop where
 os:w.os=w0.os
 tape:w.tape=w0.tape
 output:w.output=w0.output
 size:w0.heap.size<=w.heap.size
 keep:∀b,b<w0.heap.size->b≠blk->w.heap[b]?=w0.heap[b]?
 cur:∃e,w.heap[blk]?=some (.cells #[u,.int .i64 c.i,.int .i64 c.h] e (0,0))
theorem Cw.trans {w0 w1 f:World}{blk:Nat}{u:Value}{g c2:Cur}(a:Cw w0 blk u g w1)(c:Cw w1 blk u c2 f):Cw w0 blk u c2 f :=
 ⟨c.os.trans a.os,c.tape.trans a.tape,c.output.trans a.output,qU a.size c.size,fun b d e=>(c.keep b (jK d a.size) e).trans (a.keep b d e),c.cur⟩
theorem Cw.drew {w0 w:World}{blk:Nat}{u:Value}{c:Cur}(h:Cw w0 blk u c w):Cw w0 blk u c w.drew:=⟨h.os,h.tape,h.output,h.size,h.keep,h.cur⟩
theorem Cw.at (w:World)(blk:Nat)(u:Value)(c:Cur)(h:∃e,w.heap[blk]?=some (.cells #[u,.int .i64 c.i,.int .i64 c.h] e (0,0))):Cw w blk u c w:=⟨rfl,rfl,rfl,qZ _,fun _ _ _=>rfl,h⟩
theorem Cw.alloc {w0 w:World}{blk:Nat}{u:Value}{c:Cur}(h:Cw w0 blk u c w)(a:blk<w.heap.size)(o:Obj):Cw w0 blk u c (w.alloc o):=
 ⟨h.os,h.tape,h.output,qU h.size (by simp),fun b a f=>(heap_alloc_old w o (jK a h.size)).trans (h.keep b a f),by obtain⟨e,d⟩:=h.cur;exact⟨e,(heap_alloc_old w o a).trans d⟩⟩
theorem Cw.lt {w0 w:World}{blk:Nat}{u:Value}{c:Cur}(h:Cw w0 blk u c w):blk<w.heap.size:=by obtain⟨e,a⟩:=h.cur;exact(qQ.1 a).1
theorem zIw {P:Program}{f:FuncId}{y:List CV->List AV->Option (Bool×List CV×List AV)}(T:zbN P f [false,true,true] y){w:World}{blk:Nat}{u:Value}{c c2:Cur}{K0:zX}(q:∃e,w.heap[blk]?=some (.cells #[u,.int .i64 c.i,.int .i64 c.h] e (0,0)))(hu:Rep false w u (.s .u8 c.b) K0)(U:∀x,K0 x->x<w.heap.size/\x≠blk){avs rs:List AV}{xs:List Value}{Ka:zX}(l:zdf false w (zA avs) xs (fun _=>Ka))(p:∀x,Ka x->x<w.heap.size/\x≠blk)(Y:y (zbS c) avs=some (true,zbS c2,rs)) :
 Calls P f (#[.pointer (some ⟨blk,0,none⟩)]++(zbQ avs xs).toArray) w fun e w'=>∃A z,e = .returned (zjb (zbQ rs A))/\Cw w blk u c2 w'/\ztp (zob f) w' (zA rs) A z/\(∀i x,i<(zA rs).length->z i x->w.heap.size<=x/\x<w'.heap.size):=by
 obtain⟨e,W⟩:=q;refine(T.2 w blk _ e (zbS c) (fun j x=>j=0/\K0 x) avs xs Ka (zbS c2) rs W rfl rfl ?_ ?_ ?_ l ?_ Y).mono ?_
 .intro j cv v m k
  match j,m,k with
  | 0,m,k=>cases m;cases k;exact hu.weak (fun x l=>⟨rfl,l⟩)
  | 1,m,k=>cases m;cases k;exact .i _ _ _
  | 2,m,k=>cases m;cases k;exact .i _ _ _
  |j+3,m,k=>simp[zbS]at m
 .intro j x _ l;exact U x l.2
 .intro i j x r t n hne l hx2;have:i=0:=l.1;subst this;simp[zbb]at n
 .intro x l;refine⟨(p x l).1,(p x l).2,fun j t n d=>?_⟩;have:j=0:=d.1;subst this;simp[zbb]at n
 .intro C w' hp;cases C with
  |panicked _=>exact hp.elim
  |outgrown=>exact hp.elim
  |returned v=>
   obtain⟨N,O,Q,R,S,a,E,K',A,z,G,J,g3,D,K,L,g7,M,g9,H,I⟩:=hp;have g:∀i x,i<(zbS c).length->zbb [false,true,true] i->¬ ((fun (j:Nat) x=>j=0/\K0 x) i x):=by intro i x r n d;have:i=0:=d.1;subst this;simp[zbb]at n
   have k:a = #[u,.int .i64 c2.i,.int .i64 c2.h]:=by
    have Z:a.size=3:=J;have B:=(D 0 _ (a[0]'(by omega)) rfl (jH _)).2 (by simp[zbb]);have F:=D 1 _ (a[1]'(by omega)) rfl (jH _);have C:=D 2 _ (a[2]'(by omega)) rfl (jH _);have B:u=a[0]'(by omega):=(by simpa using B);apply Array.ext;{exact Z}
    .intro i r hi2
     match i,r with
     | 0,_=>exact B.symm
     | 1,_=>exact F
     | 2,_=>exact C
     |i+3,h=>omega
   subst k;refine⟨A,z,by rw[L],⟨N,O,Q,R,fun b V X=>S b V X (fun j t n d=>g j b t n d),E,G⟩,K,fun i x r d=>?_⟩;obtain⟨k1,k2,k3⟩:=M i x r d;rcases k3 with⟨j,t,n,d⟩|d;{exact absurd d (g j x t n)};{exact⟨d,k1⟩}
def zed (c:Cur):List (List Int):=zuS c 3
def zAi (c:Cur):Cur:={zlE c 3 with b:=c.b}
def z08 (c:Cur):Int:=zk (zAi c) 8
def zg8 (c:Cur):Cur:={zf (zAi c) 8 with b:=c.b}
def z07 (c:Cur):Int:=zk (zg8 c) 3
def zsZ (c:Cur):Cur:={zf (zg8 c) 3 with b:=c.b}
def l04n (c:Cur):Int:=zk (zsZ c) 4
def z05 (c:Cur):Cur:={zf (zsZ c) 4 with b:=c.b}
def zue (c:Cur):Int:=zbk (zg8 c) [-1,100]
def z06 (c:Cur):Cur:={zba (zg8 c) [-1,100] with b:=c.b}
def znF (_:Nat)(c:Cur):OA:=
 bif zhO c 3 then (bif zx (zAi c) 8 then (bif ieq (z08 c) 0 then (cond (zx (zg8 c) 3) (cond (zx (zsZ c) 4) (some (AV.agg (zbS (z05 c))::[aS (.sl .int) (up (zed c) (z07 c) (tk (ix (zed c) 0 []) (l04n c)))])) none) none)
  else (bif ieq (z08 c) 1 then (cond (zbp (zg8 c) [-1,100]) (some (AV.agg (zbS (z06 c))::[aS (.sl .int) (up (zed c) 1 (up (ix (zed c) 1 []) 2 (zue c)))])) none)
  else (cond (ieq (z08 c) 2) (cond (zx (zg8 c) 3) (some (AV.agg (zbS (zsZ c))::[aS (.sl .int) (tk (zed c) (z07 c))])) none) (some (AV.agg (zbS (zg8 c))::[aS (.sl .int) (zed c)]))))) else none) else none
def zq7 (c:Cur)(s:Cur)(a:List (List Int)):Prop:=(∃N,znF N c=some (AV.agg (zbS s)::[aS (.sl .int) a]))/\(s.b=c.b/\0<=s.i)/\(a.length<=3/\∀r∈a,r.length<=4)
def zoW (c:Cur)  : Bool:=wC (zq7 c)
def zhM (c:Cur)  : Cur:=wS (zq7 c)
def zqa (c:Cur)  : List (List Int):=wV (zq7 c)
theorem zM4 {c:Cur}(h:zoW c=true):zq7 c (zhM c) (zqa c):=wG h
theorem z1A (c:Cur)  : 0<=(zhM c).i:=wP fun h=>h.2.1.2
theorem z1z (c:Cur)(h:∃N,Ends (wE (fun a=>aS (.sl .int) a) c.b fun a=>a.length<=3/\∀r∈a,r.length<=4) (znF N c)):zoW c=true:=wI (fun _ _ h=>h) h
def zsg:zdy:=rP0 fun c=>(zoW c,zhM c,[aS (.sl .int) (zqa c)])
theorem z6B {w:World}{blk:Nat}{u:Value}{c:Cur}{K0:zX}{n:Int}(g:∃e,w.heap[blk]?=some (.cells #[u,.int .i64 c.i,.int .i64 c.h] e (0,0)))(q:Rep false w u (.s .u8 c.b) K0)(m:∀x,K0 x->x<w.heap.size/\x≠blk)(p:zhO c n=true) :
 Calls Tryz.prog 222 #[.pointer (some ⟨blk,0,none⟩),.int .i64 n] w fun e w'=>∃v j,e = .returned v/\Cw w blk u {zlE c n with b:=c.b} w'/\Rep true w' v (.s (.sl .int) (zuS c n)) j/\(∀x,j x->w.heap.size<=x/\x<w'.heap.size):=by
 have:=zIw (c:=c) (c2:=zlE c n) zyc g q m (avs:=[.one (.i .i64 n)]) (rs:=[aS (.sl .int) (zuS c n)]) (xs:=[.int .i64 n]) (Ka:=fun _=>False) ⟨rfl,fun i t x a d=>by
  match i,a,d with
  | 0,a,d=>cases a;cases d;exact .i _ _ _
  |i+1,a,d=>simp at d⟩ (fun x d=>d.elim) (by show some (zhO ⟨c.b,c.i,c.h⟩ n,_,_)=_;rw[show (⟨c.b,c.i,c.h⟩:Cur)=c from rfl,p])
 refine Calls.mono this ?_
 rintro e w' ⟨r,j,rfl,f,k,l⟩
 match r,k.1 with
 |[y],_=>exact⟨y,j 0,rfl,⟨f.os,f.tape,f.output,f.size,f.keep,f.cur⟩,k.2 0 _ y rfl rfl,fun x d=>l 0 x (by simp[zA,AV.cvs]) d⟩
theorem zsU {w:World}{blk:Nat}{u:Value}{c:Cur}{K0:zX}{n:Int}(g:∃e,w.heap[blk]?=some (.cells #[u,.int .i64 c.i,.int .i64 c.h] e (0,0)))(p:Rep false w u (.s .u8 c.b) K0)(l:∀x,K0 x->x<w.heap.size/\x≠blk)(m:zx c n=true) :
 Calls Tryz.prog 54 #[.pointer (some ⟨blk,0,none⟩),.int .i64 n] w fun e w'=>e = .returned (.int .i64 (zk c n))/\Cw w blk u {zf c n with b:=c.b} w':=by
 have:=zIw (c:=c) (c2:=zf c n) zt4 g p l (avs:=[.one (.i .i64 n)]) (rs:=[aI (zk c n)]) (xs:=[.int .i64 n]) (Ka:=fun _=>False) ⟨rfl,fun i t x a d=>by
  match i,a,d with
  | 0,a,d=>cases a;cases d;exact .i _ _ _
  |i+1,a,d=>simp at d⟩ (fun x d=>d.elim) (by show some (zx ⟨c.b,c.i,c.h⟩ n,_,_)=_;rw[show (⟨c.b,c.i,c.h⟩:Cur)=c from rfl,m])
 refine Calls.mono this ?_
 rintro e w' ⟨q,r,rfl,f,j,v⟩
 match q,j.1,j.2 with
 |[y],_,k=>have:=(k 0 _ y rfl rfl).int_inv;subst this;exact⟨rfl,f.os,f.tape,f.output,f.size,f.keep,f.cur⟩
theorem z4n {w:World}{blk:Nat}{u:Value}{c:Cur}{K0:zX}{l:List Int}{v:Value}{Ka:zX}(f:∃e,w.heap[blk]?=some (.cells #[u,.int .i64 c.i,.int .i64 c.h] e (0,0)))(q:Rep false w u (.s .u8 c.b) K0)(n:∀x,K0 x->x<w.heap.size/\x≠blk)(p:zbp c l=true)(r:Rep false w v (.s .int l) Ka)(j:∀x,Ka x->x<w.heap.size/\x≠blk) :
 Calls Tryz.prog 83 #[.pointer (some ⟨blk,0,none⟩),v] w fun e w'=>e = .returned (.int .i64 (zbk c l))/\Cw w blk u {zba c l with b:=c.b} w':=by
 have:=zIw (c:=c) (c2:=zba c l) zrF f q n (avs:=[.one (.s .int l)]) (rs:=[aI (zbk c l)]) (xs:=[v]) (Ka:=Ka) ⟨rfl,fun i A x a g=>by
  match i,a,g with
  | 0,a,g=>cases a;cases g;exact r
  |i+1,a,g=>simp at g⟩ j (by show some (zbp ⟨c.b,c.i,c.h⟩ l,_,_)=_;rw[show (⟨c.b,c.i,c.h⟩:Cur)=c from rfl,p])
 refine Calls.mono this ?_
 rintro e w' ⟨t,z,rfl,d,k,B⟩
 match t,k.1,k.2 with
 |[y],_,m=>have:=(m 0 _ y rfl rfl).int_inv;subst this;exact⟨rfl,d.os,d.tape,d.output,d.size,d.keep,d.cur⟩
theorem z4u {w:World}{v:Value}{l:List (List Int)}{K:zX}(h:Rep true w v (.s (.sl .int) l) K)(n:l.length=3):∃(b off cap:Nat) (arr:Array Value) (e:TypeId) (V:Nat->Value) (c:Nat->zX),v = .slice (some ⟨b,off,none⟩) 3 cap/\w.heap[b]?=some (.cells arr e (0,0))/\3<=cap/\off+cap<=arr.size/\K b/\
 (∀i x,i<3->c i x->K x/\x≠b)/\(∀i g x,i<3->g<3->c i x->c g x->i=g)/\(∀i,i<3->arr[off+i]?=some (V i))/\∀i x,l[i]?=some x->Rep true w (V i) (.s .int x) (c i):=by
 cases h with
 |nil=>simp at n
 |void _ _ _ B=>cases B
 |sl _ _ b off cap arr e E V c _ y k r p f u a d C z=>have:=k rfl;subst this;have t:Ty.width (.sl .int)=1:=rfl;rw[t,uZ]at f;refine⟨b,off,cap,arr,e,fun i=>V i 0,fun i=>c i 0,by rw[n],y,by omega,f,u,fun i x q j=>⟨(a i 0 x (by omega) (by decide) j).1,(a i 0 x (by omega) (by decide) j).2 rfl⟩,fun i g x q A j m=>(d rfl i 0 g 0 x (by omega) (by decide) (by omega) (by decide) j m).1,fun i q=>?_,fun i x D=>z i x D 0 _ rfl⟩;have:=C i 0 (by omega) (by decide);rwa [t,uZ,jY] at this
theorem zWt {w:World}{v:Value}{l:List Int}{K:zX}(h:Rep true w v (.s .int l) K)(d:l.length=4):∃(b off cap:Nat) (arr:Array Value) (e:TypeId),v = .slice (some ⟨b,off,none⟩) 4 cap/\w.heap[b]?=some (.cells arr e (0,0))/\4<=cap/\off+cap<=arr.size/\K b/\
 ∀i x,l[i]?=some x->arr[off+i]?=some (.int .i64 x):=by
 cases h with
 |nil=>simp at d
 |void _ _ _ u=>cases u
 |sl _ _ b off cap arr e A V z _ q c j f a p k g y r=>have:=c rfl;subst this;have m:Ty.width .int=1:=rfl;rw[m,uZ]at a;refine⟨b,off,cap,arr,e,by rw[d],q,by omega,a,p,fun i x n=>?_⟩;have t:i<l.length:=(qA.1 n).1;have:=y i 0 t (by decide);rw[m,uZ,jY] at this;rw[this,(r i x n 0 (.i .i64 x) rfl).int_inv]
theorem zJN {o:Bool}{w:World}{b off cap:Nat}{arr:Array Value}{e:TypeId}(g:w.heap[b]?=some (.cells arr e (0,0))){l:List Int}(r:l.length<=1000)(c:l.length<=cap)(m:off+cap<=arr.size)(n:∀i x,l[i]?=some x->arr[off+i]?=some (.int .i64 x)):Rep o w (.slice (some ⟨b,off,none⟩) l.length cap) (.s .int l) (fun x=>x=b):=by
 refine .sl .int l b off cap arr e (0,0) (fun i j=>.int .i64 (l.getD i 0)) (fun _ _ _=>False) _ g (fun _=>rfl) (by rw[zpw];omega) c (by show off+cap*1<=arr.size;omega) rfl (fun i j x _ _ h=>h.elim) (fun _ i j t u x _ _ _ _ h=>h.elim) (fun i j f k=>?_) (fun i x p j q a=>?_);{have d:j=0:=(by have:j<1:=k;omega);subst d;have:=n i _ (qB f);show arr[off+i*1+0]?=_;rw[uZ,jY,this];simp[List.getD,qB f]}
 .match j,a with
  | 0,a=>cases a;have:l.getD i 0=x:=(by simp[List.getD,p]);show Rep o w (.int .i64 (l.getD i 0)) _ _;rw[this];exact .i _ _ _
  |j+1,a=>simp[Ty.cells]at a
theorem zJO {w:World}{b off cap:Nat}{arr:Array Value}{e:TypeId}(n:w.heap[b]?=some (.cells arr e (0,0))){l:List (List Int)}(A:l.length<=1000)(c:l.length<=cap)(t:off+cap<=arr.size)(V:Nat->Value){K:zX}(f:K b)(u:∀i,i<l.length->arr[off+i]?=some (V i))(r:∀i x,l[i]?=some x->∃d,Rep false w (V i) (.s .int x) d/\∀y,d y->K y):Rep false w (.slice (some ⟨b,off,none⟩) l.length cap) (.s (.sl .int) l) K:=by
 refine .sl (.sl .int) l b off cap arr e (0,0) (fun i _=>V i) (fun _ _=>K) _ n (fun _=>rfl) (by rw[zpw];omega) c (by show off+cap*1<=arr.size;omega) f (fun i j x _ _ h=>⟨h,fun h=>by cases h⟩) (fun h=>by cases h) (fun i j p q=>?_) (fun i x v j z a=>?_);{have g:j=0:=(by have:j<1:=q;omega);subst g;show arr[off+i*1+0]?=_;rw[uZ,jY];exact u i p}
 .match j,a with
  | 0,a=>cases a;obtain⟨d,k,m⟩:=r i x v;exact k.weak m
  |j+1,a=>simp[Ty.cells]at a
theorem zvu {w:World}{b o:Nat}{arr:Array Value}{e:TypeId}(a:w.heap[b]?=some (.cells arr e (0,0))):w.frozen? ⟨b,o,none⟩=false:=by simp[World.frozen?,a]
set_option maxHeartbeats 3000000 in
theorem zXX {w:World}{blk:Nat}{u:Value}{c:Cur}{K0:zX}{r:Ans}(N:Nat)(b4:∃e,w.heap[blk]?=some (.cells #[u,.int .i64 c.i,.int .i64 c.h] e (0,0)))(hu:Rep false w u (.s .u8 c.b) K0)(hK:∀x,K0 x->x<w.heap.size/\x≠blk)(hE:znF N c=some r) :
 Calls Tryz.prog 142 #[.pointer (some ⟨blk,0,none⟩)] w fun e w'=>∃c2 l v Kr,r=AV.agg (zbS c2)::[aS (.sl .int) l]/\e = .returned v/\Cw w blk u c2 w'/\Rep false w' v (.s (.sl .int) l) Kr/\(∀x,Kr x->w.heap.size<=x/\x<w'.heap.size):=by
 unfold znF at hE;cases hm:zhO c 3 with
 |false=>rw[hm]at hE;cases hE
 |true=>
 cases J:zx (zAi c) 8 with
 |false=>rw[hm,J]at hE;cases hE
 |true=>
 rw[hm,J,cT,cT]at hE;have a6:∀{w':World} {M:Cur},Cw w blk u M w'->M.b=c.b->Rep false w' u (.s .u8 M.b) K0/\∀x,K0 x->x<w'.heap.size/\x≠blk:=by intro w' M h e;rw[e];exact⟨hu.frame (fun x d=>h.keep x (hK x d).1 (hK x d).2),fun x d=>⟨jK (hK x d).1 h.size,(hK x d).2⟩⟩
 have hM:=(zAG hm).2.2 (by omega) (by omega)
 have a7:(zed c).length=3:=by have:=hM.1;unfold ln at this;unfold zed;omega
 have h3:=(zg1 J).2.2 (by omega)
 obtain⟨k,hk⟩:∃k,zk (zAi c) 8=k:=⟨_,rfl⟩;have f0:z08 c=k:=hk;rw[f0]at hE
 go_enter Tryz.func142,Tryz.ntmps142
 go_wp2_with fail
 refine(z6B b4 hu hK hm).mono ?_
 rintro e K ⟨v,K1,rfl,E,b2,m⟩
 have b2:Rep true K v (.s (.sl .int) (zed c)) K1:=b2;have E:Cw w blk u (zAi c) K:=E;obtain⟨D,p,a2,d1,e0,V,Kc,rfl,c1,g8,d0,Y,F,e8,hV,c0⟩:=z4u b2 a7;have g9:blk<w.heap.size:=by obtain⟨e,he⟩:=b4;exact(qQ.1 he).1
 have e4:D≠blk:=by have:=(m D Y).1;omega
 have cellAt:∀{w':World} {M:Cur},Cw K blk u M w'->w'.heap[D]?=some (.cells d1 e0 (0,0)):=fun h=>(h.keep D (m D Y).2 e4).trans c1
 go_wp2_with fail
 obtain⟨g0,f1⟩:=a6 E rfl;refine(zsU E.cur g0 f1 J).mono ?_;rw[hk]
 rintro e W ⟨rfl,A⟩
 have A:Cw K blk u (zg8 c) W:=A;obtain⟨g1,f2⟩:=a6 (E.trans A) rfl;have f9:=A.size;have g7:w.heap.size<=D/\D<K.heap.size:=m D Y
 have a9:∀{w':World} (i:Nat) (x:List Int),(∀b,Kc i b->b<K.heap.size->b≠blk->b≠D->w'.heap[b]?=K.heap[b]?)->i<3->(zed c)[i]?=some x->Rep false w' (V i) (.s .int x) (Kc i)/\∀y,Kc i y->w.heap.size<=y/\y<K.heap.size:=by intro w' i x hf O d;refine⟨((c0 i x d).frame (fun y R=>?_)).ro,fun y R=>m y (F i y O R).1⟩;have:=m y (F i y O R).1;exact hf y R this.2 (by omega) (F i y O R).2
 go_wp2_with fail
 .have h0:ieq k 0=true:=by assumption
  rw[h0,cT]at hE;cases I:zx (zg8 c) 3 with
  |false=>rw[I]at hE;cases hE
  |true=>
  cases b3:zx (zsZ c) 4 with
  |false=>rw[I,b3]at hE;cases hE
  |true=>
   rw[I,b3,cT,cT]at hE;have hj:=(zg1 I).2.2 (by omega);obtain⟨j,Z⟩:=uU hj.1;have c7:z07 c=(j:Int):=Z;have hn:=(zg1 b3).2.2 (by omega);obtain⟨n,c8⟩:=uU hn.1;have f7:l04n c=(n:Int):=c8;rw[c7,f7]at hE;rw[Z]at hj;rw[c8]at hn;have e5:j<3:=(by omega);have h5:n<4:=(by omega);obtain⟨R0,b9⟩:∃R0,(zed c)[0]?=some R0:=⟨_,qB (by omega)⟩;have d9:R0.length=4:=hM.2 R0 (qI b9);obtain⟨f,a,g,S,e1,e9,c3,c5,a8,C,U⟩:=zWt (c0 0 R0 b9) d9;have P:∀{w':World} {M:Cur},Cw K blk u M w'->w'.cell? ⟨D,p,none⟩=some (.slice (some ⟨f,a,none⟩) 4 g):=fun h=>(by have:=hV 0 (by omega);rw[jY,e9] at this;rw[cell_of_block (cellAt h)];exact this);have b6:∀{w':World} {M:Cur},Cw K blk u M w'->w'.cell? ⟨D,p+j,none⟩=some (V j)/\w'.frozen? ⟨D,p+j,none⟩=false:=fun h=>by rw[cell_of_block (cellAt h)];exact⟨hV j e5,zvu (cellAt h)⟩
   have d7:∀{H:World},Cw K blk u (z05 c) H->∃c2 l v Kr,r=AV.agg (zbS c2)::[aS (.sl .int) l]/\Ending.returned (.slice (some ⟨D,p,none⟩) 3 a2) = .returned v/\Cw w blk u c2 (H.setCell ⟨D,p+j,none⟩ (.slice (some ⟨f,a,none⟩) n g))/\Rep false (H.setCell ⟨D,p+j,none⟩ (.slice (some ⟨f,a,none⟩) n g)) v (.s (.sl .int) l) Kr/\
    (∀x,Kr x->w.heap.size<=x/\x<(H.setCell ⟨D,p+j,none⟩ (.slice (some ⟨f,a,none⟩) n g)).heap.size):=by
    intro H h4;have hz:=h4.size;have a5:=m f (F 0 f (by omega) C).1
    have T:f≠blk:=by omega
    have a4:f≠D:=(F 0 f (by omega) C).2
    have ho:∀b,b≠D->(H.setCell ⟨D,p+j,none⟩ (.slice (some ⟨f,a,none⟩) n g)).heap[b]?=H.heap[b]?:=fun b J=>heap_setCell_other H _ b _ J;have c9:=heap_setCell_same H D (p+j) d1 e0 (.slice (some ⟨f,a,none⟩) n g) (cellAt h4);have t:=E.trans h4;refine⟨_,_,_,K1,(Option.some.inj hE).symm,rfl,⟨t.os,t.tape,t.output,by rw[World.size_setCell];exact t.size,fun b J hn=>(ho b (by omega)).trans (t.keep b J hn),by obtain⟨e,he⟩:=t.cur;exact⟨e,(ho blk (fun h=>e4 h.symm)).trans he⟩⟩,?_,fun x d=>⟨(m x d).1,by rw[World.size_setCell];have:=m x d;omega⟩⟩
    have c6:ix (zed c) 0 []=R0:=by unfold ix;simp[List.getD,b9]
    have a0:(up (zed c) (j:Int) (tk (ix (zed c) 0 []) (n:Int))).length=3:=by rw[zhB];exact a7
    have:=zJO c9 (l:=up (zed c) (j:Int) (tk (ix (zed c) 0 []) (n:Int))) (by omega) (cap:=a2) (off:=p) (by omega) (by simpa using d0) (fun i=>if i=j then .slice (some ⟨f,a,none⟩) n g else V i) Y (fun i O=>by
     rw[a0]at O;rw[k7]
     by_cases L:i=j
     .subst L;rw[if_pos rfl,if_pos (by omega),if_pos rfl]
     .rw [if_neg (by omega),if_neg L]
      exact hV i O) (fun i x d=>by
     have O:i<3:=by rw[<- a0];exact(qA.1 d).1
     unfold up at d;rw[q9]at d
     by_cases L:i=j
     .subst L;rw[kD,if_pos rfl,if_pos (by omega),c6]at d
      cases d;refine⟨fun x=>x=f,?_,fun y R=>by rw[R];exact(F 0 f (by omega) C).1⟩
      have hl:(tk R0 (n:Int)).length=n:=by simp[tk];omega
      have:=zJN (o:=false) (w:=H.setCell ⟨D,p+i,none⟩ (.slice (some ⟨f,a,none⟩) n g)) (b:=f) (off:=a) (cap:=g) (arr:=S) (e:=e1) ((ho f a4).trans ((h4.keep f a5.2 T).trans c3)) (l:=tk R0 (n:Int)) (by omega) (by omega) a8 (fun q z hq=>by
       unfold tk at hq;rw[jI]at hq;split at hq
       .exact U q z hq
       .cases hq)
      rw[hl] at this;rw[if_pos rfl];exact this
     .rw [kD,if_neg (by omega)]at d
      rw[if_neg L];exact⟨Kc i,(a9 i x (fun b _ J hn c1=>(ho b c1).trans (h4.keep b J hn)) O d).1,fun y R=>(F i y O R).1⟩)
    rw[a0] at this;exact this
   have X:Cw K blk u (zg8 c) W.drew:=A.drew;obtain⟨e7,e6⟩:=a6 (E.trans X) rfl;have d2:=P X
   go_region_with (first
    |(go_at_call_of 54 (Value.int IntKind.i64 3);refine(zsU (c:=zg8 c) (n:=3) X.cur e7 e6 I).mono ?_;rw[Z];rintro e w3 ⟨rfl,G⟩;have G:Cw W.drew blk u (zsZ c) w3:=G;have B:=X.trans G;have d3:=P B;obtain⟨g2,f3⟩:=a6 (E.trans B) rfl)
    |(go_at_call_of 54 (Value.int IntKind.i64 4);refine(zsU (c:=zsZ c) (n:=4) B.cur g2 f3 b3).mono ?_;rw[c8];rintro e H ⟨rfl,b7⟩;have b7:Cw w3 blk u (z05 c) H:=b7;have b8:=B.trans b7;have d4:=P b8;obtain⟨d5,d6⟩:=b6 b8))
   (all_goals go_wp2);(all_goals go_ret);all_goals exact d7 b8
 .have h0:ieq k 0=false:=by assumption
  have h1:ieq k 1=true:=by assumption
  rw[h0,h1,cF,cT]at hE;cases c4:zbp (zg8 c) [-1,100] with
  |false=>rw[c4]at hE;cases hE
  |true=>
   rw[c4,cT]at hE;obtain⟨R1,a3⟩:∃R1,(zed c)[1]?=some R1:=⟨_,qB (by omega)⟩;have e2:R1.length=4:=hM.2 R1 (qI a3);obtain⟨f,a,g,S,e1,e3,c3,c5,a8,C,U⟩:=zWt (c0 1 R1 a3) e2;have a5:=m f (F 1 f (by omega) C).1;have T:f≠blk:=(by omega);have a4:f≠D:=(F 1 f (by omega) C).2;have Q:∀{w':World} {M:Cur},Cw K blk u M w'->w'.cell? ⟨D,p+1,none⟩=some (.slice (some ⟨f,a,none⟩) 4 g):=fun h=>(by have:=hV 1 (by omega);rw[e3] at this;rw[cell_of_block (cellAt h)];exact this);have a1:∀{w':World} {M:Cur},Cw K blk u M w'->w'.heap[f]?=some (.cells S e1 (0,0)):=fun h=>(h.keep f a5.2 T).trans c3;have b5:∀{w':World} {M:Cur},Cw K blk u M w'->w'.cell? ⟨f,a+2,none⟩=some (.int .i64 R1[2])/\w'.frozen? ⟨f,a+2,none⟩=false:=fun h=>by rw[cell_of_block (a1 h)];exact⟨U 2 _ (qB (by omega)),zvu (a1 h)⟩
   have X:Cw K blk u (zg8 c) W.drew:=A.drew;have d2:=Q X;have d8:∀{H:World},Cw K blk u (z06 c) H->∃c2 l v Kr,r=AV.agg (zbS c2)::[aS (.sl .int) l]/\Ending.returned (.slice (some ⟨D,p,none⟩) 3 a2) = .returned v/\Cw w blk u c2 (H.setCell ⟨f,a+2,none⟩ (.int .i64 (zue c)))/\Rep false (H.setCell ⟨f,a+2,none⟩ (.int .i64 (zue c))) v (.s (.sl .int) l) Kr/\
    (∀x,Kr x->w.heap.size<=x/\x<(H.setCell ⟨f,a+2,none⟩ (.int .i64 (zue c))).heap.size):=by
    intro H h4;have hz:=h4.size;have ho:∀b,b≠f->(H.setCell ⟨f,a+2,none⟩ (.int .i64 (zue c))).heap[b]?=H.heap[b]?:=fun b J=>heap_setCell_other H _ b _ J;have c9:=heap_setCell_same H f (a+2) S e1 (.int .i64 (zue c)) (a1 h4);have t:=E.trans h4;refine⟨_,_,_,K1,(Option.some.inj hE).symm,rfl,⟨t.os,t.tape,t.output,by rw[World.size_setCell];exact t.size,fun b J hn=>(ho b (by omega)).trans (t.keep b J hn),by obtain⟨e,he⟩:=t.cur;exact⟨e,(ho blk (fun h=>T h.symm)).trans he⟩⟩,?_,fun x d=>⟨(m x d).1,by rw[World.size_setCell];have:=m x d;omega⟩⟩
    have c6:ix (zed c) 1 []=R1:=by unfold ix;show (zed c).getD 1 []=R1;simp[List.getD,a3]
    have a0:(up (zed c) 1 (up (ix (zed c) 1 []) 2 (zue c))).length=3:=by rw[zhB];exact a7
    have:=zJO ((ho D (fun h=>a4 h.symm)).trans (cellAt h4)) (l:=up (zed c) 1 (up (ix (zed c) 1 []) 2 (zue c))) (by omega) (cap:=a2) (off:=p) (by omega) d0 V Y (fun i O=>hV i (by omega)) (fun i x d=>by
     have O:i<3:=by rw[<- a0];exact(qA.1 d).1
     unfold up at d;rw[q9]at d
     by_cases L:i=1
     .subst L;rw[show (1:Int).toNat=1 from rfl,if_pos rfl,if_pos (by omega),c6]at d
      cases d;refine⟨fun x=>x=f,?_,fun y R=>by rw[R];exact(F 1 f (by omega) C).1⟩
      have hl:(List.set R1 (2:Int).toNat (zue c)).length=4:=by simp;omega
      have:=zJN (o:=false) (w:=H.setCell ⟨f,a+2,none⟩ (.int .i64 (zue c))) (b:=f) (off:=a) (cap:=g) c9 (l:=List.set R1 (2:Int).toNat (zue c)) (by omega) (by omega) (by simpa using a8) (fun q z hq=>by
       rw[q9]at hq;rw[k7]
       by_cases f8:q=2
       .subst f8;rw[show (2:Int).toNat=2 from rfl,if_pos rfl,if_pos (by omega)]at hq
        cases hq;rw[if_pos rfl,if_pos (by omega)]
       .rw [show (2:Int).toNat=2 from rfl,if_neg (by omega)]at hq
        rw[if_neg (by omega)]
        exact U q z hq)
      rw[hl] at this;rw[e3];exact this
     .rw [show (1:Int).toNat=1 from rfl,if_neg (by omega)]at d
      refine⟨Kc i,(a9 i x (fun b f5 J hn g6=>?_) O d).1,fun y R=>(F i y O R).1⟩;exact(ho b (fun e=>L (e8 i 1 b O (by omega) f5 (by rw[e];exact C)))).trans (h4.keep b J hn))
    rw[a0] at this;exact this
   have hA:Cw K blk u (zg8 c) (W.alloc (Obj.cells #[Value.int .i64 (-1),Value.int .i64 100] 3)).drew:=(A.alloc A.lt _).drew;obtain⟨g3,f4⟩:=a6 (E.trans hA) rfl;have dA:=Q hA;have g4:Rep false (W.alloc (Obj.cells #[Value.int .i64 (-1),Value.int .i64 100] 3)).drew (.slice (some ⟨W.heap.size,0,none⟩) 2 2) (.s .int [-1,100]) (fun x=>x=W.heap.size):=by
    have hh:(W.alloc (Obj.cells #[Value.int .i64 (-1),Value.int .i64 100] 3)).drew.heap[W.heap.size]?=some (.cells #[Value.int .i64 (-1),Value.int .i64 100] 3 (0,0)):=heap_alloc_new W _;exact zJN (o:=false) hh (l:=[-1,100]) (cap:=2) (off:=0) (by decide) (by decide) (by decide) (fun i x d=>by
     match i,d with
     | 0,d=>cases d;rfl
     | 1,d=>cases d;rfl
     |i+2,d=>simp at d)
   go_region_with (first
    |(go_at_call_of 83 (Value.slice (some ⟨W.heap.size,0,none⟩) 2 2);refine(z4n (c:=zg8 c) (l:=[-1,100]) hA.cur g3 f4 c4 g4 (fun x d=>by rw[d];exact⟨by simp,Nat.ne_of_gt A.lt⟩)).mono ?_;rintro e w3 ⟨rfl,G⟩;have G:Cw (W.alloc (Obj.cells #[Value.int .i64 (-1),Value.int .i64 100] 3)).drew blk u (z06 c) w3:=G;have B:=hA.trans G;have d3:=Q B;obtain⟨d4,d5⟩:=b5 B))
   (all_goals go_wp2);(all_goals go_ret);all_goals exact d8 B
 .have h0:ieq k 0=false:=by assumption
  have h1:ieq k 1=false:=by assumption
  have h2:ieq k 2=true:=by assumption
  rw[h0,h1,h2,cF,cF,cT]at hE;cases I:zx (zg8 c) 3 with
  |false=>rw[I]at hE;cases hE
  |true=>
   rw[I,cT]at hE;have hj:=(zg1 I).2.2 (by omega);obtain⟨j,Z⟩:=uU hj.1;have c7:z07 c=(j:Int):=Z;rw[c7]at hE;refine(zsU A.cur g1 f2 I).mono ?_;rw[Z];rintro e w3 ⟨rfl,G⟩;have G:Cw W blk u (zsZ c) w3:=G;go_wp2;go_ret;have e5:j<3:=(by omega);have f6:(tk (zed c) (j:Int)).length=j:=(by simp[tk];omega);have B:=A.trans G;refine⟨_,_,_,K1,(Option.some.inj hE).symm,rfl,E.trans B,?_,fun x d=>⟨(m x d).1,by have:=m x d;have:=B.size;omega⟩⟩
   have:=zJO (cellAt B) (l:=tk (zed c) (j:Int)) (by omega) (cap:=a2) (off:=p) (by omega) d0 V Y (fun i O=>hV i (by omega)) (fun i x d=>by
    have O:i<(tk (zed c) (j:Int)).length:=(qA.1 d).1;have g5:(zed c)[i]?=some x:=by unfold tk at d;rw[jI]at d;split at d;{exact d};{cases d}
    exact⟨Kc i,(a9 i x (fun b _ J hn _=>B.keep b J hn) (by omega) g5).1,fun y R=>(F i y (by omega) R).1⟩)
   rw[f6] at this;exact this
 .have h0:ieq k 0=false:=by assumption
  have h1:ieq k 1=false:=by assumption
  have h2:ieq k 2=false:=by assumption
  rw[h0,h1,h2,cF,cF,cF]at hE
  go_ret
  exact⟨_,_,_,K1,(Option.some.inj hE).symm,rfl,E.trans A,(b2.frame (fun x d=>A.keep x (m x d).2 (by have:=m x d;omega))).ro,fun x d=>⟨(m x d).1,by have:=m x d;omega⟩⟩
theorem zU2 {c:Cur}(h:zbd c):zoW c=true:=by
 refine z1z c ⟨0,?_⟩;unfold znF;have t:=zbco h (a0:=3) (by omega) (by omega);have y:zbd (zAi c):=zbJ h (z1C _ _);have k:zbd (zg8 c):=zbJ h (zD _ _);have z:zbd (zsZ c):=zbJ h (zD _ _);have p:=(zAG t).2.2 (by omega) (by omega);have A:(zed c).length=3:=(by have:=p.1;unfold ln at this;unfold zed;omega);have f:∀r∈zed c,r.length<=4:=fun r f=>kX (p.2 r f);have u:∀n,(ix (zed c) n []).length<=4:=(by intro n;unfold ix List.getD;cases e:(zed c)[n.toNat]? with|none=>simp|some r=>exact f r (qI e));have g:∀(n:Int) (r:List Int),r.length<=4->∀q∈up (zed c) n r,q.length<=4:=by intro n r j q e;rcases qW e with e|rfl;{exact f q e};{exact j}
 have d:∀(s:Cur) (l:List (List Int)),s.b=c.b->0<=s.i->l.length<=3->(∀r∈l,r.length<=4)->Ends (fun a=>∃s m,a=(AV.agg (zbS s)::[aS (.sl .int) m])/\(s.b=c.b/\0<=s.i)/\(m.length<=3/\∀r∈m,r.length<=4)) (some (AV.agg (zbS s)::[aS (.sl .int) l])):=
  fun s l v w x j=>⟨_,rfl,s,l,rfl,⟨v,w⟩,x,j⟩
 exact zu t (zu (zby y 8) (zbB (fun _=>zu (zby k 3) (zu (zby z 4) (d _ _ rfl (zD _ _) (by rw[zhB];omega) (g _ _ (qU (zDV _ _) (u _))))))
  (fun _=>zbB (fun _=>zu (zeb k (by simp)) (d _ _ rfl (zbT _ _) (by rw[zhB];omega) (g _ _ (by rw[zhB];exact u _)))) (fun _=>zbB (fun _=>zu (zby k 3) (d _ _ rfl (zD _ _) (qU (zDV _ _) (by omega)) (fun r e=>f r (jV e)))) (fun _=>d _ _ rfl (zD _ _) (by omega) f)))))
theorem zOA:zbN Tryz.prog 142 [false,true,true] zsg:=by
 refine⟨ziZ (by kernel_rfl),?_⟩;intro w blk d e cs K T xs Ka U rs D P a4 k A X n W g;unfold zsg rP0 at g;obtain⟨⟨p,q,r⟩,rfl,g⟩:=z4i g;obtain⟨rfl,R,rfl,rfl⟩:=zvN g;dsimp only at R ⊢;have hs:d.size=3:=P;have M:xs=[]:=List.eq_nil_of_length_eq_zero n.1;subst M;obtain⟨N,hE⟩:=(zM4 R).1;have v1:=(k 1 _ (d[1]'(by omega)) rfl (jH _)).int_inv;have v2:=(k 2 _ (d[2]'(by omega)) rfl (jH _)).int_inv
 have m:d = #[d[0]'(by omega),.int .i64 q,.int .i64 r]:=by
  apply Array.ext;{exact hs}
  .intro i E hi2
   match i,E with
   | 0,_=>rfl
   | 1,_=>exact v1
   | 2,_=>exact v2
   |i+3,h=>omega
 have hu:=k 0 _ (d[0]'(by omega)) rfl (jH _);have f:Rep false w (d[0]'(by omega)) (.s .u8 p) (K 0):=hu;generalize d[0]'(by omega)=u at m f;subst m;refine(zXX (c:=⟨p,q,r⟩) (u:=u) (K0:=K 0) N ⟨e,D⟩ f (fun x n=>A 0 x (show 0<3 by decide) n) hE).mono ?_;rintro e2 w' ⟨z,l,v,S,hr,rfl,y,Y,t⟩;have B:AV.agg (zbS (zhM ⟨p,q,r⟩))::[aS (.sl .int) (zqa ⟨p,q,r⟩)]=AV.agg (zbS z)::[aS (.sl .int) l]:=hr;simp only[List.cons.injEq,AV.agg.injEq,AV.one.injEq,and_true]at B;obtain⟨C,I⟩:=B;have I:zqa ⟨p,q,r⟩=l:=(by cases I;rfl);subst I;have O:zhM ⟨p,q,r⟩=z:=(by have C:=C;simp only[zbS,List.cons.injEq,CV.s.injEq,CV.i.injEq,true_and,and_true,heq_eq_eq]at C;obtain⟨F,G,H⟩:=C;generalize zhM ⟨p,q,r⟩=s at F G H;obtain⟨a1,a2,a3⟩:=s;obtain⟨b1,b2,b3⟩:=z;simp only at F G H;rw[F,G,H]);rw[O];obtain⟨V,J⟩:=y.cur;refine⟨y.os,y.tape,y.output,y.size,fun b D hn _=>y.keep b D hn,#[u,.int .i64 z.i,.int .i64 z.h],V,fun _ _=>False,[v],fun _=>S,J,rfl,rfl,?_,⟨rfl,fun i Q x a n=>?_⟩,rfl,fun j x _ h=>h.elim,fun i x E L=>⟨(t x L).2,?_,.inr (t x L).1⟩,fun i j x _ _ _ h=>h.elim,?_,fun i j x _ _ h=>h.elim⟩
 .intro j Q u' a f
  match j,a,f with
  | 0,a,f=>cases a;exact⟨fun h=>by simp[zbb]at h,fun _=>f⟩
  | 1,a,f=>cases a;cases f;rfl
  | 2,a,f=>cases a;cases f;rfl
  |j+3,a,f=>simp[zbS]at a
 .match i,a,n with
  | 0,a,n=>cases a;cases n;exact Y
  |i+1,a,n=>simp at n
 {have:=(qQ.1 D).1;have:=(t x L).1;omega};{intro i j Q x E ho Z a0 _;have h1:i<1:=(qA.1 E).1;have h2:j<1:=Z;omega}
def z9o:zcU:=[(142,([false,true,true],zsg))]++z9n
theorem zWj:zb2 z9o:=zcu z6K (by
 intro x a;simp only[qG,qO,or_false]at a;rcases a with rfl
 .exact zOA)
end
def zbce:zW:=[(145,zll),(220,zpZ)]++z8f
theorem zIr:zK zbce:=zi zmR (zi zt2 zdN)
theorem zFd {g:Type}{c e:Cur}(h:zbd c)(j:0<=e.i){P:g->Prop}{q:Int}(w:0<q)(L:q<=1000){fc:Cur->Bool}{fs:Cur->Cur}{fv:Cur->g}(D:∀{c:Cur},zbd c->fc c=true)(E:∀c,0<=(fs c).i)(hg:∀{c:Cur},zbd c->P (fv c)){G:Ans->Prop}{l0:List g}{z:Nat}(N:l0.length<=z)(H:z<=1000)(m:∀x∈l0,P x){σ:Type}(S:Nat->Int×Int×Int×List g->σ){F:(σ->OA)->σ->OA}(C:∀rec t i k l,∃r,F rec (S 0 (t,i,k,l))=(bif zx ⟨c.b,i,k⟩ q then (bif ilt t (zk ⟨c.b,i,k⟩ q) then (bif fc { zf ⟨c.b,i,k⟩ q with b:=c.b } then (bif few (ln (ap l [fv { zf ⟨c.b,i,k⟩ q with b:=c.b }])) then
        rec (S 0 (zM .i64 t 1,(fs {zf ⟨c.b,i,k⟩ q with b:=c.b}).i,(fs {zf ⟨c.b,i,k⟩ q with b:=c.b}).h,ap l [fv {zf ⟨c.b,i,k⟩ q with b:=c.b}])) else none) else none) else some r) else none)/\(ln l<=z+q->(∀x∈l,P x)->G r)):Ends G (iter 1002 F (S 0 (0,e.i,e.h,l0))):=by
 refine zlV (fun n s=>∃t i k l,s=S 0 (t,i,k,l)/\t+(n:Int)=1000/\0<=t/\t<=q/\0<=i/\(∀x∈l,P x)/\ln l<=z+t) ?_ 1002 1000 _ ⟨0,e.i,e.h,l0,rfl,rfl,kS 0,by omega,j,m,by unfold ln;omega⟩ (by omega)
 rintro n s rec ⟨t,i,k,l,rfl,I,A,J,B,p,K⟩ f
 obtain⟨r,hF1,hF2⟩:=C rec t i k l;rw[hF1];have a:zbd ⟨c.b,i,k⟩:=zbJ h B;have d:=zfu a w;have u:zbd {zf ⟨c.b,i,k⟩ q with b:=c.b}:=zbJ h (zD _ _);refine zu (zby a _) (zbB (fun v=>?_) (fun v=>?_))
 .have hlt:t<zk ⟨c.b,i,k⟩ q:=qE v;have M:=zgR (y:=1) A (by omega) (by omega) (by omega)
  refine zu (D u) (zu (zkp (by rw[zg9];omega)) (f (n-1) _ (by omega) ⟨_,_,_,_,rfl,by omega,by omega,by omega,E _,?_,by rw[zg9];omega⟩))
  intro x d;rcases jJ.1 d with d|d
  .exact p x d
  .rw [qF.1 d];exact hg u
 .exact ztU (hF2 (by omega) p)
theorem zbbH {c d:Cur}(h:zbd c)(f:0<=d.i){m q x:Int}(p:0<q)(g:0<=m)(C:m+q<=1000){G:Ans->Prop}{l0:List Int}(A:ln l0<=m+q){σ:Type}(S:Nat->Int×Int×List Int->σ){F:(σ->OA)->σ->OA}(v:∀rec i k l,∃r,F rec (S 0 (i,k,l))=(bif zx ⟨c.b,i,k⟩ q then (bif ilt (ln l) (zM .i64 m (zk ⟨c.b,i,k⟩ q)) then (bif few (ln (ap l [x])) then
        rec (S 0 ((zf ⟨c.b,i,k⟩ q).i,(zf ⟨c.b,i,k⟩ q).h,ap l [x])) else none) else some r) else none)/\(ln l<=m+q->G r)):Ends G (iter 1002 F (S 0 (d.i,d.h,l0))):=by
 refine zlV (fun n s=>∃i k l,s=S 0 (i,k,l)/\ln l+(n:Int)=1000/\0<=i/\ln l<=m+q) ?_ 1002 (1000-ln l0).toNat _ ⟨d.i,d.h,l0,rfl,by unfold ln at *;omega,f,A⟩ (by unfold ln at *;omega)
 rintro n s rec ⟨i,k,l,rfl,B,t,u⟩ e
 obtain⟨r,hF1,hF2⟩:=v rec i k l;rw[hF1];have a:zbd ⟨c.b,i,k⟩:=zbJ h t;have z:=zfu a p;have w:=zgR (x:=m) (y:=zk ⟨c.b,i,k⟩ q) g (by omega) z.1 (by omega)
 refine zu (zby a _) (zbB (fun j=>?_) (fun j=>?_))
 .have hlt:ln l<zM .i64 m (zk ⟨c.b,i,k⟩ q):=qE j;rw[w]at hlt;exact zu (zkp (by rw[zg9];omega)) (e (n-1) _ (by unfold ln at *;omega) ⟨_,_,_,rfl,by rw[zg9];omega,zD _ _,by rw[zg9];omega⟩)
 .exact ztU (hF2 u)
def GuS (g:Guest):Prop:=g.Prog.length<=13/\g.Written.length<=4/\g.Live.length<=4/\g.Seen.length<=50
theorem zEY {c:Cur}(h:zbd c):(zdi c 4 8).length<=4:=by have:=(zba7 h (n:=4) (m:=8) (by omega) (by omega) (by omega) (by omega)).1;unfold ln at this;omega
def ztJ (N:Nat)(c:Cur)  : OA :=
 let C:=({ (zY c) with b:=c.b}:Cur);let v:=(zdi C 4 8);let d:=(zcn (zbY c));let y9:=({ (zI C 4 8) with b:=c.b}:Cur);let x:=(zdi y9 4 8);let y2:=({ (zI y9 4 8) with b:=c.b}:Cur);let w:=(zk y2 100);let B:=({ (zf y2 100) with b:=c.b}:Cur);let y:=(zk B 4);let y0:=({ (zf B 4) with b:=c.b}:Cur);let I:=({ (zcd y0) with b:=c.b}:Cur);let e:=(zcw y0);let A:=({ (zO I 3) with b:=c.b}:Cur);let H:=({ (zf A 256) with b:=c.b}:Cur);let r:=({ (zO A 4) with b:=c.b}:Cur);let u:=({ (zeW r) with b:=c.b}:Cur);let q:=({ (zO H 4) with b:=c.b}:Cur);let t:=({ (zeW q) with b:=c.b}:Cur); (oN (zgz c) (oN (ziA (zbY c)) (oN (zg2 C 4 8) (oN (zg2 y9 4 8) (oN (zx y2 100) (oN (zx B 4) (oN (zjl y0) (oN (zcT I 3) (cond (zc1 I 3) (oN (zx A 256) (oN (zcT H 4) (cond (zc1 H 4) (oN (zh9 q) (oN (zcT t 12) (iter (σ:=(Int×(Int×(Int×(Int×(Int×(Int×(Int×(Bool×(Int×(Int×(Int×(Bool×(Int×(Bool×(Int×(Int×(Int×(Int×(Bool×(Int×(Int×(Int×(Bool×(Int×(Bool×((List Int)×(lI×(lS×(lS×((List Int)×(lI×(lS×(lS×((List Int)×Unit))))))))))))))))))))))))))))))))))) N (fun z a=>let d6:=a.2.2.2.2.2.2.2.2.2.2.2.2.2.2.1;let d2:=a.2.2.2.2.2.2.2.2.2.2.2.2.2.2.2.1;let c8:=a.2.2.2.2.2.2.2.2.2.2.2.2.2.2.2.2.1;let c4:=a.2.2.2.2.2.2.2.2.2.2.2.2.2.2.2.2.2.1;let c0:=a.2.2.2.2.2.2.2.2.2.2.2.2.2.2.2.2.2.2.1;let b6:=a.2.2.2.2.2.2.2.2.2.2.2.2.2.2.2.2.2.2.2.1;let b2:=a.2.2.2.2.2.2.2.2.2.2.2.2.2.2.2.2.2.2.2.2.1;let a8:=a.2.2.2.2.2.2.2.2.2.2.2.2.2.2.2.2.2.2.2.2.2.1;let a4:=a.2.2.2.2.2.2.2.2.2.2.2.2.2.2.2.2.2.2.2.2.2.2.1;let a0:=a.2.2.2.2.2.2.2.2.2.2.2.2.2.2.2.2.2.2.2.2.2.2.2.1;let W:=a.2.2.2.2.2.2.2.2.2.2.2.2.2.2.2.2.2.2.2.2.2.2.2.2.1;let S:=a.2.2.2.2.2.2.2.2.2.2.2.2.2.2.2.2.2.2.2.2.2.2.2.2.2.2.2.2.2.2.1;let O:=a.2.2.2.2.2.2.2.2.2.2.2.2.2.2.2.2.2.2.2.2.2.2.2.2.2.2.2.2.2.2.2.1;let J:=a.2.2.2.2.2.2.2.2.2.2.2.2.2.2.2.2.2.2.2.2.2.2.2.2.2.2.2.2.2.2.2.2.1;let D:=a.2.2.2.2.2.2.2.2.2.2.2.2.2.2.2.2.2.2.2.2.2.2.2.2.2.2.2.2.2.2.2.2.2.1;let y4:=a.2.2.2.2.2.2.2.2.2.2.2.2.2.2.2.2.2.2.2.2.2.2.2.2.2.1;let l:=(⟨y4,a.2.1,a.2.2.1⟩:Cur);let f:=({ (zf l 4) with b:=y4}:Cur); (oN (zx l 4) (cond (ilt a.1 (zk l 4)) (oN (zx f 100) (oN (few (ln (ap D [(zk f 100)]))) (z ((zM .i64 a.1 1),((zf f 100).i,((zf f 100).h,(a.2.2.2.1,(a.2.2.2.2.1,(a.2.2.2.2.2.1,(a.2.2.2.2.2.2.1,(a.2.2.2.2.2.2.2.1,(a.2.2.2.2.2.2.2.2.1,(a.2.2.2.2.2.2.2.2.2.1,(a.2.2.2.2.2.2.2.2.2.2.1,(a.2.2.2.2.2.2.2.2.2.2.2.1,(a.2.2.2.2.2.2.2.2.2.2.2.2.1,(a.2.2.2.2.2.2.2.2.2.2.2.2.2.1,(d6,(d2,(c8,(c4,(c0,(b6,(b2,(a8,(a4,(a0,(W,(y4,(a.2.2.2.2.2.2.2.2.2.2.2.2.2.2.2.2.2.2.2.2.2.2.2.2.2.2.1,(a.2.2.2.2.2.2.2.2.2.2.2.2.2.2.2.2.2.2.2.2.2.2.2.2.2.2.2.1,(a.2.2.2.2.2.2.2.2.2.2.2.2.2.2.2.2.2.2.2.2.2.2.2.2.2.2.2.2.1,(a.2.2.2.2.2.2.2.2.2.2.2.2.2.2.2.2.2.2.2.2.2.2.2.2.2.2.2.2.2.1,(S,(O,(J,((ap D [(zk f 100)]),()))))))))))))))))))))))))))))))))))))) (some [(.agg [(.s .u8 y4),(.i .i64 (zf l 4).i),(.i .i64 (zf l 4).h)]),(aT .guest (⟨S,d6,d2,O,J,⟨c8,c4,c0⟩,b6,⟨b2,a8,a4,a0⟩,W,D⟩:Guest))])))) (0,((zO t 12).i,((zO t 12).h,(0,(0,(0,(0,(false,(0,(0,(0,(false,(0,(false,(w,(y,(e.Traps,(e.Post,(e.Open,((zk A 256),((zb5 q).Kind,((zb5 q).Page,((zb5 q).Write,((zb5 q).N,((zc1 t 12),(c.b,([],([],([],([],(d.Prog,(v,(x,(d.Seen,()))))))))))))))))))))))))))))))))))))) (oN (zcT q 12) (iter (σ:=(Int×(Int×(Int×(Int×(Int×(Int×(Int×(Bool×(Int×(Int×(Int×(Bool×(Int×(Bool×(Int×(Int×(Int×(Int×(Bool×(Int×(Int×(Int×(Bool×(Int×(Bool×((List Int)×(lI×(lS×(lS×((List Int)×(lI×(lS×(lS×((List Int)×Unit))))))))))))))))))))))))))))))))))) N (fun z a=>let d7:=a.2.2.2.2.2.2.2.2.2.2.2.2.2.2.1;let d3:=a.2.2.2.2.2.2.2.2.2.2.2.2.2.2.2.1;let c9:=a.2.2.2.2.2.2.2.2.2.2.2.2.2.2.2.2.1;let c5:=a.2.2.2.2.2.2.2.2.2.2.2.2.2.2.2.2.2.1;let c1:=a.2.2.2.2.2.2.2.2.2.2.2.2.2.2.2.2.2.2.1;let b7:=a.2.2.2.2.2.2.2.2.2.2.2.2.2.2.2.2.2.2.2.1;let b3:=a.2.2.2.2.2.2.2.2.2.2.2.2.2.2.2.2.2.2.2.2.1;let a9:=a.2.2.2.2.2.2.2.2.2.2.2.2.2.2.2.2.2.2.2.2.2.1;let a5:=a.2.2.2.2.2.2.2.2.2.2.2.2.2.2.2.2.2.2.2.2.2.2.1;let a1:=a.2.2.2.2.2.2.2.2.2.2.2.2.2.2.2.2.2.2.2.2.2.2.2.1;let X:=a.2.2.2.2.2.2.2.2.2.2.2.2.2.2.2.2.2.2.2.2.2.2.2.2.1;let T:=a.2.2.2.2.2.2.2.2.2.2.2.2.2.2.2.2.2.2.2.2.2.2.2.2.2.2.2.2.2.2.1;let P:=a.2.2.2.2.2.2.2.2.2.2.2.2.2.2.2.2.2.2.2.2.2.2.2.2.2.2.2.2.2.2.2.1;let K:=a.2.2.2.2.2.2.2.2.2.2.2.2.2.2.2.2.2.2.2.2.2.2.2.2.2.2.2.2.2.2.2.2.1;let E:=a.2.2.2.2.2.2.2.2.2.2.2.2.2.2.2.2.2.2.2.2.2.2.2.2.2.2.2.2.2.2.2.2.2.1;let y5:=a.2.2.2.2.2.2.2.2.2.2.2.2.2.2.2.2.2.2.2.2.2.2.2.2.2.1;let m:=(⟨y5,a.2.1,a.2.2.1⟩:Cur);let g:=({ (zf m 4) with b:=y5}:Cur); (oN (zx m 4) (cond (ilt a.1 (zk m 4)) (oN (zx g 100) (oN (few (ln (ap E [(zk g 100)]))) (z ((zM .i64 a.1 1),((zf g 100).i,((zf g 100).h,(a.2.2.2.1,(a.2.2.2.2.1,(a.2.2.2.2.2.1,(a.2.2.2.2.2.2.1,(a.2.2.2.2.2.2.2.1,(a.2.2.2.2.2.2.2.2.1,(a.2.2.2.2.2.2.2.2.2.1,(a.2.2.2.2.2.2.2.2.2.2.1,(a.2.2.2.2.2.2.2.2.2.2.2.1,(a.2.2.2.2.2.2.2.2.2.2.2.2.1,(a.2.2.2.2.2.2.2.2.2.2.2.2.2.1,(d7,(d3,(c9,(c5,(c1,(b7,(b3,(a9,(a5,(a1,(X,(y5,(a.2.2.2.2.2.2.2.2.2.2.2.2.2.2.2.2.2.2.2.2.2.2.2.2.2.2.1,(a.2.2.2.2.2.2.2.2.2.2.2.2.2.2.2.2.2.2.2.2.2.2.2.2.2.2.2.1,(a.2.2.2.2.2.2.2.2.2.2.2.2.2.2.2.2.2.2.2.2.2.2.2.2.2.2.2.2.1,(a.2.2.2.2.2.2.2.2.2.2.2.2.2.2.2.2.2.2.2.2.2.2.2.2.2.2.2.2.2.1,(T,(P,(K,((ap E [(zk g 100)]),()))))))))))))))))))))))))))))))))))))) (some [(.agg [(.s .u8 y5),(.i .i64 (zf m 4).i),(.i .i64 (zf m 4).h)]),(aT .guest (⟨T,d7,d3,P,K,⟨c9,c5,c1⟩,b7,⟨b3,a9,a5,a1⟩,X,E⟩:Guest))])))) (0,((zO q 12).i,((zO q 12).h,(0,(0,(0,(0,(false,(0,(0,(0,(false,(0,(false,(w,(y,(e.Traps,(e.Post,(e.Open,((zk A 256),(d.Exit.Kind,(d.Exit.Page,(d.Exit.Write,(d.Exit.N,((zc1 q 12),(c.b,([],([],([],([],(d.Prog,(v,(x,(d.Seen,()))))))))))))))))))))))))))))))))))))))) (oN (zcT A 4) (cond (zc1 A 4) (oN (zh9 r) (oN (zcT u 12) (iter (σ:=(Int×(Int×(Int×(Int×(Int×(Int×(Int×(Bool×(Int×(Int×(Int×(Bool×(Int×(Bool×(Int×(Int×(Int×(Int×(Bool×(Int×(Int×(Int×(Bool×(Int×(Bool×((List Int)×(lI×(lS×(lS×((List Int)×(lI×(lS×(lS×((List Int)×Unit))))))))))))))))))))))))))))))))))) N (fun z a=>let d8:=a.2.2.2.2.2.2.2.2.2.2.2.2.2.2.1;let d4:=a.2.2.2.2.2.2.2.2.2.2.2.2.2.2.2.1;let d0:=a.2.2.2.2.2.2.2.2.2.2.2.2.2.2.2.2.1;let c6:=a.2.2.2.2.2.2.2.2.2.2.2.2.2.2.2.2.2.1;let c2:=a.2.2.2.2.2.2.2.2.2.2.2.2.2.2.2.2.2.2.1;let b8:=a.2.2.2.2.2.2.2.2.2.2.2.2.2.2.2.2.2.2.2.1;let b4:=a.2.2.2.2.2.2.2.2.2.2.2.2.2.2.2.2.2.2.2.2.1;let b0:=a.2.2.2.2.2.2.2.2.2.2.2.2.2.2.2.2.2.2.2.2.2.1;let a6:=a.2.2.2.2.2.2.2.2.2.2.2.2.2.2.2.2.2.2.2.2.2.2.1;let a2:=a.2.2.2.2.2.2.2.2.2.2.2.2.2.2.2.2.2.2.2.2.2.2.2.1;let Y:=a.2.2.2.2.2.2.2.2.2.2.2.2.2.2.2.2.2.2.2.2.2.2.2.2.1;let U:=a.2.2.2.2.2.2.2.2.2.2.2.2.2.2.2.2.2.2.2.2.2.2.2.2.2.2.2.2.2.2.1;let Q:=a.2.2.2.2.2.2.2.2.2.2.2.2.2.2.2.2.2.2.2.2.2.2.2.2.2.2.2.2.2.2.2.1;let L:=a.2.2.2.2.2.2.2.2.2.2.2.2.2.2.2.2.2.2.2.2.2.2.2.2.2.2.2.2.2.2.2.2.1;let F:=a.2.2.2.2.2.2.2.2.2.2.2.2.2.2.2.2.2.2.2.2.2.2.2.2.2.2.2.2.2.2.2.2.2.1;let y6:=a.2.2.2.2.2.2.2.2.2.2.2.2.2.2.2.2.2.2.2.2.2.2.2.2.2.1;let n:=(⟨y6,a.2.1,a.2.2.1⟩:Cur);let j:=({ (zf n 4) with b:=y6}:Cur); (oN (zx n 4) (cond (ilt a.1 (zk n 4)) (oN (zx j 100) (oN (few (ln (ap F [(zk j 100)]))) (z ((zM .i64 a.1 1),((zf j 100).i,((zf j 100).h,(a.2.2.2.1,(a.2.2.2.2.1,(a.2.2.2.2.2.1,(a.2.2.2.2.2.2.1,(a.2.2.2.2.2.2.2.1,(a.2.2.2.2.2.2.2.2.1,(a.2.2.2.2.2.2.2.2.2.1,(a.2.2.2.2.2.2.2.2.2.2.1,(a.2.2.2.2.2.2.2.2.2.2.2.1,(a.2.2.2.2.2.2.2.2.2.2.2.2.1,(a.2.2.2.2.2.2.2.2.2.2.2.2.2.1,(d8,(d4,(d0,(c6,(c2,(b8,(b4,(b0,(a6,(a2,(Y,(y6,(a.2.2.2.2.2.2.2.2.2.2.2.2.2.2.2.2.2.2.2.2.2.2.2.2.2.2.1,(a.2.2.2.2.2.2.2.2.2.2.2.2.2.2.2.2.2.2.2.2.2.2.2.2.2.2.2.1,(a.2.2.2.2.2.2.2.2.2.2.2.2.2.2.2.2.2.2.2.2.2.2.2.2.2.2.2.2.1,(a.2.2.2.2.2.2.2.2.2.2.2.2.2.2.2.2.2.2.2.2.2.2.2.2.2.2.2.2.2.1,(U,(Q,(L,((ap F [(zk j 100)]),()))))))))))))))))))))))))))))))))))))) (some [(.agg [(.s .u8 y6),(.i .i64 (zf n 4).i),(.i .i64 (zf n 4).h)]),(aT .guest (⟨U,d8,d4,Q,L,⟨d0,c6,c2⟩,b8,⟨b4,b0,a6,a2⟩,Y,F⟩:Guest))])))) (0,((zO u 12).i,((zO u 12).h,(0,(0,(0,(0,(false,(0,(0,(0,(false,(0,(false,(w,(y,(e.Traps,(e.Post,(e.Open,(d.Pending,((zb5 r).Kind,((zb5 r).Page,((zb5 r).Write,((zb5 r).N,((zc1 u 12),(c.b,([],([],([],([],(d.Prog,(v,(x,(d.Seen,()))))))))))))))))))))))))))))))))))))) (oN (zcT r 12) (iter (σ:=(Int×(Int×(Int×(Int×(Int×(Int×(Int×(Bool×(Int×(Int×(Int×(Bool×(Int×(Bool×(Int×(Int×(Int×(Int×(Bool×(Int×(Int×(Int×(Bool×(Int×(Bool×((List Int)×(lI×(lS×(lS×((List Int)×(lI×(lS×(lS×((List Int)×Unit))))))))))))))))))))))))))))))))))) N (fun z a=>let d9:=a.2.2.2.2.2.2.2.2.2.2.2.2.2.2.1;let d5:=a.2.2.2.2.2.2.2.2.2.2.2.2.2.2.2.1;let d1:=a.2.2.2.2.2.2.2.2.2.2.2.2.2.2.2.2.1;let c7:=a.2.2.2.2.2.2.2.2.2.2.2.2.2.2.2.2.2.1;let c3:=a.2.2.2.2.2.2.2.2.2.2.2.2.2.2.2.2.2.2.1;let b9:=a.2.2.2.2.2.2.2.2.2.2.2.2.2.2.2.2.2.2.2.1;let b5:=a.2.2.2.2.2.2.2.2.2.2.2.2.2.2.2.2.2.2.2.2.1;let b1:=a.2.2.2.2.2.2.2.2.2.2.2.2.2.2.2.2.2.2.2.2.2.1;let a7:=a.2.2.2.2.2.2.2.2.2.2.2.2.2.2.2.2.2.2.2.2.2.2.1;let a3:=a.2.2.2.2.2.2.2.2.2.2.2.2.2.2.2.2.2.2.2.2.2.2.2.1;let Z:=a.2.2.2.2.2.2.2.2.2.2.2.2.2.2.2.2.2.2.2.2.2.2.2.2.1;let V:=a.2.2.2.2.2.2.2.2.2.2.2.2.2.2.2.2.2.2.2.2.2.2.2.2.2.2.2.2.2.2.1;let R:=a.2.2.2.2.2.2.2.2.2.2.2.2.2.2.2.2.2.2.2.2.2.2.2.2.2.2.2.2.2.2.2.1;let M:=a.2.2.2.2.2.2.2.2.2.2.2.2.2.2.2.2.2.2.2.2.2.2.2.2.2.2.2.2.2.2.2.2.1;let G:=a.2.2.2.2.2.2.2.2.2.2.2.2.2.2.2.2.2.2.2.2.2.2.2.2.2.2.2.2.2.2.2.2.2.1;let y7:=a.2.2.2.2.2.2.2.2.2.2.2.2.2.2.2.2.2.2.2.2.2.2.2.2.2.1;let p:=(⟨y7,a.2.1,a.2.2.1⟩:Cur);let k:=({ (zf p 4) with b:=y7}:Cur); (oN (zx p 4) (cond (ilt a.1 (zk p 4)) (oN (zx k 100) (oN (few (ln (ap G [(zk k 100)]))) (z ((zM .i64 a.1 1),((zf k 100).i,((zf k 100).h,(a.2.2.2.1,(a.2.2.2.2.1,(a.2.2.2.2.2.1,(a.2.2.2.2.2.2.1,(a.2.2.2.2.2.2.2.1,(a.2.2.2.2.2.2.2.2.1,(a.2.2.2.2.2.2.2.2.2.1,(a.2.2.2.2.2.2.2.2.2.2.1,(a.2.2.2.2.2.2.2.2.2.2.2.1,(a.2.2.2.2.2.2.2.2.2.2.2.2.1,(a.2.2.2.2.2.2.2.2.2.2.2.2.2.1,(d9,(d5,(d1,(c7,(c3,(b9,(b5,(b1,(a7,(a3,(Z,(y7,(a.2.2.2.2.2.2.2.2.2.2.2.2.2.2.2.2.2.2.2.2.2.2.2.2.2.2.1,(a.2.2.2.2.2.2.2.2.2.2.2.2.2.2.2.2.2.2.2.2.2.2.2.2.2.2.2.1,(a.2.2.2.2.2.2.2.2.2.2.2.2.2.2.2.2.2.2.2.2.2.2.2.2.2.2.2.2.1,(a.2.2.2.2.2.2.2.2.2.2.2.2.2.2.2.2.2.2.2.2.2.2.2.2.2.2.2.2.2.1,(V,(R,(M,((ap G [(zk k 100)]),()))))))))))))))))))))))))))))))))))))) (some [(.agg [(.s .u8 y7),(.i .i64 (zf p 4).i),(.i .i64 (zf p 4).h)]),(aT .guest (⟨V,d9,d5,R,M,⟨d1,c7,c3⟩,b9,⟨b5,b1,a7,a3⟩,Z,G⟩:Guest))])))) (0,((zO r 12).i,((zO r 12).h,(0,(0,(0,(0,(false,(0,(0,(0,(false,(0,(false,(w,(y,(e.Traps,(e.Post,(e.Open,(d.Pending,(d.Exit.Kind,(d.Exit.Page,(d.Exit.Write,(d.Exit.N,((zc1 r 12),(c.b,([],([],([],([],(d.Prog,(v,(x,(d.Seen,())))))))))))))))))))))))))))))))))))))))))))))))
def zQe:FuncId->Nat->Option Tmpl:=zq [(215,0,{n:=50,tm:=[(0,.lp 0 0),(2,.lp 1 0),(3,.lp 2 0),(4,ti)],lo:=[(0,[.sl 0 [],ti,ti]),(1,[.sl 1 [],ti,ti,.sl 2 [],.sl 3 [],ti,ti,.b,ti,ti,ti,.b,ti,.b,.sl 4 []]),(2,[.sl 5 [],ti,ti,.sl 6 [],.sl 7 [],ti,ti,.b,ti,ti,ti,.b,ti,.b,.sl 8 []])],ro:=[(0,.u8,false),(1,.ins,true),(2,.slot,true),(3,.slot,true),(4,.int,true),(5,.ins,true),(6,.slot,true),(7,.slot,true),(8,.int,true)]})]
def zmK (c:Cur)(s:Cur)(a:Guest):Prop:=(∃N,ztJ N c=some (AV.agg (zbS s)::[aT .guest a]))/\(s.b=c.b/\0<=s.i)/\(GuS a/\a.Seen.length<=4)
def zkV (c:Cur)  : Bool:=wC (zmK c)
def ziH (c:Cur)  : Cur:=wS (zmK c)
def zb1 (c:Cur)  : Guest:=wV (zmK c)
theorem zEQ {c:Cur}(h:zkV c=true):zmK c (ziH c) (zb1 c):=wG h
theorem zWG (c:Cur)  : 0<=(ziH c).i:=wP fun h=>h.2.1.2
theorem zWF (c:Cur)(h:∃N,Ends (wE (fun a=>aT .guest a) c.b fun a=>GuS a/\a.Seen.length<=4) (ztJ N c)):zkV c=true:=wI (fun _ _ h=>h) h
def zvU:zdy:=rP0 fun c=>(zkV c,ziH c,[aT .guest (zb1 c)])
theorem zJd:zbN Tryz.prog 215 [false,true,true] zvU:=hP0 zIr zU zWj zn zQe (fun _ h=>(zEQ h).1)
theorem zUw {c:Cur}(h:zbd c):zkV c=true:=by
 refine zWF c ⟨1002,?_⟩;unfold ztJ oN;conv=>zeta
 have f:=zD2 h;have j:=zJM (zrb f).2.2;have e:ziA (zbY c)=true:=zbg (by omega);have q:∀{s:Cur},0<=s.i->zbd {s with b:=c.b}:=fun g=>zbJ h g;have d:GuS ⟨zbY c,0,0,[],[],⟨0,0,false⟩,0,⟨0,0,false,0⟩,false,[]⟩:=⟨by dsimp only;omega,by simp,by simp,by simp⟩
 refine zu f (zu e (zu (zzh (q (zh8 _)) (by omega) (by omega) _) (zu (zzh (q (zg3 _ _ _)) (by omega) (by omega) _) (zu (zby (q (zg3 _ _ _)) _) (zu (zby (q (zD _ _)) _) (zu (z0q (q (zD _ _))) (zu (ziw (q (zAJ _)) _)
  (zbB (fun _=>zu (zby (q (zcg _ _)) _) (zu (ziw (q (zD _ _)) _) (zbB (fun _=>zu (zUz (q (zcg _ _))) (zu (ziw (q (zxx _)) _) ?_)) (fun _=>zu (ziw (q (zcg _ _)) _) ?_))))
   (fun _=>zu (ziw (q (zcg _ _)) _) (zbB (fun _=>zu (zUz (q (zcg _ _))) (zu (ziw (q (zxx _)) _) ?_)) (fun _=>zu (ziw (q (zcg _ _)) _) ?_)))))))))))
 .exact zFd h (zcg _ _) (P:=fun _=>True) (q:=4) (by omega) (by omega) (fc:=fun c=>zx c 100) (fs:=fun c=>zf c 100) (fv:=fun c=>zk c 100) (fun h=>zby h _) (fun c=>zD c _) (fun _=>trivial) (z:=0) (l0:=(zcn (zbY c)).Seen) (qZ 0) (by omega) (by simp) ((fun _ t=>(t.1,t.2.1,t.2.2.1,0,0,0,0,false,0,0,0,false,0,false,(zk ({ (zI ({ (zI ({ (zY c) with b:=c.b }:Cur) 4 8) with b:=c.b }:Cur) 4 8) with b:=c.b }:Cur) 100),(zk ({ (zf ({ (zI ({ (zI ({ (zY c) with b:=c.b }:Cur) 4 8) with b:=c.b }:Cur) 4 8) with b:=c.b }:Cur) 100) with b:=c.b }:Cur) 4),(zcw ({ (zf ({ (zf ({ (zI ({ (zI ({ (zY c) with b:=c.b }:Cur) 4 8) with b:=c.b }:Cur) 4 8) with b:=c.b }:Cur) 100) with b:=c.b }:Cur) 4) with b:=c.b }:Cur)).Traps,(zcw ({ (zf ({ (zf ({ (zI ({ (zI ({ (zY c) with b:=c.b }:Cur) 4 8) with b:=c.b }:Cur) 4 8) with b:=c.b }:Cur) 100) with b:=c.b }:Cur) 4) with b:=c.b }:Cur)).Post,(zcw ({ (zf ({ (zf ({ (zI ({ (zI ({ (zY c) with b:=c.b }:Cur) 4 8) with b:=c.b }:Cur) 4 8) with b:=c.b }:Cur) 100) with b:=c.b }:Cur) 4) with b:=c.b }:Cur)).Open,(zk ({ (zO ({ (zcd ({ (zf ({ (zf ({ (zI ({ (zI ({ (zY c) with b:=c.b }:Cur) 4 8) with b:=c.b }:Cur) 4 8) with b:=c.b }:Cur) 100) with b:=c.b }:Cur) 4) with b:=c.b }:Cur)) with b:=c.b }:Cur) 3) with b:=c.b }:Cur) 256),(zb5 ({ (zO ({ (zf ({ (zO ({ (zcd ({ (zf ({ (zf ({ (zI ({ (zI ({ (zY c) with b:=c.b }:Cur) 4 8) with b:=c.b }:Cur) 4 8) with b:=c.b }:Cur) 100) with b:=c.b }:Cur) 4) with b:=c.b }:Cur)) with b:=c.b }:Cur) 3) with b:=c.b }:Cur) 256) with b:=c.b }:Cur) 4) with b:=c.b }:Cur)).Kind,(zb5 ({ (zO ({ (zf ({ (zO ({ (zcd ({ (zf ({ (zf ({ (zI ({ (zI ({ (zY c) with b:=c.b }:Cur) 4 8) with b:=c.b }:Cur) 4 8) with b:=c.b }:Cur) 100) with b:=c.b }:Cur) 4) with b:=c.b }:Cur)) with b:=c.b }:Cur) 3) with b:=c.b }:Cur) 256) with b:=c.b }:Cur) 4) with b:=c.b }:Cur)).Page,(zb5 ({ (zO ({ (zf ({ (zO ({ (zcd ({ (zf ({ (zf ({ (zI ({ (zI ({ (zY c) with b:=c.b }:Cur) 4 8) with b:=c.b }:Cur) 4 8) with b:=c.b }:Cur) 100) with b:=c.b }:Cur) 4) with b:=c.b }:Cur)) with b:=c.b }:Cur) 3) with b:=c.b }:Cur) 256) with b:=c.b }:Cur) 4) with b:=c.b }:Cur)).Write,(zb5 ({ (zO ({ (zf ({ (zO ({ (zcd ({ (zf ({ (zf ({ (zI ({ (zI ({ (zY c) with b:=c.b }:Cur) 4 8) with b:=c.b }:Cur) 4 8) with b:=c.b }:Cur) 100) with b:=c.b }:Cur) 4) with b:=c.b }:Cur)) with b:=c.b }:Cur) 3) with b:=c.b }:Cur) 256) with b:=c.b }:Cur) 4) with b:=c.b }:Cur)).N,(zc1 ({ (zeW ({ (zO ({ (zf ({ (zO ({ (zcd ({ (zf ({ (zf ({ (zI ({ (zI ({ (zY c) with b:=c.b }:Cur) 4 8) with b:=c.b }:Cur) 4 8) with b:=c.b }:Cur) 100) with b:=c.b }:Cur) 4) with b:=c.b }:Cur)) with b:=c.b }:Cur) 3) with b:=c.b }:Cur) 256) with b:=c.b }:Cur) 4) with b:=c.b }:Cur)) with b:=c.b }:Cur) 12),c.b,[],[],[],[],(zcn (zbY c)).Prog,(zdi ({ (zY c) with b:=c.b }:Cur) 4 8),(zdi ({ (zI ({ (zY c) with b:=c.b }:Cur) 4 8) with b:=c.b }:Cur) 4 8),t.2.2.2,())):Nat->Int×Int×Int×List Int->_)
   (fun rec t i k l=>⟨_,rfl,fun a _=>⟨⟨_,_,_⟩,_,rfl,⟨rfl,zD _ _⟩,⟨⟨d.1,zEY (q (zh8 _)),zEY (q (zg3 _ _ _)),by unfold ln at a;dsimp only;omega⟩,by unfold ln at a;dsimp only;omega⟩⟩⟩)
 .exact zFd h (zcg _ _) (P:=fun _=>True) (q:=4) (by omega) (by omega) (fc:=fun c=>zx c 100) (fs:=fun c=>zf c 100) (fv:=fun c=>zk c 100) (fun h=>zby h _) (fun c=>zD c _) (fun _=>trivial) (z:=0) (l0:=(zcn (zbY c)).Seen) (qZ 0) (by omega) (by simp) ((fun _ t=>(t.1,t.2.1,t.2.2.1,0,0,0,0,false,0,0,0,false,0,false,(zk ({ (zI ({ (zI ({ (zY c) with b:=c.b }:Cur) 4 8) with b:=c.b }:Cur) 4 8) with b:=c.b }:Cur) 100),(zk ({ (zf ({ (zI ({ (zI ({ (zY c) with b:=c.b }:Cur) 4 8) with b:=c.b }:Cur) 4 8) with b:=c.b }:Cur) 100) with b:=c.b }:Cur) 4),(zcw ({ (zf ({ (zf ({ (zI ({ (zI ({ (zY c) with b:=c.b }:Cur) 4 8) with b:=c.b }:Cur) 4 8) with b:=c.b }:Cur) 100) with b:=c.b }:Cur) 4) with b:=c.b }:Cur)).Traps,(zcw ({ (zf ({ (zf ({ (zI ({ (zI ({ (zY c) with b:=c.b }:Cur) 4 8) with b:=c.b }:Cur) 4 8) with b:=c.b }:Cur) 100) with b:=c.b }:Cur) 4) with b:=c.b }:Cur)).Post,(zcw ({ (zf ({ (zf ({ (zI ({ (zI ({ (zY c) with b:=c.b }:Cur) 4 8) with b:=c.b }:Cur) 4 8) with b:=c.b }:Cur) 100) with b:=c.b }:Cur) 4) with b:=c.b }:Cur)).Open,(zk ({ (zO ({ (zcd ({ (zf ({ (zf ({ (zI ({ (zI ({ (zY c) with b:=c.b }:Cur) 4 8) with b:=c.b }:Cur) 4 8) with b:=c.b }:Cur) 100) with b:=c.b }:Cur) 4) with b:=c.b }:Cur)) with b:=c.b }:Cur) 3) with b:=c.b }:Cur) 256),(zcn (zbY c)).Exit.Kind,(zcn (zbY c)).Exit.Page,(zcn (zbY c)).Exit.Write,(zcn (zbY c)).Exit.N,(zc1 ({ (zO ({ (zf ({ (zO ({ (zcd ({ (zf ({ (zf ({ (zI ({ (zI ({ (zY c) with b:=c.b }:Cur) 4 8) with b:=c.b }:Cur) 4 8) with b:=c.b }:Cur) 100) with b:=c.b }:Cur) 4) with b:=c.b }:Cur)) with b:=c.b }:Cur) 3) with b:=c.b }:Cur) 256) with b:=c.b }:Cur) 4) with b:=c.b }:Cur) 12),c.b,[],[],[],[],(zcn (zbY c)).Prog,(zdi ({ (zY c) with b:=c.b }:Cur) 4 8),(zdi ({ (zI ({ (zY c) with b:=c.b }:Cur) 4 8) with b:=c.b }:Cur) 4 8),t.2.2.2,())):Nat->Int×Int×Int×List Int->_)
   (fun rec t i k l=>⟨_,rfl,fun a _=>⟨⟨_,_,_⟩,_,rfl,⟨rfl,zD _ _⟩,⟨⟨d.1,zEY (q (zh8 _)),zEY (q (zg3 _ _ _)),by unfold ln at a;dsimp only;omega⟩,by unfold ln at a;dsimp only;omega⟩⟩⟩)
 .exact zFd h (zcg _ _) (P:=fun _=>True) (q:=4) (by omega) (by omega) (fc:=fun c=>zx c 100) (fs:=fun c=>zf c 100) (fv:=fun c=>zk c 100) (fun h=>zby h _) (fun c=>zD c _) (fun _=>trivial) (z:=0) (l0:=(zcn (zbY c)).Seen) (qZ 0) (by omega) (by simp) ((fun _ t=>(t.1,t.2.1,t.2.2.1,0,0,0,0,false,0,0,0,false,0,false,(zk ({ (zI ({ (zI ({ (zY c) with b:=c.b }:Cur) 4 8) with b:=c.b }:Cur) 4 8) with b:=c.b }:Cur) 100),(zk ({ (zf ({ (zI ({ (zI ({ (zY c) with b:=c.b }:Cur) 4 8) with b:=c.b }:Cur) 4 8) with b:=c.b }:Cur) 100) with b:=c.b }:Cur) 4),(zcw ({ (zf ({ (zf ({ (zI ({ (zI ({ (zY c) with b:=c.b }:Cur) 4 8) with b:=c.b }:Cur) 4 8) with b:=c.b }:Cur) 100) with b:=c.b }:Cur) 4) with b:=c.b }:Cur)).Traps,(zcw ({ (zf ({ (zf ({ (zI ({ (zI ({ (zY c) with b:=c.b }:Cur) 4 8) with b:=c.b }:Cur) 4 8) with b:=c.b }:Cur) 100) with b:=c.b }:Cur) 4) with b:=c.b }:Cur)).Post,(zcw ({ (zf ({ (zf ({ (zI ({ (zI ({ (zY c) with b:=c.b }:Cur) 4 8) with b:=c.b }:Cur) 4 8) with b:=c.b }:Cur) 100) with b:=c.b }:Cur) 4) with b:=c.b }:Cur)).Open,(zcn (zbY c)).Pending,(zb5 ({ (zO ({ (zO ({ (zcd ({ (zf ({ (zf ({ (zI ({ (zI ({ (zY c) with b:=c.b }:Cur) 4 8) with b:=c.b }:Cur) 4 8) with b:=c.b }:Cur) 100) with b:=c.b }:Cur) 4) with b:=c.b }:Cur)) with b:=c.b }:Cur) 3) with b:=c.b }:Cur) 4) with b:=c.b }:Cur)).Kind,(zb5 ({ (zO ({ (zO ({ (zcd ({ (zf ({ (zf ({ (zI ({ (zI ({ (zY c) with b:=c.b }:Cur) 4 8) with b:=c.b }:Cur) 4 8) with b:=c.b }:Cur) 100) with b:=c.b }:Cur) 4) with b:=c.b }:Cur)) with b:=c.b }:Cur) 3) with b:=c.b }:Cur) 4) with b:=c.b }:Cur)).Page,(zb5 ({ (zO ({ (zO ({ (zcd ({ (zf ({ (zf ({ (zI ({ (zI ({ (zY c) with b:=c.b }:Cur) 4 8) with b:=c.b }:Cur) 4 8) with b:=c.b }:Cur) 100) with b:=c.b }:Cur) 4) with b:=c.b }:Cur)) with b:=c.b }:Cur) 3) with b:=c.b }:Cur) 4) with b:=c.b }:Cur)).Write,(zb5 ({ (zO ({ (zO ({ (zcd ({ (zf ({ (zf ({ (zI ({ (zI ({ (zY c) with b:=c.b }:Cur) 4 8) with b:=c.b }:Cur) 4 8) with b:=c.b }:Cur) 100) with b:=c.b }:Cur) 4) with b:=c.b }:Cur)) with b:=c.b }:Cur) 3) with b:=c.b }:Cur) 4) with b:=c.b }:Cur)).N,(zc1 ({ (zeW ({ (zO ({ (zO ({ (zcd ({ (zf ({ (zf ({ (zI ({ (zI ({ (zY c) with b:=c.b }:Cur) 4 8) with b:=c.b }:Cur) 4 8) with b:=c.b }:Cur) 100) with b:=c.b }:Cur) 4) with b:=c.b }:Cur)) with b:=c.b }:Cur) 3) with b:=c.b }:Cur) 4) with b:=c.b }:Cur)) with b:=c.b }:Cur) 12),c.b,[],[],[],[],(zcn (zbY c)).Prog,(zdi ({ (zY c) with b:=c.b }:Cur) 4 8),(zdi ({ (zI ({ (zY c) with b:=c.b }:Cur) 4 8) with b:=c.b }:Cur) 4 8),t.2.2.2,())):Nat->Int×Int×Int×List Int->_)
   (fun rec t i k l=>⟨_,rfl,fun a _=>⟨⟨_,_,_⟩,_,rfl,⟨rfl,zD _ _⟩,⟨⟨d.1,zEY (q (zh8 _)),zEY (q (zg3 _ _ _)),by unfold ln at a;dsimp only;omega⟩,by unfold ln at a;dsimp only;omega⟩⟩⟩)
 .exact zFd h (zcg _ _) (P:=fun _=>True) (q:=4) (by omega) (by omega) (fc:=fun c=>zx c 100) (fs:=fun c=>zf c 100) (fv:=fun c=>zk c 100) (fun h=>zby h _) (fun c=>zD c _) (fun _=>trivial) (z:=0) (l0:=(zcn (zbY c)).Seen) (qZ 0) (by omega) (by simp) ((fun _ t=>(t.1,t.2.1,t.2.2.1,0,0,0,0,false,0,0,0,false,0,false,(zk ({ (zI ({ (zI ({ (zY c) with b:=c.b }:Cur) 4 8) with b:=c.b }:Cur) 4 8) with b:=c.b }:Cur) 100),(zk ({ (zf ({ (zI ({ (zI ({ (zY c) with b:=c.b }:Cur) 4 8) with b:=c.b }:Cur) 4 8) with b:=c.b }:Cur) 100) with b:=c.b }:Cur) 4),(zcw ({ (zf ({ (zf ({ (zI ({ (zI ({ (zY c) with b:=c.b }:Cur) 4 8) with b:=c.b }:Cur) 4 8) with b:=c.b }:Cur) 100) with b:=c.b }:Cur) 4) with b:=c.b }:Cur)).Traps,(zcw ({ (zf ({ (zf ({ (zI ({ (zI ({ (zY c) with b:=c.b }:Cur) 4 8) with b:=c.b }:Cur) 4 8) with b:=c.b }:Cur) 100) with b:=c.b }:Cur) 4) with b:=c.b }:Cur)).Post,(zcw ({ (zf ({ (zf ({ (zI ({ (zI ({ (zY c) with b:=c.b }:Cur) 4 8) with b:=c.b }:Cur) 4 8) with b:=c.b }:Cur) 100) with b:=c.b }:Cur) 4) with b:=c.b }:Cur)).Open,(zcn (zbY c)).Pending,(zcn (zbY c)).Exit.Kind,(zcn (zbY c)).Exit.Page,(zcn (zbY c)).Exit.Write,(zcn (zbY c)).Exit.N,(zc1 ({ (zO ({ (zO ({ (zcd ({ (zf ({ (zf ({ (zI ({ (zI ({ (zY c) with b:=c.b }:Cur) 4 8) with b:=c.b }:Cur) 4 8) with b:=c.b }:Cur) 100) with b:=c.b }:Cur) 4) with b:=c.b }:Cur)) with b:=c.b }:Cur) 3) with b:=c.b }:Cur) 4) with b:=c.b }:Cur) 12),c.b,[],[],[],[],(zcn (zbY c)).Prog,(zdi ({ (zY c) with b:=c.b }:Cur) 4 8),(zdi ({ (zI ({ (zY c) with b:=c.b }:Cur) 4 8) with b:=c.b }:Cur) 4 8),t.2.2.2,())):Nat->Int×Int×Int×List Int->_)
   (fun rec t i k l=>⟨_,rfl,fun a _=>⟨⟨_,_,_⟩,_,rfl,⟨rfl,zD _ _⟩,⟨⟨d.1,zEY (q (zh8 _)),zEY (q (zg3 _ _ _)),by unfold ln at a;dsimp only;omega⟩,by unfold ln at a;dsimp only;omega⟩⟩⟩)
def z9p:zcU:=[(215,([false,true,true],zvU))]++z9o
theorem zJJ:zb2 z9p:=zcu zWj (by
 intro x a;simp only[qG,qO,or_false]at a;rcases a with rfl
 .exact zJd)
def zzu (N:Nat)(c:Cur)  : OA :=
 let e:=(zb1 c);let B:=({ (ziH c) with b:=c.b}:Cur);let f:=(zf B 14);let j:=(zk B 14);let d:=({f with b:=c.b}:Cur);let g:=(zf7 d 4 8);let p:=(zba d [(-1),12,13,9223372036854775807]); (oN (zkV c) (oN (zx B 14) (cond (ieq j 0) (oN (ziF d) (some [(.agg [(.s .u8 c.b),(.i .i64 (ziG d).i),(.i .i64 (ziG d).h)]),(aT .guest ({e with Prog:=(zoZ d)}:Guest))])) (cond (ieq j 1) (oN (zbp d [(-1),100]) (some [(.agg [(.s .u8 c.b),(.i .i64 (zba d [(-1),100]).i),(.i .i64 (zba d [(-1),100]).h)]),(aT .guest ({e with A:=(zbk d [(-1),100])}:Guest))])) (cond (ieq j 2) (oN (zbp d [(-1),12,13,9223372036854775807]) (some [(.agg [(.s .u8 c.b),(.i .i64 p.i),(.i .i64 p.h)]),(aT .guest ({e with Pc:=(zbk d [(-1),12,13,9223372036854775807])}:Guest))])) (cond (ieq j 3) (oN (zff d 4 8) (some [(.agg [(.s .u8 c.b),(.i .i64 g.i),(.i .i64 g.h)]),(aT .guest ({e with Live:=(zey d 4 8)}:Guest))])) (cond (ieq j 4) (oN (zo1 d) (some [(.agg [(.s .u8 c.b),(.i .i64 (zo2 d).i),(.i .i64 (zo2 d).h)]),(aT .guest ({e with Ctl:=(zAI d)}:Guest))])) (cond (ieq j 5) (oN (zmn d) (some [(.agg [(.s .u8 c.b),(.i .i64 (zmo d).i),(.i .i64 (zmo d).h)]),(aT .guest ({e with Pending:=(zwL d)}:Guest))])) (cond (ieq j 6) (oN (zo3 d) (some [(.agg [(.s .u8 c.b),(.i .i64 (zo4 d).i),(.i .i64 (zo4 d).h)]),(aT .guest ({e with Exit:=(zAK d)}:Guest))])) (cond (ieq j 7) (iter (σ:=(Int×(Int×(Int×(Int×(Int×(Int×(Bool×(Int×(Int×(Int×(Bool×(Int×(Bool×(Int×(Int×(Int×(Int×(Bool×(Int×(Int×(Int×(Bool×(Int×(Bool×((List Int)×(lI×(lS×(lS×((List Int)×(lI×(lS×(lS×((List Int)×Unit)))))))))))))))))))))))))))))))))) N (fun G a=>let y:=a.2.2.2.2.2.2.2.2.2.2.2.2.2.1;let x:=a.2.2.2.2.2.2.2.2.2.2.2.2.2.2.1;let w:=a.2.2.2.2.2.2.2.2.2.2.2.2.2.2.2.1;let v:=a.2.2.2.2.2.2.2.2.2.2.2.2.2.2.2.2.1;let u:=a.2.2.2.2.2.2.2.2.2.2.2.2.2.2.2.2.2.1;let t:=a.2.2.2.2.2.2.2.2.2.2.2.2.2.2.2.2.2.2.1;let r:=a.2.2.2.2.2.2.2.2.2.2.2.2.2.2.2.2.2.2.2.1;let q:=a.2.2.2.2.2.2.2.2.2.2.2.2.2.2.2.2.2.2.2.2.1;let n:=a.2.2.2.2.2.2.2.2.2.2.2.2.2.2.2.2.2.2.2.2.2.1;let m:=a.2.2.2.2.2.2.2.2.2.2.2.2.2.2.2.2.2.2.2.2.2.2.1;let l:=a.2.2.2.2.2.2.2.2.2.2.2.2.2.2.2.2.2.2.2.2.2.2.2.1;let F:=a.2.2.2.2.2.2.2.2.2.2.2.2.2.2.2.2.2.2.2.2.2.2.2.2.2.2.2.2.2.1;let E:=a.2.2.2.2.2.2.2.2.2.2.2.2.2.2.2.2.2.2.2.2.2.2.2.2.2.2.2.2.2.2.1;let D:=a.2.2.2.2.2.2.2.2.2.2.2.2.2.2.2.2.2.2.2.2.2.2.2.2.2.2.2.2.2.2.2.1;let C:=a.2.2.2.2.2.2.2.2.2.2.2.2.2.2.2.2.2.2.2.2.2.2.2.2.1;let z:=a.2.2.2.2.2.2.2.2.2.2.2.2.2.2.2.2.2.2.2.2.2.2.2.2.2.2.2.2.2.2.2.2.1;let k:=(⟨C,a.1,a.2.1⟩:Cur); (oN (zx k 3) (cond (ilt (ln z) (zM .i64 39 (zk k 3))) (oN (few (ln (ap z [1]))) (G ((zf k 3).i,((zf k 3).h,(a.2.2.1,(a.2.2.2.1,(a.2.2.2.2.1,(a.2.2.2.2.2.1,(a.2.2.2.2.2.2.1,(a.2.2.2.2.2.2.2.1,(a.2.2.2.2.2.2.2.2.1,(a.2.2.2.2.2.2.2.2.2.1,(a.2.2.2.2.2.2.2.2.2.2.1,(a.2.2.2.2.2.2.2.2.2.2.2.1,(a.2.2.2.2.2.2.2.2.2.2.2.2.1,(y,(x,(w,(v,(u,(t,(r,(q,(n,(m,(l,(C,(a.2.2.2.2.2.2.2.2.2.2.2.2.2.2.2.2.2.2.2.2.2.2.2.2.2.1,(a.2.2.2.2.2.2.2.2.2.2.2.2.2.2.2.2.2.2.2.2.2.2.2.2.2.2.1,(a.2.2.2.2.2.2.2.2.2.2.2.2.2.2.2.2.2.2.2.2.2.2.2.2.2.2.2.1,(a.2.2.2.2.2.2.2.2.2.2.2.2.2.2.2.2.2.2.2.2.2.2.2.2.2.2.2.2.1,(F,(E,(D,((ap z [1]),()))))))))))))))))))))))))))))))))))) (some [(.agg [(.s .u8 C),(.i .i64 (zf k 3).i),(.i .i64 (zf k 3).h)]),(aT .guest (⟨F,y,x,E,D,⟨w,v,u⟩,t,⟨r,q,n,m⟩,l,z⟩:Guest))])))) (f.i,(f.h,(0,(0,(0,(0,(false,(0,(0,(0,(false,(0,(false,(e.A,(e.Pc,(e.Ctl.Traps,(e.Ctl.Post,(e.Ctl.Open,(e.Pending,(e.Exit.Kind,(e.Exit.Page,(e.Exit.Write,(e.Exit.N,(e.Halted,(c.b,([],([],([],([],(e.Prog,(e.Written,(e.Live,(e.Seen,())))))))))))))))))))))))))))))))))) (cond (ieq j 8) (oN (zff d 4 8) (some [(.agg [(.s .u8 c.b),(.i .i64 g.i),(.i .i64 g.h)]),(aT .guest ({e with Written:=(zey d 4 8)}:Guest))])) (some [(.agg [(.s .u8 c.b),(.i .i64 f.i),(.i .i64 f.h)]),(aT .guest e)]))))))))))))
def zXm:FuncId->Nat->Option Tmpl:=zq [(139,1,{n:=65,tm:=[(0,.lp 0 0),(2,.lp 1 0),(3,.lp 2 0)],lo:=[(0,[.sl 0 [],ti,ti]),(1,[.sl 1 [],ti,ti,.sl 2 [],.sl 3 [],ti,ti,.b,ti,ti,ti,.b,ti,.b,.sl 4 []]),(2,[.sl 5 [],ti,ti,.sl 6 [],.sl 7 [],ti,ti,.b,ti,ti,ti,.b,ti,.b,.sl 8 []])],ro:=[(0,.u8,false),(1,.ins,true),(2,.slot,true),(3,.slot,true),(4,.int,true),(5,.ins,true),(6,.slot,true),(7,.slot,true),(8,.int,true)]})]
def zrg (c:Cur)(s:Cur)(a:Guest):Prop:=(∃N,zzu N c=some (AV.agg (zbS s)::[aT .guest a]))/\(s.b=c.b/\0<=s.i)/\(GuS a)
def zo7 (c:Cur)  : Bool:=wC (zrg c)
def zo8 (c:Cur)  : Cur:=wS (zrg c)
def zAL (c:Cur)  : Guest:=wV (zrg c)
theorem zM6 {c:Cur}(h:zo7 c=true):zrg c (zo8 c) (zAL c):=wG h
theorem z1N (c:Cur)  : 0<=(zo8 c).i:=wP fun h=>h.2.1.2
theorem z1M (c:Cur)(h:∃N,Ends (wE (fun a=>aT .guest a) c.b fun a=>GuS a) (zzu N c)):zo7 c=true:=wI (fun _ _ h=>h) h
def zBx:zdy:=rP0 fun c=>(zo7 c,zo8 c,[aT .guest (zAL c)])
theorem zOH:zbN Tryz.prog 139 [false,true,true] zBx:=hP0 zIr zU zJJ zn zXm (fun _ h=>(zM6 h).1)
theorem zKQ {c:Cur}(h:zbd c):zo7 c=true:=by
 refine z1M c ⟨1002,?_⟩;unfold zzu oN;conv=>zeta
 have q:∀{s:Cur},0<=s.i->zbd {s with b:=c.b}:=fun r=>zbJ h r;have a:zbd {zf {ziH c with b:=c.b} 14 with b:=c.b}:=q (zD _ _);obtain⟨⟨d,e,f,g⟩,w⟩:=(zEQ (zUw h)).2.2;have p:(zey {zf {ziH c with b:=c.b} 14 with b:=c.b} 4 8).length<=4:=by have:=((zoQ (znH a (n:=4) (by omega) (by omega) 8)).2.2 (by omega) (by omega)).1;unfold ln at this;omega
 have j:=(zzc (zQK a)).2.2;refine zu (zUw h) (zu (zby (q (zWG _)) _) (zbB (fun _=>zu (zQK a) (zbH (aT .guest) (v:={zb1 c with Prog:=zoZ _}) (zPS _) ⟨j,e,f,g⟩))
  (fun _=>zbB (fun _=>zu (zeb a (by simp)) (zbH (aT .guest) (v:={zb1 c with A:=zbk _ _}) (zbT _ _) ⟨d,e,f,g⟩))
  (fun _=>zbB (fun _=>zu (zeb a (by simp)) (zbH (aT .guest) (v:={zb1 c with Pc:=zbk _ _}) (zbT _ _) ⟨d,e,f,g⟩))
  (fun _=>zbB (fun _=>zu (znH a (by omega) (by omega) _) (zbH (aT .guest) (v:={zb1 c with Live:=zey _ _ _}) (zoR _ _ _) ⟨d,e,p,g⟩))
  (fun _=>zbB (fun _=>zu (z5j a) (zbH (aT .guest) (v:={zb1 c with Ctl:=zAI _}) (z1G _) ⟨d,e,f,g⟩))
  (fun _=>zbB (fun _=>zu (zbbU a) (zbH (aT .guest) (v:={zb1 c with Pending:=zwL _}) (zYK _) ⟨d,e,f,g⟩))
  (fun _=>zbB (fun _=>zu (z2q a) (zbH (aT .guest) (v:={zb1 c with Exit:=zAK _}) (z1L _) ⟨d,e,f,g⟩))
  (fun _=>zbB (fun _=>?_)
  (fun _=>zbB (fun _=>zu (znH a (by omega) (by omega) _) (zbH (aT .guest) (v:={zb1 c with Written:=zey _ _ _}) (zoR _ _ _) ⟨d,p,f,g⟩))
  (fun _=>zbH (aT .guest) (v:=zb1 c) (zD _ _) ⟨d,e,f,g⟩)))))))))))
 exact zbbH h (zD _ _) (m:=39) (q:=3) (x:=1) (by omega) (by omega) (by omega) (l0:=(zb1 c).Seen) (by unfold ln;omega) ((fun _ t=>(t.1,t.2.1,0,0,0,0,false,0,0,0,false,0,false,(zb1 c).A,(zb1 c).Pc,(zb1 c).Ctl.Traps,(zb1 c).Ctl.Post,(zb1 c).Ctl.Open,(zb1 c).Pending,(zb1 c).Exit.Kind,(zb1 c).Exit.Page,(zb1 c).Exit.Write,(zb1 c).Exit.N,(zb1 c).Halted,c.b,[],[],[],[],(zb1 c).Prog,(zb1 c).Written,(zb1 c).Live,t.2.2,())):Nat->Int×Int×List Int->_)
  (fun rec i k l=>⟨_,rfl,fun u=>⟨⟨_,_,_⟩,_,rfl,⟨rfl,zD _ _⟩,⟨d,e,f,by unfold ln at u;dsimp only;omega⟩⟩⟩)
theorem zbaO (b:List Entry)(e:Entry)(h:b.length<=1048576):(zpQ b e).length<=6:=by have c:=(zAu e h).2;unfold zpQ;generalize ap (zcD b e.Tag e.Page) [e]=l at c;cases a:igt (ln l) 6 with|false=>have:¬ ln l>6:=jW a;rw[cF];unfold ln at this;omega|true=>rw[cT,zzn (by unfold ln;omega) (by unfold ln;omega)];have:ln l>6:=qE a;simp only[dp,vJ];unfold ln at *;omega
def zr4 (N:Nat)(c:Cur)  : OA :=
 (iter (σ:=(Int×(Int×(Int×(lE×((List Int)×Unit)))))) N (fun l d=>let e:=d.2.2.2.2.1;let j:=(⟨e,d.2.1,d.2.2.1⟩:Cur);let a:=({ (zf j 9) with b:=e}:Cur);let g:=({ (zO a 8) with b:=e}:Cur);let f:=({ (zfZ g) with b:=e}:Cur);let k:=(ap d.2.2.2.1 [(zlG g),(zlG f)]); (oN (zx j 9) (cond (ilt d.1 (zk j 9)) (oN (zg4 a) (oN (zkO d.2.2.2.1 (zlG a)) (l ((zM .i64 d.1 1),((zfZ a).i,((zfZ a).h,((zlA d.2.2.2.1 (zlG a)),(e,())))))))) (oN (zcT a 8) (cond (zc1 a 8) (oN (zg4 g) (oN (zg4 f) (oN (few (ln k)) (some [(.agg [(.s .u8 e),(.i .i64 (zfZ f).i),(.i .i64 (zfZ f).h)]),(aS .entry k)])))) (some [(.agg [(.s .u8 e),(.i .i64 (zO a 8).i),(.i .i64 (zO a 8).h)]),(aS .entry d.2.2.2.1)])))))) (0,(c.i,(c.h,([],(c.b,()))))))
def zNE:FuncId->Nat->Option Tmpl:=zq [(140,0,{n:=26,tm:=[(0,.lp 0 0),(3,.sl 0 []),(4,ti)],lo:=[(0,[.sl 1 [],ti,ti])],ro:=[(0,.entry,true),(1,.u8,false)]})]
def zlF (c:Cur)(s:Cur)(a:List Entry):Prop:=(∃N,zr4 N c=some (AV.agg (zbS s)::[aS .entry a]))/\(s.b=c.b/\0<=s.i)/\(a.length<=8)
def zjI (c:Cur)  : Bool:=wC (zlF c)
def zjJ (c:Cur)  : Cur:=wS (zlF c)
def zq9 (c:Cur)  : List Entry:=wV (zlF c)
theorem zCd {c:Cur}(h:zjI c=true):zlF c (zjJ c) (zq9 c):=wG h
theorem zS5 (c:Cur)  : 0<=(zjJ c).i:=wP fun h=>h.2.1.2
theorem zS4 (c:Cur)(h:∃N,Ends (wE (fun a=>aS .entry a) c.b fun a=>a.length<=8) (zr4 N c)):zjI c=true:=wI (fun _ _ h=>h) h
def zuk:zdy:=rP0 fun c=>(zjI c,zjJ c,[aS .entry (zq9 c)])
theorem zGc:zbN Tryz.prog 140 [false,true,true] zuk:=hP0 zIr zU zJJ zn zNE (fun _ h=>(zCd h).1)
theorem zT0 {c:Cur}(h:zbd c):zjI c=true:=by
 refine zS4 c ⟨1002,?_⟩;unfold zr4 oN;conv=>zeta
 refine zlV (fun n s=>∃t i k l,s=(((fun _ t=>(t.1,t.2.1,t.2.2.1,t.2.2.2,c.b,())):Nat->Int×Int×Int×List Entry->_) 0 (t,i,k,l))/\t+(n:Int)=10/\0<=t/\0<=i/\l.length<=6) ?_ 1002 10 _ ⟨0,c.i,c.h,[],rfl,rfl,kS 0,h.1,by simp⟩ (by omega);rintro n s rec ⟨t,i,k,l,rfl,p,g,j,r⟩ d;dsimp only;have a:zbd ⟨c.b,i,k⟩:=zbJ h j;have v:=zfu a (n:=9) (by omega);have q:∀{s:Cur},0<=s.i->zbd {s with b:=c.b}:=fun f=>zbJ h f;refine zu (zby a 9) (zbB (fun e=>?_) (fun e=>?_));{have m:t<zk ⟨c.b,i,k⟩ 9:=qE e;have u:=zgR (y:=1) g (by omega) (by omega) (by omega);exact zu (zNX (q (zD _ _))) (zu (zbg (by omega)) (d (n-1) _ (by omega) ⟨zM .i64 t 1,_,_,_,rfl,by omega,by omega,zuT _,zbaO _ _ (by omega)⟩))};{refine zu (ziw (q (zD _ _)) 8) (zbB (fun _=>zu (zNX (q (zcg _ _))) (zu (zNX (q (zuT _))) (zu (zkp ?_) (zbH (aS .entry) (zuT _) ?_)))) (fun _=>zbH (aS .entry) (zcg _ _) (by omega)));{simp only [ln,ap,kA,qY,uJ];omega};{simp only [ap,kA,qY,uJ];omega}}
def z9q:zcU:=[(139,([false,true,true],zBx)),(140,([false,true,true],zuk))]++z9p
theorem zWk:zb2 z9q:=zcu zJJ (by
 intro x a;simp only[qG,qO,or_false]at a;rcases a with rfl|rfl
 .exact zOH
 .exact zGc)
def zKR (b:Bare)(a:GAct):Bare:=bif ieq a.Kind 1 then zhT b a.G else (cond (ieq a.Kind 2) (chg b a.G (zsE a.X ⟨a.Y,a.Z⟩) (zAP (gAt b a.G) a.X ⟨a.Y,a.Z⟩)) (cond (ieq a.Kind 3) (chg b a.G (hasB a.X 4) (zdI (gAt b a.G) a.X)) (cond (ieq a.Kind 4) (chg b a.G (zr9 (gAt b a.G) a.X) (zw6 (gAt b a.G) a.X)) (cond (ieq a.Kind 5) (chg b a.G (zxg (gAt b a.G)) (zxh (gAt b a.G))) (cond (ieq a.Kind 6) (chg b a.G (zfU (gAt b a.G).Pending a.X) (zmV (gAt b a.G) a.X)) (cond (ieq a.Kind 7) (chg b a.G (zg7 ⟨a.X,a.Y,ieq a.Z 1⟩) (zIn (gAt b a.G) ⟨a.X,a.Y,ieq a.Z 1⟩)) (cond (ieq a.Kind 8) (zTy b a.X a.Y a.Z) (cond (ieq a.Kind 9) (zja b a.X) (cond (ieq a.Kind 10) (zlM b) (cond (ieq a.Kind 11) (z0G b a.G a.X a.Y) (b)))))))))))
def zKS (b:Bare)(a:GAct):Told:=bif ieq a.Kind 1 then ⟨zk3 b a.G,0⟩ else (cond (ieq a.Kind 2) ⟨zbZ b a.G (zsE a.X ⟨a.Y,a.Z⟩),0⟩ (cond (ieq a.Kind 3) ⟨zbZ b a.G (hasB a.X 4),0⟩ (cond (ieq a.Kind 4) ⟨zbZ b a.G (zr9 (gAt b a.G) a.X),0⟩ (cond (ieq a.Kind 5) ⟨zbZ b a.G (zxg (gAt b a.G)),0⟩ (cond (ieq a.Kind 6) ⟨zbZ b a.G (zfU (gAt b a.G).Pending a.X),0⟩ (cond (ieq a.Kind 7) ⟨zbZ b a.G (zg7 ⟨a.X,a.Y,ieq a.Z 1⟩),0⟩ (cond (ieq a.Kind 8) ⟨zyq b a.X a.Y a.Z,0⟩ (cond (ieq a.Kind 9) ⟨zeK b a.X,0⟩ (cond (ieq a.Kind 10) ⟨zk1 b,zr8 b⟩ (cond (ieq a.Kind 11) ⟨zzQ b a.G a.X a.Y,0⟩ (⟨znP b a.G a.X 1,zTC b a.G a.X⟩)))))))))))
def zKT (l:List Bare)(a:GAct):List Bare:=bif win a.Kind 1 17 then (cond (win a.Kind 13 17) l (cond (hasB a.M (ln l)) (up l a.M (zKR (ix l a.M zNL) a)) l)) else l
def z0h (l:List Bare)(a:GAct):Told:=bif win a.Kind 1 17 then (cond (win a.Kind 13 17) ⟨false,0⟩ (cond (hasB a.M (ln l)) (zKS (ix l a.M zNL) a) (cond (ieq a.Kind 10) ⟨false,-1⟩ ⟨false,0⟩))) else ⟨false,0⟩
theorem zF {i n:Int}:hasB i n=true↔0<=i/\i<n:=by unfold hasB;exact decide_eq_true_iff
theorem zcG {x a b:Int}:win x a b=true↔a<=x/\x<=b:=by simp[win,ige,ile]
theorem zbr {x y:Int}:ieq x y=true↔x=y:=by simp[ieq]
theorem zFq {x y:Int}:ine x y=true↔x≠y:=by simp[ine]
theorem zbV {x y:Int}:ieq x y=false↔x≠y:=by simp[ieq]
theorem zb9 {a b:Bool}:(cond a b false)=true↔a=true/\b=true:=by cases a<;>simp
theorem zbM {a:Type}(l:List a)(i:Int)(x:a):(up l i x).length=l.length:=by simp[up]
theorem zdz {a:Type}(l:List a)(i:Int)(x:a):ln (up l i x)=ln l:=by simp[up,ln]
theorem zAg {a:Type}{l:List a}{i:Int}(h:hasB i (ln l)=true)(d:a):∃k:Nat,∃b:k<l.length,i=(k:Int)/\ix l i d=l[k]:=by rw[zF]at h;unfold ln at h;refine⟨i.toNat,by omega,by omega,?_⟩;simp[ix,List.getD,qB (show i.toNat<l.length by omega)]
theorem zl0 {a:Type}{l:List a}{k:Nat}(h:k<l.length)(d:a):ix l (k:Int) d=l[k]:=by simp[ix,List.getD,qB h]
theorem zlc {a:Type}{l:List a}{i:Int}(h:hasB i (ln l)=true)(d:a):ix l i d∈l:=by obtain⟨k,b,_,e⟩:=zAg h d;rw[e];exact jG b
theorem zVX {a:Type}{l:List a}{x:a}(h:x∈l)(d:a):∃i,hasB i (ln l)=true/\ix l i d=x:=by obtain⟨k,b,e⟩:=List.mem_iff_getElem.1 h;exact⟨(k:Int),zF.2 (by unfold ln;omega),(zl0 b d).trans e⟩
theorem zbf {a:Type}{l:List a}{i:Int}(h:hasB i (ln l)=true)(x d:a):ix (up l i x) i d=x:=by rw[zF]at h;unfold ln at h;simp[ix,up,List.getD,show i.toNat<l.length by omega]
theorem zbt {a:Type}{l:List a}{i j:Int}(b:0<=i)(c:0<=j)(h:i≠j)(x d:a):ix (up l i x) j d=ix l j d:=by have:i.toNat≠j.toNat:=(by omega);simp[ix,up,List.getD,q9,this]
theorem z5b {a:Type}(l:List a)(i:Int)(x y:a):up (up l i x) i y=up l i y:=by simp[up]
theorem zPu {a:Type}{l m:List a}(d:a)(h:l.length=m.length)(e:∀i,hasB i (ln l)=true->ix l i d=ix m i d):l=m:=by refine List.ext_getElem h fun k b c=>?_;have:=e (k:Int) (zF.2 (by unfold ln;omega));rwa [zl0 b,zl0 c] at this
theorem zJ4 {a:Type}{l:List a}{i:Int}(h:hasB i (ln l)=true)(d:a):up l i (ix l i d)=l:=by obtain⟨k,b,rfl,e⟩:=zAg h d;rw[e];simp[up]
def cPg (x:Mon)(q:Int):Nat:=x.Outer.countP fun s=>ieq s.Page q
def zeR (l:List Mon)(q:Int):Nat:=(l.map fun x=>cPg x q).sum
theorem zQR {a:Type}(P:a->Bool){l:List a}{i:Int}(h:hasB i (ln l)=true)(x d:a):(up l i x).countP P+(if P (ix l i d) then 1 else 0)=l.countP P+(if P x then 1 else 0):=by
 obtain⟨k,b,rfl,e⟩:=zAg h d;rw[e];simp only[up,kD,List.countP_set b];have:(if P l[k]=true then 1 else 0)<=l.countP P:=by
  split
  .rename_i hp;exact List.countP_pos_iff.2 ⟨l[k],jG b,hp⟩
  .omega
 omega
theorem zzg {l:List Mon}{m:Int}(h:hasB m (ln l)=true)(x:Mon)(q:Int):zeR (up l m x) q+cPg (ix l m mZ) q=zeR l q+cPg x q:=by obtain⟨k,a,rfl,e⟩:=zAg h mZ;rw[e];clear h e;unfold up;simp only[kD];induction l generalizing k with|nil=>simp at a|cons y l b=>(cases k with|zero=>simp[zeR];omega|succ k=>have:=b k (by simpa using a);simp[zeR] at this ⊢;omega)
theorem zIj {l:List Mon}{m p:Int}(a:hasB m (ln l)=true)(b:hasB p (ln (ix l m mZ).Outer)=true):1<=zeR l (ix (ix l m mZ).Outer p sZ).Page:=by have d:1<=cPg (ix l m mZ) (ix (ix l m mZ).Outer p sZ).Page:=List.countP_pos_iff.2 ⟨_,zlc b sZ,by simp[ieq]⟩;have:=zzg a (⟨[],[],[],[],[],0,0,[],0⟩:Mon) (ix (ix l m mZ).Outer p sZ).Page;have c:cPg (⟨[],[],[],[],[],0,0,[],0⟩:Mon) (ix (ix l m mZ).Outer p sZ).Page=0:=rfl;omega
theorem z5o {l:List Mon}{m p n k:Int}{q:Int}(b:hasB m (ln l)=true)(v:hasB p (ln (ix l m mZ).Outer)=true)(u:hasB n (ln l)=true)(f:hasB k (ln (ix l n mZ).Outer)=true)(z:(ix (ix l m mZ).Outer p sZ).Page=q)(t:(ix (ix l n mZ).Outer k sZ).Page=q)(h:zeR l q<=1):m=n/\p=k:=by have c:=zF.1 b;have d:=zF.1 u;have i:=zF.1 v;have g:=zF.1 f;have B:¬ ieq q (q+1)=true:=(by simp[ieq];omega);obtain⟨y,r⟩:∃y:Mon,y.Outer=up (ix l m mZ).Outer p ⟨q+1,0⟩:=⟨{ix l m mZ with Outer:=up (ix l m mZ).Outer p ⟨q+1,0⟩},rfl⟩;have x:=zQR (fun s=>ieq s.Page q) v (⟨q+1,0⟩:Slot) sZ;simp only[z,show ieq q q=true by simp[ieq],show ieq (q+1) q=false by simp[ieq];omega,if_true,kB,if_false] at x;have C:=zzg b y q;simp only[cPg,r] at C;have D:zeR (up l m y) q=0:=(by omega);apply Classical.byContradiction;intro A;have w:1<=zeR (up l m y) q:=(by by_cases a:m=n;{subst a;have j:p≠k:=fun e=>A ⟨rfl,e⟩;have:=zIj (l:=up l m y) (m:=m) (p:=k) (by rw[zdz];exact b) (by rw[zbf b,r,zdz];exact f);rw[zbf b,r,zbt i.1 g.1 j,t] at this;exact this};{have:=zIj (l:=up l m y) (m:=n) (p:=k) (by rw[zdz];exact u) (by rw[zbt c.1 d.1 a];exact f);rw[zbt c.1 d.1 a,t] at this;exact this});omega
theorem ztM {a b c:Bool}:(cond a b c)=true↔(a=true/\b=true)\/(a=false/\c=true):=by cases a<;>simp
def SOk (s:Slot):Prop:=s=noSlot\/(0<=s.Page/\s.Page<=11/\1<=s.Rights/\s.Rights<=3)
theorem zWN {a b:Slot}(c:a.Page=b.Page)(d:a.Rights=b.Rights):a=b:=by cases a;cases b;simp_all
theorem zpe {a b:Slot}:zcV a b=true↔a=b:=by simp only[zcV,qD,zbr];exact⟨fun h=>zWN h.1 h.2,fun h=>by rw[h];exact⟨rfl,rfl⟩⟩
theorem zrZ {a b:Slot}:zcV a b=false↔a≠b:=by rw[<- Bool.not_eq_true,zpe]
theorem zZN {s:Slot}:zdw s 12=true↔SOk s:=by unfold zdw SOk;rw[ztM,zpe,zrZ];have:wsub .i64 12 1=11:=(by decide);simp only[this,ztM,zcG];simp[igt];constructor;{rintro (h|⟨h,⟨a,b⟩,c⟩);{exact .inl h};{exact .inr ⟨a,b,c⟩}};{intro h;by_cases d:s=noSlot;{exact .inl d};{rcases h with h|⟨a,b,c⟩;{exact .inl h};{exact .inr ⟨d,⟨a,b⟩,c⟩}}}
theorem SOk.none {s:Slot}(h:SOk s)(a:s.Page = -1):s=noSlot:=by rcases h with h|h;{exact h};{omega}
theorem SOk.pos {s:Slot}(h:SOk s)(a:s.Page≠-1):0<=s.Page/\s.Page<=11/\1<=s.Rights/\s.Rights<=3:=by rcases h with h|h;{rw [h]at a;exact absurd rfl a};{exact h}
structure MOk (x:Mon):Prop where
 g1:1<=x.Guests.length
 g2:x.Guests.length<=2
 gt:x.Tables.length=x.Guests.length
 o8:x.Outer.length=8
 sl:∀s∈x.Outer,SOk s
 u8:x.Out.length=8
 d8:x.Dirty.length=8
 outs:x.Outs.length<=40
 pend:zc3 x.Pending=true
 tr:win x.Traps 0 3=true
 own:win x.Own 0 1000000000=true
 gs:∀g∈x.Guests,zde g=true
 fit:∀p,hasB p 8=true->zlh (ix x.Outer p sZ) (ix x.Out p [])=true
theorem zTS {P:Nat->Bool}:∀{n i:Nat},znG P n i=true↔∀j,i<=j->j<i+n->P j=true
 | 0,i=>by simp[znG];intro j a b;omega
 |n+1,i=>by rw[znG,qD,zTS];constructor;{rintro⟨a,b⟩ j c d;by_cases e:j=i;{rw [e];exact a};{exact b j (by omega) (by omega)}};{intro h;exact⟨h i (by omega) (by omega),fun j a b=>h j (by omega) (by omega)⟩}
theorem zro {t:List Slot}{n p:Int}:zcS t n p=true↔(∀s∈t,zdw s p=true)/\ln t=n:=by unfold zcS;rw[zb9,qM,zbr]
theorem zbaz {x:Mon}:zdP x=true↔MOk x:=by unfold zdP;simp only[zb9,zcG,zbr,zro,zTS,qM,ile,q0];constructor;{rintro⟨⟨g,i⟩,m,⟨k,l⟩,n,q,r,e,a,b,c,d⟩;unfold ln at *;refine⟨by omega,by omega,by omega,by omega,fun s f=>zZN.1 (k s f),by omega,by omega,by omega,e,zcG.2 a,zcG.2 b,c,fun p t=>?_⟩;have u:=zF.1 t;have:=d p.toNat (by omega) (by omega);unfold fits at this;rwa [show ((p.toNat:Nat):Int)=p by omega] at this};{intro h;obtain⟨g,i,m,k,l,n,q,r,e,a,b,c,d⟩:=h;unfold ln;exact⟨⟨by omega,by omega⟩,by omega,⟨fun s f=>zZN.2 (l s f),by omega⟩,by omega,by omega,by omega,e,zcG.1 a,zcG.1 b,c,fun j g i=>d (j:Int) (zF.2 (by omega))⟩}
theorem zzE (o:List Slot)(s:Slot)(q:Int):(s::o).countP (fun s=>ieq s.Page q)=o.countP (fun s=>ieq s.Page q)+if s.Page=q then 1 else 0:=by rw[vG];simp[ieq]
theorem zAV:∀{o:List Slot} {u:List Bool},(∀s∈o,s.Page<u.length)->
 (∀c,zgk o u=some c↔(∀q,0<=q->o.countP (fun s=>ieq s.Page q)+(if ix u q false then 1 else 0)<=1)/\
  c=(o.foldl (fun u s=>bif ilt s.Page 0 then u else up u s.Page true) u))
 |[],u,h,c=>by simp[zgk];exact⟨fun h=>⟨fun q _=>by split<;>omega,h.symm⟩,fun h=>h.2.symm⟩
 |s::o,u,h,c=>by
  unfold zgk;by_cases g:s.Page<0;{have b:ilt s.Page 0=true:=qJ g;rw[b,cond_true,zAV (fun y d=>h y (qX _ d))];simp only[uK,b,cond_true];refine and_congr (forall_congr' fun q=>forall_congr' fun f=>?_) Iff.rfl;have e:(if s.Page=q then 1 else 0)=0:=if_neg (by omega);rw[zzE,e,jY]};{have b:ilt s.Page 0=false:=qL g;have k:=h s jA;have j:hasB s.Page (ln u)=true:=zF.2 ⟨by omega,by unfold ln;omega⟩;rw[b,cond_false];cases i:ix u s.Page false with|true=>rw[cond_true];constructor;{intro h;cases h};{rintro⟨h,_⟩;have:=h s.Page (by omega);rw[zzE,if_pos rfl,i] at this;simp at this}|false=>rw[cond_false,zAV (fun y d=>by rw[zbM];exact h y (qX _ d))];simp only[uK,b,cond_false];refine and_congr (forall_congr' fun q=>forall_congr' fun f=>?_) Iff.rfl;rw[zzE];by_cases a:s.Page=q;{subst a;rw[zbf j,i];simp};{rw [zbt (by omega) f a,if_neg a,jY]}}
theorem zJ5:∀(o:List Slot) (u:List Bool),(o.foldl (fun u s=>bif ilt s.Page 0 then u else up u s.Page true) u).length=u.length
 |[],u=>rfl
 |s::o,u=>by rw[uK,zJ5];cases ilt s.Page 0<;>simp [zbM]
theorem zQj:∀(o:List Slot) (u:List Bool) (q:Int),0<=q->(∀s∈o,s.Page<u.length)->(ix (o.foldl (fun u s=>bif ilt s.Page 0 then u else up u s.Page true) u) q false=true↔ix u q false=true\/1<=o.countP (fun s=>ieq s.Page q))
 |[],u,q,b,h=>by simp
 |s::o,u,q,b,h=>by
  rw[uK,zQj _ _ q b (fun y f=>by have:=h y (qX _ f);cases ilt s.Page 0<;>simpa [zbM] using this),zzE];by_cases c:s.Page<0;{rw [show ilt s.Page 0=true from qJ c,cond_true,if_neg (by omega),jY]};{rw [show ilt s.Page 0=false from qL c,cond_false];have e:=h s jA;have d:hasB s.Page (ln u)=true:=zF.2 ⟨by omega,by unfold ln;omega⟩;by_cases a:s.Page=q;{subst a;rw[zbf d];simp};{rw [zbt (by omega) b a,if_neg a,jY]}}
theorem zz2:∀{l:List Mon} {u:List Bool},u.length=12->(zim l u=true↔(∀x∈l,MOk x)/\∀q,0<=q->zeR l q+(if l≠[]/\ix u q false then 1 else 0)<=1)
 |[],u,c=>by simp[zim,zeR]
 |x::l,u,c=>by
  unfold zim;rw[zb9,zbaz];constructor;{rintro⟨f,b⟩;have k:∀s∈x.Outer,s.Page<u.length:=fun s n=>(by rcases f.sl s n with h|h;{rw [h,c];decide};{rw [c];omega});split at b;{rename_i B d;obtain⟨g,rfl⟩:=(zAV k B).1 d;rw[zz2 (by rw[zJ5,c])]at b;obtain⟨v,w⟩:=b;refine⟨by simpa using ⟨f,v⟩,fun q a=>?_⟩;have z:=g q a;have i:=w q a;have m:=zQj x.Outer u q a k;simp only[zeR,jB,uI]at i ⊢;unfold cPg at i ⊢;simp only[ne_eq,reduceCtorEq,not_false_eq_true,true_and];by_cases r:l=[];{subst r;simpa using z};{simp only [r,ne_eq,not_false_eq_true,true_and]at i;by_cases j:ix (x.Outer.foldl (fun u s=>bif ilt s.Page 0 then u else up u s.Page true) u) q false=true;{rw [if_pos j]at i;omega};{rw [if_neg j]at i;have p:¬ (ix u q false=true\/1<=x.Outer.countP (fun s=>ieq s.Page q)):=fun e=>j (m.2 e);rw[not_or]at p;rw[if_neg p.1];omega}}};{cases b}}
  .rintro⟨f,b⟩;have t:MOk x:=f x jA;refine⟨t,?_⟩;have k:∀s∈x.Outer,s.Page<u.length:=fun s n=>by rcases t.sl s n with h|h;{rw [h,c];decide};{rw [c];omega}
   have d:=(zAV k _).2 ⟨fun q a=>by
    have:=b q a;simp only[zeR,jB,uI,ne_eq,reduceCtorEq,not_false_eq_true,true_and] at this;unfold cPg at this;omega,rfl⟩
   rw[d];simp only;rw[zz2 (by rw[zJ5,c])];refine⟨fun y A=>f y (qX _ A),fun q a=>?_⟩;have g:=b q a;have m:=zQj x.Outer u q a k;simp only[zeR,jB,uI,ne_eq,reduceCtorEq,not_false_eq_true,true_and]at g ⊢;unfold cPg at g ⊢;split;{rename_i j;rcases m.1 j.2 with h|h;{rw [if_pos h]at g;omega};{omega}};{omega}
structure HOk (h:Host):Prop where
 m12:h.Memory.length=12
 pgs:∀c∈h.Memory,zcl c=true
 n1:1<=h.Mons.length
 n3:h.Mons.length<=3
 b1:zeQ h.Buffer=true
 b2:zeQ h.IoBuffer=true
 mons:∀x∈h.Mons,MOk x
 uq:∀q,0<=q->zeR h.Mons q<=1
theorem zil {h:Host}:zbX h=true↔HOk h:=by unfold zbX zha;simp only[zb9,zcG,zbr,qM];rw[zz2 (by simp[rp])];have g:∀q,ix (rp 12 false) q false=false:=fun q=>(by unfold ix rp;rw[j8,kC];split<;>rfl);simp only[g,kB,and_false,if_false,jY];unfold ln;constructor;{rintro⟨⟨e,f⟩,⟨i,j⟩,a,b,c,d⟩;exact⟨by omega,e,by omega,by omega,a,b,c,d⟩};{rintro⟨e,f,i,j,a,b,c,d⟩;exact⟨⟨f,by omega⟩,⟨by omega,by omega⟩,a,b,c,d⟩}
theorem HOk.mon {h:Host}(H:HOk h){m:Int}(a:hasB m (ln h.Mons)=true):MOk (ix h.Mons m mZ):=H.mons _ (zlc a _)
theorem MOk.hasO {x:Mon}(H:MOk x){p:Int}(a:hasB p 8=true):hasB p (ln x.Outer)=true:=by rw[ln,H.o8];exact a
theorem MOk.hasU {x:Mon}(H:MOk x){p:Int}(a:hasB p 8=true):hasB p (ln x.Out)=true:=by rw[ln,H.u8];exact a
theorem MOk.hasD {x:Mon}(H:MOk x){p:Int}(a:hasB p 8=true):hasB p (ln x.Dirty)=true:=by rw[ln,H.d8];exact a
theorem MOk.slot {x:Mon}(H:MOk x){p:Int}(a:hasB p 8=true):SOk (ix x.Outer p sZ):=H.sl _ (zlc (H.hasO a) _)
theorem HOk.uniq {h:Host}(H:HOk h){m p n k q:Int}(a:hasB m (ln h.Mons)=true)(f:hasB p 8=true)(b:hasB n (ln h.Mons)=true)(e:hasB k 8=true)(c:(ix (ix h.Mons m mZ).Outer p sZ).Page=q)(d:(ix (ix h.Mons n mZ).Outer k sZ).Page=q)(g:0<=q):m=n/\p=k :=
 z5o a ((H.mon a).hasO f) b ((H.mon b).hasO e) c d (H.uq q g)
theorem HOk.up {h:Host}(H:HOk h){m:Int}(k:hasB m (ln h.Mons)=true){x:Mon}(l:MOk x){a:Host}(e:a.Mons=up h.Mons m x)(d:a.Memory.length=12)(f:∀c∈a.Memory,zcl c=true)(i:zeQ a.Buffer=true)(j:zeQ a.IoBuffer=true)(n:∀q,0<=q->cPg x q<=cPg (ix h.Mons m mZ) q\/zeR h.Mons q=0/\cPg x q<=1):HOk a:=by refine⟨d,f,by rw[e,zbM];exact H.n1,by rw[e,zbM];exact H.n3,i,j,fun y b=>?_,fun q g=>?_⟩;{rw [e]at b;unfold E.up at b;rcases qW b with h|h;{exact H.mons y h};{rw [h];exact l}};{rw [e];have p:=zzg k x q;have r:=H.uq q g;have s:=n q g;omega}
structure KOk (k:Kept) (inner outer:List Slot):Prop where
 l1:k.Known.length=inner.length
 l2:k.Slots.length=inner.length
 at':∀i,hasB i (ln inner)=true->ix k.Slots i sZ=bif ix k.Known i false then zbv (ix inner i sZ) outer else noSlot
def TOk (x:Mon):Prop:=∀g,hasB g (ln x.Guests)=true->KOk (ix x.Tables g kZ) (ix x.Guests g gZ).Live x.Outer
structure Rt (h:Host):Prop where
 t:∀m,hasB m (ln h.Mons)=true->TOk (ix h.Mons m mZ)
 e1:∀e∈h.Buffer,zcX h e=true
 e2:∀e∈h.IoBuffer,zcX h e=true
structure Safe (h:Host):Prop where
 ok:HOk h
 rt:Rt h
theorem zrt {a b:Slot}:below' a b=true↔a=noSlot\/(a.Page=b.Page/\enough b.Rights a.Rights=true):=by unfold below';rw[ztM,zpe,zrZ,zb9,zbr];by_cases h:a=noSlot<;>simp [h]
theorem z5c (x:Int):wand .i64 0 x=0:=by unfold wand;have:(BitVec.ofInt 64 0 &&& BitVec.ofInt 64 x)=0#64:=(by rw[show BitVec.ofInt 64 0=0#64 from rfl,BitVec.zero_and]);show IntKind.wrap .i64 ((BitVec.ofInt 64 0 &&& BitVec.ofInt 64 x).toNat:Int)=0;rw[this];rfl
theorem z5n {a:Slot}(h:below' a noSlot=true):a=noSlot:=by rcases zrt.1 h with h|⟨c,b⟩;{exact h};{refine zWN c ?_;unfold enough at b;rw[show noSlot.Rights=0 from rfl,z5c]at b;simp only[zb9,zbr]at b;exact b.2.2.symm}
theorem zfm {h:Host}{e:Entry}:zcX h e=true↔hasB (zdn e.Tag) (ln h.Mons)=true/\hasB (zdX e.Tag) (ln (ix h.Mons (zdn e.Tag) mZ).Guests)=true/\
 below' ⟨e.Host,e.Rights⟩ (zbv (zbz (ix (ix h.Mons (zdn e.Tag) mZ).Guests (zdX e.Tag) gZ).Live e.Page) (ix h.Mons (zdn e.Tag) mZ).Outer)=true:=by
 unfold zcX;rw[zb9,zb9]
theorem zRH {o:List Slot}{p q:Int}{s:Slot}(a:0<=p)(h:q≠p):zbz (up o p s) q=zbz o q:=by unfold zbz;rw[zdz];cases b:hasB q (ln o) with|false=>rfl|true=>rw[cond_true,cond_true,zbt a (zF.1 b).1 (Ne.symm h)]
theorem zK4 {s:Slot}{o:List Slot}{p:Int}{t:Slot}(a:0<=p)(h:s.Page≠p):zbv s (up o p t)=zbv s o:=by unfold zbv;rw[zRH a h]
theorem z0m {s:Slot}{o:List Slot}:zbv s o=noSlot\/(zbv s o).Page=(zbz o s.Page).Page:=by unfold zbv;cases ieq s.Page (-1)<;>cases ieq (zbz o s.Page).Page (-1)<;>cases ieq (zdO s.Rights (zbz o s.Page).Rights) 0<;>simp
theorem zkq (k:Kept)(q:Int):(zbR k q).Known.length=k.Known.length/\(zbR k q).Slots.length=k.Slots.length:=by unfold zbR;cases zdv k q<;>simp [zbM]
theorem zBm:∀(l:List Int) (k:Kept),(zef k l).Known.length=k.Known.length/\(zef k l).Slots.length=k.Slots.length
 |[],k=>⟨rfl,rfl⟩
 |q::l,k=>by have a:=zBm l (zbR k q);have b:=zkq k q;exact⟨a.1.trans b.1,a.2.trans b.2⟩
theorem zxa {k:Kept}{q i:Int}(d:k.Known.length=k.Slots.length)(b:hasB i (ln k.Known)=true) :
 ix (zbR k q).Known i false=(cond (ieq q i) false (ix k.Known i false))/\ix (zbR k q).Slots i sZ=(cond (ieq q i) noSlot (ix k.Slots i sZ)):=by
 have c:hasB i (ln k.Slots)=true:=by unfold ln at b ⊢;rwa [<- d]
 unfold zbR zdv
 by_cases e:q=i
 .subst e;simp only[b,c,cond_true,ieq,beq_self_eq_true];exact⟨zbf b _ _,zbf c _ _⟩
 .rw [show ieq q i=false from zbV.2 e]
  by_cases a:hasB q (ln k.Known)=true
  .have hq':hasB q (ln k.Slots)=true:=by unfold ln at a ⊢;rwa [<- d]
   simp only[a,hq',cond_true,cond_false];exact⟨zbt (zF.1 a).1 (zF.1 b).1 e _ _,zbt (zF.1 a).1 (zF.1 b).1 e _ _⟩
  .rw [Bool.not_eq_true]at a;simp[a]
theorem zDs:∀(l:List Int) {k:Kept} {i:Int},k.Known.length=k.Slots.length->hasB i (ln k.Known)=true->
 (i∈l->ix (zef k l).Known i false=false/\ix (zef k l).Slots i sZ=noSlot)/\
 (i∉l->ix (zef k l).Known i false=ix k.Known i false/\ix (zef k l).Slots i sZ=ix k.Slots i sZ)
 |[],k,i,d,c=>⟨fun h=>by simp at h,fun _=>⟨rfl,rfl⟩⟩
 |q::l,k,i,d,c=>by have b:=zkq k q;have g:=zxa (q:=q) d c;have f:=zDs l (k:=zbR k q) (i:=i) (by rw[b.1,b.2,d]) (by unfold ln at c ⊢;rwa [b.1]);show (_->ix (zef (zbR k q) l).Known i false=_/\ix (zef (zbR k q) l).Slots i sZ=_)/\(_->ix (zef (zbR k q) l).Known i false=_/\ix (zef (zbR k q) l).Slots i sZ=_);by_cases a:i∈l;{refine⟨fun _=>f.1 a,fun h=>absurd (qX _ a) h⟩};{rw [(f.2 a).1,(f.2 a).2,g.1,g.2];by_cases e:q=i;{subst e;simp[ieq]};{rw [zbV.2 e];simp[a,Ne.symm e]}}
theorem zJj {e:Type}{P:e->Bool}{d:e}:∀{l:List e} {n:Nat} {i:Int},i∈idxs P l n↔∃k:Nat,∃h:k<l.length,i=((n+k:Nat):Int)/\P l[k]=true
 |[],n,i=>by simp[idxs]
 |x::l,n,i=>by
  have g:=@zJj e P d l (n+1) i;unfold idxs;constructor
  .intro h;cases f:P x with
   |true=>rw[f,cond_true,qG]at h;rcases h with h|h;{exact⟨0,by simp,by simpa using h,f⟩};{obtain⟨k,c,b,a⟩:=g.1 h;exact⟨k+1,by simpa using c,by rw[b];congr 1;omega,by simpa using a⟩}
   |false=>rw[f,cond_false]at h;obtain⟨k,c,b,a⟩:=g.1 h;exact⟨k+1,by simpa using c,by rw[b];congr 1;omega,by simpa using a⟩
  {rintro⟨k,c,b,a⟩;cases k with|zero=>simp only[List.getElem_cons_zero]at a;rw[a,cond_true,b];exact jA|succ k=>have:=g.2 ⟨k,by simpa using c,by rw[b];congr 1;omega,by simpa using a⟩;cases P x;{exact this};{exact qX _ this}}
theorem zXu {l:List Slot}{p i:Int}:i∈zE4 l p↔hasB i (ln l)=true/\(ix l i sZ).Page=p:=by unfold zE4;rw[zJj (d:=sZ)];constructor;{rintro⟨k,a,rfl,c⟩;rw[j4,zl0 a];exact⟨zF.2 (by unfold ln;omega),zbr.1 c⟩};{rintro⟨a,b⟩;obtain⟨k,f,rfl,e⟩:=zAg a sZ;exact⟨k,f,by simp,by rw[e]at b;exact zbr.2 b⟩}
theorem z02 {k:Kept}{a b:List Slot}(h:KOk k a b){p:Int}(j:0<=p)(s:Slot):KOk (zhv k a p) a (up b p s):=by have g:=zBm (zE4 a p) k;refine⟨g.1.trans h.l1,g.2.trans h.l2,fun i d=>?_⟩;have e:hasB i (ln k.Known)=true:=(by unfold ln at d ⊢;rwa [h.l1]);have f:=zDs (zE4 a p) (by rw[h.l1,h.l2]) e;unfold zhv;by_cases c:(ix a i sZ).Page=p;{have:=f.1 (zXu.2 ⟨d,c⟩);rw[this.1,this.2];rfl};{have:=f.2 (fun h=>c (zXu.1 h).2);rw[this.1,this.2,h.at' i d,zK4 j c]}
theorem zEZ (b:List Guest)(p:Int):∀(n:Nat) (a:List Kept),(zjs b p n a).length=a.length
 | 0,a=>rfl
 |n+1,a=>by rw[zjs,zbM,zEZ b p n]
theorem zPY (b:List Guest)(p:Int):∀(n:Nat) (a:List Kept),n<=a.length->∀i,0<=i->ix (zjs b p n a) i kZ=if i<n then zhv (ix a i kZ) (ix b i gZ).Live p else ix a i kZ
 | 0,a,_,i,c=>by rw[if_neg (by omega)];rfl
 |n+1,a,d,i,c=>by rw[zjs];by_cases e:i=n;{subst e;rw[zbf (by rw[ln,zEZ];exact zF.2 (by omega)),if_pos (by omega),zPY b p n a (by omega) _ c,if_neg (by omega)]};{rw [zbt (by omega) c (Ne.symm e),zPY b p n a (by omega) i c];by_cases h:i<n;{rw [if_pos h,if_pos (by omega)]};{rw [if_neg h,if_neg (by omega)]}}
def zjq (x:Mon)(p:Int)(s:Slot):Mon:={zhj x p x.Tables.length with Outer:=up x.Outer p s}
theorem z4M {x:Mon}(h:TOk x)(c:x.Tables.length=x.Guests.length){p:Int}(b:0<=p)(s:Slot):TOk (zjq x p s):=by intro g hg;have a:hasB g (ln x.Guests)=true:=hg;show KOk (ix (zjs x.Guests p x.Tables.length x.Tables) g kZ) (ix x.Guests g gZ).Live (up x.Outer p s);rw[zPY _ _ _ _ (qZ _) _ (zF.1 a).1,if_pos (by have:=zF.1 a;unfold ln at this;omega)];exact z02 (h g a) b s
theorem zsH (h:Host)(m p:Int)(s:Slot):(zb8 h m p s).Mons=up h.Mons m (zjq (ix h.Mons m mZ) p s):=by unfold zb8;cases ine (ix (ix h.Mons m zh).Outer p zQ).Page (-1)<;>rfl
theorem zxA (h:Host)(m p:Int)(s:Slot):(zb8 h m p s).Memory=h.Memory:=by unfold zb8;cases ine (ix (ix h.Mons m zh).Outer p zQ).Page (-1)<;>rfl
theorem zRJ (h:Host)(m p:Int)(s:Slot):(zb8 h m p s).Buffer=(cond (ieq (ix (ix h.Mons m mZ).Outer p sZ).Page (-1)) h.Buffer (flushed h.Buffer (ix (ix h.Mons m mZ).Outer p sZ).Page))/\
 (zb8 h m p s).IoBuffer=(cond (ieq (ix (ix h.Mons m mZ).Outer p sZ).Page (-1)) h.IoBuffer (flushed h.IoBuffer (ix (ix h.Mons m mZ).Outer p sZ).Page)):=by
 unfold zb8
 by_cases e:(ix (ix h.Mons m zh).Outer p zQ).Page = -1
 .rw [show ine (ix (ix h.Mons m zh).Outer p zQ).Page (-1)=false by simp[ine,e],show ieq (ix (ix h.Mons m mZ).Outer p sZ).Page (-1)=true from zbr.2 e]
  exact⟨rfl,rfl⟩
 .rw [show ine (ix (ix h.Mons m zh).Outer p zQ).Page (-1)=true from zFq.2 e,show ieq (ix (ix h.Mons m mZ).Outer p sZ).Page (-1)=false from zbV.2 e]
  exact⟨rfl,rfl⟩
theorem zK8 {h k:Host}{m p:Int}{s:Slot}(n:hasB m (ln h.Mons)=true)(q:hasB p (ln (ix h.Mons m mZ).Outer)=true){x:Mon}(u:k.Mons=up h.Mons m x)(t:x.Guests=(ix h.Mons m mZ).Guests)(v:x.Outer=up (ix h.Mons m mZ).Outer p s){e:Entry}(w:zcX h e=true)(c:(ix (ix h.Mons m mZ).Outer p sZ).Page = -1\/e.Host≠(ix (ix h.Mons m mZ).Outer p sZ).Page):zcX k e=true:=by obtain⟨f,g,b⟩:=zfm.1 w;rw[zfm,u,zdz];refine⟨f,?_⟩;by_cases l:m=zdn e.Tag;{rw [<- l]at f g b ⊢;rw[zbf n,t,v];refine⟨g,?_⟩;by_cases j:(zbz (ix (ix h.Mons m mZ).Guests (zdX e.Tag) gZ).Live e.Page).Page=p;{have a:zbv (zbz (ix (ix h.Mons m mZ).Guests (zdX e.Tag) gZ).Live e.Page) (ix h.Mons m mZ).Outer=noSlot\/e.Host≠(zbv (zbz (ix (ix h.Mons m mZ).Guests (zdX e.Tag) gZ).Live e.Page) (ix h.Mons m mZ).Outer).Page:=(by rcases z0m (s:=zbz (ix (ix h.Mons m mZ).Guests (zdX e.Tag) gZ).Live e.Page) (o:=(ix h.Mons m mZ).Outer) with d|d;{exact .inl d};{rw [j]at d;have r:zbz (ix h.Mons m mZ).Outer p=ix (ix h.Mons m mZ).Outer p sZ:=(by unfold zbz;rw[q];rfl);rw[r]at d;rcases c with c|c;{left;unfold zbv;rw[j,r,c,show ieq (-1) (-1)=true from rfl];cases ieq p (-1)<;>rfl};{exact .inr (by rw[d];exact c)}});have i:(⟨e.Host,e.Rights⟩:Slot)=noSlot:=(by rcases a with a|a;{rw [a]at b;exact z5n b};{rcases zrt.1 b with h|h;{exact h};{exact absurd h.1 a}});rw[i];exact zrt.2 (.inl rfl)};{rw [zK4 (zF.1 q).1 j];exact b}};{rw [zbt (zF.1 n).1 (zF.1 f).1 l];exact⟨g,b⟩}
theorem zAv {h:Host}(H:Rt h){m p:Int}(d:hasB m (ln h.Mons)=true)(q:hasB p (ln (ix h.Mons m mZ).Outer)=true)(u:(ix h.Mons m mZ).Tables.length=(ix h.Mons m mZ).Guests.length)(s:Slot):Rt (zb8 h m p s):=by have c:=zRJ h m p s;have i:=zsH h m p s;have f:∀(b:List Entry),(∀e∈b,zcX h e=true)->∀e∈(cond (ieq (ix (ix h.Mons m mZ).Outer p sZ).Page (-1)) b (flushed b (ix (ix h.Mons m mZ).Outer p sZ).Page)),zcX (zb8 h m p s) e=true:=(by intro b c e a;by_cases n:(ix (ix h.Mons m mZ).Outer p sZ).Page = -1;{rw [zbr.2 n,cond_true]at a;exact zK8 d q i rfl rfl (c e a) (.inl n)};{rw [zbV.2 n,cond_false]at a;obtain⟨j,l⟩:=List.mem_filter.1 a;exact zK8 d q i rfl rfl (c e j) (.inr (by simpa [ieq] using l))});refine⟨fun k g=>?_,fun e a=>f _ H.e1 e (by rwa [c.1]at a),fun e a=>f _ H.e2 e (by rwa [c.2]at a)⟩;rw[i]at g ⊢;rw[zdz]at g;by_cases r:m=k;{subst r;rw[zbf d];exact z4M (H.t m d) u (zF.1 q).1 s};{rw [zbt (zF.1 d).1 (zF.1 g).1 r];exact H.t k g}
theorem zQJ:∀(l a:List Entry),allI (alone (a++l)) l a.length=true↔(∀x∈l,∀y∈a,sameKey x y=false)/\l.Pairwise (fun y x=>sameKey x y=false)
 |[],a=>by simp[allI]
 |x::l,a=>by have g:=zQJ l (a++[x]);rw[j9,List.singleton_append,kA,k8] at g;rw[allI,qD,g,List.pairwise_cons];have h:alone (a++x::l) a.length x=true↔∀y∈a,sameKey x y=false:=(by unfold alone;rw[kN rfl,qM];simp);rw[h];constructor;{rintro⟨d,e,f⟩;refine⟨fun z c y b=>?_,fun z c=>e z c x (by simp),f⟩;rcases qG.1 c with rfl|c;{exact d y b};{exact e z c y (by simp[b])}};{rintro⟨d,e,f⟩;refine⟨fun y b=>d x (by simp) y b,fun z c y b=>?_,f⟩;rcases jJ.1 b with b|b;{exact d z (by simp[c]) y b};{rw [qF.1 b];exact e z c}}
theorem zFa {l:List Entry}:zeQ l=true↔l.Pairwise (fun y x=>sameKey x y=false)/\l.length<=6:=by unfold zeQ;have:=zQJ l [];simp only[jU,uJ] at this;have a:ile (ln l) 6=true↔l.length<=6:=(by rw[ile,q0,ln];omega);rw[zb9,this,a];simp
theorem zzD {l:List Entry}(h:zeQ l=true)(P:Entry->Bool):zeQ (l.filter P)=true:=by rw[zFa]at h ⊢;exact⟨h.1.sublist List.filter_sublist,qU (k9 _ _) h.2⟩
theorem zHg {l:List Entry}(h:zeQ l=true)(p:Int):zeQ (flushed l p)=true:=zzD h _
theorem zT1 {x x':Mon}{p:Int}(a:hasB p (ln x.Outer)=true){s:Slot}(h:x'.Outer=up x.Outer p s)(q:Int):cPg x' q+(if (ix x.Outer p sZ).Page=q then 1 else 0)=cPg x q+(if s.Page=q then 1 else 0):=by have:=zQR (fun s=>ieq s.Page q) a s sZ;simp only[zbr] at this;unfold cPg;rw[h];exact this
theorem zpD {s:Slot}(d:SOk s){c:List Int}:zlh s c=true↔(s.Page = -1->zcl c=true)/\(s.Page≠-1->enough s.Rights 1=true/\c=[]):=by unfold zlh;by_cases e:s=noSlot;{rw [zpe.2 e,cond_true,e];simp[noSlot]};{rw [zrZ.2 e,cond_false,zb9];have:s.Page≠-1:=fun h=>e (d.none h);have b:ile (ln c) 0=true↔c=[]:=(by rw[ile,q0,ln,<- uS];omega);rw[b];exact⟨fun h=>⟨fun a=>absurd a this,fun _=>h⟩,fun h=>h.2 this⟩}
structure Chg (x x':Mon) (p:Int) (s:Slot) (c:List Int):Prop where
 o:x'.Outer=up x.Outer p s
 u:x'.Out=up x.Out p c
 g:x'.Guests=x.Guests
 t:x'.Tables.length=x.Tables.length
 d:x'.Dirty.length=x.Dirty.length
 a1:x'.Outs=x.Outs
 a2:x'.Pending=x.Pending
 a3:x'.Traps=x.Traps
 a4:x'.Own=x.Own
theorem MOk.chg {x x':Mon}(H:MOk x){p:Int}(a:hasB p 8=true){s:Slot}{c:List Int}(k:Chg x x' p s c)(j:SOk s)(i:zlh s c=true):MOk x':=by refine⟨by rw[k.g];exact H.g1,by rw[k.g];exact H.g2,by rw[k.t,k.g];exact H.gt,by rw[k.o,zbM];exact H.o8,fun y f=>?_,by rw[k.u,zbM];exact H.u8,by rw[k.d];exact H.d8,by rw[k.a1];exact H.outs,by rw[k.a2];exact H.pend,by rw[k.a3];exact H.tr,by rw[k.a4];exact H.own,by rw[k.g];exact H.gs,fun q b=>?_⟩;{rw [k.o]at f;rcases qW f with h|h;{exact H.sl y h};{rw [h];exact j}};{rw [k.o,k.u];by_cases e:p=q;{subst e;rw[zbf (H.hasO a),zbf (H.hasU a)];exact i};{rw [zbt (zF.1 a).1 (zF.1 b).1 e,zbt (zF.1 a).1 (zF.1 b).1 e];exact H.fit q b}}
structure Like (h r:Host):Prop where
 len:r.Mons.length=h.Mons.length
 g:∀i,hasB i (ln h.Mons)=true->(ix r.Mons i mZ).Guests=(ix h.Mons i mZ).Guests
 o:∀i,hasB i (ln h.Mons)=true->(ix r.Mons i mZ).Outs=(ix h.Mons i mZ).Outs
 p:∀i,hasB i (ln h.Mons)=true->(ix r.Mons i mZ).Pending=(ix h.Mons i mZ).Pending
 tr:∀i,hasB i (ln h.Mons)=true->(ix r.Mons i mZ).Traps=(ix h.Mons i mZ).Traps
 ow:∀i,hasB i (ln h.Mons)=true->(ix r.Mons i mZ).Own=(ix h.Mons i mZ).Own
 pg:∀i k,hasB i (ln h.Mons)=true->hasB k 8=true->zcB r i k=zcB h i k
theorem Like.refl (h:Host):Like h h:=⟨rfl,fun _ _=>rfl,fun _ _=>rfl,fun _ _=>rfl,fun _ _=>rfl,fun _ _=>rfl,fun _ _ _ _=>rfl⟩
theorem Like.trans {a b c:Host}(x:Like a b)(y:Like b c):Like a c:=by have k:∀i,hasB i (ln a.Mons)=true->hasB i (ln b.Mons)=true:=fun i e=>(by unfold ln at e ⊢;rwa [x.len]);exact⟨y.len.trans x.len,fun i h=>(y.g i (k i h)).trans (x.g i h),fun i h=>(y.o i (k i h)).trans (x.o i h),fun i h=>(y.p i (k i h)).trans (x.p i h),fun i h=>(y.tr i (k i h)).trans (x.tr i h),fun i h=>(y.ow i (k i h)).trans (x.ow i h),fun i q h d=>(y.pg i q (k i h) d).trans (x.pg i q h d)⟩
theorem Like.has {h r:Host}(k:Like h r){i:Int}:hasB i (ln r.Mons)=hasB i (ln h.Mons):=by unfold ln;rw[k.len]
theorem zqG {h r:Host}{m:Int}:∀(n i:Nat),(∀k:Nat,i<=k->k<i+n->zcB r m (k:Int)=zcB h m (k:Int))->zct r m n i=zct h m n i
 | 0,i,_=>rfl
 |n+1,i,h=>by rw[zct,zct,h i (by omega) (by omega),zqG n (i+1) (fun k a b=>h k (by omega) (by omega))]
theorem Like.seen {h r:Host}(k:Like h r)(m:Int):zG r m=zG h m:=by unfold zG;rw[k.has];cases a:hasB m (ln h.Mons) with|false=>rfl|true=>simp only[cond_true];rw[k.g m a,k.o m a,k.p m a,zqG 8 0 (fun j b c=>k.pg m j a (zF.2 (by omega)))]
theorem znq {h:Host}{m p:Int}(a:hasB m (ln h.Mons)=true)(c:hasB p 8=true)(b:hasB p (ln (ix h.Mons m mZ).Outer)=true) :
 zcB h m p=bif ieq (ix (ix h.Mons m mZ).Outer p sZ).Page (-1) then zcp (ix h.Mons m mZ).Out p else zcp h.Memory (ix (ix h.Mons m mZ).Outer p sZ).Page:=by
 unfold zcB;have:zbz (ix h.Mons m mZ).Outer p=ix (ix h.Mons m mZ).Outer p sZ:=by unfold zbz;rw[b];rfl
 rw[a,c,cond_true,cond_true,this]
 by_cases e:(ix (ix h.Mons m mZ).Outer p sZ).Page = -1
 .rw [zbr.2 e,show ine (ix (ix h.Mons m mZ).Outer p sZ).Page (-1)=false by simp[ine,e]];rfl
 .rw [zbV.2 e,show ine (ix (ix h.Mons m mZ).Outer p sZ).Page (-1)=true from zFq.2 e];rfl
theorem zkG {m:List (List Int)}{p:Int}(h:hasB p (ln m)=true):zcp m p=ix m p []:=by unfold zcp;rw[h];rfl
theorem zRt {m:List (List Int)}(h:∀c∈m,zcl c=true)(p:Int):zcl (zcp m p)=true:=by unfold zcp;cases a:hasB p (ln m) with|false=>rfl|true=>exact h _ (zlc a _)
theorem zwR {h r:Host}(H:HOk h){m p:Int}(b:hasB m (ln h.Mons)=true)(i:hasB p 8=true){x:Mon}{s:Slot}{c:List Int}(n:r.Mons=up h.Mons m x)(k:Chg (ix h.Mons m mZ) x p s c)(u:SOk s)(t:zlh s c=true)(f:r.Memory.length=12)(g:∀c∈r.Memory,zcl c=true)(j:zeQ r.Buffer=true)(l:zeQ r.IoBuffer=true)(v:0<=s.Page->s.Page=(ix (ix h.Mons m mZ).Outer p sZ).Page\/zeR h.Mons s.Page=0):HOk r:=by refine H.up b ((H.mon b).chg i k u t) n f g j l fun q z=>?_;have d:=zT1 ((H.mon b).hasO i) k.o q;by_cases e:s.Page=q;{have a:=v (by omega);rw[if_pos e]at d;rcases a with a|a;{rw [if_pos (by omega)]at d;left;omega};{right;rw[e] at a;refine⟨a,?_⟩;have:=zzg b x q;have y:cPg (ix h.Mons m mZ) q<=zeR h.Mons q:=(by have:=zzg b (⟨[],[],[],[],[],0,0,[],0⟩:Mon) q;have w:cPg (⟨[],[],[],[],[],0,0,[],0⟩:Mon) q=0:=rfl;omega);omega}};{rw [if_neg e]at d;left;split at d<;>omega}
theorem zvK {h r:Host}(H:HOk h){m p:Int}(a:hasB m (ln h.Mons)=true)(y:hasB p 8=true){x:Mon}{s:Slot}{c:List Int}(n:r.Mons=up h.Mons m x)(k:Chg (ix h.Mons m mZ) x p s c)(B:(cond (ieq s.Page (-1)) c (zcp r.Memory s.Page))=zcB h m p)(f:∀i q,hasB i (ln h.Mons)=true->hasB q 8=true->¬ (i=m/\q=p)->(ix (ix h.Mons i mZ).Outer q sZ).Page≠-1->zcp r.Memory (ix (ix h.Mons i mZ).Outer q sZ).Page=zcp h.Memory (ix (ix h.Mons i mZ).Outer q sZ).Page):Like h r:=by have l:=(zF.1 a).1;have t:=(zF.1 y).1;have e:∀{C:Type} (F:Mon->C),F x=F (ix h.Mons m mZ)->∀i,hasB i (ln h.Mons)=true->F (ix r.Mons i mZ)=F (ix h.Mons i mZ):=(by intro C F D i d;rw[n];by_cases e:m=i;{subst e;rw[zbf a];exact D};{rw [zbt l (zF.1 d).1 e]});refine⟨by rw[n,zbM],e Mon.Guests k.g,e Mon.Outs k.a1,e Mon.Pending k.a2,e Mon.Traps k.a3,e Mon.Own k.a4,fun i q d b=>?_⟩;have A:hasB i (ln r.Mons)=true:=(by rw[n,zdz];exact d);have w:=(H.mon d).hasO b;have z:hasB q (ln (ix r.Mons i mZ).Outer)=true:=(by rw[n];by_cases e:m=i;{subst e;rw[zbf a,k.o,zdz];exact w};{rw [zbt l (zF.1 d).1 e];exact w});rw[znq A b z];by_cases e:m=i;{subst e;rw[n,zbf a,k.o,k.u];by_cases v:p=q;{subst v;rw[zbf ((H.mon a).hasO y),<- B];cases ieq s.Page (-1);{rfl};{rw [cond_true,cond_true,zkG (by rw[zdz];exact(H.mon a).hasU y),zbf ((H.mon a).hasU y)]}};{rw [zbt t (zF.1 b).1 v,znq a b w];by_cases j:(ix (ix h.Mons m mZ).Outer q sZ).Page = -1;{rw [zbr.2 j,cond_true,cond_true,zkG (by rw[zdz];exact(H.mon a).hasU b),zkG ((H.mon a).hasU b),zbt t (zF.1 b).1 v]};{rw [zbV.2 j,cond_false,cond_false,f m q a b (fun h=>v h.2.symm) j]}}};{rw [n,zbt l (zF.1 d).1 e,znq d b w];by_cases j:(ix (ix h.Mons i mZ).Outer q sZ).Page = -1;{rw [zbr.2 j,cond_true,cond_true]};{rw [zbV.2 j,cond_false,cond_false,f i q d b (fun h=>e h.1.symm) j]}}
structure Op (h r:Host):Prop where
 ok:HOk r
 like:Like h r
 rt:Rt h->Rt r
theorem Op.refl {h:Host}(H:HOk h):Op h h:=⟨H,Like.refl h,id⟩
theorem Op.trans {a b c:Host}(x:Op a b)(y:Op b c):Op a c:=⟨y.ok,x.like.trans y.like,fun h=>y.rt (x.rt h)⟩
theorem Op.safe {h r:Host}(k:Op h r)(s:Safe h):Safe r:=⟨k.ok,k.rt s.rt⟩
theorem zMU {h r:Host}(H:Rt h){m:Int}(l:hasB m (ln h.Mons)=true){x:Mon}(u:r.Mons=up h.Mons m x)(q:r.Buffer=h.Buffer)(s:r.IoBuffer=h.IoBuffer)(y:x.Guests.length=(ix h.Mons m mZ).Guests.length)(w:∀g,hasB g (ln (ix h.Mons m mZ).Guests)=true->(ix x.Guests g gZ).Live=(ix (ix h.Mons m mZ).Guests g gZ).Live)(z:x.Tables=(ix h.Mons m mZ).Tables)(v:x.Outer=(ix h.Mons m mZ).Outer):Rt r:=by have d:=(zF.1 l).1;have hg:∀g,hasB g (ln x.Guests)=hasB g (ln (ix h.Mons m mZ).Guests):=fun g=>(by unfold ln;rw[y]);have f:∀e,zcX h e=true->zcX r e=true:=(by intro e c;obtain⟨n,i,p⟩:=zfm.1 c;rw[zfm,u,zdz];refine⟨n,?_⟩;by_cases b:m=zdn e.Tag;{rw [<- b]at n i p ⊢;rw[zbf l,hg,w _ i,v];exact⟨i,p⟩};{rw [zbt d (zF.1 n).1 b];exact⟨i,p⟩});refine⟨fun k j=>?_,fun e c=>f e (H.e1 e (by rwa [q]at c)),fun e c=>f e (H.e2 e (by rwa [s]at c))⟩;rw[u]at j ⊢;rw[zdz]at j;by_cases b:m=k;{subst b;rw[zbf l];intro g a;rw[hg]at a;rw[z,w g a,v];exact H.t m l g a};{rw [zbt d (zF.1 j).1 b];exact H.t k j}
theorem zpf {h a:Host}{m p:Int}{s:Slot}{x:Mon}(b:hasB m (ln h.Mons)=true)(e:a.Mons=up h.Mons m x):(zb8 a m p s).Mons=up h.Mons m (zjq x p s):=by rw[zsH,e,zbf b,z5b]
theorem zDd {x x1:Mon}{p:Int}{s:Slot}{c:List Int}(g:x1.Outer=x.Outer)(i:x1.Out=up x.Out p c)(hg:x1.Guests=x.Guests)(h:x1.Tables=x.Tables)(f:x1.Dirty.length=x.Dirty.length)(a:x1.Outs=x.Outs)(b:x1.Pending=x.Pending)(d:x1.Traps=x.Traps)(e:x1.Own=x.Own):Chg x (zjq x1 p s) p s c :=
 ⟨by show up x1.Outer p s=_;rw[g],i,hg,by show (zjs x1.Guests p x1.Tables.length x1.Tables).length=_;rw[zEZ,h],f,a,b,d,e⟩
theorem zu1 {h:Host}{m p:Int}{s:Slot}(a:zeQ h.Buffer=true)(b:zeQ h.IoBuffer=true):zeQ (zb8 h m p s).Buffer=true/\zeQ (zb8 h m p s).IoBuffer=true:=by have:=zRJ h m p s;rw[this.1,this.2];cases ieq (ix (ix h.Mons m mZ).Outer p sZ).Page (-1);{exact⟨zHg a _,zHg b _⟩};{exact⟨a,b⟩}
theorem hasM {h:Host}(H:HOk h){s:Slot}(b:SOk s)(a:s.Page≠-1):hasB s.Page (ln h.Memory)=true:=by have:=b.pos a;exact zF.2 ⟨this.1,by unfold ln;rw[H.m12];omega⟩
theorem zZD {h:Host}(H:HOk h){m p:Int}(b:hasB m (ln h.Mons)=true)(c:hasB p 8=true)(l:(ix (ix h.Mons m mZ).Outer p sZ).Page≠-1):Op h (zdl h m p):=by
 have X:=H.mon b;have f:(zdl h m p).Mons=up h.Mons m (zjq {ix h.Mons m mZ with Out:=up (ix h.Mons m mZ).Out p (zcp h.Memory (ix (ix h.Mons m mZ).Outer p sZ).Page)} p noSlot):=zpf b rfl;have k:Chg (ix h.Mons m mZ) (zjq {ix h.Mons m mZ with Out:=up (ix h.Mons m mZ).Out p (zcp h.Memory (ix (ix h.Mons m mZ).Outer p sZ).Page)} p noSlot) p noSlot (zcp h.Memory (ix (ix h.Mons m mZ).Outer p sZ).Page):=zDd rfl rfl rfl rfl rfl rfl rfl rfl rfl;have a:(zdl h m p).Memory=h.Memory:=zxA _ _ _ _;have g:=zu1 (h:=zet h m p) (m:=m) (p:=p) (s:=noSlot) H.b1 H.b2;refine⟨zwR H b c f k (.inl rfl) ((zpD (.inl rfl)).2 ⟨fun _=>zRt H.pgs _,fun h=>absurd rfl h⟩) (by rw[a];exact H.m12) (by rw[a];exact H.pgs) g.1 g.2 (fun h=>absurd h (by decide)),
  zvK H b c f k ?_ (fun i q _ _ _ _=>by rw[a]),fun R=>?_⟩
 {rw [znq b c (X.hasO c),zbV.2 l];rfl};{have j:Rt (zet h m p):=zMU (x:={ix h.Mons m mZ with Out:=up (ix h.Mons m mZ).Out p (zcp h.Memory (ix (ix h.Mons m mZ).Outer p sZ).Page)}) R b rfl rfl rfl rfl (fun _ _=>rfl) rfl rfl;have d:hasB m (ln (zet h m p).Mons)=true:=(by show hasB m (ln (up h.Mons m _))=true;rw[zdz];exact b);have e:ix (zet h m p).Mons m mZ={ix h.Mons m mZ with Out:=up (ix h.Mons m mZ).Out p (zcp h.Memory (ix (ix h.Mons m mZ).Outer p sZ).Page)}:=zbf b _ _;exact zAv j d (by rw[e];exact X.hasO c) (by rw[e];exact X.gt) noSlot}
theorem zHm {o:List Slot}{q:Int}:znS o q=none↔o.countP (fun s=>ieq s.Page q)=0:=by unfold znS;rw[List.findIdx?_eq_none_iff,vA];simp
theorem zXO {o:List Slot}{q:Int}{k:Nat}(h:znS o q=some k):∃a:k<o.length,o[k].Page=q:=by unfold znS at h;rw[uY]at h;obtain⟨a,b,_⟩:=h;exact⟨a,zbr.1 b⟩
theorem zAo {q:Int}:∀(l:List Mon) (i:Nat),((zhF q l i).1<0↔zeR l q=0)/\(¬ (zhF q l i).1<0->∃a b:Nat,∃f:a<l.length,∃g:b<l[a].Outer.length,zhF q l i=(((i+a:Nat):Int),(b:Int))/\l[a].Outer[b].Page=q)
 |[],i=>⟨by simp[zhF,zeR],fun h=>absurd (show (-1:Int)<0 by decide) h⟩
 |x::l,i=>by have j:=zAo (q:=q) l (i+1);unfold zhF;split;{rename_i k c;obtain⟨m,n⟩:=zXO c;refine⟨⟨fun h=>by simp at h;omega,fun h=>?_⟩,fun _=>⟨0,k,by simp,m,by simp,n⟩⟩;exfalso;simp only[zeR,jB,uI]at h;have d:x.Outer.countP (fun s=>ieq s.Page q)=0:=(by unfold cPg at h;omega);rw[zHm.2 d]at c;cases c};{rename_i c;have d:=zHm.1 c;refine⟨?_,fun h=>?_⟩;{rw [j.1];simp only[zeR,jB,uI];unfold cPg;omega};{obtain⟨a,b,f,g,e,p⟩:=j.2 h;exact⟨a+1,b,by simpa using f,by simpa using g,by rw[e];simp;omega,by simpa using p⟩}}
theorem zJB {h:Host}{q:Int}(a:0<=q):(zbF h q).1<0↔zeR h.Mons q=0:=by unfold zbF;rw[show ilt q 0=false from qL (by omega),cond_false];exact(zAo h.Mons 0).1
theorem z6H {h:Host}(H:HOk h){q:Int}(j:0<=q)(c:¬ (zbF h q).1<0):hasB (zbF h q).1 (ln h.Mons)=true/\hasB (zbF h q).2 8=true/\(ix (ix h.Mons (zbF h q).1 mZ).Outer (zbF h q).2 sZ).Page=q:=by unfold zbF at c ⊢;rw[show ilt q 0=false from qL (by omega),cond_false]at c ⊢;obtain⟨a,b,d,f,e,g⟩:=(zAo h.Mons 0).2 c;rw[e,j4];have i:=(H.mons _ (jG d)).o8;exact⟨zF.2 (by unfold ln;simp;omega),zF.2 (by simp;omega),by rw[zl0 d,zl0 f];exact g⟩
theorem zUW {P:Nat->Bool}:∀{n i:Nat} {q:Int},q∈zxb P n i↔∃k:Nat,q=(k:Int)/\i<=k/\k<i+n/\P k=true
 | 0,i,q=>by simp[zxb];intro k _ _ _;omega
 |n+1,i,q=>by
  have d:=@zUW P n (i+1) q;unfold zxb;constructor
  .intro h;cases c:P i with
   |true=>rw[c,cond_true,qG]at h;rcases h with h|h;{exact⟨i,h,by omega,by omega,c⟩};{obtain⟨k,a,f,g,b⟩:=d.1 h;exact⟨k,a,by omega,by omega,b⟩}
   |false=>rw[c,cond_false]at h;obtain⟨k,a,f,g,b⟩:=d.1 h;exact⟨k,a,by omega,by omega,b⟩
  {rintro⟨k,a,f,g,b⟩;by_cases e:k=i;{subst e;rw[b,cond_true,a];exact jA};{have:=d.2 ⟨k,a,by omega,by omega,b⟩;cases P i;{exact this};{exact qX _ this}}}
theorem zIB {h:Host}{q:Int}:q∈zb4 h↔hasB q (ln h.Memory)=true/\zeR h.Mons q=0:=by unfold zb4;rw[zUW];constructor;{rintro⟨k,rfl,b,c,d⟩;exact⟨zF.2 (by unfold ln;omega),(zJB (by omega)).1 (qE d)⟩};{rintro⟨b,c⟩;have a:=zF.1 b;unfold ln at a;refine⟨q.toNat,by omega,by omega,by omega,?_⟩;rw[show ((q.toNat:Nat):Int)=q by omega];exact qJ ((zJB a.1).2 c)}
theorem z0R {h:Host}(a:zb4 h≠[]):hasB (ix (zb4 h) 0 0) (ln h.Memory)=true/\zeR h.Mons (ix (zb4 h) 0 0)=0:=by refine zIB.1 (zlc (zF.2 ⟨by omega,?_⟩) 0);unfold ln;have:=kR.2 a;omega
structure But (h r:Host) (m p:Int):Prop where
 ne:∀i k,hasB i (ln h.Mons)=true->hasB k 8=true->¬ (i=m/\k=p)->ix (ix r.Mons i mZ).Outer k sZ=ix (ix h.Mons i mZ).Outer k sZ
theorem zIi {h r:Host}{m p:Int}(a:hasB m (ln h.Mons)=true)(j:hasB p 8=true){x:Mon}{s:Slot}(b:r.Mons=up h.Mons m x)(g:x.Outer=up (ix h.Mons m mZ).Outer p s):But h r m p:=by refine⟨fun i k d f c=>?_⟩;rw[b];by_cases e:m=i;{subst e;rw[zbf a,g,zbt (zF.1 j).1 (zF.1 f).1 (fun e=>c ⟨rfl,e.symm⟩)]};{rw [zbt (zF.1 a).1 (zF.1 d).1 e]}
theorem z4G {h:Host}(H:HOk h){m p:Int}(a:hasB m (ln h.Mons)=true)(c:hasB p 8=true):But h (zdl h m p) m p/\ix (ix (zdl h m p).Mons m mZ).Outer p sZ=noSlot:=by have b:(zdl h m p).Mons=up h.Mons m (zjq {ix h.Mons m mZ with Out:=up (ix h.Mons m mZ).Out p (zcp h.Memory (ix (ix h.Mons m mZ).Outer p sZ).Page)} p noSlot):=zpf a rfl;refine⟨zIi a c b rfl,?_⟩;rw[b,zbf a];exact zbf ((H.mon a).hasO c) _ _
structure Roomy (h r:Host):Prop where
 op:Op h r
 free:zb4 r≠[]
 sl:∀i k,hasB i (ln h.Mons)=true->hasB k 8=true->ix (ix r.Mons i mZ).Outer k sZ=ix (ix h.Mons i mZ).Outer k sZ\/ix (ix r.Mons i mZ).Outer k sZ=noSlot
 dirt:∀i,(ix r.Mons i mZ).Dirty=(ix h.Mons i mZ).Dirty
theorem zNV {h r:Host}{m:Int}(c:hasB m (ln h.Mons)=true){x:Mon}(a:r.Mons=up h.Mons m x)(b:x.Dirty=(ix h.Mons m mZ).Dirty)(i:Int):(ix r.Mons i mZ).Dirty=(ix h.Mons i mZ).Dirty:=by
 rw[a];by_cases e:i.toNat=m.toNat
 {have:∀l:List Mon,ix l i mZ=ix l m mZ:=fun l=>(by unfold ix;rw[e]);rw[this,this,zbf c,b]};{unfold ix up;simp[List.getD,q9,Ne.symm e]}
theorem roomy {h:Host}(H:HOk h):Roomy h (zc5 h):=by unfold zc5;by_cases b:zb4 h=[];{rw [show ieq (ln (zb4 h)) 0=true by rw[b];rfl,cond_true];have p:¬ (zbF h 0).1<0:=fun d=>(by have:(0:Int)∈zb4 h:=zIB.2 ⟨zF.2 (by unfold ln;rw[H.m12];omega),(zJB (by omega)).1 d⟩;rw[b] at this;cases this);obtain⟨a,c,f⟩:=z6H H (by omega) p;have k:=zZD H a c (by rw[f];decide);have j:=z4G H a c;refine⟨k,fun d=>?_,fun i q g r=>?_,fun i=>zNV (x:=zjq {ix h.Mons (zbF h 0).1 mZ with Out:=up (ix h.Mons (zbF h 0).1 mZ).Out (zbF h 0).2 (zcp h.Memory (ix (ix h.Mons (zbF h 0).1 mZ).Outer (zbF h 0).2 sZ).Page)} (zbF h 0).2 noSlot) a (zpf a rfl) rfl i⟩;{have:(0:Int)∈zb4 (zdl h (zbF h 0).1 (zbF h 0).2):=(by refine zIB.2 ⟨zF.2 (by unfold ln;rw[k.ok.m12];omega),?_⟩;have n:(zdl h (zbF h 0).1 (zbF h 0).2).Mons=up h.Mons (zbF h 0).1 (zjq {ix h.Mons (zbF h 0).1 mZ with Out:=up (ix h.Mons (zbF h 0).1 mZ).Out (zbF h 0).2 (zcp h.Memory (ix (ix h.Mons (zbF h 0).1 mZ).Outer (zbF h 0).2 sZ).Page)} (zbF h 0).2 noSlot):=zpf a rfl;have l:=zzg a (zjq {ix h.Mons (zbF h 0).1 mZ with Out:=up (ix h.Mons (zbF h 0).1 mZ).Out (zbF h 0).2 (zcp h.Memory (ix (ix h.Mons (zbF h 0).1 mZ).Outer (zbF h 0).2 sZ).Page)} (zbF h 0).2 noSlot) 0;rw[<- n] at l;have m:=zT1 (x':=zjq {ix h.Mons (zbF h 0).1 mZ with Out:=up (ix h.Mons (zbF h 0).1 mZ).Out (zbF h 0).2 (zcp h.Memory (ix (ix h.Mons (zbF h 0).1 mZ).Outer (zbF h 0).2 sZ).Page)} (zbF h 0).2 noSlot) ((H.mon a).hasO c) (s:=noSlot) rfl 0;rw[if_pos f,if_neg (by decide)] at m;have t:=H.uq 0 (by omega);omega);rw[d] at this;cases this};{by_cases e:i=(zbF h 0).1/\q=(zbF h 0).2;{rw [e.1,e.2];exact .inr j.2};{exact .inl (j.1.ne i q g r e)}}};{have:ieq (ln (zb4 h)) 0=false:=zbV.2 (by unfold ln;have:=kR.2 b;omega);rw[this,cond_false];exact⟨Op.refl H,b,fun i k g u=>.inl rfl,fun _=>rfl⟩}
theorem zY5 {m:List (List Int)}{p:Int}{c:List Int}(b:hasB p (ln m)=true)(a:zcl c=true):zg5 m p c=up m p c:=by unfold zg5;rw[b,a];rfl
theorem zD0 {m:List (List Int)}{p q:Int}{c:List Int}(a:0<=p)(h:q≠p):zcp (up m p c) q=zcp m q:=by unfold zcp;rw[zdz];cases b:hasB q (ln m) with|false=>rfl|true=>rw[cond_true,cond_true,zbt a (zF.1 b).1 (Ne.symm h)]
theorem zDZ {m:List (List Int)}{p:Int}{c:List Int}(a:hasB p (ln m)=true):zcp (up m p c) p=c:=by rw[zkG (by rw[zdz];exact a),zbf a]
theorem z1o {h:Host}(H:HOk h){m p to:Int}(b:hasB m (ln h.Mons)=true)(d:hasB p 8=true)(y:(ix (ix h.Mons m mZ).Outer p sZ).Page = -1)(t:hasB to (ln h.Memory)=true)(A:zeR h.Mons to=0) :
 Op h (zeF h m p to)/\But h (zeF h m p to) m p/\ix (ix (zeF h m p to).Mons m mZ).Outer p sZ=⟨to,3⟩/\∀i,(ix (zeF h m p to).Mons i mZ).Dirty=(ix h.Mons i mZ).Dirty:=by
 have X:=H.mon b;have f:=zF.1 t;unfold ln at f;rw[H.m12]at f;have j:(zeF h m p to).Mons=up h.Mons m (zjq {ix h.Mons m mZ with Out:=up (ix h.Mons m mZ).Out p []} p ⟨to,3⟩):=zpf b rfl;have k:Chg (ix h.Mons m mZ) (zjq {ix h.Mons m mZ with Out:=up (ix h.Mons m mZ).Out p []} p ⟨to,3⟩) p ⟨to,3⟩ []:=zDd rfl rfl rfl rfl rfl rfl rfl rfl rfl;have g:=((zpD (X.slot d)).1 (X.fit p d)).1 y;have a:(zeF h m p to).Memory=up h.Memory to (ix (ix h.Mons m mZ).Out p []):=by show (zb8 (landing h m p to) m p ⟨to,3⟩).Memory=_;rw[zxA];exact zY5 t g
 have z:SOk ⟨to,3⟩:=.inr ⟨f.1,by show to<=11;omega,by show (1:Int)<=3;omega,by show (3:Int)<=3;omega⟩
 have v:=zu1 (h:=landing h m p to) (m:=m) (p:=p) (s:=⟨to,3⟩) H.b1 H.b2;refine⟨⟨zwR H b d j k z ((zpD z).2 ⟨fun h=>absurd h (by show to≠-1;omega),fun _=>⟨show enough 3 1=true by decide,rfl⟩⟩) (by rw[a,zbM];exact H.m12) (fun c n=>?_) v.1 v.2 (fun _=>.inr A),
  zvK H b d j k ?_ (fun i q w C n B=>?_),fun R=>?_⟩,zIi b d j rfl,?_,fun i=>zNV (x:=zjq {ix h.Mons m mZ with Out:=up (ix h.Mons m mZ).Out p []} p ⟨to,3⟩) b j rfl i⟩
 .rw [a]at n;rcases qW n with l|l
  .exact H.pgs c l
  .rw [l];exact g
 .rw [znq b d (X.hasO d),zbr.2 y,cond_true,zkG (X.hasU d)];rw[show ieq (⟨to,3⟩:Slot).Page (-1)=false from zbV.2 (by show to≠-1;omega),cond_false,a]
  exact zDZ t
 .rw [a];refine zD0 f.1 (fun e=>?_);have:=zIj w ((H.mon w).hasO C);rw[e] at this;omega
 .have R1:Rt (landing h m p to):=zMU (x:={ix h.Mons m mZ with Out:=up (ix h.Mons m mZ).Out p []}) R b rfl rfl rfl rfl (fun _ _=>rfl) rfl rfl;have r:hasB m (ln (landing h m p to).Mons)=true:=by show hasB m (ln (up h.Mons m _))=true;rw[zdz];exact b
  have u:ix (landing h m p to).Mons m mZ={ix h.Mons m mZ with Out:=up (ix h.Mons m mZ).Out p []}:=zbf b _ _;exact zAv R1 r (by rw[u];exact X.hasO d) (by rw[u];exact X.gt) _
 .rw [j,zbf b];exact zbf (X.hasO d) _ _
theorem zMH {h:Host}(H:HOk h){m p:Int}(e:hasB m (ln h.Mons)=true)(f:hasB p 8=true)(j:(ix (ix h.Mons m mZ).Outer p sZ).Page = -1) :
 Op h (fetched h m p)/\(∃to,0<=to/\to<=11/\ix (ix (fetched h m p).Mons m mZ).Outer p sZ=⟨to,3⟩)/\∀i,(ix (fetched h m p).Mons i mZ).Dirty=(ix h.Mons i mZ).Dirty:=by
 have R:=roomy H;have c:hasB m (ln (zc5 h).Mons)=true:=by rw[R.op.like.has];exact e
 have d:(ix (ix (zc5 h).Mons m mZ).Outer p sZ).Page = -1:=by rcases R.sl m p e f with b|b<;>rw [b];{exact j};{rfl}
 obtain⟨b,g⟩:=z0R R.free;obtain⟨k,q,l,n⟩:=z1o R.op.ok c f d b g;have a:=zF.1 b;unfold ln at a;rw[R.op.ok.m12]at a;exact⟨R.op.trans k,⟨_,a.1,by omega,l⟩,fun i=>(n i).trans (R.dirt i)⟩
theorem znA {o:List Slot}{p:Int}(h:hasB p (ln o)=true):zbz o p=ix o p sZ:=by unfold zbz;rw[h];rfl
theorem zkH {h:Host}(H:HOk h){m p:Int}(a:hasB m (ln h.Mons)=true)(b:hasB p 8=true) :
 (cond (ieq (ix (ix h.Mons m mZ).Outer p sZ).Page (-1)) (ix (ix h.Mons m mZ).Out p []) (zcp h.Memory (ix (ix h.Mons m mZ).Outer p sZ).Page))=zcB h m p:=by
 rw[znq a b ((H.mon a).hasO b),zkG ((H.mon a).hasU b)]
structure Mark (x y:Mon):Prop where
 o:y.Outer=x.Outer
 u:y.Out=x.Out
 g:y.Guests=x.Guests
 t:y.Tables=x.Tables
 d:y.Dirty.length=x.Dirty.length
 a1:y.Outs=x.Outs
 a2:y.Pending=x.Pending
 a3:y.Traps=x.Traps
 a4:y.Own=x.Own
theorem zZC {h:Host}(H:HOk h){m:Int}(b:hasB m (ln h.Mons)=true){y:Mon}(k:Mark (ix h.Mons m mZ) y):Op h {h with Mons:=up h.Mons m y}/\∀i q,ix (ix (up h.Mons m y) i mZ).Outer q sZ=ix (ix h.Mons i mZ).Outer q sZ:=by
 have X:=H.mon b;have a:hasB 0 8=true:=(by decide);have c:Chg (ix h.Mons m mZ) y 0 (ix (ix h.Mons m mZ).Outer 0 sZ) (ix (ix h.Mons m mZ).Out 0 []):=⟨by rw[zJ4 (X.hasO a),k.o],by rw[zJ4 (X.hasU a),k.u],k.g,by rw[k.t],k.d,k.a1,k.a2,k.a3,k.a4⟩
 refine⟨⟨zwR H b a rfl c (X.slot a) (X.fit 0 a) H.m12 H.pgs H.b1 H.b2 (fun _=>.inl rfl),zvK H b a rfl c (zkH H b a) (fun _ _ _ _ _ _=>rfl),
  fun R=>zMU R b rfl rfl rfl (by rw[k.g]) (fun g _=>by rw[k.g]) k.t k.o⟩,fun i q=>?_⟩
 by_cases e:i.toNat=m.toNat
 {have:∀l:List Mon,ix l i mZ=ix l m mZ:=fun l=>(by unfold ix;rw[e]);rw[this,this,zbf b,k.o]};{have:ix (up h.Mons m y) i mZ=ix h.Mons i mZ:=(by unfold ix up;simp[List.getD,q9,Ne.symm e]);rw[this]}
theorem zMG {h:Host}(H:HOk h){m:Int}(a:hasB m (ln h.Mons)=true)(p:Int):Op h (zbI h m p)/\∀i q,ix (ix (zbI h m p).Mons i mZ).Outer q sZ=ix (ix h.Mons i mZ).Outer q sZ :=
 zZC H a ⟨rfl,rfl,rfl,rfl,zbM _ _ _,rfl,rfl,rfl,rfl⟩
theorem z4f {h:Host}(H:HOk h){m:Int}(a:hasB m (ln h.Mons)=true)(p:Int):Op h (zlL h m p)/\∀i q,ix (ix (zlL h m p).Mons i mZ).Outer q sZ=ix (ix h.Mons i mZ).Outer q sZ :=
 zZC H a ⟨rfl,rfl,rfl,rfl,zbM _ _ _,rfl,rfl,rfl,rfl⟩
theorem rights {r:Int}(a:1<=r)(b:r<=3):r=1\/r=2\/r=3:=by omega
theorem MOk.enough1 {x:Mon}(X:MOk x){p:Int}(a:hasB p 8=true)(d:(ix x.Outer p sZ).Page≠-1):(ix x.Outer p sZ).Rights=1\/(ix x.Outer p sZ).Rights=3:=by have b:=(((zpD (X.slot a)).1 (X.fit p a)).2 d).1;have c:=(X.slot a).pos d;rcases rights c.2.2.1 c.2.2.2 with e|e|e;{exact .inl e};{rw [e]at b;exact absurd b (by decide)};{exact .inr e}
theorem zRr {h:Host}(H:HOk h){m p:Int}(c:hasB m (ln h.Mons)=true)(b:hasB p 8=true)(g:(ix (ix h.Mons m mZ).Outer p sZ).Page≠-1){r:Int}(n:r=1\/r=3) :
 Op h (zb8 h m p ⟨(ix (ix h.Mons m mZ).Outer p sZ).Page,r⟩)/\But h (zb8 h m p ⟨(ix (ix h.Mons m mZ).Outer p sZ).Page,r⟩) m p/\
  ix (ix (zb8 h m p ⟨(ix (ix h.Mons m mZ).Outer p sZ).Page,r⟩).Mons m mZ).Outer p sZ=⟨(ix (ix h.Mons m mZ).Outer p sZ).Page,r⟩/\∀i,(ix (zb8 h m p ⟨(ix (ix h.Mons m mZ).Outer p sZ).Page,r⟩).Mons i mZ).Dirty=(ix h.Mons i mZ).Dirty:=by
 have X:=H.mon c;have d:=(X.slot b).pos g;have e:=zsH h m p ⟨(ix (ix h.Mons m mZ).Outer p sZ).Page,r⟩;have k:Chg (ix h.Mons m mZ) (zjq (ix h.Mons m mZ) p ⟨(ix (ix h.Mons m mZ).Outer p sZ).Page,r⟩) p ⟨(ix (ix h.Mons m mZ).Outer p sZ).Page,r⟩ (ix (ix h.Mons m mZ).Out p []):=
  zDd rfl (zJ4 (X.hasU b) _).symm rfl rfl rfl rfl rfl rfl rfl
 have l:SOk ⟨(ix (ix h.Mons m mZ).Outer p sZ).Page,r⟩:=.inr ⟨d.1,d.2.1,by show 1<=r;omega,by show r<=3;omega⟩
 have f:=((zpD (X.slot b)).1 (X.fit p b)).2 g;have j:=zu1 (h:=h) (m:=m) (p:=p) (s:=⟨(ix (ix h.Mons m mZ).Outer p sZ).Page,r⟩) H.b1 H.b2;have a:=zxA h m p ⟨(ix (ix h.Mons m mZ).Outer p sZ).Page,r⟩;refine⟨⟨zwR H c b e k l ((zpD l).2 ⟨fun h=>absurd h g,fun _=>⟨?_,f.2⟩⟩) (by rw[a];exact H.m12) (by rw[a];exact H.pgs) j.1 j.2 (fun _=>.inl rfl),
  zvK H c b e k (by rw[a];exact zkH H c b) (fun i q _ _ _ _=>by rw[a]),fun R=>zAv R c (X.hasO b) X.gt _⟩,zIi c b e rfl,?_,fun i=>zNV c e rfl i⟩
 .show enough r 1=true
  rcases n with rfl|rfl<;>decide
 .rw [e,zbf c];exact zbf (X.hasO b) _ _
structure Mended (h r:Host) (m p n:Int):Prop where
 op:Op h r
 inn:(ix (ix r.Mons m mZ).Outer p sZ).Page≠-1
 ri:ieq (wand .i64 n 2) 0=false->(ix (ix r.Mons m mZ).Outer p sZ).Rights=3
 dt:ieq (wand .i64 n 2) 0=false->ix (ix r.Mons m mZ).Dirty p false=true
 d0:ieq (wand .i64 n 2) 0=true->(ix r.Mons m mZ).Dirty=(ix h.Mons m mZ).Dirty
 dk:∀k,hasB k 8=true->k≠p->ix (ix r.Mons m mZ).Dirty k false=ix (ix h.Mons m mZ).Dirty k false
 dm:∀i,hasB i (ln h.Mons)=true->i≠m->(ix r.Mons i mZ).Dirty=(ix h.Mons i mZ).Dirty
theorem zV5 {h:Host}(H:HOk h){m p:Int}(n:Int)(c:hasB m (ln h.Mons)=true)(g:hasB p 8=true)(v:(ix (ix h.Mons m mZ).Outer p sZ).Page≠-1):Mended h (zi7 h m p n) m p n:=by
 unfold zi7;cases s:ieq (wand .i64 n 2) 0 with
 |true=>exact⟨Op.refl H,v,fun e=>(Bool.noConfusion (s.symm.trans e)),fun e=>(Bool.noConfusion (s.symm.trans e)),fun _=>rfl,fun _ _ _=>rfl,fun _ _ _=>rfl⟩
 |false=>rw[cond_false];obtain⟨f,C⟩:=zMG H c p;have d:hasB m (ln (zbI h m p).Mons)=true:=(by rw[f.like.has];exact c);have a:(ix (ix (zbI h m p).Mons m mZ).Outer p sZ).Page≠-1:=(by rw[C];exact v);have u:(ix (zbI h m p).Mons m mZ).Dirty=up (ix h.Mons m mZ).Dirty p true:=(by show (ix (up h.Mons m _) m mZ).Dirty=_;rw[zbf c]);have l:∀i,hasB i (ln h.Mons)=true->i≠m->(ix (zbI h m p).Mons i mZ).Dirty=(ix h.Mons i mZ).Dirty:=fun i q b=>(by show (ix (up h.Mons m _) i mZ).Dirty=_;rw[zbt (zF.1 c).1 (zF.1 q).1 (Ne.symm b)]);have A:=(f.ok.mon d).enough1 g a;have t:∀r:Host,(∀i,(ix r.Mons i mZ).Dirty=(ix (zbI h m p).Mons i mZ).Dirty)->Op (zbI h m p) r->(ix (ix r.Mons m mZ).Outer p sZ).Page≠-1->(ix (ix r.Mons m mZ).Outer p sZ).Rights=3->Mended h r m p n:=(by intro r j x y z;refine⟨f.trans x,y,fun _=>z,fun _=>?_,fun e=>(Bool.noConfusion (s.symm.trans e)),fun k B b=>?_,fun i q b=>by rw[j,l i q b]⟩;{rw [j,u,zbf ((H.mon c).hasD g)]};{rw [j,u,zbt (zF.1 g).1 (zF.1 B).1 (Ne.symm b)]});unfold opened;rcases A with e|e;{rw [e,show ieq (wand .i64 1 2) 0=true by decide,cond_true];obtain⟨D,F,w,E⟩:=zRr f.ok d g a (r:=3) (.inr rfl);exact t _ E D (by rw[w];exact a) (by rw[w])};{rw [e,show ieq (wand .i64 3 2) 0=false by decide,cond_false];exact t _ (fun _=>rfl) (Op.refl f.ok) a e}
theorem zRp {h:Host}(H:HOk h){m p:Int}(n:Int)(c:hasB m (ln h.Mons)=true)(d:hasB p 8=true):Mended h (mended h m p n) m p n:=by unfold mended;by_cases e:(ix (ix h.Mons m mZ).Outer p sZ).Page = -1;{rw [zbr.2 e,cond_true];obtain⟨a,⟨q,r,s,l⟩,f⟩:=zMH H c d e;have K:=zV5 a.ok n (by rw[a.like.has];exact c) d (by rw[l];show q≠-1;omega);exact⟨a.trans K.op,K.inn,K.ri,K.dt,fun e=>by rw[K.d0 e,f],fun k j b=>by rw[K.dk k j b,f],fun i g b=>by rw[K.dm i (by rw[a.like.has];exact g) b,f]⟩};{rw [zbV.2 e,cond_false];exact zV5 H n c d e}
theorem zoc {h:Host}{m p:Int}:zbU h m p=true↔HOk h/\hasB m (ln h.Mons)=true/\hasB p 8=true:=by unfold zbU;rw[zb9,zb9,zil]
theorem zMI {h:Host}(H:HOk h)(m p:Int):Op h (zli h m p):=by unfold zli;cases a:zbU h m p with|false=>exact Op.refl H|true=>obtain⟨_,b,c⟩:=zoc.1 a;rw[cond_true];unfold zhb;by_cases e:(ix (ix h.Mons m mZ).Outer p sZ).Page = -1;{rw [zbr.2 e];exact Op.refl H};{rw [zbV.2 e];exact zZD H b c e}
theorem zRq {h:Host}(H:HOk h)(m p:Int):Op h (zix h m p):=by unfold zix;cases a:zbU h m p with|false=>exact Op.refl H|true=>obtain⟨_,b,c⟩:=zoc.1 a;rw[cond_true];unfold zhb;by_cases e:(ix (ix h.Mons m mZ).Outer p sZ).Page = -1;{rw [zbr.2 e];exact(zMH H b c e).1};{rw [zbV.2 e];exact Op.refl H}
theorem zRo {h:Host}(H:HOk h)(m p:Int):Op h (znU h m p):=by unfold znU;cases g:zbU h m p with|false=>exact Op.refl H|true=>obtain⟨_,b,c⟩:=zoc.1 g;rw[cond_true];obtain⟨a,d⟩:=z4f H b p;(cases e:zcV (ix (ix h.Mons m zh).Outer p zQ) noSlot with|true=>exact a|false=>rw[cond_false];have i:(ix (ix h.Mons m mZ).Outer p sZ).Page≠-1:=fun f=>zrZ.1 e (((H.mon b).slot c).none f);have:=zRr a.ok (m:=m) (p:=p) (by rw[a.like.has];exact b) c (by rw[d];exact i) (r:=1) (.inl rfl);rw[d m p] at this;exact a.trans this.1)
structure KeepP (x y:Mon):Prop where
 o:y.Outer=x.Outer
 u:y.Out=x.Out
theorem zMN {h r:Host}{m:Int}(b:hasB m (ln h.Mons)=true){y:Mon}(c:r.Mons=up h.Mons m y)(a:r.Memory=h.Memory)(k:KeepP (ix h.Mons m mZ) y)(i q:Int):zcB r i q=zcB h i q:=by unfold zcB;rw[c,zdz,a];cases d:hasB i (ln h.Mons) with|false=>rfl|true=>by_cases e:m=i;{subst e;rw[zbf b,k.o,k.u]};{rw [zbt (zF.1 b).1 (zF.1 d).1 e]}
theorem zuX {h r:Host}{m:Int}(b:hasB m (ln h.Mons)=true){y:Mon}(c:r.Mons=up h.Mons m y)(a:r.Memory=h.Memory)(k:KeepP (ix h.Mons m mZ) y)(i:Int) :
 zG r i=bif ieq i m then ⟨(zG h i).Memory,y.Guests,y.Outs,y.Pending⟩ else zG h i:=by
 have f:zct r i 8 0=zct h i 8 0:=zqG 8 0 (fun j _ _=>zMN b c a k i j);unfold zG;rw[f,c,zdz]
 by_cases e:i=m
 .subst e;rw[b,zbr.2 rfl,zbf b];rfl
 .rw [zbV.2 e,cond_false];cases d:hasB i (ln h.Mons) with
  |false=>rfl
  |true=>rw[zbt (zF.1 b).1 (zF.1 d).1 (Ne.symm e)]
theorem zkA {x y:Mon}(X:MOk x)(k:KeepP x y)(g:y.Guests.length=x.Guests.length)(t:y.Tables.length=x.Tables.length)(d:y.Dirty.length=x.Dirty.length)(o:y.Outs.length<=40)(p:zc3 y.Pending=true)(tr:win y.Traps 0 3=true)(b:win y.Own 0 1000000000=true)(a:∀g∈y.Guests,zde g=true):MOk y :=
 ⟨by rw[g];exact X.g1,by rw[g];exact X.g2,by rw[t,g];exact X.gt,by rw[k.o];exact X.o8,by rw[k.o];exact X.sl,by rw[k.u];exact X.u8,by rw[d];exact X.d8,o,p,tr,b,a,by rw[k.o,k.u];exact X.fit⟩
theorem zUN {h:Host}(H:HOk h){m:Int}(a:hasB m (ln h.Mons)=true){y:Mon}(k:KeepP (ix h.Mons m mZ) y)(b:MOk y):HOk {h with Mons:=up h.Mons m y} :=
 H.up a b rfl H.m12 H.pgs H.b1 H.b2 fun q _=>.inl (by unfold cPg;rw[k.o];exact qZ _)
theorem zwO {h:Host}(S:Safe h){m:Int}(a:hasB m (ln h.Mons)=true){y:Mon}(k:KeepP (ix h.Mons m mZ) y)(d:MOk y)(hg:y.Guests.length=(ix h.Mons m mZ).Guests.length)(c:∀g,hasB g (ln (ix h.Mons m mZ).Guests)=true->(ix y.Guests g gZ).Live=(ix (ix h.Mons m mZ).Guests g gZ).Live)(b:y.Tables=(ix h.Mons m mZ).Tables):Safe {h with Mons:=up h.Mons m y} :=
 ⟨zUN S.ok a k d,zMU S.rt a rfl rfl rfl hg c b k.o⟩
theorem zS9 {h:Host}(S:Safe h)(m t:Int):Safe (zjo h m t)/\∀i,zG (zjo h m t) i=zG h i:=by
 unfold zjo;rw[zil.2 S.ok,cond_true];cases a:hasB m (ln h.Mons) with
 |false=>exact⟨S,fun _=>rfl⟩
 |true=>
  cases b:win t 0 3 with
  |false=>exact⟨S,fun _=>rfl⟩
  |true=>have X:=S.ok.mon a;have k:KeepP (ix h.Mons m mZ) {ix h.Mons m mZ with Traps:=t}:=⟨rfl,rfl⟩;refine⟨zwO S a k (zkA X k rfl rfl rfl X.outs X.pend b X.own X.gs) rfl (fun _ _=>rfl) rfl,fun i=>?_⟩;rw[cond_true,cond_true];refine(zuX (h:=h) (r:={h with Mons:=up h.Mons m {ix h.Mons m mZ with Traps:=t}}) a rfl rfl k i).trans ?_;by_cases e:i=m;{subst e;rw[zbr.2 rfl,cond_true];unfold zG;rw[a];rfl};{rw [zbV.2 e];rfl}
theorem zHp:∀(n i:Nat) (k:Kept),(zik n i k).Known.length=k.Known.length/\(zik n i k).Slots.length=k.Slots.length
 | 0,i,k=>⟨rfl,rfl⟩
 |n+1,i,k=>by have a:=zHp n (i+1) (zbR k (i:Int));have b:=zkq k (i:Int);exact⟨a.1.trans b.1,a.2.trans b.2⟩
theorem zLe:∀(n i:Nat) (k:Kept),k.Known.length=k.Slots.length->∀j,hasB j (ln k.Known)=true->
 ((i:Int)<=j/\j<((i+n:Nat):Int)->ix (zik n i k).Known j false=false/\ix (zik n i k).Slots j sZ=noSlot)/\
 (¬ ((i:Int)<=j/\j<((i+n:Nat):Int))->ix (zik n i k).Known j false=ix k.Known j false/\ix (zik n i k).Slots j sZ=ix k.Slots j sZ)
 | 0,i,k,_,j,_=>⟨fun h=>by omega,fun _=>⟨rfl,rfl⟩⟩
 |n+1,i,k,g,j,f=>by have b:=zkq k (i:Int);have d:=zxa (q:=(i:Int)) g f;have c:=zLe n (i+1) (zbR k (i:Int)) (by rw[b.1,b.2,g]) j (by unfold ln at f ⊢;rwa [b.1]);rw[zik];by_cases a:((i+1:Nat):Int)<=j/\j<((i+1+n:Nat):Int);{exact⟨fun _=>c.1 a,fun h=>absurd (by omega) h⟩};{rw [(c.2 a).1,(c.2 a).2,d.1,d.2];by_cases e:(i:Int)=j;{rw [zbr.2 e];exact⟨fun _=>⟨rfl,rfl⟩,fun h=>absurd (by omega) h⟩};{rw [zbV.2 e];exact⟨fun h=>absurd (by omega) a,fun _=>⟨rfl,rfl⟩⟩}}
theorem zSg {k:Kept}{a b:List Slot}(h:KOk k a b):KOk (zi0 k) a b:=by have e:=zHp k.Known.length 0 k;refine⟨e.1.trans h.l1,e.2.trans h.l2,fun i f=>?_⟩;have c:hasB i (ln k.Known)=true:=(by unfold ln at f ⊢;rwa [h.l1]);have d:=zF.1 c;unfold ln at d;have:=(zLe k.Known.length 0 k (by rw[h.l1,h.l2]) i c).1 ⟨by omega,by omega⟩;unfold zi0;rw[this.1,this.2];rfl
theorem zK3:∀(n j:Nat) (l:List Kept),(zvl n j l).length=l.length
 | 0,_,_=>rfl
 |n+1,j,l=>by rw[zvl,zK3 n,zbM]
theorem zT5:∀(n j:Nat) (l:List Kept),j+n<=l.length->∀g,0<=g->ix (zvl n j l) g kZ=if (j:Int)<=g/\g<((j+n:Nat):Int) then zi0 (ix l g kZ) else ix l g kZ
 | 0,j,l,_,g,hg=>by rw[if_neg (by omega)];rfl
 |n+1,j,l,a,g,hg=>by rw[zvl,zT5 n (j+1) _ (by rw[zbM];omega) g hg];by_cases e:(j:Int)=g;{subst e;rw[if_neg (by omega),if_pos (by omega),zbf (zF.2 ⟨by omega,by unfold ln;omega⟩)]};{rw [zbt (by omega) hg e];by_cases h:((j+1:Nat):Int)<=g/\g<((j+1+n:Nat):Int);{rw [if_pos h,if_pos (by omega)]};{rw [if_neg h,if_neg (by omega)]}}
theorem zK2:∀(n i:Nat) (l:List Mon),(znL n i l).length=l.length
 | 0,_,_=>rfl
 |n+1,i,l=>by rw[znL,zK2 n,zbM]
theorem zQQ:∀(n i:Nat) (l:List Mon),i+n<=l.length->∀m,0<=m->ix (znL n i l) m mZ=if (i:Int)<=m/\m<((i+n:Nat):Int) then zvm (ix l m mZ) (ix l m mZ).Tables.length 0 else ix l m mZ
 | 0,i,l,_,m,a=>by rw[if_neg (by omega)];rfl
 |n+1,i,l,b,m,a=>by rw[znL,zQQ n (i+1) _ (by rw[zbM];omega) m a];by_cases e:(i:Int)=m;{subst e;rw[if_neg (by omega),if_pos (by omega),zbf (zF.2 ⟨by omega,by unfold ln;omega⟩)]};{rw [zbt (by omega) a e];by_cases h:((i+1:Nat):Int)<=m/\m<((i+1+n:Nat):Int);{rw [if_pos h,if_pos (by omega)]};{rw [if_neg h,if_neg (by omega)]}}
theorem z5t (h:Host){m:Int}(a:hasB m (ln h.Mons)=true):ix (cold h).Mons m mZ=zvm (ix h.Mons m mZ) (ix h.Mons m mZ).Tables.length 0:=by have:=zF.1 a;unfold ln at this;show ix (znL h.Mons.length 0 h.Mons) m mZ=_;rw[zQQ _ _ _ (by omega) m this.1,if_pos (by omega)]
theorem zxW (h:Host):(cold h).Mons.length=h.Mons.length:=zK2 _ _ _
theorem zIl (h:Host)(m:Int):hasB m (ln (cold h).Mons)=hasB m (ln h.Mons):=by unfold ln;rw[zxW]
theorem z9I {l a:List Mon}(d:a.length=l.length)(h:∀m,hasB m (ln l)=true->(ix a m mZ).Outer=(ix l m mZ).Outer)(q:Int):zeR a q=zeR l q:=by have:a.map (fun x=>cPg x q)=l.map (fun x=>cPg x q):=(by refine List.ext_getElem (by simp[d]) fun k b c=>?_;simp only[uL]at b c;have:=h (k:Int) (zF.2 ⟨by omega,by unfold ln;omega⟩);rw[zl0 b,zl0 c] at this;simp[cPg,this]);unfold zeR;rw[this]
theorem zbaK {h:Host}(H:HOk h):Op h (cold h):=by have c:∀m,hasB m (ln h.Mons)=true->ix (cold h).Mons m mZ=zvm (ix h.Mons m mZ) (ix h.Mons m mZ).Tables.length 0:=fun m a=>z5t h a;have n:∀i q,zcB (cold h) i q=zcB h i q:=(by intro i q;unfold zcB;rw[zIl];cases b:hasB i (ln h.Mons) with|false=>rfl|true=>rw[c i b];rfl);refine⟨⟨H.m12,H.pgs,by rw[zxW];exact H.n1,by rw[zxW];exact H.n3,rfl,rfl,fun y s=>?_,fun q r=>?_⟩,⟨zxW h,fun i b=>by rw[c i b];rfl,fun i b=>by rw[c i b];rfl,fun i b=>by rw[c i b];rfl,fun i b=>by rw[c i b];rfl,fun i b=>by rw[c i b];rfl,fun i k _ _=>n i k⟩,fun R=>⟨fun m a=>?_,fun e j=>(by cases j),fun e j=>(by cases j)⟩⟩;{obtain⟨m,a,rfl⟩:=zVX s mZ;rw[zIl]at a;rw[c m a];have X:=H.mon a;have k:KeepP (ix h.Mons m mZ) (zvm (ix h.Mons m mZ) (ix h.Mons m mZ).Tables.length 0):=⟨rfl,rfl⟩;exact zkA X k rfl (zK3 _ _ _) rfl X.outs X.pend X.tr X.own X.gs};{rw [z9I (l:=h.Mons) (zxW h) (fun m a=>by rw[c m a];rfl)];exact H.uq q r};{rw [zIl]at a;rw[c m a];have X:=H.mon a;intro g hg;show KOk (ix (zvl (ix h.Mons m mZ).Tables.length 0 (ix h.Mons m mZ).Tables) g kZ) (ix (ix h.Mons m mZ).Guests g gZ).Live (ix h.Mons m mZ).Outer;have d:hasB g (ln (ix h.Mons m mZ).Guests)=true:=hg;have f:=zF.1 d;unfold ln at f;have p:=X.gt;rw[zT5 _ _ _ (by omega) g f.1,if_pos (by omega)];exact zSg (R.t m a g d)}
theorem zW1 {m g:Int}(c:win m 0 2=true)(hg:win g 0 1=true):zdn (zez m g)=m/\zdX (zez m g)=g/\1<=zez m g/\zez m g<=6:=by have d:=zcG.1 c;have e:=zcG.1 hg;have a:m=0\/m=1\/m=2:=(by omega);have b:g=0\/g=1:=(by omega);rcases a with rfl|rfl|rfl<;>rcases b with rfl|rfl<;>decide
theorem HOk.tag {h:Host}(H:HOk h){m g:Int}(a:hasB m (ln h.Mons)=true)(hg:hasB g (ln (ix h.Mons m mZ).Guests)=true):win m 0 2=true/\win g 0 1=true:=by have b:=zF.1 a;have c:=zF.1 hg;have d:=H.n3;have e:=(H.mon a).g2;unfold ln at b c;exact⟨zcG.2 (by omega),zcG.2 (by omega)⟩
theorem zfV {r:Int}:zcY r=true↔r=0\/r=1\/r=2\/r=3:=by unfold zcY ige ile;rw[qD,q0,q0];omega
theorem zrv {a b:Int}(h:enough a b=true):zcY a=true/\zcY b=true:=by unfold enough at h;rw[zb9,zb9]at h;exact⟨h.1,h.2.1⟩
theorem zUx {a b c:Int}(d:enough a b=true)(e:enough b c=true):enough a c=true:=by have f:=zfV.1 (zrv d).1;have g:=zfV.1 (zrv d).2;have h:=zfV.1 (zrv e).2;rcases f with rfl|rfl|rfl|rfl<;>rcases g with rfl|rfl|rfl|rfl<;>rcases h with rfl|rfl|rfl|rfl<;>revert d e<;>decide
theorem zXD {a b n:Int}(g:n=1\/n=2)(c:enough a n=true)(d:enough b n=true):zdO a b≠0/\enough (zdO a b) n=true:=by have e:=zfV.1 (zrv c).1;have f:=zfV.1 (zrv d).1;rcases g with rfl|rfl<;>rcases e with rfl|rfl|rfl|rfl<;>rcases f with rfl|rfl|rfl|rfl<;>revert c d<;>decide
theorem both_ok (a b:Int):zcY (zdO a b)=true:=by
 unfold zdO;cases c:zcY a with
 |false=>rfl
 |true=>
  cases d:zcY b with
  |false=>rfl
  |true=>have c:=zfV.1 c;have d:=zfV.1 d;rcases c with rfl|rfl|rfl|rfl<;>rcases d with rfl|rfl|rfl|rfl<;>decide
theorem zXM {a:Int}(h:zcY a=true):enough a a=true:=by rcases zfV.1 h with rfl|rfl|rfl|rfl<;>decide
theorem zqs {n:Int}(a:n=1\/n=2):enough 0 n=false:=by rcases a with rfl|rfl<;>decide
theorem z0n {s:Slot}{o:List Slot}(a:s.Page≠-1)(b:(zbz o s.Page).Page≠-1):zbv s o=bif ieq (zdO s.Rights (zbz o s.Page).Rights) 0 then noSlot else ⟨(zbz o s.Page).Page,zdO s.Rights (zbz o s.Page).Rights⟩:=by unfold zbv;rw[zbV.2 a,zbV.2 b];rfl
theorem zpy {s:Slot}{o:List Slot}{n:Int}(c:n=1\/n=2)(h:enough (zbv s o).Rights n=true):s.Page≠-1/\(zbz o s.Page).Page≠-1/\(zbv s o).Page=(zbz o s.Page).Page:=by unfold zbv at h ⊢;by_cases a:s.Page = -1;{rw [zbr.2 a,cond_true]at h;rw[show noSlot.Rights=0 from rfl,zqs c]at h;cases h};{rw [zbV.2 a,cond_false]at h ⊢;by_cases b:(zbz o s.Page).Page = -1;{rw [zbr.2 b,cond_true]at h;rw[show noSlot.Rights=0 from rfl,zqs c]at h;cases h};{rw [zbV.2 b,cond_false]at h ⊢;by_cases d:zdO s.Rights (zbz o s.Page).Rights=0;{rw [zbr.2 d,cond_true]at h;rw[show noSlot.Rights=0 from rfl,zqs c]at h;cases h};{rw [zbV.2 d];exact⟨a,b,rfl⟩}}}
theorem zT6 {s:Slot}{o:List Slot}{n:Int}(e:n=1\/n=2)(a:s.Page≠-1)(b:(zbz o s.Page).Page≠-1)(c:enough s.Rights n=true)(d:enough (zbz o s.Page).Rights n=true) :
 (zbv s o).Page=(zbz o s.Page).Page/\enough (zbv s o).Rights n=true:=by
 have:=zXD e c d;rw[z0n a b,zbV.2 this.1];exact⟨rfl,this.2⟩
theorem z0o (s:Slot)(o:List Slot):zcY (zbv s o).Rights=true:=by unfold zbv;cases ieq s.Page (-1)<;>cases ieq (zbz o s.Page).Page (-1)<;>cases ieq (zdO s.Rights (zbz o s.Page).Rights) 0<;>first|rfl|exact both_ok _ _
theorem zzS {b:List Entry}{t p:Int}{e:Entry}:e∈zcD b t p↔e∈b/\¬ (e.Tag=t/\e.Page=p):=by unfold zcD;rw[List.mem_filter];refine and_congr Iff.rfl ?_;unfold zDY;by_cases h:e.Tag=t;{rw [show ine e.Tag t=false by simp[ine,h],cond_false,zFq];simp[h]};{rw [zFq.2 h];simp[h]}
theorem z6O {b:List Entry}{e x:Entry}(h:x∈zpQ b e):x∈b\/x=e:=by unfold zpQ ap at h;have:x∈zcD b e.Tag e.Page++[e]:=(by cases a:igt (ln (zcD b e.Tag e.Page++[e])) 6 with|true=>rw[a,cond_true]at h;exact kM h|false=>rw[a,cond_false]at h;exact h);rcases jJ.1 this with h|h;{exact .inl (zzS.1 h).1};{exact .inr (qF.1 h)}
theorem zbcD {n:Nat}(h:n<=100):wsub .i64 (n:Int) 6=(n:Int)-6:=by unfold wsub IntKind.wrap;simp[IntKind.signed,IntKind.bits];omega
theorem zZd {b:List Entry}(h:zeQ b=true)(e:Entry):zeQ (zpQ b e)=true:=by have c:=zFa.1 h;have k:(zcD b e.Tag e.Page).length<=6:=qU (k9 _ _) c.2;have d:(zcD b e.Tag e.Page++[e]).Pairwise (fun y x=>sameKey x y=false):=(by rw[List.pairwise_append];refine⟨c.1.sublist List.filter_sublist,List.pairwise_singleton _ _,fun x i y j=>?_⟩;rw[qF.1 j];have:=(zzS.1 i).2;unfold sameKey;by_cases a:e.Tag=x.Tag;{rw [zbr.2 a,cond_true,zbV];exact fun f=>this ⟨a.symm,f.symm⟩};{rw [zbV.2 a];rfl});unfold zpQ ap;cases g:igt (ln (zcD b e.Tag e.Page++[e])) 6 with|true=>rw[cond_true,zFa];refine⟨d.sublist (List.drop_sublist _ _),?_⟩;unfold dp ln;rw[kA,k8,zbcD (by omega),vJ,kA,k8];omega|false=>rw[cond_false,zFa];refine⟨d,?_⟩;have:=jW g;unfold ln at this;omega
theorem z3P {h r:Host}{m:Int}(c:hasB m (ln h.Mons)=true){y:Mon}(b:r.Mons=up h.Mons m y)(a:r.Memory=h.Memory)(k:KeepP (ix h.Mons m mZ) y)(g:y.Guests=(ix h.Mons m mZ).Guests)(o:y.Outs=(ix h.Mons m mZ).Outs)(p:y.Pending=(ix h.Mons m mZ).Pending)(t:y.Traps=(ix h.Mons m mZ).Traps)(w:y.Own=(ix h.Mons m mZ).Own):Like h r:=by have e:∀{d:Type} (F:Mon->d),F y=F (ix h.Mons m mZ)->∀i,hasB i (ln h.Mons)=true->F (ix r.Mons i mZ)=F (ix h.Mons i mZ):=(by intro d F f i j;rw[b];by_cases e:m=i;{subst e;rw[zbf c];exact f};{rw [zbt (zF.1 c).1 (zF.1 j).1 e]});exact⟨by rw[b,zbM],e Mon.Guests g,e Mon.Outs o,e Mon.Pending p,e Mon.Traps t,e Mon.Own w,fun i q _ _=>zMN c b a k i q⟩
theorem z6S {h:Host}(R:Rt h){m g:Int}(d:hasB m (ln h.Mons)=true)(r:hasB g (ln (ix h.Mons m mZ).Tables)=true){k:Kept}(u:KOk k (ix (ix h.Mons m mZ).Guests g gZ).Live (ix h.Mons m mZ).Outer) :
 Rt {h with Mons:=up h.Mons m {ix h.Mons m mZ with Tables:=up (ix h.Mons m mZ).Tables g k}}:=by
 have f:∀e,zcX h e=true->zcX {h with Mons:=up h.Mons m {ix h.Mons m mZ with Tables:=up (ix h.Mons m mZ).Tables g k}} e=true:=by intro e b;obtain⟨l,n,p⟩:=zfm.1 b;rw[zfm];show hasB (zdn e.Tag) (ln (up h.Mons m _))=true/\hasB (zdX e.Tag) (ln (ix (up h.Mons m _) (zdn e.Tag) mZ).Guests)=true/\below' _ (zbv (zbz (ix (ix (up h.Mons m _) (zdn e.Tag) mZ).Guests (zdX e.Tag) gZ).Live e.Page) (ix (up h.Mons m _) (zdn e.Tag) mZ).Outer)=true;rw[zdz];refine⟨l,?_⟩;by_cases a:m=zdn e.Tag;{rw [<- a]at l n p ⊢;rw[zbf d];exact⟨n,p⟩};{rw [zbt (zF.1 d).1 (zF.1 l).1 a];exact⟨n,p⟩}
 refine⟨fun i s=>?_,fun e b=>f e (R.e1 e b),fun e b=>f e (R.e2 e b)⟩
 show TOk (ix (up h.Mons m _) i mZ)
 have c:hasB i (ln h.Mons)=true:=by have:hasB i (ln (up h.Mons m {ix h.Mons m mZ with Tables:=up (ix h.Mons m mZ).Tables g k}))=true:=s;rwa [zdz] at this
 by_cases a:m=i
 .subst a;rw[zbf d];intro j q
  by_cases e:g=j
  .subst e
   show KOk (ix (up _ g k) g kZ) _ _
   rw[zbf r];exact u
  .show KOk (ix (up _ g k) j kZ) _ _
   rw[zbt (zF.1 r).1 (zF.1 q).1 e];exact R.t m d j q
 .rw [zbt (zF.1 d).1 (zF.1 c).1 a];exact R.t i c
theorem z6E {h:Host}(H:HOk h){m g:Int}(a:hasB m (ln h.Mons)=true)(c:hasB g (ln (ix h.Mons m mZ).Tables)=true){k:Kept}(b:Rt h->KOk k (ix (ix h.Mons m mZ).Guests g gZ).Live (ix h.Mons m mZ).Outer) :
 Op h {h with Mons:=up h.Mons m {ix h.Mons m mZ with Tables:=up (ix h.Mons m mZ).Tables g k}}:=by
 have X:=H.mon a;have kp:KeepP (ix h.Mons m mZ) {ix h.Mons m mZ with Tables:=up (ix h.Mons m mZ).Tables g k}:=⟨rfl,rfl⟩;exact⟨zUN H a kp (zkA X kp rfl (zbM _ _ _) rfl X.outs X.pend X.tr X.own X.gs),z3P (y:={ix h.Mons m mZ with Tables:=up (ix h.Mons m mZ).Tables g k}) a rfl rfl kp rfl rfl rfl rfl rfl,fun R=>z6S R a c (b R)⟩
theorem zL9 {k:Kept}{a b:List Slot}(h:KOk k a b)(p:Int):KOk (filled k a b p) a b:=by unfold filled zdv;cases d:hasB p (ln k.Known) with|false=>exact h|true=>have f:hasB p (ln k.Slots)=true:=(by unfold ln at d ⊢;rw[h.l2,<- h.l1];exact d);have g:hasB p (ln a)=true:=(by unfold ln at d ⊢;rw[<- h.l1];exact d);rw[cond_true,f,cond_true,g,cond_true];refine⟨by rw[zbM];exact h.l1,by rw[zbM];exact h.l2,fun i c=>?_⟩;by_cases e:p=i;{subst e;show ix (up _ p _) p sZ=bif ix (up _ p true) p false then _ else _;rw[zbf f,zbf d];rfl};{show ix (up _ p _) i sZ=bif ix (up _ p true) i false then _ else _;rw[zbt (zF.1 f).1 (zF.1 c).1 e,zbt (zF.1 f).1 (zF.1 c).1 e];exact h.at' i c}
theorem zbaL {h:Host}(H:HOk h){m g:Int}(a:hasB m (ln h.Mons)=true)(hg:hasB g (ln (ix h.Mons m mZ).Guests)=true)(page:Int):Op h (zdE h m g page):=
 z6E H a (by unfold ln;rw[(H.mon a).gt];exact hg) fun R=>zL9 (R.t m a g hg) page
theorem z2s {k:Kept}{a b:List Slot}(h:KOk k a b){p:Int}(c:hasB p (ln a)=true):ze1 k p=bif ix k.Known p false then zbv (ix a p sZ) b else noSlot:=by have d:hasB p (ln k.Known)=true:=(by unfold ln at c ⊢;rw[h.l1];exact c);have e:hasB p (ln k.Slots)=true:=(by unfold ln at c ⊢;rw[h.l2];exact c);unfold ze1 zkx zdv;rw[d,e,cond_true,cond_true,h.at' p c];cases ix k.Known p false<;>rfl
theorem z0g {k:Kept}{a b:List Slot}(h:KOk k a b){p:Int}(c:hasB p (ln a)=true):ze1 (filled k a b p) p=zbv (ix a p sZ) b:=by rw[z2s (zL9 h p) c];have d:hasB p (ln k.Known)=true:=(by unfold ln at c ⊢;rw[h.l1];exact c);have e:hasB p (ln k.Slots)=true:=(by unfold ln at c ⊢;rw[h.l2];exact c);have:ix (filled k a b p).Known p false=true:=(by unfold filled zdv;rw[d,e,c];exact zbf d _ _);rw[this];rfl
theorem zbbT {h:Host}(H:HOk h){m g page:Int}(io:Bool)(k:Rt h->zcX h (zTu h m g page)=true):Op h (zvW h m g page io):=by have d:∀(f i:List Entry),Like h ⟨h.Memory,h.Mons,f,i⟩:=fun _ _=>⟨rfl,fun _ _=>rfl,fun _ _=>rfl,fun _ _=>rfl,fun _ _=>rfl,fun _ _=>rfl,fun _ _ _ _=>rfl⟩;have c:∀(b:List Entry),(∀e∈b,zcX h e=true)->Rt h->∀e∈zpQ b (zTu h m g page),zcX h e=true:=(by intro b j R e a;rcases z6O a with a|a;{exact j e a};{rw [a];exact k R});unfold zvW;cases io;{exact⟨⟨H.m12,H.pgs,H.n1,H.n3,zZd H.b1 _,H.b2,H.mons,H.uq⟩,d _ _,fun R=>⟨R.t,fun e a=>c _ R.e1 R e a,R.e2⟩⟩};{exact⟨⟨H.m12,H.pgs,H.n1,H.n3,H.b1,zZd H.b2 _,H.mons,H.uq⟩,d _ _,fun R=>⟨R.t,R.e1,fun e a=>c _ R.e2 R e a⟩⟩}
theorem z6f {b:List Entry}{t p:Int}{e:Entry}(h:zFi b t p=some e):e∈b/\e.Tag=t/\e.Page=p:=by unfold zFi at h;have a:=List.find?_some h;rw[zb9,zbr,zbr]at a;exact⟨uM h,a⟩
theorem zjw {h:Host}{m g:Int}:zbW h m g=true↔HOk h/\hasB m (ln h.Mons)=true/\hasB g (ln (ix h.Mons m mZ).Guests)=true:=by unfold zbW;rw[zb9,zb9,zil]
structure GOk (x:Guest):Prop where
 prog:zc4 x.Prog=true
 a:win x.A 0 99=true
 pc:win x.Pc 0 12=true
 w:zcS x.Written 4 8=true
 l:zcS x.Live 4 8=true
 ctl:zg7 x.Ctl=true
 pend:zc3 x.Pending=true
 ex:zgU x.Exit=true
 seen:ile (ln x.Seen) 40=true
theorem ztt {x:Guest}:zde x=true↔GOk x:=by unfold zde;simp only[qD];exact⟨fun⟨a,b,c,d,e,f,g,h,i⟩=>⟨a,b,c,d,e,f,g,h,i⟩,fun⟨a,b,c,d,e,f,g,h,i⟩=>⟨a,b,c,d,e,f,g,h,i⟩⟩
theorem z4L {s:Slot}:zdw s 8=true↔s=noSlot\/(0<=s.Page/\s.Page<=7/\1<=s.Rights/\s.Rights<=3):=by unfold zdw;rw[ztM,zpe,zrZ];have:wsub .i64 8 1=7:=(by decide);simp only[this,ztM,zcG];simp[igt];constructor;{rintro (h|⟨h,⟨a,b⟩,c⟩);{exact .inl h};{exact .inr ⟨a,b,c⟩}};{intro h;by_cases d:s=noSlot;{exact .inl d};{rcases h with h|⟨a,b,c⟩;{exact .inl h};{exact .inr ⟨d,⟨a,b⟩,c⟩}}}
theorem HOk.guest {h:Host}(H:HOk h){m g:Int}(a:hasB m (ln h.Mons)=true)(hg:hasB g (ln (ix h.Mons m mZ).Guests)=true):GOk (ix (ix h.Mons m mZ).Guests g gZ):=ztt.1 ((H.mon a).gs _ (zlc hg _))
structure Walked (l:List Slot) (p n q:Int):Prop where
 hp:hasB p (ln l)=true
 pg:(ix l p sZ).Page=q
 q8:hasB q 8=true
 en:enough (ix l p sZ).Rights n=true
theorem walked {x:Guest}(X:GOk x){p n:Int}(a:zfi x.Live p n=true):Walked x.Live p n (zcC x.Live p n):=by have e:zcC x.Live p n=(zbz x.Live p).Page:=(by unfold zcC;rw[a];rfl);unfold zfi at a;by_cases b:(zbz x.Live p).Page = -1;{rw [zbr.2 b]at a;cases a};{rw [zbV.2 b,cond_false,zb9]at a;have c:hasB p (ln x.Live)=true:=(by cases c:hasB p (ln x.Live) with|true=>rfl|false=>exact absurd (by unfold zbz;rw[c];rfl) b);rw[znA c] at e b a;rw[e];have d:=z4L.1 ((zro.1 X.l).1 _ (zlc c sZ));refine⟨c,rfl,?_,a.1⟩;rcases d with d|d;{rw [d]at b;exact absurd rfl b};{exact zF.2 (by omega)}}
structure Looked (h r:Host) (m g page need q host:Int):Prop where
 op:Op h r
 inn:(ix (ix r.Mons m mZ).Outer q sZ).Page=host
 ne:host≠-1
 en:enough (zbv (ix (ix (ix h.Mons m mZ).Guests g gZ).Live page sZ) (ix r.Mons m mZ).Outer).Rights need=true
 cp:(zbv (ix (ix (ix h.Mons m mZ).Guests g gZ).Live page sZ) (ix r.Mons m mZ).Outer).Page=host
 dk:∀k,hasB k 8=true->k≠q->ix (ix r.Mons m mZ).Dirty k false=ix (ix h.Mons m mZ).Dirty k false
 dq:need=2->ix (ix r.Mons m mZ).Dirty q false=true
 d1:need=1->(ix r.Mons m mZ).Dirty=(ix h.Mons m mZ).Dirty
 dm:∀i,hasB i (ln h.Mons)=true->i≠m->(ix r.Mons i mZ).Dirty=(ix h.Mons i mZ).Dirty
theorem zRf {h:Host}(S:Safe h){m g page need q:Int}(c:hasB m (ln h.Mons)=true)(hg:hasB g (ln (ix h.Mons m mZ).Guests)=true)(i:need=1\/need=2)(W:Walked (ix (ix h.Mons m mZ).Guests g gZ).Live page need q)(io:Bool)(a:ze1 (zcx h m g) page=zbv (ix (ix (ix h.Mons m mZ).Guests g gZ).Live page sZ) (ix h.Mons m mZ).Outer)(d:enough (ze1 (zcx h m g) page).Rights need=true) :
 Op h (zhD h m g page io).1/\(zhD h m g page io).2=((ix (ix h.Mons m mZ).Outer q sZ).Page,true)/\(ix (ix h.Mons m mZ).Outer q sZ).Page≠-1/\(zhD h m g page io).1.Mons=h.Mons:=by
 rw[a]at d;have b:=zpy i d;rw[W.pg,znA ((S.ok.mon c).hasO W.q8)]at b;refine⟨zbbT S.ok io fun R=>?_,?_,b.2.1,?_⟩
 .obtain⟨t1,t2⟩:=S.ok.tag c hg;obtain⟨e,f,_⟩:=zW1 t1 t2;rw[zfm]
  show hasB (zdn (zez m g)) _=true/\hasB (zdX (zez m g)) (ln (ix h.Mons (zdn (zez m g)) mZ).Guests)=true/\below' ⟨(ze1 (zcx h m g) page).Page,(ze1 (zcx h m g) page).Rights⟩ (zbv (zbz (ix (ix h.Mons (zdn (zez m g)) mZ).Guests (zdX (zez m g)) gZ).Live page) (ix h.Mons (zdn (zez m g)) mZ).Outer)=true
  rw[e,f,znA W.hp,a];exact⟨c,hg,zrt.2 (.inr ⟨rfl,zXM (z0o _ _)⟩)⟩
 .show ((ze1 (zcx h m g) page).Page,true)=_
  rw[a,b.2.2]
 .show (zvW h m g page io).Mons=_
  unfold zvW;cases io<;>rfl
theorem zVQ {h:Host}(S:Safe h){m g page need q:Int}(x:hasB m (ln h.Mons)=true)(hg:hasB g (ln (ix h.Mons m mZ).Guests)=true)(D:need=1\/need=2)(W:Walked (ix (ix h.Mons m mZ).Guests g gZ).Live page need q)(io:Bool){b:List Entry}(hb:∀e∈b,zcX h e=true)(hd:need=2->ix (ix h.Mons m mZ).Dirty q false=true) :
 Looked h (zhC h b m g page need q io).1 m g page need q (zhC h b m g page need q io).2.1/\(zhC h b m g page need q io).2.2=true:=by
 have X:=S.ok.mon x;have r:=W.q8;have L:=znA (X.hasO W.q8);unfold zhC;cases K:zhk b m g page need with
 |true=>
  rw[cond_true];unfold zhk at K;cases B:zrz b m g page with
  |none=>rw[B]at K;cases K
  |some e=>rw[B]at K;have A:enough e.Rights need=true:=K;obtain⟨f1,f2,f3⟩:=z6f B;obtain⟨t1,t2⟩:=S.ok.tag x hg;obtain⟨b1,b2,_⟩:=zW1 t1 t2;obtain⟨_,_,v⟩:=zfm.1 (hb e f1);rw[f2,b1,b2,f3,znA W.hp]at v;have R:(⟨e.Host,e.Rights⟩:Slot)≠noSlot:=fun f=>(by have:e.Rights=0:=congrArg Slot.Rights f;rw[this,zqs D]at A;cases A);rcases zrt.1 v with v|⟨v,h4⟩;{exact absurd v R};{have Z:=zUx h4 A;have f:=zpy D Z;rw[W.pg,L]at f;have N:e.Host=_:=v;refine⟨⟨Op.refl S.ok,f.2.2.symm.trans v.symm,?_,Z,v.symm,fun _ _ _=>rfl,hd,fun _=>rfl,fun _ _ _=>rfl⟩,rfl⟩;show e.Host≠-1;rw[N,f.2.2];exact f.2.1}
 |false=>
  rw[cond_false];have O:=S.rt.t m x g hg;cases y:zeM h m g page need with
  |false=>rw[cond_false];have E:ix (zcx h m g).Known page false=true/\enough (ze1 (zcx h m g) page).Rights need=true:=(by unfold zeM at y;cases n:zkx (zcx h m g) page with|false=>rw[n]at y;cases y|true=>rw[n,cond_true]at y;refine⟨?_,?_⟩;{unfold zkx at n;cases hh:zdv (zcx h m g) page with|false=>rw[hh]at n;cases n|true=>rw[hh]at n;exact n};{cases hz:ieq (ze1 (zcx h m g) page).Page (-1) with|true=>rw[hz]at y;cases y|false=>rw[hz]at y;simpa using y});have H:ze1 (zcx h m g) page=zbv (ix (ix (ix h.Mons m mZ).Guests g gZ).Live page sZ) (ix h.Mons m mZ).Outer:=(by have Y:=z2s O W.hp;have h1:ix (ix (ix h.Mons m mZ).Tables g kZ).Known page false=true:=E.1;rw[h1]at Y;exact Y);obtain⟨T,U,V,d⟩:=zRf S x hg D W io H E.2;rw[U];have J:=E.2;rw[H]at J;have f:=zpy D J;rw[W.pg,L]at f;exact⟨⟨T,by rw[d],V,by rw[d];exact J,by rw[d];exact f.2.2,fun _ _ _=>by rw[d],fun e=>by rw[d];exact hd e,fun _=>by rw[d],fun _ _ _=>by rw[d]⟩,rfl⟩
  |true=>
   rw[cond_true];have M:=zRp S.ok (m:=m) (p:=q) need x r;have c:hasB m (ln (mended h m q need).Mons)=true:=(by rw[M.op.like.has];exact x);have C:(ix (mended h m q need).Mons m mZ).Guests=(ix h.Mons m mZ).Guests:=M.op.like.g m x;have l:hasB g (ln (ix (mended h m q need).Mons m mZ).Guests)=true:=(by rw[C];exact hg);have G:Safe (mended h m q need):=M.op.safe S;have F:=zbaL G.ok c l page;have S2:Safe (zdE (mended h m q need) m g page):=F.safe G;have Q:hasB m (ln (zdE (mended h m q need) m g page).Mons)=true:=(by rw[F.like.has];exact c);have u:ix (zdE (mended h m q need) m g page).Mons m mZ={ix (mended h m q need).Mons m mZ with Tables:=up (ix (mended h m q need).Mons m mZ).Tables g (filled (zcx (mended h m q need) m g) (zcO (mended h m q need) m g) (ix (mended h m q need).Mons m mZ).Outer page)}:=zbf c _ _;have P:hasB g (ln (ix (zdE (mended h m q need) m g page).Mons m mZ).Guests)=true:=(by rw[u];exact l);have w:(ix (zdE (mended h m q need) m g page).Mons m mZ).Guests=(ix h.Mons m mZ).Guests:=(by rw[u];exact C);have W2:Walked (ix (ix (zdE (mended h m q need) m g page).Mons m mZ).Guests g gZ).Live page need q:=(by rw[w];exact W);have H:ze1 (zcx (zdE (mended h m q need) m g page) m g) page=zbv (ix (ix (ix (zdE (mended h m q need) m g page).Mons m mZ).Guests g gZ).Live page sZ) (ix (zdE (mended h m q need) m g page).Mons m mZ).Outer:=(by have:zcx (zdE (mended h m q need) m g page) m g=filled (zcx (mended h m q need) m g) (zcO (mended h m q need) m g) (ix (mended h m q need).Mons m mZ).Outer page:=(by unfold zcx;rw[u];exact zbf (by unfold ln;rw[(G.ok.mon c).gt];exact l) _ _);rw[this];refine(z0g (p:=page) (G.rt.t m c g l) (by rw[C];exact W.hp)).trans ?_;rw[u]);have z:(ix (zdE (mended h m q need) m g page).Mons m mZ).Outer=(ix (mended h m q need).Mons m mZ).Outer:=by rw[u]
   have j:=znA ((G.ok.mon c).hasO r);have a:=zT6 (s:=ix (ix (ix h.Mons m mZ).Guests g gZ).Live page sZ) (o:=(ix (mended h m q need).Mons m mZ).Outer) D (by rw[W.pg];have:=zF.1 r;omega) (by rw[W.pg,j];exact M.inn) W.en (by
    rw[W.pg,j];rcases D with rfl|rfl
    .rcases (G.ok.mon c).enough1 r M.inn with e|e<;>rw [e]<;>decide
    .rw [M.ri (by decide)];decide)
   have J:enough (ze1 (zcx (zdE (mended h m q need) m g page) m g) page).Rights need=true:=(by rw[H,w,z];exact a.2);obtain⟨T,U,V,d⟩:=zRf S2 Q P D W2 io H J;rw[U];have I:=a.1;rw[W.pg,j]at I;refine⟨⟨(M.op.trans F).trans T,by rw[d],V,by rw[d,z];exact a.2,by rw[d,z];exact I,fun k n f=>?_,fun e=>?_,fun e=>?_,fun i hi f=>?_⟩,rfl⟩;{rw [d,u];exact M.dk k n f};{rw [d,u];exact M.dt (by rw[e];decide)};{rw [d,u];exact M.d0 (by rw[e];decide)};{rw [d];show (ix (up (mended h m q need).Mons m _) i mZ).Dirty=_;rw[zbt (zF.1 x).1 (zF.1 hi).1 (Ne.symm f)];exact M.dm i hi f}
theorem zHu {n:Int}:zjy n=true↔n=1\/n=2:=by unfold zjy;by_cases h:n=1;{rw [zbr.2 h];simp[h]};{rw [zbV.2 h,cond_false,zbr];simp[h]}
theorem zqC {h:Host}{m g page need:Int}:zb7 h m g page need=true↔zbW h m g=true/\(need=1\/need=2)/\zfi (zcO h m g) page need=true:=by unfold zb7;rw[zb9,zb9,zHu]
theorem zRh {h:Host}(S:Safe h){m g page need:Int}(io:Bool)(s:zb7 h m g page need=true){b:List Entry}(p:∀e∈b,zcX h e=true) :
 Looked h (lookOf h b m g page need io).1 m g page need (zcC (zcO h m g) page need) (lookOf h b m g page need io).2.1/\(lookOf h b m g page need io).2.2=true:=by
 obtain⟨v,z,A⟩:=zqC.1 s;obtain⟨_,a,hg⟩:=zjw.1 v;have W:=walked (S.ok.guest a hg) A;unfold lookOf;rw[s,cond_true];rcases z with rfl|rfl
 .rw [show ieq 1 2=false by decide,cond_false]
  exact zVQ S a hg (.inl rfl) W io p (fun e=>absurd e (by decide))
 .rw [show ieq 2 2=true by decide,cond_true]
  obtain⟨d,B⟩:=zMG S.ok a (zcC (zcO h m g) page 2);have n:hasB m (ln (zbI h m (zcC (zcO h m g) page 2)).Mons)=true:=by rw[d.like.has];exact a
  have f:ix (zbI h m (zcC (zcO h m g) page 2)).Mons m mZ={ix h.Mons m mZ with Dirty:=up (ix h.Mons m mZ).Dirty (zcC (zcO h m g) page 2) true}:=zbf a _ _;have w:=(S.ok.mon a).hasD W.q8;obtain⟨L,x⟩:=zVQ (d.safe S) n (g:=g) (page:=page) (need:=2) (q:=zcC (zcO h m g) page 2) (by rw[f];exact hg) (.inr rfl) (by rw[f];exact W) io (b:=b) (fun e y=>by
   obtain⟨j,t,u⟩:=zfm.1 (p e y);rw[zfm];have l:hasB (zdn e.Tag) (ln (zbI h m (zcC (zcO h m g) page 2)).Mons)=true:=by rw[d.like.has];exact j
   refine⟨l,by rw[d.like.g _ j];exact t,?_⟩
   rw[d.like.g _ j];have:(ix (zbI h m (zcC (zcO h m g) page 2)).Mons (zdn e.Tag) mZ).Outer=(ix h.Mons (zdn e.Tag) mZ).Outer:=by show (ix (up h.Mons m _) _ mZ).Outer=_;by_cases c:m=zdn e.Tag;{rw [<- c,zbf a]};{rw [zbt (zF.1 a).1 (zF.1 j).1 c]}
   rw[this];exact u) (fun _=>by rw[f];exact zbf w _ _)
  refine⟨⟨d.trans L.op,L.inn,L.ne,?_,?_,fun k r c=>?_,L.dq,fun e=>absurd e (by decide),fun i l c=>?_⟩,x⟩
  .have:=L.en;rw[f] at this;exact this
  .have:=L.cp;rw[f] at this;exact this
  .rw [L.dk k r c,f];exact zbt (zF.1 W.q8).1 (zF.1 r).1 (Ne.symm c) _ _
  .rw [L.dm i (by rw[d.like.has];exact l) c]
   show (ix (up h.Mons m _) i mZ).Dirty=_
   rw[zbt (zF.1 a).1 (zF.1 l).1 (Ne.symm c)]
theorem zQk {x y:Int}(a : -9223372036854775808<=x+y)(b:x+y<=9223372036854775807):zM .i64 x y=x+y:=by unfold zM;simp only[IntKind.wrap,IntKind.signed,IntKind.bits];simp;omega
theorem zK9 {n:Nat}{P:Int->Prop}(h:∀i:Fin n,P ((i.val:Nat):Int)){x:Int}(a:0<=x)(b:x<n):P x:=by have:=h ⟨x.toNat,by omega⟩;simpa [show ((x.toNat:Nat):Int)=x by omega] using this
theorem zWm {p:Int}:zc3 p=true↔0<=p/\p<=255:=by unfold zc3;exact zcG
theorem zRw {p:Int}(h:zc3 p=true):zc3 (zjR p)=true:=by have a:=zWm.1 h;exact zK9 (n:=256) (P:=fun x=>zc3 (zjR x)=true) (by decide +kernel) a.1 (by omega)
theorem zRv {p:Int}(h:zc3 p=true)(n:Int):zc3 (zs7 p n)=true:=by unfold zs7 zfU;rw[h,cond_true];cases e:win n 0 7 with|false=>exact h|true=>rw[cond_true];have b:=zWm.1 h;have a:=zcG.1 e;exact zK9 (n:=256) (P:=fun x=>∀k,0<=k->k<(8:Int)->zc3 (wor .i64 x (zpj .i64 1 k))=true) (fun i k c d=>zK9 (n:=8) (P:=fun k=>zc3 (wor .i64 ((i.val:Nat):Int) (zpj .i64 1 k))=true) (by revert i;decide +kernel) c d) b.1 (by omega) n a.1 (by omega)
structure GKeep (x y:Guest):Prop where
 ok:GOk y
 live:y.Live=x.Live
theorem z0T {x:Guest}(X:GOk x){c:Int}(b:win c 0 12=true):GOk {x with Pc:=c}:=⟨X.prog,X.a,b,X.w,X.l,X.ctl,X.pend,X.ex,X.seen⟩
theorem z0S {x:Guest}(X:GOk x){c:Int}(a:win c 0 99=true):GOk {x with A:=c}:=⟨X.prog,a,X.pc,X.w,X.l,X.ctl,X.pend,X.ex,X.seen⟩
theorem zi1 {x:Guest}(X:GOk x):GKeep x (zcb x):=by unfold zcb;have a:=zcG.1 X.pc;cases h:ige x.Pc 12 with|true=>exact⟨z0T X (by decide),rfl⟩|false=>have:¬ x.Pc≥12:=jW h;refine⟨z0T X ?_,rfl⟩;rw[zQk (by omega) (by omega)];exact zcG.2 (by omega)
theorem zUF {x:Guest}(X:GOk x)(n:Int):GKeep x (saw x n):=by unfold saw;cases h:ilt (ln x.Seen) 40 with|false=>exact⟨X,rfl⟩|true=>have:ln x.Seen<40:=qE h;refine⟨⟨X.prog,X.a,X.pc,X.w,X.l,X.ctl,X.pend,X.ex,qJ ?_⟩,rfl⟩;unfold ln ap at *;simp;omega
theorem zi2 {x:Guest}(X:GOk x){e:GExit}(b:zgU e=true):GKeep x (stopped x e):=⟨⟨X.prog,X.a,X.pc,X.w,X.l,X.ctl,X.pend,b,X.seen⟩,rfl⟩
theorem zZs {x:Guest}(X:GOk x){p:Int}(b:zc3 p=true):GKeep x {x with Pending:=p}:=⟨⟨X.prog,X.a,X.pc,X.w,X.l,X.ctl,b,X.ex,X.seen⟩,rfl⟩
theorem zZp {x:Guest}(X:GOk x)(b:Bool):GKeep x {x with Halted:=b}:=⟨⟨X.prog,X.a,X.pc,X.w,X.l,X.ctl,X.pend,X.ex,X.seen⟩,rfl⟩
theorem zZq {x:Guest}(X:GOk x):GKeep x (held x):=⟨(zi1 (zZp X true).ok).ok,(zi1 (zZp X true).ok).live⟩
theorem z3x {x:Guest}(X:GOk x){v:Int}(c:win v 0 99=true):GKeep x (loaded x v):=by have a:=zUF (z0S X c) v;have b:=zi1 a.ok;exact⟨b.ok,b.live.trans a.live⟩
theorem zN0 {x:Guest}(X:GOk x):GKeep x (interrupted x):=by unfold interrupted;cases zic x with|false=>exact⟨X,rfl⟩|true=>have a:=zZs X (zRw X.pend);rw[cond_true];exact⟨(zUF a.ok _).ok,(zUF a.ok _).live⟩
theorem zJL {p:List Ins}(h:zc4 p=true)(i:Int):zdH (zcs p i)=true:=by unfold zcs;cases a:hasB i (ln p) with|false=>rfl|true=>unfold zc4 at h;rw[zb9,qM]at h;exact h.1 _ (zlc a _)
theorem zbbM {i:Ins}(h:zdH i=true)(a:i.Op=3\/i.Op=4):0<=i.X/\i.X<=15:=by unfold zdH at h;rcases a with e|e<;>rw [e]at h<;>exact zcG.1 h
theorem z3E {i:Ins}(h:zdH i=true)(a:i.Op=5\/i.Op=6):0<=i.X/\i.X<=99:=by unfold zdH at h;rcases a with e|e<;>rw [e]at h<;>exact zcG.1 h
theorem zbcm {i:Ins}(h:zdH i=true)(a:i.Op=8):0<=i.X/\i.X<=11:=by unfold zdH at h;rw[a]at h;exact zcG.1 h
theorem zbcl {i:Ins}(h:zdH i=true)(a:i.Op=1):0<=i.X/\i.X<=99:=by unfold zdH at h;rw[a]at h;exact zcG.1 h
theorem z0U {x:Guest}(X:GOk x):GKeep x (plainly x):=by have M:=zi1 X;have b:=zJL X.prog x.Pc;unfold plainly;cases ine (zbc x) 2 with|true=>exact⟨X,rfl⟩|false=>rw[cond_false];(cases win x.A 0 99 with|false=>exact M|true=>rw[cond_true];(cases win (zcs x.Prog x.Pc).X 0 99 with|false=>exact M|true=>rw[cond_true];by_cases c:(zcs x.Prog x.Pc).Op=1;{rw [zbr.2 c,cond_true];exact⟨z0S M.ok (zcG.2 (zbcl b c)),M.live⟩};{rw [zbV.2 c,cond_false];by_cases d:(zcs x.Prog x.Pc).Op=2;{rw [zbr.2 d,cond_true];refine⟨z0S M.ok ?_,M.live⟩;have f:=zcG.1 X.a;have i:0<=(zcs x.Prog x.Pc).X/\(zcs x.Prog x.Pc).X<=99:=(by unfold zdH at b;rw[d]at b;exact zcG.1 b);rw[zcG];unfold zqi;rw[zQk (by omega) (by omega)];have g:=Int.tmod_nonneg (a:=x.A+(zcs x.Prog x.Pc).X) 100 (by omega);have h:=Int.tmod_lt_of_pos (x.A+(zcs x.Prog x.Pc).X) (show (0:Int)<100 by omega);omega};{rw [zbV.2 d,cond_false];by_cases e:(zcs x.Prog x.Pc).Op=8;{rw [zbr.2 e,cond_true];cases ieq x.A 0 with|true=>have:=zbcm b e;exact⟨z0T M.ok (zcG.2 (by omega)),M.live⟩|false=>exact M};{rw [zbV.2 e];exact M}}}))
theorem zs6 {c:List Int}:zcl c=true↔(∀x∈c,win x 0 99=true)/\ln c=4:=by unfold zcl;rw[zb9,qM,zbr]
theorem zma (h:Host)(m:Int):∀(n i:Nat),(zct h m n i).length=n
 | 0,_=>rfl
 |n+1,i=>by rw[zct,qY,zma h m n]
theorem zMP (h:Host)(m:Int):∀(n i k:Nat) (a:k<(zct h m n i).length),(zct h m n i)[k]=zcB h m ((i+k:Nat):Int)
 | 0,i,k,a=>by simp[zct]at a
 |n+1,i,k,a=>by cases k with|zero=>rfl|succ k=>have:=zMP h m n (i+1) k (by simpa [zct] using a);simp only[zct,List.getElem_cons_succ];rw[this];congr 1;omega
theorem zpP {h:Host}{m q:Int}(b:hasB q 8=true)(d:List Int):ix (zct h m 8 0) q d=zcB h m q:=by have c:=zF.1 b;have a:q.toNat<(zct h m 8 0).length:=(by rw[zma];omega);have:=zl0 a d;rw[show ((q.toNat:Nat):Int)=q by omega] at this;rw[this,zMP];congr 1;omega
theorem zuh (h:Host)(m:Int):ln (zct h m 8 0)=8:=by unfold ln;rw[zma];rfl
theorem zAr {h:Host}(H:HOk h){m p:Int}(b:hasB m (ln h.Mons)=true)(a:hasB p 8=true):zcl (zcB h m p)=true:=by have X:=H.mon b;rw[<- zkH H b a];by_cases e:(ix (ix h.Mons m mZ).Outer p sZ).Page = -1;{rw [zbr.2 e];exact((zpD (X.slot a)).1 (X.fit p a)).1 e};{rw [zbV.2 e];exact zRt H.pgs _}
theorem zze {h:Host}(H:HOk h){m:Int}(b:hasB m (ln h.Mons)=true):zca (zG h m)=true:=by have X:=H.mon b;unfold zG;rw[b,cond_true];unfold zca zha;rw[zb9,qM];refine⟨X.gs,?_⟩;simp only[qD,zb9,qM,zbr,zcG];refine⟨⟨fun c d=>?_,zuh h m⟩,⟨?_,?_⟩,?_,X.pend⟩;{obtain⟨i,a,rfl⟩:=zVX d [];rw[zuh]at a;rw[zpP a];exact zAr H b a};{unfold ln;have:=X.g1;omega};{unfold ln;have:=X.g2;omega};{unfold ile ln;have:=X.outs;exact qJ (by omega)}
structure SimT (h r:Host) (m:Int) (f:Bare->Bare):Prop where
 safe:Safe r
 seen:∀i,zG r i=bif ieq i m then f (zG h i) else zG h i
 len:r.Mons.length=h.Mons.length
theorem SimT.trans {a b c:Host}{m:Int}{f g:Bare->Bare}(x:SimT a b m f)(y:SimT b c m g):SimT a c m (fun t=>g (f t)):=by refine⟨y.safe,fun i=>?_,y.len.trans x.len⟩;rw[y.seen i,x.seen i];cases ieq i m<;>rfl
theorem Op.sim {h r:Host}(k:Op h r)(S:Safe h)(m:Int):SimT h r m id:=⟨k.safe S,fun i=>by rw[k.like.seen i];cases ieq i m<;>rfl,k.like.len⟩
theorem SimT.congr {h r:Host}{m:Int}{f g:Bare->Bare}(x:SimT h r m f)(e:f (zG h m)=g (zG h m)):SimT h r m g:=by refine⟨x.safe,fun i=>?_,x.len⟩;rw[x.seen i];by_cases a:i=m;{subst a;rw[zbr.2 rfl,cond_true,cond_true,e]};{rw [zbV.2 a];rfl}
theorem SimT.has {h r:Host}{m:Int}{f:Bare->Bare}(x:SimT h r m f)(i:Int):hasB i (ln r.Mons)=hasB i (ln h.Mons):=by unfold ln;rw[x.len]
theorem SimT.refl {h:Host}(S:Safe h)(m:Int):SimT h h m id:=⟨S,fun i=>by cases ieq i m<;>rfl,rfl⟩
theorem zwP {h:Host}(S:Safe h){m q a:Int}(l:hasB m (ln h.Mons)=true)(f:hasB q 8=true)(J:(ix (ix h.Mons m mZ).Outer q sZ).Page=a)(y:a≠-1)(c v:Int) :
 SimT h {h with Memory:=zbK h.Memory a c v} m (fun b=>{b with Memory:=zbK b.Memory q c v})/\cellAt h.Memory a c=cellAt (zG h m).Memory q c:=by
 have H:=S.ok;have X:=H.mon l;have N:=X.slot f;have E:=hasM H N (by rw[J];exact y)
 rw[J]at E;have z:ix h.Memory a []=zcB h m q:=by have:=zkH H l f;rw[J,zbV.2 y,cond_false,zkG E] at this;exact this
 have n:ln (zcB h m q)=4:=(zs6.1 (zAr H l f)).2;have d:(zG h m).Memory=zct h m 8 0:=by unfold zG;rw[l];rfl
 have C:zhE h.Memory a c=hasB c 4:=by unfold zhE;rw[E,cond_true,z,n]
 have D:zhE (zct h m 8 0) q c=hasB c 4:=by unfold zhE;rw[zuh,f,cond_true,zpP f,n]
 have u:cellAt h.Memory a c=cellAt (zG h m).Memory q c:=by rw[d];unfold cellAt;rw[C,D,z,zpP f]
 refine⟨?_,u⟩;cases A:hasB c 4 with
 |false=>have s:zbK h.Memory a c v=h.Memory:=(by unfold zbK;rw[C,A];rfl);rw[s];refine(SimT.refl S m).congr ?_;show zG h m={zG h m with Memory:=zbK (zG h m).Memory q c v};rw[d];have B:zbK (zct h m 8 0) q c v=zct h m 8 0:=(by unfold zbK;rw[D,A];rfl);rw[B,<- d]
 |true=>
  cases K:win v 0 99 with
  |false=>have s:zbK h.Memory a c v=h.Memory:=(by unfold zbK;rw[C,A,K];rfl);rw[s];refine(SimT.refl S m).congr ?_;show zG h m={zG h m with Memory:=zbK (zG h m).Memory q c v};rw[d];have B:zbK (zct h m 8 0) q c v=zct h m 8 0:=(by unfold zbK;rw[D,A,K];rfl);rw[B,<- d]
  |true=>have s:zbK h.Memory a c v=up h.Memory a (up (zcB h m q) c v):=(by unfold zbK;rw[C,A,K,z];rfl);have B:zbK (zct h m 8 0) q c v=up (zct h m 8 0) q (up (zcB h m q) c v):=(by unfold zbK;rw[D,A,K,zpP f];rfl);have G:zcl (up (zcB h m q) c v)=true:=(by have:=zs6.1 (zAr H l f);rw[zs6,zdz];refine⟨fun x O=>?_,this.2⟩;rcases qW O with h|h;{exact this.1 x h};{rw [h];exact K});have P:=(zF.1 E).1;have L:HOk {h with Memory:=zbK h.Memory a c v}:=(by rw[s];refine⟨by show (up _ _ _).length=12;rw[zbM];exact H.m12,fun x O=>?_,H.n1,H.n3,H.b1,H.b2,H.mons,H.uq⟩;rcases qW O with h|h;{exact H.pgs x h};{rw [h];exact G});refine⟨⟨L,⟨S.rt.t,S.rt.e1,S.rt.e2⟩⟩,fun i=>?_,rfl⟩;have r:∀i k,hasB i (ln h.Mons)=true->hasB k 8=true->¬ (i=m/\k=q)->zcB {h with Memory:=zbK h.Memory a c v} i k=zcB h i k:=(by intro i k w g I;rw[<- zkH L (m:=i) (p:=k) w g,<- zkH H w g];show (cond (ieq (ix (ix h.Mons i mZ).Outer k sZ).Page (-1)) _ (zcp (zbK h.Memory a c v) _))=_;by_cases e:(ix (ix h.Mons i mZ).Outer k sZ).Page = -1;{rw [zbr.2 e];rfl};{rw [zbV.2 e,cond_false,cond_false,s];exact zD0 P (fun e=>I (H.uniq w g l f e J P))});have F:zcB {h with Memory:=zbK h.Memory a c v} m q=up (zcB h m q) c v:=(by rw[<- zkH L (m:=m) (p:=q) l f];show (cond (ieq (ix (ix h.Mons m mZ).Outer q sZ).Page (-1)) _ (zcp (zbK h.Memory a c v) (ix (ix h.Mons m mZ).Outer q sZ).Page))=_;rw[J,zbV.2 y,cond_false,s];exact zDZ E);by_cases w:i=m;{subst w;rw[zbr.2 rfl,cond_true];unfold zG;show (cond (hasB i (ln h.Mons)) _ _)=_;rw[l,cond_true,cond_true];show Bare.mk (zct {h with Memory:=zbK h.Memory a c v} i 8 0) _ _ _=Bare.mk (zbK (zct h i 8 0) q c v) _ _ _;congr 1;rw[B];refine zPu [] (by rw[zbM,zma,zma]) fun k g=>?_;rw[zuh]at g;rw[zpP g];by_cases e:q=k;{subst e;rw[zbf (by rw[zuh];exact f),F]};{rw [zbt (zF.1 f).1 (zF.1 g).1 e,zpP g];exact r i k l g (fun h=>e h.2.symm)}};{rw [zbV.2 w,cond_false];unfold zG;show (cond (hasB i (ln h.Mons)) _ _)=_;cases M:hasB i (ln h.Mons) with|false=>rfl|true=>rw[cond_true,cond_true];show Bare.mk (zct {h with Memory:=zbK h.Memory a c v} i 8 0) _ _ _=_;rw[zqG 8 0 (fun j C D=>r i (j:Int) M (zF.2 (by omega)) (fun h=>w h.1))]}
theorem zqe {h:Host}(S:Safe h){m g:Int}(a:hasB m (ln h.Mons)=true)(hg:hasB g (ln (ix h.Mons m mZ).Guests)=true){y:Guest}(k:GKeep (gOf h m g) y):SimT h (zkJ h m g y) m (fun b=>zd7 b g y):=by have X:=S.ok.mon a;have kp:KeepP (ix h.Mons m mZ) {ix h.Mons m mZ with Guests:=up (ix h.Mons m mZ).Guests g y}:=⟨rfl,rfl⟩;refine⟨zwO S a kp (zkA X kp (zbM _ _ _) rfl rfl X.outs X.pend X.tr X.own fun z d=>?_) (zbM _ _ _) (fun j c=>?_) rfl,fun i=>?_,zbM _ _ _⟩;{rcases qW d with h|h;{exact X.gs z h};{rw [h];exact ztt.2 k.ok}};{show (ix (up (ix h.Mons m mZ).Guests g y) j gZ).Live=_;by_cases e:g=j;{subst e;rw[zbf hg];exact k.live};{rw [zbt (zF.1 hg).1 (zF.1 c).1 e]}};{refine(zuX (h:=h) (r:=zkJ h m g y) a rfl rfl kp i).trans ?_;by_cases e:i=m;{subst e;rw[zbr.2 rfl,cond_true,cond_true];unfold zd7 zG;rw[a];rfl};{rw [zbV.2 e];rfl}}
theorem zWM {h:Host}(S:Safe h){m:Int}(a:hasB m (ln h.Mons)=true){y:Mon}(kp:KeepP (ix h.Mons m mZ) y)(d:MOk y)(hg:y.Guests=(ix h.Mons m mZ).Guests)(c:y.Tables=(ix h.Mons m mZ).Tables) :
 SimT h {h with Mons:=up h.Mons m y} m (fun b=>{b with Outs:=y.Outs,Pending:=y.Pending}):=by
 refine⟨zwO S a kp d (by rw[hg]) (fun j _=>by rw[hg]) c,fun i=>?_,zbM _ _ _⟩
 refine(zuX (h:=h) (r:={h with Mons:=up h.Mons m y}) a rfl rfl kp i).trans ?_
 by_cases e:i=m
 .subst e;rw[zbr.2 rfl,cond_true,cond_true];unfold zG;rw[a,hg];rfl
 .rw [zbV.2 e];rfl
theorem ze0 {h:Host}{m:Int}(a:hasB m (ln h.Mons)=true):zG h m=⟨zct h m 8 0,(ix h.Mons m mZ).Guests,(ix h.Mons m mZ).Outs,(ix h.Mons m mZ).Pending⟩:=by unfold zG;rw[a];rfl
theorem z4I {h:Host}(S:Safe h){m:Int}(a:hasB m (ln h.Mons)=true):SimT h (owned h m) m id:=by unfold owned;cases b:ilt (ix h.Mons m mZ).Own 1000000000 with|false=>exact SimT.refl S m|true=>rw[cond_true];have X:=S.ok.mon a;have d:=zcG.1 X.own;have c:(ix h.Mons m mZ).Own<1000000000:=qE b;have kp:KeepP (ix h.Mons m mZ) {ix h.Mons m mZ with Own:=zM .i64 (ix h.Mons m mZ).Own 1}:=⟨rfl,rfl⟩;refine(zWM S a kp (zkA X kp rfl rfl rfl X.outs X.pend X.tr ?_ X.gs) rfl rfl).congr ?_;{show win (zM .i64 (ix h.Mons m mZ).Own 1) 0 1000000000=true;rw[zQk (by omega) (by omega),zcG];omega};{rw [ze0 a];rfl}
theorem z14 {h:Host}(S:Safe h){m:Int}(a:hasB m (ln h.Mons)=true)(n:Int):SimT h (zoa h m n) m (fun b=>zod b n):=by unfold zoa;have X:=S.ok.mon a;cases c:ilt (ln (ix h.Mons m mZ).Outs) 40 with|false=>refine(SimT.refl S m).congr ?_;rw[ze0 a];unfold zod;rw[c];rfl|true=>rw[cond_true];have d:ln (ix h.Mons m mZ).Outs<40:=qE c;have kp:KeepP (ix h.Mons m mZ) {ix h.Mons m mZ with Outs:=ap (ix h.Mons m mZ).Outs [n]}:=⟨rfl,rfl⟩;refine(zWM S a kp (zkA X kp rfl rfl rfl ?_ X.pend X.tr X.own X.gs) rfl rfl).congr ?_;{show (ap (ix h.Mons m mZ).Outs [n]).length<=40;unfold ln ap at *;simp;omega};{rw [ze0 a];unfold zod;rw[c];rfl}
theorem ztX {h:Host}{m g:Int}(a:hasB m (ln h.Mons)=true)(hg:hasB g (ln (ix h.Mons m mZ).Guests)=true):gAt (zG h m) g=gOf h m g:=by rw[ze0 a];unfold gAt;show (cond (hasB g (ln (ix h.Mons m mZ).Guests)) _ _)=_;rw[hg];rfl
theorem zQl {x:Guest}(h:zbc x=3\/zbc x=4\/zbc x=5\/zbc x=6):(zcs x.Prog x.Pc).Op=zbc x:=by unfold zbc at h ⊢;cases e:canRun x with|false=>simp[e]at h|true=>simp only[e,cond_true]at h ⊢;(cases f:zic x with|true=>simp[f]at h|false=>simp only[f,cond_false]at h ⊢;unfold zyo at h ⊢;by_cases a:(zcs x.Prog x.Pc).Op=3;{rw [a];rfl};{rw [zbV.2 a,cond_false]at h ⊢;by_cases b:(zcs x.Prog x.Pc).Op=4;{rw [b];rfl};{rw [zbV.2 b,cond_false]at h ⊢;by_cases c:(zcs x.Prog x.Pc).Op=5;{rw [c];rfl};{rw [zbV.2 c,cond_false]at h ⊢;by_cases d:(zcs x.Prog x.Pc).Op=6;{rw [d];rfl};{rw [zbV.2 d,cond_false]at h ⊢;cases g:ieq (zcs x.Prog x.Pc).Op 7<;>simp [g]at h}}}})
theorem z9F {x:Guest}(X:GOk x){w:Int}(a:zbc x=w)(h:w=3\/w=4):0<=address x/\address x<=15:=by have e:address x=(zcs x.Prog x.Pc).X:=(by unfold address;rcases h with e|e;{rw [a,e];rfl};{rw [a,e];rfl});rw[e];exact zbbM (zJL X.prog _) (by rw[zQl (by omega),a];exact h)
theorem z9G {a:Int}(b:0<=a)(c:a<=15):win (zbi a) 0 3=true/\hasB (zdc a) 4=true :=
 zK9 (n:=16) (P:=fun a=>win (zbi a) 0 3=true/\hasB (zdc a) 4=true) (by decide) b (by omega)
theorem z0J {p:Int}(h:win p 0 3=true)(w:Bool):zgU (zrx p w)=true:=by unfold zgU zrx;simp[ieq,h]
theorem z3m {n:Int}(h:win n 0 99=true):zgU (zzF n)=true:=by unfold zgU zzF;simp[ieq,h]
theorem z6e {n:Int}(h:win n 0 99=true):zgU (zyp n)=true:=by unfold zgU zyp;simp[ieq,h]
theorem z6k {x:Guest}(X:GOk x)(t:Int){w:Int}(d:zbc x=w):GKeep x (zju x t w):=by have c:=zJL X.prog x.Pc;unfold zju;by_cases b:w=6;{rw [zbr.2 b];exact zi2 X (z3m (zcG.2 (z3E c (by rw[zQl (by omega),d];omega))))};{rw [zbV.2 b,cond_false];by_cases a:w=5;{rw [zbr.2 a];cases zgI t 1 with|true=>exact zi2 X (z6e (zcG.2 (z3E c (by rw[zQl (by omega),d];omega))))|false=>rw[a];exact zi1 X};{rw [zbV.2 a];rw[Bool.false_and,cond_false];cases e:(ieq w 7&&zgI t 2) with|true=>exact zi2 X rfl|false=>rw[cond_false];cases ieq w 7;{exact zi1 X};{exact zZq X}}}
theorem zZz {a:Type}(g:Int):hasB g (ln ([]:List a))=false:=by cases h:hasB g (ln ([]:List a)) with|false=>rfl|true=>have:=zF.1 h;simp[ln] at this;omega
theorem z5p {m:List (List Int)}(h:∀c∈m,zcl c=true)(p c:Int):win (cellAt m p c) 0 99=true:=by unfold cellAt zhE;cases b:hasB p (ln m) with|false=>rfl|true=>rw[cond_true];(cases a:hasB c (ln (ix m p [])) with|false=>rfl|true=>rw[cond_true];exact(zs6.1 (h _ (zlc b []))).1 _ (zlc a 0))
theorem HOk.seenG {h:Host}(H:HOk h){m g:Int}(a:hasB m (ln h.Mons)=true)(hg:hasB g (ln (ix h.Mons m mZ).Guests)=true):GOk (gOf h m g):=H.guest a hg
theorem zWY {h:Host}(S:Safe h){m g:Int}(i:hasB m (ln h.Mons)=true)(hg:hasB g (ln (ix h.Mons m mZ).Guests)=true)(w:Bool)(B:zbc (gOf h m g)=bif w then 4 else 3) :
 SimT h (zjt (zmy h m g (gOf h m g) w) m g (gOf h m g) w) m (fun b=>znB b g (gOf h m g) w):=by
 have X:=S.ok.seenG i hg;have t:=z9F X B (by cases w<;>simp)
 have n:=z9G t.1 t.2;have z:zcc w=1\/zcc w=2:=by cases w<;>simp [zcc]
 unfold zjt zmy;cases k:zb7 h m g (zbi (address (gOf h m g))) (zcc w) with
 |false=>have e:lookOf h h.Buffer m g (zbi (address (gOf h m g))) (zcc w) false=(h,-1,false):=(by unfold lookOf;rw[k];rfl);have q:zfi (gOf h m g).Live (zbi (address (gOf h m g))) (zcc w)=false:=(by cases y:zfi (gOf h m g).Live (zbi (address (gOf h m g))) (zcc w) with|false=>rfl|true=>exact Bool.noConfusion (k.symm.trans (zqC.2 ⟨zjw.2 ⟨S.ok,i,hg⟩,z,y⟩)));rw[e];refine(zqe S i hg (zi2 X (z0J n.1 w))).congr ?_;unfold znB;rw[q];rfl
 |true=>obtain⟨L,x⟩:=zRh S false k S.rt.e1;obtain⟨_,_,j⟩:=zqC.1 k;have c:zfi (gOf h m g).Live (zbi (address (gOf h m g))) (zcc w)=true:=j;have W:=walked X j;rw[x,cond_true];have l:=L.op.safe S;have f:hasB m (ln (lookOf h h.Buffer m g (zbi (address (gOf h m g))) (zcc w) false).1.Mons)=true:=(by rw[L.op.like.has];exact i);have a:=L.op.like.g m i;have C:hasB (zcC (zcO h m g) (zbi (address (gOf h m g))) (zcc w)) 8=true:=W.q8;obtain⟨u,v⟩:=zwP l f C L.inn L.ne (zdc (address (gOf h m g))) (gOf h m g).A;rw[L.op.like.seen m] at v;cases w with|true=>rw[cond_true];have r:=L.op.sim S m;have p:hasB m (ln ({ (lookOf h h.Buffer m g (zbi (address (gOf h m g))) (zcc true) false).1 with Memory:=zbK (lookOf h h.Buffer m g (zbi (address (gOf h m g))) (zcc true) false).1.Memory (lookOf h h.Buffer m g (zbi (address (gOf h m g))) (zcc true) false).2.1 (zdc (address (gOf h m g))) (gOf h m g).A}:Host).Mons)=true:=f;have d:hasB g (ln (ix ({ (lookOf h h.Buffer m g (zbi (address (gOf h m g))) (zcc true) false).1 with Memory:=zbK (lookOf h h.Buffer m g (zbi (address (gOf h m g))) (zcc true) false).1.Memory (lookOf h h.Buffer m g (zbi (address (gOf h m g))) (zcc true) false).2.1 (zdc (address (gOf h m g))) (gOf h m g).A}:Host).Mons m mZ).Guests)=true:=(by show hasB g (ln (ix (lookOf h h.Buffer m g (zbi (address (gOf h m g))) (zcc true) false).1.Mons m mZ).Guests)=true;rw[a];exact hg);have s:GKeep (gOf { (lookOf h h.Buffer m g (zbi (address (gOf h m g))) (zcc true) false).1 with Memory:=zbK (lookOf h h.Buffer m g (zbi (address (gOf h m g))) (zcc true) false).1.Memory (lookOf h h.Buffer m g (zbi (address (gOf h m g))) (zcc true) false).2.1 (zdc (address (gOf h m g))) (gOf h m g).A} m g) (zcb (gOf h m g)):=(by have:gOf { (lookOf h h.Buffer m g (zbi (address (gOf h m g))) (zcc true) false).1 with Memory:=zbK (lookOf h h.Buffer m g (zbi (address (gOf h m g))) (zcc true) false).1.Memory (lookOf h h.Buffer m g (zbi (address (gOf h m g))) (zcc true) false).2.1 (zdc (address (gOf h m g))) (gOf h m g).A} m g=gOf h m g:=(by show ix (ix (lookOf h h.Buffer m g (zbi (address (gOf h m g))) (zcc true) false).1.Mons m mZ).Guests g gZ=_;rw[a];rfl);rw[this];exact zi1 X);refine((r.trans u).trans (zqe u.safe p d s)).congr ?_;unfold znB;rw[c];rfl|false=>rw[cond_false];have r:=L.op.sim S m;have d:hasB g (ln (ix (lookOf h h.Buffer m g (zbi (address (gOf h m g))) (zcc false) false).1.Mons m mZ).Guests)=true:=(by rw[a];exact hg);have s:GKeep (gOf (lookOf h h.Buffer m g (zbi (address (gOf h m g))) (zcc false) false).1 m g) (loaded (gOf h m g) (cellAt (lookOf h h.Buffer m g (zbi (address (gOf h m g))) (zcc false) false).1.Memory (lookOf h h.Buffer m g (zbi (address (gOf h m g))) (zcc false) false).2.1 (zdc (address (gOf h m g))))):=(by have:gOf (lookOf h h.Buffer m g (zbi (address (gOf h m g))) (zcc false) false).1 m g=gOf h m g:=(by show ix (ix (lookOf h h.Buffer m g (zbi (address (gOf h m g))) (zcc false) false).1.Mons m mZ).Guests g gZ=_;rw[a];rfl);rw[this];exact z3x X (z5p l.ok.pgs _ _));refine(r.trans (zqe l f d s)).congr ?_;unfold znB;rw[c,v];rfl
theorem z6j {h r:Host}{m g:Int}(e:(ix r.Mons m mZ).Guests=(ix h.Mons m mZ).Guests):gOf r m g=gOf h m g:=by unfold gOf;rw[e]
theorem zbaM (h:Host)(m:Int)(a:hasB m (ln h.Mons)=true):(ix (owned h m).Mons m mZ).Guests=(ix h.Mons m mZ).Guests:=by unfold owned;cases ilt (ix h.Mons m mZ).Own 1000000000 with|false=>rfl|true=>show (ix (up h.Mons m _) m mZ).Guests=_;rw[zbf a]
theorem z6F (h:Host)(m n:Int)(a:hasB m (ln h.Mons)=true):(ix (zoa h m n).Mons m mZ).Guests=(ix h.Mons m mZ).Guests:=by unfold zoa;cases ilt (ln (ix h.Mons m mZ).Outs) 40 with|false=>rfl|true=>show (ix (up h.Mons m _) m mZ).Guests=_;rw[zbf a]
theorem z4K {h:Host}(S:Safe h){m:Int}(a:hasB m (ln h.Mons)=true)(x:Guest)(w:Int):SimT h (zf9 h m x w) m id/\(ix (zf9 h m x w).Mons m mZ).Guests=(ix h.Mons m mZ).Guests:=by unfold zf9;cases (cond (ine w 6) (ieq (zAp (ix h.Mons m mZ).Traps x.Ctl.Traps (zzk w)) 2) false) with|false=>exact⟨SimT.refl S m,rfl⟩|true=>exact⟨z4I S a,zbaM h m a⟩
theorem z4J {h:Host}(S:Safe h){m:Int}(a:hasB m (ln h.Mons)=true)(x:Guest)(w:Int):SimT h (zf8 h m x w) m (fun b=>bif (cond (zkf x.Ctl.Traps w) (ieq w 5) false) then zod b (zcs x.Prog x.Pc).X else b)/\(ix (zf8 h m x w).Mons m mZ).Guests=(ix h.Mons m mZ).Guests:=by unfold zf8;cases (cond (zkf x.Ctl.Traps w) (ieq w 5) false) with|false=>exact⟨SimT.refl S m,rfl⟩|true=>exact⟨z14 S a _,z6F h m _ a⟩
theorem zEU {h:Host}(S:Safe h){m g:Int}(d:hasB m (ln h.Mons)=true)(hg:hasB g (ln (ix h.Mons m mZ).Guests)=true){w:Int}(l:zbc (gOf h m g)=w) :
 SimT h (zwS h m g (gOf h m g) w) m (fun b=>zFF b g (gOf h m g) w):=by
 have X:=S.ok.seenG d hg;obtain⟨f,j⟩:=z4K S d (gOf h m g) w;have a:hasB m (ln (zf9 h m (gOf h m g) w).Mons)=true:=by rw[f.has];exact d
 obtain⟨i,k⟩:=z4J f.safe a (gOf h m g) w;have e:hasB m (ln (zf8 (zf9 h m (gOf h m g) w) m (gOf h m g) w).Mons)=true:=by rw[i.has];exact a
 have c:hasB g (ln (ix (zf8 (zf9 h m (gOf h m g) w) m (gOf h m g) w).Mons m mZ).Guests)=true:=by rw[k,j];exact hg
 have n:GKeep (gOf (zf8 (zf9 h m (gOf h m g) w) m (gOf h m g) w) m g) (zju (gOf h m g) (gOf h m g).Ctl.Traps w):=by rw[z6j (k.trans j)];exact z6k X _ l
 exact((f.trans i).trans (zqe i.safe e c n)).congr rfl
theorem z2j (x:Guest):zbc x=0\/zbc x=1\/zbc x=2\/zbc x=3\/zbc x=4\/zbc x=5\/zbc x=6\/zbc x=7:=by unfold zbc zyo;cases canRun x<;>cases zic x<;>cases ieq (zcs x.Prog x.Pc).Op 3<;>cases ieq (zcs x.Prog x.Pc).Op 4<;>cases ieq (zcs x.Prog x.Pc).Op 5<;>cases ieq (zcs x.Prog x.Pc).Op 6<;>cases ieq (zcs x.Prog x.Pc).Op 7<;>simp
theorem zT3 {h:Host}(H:HOk h)(m g:Int):zk3 (zG h m) g=bif zbW h m g then !ieq (zbc (gOf h m g)) 0 else false:=by unfold zk3 zbW;rw[zil.2 H,cond_true];cases a:hasB m (ln h.Mons) with|false=>have:(zG h m).Guests=[]:=(by unfold zG;rw[a];rfl);rw[this,zZz];rfl|true=>rw[cond_true,zze H a,cond_true];have:(zG h m).Guests=(ix h.Mons m mZ).Guests:=(by rw[ze0 a]);rw[this];(cases hg:hasB g (ln (ix h.Mons m mZ).Guests) with|false=>rfl|true=>rw[cond_true,cond_true,ztX a hg])
theorem step_ok {h:Host}(S:Safe h)(m g:Int):SimT h (zbE h m g).1 m (fun b=>zhT b g)/\(zbE h m g).2=zk3 (zG h m) g:=by
 have a:=zT3 S.ok m g;unfold zbE;cases i:zbW h m g with
 |false=>rw[i,cond_false]at a;refine⟨(SimT.refl S m).congr ?_,a.symm⟩;unfold zhT;rw[a];rfl
 |true=>rw[i,cond_true]at a;rw[cond_true];obtain⟨_,c,hg⟩:=zjw.1 i;have X:=S.ok.seenG c hg;have f:=ztX c hg;have d:∀w,zbc (gOf h m g)=w->w≠0->zhT (zG h m) g=stepped (zG h m) g (gOf h m g) w:=(by intro w j k;unfold zhT;rw[a,j,zbV.2 k,f,j];rfl);rcases z2j (gOf h m g) with e|e|e|e|e|e|e|e;{rw [e];rw[e]at a;refine⟨(SimT.refl S m).congr ?_,a.symm⟩;unfold zhT;rw[a];rfl};{rw [e]at a ⊢;exact⟨(zqe S c hg (zN0 X)).congr (d 1 e (by decide)).symm,a.symm⟩};{rw [e]at a ⊢;exact⟨(zqe S c hg (z0U X)).congr (d 2 e (by decide)).symm,a.symm⟩};{rw [e]at a ⊢;exact⟨(zWY S c hg false e).congr (d 3 e (by decide)).symm,a.symm⟩};{rw [e]at a ⊢;exact⟨(zWY S c hg true e).congr (d 4 e (by decide)).symm,a.symm⟩};{rw [e]at a ⊢;exact⟨(zEU S c hg e).congr (d 5 e (by decide)).symm,a.symm⟩};{rw [e]at a ⊢;exact⟨(zEU S c hg e).congr (d 6 e (by decide)).symm,a.symm⟩};{rw [e]at a ⊢;exact⟨(zEU S c hg e).congr (d 7 e (by decide)).symm,a.symm⟩}
structure BackOk (b c:Bare):Prop where
 m:c.Memory=b.Memory
 o:c.Outs=b.Outs
 n:c.Guests.length=b.Guests.length
 g:∀j,hasB j (ln b.Guests)=true->GKeep (ix b.Guests j gZ) (ix c.Guests j gZ)
 p:zc3 b.Pending=true->zc3 c.Pending=true
theorem z7a {h:Host}(S:Safe h){m:Int}(b:hasB m (ln h.Mons)=true){c:Bare}(k:BackOk (zG h m) c):SimT h (zc6 h m c) m (fun _=>c):=by have X:=S.ok.mon b;have f:=ze0 b;have d:(zG h m).Guests=(ix h.Mons m mZ).Guests:=(by rw[f]);have l:c.Guests.length=(ix h.Mons m mZ).Guests.length:=(by rw[k.n,d]);have hg:∀j,hasB j (ln (ix h.Mons m mZ).Guests)=true->GKeep (ix (ix h.Mons m mZ).Guests j gZ) (ix c.Guests j gZ):=fun j a=>(by have:=k.g j (by rw[d];exact a);rwa [d] at this);have kp:KeepP (ix h.Mons m mZ) (zvj (ix h.Mons m mZ) c):=⟨rfl,rfl⟩;have s:zc3 c.Pending=true:=k.p (by rw[f];exact X.pend);refine⟨zwO S b kp (zkA X kp l rfl rfl X.outs s X.tr X.own fun z t=>?_) l (fun j a=>(hg j a).live) rfl,fun i=>?_,zbM _ _ _⟩;{obtain⟨j,a,rfl⟩:=zVX t gZ;exact ztt.2 (hg j (by unfold ln at a ⊢;rw[<- l];exact a)).ok};{refine(zuX (h:=h) (r:=zc6 h m c) b rfl rfl kp i).trans ?_;by_cases e:i=m;{subst e;rw[zbr.2 rfl,cond_true,cond_true];show Bare.mk (zG h i).Memory c.Guests (ix h.Mons i mZ).Outs c.Pending=c;have u:=k.m;have q:=k.o;rw[f]at q;cases c;simp_all};{rw [zbV.2 e];rfl}}
theorem seen_none {h:Host}{m:Int}(a:hasB m (ln h.Mons)=false):zG h m=⟨[],[],[],0⟩:=by unfold zG;rw[a];rfl
theorem ztw:zca ⟨[],[],[],0⟩=false:=by decide
theorem ztL {b:Bare}(h:zca b=false)(g:Int):zce b g=false:=by unfold zce;rw[h];rfl
theorem zht {b:Bare}(h:zca b=true):BackOk b b:=⟨rfl,rfl,rfl,fun j a=>⟨ztt.1 (by
 unfold zca at h;rw[zb9,qM]at h;exact h.1 _ (zlc a _)),rfl⟩,id⟩
theorem z2w {b:Bare}(h:zca b=true){g:Int}(hg:hasB g (ln b.Guests)=true){y:Guest}(k:GKeep (gAt b g) y):BackOk b (zd7 b g y):=by have e:gAt b g=ix b.Guests g gZ:=(by unfold gAt;rw[hg];rfl);refine⟨rfl,rfl,zbM _ _ _,fun j c=>?_,id⟩;show GKeep _ (ix (up b.Guests g y) j gZ);by_cases a:g=j;{subst a;rw[zbf hg,<- e];exact k};{rw [zbt (zF.1 hg).1 (zF.1 c).1 a];exact(zht h).g j c}
theorem zrr {b:Bare}(h:zca b=true){g:Int}{c:Bool}{y:Guest}(k:hasB g (ln b.Guests)=true->c=true->GOk (gAt b g)->GKeep (gAt b g) y):BackOk b (chg b g c y):=by unfold chg zce;rw[h,cond_true];cases hg:hasB g (ln b.Guests) with|false=>exact zht h|true=>rw[cond_true];(cases c with|false=>exact zht h|true=>refine z2w h hg (k hg rfl ?_);have:=(zht h).g g hg;unfold gAt;rw[hg];exact this.ok)
theorem zpT {h:Host}(S:Safe h)(m:Int){F:Bare->Bare}(d:∀b,zca b=true->BackOk b (F b))(c:F ⟨[],[],[],0⟩=⟨[],[],[],0⟩):SimT h (zeu h m (F (zG h m))) m F:=by unfold zeu zcJ;rw[zil.2 S.ok,cond_true];cases a:hasB m (ln h.Mons) with|false=>refine(SimT.refl S m).congr ?_;rw[seen_none a];exact c.symm|true=>exact(z7a S a (d _ (zze S.ok a))).congr rfl
theorem zkK {h:Host}(S:Safe h)(m:Int){t:Bare->Bool}(a:t ⟨[],[],[],0⟩=false):zdQ h m (t (zG h m))=t (zG h m):=by unfold zdQ zcJ;rw[zil.2 S.ok,cond_true];cases b:hasB m (ln h.Mons) with|false=>rw[cond_false,seen_none b,a]|true=>rfl
theorem zpx (g:Int)(c:Bool)(y:Guest):chg ⟨[],[],[],0⟩ g c y=⟨[],[],[],0⟩:=by unfold chg;rw[ztL ztw];rfl
theorem ziX (g:Int)(c:Bool):zbZ ⟨[],[],[],0⟩ g c=false:=by unfold zbZ;rw[ztL ztw];rfl
theorem zW0 {t:List Slot}{n q:Int}(h:zcS t n q=true){p:Int}{s:Slot}(b:zdw s q=true):zcS (zdY t p s) n q=true:=by
 unfold zdY;cases hasB p (ln t) with
 |false=>exact h
 |true=>rw[cond_true];rw[zro]at h ⊢;rw[zdz];refine⟨fun x c=>?_,h.2⟩;rcases qW c with a|a;{exact h.1 x a};{rw [a];exact b}
theorem zban {x:Guest}(X:GOk x){p:Int}{s:Slot}(h:zsE p s=true):GKeep x (zAP x p s):=by unfold zsE at h;rw[zb9]at h;exact⟨⟨X.prog,X.a,X.pc,zW0 X.w h.2,X.l,X.ctl,X.pend,X.ex,X.seen⟩,rfl⟩
theorem zbak {x:Guest}(X:GOk x){v:Int}(h:zr9 x v=true):GKeep x (zw6 x v):=by unfold zr9 at h;rw[zb9]at h;unfold zw6;cases ieq x.Exit.Kind 2 with|true=>rw[cond_true];have b:=zi2 (z0S X h.1) (e:=zkD) rfl;have a:=zi1 b.ok;exact⟨a.ok,a.live⟩|false=>rw[cond_false];have b:=zi2 X (e:=zkD) rfl;have a:=zi1 b.ok;exact⟨a.ok,a.live.trans b.live⟩
theorem zbam {x:Guest}(X:GOk x):GKeep x (zxh x):=by unfold zxh;have a:=zi2 X (e:=zkD) rfl;cases ieq x.Exit.Kind 1 with|true=>exact a|false=>have b:=zZq a.ok;exact⟨b.ok,b.live.trans a.live⟩
theorem zZr {x:Guest}(X:GOk x)(n:Int):GKeep x (zmV x n):=zZs X (zRv X.pend n)
theorem zbal {x:Guest}(X:GOk x){c:Ctl}(h:zg7 c=true):GKeep x (zIn x c):=⟨⟨X.prog,X.a,X.pc,X.w,X.l,h,X.pend,X.ex,X.seen⟩,rfl⟩
theorem zDb (n:Int):∀(ks:List Int) (b:Bare) (l:List Guest),(∀k∈ks,hasB k (ln b.Guests)=true)->BackOk b {b with Guests:=l}->BackOk b {b with Guests:=zlj n ks l}
 |[],b,l,_,h=>h
 |k::ks,b,l,i,h=>by show BackOk b {b with Guests:=zlj n ks (zFx n l k)};refine zDb n ks b _ (fun j a=>i j (qX _ a)) ⟨h.m,h.o,by show (up l k _).length=_;rw[zbM];exact h.n,fun j a=>?_,h.p⟩;show GKeep _ (ix (up l k _) j gZ);have q:l.length=b.Guests.length:=h.n;have c:hasB k (ln l)=true:=(by unfold ln;rw[q];exact i k jA);by_cases e:k=j;{subst e;rw[zbf c];have d:=h.g k a;have f:=zZr d.ok n;exact⟨f.ok,f.live.trans d.live⟩};{rw [zbt (zF.1 c).1 (zF.1 a).1 e];exact h.g j a}
theorem z0i {b:Bare}(h:zca b=true)(n:Int):BackOk b (zja b n):=by
 unfold zja zeK zFy;rw[h,cond_true];cases hasB n 8 with
 |false=>exact zht h
 |true=>
  rw[cond_true];cases ieq (ln (zdU b.Guests n)) 0 with
  |true=>have:=zht h;exact⟨rfl,rfl,rfl,this.g,fun c=>zRv c n⟩
  |false=>rw[cond_false];refine zDb n _ b b.Guests (fun k a=>?_) (zht h);unfold zdU at a;obtain⟨j,e,rfl,_⟩:=(zJj (d:=gZ)).1 a;exact zF.2 ⟨by omega,by unfold ln;omega⟩
theorem z2v {b:Bare}(h:zca b=true):BackOk b (zlM b):=by unfold zlM;rw[h,cond_true];exact⟨rfl,rfl,rfl,(zht h).g,fun a=>zRw a⟩
theorem z6N {h:Host}(S:Safe h)(m p c v:Int):SimT h (zmS h m p c v) m (fun b=>zTy b p c v)/\ze4 h m p c v=zyq (zG h m) p c v:=by have e:ze4 h m p c v=zyq (zG h m) p c v:=(by unfold ze4 zyq zbU z9t;rw[zil.2 S.ok,cond_true];cases d:hasB m (ln h.Mons) with|false=>rw[seen_none d,ztw];rfl|true=>rw[zze S.ok d,cond_true];rfl);refine⟨?_,e⟩;unfold zmS;cases f:ze4 h m p c v with|false=>refine(SimT.refl S m).congr ?_;unfold zTy;rw[<- e,f];rfl|true=>rw[cond_true];have a:=f;unfold ze4 at a;rw[zb9,zb9]at a;obtain⟨k,_,_⟩:=a;obtain⟨_,d,j⟩:=zoc.1 k;have M:=zRp S.ok (m:=m) (p:=p) 2 d j;have i:=M.op.sim S m;have g:hasB m (ln (mended h m p 2).Mons)=true:=(by rw[i.has];exact d);obtain⟨l,_⟩:=zwP i.safe g j rfl M.inn c v;refine(i.trans l).congr ?_;unfold zTy;rw[<- e,f];rfl
theorem z3S {h:Host}(S:Safe h)(m g page need:Int):zb7 h m g page need=(cond (zce (zG h m) g) (cond (zjy need) (zfi (gAt (zG h m) g).Live page need) false) false):=by have e:zbW h m g=zce (zG h m) g:=(by unfold zbW zce;rw[zil.2 S.ok,cond_true];cases a:hasB m (ln h.Mons) with|false=>rw[seen_none a,ztw,cond_false,cond_false]|true=>rw[cond_true,zze S.ok a,cond_true];have:(zG h m).Guests=(ix h.Mons m mZ).Guests:=(by rw[ze0 a]);rw[this]);unfold zb7;rw[<- e];cases hg:zbW h m g with|false=>rw[cond_false,cond_false]|true=>obtain⟨_,a,hg⟩:=zjw.1 hg;have:(gAt (zG h m) g).Live=zcO h m g:=(by rw[ztX a hg];rfl);rw[this]
theorem zIA {h:Host}(S:Safe h)(m g a n:Int)(b:n=1\/n=2):znP (zG h m) g a n=bif win a 0 15 then zb7 h m g (zbi a) n else false:=by rw[z3S S];unfold znP;rw[zHu.2 b,cond_true];cases zce (zG h m) g<;>cases win a 0 15<;>rfl
theorem zUv {h:Host}(S:Safe h){m g a n:Int}(f:n=1\/n=2)(b:znP (zG h m) g a n=true) :
 Looked h (zDO h m g a n).1 m g (zbi a) n (zFe (zG h m) g a n) (zDO h m g a n).2.1/\hasB m (ln h.Mons)=true/\hasB (zFe (zG h m) g a n) 8=true:=by
 rw[zIA S m g a n f,zb9]at b;obtain⟨L,_⟩:=zRh S true b.2 S.rt.e2;obtain⟨d,_,i⟩:=zqC.1 b.2;obtain⟨_,c,hg⟩:=zjw.1 d;have e:zFe (zG h m) g a n=zcC (zcO h m g) (zbi a) n:=by unfold zFe;rw[ztX c hg];rfl
 rw[e];exact⟨L,c,(walked (S.ok.guest c hg) i).q8⟩
theorem zbbG {h:Host}(S:Safe h)(m g a v:Int):SimT h (zpG h m g a v) m (fun b=>z0G b g a v)/\zgs h m g a v=zzQ (zG h m) g a v:=by have e:zgs h m g a v=zzQ (zG h m) g a v:=(by unfold zgs zzQ;rw[zIA S m g a 2 (.inr rfl)];cases win a 0 15<;>cases win v 0 99<;>cases zb7 h m g (zbi a) 2<;>rfl);refine⟨?_,e⟩;unfold zpG;cases c:zgs h m g a v with|false=>refine(SimT.refl S m).congr ?_;unfold z0G;rw[<- e,c];rfl|true=>rw[cond_true];have f:znP (zG h m) g a 2=true:=(by have:=e.symm.trans c;unfold zzQ at this;exact(zb9.1 this).1);obtain⟨L,i,j⟩:=zUv S (.inr rfl) f;have d:=L.op.sim S m;obtain⟨k,_⟩:=zwP d.safe (by rw[d.has];exact i) j L.inn L.ne (zdc a) v;refine(d.trans k).congr ?_;unfold z0G;rw[<- e,c];rfl
theorem zbaP {h:Host}(S:Safe h)(m g a:Int):SimT h (zmT h m g a) m id/\zfE h m g a=znP (zG h m) g a 1/\zrG h m g a=zTC (zG h m) g a:=by have e:zfE h m g a=znP (zG h m) g a 1:=(by unfold zfE;rw[zIA S m g a 1 (.inl rfl)]);unfold zmT zrG zTC;rw[e];cases d:znP (zG h m) g a 1 with|false=>exact⟨SimT.refl S m,rfl,rfl⟩|true=>obtain⟨L,f,i⟩:=zUv S (.inl rfl) d;have b:=L.op.sim S m;obtain⟨_,c⟩:=zwP b.safe (by rw[b.has];exact f) i L.inn L.ne (zdc a) 0;rw[L.op.like.seen m] at c;exact⟨b,rfl,c⟩
theorem z3G {k:Kept}{a b:List Slot}(h:KOk k a b)(p:Int)(s:Slot):KOk (zbR k p) (zdY a p s) b:=by have j:=zkq k p;have f:(zdY a p s).length=a.length:=(by unfold zdY;cases hasB p (ln a)<;>simp [zbM]);refine⟨by rw[j.1,f,h.l1],by rw[j.2,f,h.l2],fun i l=>?_⟩;have c:hasB i (ln a)=true:=(by unfold ln at l ⊢;rwa [<- f]);have d:hasB i (ln k.Known)=true:=(by unfold ln at c ⊢;rwa [h.l1]);have g:=zxa (q:=p) (by rw[h.l1,h.l2]) d;rw[g.1,g.2];by_cases e:p=i;{subst e;rw[zbr.2 rfl];rfl};{rw [zbV.2 e,cond_false,cond_false,h.at' i c];have:ix (zdY a p s) i sZ=ix a i sZ:=(by unfold zdY;cases m:hasB p (ln a) with|false=>rfl|true=>exact zbt (zF.1 m).1 (zF.1 c).1 e _ _);rw[this]}
theorem zbb4 {t m g:Int}(a:zdn t=m)(b:zdX t=g)(c:0<=m):t=zez m g:=by subst a;subst b;by_cases h:1<=t/\t<=6;{have e:t=1\/t=2\/t=3\/t=4\/t=5\/t=6:=(by omega);rcases e with rfl|rfl|rfl|rfl|rfl|rfl<;>decide};{exfalso;have:zdn t = -1:=(by unfold zdn ige ile;rw[show (decide (t≥1)&&decide (t<=6))=false by simp;omega];rfl);omega}
theorem zYX {t:List Slot}{p q:Int}{s:Slot}(h:q≠p):zbz (zdY t p s) q=zbz t q:=by unfold zdY;cases a:hasB p (ln t) with|false=>rfl|true=>exact zRH (zF.1 a).1 h
theorem z7b {t:List Slot}(h:zcS t 4 8=true)(p:Int):zdw (zbz t p) 8=true:=by unfold zbz;cases a:hasB p (ln t) with|false=>rfl|true=>exact(zro.1 h).1 _ (zlc a _)
theorem z3w {x:Guest}(X:GOk x)(p:Int):GOk (zdI x p):=⟨X.prog,X.a,X.pc,X.w,zW0 X.l (z7b X.w p),X.ctl,X.pend,X.ex,X.seen⟩
theorem z6h {h:Host}(S:Safe h)(m g p:Int):SimT h (zks h m g p) m (fun b=>chg b g (hasB p 4) (zdI (gAt b g) p))/\zdQ h m (zbZ (zG h m) g (hasB p 4))=zbZ (zG h m) g (hasB p 4):=by
 refine⟨?_,zkK S m (t:=fun b=>zbZ b g (hasB p 4)) (ziX g _)⟩;unfold zks zcJ;rw[zil.2 S.ok,cond_true];cases a:hasB m (ln h.Mons) with
 |false=>refine(SimT.refl S m).congr ?_;rw[seen_none a,zpx];rfl
 |true=>
  rw[cond_true];cases w:zbZ (zG h m) g (hasB p 4) with
  |false=>refine(SimT.refl S m).congr ?_;show zG h m=chg (zG h m) g (hasB p 4) (zdI (gAt (zG h m) g) p);have c:=w;unfold zbZ at c;unfold chg;rw[c];rfl
  |true=>rw[cond_true];have c:=w;unfold zbZ zce at c;rw[zze S.ok a,cond_true,zb9,ze0 a]at c;have hg:hasB g (ln (ix h.Mons m mZ).Guests)=true:=c.1;have X:=S.ok.mon a;have G:=S.ok.seenG a hg;have C:chg (zG h m) g (hasB p 4) (zdI (gAt (zG h m) g) p)=zd7 (zG h m) g (zdI (gOf h m g) p):=(by have l:=w;unfold zbZ at l;unfold chg;rw[l,ztX a hg];rfl);rw[C];have B:hasB g (ln (ix h.Mons m mZ).Tables)=true:=(by unfold ln;rw[X.gt];exact hg);have s:(zDq (zc6 h m (zd7 (zG h m) g (zdI (gOf h m g) p))) m g p).Mons=up h.Mons m {ix h.Mons m mZ with Guests:=up (ix h.Mons m mZ).Guests g (zdI (gOf h m g) p),Tables:=up (ix h.Mons m mZ).Tables g (zbR (ix (ix h.Mons m mZ).Tables g kZ) p)}:=(by show up (up h.Mons m _) m _=_;rw[z5b];have D:ix (zc6 h m (zd7 (zG h m) g (zdI (gOf h m g) p))).Mons m mZ=zvj (ix h.Mons m mZ) (zd7 (zG h m) g (zdI (gOf h m g) p)):=zbf a _ _;rw[D];unfold zvj zd7;rw[ze0 a]);have kp:KeepP (ix h.Mons m mZ) {ix h.Mons m mZ with Guests:=up (ix h.Mons m mZ).Guests g (zdI (gOf h m g) p),Tables:=up (ix h.Mons m mZ).Tables g (zbR (ix (ix h.Mons m mZ).Tables g kZ) p)}:=⟨rfl,rfl⟩;have K:MOk {ix h.Mons m mZ with Guests:=up (ix h.Mons m mZ).Guests g (zdI (gOf h m g) p),Tables:=up (ix h.Mons m mZ).Tables g (zbR (ix (ix h.Mons m mZ).Tables g kZ) p)}:=zkA X kp (zbM _ _ _) (zbM _ _ _) rfl X.outs X.pend X.tr X.own fun z L=>(by rcases qW L with h|h;{exact X.gs z h};{rw [h];exact ztt.2 (z3w G p)});have E:HOk (zDq (zc6 h m (zd7 (zG h m) g (zdI (gOf h m g) p))) m g p):=S.ok.up a K s S.ok.m12 S.ok.pgs (zzD S.ok.b1 _) (zzD S.ok.b2 _) fun q _=>.inl (qZ _);have u:∀b:List Entry,(∀e∈b,zcX h e=true)->∀e∈zcD b (zez m g) p,zcX (zDq (zc6 h m (zd7 (zG h m) g (zdI (gOf h m g) p))) m g p) e=true:=(by intro b F e H;obtain⟨x,y⟩:=zzS.1 H;obtain⟨l,n,r⟩:=zfm.1 (F e x);rw[zfm,s,zdz];refine⟨l,?_⟩;by_cases d:m=zdn e.Tag;{rw [<- d]at l n r ⊢;rw[zbf a];show hasB (zdX e.Tag) (ln (up _ _ _))=true/\below' _ (zbv (zbz (ix (up (ix h.Mons m mZ).Guests g _) (zdX e.Tag) gZ).Live e.Page) (ix h.Mons m mZ).Outer)=true;rw[zdz];refine⟨n,?_⟩;by_cases f:g=zdX e.Tag;{rw [<- f]at n r ⊢;rw[zbf hg];have A:e.Page≠p:=fun J=>y ⟨zbb4 d.symm f.symm (zF.1 a).1,J⟩;show below' _ (zbv (zbz (zdY (gOf h m g).Live p _) e.Page) _)=true;rw[zYX A];exact r};{rw [zbt (zF.1 hg).1 (zF.1 n).1 f];exact r}};{rw [zbt (zF.1 a).1 (zF.1 l).1 d];exact⟨n,r⟩});refine⟨⟨E,⟨fun i v=>?_,u _ S.rt.e1,u _ S.rt.e2⟩⟩,fun i=>?_,by rw[s,zbM]⟩;{rw [s]at v ⊢;rw[zdz]at v;by_cases d:m=i;{subst d;rw[zbf a];intro j I;show KOk (ix (up (ix h.Mons m mZ).Tables g _) j kZ) (ix (up (ix h.Mons m mZ).Guests g _) j gZ).Live (ix h.Mons m mZ).Outer;have k:hasB j (ln (ix h.Mons m mZ).Guests)=true:=(by have:hasB j (ln (up (ix h.Mons m mZ).Guests g (zdI (gOf h m g) p)))=true:=I;rwa [zdz] at this);by_cases e:g=j;{subst e;rw[zbf B,zbf hg];exact z3G (S.rt.t m a g hg) p _};{rw [zbt (zF.1 hg).1 (zF.1 k).1 e,zbt (zF.1 hg).1 (zF.1 k).1 e];exact S.rt.t m a j k}};{rw [zbt (zF.1 a).1 (zF.1 v).1 d];exact S.rt.t i v}};{refine(zuX (h:=h) a s rfl kp i).trans ?_;by_cases e:i=m;{subst e;rw[zbr.2 rfl,cond_true,cond_true,C,ze0 a];rfl};{rw [zbV.2 e];rfl}}
theorem zRS (g:Int):zhT ⟨[],[],[],0⟩ g=⟨[],[],[],0⟩/\zk3 ⟨[],[],[],0⟩ g=false:=by have:zk3 ⟨[],[],[],0⟩ g=false:=(by unfold zk3;rw[zZz];rfl);refine⟨?_,this⟩;unfold zhT;rw[this];rfl
theorem z6n {h:Host}(S:Safe h)(a:GAct):SimT h (zt9 h a) a.M (fun b=>zKR b a)/\zDM h a=zKS (zG h a.M) a:=by
 have f:=ztw;unfold zt9 zDM zKR zKS;cases ieq a.Kind 1 with
 |true=>obtain⟨k,e⟩:=step_ok S a.M a.G;exact⟨k,by rw[cond_true,cond_true,e]⟩
 |false=>
  simp only[cond_false];cases ieq a.Kind 2 with
  |true=>
   exact⟨zpT S a.M (F:=fun b=>chg b a.G (zsE a.X ⟨a.Y,a.Z⟩) (zAP (gAt b a.G) a.X ⟨a.Y,a.Z⟩)) (fun b c=>zrr c fun _ d G=>zban G d) (zpx _ _ _),
    congrArg (fun t=>Told.mk t 0) (zkK S a.M (t:=fun b=>zbZ b a.G (zsE a.X ⟨a.Y,a.Z⟩)) (ziX _ _))⟩
  |false=>
   simp only[cond_false];cases ieq a.Kind 3 with
   |true=>obtain⟨k,e⟩:=z6h S a.M a.G a.X;exact⟨k,congrArg (fun t=>Told.mk t 0) e⟩
   |false=>
    simp only[cond_false];cases ieq a.Kind 4 with
    |true=>
     exact⟨zpT S a.M (F:=fun b=>chg b a.G (zr9 (gAt b a.G) a.X) (zw6 (gAt b a.G) a.X)) (fun b c=>zrr c fun _ d G=>zbak G d) (zpx _ _ _),
      congrArg (fun t=>Told.mk t 0) (zkK S a.M (t:=fun b=>zbZ b a.G (zr9 (gAt b a.G) a.X)) (ziX _ _))⟩
    |false=>
     simp only[cond_false];cases ieq a.Kind 5 with
     |true=>
      exact⟨zpT S a.M (F:=fun b=>chg b a.G (zxg (gAt b a.G)) (zxh (gAt b a.G))) (fun b c=>zrr c fun _ _ G=>zbam G) (zpx _ _ _),
       congrArg (fun t=>Told.mk t 0) (zkK S a.M (t:=fun b=>zbZ b a.G (zxg (gAt b a.G))) (ziX _ _))⟩
     |false=>
      simp only[cond_false];cases ieq a.Kind 6 with
      |true=>
       exact⟨zpT S a.M (F:=fun b=>chg b a.G (zfU (gAt b a.G).Pending a.X) (zmV (gAt b a.G) a.X)) (fun b c=>zrr c fun _ _ G=>zZr G _) (zpx _ _ _),
        congrArg (fun t=>Told.mk t 0) (zkK S a.M (t:=fun b=>zbZ b a.G (zfU (gAt b a.G).Pending a.X)) (ziX _ _))⟩
      |false=>
       simp only[cond_false];cases ieq a.Kind 7 with
       |true=>
        exact⟨zpT S a.M (F:=fun b=>chg b a.G (zg7 ⟨a.X,a.Y,ieq a.Z 1⟩) (zIn (gAt b a.G) ⟨a.X,a.Y,ieq a.Z 1⟩)) (fun b c=>zrr c fun _ d G=>zbal G d) (zpx _ _ _),
         congrArg (fun t=>Told.mk t 0) (zkK S a.M (t:=fun b=>zbZ b a.G (zg7 ⟨a.X,a.Y,ieq a.Z 1⟩)) (ziX _ _))⟩
       |false=>
        simp only[cond_false];cases ieq a.Kind 8 with
        |true=>obtain⟨k,e⟩:=z6N S a.M a.X a.Y a.Z;exact⟨k,congrArg (fun t=>Told.mk t 0) e⟩
        |false=>
         simp only[cond_false];cases ieq a.Kind 9 with
         |true=>
          exact⟨zpT S a.M (F:=fun b=>zja b a.X) (fun b c=>z0i c _) (by unfold zja zeK;rw[f];rfl),
           congrArg (fun t=>Told.mk t 0) (zkK S a.M (t:=fun b=>zeK b a.X) (by unfold zeK;rw[f];rfl))⟩
         |false=>
          simp only[cond_false];cases ieq a.Kind 10 with
          |true=>refine⟨zpT S a.M (F:=zlM) (fun b c=>z2v c) (by unfold zlM;rw[f];rfl),?_⟩;have e:=zkK S a.M (t:=zk1) (by unfold zk1;rw[f];rfl);show Told.mk (zdQ h a.M (zk1 (zG h a.M))) (cond (zcJ h a.M) (zr8 (zG h a.M)) (-1))=⟨zk1 (zG h a.M),zr8 (zG h a.M)⟩;rw[e];congr 1;unfold zcJ;rw[zil.2 S.ok,cond_true];cases j:hasB a.M (ln h.Mons) with|true=>rfl|false=>rw[seen_none j];unfold zr8;rw[f];rfl
          |false=>
           simp only[cond_false];cases ieq a.Kind 11 with
           |true=>obtain⟨k,e⟩:=zbbG S a.M a.G a.X a.Y;exact⟨k,congrArg (fun t=>Told.mk t 0) e⟩
           |false=>obtain⟨k,g,i⟩:=zbaP S a.M a.G a.X;exact⟨k,by simp only[cond_false];rw[g,i]⟩
theorem z6G {h:Host}(S:Safe h)(a:GAct):Safe (zl9 h a)/\(∀i,zG (zl9 h a) i=zG h i)/\(zl9 h a).Mons.length=h.Mons.length:=by
 unfold zl9;have k:∀r,Op h r->Safe r/\(∀i,zG r i=zG h i)/\r.Mons.length=h.Mons.length:=fun r k=>⟨k.safe S,fun i=>k.like.seen i,k.like.len⟩;cases ieq a.Kind 13 with
 |true=>exact k _ (zMI S.ok _ _)
 |false=>
  simp only[cond_false];cases ieq a.Kind 14 with
  |true=>exact k _ (zRq S.ok _ _)
  |false=>
   simp only[cond_false];cases ieq a.Kind 15 with
   |true=>exact k _ (zRo S.ok _ _)
   |false=>
    simp only[cond_false];cases ieq a.Kind 16 with
    |true=>obtain⟨b,c⟩:=zS9 S a.M a.X;refine⟨b,c,?_⟩;simp only[cond_true];unfold zjo;cases zbX h<;>cases hasB a.M (ln h.Mons)<;>cases win a.X 0 3<;>first|rfl|exact zbM _ _ _
    |false=>exact k _ (zbaK S.ok)
def zkb (a:GAct):Bool:=bif win a.Kind 1 17 then !win a.Kind 13 17 else false
theorem z2o {h:Host}(S:Safe h)(a:GAct):Safe (zeg h a)/\(zeg h a).Mons.length=h.Mons.length/\
 (∀i,zG (zeg h a) i=bif (cond (zkb a) (ieq i a.M) false) then zKR (zG h i) a else zG h i)/\(zkb a=true->zi3 h a=zKS (zG h a.M) a):=by
 unfold zeg zi3 zkb;cases win a.Kind 1 17 with
 |false=>exact⟨S,rfl,fun _=>rfl,fun e=>by cases e⟩
 |true=>
  simp only[cond_true];cases win a.Kind 13 17 with
  |true=>obtain⟨b,c,d⟩:=z6G S a;exact⟨b,d,fun i=>by simp only[cond_true,jM,cond_false];exact c i,fun e=>by cases e⟩
  |false=>obtain⟨k,e⟩:=z6n S a;exact⟨k.safe,k.len,fun i=>by simp only[cond_false,jO,cond_true];exact k.seen i,fun _=>e⟩
def zcL (h:Host):List Bare:=(List.range h.Mons.length).map fun (i:Nat)=>zG h (i:Int)
theorem zgr (h:Host):(zcL h).length=h.Mons.length:=by simp[zcL]
theorem zlT (h:Host)(m:Int):hasB m (ln (zcL h))=hasB m (ln h.Mons):=by unfold ln;rw[zgr]
theorem zk2 {h:Host}{m:Int}(c:hasB m (ln h.Mons)=true)(d:Bare):ix (zcL h) m d=zG h m:=by have a:=zF.1 c;unfold ln at a;have b:m.toNat<(zcL h).length:=(by rw[zgr];omega);have:=zl0 b d;rw[show ((m.toNat:Nat):Int)=m by omega] at this;rw[this];simp[zcL,show max m 0=m by omega]
theorem zKP {h r:Host}(a:r.Mons.length=h.Mons.length)(e:∀i,zG r i=zG h i):zcL r=zcL h:=by unfold zcL;rw[a];exact List.map_congr_left fun i _=>e _
theorem zXA {h:Host}(S:Safe h)(a:GAct):zcL (zeg h a)=zKT (zcL h) a/\(zkb a=true->zi3 h a=z0h (zcL h) a):=by obtain⟨_,k,l,t⟩:=z2o S a;have p:zkb a=true->zcL (zeg h a)=(cond (hasB a.M (ln h.Mons)) (up (zcL h) a.M (zKR (zG h a.M) a)) (zcL h)):=(by intro b;rw[b]at l;cases f:hasB a.M (ln h.Mons) with|false=>rw[cond_false];refine zPu ⟨[],[],[],0⟩ (by rw[zgr,zgr,k]) fun i c=>?_;rw[zlT]at c;rw[zk2 c];have d:hasB i (ln h.Mons)=true:=(by unfold ln at c ⊢;rwa [<- k]);rw[zk2 d,l i];have:ieq i a.M=false:=zbV.2 fun e=>(by rw[e,f]at d;cases d);rw[this];rfl|true=>rw[cond_true];refine zPu ⟨[],[],[],0⟩ (by rw[zbM,zgr,zgr,k]) fun i c=>?_;rw[zlT]at c;rw[zk2 c,l i];have d:hasB i (ln h.Mons)=true:=(by unfold ln at c ⊢;rwa [<- k]);by_cases e:i=a.M;{rw [e,zbr.2 rfl,zbf (by rw[zlT];exact f)];rfl};{rw [zbV.2 e,zbt (zF.1 f).1 (zF.1 d).1 (Ne.symm e),zk2 d];rfl});have s:zkb a=false->zcL (zeg h a)=zcL h:=fun b=>zKP k fun i=>(by rw[l i,b];rfl);have r:zkb a=true->win a.Kind 1 17=true/\win a.Kind 13 17=false:=(by intro b;unfold zkb at b;cases g:win a.Kind 1 17<;>cases j:win a.Kind 13 17<;>rw [g,j]at b<;>first|exact⟨rfl,rfl⟩|cases b);constructor;{unfold zKT;cases b:zkb a with|true=>obtain⟨g,j⟩:=r b;rw[g,j,cond_true,cond_false,zlT,p b];(cases f:hasB a.M (ln h.Mons) with|true=>rw[cond_true,cond_true,zk2 f]|false=>rfl)|false=>rw[s b];unfold zkb at b;(cases g:win a.Kind 1 17 with|false=>rfl|true=>(cases j:win a.Kind 13 17 with|true=>rfl|false=>rw[g,j]at b;cases b))};{intro b;rw[t b];obtain⟨g,j⟩:=r b;unfold z0h;rw[g,j,cond_true,cond_false,zlT];cases f:hasB a.M (ln h.Mons) with|true=>rw[cond_true,zk2 f]|false=>rw[cond_false,seen_none f];have n:=(zRS a.G).2;have q:=ztw;unfold zKS;simp only[n,ziX];unfold zyq zeK zk1 zr8 zzQ zTC znP;simp only[q,ztL q,cond_false];(cases m:ieq a.Kind 10 with|true=>have:a.Kind=10:=zbr.1 m;rw[this];rfl|false=>cases ieq a.Kind 1<;>cases ieq a.Kind 2<;>cases ieq a.Kind 3<;>cases ieq a.Kind 4<;>cases ieq a.Kind 5<;>cases ieq a.Kind 6<;>cases ieq a.Kind 7<;>cases ieq a.Kind 8<;>cases ieq a.Kind 9<;>cases ieq a.Kind 11<;>rfl)}
def zL7:List GAct->List Told->List Told
 |a::l,t::ts=>bif zkb a then t::zL7 l ts else zL7 l ts
 |_,_=>[]
structure Live (u:Host×List Told) (v:List Bare×List Told):Prop where
 safe:Safe u.1
 seen:zcL u.1=v.1
def zE1:List GAct->Host->List Told
 |[],_=>[]
 |a::l,h=>zi3 h a::zE1 l (zeg h a)
def z4Z:List GAct->List Bare->List Told
 |[],_=>[]
 |a::l,b=>z0h b a::z4Z l (zKT b a)
def zvq:List GAct->Host->Host
 |[],h=>h
 |a::l,h=>zvq l (zeg h a)
def z6d:List GAct->List Bare->List Bare
 |[],b=>b
 |a::l,b=>z6d l (zKT b a)
theorem zZM:∀(l:List GAct) (u:Host×List Told),zD6 l u=(zvq l u.1,u.2++zE1 l u.1)
 |[],u=>by simp[zD6,zvq,zE1]
 |a::l,u=>by rw[zD6,zZM l];simp[zvq,zE1,ap]
theorem z3l:∀(l:List GAct) {h:Host},Safe h->Safe (zvq l h)/\zcL (zvq l h)=z6d l (zcL h)/\zL7 l (zE1 l h)=zL7 l (z4Z l (zcL h))/\(zvq l h).Mons.length=h.Mons.length
 |[],h,S=>⟨S,rfl,rfl,rfl⟩
 |a::l,h,S=>by have d:=z2o S a;have b:=zXA S a;obtain⟨e,f,c,g⟩:=z3l l d.1;refine⟨e,by show zcL (zvq l (zeg h a))=z6d l (zKT (zcL h) a);rw[f,b.1],?_,g.trans d.2.1⟩;show (cond (zkb a) _ _)=(cond (zkb a) _ _);cases i:zkb a with|false=>rw[cond_false,cond_false,c,b.1]|true=>rw[cond_true,cond_true,c,b.1,b.2 i]
theorem cz8 (q:Int)(b:0<=q):zu0.countP (fun s=>ieq s.Page q)=0:=by rw[vA];intro s a;have:=(uO.1 a).2;rw[this];show ¬ ieq (-1) q=true;rw[zbr];omega
theorem zXS {p:List Ins}(h:zc4 p=true):GOk (zeA p):=⟨h,rfl,rfl,rfl,rfl,rfl,rfl,rfl,rfl⟩
theorem z3Z {a:List (List Ins)}(i:1<=a.length)(h:∀p∈a,zc4 p=true):MOk (zgj a):=by have d:∀s∈zu0,s=noSlot:=fun s c=>(uO.1 c).2;refine⟨?_,?_,?_,rfl,fun s c=>.inl (d s c),rfl,rfl,jX _,rfl,rfl,rfl,fun g hg=>?_,fun p b=>?_⟩;{show 1<=((a.take 2).map zeA).length;simp;omega};{show ((a.take 2).map zeA).length<=2;simp;omega};{show ((a.take 2).map (fun _=>zjS)).length=((a.take 2).map zeA).length;simp};{obtain⟨p,b,rfl⟩:=jD.1 hg;exact ztt.2 (zXS (h p (jV b)))};{have f:=zF.1 b;have e:p=0\/p=1\/p=2\/p=3\/p=4\/p=5\/p=6\/p=7:=(by omega);rcases e with rfl|rfl|rfl|rfl|rfl|rfl|rfl|rfl<;>rfl}
def z9E (a:List (List (List Ins))):Prop:=1<=a.length/\∀p∈a,1<=p.length/\∀x∈p,zc4 x=true
theorem z0X {a:List (List (List Ins))}(h:z9E a):Safe (zfk a):=by have b:∀x∈(zfk a).Mons,∃p∈a,x=zgj p:=fun x f=>(by obtain⟨p,j,rfl⟩:=jD.1 f;exact⟨p,jV j,rfl⟩);have u:∀x∈(zfk a).Mons,x.Outer=zu0:=fun x f=>(by obtain⟨p,_,rfl⟩:=b x f;rfl);have H:HOk (zfk a):=(by refine⟨rfl,fun c v=>?_,?_,?_,rfl,rfl,fun x f=>?_,fun q B=>?_⟩;{have:c=[0,0,0,0]:=(uO.1 v).2;rw[this];rfl};{show 1<=((a.take 3).map zgj).length;have:=h.1;simp;omega};{show ((a.take 3).map zgj).length<=3;simp;omega};{obtain⟨p,j,rfl⟩:=b x f;exact z3Z (h.2 p j).1 (h.2 p j).2};{have:zeR (zfk a).Mons q=0:=(by unfold zeR;have:(zfk a).Mons.map (fun x=>cPg x q)=(zfk a).Mons.map (fun _=>0):=List.map_congr_left fun x f=>(by unfold cPg;rw[u x f];exact cz8 q B);rw[this];generalize (zfk a).Mons=l;induction l with|nil=>rfl|cons x l D=>rw[jB,uI,D]);omega});refine⟨H,fun m A g hg=>?_,fun e r=>(by cases r),fun e r=>(by cases r)⟩;obtain⟨p,j,e⟩:=b _ (zlc A mZ);rw[e]at hg ⊢;have d:hasB g (ln ((p.take 2).map zeA))=true:=hg;have C:ix (zgj p).Tables g kZ=zjS:=(by have:hasB g (ln ((p.take 2).map (fun _=>zjS)))=true:=(by unfold ln at d ⊢;simpa using d);obtain⟨k,y,_,n⟩:=zAg this kZ;show ix ((p.take 2).map (fun _=>zjS)) g kZ=_;rw[n];simp);have z:(ix (zgj p).Guests g gZ).Live=zkY:=(by obtain⟨k,y,_,n⟩:=zAg d gZ;show (ix ((p.take 2).map zeA) g gZ).Live=_;rw[n];simp[zeA]);rw[C,z];show KOk zjS zkY zu0;refine⟨rfl,rfl,fun i w=>?_⟩;have s:=zF.1 w;have:ln zkY=4:=rfl;rw[this]at s;have t:i=0\/i=1\/i=2\/i=3:=(by omega);rcases t with rfl|rfl|rfl|rfl<;>rfl
end
end Go.Proofs.YthdlghbibaoabaaGreat.E
