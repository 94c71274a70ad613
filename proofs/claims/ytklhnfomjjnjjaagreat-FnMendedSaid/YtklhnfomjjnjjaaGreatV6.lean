/- What is proved here: a part of the proof of the claim. -/
import Derived.Test.YtklhnfomjjnjjaaGreatV5
import Derived.WalkKit
import Derived.Tactics2
import Derived.Deep.RegionWith
import Derived.Laws.Rows
namespace Go.Proofs.YtklhnfomjjnjjaaGreat.E
open Go
set_option linter.defProp false
set_option linter.constructorNameAsVariable false
set_option linter.unusedVariables false
set_option maxRecDepth 100000
set_option linter.unusedSimpArgs false
set_option linter.unusedSectionVars false
noncomputable section
instance:Inhabited k0:=⟨⟨0,0⟩⟩
instance:Inhabited au:=⟨⟨0,0,0,0⟩⟩
instance:Inhabited aD:=⟨⟨0,0,false,0⟩⟩
instance:Inhabited ah:=⟨⟨[],0,0,[],[],⟨0,0,false⟩,0,⟨0,0,false,0⟩,false,[]⟩⟩
def zt4 {c:Cur}(h:zbd c){n m:Int}(a:0<n)(b:n<=m):inb (zn c n) m=true:=by have:=zfT h a;exact qK (by omega)
def zAV {c:Cur}(h:zbd c){n m:Int}(a:0<n)(b:n<=m+1):inr 0 (zn c n) m=true:=by have:=zfT h a;exact qK (by omega)
def zBF {a:Type}(l:List a)(n:Int):(tk l n).length<=l.length:=by simp[tk];omega
def zhK {a:Type}(l:List a)(n:Int)(x:a):(up l n x).length=l.length:=by simp[up]
def z2F {a:Type}(l:List a)(n:Int):ln (tk l n)<=ln l:=by have:=zBF l n;unfold ln;omega
def z2G {a:Type}(l:List a)(n:Int)(x:a):ln (up l n x)=ln l:=by unfold ln;rw[zhK]
def I64 (x:Int):Prop:=-9223372036854775808<=x/\x<=9223372036854775807
def zSS {f:Type}{c:Cur}(h:zbd c){P:f->Prop}{m:Int}(r:0<=m)(I:m<=1000){fc:Cur->Bool}{fs:Cur->Cur}{fv:Cur->f}(z:∀{c:Cur},zbd c->fc c=true)(C:∀c,0<=(fs c).i)(hg:∀{c:Cur},zbd c->P (fv c)){G:Ans->Prop}{R:Cur->List f->Ans}(w:∀s l,s.b=c.b->0<=s.i->ln l=m->(∀x∈l,P x)->G (R s l)){j:Type}(S:Int->Int×Int×List f->j){F:(j->OA)->j->OA}(v:∀rec t i k l,F rec (S t (i,k,l))=bif ilt t m then (cond (fc ⟨c.b,i,k⟩) (cond (few<|ln<|ap l [fv ⟨c.b,i,k⟩]) (rec<|S (zO .i64 t 1) ((fs ⟨c.b,i,k⟩).i,(fs ⟨c.b,i,k⟩).h,ap l [fv ⟨c.b,i,k⟩])) none) none) else some (R ⟨c.b,i,k⟩ l)):Ends G (iter 1002 F<|S 0 (c.i,c.h,[])):=by refine zlV (λn s=>∃t i k l,s=S t (i,k,l)/\t+(n:Int)=1000/\0<=t/\t<=m/\0<=i/\(∀x∈l,P x)/\ln l=t) ?_ 1002 1000 _ ⟨0,c.i,c.h,[],rfl,rfl,kP 0,r,h.1,by simp,rfl⟩ (by omega);rintro n s rec ⟨t,i,k,l,rfl,D,u,E,p,q,H⟩ d;rw[v];have a:zbd ⟨c.b,i,k⟩:=zbL h p;refine zbE (λg=>?_) (λg=>?_);{have B:t<m:=qF g;have J:=zha (y:=1) u (by omega) (by omega) (by omega);refine zy (z a) (zy (zks (by rw[zht];omega))<|d (n-1) _ (by omega) ⟨_,_,_,_,rfl,by omega,by omega,by omega,C _,?_,by rw[zht];omega⟩);intro x e;rcases jJ.1 e with e|e;{exact q x e};{rw [qD.1 e];exact hg a}};{have A:¬ t<m:=jX g;exact zsS (w _ l rfl p (by omega) q)}
def zrf (N:Nat)(c:Cur)  : OA :=
 let a:=zba c [3,3,1,2,0,3,1,-1,4,9223372036854775807]; (oN (zbt c [3,3,1,2,0,3,1,-1,4,9223372036854775807])<|some [.agg [.s .u8 c.b,.i .i64 a.i,.i .i64 a.h],aI<|zbm c [3,3,1,2,0,3,1,-1,4,9223372036854775807]])
def zlD (c:Cur)(s:Cur)(a:Int):Prop:=(∃N,zrf N c=some (AV.agg (zbU s)::[aI a]))/\(s.b=c.b/\0<=s.i)/\(True)
def zjI (c:Cur)  : Bool:=wC (zlD c)
def zjJ (c:Cur)  : Cur:=wS (zlD c)
def zqp (c:Cur)  : Int:=wV (zlD c)
def zP4 {c:Cur}(h:zjI c=true):zlD c (zjJ c) (zqp c):=wG h
def zP6 (c:Cur)  : 0<=(zjJ c).i:=wP λh=>h.2.1.2
def zP5 (c:Cur)(h:∃N,Ends (wE (λa=>aI a) c.b λa=>True)<|zrf N c):zjI c=true:=wI (λ_ _ h=>h) h
def ztj:zdU:=rP0 λc=>(zjI c,zjJ c,[aI<|zqp c])
def zDA:zbR Tryz.prog 149 [false,true,true] ztj:=hP0 zdo zT zGY zq (zu []) (λ_ h=>(zP4 h).1)
def z3d {c:Cur}(h:zbd c):zjI c=true:=by
 refine zP5 c ⟨0,?_⟩;unfold zrf oN;conv=>zeta
 exact zy (zeE h (by simp)) (zbG aI (zbS _ _) trivial)
def z5w:zcQ:=[(149,[false,true,true],ztj)]++z5v
def zS8:zb2 z5w:=zcp zGY (by
 intro x a;simp only[qG,qO,or_false]at a;rcases a with rfl
 .exact zDA)
def z4s:zW:=[(50,zkM),(182,zn0),(183,zpv),(184,zrB)]++zvz
def zek:zL z4s:=zh zwt (zh zrS<|zh zs5<|zh zus zdo)
def zvk (N:Nat)(c:Cur)(d:Int):OA:=
 let e:=({ (zQ c 5) with b:=c.b}:Cur);let a:=({ (zf e d) with b:=c.b}:Cur); (oN (zcZ c 5)<|cond (zc7 c 5) (oN zbT<|some [.agg [.s .u8 c.b,.i .i64 (zQ c 5).i,.i .i64 (zQ c 5).h],.agg [.i .i64 zbi.af,.i .i64 zbi.ai]])<|oN (zB e d)<|oN (zbt a [3,3,3,1,2])<|some [.agg [.s .u8 c.b,.i .i64 (zba a [3,3,3,1,2]).i,.i .i64 (zba a [3,3,3,1,2]).h],.agg [.i .i64<|zn e d,.i .i64<|zbm a [3,3,3,1,2]]])
def zoB (c:Cur)(a:Int)(s:Cur)(d:k0):Prop:=(∃N,zvk N c a=some (AV.agg (zbU s)::[aT .slot d]))/\(s.b=c.b/\0<=s.i)/\(0<a->a<=1000->I64 d.af)
def zie (c:Cur)(a:Int):Bool:=wC (zoB c a)
def zgb (c:Cur)(a:Int):Cur:=wS (zoB c a)
def zfP (c:Cur)(a:Int):k0:=wV (zoB c a)
def zvN {c:Cur}{a:Int}(h:zie c a=true):zoB c a (zgb c a) (zfP c a):=wG h
def zFd (c:Cur)(a:Int):0<=(zgb c a).i:=wP λh=>h.2.1.2
def zVh (c:Cur)(a:Int)(h:∃N,Ends (wE (λd=>aT .slot d) c.b λd=>0<a->a<=1000->I64 d.af)<|zvk N c a):zie c a=true:=wI (λ_ _ h=>h) h
def zwL:zdU:=rP1 dI λc b=>(zie c b,zgb c b,[aT .slot<|zfP c b])
def zI7:zbR Tryz.prog 148 [false,true,true] zwL:=hP1 zek zT zS8 zq (zu []) (λ_ _ h=>(zvN h).1)
def zKu {c:Cur}(h:zbd c)(a:Int):zie c a=true:=by
 refine zVh c a ⟨0,?_⟩;unfold zvk oN;conv=>zeta
 have d:zbd {zQ c 5 with b:=c.b}:=zbL h (zch _ _);have g:zbd {zf {zQ c 5 with b:=c.b} a with b:=c.b}:=zbL h (zD _ _);refine zy (ziI h 5) (zbE (λ_=>zy rfl (zbG (aT .slot) (v:=⟨_,_⟩) (zch _ _) λ_ _=>?_)) λ_=>zy (zbB d a) (zy (zeE g (by simp))<|zbG (aT .slot) (v:=⟨_,_⟩) (zbS _ _) λe f=>?_));{exact⟨by decide,by decide⟩};{have:=zfT d e;exact⟨Int.le_trans (by decide) this.1,Int.le_trans (vL this.2) (by omega)⟩}
def z5x:zcQ:=[(148,[false,true,true],zwL)]++z5w
def zGZ:zb2 z5x:=zcp zS8 (by
 intro x a;simp only[qG,qO,or_false]at a;rcases a with rfl
 .exact zI7)
def zxy (N:Nat)(c:Cur)(a:Int):OA:=
 let e:=({ (zgb c a) with b:=c.b}:Cur);let d:=({ (zf e 12) with b:=c.b}:Cur);let f:=zba d [-1,-2,a,9223372036854775807,-9223372036854775808]; (oN (zie c a)<|oN (zB e 12)<|cond (ieq (zn e 12) 0) (oN (zbt d [-1,-2,a,9223372036854775807,-9223372036854775808])<|some [.agg [.s .u8 c.b,.i .i64 f.i,.i .i64 f.h],.agg [.i .i64<|zbm d [-1,-2,a,9223372036854775807,-9223372036854775808],.i .i64 (zfP c a).ai]])<|cond (ieq (zn e 12) 1) (oN (zjI d)<|some [.agg [.s .u8 c.b,.i .i64 (zjJ d).i,.i .i64 (zjJ d).h],.agg [.i .i64 (zfP c a).af,.i .i64<|zqp d]])<|some [.agg [.s .u8 c.b,.i .i64 (zf e 12).i,.i .i64 (zf e 12).h],.agg [.i .i64 (zfP c a).af,.i .i64 (zfP c a).ai]])
def zqq (c:Cur)(a:Int)(s:Cur)(d:k0):Prop:=(∃N,zxy N c a=some (AV.agg (zbU s)::[aT .slot d]))/\(s.b=c.b/\0<=s.i)/\(0<a->a<=1000->I64 d.af)
def zoy (c:Cur)(a:Int):Bool:=wC (zqq c a)
def zoz (c:Cur)(a:Int):Cur:=wS (zqq c a)
def zHa (c:Cur)(a:Int):k0:=wV (zqq c a)
def zKm {c:Cur}{a:Int}(h:zoy c a=true):zqq c a (zoz c a) (zHa c a):=wG h
def zYf (c:Cur)(a:Int):0<=(zoz c a).i:=wP λh=>h.2.1.2
def zYe (c:Cur)(a:Int)(h:∃N,Ends (wE (λd=>aT .slot d) c.b λd=>0<a->a<=1000->I64 d.af)<|zxy N c a):zoy c a=true:=wI (λ_ _ h=>h) h
def zzh:zdU:=rP1 dI λc b=>(zoy c b,zoz c b,[aT .slot<|zHa c b])
def zLW:zbR Tryz.prog 111 [false,true,true] zzh:=hP1 zek zT zGZ zq (zu []) (λ_ _ h=>(zKm h).1)
def zNV {c:Cur}(h:zbd c)(a:Int):zoy c a=true:=by
 refine zYe c a ⟨0,?_⟩;unfold zxy oN;conv=>zeta
 have d:zbd {zgb c a with b:=c.b}:=zbL h (zFd _ _);have f:zbd {zf {zgb c a with b:=c.b} 12 with b:=c.b}:=zbL h (zD _ _);have g:=(zvN<|zKu h a).2.2;refine zy (zKu h a) (zy (zbB d 12)<|zbE (λ_=>zy (zeE f (by simp)) (zbG (aT .slot) (v:=⟨zbm _ _,(zfP c a).ai⟩) (zbS _ _) λe i=>?_)) λ_=>zbE (λ_=>zy (z3d f) (zbG (aT .slot) (v:=⟨(zfP c a).af,zqp _⟩) (zP6 _) λe d=>g e d)) λ_=>zbG (aT .slot) (v:=⟨(zfP c a).af,(zfP c a).ai⟩) (zD _ _) λe d=>g e d);have j:=zWq f (l:=[-1,-2,a,9223372036854775807,-9223372036854775808]) (by simp);simp only[qG,qO,or_false]at j;unfold I64;dsimp only;omega
def zsC (N:Nat)(c:Cur)(g j:Int):OA:=
 (iter (σ:=(Int×Int×Int×Int×Int×lS×LI×Unit)) N (λk a=>let b:=a.2.2.2.2;let e:=b.2.2.1;let d:=(⟨e,a.2.2.2.1,b.1⟩:Cur);let f:=ap b.2.1 [zfP d a.2.1]; (cond (ilt a.2.2.1 a.1) (oN (zie d a.2.1)<|oN (few<|ln f)<|k (a.1,a.2.1,zO .i64 a.2.2.1 1,(zgb d a.2.1).i,(zgb d a.2.1).h,f,e,()))<|some [.agg [.s .u8 e,.i .i64 a.2.2.2.1,.i .i64 b.1],aS .slot b.2.1])) (g,j,0,c.i,c.h,[],c.b,()))
def zNq:=zu [(110,0,{n:=22,tm:=[(0,.lp 0 0),(1,ti),(2,ti),(7,.sl 0 []),(8,ti)],lo:=[(0,[.sl 1 [],ti,ti])],ro:=[(0,.slot,true),(1,.u8,false)]})]
def zmD (c:Cur)(a:Int)(d:Int)(s:Cur)(e:List k0):Prop:=(∃N,zsC N c a d=some (AV.agg (zbU s)::[aS .slot e]))/\(s.b=c.b/\0<=s.i)/\(0<=a->a<=1000->ln e=a/\(0<d->d<=1000->∀s∈e,I64 s.af))
def zho (c:Cur)(a:Int)(b:Int):Bool:=wC (zmD c a b)
def zJ (c:Cur)(a:Int)(b:Int):Cur:=wS (zmD c a b)
def zdB (c:Cur)(a:Int)(b:Int):List k0:=wV (zmD c a b)
def ztF {c:Cur}{a:Int}{b:Int}(h:zho c a b=true):zmD c a b (zJ c a b) (zdB c a b):=wG h
def zhp (c:Cur)(a:Int)(b:Int):0<=(zJ c a b).i:=wP λh=>h.2.1.2
def zTq (c:Cur)(a:Int)(d:Int)(h:∃N,Ends (wE (λe=>aS .slot e) c.b λe=>0<=a->a<=1000->ln e=a/\(0<d->d<=1000->∀s∈e,I64 s.af))<|zsC N c a d):zho c a d=true:=wI (λ_ _ h=>h) h
def zuB:zdU:=rP2 dI dI λc b d=>(zho c b d,zJ c b d,[aS .slot<|zdB c b d])
def zGt:zbR Tryz.prog 110 [false,true,true] zuB:=hP2 zek zT zGZ zq zNq (λ_ _ _ h=>(ztF h).1)
def zxr {c:Cur}(h:zbd c){d:Int}(g:0<=d)(j:d<=1000)(a:Int):zho c d a=true:=by
 refine zTq c d a ⟨1002,?_⟩;unfold zsC oN;conv=>zeta
 exact zSS h (P:=λs=>0<a->a<=1000->I64 s.af) g j (fc:=λc=>zie c a) (fs:=λc=>zgb c a) (fv:=λc=>zfP c a) (R:=λs l=>AV.agg (zbU s)::[aS .slot l]) (λh=>zKu h a) (λc=>zFd c a) (λh=>(zvN<|zKu h a).2.2) (λs l m n p q=>⟨s,l,rfl,⟨m,n⟩,λ_ _=>⟨p,λe f s r=>q s r e f⟩⟩) ((λi t=>(d,a,(i:Int),t.1,t.2.1,t.2.2,c.b,())):Int->Int×Int×List k0->_) (λrec t i k l=>rfl)
def z7L {c:Cur}(h:zbd c){n m:Int}(a:0<=n)(b:n<=1000)(d:0<m)(e:m<=1000):ln (zdB c n m)=n/\∀s∈zdB c n m,I64 s.af:=by have g:=(ztF<|zxr h a b m).2.2 a b;exact⟨g.1,g.2 d e⟩
def z5y:zcQ:=[(111,[false,true,true],zzh),(110,[false,true,true],zuB)]++z5x
def zG0:zb2 z5y:=zcp zGZ (by
 intro x a;simp only[qG,qO,or_false]at a;rcases a with rfl|rfl
 .exact zLW
 .exact zGt)
def zns (N:Nat)(c:Cur)(a d:Int):OA:=
 let g:=zdB c a d;let f:=({ (zJ c a d) with b:=c.b}:Cur);let e:=({ (zf f 8) with b:=c.b}:Cur);let k:=zn e a;let j:=({ (zf e a) with b:=c.b}:Cur); (oN (zho c a d)<|oN (zB f 8)<|cond (ieq (zn f 8) 0) (oN (zB e a)<|oN (zoy j d)<|oN (inb k<|ln g)<|p0 (up g k<|zHa j d) λl=>some [.agg [.s .u8 c.b,.i .i64 (zoz j d).i,.i .i64 (zoz j d).h],aS .slot l])<|cond (ieq (zn f 8) 1) (oN (zB e a)<|oN (inr 0 k<|ln g)<|some [.agg [.s .u8 c.b,.i .i64 (zf e a).i,.i .i64 (zf e a).h],aS .slot<|tk g k])<|some [.agg [.s .u8 c.b,.i .i64 (zf f 8).i,.i .i64 (zf f 8).h],aS .slot g])
def zjm (c:Cur)(a:Int)(d:Int)(s:Cur)(e:List k0):Prop:=(∃N,zns N c a d=some (AV.agg (zbU s)::[aS .slot e]))/\(s.b=c.b/\0<=s.i)/\(0<a->a<=1000->ln e<=a/\(0<d->d<=1000->∀s∈e,I64 s.af))
def zfA (c:Cur)(a:Int)(b:Int):Bool:=wC (zjm c a b)
def zgy (c:Cur)(a:Int)(b:Int):Cur:=wS (zjm c a b)
def zeZ (c:Cur)(a:Int)(b:Int):List k0:=wV (zjm c a b)
def zow {c:Cur}{a:Int}{b:Int}(h:zfA c a b=true):zjm c a b (zgy c a b) (zeZ c a b):=wG h
def zox (c:Cur)(a:Int)(b:Int):0<=(zgy c a b).i:=wP λh=>h.2.1.2
def zKl (c:Cur)(a:Int)(d:Int)(h:∃N,Ends (wE (λe=>aS .slot e) c.b λe=>0<a->a<=1000->ln e<=a/\(0<d->d<=1000->∀s∈e,I64 s.af))<|zns N c a d):zfA c a d=true:=wI (λ_ _ h=>h) h
def zq3:zdU:=rP2 dI dI λc b d=>(zfA c b d,zgy c b d,[aS .slot<|zeZ c b d])
def zAe:zbR Tryz.prog 67 [false,true,true] zq3:=hP2 zek zT zG0 zq (zu []) (λ_ _ _ h=>(zow h).1)
def znv {c:Cur}(h:zbd c){n:Int}(a:0<n)(j:n<=1000)(m:Int):zfA c n m=true:=by
 refine zKl c n m ⟨0,?_⟩;unfold zns oN;conv=>zeta
 have l:zbd {zJ c n m with b:=c.b}:=zbL h (zhp _ _ _);have i:zbd {zf {zJ c n m with b:=c.b} 8 with b:=c.b}:=zbL h (zD _ _);have k:zbd {zf {zf {zJ c n m with b:=c.b} 8 with b:=c.b} n with b:=c.b}:=zbL h (zD _ _);have g:=(ztF<|zxr h (vL a) j m).2.2 (vL a) j;generalize zdB c n m=T at g;refine zy (zxr h (vL a) j m) (zy (zbB l 8)<|zbE (λ_=>zy (zbB i n) (zy (zNV k m)<|zy (zt4 i a (by omega))<|zlg<|zbG (aS .slot) (zYf _ _) λ_ _=>⟨by rw[z2G];omega,λe f s d=>?_⟩)) λ_=>zbE (λ_=>zy (zbB i n) (zy (zAV i a (by omega))<|zbG (aS .slot) (zD _ _) λ_ _=>⟨?_,λe f s d=>g.2 e f s (jW d)⟩)) λ_=>zbG (aS .slot) (zD _ _) λ_ _=>⟨by omega,g.2⟩);{rcases qX d with d|rfl;{exact g.2 e f s d};{exact(zKm<|zNV k m).2.2 e f}};{have:=z2F T;exact Int.le_trans (this _) (by omega)}
def zvl (N:Nat)(c:Cur)  : OA :=
 (iter (σ:=(Int×Int×Int×LI×LI×Unit)) N (λf a=>let d:=(⟨a.2.2.2.2.1,a.2.1,a.2.2.1⟩:Cur);let e:=ap a.2.2.2.1 [zn d 100]; (cond (ilt a.1 4) (oN (zB d 100)<|oN (few<|ln e)<|f (zO .i64 a.1 1,(zf d 100).i,(zf d 100).h,e,a.2.2.2.2.1,()))<|some [.agg [.s .u8 a.2.2.2.2.1,.i .i64 a.2.1,.i .i64 a.2.2.1],aS .int a.2.2.2.1])) (0,c.i,c.h,[],c.b,()))
def zQn:=zu [(112,0,{n:=16,tm:=[(0,.lp 0 0),(3,.sl 0 []),(4,ti)],lo:=[(0,[.sl 1 [],ti,ti])],ro:=[(0,.int,true),(1,.u8,false)]})]
def zoD (c:Cur)(s:Cur)(a:LI):Prop:=(∃N,zvl N c=some (AV.agg (zbU s)::[aS .int a]))/\(s.b=c.b/\0<=s.i)/\(a.length=4)
def zif (c:Cur)  : Bool:=wC (zoD c)
def zfh (c:Cur)  : Cur:=wS (zoD c)
def znj (c:Cur)  : LI:=wV (zoD c)
def zvO {c:Cur}(h:zif c=true):zoD c (zfh c) (znj c):=wG h
def zFe (c:Cur)  : 0<=(zfh c).i:=wP λh=>h.2.1.2
def zVi (c:Cur)(h:∃N,Ends (wE (λa=>aS .int a) c.b λa=>a.length=4)<|zvl N c):zif c=true:=wI (λ_ _ h=>h) h
def zwM:zdU:=rP0 λc=>(zif c,zfh c,[aS .int<|znj c])
def zI9:zbR Tryz.prog 112 [false,true,true] zwM:=hP0 zek zT zG0 zq zQn (λ_ h=>(zvO h).1)
def zJ8 {c:Cur}(h:zbd c):zif c=true:=by
 refine zVi c ⟨1002,?_⟩;unfold zvl oN;conv=>zeta
 exact zSS h (P:=λ_=>True) (m:=4) (by omega) (by omega) (fc:=λc=>zB c 100) (fs:=λc=>zf c 100) (fv:=λc=>zn c 100) (R:=λs l=>AV.agg (zbU s)::[aS .int l]) (λh=>zbB h _) (λc=>zD c _) (λ_=>trivial) (λs l a d e f=>⟨s,l,rfl,⟨a,d⟩,by unfold ln at e;omega⟩) ((λi t=>((i:Int),t.1,t.2.1,t.2.2,c.b,())):Int->Int×Int×LI->_) (λrec t i k l=>rfl)
def z5z:zcQ:=[(67,[false,true,true],zq3),(112,[false,true,true],zwM)]++z5y
def zG1:zb2 z5z:=zcp zG0 (by
 intro x a;simp only[qG,qO,or_false]at a;rcases a with rfl|rfl
 .exact zAe
 .exact zI9)
def zxz (N:Nat)(c:Cur)(f:Int):OA:=
 (iter (σ:=(Int×Int×Int×Int×lM×LI×Unit)) N (λg a=>let b:=a.2.2.2.2;let d:=(⟨b.2.1,a.2.2.1,a.2.2.2.1⟩:Cur);let e:=ap b.1 [znj d]; (cond (ilt a.2.1 a.1) (oN (zif d)<|oN (few<|ln e)<|g (a.1,zO .i64 a.2.1 1,(zfh d).i,(zfh d).h,e,b.2.1,()))<|some [.agg [.s .u8 b.2.1,.i .i64 a.2.2.1,.i .i64 a.2.2.2.1],aS (.sl .int) b.1])) (f,0,c.i,c.h,[],c.b,()))
def zUd:=zu [(121,0,{n:=19,tm:=[(0,.lp 0 0),(1,ti),(5,.sl 0 []),(6,ti)],lo:=[(0,[.sl 1 [],ti,ti])],ro:=[(0,.sl .int,true),(1,.u8,false)]})]
def zqs (c:Cur)(a:Int)(s:Cur)(d:List LI):Prop:=(∃N,zxz N c a=some (AV.agg (zbU s)::[aS (.sl .int) d]))/\(s.b=c.b/\0<=s.i)/\(0<=a->a<=1000->ln d=a/\∀r∈d,r.length=4)
def zhW (c:Cur)(a:Int):Bool:=wC (zqs c a)
def zlE (c:Cur)(a:Int):Cur:=wS (zqs c a)
def ztG (c:Cur)(a:Int):List LI:=wV (zqs c a)
def zyC {c:Cur}{a0:Int}(h:zhW c a0=true):zqs c a0 (zlE c a0) (ztG c a0):=wG h
def zYj (c:Cur)(a0:Int):0<=(zlE c a0).i:=wP λh=>h.2.1.2
def zYi (c:Cur)(a:Int)(h:∃N,Ends (wE (λd=>aS (.sl .int) d) c.b λd=>(0<=a->a<=1000->ln d=a/\∀r∈d,r.length=4))<|zxz N c a):zhW c a=true:=wI (λ_ _ h=>h) h
def zzi:zdU:=rP1 dI λc b=>(zhW c b,zlE c b,[aS (.sl .int)<|ztG c b])
def zwv:zbR Tryz.prog 121 [false,true,true] zzi:=hP1 zek zT zG1 zq zUd (λ_ _ h=>(zyC h).1)
def z9s {c:Cur}(h:zbd c){a0:Int}(a:0<=a0)(d:a0<=1000):zhW c a0=true:=by
 refine zYi c a0 ⟨1002,?_⟩;unfold zxz oN;conv=>zeta
 exact zSS h (P:=λr=>r.length=4) a d (fc:=zif) (fs:=zfh) (fv:=znj) (R:=λs l=>AV.agg (zbU s)::[aS (.sl .int) l]) zJ8 zFe (λh=>(zvO<|zJ8 h).2.2) (λs l e f g j=>⟨s,l,rfl,⟨e,f⟩,λ_ _=>⟨g,j⟩⟩) ((λi t=>(a0,(i:Int),t.1,t.2.1,t.2.2,c.b,())):Int->Int×Int×List LI->_) (λrec t i k l=>rfl)
def zsD (N:Nat)(c:Cur)  : OA :=
 let d:=znj c;let e:=({ (zfh c) with b:=c.b}:Cur);let f:=zf e 6;let a:=({f with b:=c.b}:Cur);let g:=({ (zf a 4) with b:=c.b}:Cur); (oN (zif c)<|oN (zB e 6)<|cond (ieq (zn e 6) 0) (oN (zB a 4)<|oN (inr 0 (zn a 4)<|ln d)<|some [.agg [.s .u8 c.b,.i .i64 (zf a 4).i,.i .i64 (zf a 4).h],aS .int<|tk d<|zn a 4])<|cond (ieq (zn e 6) 1) (oN (zB a 4)<|oN (zbt g [-1,99,100])<|oN (inb (zn a 4)<|ln d)<|p0 (up d (zn a 4)<|zbm g [-1,99,100]) λj=>some [.agg [.s .u8 c.b,.i .i64 (zba g [-1,99,100]).i,.i .i64 (zba g [-1,99,100]).h],aS .int j])<|cond (ieq (zn e 6) 2) (oN (few<|ln<|ap d [1])<|some [.agg [.s .u8 c.b,.i .i64 f.i,.i .i64 f.h],aS .int<|ap d [1]])<|some [.agg [.s .u8 c.b,.i .i64 f.i,.i .i64 f.h],aS .int d])
def zmE (c:Cur)(s:Cur)(a:LI):Prop:=(∃N,zsD N c=some (AV.agg (zbU s)::[aS .int a]))/\(s.b=c.b/\0<=s.i)/\(a.length<=5)
def zkX (c:Cur)  : Bool:=wC (zmE c)
def zkY (c:Cur)  : Cur:=wS (zmE c)
def zsi (c:Cur)  : LI:=wV (zmE c)
def zCc {c:Cur}(h:zkX c=true):zmE c (zkY c) (zsi c):=wG h
def zTs (c:Cur)  : 0<=(zkY c).i:=wP λh=>h.2.1.2
def zTr (c:Cur)(h:∃N,Ends (wE (λa=>aS .int a) c.b λa=>a.length<=5)<|zsD N c):zkX c=true:=wI (λ_ _ h=>h) h
def zuC:zdU:=rP0 λc=>(zkX c,zkY c,[aS .int<|zsi c])
def zGu:zbR Tryz.prog 68 [false,true,true] zuC:=hP0 zek zT zG1 zq (zu []) (λ_ h=>(zCc h).1)
def zVV {c:Cur}(h:zbd c):zkX c=true:=by
 refine zTr c ⟨0,?_⟩;unfold zsD oN;conv=>zeta
 have e:zbd {zfh c with b:=c.b}:=zbL h (zFe _);have a:zbd {zf {zfh c with b:=c.b} 6 with b:=c.b}:=zbL h (zD _ _);have f:zbd {zf {zf {zfh c with b:=c.b} 6 with b:=c.b} 4 with b:=c.b}:=zbL h (zD _ _);have g:=(zvO<|zJ8 h).2.2;generalize znj c=T at g;have d:ln T=4:=(by unfold ln;omega);refine zy (zJ8 h) (zy (zbB e 6)<|zbE (λ_=>zy (zbB a 4) (zy (zAV a (by omega) (by omega))<|zbG (aS .int) (zD _ _)<|qS (zBF T _) (by omega))) λ_=>zbE (λ_=>zy (zbB a 4) (zy (zeE f (by simp))<|zy (zt4 a (by omega) (by omega))<|zlg<|zbG (aS .int) (zbS _ _) (by rw[zhK];omega))) λ_=>zbE (λ_=>zy (zks (by rw[zht];omega)) (zbG (aS .int) (zD _ _) ?_)) λ_=>zbG (aS .int) (zD _ _) (by omega));simp[ap];omega
def z5A:zcQ:=[(121,[false,true,true],zzi),(68,[false,true,true],zuC)]++z5z
def zS9:zb2 z5A:=zcp zG1 (by
 intro x a;simp only[qG,qO,or_false]at a;rcases a with rfl|rfl
 .exact zwv
 .exact zGu)
def zrh (N:Nat)(c:Cur)  : OA :=
 let d:=({ (zge c) with b:=c.b}:Cur);let a:=({ (zf d 10) with b:=c.b}:Cur);let e:=zba a [-1,0,12,15,16,99,100,9223372036854775807]; (oN (zjn c)<|oN (zB d 10)<|cond (ieq (zn d 10) 0) (oN (zB a 11)<|some [.agg [.s .u8 c.b,.i .i64 (zf a 11).i,.i .i64 (zf a 11).h],.agg [.i .i64<|wsub .i64 (zn a 11) 1,.i .i64 (zf0 c).X]])<|cond (ieq (zn d 10) 1) (oN (zbt a [-1,0,12,15,16,99,100,9223372036854775807])<|some [.agg [.s .u8 c.b,.i .i64 e.i,.i .i64 e.h],.agg [.i .i64 (zf0 c).Op,.i .i64<|zbm a [-1,0,12,15,16,99,100,9223372036854775807]]])<|some [.agg [.s .u8 c.b,.i .i64 (zf d 10).i,.i .i64 (zf d 10).h],.agg [.i .i64 (zf0 c).Op,.i .i64 (zf0 c).X]])
def zlH (c:Cur)(s:Cur)(a:Ins):Prop:=(∃N,zrh N c=some (AV.agg (zbU s)::[aT .ins a]))/\(s.b=c.b/\0<=s.i)/\(True)
def zjM (c:Cur)  : Bool:=wC (zlH c)
def zjN (c:Cur)  : Cur:=wS (zlH c)
def zvP (c:Cur)  : Ins:=wV (zlH c)
def zP9 {c:Cur}(h:zjM c=true):zlH c (zjN c) (zvP c):=wG h
def zQb (c:Cur)  : 0<=(zjN c).i:=wP λh=>h.2.1.2
def zQa (c:Cur)(h:∃N,Ends (wE (λa=>aT .ins a) c.b λa=>True)<|zrh N c):zjM c=true:=wI (λ_ _ h=>h) h
def ztl:zdU:=rP0 λc=>(zjM c,zjN c,[aT .ins<|zvP c])
def zDC:zbR Tryz.prog 153 [false,true,true] ztl:=hP0 zek zT zS9 zq (zu []) (λ_ h=>(zP9 h).1)
def z1z {c:Cur}(h:zbd c):zjM c=true:=by
 refine zQa c ⟨0,?_⟩;unfold zrh oN;conv=>zeta
 have d:zbd {zge c with b:=c.b}:=zbL h (zyD _);have a:zbd {zf {zge c with b:=c.b} 10 with b:=c.b}:=zbL h (zD _ _);exact zy (zQz h) (zy (zbB d 10)<|zbE (λ_=>zy (zbB a 11) (zbG (aT .ins) (v:=⟨wsub .i64 _ 1,(zf0 c).X⟩) (zD _ _) trivial)) λ_=>zbE (λ_=>zy (zeE a (by simp)) (zbG (aT .ins) (v:=⟨(zf0 c).Op,zbm _ _⟩) (zbS _ _) trivial)) λ_=>zbG (aT .ins) (v:=zf0 c) (zD _ _) trivial)
def z5B:zcQ:=[(153,[false,true,true],ztl)]++z5A
def zyr:zb2 z5B:=zcp zS9 (by
 intro x a;simp only[qG,qO,or_false]at a;rcases a with rfl
 .exact zDC)
def zo4 (N:Nat)(c:Cur)  : OA :=
 let e:=zb1 c;let g:=({ (zZ c) with b:=c.b}:Cur);let k:=zf g 8;let d:=({k with b:=c.b}:Cur); (oN (zgY c)<|oN (zB g 8)<|cond (ieq (zn g 8) 0) (oN (zjM d)<|oN (inb 0<|ln e)<|p0 (up e 0<|zvP d) λm=>some [.agg [.s .u8 c.b,.i .i64 (zjN d).i,.i .i64 (zjN d).h],aS .ins m])<|cond (ieq (zn g 8) 1) (iter (σ:=(Int×Int×lI×LI×Unit)) N (λl a=>let j:=(⟨a.2.2.2.1,a.1,a.2.1⟩:Cur);let f:=({ (zf j 2) with b:=a.2.2.2.1}:Cur); (oN (zB j 2)<|cond (ilt (ln a.2.2.1)<|zO .i64 12<|zn j 2) (oN (zjn f)<|oN (few<|ln<|ap a.2.2.1 [zf0 f])<|l ((zge f).i,(zge f).h,ap a.2.2.1 [zf0 f],a.2.2.2.1,()))<|some [.agg [.s .u8 a.2.2.2.1,.i .i64 (zf j 2).i,.i .i64 (zf j 2).h],aS .ins a.2.2.1])) (k.i,k.h,e,c.b,()))<|cond (ieq (zn g 8) 2) (oN (zB d 2)<|oN (inr 0 (zn d 2)<|ln e)<|some [.agg [.s .u8 c.b,.i .i64 (zf d 2).i,.i .i64 (zf d 2).h],aS .ins<|tk e<|zn d 2])<|some [.agg [.s .u8 c.b,.i .i64 k.i,.i .i64 k.h],aS .ins e])
def zHn:=zu [(114,1,{n:=34,tm:=[(0,.lp 0 0),(3,.sl 0 [])],lo:=[(0,[.sl 1 [],ti,ti])],ro:=[(0,.ins,true),(1,.u8,false)]})]
def zki (c:Cur)(s:Cur)(a:List Ins):Prop:=(∃N,zo4 N c=some (AV.agg (zbU s)::[aS .ins a]))/\(s.b=c.b/\0<=s.i)/\(a.length<=13)
def ziN (c:Cur)  : Bool:=wC (zki c)
def ziO (c:Cur)  : Cur:=wS (zki c)
def zoF (c:Cur)  : List Ins:=wV (zki c)
def zxm {c:Cur}(h:ziN c=true):zki c (ziO c) (zoF c):=wG h
def zM7 (c:Cur)  : 0<=(ziO c).i:=wP λh=>h.2.1.2
def zM6 (c:Cur)(h:∃N,Ends (wE (λa=>aS .ins a) c.b λa=>a.length<=13)<|zo4 N c):ziN c=true:=wI (λ_ _ h=>h) h
def zrU:zdU:=rP0 λc=>(ziN c,ziO c,[aS .ins<|zoF c])
def zBo:zbR Tryz.prog 114 [false,true,true] zrU:=hP0 zek zT zyr zq zHn (λ_ h=>(zxm h).1)
def zNU {c:Cur}(h:zbd c):ziN c=true:=by
 refine zM6 c ⟨1002,?_⟩;unfold zo4 oN;conv=>zeta
 have B:zbd {zZ c with b:=c.b}:=zbL h (zii _);have q:zbd {zf {zZ c with b:=c.b} 8 with b:=c.b}:=zbL h (zD _ _);have g:=(zqw<|zBP h).2.2;have p:=zG5 g;have j:1<=(zb1 c).length:=(by unfold zdk at g;cases d:(zb1 c).all zei with|false=>rw[d] at g;cases g|true=>rw[d,cT] at g;have:=(zfE.1 g).1;unfold ln at this;omega);generalize zb1 c=T at p j;have y:1<=ln T/\ln T<=12:=(by unfold ln;omega);have e:(2:Int)<=ln T+1:=(by omega);refine zy (zBP h) (zy (zbB B 8)<|zbE (λ_=>zy (z1z q) (zy (qK (by omega))<|zlg<|zbG (aS .ins) (zQb _) (by rw[zhK];omega))) λ_=>zbE (λ_=>?_) λ_=>zbE (λ_=>zy (zbB q 2) (zy (zAV q (n:=2) (by omega) e)<|zbG (aS .ins) (zD _ _)<|qS (zBF T _) (by omega))) λ_=>zbG (aS .ins) (zD _ _) (by omega));{refine zlV (λn s=>s.2.2.1.length+n=13/\0<=s.1/\s.2.2.2.1=c.b) ?_ 1002 (13-T.length) _ ⟨by dsimp only;omega,zD _ _,rfl⟩ (by omega);rintro n ⟨i,k,l,b,u⟩ rec ⟨v,r,t⟩ m;dsimp only at v r t ⊢;subst t;have a:zbd ⟨c.b,i,k⟩:=zbL h r;have A:=zfT a (n:=2) (by omega);have z:=zha (x:=12) (by omega) (by omega) A.1 (by omega);have w:zbd {zf ⟨c.b,i,k⟩ 2 with b:=c.b}:=zbL h (zD _ _);refine zy (zbB a 2) (zbE (λd=>?_) λd=>?_);{have f:ln l<zO .i64 12 (zn ⟨c.b,i,k⟩ 2):=qF d;rw[z]at f;unfold ln at f;exact zy (zQz w) (zy (zks (by rw[zht];unfold ln;omega))<|m (n-1) _ (by omega) ⟨by simp[ap];omega,zyD _,rfl⟩)};{exact zbG (aS .ins) (zD _ _) (by omega)}}
def zxB (N:Nat)(c:Cur)  : OA :=
 let a:=zcy c;let e:=({ (zcc c) with b:=c.b}:Cur);let f:=zf e 8;let d:=({f with b:=c.b}:Cur);let g:=zba d [-1,255,256,9223372036854775807]; (oN (zjo c)<|oN (zB e 8)<|cond (ieq (zn e 8) 0) (oN (zbt d [-1,2,3,4])<|some [.agg [.s .u8 c.b,.i .i64 (zba d [-1,2,3,4]).i,.i .i64 (zba d [-1,2,3,4]).h],.agg [.i .i64<|zbm d [-1,2,3,4],.i .i64 a.Post,.b a.Open]])<|cond (ieq (zn e 8) 1) (oN (zbt d [-1,255,256,9223372036854775807])<|some [.agg [.s .u8 c.b,.i .i64 g.i,.i .i64 g.h],.agg [.i .i64 a.aq,.i .i64<|zbm d [-1,255,256,9223372036854775807],.b a.Open]])<|cond (ieq (zn e 8) 2) (some [.agg [.s .u8 c.b,.i .i64 f.i,.i .i64 f.h],.agg [.i .i64 a.aq,.i .i64 a.Post,.b<|nB a.Open]])<|some [.agg [.s .u8 c.b,.i .i64 f.i,.i .i64 f.h],.agg [.i .i64 a.aq,.i .i64 a.Post,.b a.Open]])
def zqx (c:Cur)(s:Cur)(a:Ctl):Prop:=(∃N,zxB N c=some (AV.agg (zbU s)::[.agg<|zlP a]))/\(s.b=c.b/\0<=s.i)/\(True)
def zoH (c:Cur)  : Bool:=wC (zqx c)
def zoI (c:Cur)  : Cur:=wS (zqx c)
def zyE (c:Cur)  : Ctl:=wV (zqx c)
def zYl {c:Cur}(h:zoH c=true):zqx c (zoI c) (zyE c):=wG h
def zYn (c:Cur)  : 0<=(zoI c).i:=wP λh=>h.2.1.2
def zYm (c:Cur)(h:∃N,Ends (wE (λa=>.agg (zlP a)) c.b λa=>True)<|zxB N c):zoH c=true:=wI (λ_ _ h=>h) h
def zzk:zdU:=rP0 λc=>(zoH c,zoI c,[.agg<|zlP<|zyE c])
def zL1:zbR Tryz.prog 115 [false,true,true] zzk:=hP0 zek zT zyr zq (zu []) (λ_ h=>(zYl h).1)
def z1y {c:Cur}(h:zbd c):zoH c=true:=by
 refine zYm c ⟨0,?_⟩;unfold zxB oN nB;conv=>zeta
 have d:zbd {zcc c with b:=c.b}:=zbL h (zyF _);have a:zbd {zf {zcc c with b:=c.b} 8 with b:=c.b}:=zbL h (zD _ _);exact zy (zW6 h) (zy (zbB d 8)<|zbE (λ_=>zy (zeE a (by simp)) (zbG (λx=>AV.agg (zlP x)) (v:=⟨zbm _ _,(zcy c).Post,(zcy c).Open⟩) (zbS _ _) trivial)) λ_=>zbE (λ_=>zy (zeE a (by simp)) (zbG (λx=>AV.agg (zlP x)) (v:=⟨(zcy c).aq,zbm _ _,(zcy c).Open⟩) (zbS _ _) trivial)) λ_=>zbE (λ_=>zbG (λx=>AV.agg (zlP x)) (v:=⟨(zcy c).aq,(zcy c).Post,bif (zcy c).Open then false else true⟩) (zD _ _) trivial) λ_=>zbG (λx=>AV.agg (zlP x)) (v:=(zcy c)) (zD _ _) trivial)
def zvo (N:Nat)(c:Cur)  : OA :=
 let f:=zf c 5;let d:=({f with b:=c.b}:Cur);let j:=zf d 100;let a:=zn d 100;let e:=({ (zf d 4) with b:=c.b}:Cur);let g:=zfg (zn d 4)<|zc7 e 2; (oN (zB c 5)<|cond (ieq (zn c 5) 0) (oN (zB d 4)<|oN (zcZ e 2)<|oN (zjD (zn d 4)<|zc7 e 2)<|some [.agg [.s .u8 c.b,.i .i64 (zQ e 2).i,.i .i64 (zQ e 2).h],.agg [.i .i64 g.Kind,.i .i64 g.af,.b g.Write,.i .i64 g.N]])<|cond (ieq (zn c 5) 1) (oN (zB d 100)<|oN (zgo a)<|some [.agg [.s .u8 c.b,.i .i64 j.i,.i .i64 j.h],.agg [.i .i64 (zfw a).Kind,.i .i64 (zfw a).af,.b (zfw a).Write,.i .i64 (zfw a).N]])<|cond (ieq (zn c 5) 2) (oN (zB d 100)<|oN (zgo a)<|some [.agg [.s .u8 c.b,.i .i64 j.i,.i .i64 j.h],.agg [.i .i64 (zgq a).Kind,.i .i64 (zgq a).af,.b (zgq a).Write,.i .i64 (zgq a).N]])<|cond (ieq (zn c 5) 3) (some [.agg [.s .u8 c.b,.i .i64 f.i,.i .i64 f.h],.agg [.i .i64 4,.i .i64 0,.b false,.i .i64 0]])<|some [.agg [.s .u8 c.b,.i .i64 f.i,.i .i64 f.h],.agg [.i .i64 0,.i .i64 0,.b false,.i .i64 0]])
def zoL (c:Cur)(s:Cur)(a:aD):Prop:=(∃N,zvo N c=some (AV.agg (zbU s)::[.agg<|zfS a]))/\(s.b=c.b/\0<=s.i)/\(True)
def zij (c:Cur)  : Bool:=wC (zoL c)
def zfi (c:Cur)  : Cur:=wS (zoL c)
def zb7 (c:Cur)  : aD:=wV (zoL c)
def zVn {c:Cur}(h:zij c=true):zoL c (zfi c) (zb7 c):=wG h
def zvQ (c:Cur)  : 0<=(zfi c).i:=wP λh=>h.2.1.2
def zVo (c:Cur)(h:∃N,Ends (wE (λa=>.agg (zfS a)) c.b λa=>True)<|zvo N c):zij c=true:=wI (λ_ _ h=>h) h
def zwP:zdU:=rP0 λc=>(zij c,zfi c,[.agg<|zfS<|zb7 c])
def zJd:zbR Tryz.prog 152 [false,true,true] zwP:=hP0 zek zT zyr zq (zu []) (λ_ h=>(zVn h).1)
def zRB {c:Cur}(h:zbd c):zij c=true:=by
 refine zVo c ⟨0,?_⟩;unfold zvo oN;conv=>zeta
 have a:zbd {zf c 5 with b:=c.b}:=zbL h (zD _ _);have d:zbd {zf {zf c 5 with b:=c.b} 4 with b:=c.b}:=zbL h (zD _ _);exact zy (zbB h 5) (zbE (λ_=>zy (zbB a 4) (zy (ziI d 2) (zy rfl (zbG (λx=>AV.agg (zfS x)) (v:=zfg _ _) (zch _ _) trivial)))) λ_=>zbE (λ_=>zy (zbB a 100) (zy rfl (zbG (λx=>AV.agg (zfS x)) (v:=zfw _) (zD _ _) trivial))) λ_=>zbE (λ_=>zy (zbB a 100) (zy rfl (zbG (λx=>AV.agg (zfS x)) (v:=zgq _) (zD _ _) trivial))) λ_=>zbE (λ_=>zbG (λx=>AV.agg (zfS x)) (v:=⟨4,0,false,0⟩) (zD _ _) trivial) λ_=>zbG (λx=>AV.agg (zfS x)) (v:=⟨0,0,false,0⟩) (zD _ _) trivial)
def z5C:zcQ:=[(114,[false,true,true],zrU),(115,[false,true,true],zzk),(152,[false,true,true],zwP)]++z5B
def zpo:zb2 z5C:=zcp zyr (by
 intro x a;simp only[qG,qO,or_false]at a;rcases a with rfl|rfl|rfl
 .exact zBo
 .exact zL1
 .exact zJd)
def zxD (N:Nat)(c:Cur)  : OA :=
 let a:=zb7 c;let e:=({ (zfi c) with b:=c.b}:Cur);let d:=({ (zf e 8) with b:=c.b}:Cur); (oN (zij c)<|oN (zB e 8)<|cond (ieq (zn e 8) 0) (oN (zB d 7)<|some [.agg [.s .u8 c.b,.i .i64 (zf d 7).i,.i .i64 (zf d 7).h],.agg [.i .i64<|wsub .i64 (zn d 7) 1,.i .i64 a.af,.b a.Write,.i .i64 a.N]])<|cond (ieq (zn e 8) 1) (oN (zbt d [-1,3,4])<|some [.agg [.s .u8 c.b,.i .i64 (zba d [-1,3,4]).i,.i .i64 (zba d [-1,3,4]).h],.agg [.i .i64 a.Kind,.i .i64<|zbm d [-1,3,4],.b a.Write,.i .i64 a.N]])<|cond (ieq (zn e 8) 2) (oN (zbt d [-1,99,100])<|some [.agg [.s .u8 c.b,.i .i64 (zba d [-1,99,100]).i,.i .i64 (zba d [-1,99,100]).h],.agg [.i .i64 a.Kind,.i .i64 a.af,.b a.Write,.i .i64<|zbm d [-1,99,100]]])<|some [.agg [.s .u8 c.b,.i .i64 (zf e 8).i,.i .i64 (zf e 8).h],.agg [.i .i64 a.Kind,.i .i64 a.af,.b a.Write,.i .i64 a.N]])
def zqz (c:Cur)(s:Cur)(a:aD):Prop:=(∃N,zxD N c=some (AV.agg (zbU s)::[.agg<|zfS a]))/\(s.b=c.b/\0<=s.i)/\(True)
def zoJ (c:Cur)  : Bool:=wC (zqz c)
def zoK (c:Cur)  : Cur:=wS (zqz c)
def zyG (c:Cur)  : aD:=wV (zqz c)
def zYq {c:Cur}(h:zoJ c=true):zqz c (zoK c) (zyG c):=wG h
def zYs (c:Cur)  : 0<=(zoK c).i:=wP λh=>h.2.1.2
def zYr (c:Cur)(h:∃N,Ends (wE (λa=>.agg (zfS a)) c.b λa=>True)<|zxD N c):zoJ c=true:=wI (λ_ _ h=>h) h
def zzm:zdU:=rP0 λc=>(zoJ c,zoK c,[.agg<|zfS<|zyG c])
def zL3:zbR Tryz.prog 117 [false,true,true] zzm:=hP0 zek zT zpo zq (zu []) (λ_ h=>(zYq h).1)
def zY1 {c:Cur}(h:zbd c):zoJ c=true:=by
 refine zYr c ⟨0,?_⟩;unfold zxD oN;conv=>zeta
 have d:zbd {zfi c with b:=c.b}:=zbL h (zvQ _);have a:zbd {zf {zfi c with b:=c.b} 8 with b:=c.b}:=zbL h (zD _ _);exact zy (zRB h) (zy (zbB d 8)<|zbE (λ_=>zy (zbB a 7) (zbG (λx=>AV.agg (zfS x)) (v:=⟨wsub .i64 _ 1,(zb7 c).af,(zb7 c).Write,(zb7 c).N⟩) (zD _ _) trivial)) λ_=>zbE (λ_=>zy (zeE a (by simp)) (zbG (λx=>AV.agg (zfS x)) (v:=⟨(zb7 c).Kind,zbm _ _,(zb7 c).Write,(zb7 c).N⟩) (zbS _ _) trivial)) λ_=>zbE (λ_=>zy (zeE a (by simp)) (zbG (λx=>AV.agg (zfS x)) (v:=⟨(zb7 c).Kind,(zb7 c).af,(zb7 c).Write,zbm _ _⟩) (zbS _ _) trivial)) λ_=>zbG (λx=>AV.agg (zfS x)) (v:=(zb7 c)) (zD _ _) trivial)
def zvp (N:Nat)(c:Cur)  : OA :=
 let a:=({ (zf c 256) with b:=c.b}:Cur);let d:=({ (zf a 256) with b:=c.b}:Cur);let e:=zba d [0,1,128,255,zn c 256,zn a 256,-1,256,9223372036854775807]; (oN (zB c 256)<|oN (zB a 256)<|oN (zbt d [0,1,128,255,zn c 256,zn a 256,-1,256,9223372036854775807])<|some [.agg [.s .u8 c.b,.i .i64 e.i,.i .i64 e.h],aI<|zbm d [0,1,128,255,zn c 256,zn a 256,-1,256,9223372036854775807]])
def zoM (c:Cur)(s:Cur)(a:Int):Prop:=(∃N,zvp N c=some (AV.agg (zbU s)::[aI a]))/\(s.b=c.b/\0<=s.i)/\(True)
def zmj (c:Cur)  : Bool:=wC (zoM c)
def zmk (c:Cur)  : Cur:=wS (zoM c)
def zu8 (c:Cur)  : Int:=wV (zoM c)
def zVp {c:Cur}(h:zmj c=true):zoM c (zmk c) (zu8 c):=wG h
def zVr (c:Cur)  : 0<=(zmk c).i:=wP λh=>h.2.1.2
def zVq (c:Cur)(h:∃N,Ends (wE (λa=>aI a) c.b λa=>True)<|zvp N c):zmj c=true:=wI (λ_ _ h=>h) h
def zwQ:zdU:=rP0 λc=>(zmj c,zmk c,[aI<|zu8 c])
def zJe:zbR Tryz.prog 116 [false,true,true] zwQ:=hP0 zek zT zpo zq (zu []) (λ_ h=>(zVp h).1)
def z8P {c:Cur}(h:zbd c):zmj c=true:=by
 refine zVq c ⟨0,?_⟩;unfold zvp oN;conv=>zeta
 have a:zbd {zf c 256 with b:=c.b}:=zbL h (zD _ _);have d:zbd {zf {zf c 256 with b:=c.b} 256 with b:=c.b}:=zbL h (zD _ _);exact zy (zbB h 256) (zy (zbB a 256)<|zy (zeE d (by simp))<|zbG aI (zbS _ _) trivial)
def zsF (N:Nat)(c:Cur)  : OA :=
 let a:=zba c [0,1,2,3,0,1,-1,4,9223372036854775807]; (oN (zbt c [0,1,2,3,0,1,-1,4,9223372036854775807])<|some [.agg [.s .u8 c.b,.i .i64 a.i,.i .i64 a.h],aI<|zbm c [0,1,2,3,0,1,-1,4,9223372036854775807]])
def zmG (c:Cur)(s:Cur)(a:Int):Prop:=(∃N,zsF N c=some (AV.agg (zbU s)::[aI a]))/\(s.b=c.b/\0<=s.i)/\(True)
def zkZ (c:Cur)  : Bool:=wC (zmG c)
def zk0 (c:Cur)  : Cur:=wS (zmG c)
def zsj (c:Cur)  : Int:=wV (zmG c)
def zTv {c:Cur}(h:zkZ c=true):zmG c (zk0 c) (zsj c):=wG h
def zTx (c:Cur)  : 0<=(zk0 c).i:=wP λh=>h.2.1.2
def zTw (c:Cur)(h:∃N,Ends (wE (λa=>aI a) c.b λa=>True)<|zsF N c):zkZ c=true:=wI (λ_ _ h=>h) h
def zuE:zdU:=rP0 λc=>(zkZ c,zk0 c,[aI<|zsj c])
def zGw:zbR Tryz.prog 71 [false,true,true] zuE:=hP0 zek zT zpo zq (zu []) (λ_ h=>(zTv h).1)
def z7O {c:Cur}(h:zbd c):zkZ c=true:=by
 refine zTw c ⟨0,?_⟩;unfold zsF oN;conv=>zeta
 exact zy (zeE h (by simp)) (zbG aI (zbS _ _) trivial)
def zvj (N:Nat)(c:Cur)  : OA :=
 let a:=zba c [0,1,2,3,3,4,7,8,-1,9223372036854775807,-9223372036854775808]; (oN (zbt c [0,1,2,3,3,4,7,8,-1,9223372036854775807,-9223372036854775808])<|some [.agg [.s .u8 c.b,.i .i64 a.i,.i .i64 a.h],aI<|zbm c [0,1,2,3,3,4,7,8,-1,9223372036854775807,-9223372036854775808]])
def zoA (c:Cur)(s:Cur)(a:Int):Prop:=(∃N,zvj N c=some (AV.agg (zbU s)::[aI a]))/\(s.b=c.b/\0<=s.i)/\(True)
def zj1 (c:Cur)  : Bool:=wC (zoA c)
def zFc (c:Cur)  : Cur:=wS (zoA c)
def zu7 (c:Cur)  : Int:=wV (zoA c)
def zVf {c:Cur}(h:zj1 c=true):zoA c (zFc c) (zu7 c):=wG h
def zVg (c:Cur)(h:∃N,Ends (wE (λa=>aI a) c.b λa=>True)<|zvj N c):zj1 c=true:=wI (λ_ _ h=>h) h
def zwK:zdU:=rP0 λc=>(zj1 c,zFc c,[aI<|zu7 c])
def zI6:zbR Tryz.prog 39 [false,true,true] zwK:=hP0 zek zT zpo zq (zu []) (λ_ h=>(zVf h).1)
def z7p {c:Cur}(h:zbd c):zj1 c=true:=by
 refine zVg c ⟨0,?_⟩;unfold zvj oN;conv=>zeta
 exact zy (zeE h (by simp)) (zbG aI (zbS _ _) trivial)
def zsE (N:Nat)(c:Cur)  : OA :=
 let e:=({ (zf c 3) with b:=c.b}:Cur);let d:=({ (zf e 4) with b:=c.b}:Cur);let a:=({ (zf d 6) with b:=c.b}:Cur); (oN (zB c 3)<|oN (zB e 4)<|oN (zB d 6)<|oN (zB a 3)<|some [.agg [.s .u8 c.b,.i .i64 (zf a 3).i,.i .i64 (zf a 3).h],.agg [.i .i64<|zO .i64 1<|zn c 3,.i .i64<|zn e 4,.i .i64<|zn d 6,.i .i64<|zO .i64 1<|zn a 3]])
def zmF (c:Cur)(s:Cur)(a:au):Prop:=(∃N,zsE N c=some (AV.agg (zbU s)::[aT .entry a]))/\(s.b=c.b/\0<=s.i)/\(True)
def zhq (c:Cur)  : Bool:=wC (zmF c)
def zgs (c:Cur)  : Cur:=wS (zmF c)
def zlG (c:Cur)  : au:=wV (zmF c)
def zTt {c:Cur}(h:zhq c=true):zmF c (zgs c) (zlG c):=wG h
def ztH (c:Cur)  : 0<=(zgs c).i:=wP λh=>h.2.1.2
def zTu (c:Cur)(h:∃N,Ends (wE (λa=>aT .entry a) c.b λa=>True)<|zsE N c):zhq c=true:=wI (λ_ _ h=>h) h
def zuD:zdU:=rP0 λc=>(zhq c,zgs c,[aT .entry<|zlG c])
def zGv:zbR Tryz.prog 119 [false,true,true] zuD:=hP0 zek zT zpo zq (zu []) (λ_ h=>(zTt h).1)
def zLi {c:Cur}(h:zbd c):zhq c=true:=by
 refine zTu c ⟨0,?_⟩;unfold zsE oN;conv=>zeta
 have a:zbd {zf c 3 with b:=c.b}:=zbL h (zD _ _);have d:zbd {zf {zf c 3 with b:=c.b} 4 with b:=c.b}:=zbL h (zD _ _);have e:zbd {zf {zf {zf c 3 with b:=c.b} 4 with b:=c.b} 6 with b:=c.b}:=zbL h (zD _ _);exact zy (zbB h 3) (zy (zbB a 4)<|zy (zbB d 6)<|zy (zbB e 3)<|zbG (aT .entry) (v:=⟨_,_,_,_⟩) (zD _ _) trivial)
def z5D:zcQ:=[(117,[false,true,true],zzm),(116,[false,true,true],zwQ),(71,[false,true,true],zuE),(39,[false,true,true],zwK),(119,[false,true,true],zuD)]++z5C
def z2X:zb2 z5D:=zcp zpo (by
 intro x a;simp only[qG,qO,or_false]at a;rcases a with rfl|rfl|rfl|rfl|rfl
 .exact zL3
 .exact zJe
 .exact zGw
 .exact zI6
 .exact zGv)
section
open Go Go.RowKit
structure Cw (w0:World) (blk:Nat) (u:Value) (c:Cur) (w:World):Prop where
 os:w.os=w0.os
 tape:w.tape=w0.tape
 output:w.output=w0.output
 size:w0.heap.size<=w.heap.size
 keep:∀b,b<w0.heap.size->b≠blk->w.heap[b]?=w0.heap[b]?
 cur:∃e,w.heap[blk]?=some (.cells #[u,.int .i64 c.i,.int .i64 c.h] e (0,0))
def Cw.trans {g w1 h:World}{blk:Nat}{u:Value}{i d:Cur}(a:Cw g blk u i w1)(c:Cw w1 blk u d h):Cw g blk u d h :=
 ⟨c.os.trans a.os,c.tape.trans a.tape,c.output.trans a.output,qS a.size c.size,λb e f=>(c.keep b (jA e a.size) f).trans (a.keep b e f),c.cur⟩
def Cw.drew {a w:World}{blk:Nat}{u:Value}{c:Cur}(h:Cw a blk u c w):Cw a blk u c w.drew:=⟨h.os,h.tape,h.output,h.size,h.keep,h.cur⟩
def Cw.at (w:World)(blk:Nat)(u:Value)(c:Cur)(h:∃e,w.heap[blk]?=some (.cells #[u,.int .i64 c.i,.int .i64 c.h] e (0,0))):Cw w blk u c w:=⟨rfl,rfl,rfl,qV _,λ_ _ _=>rfl,h⟩
def Cw.alloc {d w:World}{blk:Nat}{u:Value}{c:Cur}(h:Cw d blk u c w)(a:blk<w.heap.size)(o:Obj):Cw d blk u c (w.alloc o):=
 ⟨h.os,h.tape,h.output,qS h.size (by simp),λb a g=>(heap_alloc_old w o<|jA a h.size).trans (h.keep b a g),by obtain⟨e,f⟩:=h.cur;exact⟨e,(heap_alloc_old w o a).trans f⟩⟩
def Cw.lt {b w:World}{blk:Nat}{u:Value}{c:Cur}(h:Cw b blk u c w):blk<w.heap.size:=by obtain⟨e,a⟩:=h.cur;exact(qL.1 a).1
def zFP {P:Program}{f:FuncId}{y:LC->LA->Option (Bool×LC×LA)}(V:zbR P f [false,true,true] y){w:World}{blk:Nat}{u:Value}{c c2:Cur}{z:zV}(q:∃e,w.heap[blk]?=some (.cells #[u,.int .i64 c.i,.int .i64 c.h] e (0,0)))(hu:Rep false w u (.s .u8 c.b) z)(W:∀x,z x->x<w.heap.size/\x≠blk){avs rs:LA}{xs:List Value}{Ka:zV}(l:zcM false w (zx avs) xs λ_=>Ka)(p:∀x,Ka x->x<w.heap.size/\x≠blk)(hr:y (zbU c) avs=some (true,zbU c2,rs)) :
 Calls P f (#[.pointer<|some ⟨blk,0,none⟩]++(zbN avs xs).toArray) w λe B=>∃C A,e = .returned (zjg<|zbN rs C)/\Cw w blk u c2 B/\zso (znT f) B (zx rs) C A/\(∀i x,i<(zx rs).length->A i x->w.heap.size<=x/\x<B.heap.size):=by
 obtain⟨e,Y⟩:=q;refine(V.2 w blk _ e (zbU c) (λj x=>j=0/\z x) avs xs Ka (zbU c2) rs Y rfl rfl ?_ ?_ ?_ l ?_ hr).mono ?_
 .intro j cv v m k
  match j,m,k with
  | 0,m,k=>cases m;cases k;exact hu.weak (λx l=>⟨rfl,l⟩)
  | 1,m,k=>cases m;cases k;exact .i _ _ _
  | 2,m,k=>cases m;cases k;exact .i _ _ _
  |j+3,m,k=>simp[zbU]at m
 .intro j x _ l;exact W x l.2
 .intro i j x r t n hne l hx2;have:i=0:=l.1;subst this;simp[zbb]at n
 .intro x l;refine⟨(p x l).1,(p x l).2,λj t n d=>?_⟩;have:j=0:=d.1;subst this;simp[zbb]at n
 .intro E B hp;cases E with
  |panicked _=>exact hp.elim
  |outgrown=>exact hp.elim
  |returned v=>
   obtain⟨Q,R,S,T,U,a,G,K',C,A,I,L,g3,F,M,N,g7,O,g9,J,K⟩:=hp;have g:∀i x,i<(zbU c).length->zbb [false,true,true] i->¬ ((λ(j:Nat) x=>j=0/\z x) i x):=by intro i x r n d;have:i=0:=d.1;subst this;simp[zbb]at n
   have k:a = #[u,.int .i64 c2.i,.int .i64 c2.h]:=by
    have hs:a.size=3:=L;have D:=(F 0 _ (a[0]'(by omega)) rfl (jE _)).2 (by simp[zbb]);have H:=F 1 _ (a[1]'(by omega)) rfl (jE _);have E:=F 2 _ (a[2]'(by omega)) rfl (jE _);have D:u=a[0]'(by omega):=(by simpa using D);apply Array.ext;{exact hs}
    .intro i r hi2
     match i,r with
     | 0,_=>exact D.symm
     | 1,_=>exact H
     | 2,_=>exact E
     |i+3,h=>omega
   subst k;refine⟨C,A,by rw[N],⟨Q,R,S,T,λb X Z=>U b X Z λj t n d=>g j b t n d,G,I⟩,M,λi x r d=>?_⟩;obtain⟨k1,k2,k3⟩:=O i x r d;rcases k3 with⟨j,t,n,d⟩|d;{exact absurd d (g j x t n)};{exact⟨d,k1⟩}
def zeG (c:Cur):List LI:=ztG c 3
def zyh (c:Cur):Cur:={zlE c 3 with b:=c.b}
def zXN (c:Cur):Int:=zn (zyh c) 8
def zhs (c:Cur):Cur:={zf (zyh c) 8 with b:=c.b}
def zXM (c:Cur):Int:=zn (zhs c) 3
def zr3 (c:Cur):Cur:={zf (zhs c) 3 with b:=c.b}
def z8H (c:Cur):Int:=zn (zr3 c) 4
def zXK (c:Cur):Cur:={zf (zr3 c) 4 with b:=c.b}
def ztc (c:Cur):Int:=zbm (zhs c) [-1,100]
def zXL (c:Cur):Cur:={zba (zhs c) [-1,100] with b:=c.b}
def znt (_:Nat)(c:Cur):OA:=
 bif zhW c 3 then (bif zB (zyh c) 8 then (bif ieq (zXN c) 0 then (cond (zB (zhs c) 3) (cond (zB (zr3 c) 4) (some (AV.agg (zbU<|zXK c)::[aS (.sl .int)<|up (zeG c) (zXM c)<|tk (ix (zeG c) 0 [])<|z8H c])) none) none)
  else (bif ieq (zXN c) 1 then (cond (zbt (zhs c) [-1,100]) (some (AV.agg (zbU<|zXL c)::[aS (.sl .int)<|up (zeG c) 1<|up (ix (zeG c) 1 []) 2<|ztc c])) none)
  else (cond (ieq (zXN c) 2) (cond (zB (zhs c) 3) (some (AV.agg (zbU<|zr3 c)::[aS (.sl .int)<|tk (zeG c)<|zXM c])) none)<|some (AV.agg (zbU<|zhs c)::[aS (.sl .int)<|zeG c])))) else none) else none
def zqr (c:Cur)(s:Cur)(a:List LI):Prop:=(∃N,znt N c=some (AV.agg (zbU s)::[aS (.sl .int) a]))/\(s.b=c.b/\0<=s.i)/\(a.length<=3/\∀r∈a,r.length<=4)
def zoC (c:Cur)  : Bool:=wC (zqr c)
def zhT (c:Cur)  : Cur:=wS (zqr c)
def zpG (c:Cur)  : List LI:=wV (zqr c)
def zKn {c:Cur}(h:zoC c=true):zqr c (zhT c) (zpG c):=wG h
def zYh (c:Cur)  : 0<=(zhT c).i:=wP λh=>h.2.1.2
def zYg (c:Cur)(h:∃N,Ends (wE (λa=>aS (.sl .int) a) c.b λa=>a.length<=3/\∀r∈a,r.length<=4)<|znt N c):zoC c=true:=wI (λ_ _ h=>h) h
def zrr:zdU:=rP0 λc=>(zoC c,zhT c,[aS (.sl .int)<|zpG c])
def z2M {w:World}{blk:Nat}{u:Value}{c:Cur}{l:zV}{n:Int}(g:∃e,w.heap[blk]?=some (.cells #[u,.int .i64 c.i,.int .i64 c.h] e (0,0)))(t:Rep false w u (.s .u8 c.b) l)(q:∀x,l x->x<w.heap.size/\x≠blk)(r:zhW c n=true) :
 Calls Tryz.prog 121 #[.pointer<|some ⟨blk,0,none⟩,.int .i64 n] w λe k=>∃v j,e = .returned v/\Cw w blk u {zlE c n with b:=c.b} k/\Rep true k v (.s (.sl .int)<|ztG c n) j/\(∀x,j x->w.heap.size<=x/\x<k.heap.size):=by
 have:=zFP (c:=c) (c2:=zlE c n) zwv g t q (avs:=[.one<|.i .i64 n]) (rs:=[aS (.sl .int)<|ztG c n]) (xs:=[.int .i64 n]) (Ka:=λ_=>False) ⟨rfl,λi A x a d=>by
  match i,a,d with
  | 0,a,d=>cases a;cases d;exact .i _ _ _
  |i+1,a,d=>simp at d⟩ (λx d=>d.elim) (by show some (zhW ⟨c.b,c.i,c.h⟩ n,_,_)=_;rw[show (⟨c.b,c.i,c.h⟩:Cur)=c from rfl,r])
 refine Calls.mono this ?_
 rintro e k ⟨z,j,rfl,f,m,p⟩
 match z,m.1 with
 |[y],_=>exact⟨y,j 0,rfl,⟨f.os,f.tape,f.output,f.size,f.keep,f.cur⟩,m.2 0 _ y rfl rfl,λx d=>p 0 x (by simp[zx,AV.cvs]) d⟩
def zr0 {w:World}{blk:Nat}{u:Value}{c:Cur}{j:zV}{n:Int}(g:∃e,w.heap[blk]?=some (.cells #[u,.int .i64 c.i,.int .i64 c.h] e (0,0)))(r:Rep false w u (.s .u8 c.b) j)(p:∀x,j x->x<w.heap.size/\x≠blk)(q:zB c n=true) :
 Calls Tryz.prog 66 #[.pointer<|some ⟨blk,0,none⟩,.int .i64 n] w λe l=>e = .returned (.int .i64<|zn c n)/\Cw w blk u {zf c n with b:=c.b} l:=by
 have:=zFP (c:=c) (c2:=zf c n) zs8 g r p (avs:=[.one<|.i .i64 n]) (rs:=[aI<|zn c n]) (xs:=[.int .i64 n]) (Ka:=λ_=>False) ⟨rfl,λi z x a d=>by
  match i,a,d with
  | 0,a,d=>cases a;cases d;exact .i _ _ _
  |i+1,a,d=>simp at d⟩ (λx d=>d.elim) (by show some (zB ⟨c.b,c.i,c.h⟩ n,_,_)=_;rw[show (⟨c.b,c.i,c.h⟩:Cur)=c from rfl,q])
 refine Calls.mono this ?_
 rintro e l ⟨t,v,rfl,f,k,A⟩
 match t,k.1,k.2 with
 |[y],_,m=>have:=(m 0 _ y rfl rfl).int_inv;subst this;exact⟨rfl,f.os,f.tape,f.output,f.size,f.keep,f.cur⟩
def z0L {w:World}{blk:Nat}{u:Value}{c:Cur}{k:zV}{l:LI}{v:Value}{Ka:zV}(f:∃e,w.heap[blk]?=some (.cells #[u,.int .i64 c.i,.int .i64 c.h] e (0,0)))(t:Rep false w u (.s .u8 c.b) k)(q:∀x,k x->x<w.heap.size/\x≠blk)(r:zbt c l=true)(z:Rep false w v (.s .int l) Ka)(j:∀x,Ka x->x<w.heap.size/\x≠blk) :
 Calls Tryz.prog 40 #[.pointer<|some ⟨blk,0,none⟩,v] w λe n=>e = .returned (.int .i64<|zbm c l)/\Cw w blk u {zba c l with b:=c.b} n:=by
 have:=zFP (c:=c) (c2:=zba c l) zqW f t q (avs:=[.one<|.s .int l]) (rs:=[aI<|zbm c l]) (xs:=[v]) (Ka:=Ka) ⟨rfl,λi C x a g=>by
  match i,a,g with
  | 0,a,g=>cases a;cases g;exact z
  |i+1,a,g=>simp at g⟩ j (by show some (zbt ⟨c.b,c.i,c.h⟩ l,_,_)=_;rw[show (⟨c.b,c.i,c.h⟩:Cur)=c from rfl,r])
 refine Calls.mono this ?_
 rintro e n ⟨A,B,rfl,d,m,D⟩
 match A,m.1,m.2 with
 |[y],_,p=>have:=(p 0 _ y rfl rfl).int_inv;subst this;exact⟨rfl,d.os,d.tape,d.output,d.size,d.keep,d.cur⟩
def z0S {w:World}{v:Value}{l:List LI}{K:zV}(h:Rep true w v (.s (.sl .int) l) K)(n:l.length=3):∃(b off cap:Nat) (arr:LV) (e:TypeId) (V:Nat->Value) (c:Nat->zV),v = .slice (some ⟨b,off,none⟩) 3 cap/\w.heap[b]?=some (.cells arr e (0,0))/\3<=cap/\off+cap<=arr.size/\K b/\
 (∀i x,i<3->c i x->K x/\x≠b)/\(∀i g x,i<3->g<3->c i x->c g x->i=g)/\(∀i,i<3->arr[off+i]?=some (V i))/\∀i x,l[i]?=some x->Rep true w (V i) (.s .int x) (c i):=by
 cases h with
 |nil=>simp at n
 |void _ _ _ B=>cases B
 |sl _ _ b off cap arr e E V c _ y k r p f u a d C z=>have:=k rfl;subst this;have t:Ty.wi (.sl .int)=1:=rfl;rw[t,uZ]at f;refine⟨b,off,cap,arr,e,λi=>V i 0,λi=>c i 0,by rw[n],y,by omega,f,u,λi x q j=>⟨(a i 0 x (by omega) (by decide) j).1,(a i 0 x (by omega) (by decide) j).2 rfl⟩,λi g x q A j m=>(d rfl i 0 g 0 x (by omega) (by decide) (by omega) (by decide) j m).1,λi q=>?_,λi x D=>z i x D 0 _ rfl⟩;have:=C i 0 (by omega) (by decide);rwa [t,uZ,jY] at this
def zTk {w:World}{v:Value}{l:LI}{K:zV}(h:Rep true w v (.s .int l) K)(d:l.length=4):∃(b off cap:Nat) (arr:LV) (e:TypeId),v = .slice (some ⟨b,off,none⟩) 4 cap/\w.heap[b]?=some (.cells arr e (0,0))/\4<=cap/\off+cap<=arr.size/\K b/\
 ∀i x,l[i]?=some x->arr[off+i]?=some (.int .i64 x):=by
 cases h with
 |nil=>simp at d
 |void _ _ _ u=>cases u
 |sl _ _ b off cap arr e A V z _ q c j f a p k g y r=>have:=c rfl;subst this;have m:Ty.wi .int=1:=rfl;rw[m,uZ]at a;refine⟨b,off,cap,arr,e,by rw[d],q,by omega,a,p,λi x n=>?_⟩;have t:i<l.length:=(qA.1 n).1;have:=y i 0 t (by decide);rw[m,uZ,jY] at this;rw[this,(r i x n 0 (.i .i64 x) rfl).int_inv]
def zG6 {o:Bool}{w:World}{b off cap:Nat}{arr:LV}{e:TypeId}(g:w.heap[b]?=some (.cells arr e (0,0))){l:LI}(r:l.length<=1000)(c:l.length<=cap)(m:off+cap<=arr.size)(n:∀i x,l[i]?=some x->arr[off+i]?=some (.int .i64 x)):Rep o w (.slice (some ⟨b,off,none⟩) l.length cap) (.s .int l) (λx=>x=b):=by
 refine .sl .int l b off cap arr e (0,0) (λi j=>.int .i64 (l.getD i 0)) (λ_ _ _=>False) _ g (λ_=>rfl) (by rw[zo7];omega) c (by show off+cap*1<=arr.size;omega) rfl (λi j x _ _ h=>h.elim) (λ_ i j t u x _ _ _ _ h=>h.elim) (λi j f k=>?_) (λi x p j q a=>?_);{have d:j=0:=(by have:j<1:=k;omega);subst d;have:=n i _ (qB f);show arr[off+i*1+0]?=_;rw[uZ,jY,this];simp[List.getD,qB f]}
 .match j,a with
  | 0,a=>cases a;have:l.getD i 0=x:=(by simp[List.getD,p]);show Rep o w (.int .i64<|l.getD i 0) _ _;rw[this];exact .i _ _ _
  |j+1,a=>simp[Ty.cells]at a
def zG7 {w:World}{b off cap:Nat}{arr:LV}{e:TypeId}(n:w.heap[b]?=some (.cells arr e (0,0))){l:List LI}(A:l.length<=1000)(c:l.length<=cap)(t:off+cap<=arr.size)(V:Nat->Value){K:zV}(f:K b)(u:∀i,i<l.length->arr[off+i]?=some (V i))(r:∀i x,l[i]?=some x->∃d,Rep false w (V i) (.s .int x) d/\∀y,d y->K y):Rep false w (.slice (some ⟨b,off,none⟩) l.length cap) (.s (.sl .int) l) K:=by
 refine .sl (.sl .int) l b off cap arr e (0,0) (λi _=>V i) (λ_ _=>K) _ n (λ_=>rfl) (by rw[zo7];omega) c (by show off+cap*1<=arr.size;omega) f (λi j x _ _ h=>⟨h,λh=>by cases h⟩) (λh=>by cases h) (λi j p q=>?_) (λi x v j z a=>?_);{have g:j=0:=(by have:j<1:=q;omega);subst g;show arr[off+i*1+0]?=_;rw[uZ,jY];exact u i p}
 .match j,a with
  | 0,a=>cases a;obtain⟨d,k,m⟩:=r i x v;exact k.weak m
  |j+1,a=>simp[Ty.cells]at a
def zui {w:World}{b o:Nat}{arr:LV}{e:TypeId}(a:w.heap[b]?=some (.cells arr e (0,0))):w.frozen? ⟨b,o,none⟩=false:=by simp[World.frozen?,a]
set_option maxHeartbeats 3000000 in
def zUO {w:World}{blk:Nat}{u:Value}{c:Cur}{K0:zV}{r:Ans}(N:Nat)(b5:∃e,w.heap[blk]?=some (.cells #[u,.int .i64 c.i,.int .i64 c.h] e (0,0)))(hu:Rep false w u (.s .u8 c.b) K0)(hK:∀x,K0 x->x<w.heap.size/\x≠blk)(hE:znt N c=some r) :
 Calls Tryz.prog 72 #[.pointer<|some ⟨blk,0,none⟩] w λe p=>∃c2 l v Kr,r=AV.agg (zbU c2)::[aS (.sl .int) l]/\e = .returned v/\Cw w blk u c2 p/\Rep false p v (.s (.sl .int) l) Kr/\(∀x,Kr x->w.heap.size<=x/\x<p.heap.size):=by
 unfold znt at hE;cases hm:zhW c 3 with
 |false=>rw[hm]at hE;cases hE
 |true=>
 cases K:zB (zyh c) 8 with
 |false=>rw[hm,K]at hE;cases hE
 |true=>
 rw[hm,K,cT,cT]at hE;have a7:∀{p:World} {O:Cur},Cw w blk u O p->O.b=c.b->Rep false p u (.s .u8 O.b) K0/\∀x,K0 x->x<p.heap.size/\x≠blk:=by intro p O h e;rw[e];exact⟨hu.frame λx d=>h.keep x (hK x d).1 (hK x d).2,λx d=>⟨jA (hK x d).1 h.size,(hK x d).2⟩⟩
 have hM:=(zyC hm).2.2 (by omega) (by omega)
 have a8:(zeG c).length=3:=by have:=hM.1;unfold ln at this;unfold zeG;omega
 have h5:=(zhn K).2.2 (by omega)
 obtain⟨k,hk⟩:∃k,zn (zyh c) 8=k:=⟨_,rfl⟩;have f1:zXN c=k:=hk;rw[f1]at hE
 go_enter Tryz.func72,Tryz.ntmps72
 go_wp2_with fail
 refine(z2M b5 hu hK hm).mono ?_
 rintro e L ⟨v,K1,rfl,F,b3,m⟩
 have b3:Rep true L v (.s (.sl .int)<|zeG c) K1:=b3;have F:Cw w blk u (zyh c) L:=F;obtain⟨E,t,a3,d7,e0,V,Kc,rfl,c3,g9,d1,Z,G,e9,hV,c1⟩:=z0S b3 a8;have h3:blk<w.heap.size:=by obtain⟨e,he⟩:=b5;exact(qL.1 he).1
 have e5:E≠blk:=by have:=(m E Z).1;omega
 have cellAt:∀{p:World} {O:Cur},Cw L blk u O p->p.heap[E]?=some (.cells d7 e0 (0,0)):=λh=>(h.keep E (m E Z).2 e5).trans c3
 go_wp2_with fail
 obtain⟨g1,f2⟩:=a7 F rfl;refine(zr0 F.cur g1 f2 K).mono ?_;rw[hk]
 rintro e X ⟨rfl,B⟩
 have B:Cw L blk u (zhs c) X:=B;obtain⟨g2,f3⟩:=a7 (F.trans B) rfl;have g0:=B.size;have g8:w.heap.size<=E/\E<L.heap.size:=m E Z
 have b2:∀{p:World} (i:Nat) (x:LI),(∀b,Kc i b->b<L.heap.size->b≠blk->b≠E->p.heap[b]?=L.heap[b]?)->i<3->(zeG c)[i]?=some x->Rep false p (V i) (.s .int x) (Kc i)/\∀y,Kc i y->w.heap.size<=y/\y<L.heap.size:=by intro p i x hf P d;refine⟨((c1 i x d).frame λy S=>?_).ro,λy S=>m y (G i y P S).1⟩;have:=m y (G i y P S).1;exact hf y S this.2 (by omega) (G i y P S).2
 go_wp2_with fail
 .have h0:ieq k 0=true:=by assumption
  rw[h0,cT]at hE;cases J:zB (zhs c) 3 with
  |false=>rw[J]at hE;cases hE
  |true=>
  cases b4:zB (zr3 c) 4 with
  |false=>rw[J,b4]at hE;cases hE
  |true=>
   rw[J,b4,cT,cT]at hE;have hj:=(zhn J).2.2 (by omega);obtain⟨j,a0⟩:=uU hj.1;have c8:zXM c=(j:Int):=a0;have hn:=(zhn b4).2.2 (by omega);obtain⟨n,c9⟩:=uU hn.1;have f8:z8H c=(n:Int):=c9;rw[c8,f8]at hE;rw[a0]at hj;rw[c9]at hn;have e6:j<3:=(by omega);have h6:n<4:=(by omega);obtain⟨R0,c0⟩:∃R0,(zeG c)[0]?=some R0:=⟨_,qB (by omega)⟩;have e2:R0.length=4:=hM.2 R0 (qI c0);obtain⟨f,a,g,T,e1,f0,c4,c6,a9,D,W⟩:=zTk (c1 0 R0 c0) e2;have Q:∀{p:World} {O:Cur},Cw L blk u O p->p.cell? ⟨E,t,none⟩=some (.slice (some ⟨f,a,none⟩) 4 g):=λh=>(by have:=hV 0 (by omega);rw[jY,f0] at this;rw[D0<|cellAt h];exact this);have b7:∀{p:World} {O:Cur},Cw L blk u O p->p.cell? ⟨E,t+j,none⟩=some (V j)/\p.frozen? ⟨E,t+j,none⟩=false:=λh=>by rw[D0<|cellAt h];exact⟨hV j e6,zui<|cellAt h⟩
   have d8:∀{I:World},Cw L blk u (zXK c) I->∃c2 l v Kr,r=AV.agg (zbU c2)::[aS (.sl .int) l]/\Ending.returned (.slice (some ⟨E,t,none⟩) 3 a3) = .returned v/\Cw w blk u c2 (I.setCell ⟨E,t+j,none⟩<|.slice (some ⟨f,a,none⟩) n g)/\Rep false (I.setCell ⟨E,t+j,none⟩<|.slice (some ⟨f,a,none⟩) n g) v (.s (.sl .int) l) Kr/\
    (∀x,Kr x->w.heap.size<=x/\x<(I.setCell ⟨E,t+j,none⟩<|.slice (some ⟨f,a,none⟩) n g).heap.size):=by
    intro I h4;have hz:=h4.size;have a6:=m f (G 0 f (by omega) D).1
    have U:f≠blk:=by omega
    have a5:f≠E:=(G 0 f (by omega) D).2
    have ho:∀b,b≠E->(I.setCell ⟨E,t+j,none⟩<|.slice (some ⟨f,a,none⟩) n g).heap[b]?=I.heap[b]?:=λb K=>heap_setCell_other I _ b _ K;have d0:=heap_setCell_same I E (t+j) d7 e0 (.slice (some ⟨f,a,none⟩) n g) (cellAt h4);have A:=F.trans h4;refine⟨_,_,_,K1,(Option.some.inj hE).symm,rfl,⟨A.os,A.tape,A.output,by rw[World.size_setCell];exact A.size,λb K hn=>(ho b (by omega)).trans (A.keep b K hn),by obtain⟨e,he⟩:=A.cur;exact⟨e,(ho blk λh=>e5 h.symm).trans he⟩⟩,?_,λx d=>⟨(m x d).1,by rw[World.size_setCell];have:=m x d;omega⟩⟩
    have c7:ix (zeG c) 0 []=R0:=by unfold ix;simp[List.getD,c0]
    have a1:(up (zeG c) (j:Int)<|tk (ix (zeG c) 0 []) (n:Int)).length=3:=by rw[zhK];exact a8
    have:=zG7 d0 (l:=up (zeG c) (j:Int) (tk (ix (zeG c) 0 []) (n:Int))) (by omega) (cap:=a3) (off:=t) (by omega) (by simpa using d1) (λi=>if i=j then .slice (some ⟨f,a,none⟩) n g else V i) Z (λi P=>by
     rw[a1]at P;rw[uB]
     by_cases M:i=j
     .subst M;rw[if_pos rfl,if_pos (by omega),if_pos rfl]
     .rw [if_neg (by omega),if_neg M]
      exact hV i P) (λi x d=>by
     have P:i<3:=by rw[<- a1];exact(qA.1 d).1
     unfold up at d;rw[jB]at d
     by_cases M:i=j
     .subst M;rw[kH,if_pos rfl,if_pos (by omega),c7]at d
      cases d;refine⟨λx=>x=f,?_,λy S=>by rw[S];exact(G 0 f (by omega) D).1⟩
      have hl:(tk R0 (n:Int)).length=n:=by simp[tk];omega
      have:=zG6 (o:=false) (w:=I.setCell ⟨E,t+i,none⟩ (.slice (some ⟨f,a,none⟩) n g)) (b:=f) (off:=a) (cap:=g) (arr:=T) (e:=e1) ((ho f a5).trans ((h4.keep f a6.2 U).trans c4)) (l:=tk R0 (n:Int)) (by omega) (by omega) a9 (λq z hq=>by
       unfold tk at hq;rw[jI]at hq;split at hq
       .exact W q z hq
       .cases hq)
      rw[hl] at this;rw[if_pos rfl];exact this
     .rw [kH,if_neg (by omega)]at d
      rw[if_neg M];exact⟨Kc i,(b2 i x (λb _ K hn c3=>(ho b c3).trans (h4.keep b K hn)) P d).1,λy S=>(G i y P S).1⟩)
    rw[a1] at this;exact this
   have Y:Cw L blk u (zhs c) X.drew:=B.drew;obtain⟨e8,e7⟩:=a7 (F.trans Y) rfl;have d2:=Q Y
   go_region_with (first
    |(go_at_call_of 66 (Value.int IntKind.i64 3);refine(zr0 (c:=zhs c) (n:=3) Y.cur e8 e7 J).mono ?_;rw[a0];rintro e w3 ⟨rfl,H⟩;have H:Cw X.drew blk u (zr3 c) w3:=H;have C:=Y.trans H;have d3:=Q C;obtain⟨g3,f4⟩:=a7 (F.trans C) rfl)
    |(go_at_call_of 66 (Value.int IntKind.i64 4);refine(zr0 (c:=zr3 c) (n:=4) C.cur g3 f4 b4).mono ?_;rw[c9];rintro e I ⟨rfl,b8⟩;have b8:Cw w3 blk u (zXK c) I:=b8;have b9:=C.trans b8;have d4:=Q b9;obtain⟨d5,d6⟩:=b7 b9))
   (all_goals go_wp2);(all_goals go_ret);all_goals exact d8 b9
 .have h0:ieq k 0=false:=by assumption
  have h1:ieq k 1=true:=by assumption
  rw[h0,h1,cF,cT]at hE;cases c5:zbt (zhs c) [-1,100] with
  |false=>rw[c5]at hE;cases hE
  |true=>
   rw[c5,cT]at hE;obtain⟨R1,a4⟩:∃R1,(zeG c)[1]?=some R1:=⟨_,qB (by omega)⟩;have e3:R1.length=4:=hM.2 R1 (qI a4);obtain⟨f,a,g,T,e1,e4,c4,c6,a9,D,W⟩:=zTk (c1 1 R1 a4) e3;have a6:=m f (G 1 f (by omega) D).1;have U:f≠blk:=(by omega);have a5:f≠E:=(G 1 f (by omega) D).2;have R:∀{p:World} {O:Cur},Cw L blk u O p->p.cell? ⟨E,t+1,none⟩=some (.slice (some ⟨f,a,none⟩) 4 g):=λh=>(by have:=hV 1 (by omega);rw[e4] at this;rw[D0<|cellAt h];exact this);have a2:∀{p:World} {O:Cur},Cw L blk u O p->p.heap[f]?=some (.cells T e1 (0,0)):=λh=>(h.keep f a6.2 U).trans c4;have b6:∀{p:World} {O:Cur},Cw L blk u O p->p.cell? ⟨f,a+2,none⟩=some (.int .i64 R1[2])/\p.frozen? ⟨f,a+2,none⟩=false:=λh=>by rw[D0<|a2 h];exact⟨W 2 _<|qB (by omega),zui<|a2 h⟩
   have Y:Cw L blk u (zhs c) X.drew:=B.drew;have d2:=R Y;have d9:∀{I:World},Cw L blk u (zXL c) I->∃c2 l v Kr,r=AV.agg (zbU c2)::[aS (.sl .int) l]/\Ending.returned (.slice (some ⟨E,t,none⟩) 3 a3) = .returned v/\Cw w blk u c2 (I.setCell ⟨f,a+2,none⟩<|.int .i64<|ztc c)/\Rep false (I.setCell ⟨f,a+2,none⟩<|.int .i64<|ztc c) v (.s (.sl .int) l) Kr/\
    (∀x,Kr x->w.heap.size<=x/\x<(I.setCell ⟨f,a+2,none⟩<|.int .i64<|ztc c).heap.size):=by
    intro I h4;have hz:=h4.size;have ho:∀b,b≠f->(I.setCell ⟨f,a+2,none⟩<|.int .i64<|ztc c).heap[b]?=I.heap[b]?:=λb K=>heap_setCell_other I _ b _ K;have d0:=heap_setCell_same I f (a+2) T e1 (.int .i64<|ztc c) (a2 h4);have A:=F.trans h4;refine⟨_,_,_,K1,(Option.some.inj hE).symm,rfl,⟨A.os,A.tape,A.output,by rw[World.size_setCell];exact A.size,λb K hn=>(ho b (by omega)).trans (A.keep b K hn),by obtain⟨e,he⟩:=A.cur;exact⟨e,(ho blk λh=>U h.symm).trans he⟩⟩,?_,λx d=>⟨(m x d).1,by rw[World.size_setCell];have:=m x d;omega⟩⟩
    have c7:ix (zeG c) 1 []=R1:=by unfold ix;show (zeG c).getD 1 []=R1;simp[List.getD,a4]
    have a1:(up (zeG c) 1<|up (ix (zeG c) 1 []) 2<|ztc c).length=3:=by rw[zhK];exact a8
    have:=zG7 ((ho E λh=>a5 h.symm).trans (cellAt h4)) (l:=up (zeG c) 1 (up (ix (zeG c) 1 []) 2<|ztc c)) (by omega) (cap:=a3) (off:=t) (by omega) d1 V Z (λi P=>hV i (by omega)) (λi x d=>by
     have P:i<3:=by rw[<- a1];exact(qA.1 d).1
     unfold up at d;rw[jB]at d
     by_cases M:i=1
     .subst M;rw[show (1:Int).toNat=1 from rfl,if_pos rfl,if_pos (by omega),c7]at d
      cases d;refine⟨λx=>x=f,?_,λy S=>by rw[S];exact(G 1 f (by omega) D).1⟩
      have hl:(List.set R1 (2:Int).toNat<|ztc c).length=4:=by simp;omega
      have:=zG6 (o:=false) (w:=I.setCell ⟨f,a+2,none⟩ (.int .i64<|ztc c)) (b:=f) (off:=a) (cap:=g) d0 (l:=List.set R1 (2:Int).toNat (ztc c)) (by omega) (by omega) (by simpa using a9) (λq z hq=>by
       rw[jB]at hq;rw[uB]
       by_cases f9:q=2
       .subst f9;rw[show (2:Int).toNat=2 from rfl,if_pos rfl,if_pos (by omega)]at hq
        cases hq;rw[if_pos rfl,if_pos (by omega)]
       .rw [show (2:Int).toNat=2 from rfl,if_neg (by omega)]at hq
        rw[if_neg (by omega)]
        exact W q z hq)
      rw[hl] at this;rw[e4];exact this
     .rw [show (1:Int).toNat=1 from rfl,if_neg (by omega)]at d
      refine⟨Kc i,(b2 i x (λb f6 K hn g7=>?_) P d).1,λy S=>(G i y P S).1⟩;exact(ho b λe=>M (e9 i 1 b P (by omega) f6 (by rw[e];exact D))).trans (h4.keep b K hn))
    rw[a1] at this;exact this
   have hA:Cw L blk u (zhs c) (X.alloc<|Obj.cells #[Value.int .i64<|-1,Value.int .i64 100] 3).drew:=(B.alloc B.lt _).drew;obtain⟨g4,f5⟩:=a7 (F.trans hA) rfl;have dA:=R hA;have g5:Rep false (X.alloc<|Obj.cells #[Value.int .i64<|-1,Value.int .i64 100] 3).drew (.slice (some ⟨X.heap.size,0,none⟩) 2 2) (.s .int [-1,100]) (λx=>x=X.heap.size):=by
    have hh:(X.alloc<|Obj.cells #[Value.int .i64<|-1,Value.int .i64 100] 3).drew.heap[X.heap.size]?=some (.cells #[Value.int .i64<|-1,Value.int .i64 100] 3 (0,0)):=heap_alloc_new X _;exact zG6 (o:=false) hh (l:=[-1,100]) (cap:=2) (off:=0) (by decide) (by decide) (by decide) (λi x d=>by
     match i,d with
     | 0,d=>cases d;rfl
     | 1,d=>cases d;rfl
     |i+2,d=>simp at d)
   go_region_with (first
    |(go_at_call_of 40 (Value.slice (some ⟨X.heap.size,0,none⟩) 2 2);refine(z0L (c:=zhs c) (l:=[-1,100]) hA.cur g4 f5 c5 g5 (λx d=>by rw[d];exact⟨by simp,Nat.ne_of_gt B.lt⟩)).mono ?_;rintro e w3 ⟨rfl,H⟩;have H:Cw (X.alloc<|Obj.cells #[Value.int .i64<|-1,Value.int .i64 100] 3).drew blk u (zXL c) w3:=H;have C:=hA.trans H;have d3:=R C;obtain⟨d4,d5⟩:=b6 C))
   (all_goals go_wp2);(all_goals go_ret);all_goals exact d9 C
 .have h0:ieq k 0=false:=by assumption
  have h1:ieq k 1=false:=by assumption
  have h2:ieq k 2=true:=by assumption
  rw[h0,h1,h2,cF,cF,cT]at hE;cases J:zB (zhs c) 3 with
  |false=>rw[J]at hE;cases hE
  |true=>
   rw[J,cT]at hE;have hj:=(zhn J).2.2 (by omega);obtain⟨j,a0⟩:=uU hj.1;have c8:zXM c=(j:Int):=a0;rw[c8]at hE;refine(zr0 B.cur g2 f3 J).mono ?_;rw[a0];rintro e w3 ⟨rfl,H⟩;have H:Cw X blk u (zr3 c) w3:=H;go_wp2;go_ret;have e6:j<3:=(by omega);have f7:(tk (zeG c) (j:Int)).length=j:=(by simp[tk];omega);have C:=B.trans H;refine⟨_,_,_,K1,(Option.some.inj hE).symm,rfl,F.trans C,?_,λx d=>⟨(m x d).1,by have:=m x d;have:=C.size;omega⟩⟩
   have:=zG7 (cellAt C) (l:=tk (zeG c) (j:Int)) (by omega) (cap:=a3) (off:=t) (by omega) d1 V Z (λi P=>hV i (by omega)) (λi x d=>by
    have P:i<(tk (zeG c) (j:Int)).length:=(qA.1 d).1;have g6:(zeG c)[i]?=some x:=by unfold tk at d;rw[jI]at d;split at d;{exact d};{cases d}
    exact⟨Kc i,(b2 i x (λb _ K hn _=>C.keep b K hn) (by omega) g6).1,λy S=>(G i y (by omega) S).1⟩)
   rw[f7] at this;exact this
 .have h0:ieq k 0=false:=by assumption
  have h1:ieq k 1=false:=by assumption
  have h2:ieq k 2=false:=by assumption
  rw[h0,h1,h2,cF,cF,cF]at hE
  go_ret
  exact⟨_,_,_,K1,(Option.some.inj hE).symm,rfl,F.trans B,(b3.frame λx d=>B.keep x (m x d).2 (by have:=m x d;omega)).ro,λx d=>⟨(m x d).1,by have:=m x d;omega⟩⟩
def zR6 {c:Cur}(h:zbd c):zoC c=true:=by
 refine zYg c ⟨0,?_⟩;unfold znt;have t:=z9s h (a0:=3) (by omega) (by omega);have y:zbd (zyh c):=zbL h (zYj _ _);have k:zbd (zhs c):=zbL h (zD _ _);have z:zbd (zr3 c):=zbL h (zD _ _);have p:=(zyC t).2.2 (by omega) (by omega);have A:(zeG c).length=3:=(by have:=p.1;unfold ln at this;unfold zeG;omega);have f:∀r∈zeG c,r.length<=4:=λr f=>kX (p.2 r f);have u:∀n,(ix (zeG c) n []).length<=4:=(by intro n;unfold ix List.getD;cases e:(zeG c)[n.toNat]? with|none=>simp|some r=>exact f r (qI e));have g:∀(n:Int) (r:LI),r.length<=4->∀q∈up (zeG c) n r,q.length<=4:=by intro n r j q e;rcases qX e with e|rfl;{exact f q e};{exact j}
 have d:∀(s:Cur) (l:List LI),s.b=c.b->0<=s.i->l.length<=3->(∀r∈l,r.length<=4)->Ends (λa=>∃s m,a=(AV.agg (zbU s)::[aS (.sl .int) m])/\(s.b=c.b/\0<=s.i)/\(m.length<=3/\∀r∈m,r.length<=4)) (some (AV.agg (zbU s)::[aS (.sl .int) l])):=
  λs l v w x j=>⟨_,rfl,s,l,rfl,⟨v,w⟩,x,j⟩
 exact zy t (zy (zbB y 8) (zbE (λ_=>zy (zbB k 3) (zy (zbB z 4) (d _ _ rfl (zD _ _) (by rw[zhK];omega) (g _ _<|qS (zBF _ _)<|u _))))
  (λ_=>zbE (λ_=>zy (zeE k (by simp)) (d _ _ rfl (zbS _ _) (by rw[zhK];omega) (g _ _ (by rw[zhK];exact u _)))) λ_=>zbE (λ_=>zy (zbB k 3) (d _ _ rfl (zD _ _) (qS (zBF _ _) (by omega)) λr e=>f r (jW e))) λ_=>d _ _ rfl (zD _ _) (by omega) f)))
def zLX:zbR Tryz.prog 72 [false,true,true] zrr:=by
 refine⟨ziq (by kernel_rfl),?_⟩;intro w blk d e cs K T xs Ka U rs D P a4 k A X n W g;unfold zrr rP0 at g;obtain⟨⟨p,q,r⟩,rfl,g⟩:=z0G g;obtain⟨rfl,R,rfl,rfl⟩:=zuy g;dsimp only at R ⊢;have hs:d.size=3:=P;have M:xs=[]:=List.eq_nil_of_length_eq_zero n.1;subst M;obtain⟨N,hE⟩:=(zKn R).1;have v1:=(k 1 _ (d[1]'(by omega)) rfl (jE _)).int_inv;have v2:=(k 2 _ (d[2]'(by omega)) rfl (jE _)).int_inv
 have m:d = #[d[0]'(by omega),.int .i64 q,.int .i64 r]:=by
  apply Array.ext;{exact hs}
  .intro i E hi2
   match i,E with
   | 0,_=>rfl
   | 1,_=>exact v1
   | 2,_=>exact v2
   |i+3,h=>omega
 have hu:=k 0 _ (d[0]'(by omega)) rfl (jE _);have f:Rep false w (d[0]'(by omega)) (.s .u8 p) (K 0):=hu;generalize d[0]'(by omega)=u at m f;subst m;refine(zUO (c:=⟨p,q,r⟩) (u:=u) (K0:=K 0) N ⟨e,D⟩ f (λx n=>A 0 x (show 0<3 by decide) n) hE).mono ?_;rintro e2 w' ⟨z,l,v,S,hr,rfl,y,Y,t⟩;have B:AV.agg (zbU<|zhT ⟨p,q,r⟩)::[aS (.sl .int)<|zpG ⟨p,q,r⟩]=AV.agg (zbU z)::[aS (.sl .int) l]:=hr;simp only[List.cons.injEq,AV.agg.injEq,AV.one.injEq,and_true]at B;obtain⟨C,I⟩:=B;have I:zpG ⟨p,q,r⟩=l:=(by cases I;rfl);subst I;have O:zhT ⟨p,q,r⟩=z:=(by have C:=C;simp only[zbU,List.cons.injEq,CV.s.injEq,CV.i.injEq,true_and,and_true,heq_eq_eq]at C;obtain⟨F,G,H⟩:=C;generalize zhT ⟨p,q,r⟩=s at F G H;obtain⟨a1,a2,a3⟩:=s;obtain⟨b1,b2,b3⟩:=z;simp only at F G H;rw[F,G,H]);rw[O];obtain⟨V,J⟩:=y.cur;refine⟨y.os,y.tape,y.output,y.size,λb D hn _=>y.keep b D hn,#[u,.int .i64 z.i,.int .i64 z.h],V,λ_ _=>False,[v],λ_=>S,J,rfl,rfl,?_,⟨rfl,λi Q x a n=>?_⟩,rfl,λj x _ h=>h.elim,λi x E L=>⟨(t x L).2,?_,.inr (t x L).1⟩,λi j x _ _ _ h=>h.elim,?_,λi j x _ _ h=>h.elim⟩
 .intro j Q u' a f
  match j,a,f with
  | 0,a,f=>cases a;exact⟨λh=>by simp[zbb]at h,λ_=>f⟩
  | 1,a,f=>cases a;cases f;rfl
  | 2,a,f=>cases a;cases f;rfl
  |j+3,a,f=>simp[zbU]at a
 .match i,a,n with
  | 0,a,n=>cases a;cases n;exact Y
  |i+1,a,n=>simp at n
 {have:=(qL.1 D).1;have:=(t x L).1;omega};{intro i j Q x E ho Z a0 _;have h1:i<1:=(qA.1 E).1;have h2:j<1:=Z;omega}
def z5E:zcQ:=[(72,[false,true,true],zrr)]++z5D
def zTa:zb2 z5E:=zcp z2X (by
 intro x a;simp only[qG,qO,or_false]at a;rcases a with rfl
 .exact zLX)
end
def z9i:zW:=[(57,zlt),(118,zpx)]++z4s
def zFJ:zL z9i:=zh zmP (zh zs6 zek)
def zCD {g:Type}{c e:Cur}(h:zbd c)(j:0<=e.i){P:g->Prop}{q:Int}(A:0<q)(M:q<=1000){fc:Cur->Bool}{fs:Cur->Cur}{fv:Cur->g}(E:∀{c:Cur},zbd c->fc c=true)(H:∀c,0<=(fs c).i)(hg:∀{c:Cur},zbd c->P (fv c)){G:Ans->Prop}{l0:List g}{z:Nat}(O:l0.length<=z)(I:z<=1000)(m:∀x∈l0,P x){p:Type}(S:Nat->Int×Int×Int×List g->p){F:(p->OA)->p->OA}(D:∀rec t i k l,∃r,F rec (S 0 (t,i,k,l))=(bif zB ⟨c.b,i,k⟩ q then (bif ilt t (zn ⟨c.b,i,k⟩ q) then (bif fc { zf ⟨c.b,i,k⟩ q with b:=c.b } then (bif few (ln (ap l [fv { zf ⟨c.b,i,k⟩ q with b:=c.b }])) then
        rec (S 0 (zO .i64 t 1,(fs {zf ⟨c.b,i,k⟩ q with b:=c.b}).i,(fs {zf ⟨c.b,i,k⟩ q with b:=c.b}).h,ap l [fv {zf ⟨c.b,i,k⟩ q with b:=c.b}])) else none) else none) else some r) else none)/\(ln l<=z+q->(∀x∈l,P x)->G r)):Ends G (iter 1002 F (S 0 (0,e.i,e.h,l0))):=by
 refine zlV (fun n s=>∃t i k l,s=S 0 (t,i,k,l)/\t+(n:Int)=1000/\0<=t/\t<=q/\0<=i/\(∀x∈l,P x)/\ln l<=z+t) ?_ 1002 1000 _ ⟨0,e.i,e.h,l0,rfl,rfl,kP 0,by omega,j,m,by unfold ln;omega⟩ (by omega)
 rintro n s rec ⟨t,i,k,l,rfl,J,B,K,C,u,L⟩ f
 obtain⟨r,hF1,hF2⟩:=D rec t i k l;rw[hF1];have a:zbd ⟨c.b,i,k⟩:=zbL h C;have d:=zfT a A;have v:zbd {zf ⟨c.b,i,k⟩ q with b:=c.b}:=zbL h (zD _ _);refine zy (zbB a _) (zbE (fun w=>?_) (fun w=>?_))
 .have hlt:t<zn ⟨c.b,i,k⟩ q:=qF w;have N:=zha (y:=1) B (by omega) (by omega) (by omega)
  refine zy (E v) (zy (zks (by rw[zht];omega)) (f (n-1) _ (by omega) ⟨_,_,_,_,rfl,by omega,by omega,by omega,H _,?_,by rw[zht];omega⟩))
  intro x d;rcases jJ.1 d with d|d
  .exact u x d
  .rw [qD.1 d];exact hg v
 .exact zsS (hF2 (by omega) u)
def z8y {c d:Cur}(h:zbd c)(f:0<=d.i){m q x:Int}(t:0<q)(g:0<=m)(D:m+q<=1000){G:Ans->Prop}{l0:LI}(B:ln l0<=m+q){j:Type}(S:Nat->Int×Int×LI->j){F:(j->OA)->j->OA}(w:∀rec i k l,∃r,F rec (S 0 (i,k,l))=(bif zB ⟨c.b,i,k⟩ q then (bif ilt (ln l) (zO .i64 m (zn ⟨c.b,i,k⟩ q)) then (bif few (ln (ap l [x])) then
        rec (S 0 ((zf ⟨c.b,i,k⟩ q).i,(zf ⟨c.b,i,k⟩ q).h,ap l [x])) else none) else some r) else none)/\(ln l<=m+q->G r)):Ends G (iter 1002 F (S 0 (d.i,d.h,l0))):=by
 refine zlV (fun n s=>∃i k l,s=S 0 (i,k,l)/\ln l+(n:Int)=1000/\0<=i/\ln l<=m+q) ?_ 1002 (1000-ln l0).toNat _ ⟨d.i,d.h,l0,rfl,by unfold ln at *;omega,f,B⟩ (by unfold ln at *;omega)
 rintro n s rec ⟨i,k,l,rfl,C,u,v⟩ e
 obtain⟨r,hF1,hF2⟩:=w rec i k l;rw[hF1];have a:zbd ⟨c.b,i,k⟩:=zbL h u;have A:=zfT a t;have z:=zha (x:=m) (y:=zn ⟨c.b,i,k⟩ q) g (by omega) A.1 (by omega)
 refine zy (zbB a _) (zbE (fun p=>?_) (fun p=>?_))
 .have hlt:ln l<zO .i64 m (zn ⟨c.b,i,k⟩ q):=qF p;rw[z]at hlt;exact zy (zks (by rw[zht];omega)) (e (n-1) _ (by unfold ln at *;omega) ⟨_,_,_,rfl,by rw[zht];omega,zD _ _,by rw[zht];omega⟩)
 .exact zsS (hF2 v)
def GuS (g:ah):Prop:=g.aw.length<=13/\g.az.length<=4/\g.av.length<=4/\g.aC.length<=50
def zCn {c:Cur}(h:zbd c):(zdB c 4 8).length<=4:=by have:=(z7L h (n:=4) (m:=8) (by omega) (by omega) (by omega) (by omega)).1;unfold ln at this;omega
def zsG (N:Nat)(c:Cur)  : OA :=
 let C:=({ (zZ c) with b:=c.b}:Cur);let v:=zdB C 4 8;let d:=zco<|zb1 c;let y9:=({ (zJ C 4 8) with b:=c.b}:Cur);let x:=zdB y9 4 8;let y2:=({ (zJ y9 4 8) with b:=c.b}:Cur);let w:=zn y2 100;let B:=({ (zf y2 100) with b:=c.b}:Cur);let y:=zn B 4;let y0:=({ (zf B 4) with b:=c.b}:Cur);let I:=({ (zcc y0) with b:=c.b}:Cur);let e:=zcy y0;let A:=({ (zQ I 3) with b:=c.b}:Cur);let H:=({ (zf A 256) with b:=c.b}:Cur);let r:=({ (zQ A 4) with b:=c.b}:Cur);let u:=({ (zfi r) with b:=c.b}:Cur);let q:=({ (zQ H 4) with b:=c.b}:Cur);let t:=({ (zfi q) with b:=c.b}:Cur); (oN (zgY c)<|oN (ziK<|zb1 c)<|oN (zho C 4 8)<|oN (zho y9 4 8)<|oN (zB y2 100)<|oN (zB B 4)<|oN (zjo y0)<|oN (zcZ I 3)<|cond (zc7 I 3) (oN (zB A 256)<|oN (zcZ H 4)<|cond (zc7 H 4) (oN (zij q)<|oN (zcZ t 12)<|iter (σ:=(Int×Int×Int×Int×Int×Int×Int×Bool×Int×Int×Int×Bool×Int×Bool×Int×Int×Int×Int×Bool×Int×Int×Int×Bool×Int×Bool×LI×lI×lS×lS×LI×lI×lS×lS×LI×Unit)) N (λz a=>let c:=a.2.2.2.2.2.2.2.2.2.2.2.2;let d:=c.2.2.2.2.2.2.2.2.2.2;let d6:=c.2.2.1;let d2:=c.2.2.2.1;let c8:=c.2.2.2.2.1;let c4:=c.2.2.2.2.2.1;let c0:=c.2.2.2.2.2.2.1;let b6:=c.2.2.2.2.2.2.2.1;let b2:=c.2.2.2.2.2.2.2.2.1;let a8:=c.2.2.2.2.2.2.2.2.2.1;let a4:=d.1;let a0:=d.2.1;let W:=d.2.2.1;let S:=d.2.2.2.2.2.2.2.2.1;let O:=d.2.2.2.2.2.2.2.2.2.1;let J:=d.2.2.2.2.2.2.2.2.2.2.1;let D:=d.2.2.2.2.2.2.2.2.2.2.2.1;let y4:=d.2.2.2.1;let l:=(⟨y4,a.2.1,a.2.2.1⟩:Cur);let f:=({ (zf l 4) with b:=y4}:Cur); (oN (zB l 4)<|cond (ilt a.1<|zn l 4) (oN (zB f 100)<|oN (few<|ln<|ap D [zn f 100])<|z (zO .i64 a.1 1,(zf f 100).i,(zf f 100).h,a.2.2.2.1,a.2.2.2.2.1,a.2.2.2.2.2.1,a.2.2.2.2.2.2.1,a.2.2.2.2.2.2.2.1,a.2.2.2.2.2.2.2.2.1,a.2.2.2.2.2.2.2.2.2.1,a.2.2.2.2.2.2.2.2.2.2.1,a.2.2.2.2.2.2.2.2.2.2.2.1,c.1,c.2.1,d6,d2,c8,c4,c0,b6,b2,a8,a4,a0,W,y4,d.2.2.2.2.1,d.2.2.2.2.2.1,d.2.2.2.2.2.2.1,d.2.2.2.2.2.2.2.1,S,O,J,ap D [zn f 100],()))<|some [.agg [.s .u8 y4,.i .i64 (zf l 4).i,.i .i64 (zf l 4).h],aT .guest (⟨S,d6,d2,O,J,⟨c8,c4,c0⟩,b6,⟨b2,a8,a4,a0⟩,W,D⟩:ah)])) (0,(zQ t 12).i,(zQ t 12).h,0,0,0,0,false,0,0,0,false,0,false,w,y,e.aq,e.Post,e.Open,zn A 256,(zb7 q).Kind,(zb7 q).af,(zb7 q).Write,(zb7 q).N,zc7 t 12,c.b,[],[],[],[],d.aw,v,x,d.aC,()))<|oN (zcZ q 12)<|iter (σ:=(Int×Int×Int×Int×Int×Int×Int×Bool×Int×Int×Int×Bool×Int×Bool×Int×Int×Int×Int×Bool×Int×Int×Int×Bool×Int×Bool×LI×lI×lS×lS×LI×lI×lS×lS×LI×Unit)) N (λz a=>let c:=a.2.2.2.2.2.2.2.2.2.2.2.2;let d:=c.2.2.2.2.2.2.2.2.2.2;let d7:=c.2.2.1;let d3:=c.2.2.2.1;let c9:=c.2.2.2.2.1;let c5:=c.2.2.2.2.2.1;let c1:=c.2.2.2.2.2.2.1;let b7:=c.2.2.2.2.2.2.2.1;let b3:=c.2.2.2.2.2.2.2.2.1;let a9:=c.2.2.2.2.2.2.2.2.2.1;let a5:=d.1;let a1:=d.2.1;let X:=d.2.2.1;let T:=d.2.2.2.2.2.2.2.2.1;let P:=d.2.2.2.2.2.2.2.2.2.1;let K:=d.2.2.2.2.2.2.2.2.2.2.1;let E:=d.2.2.2.2.2.2.2.2.2.2.2.1;let y5:=d.2.2.2.1;let m:=(⟨y5,a.2.1,a.2.2.1⟩:Cur);let g:=({ (zf m 4) with b:=y5}:Cur); (oN (zB m 4)<|cond (ilt a.1<|zn m 4) (oN (zB g 100)<|oN (few<|ln<|ap E [zn g 100])<|z (zO .i64 a.1 1,(zf g 100).i,(zf g 100).h,a.2.2.2.1,a.2.2.2.2.1,a.2.2.2.2.2.1,a.2.2.2.2.2.2.1,a.2.2.2.2.2.2.2.1,a.2.2.2.2.2.2.2.2.1,a.2.2.2.2.2.2.2.2.2.1,a.2.2.2.2.2.2.2.2.2.2.1,a.2.2.2.2.2.2.2.2.2.2.2.1,c.1,c.2.1,d7,d3,c9,c5,c1,b7,b3,a9,a5,a1,X,y5,d.2.2.2.2.1,d.2.2.2.2.2.1,d.2.2.2.2.2.2.1,d.2.2.2.2.2.2.2.1,T,P,K,ap E [zn g 100],()))<|some [.agg [.s .u8 y5,.i .i64 (zf m 4).i,.i .i64 (zf m 4).h],aT .guest (⟨T,d7,d3,P,K,⟨c9,c5,c1⟩,b7,⟨b3,a9,a5,a1⟩,X,E⟩:ah)])) (0,(zQ q 12).i,(zQ q 12).h,0,0,0,0,false,0,0,0,false,0,false,w,y,e.aq,e.Post,e.Open,zn A 256,d.Exit.Kind,d.Exit.af,d.Exit.Write,d.Exit.N,zc7 q 12,c.b,[],[],[],[],d.aw,v,x,d.aC,()))<|oN (zcZ A 4)<|cond (zc7 A 4) (oN (zij r)<|oN (zcZ u 12)<|iter (σ:=(Int×Int×Int×Int×Int×Int×Int×Bool×Int×Int×Int×Bool×Int×Bool×Int×Int×Int×Int×Bool×Int×Int×Int×Bool×Int×Bool×LI×lI×lS×lS×LI×lI×lS×lS×LI×Unit)) N (λz a=>let c:=a.2.2.2.2.2.2.2.2.2.2.2.2;let d:=c.2.2.2.2.2.2.2.2.2.2;let d8:=c.2.2.1;let d4:=c.2.2.2.1;let d0:=c.2.2.2.2.1;let c6:=c.2.2.2.2.2.1;let c2:=c.2.2.2.2.2.2.1;let b8:=c.2.2.2.2.2.2.2.1;let b4:=c.2.2.2.2.2.2.2.2.1;let b0:=c.2.2.2.2.2.2.2.2.2.1;let a6:=d.1;let a2:=d.2.1;let Y:=d.2.2.1;let U:=d.2.2.2.2.2.2.2.2.1;let Q:=d.2.2.2.2.2.2.2.2.2.1;let L:=d.2.2.2.2.2.2.2.2.2.2.1;let F:=d.2.2.2.2.2.2.2.2.2.2.2.1;let y6:=d.2.2.2.1;let n:=(⟨y6,a.2.1,a.2.2.1⟩:Cur);let j:=({ (zf n 4) with b:=y6}:Cur); (oN (zB n 4)<|cond (ilt a.1<|zn n 4) (oN (zB j 100)<|oN (few<|ln<|ap F [zn j 100])<|z (zO .i64 a.1 1,(zf j 100).i,(zf j 100).h,a.2.2.2.1,a.2.2.2.2.1,a.2.2.2.2.2.1,a.2.2.2.2.2.2.1,a.2.2.2.2.2.2.2.1,a.2.2.2.2.2.2.2.2.1,a.2.2.2.2.2.2.2.2.2.1,a.2.2.2.2.2.2.2.2.2.2.1,a.2.2.2.2.2.2.2.2.2.2.2.1,c.1,c.2.1,d8,d4,d0,c6,c2,b8,b4,b0,a6,a2,Y,y6,d.2.2.2.2.1,d.2.2.2.2.2.1,d.2.2.2.2.2.2.1,d.2.2.2.2.2.2.2.1,U,Q,L,ap F [zn j 100],()))<|some [.agg [.s .u8 y6,.i .i64 (zf n 4).i,.i .i64 (zf n 4).h],aT .guest (⟨U,d8,d4,Q,L,⟨d0,c6,c2⟩,b8,⟨b4,b0,a6,a2⟩,Y,F⟩:ah)])) (0,(zQ u 12).i,(zQ u 12).h,0,0,0,0,false,0,0,0,false,0,false,w,y,e.aq,e.Post,e.Open,d.ak,(zb7 r).Kind,(zb7 r).af,(zb7 r).Write,(zb7 r).N,zc7 u 12,c.b,[],[],[],[],d.aw,v,x,d.aC,()))<|oN (zcZ r 12)<|iter (σ:=(Int×Int×Int×Int×Int×Int×Int×Bool×Int×Int×Int×Bool×Int×Bool×Int×Int×Int×Int×Bool×Int×Int×Int×Bool×Int×Bool×LI×lI×lS×lS×LI×lI×lS×lS×LI×Unit)) N (λz a=>let c:=a.2.2.2.2.2.2.2.2.2.2.2.2;let d:=c.2.2.2.2.2.2.2.2.2.2;let d9:=c.2.2.1;let d5:=c.2.2.2.1;let d1:=c.2.2.2.2.1;let c7:=c.2.2.2.2.2.1;let c3:=c.2.2.2.2.2.2.1;let b9:=c.2.2.2.2.2.2.2.1;let b5:=c.2.2.2.2.2.2.2.2.1;let b1:=c.2.2.2.2.2.2.2.2.2.1;let a7:=d.1;let a3:=d.2.1;let Z:=d.2.2.1;let V:=d.2.2.2.2.2.2.2.2.1;let R:=d.2.2.2.2.2.2.2.2.2.1;let M:=d.2.2.2.2.2.2.2.2.2.2.1;let G:=d.2.2.2.2.2.2.2.2.2.2.2.1;let y7:=d.2.2.2.1;let p:=(⟨y7,a.2.1,a.2.2.1⟩:Cur);let k:=({ (zf p 4) with b:=y7}:Cur); (oN (zB p 4)<|cond (ilt a.1<|zn p 4) (oN (zB k 100)<|oN (few<|ln<|ap G [zn k 100])<|z (zO .i64 a.1 1,(zf k 100).i,(zf k 100).h,a.2.2.2.1,a.2.2.2.2.1,a.2.2.2.2.2.1,a.2.2.2.2.2.2.1,a.2.2.2.2.2.2.2.1,a.2.2.2.2.2.2.2.2.1,a.2.2.2.2.2.2.2.2.2.1,a.2.2.2.2.2.2.2.2.2.2.1,a.2.2.2.2.2.2.2.2.2.2.2.1,c.1,c.2.1,d9,d5,d1,c7,c3,b9,b5,b1,a7,a3,Z,y7,d.2.2.2.2.1,d.2.2.2.2.2.1,d.2.2.2.2.2.2.1,d.2.2.2.2.2.2.2.1,V,R,M,ap G [zn k 100],()))<|some [.agg [.s .u8 y7,.i .i64 (zf p 4).i,.i .i64 (zf p 4).h],aT .guest (⟨V,d9,d5,R,M,⟨d1,c7,c3⟩,b9,⟨b5,b1,a7,a3⟩,Z,G⟩:ah)])) (0,(zQ r 12).i,(zQ r 12).h,0,0,0,0,false,0,0,0,false,0,false,w,y,e.aq,e.Post,e.Open,d.ak,d.Exit.Kind,d.Exit.af,d.Exit.Write,d.Exit.N,zc7 r 12,c.b,[],[],[],[],d.aw,v,x,d.aC,()))
def zNr:=zu [(113,0,{n:=50,tm:=[(0,.lp 0 0),(2,.lp 1 0),(3,.lp 2 0),(4,ti)],lo:=[(0,[.sl 0 [],ti,ti]),(1,[.sl 1 [],ti,ti,.sl 2 [],.sl 3 [],ti,ti,.b,ti,ti,ti,.b,ti,.b,.sl 4 []]),(2,[.sl 5 [],ti,ti,.sl 6 [],.sl 7 [],ti,ti,.b,ti,ti,ti,.b,ti,.b,.sl 8 []])],ro:=[(0,.u8,false),(1,.ins,true),(2,.slot,true),(3,.slot,true),(4,.int,true),(5,.ins,true),(6,.slot,true),(7,.slot,true),(8,.int,true)]})]
def zmH (c:Cur)(s:Cur)(a:ah):Prop:=(∃N,zsG N c=some (AV.agg (zbU s)::[aT .guest a]))/\(s.b=c.b/\0<=s.i)/\(GuS a/\a.aC.length<=4)
def zk1 (c:Cur)  : Bool:=wC (zmH c)
def ziP (c:Cur)  : Cur:=wS (zmH c)
def zb3 (c:Cur)  : ah:=wV (zmH c)
def zCe {c:Cur}(h:zk1 c=true):zmH c (ziP c) (zb3 c):=wG h
def zTz (c:Cur)  : 0<=(ziP c).i:=wP λh=>h.2.1.2
def zTy (c:Cur)(h:∃N,Ends (wE (λa=>aT .guest a) c.b λa=>GuS a/\a.aC.length<=4)<|zsG N c):zk1 c=true:=wI (λ_ _ h=>h) h
def zuF:zdU:=rP0 λc=>(zk1 c,ziP c,[aT .guest<|zb3 c])
def zGx:zbR Tryz.prog 113 [false,true,true] zuF:=hP0 zFJ zT zTa zq zNr (λ_ h=>(zCe h).1)
def zRy {c:Cur}(h:zbd c):zk1 c=true:=by
 refine zTy c ⟨1002,?_⟩;unfold zsG oN;conv=>zeta
 have f:=zBP h;have j:=zG5 (zqw f).2.2;have e:ziK (zb1 c)=true:=zbs (by omega);have q:∀{s:Cur},0<=s.i->zbd {s with b:=c.b}:=fun g=>zbL h g;have d:GuS ⟨zb1 c,0,0,[],[],⟨0,0,false⟩,0,⟨0,0,false,0⟩,false,[]⟩:=⟨by dsimp only;omega,by simp,by simp,by simp⟩
 refine zy f (zy e (zy (zxr (q (zii _)) (by omega) (by omega) _) (zy (zxr (q (zhp _ _ _)) (by omega) (by omega) _) (zy (zbB (q (zhp _ _ _)) _) (zy (zbB (q (zD _ _)) _) (zy (zW6 (q (zD _ _))) (zy (ziI (q (zyF _)) _)
  (zbE (fun _=>zy (zbB (q (zch _ _)) _) (zy (ziI (q (zD _ _)) _) (zbE (fun _=>zy (zRB (q (zch _ _))) (zy (ziI (q (zvQ _)) _) ?_)) (fun _=>zy (ziI (q (zch _ _)) _) ?_))))
   (fun _=>zy (ziI (q (zch _ _)) _) (zbE (fun _=>zy (zRB (q (zch _ _))) (zy (ziI (q (zvQ _)) _) ?_)) (fun _=>zy (ziI (q (zch _ _)) _) ?_)))))))))))
 .exact zCD h (zch _ _) (P:=fun _=>True) (q:=4) (by omega) (by omega) (fc:=fun c=>zB c 100) (fs:=fun c=>zf c 100) (fv:=fun c=>zn c 100) (fun h=>zbB h _) (fun c=>zD c _) (fun _=>trivial) (z:=0) (l0:=(zco (zb1 c)).aC) (qV 0) (by omega) (by simp) ((fun _ t=>(t.1,t.2.1,t.2.2.1,0,0,0,0,false,0,0,0,false,0,false,(zn ({ (zJ ({ (zJ ({ (zZ c) with b:=c.b }:Cur) 4 8) with b:=c.b }:Cur) 4 8) with b:=c.b }:Cur) 100),(zn ({ (zf ({ (zJ ({ (zJ ({ (zZ c) with b:=c.b }:Cur) 4 8) with b:=c.b }:Cur) 4 8) with b:=c.b }:Cur) 100) with b:=c.b }:Cur) 4),(zcy ({ (zf ({ (zf ({ (zJ ({ (zJ ({ (zZ c) with b:=c.b }:Cur) 4 8) with b:=c.b }:Cur) 4 8) with b:=c.b }:Cur) 100) with b:=c.b }:Cur) 4) with b:=c.b }:Cur)).aq,(zcy ({ (zf ({ (zf ({ (zJ ({ (zJ ({ (zZ c) with b:=c.b }:Cur) 4 8) with b:=c.b }:Cur) 4 8) with b:=c.b }:Cur) 100) with b:=c.b }:Cur) 4) with b:=c.b }:Cur)).Post,(zcy ({ (zf ({ (zf ({ (zJ ({ (zJ ({ (zZ c) with b:=c.b }:Cur) 4 8) with b:=c.b }:Cur) 4 8) with b:=c.b }:Cur) 100) with b:=c.b }:Cur) 4) with b:=c.b }:Cur)).Open,(zn ({ (zQ ({ (zcc ({ (zf ({ (zf ({ (zJ ({ (zJ ({ (zZ c) with b:=c.b }:Cur) 4 8) with b:=c.b }:Cur) 4 8) with b:=c.b }:Cur) 100) with b:=c.b }:Cur) 4) with b:=c.b }:Cur)) with b:=c.b }:Cur) 3) with b:=c.b }:Cur) 256),(zb7 ({ (zQ ({ (zf ({ (zQ ({ (zcc ({ (zf ({ (zf ({ (zJ ({ (zJ ({ (zZ c) with b:=c.b }:Cur) 4 8) with b:=c.b }:Cur) 4 8) with b:=c.b }:Cur) 100) with b:=c.b }:Cur) 4) with b:=c.b }:Cur)) with b:=c.b }:Cur) 3) with b:=c.b }:Cur) 256) with b:=c.b }:Cur) 4) with b:=c.b }:Cur)).Kind,(zb7 ({ (zQ ({ (zf ({ (zQ ({ (zcc ({ (zf ({ (zf ({ (zJ ({ (zJ ({ (zZ c) with b:=c.b }:Cur) 4 8) with b:=c.b }:Cur) 4 8) with b:=c.b }:Cur) 100) with b:=c.b }:Cur) 4) with b:=c.b }:Cur)) with b:=c.b }:Cur) 3) with b:=c.b }:Cur) 256) with b:=c.b }:Cur) 4) with b:=c.b }:Cur)).af,(zb7 ({ (zQ ({ (zf ({ (zQ ({ (zcc ({ (zf ({ (zf ({ (zJ ({ (zJ ({ (zZ c) with b:=c.b }:Cur) 4 8) with b:=c.b }:Cur) 4 8) with b:=c.b }:Cur) 100) with b:=c.b }:Cur) 4) with b:=c.b }:Cur)) with b:=c.b }:Cur) 3) with b:=c.b }:Cur) 256) with b:=c.b }:Cur) 4) with b:=c.b }:Cur)).Write,(zb7 ({ (zQ ({ (zf ({ (zQ ({ (zcc ({ (zf ({ (zf ({ (zJ ({ (zJ ({ (zZ c) with b:=c.b }:Cur) 4 8) with b:=c.b }:Cur) 4 8) with b:=c.b }:Cur) 100) with b:=c.b }:Cur) 4) with b:=c.b }:Cur)) with b:=c.b }:Cur) 3) with b:=c.b }:Cur) 256) with b:=c.b }:Cur) 4) with b:=c.b }:Cur)).N,(zc7 ({ (zfi ({ (zQ ({ (zf ({ (zQ ({ (zcc ({ (zf ({ (zf ({ (zJ ({ (zJ ({ (zZ c) with b:=c.b }:Cur) 4 8) with b:=c.b }:Cur) 4 8) with b:=c.b }:Cur) 100) with b:=c.b }:Cur) 4) with b:=c.b }:Cur)) with b:=c.b }:Cur) 3) with b:=c.b }:Cur) 256) with b:=c.b }:Cur) 4) with b:=c.b }:Cur)) with b:=c.b }:Cur) 12),c.b,[],[],[],[],(zco (zb1 c)).aw,(zdB ({ (zZ c) with b:=c.b }:Cur) 4 8),(zdB ({ (zJ ({ (zZ c) with b:=c.b }:Cur) 4 8) with b:=c.b }:Cur) 4 8),t.2.2.2,())):Nat->Int×Int×Int×LI->_)
   (fun rec t i k l=>⟨_,rfl,fun a _=>⟨⟨_,_,_⟩,_,rfl,⟨rfl,zD _ _⟩,⟨⟨d.1,zCn (q (zii _)),zCn (q (zhp _ _ _)),by unfold ln at a;dsimp only;omega⟩,by unfold ln at a;dsimp only;omega⟩⟩⟩)
 .exact zCD h (zch _ _) (P:=fun _=>True) (q:=4) (by omega) (by omega) (fc:=fun c=>zB c 100) (fs:=fun c=>zf c 100) (fv:=fun c=>zn c 100) (fun h=>zbB h _) (fun c=>zD c _) (fun _=>trivial) (z:=0) (l0:=(zco (zb1 c)).aC) (qV 0) (by omega) (by simp) ((fun _ t=>(t.1,t.2.1,t.2.2.1,0,0,0,0,false,0,0,0,false,0,false,(zn ({ (zJ ({ (zJ ({ (zZ c) with b:=c.b }:Cur) 4 8) with b:=c.b }:Cur) 4 8) with b:=c.b }:Cur) 100),(zn ({ (zf ({ (zJ ({ (zJ ({ (zZ c) with b:=c.b }:Cur) 4 8) with b:=c.b }:Cur) 4 8) with b:=c.b }:Cur) 100) with b:=c.b }:Cur) 4),(zcy ({ (zf ({ (zf ({ (zJ ({ (zJ ({ (zZ c) with b:=c.b }:Cur) 4 8) with b:=c.b }:Cur) 4 8) with b:=c.b }:Cur) 100) with b:=c.b }:Cur) 4) with b:=c.b }:Cur)).aq,(zcy ({ (zf ({ (zf ({ (zJ ({ (zJ ({ (zZ c) with b:=c.b }:Cur) 4 8) with b:=c.b }:Cur) 4 8) with b:=c.b }:Cur) 100) with b:=c.b }:Cur) 4) with b:=c.b }:Cur)).Post,(zcy ({ (zf ({ (zf ({ (zJ ({ (zJ ({ (zZ c) with b:=c.b }:Cur) 4 8) with b:=c.b }:Cur) 4 8) with b:=c.b }:Cur) 100) with b:=c.b }:Cur) 4) with b:=c.b }:Cur)).Open,(zn ({ (zQ ({ (zcc ({ (zf ({ (zf ({ (zJ ({ (zJ ({ (zZ c) with b:=c.b }:Cur) 4 8) with b:=c.b }:Cur) 4 8) with b:=c.b }:Cur) 100) with b:=c.b }:Cur) 4) with b:=c.b }:Cur)) with b:=c.b }:Cur) 3) with b:=c.b }:Cur) 256),(zco (zb1 c)).Exit.Kind,(zco (zb1 c)).Exit.af,(zco (zb1 c)).Exit.Write,(zco (zb1 c)).Exit.N,(zc7 ({ (zQ ({ (zf ({ (zQ ({ (zcc ({ (zf ({ (zf ({ (zJ ({ (zJ ({ (zZ c) with b:=c.b }:Cur) 4 8) with b:=c.b }:Cur) 4 8) with b:=c.b }:Cur) 100) with b:=c.b }:Cur) 4) with b:=c.b }:Cur)) with b:=c.b }:Cur) 3) with b:=c.b }:Cur) 256) with b:=c.b }:Cur) 4) with b:=c.b }:Cur) 12),c.b,[],[],[],[],(zco (zb1 c)).aw,(zdB ({ (zZ c) with b:=c.b }:Cur) 4 8),(zdB ({ (zJ ({ (zZ c) with b:=c.b }:Cur) 4 8) with b:=c.b }:Cur) 4 8),t.2.2.2,())):Nat->Int×Int×Int×LI->_)
   (fun rec t i k l=>⟨_,rfl,fun a _=>⟨⟨_,_,_⟩,_,rfl,⟨rfl,zD _ _⟩,⟨⟨d.1,zCn (q (zii _)),zCn (q (zhp _ _ _)),by unfold ln at a;dsimp only;omega⟩,by unfold ln at a;dsimp only;omega⟩⟩⟩)
 .exact zCD h (zch _ _) (P:=fun _=>True) (q:=4) (by omega) (by omega) (fc:=fun c=>zB c 100) (fs:=fun c=>zf c 100) (fv:=fun c=>zn c 100) (fun h=>zbB h _) (fun c=>zD c _) (fun _=>trivial) (z:=0) (l0:=(zco (zb1 c)).aC) (qV 0) (by omega) (by simp) ((fun _ t=>(t.1,t.2.1,t.2.2.1,0,0,0,0,false,0,0,0,false,0,false,(zn ({ (zJ ({ (zJ ({ (zZ c) with b:=c.b }:Cur) 4 8) with b:=c.b }:Cur) 4 8) with b:=c.b }:Cur) 100),(zn ({ (zf ({ (zJ ({ (zJ ({ (zZ c) with b:=c.b }:Cur) 4 8) with b:=c.b }:Cur) 4 8) with b:=c.b }:Cur) 100) with b:=c.b }:Cur) 4),(zcy ({ (zf ({ (zf ({ (zJ ({ (zJ ({ (zZ c) with b:=c.b }:Cur) 4 8) with b:=c.b }:Cur) 4 8) with b:=c.b }:Cur) 100) with b:=c.b }:Cur) 4) with b:=c.b }:Cur)).aq,(zcy ({ (zf ({ (zf ({ (zJ ({ (zJ ({ (zZ c) with b:=c.b }:Cur) 4 8) with b:=c.b }:Cur) 4 8) with b:=c.b }:Cur) 100) with b:=c.b }:Cur) 4) with b:=c.b }:Cur)).Post,(zcy ({ (zf ({ (zf ({ (zJ ({ (zJ ({ (zZ c) with b:=c.b }:Cur) 4 8) with b:=c.b }:Cur) 4 8) with b:=c.b }:Cur) 100) with b:=c.b }:Cur) 4) with b:=c.b }:Cur)).Open,(zco (zb1 c)).ak,(zb7 ({ (zQ ({ (zQ ({ (zcc ({ (zf ({ (zf ({ (zJ ({ (zJ ({ (zZ c) with b:=c.b }:Cur) 4 8) with b:=c.b }:Cur) 4 8) with b:=c.b }:Cur) 100) with b:=c.b }:Cur) 4) with b:=c.b }:Cur)) with b:=c.b }:Cur) 3) with b:=c.b }:Cur) 4) with b:=c.b }:Cur)).Kind,(zb7 ({ (zQ ({ (zQ ({ (zcc ({ (zf ({ (zf ({ (zJ ({ (zJ ({ (zZ c) with b:=c.b }:Cur) 4 8) with b:=c.b }:Cur) 4 8) with b:=c.b }:Cur) 100) with b:=c.b }:Cur) 4) with b:=c.b }:Cur)) with b:=c.b }:Cur) 3) with b:=c.b }:Cur) 4) with b:=c.b }:Cur)).af,(zb7 ({ (zQ ({ (zQ ({ (zcc ({ (zf ({ (zf ({ (zJ ({ (zJ ({ (zZ c) with b:=c.b }:Cur) 4 8) with b:=c.b }:Cur) 4 8) with b:=c.b }:Cur) 100) with b:=c.b }:Cur) 4) with b:=c.b }:Cur)) with b:=c.b }:Cur) 3) with b:=c.b }:Cur) 4) with b:=c.b }:Cur)).Write,(zb7 ({ (zQ ({ (zQ ({ (zcc ({ (zf ({ (zf ({ (zJ ({ (zJ ({ (zZ c) with b:=c.b }:Cur) 4 8) with b:=c.b }:Cur) 4 8) with b:=c.b }:Cur) 100) with b:=c.b }:Cur) 4) with b:=c.b }:Cur)) with b:=c.b }:Cur) 3) with b:=c.b }:Cur) 4) with b:=c.b }:Cur)).N,(zc7 ({ (zfi ({ (zQ ({ (zQ ({ (zcc ({ (zf ({ (zf ({ (zJ ({ (zJ ({ (zZ c) with b:=c.b }:Cur) 4 8) with b:=c.b }:Cur) 4 8) with b:=c.b }:Cur) 100) with b:=c.b }:Cur) 4) with b:=c.b }:Cur)) with b:=c.b }:Cur) 3) with b:=c.b }:Cur) 4) with b:=c.b }:Cur)) with b:=c.b }:Cur) 12),c.b,[],[],[],[],(zco (zb1 c)).aw,(zdB ({ (zZ c) with b:=c.b }:Cur) 4 8),(zdB ({ (zJ ({ (zZ c) with b:=c.b }:Cur) 4 8) with b:=c.b }:Cur) 4 8),t.2.2.2,())):Nat->Int×Int×Int×LI->_)
   (fun rec t i k l=>⟨_,rfl,fun a _=>⟨⟨_,_,_⟩,_,rfl,⟨rfl,zD _ _⟩,⟨⟨d.1,zCn (q (zii _)),zCn (q (zhp _ _ _)),by unfold ln at a;dsimp only;omega⟩,by unfold ln at a;dsimp only;omega⟩⟩⟩)
 .exact zCD h (zch _ _) (P:=fun _=>True) (q:=4) (by omega) (by omega) (fc:=fun c=>zB c 100) (fs:=fun c=>zf c 100) (fv:=fun c=>zn c 100) (fun h=>zbB h _) (fun c=>zD c _) (fun _=>trivial) (z:=0) (l0:=(zco (zb1 c)).aC) (qV 0) (by omega) (by simp) ((fun _ t=>(t.1,t.2.1,t.2.2.1,0,0,0,0,false,0,0,0,false,0,false,(zn ({ (zJ ({ (zJ ({ (zZ c) with b:=c.b }:Cur) 4 8) with b:=c.b }:Cur) 4 8) with b:=c.b }:Cur) 100),(zn ({ (zf ({ (zJ ({ (zJ ({ (zZ c) with b:=c.b }:Cur) 4 8) with b:=c.b }:Cur) 4 8) with b:=c.b }:Cur) 100) with b:=c.b }:Cur) 4),(zcy ({ (zf ({ (zf ({ (zJ ({ (zJ ({ (zZ c) with b:=c.b }:Cur) 4 8) with b:=c.b }:Cur) 4 8) with b:=c.b }:Cur) 100) with b:=c.b }:Cur) 4) with b:=c.b }:Cur)).aq,(zcy ({ (zf ({ (zf ({ (zJ ({ (zJ ({ (zZ c) with b:=c.b }:Cur) 4 8) with b:=c.b }:Cur) 4 8) with b:=c.b }:Cur) 100) with b:=c.b }:Cur) 4) with b:=c.b }:Cur)).Post,(zcy ({ (zf ({ (zf ({ (zJ ({ (zJ ({ (zZ c) with b:=c.b }:Cur) 4 8) with b:=c.b }:Cur) 4 8) with b:=c.b }:Cur) 100) with b:=c.b }:Cur) 4) with b:=c.b }:Cur)).Open,(zco (zb1 c)).ak,(zco (zb1 c)).Exit.Kind,(zco (zb1 c)).Exit.af,(zco (zb1 c)).Exit.Write,(zco (zb1 c)).Exit.N,(zc7 ({ (zQ ({ (zQ ({ (zcc ({ (zf ({ (zf ({ (zJ ({ (zJ ({ (zZ c) with b:=c.b }:Cur) 4 8) with b:=c.b }:Cur) 4 8) with b:=c.b }:Cur) 100) with b:=c.b }:Cur) 4) with b:=c.b }:Cur)) with b:=c.b }:Cur) 3) with b:=c.b }:Cur) 4) with b:=c.b }:Cur) 12),c.b,[],[],[],[],(zco (zb1 c)).aw,(zdB ({ (zZ c) with b:=c.b }:Cur) 4 8),(zdB ({ (zJ ({ (zZ c) with b:=c.b }:Cur) 4 8) with b:=c.b }:Cur) 4 8),t.2.2.2,())):Nat->Int×Int×Int×LI->_)
   (fun rec t i k l=>⟨_,rfl,fun a _=>⟨⟨_,_,_⟩,_,rfl,⟨rfl,zD _ _⟩,⟨⟨d.1,zCn (q (zii _)),zCn (q (zhp _ _ _)),by unfold ln at a;dsimp only;omega⟩,by unfold ln at a;dsimp only;omega⟩⟩⟩)
def z5F:zcQ:=[(113,[false,true,true],zuF)]++z5E
def zG2:zb2 z5F:=zcp zTa (by
 intro x a;simp only[qG,qO,or_false]at a;rcases a with rfl
 .exact zGx)
def zxE (N:Nat)(c:Cur)  : OA :=
 let e:=zb3 c;let B:=({ (ziP c) with b:=c.b}:Cur);let f:=zf B 14;let j:=zn B 14;let d:=({f with b:=c.b}:Cur);let g:=zgy d 4 8;let p:=zba d [-1,12,13,9223372036854775807]; (oN (zk1 c)<|oN (zB B 14)<|cond (ieq j 0) (oN (ziN d)<|some [.agg [.s .u8 c.b,.i .i64 (ziO d).i,.i .i64 (ziO d).h],aT .guest ({e with aw:=(zoF d)}:ah)])<|cond (ieq j 1) (oN (zbt d [-1,100])<|some [.agg [.s .u8 c.b,.i .i64 (zba d [-1,100]).i,.i .i64 (zba d [-1,100]).h],aT .guest ({e with A:=(zbm d [-1,100])}:ah)])<|cond (ieq j 2) (oN (zbt d [-1,12,13,9223372036854775807])<|some [.agg [.s .u8 c.b,.i .i64 p.i,.i .i64 p.h],aT .guest ({e with Pc:=(zbm d [-1,12,13,9223372036854775807])}:ah)])<|cond (ieq j 3) (oN (zfA d 4 8)<|some [.agg [.s .u8 c.b,.i .i64 g.i,.i .i64 g.h],aT .guest ({e with av:=(zeZ d 4 8)}:ah)])<|cond (ieq j 4) (oN (zoH d)<|some [.agg [.s .u8 c.b,.i .i64 (zoI d).i,.i .i64 (zoI d).h],aT .guest ({e with Ctl:=(zyE d)}:ah)])<|cond (ieq j 5) (oN (zmj d)<|some [.agg [.s .u8 c.b,.i .i64 (zmk d).i,.i .i64 (zmk d).h],aT .guest ({e with ak:=(zu8 d)}:ah)])<|cond (ieq j 6) (oN (zoJ d)<|some [.agg [.s .u8 c.b,.i .i64 (zoK d).i,.i .i64 (zoK d).h],aT .guest ({e with Exit:=(zyG d)}:ah)])<|cond (ieq j 7) (iter (σ:=(Int×Int×Int×Int×Int×Int×Bool×Int×Int×Int×Bool×Int×Bool×Int×Int×Int×Int×Bool×Int×Int×Int×Bool×Int×Bool×LI×lI×lS×lS×LI×lI×lS×lS×LI×Unit)) N (λG a=>let y:=a.2.2.2.2.2.2.2.2.2.2.2.2.2.1;let x:=a.2.2.2.2.2.2.2.2.2.2.2.2.2.2.1;let w:=a.2.2.2.2.2.2.2.2.2.2.2.2.2.2.2.1;let v:=a.2.2.2.2.2.2.2.2.2.2.2.2.2.2.2.2.1;let u:=a.2.2.2.2.2.2.2.2.2.2.2.2.2.2.2.2.2.1;let t:=a.2.2.2.2.2.2.2.2.2.2.2.2.2.2.2.2.2.2.1;let r:=a.2.2.2.2.2.2.2.2.2.2.2.2.2.2.2.2.2.2.2.1;let q:=a.2.2.2.2.2.2.2.2.2.2.2.2.2.2.2.2.2.2.2.2.1;let n:=a.2.2.2.2.2.2.2.2.2.2.2.2.2.2.2.2.2.2.2.2.2.1;let m:=a.2.2.2.2.2.2.2.2.2.2.2.2.2.2.2.2.2.2.2.2.2.2.1;let l:=a.2.2.2.2.2.2.2.2.2.2.2.2.2.2.2.2.2.2.2.2.2.2.2.1;let F:=a.2.2.2.2.2.2.2.2.2.2.2.2.2.2.2.2.2.2.2.2.2.2.2.2.2.2.2.2.2.1;let E:=a.2.2.2.2.2.2.2.2.2.2.2.2.2.2.2.2.2.2.2.2.2.2.2.2.2.2.2.2.2.2.1;let D:=a.2.2.2.2.2.2.2.2.2.2.2.2.2.2.2.2.2.2.2.2.2.2.2.2.2.2.2.2.2.2.2.1;let C:=a.2.2.2.2.2.2.2.2.2.2.2.2.2.2.2.2.2.2.2.2.2.2.2.2.1;let z:=a.2.2.2.2.2.2.2.2.2.2.2.2.2.2.2.2.2.2.2.2.2.2.2.2.2.2.2.2.2.2.2.2.1;let k:=(⟨C,a.1,a.2.1⟩:Cur); (oN (zB k 3)<|cond (ilt (ln z)<|zO .i64 39<|zn k 3) (oN (few<|ln<|ap z [1])<|G ((zf k 3).i,(zf k 3).h,a.2.2.1,a.2.2.2.1,a.2.2.2.2.1,a.2.2.2.2.2.1,a.2.2.2.2.2.2.1,a.2.2.2.2.2.2.2.1,a.2.2.2.2.2.2.2.2.1,a.2.2.2.2.2.2.2.2.2.1,a.2.2.2.2.2.2.2.2.2.2.1,a.2.2.2.2.2.2.2.2.2.2.2.1,a.2.2.2.2.2.2.2.2.2.2.2.2.1,y,x,w,v,u,t,r,q,n,m,l,C,a.2.2.2.2.2.2.2.2.2.2.2.2.2.2.2.2.2.2.2.2.2.2.2.2.2.1,a.2.2.2.2.2.2.2.2.2.2.2.2.2.2.2.2.2.2.2.2.2.2.2.2.2.2.1,a.2.2.2.2.2.2.2.2.2.2.2.2.2.2.2.2.2.2.2.2.2.2.2.2.2.2.2.1,a.2.2.2.2.2.2.2.2.2.2.2.2.2.2.2.2.2.2.2.2.2.2.2.2.2.2.2.2.1,F,E,D,ap z [1],()))<|some [.agg [.s .u8 C,.i .i64 (zf k 3).i,.i .i64 (zf k 3).h],aT .guest (⟨F,y,x,E,D,⟨w,v,u⟩,t,⟨r,q,n,m⟩,l,z⟩:ah)])) (f.i,f.h,0,0,0,0,false,0,0,0,false,0,false,e.A,e.Pc,e.Ctl.aq,e.Ctl.Post,e.Ctl.Open,e.ak,e.Exit.Kind,e.Exit.af,e.Exit.Write,e.Exit.N,e.aF,c.b,[],[],[],[],e.aw,e.az,e.av,e.aC,()))<|cond (ieq j 8) (oN (zfA d 4 8)<|some [.agg [.s .u8 c.b,.i .i64 g.i,.i .i64 g.h],aT .guest ({e with az:=(zeZ d 4 8)}:ah)])<|some [.agg [.s .u8 c.b,.i .i64 f.i,.i .i64 f.h],aT .guest e])
def zUe:=zu [(69,1,{n:=65,tm:=[(0,.lp 0 0),(2,.lp 1 0),(3,.lp 2 0)],lo:=[(0,[.sl 0 [],ti,ti]),(1,[.sl 1 [],ti,ti,.sl 2 [],.sl 3 [],ti,ti,.b,ti,ti,ti,.b,ti,.b,.sl 4 []]),(2,[.sl 5 [],ti,ti,.sl 6 [],.sl 7 [],ti,ti,.b,ti,ti,ti,.b,ti,.b,.sl 8 []])],ro:=[(0,.u8,false),(1,.ins,true),(2,.slot,true),(3,.slot,true),(4,.int,true),(5,.ins,true),(6,.slot,true),(7,.slot,true),(8,.int,true)]})]
def zqA (c:Cur)(s:Cur)(a:ah):Prop:=(∃N,zxE N c=some (AV.agg (zbU s)::[aT .guest a]))/\(s.b=c.b/\0<=s.i)/\(GuS a)
def zoN (c:Cur)  : Bool:=wC (zqA c)
def zoO (c:Cur)  : Cur:=wS (zqA c)
def zyH (c:Cur)  : ah:=wV (zqA c)
def zKp {c:Cur}(h:zoN c=true):zqA c (zoO c) (zyH c):=wG h
def zYu (c:Cur)  : 0<=(zoO c).i:=wP λh=>h.2.1.2
def zYt (c:Cur)(h:∃N,Ends (wE (λa=>aT .guest a) c.b λa=>GuS a)<|zxE N c):zoN c=true:=wI (λ_ _ h=>h) h
def zzn:zdU:=rP0 λc=>(zoN c,zoO c,[aT .guest<|zyH c])
def zL4:zbR Tryz.prog 69 [false,true,true] zzn:=hP0 zFJ zT zG2 zq zUe (λ_ h=>(zKp h).1)
def zH7 {c:Cur}(h:zbd c):zoN c=true:=by
 refine zYt c ⟨1002,?_⟩;unfold zxE oN;conv=>zeta
 have q:∀{s:Cur},0<=s.i->zbd {s with b:=c.b}:=λr=>zbL h r;have a:zbd {zf {ziP c with b:=c.b} 14 with b:=c.b}:=q (zD _ _);obtain⟨⟨d,e,f,g⟩,w⟩:=(zCe<|zRy h).2.2;have p:(zeZ {zf {ziP c with b:=c.b} 14 with b:=c.b} 4 8).length<=4:=by have:=((zow<|znv a (n:=4) (by omega) (by omega) 8).2.2 (by omega) (by omega)).1;unfold ln at this;omega
 have j:=(zxm<|zNU a).2.2;refine zy (zRy h) (zy (zbB (q<|zTz _) _) (zbE (λ_=>zy (zNU a) (zbG (aT .guest) (v:={zb3 c with aw:=zoF _}) (zM7 _) ⟨j,e,f,g⟩))
  (λ_=>zbE (λ_=>zy (zeE a (by simp)) (zbG (aT .guest) (v:={zb3 c with A:=zbm _ _}) (zbS _ _) ⟨d,e,f,g⟩))
  (λ_=>zbE (λ_=>zy (zeE a (by simp)) (zbG (aT .guest) (v:={zb3 c with Pc:=zbm _ _}) (zbS _ _) ⟨d,e,f,g⟩))
  (λ_=>zbE (λ_=>zy (znv a (by omega) (by omega) _) (zbG (aT .guest) (v:={zb3 c with av:=zeZ _ _ _}) (zox _ _ _) ⟨d,e,p,g⟩))
  (λ_=>zbE (λ_=>zy (z1y a) (zbG (aT .guest) (v:={zb3 c with Ctl:=zyE _}) (zYn _) ⟨d,e,f,g⟩))
  (λ_=>zbE (λ_=>zy (z8P a) (zbG (aT .guest) (v:={zb3 c with ak:=zu8 _}) (zVr _) ⟨d,e,f,g⟩))
  (λ_=>zbE (λ_=>zy (zY1 a) (zbG (aT .guest) (v:={zb3 c with Exit:=zyG _}) (zYs _) ⟨d,e,f,g⟩))
  (λ_=>zbE (λ_=>?_)
  (λ_=>zbE (λ_=>zy (znv a (by omega) (by omega) _) (zbG (aT .guest) (v:={zb3 c with az:=zeZ _ _ _}) (zox _ _ _) ⟨d,p,f,g⟩))
  (λ_=>zbG (aT .guest) (v:=zb3 c) (zD _ _) ⟨d,e,f,g⟩)))))))))))
 exact z8y h (zD _ _) (m:=39) (q:=3) (x:=1) (by omega) (by omega) (by omega) (l0:=(zb3 c).aC) (by unfold ln;omega) ((λ_ t=>(t.1,t.2.1,0,0,0,0,false,0,0,0,false,0,false,(zb3 c).A,(zb3 c).Pc,(zb3 c).Ctl.aq,(zb3 c).Ctl.Post,(zb3 c).Ctl.Open,(zb3 c).ak,(zb3 c).Exit.Kind,(zb3 c).Exit.af,(zb3 c).Exit.Write,(zb3 c).Exit.N,(zb3 c).aF,c.b,[],[],[],[],(zb3 c).aw,(zb3 c).az,(zb3 c).av,t.2.2,())):Nat->Int×Int×LI->_)
  (λrec i k l=>⟨_,rfl,λu=>⟨⟨_,_,_⟩,_,rfl,⟨rfl,zD _ _⟩,⟨d,e,f,by unfold ln at u;dsimp only;omega⟩⟩⟩)
def z7r (b:List au)(e:au)(h:b.length<=1048576):(zpp b e).length<=6:=by have c:=(zys e h).2;unfold zpp;generalize ap (zcI b e.Tag e.af) [e]=l at c;cases a:igt (ln l) 6 with|false=>have:¬ ln l>6:=jX a;rw[cF];unfold ln at this;omega|true=>rw[cT,zxx (by unfold ln;omega) (by unfold ln;omega)];have:ln l>6:=qF a;simp only[dp,vJ];unfold ln at *;omega
def zrg (N:Nat)(c:Cur)  : OA :=
 (iter (σ:=(Int×Int×Int×lE×LI×Unit)) N (λl d=>let e:=d.2.2.2.2.1;let j:=(⟨e,d.2.1,d.2.2.1⟩:Cur);let a:=({ (zf j 9) with b:=e}:Cur);let g:=({ (zQ a 8) with b:=e}:Cur);let f:=({ (zgs g) with b:=e}:Cur);let k:=ap d.2.2.2.1 [zlG g,zlG f]; (oN (zB j 9)<|cond (ilt d.1<|zn j 9) (oN (zhq a)<|oN (zkU d.2.2.2.1<|zlG a)<|l (zO .i64 d.1 1,(zgs a).i,(zgs a).h,zlz d.2.2.2.1<|zlG a,e,()))<|oN (zcZ a 8)<|cond (zc7 a 8) (oN (zhq g)<|oN (zhq f)<|oN (few<|ln k)<|some [.agg [.s .u8 e,.i .i64 (zgs f).i,.i .i64 (zgs f).h],aS .entry k])<|some [.agg [.s .u8 e,.i .i64 (zQ a 8).i,.i .i64 (zQ a 8).h],aS .entry d.2.2.2.1])) (0,c.i,c.h,[],c.b,()))
def zKY:=zu [(70,0,{n:=26,tm:=[(0,.lp 0 0),(3,.sl 0 []),(4,ti)],lo:=[(0,[.sl 1 [],ti,ti])],ro:=[(0,.entry,true),(1,.u8,false)]})]
def zlF (c:Cur)(s:Cur)(a:List au):Prop:=(∃N,zrg N c=some (AV.agg (zbU s)::[aS .entry a]))/\(s.b=c.b/\0<=s.i)/\(a.length<=8)
def zjK (c:Cur)  : Bool:=wC (zlF c)
def zjL (c:Cur)  : Cur:=wS (zlF c)
def zqu (c:Cur)  : List au:=wV (zlF c)
def zzZ {c:Cur}(h:zjK c=true):zlF c (zjL c) (zqu c):=wG h
def zP8 (c:Cur)  : 0<=(zjL c).i:=wP λh=>h.2.1.2
def zP7 (c:Cur)(h:∃N,Ends (wE (λa=>aS .entry a) c.b λa=>a.length<=8)<|zrg N c):zjK c=true:=wI (λ_ _ h=>h) h
def ztk:zdU:=rP0 λc=>(zjK c,zjL c,[aS .entry<|zqu c])
def zDB:zbR Tryz.prog 70 [false,true,true] ztk:=hP0 zFJ zT zG2 zq zKY (λ_ h=>(zzZ h).1)
def zQ3 {c:Cur}(h:zbd c):zjK c=true:=by
 refine zP7 c ⟨1002,?_⟩;unfold zrg oN;conv=>zeta
 refine zlV (λn s=>∃t i k l,s=(((λ_ t=>(t.1,t.2.1,t.2.2.1,t.2.2.2,c.b,())):Nat->Int×Int×Int×List au->_) 0 (t,i,k,l))/\t+(n:Int)=10/\0<=t/\0<=i/\l.length<=6) ?_ 1002 10 _ ⟨0,c.i,c.h,[],rfl,rfl,kP 0,h.1,by simp⟩ (by omega);rintro n s rec ⟨t,i,k,l,rfl,p,g,j,r⟩ d;dsimp only;have a:zbd ⟨c.b,i,k⟩:=zbL h j;have v:=zfT a (n:=9) (by omega);have q:∀{s:Cur},0<=s.i->zbd {s with b:=c.b}:=λf=>zbL h f;refine zy (zbB a 9) (zbE (λe=>?_) λe=>?_);{have m:t<zn ⟨c.b,i,k⟩ 9:=qF e;have u:=zha (y:=1) g (by omega) (by omega) (by omega);exact zy (zLi<|q<|zD _ _) (zy (zbs (by omega))<|d (n-1) _ (by omega) ⟨zO .i64 t 1,_,_,_,rfl,by omega,by omega,ztH _,z7r _ _ (by omega)⟩)};{refine zy (ziI (q<|zD _ _) 8) (zbE (λ_=>zy (zLi<|q<|zch _ _) (zy (zLi<|q<|ztH _)<|zy (zks ?_)<|zbG (aS .entry) (ztH _) ?_)) λ_=>zbG (aS .entry) (zch _ _) (by omega));{simp only [ln,ap,kE,qZ,k7];omega};{simp only [ap,kE,qZ,k7];omega}}
def z5G:zcQ:=[(69,[false,true,true],zzn),(70,[false,true,true],ztk)]++z5F
def zTb:zb2 z5G:=zcp zG2 (by
 intro x a;simp only[qG,qO,or_false]at a;rcases a with rfl|rfl
 .exact zL4
 .exact zDB)
def zH8 (b:am)(a:GAct):am:=bif ieq a.Kind 1 then zh0 b a.G else (cond (ieq a.Kind 2) (chg b a.G (zvS a.X ⟨a.Y,a.Z⟩)<|zCh (gAt b a.G) a.X ⟨a.Y,a.Z⟩)<|cond (ieq a.Kind 3) (chg b a.G (i0 a.X 4)<|zd5 (gAt b a.G) a.X)<|cond (ieq a.Kind 4) (chg b a.G (zvv (gAt b a.G) a.X)<|zxJ (gAt b a.G) a.X)<|cond (ieq a.Kind 5) (chg b a.G (zBR<|gAt b a.G)<|zyt<|gAt b a.G)<|cond (ieq a.Kind 6) (chg b a.G (zhi (gAt b a.G).ak a.X)<|znJ (gAt b a.G) a.X)<|cond (ieq a.Kind 7) (chg b a.G (zld ⟨a.X,a.Y,ieq a.Z 1⟩)<|zLd (gAt b a.G) ⟨a.X,a.Y,ieq a.Z 1⟩)<|cond (ieq a.Kind 8) (zQB b a.X a.Y a.Z)<|cond (ieq a.Kind 9) (zka b a.X)<|cond (ieq a.Kind 10) (zmK b)<|cond (ieq a.Kind 11) (zXm b a.G a.X a.Y)<|b)
def zH9 (b:am)(a:GAct):aE:=bif ieq a.Kind 1 then ⟨zlb b a.G,0⟩ else (cond (ieq a.Kind 2) ⟨zcg b a.G<|zvS a.X ⟨a.Y,a.Z⟩,0⟩<|cond (ieq a.Kind 3) ⟨zcg b a.G<|i0 a.X 4,0⟩<|cond (ieq a.Kind 4) ⟨zcg b a.G<|zvv (gAt b a.G) a.X,0⟩<|cond (ieq a.Kind 5) ⟨zcg b a.G<|zBR<|gAt b a.G,0⟩<|cond (ieq a.Kind 6) ⟨zcg b a.G<|zhi (gAt b a.G).ak a.X,0⟩<|cond (ieq a.Kind 7) ⟨zcg b a.G<|zld ⟨a.X,a.Y,ieq a.Z 1⟩,0⟩<|cond (ieq a.Kind 8) ⟨zwH b a.X a.Y a.Z,0⟩<|cond (ieq a.Kind 9) ⟨zfI b a.X,0⟩<|cond (ieq a.Kind 10) ⟨zmq b,zsI b⟩<|cond (ieq a.Kind 11) ⟨zxY b a.G a.X a.Y,0⟩<|⟨znC b a.G a.X 1,zQF b a.G a.X⟩)
def zIa (l:List am)(a:GAct):List am:=bif zi a.Kind 1 17 then (cond (zi a.Kind 13 17) l<|cond (i0 a.M<|ln l) (up l a.M<|zH8 (ix l a.M zK5) a) l) else l
def zWX (l:List am)(a:GAct):aE:=bif zi a.Kind 1 17 then (cond (zi a.Kind 13 17) ⟨false,0⟩<|cond (i0 a.M<|ln l) (zH9 (ix l a.M zK5) a)<|cond (ieq a.Kind 10) ⟨false,-1⟩ ⟨false,0⟩) else ⟨false,0⟩
def zG {i n:Int}:i0 i n=true↔0<=i/\i<n:=by unfold i0;exact decide_eq_true_iff
def zcL {x a b:Int}:zi x a b=true↔a<=x/\x<=b:=by simp[zi,ige,ile]
def zbv {x y:Int}:ieq x y=true↔x=y:=by simp[ieq]
def zCP {x y:Int}:ine x y=true↔x≠y:=by simp[ine]
def zbY {x y:Int}:ieq x y=false↔x≠y:=by simp[ieq]
def zb9 {a b:Bool}:(cond a b false)=true↔a=true/\b=true:=by cases a<;>simp
def zbQ {a:Type}(l:List a)(i:Int)(x:a):(up l i x).length=l.length:=by simp[up]
def zdV {a:Type}(l:List a)(i:Int)(x:a):ln (up l i x)=ln l:=by simp[up,ln]
def zyf {a:Type}{l:List a}{i:Int}(h:i0 i (ln l)=true)(d:a):∃k:Nat,∃b:k<l.length,i=(k:Int)/\ix l i d=l[k]:=by rw[zG]at h;unfold ln at h;refine⟨i.toNat,by omega,by omega,?_⟩;simp[ix,List.getD,qB (show i.toNat<l.length by omega)]
def zlX {a:Type}{l:List a}{k:Nat}(h:k<l.length)(d:a):ix l (k:Int) d=l[k]:=by simp[ix,List.getD,qB h]
def zlk {a:Type}{l:List a}{i:Int}(h:i0 i (ln l)=true)(d:a):ix l i d∈l:=by obtain⟨k,b,_,e⟩:=zyf h d;rw[e];exact jK b
def zBI {a:Type}{l:List a}{x:a}(h:x∈l)(d:a):∃i,i0 i (ln l)=true/\ix l i d=x:=by obtain⟨k,b,e⟩:=List.mem_iff_getElem.1 h;exact⟨(k:Int),zG.2 (by unfold ln;omega),(zlX b d).trans e⟩
def zbf {a:Type}{l:List a}{i:Int}(h:i0 i (ln l)=true)(x d:a):ix (up l i x) i d=x:=by rw[zG]at h;unfold ln at h;simp[ix,up,List.getD,show i.toNat<l.length by omega]
def zbw {a:Type}{l:List a}{i j:Int}(b:0<=i)(c:0<=j)(h:i≠j)(x d:a):ix (up l i x) j d=ix l j d:=by have:i.toNat≠j.toNat:=(by omega);simp[ix,up,List.getD,jB,this]
def z1q {a:Type}(l:List a)(i:Int)(x y:a):up (up l i x) i y=up l i y:=by simp[up]
def zMQ {a:Type}{l m:List a}(d:a)(h:l.length=m.length)(e:∀i,i0 i (ln l)=true->ix l i d=ix m i d):l=m:=by refine List.ext_getElem h λk b c=>?_;have:=e (k:Int) (zG.2 (by unfold ln;omega));rwa [zlX b,zlX c] at this
def zHo {a:Type}{l:List a}{i:Int}(h:i0 i (ln l)=true)(d:a):up l i (ix l i d)=l:=by obtain⟨k,b,rfl,e⟩:=zyf h d;rw[e];simp[up]
def cPg (x:Mon)(q:Int):Nat:=x.ae.countP λs=>ieq s.af q
def zfc (l:List Mon)(q:Int):Nat:=(l.map λx=>cPg x q).sum
def zN1 {a:Type}(P:a->Bool){l:List a}{i:Int}(h:i0 i (ln l)=true)(x d:a):(up l i x).countP P+(if P (ix l i d) then 1 else 0)=l.countP P+(if P x then 1 else 0):=by
 obtain⟨k,b,rfl,e⟩:=zyf h d;rw[e];simp only[up,kH,List.countP_set b];have:(if P l[k]=true then 1 else 0)<=l.countP P:=by
  split
  .rename_i hp;exact List.countP_pos_iff.2 ⟨l[k],jK b,hp⟩
  .omega
 omega
def zxq {l:List Mon}{m:Int}(h:i0 m (ln l)=true)(x:Mon)(q:Int):zfc (up l m x) q+cPg (ix l m mZ) q=zfc l q+cPg x q:=by obtain⟨k,a,rfl,e⟩:=zyf h mZ;rw[e];clear h e;unfold up;simp only[kH];induction l generalizing k with|nil=>simp at a|cons y l b=>(cases k with|zero=>simp[zfc];omega|succ k=>have:=b k (by simpa using a);simp[zfc] at this ⊢;omega)
def zFC {l:List Mon}{m p:Int}(a:i0 m (ln l)=true)(b:i0 p (ln (ix l m mZ).ae)=true):1<=zfc l (ix (ix l m mZ).ae p sZ).af:=by have d:1<=cPg (ix l m mZ) (ix (ix l m mZ).ae p sZ).af:=List.countP_pos_iff.2 ⟨_,zlk b sZ,by simp[ieq]⟩;have:=zxq a (⟨[],[],[],[],[],0,0,[],0⟩:Mon) (ix (ix l m mZ).ae p sZ).af;have c:cPg (⟨[],[],[],[],[],0,0,[],0⟩:Mon) (ix (ix l m mZ).ae p sZ).af=0:=rfl;omega
def z1D {l:List Mon}{m p n k:Int}{q:Int}(b:i0 m (ln l)=true)(v:i0 p (ln (ix l m mZ).ae)=true)(u:i0 n (ln l)=true)(f:i0 k (ln (ix l n mZ).ae)=true)(z:(ix (ix l m mZ).ae p sZ).af=q)(t:(ix (ix l n mZ).ae k sZ).af=q)(h:zfc l q<=1):m=n/\p=k:=by have c:=zG.1 b;have d:=zG.1 u;have i:=zG.1 v;have g:=zG.1 f;have B:¬ ieq q (q+1)=true:=(by simp[ieq];omega);obtain⟨y,r⟩:∃y:Mon,y.ae=up (ix l m mZ).ae p ⟨q+1,0⟩:=⟨{ix l m mZ with ae:=up (ix l m mZ).ae p ⟨q+1,0⟩},rfl⟩;have x:=zN1 (λs=>ieq s.af q) v (⟨q+1,0⟩:k0) sZ;simp only[z,show ieq q q=true by simp[ieq],show ieq (q+1) q=false by simp[ieq];omega,if_true,kF,if_false] at x;have C:=zxq b y q;simp only[cPg,r] at C;have D:zfc (up l m y) q=0:=(by omega);apply Classical.byContradiction;intro A;have w:1<=zfc (up l m y) q:=(by by_cases a:m=n;{subst a;have j:p≠k:=λe=>A ⟨rfl,e⟩;have:=zFC (l:=up l m y) (m:=m) (p:=k) (by rw[zdV];exact b) (by rw[zbf b,r,zdV];exact f);rw[zbf b,r,zbw i.1 g.1 j,t] at this;exact this};{have:=zFC (l:=up l m y) (m:=n) (p:=k) (by rw[zdV];exact u) (by rw[zbw c.1 d.1 a];exact f);rw[zbw c.1 d.1 a,t] at this;exact this});omega
def zsK {a b c:Bool}:(cond a b c)=true↔(a=true/\b=true)\/(a=false/\c=true):=by cases a<;>simp
def SOk (s:k0):Prop:=s=z0\/(0<=s.af/\s.af<=11/\1<=s.ai/\s.ai<=3)
def zTG {a b:k0}(c:a.af=b.af)(d:a.ai=b.ai):a=b:=by cases a;cases b;simp_all
def zoU {a b:k0}:zc1 a b=true↔a=b:=by simp only[zc1,qE,zbv];exact⟨λh=>zTG h.1 h.2,λh=>by rw[h];exact⟨rfl,rfl⟩⟩
def zrb {a b:k0}:zc1 a b=false↔a≠b:=by rw[<- Bool.not_eq_true,zoU]
def zWw {s:k0}:zdX s 12=true↔SOk s:=by unfold zdX SOk;rw[zsK,zoU,zrb];have:wsub .i64 12 1=11:=(by decide);simp only[this,zsK,zcL];simp[igt];constructor;{rintro (h|⟨h,⟨a,b⟩,c⟩);{exact .inl h};{exact .inr ⟨a,b,c⟩}};{intro h;by_cases d:s=z0;{exact .inl d};{rcases h with h|⟨a,b,c⟩;{exact .inl h};{exact .inr ⟨d,⟨a,b⟩,c⟩}}}
def SOk.none {s:k0}(h:SOk s)(a:s.af = -1):s=z0:=by rcases h with h|h;{exact h};{omega}
def SOk.pos {s:k0}(h:SOk s)(a:s.af≠-1):0<=s.af/\s.af<=11/\1<=s.ai/\s.ai<=3:=by rcases h with h|h;{rw [h]at a;exact absurd rfl a};{exact h}
structure MOk (x:Mon):Prop where
 g1:1<=x.ad.length
 g2:x.ad.length<=2
 gt:x.aj.length=x.ad.length
 o8:x.ae.length=8
 sl:∀s∈x.ae,SOk s
 u8:x.Out.length=8
 d8:x.ar.length=8
 outs:x.Outs.length<=40
 pend:zdH x.ak=true
 tr:zi x.aq 0 3=true
 own:zi x.Own 0 1000000000=true
 gs:∀g∈x.ad,zdY g=true
 fit:∀p,i0 p 8=true->zlo (ix x.ae p sZ) (ix x.Out p [])=true
def zQV {P:Nat->Bool}:∀{n i:Nat},znu P n i=true↔∀j,i<=j->j<i+n->P j=true
 | 0,i=>by simp[znu];intro j a b;omega
 |n+1,i=>by rw[znu,qE,zQV];constructor;{rintro⟨a,b⟩ j c d;by_cases e:j=i;{rw [e];exact a};{exact b j (by omega) (by omega)}};{intro h;exact⟨h i (by omega) (by omega),λj a b=>h j (by omega) (by omega)⟩}
def zqI {t:List k0}{n p:Int}:zc4 t n p=true↔(∀s∈t,zdX s p=true)/\ln t=n:=by unfold zc4;rw[zb9,qM,zbv]
def z6X {x:Mon}:zez x=true↔MOk x:=by unfold zez;simp only[zb9,zcL,zbv,zqI,zQV,qM,ile,q0];constructor;{rintro⟨⟨g,i⟩,m,⟨k,l⟩,n,q,r,e,a,b,c,d⟩;unfold ln at *;refine⟨by omega,by omega,by omega,by omega,λs f=>zWw.1 (k s f),by omega,by omega,by omega,e,zcL.2 a,zcL.2 b,c,λp t=>?_⟩;have u:=zG.1 t;have:=d p.toNat (by omega) (by omega);unfold fits at this;rwa [show ((p.toNat:Nat):Int)=p by omega] at this};{intro h;obtain⟨g,i,m,k,l,n,q,r,e,a,b,c,d⟩:=h;unfold ln;exact⟨⟨by omega,by omega⟩,by omega,⟨λs f=>zWw.2 (l s f),by omega⟩,by omega,by omega,by omega,e,zcL.1 a,zcL.1 b,c,λj g i=>d (j:Int) (zG.2 (by omega))⟩}
def zxN (o:List k0)(s:k0)(q:Int):(s::o).countP (λs=>ieq s.af q)=o.countP (λs=>ieq s.af q)+if s.af=q then 1 else 0:=by rw[vG];simp[ieq]
def zyP:∀{o:List k0} {u:List Bool},(∀s∈o,s.af<u.length)->
 (∀c,zgL o u=some c↔(∀q,0<=q->o.countP (λs=>ieq s.af q)+(if ix u q false then 1 else 0)<=1)/\
  c=(o.foldl (λu s=>bif ilt s.af 0 then u else up u s.af true) u))
 |[],u,h,c=>by simp[zgL];exact⟨λh=>⟨λq _=>by split<;>omega,h.symm⟩,λh=>h.2.symm⟩
 |s::o,u,h,c=>by
  unfold zgL;by_cases g:s.af<0;{have b:ilt s.af 0=true:=qK g;rw[b,cond_true,zyP λy d=>h y (qY _ d)];simp only[uL,b,cond_true];refine and_congr (forall_congr' λq=>forall_congr' λf=>?_) Iff.rfl;have e:(if s.af=q then 1 else 0)=0:=if_neg (by omega);rw[zxN,e,jY]};{have b:ilt s.af 0=false:=qQ g;have k:=h s jD;have j:i0 s.af (ln u)=true:=zG.2 ⟨by omega,by unfold ln;omega⟩;rw[b,cond_false];cases i:ix u s.af false with|true=>rw[cond_true];constructor;{intro h;cases h};{rintro⟨h,_⟩;have:=h s.af (by omega);rw[zxN,if_pos rfl,i] at this;simp at this}|false=>rw[cond_false,zyP (λy d=>by rw[zbQ];exact h y (qY _ d))];simp only[uL,b,cond_false];refine and_congr (forall_congr' λq=>forall_congr' λf=>?_) Iff.rfl;rw[zxN];by_cases a:s.af=q;{subst a;rw[zbf j,i];simp};{rw [zbw (by omega) f a,if_neg a,jY]}}
def zHp:∀(o:List k0) (u:List Bool),(o.foldl (λu s=>bif ilt s.af 0 then u else up u s.af true) u).length=u.length
 |[],u=>rfl
 |s::o,u=>by rw[uL,zHp];cases ilt s.af 0<;>simp [zbQ]
def zNw:∀(o:List k0) (u:List Bool) (q:Int),0<=q->(∀s∈o,s.af<u.length)->(ix (o.foldl (λu s=>bif ilt s.af 0 then u else up u s.af true) u) q false=true↔ix u q false=true\/1<=o.countP λs=>ieq s.af q)
 |[],u,q,b,h=>by simp
 |s::o,u,q,b,h=>by
  rw[uL,zNw _ _ q b (λy f=>by have:=h y (qY _ f);cases ilt s.af 0<;>simpa [zbQ] using this),zxN];by_cases c:s.af<0;{rw [show ilt s.af 0=true from qK c,cond_true,if_neg (by omega),jY]};{rw [show ilt s.af 0=false from qQ c,cond_false];have e:=h s jD;have d:i0 s.af (ln u)=true:=zG.2 ⟨by omega,by unfold ln;omega⟩;by_cases a:s.af=q;{subst a;rw[zbf d];simp};{rw [zbw (by omega) b a,if_neg a,jY]}}
def zya:∀{l:List Mon} {u:List Bool},u.length=12->(zix l u=true↔(∀x∈l,MOk x)/\∀q,0<=q->zfc l q+(if l≠[]/\ix u q false then 1 else 0)<=1)
 |[],u,c=>by simp[zix,zfc]
 |x::l,u,c=>by
  unfold zix;rw[zb9,z6X];constructor;{rintro⟨f,b⟩;have k:∀s∈x.ae,s.af<u.length:=λs n=>(by rcases f.sl s n with h|h;{rw [h,c];decide};{rw [c];omega});split at b;{rename_i B d;obtain⟨g,rfl⟩:=(zyP k B).1 d;rw[zya (by rw[zHp,c])]at b;obtain⟨v,w⟩:=b;refine⟨by simpa using ⟨f,v⟩,λq a=>?_⟩;have z:=g q a;have i:=w q a;have m:=zNw x.ae u q a k;simp only[zfc,jC,uK]at i ⊢;unfold cPg at i ⊢;simp only[ne_eq,reduceCtorEq,not_false_eq_true,true_and];by_cases r:l=[];{subst r;simpa using z};{simp only [r,ne_eq,not_false_eq_true,true_and]at i;by_cases j:ix (x.ae.foldl (λu s=>bif ilt s.af 0 then u else up u s.af true) u) q false=true;{rw [if_pos j]at i;omega};{rw [if_neg j]at i;have p:¬ (ix u q false=true\/1<=x.ae.countP λs=>ieq s.af q):=λe=>j (m.2 e);rw[not_or]at p;rw[if_neg p.1];omega}}};{cases b}}
  .rintro⟨f,b⟩;have t:MOk x:=f x jD;refine⟨t,?_⟩;have k:∀s∈x.ae,s.af<u.length:=λs n=>by rcases t.sl s n with h|h;{rw [h,c];decide};{rw [c];omega}
   have d:=(zyP k _).2 ⟨λq a=>by
    have:=b q a;simp only[zfc,jC,uK,ne_eq,reduceCtorEq,not_false_eq_true,true_and] at this;unfold cPg at this;omega,rfl⟩
   rw[d];simp only;rw[zya (by rw[zHp,c])];refine⟨λy A=>f y (qY _ A),λq a=>?_⟩;have g:=b q a;have m:=zNw x.ae u q a k;simp only[zfc,jC,uK,ne_eq,reduceCtorEq,not_false_eq_true,true_and]at g ⊢;unfold cPg at g ⊢;split;{rename_i j;rcases m.1 j.2 with h|h;{rw [if_pos h]at g;omega};{omega}};{omega}
structure HOk (h:ac):Prop where
 m12:h.ag.length=12
 pgs:∀c∈h.ag,zcq c=true
 n1:1<=h.aa.length
 n3:h.aa.length<=3
 b1:zfp h.ao=true
 b2:zfp h.an=true
 mons:∀x∈h.aa,MOk x
 uq:∀q,0<=q->zfc h.aa q<=1
def zgv {h:ac}:zb5 h=true↔HOk h:=by unfold zb5 zhO;simp only[zb9,zcL,zbv,qM];rw[zya (by simp[rp])];have g:∀q,ix (rp 12 false) q false=false:=λq=>(by unfold ix rp;rw[kA,kG];split<;>rfl);simp only[g,kF,and_false,if_false,jY];unfold ln;constructor;{rintro⟨⟨e,f⟩,⟨i,j⟩,a,b,c,d⟩;exact⟨by omega,e,by omega,by omega,a,b,c,d⟩};{rintro⟨e,f,i,j,a,b,c,d⟩;exact⟨⟨f,by omega⟩,⟨by omega,by omega⟩,a,b,c,d⟩}
def HOk.mon {h:ac}(H:HOk h){m:Int}(a:i0 m (ln h.aa)=true):MOk (ix h.aa m mZ):=H.mons _ (zlk a _)
def MOk.hasO {x:Mon}(H:MOk x){p:Int}(a:i0 p 8=true):i0 p (ln x.ae)=true:=by rw[ln,H.o8];exact a
def MOk.hasU {x:Mon}(H:MOk x){p:Int}(a:i0 p 8=true):i0 p (ln x.Out)=true:=by rw[ln,H.u8];exact a
def MOk.hasD {x:Mon}(H:MOk x){p:Int}(a:i0 p 8=true):i0 p (ln x.ar)=true:=by rw[ln,H.d8];exact a
def MOk.slot {x:Mon}(H:MOk x){p:Int}(a:i0 p 8=true):SOk (ix x.ae p sZ):=H.sl _ (zlk (H.hasO a) _)
def HOk.uniq {h:ac}(H:HOk h){m p n k q:Int}(a:i0 m (ln h.aa)=true)(f:i0 p 8=true)(b:i0 n (ln h.aa)=true)(e:i0 k 8=true)(c:(ix (ix h.aa m mZ).ae p sZ).af=q)(d:(ix (ix h.aa n mZ).ae k sZ).af=q)(g:0<=q):m=n/\p=k :=
 z1D a ((H.mon a).hasO f) b ((H.mon b).hasO e) c d (H.uq q g)
def HOk.up {h:ac}(H:HOk h){m:Int}(k:i0 m (ln h.aa)=true){x:Mon}(l:MOk x){a:ac}(e:a.aa=up h.aa m x)(d:a.ag.length=12)(f:∀c∈a.ag,zcq c=true)(i:zfp a.ao=true)(j:zfp a.an=true)(n:∀q,0<=q->cPg x q<=cPg (ix h.aa m mZ) q\/zfc h.aa q=0/\cPg x q<=1):HOk a:=by refine⟨d,f,by rw[e,zbQ];exact H.n1,by rw[e,zbQ];exact H.n3,i,j,λy b=>?_,λq g=>?_⟩;{rw [e]at b;unfold E.up at b;rcases qX b with h|h;{exact H.mons y h};{rw [h];exact l}};{rw [e];have p:=zxq k x q;have r:=H.uq q g;have s:=n q g;omega}
structure KOk (k:ax) (inner outer:List k0):Prop where
 l1:k.ay.length=inner.length
 l2:k.aA.length=inner.length
 at':∀i,i0 i (ln inner)=true->ix k.aA i sZ=bif ix k.ay i false then zby (ix inner i sZ) outer else z0
def TOk (x:Mon):Prop:=∀g,i0 g (ln x.ad)=true->KOk (ix x.aj g kZ) (ix x.ad g gZ).av x.ae
structure Rt (h:ac):Prop where
 t:∀m,i0 m (ln h.aa)=true->TOk (ix h.aa m mZ)
 e1:∀e∈h.ao,zc5 h e=true
 e2:∀e∈h.an,zc5 h e=true
structure Safe (h:ac):Prop where
 ok:HOk h
 rt:Rt h
def zqL {a b:k0}:below' a b=true↔a=z0\/(a.af=b.af/\enough b.ai a.ai=true):=by unfold below';rw[zsK,zoU,zrb,zb9,zbv];by_cases h:a=z0<;>simp [h]
def z1r (x:Int):wand .i64 0 x=0:=by unfold wand;have:(BitVec.ofInt 64 0 &&& BitVec.ofInt 64 x)=0#64:=(by rw[show BitVec.ofInt 64 0=0#64 from rfl,BitVec.zero_and]);show IntKind.wrap .i64 ((BitVec.ofInt 64 0 &&& BitVec.ofInt 64 x).toNat:Int)=0;rw[this];rfl
def z1C {a:k0}(h:below' a z0=true):a=z0:=by rcases zqL.1 h with h|⟨c,b⟩;{exact h};{refine zTG c ?_;unfold enough at b;rw[show z0.ai=0 from rfl,z1r]at b;simp only[zb9,zbv]at b;exact b.2.2.symm}
def zfK {h:ac}{e:au}:zc5 h e=true↔i0 (zdI e.Tag) (ln h.aa)=true/\i0 (zep e.Tag) (ln (ix h.aa (zdI e.Tag) mZ).ad)=true/\
 below' ⟨e.ac,e.ai⟩ (zby (zbC (ix (ix h.aa (zdI e.Tag) mZ).ad (zep e.Tag) gZ).av e.af) (ix h.aa (zdI e.Tag) mZ).ae)=true:=by
 unfold zc5;rw[zb9,zb9]
def zOP {o:List k0}{p q:Int}{s:k0}(a:0<=p)(h:q≠p):zbC (up o p s) q=zbC o q:=by unfold zbC;rw[zdV];cases b:i0 q (ln o) with|false=>rfl|true=>rw[cond_true,cond_true,zbw a (zG.1 b).1<|Ne.symm h]
def zIk {s:k0}{o:List k0}{p:Int}{t:k0}(a:0<=p)(h:s.af≠p):zby s (up o p t)=zby s o:=by unfold zby;rw[zOP a h]
def zW2 {s:k0}{o:List k0}:zby s o=z0\/(zby s o).af=(zbC o s.af).af:=by unfold zby;cases ieq s.af (-1)<;>cases ieq (zbC o s.af).af (-1)<;>cases ieq (zeg s.ai (zbC o s.af).ai) 0<;>simp
def zkt (k:ax)(q:Int):(zbW k q).ay.length=k.ay.length/\(zbW k q).aA.length=k.aA.length:=by unfold zbW;cases zdP k q<;>simp [zbQ]
def zzc:∀(l:LI) (k:ax),(zeH k l).ay.length=k.ay.length/\(zeH k l).aA.length=k.aA.length
 |[],k=>⟨rfl,rfl⟩
 |q::l,k=>by have a:=zzc l (zbW k q);have b:=zkt k q;exact⟨a.1.trans b.1,a.2.trans b.2⟩
def zvA {k:ax}{q i:Int}(d:k.ay.length=k.aA.length)(b:i0 i (ln k.ay)=true) :
 ix (zbW k q).ay i false=(cond (ieq q i) false<|ix k.ay i false)/\ix (zbW k q).aA i sZ=(cond (ieq q i) z0<|ix k.aA i sZ):=by
 have c:i0 i (ln k.aA)=true:=by unfold ln at b ⊢;rwa [<- d]
 unfold zbW zdP
 by_cases e:q=i
 .subst e;simp only[b,c,cond_true,ieq,beq_self_eq_true];exact⟨zbf b _ _,zbf c _ _⟩
 .rw [show ieq q i=false from zbY.2 e]
  by_cases a:i0 q (ln k.ay)=true
  .have hq':i0 q (ln k.aA)=true:=by unfold ln at a ⊢;rwa [<- d]
   simp only[a,hq',cond_true,cond_false];exact⟨zbw (zG.1 a).1 (zG.1 b).1 e _ _,zbw (zG.1 a).1 (zG.1 b).1 e _ _⟩
  .rw [Bool.not_eq_true]at a;simp[a]
def zBb:∀(l:LI) {k:ax} {i:Int},k.ay.length=k.aA.length->i0 i (ln k.ay)=true->
 (i∈l->ix (zeH k l).ay i false=false/\ix (zeH k l).aA i sZ=z0)/\
 (i∉l->ix (zeH k l).ay i false=ix k.ay i false/\ix (zeH k l).aA i sZ=ix k.aA i sZ)
 |[],k,i,d,c=>⟨λh=>by simp at h,λ_=>⟨rfl,rfl⟩⟩
 |q::l,k,i,d,c=>by have b:=zkt k q;have g:=zvA (q:=q) d c;have f:=zBb l (k:=zbW k q) (i:=i) (by rw[b.1,b.2,d]) (by unfold ln at c ⊢;rwa [b.1]);show (_->ix (zeH (zbW k q) l).ay i false=_/\ix (zeH (zbW k q) l).aA i sZ=_)/\(_->ix (zeH (zbW k q) l).ay i false=_/\ix (zeH (zbW k q) l).aA i sZ=_);by_cases a:i∈l;{refine⟨λ_=>f.1 a,λh=>absurd (qY _ a) h⟩};{rw [(f.2 a).1,(f.2 a).2,g.1,g.2];by_cases e:q=i;{subst e;simp[ieq]};{rw [zbY.2 e];simp[a,Ne.symm e]}}
def zGC {e:Type}{P:e->Bool}{d:e}:∀{l:List e} {n:Nat} {i:Int},i∈idxs P l n↔∃k:Nat,∃h:k<l.length,i=((n+k:Nat):Int)/\P l[k]=true
 |[],n,i=>by simp[idxs]
 |x::l,n,i=>by
  have g:=@zGC e P d l (n+1) i;unfold idxs;constructor
  .intro h;cases f:P x with
   |true=>rw[f,cond_true,qG]at h;rcases h with h|h;{exact⟨0,by simp,by simpa using h,f⟩};{obtain⟨k,c,b,a⟩:=g.1 h;exact⟨k+1,by simpa using c,by rw[b];congr 1;omega,by simpa using a⟩}
   |false=>rw[f,cond_false]at h;obtain⟨k,c,b,a⟩:=g.1 h;exact⟨k+1,by simpa using c,by rw[b];congr 1;omega,by simpa using a⟩
  {rintro⟨k,c,b,a⟩;cases k with|zero=>simp only[List.getElem_cons_zero]at a;rw[a,cond_true,b];exact jD|succ k=>have:=g.2 ⟨k,by simpa using c,by rw[b];congr 1;omega,by simpa using a⟩;cases P x;{exact this};{exact qY _ this}}
def zUn {l:List k0}{p i:Int}:i∈zCt l p↔i0 i (ln l)=true/\(ix l i sZ).af=p:=by unfold zCt;rw[zGC (d:=sZ)];constructor;{rintro⟨k,a,rfl,c⟩;rw[j5,zlX a];exact⟨zG.2 (by unfold ln;omega),zbv.1 c⟩};{rintro⟨a,b⟩;obtain⟨k,f,rfl,e⟩:=zyf a sZ;exact⟨k,f,by simp,by rw[e]at b;exact zbv.2 b⟩}
def zXH {k:ax}{a b:List k0}(h:KOk k a b){p:Int}(j:0<=p)(s:k0):KOk (zi7 k a p) a (up b p s):=by have g:=zzc (zCt a p) k;refine⟨g.1.trans h.l1,g.2.trans h.l2,λi d=>?_⟩;have e:i0 i (ln k.ay)=true:=(by unfold ln at d ⊢;rwa [h.l1]);have f:=zBb (zCt a p) (by rw[h.l1,h.l2]) e;unfold zi7;by_cases c:(ix a i sZ).af=p;{have:=f.1 (zUn.2 ⟨d,c⟩);rw[this.1,this.2];rfl};{have:=f.2 (λh=>c (zUn.1 h).2);rw[this.1,this.2,h.at' i d,zIk j c]}
def zCo (b:List ah)(p:Int):∀(n:Nat) (a:List ax),(zk7 b p n a).length=a.length
 | 0,a=>rfl
 |n+1,a=>by rw[zk7,zbQ,zCo b p n]
def zNb (b:List ah)(p:Int):∀(n:Nat) (a:List ax),n<=a.length->∀i,0<=i->ix (zk7 b p n a) i kZ=if i<n then zi7 (ix a i kZ) (ix b i gZ).av p else ix a i kZ
 | 0,a,_,i,c=>by rw[if_neg (by omega)];rfl
 |n+1,a,d,i,c=>by rw[zk7];by_cases e:i=n;{subst e;rw[zbf (by rw[ln,zCo];exact zG.2 (by omega)),if_pos (by omega),zNb b p n a (by omega) _ c,if_neg (by omega)]};{rw [zbw (by omega) c<|Ne.symm e,zNb b p n a (by omega) i c];by_cases h:i<n;{rw [if_pos h,if_pos (by omega)]};{rw [if_neg h,if_neg (by omega)]}}
def zju (x:Mon)(p:Int)(s:k0):Mon:={zj6 x p x.aj.length with ae:=up x.ae p s}
def z09 {x:Mon}(h:TOk x)(c:x.aj.length=x.ad.length){p:Int}(b:0<=p)(s:k0):TOk (zju x p s):=by intro g hg;have a:i0 g (ln x.ad)=true:=hg;show KOk (ix (zk7 x.ad p x.aj.length x.aj) g kZ) (ix x.ad g gZ).av (up x.ae p s);rw[zNb _ _ _ _ (qV _) _ (zG.1 a).1,if_pos (by have:=zG.1 a;unfold ln at this;omega)];exact zXH (h g a) b s
def zrP (h:ac)(m p:Int)(s:k0):(zcn h m p s).aa=up h.aa m (zju (ix h.aa m mZ) p s):=by unfold zcn;cases ine (ix (ix h.aa m zk).ae p zY).af (-1)<;>rfl
def zvU (h:ac)(m p:Int)(s:k0):(zcn h m p s).ag=h.ag:=by unfold zcn;cases ine (ix (ix h.aa m zk).ae p zY).af (-1)<;>rfl
def zOR (h:ac)(m p:Int)(s:k0):(zcn h m p s).ao=(cond (ieq (ix (ix h.aa m mZ).ae p sZ).af<|-1) h.ao<|flushed h.ao (ix (ix h.aa m mZ).ae p sZ).af)/\
 (zcn h m p s).an=(cond (ieq (ix (ix h.aa m mZ).ae p sZ).af<|-1) h.an<|flushed h.an (ix (ix h.aa m mZ).ae p sZ).af):=by
 unfold zcn
 by_cases e:(ix (ix h.aa m zk).ae p zY).af = -1
 .rw [show ine (ix (ix h.aa m zk).ae p zY).af (-1)=false by simp[ine,e],show ieq (ix (ix h.aa m mZ).ae p sZ).af (-1)=true from zbv.2 e]
  exact⟨rfl,rfl⟩
 .rw [show ine (ix (ix h.aa m zk).ae p zY).af (-1)=true from zCP.2 e,show ieq (ix (ix h.aa m mZ).ae p sZ).af (-1)=false from zbY.2 e]
  exact⟨rfl,rfl⟩
def zIq {h k:ac}{m p:Int}{s:k0}(n:i0 m (ln h.aa)=true)(q:i0 p (ln (ix h.aa m mZ).ae)=true){x:Mon}(u:k.aa=up h.aa m x)(t:x.ad=(ix h.aa m mZ).ad)(v:x.ae=up (ix h.aa m mZ).ae p s){e:au}(w:zc5 h e=true)(c:(ix (ix h.aa m mZ).ae p sZ).af = -1\/e.ac≠(ix (ix h.aa m mZ).ae p sZ).af):zc5 k e=true:=by obtain⟨f,g,b⟩:=zfK.1 w;rw[zfK,u,zdV];refine⟨f,?_⟩;by_cases l:m=zdI e.Tag;{rw [<- l]at f g b ⊢;rw[zbf n,t,v];refine⟨g,?_⟩;by_cases j:(zbC (ix (ix h.aa m mZ).ad (zep e.Tag) gZ).av e.af).af=p;{have a:zby (zbC (ix (ix h.aa m mZ).ad (zep e.Tag) gZ).av e.af) (ix h.aa m mZ).ae=z0\/e.ac≠(zby (zbC (ix (ix h.aa m mZ).ad (zep e.Tag) gZ).av e.af) (ix h.aa m mZ).ae).af:=(by rcases zW2 (s:=zbC (ix (ix h.aa m mZ).ad (zep e.Tag) gZ).av e.af) (o:=(ix h.aa m mZ).ae) with d|d;{exact .inl d};{rw [j]at d;have r:zbC (ix h.aa m mZ).ae p=ix (ix h.aa m mZ).ae p sZ:=(by unfold zbC;rw[q];rfl);rw[r]at d;rcases c with c|c;{left;unfold zby;rw[j,r,c,show ieq (-1) (-1)=true from rfl];cases ieq p (-1)<;>rfl};{exact .inr (by rw[d];exact c)}});have i:(⟨e.ac,e.ai⟩:k0)=z0:=(by rcases a with a|a;{rw [a]at b;exact z1C b};{rcases zqL.1 b with h|h;{exact h};{exact absurd h.1 a}});rw[i];exact zqL.2 (.inl rfl)};{rw [zIk (zG.1 q).1 j];exact b}};{rw [zbw (zG.1 n).1 (zG.1 f).1 l];exact⟨g,b⟩}
def zyu {h:ac}(H:Rt h){m p:Int}(d:i0 m (ln h.aa)=true)(q:i0 p (ln (ix h.aa m mZ).ae)=true)(u:(ix h.aa m mZ).aj.length=(ix h.aa m mZ).ad.length)(s:k0):Rt (zcn h m p s):=by have c:=zOR h m p s;have i:=zrP h m p s;have f:∀(b:List au),(∀e∈b,zc5 h e=true)->∀e∈(cond (ieq (ix (ix h.aa m mZ).ae p sZ).af<|-1) b<|flushed b (ix (ix h.aa m mZ).ae p sZ).af),zc5 (zcn h m p s) e=true:=(by intro b c e a;by_cases n:(ix (ix h.aa m mZ).ae p sZ).af = -1;{rw [zbv.2 n,cond_true]at a;exact zIq d q i rfl rfl (c e a) (.inl n)};{rw [zbY.2 n,cond_false]at a;obtain⟨j,l⟩:=List.mem_filter.1 a;exact zIq d q i rfl rfl (c e j) (.inr (by simpa [ieq] using l))});refine⟨λk g=>?_,λe a=>f _ H.e1 e (by rwa [c.1]at a),λe a=>f _ H.e2 e (by rwa [c.2]at a)⟩;rw[i]at g ⊢;rw[zdV]at g;by_cases r:m=k;{subst r;rw[zbf d];exact z09 (H.t m d) u (zG.1 q).1 s};{rw [zbw (zG.1 d).1 (zG.1 g).1 r];exact H.t k g}
def zNT:∀(l a:List au),allI (alone<|a++l) l a.length=true↔(∀x∈l,∀y∈a,sameKey x y=false)/\l.Pairwise (λy x=>sameKey x y=false)
 |[],a=>by simp[allI]
 |x::l,a=>by have g:=zNT l (a++[x]);rw[kB,List.singleton_append,kE,uD] at g;rw[allI,qE,g,List.pairwise_cons];have h:alone (a++x::l) a.length x=true↔∀y∈a,sameKey x y=false:=(by unfold alone;rw[kR rfl,qM];simp);rw[h];constructor;{rintro⟨d,e,f⟩;refine⟨λz c y b=>?_,λz c=>e z c x (by simp),f⟩;rcases qG.1 c with rfl|c;{exact d y b};{exact e z c y (by simp[b])}};{rintro⟨d,e,f⟩;refine⟨λy b=>d x (by simp) y b,λz c y b=>?_,f⟩;rcases jJ.1 b with b|b;{exact d z (by simp[c]) y b};{rw [qD.1 b];exact e z c}}
def zCA {l:List au}:zfp l=true↔l.Pairwise (λy x=>sameKey x y=false)/\l.length<=6:=by unfold zfp;have:=zNT l [];simp only[jT,k7] at this;have a:ile (ln l) 6=true↔l.length<=6:=(by rw[ile,q0,ln];omega);rw[zb9,this,a];simp
def zxM {l:List au}(h:zfp l=true)(P:au->Bool):zfp (l.filter P)=true:=by rw[zCA]at h ⊢;exact⟨h.1.sublist List.filter_sublist,qS (uE _ _) h.2⟩
def zEE {l:List au}(h:zfp l=true)(p:Int):zfp (flushed l p)=true:=zxM h _
def zQ4 {x x':Mon}{p:Int}(a:i0 p (ln x.ae)=true){s:k0}(h:x'.ae=up x.ae p s)(q:Int):cPg x' q+(if (ix x.ae p sZ).af=q then 1 else 0)=cPg x q+(if s.af=q then 1 else 0):=by have:=zN1 (λs=>ieq s.af q) a s sZ;simp only[zbv] at this;unfold cPg;rw[h];exact this
def zpd {s:k0}(d:SOk s){c:LI}:zlo s c=true↔(s.af = -1->zcq c=true)/\(s.af≠-1->enough s.ai 1=true/\c=[]):=by unfold zlo;by_cases e:s=z0;{rw [zoU.2 e,cond_true,e];simp[z0]};{rw [zrb.2 e,cond_false,zb9];have:s.af≠-1:=λh=>e (d.none h);have b:ile (ln c) 0=true↔c=[]:=(by rw[ile,q0,ln,<- uS];omega);rw[b];exact⟨λh=>⟨λa=>absurd a this,λ_=>h⟩,λh=>h.2 this⟩}
structure Chg (x x':Mon) (p:Int) (s:k0) (c:List Int):Prop where
 o:x'.ae=up x.ae p s
 u:x'.Out=up x.Out p c
 g:x'.ad=x.ad
 t:x'.aj.length=x.aj.length
 d:x'.ar.length=x.ar.length
 a1:x'.Outs=x.Outs
 a2:x'.ak=x.ak
 a3:x'.aq=x.aq
 a4:x'.Own=x.Own
def MOk.chg {x i:Mon}(H:MOk x){p:Int}(a:i0 p 8=true){s:k0}{c:LI}(k:Chg x i p s c)(l:SOk s)(j:zlo s c=true):MOk i:=by refine⟨by rw[k.g];exact H.g1,by rw[k.g];exact H.g2,by rw[k.t,k.g];exact H.gt,by rw[k.o,zbQ];exact H.o8,λy f=>?_,by rw[k.u,zbQ];exact H.u8,by rw[k.d];exact H.d8,by rw[k.a1];exact H.outs,by rw[k.a2];exact H.pend,by rw[k.a3];exact H.tr,by rw[k.a4];exact H.own,by rw[k.g];exact H.gs,λq b=>?_⟩;{rw [k.o]at f;rcases qX f with h|h;{exact H.sl y h};{rw [h];exact l}};{rw [k.o,k.u];by_cases e:p=q;{subst e;rw[zbf<|H.hasO a,zbf<|H.hasU a];exact j};{rw [zbw (zG.1 a).1 (zG.1 b).1 e,zbw (zG.1 a).1 (zG.1 b).1 e];exact H.fit q b}}
structure Like (h r:ac):Prop where
 len:r.aa.length=h.aa.length
 g:∀i,i0 i (ln h.aa)=true->(ix r.aa i mZ).ad=(ix h.aa i mZ).ad
 o:∀i,i0 i (ln h.aa)=true->(ix r.aa i mZ).Outs=(ix h.aa i mZ).Outs
 p:∀i,i0 i (ln h.aa)=true->(ix r.aa i mZ).ak=(ix h.aa i mZ).ak
 tr:∀i,i0 i (ln h.aa)=true->(ix r.aa i mZ).aq=(ix h.aa i mZ).aq
 ow:∀i,i0 i (ln h.aa)=true->(ix r.aa i mZ).Own=(ix h.aa i mZ).Own
 pg:∀i k,i0 i (ln h.aa)=true->i0 k 8=true->zcC r i k=zcC h i k
def Like.refl (h:ac):Like h h:=⟨rfl,λ_ _=>rfl,λ_ _=>rfl,λ_ _=>rfl,λ_ _=>rfl,λ_ _=>rfl,λ_ _ _ _=>rfl⟩
def Like.trans {a b c:ac}(x:Like a b)(y:Like b c):Like a c:=by have k:∀i,i0 i (ln a.aa)=true->i0 i (ln b.aa)=true:=λi e=>(by unfold ln at e ⊢;rwa [x.len]);exact⟨y.len.trans x.len,λi h=>(y.g i<|k i h).trans (x.g i h),λi h=>(y.o i<|k i h).trans (x.o i h),λi h=>(y.p i<|k i h).trans (x.p i h),λi h=>(y.tr i<|k i h).trans (x.tr i h),λi h=>(y.ow i<|k i h).trans (x.ow i h),λi q h d=>(y.pg i q (k i h) d).trans (x.pg i q h d)⟩
def Like.has {h r:ac}(k:Like h r){i:Int}:i0 i (ln r.aa)=i0 i (ln h.aa):=by unfold ln;rw[k.len]
def zp7 {h r:ac}{m:Int}:∀(n i:Nat),(∀k:Nat,i<=k->k<i+n->zcC r m (k:Int)=zcC h m (k:Int))->zcx r m n i=zcx h m n i
 | 0,i,_=>rfl
 |n+1,i,h=>by rw[zcx,zcx,h i (by omega) (by omega),zp7 n (i+1) λk a b=>h k (by omega) (by omega)]
def Like.seen {h r:ac}(k:Like h r)(m:Int):zK r m=zK h m:=by unfold zK;rw[k.has];cases a:i0 m (ln h.aa) with|false=>rfl|true=>simp only[cond_true];rw[k.g m a,k.o m a,k.p m a,zp7 8 0 λj b c=>k.pg m j a (zG.2 (by omega))]
def znf {h:ac}{m p:Int}(a:i0 m (ln h.aa)=true)(c:i0 p 8=true)(b:i0 p (ln (ix h.aa m mZ).ae)=true) :
 zcC h m p=bif ieq (ix (ix h.aa m mZ).ae p sZ).af (-1) then zcw (ix h.aa m mZ).Out p else zcw h.ag (ix (ix h.aa m mZ).ae p sZ).af:=by
 unfold zcC;have:zbC (ix h.aa m mZ).ae p=ix (ix h.aa m mZ).ae p sZ:=by unfold zbC;rw[b];rfl
 rw[a,c,cond_true,cond_true,this]
 by_cases e:(ix (ix h.aa m mZ).ae p sZ).af = -1
 .rw [zbv.2 e,show ine (ix (ix h.aa m mZ).ae p sZ).af (-1)=false by simp[ine,e]];rfl
 .rw [zbY.2 e,show ine (ix (ix h.aa m mZ).ae p sZ).af (-1)=true from zCP.2 e];rfl
def zkF {m:List LI}{p:Int}(h:i0 p (ln m)=true):zcw m p=ix m p []:=by unfold zcw;rw[h];rfl
def zOD {m:List LI}(h:∀c∈m,zcq c=true)(p:Int):zcq (zcw m p)=true:=by unfold zcw;cases a:i0 p (ln m) with|false=>rfl|true=>exact h _ (zlk a _)
def zve {h r:ac}(H:HOk h){m p:Int}(b:i0 m (ln h.aa)=true)(i:i0 p 8=true){x:Mon}{s:k0}{c:LI}(n:r.aa=up h.aa m x)(k:Chg (ix h.aa m mZ) x p s c)(u:SOk s)(t:zlo s c=true)(f:r.ag.length=12)(g:∀c∈r.ag,zcq c=true)(j:zfp r.ao=true)(l:zfp r.an=true)(v:0<=s.af->s.af=(ix (ix h.aa m mZ).ae p sZ).af\/zfc h.aa s.af=0):HOk r:=by refine H.up b ((H.mon b).chg i k u t) n f g j l λq z=>?_;have d:=zQ4 ((H.mon b).hasO i) k.o q;by_cases e:s.af=q;{have a:=v (by omega);rw[if_pos e]at d;rcases a with a|a;{rw [if_pos (by omega)]at d;left;omega};{right;rw[e] at a;refine⟨a,?_⟩;have:=zxq b x q;have y:cPg (ix h.aa m mZ) q<=zfc h.aa q:=(by have:=zxq b (⟨[],[],[],[],[],0,0,[],0⟩:Mon) q;have w:cPg (⟨[],[],[],[],[],0,0,[],0⟩:Mon) q=0:=rfl;omega);omega}};{rw [if_neg e]at d;left;split at d<;>omega}
def zux {h r:ac}(H:HOk h){m p:Int}(a:i0 m (ln h.aa)=true)(y:i0 p 8=true){x:Mon}{s:k0}{c:LI}(n:r.aa=up h.aa m x)(k:Chg (ix h.aa m mZ) x p s c)(B:(cond (ieq s.af<|-1) c<|zcw r.ag s.af)=zcC h m p)(f:∀i q,i0 i (ln h.aa)=true->i0 q 8=true->¬ (i=m/\q=p)->(ix (ix h.aa i mZ).ae q sZ).af≠-1->zcw r.ag (ix (ix h.aa i mZ).ae q sZ).af=zcw h.ag (ix (ix h.aa i mZ).ae q sZ).af):Like h r:=by have l:=(zG.1 a).1;have t:=(zG.1 y).1;have e:∀{C:Type} (F:Mon->C),F x=F (ix h.aa m mZ)->∀i,i0 i (ln h.aa)=true->F (ix r.aa i mZ)=F (ix h.aa i mZ):=(by intro C F D i d;rw[n];by_cases e:m=i;{subst e;rw[zbf a];exact D};{rw [zbw l (zG.1 d).1 e]});refine⟨by rw[n,zbQ],e Mon.ad k.g,e Mon.Outs k.a1,e Mon.ak k.a2,e Mon.aq k.a3,e Mon.Own k.a4,λi q d b=>?_⟩;have A:i0 i (ln r.aa)=true:=(by rw[n,zdV];exact d);have w:=(H.mon d).hasO b;have z:i0 q (ln (ix r.aa i mZ).ae)=true:=(by rw[n];by_cases e:m=i;{subst e;rw[zbf a,k.o,zdV];exact w};{rw [zbw l (zG.1 d).1 e];exact w});rw[znf A b z];by_cases e:m=i;{subst e;rw[n,zbf a,k.o,k.u];by_cases v:p=q;{subst v;rw[zbf<|(H.mon a).hasO y,<- B];cases ieq s.af (-1);{rfl};{rw [cond_true,cond_true,zkF (by rw[zdV];exact(H.mon a).hasU y),zbf<|(H.mon a).hasU y]}};{rw [zbw t (zG.1 b).1 v,znf a b w];by_cases j:(ix (ix h.aa m mZ).ae q sZ).af = -1;{rw [zbv.2 j,cond_true,cond_true,zkF (by rw[zdV];exact(H.mon a).hasU b),zkF<|(H.mon a).hasU b,zbw t (zG.1 b).1 v]};{rw [zbY.2 j,cond_false,cond_false,f m q a b (λh=>v h.2.symm) j]}}};{rw [n,zbw l (zG.1 d).1 e,znf d b w];by_cases j:(ix (ix h.aa i mZ).ae q sZ).af = -1;{rw [zbv.2 j,cond_true,cond_true]};{rw [zbY.2 j,cond_false,cond_false,f i q d b (λh=>e h.1.symm) j]}}
structure Op (h r:ac):Prop where
 ok:HOk r
 like:Like h r
 rt:Rt h->Rt r
def Op.refl {h:ac}(H:HOk h):Op h h:=⟨H,Like.refl h,id⟩
def Op.trans {a b c:ac}(x:Op a b)(y:Op b c):Op a c:=⟨y.ok,x.like.trans y.like,λh=>y.rt (x.rt h)⟩
def Op.safe {h r:ac}(k:Op h r)(s:Safe h):Safe r:=⟨k.ok,k.rt s.rt⟩
def zKe {h r:ac}(H:Rt h){m:Int}(l:i0 m (ln h.aa)=true){x:Mon}(u:r.aa=up h.aa m x)(q:r.ao=h.ao)(s:r.an=h.an)(y:x.ad.length=(ix h.aa m mZ).ad.length)(w:∀g,i0 g (ln (ix h.aa m mZ).ad)=true->(ix x.ad g gZ).av=(ix (ix h.aa m mZ).ad g gZ).av)(z:x.aj=(ix h.aa m mZ).aj)(v:x.ae=(ix h.aa m mZ).ae):Rt r:=by have d:=(zG.1 l).1;have hg:∀g,i0 g (ln x.ad)=i0 g (ln (ix h.aa m mZ).ad):=λg=>(by unfold ln;rw[y]);have f:∀e,zc5 h e=true->zc5 r e=true:=(by intro e c;obtain⟨n,i,p⟩:=zfK.1 c;rw[zfK,u,zdV];refine⟨n,?_⟩;by_cases b:m=zdI e.Tag;{rw [<- b]at n i p ⊢;rw[zbf l,hg,w _ i,v];exact⟨i,p⟩};{rw [zbw d (zG.1 n).1 b];exact⟨i,p⟩});refine⟨λk j=>?_,λe c=>f e (H.e1 e (by rwa [q]at c)),λe c=>f e (H.e2 e (by rwa [s]at c))⟩;rw[u]at j ⊢;rw[zdV]at j;by_cases b:m=k;{subst b;rw[zbf l];intro g a;rw[hg]at a;rw[z,w g a,v];exact H.t m l g a};{rw [zbw d (zG.1 j).1 b];exact H.t k j}
def zoV {h a:ac}{m p:Int}{s:k0}{x:Mon}(b:i0 m (ln h.aa)=true)(e:a.aa=up h.aa m x):(zcn a m p s).aa=up h.aa m (zju x p s):=by rw[zrP,e,zbf b,z1q]
def zAW {x a:Mon}{p:Int}{s:k0}{c:LI}(h:a.ae=x.ae)(j:a.Out=up x.Out p c)(hg:a.ad=x.ad)(i:a.aj=x.aj)(g:a.ar.length=x.ar.length)(b:a.Outs=x.Outs)(d:a.ak=x.ak)(e:a.aq=x.aq)(f:a.Own=x.Own):Chg x (zju a p s) p s c :=
 ⟨by show up a.ae p s=_;rw[h],j,hg,by show (zk7 a.ad p a.aj.length a.aj).length=_;rw[zCo,i],g,b,d,e,f⟩
def ztN {h:ac}{m p:Int}{s:k0}(a:zfp h.ao=true)(b:zfp h.an=true):zfp (zcn h m p s).ao=true/\zfp (zcn h m p s).an=true:=by have:=zOR h m p s;rw[this.1,this.2];cases ieq (ix (ix h.aa m mZ).ae p sZ).af (-1);{exact⟨zEE a _,zEE b _⟩};{exact⟨a,b⟩}
def z9Q {h:ac}(H:HOk h){s:k0}(b:SOk s)(a:s.af≠-1):i0 s.af (ln h.ag)=true:=by have:=b.pos a;exact zG.2 ⟨this.1,by unfold ln;rw[H.m12];omega⟩
def zWm {h:ac}(H:HOk h){m p:Int}(b:i0 m (ln h.aa)=true)(c:i0 p 8=true)(l:(ix (ix h.aa m mZ).ae p sZ).af≠-1):Op h (zdR h m p):=by
 have X:=H.mon b;have f:(zdR h m p).aa=up h.aa m (zju {ix h.aa m mZ with Out:=up (ix h.aa m mZ).Out p (zcw h.ag (ix (ix h.aa m mZ).ae p sZ).af)} p z0):=zoV b rfl;have k:Chg (ix h.aa m mZ) (zju {ix h.aa m mZ with Out:=up (ix h.aa m mZ).Out p (zcw h.ag (ix (ix h.aa m mZ).ae p sZ).af)} p z0) p z0 (zcw h.ag (ix (ix h.aa m mZ).ae p sZ).af):=zAW rfl rfl rfl rfl rfl rfl rfl rfl rfl;have a:(zdR h m p).ag=h.ag:=zvU _ _ _ _;have g:=ztN (h:=zeX h m p) (m:=m) (p:=p) (s:=z0) H.b1 H.b2;refine⟨zve H b c f k (.inl rfl) ((zpd (.inl rfl)).2 ⟨λ_=>zOD H.pgs _,λh=>absurd rfl h⟩) (by rw[a];exact H.m12) (by rw[a];exact H.pgs) g.1 g.2 λh=>absurd h (by decide),
  zux H b c f k ?_ (λi q _ _ _ _=>by rw[a]),λR=>?_⟩
 {rw [znf b c<|X.hasO c,zbY.2 l];rfl};{have j:Rt (zeX h m p):=zKe (x:={ix h.aa m mZ with Out:=up (ix h.aa m mZ).Out p (zcw h.ag (ix (ix h.aa m mZ).ae p sZ).af)}) R b rfl rfl rfl rfl (λ_ _=>rfl) rfl rfl;have d:i0 m (ln (zeX h m p).aa)=true:=(by show i0 m (ln<|up h.aa m _)=true;rw[zdV];exact b);have e:ix (zeX h m p).aa m mZ={ix h.aa m mZ with Out:=up (ix h.aa m mZ).Out p (zcw h.ag (ix (ix h.aa m mZ).ae p sZ).af)}:=zbf b _ _;exact zyu j d (by rw[e];exact X.hasO c) (by rw[e];exact X.gt) z0}
def zEK {o:List k0}{q:Int}:znF o q=none↔o.countP (λs=>ieq s.af q)=0:=by unfold znF;rw[List.findIdx?_eq_none_iff,vA];simp
def zUF {o:List k0}{q:Int}{k:Nat}(h:znF o q=some k):∃a:k<o.length,o[k].af=q:=by unfold znF at h;rw[uY]at h;obtain⟨a,b,_⟩:=h;exact⟨a,zbv.1 b⟩
def zyn {q:Int}:∀(l:List Mon) (i:Nat),((zhP q l i).1<0↔zfc l q=0)/\(¬ (zhP q l i).1<0->∃a b:Nat,∃f:a<l.length,∃g:b<l[a].ae.length,zhP q l i=(((i+a:Nat):Int),(b:Int))/\l[a].ae[b].af=q)
 |[],i=>⟨by simp[zhP,zfc],λh=>absurd (show (-1:Int)<0 by decide) h⟩
 |x::l,i=>by have j:=zyn (q:=q) l (i+1);unfold zhP;split;{rename_i k c;obtain⟨m,n⟩:=zUF c;refine⟨⟨λh=>by simp at h;omega,λh=>?_⟩,λ_=>⟨0,k,by simp,m,by simp,n⟩⟩;exfalso;simp only[zfc,jC,uK]at h;have d:x.ae.countP (λs=>ieq s.af q)=0:=(by unfold cPg at h;omega);rw[zEK.2 d]at c;cases c};{rename_i c;have d:=zEK.1 c;refine⟨?_,λh=>?_⟩;{rw [j.1];simp only[zfc,jC,uK];unfold cPg;omega};{obtain⟨a,b,f,g,e,p⟩:=j.2 h;exact⟨a+1,b,by simpa using f,by simpa using g,by rw[e];simp;omega,by simpa using p⟩}}
def zGT {h:ac}{q:Int}(a:0<=q):(zbK h q).1<0↔zfc h.aa q=0:=by unfold zbK;rw[show ilt q 0=false from qQ (by omega),cond_false];exact(zyn h.aa 0).1
def z2U {h:ac}(H:HOk h){q:Int}(j:0<=q)(c:¬ (zbK h q).1<0):i0 (zbK h q).1 (ln h.aa)=true/\i0 (zbK h q).2 8=true/\(ix (ix h.aa (zbK h q).1 mZ).ae (zbK h q).2 sZ).af=q:=by unfold zbK at c ⊢;rw[show ilt q 0=false from qQ (by omega),cond_false]at c ⊢;obtain⟨a,b,d,f,e,g⟩:=(zyn h.aa 0).2 c;rw[e,j5];have i:=(H.mons _<|jK d).o8;exact⟨zG.2 (by unfold ln;simp;omega),zG.2 (by simp;omega),by rw[zlX d,zlX f];exact g⟩
def zR0 {P:Nat->Bool}:∀{n i:Nat} {q:Int},q∈zvB P n i↔∃k:Nat,q=(k:Int)/\i<=k/\k<i+n/\P k=true
 | 0,i,q=>by simp[zvB];intro k _ _ _;omega
 |n+1,i,q=>by
  have d:=@zR0 P n (i+1) q;unfold zvB;constructor
  .intro h;cases c:P i with
   |true=>rw[c,cond_true,qG]at h;rcases h with h|h;{exact⟨i,h,by omega,by omega,c⟩};{obtain⟨k,a,f,g,b⟩:=d.1 h;exact⟨k,a,by omega,by omega,b⟩}
   |false=>rw[c,cond_false]at h;obtain⟨k,a,f,g,b⟩:=d.1 h;exact⟨k,a,by omega,by omega,b⟩
  {rintro⟨k,a,f,g,b⟩;by_cases e:k=i;{subst e;rw[b,cond_true,a];exact jD};{have:=d.2 ⟨k,a,by omega,by omega,b⟩;cases P i;{exact this};{exact qY _ this}}}
def zFU {h:ac}{q:Int}:q∈zcj h↔i0 q (ln h.ag)=true/\zfc h.aa q=0:=by unfold zcj;rw[zR0];constructor;{rintro⟨k,rfl,b,c,d⟩;exact⟨zG.2 (by unfold ln;omega),(zGT (by omega)).1 (qF d)⟩};{rintro⟨b,c⟩;have a:=zG.1 b;unfold ln at a;refine⟨q.toNat,by omega,by omega,by omega,?_⟩;rw[show ((q.toNat:Nat):Int)=q by omega];exact qK ((zGT a.1).2 c)}
def zXx {h:ac}(a:zcj h≠[]):i0 (ix (zcj h) 0 0) (ln h.ag)=true/\zfc h.aa (ix (zcj h) 0 0)=0:=by refine zFU.1 (zlk (zG.2 ⟨by omega,?_⟩) 0);unfold ln;have:=kU.2 a;omega
structure But (h r:ac) (m p:Int):Prop where
 ne:∀i k,i0 i (ln h.aa)=true->i0 k 8=true->¬ (i=m/\k=p)->ix (ix r.aa i mZ).ae k sZ=ix (ix h.aa i mZ).ae k sZ
def zFB {h r:ac}{m p:Int}(a:i0 m (ln h.aa)=true)(j:i0 p 8=true){x:Mon}{s:k0}(b:r.aa=up h.aa m x)(g:x.ae=up (ix h.aa m mZ).ae p s):But h r m p:=by refine⟨λi k d f c=>?_⟩;rw[b];by_cases e:m=i;{subst e;rw[zbf a,g,zbw (zG.1 j).1 (zG.1 f).1 λe=>c ⟨rfl,e.symm⟩]};{rw [zbw (zG.1 a).1 (zG.1 d).1 e]}
def z03 {h:ac}(H:HOk h){m p:Int}(a:i0 m (ln h.aa)=true)(c:i0 p 8=true):But h (zdR h m p) m p/\ix (ix (zdR h m p).aa m mZ).ae p sZ=z0:=by have b:(zdR h m p).aa=up h.aa m (zju {ix h.aa m mZ with Out:=up (ix h.aa m mZ).Out p (zcw h.ag (ix (ix h.aa m mZ).ae p sZ).af)} p z0):=zoV a rfl;refine⟨zFB a c b rfl,?_⟩;rw[b,zbf a];exact zbf ((H.mon a).hasO c) _ _
structure Roomy (h r:ac):Prop where
 op:Op h r
 free:zcj r≠[]
 sl:∀i k,i0 i (ln h.aa)=true->i0 k 8=true->ix (ix r.aa i mZ).ae k sZ=ix (ix h.aa i mZ).ae k sZ\/ix (ix r.aa i mZ).ae k sZ=z0
 dirt:∀i,(ix r.aa i mZ).ar=(ix h.aa i mZ).ar
def zLg {h r:ac}{m:Int}(c:i0 m (ln h.aa)=true){x:Mon}(a:r.aa=up h.aa m x)(b:x.ar=(ix h.aa m mZ).ar)(i:Int):(ix r.aa i mZ).ar=(ix h.aa i mZ).ar:=by
 rw[a];by_cases e:i.toNat=m.toNat
 {have:∀l:List Mon,ix l i mZ=ix l m mZ:=λl=>(by unfold ix;rw[e]);rw[this,this,zbf c,b]};{unfold ix up;simp[List.getD,jB,Ne.symm e]}
def roomy {h:ac}(H:HOk h):Roomy h (zdb h):=by unfold zdb;by_cases b:zcj h=[];{rw [show ieq (ln<|zcj h) 0=true by rw[b];rfl,cond_true];have p:¬ (zbK h 0).1<0:=λd=>(by have:(0:Int)∈zcj h:=zFU.2 ⟨zG.2 (by unfold ln;rw[H.m12];omega),(zGT (by omega)).1 d⟩;rw[b] at this;cases this);obtain⟨a,c,f⟩:=z2U H (by omega) p;have k:=zWm H a c (by rw[f];decide);have j:=z03 H a c;refine⟨k,λd=>?_,λi q g r=>?_,λi=>zLg (x:=zju {ix h.aa (zbK h 0).1 mZ with Out:=up (ix h.aa (zbK h 0).1 mZ).Out (zbK h 0).2 (zcw h.ag (ix (ix h.aa (zbK h 0).1 mZ).ae (zbK h 0).2 sZ).af)} (zbK h 0).2 z0) a (zoV a rfl) rfl i⟩;{have:(0:Int)∈zcj (zdR h (zbK h 0).1 (zbK h 0).2):=(by refine zFU.2 ⟨zG.2 (by unfold ln;rw[k.ok.m12];omega),?_⟩;have n:(zdR h (zbK h 0).1 (zbK h 0).2).aa=up h.aa (zbK h 0).1 (zju {ix h.aa (zbK h 0).1 mZ with Out:=up (ix h.aa (zbK h 0).1 mZ).Out (zbK h 0).2 (zcw h.ag (ix (ix h.aa (zbK h 0).1 mZ).ae (zbK h 0).2 sZ).af)} (zbK h 0).2 z0):=zoV a rfl;have l:=zxq a (zju {ix h.aa (zbK h 0).1 mZ with Out:=up (ix h.aa (zbK h 0).1 mZ).Out (zbK h 0).2 (zcw h.ag (ix (ix h.aa (zbK h 0).1 mZ).ae (zbK h 0).2 sZ).af)} (zbK h 0).2 z0) 0;rw[<- n] at l;have m:=zQ4 (x':=zju {ix h.aa (zbK h 0).1 mZ with Out:=up (ix h.aa (zbK h 0).1 mZ).Out (zbK h 0).2 (zcw h.ag (ix (ix h.aa (zbK h 0).1 mZ).ae (zbK h 0).2 sZ).af)} (zbK h 0).2 z0) ((H.mon a).hasO c) (s:=z0) rfl 0;rw[if_pos f,if_neg (by decide)] at m;have t:=H.uq 0 (by omega);omega);rw[d] at this;cases this};{by_cases e:i=(zbK h 0).1/\q=(zbK h 0).2;{rw [e.1,e.2];exact .inr j.2};{exact .inl (j.1.ne i q g r e)}}};{have:ieq (ln<|zcj h) 0=false:=zbY.2 (by unfold ln;have:=kU.2 b;omega);rw[this,cond_false];exact⟨Op.refl H,b,λi k g u=>.inl rfl,λ_=>rfl⟩}
def zVL {m:List LI}{p:Int}{c:LI}(b:i0 p (ln m)=true)(a:zcq c=true):zin m p c=up m p c:=by unfold zin;rw[b,a];rfl
def zBL {m:List LI}{p q:Int}{c:LI}(a:0<=p)(h:q≠p):zcw (up m p c) q=zcw m q:=by unfold zcw;rw[zdV];cases b:i0 q (ln m) with|false=>rfl|true=>rw[cond_true,cond_true,zbw a (zG.1 b).1<|Ne.symm h]
def zBK {m:List LI}{p:Int}{c:LI}(a:i0 p (ln m)=true):zcw (up m p c) p=c:=by rw[zkF (by rw[zdV];exact a),zbf a]
def zX4 {h:ac}(H:HOk h){m p a:Int}(d:i0 m (ln h.aa)=true)(f:i0 p 8=true)(z:(ix (ix h.aa m mZ).ae p sZ).af = -1)(u:i0 a (ln h.ag)=true)(B:zfc h.aa a=0) :
 Op h (ze6 h m p a)/\But h (ze6 h m p a) m p/\ix (ix (ze6 h m p a).aa m mZ).ae p sZ=⟨a,3⟩/\∀i,(ix (ze6 h m p a).aa i mZ).ar=(ix h.aa i mZ).ar:=by
 have X:=H.mon d;have g:=zG.1 u;unfold ln at g;rw[H.m12]at g;have l:(ze6 h m p a).aa=up h.aa m (zju {ix h.aa m mZ with Out:=up (ix h.aa m mZ).Out p []} p ⟨a,3⟩):=zoV d rfl;have k:Chg (ix h.aa m mZ) (zju {ix h.aa m mZ with Out:=up (ix h.aa m mZ).Out p []} p ⟨a,3⟩) p ⟨a,3⟩ []:=zAW rfl rfl rfl rfl rfl rfl rfl rfl rfl;have j:=((zpd<|X.slot f).1 (X.fit p f)).1 z;have b:(ze6 h m p a).ag=up h.ag a (ix (ix h.aa m mZ).Out p []):=by show (zcn (landing h m p a) m p ⟨a,3⟩).ag=_;rw[zvU];exact zVL u j
 have A:SOk ⟨a,3⟩:=.inr ⟨g.1,by show a<=11;omega,by show (1:Int)<=3;omega,by show (3:Int)<=3;omega⟩
 have w:=ztN (h:=landing h m p a) (m:=m) (p:=p) (s:=⟨a,3⟩) H.b1 H.b2;refine⟨⟨zve H d f l k A ((zpd A).2 ⟨λh=>absurd h (by show a≠-1;omega),λ_=>⟨show enough 3 1=true by decide,rfl⟩⟩) (by rw[b,zbQ];exact H.m12) (λc r=>?_) w.1 w.2 λ_=>.inr B,
  zux H d f l k ?_ λi q y D r C=>?_,λR=>?_⟩,zFB d f l rfl,?_,λi=>zLg (x:=zju {ix h.aa m mZ with Out:=up (ix h.aa m mZ).Out p []} p ⟨a,3⟩) d l rfl i⟩
 .rw [b]at r;rcases qX r with n|n
  .exact H.pgs c n
  .rw [n];exact j
 .rw [znf d f<|X.hasO f,zbv.2 z,cond_true,zkF<|X.hasU f];rw[show ieq (⟨a,3⟩:k0).af (-1)=false from zbY.2 (by show a≠-1;omega),cond_false,b]
  exact zBK u
 .rw [b];refine zBL g.1 (λe=>?_);have:=zFC y ((H.mon y).hasO D);rw[e] at this;omega
 .have R1:Rt (landing h m p a):=zKe (x:={ix h.aa m mZ with Out:=up (ix h.aa m mZ).Out p []}) R d rfl rfl rfl rfl (λ_ _=>rfl) rfl rfl;have t:i0 m (ln (landing h m p a).aa)=true:=by show i0 m (ln<|up h.aa m _)=true;rw[zdV];exact d
  have v:ix (landing h m p a).aa m mZ={ix h.aa m mZ with Out:=up (ix h.aa m mZ).Out p []}:=zbf d _ _;exact zyu R1 t (by rw[v];exact X.hasO f) (by rw[v];exact X.gt) _
 .rw [l,zbf d];exact zbf (X.hasO f) _ _
def zJ1 {h:ac}(H:HOk h){m p:Int}(f:i0 m (ln h.aa)=true)(g:i0 p 8=true)(k:(ix (ix h.aa m mZ).ae p sZ).af = -1) :
 Op h (fetched h m p)/\(∃e,0<=e/\e<=11/\ix (ix (fetched h m p).aa m mZ).ae p sZ=⟨e,3⟩)/\∀i,(ix (fetched h m p).aa i mZ).ar=(ix h.aa i mZ).ar:=by
 have R:=roomy H;have c:i0 m (ln (zdb h).aa)=true:=by rw[R.op.like.has];exact f
 have d:(ix (ix (zdb h).aa m mZ).ae p sZ).af = -1:=by rcases R.sl m p f g with b|b<;>rw [b];{exact k};{rfl}
 obtain⟨b,j⟩:=zXx R.free;obtain⟨l,r,n,q⟩:=zX4 R.op.ok c g d b j;have a:=zG.1 b;unfold ln at a;rw[R.op.ok.m12]at a;exact⟨R.op.trans l,⟨_,a.1,by omega,n⟩,λi=>(q i).trans (R.dirt i)⟩
def znl {o:List k0}{p:Int}(h:i0 p (ln o)=true):zbC o p=ix o p sZ:=by unfold zbC;rw[h];rfl
def zkG {h:ac}(H:HOk h){m p:Int}(a:i0 m (ln h.aa)=true)(b:i0 p 8=true) :
 (cond (ieq (ix (ix h.aa m mZ).ae p sZ).af<|-1) (ix (ix h.aa m mZ).Out p [])<|zcw h.ag (ix (ix h.aa m mZ).ae p sZ).af)=zcC h m p:=by
 rw[znf a b<|(H.mon a).hasO b,zkF<|(H.mon a).hasU b]
structure Mark (x y:Mon):Prop where
 o:y.ae=x.ae
 u:y.Out=x.Out
 g:y.ad=x.ad
 t:y.aj=x.aj
 d:y.ar.length=x.ar.length
 a1:y.Outs=x.Outs
 a2:y.ak=x.ak
 a3:y.aq=x.aq
 a4:y.Own=x.Own
def zWl {h:ac}(H:HOk h){m:Int}(b:i0 m (ln h.aa)=true){y:Mon}(k:Mark (ix h.aa m mZ) y):Op h {h with aa:=up h.aa m y}/\∀i q,ix (ix (up h.aa m y) i mZ).ae q sZ=ix (ix h.aa i mZ).ae q sZ:=by
 have X:=H.mon b;have a:i0 0 8=true:=(by decide);have c:Chg (ix h.aa m mZ) y 0 (ix (ix h.aa m mZ).ae 0 sZ) (ix (ix h.aa m mZ).Out 0 []):=⟨by rw[zHo<|X.hasO a,k.o],by rw[zHo<|X.hasU a,k.u],k.g,by rw[k.t],k.d,k.a1,k.a2,k.a3,k.a4⟩
 refine⟨⟨zve H b a rfl c (X.slot a) (X.fit 0 a) H.m12 H.pgs H.b1 H.b2 λ_=>.inl rfl,zux H b a rfl c (zkG H b a) λ_ _ _ _ _ _=>rfl,
  λR=>zKe R b rfl rfl rfl (by rw[k.g]) (λg _=>by rw[k.g]) k.t k.o⟩,λi q=>?_⟩
 by_cases e:i.toNat=m.toNat
 {have:∀l:List Mon,ix l i mZ=ix l m mZ:=λl=>(by unfold ix;rw[e]);rw[this,this,zbf b,k.o]};{have:ix (up h.aa m y) i mZ=ix h.aa i mZ:=(by unfold ix up;simp[List.getD,jB,Ne.symm e]);rw[this]}
def zJ0 {h:ac}(H:HOk h){m:Int}(a:i0 m (ln h.aa)=true)(p:Int):Op h (zbJ h m p)/\∀i q,ix (ix (zbJ h m p).aa i mZ).ae q sZ=ix (ix h.aa i mZ).ae q sZ :=
 zWl H a ⟨rfl,rfl,rfl,rfl,zbQ _ _ _,rfl,rfl,rfl,rfl⟩
def z0D {h:ac}(H:HOk h){m:Int}(a:i0 m (ln h.aa)=true)(p:Int):Op h (zpM h m p)/\∀i q,ix (ix (zpM h m p).aa i mZ).ae q sZ=ix (ix h.aa i mZ).ae q sZ :=
 zWl H a ⟨rfl,rfl,rfl,rfl,zbQ _ _ _,rfl,rfl,rfl,rfl⟩
def rights {r:Int}(a:1<=r)(b:r<=3):r=1\/r=2\/r=3:=by omega
def MOk.enough1 {x:Mon}(X:MOk x){p:Int}(a:i0 p 8=true)(d:(ix x.ae p sZ).af≠-1):(ix x.ae p sZ).ai=1\/(ix x.ae p sZ).ai=3:=by have b:=(((zpd<|X.slot a).1 (X.fit p a)).2 d).1;have c:=(X.slot a).pos d;rcases rights c.2.2.1 c.2.2.2 with e|e|e;{exact .inl e};{rw [e]at b;exact absurd b (by decide)};{exact .inr e}
def zOA {h:ac}(H:HOk h){m p:Int}(c:i0 m (ln h.aa)=true)(b:i0 p 8=true)(g:(ix (ix h.aa m mZ).ae p sZ).af≠-1){r:Int}(n:r=1\/r=3) :
 Op h (zcn h m p ⟨(ix (ix h.aa m mZ).ae p sZ).af,r⟩)/\But h (zcn h m p ⟨(ix (ix h.aa m mZ).ae p sZ).af,r⟩) m p/\
  ix (ix (zcn h m p ⟨(ix (ix h.aa m mZ).ae p sZ).af,r⟩).aa m mZ).ae p sZ=⟨(ix (ix h.aa m mZ).ae p sZ).af,r⟩/\∀i,(ix (zcn h m p ⟨(ix (ix h.aa m mZ).ae p sZ).af,r⟩).aa i mZ).ar=(ix h.aa i mZ).ar:=by
 have X:=H.mon c;have d:=(X.slot b).pos g;have e:=zrP h m p ⟨(ix (ix h.aa m mZ).ae p sZ).af,r⟩;have k:Chg (ix h.aa m mZ) (zju (ix h.aa m mZ) p ⟨(ix (ix h.aa m mZ).ae p sZ).af,r⟩) p ⟨(ix (ix h.aa m mZ).ae p sZ).af,r⟩ (ix (ix h.aa m mZ).Out p []):=
  zAW rfl (zHo (X.hasU b) _).symm rfl rfl rfl rfl rfl rfl rfl
 have l:SOk ⟨(ix (ix h.aa m mZ).ae p sZ).af,r⟩:=.inr ⟨d.1,d.2.1,by show 1<=r;omega,by show r<=3;omega⟩
 have f:=((zpd<|X.slot b).1 (X.fit p b)).2 g;have j:=ztN (h:=h) (m:=m) (p:=p) (s:=⟨(ix (ix h.aa m mZ).ae p sZ).af,r⟩) H.b1 H.b2;have a:=zvU h m p ⟨(ix (ix h.aa m mZ).ae p sZ).af,r⟩;refine⟨⟨zve H c b e k l ((zpd l).2 ⟨λh=>absurd h g,λ_=>⟨?_,f.2⟩⟩) (by rw[a];exact H.m12) (by rw[a];exact H.pgs) j.1 j.2 λ_=>.inl rfl,
  zux H c b e k (by rw[a];exact zkG H c b) (λi q _ _ _ _=>by rw[a]),λR=>zyu R c (X.hasO b) X.gt _⟩,zFB c b e rfl,?_,λi=>zLg c e rfl i⟩
 .show enough r 1=true
  rcases n with rfl|rfl<;>decide
 .rw [e,zbf c];exact zbf (X.hasO b) _ _
structure Mended (h r:ac) (m p n:Int):Prop where
 op:Op h r
 inn:(ix (ix r.aa m mZ).ae p sZ).af≠-1
 ri:ieq (wand .i64 n 2) 0=false->(ix (ix r.aa m mZ).ae p sZ).ai=3
 dt:ieq (wand .i64 n 2) 0=false->ix (ix r.aa m mZ).ar p false=true
 d0:ieq (wand .i64 n 2) 0=true->(ix r.aa m mZ).ar=(ix h.aa m mZ).ar
 dk:∀k,i0 k 8=true->k≠p->ix (ix r.aa m mZ).ar k false=ix (ix h.aa m mZ).ar k false
 dm:∀i,i0 i (ln h.aa)=true->i≠m->(ix r.aa i mZ).ar=(ix h.aa i mZ).ar
def zSW {h:ac}(H:HOk h){m p:Int}(n:Int)(c:i0 m (ln h.aa)=true)(g:i0 p 8=true)(v:(ix (ix h.aa m mZ).ae p sZ).af≠-1):Mended h (zjd h m p n) m p n:=by
 unfold zjd;cases s:ieq (wand .i64 n 2) 0 with
 |true=>exact⟨Op.refl H,v,λe=>Bool.noConfusion<|s.symm.trans e,λe=>Bool.noConfusion<|s.symm.trans e,λ_=>rfl,λ_ _ _=>rfl,λ_ _ _=>rfl⟩
 |false=>rw[cond_false];obtain⟨f,C⟩:=zJ0 H c p;have d:i0 m (ln (zbJ h m p).aa)=true:=(by rw[f.like.has];exact c);have a:(ix (ix (zbJ h m p).aa m mZ).ae p sZ).af≠-1:=(by rw[C];exact v);have u:(ix (zbJ h m p).aa m mZ).ar=up (ix h.aa m mZ).ar p true:=(by show (ix (up h.aa m _) m mZ).ar=_;rw[zbf c]);have l:∀i,i0 i (ln h.aa)=true->i≠m->(ix (zbJ h m p).aa i mZ).ar=(ix h.aa i mZ).ar:=λi q b=>(by show (ix (up h.aa m _) i mZ).ar=_;rw[zbw (zG.1 c).1 (zG.1 q).1<|Ne.symm b]);have A:=(f.ok.mon d).enough1 g a;have t:∀r:ac,(∀i,(ix r.aa i mZ).ar=(ix (zbJ h m p).aa i mZ).ar)->Op (zbJ h m p) r->(ix (ix r.aa m mZ).ae p sZ).af≠-1->(ix (ix r.aa m mZ).ae p sZ).ai=3->Mended h r m p n:=(by intro r j x y z;refine⟨f.trans x,y,λ_=>z,λ_=>?_,λe=>Bool.noConfusion<|s.symm.trans e,λk B b=>?_,λi q b=>by rw[j,l i q b]⟩;{rw [j,u,zbf<|(H.mon c).hasD g]};{rw [j,u,zbw (zG.1 g).1 (zG.1 B).1<|Ne.symm b]});unfold opened;rcases A with e|e;{rw [e,show ieq (wand .i64 1 2) 0=true by decide,cond_true];obtain⟨D,F,w,E⟩:=zOA f.ok d g a (r:=3) (.inr rfl);exact t _ E D (by rw[w];exact a) (by rw[w])};{rw [e,show ieq (wand .i64 3 2) 0=false by decide,cond_false];exact t _ (λ_=>rfl) (Op.refl f.ok) a e}
def zq1 {h:ac}(H:HOk h){m p:Int}(n:Int)(c:i0 m (ln h.aa)=true)(d:i0 p 8=true):Mended h (A0 h m p n) m p n:=by unfold A0;by_cases e:(ix (ix h.aa m mZ).ae p sZ).af = -1;{rw [zbv.2 e,cond_true];obtain⟨a,⟨q,r,s,l⟩,f⟩:=zJ1 H c d e;have K:=zSW a.ok n (by rw[a.like.has];exact c) d (by rw[l];show q≠-1;omega);exact⟨a.trans K.op,K.inn,K.ri,K.dt,λe=>by rw[K.d0 e,f],λk j b=>by rw[K.dk k j b,f],λi g b=>by rw[K.dm i (by rw[a.like.has];exact g) b,f]⟩};{rw [zbY.2 e,cond_false];exact zSW H n c d e}
def znU {h:ac}{m p:Int}:zbX h m p=true↔HOk h/\i0 m (ln h.aa)=true/\i0 p 8=true:=by unfold zbX;rw[zb9,zb9,zgv]
def zX5 {h:ac}(H:HOk h)(m p:Int):Op h (zpm h m p):=by unfold zpm;cases a:zbX h m p with|false=>exact Op.refl H|true=>obtain⟨_,b,c⟩:=znU.1 a;rw[cond_true];unfold zj9;by_cases e:(ix (ix h.aa m mZ).ae p sZ).af = -1;{rw [zbv.2 e];exact Op.refl H};{rw [zbY.2 e];exact zWm H b c e}
def z0C {h:ac}(H:HOk h)(m p:Int):Op h (ztg h m p):=by unfold ztg;cases a:zbX h m p with|false=>exact Op.refl H|true=>obtain⟨_,b,c⟩:=znU.1 a;rw[cond_true];unfold zj9;by_cases e:(ix (ix h.aa m mZ).ae p sZ).af = -1;{rw [zbv.2 e];exact(zJ1 H b c e).1};{rw [zbY.2 e];exact Op.refl H}
def z0B {h:ac}(H:HOk h)(m p:Int):Op h (zsZ h m p):=by unfold zsZ;cases g:zbX h m p with|false=>exact Op.refl H|true=>obtain⟨_,b,c⟩:=znU.1 g;rw[cond_true];obtain⟨a,d⟩:=z0D H b p;(cases e:zc1 (ix (ix h.aa m zk).ae p zY) z0 with|true=>exact a|false=>rw[cond_false];have i:(ix (ix h.aa m mZ).ae p sZ).af≠-1:=λf=>zrb.1 e (((H.mon b).slot c).none f);have:=zOA a.ok (m:=m) (p:=p) (by rw[a.like.has];exact b) c (by rw[d];exact i) (r:=1) (.inl rfl);rw[d m p] at this;exact a.trans this.1)
structure KeepP (x y:Mon):Prop where
 o:y.ae=x.ae
 u:y.Out=x.Out
def zJ7 {h r:ac}{m:Int}(b:i0 m (ln h.aa)=true){y:Mon}(c:r.aa=up h.aa m y)(a:r.ag=h.ag)(k:KeepP (ix h.aa m mZ) y)(i q:Int):zcC r i q=zcC h i q:=by unfold zcC;rw[c,zdV,a];cases d:i0 i (ln h.aa) with|false=>rfl|true=>by_cases e:m=i;{subst e;rw[zbf b,k.o,k.u]};{rw [zbw (zG.1 b).1 (zG.1 d).1 e]}
def ztK {h r:ac}{m:Int}(b:i0 m (ln h.aa)=true){y:Mon}(c:r.aa=up h.aa m y)(a:r.ag=h.ag)(k:KeepP (ix h.aa m mZ) y)(i:Int) :
 zK r i=bif ieq i m then ⟨(zK h i).ag,y.ad,y.Outs,y.ak⟩ else zK h i:=by
 have f:zcx r i 8 0=zcx h i 8 0:=zp7 8 0 (λj _ _=>zJ7 b c a k i j);unfold zK;rw[f,c,zdV]
 by_cases e:i=m
 .subst e;rw[b,zbv.2 rfl,zbf b];rfl
 .rw [zbY.2 e,cond_false];cases d:i0 i (ln h.aa) with
  |false=>rfl
  |true=>rw[zbw (zG.1 b).1 (zG.1 d).1<|Ne.symm e]
def zkx {x y:Mon}(X:MOk x)(k:KeepP x y)(g:y.ad.length=x.ad.length)(t:y.aj.length=x.aj.length)(d:y.ar.length=x.ar.length)(o:y.Outs.length<=40)(p:zdH y.ak=true)(tr:zi y.aq 0 3=true)(b:zi y.Own 0 1000000000=true)(a:∀g∈y.ad,zdY g=true):MOk y :=
 ⟨by rw[g];exact X.g1,by rw[g];exact X.g2,by rw[t,g];exact X.gt,by rw[k.o];exact X.o8,by rw[k.o];exact X.sl,by rw[k.u];exact X.u8,by rw[d];exact X.d8,o,p,tr,b,a,by rw[k.o,k.u];exact X.fit⟩
def zRQ {h:ac}(H:HOk h){m:Int}(a:i0 m (ln h.aa)=true){y:Mon}(k:KeepP (ix h.aa m mZ) y)(b:MOk y):HOk {h with aa:=up h.aa m y} :=
 H.up a b rfl H.m12 H.pgs H.b1 H.b2 λq _=>.inl (by unfold cPg;rw[k.o];exact qV _)
def zva {h:ac}(S:Safe h){m:Int}(a:i0 m (ln h.aa)=true){y:Mon}(k:KeepP (ix h.aa m mZ) y)(d:MOk y)(hg:y.ad.length=(ix h.aa m mZ).ad.length)(c:∀g,i0 g (ln (ix h.aa m mZ).ad)=true->(ix y.ad g gZ).av=(ix (ix h.aa m mZ).ad g gZ).av)(b:y.aj=(ix h.aa m mZ).aj):Safe {h with aa:=up h.aa m y} :=
 ⟨zRQ S.ok a k d,zKe S.rt a rfl rfl rfl hg c b k.o⟩
def zQc {h:ac}(S:Safe h)(m t:Int):Safe (zjt h m t)/\∀i,zK (zjt h m t) i=zK h i:=by
 unfold zjt;rw[zgv.2 S.ok,cond_true];cases a:i0 m (ln h.aa) with
 |false=>exact⟨S,λ_=>rfl⟩
 |true=>
  cases b:zi t 0 3 with
  |false=>exact⟨S,λ_=>rfl⟩
  |true=>have X:=S.ok.mon a;have k:KeepP (ix h.aa m mZ) {ix h.aa m mZ with aq:=t}:=⟨rfl,rfl⟩;refine⟨zva S a k (zkx X k rfl rfl rfl X.outs X.pend b X.own X.gs) rfl (λ_ _=>rfl) rfl,λi=>?_⟩;rw[cond_true,cond_true];refine(ztK (h:=h) (r:={h with aa:=up h.aa m {ix h.aa m mZ with aq:=t}}) a rfl rfl k i).trans ?_;by_cases e:i=m;{subst e;rw[zbv.2 rfl,cond_true];unfold zK;rw[a];rfl};{rw [zbY.2 e];rfl}
def zEN:∀(n i:Nat) (k:ax),(ziw n i k).ay.length=k.ay.length/\(ziw n i k).aA.length=k.aA.length
 | 0,i,k=>⟨rfl,rfl⟩
 |n+1,i,k=>by have a:=zEN n (i+1) (zbW k (i:Int));have b:=zkt k (i:Int);exact⟨a.1.trans b.1,a.2.trans b.2⟩
def zIx:∀(n i:Nat) (k:ax),k.ay.length=k.aA.length->∀j,i0 j (ln k.ay)=true->
 ((i:Int)<=j/\j<((i+n:Nat):Int)->ix (ziw n i k).ay j false=false/\ix (ziw n i k).aA j sZ=z0)/\
 (¬ ((i:Int)<=j/\j<((i+n:Nat):Int))->ix (ziw n i k).ay j false=ix k.ay j false/\ix (ziw n i k).aA j sZ=ix k.aA j sZ)
 | 0,i,k,_,j,_=>⟨λh=>by omega,λ_=>⟨rfl,rfl⟩⟩
 |n+1,i,k,g,j,f=>by have b:=zkt k (i:Int);have d:=zvA (q:=(i:Int)) g f;have c:=zIx n (i+1) (zbW k (i:Int)) (by rw[b.1,b.2,g]) j (by unfold ln at f ⊢;rwa [b.1]);rw[ziw];by_cases a:((i+1:Nat):Int)<=j/\j<((i+1+n:Nat):Int);{exact⟨λ_=>c.1 a,λh=>absurd (by omega) h⟩};{rw [(c.2 a).1,(c.2 a).2,d.1,d.2];by_cases e:(i:Int)=j;{rw [zbv.2 e];exact⟨λ_=>⟨rfl,rfl⟩,λh=>absurd (by omega) h⟩};{rw [zbY.2 e];exact⟨λh=>absurd (by omega) a,λ_=>⟨rfl,rfl⟩⟩}}
def zPk {k:ax}{a b:List k0}(h:KOk k a b):KOk (zi6 k) a b:=by have e:=zEN k.ay.length 0 k;refine⟨e.1.trans h.l1,e.2.trans h.l2,λi f=>?_⟩;have c:i0 i (ln k.ay)=true:=(by unfold ln at f ⊢;rwa [h.l1]);have d:=zG.1 c;unfold ln at d;have:=(zIx k.ay.length 0 k (by rw[h.l1,h.l2]) i c).1 ⟨by omega,by omega⟩;unfold zi6;rw[this.1,this.2];rfl
def zIj:∀(n j:Nat) (l:List ax),(zt5 n j l).length=l.length
 | 0,_,_=>rfl
 |n+1,j,l=>by rw[zt5,zIj n,zbQ]
def zQ8:∀(n j:Nat) (l:List ax),j+n<=l.length->∀g,0<=g->ix (zt5 n j l) g kZ=if (j:Int)<=g/\g<((j+n:Nat):Int) then zi6 (ix l g kZ) else ix l g kZ
 | 0,j,l,_,g,hg=>by rw[if_neg (by omega)];rfl
 |n+1,j,l,a,g,hg=>by rw[zt5,zQ8 n (j+1) _ (by rw[zbQ];omega) g hg];by_cases e:(j:Int)=g;{subst e;rw[if_neg (by omega),if_pos (by omega),zbf<|zG.2 ⟨by omega,by unfold ln;omega⟩]};{rw [zbw (by omega) hg e];by_cases h:((j+1:Nat):Int)<=g/\g<((j+1+n:Nat):Int);{rw [if_pos h,if_pos (by omega)]};{rw [if_neg h,if_neg (by omega)]}}
def zIi:∀(n i:Nat) (l:List Mon),(znz n i l).length=l.length
 | 0,_,_=>rfl
 |n+1,i,l=>by rw[znz,zIi n,zbQ]
def zN0:∀(n i:Nat) (l:List Mon),i+n<=l.length->∀m,0<=m->ix (znz n i l) m mZ=if (i:Int)<=m/\m<((i+n:Nat):Int) then zt6 (ix l m mZ) (ix l m mZ).aj.length 0 else ix l m mZ
 | 0,i,l,_,m,a=>by rw[if_neg (by omega)];rfl
 |n+1,i,l,b,m,a=>by rw[znz,zN0 n (i+1) _ (by rw[zbQ];omega) m a];by_cases e:(i:Int)=m;{subst e;rw[if_neg (by omega),if_pos (by omega),zbf<|zG.2 ⟨by omega,by unfold ln;omega⟩]};{rw [zbw (by omega) a e];by_cases h:((i+1:Nat):Int)<=m/\m<((i+1+n:Nat):Int);{rw [if_pos h,if_pos (by omega)]};{rw [if_neg h,if_neg (by omega)]}}
def z1I (h:ac){m:Int}(a:i0 m (ln h.aa)=true):ix (cold h).aa m mZ=zt6 (ix h.aa m mZ) (ix h.aa m mZ).aj.length 0:=by have:=zG.1 a;unfold ln at this;show ix (znz h.aa.length 0 h.aa) m mZ=_;rw[zN0 _ _ _ (by omega) m this.1,if_pos (by omega)]
def zwf (h:ac):(cold h).aa.length=h.aa.length:=zIi _ _ _
def zFE (h:ac)(m:Int):i0 m (ln (cold h).aa)=i0 m (ln h.aa):=by unfold ln;rw[zwf]
def z5Y {l a:List Mon}(d:a.length=l.length)(h:∀m,i0 m (ln l)=true->(ix a m mZ).ae=(ix l m mZ).ae)(q:Int):zfc a q=zfc l q:=by have:a.map (λx=>cPg x q)=l.map (λx=>cPg x q):=(by refine List.ext_getElem (by simp[d]) λk b c=>?_;simp only[uM]at b c;have:=h (k:Int) (zG.2 ⟨by omega,by unfold ln;omega⟩);rw[zlX b,zlX c] at this;simp[cPg,this]);unfold zfc;rw[this]
def z7m {h:ac}(H:HOk h):Op h (cold h):=by have c:∀m,i0 m (ln h.aa)=true->ix (cold h).aa m mZ=zt6 (ix h.aa m mZ) (ix h.aa m mZ).aj.length 0:=λm a=>z1I h a;have n:∀i q,zcC (cold h) i q=zcC h i q:=(by intro i q;unfold zcC;rw[zFE];cases b:i0 i (ln h.aa) with|false=>rfl|true=>rw[c i b];rfl);refine⟨⟨H.m12,H.pgs,by rw[zwf];exact H.n1,by rw[zwf];exact H.n3,rfl,rfl,λy s=>?_,λq r=>?_⟩,⟨zwf h,λi b=>by rw[c i b];rfl,λi b=>by rw[c i b];rfl,λi b=>by rw[c i b];rfl,λi b=>by rw[c i b];rfl,λi b=>by rw[c i b];rfl,λi k _ _=>n i k⟩,λR=>⟨λm a=>?_,λe j=>(by cases j),λe j=>(by cases j)⟩⟩;{obtain⟨m,a,rfl⟩:=zBI s mZ;rw[zFE]at a;rw[c m a];have X:=H.mon a;have k:KeepP (ix h.aa m mZ) (zt6 (ix h.aa m mZ) (ix h.aa m mZ).aj.length 0):=⟨rfl,rfl⟩;exact zkx X k rfl (zIj _ _ _) rfl X.outs X.pend X.tr X.own X.gs};{rw [z5Y (l:=h.aa) (zwf h) (λm a=>by rw[c m a];rfl)];exact H.uq q r};{rw [zFE]at a;rw[c m a];have X:=H.mon a;intro g hg;show KOk (ix (zt5 (ix h.aa m mZ).aj.length 0 (ix h.aa m mZ).aj) g kZ) (ix (ix h.aa m mZ).ad g gZ).av (ix h.aa m mZ).ae;have d:i0 g (ln (ix h.aa m mZ).ad)=true:=hg;have f:=zG.1 d;unfold ln at f;have p:=X.gt;rw[zQ8 _ _ _ (by omega) g f.1,if_pos (by omega)];exact zPk (R.t m a g d)}
def zTT {m g:Int}(c:zi m 0 2=true)(hg:zi g 0 1=true):zdI (ze0 m g)=m/\zep (ze0 m g)=g/\1<=ze0 m g/\ze0 m g<=6:=by have d:=zcL.1 c;have e:=zcL.1 hg;have a:m=0\/m=1\/m=2:=(by omega);have b:g=0\/g=1:=(by omega);rcases a with rfl|rfl|rfl<;>rcases b with rfl|rfl<;>decide
def HOk.tag {h:ac}(H:HOk h){m g:Int}(a:i0 m (ln h.aa)=true)(hg:i0 g (ln (ix h.aa m mZ).ad)=true):zi m 0 2=true/\zi g 0 1=true:=by have b:=zG.1 a;have c:=zG.1 hg;have d:=H.n3;have e:=(H.mon a).g2;unfold ln at b c;exact⟨zcL.2 (by omega),zcL.2 (by omega)⟩
def zgm {r:Int}:zdE r=true↔r=0\/r=1\/r=2\/r=3:=by unfold zdE ige ile;rw[qE,q0,q0];omega
def zqM {a b:Int}(h:enough a b=true):zdE a=true/\zdE b=true:=by unfold enough at h;rw[zb9,zb9]at h;exact⟨h.1,h.2.1⟩
def zRz {a b c:Int}(d:enough a b=true)(e:enough b c=true):enough a c=true:=by have f:=zgm.1 (zqM d).1;have g:=zgm.1 (zqM d).2;have h:=zgm.1 (zqM e).2;rcases f with rfl|rfl|rfl|rfl<;>rcases g with rfl|rfl|rfl|rfl<;>rcases h with rfl|rfl|rfl|rfl<;>revert d e<;>decide
def zUv {a b n:Int}(g:n=1\/n=2)(c:enough a n=true)(d:enough b n=true):zeg a b≠0/\enough (zeg a b) n=true:=by have e:=zgm.1 (zqM c).1;have f:=zgm.1 (zqM d).1;rcases g with rfl|rfl<;>rcases e with rfl|rfl|rfl|rfl<;>rcases f with rfl|rfl|rfl|rfl<;>revert c d<;>decide
def both_ok (a b:Int):zdE (zeg a b)=true:=by
 unfold zeg;cases c:zdE a with
 |false=>rfl
 |true=>
  cases d:zdE b with
  |false=>rfl
  |true=>have c:=zgm.1 c;have d:=zgm.1 d;rcases c with rfl|rfl|rfl|rfl<;>rcases d with rfl|rfl|rfl|rfl<;>decide
def zUD {a:Int}(h:zdE a=true):enough a a=true:=by rcases zgm.1 h with rfl|rfl|rfl|rfl<;>decide
def zpZ {n:Int}(a:n=1\/n=2):enough 0 n=false:=by rcases a with rfl|rfl<;>decide
def zW3 {s:k0}{o:List k0}(a:s.af≠-1)(b:(zbC o s.af).af≠-1):zby s o=bif ieq (zeg s.ai (zbC o s.af).ai) 0 then z0 else ⟨(zbC o s.af).af,zeg s.ai (zbC o s.af).ai⟩:=by unfold zby;rw[zbY.2 a,zbY.2 b];rfl
def zo9 {s:k0}{o:List k0}{n:Int}(c:n=1\/n=2)(h:enough (zby s o).ai n=true):s.af≠-1/\(zbC o s.af).af≠-1/\(zby s o).af=(zbC o s.af).af:=by unfold zby at h ⊢;by_cases a:s.af = -1;{rw [zbv.2 a,cond_true]at h;rw[show z0.ai=0 from rfl,zpZ c]at h;cases h};{rw [zbY.2 a,cond_false]at h ⊢;by_cases b:(zbC o s.af).af = -1;{rw [zbv.2 b,cond_true]at h;rw[show z0.ai=0 from rfl,zpZ c]at h;cases h};{rw [zbY.2 b,cond_false]at h ⊢;by_cases d:zeg s.ai (zbC o s.af).ai=0;{rw [zbv.2 d,cond_true]at h;rw[show z0.ai=0 from rfl,zpZ c]at h;cases h};{rw [zbY.2 d];exact⟨a,b,rfl⟩}}}
def zQ9 {s:k0}{o:List k0}{n:Int}(e:n=1\/n=2)(a:s.af≠-1)(b:(zbC o s.af).af≠-1)(c:enough s.ai n=true)(d:enough (zbC o s.af).ai n=true) :
 (zby s o).af=(zbC o s.af).af/\enough (zby s o).ai n=true:=by
 have:=zUv e c d;rw[zW3 a b,zbY.2 this.1];exact⟨rfl,this.2⟩
def zW4 (s:k0)(o:List k0):zdE (zby s o).ai=true:=by unfold zby;cases ieq s.af (-1)<;>cases ieq (zbC o s.af).af (-1)<;>cases ieq (zeg s.ai (zbC o s.af).ai) 0<;>first|rfl|exact both_ok _ _
def zx0 {b:List au}{t p:Int}{e:au}:e∈zcI b t p↔e∈b/\¬ (e.Tag=t/\e.af=p):=by unfold zcI;rw[List.mem_filter];refine and_congr Iff.rfl ?_;unfold zBJ;by_cases h:e.Tag=t;{rw [show ine e.Tag t=false by simp[ine,h],cond_false,zCP];simp[h]};{rw [zCP.2 h];simp[h]}
def z3b {b:List au}{e x:au}(h:x∈zpp b e):x∈b\/x=e:=by unfold zpp ap at h;have:x∈zcI b e.Tag e.af++[e]:=(by cases a:igt (ln<|zcI b e.Tag e.af++[e]) 6 with|true=>rw[a,cond_true]at h;exact kQ h|false=>rw[a,cond_false]at h;exact h);rcases jJ.1 this with h|h;{exact .inl (zx0.1 h).1};{exact .inr (qD.1 h)}
def z9H {n:Nat}(h:n<=100):wsub .i64 (n:Int) 6=(n:Int)-6:=by unfold wsub IntKind.wrap;simp[IntKind.signed,IntKind.bits];omega
def zVT {b:List au}(h:zfp b=true)(e:au):zfp (zpp b e)=true:=by have c:=zCA.1 h;have k:(zcI b e.Tag e.af).length<=6:=qS (uE _ _) c.2;have d:(zcI b e.Tag e.af++[e]).Pairwise (λy x=>sameKey x y=false):=(by rw[List.pairwise_append];refine⟨c.1.sublist List.filter_sublist,List.pairwise_singleton _ _,λx i y j=>?_⟩;rw[qD.1 j];have:=(zx0.1 i).2;unfold sameKey;by_cases a:e.Tag=x.Tag;{rw [zbv.2 a,cond_true,zbY];exact λf=>this ⟨a.symm,f.symm⟩};{rw [zbY.2 a];rfl});unfold zpp ap;cases g:igt (ln<|zcI b e.Tag e.af++[e]) 6 with|true=>rw[cond_true,zCA];refine⟨d.sublist<|List.drop_sublist _ _,?_⟩;unfold dp ln;rw[kE,uD,z9H (by omega),vJ,kE,uD];omega|false=>rw[cond_false,zCA];refine⟨d,?_⟩;have:=jX g;unfold ln at this;omega
def z0l {h r:ac}{m:Int}(c:i0 m (ln h.aa)=true){y:Mon}(b:r.aa=up h.aa m y)(a:r.ag=h.ag)(k:KeepP (ix h.aa m mZ) y)(g:y.ad=(ix h.aa m mZ).ad)(o:y.Outs=(ix h.aa m mZ).Outs)(p:y.ak=(ix h.aa m mZ).ak)(t:y.aq=(ix h.aa m mZ).aq)(w:y.Own=(ix h.aa m mZ).Own):Like h r:=by have e:∀{d:Type} (F:Mon->d),F y=F (ix h.aa m mZ)->∀i,i0 i (ln h.aa)=true->F (ix r.aa i mZ)=F (ix h.aa i mZ):=(by intro d F f i j;rw[b];by_cases e:m=i;{subst e;rw[zbf c];exact f};{rw [zbw (zG.1 c).1 (zG.1 j).1 e]});exact⟨by rw[b,zbQ],e Mon.ad g,e Mon.Outs o,e Mon.ak p,e Mon.aq t,e Mon.Own w,λi q _ _=>zJ7 c b a k i q⟩
def z3e {h:ac}(R:Rt h){m g:Int}(d:i0 m (ln h.aa)=true)(r:i0 g (ln (ix h.aa m mZ).aj)=true){k:ax}(u:KOk k (ix (ix h.aa m mZ).ad g gZ).av (ix h.aa m mZ).ae) :
 Rt {h with aa:=up h.aa m {ix h.aa m mZ with aj:=up (ix h.aa m mZ).aj g k}}:=by
 have f:∀e,zc5 h e=true->zc5 {h with aa:=up h.aa m {ix h.aa m mZ with aj:=up (ix h.aa m mZ).aj g k}} e=true:=by intro e b;obtain⟨l,n,p⟩:=zfK.1 b;rw[zfK];show i0 (zdI e.Tag) (ln<|up h.aa m _)=true/\i0 (zep e.Tag) (ln (ix (up h.aa m _) (zdI e.Tag) mZ).ad)=true/\below' _ (zby (zbC (ix (ix (up h.aa m _) (zdI e.Tag) mZ).ad (zep e.Tag) gZ).av e.af) (ix (up h.aa m _) (zdI e.Tag) mZ).ae)=true;rw[zdV];refine⟨l,?_⟩;by_cases a:m=zdI e.Tag;{rw [<- a]at l n p ⊢;rw[zbf d];exact⟨n,p⟩};{rw [zbw (zG.1 d).1 (zG.1 l).1 a];exact⟨n,p⟩}
 refine⟨λi s=>?_,λe b=>f e (R.e1 e b),λe b=>f e (R.e2 e b)⟩
 show TOk (ix (up h.aa m _) i mZ)
 have c:i0 i (ln h.aa)=true:=by have:i0 i (ln<|up h.aa m {ix h.aa m mZ with aj:=up (ix h.aa m mZ).aj g k})=true:=s;rwa [zdV] at this
 by_cases a:m=i
 .subst a;rw[zbf d];intro j q
  by_cases e:g=j
  .subst e
   show KOk (ix (up _ g k) g kZ) _ _
   rw[zbf r];exact u
  .show KOk (ix (up _ g k) j kZ) _ _
   rw[zbw (zG.1 r).1 (zG.1 q).1 e];exact R.t m d j q
 .rw [zbw (zG.1 d).1 (zG.1 c).1 a];exact R.t i c
def z2R {h:ac}(H:HOk h){m g:Int}(a:i0 m (ln h.aa)=true)(c:i0 g (ln (ix h.aa m mZ).aj)=true){k:ax}(b:Rt h->KOk k (ix (ix h.aa m mZ).ad g gZ).av (ix h.aa m mZ).ae) :
 Op h {h with aa:=up h.aa m {ix h.aa m mZ with aj:=up (ix h.aa m mZ).aj g k}}:=by
 have X:=H.mon a;have kp:KeepP (ix h.aa m mZ) {ix h.aa m mZ with aj:=up (ix h.aa m mZ).aj g k}:=⟨rfl,rfl⟩;exact⟨zRQ H a kp (zkx X kp rfl (zbQ _ _ _) rfl X.outs X.pend X.tr X.own X.gs),z0l (y:={ix h.aa m mZ with aj:=up (ix h.aa m mZ).aj g k}) a rfl rfl kp rfl rfl rfl rfl rfl,λR=>z3e R a c (b R)⟩
def zJt {k:ax}{a b:List k0}(h:KOk k a b)(p:Int):KOk (filled k a b p) a b:=by unfold filled zdP;cases d:i0 p (ln k.ay) with|false=>exact h|true=>have f:i0 p (ln k.aA)=true:=(by unfold ln at d ⊢;rw[h.l2,<- h.l1];exact d);have g:i0 p (ln a)=true:=(by unfold ln at d ⊢;rw[<- h.l1];exact d);rw[cond_true,f,cond_true,g,cond_true];refine⟨by rw[zbQ];exact h.l1,by rw[zbQ];exact h.l2,λi c=>?_⟩;by_cases e:p=i;{subst e;show ix (up _ p _) p sZ=bif ix (up _ p true) p false then _ else _;rw[zbf f,zbf d];rfl};{show ix (up _ p _) i sZ=bif ix (up _ p true) i false then _ else _;rw[zbw (zG.1 f).1 (zG.1 c).1 e,zbw (zG.1 f).1 (zG.1 c).1 e];exact h.at' i c}
def z7n {h:ac}(H:HOk h){m g:Int}(b:i0 m (ln h.aa)=true)(hg:i0 g (ln (ix h.aa m mZ).ad)=true)(a:Int):Op h (zd2 h m g a):=
 z2R H b (by unfold ln;rw[(H.mon b).gt];exact hg) λR=>zJt (R.t m b g hg) a
def zY3 {k:ax}{a b:List k0}(h:KOk k a b){p:Int}(c:i0 p (ln a)=true):zfo k p=bif ix k.ay p false then zby (ix a p sZ) b else z0:=by have d:i0 p (ln k.ay)=true:=(by unfold ln at c ⊢;rw[h.l1];exact c);have e:i0 p (ln k.aA)=true:=(by unfold ln at c ⊢;rw[h.l2];exact c);unfold zfo zkw zdP;rw[d,e,cond_true,cond_true,h.at' p c];cases ix k.ay p false<;>rfl
def zWW {k:ax}{a b:List k0}(h:KOk k a b){p:Int}(c:i0 p (ln a)=true):zfo (filled k a b p) p=zby (ix a p sZ) b:=by rw[zY3 (zJt h p) c];have d:i0 p (ln k.ay)=true:=(by unfold ln at c ⊢;rw[h.l1];exact c);have e:i0 p (ln k.aA)=true:=(by unfold ln at c ⊢;rw[h.l2];exact c);have:ix (filled k a b p).ay p false=true:=(by unfold filled zdP;rw[d,e,c];exact zbf d _ _);rw[this];rfl
def z8O {h:ac}(H:HOk h){m g a:Int}(i:Bool)(n:Rt h->zc5 h (zQx h m g a)=true):Op h (zuH h m g a i):=by have f:∀(j k:List au),Like h ⟨h.ag,h.aa,j,k⟩:=λ_ _=>⟨rfl,λ_ _=>rfl,λ_ _=>rfl,λ_ _=>rfl,λ_ _=>rfl,λ_ _=>rfl,λ_ _ _ _=>rfl⟩;have d:∀(b:List au),(∀e∈b,zc5 h e=true)->Rt h->∀e∈zpp b (zQx h m g a),zc5 h e=true:=(by intro b l R e c;rcases z3b c with c|c;{exact l e c};{rw [c];exact n R});unfold zuH;cases i;{exact⟨⟨H.m12,H.pgs,H.n1,H.n3,zVT H.b1 _,H.b2,H.mons,H.uq⟩,f _ _,λR=>⟨R.t,λe c=>d _ R.e1 R e c,R.e2⟩⟩};{exact⟨⟨H.m12,H.pgs,H.n1,H.n3,H.b1,zVT H.b2 _,H.mons,H.uq⟩,f _ _,λR=>⟨R.t,R.e1,λe c=>d _ R.e2 R e c⟩⟩}
def z2r {b:List au}{t p:Int}{e:au}(h:zCI b t p=some e):e∈b/\e.Tag=t/\e.af=p:=by unfold zCI at h;have a:=List.find?_some h;rw[zb9,zbv,zbv]at a;exact⟨uN h,a⟩
def zjz {h:ac}{m g:Int}:zbZ h m g=true↔HOk h/\i0 m (ln h.aa)=true/\i0 g (ln (ix h.aa m mZ).ad)=true:=by unfold zbZ;rw[zb9,zb9,zgv]
structure GOk (x:ah):Prop where
 prog:zdk x.aw=true
 a:zi x.A 0 99=true
 pc:zi x.Pc 0 12=true
 w:zc4 x.az 4 8=true
 l:zc4 x.av 4 8=true
 ctl:zld x.Ctl=true
 pend:zdH x.ak=true
 ex:zhI x.Exit=true
 seen:ile (ln x.aC) 40=true
def zss {x:ah}:zdY x=true↔GOk x:=by unfold zdY;simp only[qE];exact⟨λ⟨a,b,c,d,e,f,g,h,i⟩=>⟨a,b,c,d,e,f,g,h,i⟩,λ⟨a,b,c,d,e,f,g,h,i⟩=>⟨a,b,c,d,e,f,g,h,i⟩⟩
def z08 {s:k0}:zdX s 8=true↔s=z0\/(0<=s.af/\s.af<=7/\1<=s.ai/\s.ai<=3):=by unfold zdX;rw[zsK,zoU,zrb];have:wsub .i64 8 1=7:=(by decide);simp only[this,zsK,zcL];simp[igt];constructor;{rintro (h|⟨h,⟨a,b⟩,c⟩);{exact .inl h};{exact .inr ⟨a,b,c⟩}};{intro h;by_cases d:s=z0;{exact .inl d};{rcases h with h|⟨a,b,c⟩;{exact .inl h};{exact .inr ⟨d,⟨a,b⟩,c⟩}}}
def HOk.guest {h:ac}(H:HOk h){m g:Int}(a:i0 m (ln h.aa)=true)(hg:i0 g (ln (ix h.aa m mZ).ad)=true):GOk (ix (ix h.aa m mZ).ad g gZ):=zss.1 ((H.mon a).gs _ (zlk hg _))
structure Walked (l:List k0) (p n q:Int):Prop where
 hp:i0 p (ln l)=true
 pg:(ix l p sZ).af=q
 q8:i0 q 8=true
 en:enough (ix l p sZ).ai n=true
def walked {x:ah}(X:GOk x){p n:Int}(a:zfD x.av p n=true):Walked x.av p n (zcF x.av p n):=by have e:zcF x.av p n=(zbC x.av p).af:=(by unfold zcF;rw[a];rfl);unfold zfD at a;by_cases b:(zbC x.av p).af = -1;{rw [zbv.2 b]at a;cases a};{rw [zbY.2 b,cond_false,zb9]at a;have c:i0 p (ln x.av)=true:=(by cases c:i0 p (ln x.av) with|true=>rfl|false=>exact absurd (by unfold zbC;rw[c];rfl) b);rw[znl c] at e b a;rw[e];have d:=z08.1 ((zqI.1 X.l).1 _ (zlk c sZ));refine⟨c,rfl,?_,a.1⟩;rcases d with d|d;{rw [d]at b;exact absurd rfl b};{exact zG.2 (by omega)}}
structure Looked (h r:ac) (m g page need q host:Int):Prop where
 op:Op h r
 inn:(ix (ix r.aa m mZ).ae q sZ).af=host
 ne:host≠-1
 en:enough (zby (ix (ix (ix h.aa m mZ).ad g gZ).av page sZ) (ix r.aa m mZ).ae).ai need=true
 cp:(zby (ix (ix (ix h.aa m mZ).ad g gZ).av page sZ) (ix r.aa m mZ).ae).af=host
 dk:∀k,i0 k 8=true->k≠q->ix (ix r.aa m mZ).ar k false=ix (ix h.aa m mZ).ar k false
 dq:need=2->ix (ix r.aa m mZ).ar q false=true
 d1:need=1->(ix r.aa m mZ).ar=(ix h.aa m mZ).ar
 dm:∀i,i0 i (ln h.aa)=true->i≠m->(ix r.aa i mZ).ar=(ix h.aa i mZ).ar
def zOr {h:ac}(S:Safe h){m g a b q:Int}(f:i0 m (ln h.aa)=true)(hg:i0 g (ln (ix h.aa m mZ).ad)=true)(l:b=1\/b=2)(W:Walked (ix (ix h.aa m mZ).ad g gZ).av a b q)(c:Bool)(d:zfo (zcz h m g) a=zby (ix (ix (ix h.aa m mZ).ad g gZ).av a sZ) (ix h.aa m mZ).ae)(i:enough (zfo (zcz h m g) a).ai b=true) :
 Op h (zhM h m g a c).1/\(zhM h m g a c).2=((ix (ix h.aa m mZ).ae q sZ).af,true)/\(ix (ix h.aa m mZ).ae q sZ).af≠-1/\(zhM h m g a c).1.aa=h.aa:=by
 rw[d]at i;have e:=zo9 l i;rw[W.pg,znl<|(S.ok.mon f).hasO W.q8]at e;refine⟨z8O S.ok c λR=>?_,?_,e.2.1,?_⟩
 .obtain⟨t1,t2⟩:=S.ok.tag f hg;obtain⟨j,k,_⟩:=zTT t1 t2;rw[zfK]
  show i0 (zdI<|ze0 m g) _=true/\i0 (zep<|ze0 m g) (ln (ix h.aa (zdI<|ze0 m g) mZ).ad)=true/\below' ⟨(zfo (zcz h m g) a).af,(zfo (zcz h m g) a).ai⟩ (zby (zbC (ix (ix h.aa (zdI<|ze0 m g) mZ).ad (zep<|ze0 m g) gZ).av a) (ix h.aa (zdI<|ze0 m g) mZ).ae)=true
  rw[j,k,znl W.hp,d];exact⟨f,hg,zqL.2<|.inr ⟨rfl,zUD<|zW4 _ _⟩⟩
 .show ((zfo (zcz h m g) a).af,true)=_
  rw[d,e.2.2]
 .show (zuH h m g a c).aa=_
  unfold zuH;cases c<;>rfl
def zSL {h:ac}(S:Safe h){m g page need q:Int}(x:i0 m (ln h.aa)=true)(hg:i0 g (ln (ix h.aa m mZ).ad)=true)(D:need=1\/need=2)(W:Walked (ix (ix h.aa m mZ).ad g gZ).av page need q)(N:Bool){b:List au}(hb:∀e∈b,zc5 h e=true)(hd:need=2->ix (ix h.aa m mZ).ar q false=true) :
 Looked h (zhL h b m g page need q N).1 m g page need q (zhL h b m g page need q N).2.1/\(zhL h b m g page need q N).2.2=true:=by
 have X:=S.ok.mon x;have r:=W.q8;have L:=znl (X.hasO W.q8);unfold zhL;cases K:zhy b m g page need with
 |true=>
  rw[cond_true];unfold zhy at K;cases B:zqP b m g page with
  |none=>rw[B]at K;cases K
  |some e=>rw[B]at K;have A:enough e.ai need=true:=K;obtain⟨f1,f2,f3⟩:=z2r B;obtain⟨t1,t2⟩:=S.ok.tag x hg;obtain⟨b1,b2,_⟩:=zTT t1 t2;obtain⟨_,_,v⟩:=zfK.1 (hb e f1);rw[f2,b1,b2,f3,znl W.hp]at v;have T:(⟨e.ac,e.ai⟩:k0)≠z0:=λf=>(by have:e.ai=0:=congrArg k0.ai f;rw[this,zpZ D]at A;cases A);rcases zqL.1 v with v|⟨v,h4⟩;{exact absurd v T};{have h5:=zRz h4 A;have f:=zo9 D h5;rw[W.pg,L]at f;have O:e.ac=_:=v;refine⟨⟨Op.refl S.ok,f.2.2.symm.trans v.symm,?_,h5,v.symm,λ_ _ _=>rfl,hd,λ_=>rfl,λ_ _ _=>rfl⟩,rfl⟩;show e.ac≠-1;rw[O,f.2.2];exact f.2.1}
 |false=>
  rw[cond_false];have P:=S.rt.t m x g hg;cases y:zfa h m g page need with
  |false=>rw[cond_false];have E:ix (zcz h m g).ay page false=true/\enough (zfo (zcz h m g) page).ai need=true:=(by unfold zfa at y;cases n:zkw (zcz h m g) page with|false=>rw[n]at y;cases y|true=>rw[n,cond_true]at y;refine⟨?_,?_⟩;{unfold zkw at n;cases hh:zdP (zcz h m g) page with|false=>rw[hh]at n;cases n|true=>rw[hh]at n;exact n};{cases hz:ieq (zfo (zcz h m g) page).af (-1) with|true=>rw[hz]at y;cases y|false=>rw[hz]at y;simpa using y});have H:zfo (zcz h m g) page=zby (ix (ix (ix h.aa m mZ).ad g gZ).av page sZ) (ix h.aa m mZ).ae:=(by have Z:=zY3 P W.hp;have h1:ix (ix (ix h.aa m mZ).aj g kZ).ay page false=true:=E.1;rw[h1]at Z;exact Z);obtain⟨U,V,Y,d⟩:=zOr S x hg D W N H E.2;rw[V];have J:=E.2;rw[H]at J;have f:=zo9 D J;rw[W.pg,L]at f;exact⟨⟨U,by rw[d],Y,by rw[d];exact J,by rw[d];exact f.2.2,λ_ _ _=>by rw[d],λe=>by rw[d];exact hd e,λ_=>by rw[d],λ_ _ _=>by rw[d]⟩,rfl⟩
  |true=>
   rw[cond_true];have M:=zq1 S.ok (m:=m) (p:=q) need x r;have c:i0 m (ln (A0 h m q need).aa)=true:=(by rw[M.op.like.has];exact x);have C:(ix (A0 h m q need).aa m mZ).ad=(ix h.aa m mZ).ad:=M.op.like.g m x;have l:i0 g (ln (ix (A0 h m q need).aa m mZ).ad)=true:=(by rw[C];exact hg);have G:Safe (A0 h m q need):=M.op.safe S;have F:=z7n G.ok c l page;have S2:Safe (zd2 (A0 h m q need) m g page):=F.safe G;have R:i0 m (ln (zd2 (A0 h m q need) m g page).aa)=true:=(by rw[F.like.has];exact c);have u:ix (zd2 (A0 h m q need) m g page).aa m mZ={ix (A0 h m q need).aa m mZ with aj:=up (ix (A0 h m q need).aa m mZ).aj g (filled (zcz (A0 h m q need) m g) (zcU (A0 h m q need) m g) (ix (A0 h m q need).aa m mZ).ae page)}:=zbf c _ _;have Q:i0 g (ln (ix (zd2 (A0 h m q need) m g page).aa m mZ).ad)=true:=(by rw[u];exact l);have w:(ix (zd2 (A0 h m q need) m g page).aa m mZ).ad=(ix h.aa m mZ).ad:=(by rw[u];exact C);have W2:Walked (ix (ix (zd2 (A0 h m q need) m g page).aa m mZ).ad g gZ).av page need q:=(by rw[w];exact W);have H:zfo (zcz (zd2 (A0 h m q need) m g page) m g) page=zby (ix (ix (ix (zd2 (A0 h m q need) m g page).aa m mZ).ad g gZ).av page sZ) (ix (zd2 (A0 h m q need) m g page).aa m mZ).ae:=(by have:zcz (zd2 (A0 h m q need) m g page) m g=filled (zcz (A0 h m q need) m g) (zcU (A0 h m q need) m g) (ix (A0 h m q need).aa m mZ).ae page:=(by unfold zcz;rw[u];exact zbf (by unfold ln;rw[(G.ok.mon c).gt];exact l) _ _);rw[this];refine(zWW (p:=page) (G.rt.t m c g l) (by rw[C];exact W.hp)).trans ?_;rw[u]);have z:(ix (zd2 (A0 h m q need) m g page).aa m mZ).ae=(ix (A0 h m q need).aa m mZ).ae:=by rw[u]
   have j:=znl ((G.ok.mon c).hasO r);have a:=zQ9 (s:=ix (ix (ix h.aa m mZ).ad g gZ).av page sZ) (o:=(ix (A0 h m q need).aa m mZ).ae) D (by rw[W.pg];have:=zG.1 r;omega) (by rw[W.pg,j];exact M.inn) W.en (by
    rw[W.pg,j];rcases D with rfl|rfl
    .rcases (G.ok.mon c).enough1 r M.inn with e|e<;>rw [e]<;>decide
    .rw [M.ri (by decide)];decide)
   have J:enough (zfo (zcz (zd2 (A0 h m q need) m g page) m g) page).ai need=true:=(by rw[H,w,z];exact a.2);obtain⟨U,V,Y,d⟩:=zOr S2 R Q D W2 N H J;rw[V];have I:=a.1;rw[W.pg,j]at I;refine⟨⟨(M.op.trans F).trans U,by rw[d],Y,by rw[d,z];exact a.2,by rw[d,z];exact I,λk n f=>?_,λe=>?_,λe=>?_,λi hi f=>?_⟩,rfl⟩;{rw [d,u];exact M.dk k n f};{rw [d,u];exact M.dt (by rw[e];decide)};{rw [d,u];exact M.d0 (by rw[e];decide)};{rw [d];show (ix (up (A0 h m q need).aa m _) i mZ).ar=_;rw[zbw (zG.1 x).1 (zG.1 hi).1<|Ne.symm f];exact M.dm i hi f}
def zEW {n:Int}:zjB n=true↔n=1\/n=2:=by unfold zjB;by_cases h:n=1;{rw [zbv.2 h];simp[h]};{rw [zbY.2 h,cond_false,zbv];simp[h]}
def zp5 {h:ac}{m g page need:Int}:zb8 h m g page need=true↔zbZ h m g=true/\(need=1\/need=2)/\zfD (zcU h m g) page need=true:=by unfold zb8;rw[zb9,zb9,zEW]
def zOt {h:ac}(S:Safe h){m g page need:Int}(j:Bool)(t:zb8 h m g page need=true){b:List au}(r:∀e∈b,zc5 h e=true) :
 Looked h (lookOf h b m g page need j).1 m g page need (zcF (zcU h m g) page need) (lookOf h b m g page need j).2.1/\(lookOf h b m g page need j).2.2=true:=by
 obtain⟨w,A,B⟩:=zp5.1 t;obtain⟨_,a,hg⟩:=zjz.1 w;have W:=walked (S.ok.guest a hg) B;unfold lookOf;rw[t,cond_true];rcases A with rfl|rfl
 .rw [show ieq 1 2=false by decide,cond_false]
  exact zSL S a hg (.inl rfl) W j r (λe=>absurd e (by decide))
 .rw [show ieq 2 2=true by decide,cond_true]
  obtain⟨d,C⟩:=zJ0 S.ok a (zcF (zcU h m g) page 2);have p:i0 m (ln (zbJ h m<|zcF (zcU h m g) page 2).aa)=true:=by rw[d.like.has];exact a
  have f:ix (zbJ h m<|zcF (zcU h m g) page 2).aa m mZ={ix h.aa m mZ with ar:=up (ix h.aa m mZ).ar (zcF (zcU h m g) page 2) true}:=zbf a _ _;have x:=(S.ok.mon a).hasD W.q8;obtain⟨L,y⟩:=zSL (d.safe S) p (g:=g) (page:=page) (need:=2) (q:=zcF (zcU h m g) page 2) (by rw[f];exact hg) (.inr rfl) (by rw[f];exact W) j (b:=b) (λe z=>by
   obtain⟨l,u,v⟩:=zfK.1 (r e z);rw[zfK];have n:i0 (zdI e.Tag) (ln (zbJ h m<|zcF (zcU h m g) page 2).aa)=true:=by rw[d.like.has];exact l
   refine⟨n,by rw[d.like.g _ l];exact u,?_⟩
   rw[d.like.g _ l];have:(ix (zbJ h m<|zcF (zcU h m g) page 2).aa (zdI e.Tag) mZ).ae=(ix h.aa (zdI e.Tag) mZ).ae:=by show (ix (up h.aa m _) _ mZ).ae=_;by_cases c:m=zdI e.Tag;{rw [<- c,zbf a]};{rw [zbw (zG.1 a).1 (zG.1 l).1 c]}
   rw[this];exact v) (λ_=>by rw[f];exact zbf x _ _)
  refine⟨⟨d.trans L.op,L.inn,L.ne,?_,?_,λk s c=>?_,L.dq,λe=>absurd e (by decide),λi n c=>?_⟩,y⟩
  .have:=L.en;rw[f] at this;exact this
  .have:=L.cp;rw[f] at this;exact this
  .rw [L.dk k s c,f];exact zbw (zG.1 W.q8).1 (zG.1 s).1 (Ne.symm c) _ _
  .rw [L.dm i (by rw[d.like.has];exact n) c]
   show (ix (up h.aa m _) i mZ).ar=_
   rw[zbw (zG.1 a).1 (zG.1 n).1<|Ne.symm c]
def zNx {x y:Int}(a : -9223372036854775808<=x+y)(b:x+y<=9223372036854775807):zO .i64 x y=x+y:=by unfold zO;simp only[IntKind.wrap,IntKind.signed,IntKind.bits];simp;omega
def zIr {n:Nat}{P:Int->Prop}(h:∀i:Fin n,P ((i.val:Nat):Int)){x:Int}(a:0<=x)(b:x<n):P x:=by have:=h ⟨x.toNat,by omega⟩;simpa [show ((x.toNat:Nat):Int)=x by omega] using this
def zTd {p:Int}:zdH p=true↔0<=p/\p<=255:=by unfold zdH;exact zcL
def zOG {p:Int}(h:zdH p=true):zdH (zjS p)=true:=by have a:=zTd.1 h;exact zIr (n:=256) (P:=λx=>zdH (zjS x)=true) (by decide +kernel) a.1 (by omega)
def zOF {p:Int}(h:zdH p=true)(n:Int):zdH (zr7 p n)=true:=by unfold zr7 zhi;rw[h,cond_true];cases e:zi n 0 7 with|false=>exact h|true=>rw[cond_true];have b:=zTd.1 h;have a:=zcL.1 e;exact zIr (n:=256) (P:=λx=>∀k,0<=k->k<(8:Int)->zdH (wor .i64 x<|zoZ .i64 1 k)=true) (λi k c d=>zIr (n:=8) (P:=λk=>zdH (wor .i64 ((i.val:Nat):Int)<|zoZ .i64 1 k)=true) (by revert i;decide +kernel) c d) b.1 (by omega) n a.1 (by omega)
structure GKeep (x y:ah):Prop where
 ok:GOk y
 live:y.av=x.av
def zXz {x:ah}(X:GOk x){c:Int}(b:zi c 0 12=true):GOk {x with Pc:=c}:=⟨X.prog,X.a,b,X.w,X.l,X.ctl,X.pend,X.ex,X.seen⟩
def zXy {x:ah}(X:GOk x){c:Int}(a:zi c 0 99=true):GOk {x with A:=c}:=⟨X.prog,a,X.pc,X.w,X.l,X.ctl,X.pend,X.ex,X.seen⟩
def zi8 {x:ah}(X:GOk x):GKeep x (zcf x):=by unfold zcf;have a:=zcL.1 X.pc;cases h:ige x.Pc 12 with|true=>exact⟨zXz X (by decide),rfl⟩|false=>have:¬ x.Pc≥12:=jX h;refine⟨zXz X ?_,rfl⟩;rw[zNx (by omega) (by omega)];exact zcL.2 (by omega)
def zRI {x:ah}(X:GOk x)(n:Int):GKeep x (saw x n):=by unfold saw;cases h:ilt (ln x.aC) 40 with|false=>exact⟨X,rfl⟩|true=>have:ln x.aC<40:=qF h;refine⟨⟨X.prog,X.a,X.pc,X.w,X.l,X.ctl,X.pend,X.ex,qK ?_⟩,rfl⟩;unfold ln ap at *;simp;omega
def zi9 {x:ah}(X:GOk x){e:aD}(b:zhI e=true):GKeep x (stopped x e):=⟨⟨X.prog,X.a,X.pc,X.w,X.l,X.ctl,X.pend,b,X.seen⟩,rfl⟩
def zWa {x:ah}(X:GOk x){p:Int}(b:zdH p=true):GKeep x {x with ak:=p}:=⟨⟨X.prog,X.a,X.pc,X.w,X.l,X.ctl,b,X.ex,X.seen⟩,rfl⟩
def zV7 {x:ah}(X:GOk x)(b:Bool):GKeep x {x with aF:=b}:=⟨⟨X.prog,X.a,X.pc,X.w,X.l,X.ctl,X.pend,X.ex,X.seen⟩,rfl⟩
def zV8 {x:ah}(X:GOk x):GKeep x (held x):=⟨(zi8 (zV7 X true).ok).ok,(zi8 (zV7 X true).ok).live⟩
def zZ1 {x:ah}(X:GOk x){v:Int}(c:zi v 0 99=true):GKeep x (loaded x v):=by have a:=zRI (zXy X c) v;have b:=zi8 a.ok;exact⟨b.ok,b.live.trans a.live⟩
def zLl {x:ah}(X:GOk x):GKeep x (interrupted x):=by unfold interrupted;cases zim x with|false=>exact⟨X,rfl⟩|true=>have a:=zWa X (zOG X.pend);rw[cond_true];exact⟨(zRI a.ok _).ok,(zRI a.ok _).live⟩
def zG4 {p:List Ins}(h:zdk p=true)(i:Int):zei (zcv p i)=true:=by unfold zcv;cases a:i0 i (ln p) with|false=>rfl|true=>unfold zdk at h;rw[zb9,qM]at h;exact h.1 _ (zlk a _)
def z8E {i:Ins}(h:zei i=true)(a:i.Op=3\/i.Op=4):0<=i.X/\i.X<=15:=by unfold zei at h;rcases a with e|e<;>rw [e]at h<;>exact zcL.1 h
def z0a {i:Ins}(h:zei i=true)(a:i.Op=5\/i.Op=6):0<=i.X/\i.X<=99:=by unfold zei at h;rcases a with e|e<;>rw [e]at h<;>exact zcL.1 h
def z9q {i:Ins}(h:zei i=true)(a:i.Op=8):0<=i.X/\i.X<=11:=by unfold zei at h;rw[a]at h;exact zcL.1 h
def z9p {i:Ins}(h:zei i=true)(a:i.Op=1):0<=i.X/\i.X<=99:=by unfold zei at h;rw[a]at h;exact zcL.1 h
def zXA {x:ah}(X:GOk x):GKeep x (plainly x):=by have M:=zi8 X;have b:=zG4 X.prog x.Pc;unfold plainly;cases ine (zbc x) 2 with|true=>exact⟨X,rfl⟩|false=>rw[cond_false];(cases zi x.A 0 99 with|false=>exact M|true=>rw[cond_true];(cases zi (zcv x.aw x.Pc).X 0 99 with|false=>exact M|true=>rw[cond_true];by_cases c:(zcv x.aw x.Pc).Op=1;{rw [zbv.2 c,cond_true];exact⟨zXy M.ok<|zcL.2<|z9p b c,M.live⟩};{rw [zbY.2 c,cond_false];by_cases d:(zcv x.aw x.Pc).Op=2;{rw [zbv.2 d,cond_true];refine⟨zXy M.ok ?_,M.live⟩;have f:=zcL.1 X.a;have i:0<=(zcv x.aw x.Pc).X/\(zcv x.aw x.Pc).X<=99:=(by unfold zei at b;rw[d]at b;exact zcL.1 b);rw[zcL];unfold zpO;rw[zNx (by omega) (by omega)];have g:=Int.tmod_nonneg (a:=x.A+(zcv x.aw x.Pc).X) 100 (by omega);have h:=Int.tmod_lt_of_pos (x.A+(zcv x.aw x.Pc).X) (show (0:Int)<100 by omega);omega};{rw [zbY.2 d,cond_false];by_cases e:(zcv x.aw x.Pc).Op=8;{rw [zbv.2 e,cond_true];cases ieq x.A 0 with|true=>have:=z9q b e;exact⟨zXz M.ok<|zcL.2 (by omega),M.live⟩|false=>exact M};{rw [zbY.2 e];exact M}}}))
def zr6 {c:LI}:zcq c=true↔(∀x∈c,zi x 0 99=true)/\ln c=4:=by unfold zcq;rw[zb9,qM,zbv]
def zl9 (h:ac)(m:Int):∀(n i:Nat),(zcx h m n i).length=n
 | 0,_=>rfl
 |n+1,i=>by rw[zcx,qZ,zl9 h m n]
def zJ9 (h:ac)(m:Int):∀(n i k:Nat) (a:k<(zcx h m n i).length),(zcx h m n i)[k]=zcC h m ((i+k:Nat):Int)
 | 0,i,k,a=>by simp[zcx]at a
 |n+1,i,k,a=>by cases k with|zero=>rfl|succ k=>have:=zJ9 h m n (i+1) k (by simpa [zcx] using a);simp only[zcx,List.getElem_cons_succ];rw[this];congr 1;omega
def zpn {h:ac}{m q:Int}(b:i0 q 8=true)(d:LI):ix (zcx h m 8 0) q d=zcC h m q:=by have c:=zG.1 b;have a:q.toNat<(zcx h m 8 0).length:=(by rw[zl9];omega);have:=zlX a d;rw[show ((q.toNat:Nat):Int)=q by omega] at this;rw[this,zJ9];congr 1;omega
def zth (h:ac)(m:Int):ln (zcx h m 8 0)=8:=by unfold ln;rw[zl9];rfl
def zyp {h:ac}(H:HOk h){m p:Int}(b:i0 m (ln h.aa)=true)(a:i0 p 8=true):zcq (zcC h m p)=true:=by have X:=H.mon b;rw[<- zkG H b a];by_cases e:(ix (ix h.aa m mZ).ae p sZ).af = -1;{rw [zbv.2 e];exact((zpd<|X.slot a).1 (X.fit p a)).1 e};{rw [zbY.2 e];exact zOD H.pgs _}
def zxn {h:ac}(H:HOk h){m:Int}(b:i0 m (ln h.aa)=true):zca (zK h m)=true:=by have X:=H.mon b;unfold zK;rw[b,cond_true];unfold zca zhO;rw[zb9,qM];refine⟨X.gs,?_⟩;simp only[qE,zb9,qM,zbv,zcL];refine⟨⟨λc d=>?_,zth h m⟩,⟨?_,?_⟩,?_,X.pend⟩;{obtain⟨i,a,rfl⟩:=zBI d [];rw[zth]at a;rw[zpn a];exact zyp H b a};{unfold ln;have:=X.g1;omega};{unfold ln;have:=X.g2;omega};{unfold ile ln;have:=X.outs;exact qK (by omega)}
structure SimT (h r:ac) (m:Int) (f:am->am):Prop where
 safe:Safe r
 seen:∀i,zK r i=bif ieq i m then f (zK h i) else zK h i
 len:r.aa.length=h.aa.length
def SimT.trans {a b c:ac}{m:Int}{f g:am->am}(x:SimT a b m f)(y:SimT b c m g):SimT a c m (λt=>g (f t)):=by refine⟨y.safe,λi=>?_,y.len.trans x.len⟩;rw[y.seen i,x.seen i];cases ieq i m<;>rfl
def Op.sim {h r:ac}(k:Op h r)(S:Safe h)(m:Int):SimT h r m id:=⟨k.safe S,λi=>by rw[k.like.seen i];cases ieq i m<;>rfl,k.like.len⟩
def SimT.congr {h r:ac}{m:Int}{f g:am->am}(x:SimT h r m f)(e:f (zK h m)=g (zK h m)):SimT h r m g:=by refine⟨x.safe,λi=>?_,x.len⟩;rw[x.seen i];by_cases a:i=m;{subst a;rw[zbv.2 rfl,cond_true,cond_true,e]};{rw [zbY.2 a];rfl}
def SimT.has {h r:ac}{m:Int}{f:am->am}(x:SimT h r m f)(i:Int):i0 i (ln r.aa)=i0 i (ln h.aa):=by unfold ln;rw[x.len]
def SimT.refl {h:ac}(S:Safe h)(m:Int):SimT h h m id:=⟨S,λi=>by cases ieq i m<;>rfl,rfl⟩
def zvb {h:ac}(S:Safe h){m q a:Int}(l:i0 m (ln h.aa)=true)(f:i0 q 8=true)(J:(ix (ix h.aa m mZ).ae q sZ).af=a)(y:a≠-1)(c v:Int) :
 SimT h {h with ag:=zbM h.ag a c v} m (λb=>{b with ag:=zbM b.ag q c v})/\cellAt h.ag a c=cellAt (zK h m).ag q c:=by
 have H:=S.ok;have X:=H.mon l;have N:=X.slot f;have E:=z9Q H N (by rw[J];exact y)
 rw[J]at E;have z:ix h.ag a []=zcC h m q:=by have:=zkG H l f;rw[J,zbY.2 y,cond_false,zkF E] at this;exact this
 have n:ln (zcC h m q)=4:=(zr6.1<|zyp H l f).2;have d:(zK h m).ag=zcx h m 8 0:=by unfold zK;rw[l];rfl
 have C:zhN h.ag a c=i0 c 4:=by unfold zhN;rw[E,cond_true,z,n]
 have D:zhN (zcx h m 8 0) q c=i0 c 4:=by unfold zhN;rw[zth,f,cond_true,zpn f,n]
 have u:cellAt h.ag a c=cellAt (zK h m).ag q c:=by rw[d];unfold cellAt;rw[C,D,z,zpn f]
 refine⟨?_,u⟩;cases A:i0 c 4 with
 |false=>have s:zbM h.ag a c v=h.ag:=(by unfold zbM;rw[C,A];rfl);rw[s];refine(SimT.refl S m).congr ?_;show zK h m={zK h m with ag:=zbM (zK h m).ag q c v};rw[d];have B:zbM (zcx h m 8 0) q c v=zcx h m 8 0:=(by unfold zbM;rw[D,A];rfl);rw[B,<- d]
 |true=>
  cases K:zi v 0 99 with
  |false=>have s:zbM h.ag a c v=h.ag:=(by unfold zbM;rw[C,A,K];rfl);rw[s];refine(SimT.refl S m).congr ?_;show zK h m={zK h m with ag:=zbM (zK h m).ag q c v};rw[d];have B:zbM (zcx h m 8 0) q c v=zcx h m 8 0:=(by unfold zbM;rw[D,A,K];rfl);rw[B,<- d]
  |true=>have s:zbM h.ag a c v=up h.ag a (up (zcC h m q) c v):=(by unfold zbM;rw[C,A,K,z];rfl);have B:zbM (zcx h m 8 0) q c v=up (zcx h m 8 0) q (up (zcC h m q) c v):=(by unfold zbM;rw[D,A,K,zpn f];rfl);have G:zcq (up (zcC h m q) c v)=true:=(by have:=zr6.1 (zyp H l f);rw[zr6,zdV];refine⟨λx O=>?_,this.2⟩;rcases qX O with h|h;{exact this.1 x h};{rw [h];exact K});have P:=(zG.1 E).1;have L:HOk {h with ag:=zbM h.ag a c v}:=(by rw[s];refine⟨by show (up _ _ _).length=12;rw[zbQ];exact H.m12,λx O=>?_,H.n1,H.n3,H.b1,H.b2,H.mons,H.uq⟩;rcases qX O with h|h;{exact H.pgs x h};{rw [h];exact G});refine⟨⟨L,⟨S.rt.t,S.rt.e1,S.rt.e2⟩⟩,λi=>?_,rfl⟩;have r:∀i k,i0 i (ln h.aa)=true->i0 k 8=true->¬ (i=m/\k=q)->zcC {h with ag:=zbM h.ag a c v} i k=zcC h i k:=(by intro i k w g I;rw[<- zkG L (m:=i) (p:=k) w g,<- zkG H w g];show (cond (ieq (ix (ix h.aa i mZ).ae k sZ).af<|-1) _<|zcw (zbM h.ag a c v) _)=_;by_cases e:(ix (ix h.aa i mZ).ae k sZ).af = -1;{rw [zbv.2 e];rfl};{rw [zbY.2 e,cond_false,cond_false,s];exact zBL P (λe=>I (H.uniq w g l f e J P))});have F:zcC {h with ag:=zbM h.ag a c v} m q=up (zcC h m q) c v:=(by rw[<- zkG L (m:=m) (p:=q) l f];show (cond (ieq (ix (ix h.aa m mZ).ae q sZ).af<|-1) _<|zcw (zbM h.ag a c v) (ix (ix h.aa m mZ).ae q sZ).af)=_;rw[J,zbY.2 y,cond_false,s];exact zBK E);by_cases w:i=m;{subst w;rw[zbv.2 rfl,cond_true];unfold zK;show (cond (i0 i<|ln h.aa) _ _)=_;rw[l,cond_true,cond_true];show am.mk (zcx {h with ag:=zbM h.ag a c v} i 8 0) _ _ _=am.mk (zbM (zcx h i 8 0) q c v) _ _ _;congr 1;rw[B];refine zMQ [] (by rw[zbQ,zl9,zl9]) λk g=>?_;rw[zth]at g;rw[zpn g];by_cases e:q=k;{subst e;rw[zbf (by rw[zth];exact f),F]};{rw [zbw (zG.1 f).1 (zG.1 g).1 e,zpn g];exact r i k l g (λh=>e h.2.symm)}};{rw [zbY.2 w,cond_false];unfold zK;show (cond (i0 i<|ln h.aa) _ _)=_;cases M:i0 i (ln h.aa) with|false=>rfl|true=>rw[cond_true,cond_true];show am.mk (zcx {h with ag:=zbM h.ag a c v} i 8 0) _ _ _=_;rw[zp7 8 0 λj C D=>r i (j:Int) M (zG.2 (by omega)) λh=>w h.1]}
def zpJ {h:ac}(S:Safe h){m g:Int}(a:i0 m (ln h.aa)=true)(hg:i0 g (ln (ix h.aa m mZ).ad)=true){y:ah}(k:GKeep (gOf h m g) y):SimT h (zkI h m g y) m (λb=>zeC b g y):=by have X:=S.ok.mon a;have kp:KeepP (ix h.aa m mZ) {ix h.aa m mZ with ad:=up (ix h.aa m mZ).ad g y}:=⟨rfl,rfl⟩;refine⟨zva S a kp (zkx X kp (zbQ _ _ _) rfl rfl X.outs X.pend X.tr X.own λz d=>?_) (zbQ _ _ _) (λj c=>?_) rfl,λi=>?_,zbQ _ _ _⟩;{rcases qX d with h|h;{exact X.gs z h};{rw [h];exact zss.2 k.ok}};{show (ix (up (ix h.aa m mZ).ad g y) j gZ).av=_;by_cases e:g=j;{subst e;rw[zbf hg];exact k.live};{rw [zbw (zG.1 hg).1 (zG.1 c).1 e]}};{refine(ztK (h:=h) (r:=zkI h m g y) a rfl rfl kp i).trans ?_;by_cases e:i=m;{subst e;rw[zbv.2 rfl,cond_true,cond_true];unfold zeC zK;rw[a];rfl};{rw [zbY.2 e];rfl}}
def zTF {h:ac}(S:Safe h){m:Int}(a:i0 m (ln h.aa)=true){y:Mon}(kp:KeepP (ix h.aa m mZ) y)(d:MOk y)(hg:y.ad=(ix h.aa m mZ).ad)(c:y.aj=(ix h.aa m mZ).aj) :
 SimT h {h with aa:=up h.aa m y} m (λb=>{b with Outs:=y.Outs,ak:=y.ak}):=by
 refine⟨zva S a kp d (by rw[hg]) (λj _=>by rw[hg]) c,λi=>?_,zbQ _ _ _⟩
 refine(ztK (h:=h) (r:={h with aa:=up h.aa m y}) a rfl rfl kp i).trans ?_
 by_cases e:i=m
 .subst e;rw[zbv.2 rfl,cond_true,cond_true];unfold zK;rw[a,hg];rfl
 .rw [zbY.2 e];rfl
def zfl {h:ac}{m:Int}(a:i0 m (ln h.aa)=true):zK h m=⟨zcx h m 8 0,(ix h.aa m mZ).ad,(ix h.aa m mZ).Outs,(ix h.aa m mZ).ak⟩:=by unfold zK;rw[a];rfl
def z05 {h:ac}(S:Safe h){m:Int}(a:i0 m (ln h.aa)=true):SimT h (owned h m) m id:=by unfold owned;cases b:ilt (ix h.aa m mZ).Own 1000000000 with|false=>exact SimT.refl S m|true=>rw[cond_true];have X:=S.ok.mon a;have d:=zcL.1 X.own;have c:(ix h.aa m mZ).Own<1000000000:=qF b;have kp:KeepP (ix h.aa m mZ) {ix h.aa m mZ with Own:=zO .i64 (ix h.aa m mZ).Own 1}:=⟨rfl,rfl⟩;refine(zTF S a kp (zkx X kp rfl rfl rfl X.outs X.pend X.tr ?_ X.gs) rfl rfl).congr ?_;{show zi (zO .i64 (ix h.aa m mZ).Own 1) 0 1000000000=true;rw[zNx (by omega) (by omega),zcL];omega};{rw [zfl a];rfl}
def zYI {h:ac}(S:Safe h){m:Int}(a:i0 m (ln h.aa)=true)(n:Int):SimT h (znS h m n) m (λb=>znV b n):=by unfold znS;have X:=S.ok.mon a;cases c:ilt (ln (ix h.aa m mZ).Outs) 40 with|false=>refine(SimT.refl S m).congr ?_;rw[zfl a];unfold znV;rw[c];rfl|true=>rw[cond_true];have d:ln (ix h.aa m mZ).Outs<40:=qF c;have kp:KeepP (ix h.aa m mZ) {ix h.aa m mZ with Outs:=ap (ix h.aa m mZ).Outs [n]}:=⟨rfl,rfl⟩;refine(zTF S a kp (zkx X kp rfl rfl rfl ?_ X.pend X.tr X.own X.gs) rfl rfl).congr ?_;{show (ap (ix h.aa m mZ).Outs [n]).length<=40;unfold ln ap at *;simp;omega};{rw [zfl a];unfold znV;rw[c];rfl}
def zsX {h:ac}{m g:Int}(a:i0 m (ln h.aa)=true)(hg:i0 g (ln (ix h.aa m mZ).ad)=true):gAt (zK h m) g=gOf h m g:=by rw[zfl a];unfold gAt;show (cond (i0 g<|ln (ix h.aa m mZ).ad) _ _)=_;rw[hg];rfl
def zNy {x:ah}(h:zbc x=3\/zbc x=4\/zbc x=5\/zbc x=6):(zcv x.aw x.Pc).Op=zbc x:=by unfold zbc at h ⊢;cases e:canRun x with|false=>simp[e]at h|true=>simp only[e,cond_true]at h ⊢;(cases f:zim x with|true=>simp[f]at h|false=>simp only[f,cond_false]at h ⊢;unfold zwF at h ⊢;by_cases a:(zcv x.aw x.Pc).Op=3;{rw [a];rfl};{rw [zbY.2 a,cond_false]at h ⊢;by_cases b:(zcv x.aw x.Pc).Op=4;{rw [b];rfl};{rw [zbY.2 b,cond_false]at h ⊢;by_cases c:(zcv x.aw x.Pc).Op=5;{rw [c];rfl};{rw [zbY.2 c,cond_false]at h ⊢;by_cases d:(zcv x.aw x.Pc).Op=6;{rw [d];rfl};{rw [zbY.2 d,cond_false]at h ⊢;cases g:ieq (zcv x.aw x.Pc).Op 7<;>simp [g]at h}}}})
def z5V {x:ah}(X:GOk x){w:Int}(a:zbc x=w)(h:w=3\/w=4):0<=C0 x/\C0 x<=15:=by have e:C0 x=(zcv x.aw x.Pc).X:=(by unfold C0;rcases h with e|e;{rw [a,e];rfl};{rw [a,e];rfl});rw[e];exact z8E (zG4 X.prog _) (by rw[zNy (by omega),a];exact h)
def z5W {a:Int}(b:0<=a)(c:a<=15):zi (zbh a) 0 3=true/\i0 (zdl a) 4=true :=
 zIr (n:=16) (P:=λa=>zi (zbh a) 0 3=true/\i0 (zdl a) 4=true) (by decide) b (by omega)
def zXp {p:Int}(h:zi p 0 3=true)(w:Bool):zhI (zqN p w)=true:=by unfold zhI zqN;simp[ieq,h]
def zZP {n:Int}(h:zi n 0 99=true):zhI (zxO n)=true:=by unfold zhI zxO;simp[ieq,h]
def z2q {n:Int}(h:zi n 0 99=true):zhI (zwG n)=true:=by unfold zhI zwG;simp[ieq,h]
def z2w {x:ah}(X:GOk x)(t:Int){w:Int}(d:zbc x=w):GKeep x (zjx x t w):=by have c:=zG4 X.prog x.Pc;unfold zjx;by_cases b:w=6;{rw [zbv.2 b];exact zi9 X (zZP<|zcL.2<|z0a c (by rw[zNy (by omega),d];omega))};{rw [zbY.2 b,cond_false];by_cases a:w=5;{rw [zbv.2 a];cases zg7 t 1 with|true=>exact zi9 X (z2q<|zcL.2<|z0a c (by rw[zNy (by omega),d];omega))|false=>rw[a];exact zi8 X};{rw [zbY.2 a];rw[Bool.false_and,cond_false];cases e:(ieq w 7&&zg7 t 2) with|true=>exact zi9 X rfl|false=>rw[cond_false];cases ieq w 7;{exact zi8 X};{exact zV8 X}}}
def zWh {a:Type}(g:Int):i0 g (ln ([]:List a))=false:=by cases h:i0 g (ln ([]:List a)) with|false=>rfl|true=>have:=zG.1 h;simp[ln] at this;omega
def z1E {m:List LI}(h:∀c∈m,zcq c=true)(p c:Int):zi (cellAt m p c) 0 99=true:=by unfold cellAt zhN;cases b:i0 p (ln m) with|false=>rfl|true=>rw[cond_true];(cases a:i0 c (ln<|ix m p []) with|false=>rfl|true=>rw[cond_true];exact(zr6.1<|h _<|zlk b []).1 _ (zlk a 0))
def HOk.seenG {h:ac}(H:HOk h){m g:Int}(a:i0 m (ln h.aa)=true)(hg:i0 g (ln (ix h.aa m mZ).ad)=true):GOk (gOf h m g):=H.guest a hg
def zTQ {h:ac}(S:Safe h){m g:Int}(i:i0 m (ln h.aa)=true)(hg:i0 g (ln (ix h.aa m mZ).ad)=true)(w:Bool)(B:zbc (gOf h m g)=bif w then 4 else 3) :
 SimT h (zjw (zmu h m g (gOf h m g) w) m g (gOf h m g) w) m (λb=>znm b g (gOf h m g) w):=by
 have X:=S.ok.seenG i hg;have t:=z5V X B (by cases w<;>simp)
 have n:=z5W t.1 t.2;have z:zcb w=1\/zcb w=2:=by cases w<;>simp [zcb]
 unfold zjw zmu;cases k:zb8 h m g (zbh<|C0<|gOf h m g) (zcb w) with
 |false=>have e:lookOf h h.ao m g (zbh<|C0<|gOf h m g) (zcb w) false=(h,-1,false):=(by unfold lookOf;rw[k];rfl);have q:zfD (gOf h m g).av (zbh<|C0<|gOf h m g) (zcb w)=false:=(by cases y:zfD (gOf h m g).av (zbh<|C0<|gOf h m g) (zcb w) with|false=>rfl|true=>exact Bool.noConfusion (k.symm.trans<|zp5.2 ⟨zjz.2 ⟨S.ok,i,hg⟩,z,y⟩));rw[e];refine(zpJ S i hg<|zi9 X<|zXp n.1 w).congr ?_;unfold znm;rw[q];rfl
 |true=>obtain⟨L,x⟩:=zOt S false k S.rt.e1;obtain⟨_,_,j⟩:=zp5.1 k;have c:zfD (gOf h m g).av (zbh<|C0<|gOf h m g) (zcb w)=true:=j;have W:=walked X j;rw[x,cond_true];have l:=L.op.safe S;have f:i0 m (ln (lookOf h h.ao m g (zbh<|C0<|gOf h m g) (zcb w) false).1.aa)=true:=(by rw[L.op.like.has];exact i);have a:=L.op.like.g m i;have C:i0 (zcF (zcU h m g) (zbh<|C0<|gOf h m g)<|zcb w) 8=true:=W.q8;obtain⟨u,v⟩:=zvb l f C L.inn L.ne (zdl<|C0<|gOf h m g) (gOf h m g).A;rw[L.op.like.seen m] at v;cases w with|true=>rw[cond_true];have r:=L.op.sim S m;have p:i0 m (ln ({ (lookOf h h.ao m g (zbh<|C0<|gOf h m g) (zcb true) false).1 with ag:=zbM (lookOf h h.ao m g (zbh<|C0<|gOf h m g) (zcb true) false).1.ag (lookOf h h.ao m g (zbh<|C0<|gOf h m g) (zcb true) false).2.1 (zdl<|C0<|gOf h m g) (gOf h m g).A}:ac).aa)=true:=f;have d:i0 g (ln (ix ({ (lookOf h h.ao m g (zbh<|C0<|gOf h m g) (zcb true) false).1 with ag:=zbM (lookOf h h.ao m g (zbh<|C0<|gOf h m g) (zcb true) false).1.ag (lookOf h h.ao m g (zbh<|C0<|gOf h m g) (zcb true) false).2.1 (zdl<|C0<|gOf h m g) (gOf h m g).A}:ac).aa m mZ).ad)=true:=(by show i0 g (ln (ix (lookOf h h.ao m g (zbh<|C0<|gOf h m g) (zcb true) false).1.aa m mZ).ad)=true;rw[a];exact hg);have s:GKeep (gOf { (lookOf h h.ao m g (zbh<|C0<|gOf h m g) (zcb true) false).1 with ag:=zbM (lookOf h h.ao m g (zbh<|C0<|gOf h m g) (zcb true) false).1.ag (lookOf h h.ao m g (zbh<|C0<|gOf h m g) (zcb true) false).2.1 (zdl<|C0<|gOf h m g) (gOf h m g).A} m g) (zcf<|gOf h m g):=(by have:gOf { (lookOf h h.ao m g (zbh<|C0<|gOf h m g) (zcb true) false).1 with ag:=zbM (lookOf h h.ao m g (zbh<|C0<|gOf h m g) (zcb true) false).1.ag (lookOf h h.ao m g (zbh<|C0<|gOf h m g) (zcb true) false).2.1 (zdl<|C0<|gOf h m g) (gOf h m g).A} m g=gOf h m g:=(by show ix (ix (lookOf h h.ao m g (zbh<|C0<|gOf h m g) (zcb true) false).1.aa m mZ).ad g gZ=_;rw[a];rfl);rw[this];exact zi8 X);refine((r.trans u).trans (zpJ u.safe p d s)).congr ?_;unfold znm;rw[c];rfl|false=>rw[cond_false];have r:=L.op.sim S m;have d:i0 g (ln (ix (lookOf h h.ao m g (zbh<|C0<|gOf h m g) (zcb false) false).1.aa m mZ).ad)=true:=(by rw[a];exact hg);have s:GKeep (gOf (lookOf h h.ao m g (zbh<|C0<|gOf h m g) (zcb false) false).1 m g) (loaded (gOf h m g)<|cellAt (lookOf h h.ao m g (zbh<|C0<|gOf h m g) (zcb false) false).1.ag (lookOf h h.ao m g (zbh<|C0<|gOf h m g) (zcb false) false).2.1<|zdl<|C0<|gOf h m g):=(by have:gOf (lookOf h h.ao m g (zbh<|C0<|gOf h m g) (zcb false) false).1 m g=gOf h m g:=(by show ix (ix (lookOf h h.ao m g (zbh<|C0<|gOf h m g) (zcb false) false).1.aa m mZ).ad g gZ=_;rw[a];rfl);rw[this];exact zZ1 X (z1E l.ok.pgs _ _));refine(r.trans<|zpJ l f d s).congr ?_;unfold znm;rw[c,v];rfl
def z2v {h r:ac}{m g:Int}(e:(ix r.aa m mZ).ad=(ix h.aa m mZ).ad):gOf r m g=gOf h m g:=by unfold gOf;rw[e]
def z7o (h:ac)(m:Int)(a:i0 m (ln h.aa)=true):(ix (owned h m).aa m mZ).ad=(ix h.aa m mZ).ad:=by unfold owned;cases ilt (ix h.aa m mZ).Own 1000000000 with|false=>rfl|true=>show (ix (up h.aa m _) m mZ).ad=_;rw[zbf a]
def z2S (h:ac)(m n:Int)(a:i0 m (ln h.aa)=true):(ix (znS h m n).aa m mZ).ad=(ix h.aa m mZ).ad:=by unfold znS;cases ilt (ln (ix h.aa m mZ).Outs) 40 with|false=>rfl|true=>show (ix (up h.aa m _) m mZ).ad=_;rw[zbf a]
def z07 {h:ac}(S:Safe h){m:Int}(a:i0 m (ln h.aa)=true)(x:ah)(w:Int):SimT h (zgA h m x w) m id/\(ix (zgA h m x w).aa m mZ).ad=(ix h.aa m mZ).ad:=by unfold zgA;cases (cond (ine w 6) (ieq (zyo (ix h.aa m mZ).aq x.Ctl.aq<|zxu w) 2) false) with|false=>exact⟨SimT.refl S m,rfl⟩|true=>exact⟨z05 S a,z7o h m a⟩
def z06 {h:ac}(S:Safe h){m:Int}(a:i0 m (ln h.aa)=true)(x:ah)(w:Int):SimT h (zgz h m x w) m (λb=>bif (cond (zkj x.Ctl.aq w) (ieq w 5) false) then znV b (zcv x.aw x.Pc).X else b)/\(ix (zgz h m x w).aa m mZ).ad=(ix h.aa m mZ).ad:=by unfold zgz;cases (cond (zkj x.Ctl.aq w) (ieq w 5) false) with|false=>exact⟨SimT.refl S m,rfl⟩|true=>exact⟨zYI S a _,z2S h m _ a⟩
def zCj {h:ac}(S:Safe h){m g:Int}(d:i0 m (ln h.aa)=true)(hg:i0 g (ln (ix h.aa m mZ).ad)=true){w:Int}(l:zbc (gOf h m g)=w) :
 SimT h (zvf h m g (gOf h m g) w) m (λb=>zC5 b g (gOf h m g) w):=by
 have X:=S.ok.seenG d hg;obtain⟨f,j⟩:=z07 S d (gOf h m g) w;have a:i0 m (ln (zgA h m (gOf h m g) w).aa)=true:=by rw[f.has];exact d
 obtain⟨i,k⟩:=z06 f.safe a (gOf h m g) w;have e:i0 m (ln (zgz (zgA h m (gOf h m g) w) m (gOf h m g) w).aa)=true:=by rw[i.has];exact a
 have c:i0 g (ln (ix (zgz (zgA h m (gOf h m g) w) m (gOf h m g) w).aa m mZ).ad)=true:=by rw[k,j];exact hg
 have n:GKeep (gOf (zgz (zgA h m (gOf h m g) w) m (gOf h m g) w) m g) (zjx (gOf h m g) (gOf h m g).Ctl.aq w):=by rw[z2v<|k.trans j];exact z2w X _ l
 exact((f.trans i).trans (zpJ i.safe e c n)).congr rfl
def zYU (x:ah):zbc x=0\/zbc x=1\/zbc x=2\/zbc x=3\/zbc x=4\/zbc x=5\/zbc x=6\/zbc x=7:=by unfold zbc zwF;cases canRun x<;>cases zim x<;>cases ieq (zcv x.aw x.Pc).Op 3<;>cases ieq (zcv x.aw x.Pc).Op 4<;>cases ieq (zcv x.aw x.Pc).Op 5<;>cases ieq (zcv x.aw x.Pc).Op 6<;>cases ieq (zcv x.aw x.Pc).Op 7<;>simp
def zQ6 {h:ac}(H:HOk h)(m g:Int):zlb (zK h m) g=bif zbZ h m g then !ieq (zbc<|gOf h m g) 0 else false:=by unfold zlb zbZ;rw[zgv.2 H,cond_true];cases a:i0 m (ln h.aa) with|false=>have:(zK h m).ad=[]:=(by unfold zK;rw[a];rfl);rw[this,zWh];rfl|true=>rw[cond_true,zxn H a,cond_true];have:(zK h m).ad=(ix h.aa m mZ).ad:=(by rw[zfl a]);rw[this];(cases hg:i0 g (ln (ix h.aa m mZ).ad) with|false=>rfl|true=>rw[cond_true,cond_true,zsX a hg])
def step_ok {h:ac}(S:Safe h)(m g:Int):SimT h (zcu h m g).1 m (λb=>zh0 b g)/\(zcu h m g).2=zlb (zK h m) g:=by
 have a:=zQ6 S.ok m g;unfold zcu;cases i:zbZ h m g with
 |false=>rw[i,cond_false]at a;refine⟨(SimT.refl S m).congr ?_,a.symm⟩;unfold zh0;rw[a];rfl
 |true=>rw[i,cond_true]at a;rw[cond_true];obtain⟨_,c,hg⟩:=zjz.1 i;have X:=S.ok.seenG c hg;have f:=zsX c hg;have d:∀w,zbc (gOf h m g)=w->w≠0->zh0 (zK h m) g=stepped (zK h m) g (gOf h m g) w:=(by intro w j k;unfold zh0;rw[a,j,zbY.2 k,f,j];rfl);rcases zYU (gOf h m g) with e|e|e|e|e|e|e|e;{rw [e];rw[e]at a;refine⟨(SimT.refl S m).congr ?_,a.symm⟩;unfold zh0;rw[a];rfl};{rw [e]at a ⊢;exact⟨(zpJ S c hg<|zLl X).congr (d 1 e (by decide)).symm,a.symm⟩};{rw [e]at a ⊢;exact⟨(zpJ S c hg<|zXA X).congr (d 2 e (by decide)).symm,a.symm⟩};{rw [e]at a ⊢;exact⟨(zTQ S c hg false e).congr (d 3 e (by decide)).symm,a.symm⟩};{rw [e]at a ⊢;exact⟨(zTQ S c hg true e).congr (d 4 e (by decide)).symm,a.symm⟩};{rw [e]at a ⊢;exact⟨(zCj S c hg e).congr (d 5 e (by decide)).symm,a.symm⟩};{rw [e]at a ⊢;exact⟨(zCj S c hg e).congr (d 6 e (by decide)).symm,a.symm⟩};{rw [e]at a ⊢;exact⟨(zCj S c hg e).congr (d 7 e (by decide)).symm,a.symm⟩}
structure BackOk (b c:am):Prop where
 m:c.ag=b.ag
 o:c.Outs=b.Outs
 n:c.ad.length=b.ad.length
 g:∀j,i0 j (ln b.ad)=true->GKeep (ix b.ad j gZ) (ix c.ad j gZ)
 p:zdH b.ak=true->zdH c.ak=true
def z3m {h:ac}(S:Safe h){m:Int}(b:i0 m (ln h.aa)=true){c:am}(k:BackOk (zK h m) c):SimT h (zdd h m c) m (λ_=>c):=by have X:=S.ok.mon b;have f:=zfl b;have d:(zK h m).ad=(ix h.aa m mZ).ad:=(by rw[f]);have l:c.ad.length=(ix h.aa m mZ).ad.length:=(by rw[k.n,d]);have hg:∀j,i0 j (ln (ix h.aa m mZ).ad)=true->GKeep (ix (ix h.aa m mZ).ad j gZ) (ix c.ad j gZ):=λj a=>(by have:=k.g j (by rw[d];exact a);rwa [d] at this);have kp:KeepP (ix h.aa m mZ) (zt3 (ix h.aa m mZ) c):=⟨rfl,rfl⟩;have s:zdH c.ak=true:=k.p (by rw[f];exact X.pend);refine⟨zva S b kp (zkx X kp l rfl rfl X.outs s X.tr X.own λz t=>?_) l (λj a=>(hg j a).live) rfl,λi=>?_,zbQ _ _ _⟩;{obtain⟨j,a,rfl⟩:=zBI t gZ;exact zss.2 (hg j (by unfold ln at a ⊢;rw[<- l];exact a)).ok};{refine(ztK (h:=h) (r:=zdd h m c) b rfl rfl kp i).trans ?_;by_cases e:i=m;{subst e;rw[zbv.2 rfl,cond_true,cond_true];show am.mk (zK h i).ag c.ad (ix h.aa i mZ).Outs c.ak=c;have u:=k.m;have q:=k.o;rw[f]at q;cases c;simp_all};{rw [zbY.2 e];rfl}}
def seen_none {h:ac}{m:Int}(a:i0 m (ln h.aa)=false):zK h m=⟨[],[],[],0⟩:=by unfold zK;rw[a];rfl
def zsu:zca ⟨[],[],[],0⟩=false:=by decide
def zsJ {b:am}(h:zca b=false)(g:Int):zcd b g=false:=by unfold zcd;rw[h];rfl
def zhG {b:am}(h:zca b=true):BackOk b b:=⟨rfl,rfl,rfl,λj a=>⟨zss.1 (by
 unfold zca at h;rw[zb9,qM]at h;exact h.1 _ (zlk a _)),rfl⟩,id⟩
def zY7 {b:am}(h:zca b=true){g:Int}(hg:i0 g (ln b.ad)=true){y:ah}(k:GKeep (gAt b g) y):BackOk b (zeC b g y):=by have e:gAt b g=ix b.ad g gZ:=(by unfold gAt;rw[hg];rfl);refine⟨rfl,rfl,zbQ _ _ _,λj c=>?_,id⟩;show GKeep _ (ix (up b.ad g y) j gZ);by_cases a:g=j;{subst a;rw[zbf hg,<- e];exact k};{rw [zbw (zG.1 hg).1 (zG.1 c).1 a];exact(zhG h).g j c}
def zqK {b:am}(h:zca b=true){g:Int}{c:Bool}{y:ah}(k:i0 g (ln b.ad)=true->c=true->GOk (gAt b g)->GKeep (gAt b g) y):BackOk b (chg b g c y):=by unfold chg zcd;rw[h,cond_true];cases hg:i0 g (ln b.ad) with|false=>exact zhG h|true=>rw[cond_true];(cases c with|false=>exact zhG h|true=>refine zY7 h hg (k hg rfl ?_);have:=(zhG h).g g hg;unfold gAt;rw[hg];exact this.ok)
def zps {h:ac}(S:Safe h)(m:Int){F:am->am}(d:∀b,zca b=true->BackOk b (F b))(c:F ⟨[],[],[],0⟩=⟨[],[],[],0⟩):SimT h (zhu h m<|F<|zK h m) m F:=by unfold zhu zcV;rw[zgv.2 S.ok,cond_true];cases a:i0 m (ln h.aa) with|false=>refine(SimT.refl S m).congr ?_;rw[seen_none a];exact c.symm|true=>exact(z3m S a<|d _<|zxn S.ok a).congr rfl
def zkJ {h:ac}(S:Safe h)(m:Int){t:am->Bool}(a:t ⟨[],[],[],0⟩=false):zgw h m (t<|zK h m)=t (zK h m):=by unfold zgw zcV;rw[zgv.2 S.ok,cond_true];cases b:i0 m (ln h.aa) with|false=>rw[cond_false,seen_none b,a]|true=>rfl
def zo8 (g:Int)(c:Bool)(y:ah):chg ⟨[],[],[],0⟩ g c y=⟨[],[],[],0⟩:=by unfold chg;rw[zsJ zsu];rfl
def zi4 (g:Int)(c:Bool):zcg ⟨[],[],[],0⟩ g c=false:=by unfold zcg;rw[zsJ zsu];rfl
def zTS {t:List k0}{n q:Int}(h:zc4 t n q=true){p:Int}{s:k0}(b:zdX s q=true):zc4 (zeq t p s) n q=true:=by
 unfold zeq;cases i0 p (ln t) with
 |false=>exact h
 |true=>rw[cond_true];rw[zqI]at h ⊢;rw[zdV];refine⟨λx c=>?_,h.2⟩;rcases qX c with a|a;{exact h.1 x a};{rw [a];exact b}
def z6L {x:ah}(X:GOk x){p:Int}{s:k0}(h:zvS p s=true):GKeep x (zCh x p s):=by unfold zvS at h;rw[zb9]at h;exact⟨⟨X.prog,X.a,X.pc,zTS X.w h.2,X.l,X.ctl,X.pend,X.ex,X.seen⟩,rfl⟩
def z6I {x:ah}(X:GOk x){v:Int}(h:zvv x v=true):GKeep x (zxJ x v):=by unfold zvv at h;rw[zb9]at h;unfold zxJ;cases ieq x.Exit.Kind 2 with|true=>rw[cond_true];have b:=zi9 (zXy X h.1) (e:=zkB) rfl;have a:=zi8 b.ok;exact⟨a.ok,a.live⟩|false=>rw[cond_false];have b:=zi9 X (e:=zkB) rfl;have a:=zi8 b.ok;exact⟨a.ok,a.live.trans b.live⟩
def z6K {x:ah}(X:GOk x):GKeep x (zyt x):=by unfold zyt;have a:=zi9 X (e:=zkB) rfl;cases ieq x.Exit.Kind 1 with|true=>exact a|false=>have b:=zV8 a.ok;exact⟨b.ok,b.live.trans a.live⟩
def zV9 {x:ah}(X:GOk x)(n:Int):GKeep x (znJ x n):=zWa X (zOF X.pend n)
def z6J {x:ah}(X:GOk x){c:Ctl}(h:zld c=true):GKeep x (zLd x c):=⟨⟨X.prog,X.a,X.pc,X.w,X.l,h,X.pend,X.ex,X.seen⟩,rfl⟩
def zAU (n:Int):∀(d:LI) (b:am) (l:List ah),(∀k∈d,i0 k (ln b.ad)=true)->BackOk b {b with ad:=l}->BackOk b {b with ad:=zlp n d l}
 |[],b,l,_,h=>h
 |k::d,b,l,q,h=>by show BackOk b {b with ad:=zlp n d (zCX n l k)};refine zAU n d b _ (λj a=>q j (qY _ a)) ⟨h.m,h.o,by show (up l k _).length=_;rw[zbQ];exact h.n,λj a=>?_,h.p⟩;show GKeep _ (ix (up l k _) j gZ);have r:l.length=b.ad.length:=h.n;have c:i0 k (ln l)=true:=(by unfold ln;rw[r];exact q k jD);by_cases e:k=j;{subst e;rw[zbf c];have f:=h.g k a;have i:=zV9 f.ok n;exact⟨i.ok,i.live.trans f.live⟩};{rw [zbw (zG.1 c).1 (zG.1 a).1 e];exact h.g j a}
def zWY {b:am}(h:zca b=true)(n:Int):BackOk b (zka b n):=by
 unfold zka zfI zCY;rw[h,cond_true];cases i0 n 8 with
 |false=>exact zhG h
 |true=>
  rw[cond_true];cases ieq (ln<|zem b.ad n) 0 with
  |true=>have:=zhG h;exact⟨rfl,rfl,rfl,this.g,λc=>zOF c n⟩
  |false=>rw[cond_false];refine zAU n _ b b.ad (λk a=>?_) (zhG h);unfold zem at a;obtain⟨j,e,rfl,_⟩:=(zGC (d:=gZ)).1 a;exact zG.2 ⟨by omega,by unfold ln;omega⟩
def zY6 {b:am}(h:zca b=true):BackOk b (zmK b):=by unfold zmK;rw[h,cond_true];exact⟨rfl,rfl,rfl,(zhG h).g,λa=>zOG a⟩
def z3a {h:ac}(S:Safe h)(m p c v:Int):SimT h (zmQ h m p c v) m (λb=>zQB b p c v)/\zfs h m p c v=zwH (zK h m) p c v:=by have e:zfs h m p c v=zwH (zK h m) p c v:=(by unfold zfs zwH zbX z5J;rw[zgv.2 S.ok,cond_true];cases d:i0 m (ln h.aa) with|false=>rw[seen_none d,zsu];rfl|true=>rw[zxn S.ok d,cond_true];rfl);refine⟨?_,e⟩;unfold zmQ;cases f:zfs h m p c v with|false=>refine(SimT.refl S m).congr ?_;unfold zQB;rw[<- e,f];rfl|true=>rw[cond_true];have a:=f;unfold zfs at a;rw[zb9,zb9]at a;obtain⟨k,_,_⟩:=a;obtain⟨_,d,j⟩:=znU.1 k;have M:=zq1 S.ok (m:=m) (p:=p) 2 d j;have i:=M.op.sim S m;have g:i0 m (ln (A0 h m p 2).aa)=true:=(by rw[i.has];exact d);obtain⟨l,_⟩:=zvb i.safe g j rfl M.inn c v;refine(i.trans l).congr ?_;unfold zQB;rw[<- e,f];rfl
def z0o {h:ac}(S:Safe h)(m g b a:Int):zb8 h m g b a=(cond (zcd (zK h m) g) (cond (zjB a) (zfD (gAt (zK h m) g).av b a) false) false):=by have e:zbZ h m g=zcd (zK h m) g:=(by unfold zbZ zcd;rw[zgv.2 S.ok,cond_true];cases c:i0 m (ln h.aa) with|false=>rw[seen_none c,zsu,cond_false,cond_false]|true=>rw[cond_true,zxn S.ok c,cond_true];have:(zK h m).ad=(ix h.aa m mZ).ad:=(by rw[zfl c]);rw[this]);unfold zb8;rw[<- e];cases hg:zbZ h m g with|false=>rw[cond_false,cond_false]|true=>obtain⟨_,c,hg⟩:=zjz.1 hg;have:(gAt (zK h m) g).av=zcU h m g:=(by rw[zsX c hg];rfl);rw[this]
def zFT {h:ac}(S:Safe h)(m g a n:Int)(b:n=1\/n=2):znC (zK h m) g a n=bif zi a 0 15 then zb8 h m g (zbh a) n else false:=by rw[z0o S];unfold znC;rw[zEW.2 b,cond_true];cases zcd (zK h m) g<;>cases zi a 0 15<;>rfl
def zRx {h:ac}(S:Safe h){m g a n:Int}(f:n=1\/n=2)(b:znC (zK h m) g a n=true) :
 Looked h (zBt h m g a n).1 m g (zbh a) n (zCE (zK h m) g a n) (zBt h m g a n).2.1/\i0 m (ln h.aa)=true/\i0 (zCE (zK h m) g a n) 8=true:=by
 rw[zFT S m g a n f,zb9]at b;obtain⟨L,_⟩:=zOt S true b.2 S.rt.e2;obtain⟨d,_,i⟩:=zp5.1 b.2;obtain⟨_,c,hg⟩:=zjz.1 d;have e:zCE (zK h m) g a n=zcF (zcU h m g) (zbh a) n:=by unfold zCE;rw[zsX c hg];rfl
 rw[e];exact⟨L,c,(walked (S.ok.guest c hg) i).q8⟩
def z8x {h:ac}(S:Safe h)(m g a v:Int):SimT h (zpg h m g a v) m (λb=>zXm b g a v)/\zgU h m g a v=zxY (zK h m) g a v:=by have e:zgU h m g a v=zxY (zK h m) g a v:=(by unfold zgU zxY;rw[zFT S m g a 2 (.inr rfl)];cases zi a 0 15<;>cases zi v 0 99<;>cases zb8 h m g (zbh a) 2<;>rfl);refine⟨?_,e⟩;unfold zpg;cases c:zgU h m g a v with|false=>refine(SimT.refl S m).congr ?_;unfold zXm;rw[<- e,c];rfl|true=>rw[cond_true];have f:znC (zK h m) g a 2=true:=(by have:=e.symm.trans c;unfold zxY at this;exact(zb9.1 this).1);obtain⟨L,i,j⟩:=zRx S (.inr rfl) f;have d:=L.op.sim S m;obtain⟨k,_⟩:=zvb d.safe (by rw[d.has];exact i) j L.inn L.ne (zdl a) v;refine(d.trans k).congr ?_;unfold zXm;rw[<- e,c];rfl
def z7s {h:ac}(S:Safe h)(m g a:Int):SimT h (zmR h m g a) m id/\zf4 h m g a=znC (zK h m) g a 1/\zqX h m g a=zQF (zK h m) g a:=by have e:zf4 h m g a=znC (zK h m) g a 1:=(by unfold zf4;rw[zFT S m g a 1 (.inl rfl)]);unfold zmR zqX zQF;rw[e];cases d:znC (zK h m) g a 1 with|false=>exact⟨SimT.refl S m,rfl,rfl⟩|true=>obtain⟨L,f,i⟩:=zRx S (.inl rfl) d;have b:=L.op.sim S m;obtain⟨_,c⟩:=zvb b.safe (by rw[b.has];exact f) i L.inn L.ne (zdl a) 0;rw[L.op.like.seen m] at c;exact⟨b,rfl,c⟩
def z0c {k:ax}{a b:List k0}(h:KOk k a b)(p:Int)(s:k0):KOk (zbW k p) (zeq a p s) b:=by have j:=zkt k p;have f:(zeq a p s).length=a.length:=(by unfold zeq;cases i0 p (ln a)<;>simp [zbQ]);refine⟨by rw[j.1,f,h.l1],by rw[j.2,f,h.l2],λi l=>?_⟩;have c:i0 i (ln a)=true:=(by unfold ln at l ⊢;rwa [<- f]);have d:i0 i (ln k.ay)=true:=(by unfold ln at c ⊢;rwa [h.l1]);have g:=zvA (q:=p) (by rw[h.l1,h.l2]) d;rw[g.1,g.2];by_cases e:p=i;{subst e;rw[zbv.2 rfl];rfl};{rw [zbY.2 e,cond_false,cond_false,h.at' i c];have:ix (zeq a p s) i sZ=ix a i sZ:=(by unfold zeq;cases m:i0 p (ln a) with|false=>rfl|true=>exact zbw (zG.1 m).1 (zG.1 c).1 e _ _);rw[this]}
def z81 {t m g:Int}(a:zdI t=m)(b:zep t=g)(c:0<=m):t=ze0 m g:=by subst a;subst b;by_cases h:1<=t/\t<=6;{have e:t=1\/t=2\/t=3\/t=4\/t=5\/t=6:=(by omega);rcases e with rfl|rfl|rfl|rfl|rfl|rfl<;>decide};{exfalso;have:zdI t = -1:=(by unfold zdI ige ile;rw[show (decide (t≥1)&&decide (t<=6))=false by simp;omega];rfl);omega}
def zVE {t:List k0}{p q:Int}{s:k0}(h:q≠p):zbC (zeq t p s) q=zbC t q:=by unfold zeq;cases a:i0 p (ln t) with|false=>rfl|true=>exact zOP (zG.1 a).1 h
def z3n {t:List k0}(h:zc4 t 4 8=true)(p:Int):zdX (zbC t p) 8=true:=by unfold zbC;cases a:i0 p (ln t) with|false=>rfl|true=>exact(zqI.1 h).1 _ (zlk a _)
def zZ0 {x:ah}(X:GOk x)(p:Int):GOk (zd5 x p):=⟨X.prog,X.a,X.pc,X.w,zTS X.l<|z3n X.w p,X.ctl,X.pend,X.ex,X.seen⟩
def z2t {h:ac}(S:Safe h)(m g p:Int):SimT h (zku h m g p) m (λb=>chg b g (i0 p 4) (zd5 (gAt b g) p))/\zgw h m (zcg (zK h m) g<|i0 p 4)=zcg (zK h m) g (i0 p 4):=by
 refine⟨?_,zkJ S m (t:=λb=>zcg b g (i0 p 4))<|zi4 g _⟩;unfold zku zcV;rw[zgv.2 S.ok,cond_true];cases a:i0 m (ln h.aa) with
 |false=>refine(SimT.refl S m).congr ?_;rw[seen_none a,zo8];rfl
 |true=>
  rw[cond_true];cases w:zcg (zK h m) g (i0 p 4) with
  |false=>refine(SimT.refl S m).congr ?_;show zK h m=chg (zK h m) g (i0 p 4) (zd5 (gAt (zK h m) g) p);have c:=w;unfold zcg at c;unfold chg;rw[c];rfl
  |true=>rw[cond_true];have c:=w;unfold zcg zcd at c;rw[zxn S.ok a,cond_true,zb9,zfl a]at c;have hg:i0 g (ln (ix h.aa m mZ).ad)=true:=c.1;have X:=S.ok.mon a;have G:=S.ok.seenG a hg;have C:chg (zK h m) g (i0 p 4) (zd5 (gAt (zK h m) g) p)=zeC (zK h m) g (zd5 (gOf h m g) p):=(by have l:=w;unfold zcg at l;unfold chg;rw[l,zsX a hg];rfl);rw[C];have B:i0 g (ln (ix h.aa m mZ).aj)=true:=(by unfold ln;rw[X.gt];exact hg);have s:(zA9 (zdd h m<|zeC (zK h m) g<|zd5 (gOf h m g) p) m g p).aa=up h.aa m {ix h.aa m mZ with ad:=up (ix h.aa m mZ).ad g (zd5 (gOf h m g) p),aj:=up (ix h.aa m mZ).aj g (zbW (ix (ix h.aa m mZ).aj g kZ) p)}:=(by show up (up h.aa m _) m _=_;rw[z1q];have D:ix (zdd h m<|zeC (zK h m) g<|zd5 (gOf h m g) p).aa m mZ=zt3 (ix h.aa m mZ) (zeC (zK h m) g<|zd5 (gOf h m g) p):=zbf a _ _;rw[D];unfold zt3 zeC;rw[zfl a]);have kp:KeepP (ix h.aa m mZ) {ix h.aa m mZ with ad:=up (ix h.aa m mZ).ad g (zd5 (gOf h m g) p),aj:=up (ix h.aa m mZ).aj g (zbW (ix (ix h.aa m mZ).aj g kZ) p)}:=⟨rfl,rfl⟩;have K:MOk {ix h.aa m mZ with ad:=up (ix h.aa m mZ).ad g (zd5 (gOf h m g) p),aj:=up (ix h.aa m mZ).aj g (zbW (ix (ix h.aa m mZ).aj g kZ) p)}:=zkx X kp (zbQ _ _ _) (zbQ _ _ _) rfl X.outs X.pend X.tr X.own λz L=>(by rcases qX L with h|h;{exact X.gs z h};{rw [h];exact zss.2 (zZ0 G p)});have E:HOk (zA9 (zdd h m<|zeC (zK h m) g<|zd5 (gOf h m g) p) m g p):=S.ok.up a K s S.ok.m12 S.ok.pgs (zxM S.ok.b1 _) (zxM S.ok.b2 _) λq _=>.inl (qV _);have u:∀b:List au,(∀e∈b,zc5 h e=true)->∀e∈zcI b (ze0 m g) p,zc5 (zA9 (zdd h m<|zeC (zK h m) g<|zd5 (gOf h m g) p) m g p) e=true:=(by intro b F e H;obtain⟨x,y⟩:=zx0.1 H;obtain⟨l,n,r⟩:=zfK.1 (F e x);rw[zfK,s,zdV];refine⟨l,?_⟩;by_cases d:m=zdI e.Tag;{rw [<- d]at l n r ⊢;rw[zbf a];show i0 (zep e.Tag) (ln<|up _ _ _)=true/\below' _ (zby (zbC (ix (up (ix h.aa m mZ).ad g _) (zep e.Tag) gZ).av e.af) (ix h.aa m mZ).ae)=true;rw[zdV];refine⟨n,?_⟩;by_cases f:g=zep e.Tag;{rw [<- f]at n r ⊢;rw[zbf hg];have A:e.af≠p:=λJ=>y ⟨z81 d.symm f.symm (zG.1 a).1,J⟩;show below' _ (zby (zbC (zeq (gOf h m g).av p _) e.af) _)=true;rw[zVE A];exact r};{rw [zbw (zG.1 hg).1 (zG.1 n).1 f];exact r}};{rw [zbw (zG.1 a).1 (zG.1 l).1 d];exact⟨n,r⟩});refine⟨⟨E,⟨λi v=>?_,u _ S.rt.e1,u _ S.rt.e2⟩⟩,λi=>?_,by rw[s,zbQ]⟩;{rw [s]at v ⊢;rw[zdV]at v;by_cases d:m=i;{subst d;rw[zbf a];intro j I;show KOk (ix (up (ix h.aa m mZ).aj g _) j kZ) (ix (up (ix h.aa m mZ).ad g _) j gZ).av (ix h.aa m mZ).ae;have k:i0 j (ln (ix h.aa m mZ).ad)=true:=(by have:i0 j (ln<|up (ix h.aa m mZ).ad g<|zd5 (gOf h m g) p)=true:=I;rwa [zdV] at this);by_cases e:g=j;{subst e;rw[zbf B,zbf hg];exact z0c (S.rt.t m a g hg) p _};{rw [zbw (zG.1 hg).1 (zG.1 k).1 e,zbw (zG.1 hg).1 (zG.1 k).1 e];exact S.rt.t m a j k}};{rw [zbw (zG.1 a).1 (zG.1 v).1 d];exact S.rt.t i v}};{refine(ztK (h:=h) a s rfl kp i).trans ?_;by_cases e:i=m;{subst e;rw[zbv.2 rfl,cond_true,cond_true,C,zfl a];rfl};{rw [zbY.2 e];rfl}}
def zOY (g:Int):zh0 ⟨[],[],[],0⟩ g=⟨[],[],[],0⟩/\zlb ⟨[],[],[],0⟩ g=false:=by have:zlb ⟨[],[],[],0⟩ g=false:=(by unfold zlb;rw[zWh];rfl);refine⟨?_,this⟩;unfold zh0;rw[this];rfl
def z2z {h:ac}(S:Safe h)(a:GAct):SimT h (zta h a) a.M (λb=>zH8 b a)/\zBr h a=zH9 (zK h a.M) a:=by
 have f:=zsu;unfold zta zBr zH8 zH9;cases ieq a.Kind 1 with
 |true=>obtain⟨k,e⟩:=step_ok S a.M a.G;exact⟨k,by rw[cond_true,cond_true,e]⟩
 |false=>
  simp only[cond_false];cases ieq a.Kind 2 with
  |true=>
   exact⟨zps S a.M (F:=λb=>chg b a.G (zvS a.X ⟨a.Y,a.Z⟩) (zCh (gAt b a.G) a.X ⟨a.Y,a.Z⟩)) (λb c=>zqK c λ_ d G=>z6L G d)<|zo8 _ _ _,
    congrArg (λt=>aE.mk t 0) (zkJ S a.M (t:=λb=>zcg b a.G (zvS a.X ⟨a.Y,a.Z⟩))<|zi4 _ _)⟩
  |false=>
   simp only[cond_false];cases ieq a.Kind 3 with
   |true=>obtain⟨k,e⟩:=z2t S a.M a.G a.X;exact⟨k,congrArg (λt=>aE.mk t 0) e⟩
   |false=>
    simp only[cond_false];cases ieq a.Kind 4 with
    |true=>
     exact⟨zps S a.M (F:=λb=>chg b a.G (zvv (gAt b a.G) a.X) (zxJ (gAt b a.G) a.X)) (λb c=>zqK c λ_ d G=>z6I G d)<|zo8 _ _ _,
      congrArg (λt=>aE.mk t 0) (zkJ S a.M (t:=λb=>zcg b a.G (zvv (gAt b a.G) a.X))<|zi4 _ _)⟩
    |false=>
     simp only[cond_false];cases ieq a.Kind 5 with
     |true=>
      exact⟨zps S a.M (F:=λb=>chg b a.G (zBR<|gAt b a.G) (zyt<|gAt b a.G)) (λb c=>zqK c λ_ _ G=>z6K G)<|zo8 _ _ _,
       congrArg (λt=>aE.mk t 0) (zkJ S a.M (t:=λb=>zcg b a.G (zBR<|gAt b a.G))<|zi4 _ _)⟩
     |false=>
      simp only[cond_false];cases ieq a.Kind 6 with
      |true=>
       exact⟨zps S a.M (F:=λb=>chg b a.G (zhi (gAt b a.G).ak a.X) (znJ (gAt b a.G) a.X)) (λb c=>zqK c λ_ _ G=>zV9 G _)<|zo8 _ _ _,
        congrArg (λt=>aE.mk t 0) (zkJ S a.M (t:=λb=>zcg b a.G (zhi (gAt b a.G).ak a.X))<|zi4 _ _)⟩
      |false=>
       simp only[cond_false];cases ieq a.Kind 7 with
       |true=>
        exact⟨zps S a.M (F:=λb=>chg b a.G (zld ⟨a.X,a.Y,ieq a.Z 1⟩) (zLd (gAt b a.G) ⟨a.X,a.Y,ieq a.Z 1⟩)) (λb c=>zqK c λ_ d G=>z6J G d)<|zo8 _ _ _,
         congrArg (λt=>aE.mk t 0) (zkJ S a.M (t:=λb=>zcg b a.G (zld ⟨a.X,a.Y,ieq a.Z 1⟩))<|zi4 _ _)⟩
       |false=>
        simp only[cond_false];cases ieq a.Kind 8 with
        |true=>obtain⟨k,e⟩:=z3a S a.M a.X a.Y a.Z;exact⟨k,congrArg (λt=>aE.mk t 0) e⟩
        |false=>
         simp only[cond_false];cases ieq a.Kind 9 with
         |true=>
          exact⟨zps S a.M (F:=λb=>zka b a.X) (λb c=>zWY c _) (by unfold zka zfI;rw[f];rfl),
           congrArg (λt=>aE.mk t 0) (zkJ S a.M (t:=λb=>zfI b a.X) (by unfold zfI;rw[f];rfl))⟩
         |false=>
          simp only[cond_false];cases ieq a.Kind 10 with
          |true=>refine⟨zps S a.M (F:=zmK) (λb c=>zY6 c) (by unfold zmK;rw[f];rfl),?_⟩;have e:=zkJ S a.M (t:=zmq) (by unfold zmq;rw[f];rfl);show aE.mk (zgw h a.M<|zmq<|zK h a.M) (cond (zcV h a.M) (zsI<|zK h a.M)<|-1)=⟨zmq<|zK h a.M,zsI<|zK h a.M⟩;rw[e];congr 1;unfold zcV;rw[zgv.2 S.ok,cond_true];cases j:i0 a.M (ln h.aa) with|true=>rfl|false=>rw[seen_none j];unfold zsI;rw[f];rfl
          |false=>
           simp only[cond_false];cases ieq a.Kind 11 with
           |true=>obtain⟨k,e⟩:=z8x S a.M a.G a.X a.Y;exact⟨k,congrArg (λt=>aE.mk t 0) e⟩
           |false=>obtain⟨k,g,i⟩:=z7s S a.M a.G a.X;exact⟨k,by simp only[cond_false];rw[g,i]⟩
def z2T {h:ac}(S:Safe h)(a:GAct):Safe (zl8 h a)/\(∀i,zK (zl8 h a) i=zK h i)/\(zl8 h a).aa.length=h.aa.length:=by
 unfold zl8;have k:∀r,Op h r->Safe r/\(∀i,zK r i=zK h i)/\r.aa.length=h.aa.length:=λr k=>⟨k.safe S,λi=>k.like.seen i,k.like.len⟩;cases ieq a.Kind 13 with
 |true=>exact k _ (zX5 S.ok _ _)
 |false=>
  simp only[cond_false];cases ieq a.Kind 14 with
  |true=>exact k _ (z0C S.ok _ _)
  |false=>
   simp only[cond_false];cases ieq a.Kind 15 with
   |true=>exact k _ (z0B S.ok _ _)
   |false=>
    simp only[cond_false];cases ieq a.Kind 16 with
    |true=>obtain⟨b,c⟩:=zQc S a.M a.X;refine⟨b,c,?_⟩;simp only[cond_true];unfold zjt;cases zb5 h<;>cases i0 a.M (ln h.aa)<;>cases zi a.X 0 3<;>first|rfl|exact zbQ _ _ _
    |false=>exact k _ (z7m S.ok)
def zj8 (a:GAct):Bool:=bif zi a.Kind 1 17 then !zi a.Kind 13 17 else false
def zYZ {h:ac}(S:Safe h)(a:GAct):Safe (zeI h a)/\(zeI h a).aa.length=h.aa.length/\
 (∀i,zK (zeI h a) i=bif (cond (zj8 a) (ieq i a.M) false) then zH8 (zK h i) a else zK h i)/\(zj8 a=true->zjb h a=zH9 (zK h a.M) a):=by
 unfold zeI zjb zj8;cases zi a.Kind 1 17 with
 |false=>exact⟨S,rfl,λ_=>rfl,λe=>by cases e⟩
 |true=>
  simp only[cond_true];cases zi a.Kind 13 17 with
  |true=>obtain⟨b,c,d⟩:=z2T S a;exact⟨b,d,λi=>by simp only[cond_true,jN,cond_false];exact c i,λe=>by cases e⟩
  |false=>obtain⟨k,e⟩:=z2z S a;exact⟨k.safe,k.len,λi=>by simp only[cond_false,jQ,cond_true];exact k.seen i,λ_=>e⟩
def zcG (h:ac):List am:=(List.range h.aa.length).map λ(i:Nat)=>zK h (i:Int)
def zgT (h:ac):(zcG h).length=h.aa.length:=by simp[zcG]
def zlS (h:ac)(m:Int):i0 m (ln<|zcG h)=i0 m (ln h.aa):=by unfold ln;rw[zgT]
def zla {h:ac}{m:Int}(c:i0 m (ln h.aa)=true)(d:am):ix (zcG h) m d=zK h m:=by have a:=zG.1 c;unfold ln at a;have b:m.toNat<(zcG h).length:=(by rw[zgT];omega);have:=zlX b d;rw[show ((m.toNat:Nat):Int)=m by omega] at this;rw[this];simp[zcG,show max m 0=m by omega]
def zH6 {h r:ac}(a:r.aa.length=h.aa.length)(e:∀i,zK r i=zK h i):zcG r=zcG h:=by unfold zcG;rw[a];exact List.map_congr_left λi _=>e _
def zUs {h:ac}(S:Safe h)(a:GAct):zcG (zeI h a)=zIa (zcG h) a/\(zj8 a=true->zjb h a=zWX (zcG h) a):=by obtain⟨_,k,l,t⟩:=zYZ S a;have p:zj8 a=true->zcG (zeI h a)=(cond (i0 a.M<|ln h.aa) (up (zcG h) a.M<|zH8 (zK h a.M) a)<|zcG h):=(by intro b;rw[b]at l;cases f:i0 a.M (ln h.aa) with|false=>rw[cond_false];refine zMQ ⟨[],[],[],0⟩ (by rw[zgT,zgT,k]) λi c=>?_;rw[zlS]at c;rw[zla c];have d:i0 i (ln h.aa)=true:=(by unfold ln at c ⊢;rwa [<- k]);rw[zla d,l i];have:ieq i a.M=false:=zbY.2 λe=>(by rw[e,f]at d;cases d);rw[this];rfl|true=>rw[cond_true];refine zMQ ⟨[],[],[],0⟩ (by rw[zbQ,zgT,zgT,k]) λi c=>?_;rw[zlS]at c;rw[zla c,l i];have d:i0 i (ln h.aa)=true:=(by unfold ln at c ⊢;rwa [<- k]);by_cases e:i=a.M;{rw [e,zbv.2 rfl,zbf (by rw[zlS];exact f)];rfl};{rw [zbY.2 e,zbw (zG.1 f).1 (zG.1 d).1<|Ne.symm e,zla d];rfl});have s:zj8 a=false->zcG (zeI h a)=zcG h:=λb=>zH6 k λi=>(by rw[l i,b];rfl);have r:zj8 a=true->zi a.Kind 1 17=true/\zi a.Kind 13 17=false:=(by intro b;unfold zj8 at b;cases g:zi a.Kind 1 17<;>cases j:zi a.Kind 13 17<;>rw [g,j]at b<;>first|exact⟨rfl,rfl⟩|cases b);constructor;{unfold zIa;cases b:zj8 a with|true=>obtain⟨g,j⟩:=r b;rw[g,j,cond_true,cond_false,zlS,p b];(cases f:i0 a.M (ln h.aa) with|true=>rw[cond_true,cond_true,zla f]|false=>rfl)|false=>rw[s b];unfold zj8 at b;(cases g:zi a.Kind 1 17 with|false=>rfl|true=>(cases j:zi a.Kind 13 17 with|true=>rfl|false=>rw[g,j]at b;cases b))};{intro b;rw[t b];obtain⟨g,j⟩:=r b;unfold zWX;rw[g,j,cond_true,cond_false,zlS];cases f:i0 a.M (ln h.aa) with|true=>rw[cond_true,zla f]|false=>rw[cond_false,seen_none f];have n:=(zOY a.G).2;have q:=zsu;unfold zH9;simp only[n,zi4];unfold zwH zfI zmq zsI zxY zQF znC;simp only[q,zsJ q,cond_false];(cases m:ieq a.Kind 10 with|true=>have:a.Kind=10:=zbv.1 m;rw[this];rfl|false=>cases ieq a.Kind 1<;>cases ieq a.Kind 2<;>cases ieq a.Kind 3<;>cases ieq a.Kind 4<;>cases ieq a.Kind 5<;>cases ieq a.Kind 6<;>cases ieq a.Kind 7<;>cases ieq a.Kind 8<;>cases ieq a.Kind 9<;>cases ieq a.Kind 11<;>rfl)}
def zJr:List GAct->List aE->List aE
 |a::l,t::ts=>bif zj8 a then t::zJr l ts else zJr l ts
 |_,_=>[]
structure av (u:ac×List aE) (v:List am×List aE):Prop where
 safe:Safe u.1
 seen:zcG u.1=v.1
def zCq:List GAct->ac->List aE
 |[],_=>[]
 |a::l,h=>zjb h a::zCq l (zeI h a)
def z1o:List GAct->List am->List aE
 |[],_=>[]
 |a::l,b=>zWX b a::z1o l (zIa b a)
def zue:List GAct->ac->ac
 |[],h=>h
 |a::l,h=>zue l (zeI h a)
def z2p:List GAct->List am->List am
 |[],b=>b
 |a::l,b=>z2p l (zIa b a)
def zWv:∀(l:List GAct) (u:ac×List aE),zBT l u=(zue l u.1,u.2++zCq l u.1)
 |[],u=>by simp[zBT,zue,zCq]
 |a::l,u=>by rw[zBT,zWv l];simp[zue,zCq,ap]
def zZO:∀(l:List GAct) {h:ac},Safe h->Safe (zue l h)/\zcG (zue l h)=z2p l (zcG h)/\zJr l (zCq l h)=zJr l (z1o l<|zcG h)/\(zue l h).aa.length=h.aa.length
 |[],h,S=>⟨S,rfl,rfl,rfl⟩
 |a::l,h,S=>by have d:=zYZ S a;have b:=zUs S a;obtain⟨e,f,c,g⟩:=zZO l d.1;refine⟨e,by show zcG (zue l<|zeI h a)=z2p l (zIa (zcG h) a);rw[f,b.1],?_,g.trans d.2.1⟩;show (cond (zj8 a) _ _)=(cond (zj8 a) _ _);cases i:zj8 a with|false=>rw[cond_false,cond_false,c,b.1]|true=>rw[cond_true,cond_true,c,b.1,b.2 i]
def cz8 (q:Int)(b:0<=q):ztM.countP (λs=>ieq s.af q)=0:=by rw[vA];intro s a;have:=(uP.1 a).2;rw[this];show ¬ ieq (-1) q=true;rw[zbv];omega
def zUJ {p:List Ins}(h:zdk p=true):GOk (ze1 p):=⟨h,rfl,rfl,rfl,rfl,rfl,rfl,rfl,rfl⟩
def z0v {a:List (List Ins)}(i:1<=a.length)(h:∀p∈a,zdk p=true):MOk (zgJ a):=by have d:∀s∈ztM,s=z0:=λs c=>(uP.1 c).2;refine⟨?_,?_,?_,rfl,λs c=>.inl (d s c),rfl,rfl,j3 _,rfl,rfl,rfl,λg hg=>?_,λp b=>?_⟩;{show 1<=((a.take 2).map ze1).length;simp;omega};{show ((a.take 2).map ze1).length<=2;simp;omega};{show ((a.take 2).map λ_=>zjT).length=((a.take 2).map ze1).length;simp};{obtain⟨p,b,rfl⟩:=jF.1 hg;exact zss.2 (zUJ<|h p<|jW b)};{have f:=zG.1 b;have e:p=0\/p=1\/p=2\/p=3\/p=4\/p=5\/p=6\/p=7:=(by omega);rcases e with rfl|rfl|rfl|rfl|rfl|rfl|rfl|rfl<;>rfl}
def z5U (a:List (List<|List Ins)):Prop:=1<=a.length/\∀p∈a,1<=p.length/\∀x∈p,zdk x=true
def zJq {ps:List (List<|List Ins)}(h:z5U ps):Safe (zcH ps):=by have a:∀x∈(zcH ps).aa,∃p∈ps,x=zgJ p:=λx d=>(by obtain⟨p,f,rfl⟩:=jF.1 d;exact⟨p,jW f,rfl⟩);have t:∀x∈(zcH ps).aa,x.ae=ztM:=λx d=>(by obtain⟨p,_,rfl⟩:=a x d;rfl);have H:HOk (zcH ps):=(by refine⟨rfl,λc u=>?_,?_,?_,rfl,rfl,λx d=>?_,λq A=>?_⟩;{have:c=[0,0,0,0]:=(uP.1 u).2;rw[this];rfl};{show 1<=((ps.take 3).map zgJ).length;have:=h.1;simp;omega};{show ((ps.take 3).map zgJ).length<=3;simp;omega};{obtain⟨p,f,rfl⟩:=a x d;exact z0v (h.2 p f).1 (h.2 p f).2};{have:zfc (zcH ps).aa q=0:=(by unfold zfc;have:(zcH ps).aa.map (λx=>cPg x q)=(zcH ps).aa.map (λ_=>0):=List.map_congr_left λx d=>(by unfold cPg;rw[t x d];exact cz8 q A);rw[this];generalize (zcH ps).aa=l;induction l with|nil=>rfl|cons x l C=>rw[jC,uK,C]);omega});refine⟨H,λm z g hg=>?_,λe n=>(by cases n),λe n=>(by cases n)⟩;obtain⟨p,f,e⟩:=a _ (zlk z mZ);rw[e]at hg ⊢;have b:i0 g (ln<|(p.take 2).map ze1)=true:=hg;have B:ix (zgJ p).aj g kZ=zjT:=(by have:i0 g (ln<|(p.take 2).map λ_=>zjT)=true:=(by unfold ln at b ⊢;simpa using b);obtain⟨k,w,_,j⟩:=zyf this kZ;show ix ((p.take 2).map λ_=>zjT) g kZ=_;rw[j];simp);have y:(ix (zgJ p).ad g gZ).av=zk5:=(by obtain⟨k,w,_,j⟩:=zyf b gZ;show (ix ((p.take 2).map ze1) g gZ).av=_;rw[j];simp[ze1]);rw[B,y];show KOk zjT zk5 ztM;refine⟨rfl,rfl,λi v=>?_⟩;have r:=zG.1 v;have:ln zk5=4:=rfl;rw[this]at r;have s:i=0\/i=1\/i=2\/i=3:=(by omega);rcases s with rfl|rfl|rfl|rfl<;>rfl
def zWE:∀(l:List GAct) (u:ac×List aE),SmH u.1->SmH (zBT l u).1
 |[],u,h=>h
 |a::l,u,h=>zWE l (zeI u.1 a,ap u.2 [zjb u.1 a]) (zWD h)
def z2E {h:ac}(L:zWT h):Safe h/\SmH h:=by obtain⟨c,l,a,b,rfl⟩:=L;refine⟨?_,zWE _ _<|zxo a⟩;unfold zyb;rw[zWv];exact(zZO _<|zJq b).1
def zZe:zW:=zZc
def zA1:zL zZe:=zZd
end
end Go.Proofs.YtklhnfomjjnjjaaGreat.E
