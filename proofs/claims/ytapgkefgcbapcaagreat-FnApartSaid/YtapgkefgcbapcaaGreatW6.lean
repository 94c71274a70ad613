/- What is proved here: a part of the proof of the claim. -/
import Derived.Test.YtapgkefgcbapcaaGreatW5
import Derived.WalkKit
import Derived.Tactics2
import Derived.Deep.RegionWith
import Derived.Laws.Rows
namespace Go.Proofs.YtapgkefgcbapcaaGreat.E
open Go
set_option linter.defProp false
set_option linter.constructorNameAsVariable false
set_option linter.unusedVariables false
set_option maxRecDepth 100000
set_option linter.unusedSimpArgs false
set_option linter.unusedSectionVars false
noncomputable section
instance:Inhabited k0:=⟨⟨0,0⟩⟩
instance:Inhabited aq:=⟨⟨0,0,0,0⟩⟩
instance:Inhabited aD:=⟨⟨0,0,false,0⟩⟩
instance:Inhabited ah:=⟨⟨[],0,0,[],[],⟨0,0,false⟩,0,⟨0,0,false,0⟩,false,[]⟩⟩
def zuC {c:Cur}(h:zbh c){n m:Int}(a:0<n)(b:n<=m):inb (zn c n) m=true:=by have:=zf1 h a;exact qL (by omega)
def zBf {c:Cur}(h:zbh c){n m:Int}(a:0<n)(b:n<=m+1):inr 0 (zn c n) m=true:=by have:=zf1 h a;exact qL (by omega)
def zB0 {a:Type}(l:List a)(n:Int):(tk l n).length<=l.length:=by simp[tk];omega
def zh3 {a:Type}(l:List a)(n:Int)(x:a):(up l n x).length=l.length:=by simp[up]
def z3H {a:Type}(l:List a)(n:Int):ln (tk l n)<=ln l:=by have:=zB0 l n;unfold ln;omega
def z3I {a:Type}(l:List a)(n:Int)(x:a):ln (up l n x)=ln l:=by unfold ln;rw[zh3]
def I64 (x:Int):Prop:=-9223372036854775808<=x/\x<=9223372036854775807
def zS8 {f:Type}{c:Cur}(h:zbh c){P:f->Prop}{m:Int}(r:0<=m)(I:m<=1000){fc:Cur->Bool}{fs:Cur->Cur}{fv:Cur->f}(z:∀{c:Cur},zbh c->fc c=true)(C:∀c,0<=(fs c).i)(hg:∀{c:Cur},zbh c->P (fv c)){G:Ans->Prop}{R:Cur->List f->Ans}(w:∀s l,s.b=c.b->0<=s.i->ln l=m->(∀x∈l,P x)->G (R s l)){j:Type}(S:Int->Int×Int×List f->j){F:(j->OA)->j->OA}(v:∀rec t i k l,F rec (S t (i,k,l))=bif ilt t m then (cond (fc ⟨c.b,i,k⟩) (cond (few<|ln<|ap l [fv ⟨c.b,i,k⟩]) (rec<|S (zK .i64 t 1) ((fs ⟨c.b,i,k⟩).i,(fs ⟨c.b,i,k⟩).h,ap l [fv ⟨c.b,i,k⟩])) none) none) else some (R ⟨c.b,i,k⟩ l)):Ends G (r0 1002 F<|S 0 (c.i,c.h,[])):=by refine ziO (λn s=>∃t i k l,s=S t (i,k,l)/\t+(n:Int)=1000/\0<=t/\t<=m/\0<=i/\(∀x∈l,P x)/\ln l=t) ?_ 1002 1000 _ ⟨0,c.i,c.h,[],rfl,rfl,kN 0,r,h.1,by simp,rfl⟩ (by omega);rintro n s rec ⟨t,i,k,l,rfl,D,u,E,p,q,H⟩ d;rw[v];have a:zbh ⟨c.b,i,k⟩:=zbL h p;refine zbC (λg=>?_) (λg=>?_);{have B:t<m:=qD g;have J:=zhp (y:=1) u (by omega) (by omega) (by omega);refine zA (z a) (zA (zkZ (by rw[zhL];omega))<|d (n-1) _ (by omega) ⟨_,_,_,_,rfl,by omega,by omega,by omega,C _,?_,by rw[zhL];omega⟩);intro x e;rcases jH.1 e with e|e;{exact q x e};{rw [qF.1 e];exact hg a}};{have A:¬ t<m:=jT g;exact zwO (w _ l rfl p (by omega) q)}
def zrN (N:Nat)(c:Cur)  : OA :=
 let a:=zba c [3,3,1,2,0,3,1,-1,4,9223372036854775807]; (oN (zbu c [3,3,1,2,0,3,1,-1,4,9223372036854775807])<|some [.agg [.s .u8 c.b,.i .i64 a.i,.i .i64 a.h],aI<|zbp c [3,3,1,2,0,3,1,-1,4,9223372036854775807]])
def zl4 (c:Cur)(s:Cur)(a:Int):Prop:=(∃N,zrN N c=some (AV.agg (zbU s)::[aI a]))/\(s.b=c.b/\0<=s.i)/\(True)
def zkd (c:Cur)  : Bool:=wC (zl4 c)
def zke (c:Cur)  : Cur:=wS (zl4 c)
def zqY (c:Cur)  : Int:=wV (zl4 c)
def zQm {c:Cur}(h:zkd c=true):zl4 c (zke c) (zqY c):=wG h
def zQo (c:Cur)  : 0<=(zke c).i:=wP λh=>h.2.1.2
def zQn (c:Cur)(h:∃N,Ends (wE (λa=>aI a) c.b λa=>True)<|zrN N c):zkd c=true:=wI (λ_ _ h=>h) h
def ztP:zdS:=rP0 λc=>(zkd c,zke c,[aI<|zqY c])
def zDR:zbQ Tryz.prog 457 [false,true,true] ztP:=hP0 zeB zZ ztN zu (zy []) (λ_ h=>(zQm h).1)
def z4i {c:Cur}(h:zbh c):zkd c=true:=by
 refine zQn c ⟨0,?_⟩;unfold zrN oN;conv=>zeta
 exact zA (zfh h (by simp)) (zbJ aI (zb1 _ _) trivial)
def z6u:zc0:=[(457,[false,true,true],ztP)]++zYK
def zTp:zb5 z6u:=zcu ztN (by
 intro x a;simp only[qG,qO,or_false]at a;rcases a with rfl
 .exact zDR)
def z5z:zbf:=[(215,zle),(286,zot),(409,zp2),(411,zr6)]++zLq
def zep:zN z5z:=zi zw0 (zi zsm<|zi ztx<|zi zuX zeB)
def zvI (N:Nat)(c:Cur)(d:Int):OA:=
 let e:=({ (zO c 5) with b:=c.b}:Cur);let a:=({ (zf e d) with b:=c.b}:Cur); (oN (zcJ c 5)<|cond (zcX c 5) (oN zbz<|some [.agg [.s .u8 c.b,.i .i64 (zO c 5).i,.i .i64 (zO c 5).h],.agg [.i .i64 zW.af,.i .i64 zW.aj]])<|oN (zx e d)<|oN (zbu a [3,3,3,1,2])<|some [.agg [.s .u8 c.b,.i .i64 (zba a [3,3,3,1,2]).i,.i .i64 (zba a [3,3,3,1,2]).h],.agg [.i .i64<|zn e d,.i .i64<|zbp a [3,3,3,1,2]]])
def zo8 (c:Cur)(a:Int)(s:Cur)(d:k0):Prop:=(∃N,zvI N c a=some (AV.agg (zbU s)::[aT .slot d]))/\(s.b=c.b/\0<=s.i)/\(0<a->a<=1000->I64 d.af)
def ziy (c:Cur)(a:Int):Bool:=wC (zo8 c a)
def zgm (c:Cur)(a:Int):Cur:=wS (zo8 c a)
def zfW (c:Cur)(a:Int):k0:=wV (zo8 c a)
def zwh {c:Cur}{a:Int}(h:ziy c a=true):zo8 c a (zgm c a) (zfW c a):=wG h
def zFz (c:Cur)(a:Int):0<=(zgm c a).i:=wP λh=>h.2.1.2
def zVI (c:Cur)(a:Int)(h:∃N,Ends (wE (λd=>aT .slot d) c.b λd=>0<a->a<=1000->I64 d.af)<|zvI N c a):ziy c a=true:=wI (λ_ _ h=>h) h
def zxh:zdS:=rP1 dI λc b=>(ziy c b,zgm c b,[aT .slot<|zfW c b])
def zJp:zbQ Tryz.prog 456 [false,true,true] zxh:=hP1 zep zZ zTp zu (zy []) (λ_ _ h=>(zwh h).1)
def zKH {c:Cur}(h:zbh c)(a:Int):ziy c a=true:=by
 refine zVI c a ⟨0,?_⟩;unfold zvI oN;conv=>zeta
 have d:zbh {zO c 5 with b:=c.b}:=zbL h (zcj _ _);have g:zbh {zf {zO c 5 with b:=c.b} a with b:=c.b}:=zbL h (zG _ _);refine zA (zh8 h 5) (zbC (λ_=>zA rfl (zbJ (aT .slot) (v:=⟨_,_⟩) (zcj _ _) λ_ _=>?_)) λ_=>zA (zbF d a) (zA (zfh g (by simp))<|zbJ (aT .slot) (v:=⟨_,_⟩) (zb1 _ _) λe f=>?_));{exact⟨by decide,by decide⟩};{have:=zf1 d e;exact⟨Int.le_trans (by decide) this.1,Int.le_trans (vS this.2) (by omega)⟩}
def z6v:zc0:=[(456,[false,true,true],zxh)]++z6u
def zHj:zb5 z6v:=zcu zTp (by
 intro x a;simp only[qG,qO,or_false]at a;rcases a with rfl
 .exact zJp)
def zxU (N:Nat)(c:Cur)(a:Int):OA:=
 let e:=({ (zgm c a) with b:=c.b}:Cur);let d:=({ (zf e 12) with b:=c.b}:Cur);let f:=zba d [-1,-2,a,9223372036854775807,-9223372036854775808]; (oN (ziy c a)<|oN (zx e 12)<|cond (ieq (zn e 12) 0) (oN (zbu d [-1,-2,a,9223372036854775807,-9223372036854775808])<|some [.agg [.s .u8 c.b,.i .i64 f.i,.i .i64 f.h],.agg [.i .i64<|zbp d [-1,-2,a,9223372036854775807,-9223372036854775808],.i .i64 (zfW c a).aj]])<|cond (ieq (zn e 12) 1) (oN (zkd d)<|some [.agg [.s .u8 c.b,.i .i64 (zke d).i,.i .i64 (zke d).h],.agg [.i .i64 (zfW c a).af,.i .i64<|zqY d]])<|some [.agg [.s .u8 c.b,.i .i64 (zf e 12).i,.i .i64 (zf e 12).h],.agg [.i .i64 (zfW c a).af,.i .i64 (zfW c a).aj]])
def zqZ (c:Cur)(a:Int)(s:Cur)(d:k0):Prop:=(∃N,zxU N c a=some (AV.agg (zbU s)::[aT .slot d]))/\(s.b=c.b/\0<=s.i)/\(0<a->a<=1000->I64 d.af)
def zo5 (c:Cur)(a:Int):Bool:=wC (zqZ c a)
def zo6 (c:Cur)(a:Int):Cur:=wS (zqZ c a)
def zHx (c:Cur)(a:Int):k0:=wV (zqZ c a)
def zKv {c:Cur}{a:Int}(h:zo5 c a=true):zqZ c a (zo6 c a) (zHx c a):=wG h
def zYQ (c:Cur)(a:Int):0<=(zo6 c a).i:=wP λh=>h.2.1.2
def zYP (c:Cur)(a:Int)(h:∃N,Ends (wE (λd=>aT .slot d) c.b λd=>0<a->a<=1000->I64 d.af)<|zxU N c a):zo5 c a=true:=wI (λ_ _ h=>h) h
def zzB:zdS:=rP1 dI λc b=>(zo5 c b,zo6 c b,[aT .slot<|zHx c b])
def zMb:zbQ Tryz.prog 392 [false,true,true] zzB:=hP1 zep zZ zHj zu (zy []) (λ_ _ h=>(zKv h).1)
def zOc {c:Cur}(h:zbh c)(a:Int):zo5 c a=true:=by
 refine zYP c a ⟨0,?_⟩;unfold zxU oN;conv=>zeta
 have d:zbh {zgm c a with b:=c.b}:=zbL h (zFz _ _);have f:zbh {zf {zgm c a with b:=c.b} 12 with b:=c.b}:=zbL h (zG _ _);have g:=(zwh<|zKH h a).2.2;refine zA (zKH h a) (zA (zbF d 12)<|zbC (λ_=>zA (zfh f (by simp)) (zbJ (aT .slot) (v:=⟨zbp _ _,(zfW c a).aj⟩) (zb1 _ _) λe i=>?_)) λ_=>zbC (λ_=>zA (z4i f) (zbJ (aT .slot) (v:=⟨(zfW c a).af,zqY _⟩) (zQo _) λe d=>g e d)) λ_=>zbJ (aT .slot) (v:=⟨(zfW c a).af,(zfW c a).aj⟩) (zG _ _) λe d=>g e d);have j:=zWX f (l:=[-1,-2,a,9223372036854775807,-9223372036854775808]) (by simp);simp only[qG,qO,or_false]at j;unfold I64;dsimp only;omega
def ztb (N:Nat)(c:Cur)(g j:Int):OA:=
 (r0 (σ:=(Int×Int×Int×Int×Int×lS×LI×Unit)) N (λk a=>let b:=a.2.2.2.2;let e:=b.2.2.1;let d:=(⟨e,a.2.2.2.1,b.1⟩:Cur);let f:=ap b.2.1 [zfW d a.2.1]; (cond (ilt a.2.2.1 a.1) (oN (ziy d a.2.1)<|oN (few<|ln f)<|k (a.1,a.2.1,zK .i64 a.2.2.1 1,(zgm d a.2.1).i,(zgm d a.2.1).h,f,e,()))<|some [.agg [.s .u8 e,.i .i64 a.2.2.2.1,.i .i64 b.1],aS .slot b.2.1])) (g,j,0,c.i,c.h,[],c.b,()))
def zNB:=zy [(391,0,{n:=22,tm:=[(0,.lp 0 0),(1,ti),(2,ti),(7,.sl 0 []),(8,ti)],lo:=[(0,[.sl 1 [],ti,ti])],ro:=[(0,.slot,true),(1,.u8,false)]})]
def zm2 (c:Cur)(a:Int)(d:Int)(s:Cur)(e:List k0):Prop:=(∃N,ztb N c a d=some (AV.agg (zbU s)::[aS .slot e]))/\(s.b=c.b/\0<=s.i)/\(0<=a->a<=1000->ln e=a/\(0<d->d<=1000->∀s∈e,I64 s.af))
def zhD (c:Cur)(a:Int)(b:Int):Bool:=wC (zm2 c a b)
def zJ (c:Cur)(a:Int)(b:Int):Cur:=wS (zm2 c a b)
def zdD (c:Cur)(a:Int)(b:Int):List k0:=wV (zm2 c a b)
def zt7 {c:Cur}{a:Int}{b:Int}(h:zhD c a b=true):zm2 c a b (zJ c a b) (zdD c a b):=wG h
def zhE (c:Cur)(a:Int)(b:Int):0<=(zJ c a b).i:=wP λh=>h.2.1.2
def zTJ (c:Cur)(a:Int)(d:Int)(h:∃N,Ends (wE (λe=>aS .slot e) c.b λe=>0<=a->a<=1000->ln e=a/\(0<d->d<=1000->∀s∈e,I64 s.af))<|ztb N c a d):zhD c a d=true:=wI (λ_ _ h=>h) h
def zu6:zdS:=rP2 dI dI λc b d=>(zhD c b d,zJ c b d,[aS .slot<|zdD c b d])
def zGM:zbQ Tryz.prog 391 [false,true,true] zu6:=hP2 zep zZ zHj zu zNB (λ_ _ _ h=>(zt7 h).1)
def zxP {c:Cur}(h:zbh c){d:Int}(g:0<=d)(j:d<=1000)(a:Int):zhD c d a=true:=by
 refine zTJ c d a ⟨1002,?_⟩;unfold ztb oN;conv=>zeta
 exact zS8 h (P:=λs=>0<a->a<=1000->I64 s.af) g j (fc:=λc=>ziy c a) (fs:=λc=>zgm c a) (fv:=λc=>zfW c a) (R:=λs l=>AV.agg (zbU s)::[aS .slot l]) (λh=>zKH h a) (λc=>zFz c a) (λh=>(zwh<|zKH h a).2.2) (λs l m n p q=>⟨s,l,rfl,⟨m,n⟩,λ_ _=>⟨p,λe f s r=>q s r e f⟩⟩) ((λi t=>(d,a,(i:Int),t.1,t.2.1,t.2.2,c.b,())):Int->Int×Int×List k0->_) (λrec t i k l=>rfl)
def z8P {c:Cur}(h:zbh c){n m:Int}(a:0<=n)(b:n<=1000)(d:0<m)(e:m<=1000):ln (zdD c n m)=n/\∀s∈zdD c n m,I64 s.af:=by have g:=(zt7<|zxP h a b m).2.2 a b;exact⟨g.1,g.2 d e⟩
def z6w:zc0:=[(392,[false,true,true],zzB),(391,[false,true,true],zu6)]++z6v
def zHk:zb5 z6w:=zcu zHj (by
 intro x a;simp only[qG,qO,or_false]at a;rcases a with rfl|rfl
 .exact zMb
 .exact zGM)
def znY (N:Nat)(c:Cur)(a d:Int):OA:=
 let g:=zdD c a d;let f:=({ (zJ c a d) with b:=c.b}:Cur);let e:=({ (zf f 8) with b:=c.b}:Cur);let k:=zn e a;let j:=({ (zf e a) with b:=c.b}:Cur); (oN (zhD c a d)<|oN (zx f 8)<|cond (ieq (zn f 8) 0) (oN (zx e a)<|oN (zo5 j d)<|oN (inb k<|ln g)<|p0 (up g k<|zHx j d) λl=>some [.agg [.s .u8 c.b,.i .i64 (zo6 j d).i,.i .i64 (zo6 j d).h],aS .slot l])<|cond (ieq (zn f 8) 1) (oN (zx e a)<|oN (inr 0 k<|ln g)<|some [.agg [.s .u8 c.b,.i .i64 (zf e a).i,.i .i64 (zf e a).h],aS .slot<|tk g k])<|some [.agg [.s .u8 c.b,.i .i64 (zf f 8).i,.i .i64 (zf f 8).h],aS .slot g])
def zjQ (c:Cur)(a:Int)(d:Int)(s:Cur)(e:List k0):Prop:=(∃N,znY N c a d=some (AV.agg (zbU s)::[aS .slot e]))/\(s.b=c.b/\0<=s.i)/\(0<a->a<=1000->ln e<=a/\(0<d->d<=1000->∀s∈e,I64 s.af))
def zfK (c:Cur)(a:Int)(b:Int):Bool:=wC (zjQ c a b)
def zgO (c:Cur)(a:Int)(b:Int):Cur:=wS (zjQ c a b)
def ze1 (c:Cur)(a:Int)(b:Int):List k0:=wV (zjQ c a b)
def zo3 {c:Cur}{a:Int}{b:Int}(h:zfK c a b=true):zjQ c a b (zgO c a b) (ze1 c a b):=wG h
def zo4 (c:Cur)(a:Int)(b:Int):0<=(zgO c a b).i:=wP λh=>h.2.1.2
def zKu (c:Cur)(a:Int)(d:Int)(h:∃N,Ends (wE (λe=>aS .slot e) c.b λe=>0<a->a<=1000->ln e<=a/\(0<d->d<=1000->∀s∈e,I64 s.af))<|znY N c a d):zfK c a d=true:=wI (λ_ _ h=>h) h
def zrD:zdS:=rP2 dI dI λc b d=>(zfK c b d,zgO c b d,[aS .slot<|ze1 c b d])
def zAC:zbQ Tryz.prog 239 [false,true,true] zrD:=hP2 zep zZ zHk zu (zy []) (λ_ _ _ h=>(zo3 h).1)
def zn0 {c:Cur}(h:zbh c){n:Int}(a:0<n)(j:n<=1000)(m:Int):zfK c n m=true:=by
 refine zKu c n m ⟨0,?_⟩;unfold znY oN;conv=>zeta
 have l:zbh {zJ c n m with b:=c.b}:=zbL h (zhE _ _ _);have i:zbh {zf {zJ c n m with b:=c.b} 8 with b:=c.b}:=zbL h (zG _ _);have k:zbh {zf {zf {zJ c n m with b:=c.b} 8 with b:=c.b} n with b:=c.b}:=zbL h (zG _ _);have g:=(zt7<|zxP h (vS a) j m).2.2 (vS a) j;generalize zdD c n m=T at g;refine zA (zxP h (vS a) j m) (zA (zbF l 8)<|zbC (λ_=>zA (zbF i n) (zA (zOc k m)<|zA (zuC i a (by omega))<|zlE<|zbJ (aS .slot) (zYQ _ _) λ_ _=>⟨by rw[z3I];omega,λe f s d=>?_⟩)) λ_=>zbC (λ_=>zA (zbF i n) (zA (zBf i a (by omega))<|zbJ (aS .slot) (zG _ _) λ_ _=>⟨?_,λe f s d=>g.2 e f s (jZ d)⟩)) λ_=>zbJ (aS .slot) (zG _ _) λ_ _=>⟨by omega,g.2⟩);{rcases qZ d with d|rfl;{exact g.2 e f s d};{exact(zKv<|zOc k m).2.2 e f}};{have:=z3H T;exact Int.le_trans (this _) (by omega)}
def zvJ (N:Nat)(c:Cur)  : OA :=
 (r0 (σ:=(Int×Int×Int×LI×LI×Unit)) N (λf a=>let d:=(⟨a.2.2.2.2.1,a.2.1,a.2.2.1⟩:Cur);let e:=ap a.2.2.2.1 [zn d 100]; (cond (ilt a.1 4) (oN (zx d 100)<|oN (few<|ln e)<|f (zK .i64 a.1 1,(zf d 100).i,(zf d 100).h,e,a.2.2.2.2.1,()))<|some [.agg [.s .u8 a.2.2.2.2.1,.i .i64 a.2.1,.i .i64 a.2.2.1],aS .int a.2.2.2.1])) (0,c.i,c.h,[],c.b,()))
def zQC:=zy [(393,0,{n:=16,tm:=[(0,.lp 0 0),(3,.sl 0 []),(4,ti)],lo:=[(0,[.sl 1 [],ti,ti])],ro:=[(0,.int,true),(1,.u8,false)]})]
def zpa (c:Cur)(s:Cur)(a:LI):Prop:=(∃N,zvJ N c=some (AV.agg (zbU s)::[aS .int a]))/\(s.b=c.b/\0<=s.i)/\(a.length=4)
def ziz (c:Cur)  : Bool:=wC (zpa c)
def zfo (c:Cur)  : Cur:=wS (zpa c)
def znP (c:Cur)  : LI:=wV (zpa c)
def zwi {c:Cur}(h:ziz c=true):zpa c (zfo c) (znP c):=wG h
def zFA (c:Cur)  : 0<=(zfo c).i:=wP λh=>h.2.1.2
def zVJ (c:Cur)(h:∃N,Ends (wE (λa=>aS .int a) c.b λa=>a.length=4)<|zvJ N c):ziz c=true:=wI (λ_ _ h=>h) h
def zxi:zdS:=rP0 λc=>(ziz c,zfo c,[aS .int<|znP c])
def zJr:zbQ Tryz.prog 393 [false,true,true] zxi:=hP0 zep zZ zHk zu zQC (λ_ h=>(zwi h).1)
def zKh {c:Cur}(h:zbh c):ziz c=true:=by
 refine zVJ c ⟨1002,?_⟩;unfold zvJ oN;conv=>zeta
 exact zS8 h (P:=λ_=>True) (m:=4) (by omega) (by omega) (fc:=λc=>zx c 100) (fs:=λc=>zf c 100) (fv:=λc=>zn c 100) (R:=λs l=>AV.agg (zbU s)::[aS .int l]) (λh=>zbF h _) (λc=>zG c _) (λ_=>trivial) (λs l a d e f=>⟨s,l,rfl,⟨a,d⟩,by unfold ln at e;omega⟩) ((λi t=>((i:Int),t.1,t.2.1,t.2.2,c.b,())):Int->Int×Int×LI->_) (λrec t i k l=>rfl)
def z6x:zc0:=[(239,[false,true,true],zrD),(393,[false,true,true],zxi)]++z6w
def zHl:zb5 z6x:=zcu zHk (by
 intro x a;simp only[qG,qO,or_false]at a;rcases a with rfl|rfl
 .exact zAC
 .exact zJr)
def zxV (N:Nat)(c:Cur)(f:Int):OA:=
 (r0 (σ:=(Int×Int×Int×Int×lM×LI×Unit)) N (λg a=>let b:=a.2.2.2.2;let d:=(⟨b.2.1,a.2.2.1,a.2.2.2.1⟩:Cur);let e:=ap b.1 [znP d]; (cond (ilt a.2.1 a.1) (oN (ziz d)<|oN (few<|ln e)<|g (a.1,zK .i64 a.2.1 1,(zfo d).i,(zfo d).h,e,b.2.1,()))<|some [.agg [.s .u8 b.2.1,.i .i64 a.2.2.1,.i .i64 a.2.2.2.1],aS (.sl .int) b.1])) (f,0,c.i,c.h,[],c.b,()))
def zUz:=zy [(340,0,{n:=19,tm:=[(0,.lp 0 0),(1,ti),(5,.sl 0 []),(6,ti)],lo:=[(0,[.sl 1 [],ti,ti])],ro:=[(0,.sl .int,true),(1,.u8,false)]})]
def zq1 (c:Cur)(a:Int)(s:Cur)(d:List LI):Prop:=(∃N,zxV N c a=some (AV.agg (zbU s)::[aS (.sl .int) d]))/\(s.b=c.b/\0<=s.i)/\(0<=a->a<=1000->ln d=a/\∀r∈d,r.length=4)
def zih (c:Cur)(a:Int):Bool:=wC (zq1 c a)
def zl5 (c:Cur)(a:Int):Cur:=wS (zq1 c a)
def zt8 (c:Cur)(a:Int):List LI:=wV (zq1 c a)
def zy1 {c:Cur}{a0:Int}(h:zih c a0=true):zq1 c a0 (zl5 c a0) (zt8 c a0):=wG h
def zYU (c:Cur)(a0:Int):0<=(zl5 c a0).i:=wP λh=>h.2.1.2
def zYT (c:Cur)(a:Int)(h:∃N,Ends (wE (λd=>aS (.sl .int) d) c.b λd=>(0<=a->a<=1000->ln d=a/\∀r∈d,r.length=4))<|zxV N c a):zih c a=true:=wI (λ_ _ h=>h) h
def zzC:zdS:=rP1 dI λc b=>(zih c b,zl5 c b,[aS (.sl .int)<|zt8 c b])
def zw2:zbQ Tryz.prog 340 [false,true,true] zzC:=hP1 zep zZ zHl zu zUz (λ_ _ h=>(zy1 h).1)
def zban {c:Cur}(h:zbh c){a0:Int}(a:0<=a0)(d:a0<=1000):zih c a0=true:=by
 refine zYT c a0 ⟨1002,?_⟩;unfold zxV oN;conv=>zeta
 exact zS8 h (P:=λr=>r.length=4) a d (fc:=ziz) (fs:=zfo) (fv:=znP) (R:=λs l=>AV.agg (zbU s)::[aS (.sl .int) l]) zKh zFA (λh=>(zwi<|zKh h).2.2) (λs l e f g j=>⟨s,l,rfl,⟨e,f⟩,λ_ _=>⟨g,j⟩⟩) ((λi t=>(a0,(i:Int),t.1,t.2.1,t.2.2,c.b,())):Int->Int×Int×List LI->_) (λrec t i k l=>rfl)
def ztc (N:Nat)(c:Cur)  : OA :=
 let d:=znP c;let e:=({ (zfo c) with b:=c.b}:Cur);let f:=zf e 6;let a:=({f with b:=c.b}:Cur);let g:=({ (zf a 4) with b:=c.b}:Cur); (oN (ziz c)<|oN (zx e 6)<|cond (ieq (zn e 6) 0) (oN (zx a 4)<|oN (inr 0 (zn a 4)<|ln d)<|some [.agg [.s .u8 c.b,.i .i64 (zf a 4).i,.i .i64 (zf a 4).h],aS .int<|tk d<|zn a 4])<|cond (ieq (zn e 6) 1) (oN (zx a 4)<|oN (zbu g [-1,99,100])<|oN (inb (zn a 4)<|ln d)<|p0 (up d (zn a 4)<|zbp g [-1,99,100]) λj=>some [.agg [.s .u8 c.b,.i .i64 (zba g [-1,99,100]).i,.i .i64 (zba g [-1,99,100]).h],aS .int j])<|cond (ieq (zn e 6) 2) (oN (few<|ln<|ap d [1])<|some [.agg [.s .u8 c.b,.i .i64 f.i,.i .i64 f.h],aS .int<|ap d [1]])<|some [.agg [.s .u8 c.b,.i .i64 f.i,.i .i64 f.h],aS .int d])
def zm3 (c:Cur)(s:Cur)(a:LI):Prop:=(∃N,ztc N c=some (AV.agg (zbU s)::[aS .int a]))/\(s.b=c.b/\0<=s.i)/\(a.length<=5)
def zll (c:Cur)  : Bool:=wC (zm3 c)
def zlm (c:Cur)  : Cur:=wS (zm3 c)
def zsN (c:Cur)  : LI:=wV (zm3 c)
def zCy {c:Cur}(h:zll c=true):zm3 c (zlm c) (zsN c):=wG h
def zTL (c:Cur)  : 0<=(zlm c).i:=wP λh=>h.2.1.2
def zTK (c:Cur)(h:∃N,Ends (wE (λa=>aS .int a) c.b λa=>a.length<=5)<|ztc N c):zll c=true:=wI (λ_ _ h=>h) h
def zu7:zdS:=rP0 λc=>(zll c,zlm c,[aS .int<|zsN c])
def zGN:zbQ Tryz.prog 240 [false,true,true] zu7:=hP0 zep zZ zHl zu (zy []) (λ_ h=>(zCy h).1)
def zWq {c:Cur}(h:zbh c):zll c=true:=by
 refine zTK c ⟨0,?_⟩;unfold ztc oN;conv=>zeta
 have e:zbh {zfo c with b:=c.b}:=zbL h (zFA _);have a:zbh {zf {zfo c with b:=c.b} 6 with b:=c.b}:=zbL h (zG _ _);have f:zbh {zf {zf {zfo c with b:=c.b} 6 with b:=c.b} 4 with b:=c.b}:=zbL h (zG _ _);have g:=(zwi<|zKh h).2.2;generalize znP c=T at g;have d:ln T=4:=(by unfold ln;omega);refine zA (zKh h) (zA (zbF e 6)<|zbC (λ_=>zA (zbF a 4) (zA (zBf a (by omega) (by omega))<|zbJ (aS .int) (zG _ _)<|qU (zB0 T _) (by omega))) λ_=>zbC (λ_=>zA (zbF a 4) (zA (zfh f (by simp))<|zA (zuC a (by omega) (by omega))<|zlE<|zbJ (aS .int) (zb1 _ _) (by rw[zh3];omega))) λ_=>zbC (λ_=>zA (zkZ (by rw[zhL];omega)) (zbJ (aS .int) (zG _ _) ?_)) λ_=>zbJ (aS .int) (zG _ _) (by omega));simp[ap];omega
def z6y:zc0:=[(340,[false,true,true],zzC),(240,[false,true,true],zu7)]++z6x
def zTq:zb5 z6y:=zcu zHl (by
 intro x a;simp only[qG,qO,or_false]at a;rcases a with rfl|rfl
 .exact zw2
 .exact zGN)
def zrP (N:Nat)(c:Cur)  : OA :=
 let d:=({ (zgp c) with b:=c.b}:Cur);let a:=({ (zf d 10) with b:=c.b}:Cur);let e:=zba a [-1,0,12,15,16,99,100,9223372036854775807]; (oN (zjR c)<|oN (zx d 10)<|cond (ieq (zn d 10) 0) (oN (zx a 11)<|some [.agg [.s .u8 c.b,.i .i64 (zf a 11).i,.i .i64 (zf a 11).h],.agg [.i .i64<|wsub .i64 (zn a 11) 1,.i .i64 (zgc c).X]])<|cond (ieq (zn d 10) 1) (oN (zbu a [-1,0,12,15,16,99,100,9223372036854775807])<|some [.agg [.s .u8 c.b,.i .i64 e.i,.i .i64 e.h],.agg [.i .i64 (zgc c).Op,.i .i64<|zbp a [-1,0,12,15,16,99,100,9223372036854775807]]])<|some [.agg [.s .u8 c.b,.i .i64 (zf d 10).i,.i .i64 (zf d 10).h],.agg [.i .i64 (zgc c).Op,.i .i64 (zgc c).X]])
def zl8 (c:Cur)(s:Cur)(a:Ins):Prop:=(∃N,zrP N c=some (AV.agg (zbU s)::[aT .ins a]))/\(s.b=c.b/\0<=s.i)/\(True)
def zkg (c:Cur)  : Bool:=wC (zl8 c)
def zkh (c:Cur)  : Cur:=wS (zl8 c)
def zwj (c:Cur)  : Ins:=wV (zl8 c)
def zQr {c:Cur}(h:zkg c=true):zl8 c (zkh c) (zwj c):=wG h
def zQt (c:Cur)  : 0<=(zkh c).i:=wP λh=>h.2.1.2
def zQs (c:Cur)(h:∃N,Ends (wE (λa=>aT .ins a) c.b λa=>True)<|zrP N c):zkg c=true:=wI (λ_ _ h=>h) h
def ztR:zdS:=rP0 λc=>(zkg c,zkh c,[aT .ins<|zwj c])
def zDT:zbQ Tryz.prog 448 [false,true,true] ztR:=hP0 zep zZ zTq zu (zy []) (λ_ h=>(zQr h).1)
def z2q {c:Cur}(h:zbh c):zkg c=true:=by
 refine zQs c ⟨0,?_⟩;unfold zrP oN;conv=>zeta
 have d:zbh {zgp c with b:=c.b}:=zbL h (zy2 _);have a:zbh {zf {zgp c with b:=c.b} 10 with b:=c.b}:=zbL h (zG _ _);exact zA (zQN h) (zA (zbF d 10)<|zbC (λ_=>zA (zbF a 11) (zbJ (aT .ins) (v:=⟨wsub .i64 _ 1,(zgc c).X⟩) (zG _ _) trivial)) λ_=>zbC (λ_=>zA (zfh a (by simp)) (zbJ (aT .ins) (v:=⟨(zgc c).Op,zbp _ _⟩) (zb1 _ _) trivial)) λ_=>zbJ (aT .ins) (v:=zgc c) (zG _ _) trivial)
def z6z:zc0:=[(448,[false,true,true],ztR)]++z6y
def zyO:zb5 z6z:=zcu zTq (by
 intro x a;simp only[qG,qO,or_false]at a;rcases a with rfl
 .exact zDT)
def zpB (N:Nat)(c:Cur)  : OA :=
 let e:=zb4 c;let g:=({ (zbb c) with b:=c.b}:Cur);let k:=zf g 8;let d:=({k with b:=c.b}:Cur); (oN (zhd c)<|oN (zx g 8)<|cond (ieq (zn g 8) 0) (oN (zkg d)<|oN (inb 0<|ln e)<|p0 (up e 0<|zwj d) λm=>some [.agg [.s .u8 c.b,.i .i64 (zkh d).i,.i .i64 (zkh d).h],aS .ins m])<|cond (ieq (zn g 8) 1) (r0 (σ:=(Int×Int×lI×LI×Unit)) N (λl a=>let j:=(⟨a.2.2.2.1,a.1,a.2.1⟩:Cur);let f:=({ (zf j 2) with b:=a.2.2.2.1}:Cur); (oN (zx j 2)<|cond (ilt (ln a.2.2.1)<|zK .i64 12<|zn j 2) (oN (zjR f)<|oN (few<|ln<|ap a.2.2.1 [zgc f])<|l ((zgp f).i,(zgp f).h,ap a.2.2.1 [zgc f],a.2.2.2.1,()))<|some [.agg [.s .u8 a.2.2.2.1,.i .i64 (zf j 2).i,.i .i64 (zf j 2).h],aS .ins a.2.2.1])) (k.i,k.h,e,c.b,()))<|cond (ieq (zn g 8) 2) (oN (zx d 2)<|oN (inr 0 (zn d 2)<|ln e)<|some [.agg [.s .u8 c.b,.i .i64 (zf d 2).i,.i .i64 (zf d 2).h],aS .ins<|tk e<|zn d 2])<|some [.agg [.s .u8 c.b,.i .i64 k.i,.i .i64 k.h],aS .ins e])
def zHG:=zy [(364,1,{n:=34,tm:=[(0,.lp 0 0),(3,.sl 0 [])],lo:=[(0,[.sl 1 [],ti,ti])],ro:=[(0,.ins,true),(1,.u8,false)]})]
def zkQ (c:Cur)(s:Cur)(a:List Ins):Prop:=(∃N,zpB N c=some (AV.agg (zbU s)::[aS .ins a]))/\(s.b=c.b/\0<=s.i)/\(a.length<=13)
def zi8 (c:Cur)  : Bool:=wC (zkQ c)
def zi9 (c:Cur)  : Cur:=wS (zkQ c)
def zpb (c:Cur)  : List Ins:=wV (zkQ c)
def zxK {c:Cur}(h:zi8 c=true):zkQ c (zi9 c) (zpb c):=wG h
def zNj (c:Cur)  : 0<=(zi9 c).i:=wP λh=>h.2.1.2
def zNi (c:Cur)(h:∃N,Ends (wE (λa=>aS .ins a) c.b λa=>a.length<=13)<|zpB N c):zi8 c=true:=wI (λ_ _ h=>h) h
def zsp:zdS:=rP0 λc=>(zi8 c,zi9 c,[aS .ins<|zpb c])
def zBH:zbQ Tryz.prog 364 [false,true,true] zsp:=hP0 zep zZ zyO zu zHG (λ_ h=>(zxK h).1)
def zOb {c:Cur}(h:zbh c):zi8 c=true:=by
 refine zNi c ⟨1002,?_⟩;unfold zpB oN;conv=>zeta
 have B:zbh {zbb c with b:=c.b}:=zbL h (ziB _);have q:zbh {zf {zbb c with b:=c.b} 8 with b:=c.b}:=zbL h (zG _ _);have g:=(zq3<|zCb h).2.2;have p:=zHo g;have j:1<=(zb4 c).length:=(by unfold zdo at g;cases d:(zb4 c).all zem with|false=>rw[d] at g;cases g|true=>rw[d,cT] at g;have:=(zfO.1 g).1;unfold ln at this;omega);generalize zb4 c=T at p j;have y:1<=ln T/\ln T<=12:=(by unfold ln;omega);have e:(2:Int)<=ln T+1:=(by omega);refine zA (zCb h) (zA (zbF B 8)<|zbC (λ_=>zA (z2q q) (zA (qL (by omega))<|zlE<|zbJ (aS .ins) (zQt _) (by rw[zh3];omega))) λ_=>zbC (λ_=>?_) λ_=>zbC (λ_=>zA (zbF q 2) (zA (zBf q (n:=2) (by omega) e)<|zbJ (aS .ins) (zG _ _)<|qU (zB0 T _) (by omega))) λ_=>zbJ (aS .ins) (zG _ _) (by omega));{refine ziO (λn s=>s.2.2.1.length+n=13/\0<=s.1/\s.2.2.2.1=c.b) ?_ 1002 (13-T.length) _ ⟨by dsimp only;omega,zG _ _,rfl⟩ (by omega);rintro n ⟨i,k,l,b,u⟩ rec ⟨v,r,t⟩ m;dsimp only at v r t ⊢;subst t;have a:zbh ⟨c.b,i,k⟩:=zbL h r;have A:=zf1 a (n:=2) (by omega);have z:=zhp (x:=12) (by omega) (by omega) A.1 (by omega);have w:zbh {zf ⟨c.b,i,k⟩ 2 with b:=c.b}:=zbL h (zG _ _);refine zA (zbF a 2) (zbC (λd=>?_) λd=>?_);{have f:ln l<zK .i64 12 (zn ⟨c.b,i,k⟩ 2):=qD d;rw[z]at f;unfold ln at f;exact zA (zQN w) (zA (zkZ (by rw[zhL];unfold ln;omega))<|m (n-1) _ (by omega) ⟨by simp[ap];omega,zy2 _,rfl⟩)};{exact zbJ (aS .ins) (zG _ _) (by omega)}}
def zxX (N:Nat)(c:Cur)  : OA :=
 let a:=zcE c;let e:=({ (zcl c) with b:=c.b}:Cur);let f:=zf e 8;let d:=({f with b:=c.b}:Cur);let g:=zba d [-1,255,256,9223372036854775807]; (oN (zjS c)<|oN (zx e 8)<|cond (ieq (zn e 8) 0) (oN (zbu d [-1,2,3,4])<|some [.agg [.s .u8 c.b,.i .i64 (zba d [-1,2,3,4]).i,.i .i64 (zba d [-1,2,3,4]).h],.agg [.i .i64<|zbp d [-1,2,3,4],.i .i64 a.Post,.b a.Open]])<|cond (ieq (zn e 8) 1) (oN (zbu d [-1,255,256,9223372036854775807])<|some [.agg [.s .u8 c.b,.i .i64 g.i,.i .i64 g.h],.agg [.i .i64 a.ar,.i .i64<|zbp d [-1,255,256,9223372036854775807],.b a.Open]])<|cond (ieq (zn e 8) 2) (some [.agg [.s .u8 c.b,.i .i64 f.i,.i .i64 f.h],.agg [.i .i64 a.ar,.i .i64 a.Post,.b<|nB a.Open]])<|some [.agg [.s .u8 c.b,.i .i64 f.i,.i .i64 f.h],.agg [.i .i64 a.ar,.i .i64 a.Post,.b a.Open]])
def zq4 (c:Cur)(s:Cur)(a:Ctl):Prop:=(∃N,zxX N c=some (AV.agg (zbU s)::[.agg<|zmi a]))/\(s.b=c.b/\0<=s.i)/\(True)
def zpd (c:Cur)  : Bool:=wC (zq4 c)
def zpe (c:Cur)  : Cur:=wS (zq4 c)
def zy3 (c:Cur)  : Ctl:=wV (zq4 c)
def zYW {c:Cur}(h:zpd c=true):zq4 c (zpe c) (zy3 c):=wG h
def zYY (c:Cur)  : 0<=(zpe c).i:=wP λh=>h.2.1.2
def zYX (c:Cur)(h:∃N,Ends (wE (λa=>.agg (zmi a)) c.b λa=>True)<|zxX N c):zpd c=true:=wI (λ_ _ h=>h) h
def zzE:zdS:=rP0 λc=>(zpd c,zpe c,[.agg<|zmi<|zy3 c])
def zMg:zbQ Tryz.prog 394 [false,true,true] zzE:=hP0 zep zZ zyO zu (zy []) (λ_ h=>(zYW h).1)
def z2p {c:Cur}(h:zbh c):zpd c=true:=by
 refine zYX c ⟨0,?_⟩;unfold zxX oN nB;conv=>zeta
 have d:zbh {zcl c with b:=c.b}:=zbL h (zy4 _);have a:zbh {zf {zcl c with b:=c.b} 8 with b:=c.b}:=zbL h (zG _ _);exact zA (zXI h) (zA (zbF d 8)<|zbC (λ_=>zA (zfh a (by simp)) (zbJ (λx=>AV.agg (zmi x)) (v:=⟨zbp _ _,(zcE c).Post,(zcE c).Open⟩) (zb1 _ _) trivial)) λ_=>zbC (λ_=>zA (zfh a (by simp)) (zbJ (λx=>AV.agg (zmi x)) (v:=⟨(zcE c).ar,zbp _ _,(zcE c).Open⟩) (zb1 _ _) trivial)) λ_=>zbC (λ_=>zbJ (λx=>AV.agg (zmi x)) (v:=⟨(zcE c).ar,(zcE c).Post,bif (zcE c).Open then false else true⟩) (zG _ _) trivial) λ_=>zbJ (λx=>AV.agg (zmi x)) (v:=(zcE c)) (zG _ _) trivial)
def zvL (N:Nat)(c:Cur)  : OA :=
 let f:=zf c 5;let d:=({f with b:=c.b}:Cur);let j:=zf d 100;let a:=zn d 100;let e:=({ (zf d 4) with b:=c.b}:Cur);let g:=zfn (zn d 4)<|zcX e 2; (oN (zx c 5)<|cond (ieq (zn c 5) 0) (oN (zx d 4)<|oN (zcJ e 2)<|oN (zj8 (zn d 4)<|zcX e 2)<|some [.agg [.s .u8 c.b,.i .i64 (zO e 2).i,.i .i64 (zO e 2).h],.agg [.i .i64 g.Kind,.i .i64 g.af,.b g.Write,.i .i64 g.N]])<|cond (ieq (zn c 5) 1) (oN (zx d 100)<|oN (zgE a)<|some [.agg [.s .u8 c.b,.i .i64 j.i,.i .i64 j.h],.agg [.i .i64 (zfF a).Kind,.i .i64 (zfF a).af,.b (zfF a).Write,.i .i64 (zfF a).N]])<|cond (ieq (zn c 5) 2) (oN (zx d 100)<|oN (zgE a)<|some [.agg [.s .u8 c.b,.i .i64 j.i,.i .i64 j.h],.agg [.i .i64 (zgG a).Kind,.i .i64 (zgG a).af,.b (zgG a).Write,.i .i64 (zgG a).N]])<|cond (ieq (zn c 5) 3) (some [.agg [.s .u8 c.b,.i .i64 f.i,.i .i64 f.h],.agg [.i .i64 4,.i .i64 0,.b false,.i .i64 0]])<|some [.agg [.s .u8 c.b,.i .i64 f.i,.i .i64 f.h],.agg [.i .i64 0,.i .i64 0,.b false,.i .i64 0]])
def zph (c:Cur)(s:Cur)(a:aD):Prop:=(∃N,zvL N c=some (AV.agg (zbU s)::[.agg<|zf0 a]))/\(s.b=c.b/\0<=s.i)/\(True)
def ziC (c:Cur)  : Bool:=wC (zph c)
def zfp (c:Cur)  : Cur:=wS (zph c)
def zcb (c:Cur)  : aD:=wV (zph c)
def zVL {c:Cur}(h:ziC c=true):zph c (zfp c) (zcb c):=wG h
def zwk (c:Cur)  : 0<=(zfp c).i:=wP λh=>h.2.1.2
def zVM (c:Cur)(h:∃N,Ends (wE (λa=>.agg (zf0 a)) c.b λa=>True)<|zvL N c):ziC c=true:=wI (λ_ _ h=>h) h
def zxk:zdS:=rP0 λc=>(ziC c,zfp c,[.agg<|zf0<|zcb c])
def zJu:zbQ Tryz.prog 435 [false,true,true] zxk:=hP0 zep zZ zyO zu (zy []) (λ_ h=>(zVL h).1)
def zRO {c:Cur}(h:zbh c):ziC c=true:=by
 refine zVM c ⟨0,?_⟩;unfold zvL oN;conv=>zeta
 have a:zbh {zf c 5 with b:=c.b}:=zbL h (zG _ _);have d:zbh {zf {zf c 5 with b:=c.b} 4 with b:=c.b}:=zbL h (zG _ _);exact zA (zbF h 5) (zbC (λ_=>zA (zbF a 4) (zA (zh8 d 2) (zA rfl (zbJ (λx=>AV.agg (zf0 x)) (v:=zfn _ _) (zcj _ _) trivial)))) λ_=>zbC (λ_=>zA (zbF a 100) (zA rfl (zbJ (λx=>AV.agg (zf0 x)) (v:=zfF _) (zG _ _) trivial))) λ_=>zbC (λ_=>zA (zbF a 100) (zA rfl (zbJ (λx=>AV.agg (zf0 x)) (v:=zgG _) (zG _ _) trivial))) λ_=>zbC (λ_=>zbJ (λx=>AV.agg (zf0 x)) (v:=⟨4,0,false,0⟩) (zG _ _) trivial) λ_=>zbJ (λx=>AV.agg (zf0 x)) (v:=⟨0,0,false,0⟩) (zG _ _) trivial)
def z6A:zc0:=[(364,[false,true,true],zsp),(394,[false,true,true],zzE),(435,[false,true,true],zxk)]++z6z
def zpW:zb5 z6A:=zcu zyO (by
 intro x a;simp only[qG,qO,or_false]at a;rcases a with rfl|rfl|rfl
 .exact zBH
 .exact zMg
 .exact zJu)
def zxZ (N:Nat)(c:Cur)  : OA :=
 let a:=zcb c;let e:=({ (zfp c) with b:=c.b}:Cur);let d:=({ (zf e 8) with b:=c.b}:Cur); (oN (ziC c)<|oN (zx e 8)<|cond (ieq (zn e 8) 0) (oN (zx d 7)<|some [.agg [.s .u8 c.b,.i .i64 (zf d 7).i,.i .i64 (zf d 7).h],.agg [.i .i64<|wsub .i64 (zn d 7) 1,.i .i64 a.af,.b a.Write,.i .i64 a.N]])<|cond (ieq (zn e 8) 1) (oN (zbu d [-1,3,4])<|some [.agg [.s .u8 c.b,.i .i64 (zba d [-1,3,4]).i,.i .i64 (zba d [-1,3,4]).h],.agg [.i .i64 a.Kind,.i .i64<|zbp d [-1,3,4],.b a.Write,.i .i64 a.N]])<|cond (ieq (zn e 8) 2) (oN (zbu d [-1,99,100])<|some [.agg [.s .u8 c.b,.i .i64 (zba d [-1,99,100]).i,.i .i64 (zba d [-1,99,100]).h],.agg [.i .i64 a.Kind,.i .i64 a.af,.b a.Write,.i .i64<|zbp d [-1,99,100]]])<|some [.agg [.s .u8 c.b,.i .i64 (zf e 8).i,.i .i64 (zf e 8).h],.agg [.i .i64 a.Kind,.i .i64 a.af,.b a.Write,.i .i64 a.N]])
def zq6 (c:Cur)(s:Cur)(a:aD):Prop:=(∃N,zxZ N c=some (AV.agg (zbU s)::[.agg<|zf0 a]))/\(s.b=c.b/\0<=s.i)/\(True)
def zpf (c:Cur)  : Bool:=wC (zq6 c)
def zpg (c:Cur)  : Cur:=wS (zq6 c)
def zy5 (c:Cur)  : aD:=wV (zq6 c)
def zY1 {c:Cur}(h:zpf c=true):zq6 c (zpg c) (zy5 c):=wG h
def zY3 (c:Cur)  : 0<=(zpg c).i:=wP λh=>h.2.1.2
def zY2 (c:Cur)(h:∃N,Ends (wE (λa=>.agg (zf0 a)) c.b λa=>True)<|zxZ N c):zpf c=true:=wI (λ_ _ h=>h) h
def zzG:zdS:=rP0 λc=>(zpf c,zpg c,[.agg<|zf0<|zy5 c])
def zMi:zbQ Tryz.prog 395 [false,true,true] zzG:=hP0 zep zZ zpW zu (zy []) (λ_ h=>(zY1 h).1)
def zZC {c:Cur}(h:zbh c):zpf c=true:=by
 refine zY2 c ⟨0,?_⟩;unfold zxZ oN;conv=>zeta
 have d:zbh {zfp c with b:=c.b}:=zbL h (zwk _);have a:zbh {zf {zfp c with b:=c.b} 8 with b:=c.b}:=zbL h (zG _ _);exact zA (zRO h) (zA (zbF d 8)<|zbC (λ_=>zA (zbF a 7) (zbJ (λx=>AV.agg (zf0 x)) (v:=⟨wsub .i64 _ 1,(zcb c).af,(zcb c).Write,(zcb c).N⟩) (zG _ _) trivial)) λ_=>zbC (λ_=>zA (zfh a (by simp)) (zbJ (λx=>AV.agg (zf0 x)) (v:=⟨(zcb c).Kind,zbp _ _,(zcb c).Write,(zcb c).N⟩) (zb1 _ _) trivial)) λ_=>zbC (λ_=>zA (zfh a (by simp)) (zbJ (λx=>AV.agg (zf0 x)) (v:=⟨(zcb c).Kind,(zcb c).af,(zcb c).Write,zbp _ _⟩) (zb1 _ _) trivial)) λ_=>zbJ (λx=>AV.agg (zf0 x)) (v:=(zcb c)) (zG _ _) trivial)
def zvM (N:Nat)(c:Cur)  : OA :=
 let a:=({ (zf c 256) with b:=c.b}:Cur);let d:=({ (zf a 256) with b:=c.b}:Cur);let e:=zba d [0,1,128,255,zn c 256,zn a 256,-1,256,9223372036854775807]; (oN (zx c 256)<|oN (zx a 256)<|oN (zbu d [0,1,128,255,zn c 256,zn a 256,-1,256,9223372036854775807])<|some [.agg [.s .u8 c.b,.i .i64 e.i,.i .i64 e.h],aI<|zbp d [0,1,128,255,zn c 256,zn a 256,-1,256,9223372036854775807]])
def zpi (c:Cur)(s:Cur)(a:Int):Prop:=(∃N,zvM N c=some (AV.agg (zbU s)::[aI a]))/\(s.b=c.b/\0<=s.i)/\(True)
def zmI (c:Cur)  : Bool:=wC (zpi c)
def zmJ (c:Cur)  : Cur:=wS (zpi c)
def zvy (c:Cur)  : Int:=wV (zpi c)
def zVN {c:Cur}(h:zmI c=true):zpi c (zmJ c) (zvy c):=wG h
def zVP (c:Cur)  : 0<=(zmJ c).i:=wP λh=>h.2.1.2
def zVO (c:Cur)(h:∃N,Ends (wE (λa=>aI a) c.b λa=>True)<|zvM N c):zmI c=true:=wI (λ_ _ h=>h) h
def zxl:zdS:=rP0 λc=>(zmI c,zmJ c,[aI<|zvy c])
def zJv:zbQ Tryz.prog 339 [false,true,true] zxl:=hP0 zep zZ zpW zu (zy []) (λ_ h=>(zVN h).1)
def z9P {c:Cur}(h:zbh c):zmI c=true:=by
 refine zVO c ⟨0,?_⟩;unfold zvM oN;conv=>zeta
 have a:zbh {zf c 256 with b:=c.b}:=zbL h (zG _ _);have d:zbh {zf {zf c 256 with b:=c.b} 256 with b:=c.b}:=zbL h (zG _ _);exact zA (zbF h 256) (zA (zbF a 256)<|zA (zfh d (by simp))<|zbJ aI (zb1 _ _) trivial)
def zte (N:Nat)(c:Cur)  : OA :=
 let a:=zba c [0,1,2,3,0,1,-1,4,9223372036854775807]; (oN (zbu c [0,1,2,3,0,1,-1,4,9223372036854775807])<|some [.agg [.s .u8 c.b,.i .i64 a.i,.i .i64 a.h],aI<|zbp c [0,1,2,3,0,1,-1,4,9223372036854775807]])
def zm5 (c:Cur)(s:Cur)(a:Int):Prop:=(∃N,zte N c=some (AV.agg (zbU s)::[aI a]))/\(s.b=c.b/\0<=s.i)/\(True)
def zln (c:Cur)  : Bool:=wC (zm5 c)
def zlo (c:Cur)  : Cur:=wS (zm5 c)
def zsO (c:Cur)  : Int:=wV (zm5 c)
def zTO {c:Cur}(h:zln c=true):zm5 c (zlo c) (zsO c):=wG h
def zTQ (c:Cur)  : 0<=(zlo c).i:=wP λh=>h.2.1.2
def zTP (c:Cur)(h:∃N,Ends (wE (λa=>aI a) c.b λa=>True)<|zte N c):zln c=true:=wI (λ_ _ h=>h) h
def zu9:zdS:=rP0 λc=>(zln c,zlo c,[aI<|zsO c])
def zGP:zbQ Tryz.prog 242 [false,true,true] zu9:=hP0 zep zZ zpW zu (zy []) (λ_ h=>(zTO h).1)
def z8R {c:Cur}(h:zbh c):zln c=true:=by
 refine zTP c ⟨0,?_⟩;unfold zte oN;conv=>zeta
 exact zA (zfh h (by simp)) (zbJ aI (zb1 _ _) trivial)
def zUP (N:Nat)(c:Cur)  : OA :=
 let a:=zba c [0,1,2,3,3,4,7,8,-1,9223372036854775807,-9223372036854775808]; (oN (zbu c [0,1,2,3,3,4,7,8,-1,9223372036854775807,-9223372036854775808])<|some [.agg [.s .u8 c.b,.i .i64 a.i,.i .i64 a.h],aI<|zbp c [0,1,2,3,3,4,7,8,-1,9223372036854775807,-9223372036854775808]])
def zo7 (c:Cur)(s:Cur)(a:Int):Prop:=(∃N,zUP N c=some (AV.agg (zbU s)::[aI a]))/\(s.b=c.b/\0<=s.i)/\(True)
def zFx (c:Cur)  : Bool:=wC (zo7 c)
def zFy (c:Cur)  : Cur:=wS (zo7 c)
def zO4 (c:Cur)  : Int:=wV (zo7 c)
def zVH {c:Cur}(h:zFx c=true):zo7 c (zFy c) (zO4 c):=wG h
def zxg:zdS:=rP0 λc=>(zFx c,zFy c,[aI<|zO4 c])
def zJo:zbQ Tryz.prog 355 [false,true,true] zxg:=hP0 zep zZ zpW zu (zy []) (λ_ h=>(zVH h).1)
def ztd (N:Nat)(c:Cur)  : OA :=
 let e:=({ (zf c 3) with b:=c.b}:Cur);let d:=({ (zf e 4) with b:=c.b}:Cur);let a:=({ (zf d 6) with b:=c.b}:Cur); (oN (zx c 3)<|oN (zx e 4)<|oN (zx d 6)<|oN (zx a 3)<|some [.agg [.s .u8 c.b,.i .i64 (zf a 3).i,.i .i64 (zf a 3).h],.agg [.i .i64<|zK .i64 1<|zn c 3,.i .i64<|zn e 4,.i .i64<|zn d 6,.i .i64<|zK .i64 1<|zn a 3]])
def zm4 (c:Cur)(s:Cur)(a:aq):Prop:=(∃N,ztd N c=some (AV.agg (zbU s)::[aT .entry a]))/\(s.b=c.b/\0<=s.i)/\(True)
def zhF (c:Cur)  : Bool:=wC (zm4 c)
def zgI (c:Cur)  : Cur:=wS (zm4 c)
def zl7 (c:Cur)  : aq:=wV (zm4 c)
def zTM {c:Cur}(h:zhF c=true):zm4 c (zgI c) (zl7 c):=wG h
def zt9 (c:Cur)  : 0<=(zgI c).i:=wP λh=>h.2.1.2
def zTN (c:Cur)(h:∃N,Ends (wE (λa=>aT .entry a) c.b λa=>True)<|ztd N c):zhF c=true:=wI (λ_ _ h=>h) h
def zu8:zdS:=rP0 λc=>(zhF c,zgI c,[aT .entry<|zl7 c])
def zGO:zbQ Tryz.prog 202 [false,true,true] zu8:=hP0 zep zZ zpW zu (zy []) (λ_ h=>(zTM h).1)
def zLv {c:Cur}(h:zbh c):zhF c=true:=by
 refine zTN c ⟨0,?_⟩;unfold ztd oN;conv=>zeta
 have a:zbh {zf c 3 with b:=c.b}:=zbL h (zG _ _);have d:zbh {zf {zf c 3 with b:=c.b} 4 with b:=c.b}:=zbL h (zG _ _);have e:zbh {zf {zf {zf c 3 with b:=c.b} 4 with b:=c.b} 6 with b:=c.b}:=zbL h (zG _ _);exact zA (zbF h 3) (zA (zbF a 4)<|zA (zbF d 6)<|zA (zbF e 3)<|zbJ (aT .entry) (v:=⟨_,_,_,_⟩) (zG _ _) trivial)
def z6B:zc0:=[(395,[false,true,true],zzG),(339,[false,true,true],zxl),(242,[false,true,true],zu9),(355,[false,true,true],zxg),(202,[false,true,true],zu8)]++z6A
def z4b:zb5 z6B:=zcu zpW (by
 intro x a;simp only[qG,qO,or_false]at a;rcases a with rfl|rfl|rfl|rfl|rfl
 .exact zMi
 .exact zJv
 .exact zGP
 .exact zJo
 .exact zGO)
section
open Go Go.RowKit
structure Cw (w0:World) (blk:Nat) (u:Value) (c:Cur) (w:World):Prop where
 os:w.os=w0.os
 tape:w.tape=w0.tape
 output:w.output=w0.output
 size:w0.heap.size<=w.heap.size
 keep:∀b,b<w0.heap.size->b≠blk->w.heap[b]?=w0.heap[b]?
 cur:∃e,w.heap[blk]?=some (.cells #[u,.int .i64 c.i,.int .i64 c.h] e (0,0))
def Cw.trans {g w1 h:World}{blk:Nat}{u:Value}{i d:Cur}(a:Cw g blk u i w1)(c:Cw w1 blk u d h):Cw g blk u d h :=
 ⟨c.os.trans a.os,c.tape.trans a.tape,c.output.trans a.output,qU a.size c.size,λb e f=>(c.keep b (q9 e a.size) f).trans (a.keep b e f),c.cur⟩
def Cw.drew {a w:World}{blk:Nat}{u:Value}{c:Cur}(h:Cw a blk u c w):Cw a blk u c w.drew:=⟨h.os,h.tape,h.output,h.size,h.keep,h.cur⟩
def Cw.at (w:World)(blk:Nat)(u:Value)(c:Cur)(h:∃e,w.heap[blk]?=some (.cells #[u,.int .i64 c.i,.int .i64 c.h] e (0,0))):Cw w blk u c w:=⟨rfl,rfl,rfl,qS _,λ_ _ _=>rfl,h⟩
def Cw.alloc {d w:World}{blk:Nat}{u:Value}{c:Cur}(h:Cw d blk u c w)(a:blk<w.heap.size)(o:Obj):Cw d blk u c (w.alloc o):=
 ⟨h.os,h.tape,h.output,qU h.size (by simp),λb a g=>(heap_alloc_old w o<|q9 a h.size).trans (h.keep b a g),by obtain⟨e,f⟩:=h.cur;exact⟨e,(heap_alloc_old w o a).trans f⟩⟩
def Cw.lt {b w:World}{blk:Nat}{u:Value}{c:Cur}(h:Cw b blk u c w):blk<w.heap.size:=by obtain⟨e,a⟩:=h.cur;exact(qK.1 a).1
def zGc {P:Program}{f:FuncId}{y:LC->LA->Option (Bool×LC×LA)}(V:zbQ P f [false,true,true] y){w:World}{blk:Nat}{u:Value}{c c2:Cur}{z:zU}(q:∃e,w.heap[blk]?=some (.cells #[u,.int .i64 c.i,.int .i64 c.h] e (0,0)))(hu:Rep false w u (.s .u8 c.b) z)(W:∀x,z x->x<w.heap.size/\x≠blk){avs rs:LA}{xs:List Value}{Ka:zU}(l:zdy false w (zq avs) xs λ_=>Ka)(p:∀x,Ka x->x<w.heap.size/\x≠blk)(hr:y (zbU c) avs=some (true,zbU c2,rs)) :
 Calls P f (#[.pointer<|some ⟨blk,0,none⟩]++(zbR avs xs).toArray) w λe B=>∃C A,e = .returned (zjH<|zbR rs C)/\Cw w blk u c2 B/\zpx (zkG f) B (zq rs) C A/\(∀i x,i<(zq rs).length->A i x->w.heap.size<=x/\x<B.heap.size):=by
 obtain⟨e,Y⟩:=q;refine(V.2 w blk _ e (zbU c) (λj x=>j=0/\z x) avs xs Ka (zbU c2) rs Y rfl rfl ?_ ?_ ?_ l ?_ hr).mono ?_
 .intro j cv v m k
  match j,m,k with
  | 0,m,k=>cases m;cases k;exact hu.weak (λx l=>⟨rfl,l⟩)
  | 1,m,k=>cases m;cases k;exact .i _ _ _
  | 2,m,k=>cases m;cases k;exact .i _ _ _
  |j+3,m,k=>simp[zbU]at m
 .intro j x _ l;exact W x l.2
 .intro i j x r t n hne l hx2;have:i=0:=l.1;subst this;simp[zbe]at n
 .intro x l;refine⟨(p x l).1,(p x l).2,λj t n d=>?_⟩;have:j=0:=d.1;subst this;simp[zbe]at n
 .intro E B hp;cases E with
  |panicked _=>exact hp.elim
  |outgrown=>exact hp.elim
  |returned v=>
   obtain⟨Q,R,S,T,U,a,G,K',C,A,I,L,g3,F,M,N,g7,O,g9,J,K⟩:=hp;have g:∀i x,i<(zbU c).length->zbe [false,true,true] i->¬ ((λ(j:Nat) x=>j=0/\z x) i x):=by intro i x r n d;have:i=0:=d.1;subst this;simp[zbe]at n
   have k:a = #[u,.int .i64 c2.i,.int .i64 c2.h]:=by
    have hs:a.size=3:=L;have D:=(F 0 _ (a[0]'(by omega)) rfl (jM _)).2 (by simp[zbe]);have H:=F 1 _ (a[1]'(by omega)) rfl (jM _);have E:=F 2 _ (a[2]'(by omega)) rfl (jM _);have D:u=a[0]'(by omega):=(by simpa using D);apply Array.ext;{exact hs}
    .intro i r hi2
     match i,r with
     | 0,_=>exact D.symm
     | 1,_=>exact H
     | 2,_=>exact E
     |i+3,h=>omega
   subst k;refine⟨C,A,by rw[N],⟨Q,R,S,T,λb X Z=>U b X Z λj t n d=>g j b t n d,G,I⟩,M,λi x r d=>?_⟩;obtain⟨k1,k2,k3⟩:=O i x r d;rcases k3 with⟨j,t,n,d⟩|d;{exact absurd d (g j x t n)};{exact⟨d,k1⟩}
def zeL (c:Cur):List LI:=zt8 c 3
def zyD (c:Cur):Cur:={zl5 c 3 with b:=c.b}
def zYo (c:Cur):Int:=zn (zyD c) 8
def zhK (c:Cur):Cur:={zf (zyD c) 8 with b:=c.b}
def zYn (c:Cur):Int:=zn (zhK c) 3
def zsy (c:Cur):Cur:={zf (zhK c) 3 with b:=c.b}
def z9J (c:Cur):Int:=zn (zsy c) 4
def zYl (c:Cur):Cur:={zf (zsy c) 4 with b:=c.b}
def ztH (c:Cur):Int:=zbp (zhK c) [-1,100]
def zYm (c:Cur):Cur:={zba (zhK c) [-1,100] with b:=c.b}
def znZ (_:Nat)(c:Cur):OA:=
 bif zih c 3 then (bif zx (zyD c) 8 then (bif ieq (zYo c) 0 then (cond (zx (zhK c) 3) (cond (zx (zsy c) 4) (some (AV.agg (zbU<|zYl c)::[aS (.sl .int)<|up (zeL c) (zYn c)<|tk (ix (zeL c) 0 [])<|z9J c])) none) none)
  else (bif ieq (zYo c) 1 then (cond (zbu (zhK c) [-1,100]) (some (AV.agg (zbU<|zYm c)::[aS (.sl .int)<|up (zeL c) 1<|up (ix (zeL c) 1 []) 2<|ztH c])) none)
  else (cond (ieq (zYo c) 2) (cond (zx (zhK c) 3) (some (AV.agg (zbU<|zsy c)::[aS (.sl .int)<|tk (zeL c)<|zYn c])) none)<|some (AV.agg (zbU<|zhK c)::[aS (.sl .int)<|zeL c])))) else none) else none
def zq0 (c:Cur)(s:Cur)(a:List LI):Prop:=(∃N,znZ N c=some (AV.agg (zbU s)::[aS (.sl .int) a]))/\(s.b=c.b/\0<=s.i)/\(a.length<=3/\∀r∈a,r.length<=4)
def zo9 (c:Cur)  : Bool:=wC (zq0 c)
def zie (c:Cur)  : Cur:=wS (zq0 c)
def zqg (c:Cur)  : List LI:=wV (zq0 c)
def zKw {c:Cur}(h:zo9 c=true):zq0 c (zie c) (zqg c):=wG h
def zYS (c:Cur)  : 0<=(zie c).i:=wP λh=>h.2.1.2
def zYR (c:Cur)(h:∃N,Ends (wE (λa=>aS (.sl .int) a) c.b λa=>a.length<=3/\∀r∈a,r.length<=4)<|znZ N c):zo9 c=true:=wI (λ_ _ h=>h) h
def zrZ:zdS:=rP0 λc=>(zo9 c,zie c,[aS (.sl .int)<|zqg c])
def z3P {w:World}{blk:Nat}{u:Value}{c:Cur}{l:zU}{n:Int}(g:∃e,w.heap[blk]?=some (.cells #[u,.int .i64 c.i,.int .i64 c.h] e (0,0)))(t:Rep false w u (.s .u8 c.b) l)(q:∀x,l x->x<w.heap.size/\x≠blk)(r:zih c n=true) :
 Calls Tryz.prog 340 #[.pointer<|some ⟨blk,0,none⟩,.int .i64 n] w λe k=>∃v j,e = .returned v/\Cw w blk u {zl5 c n with b:=c.b} k/\Rep true k v (.s (.sl .int)<|zt8 c n) j/\(∀x,j x->w.heap.size<=x/\x<k.heap.size):=by
 have:=zGc (c:=c) (c2:=zl5 c n) zw2 g t q (avs:=[.one<|.i .i64 n]) (rs:=[aS (.sl .int)<|zt8 c n]) (xs:=[.int .i64 n]) (Ka:=λ_=>False) ⟨rfl,λi A x a d=>by
  match i,a,d with
  | 0,a,d=>cases a;cases d;exact .i _ _ _
  |i+1,a,d=>simp at d⟩ (λx d=>d.elim) (by show some (zih ⟨c.b,c.i,c.h⟩ n,_,_)=_;rw[show (⟨c.b,c.i,c.h⟩:Cur)=c from rfl,r])
 refine Calls.mono this ?_
 rintro e k ⟨z,j,rfl,f,m,p⟩
 match z,m.1 with
 |[y],_=>exact⟨y,j 0,rfl,⟨f.os,f.tape,f.output,f.size,f.keep,f.cur⟩,m.2 0 _ y rfl rfl,λx d=>p 0 x (by simp[zq,AV.cvs]) d⟩
def zst {w:World}{blk:Nat}{u:Value}{c:Cur}{j:zU}{n:Int}(g:∃e,w.heap[blk]?=some (.cells #[u,.int .i64 c.i,.int .i64 c.h] e (0,0)))(r:Rep false w u (.s .u8 c.b) j)(p:∀x,j x->x<w.heap.size/\x≠blk)(q:zx c n=true) :
 Calls Tryz.prog 101 #[.pointer<|some ⟨blk,0,none⟩,.int .i64 n] w λe l=>e = .returned (.int .i64<|zn c n)/\Cw w blk u {zf c n with b:=c.b} l:=by
 have:=zGc (c:=c) (c2:=zf c n) ztC g r p (avs:=[.one<|.i .i64 n]) (rs:=[aI<|zn c n]) (xs:=[.int .i64 n]) (Ka:=λ_=>False) ⟨rfl,λi z x a d=>by
  match i,a,d with
  | 0,a,d=>cases a;cases d;exact .i _ _ _
  |i+1,a,d=>simp at d⟩ (λx d=>d.elim) (by show some (zx ⟨c.b,c.i,c.h⟩ n,_,_)=_;rw[show (⟨c.b,c.i,c.h⟩:Cur)=c from rfl,q])
 refine Calls.mono this ?_
 rintro e l ⟨t,v,rfl,f,k,A⟩
 match t,k.1,k.2 with
 |[y],_,m=>have:=(m 0 _ y rfl rfl).int_inv;subst this;exact⟨rfl,f.os,f.tape,f.output,f.size,f.keep,f.cur⟩
def z1l {w:World}{blk:Nat}{u:Value}{c:Cur}{k:zU}{l:LI}{v:Value}{Ka:zU}(f:∃e,w.heap[blk]?=some (.cells #[u,.int .i64 c.i,.int .i64 c.h] e (0,0)))(t:Rep false w u (.s .u8 c.b) k)(q:∀x,k x->x<w.heap.size/\x≠blk)(r:zbu c l=true)(z:Rep false w v (.s .int l) Ka)(j:∀x,Ka x->x<w.heap.size/\x≠blk) :
 Calls Tryz.prog 109 #[.pointer<|some ⟨blk,0,none⟩,v] w λe n=>e = .returned (.int .i64<|zbp c l)/\Cw w blk u {zba c l with b:=c.b} n:=by
 have:=zGc (c:=c) (c2:=zba c l) zrv f t q (avs:=[.one<|.s .int l]) (rs:=[aI<|zbp c l]) (xs:=[v]) (Ka:=Ka) ⟨rfl,λi C x a g=>by
  match i,a,g with
  | 0,a,g=>cases a;cases g;exact z
  |i+1,a,g=>simp at g⟩ j (by show some (zbu ⟨c.b,c.i,c.h⟩ l,_,_)=_;rw[show (⟨c.b,c.i,c.h⟩:Cur)=c from rfl,r])
 refine Calls.mono this ?_
 rintro e n ⟨A,B,rfl,d,m,D⟩
 match A,m.1,m.2 with
 |[y],_,p=>have:=(p 0 _ y rfl rfl).int_inv;subst this;exact⟨rfl,d.os,d.tape,d.output,d.size,d.keep,d.cur⟩
def z1w {w:World}{v:Value}{l:List LI}{K:zU}(h:Rep true w v (.s (.sl .int) l) K)(n:l.length=3):∃(b off cap:Nat) (arr:LV) (e:TypeId) (V:Nat->Value) (c:Nat->zU),v = .slice (some ⟨b,off,none⟩) 3 cap/\w.heap[b]?=some (.cells arr e (0,0))/\3<=cap/\off+cap<=arr.size/\K b/\
 (∀i x,i<3->c i x->K x/\x≠b)/\(∀i g x,i<3->g<3->c i x->c g x->i=g)/\(∀i,i<3->arr[off+i]?=some (V i))/\∀i x,l[i]?=some x->Rep true w (V i) (.s .int x) (c i):=by
 cases h with
 |nil=>simp at n
 |void _ _ _ B=>cases B
 |sl _ _ b off cap arr e E V c _ y k r p f u a d C z=>have:=k rfl;subst this;have t:Ty.wi (.sl .int)=1:=rfl;rw[t,kT]at f;refine⟨b,off,cap,arr,e,λi=>V i 0,λi=>c i 0,by rw[n],y,by omega,f,u,λi x q j=>⟨(a i 0 x (by omega) (by decide) j).1,(a i 0 x (by omega) (by decide) j).2 rfl⟩,λi g x q A j m=>(d rfl i 0 g 0 x (by omega) (by decide) (by omega) (by decide) j m).1,λi q=>?_,λi x D=>z i x D 0 _ rfl⟩;have:=C i 0 (by omega) (by decide);rwa [t,kT,j3] at this
def zTC {w:World}{v:Value}{l:LI}{K:zU}(h:Rep true w v (.s .int l) K)(d:l.length=4):∃(b off cap:Nat) (arr:LV) (e:TypeId),v = .slice (some ⟨b,off,none⟩) 4 cap/\w.heap[b]?=some (.cells arr e (0,0))/\4<=cap/\off+cap<=arr.size/\K b/\
 ∀i x,l[i]?=some x->arr[off+i]?=some (.int .i64 x):=by
 cases h with
 |nil=>simp at d
 |void _ _ _ u=>cases u
 |sl _ _ b off cap arr e A V z _ q c j f a p k g y r=>have:=c rfl;subst this;have m:Ty.wi .int=1:=rfl;rw[m,kT]at a;refine⟨b,off,cap,arr,e,by rw[d],q,by omega,a,p,λi x n=>?_⟩;have t:i<l.length:=(qA.1 n).1;have:=y i 0 t (by decide);rw[m,kT,j3] at this;rw[this,(r i x n 0 (.i .i64 x) rfl).int_inv]
def zHr {o:Bool}{w:World}{b off cap:Nat}{arr:LV}{e:TypeId}(g:w.heap[b]?=some (.cells arr e (0,0))){l:LI}(r:l.length<=1000)(c:l.length<=cap)(m:off+cap<=arr.size)(n:∀i x,l[i]?=some x->arr[off+i]?=some (.int .i64 x)):Rep o w (.slice (some ⟨b,off,none⟩) l.length cap) (.s .int l) (λx=>x=b):=by
 refine .sl .int l b off cap arr e (0,0) (λi j=>.int .i64 (l.getD i 0)) (λ_ _ _=>False) _ g (λ_=>rfl) (by rw[zhP];omega) c (by show off+cap*1<=arr.size;omega) rfl (λi j x _ _ h=>h.elim) (λ_ i j t u x _ _ _ _ h=>h.elim) (λi j f k=>?_) (λi x p j q a=>?_);{have d:j=0:=(by have:j<1:=k;omega);subst d;have:=n i _ (qB f);show arr[off+i*1+0]?=_;rw[kT,j3,this];simp[List.getD,qB f]}
 .match j,a with
  | 0,a=>cases a;have:l.getD i 0=x:=(by simp[List.getD,p]);show Rep o w (.int .i64<|l.getD i 0) _ _;rw[this];exact .i _ _ _
  |j+1,a=>simp[Ty.cells]at a
def zHs {w:World}{b off cap:Nat}{arr:LV}{e:TypeId}(n:w.heap[b]?=some (.cells arr e (0,0))){l:List LI}(A:l.length<=1000)(c:l.length<=cap)(t:off+cap<=arr.size)(V:Nat->Value){K:zU}(f:K b)(u:∀i,i<l.length->arr[off+i]?=some (V i))(r:∀i x,l[i]?=some x->∃d,Rep false w (V i) (.s .int x) d/\∀y,d y->K y):Rep false w (.slice (some ⟨b,off,none⟩) l.length cap) (.s (.sl .int) l) K:=by
 refine .sl (.sl .int) l b off cap arr e (0,0) (λi _=>V i) (λ_ _=>K) _ n (λ_=>rfl) (by rw[zhP];omega) c (by show off+cap*1<=arr.size;omega) f (λi j x _ _ h=>⟨h,λh=>by cases h⟩) (λh=>by cases h) (λi j p q=>?_) (λi x v j z a=>?_);{have g:j=0:=(by have:j<1:=q;omega);subst g;show arr[off+i*1+0]?=_;rw[kT,j3];exact u i p}
 .match j,a with
  | 0,a=>cases a;obtain⟨d,k,m⟩:=r i x v;exact k.weak m
  |j+1,a=>simp[Ty.cells]at a
def zuP {w:World}{b o:Nat}{arr:LV}{e:TypeId}(a:w.heap[b]?=some (.cells arr e (0,0))):w.frozen? ⟨b,o,none⟩=false:=by simp[World.frozen?,a]
set_option maxHeartbeats 3000000 in
def zVb {w:World}{blk:Nat}{u:Value}{c:Cur}{K0:zU}{r:Ans}(N:Nat)(b5:∃e,w.heap[blk]?=some (.cells #[u,.int .i64 c.i,.int .i64 c.h] e (0,0)))(hu:Rep false w u (.s .u8 c.b) K0)(hK:∀x,K0 x->x<w.heap.size/\x≠blk)(hE:znZ N c=some r) :
 Calls Tryz.prog 243 #[.pointer<|some ⟨blk,0,none⟩] w λe p=>∃c2 l v Kr,r=AV.agg (zbU c2)::[aS (.sl .int) l]/\e = .returned v/\Cw w blk u c2 p/\Rep false p v (.s (.sl .int) l) Kr/\(∀x,Kr x->w.heap.size<=x/\x<p.heap.size):=by
 unfold znZ at hE;cases hm:zih c 3 with
 |false=>rw[hm]at hE;cases hE
 |true=>
 cases K:zx (zyD c) 8 with
 |false=>rw[hm,K]at hE;cases hE
 |true=>
 rw[hm,K,cT,cT]at hE;have a7:∀{p:World} {O:Cur},Cw w blk u O p->O.b=c.b->Rep false p u (.s .u8 O.b) K0/\∀x,K0 x->x<p.heap.size/\x≠blk:=by intro p O h e;rw[e];exact⟨hu.frame λx d=>h.keep x (hK x d).1 (hK x d).2,λx d=>⟨q9 (hK x d).1 h.size,(hK x d).2⟩⟩
 have hM:=(zy1 hm).2.2 (by omega) (by omega)
 have a8:(zeL c).length=3:=by have:=hM.1;unfold ln at this;unfold zeL;omega
 have h5:=(zhC K).2.2 (by omega)
 obtain⟨k,hk⟩:∃k,zn (zyD c) 8=k:=⟨_,rfl⟩;have f1:zYo c=k:=hk;rw[f1]at hE
 go_enter Tryz.func243,Tryz.ntmps243
 go_wp2_with fail
 refine(z3P b5 hu hK hm).mono ?_
 rintro e L ⟨v,K1,rfl,F,b3,m⟩
 have b3:Rep true L v (.s (.sl .int)<|zeL c) K1:=b3;have F:Cw w blk u (zyD c) L:=F;obtain⟨E,t,a3,d7,e0,V,Kc,rfl,c3,g9,d1,Z,G,e9,hV,c1⟩:=z1w b3 a8;have h3:blk<w.heap.size:=by obtain⟨e,he⟩:=b5;exact(qK.1 he).1
 have e5:E≠blk:=by have:=(m E Z).1;omega
 have cellAt:∀{p:World} {O:Cur},Cw L blk u O p->p.heap[E]?=some (.cells d7 e0 (0,0)):=λh=>(h.keep E (m E Z).2 e5).trans c3
 go_wp2_with fail
 obtain⟨g1,f2⟩:=a7 F rfl;refine(zst F.cur g1 f2 K).mono ?_;rw[hk]
 rintro e X ⟨rfl,B⟩
 have B:Cw L blk u (zhK c) X:=B;obtain⟨g2,f3⟩:=a7 (F.trans B) rfl;have g0:=B.size;have g8:w.heap.size<=E/\E<L.heap.size:=m E Z
 have b2:∀{p:World} (i:Nat) (x:LI),(∀b,Kc i b->b<L.heap.size->b≠blk->b≠E->p.heap[b]?=L.heap[b]?)->i<3->(zeL c)[i]?=some x->Rep false p (V i) (.s .int x) (Kc i)/\∀y,Kc i y->w.heap.size<=y/\y<L.heap.size:=by intro p i x hf P d;refine⟨((c1 i x d).frame λy S=>?_).ro,λy S=>m y (G i y P S).1⟩;have:=m y (G i y P S).1;exact hf y S this.2 (by omega) (G i y P S).2
 go_wp2_with fail
 .have h0:ieq k 0=true:=by assumption
  rw[h0,cT]at hE;cases J:zx (zhK c) 3 with
  |false=>rw[J]at hE;cases hE
  |true=>
  cases b4:zx (zsy c) 4 with
  |false=>rw[J,b4]at hE;cases hE
  |true=>
   rw[J,b4,cT,cT]at hE;have hj:=(zhC J).2.2 (by omega);obtain⟨j,a0⟩:=u0 hj.1;have c8:zYn c=(j:Int):=a0;have hn:=(zhC b4).2.2 (by omega);obtain⟨n,c9⟩:=u0 hn.1;have f8:z9J c=(n:Int):=c9;rw[c8,f8]at hE;rw[a0]at hj;rw[c9]at hn;have e6:j<3:=(by omega);have h6:n<4:=(by omega);obtain⟨R0,c0⟩:∃R0,(zeL c)[0]?=some R0:=⟨_,qB (by omega)⟩;have e2:R0.length=4:=hM.2 R0 (qI c0);obtain⟨f,a,g,T,e1,f0,c4,c6,a9,D,W⟩:=zTC (c1 0 R0 c0) e2;have Q:∀{p:World} {O:Cur},Cw L blk u O p->p.cell? ⟨E,t,none⟩=some (.slice (some ⟨f,a,none⟩) 4 g):=λh=>(by have:=hV 0 (by omega);rw[j3,f0] at this;rw[G0<|cellAt h];exact this);have b7:∀{p:World} {O:Cur},Cw L blk u O p->p.cell? ⟨E,t+j,none⟩=some (V j)/\p.frozen? ⟨E,t+j,none⟩=false:=λh=>by rw[G0<|cellAt h];exact⟨hV j e6,zuP<|cellAt h⟩
   have d8:∀{I:World},Cw L blk u (zYl c) I->∃c2 l v Kr,r=AV.agg (zbU c2)::[aS (.sl .int) l]/\Ending.returned (.slice (some ⟨E,t,none⟩) 3 a3) = .returned v/\Cw w blk u c2 (I.setCell ⟨E,t+j,none⟩<|.slice (some ⟨f,a,none⟩) n g)/\Rep false (I.setCell ⟨E,t+j,none⟩<|.slice (some ⟨f,a,none⟩) n g) v (.s (.sl .int) l) Kr/\
    (∀x,Kr x->w.heap.size<=x/\x<(I.setCell ⟨E,t+j,none⟩<|.slice (some ⟨f,a,none⟩) n g).heap.size):=by
    intro I h4;have hz:=h4.size;have a6:=m f (G 0 f (by omega) D).1
    have U:f≠blk:=by omega
    have a5:f≠E:=(G 0 f (by omega) D).2
    have ho:∀b,b≠E->(I.setCell ⟨E,t+j,none⟩<|.slice (some ⟨f,a,none⟩) n g).heap[b]?=I.heap[b]?:=λb K=>heap_setCell_other I _ b _ K;have d0:=heap_setCell_same I E (t+j) d7 e0 (.slice (some ⟨f,a,none⟩) n g) (cellAt h4);have A:=F.trans h4;refine⟨_,_,_,K1,(Option.some.inj hE).symm,rfl,⟨A.os,A.tape,A.output,by rw[World.size_setCell];exact A.size,λb K hn=>(ho b (by omega)).trans (A.keep b K hn),by obtain⟨e,he⟩:=A.cur;exact⟨e,(ho blk λh=>e5 h.symm).trans he⟩⟩,?_,λx d=>⟨(m x d).1,by rw[World.size_setCell];have:=m x d;omega⟩⟩
    have c7:ix (zeL c) 0 []=R0:=by unfold ix;simp[List.getD,c0]
    have a1:(up (zeL c) (j:Int)<|tk (ix (zeL c) 0 []) (n:Int)).length=3:=by rw[zh3];exact a8
    have:=zHs d0 (l:=up (zeL c) (j:Int) (tk (ix (zeL c) 0 []) (n:Int))) (by omega) (cap:=a3) (off:=t) (by omega) (by simpa using d1) (λi=>if i=j then .slice (some ⟨f,a,none⟩) n g else V i) Z (λi P=>by
     rw[a1]at P;rw[uI]
     by_cases M:i=j
     .subst M;rw[if_pos rfl,if_pos (by omega),if_pos rfl]
     .rw [if_neg (by omega),if_neg M]
      exact hV i P) (λi x d=>by
     have P:i<3:=by rw[<- a1];exact(qA.1 d).1
     unfold up at d;rw[jE]at d
     by_cases M:i=j
     .subst M;rw[kJ,if_pos rfl,if_pos (by omega),c7]at d
      cases d;refine⟨λx=>x=f,?_,λy S=>by rw[S];exact(G 0 f (by omega) D).1⟩
      have hl:(tk R0 (n:Int)).length=n:=by simp[tk];omega
      have:=zHr (o:=false) (w:=I.setCell ⟨E,t+i,none⟩ (.slice (some ⟨f,a,none⟩) n g)) (b:=f) (off:=a) (cap:=g) (arr:=T) (e:=e1) ((ho f a5).trans ((h4.keep f a6.2 U).trans c4)) (l:=tk R0 (n:Int)) (by omega) (by omega) a9 (λq z hq=>by
       unfold tk at hq;rw[jI]at hq;split at hq
       .exact W q z hq
       .cases hq)
      rw[hl] at this;rw[if_pos rfl];exact this
     .rw [kJ,if_neg (by omega)]at d
      rw[if_neg M];exact⟨Kc i,(b2 i x (λb _ K hn c3=>(ho b c3).trans (h4.keep b K hn)) P d).1,λy S=>(G i y P S).1⟩)
    rw[a1] at this;exact this
   have Y:Cw L blk u (zhK c) X.drew:=B.drew;obtain⟨e8,e7⟩:=a7 (F.trans Y) rfl;have d2:=Q Y
   go_region_with (first
    |(go_at_call_of 101 (Value.int IntKind.i64 3);refine(zst (c:=zhK c) (n:=3) Y.cur e8 e7 J).mono ?_;rw[a0];rintro e w3 ⟨rfl,H⟩;have H:Cw X.drew blk u (zsy c) w3:=H;have C:=Y.trans H;have d3:=Q C;obtain⟨g3,f4⟩:=a7 (F.trans C) rfl)
    |(go_at_call_of 101 (Value.int IntKind.i64 4);refine(zst (c:=zsy c) (n:=4) C.cur g3 f4 b4).mono ?_;rw[c9];rintro e I ⟨rfl,b8⟩;have b8:Cw w3 blk u (zYl c) I:=b8;have b9:=C.trans b8;have d4:=Q b9;obtain⟨d5,d6⟩:=b7 b9))
   (all_goals go_wp2);(all_goals go_ret);all_goals exact d8 b9
 .have h0:ieq k 0=false:=by assumption
  have h1:ieq k 1=true:=by assumption
  rw[h0,h1,cF,cT]at hE;cases c5:zbu (zhK c) [-1,100] with
  |false=>rw[c5]at hE;cases hE
  |true=>
   rw[c5,cT]at hE;obtain⟨R1,a4⟩:∃R1,(zeL c)[1]?=some R1:=⟨_,qB (by omega)⟩;have e3:R1.length=4:=hM.2 R1 (qI a4);obtain⟨f,a,g,T,e1,e4,c4,c6,a9,D,W⟩:=zTC (c1 1 R1 a4) e3;have a6:=m f (G 1 f (by omega) D).1;have U:f≠blk:=(by omega);have a5:f≠E:=(G 1 f (by omega) D).2;have R:∀{p:World} {O:Cur},Cw L blk u O p->p.cell? ⟨E,t+1,none⟩=some (.slice (some ⟨f,a,none⟩) 4 g):=λh=>(by have:=hV 1 (by omega);rw[e4] at this;rw[G0<|cellAt h];exact this);have a2:∀{p:World} {O:Cur},Cw L blk u O p->p.heap[f]?=some (.cells T e1 (0,0)):=λh=>(h.keep f a6.2 U).trans c4;have b6:∀{p:World} {O:Cur},Cw L blk u O p->p.cell? ⟨f,a+2,none⟩=some (.int .i64 R1[2])/\p.frozen? ⟨f,a+2,none⟩=false:=λh=>by rw[G0<|a2 h];exact⟨W 2 _<|qB (by omega),zuP<|a2 h⟩
   have Y:Cw L blk u (zhK c) X.drew:=B.drew;have d2:=R Y;have d9:∀{I:World},Cw L blk u (zYm c) I->∃c2 l v Kr,r=AV.agg (zbU c2)::[aS (.sl .int) l]/\Ending.returned (.slice (some ⟨E,t,none⟩) 3 a3) = .returned v/\Cw w blk u c2 (I.setCell ⟨f,a+2,none⟩<|.int .i64<|ztH c)/\Rep false (I.setCell ⟨f,a+2,none⟩<|.int .i64<|ztH c) v (.s (.sl .int) l) Kr/\
    (∀x,Kr x->w.heap.size<=x/\x<(I.setCell ⟨f,a+2,none⟩<|.int .i64<|ztH c).heap.size):=by
    intro I h4;have hz:=h4.size;have ho:∀b,b≠f->(I.setCell ⟨f,a+2,none⟩<|.int .i64<|ztH c).heap[b]?=I.heap[b]?:=λb K=>heap_setCell_other I _ b _ K;have d0:=heap_setCell_same I f (a+2) T e1 (.int .i64<|ztH c) (a2 h4);have A:=F.trans h4;refine⟨_,_,_,K1,(Option.some.inj hE).symm,rfl,⟨A.os,A.tape,A.output,by rw[World.size_setCell];exact A.size,λb K hn=>(ho b (by omega)).trans (A.keep b K hn),by obtain⟨e,he⟩:=A.cur;exact⟨e,(ho blk λh=>U h.symm).trans he⟩⟩,?_,λx d=>⟨(m x d).1,by rw[World.size_setCell];have:=m x d;omega⟩⟩
    have c7:ix (zeL c) 1 []=R1:=by unfold ix;show (zeL c).getD 1 []=R1;simp[List.getD,a4]
    have a1:(up (zeL c) 1<|up (ix (zeL c) 1 []) 2<|ztH c).length=3:=by rw[zh3];exact a8
    have:=zHs ((ho E λh=>a5 h.symm).trans (cellAt h4)) (l:=up (zeL c) 1 (up (ix (zeL c) 1 []) 2<|ztH c)) (by omega) (cap:=a3) (off:=t) (by omega) d1 V Z (λi P=>hV i (by omega)) (λi x d=>by
     have P:i<3:=by rw[<- a1];exact(qA.1 d).1
     unfold up at d;rw[jE]at d
     by_cases M:i=1
     .subst M;rw[show (1:Int).toNat=1 from rfl,if_pos rfl,if_pos (by omega),c7]at d
      cases d;refine⟨λx=>x=f,?_,λy S=>by rw[S];exact(G 1 f (by omega) D).1⟩
      have hl:(List.set R1 (2:Int).toNat<|ztH c).length=4:=by simp;omega
      have:=zHr (o:=false) (w:=I.setCell ⟨f,a+2,none⟩ (.int .i64<|ztH c)) (b:=f) (off:=a) (cap:=g) d0 (l:=List.set R1 (2:Int).toNat (ztH c)) (by omega) (by omega) (by simpa using a9) (λq z hq=>by
       rw[jE]at hq;rw[uI]
       by_cases f9:q=2
       .subst f9;rw[show (2:Int).toNat=2 from rfl,if_pos rfl,if_pos (by omega)]at hq
        cases hq;rw[if_pos rfl,if_pos (by omega)]
       .rw [show (2:Int).toNat=2 from rfl,if_neg (by omega)]at hq
        rw[if_neg (by omega)]
        exact W q z hq)
      rw[hl] at this;rw[e4];exact this
     .rw [show (1:Int).toNat=1 from rfl,if_neg (by omega)]at d
      refine⟨Kc i,(b2 i x (λb f6 K hn g7=>?_) P d).1,λy S=>(G i y P S).1⟩;exact(ho b λe=>M (e9 i 1 b P (by omega) f6 (by rw[e];exact D))).trans (h4.keep b K hn))
    rw[a1] at this;exact this
   have hA:Cw L blk u (zhK c) (X.alloc<|Obj.cells #[Value.int .i64<|-1,Value.int .i64 100] 3).drew:=(B.alloc B.lt _).drew;obtain⟨g4,f5⟩:=a7 (F.trans hA) rfl;have dA:=R hA;have g5:Rep false (X.alloc<|Obj.cells #[Value.int .i64<|-1,Value.int .i64 100] 3).drew (.slice (some ⟨X.heap.size,0,none⟩) 2 2) (.s .int [-1,100]) (λx=>x=X.heap.size):=by
    have hh:(X.alloc<|Obj.cells #[Value.int .i64<|-1,Value.int .i64 100] 3).drew.heap[X.heap.size]?=some (.cells #[Value.int .i64<|-1,Value.int .i64 100] 3 (0,0)):=heap_alloc_new X _;exact zHr (o:=false) hh (l:=[-1,100]) (cap:=2) (off:=0) (by decide) (by decide) (by decide) (λi x d=>by
     match i,d with
     | 0,d=>cases d;rfl
     | 1,d=>cases d;rfl
     |i+2,d=>simp at d)
   go_region_with (first
    |(go_at_call_of 109 (Value.slice (some ⟨X.heap.size,0,none⟩) 2 2);refine(z1l (c:=zhK c) (l:=[-1,100]) hA.cur g4 f5 c5 g5 (λx d=>by rw[d];exact⟨by simp,Nat.ne_of_gt B.lt⟩)).mono ?_;rintro e w3 ⟨rfl,H⟩;have H:Cw (X.alloc<|Obj.cells #[Value.int .i64<|-1,Value.int .i64 100] 3).drew blk u (zYm c) w3:=H;have C:=hA.trans H;have d3:=R C;obtain⟨d4,d5⟩:=b6 C))
   (all_goals go_wp2);(all_goals go_ret);all_goals exact d9 C
 .have h0:ieq k 0=false:=by assumption
  have h1:ieq k 1=false:=by assumption
  have h2:ieq k 2=true:=by assumption
  rw[h0,h1,h2,cF,cF,cT]at hE;cases J:zx (zhK c) 3 with
  |false=>rw[J]at hE;cases hE
  |true=>
   rw[J,cT]at hE;have hj:=(zhC J).2.2 (by omega);obtain⟨j,a0⟩:=u0 hj.1;have c8:zYn c=(j:Int):=a0;rw[c8]at hE;refine(zst B.cur g2 f3 J).mono ?_;rw[a0];rintro e w3 ⟨rfl,H⟩;have H:Cw X blk u (zsy c) w3:=H;go_wp2;go_ret;have e6:j<3:=(by omega);have f7:(tk (zeL c) (j:Int)).length=j:=(by simp[tk];omega);have C:=B.trans H;refine⟨_,_,_,K1,(Option.some.inj hE).symm,rfl,F.trans C,?_,λx d=>⟨(m x d).1,by have:=m x d;have:=C.size;omega⟩⟩
   have:=zHs (cellAt C) (l:=tk (zeL c) (j:Int)) (by omega) (cap:=a3) (off:=t) (by omega) d1 V Z (λi P=>hV i (by omega)) (λi x d=>by
    have P:i<(tk (zeL c) (j:Int)).length:=(qA.1 d).1;have g6:(zeL c)[i]?=some x:=by unfold tk at d;rw[jI]at d;split at d;{exact d};{cases d}
    exact⟨Kc i,(b2 i x (λb _ K hn _=>C.keep b K hn) (by omega) g6).1,λy S=>(G i y (by omega) S).1⟩)
   rw[f7] at this;exact this
 .have h0:ieq k 0=false:=by assumption
  have h1:ieq k 1=false:=by assumption
  have h2:ieq k 2=false:=by assumption
  rw[h0,h1,h2,cF,cF,cF]at hE
  go_ret
  exact⟨_,_,_,K1,(Option.some.inj hE).symm,rfl,F.trans B,(b3.frame λx d=>B.keep x (m x d).2 (by have:=m x d;omega)).ro,λx d=>⟨(m x d).1,by have:=m x d;omega⟩⟩
def zSj {c:Cur}(h:zbh c):zo9 c=true:=by
 refine zYR c ⟨0,?_⟩;unfold znZ;have t:=zban h (a0:=3) (by omega) (by omega);have y:zbh (zyD c):=zbL h (zYU _ _);have k:zbh (zhK c):=zbL h (zG _ _);have z:zbh (zsy c):=zbL h (zG _ _);have p:=(zy1 t).2.2 (by omega) (by omega);have A:(zeL c).length=3:=(by have:=p.1;unfold ln at this;unfold zeL;omega);have f:∀r∈zeL c,r.length<=4:=λr f=>k9 (p.2 r f);have u:∀n,(ix (zeL c) n []).length<=4:=(by intro n;unfold ix List.getD;cases e:(zeL c)[n.toNat]? with|none=>simp|some r=>exact f r (qI e));have g:∀(n:Int) (r:LI),r.length<=4->∀q∈up (zeL c) n r,q.length<=4:=by intro n r j q e;rcases qZ e with e|rfl;{exact f q e};{exact j}
 have d:∀(s:Cur) (l:List LI),s.b=c.b->0<=s.i->l.length<=3->(∀r∈l,r.length<=4)->Ends (λa=>∃s m,a=(AV.agg (zbU s)::[aS (.sl .int) m])/\(s.b=c.b/\0<=s.i)/\(m.length<=3/\∀r∈m,r.length<=4)) (some (AV.agg (zbU s)::[aS (.sl .int) l])):=
  λs l v w x j=>⟨_,rfl,s,l,rfl,⟨v,w⟩,x,j⟩
 exact zA t (zA (zbF y 8) (zbC (λ_=>zA (zbF k 3) (zA (zbF z 4) (d _ _ rfl (zG _ _) (by rw[zh3];omega) (g _ _<|qU (zB0 _ _)<|u _))))
  (λ_=>zbC (λ_=>zA (zfh k (by simp)) (d _ _ rfl (zb1 _ _) (by rw[zh3];omega) (g _ _ (by rw[zh3];exact u _)))) λ_=>zbC (λ_=>zA (zbF k 3) (d _ _ rfl (zG _ _) (qU (zB0 _ _) (by omega)) λr e=>f r (jZ e))) λ_=>d _ _ rfl (zG _ _) (by omega) f)))
def zMc:zbQ Tryz.prog 243 [false,true,true] zrZ:=by
 refine⟨zhJ (by kernel_rfl),?_⟩;intro w blk d e cs K T xs Ka U rs D P a4 k A X n W g;unfold zrZ rP0 at g;obtain⟨⟨p,q,r⟩,rfl,g⟩:=z1g g;obtain⟨rfl,R,rfl,rfl⟩:=zu3 g;dsimp only at R ⊢;have hs:d.size=3:=P;have M:xs=[]:=List.eq_nil_of_length_eq_zero n.1;subst M;obtain⟨N,hE⟩:=(zKw R).1;have v1:=(k 1 _ (d[1]'(by omega)) rfl (jM _)).int_inv;have v2:=(k 2 _ (d[2]'(by omega)) rfl (jM _)).int_inv
 have m:d = #[d[0]'(by omega),.int .i64 q,.int .i64 r]:=by
  apply Array.ext;{exact hs}
  .intro i E hi2
   match i,E with
   | 0,_=>rfl
   | 1,_=>exact v1
   | 2,_=>exact v2
   |i+3,h=>omega
 have hu:=k 0 _ (d[0]'(by omega)) rfl (jM _);have f:Rep false w (d[0]'(by omega)) (.s .u8 p) (K 0):=hu;generalize d[0]'(by omega)=u at m f;subst m;refine(zVb (c:=⟨p,q,r⟩) (u:=u) (K0:=K 0) N ⟨e,D⟩ f (λx n=>A 0 x (show 0<3 by decide) n) hE).mono ?_;rintro e2 w' ⟨z,l,v,S,hr,rfl,y,Y,t⟩;have B:AV.agg (zbU<|zie ⟨p,q,r⟩)::[aS (.sl .int)<|zqg ⟨p,q,r⟩]=AV.agg (zbU z)::[aS (.sl .int) l]:=hr;simp only[List.cons.injEq,AV.agg.injEq,AV.one.injEq,and_true]at B;obtain⟨C,I⟩:=B;have I:zqg ⟨p,q,r⟩=l:=(by cases I;rfl);subst I;have O:zie ⟨p,q,r⟩=z:=(by have C:=C;simp only[zbU,List.cons.injEq,CV.s.injEq,CV.i.injEq,true_and,and_true,heq_eq_eq]at C;obtain⟨F,G,H⟩:=C;generalize zie ⟨p,q,r⟩=s at F G H;obtain⟨a1,a2,a3⟩:=s;obtain⟨b1,b2,b3⟩:=z;simp only at F G H;rw[F,G,H]);rw[O];obtain⟨V,J⟩:=y.cur;refine⟨y.os,y.tape,y.output,y.size,λb D hn _=>y.keep b D hn,#[u,.int .i64 z.i,.int .i64 z.h],V,λ_ _=>False,[v],λ_=>S,J,rfl,rfl,?_,⟨rfl,λi Q x a n=>?_⟩,rfl,λj x _ h=>h.elim,λi x E L=>⟨(t x L).2,?_,.inr (t x L).1⟩,λi j x _ _ _ h=>h.elim,?_,λi j x _ _ h=>h.elim⟩
 .intro j Q u' a f
  match j,a,f with
  | 0,a,f=>cases a;exact⟨λh=>by simp[zbe]at h,λ_=>f⟩
  | 1,a,f=>cases a;cases f;rfl
  | 2,a,f=>cases a;cases f;rfl
  |j+3,a,f=>simp[zbU]at a
 .match i,a,n with
  | 0,a,n=>cases a;cases n;exact Y
  |i+1,a,n=>simp at n
 {have:=(qK.1 D).1;have:=(t x L).1;omega};{intro i j Q x E ho Z a0 _;have h1:i<1:=(qA.1 E).1;have h2:j<1:=Z;omega}
def z6C:zc0:=[(243,[false,true,true],zrZ)]++z6B
def zTr:zb5 z6C:=zcu z4b (by
 intro x a;simp only[qG,qO,or_false]at a;rcases a with rfl
 .exact zMc)
end
def zbac:zbf:=[(197,zlQ),(384,zp5)]++z5z
def zF6:zN zbac:=zi zng (zi ztA zep)
def zCY {g:Type}{c e:Cur}(h:zbh c)(j:0<=e.i){P:g->Prop}{q:Int}(A:0<q)(M:q<=1000){fc:Cur->Bool}{fs:Cur->Cur}{fv:Cur->g}(E:∀{c:Cur},zbh c->fc c=true)(H:∀c,0<=(fs c).i)(hg:∀{c:Cur},zbh c->P (fv c)){G:Ans->Prop}{l0:List g}{z:Nat}(O:l0.length<=z)(I:z<=1000)(m:∀x∈l0,P x){p:Type}(S:Nat->Int×Int×Int×List g->p){F:(p->OA)->p->OA}(D:∀rec t i k l,∃r,F rec (S 0 (t,i,k,l))=(bif zx ⟨c.b,i,k⟩ q then (bif ilt t (zn ⟨c.b,i,k⟩ q) then (bif fc { zf ⟨c.b,i,k⟩ q with b:=c.b } then (bif few (ln (ap l [fv { zf ⟨c.b,i,k⟩ q with b:=c.b }])) then
        rec (S 0 (zK .i64 t 1,(fs {zf ⟨c.b,i,k⟩ q with b:=c.b}).i,(fs {zf ⟨c.b,i,k⟩ q with b:=c.b}).h,ap l [fv {zf ⟨c.b,i,k⟩ q with b:=c.b}])) else none) else none) else some r) else none)/\(ln l<=z+q->(∀x∈l,P x)->G r)):Ends G (r0 1002 F (S 0 (0,e.i,e.h,l0))):=by
 refine ziO (fun n s=>∃t i k l,s=S 0 (t,i,k,l)/\t+(n:Int)=1000/\0<=t/\t<=q/\0<=i/\(∀x∈l,P x)/\ln l<=z+t) ?_ 1002 1000 _ ⟨0,e.i,e.h,l0,rfl,rfl,kN 0,by omega,j,m,by unfold ln;omega⟩ (by omega)
 rintro n s rec ⟨t,i,k,l,rfl,J,B,K,C,u,L⟩ f
 obtain⟨r,hF1,hF2⟩:=D rec t i k l;rw[hF1];have a:zbh ⟨c.b,i,k⟩:=zbL h C;have d:=zf1 a A;have v:zbh {zf ⟨c.b,i,k⟩ q with b:=c.b}:=zbL h (zG _ _);refine zA (zbF a _) (zbC (fun w=>?_) (fun w=>?_))
 .have hlt:t<zn ⟨c.b,i,k⟩ q:=qD w;have N:=zhp (y:=1) B (by omega) (by omega) (by omega)
  refine zA (E v) (zA (zkZ (by rw[zhL];omega)) (f (n-1) _ (by omega) ⟨_,_,_,_,rfl,by omega,by omega,by omega,H _,?_,by rw[zhL];omega⟩))
  intro x d;rcases jH.1 d with d|d
  .exact u x d
  .rw [qF.1 d];exact hg v
 .exact zwO (hF2 (by omega) u)
def z9C {c d:Cur}(h:zbh c)(f:0<=d.i){m q x:Int}(t:0<q)(g:0<=m)(D:m+q<=1000){G:Ans->Prop}{l0:LI}(B:ln l0<=m+q){j:Type}(S:Nat->Int×Int×LI->j){F:(j->OA)->j->OA}(w:∀rec i k l,∃r,F rec (S 0 (i,k,l))=(bif zx ⟨c.b,i,k⟩ q then (bif ilt (ln l) (zK .i64 m (zn ⟨c.b,i,k⟩ q)) then (bif few (ln (ap l [x])) then
        rec (S 0 ((zf ⟨c.b,i,k⟩ q).i,(zf ⟨c.b,i,k⟩ q).h,ap l [x])) else none) else some r) else none)/\(ln l<=m+q->G r)):Ends G (r0 1002 F (S 0 (d.i,d.h,l0))):=by
 refine ziO (fun n s=>∃i k l,s=S 0 (i,k,l)/\ln l+(n:Int)=1000/\0<=i/\ln l<=m+q) ?_ 1002 (1000-ln l0).toNat _ ⟨d.i,d.h,l0,rfl,by unfold ln at *;omega,f,B⟩ (by unfold ln at *;omega)
 rintro n s rec ⟨i,k,l,rfl,C,u,v⟩ e
 obtain⟨r,hF1,hF2⟩:=w rec i k l;rw[hF1];have a:zbh ⟨c.b,i,k⟩:=zbL h u;have A:=zf1 a t;have z:=zhp (x:=m) (y:=zn ⟨c.b,i,k⟩ q) g (by omega) A.1 (by omega)
 refine zA (zbF a _) (zbC (fun p=>?_) (fun p=>?_))
 .have hlt:ln l<zK .i64 m (zn ⟨c.b,i,k⟩ q):=qD p;rw[z]at hlt;exact zA (zkZ (by rw[zhL];omega)) (e (n-1) _ (by unfold ln at *;omega) ⟨_,_,_,rfl,by rw[zhL];omega,zG _ _,by rw[zhL];omega⟩)
 .exact zwO (hF2 v)
def GuS (g:ah):Prop:=g.az.length<=13/\g.aA.length<=4/\g.ay.length<=4/\g.aC.length<=50
def zCI {c:Cur}(h:zbh c):(zdD c 4 8).length<=4:=by have:=(z8P h (n:=4) (m:=8) (by omega) (by omega) (by omega) (by omega)).1;unfold ln at this;omega
def ztf (N:Nat)(c:Cur)  : OA :=
 let C:=({ (zbb c) with b:=c.b}:Cur);let v:=zdD C 4 8;let d:=zct<|zb4 c;let y9:=({ (zJ C 4 8) with b:=c.b}:Cur);let x:=zdD y9 4 8;let y2:=({ (zJ y9 4 8) with b:=c.b}:Cur);let w:=zn y2 100;let B:=({ (zf y2 100) with b:=c.b}:Cur);let y:=zn B 4;let y0:=({ (zf B 4) with b:=c.b}:Cur);let I:=({ (zcl y0) with b:=c.b}:Cur);let e:=zcE y0;let A:=({ (zO I 3) with b:=c.b}:Cur);let H:=({ (zf A 256) with b:=c.b}:Cur);let r:=({ (zO A 4) with b:=c.b}:Cur);let u:=({ (zfp r) with b:=c.b}:Cur);let q:=({ (zO H 4) with b:=c.b}:Cur);let t:=({ (zfp q) with b:=c.b}:Cur); (oN (zhd c)<|oN (zi6<|zb4 c)<|oN (zhD C 4 8)<|oN (zhD y9 4 8)<|oN (zx y2 100)<|oN (zx B 4)<|oN (zjS y0)<|oN (zcJ I 3)<|cond (zcX I 3) (oN (zx A 256)<|oN (zcJ H 4)<|cond (zcX H 4) (oN (ziC q)<|oN (zcJ t 12)<|r0 (σ:=(Int×Int×Int×Int×Int×Int×Int×Bool×Int×Int×Int×Bool×Int×Bool×Int×Int×Int×Int×Bool×Int×Int×Int×Bool×Int×Bool×LI×lI×lS×lS×LI×lI×lS×lS×LI×Unit)) N (λz a=>let c:=a.2.2.2.2.2.2.2.2.2.2.2.2;let d:=c.2.2.2.2.2.2.2.2.2.2;let d6:=c.2.2.1;let d2:=c.2.2.2.1;let c8:=c.2.2.2.2.1;let c4:=c.2.2.2.2.2.1;let c0:=c.2.2.2.2.2.2.1;let b6:=c.2.2.2.2.2.2.2.1;let b2:=c.2.2.2.2.2.2.2.2.1;let a8:=c.2.2.2.2.2.2.2.2.2.1;let a4:=d.1;let a0:=d.2.1;let W:=d.2.2.1;let S:=d.2.2.2.2.2.2.2.2.1;let O:=d.2.2.2.2.2.2.2.2.2.1;let J:=d.2.2.2.2.2.2.2.2.2.2.1;let D:=d.2.2.2.2.2.2.2.2.2.2.2.1;let y4:=d.2.2.2.1;let l:=(⟨y4,a.2.1,a.2.2.1⟩:Cur);let f:=({ (zf l 4) with b:=y4}:Cur); (oN (zx l 4)<|cond (ilt a.1<|zn l 4) (oN (zx f 100)<|oN (few<|ln<|ap D [zn f 100])<|z (zK .i64 a.1 1,(zf f 100).i,(zf f 100).h,a.2.2.2.1,a.2.2.2.2.1,a.2.2.2.2.2.1,a.2.2.2.2.2.2.1,a.2.2.2.2.2.2.2.1,a.2.2.2.2.2.2.2.2.1,a.2.2.2.2.2.2.2.2.2.1,a.2.2.2.2.2.2.2.2.2.2.1,a.2.2.2.2.2.2.2.2.2.2.2.1,c.1,c.2.1,d6,d2,c8,c4,c0,b6,b2,a8,a4,a0,W,y4,d.2.2.2.2.1,d.2.2.2.2.2.1,d.2.2.2.2.2.2.1,d.2.2.2.2.2.2.2.1,S,O,J,ap D [zn f 100],()))<|some [.agg [.s .u8 y4,.i .i64 (zf l 4).i,.i .i64 (zf l 4).h],aT .guest (⟨S,d6,d2,O,J,⟨c8,c4,c0⟩,b6,⟨b2,a8,a4,a0⟩,W,D⟩:ah)])) (0,(zO t 12).i,(zO t 12).h,0,0,0,0,false,0,0,0,false,0,false,w,y,e.ar,e.Post,e.Open,zn A 256,(zcb q).Kind,(zcb q).af,(zcb q).Write,(zcb q).N,zcX t 12,c.b,[],[],[],[],d.az,v,x,d.aC,()))<|oN (zcJ q 12)<|r0 (σ:=(Int×Int×Int×Int×Int×Int×Int×Bool×Int×Int×Int×Bool×Int×Bool×Int×Int×Int×Int×Bool×Int×Int×Int×Bool×Int×Bool×LI×lI×lS×lS×LI×lI×lS×lS×LI×Unit)) N (λz a=>let c:=a.2.2.2.2.2.2.2.2.2.2.2.2;let d:=c.2.2.2.2.2.2.2.2.2.2;let d7:=c.2.2.1;let d3:=c.2.2.2.1;let c9:=c.2.2.2.2.1;let c5:=c.2.2.2.2.2.1;let c1:=c.2.2.2.2.2.2.1;let b7:=c.2.2.2.2.2.2.2.1;let b3:=c.2.2.2.2.2.2.2.2.1;let a9:=c.2.2.2.2.2.2.2.2.2.1;let a5:=d.1;let a1:=d.2.1;let X:=d.2.2.1;let T:=d.2.2.2.2.2.2.2.2.1;let P:=d.2.2.2.2.2.2.2.2.2.1;let K:=d.2.2.2.2.2.2.2.2.2.2.1;let E:=d.2.2.2.2.2.2.2.2.2.2.2.1;let y5:=d.2.2.2.1;let m:=(⟨y5,a.2.1,a.2.2.1⟩:Cur);let g:=({ (zf m 4) with b:=y5}:Cur); (oN (zx m 4)<|cond (ilt a.1<|zn m 4) (oN (zx g 100)<|oN (few<|ln<|ap E [zn g 100])<|z (zK .i64 a.1 1,(zf g 100).i,(zf g 100).h,a.2.2.2.1,a.2.2.2.2.1,a.2.2.2.2.2.1,a.2.2.2.2.2.2.1,a.2.2.2.2.2.2.2.1,a.2.2.2.2.2.2.2.2.1,a.2.2.2.2.2.2.2.2.2.1,a.2.2.2.2.2.2.2.2.2.2.1,a.2.2.2.2.2.2.2.2.2.2.2.1,c.1,c.2.1,d7,d3,c9,c5,c1,b7,b3,a9,a5,a1,X,y5,d.2.2.2.2.1,d.2.2.2.2.2.1,d.2.2.2.2.2.2.1,d.2.2.2.2.2.2.2.1,T,P,K,ap E [zn g 100],()))<|some [.agg [.s .u8 y5,.i .i64 (zf m 4).i,.i .i64 (zf m 4).h],aT .guest (⟨T,d7,d3,P,K,⟨c9,c5,c1⟩,b7,⟨b3,a9,a5,a1⟩,X,E⟩:ah)])) (0,(zO q 12).i,(zO q 12).h,0,0,0,0,false,0,0,0,false,0,false,w,y,e.ar,e.Post,e.Open,zn A 256,d.Exit.Kind,d.Exit.af,d.Exit.Write,d.Exit.N,zcX q 12,c.b,[],[],[],[],d.az,v,x,d.aC,()))<|oN (zcJ A 4)<|cond (zcX A 4) (oN (ziC r)<|oN (zcJ u 12)<|r0 (σ:=(Int×Int×Int×Int×Int×Int×Int×Bool×Int×Int×Int×Bool×Int×Bool×Int×Int×Int×Int×Bool×Int×Int×Int×Bool×Int×Bool×LI×lI×lS×lS×LI×lI×lS×lS×LI×Unit)) N (λz a=>let c:=a.2.2.2.2.2.2.2.2.2.2.2.2;let d:=c.2.2.2.2.2.2.2.2.2.2;let d8:=c.2.2.1;let d4:=c.2.2.2.1;let d0:=c.2.2.2.2.1;let c6:=c.2.2.2.2.2.1;let c2:=c.2.2.2.2.2.2.1;let b8:=c.2.2.2.2.2.2.2.1;let b4:=c.2.2.2.2.2.2.2.2.1;let b0:=c.2.2.2.2.2.2.2.2.2.1;let a6:=d.1;let a2:=d.2.1;let Y:=d.2.2.1;let U:=d.2.2.2.2.2.2.2.2.1;let Q:=d.2.2.2.2.2.2.2.2.2.1;let L:=d.2.2.2.2.2.2.2.2.2.2.1;let F:=d.2.2.2.2.2.2.2.2.2.2.2.1;let y6:=d.2.2.2.1;let n:=(⟨y6,a.2.1,a.2.2.1⟩:Cur);let j:=({ (zf n 4) with b:=y6}:Cur); (oN (zx n 4)<|cond (ilt a.1<|zn n 4) (oN (zx j 100)<|oN (few<|ln<|ap F [zn j 100])<|z (zK .i64 a.1 1,(zf j 100).i,(zf j 100).h,a.2.2.2.1,a.2.2.2.2.1,a.2.2.2.2.2.1,a.2.2.2.2.2.2.1,a.2.2.2.2.2.2.2.1,a.2.2.2.2.2.2.2.2.1,a.2.2.2.2.2.2.2.2.2.1,a.2.2.2.2.2.2.2.2.2.2.1,a.2.2.2.2.2.2.2.2.2.2.2.1,c.1,c.2.1,d8,d4,d0,c6,c2,b8,b4,b0,a6,a2,Y,y6,d.2.2.2.2.1,d.2.2.2.2.2.1,d.2.2.2.2.2.2.1,d.2.2.2.2.2.2.2.1,U,Q,L,ap F [zn j 100],()))<|some [.agg [.s .u8 y6,.i .i64 (zf n 4).i,.i .i64 (zf n 4).h],aT .guest (⟨U,d8,d4,Q,L,⟨d0,c6,c2⟩,b8,⟨b4,b0,a6,a2⟩,Y,F⟩:ah)])) (0,(zO u 12).i,(zO u 12).h,0,0,0,0,false,0,0,0,false,0,false,w,y,e.ar,e.Post,e.Open,d.an,(zcb r).Kind,(zcb r).af,(zcb r).Write,(zcb r).N,zcX u 12,c.b,[],[],[],[],d.az,v,x,d.aC,()))<|oN (zcJ r 12)<|r0 (σ:=(Int×Int×Int×Int×Int×Int×Int×Bool×Int×Int×Int×Bool×Int×Bool×Int×Int×Int×Int×Bool×Int×Int×Int×Bool×Int×Bool×LI×lI×lS×lS×LI×lI×lS×lS×LI×Unit)) N (λz a=>let c:=a.2.2.2.2.2.2.2.2.2.2.2.2;let d:=c.2.2.2.2.2.2.2.2.2.2;let d9:=c.2.2.1;let d5:=c.2.2.2.1;let d1:=c.2.2.2.2.1;let c7:=c.2.2.2.2.2.1;let c3:=c.2.2.2.2.2.2.1;let b9:=c.2.2.2.2.2.2.2.1;let b5:=c.2.2.2.2.2.2.2.2.1;let b1:=c.2.2.2.2.2.2.2.2.2.1;let a7:=d.1;let a3:=d.2.1;let Z:=d.2.2.1;let V:=d.2.2.2.2.2.2.2.2.1;let R:=d.2.2.2.2.2.2.2.2.2.1;let M:=d.2.2.2.2.2.2.2.2.2.2.1;let G:=d.2.2.2.2.2.2.2.2.2.2.2.1;let y7:=d.2.2.2.1;let p:=(⟨y7,a.2.1,a.2.2.1⟩:Cur);let k:=({ (zf p 4) with b:=y7}:Cur); (oN (zx p 4)<|cond (ilt a.1<|zn p 4) (oN (zx k 100)<|oN (few<|ln<|ap G [zn k 100])<|z (zK .i64 a.1 1,(zf k 100).i,(zf k 100).h,a.2.2.2.1,a.2.2.2.2.1,a.2.2.2.2.2.1,a.2.2.2.2.2.2.1,a.2.2.2.2.2.2.2.1,a.2.2.2.2.2.2.2.2.1,a.2.2.2.2.2.2.2.2.2.1,a.2.2.2.2.2.2.2.2.2.2.1,a.2.2.2.2.2.2.2.2.2.2.2.1,c.1,c.2.1,d9,d5,d1,c7,c3,b9,b5,b1,a7,a3,Z,y7,d.2.2.2.2.1,d.2.2.2.2.2.1,d.2.2.2.2.2.2.1,d.2.2.2.2.2.2.2.1,V,R,M,ap G [zn k 100],()))<|some [.agg [.s .u8 y7,.i .i64 (zf p 4).i,.i .i64 (zf p 4).h],aT .guest (⟨V,d9,d5,R,M,⟨d1,c7,c3⟩,b9,⟨b5,b1,a7,a3⟩,Z,G⟩:ah)])) (0,(zO r 12).i,(zO r 12).h,0,0,0,0,false,0,0,0,false,0,false,w,y,e.ar,e.Post,e.Open,d.an,d.Exit.Kind,d.Exit.af,d.Exit.Write,d.Exit.N,zcX r 12,c.b,[],[],[],[],d.az,v,x,d.aC,()))
def zNC:=zy [(338,0,{n:=50,tm:=[(0,.lp 0 0),(2,.lp 1 0),(3,.lp 2 0),(4,ti)],lo:=[(0,[.sl 0 [],ti,ti]),(1,[.sl 1 [],ti,ti,.sl 2 [],.sl 3 [],ti,ti,.b,ti,ti,ti,.b,ti,.b,.sl 4 []]),(2,[.sl 5 [],ti,ti,.sl 6 [],.sl 7 [],ti,ti,.b,ti,ti,ti,.b,ti,.b,.sl 8 []])],ro:=[(0,.u8,false),(1,.ins,true),(2,.slot,true),(3,.slot,true),(4,.int,true),(5,.ins,true),(6,.slot,true),(7,.slot,true),(8,.int,true)]})]
def zm6 (c:Cur)(s:Cur)(a:ah):Prop:=(∃N,ztf N c=some (AV.agg (zbU s)::[aT .guest a]))/\(s.b=c.b/\0<=s.i)/\(GuS a/\a.aC.length<=4)
def zlp (c:Cur)  : Bool:=wC (zm6 c)
def zja (c:Cur)  : Cur:=wS (zm6 c)
def zb7 (c:Cur)  : ah:=wV (zm6 c)
def zCz {c:Cur}(h:zlp c=true):zm6 c (zja c) (zb7 c):=wG h
def zTS (c:Cur)  : 0<=(zja c).i:=wP λh=>h.2.1.2
def zTR (c:Cur)(h:∃N,Ends (wE (λa=>aT .guest a) c.b λa=>GuS a/\a.aC.length<=4)<|ztf N c):zlp c=true:=wI (λ_ _ h=>h) h
def zva:zdS:=rP0 λc=>(zlp c,zja c,[aT .guest<|zb7 c])
def zGQ:zbQ Tryz.prog 338 [false,true,true] zva:=hP0 zF6 zZ zTr zu zNC (λ_ h=>(zCz h).1)
def zRL {c:Cur}(h:zbh c):zlp c=true:=by
 refine zTR c ⟨1002,?_⟩;unfold ztf oN;conv=>zeta
 have f:=zCb h;have j:=zHo (zq3 f).2.2;have e:zi6 (zb4 c)=true:=zbn (by omega);have q:∀{s:Cur},0<=s.i->zbh {s with b:=c.b}:=fun g=>zbL h g;have d:GuS ⟨zb4 c,0,0,[],[],⟨0,0,false⟩,0,⟨0,0,false,0⟩,false,[]⟩:=⟨by dsimp only;omega,by simp,by simp,by simp⟩
 refine zA f (zA e (zA (zxP (q (ziB _)) (by omega) (by omega) _) (zA (zxP (q (zhE _ _ _)) (by omega) (by omega) _) (zA (zbF (q (zhE _ _ _)) _) (zA (zbF (q (zG _ _)) _) (zA (zXI (q (zG _ _))) (zA (zh8 (q (zy4 _)) _)
  (zbC (fun _=>zA (zbF (q (zcj _ _)) _) (zA (zh8 (q (zG _ _)) _) (zbC (fun _=>zA (zRO (q (zcj _ _))) (zA (zh8 (q (zwk _)) _) ?_)) (fun _=>zA (zh8 (q (zcj _ _)) _) ?_))))
   (fun _=>zA (zh8 (q (zcj _ _)) _) (zbC (fun _=>zA (zRO (q (zcj _ _))) (zA (zh8 (q (zwk _)) _) ?_)) (fun _=>zA (zh8 (q (zcj _ _)) _) ?_)))))))))))
 .exact zCY h (zcj _ _) (P:=fun _=>True) (q:=4) (by omega) (by omega) (fc:=fun c=>zx c 100) (fs:=fun c=>zf c 100) (fv:=fun c=>zn c 100) (fun h=>zbF h _) (fun c=>zG c _) (fun _=>trivial) (z:=0) (l0:=(zct (zb4 c)).aC) (qS 0) (by omega) (by simp) ((fun _ t=>(t.1,t.2.1,t.2.2.1,0,0,0,0,false,0,0,0,false,0,false,(zn ({ (zJ ({ (zJ ({ (zbb c) with b:=c.b }:Cur) 4 8) with b:=c.b }:Cur) 4 8) with b:=c.b }:Cur) 100),(zn ({ (zf ({ (zJ ({ (zJ ({ (zbb c) with b:=c.b }:Cur) 4 8) with b:=c.b }:Cur) 4 8) with b:=c.b }:Cur) 100) with b:=c.b }:Cur) 4),(zcE ({ (zf ({ (zf ({ (zJ ({ (zJ ({ (zbb c) with b:=c.b }:Cur) 4 8) with b:=c.b }:Cur) 4 8) with b:=c.b }:Cur) 100) with b:=c.b }:Cur) 4) with b:=c.b }:Cur)).ar,(zcE ({ (zf ({ (zf ({ (zJ ({ (zJ ({ (zbb c) with b:=c.b }:Cur) 4 8) with b:=c.b }:Cur) 4 8) with b:=c.b }:Cur) 100) with b:=c.b }:Cur) 4) with b:=c.b }:Cur)).Post,(zcE ({ (zf ({ (zf ({ (zJ ({ (zJ ({ (zbb c) with b:=c.b }:Cur) 4 8) with b:=c.b }:Cur) 4 8) with b:=c.b }:Cur) 100) with b:=c.b }:Cur) 4) with b:=c.b }:Cur)).Open,(zn ({ (zO ({ (zcl ({ (zf ({ (zf ({ (zJ ({ (zJ ({ (zbb c) with b:=c.b }:Cur) 4 8) with b:=c.b }:Cur) 4 8) with b:=c.b }:Cur) 100) with b:=c.b }:Cur) 4) with b:=c.b }:Cur)) with b:=c.b }:Cur) 3) with b:=c.b }:Cur) 256),(zcb ({ (zO ({ (zf ({ (zO ({ (zcl ({ (zf ({ (zf ({ (zJ ({ (zJ ({ (zbb c) with b:=c.b }:Cur) 4 8) with b:=c.b }:Cur) 4 8) with b:=c.b }:Cur) 100) with b:=c.b }:Cur) 4) with b:=c.b }:Cur)) with b:=c.b }:Cur) 3) with b:=c.b }:Cur) 256) with b:=c.b }:Cur) 4) with b:=c.b }:Cur)).Kind,(zcb ({ (zO ({ (zf ({ (zO ({ (zcl ({ (zf ({ (zf ({ (zJ ({ (zJ ({ (zbb c) with b:=c.b }:Cur) 4 8) with b:=c.b }:Cur) 4 8) with b:=c.b }:Cur) 100) with b:=c.b }:Cur) 4) with b:=c.b }:Cur)) with b:=c.b }:Cur) 3) with b:=c.b }:Cur) 256) with b:=c.b }:Cur) 4) with b:=c.b }:Cur)).af,(zcb ({ (zO ({ (zf ({ (zO ({ (zcl ({ (zf ({ (zf ({ (zJ ({ (zJ ({ (zbb c) with b:=c.b }:Cur) 4 8) with b:=c.b }:Cur) 4 8) with b:=c.b }:Cur) 100) with b:=c.b }:Cur) 4) with b:=c.b }:Cur)) with b:=c.b }:Cur) 3) with b:=c.b }:Cur) 256) with b:=c.b }:Cur) 4) with b:=c.b }:Cur)).Write,(zcb ({ (zO ({ (zf ({ (zO ({ (zcl ({ (zf ({ (zf ({ (zJ ({ (zJ ({ (zbb c) with b:=c.b }:Cur) 4 8) with b:=c.b }:Cur) 4 8) with b:=c.b }:Cur) 100) with b:=c.b }:Cur) 4) with b:=c.b }:Cur)) with b:=c.b }:Cur) 3) with b:=c.b }:Cur) 256) with b:=c.b }:Cur) 4) with b:=c.b }:Cur)).N,(zcX ({ (zfp ({ (zO ({ (zf ({ (zO ({ (zcl ({ (zf ({ (zf ({ (zJ ({ (zJ ({ (zbb c) with b:=c.b }:Cur) 4 8) with b:=c.b }:Cur) 4 8) with b:=c.b }:Cur) 100) with b:=c.b }:Cur) 4) with b:=c.b }:Cur)) with b:=c.b }:Cur) 3) with b:=c.b }:Cur) 256) with b:=c.b }:Cur) 4) with b:=c.b }:Cur)) with b:=c.b }:Cur) 12),c.b,[],[],[],[],(zct (zb4 c)).az,(zdD ({ (zbb c) with b:=c.b }:Cur) 4 8),(zdD ({ (zJ ({ (zbb c) with b:=c.b }:Cur) 4 8) with b:=c.b }:Cur) 4 8),t.2.2.2,())):Nat->Int×Int×Int×LI->_)
   (fun rec t i k l=>⟨_,rfl,fun a _=>⟨⟨_,_,_⟩,_,rfl,⟨rfl,zG _ _⟩,⟨⟨d.1,zCI (q (ziB _)),zCI (q (zhE _ _ _)),by unfold ln at a;dsimp only;omega⟩,by unfold ln at a;dsimp only;omega⟩⟩⟩)
 .exact zCY h (zcj _ _) (P:=fun _=>True) (q:=4) (by omega) (by omega) (fc:=fun c=>zx c 100) (fs:=fun c=>zf c 100) (fv:=fun c=>zn c 100) (fun h=>zbF h _) (fun c=>zG c _) (fun _=>trivial) (z:=0) (l0:=(zct (zb4 c)).aC) (qS 0) (by omega) (by simp) ((fun _ t=>(t.1,t.2.1,t.2.2.1,0,0,0,0,false,0,0,0,false,0,false,(zn ({ (zJ ({ (zJ ({ (zbb c) with b:=c.b }:Cur) 4 8) with b:=c.b }:Cur) 4 8) with b:=c.b }:Cur) 100),(zn ({ (zf ({ (zJ ({ (zJ ({ (zbb c) with b:=c.b }:Cur) 4 8) with b:=c.b }:Cur) 4 8) with b:=c.b }:Cur) 100) with b:=c.b }:Cur) 4),(zcE ({ (zf ({ (zf ({ (zJ ({ (zJ ({ (zbb c) with b:=c.b }:Cur) 4 8) with b:=c.b }:Cur) 4 8) with b:=c.b }:Cur) 100) with b:=c.b }:Cur) 4) with b:=c.b }:Cur)).ar,(zcE ({ (zf ({ (zf ({ (zJ ({ (zJ ({ (zbb c) with b:=c.b }:Cur) 4 8) with b:=c.b }:Cur) 4 8) with b:=c.b }:Cur) 100) with b:=c.b }:Cur) 4) with b:=c.b }:Cur)).Post,(zcE ({ (zf ({ (zf ({ (zJ ({ (zJ ({ (zbb c) with b:=c.b }:Cur) 4 8) with b:=c.b }:Cur) 4 8) with b:=c.b }:Cur) 100) with b:=c.b }:Cur) 4) with b:=c.b }:Cur)).Open,(zn ({ (zO ({ (zcl ({ (zf ({ (zf ({ (zJ ({ (zJ ({ (zbb c) with b:=c.b }:Cur) 4 8) with b:=c.b }:Cur) 4 8) with b:=c.b }:Cur) 100) with b:=c.b }:Cur) 4) with b:=c.b }:Cur)) with b:=c.b }:Cur) 3) with b:=c.b }:Cur) 256),(zct (zb4 c)).Exit.Kind,(zct (zb4 c)).Exit.af,(zct (zb4 c)).Exit.Write,(zct (zb4 c)).Exit.N,(zcX ({ (zO ({ (zf ({ (zO ({ (zcl ({ (zf ({ (zf ({ (zJ ({ (zJ ({ (zbb c) with b:=c.b }:Cur) 4 8) with b:=c.b }:Cur) 4 8) with b:=c.b }:Cur) 100) with b:=c.b }:Cur) 4) with b:=c.b }:Cur)) with b:=c.b }:Cur) 3) with b:=c.b }:Cur) 256) with b:=c.b }:Cur) 4) with b:=c.b }:Cur) 12),c.b,[],[],[],[],(zct (zb4 c)).az,(zdD ({ (zbb c) with b:=c.b }:Cur) 4 8),(zdD ({ (zJ ({ (zbb c) with b:=c.b }:Cur) 4 8) with b:=c.b }:Cur) 4 8),t.2.2.2,())):Nat->Int×Int×Int×LI->_)
   (fun rec t i k l=>⟨_,rfl,fun a _=>⟨⟨_,_,_⟩,_,rfl,⟨rfl,zG _ _⟩,⟨⟨d.1,zCI (q (ziB _)),zCI (q (zhE _ _ _)),by unfold ln at a;dsimp only;omega⟩,by unfold ln at a;dsimp only;omega⟩⟩⟩)
 .exact zCY h (zcj _ _) (P:=fun _=>True) (q:=4) (by omega) (by omega) (fc:=fun c=>zx c 100) (fs:=fun c=>zf c 100) (fv:=fun c=>zn c 100) (fun h=>zbF h _) (fun c=>zG c _) (fun _=>trivial) (z:=0) (l0:=(zct (zb4 c)).aC) (qS 0) (by omega) (by simp) ((fun _ t=>(t.1,t.2.1,t.2.2.1,0,0,0,0,false,0,0,0,false,0,false,(zn ({ (zJ ({ (zJ ({ (zbb c) with b:=c.b }:Cur) 4 8) with b:=c.b }:Cur) 4 8) with b:=c.b }:Cur) 100),(zn ({ (zf ({ (zJ ({ (zJ ({ (zbb c) with b:=c.b }:Cur) 4 8) with b:=c.b }:Cur) 4 8) with b:=c.b }:Cur) 100) with b:=c.b }:Cur) 4),(zcE ({ (zf ({ (zf ({ (zJ ({ (zJ ({ (zbb c) with b:=c.b }:Cur) 4 8) with b:=c.b }:Cur) 4 8) with b:=c.b }:Cur) 100) with b:=c.b }:Cur) 4) with b:=c.b }:Cur)).ar,(zcE ({ (zf ({ (zf ({ (zJ ({ (zJ ({ (zbb c) with b:=c.b }:Cur) 4 8) with b:=c.b }:Cur) 4 8) with b:=c.b }:Cur) 100) with b:=c.b }:Cur) 4) with b:=c.b }:Cur)).Post,(zcE ({ (zf ({ (zf ({ (zJ ({ (zJ ({ (zbb c) with b:=c.b }:Cur) 4 8) with b:=c.b }:Cur) 4 8) with b:=c.b }:Cur) 100) with b:=c.b }:Cur) 4) with b:=c.b }:Cur)).Open,(zct (zb4 c)).an,(zcb ({ (zO ({ (zO ({ (zcl ({ (zf ({ (zf ({ (zJ ({ (zJ ({ (zbb c) with b:=c.b }:Cur) 4 8) with b:=c.b }:Cur) 4 8) with b:=c.b }:Cur) 100) with b:=c.b }:Cur) 4) with b:=c.b }:Cur)) with b:=c.b }:Cur) 3) with b:=c.b }:Cur) 4) with b:=c.b }:Cur)).Kind,(zcb ({ (zO ({ (zO ({ (zcl ({ (zf ({ (zf ({ (zJ ({ (zJ ({ (zbb c) with b:=c.b }:Cur) 4 8) with b:=c.b }:Cur) 4 8) with b:=c.b }:Cur) 100) with b:=c.b }:Cur) 4) with b:=c.b }:Cur)) with b:=c.b }:Cur) 3) with b:=c.b }:Cur) 4) with b:=c.b }:Cur)).af,(zcb ({ (zO ({ (zO ({ (zcl ({ (zf ({ (zf ({ (zJ ({ (zJ ({ (zbb c) with b:=c.b }:Cur) 4 8) with b:=c.b }:Cur) 4 8) with b:=c.b }:Cur) 100) with b:=c.b }:Cur) 4) with b:=c.b }:Cur)) with b:=c.b }:Cur) 3) with b:=c.b }:Cur) 4) with b:=c.b }:Cur)).Write,(zcb ({ (zO ({ (zO ({ (zcl ({ (zf ({ (zf ({ (zJ ({ (zJ ({ (zbb c) with b:=c.b }:Cur) 4 8) with b:=c.b }:Cur) 4 8) with b:=c.b }:Cur) 100) with b:=c.b }:Cur) 4) with b:=c.b }:Cur)) with b:=c.b }:Cur) 3) with b:=c.b }:Cur) 4) with b:=c.b }:Cur)).N,(zcX ({ (zfp ({ (zO ({ (zO ({ (zcl ({ (zf ({ (zf ({ (zJ ({ (zJ ({ (zbb c) with b:=c.b }:Cur) 4 8) with b:=c.b }:Cur) 4 8) with b:=c.b }:Cur) 100) with b:=c.b }:Cur) 4) with b:=c.b }:Cur)) with b:=c.b }:Cur) 3) with b:=c.b }:Cur) 4) with b:=c.b }:Cur)) with b:=c.b }:Cur) 12),c.b,[],[],[],[],(zct (zb4 c)).az,(zdD ({ (zbb c) with b:=c.b }:Cur) 4 8),(zdD ({ (zJ ({ (zbb c) with b:=c.b }:Cur) 4 8) with b:=c.b }:Cur) 4 8),t.2.2.2,())):Nat->Int×Int×Int×LI->_)
   (fun rec t i k l=>⟨_,rfl,fun a _=>⟨⟨_,_,_⟩,_,rfl,⟨rfl,zG _ _⟩,⟨⟨d.1,zCI (q (ziB _)),zCI (q (zhE _ _ _)),by unfold ln at a;dsimp only;omega⟩,by unfold ln at a;dsimp only;omega⟩⟩⟩)
 .exact zCY h (zcj _ _) (P:=fun _=>True) (q:=4) (by omega) (by omega) (fc:=fun c=>zx c 100) (fs:=fun c=>zf c 100) (fv:=fun c=>zn c 100) (fun h=>zbF h _) (fun c=>zG c _) (fun _=>trivial) (z:=0) (l0:=(zct (zb4 c)).aC) (qS 0) (by omega) (by simp) ((fun _ t=>(t.1,t.2.1,t.2.2.1,0,0,0,0,false,0,0,0,false,0,false,(zn ({ (zJ ({ (zJ ({ (zbb c) with b:=c.b }:Cur) 4 8) with b:=c.b }:Cur) 4 8) with b:=c.b }:Cur) 100),(zn ({ (zf ({ (zJ ({ (zJ ({ (zbb c) with b:=c.b }:Cur) 4 8) with b:=c.b }:Cur) 4 8) with b:=c.b }:Cur) 100) with b:=c.b }:Cur) 4),(zcE ({ (zf ({ (zf ({ (zJ ({ (zJ ({ (zbb c) with b:=c.b }:Cur) 4 8) with b:=c.b }:Cur) 4 8) with b:=c.b }:Cur) 100) with b:=c.b }:Cur) 4) with b:=c.b }:Cur)).ar,(zcE ({ (zf ({ (zf ({ (zJ ({ (zJ ({ (zbb c) with b:=c.b }:Cur) 4 8) with b:=c.b }:Cur) 4 8) with b:=c.b }:Cur) 100) with b:=c.b }:Cur) 4) with b:=c.b }:Cur)).Post,(zcE ({ (zf ({ (zf ({ (zJ ({ (zJ ({ (zbb c) with b:=c.b }:Cur) 4 8) with b:=c.b }:Cur) 4 8) with b:=c.b }:Cur) 100) with b:=c.b }:Cur) 4) with b:=c.b }:Cur)).Open,(zct (zb4 c)).an,(zct (zb4 c)).Exit.Kind,(zct (zb4 c)).Exit.af,(zct (zb4 c)).Exit.Write,(zct (zb4 c)).Exit.N,(zcX ({ (zO ({ (zO ({ (zcl ({ (zf ({ (zf ({ (zJ ({ (zJ ({ (zbb c) with b:=c.b }:Cur) 4 8) with b:=c.b }:Cur) 4 8) with b:=c.b }:Cur) 100) with b:=c.b }:Cur) 4) with b:=c.b }:Cur)) with b:=c.b }:Cur) 3) with b:=c.b }:Cur) 4) with b:=c.b }:Cur) 12),c.b,[],[],[],[],(zct (zb4 c)).az,(zdD ({ (zbb c) with b:=c.b }:Cur) 4 8),(zdD ({ (zJ ({ (zbb c) with b:=c.b }:Cur) 4 8) with b:=c.b }:Cur) 4 8),t.2.2.2,())):Nat->Int×Int×Int×LI->_)
   (fun rec t i k l=>⟨_,rfl,fun a _=>⟨⟨_,_,_⟩,_,rfl,⟨rfl,zG _ _⟩,⟨⟨d.1,zCI (q (ziB _)),zCI (q (zhE _ _ _)),by unfold ln at a;dsimp only;omega⟩,by unfold ln at a;dsimp only;omega⟩⟩⟩)
def z6D:zc0:=[(338,[false,true,true],zva)]++z6C
def zHm:zb5 z6D:=zcu zTr (by
 intro x a;simp only[qG,qO,or_false]at a;rcases a with rfl
 .exact zGQ)
def zx0 (N:Nat)(c:Cur)  : OA :=
 let e:=zb7 c;let B:=({ (zja c) with b:=c.b}:Cur);let f:=zf B 14;let j:=zn B 14;let d:=({f with b:=c.b}:Cur);let g:=zgO d 4 8;let p:=zba d [-1,12,13,9223372036854775807]; (oN (zlp c)<|oN (zx B 14)<|cond (ieq j 0) (oN (zi8 d)<|some [.agg [.s .u8 c.b,.i .i64 (zi9 d).i,.i .i64 (zi9 d).h],aT .guest ({e with az:=(zpb d)}:ah)])<|cond (ieq j 1) (oN (zbu d [-1,100])<|some [.agg [.s .u8 c.b,.i .i64 (zba d [-1,100]).i,.i .i64 (zba d [-1,100]).h],aT .guest ({e with A:=(zbp d [-1,100])}:ah)])<|cond (ieq j 2) (oN (zbu d [-1,12,13,9223372036854775807])<|some [.agg [.s .u8 c.b,.i .i64 p.i,.i .i64 p.h],aT .guest ({e with Pc:=(zbp d [-1,12,13,9223372036854775807])}:ah)])<|cond (ieq j 3) (oN (zfK d 4 8)<|some [.agg [.s .u8 c.b,.i .i64 g.i,.i .i64 g.h],aT .guest ({e with ay:=(ze1 d 4 8)}:ah)])<|cond (ieq j 4) (oN (zpd d)<|some [.agg [.s .u8 c.b,.i .i64 (zpe d).i,.i .i64 (zpe d).h],aT .guest ({e with Ctl:=(zy3 d)}:ah)])<|cond (ieq j 5) (oN (zmI d)<|some [.agg [.s .u8 c.b,.i .i64 (zmJ d).i,.i .i64 (zmJ d).h],aT .guest ({e with an:=(zvy d)}:ah)])<|cond (ieq j 6) (oN (zpf d)<|some [.agg [.s .u8 c.b,.i .i64 (zpg d).i,.i .i64 (zpg d).h],aT .guest ({e with Exit:=(zy5 d)}:ah)])<|cond (ieq j 7) (r0 (σ:=(Int×Int×Int×Int×Int×Int×Bool×Int×Int×Int×Bool×Int×Bool×Int×Int×Int×Int×Bool×Int×Int×Int×Bool×Int×Bool×LI×lI×lS×lS×LI×lI×lS×lS×LI×Unit)) N (λG a=>let y:=a.2.2.2.2.2.2.2.2.2.2.2.2.2.1;let x:=a.2.2.2.2.2.2.2.2.2.2.2.2.2.2.1;let w:=a.2.2.2.2.2.2.2.2.2.2.2.2.2.2.2.1;let v:=a.2.2.2.2.2.2.2.2.2.2.2.2.2.2.2.2.1;let u:=a.2.2.2.2.2.2.2.2.2.2.2.2.2.2.2.2.2.1;let t:=a.2.2.2.2.2.2.2.2.2.2.2.2.2.2.2.2.2.2.1;let r:=a.2.2.2.2.2.2.2.2.2.2.2.2.2.2.2.2.2.2.2.1;let q:=a.2.2.2.2.2.2.2.2.2.2.2.2.2.2.2.2.2.2.2.2.1;let n:=a.2.2.2.2.2.2.2.2.2.2.2.2.2.2.2.2.2.2.2.2.2.1;let m:=a.2.2.2.2.2.2.2.2.2.2.2.2.2.2.2.2.2.2.2.2.2.2.1;let l:=a.2.2.2.2.2.2.2.2.2.2.2.2.2.2.2.2.2.2.2.2.2.2.2.1;let F:=a.2.2.2.2.2.2.2.2.2.2.2.2.2.2.2.2.2.2.2.2.2.2.2.2.2.2.2.2.2.1;let E:=a.2.2.2.2.2.2.2.2.2.2.2.2.2.2.2.2.2.2.2.2.2.2.2.2.2.2.2.2.2.2.1;let D:=a.2.2.2.2.2.2.2.2.2.2.2.2.2.2.2.2.2.2.2.2.2.2.2.2.2.2.2.2.2.2.2.1;let C:=a.2.2.2.2.2.2.2.2.2.2.2.2.2.2.2.2.2.2.2.2.2.2.2.2.1;let z:=a.2.2.2.2.2.2.2.2.2.2.2.2.2.2.2.2.2.2.2.2.2.2.2.2.2.2.2.2.2.2.2.2.1;let k:=(⟨C,a.1,a.2.1⟩:Cur); (oN (zx k 3)<|cond (ilt (ln z)<|zK .i64 39<|zn k 3) (oN (few<|ln<|ap z [1])<|G ((zf k 3).i,(zf k 3).h,a.2.2.1,a.2.2.2.1,a.2.2.2.2.1,a.2.2.2.2.2.1,a.2.2.2.2.2.2.1,a.2.2.2.2.2.2.2.1,a.2.2.2.2.2.2.2.2.1,a.2.2.2.2.2.2.2.2.2.1,a.2.2.2.2.2.2.2.2.2.2.1,a.2.2.2.2.2.2.2.2.2.2.2.1,a.2.2.2.2.2.2.2.2.2.2.2.2.1,y,x,w,v,u,t,r,q,n,m,l,C,a.2.2.2.2.2.2.2.2.2.2.2.2.2.2.2.2.2.2.2.2.2.2.2.2.2.1,a.2.2.2.2.2.2.2.2.2.2.2.2.2.2.2.2.2.2.2.2.2.2.2.2.2.2.1,a.2.2.2.2.2.2.2.2.2.2.2.2.2.2.2.2.2.2.2.2.2.2.2.2.2.2.2.1,a.2.2.2.2.2.2.2.2.2.2.2.2.2.2.2.2.2.2.2.2.2.2.2.2.2.2.2.2.1,F,E,D,ap z [1],()))<|some [.agg [.s .u8 C,.i .i64 (zf k 3).i,.i .i64 (zf k 3).h],aT .guest (⟨F,y,x,E,D,⟨w,v,u⟩,t,⟨r,q,n,m⟩,l,z⟩:ah)])) (f.i,f.h,0,0,0,0,false,0,0,0,false,0,false,e.A,e.Pc,e.Ctl.ar,e.Ctl.Post,e.Ctl.Open,e.an,e.Exit.Kind,e.Exit.af,e.Exit.Write,e.Exit.N,e.aF,c.b,[],[],[],[],e.az,e.aA,e.ay,e.aC,()))<|cond (ieq j 8) (oN (zfK d 4 8)<|some [.agg [.s .u8 c.b,.i .i64 g.i,.i .i64 g.h],aT .guest ({e with aA:=(ze1 d 4 8)}:ah)])<|some [.agg [.s .u8 c.b,.i .i64 f.i,.i .i64 f.h],aT .guest e])
def zUA:=zy [(241,1,{n:=65,tm:=[(0,.lp 0 0),(2,.lp 1 0),(3,.lp 2 0)],lo:=[(0,[.sl 0 [],ti,ti]),(1,[.sl 1 [],ti,ti,.sl 2 [],.sl 3 [],ti,ti,.b,ti,ti,ti,.b,ti,.b,.sl 4 []]),(2,[.sl 5 [],ti,ti,.sl 6 [],.sl 7 [],ti,ti,.b,ti,ti,ti,.b,ti,.b,.sl 8 []])],ro:=[(0,.u8,false),(1,.ins,true),(2,.slot,true),(3,.slot,true),(4,.int,true),(5,.ins,true),(6,.slot,true),(7,.slot,true),(8,.int,true)]})]
def zq7 (c:Cur)(s:Cur)(a:ah):Prop:=(∃N,zx0 N c=some (AV.agg (zbU s)::[aT .guest a]))/\(s.b=c.b/\0<=s.i)/\(GuS a)
def zpj (c:Cur)  : Bool:=wC (zq7 c)
def zpk (c:Cur)  : Cur:=wS (zq7 c)
def zy6 (c:Cur)  : ah:=wV (zq7 c)
def zKz {c:Cur}(h:zpj c=true):zq7 c (zpk c) (zy6 c):=wG h
def zY5 (c:Cur)  : 0<=(zpk c).i:=wP λh=>h.2.1.2
def zY4 (c:Cur)(h:∃N,Ends (wE (λa=>aT .guest a) c.b λa=>GuS a)<|zx0 N c):zpj c=true:=wI (λ_ _ h=>h) h
def zzH:zdS:=rP0 λc=>(zpj c,zpk c,[aT .guest<|zy6 c])
def zMj:zbQ Tryz.prog 241 [false,true,true] zzH:=hP0 zF6 zZ zHm zu zUA (λ_ h=>(zKz h).1)
def zIq {c:Cur}(h:zbh c):zpj c=true:=by
 refine zY4 c ⟨1002,?_⟩;unfold zx0 oN;conv=>zeta
 have q:∀{s:Cur},0<=s.i->zbh {s with b:=c.b}:=λr=>zbL h r;have a:zbh {zf {zja c with b:=c.b} 14 with b:=c.b}:=q (zG _ _);obtain⟨⟨d,e,f,g⟩,w⟩:=(zCz<|zRL h).2.2;have p:(ze1 {zf {zja c with b:=c.b} 14 with b:=c.b} 4 8).length<=4:=by have:=((zo3<|zn0 a (n:=4) (by omega) (by omega) 8).2.2 (by omega) (by omega)).1;unfold ln at this;omega
 have j:=(zxK<|zOb a).2.2;refine zA (zRL h) (zA (zbF (q<|zTS _) _) (zbC (λ_=>zA (zOb a) (zbJ (aT .guest) (v:={zb7 c with az:=zpb _}) (zNj _) ⟨j,e,f,g⟩))
  (λ_=>zbC (λ_=>zA (zfh a (by simp)) (zbJ (aT .guest) (v:={zb7 c with A:=zbp _ _}) (zb1 _ _) ⟨d,e,f,g⟩))
  (λ_=>zbC (λ_=>zA (zfh a (by simp)) (zbJ (aT .guest) (v:={zb7 c with Pc:=zbp _ _}) (zb1 _ _) ⟨d,e,f,g⟩))
  (λ_=>zbC (λ_=>zA (zn0 a (by omega) (by omega) _) (zbJ (aT .guest) (v:={zb7 c with ay:=ze1 _ _ _}) (zo4 _ _ _) ⟨d,e,p,g⟩))
  (λ_=>zbC (λ_=>zA (z2p a) (zbJ (aT .guest) (v:={zb7 c with Ctl:=zy3 _}) (zYY _) ⟨d,e,f,g⟩))
  (λ_=>zbC (λ_=>zA (z9P a) (zbJ (aT .guest) (v:={zb7 c with an:=zvy _}) (zVP _) ⟨d,e,f,g⟩))
  (λ_=>zbC (λ_=>zA (zZC a) (zbJ (aT .guest) (v:={zb7 c with Exit:=zy5 _}) (zY3 _) ⟨d,e,f,g⟩))
  (λ_=>zbC (λ_=>?_)
  (λ_=>zbC (λ_=>zA (zn0 a (by omega) (by omega) _) (zbJ (aT .guest) (v:={zb7 c with aA:=ze1 _ _ _}) (zo4 _ _ _) ⟨d,p,f,g⟩))
  (λ_=>zbJ (aT .guest) (v:=zb7 c) (zG _ _) ⟨d,e,f,g⟩)))))))))))
 exact z9C h (zG _ _) (m:=39) (q:=3) (x:=1) (by omega) (by omega) (by omega) (l0:=(zb7 c).aC) (by unfold ln;omega) ((λ_ t=>(t.1,t.2.1,0,0,0,0,false,0,0,0,false,0,false,(zb7 c).A,(zb7 c).Pc,(zb7 c).Ctl.ar,(zb7 c).Ctl.Post,(zb7 c).Ctl.Open,(zb7 c).an,(zb7 c).Exit.Kind,(zb7 c).Exit.af,(zb7 c).Exit.Write,(zb7 c).Exit.N,(zb7 c).aF,c.b,[],[],[],[],(zb7 c).az,(zb7 c).aA,(zb7 c).ay,t.2.2,())):Nat->Int×Int×LI->_)
  (λrec i k l=>⟨_,rfl,λu=>⟨⟨_,_,_⟩,_,rfl,⟨rfl,zG _ _⟩,⟨d,e,f,by unfold ln at u;dsimp only;omega⟩⟩⟩)
def z8v (b:List aq)(e:aq)(h:b.length<=1048576):(zni b e).length<=6:=by have c:=(zyS e h).2;unfold zni;generalize ap (zcA b e.Tag e.af) [e]=l at c;cases a:igt (ln l) 6 with|false=>have:¬ ln l>6:=jT a;rw[cF];unfold ln at this;omega|true=>rw[cT,zxT (by unfold ln;omega) (by unfold ln;omega)];have:ln l>6:=qD a;simp only[dp,vQ];unfold ln at *;omega
def zrO (N:Nat)(c:Cur)  : OA :=
 (r0 (σ:=(Int×Int×Int×lE×LI×Unit)) N (λl d=>let e:=d.2.2.2.2.1;let j:=(⟨e,d.2.1,d.2.2.1⟩:Cur);let a:=({ (zf j 9) with b:=e}:Cur);let g:=({ (zO a 8) with b:=e}:Cur);let f:=({ (zgI g) with b:=e}:Cur);let k:=ap d.2.2.2.1 [zl7 g,zl7 f]; (oN (zx j 9)<|cond (ilt d.1<|zn j 9) (oN (zhF a)<|oN (zli d.2.2.2.1<|zl7 a)<|l (zK .i64 d.1 1,(zgI a).i,(zgI a).h,zl0 d.2.2.2.1<|zl7 a,e,()))<|oN (zcJ a 8)<|cond (zcX a 8) (oN (zhF g)<|oN (zhF f)<|oN (few<|ln k)<|some [.agg [.s .u8 e,.i .i64 (zgI f).i,.i .i64 (zgI f).h],aS .entry k])<|some [.agg [.s .u8 e,.i .i64 (zO a 8).i,.i .i64 (zO a 8).h],aS .entry d.2.2.2.1])) (0,c.i,c.h,[],c.b,()))
def zK7:=zy [(220,0,{n:=26,tm:=[(0,.lp 0 0),(3,.sl 0 []),(4,ti)],lo:=[(0,[.sl 1 [],ti,ti])],ro:=[(0,.entry,true),(1,.u8,false)]})]
def zl6 (c:Cur)(s:Cur)(a:List aq):Prop:=(∃N,zrO N c=some (AV.agg (zbU s)::[aS .entry a]))/\(s.b=c.b/\0<=s.i)/\(a.length<=8)
def zgW (c:Cur)  : Bool:=wC (zl6 c)
def zkf (c:Cur)  : Cur:=wS (zl6 c)
def zky (c:Cur)  : List aq:=wV (zl6 c)
def zAl {c:Cur}(h:zgW c=true):zl6 c (zkf c) (zky c):=wG h
def zQq (c:Cur)  : 0<=(zkf c).i:=wP λh=>h.2.1.2
def zQp (c:Cur)(h:∃N,Ends (wE (λa=>aS .entry a) c.b λa=>a.length<=8)<|zrO N c):zgW c=true:=wI (λ_ _ h=>h) h
def ztQ:zdS:=rP0 λc=>(zgW c,zkf c,[aS .entry<|zky c])
def zDS:zbQ Tryz.prog 220 [false,true,true] ztQ:=hP0 zF6 zZ zHm zu zK7 (λ_ h=>(zAl h).1)
def zFX {c:Cur}(h:zbh c):zgW c=true:=by
 refine zQp c ⟨1002,?_⟩;unfold zrO oN;conv=>zeta
 refine ziO (λn s=>∃t i k l,s=(((λ_ t=>(t.1,t.2.1,t.2.2.1,t.2.2.2,c.b,())):Nat->Int×Int×Int×List aq->_) 0 (t,i,k,l))/\t+(n:Int)=10/\0<=t/\0<=i/\l.length<=6) ?_ 1002 10 _ ⟨0,c.i,c.h,[],rfl,rfl,kN 0,h.1,by simp⟩ (by omega);rintro n s rec ⟨t,i,k,l,rfl,p,g,j,r⟩ d;dsimp only;have a:zbh ⟨c.b,i,k⟩:=zbL h j;have v:=zf1 a (n:=9) (by omega);have q:∀{s:Cur},0<=s.i->zbh {s with b:=c.b}:=λf=>zbL h f;refine zA (zbF a 9) (zbC (λe=>?_) λe=>?_);{have m:t<zn ⟨c.b,i,k⟩ 9:=qD e;have u:=zhp (y:=1) g (by omega) (by omega) (by omega);exact zA (zLv<|q<|zG _ _) (zA (zbn (by omega))<|d (n-1) _ (by omega) ⟨zK .i64 t 1,_,_,_,rfl,by omega,by omega,zt9 _,z8v _ _ (by omega)⟩)};{refine zA (zh8 (q<|zG _ _) 8) (zbC (λ_=>zA (zLv<|q<|zcj _ _) (zA (zLv<|q<|zt9 _)<|zA (zkZ ?_)<|zbJ (aS .entry) (zt9 _) ?_)) λ_=>zbJ (aS .entry) (zcj _ _) (by omega));{simp only [ln,ap,jL,qY,uB];omega};{simp only [ap,jL,qY,uB];omega}}
def z6E:zc0:=[(241,[false,true,true],zzH),(220,[false,true,true],ztQ)]++z6D
def zTs:zb5 z6E:=zcu zHm (by
 intro x a;simp only[qG,qO,or_false]at a;rcases a with rfl|rfl
 .exact zMj
 .exact zDS)
def zIr (b:ao)(a:GAct):ao:=bif ieq a.Kind 1 then zim b a.G else (cond (ieq a.Kind 2) (chg b a.G (zwm a.X ⟨a.Y,a.Z⟩)<|zCC (gAt b a.G) a.X ⟨a.Y,a.Z⟩)<|cond (ieq a.Kind 3) (chg b a.G (i0 a.X 4)<|zd5 (gAt b a.G) a.X)<|cond (ieq a.Kind 4) (chg b a.G (zvS (gAt b a.G) a.X)<|zx8 (gAt b a.G) a.X)<|cond (ieq a.Kind 5) (chg b a.G (zCd<|gAt b a.G)<|zyT<|gAt b a.G)<|cond (ieq a.Kind 6) (chg b a.G (zhx (gAt b a.G).an a.X)<|zoe (gAt b a.G) a.X)<|cond (ieq a.Kind 7) (chg b a.G (zlB ⟨a.X,a.Y,ieq a.Z 1⟩)<|zLp (gAt b a.G) ⟨a.X,a.Y,ieq a.Z 1⟩)<|cond (ieq a.Kind 8) (zQQ b a.X a.Y a.Z)<|cond (ieq a.Kind 9) (zkM b a.X)<|cond (ieq a.Kind 10) (zm9 b)<|cond (ieq a.Kind 11) (zXZ b a.G a.X a.Y)<|b)
def zIs (b:ao)(a:GAct):aE:=bif ieq a.Kind 1 then ⟨zlz b a.G,0⟩ else (cond (ieq a.Kind 2) ⟨zck b a.G<|zwm a.X ⟨a.Y,a.Z⟩,0⟩<|cond (ieq a.Kind 3) ⟨zck b a.G<|i0 a.X 4,0⟩<|cond (ieq a.Kind 4) ⟨zck b a.G<|zvS (gAt b a.G) a.X,0⟩<|cond (ieq a.Kind 5) ⟨zck b a.G<|zCd<|gAt b a.G,0⟩<|cond (ieq a.Kind 6) ⟨zck b a.G<|zhx (gAt b a.G).an a.X,0⟩<|cond (ieq a.Kind 7) ⟨zck b a.G<|zlB ⟨a.X,a.Y,ieq a.Z 1⟩,0⟩<|cond (ieq a.Kind 8) ⟨zxd b a.X a.Y a.Z,0⟩<|cond (ieq a.Kind 9) ⟨zfR b a.X,0⟩<|cond (ieq a.Kind 10) ⟨zmQ b,zth b⟩<|cond (ieq a.Kind 11) ⟨zym b a.G a.X a.Y,0⟩<|⟨zn7 b a.G a.X 1,zQU b a.G a.X⟩)
def zIt (l:List ao)(a:GAct):List ao:=bif zk a.Kind 1 17 then (cond (zk a.Kind 13 17) l<|cond (i0 a.M<|ln l) (up l a.M<|zIr (ix l a.M zUL) a) l) else l
def zXx (l:List ao)(a:GAct):aE:=bif zk a.Kind 1 17 then (cond (zk a.Kind 13 17) ⟨false,0⟩<|cond (i0 a.M<|ln l) (zIs (ix l a.M zUL) a)<|cond (ieq a.Kind 10) ⟨false,-1⟩ ⟨false,0⟩) else ⟨false,0⟩
def zC {i n:Int}:i0 i n=true↔0<=i/\i<n:=by unfold i0;exact decide_eq_true_iff
def zcU {x a b:Int}:zk x a b=true↔a<=x/\x<=b:=by simp[zk,ige,ile]
def zbt {x y:Int}:ieq x y=true↔x=y:=by simp[ieq]
def zpQ {x y:Int}:ine x y=true↔x≠y:=by simp[ine]
def zbV {x y:Int}:ieq x y=false↔x≠y:=by simp[ieq]
def zce {a b:Bool}:(cond a b false)=true↔a=true/\b=true:=by cases a<;>simp
def zbP {a:Type}(l:List a)(i:Int)(x:a):(up l i x).length=l.length:=by simp[up]
def zdU {a:Type}(l:List a)(i:Int)(x:a):ln (up l i x)=ln l:=by simp[up,ln]
def zuY {a:Type}{l:List a}{i:Int}(h:i0 i (ln l)=true)(d:a):∃k:Nat,∃b:k<l.length,i=(k:Int)/\ix l i d=l[k]:=by rw[zC]at h;unfold ln at h;refine⟨i.toNat,by omega,by omega,?_⟩;simp[ix,List.getD,qB (show i.toNat<l.length by omega)]
def zj2 {a:Type}{l:List a}{k:Nat}(h:k<l.length)(d:a):ix l (k:Int) d=l[k]:=by simp[ix,List.getD,qB h]
def zlI {a:Type}{l:List a}{i:Int}(h:i0 i (ln l)=true)(d:a):ix l i d∈l:=by obtain⟨k,b,_,e⟩:=zuY h d;rw[e];exact jB b
def zrA {a:Type}{l:List a}{x:a}(h:x∈l)(d:a):∃i,i0 i (ln l)=true/\ix l i d=x:=by obtain⟨k,b,e⟩:=vE.1 h;exact⟨(k:Int),zC.2 (by unfold ln;omega),(zj2 b d).trans e⟩
def zbk {a:Type}{l:List a}{i:Int}(h:i0 i (ln l)=true)(x d:a):ix (up l i x) i d=x:=by rw[zC]at h;unfold ln at h;simp[ix,up,List.getD,show i.toNat<l.length by omega]
def zbA {a:Type}{l:List a}{i j:Int}(b:0<=i)(c:0<=j)(h:i≠j)(x d:a):ix (up l i x) j d=ix l j d:=by have:i.toNat≠j.toNat:=(by omega);simp[ix,up,List.getD,jE,this]
def z2f {a:Type}(l:List a)(i:Int)(x y:a):up (up l i x) i y=up l i y:=by simp[up]
def zM1 {a:Type}{l m:List a}(d:a)(h:l.length=m.length)(e:∀i,i0 i (ln l)=true->ix l i d=ix m i d):l=m:=by refine List.ext_getElem h λk b c=>?_;have:=e (k:Int) (zC.2 (by unfold ln;omega));rwa [zj2 b,zj2 c] at this
def zHH {a:Type}{l:List a}{i:Int}(h:i0 i (ln l)=true)(d:a):up l i (ix l i d)=l:=by obtain⟨k,b,rfl,e⟩:=zuY h d;rw[e];simp[up]
def cPg (x:Mon)(q:Int):Nat:=x.ae.countP λs=>ieq s.af q
def zeK (l:List Mon)(q:Int):Nat:=(l.map λx=>cPg x q).sum
def zOl {a:Type}(P:a->Bool){l:List a}{i:Int}(h:i0 i (ln l)=true)(x d:a):(up l i x).countP P+(if P (ix l i d) then 1 else 0)=l.countP P+(if P x then 1 else 0):=by
 obtain⟨k,b,rfl,e⟩:=zuY h d;rw[e];simp only[up,kJ,List.countP_set b];have:(if P l[k]=true then 1 else 0)<=l.countP P:=by
  split
  .rename_i hp;exact vG.2 ⟨l[k],jB b,hp⟩
  .omega
 omega
def zxO {l:List Mon}{m:Int}(h:i0 m (ln l)=true)(x:Mon)(q:Int):zeK (up l m x) q+cPg (ix l m mZ) q=zeK l q+cPg x q:=by obtain⟨k,a,rfl,e⟩:=zuY h mZ;rw[e];clear h e;unfold up;simp only[kJ];induction l generalizing k with|nil=>simp at a|cons y l b=>(cases k with|zero=>simp[zeK];omega|succ k=>have:=b k (by simpa using a);simp[zeK] at this ⊢;omega)
def zFZ {l:List Mon}{m p:Int}(a:i0 m (ln l)=true)(b:i0 p (ln (ix l m mZ).ae)=true):1<=zeK l (ix (ix l m mZ).ae p sZ).af:=by have d:1<=cPg (ix l m mZ) (ix (ix l m mZ).ae p sZ).af:=vG.2 ⟨_,zlI b sZ,by simp[ieq]⟩;have:=zxO a (⟨[],[],[],[],[],0,0,[],0⟩:Mon) (ix (ix l m mZ).ae p sZ).af;have c:cPg (⟨[],[],[],[],[],0,0,[],0⟩:Mon) (ix (ix l m mZ).ae p sZ).af=0:=rfl;omega
def z2A {l:List Mon}{m p n k:Int}{q:Int}(b:i0 m (ln l)=true)(v:i0 p (ln (ix l m mZ).ae)=true)(u:i0 n (ln l)=true)(f:i0 k (ln (ix l n mZ).ae)=true)(z:(ix (ix l m mZ).ae p sZ).af=q)(t:(ix (ix l n mZ).ae k sZ).af=q)(h:zeK l q<=1):m=n/\p=k:=by have c:=zC.1 b;have d:=zC.1 u;have i:=zC.1 v;have g:=zC.1 f;have B:¬ ieq q (q+1)=true:=(by simp[ieq];omega);obtain⟨y,r⟩:∃y:Mon,y.ae=up (ix l m mZ).ae p ⟨q+1,0⟩:=⟨{ix l m mZ with ae:=up (ix l m mZ).ae p ⟨q+1,0⟩},rfl⟩;have x:=zOl (λs=>ieq s.af q) v (⟨q+1,0⟩:k0) sZ;simp only[z,show ieq q q=true by simp[ieq],show ieq (q+1) q=false by simp[ieq];omega,if_true,kF,if_false] at x;have C:=zxO b y q;simp only[cPg,r] at C;have D:zeK (up l m y) q=0:=(by omega);apply Classical.byContradiction;intro A;have w:1<=zeK (up l m y) q:=(by by_cases a:m=n;{subst a;have j:p≠k:=λe=>A ⟨rfl,e⟩;have:=zFZ (l:=up l m y) (m:=m) (p:=k) (by rw[zdU];exact b) (by rw[zbk b,r,zdU];exact f);rw[zbk b,r,zbA i.1 g.1 j,t] at this;exact this};{have:=zFZ (l:=up l m y) (m:=n) (p:=k) (by rw[zdU];exact u) (by rw[zbA c.1 d.1 a];exact f);rw[zbA c.1 d.1 a,t] at this;exact this});omega
def ztj {a b c:Bool}:(cond a b c)=true↔(a=true/\b=true)\/(a=false/\c=true):=by cases a<;>simp
def SOk (s:k0):Prop:=s=C0\/(0<=s.af/\s.af<=11/\1<=s.aj/\s.aj<=3)
def zT0 {a b:k0}(c:a.af=b.af)(d:a.aj=b.aj):a=b:=by cases a;cases b;simp_all
def zjV {a b:k0}:zcx a b=true↔a=b:=by simp only[zcx,qE,zbt];exact⟨λh=>zT0 h.1 h.2,λh=>by rw[h];exact⟨rfl,rfl⟩⟩
def zrL {a b:k0}:zcx a b=false↔a≠b:=by rw[<- vT,zjV]
def zW3 {s:k0}:zdO s 12=true↔SOk s:=by unfold zdO SOk;rw[ztj,zjV,zrL];have:wsub .i64 12 1=11:=(by decide);simp only[this,ztj,zcU];simp[igt];constructor;{rintro (h|⟨h,⟨a,b⟩,c⟩);{exact .inl h};{exact .inr ⟨a,b,c⟩}};{intro h;by_cases d:s=C0;{exact .inl d};{rcases h with h|⟨a,b,c⟩;{exact .inl h};{exact .inr ⟨d,⟨a,b⟩,c⟩}}}
def SOk.none {s:k0}(h:SOk s)(a:s.af = -1):s=C0:=by rcases h with h|h;{exact h};{omega}
def SOk.pos {s:k0}(h:SOk s)(a:s.af≠-1):0<=s.af/\s.af<=11/\1<=s.aj/\s.aj<=3:=by rcases h with h|h;{rw [h]at a;exact absurd rfl a};{exact h}
structure MOk (x:Mon):Prop where
 g1:1<=x.ad.length
 g2:x.ad.length<=2
 gt:x.ai.length=x.ad.length
 o8:x.ae.length=8
 sl:∀s∈x.ae,SOk s
 u8:x.Out.length=8
 d8:x.av.length=8
 outs:x.Outs.length<=40
 pend:zdI x.an=true
 tr:zk x.ar 0 3=true
 own:zk x.Own 0 1000000000=true
 gs:∀g∈x.ad,zdX g=true
 fit:∀p,i0 p 8=true->zlK (ix x.ae p sZ) (ix x.Out p [])=true
def zFT {P:Nat->Bool}:∀{n i:Nat},zkU P n i=true↔∀j,i<=j->j<i+n->P j=true
 | 0,i=>by simp[zkU];intro j a b;omega
 |n+1,i=>by rw[zkU,qE,zFT];constructor;{rintro⟨a,b⟩ j c d;by_cases e:j=i;{rw [e];exact a};{exact b j (by omega) (by omega)}};{intro h;exact⟨h i (by omega) (by omega),λj a b=>h j (by omega) (by omega)⟩}
def zmN {t:List k0}{n p:Int}:zcT t n p=true↔(∀s∈t,zdO s p=true)/\ln t=n:=by unfold zcT;rw[zce,qM,zbt]
def z8e {x:Mon}:zd1 x=true↔MOk x:=by unfold zd1;simp only[zce,zcU,zbt,zmN,zFT,qM,ile,jA];constructor;{rintro⟨⟨g,i⟩,m,⟨k,l⟩,n,q,r,e,a,b,c,d⟩;unfold ln at *;refine⟨by omega,by omega,by omega,by omega,λs f=>zW3.1 (k s f),by omega,by omega,by omega,e,zcU.2 a,zcU.2 b,c,λp t=>?_⟩;have u:=zC.1 t;have:=d p.toNat (by omega) (by omega);unfold fits at this;rwa [show ((p.toNat:Nat):Int)=p by omega] at this};{intro h;obtain⟨g,i,m,k,l,n,q,r,e,a,b,c,d⟩:=h;unfold ln;exact⟨⟨by omega,by omega⟩,by omega,⟨λs f=>zW3.2 (l s f),by omega⟩,by omega,by omega,by omega,e,zcU.1 a,zcU.1 b,c,λj g i=>d (j:Int) (zC.2 (by omega))⟩}
def zjt (o:List k0)(s:k0)(q:Int):(s::o).countP (λs=>ieq s.af q)=o.countP (λs=>ieq s.af q)+if s.af=q then 1 else 0:=by rw[u5];simp[ieq]
def zze:∀{o:List k0} {u:List Bool},(∀s∈o,s.af<u.length)->
 (∀c,zgJ o u=some c↔(∀q,0<=q->o.countP (λs=>ieq s.af q)+(if ix u q false then 1 else 0)<=1)/\
  c=(o.foldl (λu s=>bif ilt s.af 0 then u else up u s.af true) u))
 |[],u,h,c=>by simp[zgJ];exact⟨λh=>⟨λq _=>by split<;>omega,h.symm⟩,λh=>h.2.symm⟩
 |s::o,u,h,c=>by
  unfold zgJ;by_cases g:s.af<0;{have b:ilt s.af 0=true:=qL g;rw[b,cond_true,zze λy d=>h y (qW _ d)];simp only[kY,b,cond_true];refine and_congr (forall_congr' λq=>forall_congr' λf=>?_) Iff.rfl;have e:(if s.af=q then 1 else 0)=0:=if_neg (by omega);rw[zjt,e,j3]};{have b:ilt s.af 0=false:=qX g;have k:=h s q0;have j:i0 s.af (ln u)=true:=zC.2 ⟨by omega,by unfold ln;omega⟩;rw[b,cond_false];cases i:ix u s.af false with|true=>rw[cond_true];constructor;{intro h;cases h};{rintro⟨h,_⟩;have:=h s.af (by omega);rw[zjt,if_pos rfl,i] at this;simp at this}|false=>rw[cond_false,zze (λy d=>by rw[zbP];exact h y (qW _ d))];simp only[kY,b,cond_false];refine and_congr (forall_congr' λq=>forall_congr' λf=>?_) Iff.rfl;rw[zjt];by_cases a:s.af=q;{subst a;rw[zbk j,i];simp};{rw [zbA (by omega) f a,if_neg a,j3]}}
def zHI:∀(o:List k0) (u:List Bool),(o.foldl (λu s=>bif ilt s.af 0 then u else up u s.af true) u).length=u.length
 |[],u=>rfl
 |s::o,u=>by rw[kY,zHI];cases ilt s.af 0<;>simp [zbP]
def zNH:∀(o:List k0) (u:List Bool) (q:Int),0<=q->(∀s∈o,s.af<u.length)->(ix (o.foldl (λu s=>bif ilt s.af 0 then u else up u s.af true) u) q false=true↔ix u q false=true\/1<=o.countP λs=>ieq s.af q)
 |[],u,q,b,h=>by simp
 |s::o,u,q,b,h=>by
  rw[kY,zNH _ _ q b (λy f=>by have:=h y (qW _ f);cases ilt s.af 0<;>simpa [zbP] using this),zjt];by_cases c:s.af<0;{rw [show ilt s.af 0=true from qL c,cond_true,if_neg (by omega),j3]};{rw [show ilt s.af 0=false from qX c,cond_false];have e:=h s q0;have d:i0 s.af (ln u)=true:=zC.2 ⟨by omega,by unfold ln;omega⟩;by_cases a:s.af=q;{subst a;rw[zbk d];simp};{rw [zbA (by omega) b a,if_neg a,j3]}}
def zyA:∀{l:List Mon} {u:List Bool},u.length=12->(zht l u=true↔(∀x∈l,MOk x)/\∀q,0<=q->zeK l q+(if l≠[]/\ix u q false then 1 else 0)<=1)
 |[],u,c=>by simp[zht,zeK]
 |x::l,u,c=>by
  unfold zht;rw[zce,z8e];constructor;{rintro⟨f,b⟩;have k:∀s∈x.ae,s.af<u.length:=λs n=>(by rcases f.sl s n with h|h;{rw [h,c];decide};{rw [c];omega});split at b;{rename_i B d;obtain⟨g,rfl⟩:=(zze k B).1 d;rw[zyA (by rw[zHI,c])]at b;obtain⟨v,w⟩:=b;refine⟨by simpa using ⟨f,v⟩,λq a=>?_⟩;have z:=g q a;have i:=w q a;have m:=zNH x.ae u q a k;simp only[zeK,jG,uQ]at i ⊢;unfold cPg at i ⊢;simp only[ne_eq,reduceCtorEq,not_false_eq_true,true_and];by_cases r:l=[];{subst r;simpa using z};{simp only [r,ne_eq,not_false_eq_true,true_and]at i;by_cases j:ix (x.ae.foldl (λu s=>bif ilt s.af 0 then u else up u s.af true) u) q false=true;{rw [if_pos j]at i;omega};{rw [if_neg j]at i;have p:¬ (ix u q false=true\/1<=x.ae.countP λs=>ieq s.af q):=λe=>j (m.2 e);rw[not_or]at p;rw[if_neg p.1];omega}}};{cases b}}
  .rintro⟨f,b⟩;have t:MOk x:=f x q0;refine⟨t,?_⟩;have k:∀s∈x.ae,s.af<u.length:=λs n=>by rcases t.sl s n with h|h;{rw [h,c];decide};{rw [c];omega}
   have d:=(zze k _).2 ⟨λq a=>by
    have:=b q a;simp only[zeK,jG,uQ,ne_eq,reduceCtorEq,not_false_eq_true,true_and] at this;unfold cPg at this;omega,rfl⟩
   rw[d];simp only;rw[zyA (by rw[zHI,c])];refine⟨λy A=>f y (qW _ A),λq a=>?_⟩;have g:=b q a;have m:=zNH x.ae u q a k;simp only[zeK,jG,uQ,ne_eq,reduceCtorEq,not_false_eq_true,true_and]at g ⊢;unfold cPg at g ⊢;split;{rename_i j;rcases m.1 j.2 with h|h;{rw [if_pos h]at g;omega};{omega}};{omega}
structure HOk (h:ac):Prop where
 m12:h.ag.length=12
 pgs:∀c∈h.ag,zcw c=true
 n1:1<=h.aa.length
 n3:h.aa.length<=3
 b1:zfw h.am=true
 b2:zfw h.ak=true
 mons:∀x∈h.aa,MOk x
 uq:∀q,0<=q->zeK h.aa q<=1
def ziS {h:ac}:zbT h=true↔HOk h:=by unfold zbT zh6;simp only[zce,zcU,zbt,qM];rw[zyA (by simp[rp])];have g:∀q,ix (rp 12 false) q false=false:=λq=>(by unfold ix rp;rw[kB,kH];split<;>rfl);simp only[g,kF,and_false,if_false,j3];unfold ln;constructor;{rintro⟨⟨e,f⟩,⟨i,j⟩,a,b,c,d⟩;exact⟨by omega,e,by omega,by omega,a,b,c,d⟩};{rintro⟨e,f,i,j,a,b,c,d⟩;exact⟨⟨f,by omega⟩,⟨by omega,by omega⟩,a,b,c,d⟩}
def HOk.mon {h:ac}(H:HOk h){m:Int}(a:i0 m (ln h.aa)=true):MOk (ix h.aa m mZ):=H.mons _ (zlI a _)
def MOk.hasO {x:Mon}(H:MOk x){p:Int}(a:i0 p 8=true):i0 p (ln x.ae)=true:=by rw[ln,H.o8];exact a
def MOk.hasU {x:Mon}(H:MOk x){p:Int}(a:i0 p 8=true):i0 p (ln x.Out)=true:=by rw[ln,H.u8];exact a
def MOk.hasD {x:Mon}(H:MOk x){p:Int}(a:i0 p 8=true):i0 p (ln x.av)=true:=by rw[ln,H.d8];exact a
def MOk.slot {x:Mon}(H:MOk x){p:Int}(a:i0 p 8=true):SOk (ix x.ae p sZ):=H.sl _ (zlI (H.hasO a) _)
def HOk.uniq {h:ac}(H:HOk h){m p n k q:Int}(a:i0 m (ln h.aa)=true)(f:i0 p 8=true)(b:i0 n (ln h.aa)=true)(e:i0 k 8=true)(c:(ix (ix h.aa m mZ).ae p sZ).af=q)(d:(ix (ix h.aa n mZ).ae k sZ).af=q)(g:0<=q):m=n/\p=k :=
 z2A a ((H.mon a).hasO f) b ((H.mon b).hasO e) c d (H.uq q g)
def HOk.up {h:ac}(H:HOk h){m:Int}(k:i0 m (ln h.aa)=true){x:Mon}(l:MOk x){a:ac}(e:a.aa=up h.aa m x)(d:a.ag.length=12)(f:∀c∈a.ag,zcw c=true)(i:zfw a.am=true)(j:zfw a.ak=true)(n:∀q,0<=q->cPg x q<=cPg (ix h.aa m mZ) q\/zeK h.aa q=0/\cPg x q<=1):HOk a:=by refine⟨d,f,by rw[e,zbP];exact H.n1,by rw[e,zbP];exact H.n3,i,j,λy b=>?_,λq g=>?_⟩;{rw [e]at b;unfold E.up at b;rcases qZ b with h|h;{exact H.mons y h};{rw [h];exact l}};{rw [e];have p:=zxO k x q;have r:=H.uq q g;have s:=n q g;omega}
structure KOk (k:ax) (inner outer:List k0):Prop where
 l1:k.aw.length=inner.length
 l2:k.au.length=inner.length
 at':∀i,i0 i (ln inner)=true->ix k.au i sZ=bif ix k.aw i false then zbj (ix inner i sZ) outer else C0
def z8b {k:ax}{d e:List k0}:zh2 k d e=true↔KOk k d e:=by unfold zh2;have f:∀{a b:Int} {c:Bool},(cond (ine a b) false c)=true↔a=b/\c=true:=(by intro a b c;by_cases h:a=b;{simp [ine,h]};{simp [ine,h]});rw[f,f,zFT];unfold ln zit;constructor;{rintro⟨m,n,g⟩;refine⟨by omega,by omega,λi p=>?_⟩;have l:=zC.1 p;unfold ln at l;have:=zjV.1 (g i.toNat (by omega) (by omega));rwa [show ((i.toNat:Nat):Int)=i by omega] at this};{rintro⟨m,n,g⟩;exact⟨by omega,by omega,λj q r=>zjV.2 (g _<|zC.2 (by unfold ln;omega))⟩}
def TOk (x:Mon):Prop:=∀g,i0 g (ln x.ad)=true->KOk (ix x.ai g kZ) (ix x.ad g gZ).ay x.ae
structure Rt (h:ac):Prop where
 t:∀m,i0 m (ln h.aa)=true->TOk (ix h.aa m mZ)
 e1:∀e∈h.am,zb3 h e=true
 e2:∀e∈h.ak,zb3 h e=true
structure Safe (h:ac):Prop where
 ok:HOk h
 rt:Rt h
def znC {a b:k0}:below' a b=true↔a=C0\/(a.af=b.af/\enough b.aj a.aj=true):=by unfold below';rw[ztj,zjV,zrL,zce,zbt];by_cases h:a=C0<;>simp [h]
def z2h (x:Int):wand .i64 0 x=0:=by unfold wand;have:(BitVec.ofInt 64 0 &&& BitVec.ofInt 64 x)=0#64:=(by rw[show BitVec.ofInt 64 0=0#64 from rfl,BitVec.zero_and]);show IntKind.wrap .i64 ((BitVec.ofInt 64 0 &&& BitVec.ofInt 64 x).toNat:Int)=0;rw[this];rfl
def z2v {a:k0}(h:below' a C0=true):a=C0:=by rcases znC.1 h with h|⟨c,b⟩;{exact h};{refine zT0 c ?_;unfold enough at b;rw[show C0.aj=0 from rfl,z2h]at b;simp only[zce,zbt]at b;exact b.2.2.symm}
def zfb {h:ac}{e:aq}:zb3 h e=true↔i0 (zb2 e.Tag) (ln h.aa)=true/\i0 (zc9 e.Tag) (ln (ix h.aa (zb2 e.Tag) mZ).ad)=true/\
 below' ⟨e.ac,e.aj⟩ (zbj (zbv (ix (ix h.aa (zb2 e.Tag) mZ).ad (zc9 e.Tag) gZ).ay e.af) (ix h.aa (zb2 e.Tag) mZ).ae)=true:=by
 unfold zb3;rw[zce,zce]
def zO6 {o:List k0}{p q:Int}{s:k0}(a:0<=p)(h:q≠p):zbv (up o p s) q=zbv o q:=by unfold zbv;rw[zdU];cases b:i0 q (ln o) with|false=>rfl|true=>rw[cond_true,cond_true,zbA a (zC.1 b).1<|Ne.symm h]
def zIF {s:k0}{o:List k0}{p:Int}{t:k0}(a:0<=p)(h:s.af≠p):zbj s (up o p t)=zbj s o:=by unfold zbj;rw[zO6 a h]
def zXE {s:k0}{o:List k0}:zbj s o=C0\/(zbj s o).af=(zbv o s.af).af:=by unfold zbj;cases ieq s.af (-1)<;>cases ieq (zbv o s.af).af (-1)<;>cases ieq (zd0 s.aj (zbv o s.af).aj) 0<;>simp
def zk0 (k:ax)(q:Int):(zbW k q).aw.length=k.aw.length/\(zbW k q).au.length=k.au.length:=by unfold zbW;cases zds k q<;>simp [zbP]
def zzu:∀(l:LI) (k:ax),(zeN k l).aw.length=k.aw.length/\(zeN k l).au.length=k.au.length
 |[],k=>⟨rfl,rfl⟩
 |q::l,k=>by have a:=zzu l (zbW k q);have b:=zk0 k q;exact⟨a.1.trans b.1,a.2.trans b.2⟩
def zvX {k:ax}{q i:Int}(d:k.aw.length=k.au.length)(b:i0 i (ln k.aw)=true) :
 ix (zbW k q).aw i false=(cond (ieq q i) false<|ix k.aw i false)/\ix (zbW k q).au i sZ=(cond (ieq q i) C0<|ix k.au i sZ):=by
 have c:i0 i (ln k.au)=true:=by unfold ln at b ⊢;rwa [<- d]
 unfold zbW zds
 by_cases e:q=i
 .subst e;simp only[b,c,cond_true,ieq,beq_self_eq_true];exact⟨zbk b _ _,zbk c _ _⟩
 .rw [show ieq q i=false from zbV.2 e]
  by_cases a:i0 q (ln k.aw)=true
  .have hq':i0 q (ln k.au)=true:=by unfold ln at a ⊢;rwa [<- d]
   simp only[a,hq',cond_true,cond_false];exact⟨zbA (zC.1 a).1 (zC.1 b).1 e _ _,zbA (zC.1 a).1 (zC.1 b).1 e _ _⟩
  .rw [vT]at a;simp[a]
def zBw:∀(l:LI) {k:ax} {i:Int},k.aw.length=k.au.length->i0 i (ln k.aw)=true->
 (i∈l->ix (zeN k l).aw i false=false/\ix (zeN k l).au i sZ=C0)/\
 (i∉l->ix (zeN k l).aw i false=ix k.aw i false/\ix (zeN k l).au i sZ=ix k.au i sZ)
 |[],k,i,d,c=>⟨λh=>by simp at h,λ_=>⟨rfl,rfl⟩⟩
 |q::l,k,i,d,c=>by have b:=zk0 k q;have g:=zvX (q:=q) d c;have f:=zBw l (k:=zbW k q) (i:=i) (by rw[b.1,b.2,d]) (by unfold ln at c ⊢;rwa [b.1]);show (_->ix (zeN (zbW k q) l).aw i false=_/\ix (zeN (zbW k q) l).au i sZ=_)/\(_->ix (zeN (zbW k q) l).aw i false=_/\ix (zeN (zbW k q) l).au i sZ=_);by_cases a:i∈l;{refine⟨λ_=>f.1 a,λh=>absurd (qW _ a) h⟩};{rw [(f.2 a).1,(f.2 a).2,g.1,g.2];by_cases e:q=i;{subst e;simp[ieq]};{rw [zbV.2 e];simp[a,Ne.symm e]}}
def zGV {e:Type}{P:e->Bool}{d:e}:∀{l:List e} {n:Nat} {i:Int},i∈idxs P l n↔∃k:Nat,∃h:k<l.length,i=((n+k:Nat):Int)/\P l[k]=true
 |[],n,i=>by simp[idxs]
 |x::l,n,i=>by
  have g:=@zGV e P d l (n+1) i;unfold idxs;constructor
  .intro h;cases f:P x with
   |true=>rw[f,cond_true,qG]at h;rcases h with h|h;{exact⟨0,by simp,by simpa using h,f⟩};{obtain⟨k,c,b,a⟩:=g.1 h;exact⟨k+1,by simpa using c,by rw[b];congr 1;omega,by simpa using a⟩}
   |false=>rw[f,cond_false]at h;obtain⟨k,c,b,a⟩:=g.1 h;exact⟨k+1,by simpa using c,by rw[b];congr 1;omega,by simpa using a⟩
  {rintro⟨k,c,b,a⟩;cases k with|zero=>simp only[List.getElem_cons_zero]at a;rw[a,cond_true,b];exact q0|succ k=>have:=g.2 ⟨k,by simpa using c,by rw[b];congr 1;omega,by simpa using a⟩;cases P x;{exact this};{exact qW _ this}}
def zUK {l:List k0}{p i:Int}:i∈zCP l p↔i0 i (ln l)=true/\(ix l i sZ).af=p:=by unfold zCP;rw[zGV (d:=sZ)];constructor;{rintro⟨k,a,rfl,c⟩;rw[j4,zj2 a];exact⟨zC.2 (by unfold ln;omega),zbt.1 c⟩};{rintro⟨a,b⟩;obtain⟨k,f,rfl,e⟩:=zuY a sZ;exact⟨k,f,by simp,by rw[e]at b;exact zbt.2 b⟩}
def zYi {k:ax}{a b:List k0}(h:KOk k a b){p:Int}(j:0<=p)(s:k0):KOk (zjx k a p) a (up b p s):=by have g:=zzu (zCP a p) k;refine⟨g.1.trans h.l1,g.2.trans h.l2,λi d=>?_⟩;have e:i0 i (ln k.aw)=true:=(by unfold ln at d ⊢;rwa [h.l1]);have f:=zBw (zCP a p) (by rw[h.l1,h.l2]) e;unfold zjx;by_cases c:(ix a i sZ).af=p;{have:=f.1 (zUK.2 ⟨d,c⟩);rw[this.1,this.2];rfl};{have:=f.2 (λh=>c (zUK.1 h).2);rw[this.1,this.2,h.at' i d,zIF j c]}
def zCJ (b:List ah)(p:Int):∀(n:Nat) (a:List ax),(zlw b p n a).length=a.length
 | 0,a=>rfl
 |n+1,a=>by rw[zlw,zbP,zCJ b p n]
def zNo (b:List ah)(p:Int):∀(n:Nat) (a:List ax),n<=a.length->∀i,0<=i->ix (zlw b p n a) i kZ=if i<n then zjx (ix a i kZ) (ix b i gZ).ay p else ix a i kZ
 | 0,a,_,i,c=>by rw[if_neg (by omega)];rfl
 |n+1,a,d,i,c=>by rw[zlw];by_cases e:i=n;{subst e;rw[zbk (by rw[ln,zCJ];exact zC.2 (by omega)),if_pos (by omega),zNo b p n a (by omega) _ c,if_neg (by omega)]};{rw [zbA (by omega) c<|Ne.symm e,zNo b p n a (by omega) i c];by_cases h:i<n;{rw [if_pos h,if_pos (by omega)]};{rw [if_neg h,if_neg (by omega)]}}
def zjW (x:Mon)(p:Int)(s:k0):Mon:={zkI x p x.ai.length with ae:=up x.ae p s}
def z1O {x:Mon}(h:TOk x)(c:x.ai.length=x.ad.length){p:Int}(b:0<=p)(s:k0):TOk (zjW x p s):=by intro g hg;have a:i0 g (ln x.ad)=true:=hg;show KOk (ix (zlw x.ad p x.ai.length x.ai) g kZ) (ix x.ad g gZ).ay (up x.ae p s);rw[zNo _ _ _ _ (qS _) _ (zC.1 a).1,if_pos (by have:=zC.1 a;unfold ln at this;omega)];exact zYi (h g a) b s
def zsj (h:ac)(m p:Int)(s:k0):(zcc h m p s).aa=up h.aa m (zjW (ix h.aa m mZ) p s):=by unfold zcc;cases ine (ix (ix h.aa m zh).ae p zQ).af (-1)<;>rfl
def zwo (h:ac)(m p:Int)(s:k0):(zcc h m p s).ag=h.ag:=by unfold zcc;cases ine (ix (ix h.aa m zh).ae p zQ).af (-1)<;>rfl
def zO8 (h:ac)(m p:Int)(s:k0):(zcc h m p s).am=(cond (ieq (ix (ix h.aa m mZ).ae p sZ).af<|-1) h.am<|flushed h.am (ix (ix h.aa m mZ).ae p sZ).af)/\
 (zcc h m p s).ak=(cond (ieq (ix (ix h.aa m mZ).ae p sZ).af<|-1) h.ak<|flushed h.ak (ix (ix h.aa m mZ).ae p sZ).af):=by
 unfold zcc
 by_cases e:(ix (ix h.aa m zh).ae p zQ).af = -1
 .rw [show ine (ix (ix h.aa m zh).ae p zQ).af (-1)=false by simp[ine,e],show ieq (ix (ix h.aa m mZ).ae p sZ).af (-1)=true from zbt.2 e]
  exact⟨rfl,rfl⟩
 .rw [show ine (ix (ix h.aa m zh).ae p zQ).af (-1)=true from zpQ.2 e,show ieq (ix (ix h.aa m mZ).ae p sZ).af (-1)=false from zbV.2 e]
  exact⟨rfl,rfl⟩
def zIK {h k:ac}{m p:Int}{s:k0}(n:i0 m (ln h.aa)=true)(q:i0 p (ln (ix h.aa m mZ).ae)=true){x:Mon}(u:k.aa=up h.aa m x)(t:x.ad=(ix h.aa m mZ).ad)(v:x.ae=up (ix h.aa m mZ).ae p s){e:aq}(w:zb3 h e=true)(c:(ix (ix h.aa m mZ).ae p sZ).af = -1\/e.ac≠(ix (ix h.aa m mZ).ae p sZ).af):zb3 k e=true:=by obtain⟨f,g,b⟩:=zfb.1 w;rw[zfb,u,zdU];refine⟨f,?_⟩;by_cases l:m=zb2 e.Tag;{rw [<- l]at f g b ⊢;rw[zbk n,t,v];refine⟨g,?_⟩;by_cases j:(zbv (ix (ix h.aa m mZ).ad (zc9 e.Tag) gZ).ay e.af).af=p;{have a:zbj (zbv (ix (ix h.aa m mZ).ad (zc9 e.Tag) gZ).ay e.af) (ix h.aa m mZ).ae=C0\/e.ac≠(zbj (zbv (ix (ix h.aa m mZ).ad (zc9 e.Tag) gZ).ay e.af) (ix h.aa m mZ).ae).af:=(by rcases zXE (s:=zbv (ix (ix h.aa m mZ).ad (zc9 e.Tag) gZ).ay e.af) (o:=(ix h.aa m mZ).ae) with d|d;{exact .inl d};{rw [j]at d;have r:zbv (ix h.aa m mZ).ae p=ix (ix h.aa m mZ).ae p sZ:=(by unfold zbv;rw[q];rfl);rw[r]at d;rcases c with c|c;{left;unfold zbj;rw[j,r,c,show ieq (-1) (-1)=true from rfl];cases ieq p (-1)<;>rfl};{exact .inr (by rw[d];exact c)}});have i:(⟨e.ac,e.aj⟩:k0)=C0:=(by rcases a with a|a;{rw [a]at b;exact z2v b};{rcases znC.1 b with h|h;{exact h};{exact absurd h.1 a}});rw[i];exact znC.2 (.inl rfl)};{rw [zIF (zC.1 q).1 j];exact b}};{rw [zbA (zC.1 n).1 (zC.1 f).1 l];exact⟨g,b⟩}
def zyU {h:ac}(H:Rt h){m p:Int}(d:i0 m (ln h.aa)=true)(q:i0 p (ln (ix h.aa m mZ).ae)=true)(u:(ix h.aa m mZ).ai.length=(ix h.aa m mZ).ad.length)(s:k0):Rt (zcc h m p s):=by have c:=zO8 h m p s;have i:=zsj h m p s;have f:∀(b:List aq),(∀e∈b,zb3 h e=true)->∀e∈(cond (ieq (ix (ix h.aa m mZ).ae p sZ).af<|-1) b<|flushed b (ix (ix h.aa m mZ).ae p sZ).af),zb3 (zcc h m p s) e=true:=(by intro b c e a;by_cases n:(ix (ix h.aa m mZ).ae p sZ).af = -1;{rw [zbt.2 n,cond_true]at a;exact zIK d q i rfl rfl (c e a) (.inl n)};{rw [zbV.2 n,cond_false]at a;obtain⟨j,l⟩:=uD.1 a;exact zIK d q i rfl rfl (c e j) (.inr (by simpa [ieq] using l))});refine⟨λk g=>?_,λe a=>f _ H.e1 e (by rwa [c.1]at a),λe a=>f _ H.e2 e (by rwa [c.2]at a)⟩;rw[i]at g ⊢;rw[zdU]at g;by_cases r:m=k;{subst r;rw[zbk d];exact z1O (H.t m d) u (zC.1 q).1 s};{rw [zbA (zC.1 d).1 (zC.1 g).1 r];exact H.t k g}
def zN9:∀(l a:List aq),allI (alone<|a++l) l a.length=true↔(∀x∈l,∀y∈a,sameKey x y=false)/\l.Pairwise (λy x=>sameKey x y=false)
 |[],a=>by simp[allI]
 |x::l,a=>by have g:=zN9 l (a++[x]);rw[j6,List.singleton_append,jL,uJ] at g;rw[allI,qE,g,kV];have h:alone (a++x::l) a.length x=true↔∀y∈a,sameKey x y=false:=(by unfold alone;rw[kK rfl,qM];simp);rw[h];constructor;{rintro⟨d,e,f⟩;refine⟨λz c y b=>?_,λz c=>e z c x (by simp),f⟩;rcases qG.1 c with rfl|c;{exact d y b};{exact e z c y (by simp[b])}};{rintro⟨d,e,f⟩;refine⟨λy b=>d x (by simp) y b,λz c y b=>?_,f⟩;rcases jH.1 b with b|b;{exact d z (by simp[c]) y b};{rw [qF.1 b];exact e z c}}
def zCV {l:List aq}:zfw l=true↔l.Pairwise (λy x=>sameKey x y=false)/\l.length<=6:=by unfold zfw;have:=zN9 l [];simp only[jW,uB] at this;have a:ile (ln l) 6=true↔l.length<=6:=(by rw[ile,jA,ln];omega);rw[zce,this,a];simp
def zyc {l:List aq}(h:zfw l=true)(P:aq->Bool):zfw (l.filter P)=true:=by rw[zCV]at h ⊢;exact⟨h.1.sublist List.filter_sublist,qU (uK _ _) h.2⟩
def zER {l:List aq}(h:zfw l=true)(p:Int):zfw (flushed l p)=true:=zyc h _
def zRl {x x':Mon}{p:Int}(a:i0 p (ln x.ae)=true){s:k0}(h:x'.ae=up x.ae p s)(q:Int):cPg x' q+(if (ix x.ae p sZ).af=q then 1 else 0)=cPg x q+(if s.af=q then 1 else 0):=by have:=zOl (λs=>ieq s.af q) a s sZ;simp only[zbt] at this;unfold cPg;rw[h];exact this
def zpL {s:k0}(d:SOk s){c:LI}:zlK s c=true↔(s.af = -1->zcw c=true)/\(s.af≠-1->enough s.aj 1=true/\c=[]):=by unfold zlK;by_cases e:s=C0;{rw [zjV.2 e,cond_true,e];simp[C0]};{rw [zrL.2 e,cond_false,zce];have:s.af≠-1:=λh=>e (d.none h);have b:ile (ln c) 0=true↔c=[]:=(by rw[ile,jA,ln,<- uY];omega);rw[b];exact⟨λh=>⟨λa=>absurd a this,λ_=>h⟩,λh=>h.2 this⟩}
structure Chg (x x':Mon) (p:Int) (s:k0) (c:List Int):Prop where
 o:x'.ae=up x.ae p s
 u:x'.Out=up x.Out p c
 g:x'.ad=x.ad
 t:x'.ai.length=x.ai.length
 d:x'.av.length=x.av.length
 a1:x'.Outs=x.Outs
 a2:x'.an=x.an
 a3:x'.ar=x.ar
 a4:x'.Own=x.Own
def MOk.chg {x i:Mon}(H:MOk x){p:Int}(a:i0 p 8=true){s:k0}{c:LI}(k:Chg x i p s c)(l:SOk s)(j:zlK s c=true):MOk i:=by refine⟨by rw[k.g];exact H.g1,by rw[k.g];exact H.g2,by rw[k.t,k.g];exact H.gt,by rw[k.o,zbP];exact H.o8,λy f=>?_,by rw[k.u,zbP];exact H.u8,by rw[k.d];exact H.d8,by rw[k.a1];exact H.outs,by rw[k.a2];exact H.pend,by rw[k.a3];exact H.tr,by rw[k.a4];exact H.own,by rw[k.g];exact H.gs,λq b=>?_⟩;{rw [k.o]at f;rcases qZ f with h|h;{exact H.sl y h};{rw [h];exact l}};{rw [k.o,k.u];by_cases e:p=q;{subst e;rw[zbk<|H.hasO a,zbk<|H.hasU a];exact j};{rw [zbA (zC.1 a).1 (zC.1 b).1 e,zbA (zC.1 a).1 (zC.1 b).1 e];exact H.fit q b}}
structure Like (h r:ac):Prop where
 len:r.aa.length=h.aa.length
 g:∀i,i0 i (ln h.aa)=true->(ix r.aa i mZ).ad=(ix h.aa i mZ).ad
 o:∀i,i0 i (ln h.aa)=true->(ix r.aa i mZ).Outs=(ix h.aa i mZ).Outs
 p:∀i,i0 i (ln h.aa)=true->(ix r.aa i mZ).an=(ix h.aa i mZ).an
 tr:∀i,i0 i (ln h.aa)=true->(ix r.aa i mZ).ar=(ix h.aa i mZ).ar
 ow:∀i,i0 i (ln h.aa)=true->(ix r.aa i mZ).Own=(ix h.aa i mZ).Own
 pg:∀i k,i0 i (ln h.aa)=true->i0 k 8=true->zdg r i k=zdg h i k
def Like.refl (h:ac):Like h h:=⟨rfl,λ_ _=>rfl,λ_ _=>rfl,λ_ _=>rfl,λ_ _=>rfl,λ_ _=>rfl,λ_ _ _ _=>rfl⟩
def Like.trans {a b c:ac}(x:Like a b)(y:Like b c):Like a c:=by have k:∀i,i0 i (ln a.aa)=true->i0 i (ln b.aa)=true:=λi e=>(by unfold ln at e ⊢;rwa [x.len]);exact⟨y.len.trans x.len,λi h=>(y.g i<|k i h).trans (x.g i h),λi h=>(y.o i<|k i h).trans (x.o i h),λi h=>(y.p i<|k i h).trans (x.p i h),λi h=>(y.tr i<|k i h).trans (x.tr i h),λi h=>(y.ow i<|k i h).trans (x.ow i h),λi q h d=>(y.pg i q (k i h) d).trans (x.pg i q h d)⟩
def Like.has {h r:ac}(k:Like h r){i:Int}:i0 i (ln r.aa)=i0 i (ln h.aa):=by unfold ln;rw[k.len]
def zqG {h r:ac}{m:Int}:∀(n i:Nat),(∀k:Nat,i<=k->k<i+n->zdg r m (k:Int)=zdg h m (k:Int))->zcR r m n i=zcR h m n i
 | 0,i,_=>rfl
 |n+1,i,h=>by rw[zcR,zcR,h i (by omega) (by omega),zqG n (i+1) λk a b=>h k (by omega) (by omega)]
def Like.seen {h r:ac}(k:Like h r)(m:Int):zL r m=zL h m:=by unfold zL;rw[k.has];cases a:i0 m (ln h.aa) with|false=>rfl|true=>simp only[cond_true];rw[k.g m a,k.o m a,k.p m a,zqG 8 0 λj b c=>k.pg m j a (zC.2 (by omega))]
def znH {h:ac}{m p:Int}(a:i0 m (ln h.aa)=true)(c:i0 p 8=true)(b:i0 p (ln (ix h.aa m mZ).ae)=true) :
 zdg h m p=bif ieq (ix (ix h.aa m mZ).ae p sZ).af (-1) then zcD (ix h.aa m mZ).Out p else zcD h.ag (ix (ix h.aa m mZ).ae p sZ).af:=by
 unfold zdg;have:zbv (ix h.aa m mZ).ae p=ix (ix h.aa m mZ).ae p sZ:=by unfold zbv;rw[b];rfl
 rw[a,c,cond_true,cond_true,this]
 by_cases e:(ix (ix h.aa m mZ).ae p sZ).af = -1
 .rw [zbt.2 e,show ine (ix (ix h.aa m mZ).ae p sZ).af (-1)=false by simp[ine,e]];rfl
 .rw [zbV.2 e,show ine (ix (ix h.aa m mZ).ae p sZ).af (-1)=true from zpQ.2 e];rfl
def zla {m:List LI}{p:Int}(h:i0 p (ln m)=true):zcD m p=ix m p []:=by unfold zcD;rw[h];rfl
def zOT {m:List LI}(h:∀c∈m,zcw c=true)(p:Int):zcw (zcD m p)=true:=by unfold zcD;cases a:i0 p (ln m) with|false=>rfl|true=>exact h _ (zlI a _)
def zvE {h r:ac}(H:HOk h){m p:Int}(b:i0 m (ln h.aa)=true)(i:i0 p 8=true){x:Mon}{s:k0}{c:LI}(n:r.aa=up h.aa m x)(k:Chg (ix h.aa m mZ) x p s c)(u:SOk s)(t:zlK s c=true)(f:r.ag.length=12)(g:∀c∈r.ag,zcw c=true)(j:zfw r.am=true)(l:zfw r.ak=true)(v:0<=s.af->s.af=(ix (ix h.aa m mZ).ae p sZ).af\/zeK h.aa s.af=0):HOk r:=by refine H.up b ((H.mon b).chg i k u t) n f g j l λq z=>?_;have d:=zRl ((H.mon b).hasO i) k.o q;by_cases e:s.af=q;{have a:=v (by omega);rw[if_pos e]at d;rcases a with a|a;{rw [if_pos (by omega)]at d;left;omega};{right;rw[e] at a;refine⟨a,?_⟩;have:=zxO b x q;have y:cPg (ix h.aa m mZ) q<=zeK h.aa q:=(by have:=zxO b (⟨[],[],[],[],[],0,0,[],0⟩:Mon) q;have w:cPg (⟨[],[],[],[],[],0,0,[],0⟩:Mon) q=0:=rfl;omega);omega}};{rw [if_neg e]at d;left;split at d<;>omega}
def zu0 {h r:ac}(H:HOk h){m p:Int}(a:i0 m (ln h.aa)=true)(y:i0 p 8=true){x:Mon}{s:k0}{c:LI}(n:r.aa=up h.aa m x)(k:Chg (ix h.aa m mZ) x p s c)(B:(cond (ieq s.af<|-1) c<|zcD r.ag s.af)=zdg h m p)(f:∀i q,i0 i (ln h.aa)=true->i0 q 8=true->¬ (i=m/\q=p)->(ix (ix h.aa i mZ).ae q sZ).af≠-1->zcD r.ag (ix (ix h.aa i mZ).ae q sZ).af=zcD h.ag (ix (ix h.aa i mZ).ae q sZ).af):Like h r:=by have l:=(zC.1 a).1;have t:=(zC.1 y).1;have e:∀{C:Type} (F:Mon->C),F x=F (ix h.aa m mZ)->∀i,i0 i (ln h.aa)=true->F (ix r.aa i mZ)=F (ix h.aa i mZ):=(by intro C F D i d;rw[n];by_cases e:m=i;{subst e;rw[zbk a];exact D};{rw [zbA l (zC.1 d).1 e]});refine⟨by rw[n,zbP],e Mon.ad k.g,e Mon.Outs k.a1,e Mon.an k.a2,e Mon.ar k.a3,e Mon.Own k.a4,λi q d b=>?_⟩;have A:i0 i (ln r.aa)=true:=(by rw[n,zdU];exact d);have w:=(H.mon d).hasO b;have z:i0 q (ln (ix r.aa i mZ).ae)=true:=(by rw[n];by_cases e:m=i;{subst e;rw[zbk a,k.o,zdU];exact w};{rw [zbA l (zC.1 d).1 e];exact w});rw[znH A b z];by_cases e:m=i;{subst e;rw[n,zbk a,k.o,k.u];by_cases v:p=q;{subst v;rw[zbk<|(H.mon a).hasO y,<- B];cases ieq s.af (-1);{rfl};{rw [cond_true,cond_true,zla (by rw[zdU];exact(H.mon a).hasU y),zbk<|(H.mon a).hasU y]}};{rw [zbA t (zC.1 b).1 v,znH a b w];by_cases j:(ix (ix h.aa m mZ).ae q sZ).af = -1;{rw [zbt.2 j,cond_true,cond_true,zla (by rw[zdU];exact(H.mon a).hasU b),zla<|(H.mon a).hasU b,zbA t (zC.1 b).1 v]};{rw [zbV.2 j,cond_false,cond_false,f m q a b (λh=>v h.2.symm) j]}}};{rw [n,zbA l (zC.1 d).1 e,znH d b w];by_cases j:(ix (ix h.aa i mZ).ae q sZ).af = -1;{rw [zbt.2 j,cond_true,cond_true]};{rw [zbV.2 j,cond_false,cond_false,f i q d b (λh=>e h.1.symm) j]}}
structure Op (h r:ac):Prop where
 ok:HOk r
 like:Like h r
 rt:Rt h->Rt r
def Op.refl {h:ac}(H:HOk h):Op h h:=⟨H,Like.refl h,id⟩
def Op.trans {a b c:ac}(x:Op a b)(y:Op b c):Op a c:=⟨y.ok,x.like.trans y.like,λh=>y.rt (x.rt h)⟩
def Op.safe {h r:ac}(k:Op h r)(s:Safe h):Safe r:=⟨k.ok,k.rt s.rt⟩
def zKo {h r:ac}(H:Rt h){m:Int}(l:i0 m (ln h.aa)=true){x:Mon}(u:r.aa=up h.aa m x)(q:r.am=h.am)(s:r.ak=h.ak)(y:x.ad.length=(ix h.aa m mZ).ad.length)(w:∀g,i0 g (ln (ix h.aa m mZ).ad)=true->(ix x.ad g gZ).ay=(ix (ix h.aa m mZ).ad g gZ).ay)(z:x.ai=(ix h.aa m mZ).ai)(v:x.ae=(ix h.aa m mZ).ae):Rt r:=by have d:=(zC.1 l).1;have hg:∀g,i0 g (ln x.ad)=i0 g (ln (ix h.aa m mZ).ad):=λg=>(by unfold ln;rw[y]);have f:∀e,zb3 h e=true->zb3 r e=true:=(by intro e c;obtain⟨n,i,p⟩:=zfb.1 c;rw[zfb,u,zdU];refine⟨n,?_⟩;by_cases b:m=zb2 e.Tag;{rw [<- b]at n i p ⊢;rw[zbk l,hg,w _ i,v];exact⟨i,p⟩};{rw [zbA d (zC.1 n).1 b];exact⟨i,p⟩});refine⟨λk j=>?_,λe c=>f e (H.e1 e (by rwa [q]at c)),λe c=>f e (H.e2 e (by rwa [s]at c))⟩;rw[u]at j ⊢;rw[zdU]at j;by_cases b:m=k;{subst b;rw[zbk l];intro g a;rw[hg]at a;rw[z,w g a,v];exact H.t m l g a};{rw [zbA d (zC.1 j).1 b];exact H.t k j}
def zpq {h a:ac}{m p:Int}{s:k0}{x:Mon}(b:i0 m (ln h.aa)=true)(e:a.aa=up h.aa m x):(zcc a m p s).aa=up h.aa m (zjW x p s):=by rw[zsj,e,zbk b,z2f]
def zBh {x a:Mon}{p:Int}{s:k0}{c:LI}(h:a.ae=x.ae)(j:a.Out=up x.Out p c)(hg:a.ad=x.ad)(i:a.ai=x.ai)(g:a.av.length=x.av.length)(b:a.Outs=x.Outs)(d:a.an=x.an)(e:a.ar=x.ar)(f:a.Own=x.Own):Chg x (zjW a p s) p s c :=
 ⟨by show up a.ae p s=_;rw[h],j,hg,by show (zlw a.ad p a.ai.length a.ai).length=_;rw[zCJ,i],g,b,d,e,f⟩
def zuh {h:ac}{m p:Int}{s:k0}(a:zfw h.am=true)(b:zfw h.ak=true):zfw (zcc h m p s).am=true/\zfw (zcc h m p s).ak=true:=by have:=zO8 h m p s;rw[this.1,this.2];cases ieq (ix (ix h.aa m mZ).ae p sZ).af (-1);{exact⟨zER a _,zER b _⟩};{exact⟨a,b⟩}
def hasM {h:ac}(H:HOk h){s:k0}(b:SOk s)(a:s.af≠-1):i0 s.af (ln h.ag)=true:=by have:=b.pos a;exact zC.2 ⟨this.1,by unfold ln;rw[H.m12];omega⟩
def zWT {h:ac}(H:HOk h){m p:Int}(b:i0 m (ln h.aa)=true)(c:i0 p 8=true)(l:(ix (ix h.aa m mZ).ae p sZ).af≠-1):Op h (zdH h m p):=by
 have X:=H.mon b;have f:(zdH h m p).aa=up h.aa m (zjW {ix h.aa m mZ with Out:=up (ix h.aa m mZ).Out p (zcD h.ag (ix (ix h.aa m mZ).ae p sZ).af)} p C0):=zpq b rfl;have k:Chg (ix h.aa m mZ) (zjW {ix h.aa m mZ with Out:=up (ix h.aa m mZ).Out p (zcD h.ag (ix (ix h.aa m mZ).ae p sZ).af)} p C0) p C0 (zcD h.ag (ix (ix h.aa m mZ).ae p sZ).af):=zBh rfl rfl rfl rfl rfl rfl rfl rfl rfl;have a:(zdH h m p).ag=h.ag:=zwo _ _ _ _;have g:=zuh (h:=zeO h m p) (m:=m) (p:=p) (s:=C0) H.b1 H.b2;refine⟨zvE H b c f k (.inl rfl) ((zpL (.inl rfl)).2 ⟨λ_=>zOT H.pgs _,λh=>absurd rfl h⟩) (by rw[a];exact H.m12) (by rw[a];exact H.pgs) g.1 g.2 λh=>absurd h (by decide),
  zu0 H b c f k ?_ (λi q _ _ _ _=>by rw[a]),λR=>?_⟩
 {rw [znH b c<|X.hasO c,zbV.2 l];rfl};{have j:Rt (zeO h m p):=zKo (x:={ix h.aa m mZ with Out:=up (ix h.aa m mZ).Out p (zcD h.ag (ix (ix h.aa m mZ).ae p sZ).af)}) R b rfl rfl rfl rfl (λ_ _=>rfl) rfl rfl;have d:i0 m (ln (zeO h m p).aa)=true:=(by show i0 m (ln<|up h.aa m _)=true;rw[zdU];exact b);have e:ix (zeO h m p).aa m mZ={ix h.aa m mZ with Out:=up (ix h.aa m mZ).Out p (zcD h.ag (ix (ix h.aa m mZ).ae p sZ).af)}:=zbk b _ _;exact zyU j d (by rw[e];exact X.hasO c) (by rw[e];exact X.gt) C0}
def zEY {o:List k0}{q:Int}:zoa o q=none↔o.countP (λs=>ieq s.af q)=0:=by unfold zoa;rw[List.findIdx?_eq_none_iff,vF];simp
def zU4 {o:List k0}{q:Int}{k:Nat}(h:zoa o q=some k):∃a:k<o.length,o[k].af=q:=by unfold zoa at h;rw[u2]at h;obtain⟨a,b,_⟩:=h;exact⟨a,zbt.1 b⟩
def zyL {q:Int}:∀(l:List Mon) (i:Nat),((zh9 q l i).1<0↔zeK l q=0)/\(¬ (zh9 q l i).1<0->∃a b:Nat,∃f:a<l.length,∃g:b<l[a].ae.length,zh9 q l i=(((i+a:Nat):Int),(b:Int))/\l[a].ae[b].af=q)
 |[],i=>⟨by simp[zh9,zeK],λh=>absurd (show (-1:Int)<0 by decide) h⟩
 |x::l,i=>by have j:=zyL (q:=q) l (i+1);unfold zh9;split;{rename_i k c;obtain⟨m,n⟩:=zU4 c;refine⟨⟨λh=>by simp at h;omega,λh=>?_⟩,λ_=>⟨0,k,by simp,m,by simp,n⟩⟩;exfalso;simp only[zeK,jG,uQ]at h;have d:x.ae.countP (λs=>ieq s.af q)=0:=(by unfold cPg at h;omega);rw[zEY.2 d]at c;cases c};{rename_i c;have d:=zEY.1 c;refine⟨?_,λh=>?_⟩;{rw [j.1];simp only[zeK,jG,uQ];unfold cPg;omega};{obtain⟨a,b,f,g,e,p⟩:=j.2 h;exact⟨a+1,b,by simpa using f,by simpa using g,by rw[e];simp;omega,by simpa using p⟩}}
def zHd {h:ac}{q:Int}(a:0<=q):(zbK h q).1<0↔zeK h.aa q=0:=by unfold zbK;rw[show ilt q 0=false from qX (by omega),cond_false];exact(zyL h.aa 0).1
def z3X {h:ac}(H:HOk h){q:Int}(j:0<=q)(c:¬ (zbK h q).1<0):i0 (zbK h q).1 (ln h.aa)=true/\i0 (zbK h q).2 8=true/\(ix (ix h.aa (zbK h q).1 mZ).ae (zbK h q).2 sZ).af=q:=by unfold zbK at c ⊢;rw[show ilt q 0=false from qX (by omega),cond_false]at c ⊢;obtain⟨a,b,d,f,e,g⟩:=(zyL h.aa 0).2 c;rw[e,j4];have i:=(H.mons _<|jB d).o8;exact⟨zC.2 (by unfold ln;simp;omega),zC.2 (by simp;omega),by rw[zj2 d,zj2 f];exact g⟩
def zSc {P:Nat->Bool}:∀{n i:Nat} {q:Int},q∈zv0 P n i↔∃k:Nat,q=(k:Int)/\i<=k/\k<i+n/\P k=true
 | 0,i,q=>by simp[zv0];intro k _ _ _;omega
 |n+1,i,q=>by
  have d:=@zSc P n (i+1) q;unfold zv0;constructor
  .intro h;cases c:P i with
   |true=>rw[c,cond_true,qG]at h;rcases h with h|h;{exact⟨i,h,by omega,by omega,c⟩};{obtain⟨k,a,f,g,b⟩:=d.1 h;exact⟨k,a,by omega,by omega,b⟩}
   |false=>rw[c,cond_false]at h;obtain⟨k,a,f,g,b⟩:=d.1 h;exact⟨k,a,by omega,by omega,b⟩
  {rintro⟨k,a,f,g,b⟩;by_cases e:k=i;{subst e;rw[b,cond_true,a];exact q0};{have:=d.2 ⟨k,a,by omega,by omega,b⟩;cases P i;{exact this};{exact qW _ this}}}
def zGh {h:ac}{q:Int}:q∈zcg h↔i0 q (ln h.ag)=true/\zeK h.aa q=0:=by unfold zcg;rw[zSc];constructor;{rintro⟨k,rfl,b,c,d⟩;exact⟨zC.2 (by unfold ln;omega),(zHd (by omega)).1 (qD d)⟩};{rintro⟨b,c⟩;have a:=zC.1 b;unfold ln at a;refine⟨q.toNat,by omega,by omega,by omega,?_⟩;rw[show ((q.toNat:Nat):Int)=q by omega];exact qL ((zHd a.1).2 c)}
def zX9 {h:ac}(a:zcg h≠[]):i0 (ix (zcg h) 0 0) (ln h.ag)=true/\zeK h.aa (ix (zcg h) 0 0)=0:=by refine zGh.1 (zlI (zC.2 ⟨by omega,?_⟩) 0);unfold ln;have:=kM.2 a;omega
structure But (h r:ac) (m p:Int):Prop where
 ne:∀i k,i0 i (ln h.aa)=true->i0 k 8=true->¬ (i=m/\k=p)->ix (ix r.aa i mZ).ae k sZ=ix (ix h.aa i mZ).ae k sZ
def zFY {h r:ac}{m p:Int}(a:i0 m (ln h.aa)=true)(j:i0 p 8=true){x:Mon}{s:k0}(b:r.aa=up h.aa m x)(g:x.ae=up (ix h.aa m mZ).ae p s):But h r m p:=by refine⟨λi k d f c=>?_⟩;rw[b];by_cases e:m=i;{subst e;rw[zbk a,g,zbA (zC.1 j).1 (zC.1 f).1 λe=>c ⟨rfl,e.symm⟩]};{rw [zbA (zC.1 a).1 (zC.1 d).1 e]}
def z1I {h:ac}(H:HOk h){m p:Int}(a:i0 m (ln h.aa)=true)(c:i0 p 8=true):But h (zdH h m p) m p/\ix (ix (zdH h m p).aa m mZ).ae p sZ=C0:=by have b:(zdH h m p).aa=up h.aa m (zjW {ix h.aa m mZ with Out:=up (ix h.aa m mZ).Out p (zcD h.ag (ix (ix h.aa m mZ).ae p sZ).af)} p C0):=zpq a rfl;refine⟨zFY a c b rfl,?_⟩;rw[b,zbk a];exact zbk ((H.mon a).hasO c) _ _
structure Roomy (h r:ac):Prop where
 op:Op h r
 free:zcg r≠[]
 sl:∀i k,i0 i (ln h.aa)=true->i0 k 8=true->ix (ix r.aa i mZ).ae k sZ=ix (ix h.aa i mZ).ae k sZ\/ix (ix r.aa i mZ).ae k sZ=C0
 dirt:∀i,(ix r.aa i mZ).av=(ix h.aa i mZ).av
def zLt {h r:ac}{m:Int}(c:i0 m (ln h.aa)=true){x:Mon}(a:r.aa=up h.aa m x)(b:x.av=(ix h.aa m mZ).av)(i:Int):(ix r.aa i mZ).av=(ix h.aa i mZ).av:=by
 rw[a];by_cases e:i.toNat=m.toNat
 {have:∀l:List Mon,ix l i mZ=ix l m mZ:=λl=>(by unfold ix;rw[e]);rw[this,this,zbk c,b]};{unfold ix up;simp[List.getD,jE,Ne.symm e]}
def roomy {h:ac}(H:HOk h):Roomy h (zcV h):=by unfold zcV;by_cases b:zcg h=[];{rw [show ieq (ln<|zcg h) 0=true by rw[b];rfl,cond_true];have p:¬ (zbK h 0).1<0:=λd=>(by have:(0:Int)∈zcg h:=zGh.2 ⟨zC.2 (by unfold ln;rw[H.m12];omega),(zHd (by omega)).1 d⟩;rw[b] at this;cases this);obtain⟨a,c,f⟩:=z3X H (by omega) p;have k:=zWT H a c (by rw[f];decide);have j:=z1I H a c;refine⟨k,λd=>?_,λi q g r=>?_,λi=>zLt (x:=zjW {ix h.aa (zbK h 0).1 mZ with Out:=up (ix h.aa (zbK h 0).1 mZ).Out (zbK h 0).2 (zcD h.ag (ix (ix h.aa (zbK h 0).1 mZ).ae (zbK h 0).2 sZ).af)} (zbK h 0).2 C0) a (zpq a rfl) rfl i⟩;{have:(0:Int)∈zcg (zdH h (zbK h 0).1 (zbK h 0).2):=(by refine zGh.2 ⟨zC.2 (by unfold ln;rw[k.ok.m12];omega),?_⟩;have n:(zdH h (zbK h 0).1 (zbK h 0).2).aa=up h.aa (zbK h 0).1 (zjW {ix h.aa (zbK h 0).1 mZ with Out:=up (ix h.aa (zbK h 0).1 mZ).Out (zbK h 0).2 (zcD h.ag (ix (ix h.aa (zbK h 0).1 mZ).ae (zbK h 0).2 sZ).af)} (zbK h 0).2 C0):=zpq a rfl;have l:=zxO a (zjW {ix h.aa (zbK h 0).1 mZ with Out:=up (ix h.aa (zbK h 0).1 mZ).Out (zbK h 0).2 (zcD h.ag (ix (ix h.aa (zbK h 0).1 mZ).ae (zbK h 0).2 sZ).af)} (zbK h 0).2 C0) 0;rw[<- n] at l;have m:=zRl (x':=zjW {ix h.aa (zbK h 0).1 mZ with Out:=up (ix h.aa (zbK h 0).1 mZ).Out (zbK h 0).2 (zcD h.ag (ix (ix h.aa (zbK h 0).1 mZ).ae (zbK h 0).2 sZ).af)} (zbK h 0).2 C0) ((H.mon a).hasO c) (s:=C0) rfl 0;rw[if_pos f,if_neg (by decide)] at m;have t:=H.uq 0 (by omega);omega);rw[d] at this;cases this};{by_cases e:i=(zbK h 0).1/\q=(zbK h 0).2;{rw [e.1,e.2];exact .inr j.2};{exact .inl (j.1.ne i q g r e)}}};{have:ieq (ln<|zcg h) 0=false:=zbV.2 (by unfold ln;have:=kM.2 b;omega);rw[this,cond_false];exact⟨Op.refl H,b,λi k g u=>.inl rfl,λ_=>rfl⟩}
def zWd {m:List LI}{p:Int}{c:LI}(b:i0 p (ln m)=true)(a:zcw c=true):ziG m p c=up m p c:=by unfold ziG;rw[b,a];rfl
def zB7 {m:List LI}{p q:Int}{c:LI}(a:0<=p)(h:q≠p):zcD (up m p c) q=zcD m q:=by unfold zcD;rw[zdU];cases b:i0 q (ln m) with|false=>rfl|true=>rw[cond_true,cond_true,zbA a (zC.1 b).1<|Ne.symm h]
def zB6 {m:List LI}{p:Int}{c:LI}(a:i0 p (ln m)=true):zcD (up m p c) p=c:=by rw[zla (by rw[zdU];exact a),zbk a]
def zYD {h:ac}(H:HOk h){m p a:Int}(d:i0 m (ln h.aa)=true)(f:i0 p 8=true)(z:(ix (ix h.aa m mZ).ae p sZ).af = -1)(u:i0 a (ln h.ag)=true)(B:zeK h.aa a=0) :
 Op h (zfa h m p a)/\But h (zfa h m p a) m p/\ix (ix (zfa h m p a).aa m mZ).ae p sZ=⟨a,3⟩/\∀i,(ix (zfa h m p a).aa i mZ).av=(ix h.aa i mZ).av:=by
 have X:=H.mon d;have g:=zC.1 u;unfold ln at g;rw[H.m12]at g;have l:(zfa h m p a).aa=up h.aa m (zjW {ix h.aa m mZ with Out:=up (ix h.aa m mZ).Out p []} p ⟨a,3⟩):=zpq d rfl;have k:Chg (ix h.aa m mZ) (zjW {ix h.aa m mZ with Out:=up (ix h.aa m mZ).Out p []} p ⟨a,3⟩) p ⟨a,3⟩ []:=zBh rfl rfl rfl rfl rfl rfl rfl rfl rfl;have j:=((zpL<|X.slot f).1 (X.fit p f)).1 z;have b:(zfa h m p a).ag=up h.ag a (ix (ix h.aa m mZ).Out p []):=by show (zcc (landing h m p a) m p ⟨a,3⟩).ag=_;rw[zwo];exact zWd u j
 have A:SOk ⟨a,3⟩:=.inr ⟨g.1,by show a<=11;omega,by show (1:Int)<=3;omega,by show (3:Int)<=3;omega⟩
 have w:=zuh (h:=landing h m p a) (m:=m) (p:=p) (s:=⟨a,3⟩) H.b1 H.b2;refine⟨⟨zvE H d f l k A ((zpL A).2 ⟨λh=>absurd h (by show a≠-1;omega),λ_=>⟨show enough 3 1=true by decide,rfl⟩⟩) (by rw[b,zbP];exact H.m12) (λc r=>?_) w.1 w.2 λ_=>.inr B,
  zu0 H d f l k ?_ λi q y D r C=>?_,λR=>?_⟩,zFY d f l rfl,?_,λi=>zLt (x:=zjW {ix h.aa m mZ with Out:=up (ix h.aa m mZ).Out p []} p ⟨a,3⟩) d l rfl i⟩
 .rw [b]at r;rcases qZ r with n|n
  .exact H.pgs c n
  .rw [n];exact j
 .rw [znH d f<|X.hasO f,zbt.2 z,cond_true,zla<|X.hasU f];rw[show ieq (⟨a,3⟩:k0).af (-1)=false from zbV.2 (by show a≠-1;omega),cond_false,b]
  exact zB6 u
 .rw [b];refine zB7 g.1 (λe=>?_);have:=zFZ y ((H.mon y).hasO D);rw[e] at this;omega
 .have R1:Rt (landing h m p a):=zKo (x:={ix h.aa m mZ with Out:=up (ix h.aa m mZ).Out p []}) R d rfl rfl rfl rfl (λ_ _=>rfl) rfl rfl;have t:i0 m (ln (landing h m p a).aa)=true:=by show i0 m (ln<|up h.aa m _)=true;rw[zdU];exact d
  have v:ix (landing h m p a).aa m mZ={ix h.aa m mZ with Out:=up (ix h.aa m mZ).Out p []}:=zbk d _ _;exact zyU R1 t (by rw[v];exact X.hasO f) (by rw[v];exact X.gt) _
 .rw [l,zbk d];exact zbk (X.hasO f) _ _
def zKa {h:ac}(H:HOk h){m p:Int}(f:i0 m (ln h.aa)=true)(g:i0 p 8=true)(k:(ix (ix h.aa m mZ).ae p sZ).af = -1) :
 Op h (fetched h m p)/\(∃e,0<=e/\e<=11/\ix (ix (fetched h m p).aa m mZ).ae p sZ=⟨e,3⟩)/\∀i,(ix (fetched h m p).aa i mZ).av=(ix h.aa i mZ).av:=by
 have R:=roomy H;have c:i0 m (ln (zcV h).aa)=true:=by rw[R.op.like.has];exact f
 have d:(ix (ix (zcV h).aa m mZ).ae p sZ).af = -1:=by rcases R.sl m p f g with b|b<;>rw [b];{exact k};{rfl}
 obtain⟨b,j⟩:=zX9 R.free;obtain⟨l,r,n,q⟩:=zYD R.op.ok c g d b j;have a:=zC.1 b;unfold ln at a;rw[R.op.ok.m12]at a;exact⟨R.op.trans l,⟨_,a.1,by omega,n⟩,λi=>(q i).trans (R.dirt i)⟩
def znR {o:List k0}{p:Int}(h:i0 p (ln o)=true):zbv o p=ix o p sZ:=by unfold zbv;rw[h];rfl
def zlb {h:ac}(H:HOk h){m p:Int}(a:i0 m (ln h.aa)=true)(b:i0 p 8=true) :
 (cond (ieq (ix (ix h.aa m mZ).ae p sZ).af<|-1) (ix (ix h.aa m mZ).Out p [])<|zcD h.ag (ix (ix h.aa m mZ).ae p sZ).af)=zdg h m p:=by
 rw[znH a b<|(H.mon a).hasO b,zla<|(H.mon a).hasU b]
structure Mark (x y:Mon):Prop where
 o:y.ae=x.ae
 u:y.Out=x.Out
 g:y.ad=x.ad
 t:y.ai=x.ai
 d:y.av.length=x.av.length
 a1:y.Outs=x.Outs
 a2:y.an=x.an
 a3:y.ar=x.ar
 a4:y.Own=x.Own
def zWS {h:ac}(H:HOk h){m:Int}(b:i0 m (ln h.aa)=true){y:Mon}(k:Mark (ix h.aa m mZ) y):Op h {h with aa:=up h.aa m y}/\∀i q,ix (ix (up h.aa m y) i mZ).ae q sZ=ix (ix h.aa i mZ).ae q sZ:=by
 have X:=H.mon b;have a:i0 0 8=true:=(by decide);have c:Chg (ix h.aa m mZ) y 0 (ix (ix h.aa m mZ).ae 0 sZ) (ix (ix h.aa m mZ).Out 0 []):=⟨by rw[zHH<|X.hasO a,k.o],by rw[zHH<|X.hasU a,k.u],k.g,by rw[k.t],k.d,k.a1,k.a2,k.a3,k.a4⟩
 refine⟨⟨zvE H b a rfl c (X.slot a) (X.fit 0 a) H.m12 H.pgs H.b1 H.b2 λ_=>.inl rfl,zu0 H b a rfl c (zlb H b a) λ_ _ _ _ _ _=>rfl,
  λR=>zKo R b rfl rfl rfl (by rw[k.g]) (λg _=>by rw[k.g]) k.t k.o⟩,λi q=>?_⟩
 by_cases e:i.toNat=m.toNat
 {have:∀l:List Mon,ix l i mZ=ix l m mZ:=λl=>(by unfold ix;rw[e]);rw[this,this,zbk b,k.o]};{have:ix (up h.aa m y) i mZ=ix h.aa i mZ:=(by unfold ix up;simp[List.getD,jE,Ne.symm e]);rw[this]}
def zJ9 {h:ac}(H:HOk h){m:Int}(a:i0 m (ln h.aa)=true)(p:Int):Op h (zbH h m p)/\∀i q,ix (ix (zbH h m p).aa i mZ).ae q sZ=ix (ix h.aa i mZ).ae q sZ :=
 zWS H a ⟨rfl,rfl,rfl,rfl,zbP _ _ _,rfl,rfl,rfl,rfl⟩
def z1d {h:ac}(H:HOk h){m:Int}(a:i0 m (ln h.aa)=true)(p:Int):Op h (znV h m p)/\∀i q,ix (ix (znV h m p).aa i mZ).ae q sZ=ix (ix h.aa i mZ).ae q sZ :=
 zWS H a ⟨rfl,rfl,rfl,rfl,zbP _ _ _,rfl,rfl,rfl,rfl⟩
def rights {r:Int}(a:1<=r)(b:r<=3):r=1\/r=2\/r=3:=by omega
def MOk.enough1 {x:Mon}(X:MOk x){p:Int}(a:i0 p 8=true)(d:(ix x.ae p sZ).af≠-1):(ix x.ae p sZ).aj=1\/(ix x.ae p sZ).aj=3:=by have b:=(((zpL<|X.slot a).1 (X.fit p a)).2 d).1;have c:=(X.slot a).pos d;rcases rights c.2.2.1 c.2.2.2 with e|e|e;{exact .inl e};{rw [e]at b;exact absurd b (by decide)};{exact .inr e}
def zOO {h:ac}(H:HOk h){m p:Int}(c:i0 m (ln h.aa)=true)(b:i0 p 8=true)(g:(ix (ix h.aa m mZ).ae p sZ).af≠-1){r:Int}(n:r=1\/r=3) :
 Op h (zcc h m p ⟨(ix (ix h.aa m mZ).ae p sZ).af,r⟩)/\But h (zcc h m p ⟨(ix (ix h.aa m mZ).ae p sZ).af,r⟩) m p/\
  ix (ix (zcc h m p ⟨(ix (ix h.aa m mZ).ae p sZ).af,r⟩).aa m mZ).ae p sZ=⟨(ix (ix h.aa m mZ).ae p sZ).af,r⟩/\∀i,(ix (zcc h m p ⟨(ix (ix h.aa m mZ).ae p sZ).af,r⟩).aa i mZ).av=(ix h.aa i mZ).av:=by
 have X:=H.mon c;have d:=(X.slot b).pos g;have e:=zsj h m p ⟨(ix (ix h.aa m mZ).ae p sZ).af,r⟩;have k:Chg (ix h.aa m mZ) (zjW (ix h.aa m mZ) p ⟨(ix (ix h.aa m mZ).ae p sZ).af,r⟩) p ⟨(ix (ix h.aa m mZ).ae p sZ).af,r⟩ (ix (ix h.aa m mZ).Out p []):=
  zBh rfl (zHH (X.hasU b) _).symm rfl rfl rfl rfl rfl rfl rfl
 have l:SOk ⟨(ix (ix h.aa m mZ).ae p sZ).af,r⟩:=.inr ⟨d.1,d.2.1,by show 1<=r;omega,by show r<=3;omega⟩
 have f:=((zpL<|X.slot b).1 (X.fit p b)).2 g;have j:=zuh (h:=h) (m:=m) (p:=p) (s:=⟨(ix (ix h.aa m mZ).ae p sZ).af,r⟩) H.b1 H.b2;have a:=zwo h m p ⟨(ix (ix h.aa m mZ).ae p sZ).af,r⟩;refine⟨⟨zvE H c b e k l ((zpL l).2 ⟨λh=>absurd h g,λ_=>⟨?_,f.2⟩⟩) (by rw[a];exact H.m12) (by rw[a];exact H.pgs) j.1 j.2 λ_=>.inl rfl,
  zu0 H c b e k (by rw[a];exact zlb H c b) (λi q _ _ _ _=>by rw[a]),λR=>zyU R c (X.hasO b) X.gt _⟩,zFY c b e rfl,?_,λi=>zLt c e rfl i⟩
 .show enough r 1=true
  rcases n with rfl|rfl<;>decide
 .rw [e,zbk c];exact zbk (X.hasO b) _ _
structure Mended (h r:ac) (m p n:Int):Prop where
 op:Op h r
 inn:(ix (ix r.aa m mZ).ae p sZ).af≠-1
 ri:ieq (wand .i64 n 2) 0=false->(ix (ix r.aa m mZ).ae p sZ).aj=3
 dt:ieq (wand .i64 n 2) 0=false->ix (ix r.aa m mZ).av p false=true
 d0:ieq (wand .i64 n 2) 0=true->(ix r.aa m mZ).av=(ix h.aa m mZ).av
 dk:∀k,i0 k 8=true->k≠p->ix (ix r.aa m mZ).av k false=ix (ix h.aa m mZ).av k false
 dm:∀i,i0 i (ln h.aa)=true->i≠m->(ix r.aa i mZ).av=(ix h.aa i mZ).av
def zTd {h:ac}(H:HOk h){m p:Int}(n:Int)(c:i0 m (ln h.aa)=true)(g:i0 p 8=true)(v:(ix (ix h.aa m mZ).ae p sZ).af≠-1):Mended h (zh7 h m p n) m p n:=by
 unfold zh7;cases s:ieq (wand .i64 n 2) 0 with
 |true=>exact⟨Op.refl H,v,λe=>Bool.noConfusion<|s.symm.trans e,λe=>Bool.noConfusion<|s.symm.trans e,λ_=>rfl,λ_ _ _=>rfl,λ_ _ _=>rfl⟩
 |false=>rw[cond_false];obtain⟨f,C⟩:=zJ9 H c p;have d:i0 m (ln (zbH h m p).aa)=true:=(by rw[f.like.has];exact c);have a:(ix (ix (zbH h m p).aa m mZ).ae p sZ).af≠-1:=(by rw[C];exact v);have u:(ix (zbH h m p).aa m mZ).av=up (ix h.aa m mZ).av p true:=(by show (ix (up h.aa m _) m mZ).av=_;rw[zbk c]);have l:∀i,i0 i (ln h.aa)=true->i≠m->(ix (zbH h m p).aa i mZ).av=(ix h.aa i mZ).av:=λi q b=>(by show (ix (up h.aa m _) i mZ).av=_;rw[zbA (zC.1 c).1 (zC.1 q).1<|Ne.symm b]);have A:=(f.ok.mon d).enough1 g a;have t:∀r:ac,(∀i,(ix r.aa i mZ).av=(ix (zbH h m p).aa i mZ).av)->Op (zbH h m p) r->(ix (ix r.aa m mZ).ae p sZ).af≠-1->(ix (ix r.aa m mZ).ae p sZ).aj=3->Mended h r m p n:=(by intro r j x y z;refine⟨f.trans x,y,λ_=>z,λ_=>?_,λe=>Bool.noConfusion<|s.symm.trans e,λk B b=>?_,λi q b=>by rw[j,l i q b]⟩;{rw [j,u,zbk<|(H.mon c).hasD g]};{rw [j,u,zbA (zC.1 g).1 (zC.1 B).1<|Ne.symm b]});unfold opened;rcases A with e|e;{rw [e,show ieq (wand .i64 1 2) 0=true by decide,cond_true];obtain⟨D,F,w,E⟩:=zOO f.ok d g a (r:=3) (.inr rfl);exact t _ E D (by rw[w];exact a) (by rw[w])};{rw [e,show ieq (wand .i64 3 2) 0=false by decide,cond_false];exact t _ (λ_=>rfl) (Op.refl f.ok) a e}
def zON {h:ac}(H:HOk h){m p:Int}(n:Int)(c:i0 m (ln h.aa)=true)(d:i0 p 8=true):Mended h (D0 h m p n) m p n:=by unfold D0;by_cases e:(ix (ix h.aa m mZ).ae p sZ).af = -1;{rw [zbt.2 e,cond_true];obtain⟨a,⟨q,r,s,l⟩,f⟩:=zKa H c d e;have K:=zTd a.ok n (by rw[a.like.has];exact c) d (by rw[l];show q≠-1;omega);exact⟨a.trans K.op,K.inn,K.ri,K.dt,λe=>by rw[K.d0 e,f],λk j b=>by rw[K.dk k j b,f],λi g b=>by rw[K.dm i (by rw[a.like.has];exact g) b,f]⟩};{rw [zbV.2 e,cond_false];exact zTd H n c d e}
def zoj {h:ac}{m p:Int}:zcs h m p=true↔HOk h/\i0 m (ln h.aa)=true/\i0 p 8=true:=by unfold zcs;rw[zce,zce,ziS]
def zYE {h:ac}(H:HOk h)(m p:Int):Op h (zlL h m p):=by unfold zlL;cases a:zcs h m p with|false=>exact Op.refl H|true=>obtain⟨_,b,c⟩:=zoj.1 a;rw[cond_true];unfold ziJ;by_cases e:(ix (ix h.aa m mZ).ae p sZ).af = -1;{rw [zbt.2 e];exact Op.refl H};{rw [zbV.2 e];exact zWT H b c e}
def z1c {h:ac}(H:HOk h)(m p:Int):Op h (zok h m p):=by unfold zok;cases a:zcs h m p with|false=>exact Op.refl H|true=>obtain⟨_,b,c⟩:=zoj.1 a;rw[cond_true];unfold ziJ;by_cases e:(ix (ix h.aa m mZ).ae p sZ).af = -1;{rw [zbt.2 e];exact(zKa H b c e).1};{rw [zbV.2 e];exact Op.refl H}
def z1b {h:ac}(H:HOk h)(m p:Int):Op h (zoc h m p):=by unfold zoc;cases g:zcs h m p with|false=>exact Op.refl H|true=>obtain⟨_,b,c⟩:=zoj.1 g;rw[cond_true];obtain⟨a,d⟩:=z1d H b p;(cases e:zcx (ix (ix h.aa m zh).ae p zQ) C0 with|true=>exact a|false=>rw[cond_false];have i:(ix (ix h.aa m mZ).ae p sZ).af≠-1:=λf=>zrL.1 e (((H.mon b).slot c).none f);have:=zOO a.ok (m:=m) (p:=p) (by rw[a.like.has];exact b) c (by rw[d];exact i) (r:=1) (.inl rfl);rw[d m p] at this;exact a.trans this.1)
structure KeepP (x y:Mon):Prop where
 o:y.ae=x.ae
 u:y.Out=x.Out
def zKg {h r:ac}{m:Int}(b:i0 m (ln h.aa)=true){y:Mon}(c:r.aa=up h.aa m y)(a:r.ag=h.ag)(k:KeepP (ix h.aa m mZ) y)(i q:Int):zdg r i q=zdg h i q:=by unfold zdg;rw[c,zdU,a];cases d:i0 i (ln h.aa) with|false=>rfl|true=>by_cases e:m=i;{subst e;rw[zbk b,k.o,k.u]};{rw [zbA (zC.1 b).1 (zC.1 d).1 e]}
def zue {h r:ac}{m:Int}(b:i0 m (ln h.aa)=true){y:Mon}(c:r.aa=up h.aa m y)(a:r.ag=h.ag)(k:KeepP (ix h.aa m mZ) y)(i:Int) :
 zL r i=bif ieq i m then ⟨(zL h i).ag,y.ad,y.Outs,y.an⟩ else zL h i:=by
 have f:zcR r i 8 0=zcR h i 8 0:=zqG 8 0 (λj _ _=>zKg b c a k i j);unfold zL;rw[f,c,zdU]
 by_cases e:i=m
 .subst e;rw[b,zbt.2 rfl,zbk b];rfl
 .rw [zbV.2 e,cond_false];cases d:i0 i (ln h.aa) with
  |false=>rfl
  |true=>rw[zbA (zC.1 b).1 (zC.1 d).1<|Ne.symm e]
def zk1 {x y:Mon}(X:MOk x)(k:KeepP x y)(g:y.ad.length=x.ad.length)(t:y.ai.length=x.ai.length)(d:y.av.length=x.av.length)(o:y.Outs.length<=40)(p:zdI y.an=true)(tr:zk y.ar 0 3=true)(b:zk y.Own 0 1000000000=true)(a:∀g∈y.ad,zdX g=true):MOk y :=
 ⟨by rw[g];exact X.g1,by rw[g];exact X.g2,by rw[t,g];exact X.gt,by rw[k.o];exact X.o8,by rw[k.o];exact X.sl,by rw[k.u];exact X.u8,by rw[d];exact X.d8,o,p,tr,b,a,by rw[k.o,k.u];exact X.fit⟩
def zR3 {h:ac}(H:HOk h){m:Int}(a:i0 m (ln h.aa)=true){y:Mon}(k:KeepP (ix h.aa m mZ) y)(b:MOk y):HOk {h with aa:=up h.aa m y} :=
 H.up a b rfl H.m12 H.pgs H.b1 H.b2 λq _=>.inl (by unfold cPg;rw[k.o];exact qS _)
def zvA {h:ac}(S:Safe h){m:Int}(a:i0 m (ln h.aa)=true){y:Mon}(k:KeepP (ix h.aa m mZ) y)(d:MOk y)(hg:y.ad.length=(ix h.aa m mZ).ad.length)(c:∀g,i0 g (ln (ix h.aa m mZ).ad)=true->(ix y.ad g gZ).ay=(ix (ix h.aa m mZ).ad g gZ).ay)(b:y.ai=(ix h.aa m mZ).ai):Safe {h with aa:=up h.aa m y} :=
 ⟨zR3 S.ok a k d,zKo S.rt a rfl rfl rfl hg c b k.o⟩
def zQu {h:ac}(S:Safe h)(m t:Int):Safe (zhH h m t)/\∀i,zL (zhH h m t) i=zL h i:=by
 unfold zhH;rw[ziS.2 S.ok,cond_true];cases a:i0 m (ln h.aa) with
 |false=>exact⟨S,λ_=>rfl⟩
 |true=>
  cases b:zk t 0 3 with
  |false=>exact⟨S,λ_=>rfl⟩
  |true=>have X:=S.ok.mon a;have k:KeepP (ix h.aa m mZ) {ix h.aa m mZ with ar:=t}:=⟨rfl,rfl⟩;refine⟨zvA S a k (zk1 X k rfl rfl rfl X.outs X.pend b X.own X.gs) rfl (λ_ _=>rfl) rfl,λi=>?_⟩;rw[cond_true,cond_true];refine(zue (h:=h) (r:={h with aa:=up h.aa m {ix h.aa m mZ with ar:=t}}) a rfl rfl k i).trans ?_;by_cases e:i=m;{subst e;rw[zbt.2 rfl,cond_true];unfold zL;rw[a];rfl};{rw [zbV.2 e];rfl}
def zE1:∀(n i:Nat) (k:ax),(ziR n i k).aw.length=k.aw.length/\(ziR n i k).au.length=k.au.length
 | 0,i,k=>⟨rfl,rfl⟩
 |n+1,i,k=>by have a:=zE1 n (i+1) (zbW k (i:Int));have b:=zk0 k (i:Int);exact⟨a.1.trans b.1,a.2.trans b.2⟩
def zIQ:∀(n i:Nat) (k:ax),k.aw.length=k.au.length->∀j,i0 j (ln k.aw)=true->
 ((i:Int)<=j/\j<((i+n:Nat):Int)->ix (ziR n i k).aw j false=false/\ix (ziR n i k).au j sZ=C0)/\
 (¬ ((i:Int)<=j/\j<((i+n:Nat):Int))->ix (ziR n i k).aw j false=ix k.aw j false/\ix (ziR n i k).au j sZ=ix k.au j sZ)
 | 0,i,k,_,j,_=>⟨λh=>by omega,λ_=>⟨rfl,rfl⟩⟩
 |n+1,i,k,g,j,f=>by have b:=zk0 k (i:Int);have d:=zvX (q:=(i:Int)) g f;have c:=zIQ n (i+1) (zbW k (i:Int)) (by rw[b.1,b.2,g]) j (by unfold ln at f ⊢;rwa [b.1]);rw[ziR];by_cases a:((i+1:Nat):Int)<=j/\j<((i+1+n:Nat):Int);{exact⟨λ_=>c.1 a,λh=>absurd (by omega) h⟩};{rw [(c.2 a).1,(c.2 a).2,d.1,d.2];by_cases e:(i:Int)=j;{rw [zbt.2 e];exact⟨λ_=>⟨rfl,rfl⟩,λh=>absurd (by omega) h⟩};{rw [zbV.2 e];exact⟨λh=>absurd (by omega) a,λ_=>⟨rfl,rfl⟩⟩}}
def zPJ {k:ax}{a b:List k0}(h:KOk k a b):KOk (zjw k) a b:=by have e:=zE1 k.aw.length 0 k;refine⟨e.1.trans h.l1,e.2.trans h.l2,λi f=>?_⟩;have c:i0 i (ln k.aw)=true:=(by unfold ln at f ⊢;rwa [h.l1]);have d:=zC.1 c;unfold ln at d;have:=(zIQ k.aw.length 0 k (by rw[h.l1,h.l2]) i c).1 ⟨by omega,by omega⟩;unfold zjw;rw[this.1,this.2];rfl
def zIE:∀(n j:Nat) (l:List ax),(zuD n j l).length=l.length
 | 0,_,_=>rfl
 |n+1,j,l=>by rw[zuD,zIE n,zbP]
def zRp:∀(n j:Nat) (l:List ax),j+n<=l.length->∀g,0<=g->ix (zuD n j l) g kZ=if (j:Int)<=g/\g<((j+n:Nat):Int) then zjw (ix l g kZ) else ix l g kZ
 | 0,j,l,_,g,hg=>by rw[if_neg (by omega)];rfl
 |n+1,j,l,a,g,hg=>by rw[zuD,zRp n (j+1) _ (by rw[zbP];omega) g hg];by_cases e:(j:Int)=g;{subst e;rw[if_neg (by omega),if_pos (by omega),zbk<|zC.2 ⟨by omega,by unfold ln;omega⟩]};{rw [zbA (by omega) hg e];by_cases h:((j+1:Nat):Int)<=g/\g<((j+1+n:Nat):Int);{rw [if_pos h,if_pos (by omega)]};{rw [if_neg h,if_neg (by omega)]}}
def zID:∀(n i:Nat) (l:List Mon),(zn4 n i l).length=l.length
 | 0,_,_=>rfl
 |n+1,i,l=>by rw[zn4,zID n,zbP]
def zOk:∀(n i:Nat) (l:List Mon),i+n<=l.length->∀m,0<=m->ix (zn4 n i l) m mZ=if (i:Int)<=m/\m<((i+n:Nat):Int) then zuE (ix l m mZ) (ix l m mZ).ai.length 0 else ix l m mZ
 | 0,i,l,_,m,a=>by rw[if_neg (by omega)];rfl
 |n+1,i,l,b,m,a=>by rw[zn4,zOk n (i+1) _ (by rw[zbP];omega) m a];by_cases e:(i:Int)=m;{subst e;rw[if_neg (by omega),if_pos (by omega),zbk<|zC.2 ⟨by omega,by unfold ln;omega⟩]};{rw [zbA (by omega) a e];by_cases h:((i+1:Nat):Int)<=m/\m<((i+1+n:Nat):Int);{rw [if_pos h,if_pos (by omega)]};{rw [if_neg h,if_neg (by omega)]}}
def z2F (h:ac){m:Int}(a:i0 m (ln h.aa)=true):ix (cold h).aa m mZ=zuE (ix h.aa m mZ) (ix h.aa m mZ).ai.length 0:=by have:=zC.1 a;unfold ln at this;show ix (zn4 h.aa.length 0 h.aa) m mZ=_;rw[zOk _ _ _ (by omega) m this.1,if_pos (by omega)]
def zwK (h:ac):(cold h).aa.length=h.aa.length:=zID _ _ _
def zF1 (h:ac)(m:Int):i0 m (ln (cold h).aa)=i0 m (ln h.aa):=by unfold ln;rw[zwK]
def z7e {l a:List Mon}(d:a.length=l.length)(h:∀m,i0 m (ln l)=true->(ix a m mZ).ae=(ix l m mZ).ae)(q:Int):zeK a q=zeK l q:=by have:a.map (λx=>cPg x q)=l.map (λx=>cPg x q):=(by refine List.ext_getElem (by simp[d]) λk b c=>?_;simp only[uR]at b c;have:=h (k:Int) (zC.2 ⟨by omega,by unfold ln;omega⟩);rw[zj2 b,zj2 c] at this;simp[cPg,this]);unfold zeK;rw[this]
def z8q {h:ac}(H:HOk h):Op h (cold h):=by have c:∀m,i0 m (ln h.aa)=true->ix (cold h).aa m mZ=zuE (ix h.aa m mZ) (ix h.aa m mZ).ai.length 0:=λm a=>z2F h a;have n:∀i q,zdg (cold h) i q=zdg h i q:=(by intro i q;unfold zdg;rw[zF1];cases b:i0 i (ln h.aa) with|false=>rfl|true=>rw[c i b];rfl);refine⟨⟨H.m12,H.pgs,by rw[zwK];exact H.n1,by rw[zwK];exact H.n3,rfl,rfl,λy s=>?_,λq r=>?_⟩,⟨zwK h,λi b=>by rw[c i b];rfl,λi b=>by rw[c i b];rfl,λi b=>by rw[c i b];rfl,λi b=>by rw[c i b];rfl,λi b=>by rw[c i b];rfl,λi k _ _=>n i k⟩,λR=>⟨λm a=>?_,λe j=>(by cases j),λe j=>(by cases j)⟩⟩;{obtain⟨m,a,rfl⟩:=zrA s mZ;rw[zF1]at a;rw[c m a];have X:=H.mon a;have k:KeepP (ix h.aa m mZ) (zuE (ix h.aa m mZ) (ix h.aa m mZ).ai.length 0):=⟨rfl,rfl⟩;exact zk1 X k rfl (zIE _ _ _) rfl X.outs X.pend X.tr X.own X.gs};{rw [z7e (l:=h.aa) (zwK h) (λm a=>by rw[c m a];rfl)];exact H.uq q r};{rw [zF1]at a;rw[c m a];have X:=H.mon a;intro g hg;show KOk (ix (zuD (ix h.aa m mZ).ai.length 0 (ix h.aa m mZ).ai) g kZ) (ix (ix h.aa m mZ).ad g gZ).ay (ix h.aa m mZ).ae;have d:i0 g (ln (ix h.aa m mZ).ad)=true:=hg;have f:=zC.1 d;unfold ln at f;have p:=X.gt;rw[zRp _ _ _ (by omega) g f.1,if_pos (by omega)];exact zPJ (R.t m a g d)}
def zUe {m g:Int}(c:zk m 0 2=true)(hg:zk g 0 1=true):zb2 (ze2 m g)=m/\zc9 (ze2 m g)=g/\1<=ze2 m g/\ze2 m g<=6:=by have d:=zcU.1 c;have e:=zcU.1 hg;have a:m=0\/m=1\/m=2:=(by omega);have b:g=0\/g=1:=(by omega);rcases a with rfl|rfl|rfl<;>rcases b with rfl|rfl<;>decide
def HOk.tag {h:ac}(H:HOk h){m g:Int}(a:i0 m (ln h.aa)=true)(hg:i0 g (ln (ix h.aa m mZ).ad)=true):zk m 0 2=true/\zk g 0 1=true:=by have b:=zC.1 a;have c:=zC.1 hg;have d:=H.n3;have e:=(H.mon a).g2;unfold ln at b c;exact⟨zcU.2 (by omega),zcU.2 (by omega)⟩
def zgB {r:Int}:zdE r=true↔r=0\/r=1\/r=2\/r=3:=by unfold zdE ige ile;rw[qE,jA,jA];omega
def zri {a b:Int}(h:enough a b=true):zdE a=true/\zdE b=true:=by unfold enough at h;rw[zce,zce]at h;exact⟨h.1,h.2.1⟩
def zRM {a b c:Int}(d:enough a b=true)(e:enough b c=true):enough a c=true:=by have f:=zgB.1 (zri d).1;have g:=zgB.1 (zri d).2;have h:=zgB.1 (zri e).2;rcases f with rfl|rfl|rfl|rfl<;>rcases g with rfl|rfl|rfl|rfl<;>rcases h with rfl|rfl|rfl|rfl<;>revert d e<;>decide
def zUU {a b n:Int}(g:n=1\/n=2)(c:enough a n=true)(d:enough b n=true):zd0 a b≠0/\enough (zd0 a b) n=true:=by have e:=zgB.1 (zri c).1;have f:=zgB.1 (zri d).1;rcases g with rfl|rfl<;>rcases e with rfl|rfl|rfl|rfl<;>rcases f with rfl|rfl|rfl|rfl<;>revert c d<;>decide
def both_ok (a b:Int):zdE (zd0 a b)=true:=by
 unfold zd0;cases c:zdE a with
 |false=>rfl
 |true=>
  cases d:zdE b with
  |false=>rfl
  |true=>have c:=zgB.1 c;have d:=zgB.1 d;rcases c with rfl|rfl|rfl|rfl<;>rcases d with rfl|rfl|rfl|rfl<;>decide
def zU2 {a:Int}(h:zdE a=true):enough a a=true:=by rcases zgB.1 h with rfl|rfl|rfl|rfl<;>decide
def zqz {n:Int}(a:n=1\/n=2):enough 0 n=false:=by rcases a with rfl|rfl<;>decide
def zXF {s:k0}{o:List k0}(a:s.af≠-1)(b:(zbv o s.af).af≠-1):zbj s o=bif ieq (zd0 s.aj (zbv o s.af).aj) 0 then C0 else ⟨(zbv o s.af).af,zd0 s.aj (zbv o s.af).aj⟩:=by unfold zbj;rw[zbV.2 a,zbV.2 b];rfl
def zpH {s:k0}{o:List k0}{n:Int}(c:n=1\/n=2)(h:enough (zbj s o).aj n=true):s.af≠-1/\(zbv o s.af).af≠-1/\(zbj s o).af=(zbv o s.af).af:=by unfold zbj at h ⊢;by_cases a:s.af = -1;{rw [zbt.2 a,cond_true]at h;rw[show C0.aj=0 from rfl,zqz c]at h;cases h};{rw [zbV.2 a,cond_false]at h ⊢;by_cases b:(zbv o s.af).af = -1;{rw [zbt.2 b,cond_true]at h;rw[show C0.aj=0 from rfl,zqz c]at h;cases h};{rw [zbV.2 b,cond_false]at h ⊢;by_cases d:zd0 s.aj (zbv o s.af).aj=0;{rw [zbt.2 d,cond_true]at h;rw[show C0.aj=0 from rfl,zqz c]at h;cases h};{rw [zbV.2 d];exact⟨a,b,rfl⟩}}}
def zRr {s:k0}{o:List k0}{n:Int}(e:n=1\/n=2)(a:s.af≠-1)(b:(zbv o s.af).af≠-1)(c:enough s.aj n=true)(d:enough (zbv o s.af).aj n=true) :
 (zbj s o).af=(zbv o s.af).af/\enough (zbj s o).aj n=true:=by
 have:=zUU e c d;rw[zXF a b,zbV.2 this.1];exact⟨rfl,this.2⟩
def zXG (s:k0)(o:List k0):zdE (zbj s o).aj=true:=by unfold zbj;cases ieq s.af (-1)<;>cases ieq (zbv o s.af).af (-1)<;>cases ieq (zd0 s.aj (zbv o s.af).aj) 0<;>first|rfl|exact both_ok _ _
def zyo {b:List aq}{t p:Int}{e:aq}:e∈zcA b t p↔e∈b/\¬ (e.Tag=t/\e.af=p):=by unfold zcA;rw[uD];refine and_congr Iff.rfl ?_;unfold zB4;by_cases h:e.Tag=t;{rw [show ine e.Tag t=false by simp[ine,h],cond_false,zpQ];simp[h]};{rw [zpQ.2 h];simp[h]}
def z4f {b:List aq}{e x:aq}(h:x∈zni b e):x∈b\/x=e:=by unfold zni ap at h;have:x∈zcA b e.Tag e.af++[e]:=(by cases a:igt (ln<|zcA b e.Tag e.af++[e]) 6 with|true=>rw[a,cond_true]at h;exact kG h|false=>rw[a,cond_false]at h;exact h);rcases jH.1 this with h|h;{exact .inl (zyo.1 h).1};{exact .inr (qF.1 h)}
def zbaD {n:Nat}(h:n<=100):wsub .i64 (n:Int) 6=(n:Int)-6:=by unfold wsub IntKind.wrap;simp[IntKind.signed,IntKind.bits];omega
def zWo {b:List aq}(h:zfw b=true)(e:aq):zfw (zni b e)=true:=by have c:=zCV.1 h;have k:(zcA b e.Tag e.af).length<=6:=qU (uK _ _) c.2;have d:(zcA b e.Tag e.af++[e]).Pairwise (λy x=>sameKey x y=false):=(by rw[List.pairwise_append];refine⟨c.1.sublist List.filter_sublist,List.pairwise_singleton _ _,λx i y j=>?_⟩;rw[qF.1 j];have:=(zyo.1 i).2;unfold sameKey;by_cases a:e.Tag=x.Tag;{rw [zbt.2 a,cond_true,zbV];exact λf=>this ⟨a.symm,f.symm⟩};{rw [zbV.2 a];rfl});unfold zni ap;cases g:igt (ln<|zcA b e.Tag e.af++[e]) 6 with|true=>rw[cond_true,zCV];refine⟨d.sublist<|List.drop_sublist _ _,?_⟩;unfold dp ln;rw[jL,uJ,zbaD (by omega),vQ,jL,uJ];omega|false=>rw[cond_false,zCV];refine⟨d,?_⟩;have:=jT g;unfold ln at this;omega
def z0U {h r:ac}{m:Int}(c:i0 m (ln h.aa)=true){y:Mon}(b:r.aa=up h.aa m y)(a:r.ag=h.ag)(k:KeepP (ix h.aa m mZ) y)(g:y.ad=(ix h.aa m mZ).ad)(o:y.Outs=(ix h.aa m mZ).Outs)(p:y.an=(ix h.aa m mZ).an)(t:y.ar=(ix h.aa m mZ).ar)(w:y.Own=(ix h.aa m mZ).Own):Like h r:=by have e:∀{d:Type} (F:Mon->d),F y=F (ix h.aa m mZ)->∀i,i0 i (ln h.aa)=true->F (ix r.aa i mZ)=F (ix h.aa i mZ):=(by intro d F f i j;rw[b];by_cases e:m=i;{subst e;rw[zbk c];exact f};{rw [zbA (zC.1 c).1 (zC.1 j).1 e]});exact⟨by rw[b,zbP],e Mon.ad g,e Mon.Outs o,e Mon.an p,e Mon.ar t,e Mon.Own w,λi q _ _=>zKg c b a k i q⟩
def z4j {h:ac}(R:Rt h){m g:Int}(d:i0 m (ln h.aa)=true)(r:i0 g (ln (ix h.aa m mZ).ai)=true){k:ax}(u:KOk k (ix (ix h.aa m mZ).ad g gZ).ay (ix h.aa m mZ).ae) :
 Rt {h with aa:=up h.aa m {ix h.aa m mZ with ai:=up (ix h.aa m mZ).ai g k}}:=by
 have f:∀e,zb3 h e=true->zb3 {h with aa:=up h.aa m {ix h.aa m mZ with ai:=up (ix h.aa m mZ).ai g k}} e=true:=by intro e b;obtain⟨l,n,p⟩:=zfb.1 b;rw[zfb];show i0 (zb2 e.Tag) (ln<|up h.aa m _)=true/\i0 (zc9 e.Tag) (ln (ix (up h.aa m _) (zb2 e.Tag) mZ).ad)=true/\below' _ (zbj (zbv (ix (ix (up h.aa m _) (zb2 e.Tag) mZ).ad (zc9 e.Tag) gZ).ay e.af) (ix (up h.aa m _) (zb2 e.Tag) mZ).ae)=true;rw[zdU];refine⟨l,?_⟩;by_cases a:m=zb2 e.Tag;{rw [<- a]at l n p ⊢;rw[zbk d];exact⟨n,p⟩};{rw [zbA (zC.1 d).1 (zC.1 l).1 a];exact⟨n,p⟩}
 refine⟨λi s=>?_,λe b=>f e (R.e1 e b),λe b=>f e (R.e2 e b)⟩
 show TOk (ix (up h.aa m _) i mZ)
 have c:i0 i (ln h.aa)=true:=by have:i0 i (ln<|up h.aa m {ix h.aa m mZ with ai:=up (ix h.aa m mZ).ai g k})=true:=s;rwa [zdU] at this
 by_cases a:m=i
 .subst a;rw[zbk d];intro j q
  by_cases e:g=j
  .subst e
   show KOk (ix (up _ g k) g kZ) _ _
   rw[zbk r];exact u
  .show KOk (ix (up _ g k) j kZ) _ _
   rw[zbA (zC.1 r).1 (zC.1 q).1 e];exact R.t m d j q
 .rw [zbA (zC.1 d).1 (zC.1 c).1 a];exact R.t i c
def z3T {h:ac}(H:HOk h){m g:Int}(a:i0 m (ln h.aa)=true)(c:i0 g (ln (ix h.aa m mZ).ai)=true){k:ax}(b:Rt h->KOk k (ix (ix h.aa m mZ).ad g gZ).ay (ix h.aa m mZ).ae) :
 Op h {h with aa:=up h.aa m {ix h.aa m mZ with ai:=up (ix h.aa m mZ).ai g k}}:=by
 have X:=H.mon a;have kp:KeepP (ix h.aa m mZ) {ix h.aa m mZ with ai:=up (ix h.aa m mZ).ai g k}:=⟨rfl,rfl⟩;exact⟨zR3 H a kp (zk1 X kp rfl (zbP _ _ _) rfl X.outs X.pend X.tr X.own X.gs),z0U (y:={ix h.aa m mZ with ai:=up (ix h.aa m mZ).ai g k}) a rfl rfl kp rfl rfl rfl rfl rfl,λR=>z4j R a c (b R)⟩
def zJM {k:ax}{a b:List k0}(h:KOk k a b)(p:Int):KOk (filled k a b p) a b:=by unfold filled zds;cases d:i0 p (ln k.aw) with|false=>exact h|true=>have f:i0 p (ln k.au)=true:=(by unfold ln at d ⊢;rw[h.l2,<- h.l1];exact d);have g:i0 p (ln a)=true:=(by unfold ln at d ⊢;rw[<- h.l1];exact d);rw[cond_true,f,cond_true,g,cond_true];refine⟨by rw[zbP];exact h.l1,by rw[zbP];exact h.l2,λi c=>?_⟩;by_cases e:p=i;{subst e;show ix (up _ p _) p sZ=bif ix (up _ p true) p false then _ else _;rw[zbk f,zbk d];rfl};{show ix (up _ p _) i sZ=bif ix (up _ p true) i false then _ else _;rw[zbA (zC.1 f).1 (zC.1 c).1 e,zbA (zC.1 f).1 (zC.1 c).1 e];exact h.at' i c}
def z8r {h:ac}(H:HOk h){m g:Int}(b:i0 m (ln h.aa)=true)(hg:i0 g (ln (ix h.aa m mZ).ad)=true)(a:Int):Op h (zdQ h m g a):=
 z3T H b (by unfold ln;rw[(H.mon b).gt];exact hg) λR=>zJM (R.t m b g hg) a
def zZF {k:ax}{a b:List k0}(h:KOk k a b){p:Int}(c:i0 p (ln a)=true):zeo k p=bif ix k.aw p false then zbj (ix a p sZ) b else C0:=by have d:i0 p (ln k.aw)=true:=(by unfold ln at c ⊢;rw[h.l1];exact c);have e:i0 p (ln k.au)=true:=(by unfold ln at c ⊢;rw[h.l2];exact c);unfold zeo zgy zds;rw[d,e,cond_true,cond_true,h.at' p c];cases ix k.aw p false<;>rfl
def zXw {k:ax}{a b:List k0}(h:KOk k a b){p:Int}(c:i0 p (ln a)=true):zeo (filled k a b p) p=zbj (ix a p sZ) b:=by rw[zZF (zJM h p) c];have d:i0 p (ln k.aw)=true:=(by unfold ln at c ⊢;rw[h.l1];exact c);have e:i0 p (ln k.au)=true:=(by unfold ln at c ⊢;rw[h.l2];exact c);have:ix (filled k a b p).aw p false=true:=(by unfold filled zds;rw[d,e,c];exact zbk d _ _);rw[this];rfl
def z9O {h:ac}(H:HOk h){m g a:Int}(i:Bool)(n:Rt h->zb3 h (zC1 h m g a)=true):Op h (zqI h m g a i):=by have f:∀(j k:List aq),Like h ⟨h.ag,h.aa,j,k⟩:=λ_ _=>⟨rfl,λ_ _=>rfl,λ_ _=>rfl,λ_ _=>rfl,λ_ _=>rfl,λ_ _=>rfl,λ_ _ _ _=>rfl⟩;have d:∀(b:List aq),(∀e∈b,zb3 h e=true)->Rt h->∀e∈zni b (zC1 h m g a),zb3 h e=true:=(by intro b l R e c;rcases z4f c with c|c;{exact l e c};{rw [c];exact n R});unfold zqI;cases i;{exact⟨⟨H.m12,H.pgs,H.n1,H.n3,zWo H.b1 _,H.b2,H.mons,H.uq⟩,f _ _,λR=>⟨R.t,λe c=>d _ R.e1 R e c,R.e2⟩⟩};{exact⟨⟨H.m12,H.pgs,H.n1,H.n3,H.b1,zWo H.b2 _,H.mons,H.uq⟩,f _ _,λR=>⟨R.t,R.e1,λe c=>d _ R.e2 R e c⟩⟩}
def z3s {b:List aq}{t p:Int}{e:aq}(h:zC5 b t p=some e):e∈b/\e.Tag=t/\e.af=p:=by unfold zC5 at h;have a:=List.find?_some h;rw[zce,zbt,zbt]at a;exact⟨uS h,a⟩
def zj1 {h:ac}{m g:Int}:zbX h m g=true↔HOk h/\i0 m (ln h.aa)=true/\i0 g (ln (ix h.aa m mZ).ad)=true:=by unfold zbX;rw[zce,zce,ziS]
structure GOk (x:ah):Prop where
 prog:zdo x.az=true
 a:zk x.A 0 99=true
 pc:zk x.Pc 0 12=true
 w:zcT x.aA 4 8=true
 l:zcT x.ay 4 8=true
 ctl:zlB x.Ctl=true
 pend:zdI x.an=true
 ex:zhZ x.Exit=true
 seen:ile (ln x.aC) 40=true
def zsW {x:ah}:zdX x=true↔GOk x:=by unfold zdX;simp only[qE];exact⟨λ⟨a,b,c,d,e,f,g,h,i⟩=>⟨a,b,c,d,e,f,g,h,i⟩,λ⟨a,b,c,d,e,f,g,h,i⟩=>⟨a,b,c,d,e,f,g,h,i⟩⟩
def z1N {s:k0}:zdO s 8=true↔s=C0\/(0<=s.af/\s.af<=7/\1<=s.aj/\s.aj<=3):=by unfold zdO;rw[ztj,zjV,zrL];have:wsub .i64 8 1=7:=(by decide);simp only[this,ztj,zcU];simp[igt];constructor;{rintro (h|⟨h,⟨a,b⟩,c⟩);{exact .inl h};{exact .inr ⟨a,b,c⟩}};{intro h;by_cases d:s=C0;{exact .inl d};{rcases h with h|⟨a,b,c⟩;{exact .inl h};{exact .inr ⟨d,⟨a,b⟩,c⟩}}}
def HOk.guest {h:ac}(H:HOk h){m g:Int}(a:i0 m (ln h.aa)=true)(hg:i0 g (ln (ix h.aa m mZ).ad)=true):GOk (ix (ix h.aa m mZ).ad g gZ):=zsW.1 ((H.mon a).gs _ (zlI hg _))
structure Walked (l:List k0) (p n q:Int):Prop where
 hp:i0 p (ln l)=true
 pg:(ix l p sZ).af=q
 q8:i0 q 8=true
 en:enough (ix l p sZ).aj n=true
def walked {x:ah}(X:GOk x){p n:Int}(a:zfN x.ay p n=true):Walked x.ay p n (zcO x.ay p n):=by have e:zcO x.ay p n=(zbv x.ay p).af:=(by unfold zcO;rw[a];rfl);unfold zfN at a;by_cases b:(zbv x.ay p).af = -1;{rw [zbt.2 b]at a;cases a};{rw [zbV.2 b,cond_false,zce]at a;have c:i0 p (ln x.ay)=true:=(by cases c:i0 p (ln x.ay) with|true=>rfl|false=>exact absurd (by unfold zbv;rw[c];rfl) b);rw[znR c] at e b a;rw[e];have d:=z1N.1 ((zmN.1 X.l).1 _ (zlI c sZ));refine⟨c,rfl,?_,a.1⟩;rcases d with d|d;{rw [d]at b;exact absurd rfl b};{exact zC.2 (by omega)}}
structure Looked (h r:ac) (m g page need q host:Int):Prop where
 op:Op h r
 inn:(ix (ix r.aa m mZ).ae q sZ).af=host
 ne:host≠-1
 en:enough (zbj (ix (ix (ix h.aa m mZ).ad g gZ).ay page sZ) (ix r.aa m mZ).ae).aj need=true
 cp:(zbj (ix (ix (ix h.aa m mZ).ad g gZ).ay page sZ) (ix r.aa m mZ).ae).af=host
 dk:∀k,i0 k 8=true->k≠q->ix (ix r.aa m mZ).av k false=ix (ix h.aa m mZ).av k false
 dq:need=2->ix (ix r.aa m mZ).av q false=true
 d1:need=1->(ix r.aa m mZ).av=(ix h.aa m mZ).av
 dm:∀i,i0 i (ln h.aa)=true->i≠m->(ix r.aa i mZ).av=(ix h.aa i mZ).av
def zOF {h:ac}(S:Safe h){m g a b q:Int}(f:i0 m (ln h.aa)=true)(hg:i0 g (ln (ix h.aa m mZ).ad)=true)(l:b=1\/b=2)(W:Walked (ix (ix h.aa m mZ).ad g gZ).ay a b q)(c:Bool)(d:zeo (zcC h m g) a=zbj (ix (ix (ix h.aa m mZ).ad g gZ).ay a sZ) (ix h.aa m mZ).ae)(i:enough (zeo (zcC h m g) a).aj b=true) :
 Op h (zh4 h m g a c).1/\(zh4 h m g a c).2=((ix (ix h.aa m mZ).ae q sZ).af,true)/\(ix (ix h.aa m mZ).ae q sZ).af≠-1/\(zh4 h m g a c).1.aa=h.aa:=by
 rw[d]at i;have e:=zpH l i;rw[W.pg,znR<|(S.ok.mon f).hasO W.q8]at e;refine⟨z9O S.ok c λR=>?_,?_,e.2.1,?_⟩
 .obtain⟨t1,t2⟩:=S.ok.tag f hg;obtain⟨j,k,_⟩:=zUe t1 t2;rw[zfb]
  show i0 (zb2<|ze2 m g) _=true/\i0 (zc9<|ze2 m g) (ln (ix h.aa (zb2<|ze2 m g) mZ).ad)=true/\below' ⟨(zeo (zcC h m g) a).af,(zeo (zcC h m g) a).aj⟩ (zbj (zbv (ix (ix h.aa (zb2<|ze2 m g) mZ).ad (zc9<|ze2 m g) gZ).ay a) (ix h.aa (zb2<|ze2 m g) mZ).ae)=true
  rw[j,k,znR W.hp,d];exact⟨f,hg,znC.2<|.inr ⟨rfl,zU2<|zXG _ _⟩⟩
 .show ((zeo (zcC h m g) a).af,true)=_
  rw[d,e.2.2]
 .show (zqI h m g a c).aa=_
  unfold zqI;cases c<;>rfl
def zS1 {h:ac}(S:Safe h){m g page need q:Int}(x:i0 m (ln h.aa)=true)(hg:i0 g (ln (ix h.aa m mZ).ad)=true)(D:need=1\/need=2)(W:Walked (ix (ix h.aa m mZ).ad g gZ).ay page need q)(N:Bool){b:List aq}(hb:∀e∈b,zb3 h e=true)(hd:need=2->ix (ix h.aa m mZ).av q false=true) :
 Looked h (zgL h b m g page need q N).1 m g page need q (zgL h b m g page need q N).2.1/\(zgL h b m g page need q N).2.2=true:=by
 have X:=S.ok.mon x;have r:=W.q8;have L:=znR (X.hasO W.q8);unfold zgL;cases K:zhj b m g page need with
 |true=>
  rw[cond_true];unfold zhj at K;cases B:zrl b m g page with
  |none=>rw[B]at K;cases K
  |some e=>rw[B]at K;have A:enough e.aj need=true:=K;obtain⟨f1,f2,f3⟩:=z3s B;obtain⟨t1,t2⟩:=S.ok.tag x hg;obtain⟨b1,b2,_⟩:=zUe t1 t2;obtain⟨_,_,v⟩:=zfb.1 (hb e f1);rw[f2,b1,b2,f3,znR W.hp]at v;have T:(⟨e.ac,e.aj⟩:k0)≠C0:=λf=>(by have:e.aj=0:=congrArg k0.aj f;rw[this,zqz D]at A;cases A);rcases znC.1 v with v|⟨v,h4⟩;{exact absurd v T};{have h5:=zRM h4 A;have f:=zpH D h5;rw[W.pg,L]at f;have O:e.ac=_:=v;refine⟨⟨Op.refl S.ok,f.2.2.symm.trans v.symm,?_,h5,v.symm,λ_ _ _=>rfl,hd,λ_=>rfl,λ_ _ _=>rfl⟩,rfl⟩;show e.ac≠-1;rw[O,f.2.2];exact f.2.1}
 |false=>
  rw[cond_false];have P:=S.rt.t m x g hg;cases y:zeY h m g page need with
  |false=>rw[cond_false];have E:ix (zcC h m g).aw page false=true/\enough (zeo (zcC h m g) page).aj need=true:=(by unfold zeY at y;cases n:zgy (zcC h m g) page with|false=>rw[n]at y;cases y|true=>rw[n,cond_true]at y;refine⟨?_,?_⟩;{unfold zgy at n;cases hh:zds (zcC h m g) page with|false=>rw[hh]at n;cases n|true=>rw[hh]at n;exact n};{cases hz:ieq (zeo (zcC h m g) page).af (-1) with|true=>rw[hz]at y;cases y|false=>rw[hz]at y;simpa using y});have H:zeo (zcC h m g) page=zbj (ix (ix (ix h.aa m mZ).ad g gZ).ay page sZ) (ix h.aa m mZ).ae:=(by have Z:=zZF P W.hp;have h1:ix (ix (ix h.aa m mZ).ai g kZ).aw page false=true:=E.1;rw[h1]at Z;exact Z);obtain⟨U,V,Y,d⟩:=zOF S x hg D W N H E.2;rw[V];have J:=E.2;rw[H]at J;have f:=zpH D J;rw[W.pg,L]at f;exact⟨⟨U,by rw[d],Y,by rw[d];exact J,by rw[d];exact f.2.2,λ_ _ _=>by rw[d],λe=>by rw[d];exact hd e,λ_=>by rw[d],λ_ _ _=>by rw[d]⟩,rfl⟩
  |true=>
   rw[cond_true];have M:=zON S.ok (m:=m) (p:=q) need x r;have c:i0 m (ln (D0 h m q need).aa)=true:=(by rw[M.op.like.has];exact x);have C:(ix (D0 h m q need).aa m mZ).ad=(ix h.aa m mZ).ad:=M.op.like.g m x;have l:i0 g (ln (ix (D0 h m q need).aa m mZ).ad)=true:=(by rw[C];exact hg);have G:Safe (D0 h m q need):=M.op.safe S;have F:=z8r G.ok c l page;have S2:Safe (zdQ (D0 h m q need) m g page):=F.safe G;have R:i0 m (ln (zdQ (D0 h m q need) m g page).aa)=true:=(by rw[F.like.has];exact c);have u:ix (zdQ (D0 h m q need) m g page).aa m mZ={ix (D0 h m q need).aa m mZ with ai:=up (ix (D0 h m q need).aa m mZ).ai g (filled (zcC (D0 h m q need) m g) (zc4 (D0 h m q need) m g) (ix (D0 h m q need).aa m mZ).ae page)}:=zbk c _ _;have Q:i0 g (ln (ix (zdQ (D0 h m q need) m g page).aa m mZ).ad)=true:=(by rw[u];exact l);have w:(ix (zdQ (D0 h m q need) m g page).aa m mZ).ad=(ix h.aa m mZ).ad:=(by rw[u];exact C);have W2:Walked (ix (ix (zdQ (D0 h m q need) m g page).aa m mZ).ad g gZ).ay page need q:=(by rw[w];exact W);have H:zeo (zcC (zdQ (D0 h m q need) m g page) m g) page=zbj (ix (ix (ix (zdQ (D0 h m q need) m g page).aa m mZ).ad g gZ).ay page sZ) (ix (zdQ (D0 h m q need) m g page).aa m mZ).ae:=(by have:zcC (zdQ (D0 h m q need) m g page) m g=filled (zcC (D0 h m q need) m g) (zc4 (D0 h m q need) m g) (ix (D0 h m q need).aa m mZ).ae page:=(by unfold zcC;rw[u];exact zbk (by unfold ln;rw[(G.ok.mon c).gt];exact l) _ _);rw[this];refine(zXw (p:=page) (G.rt.t m c g l) (by rw[C];exact W.hp)).trans ?_;rw[u]);have z:(ix (zdQ (D0 h m q need) m g page).aa m mZ).ae=(ix (D0 h m q need).aa m mZ).ae:=by rw[u]
   have j:=znR ((G.ok.mon c).hasO r);have a:=zRr (s:=ix (ix (ix h.aa m mZ).ad g gZ).ay page sZ) (o:=(ix (D0 h m q need).aa m mZ).ae) D (by rw[W.pg];have:=zC.1 r;omega) (by rw[W.pg,j];exact M.inn) W.en (by
    rw[W.pg,j];rcases D with rfl|rfl
    .rcases (G.ok.mon c).enough1 r M.inn with e|e<;>rw [e]<;>decide
    .rw [M.ri (by decide)];decide)
   have J:enough (zeo (zcC (zdQ (D0 h m q need) m g page) m g) page).aj need=true:=(by rw[H,w,z];exact a.2);obtain⟨U,V,Y,d⟩:=zOF S2 R Q D W2 N H J;rw[V];have I:=a.1;rw[W.pg,j]at I;refine⟨⟨(M.op.trans F).trans U,by rw[d],Y,by rw[d,z];exact a.2,by rw[d,z];exact I,λk n f=>?_,λe=>?_,λe=>?_,λi hi f=>?_⟩,rfl⟩;{rw [d,u];exact M.dk k n f};{rw [d,u];exact M.dt (by rw[e];decide)};{rw [d,u];exact M.d0 (by rw[e];decide)};{rw [d];show (ix (up (D0 h m q need).aa m _) i mZ).av=_;rw[zbA (zC.1 x).1 (zC.1 hi).1<|Ne.symm f];exact M.dm i hi f}
def zFg {n:Int}:zj4 n=true↔n=1\/n=2:=by unfold zj4;by_cases h:n=1;{rw [zbt.2 h];simp[h]};{rw [zbV.2 h,cond_false,zbt];simp[h]}
def zqE {h:ac}{m g page need:Int}:zca h m g page need=true↔zbX h m g=true/\(need=1\/need=2)/\zfN (zc4 h m g) page need=true:=by unfold zca;rw[zce,zce,zFg]
def zB2 {h:ac}(S:Safe h){m g page need:Int}(j:Bool)(t:zca h m g page need=true){b:List aq}(r:∀e∈b,zb3 h e=true) :
 Looked h (lookOf h b m g page need j).1 m g page need (zcO (zc4 h m g) page need) (lookOf h b m g page need j).2.1/\(lookOf h b m g page need j).2.2=true:=by
 obtain⟨w,A,B⟩:=zqE.1 t;obtain⟨_,a,hg⟩:=zj1.1 w;have W:=walked (S.ok.guest a hg) B;unfold lookOf;rw[t,cond_true];rcases A with rfl|rfl
 .rw [show ieq 1 2=false by decide,cond_false]
  exact zS1 S a hg (.inl rfl) W j r (λe=>absurd e (by decide))
 .rw [show ieq 2 2=true by decide,cond_true]
  obtain⟨d,C⟩:=zJ9 S.ok a (zcO (zc4 h m g) page 2);have p:i0 m (ln (zbH h m<|zcO (zc4 h m g) page 2).aa)=true:=by rw[d.like.has];exact a
  have f:ix (zbH h m<|zcO (zc4 h m g) page 2).aa m mZ={ix h.aa m mZ with av:=up (ix h.aa m mZ).av (zcO (zc4 h m g) page 2) true}:=zbk a _ _;have x:=(S.ok.mon a).hasD W.q8;obtain⟨L,y⟩:=zS1 (d.safe S) p (g:=g) (page:=page) (need:=2) (q:=zcO (zc4 h m g) page 2) (by rw[f];exact hg) (.inr rfl) (by rw[f];exact W) j (b:=b) (λe z=>by
   obtain⟨l,u,v⟩:=zfb.1 (r e z);rw[zfb];have n:i0 (zb2 e.Tag) (ln (zbH h m<|zcO (zc4 h m g) page 2).aa)=true:=by rw[d.like.has];exact l
   refine⟨n,by rw[d.like.g _ l];exact u,?_⟩
   rw[d.like.g _ l];have:(ix (zbH h m<|zcO (zc4 h m g) page 2).aa (zb2 e.Tag) mZ).ae=(ix h.aa (zb2 e.Tag) mZ).ae:=by show (ix (up h.aa m _) _ mZ).ae=_;by_cases c:m=zb2 e.Tag;{rw [<- c,zbk a]};{rw [zbA (zC.1 a).1 (zC.1 l).1 c]}
   rw[this];exact v) (λ_=>by rw[f];exact zbk x _ _)
  refine⟨⟨d.trans L.op,L.inn,L.ne,?_,?_,λk s c=>?_,L.dq,λe=>absurd e (by decide),λi n c=>?_⟩,y⟩
  .have:=L.en;rw[f] at this;exact this
  .have:=L.cp;rw[f] at this;exact this
  .rw [L.dk k s c,f];exact zbA (zC.1 W.q8).1 (zC.1 s).1 (Ne.symm c) _ _
  .rw [L.dm i (by rw[d.like.has];exact n) c]
   show (ix (up h.aa m _) i mZ).av=_
   rw[zbA (zC.1 a).1 (zC.1 n).1<|Ne.symm c]
def zNJ {x y:Int}(a : -9223372036854775808<=x+y)(b:x+y<=9223372036854775807):zK .i64 x y=x+y:=by unfold zK;simp only[IntKind.wrap,IntKind.signed,IntKind.bits];simp;omega
def zIL {n:Nat}{P:Int->Prop}(h:∀i:Fin n,P ((i.val:Nat):Int)){x:Int}(a:0<=x)(b:x<n):P x:=by have:=h ⟨x.toNat,by omega⟩;simpa [show ((x.toNat:Nat):Int)=x by omega] using this
def zTu {p:Int}:zdI p=true↔0<=p/\p<=255:=by unfold zdI;exact zcU
def zOW {p:Int}(h:zdI p=true):zdI (zkp p)=true:=by have a:=zTu.1 h;exact zIL (n:=256) (P:=λx=>zdI (zkp x)=true) (by decide +kernel) a.1 (by omega)
def zOV {p:Int}(h:zdI p=true)(n:Int):zdI (zsD p n)=true:=by unfold zsD zhx;rw[h,cond_true];cases e:zk n 0 7 with|false=>exact h|true=>rw[cond_true];have b:=zTu.1 h;have a:=zcU.1 e;exact zIL (n:=256) (P:=λx=>∀k,0<=k->k<(8:Int)->zdI (wor .i64 x<|zpv .i64 1 k)=true) (λi k c d=>zIL (n:=8) (P:=λk=>zdI (wor .i64 ((i.val:Nat):Int)<|zpv .i64 1 k)=true) (by revert i;decide +kernel) c d) b.1 (by omega) n a.1 (by omega)
structure GKeep (x y:ah):Prop where
 ok:GOk y
 live:y.ay=x.ay
def zYb {x:ah}(X:GOk x){c:Int}(b:zk c 0 12=true):GOk {x with Pc:=c}:=⟨X.prog,X.a,b,X.w,X.l,X.ctl,X.pend,X.ex,X.seen⟩
def zYa {x:ah}(X:GOk x){c:Int}(a:zk c 0 99=true):GOk {x with A:=c}:=⟨X.prog,a,X.pc,X.w,X.l,X.ctl,X.pend,X.ex,X.seen⟩
def zjz {x:ah}(X:GOk x):GKeep x (zcn x):=by unfold zcn;have a:=zcU.1 X.pc;cases h:ige x.Pc 12 with|true=>exact⟨zYb X (by decide),rfl⟩|false=>have:¬ x.Pc≥12:=jT h;refine⟨zYb X ?_,rfl⟩;rw[zNJ (by omega) (by omega)];exact zcU.2 (by omega)
def zRV {x:ah}(X:GOk x)(n:Int):GKeep x (saw x n):=by unfold saw;cases h:ilt (ln x.aC) 40 with|false=>exact⟨X,rfl⟩|true=>have:ln x.aC<40:=qD h;refine⟨⟨X.prog,X.a,X.pc,X.w,X.l,X.ctl,X.pend,X.ex,qL ?_⟩,rfl⟩;unfold ln ap at *;simp;omega
def zjA {x:ah}(X:GOk x){e:aD}(b:zhZ e=true):GKeep x (stopped x e):=⟨⟨X.prog,X.a,X.pc,X.w,X.l,X.ctl,X.pend,b,X.seen⟩,rfl⟩
def zWD {x:ah}(X:GOk x){p:Int}(b:zdI p=true):GKeep x {x with an:=p}:=⟨⟨X.prog,X.a,X.pc,X.w,X.l,X.ctl,b,X.ex,X.seen⟩,rfl⟩
def zWA {x:ah}(X:GOk x)(b:Bool):GKeep x {x with aF:=b}:=⟨⟨X.prog,X.a,X.pc,X.w,X.l,X.ctl,X.pend,X.ex,X.seen⟩,rfl⟩
def zWB {x:ah}(X:GOk x):GKeep x (held x):=⟨(zjz (zWA X true).ok).ok,(zjz (zWA X true).ok).live⟩
def z0A {x:ah}(X:GOk x){v:Int}(c:zk v 0 99=true):GKeep x (loaded x v):=by have a:=zRV (zYa X c) v;have b:=zjz a.ok;exact⟨b.ok,b.live.trans a.live⟩
def zLx {x:ah}(X:GOk x):GKeep x (interrupted x):=by unfold interrupted;cases ziF x with|false=>exact⟨X,rfl⟩|true=>have a:=zWD X (zOW X.pend);rw[cond_true];exact⟨(zRV a.ok _).ok,(zRV a.ok _).live⟩
def zHn {p:List Ins}(h:zdo p=true)(i:Int):zem (zcB p i)=true:=by unfold zcB;cases a:i0 i (ln p) with|false=>rfl|true=>unfold zdo at h;rw[zce,qM]at h;exact h.1 _ (zlI a _)
def z9G {i:Ins}(h:zem i=true)(a:i.Op=3\/i.Op=4):0<=i.X/\i.X<=15:=by unfold zem at h;rcases a with e|e<;>rw [e]at h<;>exact zcU.1 h
def z0I {i:Ins}(h:zem i=true)(a:i.Op=5\/i.Op=6):0<=i.X/\i.X<=99:=by unfold zem at h;rcases a with e|e<;>rw [e]at h<;>exact zcU.1 h
def zbak {i:Ins}(h:zem i=true)(a:i.Op=8):0<=i.X/\i.X<=11:=by unfold zem at h;rw[a]at h;exact zcU.1 h
def zbaj {i:Ins}(h:zem i=true)(a:i.Op=1):0<=i.X/\i.X<=99:=by unfold zem at h;rw[a]at h;exact zcU.1 h
def zYc {x:ah}(X:GOk x):GKeep x (plainly x):=by have M:=zjz X;have b:=zHn X.prog x.Pc;unfold plainly;cases ine (zbc x) 2 with|true=>exact⟨X,rfl⟩|false=>rw[cond_false];(cases zk x.A 0 99 with|false=>exact M|true=>rw[cond_true];(cases zk (zcB x.az x.Pc).X 0 99 with|false=>exact M|true=>rw[cond_true];by_cases c:(zcB x.az x.Pc).Op=1;{rw [zbt.2 c,cond_true];exact⟨zYa M.ok<|zcU.2<|zbaj b c,M.live⟩};{rw [zbV.2 c,cond_false];by_cases d:(zcB x.az x.Pc).Op=2;{rw [zbt.2 d,cond_true];refine⟨zYa M.ok ?_,M.live⟩;have f:=zcU.1 X.a;have i:0<=(zcB x.az x.Pc).X/\(zcB x.az x.Pc).X<=99:=(by unfold zem at b;rw[d]at b;exact zcU.1 b);rw[zcU];unfold zpu;rw[zNJ (by omega) (by omega)];have g:=Int.tmod_nonneg (a:=x.A+(zcB x.az x.Pc).X) 100 (by omega);have h:=Int.tmod_lt_of_pos (x.A+(zcB x.az x.Pc).X) (show (0:Int)<100 by omega);omega};{rw [zbV.2 d,cond_false];by_cases e:(zcB x.az x.Pc).Op=8;{rw [zbt.2 e,cond_true];cases ieq x.A 0 with|true=>have:=zbak b e;exact⟨zYb M.ok<|zcU.2 (by omega),M.live⟩|false=>exact M};{rw [zbV.2 e];exact M}}}))
def zsC {c:LI}:zcw c=true↔(∀x∈c,zk x 0 99=true)/\ln c=4:=by unfold zcw;rw[zce,qM,zbt]
def zmx (h:ac)(m:Int):∀(n i:Nat),(zcR h m n i).length=n
 | 0,_=>rfl
 |n+1,i=>by rw[zcR,qY,zmx h m n]
def zKi (h:ac)(m:Int):∀(n i k:Nat) (a:k<(zcR h m n i).length),(zcR h m n i)[k]=zdg h m ((i+k:Nat):Int)
 | 0,i,k,a=>by simp[zcR]at a
 |n+1,i,k,a=>by cases k with|zero=>rfl|succ k=>have:=zKi h m n (i+1) k (by simpa [zcR] using a);simp only[zcR,List.getElem_cons_succ];rw[this];congr 1;omega
def zpV {h:ac}{m q:Int}(b:i0 q 8=true)(d:LI):ix (zcR h m 8 0) q d=zdg h m q:=by have c:=zC.1 b;have a:q.toNat<(zcR h m 8 0).length:=(by rw[zmx];omega);have:=zj2 a d;rw[show ((q.toNat:Nat):Int)=q by omega] at this;rw[this,zKi];congr 1;omega
def ztM (h:ac)(m:Int):ln (zcR h m 8 0)=8:=by unfold ln;rw[zmx];rfl
def zyM {h:ac}(H:HOk h){m p:Int}(b:i0 m (ln h.aa)=true)(a:i0 p 8=true):zcw (zdg h m p)=true:=by have X:=H.mon b;rw[<- zlb H b a];by_cases e:(ix (ix h.aa m mZ).ae p sZ).af = -1;{rw [zbt.2 e];exact((zpL<|X.slot a).1 (X.fit p a)).1 e};{rw [zbV.2 e];exact zOT H.pgs _}
def zxM {h:ac}(H:HOk h){m:Int}(b:i0 m (ln h.aa)=true):zcf (zL h m)=true:=by have X:=H.mon b;unfold zL;rw[b,cond_true];unfold zcf zh6;rw[zce,qM];refine⟨X.gs,?_⟩;simp only[qE,zce,qM,zbt,zcU];refine⟨⟨λc d=>?_,ztM h m⟩,⟨?_,?_⟩,?_,X.pend⟩;{obtain⟨i,a,rfl⟩:=zrA d [];rw[ztM]at a;rw[zpV a];exact zyM H b a};{unfold ln;have:=X.g1;omega};{unfold ln;have:=X.g2;omega};{unfold ile ln;have:=X.outs;exact qL (by omega)}
structure SimT (h r:ac) (m:Int) (f:ao->ao):Prop where
 safe:Safe r
 seen:∀i,zL r i=bif ieq i m then f (zL h i) else zL h i
 len:r.aa.length=h.aa.length
def SimT.trans {a b c:ac}{m:Int}{f g:ao->ao}(x:SimT a b m f)(y:SimT b c m g):SimT a c m (λt=>g (f t)):=by refine⟨y.safe,λi=>?_,y.len.trans x.len⟩;rw[y.seen i,x.seen i];cases ieq i m<;>rfl
def Op.sim {h r:ac}(k:Op h r)(S:Safe h)(m:Int):SimT h r m id:=⟨k.safe S,λi=>by rw[k.like.seen i];cases ieq i m<;>rfl,k.like.len⟩
def SimT.congr {h r:ac}{m:Int}{f g:ao->ao}(x:SimT h r m f)(e:f (zL h m)=g (zL h m)):SimT h r m g:=by refine⟨x.safe,λi=>?_,x.len⟩;rw[x.seen i];by_cases a:i=m;{subst a;rw[zbt.2 rfl,cond_true,cond_true,e]};{rw [zbV.2 a];rfl}
def SimT.has {h r:ac}{m:Int}{f:ao->ao}(x:SimT h r m f)(i:Int):i0 i (ln r.aa)=i0 i (ln h.aa):=by unfold ln;rw[x.len]
def SimT.refl {h:ac}(S:Safe h)(m:Int):SimT h h m id:=⟨S,λi=>by cases ieq i m<;>rfl,rfl⟩
def zvB {h:ac}(S:Safe h){m q a:Int}(l:i0 m (ln h.aa)=true)(f:i0 q 8=true)(J:(ix (ix h.aa m mZ).ae q sZ).af=a)(y:a≠-1)(c v:Int) :
 SimT h {h with ag:=zbM h.ag a c v} m (λb=>{b with ag:=zbM b.ag q c v})/\cellAt h.ag a c=cellAt (zL h m).ag q c:=by
 have H:=S.ok;have X:=H.mon l;have N:=X.slot f;have E:=hasM H N (by rw[J];exact y)
 rw[J]at E;have z:ix h.ag a []=zdg h m q:=by have:=zlb H l f;rw[J,zbV.2 y,cond_false,zla E] at this;exact this
 have n:ln (zdg h m q)=4:=(zsC.1<|zyM H l f).2;have d:(zL h m).ag=zcR h m 8 0:=by unfold zL;rw[l];rfl
 have C:zh5 h.ag a c=i0 c 4:=by unfold zh5;rw[E,cond_true,z,n]
 have D:zh5 (zcR h m 8 0) q c=i0 c 4:=by unfold zh5;rw[ztM,f,cond_true,zpV f,n]
 have u:cellAt h.ag a c=cellAt (zL h m).ag q c:=by rw[d];unfold cellAt;rw[C,D,z,zpV f]
 refine⟨?_,u⟩;cases A:i0 c 4 with
 |false=>have s:zbM h.ag a c v=h.ag:=(by unfold zbM;rw[C,A];rfl);rw[s];refine(SimT.refl S m).congr ?_;show zL h m={zL h m with ag:=zbM (zL h m).ag q c v};rw[d];have B:zbM (zcR h m 8 0) q c v=zcR h m 8 0:=(by unfold zbM;rw[D,A];rfl);rw[B,<- d]
 |true=>
  cases K:zk v 0 99 with
  |false=>have s:zbM h.ag a c v=h.ag:=(by unfold zbM;rw[C,A,K];rfl);rw[s];refine(SimT.refl S m).congr ?_;show zL h m={zL h m with ag:=zbM (zL h m).ag q c v};rw[d];have B:zbM (zcR h m 8 0) q c v=zcR h m 8 0:=(by unfold zbM;rw[D,A,K];rfl);rw[B,<- d]
  |true=>have s:zbM h.ag a c v=up h.ag a (up (zdg h m q) c v):=(by unfold zbM;rw[C,A,K,z];rfl);have B:zbM (zcR h m 8 0) q c v=up (zcR h m 8 0) q (up (zdg h m q) c v):=(by unfold zbM;rw[D,A,K,zpV f];rfl);have G:zcw (up (zdg h m q) c v)=true:=(by have:=zsC.1 (zyM H l f);rw[zsC,zdU];refine⟨λx O=>?_,this.2⟩;rcases qZ O with h|h;{exact this.1 x h};{rw [h];exact K});have P:=(zC.1 E).1;have L:HOk {h with ag:=zbM h.ag a c v}:=(by rw[s];refine⟨by show (up _ _ _).length=12;rw[zbP];exact H.m12,λx O=>?_,H.n1,H.n3,H.b1,H.b2,H.mons,H.uq⟩;rcases qZ O with h|h;{exact H.pgs x h};{rw [h];exact G});refine⟨⟨L,⟨S.rt.t,S.rt.e1,S.rt.e2⟩⟩,λi=>?_,rfl⟩;have r:∀i k,i0 i (ln h.aa)=true->i0 k 8=true->¬ (i=m/\k=q)->zdg {h with ag:=zbM h.ag a c v} i k=zdg h i k:=(by intro i k w g I;rw[<- zlb L (m:=i) (p:=k) w g,<- zlb H w g];show (cond (ieq (ix (ix h.aa i mZ).ae k sZ).af<|-1) _<|zcD (zbM h.ag a c v) _)=_;by_cases e:(ix (ix h.aa i mZ).ae k sZ).af = -1;{rw [zbt.2 e];rfl};{rw [zbV.2 e,cond_false,cond_false,s];exact zB7 P (λe=>I (H.uniq w g l f e J P))});have F:zdg {h with ag:=zbM h.ag a c v} m q=up (zdg h m q) c v:=(by rw[<- zlb L (m:=m) (p:=q) l f];show (cond (ieq (ix (ix h.aa m mZ).ae q sZ).af<|-1) _<|zcD (zbM h.ag a c v) (ix (ix h.aa m mZ).ae q sZ).af)=_;rw[J,zbV.2 y,cond_false,s];exact zB6 E);by_cases w:i=m;{subst w;rw[zbt.2 rfl,cond_true];unfold zL;show (cond (i0 i<|ln h.aa) _ _)=_;rw[l,cond_true,cond_true];show ao.mk (zcR {h with ag:=zbM h.ag a c v} i 8 0) _ _ _=ao.mk (zbM (zcR h i 8 0) q c v) _ _ _;congr 1;rw[B];refine zM1 [] (by rw[zbP,zmx,zmx]) λk g=>?_;rw[ztM]at g;rw[zpV g];by_cases e:q=k;{subst e;rw[zbk (by rw[ztM];exact f),F]};{rw [zbA (zC.1 f).1 (zC.1 g).1 e,zpV g];exact r i k l g (λh=>e h.2.symm)}};{rw [zbV.2 w,cond_false];unfold zL;show (cond (i0 i<|ln h.aa) _ _)=_;cases M:i0 i (ln h.aa) with|false=>rfl|true=>rw[cond_true,cond_true];show ao.mk (zcR {h with ag:=zbM h.ag a c v} i 8 0) _ _ _=_;rw[zqG 8 0 λj C D=>r i (j:Int) M (zC.2 (by omega)) λh=>w h.1]}
def zqj {h:ac}(S:Safe h){m g:Int}(a:i0 m (ln h.aa)=true)(hg:i0 g (ln (ix h.aa m mZ).ad)=true){y:ah}(k:GKeep (gOf h m g) y):SimT h (zkH h m g y) m (λb=>zeH b g y):=by have X:=S.ok.mon a;have kp:KeepP (ix h.aa m mZ) {ix h.aa m mZ with ad:=up (ix h.aa m mZ).ad g y}:=⟨rfl,rfl⟩;refine⟨zvA S a kp (zk1 X kp (zbP _ _ _) rfl rfl X.outs X.pend X.tr X.own λz d=>?_) (zbP _ _ _) (λj c=>?_) rfl,λi=>?_,zbP _ _ _⟩;{rcases qZ d with h|h;{exact X.gs z h};{rw [h];exact zsW.2 k.ok}};{show (ix (up (ix h.aa m mZ).ad g y) j gZ).ay=_;by_cases e:g=j;{subst e;rw[zbk hg];exact k.live};{rw [zbA (zC.1 hg).1 (zC.1 c).1 e]}};{refine(zue (h:=h) (r:=zkH h m g y) a rfl rfl kp i).trans ?_;by_cases e:i=m;{subst e;rw[zbt.2 rfl,cond_true,cond_true];unfold zeH zL;rw[a];rfl};{rw [zbV.2 e];rfl}}
def zTZ {h:ac}(S:Safe h){m:Int}(a:i0 m (ln h.aa)=true){y:Mon}(kp:KeepP (ix h.aa m mZ) y)(d:MOk y)(hg:y.ad=(ix h.aa m mZ).ad)(c:y.ai=(ix h.aa m mZ).ai) :
 SimT h {h with aa:=up h.aa m y} m (λb=>{b with Outs:=y.Outs,an:=y.an}):=by
 refine⟨zvA S a kp d (by rw[hg]) (λj _=>by rw[hg]) c,λi=>?_,zbP _ _ _⟩
 refine(zue (h:=h) (r:={h with aa:=up h.aa m y}) a rfl rfl kp i).trans ?_
 by_cases e:i=m
 .subst e;rw[zbt.2 rfl,cond_true,cond_true];unfold zL;rw[a,hg];rfl
 .rw [zbV.2 e];rfl
def zft {h:ac}{m:Int}(a:i0 m (ln h.aa)=true):zL h m=⟨zcR h m 8 0,(ix h.aa m mZ).ad,(ix h.aa m mZ).Outs,(ix h.aa m mZ).an⟩:=by unfold zL;rw[a];rfl
def z1K {h:ac}(S:Safe h){m:Int}(a:i0 m (ln h.aa)=true):SimT h (owned h m) m id:=by unfold owned;cases b:ilt (ix h.aa m mZ).Own 1000000000 with|false=>exact SimT.refl S m|true=>rw[cond_true];have X:=S.ok.mon a;have d:=zcU.1 X.own;have c:(ix h.aa m mZ).Own<1000000000:=qD b;have kp:KeepP (ix h.aa m mZ) {ix h.aa m mZ with Own:=zK .i64 (ix h.aa m mZ).Own 1}:=⟨rfl,rfl⟩;refine(zTZ S a kp (zk1 X kp rfl rfl rfl X.outs X.pend X.tr ?_ X.gs) rfl rfl).congr ?_;{show zk (zK .i64 (ix h.aa m mZ).Own 1) 0 1000000000=true;rw[zNJ (by omega) (by omega),zcU];omega};{rw [zft a];rfl}
def zZj {h:ac}(S:Safe h){m:Int}(a:i0 m (ln h.aa)=true)(n:Int):SimT h (zk7 h m n) m (λb=>zol b n):=by unfold zk7;have X:=S.ok.mon a;cases c:ilt (ln (ix h.aa m mZ).Outs) 40 with|false=>refine(SimT.refl S m).congr ?_;rw[zft a];unfold zol;rw[c];rfl|true=>rw[cond_true];have d:ln (ix h.aa m mZ).Outs<40:=qD c;have kp:KeepP (ix h.aa m mZ) {ix h.aa m mZ with Outs:=ap (ix h.aa m mZ).Outs [n]}:=⟨rfl,rfl⟩;refine(zTZ S a kp (zk1 X kp rfl rfl rfl ?_ X.pend X.tr X.own X.gs) rfl rfl).congr ?_;{show (ap (ix h.aa m mZ).Outs [n]).length<=40;unfold ln ap at *;simp;omega};{rw [zft a];unfold zol;rw[c];rfl}
def ztu {h:ac}{m g:Int}(a:i0 m (ln h.aa)=true)(hg:i0 g (ln (ix h.aa m mZ).ad)=true):gAt (zL h m) g=gOf h m g:=by rw[zft a];unfold gAt;show (cond (i0 g<|ln (ix h.aa m mZ).ad) _ _)=_;rw[hg];rfl
def zNK {x:ah}(h:zbc x=3\/zbc x=4\/zbc x=5\/zbc x=6):(zcB x.az x.Pc).Op=zbc x:=by unfold zbc at h ⊢;cases e:canRun x with|false=>simp[e]at h|true=>simp only[e,cond_true]at h ⊢;(cases f:ziF x with|true=>simp[f]at h|false=>simp only[f,cond_false]at h ⊢;unfold zxb at h ⊢;by_cases a:(zcB x.az x.Pc).Op=3;{rw [a];rfl};{rw [zbV.2 a,cond_false]at h ⊢;by_cases b:(zcB x.az x.Pc).Op=4;{rw [b];rfl};{rw [zbV.2 b,cond_false]at h ⊢;by_cases c:(zcB x.az x.Pc).Op=5;{rw [c];rfl};{rw [zbV.2 c,cond_false]at h ⊢;by_cases d:(zcB x.az x.Pc).Op=6;{rw [d];rfl};{rw [zbV.2 d,cond_false]at h ⊢;cases g:ieq (zcB x.az x.Pc).Op 7<;>simp [g]at h}}}})
def z6S {x:ah}(X:GOk x){w:Int}(a:zbc x=w)(h:w=3\/w=4):0<=F0 x/\F0 x<=15:=by have e:F0 x=(zcB x.az x.Pc).X:=(by unfold F0;rcases h with e|e;{rw [a,e];rfl};{rw [a,e];rfl});rw[e];exact z9G (zHn X.prog _) (by rw[zNK (by omega),a];exact h)
def z6T {a:Int}(b:0<=a)(c:a<=15):zk (zbm a) 0 3=true/\i0 (zdp a) 4=true :=
 zIL (n:=16) (P:=λa=>zk (zbm a) 0 3=true/\i0 (zdp a) 4=true) (by decide) b (by omega)
def zX1 {p:Int}(h:zk p 0 3=true)(w:Bool):zhZ (zrj p w)=true:=by unfold zhZ zrj;simp[ieq,h]
def z0p {n:Int}(h:zk n 0 99=true):zhZ (zyd n)=true:=by unfold zhZ zyd;simp[ieq,h]
def z3r {n:Int}(h:zk n 0 99=true):zhZ (zxc n)=true:=by unfold zhZ zxc;simp[ieq,h]
def z3x {x:ah}(X:GOk x)(t:Int){w:Int}(d:zbc x=w):GKeep x (zjY x t w):=by have c:=zHn X.prog x.Pc;unfold zjY;by_cases b:w=6;{rw [zbt.2 b];exact zjA X (z0p<|zcU.2<|z0I c (by rw[zNK (by omega),d];omega))};{rw [zbV.2 b,cond_false];by_cases a:w=5;{rw [zbt.2 a];cases zhl t 1 with|true=>exact zjA X (z3r<|zcU.2<|z0I c (by rw[zNK (by omega),d];omega))|false=>rw[a];exact zjz X};{rw [zbV.2 a];rw[Bool.false_and,cond_false];cases e:(ieq w 7&&zhl t 2) with|true=>exact zjA X rfl|false=>rw[cond_false];cases ieq w 7;{exact zjz X};{exact zWB X}}}
def zWN {a:Type}(g:Int):i0 g (ln ([]:List a))=false:=by cases h:i0 g (ln ([]:List a)) with|false=>rfl|true=>have:=zC.1 h;simp[ln] at this;omega
def z2B {m:List LI}(h:∀c∈m,zcw c=true)(p c:Int):zk (cellAt m p c) 0 99=true:=by unfold cellAt zh5;cases b:i0 p (ln m) with|false=>rfl|true=>rw[cond_true];(cases a:i0 c (ln<|ix m p []) with|false=>rfl|true=>rw[cond_true];exact(zsC.1<|h _<|zlI b []).1 _ (zlI a 0))
def HOk.seenG {h:ac}(H:HOk h){m g:Int}(a:i0 m (ln h.aa)=true)(hg:i0 g (ln (ix h.aa m mZ).ad)=true):GOk (gOf h m g):=H.guest a hg
def zUb {h:ac}(S:Safe h){m g:Int}(i:i0 m (ln h.aa)=true)(hg:i0 g (ln (ix h.aa m mZ).ad)=true)(w:Bool)(B:zbc (gOf h m g)=bif w then 4 else 3) :
 SimT h (zhI (zmT h m g (gOf h m g) w) m g (gOf h m g) w) m (λb=>znS b g (gOf h m g) w):=by
 have X:=S.ok.seenG i hg;have t:=z6S X B (by cases w<;>simp)
 have n:=z6T t.1 t.2;have z:zch w=1\/zch w=2:=by cases w<;>simp [zch]
 unfold zhI zmT;cases k:zca h m g (zbm<|F0<|gOf h m g) (zch w) with
 |false=>have e:lookOf h h.am m g (zbm<|F0<|gOf h m g) (zch w) false=(h,-1,false):=(by unfold lookOf;rw[k];rfl);have q:zfN (gOf h m g).ay (zbm<|F0<|gOf h m g) (zch w)=false:=(by cases y:zfN (gOf h m g).ay (zbm<|F0<|gOf h m g) (zch w) with|false=>rfl|true=>exact Bool.noConfusion (k.symm.trans<|zqE.2 ⟨zj1.2 ⟨S.ok,i,hg⟩,z,y⟩));rw[e];refine(zqj S i hg<|zjA X<|zX1 n.1 w).congr ?_;unfold znS;rw[q];rfl
 |true=>obtain⟨L,x⟩:=zB2 S false k S.rt.e1;obtain⟨_,_,j⟩:=zqE.1 k;have c:zfN (gOf h m g).ay (zbm<|F0<|gOf h m g) (zch w)=true:=j;have W:=walked X j;rw[x,cond_true];have l:=L.op.safe S;have f:i0 m (ln (lookOf h h.am m g (zbm<|F0<|gOf h m g) (zch w) false).1.aa)=true:=(by rw[L.op.like.has];exact i);have a:=L.op.like.g m i;have C:i0 (zcO (zc4 h m g) (zbm<|F0<|gOf h m g)<|zch w) 8=true:=W.q8;obtain⟨u,v⟩:=zvB l f C L.inn L.ne (zdp<|F0<|gOf h m g) (gOf h m g).A;rw[L.op.like.seen m] at v;cases w with|true=>rw[cond_true];have r:=L.op.sim S m;have p:i0 m (ln ({ (lookOf h h.am m g (zbm<|F0<|gOf h m g) (zch true) false).1 with ag:=zbM (lookOf h h.am m g (zbm<|F0<|gOf h m g) (zch true) false).1.ag (lookOf h h.am m g (zbm<|F0<|gOf h m g) (zch true) false).2.1 (zdp<|F0<|gOf h m g) (gOf h m g).A}:ac).aa)=true:=f;have d:i0 g (ln (ix ({ (lookOf h h.am m g (zbm<|F0<|gOf h m g) (zch true) false).1 with ag:=zbM (lookOf h h.am m g (zbm<|F0<|gOf h m g) (zch true) false).1.ag (lookOf h h.am m g (zbm<|F0<|gOf h m g) (zch true) false).2.1 (zdp<|F0<|gOf h m g) (gOf h m g).A}:ac).aa m mZ).ad)=true:=(by show i0 g (ln (ix (lookOf h h.am m g (zbm<|F0<|gOf h m g) (zch true) false).1.aa m mZ).ad)=true;rw[a];exact hg);have s:GKeep (gOf { (lookOf h h.am m g (zbm<|F0<|gOf h m g) (zch true) false).1 with ag:=zbM (lookOf h h.am m g (zbm<|F0<|gOf h m g) (zch true) false).1.ag (lookOf h h.am m g (zbm<|F0<|gOf h m g) (zch true) false).2.1 (zdp<|F0<|gOf h m g) (gOf h m g).A} m g) (zcn<|gOf h m g):=(by have:gOf { (lookOf h h.am m g (zbm<|F0<|gOf h m g) (zch true) false).1 with ag:=zbM (lookOf h h.am m g (zbm<|F0<|gOf h m g) (zch true) false).1.ag (lookOf h h.am m g (zbm<|F0<|gOf h m g) (zch true) false).2.1 (zdp<|F0<|gOf h m g) (gOf h m g).A} m g=gOf h m g:=(by show ix (ix (lookOf h h.am m g (zbm<|F0<|gOf h m g) (zch true) false).1.aa m mZ).ad g gZ=_;rw[a];rfl);rw[this];exact zjz X);refine((r.trans u).trans (zqj u.safe p d s)).congr ?_;unfold znS;rw[c];rfl|false=>rw[cond_false];have r:=L.op.sim S m;have d:i0 g (ln (ix (lookOf h h.am m g (zbm<|F0<|gOf h m g) (zch false) false).1.aa m mZ).ad)=true:=(by rw[a];exact hg);have s:GKeep (gOf (lookOf h h.am m g (zbm<|F0<|gOf h m g) (zch false) false).1 m g) (loaded (gOf h m g)<|cellAt (lookOf h h.am m g (zbm<|F0<|gOf h m g) (zch false) false).1.ag (lookOf h h.am m g (zbm<|F0<|gOf h m g) (zch false) false).2.1<|zdp<|F0<|gOf h m g):=(by have:gOf (lookOf h h.am m g (zbm<|F0<|gOf h m g) (zch false) false).1 m g=gOf h m g:=(by show ix (ix (lookOf h h.am m g (zbm<|F0<|gOf h m g) (zch false) false).1.aa m mZ).ad g gZ=_;rw[a];rfl);rw[this];exact z0A X (z2B l.ok.pgs _ _));refine(r.trans<|zqj l f d s).congr ?_;unfold znS;rw[c,v];rfl
def z3w {h r:ac}{m g:Int}(e:(ix r.aa m mZ).ad=(ix h.aa m mZ).ad):gOf r m g=gOf h m g:=by unfold gOf;rw[e]
def z8t (h:ac)(m:Int)(a:i0 m (ln h.aa)=true):(ix (owned h m).aa m mZ).ad=(ix h.aa m mZ).ad:=by unfold owned;cases ilt (ix h.aa m mZ).Own 1000000000 with|false=>rfl|true=>show (ix (up h.aa m _) m mZ).ad=_;rw[zbk a]
def z3U (h:ac)(m n:Int)(a:i0 m (ln h.aa)=true):(ix (zk7 h m n).aa m mZ).ad=(ix h.aa m mZ).ad:=by unfold zk7;cases ilt (ln (ix h.aa m mZ).Outs) 40 with|false=>rfl|true=>show (ix (up h.aa m _) m mZ).ad=_;rw[zbk a]
def z1M {h:ac}(S:Safe h){m:Int}(a:i0 m (ln h.aa)=true)(x:ah)(w:Int):SimT h (zfk h m x w) m id/\(ix (zfk h m x w).aa m mZ).ad=(ix h.aa m mZ).ad:=by unfold zfk;cases (cond (ine w 6) (ieq (zv3 (ix h.aa m mZ).ar x.Ctl.ar<|zui w) 2) false) with|false=>exact⟨SimT.refl S m,rfl⟩|true=>exact⟨z1K S a,z8t h m a⟩
def z1L {h:ac}(S:Safe h){m:Int}(a:i0 m (ln h.aa)=true)(x:ah)(w:Int):SimT h (zgt h m x w) m (λb=>bif (cond (zjZ x.Ctl.ar w) (ieq w 5) false) then zol b (zcB x.az x.Pc).X else b)/\(ix (zgt h m x w).aa m mZ).ad=(ix h.aa m mZ).ad:=by unfold zgt;cases (cond (zjZ x.Ctl.ar w) (ieq w 5) false) with|false=>exact⟨SimT.refl S m,rfl⟩|true=>exact⟨zZj S a _,z3U h m _ a⟩
def zCE {h:ac}(S:Safe h){m g:Int}(d:i0 m (ln h.aa)=true)(hg:i0 g (ln (ix h.aa m mZ).ad)=true){w:Int}(l:zbc (gOf h m g)=w) :
 SimT h (zre h m g (gOf h m g) w) m (λb=>zDq b g (gOf h m g) w):=by
 have X:=S.ok.seenG d hg;obtain⟨f,j⟩:=z1M S d (gOf h m g) w;have a:i0 m (ln (zfk h m (gOf h m g) w).aa)=true:=by rw[f.has];exact d
 obtain⟨i,k⟩:=z1L f.safe a (gOf h m g) w;have e:i0 m (ln (zgt (zfk h m (gOf h m g) w) m (gOf h m g) w).aa)=true:=by rw[i.has];exact a
 have c:i0 g (ln (ix (zgt (zfk h m (gOf h m g) w) m (gOf h m g) w).aa m mZ).ad)=true:=by rw[k,j];exact hg
 have n:GKeep (gOf (zgt (zfk h m (gOf h m g) w) m (gOf h m g) w) m g) (zjY (gOf h m g) (gOf h m g).Ctl.ar w):=by rw[z3w<|k.trans j];exact z3x X _ l
 exact((f.trans i).trans (zqj i.safe e c n)).congr rfl
def zZy (x:ah):zbc x=0\/zbc x=1\/zbc x=2\/zbc x=3\/zbc x=4\/zbc x=5\/zbc x=6\/zbc x=7:=by unfold zbc zxb;cases canRun x<;>cases ziF x<;>cases ieq (zcB x.az x.Pc).Op 3<;>cases ieq (zcB x.az x.Pc).Op 4<;>cases ieq (zcB x.az x.Pc).Op 5<;>cases ieq (zcB x.az x.Pc).Op 6<;>cases ieq (zcB x.az x.Pc).Op 7<;>simp
def zRn {h:ac}(H:HOk h)(m g:Int):zlz (zL h m) g=bif zbX h m g then !ieq (zbc<|gOf h m g) 0 else false:=by unfold zlz zbX;rw[ziS.2 H,cond_true];cases a:i0 m (ln h.aa) with|false=>have:(zL h m).ad=[]:=(by unfold zL;rw[a];rfl);rw[this,zWN];rfl|true=>rw[cond_true,zxM H a,cond_true];have:(zL h m).ad=(ix h.aa m mZ).ad:=(by rw[zft a]);rw[this];(cases hg:i0 g (ln (ix h.aa m mZ).ad) with|false=>rfl|true=>rw[cond_true,cond_true,ztu a hg])
def step_ok {h:ac}(S:Safe h)(m g:Int):SimT h (zco h m g).1 m (λb=>zim b g)/\(zco h m g).2=zlz (zL h m) g:=by
 have a:=zRn S.ok m g;unfold zco;cases i:zbX h m g with
 |false=>rw[i,cond_false]at a;refine⟨(SimT.refl S m).congr ?_,a.symm⟩;unfold zim;rw[a];rfl
 |true=>rw[i,cond_true]at a;rw[cond_true];obtain⟨_,c,hg⟩:=zj1.1 i;have X:=S.ok.seenG c hg;have f:=ztu c hg;have d:∀w,zbc (gOf h m g)=w->w≠0->zim (zL h m) g=stepped (zL h m) g (gOf h m g) w:=(by intro w j k;unfold zim;rw[a,j,zbV.2 k,f,j];rfl);rcases zZy (gOf h m g) with e|e|e|e|e|e|e|e;{rw [e];rw[e]at a;refine⟨(SimT.refl S m).congr ?_,a.symm⟩;unfold zim;rw[a];rfl};{rw [e]at a ⊢;exact⟨(zqj S c hg<|zLx X).congr (d 1 e (by decide)).symm,a.symm⟩};{rw [e]at a ⊢;exact⟨(zqj S c hg<|zYc X).congr (d 2 e (by decide)).symm,a.symm⟩};{rw [e]at a ⊢;exact⟨(zUb S c hg false e).congr (d 3 e (by decide)).symm,a.symm⟩};{rw [e]at a ⊢;exact⟨(zUb S c hg true e).congr (d 4 e (by decide)).symm,a.symm⟩};{rw [e]at a ⊢;exact⟨(zCE S c hg e).congr (d 5 e (by decide)).symm,a.symm⟩};{rw [e]at a ⊢;exact⟨(zCE S c hg e).congr (d 6 e (by decide)).symm,a.symm⟩};{rw [e]at a ⊢;exact⟨(zCE S c hg e).congr (d 7 e (by decide)).symm,a.symm⟩}
structure BackOk (b c:ao):Prop where
 m:c.ag=b.ag
 o:c.Outs=b.Outs
 n:c.ad.length=b.ad.length
 g:∀j,i0 j (ln b.ad)=true->GKeep (ix b.ad j gZ) (ix c.ad j gZ)
 p:zdI b.an=true->zdI c.an=true
def z4q {h:ac}(S:Safe h){m:Int}(b:i0 m (ln h.aa)=true){c:ao}(k:BackOk (zL h m) c):SimT h (zdj h m c) m (λ_=>c):=by have X:=S.ok.mon b;have f:=zft b;have d:(zL h m).ad=(ix h.aa m mZ).ad:=(by rw[f]);have l:c.ad.length=(ix h.aa m mZ).ad.length:=(by rw[k.n,d]);have hg:∀j,i0 j (ln (ix h.aa m mZ).ad)=true->GKeep (ix (ix h.aa m mZ).ad j gZ) (ix c.ad j gZ):=λj a=>(by have:=k.g j (by rw[d];exact a);rwa [d] at this);have kp:KeepP (ix h.aa m mZ) (zuB (ix h.aa m mZ) c):=⟨rfl,rfl⟩;have s:zdI c.an=true:=k.p (by rw[f];exact X.pend);refine⟨zvA S b kp (zk1 X kp l rfl rfl X.outs s X.tr X.own λz t=>?_) l (λj a=>(hg j a).live) rfl,λi=>?_,zbP _ _ _⟩;{obtain⟨j,a,rfl⟩:=zrA t gZ;exact zsW.2 (hg j (by unfold ln at a ⊢;rw[<- l];exact a)).ok};{refine(zue (h:=h) (r:=zdj h m c) b rfl rfl kp i).trans ?_;by_cases e:i=m;{subst e;rw[zbt.2 rfl,cond_true,cond_true];show ao.mk (zL h i).ag c.ad (ix h.aa i mZ).Outs c.an=c;have u:=k.m;have q:=k.o;rw[f]at q;cases c;simp_all};{rw [zbV.2 e];rfl}}
def seen_none {h:ac}{m:Int}(a:i0 m (ln h.aa)=false):zL h m=⟨[],[],[],0⟩:=by unfold zL;rw[a];rfl
def zsZ:zcf ⟨[],[],[],0⟩=false:=by decide
def zti {b:ao}(h:zcf b=false)(g:Int):zcm b g=false:=by unfold zcm;rw[h];rfl
def zhX {b:ao}(h:zcf b=true):BackOk b b:=⟨rfl,rfl,rfl,λj a=>⟨zsW.1 (by
 unfold zcf at h;rw[zce,qM]at h;exact h.1 _ (zlI a _)),rfl⟩,id⟩
def zZJ {b:ao}(h:zcf b=true){g:Int}(hg:i0 g (ln b.ad)=true){y:ah}(k:GKeep (gAt b g) y):BackOk b (zeH b g y):=by have e:gAt b g=ix b.ad g gZ:=(by unfold gAt;rw[hg];rfl);refine⟨rfl,rfl,zbP _ _ _,λj c=>?_,id⟩;show GKeep _ (ix (up b.ad g y) j gZ);by_cases a:g=j;{subst a;rw[zbk hg,<- e];exact k};{rw [zbA (zC.1 hg).1 (zC.1 c).1 a];exact(zhX h).g j c}
def zrg {b:ao}(h:zcf b=true){g:Int}{c:Bool}{y:ah}(k:i0 g (ln b.ad)=true->c=true->GOk (gAt b g)->GKeep (gAt b g) y):BackOk b (chg b g c y):=by unfold chg zcm;rw[h,cond_true];cases hg:i0 g (ln b.ad) with|false=>exact zhX h|true=>rw[cond_true];(cases c with|false=>exact zhX h|true=>refine zZJ h hg (k hg rfl ?_);have:=(zhX h).g g hg;unfold gAt;rw[hg];exact this.ok)
def zpZ {h:ac}(S:Safe h)(m:Int){F:ao->ao}(d:∀b,zcf b=true->BackOk b (F b))(c:F ⟨[],[],[],0⟩=⟨[],[],[],0⟩):SimT h (zgM h m<|F<|zL h m) m F:=by unfold zgM zcQ;rw[ziS.2 S.ok,cond_true];cases a:i0 m (ln h.aa) with|false=>refine(SimT.refl S m).congr ?_;rw[seen_none a];exact c.symm|true=>exact(z4q S a<|d _<|zxM S.ok a).congr rfl
def zld {h:ac}(S:Safe h)(m:Int){t:ao->Bool}(a:t ⟨[],[],[],0⟩=false):zgN h m (t<|zL h m)=t (zL h m):=by unfold zgN zcQ;rw[ziS.2 S.ok,cond_true];cases b:i0 m (ln h.aa) with|false=>rw[cond_false,seen_none b,a]|true=>rfl
def zpG (g:Int)(c:Bool)(y:ah):chg ⟨[],[],[],0⟩ g c y=⟨[],[],[],0⟩:=by unfold chg;rw[zti zsZ];rfl
def zju (g:Int)(c:Bool):zck ⟨[],[],[],0⟩ g c=false:=by unfold zck;rw[zti zsZ];rfl
def zUd {t:List k0}{n q:Int}(h:zcT t n q=true){p:Int}{s:k0}(b:zdO s q=true):zcT (zev t p s) n q=true:=by
 unfold zev;cases i0 p (ln t) with
 |false=>exact h
 |true=>rw[cond_true];rw[zmN]at h ⊢;rw[zdU];refine⟨λx c=>?_,h.2⟩;rcases qZ c with a|a;{exact h.1 x a};{rw [a];exact b}
def z7S {x:ah}(X:GOk x){p:Int}{s:k0}(h:zwm p s=true):GKeep x (zCC x p s):=by unfold zwm at h;rw[zce]at h;exact⟨⟨X.prog,X.a,X.pc,zUd X.w h.2,X.l,X.ctl,X.pend,X.ex,X.seen⟩,rfl⟩
def z7P {x:ah}(X:GOk x){v:Int}(h:zvS x v=true):GKeep x (zx8 x v):=by unfold zvS at h;rw[zce]at h;unfold zx8;cases ieq x.Exit.Kind 2 with|true=>rw[cond_true];have b:=zjA (zYa X h.1) (e:=zk5) rfl;have a:=zjz b.ok;exact⟨a.ok,a.live⟩|false=>rw[cond_false];have b:=zjA X (e:=zk5) rfl;have a:=zjz b.ok;exact⟨a.ok,a.live.trans b.live⟩
def z7R {x:ah}(X:GOk x):GKeep x (zyT x):=by unfold zyT;have a:=zjA X (e:=zk5) rfl;cases ieq x.Exit.Kind 1 with|true=>exact a|false=>have b:=zWB a.ok;exact⟨b.ok,b.live.trans a.live⟩
def zWC {x:ah}(X:GOk x)(n:Int):GKeep x (zoe x n):=zWD X (zOV X.pend n)
def z7Q {x:ah}(X:GOk x){c:Ctl}(h:zlB c=true):GKeep x (zLp x c):=⟨⟨X.prog,X.a,X.pc,X.w,X.l,h,X.pend,X.ex,X.seen⟩,rfl⟩
def zBe (n:Int):∀(d:LI) (b:ao) (l:List ah),(∀k∈d,i0 k (ln b.ad)=true)->BackOk b {b with ad:=l}->BackOk b {b with ad:=zlN n d l}
 |[],b,l,_,h=>h
 |k::d,b,l,q,h=>by show BackOk b {b with ad:=zlN n d (zDl n l k)};refine zBe n d b _ (λj a=>q j (qW _ a)) ⟨h.m,h.o,by show (up l k _).length=_;rw[zbP];exact h.n,λj a=>?_,h.p⟩;show GKeep _ (ix (up l k _) j gZ);have r:l.length=b.ad.length:=h.n;have c:i0 k (ln l)=true:=(by unfold ln;rw[r];exact q k q0);by_cases e:k=j;{subst e;rw[zbk c];have f:=h.g k a;have i:=zWC f.ok n;exact⟨i.ok,i.live.trans f.live⟩};{rw [zbA (zC.1 c).1 (zC.1 a).1 e];exact h.g j a}
def zXy {b:ao}(h:zcf b=true)(n:Int):BackOk b (zkM b n):=by
 unfold zkM zfR zDm;rw[h,cond_true];cases i0 n 8 with
 |false=>exact zhX h
 |true=>
  rw[cond_true];cases ieq (ln<|zer b.ad n) 0 with
  |true=>have:=zhX h;exact⟨rfl,rfl,rfl,this.g,λc=>zOV c n⟩
  |false=>rw[cond_false];refine zBe n _ b b.ad (λk a=>?_) (zhX h);unfold zer at a;obtain⟨j,e,rfl,_⟩:=(zGV (d:=gZ)).1 a;exact zC.2 ⟨by omega,by unfold ln;omega⟩
def zZI {b:ao}(h:zcf b=true):BackOk b (zm9 b):=by unfold zm9;rw[h,cond_true];exact⟨rfl,rfl,rfl,(zhX h).g,λa=>zOW a⟩
def z4e {h:ac}(S:Safe h)(m p c v:Int):SimT h (zjD h m p c v) m (λb=>zQQ b p c v)/\zeZ h m p c v=zxd (zL h m) p c v:=by have e:zeZ h m p c v=zxd (zL h m) p c v:=(by unfold zeZ zxd zcs z6G;rw[ziS.2 S.ok,cond_true];cases d:i0 m (ln h.aa) with|false=>rw[seen_none d,zsZ];rfl|true=>rw[zxM S.ok d,cond_true];rfl);refine⟨?_,e⟩;unfold zjD;cases f:zeZ h m p c v with|false=>refine(SimT.refl S m).congr ?_;unfold zQQ;rw[<- e,f];rfl|true=>rw[cond_true];have a:=f;unfold zeZ at a;rw[zce,zce]at a;obtain⟨k,_,_⟩:=a;obtain⟨_,d,j⟩:=zoj.1 k;have M:=zON S.ok (m:=m) (p:=p) 2 d j;have i:=M.op.sim S m;have g:i0 m (ln (D0 h m p 2).aa)=true:=(by rw[i.has];exact d);obtain⟨l,_⟩:=zvB i.safe g j rfl M.inn c v;refine(i.trans l).congr ?_;unfold zQQ;rw[<- e,f];rfl
def z0X {h:ac}(S:Safe h)(m g b a:Int):zca h m g b a=(cond (zcm (zL h m) g) (cond (zj4 a) (zfN (gAt (zL h m) g).ay b a) false) false):=by have e:zbX h m g=zcm (zL h m) g:=(by unfold zbX zcm;rw[ziS.2 S.ok,cond_true];cases c:i0 m (ln h.aa) with|false=>rw[seen_none c,zsZ,cond_false,cond_false]|true=>rw[cond_true,zxM S.ok c,cond_true];have:(zL h m).ad=(ix h.aa m mZ).ad:=(by rw[zft c]);rw[this]);unfold zca;rw[<- e];cases hg:zbX h m g with|false=>rw[cond_false,cond_false]|true=>obtain⟨_,c,hg⟩:=zj1.1 hg;have:(gAt (zL h m) g).ay=zc4 h m g:=(by rw[ztu c hg];rfl);rw[this]
def zGg {h:ac}(S:Safe h)(m g a n:Int)(b:n=1\/n=2):zn7 (zL h m) g a n=bif zk a 0 15 then zca h m g (zbm a) n else false:=by rw[z0X S];unfold zn7;rw[zFg.2 b,cond_true];cases zcm (zL h m) g<;>cases zk a 0 15<;>rfl
def zRK {h:ac}(S:Safe h){m g a n:Int}(f:n=1\/n=2)(b:zn7 (zL h m) g a n=true) :
 Looked h (zBM h m g a n).1 m g (zbm a) n (zCZ (zL h m) g a n) (zBM h m g a n).2.1/\i0 m (ln h.aa)=true/\i0 (zCZ (zL h m) g a n) 8=true:=by
 rw[zGg S m g a n f,zce]at b;obtain⟨L,_⟩:=zB2 S true b.2 S.rt.e2;obtain⟨d,_,i⟩:=zqE.1 b.2;obtain⟨_,c,hg⟩:=zj1.1 d;have e:zCZ (zL h m) g a n=zcO (zc4 h m g) (zbm a) n:=by unfold zCZ;rw[ztu c hg];rfl
 rw[e];exact⟨L,c,(walked (S.ok.guest c hg) i).q8⟩
def z9B {h:ac}(S:Safe h)(m g a v:Int):SimT h (zlH h m g a v) m (λb=>zXZ b g a v)/\zgx h m g a v=zym (zL h m) g a v:=by have e:zgx h m g a v=zym (zL h m) g a v:=(by unfold zgx zym;rw[zGg S m g a 2 (.inr rfl)];cases zk a 0 15<;>cases zk v 0 99<;>cases zca h m g (zbm a) 2<;>rfl);refine⟨?_,e⟩;unfold zlH;cases c:zgx h m g a v with|false=>refine(SimT.refl S m).congr ?_;unfold zXZ;rw[<- e,c];rfl|true=>rw[cond_true];have f:zn7 (zL h m) g a 2=true:=(by have:=e.symm.trans c;unfold zym at this;exact(zce.1 this).1);obtain⟨L,i,j⟩:=zRK S (.inr rfl) f;have d:=L.op.sim S m;obtain⟨k,_⟩:=zvB d.safe (by rw[d.has];exact i) j L.inn L.ne (zdp a) v;refine(d.trans k).congr ?_;unfold zXZ;rw[<- e,c];rfl
def z8w {h:ac}(S:Safe h)(m g a:Int):SimT h (zjE h m g a) m id/\zfA h m g a=zn7 (zL h m) g a 1/\zrx h m g a=zQU (zL h m) g a:=by have e:zfA h m g a=zn7 (zL h m) g a 1:=(by unfold zfA;rw[zGg S m g a 1 (.inl rfl)]);unfold zjE zrx zQU;rw[e];cases d:zn7 (zL h m) g a 1 with|false=>exact⟨SimT.refl S m,rfl,rfl⟩|true=>obtain⟨L,f,i⟩:=zRK S (.inl rfl) d;have b:=L.op.sim S m;obtain⟨_,c⟩:=zvB b.safe (by rw[b.has];exact f) i L.inn L.ne (zdp a) 0;rw[L.op.like.seen m] at c;exact⟨b,rfl,c⟩
def z0K {k:ax}{a b:List k0}(h:KOk k a b)(p:Int)(s:k0):KOk (zbW k p) (zev a p s) b:=by have j:=zk0 k p;have f:(zev a p s).length=a.length:=(by unfold zev;cases i0 p (ln a)<;>simp [zbP]);refine⟨by rw[j.1,f,h.l1],by rw[j.2,f,h.l2],λi l=>?_⟩;have c:i0 i (ln a)=true:=(by unfold ln at l ⊢;rwa [<- f]);have d:i0 i (ln k.aw)=true:=(by unfold ln at c ⊢;rwa [h.l1]);have g:=zvX (q:=p) (by rw[h.l1,h.l2]) d;rw[g.1,g.2];by_cases e:p=i;{subst e;rw[zbt.2 rfl];rfl};{rw [zbV.2 e,cond_false,cond_false,h.at' i c];have:ix (zev a p s) i sZ=ix a i sZ:=(by unfold zev;cases m:i0 p (ln a) with|false=>rfl|true=>exact zbA (zC.1 m).1 (zC.1 c).1 e _ _);rw[this]}
def z90 {t m g:Int}(a:zb2 t=m)(b:zc9 t=g)(c:0<=m):t=ze2 m g:=by subst a;subst b;by_cases h:1<=t/\t<=6;{have e:t=1\/t=2\/t=3\/t=4\/t=5\/t=6:=(by omega);rcases e with rfl|rfl|rfl|rfl|rfl|rfl<;>decide};{exfalso;have:zb2 t = -1:=(by unfold zb2 ige ile;rw[show (decide (t≥1)&&decide (t<=6))=false by simp;omega];rfl);omega}
def zV3 {t:List k0}{p q:Int}{s:k0}(h:q≠p):zbv (zev t p s) q=zbv t q:=by unfold zev;cases a:i0 p (ln t) with|false=>rfl|true=>exact zO6 (zC.1 a).1 h
def z4r {t:List k0}(h:zcT t 4 8=true)(p:Int):zdO (zbv t p) 8=true:=by unfold zbv;cases a:i0 p (ln t) with|false=>rfl|true=>exact(zmN.1 h).1 _ (zlI a _)
def z0z {x:ah}(X:GOk x)(p:Int):GOk (zd5 x p):=⟨X.prog,X.a,X.pc,X.w,zUd X.l<|z4r X.w p,X.ctl,X.pend,X.ex,X.seen⟩
def z3u {h:ac}(S:Safe h)(m g p:Int):SimT h (zh0 h m g p) m (λb=>chg b g (i0 p 4) (zd5 (gAt b g) p))/\zgN h m (zck (zL h m) g<|i0 p 4)=zck (zL h m) g (i0 p 4):=by
 refine⟨?_,zld S m (t:=λb=>zck b g (i0 p 4))<|zju g _⟩;unfold zh0 zcQ;rw[ziS.2 S.ok,cond_true];cases a:i0 m (ln h.aa) with
 |false=>refine(SimT.refl S m).congr ?_;rw[seen_none a,zpG];rfl
 |true=>
  rw[cond_true];cases w:zck (zL h m) g (i0 p 4) with
  |false=>refine(SimT.refl S m).congr ?_;show zL h m=chg (zL h m) g (i0 p 4) (zd5 (gAt (zL h m) g) p);have c:=w;unfold zck at c;unfold chg;rw[c];rfl
  |true=>rw[cond_true];have c:=w;unfold zck zcm at c;rw[zxM S.ok a,cond_true,zce,zft a]at c;have hg:i0 g (ln (ix h.aa m mZ).ad)=true:=c.1;have X:=S.ok.mon a;have G:=S.ok.seenG a hg;have C:chg (zL h m) g (i0 p 4) (zd5 (gAt (zL h m) g) p)=zeH (zL h m) g (zd5 (gOf h m g) p):=(by have l:=w;unfold zck at l;unfold chg;rw[l,ztu a hg];rfl);rw[C];have B:i0 g (ln (ix h.aa m mZ).ai)=true:=(by unfold ln;rw[X.gt];exact hg);have s:(zBu (zdj h m<|zeH (zL h m) g<|zd5 (gOf h m g) p) m g p).aa=up h.aa m {ix h.aa m mZ with ad:=up (ix h.aa m mZ).ad g (zd5 (gOf h m g) p),ai:=up (ix h.aa m mZ).ai g (zbW (ix (ix h.aa m mZ).ai g kZ) p)}:=(by show up (up h.aa m _) m _=_;rw[z2f];have D:ix (zdj h m<|zeH (zL h m) g<|zd5 (gOf h m g) p).aa m mZ=zuB (ix h.aa m mZ) (zeH (zL h m) g<|zd5 (gOf h m g) p):=zbk a _ _;rw[D];unfold zuB zeH;rw[zft a]);have kp:KeepP (ix h.aa m mZ) {ix h.aa m mZ with ad:=up (ix h.aa m mZ).ad g (zd5 (gOf h m g) p),ai:=up (ix h.aa m mZ).ai g (zbW (ix (ix h.aa m mZ).ai g kZ) p)}:=⟨rfl,rfl⟩;have K:MOk {ix h.aa m mZ with ad:=up (ix h.aa m mZ).ad g (zd5 (gOf h m g) p),ai:=up (ix h.aa m mZ).ai g (zbW (ix (ix h.aa m mZ).ai g kZ) p)}:=zk1 X kp (zbP _ _ _) (zbP _ _ _) rfl X.outs X.pend X.tr X.own λz L=>(by rcases qZ L with h|h;{exact X.gs z h};{rw [h];exact zsW.2 (z0z G p)});have E:HOk (zBu (zdj h m<|zeH (zL h m) g<|zd5 (gOf h m g) p) m g p):=S.ok.up a K s S.ok.m12 S.ok.pgs (zyc S.ok.b1 _) (zyc S.ok.b2 _) λq _=>.inl (qS _);have u:∀b:List aq,(∀e∈b,zb3 h e=true)->∀e∈zcA b (ze2 m g) p,zb3 (zBu (zdj h m<|zeH (zL h m) g<|zd5 (gOf h m g) p) m g p) e=true:=(by intro b F e H;obtain⟨x,y⟩:=zyo.1 H;obtain⟨l,n,r⟩:=zfb.1 (F e x);rw[zfb,s,zdU];refine⟨l,?_⟩;by_cases d:m=zb2 e.Tag;{rw [<- d]at l n r ⊢;rw[zbk a];show i0 (zc9 e.Tag) (ln<|up _ _ _)=true/\below' _ (zbj (zbv (ix (up (ix h.aa m mZ).ad g _) (zc9 e.Tag) gZ).ay e.af) (ix h.aa m mZ).ae)=true;rw[zdU];refine⟨n,?_⟩;by_cases f:g=zc9 e.Tag;{rw [<- f]at n r ⊢;rw[zbk hg];have A:e.af≠p:=λJ=>y ⟨z90 d.symm f.symm (zC.1 a).1,J⟩;show below' _ (zbj (zbv (zev (gOf h m g).ay p _) e.af) _)=true;rw[zV3 A];exact r};{rw [zbA (zC.1 hg).1 (zC.1 n).1 f];exact r}};{rw [zbA (zC.1 a).1 (zC.1 l).1 d];exact⟨n,r⟩});refine⟨⟨E,⟨λi v=>?_,u _ S.rt.e1,u _ S.rt.e2⟩⟩,λi=>?_,by rw[s,zbP]⟩;{rw [s]at v ⊢;rw[zdU]at v;by_cases d:m=i;{subst d;rw[zbk a];intro j I;show KOk (ix (up (ix h.aa m mZ).ai g _) j kZ) (ix (up (ix h.aa m mZ).ad g _) j gZ).ay (ix h.aa m mZ).ae;have k:i0 j (ln (ix h.aa m mZ).ad)=true:=(by have:i0 j (ln<|up (ix h.aa m mZ).ad g<|zd5 (gOf h m g) p)=true:=I;rwa [zdU] at this);by_cases e:g=j;{subst e;rw[zbk B,zbk hg];exact z0K (S.rt.t m a g hg) p _};{rw [zbA (zC.1 hg).1 (zC.1 k).1 e,zbA (zC.1 hg).1 (zC.1 k).1 e];exact S.rt.t m a j k}};{rw [zbA (zC.1 a).1 (zC.1 v).1 d];exact S.rt.t i v}};{refine(zue (h:=h) a s rfl kp i).trans ?_;by_cases e:i=m;{subst e;rw[zbt.2 rfl,cond_true,cond_true,C,zft a];rfl};{rw [zbV.2 e];rfl}}
def zPi (g:Int):zim ⟨[],[],[],0⟩ g=⟨[],[],[],0⟩/\zlz ⟨[],[],[],0⟩ g=false:=by have:zlz ⟨[],[],[],0⟩ g=false:=(by unfold zlz;rw[zWN];rfl);refine⟨?_,this⟩;unfold zim;rw[this];rfl
def z3B {h:ac}(S:Safe h)(a:GAct):SimT h (zry h a) a.M (λb=>zIr b a)/\zBK h a=zIs (zL h a.M) a:=by
 have f:=zsZ;unfold zry zBK zIr zIs;cases ieq a.Kind 1 with
 |true=>obtain⟨k,e⟩:=step_ok S a.M a.G;exact⟨k,by rw[cond_true,cond_true,e]⟩
 |false=>
  simp only[cond_false];cases ieq a.Kind 2 with
  |true=>
   exact⟨zpZ S a.M (F:=λb=>chg b a.G (zwm a.X ⟨a.Y,a.Z⟩) (zCC (gAt b a.G) a.X ⟨a.Y,a.Z⟩)) (λb c=>zrg c λ_ d G=>z7S G d)<|zpG _ _ _,
    congrArg (λt=>aE.mk t 0) (zld S a.M (t:=λb=>zck b a.G (zwm a.X ⟨a.Y,a.Z⟩))<|zju _ _)⟩
  |false=>
   simp only[cond_false];cases ieq a.Kind 3 with
   |true=>obtain⟨k,e⟩:=z3u S a.M a.G a.X;exact⟨k,congrArg (λt=>aE.mk t 0) e⟩
   |false=>
    simp only[cond_false];cases ieq a.Kind 4 with
    |true=>
     exact⟨zpZ S a.M (F:=λb=>chg b a.G (zvS (gAt b a.G) a.X) (zx8 (gAt b a.G) a.X)) (λb c=>zrg c λ_ d G=>z7P G d)<|zpG _ _ _,
      congrArg (λt=>aE.mk t 0) (zld S a.M (t:=λb=>zck b a.G (zvS (gAt b a.G) a.X))<|zju _ _)⟩
    |false=>
     simp only[cond_false];cases ieq a.Kind 5 with
     |true=>
      exact⟨zpZ S a.M (F:=λb=>chg b a.G (zCd<|gAt b a.G) (zyT<|gAt b a.G)) (λb c=>zrg c λ_ _ G=>z7R G)<|zpG _ _ _,
       congrArg (λt=>aE.mk t 0) (zld S a.M (t:=λb=>zck b a.G (zCd<|gAt b a.G))<|zju _ _)⟩
     |false=>
      simp only[cond_false];cases ieq a.Kind 6 with
      |true=>
       exact⟨zpZ S a.M (F:=λb=>chg b a.G (zhx (gAt b a.G).an a.X) (zoe (gAt b a.G) a.X)) (λb c=>zrg c λ_ _ G=>zWC G _)<|zpG _ _ _,
        congrArg (λt=>aE.mk t 0) (zld S a.M (t:=λb=>zck b a.G (zhx (gAt b a.G).an a.X))<|zju _ _)⟩
      |false=>
       simp only[cond_false];cases ieq a.Kind 7 with
       |true=>
        exact⟨zpZ S a.M (F:=λb=>chg b a.G (zlB ⟨a.X,a.Y,ieq a.Z 1⟩) (zLp (gAt b a.G) ⟨a.X,a.Y,ieq a.Z 1⟩)) (λb c=>zrg c λ_ d G=>z7Q G d)<|zpG _ _ _,
         congrArg (λt=>aE.mk t 0) (zld S a.M (t:=λb=>zck b a.G (zlB ⟨a.X,a.Y,ieq a.Z 1⟩))<|zju _ _)⟩
       |false=>
        simp only[cond_false];cases ieq a.Kind 8 with
        |true=>obtain⟨k,e⟩:=z4e S a.M a.X a.Y a.Z;exact⟨k,congrArg (λt=>aE.mk t 0) e⟩
        |false=>
         simp only[cond_false];cases ieq a.Kind 9 with
         |true=>
          exact⟨zpZ S a.M (F:=λb=>zkM b a.X) (λb c=>zXy c _) (by unfold zkM zfR;rw[f];rfl),
           congrArg (λt=>aE.mk t 0) (zld S a.M (t:=λb=>zfR b a.X) (by unfold zfR;rw[f];rfl))⟩
         |false=>
          simp only[cond_false];cases ieq a.Kind 10 with
          |true=>refine⟨zpZ S a.M (F:=zm9) (λb c=>zZI c) (by unfold zm9;rw[f];rfl),?_⟩;have e:=zld S a.M (t:=zmQ) (by unfold zmQ;rw[f];rfl);show aE.mk (zgN h a.M<|zmQ<|zL h a.M) (cond (zcQ h a.M) (zth<|zL h a.M)<|-1)=⟨zmQ<|zL h a.M,zth<|zL h a.M⟩;rw[e];congr 1;unfold zcQ;rw[ziS.2 S.ok,cond_true];cases j:i0 a.M (ln h.aa) with|true=>rfl|false=>rw[seen_none j];unfold zth;rw[f];rfl
          |false=>
           simp only[cond_false];cases ieq a.Kind 11 with
           |true=>obtain⟨k,e⟩:=z9B S a.M a.G a.X a.Y;exact⟨k,congrArg (λt=>aE.mk t 0) e⟩
           |false=>obtain⟨k,g,i⟩:=z8w S a.M a.G a.X;exact⟨k,by simp only[cond_false];rw[g,i]⟩
def z3V {h:ac}(S:Safe h)(a:GAct):Safe (zk8 h a)/\(∀i,zL (zk8 h a) i=zL h i)/\(zk8 h a).aa.length=h.aa.length:=by
 unfold zk8;have k:∀r,Op h r->Safe r/\(∀i,zL r i=zL h i)/\r.aa.length=h.aa.length:=λr k=>⟨k.safe S,λi=>k.like.seen i,k.like.len⟩;cases ieq a.Kind 13 with
 |true=>exact k _ (zYE S.ok _ _)
 |false=>
  simp only[cond_false];cases ieq a.Kind 14 with
  |true=>exact k _ (z1c S.ok _ _)
  |false=>
   simp only[cond_false];cases ieq a.Kind 15 with
   |true=>exact k _ (z1b S.ok _ _)
   |false=>
    simp only[cond_false];cases ieq a.Kind 16 with
    |true=>obtain⟨b,c⟩:=zQu S a.M a.X;refine⟨b,c,?_⟩;simp only[cond_true];unfold zhH;cases zbT h<;>cases i0 a.M (ln h.aa)<;>cases zk a.X 0 3<;>first|rfl|exact zbP _ _ _
    |false=>exact k _ (z8q S.ok)
def zkK (a:GAct):Bool:=bif zk a.Kind 1 17 then !zk a.Kind 13 17 else false
def zQ9 {h:ac}(S:Safe h)(a:GAct):Safe (zeh h a)/\(zeh h a).aa.length=h.aa.length/\
 (∀i,zL (zeh h a) i=bif (cond (zkK a) (ieq i a.M) false) then zIr (zL h i) a else zL h i)/\(zkK a=true->ziI h a=zIs (zL h a.M) a):=by
 unfold zeh ziI zkK;cases zk a.Kind 1 17 with
 |false=>exact⟨S,rfl,λ_=>rfl,λe=>by cases e⟩
 |true=>
  simp only[cond_true];cases zk a.Kind 13 17 with
  |true=>obtain⟨b,c,d⟩:=z3V S a;exact⟨b,d,λi=>by simp only[cond_true,uA,cond_false];exact c i,λe=>by cases e⟩
  |false=>obtain⟨k,e⟩:=z3B S a;exact⟨k.safe,k.len,λi=>by simp only[cond_false,Bool.not_false,cond_true];exact k.seen i,λ_=>e⟩
def zdL (h:ac):List ao:=(List.range h.aa.length).map λ(i:Nat)=>zL h (i:Int)
def zkl (h:ac):(zdL h).length=h.aa.length:=by simp[zdL]
def zmm (h:ac)(m:Int):i0 m (ln<|zdL h)=i0 m (ln h.aa):=by unfold ln;rw[zkl]
def zly {h:ac}{m:Int}(c:i0 m (ln h.aa)=true)(d:ao):ix (zdL h) m d=zL h m:=by have a:=zC.1 c;unfold ln at a;have b:m.toNat<(zdL h).length:=(by rw[zkl];omega);have:=zj2 b d;rw[show ((m.toNat:Nat):Int)=m by omega] at this;rw[this];simp[zdL,show max m 0=m by omega]
def zXu {h r:ac}(a:r.aa.length=h.aa.length)(e:∀i,zL r i=zL h i):zdL r=zdL h:=by unfold zdL;rw[a];exact List.map_congr_left λi _=>e _
def zUR {h:ac}(S:Safe h)(a:GAct):zdL (zeh h a)=zIt (zdL h) a/\(zkK a=true->ziI h a=zXx (zdL h) a):=by obtain⟨_,k,l,t⟩:=zQ9 S a;have p:zkK a=true->zdL (zeh h a)=(cond (i0 a.M<|ln h.aa) (up (zdL h) a.M<|zIr (zL h a.M) a)<|zdL h):=(by intro b;rw[b]at l;cases f:i0 a.M (ln h.aa) with|false=>rw[cond_false];refine zM1 ⟨[],[],[],0⟩ (by rw[zkl,zkl,k]) λi c=>?_;rw[zmm]at c;rw[zly c];have d:i0 i (ln h.aa)=true:=(by unfold ln at c ⊢;rwa [<- k]);rw[zly d,l i];have:ieq i a.M=false:=zbV.2 λe=>(by rw[e,f]at d;cases d);rw[this];rfl|true=>rw[cond_true];refine zM1 ⟨[],[],[],0⟩ (by rw[zbP,zkl,zkl,k]) λi c=>?_;rw[zmm]at c;rw[zly c,l i];have d:i0 i (ln h.aa)=true:=(by unfold ln at c ⊢;rwa [<- k]);by_cases e:i=a.M;{rw [e,zbt.2 rfl,zbk (by rw[zmm];exact f)];rfl};{rw [zbV.2 e,zbA (zC.1 f).1 (zC.1 d).1<|Ne.symm e,zly d];rfl});have s:zkK a=false->zdL (zeh h a)=zdL h:=λb=>zXu k λi=>(by rw[l i,b];rfl);have r:zkK a=true->zk a.Kind 1 17=true/\zk a.Kind 13 17=false:=(by intro b;unfold zkK at b;cases g:zk a.Kind 1 17<;>cases j:zk a.Kind 13 17<;>rw [g,j]at b<;>first|exact⟨rfl,rfl⟩|cases b);constructor;{unfold zIt;cases b:zkK a with|true=>obtain⟨g,j⟩:=r b;rw[g,j,cond_true,cond_false,zmm,p b];(cases f:i0 a.M (ln h.aa) with|true=>rw[cond_true,cond_true,zly f]|false=>rfl)|false=>rw[s b];unfold zkK at b;(cases g:zk a.Kind 1 17 with|false=>rfl|true=>(cases j:zk a.Kind 13 17 with|true=>rfl|false=>rw[g,j]at b;cases b))};{intro b;rw[t b];obtain⟨g,j⟩:=r b;unfold zXx;rw[g,j,cond_true,cond_false,zmm];cases f:i0 a.M (ln h.aa) with|true=>rw[cond_true,zly f]|false=>rw[cond_false,seen_none f];have n:=(zPi a.G).2;have q:=zsZ;unfold zIs;simp only[n,zju];unfold zxd zfR zmQ zth zym zQU zn7;simp only[q,zti q,cond_false];(cases m:ieq a.Kind 10 with|true=>have:a.Kind=10:=zbt.1 m;rw[this];rfl|false=>cases ieq a.Kind 1<;>cases ieq a.Kind 2<;>cases ieq a.Kind 3<;>cases ieq a.Kind 4<;>cases ieq a.Kind 5<;>cases ieq a.Kind 6<;>cases ieq a.Kind 7<;>cases ieq a.Kind 8<;>cases ieq a.Kind 9<;>cases ieq a.Kind 11<;>rfl)}
def zJK:List GAct->List aE->List aE
 |a::l,t::ts=>bif zkK a then t::zJK l ts else zJK l ts
 |_,_=>[]
structure ay (u:ac×List aE) (v:List ao×List aE):Prop where
 safe:Safe u.1
 seen:zdL u.1=v.1
def zCN:List GAct->ac->List aE
 |[],_=>[]
 |a::l,h=>ziI h a::zCN l (zeh h a)
def z2c:List GAct->List ao->List aE
 |[],_=>[]
 |a::l,b=>zXx b a::z2c l (zIt b a)
def zuL:List GAct->ac->ac
 |[],h=>h
 |a::l,h=>zuL l (zeh h a)
def z3q:List GAct->List ao->List ao
 |[],b=>b
 |a::l,b=>z3q l (zIt b a)
def zW2:∀(l:List GAct) (u:ac×List aE),zyV l u=(zuL l u.1,u.2++zCN l u.1)
 |[],u=>by simp[zyV,zuL,zCN]
 |a::l,u=>by rw[zyV,zW2 l];simp[zuL,zCN,ap]
def z0o:∀(l:List GAct) {h:ac},Safe h->Safe (zuL l h)/\zdL (zuL l h)=z3q l (zdL h)/\zJK l (zCN l h)=zJK l (z2c l<|zdL h)/\(zuL l h).aa.length=h.aa.length
 |[],h,S=>⟨S,rfl,rfl,rfl⟩
 |a::l,h,S=>by have d:=zQ9 S a;have b:=zUR S a;obtain⟨e,f,c,g⟩:=z0o l d.1;refine⟨e,by show zdL (zuL l<|zeh h a)=z3q l (zIt (zdL h) a);rw[f,b.1],?_,g.trans d.2.1⟩;show (cond (zkK a) _ _)=(cond (zkK a) _ _);cases i:zkK a with|false=>rw[cond_false,cond_false,c,b.1]|true=>rw[cond_true,cond_true,c,b.1,b.2 i]
def cz8 (q:Int)(b:0<=q):zug.countP (λs=>ieq s.af q)=0:=by rw[vF];intro s a;have:=(uU.1 a).2;rw[this];show ¬ ieq (-1) q=true;rw[zbt];omega
def zU8 {p:List Ins}(h:zdo p=true):GOk (ze3 p):=⟨h,rfl,rfl,rfl,rfl,rfl,rfl,rfl,rfl⟩
def z04 {a:List (List Ins)}(i:1<=a.length)(h:∀p∈a,zdo p=true):MOk (zg0 a):=by have d:∀s∈zug,s=C0:=λs c=>(uU.1 c).2;refine⟨?_,?_,?_,rfl,λs c=>.inl (d s c),rfl,rfl,jU _,rfl,rfl,rfl,λg hg=>?_,λp b=>?_⟩;{show 1<=((a.take 2).map ze3).length;simp;omega};{show ((a.take 2).map ze3).length<=2;simp;omega};{show ((a.take 2).map λ_=>zkq).length=((a.take 2).map ze3).length;simp};{obtain⟨p,b,rfl⟩:=jF.1 hg;exact zsW.2 (zU8<|h p<|jZ b)};{have f:=zC.1 b;have e:p=0\/p=1\/p=2\/p=3\/p=4\/p=5\/p=6\/p=7:=(by omega);rcases e with rfl|rfl|rfl|rfl|rfl|rfl|rfl|rfl<;>rfl}
def z6R (a:List (List<|List Ins)):Prop:=1<=a.length/\∀p∈a,1<=p.length/\∀x∈p,zdo x=true
def zJH {a:List (List<|List Ins)}(h:z6R a):Safe (zfQ a):=by have b:∀x∈(zfQ a).aa,∃p∈a,x=zg0 p:=λx f=>(by obtain⟨p,j,rfl⟩:=jF.1 f;exact⟨p,jZ j,rfl⟩);have u:∀x∈(zfQ a).aa,x.ae=zug:=λx f=>(by obtain⟨p,_,rfl⟩:=b x f;rfl);have H:HOk (zfQ a):=(by refine⟨rfl,λc v=>?_,?_,?_,rfl,rfl,λx f=>?_,λq B=>?_⟩;{have:c=[0,0,0,0]:=(uU.1 v).2;rw[this];rfl};{show 1<=((a.take 3).map zg0).length;have:=h.1;simp;omega};{show ((a.take 3).map zg0).length<=3;simp;omega};{obtain⟨p,j,rfl⟩:=b x f;exact z04 (h.2 p j).1 (h.2 p j).2};{have:zeK (zfQ a).aa q=0:=(by unfold zeK;have:(zfQ a).aa.map (λx=>cPg x q)=(zfQ a).aa.map (λ_=>0):=List.map_congr_left λx f=>(by unfold cPg;rw[u x f];exact cz8 q B);rw[this];generalize (zfQ a).aa=l;induction l with|nil=>rfl|cons x l D=>rw[jG,uQ,D]);omega});refine⟨H,λm A g hg=>?_,λe r=>(by cases r),λe r=>(by cases r)⟩;obtain⟨p,j,e⟩:=b _ (zlI A mZ);rw[e]at hg ⊢;have d:i0 g (ln<|(p.take 2).map ze3)=true:=hg;have C:ix (zg0 p).ai g kZ=zkq:=(by have:i0 g (ln<|(p.take 2).map λ_=>zkq)=true:=(by unfold ln at d ⊢;simpa using d);obtain⟨k,y,_,n⟩:=zuY this kZ;show ix ((p.take 2).map λ_=>zkq) g kZ=_;rw[n];simp);have z:(ix (zg0 p).ad g gZ).ay=zlu:=(by obtain⟨k,y,_,n⟩:=zuY d gZ;show (ix ((p.take 2).map ze3) g gZ).ay=_;rw[n];simp[ze3]);rw[C,z];show KOk zkq zlu zug;refine⟨rfl,rfl,λi w=>?_⟩;have s:=zC.1 w;have:ln zlu=4:=rfl;rw[this]at s;have t:i=0\/i=1\/i=2\/i=3:=(by omega);rcases t with rfl|rfl|rfl|rfl<;>rfl
def zXc:∀(l:List GAct) (u:ac×List aE),SmH u.1->SmH (zyV l u).1
 |[],u,h=>h
 |a::l,u,h=>zXc l (zeh u.1 a,ap u.2 [ziI u.1 a]) (zXa h)
def zS0 {h:ac}(L:zx6 h):Safe h/\SmH h:=by obtain⟨c,l,a,b,rfl⟩:=L;refine⟨?_,zXc _ _<|zXb a⟩;unfold ztD;rw[zW2];exact(z0o _<|zJH b).1
def zZV:zbf:=zZT
def zuG:zN zZV:=zZU
end
end Go.Proofs.YtapgkefgcbapcaaGreat.E
