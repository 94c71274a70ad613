/- What is proved here: a part of the proof that the statement of this claim holds. -/
import Derived.Test.YtjapbkodhfpbbaaGreatU6
namespace Go.Proofs.YtjapbkodhfpbbaaGreat.E
open Go
set_option linter.defProp false
set_option linter.constructorNameAsVariable false
set_option linter.unusedVariables false
set_option maxRecDepth 100000
set_option linter.unusedSimpArgs false
set_option linter.unusedSectionVars false
noncomputable section
def zbdh:zbb:=[(347,znO),(261,zkU)]++z8Z
def zIc:zU zbdh:=zi zpj (zi zvA zfo)
def zET {g:Type}{c e:Cur}(h:zbj c)(j:0<=e.i){P:g->Prop}{q:Int}(A:0<q)(M:q<=1000){fc:Cur->Bool}{fs:Cur->Cur}{fv:Cur->g}(E:∀{c:Cur},zbj c->fc c=true)(H:∀c,0<=(fs c).i)(hg:∀{c:Cur},zbj c->P (fv c)){G:Ans->Prop}{l0:List g}{z:Nat}(O:l0.length<=z)(I:z<=1000)(m:∀x∈l0,P x){p:Type}(S:Nat->Int×Int×Int×List g->p){F:(p->OA)->p->OA}(D:∀rec t i k l,∃r,F rec (S 0 (t,i,k,l))=(bif zD ⟨c.b,i,k⟩ q then (bif ilt t (zy ⟨c.b,i,k⟩ q) then (bif fc {zf ⟨c.b,i,k⟩ q with b:=c.b} then (bif few (ln (ap l [fv {zf ⟨c.b,i,k⟩ q with b:=c.b}])) then
        rec (S 0 (zQ .i64 t 1,(fs {zf ⟨c.b,i,k⟩ q with b:=c.b}).i,(fs {zf ⟨c.b,i,k⟩ q with b:=c.b}).h,ap l [fv {zf ⟨c.b,i,k⟩ q with b:=c.b}])) else none) else none) else some r) else none)/\(ln l<=z+q->(∀x∈l,P x)->G r)):Ends G (iter 1002 F (S 0 (0,e.i,e.h,l0))):=by
 refine zor (fun n s=>∃t i k l,s=S 0 (t,i,k,l)/\t+(n:Int)=1000/\0<=t/\t<=q/\0<=i/\(∀x∈l,P x)/\ln l<=z+t) ?_ 1002 1000 _ ⟨0,e.i,e.h,l0,rfl,rfl,kN 0,by omega,j,m,by unfold ln;omega⟩ (by omega)
 rintro n s rec ⟨t,i,k,l,rfl,J,B,K,C,u,L⟩ f
 obtain⟨r,hF1,hF2⟩:=D rec t i k l;rw[hF1];have a:zbj ⟨c.b,i,k⟩:=zbV h C;have d:=zhm a A;have v:zbj {zf ⟨c.b,i,k⟩ q with b:=c.b}:=zbV h (zI _ _);refine zG (zbG a _) (zbI (fun w=>?_) (fun w=>?_))
 .have hlt:t<zy ⟨c.b,i,k⟩ q:=qD w;have N:=zi4 (y:=1) B (by omega) (by omega) (by omega)
  refine zG (E v) (zG (zmL (by rw[zjw];omega)) (f (n-1) _ (by omega) ⟨_,_,_,_,rfl,by omega,by omega,by omega,H _,?_,by rw[zjw];omega⟩))
  intro x d;rcases jO.1 d with d|d
  .exact u x d
  .rw [qF.1 d];exact hg v
 .exact zpY (hF2 (by omega) u)
def zbcu {c d:Cur}(h:zbj c)(f:0<=d.i){m q x:Int}(t:0<q)(g:0<=m)(D:m+q<=1000){G:Ans->Prop}{l0:LI}(B:ln l0<=m+q){j:Type}(S:Nat->Int×Int×LI->j){F:(j->OA)->j->OA}(w:∀rec i k l,∃r,F rec (S 0 (i,k,l))=(bif zD ⟨c.b,i,k⟩ q then (bif ilt (ln l) (zQ .i64 m (zy ⟨c.b,i,k⟩ q)) then (bif few (ln (ap l [x])) then
        rec (S 0 ((zf ⟨c.b,i,k⟩ q).i,(zf ⟨c.b,i,k⟩ q).h,ap l [x])) else none) else some r) else none)/\(ln l<=m+q->G r)):Ends G (iter 1002 F (S 0 (d.i,d.h,l0))):=by
 refine zor (fun n s=>∃i k l,s=S 0 (i,k,l)/\ln l+(n:Int)=1000/\0<=i/\ln l<=m+q) ?_ 1002 (1000-ln l0).toNat _ ⟨d.i,d.h,l0,rfl,by unfold ln at *;omega,f,B⟩ (by unfold ln at *;omega)
 rintro n s rec ⟨i,k,l,rfl,C,u,v⟩ e
 obtain⟨r,hF1,hF2⟩:=w rec i k l;rw[hF1];have a:zbj ⟨c.b,i,k⟩:=zbV h u;have A:=zhm a t;have z:=zi4 (x:=m) (y:=zy ⟨c.b,i,k⟩ q) g (by omega) A.1 (by omega)
 refine zG (zbG a _) (zbI (fun p=>?_) (fun p=>?_))
 .have hlt:ln l<zQ .i64 m (zy ⟨c.b,i,k⟩ q):=qD p;rw[z]at hlt;exact zG (zmL (by rw[zjw];omega)) (e (n-1) _ (by unfold ln at *;omega) ⟨_,_,_,rfl,by rw[zjw];omega,zI _ _,by rw[zjw];omega⟩)
 .exact zpY (hF2 v)
def GuS (g:Guest):Prop:=g.Prog.length<=13/\g.Written.length<=4/\g.Live.length<=4/\g.Seen.length<=50
def zEC {c:Cur}(h:zbj c):(zel c 4 8).length<=4:=by have:=(zbbM h (n:=4) (m:=8) (by omega) (by omega) (by omega) (by omega)).1;unfold ln at this;omega
def zvf (N:Nat)(c:Cur)  : OA :=
 let C:=({(zbd c) with b:=c.b}:Cur);let v:=zel C 4 8;let d:=zcY<|zcu c;let y9:=({(zL C 4 8) with b:=c.b}:Cur);let x:=zel y9 4 8;let y2:=({(zL y9 4 8) with b:=c.b}:Cur);let w:=zy y2 100;let B:=({(zf y2 100) with b:=c.b}:Cur);let y:=zy B 4;let y0:=({(zf B 4) with b:=c.b}:Cur);let I:=({(zcQ y0) with b:=c.b}:Cur);let e:=zc9 y0;let A:=({(zW I 3) with b:=c.b}:Cur);let H:=({(zf A 256) with b:=c.b}:Cur);let r:=({(zW A 4) with b:=c.b}:Cur);let u:=({(zgH r) with b:=c.b}:Cur);let q:=({(zW H 4) with b:=c.b}:Cur);let t:=({(zgH q) with b:=c.b}:Cur); (oN (ziP c)<|oN (zkX<|zcu c)<|oN (zjq C 4 8)<|oN (zjq y9 4 8)<|oN (zD y2 100)<|oN (zD B 4)<|oN (zlQ y0)<|oN (zdI I 3)<|cond (zdW I 3) (oN (zD A 256)<|oN (zdI H 4)<|cond (zdW H 4) (oN (zkr q)<|oN (zdI t 12)<|iter (σ:=(Int×Int×Int×Int×Int×Int×Int×Bool×Int×Int×Int×Bool×Int×Bool×Int×Int×Int×Int×Bool×Int×Int×Int×Bool×Int×Bool×LI×lI×lS×lS×LI×lI×lS×lS×LI×Unit)) N (λz a=>let d6:=a.2.2.2.2.2.2.2.2.2.2.2.2.2.2.1;let d2:=a.2.2.2.2.2.2.2.2.2.2.2.2.2.2.2.1;let c8:=a.2.2.2.2.2.2.2.2.2.2.2.2.2.2.2.2.1;let c4:=a.2.2.2.2.2.2.2.2.2.2.2.2.2.2.2.2.2.1;let c0:=a.2.2.2.2.2.2.2.2.2.2.2.2.2.2.2.2.2.2.1;let b6:=a.2.2.2.2.2.2.2.2.2.2.2.2.2.2.2.2.2.2.2.1;let b2:=a.2.2.2.2.2.2.2.2.2.2.2.2.2.2.2.2.2.2.2.2.1;let a8:=a.2.2.2.2.2.2.2.2.2.2.2.2.2.2.2.2.2.2.2.2.2.1;let a4:=a.2.2.2.2.2.2.2.2.2.2.2.2.2.2.2.2.2.2.2.2.2.2.1;let a0:=a.2.2.2.2.2.2.2.2.2.2.2.2.2.2.2.2.2.2.2.2.2.2.2.1;let W:=a.2.2.2.2.2.2.2.2.2.2.2.2.2.2.2.2.2.2.2.2.2.2.2.2.1;let S:=a.2.2.2.2.2.2.2.2.2.2.2.2.2.2.2.2.2.2.2.2.2.2.2.2.2.2.2.2.2.2.1;let O:=a.2.2.2.2.2.2.2.2.2.2.2.2.2.2.2.2.2.2.2.2.2.2.2.2.2.2.2.2.2.2.2.1;let J:=a.2.2.2.2.2.2.2.2.2.2.2.2.2.2.2.2.2.2.2.2.2.2.2.2.2.2.2.2.2.2.2.2.1;let D:=a.2.2.2.2.2.2.2.2.2.2.2.2.2.2.2.2.2.2.2.2.2.2.2.2.2.2.2.2.2.2.2.2.2.1;let y4:=a.2.2.2.2.2.2.2.2.2.2.2.2.2.2.2.2.2.2.2.2.2.2.2.2.2.1;let l:=(⟨y4,a.2.1,a.2.2.1⟩:Cur);let f:=({(zf l 4) with b:=y4}:Cur); (oN (zD l 4)<|cond (ilt a.1<|zy l 4) (oN (zD f 100)<|oN (few<|ln<|ap D [zy f 100])<|z (zQ .i64 a.1 1,(zf f 100).i,(zf f 100).h,a.2.2.2.1,a.2.2.2.2.1,a.2.2.2.2.2.1,a.2.2.2.2.2.2.1,a.2.2.2.2.2.2.2.1,a.2.2.2.2.2.2.2.2.1,a.2.2.2.2.2.2.2.2.2.1,a.2.2.2.2.2.2.2.2.2.2.1,a.2.2.2.2.2.2.2.2.2.2.2.1,a.2.2.2.2.2.2.2.2.2.2.2.2.1,a.2.2.2.2.2.2.2.2.2.2.2.2.2.1,d6,d2,c8,c4,c0,b6,b2,a8,a4,a0,W,y4,a.2.2.2.2.2.2.2.2.2.2.2.2.2.2.2.2.2.2.2.2.2.2.2.2.2.2.1,a.2.2.2.2.2.2.2.2.2.2.2.2.2.2.2.2.2.2.2.2.2.2.2.2.2.2.2.1,a.2.2.2.2.2.2.2.2.2.2.2.2.2.2.2.2.2.2.2.2.2.2.2.2.2.2.2.2.1,a.2.2.2.2.2.2.2.2.2.2.2.2.2.2.2.2.2.2.2.2.2.2.2.2.2.2.2.2.2.1,S,O,J,ap D [zy f 100],()))<|some [.agg [.s .u8 y4,.i .i64 (zf l 4).i,.i .i64 (zf l 4).h],aT .guest (⟨S,d6,d2,O,J,⟨c8,c4,c0⟩,b6,⟨b2,a8,a4,a0⟩,W,D⟩:Guest)])) (0,(zW t 12).i,(zW t 12).h,0,0,0,0,false,0,0,0,false,0,false,w,y,e.Traps,e.Post,e.Open,zy A 256,(zcH q).Kind,(zcH q).Page,(zcH q).Write,(zcH q).N,zdW t 12,c.b,[],[],[],[],d.Prog,v,x,d.Seen,()))<|oN (zdI q 12)<|iter (σ:=(Int×Int×Int×Int×Int×Int×Int×Bool×Int×Int×Int×Bool×Int×Bool×Int×Int×Int×Int×Bool×Int×Int×Int×Bool×Int×Bool×LI×lI×lS×lS×LI×lI×lS×lS×LI×Unit)) N (λz a=>let d7:=a.2.2.2.2.2.2.2.2.2.2.2.2.2.2.1;let d3:=a.2.2.2.2.2.2.2.2.2.2.2.2.2.2.2.1;let c9:=a.2.2.2.2.2.2.2.2.2.2.2.2.2.2.2.2.1;let c5:=a.2.2.2.2.2.2.2.2.2.2.2.2.2.2.2.2.2.1;let c1:=a.2.2.2.2.2.2.2.2.2.2.2.2.2.2.2.2.2.2.1;let b7:=a.2.2.2.2.2.2.2.2.2.2.2.2.2.2.2.2.2.2.2.1;let b3:=a.2.2.2.2.2.2.2.2.2.2.2.2.2.2.2.2.2.2.2.2.1;let a9:=a.2.2.2.2.2.2.2.2.2.2.2.2.2.2.2.2.2.2.2.2.2.1;let a5:=a.2.2.2.2.2.2.2.2.2.2.2.2.2.2.2.2.2.2.2.2.2.2.1;let a1:=a.2.2.2.2.2.2.2.2.2.2.2.2.2.2.2.2.2.2.2.2.2.2.2.1;let X:=a.2.2.2.2.2.2.2.2.2.2.2.2.2.2.2.2.2.2.2.2.2.2.2.2.1;let T:=a.2.2.2.2.2.2.2.2.2.2.2.2.2.2.2.2.2.2.2.2.2.2.2.2.2.2.2.2.2.2.1;let P:=a.2.2.2.2.2.2.2.2.2.2.2.2.2.2.2.2.2.2.2.2.2.2.2.2.2.2.2.2.2.2.2.1;let K:=a.2.2.2.2.2.2.2.2.2.2.2.2.2.2.2.2.2.2.2.2.2.2.2.2.2.2.2.2.2.2.2.2.1;let E:=a.2.2.2.2.2.2.2.2.2.2.2.2.2.2.2.2.2.2.2.2.2.2.2.2.2.2.2.2.2.2.2.2.2.1;let y5:=a.2.2.2.2.2.2.2.2.2.2.2.2.2.2.2.2.2.2.2.2.2.2.2.2.2.1;let m:=(⟨y5,a.2.1,a.2.2.1⟩:Cur);let g:=({(zf m 4) with b:=y5}:Cur); (oN (zD m 4)<|cond (ilt a.1<|zy m 4) (oN (zD g 100)<|oN (few<|ln<|ap E [zy g 100])<|z (zQ .i64 a.1 1,(zf g 100).i,(zf g 100).h,a.2.2.2.1,a.2.2.2.2.1,a.2.2.2.2.2.1,a.2.2.2.2.2.2.1,a.2.2.2.2.2.2.2.1,a.2.2.2.2.2.2.2.2.1,a.2.2.2.2.2.2.2.2.2.1,a.2.2.2.2.2.2.2.2.2.2.1,a.2.2.2.2.2.2.2.2.2.2.2.1,a.2.2.2.2.2.2.2.2.2.2.2.2.1,a.2.2.2.2.2.2.2.2.2.2.2.2.2.1,d7,d3,c9,c5,c1,b7,b3,a9,a5,a1,X,y5,a.2.2.2.2.2.2.2.2.2.2.2.2.2.2.2.2.2.2.2.2.2.2.2.2.2.2.1,a.2.2.2.2.2.2.2.2.2.2.2.2.2.2.2.2.2.2.2.2.2.2.2.2.2.2.2.1,a.2.2.2.2.2.2.2.2.2.2.2.2.2.2.2.2.2.2.2.2.2.2.2.2.2.2.2.2.1,a.2.2.2.2.2.2.2.2.2.2.2.2.2.2.2.2.2.2.2.2.2.2.2.2.2.2.2.2.2.1,T,P,K,ap E [zy g 100],()))<|some [.agg [.s .u8 y5,.i .i64 (zf m 4).i,.i .i64 (zf m 4).h],aT .guest (⟨T,d7,d3,P,K,⟨c9,c5,c1⟩,b7,⟨b3,a9,a5,a1⟩,X,E⟩:Guest)])) (0,(zW q 12).i,(zW q 12).h,0,0,0,0,false,0,0,0,false,0,false,w,y,e.Traps,e.Post,e.Open,zy A 256,d.Exit.Kind,d.Exit.Page,d.Exit.Write,d.Exit.N,zdW q 12,c.b,[],[],[],[],d.Prog,v,x,d.Seen,()))<|oN (zdI A 4)<|cond (zdW A 4) (oN (zkr r)<|oN (zdI u 12)<|iter (σ:=(Int×Int×Int×Int×Int×Int×Int×Bool×Int×Int×Int×Bool×Int×Bool×Int×Int×Int×Int×Bool×Int×Int×Int×Bool×Int×Bool×LI×lI×lS×lS×LI×lI×lS×lS×LI×Unit)) N (λz a=>let d8:=a.2.2.2.2.2.2.2.2.2.2.2.2.2.2.1;let d4:=a.2.2.2.2.2.2.2.2.2.2.2.2.2.2.2.1;let d0:=a.2.2.2.2.2.2.2.2.2.2.2.2.2.2.2.2.1;let c6:=a.2.2.2.2.2.2.2.2.2.2.2.2.2.2.2.2.2.1;let c2:=a.2.2.2.2.2.2.2.2.2.2.2.2.2.2.2.2.2.2.1;let b8:=a.2.2.2.2.2.2.2.2.2.2.2.2.2.2.2.2.2.2.2.1;let b4:=a.2.2.2.2.2.2.2.2.2.2.2.2.2.2.2.2.2.2.2.2.1;let b0:=a.2.2.2.2.2.2.2.2.2.2.2.2.2.2.2.2.2.2.2.2.2.1;let a6:=a.2.2.2.2.2.2.2.2.2.2.2.2.2.2.2.2.2.2.2.2.2.2.1;let a2:=a.2.2.2.2.2.2.2.2.2.2.2.2.2.2.2.2.2.2.2.2.2.2.2.1;let Y:=a.2.2.2.2.2.2.2.2.2.2.2.2.2.2.2.2.2.2.2.2.2.2.2.2.1;let U:=a.2.2.2.2.2.2.2.2.2.2.2.2.2.2.2.2.2.2.2.2.2.2.2.2.2.2.2.2.2.2.1;let Q:=a.2.2.2.2.2.2.2.2.2.2.2.2.2.2.2.2.2.2.2.2.2.2.2.2.2.2.2.2.2.2.2.1;let L:=a.2.2.2.2.2.2.2.2.2.2.2.2.2.2.2.2.2.2.2.2.2.2.2.2.2.2.2.2.2.2.2.2.1;let F:=a.2.2.2.2.2.2.2.2.2.2.2.2.2.2.2.2.2.2.2.2.2.2.2.2.2.2.2.2.2.2.2.2.2.1;let y6:=a.2.2.2.2.2.2.2.2.2.2.2.2.2.2.2.2.2.2.2.2.2.2.2.2.2.1;let n:=(⟨y6,a.2.1,a.2.2.1⟩:Cur);let j:=({(zf n 4) with b:=y6}:Cur); (oN (zD n 4)<|cond (ilt a.1<|zy n 4) (oN (zD j 100)<|oN (few<|ln<|ap F [zy j 100])<|z (zQ .i64 a.1 1,(zf j 100).i,(zf j 100).h,a.2.2.2.1,a.2.2.2.2.1,a.2.2.2.2.2.1,a.2.2.2.2.2.2.1,a.2.2.2.2.2.2.2.1,a.2.2.2.2.2.2.2.2.1,a.2.2.2.2.2.2.2.2.2.1,a.2.2.2.2.2.2.2.2.2.2.1,a.2.2.2.2.2.2.2.2.2.2.2.1,a.2.2.2.2.2.2.2.2.2.2.2.2.1,a.2.2.2.2.2.2.2.2.2.2.2.2.2.1,d8,d4,d0,c6,c2,b8,b4,b0,a6,a2,Y,y6,a.2.2.2.2.2.2.2.2.2.2.2.2.2.2.2.2.2.2.2.2.2.2.2.2.2.2.1,a.2.2.2.2.2.2.2.2.2.2.2.2.2.2.2.2.2.2.2.2.2.2.2.2.2.2.2.1,a.2.2.2.2.2.2.2.2.2.2.2.2.2.2.2.2.2.2.2.2.2.2.2.2.2.2.2.2.1,a.2.2.2.2.2.2.2.2.2.2.2.2.2.2.2.2.2.2.2.2.2.2.2.2.2.2.2.2.2.1,U,Q,L,ap F [zy j 100],()))<|some [.agg [.s .u8 y6,.i .i64 (zf n 4).i,.i .i64 (zf n 4).h],aT .guest (⟨U,d8,d4,Q,L,⟨d0,c6,c2⟩,b8,⟨b4,b0,a6,a2⟩,Y,F⟩:Guest)])) (0,(zW u 12).i,(zW u 12).h,0,0,0,0,false,0,0,0,false,0,false,w,y,e.Traps,e.Post,e.Open,d.Pending,(zcH r).Kind,(zcH r).Page,(zcH r).Write,(zcH r).N,zdW u 12,c.b,[],[],[],[],d.Prog,v,x,d.Seen,()))<|oN (zdI r 12)<|iter (σ:=(Int×Int×Int×Int×Int×Int×Int×Bool×Int×Int×Int×Bool×Int×Bool×Int×Int×Int×Int×Bool×Int×Int×Int×Bool×Int×Bool×LI×lI×lS×lS×LI×lI×lS×lS×LI×Unit)) N (λz a=>let d9:=a.2.2.2.2.2.2.2.2.2.2.2.2.2.2.1;let d5:=a.2.2.2.2.2.2.2.2.2.2.2.2.2.2.2.1;let d1:=a.2.2.2.2.2.2.2.2.2.2.2.2.2.2.2.2.1;let c7:=a.2.2.2.2.2.2.2.2.2.2.2.2.2.2.2.2.2.1;let c3:=a.2.2.2.2.2.2.2.2.2.2.2.2.2.2.2.2.2.2.1;let b9:=a.2.2.2.2.2.2.2.2.2.2.2.2.2.2.2.2.2.2.2.1;let b5:=a.2.2.2.2.2.2.2.2.2.2.2.2.2.2.2.2.2.2.2.2.1;let b1:=a.2.2.2.2.2.2.2.2.2.2.2.2.2.2.2.2.2.2.2.2.2.1;let a7:=a.2.2.2.2.2.2.2.2.2.2.2.2.2.2.2.2.2.2.2.2.2.2.1;let a3:=a.2.2.2.2.2.2.2.2.2.2.2.2.2.2.2.2.2.2.2.2.2.2.2.1;let Z:=a.2.2.2.2.2.2.2.2.2.2.2.2.2.2.2.2.2.2.2.2.2.2.2.2.1;let V:=a.2.2.2.2.2.2.2.2.2.2.2.2.2.2.2.2.2.2.2.2.2.2.2.2.2.2.2.2.2.2.1;let R:=a.2.2.2.2.2.2.2.2.2.2.2.2.2.2.2.2.2.2.2.2.2.2.2.2.2.2.2.2.2.2.2.1;let M:=a.2.2.2.2.2.2.2.2.2.2.2.2.2.2.2.2.2.2.2.2.2.2.2.2.2.2.2.2.2.2.2.2.1;let G:=a.2.2.2.2.2.2.2.2.2.2.2.2.2.2.2.2.2.2.2.2.2.2.2.2.2.2.2.2.2.2.2.2.2.1;let y7:=a.2.2.2.2.2.2.2.2.2.2.2.2.2.2.2.2.2.2.2.2.2.2.2.2.2.1;let p:=(⟨y7,a.2.1,a.2.2.1⟩:Cur);let k:=({(zf p 4) with b:=y7}:Cur); (oN (zD p 4)<|cond (ilt a.1<|zy p 4) (oN (zD k 100)<|oN (few<|ln<|ap G [zy k 100])<|z (zQ .i64 a.1 1,(zf k 100).i,(zf k 100).h,a.2.2.2.1,a.2.2.2.2.1,a.2.2.2.2.2.1,a.2.2.2.2.2.2.1,a.2.2.2.2.2.2.2.1,a.2.2.2.2.2.2.2.2.1,a.2.2.2.2.2.2.2.2.2.1,a.2.2.2.2.2.2.2.2.2.2.1,a.2.2.2.2.2.2.2.2.2.2.2.1,a.2.2.2.2.2.2.2.2.2.2.2.2.1,a.2.2.2.2.2.2.2.2.2.2.2.2.2.1,d9,d5,d1,c7,c3,b9,b5,b1,a7,a3,Z,y7,a.2.2.2.2.2.2.2.2.2.2.2.2.2.2.2.2.2.2.2.2.2.2.2.2.2.2.1,a.2.2.2.2.2.2.2.2.2.2.2.2.2.2.2.2.2.2.2.2.2.2.2.2.2.2.2.1,a.2.2.2.2.2.2.2.2.2.2.2.2.2.2.2.2.2.2.2.2.2.2.2.2.2.2.2.2.1,a.2.2.2.2.2.2.2.2.2.2.2.2.2.2.2.2.2.2.2.2.2.2.2.2.2.2.2.2.2.1,V,R,M,ap G [zy k 100],()))<|some [.agg [.s .u8 y7,.i .i64 (zf p 4).i,.i .i64 (zf p 4).h],aT .guest (⟨V,d9,d5,R,M,⟨d1,c7,c3⟩,b9,⟨b5,b1,a7,a3⟩,Z,G⟩:Guest)])) (0,(zW r 12).i,(zW r 12).h,0,0,0,0,false,0,0,0,false,0,false,w,y,e.Traps,e.Post,e.Open,d.Pending,d.Exit.Kind,d.Exit.Page,d.Exit.Write,d.Exit.N,zdW r 12,c.b,[],[],[],[],d.Prog,v,x,d.Seen,()))
def zQY:=zq [(222,0,{n:=50,tm:=[(0,.lp 0 0),(2,.lp 1 0),(3,.lp 2 0),(4,ti)],lo:=[(0,[.sl 0 [],ti,ti]),(1,[.sl 1 [],ti,ti,.sl 2 [],.sl 3 [],ti,ti,.b,ti,ti,ti,.b,ti,.b,.sl 4 []]),(2,[.sl 5 [],ti,ti,.sl 6 [],.sl 7 [],ti,ti,.b,ti,ti,ti,.b,ti,.b,.sl 8 []])],ro:=[(0,.u8,false),(1,.ins,true),(2,.slot,true),(3,.slot,true),(4,.int,true),(5,.ins,true),(6,.slot,true),(7,.slot,true),(8,.int,true)]})]
def zpc (c:Cur)(s:Cur)(a:Guest):Prop:=(∃N,zvf N c=some (AV.agg (zcg s)::[aT .guest a]))/\(s.b=c.b/\0<=s.i)/\(GuS a/\a.Seen.length<=4)
def zne (c:Cur)  : Bool:=wC (zpc c)
def zk6 (c:Cur)  : Cur:=wS (zpc c)
def zcC (c:Cur)  : Guest:=wV (zpc c)
def zEu {c:Cur}(h:zne c=true):zpc c (zk6 c) (zcC c):=wG h
def zXs (c:Cur)  : 0<=(zk6 c).i:=wP λh=>h.2.1.2
def zXr (c:Cur)(h:∃N,Ends (wE (λa=>aT .guest a) c.b λa=>GuS a/\a.Seen.length<=4)<|zvf N c):zne c=true:=wI (λ_ _ h=>h) h
def zxa:zeR:=rP0 λc=>(zne c,zk6 c,[aT .guest<|zcC c])
def zJg:zb7 Tryz.prog 222 [false,true,true] zxa:=hP0 zIc zbe zW3 zo zQY (λ_ h=>(zEu h).1)
def zVk {c:Cur}(h:zbj c):zne c=true:=by
 refine zXr c ⟨1002,?_⟩;unfold zvf oN;conv=>zeta
 have f:=zEc h;have j:=zJR (zsI f).2.2;have e:zkX (zcu c)=true:=zbg (by omega);have q:∀{s:Cur},0<=s.i->zbj {s with b:=c.b}:=fun g=>zbV h g;have d:GuS ⟨zcu c,0,0,[],[],⟨0,0,false⟩,0,⟨0,0,false,0⟩,false,[]⟩:=⟨by dsimp only;omega,by simp,by simp,by simp⟩
 refine zG f (zG e (zG (zzv (q (zkq _)) (by omega) (by omega) _) (zG (zzv (q (zjr _ _ _)) (by omega) (by omega) _) (zG (zbG (q (zjr _ _ _)) _) (zG (zbG (q (zI _ _)) _) (zG (z08 (q (zI _ _))) (zG (zkQ (q (zAE _)) _)
  (zbI (fun _=>zG (zbG (q (zcS _ _)) _) (zG (zkQ (q (zI _ _)) _) (zbI (fun _=>zG (zVo (q (zcS _ _))) (zG (zkQ (q (zx7 _)) _) ?_)) (fun _=>zG (zkQ (q (zcS _ _)) _) ?_))))
   (fun _=>zG (zkQ (q (zcS _ _)) _) (zbI (fun _=>zG (zVo (q (zcS _ _))) (zG (zkQ (q (zx7 _)) _) ?_)) (fun _=>zG (zkQ (q (zcS _ _)) _) ?_)))))))))))
 .exact zET h (zcS _ _) (P:=fun _=>True) (q:=4) (by omega) (by omega) (fc:=fun c=>zD c 100) (fs:=fun c=>zf c 100) (fv:=fun c=>zy c 100) (fun h=>zbG h _) (fun c=>zI c _) (fun _=>trivial) (z:=0) (l0:=(zcY (zcu c)).Seen) (qV 0) (by omega) (by simp) ((fun _ t=>(t.1,t.2.1,t.2.2.1,0,0,0,0,false,0,0,0,false,0,false,(zy ({(zL ({(zL ({(zbd c) with b:=c.b}:Cur) 4 8) with b:=c.b}:Cur) 4 8) with b:=c.b}:Cur) 100),(zy ({(zf ({(zL ({(zL ({(zbd c) with b:=c.b}:Cur) 4 8) with b:=c.b}:Cur) 4 8) with b:=c.b}:Cur) 100) with b:=c.b}:Cur) 4),(zc9 ({(zf ({(zf ({(zL ({(zL ({(zbd c) with b:=c.b}:Cur) 4 8) with b:=c.b}:Cur) 4 8) with b:=c.b}:Cur) 100) with b:=c.b}:Cur) 4) with b:=c.b}:Cur)).Traps,(zc9 ({(zf ({(zf ({(zL ({(zL ({(zbd c) with b:=c.b}:Cur) 4 8) with b:=c.b}:Cur) 4 8) with b:=c.b}:Cur) 100) with b:=c.b}:Cur) 4) with b:=c.b}:Cur)).Post,(zc9 ({(zf ({(zf ({(zL ({(zL ({(zbd c) with b:=c.b}:Cur) 4 8) with b:=c.b}:Cur) 4 8) with b:=c.b}:Cur) 100) with b:=c.b}:Cur) 4) with b:=c.b}:Cur)).Open,(zy ({(zW ({(zcQ ({(zf ({(zf ({(zL ({(zL ({(zbd c) with b:=c.b}:Cur) 4 8) with b:=c.b}:Cur) 4 8) with b:=c.b}:Cur) 100) with b:=c.b}:Cur) 4) with b:=c.b}:Cur)) with b:=c.b}:Cur) 3) with b:=c.b}:Cur) 256),(zcH ({(zW ({(zf ({(zW ({(zcQ ({(zf ({(zf ({(zL ({(zL ({(zbd c) with b:=c.b}:Cur) 4 8) with b:=c.b}:Cur) 4 8) with b:=c.b}:Cur) 100) with b:=c.b}:Cur) 4) with b:=c.b}:Cur)) with b:=c.b}:Cur) 3) with b:=c.b}:Cur) 256) with b:=c.b}:Cur) 4) with b:=c.b}:Cur)).Kind,(zcH ({(zW ({(zf ({(zW ({(zcQ ({(zf ({(zf ({(zL ({(zL ({(zbd c) with b:=c.b}:Cur) 4 8) with b:=c.b}:Cur) 4 8) with b:=c.b}:Cur) 100) with b:=c.b}:Cur) 4) with b:=c.b}:Cur)) with b:=c.b}:Cur) 3) with b:=c.b}:Cur) 256) with b:=c.b}:Cur) 4) with b:=c.b}:Cur)).Page,(zcH ({(zW ({(zf ({(zW ({(zcQ ({(zf ({(zf ({(zL ({(zL ({(zbd c) with b:=c.b}:Cur) 4 8) with b:=c.b}:Cur) 4 8) with b:=c.b}:Cur) 100) with b:=c.b}:Cur) 4) with b:=c.b}:Cur)) with b:=c.b}:Cur) 3) with b:=c.b}:Cur) 256) with b:=c.b}:Cur) 4) with b:=c.b}:Cur)).Write,(zcH ({(zW ({(zf ({(zW ({(zcQ ({(zf ({(zf ({(zL ({(zL ({(zbd c) with b:=c.b}:Cur) 4 8) with b:=c.b}:Cur) 4 8) with b:=c.b}:Cur) 100) with b:=c.b}:Cur) 4) with b:=c.b}:Cur)) with b:=c.b}:Cur) 3) with b:=c.b}:Cur) 256) with b:=c.b}:Cur) 4) with b:=c.b}:Cur)).N,(zdW ({(zgH ({(zW ({(zf ({(zW ({(zcQ ({(zf ({(zf ({(zL ({(zL ({(zbd c) with b:=c.b}:Cur) 4 8) with b:=c.b}:Cur) 4 8) with b:=c.b}:Cur) 100) with b:=c.b}:Cur) 4) with b:=c.b}:Cur)) with b:=c.b}:Cur) 3) with b:=c.b}:Cur) 256) with b:=c.b}:Cur) 4) with b:=c.b}:Cur)) with b:=c.b}:Cur) 12),c.b,[],[],[],[],(zcY (zcu c)).Prog,(zel ({(zbd c) with b:=c.b}:Cur) 4 8),(zel ({(zL ({(zbd c) with b:=c.b}:Cur) 4 8) with b:=c.b}:Cur) 4 8),t.2.2.2,())):Nat->Int×Int×Int×LI->_)
   (fun rec t i k l=>⟨_,rfl,fun a _=>⟨⟨_,_,_⟩,_,rfl,⟨rfl,zI _ _⟩,⟨⟨d.1,zEC (q (zkq _)),zEC (q (zjr _ _ _)),by unfold ln at a;dsimp only;omega⟩,by unfold ln at a;dsimp only;omega⟩⟩⟩)
 .exact zET h (zcS _ _) (P:=fun _=>True) (q:=4) (by omega) (by omega) (fc:=fun c=>zD c 100) (fs:=fun c=>zf c 100) (fv:=fun c=>zy c 100) (fun h=>zbG h _) (fun c=>zI c _) (fun _=>trivial) (z:=0) (l0:=(zcY (zcu c)).Seen) (qV 0) (by omega) (by simp) ((fun _ t=>(t.1,t.2.1,t.2.2.1,0,0,0,0,false,0,0,0,false,0,false,(zy ({(zL ({(zL ({(zbd c) with b:=c.b}:Cur) 4 8) with b:=c.b}:Cur) 4 8) with b:=c.b}:Cur) 100),(zy ({(zf ({(zL ({(zL ({(zbd c) with b:=c.b}:Cur) 4 8) with b:=c.b}:Cur) 4 8) with b:=c.b}:Cur) 100) with b:=c.b}:Cur) 4),(zc9 ({(zf ({(zf ({(zL ({(zL ({(zbd c) with b:=c.b}:Cur) 4 8) with b:=c.b}:Cur) 4 8) with b:=c.b}:Cur) 100) with b:=c.b}:Cur) 4) with b:=c.b}:Cur)).Traps,(zc9 ({(zf ({(zf ({(zL ({(zL ({(zbd c) with b:=c.b}:Cur) 4 8) with b:=c.b}:Cur) 4 8) with b:=c.b}:Cur) 100) with b:=c.b}:Cur) 4) with b:=c.b}:Cur)).Post,(zc9 ({(zf ({(zf ({(zL ({(zL ({(zbd c) with b:=c.b}:Cur) 4 8) with b:=c.b}:Cur) 4 8) with b:=c.b}:Cur) 100) with b:=c.b}:Cur) 4) with b:=c.b}:Cur)).Open,(zy ({(zW ({(zcQ ({(zf ({(zf ({(zL ({(zL ({(zbd c) with b:=c.b}:Cur) 4 8) with b:=c.b}:Cur) 4 8) with b:=c.b}:Cur) 100) with b:=c.b}:Cur) 4) with b:=c.b}:Cur)) with b:=c.b}:Cur) 3) with b:=c.b}:Cur) 256),(zcY (zcu c)).Exit.Kind,(zcY (zcu c)).Exit.Page,(zcY (zcu c)).Exit.Write,(zcY (zcu c)).Exit.N,(zdW ({(zW ({(zf ({(zW ({(zcQ ({(zf ({(zf ({(zL ({(zL ({(zbd c) with b:=c.b}:Cur) 4 8) with b:=c.b}:Cur) 4 8) with b:=c.b}:Cur) 100) with b:=c.b}:Cur) 4) with b:=c.b}:Cur)) with b:=c.b}:Cur) 3) with b:=c.b}:Cur) 256) with b:=c.b}:Cur) 4) with b:=c.b}:Cur) 12),c.b,[],[],[],[],(zcY (zcu c)).Prog,(zel ({(zbd c) with b:=c.b}:Cur) 4 8),(zel ({(zL ({(zbd c) with b:=c.b}:Cur) 4 8) with b:=c.b}:Cur) 4 8),t.2.2.2,())):Nat->Int×Int×Int×LI->_)
   (fun rec t i k l=>⟨_,rfl,fun a _=>⟨⟨_,_,_⟩,_,rfl,⟨rfl,zI _ _⟩,⟨⟨d.1,zEC (q (zkq _)),zEC (q (zjr _ _ _)),by unfold ln at a;dsimp only;omega⟩,by unfold ln at a;dsimp only;omega⟩⟩⟩)
 .exact zET h (zcS _ _) (P:=fun _=>True) (q:=4) (by omega) (by omega) (fc:=fun c=>zD c 100) (fs:=fun c=>zf c 100) (fv:=fun c=>zy c 100) (fun h=>zbG h _) (fun c=>zI c _) (fun _=>trivial) (z:=0) (l0:=(zcY (zcu c)).Seen) (qV 0) (by omega) (by simp) ((fun _ t=>(t.1,t.2.1,t.2.2.1,0,0,0,0,false,0,0,0,false,0,false,(zy ({(zL ({(zL ({(zbd c) with b:=c.b}:Cur) 4 8) with b:=c.b}:Cur) 4 8) with b:=c.b}:Cur) 100),(zy ({(zf ({(zL ({(zL ({(zbd c) with b:=c.b}:Cur) 4 8) with b:=c.b}:Cur) 4 8) with b:=c.b}:Cur) 100) with b:=c.b}:Cur) 4),(zc9 ({(zf ({(zf ({(zL ({(zL ({(zbd c) with b:=c.b}:Cur) 4 8) with b:=c.b}:Cur) 4 8) with b:=c.b}:Cur) 100) with b:=c.b}:Cur) 4) with b:=c.b}:Cur)).Traps,(zc9 ({(zf ({(zf ({(zL ({(zL ({(zbd c) with b:=c.b}:Cur) 4 8) with b:=c.b}:Cur) 4 8) with b:=c.b}:Cur) 100) with b:=c.b}:Cur) 4) with b:=c.b}:Cur)).Post,(zc9 ({(zf ({(zf ({(zL ({(zL ({(zbd c) with b:=c.b}:Cur) 4 8) with b:=c.b}:Cur) 4 8) with b:=c.b}:Cur) 100) with b:=c.b}:Cur) 4) with b:=c.b}:Cur)).Open,(zcY (zcu c)).Pending,(zcH ({(zW ({(zW ({(zcQ ({(zf ({(zf ({(zL ({(zL ({(zbd c) with b:=c.b}:Cur) 4 8) with b:=c.b}:Cur) 4 8) with b:=c.b}:Cur) 100) with b:=c.b}:Cur) 4) with b:=c.b}:Cur)) with b:=c.b}:Cur) 3) with b:=c.b}:Cur) 4) with b:=c.b}:Cur)).Kind,(zcH ({(zW ({(zW ({(zcQ ({(zf ({(zf ({(zL ({(zL ({(zbd c) with b:=c.b}:Cur) 4 8) with b:=c.b}:Cur) 4 8) with b:=c.b}:Cur) 100) with b:=c.b}:Cur) 4) with b:=c.b}:Cur)) with b:=c.b}:Cur) 3) with b:=c.b}:Cur) 4) with b:=c.b}:Cur)).Page,(zcH ({(zW ({(zW ({(zcQ ({(zf ({(zf ({(zL ({(zL ({(zbd c) with b:=c.b}:Cur) 4 8) with b:=c.b}:Cur) 4 8) with b:=c.b}:Cur) 100) with b:=c.b}:Cur) 4) with b:=c.b}:Cur)) with b:=c.b}:Cur) 3) with b:=c.b}:Cur) 4) with b:=c.b}:Cur)).Write,(zcH ({(zW ({(zW ({(zcQ ({(zf ({(zf ({(zL ({(zL ({(zbd c) with b:=c.b}:Cur) 4 8) with b:=c.b}:Cur) 4 8) with b:=c.b}:Cur) 100) with b:=c.b}:Cur) 4) with b:=c.b}:Cur)) with b:=c.b}:Cur) 3) with b:=c.b}:Cur) 4) with b:=c.b}:Cur)).N,(zdW ({(zgH ({(zW ({(zW ({(zcQ ({(zf ({(zf ({(zL ({(zL ({(zbd c) with b:=c.b}:Cur) 4 8) with b:=c.b}:Cur) 4 8) with b:=c.b}:Cur) 100) with b:=c.b}:Cur) 4) with b:=c.b}:Cur)) with b:=c.b}:Cur) 3) with b:=c.b}:Cur) 4) with b:=c.b}:Cur)) with b:=c.b}:Cur) 12),c.b,[],[],[],[],(zcY (zcu c)).Prog,(zel ({(zbd c) with b:=c.b}:Cur) 4 8),(zel ({(zL ({(zbd c) with b:=c.b}:Cur) 4 8) with b:=c.b}:Cur) 4 8),t.2.2.2,())):Nat->Int×Int×Int×LI->_)
   (fun rec t i k l=>⟨_,rfl,fun a _=>⟨⟨_,_,_⟩,_,rfl,⟨rfl,zI _ _⟩,⟨⟨d.1,zEC (q (zkq _)),zEC (q (zjr _ _ _)),by unfold ln at a;dsimp only;omega⟩,by unfold ln at a;dsimp only;omega⟩⟩⟩)
 .exact zET h (zcS _ _) (P:=fun _=>True) (q:=4) (by omega) (by omega) (fc:=fun c=>zD c 100) (fs:=fun c=>zf c 100) (fv:=fun c=>zy c 100) (fun h=>zbG h _) (fun c=>zI c _) (fun _=>trivial) (z:=0) (l0:=(zcY (zcu c)).Seen) (qV 0) (by omega) (by simp) ((fun _ t=>(t.1,t.2.1,t.2.2.1,0,0,0,0,false,0,0,0,false,0,false,(zy ({(zL ({(zL ({(zbd c) with b:=c.b}:Cur) 4 8) with b:=c.b}:Cur) 4 8) with b:=c.b}:Cur) 100),(zy ({(zf ({(zL ({(zL ({(zbd c) with b:=c.b}:Cur) 4 8) with b:=c.b}:Cur) 4 8) with b:=c.b}:Cur) 100) with b:=c.b}:Cur) 4),(zc9 ({(zf ({(zf ({(zL ({(zL ({(zbd c) with b:=c.b}:Cur) 4 8) with b:=c.b}:Cur) 4 8) with b:=c.b}:Cur) 100) with b:=c.b}:Cur) 4) with b:=c.b}:Cur)).Traps,(zc9 ({(zf ({(zf ({(zL ({(zL ({(zbd c) with b:=c.b}:Cur) 4 8) with b:=c.b}:Cur) 4 8) with b:=c.b}:Cur) 100) with b:=c.b}:Cur) 4) with b:=c.b}:Cur)).Post,(zc9 ({(zf ({(zf ({(zL ({(zL ({(zbd c) with b:=c.b}:Cur) 4 8) with b:=c.b}:Cur) 4 8) with b:=c.b}:Cur) 100) with b:=c.b}:Cur) 4) with b:=c.b}:Cur)).Open,(zcY (zcu c)).Pending,(zcY (zcu c)).Exit.Kind,(zcY (zcu c)).Exit.Page,(zcY (zcu c)).Exit.Write,(zcY (zcu c)).Exit.N,(zdW ({(zW ({(zW ({(zcQ ({(zf ({(zf ({(zL ({(zL ({(zbd c) with b:=c.b}:Cur) 4 8) with b:=c.b}:Cur) 4 8) with b:=c.b}:Cur) 100) with b:=c.b}:Cur) 4) with b:=c.b}:Cur)) with b:=c.b}:Cur) 3) with b:=c.b}:Cur) 4) with b:=c.b}:Cur) 12),c.b,[],[],[],[],(zcY (zcu c)).Prog,(zel ({(zbd c) with b:=c.b}:Cur) 4 8),(zel ({(zL ({(zbd c) with b:=c.b}:Cur) 4 8) with b:=c.b}:Cur) 4 8),t.2.2.2,())):Nat->Int×Int×Int×LI->_)
   (fun rec t i k l=>⟨_,rfl,fun a _=>⟨⟨_,_,_⟩,_,rfl,⟨rfl,zI _ _⟩,⟨⟨d.1,zEC (q (zkq _)),zEC (q (zjr _ _ _)),by unfold ln at a;dsimp only;omega⟩,by unfold ln at a;dsimp only;omega⟩⟩⟩)
def zbaf:zdn:=[(222,[false,true,true],zxa)]++zbae
def zJP:zco zbaf:=zcZ zW3 (by
 intro x a;simp only[qG,qO,or_false]at a;rcases a with rfl
 .exact zJg)
def zzH (N:Nat)(c:Cur)  : OA :=
 let e:=zcC c;let B:=({(zk6 c) with b:=c.b}:Cur);let f:=zf B 14;let j:=zy B 14;let d:=({f with b:=c.b}:Cur);let g:=zij d 4 8;let p:=zZ d [-1,12,13,9223372036854775807]; (oN (zne c)<|oN (zD B 14)<|cond (ieq j 0) (oN (zk4 d)<|some [.agg [.s .u8 c.b,.i .i64 (zk5 d).i,.i .i64 (zk5 d).h],aT .guest ({e with Prog:=(zq4 d)}:Guest)])<|cond (ieq j 1) (oN (zby d [-1,100])<|some [.agg [.s .u8 c.b,.i .i64 (zZ d [-1,100]).i,.i .i64 (zZ d [-1,100]).h],aT .guest ({e with A:=(zbr d [-1,100])}:Guest)])<|cond (ieq j 2) (oN (zby d [-1,12,13,9223372036854775807])<|some [.agg [.s .u8 c.b,.i .i64 p.i,.i .i64 p.h],aT .guest ({e with Pc:=(zbr d [-1,12,13,9223372036854775807])}:Guest)])<|cond (ieq j 3) (oN (zg1 d 4 8)<|some [.agg [.s .u8 c.b,.i .i64 g.i,.i .i64 g.h],aT .guest ({e with Live:=(zgj d 4 8)}:Guest)])<|cond (ieq j 4) (oN (zq6 d)<|some [.agg [.s .u8 c.b,.i .i64 (zq7 d).i,.i .i64 (zq7 d).h],aT .guest ({e with Ctl:=(zAD d)}:Guest)])<|cond (ieq j 5) (oN (zoI d)<|some [.agg [.s .u8 c.b,.i .i64 (zoJ d).i,.i .i64 (zoJ d).h],aT .guest ({e with Pending:=(zxx d)}:Guest)])<|cond (ieq j 6) (oN (zq8 d)<|some [.agg [.s .u8 c.b,.i .i64 (zq9 d).i,.i .i64 (zq9 d).h],aT .guest ({e with Exit:=(zAF d)}:Guest)])<|cond (ieq j 7) (iter (σ:=(Int×Int×Int×Int×Int×Int×Bool×Int×Int×Int×Bool×Int×Bool×Int×Int×Int×Int×Bool×Int×Int×Int×Bool×Int×Bool×LI×lI×lS×lS×LI×lI×lS×lS×LI×Unit)) N (λG a=>let y:=a.2.2.2.2.2.2.2.2.2.2.2.2.2.1;let x:=a.2.2.2.2.2.2.2.2.2.2.2.2.2.2.1;let w:=a.2.2.2.2.2.2.2.2.2.2.2.2.2.2.2.1;let v:=a.2.2.2.2.2.2.2.2.2.2.2.2.2.2.2.2.1;let u:=a.2.2.2.2.2.2.2.2.2.2.2.2.2.2.2.2.2.1;let t:=a.2.2.2.2.2.2.2.2.2.2.2.2.2.2.2.2.2.2.1;let r:=a.2.2.2.2.2.2.2.2.2.2.2.2.2.2.2.2.2.2.2.1;let q:=a.2.2.2.2.2.2.2.2.2.2.2.2.2.2.2.2.2.2.2.2.1;let n:=a.2.2.2.2.2.2.2.2.2.2.2.2.2.2.2.2.2.2.2.2.2.1;let m:=a.2.2.2.2.2.2.2.2.2.2.2.2.2.2.2.2.2.2.2.2.2.2.1;let l:=a.2.2.2.2.2.2.2.2.2.2.2.2.2.2.2.2.2.2.2.2.2.2.2.1;let F:=a.2.2.2.2.2.2.2.2.2.2.2.2.2.2.2.2.2.2.2.2.2.2.2.2.2.2.2.2.2.1;let E:=a.2.2.2.2.2.2.2.2.2.2.2.2.2.2.2.2.2.2.2.2.2.2.2.2.2.2.2.2.2.2.1;let D:=a.2.2.2.2.2.2.2.2.2.2.2.2.2.2.2.2.2.2.2.2.2.2.2.2.2.2.2.2.2.2.2.1;let C:=a.2.2.2.2.2.2.2.2.2.2.2.2.2.2.2.2.2.2.2.2.2.2.2.2.1;let z:=a.2.2.2.2.2.2.2.2.2.2.2.2.2.2.2.2.2.2.2.2.2.2.2.2.2.2.2.2.2.2.2.2.1;let k:=(⟨C,a.1,a.2.1⟩:Cur); (oN (zD k 3)<|cond (ilt (ln z)<|zQ .i64 39<|zy k 3) (oN (few<|ln<|ap z [1])<|G ((zf k 3).i,(zf k 3).h,a.2.2.1,a.2.2.2.1,a.2.2.2.2.1,a.2.2.2.2.2.1,a.2.2.2.2.2.2.1,a.2.2.2.2.2.2.2.1,a.2.2.2.2.2.2.2.2.1,a.2.2.2.2.2.2.2.2.2.1,a.2.2.2.2.2.2.2.2.2.2.1,a.2.2.2.2.2.2.2.2.2.2.2.1,a.2.2.2.2.2.2.2.2.2.2.2.2.1,y,x,w,v,u,t,r,q,n,m,l,C,a.2.2.2.2.2.2.2.2.2.2.2.2.2.2.2.2.2.2.2.2.2.2.2.2.2.1,a.2.2.2.2.2.2.2.2.2.2.2.2.2.2.2.2.2.2.2.2.2.2.2.2.2.2.1,a.2.2.2.2.2.2.2.2.2.2.2.2.2.2.2.2.2.2.2.2.2.2.2.2.2.2.2.1,a.2.2.2.2.2.2.2.2.2.2.2.2.2.2.2.2.2.2.2.2.2.2.2.2.2.2.2.2.1,F,E,D,ap z [1],()))<|some [.agg [.s .u8 C,.i .i64 (zf k 3).i,.i .i64 (zf k 3).h],aT .guest (⟨F,y,x,E,D,⟨w,v,u⟩,t,⟨r,q,n,m⟩,l,z⟩:Guest)])) (f.i,f.h,0,0,0,0,false,0,0,0,false,0,false,e.A,e.Pc,e.Ctl.Traps,e.Ctl.Post,e.Ctl.Open,e.Pending,e.Exit.Kind,e.Exit.Page,e.Exit.Write,e.Exit.N,e.Halted,c.b,[],[],[],[],e.Prog,e.Written,e.Live,e.Seen,()))<|cond (ieq j 8) (oN (zg1 d 4 8)<|some [.agg [.s .u8 c.b,.i .i64 g.i,.i .i64 g.h],aT .guest ({e with Written:=(zgj d 4 8)}:Guest)])<|some [.agg [.s .u8 c.b,.i .i64 f.i,.i .i64 f.h],aT .guest e])
def zYb:=zq [(142,1,{n:=65,tm:=[(0,.lp 0 0),(2,.lp 1 0),(3,.lp 2 0)],lo:=[(0,[.sl 0 [],ti,ti]),(1,[.sl 1 [],ti,ti,.sl 2 [],.sl 3 [],ti,ti,.b,ti,ti,ti,.b,ti,.b,.sl 4 []]),(2,[.sl 5 [],ti,ti,.sl 6 [],.sl 7 [],ti,ti,.b,ti,ti,ti,.b,ti,.b,.sl 8 []])],ro:=[(0,.u8,false),(1,.ins,true),(2,.slot,true),(3,.slot,true),(4,.int,true),(5,.ins,true),(6,.slot,true),(7,.slot,true),(8,.int,true)]})]
def zsM (c:Cur)(s:Cur)(a:Guest):Prop:=(∃N,zzH N c=some (AV.agg (zcg s)::[aT .guest a]))/\(s.b=c.b/\0<=s.i)/\(GuS a)
def zrd (c:Cur)  : Bool:=wC (zsM c)
def zre (c:Cur)  : Cur:=wS (zsM c)
def zAG (c:Cur)  : Guest:=wV (zsM c)
def zNv {c:Cur}(h:zrd c=true):zsM c (zre c) (zAG c):=wG h
def z2F (c:Cur)  : 0<=(zre c).i:=wP λh=>h.2.1.2
def z2E (c:Cur)(h:∃N,Ends (wE (λa=>aT .guest a) c.b λa=>GuS a)<|zzH N c):zrd c=true:=wI (λ_ _ h=>h) h
def zBA:zeR:=rP0 λc=>(zrd c,zre c,[aT .guest<|zAG c])
def zPs:zb7 Tryz.prog 142 [false,true,true] zBA:=hP0 zIc zbe zJP zo zYb (λ_ h=>(zNv h).1)
def zK5 {c:Cur}(h:zbj c):zrd c=true:=by
 refine z2E c ⟨1002,?_⟩;unfold zzH oN;conv=>zeta
 have q:∀{s:Cur},0<=s.i->zbj {s with b:=c.b}:=λr=>zbV h r;have a:zbj {zf {zk6 c with b:=c.b} 14 with b:=c.b}:=q (zI _ _);obtain⟨⟨d,e,f,g⟩,w⟩:=(zEu<|zVk h).2.2;have p:(zgj {zf {zk6 c with b:=c.b} 14 with b:=c.b} 4 8).length<=4:=by have:=((zqX<|zpT a (n:=4) (by omega) (by omega) 8).2.2 (by omega) (by omega)).1;unfold ln at this;omega
 have j:=(zzs<|zRx a).2.2;refine zG (zVk h) (zG (zbG (q<|zXs _) _) (zbI (λ_=>zG (zRx a) (zbN (aT .guest) (v:={zcC c with Prog:=zq4 _}) (zQC _) ⟨j,e,f,g⟩))
  (λ_=>zbI (λ_=>zG (zfR a (by simp)) (zbN (aT .guest) (v:={zcC c with A:=zbr _ _}) (zcb _ _) ⟨d,e,f,g⟩))
  (λ_=>zbI (λ_=>zG (zfR a (by simp)) (zbN (aT .guest) (v:={zcC c with Pc:=zbr _ _}) (zcb _ _) ⟨d,e,f,g⟩))
  (λ_=>zbI (λ_=>zG (zpT a (by omega) (by omega) _) (zbN (aT .guest) (v:={zcC c with Live:=zgj _ _ _}) (zqY _ _ _) ⟨d,e,p,g⟩))
  (λ_=>zbI (λ_=>zG (z6a a) (zbN (aT .guest) (v:={zcC c with Ctl:=zAD _}) (z2y _) ⟨d,e,f,g⟩))
  (λ_=>zbI (λ_=>zG (zbcP a) (zbN (aT .guest) (v:={zcC c with Pending:=zxx _}) (zZt _) ⟨d,e,f,g⟩))
  (λ_=>zbI (λ_=>zG (z3o a) (zbN (aT .guest) (v:={zcC c with Exit:=zAF _}) (z2D _) ⟨d,e,f,g⟩))
  (λ_=>zbI (λ_=>?_)
  (λ_=>zbI (λ_=>zG (zpT a (by omega) (by omega) _) (zbN (aT .guest) (v:={zcC c with Written:=zgj _ _ _}) (zqY _ _ _) ⟨d,p,f,g⟩))
  (λ_=>zbN (aT .guest) (v:=zcC c) (zI _ _) ⟨d,e,f,g⟩)))))))))))
 exact zbcu h (zI _ _) (m:=39) (q:=3) (x:=1) (by omega) (by omega) (by omega) (l0:=(zcC c).Seen) (by unfold ln;omega) ((λ_ t=>(t.1,t.2.1,0,0,0,0,false,0,0,0,false,0,false,(zcC c).A,(zcC c).Pc,(zcC c).Ctl.Traps,(zcC c).Ctl.Post,(zcC c).Ctl.Open,(zcC c).Pending,(zcC c).Exit.Kind,(zcC c).Exit.Page,(zcC c).Exit.Write,(zcC c).Exit.N,(zcC c).Halted,c.b,[],[],[],[],(zcC c).Prog,(zcC c).Written,(zcC c).Live,t.2.2,())):Nat->Int×Int×LI->_)
  (λrec i k l=>⟨_,rfl,λu=>⟨⟨_,_,_⟩,_,rfl,⟨rfl,zI _ _⟩,⟨d,e,f,by unfold ln at u;dsimp only;omega⟩⟩⟩)
def zbbw (b:List Entry)(e:Entry)(h:b.length<=1048576):(zqf b e).length<=6:=by have c:=(zvU e h).2;unfold zqf;generalize ap (zdh b e.Tag e.Page) [e]=l at c;cases a:igt (ln l) 6 with|false=>have:¬ ln l>6:=qW a;rw[cF];unfold ln at this;omega|true=>rw[cT,zr6 (by unfold ln;omega) (by unfold ln;omega)];have:ln l>6:=qD a;simp only[dp,vO];unfold ln at *;omega
def ztI (N:Nat)(c:Cur)  : OA :=
 (iter (σ:=(Int×Int×Int×lE×LI×Unit)) N (λl d=>let e:=d.2.2.2.2.1;let j:=(⟨e,d.2.1,d.2.2.1⟩:Cur);let a:=({(zf j 9) with b:=e}:Cur);let g:=({(zW a 8) with b:=e}:Cur);let f:=({(zia g) with b:=e}:Cur);let k:=ap d.2.2.2.1 [zn5 g,zn5 f]; (oN (zD j 9)<|cond (ilt d.1<|zy j 9) (oN (zjs a)<|oN (zh6 d.2.2.2.1<|zn5 a)<|l (zQ .i64 d.1 1,(zia a).i,(zia a).h,zhK d.2.2.2.1<|zn5 a,e,()))<|oN (zdI a 8)<|cond (zdW a 8) (oN (zjs g)<|oN (zjs f)<|oN (few<|ln k)<|some [.agg [.s .u8 e,.i .i64 (zia f).i,.i .i64 (zia f).h],aS .entry k])<|some [.agg [.s .u8 e,.i .i64 (zW a 8).i,.i .i64 (zW a 8).h],aS .entry d.2.2.2.1])) (0,c.i,c.h,[],c.b,()))
def zN2:=zq [(117,0,{n:=26,tm:=[(0,.lp 0 0),(3,.sl 0 []),(4,ti)],lo:=[(0,[.sl 1 [],ti,ti])],ro:=[(0,.entry,true),(1,.u8,false)]})]
def zn4 (c:Cur)(s:Cur)(a:List Entry):Prop:=(∃N,ztI N c=some (AV.agg (zcg s)::[aS .entry a]))/\(s.b=c.b/\0<=s.i)/\(a.length<=8)
def zl9 (c:Cur)  : Bool:=wC (zn4 c)
def zma (c:Cur)  : Cur:=wS (zn4 c)
def zsG (c:Cur)  : List Entry:=wV (zn4 c)
def zBZ {c:Cur}(h:zl9 c=true):zn4 c (zma c) (zsG c):=wG h
def zTV (c:Cur)  : 0<=(zma c).i:=wP λh=>h.2.1.2
def zTU (c:Cur)(h:∃N,Ends (wE (λa=>aS .entry a) c.b λa=>a.length<=8)<|ztI N c):zl9 c=true:=wI (λ_ _ h=>h) h
def zvR:zeR:=rP0 λc=>(zl9 c,zma c,[aS .entry<|zsG c])
def zFP:zb7 Tryz.prog 117 [false,true,true] zvR:=hP0 zIc zbe zJP zo zN2 (λ_ h=>(zBZ h).1)
def zUP {c:Cur}(h:zbj c):zl9 c=true:=by
 refine zTU c ⟨1002,?_⟩;unfold ztI oN;conv=>zeta
 refine zor (λn s=>∃t i k l,s=(((λ_ t=>(t.1,t.2.1,t.2.2.1,t.2.2.2,c.b,())):Nat->Int×Int×Int×List Entry->_) 0 (t,i,k,l))/\t+(n:Int)=10/\0<=t/\0<=i/\l.length<=6) ?_ 1002 10 _ ⟨0,c.i,c.h,[],rfl,rfl,kN 0,h.1,by simp⟩ (by omega);rintro n s rec ⟨t,i,k,l,rfl,p,g,j,r⟩ d;dsimp only;have a:zbj ⟨c.b,i,k⟩:=zbV h j;have v:=zhm a (n:=9) (by omega);have q:∀{s:Cur},0<=s.i->zbj {s with b:=c.b}:=λf=>zbV h f;refine zG (zbG a 9) (zbI (λe=>?_) λe=>?_);{have m:t<zy ⟨c.b,i,k⟩ 9:=qD e;have u:=zi4 (y:=1) g (by omega) (by omega) (by omega);exact zG (zOj<|q<|zI _ _) (zG (zbg (by omega))<|d (n-1) _ (by omega) ⟨zQ .i64 t 1,_,_,_,rfl,by omega,by omega,zv8 _,zbbw _ _ (by omega)⟩)};{refine zG (zkQ (q<|zI _ _) 8) (zbI (λ_=>zG (zOj<|q<|zcS _ _) (zG (zOj<|q<|zv8 _)<|zG (zmL ?_)<|zbN (aS .entry) (zv8 _) ?_)) λ_=>zbN (aS .entry) (zcS _ _) (by omega));{simp only [ln,ap,kB,jB,uN];omega};{simp only [ap,kB,jB,uN];omega}}
def zbag:zdn:=[(142,[false,true,true],zBA),(117,[false,true,true],zvR)]++zbaf
def zW4:zco zbag:=zcZ zJP (by
 intro x a;simp only[qG,qO,or_false]at a;rcases a with rfl|rfl
 .exact zPs
 .exact zFP)
def zum (b:Bare)(a:GAct):Bare:=bif ieq a.Kind 1 then zfS b a.G else (cond (ieq a.Kind 2) (chg b a.G (zt4 a.X ⟨a.Y,a.Z⟩)<|zwb (gAt b a.G) a.X ⟨a.Y,a.Z⟩)<|cond (ieq a.Kind 3) (chg b a.G (hasB a.X 4)<|zez (gAt b a.G) a.X)<|cond (ieq a.Kind 4) (chg b a.G (ztM (gAt b a.G) a.X)<|zvh (gAt b a.G) a.X)<|cond (ieq a.Kind 5) (chg b a.G (zxZ<|gAt b a.G)<|zvV<|gAt b a.G)<|cond (ieq a.Kind 6) (chg b a.G (zh1 (gAt b a.G).Pending a.X)<|zmS (gAt b a.G) a.X)<|cond (ieq a.Kind 7) (chg b a.G (znt ⟨a.X,a.Y,ieq a.Z 1⟩)<|zDg (gAt b a.G) ⟨a.X,a.Y,ieq a.Z 1⟩)<|cond (ieq a.Kind 8) (zoQ b a.X a.Y a.Z)<|cond (ieq a.Kind 9) (zjY b a.X)<|cond (ieq a.Kind 10) (zlm b)<|cond (ieq a.Kind 11) (z1q b a.G a.X a.Y)<|b)
def zK6 (b:Bare)(a:GAct):Told:=bif ieq a.Kind 1 then ⟨zib b a.G,0⟩ else (cond (ieq a.Kind 2) ⟨zb4 b a.G<|zt4 a.X ⟨a.Y,a.Z⟩,0⟩<|cond (ieq a.Kind 3) ⟨zb4 b a.G<|hasB a.X 4,0⟩<|cond (ieq a.Kind 4) ⟨zb4 b a.G<|ztM (gAt b a.G) a.X,0⟩<|cond (ieq a.Kind 5) ⟨zb4 b a.G<|zxZ<|gAt b a.G,0⟩<|cond (ieq a.Kind 6) ⟨zb4 b a.G<|zh1 (gAt b a.G).Pending a.X,0⟩<|cond (ieq a.Kind 7) ⟨zb4 b a.G<|znt ⟨a.X,a.Y,ieq a.Z 1⟩,0⟩<|cond (ieq a.Kind 8) ⟨zkR b a.X a.Y a.Z,0⟩<|cond (ieq a.Kind 9) ⟨zf3 b a.X,0⟩<|cond (ieq a.Kind 10) ⟨zkx b,zrz b⟩<|cond (ieq a.Kind 11) ⟨zz1 b a.G a.X a.Y,0⟩<|⟨zpX b a.G a.X 1,zUr b a.G a.X⟩)
def zdg (l:List Bare)(a:GAct):List Bare:=bif zk a.Kind 1 17 then (cond (zk a.Kind 13 17) l<|cond (hasB a.M<|ln l) (up l a.M<|zum (ix l a.M zmf) a) l) else l
def zEO (l:List Bare)(a:GAct):Told:=bif zk a.Kind 1 17 then (cond (zk a.Kind 13 17) ⟨false,0⟩<|cond (hasB a.M<|ln l) (zK6 (ix l a.M zmf) a)<|cond (ieq a.Kind 10) ⟨false,-1⟩ ⟨false,0⟩) else ⟨false,0⟩
def zJ {i n:Int}:hasB i n=true↔0<=i/\i<n:=by unfold hasB;exact decide_eq_true_iff
def zds {x a b:Int}:zk x a b=true↔a<=x/\x<=b:=by simp[zk,ige,ile]
def zbE {x y:Int}:ieq x y=true↔x=y:=by simp[ieq]
def zE5 {x y:Int}:ine x y=true↔x≠y:=by simp[ine]
def zck {x y:Int}:ieq x y=false↔x≠y:=by simp[ieq]
def zcM {a b:Bool}:(cond a b false)=true↔a=true/\b=true:=by cases a<;>simp
def zb6 {a:Type}(l:List a)(i:Int)(x:a):(up l i x).length=l.length:=by simp[up]
def zeK {a:Type}(l:List a)(i:Int)(x:a):ln (up l i x)=ln l:=by simp[up,ln]
def zAi {a:Type}{l:List a}{i:Int}(h:hasB i (ln l)=true)(d:a):∃k:Nat,∃b:k<l.length,i=(k:Int)/\ix l i d=l[k]:=by rw[zJ]at h;unfold ln at h;refine⟨i.toNat,by omega,by omega,?_⟩;simp[ix,List.getD,qB (show i.toNat<l.length by omega)]
def zot {a:Type}{l:List a}{k:Nat}(h:k<l.length)(d:a):ix l (k:Int) d=l[k]:=by simp[ix,List.getD,qB h]
def znB {a:Type}{l:List a}{i:Int}(h:hasB i (ln l)=true)(d:a):ix l i d∈l:=by obtain⟨k,b,_,e⟩:=zAi h d;rw[e];exact jJ b
def zD6 {a:Type}{l:List a}{x:a}(h:x∈l)(d:a):∃i,hasB i (ln l)=true/\ix l i d=x:=by obtain⟨k,b,e⟩:=List.mem_iff_getElem.1 h;exact⟨(k:Int),zJ.2 (by unfold ln;omega),(zot b d).trans e⟩
def zbq {a:Type}{l:List a}{i:Int}(h:hasB i (ln l)=true)(x d:a):ix (up l i x) i d=x:=by rw[zJ]at h;unfold ln at h;simp[ix,up,List.getD,show i.toNat<l.length by omega]
def zbC {a:Type}{l:List a}{i j:Int}(b:0<=i)(c:0<=j)(h:i≠j)(x d:a):ix (up l i x) j d=ix l j d:=by have:i.toNat≠j.toNat:=(by omega);simp[ix,up,List.getD,jD,this]
def z5S {a:Type}(l:List a)(i:Int)(x y:a):up (up l i x) i y=up l i y:=by simp[up]
def zQl {a:Type}{l m:List a}(d:a)(h:l.length=m.length)(e:∀i,hasB i (ln l)=true->ix l i d=ix m i d):l=m:=by refine List.ext_getElem h λk b c=>?_;have:=e (k:Int) (zJ.2 (by unfold ln;omega));rwa [zot b,zot c] at this
def zJ7 {a:Type}{l:List a}{i:Int}(h:hasB i (ln l)=true)(d:a):up l i (ix l i d)=l:=by obtain⟨k,b,rfl,e⟩:=zAi h d;rw[e];simp[up]
def cPg (x:Mon)(q:Int):Nat:=x.Outer.countP λs=>ieq s.Page q
def zgC (l:List Mon)(q:Int):Nat:=(l.map λx=>cPg x q).sum
def zRD {a:Type}(P:a->Bool){l:List a}{i:Int}(h:hasB i (ln l)=true)(x d:a):(up l i x).countP P+(if P (ix l i d) then 1 else 0)=l.countP P+(if P x then 1 else 0):=by
 obtain⟨k,b,rfl,e⟩:=zAi h d;rw[e];simp only[up,kH,List.countP_set b];have:(if P l[k]=true then 1 else 0)<=l.countP P:=by
  split
  .rename_i hp;exact List.countP_pos_iff.2 ⟨l[k],jJ b,hp⟩
  .omega
 omega
def zzu {l:List Mon}{m:Int}(h:hasB m (ln l)=true)(x:Mon)(q:Int):zgC (up l m x) q+cPg (ix l m mZ) q=zgC l q+cPg x q:=by obtain⟨k,a,rfl,e⟩:=zAi h mZ;rw[e];clear h e;unfold up;simp only[kH];induction l generalizing k with|nil=>simp at a|cons y l b=>(cases k with|zero=>simp[zgC];omega|succ k=>have:=b k (by simpa using a);simp[zgC] at this ⊢;omega)
def zH3 {l:List Mon}{m p:Int}(a:hasB m (ln l)=true)(b:hasB p (ln (ix l m mZ).Outer)=true):1<=zgC l (ix (ix l m mZ).Outer p sZ).Page:=by have d:1<=cPg (ix l m mZ) (ix (ix l m mZ).Outer p sZ).Page:=List.countP_pos_iff.2 ⟨_,znB b sZ,by simp[ieq]⟩;have:=zzu a (⟨[],[],[],[],[],0,0,[],0⟩:Mon) (ix (ix l m mZ).Outer p sZ).Page;have c:cPg (⟨[],[],[],[],[],0,0,[],0⟩:Mon) (ix (ix l m mZ).Outer p sZ).Page=0:=rfl;omega
def z6f {l:List Mon}{m p n k:Int}{q:Int}(b:hasB m (ln l)=true)(v:hasB p (ln (ix l m mZ).Outer)=true)(u:hasB n (ln l)=true)(f:hasB k (ln (ix l n mZ).Outer)=true)(z:(ix (ix l m mZ).Outer p sZ).Page=q)(t:(ix (ix l n mZ).Outer k sZ).Page=q)(h:zgC l q<=1):m=n/\p=k:=by have c:=zJ.1 b;have d:=zJ.1 u;have i:=zJ.1 v;have g:=zJ.1 f;have B:¬ ieq q (q+1)=true:=(by simp[ieq];omega);obtain⟨y,r⟩:∃y:Mon,y.Outer=up (ix l m mZ).Outer p ⟨q+1,0⟩:=⟨{ix l m mZ with Outer:=up (ix l m mZ).Outer p ⟨q+1,0⟩},rfl⟩;have x:=zRD (λs=>ieq s.Page q) v (⟨q+1,0⟩:Slot) sZ;simp only[z,show ieq q q=true by simp[ieq],show ieq (q+1) q=false by simp[ieq];omega,if_true,kE,if_false] at x;have C:=zzu b y q;simp only[cPg,r] at C;have D:zgC (up l m y) q=0:=(by omega);apply Classical.byContradiction;intro A;have w:1<=zgC (up l m y) q:=(by by_cases a:m=n;{subst a;have j:p≠k:=λe=>A ⟨rfl,e⟩;have:=zH3 (l:=up l m y) (m:=m) (p:=k) (by rw[zeK];exact b) (by rw[zbq b,r,zeK];exact f);rw[zbq b,r,zbC i.1 g.1 j,t] at this;exact this};{have:=zH3 (l:=up l m y) (m:=n) (p:=k) (by rw[zeK];exact u) (by rw[zbC c.1 d.1 a];exact f);rw[zbC c.1 d.1 a,t] at this;exact this});omega
def zvj {a b c:Bool}:(cond a b c)=true↔(a=true/\b=true)\/(a=false/\c=true):=by cases a<;>simp
def SOk (s:Slot):Prop:=s=noSlot\/(0<=s.Page/\s.Page<=11/\1<=s.Rights/\s.Rights<=3)
def zXA {a b:Slot}(c:a.Page=b.Page)(d:a.Rights=b.Rights):a=b:=by cases a;cases b;simp_all
def zrl {a b:Slot}:zdO a b=true↔a=b:=by simp only[zdO,qE,zbE];exact⟨λh=>zXA h.1 h.2,λh=>by rw[h];exact⟨rfl,rfl⟩⟩
def ztx {a b:Slot}:zdO a b=false↔a≠b:=by rw[<- Bool.not_eq_true,zrl]
def z0y {s:Slot}:zeT s 12=true↔SOk s:=by unfold zeT SOk;rw[zvj,zrl,ztx];have:wsub .i64 12 1=11:=(by decide);simp only[this,zvj,zds];simp[igt];constructor;{rintro (h|⟨h,⟨a,b⟩,c⟩);{exact .inl h};{exact .inr ⟨a,b,c⟩}};{intro h;by_cases d:s=noSlot;{exact .inl d};{rcases h with h|⟨a,b,c⟩;{exact .inl h};{exact .inr ⟨d,⟨a,b⟩,c⟩}}}
def SOk.none {s:Slot}(h:SOk s)(a:s.Page = -1):s=noSlot:=by rcases h with h|h;{exact h};{omega}
def SOk.pos {s:Slot}(h:SOk s)(a:s.Page≠-1):0<=s.Page/\s.Page<=11/\1<=s.Rights/\s.Rights<=3:=by rcases h with h|h;{rw [h]at a;exact absurd rfl a};{exact h}
structure MOk (x:Mon):Prop where
 g1:1<=x.Guests.length
 g2:x.Guests.length<=2
 gt:x.Tables.length=x.Guests.length
 o8:x.Outer.length=8
 sl:∀s∈x.Outer,SOk s
 u8:x.Out.length=8
 d8:x.Dirty.length=8
 outs:x.Outs.length<=40
 pend:zeh x.Pending=true
 tr:zk x.Traps 0 3=true
 own:zk x.Own 0 1000000000=true
 gs:∀g∈x.Guests,zev g=true
 fit:∀p,hasB p 8=true->znG (ix x.Outer p sZ) (ix x.Out p [])=true
def zUI {P:Nat->Bool}:∀{n i:Nat},zpS P n i=true↔∀j,i<=j->j<i+n->P j=true
 | 0,i=>by simp[zpS];intro j a b;omega
 |n+1,i=>by rw[zpS,qE,zUI];constructor;{rintro⟨a,b⟩ j c d;by_cases e:j=i;{rw [e];exact a};{exact b j (by omega) (by omega)}};{intro h;exact⟨h i (by omega) (by omega),λj a b=>h j (by omega) (by omega)⟩}
def zsU {t:List Slot}{n p:Int}:zdQ t n p=true↔(∀s∈t,zeT s p=true)/\ln t=n:=by unfold zdQ;rw[zcM,qM,zbE]
def zbbh {x:Mon}:zfK x=true↔MOk x:=by unfold zfK;simp only[zcM,zds,zbE,zsU,zUI,qM,ile,qY];constructor;{rintro⟨⟨g,i⟩,m,⟨k,l⟩,n,q,r,e,a,b,c,d⟩;unfold ln at *;refine⟨by omega,by omega,by omega,by omega,λs f=>z0y.1 (k s f),by omega,by omega,by omega,e,zds.2 a,zds.2 b,c,λp t=>?_⟩;have u:=zJ.1 t;have:=d p.toNat (by omega) (by omega);unfold fits at this;rwa [show ((p.toNat:Nat):Int)=p by omega] at this};{intro h;obtain⟨g,i,m,k,l,n,q,r,e,a,b,c,d⟩:=h;unfold ln;exact⟨⟨by omega,by omega⟩,by omega,⟨λs f=>z0y.2 (l s f),by omega⟩,by omega,by omega,by omega,e,zds.1 a,zds.1 b,c,λj g i=>d (j:Int) (zJ.2 (by omega))⟩}
def zzR (o:List Slot)(s:Slot)(q:Int):(s::o).countP (λs=>ieq s.Page q)=o.countP (λs=>ieq s.Page q)+if s.Page=q then 1 else 0:=by rw[vK];simp[ieq]
def zAS:∀{o:List Slot} {u:List Bool},(∀s∈o,s.Page<u.length)->
 (∀c,ziw o u=some c↔(∀q,0<=q->o.countP (λs=>ieq s.Page q)+(if ix u q false then 1 else 0)<=1)/\
  c=(o.foldl (λu s=>bif ilt s.Page 0 then u else up u s.Page true) u))
 |[],u,h,c=>by simp[ziw];exact⟨λh=>⟨λq _=>by split<;>omega,h.symm⟩,λh=>h.2.symm⟩
 |s::o,u,h,c=>by
  unfold ziw;by_cases g:s.Page<0;{have b:ilt s.Page 0=true:=qK g;rw[b,cond_true,zAS λy d=>h y (jA _ d)];simp only[uO,b,cond_true];refine and_congr (forall_congr' λq=>forall_congr' λf=>?_) Iff.rfl;have e:(if s.Page=q then 1 else 0)=0:=if_neg (by omega);rw[zzR,e,jZ]};{have b:ilt s.Page 0=false:=qH g;have k:=h s jF;have j:hasB s.Page (ln u)=true:=zJ.2 ⟨by omega,by unfold ln;omega⟩;rw[b,cond_false];cases i:ix u s.Page false with|true=>rw[cond_true];constructor;{intro h;cases h};{rintro⟨h,_⟩;have:=h s.Page (by omega);rw[zzR,if_pos rfl,i] at this;simp at this}|false=>rw[cond_false,zAS (λy d=>by rw[zb6];exact h y (jA _ d))];simp only[uO,b,cond_false];refine and_congr (forall_congr' λq=>forall_congr' λf=>?_) Iff.rfl;rw[zzR];by_cases a:s.Page=q;{subst a;rw[zbq j,i];simp};{rw [zbC (by omega) f a,if_neg a,jZ]}}
def zJ8:∀(o:List Slot) (u:List Bool),(o.foldl (λu s=>bif ilt s.Page 0 then u else up u s.Page true) u).length=u.length
 |[],u=>rfl
 |s::o,u=>by rw[uO,zJ8];cases ilt s.Page 0<;>simp [zb6]
def zQ2:∀(o:List Slot) (u:List Bool) (q:Int),0<=q->(∀s∈o,s.Page<u.length)->(ix (o.foldl (λu s=>bif ilt s.Page 0 then u else up u s.Page true) u) q false=true↔ix u q false=true\/1<=o.countP λs=>ieq s.Page q)
 |[],u,q,b,h=>by simp
 |s::o,u,q,b,h=>by
  rw[uO,zQ2 _ _ q b (λy f=>by have:=h y (jA _ f);cases ilt s.Page 0<;>simpa [zb6] using this),zzR];by_cases c:s.Page<0;{rw [show ilt s.Page 0=true from qK c,cond_true,if_neg (by omega),jZ]};{rw [show ilt s.Page 0=false from qH c,cond_false];have e:=h s jF;have d:hasB s.Page (ln u)=true:=zJ.2 ⟨by omega,by unfold ln;omega⟩;by_cases a:s.Page=q;{subst a;rw[zbq d];simp};{rw [zbC (by omega) b a,if_neg a,jZ]}}
def zAe:∀{l:List Mon} {u:List Bool},u.length=12->(zkJ l u=true↔(∀x∈l,MOk x)/\∀q,0<=q->zgC l q+(if l≠[]/\ix u q false then 1 else 0)<=1)
 |[],u,c=>by simp[zkJ,zgC]
 |x::l,u,c=>by
  unfold zkJ;rw[zcM,zbbh];constructor;{rintro⟨f,b⟩;have k:∀s∈x.Outer,s.Page<u.length:=λs n=>(by rcases f.sl s n with h|h;{rw [h,c];decide};{rw [c];omega});split at b;{rename_i B d;obtain⟨g,rfl⟩:=(zAS k B).1 d;rw[zAe (by rw[zJ8,c])]at b;obtain⟨v,w⟩:=b;refine⟨by simpa using ⟨f,v⟩,λq a=>?_⟩;have z:=g q a;have i:=w q a;have m:=zQ2 x.Outer u q a k;simp only[zgC,jH,uM]at i ⊢;unfold cPg at i ⊢;simp only[ne_eq,reduceCtorEq,not_false_eq_true,true_and];by_cases r:l=[];{subst r;simpa using z};{simp only [r,ne_eq,not_false_eq_true,true_and]at i;by_cases j:ix (x.Outer.foldl (λu s=>bif ilt s.Page 0 then u else up u s.Page true) u) q false=true;{rw [if_pos j]at i;omega};{rw [if_neg j]at i;have p:¬ (ix u q false=true\/1<=x.Outer.countP λs=>ieq s.Page q):=λe=>j (m.2 e);rw[not_or]at p;rw[if_neg p.1];omega}}};{cases b}}
  .rintro⟨f,b⟩;have t:MOk x:=f x jF;refine⟨t,?_⟩;have k:∀s∈x.Outer,s.Page<u.length:=λs n=>by rcases t.sl s n with h|h;{rw [h,c];decide};{rw [c];omega}
   have d:=(zAS k _).2 ⟨λq a=>by
    have:=b q a;simp only[zgC,jH,uM,ne_eq,reduceCtorEq,not_false_eq_true,true_and] at this;unfold cPg at this;omega,rfl⟩
   rw[d];simp only;rw[zAe (by rw[zJ8,c])];refine⟨λy A=>f y (jA _ A),λq a=>?_⟩;have g:=b q a;have m:=zQ2 x.Outer u q a k;simp only[zgC,jH,uM,ne_eq,reduceCtorEq,not_false_eq_true,true_and]at g ⊢;unfold cPg at g ⊢;split;{rename_i j;rcases m.1 j.2 with h|h;{rw [if_pos h]at g;omega};{omega}};{omega}
structure HOk (h:Host):Prop where
 m12:h.Memory.length=12
 pgs:∀c∈h.Memory,zc2 c=true
 n1:1<=h.Mons.length
 n3:h.Mons.length<=3
 b1:zgO h.Buffer=true
 b2:zgO h.IoBuffer=true
 mons:∀x∈h.Mons,MOk x
 uq:∀q,0<=q->zgC h.Mons q<=1
def zmi {h:Host}:zb2 h=true↔HOk h:=by unfold zb2 zjW;simp only[zcM,zds,zbE,qM];rw[zAe (by simp[rp])];have g:∀q,ix (rp 12 false) q false=false:=λq=>(by unfold ix rp;rw[kC,kG];split<;>rfl);simp only[g,kE,and_false,if_false,jZ];unfold ln;constructor;{rintro⟨⟨e,f⟩,⟨i,j⟩,a,b,c,d⟩;exact⟨by omega,e,by omega,by omega,a,b,c,d⟩};{rintro⟨e,f,i,j,a,b,c,d⟩;exact⟨⟨f,by omega⟩,⟨by omega,by omega⟩,a,b,c,d⟩}
def HOk.mon {h:Host}(H:HOk h){m:Int}(a:hasB m (ln h.Mons)=true):MOk (ix h.Mons m mZ):=H.mons _ (znB a _)
def MOk.hasO {x:Mon}(H:MOk x){p:Int}(a:hasB p 8=true):hasB p (ln x.Outer)=true:=by rw[ln,H.o8];exact a
def MOk.hasU {x:Mon}(H:MOk x){p:Int}(a:hasB p 8=true):hasB p (ln x.Out)=true:=by rw[ln,H.u8];exact a
def MOk.hasD {x:Mon}(H:MOk x){p:Int}(a:hasB p 8=true):hasB p (ln x.Dirty)=true:=by rw[ln,H.d8];exact a
def MOk.slot {x:Mon}(H:MOk x){p:Int}(a:hasB p 8=true):SOk (ix x.Outer p sZ):=H.sl _ (znB (H.hasO a) _)
def HOk.uniq {h:Host}(H:HOk h){m p n k q:Int}(a:hasB m (ln h.Mons)=true)(f:hasB p 8=true)(b:hasB n (ln h.Mons)=true)(e:hasB k 8=true)(c:(ix (ix h.Mons m mZ).Outer p sZ).Page=q)(d:(ix (ix h.Mons n mZ).Outer k sZ).Page=q)(g:0<=q):m=n/\p=k :=
 z6f a ((H.mon a).hasO f) b ((H.mon b).hasO e) c d (H.uq q g)
def HOk.up {h:Host}(H:HOk h){m:Int}(k:hasB m (ln h.Mons)=true){x:Mon}(l:MOk x){a:Host}(e:a.Mons=up h.Mons m x)(d:a.Memory.length=12)(f:∀c∈a.Memory,zc2 c=true)(i:zgO a.Buffer=true)(j:zgO a.IoBuffer=true)(n:∀q,0<=q->cPg x q<=cPg (ix h.Mons m mZ) q\/zgC h.Mons q=0/\cPg x q<=1):HOk a:=by refine⟨d,f,by rw[e,zb6];exact H.n1,by rw[e,zb6];exact H.n3,i,j,λy b=>?_,λq g=>?_⟩;{rw [e]at b;unfold E.up at b;rcases qZ b with h|h;{exact H.mons y h};{rw [h];exact l}};{rw [e];have p:=zzu k x q;have r:=H.uq q g;have s:=n q g;omega}
structure KOk (k:Kept) (inner outer:List Slot):Prop where
 l1:k.Known.length=inner.length
 l2:k.Slots.length=inner.length
 at':∀i,hasB i (ln inner)=true->ix k.Slots i sZ=bif ix k.Known i false then zbJ (ix inner i sZ) outer else noSlot
def TOk (x:Mon):Prop:=∀g,hasB g (ln x.Guests)=true->KOk (ix x.Tables g kZ) (ix x.Guests g gZ).Live x.Outer
structure Rt (h:Host):Prop where
 t:∀m,hasB m (ln h.Mons)=true->TOk (ix h.Mons m mZ)
 e1:∀e∈h.Buffer,zdR h e=true
 e2:∀e∈h.IoBuffer,zdR h e=true
structure Safe (h:Host):Prop where
 ok:HOk h
 rt:Rt h
def zsY {a b:Slot}:below' a b=true↔a=noSlot\/(a.Page=b.Page/\enough b.Rights a.Rights=true):=by unfold below';rw[zvj,zrl,ztx,zcM,zbE];by_cases h:a=noSlot<;>simp [h]
def z5T (x:Int):wand .i64 0 x=0:=by unfold wand;have:(BitVec.ofInt 64 0 &&& BitVec.ofInt 64 x)=0#64:=(by rw[show BitVec.ofInt 64 0=0#64 from rfl,BitVec.zero_and]);show IntKind.wrap .i64 ((BitVec.ofInt 64 0 &&& BitVec.ofInt 64 x).toNat:Int)=0;rw[this];rfl
def z6e {a:Slot}(h:below' a noSlot=true):a=noSlot:=by rcases zsY.1 h with h|⟨c,b⟩;{exact h};{refine zXA c ?_;unfold enough at b;rw[show noSlot.Rights=0 from rfl,z5T]at b;simp only[zcM,zbE]at b;exact b.2.2.symm}
def zg9 {h:Host}{e:Entry}:zdR h e=true↔hasB (zeA e.Tag) (ln h.Mons)=true/\hasB (zfu e.Tag) (ln (ix h.Mons (zeA e.Tag) mZ).Guests)=true/\
 below' ⟨e.Host,e.Rights⟩ (zbJ (zbK (ix (ix h.Mons (zeA e.Tag) mZ).Guests (zfu e.Tag) gZ).Live e.Page) (ix h.Mons (zeA e.Tag) mZ).Outer)=true:=by
 unfold zdR;rw[zcM,zcM]
def zSm {o:List Slot}{p q:Int}{s:Slot}(a:0<=p)(h:q≠p):zbK (up o p s) q=zbK o q:=by unfold zbK;rw[zeK];cases b:hasB q (ln o) with|false=>rfl|true=>rw[cond_true,cond_true,zbC a (zJ.1 b).1<|Ne.symm h]
def zLg {s:Slot}{o:List Slot}{p:Int}{t:Slot}(a:0<=p)(h:s.Page≠p):zbJ s (up o p t)=zbJ s o:=by unfold zbJ;rw[zSm a h]
def z04 {s:Slot}{o:List Slot}:zbJ s o=noSlot\/(zbJ s o).Page=(zbK o s.Page).Page:=by unfold zbJ;cases ieq s.Page (-1)<;>cases ieq (zbK o s.Page).Page (-1)<;>cases ieq (zfh s.Rights (zbK o s.Page).Rights) 0<;>simp
def zmN (k:Kept)(q:Int):(zce k q).Known.length=k.Known.length/\(zce k q).Slots.length=k.Slots.length:=by unfold zce;cases zea k q<;>simp [zb6]
def zBl:∀(l:LI) (k:Kept),(zfY k l).Known.length=k.Known.length/\(zfY k l).Slots.length=k.Slots.length
 |[],k=>⟨rfl,rfl⟩
 |q::l,k=>by have a:=zBl l (zce k q);have b:=zmN k q;exact⟨a.1.trans b.1,a.2.trans b.2⟩
def zxS {k:Kept}{q i:Int}(d:k.Known.length=k.Slots.length)(b:hasB i (ln k.Known)=true) :
 ix (zce k q).Known i false=(cond (ieq q i) false<|ix k.Known i false)/\ix (zce k q).Slots i sZ=(cond (ieq q i) noSlot<|ix k.Slots i sZ):=by
 have c:hasB i (ln k.Slots)=true:=by unfold ln at b ⊢;rwa [<- d]
 unfold zce zea
 by_cases e:q=i
 .subst e;simp only[b,c,cond_true,ieq,beq_self_eq_true];exact⟨zbq b _ _,zbq c _ _⟩
 .rw [show ieq q i=false from zck.2 e]
  by_cases a:hasB q (ln k.Known)=true
  .have hq':hasB q (ln k.Slots)=true:=by unfold ln at a ⊢;rwa [<- d]
   simp only[a,hq',cond_true,cond_false];exact⟨zbC (zJ.1 a).1 (zJ.1 b).1 e _ _,zbC (zJ.1 a).1 (zJ.1 b).1 e _ _⟩
  .rw [Bool.not_eq_true]at a;simp[a]
def zDs:∀(l:LI) {k:Kept} {i:Int},k.Known.length=k.Slots.length->hasB i (ln k.Known)=true->
 (i∈l->ix (zfY k l).Known i false=false/\ix (zfY k l).Slots i sZ=noSlot)/\
 (i∉l->ix (zfY k l).Known i false=ix k.Known i false/\ix (zfY k l).Slots i sZ=ix k.Slots i sZ)
 |[],k,i,d,c=>⟨λh=>by simp at h,λ_=>⟨rfl,rfl⟩⟩
 |q::l,k,i,d,c=>by have b:=zmN k q;have g:=zxS (q:=q) d c;have f:=zDs l (k:=zce k q) (i:=i) (by rw[b.1,b.2,d]) (by unfold ln at c ⊢;rwa [b.1]);show (_->ix (zfY (zce k q) l).Known i false=_/\ix (zfY (zce k q) l).Slots i sZ=_)/\(_->ix (zfY (zce k q) l).Known i false=_/\ix (zfY (zce k q) l).Slots i sZ=_);by_cases a:i∈l;{refine⟨λ_=>f.1 a,λh=>absurd (jA _ a) h⟩};{rw [(f.2 a).1,(f.2 a).2,g.1,g.2];by_cases e:q=i;{subst e;simp[ieq]};{rw [zck.2 e];simp[a,Ne.symm e]}}
def zJl {e:Type}{P:e->Bool}{d:e}:∀{l:List e} {n:Nat} {i:Int},i∈idxs P l n↔∃k:Nat,∃h:k<l.length,i=((n+k:Nat):Int)/\P l[k]=true
 |[],n,i=>by simp[idxs]
 |x::l,n,i=>by
  have g:=@zJl e P d l (n+1) i;unfold idxs;constructor
  .intro h;cases f:P x with
   |true=>rw[f,cond_true,qG]at h;rcases h with h|h;{exact⟨0,by simp,by simpa using h,f⟩};{obtain⟨k,c,b,a⟩:=g.1 h;exact⟨k+1,by simpa using c,by rw[b];congr 1;omega,by simpa using a⟩}
   |false=>rw[f,cond_false]at h;obtain⟨k,c,b,a⟩:=g.1 h;exact⟨k+1,by simpa using c,by rw[b];congr 1;omega,by simpa using a⟩
  {rintro⟨k,c,b,a⟩;cases k with|zero=>simp only[List.getElem_cons_zero]at a;rw[a,cond_true,b];exact jF|succ k=>have:=g.2 ⟨k,by simpa using c,by rw[b];congr 1;omega,by simpa using a⟩;cases P x;{exact this};{exact jA _ this}}
def zYl {l:List Slot}{p i:Int}:i∈zEK l p↔hasB i (ln l)=true/\(ix l i sZ).Page=p:=by unfold zEK;rw[zJl (d:=sZ)];constructor;{rintro⟨k,a,rfl,c⟩;rw[j5,zot a];exact⟨zJ.2 (by unfold ln;omega),zbE.1 c⟩};{rintro⟨a,b⟩;obtain⟨k,f,rfl,e⟩:=zAi a sZ;exact⟨k,f,by simp,by rw[e]at b;exact zbE.2 b⟩}
def z1M {k:Kept}{a b:List Slot}(h:KOk k a b){p:Int}(j:0<=p)(s:Slot):KOk (zlq k a p) a (up b p s):=by have g:=zBl (zEK a p) k;refine⟨g.1.trans h.l1,g.2.trans h.l2,λi d=>?_⟩;have e:hasB i (ln k.Known)=true:=(by unfold ln at d ⊢;rwa [h.l1]);have f:=zDs (zEK a p) (by rw[h.l1,h.l2]) e;unfold zlq;by_cases c:(ix a i sZ).Page=p;{have:=f.1 (zYl.2 ⟨d,c⟩);rw[this.1,this.2];rfl};{have:=f.2 (λh=>c (zYl.1 h).2);rw[this.1,this.2,h.at' i d,zLg j c]}
def zED (b:List Guest)(p:Int):∀(n:Nat) (a:List Kept),(zlT b p n a).length=a.length
 | 0,a=>rfl
 |n+1,a=>by rw[zlT,zb6,zED b p n]
def zQJ (b:List Guest)(p:Int):∀(n:Nat) (a:List Kept),n<=a.length->∀i,0<=i->ix (zlT b p n a) i kZ=if i<n then zlq (ix a i kZ) (ix b i gZ).Live p else ix a i kZ
 | 0,a,_,i,c=>by rw[if_neg (by omega)];rfl
 |n+1,a,d,i,c=>by rw[zlT];by_cases e:i=n;{subst e;rw[zbq (by rw[ln,zED];exact zJ.2 (by omega)),if_pos (by omega),zQJ b p n a (by omega) _ c,if_neg (by omega)]};{rw [zbC (by omega) c<|Ne.symm e,zQJ b p n a (by omega) i c];by_cases h:i<n;{rw [if_pos h,if_pos (by omega)]};{rw [if_neg h,if_neg (by omega)]}}
def zlS (x:Mon)(p:Int)(s:Slot):Mon:={zjD x p x.Tables.length with Outer:=up x.Outer p s}
def z5F {x:Mon}(h:TOk x)(c:x.Tables.length=x.Guests.length){p:Int}(b:0<=p)(s:Slot):TOk (zlS x p s):=by intro g hg;have a:hasB g (ln x.Guests)=true:=hg;show KOk (ix (zlT x.Guests p x.Tables.length x.Tables) g kZ) (ix x.Guests g gZ).Live (up x.Outer p s);rw[zQJ _ _ _ _ (qV _) _ (zJ.1 a).1,if_pos (by have:=zJ.1 a;unfold ln at this;omega)];exact z1M (h g a) b s
def zt7 (h:Host)(m p:Int)(s:Slot):(zcJ h m p s).Mons=up h.Mons m (zlS (ix h.Mons m mZ) p s):=by unfold zcJ;cases ine (ix (ix h.Mons m zh).Outer p zV).Page (-1)<;>rfl
def zya (h:Host)(m p:Int)(s:Slot):(zcJ h m p s).Memory=h.Memory:=by unfold zcJ;cases ine (ix (ix h.Mons m zh).Outer p zV).Page (-1)<;>rfl
def zSo (h:Host)(m p:Int)(s:Slot):(zcJ h m p s).Buffer=(cond (ieq (ix (ix h.Mons m mZ).Outer p sZ).Page<|-1) h.Buffer<|flushed h.Buffer (ix (ix h.Mons m mZ).Outer p sZ).Page)/\
 (zcJ h m p s).IoBuffer=(cond (ieq (ix (ix h.Mons m mZ).Outer p sZ).Page<|-1) h.IoBuffer<|flushed h.IoBuffer (ix (ix h.Mons m mZ).Outer p sZ).Page):=by
 unfold zcJ
 by_cases e:(ix (ix h.Mons m zh).Outer p zV).Page = -1
 .rw [show ine (ix (ix h.Mons m zh).Outer p zV).Page (-1)=false by simp[ine,e],show ieq (ix (ix h.Mons m mZ).Outer p sZ).Page (-1)=true from zbE.2 e]
  exact⟨rfl,rfl⟩
 .rw [show ine (ix (ix h.Mons m zh).Outer p zV).Page (-1)=true from zE5.2 e,show ieq (ix (ix h.Mons m mZ).Outer p sZ).Page (-1)=false from zck.2 e]
  exact⟨rfl,rfl⟩
def zLl {h k:Host}{m p:Int}{s:Slot}(n:hasB m (ln h.Mons)=true)(q:hasB p (ln (ix h.Mons m mZ).Outer)=true){x:Mon}(u:k.Mons=up h.Mons m x)(t:x.Guests=(ix h.Mons m mZ).Guests)(v:x.Outer=up (ix h.Mons m mZ).Outer p s){e:Entry}(w:zdR h e=true)(c:(ix (ix h.Mons m mZ).Outer p sZ).Page = -1\/e.Host≠(ix (ix h.Mons m mZ).Outer p sZ).Page):zdR k e=true:=by obtain⟨f,g,b⟩:=zg9.1 w;rw[zg9,u,zeK];refine⟨f,?_⟩;by_cases l:m=zeA e.Tag;{rw [<- l]at f g b ⊢;rw[zbq n,t,v];refine⟨g,?_⟩;by_cases j:(zbK (ix (ix h.Mons m mZ).Guests (zfu e.Tag) gZ).Live e.Page).Page=p;{have a:zbJ (zbK (ix (ix h.Mons m mZ).Guests (zfu e.Tag) gZ).Live e.Page) (ix h.Mons m mZ).Outer=noSlot\/e.Host≠(zbJ (zbK (ix (ix h.Mons m mZ).Guests (zfu e.Tag) gZ).Live e.Page) (ix h.Mons m mZ).Outer).Page:=(by rcases z04 (s:=zbK (ix (ix h.Mons m mZ).Guests (zfu e.Tag) gZ).Live e.Page) (o:=(ix h.Mons m mZ).Outer) with d|d;{exact .inl d};{rw [j]at d;have r:zbK (ix h.Mons m mZ).Outer p=ix (ix h.Mons m mZ).Outer p sZ:=(by unfold zbK;rw[q];rfl);rw[r]at d;rcases c with c|c;{left;unfold zbJ;rw[j,r,c,show ieq (-1) (-1)=true from rfl];cases ieq p (-1)<;>rfl};{exact .inr (by rw[d];exact c)}});have i:(⟨e.Host,e.Rights⟩:Slot)=noSlot:=(by rcases a with a|a;{rw [a]at b;exact z6e b};{rcases zsY.1 b with h|h;{exact h};{exact absurd h.1 a}});rw[i];exact zsY.2 (.inl rfl)};{rw [zLg (zJ.1 q).1 j];exact b}};{rw [zbC (zJ.1 n).1 (zJ.1 f).1 l];exact⟨g,b⟩}
def zAx {h:Host}(H:Rt h){m p:Int}(d:hasB m (ln h.Mons)=true)(q:hasB p (ln (ix h.Mons m mZ).Outer)=true)(u:(ix h.Mons m mZ).Tables.length=(ix h.Mons m mZ).Guests.length)(s:Slot):Rt (zcJ h m p s):=by have c:=zSo h m p s;have i:=zt7 h m p s;have f:∀(b:List Entry),(∀e∈b,zdR h e=true)->∀e∈(cond (ieq (ix (ix h.Mons m mZ).Outer p sZ).Page<|-1) b<|flushed b (ix (ix h.Mons m mZ).Outer p sZ).Page),zdR (zcJ h m p s) e=true:=(by intro b c e a;by_cases n:(ix (ix h.Mons m mZ).Outer p sZ).Page = -1;{rw [zbE.2 n,cond_true]at a;exact zLl d q i rfl rfl (c e a) (.inl n)};{rw [zck.2 n,cond_false]at a;obtain⟨j,l⟩:=List.mem_filter.1 a;exact zLl d q i rfl rfl (c e j) (.inr (by simpa [ieq] using l))});refine⟨λk g=>?_,λe a=>f _ H.e1 e (by rwa [c.1]at a),λe a=>f _ H.e2 e (by rwa [c.2]at a)⟩;rw[i]at g ⊢;rw[zeK]at g;by_cases r:m=k;{subst r;rw[zbq d];exact z5F (H.t m d) u (zJ.1 q).1 s};{rw [zbC (zJ.1 d).1 (zJ.1 g).1 r];exact H.t k g}
def zRw:∀(l a:List Entry),allI (alone<|a++l) l a.length=true↔(∀x∈l,∀y∈a,sameKey x y=false)/\l.Pairwise (λy x=>sameKey x y=false)
 |[],a=>by simp[allI]
 |x::l,a=>by have g:=zRw l (a++[x]);rw[kD,List.singleton_append,kB,kY] at g;rw[allI,qE,g,List.pairwise_cons];have h:alone (a++x::l) a.length x=true↔∀y∈a,sameKey x y=false:=(by unfold alone;rw[kP rfl,qM];simp);rw[h];constructor;{rintro⟨d,e,f⟩;refine⟨λz c y b=>?_,λz c=>e z c x (by simp),f⟩;rcases qG.1 c with rfl|c;{exact d y b};{exact e z c y (by simp[b])}};{rintro⟨d,e,f⟩;refine⟨λy b=>d x (by simp) y b,λz c y b=>?_,f⟩;rcases jO.1 b with b|b;{exact d z (by simp[c]) y b};{rw [qF.1 b];exact e z c}}
def zEQ {l:List Entry}:zgO l=true↔l.Pairwise (λy x=>sameKey x y=false)/\l.length<=6:=by unfold zgO;have:=zRw l [];simp only[jS,uN] at this;have a:ile (ln l) 6=true↔l.length<=6:=(by rw[ile,qY,ln];omega);rw[zcM,this,a];simp
def zzQ {l:List Entry}(h:zgO l=true)(P:Entry->Bool):zgO (l.filter P)=true:=by rw[zEQ]at h ⊢;exact⟨h.1.sublist List.filter_sublist,qS (uD _ _) h.2⟩
def zG8 {l:List Entry}(h:zgO l=true)(p:Int):zgO (flushed l p)=true:=zzQ h _
def zUQ {x x':Mon}{p:Int}(a:hasB p (ln x.Outer)=true){s:Slot}(h:x'.Outer=up x.Outer p s)(q:Int):cPg x' q+(if (ix x.Outer p sZ).Page=q then 1 else 0)=cPg x q+(if s.Page=q then 1 else 0):=by have:=zRD (λs=>ieq s.Page q) a s sZ;simp only[zbE] at this;unfold cPg;rw[h];exact this
def zrG {s:Slot}(d:SOk s){c:LI}:znG s c=true↔(s.Page = -1->zc2 c=true)/\(s.Page≠-1->enough s.Rights 1=true/\c=[]):=by unfold znG;by_cases e:s=noSlot;{rw [zrl.2 e,cond_true,e];simp[noSlot]};{rw [ztx.2 e,cond_false,zcM];have:s.Page≠-1:=λh=>e (d.none h);have b:ile (ln c) 0=true↔c=[]:=(by rw[ile,qY,ln,<- uW];omega);rw[b];exact⟨λh=>⟨λa=>absurd a this,λ_=>h⟩,λh=>h.2 this⟩}
structure Chg (x x':Mon) (p:Int) (s:Slot) (c:List Int):Prop where
 o:x'.Outer=up x.Outer p s
 u:x'.Out=up x.Out p c
 g:x'.Guests=x.Guests
 t:x'.Tables.length=x.Tables.length
 d:x'.Dirty.length=x.Dirty.length
 a1:x'.Outs=x.Outs
 a2:x'.Pending=x.Pending
 a3:x'.Traps=x.Traps
 a4:x'.Own=x.Own
def MOk.chg {x i:Mon}(H:MOk x){p:Int}(a:hasB p 8=true){s:Slot}{c:LI}(k:Chg x i p s c)(l:SOk s)(j:znG s c=true):MOk i:=by refine⟨by rw[k.g];exact H.g1,by rw[k.g];exact H.g2,by rw[k.t,k.g];exact H.gt,by rw[k.o,zb6];exact H.o8,λy f=>?_,by rw[k.u,zb6];exact H.u8,by rw[k.d];exact H.d8,by rw[k.a1];exact H.outs,by rw[k.a2];exact H.pend,by rw[k.a3];exact H.tr,by rw[k.a4];exact H.own,by rw[k.g];exact H.gs,λq b=>?_⟩;{rw [k.o]at f;rcases qZ f with h|h;{exact H.sl y h};{rw [h];exact l}};{rw [k.o,k.u];by_cases e:p=q;{subst e;rw[zbq<|H.hasO a,zbq<|H.hasU a];exact j};{rw [zbC (zJ.1 a).1 (zJ.1 b).1 e,zbC (zJ.1 a).1 (zJ.1 b).1 e];exact H.fit q b}}
structure Like (h r:Host):Prop where
 len:r.Mons.length=h.Mons.length
 g:∀i,hasB i (ln h.Mons)=true->(ix r.Mons i mZ).Guests=(ix h.Mons i mZ).Guests
 o:∀i,hasB i (ln h.Mons)=true->(ix r.Mons i mZ).Outs=(ix h.Mons i mZ).Outs
 p:∀i,hasB i (ln h.Mons)=true->(ix r.Mons i mZ).Pending=(ix h.Mons i mZ).Pending
 tr:∀i,hasB i (ln h.Mons)=true->(ix r.Mons i mZ).Traps=(ix h.Mons i mZ).Traps
 ow:∀i,hasB i (ln h.Mons)=true->(ix r.Mons i mZ).Own=(ix h.Mons i mZ).Own
 pg:∀i k,hasB i (ln h.Mons)=true->hasB k 8=true->zc1 r i k=zc1 h i k
def Like.refl (h:Host):Like h h:=⟨rfl,λ_ _=>rfl,λ_ _=>rfl,λ_ _=>rfl,λ_ _=>rfl,λ_ _=>rfl,λ_ _ _ _=>rfl⟩
def Like.trans {a b c:Host}(x:Like a b)(y:Like b c):Like a c:=by have k:∀i,hasB i (ln a.Mons)=true->hasB i (ln b.Mons)=true:=λi e=>(by unfold ln at e ⊢;rwa [x.len]);exact⟨y.len.trans x.len,λi h=>(y.g i<|k i h).trans (x.g i h),λi h=>(y.o i<|k i h).trans (x.o i h),λi h=>(y.p i<|k i h).trans (x.p i h),λi h=>(y.tr i<|k i h).trans (x.tr i h),λi h=>(y.ow i<|k i h).trans (x.ow i h),λi q h d=>(y.pg i q (k i h) d).trans (x.pg i q h d)⟩
def Like.has {h r:Host}(k:Like h r){i:Int}:hasB i (ln r.Mons)=hasB i (ln h.Mons):=by unfold ln;rw[k.len]
def zsn {h r:Host}{m:Int}:∀(n i:Nat),(∀k:Nat,i<=k->k<i+n->zc1 r m (k:Int)=zc1 h m (k:Int))->zc6 r m n i=zc6 h m n i
 | 0,i,_=>rfl
 |n+1,i,h=>by rw[zc6,zc6,h i (by omega) (by omega),zsn n (i+1) λk a b=>h k (by omega) (by omega)]
def Like.seen {h r:Host}(k:Like h r)(m:Int):zB r m=zB h m:=by unfold zB;rw[k.has];cases a:hasB m (ln h.Mons) with|false=>rfl|true=>simp only[cond_true];rw[k.g m a,k.o m a,k.p m a,zsn 8 0 λj b c=>k.pg m j a (zJ.2 (by omega))]
def zpG {h:Host}{m p:Int}(a:hasB m (ln h.Mons)=true)(c:hasB p 8=true)(b:hasB p (ln (ix h.Mons m mZ).Outer)=true) :
 zc1 h m p=bif ieq (ix (ix h.Mons m mZ).Outer p sZ).Page (-1) then zc5 (ix h.Mons m mZ).Out p else zc5 h.Memory (ix (ix h.Mons m mZ).Outer p sZ).Page:=by
 unfold zc1;have:zbK (ix h.Mons m mZ).Outer p=ix (ix h.Mons m mZ).Outer p sZ:=by unfold zbK;rw[b];rfl
 rw[a,c,cond_true,cond_true,this]
 by_cases e:(ix (ix h.Mons m mZ).Outer p sZ).Page = -1
 .rw [zbE.2 e,show ine (ix (ix h.Mons m mZ).Outer p sZ).Page (-1)=false by simp[ine,e]];rfl
 .rw [zck.2 e,show ine (ix (ix h.Mons m mZ).Outer p sZ).Page (-1)=true from zE5.2 e];rfl
def zmX {m:List LI}{p:Int}(h:hasB p (ln m)=true):zc5 m p=ix m p []:=by unfold zc5;rw[h];rfl
def zR7 {m:List LI}(h:∀c∈m,zc2 c=true)(p:Int):zc2 (zc5 m p)=true:=by unfold zc5;cases a:hasB p (ln m) with|false=>rfl|true=>exact h _ (znB a _)
def zxB {h r:Host}(H:HOk h){m p:Int}(b:hasB m (ln h.Mons)=true)(i:hasB p 8=true){x:Mon}{s:Slot}{c:LI}(n:r.Mons=up h.Mons m x)(k:Chg (ix h.Mons m mZ) x p s c)(u:SOk s)(t:znG s c=true)(f:r.Memory.length=12)(g:∀c∈r.Memory,zc2 c=true)(j:zgO r.Buffer=true)(l:zgO r.IoBuffer=true)(v:0<=s.Page->s.Page=(ix (ix h.Mons m mZ).Outer p sZ).Page\/zgC h.Mons s.Page=0):HOk r:=by refine H.up b ((H.mon b).chg i k u t) n f g j l λq z=>?_;have d:=zUQ ((H.mon b).hasO i) k.o q;by_cases e:s.Page=q;{have a:=v (by omega);rw[if_pos e]at d;rcases a with a|a;{rw [if_pos (by omega)]at d;left;omega};{right;rw[e] at a;refine⟨a,?_⟩;have:=zzu b x q;have y:cPg (ix h.Mons m mZ) q<=zgC h.Mons q:=(by have:=zzu b (⟨[],[],[],[],[],0,0,[],0⟩:Mon) q;have w:cPg (⟨[],[],[],[],[],0,0,[],0⟩:Mon) q=0:=rfl;omega);omega}};{rw [if_neg e]at d;left;split at d<;>omega}
def zw1 {h r:Host}(H:HOk h){m p:Int}(a:hasB m (ln h.Mons)=true)(y:hasB p 8=true){x:Mon}{s:Slot}{c:LI}(n:r.Mons=up h.Mons m x)(k:Chg (ix h.Mons m mZ) x p s c)(B:(cond (ieq s.Page<|-1) c<|zc5 r.Memory s.Page)=zc1 h m p)(f:∀i q,hasB i (ln h.Mons)=true->hasB q 8=true->¬ (i=m/\q=p)->(ix (ix h.Mons i mZ).Outer q sZ).Page≠-1->zc5 r.Memory (ix (ix h.Mons i mZ).Outer q sZ).Page=zc5 h.Memory (ix (ix h.Mons i mZ).Outer q sZ).Page):Like h r:=by have l:=(zJ.1 a).1;have t:=(zJ.1 y).1;have e:∀{C:Type} (F:Mon->C),F x=F (ix h.Mons m mZ)->∀i,hasB i (ln h.Mons)=true->F (ix r.Mons i mZ)=F (ix h.Mons i mZ):=(by intro C F D i d;rw[n];by_cases e:m=i;{subst e;rw[zbq a];exact D};{rw [zbC l (zJ.1 d).1 e]});refine⟨by rw[n,zb6],e Mon.Guests k.g,e Mon.Outs k.a1,e Mon.Pending k.a2,e Mon.Traps k.a3,e Mon.Own k.a4,λi q d b=>?_⟩;have A:hasB i (ln r.Mons)=true:=(by rw[n,zeK];exact d);have w:=(H.mon d).hasO b;have z:hasB q (ln (ix r.Mons i mZ).Outer)=true:=(by rw[n];by_cases e:m=i;{subst e;rw[zbq a,k.o,zeK];exact w};{rw [zbC l (zJ.1 d).1 e];exact w});rw[zpG A b z];by_cases e:m=i;{subst e;rw[n,zbq a,k.o,k.u];by_cases v:p=q;{subst v;rw[zbq<|(H.mon a).hasO y,<- B];cases ieq s.Page (-1);{rfl};{rw [cond_true,cond_true,zmX (by rw[zeK];exact(H.mon a).hasU y),zbq<|(H.mon a).hasU y]}};{rw [zbC t (zJ.1 b).1 v,zpG a b w];by_cases j:(ix (ix h.Mons m mZ).Outer q sZ).Page = -1;{rw [zbE.2 j,cond_true,cond_true,zmX (by rw[zeK];exact(H.mon a).hasU b),zmX<|(H.mon a).hasU b,zbC t (zJ.1 b).1 v]};{rw [zck.2 j,cond_false,cond_false,f m q a b (λh=>v h.2.symm) j]}}};{rw [n,zbC l (zJ.1 d).1 e,zpG d b w];by_cases j:(ix (ix h.Mons i mZ).Outer q sZ).Page = -1;{rw [zbE.2 j,cond_true,cond_true]};{rw [zck.2 j,cond_false,cond_false,f i q d b (λh=>e h.1.symm) j]}}
structure Op (h r:Host):Prop where
 ok:HOk r
 like:Like h r
 rt:Rt h->Rt r
def Op.refl {h:Host}(H:HOk h):Op h h:=⟨H,Like.refl h,id⟩
def Op.trans {a b c:Host}(x:Op a b)(y:Op b c):Op a c:=⟨y.ok,x.like.trans y.like,λh=>y.rt (x.rt h)⟩
def Op.safe {h r:Host}(k:Op h r)(s:Safe h):Safe r:=⟨k.ok,k.rt s.rt⟩
def zNm {h r:Host}(H:Rt h){m:Int}(l:hasB m (ln h.Mons)=true){x:Mon}(u:r.Mons=up h.Mons m x)(q:r.Buffer=h.Buffer)(s:r.IoBuffer=h.IoBuffer)(y:x.Guests.length=(ix h.Mons m mZ).Guests.length)(w:∀g,hasB g (ln (ix h.Mons m mZ).Guests)=true->(ix x.Guests g gZ).Live=(ix (ix h.Mons m mZ).Guests g gZ).Live)(z:x.Tables=(ix h.Mons m mZ).Tables)(v:x.Outer=(ix h.Mons m mZ).Outer):Rt r:=by have d:=(zJ.1 l).1;have hg:∀g,hasB g (ln x.Guests)=hasB g (ln (ix h.Mons m mZ).Guests):=λg=>(by unfold ln;rw[y]);have f:∀e,zdR h e=true->zdR r e=true:=(by intro e c;obtain⟨n,i,p⟩:=zg9.1 c;rw[zg9,u,zeK];refine⟨n,?_⟩;by_cases b:m=zeA e.Tag;{rw [<- b]at n i p ⊢;rw[zbq l,hg,w _ i,v];exact⟨i,p⟩};{rw [zbC d (zJ.1 n).1 b];exact⟨i,p⟩});refine⟨λk j=>?_,λe c=>f e (H.e1 e (by rwa [q]at c)),λe c=>f e (H.e2 e (by rwa [s]at c))⟩;rw[u]at j ⊢;rw[zeK]at j;by_cases b:m=k;{subst b;rw[zbq l];intro g a;rw[hg]at a;rw[z,w g a,v];exact H.t m l g a};{rw [zbC d (zJ.1 j).1 b];exact H.t k j}
def zrm {h a:Host}{m p:Int}{s:Slot}{x:Mon}(b:hasB m (ln h.Mons)=true)(e:a.Mons=up h.Mons m x):(zcJ a m p s).Mons=up h.Mons m (zlS x p s):=by rw[zt7,e,zbq b,z5S]
def zDd {x a:Mon}{p:Int}{s:Slot}{c:LI}(h:a.Outer=x.Outer)(j:a.Out=up x.Out p c)(hg:a.Guests=x.Guests)(i:a.Tables=x.Tables)(g:a.Dirty.length=x.Dirty.length)(b:a.Outs=x.Outs)(d:a.Pending=x.Pending)(e:a.Traps=x.Traps)(f:a.Own=x.Own):Chg x (zlS a p s) p s c :=
 ⟨by show up a.Outer p s=_;rw[h],j,hg,by show (zlT a.Guests p a.Tables.length a.Tables).length=_;rw[zED,i],g,b,d,e,f⟩
def zwf {h:Host}{m p:Int}{s:Slot}(a:zgO h.Buffer=true)(b:zgO h.IoBuffer=true):zgO (zcJ h m p s).Buffer=true/\zgO (zcJ h m p s).IoBuffer=true:=by have:=zSo h m p s;rw[this.1,this.2];cases ieq (ix (ix h.Mons m mZ).Outer p sZ).Page (-1);{exact⟨zG8 a _,zG8 b _⟩};{exact⟨a,b⟩}
def hasM {h:Host}(H:HOk h){s:Slot}(b:SOk s)(a:s.Page≠-1):hasB s.Page (ln h.Memory)=true:=by have:=b.pos a;exact zJ.2 ⟨this.1,by unfold ln;rw[H.m12];omega⟩
def z0n {h:Host}(H:HOk h){m p:Int}(b:hasB m (ln h.Mons)=true)(c:hasB p 8=true)(l:(ix (ix h.Mons m mZ).Outer p sZ).Page≠-1):Op h (zeM h m p):=by
 have X:=H.mon b;have f:(zeM h m p).Mons=up h.Mons m (zlS {ix h.Mons m mZ with Out:=up (ix h.Mons m mZ).Out p (zc5 h.Memory (ix (ix h.Mons m mZ).Outer p sZ).Page)} p noSlot):=zrm b rfl;have k:Chg (ix h.Mons m mZ) (zlS {ix h.Mons m mZ with Out:=up (ix h.Mons m mZ).Out p (zc5 h.Memory (ix (ix h.Mons m mZ).Outer p sZ).Page)} p noSlot) p noSlot (zc5 h.Memory (ix (ix h.Mons m mZ).Outer p sZ).Page):=zDd rfl rfl rfl rfl rfl rfl rfl rfl rfl;have a:(zeM h m p).Memory=h.Memory:=zya _ _ _ _;have g:=zwf (h:=zgf h m p) (m:=m) (p:=p) (s:=noSlot) H.b1 H.b2;refine⟨zxB H b c f k (.inl rfl) ((zrG (.inl rfl)).2 ⟨λ_=>zR7 H.pgs _,λh=>absurd rfl h⟩) (by rw[a];exact H.m12) (by rw[a];exact H.pgs) g.1 g.2 λh=>absurd h (by decide),
  zw1 H b c f k ?_ (λi q _ _ _ _=>by rw[a]),λR=>?_⟩
 {rw [zpG b c<|X.hasO c,zck.2 l];rfl};{have j:Rt (zgf h m p):=zNm (x:={ix h.Mons m mZ with Out:=up (ix h.Mons m mZ).Out p (zc5 h.Memory (ix (ix h.Mons m mZ).Outer p sZ).Page)}) R b rfl rfl rfl rfl (λ_ _=>rfl) rfl rfl;have d:hasB m (ln (zgf h m p).Mons)=true:=(by show hasB m (ln<|up h.Mons m _)=true;rw[zeK];exact b);have e:ix (zgf h m p).Mons m mZ={ix h.Mons m mZ with Out:=up (ix h.Mons m mZ).Out p (zc5 h.Memory (ix (ix h.Mons m mZ).Outer p sZ).Page)}:=zbq b _ _;exact zAx j d (by rw[e];exact X.hasO c) (by rw[e];exact X.gt) noSlot}
def zHe {o:List Slot}{q:Int}:zp1 o q=none↔o.countP (λs=>ieq s.Page q)=0:=by unfold zp1;rw[List.findIdx?_eq_none_iff,vE];simp
def zYC {o:List Slot}{q:Int}{k:Nat}(h:zp1 o q=some k):∃a:k<o.length,o[k].Page=q:=by unfold zp1 at h;rw[u1]at h;obtain⟨a,b,_⟩:=h;exact⟨a,zbE.1 b⟩
def zAr {q:Int}:∀(l:List Mon) (i:Nat),((zjX q l i).1<0↔zgC l q=0)/\(¬ (zjX q l i).1<0->∃a b:Nat,∃f:a<l.length,∃g:b<l[a].Outer.length,zjX q l i=(((i+a:Nat):Int),(b:Int))/\l[a].Outer[b].Page=q)
 |[],i=>⟨by simp[zjX,zgC],λh=>absurd (show (-1:Int)<0 by decide) h⟩
 |x::l,i=>by have j:=zAr (q:=q) l (i+1);unfold zjX;split;{rename_i k c;obtain⟨m,n⟩:=zYC c;refine⟨⟨λh=>by simp at h;omega,λh=>?_⟩,λ_=>⟨0,k,by simp,m,by simp,n⟩⟩;exfalso;simp only[zgC,jH,uM]at h;have d:x.Outer.countP (λs=>ieq s.Page q)=0:=(by unfold cPg at h;omega);rw[zHe.2 d]at c;cases c};{rename_i c;have d:=zHe.1 c;refine⟨?_,λh=>?_⟩;{rw [j.1];simp only[zgC,jH,uM];unfold cPg;omega};{obtain⟨a,b,f,g,e,p⟩:=j.2 h;exact⟨a+1,b,by simpa using f,by simpa using g,by rw[e];simp;omega,by simpa using p⟩}}
def zJH {h:Host}{q:Int}(a:0<=q):(zbY h q).1<0↔zgC h.Mons q=0:=by unfold zbY;rw[show ilt q 0=false from qH (by omega),cond_false];exact(zAr h.Mons 0).1
def z7B {h:Host}(H:HOk h){q:Int}(j:0<=q)(c:¬ (zbY h q).1<0):hasB (zbY h q).1 (ln h.Mons)=true/\hasB (zbY h q).2 8=true/\(ix (ix h.Mons (zbY h q).1 mZ).Outer (zbY h q).2 sZ).Page=q:=by unfold zbY at c ⊢;rw[show ilt q 0=false from qH (by omega),cond_false]at c ⊢;obtain⟨a,b,d,f,e,g⟩:=(zAr h.Mons 0).2 c;rw[e,j5];have i:=(H.mons _<|jJ d).o8;exact⟨zJ.2 (by unfold ln;simp;omega),zJ.2 (by simp;omega),by rw[zot d,zot f];exact g⟩
def zVN {P:Nat->Bool}:∀{n i:Nat} {q:Int},q∈zxU P n i↔∃k:Nat,q=(k:Int)/\i<=k/\k<i+n/\P k=true
 | 0,i,q=>by simp[zxU];intro k _ _ _;omega
 |n+1,i,q=>by
  have d:=@zVN P n (i+1) q;unfold zxU;constructor
  .intro h;cases c:P i with
   |true=>rw[c,cond_true,qG]at h;rcases h with h|h;{exact⟨i,h,by omega,by omega,c⟩};{obtain⟨k,a,f,g,b⟩:=d.1 h;exact⟨k,a,by omega,by omega,b⟩}
   |false=>rw[c,cond_false]at h;obtain⟨k,a,f,g,b⟩:=d.1 h;exact⟨k,a,by omega,by omega,b⟩
  {rintro⟨k,a,f,g,b⟩;by_cases e:k=i;{subst e;rw[b,cond_true,a];exact jF};{have:=d.2 ⟨k,a,by omega,by omega,b⟩;cases P i;{exact this};{exact jA _ this}}}
def zIp {h:Host}{q:Int}:q∈zcU h↔hasB q (ln h.Memory)=true/\zgC h.Mons q=0:=by unfold zcU;rw[zVN];constructor;{rintro⟨k,rfl,b,c,d⟩;exact⟨zJ.2 (by unfold ln;omega),(zJH (by omega)).1 (qD d)⟩};{rintro⟨b,c⟩;have a:=zJ.1 b;unfold ln at a;refine⟨q.toNat,by omega,by omega,by omega,?_⟩;rw[show ((q.toNat:Nat):Int)=q by omega];exact qK ((zJH a.1).2 c)}
def z1B {h:Host}(a:zcU h≠[]):hasB (ix (zcU h) 0 0) (ln h.Memory)=true/\zgC h.Mons (ix (zcU h) 0 0)=0:=by refine zIp.1 (znB (zJ.2 ⟨by omega,?_⟩) 0);unfold ln;have:=kT.2 a;omega
structure But (h r:Host) (m p:Int):Prop where
 ne:∀i k,hasB i (ln h.Mons)=true->hasB k 8=true->¬ (i=m/\k=p)->ix (ix r.Mons i mZ).Outer k sZ=ix (ix h.Mons i mZ).Outer k sZ
def zH2 {h r:Host}{m p:Int}(a:hasB m (ln h.Mons)=true)(j:hasB p 8=true){x:Mon}{s:Slot}(b:r.Mons=up h.Mons m x)(g:x.Outer=up (ix h.Mons m mZ).Outer p s):But h r m p:=by refine⟨λi k d f c=>?_⟩;rw[b];by_cases e:m=i;{subst e;rw[zbq a,g,zbC (zJ.1 j).1 (zJ.1 f).1 λe=>c ⟨rfl,e.symm⟩]};{rw [zbC (zJ.1 a).1 (zJ.1 d).1 e]}
def z5z {h:Host}(H:HOk h){m p:Int}(a:hasB m (ln h.Mons)=true)(c:hasB p 8=true):But h (zeM h m p) m p/\ix (ix (zeM h m p).Mons m mZ).Outer p sZ=noSlot:=by have b:(zeM h m p).Mons=up h.Mons m (zlS {ix h.Mons m mZ with Out:=up (ix h.Mons m mZ).Out p (zc5 h.Memory (ix (ix h.Mons m mZ).Outer p sZ).Page)} p noSlot):=zrm a rfl;refine⟨zH2 a c b rfl,?_⟩;rw[b,zbq a];exact zbq ((H.mon a).hasO c) _ _
structure Roomy (h r:Host):Prop where
 op:Op h r
 free:zcU r≠[]
 sl:∀i k,hasB i (ln h.Mons)=true->hasB k 8=true->ix (ix r.Mons i mZ).Outer k sZ=ix (ix h.Mons i mZ).Outer k sZ\/ix (ix r.Mons i mZ).Outer k sZ=noSlot
 dirt:∀i,(ix r.Mons i mZ).Dirty=(ix h.Mons i mZ).Dirty
def zOi {h r:Host}{m:Int}(c:hasB m (ln h.Mons)=true){x:Mon}(a:r.Mons=up h.Mons m x)(b:x.Dirty=(ix h.Mons m mZ).Dirty)(i:Int):(ix r.Mons i mZ).Dirty=(ix h.Mons i mZ).Dirty:=by
 rw[a];by_cases e:i.toNat=m.toNat
 {have:∀l:List Mon,ix l i mZ=ix l m mZ:=λl=>(by unfold ix;rw[e]);rw[this,this,zbq c,b]};{unfold ix up;simp[List.getD,jD,Ne.symm e]}
def roomy {h:Host}(H:HOk h):Roomy h (zd0 h):=by unfold zd0;by_cases b:zcU h=[];{rw [show ieq (ln<|zcU h) 0=true by rw[b];rfl,cond_true];have p:¬ (zbY h 0).1<0:=λd=>(by have:(0:Int)∈zcU h:=zIp.2 ⟨zJ.2 (by unfold ln;rw[H.m12];omega),(zJH (by omega)).1 d⟩;rw[b] at this;cases this);obtain⟨a,c,f⟩:=z7B H (by omega) p;have k:=z0n H a c (by rw[f];decide);have j:=z5z H a c;refine⟨k,λd=>?_,λi q g r=>?_,λi=>zOi (x:=zlS {ix h.Mons (zbY h 0).1 mZ with Out:=up (ix h.Mons (zbY h 0).1 mZ).Out (zbY h 0).2 (zc5 h.Memory (ix (ix h.Mons (zbY h 0).1 mZ).Outer (zbY h 0).2 sZ).Page)} (zbY h 0).2 noSlot) a (zrm a rfl) rfl i⟩;{have:(0:Int)∈zcU (zeM h (zbY h 0).1 (zbY h 0).2):=(by refine zIp.2 ⟨zJ.2 (by unfold ln;rw[k.ok.m12];omega),?_⟩;have n:(zeM h (zbY h 0).1 (zbY h 0).2).Mons=up h.Mons (zbY h 0).1 (zlS {ix h.Mons (zbY h 0).1 mZ with Out:=up (ix h.Mons (zbY h 0).1 mZ).Out (zbY h 0).2 (zc5 h.Memory (ix (ix h.Mons (zbY h 0).1 mZ).Outer (zbY h 0).2 sZ).Page)} (zbY h 0).2 noSlot):=zrm a rfl;have l:=zzu a (zlS {ix h.Mons (zbY h 0).1 mZ with Out:=up (ix h.Mons (zbY h 0).1 mZ).Out (zbY h 0).2 (zc5 h.Memory (ix (ix h.Mons (zbY h 0).1 mZ).Outer (zbY h 0).2 sZ).Page)} (zbY h 0).2 noSlot) 0;rw[<- n] at l;have m:=zUQ (x':=zlS {ix h.Mons (zbY h 0).1 mZ with Out:=up (ix h.Mons (zbY h 0).1 mZ).Out (zbY h 0).2 (zc5 h.Memory (ix (ix h.Mons (zbY h 0).1 mZ).Outer (zbY h 0).2 sZ).Page)} (zbY h 0).2 noSlot) ((H.mon a).hasO c) (s:=noSlot) rfl 0;rw[if_pos f,if_neg (by decide)] at m;have t:=H.uq 0 (by omega);omega);rw[d] at this;cases this};{by_cases e:i=(zbY h 0).1/\q=(zbY h 0).2;{rw [e.1,e.2];exact .inr j.2};{exact .inl (j.1.ne i q g r e)}}};{have:ieq (ln<|zcU h) 0=false:=zck.2 (by unfold ln;have:=kT.2 b;omega);rw[this,cond_false];exact⟨Op.refl H,b,λi k g u=>.inl rfl,λ_=>rfl⟩}
def zZO {m:List LI}{p:Int}{c:LI}(b:hasB p (ln m)=true)(a:zc2 c=true):zkw m p c=up m p c:=by unfold zkw;rw[b,a];rfl
def zEa {m:List LI}{p q:Int}{c:LI}(a:0<=p)(h:q≠p):zc5 (up m p c) q=zc5 m q:=by unfold zc5;rw[zeK];cases b:hasB q (ln m) with|false=>rfl|true=>rw[cond_true,cond_true,zbC a (zJ.1 b).1<|Ne.symm h]
def zD9 {m:List LI}{p:Int}{c:LI}(a:hasB p (ln m)=true):zc5 (up m p c) p=c:=by rw[zmX (by rw[zeK];exact a),zbq a]
def z2d {h:Host}(H:HOk h){m p a:Int}(d:hasB m (ln h.Mons)=true)(f:hasB p 8=true)(z:(ix (ix h.Mons m mZ).Outer p sZ).Page = -1)(u:hasB a (ln h.Memory)=true)(B:zgC h.Mons a=0) :
 Op h (zgm h m p a)/\But h (zgm h m p a) m p/\ix (ix (zgm h m p a).Mons m mZ).Outer p sZ=⟨a,3⟩/\∀i,(ix (zgm h m p a).Mons i mZ).Dirty=(ix h.Mons i mZ).Dirty:=by
 have X:=H.mon d;have g:=zJ.1 u;unfold ln at g;rw[H.m12]at g;have l:(zgm h m p a).Mons=up h.Mons m (zlS {ix h.Mons m mZ with Out:=up (ix h.Mons m mZ).Out p []} p ⟨a,3⟩):=zrm d rfl;have k:Chg (ix h.Mons m mZ) (zlS {ix h.Mons m mZ with Out:=up (ix h.Mons m mZ).Out p []} p ⟨a,3⟩) p ⟨a,3⟩ []:=zDd rfl rfl rfl rfl rfl rfl rfl rfl rfl;have j:=((zrG<|X.slot f).1 (X.fit p f)).1 z;have b:(zgm h m p a).Memory=up h.Memory a (ix (ix h.Mons m mZ).Out p []):=by show (zcJ (landing h m p a) m p ⟨a,3⟩).Memory=_;rw[zya];exact zZO u j
 have A:SOk ⟨a,3⟩:=.inr ⟨g.1,by show a<=11;omega,by show (1:Int)<=3;omega,by show (3:Int)<=3;omega⟩
 have w:=zwf (h:=landing h m p a) (m:=m) (p:=p) (s:=⟨a,3⟩) H.b1 H.b2;refine⟨⟨zxB H d f l k A ((zrG A).2 ⟨λh=>absurd h (by show a≠-1;omega),λ_=>⟨show enough 3 1=true by decide,rfl⟩⟩) (by rw[b,zb6];exact H.m12) (λc r=>?_) w.1 w.2 λ_=>.inr B,
  zw1 H d f l k ?_ λi q y D r C=>?_,λR=>?_⟩,zH2 d f l rfl,?_,λi=>zOi (x:=zlS {ix h.Mons m mZ with Out:=up (ix h.Mons m mZ).Out p []} p ⟨a,3⟩) d l rfl i⟩
 .rw [b]at r;rcases qZ r with n|n
  .exact H.pgs c n
  .rw [n];exact j
 .rw [zpG d f<|X.hasO f,zbE.2 z,cond_true,zmX<|X.hasU f];rw[show ieq (⟨a,3⟩:Slot).Page (-1)=false from zck.2 (by show a≠-1;omega),cond_false,b]
  exact zD9 u
 .rw [b];refine zEa g.1 (λe=>?_);have:=zH3 y ((H.mon y).hasO D);rw[e] at this;omega
 .have R1:Rt (landing h m p a):=zNm (x:={ix h.Mons m mZ with Out:=up (ix h.Mons m mZ).Out p []}) R d rfl rfl rfl rfl (λ_ _=>rfl) rfl rfl;have t:hasB m (ln (landing h m p a).Mons)=true:=by show hasB m (ln<|up h.Mons m _)=true;rw[zeK];exact d
  have v:ix (landing h m p a).Mons m mZ={ix h.Mons m mZ with Out:=up (ix h.Mons m mZ).Out p []}:=zbq d _ _;exact zAx R1 t (by rw[v];exact X.hasO f) (by rw[v];exact X.gt) _
 .rw [l,zbq d];exact zbq (X.hasO f) _ _
def zNb {h:Host}(H:HOk h){m p:Int}(f:hasB m (ln h.Mons)=true)(g:hasB p 8=true)(k:(ix (ix h.Mons m mZ).Outer p sZ).Page = -1) :
 Op h (fetched h m p)/\(∃e,0<=e/\e<=11/\ix (ix (fetched h m p).Mons m mZ).Outer p sZ=⟨e,3⟩)/\∀i,(ix (fetched h m p).Mons i mZ).Dirty=(ix h.Mons i mZ).Dirty:=by
 have R:=roomy H;have c:hasB m (ln (zd0 h).Mons)=true:=by rw[R.op.like.has];exact f
 have d:(ix (ix (zd0 h).Mons m mZ).Outer p sZ).Page = -1:=by rcases R.sl m p f g with b|b<;>rw [b];{exact k};{rfl}
 obtain⟨b,j⟩:=z1B R.free;obtain⟨l,r,n,q⟩:=z2d R.op.ok c g d b j;have a:=zJ.1 b;unfold ln at a;rw[R.op.ok.m12]at a;exact⟨R.op.trans l,⟨_,a.1,by omega,n⟩,λi=>(q i).trans (R.dirt i)⟩
def zpJ {o:List Slot}{p:Int}(h:hasB p (ln o)=true):zbK o p=ix o p sZ:=by unfold zbK;rw[h];rfl
def zmY {h:Host}(H:HOk h){m p:Int}(a:hasB m (ln h.Mons)=true)(b:hasB p 8=true) :
 (cond (ieq (ix (ix h.Mons m mZ).Outer p sZ).Page<|-1) (ix (ix h.Mons m mZ).Out p [])<|zc5 h.Memory (ix (ix h.Mons m mZ).Outer p sZ).Page)=zc1 h m p:=by
 rw[zpG a b<|(H.mon a).hasO b,zmX<|(H.mon a).hasU b]
structure Mark (x y:Mon):Prop where
 o:y.Outer=x.Outer
 u:y.Out=x.Out
 g:y.Guests=x.Guests
 t:y.Tables=x.Tables
 d:y.Dirty.length=x.Dirty.length
 a1:y.Outs=x.Outs
 a2:y.Pending=x.Pending
 a3:y.Traps=x.Traps
 a4:y.Own=x.Own
def z0m {h:Host}(H:HOk h){m:Int}(b:hasB m (ln h.Mons)=true){y:Mon}(k:Mark (ix h.Mons m mZ) y):Op h {h with Mons:=up h.Mons m y}/\∀i q,ix (ix (up h.Mons m y) i mZ).Outer q sZ=ix (ix h.Mons i mZ).Outer q sZ:=by
 have X:=H.mon b;have a:hasB 0 8=true:=(by decide);have c:Chg (ix h.Mons m mZ) y 0 (ix (ix h.Mons m mZ).Outer 0 sZ) (ix (ix h.Mons m mZ).Out 0 []):=⟨by rw[zJ7<|X.hasO a,k.o],by rw[zJ7<|X.hasU a,k.u],k.g,by rw[k.t],k.d,k.a1,k.a2,k.a3,k.a4⟩
 refine⟨⟨zxB H b a rfl c (X.slot a) (X.fit 0 a) H.m12 H.pgs H.b1 H.b2 λ_=>.inl rfl,zw1 H b a rfl c (zmY H b a) λ_ _ _ _ _ _=>rfl,
  λR=>zNm R b rfl rfl rfl (by rw[k.g]) (λg _=>by rw[k.g]) k.t k.o⟩,λi q=>?_⟩
 by_cases e:i.toNat=m.toNat
 {have:∀l:List Mon,ix l i mZ=ix l m mZ:=λl=>(by unfold ix;rw[e]);rw[this,this,zbq b,k.o]};{have:ix (up h.Mons m y) i mZ=ix h.Mons i mZ:=(by unfold ix up;simp[List.getD,jD,Ne.symm e]);rw[this]}
def zNa {h:Host}(H:HOk h){m:Int}(a:hasB m (ln h.Mons)=true)(p:Int):Op h (zbP h m p)/\∀i q,ix (ix (zbP h m p).Mons i mZ).Outer q sZ=ix (ix h.Mons i mZ).Outer q sZ :=
 z0m H a ⟨rfl,rfl,rfl,rfl,zb6 _ _ _,rfl,rfl,rfl,rfl⟩
def z4W {h:Host}(H:HOk h){m:Int}(a:hasB m (ln h.Mons)=true)(p:Int):Op h (zod h m p)/\∀i q,ix (ix (zod h m p).Mons i mZ).Outer q sZ=ix (ix h.Mons i mZ).Outer q sZ :=
 z0m H a ⟨rfl,rfl,rfl,rfl,zb6 _ _ _,rfl,rfl,rfl,rfl⟩
def rights {r:Int}(a:1<=r)(b:r<=3):r=1\/r=2\/r=3:=by omega
def MOk.enough1 {x:Mon}(X:MOk x){p:Int}(a:hasB p 8=true)(d:(ix x.Outer p sZ).Page≠-1):(ix x.Outer p sZ).Rights=1\/(ix x.Outer p sZ).Rights=3:=by have b:=(((zrG<|X.slot a).1 (X.fit p a)).2 d).1;have c:=(X.slot a).pos d;rcases rights c.2.2.1 c.2.2.2 with e|e|e;{exact .inl e};{rw [e]at b;exact absurd b (by decide)};{exact .inr e}
def zR5 {h:Host}(H:HOk h){m p:Int}(c:hasB m (ln h.Mons)=true)(b:hasB p 8=true)(g:(ix (ix h.Mons m mZ).Outer p sZ).Page≠-1){r:Int}(n:r=1\/r=3) :
 Op h (zcJ h m p ⟨(ix (ix h.Mons m mZ).Outer p sZ).Page,r⟩)/\But h (zcJ h m p ⟨(ix (ix h.Mons m mZ).Outer p sZ).Page,r⟩) m p/\
  ix (ix (zcJ h m p ⟨(ix (ix h.Mons m mZ).Outer p sZ).Page,r⟩).Mons m mZ).Outer p sZ=⟨(ix (ix h.Mons m mZ).Outer p sZ).Page,r⟩/\∀i,(ix (zcJ h m p ⟨(ix (ix h.Mons m mZ).Outer p sZ).Page,r⟩).Mons i mZ).Dirty=(ix h.Mons i mZ).Dirty:=by
 have X:=H.mon c;have d:=(X.slot b).pos g;have e:=zt7 h m p ⟨(ix (ix h.Mons m mZ).Outer p sZ).Page,r⟩;have k:Chg (ix h.Mons m mZ) (zlS (ix h.Mons m mZ) p ⟨(ix (ix h.Mons m mZ).Outer p sZ).Page,r⟩) p ⟨(ix (ix h.Mons m mZ).Outer p sZ).Page,r⟩ (ix (ix h.Mons m mZ).Out p []):=
  zDd rfl (zJ7 (X.hasU b) _).symm rfl rfl rfl rfl rfl rfl rfl
 have l:SOk ⟨(ix (ix h.Mons m mZ).Outer p sZ).Page,r⟩:=.inr ⟨d.1,d.2.1,by show 1<=r;omega,by show r<=3;omega⟩
 have f:=((zrG<|X.slot b).1 (X.fit p b)).2 g;have j:=zwf (h:=h) (m:=m) (p:=p) (s:=⟨(ix (ix h.Mons m mZ).Outer p sZ).Page,r⟩) H.b1 H.b2;have a:=zya h m p ⟨(ix (ix h.Mons m mZ).Outer p sZ).Page,r⟩;refine⟨⟨zxB H c b e k l ((zrG l).2 ⟨λh=>absurd h g,λ_=>⟨?_,f.2⟩⟩) (by rw[a];exact H.m12) (by rw[a];exact H.pgs) j.1 j.2 λ_=>.inl rfl,
  zw1 H c b e k (by rw[a];exact zmY H c b) (λi q _ _ _ _=>by rw[a]),λR=>zAx R c (X.hasO b) X.gt _⟩,zH2 c b e rfl,?_,λi=>zOi c e rfl i⟩
 .show enough r 1=true
  rcases n with rfl|rfl<;>decide
 .rw [e,zbq c];exact zbq (X.hasO b) _ _
structure Mended (h r:Host) (m p n:Int):Prop where
 op:Op h r
 inn:(ix (ix r.Mons m mZ).Outer p sZ).Page≠-1
 ri:ieq (wand .i64 n 2) 0=false->(ix (ix r.Mons m mZ).Outer p sZ).Rights=3
 dt:ieq (wand .i64 n 2) 0=false->ix (ix r.Mons m mZ).Dirty p false=true
 d0:ieq (wand .i64 n 2) 0=true->(ix r.Mons m mZ).Dirty=(ix h.Mons m mZ).Dirty
 dk:∀k,hasB k 8=true->k≠p->ix (ix r.Mons m mZ).Dirty k false=ix (ix h.Mons m mZ).Dirty k false
 dm:∀i,hasB i (ln h.Mons)=true->i≠m->(ix r.Mons i mZ).Dirty=(ix h.Mons i mZ).Dirty
def zWP {h:Host}(H:HOk h){m p:Int}(n:Int)(c:hasB m (ln h.Mons)=true)(g:hasB p 8=true)(v:(ix (ix h.Mons m mZ).Outer p sZ).Page≠-1):Mended h (zlz h m p n) m p n:=by
 unfold zlz;cases s:ieq (wand .i64 n 2) 0 with
 |true=>exact⟨Op.refl H,v,λe=>Bool.noConfusion<|s.symm.trans e,λe=>Bool.noConfusion<|s.symm.trans e,λ_=>rfl,λ_ _ _=>rfl,λ_ _ _=>rfl⟩
 |false=>rw[cond_false];obtain⟨f,C⟩:=zNa H c p;have d:hasB m (ln (zbP h m p).Mons)=true:=(by rw[f.like.has];exact c);have a:(ix (ix (zbP h m p).Mons m mZ).Outer p sZ).Page≠-1:=(by rw[C];exact v);have u:(ix (zbP h m p).Mons m mZ).Dirty=up (ix h.Mons m mZ).Dirty p true:=(by show (ix (up h.Mons m _) m mZ).Dirty=_;rw[zbq c]);have l:∀i,hasB i (ln h.Mons)=true->i≠m->(ix (zbP h m p).Mons i mZ).Dirty=(ix h.Mons i mZ).Dirty:=λi q b=>(by show (ix (up h.Mons m _) i mZ).Dirty=_;rw[zbC (zJ.1 c).1 (zJ.1 q).1<|Ne.symm b]);have A:=(f.ok.mon d).enough1 g a;have t:∀r:Host,(∀i,(ix r.Mons i mZ).Dirty=(ix (zbP h m p).Mons i mZ).Dirty)->Op (zbP h m p) r->(ix (ix r.Mons m mZ).Outer p sZ).Page≠-1->(ix (ix r.Mons m mZ).Outer p sZ).Rights=3->Mended h r m p n:=(by intro r j x y z;refine⟨f.trans x,y,λ_=>z,λ_=>?_,λe=>Bool.noConfusion<|s.symm.trans e,λk B b=>?_,λi q b=>by rw[j,l i q b]⟩;{rw [j,u,zbq<|(H.mon c).hasD g]};{rw [j,u,zbC (zJ.1 g).1 (zJ.1 B).1<|Ne.symm b]});unfold opened;rcases A with e|e;{rw [e,show ieq (wand .i64 1 2) 0=true by decide,cond_true];obtain⟨D,F,w,E⟩:=zR5 f.ok d g a (r:=3) (.inr rfl);exact t _ E D (by rw[w];exact a) (by rw[w])};{rw [e,show ieq (wand .i64 3 2) 0=false by decide,cond_false];exact t _ (λ_=>rfl) (Op.refl f.ok) a e}
def zR4 {h:Host}(H:HOk h){m p:Int}(n:Int)(c:hasB m (ln h.Mons)=true)(d:hasB p 8=true):Mended h (mended h m p n) m p n:=by unfold mended;by_cases e:(ix (ix h.Mons m mZ).Outer p sZ).Page = -1;{rw [zbE.2 e,cond_true];obtain⟨a,⟨q,r,s,l⟩,f⟩:=zNb H c d e;have K:=zWP a.ok n (by rw[a.like.has];exact c) d (by rw[l];show q≠-1;omega);exact⟨a.trans K.op,K.inn,K.ri,K.dt,λe=>by rw[K.d0 e,f],λk j b=>by rw[K.dk k j b,f],λi g b=>by rw[K.dm i (by rw[a.like.has];exact g) b,f]⟩};{rw [zck.2 e,cond_false];exact zWP H n c d e}
def zqc {h:Host}{m p:Int}:zb8 h m p=true↔HOk h/\hasB m (ln h.Mons)=true/\hasB p 8=true:=by unfold zb8;rw[zcM,zcM,zmi]
def z2e {h:Host}(H:HOk h)(m p:Int):Op h (znH h m p):=by unfold znH;cases a:zb8 h m p with|false=>exact Op.refl H|true=>obtain⟨_,b,c⟩:=zqc.1 a;rw[cond_true];unfold zjy;by_cases e:(ix (ix h.Mons m mZ).Outer p sZ).Page = -1;{rw [zbE.2 e];exact Op.refl H};{rw [zck.2 e];exact z0n H b c e}
def z4V {h:Host}(H:HOk h)(m p:Int):Op h (zqd h m p):=by unfold zqd;cases a:zb8 h m p with|false=>exact Op.refl H|true=>obtain⟨_,b,c⟩:=zqc.1 a;rw[cond_true];unfold zjy;by_cases e:(ix (ix h.Mons m mZ).Outer p sZ).Page = -1;{rw [zbE.2 e];exact(zNb H b c e).1};{rw [zck.2 e];exact Op.refl H}
def z4U {h:Host}(H:HOk h)(m p:Int):Op h (zp2 h m p):=by unfold zp2;cases g:zb8 h m p with|false=>exact Op.refl H|true=>obtain⟨_,b,c⟩:=zqc.1 g;rw[cond_true];obtain⟨a,d⟩:=z4W H b p;(cases e:zdO (ix (ix h.Mons m zh).Outer p zV) noSlot with|true=>exact a|false=>rw[cond_false];have i:(ix (ix h.Mons m mZ).Outer p sZ).Page≠-1:=λf=>ztx.1 e (((H.mon b).slot c).none f);have:=zR5 a.ok (m:=m) (p:=p) (by rw[a.like.has];exact b) c (by rw[d];exact i) (r:=1) (.inl rfl);rw[d m p] at this;exact a.trans this.1)
structure KeepP (x y:Mon):Prop where
 o:y.Outer=x.Outer
 u:y.Out=x.Out
def zNf {h r:Host}{m:Int}(b:hasB m (ln h.Mons)=true){y:Mon}(c:r.Mons=up h.Mons m y)(a:r.Memory=h.Memory)(k:KeepP (ix h.Mons m mZ) y)(i q:Int):zc1 r i q=zc1 h i q:=by unfold zc1;rw[c,zeK,a];cases d:hasB i (ln h.Mons) with|false=>rfl|true=>by_cases e:m=i;{subst e;rw[zbq b,k.o,k.u]};{rw [zbC (zJ.1 b).1 (zJ.1 d).1 e]}
def zwa {h r:Host}{m:Int}(b:hasB m (ln h.Mons)=true){y:Mon}(c:r.Mons=up h.Mons m y)(a:r.Memory=h.Memory)(k:KeepP (ix h.Mons m mZ) y)(i:Int) :
 zB r i=bif ieq i m then ⟨(zB h i).Memory,y.Guests,y.Outs,y.Pending⟩ else zB h i:=by
 have f:zc6 r i 8 0=zc6 h i 8 0:=zsn 8 0 (λj _ _=>zNf b c a k i j);unfold zB;rw[f,c,zeK]
 by_cases e:i=m
 .subst e;rw[b,zbE.2 rfl,zbq b];rfl
 .rw [zck.2 e,cond_false];cases d:hasB i (ln h.Mons) with
  |false=>rfl
  |true=>rw[zbC (zJ.1 b).1 (zJ.1 d).1<|Ne.symm e]
def zmU {x y:Mon}(X:MOk x)(k:KeepP x y)(g:y.Guests.length=x.Guests.length)(t:y.Tables.length=x.Tables.length)(d:y.Dirty.length=x.Dirty.length)(o:y.Outs.length<=40)(p:zeh y.Pending=true)(tr:zk y.Traps 0 3=true)(b:zk y.Own 0 1000000000=true)(a:∀g∈y.Guests,zev g=true):MOk y :=
 ⟨by rw[g];exact X.g1,by rw[g];exact X.g2,by rw[t,g];exact X.gt,by rw[k.o];exact X.o8,by rw[k.o];exact X.sl,by rw[k.u];exact X.u8,by rw[d];exact X.d8,o,p,tr,b,a,by rw[k.o,k.u];exact X.fit⟩
def zVB {h:Host}(H:HOk h){m:Int}(a:hasB m (ln h.Mons)=true){y:Mon}(k:KeepP (ix h.Mons m mZ) y)(b:MOk y):HOk {h with Mons:=up h.Mons m y} :=
 H.up a b rfl H.m12 H.pgs H.b1 H.b2 λq _=>.inl (by unfold cPg;rw[k.o];exact qV _)
def zxy {h:Host}(S:Safe h){m:Int}(a:hasB m (ln h.Mons)=true){y:Mon}(k:KeepP (ix h.Mons m mZ) y)(d:MOk y)(hg:y.Guests.length=(ix h.Mons m mZ).Guests.length)(c:∀g,hasB g (ln (ix h.Mons m mZ).Guests)=true->(ix y.Guests g gZ).Live=(ix (ix h.Mons m mZ).Guests g gZ).Live)(b:y.Tables=(ix h.Mons m mZ).Tables):Safe {h with Mons:=up h.Mons m y} :=
 ⟨zVB S.ok a k d,zNm S.rt a rfl rfl rfl hg c b k.o⟩
def zTZ {h:Host}(S:Safe h)(m t:Int):Safe (zjt h m t)/\∀i,zB (zjt h m t) i=zB h i:=by
 unfold zjt;rw[zmi.2 S.ok,cond_true];cases a:hasB m (ln h.Mons) with
 |false=>exact⟨S,λ_=>rfl⟩
 |true=>
  cases b:zk t 0 3 with
  |false=>exact⟨S,λ_=>rfl⟩
  |true=>have X:=S.ok.mon a;have k:KeepP (ix h.Mons m mZ) {ix h.Mons m mZ with Traps:=t}:=⟨rfl,rfl⟩;refine⟨zxy S a k (zmU X k rfl rfl rfl X.outs X.pend b X.own X.gs) rfl (λ_ _=>rfl) rfl,λi=>?_⟩;rw[cond_true,cond_true];refine(zwa (h:=h) (r:={h with Mons:=up h.Mons m {ix h.Mons m mZ with Traps:=t}}) a rfl rfl k i).trans ?_;by_cases e:i=m;{subst e;rw[zbE.2 rfl,cond_true];unfold zB;rw[a];rfl};{rw [zck.2 e];rfl}
def zHh:∀(n i:Nat) (k:Kept),(ziY n i k).Known.length=k.Known.length/\(ziY n i k).Slots.length=k.Slots.length
 | 0,i,k=>⟨rfl,rfl⟩
 |n+1,i,k=>by have a:=zHh n (i+1) (zce k (i:Int));have b:=zmN k (i:Int);exact⟨a.1.trans b.1,a.2.trans b.2⟩
def zLs:∀(n i:Nat) (k:Kept),k.Known.length=k.Slots.length->∀j,hasB j (ln k.Known)=true->
 ((i:Int)<=j/\j<((i+n:Nat):Int)->ix (ziY n i k).Known j false=false/\ix (ziY n i k).Slots j sZ=noSlot)/\
 (¬ ((i:Int)<=j/\j<((i+n:Nat):Int))->ix (ziY n i k).Known j false=ix k.Known j false/\ix (ziY n i k).Slots j sZ=ix k.Slots j sZ)
 | 0,i,k,_,j,_=>⟨λh=>by omega,λ_=>⟨rfl,rfl⟩⟩
 |n+1,i,k,g,j,f=>by have b:=zmN k (i:Int);have d:=zxS (q:=(i:Int)) g f;have c:=zLs n (i+1) (zce k (i:Int)) (by rw[b.1,b.2,g]) j (by unfold ln at f ⊢;rwa [b.1]);rw[ziY];by_cases a:((i+1:Nat):Int)<=j/\j<((i+1+n:Nat):Int);{exact⟨λ_=>c.1 a,λh=>absurd (by omega) h⟩};{rw [(c.2 a).1,(c.2 a).2,d.1,d.2];by_cases e:(i:Int)=j;{rw [zbE.2 e];exact⟨λ_=>⟨rfl,rfl⟩,λh=>absurd (by omega) h⟩};{rw [zck.2 e];exact⟨λh=>absurd (by omega) a,λ_=>⟨rfl,rfl⟩⟩}}
def zS0 {k:Kept}{a b:List Slot}(h:KOk k a b):KOk (ziz k) a b:=by have e:=zHh k.Known.length 0 k;refine⟨e.1.trans h.l1,e.2.trans h.l2,λi f=>?_⟩;have c:hasB i (ln k.Known)=true:=(by unfold ln at f ⊢;rwa [h.l1]);have d:=zJ.1 c;unfold ln at d;have:=(zLs k.Known.length 0 k (by rw[h.l1,h.l2]) i c).1 ⟨by omega,by omega⟩;unfold ziz;rw[this.1,this.2];rfl
def zLf:∀(n j:Nat) (l:List Kept),(zwz n j l).length=l.length
 | 0,_,_=>rfl
 |n+1,j,l=>by rw[zwz,zLf n,zb6]
def zUU:∀(n j:Nat) (l:List Kept),j+n<=l.length->∀g,0<=g->ix (zwz n j l) g kZ=if (j:Int)<=g/\g<((j+n:Nat):Int) then ziz (ix l g kZ) else ix l g kZ
 | 0,j,l,_,g,hg=>by rw[if_neg (by omega)];rfl
 |n+1,j,l,a,g,hg=>by rw[zwz,zUU n (j+1) _ (by rw[zb6];omega) g hg];by_cases e:(j:Int)=g;{subst e;rw[if_neg (by omega),if_pos (by omega),zbq<|zJ.2 ⟨by omega,by unfold ln;omega⟩]};{rw [zbC (by omega) hg e];by_cases h:((j+1:Nat):Int)<=g/\g<((j+1+n:Nat):Int);{rw [if_pos h,if_pos (by omega)]};{rw [if_neg h,if_neg (by omega)]}}
def zLe:∀(n i:Nat) (l:List Mon),(zop n i l).length=l.length
 | 0,_,_=>rfl
 |n+1,i,l=>by rw[zop,zLe n,zb6]
def zRC:∀(n i:Nat) (l:List Mon),i+n<=l.length->∀m,0<=m->ix (zop n i l) m mZ=if (i:Int)<=m/\m<((i+n:Nat):Int) then zse (ix l m mZ) (ix l m mZ).Tables.length 0 else ix l m mZ
 | 0,i,l,_,m,a=>by rw[if_neg (by omega)];rfl
 |n+1,i,l,b,m,a=>by rw[zop,zRC n (i+1) _ (by rw[zb6];omega) m a];by_cases e:(i:Int)=m;{subst e;rw[if_neg (by omega),if_pos (by omega),zbq<|zJ.2 ⟨by omega,by unfold ln;omega⟩]};{rw [zbC (by omega) a e];by_cases h:((i+1:Nat):Int)<=m/\m<((i+1+n:Nat):Int);{rw [if_pos h,if_pos (by omega)]};{rw [if_neg h,if_neg (by omega)]}}
def z6l (h:Host){m:Int}(a:hasB m (ln h.Mons)=true):ix (cold h).Mons m mZ=zse (ix h.Mons m mZ) (ix h.Mons m mZ).Tables.length 0:=by have:=zJ.1 a;unfold ln at this;show ix (zop h.Mons.length 0 h.Mons) m mZ=_;rw[zRC _ _ _ (by omega) m this.1,if_pos (by omega)]
def zyB (h:Host):(cold h).Mons.length=h.Mons.length:=zLe _ _ _
def zH5 (h:Host)(m:Int):hasB m (ln (cold h).Mons)=hasB m (ln h.Mons):=by unfold ln;rw[zyB]
def zbay {l a:List Mon}(d:a.length=l.length)(h:∀m,hasB m (ln l)=true->(ix a m mZ).Outer=(ix l m mZ).Outer)(q:Int):zgC a q=zgC l q:=by have:a.map (λx=>cPg x q)=l.map (λx=>cPg x q):=(by refine List.ext_getElem (by simp[d]) λk b c=>?_;simp only[uP]at b c;have:=h (k:Int) (zJ.2 ⟨by omega,by unfold ln;omega⟩);rw[zot b,zot c] at this;simp[cPg,this]);unfold zgC;rw[this]
def zbbs {h:Host}(H:HOk h):Op h (cold h):=by have c:∀m,hasB m (ln h.Mons)=true->ix (cold h).Mons m mZ=zse (ix h.Mons m mZ) (ix h.Mons m mZ).Tables.length 0:=λm a=>z6l h a;have n:∀i q,zc1 (cold h) i q=zc1 h i q:=(by intro i q;unfold zc1;rw[zH5];cases b:hasB i (ln h.Mons) with|false=>rfl|true=>rw[c i b];rfl);refine⟨⟨H.m12,H.pgs,by rw[zyB];exact H.n1,by rw[zyB];exact H.n3,rfl,rfl,λy s=>?_,λq r=>?_⟩,⟨zyB h,λi b=>by rw[c i b];rfl,λi b=>by rw[c i b];rfl,λi b=>by rw[c i b];rfl,λi b=>by rw[c i b];rfl,λi b=>by rw[c i b];rfl,λi k _ _=>n i k⟩,λR=>⟨λm a=>?_,λe j=>(by cases j),λe j=>(by cases j)⟩⟩;{obtain⟨m,a,rfl⟩:=zD6 s mZ;rw[zH5]at a;rw[c m a];have X:=H.mon a;have k:KeepP (ix h.Mons m mZ) (zse (ix h.Mons m mZ) (ix h.Mons m mZ).Tables.length 0):=⟨rfl,rfl⟩;exact zmU X k rfl (zLf _ _ _) rfl X.outs X.pend X.tr X.own X.gs};{rw [zbay (l:=h.Mons) (zyB h) (λm a=>by rw[c m a];rfl)];exact H.uq q r};{rw [zH5]at a;rw[c m a];have X:=H.mon a;intro g hg;show KOk (ix (zwz (ix h.Mons m mZ).Tables.length 0 (ix h.Mons m mZ).Tables) g kZ) (ix (ix h.Mons m mZ).Guests g gZ).Live (ix h.Mons m mZ).Outer;have d:hasB g (ln (ix h.Mons m mZ).Guests)=true:=hg;have f:=zJ.1 d;unfold ln at f;have p:=X.gt;rw[zUU _ _ _ (by omega) g f.1,if_pos (by omega)];exact zS0 (R.t m a g d)}
def zXM {m g:Int}(c:zk m 0 2=true)(hg:zk g 0 1=true):zeA (zeZ m g)=m/\zfu (zeZ m g)=g/\1<=zeZ m g/\zeZ m g<=6:=by have d:=zds.1 c;have e:=zds.1 hg;have a:m=0\/m=1\/m=2:=(by omega);have b:g=0\/g=1:=(by omega);rcases a with rfl|rfl|rfl<;>rcases b with rfl|rfl<;>decide
def HOk.tag {h:Host}(H:HOk h){m g:Int}(a:hasB m (ln h.Mons)=true)(hg:hasB g (ln (ix h.Mons m mZ).Guests)=true):zk m 0 2=true/\zk g 0 1=true:=by have b:=zJ.1 a;have c:=zJ.1 hg;have d:=H.n3;have e:=(H.mon a).g2;unfold ln at b c;exact⟨zds.2 (by omega),zds.2 (by omega)⟩
def zh2 {r:Int}:zeq r=true↔r=0\/r=1\/r=2\/r=3:=by unfold zeq ige ile;rw[qE,qY,qY];omega
def zs5 {a b:Int}(h:enough a b=true):zeq a=true/\zeq b=true:=by unfold enough at h;rw[zcM,zcM]at h;exact⟨h.1,h.2.1⟩
def zVm {a b c:Int}(d:enough a b=true)(e:enough b c=true):enough a c=true:=by have f:=zh2.1 (zs5 d).1;have g:=zh2.1 (zs5 d).2;have h:=zh2.1 (zs5 e).2;rcases f with rfl|rfl|rfl|rfl<;>rcases g with rfl|rfl|rfl|rfl<;>rcases h with rfl|rfl|rfl|rfl<;>revert d e<;>decide
def zYt {a b n:Int}(g:n=1\/n=2)(c:enough a n=true)(d:enough b n=true):zfh a b≠0/\enough (zfh a b) n=true:=by have e:=zh2.1 (zs5 c).1;have f:=zh2.1 (zs5 d).1;rcases g with rfl|rfl<;>rcases e with rfl|rfl|rfl|rfl<;>rcases f with rfl|rfl|rfl|rfl<;>revert c d<;>decide
def both_ok (a b:Int):zeq (zfh a b)=true:=by
 unfold zfh;cases c:zeq a with
 |false=>rfl
 |true=>
  cases d:zeq b with
  |false=>rfl
  |true=>have c:=zh2.1 c;have d:=zh2.1 d;rcases c with rfl|rfl|rfl|rfl<;>rcases d with rfl|rfl|rfl|rfl<;>decide
def zYA {a:Int}(h:zeq a=true):enough a a=true:=by rcases zh2.1 h with rfl|rfl|rfl|rfl<;>decide
def zsh {n:Int}(a:n=1\/n=2):enough 0 n=false:=by rcases a with rfl|rfl<;>decide
def z05 {s:Slot}{o:List Slot}(a:s.Page≠-1)(b:(zbK o s.Page).Page≠-1):zbJ s o=bif ieq (zfh s.Rights (zbK o s.Page).Rights) 0 then noSlot else ⟨(zbK o s.Page).Page,zfh s.Rights (zbK o s.Page).Rights⟩:=by unfold zbJ;rw[zck.2 a,zck.2 b];rfl
def zrC {s:Slot}{o:List Slot}{n:Int}(c:n=1\/n=2)(h:enough (zbJ s o).Rights n=true):s.Page≠-1/\(zbK o s.Page).Page≠-1/\(zbJ s o).Page=(zbK o s.Page).Page:=by unfold zbJ at h ⊢;by_cases a:s.Page = -1;{rw [zbE.2 a,cond_true]at h;rw[show noSlot.Rights=0 from rfl,zsh c]at h;cases h};{rw [zck.2 a,cond_false]at h ⊢;by_cases b:(zbK o s.Page).Page = -1;{rw [zbE.2 b,cond_true]at h;rw[show noSlot.Rights=0 from rfl,zsh c]at h;cases h};{rw [zck.2 b,cond_false]at h ⊢;by_cases d:zfh s.Rights (zbK o s.Page).Rights=0;{rw [zbE.2 d,cond_true]at h;rw[show noSlot.Rights=0 from rfl,zsh c]at h;cases h};{rw [zck.2 d];exact⟨a,b,rfl⟩}}}
def zUV {s:Slot}{o:List Slot}{n:Int}(e:n=1\/n=2)(a:s.Page≠-1)(b:(zbK o s.Page).Page≠-1)(c:enough s.Rights n=true)(d:enough (zbK o s.Page).Rights n=true) :
 (zbJ s o).Page=(zbK o s.Page).Page/\enough (zbJ s o).Rights n=true:=by
 have:=zYt e c d;rw[z05 a b,zck.2 this.1];exact⟨rfl,this.2⟩
def z06 (s:Slot)(o:List Slot):zeq (zbJ s o).Rights=true:=by unfold zbJ;cases ieq s.Page (-1)<;>cases ieq (zbK o s.Page).Page (-1)<;>cases ieq (zfh s.Rights (zbK o s.Page).Rights) 0<;>first|rfl|exact both_ok _ _
def zz4 {b:List Entry}{t p:Int}{e:Entry}:e∈zdh b t p↔e∈b/\¬ (e.Tag=t/\e.Page=p):=by unfold zdh;rw[List.mem_filter];refine and_congr Iff.rfl ?_;unfold ztm;by_cases h:e.Tag=t;{rw [show ine e.Tag t=false by simp[ine,h],cond_false,zE5];simp[h]};{rw [zE5.2 h];simp[h]}
def z7J {b:List Entry}{e x:Entry}(h:x∈zqf b e):x∈b\/x=e:=by unfold zqf ap at h;have:x∈zdh b e.Tag e.Page++[e]:=(by cases a:igt (ln<|zdh b e.Tag e.Page++[e]) 6 with|true=>rw[a,cond_true]at h;exact kO h|false=>rw[a,cond_false]at h;exact h);rcases jO.1 this with h|h;{exact .inl (zz4.1 h).1};{exact .inr (qF.1 h)}
def zbdG {n:Nat}(h:n<=100):wsub .i64 (n:Int) 6=(n:Int)-6:=by unfold wsub IntKind.wrap;simp[IntKind.signed,IntKind.bits];omega
def zZY {b:List Entry}(h:zgO b=true)(e:Entry):zgO (zqf b e)=true:=by have c:=zEQ.1 h;have k:(zdh b e.Tag e.Page).length<=6:=qS (uD _ _) c.2;have d:(zdh b e.Tag e.Page++[e]).Pairwise (λy x=>sameKey x y=false):=(by rw[List.pairwise_append];refine⟨c.1.sublist List.filter_sublist,List.pairwise_singleton _ _,λx i y j=>?_⟩;rw[qF.1 j];have:=(zz4.1 i).2;unfold sameKey;by_cases a:e.Tag=x.Tag;{rw [zbE.2 a,cond_true,zck];exact λf=>this ⟨a.symm,f.symm⟩};{rw [zck.2 a];rfl});unfold zqf ap;cases g:igt (ln<|zdh b e.Tag e.Page++[e]) 6 with|true=>rw[cond_true,zEQ];refine⟨d.sublist<|List.drop_sublist _ _,?_⟩;unfold dp ln;rw[kB,kY,zbdG (by omega),vO,kB,kY];omega|false=>rw[cond_false,zEQ];refine⟨d,?_⟩;have:=qW g;unfold ln at this;omega
def z4F {h r:Host}{m:Int}(c:hasB m (ln h.Mons)=true){y:Mon}(b:r.Mons=up h.Mons m y)(a:r.Memory=h.Memory)(k:KeepP (ix h.Mons m mZ) y)(g:y.Guests=(ix h.Mons m mZ).Guests)(o:y.Outs=(ix h.Mons m mZ).Outs)(p:y.Pending=(ix h.Mons m mZ).Pending)(t:y.Traps=(ix h.Mons m mZ).Traps)(w:y.Own=(ix h.Mons m mZ).Own):Like h r:=by have e:∀{d:Type} (F:Mon->d),F y=F (ix h.Mons m mZ)->∀i,hasB i (ln h.Mons)=true->F (ix r.Mons i mZ)=F (ix h.Mons i mZ):=(by intro d F f i j;rw[b];by_cases e:m=i;{subst e;rw[zbq c];exact f};{rw [zbC (zJ.1 c).1 (zJ.1 j).1 e]});exact⟨by rw[b,zb6],e Mon.Guests g,e Mon.Outs o,e Mon.Pending p,e Mon.Traps t,e Mon.Own w,λi q _ _=>zNf c b a k i q⟩
def z7M {h:Host}(R:Rt h){m g:Int}(d:hasB m (ln h.Mons)=true)(r:hasB g (ln (ix h.Mons m mZ).Tables)=true){k:Kept}(u:KOk k (ix (ix h.Mons m mZ).Guests g gZ).Live (ix h.Mons m mZ).Outer) :
 Rt {h with Mons:=up h.Mons m {ix h.Mons m mZ with Tables:=up (ix h.Mons m mZ).Tables g k}}:=by
 have f:∀e,zdR h e=true->zdR {h with Mons:=up h.Mons m {ix h.Mons m mZ with Tables:=up (ix h.Mons m mZ).Tables g k}} e=true:=by intro e b;obtain⟨l,n,p⟩:=zg9.1 b;rw[zg9];show hasB (zeA e.Tag) (ln<|up h.Mons m _)=true/\hasB (zfu e.Tag) (ln (ix (up h.Mons m _) (zeA e.Tag) mZ).Guests)=true/\below' _ (zbJ (zbK (ix (ix (up h.Mons m _) (zeA e.Tag) mZ).Guests (zfu e.Tag) gZ).Live e.Page) (ix (up h.Mons m _) (zeA e.Tag) mZ).Outer)=true;rw[zeK];refine⟨l,?_⟩;by_cases a:m=zeA e.Tag;{rw [<- a]at l n p ⊢;rw[zbq d];exact⟨n,p⟩};{rw [zbC (zJ.1 d).1 (zJ.1 l).1 a];exact⟨n,p⟩}
 refine⟨λi s=>?_,λe b=>f e (R.e1 e b),λe b=>f e (R.e2 e b)⟩
 show TOk (ix (up h.Mons m _) i mZ)
 have c:hasB i (ln h.Mons)=true:=by have:hasB i (ln<|up h.Mons m {ix h.Mons m mZ with Tables:=up (ix h.Mons m mZ).Tables g k})=true:=s;rwa [zeK] at this
 by_cases a:m=i
 .subst a;rw[zbq d];intro j q
  by_cases e:g=j
  .subst e
   show KOk (ix (up _ g k) g kZ) _ _
   rw[zbq r];exact u
  .show KOk (ix (up _ g k) j kZ) _ _
   rw[zbC (zJ.1 r).1 (zJ.1 q).1 e];exact R.t m d j q
 .rw [zbC (zJ.1 d).1 (zJ.1 c).1 a];exact R.t i c
def z7y {h:Host}(H:HOk h){m g:Int}(a:hasB m (ln h.Mons)=true)(c:hasB g (ln (ix h.Mons m mZ).Tables)=true){k:Kept}(b:Rt h->KOk k (ix (ix h.Mons m mZ).Guests g gZ).Live (ix h.Mons m mZ).Outer) :
 Op h {h with Mons:=up h.Mons m {ix h.Mons m mZ with Tables:=up (ix h.Mons m mZ).Tables g k}}:=by
 have X:=H.mon a;have kp:KeepP (ix h.Mons m mZ) {ix h.Mons m mZ with Tables:=up (ix h.Mons m mZ).Tables g k}:=⟨rfl,rfl⟩;exact⟨zVB H a kp (zmU X kp rfl (zb6 _ _ _) rfl X.outs X.pend X.tr X.own X.gs),z4F (y:={ix h.Mons m mZ with Tables:=up (ix h.Mons m mZ).Tables g k}) a rfl rfl kp rfl rfl rfl rfl rfl,λR=>z7M R a c (b R)⟩
def zMC {k:Kept}{a b:List Slot}(h:KOk k a b)(p:Int):KOk (filled k a b p) a b:=by unfold filled zea;cases d:hasB p (ln k.Known) with|false=>exact h|true=>have f:hasB p (ln k.Slots)=true:=(by unfold ln at d ⊢;rw[h.l2,<- h.l1];exact d);have g:hasB p (ln a)=true:=(by unfold ln at d ⊢;rw[<- h.l1];exact d);rw[cond_true,f,cond_true,g,cond_true];refine⟨by rw[zb6];exact h.l1,by rw[zb6];exact h.l2,λi c=>?_⟩;by_cases e:p=i;{subst e;show ix (up _ p _) p sZ=bif ix (up _ p true) p false then _ else _;rw[zbq f,zbq d];rfl};{show ix (up _ p _) i sZ=bif ix (up _ p true) i false then _ else _;rw[zbC (zJ.1 f).1 (zJ.1 c).1 e,zbC (zJ.1 f).1 (zJ.1 c).1 e];exact h.at' i c}
def zbbt {h:Host}(H:HOk h){m g:Int}(b:hasB m (ln h.Mons)=true)(hg:hasB g (ln (ix h.Mons m mZ).Guests)=true)(a:Int):Op h (zcX h m g a):=
 z7y H b (by unfold ln;rw[(H.mon b).gt];exact hg) λR=>zMC (R.t m b g hg) a
def z3q {k:Kept}{a b:List Slot}(h:KOk k a b){p:Int}(c:hasB p (ln a)=true):zeS k p=bif ix k.Known p false then zbJ (ix a p sZ) b else noSlot:=by have d:hasB p (ln k.Known)=true:=(by unfold ln at c ⊢;rw[h.l1];exact c);have e:hasB p (ln k.Slots)=true:=(by unfold ln at c ⊢;rw[h.l2];exact c);unfold zeS zlY zea;rw[d,e,cond_true,cond_true,h.at' p c];cases ix k.Known p false<;>rfl
def z0X {k:Kept}{a b:List Slot}(h:KOk k a b){p:Int}(c:hasB p (ln a)=true):zeS (filled k a b p) p=zbJ (ix a p sZ) b:=by rw[z3q (zMC h p) c];have d:hasB p (ln k.Known)=true:=(by unfold ln at c ⊢;rw[h.l1];exact c);have e:hasB p (ln k.Slots)=true:=(by unfold ln at c ⊢;rw[h.l2];exact c);have:ix (filled k a b p).Known p false=true:=(by unfold filled zea;rw[d,e,c];exact zbq d _ _);rw[this];rfl
def zbcM {h:Host}(H:HOk h){m g a:Int}(i:Bool)(n:Rt h->zdR h (zUj h m g a)=true):Op h (zxc h m g a i):=by have f:∀(j k:List Entry),Like h ⟨h.Memory,h.Mons,j,k⟩:=λ_ _=>⟨rfl,λ_ _=>rfl,λ_ _=>rfl,λ_ _=>rfl,λ_ _=>rfl,λ_ _=>rfl,λ_ _ _ _=>rfl⟩;have d:∀(b:List Entry),(∀e∈b,zdR h e=true)->Rt h->∀e∈zqf b (zUj h m g a),zdR h e=true:=(by intro b l R e c;rcases z7J c with c|c;{exact l e c};{rw [c];exact n R});unfold zxc;cases i;{exact⟨⟨H.m12,H.pgs,H.n1,H.n3,zZY H.b1 _,H.b2,H.mons,H.uq⟩,f _ _,λR=>⟨R.t,λe c=>d _ R.e1 R e c,R.e2⟩⟩};{exact⟨⟨H.m12,H.pgs,H.n1,H.n3,H.b1,zZY H.b2 _,H.mons,H.uq⟩,f _ _,λR=>⟨R.t,R.e1,λe c=>d _ R.e2 R e c⟩⟩}
def z6W {b:List Entry}{t p:Int}{e:Entry}(h:zz2 b t p=some e):e∈b/\e.Tag=t/\e.Page=p:=by unfold zz2 at h;have a:=List.find?_some h;rw[zcM,zbE,zbE]at a;exact⟨uQ h,a⟩
def zlX {h:Host}{m g:Int}:zcc h m g=true↔HOk h/\hasB m (ln h.Mons)=true/\hasB g (ln (ix h.Mons m mZ).Guests)=true:=by unfold zcc;rw[zcM,zcM,zmi]
structure GOk (x:Guest):Prop where
 prog:zd7 x.Prog=true
 a:zk x.A 0 99=true
 pc:zk x.Pc 0 12=true
 w:zdQ x.Written 4 8=true
 l:zdQ x.Live 4 8=true
 ctl:znt x.Ctl=true
 pend:zeh x.Pending=true
 ex:zjS x.Exit=true
 seen:ile (ln x.Seen) 40=true
def zuX {x:Guest}:zev x=true↔GOk x:=by unfold zev;simp only[qE];exact⟨λ⟨a,b,c,d,e,f,g,h,i⟩=>⟨a,b,c,d,e,f,g,h,i⟩,λ⟨a,b,c,d,e,f,g,h,i⟩=>⟨a,b,c,d,e,f,g,h,i⟩⟩
def z5E {s:Slot}:zeT s 8=true↔s=noSlot\/(0<=s.Page/\s.Page<=7/\1<=s.Rights/\s.Rights<=3):=by unfold zeT;rw[zvj,zrl,ztx];have:wsub .i64 8 1=7:=(by decide);simp only[this,zvj,zds];simp[igt];constructor;{rintro (h|⟨h,⟨a,b⟩,c⟩);{exact .inl h};{exact .inr ⟨a,b,c⟩}};{intro h;by_cases d:s=noSlot;{exact .inl d};{rcases h with h|⟨a,b,c⟩;{exact .inl h};{exact .inr ⟨d,⟨a,b⟩,c⟩}}}
def HOk.guest {h:Host}(H:HOk h){m g:Int}(a:hasB m (ln h.Mons)=true)(hg:hasB g (ln (ix h.Mons m mZ).Guests)=true):GOk (ix (ix h.Mons m mZ).Guests g gZ):=zuX.1 ((H.mon a).gs _ (znB hg _))
structure Walked (l:List Slot) (p n q:Int):Prop where
 hp:hasB p (ln l)=true
 pg:(ix l p sZ).Page=q
 q8:hasB q 8=true
 en:enough (ix l p sZ).Rights n=true
def walked {x:Guest}(X:GOk x){p n:Int}(a:zfv x.Live p n=true):Walked x.Live p n (zcI x.Live p n):=by have e:zcI x.Live p n=(zbK x.Live p).Page:=(by unfold zcI;rw[a];rfl);unfold zfv at a;by_cases b:(zbK x.Live p).Page = -1;{rw [zbE.2 b]at a;cases a};{rw [zck.2 b,cond_false,zcM]at a;have c:hasB p (ln x.Live)=true:=(by cases c:hasB p (ln x.Live) with|true=>rfl|false=>exact absurd (by unfold zbK;rw[c];rfl) b);rw[zpJ c] at e b a;rw[e];have d:=z5E.1 ((zsU.1 X.l).1 _ (znB c sZ));refine⟨c,rfl,?_,a.1⟩;rcases d with d|d;{rw [d]at b;exact absurd rfl b};{exact zJ.2 (by omega)}}
structure Looked (h r:Host) (m g page need q host:Int):Prop where
 op:Op h r
 inn:(ix (ix r.Mons m mZ).Outer q sZ).Page=host
 ne:host≠-1
 en:enough (zbJ (ix (ix (ix h.Mons m mZ).Guests g gZ).Live page sZ) (ix r.Mons m mZ).Outer).Rights need=true
 cp:(zbJ (ix (ix (ix h.Mons m mZ).Guests g gZ).Live page sZ) (ix r.Mons m mZ).Outer).Page=host
 dk:∀k,hasB k 8=true->k≠q->ix (ix r.Mons m mZ).Dirty k false=ix (ix h.Mons m mZ).Dirty k false
 dq:need=2->ix (ix r.Mons m mZ).Dirty q false=true
 d1:need=1->(ix r.Mons m mZ).Dirty=(ix h.Mons m mZ).Dirty
 dm:∀i,hasB i (ln h.Mons)=true->i≠m->(ix r.Mons i mZ).Dirty=(ix h.Mons i mZ).Dirty
def zRW {h:Host}(S:Safe h){m g a b q:Int}(f:hasB m (ln h.Mons)=true)(hg:hasB g (ln (ix h.Mons m mZ).Guests)=true)(l:b=1\/b=2)(W:Walked (ix (ix h.Mons m mZ).Guests g gZ).Live a b q)(c:Bool)(d:zeS (zcp h m g) a=zbJ (ix (ix (ix h.Mons m mZ).Guests g gZ).Live a sZ) (ix h.Mons m mZ).Outer)(i:enough (zeS (zcp h m g) a).Rights b=true) :
 Op h (zfG h m g a c).1/\(zfG h m g a c).2=((ix (ix h.Mons m mZ).Outer q sZ).Page,true)/\(ix (ix h.Mons m mZ).Outer q sZ).Page≠-1/\(zfG h m g a c).1.Mons=h.Mons:=by
 rw[d]at i;have e:=zrC l i;rw[W.pg,zpJ<|(S.ok.mon f).hasO W.q8]at e;refine⟨zbcM S.ok c λR=>?_,?_,e.2.1,?_⟩
 .obtain⟨t1,t2⟩:=S.ok.tag f hg;obtain⟨j,k,_⟩:=zXM t1 t2;rw[zg9]
  show hasB (zeA<|zeZ m g) _=true/\hasB (zfu<|zeZ m g) (ln (ix h.Mons (zeA<|zeZ m g) mZ).Guests)=true/\below' ⟨(zeS (zcp h m g) a).Page,(zeS (zcp h m g) a).Rights⟩ (zbJ (zbK (ix (ix h.Mons (zeA<|zeZ m g) mZ).Guests (zfu<|zeZ m g) gZ).Live a) (ix h.Mons (zeA<|zeZ m g) mZ).Outer)=true
  rw[j,k,zpJ W.hp,d];exact⟨f,hg,zsY.2<|.inr ⟨rfl,zYA<|z06 _ _⟩⟩
 .show ((zeS (zcp h m g) a).Page,true)=_
  rw[d,e.2.2]
 .show (zxc h m g a c).Mons=_
  unfold zxc;cases c<;>rfl
def zWF {h:Host}(S:Safe h){m g page need q:Int}(x:hasB m (ln h.Mons)=true)(hg:hasB g (ln (ix h.Mons m mZ).Guests)=true)(D:need=1\/need=2)(W:Walked (ix (ix h.Mons m mZ).Guests g gZ).Live page need q)(N:Bool){b:List Entry}(hb:∀e∈b,zdR h e=true)(hd:need=2->ix (ix h.Mons m mZ).Dirty q false=true) :
 Looked h (zhD h b m g page need q N).1 m g page need q (zhD h b m g page need q N).2.1/\(zhD h b m g page need q N).2.2=true:=by
 have X:=S.ok.mon x;have r:=W.q8;have L:=zpJ (X.hasO W.q8);unfold zhD;cases K:zjG b m g page need with
 |true=>
  rw[cond_true];unfold zjG at K;cases B:zs8 b m g page with
  |none=>rw[B]at K;cases K
  |some e=>rw[B]at K;have A:enough e.Rights need=true:=K;obtain⟨f1,f2,f3⟩:=z6W B;obtain⟨t1,t2⟩:=S.ok.tag x hg;obtain⟨b1,b2,_⟩:=zXM t1 t2;obtain⟨_,_,v⟩:=zg9.1 (hb e f1);rw[f2,b1,b2,f3,zpJ W.hp]at v;have T:(⟨e.Host,e.Rights⟩:Slot)≠noSlot:=λf=>(by have:e.Rights=0:=congrArg Slot.Rights f;rw[this,zsh D]at A;cases A);rcases zsY.1 v with v|⟨v,h4⟩;{exact absurd v T};{have h5:=zVm h4 A;have f:=zrC D h5;rw[W.pg,L]at f;have O:e.Host=_:=v;refine⟨⟨Op.refl S.ok,f.2.2.symm.trans v.symm,?_,h5,v.symm,λ_ _ _=>rfl,hd,λ_=>rfl,λ_ _ _=>rfl⟩,rfl⟩;show e.Host≠-1;rw[O,f.2.2];exact f.2.1}
 |false=>
  rw[cond_false];have P:=S.rt.t m x g hg;cases y:zft h m g page need with
  |false=>rw[cond_false];have E:ix (zcp h m g).Known page false=true/\enough (zeS (zcp h m g) page).Rights need=true:=(by unfold zft at y;cases n:zlY (zcp h m g) page with|false=>rw[n]at y;cases y|true=>rw[n,cond_true]at y;refine⟨?_,?_⟩;{unfold zlY at n;cases hh:zea (zcp h m g) page with|false=>rw[hh]at n;cases n|true=>rw[hh]at n;exact n};{cases hz:ieq (zeS (zcp h m g) page).Page (-1) with|true=>rw[hz]at y;cases y|false=>rw[hz]at y;simpa using y});have H:zeS (zcp h m g) page=zbJ (ix (ix (ix h.Mons m mZ).Guests g gZ).Live page sZ) (ix h.Mons m mZ).Outer:=(by have Z:=z3q P W.hp;have h1:ix (ix (ix h.Mons m mZ).Tables g kZ).Known page false=true:=E.1;rw[h1]at Z;exact Z);obtain⟨U,V,Y,d⟩:=zRW S x hg D W N H E.2;rw[V];have J:=E.2;rw[H]at J;have f:=zrC D J;rw[W.pg,L]at f;exact⟨⟨U,by rw[d],Y,by rw[d];exact J,by rw[d];exact f.2.2,λ_ _ _=>by rw[d],λe=>by rw[d];exact hd e,λ_=>by rw[d],λ_ _ _=>by rw[d]⟩,rfl⟩
  |true=>
   rw[cond_true];have M:=zR4 S.ok (m:=m) (p:=q) need x r;have c:hasB m (ln (mended h m q need).Mons)=true:=(by rw[M.op.like.has];exact x);have C:(ix (mended h m q need).Mons m mZ).Guests=(ix h.Mons m mZ).Guests:=M.op.like.g m x;have l:hasB g (ln (ix (mended h m q need).Mons m mZ).Guests)=true:=(by rw[C];exact hg);have G:Safe (mended h m q need):=M.op.safe S;have F:=zbbt G.ok c l page;have S2:Safe (zcX (mended h m q need) m g page):=F.safe G;have R:hasB m (ln (zcX (mended h m q need) m g page).Mons)=true:=(by rw[F.like.has];exact c);have u:ix (zcX (mended h m q need) m g page).Mons m mZ={ix (mended h m q need).Mons m mZ with Tables:=up (ix (mended h m q need).Mons m mZ).Tables g (filled (zcp (mended h m q need) m g) (zcW (mended h m q need) m g) (ix (mended h m q need).Mons m mZ).Outer page)}:=zbq c _ _;have Q:hasB g (ln (ix (zcX (mended h m q need) m g page).Mons m mZ).Guests)=true:=(by rw[u];exact l);have w:(ix (zcX (mended h m q need) m g page).Mons m mZ).Guests=(ix h.Mons m mZ).Guests:=(by rw[u];exact C);have W2:Walked (ix (ix (zcX (mended h m q need) m g page).Mons m mZ).Guests g gZ).Live page need q:=(by rw[w];exact W);have H:zeS (zcp (zcX (mended h m q need) m g page) m g) page=zbJ (ix (ix (ix (zcX (mended h m q need) m g page).Mons m mZ).Guests g gZ).Live page sZ) (ix (zcX (mended h m q need) m g page).Mons m mZ).Outer:=(by have:zcp (zcX (mended h m q need) m g page) m g=filled (zcp (mended h m q need) m g) (zcW (mended h m q need) m g) (ix (mended h m q need).Mons m mZ).Outer page:=(by unfold zcp;rw[u];exact zbq (by unfold ln;rw[(G.ok.mon c).gt];exact l) _ _);rw[this];refine(z0X (p:=page) (G.rt.t m c g l) (by rw[C];exact W.hp)).trans ?_;rw[u]);have z:(ix (zcX (mended h m q need) m g page).Mons m mZ).Outer=(ix (mended h m q need).Mons m mZ).Outer:=by rw[u]
   have j:=zpJ ((G.ok.mon c).hasO r);have a:=zUV (s:=ix (ix (ix h.Mons m mZ).Guests g gZ).Live page sZ) (o:=(ix (mended h m q need).Mons m mZ).Outer) D (by rw[W.pg];have:=zJ.1 r;omega) (by rw[W.pg,j];exact M.inn) W.en (by
    rw[W.pg,j];rcases D with rfl|rfl
    .rcases (G.ok.mon c).enough1 r M.inn with e|e<;>rw [e]<;>decide
    .rw [M.ri (by decide)];decide)
   have J:enough (zeS (zcp (zcX (mended h m q need) m g page) m g) page).Rights need=true:=(by rw[H,w,z];exact a.2);obtain⟨U,V,Y,d⟩:=zRW S2 R Q D W2 N H J;rw[V];have I:=a.1;rw[W.pg,j]at I;refine⟨⟨(M.op.trans F).trans U,by rw[d],Y,by rw[d,z];exact a.2,by rw[d,z];exact I,λk n f=>?_,λe=>?_,λe=>?_,λi hi f=>?_⟩,rfl⟩;{rw [d,u];exact M.dk k n f};{rw [d,u];exact M.dt (by rw[e];decide)};{rw [d,u];exact M.d0 (by rw[e];decide)};{rw [d];show (ix (up (mended h m q need).Mons m _) i mZ).Dirty=_;rw[zbC (zJ.1 x).1 (zJ.1 hi).1<|Ne.symm f];exact M.dm i hi f}
def zHs {n:Int}:zhk n=true↔n=1\/n=2:=by unfold zhk;by_cases h:n=1;{rw [zbE.2 h];simp[h]};{rw [zck.2 h,cond_false,zbE];simp[h]}
def zsl {h:Host}{m g page need:Int}:zb3 h m g page need=true↔zcc h m g=true/\(need=1\/need=2)/\zfv (zcW h m g) page need=true:=by unfold zb3;rw[zcM,zcM,zHs]
def zRX {h:Host}(S:Safe h){m g page need:Int}(j:Bool)(t:zb3 h m g page need=true){b:List Entry}(r:∀e∈b,zdR h e=true) :
 Looked h (lookOf h b m g page need j).1 m g page need (zcI (zcW h m g) page need) (lookOf h b m g page need j).2.1/\(lookOf h b m g page need j).2.2=true:=by
 obtain⟨w,A,B⟩:=zsl.1 t;obtain⟨_,a,hg⟩:=zlX.1 w;have W:=walked (S.ok.guest a hg) B;unfold lookOf;rw[t,cond_true];rcases A with rfl|rfl
 .rw [show ieq 1 2=false by decide,cond_false]
  exact zWF S a hg (.inl rfl) W j r (λe=>absurd e (by decide))
 .rw [show ieq 2 2=true by decide,cond_true]
  obtain⟨d,C⟩:=zNa S.ok a (zcI (zcW h m g) page 2);have p:hasB m (ln (zbP h m<|zcI (zcW h m g) page 2).Mons)=true:=by rw[d.like.has];exact a
  have f:ix (zbP h m<|zcI (zcW h m g) page 2).Mons m mZ={ix h.Mons m mZ with Dirty:=up (ix h.Mons m mZ).Dirty (zcI (zcW h m g) page 2) true}:=zbq a _ _;have x:=(S.ok.mon a).hasD W.q8;obtain⟨L,y⟩:=zWF (d.safe S) p (g:=g) (page:=page) (need:=2) (q:=zcI (zcW h m g) page 2) (by rw[f];exact hg) (.inr rfl) (by rw[f];exact W) j (b:=b) (λe z=>by
   obtain⟨l,u,v⟩:=zg9.1 (r e z);rw[zg9];have n:hasB (zeA e.Tag) (ln (zbP h m<|zcI (zcW h m g) page 2).Mons)=true:=by rw[d.like.has];exact l
   refine⟨n,by rw[d.like.g _ l];exact u,?_⟩
   rw[d.like.g _ l];have:(ix (zbP h m<|zcI (zcW h m g) page 2).Mons (zeA e.Tag) mZ).Outer=(ix h.Mons (zeA e.Tag) mZ).Outer:=by show (ix (up h.Mons m _) _ mZ).Outer=_;by_cases c:m=zeA e.Tag;{rw [<- c,zbq a]};{rw [zbC (zJ.1 a).1 (zJ.1 l).1 c]}
   rw[this];exact v) (λ_=>by rw[f];exact zbq x _ _)
  refine⟨⟨d.trans L.op,L.inn,L.ne,?_,?_,λk s c=>?_,L.dq,λe=>absurd e (by decide),λi n c=>?_⟩,y⟩
  .have:=L.en;rw[f] at this;exact this
  .have:=L.cp;rw[f] at this;exact this
  .rw [L.dk k s c,f];exact zbC (zJ.1 W.q8).1 (zJ.1 s).1 (Ne.symm c) _ _
  .rw [L.dm i (by rw[d.like.has];exact n) c]
   show (ix (up h.Mons m _) i mZ).Dirty=_
   rw[zbC (zJ.1 a).1 (zJ.1 n).1<|Ne.symm c]
def zQ3 {x y:Int}(a : -9223372036854775808<=x+y)(b:x+y<=9223372036854775807):zQ .i64 x y=x+y:=by unfold zQ;simp only[IntKind.wrap,IntKind.signed,IntKind.bits];simp;omega
def zLn {n:Nat}{P:Int->Prop}(h:∀i:Fin n,P ((i.val:Nat):Int)){x:Int}(a:0<=x)(b:x<n):P x:=by have:=h ⟨x.toNat,by omega⟩;simpa [show ((x.toNat:Nat):Int)=x by omega] using this
def zW6 {p:Int}:zeh p=true↔0<=p/\p<=255:=by unfold zeh;exact zds
def zSa {p:Int}(h:zeh p=true):zeh (zhr p)=true:=by have a:=zW6.1 h;exact zLn (n:=256) (P:=λx=>zeh (zhr x)=true) (by decide +kernel) a.1 (by omega)
def zR9 {p:Int}(h:zeh p=true)(n:Int):zeh (zqe p n)=true:=by unfold zqe zh1;rw[h,cond_true];cases e:zk n 0 7 with|false=>exact h|true=>rw[cond_true];have b:=zW6.1 h;have a:=zds.1 e;exact zLn (n:=256) (P:=λx=>∀k,0<=k->k<(8:Int)->zeh (wor .i64 x<|zms .i64 1 k)=true) (λi k c d=>zLn (n:=8) (P:=λk=>zeh (wor .i64 ((i.val:Nat):Int)<|zms .i64 1 k)=true) (by revert i;decide +kernel) c d) b.1 (by omega) n a.1 (by omega)
structure GKeep (x y:Guest):Prop where
 ok:GOk y
 live:y.Live=x.Live
def z1D {x:Guest}(X:GOk x){c:Int}(b:zk c 0 12=true):GOk {x with Pc:=c}:=⟨X.prog,X.a,b,X.w,X.l,X.ctl,X.pend,X.ex,X.seen⟩
def z1C {x:Guest}(X:GOk x){c:Int}(a:zk c 0 99=true):GOk {x with A:=c}:=⟨X.prog,a,X.pc,X.w,X.l,X.ctl,X.pend,X.ex,X.seen⟩
def zlr {x:Guest}(X:GOk x):GKeep x (zci x):=by unfold zci;have a:=zds.1 X.pc;cases h:ige x.Pc 12 with|true=>exact⟨z1D X (by decide),rfl⟩|false=>have:¬ x.Pc≥12:=qW h;refine⟨z1D X ?_,rfl⟩;rw[zQ3 (by omega) (by omega)];exact zds.2 (by omega)
def zVu {x:Guest}(X:GOk x)(n:Int):GKeep x (saw x n):=by unfold saw;cases h:ilt (ln x.Seen) 40 with|false=>exact⟨X,rfl⟩|true=>have:ln x.Seen<40:=qD h;refine⟨⟨X.prog,X.a,X.pc,X.w,X.l,X.ctl,X.pend,X.ex,qK ?_⟩,rfl⟩;unfold ln ap at *;simp;omega
def zls {x:Guest}(X:GOk x){e:GExit}(b:zjS e=true):GKeep x (stopped x e):=⟨⟨X.prog,X.a,X.pc,X.w,X.l,X.ctl,X.pend,b,X.seen⟩,rfl⟩
def z0c {x:Guest}(X:GOk x){p:Int}(b:zeh p=true):GKeep x {x with Pending:=p}:=⟨⟨X.prog,X.a,X.pc,X.w,X.l,X.ctl,b,X.ex,X.seen⟩,rfl⟩
def zZ9 {x:Guest}(X:GOk x)(b:Bool):GKeep x {x with Halted:=b}:=⟨⟨X.prog,X.a,X.pc,X.w,X.l,X.ctl,X.pend,X.ex,X.seen⟩,rfl⟩
def z0a {x:Guest}(X:GOk x):GKeep x (held x):=⟨(zlr (zZ9 X true).ok).ok,(zlr (zZ9 X true).ok).live⟩
def z4m {x:Guest}(X:GOk x){v:Int}(c:zk v 0 99=true):GKeep x (loaded x v):=by have a:=zVu (z1C X c) v;have b:=zlr a.ok;exact⟨b.ok,b.live.trans a.live⟩
def zOm {x:Guest}(X:GOk x):GKeep x (interrupted x):=by unfold interrupted;cases zkv x with|false=>exact⟨X,rfl⟩|true=>have a:=z0c X (zSa X.pend);rw[cond_true];exact⟨(zVu a.ok _).ok,(zVu a.ok _).live⟩
def zJQ {p:List Ins}(h:zd7 p=true)(i:Int):zfk (zcL p i)=true:=by unfold zcL;cases a:hasB i (ln p) with|false=>rfl|true=>unfold zd7 at h;rw[zcM,qM]at h;exact h.1 _ (znB a _)
def zbcC {i:Ins}(h:zfk i=true)(a:i.Op=3\/i.Op=4):0<=i.X/\i.X<=15:=by unfold zfk at h;rcases a with e|e<;>rw [e]at h<;>exact zds.1 h
def z4s {i:Ins}(h:zfk i=true)(a:i.Op=5\/i.Op=6):0<=i.X/\i.X<=99:=by unfold zfk at h;rcases a with e|e<;>rw [e]at h<;>exact zds.1 h
def zbdp {i:Ins}(h:zfk i=true)(a:i.Op=8):0<=i.X/\i.X<=11:=by unfold zfk at h;rw[a]at h;exact zds.1 h
def zbdo {i:Ins}(h:zfk i=true)(a:i.Op=1):0<=i.X/\i.X<=99:=by unfold zfk at h;rw[a]at h;exact zds.1 h
def z1E {x:Guest}(X:GOk x):GKeep x (plainly x):=by have M:=zlr X;have b:=zJQ X.prog x.Pc;unfold plainly;cases ine (zN x) 2 with|true=>exact⟨X,rfl⟩|false=>rw[cond_false];(cases zk x.A 0 99 with|false=>exact M|true=>rw[cond_true];(cases zk (zcL x.Prog x.Pc).X 0 99 with|false=>exact M|true=>rw[cond_true];by_cases c:(zcL x.Prog x.Pc).Op=1;{rw [zbE.2 c,cond_true];exact⟨z1C M.ok<|zds.2<|zbdo b c,M.live⟩};{rw [zck.2 c,cond_false];by_cases d:(zcL x.Prog x.Pc).Op=2;{rw [zbE.2 d,cond_true];refine⟨z1C M.ok ?_,M.live⟩;have f:=zds.1 X.a;have i:0<=(zcL x.Prog x.Pc).X/\(zcL x.Prog x.Pc).X<=99:=(by unfold zfk at b;rw[d]at b;exact zds.1 b);rw[zds];unfold zrp;rw[zQ3 (by omega) (by omega)];have g:=Int.tmod_nonneg (a:=x.A+(zcL x.Prog x.Pc).X) 100 (by omega);have h:=Int.tmod_lt_of_pos (x.A+(zcL x.Prog x.Pc).X) (show (0:Int)<100 by omega);omega};{rw [zck.2 d,cond_false];by_cases e:(zcL x.Prog x.Pc).Op=8;{rw [zbE.2 e,cond_true];cases ieq x.A 0 with|true=>have:=zbdp b e;exact⟨z1D M.ok<|zds.2 (by omega),M.live⟩|false=>exact M};{rw [zck.2 e];exact M}}}))
def zuB {c:LI}:zc2 c=true↔(∀x∈c,zk x 0 99=true)/\ln c=4:=by unfold zc2;rw[zcM,qM,zbE]
def zoy (h:Host)(m:Int):∀(n i:Nat),(zc6 h m n i).length=n
 | 0,_=>rfl
 |n+1,i=>by rw[zc6,jB,zoy h m n]
def zNh (h:Host)(m:Int):∀(n i k:Nat) (a:k<(zc6 h m n i).length),(zc6 h m n i)[k]=zc1 h m ((i+k:Nat):Int)
 | 0,i,k,a=>by simp[zc6]at a
 |n+1,i,k,a=>by cases k with|zero=>rfl|succ k=>have:=zNh h m n (i+1) k (by simpa [zc6] using a);simp only[zc6,List.getElem_cons_succ];rw[this];congr 1;omega
def zrQ {h:Host}{m q:Int}(b:hasB q 8=true)(d:LI):ix (zc6 h m 8 0) q d=zc1 h m q:=by have c:=zJ.1 b;have a:q.toNat<(zc6 h m 8 0).length:=(by rw[zoy];omega);have:=zot a d;rw[show ((q.toNat:Nat):Int)=q by omega] at this;rw[this,zNh];congr 1;omega
def zvN (h:Host)(m:Int):ln (zc6 h m 8 0)=8:=by unfold ln;rw[zoy];rfl
def zAt {h:Host}(H:HOk h){m p:Int}(b:hasB m (ln h.Mons)=true)(a:hasB p 8=true):zc2 (zc1 h m p)=true:=by have X:=H.mon b;rw[<- zmY H b a];by_cases e:(ix (ix h.Mons m mZ).Outer p sZ).Page = -1;{rw [zbE.2 e];exact((zrG<|X.slot a).1 (X.fit p a)).1 e};{rw [zck.2 e];exact zR7 H.pgs _}
def zzt {h:Host}(H:HOk h){m:Int}(b:hasB m (ln h.Mons)=true):zb0 (zB h m)=true:=by have X:=H.mon b;unfold zB;rw[b,cond_true];unfold zb0 zjW;rw[zcM,qM];refine⟨X.gs,?_⟩;simp only[qE,zcM,qM,zbE,zds];refine⟨⟨λc d=>?_,zvN h m⟩,⟨?_,?_⟩,?_,X.pend⟩;{obtain⟨i,a,rfl⟩:=zD6 d [];rw[zvN]at a;rw[zrQ a];exact zAt H b a};{unfold ln;have:=X.g1;omega};{unfold ln;have:=X.g2;omega};{unfold ile ln;have:=X.outs;exact qK (by omega)}
structure SimT (h r:Host) (m:Int) (f:Bare->Bare):Prop where
 safe:Safe r
 seen:∀i,zB r i=bif ieq i m then f (zB h i) else zB h i
 len:r.Mons.length=h.Mons.length
def SimT.trans {a b c:Host}{m:Int}{f g:Bare->Bare}(x:SimT a b m f)(y:SimT b c m g):SimT a c m (λt=>g (f t)):=by refine⟨y.safe,λi=>?_,y.len.trans x.len⟩;rw[y.seen i,x.seen i];cases ieq i m<;>rfl
def Op.sim {h r:Host}(k:Op h r)(S:Safe h)(m:Int):SimT h r m id:=⟨k.safe S,λi=>by rw[k.like.seen i];cases ieq i m<;>rfl,k.like.len⟩
def SimT.congr {h r:Host}{m:Int}{f g:Bare->Bare}(x:SimT h r m f)(e:f (zB h m)=g (zB h m)):SimT h r m g:=by refine⟨x.safe,λi=>?_,x.len⟩;rw[x.seen i];by_cases a:i=m;{subst a;rw[zbE.2 rfl,cond_true,cond_true,e]};{rw [zck.2 a];rfl}
def SimT.has {h r:Host}{m:Int}{f:Bare->Bare}(x:SimT h r m f)(i:Int):hasB i (ln r.Mons)=hasB i (ln h.Mons):=by unfold ln;rw[x.len]
def SimT.refl {h:Host}(S:Safe h)(m:Int):SimT h h m id:=⟨S,λi=>by cases ieq i m<;>rfl,rfl⟩
def zxz {h:Host}(S:Safe h){m q a:Int}(l:hasB m (ln h.Mons)=true)(f:hasB q 8=true)(J:(ix (ix h.Mons m mZ).Outer q sZ).Page=a)(y:a≠-1)(c v:Int) :
 SimT h {h with Memory:=zbX h.Memory a c v} m (λb=>{b with Memory:=zbX b.Memory q c v})/\cellAt h.Memory a c=cellAt (zB h m).Memory q c:=by
 have H:=S.ok;have X:=H.mon l;have N:=X.slot f;have E:=hasM H N (by rw[J];exact y)
 rw[J]at E;have z:ix h.Memory a []=zc1 h m q:=by have:=zmY H l f;rw[J,zck.2 y,cond_false,zmX E] at this;exact this
 have n:ln (zc1 h m q)=4:=(zuB.1<|zAt H l f).2;have d:(zB h m).Memory=zc6 h m 8 0:=by unfold zB;rw[l];rfl
 have C:zhj h.Memory a c=hasB c 4:=by unfold zhj;rw[E,cond_true,z,n]
 have D:zhj (zc6 h m 8 0) q c=hasB c 4:=by unfold zhj;rw[zvN,f,cond_true,zrQ f,n]
 have u:cellAt h.Memory a c=cellAt (zB h m).Memory q c:=by rw[d];unfold cellAt;rw[C,D,z,zrQ f]
 refine⟨?_,u⟩;cases A:hasB c 4 with
 |false=>have s:zbX h.Memory a c v=h.Memory:=(by unfold zbX;rw[C,A];rfl);rw[s];refine(SimT.refl S m).congr ?_;show zB h m={zB h m with Memory:=zbX (zB h m).Memory q c v};rw[d];have B:zbX (zc6 h m 8 0) q c v=zc6 h m 8 0:=(by unfold zbX;rw[D,A];rfl);rw[B,<- d]
 |true=>
  cases K:zk v 0 99 with
  |false=>have s:zbX h.Memory a c v=h.Memory:=(by unfold zbX;rw[C,A,K];rfl);rw[s];refine(SimT.refl S m).congr ?_;show zB h m={zB h m with Memory:=zbX (zB h m).Memory q c v};rw[d];have B:zbX (zc6 h m 8 0) q c v=zc6 h m 8 0:=(by unfold zbX;rw[D,A,K];rfl);rw[B,<- d]
  |true=>have s:zbX h.Memory a c v=up h.Memory a (up (zc1 h m q) c v):=(by unfold zbX;rw[C,A,K,z];rfl);have B:zbX (zc6 h m 8 0) q c v=up (zc6 h m 8 0) q (up (zc1 h m q) c v):=(by unfold zbX;rw[D,A,K,zrQ f];rfl);have G:zc2 (up (zc1 h m q) c v)=true:=(by have:=zuB.1 (zAt H l f);rw[zuB,zeK];refine⟨λx O=>?_,this.2⟩;rcases qZ O with h|h;{exact this.1 x h};{rw [h];exact K});have P:=(zJ.1 E).1;have L:HOk {h with Memory:=zbX h.Memory a c v}:=(by rw[s];refine⟨by show (up _ _ _).length=12;rw[zb6];exact H.m12,λx O=>?_,H.n1,H.n3,H.b1,H.b2,H.mons,H.uq⟩;rcases qZ O with h|h;{exact H.pgs x h};{rw [h];exact G});refine⟨⟨L,⟨S.rt.t,S.rt.e1,S.rt.e2⟩⟩,λi=>?_,rfl⟩;have r:∀i k,hasB i (ln h.Mons)=true->hasB k 8=true->¬ (i=m/\k=q)->zc1 {h with Memory:=zbX h.Memory a c v} i k=zc1 h i k:=(by intro i k w g I;rw[<- zmY L (m:=i) (p:=k) w g,<- zmY H w g];show (cond (ieq (ix (ix h.Mons i mZ).Outer k sZ).Page<|-1) _<|zc5 (zbX h.Memory a c v) _)=_;by_cases e:(ix (ix h.Mons i mZ).Outer k sZ).Page = -1;{rw [zbE.2 e];rfl};{rw [zck.2 e,cond_false,cond_false,s];exact zEa P (λe=>I (H.uniq w g l f e J P))});have F:zc1 {h with Memory:=zbX h.Memory a c v} m q=up (zc1 h m q) c v:=(by rw[<- zmY L (m:=m) (p:=q) l f];show (cond (ieq (ix (ix h.Mons m mZ).Outer q sZ).Page<|-1) _<|zc5 (zbX h.Memory a c v) (ix (ix h.Mons m mZ).Outer q sZ).Page)=_;rw[J,zck.2 y,cond_false,s];exact zD9 E);by_cases w:i=m;{subst w;rw[zbE.2 rfl,cond_true];unfold zB;show (cond (hasB i<|ln h.Mons) _ _)=_;rw[l,cond_true,cond_true];show Bare.mk (zc6 {h with Memory:=zbX h.Memory a c v} i 8 0) _ _ _=Bare.mk (zbX (zc6 h i 8 0) q c v) _ _ _;congr 1;rw[B];refine zQl [] (by rw[zb6,zoy,zoy]) λk g=>?_;rw[zvN]at g;rw[zrQ g];by_cases e:q=k;{subst e;rw[zbq (by rw[zvN];exact f),F]};{rw [zbC (zJ.1 f).1 (zJ.1 g).1 e,zrQ g];exact r i k l g (λh=>e h.2.symm)}};{rw [zck.2 w,cond_false];unfold zB;show (cond (hasB i<|ln h.Mons) _ _)=_;cases M:hasB i (ln h.Mons) with|false=>rfl|true=>rw[cond_true,cond_true];show Bare.mk (zc6 {h with Memory:=zbX h.Memory a c v} i 8 0) _ _ _=_;rw[zsn 8 0 λj C D=>r i (j:Int) M (zJ.2 (by omega)) λh=>w h.1]}
def zr1 {h:Host}(S:Safe h){m g:Int}(a:hasB m (ln h.Mons)=true)(hg:hasB g (ln (ix h.Mons m mZ).Guests)=true){y:Guest}(k:GKeep (gOf h m g) y):SimT h (zhi h m g y) m (λb=>zeN b g y):=by have X:=S.ok.mon a;have kp:KeepP (ix h.Mons m mZ) {ix h.Mons m mZ with Guests:=up (ix h.Mons m mZ).Guests g y}:=⟨rfl,rfl⟩;refine⟨zxy S a kp (zmU X kp (zb6 _ _ _) rfl rfl X.outs X.pend X.tr X.own λz d=>?_) (zb6 _ _ _) (λj c=>?_) rfl,λi=>?_,zb6 _ _ _⟩;{rcases qZ d with h|h;{exact X.gs z h};{rw [h];exact zuX.2 k.ok}};{show (ix (up (ix h.Mons m mZ).Guests g y) j gZ).Live=_;by_cases e:g=j;{subst e;rw[zbq hg];exact k.live};{rw [zbC (zJ.1 hg).1 (zJ.1 c).1 e]}};{refine(zwa (h:=h) (r:=zhi h m g y) a rfl rfl kp i).trans ?_;by_cases e:i=m;{subst e;rw[zbE.2 rfl,cond_true,cond_true];unfold zeN zB;rw[a];rfl};{rw [zck.2 e];rfl}}
def zXz {h:Host}(S:Safe h){m:Int}(a:hasB m (ln h.Mons)=true){y:Mon}(kp:KeepP (ix h.Mons m mZ) y)(d:MOk y)(hg:y.Guests=(ix h.Mons m mZ).Guests)(c:y.Tables=(ix h.Mons m mZ).Tables) :
 SimT h {h with Mons:=up h.Mons m y} m (λb=>{b with Outs:=y.Outs,Pending:=y.Pending}):=by
 refine⟨zxy S a kp d (by rw[hg]) (λj _=>by rw[hg]) c,λi=>?_,zb6 _ _ _⟩
 refine(zwa (h:=h) (r:={h with Mons:=up h.Mons m y}) a rfl rfl kp i).trans ?_
 by_cases e:i=m
 .subst e;rw[zbE.2 rfl,cond_true,cond_true];unfold zB;rw[a,hg];rfl
 .rw [zck.2 e];rfl
def zgM {h:Host}{m:Int}(a:hasB m (ln h.Mons)=true):zB h m=⟨zc6 h m 8 0,(ix h.Mons m mZ).Guests,(ix h.Mons m mZ).Outs,(ix h.Mons m mZ).Pending⟩:=by unfold zB;rw[a];rfl
def z5B {h:Host}(S:Safe h){m:Int}(a:hasB m (ln h.Mons)=true):SimT h (owned h m) m id:=by unfold owned;cases b:ilt (ix h.Mons m mZ).Own 1000000000 with|false=>exact SimT.refl S m|true=>rw[cond_true];have X:=S.ok.mon a;have d:=zds.1 X.own;have c:(ix h.Mons m mZ).Own<1000000000:=qD b;have kp:KeepP (ix h.Mons m mZ) {ix h.Mons m mZ with Own:=zQ .i64 (ix h.Mons m mZ).Own 1}:=⟨rfl,rfl⟩;refine(zXz S a kp (zmU X kp rfl rfl rfl X.outs X.pend X.tr ?_ X.gs) rfl rfl).congr ?_;{show zk (zQ .i64 (ix h.Mons m mZ).Own 1) 0 1000000000=true;rw[zQ3 (by omega) (by omega),zds];omega};{rw [zgM a];rfl}
def z2U {h:Host}(S:Safe h){m:Int}(a:hasB m (ln h.Mons)=true)(n:Int):SimT h (zjd h m n) m (λb=>zkS b n):=by unfold zjd;have X:=S.ok.mon a;cases c:ilt (ln (ix h.Mons m mZ).Outs) 40 with|false=>refine(SimT.refl S m).congr ?_;rw[zgM a];unfold zkS;rw[c];rfl|true=>rw[cond_true];have d:ln (ix h.Mons m mZ).Outs<40:=qD c;have kp:KeepP (ix h.Mons m mZ) {ix h.Mons m mZ with Outs:=ap (ix h.Mons m mZ).Outs [n]}:=⟨rfl,rfl⟩;refine(zXz S a kp (zmU X kp rfl rfl rfl ?_ X.pend X.tr X.own X.gs) rfl rfl).congr ?_;{show (ap (ix h.Mons m mZ).Outs [n]).length<=40;unfold ln ap at *;simp;omega};{rw [zgM a];unfold zkS;rw[c];rfl}
def zvu {h:Host}{m g:Int}(a:hasB m (ln h.Mons)=true)(hg:hasB g (ln (ix h.Mons m mZ).Guests)=true):gAt (zB h m) g=gOf h m g:=by rw[zgM a];unfold gAt;show (cond (hasB g<|ln (ix h.Mons m mZ).Guests) _ _)=_;rw[hg];rfl
def zQ4 {x:Guest}(h:zN x=3\/zN x=4\/zN x=5\/zN x=6):(zcL x.Prog x.Pc).Op=zN x:=by unfold zN at h ⊢;cases e:canRun x with|false=>simp[e]at h|true=>simp only[e,cond_true]at h ⊢;(cases f:zkv x with|true=>simp[f]at h|false=>simp only[f,cond_false]at h ⊢;unfold zy0 at h ⊢;by_cases a:(zcL x.Prog x.Pc).Op=3;{rw [a];rfl};{rw [zck.2 a,cond_false]at h ⊢;by_cases b:(zcL x.Prog x.Pc).Op=4;{rw [b];rfl};{rw [zck.2 b,cond_false]at h ⊢;by_cases c:(zcL x.Prog x.Pc).Op=5;{rw [c];rfl};{rw [zck.2 c,cond_false]at h ⊢;by_cases d:(zcL x.Prog x.Pc).Op=6;{rw [d];rfl};{rw [zck.2 d,cond_false]at h ⊢;cases g:ieq (zcL x.Prog x.Pc).Op 7<;>simp [g]at h}}}})
def zbav {x:Guest}(X:GOk x){w:Int}(a:zN x=w)(h:w=3\/w=4):0<=address x/\address x<=15:=by have e:address x=(zcL x.Prog x.Pc).X:=(by unfold address;rcases h with e|e;{rw [a,e];rfl};{rw [a,e];rfl});rw[e];exact zbcC (zJQ X.prog _) (by rw[zQ4 (by omega),a];exact h)
def zbaw {a:Int}(b:0<=a)(c:a<=15):zk (zbn a) 0 3=true/\hasB (zd9 a) 4=true :=
 zLn (n:=16) (P:=λa=>zk (zbn a) 0 3=true/\hasB (zd9 a) 4=true) (by decide) b (by omega)
def z1t {p:Int}(h:zk p 0 3=true)(w:Bool):zjS (zs7 p w)=true:=by unfold zjS zs7;simp[ieq,h]
def z4d {n:Int}(h:zk n 0 99=true):zjS (zvl n)=true:=by unfold zjS zvl;simp[ieq,h]
def z6V {n:Int}(h:zk n 0 99=true):zjS (zy1 n)=true:=by unfold zjS zy1;simp[ieq,h]
def z7b {x:Guest}(X:GOk x)(t:Int){w:Int}(d:zN x=w):GKeep x (zgA x t w):=by have c:=zJQ X.prog x.Pc;unfold zgA;by_cases b:w=6;{rw [zbE.2 b];exact zls X (z4d<|zds.2<|z4s c (by rw[zQ4 (by omega),d];omega))};{rw [zck.2 b,cond_false];by_cases a:w=5;{rw [zbE.2 a];cases zew t 1 with|true=>exact zls X (z6V<|zds.2<|z4s c (by rw[zQ4 (by omega),d];omega))|false=>rw[a];exact zlr X};{rw [zck.2 a];rw[Bool.false_and,cond_false];cases e:(ieq w 7&&zew t 2) with|true=>exact zls X rfl|false=>rw[cond_false];cases ieq w 7;{exact zlr X};{exact z0a X}}}
def z0i {a:Type}(g:Int):hasB g (ln ([]:List a))=false:=by cases h:hasB g (ln ([]:List a)) with|false=>rfl|true=>have:=zJ.1 h;simp[ln] at this;omega
def z6h {m:List LI}(h:∀c∈m,zc2 c=true)(p c:Int):zk (cellAt m p c) 0 99=true:=by unfold cellAt zhj;cases b:hasB p (ln m) with|false=>rfl|true=>rw[cond_true];(cases a:hasB c (ln<|ix m p []) with|false=>rfl|true=>rw[cond_true];exact(zuB.1<|h _<|znB b []).1 _ (znB a 0))
def HOk.seenG {h:Host}(H:HOk h){m g:Int}(a:hasB m (ln h.Mons)=true)(hg:hasB g (ln (ix h.Mons m mZ).Guests)=true):GOk (gOf h m g):=H.guest a hg
def zXJ {h:Host}(S:Safe h){m g:Int}(i:hasB m (ln h.Mons)=true)(hg:hasB g (ln (ix h.Mons m mZ).Guests)=true)(w:Bool)(B:zN (gOf h m g)=bif w then 4 else 3) :
 SimT h (ziu (zjx h m g (gOf h m g) w) m g (gOf h m g) w) m (λb=>zmr b g (gOf h m g) w):=by
 have X:=S.ok.seenG i hg;have t:=zbav X B (by cases w<;>simp)
 have n:=zbaw t.1 t.2;have z:zcx w=1\/zcx w=2:=by cases w<;>simp [zcx]
 unfold ziu zjx;cases k:zb3 h m g (zbn<|address<|gOf h m g) (zcx w) with
 |false=>have e:lookOf h h.Buffer m g (zbn<|address<|gOf h m g) (zcx w) false=(h,-1,false):=(by unfold lookOf;rw[k];rfl);have q:zfv (gOf h m g).Live (zbn<|address<|gOf h m g) (zcx w)=false:=(by cases y:zfv (gOf h m g).Live (zbn<|address<|gOf h m g) (zcx w) with|false=>rfl|true=>exact Bool.noConfusion (k.symm.trans<|zsl.2 ⟨zlX.2 ⟨S.ok,i,hg⟩,z,y⟩));rw[e];refine(zr1 S i hg<|zls X<|z1t n.1 w).congr ?_;unfold zmr;rw[q];rfl
 |true=>obtain⟨L,x⟩:=zRX S false k S.rt.e1;obtain⟨_,_,j⟩:=zsl.1 k;have c:zfv (gOf h m g).Live (zbn<|address<|gOf h m g) (zcx w)=true:=j;have W:=walked X j;rw[x,cond_true];have l:=L.op.safe S;have f:hasB m (ln (lookOf h h.Buffer m g (zbn<|address<|gOf h m g) (zcx w) false).1.Mons)=true:=(by rw[L.op.like.has];exact i);have a:=L.op.like.g m i;have C:hasB (zcI (zcW h m g) (zbn<|address<|gOf h m g)<|zcx w) 8=true:=W.q8;obtain⟨u,v⟩:=zxz l f C L.inn L.ne (zd9<|address<|gOf h m g) (gOf h m g).A;rw[L.op.like.seen m] at v;cases w with|true=>rw[cond_true];have r:=L.op.sim S m;have p:hasB m (ln ({(lookOf h h.Buffer m g (zbn<|address<|gOf h m g) (zcx true) false).1 with Memory:=zbX (lookOf h h.Buffer m g (zbn<|address<|gOf h m g) (zcx true) false).1.Memory (lookOf h h.Buffer m g (zbn<|address<|gOf h m g) (zcx true) false).2.1 (zd9<|address<|gOf h m g) (gOf h m g).A}:Host).Mons)=true:=f;have d:hasB g (ln (ix ({(lookOf h h.Buffer m g (zbn<|address<|gOf h m g) (zcx true) false).1 with Memory:=zbX (lookOf h h.Buffer m g (zbn<|address<|gOf h m g) (zcx true) false).1.Memory (lookOf h h.Buffer m g (zbn<|address<|gOf h m g) (zcx true) false).2.1 (zd9<|address<|gOf h m g) (gOf h m g).A}:Host).Mons m mZ).Guests)=true:=(by show hasB g (ln (ix (lookOf h h.Buffer m g (zbn<|address<|gOf h m g) (zcx true) false).1.Mons m mZ).Guests)=true;rw[a];exact hg);have s:GKeep (gOf {(lookOf h h.Buffer m g (zbn<|address<|gOf h m g) (zcx true) false).1 with Memory:=zbX (lookOf h h.Buffer m g (zbn<|address<|gOf h m g) (zcx true) false).1.Memory (lookOf h h.Buffer m g (zbn<|address<|gOf h m g) (zcx true) false).2.1 (zd9<|address<|gOf h m g) (gOf h m g).A} m g) (zci<|gOf h m g):=(by have:gOf {(lookOf h h.Buffer m g (zbn<|address<|gOf h m g) (zcx true) false).1 with Memory:=zbX (lookOf h h.Buffer m g (zbn<|address<|gOf h m g) (zcx true) false).1.Memory (lookOf h h.Buffer m g (zbn<|address<|gOf h m g) (zcx true) false).2.1 (zd9<|address<|gOf h m g) (gOf h m g).A} m g=gOf h m g:=(by show ix (ix (lookOf h h.Buffer m g (zbn<|address<|gOf h m g) (zcx true) false).1.Mons m mZ).Guests g gZ=_;rw[a];rfl);rw[this];exact zlr X);refine((r.trans u).trans (zr1 u.safe p d s)).congr ?_;unfold zmr;rw[c];rfl|false=>rw[cond_false];have r:=L.op.sim S m;have d:hasB g (ln (ix (lookOf h h.Buffer m g (zbn<|address<|gOf h m g) (zcx false) false).1.Mons m mZ).Guests)=true:=(by rw[a];exact hg);have s:GKeep (gOf (lookOf h h.Buffer m g (zbn<|address<|gOf h m g) (zcx false) false).1 m g) (loaded (gOf h m g)<|cellAt (lookOf h h.Buffer m g (zbn<|address<|gOf h m g) (zcx false) false).1.Memory (lookOf h h.Buffer m g (zbn<|address<|gOf h m g) (zcx false) false).2.1<|zd9<|address<|gOf h m g):=(by have:gOf (lookOf h h.Buffer m g (zbn<|address<|gOf h m g) (zcx false) false).1 m g=gOf h m g:=(by show ix (ix (lookOf h h.Buffer m g (zbn<|address<|gOf h m g) (zcx false) false).1.Mons m mZ).Guests g gZ=_;rw[a];rfl);rw[this];exact z4m X (z6h l.ok.pgs _ _));refine(r.trans<|zr1 l f d s).congr ?_;unfold zmr;rw[c,v];rfl
def z7a {h r:Host}{m g:Int}(e:(ix r.Mons m mZ).Guests=(ix h.Mons m mZ).Guests):gOf r m g=gOf h m g:=by unfold gOf;rw[e]
def zbbu (h:Host)(m:Int)(a:hasB m (ln h.Mons)=true):(ix (owned h m).Mons m mZ).Guests=(ix h.Mons m mZ).Guests:=by unfold owned;cases ilt (ix h.Mons m mZ).Own 1000000000 with|false=>rfl|true=>show (ix (up h.Mons m _) m mZ).Guests=_;rw[zbq a]
def z7z (h:Host)(m n:Int)(a:hasB m (ln h.Mons)=true):(ix (zjd h m n).Mons m mZ).Guests=(ix h.Mons m mZ).Guests:=by unfold zjd;cases ilt (ln (ix h.Mons m mZ).Outs) 40 with|false=>rfl|true=>show (ix (up h.Mons m _) m mZ).Guests=_;rw[zbq a]
def z5D {h:Host}(S:Safe h){m:Int}(a:hasB m (ln h.Mons)=true)(x:Guest)(w:Int):SimT h (zfm h m x w) m id/\(ix (zfm h m x w).Mons m mZ).Guests=(ix h.Mons m mZ).Guests:=by unfold zfm;cases (cond (ine w 6) (ieq (zoi (ix h.Mons m mZ).Traps x.Ctl.Traps<|zgx w) 2) false) with|false=>exact⟨SimT.refl S m,rfl⟩|true=>exact⟨z5B S a,zbbu h m a⟩
def z5C {h:Host}(S:Safe h){m:Int}(a:hasB m (ln h.Mons)=true)(x:Guest)(w:Int):SimT h (zhS h m x w) m (λb=>bif (cond (zil x.Ctl.Traps w) (ieq w 5) false) then zkS b (zcL x.Prog x.Pc).X else b)/\(ix (zhS h m x w).Mons m mZ).Guests=(ix h.Mons m mZ).Guests:=by unfold zhS;cases (cond (zil x.Ctl.Traps w) (ieq w 5) false) with|false=>exact⟨SimT.refl S m,rfl⟩|true=>exact⟨z2U S a _,z7z h m _ a⟩
def zEy {h:Host}(S:Safe h){m g:Int}(d:hasB m (ln h.Mons)=true)(hg:hasB g (ln (ix h.Mons m mZ).Guests)=true){w:Int}(l:zN (gOf h m g)=w) :
 SimT h (zlU h m g (gOf h m g) w) m (λb=>zr2 b g (gOf h m g) w):=by
 have X:=S.ok.seenG d hg;obtain⟨f,j⟩:=z5D S d (gOf h m g) w;have a:hasB m (ln (zfm h m (gOf h m g) w).Mons)=true:=by rw[f.has];exact d
 obtain⟨i,k⟩:=z5C f.safe a (gOf h m g) w;have e:hasB m (ln (zhS (zfm h m (gOf h m g) w) m (gOf h m g) w).Mons)=true:=by rw[i.has];exact a
 have c:hasB g (ln (ix (zhS (zfm h m (gOf h m g) w) m (gOf h m g) w).Mons m mZ).Guests)=true:=by rw[k,j];exact hg
 have n:GKeep (gOf (zhS (zfm h m (gOf h m g) w) m (gOf h m g) w) m g) (zgA (gOf h m g) (gOf h m g).Ctl.Traps w):=by rw[z7a<|k.trans j];exact z7b X _ l
 exact((f.trans i).trans (zr1 i.safe e c n)).congr rfl
def z3h (x:Guest):zN x=0\/zN x=1\/zN x=2\/zN x=3\/zN x=4\/zN x=5\/zN x=6\/zN x=7:=by unfold zN zy0;cases canRun x<;>cases zkv x<;>cases ieq (zcL x.Prog x.Pc).Op 3<;>cases ieq (zcL x.Prog x.Pc).Op 4<;>cases ieq (zcL x.Prog x.Pc).Op 5<;>cases ieq (zcL x.Prog x.Pc).Op 6<;>cases ieq (zcL x.Prog x.Pc).Op 7<;>simp
def zUS {h:Host}(H:HOk h)(m g:Int):zib (zB h m) g=bif zcc h m g then !ieq (zN<|gOf h m g) 0 else false:=by unfold zib zcc;rw[zmi.2 H,cond_true];cases a:hasB m (ln h.Mons) with|false=>have:(zB h m).Guests=[]:=(by unfold zB;rw[a];rfl);rw[this,z0i];rfl|true=>rw[cond_true,zzt H a,cond_true];have:(zB h m).Guests=(ix h.Mons m mZ).Guests:=(by rw[zgM a]);rw[this];(cases hg:hasB g (ln (ix h.Mons m mZ).Guests) with|false=>rfl|true=>rw[cond_true,cond_true,zvu a hg])
def step_ok {h:Host}(S:Safe h)(m g:Int):SimT h (zcN h m g).1 m (λb=>zfS b g)/\(zcN h m g).2=zib (zB h m) g:=by
 have a:=zUS S.ok m g;unfold zcN;cases i:zcc h m g with
 |false=>rw[i,cond_false]at a;refine⟨(SimT.refl S m).congr ?_,a.symm⟩;unfold zfS;rw[a];rfl
 |true=>rw[i,cond_true]at a;rw[cond_true];obtain⟨_,c,hg⟩:=zlX.1 i;have X:=S.ok.seenG c hg;have f:=zvu c hg;have d:∀w,zN (gOf h m g)=w->w≠0->zfS (zB h m) g=stepped (zB h m) g (gOf h m g) w:=(by intro w j k;unfold zfS;rw[a,j,zck.2 k,f,j];rfl);rcases z3h (gOf h m g) with e|e|e|e|e|e|e|e;{rw [e];rw[e]at a;refine⟨(SimT.refl S m).congr ?_,a.symm⟩;unfold zfS;rw[a];rfl};{rw [e]at a ⊢;exact⟨(zr1 S c hg<|zOm X).congr (d 1 e (by decide)).symm,a.symm⟩};{rw [e]at a ⊢;exact⟨(zr1 S c hg<|z1E X).congr (d 2 e (by decide)).symm,a.symm⟩};{rw [e]at a ⊢;exact⟨(zXJ S c hg false e).congr (d 3 e (by decide)).symm,a.symm⟩};{rw [e]at a ⊢;exact⟨(zXJ S c hg true e).congr (d 4 e (by decide)).symm,a.symm⟩};{rw [e]at a ⊢;exact⟨(zEy S c hg e).congr (d 5 e (by decide)).symm,a.symm⟩};{rw [e]at a ⊢;exact⟨(zEy S c hg e).congr (d 6 e (by decide)).symm,a.symm⟩};{rw [e]at a ⊢;exact⟨(zEy S c hg e).congr (d 7 e (by decide)).symm,a.symm⟩}
structure BackOk (b c:Bare):Prop where
 m:c.Memory=b.Memory
 o:c.Outs=b.Outs
 n:c.Guests.length=b.Guests.length
 g:∀j,hasB j (ln b.Guests)=true->GKeep (ix b.Guests j gZ) (ix c.Guests j gZ)
 p:zeh b.Pending=true->zeh c.Pending=true
def z7U {h:Host}(S:Safe h){m:Int}(b:hasB m (ln h.Mons)=true){c:Bare}(k:BackOk (zB h m) c):SimT h (zcK h m c) m (λ_=>c):=by have X:=S.ok.mon b;have f:=zgM b;have d:(zB h m).Guests=(ix h.Mons m mZ).Guests:=(by rw[f]);have l:c.Guests.length=(ix h.Mons m mZ).Guests.length:=(by rw[k.n,d]);have hg:∀j,hasB j (ln (ix h.Mons m mZ).Guests)=true->GKeep (ix (ix h.Mons m mZ).Guests j gZ) (ix c.Guests j gZ):=λj a=>(by have:=k.g j (by rw[d];exact a);rwa [d] at this);have kp:KeepP (ix h.Mons m mZ) (zsc (ix h.Mons m mZ) c):=⟨rfl,rfl⟩;have s:zeh c.Pending=true:=k.p (by rw[f];exact X.pend);refine⟨zxy S b kp (zmU X kp l rfl rfl X.outs s X.tr X.own λz t=>?_) l (λj a=>(hg j a).live) rfl,λi=>?_,zb6 _ _ _⟩;{obtain⟨j,a,rfl⟩:=zD6 t gZ;exact zuX.2 (hg j (by unfold ln at a ⊢;rw[<- l];exact a)).ok};{refine(zwa (h:=h) (r:=zcK h m c) b rfl rfl kp i).trans ?_;by_cases e:i=m;{subst e;rw[zbE.2 rfl,cond_true,cond_true];show Bare.mk (zB h i).Memory c.Guests (ix h.Mons i mZ).Outs c.Pending=c;have u:=k.m;have q:=k.o;rw[f]at q;cases c;simp_all};{rw [zck.2 e];rfl}}
def seen_none {h:Host}{m:Int}(a:hasB m (ln h.Mons)=false):zB h m=⟨[],[],[],0⟩:=by unfold zB;rw[a];rfl
def zu1:zb0 ⟨[],[],[],0⟩=false:=by decide
def zvi {b:Bare}(h:zb0 b=false)(g:Int):zb1 b g=false:=by unfold zb1;rw[h];rfl
def zjQ {b:Bare}(h:zb0 b=true):BackOk b b:=⟨rfl,rfl,rfl,λj a=>⟨zuX.1 (by
 unfold zb0 at h;rw[zcM,qM]at h;exact h.1 _ (znB a _)),rfl⟩,id⟩
def z3u {b:Bare}(h:zb0 b=true){g:Int}(hg:hasB g (ln b.Guests)=true){y:Guest}(k:GKeep (gAt b g) y):BackOk b (zeN b g y):=by have e:gAt b g=ix b.Guests g gZ:=(by unfold gAt;rw[hg];rfl);refine⟨rfl,rfl,zb6 _ _ _,λj c=>?_,id⟩;show GKeep _ (ix (up b.Guests g y) j gZ);by_cases a:g=j;{subst a;rw[zbq hg,<- e];exact k};{rw [zbC (zJ.1 hg).1 (zJ.1 c).1 a];exact(zjQ h).g j c}
def zsX {b:Bare}(h:zb0 b=true){g:Int}{c:Bool}{y:Guest}(k:hasB g (ln b.Guests)=true->c=true->GOk (gAt b g)->GKeep (gAt b g) y):BackOk b (chg b g c y):=by unfold chg zb1;rw[h,cond_true];cases hg:hasB g (ln b.Guests) with|false=>exact zjQ h|true=>rw[cond_true];(cases c with|false=>exact zjQ h|true=>refine z3u h hg (k hg rfl ?_);have:=(zjQ h).g g hg;unfold gAt;rw[hg];exact this.ok)
def zrT {h:Host}(S:Safe h)(m:Int){F:Bare->Bare}(d:∀b,zb0 b=true->BackOk b (F b))(c:F ⟨[],[],[],0⟩=⟨[],[],[],0⟩):SimT h (zgg h m<|F<|zB h m) m F:=by unfold zgg zcl;rw[zmi.2 S.ok,cond_true];cases a:hasB m (ln h.Mons) with|false=>refine(SimT.refl S m).congr ?_;rw[seen_none a];exact c.symm|true=>exact(z7U S a<|d _<|zzt S.ok a).congr rfl
def zm1 {h:Host}(S:Safe h)(m:Int){t:Bare->Bool}(a:t ⟨[],[],[],0⟩=false):zfl h m (t<|zB h m)=t (zB h m):=by unfold zfl zcl;rw[zmi.2 S.ok,cond_true];cases b:hasB m (ln h.Mons) with|false=>rw[cond_false,seen_none b,a]|true=>rfl
def zrB (g:Int)(c:Bool)(y:Guest):chg ⟨[],[],[],0⟩ g c y=⟨[],[],[],0⟩:=by unfold chg;rw[zvi zu1];rfl
def zlo (g:Int)(c:Bool):zb4 ⟨[],[],[],0⟩ g c=false:=by unfold zb4;rw[zvi zu1];rfl
def zXL {t:List Slot}{n q:Int}(h:zdQ t n q=true){p:Int}{s:Slot}(b:zeT s q=true):zdQ (ze0 t p s) n q=true:=by
 unfold ze0;cases hasB p (ln t) with
 |false=>exact h
 |true=>rw[cond_true];rw[zsU]at h ⊢;rw[zeK];refine⟨λx c=>?_,h.2⟩;rcases qZ c with a|a;{exact h.1 x a};{rw [a];exact b}
def zbbb {x:Guest}(X:GOk x){p:Int}{s:Slot}(h:zt4 p s=true):GKeep x (zwb x p s):=by unfold zt4 at h;rw[zcM]at h;exact⟨⟨X.prog,X.a,X.pc,zXL X.w h.2,X.l,X.ctl,X.pend,X.ex,X.seen⟩,rfl⟩
def zba8 {x:Guest}(X:GOk x){v:Int}(h:ztM x v=true):GKeep x (zvh x v):=by unfold ztM at h;rw[zcM]at h;unfold zvh;cases ieq x.Exit.Kind 2 with|true=>rw[cond_true];have b:=zls (z1C X h.1) (e:=zjb) rfl;have a:=zlr b.ok;exact⟨a.ok,a.live⟩|false=>rw[cond_false];have b:=zls X (e:=zjb) rfl;have a:=zlr b.ok;exact⟨a.ok,a.live.trans b.live⟩
def zbba {x:Guest}(X:GOk x):GKeep x (zvV x):=by unfold zvV;have a:=zls X (e:=zjb) rfl;cases ieq x.Exit.Kind 1 with|true=>exact a|false=>have b:=z0a a.ok;exact⟨b.ok,b.live.trans a.live⟩
def z0b {x:Guest}(X:GOk x)(n:Int):GKeep x (zmS x n):=z0c X (zR9 X.pend n)
def zba9 {x:Guest}(X:GOk x){c:Ctl}(h:znt c=true):GKeep x (zDg x c):=⟨⟨X.prog,X.a,X.pc,X.w,X.l,h,X.pend,X.ex,X.seen⟩,rfl⟩
def zDb (n:Int):∀(d:LI) (b:Bare) (l:List Guest),(∀k∈d,hasB k (ln b.Guests)=true)->BackOk b {b with Guests:=l}->BackOk b {b with Guests:=znI n d l}
 |[],b,l,_,h=>h
 |k::d,b,l,q,h=>by show BackOk b {b with Guests:=znI n d (zFb n l k)};refine zDb n d b _ (λj a=>q j (jA _ a)) ⟨h.m,h.o,by show (up l k _).length=_;rw[zb6];exact h.n,λj a=>?_,h.p⟩;show GKeep _ (ix (up l k _) j gZ);have r:l.length=b.Guests.length:=h.n;have c:hasB k (ln l)=true:=(by unfold ln;rw[r];exact q k jF);by_cases e:k=j;{subst e;rw[zbq c];have f:=h.g k a;have i:=z0b f.ok n;exact⟨i.ok,i.live.trans f.live⟩};{rw [zbC (zJ.1 c).1 (zJ.1 a).1 e];exact h.g j a}
def z0Z {b:Bare}(h:zb0 b=true)(n:Int):BackOk b (zjY b n):=by
 unfold zjY zf3 zFc;rw[h,cond_true];cases hasB n 8 with
 |false=>exact zjQ h
 |true=>
  rw[cond_true];cases ieq (ln<|zfe b.Guests n) 0 with
  |true=>have:=zjQ h;exact⟨rfl,rfl,rfl,this.g,λc=>zR9 c n⟩
  |false=>rw[cond_false];refine zDb n _ b b.Guests (λk a=>?_) (zjQ h);unfold zfe at a;obtain⟨j,e,rfl,_⟩:=(zJl (d:=gZ)).1 a;exact zJ.2 ⟨by omega,by unfold ln;omega⟩
def z3t {b:Bare}(h:zb0 b=true):BackOk b (zlm b):=by unfold zlm;rw[h,cond_true];exact⟨rfl,rfl,rfl,(zjQ h).g,λa=>zSa a⟩
def z7I {h:Host}(S:Safe h)(m p c v:Int):SimT h (zlu h m p c v) m (λb=>zoQ b p c v)/\zdT h m p c v=zkR (zB h m) p c v:=by have e:zdT h m p c v=zkR (zB h m) p c v:=(by unfold zdT zkR zb8 zNi;rw[zmi.2 S.ok,cond_true];cases d:hasB m (ln h.Mons) with|false=>rw[seen_none d,zu1];rfl|true=>rw[zzt S.ok d,cond_true];rfl);refine⟨?_,e⟩;unfold zlu;cases f:zdT h m p c v with|false=>refine(SimT.refl S m).congr ?_;unfold zoQ;rw[<- e,f];rfl|true=>rw[cond_true];have a:=f;unfold zdT at a;rw[zcM,zcM]at a;obtain⟨k,_,_⟩:=a;obtain⟨_,d,j⟩:=zqc.1 k;have M:=zR4 S.ok (m:=m) (p:=p) 2 d j;have i:=M.op.sim S m;have g:hasB m (ln (mended h m p 2).Mons)=true:=(by rw[i.has];exact d);obtain⟨l,_⟩:=zxz i.safe g j rfl M.inn c v;refine(i.trans l).congr ?_;unfold zoQ;rw[<- e,f];rfl
def z4H {h:Host}(S:Safe h)(m g b a:Int):zb3 h m g b a=(cond (zb1 (zB h m) g) (cond (zhk a) (zfv (gAt (zB h m) g).Live b a) false) false):=by have e:zcc h m g=zb1 (zB h m) g:=(by unfold zcc zb1;rw[zmi.2 S.ok,cond_true];cases c:hasB m (ln h.Mons) with|false=>rw[seen_none c,zu1,cond_false,cond_false]|true=>rw[cond_true,zzt S.ok c,cond_true];have:(zB h m).Guests=(ix h.Mons m mZ).Guests:=(by rw[zgM c]);rw[this]);unfold zb3;rw[<- e];cases hg:zcc h m g with|false=>rw[cond_false,cond_false]|true=>obtain⟨_,c,hg⟩:=zlX.1 hg;have:(gAt (zB h m) g).Live=zcW h m g:=(by rw[zvu c hg];rfl);rw[this]
def zIn {h:Host}(S:Safe h)(m g a n:Int)(b:n=1\/n=2):zpX (zB h m) g a n=bif zk a 0 15 then zb3 h m g (zbn a) n else false:=by rw[z4H S];unfold zpX;rw[zHs.2 b,cond_true];cases zb1 (zB h m) g<;>cases zk a 0 15<;>rfl
def zVj {h:Host}(S:Safe h){m g a n:Int}(f:n=1\/n=2)(b:zpX (zB h m) g a n=true) :
 Looked h (zDN h m g a n).1 m g (zbn a) n (zEU (zB h m) g a n) (zDN h m g a n).2.1/\hasB m (ln h.Mons)=true/\hasB (zEU (zB h m) g a n) 8=true:=by
 rw[zIn S m g a n f,zcM]at b;obtain⟨L,_⟩:=zRX S true b.2 S.rt.e2;obtain⟨d,_,i⟩:=zsl.1 b.2;obtain⟨_,c,hg⟩:=zlX.1 d;have e:zEU (zB h m) g a n=zcI (zcW h m g) (zbn a) n:=by unfold zEU;rw[zvu c hg];rfl
 rw[e];exact⟨L,c,(walked (S.ok.guest c hg) i).q8⟩
def zbct {h:Host}(S:Safe h)(m g a v:Int):SimT h (znA h m g a v) m (λb=>z1q b g a v)/\zha h m g a v=zz1 (zB h m) g a v:=by have e:zha h m g a v=zz1 (zB h m) g a v:=(by unfold zha zz1;rw[zIn S m g a 2 (.inr rfl)];cases zk a 0 15<;>cases zk v 0 99<;>cases zb3 h m g (zbn a) 2<;>rfl);refine⟨?_,e⟩;unfold znA;cases c:zha h m g a v with|false=>refine(SimT.refl S m).congr ?_;unfold z1q;rw[<- e,c];rfl|true=>rw[cond_true];have f:zpX (zB h m) g a 2=true:=(by have:=e.symm.trans c;unfold zz1 at this;exact(zcM.1 this).1);obtain⟨L,i,j⟩:=zVj S (.inr rfl) f;have d:=L.op.sim S m;obtain⟨k,_⟩:=zxz d.safe (by rw[d.has];exact i) j L.inn L.ne (zd9 a) v;refine(d.trans k).congr ?_;unfold z1q;rw[<- e,c];rfl
def zbbx {h:Host}(S:Safe h)(m g a:Int):SimT h (zlv h m g a) m id/\zgd h m g a=zpX (zB h m) g a 1/\zmO h m g a=zUr (zB h m) g a:=by have e:zgd h m g a=zpX (zB h m) g a 1:=(by unfold zgd;rw[zIn S m g a 1 (.inl rfl)]);unfold zlv zmO zUr;rw[e];cases d:zpX (zB h m) g a 1 with|false=>exact⟨SimT.refl S m,rfl,rfl⟩|true=>obtain⟨L,f,i⟩:=zVj S (.inl rfl) d;have b:=L.op.sim S m;obtain⟨_,c⟩:=zxz b.safe (by rw[b.has];exact f) i L.inn L.ne (zd9 a) 0;rw[L.op.like.seen m] at c;exact⟨b,rfl,c⟩
def z4u {k:Kept}{a b:List Slot}(h:KOk k a b)(p:Int)(s:Slot):KOk (zce k p) (ze0 a p s) b:=by have j:=zmN k p;have f:(ze0 a p s).length=a.length:=(by unfold ze0;cases hasB p (ln a)<;>simp [zb6]);refine⟨by rw[j.1,f,h.l1],by rw[j.2,f,h.l2],λi l=>?_⟩;have c:hasB i (ln a)=true:=(by unfold ln at l ⊢;rwa [<- f]);have d:hasB i (ln k.Known)=true:=(by unfold ln at c ⊢;rwa [h.l1]);have g:=zxS (q:=p) (by rw[h.l1,h.l2]) d;rw[g.1,g.2];by_cases e:p=i;{subst e;rw[zbE.2 rfl];rfl};{rw [zck.2 e,cond_false,cond_false,h.at' i c];have:ix (ze0 a p s) i sZ=ix a i sZ:=(by unfold ze0;cases m:hasB p (ln a) with|false=>rfl|true=>exact zbC (zJ.1 m).1 (zJ.1 c).1 e _ _);rw[this]}
def zbcY {t m g:Int}(a:zeA t=m)(b:zfu t=g)(c:0<=m):t=zeZ m g:=by subst a;subst b;by_cases h:1<=t/\t<=6;{have e:t=1\/t=2\/t=3\/t=4\/t=5\/t=6:=(by omega);rcases e with rfl|rfl|rfl|rfl|rfl|rfl<;>decide};{exfalso;have:zeA t = -1:=(by unfold zeA ige ile;rw[show (decide (t≥1)&&decide (t<=6))=false by simp;omega];rfl);omega}
def zZF {t:List Slot}{p q:Int}{s:Slot}(h:q≠p):zbK (ze0 t p s) q=zbK t q:=by unfold ze0;cases a:hasB p (ln t) with|false=>rfl|true=>exact zSm (zJ.1 a).1 h
def z7V {t:List Slot}(h:zdQ t 4 8=true)(p:Int):zeT (zbK t p) 8=true:=by unfold zbK;cases a:hasB p (ln t) with|false=>rfl|true=>exact(zsU.1 h).1 _ (znB a _)
def z4l {x:Guest}(X:GOk x)(p:Int):GOk (zez x p):=⟨X.prog,X.a,X.pc,X.w,zXL X.l<|z7V X.w p,X.ctl,X.pend,X.ex,X.seen⟩
def z6Y {h:Host}(S:Safe h)(m g p:Int):SimT h (zjT h m g p) m (λb=>chg b g (hasB p 4) (zez (gAt b g) p))/\zfl h m (zb4 (zB h m) g<|hasB p 4)=zb4 (zB h m) g (hasB p 4):=by
 refine⟨?_,zm1 S m (t:=λb=>zb4 b g (hasB p 4))<|zlo g _⟩;unfold zjT zcl;rw[zmi.2 S.ok,cond_true];cases a:hasB m (ln h.Mons) with
 |false=>refine(SimT.refl S m).congr ?_;rw[seen_none a,zrB];rfl
 |true=>
  rw[cond_true];cases w:zb4 (zB h m) g (hasB p 4) with
  |false=>refine(SimT.refl S m).congr ?_;show zB h m=chg (zB h m) g (hasB p 4) (zez (gAt (zB h m) g) p);have c:=w;unfold zb4 at c;unfold chg;rw[c];rfl
  |true=>rw[cond_true];have c:=w;unfold zb4 zb1 at c;rw[zzt S.ok a,cond_true,zcM,zgM a]at c;have hg:hasB g (ln (ix h.Mons m mZ).Guests)=true:=c.1;have X:=S.ok.mon a;have G:=S.ok.seenG a hg;have C:chg (zB h m) g (hasB p 4) (zez (gAt (zB h m) g) p)=zeN (zB h m) g (zez (gOf h m g) p):=(by have l:=w;unfold zb4 at l;unfold chg;rw[l,zvu a hg];rfl);rw[C];have B:hasB g (ln (ix h.Mons m mZ).Tables)=true:=(by unfold ln;rw[X.gt];exact hg);have s:(zDq (zcK h m<|zeN (zB h m) g<|zez (gOf h m g) p) m g p).Mons=up h.Mons m {ix h.Mons m mZ with Guests:=up (ix h.Mons m mZ).Guests g (zez (gOf h m g) p),Tables:=up (ix h.Mons m mZ).Tables g (zce (ix (ix h.Mons m mZ).Tables g kZ) p)}:=(by show up (up h.Mons m _) m _=_;rw[z5S];have D:ix (zcK h m<|zeN (zB h m) g<|zez (gOf h m g) p).Mons m mZ=zsc (ix h.Mons m mZ) (zeN (zB h m) g<|zez (gOf h m g) p):=zbq a _ _;rw[D];unfold zsc zeN;rw[zgM a]);have kp:KeepP (ix h.Mons m mZ) {ix h.Mons m mZ with Guests:=up (ix h.Mons m mZ).Guests g (zez (gOf h m g) p),Tables:=up (ix h.Mons m mZ).Tables g (zce (ix (ix h.Mons m mZ).Tables g kZ) p)}:=⟨rfl,rfl⟩;have K:MOk {ix h.Mons m mZ with Guests:=up (ix h.Mons m mZ).Guests g (zez (gOf h m g) p),Tables:=up (ix h.Mons m mZ).Tables g (zce (ix (ix h.Mons m mZ).Tables g kZ) p)}:=zmU X kp (zb6 _ _ _) (zb6 _ _ _) rfl X.outs X.pend X.tr X.own λz L=>(by rcases qZ L with h|h;{exact X.gs z h};{rw [h];exact zuX.2 (z4l G p)});have E:HOk (zDq (zcK h m<|zeN (zB h m) g<|zez (gOf h m g) p) m g p):=S.ok.up a K s S.ok.m12 S.ok.pgs (zzQ S.ok.b1 _) (zzQ S.ok.b2 _) λq _=>.inl (qV _);have u:∀b:List Entry,(∀e∈b,zdR h e=true)->∀e∈zdh b (zeZ m g) p,zdR (zDq (zcK h m<|zeN (zB h m) g<|zez (gOf h m g) p) m g p) e=true:=(by intro b F e H;obtain⟨x,y⟩:=zz4.1 H;obtain⟨l,n,r⟩:=zg9.1 (F e x);rw[zg9,s,zeK];refine⟨l,?_⟩;by_cases d:m=zeA e.Tag;{rw [<- d]at l n r ⊢;rw[zbq a];show hasB (zfu e.Tag) (ln<|up _ _ _)=true/\below' _ (zbJ (zbK (ix (up (ix h.Mons m mZ).Guests g _) (zfu e.Tag) gZ).Live e.Page) (ix h.Mons m mZ).Outer)=true;rw[zeK];refine⟨n,?_⟩;by_cases f:g=zfu e.Tag;{rw [<- f]at n r ⊢;rw[zbq hg];have A:e.Page≠p:=λJ=>y ⟨zbcY d.symm f.symm (zJ.1 a).1,J⟩;show below' _ (zbJ (zbK (ze0 (gOf h m g).Live p _) e.Page) _)=true;rw[zZF A];exact r};{rw [zbC (zJ.1 hg).1 (zJ.1 n).1 f];exact r}};{rw [zbC (zJ.1 a).1 (zJ.1 l).1 d];exact⟨n,r⟩});refine⟨⟨E,⟨λi v=>?_,u _ S.rt.e1,u _ S.rt.e2⟩⟩,λi=>?_,by rw[s,zb6]⟩;{rw [s]at v ⊢;rw[zeK]at v;by_cases d:m=i;{subst d;rw[zbq a];intro j I;show KOk (ix (up (ix h.Mons m mZ).Tables g _) j kZ) (ix (up (ix h.Mons m mZ).Guests g _) j gZ).Live (ix h.Mons m mZ).Outer;have k:hasB j (ln (ix h.Mons m mZ).Guests)=true:=(by have:hasB j (ln<|up (ix h.Mons m mZ).Guests g<|zez (gOf h m g) p)=true:=I;rwa [zeK] at this);by_cases e:g=j;{subst e;rw[zbq B,zbq hg];exact z4u (S.rt.t m a g hg) p _};{rw [zbC (zJ.1 hg).1 (zJ.1 k).1 e,zbC (zJ.1 hg).1 (zJ.1 k).1 e];exact S.rt.t m a j k}};{rw [zbC (zJ.1 a).1 (zJ.1 v).1 d];exact S.rt.t i v}};{refine(zwa (h:=h) a s rfl kp i).trans ?_;by_cases e:i=m;{subst e;rw[zbE.2 rfl,cond_true,cond_true,C,zgM a];rfl};{rw [zck.2 e];rfl}}
def zSv (g:Int):zfS ⟨[],[],[],0⟩ g=⟨[],[],[],0⟩/\zib ⟨[],[],[],0⟩ g=false:=by have:zib ⟨[],[],[],0⟩ g=false:=(by unfold zib;rw[z0i];rfl);refine⟨?_,this⟩;unfold zfS;rw[this];rfl
def z7d {h:Host}(S:Safe h)(a:GAct):SimT h (zgT h a) a.M (λb=>zum b a)/\zhY h a=zK6 (zB h a.M) a:=by
 have f:=zu1;unfold zgT zhY zum zK6;cases ieq a.Kind 1 with
 |true=>obtain⟨k,e⟩:=step_ok S a.M a.G;exact⟨k,by rw[cond_true,cond_true,e]⟩
 |false=>
  simp only[cond_false];cases ieq a.Kind 2 with
  |true=>
   exact⟨zrT S a.M (F:=λb=>chg b a.G (zt4 a.X ⟨a.Y,a.Z⟩) (zwb (gAt b a.G) a.X ⟨a.Y,a.Z⟩)) (λb c=>zsX c λ_ d G=>zbbb G d)<|zrB _ _ _,
    congrArg (λt=>Told.mk t 0) (zm1 S a.M (t:=λb=>zb4 b a.G (zt4 a.X ⟨a.Y,a.Z⟩))<|zlo _ _)⟩
  |false=>
   simp only[cond_false];cases ieq a.Kind 3 with
   |true=>obtain⟨k,e⟩:=z6Y S a.M a.G a.X;exact⟨k,congrArg (λt=>Told.mk t 0) e⟩
   |false=>
    simp only[cond_false];cases ieq a.Kind 4 with
    |true=>
     exact⟨zrT S a.M (F:=λb=>chg b a.G (ztM (gAt b a.G) a.X) (zvh (gAt b a.G) a.X)) (λb c=>zsX c λ_ d G=>zba8 G d)<|zrB _ _ _,
      congrArg (λt=>Told.mk t 0) (zm1 S a.M (t:=λb=>zb4 b a.G (ztM (gAt b a.G) a.X))<|zlo _ _)⟩
    |false=>
     simp only[cond_false];cases ieq a.Kind 5 with
     |true=>
      exact⟨zrT S a.M (F:=λb=>chg b a.G (zxZ<|gAt b a.G) (zvV<|gAt b a.G)) (λb c=>zsX c λ_ _ G=>zbba G)<|zrB _ _ _,
       congrArg (λt=>Told.mk t 0) (zm1 S a.M (t:=λb=>zb4 b a.G (zxZ<|gAt b a.G))<|zlo _ _)⟩
     |false=>
      simp only[cond_false];cases ieq a.Kind 6 with
      |true=>
       exact⟨zrT S a.M (F:=λb=>chg b a.G (zh1 (gAt b a.G).Pending a.X) (zmS (gAt b a.G) a.X)) (λb c=>zsX c λ_ _ G=>z0b G _)<|zrB _ _ _,
        congrArg (λt=>Told.mk t 0) (zm1 S a.M (t:=λb=>zb4 b a.G (zh1 (gAt b a.G).Pending a.X))<|zlo _ _)⟩
      |false=>
       simp only[cond_false];cases ieq a.Kind 7 with
       |true=>
        exact⟨zrT S a.M (F:=λb=>chg b a.G (znt ⟨a.X,a.Y,ieq a.Z 1⟩) (zDg (gAt b a.G) ⟨a.X,a.Y,ieq a.Z 1⟩)) (λb c=>zsX c λ_ d G=>zba9 G d)<|zrB _ _ _,
         congrArg (λt=>Told.mk t 0) (zm1 S a.M (t:=λb=>zb4 b a.G (znt ⟨a.X,a.Y,ieq a.Z 1⟩))<|zlo _ _)⟩
       |false=>
        simp only[cond_false];cases ieq a.Kind 8 with
        |true=>obtain⟨k,e⟩:=z7I S a.M a.X a.Y a.Z;exact⟨k,congrArg (λt=>Told.mk t 0) e⟩
        |false=>
         simp only[cond_false];cases ieq a.Kind 9 with
         |true=>
          exact⟨zrT S a.M (F:=λb=>zjY b a.X) (λb c=>z0Z c _) (by unfold zjY zf3;rw[f];rfl),
           congrArg (λt=>Told.mk t 0) (zm1 S a.M (t:=λb=>zf3 b a.X) (by unfold zf3;rw[f];rfl))⟩
         |false=>
          simp only[cond_false];cases ieq a.Kind 10 with
          |true=>refine⟨zrT S a.M (F:=zlm) (λb c=>z3t c) (by unfold zlm;rw[f];rfl),?_⟩;have e:=zm1 S a.M (t:=zkx) (by unfold zkx;rw[f];rfl);show Told.mk (zfl h a.M<|zkx<|zB h a.M) (cond (zcl h a.M) (zrz<|zB h a.M)<|-1)=⟨zkx<|zB h a.M,zrz<|zB h a.M⟩;rw[e];congr 1;unfold zcl;rw[zmi.2 S.ok,cond_true];cases j:hasB a.M (ln h.Mons) with|true=>rfl|false=>rw[seen_none j];unfold zrz;rw[f];rfl
          |false=>
           simp only[cond_false];cases ieq a.Kind 11 with
           |true=>obtain⟨k,e⟩:=zbct S a.M a.G a.X a.Y;exact⟨k,congrArg (λt=>Told.mk t 0) e⟩
           |false=>obtain⟨k,g,i⟩:=zbbx S a.M a.G a.X;exact⟨k,by simp only[cond_false];rw[g,i]⟩
def z7A {h:Host}(S:Safe h)(a:GAct):Safe (zje h a)/\(∀i,zB (zje h a) i=zB h i)/\(zje h a).Mons.length=h.Mons.length:=by
 unfold zje;have k:∀r,Op h r->Safe r/\(∀i,zB r i=zB h i)/\r.Mons.length=h.Mons.length:=λr k=>⟨k.safe S,λi=>k.like.seen i,k.like.len⟩;cases ieq a.Kind 13 with
 |true=>exact k _ (z2e S.ok _ _)
 |false=>
  simp only[cond_false];cases ieq a.Kind 14 with
  |true=>exact k _ (z4V S.ok _ _)
  |false=>
   simp only[cond_false];cases ieq a.Kind 15 with
   |true=>exact k _ (z4U S.ok _ _)
   |false=>
    simp only[cond_false];cases ieq a.Kind 16 with
    |true=>obtain⟨b,c⟩:=zTZ S a.M a.X;refine⟨b,c,?_⟩;simp only[cond_true];unfold zjt;cases zb2 h<;>cases hasB a.M (ln h.Mons)<;>cases zk a.X 0 3<;>first|rfl|exact zb6 _ _ _
    |false=>exact k _ (zbbs S.ok)
def zju (a:GAct):Bool:=bif zk a.Kind 1 17 then !zk a.Kind 13 17 else false
def zK2 {h:Host}(S:Safe h)(a:GAct):Safe (zbR h a)/\(zbR h a).Mons.length=h.Mons.length/\
 (∀i,zB (zbR h a) i=bif (cond (zju a) (ieq i a.M) false) then zum (zB h i) a else zB h i)/\(zju a=true->zbZ h a=zK6 (zB h a.M) a):=by
 unfold zbR zbZ zju;cases zk a.Kind 1 17 with
 |false=>exact⟨S,rfl,λ_=>rfl,λe=>by cases e⟩
 |true=>
  simp only[cond_true];cases zk a.Kind 13 17 with
  |true=>obtain⟨b,c,d⟩:=z7A S a;exact⟨b,d,λi=>by simp only[cond_true,kJ,cond_false];exact c i,λe=>by cases e⟩
  |false=>obtain⟨k,e⟩:=z7d S a;exact⟨k.safe,k.len,λi=>by simp only[cond_false,k7,cond_true];exact k.seen i,λ_=>e⟩
def zdi (h:Host):List Bare:=(List.range h.Mons.length).map λ(i:Nat)=>zB h (i:Int)
def ziD (h:Host):(zdi h).length=h.Mons.length:=by simp[zdi]
def zon (h:Host)(m:Int):hasB m (ln<|zdi h)=hasB m (ln h.Mons):=by unfold ln;rw[ziD]
def znq {h:Host}{m:Int}(c:hasB m (ln h.Mons)=true)(d:Bare):ix (zdi h) m d=zB h m:=by have a:=zJ.1 c;unfold ln at a;have b:m.toNat<(zdi h).length:=(by rw[ziD];omega);have:=zot b d;rw[show ((m.toNat:Nat):Int)=m by omega] at this;rw[this];simp[zdi,show max m 0=m by omega]
def z0V {h r:Host}(a:r.Mons.length=h.Mons.length)(e:∀i,zB r i=zB h i):zdi r=zdi h:=by unfold zdi;rw[a];exact List.map_congr_left λi _=>e _
def zom {h:Host}(S:Safe h)(a:GAct):zdi (zbR h a)=zdg (zdi h) a/\(zju a=true->zbZ h a=zEO (zdi h) a):=by obtain⟨_,k,l,t⟩:=zK2 S a;have p:zju a=true->zdi (zbR h a)=(cond (hasB a.M<|ln h.Mons) (up (zdi h) a.M<|zum (zB h a.M) a)<|zdi h):=(by intro b;rw[b]at l;cases f:hasB a.M (ln h.Mons) with|false=>rw[cond_false];refine zQl ⟨[],[],[],0⟩ (by rw[ziD,ziD,k]) λi c=>?_;rw[zon]at c;rw[znq c];have d:hasB i (ln h.Mons)=true:=(by unfold ln at c ⊢;rwa [<- k]);rw[znq d,l i];have:ieq i a.M=false:=zck.2 λe=>(by rw[e,f]at d;cases d);rw[this];rfl|true=>rw[cond_true];refine zQl ⟨[],[],[],0⟩ (by rw[zb6,ziD,ziD,k]) λi c=>?_;rw[zon]at c;rw[znq c,l i];have d:hasB i (ln h.Mons)=true:=(by unfold ln at c ⊢;rwa [<- k]);by_cases e:i=a.M;{rw [e,zbE.2 rfl,zbq (by rw[zon];exact f)];rfl};{rw [zck.2 e,zbC (zJ.1 f).1 (zJ.1 d).1<|Ne.symm e,znq d];rfl});have s:zju a=false->zdi (zbR h a)=zdi h:=λb=>z0V k λi=>(by rw[l i,b];rfl);have r:zju a=true->zk a.Kind 1 17=true/\zk a.Kind 13 17=false:=(by intro b;unfold zju at b;cases g:zk a.Kind 1 17<;>cases j:zk a.Kind 13 17<;>rw [g,j]at b<;>first|exact⟨rfl,rfl⟩|cases b);constructor;{unfold zdg;cases b:zju a with|true=>obtain⟨g,j⟩:=r b;rw[g,j,cond_true,cond_false,zon,p b];(cases f:hasB a.M (ln h.Mons) with|true=>rw[cond_true,cond_true,znq f]|false=>rfl)|false=>rw[s b];unfold zju at b;(cases g:zk a.Kind 1 17 with|false=>rfl|true=>(cases j:zk a.Kind 13 17 with|true=>rfl|false=>rw[g,j]at b;cases b))};{intro b;rw[t b];obtain⟨g,j⟩:=r b;unfold zEO;rw[g,j,cond_true,cond_false,zon];cases f:hasB a.M (ln h.Mons) with|true=>rw[cond_true,znq f]|false=>rw[cond_false,seen_none f];have n:=(zSv a.G).2;have q:=zu1;unfold zK6;simp only[n,zlo];unfold zkR zf3 zkx zrz zz1 zUr zpX;simp only[q,zvi q,cond_false];(cases m:ieq a.Kind 10 with|true=>have:a.Kind=10:=zbE.1 m;rw[this];rfl|false=>cases ieq a.Kind 1<;>cases ieq a.Kind 2<;>cases ieq a.Kind 3<;>cases ieq a.Kind 4<;>cases ieq a.Kind 5<;>cases ieq a.Kind 6<;>cases ieq a.Kind 7<;>cases ieq a.Kind 8<;>cases ieq a.Kind 9<;>cases ieq a.Kind 11<;>rfl)}
def zMA:List GAct->List Told->List Told
 |a::l,t::ts=>bif zju a then t::zMA l ts else zMA l ts
 |_,_=>[]
structure Live (u:Host×List Told) (v:List Bare×List Told):Prop where
 safe:Safe u.1
 seen:zdi u.1=v.1
def zEG:List GAct->Host->List Told
 |[],_=>[]
 |a::l,h=>zbZ h a::zEG l (zbR h a)
def z5R:List GAct->List Bare->List Told
 |[],_=>[]
 |a::l,b=>zEO b a::z5R l (zdg b a)
def zwE:List GAct->Host->Host
 |[],h=>h
 |a::l,h=>zwE l (zbR h a)
def z6U:List GAct->List Bare->List Bare
 |[],b=>b
 |a::l,b=>z6U l (zdg b a)
def z0x:∀(l:List GAct) (u:Host×List Told),zEf l u=(zwE l u.1,u.2++zEG l u.1)
 |[],u=>by simp[zEf,zwE,zEG]
 |a::l,u=>by rw[zEf,z0x l];simp[zwE,zEG,ap]
def z4c:∀(l:List GAct) {h:Host},Safe h->Safe (zwE l h)/\zdi (zwE l h)=z6U l (zdi h)/\zMA l (zEG l h)=zMA l (z5R l<|zdi h)/\(zwE l h).Mons.length=h.Mons.length
 |[],h,S=>⟨S,rfl,rfl,rfl⟩
 |a::l,h,S=>by have d:=zK2 S a;have b:=zom S a;obtain⟨e,f,c,g⟩:=z4c l d.1;refine⟨e,by show zdi (zwE l<|zbR h a)=z6U l (zdg (zdi h) a);rw[f,b.1],?_,g.trans d.2.1⟩;show (cond (zju a) _ _)=(cond (zju a) _ _);cases i:zju a with|false=>rw[cond_false,cond_false,c,b.1]|true=>rw[cond_true,cond_true,c,b.1,b.2 i]
def cz8 (q:Int)(b:0<=q):zwe.countP (λs=>ieq s.Page q)=0:=by rw[vE];intro s a;have:=(uS.1 a).2;rw[this];show ¬ ieq (-1) q=true;rw[zbE];omega
def zYG {p:List Ins}(h:zd7 p=true):GOk (zgk p):=⟨h,rfl,rfl,rfl,rfl,rfl,rfl,rfl,rfl⟩
def z4O {a:List (List Ins)}(i:1<=a.length)(h:∀p∈a,zd7 p=true):MOk (ziv a):=by have d:∀s∈zwe,s=noSlot:=λs c=>(uS.1 c).2;refine⟨?_,?_,?_,rfl,λs c=>.inl (d s c),rfl,rfl,jX _,rfl,rfl,rfl,λg hg=>?_,λp b=>?_⟩;{show 1<=((a.take 2).map zgk).length;simp;omega};{show ((a.take 2).map zgk).length<=2;simp;omega};{show ((a.take 2).map λ_=>zmk).length=((a.take 2).map zgk).length;simp};{obtain⟨p,b,rfl⟩:=jI.1 hg;exact zuX.2 (zYG<|h p<|jY b)};{have f:=zJ.1 b;have e:p=0\/p=1\/p=2\/p=3\/p=4\/p=5\/p=6\/p=7:=(by omega);rcases e with rfl|rfl|rfl|rfl|rfl|rfl|rfl|rfl<;>rfl}
def zbau (a:List (List<|List Ins)):Prop:=1<=a.length/\∀p∈a,1<=p.length/\∀x∈p,zd7 x=true
def z1H {a:List (List<|List Ins)}(h:zbau a):Safe (zg6 a):=by have b:∀x∈(zg6 a).Mons,∃p∈a,x=ziv p:=λx f=>(by obtain⟨p,j,rfl⟩:=jI.1 f;exact⟨p,jY j,rfl⟩);have u:∀x∈(zg6 a).Mons,x.Outer=zwe:=λx f=>(by obtain⟨p,_,rfl⟩:=b x f;rfl);have H:HOk (zg6 a):=(by refine⟨rfl,λc v=>?_,?_,?_,rfl,rfl,λx f=>?_,λq B=>?_⟩;{have:c=[0,0,0,0]:=(uS.1 v).2;rw[this];rfl};{show 1<=((a.take 3).map ziv).length;have:=h.1;simp;omega};{show ((a.take 3).map ziv).length<=3;simp;omega};{obtain⟨p,j,rfl⟩:=b x f;exact z4O (h.2 p j).1 (h.2 p j).2};{have:zgC (zg6 a).Mons q=0:=(by unfold zgC;have:(zg6 a).Mons.map (λx=>cPg x q)=(zg6 a).Mons.map (λ_=>0):=List.map_congr_left λx f=>(by unfold cPg;rw[u x f];exact cz8 q B);rw[this];generalize (zg6 a).Mons=l;induction l with|nil=>rfl|cons x l D=>rw[jH,uM,D]);omega});refine⟨H,λm A g hg=>?_,λe r=>(by cases r),λe r=>(by cases r)⟩;obtain⟨p,j,e⟩:=b _ (znB A mZ);rw[e]at hg ⊢;have d:hasB g (ln<|(p.take 2).map zgk)=true:=hg;have C:ix (ziv p).Tables g kZ=zmk:=(by have:hasB g (ln<|(p.take 2).map λ_=>zmk)=true:=(by unfold ln at d ⊢;simpa using d);obtain⟨k,y,_,n⟩:=zAi this kZ;show ix ((p.take 2).map λ_=>zmk) g kZ=_;rw[n];simp);have z:(ix (ziv p).Guests g gZ).Live=zni:=(by obtain⟨k,y,_,n⟩:=zAi d gZ;show (ix ((p.take 2).map zgk) g gZ).Live=_;rw[n];simp[zgk]);rw[C,z];show KOk zmk zni zwe;refine⟨rfl,rfl,λi w=>?_⟩;have s:=zJ.1 w;have:ln zni=4:=rfl;rw[this]at s;have t:i=0\/i=1\/i=2\/i=3:=(by omega);rcases t with rfl|rfl|rfl|rfl<;>rfl
def z0D:∀(l:List GAct) (u:Host×List Told),SmH u.1->SmH (zEf l u).1
 |[],u,h=>h
 |a::l,u,h=>z0D l (zbR u.1 a,ap u.2 [zbZ u.1 a]) (zoa h)
def zWE {h:Host}(L:zEM h):Safe h/\SmH h:=by obtain⟨c,l,a,b,rfl⟩:=L;refine⟨?_,z0D _ _<|z0C a⟩;unfold zAf;rw[z0x];exact(z4c _<|z1H b).1
def z3C:zbb:=z3A
def zwB:zU z3C:=z3B
structure MonS (x:Mon):Prop where
 sm:zfC x
 g1:1<=x.Guests.length
 g2:x.Guests.length<=2
 t2:x.Tables.length<=2
 o8:x.Outer.length<=8
 pg:∀s∈x.Outer,I64 s.Page
 tk:∀k∈x.Tables,k.Known.length<=k.Slots.length
structure AnyH (h:Host):Prop where
 mem:SmM h.Memory
 n1:1<=h.Mons.length
 n3:h.Mons.length<=3
 mons:∀x∈h.Mons,MonS x
 b1:h.Buffer.length<=1048576
 b2:h.IoBuffer.length<=1048576
def AnyH.sm {h:Host}(k:AnyH h):SmH h:=⟨k.mem,⟨qS k.n3 (by decide),λx a=>(k.mons x a).sm⟩,k.b1,k.b2⟩
def z7P {h:Host}(S:Safe h)(sm:SmH h):AnyH h :=
 ⟨sm.1,S.ok.n1,S.ok.n3,λx a=>by
  have k:=S.ok.mons x a;refine⟨sm.2.1.2 x a,k.g1,k.g2,by rw[k.gt];exact k.g2,by rw[k.o8];exact qV 8,λs b=>?_,λy c=>?_⟩
  .rcases k.sl s b with rfl|⟨h1,h2,_⟩
   .exact⟨by decide,by decide⟩
   .exact⟨by omega,by omega⟩
  .obtain⟨m,hm,rfl⟩:=zD6 a mZ;obtain⟨g,hg,rfl⟩:=zD6 c kZ;have:=S.rt.t m hm g (by have e:(ix h.Mons m mZ).Tables.length=(ix h.Mons m mZ).Guests.length:=k.gt;unfold ln at hg ⊢;rw[<- e];exact hg)
   rw[this.l1,this.l2];exact qV _,sm.2.2.1,sm.2.2.2⟩
def zyy {h:Host}(k:AnyH h)(i:Int){x:Mon}(b:MonS x):AnyH {h with Mons:=up h.Mons i x} :=
 ⟨k.mem,by rw[zjV];exact k.n1,by rw[zjV];exact k.n3,λy a=>by
  rcases qZ a with a|rfl
  .exact k.mons y a
  .exact b,k.b1,k.b2⟩
def zbcV {g:Guest}(h:GuS g):SmG g:=⟨qS h.1 (by decide),qS h.2.1 (by decide),qS h.2.2.1 (by decide),qS h.2.2.2 (by decide)⟩
def z7Z {l:List Guest}(h:zmE l)(i:Int){g:Guest}(hg:SmG g):zmE (up l i g):=
 ⟨by rw[zjV];exact h.1,λy a=>by
  rcases qZ a with a|rfl
  .exact h.2 y a
  .exact hg⟩
def zbbL {l:List LI}(h:SmM l)(i:Int){g:LI}(hg:g.length<=1048576):SmM (up l i g):=
 ⟨by rw[zjV];exact h.1,λy a=>by
  rcases qZ a with a|rfl
  .exact h.2 y a
  .exact hg⟩
def zzJ (N:Nat)(c:Cur)  : OA :=
 let j:=ziQ c;let r:=({(zks c) with b:=c.b}:Cur);let f:=j.Mons;let k:=zy r<|ln f;let m:=inb k<|ln f;let g:=ix f k zh;let q:=({(zf r<|ln f) with b:=c.b}:Cur);let e:=zf q 24;let l:=zy q 24;let a:=({e with b:=c.b}:Cur);let n:=zZ a [-1,1000000000,1000000001];let p:=({(zf a 8) with b:=c.b}:Cur); (oN (zgI c)<|oN (zD r<|ln f)<|oN (zD q 24)<|cond (ieq l 0) (oN (zg1 a 8 12)<|oN m<|share (up f k ({g with Outer:=(zgj a 8 12)}:Mon)) λd=>some [.agg [.s .u8 c.b,.i .i64 (zij a 8 12).i,.i .i64 (zij a 8 12).h],aH ({j with Mons:=d}:Host)])<|cond (ieq l 1) (oN m<|oN (zD a 8)<|oN (zna p)<|oN (inb (zy a 8)<|ln g.Out)<|share (up f k ({g with Out:=(up g.Out (zy a 8)<|zuM p)}:Mon)) λd=>some [.agg [.s .u8 c.b,.i .i64 (znb p).i,.i .i64 (znb p).h],aH ({j with Mons:=d}:Host)])<|cond (ieq l 2) (oN m<|oN (zrd a)<|oN (inb 0<|ln g.Guests)<|share (up f k ({g with Guests:=(up g.Guests 0<|zAG a)}:Mon)) λd=>some [.agg [.s .u8 c.b,.i .i64 (zre a).i,.i .i64 (zre a).h],aH ({j with Mons:=d}:Host)])<|cond (ieq l 3) (oN m<|share (up f k ({g with Tables:=[]}:Mon)) λd=>some [.agg [.s .u8 c.b,.i .i64 e.i,.i .i64 e.h],aH ({j with Mons:=d}:Host)])<|cond (ieq l 4) (oN (zl9 a)<|some [.agg [.s .u8 c.b,.i .i64 (zma a).i,.i .i64 (zma a).h],aH ({j with Buffer:=(zsG a)}:Host)])<|cond (ieq l 5) (oN (znc a)<|oN m<|share (up f k ({g with Traps:=(zuN a)}:Mon)) λd=>some [.agg [.s .u8 c.b,.i .i64 (znd a).i,.i .i64 (znd a).h],aH ({j with Mons:=d}:Host)])<|cond (ieq l 6) (oN (zby a [-1,1000000000,1000000001])<|oN m<|share (up f k ({g with Own:=(zbr a [-1,1000000000,1000000001])}:Mon)) λd=>some [.agg [.s .u8 c.b,.i .i64 n.i,.i .i64 n.h],aH ({j with Mons:=d}:Host)])<|cond (ieq l 7) (oN (zq2 a)<|some [.agg [.s .u8 c.b,.i .i64 (zj3 a).i,.i .i64 (zj3 a).h],aH ({j with Memory:=(zrZ a)}:Host)])<|some [.agg [.s .u8 c.b,.i .i64 e.i,.i .i64 e.h],aH j])
def zsO (c:Cur)(s:Cur)(a:Host):Prop:=(∃N,zzJ N c=some (AV.agg (zcg s)::[aH a]))/\(s.b=c.b/\0<=s.i)/\(AnyH a)
def zn8 (c:Cur)  : Bool:=wC (zsO c)
def zrh (c:Cur)  : Cur:=wS (zsO c)
def zAH (c:Cur)  : Host:=wV (zsO c)
def zNx {c:Cur}(h:zn8 c=true):zsO c (zrh c) (zAH c):=wG h
def z2J (c:Cur)  : 0<=(zrh c).i:=wP λh=>h.2.1.2
def z2I (c:Cur)(h:∃N,Ends (wE (λa=>aH a) c.b λa=>AnyH a)<|zzJ N c):zn8 c=true:=wI (λ_ _ h=>h) h
def zBC:zeR:=rP0 λc=>(zn8 c,zrh c,[aH<|zAH c])
def zPu:zb7 Tryz.prog 49 [false,true,true] zBC:=hP0 zwB zbe zW4 zo (zq []) (λ_ h=>(zNx h).1)
def z4r {c:Cur}(h:zbj c):zn8 c=true:=by
 refine z2I c ⟨0,?_⟩;unfold zzJ oN;conv=>zeta
 obtain⟨S,sm⟩:=zWE (zx8<|zMy h).2.2;have A:=z7P S sm;have q:∀{s:Cur},0<=s.i->zbj {s with b:=c.b}:=λy=>zbV h y;have w:zbj {zks c with b:=c.b}:=q (zZv _);have l:0<ln (ziQ c).Mons:=by have:=A.n1;unfold ln;omega
 have a:=zwy w l (kN _);have u:=zbM a zh;generalize B:ziQ c=H at *;generalize zy {zks c with b:=c.b} (ln H.Mons)=m at *;have M:=A.mons _ u;have x:=S.ok.mons _ u;generalize C:ix H.Mons m zh=X at *;obtain⟨p,e,f,j,k,t⟩:=M.sm;have d:∀{n},zbj {zf {zf {zks c with b:=c.b} n with b:=c.b} 24 with b:=c.b}:=λ{n}=>q (zI _ _);refine zG (zMy h) (zG (zbG w _) (zG (zbG (q<|zI _ _) 24)
  (zbI (λ_=>zG (zpT d (by omega) (by omega) _) (zG a<|znw<|zbN aH (v:={H with Mons:=up H.Mons m {X with Outer:=zgj _ _ _}}) (zqY _ _ _)<|zyy A m ?_))
  (λ_=>zbI (λ_=>zG a (zG (zbG d 8)<|zG (zZ0<|q<|zI _ _)<|zG (zwy d (by omega) ?_)<|znw<|zbN aH (v:={H with Mons:=up H.Mons m {X with Out:=up X.Out _ (zuM _)}}) (zXl _)<|zyy A m ?_))
  (λ_=>zbI (λ_=>zG a (zG (zK5 d)<|zG ?_<|znw<|zbN aH (v:={H with Mons:=up H.Mons m {X with Guests:=up X.Guests 0 (zAG _)}}) (z2F _)<|zyy A m ?_))
  (λ_=>zbI (λ_=>zG a (znw<|zbN aH (v:={H with Mons:=up H.Mons m {X with Tables:=[]}}) (zI _ _)<|zyy A m ?_))
  (λ_=>zbI (λ_=>zG (zUP d) (zbN aH (v:={H with Buffer:=zsG _}) (zTV _) ⟨A.mem,A.n1,A.n3,A.mons,qS (zBZ<|zUP d).2.2 (by decide),A.b2⟩))
  (λ_=>zbI (λ_=>zG (zbbO d) (zG a<|znw<|zbN aH (v:={H with Mons:=up H.Mons m {X with Traps:=zuN _}}) (zXq _)<|zyy A m ?_))
  (λ_=>zbI (λ_=>zG (zfR d (by simp)) (zG a<|znw<|zbN aH (v:={H with Mons:=up H.Mons m {X with Own:=zbr _ _}}) (zcb _ _)<|zyy A m ?_))
  (λ_=>zbI (λ_=>zG (zVT d) (zbN aH (v:={H with Memory:=zrZ _}) (z2s _) ⟨?_,A.n1,A.n3,A.mons,A.b1,A.b2⟩))
  (λ_=>zbN aH (v:=H) (zI _ _) A)))))))))))
 {have g:=(zqX<|zpT (d (n:=ln H.Mons)) (n:=8) (by omega) (by omega) 12).2.2 (by omega) (by omega);refine⟨⟨?_,e,f,j,k,t⟩,M.g1,M.g2,M.t2,?_,g.2 (by omega) (by omega),M.tk⟩;{have:=g.1;unfold ln at this;exact qS (m:=8) (by exact Int.ofNat_le.1 this) (by decide)};{have:=g.1;unfold ln at this;exact Int.ofNat_le.1 this}};{unfold ln;rw[x.u8];decide};{exact⟨⟨p,zbbL e _<|qS (zEt<|zZ0<|q<|zI _ _).2.2 (by decide),f,j,k,t⟩,M.g1,M.g2,M.t2,M.o8,M.pg,M.tk⟩};{exact qK (by have:=M.g1;unfold ln;omega)};{exact⟨⟨p,e,f,z7Z j 0<|zbcV (zNv<|zK5 d).2.2,k,t⟩,by rw[zjV];exact M.g1,by rw[zjV];exact M.g2,M.t2,M.o8,M.pg,M.tk⟩};{exact⟨⟨p,e,f,j,k,⟨by simp,by simp⟩⟩,M.g1,M.g2,by simp,M.o8,M.pg,by simp⟩};{exact⟨⟨p,e,f,j,k,t⟩,M.g1,M.g2,M.t2,M.o8,M.pg,M.tk⟩};{exact⟨⟨p,e,f,j,k,t⟩,M.g1,M.g2,M.t2,M.o8,M.pg,M.tk⟩};{have g:=(zNt<|zVT<|d (n:=ln H.Mons)).2.2;exact⟨qS g.1 (by decide),λr z=>qS (g.2 r z) (by decide)⟩}
def zbah:zdn:=[(49,[false,true,true],zBC)]++zbag
def z7G:zco zbah:=zcZ zW4 (by
 intro x a;simp only[qG,qO,or_false]at a;rcases a with rfl
 .exact zPu)
def zC2 (N:Nat)(c:Cur)  : OA :=
 let a:=zZ c [0,0,0,1,1,2,-1,9223372036854775807]; (oN (zby c [0,0,0,1,1,2,-1,9223372036854775807])<|some [.agg [.s .u8 c.b,.i .i64 a.i,.i .i64 a.h],aI<|zbr c [0,0,0,1,1,2,-1,9223372036854775807]])
def zuP (c:Cur)(s:Cur)(a:Int):Prop:=(∃N,zC2 N c=some (AV.agg (zcg s)::[aI a]))/\(s.b=c.b/\0<=s.i)/\(True)
def ztu (c:Cur)  : Bool:=wC (zuP c)
def ztv (c:Cur)  : Cur:=wS (zuP c)
def zFd (c:Cur)  : Int:=wV (zuP c)
def z5s {c:Cur}(h:ztu c=true):zuP c (ztv c) (zFd c):=wG h
def z5u (c:Cur)  : 0<=(ztv c).i:=wP λh=>h.2.1.2
def z5t (c:Cur)(h:∃N,Ends (wE (λa=>aI a) c.b λa=>True)<|zC2 N c):ztu c=true:=wI (λ_ _ h=>h) h
def zvT:zeR:=rP0 λc=>(ztu c,ztv c,[aI<|zFd c])
def zBo:zb7 Tryz.prog 115 [false,true,true] zvT:=hP0 zwB zbe zvO zo (zq []) (λ_ h=>(z5s h).1)
def at_t {c:Cur}(h:zbj c):ztu c=true:=by
 refine z5t c ⟨0,?_⟩;unfold zC2 oN;conv=>zeta
 exact zG (zfR h (by simp)) (zbN aI (zcb _ _) trivial)
def zbdw:zdn:=[(115,[false,true,true],zvT)]++z2j
def z7E:zco zbdw:=zcZ zvO (by
 intro x a;simp only[qG,qO,or_false]at a;rcases a with rfl
 .exact zBo)
def zzM (N:Nat)(c:Cur)  : OA :=
 let a:=zdc c;let e:=({(zdr c) with b:=c.b}:Cur);let f:=zy e 10;let d:=({(zf e 10) with b:=c.b}:Cur);let g:=zZ d [-1,4,8,16,100,9223372036854775807]; (oN (zj8 c)<|oN (zD e 10)<|cond (ieq f 0) (oN (zD d 20)<|some [.agg [.s .u8 c.b,.i .i64 (zf d 20).i,.i .i64 (zf d 20).h],.agg [.i .i64<|wsub .i64 (zy d 20) 1,.i .i64 a.M,.i .i64 a.G,.i .i64 a.X,.i .i64 a.Y,.i .i64 a.Z]])<|cond (ieq f 1) (oN (ztu d)<|some [.agg [.s .u8 c.b,.i .i64 (ztv d).i,.i .i64 (ztv d).h],.agg [.i .i64 a.Kind,.i .i64<|zFd d,.i .i64 a.G,.i .i64 a.X,.i .i64 a.Y,.i .i64 a.Z]])<|cond (ieq f 2) (oN (zby d [-1,4,8,16,100,9223372036854775807])<|some [.agg [.s .u8 c.b,.i .i64 g.i,.i .i64 g.h],.agg [.i .i64 a.Kind,.i .i64 a.M,.i .i64 a.G,.i .i64<|zbr d [-1,4,8,16,100,9223372036854775807],.i .i64 a.Y,.i .i64 a.Z]])<|cond (ieq f 3) (oN (zby d [-1,0,1,4])<|some [.agg [.s .u8 c.b,.i .i64 (zZ d [-1,0,1,4]).i,.i .i64 (zZ d [-1,0,1,4]).h],.agg [.i .i64 a.Kind,.i .i64 a.M,.i .i64 a.G,.i .i64 a.X,.i .i64 a.Y,.i .i64<|zbr d [-1,0,1,4]]])<|some [.agg [.s .u8 c.b,.i .i64 (zf e 10).i,.i .i64 (zf e 10).h],.agg [.i .i64 a.Kind,.i .i64 a.M,.i .i64 a.G,.i .i64 a.X,.i .i64 a.Y,.i .i64 a.Z]])
def zsQ (c:Cur)(s:Cur)(a:GAct):Prop:=(∃N,zzM N c=some (AV.agg (zcg s)::[aT .act a]))/\(s.b=c.b/\0<=s.i)/\(True)
def zn9 (c:Cur)  : Bool:=wC (zsQ c)
def zNz (c:Cur)  : Cur:=wS (zsQ c)
def zAI (c:Cur)  : GAct:=wV (zsQ c)
def z2M {c:Cur}(h:zn9 c=true):zsQ c (zNz c) (zAI c):=wG h
def z2N (c:Cur)(h:∃N,Ends (wE (λa=>aT .act a) c.b λa=>True)<|zzM N c):zn9 c=true:=wI (λ_ _ h=>h) h
def zBE:zeR:=rP0 λc=>(zn9 c,zNz c,[aT .act<|zAI c])
def zPz:zb7 Tryz.prog 50 [false,true,true] zBE:=hP0 zwB zbe z7E zo (zq []) (λ_ h=>(z2M h).1)
def zbdf {c:Cur}(h:zbj c):zn9 c=true:=by
 refine z2N c ⟨0,?_⟩;have d:zbj {zdr c with b:=c.b}:=zbV h (zNy _);have a:zbj {zf {zdr c with b:=c.b} 10 with b:=c.b}:=zbV h (zI _ _);unfold zzM oN;conv=>zeta
 exact zG (z8r h) (zG (zbG d _) (zbI (λ_=>zG (zbG a _) (zbN (aT .act) (v:=⟨wsub .i64 (zy {zf {zdr c with b:=c.b} 10 with b:=c.b} 20) 1,(zdc c).M,(zdc c).G,(zdc c).X,(zdc c).Y,(zdc c).Z⟩) (zI {zf {zdr c with b:=c.b} 10 with b:=c.b} 20) trivial))
  (λ_=>zbI (λ_=>zG (at_t a) (zbN (aT .act) (v:=⟨(zdc c).Kind,zFd {zf {zdr c with b:=c.b} 10 with b:=c.b},(zdc c).G,(zdc c).X,(zdc c).Y,(zdc c).Z⟩) (z5u {zf {zdr c with b:=c.b} 10 with b:=c.b}) trivial))
  (λ_=>zbI (λ_=>zG (zfR a (by simp)) (zbN (aT .act) (v:=⟨(zdc c).Kind,(zdc c).M,(zdc c).G,zbr {zf {zdr c with b:=c.b} 10 with b:=c.b} [-1,4,8,16,100,9223372036854775807],(zdc c).Y,(zdc c).Z⟩) (zcb {zf {zdr c with b:=c.b} 10 with b:=c.b} [-1,4,8,16,100,9223372036854775807]) trivial))
  (λ_=>zbI (λ_=>zG (zfR a (by simp)) (zbN (aT .act) (v:=⟨(zdc c).Kind,(zdc c).M,(zdc c).G,(zdc c).X,(zdc c).Y,zbr {zf {zdr c with b:=c.b} 10 with b:=c.b} [-1,0,1,4]⟩) (zcb {zf {zdr c with b:=c.b} 10 with b:=c.b} [-1,0,1,4]) trivial))
  (λ_=>zbN (aT .act) (v:=zdc c) (zI {zdr c with b:=c.b} 10) trivial))))))
def zbdx:zdn:=[(115,[false,true,true],zvT),(50,[false,true,true],zBE)]++zbah
def z7H:zco zbdx:=zcZ z7G (by
 intro x a;simp only[qG,qO,or_false]at a;rcases a with rfl|rfl
 .exact zBo
 .exact zPz)
def z81:zbb:=[(14,zl1)]++z3C
def z6I:zU z81:=zi zwU zwB
def z3w {a:LI}(h:a.length<=big){G:Ans->Prop}{N:Nat}(l:a.length<N){g:Int}{R:Int->OA}{d:Type}(S:Int->Int->d){F:(d->OA)->d->OA}(k:∀rec i t,F rec (S i t)=bif ilt i (ln a) then (cond (ilt i 4000) (cond (inb i<|ln a) (rec<|S (zQ .i64 i 1)<|wand .i64 (zQ .i64 (zQ .i64 (znj .i64 t 131)<|wcv .i64<|ix a i 0) 7) 1073741823) none)<|R t) else R t)(e:∀t,zbj ⟨a,0,t⟩->Ends G (R t)):Ends G (iter N F<|S 0 g):=by refine zor (λn s=>∃(i:Nat) (t:Int),s=S (i:Int) t/\i+n=a.length) ?_ N a.length _ ⟨0,g,rfl,by omega⟩ l;rintro n s rec ⟨i,t,rfl,p⟩ b;rw[k];have f:zbj ⟨a,0,t⟩:=⟨kN 0,h⟩;refine zbI (λj=>zbI (λm=>?_) λ_=>e t f) (λ_=>e t f);have c:(i:Int)<ln a:=qD j;unfold ln at c;rw[zbh (show i<a.length by omega) h];exact zG (qK ⟨by omega,by unfold ln;omega⟩) (b (n-1) _ (by omega) ⟨i+1,_,rfl,by omega⟩)
def q_of {b:LI}(h:b.length<=big){s:Cur}(a:0<=s.i):zbj {s with b:=b}:=⟨a,h⟩
def z88:zbb:=z81
def z6J:zU z88:=z6I
def z9a:zbb:=z88
def z6K:zU z9a:=z6J
def z9b:zbb:=z9a
def zU2:zU z9b:=z6K
def zmt (N:Nat)(g:LI):OA:=
 (iter (σ:=(Int×Int×Int×Int×Int×Int×Int×Int×LI×lM×lN×lE×lE×Unit)) N (λh a=>let d:=a.2.2.2.2.2.2.2.2.1;let e:=(⟨d,0,a.1⟩:Cur);let f:=({(zrh e) with b:=d}:Cur);let c:=zAI f; (cond (ilt a.2.1<|ln d) (cond (ilt a.2.1 4000) (oN (inb a.2.1<|ln d)<|h (wand .i64 (zQ .i64 (zQ .i64 (znj .i64 a.1 131)<|wcv .i64<|ix d a.2.1 0) 7) 1073741823,zQ .i64 a.2.1 1,a.2.2.1,a.2.2.2.1,a.2.2.2.2.1,a.2.2.2.2.2.1,a.2.2.2.2.2.2.1,a.2.2.2.2.2.2.2.1,d,a.2.2.2.2.2.2.2.2.2.1,a.2.2.2.2.2.2.2.2.2.2.1,a.2.2.2.2.2.2.2.2.2.2.2.1,a.2.2.2.2.2.2.2.2.2.2.2.2.1,()))<|oN (zn8 e)<|oN (zn9 f)<|some [aH<|zAH e,.agg [.i .i64 c.Kind,.i .i64 c.M,.i .i64 c.G,.i .i64 c.X,.i .i64 c.Y,.i .i64 c.Z]])<|oN (zn8 e)<|oN (zn9 f)<|some [aH<|zAH e,.agg [.i .i64 c.Kind,.i .i64 c.M,.i .i64 c.G,.i .i64 c.X,.i .i64 c.Y,.i .i64 c.Z]])) (zQ .i64 94701<|ln g,0,0,0,0,0,0,0,g,[],[],[],[],()))
def zGf:=zq [(48,0,{n:=32,tm:=[(0,.sl 0 []),(3,ti),(4,ti)],lo:=[(0,[.sl 1 [],.sl 2 [],.sl 3 [],.sl 4 []]),(1,[ti,ti,ti,ti,ti,ti])],ro:=[(0,.u8,false),(1,.sl .int,true),(2,.mon,true),(3,.entry,true),(4,.entry,true)],sk:=[(0,2,0,.lp 0 0),(0,3,0,.lp 1 0)]})]
def zpp (b:LI)(a:Host)(c:GAct):Prop:=(∃N,zmt N b=some [aH a,aT .act c])/\(AnyH a)
def zgX (a:LI):Bool:=uC (T:=Host×GAct) (λr=>zpp a r.1 r.2)
def zxm (a:LI):Host×GAct:=uV (λr=>zpp a r.1 r.2)
def zqO (a:LI):Host:=(zxm a).1
def zgW (a:LI):GAct:=(zxm a).2
def zNp {a:LI}(h:zgX a=true):zpp a (zqO a) (zgW a):=uG h
def zNq (d:LI)(h:∃N,Ends (λa=>∃b c,a=[aH b,aT .act c]/\(AnyH b))<|zmt N d):zgX d=true:=by obtain⟨N,a,e,b,c,rfl,h⟩:=h;exact zbg ⟨(b,c),⟨N,e⟩,h⟩
def zuj:Run:=rF1 (dS .u8) λb=>(zgX b,[aH<|zqO b,aT .act<|zgW b])
def zFU (a:LI)(b:zgX a=true):∃N,zmt N a=some [aH<|zqO a,aT .act<|zgW a]:=by exact(zNp b).1
def zB8:vR 9 zuj:=kF1 zU2 zbe z7H zo zGf zFU
def zBk {a:LI}(h:a.length<=big):zgX a=true:=by
 refine zNq a (zcw λN c=>?_);unfold zmt oN;conv=>zeta
 refine z3w h (c h) ((λi t=>(t,(i:Int),0,0,0,0,0,0,a,[],[],[],[],())):Int->Int->_) (λrec i t=>by dsimp only) (λt d=>?_);exact zG (z4r d) (zG (zbdf<|q_of h<|z2J _) ⟨_,rfl,_,zAI {zrh ⟨a,0,t⟩ with b:=a},rfl,(zNx<|z4r d).2.2⟩)
def z9c:zbb:=[(9,zuj)]++z9b
def zU3:zU z9c:=zi zB8 zU2
def z9C:zbb:=[(134,zx0),(331,zm3),(330,ztW)]++zUY
def zzY:zU z9C:=zi zBn (zi zyK<|zi zwX zg4)
def zrF (l:LI):eqI l l=true:=by unfold eqI;induction l with|nil=>rfl|cons x l a=>rw[all2,zgS,a];rfl
def zl6 (x y:List Slot):Bool:=pc (x=y)
def zmm (_ _:List Slot):Bool:=true
def zxj:Run:=rF2 (dS .slot) (dS .slot) λb c=>(zl6 b c,[aB<|zmm b c])
def zBg (N:Nat)(b c:lS):OA:=
 (cond (ine (ln b)<|ln c) oF<|iter (σ:=(Int×lS×lS×Unit)) N (λf a=>let e:=ix a.2.1 a.1 zV;let d:=ix a.2.2.1 a.1 zV; (cond (ilt a.1<|ln a.2.1) (oN (inb a.1<|ln a.2.1)<|oN (inb a.1<|ln a.2.2.1)<|cond (nB<|cond (ieq e.Page d.Page) (ieq e.Rights d.Rights) false) oF<|f (zQ .i64 a.1 1,a.2.1,a.2.2.1,())) oT)) (0,b,c,()))
def zN1:=zq [(413,0,{n:=26,tm:=[(0,.sl 0 []),(1,.sl 1 []),(5,ti)],lo:=[],ro:=[(0,.slot,false),(1,.slot,false)]})]
def zMZ (a b:List Slot)(d:zbS big [aS .slot a,aS .slot b])(e:zl6 a b=true):∃N,zBg N a b=some [aB<|zmm a b]:=by
 have:=zK.1 e;subst this;have f:=len0 d;refine⟨a.length+1,?_⟩;unfold zBg oN nB;conv=>zeta
 rw[zja];refine zEX a zV _ _ f (λi c rec=>?_) (λrec=>?_) (kU _);{simp only [zbF c,zbk c,zbt c,zrF,zQu,zja,zgS,zle,cT,cF,kJ,k7]};{simp only [zbx,cF,zmm]}
def zFE:vR 413 zxj:=hF2 zzY zbe zx zo zN1 zMZ
def zqS (x y:List Ins):Bool:=pc (x=y)
def zqR (_ _:List Ins):Bool:=true
def zzl:Run:=rF2 (dS .ins) (dS .ins) λb c=>(zqS b c,[aB<|zqR b c])
def zCV (N:Nat)(b c:lI):OA:=
 (cond (ine (ln b)<|ln c) oF<|iter (σ:=(Int×lI×lI×Unit)) N (λf a=>let e:=ix a.2.1 a.1 zsV;let d:=ix a.2.2.1 a.1 zsV; (cond (ilt a.1<|ln a.2.1) (oN (inb a.1<|ln a.2.1)<|oN (inb a.1<|ln a.2.2.1)<|cond (nB<|cond (ieq e.Op d.Op) (ieq e.X d.X) false) oF<|f (zQ .i64 a.1 1,a.2.1,a.2.2.1,())) oT)) (0,b,c,()))
def zQV:=zq [(412,0,{n:=26,tm:=[(0,.sl 0 []),(1,.sl 1 []),(5,ti)],lo:=[],ro:=[(0,.ins,false),(1,.ins,false)]})]
def zQc (a b:List Ins)(d:zbS big [aS .ins a,aS .ins b])(e:zqS a b=true):∃N,zCV N a b=some [aB<|zqR a b]:=by
 have:=zK.1 e;subst this;have f:=len0 d;refine⟨a.length+1,?_⟩;unfold zCV oN nB;conv=>zeta
 rw[zja];refine zEX a zsV _ _ f (λi c rec=>?_) (λrec=>?_) (kU _);{simp only [zbF c,zbk c,zbt c,zrF,zQu,zja,zgS,zle,cT,cF,kJ,k7]};{simp only [zbx,cF,zqR]}
def zI5:vR 412 zzl:=hF2 zzY zbe zx zo zQV zQc
def zsB (x y:List LI):Bool:=pc (x=y)
def ztt (_ _:List LI):Bool:=true
def zBL:Run:=rF2 (dS<|.sl .int) (dS<|.sl .int) λb c=>(zsB b c,[aB<|ztt b c])
def zGU (N:Nat)(b:lM)(c:lM):OA:=
 (cond (ine (ln b)<|ln c) oF<|iter (σ:=(Int×lM×lM×Unit)) N (λd a=>cond (ilt a.1<|ln a.2.1) (oN (inb a.1<|ln a.2.1)<|oN (inb a.1<|ln a.2.2.1)<|oN (ziO (ix a.2.1 a.1 [])<|ix a.2.2.1 a.1 [])<|cond (nB<|zj4 (ix a.2.1 a.1 [])<|ix a.2.2.1 a.1 []) oF<|d (zQ .i64 a.1 1,a.2.1,a.2.2.1,())) oT) (0,b,c,()))
def zT6:=zq [(328,0,{n:=27,tm:=[(0,.sl 0 []),(1,.sl 1 []),(5,ti)],lo:=[],ro:=[(0,.sl .int,false),(1,.sl .int,false)]})]
def zTB (a:List LI)(b:List LI)(d:zbS big [aS (.sl .int) a,aS (.sl .int) b])(e:zsB a b=true):∃N,zGU N a b=some [aB<|ztt a b]:=by have:=zK.1 e;subst this;have f:=len0 d;refine⟨a.length+1,?_⟩;unfold zGU oN nB;rw[zja];refine zEX a (Ty.dflt<|.sl .int) _ _ f (λi c rec=>?_) (λrec=>?_) (kU _);{simp only [zbF c,zbk c,zbt c,ziO,zj4,zrF,zQu,zja,zgS,zle,cT,cF,kJ,k7]};{simp only [zbx,cF,ztt]}
def zMa:vR 328 zBL:=hF2 zzY zbe zx zo zT6 zTB
def z9D:zbb:=[(413,zxj),(412,zzl),(328,zBL)]++z9C
def zVa:zU z9D:=zi zFE (zi zI5<|zi zMa zzY)
def zo6 (x y:Guest):Bool:=pc (x=y)
def zoF (_ _:Guest):Bool:=true
def zxi:Run:=rF2 (dT .guest) (dT .guest) λb c=>(zo6 b c,[aB<|zoF b c])
def zBf (N:Nat)(a b:Guest):OA:=
 (oN (zqS a.Prog b.Prog)<|cond (zqR a.Prog b.Prog) (cond (ieq a.A b.A) (cond (ieq a.Pc b.Pc) (oN (zl6 a.Written b.Written)<|cond (zmm a.Written b.Written) (oN (zl6 a.Live b.Live)<|cond (zmm a.Live b.Live) (cond (cond (ieq a.Ctl.Traps b.Ctl.Traps) (cond (ieq a.Ctl.Post b.Ctl.Post) (zkG a.Ctl.Open b.Ctl.Open) false) false) (cond (ieq a.Pending b.Pending) (cond (cond (ieq a.Exit.Kind b.Exit.Kind) (cond (ieq a.Exit.Page b.Exit.Page) (cond (zkG a.Exit.Write b.Exit.Write) (ieq a.Exit.N b.Exit.N) false) false) false) (cond (zkG a.Halted b.Halted) (oN (ziO a.Seen b.Seen)<|some [aB<|zj4 a.Seen b.Seen]) oF) oF) oF) oF) oF) oF) oF) oF) oF)
def zMY (a b:Guest)(c:zo6 a b=true):∃N,zBf N a b=some [aB<|zoF a b]:=by have:=zK.1 c;subst this;refine⟨0,?_⟩;simp only[zBf,zqS,zqR,zl6,zmm,ziO,zj4,zrF,zQu,zja,zgS,zle,cT,cF,kJ,k7,zoF]
def zFD:vR 386 zxi:=kF2 zVa zbe zx zo (zq []) zMY
def z9E:zbb:=[(386,zxi)]++z9D
def zVb:zU z9E:=zi zFD zVa
def zkD (x y:List Guest):Bool:=pc (x=y)
def zj6 (_ _:List Guest):Bool:=true
def zrr:Run:=rF2 (dS .guest) (dS .guest) λb c=>(zkD b c,[aB<|zj6 b c])
def zt9 (N:Nat)(b c:lG):OA:=
 (cond (ine (ln b)<|ln c) oF<|iter (σ:=(Int×lG×lG×Unit)) N (λf a=>let e:=ix a.2.1 a.1 zA;let d:=ix a.2.2.1 a.1 zA; (cond (ilt a.1<|ln a.2.1) (oN (inb a.1<|ln a.2.1)<|oN (inb a.1<|ln a.2.2.1)<|oN (zo6 e d)<|cond (nB<|zoF e d) oF<|f (zQ .i64 a.1 1,a.2.1,a.2.2.1,())) oT)) (0,b,c,()))
def zCl:=zq [(329,0,{n:=27,tm:=[(0,.sl 0 []),(1,.sl 1 []),(5,ti)],lo:=[],ro:=[(0,.guest,false),(1,.guest,false)]})]
def zCj (a b:List Guest)(d:zbS big [aS .guest a,aS .guest b])(e:zkD a b=true):∃N,zt9 N a b=some [aB<|zj6 a b]:=by
 have:=zK.1 e;subst this;have f:=len0 d;refine⟨a.length+1,?_⟩;unfold zt9 oN nB;conv=>zeta
 rw[zja];refine zEX a zA _ _ f (λi c rec=>?_) (λrec=>?_) (kU _);{simp only [zbF c,zbk c,zbt c,zo6,zoF,zrF,zQu,zja,zgS,zle,cT,cF,kJ,k7]};{simp only [zbx,cF,zj6]}
def zyM:vR 329 zrr:=hF2 zVb zbe zx zo zCl zCj
def z9F:zbb:=[(329,zrr)]++z9E
def zVc:zU z9F:=zi zyM zVb
def zv4 (x y:Bare):Bool:=pc (x=y)
def zuL (_ _:Bare):Bool:=true
def zzk:Run:=rF2 (dT .bare) (dT .bare) λb c=>(zv4 b c,[aB<|zuL b c])
def zCU (N:Nat)(a b:Bare):OA:=
 (oN (zsB a.Memory b.Memory)<|cond (ztt a.Memory b.Memory) (oN (zkD a.Guests b.Guests)<|cond (zj6 a.Guests b.Guests) (oN (ziO a.Outs b.Outs)<|cond (zj4 a.Outs b.Outs) (some [aB<|ieq a.Pending b.Pending]) oF) oF) oF)
def zQb (a b:Bare)(c:zv4 a b=true):∃N,zCU N a b=some [aB<|zuL a b]:=by have:=zK.1 c;subst this;refine⟨0,?_⟩;simp only[zCU,zsB,ztt,zkD,zj6,ziO,zj4,zrF,zQu,zja,zgS,zle,cT,cF,kJ,k7,zuL]
def zI4:vR 194 zzk:=kF2 zVc zbe zx zo (zq []) zQb
def z9G:zbb:=[(194,zzk)]++z9F
def zVd:zU z9G:=zi zI4 zVc
def zKN (N:Nat)(b:Host)(c:Int):OA:=
 (oN (zEs b c)<|cond (nB<|ztr b c) (some [aT .bare (⟨[],[],[],0⟩:Bare)])<|iter (σ:=(Int×Int×Int×Int×lM×lN×lE×lE×lM×lG×LI×lM×lG×LI×Unit)) N (λh a=>let g:=a.2.2.2.2.2.2.2.2.2.2.2.2.1;let f:=a.2.2.2.2.2.2.2.2.2.2.2.2.2.1;let d:=(⟨a.2.2.2.2.1,a.2.2.2.2.2.1,a.2.2.2.2.2.2.1,a.2.2.2.2.2.2.2.1⟩:Host);let e:=ap a.2.2.2.2.2.2.2.2.2.2.2.1 [zpq d a.1 a.2.1]; (cond (ilt a.2.1 8) (oN (zqQ d a.1 a.2.1)<|oN (few<|ln e)<|h (a.1,zQ .i64 a.2.1 1,a.2.2.1,a.2.2.2.1,a.2.2.2.2.1,a.2.2.2.2.2.1,a.2.2.2.2.2.2.1,a.2.2.2.2.2.2.2.1,a.2.2.2.2.2.2.2.2.1,a.2.2.2.2.2.2.2.2.2.1,a.2.2.2.2.2.2.2.2.2.2.1,e,g,f,()))<|some [aT .bare (⟨a.2.2.2.2.2.2.2.2.2.2.2.1,g,f,a.2.2.2.1⟩:Bare)])) (c,0,0,(zgt b c).Pending,b.Memory,b.Mons,b.Buffer,b.IoBuffer,[],[],[],[],(zgt b c).Guests,(zgt b c).Outs,()))
def zX7:=zq [(195,0,{n:=39,tm:=[(1,ti),(2,.lp 0 0),(4,.lp 1 0),(7,.lp 2 0),(8,ti)],lo:=[(0,[.sl 0 [],.sl 1 [],.sl 2 [],.sl 3 []]),(1,[.sl 4 [],.sl 5 [],.sl 6 [],ti]),(2,[.sl 7 [],.sl 8 [],.sl 9 [],ti])],ro:=[(0,.sl .int,false),(1,.mon,false),(2,.entry,false),(3,.entry,false),(4,.sl .int,true),(5,.guest,true),(6,.int,true),(7,.sl .int,true),(8,.guest,true),(9,.int,true)]})]
def zWt (a:Host)(b:Int)(f:zc3 a b=true):∃N,zKN N a b=some [aT .bare<|zdj a b]:=by
 have e:=zK.1 f;refine zcw λN d=>?_;unfold zKN zdj zB oN nB;conv=>zeta
 refine must (zbs e) ?_;rw[show ztr a b=hasB b (ln a.Mons) from rfl];cases g:hasB b (ln a.Mons);{rfl};{refine zcf rfl ?_;refine(zvG 8 (λi (t:lM)=>(b,(i:Int),0,(zgt a b).Pending,a.Memory,a.Mons,a.Buffer,a.IoBuffer,[],[],[],t,(zgt a b).Guests,(zgt a b).Outs,())) _ (λi (c:List LI) j=>bif few (ln<|ap c [zc1 a b (i:Int)]) then j (ap c [zc1 a b (i:Int)]) else none) (λ(t:lM)=>some [.agg<|Ty.cells .bare (⟨t,(zgt a b).Guests,(zgt a b).Outs,(zgt a b).Pending⟩:Bare)]) (λi h t rec=>?_) (λt rec=>?_) _ ([])<|d (by decide)).trans ?_;{simp only [show ilt (i:Int) 8=true from qK (by omega),zbh h (show 8<=big by decide),cT];exact must (zbs e) rfl};{simp only [show ilt ((8:Nat):Int) 8=false from qH (by omega),cF]};rw[zDv a b _ 8 0 [] (by decide)];simp only[zgt,g,cT,jS]}
def zPe:vR 195 zqi:=kF2 zVd zbe zx zo zX7 zWt
def z9H:zbb:=[(195,zqi)]++z9G
def zVe:zU z9H:=zi zPe zVd
def zVy {d:Type}(h:Host)(K:List Bare->Option d):∀(l:List Mon) (i:Nat) (a:List Bare),a.length+l.length<=2147483648->
 goL (λi (_:Mon) a c=>bif few (ln<|ap a [zB h (i:Int)]) then c (ap a [zB h (i:Int)]) else none) K l i a=K (a++(List.range' i l.length).map λ(i:Nat)=>zB h (i:Int))
 |[],_,a,_=>by simp[goL]
 |x::l,i,a,b=>by simp only[jB]at b;simp only[goL];rw[zhW (by simp[ap];omega),cT,zVy h K l (i+1) _ (by simp[ap];omega)];simp[ap,u3]
@[simp] abbrev zsz (h:Host):List Bare:=zdi h
def zxh:Run:=rF1 dH λb=>(zT b,[aS .bare<|zsz b])
def zA6 (N:Nat)(b:Host):OA:=
 (iter (σ:=(Int×lR×lM×lN×lE×lE×Unit)) N (λe a=>let c:=(⟨a.2.2.1,a.2.2.2.1,a.2.2.2.2.1,a.2.2.2.2.2.1⟩:Host);let d:=ap a.2.1 [zdj c a.1]; (cond (ilt a.1<|ln a.2.2.2.1) (oN (zc3 c a.1)<|oN (few<|ln d)<|e (zQ .i64 a.1 1,d,a.2.2.1,a.2.2.2.1,a.2.2.2.2.1,a.2.2.2.2.2.1,()))<|some [aS .bare a.2.1])) (0,[],b.Memory,b.Mons,b.Buffer,b.IoBuffer,()))
def zNW:=zq [(71,0,{n:=20,tm:=[(1,.lp 0 0),(3,.sl 0 []),(4,ti)],lo:=[(0,[.sl 1 [],.sl 2 [],.sl 3 [],.sl 4 []])],ro:=[(0,.bare,true),(1,.sl .int,false),(2,.mon,false),(3,.entry,false),(4,.entry,false)]})]
def zMQ (a:Host)(f:zT a=true):∃N,zA6 N a=some [aS .bare<|zsz a]:=by
 have d:=zK.1 f;have e:a.Mons.length<=big:=(zcR ((zS a).1 d).2.1.1).1;refine zcw λN c=>?_;unfold zA6 oN;conv=>zeta
 refine(zbp a.Mons (λi (t:lR)=>((i:Int),t,a.Memory,a.Mons,a.Buffer,a.IoBuffer,())) _ (λi (x:Mon) (t:List Bare) g=>bif few (ln<|ap t [zB a (i:Int)]) then g (ap t [zB a (i:Int)]) else none) (λ(t:lR)=>some [.one<|.s .bare t]) (λi b t rec=>?_) (λt rec=>?_) _ ([])<|c e).trans ?_;{simp only [zbF b,zbk b,zbt b,zbh b e,cT];exact must (zbs d) rfl};{simp only [zbx,cF]};rw[zVy a _ _ 0 [] (by simpa using (zcR ((zS a).1 d).2.1.1).2)];simp[zdi,vC]
def zFw:vR 71 zxh:=kF1 zVe zbe zx zo zNW zMQ
def z9I:zbb:=[(71,zxh)]++z9H
def zVf:zU z9I:=zi zFw zVe
def z0e {a c:Type}(K:Unit->Option c):∀(l:List a) (i:Nat),goL (λ_ _ (_:Unit) b=>b ()) K l i ()=K ()
 |[],_=>rfl
 |_::l,i=>z0e K l (i+1)
@[simp] abbrev zv3 (h:Host)(l:List Bare):Bool:=pc (zdz h/\l=zdi h)
@[simp] abbrev zAz (_:Host)(_:List Bare):Bool:=true
def zzj:Run:=rF2 dH (dS .bare) λb c=>(zv3 b c,[aB<|zAz b c])
def zCR (N:Nat)(b:Host)(d:lR):OA:=
 (cond (ine (ln d)<|ln b.Mons) oF<|iter (σ:=(Int×lR×lM×lN×lE×lE×Unit)) N (λf a=>let e:=ix a.2.1 a.1 zmf;let c:=(⟨a.2.2.1,a.2.2.2.1,a.2.2.2.2.1,a.2.2.2.2.2.1⟩:Host); (cond (ilt a.1<|ln a.2.1) (oN (zc3 c a.1)<|oN (inb a.1<|ln a.2.1)<|oN (zv4 (zdj c a.1) e)<|cond (nB<|zuL (zdj c a.1) e) oF<|f (zQ .i64 a.1 1,a.2.1,a.2.2.1,a.2.2.2.1,a.2.2.2.2.1,a.2.2.2.2.2.1,())) oT)) (0,d,b.Memory,b.Mons,b.Buffer,b.IoBuffer,()))
def zQT:=zq [(70,0,{n:=27,tm:=[(1,.sl 0 []),(2,.lp 0 0),(5,ti)],lo:=[(0,[.sl 1 [],.sl 2 [],.sl 3 [],.sl 4 []])],ro:=[(0,.bare,false),(1,.sl .int,false),(2,.mon,false),(3,.entry,false),(4,.entry,false)]})]
def zP8 (a:Host)(c:List Bare)(k:zv3 a c=true):∃N,zCR N a c=some [aB<|zAz a c]:=by
 obtain⟨j,g⟩:=zK.1 k;have h:c.length<=big:=(by rw[g,ziD];exact(zcR ((zS a).1 j).2.1.1).1);refine zcw λN f=>?_;unfold zCR oN nB;conv=>zeta
 rw[show ine (ln c) (ln a.Mons)=false by unfold ln;rw[g,ziD];exact zja _];refine zcf rfl ?_;refine(zbp c (λi (t:Unit)=>((i:Int),c,a.Memory,a.Mons,a.Buffer,a.IoBuffer,())) _ (λi (x:Bare) (_:Unit) l=>l ()) (λ(t:Unit)=>some [.one<|.b true]) (λi d t rec=>?_) (λt rec=>?_) _ ()<|f h).trans ?_;{simp only [zbF d,zbk d,zbt d,zbh d h,cT];have e:zdj a (i:Int)=c[i]:=(by simp[g,zdi]);refine must (zbs j) ?_;rw[e];exact must (zbg rfl) rfl};{simp only [zbx,cF]};rw[z0e]
def zI1:vR 70 zzj:=kF2 zVf zbe zx zo zQT zP8
def zbdi:zbb:=[(70,zzj)]++z9I
def z6P:zU zbdi:=zi zI1 zVf
@[simp] abbrev zv5 (a b:Host):Bool:=pc (zdz a/\zdz b/\zdi a=zdi b)
@[simp] abbrev zAA (_ _:Host):Bool:=true
def zzm:Run:=rF2 dH dH λb c=>(zv5 b c,[aB<|zAA b c])
def zCW (N:Nat)(b a:Host):OA:=
 (oN (zT a)<|oN (zv3 b<|zsz a)<|some [aB<|zAz b<|zsz a])
def zQd (a b:Host)(f:zv5 a b=true):∃N,zCW N a b=some [aB<|zAA a b]:=by obtain⟨c,d,e⟩:=zK.1 f;refine⟨0,?_⟩;unfold zCW oN;exact must (zbs d) (must (zbs ⟨c,e.symm⟩) rfl)
def zI6:vR 12 zzm:=kF2 z6P zbe zx zo (zq []) zQd
structure Clear (h:Host) (m p:Int):Prop where
 d:ix (ix h.Mons m mZ).Dirty p false=false
 s:(ix (ix h.Mons m mZ).Outer p sZ).Page≠-1->(ix (ix h.Mons m mZ).Outer p sZ).Rights=1/\(∀e∈h.Buffer,e.Host≠(ix (ix h.Mons m mZ).Outer p sZ).Page)/\(∀e∈h.IoBuffer,e.Host≠(ix (ix h.Mons m mZ).Outer p sZ).Page)/\
  ∀g i,hasB g (ln (ix h.Mons m mZ).Guests)=true->hasB i (ln (ix (ix h.Mons m mZ).Guests g gZ).Live)=true->(ix (ix (ix h.Mons m mZ).Guests g gZ).Live i sZ).Page=p->ix (ix (ix h.Mons m mZ).Tables g kZ).Known i false=false
def zbbP {a:Type}{l:List a}{i j:Int}(b:0<=i)(c:0<=j)(h:i≠j)(x y:a):up (up l i x) j y=up (up l j y) i x:=by unfold up;exact List.set_comm x y (by omega)
def zDa (l:List Bare)(a:GAct):ln (zdg l a)=ln l:=by unfold zdg;cases zk a.Kind 1 17 with|false=>rfl|true=>(cases zk a.Kind 13 17 with|true=>rfl|false=>rw[cond_true,cond_false];(cases hasB a.M (ln l) with|true=>exact zeK _ _ _|false=>rfl))
def zUM {l:List Bare}{a:GAct}{m:Int}(h:m≠a.M)(c:hasB m (ln l)=true):ix (zdg l a) m zmf=ix l m zmf:=by unfold zdg;cases zk a.Kind 1 17 with|false=>rfl|true=>(cases zk a.Kind 13 17 with|true=>rfl|false=>rw[cond_true,cond_false];(cases b:hasB a.M (ln l) with|true=>exact zbC (zJ.1 b).1 (zJ.1 c).1 (Ne.symm h) _ _|false=>rfl))
def z0Y (l:List Bare){a b:GAct}(h:a.M≠b.M):zdg (zdg l a) b=zdg (zdg l b) a:=by have j:∀{a b:GAct},a.M≠b.M->hasB b.M (ln l)=true->ix (zdg l a) b.M zmf=ix l b.M zmf:=λm r=>zUM (Ne.symm m) r;have n:zdg (zdg l a) b=bif zk b.Kind 1 17 then (cond (zk b.Kind 13 17) (zdg l a)<|cond (hasB b.M<|ln l) (up (zdg l a) b.M<|zum (ix (zdg l a) b.M zmf) b)<|zdg l a) else zdg l a:=(by rw[<- zDa l a];rfl);have p:zdg (zdg l b) a=bif zk a.Kind 1 17 then (cond (zk a.Kind 13 17) (zdg l b)<|cond (hasB a.M<|ln l) (up (zdg l b) a.M<|zum (ix (zdg l b) a.M zmf) a)<|zdg l b) else zdg l b:=(by rw[<- zDa l b];rfl);rw[n,p];cases e:zk b.Kind 1 17 with|false=>rw[cond_false];have:zdg l b=l:=(by unfold zdg;rw[e];rfl);rw[this];rfl|true=>rw[cond_true];(cases i:zk b.Kind 13 17 with|true=>rw[cond_true];have:zdg l b=l:=(by unfold zdg;rw[e,i];rfl);rw[this];rfl|false=>rw[cond_false];(cases f:hasB b.M (ln l) with|false=>rw[cond_false];have:zdg l b=l:=(by unfold zdg;rw[e,i,f];rfl);rw[this];rfl|true=>rw[cond_true,j h f];have k:zdg l b=up l b.M (zum (ix l b.M zmf) b):=(by unfold zdg;rw[e,i,f];rfl);(cases c:zk a.Kind 1 17 with|false=>have:zdg l a=l:=(by unfold zdg;rw[c];rfl);rw[this,k];rfl|true=>(cases g:zk a.Kind 13 17 with|true=>have:zdg l a=l:=(by unfold zdg;rw[c,g];rfl);rw[this,k];rfl|false=>(cases d:hasB a.M (ln l) with|false=>have:zdg l a=l:=(by unfold zdg;rw[c,g,d];rfl);rw[this,k];rfl|true=>have q:zdg l a=up l a.M (zum (ix l a.M zmf) a):=(by unfold zdg;rw[c,g,d];rfl);rw[cond_true,cond_false,cond_true,j (Ne.symm h) d,q,k];exact zbbP (zJ.1 d).1 (zJ.1 f).1 h _ _)))))
def zG7 (l:List Bare){a b:GAct}(h:a.M≠b.M):zEO (zdg l b) a=zEO l a:=by unfold zEO;rw[zDa];cases c:hasB a.M (ln l) with|false=>rw[cond_false,cond_false]|true=>rw[zUM h c]
def z8l {h:Host}(S:Safe h){a b:GAct}(c:a.M≠b.M) :
 zdi (zbR (zbR h a) b)=zdi (zbR (zbR h b) a)/\(zju a=true->zbZ h a=zbZ (zbR h b) a)/\(zju b=true->zbZ (zbR h a) b=zbZ h b):=by
 obtain⟨e,g⟩:=zom S a;obtain⟨f,k⟩:=zom S b;obtain⟨i,j⟩:=zom (zK2 S a).1 b;obtain⟨l,m⟩:=zom (zK2 S b).1 a;refine⟨by rw[i,l,e,f,z0Y _ c],λd=>?_,λd=>?_⟩
 .rw [g d,m d,f,zG7 _ c]
 .rw [j d,k d,e,zG7 _<|Ne.symm c]
def zWH {d b:Type}{f:d->b}{l:List d}{x:b}{c:List b}(h:l.map f=x::c):∃a r,l=a::r/\f a=x/\r.map f=c:=by cases l with|nil=>cases h|cons a r=>simp only[jH,List.cons.injEq]at h;exact⟨a,r,rfl,h.1,h.2⟩
def zbcU {a:AV}{b:CTy}(h:some a.sh=some (false,[b])):∃c,a = .one c/\c.ty=b:=by cases a with|one c=>simp only[AV.sh,qC,jV,List.cons.injEq,and_true,true_and]at h;exact⟨c,rfl,h⟩|agg l=>simp[AV.sh]at h
def sh_s {a:AV}{t:Ty}(h:some a.sh=some (false,[.s t])):∃l:List t.den,a = .one (.s t l):=by obtain⟨c,rfl,b⟩:=zbcU h;obtain⟨l,rfl⟩:=znu b;exact⟨l,rfl⟩
section
open Go Go.ChangeShapes Go.WideShapes Go.ChangeAt
abbrev zPF (_:LI):Bool:=true
abbrev zMD (l:LI):Bool:=igt (ln l) 1048576
def zSg:Run:=rF1 (dS .u8) λb=>(zPF b,[aB<|zMD b])
def zZT (N:Nat)(a:LI):OA:=
 (some [aB<|igt (ln a) 1048576])
def z4C (a:LI)(b:zPF a=true):∃N,zZT N a=some [aB<|zMD a]:=by refine⟨0,?_⟩;unfold zZT;first|rfl|(simp only [*,zMD,cT,cF]<;>rfl)|simp_all[Ty.cells,zMD]
def zYK:vR 7 zSg:=kF1 zU3 zbe zx zo (zq []) z4C
def z9B:zbb:=[(7,zSg),(12,zzm),(10,zjK),(13,zjK)]++z9c
def z6O:zU z9B:=zi zYK (zi zI6<|zi zwP<|zi zwV zU3)
def zoN (N:Nat)(c:LI):OA:=
 let f:=zqN c;let b:=zgW c;let i:=zeQ f b;let a:=zgW<|ap [5] c;let d:=zeQ f a;let h:=(⟨i.Memory,i.Mons,i.Buffer,i.IoBuffer⟩:Host);let j:=zeQ h a;let l:=(⟨j.Memory,j.Mons,j.Buffer,j.IoBuffer⟩:Host);let k:=aB<|cond (zkG (zdf h a).Ok (zdf f a).Ok) (ieq (zdf h a).N (zdf f a).N) false;let g:=(⟨d.Memory,d.Mons,d.Buffer,d.IoBuffer⟩:Host);let e:=zeQ g b;let m:=(⟨e.Memory,e.Mons,e.Buffer,e.IoBuffer⟩:Host); (oN (zPF c)<|cond (zMD c) oT<|oN (zkV c)<|oN (zgX c)<|oN (few<|ln<|ap [5] c)<|oN (zgX<|ap [5] c)<|cond (ieq b.M a.M) (oN (ziM 16)<|some [aB<|ziL 16])<|oN (ze3 f b)<|oN (ze3 h a)<|oN (ze3 f a)<|oN (ze3 g b)<|oN (zv5 l m)<|cond (zAA l m) (oN (ziM b.Kind)<|cond (ziL b.Kind) (oN (ziM a.Kind)<|cond (ziL a.Kind) oT<|some [k])<|cond (cond (zkG (zdf f b).Ok (zdf g b).Ok) (ieq (zdf f b).N (zdf g b).N) false) (oN (ziM a.Kind)<|cond (ziL a.Kind) oT<|some [k]) oF) oF)
def zQq (N:Nat)(a:LI):evalFn (cQ z9B z7r zJJ zXO) (zq []) N 12 3 [aS .u8 a]=zoN N a:=by kernel_rfl
def zYf {h r:Host}{a:GAct}(c:zk a.Kind 13 17=false)(e:zju a=true->zbZ h a=zbZ r a):zbZ h a=zbZ r a:=by cases b:zk a.Kind 1 17 with|true=>exact e (by unfold zju;rw[b,c];rfl)|false=>have k:∀x,zbZ x a=⟨false,0⟩:=λx=>(by unfold zbZ;rw[b,cF]);rw[k,k]
def zIo (N:Nat)(d:LI)(n:d.length<=big):Ends (λa=>a=[.one<|.b true]) (zoN N d):=by
 unfold zoN oN;conv=>zeta
 refine zG rfl (zbI (λ_=>zpY rfl) λq=>?_);have m:¬ 1048576<ln d:=qW q;have r:(ap [5] d).length<=1048577:=(by unfold ln at m;unfold ap;rw[kB,kY];omega);have p:(ap [5] d).length<=big:=(by rw[zpy];omega);refine zG (zLk n) (zG (zBk n)<|zG (qK ?_)<|zG (zBk p)<|zbI (λ_=>zG rfl (zpY rfl)) λc=>?_);{unfold ln;omega};obtain⟨S,g⟩:=zWE (zEq<|zLk n).2;generalize zqN d=h at S g;generalize zgW d=a at c;generalize zgW (ap [5] d)=b at c;have l:a.M≠b.M:=λe=>(by rw[e,zgS]at c;cases c);obtain⟨s,t,u⟩:=z8l S l;have sm:∀{h:Host},SmH h->zdz h:=λk=>(zS _).2 k;have v:zk a.Kind 13 17=false->zbZ h a=zbZ (zbR h b) a:=λi=>zYf i t;have w:zk b.Kind 13 17=false->zbZ (zbR h a) b=zbZ h b:=λi=>zYf i u;have j:∀{x y:Told},x=y->Ends (λa=>a=[AV.one<|CV.b true]) (some [AV.one<|.b<|cond (zkG x.Ok y.Ok) (ieq x.N y.N) false]):=λe=>by rw[e,zle,zgS];exact zpY rfl
 have f:Ends (λa=>a=[AV.one<|CV.b true]) (cond (ziM b.Kind) (cond (ziL b.Kind) (some [AV.one<|.b true])<|some [AV.one<|.b<|cond (zkG (zdf (zeQ h a) b).Ok (zdf h b).Ok) (ieq (zdf (zeQ h a) b).N (zdf h b).N) false]) none):=
  zG rfl (zbI (λ_=>zpY rfl) λi=>j (w i))
 refine zG (zbg<|sm g) (zG (zbg<|sm<|zoa g)<|zG (zbg<|sm g)<|zG (zbg<|sm<|zoa g)<|zG (zbg ⟨sm<|zoa<|zoa g,sm<|zoa<|zoa g,s⟩) (zG rfl (zG rfl (zbI (λ_=>f) λi=>zG ?_ f)))) ;have e:=v i;show (cond (zkG (zbZ h a).Ok (zbZ (zbR h b) a).Ok) (ieq (zbZ h a).N (zbZ (zbR h b) a).N) false)=true;rw[e,zle,zgS];rfl
def zK3 (d:LI)(h:∀c∈zF [aS .u8 d],CVOk c):∃N,zoN N d=some [.one<|.b true]:=by have e:zbS big [aS .u8 d]:=λc f=>CVB.of_ok (h c f);have g:=len0 e;exact⟨5,zba5 (G:=λa=>a=[.one<|.b true])<|zIo 5 d g⟩
def zGd:Tryz.f3.params.toList.map (zdb Tryz.prog 4)=[some (false,[.s .u8])]:=by kernel_rfl
def zB3:zZP 3 Tryz.f3.params.toList:=by refine zYr z6O zbe zx zo (zkz (by kernel_rfl)) ?_;intro c hg;obtain⟨a,e⟩:=hg;rw[zGd]at a;obtain⟨h,g,rfl,d,a⟩:=zWH a;cases List.map_eq_nil_iff.1 a;obtain⟨b,rfl⟩:=sh_s d;obtain⟨N,f⟩:=zK3 b e;exact⟨zq [],N,12,(zQq N b).trans f⟩
def zJ0 (H:Type)(a:List (DataW H))(h:a.length=Tryz.f3.params.toList.length):Rows.fnTwoActsSpec.fn H a={results:=[.lit<|.bool true],args:=a}:=by
 have b:a.length=1:=h.trans (by kernel_rfl)
 match a,b with
 |[d],_=>rfl
set_option maxRecDepth 100000 in
def zD3 (g:Os)(a:g.Started)(H:Type)(enc:TypeId×Value->H) :
 ReturnsInHanded {} Tryz.checked g 3 .any (Rows.fnTwoActsSpec.pre6 enc Tryz.prog Tryz.f3 Rows.fnTwoActsRow.domain false) (Rows.fnTwoActsSpec.post enc Tryz.prog Tryz.f3 false true false false):=by
 refine returnsInHanded_of_change_shaped (C:=Tryz.checked) own a (by kernel_rfl) Tryz.func3
  (ChangeSpec.witness6 (enc:=enc) (C:=Tryz.checked) false ⟨#[],#[.slice none 0 0],[]⟩ 8 (by kernel_rfl) (by kernel_rfl) (by kernel_rfl) (by kernel_rfl)) ?_
 intro W d c h i b e j _ f _ _;exact zME (P:=Tryz.prog) z6j z7h rfl zJ0 (by kernel_rfl) (B:=4) (by kernel_rfl) (by kernel_rfl) zB3 W d c h i b e j f
end
end
end Go.Proofs.YtjapbkodhfpbbaaGreat.E
