/- What is proved here: a part of the proof that the statement of this claim holds (several texts of wip/, laid together). -/
import Derived.Test.YtdlfljbgoopanaaGreatQ6
namespace Go.Proofs.YtdlfljbgoopanaaGreat.E
open Go
set_option linter.constructorNameAsVariable false
set_option linter.unusedVariables false
set_option maxRecDepth 100000
set_option linter.unusedSimpArgs false
set_option linter.unusedSectionVars false
noncomputable section
def zbcv:zba:=[(258,znJ),(103,zkJ)]++z8i
theorem zHC:zT zbcv:=zi zpd (zi zvh zfP)
theorem zEp {g:Type}{c e:Cur}(h:zbg c)(j:0<=e.i){P:g->Prop}{q:Int}(A:0<q)(M:q<=1000){fc:Cur->Bool}{fs:Cur->Cur}{fv:Cur->g}(E:∀{c:Cur},zbg c->fc c=true)(H:∀c,0<=(fs c).i)(hg:∀{c:Cur},zbg c->P (fv c)){G:Ans->Prop}{l0:List g}{z:Nat}(O:l0.length<=z)(I:z<=1000)(m:∀x∈l0,P x){p:Type}(S:Nat->Int×Int×Int×List g->p){F:(p->OA)->p->OA}(D:∀rec t i k l,∃r,F rec (S 0 (t,i,k,l))=(bif zD ⟨c.b,i,k⟩ q then (bif ilt t (zu ⟨c.b,i,k⟩ q) then (bif fc { zf ⟨c.b,i,k⟩ q with b:=c.b } then (bif few (ln (ap l [fv { zf ⟨c.b,i,k⟩ q with b:=c.b }])) then
        rec (S 0 (zQ .i64 t 1,(fs {zf ⟨c.b,i,k⟩ q with b:=c.b}).i,(fs {zf ⟨c.b,i,k⟩ q with b:=c.b}).h,ap l [fv {zf ⟨c.b,i,k⟩ q with b:=c.b}])) else none) else none) else some r) else none)/\(ln l<=z+q->(∀x∈l,P x)->G r)):Ends G (iter 1002 F (S 0 (0,e.i,e.h,l0))):=by
 refine zmB (fun n s=>∃t i k l,s=S 0 (t,i,k,l)/\t+(n:Int)=1000/\0<=t/\t<=q/\0<=i/\(∀x∈l,P x)/\ln l<=z+t) ?_ 1002 1000 _ ⟨0,e.i,e.h,l0,rfl,rfl,kN 0,by omega,j,m,by unfold ln;omega⟩ (by omega)
 rintro n s rec ⟨t,i,k,l,rfl,J,B,K,C,u,L⟩ f
 obtain⟨r,hF1,hF2⟩:=D rec t i k l;rw[hF1];have a:zbg ⟨c.b,i,k⟩:=zbT h C;have d:=zhf a A;have v:zbg {zf ⟨c.b,i,k⟩ q with b:=c.b}:=zbT h (zI _ _);refine zG (zbE a _) (zbG (fun w=>?_) (fun w=>?_))
 .have hlt:t<zu ⟨c.b,i,k⟩ q:=qD w;have N:=ziZ (y:=1) B (by omega) (by omega) (by omega)
  refine zG (E v) (zG (zmC (by rw[zjo];omega)) (f (n-1) _ (by omega) ⟨_,_,_,_,rfl,by omega,by omega,by omega,H _,?_,by rw[zjo];omega⟩))
  intro x d;rcases jN.1 d with d|d
  .exact u x d
  .rw [qF.1 d];exact hg v
 .exact zu8 (hF2 (by omega) u)
theorem zbbK {c d:Cur}(h:zbg c)(f:0<=d.i){m q x:Int}(t:0<q)(g:0<=m)(D:m+q<=1000){G:Ans->Prop}{l0:List Int}(B:ln l0<=m+q){j:Type}(S:Nat->Int×Int×List Int->j){F:(j->OA)->j->OA}(w:∀rec i k l,∃r,F rec (S 0 (i,k,l))=(bif zD ⟨c.b,i,k⟩ q then (bif ilt (ln l) (zQ .i64 m (zu ⟨c.b,i,k⟩ q)) then (bif few (ln (ap l [x])) then
        rec (S 0 ((zf ⟨c.b,i,k⟩ q).i,(zf ⟨c.b,i,k⟩ q).h,ap l [x])) else none) else some r) else none)/\(ln l<=m+q->G r)):Ends G (iter 1002 F (S 0 (d.i,d.h,l0))):=by
 refine zmB (fun n s=>∃i k l,s=S 0 (i,k,l)/\ln l+(n:Int)=1000/\0<=i/\ln l<=m+q) ?_ 1002 (1000-ln l0).toNat _ ⟨d.i,d.h,l0,rfl,by unfold ln at *;omega,f,B⟩ (by unfold ln at *;omega)
 rintro n s rec ⟨i,k,l,rfl,C,u,v⟩ e
 obtain⟨r,hF1,hF2⟩:=w rec i k l;rw[hF1];have a:zbg ⟨c.b,i,k⟩:=zbT h u;have A:=zhf a t;have z:=ziZ (x:=m) (y:=zu ⟨c.b,i,k⟩ q) g (by omega) A.1 (by omega)
 refine zG (zbE a _) (zbG (fun p=>?_) (fun p=>?_))
 .have hlt:ln l<zQ .i64 m (zu ⟨c.b,i,k⟩ q):=qD p;rw[z]at hlt;exact zG (zmC (by rw[zjo];omega)) (e (n-1) _ (by unfold ln at *;omega) ⟨_,_,_,rfl,by rw[zjo];omega,zI _ _,by rw[zjo];omega⟩)
 .exact zu8 (hF2 v)
def GuS (g:Guest):Prop:=g.Prog.length<=13/\g.Written.length<=4/\g.Live.length<=4/\g.Seen.length<=50
theorem zD9 {c:Cur}(h:zbg c):(zei c 4 8).length<=4:=by have:=(zba2 h (n:=4) (m:=8) (by omega) (by omega) (by omega) (by omega)).1;unfold ln at this;omega
def zuV (N:Nat)(c:Cur)  : OA :=
 let C:=({ (zbc c) with b:=c.b}:Cur);let v:=zei C 4 8;let d:=zcX<|zct c;let y9:=({ (zL C 4 8) with b:=c.b}:Cur);let x:=zei y9 4 8;let y2:=({ (zL y9 4 8) with b:=c.b}:Cur);let w:=zu y2 100;let B:=({ (zf y2 100) with b:=c.b}:Cur);let y:=zu B 4;let y0:=({ (zf B 4) with b:=c.b}:Cur);let I:=({ (zcQ y0) with b:=c.b}:Cur);let e:=zc9 y0;let A:=({ (zW I 3) with b:=c.b}:Cur);let H:=({ (zf A 256) with b:=c.b}:Cur);let r:=({ (zW A 4) with b:=c.b}:Cur);let u:=({ (zgE r) with b:=c.b}:Cur);let q:=({ (zW H 4) with b:=c.b}:Cur);let t:=({ (zgE q) with b:=c.b}:Cur); (oN (ziK c)<|oN (zkM<|zct c)<|oN (zjj C 4 8)<|oN (zjj y9 4 8)<|oN (zD y2 100)<|oN (zD B 4)<|oN (zlF y0)<|oN (zdD I 3)<|cond (zdS I 3) (oN (zD A 256)<|oN (zdD H 4)<|cond (zdS H 4) (oN (zki q)<|oN (zdD t 12)<|iter (σ:=(Int×Int×Int×Int×Int×Int×Int×Bool×Int×Int×Int×Bool×Int×Bool×Int×Int×Int×Int×Bool×Int×Int×Int×Bool×Int×Bool×(List Int)×lI×lS×lS×(List Int)×lI×lS×lS×(List Int)×Unit)) N (λz a=>let d6:=a.2.2.2.2.2.2.2.2.2.2.2.2.2.2.1;let d2:=a.2.2.2.2.2.2.2.2.2.2.2.2.2.2.2.1;let c8:=a.2.2.2.2.2.2.2.2.2.2.2.2.2.2.2.2.1;let c4:=a.2.2.2.2.2.2.2.2.2.2.2.2.2.2.2.2.2.1;let c0:=a.2.2.2.2.2.2.2.2.2.2.2.2.2.2.2.2.2.2.1;let b6:=a.2.2.2.2.2.2.2.2.2.2.2.2.2.2.2.2.2.2.2.1;let b2:=a.2.2.2.2.2.2.2.2.2.2.2.2.2.2.2.2.2.2.2.2.1;let a8:=a.2.2.2.2.2.2.2.2.2.2.2.2.2.2.2.2.2.2.2.2.2.1;let a4:=a.2.2.2.2.2.2.2.2.2.2.2.2.2.2.2.2.2.2.2.2.2.2.1;let a0:=a.2.2.2.2.2.2.2.2.2.2.2.2.2.2.2.2.2.2.2.2.2.2.2.1;let W:=a.2.2.2.2.2.2.2.2.2.2.2.2.2.2.2.2.2.2.2.2.2.2.2.2.1;let S:=a.2.2.2.2.2.2.2.2.2.2.2.2.2.2.2.2.2.2.2.2.2.2.2.2.2.2.2.2.2.2.1;let O:=a.2.2.2.2.2.2.2.2.2.2.2.2.2.2.2.2.2.2.2.2.2.2.2.2.2.2.2.2.2.2.2.1;let J:=a.2.2.2.2.2.2.2.2.2.2.2.2.2.2.2.2.2.2.2.2.2.2.2.2.2.2.2.2.2.2.2.2.1;let D:=a.2.2.2.2.2.2.2.2.2.2.2.2.2.2.2.2.2.2.2.2.2.2.2.2.2.2.2.2.2.2.2.2.2.1;let y4:=a.2.2.2.2.2.2.2.2.2.2.2.2.2.2.2.2.2.2.2.2.2.2.2.2.2.1;let l:=(⟨y4,a.2.1,a.2.2.1⟩:Cur);let f:=({ (zf l 4) with b:=y4}:Cur); (oN (zD l 4)<|cond (ilt a.1<|zu l 4) (oN (zD f 100)<|oN (few<|ln<|ap D [zu f 100])<|z (zQ .i64 a.1 1,(zf f 100).i,(zf f 100).h,a.2.2.2.1,a.2.2.2.2.1,a.2.2.2.2.2.1,a.2.2.2.2.2.2.1,a.2.2.2.2.2.2.2.1,a.2.2.2.2.2.2.2.2.1,a.2.2.2.2.2.2.2.2.2.1,a.2.2.2.2.2.2.2.2.2.2.1,a.2.2.2.2.2.2.2.2.2.2.2.1,a.2.2.2.2.2.2.2.2.2.2.2.2.1,a.2.2.2.2.2.2.2.2.2.2.2.2.2.1,d6,d2,c8,c4,c0,b6,b2,a8,a4,a0,W,y4,a.2.2.2.2.2.2.2.2.2.2.2.2.2.2.2.2.2.2.2.2.2.2.2.2.2.2.1,a.2.2.2.2.2.2.2.2.2.2.2.2.2.2.2.2.2.2.2.2.2.2.2.2.2.2.2.1,a.2.2.2.2.2.2.2.2.2.2.2.2.2.2.2.2.2.2.2.2.2.2.2.2.2.2.2.2.1,a.2.2.2.2.2.2.2.2.2.2.2.2.2.2.2.2.2.2.2.2.2.2.2.2.2.2.2.2.2.1,S,O,J,ap D [zu f 100],()))<|some [.agg [.s .u8 y4,.i .i64 (zf l 4).i,.i .i64 (zf l 4).h],aT .guest (⟨S,d6,d2,O,J,⟨c8,c4,c0⟩,b6,⟨b2,a8,a4,a0⟩,W,D⟩:Guest)])) (0,(zW t 12).i,(zW t 12).h,0,0,0,0,false,0,0,0,false,0,false,w,y,e.Traps,e.Post,e.Open,zu A 256,(zcG q).Kind,(zcG q).Page,(zcG q).Write,(zcG q).N,zdS t 12,c.b,[],[],[],[],d.Prog,v,x,d.Seen,()))<|oN (zdD q 12)<|iter (σ:=(Int×Int×Int×Int×Int×Int×Int×Bool×Int×Int×Int×Bool×Int×Bool×Int×Int×Int×Int×Bool×Int×Int×Int×Bool×Int×Bool×(List Int)×lI×lS×lS×(List Int)×lI×lS×lS×(List Int)×Unit)) N (λz a=>let d7:=a.2.2.2.2.2.2.2.2.2.2.2.2.2.2.1;let d3:=a.2.2.2.2.2.2.2.2.2.2.2.2.2.2.2.1;let c9:=a.2.2.2.2.2.2.2.2.2.2.2.2.2.2.2.2.1;let c5:=a.2.2.2.2.2.2.2.2.2.2.2.2.2.2.2.2.2.1;let c1:=a.2.2.2.2.2.2.2.2.2.2.2.2.2.2.2.2.2.2.1;let b7:=a.2.2.2.2.2.2.2.2.2.2.2.2.2.2.2.2.2.2.2.1;let b3:=a.2.2.2.2.2.2.2.2.2.2.2.2.2.2.2.2.2.2.2.2.1;let a9:=a.2.2.2.2.2.2.2.2.2.2.2.2.2.2.2.2.2.2.2.2.2.1;let a5:=a.2.2.2.2.2.2.2.2.2.2.2.2.2.2.2.2.2.2.2.2.2.2.1;let a1:=a.2.2.2.2.2.2.2.2.2.2.2.2.2.2.2.2.2.2.2.2.2.2.2.1;let X:=a.2.2.2.2.2.2.2.2.2.2.2.2.2.2.2.2.2.2.2.2.2.2.2.2.1;let T:=a.2.2.2.2.2.2.2.2.2.2.2.2.2.2.2.2.2.2.2.2.2.2.2.2.2.2.2.2.2.2.1;let P:=a.2.2.2.2.2.2.2.2.2.2.2.2.2.2.2.2.2.2.2.2.2.2.2.2.2.2.2.2.2.2.2.1;let K:=a.2.2.2.2.2.2.2.2.2.2.2.2.2.2.2.2.2.2.2.2.2.2.2.2.2.2.2.2.2.2.2.2.1;let E:=a.2.2.2.2.2.2.2.2.2.2.2.2.2.2.2.2.2.2.2.2.2.2.2.2.2.2.2.2.2.2.2.2.2.1;let y5:=a.2.2.2.2.2.2.2.2.2.2.2.2.2.2.2.2.2.2.2.2.2.2.2.2.2.1;let m:=(⟨y5,a.2.1,a.2.2.1⟩:Cur);let g:=({ (zf m 4) with b:=y5}:Cur); (oN (zD m 4)<|cond (ilt a.1<|zu m 4) (oN (zD g 100)<|oN (few<|ln<|ap E [zu g 100])<|z (zQ .i64 a.1 1,(zf g 100).i,(zf g 100).h,a.2.2.2.1,a.2.2.2.2.1,a.2.2.2.2.2.1,a.2.2.2.2.2.2.1,a.2.2.2.2.2.2.2.1,a.2.2.2.2.2.2.2.2.1,a.2.2.2.2.2.2.2.2.2.1,a.2.2.2.2.2.2.2.2.2.2.1,a.2.2.2.2.2.2.2.2.2.2.2.1,a.2.2.2.2.2.2.2.2.2.2.2.2.1,a.2.2.2.2.2.2.2.2.2.2.2.2.2.1,d7,d3,c9,c5,c1,b7,b3,a9,a5,a1,X,y5,a.2.2.2.2.2.2.2.2.2.2.2.2.2.2.2.2.2.2.2.2.2.2.2.2.2.2.1,a.2.2.2.2.2.2.2.2.2.2.2.2.2.2.2.2.2.2.2.2.2.2.2.2.2.2.2.1,a.2.2.2.2.2.2.2.2.2.2.2.2.2.2.2.2.2.2.2.2.2.2.2.2.2.2.2.2.1,a.2.2.2.2.2.2.2.2.2.2.2.2.2.2.2.2.2.2.2.2.2.2.2.2.2.2.2.2.2.1,T,P,K,ap E [zu g 100],()))<|some [.agg [.s .u8 y5,.i .i64 (zf m 4).i,.i .i64 (zf m 4).h],aT .guest (⟨T,d7,d3,P,K,⟨c9,c5,c1⟩,b7,⟨b3,a9,a5,a1⟩,X,E⟩:Guest)])) (0,(zW q 12).i,(zW q 12).h,0,0,0,0,false,0,0,0,false,0,false,w,y,e.Traps,e.Post,e.Open,zu A 256,d.Exit.Kind,d.Exit.Page,d.Exit.Write,d.Exit.N,zdS q 12,c.b,[],[],[],[],d.Prog,v,x,d.Seen,()))<|oN (zdD A 4)<|cond (zdS A 4) (oN (zki r)<|oN (zdD u 12)<|iter (σ:=(Int×Int×Int×Int×Int×Int×Int×Bool×Int×Int×Int×Bool×Int×Bool×Int×Int×Int×Int×Bool×Int×Int×Int×Bool×Int×Bool×(List Int)×lI×lS×lS×(List Int)×lI×lS×lS×(List Int)×Unit)) N (λz a=>let d8:=a.2.2.2.2.2.2.2.2.2.2.2.2.2.2.1;let d4:=a.2.2.2.2.2.2.2.2.2.2.2.2.2.2.2.1;let d0:=a.2.2.2.2.2.2.2.2.2.2.2.2.2.2.2.2.1;let c6:=a.2.2.2.2.2.2.2.2.2.2.2.2.2.2.2.2.2.1;let c2:=a.2.2.2.2.2.2.2.2.2.2.2.2.2.2.2.2.2.2.1;let b8:=a.2.2.2.2.2.2.2.2.2.2.2.2.2.2.2.2.2.2.2.1;let b4:=a.2.2.2.2.2.2.2.2.2.2.2.2.2.2.2.2.2.2.2.2.1;let b0:=a.2.2.2.2.2.2.2.2.2.2.2.2.2.2.2.2.2.2.2.2.2.1;let a6:=a.2.2.2.2.2.2.2.2.2.2.2.2.2.2.2.2.2.2.2.2.2.2.1;let a2:=a.2.2.2.2.2.2.2.2.2.2.2.2.2.2.2.2.2.2.2.2.2.2.2.1;let Y:=a.2.2.2.2.2.2.2.2.2.2.2.2.2.2.2.2.2.2.2.2.2.2.2.2.1;let U:=a.2.2.2.2.2.2.2.2.2.2.2.2.2.2.2.2.2.2.2.2.2.2.2.2.2.2.2.2.2.2.1;let Q:=a.2.2.2.2.2.2.2.2.2.2.2.2.2.2.2.2.2.2.2.2.2.2.2.2.2.2.2.2.2.2.2.1;let L:=a.2.2.2.2.2.2.2.2.2.2.2.2.2.2.2.2.2.2.2.2.2.2.2.2.2.2.2.2.2.2.2.2.1;let F:=a.2.2.2.2.2.2.2.2.2.2.2.2.2.2.2.2.2.2.2.2.2.2.2.2.2.2.2.2.2.2.2.2.2.1;let y6:=a.2.2.2.2.2.2.2.2.2.2.2.2.2.2.2.2.2.2.2.2.2.2.2.2.2.1;let n:=(⟨y6,a.2.1,a.2.2.1⟩:Cur);let j:=({ (zf n 4) with b:=y6}:Cur); (oN (zD n 4)<|cond (ilt a.1<|zu n 4) (oN (zD j 100)<|oN (few<|ln<|ap F [zu j 100])<|z (zQ .i64 a.1 1,(zf j 100).i,(zf j 100).h,a.2.2.2.1,a.2.2.2.2.1,a.2.2.2.2.2.1,a.2.2.2.2.2.2.1,a.2.2.2.2.2.2.2.1,a.2.2.2.2.2.2.2.2.1,a.2.2.2.2.2.2.2.2.2.1,a.2.2.2.2.2.2.2.2.2.2.1,a.2.2.2.2.2.2.2.2.2.2.2.1,a.2.2.2.2.2.2.2.2.2.2.2.2.1,a.2.2.2.2.2.2.2.2.2.2.2.2.2.1,d8,d4,d0,c6,c2,b8,b4,b0,a6,a2,Y,y6,a.2.2.2.2.2.2.2.2.2.2.2.2.2.2.2.2.2.2.2.2.2.2.2.2.2.2.1,a.2.2.2.2.2.2.2.2.2.2.2.2.2.2.2.2.2.2.2.2.2.2.2.2.2.2.2.1,a.2.2.2.2.2.2.2.2.2.2.2.2.2.2.2.2.2.2.2.2.2.2.2.2.2.2.2.2.1,a.2.2.2.2.2.2.2.2.2.2.2.2.2.2.2.2.2.2.2.2.2.2.2.2.2.2.2.2.2.1,U,Q,L,ap F [zu j 100],()))<|some [.agg [.s .u8 y6,.i .i64 (zf n 4).i,.i .i64 (zf n 4).h],aT .guest (⟨U,d8,d4,Q,L,⟨d0,c6,c2⟩,b8,⟨b4,b0,a6,a2⟩,Y,F⟩:Guest)])) (0,(zW u 12).i,(zW u 12).h,0,0,0,0,false,0,0,0,false,0,false,w,y,e.Traps,e.Post,e.Open,d.Pending,(zcG r).Kind,(zcG r).Page,(zcG r).Write,(zcG r).N,zdS u 12,c.b,[],[],[],[],d.Prog,v,x,d.Seen,()))<|oN (zdD r 12)<|iter (σ:=(Int×Int×Int×Int×Int×Int×Int×Bool×Int×Int×Int×Bool×Int×Bool×Int×Int×Int×Int×Bool×Int×Int×Int×Bool×Int×Bool×(List Int)×lI×lS×lS×(List Int)×lI×lS×lS×(List Int)×Unit)) N (λz a=>let d9:=a.2.2.2.2.2.2.2.2.2.2.2.2.2.2.1;let d5:=a.2.2.2.2.2.2.2.2.2.2.2.2.2.2.2.1;let d1:=a.2.2.2.2.2.2.2.2.2.2.2.2.2.2.2.2.1;let c7:=a.2.2.2.2.2.2.2.2.2.2.2.2.2.2.2.2.2.1;let c3:=a.2.2.2.2.2.2.2.2.2.2.2.2.2.2.2.2.2.2.1;let b9:=a.2.2.2.2.2.2.2.2.2.2.2.2.2.2.2.2.2.2.2.1;let b5:=a.2.2.2.2.2.2.2.2.2.2.2.2.2.2.2.2.2.2.2.2.1;let b1:=a.2.2.2.2.2.2.2.2.2.2.2.2.2.2.2.2.2.2.2.2.2.1;let a7:=a.2.2.2.2.2.2.2.2.2.2.2.2.2.2.2.2.2.2.2.2.2.2.1;let a3:=a.2.2.2.2.2.2.2.2.2.2.2.2.2.2.2.2.2.2.2.2.2.2.2.1;let Z:=a.2.2.2.2.2.2.2.2.2.2.2.2.2.2.2.2.2.2.2.2.2.2.2.2.1;let V:=a.2.2.2.2.2.2.2.2.2.2.2.2.2.2.2.2.2.2.2.2.2.2.2.2.2.2.2.2.2.2.1;let R:=a.2.2.2.2.2.2.2.2.2.2.2.2.2.2.2.2.2.2.2.2.2.2.2.2.2.2.2.2.2.2.2.1;let M:=a.2.2.2.2.2.2.2.2.2.2.2.2.2.2.2.2.2.2.2.2.2.2.2.2.2.2.2.2.2.2.2.2.1;let G:=a.2.2.2.2.2.2.2.2.2.2.2.2.2.2.2.2.2.2.2.2.2.2.2.2.2.2.2.2.2.2.2.2.2.1;let y7:=a.2.2.2.2.2.2.2.2.2.2.2.2.2.2.2.2.2.2.2.2.2.2.2.2.2.1;let p:=(⟨y7,a.2.1,a.2.2.1⟩:Cur);let k:=({ (zf p 4) with b:=y7}:Cur); (oN (zD p 4)<|cond (ilt a.1<|zu p 4) (oN (zD k 100)<|oN (few<|ln<|ap G [zu k 100])<|z (zQ .i64 a.1 1,(zf k 100).i,(zf k 100).h,a.2.2.2.1,a.2.2.2.2.1,a.2.2.2.2.2.1,a.2.2.2.2.2.2.1,a.2.2.2.2.2.2.2.1,a.2.2.2.2.2.2.2.2.1,a.2.2.2.2.2.2.2.2.2.1,a.2.2.2.2.2.2.2.2.2.2.1,a.2.2.2.2.2.2.2.2.2.2.2.1,a.2.2.2.2.2.2.2.2.2.2.2.2.1,a.2.2.2.2.2.2.2.2.2.2.2.2.2.1,d9,d5,d1,c7,c3,b9,b5,b1,a7,a3,Z,y7,a.2.2.2.2.2.2.2.2.2.2.2.2.2.2.2.2.2.2.2.2.2.2.2.2.2.2.1,a.2.2.2.2.2.2.2.2.2.2.2.2.2.2.2.2.2.2.2.2.2.2.2.2.2.2.2.1,a.2.2.2.2.2.2.2.2.2.2.2.2.2.2.2.2.2.2.2.2.2.2.2.2.2.2.2.2.1,a.2.2.2.2.2.2.2.2.2.2.2.2.2.2.2.2.2.2.2.2.2.2.2.2.2.2.2.2.2.1,V,R,M,ap G [zu k 100],()))<|some [.agg [.s .u8 y7,.i .i64 (zf p 4).i,.i .i64 (zf p 4).h],aT .guest (⟨V,d9,d5,R,M,⟨d1,c7,c3⟩,b9,⟨b5,b1,a7,a3⟩,Z,G⟩:Guest)])) (0,(zW r 12).i,(zW r 12).h,0,0,0,0,false,0,0,0,false,0,false,w,y,e.Traps,e.Post,e.Open,d.Pending,d.Exit.Kind,d.Exit.Page,d.Exit.Write,d.Exit.N,zdS r 12,c.b,[],[],[],[],d.Prog,v,x,d.Seen,()))
def zQq:=zq [(179,0,{n:=50,tm:=[(0,.lp 0 0),(2,.lp 1 0),(3,.lp 2 0),(4,ti)],lo:=[(0,[.sl 0 [],ti,ti]),(1,[.sl 1 [],ti,ti,.sl 2 [],.sl 3 [],ti,ti,.b,ti,ti,ti,.b,ti,.b,.sl 4 []]),(2,[.sl 5 [],ti,ti,.sl 6 [],.sl 7 [],ti,ti,.b,ti,ti,ti,.b,ti,.b,.sl 8 []])],ro:=[(0,.u8,false),(1,.ins,true),(2,.slot,true),(3,.slot,true),(4,.int,true),(5,.ins,true),(6,.slot,true),(7,.slot,true),(8,.int,true)]})]
def zo5 (c:Cur)(s:Cur)(a:Guest):Prop:=(∃N,zuV N c=some (AV.agg (zcj s)::[aT .guest a]))/\(s.b=c.b/\0<=s.i)/\(GuS a/\a.Seen.length<=4)
def zm8 (c:Cur)  : Bool:=wC (zo5 c)
def zkV (c:Cur)  : Cur:=wS (zo5 c)
def zcA (c:Cur)  : Guest:=wV (zo5 c)
theorem zD1 {c:Cur}(h:zm8 c=true):zo5 c (zkV c) (zcA c):=wG h
theorem zWH (c:Cur)  : 0<=(zkV c).i:=wP λh=>h.2.1.2
theorem zWG (c:Cur)(h:∃N,Ends (wE (λa=>aT .guest a) c.b λa=>GuS a/\a.Seen.length<=4)<|zuV N c):zm8 c=true:=wI (λ_ _ h=>h) h
def zwO:zeS:=rP0 λc=>(zm8 c,zkV c,[aT .guest<|zcA c])
theorem zIE:zb8 Tryz.prog 179 [false,true,true] zwO:=hP0 zHC zbh zWi zo zQq (λ_ h=>(zD1 h).1)
theorem zUB {c:Cur}(h:zbg c):zm8 c=true:=by
 refine zWG c ⟨1002,?_⟩;unfold zuV oN;conv=>zeta
 have f:=zDK h;have j:=zJh (zsy f).2.2;have e:zkM (zct c)=true:=zbi (by omega);have q:∀{s:Cur},0<=s.i->zbg {s with b:=c.b}:=fun g=>zbT h g;have d:GuS ⟨zct c,0,0,[],[],⟨0,0,false⟩,0,⟨0,0,false,0⟩,false,[]⟩:=⟨by dsimp only;omega,by simp,by simp,by simp⟩
 refine zG f (zG e (zG (zzb (q (zkh _)) (by omega) (by omega) _) (zG (zzb (q (zjk _ _ _)) (by omega) (by omega) _) (zG (zbE (q (zjk _ _ _)) _) (zG (zbE (q (zI _ _)) _) (zG (z0n (q (zI _ _))) (zG (zkF (q (zAi _)) _)
  (zbG (fun _=>zG (zbE (q (zcR _ _)) _) (zG (zkF (q (zI _ _)) _) (zbG (fun _=>zG (zUE (q (zcR _ _))) (zG (zkF (q (zxM _)) _) ?_)) (fun _=>zG (zkF (q (zcR _ _)) _) ?_))))
   (fun _=>zG (zkF (q (zcR _ _)) _) (zbG (fun _=>zG (zUE (q (zcR _ _))) (zG (zkF (q (zxM _)) _) ?_)) (fun _=>zG (zkF (q (zcR _ _)) _) ?_)))))))))))
 .exact zEp h (zcR _ _) (P:=fun _=>True) (q:=4) (by omega) (by omega) (fc:=fun c=>zD c 100) (fs:=fun c=>zf c 100) (fv:=fun c=>zu c 100) (fun h=>zbE h _) (fun c=>zI c _) (fun _=>trivial) (z:=0) (l0:=(zcX (zct c)).Seen) (qX 0) (by omega) (by simp) ((fun _ t=>(t.1,t.2.1,t.2.2.1,0,0,0,0,false,0,0,0,false,0,false,(zu ({ (zL ({ (zL ({ (zbc c) with b:=c.b }:Cur) 4 8) with b:=c.b }:Cur) 4 8) with b:=c.b }:Cur) 100),(zu ({ (zf ({ (zL ({ (zL ({ (zbc c) with b:=c.b }:Cur) 4 8) with b:=c.b }:Cur) 4 8) with b:=c.b }:Cur) 100) with b:=c.b }:Cur) 4),(zc9 ({ (zf ({ (zf ({ (zL ({ (zL ({ (zbc c) with b:=c.b }:Cur) 4 8) with b:=c.b }:Cur) 4 8) with b:=c.b }:Cur) 100) with b:=c.b }:Cur) 4) with b:=c.b }:Cur)).Traps,(zc9 ({ (zf ({ (zf ({ (zL ({ (zL ({ (zbc c) with b:=c.b }:Cur) 4 8) with b:=c.b }:Cur) 4 8) with b:=c.b }:Cur) 100) with b:=c.b }:Cur) 4) with b:=c.b }:Cur)).Post,(zc9 ({ (zf ({ (zf ({ (zL ({ (zL ({ (zbc c) with b:=c.b }:Cur) 4 8) with b:=c.b }:Cur) 4 8) with b:=c.b }:Cur) 100) with b:=c.b }:Cur) 4) with b:=c.b }:Cur)).Open,(zu ({ (zW ({ (zcQ ({ (zf ({ (zf ({ (zL ({ (zL ({ (zbc c) with b:=c.b }:Cur) 4 8) with b:=c.b }:Cur) 4 8) with b:=c.b }:Cur) 100) with b:=c.b }:Cur) 4) with b:=c.b }:Cur)) with b:=c.b }:Cur) 3) with b:=c.b }:Cur) 256),(zcG ({ (zW ({ (zf ({ (zW ({ (zcQ ({ (zf ({ (zf ({ (zL ({ (zL ({ (zbc c) with b:=c.b }:Cur) 4 8) with b:=c.b }:Cur) 4 8) with b:=c.b }:Cur) 100) with b:=c.b }:Cur) 4) with b:=c.b }:Cur)) with b:=c.b }:Cur) 3) with b:=c.b }:Cur) 256) with b:=c.b }:Cur) 4) with b:=c.b }:Cur)).Kind,(zcG ({ (zW ({ (zf ({ (zW ({ (zcQ ({ (zf ({ (zf ({ (zL ({ (zL ({ (zbc c) with b:=c.b }:Cur) 4 8) with b:=c.b }:Cur) 4 8) with b:=c.b }:Cur) 100) with b:=c.b }:Cur) 4) with b:=c.b }:Cur)) with b:=c.b }:Cur) 3) with b:=c.b }:Cur) 256) with b:=c.b }:Cur) 4) with b:=c.b }:Cur)).Page,(zcG ({ (zW ({ (zf ({ (zW ({ (zcQ ({ (zf ({ (zf ({ (zL ({ (zL ({ (zbc c) with b:=c.b }:Cur) 4 8) with b:=c.b }:Cur) 4 8) with b:=c.b }:Cur) 100) with b:=c.b }:Cur) 4) with b:=c.b }:Cur)) with b:=c.b }:Cur) 3) with b:=c.b }:Cur) 256) with b:=c.b }:Cur) 4) with b:=c.b }:Cur)).Write,(zcG ({ (zW ({ (zf ({ (zW ({ (zcQ ({ (zf ({ (zf ({ (zL ({ (zL ({ (zbc c) with b:=c.b }:Cur) 4 8) with b:=c.b }:Cur) 4 8) with b:=c.b }:Cur) 100) with b:=c.b }:Cur) 4) with b:=c.b }:Cur)) with b:=c.b }:Cur) 3) with b:=c.b }:Cur) 256) with b:=c.b }:Cur) 4) with b:=c.b }:Cur)).N,(zdS ({ (zgE ({ (zW ({ (zf ({ (zW ({ (zcQ ({ (zf ({ (zf ({ (zL ({ (zL ({ (zbc c) with b:=c.b }:Cur) 4 8) with b:=c.b }:Cur) 4 8) with b:=c.b }:Cur) 100) with b:=c.b }:Cur) 4) with b:=c.b }:Cur)) with b:=c.b }:Cur) 3) with b:=c.b }:Cur) 256) with b:=c.b }:Cur) 4) with b:=c.b }:Cur)) with b:=c.b }:Cur) 12),c.b,[],[],[],[],(zcX (zct c)).Prog,(zei ({ (zbc c) with b:=c.b }:Cur) 4 8),(zei ({ (zL ({ (zbc c) with b:=c.b }:Cur) 4 8) with b:=c.b }:Cur) 4 8),t.2.2.2,())):Nat->Int×Int×Int×List Int->_)
   (fun rec t i k l=>⟨_,rfl,fun a _=>⟨⟨_,_,_⟩,_,rfl,⟨rfl,zI _ _⟩,⟨⟨d.1,zD9 (q (zkh _)),zD9 (q (zjk _ _ _)),by unfold ln at a;dsimp only;omega⟩,by unfold ln at a;dsimp only;omega⟩⟩⟩)
 .exact zEp h (zcR _ _) (P:=fun _=>True) (q:=4) (by omega) (by omega) (fc:=fun c=>zD c 100) (fs:=fun c=>zf c 100) (fv:=fun c=>zu c 100) (fun h=>zbE h _) (fun c=>zI c _) (fun _=>trivial) (z:=0) (l0:=(zcX (zct c)).Seen) (qX 0) (by omega) (by simp) ((fun _ t=>(t.1,t.2.1,t.2.2.1,0,0,0,0,false,0,0,0,false,0,false,(zu ({ (zL ({ (zL ({ (zbc c) with b:=c.b }:Cur) 4 8) with b:=c.b }:Cur) 4 8) with b:=c.b }:Cur) 100),(zu ({ (zf ({ (zL ({ (zL ({ (zbc c) with b:=c.b }:Cur) 4 8) with b:=c.b }:Cur) 4 8) with b:=c.b }:Cur) 100) with b:=c.b }:Cur) 4),(zc9 ({ (zf ({ (zf ({ (zL ({ (zL ({ (zbc c) with b:=c.b }:Cur) 4 8) with b:=c.b }:Cur) 4 8) with b:=c.b }:Cur) 100) with b:=c.b }:Cur) 4) with b:=c.b }:Cur)).Traps,(zc9 ({ (zf ({ (zf ({ (zL ({ (zL ({ (zbc c) with b:=c.b }:Cur) 4 8) with b:=c.b }:Cur) 4 8) with b:=c.b }:Cur) 100) with b:=c.b }:Cur) 4) with b:=c.b }:Cur)).Post,(zc9 ({ (zf ({ (zf ({ (zL ({ (zL ({ (zbc c) with b:=c.b }:Cur) 4 8) with b:=c.b }:Cur) 4 8) with b:=c.b }:Cur) 100) with b:=c.b }:Cur) 4) with b:=c.b }:Cur)).Open,(zu ({ (zW ({ (zcQ ({ (zf ({ (zf ({ (zL ({ (zL ({ (zbc c) with b:=c.b }:Cur) 4 8) with b:=c.b }:Cur) 4 8) with b:=c.b }:Cur) 100) with b:=c.b }:Cur) 4) with b:=c.b }:Cur)) with b:=c.b }:Cur) 3) with b:=c.b }:Cur) 256),(zcX (zct c)).Exit.Kind,(zcX (zct c)).Exit.Page,(zcX (zct c)).Exit.Write,(zcX (zct c)).Exit.N,(zdS ({ (zW ({ (zf ({ (zW ({ (zcQ ({ (zf ({ (zf ({ (zL ({ (zL ({ (zbc c) with b:=c.b }:Cur) 4 8) with b:=c.b }:Cur) 4 8) with b:=c.b }:Cur) 100) with b:=c.b }:Cur) 4) with b:=c.b }:Cur)) with b:=c.b }:Cur) 3) with b:=c.b }:Cur) 256) with b:=c.b }:Cur) 4) with b:=c.b }:Cur) 12),c.b,[],[],[],[],(zcX (zct c)).Prog,(zei ({ (zbc c) with b:=c.b }:Cur) 4 8),(zei ({ (zL ({ (zbc c) with b:=c.b }:Cur) 4 8) with b:=c.b }:Cur) 4 8),t.2.2.2,())):Nat->Int×Int×Int×List Int->_)
   (fun rec t i k l=>⟨_,rfl,fun a _=>⟨⟨_,_,_⟩,_,rfl,⟨rfl,zI _ _⟩,⟨⟨d.1,zD9 (q (zkh _)),zD9 (q (zjk _ _ _)),by unfold ln at a;dsimp only;omega⟩,by unfold ln at a;dsimp only;omega⟩⟩⟩)
 .exact zEp h (zcR _ _) (P:=fun _=>True) (q:=4) (by omega) (by omega) (fc:=fun c=>zD c 100) (fs:=fun c=>zf c 100) (fv:=fun c=>zu c 100) (fun h=>zbE h _) (fun c=>zI c _) (fun _=>trivial) (z:=0) (l0:=(zcX (zct c)).Seen) (qX 0) (by omega) (by simp) ((fun _ t=>(t.1,t.2.1,t.2.2.1,0,0,0,0,false,0,0,0,false,0,false,(zu ({ (zL ({ (zL ({ (zbc c) with b:=c.b }:Cur) 4 8) with b:=c.b }:Cur) 4 8) with b:=c.b }:Cur) 100),(zu ({ (zf ({ (zL ({ (zL ({ (zbc c) with b:=c.b }:Cur) 4 8) with b:=c.b }:Cur) 4 8) with b:=c.b }:Cur) 100) with b:=c.b }:Cur) 4),(zc9 ({ (zf ({ (zf ({ (zL ({ (zL ({ (zbc c) with b:=c.b }:Cur) 4 8) with b:=c.b }:Cur) 4 8) with b:=c.b }:Cur) 100) with b:=c.b }:Cur) 4) with b:=c.b }:Cur)).Traps,(zc9 ({ (zf ({ (zf ({ (zL ({ (zL ({ (zbc c) with b:=c.b }:Cur) 4 8) with b:=c.b }:Cur) 4 8) with b:=c.b }:Cur) 100) with b:=c.b }:Cur) 4) with b:=c.b }:Cur)).Post,(zc9 ({ (zf ({ (zf ({ (zL ({ (zL ({ (zbc c) with b:=c.b }:Cur) 4 8) with b:=c.b }:Cur) 4 8) with b:=c.b }:Cur) 100) with b:=c.b }:Cur) 4) with b:=c.b }:Cur)).Open,(zcX (zct c)).Pending,(zcG ({ (zW ({ (zW ({ (zcQ ({ (zf ({ (zf ({ (zL ({ (zL ({ (zbc c) with b:=c.b }:Cur) 4 8) with b:=c.b }:Cur) 4 8) with b:=c.b }:Cur) 100) with b:=c.b }:Cur) 4) with b:=c.b }:Cur)) with b:=c.b }:Cur) 3) with b:=c.b }:Cur) 4) with b:=c.b }:Cur)).Kind,(zcG ({ (zW ({ (zW ({ (zcQ ({ (zf ({ (zf ({ (zL ({ (zL ({ (zbc c) with b:=c.b }:Cur) 4 8) with b:=c.b }:Cur) 4 8) with b:=c.b }:Cur) 100) with b:=c.b }:Cur) 4) with b:=c.b }:Cur)) with b:=c.b }:Cur) 3) with b:=c.b }:Cur) 4) with b:=c.b }:Cur)).Page,(zcG ({ (zW ({ (zW ({ (zcQ ({ (zf ({ (zf ({ (zL ({ (zL ({ (zbc c) with b:=c.b }:Cur) 4 8) with b:=c.b }:Cur) 4 8) with b:=c.b }:Cur) 100) with b:=c.b }:Cur) 4) with b:=c.b }:Cur)) with b:=c.b }:Cur) 3) with b:=c.b }:Cur) 4) with b:=c.b }:Cur)).Write,(zcG ({ (zW ({ (zW ({ (zcQ ({ (zf ({ (zf ({ (zL ({ (zL ({ (zbc c) with b:=c.b }:Cur) 4 8) with b:=c.b }:Cur) 4 8) with b:=c.b }:Cur) 100) with b:=c.b }:Cur) 4) with b:=c.b }:Cur)) with b:=c.b }:Cur) 3) with b:=c.b }:Cur) 4) with b:=c.b }:Cur)).N,(zdS ({ (zgE ({ (zW ({ (zW ({ (zcQ ({ (zf ({ (zf ({ (zL ({ (zL ({ (zbc c) with b:=c.b }:Cur) 4 8) with b:=c.b }:Cur) 4 8) with b:=c.b }:Cur) 100) with b:=c.b }:Cur) 4) with b:=c.b }:Cur)) with b:=c.b }:Cur) 3) with b:=c.b }:Cur) 4) with b:=c.b }:Cur)) with b:=c.b }:Cur) 12),c.b,[],[],[],[],(zcX (zct c)).Prog,(zei ({ (zbc c) with b:=c.b }:Cur) 4 8),(zei ({ (zL ({ (zbc c) with b:=c.b }:Cur) 4 8) with b:=c.b }:Cur) 4 8),t.2.2.2,())):Nat->Int×Int×Int×List Int->_)
   (fun rec t i k l=>⟨_,rfl,fun a _=>⟨⟨_,_,_⟩,_,rfl,⟨rfl,zI _ _⟩,⟨⟨d.1,zD9 (q (zkh _)),zD9 (q (zjk _ _ _)),by unfold ln at a;dsimp only;omega⟩,by unfold ln at a;dsimp only;omega⟩⟩⟩)
 .exact zEp h (zcR _ _) (P:=fun _=>True) (q:=4) (by omega) (by omega) (fc:=fun c=>zD c 100) (fs:=fun c=>zf c 100) (fv:=fun c=>zu c 100) (fun h=>zbE h _) (fun c=>zI c _) (fun _=>trivial) (z:=0) (l0:=(zcX (zct c)).Seen) (qX 0) (by omega) (by simp) ((fun _ t=>(t.1,t.2.1,t.2.2.1,0,0,0,0,false,0,0,0,false,0,false,(zu ({ (zL ({ (zL ({ (zbc c) with b:=c.b }:Cur) 4 8) with b:=c.b }:Cur) 4 8) with b:=c.b }:Cur) 100),(zu ({ (zf ({ (zL ({ (zL ({ (zbc c) with b:=c.b }:Cur) 4 8) with b:=c.b }:Cur) 4 8) with b:=c.b }:Cur) 100) with b:=c.b }:Cur) 4),(zc9 ({ (zf ({ (zf ({ (zL ({ (zL ({ (zbc c) with b:=c.b }:Cur) 4 8) with b:=c.b }:Cur) 4 8) with b:=c.b }:Cur) 100) with b:=c.b }:Cur) 4) with b:=c.b }:Cur)).Traps,(zc9 ({ (zf ({ (zf ({ (zL ({ (zL ({ (zbc c) with b:=c.b }:Cur) 4 8) with b:=c.b }:Cur) 4 8) with b:=c.b }:Cur) 100) with b:=c.b }:Cur) 4) with b:=c.b }:Cur)).Post,(zc9 ({ (zf ({ (zf ({ (zL ({ (zL ({ (zbc c) with b:=c.b }:Cur) 4 8) with b:=c.b }:Cur) 4 8) with b:=c.b }:Cur) 100) with b:=c.b }:Cur) 4) with b:=c.b }:Cur)).Open,(zcX (zct c)).Pending,(zcX (zct c)).Exit.Kind,(zcX (zct c)).Exit.Page,(zcX (zct c)).Exit.Write,(zcX (zct c)).Exit.N,(zdS ({ (zW ({ (zW ({ (zcQ ({ (zf ({ (zf ({ (zL ({ (zL ({ (zbc c) with b:=c.b }:Cur) 4 8) with b:=c.b }:Cur) 4 8) with b:=c.b }:Cur) 100) with b:=c.b }:Cur) 4) with b:=c.b }:Cur)) with b:=c.b }:Cur) 3) with b:=c.b }:Cur) 4) with b:=c.b }:Cur) 12),c.b,[],[],[],[],(zcX (zct c)).Prog,(zei ({ (zbc c) with b:=c.b }:Cur) 4 8),(zei ({ (zL ({ (zbc c) with b:=c.b }:Cur) 4 8) with b:=c.b }:Cur) 4 8),t.2.2.2,())):Nat->Int×Int×Int×List Int->_)
   (fun rec t i k l=>⟨_,rfl,fun a _=>⟨⟨_,_,_⟩,_,rfl,⟨rfl,zI _ _⟩,⟨⟨d.1,zD9 (q (zkh _)),zD9 (q (zjk _ _ _)),by unfold ln at a;dsimp only;omega⟩,by unfold ln at a;dsimp only;omega⟩⟩⟩)
def z9t:zdk:=[(179,[false,true,true],zwO)]++z9s
theorem zJf:zcn z9t:=zcY zWi (by
 intro x a;simp only[qG,qN,or_false]at a;rcases a with rfl
 .exact zIE)
def zzn (N:Nat)(c:Cur)  : OA :=
 let e:=zcA c;let B:=({ (zkV c) with b:=c.b}:Cur);let f:=zf B 14;let j:=zu B 14;let d:=({f with b:=c.b}:Cur);let g:=zic d 4 8;let p:=zbb d [-1,12,13,9223372036854775807]; (oN (zm8 c)<|oN (zD B 14)<|cond (ieq j 0) (oN (zkT d)<|some [.agg [.s .u8 c.b,.i .i64 (zkU d).i,.i .i64 (zkU d).h],aT .guest ({e with Prog:=(zqW d)}:Guest)])<|cond (ieq j 1) (oN (zbA d [-1,100])<|some [.agg [.s .u8 c.b,.i .i64 (zbb d [-1,100]).i,.i .i64 (zbb d [-1,100]).h],aT .guest ({e with A:=(zbr d [-1,100])}:Guest)])<|cond (ieq j 2) (oN (zbA d [-1,12,13,9223372036854775807])<|some [.agg [.s .u8 c.b,.i .i64 p.i,.i .i64 p.h],aT .guest ({e with Pc:=(zbr d [-1,12,13,9223372036854775807])}:Guest)])<|cond (ieq j 3) (oN (zgV d 4 8)<|some [.agg [.s .u8 c.b,.i .i64 g.i,.i .i64 g.h],aT .guest ({e with Live:=(zge d 4 8)}:Guest)])<|cond (ieq j 4) (oN (zqY d)<|some [.agg [.s .u8 c.b,.i .i64 (zqZ d).i,.i .i64 (zqZ d).h],aT .guest ({e with Ctl:=(zAh d)}:Guest)])<|cond (ieq j 5) (oN (zoB d)<|some [.agg [.s .u8 c.b,.i .i64 (zoC d).i,.i .i64 (zoC d).h],aT .guest ({e with Pending:=(zxb d)}:Guest)])<|cond (ieq j 6) (oN (zq0 d)<|some [.agg [.s .u8 c.b,.i .i64 (zq1 d).i,.i .i64 (zq1 d).h],aT .guest ({e with Exit:=(zAj d)}:Guest)])<|cond (ieq j 7) (iter (σ:=(Int×Int×Int×Int×Int×Int×Bool×Int×Int×Int×Bool×Int×Bool×Int×Int×Int×Int×Bool×Int×Int×Int×Bool×Int×Bool×(List Int)×lI×lS×lS×(List Int)×lI×lS×lS×(List Int)×Unit)) N (λG a=>let y:=a.2.2.2.2.2.2.2.2.2.2.2.2.2.1;let x:=a.2.2.2.2.2.2.2.2.2.2.2.2.2.2.1;let w:=a.2.2.2.2.2.2.2.2.2.2.2.2.2.2.2.1;let v:=a.2.2.2.2.2.2.2.2.2.2.2.2.2.2.2.2.1;let u:=a.2.2.2.2.2.2.2.2.2.2.2.2.2.2.2.2.2.1;let t:=a.2.2.2.2.2.2.2.2.2.2.2.2.2.2.2.2.2.2.1;let r:=a.2.2.2.2.2.2.2.2.2.2.2.2.2.2.2.2.2.2.2.1;let q:=a.2.2.2.2.2.2.2.2.2.2.2.2.2.2.2.2.2.2.2.2.1;let n:=a.2.2.2.2.2.2.2.2.2.2.2.2.2.2.2.2.2.2.2.2.2.1;let m:=a.2.2.2.2.2.2.2.2.2.2.2.2.2.2.2.2.2.2.2.2.2.2.1;let l:=a.2.2.2.2.2.2.2.2.2.2.2.2.2.2.2.2.2.2.2.2.2.2.2.1;let F:=a.2.2.2.2.2.2.2.2.2.2.2.2.2.2.2.2.2.2.2.2.2.2.2.2.2.2.2.2.2.1;let E:=a.2.2.2.2.2.2.2.2.2.2.2.2.2.2.2.2.2.2.2.2.2.2.2.2.2.2.2.2.2.2.1;let D:=a.2.2.2.2.2.2.2.2.2.2.2.2.2.2.2.2.2.2.2.2.2.2.2.2.2.2.2.2.2.2.2.1;let C:=a.2.2.2.2.2.2.2.2.2.2.2.2.2.2.2.2.2.2.2.2.2.2.2.2.1;let z:=a.2.2.2.2.2.2.2.2.2.2.2.2.2.2.2.2.2.2.2.2.2.2.2.2.2.2.2.2.2.2.2.2.1;let k:=(⟨C,a.1,a.2.1⟩:Cur); (oN (zD k 3)<|cond (ilt (ln z)<|zQ .i64 39<|zu k 3) (oN (few<|ln<|ap z [1])<|G ((zf k 3).i,(zf k 3).h,a.2.2.1,a.2.2.2.1,a.2.2.2.2.1,a.2.2.2.2.2.1,a.2.2.2.2.2.2.1,a.2.2.2.2.2.2.2.1,a.2.2.2.2.2.2.2.2.1,a.2.2.2.2.2.2.2.2.2.1,a.2.2.2.2.2.2.2.2.2.2.1,a.2.2.2.2.2.2.2.2.2.2.2.1,a.2.2.2.2.2.2.2.2.2.2.2.2.1,y,x,w,v,u,t,r,q,n,m,l,C,a.2.2.2.2.2.2.2.2.2.2.2.2.2.2.2.2.2.2.2.2.2.2.2.2.2.1,a.2.2.2.2.2.2.2.2.2.2.2.2.2.2.2.2.2.2.2.2.2.2.2.2.2.2.1,a.2.2.2.2.2.2.2.2.2.2.2.2.2.2.2.2.2.2.2.2.2.2.2.2.2.2.2.1,a.2.2.2.2.2.2.2.2.2.2.2.2.2.2.2.2.2.2.2.2.2.2.2.2.2.2.2.2.1,F,E,D,ap z [1],()))<|some [.agg [.s .u8 C,.i .i64 (zf k 3).i,.i .i64 (zf k 3).h],aT .guest (⟨F,y,x,E,D,⟨w,v,u⟩,t,⟨r,q,n,m⟩,l,z⟩:Guest)])) (f.i,f.h,0,0,0,0,false,0,0,0,false,0,false,e.A,e.Pc,e.Ctl.Traps,e.Ctl.Post,e.Ctl.Open,e.Pending,e.Exit.Kind,e.Exit.Page,e.Exit.Write,e.Exit.N,e.Halted,c.b,[],[],[],[],e.Prog,e.Written,e.Live,e.Seen,()))<|cond (ieq j 8) (oN (zgV d 4 8)<|some [.agg [.s .u8 c.b,.i .i64 g.i,.i .i64 g.h],aT .guest ({e with Written:=(zge d 4 8)}:Guest)])<|some [.agg [.s .u8 c.b,.i .i64 f.i,.i .i64 f.h],aT .guest e])
def zXq:=zq [(99,1,{n:=65,tm:=[(0,.lp 0 0),(2,.lp 1 0),(3,.lp 2 0)],lo:=[(0,[.sl 0 [],ti,ti]),(1,[.sl 1 [],ti,ti,.sl 2 [],.sl 3 [],ti,ti,.b,ti,ti,ti,.b,ti,.b,.sl 4 []]),(2,[.sl 5 [],ti,ti,.sl 6 [],.sl 7 [],ti,ti,.b,ti,ti,ti,.b,ti,.b,.sl 8 []])],ro:=[(0,.u8,false),(1,.ins,true),(2,.slot,true),(3,.slot,true),(4,.int,true),(5,.ins,true),(6,.slot,true),(7,.slot,true),(8,.int,true)]})]
def zsC (c:Cur)(s:Cur)(a:Guest):Prop:=(∃N,zzn N c=some (AV.agg (zcj s)::[aT .guest a]))/\(s.b=c.b/\0<=s.i)/\(GuS a)
def zq4 (c:Cur)  : Bool:=wC (zsC c)
def zq5 (c:Cur)  : Cur:=wS (zsC c)
def zAk (c:Cur)  : Guest:=wV (zsC c)
theorem zMY {c:Cur}(h:zq4 c=true):zsC c (zq5 c) (zAk c):=wG h
theorem z1N (c:Cur)  : 0<=(zq5 c).i:=wP λh=>h.2.1.2
theorem z1M (c:Cur)(h:∃N,Ends (wE (λa=>aT .guest a) c.b λa=>GuS a)<|zzn N c):zq4 c=true:=wI (λ_ _ h=>h) h
def zBc:zeS:=rP0 λc=>(zq4 c,zq5 c,[aT .guest<|zAk c])
theorem zOX:zb8 Tryz.prog 99 [false,true,true] zBc:=hP0 zHC zbh zJf zo zXq (λ_ h=>(zMY h).1)
theorem zKt {c:Cur}(h:zbg c):zq4 c=true:=by
 refine z1M c ⟨1002,?_⟩;unfold zzn oN;conv=>zeta
 have q:∀{s:Cur},0<=s.i->zbg {s with b:=c.b}:=λr=>zbT h r;have a:zbg {zf {zkV c with b:=c.b} 14 with b:=c.b}:=q (zI _ _);obtain⟨⟨d,e,f,g⟩,w⟩:=(zD1<|zUB h).2.2;have p:(zge {zf {zkV c with b:=c.b} 14 with b:=c.b} 4 8).length<=4:=by have:=((zqP<|zpN a (n:=4) (by omega) (by omega) 8).2.2 (by omega) (by omega)).1;unfold ln at this;omega
 have j:=(zy8<|zQZ a).2.2;refine zG (zUB h) (zG (zbE (q<|zWH _) _) (zbG (λ_=>zG (zQZ a) (zbN (aT .guest) (v:={zcA c with Prog:=zqW _}) (zP4 _) ⟨j,e,f,g⟩))
  (λ_=>zbG (λ_=>zG (zfM a (by simp)) (zbN (aT .guest) (v:={zcA c with A:=zbr _ _}) (zca _ _) ⟨d,e,f,g⟩))
  (λ_=>zbG (λ_=>zG (zfM a (by simp)) (zbN (aT .guest) (v:={zcA c with Pc:=zbr _ _}) (zca _ _) ⟨d,e,f,g⟩))
  (λ_=>zbG (λ_=>zG (zpN a (by omega) (by omega) _) (zbN (aT .guest) (v:={zcA c with Live:=zge _ _ _}) (zqQ _ _ _) ⟨d,e,p,g⟩))
  (λ_=>zbG (λ_=>zG (z5g a) (zbN (aT .guest) (v:={zcA c with Ctl:=zAh _}) (z1G _) ⟨d,e,f,g⟩))
  (λ_=>zbG (λ_=>zG (zbb3 a) (zbN (aT .guest) (v:={zcA c with Pending:=zxb _}) (zYK _) ⟨d,e,f,g⟩))
  (λ_=>zbG (λ_=>zG (z2s a) (zbN (aT .guest) (v:={zcA c with Exit:=zAj _}) (z1L _) ⟨d,e,f,g⟩))
  (λ_=>zbG (λ_=>?_)
  (λ_=>zbG (λ_=>zG (zpN a (by omega) (by omega) _) (zbN (aT .guest) (v:={zcA c with Written:=zge _ _ _}) (zqQ _ _ _) ⟨d,p,f,g⟩))
  (λ_=>zbN (aT .guest) (v:=zcA c) (zI _ _) ⟨d,e,f,g⟩)))))))))))
 exact zbbK h (zI _ _) (m:=39) (q:=3) (x:=1) (by omega) (by omega) (by omega) (l0:=(zcA c).Seen) (by unfold ln;omega) ((λ_ t=>(t.1,t.2.1,0,0,0,0,false,0,0,0,false,0,false,(zcA c).A,(zcA c).Pc,(zcA c).Ctl.Traps,(zcA c).Ctl.Post,(zcA c).Ctl.Open,(zcA c).Pending,(zcA c).Exit.Kind,(zcA c).Exit.Page,(zcA c).Exit.Write,(zcA c).Exit.N,(zcA c).Halted,c.b,[],[],[],[],(zcA c).Prog,(zcA c).Written,(zcA c).Live,t.2.2,())):Nat->Int×Int×List Int->_)
  (λrec i k l=>⟨_,rfl,λu=>⟨⟨_,_,_⟩,_,rfl,⟨rfl,zI _ _⟩,⟨d,e,f,by unfold ln at u;dsimp only;omega⟩⟩⟩)
theorem zbaM (b:List Entry)(e:Entry)(h:b.length<=1048576):(zqa b e).length<=6:=by have c:=(zvC e h).2;unfold zqa;generalize ap (zdg b e.Tag e.Page) [e]=l at c;cases a:igt (ln l) 6 with|false=>have:¬ ln l>6:=qW a;rw[cF];unfold ln at this;omega|true=>rw[cT,zrX (by unfold ln;omega) (by unfold ln;omega)];have:ln l>6:=qD a;simp only[dp,vM];unfold ln at *;omega
def ztv (N:Nat)(c:Cur)  : OA :=
 (iter (σ:=(Int×Int×Int×lE×(List Int)×Unit)) N (λl d=>let e:=d.2.2.2.2.1;let j:=(⟨e,d.2.1,d.2.2.1⟩:Cur);let a:=({ (zf j 9) with b:=e}:Cur);let g:=({ (zW a 8) with b:=e}:Cur);let f:=({ (zh4 g) with b:=e}:Cur);let k:=ap d.2.2.2.1 [zn0 g,zn0 f]; (oN (zD j 9)<|cond (ilt d.1<|zu j 9) (oN (zjl a)<|oN (zh0 d.2.2.2.1<|zn0 a)<|l (zQ .i64 d.1 1,(zh4 a).i,(zh4 a).h,zhE d.2.2.2.1<|zn0 a,e,()))<|oN (zdD a 8)<|cond (zdS a 8) (oN (zjl g)<|oN (zjl f)<|oN (few<|ln k)<|some [.agg [.s .u8 e,.i .i64 (zh4 f).i,.i .i64 (zh4 f).h],aS .entry k])<|some [.agg [.s .u8 e,.i .i64 (zW a 8).i,.i .i64 (zW a 8).h],aS .entry d.2.2.2.1])) (0,c.i,c.h,[],c.b,()))
def zNw:=zq [(41,0,{n:=26,tm:=[(0,.lp 0 0),(3,.sl 0 []),(4,ti)],lo:=[(0,[.sl 1 [],ti,ti])],ro:=[(0,.entry,true),(1,.u8,false)]})]
def znZ (c:Cur)(s:Cur)(a:List Entry):Prop:=(∃N,ztv N c=some (AV.agg (zcj s)::[aS .entry a]))/\(s.b=c.b/\0<=s.i)/\(a.length<=8)
def zlY (c:Cur)  : Bool:=wC (znZ c)
def zlZ (c:Cur)  : Cur:=wS (znZ c)
def zsw (c:Cur)  : List Entry:=wV (znZ c)
theorem zBB {c:Cur}(h:zlY c=true):znZ c (zlZ c) (zsw c):=wG h
theorem zTm (c:Cur)  : 0<=(zlZ c).i:=wP λh=>h.2.1.2
theorem zTl (c:Cur)(h:∃N,Ends (wE (λa=>aS .entry a) c.b λa=>a.length<=8)<|ztv N c):zlY c=true:=wI (λ_ _ h=>h) h
def zvz:zeS:=rP0 λc=>(zlY c,zlZ c,[aS .entry<|zsw c])
theorem zFm:zb8 Tryz.prog 41 [false,true,true] zvz:=hP0 zHC zbh zJf zo zNw (λ_ h=>(zBB h).1)
theorem zUc {c:Cur}(h:zbg c):zlY c=true:=by
 refine zTl c ⟨1002,?_⟩;unfold ztv oN;conv=>zeta
 refine zmB (λn s=>∃t i k l,s=(((λ_ t=>(t.1,t.2.1,t.2.2.1,t.2.2.2,c.b,())):Nat->Int×Int×Int×List Entry->_) 0 (t,i,k,l))/\t+(n:Int)=10/\0<=t/\0<=i/\l.length<=6) ?_ 1002 10 _ ⟨0,c.i,c.h,[],rfl,rfl,kN 0,h.1,by simp⟩ (by omega);rintro n s rec ⟨t,i,k,l,rfl,p,g,j,r⟩ d;dsimp only;have a:zbg ⟨c.b,i,k⟩:=zbT h j;have v:=zhf a (n:=9) (by omega);have q:∀{s:Cur},0<=s.i->zbg {s with b:=c.b}:=λf=>zbT h f;refine zG (zbE a 9) (zbG (λe=>?_) λe=>?_);{have m:t<zu ⟨c.b,i,k⟩ 9:=qD e;have u:=ziZ (y:=1) g (by omega) (by omega) (by omega);exact zG (zNP<|q<|zI _ _) (zG (zbi (by omega))<|d (n-1) _ (by omega) ⟨zQ .i64 t 1,_,_,_,rfl,by omega,by omega,zvO _,zbaM _ _ (by omega)⟩)};{refine zG (zkF (q<|zI _ _) 8) (zbG (λ_=>zG (zNP<|q<|zcR _ _) (zG (zNP<|q<|zvO _)<|zG (zmC ?_)<|zbN (aS .entry) (zvO _) ?_)) λ_=>zbN (aS .entry) (zcR _ _) (by omega));{simp only [ln,ap,kC,jB,uM];omega};{simp only [ap,kC,jB,uM];omega}}
def z9u:zdk:=[(99,[false,true,true],zBc),(41,[false,true,true],zvz)]++z9t
theorem zWj:zcn z9u:=zcY zJf (by
 intro x a;simp only[qG,qN,or_false]at a;rcases a with rfl|rfl
 .exact zOX
 .exact zFm)
def zKu (b:Bare)(a:GAct):Bare:=bif ieq a.Kind 1 then zfN b a.G else (cond (ieq a.Kind 2) (chg b a.G (ztP a.X ⟨a.Y,a.Z⟩)<|zvR (gAt b a.G) a.X ⟨a.Y,a.Z⟩)<|cond (ieq a.Kind 3) (chg b a.G (hasB a.X 4)<|zev (gAt b a.G) a.X)<|cond (ieq a.Kind 4) (chg b a.G (ztz (gAt b a.G) a.X)<|zuX (gAt b a.G) a.X)<|cond (ieq a.Kind 5) (chg b a.G (zxD<|gAt b a.G)<|zvD<|gAt b a.G)<|cond (ieq a.Kind 6) (chg b a.G (zhV (gAt b a.G).Pending a.X)<|zmK (gAt b a.G) a.X)<|cond (ieq a.Kind 7) (chg b a.G (znn ⟨a.X,a.Y,ieq a.Z 1⟩)<|zCO (gAt b a.G) ⟨a.X,a.Y,ieq a.Z 1⟩)<|cond (ieq a.Kind 8) (zoK b a.X a.Y a.Z)<|cond (ieq a.Kind 9) (zjR b a.X)<|cond (ieq a.Kind 10) (zlb b)<|cond (ieq a.Kind 11) (z0E b a.G a.X a.Y)<|b)
def zKv (b:Bare)(a:GAct):Told:=bif ieq a.Kind 1 then ⟨zh5 b a.G,0⟩ else (cond (ieq a.Kind 2) ⟨zb2 b a.G<|ztP a.X ⟨a.Y,a.Z⟩,0⟩<|cond (ieq a.Kind 3) ⟨zb2 b a.G<|hasB a.X 4,0⟩<|cond (ieq a.Kind 4) ⟨zb2 b a.G<|ztz (gAt b a.G) a.X,0⟩<|cond (ieq a.Kind 5) ⟨zb2 b a.G<|zxD<|gAt b a.G,0⟩<|cond (ieq a.Kind 6) ⟨zb2 b a.G<|zhV (gAt b a.G).Pending a.X,0⟩<|cond (ieq a.Kind 7) ⟨zb2 b a.G<|znn ⟨a.X,a.Y,ieq a.Z 1⟩,0⟩<|cond (ieq a.Kind 8) ⟨zkG b a.X a.Y a.Z,0⟩<|cond (ieq a.Kind 9) ⟨zfZ b a.X,0⟩<|cond (ieq a.Kind 10) ⟨zko b,zro b⟩<|cond (ieq a.Kind 11) ⟨zzH b a.G a.X a.Y,0⟩<|⟨zpR b a.G a.X 1,zTQ b a.G a.X⟩)
def zKw (l:List Bare)(a:GAct):List Bare:=bif zl a.Kind 1 17 then (cond (zl a.Kind 13 17) l<|cond (hasB a.M<|ln l) (up l a.M<|zKu (ix l a.M zXB) a) l) else l
def z0d (l:List Bare)(a:GAct):Told:=bif zl a.Kind 1 17 then (cond (zl a.Kind 13 17) ⟨false,0⟩<|cond (hasB a.M<|ln l) (zKv (ix l a.M zXB) a)<|cond (ieq a.Kind 10) ⟨false,-1⟩ ⟨false,0⟩) else ⟨false,0⟩
theorem zJ {i n:Int}:hasB i n=true↔0<=i/\i<n:=by unfold hasB;exact decide_eq_true_iff
theorem zdp {x a b:Int}:zl x a b=true↔a<=x/\x<=b:=by simp[zl,ige,ile]
theorem zbC {x y:Int}:ieq x y=true↔x=y:=by simp[ieq]
theorem zEB {x y:Int}:ine x y=true↔x≠y:=by simp[ine]
theorem zcf {x y:Int}:ieq x y=false↔x≠y:=by simp[ieq]
theorem zcL {a b:Bool}:(cond a b false)=true↔a=true/\b=true:=by cases a<;>simp
theorem zb4 {a:Type}(l:List a)(i:Int)(x:a):(up l i x).length=l.length:=by simp[up]
theorem zeO {a:Type}(l:List a)(i:Int)(x:a):ln (up l i x)=ln l:=by simp[up,ln]
theorem zzY {a:Type}{l:List a}{i:Int}(h:hasB i (ln l)=true)(d:a):∃k:Nat,∃b:k<l.length,i=(k:Int)/\ix l i d=l[k]:=by rw[zJ]at h;unfold ln at h;refine⟨i.toNat,by omega,by omega,?_⟩;simp[ix,List.getD,qB (show i.toNat<l.length by omega)]
theorem zol {a:Type}{l:List a}{k:Nat}(h:k<l.length)(d:a):ix l (k:Int) d=l[k]:=by simp[ix,List.getD,qB h]
theorem znv {a:Type}{l:List a}{i:Int}(h:hasB i (ln l)=true)(d:a):ix l i d∈l:=by obtain⟨k,b,_,e⟩:=zzY h d;rw[e];exact jI b
theorem zVW {a:Type}{l:List a}{x:a}(h:x∈l)(d:a):∃i,hasB i (ln l)=true/\ix l i d=x:=by obtain⟨k,b,e⟩:=List.mem_iff_getElem.1 h;exact⟨(k:Int),zJ.2 (by unfold ln;omega),(zol b d).trans e⟩
theorem zbp {a:Type}{l:List a}{i:Int}(h:hasB i (ln l)=true)(x d:a):ix (up l i x) i d=x:=by rw[zJ]at h;unfold ln at h;simp[ix,up,List.getD,show i.toNat<l.length by omega]
theorem zbD {a:Type}{l:List a}{i j:Int}(b:0<=i)(c:0<=j)(h:i≠j)(x d:a):ix (up l i x) j d=ix l j d:=by have:i.toNat≠j.toNat:=(by omega);simp[ix,up,List.getD,jC,this]
theorem z4Y {a:Type}(l:List a)(i:Int)(x y:a):up (up l i x) i y=up l i y:=by simp[up]
theorem zPP {a:Type}{l m:List a}(d:a)(h:l.length=m.length)(e:∀i,hasB i (ln l)=true->ix l i d=ix m i d):l=m:=by refine List.ext_getElem h λk b c=>?_;have:=e (k:Int) (zJ.2 (by unfold ln;omega));rwa [zol b,zol c] at this
theorem zJy {a:Type}{l:List a}{i:Int}(h:hasB i (ln l)=true)(d:a):up l i (ix l i d)=l:=by obtain⟨k,b,rfl,e⟩:=zzY h d;rw[e];simp[up]
def cPg (x:Mon)(q:Int):Nat:=x.Outer.countP λs=>ieq s.Page q
def zgz (l:List Mon)(q:Int):Nat:=(l.map λx=>cPg x q).sum
theorem zQ5 {a:Type}(P:a->Bool){l:List a}{i:Int}(h:hasB i (ln l)=true)(x d:a):(up l i x).countP P+(if P (ix l i d) then 1 else 0)=l.countP P+(if P x then 1 else 0):=by
 obtain⟨k,b,rfl,e⟩:=zzY h d;rw[e];simp only[up,kH,List.countP_set b];have:(if P l[k]=true then 1 else 0)<=l.countP P:=by
  split
  .rename_i hp;exact List.countP_pos_iff.2 ⟨l[k],jI b,hp⟩
  .omega
 omega
theorem zza {l:List Mon}{m:Int}(h:hasB m (ln l)=true)(x:Mon)(q:Int):zgz (up l m x) q+cPg (ix l m mZ) q=zgz l q+cPg x q:=by obtain⟨k,a,rfl,e⟩:=zzY h mZ;rw[e];clear h e;unfold up;simp only[kH];induction l generalizing k with|nil=>simp at a|cons y l b=>(cases k with|zero=>simp[zgz];omega|succ k=>have:=b k (by simpa using a);simp[zgz] at this ⊢;omega)
theorem zHu {l:List Mon}{m p:Int}(a:hasB m (ln l)=true)(b:hasB p (ln (ix l m mZ).Outer)=true):1<=zgz l (ix (ix l m mZ).Outer p sZ).Page:=by have d:1<=cPg (ix l m mZ) (ix (ix l m mZ).Outer p sZ).Page:=List.countP_pos_iff.2 ⟨_,znv b sZ,by simp[ieq]⟩;have:=zza a (⟨[],[],[],[],[],0,0,[],0⟩:Mon) (ix (ix l m mZ).Outer p sZ).Page;have c:cPg (⟨[],[],[],[],[],0,0,[],0⟩:Mon) (ix (ix l m mZ).Outer p sZ).Page=0:=rfl;omega
theorem z5l {l:List Mon}{m p n k:Int}{q:Int}(b:hasB m (ln l)=true)(v:hasB p (ln (ix l m mZ).Outer)=true)(u:hasB n (ln l)=true)(f:hasB k (ln (ix l n mZ).Outer)=true)(z:(ix (ix l m mZ).Outer p sZ).Page=q)(t:(ix (ix l n mZ).Outer k sZ).Page=q)(h:zgz l q<=1):m=n/\p=k:=by have c:=zJ.1 b;have d:=zJ.1 u;have i:=zJ.1 v;have g:=zJ.1 f;have B:¬ ieq q (q+1)=true:=(by simp[ieq];omega);obtain⟨y,r⟩:∃y:Mon,y.Outer=up (ix l m mZ).Outer p ⟨q+1,0⟩:=⟨{ix l m mZ with Outer:=up (ix l m mZ).Outer p ⟨q+1,0⟩},rfl⟩;have x:=zQ5 (λs=>ieq s.Page q) v (⟨q+1,0⟩:Slot) sZ;simp only[z,show ieq q q=true by simp[ieq],show ieq (q+1) q=false by simp[ieq];omega,if_true,kD,if_false] at x;have C:=zza b y q;simp only[cPg,r] at C;have D:zgz (up l m y) q=0:=(by omega);apply Classical.byContradiction;intro A;have w:1<=zgz (up l m y) q:=(by by_cases a:m=n;{subst a;have j:p≠k:=λe=>A ⟨rfl,e⟩;have:=zHu (l:=up l m y) (m:=m) (p:=k) (by rw[zeO];exact b) (by rw[zbp b,r,zeO];exact f);rw[zbp b,r,zbD i.1 g.1 j,t] at this;exact this};{have:=zHu (l:=up l m y) (m:=n) (p:=k) (by rw[zeO];exact u) (by rw[zbD c.1 d.1 a];exact f);rw[zbD c.1 d.1 a,t] at this;exact this});omega
theorem zuZ {a b c:Bool}:(cond a b c)=true↔(a=true/\b=true)\/(a=false/\c=true):=by cases a<;>simp
def SOk (s:Slot):Prop:=s=noSlot\/(0<=s.Page/\s.Page<=11/\1<=s.Rights/\s.Rights<=3)
theorem zWP {a b:Slot}(c:a.Page=b.Page)(d:a.Rights=b.Rights):a=b:=by cases a;cases b;simp_all
theorem zrd {a b:Slot}:zdJ a b=true↔a=b:=by simp only[zdJ,qE,zbC];exact⟨λh=>zWP h.1 h.2,λh=>by rw[h];exact⟨rfl,rfl⟩⟩
theorem ztk {a b:Slot}:zdJ a b=false↔a≠b:=by rw[<- Bool.not_eq_true,zrd]
theorem zZO {s:Slot}:zeP s 12=true↔SOk s:=by unfold zeP SOk;rw[zuZ,zrd,ztk];have:wsub .i64 12 1=11:=(by decide);simp only[this,zuZ,zdp];simp[igt];constructor;{rintro (h|⟨h,⟨a,b⟩,c⟩);{exact .inl h};{exact .inr ⟨a,b,c⟩}};{intro h;by_cases d:s=noSlot;{exact .inl d};{rcases h with h|⟨a,b,c⟩;{exact .inl h};{exact .inr ⟨d,⟨a,b⟩,c⟩}}}
theorem SOk.none {s:Slot}(h:SOk s)(a:s.Page = -1):s=noSlot:=by rcases h with h|h;{exact h};{omega}
theorem SOk.pos {s:Slot}(h:SOk s)(a:s.Page≠-1):0<=s.Page/\s.Page<=11/\1<=s.Rights/\s.Rights<=3:=by rcases h with h|h;{rw [h]at a;exact absurd rfl a};{exact h}
structure MOk (x:Mon):Prop where
 g1:1<=x.Guests.length
 g2:x.Guests.length<=2
 gt:x.Tables.length=x.Guests.length
 o8:x.Outer.length=8
 sl:∀s∈x.Outer,SOk s
 u8:x.Out.length=8
 d8:x.Dirty.length=8
 outs:x.Outs.length<=40
 pend:zee x.Pending=true
 tr:zl x.Traps 0 3=true
 own:zl x.Own 0 1000000000=true
 gs:∀g∈x.Guests,zes g=true
 fit:∀p,hasB p 8=true->znB (ix x.Outer p sZ) (ix x.Out p [])=true
theorem zT6 {P:Nat->Bool}:∀{n i:Nat},zpM P n i=true↔∀j,i<=j->j<i+n->P j=true
 | 0,i=>by simp[zpM];intro j a b;omega
 |n+1,i=>by rw[zpM,qE,zT6];constructor;{rintro⟨a,b⟩ j c d;by_cases e:j=i;{rw [e];exact a};{exact b j (by omega) (by omega)}};{intro h;exact⟨h i (by omega) (by omega),λj a b=>h j (by omega) (by omega)⟩}
theorem zsJ {t:List Slot}{n p:Int}:zdL t n p=true↔(∀s∈t,zeP s p=true)/\ln t=n:=by unfold zdL;rw[zcL,qM,zbC]
theorem zbax {x:Mon}:zfF x=true↔MOk x:=by unfold zfF;simp only[zcL,zdp,zbC,zsJ,zT6,qM,ile,qY];constructor;{rintro⟨⟨g,i⟩,m,⟨k,l⟩,n,q,r,e,a,b,c,d⟩;unfold ln at *;refine⟨by omega,by omega,by omega,by omega,λs f=>zZO.1 (k s f),by omega,by omega,by omega,e,zdp.2 a,zdp.2 b,c,λp t=>?_⟩;have u:=zJ.1 t;have:=d p.toNat (by omega) (by omega);unfold fits at this;rwa [show ((p.toNat:Nat):Int)=p by omega] at this};{intro h;obtain⟨g,i,m,k,l,n,q,r,e,a,b,c,d⟩:=h;unfold ln;exact⟨⟨by omega,by omega⟩,by omega,⟨λs f=>zZO.2 (l s f),by omega⟩,by omega,by omega,by omega,e,zdp.1 a,zdp.1 b,c,λj g i=>d (j:Int) (zJ.2 (by omega))⟩}
theorem zzx (o:List Slot)(s:Slot)(q:Int):(s::o).countP (λs=>ieq s.Page q)=o.countP (λs=>ieq s.Page q)+if s.Page=q then 1 else 0:=by rw[vI];simp[ieq]
theorem zAw:∀{o:List Slot} {u:List Bool},(∀s∈o,s.Page<u.length)->
 (∀c,zit o u=some c↔(∀q,0<=q->o.countP (λs=>ieq s.Page q)+(if ix u q false then 1 else 0)<=1)/\
  c=(o.foldl (λu s=>bif ilt s.Page 0 then u else up u s.Page true) u))
 |[],u,h,c=>by simp[zit];exact⟨λh=>⟨λq _=>by split<;>omega,h.symm⟩,λh=>h.2.symm⟩
 |s::o,u,h,c=>by
  unfold zit;by_cases g:s.Page<0;{have b:ilt s.Page 0=true:=qJ g;rw[b,cond_true,zAw λy d=>h y (jA _ d)];simp only[uN,b,cond_true];refine and_congr (forall_congr' λq=>forall_congr' λf=>?_) Iff.rfl;have e:(if s.Page=q then 1 else 0)=0:=if_neg (by omega);rw[zzx,e,jZ]};{have b:ilt s.Page 0=false:=qH g;have k:=h s jF;have j:hasB s.Page (ln u)=true:=zJ.2 ⟨by omega,by unfold ln;omega⟩;rw[b,cond_false];cases i:ix u s.Page false with|true=>rw[cond_true];constructor;{intro h;cases h};{rintro⟨h,_⟩;have:=h s.Page (by omega);rw[zzx,if_pos rfl,i] at this;simp at this}|false=>rw[cond_false,zAw (λy d=>by rw[zb4];exact h y (jA _ d))];simp only[uN,b,cond_false];refine and_congr (forall_congr' λq=>forall_congr' λf=>?_) Iff.rfl;rw[zzx];by_cases a:s.Page=q;{subst a;rw[zbp j,i];simp};{rw [zbD (by omega) f a,if_neg a,jZ]}}
theorem zJz:∀(o:List Slot) (u:List Bool),(o.foldl (λu s=>bif ilt s.Page 0 then u else up u s.Page true) u).length=u.length
 |[],u=>rfl
 |s::o,u=>by rw[uN,zJz];cases ilt s.Page 0<;>simp [zb4]
theorem zQu:∀(o:List Slot) (u:List Bool) (q:Int),0<=q->(∀s∈o,s.Page<u.length)->(ix (o.foldl (λu s=>bif ilt s.Page 0 then u else up u s.Page true) u) q false=true↔ix u q false=true\/1<=o.countP λs=>ieq s.Page q)
 |[],u,q,b,h=>by simp
 |s::o,u,q,b,h=>by
  rw[uN,zQu _ _ q b (λy f=>by have:=h y (jA _ f);cases ilt s.Page 0<;>simpa [zb4] using this),zzx];by_cases c:s.Page<0;{rw [show ilt s.Page 0=true from qJ c,cond_true,if_neg (by omega),jZ]};{rw [show ilt s.Page 0=false from qH c,cond_false];have e:=h s jF;have d:hasB s.Page (ln u)=true:=zJ.2 ⟨by omega,by unfold ln;omega⟩;by_cases a:s.Page=q;{subst a;rw[zbp d];simp};{rw [zbD (by omega) b a,if_neg a,jZ]}}
theorem zzU:∀{l:List Mon} {u:List Bool},u.length=12->(zky l u=true↔(∀x∈l,MOk x)/\∀q,0<=q->zgz l q+(if l≠[]/\ix u q false then 1 else 0)<=1)
 |[],u,c=>by simp[zky,zgz]
 |x::l,u,c=>by
  unfold zky;rw[zcL,zbax];constructor;{rintro⟨f,b⟩;have k:∀s∈x.Outer,s.Page<u.length:=λs n=>(by rcases f.sl s n with h|h;{rw [h,c];decide};{rw [c];omega});split at b;{rename_i B d;obtain⟨g,rfl⟩:=(zAw k B).1 d;rw[zzU (by rw[zJz,c])]at b;obtain⟨v,w⟩:=b;refine⟨by simpa using ⟨f,v⟩,λq a=>?_⟩;have z:=g q a;have i:=w q a;have m:=zQu x.Outer u q a k;simp only[zgz,jG,uL]at i ⊢;unfold cPg at i ⊢;simp only[ne_eq,reduceCtorEq,not_false_eq_true,true_and];by_cases r:l=[];{subst r;simpa using z};{simp only [r,ne_eq,not_false_eq_true,true_and]at i;by_cases j:ix (x.Outer.foldl (λu s=>bif ilt s.Page 0 then u else up u s.Page true) u) q false=true;{rw [if_pos j]at i;omega};{rw [if_neg j]at i;have p:¬ (ix u q false=true\/1<=x.Outer.countP λs=>ieq s.Page q):=λe=>j (m.2 e);rw[not_or]at p;rw[if_neg p.1];omega}}};{cases b}}
  .rintro⟨f,b⟩;have t:MOk x:=f x jF;refine⟨t,?_⟩;have k:∀s∈x.Outer,s.Page<u.length:=λs n=>by rcases t.sl s n with h|h;{rw [h,c];decide};{rw [c];omega}
   have d:=(zAw k _).2 ⟨λq a=>by
    have:=b q a;simp only[zgz,jG,uL,ne_eq,reduceCtorEq,not_false_eq_true,true_and] at this;unfold cPg at this;omega,rfl⟩
   rw[d];simp only;rw[zzU (by rw[zJz,c])];refine⟨λy A=>f y (jA _ A),λq a=>?_⟩;have g:=b q a;have m:=zQu x.Outer u q a k;simp only[zgz,jG,uL,ne_eq,reduceCtorEq,not_false_eq_true,true_and]at g ⊢;unfold cPg at g ⊢;split;{rename_i j;rcases m.1 j.2 with h|h;{rw [if_pos h]at g;omega};{omega}};{omega}
structure HOk (h:Host):Prop where
 m12:h.Memory.length=12
 pgs:∀c∈h.Memory,zc1 c=true
 n1:1<=h.Mons.length
 n3:h.Mons.length<=3
 b1:zgL h.Buffer=true
 b2:zgL h.IoBuffer=true
 mons:∀x∈h.Mons,MOk x
 uq:∀q,0<=q->zgz h.Mons q<=1
theorem zl7 {h:Host}:zb0 h=true↔HOk h:=by unfold zb0 zjP;simp only[zcL,zdp,zbC,qM];rw[zzU (by simp[rp])];have g:∀q,ix (rp 12 false) q false=false:=λq=>(by unfold ix rp;rw[kA,kG];split<;>rfl);simp only[g,kD,and_false,if_false,jZ];unfold ln;constructor;{rintro⟨⟨e,f⟩,⟨i,j⟩,a,b,c,d⟩;exact⟨by omega,e,by omega,by omega,a,b,c,d⟩};{rintro⟨e,f,i,j,a,b,c,d⟩;exact⟨⟨f,by omega⟩,⟨by omega,by omega⟩,a,b,c,d⟩}
theorem HOk.mon {h:Host}(H:HOk h){m:Int}(a:hasB m (ln h.Mons)=true):MOk (ix h.Mons m mZ):=H.mons _ (znv a _)
theorem MOk.hasO {x:Mon}(H:MOk x){p:Int}(a:hasB p 8=true):hasB p (ln x.Outer)=true:=by rw[ln,H.o8];exact a
theorem MOk.hasU {x:Mon}(H:MOk x){p:Int}(a:hasB p 8=true):hasB p (ln x.Out)=true:=by rw[ln,H.u8];exact a
theorem MOk.hasD {x:Mon}(H:MOk x){p:Int}(a:hasB p 8=true):hasB p (ln x.Dirty)=true:=by rw[ln,H.d8];exact a
theorem MOk.slot {x:Mon}(H:MOk x){p:Int}(a:hasB p 8=true):SOk (ix x.Outer p sZ):=H.sl _ (znv (H.hasO a) _)
theorem HOk.uniq {h:Host}(H:HOk h){m p n k q:Int}(a:hasB m (ln h.Mons)=true)(f:hasB p 8=true)(b:hasB n (ln h.Mons)=true)(e:hasB k 8=true)(c:(ix (ix h.Mons m mZ).Outer p sZ).Page=q)(d:(ix (ix h.Mons n mZ).Outer k sZ).Page=q)(g:0<=q):m=n/\p=k :=
 z5l a ((H.mon a).hasO f) b ((H.mon b).hasO e) c d (H.uq q g)
theorem HOk.up {h:Host}(H:HOk h){m:Int}(k:hasB m (ln h.Mons)=true){x:Mon}(l:MOk x){a:Host}(e:a.Mons=up h.Mons m x)(d:a.Memory.length=12)(f:∀c∈a.Memory,zc1 c=true)(i:zgL a.Buffer=true)(j:zgL a.IoBuffer=true)(n:∀q,0<=q->cPg x q<=cPg (ix h.Mons m mZ) q\/zgz h.Mons q=0/\cPg x q<=1):HOk a:=by refine⟨d,f,by rw[e,zb4];exact H.n1,by rw[e,zb4];exact H.n3,i,j,λy b=>?_,λq g=>?_⟩;{rw [e]at b;unfold E.up at b;rcases qZ b with h|h;{exact H.mons y h};{rw [h];exact l}};{rw [e];have p:=zza k x q;have r:=H.uq q g;have s:=n q g;omega}
structure KOk (k:Kept) (inner outer:List Slot):Prop where
 l1:k.Known.length=inner.length
 l2:k.Slots.length=inner.length
 at':∀i,hasB i (ln inner)=true->ix k.Slots i sZ=bif ix k.Known i false then zbH (ix inner i sZ) outer else noSlot
def TOk (x:Mon):Prop:=∀g,hasB g (ln x.Guests)=true->KOk (ix x.Tables g kZ) (ix x.Guests g gZ).Live x.Outer
structure Rt (h:Host):Prop where
 t:∀m,hasB m (ln h.Mons)=true->TOk (ix h.Mons m mZ)
 e1:∀e∈h.Buffer,zdM h e=true
 e2:∀e∈h.IoBuffer,zdM h e=true
structure Safe (h:Host):Prop where
 ok:HOk h
 rt:Rt h
theorem zsN {a b:Slot}:below' a b=true↔a=noSlot\/(a.Page=b.Page/\enough b.Rights a.Rights=true):=by unfold below';rw[zuZ,zrd,ztk,zcL,zbC];by_cases h:a=noSlot<;>simp [h]
theorem z4Z (x:Int):wand .i64 0 x=0:=by unfold wand;have:(BitVec.ofInt 64 0 &&& BitVec.ofInt 64 x)=0#64:=(by rw[show BitVec.ofInt 64 0=0#64 from rfl,BitVec.zero_and]);show IntKind.wrap .i64 ((BitVec.ofInt 64 0 &&& BitVec.ofInt 64 x).toNat:Int)=0;rw[this];rfl
theorem z5k {a:Slot}(h:below' a noSlot=true):a=noSlot:=by rcases zsN.1 h with h|⟨c,b⟩;{exact h};{refine zWP c ?_;unfold enough at b;rw[show noSlot.Rights=0 from rfl,z4Z]at b;simp only[zcL,zbC]at b;exact b.2.2.symm}
theorem zg2 {h:Host}{e:Entry}:zdM h e=true↔hasB (zex e.Tag) (ln h.Mons)=true/\hasB (zfp e.Tag) (ln (ix h.Mons (zex e.Tag) mZ).Guests)=true/\
 below' ⟨e.Host,e.Rights⟩ (zbH (zbK (ix (ix h.Mons (zex e.Tag) mZ).Guests (zfp e.Tag) gZ).Live e.Page) (ix h.Mons (zex e.Tag) mZ).Outer)=true:=by
 unfold zdM;rw[zcL,zcL]
theorem zRN {o:List Slot}{p q:Int}{s:Slot}(a:0<=p)(h:q≠p):zbK (up o p s) q=zbK o q:=by unfold zbK;rw[zeO];cases b:hasB q (ln o) with|false=>rfl|true=>rw[cond_true,cond_true,zbD a (zJ.1 b).1<|Ne.symm h]
theorem zKH {s:Slot}{o:List Slot}{p:Int}{t:Slot}(a:0<=p)(h:s.Page≠p):zbH s (up o p t)=zbH s o:=by unfold zbH;rw[zRN a h]
theorem z0j {s:Slot}{o:List Slot}:zbH s o=noSlot\/(zbH s o).Page=(zbK o s.Page).Page:=by unfold zbH;cases ieq s.Page (-1)<;>cases ieq (zbK o s.Page).Page (-1)<;>cases ieq (zfb s.Rights (zbK o s.Page).Rights) 0<;>simp
theorem zmE (k:Kept)(q:Int):(zcd k q).Known.length=k.Known.length/\(zcd k q).Slots.length=k.Slots.length:=by unfold zcd;cases zd8 k q<;>simp [zb4]
theorem zAY:∀(l:List Int) (k:Kept),(zfU k l).Known.length=k.Known.length/\(zfU k l).Slots.length=k.Slots.length
 |[],k=>⟨rfl,rfl⟩
 |q::l,k=>by have a:=zAY l (zcd k q);have b:=zmE k q;exact⟨a.1.trans b.1,a.2.trans b.2⟩
theorem zxw {k:Kept}{q i:Int}(d:k.Known.length=k.Slots.length)(b:hasB i (ln k.Known)=true) :
 ix (zcd k q).Known i false=(cond (ieq q i) false<|ix k.Known i false)/\ix (zcd k q).Slots i sZ=(cond (ieq q i) noSlot<|ix k.Slots i sZ):=by
 have c:hasB i (ln k.Slots)=true:=by unfold ln at b ⊢;rwa [<- d]
 unfold zcd zd8
 by_cases e:q=i
 .subst e;simp only[b,c,cond_true,ieq,beq_self_eq_true];exact⟨zbp b _ _,zbp c _ _⟩
 .rw [show ieq q i=false from zcf.2 e]
  by_cases a:hasB q (ln k.Known)=true
  .have hq':hasB q (ln k.Slots)=true:=by unfold ln at a ⊢;rwa [<- d]
   simp only[a,hq',cond_true,cond_false];exact⟨zbD (zJ.1 a).1 (zJ.1 b).1 e _ _,zbD (zJ.1 a).1 (zJ.1 b).1 e _ _⟩
  .rw [Bool.not_eq_true]at a;simp[a]
theorem zC1:∀(l:List Int) {k:Kept} {i:Int},k.Known.length=k.Slots.length->hasB i (ln k.Known)=true->
 (i∈l->ix (zfU k l).Known i false=false/\ix (zfU k l).Slots i sZ=noSlot)/\
 (i∉l->ix (zfU k l).Known i false=ix k.Known i false/\ix (zfU k l).Slots i sZ=ix k.Slots i sZ)
 |[],k,i,d,c=>⟨λh=>by simp at h,λ_=>⟨rfl,rfl⟩⟩
 |q::l,k,i,d,c=>by have b:=zmE k q;have g:=zxw (q:=q) d c;have f:=zC1 l (k:=zcd k q) (i:=i) (by rw[b.1,b.2,d]) (by unfold ln at c ⊢;rwa [b.1]);show (_->ix (zfU (zcd k q) l).Known i false=_/\ix (zfU (zcd k q) l).Slots i sZ=_)/\(_->ix (zfU (zcd k q) l).Known i false=_/\ix (zfU (zcd k q) l).Slots i sZ=_);by_cases a:i∈l;{refine⟨λ_=>f.1 a,λh=>absurd (jA _ a) h⟩};{rw [(f.2 a).1,(f.2 a).2,g.1,g.2];by_cases e:q=i;{subst e;simp[ieq]};{rw [zcf.2 e];simp[a,Ne.symm e]}}
theorem zIJ {e:Type}{P:e->Bool}{d:e}:∀{l:List e} {n:Nat} {i:Int},i∈idxs P l n↔∃k:Nat,∃h:k<l.length,i=((n+k:Nat):Int)/\P l[k]=true
 |[],n,i=>by simp[idxs]
 |x::l,n,i=>by
  have g:=@zIJ e P d l (n+1) i;unfold idxs;constructor
  .intro h;cases f:P x with
   |true=>rw[f,cond_true,qG]at h;rcases h with h|h;{exact⟨0,by simp,by simpa using h,f⟩};{obtain⟨k,c,b,a⟩:=g.1 h;exact⟨k+1,by simpa using c,by rw[b];congr 1;omega,by simpa using a⟩}
   |false=>rw[f,cond_false]at h;obtain⟨k,c,b,a⟩:=g.1 h;exact⟨k+1,by simpa using c,by rw[b];congr 1;omega,by simpa using a⟩
  {rintro⟨k,c,b,a⟩;cases k with|zero=>simp only[List.getElem_cons_zero]at a;rw[a,cond_true,b];exact jF|succ k=>have:=g.2 ⟨k,by simpa using c,by rw[b];congr 1;omega,by simpa using a⟩;cases P x;{exact this};{exact jA _ this}}
theorem zXz {l:List Slot}{p i:Int}:i∈zEh l p↔hasB i (ln l)=true/\(ix l i sZ).Page=p:=by unfold zEh;rw[zIJ (d:=sZ)];constructor;{rintro⟨k,a,rfl,c⟩;rw[j5,zol a];exact⟨zJ.2 (by unfold ln;omega),zbC.1 c⟩};{rintro⟨a,b⟩;obtain⟨k,f,rfl,e⟩:=zzY a sZ;exact⟨k,f,by simp,by rw[e]at b;exact zbC.2 b⟩}
theorem z00 {k:Kept}{a b:List Slot}(h:KOk k a b){p:Int}(j:0<=p)(s:Slot):KOk (zlf k a p) a (up b p s):=by have g:=zAY (zEh a p) k;refine⟨g.1.trans h.l1,g.2.trans h.l2,λi d=>?_⟩;have e:hasB i (ln k.Known)=true:=(by unfold ln at d ⊢;rwa [h.l1]);have f:=zC1 (zEh a p) (by rw[h.l1,h.l2]) e;unfold zlf;by_cases c:(ix a i sZ).Page=p;{have:=f.1 (zXz.2 ⟨d,c⟩);rw[this.1,this.2];rfl};{have:=f.2 (λh=>c (zXz.1 h).2);rw[this.1,this.2,h.at' i d,zKH j c]}
theorem zEa (b:List Guest)(p:Int):∀(n:Nat) (a:List Kept),(zlI b p n a).length=a.length
 | 0,a=>rfl
 |n+1,a=>by rw[zlI,zb4,zEa b p n]
theorem zQb (b:List Guest)(p:Int):∀(n:Nat) (a:List Kept),n<=a.length->∀i,0<=i->ix (zlI b p n a) i kZ=if i<n then zlf (ix a i kZ) (ix b i gZ).Live p else ix a i kZ
 | 0,a,_,i,c=>by rw[if_neg (by omega)];rfl
 |n+1,a,d,i,c=>by rw[zlI];by_cases e:i=n;{subst e;rw[zbp (by rw[ln,zEa];exact zJ.2 (by omega)),if_pos (by omega),zQb b p n a (by omega) _ c,if_neg (by omega)]};{rw [zbD (by omega) c<|Ne.symm e,zQb b p n a (by omega) i c];by_cases h:i<n;{rw [if_pos h,if_pos (by omega)]};{rw [if_neg h,if_neg (by omega)]}}
def zlH (x:Mon)(p:Int)(s:Slot):Mon:={zjw x p x.Tables.length with Outer:=up x.Outer p s}
theorem z4L {x:Mon}(h:TOk x)(c:x.Tables.length=x.Guests.length){p:Int}(b:0<=p)(s:Slot):TOk (zlH x p s):=by intro g hg;have a:hasB g (ln x.Guests)=true:=hg;show KOk (ix (zlI x.Guests p x.Tables.length x.Tables) g kZ) (ix x.Guests g gZ).Live (up x.Outer p s);rw[zQb _ _ _ _ (qX _) _ (zJ.1 a).1,if_pos (by have:=zJ.1 a;unfold ln at this;omega)];exact z00 (h g a) b s
theorem ztS (h:Host)(m p:Int)(s:Slot):(zcI h m p s).Mons=up h.Mons m (zlH (ix h.Mons m mZ) p s):=by unfold zcI;cases ine (ix (ix h.Mons m zh).Outer p zV).Page (-1)<;>rfl
theorem zxP (h:Host)(m p:Int)(s:Slot):(zcI h m p s).Memory=h.Memory:=by unfold zcI;cases ine (ix (ix h.Mons m zh).Outer p zV).Page (-1)<;>rfl
theorem zRP (h:Host)(m p:Int)(s:Slot):(zcI h m p s).Buffer=(cond (ieq (ix (ix h.Mons m mZ).Outer p sZ).Page<|-1) h.Buffer<|flushed h.Buffer (ix (ix h.Mons m mZ).Outer p sZ).Page)/\
 (zcI h m p s).IoBuffer=(cond (ieq (ix (ix h.Mons m mZ).Outer p sZ).Page<|-1) h.IoBuffer<|flushed h.IoBuffer (ix (ix h.Mons m mZ).Outer p sZ).Page):=by
 unfold zcI
 by_cases e:(ix (ix h.Mons m zh).Outer p zV).Page = -1
 .rw [show ine (ix (ix h.Mons m zh).Outer p zV).Page (-1)=false by simp[ine,e],show ieq (ix (ix h.Mons m mZ).Outer p sZ).Page (-1)=true from zbC.2 e]
  exact⟨rfl,rfl⟩
 .rw [show ine (ix (ix h.Mons m zh).Outer p zV).Page (-1)=true from zEB.2 e,show ieq (ix (ix h.Mons m mZ).Outer p sZ).Page (-1)=false from zcf.2 e]
  exact⟨rfl,rfl⟩
theorem zKN {h k:Host}{m p:Int}{s:Slot}(n:hasB m (ln h.Mons)=true)(q:hasB p (ln (ix h.Mons m mZ).Outer)=true){x:Mon}(u:k.Mons=up h.Mons m x)(t:x.Guests=(ix h.Mons m mZ).Guests)(v:x.Outer=up (ix h.Mons m mZ).Outer p s){e:Entry}(w:zdM h e=true)(c:(ix (ix h.Mons m mZ).Outer p sZ).Page = -1\/e.Host≠(ix (ix h.Mons m mZ).Outer p sZ).Page):zdM k e=true:=by obtain⟨f,g,b⟩:=zg2.1 w;rw[zg2,u,zeO];refine⟨f,?_⟩;by_cases l:m=zex e.Tag;{rw [<- l]at f g b ⊢;rw[zbp n,t,v];refine⟨g,?_⟩;by_cases j:(zbK (ix (ix h.Mons m mZ).Guests (zfp e.Tag) gZ).Live e.Page).Page=p;{have a:zbH (zbK (ix (ix h.Mons m mZ).Guests (zfp e.Tag) gZ).Live e.Page) (ix h.Mons m mZ).Outer=noSlot\/e.Host≠(zbH (zbK (ix (ix h.Mons m mZ).Guests (zfp e.Tag) gZ).Live e.Page) (ix h.Mons m mZ).Outer).Page:=(by rcases z0j (s:=zbK (ix (ix h.Mons m mZ).Guests (zfp e.Tag) gZ).Live e.Page) (o:=(ix h.Mons m mZ).Outer) with d|d;{exact .inl d};{rw [j]at d;have r:zbK (ix h.Mons m mZ).Outer p=ix (ix h.Mons m mZ).Outer p sZ:=(by unfold zbK;rw[q];rfl);rw[r]at d;rcases c with c|c;{left;unfold zbH;rw[j,r,c,show ieq (-1) (-1)=true from rfl];cases ieq p (-1)<;>rfl};{exact .inr (by rw[d];exact c)}});have i:(⟨e.Host,e.Rights⟩:Slot)=noSlot:=(by rcases a with a|a;{rw [a]at b;exact z5k b};{rcases zsN.1 b with h|h;{exact h};{exact absurd h.1 a}});rw[i];exact zsN.2 (.inl rfl)};{rw [zKH (zJ.1 q).1 j];exact b}};{rw [zbD (zJ.1 n).1 (zJ.1 f).1 l];exact⟨g,b⟩}
theorem zAd {h:Host}(H:Rt h){m p:Int}(d:hasB m (ln h.Mons)=true)(q:hasB p (ln (ix h.Mons m mZ).Outer)=true)(u:(ix h.Mons m mZ).Tables.length=(ix h.Mons m mZ).Guests.length)(s:Slot):Rt (zcI h m p s):=by have c:=zRP h m p s;have i:=ztS h m p s;have f:∀(b:List Entry),(∀e∈b,zdM h e=true)->∀e∈(cond (ieq (ix (ix h.Mons m mZ).Outer p sZ).Page<|-1) b<|flushed b (ix (ix h.Mons m mZ).Outer p sZ).Page),zdM (zcI h m p s) e=true:=(by intro b c e a;by_cases n:(ix (ix h.Mons m mZ).Outer p sZ).Page = -1;{rw [zbC.2 n,cond_true]at a;exact zKN d q i rfl rfl (c e a) (.inl n)};{rw [zcf.2 n,cond_false]at a;obtain⟨j,l⟩:=List.mem_filter.1 a;exact zKN d q i rfl rfl (c e j) (.inr (by simpa [ieq] using l))});refine⟨λk g=>?_,λe a=>f _ H.e1 e (by rwa [c.1]at a),λe a=>f _ H.e2 e (by rwa [c.2]at a)⟩;rw[i]at g ⊢;rw[zeO]at g;by_cases r:m=k;{subst r;rw[zbp d];exact z4L (H.t m d) u (zJ.1 q).1 s};{rw [zbD (zJ.1 d).1 (zJ.1 g).1 r];exact H.t k g}
theorem zQY:∀(l a:List Entry),allI (alone<|a++l) l a.length=true↔(∀x∈l,∀y∈a,sameKey x y=false)/\l.Pairwise (λy x=>sameKey x y=false)
 |[],a=>by simp[allI]
 |x::l,a=>by have g:=zQY l (a++[x]);rw[kB,List.singleton_append,kC,uB] at g;rw[allI,qE,g,List.pairwise_cons];have h:alone (a++x::l) a.length x=true↔∀y∈a,sameKey x y=false:=(by unfold alone;rw[kP rfl,qM];simp);rw[h];constructor;{rintro⟨d,e,f⟩;refine⟨λz c y b=>?_,λz c=>e z c x (by simp),f⟩;rcases qG.1 c with rfl|c;{exact d y b};{exact e z c y (by simp[b])}};{rintro⟨d,e,f⟩;refine⟨λy b=>d x (by simp) y b,λz c y b=>?_,f⟩;rcases jN.1 b with b|b;{exact d z (by simp[c]) y b};{rw [qF.1 b];exact e z c}}
theorem zEm {l:List Entry}:zgL l=true↔l.Pairwise (λy x=>sameKey x y=false)/\l.length<=6:=by unfold zgL;have:=zQY l [];simp only[jS,uM] at this;have a:ile (ln l) 6=true↔l.length<=6:=(by rw[ile,qY,ln];omega);rw[zcL,this,a];simp
theorem zzw {l:List Entry}(h:zgL l=true)(P:Entry->Bool):zgL (l.filter P)=true:=by rw[zEm]at h ⊢;exact⟨h.1.sublist List.filter_sublist,qU (uD _ _) h.2⟩
theorem zGC {l:List Entry}(h:zgL l=true)(p:Int):zgL (flushed l p)=true:=zzw h _
theorem zUd {x x':Mon}{p:Int}(a:hasB p (ln x.Outer)=true){s:Slot}(h:x'.Outer=up x.Outer p s)(q:Int):cPg x' q+(if (ix x.Outer p sZ).Page=q then 1 else 0)=cPg x q+(if s.Page=q then 1 else 0):=by have:=zQ5 (λs=>ieq s.Page q) a s sZ;simp only[zbC] at this;unfold cPg;rw[h];exact this
theorem zrx {s:Slot}(d:SOk s){c:List Int}:znB s c=true↔(s.Page = -1->zc1 c=true)/\(s.Page≠-1->enough s.Rights 1=true/\c=[]):=by unfold znB;by_cases e:s=noSlot;{rw [zrd.2 e,cond_true,e];simp[noSlot]};{rw [ztk.2 e,cond_false,zcL];have:s.Page≠-1:=λh=>e (d.none h);have b:ile (ln c) 0=true↔c=[]:=(by rw[ile,qY,ln,<- uU];omega);rw[b];exact⟨λh=>⟨λa=>absurd a this,λ_=>h⟩,λh=>h.2 this⟩}
structure Chg (x x':Mon) (p:Int) (s:Slot) (c:List Int):Prop where
 o:x'.Outer=up x.Outer p s
 u:x'.Out=up x.Out p c
 g:x'.Guests=x.Guests
 t:x'.Tables.length=x.Tables.length
 d:x'.Dirty.length=x.Dirty.length
 a1:x'.Outs=x.Outs
 a2:x'.Pending=x.Pending
 a3:x'.Traps=x.Traps
 a4:x'.Own=x.Own
theorem MOk.chg {x i:Mon}(H:MOk x){p:Int}(a:hasB p 8=true){s:Slot}{c:List Int}(k:Chg x i p s c)(l:SOk s)(j:znB s c=true):MOk i:=by refine⟨by rw[k.g];exact H.g1,by rw[k.g];exact H.g2,by rw[k.t,k.g];exact H.gt,by rw[k.o,zb4];exact H.o8,λy f=>?_,by rw[k.u,zb4];exact H.u8,by rw[k.d];exact H.d8,by rw[k.a1];exact H.outs,by rw[k.a2];exact H.pend,by rw[k.a3];exact H.tr,by rw[k.a4];exact H.own,by rw[k.g];exact H.gs,λq b=>?_⟩;{rw [k.o]at f;rcases qZ f with h|h;{exact H.sl y h};{rw [h];exact l}};{rw [k.o,k.u];by_cases e:p=q;{subst e;rw[zbp<|H.hasO a,zbp<|H.hasU a];exact j};{rw [zbD (zJ.1 a).1 (zJ.1 b).1 e,zbD (zJ.1 a).1 (zJ.1 b).1 e];exact H.fit q b}}
structure Like (h r:Host):Prop where
 len:r.Mons.length=h.Mons.length
 g:∀i,hasB i (ln h.Mons)=true->(ix r.Mons i mZ).Guests=(ix h.Mons i mZ).Guests
 o:∀i,hasB i (ln h.Mons)=true->(ix r.Mons i mZ).Outs=(ix h.Mons i mZ).Outs
 p:∀i,hasB i (ln h.Mons)=true->(ix r.Mons i mZ).Pending=(ix h.Mons i mZ).Pending
 tr:∀i,hasB i (ln h.Mons)=true->(ix r.Mons i mZ).Traps=(ix h.Mons i mZ).Traps
 ow:∀i,hasB i (ln h.Mons)=true->(ix r.Mons i mZ).Own=(ix h.Mons i mZ).Own
 pg:∀i k,hasB i (ln h.Mons)=true->hasB k 8=true->zc0 r i k=zc0 h i k
theorem Like.refl (h:Host):Like h h:=⟨rfl,λ_ _=>rfl,λ_ _=>rfl,λ_ _=>rfl,λ_ _=>rfl,λ_ _=>rfl,λ_ _ _ _=>rfl⟩
theorem Like.trans {a b c:Host}(x:Like a b)(y:Like b c):Like a c:=by have k:∀i,hasB i (ln a.Mons)=true->hasB i (ln b.Mons)=true:=λi e=>(by unfold ln at e ⊢;rwa [x.len]);exact⟨y.len.trans x.len,λi h=>(y.g i<|k i h).trans (x.g i h),λi h=>(y.o i<|k i h).trans (x.o i h),λi h=>(y.p i<|k i h).trans (x.p i h),λi h=>(y.tr i<|k i h).trans (x.tr i h),λi h=>(y.ow i<|k i h).trans (x.ow i h),λi q h d=>(y.pg i q (k i h) d).trans (x.pg i q h d)⟩
theorem Like.has {h r:Host}(k:Like h r){i:Int}:hasB i (ln r.Mons)=hasB i (ln h.Mons):=by unfold ln;rw[k.len]
theorem zse {h r:Host}{m:Int}:∀(n i:Nat),(∀k:Nat,i<=k->k<i+n->zc0 r m (k:Int)=zc0 h m (k:Int))->zc6 r m n i=zc6 h m n i
 | 0,i,_=>rfl
 |n+1,i,h=>by rw[zc6,zc6,h i (by omega) (by omega),zse n (i+1) λk a b=>h k (by omega) (by omega)]
theorem Like.seen {h r:Host}(k:Like h r)(m:Int):zC r m=zC h m:=by unfold zC;rw[k.has];cases a:hasB m (ln h.Mons) with|false=>rfl|true=>simp only[cond_true];rw[k.g m a,k.o m a,k.p m a,zse 8 0 λj b c=>k.pg m j a (zJ.2 (by omega))]
theorem zpz {h:Host}{m p:Int}(a:hasB m (ln h.Mons)=true)(c:hasB p 8=true)(b:hasB p (ln (ix h.Mons m mZ).Outer)=true) :
 zc0 h m p=bif ieq (ix (ix h.Mons m mZ).Outer p sZ).Page (-1) then zc5 (ix h.Mons m mZ).Out p else zc5 h.Memory (ix (ix h.Mons m mZ).Outer p sZ).Page:=by
 unfold zc0;have:zbK (ix h.Mons m mZ).Outer p=ix (ix h.Mons m mZ).Outer p sZ:=by unfold zbK;rw[b];rfl
 rw[a,c,cond_true,cond_true,this]
 by_cases e:(ix (ix h.Mons m mZ).Outer p sZ).Page = -1
 .rw [zbC.2 e,show ine (ix (ix h.Mons m mZ).Outer p sZ).Page (-1)=false by simp[ine,e]];rfl
 .rw [zcf.2 e,show ine (ix (ix h.Mons m mZ).Outer p sZ).Page (-1)=true from zEB.2 e];rfl
theorem zmQ {m:List (List Int)}{p:Int}(h:hasB p (ln m)=true):zc5 m p=ix m p []:=by unfold zc5;rw[h];rfl
theorem zRA {m:List (List Int)}(h:∀c∈m,zc1 c=true)(p:Int):zc1 (zc5 m p)=true:=by unfold zc5;cases a:hasB p (ln m) with|false=>rfl|true=>exact h _ (znv a _)
theorem zxf {h r:Host}(H:HOk h){m p:Int}(b:hasB m (ln h.Mons)=true)(i:hasB p 8=true){x:Mon}{s:Slot}{c:List Int}(n:r.Mons=up h.Mons m x)(k:Chg (ix h.Mons m mZ) x p s c)(u:SOk s)(t:znB s c=true)(f:r.Memory.length=12)(g:∀c∈r.Memory,zc1 c=true)(j:zgL r.Buffer=true)(l:zgL r.IoBuffer=true)(v:0<=s.Page->s.Page=(ix (ix h.Mons m mZ).Outer p sZ).Page\/zgz h.Mons s.Page=0):HOk r:=by refine H.up b ((H.mon b).chg i k u t) n f g j l λq z=>?_;have d:=zUd ((H.mon b).hasO i) k.o q;by_cases e:s.Page=q;{have a:=v (by omega);rw[if_pos e]at d;rcases a with a|a;{rw [if_pos (by omega)]at d;left;omega};{right;rw[e] at a;refine⟨a,?_⟩;have:=zza b x q;have y:cPg (ix h.Mons m mZ) q<=zgz h.Mons q:=(by have:=zza b (⟨[],[],[],[],[],0,0,[],0⟩:Mon) q;have w:cPg (⟨[],[],[],[],[],0,0,[],0⟩:Mon) q=0:=rfl;omega);omega}};{rw [if_neg e]at d;left;split at d<;>omega}
theorem zwE {h r:Host}(H:HOk h){m p:Int}(a:hasB m (ln h.Mons)=true)(y:hasB p 8=true){x:Mon}{s:Slot}{c:List Int}(n:r.Mons=up h.Mons m x)(k:Chg (ix h.Mons m mZ) x p s c)(B:(cond (ieq s.Page<|-1) c<|zc5 r.Memory s.Page)=zc0 h m p)(f:∀i q,hasB i (ln h.Mons)=true->hasB q 8=true->¬ (i=m/\q=p)->(ix (ix h.Mons i mZ).Outer q sZ).Page≠-1->zc5 r.Memory (ix (ix h.Mons i mZ).Outer q sZ).Page=zc5 h.Memory (ix (ix h.Mons i mZ).Outer q sZ).Page):Like h r:=by have l:=(zJ.1 a).1;have t:=(zJ.1 y).1;have e:∀{C:Type} (F:Mon->C),F x=F (ix h.Mons m mZ)->∀i,hasB i (ln h.Mons)=true->F (ix r.Mons i mZ)=F (ix h.Mons i mZ):=(by intro C F D i d;rw[n];by_cases e:m=i;{subst e;rw[zbp a];exact D};{rw [zbD l (zJ.1 d).1 e]});refine⟨by rw[n,zb4],e Mon.Guests k.g,e Mon.Outs k.a1,e Mon.Pending k.a2,e Mon.Traps k.a3,e Mon.Own k.a4,λi q d b=>?_⟩;have A:hasB i (ln r.Mons)=true:=(by rw[n,zeO];exact d);have w:=(H.mon d).hasO b;have z:hasB q (ln (ix r.Mons i mZ).Outer)=true:=(by rw[n];by_cases e:m=i;{subst e;rw[zbp a,k.o,zeO];exact w};{rw [zbD l (zJ.1 d).1 e];exact w});rw[zpz A b z];by_cases e:m=i;{subst e;rw[n,zbp a,k.o,k.u];by_cases v:p=q;{subst v;rw[zbp<|(H.mon a).hasO y,<- B];cases ieq s.Page (-1);{rfl};{rw [cond_true,cond_true,zmQ (by rw[zeO];exact(H.mon a).hasU y),zbp<|(H.mon a).hasU y]}};{rw [zbD t (zJ.1 b).1 v,zpz a b w];by_cases j:(ix (ix h.Mons m mZ).Outer q sZ).Page = -1;{rw [zbC.2 j,cond_true,cond_true,zmQ (by rw[zeO];exact(H.mon a).hasU b),zmQ<|(H.mon a).hasU b,zbD t (zJ.1 b).1 v]};{rw [zcf.2 j,cond_false,cond_false,f m q a b (λh=>v h.2.symm) j]}}};{rw [n,zbD l (zJ.1 d).1 e,zpz d b w];by_cases j:(ix (ix h.Mons i mZ).Outer q sZ).Page = -1;{rw [zbC.2 j,cond_true,cond_true]};{rw [zcf.2 j,cond_false,cond_false,f i q d b (λh=>e h.1.symm) j]}}
structure Op (h r:Host):Prop where
 ok:HOk r
 like:Like h r
 rt:Rt h->Rt r
theorem Op.refl {h:Host}(H:HOk h):Op h h:=⟨H,Like.refl h,id⟩
theorem Op.trans {a b c:Host}(x:Op a b)(y:Op b c):Op a c:=⟨y.ok,x.like.trans y.like,λh=>y.rt (x.rt h)⟩
theorem Op.safe {h r:Host}(k:Op h r)(s:Safe h):Safe r:=⟨k.ok,k.rt s.rt⟩
theorem zMP {h r:Host}(H:Rt h){m:Int}(l:hasB m (ln h.Mons)=true){x:Mon}(u:r.Mons=up h.Mons m x)(q:r.Buffer=h.Buffer)(s:r.IoBuffer=h.IoBuffer)(y:x.Guests.length=(ix h.Mons m mZ).Guests.length)(w:∀g,hasB g (ln (ix h.Mons m mZ).Guests)=true->(ix x.Guests g gZ).Live=(ix (ix h.Mons m mZ).Guests g gZ).Live)(z:x.Tables=(ix h.Mons m mZ).Tables)(v:x.Outer=(ix h.Mons m mZ).Outer):Rt r:=by have d:=(zJ.1 l).1;have hg:∀g,hasB g (ln x.Guests)=hasB g (ln (ix h.Mons m mZ).Guests):=λg=>(by unfold ln;rw[y]);have f:∀e,zdM h e=true->zdM r e=true:=(by intro e c;obtain⟨n,i,p⟩:=zg2.1 c;rw[zg2,u,zeO];refine⟨n,?_⟩;by_cases b:m=zex e.Tag;{rw [<- b]at n i p ⊢;rw[zbp l,hg,w _ i,v];exact⟨i,p⟩};{rw [zbD d (zJ.1 n).1 b];exact⟨i,p⟩});refine⟨λk j=>?_,λe c=>f e (H.e1 e (by rwa [q]at c)),λe c=>f e (H.e2 e (by rwa [s]at c))⟩;rw[u]at j ⊢;rw[zeO]at j;by_cases b:m=k;{subst b;rw[zbp l];intro g a;rw[hg]at a;rw[z,w g a,v];exact H.t m l g a};{rw [zbD d (zJ.1 j).1 b];exact H.t k j}
theorem zre {h a:Host}{m p:Int}{s:Slot}{x:Mon}(b:hasB m (ln h.Mons)=true)(e:a.Mons=up h.Mons m x):(zcI a m p s).Mons=up h.Mons m (zlH x p s):=by rw[ztS,e,zbp b,z4Y]
theorem zCL {x a:Mon}{p:Int}{s:Slot}{c:List Int}(h:a.Outer=x.Outer)(j:a.Out=up x.Out p c)(hg:a.Guests=x.Guests)(i:a.Tables=x.Tables)(g:a.Dirty.length=x.Dirty.length)(b:a.Outs=x.Outs)(d:a.Pending=x.Pending)(e:a.Traps=x.Traps)(f:a.Own=x.Own):Chg x (zlH a p s) p s c :=
 ⟨by show up a.Outer p s=_;rw[h],j,hg,by show (zlI a.Guests p a.Tables.length a.Tables).length=_;rw[zEa,i],g,b,d,e,f⟩
theorem zvV {h:Host}{m p:Int}{s:Slot}(a:zgL h.Buffer=true)(b:zgL h.IoBuffer=true):zgL (zcI h m p s).Buffer=true/\zgL (zcI h m p s).IoBuffer=true:=by have:=zRP h m p s;rw[this.1,this.2];cases ieq (ix (ix h.Mons m mZ).Outer p sZ).Page (-1);{exact⟨zGC a _,zGC b _⟩};{exact⟨a,b⟩}
theorem hasM {h:Host}(H:HOk h){s:Slot}(b:SOk s)(a:s.Page≠-1):hasB s.Page (ln h.Memory)=true:=by have:=b.pos a;exact zJ.2 ⟨this.1,by unfold ln;rw[H.m12];omega⟩
theorem zZD {h:Host}(H:HOk h){m p:Int}(b:hasB m (ln h.Mons)=true)(c:hasB p 8=true)(l:(ix (ix h.Mons m mZ).Outer p sZ).Page≠-1):Op h (zeJ h m p):=by
 have X:=H.mon b;have f:(zeJ h m p).Mons=up h.Mons m (zlH {ix h.Mons m mZ with Out:=up (ix h.Mons m mZ).Out p (zc5 h.Memory (ix (ix h.Mons m mZ).Outer p sZ).Page)} p noSlot):=zre b rfl;have k:Chg (ix h.Mons m mZ) (zlH {ix h.Mons m mZ with Out:=up (ix h.Mons m mZ).Out p (zc5 h.Memory (ix (ix h.Mons m mZ).Outer p sZ).Page)} p noSlot) p noSlot (zc5 h.Memory (ix (ix h.Mons m mZ).Outer p sZ).Page):=zCL rfl rfl rfl rfl rfl rfl rfl rfl rfl;have a:(zeJ h m p).Memory=h.Memory:=zxP _ _ _ _;have g:=zvV (h:=zga h m p) (m:=m) (p:=p) (s:=noSlot) H.b1 H.b2;refine⟨zxf H b c f k (.inl rfl) ((zrx (.inl rfl)).2 ⟨λ_=>zRA H.pgs _,λh=>absurd rfl h⟩) (by rw[a];exact H.m12) (by rw[a];exact H.pgs) g.1 g.2 λh=>absurd h (by decide),
  zwE H b c f k ?_ (λi q _ _ _ _=>by rw[a]),λR=>?_⟩
 {rw [zpz b c<|X.hasO c,zcf.2 l];rfl};{have j:Rt (zga h m p):=zMP (x:={ix h.Mons m mZ with Out:=up (ix h.Mons m mZ).Out p (zc5 h.Memory (ix (ix h.Mons m mZ).Outer p sZ).Page)}) R b rfl rfl rfl rfl (λ_ _=>rfl) rfl rfl;have d:hasB m (ln (zga h m p).Mons)=true:=(by show hasB m (ln<|up h.Mons m _)=true;rw[zeO];exact b);have e:ix (zga h m p).Mons m mZ={ix h.Mons m mZ with Out:=up (ix h.Mons m mZ).Out p (zc5 h.Memory (ix (ix h.Mons m mZ).Outer p sZ).Page)}:=zbp b _ _;exact zAd j d (by rw[e];exact X.hasO c) (by rw[e];exact X.gt) noSlot}
theorem zGI {o:List Slot}{q:Int}:zpU o q=none↔o.countP (λs=>ieq s.Page q)=0:=by unfold zpU;rw[List.findIdx?_eq_none_iff,vC];simp
theorem zXS {o:List Slot}{q:Int}{k:Nat}(h:zpU o q=some k):∃a:k<o.length,o[k].Page=q:=by unfold zpU at h;rw[u0]at h;obtain⟨a,b,_⟩:=h;exact⟨a,zbC.1 b⟩
theorem zz7 {q:Int}:∀(l:List Mon) (i:Nat),((zjQ q l i).1<0↔zgz l q=0)/\(¬ (zjQ q l i).1<0->∃a b:Nat,∃f:a<l.length,∃g:b<l[a].Outer.length,zjQ q l i=(((i+a:Nat):Int),(b:Int))/\l[a].Outer[b].Page=q)
 |[],i=>⟨by simp[zjQ,zgz],λh=>absurd (show (-1:Int)<0 by decide) h⟩
 |x::l,i=>by have j:=zz7 (q:=q) l (i+1);unfold zjQ;split;{rename_i k c;obtain⟨m,n⟩:=zXS c;refine⟨⟨λh=>by simp at h;omega,λh=>?_⟩,λ_=>⟨0,k,by simp,m,by simp,n⟩⟩;exfalso;simp only[zgz,jG,uL]at h;have d:x.Outer.countP (λs=>ieq s.Page q)=0:=(by unfold cPg at h;omega);rw[zGI.2 d]at c;cases c};{rename_i c;have d:=zGI.1 c;refine⟨?_,λh=>?_⟩;{rw [j.1];simp only[zgz,jG,uL];unfold cPg;omega};{obtain⟨a,b,f,g,e,p⟩:=j.2 h;exact⟨a+1,b,by simpa using f,by simpa using g,by rw[e];simp;omega,by simpa using p⟩}}
theorem zI6 {h:Host}{q:Int}(a:0<=q):(zbX h q).1<0↔zgz h.Mons q=0:=by unfold zbX;rw[show ilt q 0=false from qH (by omega),cond_false];exact(zz7 h.Mons 0).1
theorem z6L {h:Host}(H:HOk h){q:Int}(j:0<=q)(c:¬ (zbX h q).1<0):hasB (zbX h q).1 (ln h.Mons)=true/\hasB (zbX h q).2 8=true/\(ix (ix h.Mons (zbX h q).1 mZ).Outer (zbX h q).2 sZ).Page=q:=by unfold zbX at c ⊢;rw[show ilt q 0=false from qH (by omega),cond_false]at c ⊢;obtain⟨a,b,d,f,e,g⟩:=(zz7 h.Mons 0).2 c;rw[e,j5];have i:=(H.mons _<|jI d).o8;exact⟨zJ.2 (by unfold ln;simp;omega),zJ.2 (by simp;omega),by rw[zol d,zol f];exact g⟩
theorem zU0 {P:Nat->Bool}:∀{n i:Nat} {q:Int},q∈zxy P n i↔∃k:Nat,q=(k:Int)/\i<=k/\k<i+n/\P k=true
 | 0,i,q=>by simp[zxy];intro k _ _ _;omega
 |n+1,i,q=>by
  have d:=@zU0 P n (i+1) q;unfold zxy;constructor
  .intro h;cases c:P i with
   |true=>rw[c,cond_true,qG]at h;rcases h with h|h;{exact⟨i,h,by omega,by omega,c⟩};{obtain⟨k,a,f,g,b⟩:=d.1 h;exact⟨k,a,by omega,by omega,b⟩}
   |false=>rw[c,cond_false]at h;obtain⟨k,a,f,g,b⟩:=d.1 h;exact⟨k,a,by omega,by omega,b⟩
  {rintro⟨k,a,f,g,b⟩;by_cases e:k=i;{subst e;rw[b,cond_true,a];exact jF};{have:=d.2 ⟨k,a,by omega,by omega,b⟩;cases P i;{exact this};{exact jA _ this}}}
theorem zHO {h:Host}{q:Int}:q∈zcT h↔hasB q (ln h.Memory)=true/\zgz h.Mons q=0:=by unfold zcT;rw[zU0];constructor;{rintro⟨k,rfl,b,c,d⟩;exact⟨zJ.2 (by unfold ln;omega),(zI6 (by omega)).1 (qD d)⟩};{rintro⟨b,c⟩;have a:=zJ.1 b;unfold ln at a;refine⟨q.toNat,by omega,by omega,by omega,?_⟩;rw[show ((q.toNat:Nat):Int)=q by omega];exact qJ ((zI6 a.1).2 c)}
theorem z0P {h:Host}(a:zcT h≠[]):hasB (ix (zcT h) 0 0) (ln h.Memory)=true/\zgz h.Mons (ix (zcT h) 0 0)=0:=by refine zHO.1 (znv (zJ.2 ⟨by omega,?_⟩) 0);unfold ln;have:=kT.2 a;omega
structure But (h r:Host) (m p:Int):Prop where
 ne:∀i k,hasB i (ln h.Mons)=true->hasB k 8=true->¬ (i=m/\k=p)->ix (ix r.Mons i mZ).Outer k sZ=ix (ix h.Mons i mZ).Outer k sZ
theorem zHt {h r:Host}{m p:Int}(a:hasB m (ln h.Mons)=true)(j:hasB p 8=true){x:Mon}{s:Slot}(b:r.Mons=up h.Mons m x)(g:x.Outer=up (ix h.Mons m mZ).Outer p s):But h r m p:=by refine⟨λi k d f c=>?_⟩;rw[b];by_cases e:m=i;{subst e;rw[zbp a,g,zbD (zJ.1 j).1 (zJ.1 f).1 λe=>c ⟨rfl,e.symm⟩]};{rw [zbD (zJ.1 a).1 (zJ.1 d).1 e]}
theorem z4F {h:Host}(H:HOk h){m p:Int}(a:hasB m (ln h.Mons)=true)(c:hasB p 8=true):But h (zeJ h m p) m p/\ix (ix (zeJ h m p).Mons m mZ).Outer p sZ=noSlot:=by have b:(zeJ h m p).Mons=up h.Mons m (zlH {ix h.Mons m mZ with Out:=up (ix h.Mons m mZ).Out p (zc5 h.Memory (ix (ix h.Mons m mZ).Outer p sZ).Page)} p noSlot):=zre a rfl;refine⟨zHt a c b rfl,?_⟩;rw[b,zbp a];exact zbp ((H.mon a).hasO c) _ _
structure Roomy (h r:Host):Prop where
 op:Op h r
 free:zcT r≠[]
 sl:∀i k,hasB i (ln h.Mons)=true->hasB k 8=true->ix (ix r.Mons i mZ).Outer k sZ=ix (ix h.Mons i mZ).Outer k sZ\/ix (ix r.Mons i mZ).Outer k sZ=noSlot
 dirt:∀i,(ix r.Mons i mZ).Dirty=(ix h.Mons i mZ).Dirty
theorem zNO {h r:Host}{m:Int}(c:hasB m (ln h.Mons)=true){x:Mon}(a:r.Mons=up h.Mons m x)(b:x.Dirty=(ix h.Mons m mZ).Dirty)(i:Int):(ix r.Mons i mZ).Dirty=(ix h.Mons i mZ).Dirty:=by
 rw[a];by_cases e:i.toNat=m.toNat
 {have:∀l:List Mon,ix l i mZ=ix l m mZ:=λl=>(by unfold ix;rw[e]);rw[this,this,zbp c,b]};{unfold ix up;simp[List.getD,jC,Ne.symm e]}
theorem roomy {h:Host}(H:HOk h):Roomy h (zdX h):=by unfold zdX;by_cases b:zcT h=[];{rw [show ieq (ln<|zcT h) 0=true by rw[b];rfl,cond_true];have p:¬ (zbX h 0).1<0:=λd=>(by have:(0:Int)∈zcT h:=zHO.2 ⟨zJ.2 (by unfold ln;rw[H.m12];omega),(zI6 (by omega)).1 d⟩;rw[b] at this;cases this);obtain⟨a,c,f⟩:=z6L H (by omega) p;have k:=zZD H a c (by rw[f];decide);have j:=z4F H a c;refine⟨k,λd=>?_,λi q g r=>?_,λi=>zNO (x:=zlH {ix h.Mons (zbX h 0).1 mZ with Out:=up (ix h.Mons (zbX h 0).1 mZ).Out (zbX h 0).2 (zc5 h.Memory (ix (ix h.Mons (zbX h 0).1 mZ).Outer (zbX h 0).2 sZ).Page)} (zbX h 0).2 noSlot) a (zre a rfl) rfl i⟩;{have:(0:Int)∈zcT (zeJ h (zbX h 0).1 (zbX h 0).2):=(by refine zHO.2 ⟨zJ.2 (by unfold ln;rw[k.ok.m12];omega),?_⟩;have n:(zeJ h (zbX h 0).1 (zbX h 0).2).Mons=up h.Mons (zbX h 0).1 (zlH {ix h.Mons (zbX h 0).1 mZ with Out:=up (ix h.Mons (zbX h 0).1 mZ).Out (zbX h 0).2 (zc5 h.Memory (ix (ix h.Mons (zbX h 0).1 mZ).Outer (zbX h 0).2 sZ).Page)} (zbX h 0).2 noSlot):=zre a rfl;have l:=zza a (zlH {ix h.Mons (zbX h 0).1 mZ with Out:=up (ix h.Mons (zbX h 0).1 mZ).Out (zbX h 0).2 (zc5 h.Memory (ix (ix h.Mons (zbX h 0).1 mZ).Outer (zbX h 0).2 sZ).Page)} (zbX h 0).2 noSlot) 0;rw[<- n] at l;have m:=zUd (x':=zlH {ix h.Mons (zbX h 0).1 mZ with Out:=up (ix h.Mons (zbX h 0).1 mZ).Out (zbX h 0).2 (zc5 h.Memory (ix (ix h.Mons (zbX h 0).1 mZ).Outer (zbX h 0).2 sZ).Page)} (zbX h 0).2 noSlot) ((H.mon a).hasO c) (s:=noSlot) rfl 0;rw[if_pos f,if_neg (by decide)] at m;have t:=H.uq 0 (by omega);omega);rw[d] at this;cases this};{by_cases e:i=(zbX h 0).1/\q=(zbX h 0).2;{rw [e.1,e.2];exact .inr j.2};{exact .inl (j.1.ne i q g r e)}}};{have:ieq (ln<|zcT h) 0=false:=zcf.2 (by unfold ln;have:=kT.2 b;omega);rw[this,cond_false];exact⟨Op.refl H,b,λi k g u=>.inl rfl,λ_=>rfl⟩}
theorem zY5 {m:List (List Int)}{p:Int}{c:List Int}(b:hasB p (ln m)=true)(a:zc1 c=true):zkn m p c=up m p c:=by unfold zkn;rw[b,a];rfl
theorem zDI {m:List (List Int)}{p q:Int}{c:List Int}(a:0<=p)(h:q≠p):zc5 (up m p c) q=zc5 m q:=by unfold zc5;rw[zeO];cases b:hasB q (ln m) with|false=>rfl|true=>rw[cond_true,cond_true,zbD a (zJ.1 b).1<|Ne.symm h]
theorem zDH {m:List (List Int)}{p:Int}{c:List Int}(a:hasB p (ln m)=true):zc5 (up m p c) p=c:=by rw[zmQ (by rw[zeO];exact a),zbp a]
theorem z1l {h:Host}(H:HOk h){m p a:Int}(d:hasB m (ln h.Mons)=true)(f:hasB p 8=true)(z:(ix (ix h.Mons m mZ).Outer p sZ).Page = -1)(u:hasB a (ln h.Memory)=true)(B:zgz h.Mons a=0) :
 Op h (zgh h m p a)/\But h (zgh h m p a) m p/\ix (ix (zgh h m p a).Mons m mZ).Outer p sZ=⟨a,3⟩/\∀i,(ix (zgh h m p a).Mons i mZ).Dirty=(ix h.Mons i mZ).Dirty:=by
 have X:=H.mon d;have g:=zJ.1 u;unfold ln at g;rw[H.m12]at g;have l:(zgh h m p a).Mons=up h.Mons m (zlH {ix h.Mons m mZ with Out:=up (ix h.Mons m mZ).Out p []} p ⟨a,3⟩):=zre d rfl;have k:Chg (ix h.Mons m mZ) (zlH {ix h.Mons m mZ with Out:=up (ix h.Mons m mZ).Out p []} p ⟨a,3⟩) p ⟨a,3⟩ []:=zCL rfl rfl rfl rfl rfl rfl rfl rfl rfl;have j:=((zrx<|X.slot f).1 (X.fit p f)).1 z;have b:(zgh h m p a).Memory=up h.Memory a (ix (ix h.Mons m mZ).Out p []):=by show (zcI (landing h m p a) m p ⟨a,3⟩).Memory=_;rw[zxP];exact zY5 u j
 have A:SOk ⟨a,3⟩:=.inr ⟨g.1,by show a<=11;omega,by show (1:Int)<=3;omega,by show (3:Int)<=3;omega⟩
 have w:=zvV (h:=landing h m p a) (m:=m) (p:=p) (s:=⟨a,3⟩) H.b1 H.b2;refine⟨⟨zxf H d f l k A ((zrx A).2 ⟨λh=>absurd h (by show a≠-1;omega),λ_=>⟨show enough 3 1=true by decide,rfl⟩⟩) (by rw[b,zb4];exact H.m12) (λc r=>?_) w.1 w.2 λ_=>.inr B,
  zwE H d f l k ?_ λi q y D r C=>?_,λR=>?_⟩,zHt d f l rfl,?_,λi=>zNO (x:=zlH {ix h.Mons m mZ with Out:=up (ix h.Mons m mZ).Out p []} p ⟨a,3⟩) d l rfl i⟩
 .rw [b]at r;rcases qZ r with n|n
  .exact H.pgs c n
  .rw [n];exact j
 .rw [zpz d f<|X.hasO f,zbC.2 z,cond_true,zmQ<|X.hasU f];rw[show ieq (⟨a,3⟩:Slot).Page (-1)=false from zcf.2 (by show a≠-1;omega),cond_false,b]
  exact zDH u
 .rw [b];refine zDI g.1 (λe=>?_);have:=zHu y ((H.mon y).hasO D);rw[e] at this;omega
 .have R1:Rt (landing h m p a):=zMP (x:={ix h.Mons m mZ with Out:=up (ix h.Mons m mZ).Out p []}) R d rfl rfl rfl rfl (λ_ _=>rfl) rfl rfl;have t:hasB m (ln (landing h m p a).Mons)=true:=by show hasB m (ln<|up h.Mons m _)=true;rw[zeO];exact d
  have v:ix (landing h m p a).Mons m mZ={ix h.Mons m mZ with Out:=up (ix h.Mons m mZ).Out p []}:=zbp d _ _;exact zAd R1 t (by rw[v];exact X.hasO f) (by rw[v];exact X.gt) _
 .rw [l,zbp d];exact zbp (X.hasO f) _ _
theorem zME {h:Host}(H:HOk h){m p:Int}(f:hasB m (ln h.Mons)=true)(g:hasB p 8=true)(k:(ix (ix h.Mons m mZ).Outer p sZ).Page = -1) :
 Op h (fetched h m p)/\(∃e,0<=e/\e<=11/\ix (ix (fetched h m p).Mons m mZ).Outer p sZ=⟨e,3⟩)/\∀i,(ix (fetched h m p).Mons i mZ).Dirty=(ix h.Mons i mZ).Dirty:=by
 have R:=roomy H;have c:hasB m (ln (zdX h).Mons)=true:=by rw[R.op.like.has];exact f
 have d:(ix (ix (zdX h).Mons m mZ).Outer p sZ).Page = -1:=by rcases R.sl m p f g with b|b<;>rw [b];{exact k};{rfl}
 obtain⟨b,j⟩:=z0P R.free;obtain⟨l,r,n,q⟩:=z1l R.op.ok c g d b j;have a:=zJ.1 b;unfold ln at a;rw[R.op.ok.m12]at a;exact⟨R.op.trans l,⟨_,a.1,by omega,n⟩,λi=>(q i).trans (R.dirt i)⟩
theorem zpC {o:List Slot}{p:Int}(h:hasB p (ln o)=true):zbK o p=ix o p sZ:=by unfold zbK;rw[h];rfl
theorem zmR {h:Host}(H:HOk h){m p:Int}(a:hasB m (ln h.Mons)=true)(b:hasB p 8=true) :
 (cond (ieq (ix (ix h.Mons m mZ).Outer p sZ).Page<|-1) (ix (ix h.Mons m mZ).Out p [])<|zc5 h.Memory (ix (ix h.Mons m mZ).Outer p sZ).Page)=zc0 h m p:=by
 rw[zpz a b<|(H.mon a).hasO b,zmQ<|(H.mon a).hasU b]
structure Mark (x y:Mon):Prop where
 o:y.Outer=x.Outer
 u:y.Out=x.Out
 g:y.Guests=x.Guests
 t:y.Tables=x.Tables
 d:y.Dirty.length=x.Dirty.length
 a1:y.Outs=x.Outs
 a2:y.Pending=x.Pending
 a3:y.Traps=x.Traps
 a4:y.Own=x.Own
theorem zZC {h:Host}(H:HOk h){m:Int}(b:hasB m (ln h.Mons)=true){y:Mon}(k:Mark (ix h.Mons m mZ) y):Op h {h with Mons:=up h.Mons m y}/\∀i q,ix (ix (up h.Mons m y) i mZ).Outer q sZ=ix (ix h.Mons i mZ).Outer q sZ:=by
 have X:=H.mon b;have a:hasB 0 8=true:=(by decide);have c:Chg (ix h.Mons m mZ) y 0 (ix (ix h.Mons m mZ).Outer 0 sZ) (ix (ix h.Mons m mZ).Out 0 []):=⟨by rw[zJy<|X.hasO a,k.o],by rw[zJy<|X.hasU a,k.u],k.g,by rw[k.t],k.d,k.a1,k.a2,k.a3,k.a4⟩
 refine⟨⟨zxf H b a rfl c (X.slot a) (X.fit 0 a) H.m12 H.pgs H.b1 H.b2 λ_=>.inl rfl,zwE H b a rfl c (zmR H b a) λ_ _ _ _ _ _=>rfl,
  λR=>zMP R b rfl rfl rfl (by rw[k.g]) (λg _=>by rw[k.g]) k.t k.o⟩,λi q=>?_⟩
 by_cases e:i.toNat=m.toNat
 {have:∀l:List Mon,ix l i mZ=ix l m mZ:=λl=>(by unfold ix;rw[e]);rw[this,this,zbp b,k.o]};{have:ix (up h.Mons m y) i mZ=ix h.Mons i mZ:=(by unfold ix up;simp[List.getD,jC,Ne.symm e]);rw[this]}
theorem zMD {h:Host}(H:HOk h){m:Int}(a:hasB m (ln h.Mons)=true)(p:Int):Op h (zbP h m p)/\∀i q,ix (ix (zbP h m p).Mons i mZ).Outer q sZ=ix (ix h.Mons i mZ).Outer q sZ :=
 zZC H a ⟨rfl,rfl,rfl,rfl,zb4 _ _ _,rfl,rfl,rfl,rfl⟩
theorem z4d {h:Host}(H:HOk h){m:Int}(a:hasB m (ln h.Mons)=true)(p:Int):Op h (zn7 h m p)/\∀i q,ix (ix (zn7 h m p).Mons i mZ).Outer q sZ=ix (ix h.Mons i mZ).Outer q sZ :=
 zZC H a ⟨rfl,rfl,rfl,rfl,zb4 _ _ _,rfl,rfl,rfl,rfl⟩
theorem rights {r:Int}(a:1<=r)(b:r<=3):r=1\/r=2\/r=3:=by omega
theorem MOk.enough1 {x:Mon}(X:MOk x){p:Int}(a:hasB p 8=true)(d:(ix x.Outer p sZ).Page≠-1):(ix x.Outer p sZ).Rights=1\/(ix x.Outer p sZ).Rights=3:=by have b:=(((zrx<|X.slot a).1 (X.fit p a)).2 d).1;have c:=(X.slot a).pos d;rcases rights c.2.2.1 c.2.2.2 with e|e|e;{exact .inl e};{rw [e]at b;exact absurd b (by decide)};{exact .inr e}
theorem zRy {h:Host}(H:HOk h){m p:Int}(c:hasB m (ln h.Mons)=true)(b:hasB p 8=true)(g:(ix (ix h.Mons m mZ).Outer p sZ).Page≠-1){r:Int}(n:r=1\/r=3) :
 Op h (zcI h m p ⟨(ix (ix h.Mons m mZ).Outer p sZ).Page,r⟩)/\But h (zcI h m p ⟨(ix (ix h.Mons m mZ).Outer p sZ).Page,r⟩) m p/\
  ix (ix (zcI h m p ⟨(ix (ix h.Mons m mZ).Outer p sZ).Page,r⟩).Mons m mZ).Outer p sZ=⟨(ix (ix h.Mons m mZ).Outer p sZ).Page,r⟩/\∀i,(ix (zcI h m p ⟨(ix (ix h.Mons m mZ).Outer p sZ).Page,r⟩).Mons i mZ).Dirty=(ix h.Mons i mZ).Dirty:=by
 have X:=H.mon c;have d:=(X.slot b).pos g;have e:=ztS h m p ⟨(ix (ix h.Mons m mZ).Outer p sZ).Page,r⟩;have k:Chg (ix h.Mons m mZ) (zlH (ix h.Mons m mZ) p ⟨(ix (ix h.Mons m mZ).Outer p sZ).Page,r⟩) p ⟨(ix (ix h.Mons m mZ).Outer p sZ).Page,r⟩ (ix (ix h.Mons m mZ).Out p []):=
  zCL rfl (zJy (X.hasU b) _).symm rfl rfl rfl rfl rfl rfl rfl
 have l:SOk ⟨(ix (ix h.Mons m mZ).Outer p sZ).Page,r⟩:=.inr ⟨d.1,d.2.1,by show 1<=r;omega,by show r<=3;omega⟩
 have f:=((zrx<|X.slot b).1 (X.fit p b)).2 g;have j:=zvV (h:=h) (m:=m) (p:=p) (s:=⟨(ix (ix h.Mons m mZ).Outer p sZ).Page,r⟩) H.b1 H.b2;have a:=zxP h m p ⟨(ix (ix h.Mons m mZ).Outer p sZ).Page,r⟩;refine⟨⟨zxf H c b e k l ((zrx l).2 ⟨λh=>absurd h g,λ_=>⟨?_,f.2⟩⟩) (by rw[a];exact H.m12) (by rw[a];exact H.pgs) j.1 j.2 λ_=>.inl rfl,
  zwE H c b e k (by rw[a];exact zmR H c b) (λi q _ _ _ _=>by rw[a]),λR=>zAd R c (X.hasO b) X.gt _⟩,zHt c b e rfl,?_,λi=>zNO c e rfl i⟩
 .show enough r 1=true
  rcases n with rfl|rfl<;>decide
 .rw [e,zbp c];exact zbp (X.hasO b) _ _
structure Mended (h r:Host) (m p n:Int):Prop where
 op:Op h r
 inn:(ix (ix r.Mons m mZ).Outer p sZ).Page≠-1
 ri:ieq (wand .i64 n 2) 0=false->(ix (ix r.Mons m mZ).Outer p sZ).Rights=3
 dt:ieq (wand .i64 n 2) 0=false->ix (ix r.Mons m mZ).Dirty p false=true
 d0:ieq (wand .i64 n 2) 0=true->(ix r.Mons m mZ).Dirty=(ix h.Mons m mZ).Dirty
 dk:∀k,hasB k 8=true->k≠p->ix (ix r.Mons m mZ).Dirty k false=ix (ix h.Mons m mZ).Dirty k false
 dm:∀i,hasB i (ln h.Mons)=true->i≠m->(ix r.Mons i mZ).Dirty=(ix h.Mons i mZ).Dirty
theorem zV4 {h:Host}(H:HOk h){m p:Int}(n:Int)(c:hasB m (ln h.Mons)=true)(g:hasB p 8=true)(v:(ix (ix h.Mons m mZ).Outer p sZ).Page≠-1):Mended h (zlo h m p n) m p n:=by
 unfold zlo;cases s:ieq (wand .i64 n 2) 0 with
 |true=>exact⟨Op.refl H,v,λe=>Bool.noConfusion<|s.symm.trans e,λe=>Bool.noConfusion<|s.symm.trans e,λ_=>rfl,λ_ _ _=>rfl,λ_ _ _=>rfl⟩
 |false=>rw[cond_false];obtain⟨f,C⟩:=zMD H c p;have d:hasB m (ln (zbP h m p).Mons)=true:=(by rw[f.like.has];exact c);have a:(ix (ix (zbP h m p).Mons m mZ).Outer p sZ).Page≠-1:=(by rw[C];exact v);have u:(ix (zbP h m p).Mons m mZ).Dirty=up (ix h.Mons m mZ).Dirty p true:=(by show (ix (up h.Mons m _) m mZ).Dirty=_;rw[zbp c]);have l:∀i,hasB i (ln h.Mons)=true->i≠m->(ix (zbP h m p).Mons i mZ).Dirty=(ix h.Mons i mZ).Dirty:=λi q b=>(by show (ix (up h.Mons m _) i mZ).Dirty=_;rw[zbD (zJ.1 c).1 (zJ.1 q).1<|Ne.symm b]);have A:=(f.ok.mon d).enough1 g a;have t:∀r:Host,(∀i,(ix r.Mons i mZ).Dirty=(ix (zbP h m p).Mons i mZ).Dirty)->Op (zbP h m p) r->(ix (ix r.Mons m mZ).Outer p sZ).Page≠-1->(ix (ix r.Mons m mZ).Outer p sZ).Rights=3->Mended h r m p n:=(by intro r j x y z;refine⟨f.trans x,y,λ_=>z,λ_=>?_,λe=>Bool.noConfusion<|s.symm.trans e,λk B b=>?_,λi q b=>by rw[j,l i q b]⟩;{rw [j,u,zbp<|(H.mon c).hasD g]};{rw [j,u,zbD (zJ.1 g).1 (zJ.1 B).1<|Ne.symm b]});unfold opened;rcases A with e|e;{rw [e,show ieq (wand .i64 1 2) 0=true by decide,cond_true];obtain⟨D,F,w,E⟩:=zRy f.ok d g a (r:=3) (.inr rfl);exact t _ E D (by rw[w];exact a) (by rw[w])};{rw [e,show ieq (wand .i64 3 2) 0=false by decide,cond_false];exact t _ (λ_=>rfl) (Op.refl f.ok) a e}
theorem zRx {h:Host}(H:HOk h){m p:Int}(n:Int)(c:hasB m (ln h.Mons)=true)(d:hasB p 8=true):Mended h (mended h m p n) m p n:=by unfold mended;by_cases e:(ix (ix h.Mons m mZ).Outer p sZ).Page = -1;{rw [zbC.2 e,cond_true];obtain⟨a,⟨q,r,s,l⟩,f⟩:=zME H c d e;have K:=zV4 a.ok n (by rw[a.like.has];exact c) d (by rw[l];show q≠-1;omega);exact⟨a.trans K.op,K.inn,K.ri,K.dt,λe=>by rw[K.d0 e,f],λk j b=>by rw[K.dk k j b,f],λi g b=>by rw[K.dm i (by rw[a.like.has];exact g) b,f]⟩};{rw [zcf.2 e,cond_false];exact zV4 H n c d e}
theorem zp7 {h:Host}{m p:Int}:zb9 h m p=true↔HOk h/\hasB m (ln h.Mons)=true/\hasB p 8=true:=by unfold zb9;rw[zcL,zcL,zl7]
theorem z1m {h:Host}(H:HOk h)(m p:Int):Op h (znC h m p):=by unfold znC;cases a:zb9 h m p with|false=>exact Op.refl H|true=>obtain⟨_,b,c⟩:=zp7.1 a;rw[cond_true];unfold zjr;by_cases e:(ix (ix h.Mons m mZ).Outer p sZ).Page = -1;{rw [zbC.2 e];exact Op.refl H};{rw [zcf.2 e];exact zZD H b c e}
theorem z4c {h:Host}(H:HOk h)(m p:Int):Op h (zp8 h m p):=by unfold zp8;cases a:zb9 h m p with|false=>exact Op.refl H|true=>obtain⟨_,b,c⟩:=zp7.1 a;rw[cond_true];unfold zjr;by_cases e:(ix (ix h.Mons m mZ).Outer p sZ).Page = -1;{rw [zbC.2 e];exact(zME H b c e).1};{rw [zcf.2 e];exact Op.refl H}
theorem z4b {h:Host}(H:HOk h)(m p:Int):Op h (zpV h m p):=by unfold zpV;cases g:zb9 h m p with|false=>exact Op.refl H|true=>obtain⟨_,b,c⟩:=zp7.1 g;rw[cond_true];obtain⟨a,d⟩:=z4d H b p;(cases e:zdJ (ix (ix h.Mons m zh).Outer p zV) noSlot with|true=>exact a|false=>rw[cond_false];have i:(ix (ix h.Mons m mZ).Outer p sZ).Page≠-1:=λf=>ztk.1 e (((H.mon b).slot c).none f);have:=zRy a.ok (m:=m) (p:=p) (by rw[a.like.has];exact b) c (by rw[d];exact i) (r:=1) (.inl rfl);rw[d m p] at this;exact a.trans this.1)
structure KeepP (x y:Mon):Prop where
 o:y.Outer=x.Outer
 u:y.Out=x.Out
theorem zMI {h r:Host}{m:Int}(b:hasB m (ln h.Mons)=true){y:Mon}(c:r.Mons=up h.Mons m y)(a:r.Memory=h.Memory)(k:KeepP (ix h.Mons m mZ) y)(i q:Int):zc0 r i q=zc0 h i q:=by unfold zc0;rw[c,zeO,a];cases d:hasB i (ln h.Mons) with|false=>rfl|true=>by_cases e:m=i;{subst e;rw[zbp b,k.o,k.u]};{rw [zbD (zJ.1 b).1 (zJ.1 d).1 e]}
theorem zvQ {h r:Host}{m:Int}(b:hasB m (ln h.Mons)=true){y:Mon}(c:r.Mons=up h.Mons m y)(a:r.Memory=h.Memory)(k:KeepP (ix h.Mons m mZ) y)(i:Int) :
 zC r i=bif ieq i m then ⟨(zC h i).Memory,y.Guests,y.Outs,y.Pending⟩ else zC h i:=by
 have f:zc6 r i 8 0=zc6 h i 8 0:=zse 8 0 (λj _ _=>zMI b c a k i j);unfold zC;rw[f,c,zeO]
 by_cases e:i=m
 .subst e;rw[b,zbC.2 rfl,zbp b];rfl
 .rw [zcf.2 e,cond_false];cases d:hasB i (ln h.Mons) with
  |false=>rfl
  |true=>rw[zbD (zJ.1 b).1 (zJ.1 d).1<|Ne.symm e]
theorem zmN {x y:Mon}(X:MOk x)(k:KeepP x y)(g:y.Guests.length=x.Guests.length)(t:y.Tables.length=x.Tables.length)(d:y.Dirty.length=x.Dirty.length)(o:y.Outs.length<=40)(p:zee y.Pending=true)(tr:zl y.Traps 0 3=true)(b:zl y.Own 0 1000000000=true)(a:∀g∈y.Guests,zes g=true):MOk y :=
 ⟨by rw[g];exact X.g1,by rw[g];exact X.g2,by rw[t,g];exact X.gt,by rw[k.o];exact X.o8,by rw[k.o];exact X.sl,by rw[k.u];exact X.u8,by rw[d];exact X.d8,o,p,tr,b,a,by rw[k.o,k.u];exact X.fit⟩
theorem zUO {h:Host}(H:HOk h){m:Int}(a:hasB m (ln h.Mons)=true){y:Mon}(k:KeepP (ix h.Mons m mZ) y)(b:MOk y):HOk {h with Mons:=up h.Mons m y} :=
 H.up a b rfl H.m12 H.pgs H.b1 H.b2 λq _=>.inl (by unfold cPg;rw[k.o];exact qX _)
theorem zxc {h:Host}(S:Safe h){m:Int}(a:hasB m (ln h.Mons)=true){y:Mon}(k:KeepP (ix h.Mons m mZ) y)(d:MOk y)(hg:y.Guests.length=(ix h.Mons m mZ).Guests.length)(c:∀g,hasB g (ln (ix h.Mons m mZ).Guests)=true->(ix y.Guests g gZ).Live=(ix (ix h.Mons m mZ).Guests g gZ).Live)(b:y.Tables=(ix h.Mons m mZ).Tables):Safe {h with Mons:=up h.Mons m y} :=
 ⟨zUO S.ok a k d,zMP S.rt a rfl rfl rfl hg c b k.o⟩
theorem zTq {h:Host}(S:Safe h)(m t:Int):Safe (zjm h m t)/\∀i,zC (zjm h m t) i=zC h i:=by
 unfold zjm;rw[zl7.2 S.ok,cond_true];cases a:hasB m (ln h.Mons) with
 |false=>exact⟨S,λ_=>rfl⟩
 |true=>
  cases b:zl t 0 3 with
  |false=>exact⟨S,λ_=>rfl⟩
  |true=>have X:=S.ok.mon a;have k:KeepP (ix h.Mons m mZ) {ix h.Mons m mZ with Traps:=t}:=⟨rfl,rfl⟩;refine⟨zxc S a k (zmN X k rfl rfl rfl X.outs X.pend b X.own X.gs) rfl (λ_ _=>rfl) rfl,λi=>?_⟩;rw[cond_true,cond_true];refine(zvQ (h:=h) (r:={h with Mons:=up h.Mons m {ix h.Mons m mZ with Traps:=t}}) a rfl rfl k i).trans ?_;by_cases e:i=m;{subst e;rw[zbC.2 rfl,cond_true];unfold zC;rw[a];rfl};{rw [zcf.2 e];rfl}
theorem zGL:∀(n i:Nat) (k:Kept),(ziT n i k).Known.length=k.Known.length/\(ziT n i k).Slots.length=k.Slots.length
 | 0,i,k=>⟨rfl,rfl⟩
 |n+1,i,k=>by have a:=zGL n (i+1) (zcd k (i:Int));have b:=zmE k (i:Int);exact⟨a.1.trans b.1,a.2.trans b.2⟩
theorem zKU:∀(n i:Nat) (k:Kept),k.Known.length=k.Slots.length->∀j,hasB j (ln k.Known)=true->
 ((i:Int)<=j/\j<((i+n:Nat):Int)->ix (ziT n i k).Known j false=false/\ix (ziT n i k).Slots j sZ=noSlot)/\
 (¬ ((i:Int)<=j/\j<((i+n:Nat):Int))->ix (ziT n i k).Known j false=ix k.Known j false/\ix (ziT n i k).Slots j sZ=ix k.Slots j sZ)
 | 0,i,k,_,j,_=>⟨λh=>by omega,λ_=>⟨rfl,rfl⟩⟩
 |n+1,i,k,g,j,f=>by have b:=zmE k (i:Int);have d:=zxw (q:=(i:Int)) g f;have c:=zKU n (i+1) (zcd k (i:Int)) (by rw[b.1,b.2,g]) j (by unfold ln at f ⊢;rwa [b.1]);rw[ziT];by_cases a:((i+1:Nat):Int)<=j/\j<((i+1+n:Nat):Int);{exact⟨λ_=>c.1 a,λh=>absurd (by omega) h⟩};{rw [(c.2 a).1,(c.2 a).2,d.1,d.2];by_cases e:(i:Int)=j;{rw [zbC.2 e];exact⟨λ_=>⟨rfl,rfl⟩,λh=>absurd (by omega) h⟩};{rw [zcf.2 e];exact⟨λh=>absurd (by omega) a,λ_=>⟨rfl,rfl⟩⟩}}
theorem zSr {k:Kept}{a b:List Slot}(h:KOk k a b):KOk (ziw k) a b:=by have e:=zGL k.Known.length 0 k;refine⟨e.1.trans h.l1,e.2.trans h.l2,λi f=>?_⟩;have c:hasB i (ln k.Known)=true:=(by unfold ln at f ⊢;rwa [h.l1]);have d:=zJ.1 c;unfold ln at d;have:=(zKU k.Known.length 0 k (by rw[h.l1,h.l2]) i c).1 ⟨by omega,by omega⟩;unfold ziw;rw[this.1,this.2];rfl
theorem zKG:∀(n j:Nat) (l:List Kept),(zwe n j l).length=l.length
 | 0,_,_=>rfl
 |n+1,j,l=>by rw[zwe,zKG n,zb4]
theorem zUh:∀(n j:Nat) (l:List Kept),j+n<=l.length->∀g,0<=g->ix (zwe n j l) g kZ=if (j:Int)<=g/\g<((j+n:Nat):Int) then ziw (ix l g kZ) else ix l g kZ
 | 0,j,l,_,g,hg=>by rw[if_neg (by omega)];rfl
 |n+1,j,l,a,g,hg=>by rw[zwe,zUh n (j+1) _ (by rw[zb4];omega) g hg];by_cases e:(j:Int)=g;{subst e;rw[if_neg (by omega),if_pos (by omega),zbp<|zJ.2 ⟨by omega,by unfold ln;omega⟩]};{rw [zbD (by omega) hg e];by_cases h:((j+1:Nat):Int)<=g/\g<((j+1+n:Nat):Int);{rw [if_pos h,if_pos (by omega)]};{rw [if_neg h,if_neg (by omega)]}}
theorem zKF:∀(n i:Nat) (l:List Mon),(zoi n i l).length=l.length
 | 0,_,_=>rfl
 |n+1,i,l=>by rw[zoi,zKF n,zb4]
theorem zQ4:∀(n i:Nat) (l:List Mon),i+n<=l.length->∀m,0<=m->ix (zoi n i l) m mZ=if (i:Int)<=m/\m<((i+n:Nat):Int) then zr5 (ix l m mZ) (ix l m mZ).Tables.length 0 else ix l m mZ
 | 0,i,l,_,m,a=>by rw[if_neg (by omega)];rfl
 |n+1,i,l,b,m,a=>by rw[zoi,zQ4 n (i+1) _ (by rw[zb4];omega) m a];by_cases e:(i:Int)=m;{subst e;rw[if_neg (by omega),if_pos (by omega),zbp<|zJ.2 ⟨by omega,by unfold ln;omega⟩]};{rw [zbD (by omega) a e];by_cases h:((i+1:Nat):Int)<=m/\m<((i+1+n:Nat):Int);{rw [if_pos h,if_pos (by omega)]};{rw [if_neg h,if_neg (by omega)]}}
theorem z5r (h:Host){m:Int}(a:hasB m (ln h.Mons)=true):ix (cold h).Mons m mZ=zr5 (ix h.Mons m mZ) (ix h.Mons m mZ).Tables.length 0:=by have:=zJ.1 a;unfold ln at this;show ix (zoi h.Mons.length 0 h.Mons) m mZ=_;rw[zQ4 _ _ _ (by omega) m this.1,if_pos (by omega)]
theorem zyh (h:Host):(cold h).Mons.length=h.Mons.length:=zKF _ _ _
theorem zHw (h:Host)(m:Int):hasB m (ln (cold h).Mons)=hasB m (ln h.Mons):=by unfold ln;rw[zyh]
theorem z9M {l a:List Mon}(d:a.length=l.length)(h:∀m,hasB m (ln l)=true->(ix a m mZ).Outer=(ix l m mZ).Outer)(q:Int):zgz a q=zgz l q:=by have:a.map (λx=>cPg x q)=l.map (λx=>cPg x q):=(by refine List.ext_getElem (by simp[d]) λk b c=>?_;simp only[uO]at b c;have:=h (k:Int) (zJ.2 ⟨by omega,by unfold ln;omega⟩);rw[zol b,zol c] at this;simp[cPg,this]);unfold zgz;rw[this]
theorem zbaI {h:Host}(H:HOk h):Op h (cold h):=by have c:∀m,hasB m (ln h.Mons)=true->ix (cold h).Mons m mZ=zr5 (ix h.Mons m mZ) (ix h.Mons m mZ).Tables.length 0:=λm a=>z5r h a;have n:∀i q,zc0 (cold h) i q=zc0 h i q:=(by intro i q;unfold zc0;rw[zHw];cases b:hasB i (ln h.Mons) with|false=>rfl|true=>rw[c i b];rfl);refine⟨⟨H.m12,H.pgs,by rw[zyh];exact H.n1,by rw[zyh];exact H.n3,rfl,rfl,λy s=>?_,λq r=>?_⟩,⟨zyh h,λi b=>by rw[c i b];rfl,λi b=>by rw[c i b];rfl,λi b=>by rw[c i b];rfl,λi b=>by rw[c i b];rfl,λi b=>by rw[c i b];rfl,λi k _ _=>n i k⟩,λR=>⟨λm a=>?_,λe j=>(by cases j),λe j=>(by cases j)⟩⟩;{obtain⟨m,a,rfl⟩:=zVW s mZ;rw[zHw]at a;rw[c m a];have X:=H.mon a;have k:KeepP (ix h.Mons m mZ) (zr5 (ix h.Mons m mZ) (ix h.Mons m mZ).Tables.length 0):=⟨rfl,rfl⟩;exact zmN X k rfl (zKG _ _ _) rfl X.outs X.pend X.tr X.own X.gs};{rw [z9M (l:=h.Mons) (zyh h) (λm a=>by rw[c m a];rfl)];exact H.uq q r};{rw [zHw]at a;rw[c m a];have X:=H.mon a;intro g hg;show KOk (ix (zwe (ix h.Mons m mZ).Tables.length 0 (ix h.Mons m mZ).Tables) g kZ) (ix (ix h.Mons m mZ).Guests g gZ).Live (ix h.Mons m mZ).Outer;have d:hasB g (ln (ix h.Mons m mZ).Guests)=true:=hg;have f:=zJ.1 d;unfold ln at f;have p:=X.gt;rw[zUh _ _ _ (by omega) g f.1,if_pos (by omega)];exact zSr (R.t m a g d)}
theorem zW1 {m g:Int}(c:zl m 0 2=true)(hg:zl g 0 1=true):zex (zeW m g)=m/\zfp (zeW m g)=g/\1<=zeW m g/\zeW m g<=6:=by have d:=zdp.1 c;have e:=zdp.1 hg;have a:m=0\/m=1\/m=2:=(by omega);have b:g=0\/g=1:=(by omega);rcases a with rfl|rfl|rfl<;>rcases b with rfl|rfl<;>decide
theorem HOk.tag {h:Host}(H:HOk h){m g:Int}(a:hasB m (ln h.Mons)=true)(hg:hasB g (ln (ix h.Mons m mZ).Guests)=true):zl m 0 2=true/\zl g 0 1=true:=by have b:=zJ.1 a;have c:=zJ.1 hg;have d:=H.n3;have e:=(H.mon a).g2;unfold ln at b c;exact⟨zdp.2 (by omega),zdp.2 (by omega)⟩
theorem zhW {r:Int}:zen r=true↔r=0\/r=1\/r=2\/r=3:=by unfold zen ige ile;rw[qE,qY,qY];omega
theorem zsQ {a b:Int}(h:enough a b=true):zen a=true/\zen b=true:=by unfold enough at h;rw[zcL,zcL]at h;exact⟨h.1,h.2.1⟩
theorem zUC {a b c:Int}(d:enough a b=true)(e:enough b c=true):enough a c=true:=by have f:=zhW.1 (zsQ d).1;have g:=zhW.1 (zsQ d).2;have h:=zhW.1 (zsQ e).2;rcases f with rfl|rfl|rfl|rfl<;>rcases g with rfl|rfl|rfl|rfl<;>rcases h with rfl|rfl|rfl|rfl<;>revert d e<;>decide
theorem zXJ {a b n:Int}(g:n=1\/n=2)(c:enough a n=true)(d:enough b n=true):zfb a b≠0/\enough (zfb a b) n=true:=by have e:=zhW.1 (zsQ c).1;have f:=zhW.1 (zsQ d).1;rcases g with rfl|rfl<;>rcases e with rfl|rfl|rfl|rfl<;>rcases f with rfl|rfl|rfl|rfl<;>revert c d<;>decide
theorem both_ok (a b:Int):zen (zfb a b)=true:=by
 unfold zfb;cases c:zen a with
 |false=>rfl
 |true=>
  cases d:zen b with
  |false=>rfl
  |true=>have c:=zhW.1 c;have d:=zhW.1 d;rcases c with rfl|rfl|rfl|rfl<;>rcases d with rfl|rfl|rfl|rfl<;>decide
theorem zXQ {a:Int}(h:zen a=true):enough a a=true:=by rcases zhW.1 h with rfl|rfl|rfl|rfl<;>decide
theorem zr8 {n:Int}(a:n=1\/n=2):enough 0 n=false:=by rcases a with rfl|rfl<;>decide
theorem z0k {s:Slot}{o:List Slot}(a:s.Page≠-1)(b:(zbK o s.Page).Page≠-1):zbH s o=bif ieq (zfb s.Rights (zbK o s.Page).Rights) 0 then noSlot else ⟨(zbK o s.Page).Page,zfb s.Rights (zbK o s.Page).Rights⟩:=by unfold zbH;rw[zcf.2 a,zcf.2 b];rfl
theorem zrt {s:Slot}{o:List Slot}{n:Int}(c:n=1\/n=2)(h:enough (zbH s o).Rights n=true):s.Page≠-1/\(zbK o s.Page).Page≠-1/\(zbH s o).Page=(zbK o s.Page).Page:=by unfold zbH at h ⊢;by_cases a:s.Page = -1;{rw [zbC.2 a,cond_true]at h;rw[show noSlot.Rights=0 from rfl,zr8 c]at h;cases h};{rw [zcf.2 a,cond_false]at h ⊢;by_cases b:(zbK o s.Page).Page = -1;{rw [zbC.2 b,cond_true]at h;rw[show noSlot.Rights=0 from rfl,zr8 c]at h;cases h};{rw [zcf.2 b,cond_false]at h ⊢;by_cases d:zfb s.Rights (zbK o s.Page).Rights=0;{rw [zbC.2 d,cond_true]at h;rw[show noSlot.Rights=0 from rfl,zr8 c]at h;cases h};{rw [zcf.2 d];exact⟨a,b,rfl⟩}}}
theorem zUi {s:Slot}{o:List Slot}{n:Int}(e:n=1\/n=2)(a:s.Page≠-1)(b:(zbK o s.Page).Page≠-1)(c:enough s.Rights n=true)(d:enough (zbK o s.Page).Rights n=true) :
 (zbH s o).Page=(zbK o s.Page).Page/\enough (zbH s o).Rights n=true:=by
 have:=zXJ e c d;rw[z0k a b,zcf.2 this.1];exact⟨rfl,this.2⟩
theorem z0l (s:Slot)(o:List Slot):zen (zbH s o).Rights=true:=by unfold zbH;cases ieq s.Page (-1)<;>cases ieq (zbK o s.Page).Page (-1)<;>cases ieq (zfb s.Rights (zbK o s.Page).Rights) 0<;>first|rfl|exact both_ok _ _
theorem zzK {b:List Entry}{t p:Int}{e:Entry}:e∈zdg b t p↔e∈b/\¬ (e.Tag=t/\e.Page=p):=by unfold zdg;rw[List.mem_filter];refine and_congr Iff.rfl ?_;unfold zs9;by_cases h:e.Tag=t;{rw [show ine e.Tag t=false by simp[ine,h],cond_false,zEB];simp[h]};{rw [zEB.2 h];simp[h]}
theorem z6T {b:List Entry}{e x:Entry}(h:x∈zqa b e):x∈b\/x=e:=by unfold zqa ap at h;have:x∈zdg b e.Tag e.Page++[e]:=(by cases a:igt (ln<|zdg b e.Tag e.Page++[e]) 6 with|true=>rw[a,cond_true]at h;exact kO h|false=>rw[a,cond_false]at h;exact h);rcases jN.1 this with h|h;{exact .inl (zzK.1 h).1};{exact .inr (qF.1 h)}
theorem zbcU {n:Nat}(h:n<=100):wsub .i64 (n:Int) 6=(n:Int)-6:=by unfold wsub IntKind.wrap;simp[IntKind.signed,IntKind.bits];omega
theorem zZf {b:List Entry}(h:zgL b=true)(e:Entry):zgL (zqa b e)=true:=by have c:=zEm.1 h;have k:(zdg b e.Tag e.Page).length<=6:=qU (uD _ _) c.2;have d:(zdg b e.Tag e.Page++[e]).Pairwise (λy x=>sameKey x y=false):=(by rw[List.pairwise_append];refine⟨c.1.sublist List.filter_sublist,List.pairwise_singleton _ _,λx i y j=>?_⟩;rw[qF.1 j];have:=(zzK.1 i).2;unfold sameKey;by_cases a:e.Tag=x.Tag;{rw [zbC.2 a,cond_true,zcf];exact λf=>this ⟨a.symm,f.symm⟩};{rw [zcf.2 a];rfl});unfold zqa ap;cases g:igt (ln<|zdg b e.Tag e.Page++[e]) 6 with|true=>rw[cond_true,zEm];refine⟨d.sublist<|List.drop_sublist _ _,?_⟩;unfold dp ln;rw[kC,uB,zbcU (by omega),vM,kC,uB];omega|false=>rw[cond_false,zEm];refine⟨d,?_⟩;have:=qW g;unfold ln at this;omega
theorem z3M {h r:Host}{m:Int}(c:hasB m (ln h.Mons)=true){y:Mon}(b:r.Mons=up h.Mons m y)(a:r.Memory=h.Memory)(k:KeepP (ix h.Mons m mZ) y)(g:y.Guests=(ix h.Mons m mZ).Guests)(o:y.Outs=(ix h.Mons m mZ).Outs)(p:y.Pending=(ix h.Mons m mZ).Pending)(t:y.Traps=(ix h.Mons m mZ).Traps)(w:y.Own=(ix h.Mons m mZ).Own):Like h r:=by have e:∀{d:Type} (F:Mon->d),F y=F (ix h.Mons m mZ)->∀i,hasB i (ln h.Mons)=true->F (ix r.Mons i mZ)=F (ix h.Mons i mZ):=(by intro d F f i j;rw[b];by_cases e:m=i;{subst e;rw[zbp c];exact f};{rw [zbD (zJ.1 c).1 (zJ.1 j).1 e]});exact⟨by rw[b,zb4],e Mon.Guests g,e Mon.Outs o,e Mon.Pending p,e Mon.Traps t,e Mon.Own w,λi q _ _=>zMI c b a k i q⟩
theorem z6W {h:Host}(R:Rt h){m g:Int}(d:hasB m (ln h.Mons)=true)(r:hasB g (ln (ix h.Mons m mZ).Tables)=true){k:Kept}(u:KOk k (ix (ix h.Mons m mZ).Guests g gZ).Live (ix h.Mons m mZ).Outer) :
 Rt {h with Mons:=up h.Mons m {ix h.Mons m mZ with Tables:=up (ix h.Mons m mZ).Tables g k}}:=by
 have f:∀e,zdM h e=true->zdM {h with Mons:=up h.Mons m {ix h.Mons m mZ with Tables:=up (ix h.Mons m mZ).Tables g k}} e=true:=by intro e b;obtain⟨l,n,p⟩:=zg2.1 b;rw[zg2];show hasB (zex e.Tag) (ln<|up h.Mons m _)=true/\hasB (zfp e.Tag) (ln (ix (up h.Mons m _) (zex e.Tag) mZ).Guests)=true/\below' _ (zbH (zbK (ix (ix (up h.Mons m _) (zex e.Tag) mZ).Guests (zfp e.Tag) gZ).Live e.Page) (ix (up h.Mons m _) (zex e.Tag) mZ).Outer)=true;rw[zeO];refine⟨l,?_⟩;by_cases a:m=zex e.Tag;{rw [<- a]at l n p ⊢;rw[zbp d];exact⟨n,p⟩};{rw [zbD (zJ.1 d).1 (zJ.1 l).1 a];exact⟨n,p⟩}
 refine⟨λi s=>?_,λe b=>f e (R.e1 e b),λe b=>f e (R.e2 e b)⟩
 show TOk (ix (up h.Mons m _) i mZ)
 have c:hasB i (ln h.Mons)=true:=by have:hasB i (ln<|up h.Mons m {ix h.Mons m mZ with Tables:=up (ix h.Mons m mZ).Tables g k})=true:=s;rwa [zeO] at this
 by_cases a:m=i
 .subst a;rw[zbp d];intro j q
  by_cases e:g=j
  .subst e
   show KOk (ix (up _ g k) g kZ) _ _
   rw[zbp r];exact u
  .show KOk (ix (up _ g k) j kZ) _ _
   rw[zbD (zJ.1 r).1 (zJ.1 q).1 e];exact R.t m d j q
 .rw [zbD (zJ.1 d).1 (zJ.1 c).1 a];exact R.t i c
theorem z6I {h:Host}(H:HOk h){m g:Int}(a:hasB m (ln h.Mons)=true)(c:hasB g (ln (ix h.Mons m mZ).Tables)=true){k:Kept}(b:Rt h->KOk k (ix (ix h.Mons m mZ).Guests g gZ).Live (ix h.Mons m mZ).Outer) :
 Op h {h with Mons:=up h.Mons m {ix h.Mons m mZ with Tables:=up (ix h.Mons m mZ).Tables g k}}:=by
 have X:=H.mon a;have kp:KeepP (ix h.Mons m mZ) {ix h.Mons m mZ with Tables:=up (ix h.Mons m mZ).Tables g k}:=⟨rfl,rfl⟩;exact⟨zUO H a kp (zmN X kp rfl (zb4 _ _ _) rfl X.outs X.pend X.tr X.own X.gs),z3M (y:={ix h.Mons m mZ with Tables:=up (ix h.Mons m mZ).Tables g k}) a rfl rfl kp rfl rfl rfl rfl rfl,λR=>z6W R a c (b R)⟩
theorem zL5 {k:Kept}{a b:List Slot}(h:KOk k a b)(p:Int):KOk (filled k a b p) a b:=by unfold filled zd8;cases d:hasB p (ln k.Known) with|false=>exact h|true=>have f:hasB p (ln k.Slots)=true:=(by unfold ln at d ⊢;rw[h.l2,<- h.l1];exact d);have g:hasB p (ln a)=true:=(by unfold ln at d ⊢;rw[<- h.l1];exact d);rw[cond_true,f,cond_true,g,cond_true];refine⟨by rw[zb4];exact h.l1,by rw[zb4];exact h.l2,λi c=>?_⟩;by_cases e:p=i;{subst e;show ix (up _ p _) p sZ=bif ix (up _ p true) p false then _ else _;rw[zbp f,zbp d];rfl};{show ix (up _ p _) i sZ=bif ix (up _ p true) i false then _ else _;rw[zbD (zJ.1 f).1 (zJ.1 c).1 e,zbD (zJ.1 f).1 (zJ.1 c).1 e];exact h.at' i c}
theorem zbaJ {h:Host}(H:HOk h){m g:Int}(b:hasB m (ln h.Mons)=true)(hg:hasB g (ln (ix h.Mons m mZ).Guests)=true)(a:Int):Op h (zcW h m g a):=
 z6I H b (by unfold ln;rw[(H.mon b).gt];exact hg) λR=>zL5 (R.t m b g hg) a
theorem z2u {k:Kept}{a b:List Slot}(h:KOk k a b){p:Int}(c:hasB p (ln a)=true):zeN k p=bif ix k.Known p false then zbH (ix a p sZ) b else noSlot:=by have d:hasB p (ln k.Known)=true:=(by unfold ln at c ⊢;rw[h.l1];exact c);have e:hasB p (ln k.Slots)=true:=(by unfold ln at c ⊢;rw[h.l2];exact c);unfold zeN zlN zd8;rw[d,e,cond_true,cond_true,h.at' p c];cases ix k.Known p false<;>rfl
theorem z0c {k:Kept}{a b:List Slot}(h:KOk k a b){p:Int}(c:hasB p (ln a)=true):zeN (filled k a b p) p=zbH (ix a p sZ) b:=by rw[z2u (zL5 h p) c];have d:hasB p (ln k.Known)=true:=(by unfold ln at c ⊢;rw[h.l1];exact c);have e:hasB p (ln k.Slots)=true:=(by unfold ln at c ⊢;rw[h.l2];exact c);have:ix (filled k a b p).Known p false=true:=(by unfold filled zd8;rw[d,e,c];exact zbp d _ _);rw[this];rfl
theorem zbb0 {h:Host}(H:HOk h){m g a:Int}(i:Bool)(n:Rt h->zdM h (zTI h m g a)=true):Op h (zwQ h m g a i):=by have f:∀(j k:List Entry),Like h ⟨h.Memory,h.Mons,j,k⟩:=λ_ _=>⟨rfl,λ_ _=>rfl,λ_ _=>rfl,λ_ _=>rfl,λ_ _=>rfl,λ_ _=>rfl,λ_ _ _ _=>rfl⟩;have d:∀(b:List Entry),(∀e∈b,zdM h e=true)->Rt h->∀e∈zqa b (zTI h m g a),zdM h e=true:=(by intro b l R e c;rcases z6T c with c|c;{exact l e c};{rw [c];exact n R});unfold zwQ;cases i;{exact⟨⟨H.m12,H.pgs,H.n1,H.n3,zZf H.b1 _,H.b2,H.mons,H.uq⟩,f _ _,λR=>⟨R.t,λe c=>d _ R.e1 R e c,R.e2⟩⟩};{exact⟨⟨H.m12,H.pgs,H.n1,H.n3,H.b1,zZf H.b2 _,H.mons,H.uq⟩,f _ _,λR=>⟨R.t,R.e1,λe c=>d _ R.e2 R e c⟩⟩}
theorem z6g {b:List Entry}{t p:Int}{e:Entry}(h:zzI b t p=some e):e∈b/\e.Tag=t/\e.Page=p:=by unfold zzI at h;have a:=List.find?_some h;rw[zcL,zbC,zbC]at a;exact⟨uP h,a⟩
theorem zlM {h:Host}{m g:Int}:zcb h m g=true↔HOk h/\hasB m (ln h.Mons)=true/\hasB g (ln (ix h.Mons m mZ).Guests)=true:=by unfold zcb;rw[zcL,zcL,zl7]
structure GOk (x:Guest):Prop where
 prog:zd5 x.Prog=true
 a:zl x.A 0 99=true
 pc:zl x.Pc 0 12=true
 w:zdL x.Written 4 8=true
 l:zdL x.Live 4 8=true
 ctl:znn x.Ctl=true
 pend:zee x.Pending=true
 ex:zjL x.Exit=true
 seen:ile (ln x.Seen) 40=true
theorem zuF {x:Guest}:zes x=true↔GOk x:=by unfold zes;simp only[qE];exact⟨λ⟨a,b,c,d,e,f,g,h,i⟩=>⟨a,b,c,d,e,f,g,h,i⟩,λ⟨a,b,c,d,e,f,g,h,i⟩=>⟨a,b,c,d,e,f,g,h,i⟩⟩
theorem z4K {s:Slot}:zeP s 8=true↔s=noSlot\/(0<=s.Page/\s.Page<=7/\1<=s.Rights/\s.Rights<=3):=by unfold zeP;rw[zuZ,zrd,ztk];have:wsub .i64 8 1=7:=(by decide);simp only[this,zuZ,zdp];simp[igt];constructor;{rintro (h|⟨h,⟨a,b⟩,c⟩);{exact .inl h};{exact .inr ⟨a,b,c⟩}};{intro h;by_cases d:s=noSlot;{exact .inl d};{rcases h with h|⟨a,b,c⟩;{exact .inl h};{exact .inr ⟨d,⟨a,b⟩,c⟩}}}
theorem HOk.guest {h:Host}(H:HOk h){m g:Int}(a:hasB m (ln h.Mons)=true)(hg:hasB g (ln (ix h.Mons m mZ).Guests)=true):GOk (ix (ix h.Mons m mZ).Guests g gZ):=zuF.1 ((H.mon a).gs _ (znv hg _))
structure Walked (l:List Slot) (p n q:Int):Prop where
 hp:hasB p (ln l)=true
 pg:(ix l p sZ).Page=q
 q8:hasB q 8=true
 en:enough (ix l p sZ).Rights n=true
theorem walked {x:Guest}(X:GOk x){p n:Int}(a:zfq x.Live p n=true):Walked x.Live p n (zcH x.Live p n):=by have e:zcH x.Live p n=(zbK x.Live p).Page:=(by unfold zcH;rw[a];rfl);unfold zfq at a;by_cases b:(zbK x.Live p).Page = -1;{rw [zbC.2 b]at a;cases a};{rw [zcf.2 b,cond_false,zcL]at a;have c:hasB p (ln x.Live)=true:=(by cases c:hasB p (ln x.Live) with|true=>rfl|false=>exact absurd (by unfold zbK;rw[c];rfl) b);rw[zpC c] at e b a;rw[e];have d:=z4K.1 ((zsJ.1 X.l).1 _ (znv c sZ));refine⟨c,rfl,?_,a.1⟩;rcases d with d|d;{rw [d]at b;exact absurd rfl b};{exact zJ.2 (by omega)}}
structure Looked (h r:Host) (m g page need q host:Int):Prop where
 op:Op h r
 inn:(ix (ix r.Mons m mZ).Outer q sZ).Page=host
 ne:host≠-1
 en:enough (zbH (ix (ix (ix h.Mons m mZ).Guests g gZ).Live page sZ) (ix r.Mons m mZ).Outer).Rights need=true
 cp:(zbH (ix (ix (ix h.Mons m mZ).Guests g gZ).Live page sZ) (ix r.Mons m mZ).Outer).Page=host
 dk:∀k,hasB k 8=true->k≠q->ix (ix r.Mons m mZ).Dirty k false=ix (ix h.Mons m mZ).Dirty k false
 dq:need=2->ix (ix r.Mons m mZ).Dirty q false=true
 d1:need=1->(ix r.Mons m mZ).Dirty=(ix h.Mons m mZ).Dirty
 dm:∀i,hasB i (ln h.Mons)=true->i≠m->(ix r.Mons i mZ).Dirty=(ix h.Mons i mZ).Dirty
theorem zRp {h:Host}(S:Safe h){m g a b q:Int}(f:hasB m (ln h.Mons)=true)(hg:hasB g (ln (ix h.Mons m mZ).Guests)=true)(l:b=1\/b=2)(W:Walked (ix (ix h.Mons m mZ).Guests g gZ).Live a b q)(c:Bool)(d:zeN (zco h m g) a=zbH (ix (ix (ix h.Mons m mZ).Guests g gZ).Live a sZ) (ix h.Mons m mZ).Outer)(i:enough (zeN (zco h m g) a).Rights b=true) :
 Op h (zfB h m g a c).1/\(zfB h m g a c).2=((ix (ix h.Mons m mZ).Outer q sZ).Page,true)/\(ix (ix h.Mons m mZ).Outer q sZ).Page≠-1/\(zfB h m g a c).1.Mons=h.Mons:=by
 rw[d]at i;have e:=zrt l i;rw[W.pg,zpC<|(S.ok.mon f).hasO W.q8]at e;refine⟨zbb0 S.ok c λR=>?_,?_,e.2.1,?_⟩
 .obtain⟨t1,t2⟩:=S.ok.tag f hg;obtain⟨j,k,_⟩:=zW1 t1 t2;rw[zg2]
  show hasB (zex<|zeW m g) _=true/\hasB (zfp<|zeW m g) (ln (ix h.Mons (zex<|zeW m g) mZ).Guests)=true/\below' ⟨(zeN (zco h m g) a).Page,(zeN (zco h m g) a).Rights⟩ (zbH (zbK (ix (ix h.Mons (zex<|zeW m g) mZ).Guests (zfp<|zeW m g) gZ).Live a) (ix h.Mons (zex<|zeW m g) mZ).Outer)=true
  rw[j,k,zpC W.hp,d];exact⟨f,hg,zsN.2<|.inr ⟨rfl,zXQ<|z0l _ _⟩⟩
 .show ((zeN (zco h m g) a).Page,true)=_
  rw[d,e.2.2]
 .show (zwQ h m g a c).Mons=_
  unfold zwQ;cases c<;>rfl
theorem zVS {h:Host}(S:Safe h){m g page need q:Int}(x:hasB m (ln h.Mons)=true)(hg:hasB g (ln (ix h.Mons m mZ).Guests)=true)(D:need=1\/need=2)(W:Walked (ix (ix h.Mons m mZ).Guests g gZ).Live page need q)(N:Bool){b:List Entry}(hb:∀e∈b,zdM h e=true)(hd:need=2->ix (ix h.Mons m mZ).Dirty q false=true) :
 Looked h (zhw h b m g page need q N).1 m g page need q (zhw h b m g page need q N).2.1/\(zhw h b m g page need q N).2.2=true:=by
 have X:=S.ok.mon x;have r:=W.q8;have L:=zpC (X.hasO W.q8);unfold zhw;cases K:zjz b m g page need with
 |true=>
  rw[cond_true];unfold zjz at K;cases B:zsU b m g page with
  |none=>rw[B]at K;cases K
  |some e=>rw[B]at K;have A:enough e.Rights need=true:=K;obtain⟨f1,f2,f3⟩:=z6g B;obtain⟨t1,t2⟩:=S.ok.tag x hg;obtain⟨b1,b2,_⟩:=zW1 t1 t2;obtain⟨_,_,v⟩:=zg2.1 (hb e f1);rw[f2,b1,b2,f3,zpC W.hp]at v;have T:(⟨e.Host,e.Rights⟩:Slot)≠noSlot:=λf=>(by have:e.Rights=0:=congrArg Slot.Rights f;rw[this,zr8 D]at A;cases A);rcases zsN.1 v with v|⟨v,h4⟩;{exact absurd v T};{have h5:=zUC h4 A;have f:=zrt D h5;rw[W.pg,L]at f;have O:e.Host=_:=v;refine⟨⟨Op.refl S.ok,f.2.2.symm.trans v.symm,?_,h5,v.symm,λ_ _ _=>rfl,hd,λ_=>rfl,λ_ _ _=>rfl⟩,rfl⟩;show e.Host≠-1;rw[O,f.2.2];exact f.2.1}
 |false=>
  rw[cond_false];have P:=S.rt.t m x g hg;cases y:zfo h m g page need with
  |false=>rw[cond_false];have E:ix (zco h m g).Known page false=true/\enough (zeN (zco h m g) page).Rights need=true:=(by unfold zfo at y;cases n:zlN (zco h m g) page with|false=>rw[n]at y;cases y|true=>rw[n,cond_true]at y;refine⟨?_,?_⟩;{unfold zlN at n;cases hh:zd8 (zco h m g) page with|false=>rw[hh]at n;cases n|true=>rw[hh]at n;exact n};{cases hz:ieq (zeN (zco h m g) page).Page (-1) with|true=>rw[hz]at y;cases y|false=>rw[hz]at y;simpa using y});have H:zeN (zco h m g) page=zbH (ix (ix (ix h.Mons m mZ).Guests g gZ).Live page sZ) (ix h.Mons m mZ).Outer:=(by have Z:=z2u P W.hp;have h1:ix (ix (ix h.Mons m mZ).Tables g kZ).Known page false=true:=E.1;rw[h1]at Z;exact Z);obtain⟨U,V,Y,d⟩:=zRp S x hg D W N H E.2;rw[V];have J:=E.2;rw[H]at J;have f:=zrt D J;rw[W.pg,L]at f;exact⟨⟨U,by rw[d],Y,by rw[d];exact J,by rw[d];exact f.2.2,λ_ _ _=>by rw[d],λe=>by rw[d];exact hd e,λ_=>by rw[d],λ_ _ _=>by rw[d]⟩,rfl⟩
  |true=>
   rw[cond_true];have M:=zRx S.ok (m:=m) (p:=q) need x r;have c:hasB m (ln (mended h m q need).Mons)=true:=(by rw[M.op.like.has];exact x);have C:(ix (mended h m q need).Mons m mZ).Guests=(ix h.Mons m mZ).Guests:=M.op.like.g m x;have l:hasB g (ln (ix (mended h m q need).Mons m mZ).Guests)=true:=(by rw[C];exact hg);have G:Safe (mended h m q need):=M.op.safe S;have F:=zbaJ G.ok c l page;have S2:Safe (zcW (mended h m q need) m g page):=F.safe G;have R:hasB m (ln (zcW (mended h m q need) m g page).Mons)=true:=(by rw[F.like.has];exact c);have u:ix (zcW (mended h m q need) m g page).Mons m mZ={ix (mended h m q need).Mons m mZ with Tables:=up (ix (mended h m q need).Mons m mZ).Tables g (filled (zco (mended h m q need) m g) (zcV (mended h m q need) m g) (ix (mended h m q need).Mons m mZ).Outer page)}:=zbp c _ _;have Q:hasB g (ln (ix (zcW (mended h m q need) m g page).Mons m mZ).Guests)=true:=(by rw[u];exact l);have w:(ix (zcW (mended h m q need) m g page).Mons m mZ).Guests=(ix h.Mons m mZ).Guests:=(by rw[u];exact C);have W2:Walked (ix (ix (zcW (mended h m q need) m g page).Mons m mZ).Guests g gZ).Live page need q:=(by rw[w];exact W);have H:zeN (zco (zcW (mended h m q need) m g page) m g) page=zbH (ix (ix (ix (zcW (mended h m q need) m g page).Mons m mZ).Guests g gZ).Live page sZ) (ix (zcW (mended h m q need) m g page).Mons m mZ).Outer:=(by have:zco (zcW (mended h m q need) m g page) m g=filled (zco (mended h m q need) m g) (zcV (mended h m q need) m g) (ix (mended h m q need).Mons m mZ).Outer page:=(by unfold zco;rw[u];exact zbp (by unfold ln;rw[(G.ok.mon c).gt];exact l) _ _);rw[this];refine(z0c (p:=page) (G.rt.t m c g l) (by rw[C];exact W.hp)).trans ?_;rw[u]);have z:(ix (zcW (mended h m q need) m g page).Mons m mZ).Outer=(ix (mended h m q need).Mons m mZ).Outer:=by rw[u]
   have j:=zpC ((G.ok.mon c).hasO r);have a:=zUi (s:=ix (ix (ix h.Mons m mZ).Guests g gZ).Live page sZ) (o:=(ix (mended h m q need).Mons m mZ).Outer) D (by rw[W.pg];have:=zJ.1 r;omega) (by rw[W.pg,j];exact M.inn) W.en (by
    rw[W.pg,j];rcases D with rfl|rfl
    .rcases (G.ok.mon c).enough1 r M.inn with e|e<;>rw [e]<;>decide
    .rw [M.ri (by decide)];decide)
   have J:enough (zeN (zco (zcW (mended h m q need) m g page) m g) page).Rights need=true:=(by rw[H,w,z];exact a.2);obtain⟨U,V,Y,d⟩:=zRp S2 R Q D W2 N H J;rw[V];have I:=a.1;rw[W.pg,j]at I;refine⟨⟨(M.op.trans F).trans U,by rw[d],Y,by rw[d,z];exact a.2,by rw[d,z];exact I,λk n f=>?_,λe=>?_,λe=>?_,λi hi f=>?_⟩,rfl⟩;{rw [d,u];exact M.dk k n f};{rw [d,u];exact M.dt (by rw[e];decide)};{rw [d,u];exact M.d0 (by rw[e];decide)};{rw [d];show (ix (up (mended h m q need).Mons m _) i mZ).Dirty=_;rw[zbD (zJ.1 x).1 (zJ.1 hi).1<|Ne.symm f];exact M.dm i hi f}
theorem zGV {n:Int}:zhd n=true↔n=1\/n=2:=by unfold zhd;by_cases h:n=1;{rw [zbC.2 h];simp[h]};{rw [zcf.2 h,cond_false,zbC];simp[h]}
theorem zsc {h:Host}{m g page need:Int}:zb1 h m g page need=true↔zcb h m g=true/\(need=1\/need=2)/\zfq (zcV h m g) page need=true:=by unfold zb1;rw[zcL,zcL,zGV]
theorem zRq {h:Host}(S:Safe h){m g page need:Int}(j:Bool)(t:zb1 h m g page need=true){b:List Entry}(r:∀e∈b,zdM h e=true) :
 Looked h (lookOf h b m g page need j).1 m g page need (zcH (zcV h m g) page need) (lookOf h b m g page need j).2.1/\(lookOf h b m g page need j).2.2=true:=by
 obtain⟨w,A,B⟩:=zsc.1 t;obtain⟨_,a,hg⟩:=zlM.1 w;have W:=walked (S.ok.guest a hg) B;unfold lookOf;rw[t,cond_true];rcases A with rfl|rfl
 .rw [show ieq 1 2=false by decide,cond_false]
  exact zVS S a hg (.inl rfl) W j r (λe=>absurd e (by decide))
 .rw [show ieq 2 2=true by decide,cond_true]
  obtain⟨d,C⟩:=zMD S.ok a (zcH (zcV h m g) page 2);have p:hasB m (ln (zbP h m<|zcH (zcV h m g) page 2).Mons)=true:=by rw[d.like.has];exact a
  have f:ix (zbP h m<|zcH (zcV h m g) page 2).Mons m mZ={ix h.Mons m mZ with Dirty:=up (ix h.Mons m mZ).Dirty (zcH (zcV h m g) page 2) true}:=zbp a _ _;have x:=(S.ok.mon a).hasD W.q8;obtain⟨L,y⟩:=zVS (d.safe S) p (g:=g) (page:=page) (need:=2) (q:=zcH (zcV h m g) page 2) (by rw[f];exact hg) (.inr rfl) (by rw[f];exact W) j (b:=b) (λe z=>by
   obtain⟨l,u,v⟩:=zg2.1 (r e z);rw[zg2];have n:hasB (zex e.Tag) (ln (zbP h m<|zcH (zcV h m g) page 2).Mons)=true:=by rw[d.like.has];exact l
   refine⟨n,by rw[d.like.g _ l];exact u,?_⟩
   rw[d.like.g _ l];have:(ix (zbP h m<|zcH (zcV h m g) page 2).Mons (zex e.Tag) mZ).Outer=(ix h.Mons (zex e.Tag) mZ).Outer:=by show (ix (up h.Mons m _) _ mZ).Outer=_;by_cases c:m=zex e.Tag;{rw [<- c,zbp a]};{rw [zbD (zJ.1 a).1 (zJ.1 l).1 c]}
   rw[this];exact v) (λ_=>by rw[f];exact zbp x _ _)
  refine⟨⟨d.trans L.op,L.inn,L.ne,?_,?_,λk s c=>?_,L.dq,λe=>absurd e (by decide),λi n c=>?_⟩,y⟩
  .have:=L.en;rw[f] at this;exact this
  .have:=L.cp;rw[f] at this;exact this
  .rw [L.dk k s c,f];exact zbD (zJ.1 W.q8).1 (zJ.1 s).1 (Ne.symm c) _ _
  .rw [L.dm i (by rw[d.like.has];exact n) c]
   show (ix (up h.Mons m _) i mZ).Dirty=_
   rw[zbD (zJ.1 a).1 (zJ.1 n).1<|Ne.symm c]
theorem zQv {x y:Int}(a : -9223372036854775808<=x+y)(b:x+y<=9223372036854775807):zQ .i64 x y=x+y:=by unfold zQ;simp only[IntKind.wrap,IntKind.signed,IntKind.bits];simp;omega
theorem zKP {n:Nat}{P:Int->Prop}(h:∀i:Fin n,P ((i.val:Nat):Int)){x:Int}(a:0<=x)(b:x<n):P x:=by have:=h ⟨x.toNat,by omega⟩;simpa [show ((x.toNat:Nat):Int)=x by omega] using this
theorem zWl {p:Int}:zee p=true↔0<=p/\p<=255:=by unfold zee;exact zdp
theorem zRD {p:Int}(h:zee p=true):zee (zhk p)=true:=by have a:=zWl.1 h;exact zKP (n:=256) (P:=λx=>zee (zhk x)=true) (by decide +kernel) a.1 (by omega)
theorem zRC {p:Int}(h:zee p=true)(n:Int):zee (zp9 p n)=true:=by unfold zp9 zhV;rw[h,cond_true];cases e:zl n 0 7 with|false=>exact h|true=>rw[cond_true];have b:=zWl.1 h;have a:=zdp.1 e;exact zKP (n:=256) (P:=λx=>∀k,0<=k->k<(8:Int)->zee (wor .i64 x<|zmh .i64 1 k)=true) (λi k c d=>zKP (n:=8) (P:=λk=>zee (wor .i64 ((i.val:Nat):Int)<|zmh .i64 1 k)=true) (by revert i;decide +kernel) c d) b.1 (by omega) n a.1 (by omega)
structure GKeep (x y:Guest):Prop where
 ok:GOk y
 live:y.Live=x.Live
theorem z0R {x:Guest}(X:GOk x){c:Int}(b:zl c 0 12=true):GOk {x with Pc:=c}:=⟨X.prog,X.a,b,X.w,X.l,X.ctl,X.pend,X.ex,X.seen⟩
theorem z0Q {x:Guest}(X:GOk x){c:Int}(a:zl c 0 99=true):GOk {x with A:=c}:=⟨X.prog,a,X.pc,X.w,X.l,X.ctl,X.pend,X.ex,X.seen⟩
theorem zlg {x:Guest}(X:GOk x):GKeep x (zcg x):=by unfold zcg;have a:=zdp.1 X.pc;cases h:ige x.Pc 12 with|true=>exact⟨z0R X (by decide),rfl⟩|false=>have:¬ x.Pc≥12:=qW h;refine⟨z0R X ?_,rfl⟩;rw[zQv (by omega) (by omega)];exact zdp.2 (by omega)
theorem zUJ {x:Guest}(X:GOk x)(n:Int):GKeep x (saw x n):=by unfold saw;cases h:ilt (ln x.Seen) 40 with|false=>exact⟨X,rfl⟩|true=>have:ln x.Seen<40:=qD h;refine⟨⟨X.prog,X.a,X.pc,X.w,X.l,X.ctl,X.pend,X.ex,qJ ?_⟩,rfl⟩;unfold ln ap at *;simp;omega
theorem zlh {x:Guest}(X:GOk x){e:GExit}(b:zjL e=true):GKeep x (stopped x e):=⟨⟨X.prog,X.a,X.pc,X.w,X.l,X.ctl,X.pend,b,X.seen⟩,rfl⟩
theorem zZt {x:Guest}(X:GOk x){p:Int}(b:zee p=true):GKeep x {x with Pending:=p}:=⟨⟨X.prog,X.a,X.pc,X.w,X.l,X.ctl,b,X.ex,X.seen⟩,rfl⟩
theorem zZq {x:Guest}(X:GOk x)(b:Bool):GKeep x {x with Halted:=b}:=⟨⟨X.prog,X.a,X.pc,X.w,X.l,X.ctl,X.pend,X.ex,X.seen⟩,rfl⟩
theorem zZr {x:Guest}(X:GOk x):GKeep x (held x):=⟨(zlg (zZq X true).ok).ok,(zlg (zZq X true).ok).live⟩
theorem z3t {x:Guest}(X:GOk x){v:Int}(c:zl v 0 99=true):GKeep x (loaded x v):=by have a:=zUJ (z0Q X c) v;have b:=zlg a.ok;exact⟨b.ok,b.live.trans a.live⟩
theorem zNS {x:Guest}(X:GOk x):GKeep x (interrupted x):=by unfold interrupted;cases zkm x with|false=>exact⟨X,rfl⟩|true=>have a:=zZt X (zRD X.pend);rw[cond_true];exact⟨(zUJ a.ok _).ok,(zUJ a.ok _).live⟩
theorem zJg {p:List Ins}(h:zd5 p=true)(i:Int):zff (zcK p i)=true:=by unfold zcK;cases a:hasB i (ln p) with|false=>rfl|true=>unfold zd5 at h;rw[zcL,qM]at h;exact h.1 _ (znv a _)
theorem zbbR {i:Ins}(h:zff i=true)(a:i.Op=3\/i.Op=4):0<=i.X/\i.X<=15:=by unfold zff at h;rcases a with e|e<;>rw [e]at h<;>exact zdp.1 h
theorem z3z {i:Ins}(h:zff i=true)(a:i.Op=5\/i.Op=6):0<=i.X/\i.X<=99:=by unfold zff at h;rcases a with e|e<;>rw [e]at h<;>exact zdp.1 h
theorem zbcD {i:Ins}(h:zff i=true)(a:i.Op=8):0<=i.X/\i.X<=11:=by unfold zff at h;rw[a]at h;exact zdp.1 h
theorem zbcC {i:Ins}(h:zff i=true)(a:i.Op=1):0<=i.X/\i.X<=99:=by unfold zff at h;rw[a]at h;exact zdp.1 h
theorem z0S {x:Guest}(X:GOk x):GKeep x (plainly x):=by have M:=zlg X;have b:=zJg X.prog x.Pc;unfold plainly;cases ine (zN x) 2 with|true=>exact⟨X,rfl⟩|false=>rw[cond_false];(cases zl x.A 0 99 with|false=>exact M|true=>rw[cond_true];(cases zl (zcK x.Prog x.Pc).X 0 99 with|false=>exact M|true=>rw[cond_true];by_cases c:(zcK x.Prog x.Pc).Op=1;{rw [zbC.2 c,cond_true];exact⟨z0Q M.ok<|zdp.2<|zbcC b c,M.live⟩};{rw [zcf.2 c,cond_false];by_cases d:(zcK x.Prog x.Pc).Op=2;{rw [zbC.2 d,cond_true];refine⟨z0Q M.ok ?_,M.live⟩;have f:=zdp.1 X.a;have i:0<=(zcK x.Prog x.Pc).X/\(zcK x.Prog x.Pc).X<=99:=(by unfold zff at b;rw[d]at b;exact zdp.1 b);rw[zdp];unfold zrh;rw[zQv (by omega) (by omega)];have g:=Int.tmod_nonneg (a:=x.A+(zcK x.Prog x.Pc).X) 100 (by omega);have h:=Int.tmod_lt_of_pos (x.A+(zcK x.Prog x.Pc).X) (show (0:Int)<100 by omega);omega};{rw [zcf.2 d,cond_false];by_cases e:(zcK x.Prog x.Pc).Op=8;{rw [zbC.2 e,cond_true];cases ieq x.A 0 with|true=>have:=zbcD b e;exact⟨z0R M.ok<|zdp.2 (by omega),M.live⟩|false=>exact M};{rw [zcf.2 e];exact M}}}))
theorem zul {c:List Int}:zc1 c=true↔(∀x∈c,zl x 0 99=true)/\ln c=4:=by unfold zc1;rw[zcL,qM,zbC]
theorem zos (h:Host)(m:Int):∀(n i:Nat),(zc6 h m n i).length=n
 | 0,_=>rfl
 |n+1,i=>by rw[zc6,jB,zos h m n]
theorem zMK (h:Host)(m:Int):∀(n i k:Nat) (a:k<(zc6 h m n i).length),(zc6 h m n i)[k]=zc0 h m ((i+k:Nat):Int)
 | 0,i,k,a=>by simp[zc6]at a
 |n+1,i,k,a=>by cases k with|zero=>rfl|succ k=>have:=zMK h m n (i+1) k (by simpa [zc6] using a);simp only[zc6,List.getElem_cons_succ];rw[this];congr 1;omega
theorem zrH {h:Host}{m q:Int}(b:hasB q 8=true)(d:List Int):ix (zc6 h m 8 0) q d=zc0 h m q:=by have c:=zJ.1 b;have a:q.toNat<(zc6 h m 8 0).length:=(by rw[zos];omega);have:=zol a d;rw[show ((q.toNat:Nat):Int)=q by omega] at this;rw[this,zMK];congr 1;omega
theorem zvu (h:Host)(m:Int):ln (zc6 h m 8 0)=8:=by unfold ln;rw[zos];rfl
theorem zz9 {h:Host}(H:HOk h){m p:Int}(b:hasB m (ln h.Mons)=true)(a:hasB p 8=true):zc1 (zc0 h m p)=true:=by have X:=H.mon b;rw[<- zmR H b a];by_cases e:(ix (ix h.Mons m mZ).Outer p sZ).Page = -1;{rw [zbC.2 e];exact((zrx<|X.slot a).1 (X.fit p a)).1 e};{rw [zcf.2 e];exact zRA H.pgs _}
theorem zy9 {h:Host}(H:HOk h){m:Int}(b:hasB m (ln h.Mons)=true):zbY (zC h m)=true:=by have X:=H.mon b;unfold zC;rw[b,cond_true];unfold zbY zjP;rw[zcL,qM];refine⟨X.gs,?_⟩;simp only[qE,zcL,qM,zbC,zdp];refine⟨⟨λc d=>?_,zvu h m⟩,⟨?_,?_⟩,?_,X.pend⟩;{obtain⟨i,a,rfl⟩:=zVW d [];rw[zvu]at a;rw[zrH a];exact zz9 H b a};{unfold ln;have:=X.g1;omega};{unfold ln;have:=X.g2;omega};{unfold ile ln;have:=X.outs;exact qJ (by omega)}
structure SimT (h r:Host) (m:Int) (f:Bare->Bare):Prop where
 safe:Safe r
 seen:∀i,zC r i=bif ieq i m then f (zC h i) else zC h i
 len:r.Mons.length=h.Mons.length
theorem SimT.trans {a b c:Host}{m:Int}{f g:Bare->Bare}(x:SimT a b m f)(y:SimT b c m g):SimT a c m (λt=>g (f t)):=by refine⟨y.safe,λi=>?_,y.len.trans x.len⟩;rw[y.seen i,x.seen i];cases ieq i m<;>rfl
theorem Op.sim {h r:Host}(k:Op h r)(S:Safe h)(m:Int):SimT h r m id:=⟨k.safe S,λi=>by rw[k.like.seen i];cases ieq i m<;>rfl,k.like.len⟩
theorem SimT.congr {h r:Host}{m:Int}{f g:Bare->Bare}(x:SimT h r m f)(e:f (zC h m)=g (zC h m)):SimT h r m g:=by refine⟨x.safe,λi=>?_,x.len⟩;rw[x.seen i];by_cases a:i=m;{subst a;rw[zbC.2 rfl,cond_true,cond_true,e]};{rw [zcf.2 a];rfl}
theorem SimT.has {h r:Host}{m:Int}{f:Bare->Bare}(x:SimT h r m f)(i:Int):hasB i (ln r.Mons)=hasB i (ln h.Mons):=by unfold ln;rw[x.len]
theorem SimT.refl {h:Host}(S:Safe h)(m:Int):SimT h h m id:=⟨S,λi=>by cases ieq i m<;>rfl,rfl⟩
theorem zxd {h:Host}(S:Safe h){m q a:Int}(l:hasB m (ln h.Mons)=true)(f:hasB q 8=true)(J:(ix (ix h.Mons m mZ).Outer q sZ).Page=a)(y:a≠-1)(c v:Int) :
 SimT h {h with Memory:=zbW h.Memory a c v} m (λb=>{b with Memory:=zbW b.Memory q c v})/\cellAt h.Memory a c=cellAt (zC h m).Memory q c:=by
 have H:=S.ok;have X:=H.mon l;have N:=X.slot f;have E:=hasM H N (by rw[J];exact y)
 rw[J]at E;have z:ix h.Memory a []=zc0 h m q:=by have:=zmR H l f;rw[J,zcf.2 y,cond_false,zmQ E] at this;exact this
 have n:ln (zc0 h m q)=4:=(zul.1<|zz9 H l f).2;have d:(zC h m).Memory=zc6 h m 8 0:=by unfold zC;rw[l];rfl
 have C:zhc h.Memory a c=hasB c 4:=by unfold zhc;rw[E,cond_true,z,n]
 have D:zhc (zc6 h m 8 0) q c=hasB c 4:=by unfold zhc;rw[zvu,f,cond_true,zrH f,n]
 have u:cellAt h.Memory a c=cellAt (zC h m).Memory q c:=by rw[d];unfold cellAt;rw[C,D,z,zrH f]
 refine⟨?_,u⟩;cases A:hasB c 4 with
 |false=>have s:zbW h.Memory a c v=h.Memory:=(by unfold zbW;rw[C,A];rfl);rw[s];refine(SimT.refl S m).congr ?_;show zC h m={zC h m with Memory:=zbW (zC h m).Memory q c v};rw[d];have B:zbW (zc6 h m 8 0) q c v=zc6 h m 8 0:=(by unfold zbW;rw[D,A];rfl);rw[B,<- d]
 |true=>
  cases K:zl v 0 99 with
  |false=>have s:zbW h.Memory a c v=h.Memory:=(by unfold zbW;rw[C,A,K];rfl);rw[s];refine(SimT.refl S m).congr ?_;show zC h m={zC h m with Memory:=zbW (zC h m).Memory q c v};rw[d];have B:zbW (zc6 h m 8 0) q c v=zc6 h m 8 0:=(by unfold zbW;rw[D,A,K];rfl);rw[B,<- d]
  |true=>have s:zbW h.Memory a c v=up h.Memory a (up (zc0 h m q) c v):=(by unfold zbW;rw[C,A,K,z];rfl);have B:zbW (zc6 h m 8 0) q c v=up (zc6 h m 8 0) q (up (zc0 h m q) c v):=(by unfold zbW;rw[D,A,K,zrH f];rfl);have G:zc1 (up (zc0 h m q) c v)=true:=(by have:=zul.1 (zz9 H l f);rw[zul,zeO];refine⟨λx O=>?_,this.2⟩;rcases qZ O with h|h;{exact this.1 x h};{rw [h];exact K});have P:=(zJ.1 E).1;have L:HOk {h with Memory:=zbW h.Memory a c v}:=(by rw[s];refine⟨by show (up _ _ _).length=12;rw[zb4];exact H.m12,λx O=>?_,H.n1,H.n3,H.b1,H.b2,H.mons,H.uq⟩;rcases qZ O with h|h;{exact H.pgs x h};{rw [h];exact G});refine⟨⟨L,⟨S.rt.t,S.rt.e1,S.rt.e2⟩⟩,λi=>?_,rfl⟩;have r:∀i k,hasB i (ln h.Mons)=true->hasB k 8=true->¬ (i=m/\k=q)->zc0 {h with Memory:=zbW h.Memory a c v} i k=zc0 h i k:=(by intro i k w g I;rw[<- zmR L (m:=i) (p:=k) w g,<- zmR H w g];show (cond (ieq (ix (ix h.Mons i mZ).Outer k sZ).Page<|-1) _<|zc5 (zbW h.Memory a c v) _)=_;by_cases e:(ix (ix h.Mons i mZ).Outer k sZ).Page = -1;{rw [zbC.2 e];rfl};{rw [zcf.2 e,cond_false,cond_false,s];exact zDI P (λe=>I (H.uniq w g l f e J P))});have F:zc0 {h with Memory:=zbW h.Memory a c v} m q=up (zc0 h m q) c v:=(by rw[<- zmR L (m:=m) (p:=q) l f];show (cond (ieq (ix (ix h.Mons m mZ).Outer q sZ).Page<|-1) _<|zc5 (zbW h.Memory a c v) (ix (ix h.Mons m mZ).Outer q sZ).Page)=_;rw[J,zcf.2 y,cond_false,s];exact zDH E);by_cases w:i=m;{subst w;rw[zbC.2 rfl,cond_true];unfold zC;show (cond (hasB i<|ln h.Mons) _ _)=_;rw[l,cond_true,cond_true];show Bare.mk (zc6 {h with Memory:=zbW h.Memory a c v} i 8 0) _ _ _=Bare.mk (zbW (zc6 h i 8 0) q c v) _ _ _;congr 1;rw[B];refine zPP [] (by rw[zb4,zos,zos]) λk g=>?_;rw[zvu]at g;rw[zrH g];by_cases e:q=k;{subst e;rw[zbp (by rw[zvu];exact f),F]};{rw [zbD (zJ.1 f).1 (zJ.1 g).1 e,zrH g];exact r i k l g (λh=>e h.2.symm)}};{rw [zcf.2 w,cond_false];unfold zC;show (cond (hasB i<|ln h.Mons) _ _)=_;cases M:hasB i (ln h.Mons) with|false=>rfl|true=>rw[cond_true,cond_true];show Bare.mk (zc6 {h with Memory:=zbW h.Memory a c v} i 8 0) _ _ _=_;rw[zse 8 0 λj C D=>r i (j:Int) M (zJ.2 (by omega)) λh=>w h.1]}
theorem zrR {h:Host}(S:Safe h){m g:Int}(a:hasB m (ln h.Mons)=true)(hg:hasB g (ln (ix h.Mons m mZ).Guests)=true){y:Guest}(k:GKeep (gOf h m g) y):SimT h (zhb h m g y) m (λb=>zeK b g y):=by have X:=S.ok.mon a;have kp:KeepP (ix h.Mons m mZ) {ix h.Mons m mZ with Guests:=up (ix h.Mons m mZ).Guests g y}:=⟨rfl,rfl⟩;refine⟨zxc S a kp (zmN X kp (zb4 _ _ _) rfl rfl X.outs X.pend X.tr X.own λz d=>?_) (zb4 _ _ _) (λj c=>?_) rfl,λi=>?_,zb4 _ _ _⟩;{rcases qZ d with h|h;{exact X.gs z h};{rw [h];exact zuF.2 k.ok}};{show (ix (up (ix h.Mons m mZ).Guests g y) j gZ).Live=_;by_cases e:g=j;{subst e;rw[zbp hg];exact k.live};{rw [zbD (zJ.1 hg).1 (zJ.1 c).1 e]}};{refine(zvQ (h:=h) (r:=zhb h m g y) a rfl rfl kp i).trans ?_;by_cases e:i=m;{subst e;rw[zbC.2 rfl,cond_true,cond_true];unfold zeK zC;rw[a];rfl};{rw [zcf.2 e];rfl}}
theorem zWO {h:Host}(S:Safe h){m:Int}(a:hasB m (ln h.Mons)=true){y:Mon}(kp:KeepP (ix h.Mons m mZ) y)(d:MOk y)(hg:y.Guests=(ix h.Mons m mZ).Guests)(c:y.Tables=(ix h.Mons m mZ).Tables) :
 SimT h {h with Mons:=up h.Mons m y} m (λb=>{b with Outs:=y.Outs,Pending:=y.Pending}):=by
 refine⟨zxc S a kp d (by rw[hg]) (λj _=>by rw[hg]) c,λi=>?_,zb4 _ _ _⟩
 refine(zvQ (h:=h) (r:={h with Mons:=up h.Mons m y}) a rfl rfl kp i).trans ?_
 by_cases e:i=m
 .subst e;rw[zbC.2 rfl,cond_true,cond_true];unfold zC;rw[a,hg];rfl
 .rw [zcf.2 e];rfl
theorem zgJ {h:Host}{m:Int}(a:hasB m (ln h.Mons)=true):zC h m=⟨zc6 h m 8 0,(ix h.Mons m mZ).Guests,(ix h.Mons m mZ).Outs,(ix h.Mons m mZ).Pending⟩:=by unfold zC;rw[a];rfl
theorem z4H {h:Host}(S:Safe h){m:Int}(a:hasB m (ln h.Mons)=true):SimT h (owned h m) m id:=by unfold owned;cases b:ilt (ix h.Mons m mZ).Own 1000000000 with|false=>exact SimT.refl S m|true=>rw[cond_true];have X:=S.ok.mon a;have d:=zdp.1 X.own;have c:(ix h.Mons m mZ).Own<1000000000:=qD b;have kp:KeepP (ix h.Mons m mZ) {ix h.Mons m mZ with Own:=zQ .i64 (ix h.Mons m mZ).Own 1}:=⟨rfl,rfl⟩;refine(zWO S a kp (zmN X kp rfl rfl rfl X.outs X.pend X.tr ?_ X.gs) rfl rfl).congr ?_;{show zl (zQ .i64 (ix h.Mons m mZ).Own 1) 0 1000000000=true;rw[zQv (by omega) (by omega),zdp];omega};{rw [zgJ a];rfl}
theorem z16 {h:Host}(S:Safe h){m:Int}(a:hasB m (ln h.Mons)=true)(n:Int):SimT h (zi7 h m n) m (λb=>zkH b n):=by unfold zi7;have X:=S.ok.mon a;cases c:ilt (ln (ix h.Mons m mZ).Outs) 40 with|false=>refine(SimT.refl S m).congr ?_;rw[zgJ a];unfold zkH;rw[c];rfl|true=>rw[cond_true];have d:ln (ix h.Mons m mZ).Outs<40:=qD c;have kp:KeepP (ix h.Mons m mZ) {ix h.Mons m mZ with Outs:=ap (ix h.Mons m mZ).Outs [n]}:=⟨rfl,rfl⟩;refine(zWO S a kp (zmN X kp rfl rfl rfl ?_ X.pend X.tr X.own X.gs) rfl rfl).congr ?_;{show (ap (ix h.Mons m mZ).Outs [n]).length<=40;unfold ln ap at *;simp;omega};{rw [zgJ a];unfold zkH;rw[c];rfl}
theorem zvb {h:Host}{m g:Int}(a:hasB m (ln h.Mons)=true)(hg:hasB g (ln (ix h.Mons m mZ).Guests)=true):gAt (zC h m) g=gOf h m g:=by rw[zgJ a];unfold gAt;show (cond (hasB g<|ln (ix h.Mons m mZ).Guests) _ _)=_;rw[hg];rfl
theorem zQw {x:Guest}(h:zN x=3\/zN x=4\/zN x=5\/zN x=6):(zcK x.Prog x.Pc).Op=zN x:=by unfold zN at h ⊢;cases e:canRun x with|false=>simp[e]at h|true=>simp only[e,cond_true]at h ⊢;(cases f:zkm x with|true=>simp[f]at h|false=>simp only[f,cond_false]at h ⊢;unfold zyH at h ⊢;by_cases a:(zcK x.Prog x.Pc).Op=3;{rw [a];rfl};{rw [zcf.2 a,cond_false]at h ⊢;by_cases b:(zcK x.Prog x.Pc).Op=4;{rw [b];rfl};{rw [zcf.2 b,cond_false]at h ⊢;by_cases c:(zcK x.Prog x.Pc).Op=5;{rw [c];rfl};{rw [zcf.2 c,cond_false]at h ⊢;by_cases d:(zcK x.Prog x.Pc).Op=6;{rw [d];rfl};{rw [zcf.2 d,cond_false]at h ⊢;cases g:ieq (zcK x.Prog x.Pc).Op 7<;>simp [g]at h}}}})
theorem z9J {x:Guest}(X:GOk x){w:Int}(a:zN x=w)(h:w=3\/w=4):0<=address x/\address x<=15:=by have e:address x=(zcK x.Prog x.Pc).X:=(by unfold address;rcases h with e|e;{rw [a,e];rfl};{rw [a,e];rfl});rw[e];exact zbbR (zJg X.prog _) (by rw[zQw (by omega),a];exact h)
theorem z9K {a:Int}(b:0<=a)(c:a<=15):zl (zbn a) 0 3=true/\hasB (zd7 a) 4=true :=
 zKP (n:=16) (P:=λa=>zl (zbn a) 0 3=true/\hasB (zd7 a) 4=true) (by decide) b (by omega)
theorem z0H {p:Int}(h:zl p 0 3=true)(w:Bool):zjL (zsS p w)=true:=by unfold zjL zsS;simp[ieq,h]
theorem z3k {n:Int}(h:zl n 0 99=true):zjL (zu1 n)=true:=by unfold zjL zu1;simp[ieq,h]
theorem z6f {n:Int}(h:zl n 0 99=true):zjL (zyI n)=true:=by unfold zjL zyI;simp[ieq,h]
theorem z6l {x:Guest}(X:GOk x)(t:Int){w:Int}(d:zN x=w):GKeep x (zgx x t w):=by have c:=zJg X.prog x.Pc;unfold zgx;by_cases b:w=6;{rw [zbC.2 b];exact zlh X (z3k<|zdp.2<|z3z c (by rw[zQw (by omega),d];omega))};{rw [zcf.2 b,cond_false];by_cases a:w=5;{rw [zbC.2 a];cases zet t 1 with|true=>exact zlh X (z6f<|zdp.2<|z3z c (by rw[zQw (by omega),d];omega))|false=>rw[a];exact zlg X};{rw [zcf.2 a];rw[Bool.false_and,cond_false];cases e:(ieq w 7&&zet t 2) with|true=>exact zlh X rfl|false=>rw[cond_false];cases ieq w 7;{exact zlg X};{exact zZr X}}}
theorem zZy {a:Type}(g:Int):hasB g (ln ([]:List a))=false:=by cases h:hasB g (ln ([]:List a)) with|false=>rfl|true=>have:=zJ.1 h;simp[ln] at this;omega
theorem z5n {m:List (List Int)}(h:∀c∈m,zc1 c=true)(p c:Int):zl (cellAt m p c) 0 99=true:=by unfold cellAt zhc;cases b:hasB p (ln m) with|false=>rfl|true=>rw[cond_true];(cases a:hasB c (ln<|ix m p []) with|false=>rfl|true=>rw[cond_true];exact(zul.1<|h _<|znv b []).1 _ (znv a 0))
theorem HOk.seenG {h:Host}(H:HOk h){m g:Int}(a:hasB m (ln h.Mons)=true)(hg:hasB g (ln (ix h.Mons m mZ).Guests)=true):GOk (gOf h m g):=H.guest a hg
theorem zWY {h:Host}(S:Safe h){m g:Int}(i:hasB m (ln h.Mons)=true)(hg:hasB g (ln (ix h.Mons m mZ).Guests)=true)(w:Bool)(B:zN (gOf h m g)=bif w then 4 else 3) :
 SimT h (ziq (zjq h m g (gOf h m g) w) m g (gOf h m g) w) m (λb=>zmg b g (gOf h m g) w):=by
 have X:=S.ok.seenG i hg;have t:=z9J X B (by cases w<;>simp)
 have n:=z9K t.1 t.2;have z:zcv w=1\/zcv w=2:=by cases w<;>simp [zcv]
 unfold ziq zjq;cases k:zb1 h m g (zbn<|address<|gOf h m g) (zcv w) with
 |false=>have e:lookOf h h.Buffer m g (zbn<|address<|gOf h m g) (zcv w) false=(h,-1,false):=(by unfold lookOf;rw[k];rfl);have q:zfq (gOf h m g).Live (zbn<|address<|gOf h m g) (zcv w)=false:=(by cases y:zfq (gOf h m g).Live (zbn<|address<|gOf h m g) (zcv w) with|false=>rfl|true=>exact Bool.noConfusion (k.symm.trans<|zsc.2 ⟨zlM.2 ⟨S.ok,i,hg⟩,z,y⟩));rw[e];refine(zrR S i hg<|zlh X<|z0H n.1 w).congr ?_;unfold zmg;rw[q];rfl
 |true=>obtain⟨L,x⟩:=zRq S false k S.rt.e1;obtain⟨_,_,j⟩:=zsc.1 k;have c:zfq (gOf h m g).Live (zbn<|address<|gOf h m g) (zcv w)=true:=j;have W:=walked X j;rw[x,cond_true];have l:=L.op.safe S;have f:hasB m (ln (lookOf h h.Buffer m g (zbn<|address<|gOf h m g) (zcv w) false).1.Mons)=true:=(by rw[L.op.like.has];exact i);have a:=L.op.like.g m i;have C:hasB (zcH (zcV h m g) (zbn<|address<|gOf h m g)<|zcv w) 8=true:=W.q8;obtain⟨u,v⟩:=zxd l f C L.inn L.ne (zd7<|address<|gOf h m g) (gOf h m g).A;rw[L.op.like.seen m] at v;cases w with|true=>rw[cond_true];have r:=L.op.sim S m;have p:hasB m (ln ({ (lookOf h h.Buffer m g (zbn<|address<|gOf h m g) (zcv true) false).1 with Memory:=zbW (lookOf h h.Buffer m g (zbn<|address<|gOf h m g) (zcv true) false).1.Memory (lookOf h h.Buffer m g (zbn<|address<|gOf h m g) (zcv true) false).2.1 (zd7<|address<|gOf h m g) (gOf h m g).A}:Host).Mons)=true:=f;have d:hasB g (ln (ix ({ (lookOf h h.Buffer m g (zbn<|address<|gOf h m g) (zcv true) false).1 with Memory:=zbW (lookOf h h.Buffer m g (zbn<|address<|gOf h m g) (zcv true) false).1.Memory (lookOf h h.Buffer m g (zbn<|address<|gOf h m g) (zcv true) false).2.1 (zd7<|address<|gOf h m g) (gOf h m g).A}:Host).Mons m mZ).Guests)=true:=(by show hasB g (ln (ix (lookOf h h.Buffer m g (zbn<|address<|gOf h m g) (zcv true) false).1.Mons m mZ).Guests)=true;rw[a];exact hg);have s:GKeep (gOf { (lookOf h h.Buffer m g (zbn<|address<|gOf h m g) (zcv true) false).1 with Memory:=zbW (lookOf h h.Buffer m g (zbn<|address<|gOf h m g) (zcv true) false).1.Memory (lookOf h h.Buffer m g (zbn<|address<|gOf h m g) (zcv true) false).2.1 (zd7<|address<|gOf h m g) (gOf h m g).A} m g) (zcg<|gOf h m g):=(by have:gOf { (lookOf h h.Buffer m g (zbn<|address<|gOf h m g) (zcv true) false).1 with Memory:=zbW (lookOf h h.Buffer m g (zbn<|address<|gOf h m g) (zcv true) false).1.Memory (lookOf h h.Buffer m g (zbn<|address<|gOf h m g) (zcv true) false).2.1 (zd7<|address<|gOf h m g) (gOf h m g).A} m g=gOf h m g:=(by show ix (ix (lookOf h h.Buffer m g (zbn<|address<|gOf h m g) (zcv true) false).1.Mons m mZ).Guests g gZ=_;rw[a];rfl);rw[this];exact zlg X);refine((r.trans u).trans (zrR u.safe p d s)).congr ?_;unfold zmg;rw[c];rfl|false=>rw[cond_false];have r:=L.op.sim S m;have d:hasB g (ln (ix (lookOf h h.Buffer m g (zbn<|address<|gOf h m g) (zcv false) false).1.Mons m mZ).Guests)=true:=(by rw[a];exact hg);have s:GKeep (gOf (lookOf h h.Buffer m g (zbn<|address<|gOf h m g) (zcv false) false).1 m g) (loaded (gOf h m g)<|cellAt (lookOf h h.Buffer m g (zbn<|address<|gOf h m g) (zcv false) false).1.Memory (lookOf h h.Buffer m g (zbn<|address<|gOf h m g) (zcv false) false).2.1<|zd7<|address<|gOf h m g):=(by have:gOf (lookOf h h.Buffer m g (zbn<|address<|gOf h m g) (zcv false) false).1 m g=gOf h m g:=(by show ix (ix (lookOf h h.Buffer m g (zbn<|address<|gOf h m g) (zcv false) false).1.Mons m mZ).Guests g gZ=_;rw[a];rfl);rw[this];exact z3t X (z5n l.ok.pgs _ _));refine(r.trans<|zrR l f d s).congr ?_;unfold zmg;rw[c,v];rfl
theorem z6k {h r:Host}{m g:Int}(e:(ix r.Mons m mZ).Guests=(ix h.Mons m mZ).Guests):gOf r m g=gOf h m g:=by unfold gOf;rw[e]
theorem zbaK (h:Host)(m:Int)(a:hasB m (ln h.Mons)=true):(ix (owned h m).Mons m mZ).Guests=(ix h.Mons m mZ).Guests:=by unfold owned;cases ilt (ix h.Mons m mZ).Own 1000000000 with|false=>rfl|true=>show (ix (up h.Mons m _) m mZ).Guests=_;rw[zbp a]
theorem z6J (h:Host)(m n:Int)(a:hasB m (ln h.Mons)=true):(ix (zi7 h m n).Mons m mZ).Guests=(ix h.Mons m mZ).Guests:=by unfold zi7;cases ilt (ln (ix h.Mons m mZ).Outs) 40 with|false=>rfl|true=>show (ix (up h.Mons m _) m mZ).Guests=_;rw[zbp a]
theorem z4J {h:Host}(S:Safe h){m:Int}(a:hasB m (ln h.Mons)=true)(x:Guest)(w:Int):SimT h (zfh h m x w) m id/\(ix (zfh h m x w).Mons m mZ).Guests=(ix h.Mons m mZ).Guests:=by unfold zfh;cases (cond (ine w 6) (ieq (zoc (ix h.Mons m mZ).Traps x.Ctl.Traps<|zgu w) 2) false) with|false=>exact⟨SimT.refl S m,rfl⟩|true=>exact⟨z4H S a,zbaK h m a⟩
theorem z4I {h:Host}(S:Safe h){m:Int}(a:hasB m (ln h.Mons)=true)(x:Guest)(w:Int):SimT h (zhM h m x w) m (λb=>bif (cond (zie x.Ctl.Traps w) (ieq w 5) false) then zkH b (zcK x.Prog x.Pc).X else b)/\(ix (zhM h m x w).Mons m mZ).Guests=(ix h.Mons m mZ).Guests:=by unfold zhM;cases (cond (zie x.Ctl.Traps w) (ieq w 5) false) with|false=>exact⟨SimT.refl S m,rfl⟩|true=>exact⟨z16 S a _,z6J h m _ a⟩
theorem zD5 {h:Host}(S:Safe h){m g:Int}(d:hasB m (ln h.Mons)=true)(hg:hasB g (ln (ix h.Mons m mZ).Guests)=true){w:Int}(l:zN (gOf h m g)=w) :
 SimT h (zlJ h m g (gOf h m g) w) m (λb=>zrS b g (gOf h m g) w):=by
 have X:=S.ok.seenG d hg;obtain⟨f,j⟩:=z4J S d (gOf h m g) w;have a:hasB m (ln (zfh h m (gOf h m g) w).Mons)=true:=by rw[f.has];exact d
 obtain⟨i,k⟩:=z4I f.safe a (gOf h m g) w;have e:hasB m (ln (zhM (zfh h m (gOf h m g) w) m (gOf h m g) w).Mons)=true:=by rw[i.has];exact a
 have c:hasB g (ln (ix (zhM (zfh h m (gOf h m g) w) m (gOf h m g) w).Mons m mZ).Guests)=true:=by rw[k,j];exact hg
 have n:GKeep (gOf (zhM (zfh h m (gOf h m g) w) m (gOf h m g) w) m g) (zgx (gOf h m g) (gOf h m g).Ctl.Traps w):=by rw[z6k<|k.trans j];exact z6l X _ l
 exact((f.trans i).trans (zrR i.safe e c n)).congr rfl
theorem z2l (x:Guest):zN x=0\/zN x=1\/zN x=2\/zN x=3\/zN x=4\/zN x=5\/zN x=6\/zN x=7:=by unfold zN zyH;cases canRun x<;>cases zkm x<;>cases ieq (zcK x.Prog x.Pc).Op 3<;>cases ieq (zcK x.Prog x.Pc).Op 4<;>cases ieq (zcK x.Prog x.Pc).Op 5<;>cases ieq (zcK x.Prog x.Pc).Op 6<;>cases ieq (zcK x.Prog x.Pc).Op 7<;>simp
theorem zUf {h:Host}(H:HOk h)(m g:Int):zh5 (zC h m) g=bif zcb h m g then !ieq (zN<|gOf h m g) 0 else false:=by unfold zh5 zcb;rw[zl7.2 H,cond_true];cases a:hasB m (ln h.Mons) with|false=>have:(zC h m).Guests=[]:=(by unfold zC;rw[a];rfl);rw[this,zZy];rfl|true=>rw[cond_true,zy9 H a,cond_true];have:(zC h m).Guests=(ix h.Mons m mZ).Guests:=(by rw[zgJ a]);rw[this];(cases hg:hasB g (ln (ix h.Mons m mZ).Guests) with|false=>rfl|true=>rw[cond_true,cond_true,zvb a hg])
theorem step_ok {h:Host}(S:Safe h)(m g:Int):SimT h (zcM h m g).1 m (λb=>zfN b g)/\(zcM h m g).2=zh5 (zC h m) g:=by
 have a:=zUf S.ok m g;unfold zcM;cases i:zcb h m g with
 |false=>rw[i,cond_false]at a;refine⟨(SimT.refl S m).congr ?_,a.symm⟩;unfold zfN;rw[a];rfl
 |true=>rw[i,cond_true]at a;rw[cond_true];obtain⟨_,c,hg⟩:=zlM.1 i;have X:=S.ok.seenG c hg;have f:=zvb c hg;have d:∀w,zN (gOf h m g)=w->w≠0->zfN (zC h m) g=stepped (zC h m) g (gOf h m g) w:=(by intro w j k;unfold zfN;rw[a,j,zcf.2 k,f,j];rfl);rcases z2l (gOf h m g) with e|e|e|e|e|e|e|e;{rw [e];rw[e]at a;refine⟨(SimT.refl S m).congr ?_,a.symm⟩;unfold zfN;rw[a];rfl};{rw [e]at a ⊢;exact⟨(zrR S c hg<|zNS X).congr (d 1 e (by decide)).symm,a.symm⟩};{rw [e]at a ⊢;exact⟨(zrR S c hg<|z0S X).congr (d 2 e (by decide)).symm,a.symm⟩};{rw [e]at a ⊢;exact⟨(zWY S c hg false e).congr (d 3 e (by decide)).symm,a.symm⟩};{rw [e]at a ⊢;exact⟨(zWY S c hg true e).congr (d 4 e (by decide)).symm,a.symm⟩};{rw [e]at a ⊢;exact⟨(zD5 S c hg e).congr (d 5 e (by decide)).symm,a.symm⟩};{rw [e]at a ⊢;exact⟨(zD5 S c hg e).congr (d 6 e (by decide)).symm,a.symm⟩};{rw [e]at a ⊢;exact⟨(zD5 S c hg e).congr (d 7 e (by decide)).symm,a.symm⟩}
structure BackOk (b c:Bare):Prop where
 m:c.Memory=b.Memory
 o:c.Outs=b.Outs
 n:c.Guests.length=b.Guests.length
 g:∀j,hasB j (ln b.Guests)=true->GKeep (ix b.Guests j gZ) (ix c.Guests j gZ)
 p:zee b.Pending=true->zee c.Pending=true
theorem z7e {h:Host}(S:Safe h){m:Int}(b:hasB m (ln h.Mons)=true){c:Bare}(k:BackOk (zC h m) c):SimT h (zcJ h m c) m (λ_=>c):=by have X:=S.ok.mon b;have f:=zgJ b;have d:(zC h m).Guests=(ix h.Mons m mZ).Guests:=(by rw[f]);have l:c.Guests.length=(ix h.Mons m mZ).Guests.length:=(by rw[k.n,d]);have hg:∀j,hasB j (ln (ix h.Mons m mZ).Guests)=true->GKeep (ix (ix h.Mons m mZ).Guests j gZ) (ix c.Guests j gZ):=λj a=>(by have:=k.g j (by rw[d];exact a);rwa [d] at this);have kp:KeepP (ix h.Mons m mZ) (zr3 (ix h.Mons m mZ) c):=⟨rfl,rfl⟩;have s:zee c.Pending=true:=k.p (by rw[f];exact X.pend);refine⟨zxc S b kp (zmN X kp l rfl rfl X.outs s X.tr X.own λz t=>?_) l (λj a=>(hg j a).live) rfl,λi=>?_,zb4 _ _ _⟩;{obtain⟨j,a,rfl⟩:=zVW t gZ;exact zuF.2 (hg j (by unfold ln at a ⊢;rw[<- l];exact a)).ok};{refine(zvQ (h:=h) (r:=zcJ h m c) b rfl rfl kp i).trans ?_;by_cases e:i=m;{subst e;rw[zbC.2 rfl,cond_true,cond_true];show Bare.mk (zC h i).Memory c.Guests (ix h.Mons i mZ).Outs c.Pending=c;have u:=k.m;have q:=k.o;rw[f]at q;cases c;simp_all};{rw [zcf.2 e];rfl}}
theorem seen_none {h:Host}{m:Int}(a:hasB m (ln h.Mons)=false):zC h m=⟨[],[],[],0⟩:=by unfold zC;rw[a];rfl
theorem zuJ:zbY ⟨[],[],[],0⟩=false:=by decide
theorem zuY {b:Bare}(h:zbY b=false)(g:Int):zbZ b g=false:=by unfold zbZ;rw[h];rfl
theorem zjJ {b:Bare}(h:zbY b=true):BackOk b b:=⟨rfl,rfl,rfl,λj a=>⟨zuF.1 (by
 unfold zbY at h;rw[zcL,qM]at h;exact h.1 _ (znv a _)),rfl⟩,id⟩
theorem z2y {b:Bare}(h:zbY b=true){g:Int}(hg:hasB g (ln b.Guests)=true){y:Guest}(k:GKeep (gAt b g) y):BackOk b (zeK b g y):=by have e:gAt b g=ix b.Guests g gZ:=(by unfold gAt;rw[hg];rfl);refine⟨rfl,rfl,zb4 _ _ _,λj c=>?_,id⟩;show GKeep _ (ix (up b.Guests g y) j gZ);by_cases a:g=j;{subst a;rw[zbp hg,<- e];exact k};{rw [zbD (zJ.1 hg).1 (zJ.1 c).1 a];exact(zjJ h).g j c}
theorem zsM {b:Bare}(h:zbY b=true){g:Int}{c:Bool}{y:Guest}(k:hasB g (ln b.Guests)=true->c=true->GOk (gAt b g)->GKeep (gAt b g) y):BackOk b (chg b g c y):=by unfold chg zbZ;rw[h,cond_true];cases hg:hasB g (ln b.Guests) with|false=>exact zjJ h|true=>rw[cond_true];(cases c with|false=>exact zjJ h|true=>refine z2y h hg (k hg rfl ?_);have:=(zjJ h).g g hg;unfold gAt;rw[hg];exact this.ok)
theorem zrJ {h:Host}(S:Safe h)(m:Int){F:Bare->Bare}(d:∀b,zbY b=true->BackOk b (F b))(c:F ⟨[],[],[],0⟩=⟨[],[],[],0⟩):SimT h (zgb h m<|F<|zC h m) m F:=by unfold zgb zck;rw[zl7.2 S.ok,cond_true];cases a:hasB m (ln h.Mons) with|false=>refine(SimT.refl S m).congr ?_;rw[seen_none a];exact c.symm|true=>exact(z7e S a<|d _<|zy9 S.ok a).congr rfl
theorem zmU {h:Host}(S:Safe h)(m:Int){t:Bare->Bool}(a:t ⟨[],[],[],0⟩=false):zfg h m (t<|zC h m)=t (zC h m):=by unfold zfg zck;rw[zl7.2 S.ok,cond_true];cases b:hasB m (ln h.Mons) with|false=>rw[cond_false,seen_none b,a]|true=>rfl
theorem zrr (g:Int)(c:Bool)(y:Guest):chg ⟨[],[],[],0⟩ g c y=⟨[],[],[],0⟩:=by unfold chg;rw[zuY zuJ];rfl
theorem zld (g:Int)(c:Bool):zb2 ⟨[],[],[],0⟩ g c=false:=by unfold zb2;rw[zuY zuJ];rfl
theorem zW0 {t:List Slot}{n q:Int}(h:zdL t n q=true){p:Int}{s:Slot}(b:zeP s q=true):zdL (zeX t p s) n q=true:=by
 unfold zeX;cases hasB p (ln t) with
 |false=>exact h
 |true=>rw[cond_true];rw[zsJ]at h ⊢;rw[zeO];refine⟨λx c=>?_,h.2⟩;rcases qZ c with a|a;{exact h.1 x a};{rw [a];exact b}
theorem zbas {x:Guest}(X:GOk x){p:Int}{s:Slot}(h:ztP p s=true):GKeep x (zvR x p s):=by unfold ztP at h;rw[zcL]at h;exact⟨⟨X.prog,X.a,X.pc,zW0 X.w h.2,X.l,X.ctl,X.pend,X.ex,X.seen⟩,rfl⟩
theorem zbap {x:Guest}(X:GOk x){v:Int}(h:ztz x v=true):GKeep x (zuX x v):=by unfold ztz at h;rw[zcL]at h;unfold zuX;cases ieq x.Exit.Kind 2 with|true=>rw[cond_true];have b:=zlh (z0Q X h.1) (e:=zi5) rfl;have a:=zlg b.ok;exact⟨a.ok,a.live⟩|false=>rw[cond_false];have b:=zlh X (e:=zi5) rfl;have a:=zlg b.ok;exact⟨a.ok,a.live.trans b.live⟩
theorem zbar {x:Guest}(X:GOk x):GKeep x (zvD x):=by unfold zvD;have a:=zlh X (e:=zi5) rfl;cases ieq x.Exit.Kind 1 with|true=>exact a|false=>have b:=zZr a.ok;exact⟨b.ok,b.live.trans a.live⟩
theorem zZs {x:Guest}(X:GOk x)(n:Int):GKeep x (zmK x n):=zZt X (zRC X.pend n)
theorem zbaq {x:Guest}(X:GOk x){c:Ctl}(h:znn c=true):GKeep x (zCO x c):=⟨⟨X.prog,X.a,X.pc,X.w,X.l,h,X.pend,X.ex,X.seen⟩,rfl⟩
theorem zCJ (n:Int):∀(d:List Int) (b:Bare) (l:List Guest),(∀k∈d,hasB k (ln b.Guests)=true)->BackOk b {b with Guests:=l}->BackOk b {b with Guests:=znD n d l}
 |[],b,l,_,h=>h
 |k::d,b,l,q,h=>by show BackOk b {b with Guests:=znD n d (zEH n l k)};refine zCJ n d b _ (λj a=>q j (jA _ a)) ⟨h.m,h.o,by show (up l k _).length=_;rw[zb4];exact h.n,λj a=>?_,h.p⟩;show GKeep _ (ix (up l k _) j gZ);have r:l.length=b.Guests.length:=h.n;have c:hasB k (ln l)=true:=(by unfold ln;rw[r];exact q k jF);by_cases e:k=j;{subst e;rw[zbp c];have f:=h.g k a;have i:=zZs f.ok n;exact⟨i.ok,i.live.trans f.live⟩};{rw [zbD (zJ.1 c).1 (zJ.1 a).1 e];exact h.g j a}
theorem z0e {b:Bare}(h:zbY b=true)(n:Int):BackOk b (zjR b n):=by
 unfold zjR zfZ zEI;rw[h,cond_true];cases hasB n 8 with
 |false=>exact zjJ h
 |true=>
  rw[cond_true];cases ieq (ln<|ze8 b.Guests n) 0 with
  |true=>have:=zjJ h;exact⟨rfl,rfl,rfl,this.g,λc=>zRC c n⟩
  |false=>rw[cond_false];refine zCJ n _ b b.Guests (λk a=>?_) (zjJ h);unfold ze8 at a;obtain⟨j,e,rfl,_⟩:=(zIJ (d:=gZ)).1 a;exact zJ.2 ⟨by omega,by unfold ln;omega⟩
theorem z2x {b:Bare}(h:zbY b=true):BackOk b (zlb b):=by unfold zlb;rw[h,cond_true];exact⟨rfl,rfl,rfl,(zjJ h).g,λa=>zRD a⟩
theorem z6S {h:Host}(S:Safe h)(m p c v:Int):SimT h (zli h m p c v) m (λb=>zoK b p c v)/\zdO h m p c v=zkG (zC h m) p c v:=by have e:zdO h m p c v=zkG (zC h m) p c v:=(by unfold zdO zkG zb9 zML;rw[zl7.2 S.ok,cond_true];cases d:hasB m (ln h.Mons) with|false=>rw[seen_none d,zuJ];rfl|true=>rw[zy9 S.ok d,cond_true];rfl);refine⟨?_,e⟩;unfold zli;cases f:zdO h m p c v with|false=>refine(SimT.refl S m).congr ?_;unfold zoK;rw[<- e,f];rfl|true=>rw[cond_true];have a:=f;unfold zdO at a;rw[zcL,zcL]at a;obtain⟨k,_,_⟩:=a;obtain⟨_,d,j⟩:=zp7.1 k;have M:=zRx S.ok (m:=m) (p:=p) 2 d j;have i:=M.op.sim S m;have g:hasB m (ln (mended h m p 2).Mons)=true:=(by rw[i.has];exact d);obtain⟨l,_⟩:=zxd i.safe g j rfl M.inn c v;refine(i.trans l).congr ?_;unfold zoK;rw[<- e,f];rfl
theorem z3O {h:Host}(S:Safe h)(m g b a:Int):zb1 h m g b a=(cond (zbZ (zC h m) g) (cond (zhd a) (zfq (gAt (zC h m) g).Live b a) false) false):=by have e:zcb h m g=zbZ (zC h m) g:=(by unfold zcb zbZ;rw[zl7.2 S.ok,cond_true];cases c:hasB m (ln h.Mons) with|false=>rw[seen_none c,zuJ,cond_false,cond_false]|true=>rw[cond_true,zy9 S.ok c,cond_true];have:(zC h m).Guests=(ix h.Mons m mZ).Guests:=(by rw[zgJ c]);rw[this]);unfold zb1;rw[<- e];cases hg:zcb h m g with|false=>rw[cond_false,cond_false]|true=>obtain⟨_,c,hg⟩:=zlM.1 hg;have:(gAt (zC h m) g).Live=zcV h m g:=(by rw[zvb c hg];rfl);rw[this]
theorem zHN {h:Host}(S:Safe h)(m g a n:Int)(b:n=1\/n=2):zpR (zC h m) g a n=bif zl a 0 15 then zb1 h m g (zbn a) n else false:=by rw[z3O S];unfold zpR;rw[zGV.2 b,cond_true];cases zbZ (zC h m) g<;>cases zl a 0 15<;>rfl
theorem zUA {h:Host}(S:Safe h){m g a n:Int}(f:n=1\/n=2)(b:zpR (zC h m) g a n=true) :
 Looked h (zDn h m g a n).1 m g (zbn a) n (zEq (zC h m) g a n) (zDn h m g a n).2.1/\hasB m (ln h.Mons)=true/\hasB (zEq (zC h m) g a n) 8=true:=by
 rw[zHN S m g a n f,zcL]at b;obtain⟨L,_⟩:=zRq S true b.2 S.rt.e2;obtain⟨d,_,i⟩:=zsc.1 b.2;obtain⟨_,c,hg⟩:=zlM.1 d;have e:zEq (zC h m) g a n=zcH (zcV h m g) (zbn a) n:=by unfold zEq;rw[zvb c hg];rfl
 rw[e];exact⟨L,c,(walked (S.ok.guest c hg) i).q8⟩
theorem zbbJ {h:Host}(S:Safe h)(m g a v:Int):SimT h (znu h m g a v) m (λb=>z0E b g a v)/\zg3 h m g a v=zzH (zC h m) g a v:=by have e:zg3 h m g a v=zzH (zC h m) g a v:=(by unfold zg3 zzH;rw[zHN S m g a 2 (.inr rfl)];cases zl a 0 15<;>cases zl v 0 99<;>cases zb1 h m g (zbn a) 2<;>rfl);refine⟨?_,e⟩;unfold znu;cases c:zg3 h m g a v with|false=>refine(SimT.refl S m).congr ?_;unfold z0E;rw[<- e,c];rfl|true=>rw[cond_true];have f:zpR (zC h m) g a 2=true:=(by have:=e.symm.trans c;unfold zzH at this;exact(zcL.1 this).1);obtain⟨L,i,j⟩:=zUA S (.inr rfl) f;have d:=L.op.sim S m;obtain⟨k,_⟩:=zxd d.safe (by rw[d.has];exact i) j L.inn L.ne (zd7 a) v;refine(d.trans k).congr ?_;unfold z0E;rw[<- e,c];rfl
theorem zbaN {h:Host}(S:Safe h)(m g a:Int):SimT h (zlj h m g a) m id/\zf8 h m g a=zpR (zC h m) g a 1/\zmG h m g a=zTQ (zC h m) g a:=by have e:zf8 h m g a=zpR (zC h m) g a 1:=(by unfold zf8;rw[zHN S m g a 1 (.inl rfl)]);unfold zlj zmG zTQ;rw[e];cases d:zpR (zC h m) g a 1 with|false=>exact⟨SimT.refl S m,rfl,rfl⟩|true=>obtain⟨L,f,i⟩:=zUA S (.inl rfl) d;have b:=L.op.sim S m;obtain⟨_,c⟩:=zxd b.safe (by rw[b.has];exact f) i L.inn L.ne (zd7 a) 0;rw[L.op.like.seen m] at c;exact⟨b,rfl,c⟩
theorem z3B {k:Kept}{a b:List Slot}(h:KOk k a b)(p:Int)(s:Slot):KOk (zcd k p) (zeX a p s) b:=by have j:=zmE k p;have f:(zeX a p s).length=a.length:=(by unfold zeX;cases hasB p (ln a)<;>simp [zb4]);refine⟨by rw[j.1,f,h.l1],by rw[j.2,f,h.l2],λi l=>?_⟩;have c:hasB i (ln a)=true:=(by unfold ln at l ⊢;rwa [<- f]);have d:hasB i (ln k.Known)=true:=(by unfold ln at c ⊢;rwa [h.l1]);have g:=zxw (q:=p) (by rw[h.l1,h.l2]) d;rw[g.1,g.2];by_cases e:p=i;{subst e;rw[zbC.2 rfl];rfl};{rw [zcf.2 e,cond_false,cond_false,h.at' i c];have:ix (zeX a p s) i sZ=ix a i sZ:=(by unfold zeX;cases m:hasB p (ln a) with|false=>rfl|true=>exact zbD (zJ.1 m).1 (zJ.1 c).1 e _ _);rw[this]}
theorem zbcc {t m g:Int}(a:zex t=m)(b:zfp t=g)(c:0<=m):t=zeW m g:=by subst a;subst b;by_cases h:1<=t/\t<=6;{have e:t=1\/t=2\/t=3\/t=4\/t=5\/t=6:=(by omega);rcases e with rfl|rfl|rfl|rfl|rfl|rfl<;>decide};{exfalso;have:zex t = -1:=(by unfold zex ige ile;rw[show (decide (t≥1)&&decide (t<=6))=false by simp;omega];rfl);omega}
theorem zYW {t:List Slot}{p q:Int}{s:Slot}(h:q≠p):zbK (zeX t p s) q=zbK t q:=by unfold zeX;cases a:hasB p (ln t) with|false=>rfl|true=>exact zRN (zJ.1 a).1 h
theorem z7f {t:List Slot}(h:zdL t 4 8=true)(p:Int):zeP (zbK t p) 8=true:=by unfold zbK;cases a:hasB p (ln t) with|false=>rfl|true=>exact(zsJ.1 h).1 _ (znv a _)
theorem z3s {x:Guest}(X:GOk x)(p:Int):GOk (zev x p):=⟨X.prog,X.a,X.pc,X.w,zW0 X.l<|z7f X.w p,X.ctl,X.pend,X.ex,X.seen⟩
theorem z6i {h:Host}(S:Safe h)(m g p:Int):SimT h (zjM h m g p) m (λb=>chg b g (hasB p 4) (zev (gAt b g) p))/\zfg h m (zb2 (zC h m) g<|hasB p 4)=zb2 (zC h m) g (hasB p 4):=by
 refine⟨?_,zmU S m (t:=λb=>zb2 b g (hasB p 4))<|zld g _⟩;unfold zjM zck;rw[zl7.2 S.ok,cond_true];cases a:hasB m (ln h.Mons) with
 |false=>refine(SimT.refl S m).congr ?_;rw[seen_none a,zrr];rfl
 |true=>
  rw[cond_true];cases w:zb2 (zC h m) g (hasB p 4) with
  |false=>refine(SimT.refl S m).congr ?_;show zC h m=chg (zC h m) g (hasB p 4) (zev (gAt (zC h m) g) p);have c:=w;unfold zb2 at c;unfold chg;rw[c];rfl
  |true=>rw[cond_true];have c:=w;unfold zb2 zbZ at c;rw[zy9 S.ok a,cond_true,zcL,zgJ a]at c;have hg:hasB g (ln (ix h.Mons m mZ).Guests)=true:=c.1;have X:=S.ok.mon a;have G:=S.ok.seenG a hg;have C:chg (zC h m) g (hasB p 4) (zev (gAt (zC h m) g) p)=zeK (zC h m) g (zev (gOf h m g) p):=(by have l:=w;unfold zb2 at l;unfold chg;rw[l,zvb a hg];rfl);rw[C];have B:hasB g (ln (ix h.Mons m mZ).Tables)=true:=(by unfold ln;rw[X.gt];exact hg);have s:(zCZ (zcJ h m<|zeK (zC h m) g<|zev (gOf h m g) p) m g p).Mons=up h.Mons m {ix h.Mons m mZ with Guests:=up (ix h.Mons m mZ).Guests g (zev (gOf h m g) p),Tables:=up (ix h.Mons m mZ).Tables g (zcd (ix (ix h.Mons m mZ).Tables g kZ) p)}:=(by show up (up h.Mons m _) m _=_;rw[z4Y];have D:ix (zcJ h m<|zeK (zC h m) g<|zev (gOf h m g) p).Mons m mZ=zr3 (ix h.Mons m mZ) (zeK (zC h m) g<|zev (gOf h m g) p):=zbp a _ _;rw[D];unfold zr3 zeK;rw[zgJ a]);have kp:KeepP (ix h.Mons m mZ) {ix h.Mons m mZ with Guests:=up (ix h.Mons m mZ).Guests g (zev (gOf h m g) p),Tables:=up (ix h.Mons m mZ).Tables g (zcd (ix (ix h.Mons m mZ).Tables g kZ) p)}:=⟨rfl,rfl⟩;have K:MOk {ix h.Mons m mZ with Guests:=up (ix h.Mons m mZ).Guests g (zev (gOf h m g) p),Tables:=up (ix h.Mons m mZ).Tables g (zcd (ix (ix h.Mons m mZ).Tables g kZ) p)}:=zmN X kp (zb4 _ _ _) (zb4 _ _ _) rfl X.outs X.pend X.tr X.own λz L=>(by rcases qZ L with h|h;{exact X.gs z h};{rw [h];exact zuF.2 (z3s G p)});have E:HOk (zCZ (zcJ h m<|zeK (zC h m) g<|zev (gOf h m g) p) m g p):=S.ok.up a K s S.ok.m12 S.ok.pgs (zzw S.ok.b1 _) (zzw S.ok.b2 _) λq _=>.inl (qX _);have u:∀b:List Entry,(∀e∈b,zdM h e=true)->∀e∈zdg b (zeW m g) p,zdM (zCZ (zcJ h m<|zeK (zC h m) g<|zev (gOf h m g) p) m g p) e=true:=(by intro b F e H;obtain⟨x,y⟩:=zzK.1 H;obtain⟨l,n,r⟩:=zg2.1 (F e x);rw[zg2,s,zeO];refine⟨l,?_⟩;by_cases d:m=zex e.Tag;{rw [<- d]at l n r ⊢;rw[zbp a];show hasB (zfp e.Tag) (ln<|up _ _ _)=true/\below' _ (zbH (zbK (ix (up (ix h.Mons m mZ).Guests g _) (zfp e.Tag) gZ).Live e.Page) (ix h.Mons m mZ).Outer)=true;rw[zeO];refine⟨n,?_⟩;by_cases f:g=zfp e.Tag;{rw [<- f]at n r ⊢;rw[zbp hg];have A:e.Page≠p:=λJ=>y ⟨zbcc d.symm f.symm (zJ.1 a).1,J⟩;show below' _ (zbH (zbK (zeX (gOf h m g).Live p _) e.Page) _)=true;rw[zYW A];exact r};{rw [zbD (zJ.1 hg).1 (zJ.1 n).1 f];exact r}};{rw [zbD (zJ.1 a).1 (zJ.1 l).1 d];exact⟨n,r⟩});refine⟨⟨E,⟨λi v=>?_,u _ S.rt.e1,u _ S.rt.e2⟩⟩,λi=>?_,by rw[s,zb4]⟩;{rw [s]at v ⊢;rw[zeO]at v;by_cases d:m=i;{subst d;rw[zbp a];intro j I;show KOk (ix (up (ix h.Mons m mZ).Tables g _) j kZ) (ix (up (ix h.Mons m mZ).Guests g _) j gZ).Live (ix h.Mons m mZ).Outer;have k:hasB j (ln (ix h.Mons m mZ).Guests)=true:=(by have:hasB j (ln<|up (ix h.Mons m mZ).Guests g<|zev (gOf h m g) p)=true:=I;rwa [zeO] at this);by_cases e:g=j;{subst e;rw[zbp B,zbp hg];exact z3B (S.rt.t m a g hg) p _};{rw [zbD (zJ.1 hg).1 (zJ.1 k).1 e,zbD (zJ.1 hg).1 (zJ.1 k).1 e];exact S.rt.t m a j k}};{rw [zbD (zJ.1 a).1 (zJ.1 v).1 d];exact S.rt.t i v}};{refine(zvQ (h:=h) a s rfl kp i).trans ?_;by_cases e:i=m;{subst e;rw[zbC.2 rfl,cond_true,cond_true,C,zgJ a];rfl};{rw [zcf.2 e];rfl}}
theorem zRW (g:Int):zfN ⟨[],[],[],0⟩ g=⟨[],[],[],0⟩/\zh5 ⟨[],[],[],0⟩ g=false:=by have:zh5 ⟨[],[],[],0⟩ g=false:=(by unfold zh5;rw[zZy];rfl);refine⟨?_,this⟩;unfold zfN;rw[this];rfl
theorem z6n {h:Host}(S:Safe h)(a:GAct):SimT h (zgP h a) a.M (λb=>zKu b a)/\zhR h a=zKv (zC h a.M) a:=by
 have f:=zuJ;unfold zgP zhR zKu zKv;cases ieq a.Kind 1 with
 |true=>obtain⟨k,e⟩:=step_ok S a.M a.G;exact⟨k,by rw[cond_true,cond_true,e]⟩
 |false=>
  simp only[cond_false];cases ieq a.Kind 2 with
  |true=>
   exact⟨zrJ S a.M (F:=λb=>chg b a.G (ztP a.X ⟨a.Y,a.Z⟩) (zvR (gAt b a.G) a.X ⟨a.Y,a.Z⟩)) (λb c=>zsM c λ_ d G=>zbas G d)<|zrr _ _ _,
    congrArg (λt=>Told.mk t 0) (zmU S a.M (t:=λb=>zb2 b a.G (ztP a.X ⟨a.Y,a.Z⟩))<|zld _ _)⟩
  |false=>
   simp only[cond_false];cases ieq a.Kind 3 with
   |true=>obtain⟨k,e⟩:=z6i S a.M a.G a.X;exact⟨k,congrArg (λt=>Told.mk t 0) e⟩
   |false=>
    simp only[cond_false];cases ieq a.Kind 4 with
    |true=>
     exact⟨zrJ S a.M (F:=λb=>chg b a.G (ztz (gAt b a.G) a.X) (zuX (gAt b a.G) a.X)) (λb c=>zsM c λ_ d G=>zbap G d)<|zrr _ _ _,
      congrArg (λt=>Told.mk t 0) (zmU S a.M (t:=λb=>zb2 b a.G (ztz (gAt b a.G) a.X))<|zld _ _)⟩
    |false=>
     simp only[cond_false];cases ieq a.Kind 5 with
     |true=>
      exact⟨zrJ S a.M (F:=λb=>chg b a.G (zxD<|gAt b a.G) (zvD<|gAt b a.G)) (λb c=>zsM c λ_ _ G=>zbar G)<|zrr _ _ _,
       congrArg (λt=>Told.mk t 0) (zmU S a.M (t:=λb=>zb2 b a.G (zxD<|gAt b a.G))<|zld _ _)⟩
     |false=>
      simp only[cond_false];cases ieq a.Kind 6 with
      |true=>
       exact⟨zrJ S a.M (F:=λb=>chg b a.G (zhV (gAt b a.G).Pending a.X) (zmK (gAt b a.G) a.X)) (λb c=>zsM c λ_ _ G=>zZs G _)<|zrr _ _ _,
        congrArg (λt=>Told.mk t 0) (zmU S a.M (t:=λb=>zb2 b a.G (zhV (gAt b a.G).Pending a.X))<|zld _ _)⟩
      |false=>
       simp only[cond_false];cases ieq a.Kind 7 with
       |true=>
        exact⟨zrJ S a.M (F:=λb=>chg b a.G (znn ⟨a.X,a.Y,ieq a.Z 1⟩) (zCO (gAt b a.G) ⟨a.X,a.Y,ieq a.Z 1⟩)) (λb c=>zsM c λ_ d G=>zbaq G d)<|zrr _ _ _,
         congrArg (λt=>Told.mk t 0) (zmU S a.M (t:=λb=>zb2 b a.G (znn ⟨a.X,a.Y,ieq a.Z 1⟩))<|zld _ _)⟩
       |false=>
        simp only[cond_false];cases ieq a.Kind 8 with
        |true=>obtain⟨k,e⟩:=z6S S a.M a.X a.Y a.Z;exact⟨k,congrArg (λt=>Told.mk t 0) e⟩
        |false=>
         simp only[cond_false];cases ieq a.Kind 9 with
         |true=>
          exact⟨zrJ S a.M (F:=λb=>zjR b a.X) (λb c=>z0e c _) (by unfold zjR zfZ;rw[f];rfl),
           congrArg (λt=>Told.mk t 0) (zmU S a.M (t:=λb=>zfZ b a.X) (by unfold zfZ;rw[f];rfl))⟩
         |false=>
          simp only[cond_false];cases ieq a.Kind 10 with
          |true=>refine⟨zrJ S a.M (F:=zlb) (λb c=>z2x c) (by unfold zlb;rw[f];rfl),?_⟩;have e:=zmU S a.M (t:=zko) (by unfold zko;rw[f];rfl);show Told.mk (zfg h a.M<|zko<|zC h a.M) (cond (zck h a.M) (zro<|zC h a.M)<|-1)=⟨zko<|zC h a.M,zro<|zC h a.M⟩;rw[e];congr 1;unfold zck;rw[zl7.2 S.ok,cond_true];cases j:hasB a.M (ln h.Mons) with|true=>rfl|false=>rw[seen_none j];unfold zro;rw[f];rfl
          |false=>
           simp only[cond_false];cases ieq a.Kind 11 with
           |true=>obtain⟨k,e⟩:=zbbJ S a.M a.G a.X a.Y;exact⟨k,congrArg (λt=>Told.mk t 0) e⟩
           |false=>obtain⟨k,g,i⟩:=zbaN S a.M a.G a.X;exact⟨k,by simp only[cond_false];rw[g,i]⟩
theorem z6K {h:Host}(S:Safe h)(a:GAct):Safe (zi8 h a)/\(∀i,zC (zi8 h a) i=zC h i)/\(zi8 h a).Mons.length=h.Mons.length:=by
 unfold zi8;have k:∀r,Op h r->Safe r/\(∀i,zC r i=zC h i)/\r.Mons.length=h.Mons.length:=λr k=>⟨k.safe S,λi=>k.like.seen i,k.like.len⟩;cases ieq a.Kind 13 with
 |true=>exact k _ (z1m S.ok _ _)
 |false=>
  simp only[cond_false];cases ieq a.Kind 14 with
  |true=>exact k _ (z4c S.ok _ _)
  |false=>
   simp only[cond_false];cases ieq a.Kind 15 with
   |true=>exact k _ (z4b S.ok _ _)
   |false=>
    simp only[cond_false];cases ieq a.Kind 16 with
    |true=>obtain⟨b,c⟩:=zTq S a.M a.X;refine⟨b,c,?_⟩;simp only[cond_true];unfold zjm;cases zb0 h<;>cases hasB a.M (ln h.Mons)<;>cases zl a.X 0 3<;>first|rfl|exact zb4 _ _ _
    |false=>exact k _ (zbaI S.ok)
def zll (a:GAct):Bool:=bif zl a.Kind 1 17 then !zl a.Kind 13 17 else false
theorem zKr {h:Host}(S:Safe h)(a:GAct):Safe (zbU h a)/\(zbU h a).Mons.length=h.Mons.length/\
 (∀i,zC (zbU h a) i=bif (cond (zll a) (ieq i a.M) false) then zKu (zC h i) a else zC h i)/\(zll a=true->zcP h a=zKv (zC h a.M) a):=by
 unfold zbU zcP zll;cases zl a.Kind 1 17 with
 |false=>exact⟨S,rfl,λ_=>rfl,λe=>by cases e⟩
 |true=>
  simp only[cond_true];cases zl a.Kind 13 17 with
  |true=>obtain⟨b,c,d⟩:=z6K S a;exact⟨b,d,λi=>by simp only[cond_true,kE,cond_false];exact c i,λe=>by cases e⟩
  |false=>obtain⟨k,e⟩:=z6n S a;exact⟨k.safe,k.len,λi=>by simp only[cond_false,kU,cond_true];exact k.seen i,λ_=>e⟩
def zeF (h:Host):List Bare:=(List.range h.Mons.length).map λ(i:Nat)=>zC h (i:Int)
theorem zl4 (h:Host):(zeF h).length=h.Mons.length:=by simp[zeF]
theorem zog (h:Host)(m:Int):hasB m (ln<|zeF h)=hasB m (ln h.Mons):=by unfold ln;rw[zl4]
theorem znk {h:Host}{m:Int}(c:hasB m (ln h.Mons)=true)(d:Bare):ix (zeF h) m d=zC h m:=by have a:=zJ.1 c;unfold ln at a;have b:m.toNat<(zeF h).length:=(by rw[zl4];omega);have:=zol b d;rw[show ((m.toNat:Nat):Int)=m by omega] at this;rw[this];simp[zeF,show max m 0=m by omega]
theorem z0a {h r:Host}(a:r.Mons.length=h.Mons.length)(e:∀i,zC r i=zC h i):zeF r=zeF h:=by unfold zeF;rw[a];exact List.map_congr_left λi _=>e _
theorem zXG {h:Host}(S:Safe h)(a:GAct):zeF (zbU h a)=zKw (zeF h) a/\(zll a=true->zcP h a=z0d (zeF h) a):=by obtain⟨_,k,l,t⟩:=zKr S a;have p:zll a=true->zeF (zbU h a)=(cond (hasB a.M<|ln h.Mons) (up (zeF h) a.M<|zKu (zC h a.M) a)<|zeF h):=(by intro b;rw[b]at l;cases f:hasB a.M (ln h.Mons) with|false=>rw[cond_false];refine zPP ⟨[],[],[],0⟩ (by rw[zl4,zl4,k]) λi c=>?_;rw[zog]at c;rw[znk c];have d:hasB i (ln h.Mons)=true:=(by unfold ln at c ⊢;rwa [<- k]);rw[znk d,l i];have:ieq i a.M=false:=zcf.2 λe=>(by rw[e,f]at d;cases d);rw[this];rfl|true=>rw[cond_true];refine zPP ⟨[],[],[],0⟩ (by rw[zb4,zl4,zl4,k]) λi c=>?_;rw[zog]at c;rw[znk c,l i];have d:hasB i (ln h.Mons)=true:=(by unfold ln at c ⊢;rwa [<- k]);by_cases e:i=a.M;{rw [e,zbC.2 rfl,zbp (by rw[zog];exact f)];rfl};{rw [zcf.2 e,zbD (zJ.1 f).1 (zJ.1 d).1<|Ne.symm e,znk d];rfl});have s:zll a=false->zeF (zbU h a)=zeF h:=λb=>z0a k λi=>(by rw[l i,b];rfl);have r:zll a=true->zl a.Kind 1 17=true/\zl a.Kind 13 17=false:=(by intro b;unfold zll at b;cases g:zl a.Kind 1 17<;>cases j:zl a.Kind 13 17<;>rw [g,j]at b<;>first|exact⟨rfl,rfl⟩|cases b);constructor;{unfold zKw;cases b:zll a with|true=>obtain⟨g,j⟩:=r b;rw[g,j,cond_true,cond_false,zog,p b];(cases f:hasB a.M (ln h.Mons) with|true=>rw[cond_true,cond_true,znk f]|false=>rfl)|false=>rw[s b];unfold zll at b;(cases g:zl a.Kind 1 17 with|false=>rfl|true=>(cases j:zl a.Kind 13 17 with|true=>rfl|false=>rw[g,j]at b;cases b))};{intro b;rw[t b];obtain⟨g,j⟩:=r b;unfold z0d;rw[g,j,cond_true,cond_false,zog];cases f:hasB a.M (ln h.Mons) with|true=>rw[cond_true,znk f]|false=>rw[cond_false,seen_none f];have n:=(zRW a.G).2;have q:=zuJ;unfold zKv;simp only[n,zld];unfold zkG zfZ zko zro zzH zTQ zpR;simp only[q,zuY q,cond_false];(cases m:ieq a.Kind 10 with|true=>have:a.Kind=10:=zbC.1 m;rw[this];rfl|false=>cases ieq a.Kind 1<;>cases ieq a.Kind 2<;>cases ieq a.Kind 3<;>cases ieq a.Kind 4<;>cases ieq a.Kind 5<;>cases ieq a.Kind 6<;>cases ieq a.Kind 7<;>cases ieq a.Kind 8<;>cases ieq a.Kind 9<;>cases ieq a.Kind 11<;>rfl)}
def zL3:List GAct->List Told->List Told
 |a::l,t::ts=>bif zll a then t::zL3 l ts else zL3 l ts
 |_,_=>[]
structure Live (u:Host×List Told) (v:List Bare×List Told):Prop where
 safe:Safe u.1
 seen:zeF u.1=v.1
def zEd:List GAct->Host->List Told
 |[],_=>[]
 |a::l,h=>zcP h a::zEd l (zbU h a)
def z4X:List GAct->List Bare->List Told
 |[],_=>[]
 |a::l,b=>z0d b a::z4X l (zKw b a)
def zwk:List GAct->Host->Host
 |[],h=>h
 |a::l,h=>zwk l (zbU h a)
def z6e:List GAct->List Bare->List Bare
 |[],b=>b
 |a::l,b=>z6e l (zKw b a)
theorem zZN:∀(l:List GAct) (u:Host×List Told),zDM l u=(zwk l u.1,u.2++zEd l u.1)
 |[],u=>by simp[zDM,zwk,zEd]
 |a::l,u=>by rw[zDM,zZN l];simp[zwk,zEd,ap]
theorem z3j:∀(l:List GAct) {h:Host},Safe h->Safe (zwk l h)/\zeF (zwk l h)=z6e l (zeF h)/\zL3 l (zEd l h)=zL3 l (z4X l<|zeF h)/\(zwk l h).Mons.length=h.Mons.length
 |[],h,S=>⟨S,rfl,rfl,rfl⟩
 |a::l,h,S=>by have d:=zKr S a;have b:=zXG S a;obtain⟨e,f,c,g⟩:=z3j l d.1;refine⟨e,by show zeF (zwk l<|zbU h a)=z6e l (zKw (zeF h) a);rw[f,b.1],?_,g.trans d.2.1⟩;show (cond (zll a) _ _)=(cond (zll a) _ _);cases i:zll a with|false=>rw[cond_false,cond_false,c,b.1]|true=>rw[cond_true,cond_true,c,b.1,b.2 i]
theorem cz8 (q:Int)(b:0<=q):zvU.countP (λs=>ieq s.Page q)=0:=by rw[vC];intro s a;have:=(uR.1 a).2;rw[this];show ¬ ieq (-1) q=true;rw[zbC];omega
theorem zXW {p:List Ins}(h:zd5 p=true):GOk (zgf p):=⟨h,rfl,rfl,rfl,rfl,rfl,rfl,rfl,rfl⟩
theorem z3V {a:List (List Ins)}(i:1<=a.length)(h:∀p∈a,zd5 p=true):MOk (zis a):=by have d:∀s∈zvU,s=noSlot:=λs c=>(uR.1 c).2;refine⟨?_,?_,?_,rfl,λs c=>.inl (d s c),rfl,rfl,jX _,rfl,rfl,rfl,λg hg=>?_,λp b=>?_⟩;{show 1<=((a.take 2).map zgf).length;simp;omega};{show ((a.take 2).map zgf).length<=2;simp;omega};{show ((a.take 2).map λ_=>zl9).length=((a.take 2).map zgf).length;simp};{obtain⟨p,b,rfl⟩:=jH.1 hg;exact zuF.2 (zXW<|h p<|jY b)};{have f:=zJ.1 b;have e:p=0\/p=1\/p=2\/p=3\/p=4\/p=5\/p=6\/p=7:=(by omega);rcases e with rfl|rfl|rfl|rfl|rfl|rfl|rfl|rfl<;>rfl}
def z9I (a:List (List<|List Ins)):Prop:=1<=a.length/\∀p∈a,1<=p.length/\∀x∈p,zd5 x=true
theorem z0V {a:List (List<|List Ins)}(h:z9I a):Safe (zgZ a):=by have b:∀x∈(zgZ a).Mons,∃p∈a,x=zis p:=λx f=>(by obtain⟨p,j,rfl⟩:=jH.1 f;exact⟨p,jY j,rfl⟩);have u:∀x∈(zgZ a).Mons,x.Outer=zvU:=λx f=>(by obtain⟨p,_,rfl⟩:=b x f;rfl);have H:HOk (zgZ a):=(by refine⟨rfl,λc v=>?_,?_,?_,rfl,rfl,λx f=>?_,λq B=>?_⟩;{have:c=[0,0,0,0]:=(uR.1 v).2;rw[this];rfl};{show 1<=((a.take 3).map zis).length;have:=h.1;simp;omega};{show ((a.take 3).map zis).length<=3;simp;omega};{obtain⟨p,j,rfl⟩:=b x f;exact z3V (h.2 p j).1 (h.2 p j).2};{have:zgz (zgZ a).Mons q=0:=(by unfold zgz;have:(zgZ a).Mons.map (λx=>cPg x q)=(zgZ a).Mons.map (λ_=>0):=List.map_congr_left λx f=>(by unfold cPg;rw[u x f];exact cz8 q B);rw[this];generalize (zgZ a).Mons=l;induction l with|nil=>rfl|cons x l D=>rw[jG,uL,D]);omega});refine⟨H,λm A g hg=>?_,λe r=>(by cases r),λe r=>(by cases r)⟩;obtain⟨p,j,e⟩:=b _ (znv A mZ);rw[e]at hg ⊢;have d:hasB g (ln<|(p.take 2).map zgf)=true:=hg;have C:ix (zis p).Tables g kZ=zl9:=(by have:hasB g (ln<|(p.take 2).map λ_=>zl9)=true:=(by unfold ln at d ⊢;simpa using d);obtain⟨k,y,_,n⟩:=zzY this kZ;show ix ((p.take 2).map λ_=>zl9) g kZ=_;rw[n];simp);have z:(ix (zis p).Guests g gZ).Live=znc:=(by obtain⟨k,y,_,n⟩:=zzY d gZ;show (ix ((p.take 2).map zgf) g gZ).Live=_;rw[n];simp[zgf]);rw[C,z];show KOk zl9 znc zvU;refine⟨rfl,rfl,λi w=>?_⟩;have s:=zJ.1 w;have:ln znc=4:=rfl;rw[this]at s;have t:i=0\/i=1\/i=2\/i=3:=(by omega);rcases t with rfl|rfl|rfl|rfl<;>rfl
theorem zZS:∀(l:List GAct) (u:Host×List Told),SmH u.1->SmH (zDM l u).1
 |[],u,h=>h
 |a::l,u,h=>zZS l (zbU u.1 a,ap u.2 [zcP u.1 a]) (zEN h)
theorem zVR {h:Host}(L:zEj h):Safe h/\SmH h:=by obtain⟨c,l,a,b,rfl⟩:=L;refine⟨?_,zZS _ _<|zZR a⟩;unfold zzV;rw[zZN];exact(z3j _<|z0V b).1
def z2G:zba:=z2E
theorem zwh:zT z2G:=z2F
structure MonS (x:Mon):Prop where
 sm:zfx x
 g1:1<=x.Guests.length
 g2:x.Guests.length<=2
 t2:x.Tables.length<=2
 o8:x.Outer.length<=8
 pg:∀s∈x.Outer,I64 s.Page
structure AnyH (h:Host):Prop where
 mem:SmM h.Memory
 n1:1<=h.Mons.length
 n3:h.Mons.length<=3
 mons:∀x∈h.Mons,MonS x
 b1:h.Buffer.length<=1048576
 b2:h.IoBuffer.length<=1048576
theorem AnyH.sm {h:Host}(k:AnyH h):SmH h:=⟨k.mem,⟨qU k.n3 (by decide),λx a=>(k.mons x a).sm⟩,k.b1,k.b2⟩
theorem z6Z {h:Host}(S:Safe h)(sm:SmH h):AnyH h :=
 ⟨sm.1,S.ok.n1,S.ok.n3,λx a=>by
  have k:=S.ok.mons x a;refine⟨sm.2.1.2 x a,k.g1,k.g2,by rw[k.gt];exact k.g2,by rw[k.o8];exact qX 8,λs b=>?_⟩
  rcases k.sl s b with rfl|⟨c,d,_⟩
  .exact⟨by decide,by decide⟩
  .exact⟨by omega,by omega⟩,sm.2.2.1,sm.2.2.2⟩
theorem zye {h:Host}(k:AnyH h)(i:Int){x:Mon}(b:MonS x):AnyH {h with Mons:=up h.Mons i x} :=
 ⟨k.mem,by rw[zjO];exact k.n1,by rw[zjO];exact k.n3,λy a=>by
  rcases qZ a with a|rfl
  .exact k.mons y a
  .exact b,k.b1,k.b2⟩
theorem zbb9 {g:Guest}(h:GuS g):SmG g:=⟨qU h.1 (by decide),qU h.2.1 (by decide),qU h.2.2.1 (by decide),qU h.2.2.2 (by decide)⟩
theorem z7j {l:List Guest}(h:zmt l)(i:Int){g:Guest}(hg:SmG g):zmt (up l i g):=
 ⟨by rw[zjO];exact h.1,λy a=>by
  rcases qZ a with a|rfl
  .exact h.2 y a
  .exact hg⟩
theorem zba1 {l:List (List Int)}(h:SmM l)(i:Int){g:List Int}(hg:g.length<=1048576):SmM (up l i g):=
 ⟨by rw[zjO];exact h.1,λy a=>by
  rcases qZ a with a|rfl
  .exact h.2 y a
  .exact hg⟩
def zzp (N:Nat)(c:Cur)  : OA :=
 let j:=ziL c;let r:=({ (zkj c) with b:=c.b}:Cur);let f:=j.Mons;let k:=zu r<|ln f;let m:=inb k<|ln f;let g:=ix f k zh;let q:=({ (zf r<|ln f) with b:=c.b}:Cur);let e:=zf q 24;let l:=zu q 24;let a:=({e with b:=c.b}:Cur);let n:=zbb a [-1,1000000000,1000000001];let p:=({ (zf a 8) with b:=c.b}:Cur); (oN (zgF c)<|oN (zD r<|ln f)<|oN (zD q 24)<|cond (ieq l 0) (oN (zgV a 8 12)<|oN m<|share (up f k ({g with Outer:=(zge a 8 12)}:Mon)) λd=>some [.agg [.s .u8 c.b,.i .i64 (zic a 8 12).i,.i .i64 (zic a 8 12).h],aH ({j with Mons:=d}:Host)])<|cond (ieq l 1) (oN m<|oN (zD a 8)<|oN (zm4 p)<|oN (inb (zu a 8)<|ln g.Out)<|share (up f k ({g with Out:=(up g.Out (zu a 8)<|zuv p)}:Mon)) λd=>some [.agg [.s .u8 c.b,.i .i64 (zm5 p).i,.i .i64 (zm5 p).h],aH ({j with Mons:=d}:Host)])<|cond (ieq l 2) (oN m<|oN (zq4 a)<|oN (inb 0<|ln g.Guests)<|share (up f k ({g with Guests:=(up g.Guests 0<|zAk a)}:Mon)) λd=>some [.agg [.s .u8 c.b,.i .i64 (zq5 a).i,.i .i64 (zq5 a).h],aH ({j with Mons:=d}:Host)])<|cond (ieq l 3) (oN m<|share (up f k ({g with Tables:=[]}:Mon)) λd=>some [.agg [.s .u8 c.b,.i .i64 e.i,.i .i64 e.h],aH ({j with Mons:=d}:Host)])<|cond (ieq l 4) (oN (zlY a)<|some [.agg [.s .u8 c.b,.i .i64 (zlZ a).i,.i .i64 (zlZ a).h],aH ({j with Buffer:=(zsw a)}:Host)])<|cond (ieq l 5) (oN (zm6 a)<|oN m<|share (up f k ({g with Traps:=(zuw a)}:Mon)) λd=>some [.agg [.s .u8 c.b,.i .i64 (zm7 a).i,.i .i64 (zm7 a).h],aH ({j with Mons:=d}:Host)])<|cond (ieq l 6) (oN (zbA a [-1,1000000000,1000000001])<|oN m<|share (up f k ({g with Own:=(zbr a [-1,1000000000,1000000001])}:Mon)) λd=>some [.agg [.s .u8 c.b,.i .i64 n.i,.i .i64 n.h],aH ({j with Mons:=d}:Host)])<|cond (ieq l 7) (oN (zqU a)<|some [.agg [.s .u8 c.b,.i .i64 (zjW a).i,.i .i64 (zjW a).h],aH ({j with Memory:=(zrP a)}:Host)])<|some [.agg [.s .u8 c.b,.i .i64 e.i,.i .i64 e.h],aH j])
def zsE (c:Cur)(s:Cur)(a:Host):Prop:=(∃N,zzp N c=some (AV.agg (zcj s)::[aH a]))/\(s.b=c.b/\0<=s.i)/\(AnyH a)
def zn3 (c:Cur)  : Bool:=wC (zsE c)
def zq8 (c:Cur)  : Cur:=wS (zsE c)
def zAl (c:Cur)  : Host:=wV (zsE c)
theorem zM0 {c:Cur}(h:zn3 c=true):zsE c (zq8 c) (zAl c):=wG h
theorem z1R (c:Cur)  : 0<=(zq8 c).i:=wP λh=>h.2.1.2
theorem z1Q (c:Cur)(h:∃N,Ends (wE (λa=>aH a) c.b λa=>AnyH a)<|zzp N c):zn3 c=true:=wI (λ_ _ h=>h) h
def zBe:zeS:=rP0 λc=>(zn3 c,zq8 c,[aH<|zAl c])
theorem zOZ:zb8 Tryz.prog 38 [false,true,true] zBe:=hP0 zwh zbh zWj zo (zq []) (λ_ h=>(zM0 h).1)
theorem z3y {c:Cur}(h:zbg c):zn3 c=true:=by
 refine z1Q c ⟨0,?_⟩;unfold zzp oN;conv=>zeta
 obtain⟨S,sm⟩:=zVR (zxN<|zL1 h).2.2;have A:=z6Z S sm;have q:∀{s:Cur},0<=s.i->zbg {s with b:=c.b}:=λy=>zbT h y;have w:zbg {zkj c with b:=c.b}:=q (zYM _);have l:0<ln (ziL c).Mons:=by have:=A.n1;unfold ln;omega
 have a:=zwd w l (kN _);have u:=zbM a zh;generalize B:ziL c=H at *;generalize zu {zkj c with b:=c.b} (ln H.Mons)=m at *;have M:=A.mons _ u;have x:=S.ok.mons _ u;generalize C:ix H.Mons m zh=X at *;obtain⟨p,e,f,j,k,t⟩:=M.sm;have d:∀{n},zbg {zf {zf {zkj c with b:=c.b} n with b:=c.b} 24 with b:=c.b}:=λ{n}=>q (zI _ _);refine zG (zL1 h) (zG (zbE w _) (zG (zbE (q<|zI _ _) 24)
  (zbG (λ_=>zG (zpN d (by omega) (by omega) _) (zG a<|znq<|zbN aH (v:={H with Mons:=up H.Mons m {X with Outer:=zge _ _ _}}) (zqQ _ _ _)<|zye A m ?_))
  (λ_=>zbG (λ_=>zG a (zG (zbE d 8)<|zG (zZh<|q<|zI _ _)<|zG (zwd d (by omega) ?_)<|znq<|zbN aH (v:={H with Mons:=up H.Mons m {X with Out:=up X.Out _ (zuv _)}}) (zWA _)<|zye A m ?_))
  (λ_=>zbG (λ_=>zG a (zG (zKt d)<|zG ?_<|znq<|zbN aH (v:={H with Mons:=up H.Mons m {X with Guests:=up X.Guests 0 (zAk _)}}) (z1N _)<|zye A m ?_))
  (λ_=>zbG (λ_=>zG a (znq<|zbN aH (v:={H with Mons:=up H.Mons m {X with Tables:=[]}}) (zI _ _)<|zye A m ?_))
  (λ_=>zbG (λ_=>zG (zUc d) (zbN aH (v:={H with Buffer:=zsw _}) (zTm _) ⟨A.mem,A.n1,A.n3,A.mons,qU (zBB<|zUc d).2.2 (by decide),A.b2⟩))
  (λ_=>zbG (λ_=>zG (zba4 d) (zG a<|znq<|zbN aH (v:={H with Mons:=up H.Mons m {X with Traps:=zuw _}}) (zWF _)<|zye A m ?_))
  (λ_=>zbG (λ_=>zG (zfM d (by simp)) (zG a<|znq<|zbN aH (v:={H with Mons:=up H.Mons m {X with Own:=zbr _ _}}) (zca _ _)<|zye A m ?_))
  (λ_=>zbG (λ_=>zG (zU6 d) (zbN aH (v:={H with Memory:=zrP _}) (z1A _) ⟨?_,A.n1,A.n3,A.mons,A.b1,A.b2⟩))
  (λ_=>zbN aH (v:=H) (zI _ _) A)))))))))))
 {have g:=(zqP<|zpN (d (n:=ln H.Mons)) (n:=8) (by omega) (by omega) 12).2.2 (by omega) (by omega);refine⟨⟨?_,e,f,j,k,t⟩,M.g1,M.g2,M.t2,?_,g.2 (by omega) (by omega)⟩;{have:=g.1;unfold ln at this;exact qU (m:=8) (by exact Int.ofNat_le.1 this) (by decide)};{have:=g.1;unfold ln at this;exact Int.ofNat_le.1 this}};{unfold ln;rw[x.u8];decide};{exact⟨⟨p,zba1 e _<|qU (zD0<|zZh<|q<|zI _ _).2.2 (by decide),f,j,k,t⟩,M.g1,M.g2,M.t2,M.o8,M.pg⟩};{exact qJ (by have:=M.g1;unfold ln;omega)};{exact⟨⟨p,e,f,z7j j 0<|zbb9 (zMY<|zKt d).2.2,k,t⟩,by rw[zjO];exact M.g1,by rw[zjO];exact M.g2,M.t2,M.o8,M.pg⟩};{exact⟨⟨p,e,f,j,k,⟨by simp,by simp⟩⟩,M.g1,M.g2,by simp,M.o8,M.pg⟩};{exact⟨⟨p,e,f,j,k,t⟩,M.g1,M.g2,M.t2,M.o8,M.pg⟩};{exact⟨⟨p,e,f,j,k,t⟩,M.g1,M.g2,M.t2,M.o8,M.pg⟩};{have g:=(zMW<|zU6<|d (n:=ln H.Mons)).2.2;exact⟨qU g.1 (by decide),λr z=>qU (g.2 r z) (by decide)⟩}
def z9v:zdk:=[(38,[false,true,true],zBe)]++z9u
theorem z6Q:zcn z9v:=zcY zWj (by
 intro x a;simp only[qG,qN,or_false]at a;rcases a with rfl
 .exact zOZ)
def zCA (N:Nat)(c:Cur)  : OA :=
 let a:=zbb c [0,0,0,1,1,2,-1,9223372036854775807]; (oN (zbA c [0,0,0,1,1,2,-1,9223372036854775807])<|some [.agg [.s .u8 c.b,.i .i64 a.i,.i .i64 a.h],aI<|zbr c [0,0,0,1,1,2,-1,9223372036854775807]])
def zux (c:Cur)(s:Cur)(a:Int):Prop:=(∃N,zCA N c=some (AV.agg (zcj s)::[aI a]))/\(s.b=c.b/\0<=s.i)/\(True)
def zth (c:Cur)  : Bool:=wC (zux c)
def zti (c:Cur)  : Cur:=wS (zux c)
def zEJ (c:Cur)  : Int:=wV (zux c)
theorem z4y {c:Cur}(h:zth c=true):zux c (zti c) (zEJ c):=wG h
theorem z4A (c:Cur)  : 0<=(zti c).i:=wP λh=>h.2.1.2
theorem z4z (c:Cur)(h:∃N,Ends (wE (λa=>aI a) c.b λa=>True)<|zCA N c):zth c=true:=wI (λ_ _ h=>h) h
def zvB:zeS:=rP0 λc=>(zth c,zti c,[aI<|zEJ c])
theorem zA1:zb8 Tryz.prog 67 [false,true,true] zvB:=hP0 zwh zbh zvv zo (zq []) (λ_ h=>(z4y h).1)
theorem at_t {c:Cur}(h:zbg c):zth c=true:=by
 refine z4z c ⟨0,?_⟩;unfold zCA oN;conv=>zeta
 exact zG (zfM h (by simp)) (zbN aI (zca _ _) trivial)
def zbcK:zdk:=[(67,[false,true,true],zvB)]++z1s
theorem z6O:zcn zbcK:=zcY zvv (by
 intro x a;simp only[qG,qN,or_false]at a;rcases a with rfl
 .exact zA1)
def zzs (N:Nat)(c:Cur)  : OA :=
 let a:=zdd c;let e:=({ (zdo c) with b:=c.b}:Cur);let f:=zu e 10;let d:=({ (zf e 10) with b:=c.b}:Cur);let g:=zbb d [-1,4,8,16,100,9223372036854775807]; (oN (zjZ c)<|oN (zD e 10)<|cond (ieq f 0) (oN (zD d 20)<|some [.agg [.s .u8 c.b,.i .i64 (zf d 20).i,.i .i64 (zf d 20).h],.agg [.i .i64<|wsub .i64 (zu d 20) 1,.i .i64 a.M,.i .i64 a.G,.i .i64 a.X,.i .i64 a.Y,.i .i64 a.Z]])<|cond (ieq f 1) (oN (zth d)<|some [.agg [.s .u8 c.b,.i .i64 (zti d).i,.i .i64 (zti d).h],.agg [.i .i64 a.Kind,.i .i64<|zEJ d,.i .i64 a.G,.i .i64 a.X,.i .i64 a.Y,.i .i64 a.Z]])<|cond (ieq f 2) (oN (zbA d [-1,4,8,16,100,9223372036854775807])<|some [.agg [.s .u8 c.b,.i .i64 g.i,.i .i64 g.h],.agg [.i .i64 a.Kind,.i .i64 a.M,.i .i64 a.G,.i .i64<|zbr d [-1,4,8,16,100,9223372036854775807],.i .i64 a.Y,.i .i64 a.Z]])<|cond (ieq f 3) (oN (zbA d [-1,0,1,4])<|some [.agg [.s .u8 c.b,.i .i64 (zbb d [-1,0,1,4]).i,.i .i64 (zbb d [-1,0,1,4]).h],.agg [.i .i64 a.Kind,.i .i64 a.M,.i .i64 a.G,.i .i64 a.X,.i .i64 a.Y,.i .i64<|zbr d [-1,0,1,4]]])<|some [.agg [.s .u8 c.b,.i .i64 (zf e 10).i,.i .i64 (zf e 10).h],.agg [.i .i64 a.Kind,.i .i64 a.M,.i .i64 a.G,.i .i64 a.X,.i .i64 a.Y,.i .i64 a.Z]])
def zsG (c:Cur)(s:Cur)(a:GAct):Prop:=(∃N,zzs N c=some (AV.agg (zcj s)::[aT .act a]))/\(s.b=c.b/\0<=s.i)/\(True)
def zn4 (c:Cur)  : Bool:=wC (zsG c)
def zM2 (c:Cur)  : Cur:=wS (zsG c)
def zAm (c:Cur)  : GAct:=wV (zsG c)
theorem z1U {c:Cur}(h:zn4 c=true):zsG c (zM2 c) (zAm c):=wG h
theorem z1V (c:Cur)(h:∃N,Ends (wE (λa=>aT .act a) c.b λa=>True)<|zzs N c):zn4 c=true:=wI (λ_ _ h=>h) h
def zBg:zeS:=rP0 λc=>(zn4 c,zM2 c,[aT .act<|zAm c])
theorem zO4:zb8 Tryz.prog 88 [false,true,true] zBg:=hP0 zwh zbh z6O zo (zq []) (λ_ h=>(z1U h).1)
theorem zbct {c:Cur}(h:zbg c):zn4 c=true:=by
 refine z1V c ⟨0,?_⟩;have d:zbg {zdo c with b:=c.b}:=zbT h (zM1 _);have a:zbg {zf {zdo c with b:=c.b} 10 with b:=c.b}:=zbT h (zI _ _);unfold zzs oN;conv=>zeta
 exact zG (z7A h) (zG (zbE d _) (zbG (λ_=>zG (zbE a _) (zbN (aT .act) (v:=⟨wsub .i64 (zu {zf {zdo c with b:=c.b} 10 with b:=c.b} 20) 1,(zdd c).M,(zdd c).G,(zdd c).X,(zdd c).Y,(zdd c).Z⟩) (zI {zf {zdo c with b:=c.b} 10 with b:=c.b} 20) trivial))
  (λ_=>zbG (λ_=>zG (at_t a) (zbN (aT .act) (v:=⟨(zdd c).Kind,zEJ {zf {zdo c with b:=c.b} 10 with b:=c.b},(zdd c).G,(zdd c).X,(zdd c).Y,(zdd c).Z⟩) (z4A {zf {zdo c with b:=c.b} 10 with b:=c.b}) trivial))
  (λ_=>zbG (λ_=>zG (zfM a (by simp)) (zbN (aT .act) (v:=⟨(zdd c).Kind,(zdd c).M,(zdd c).G,zbr {zf {zdo c with b:=c.b} 10 with b:=c.b} [-1,4,8,16,100,9223372036854775807],(zdd c).Y,(zdd c).Z⟩) (zca {zf {zdo c with b:=c.b} 10 with b:=c.b} [-1,4,8,16,100,9223372036854775807]) trivial))
  (λ_=>zbG (λ_=>zG (zfM a (by simp)) (zbN (aT .act) (v:=⟨(zdd c).Kind,(zdd c).M,(zdd c).G,(zdd c).X,(zdd c).Y,zbr {zf {zdo c with b:=c.b} 10 with b:=c.b} [-1,0,1,4]⟩) (zca {zf {zdo c with b:=c.b} 10 with b:=c.b} [-1,0,1,4]) trivial))
  (λ_=>zbN (aT .act) (v:=zdd c) (zI {zdo c with b:=c.b} 10) trivial))))))
def zbcL:zdk:=[(67,[false,true,true],zvB),(88,[false,true,true],zBg)]++z9v
theorem z6R:zcn zbcL:=zcY z6Q (by
 intro x a;simp only[qG,qN,or_false]at a;rcases a with rfl|rfl
 .exact zA1
 .exact zO4)
def z8j:zba:=[(202,zlR)]++z2G
theorem z5O:zT z8j:=zi zwA zwh
theorem z2A {a:List Int}(h:a.length<=big){G:Ans->Prop}{N:Nat}(l:a.length<N){g:Int}{R:Int->OA}{d:Type}(S:Int->Int->d){F:(d->OA)->d->OA}(k:∀rec i t,F rec (S i t)=bif ilt i (ln a) then (cond (ilt i 4000) (cond (inb i<|ln a) (rec<|S (zQ .i64 i 1)<|wand .i64 (zQ .i64 (zQ .i64 (znd .i64 t 131)<|wcv .i64<|ix a i 0) 7) 1073741823) none)<|R t) else R t)(e:∀t,zbg ⟨a,0,t⟩->Ends G (R t)):Ends G (iter N F<|S 0 g):=by refine zmB (λn s=>∃(i:Nat) (t:Int),s=S (i:Int) t/\i+n=a.length) ?_ N a.length _ ⟨0,g,rfl,by omega⟩ l;rintro n s rec ⟨i,t,rfl,p⟩ b;rw[k];have f:zbg ⟨a,0,t⟩:=⟨kN 0,h⟩;refine zbG (λj=>zbG (λm=>?_) λ_=>e t f) (λ_=>e t f);have c:(i:Int)<ln a:=qD j;unfold ln at c;rw[zbj (show i<a.length by omega) h];exact zG (qJ ⟨by omega,by unfold ln;omega⟩) (b (n-1) _ (by omega) ⟨i+1,_,rfl,by omega⟩)
theorem q_of {b:List Int}(h:b.length<=big){s:Cur}(a:0<=s.i):zbg {s with b:=b}:=⟨a,h⟩
def z8k:zba:=z8j
theorem z5P:zT z8k:=z5O
def z8l:zba:=z8k
theorem z5Q:zT z8l:=z5P
def z8m:zba:=z8l
theorem zUp:zT z8m:=z5Q
def zmi (N:Nat)(g:List Int):OA:=
 (iter (σ:=(Int×Int×Int×Int×Int×Int×Int×Int×(List Int)×lM×lN×lE×lE×Unit)) N (λh a=>let d:=a.2.2.2.2.2.2.2.2.1;let e:=(⟨d,0,a.1⟩:Cur);let f:=({ (zq8 e) with b:=d}:Cur);let c:=zAm f; (cond (ilt a.2.1<|ln d) (cond (ilt a.2.1 4000) (oN (inb a.2.1<|ln d)<|h (wand .i64 (zQ .i64 (zQ .i64 (znd .i64 a.1 131)<|wcv .i64<|ix d a.2.1 0) 7) 1073741823,zQ .i64 a.2.1 1,a.2.2.1,a.2.2.2.1,a.2.2.2.2.1,a.2.2.2.2.2.1,a.2.2.2.2.2.2.1,a.2.2.2.2.2.2.2.1,d,a.2.2.2.2.2.2.2.2.2.1,a.2.2.2.2.2.2.2.2.2.2.1,a.2.2.2.2.2.2.2.2.2.2.2.1,a.2.2.2.2.2.2.2.2.2.2.2.2.1,()))<|oN (zn3 e)<|oN (zn4 f)<|some [aH<|zAl e,.agg [.i .i64 c.Kind,.i .i64 c.M,.i .i64 c.G,.i .i64 c.X,.i .i64 c.Y,.i .i64 c.Z]])<|oN (zn3 e)<|oN (zn4 f)<|some [aH<|zAl e,.agg [.i .i64 c.Kind,.i .i64 c.M,.i .i64 c.G,.i .i64 c.X,.i .i64 c.Y,.i .i64 c.Z]])) (zQ .i64 94701<|ln g,0,0,0,0,0,0,0,g,[],[],[],[],()))
def zFM:=zq [(39,0,{n:=32,tm:=[(0,.sl 0 []),(3,ti),(4,ti)],lo:=[(0,[.sl 1 [],.sl 2 [],.sl 3 [],.sl 4 []]),(1,[ti,ti,ti,ti,ti,ti])],ro:=[(0,.u8,false),(1,.sl .int,true),(2,.mon,true),(3,.entry,true),(4,.entry,true)],sk:=[(0,2,0,.lp 0 0),(0,3,0,.lp 1 0)]})]
def zpj (b:List Int)(a:Host)(c:GAct):Prop:=(∃N,zmi N b=some [aH a,aT .act c])/\(AnyH a)
def zib (a:List Int):Bool:=uC (T:=Host×GAct) (λr=>zpj a r.1 r.2)
def zw0 (a:List Int):Host×GAct:=uV (λr=>zpj a r.1 r.2)
def zqI (a:List Int):Host:=(zw0 a).1
def zjT (a:List Int):GAct:=(zw0 a).2
theorem zMS {a:List Int}(h:zib a=true):zpj a (zqI a) (zjT a):=uG h
theorem zMT (d:List Int)(h:∃N,Ends (λa=>∃b c,a=[aH b,aT .act c]/\(AnyH b))<|zmi N d):zib d=true:=by obtain⟨N,a,e,b,c,rfl,h⟩:=h;exact zbi ⟨(b,c),⟨N,e⟩,h⟩
def zt0:Run:=rF1 (dS .u8) λb=>(zib b,[aH<|zqI b,aT .act<|zjT b])
theorem zFr (a:List Int)(b:zib a=true):∃N,zmi N a=some [aH<|zqI a,aT .act<|zjT a]:=by exact(zMS b).1
theorem zBJ:vP 31 zt0:=kF1 zUp zbh z6R zo zFM zFr
theorem zRX {a:List Int}(h:a.length<=big):zib a=true:=by
 refine zMT a (zcE λN c=>?_);unfold zmi oN;conv=>zeta
 refine z2A h (c h) ((λi t=>(t,(i:Int),0,0,0,0,0,0,a,[],[],[],[],())):Int->Int->_) (λrec i t=>by dsimp only) (λt d=>?_);exact zG (z3y d) (zG (zbct<|q_of h<|z1R _) ⟨_,rfl,_,zAm {zq8 ⟨a,0,t⟩ with b:=a},rfl,(zM0<|z3y d).2.2⟩)
def z8n:zba:=[(31,zt0)]++z8m
theorem zUq:zT z8n:=zi zBJ zUp
def zhS (x y:List Int):Bool:=pc (x=y)
def ziz (_ _:List Int):Bool:=true
def zy0:Run:=rF2 (dS .int) (dS .int) λb c=>(zhS b c,[aB<|ziz b c])
def zCi (N:Nat)(b c:List Int):OA:=
 (cond (ine (ln b)<|ln c) oF<|iter (σ:=(Int×(List Int)×(List Int)×Unit)) N (λd a=>cond (ilt a.1<|ln a.2.1) (oN (inb a.1<|ln a.2.1)<|oN (inb a.1<|ln a.2.2.1)<|cond (ine (ix a.2.1 a.1 0)<|ix a.2.2.1 a.1 0) oF<|d (zQ .i64 a.1 1,a.2.1,a.2.2.1,())) oT) (0,b,c,()))
def zQi:=zq [(19,0,{n:=26,tm:=[(0,.sl 0 []),(1,.sl 1 []),(5,ti)],lo:=[],ro:=[(0,.int,false),(1,.int,false)]})]
theorem zPx (a b:List Int)(d:zbR big [aS .int a,aS .int b])(e:zhS a b=true):∃N,zCi N a b=some [aB<|ziz a b]:=by have:=zK.1 e;subst this;have f:=len0 d;refine⟨a.length+1,?_⟩;unfold zCi oN;rw[zij];refine zyj a zbcW _ _ f (λi c rec=>?_) (λrec=>?_) (kK _);{simp only [zbI c,zbm c,zbu c,zI8,zij,zii,zmw,cT,cF,kE,kU]};{simp only [zbz,cF,ziz]}
theorem zIj:vP 19 zy0:=hF2 zfe zbh zx zo zQi zPx
def zlO (x y:List Slot):Bool:=pc (x=y)
def zma (_ _:List Slot):Bool:=true
def zwX:Run:=rF2 (dS .slot) (dS .slot) λb c=>(zlO b c,[aB<|zma b c])
def zAM (N:Nat)(b c:lS):OA:=
 (cond (ine (ln b)<|ln c) oF<|iter (σ:=(Int×lS×lS×Unit)) N (λf a=>let e:=ix a.2.1 a.1 zV;let d:=ix a.2.2.1 a.1 zV; (cond (ilt a.1<|ln a.2.1) (oN (inb a.1<|ln a.2.1)<|oN (inb a.1<|ln a.2.2.1)<|cond (nB<|cond (ieq e.Page d.Page) (ieq e.Rights d.Rights) false) oF<|f (zQ .i64 a.1 1,a.2.1,a.2.2.1,())) oT)) (0,b,c,()))
def zNr:=zq [(252,0,{n:=26,tm:=[(0,.sl 0 []),(1,.sl 1 []),(5,ti)],lo:=[],ro:=[(0,.slot,false),(1,.slot,false)]})]
theorem zMl (a b:List Slot)(d:zbR big [aS .slot a,aS .slot b])(e:zlO a b=true):∃N,zAM N a b=some [aB<|zma a b]:=by
 have:=zK.1 e;subst this;have f:=len0 d;refine⟨a.length+1,?_⟩;unfold zAM oN nB;conv=>zeta
 rw[zij];refine zyj a zV _ _ f (λi c rec=>?_) (λrec=>?_) (kK _);{simp only [zbI c,zbm c,zbu c,zI8,zij,zii,zmw,cT,cF,kE,kU]};{simp only [zbz,cF,zma]}
theorem zE5:vP 252 zwX:=hF2 zfe zbh zx zo zNr zMl
def zp2 (x y:List Ins):Bool:=pc (x=y)
def zp1 (_ _:List Ins):Bool:=true
def zyZ:Run:=rF2 (dS .ins) (dS .ins) λb c=>(zp2 b c,[aB<|zp1 b c])
def zCh (N:Nat)(b c:lI):OA:=
 (cond (ine (ln b)<|ln c) oF<|iter (σ:=(Int×lI×lI×Unit)) N (λf a=>let e:=ix a.2.1 a.1 zsK;let d:=ix a.2.2.1 a.1 zsK; (cond (ilt a.1<|ln a.2.1) (oN (inb a.1<|ln a.2.1)<|oN (inb a.1<|ln a.2.2.1)<|cond (nB<|cond (ieq e.Op d.Op) (ieq e.X d.X) false) oF<|f (zQ .i64 a.1 1,a.2.1,a.2.2.1,())) oT)) (0,b,c,()))
def zQh:=zq [(251,0,{n:=26,tm:=[(0,.sl 0 []),(1,.sl 1 []),(5,ti)],lo:=[],ro:=[(0,.ins,false),(1,.ins,false)]})]
theorem zPw (a b:List Ins)(d:zbR big [aS .ins a,aS .ins b])(e:zp2 a b=true):∃N,zCh N a b=some [aB<|zp1 a b]:=by
 have:=zK.1 e;subst this;have f:=len0 d;refine⟨a.length+1,?_⟩;unfold zCh oN nB;conv=>zeta
 rw[zij];refine zyj a zsK _ _ f (λi c rec=>?_) (λrec=>?_) (kK _);{simp only [zbI c,zbm c,zbu c,zI8,zij,zii,zmw,cT,cF,kE,kU]};{simp only [zbz,cF,zp1]}
theorem zIi:vP 251 zyZ:=hF2 zfe zbh zx zo zQh zPw
def z3c:zba:=[(19,zy0),(252,zwX),(251,zyZ)]++zNL
theorem zCV:zT z3c:=zi zIj (zi zE5<|zi zIi zfe)
def zoI (x y:List (List Int)):Bool:=pc (x=y)
def zon (_ _:List (List Int)):Bool:=true
def zwW:Run:=rF2 (dS<|.sl .int) (dS<|.sl .int) λb c=>(zoI b c,[aB<|zon b c])
def zAL (N:Nat)(b:lM)(c:lM):OA:=
 (cond (ine (ln b)<|ln c) oF<|iter (σ:=(Int×lM×lM×Unit)) N (λd a=>cond (ilt a.1<|ln a.2.1) (oN (inb a.1<|ln a.2.1)<|oN (inb a.1<|ln a.2.2.1)<|oN (zhS (ix a.2.1 a.1 [])<|ix a.2.2.1 a.1 [])<|cond (nB<|ziz (ix a.2.1 a.1 [])<|ix a.2.2.1 a.1 []) oF<|d (zQ .i64 a.1 1,a.2.1,a.2.2.1,())) oT) (0,b,c,()))
def zNq:=zq [(89,0,{n:=27,tm:=[(0,.sl 0 []),(1,.sl 1 []),(5,ti)],lo:=[],ro:=[(0,.sl .int,false),(1,.sl .int,false)]})]
theorem zMk (a:List (List Int))(b:List (List Int))(d:zbR big [aS (.sl .int) a,aS (.sl .int) b])(e:zoI a b=true):∃N,zAL N a b=some [aB<|zon a b]:=by have:=zK.1 e;subst this;have f:=len0 d;refine⟨a.length+1,?_⟩;unfold zAL oN nB;rw[zij];refine zyj a (Ty.dflt<|.sl .int) _ _ f (λi c rec=>?_) (λrec=>?_) (kK _);{simp only [zbI c,zbm c,zbu c,zhS,ziz,zI8,zij,zii,zmw,cT,cF,kE,kU]};{simp only [zbz,cF,zon]}
theorem zE4:vP 89 zwW:=hF2 zCV zbh zx zo zNq zMk
def zoH (x y:Guest):Bool:=pc (x=y)
def zom (_ _:Guest):Bool:=true
def zwV:Run:=rF2 (dT .guest) (dT .guest) λb c=>(zoH b c,[aB<|zom b c])
def zAK (N:Nat)(a b:Guest):OA:=
 (oN (zp2 a.Prog b.Prog)<|cond (zp1 a.Prog b.Prog) (cond (ieq a.A b.A) (cond (ieq a.Pc b.Pc) (oN (zlO a.Written b.Written)<|cond (zma a.Written b.Written) (oN (zlO a.Live b.Live)<|cond (zma a.Live b.Live) (cond (cond (ieq a.Ctl.Traps b.Ctl.Traps) (cond (ieq a.Ctl.Post b.Ctl.Post) (zo9 a.Ctl.Open b.Ctl.Open) false) false) (cond (ieq a.Pending b.Pending) (cond (cond (ieq a.Exit.Kind b.Exit.Kind) (cond (ieq a.Exit.Page b.Exit.Page) (cond (zo9 a.Exit.Write b.Exit.Write) (ieq a.Exit.N b.Exit.N) false) false) false) (cond (zo9 a.Halted b.Halted) (oN (zhS a.Seen b.Seen)<|some [aB<|ziz a.Seen b.Seen]) oF) oF) oF) oF) oF) oF) oF) oF) oF)
theorem zMj (a b:Guest)(c:zoH a b=true):∃N,zAK N a b=some [aB<|zom a b]:=by have:=zK.1 c;subst this;refine⟨0,?_⟩;simp only[zAK,zp2,zp1,zlO,zma,zhS,ziz,zI8,zij,zii,zmw,cT,cF,kE,kU,zom]
theorem zE3:vP 172 zwV:=kF2 zCV zbh zx zo (zq []) zMj
def z3d:zba:=[(89,zwW),(172,zwV)]++z3c
theorem zRg:zT z3d:=zi zE4 (zi zE3 zCV)
def znx (x y:List Guest):Bool:=pc (x=y)
def zmM (_ _:List Guest):Bool:=true
def zvF:Run:=rF2 (dS .guest) (dS .guest) λb c=>(znx b c,[aB<|zmM b c])
def zx5 (N:Nat)(b c:lG):OA:=
 (cond (ine (ln b)<|ln c) oF<|iter (σ:=(Int×lG×lG×Unit)) N (λf a=>let e:=ix a.2.1 a.1 zy;let d:=ix a.2.2.1 a.1 zy; (cond (ilt a.1<|ln a.2.1) (oN (inb a.1<|ln a.2.1)<|oN (inb a.1<|ln a.2.2.1)<|oN (zoH e d)<|cond (nB<|zom e d) oF<|f (zQ .i64 a.1 1,a.2.1,a.2.2.1,())) oT)) (0,b,c,()))
def zJv:=zq [(90,0,{n:=27,tm:=[(0,.sl 0 []),(1,.sl 1 []),(5,ti)],lo:=[],ro:=[(0,.guest,false),(1,.guest,false)]})]
theorem zIU (a b:List Guest)(d:zbR big [aS .guest a,aS .guest b])(e:znx a b=true):∃N,zx5 N a b=some [aB<|zmM a b]:=by
 have:=zK.1 e;subst this;have f:=len0 d;refine⟨a.length+1,?_⟩;unfold zx5 oN nB;conv=>zeta
 rw[zij];refine zyj a zy _ _ f (λi c rec=>?_) (λrec=>?_) (kK _);{simp only [zbI c,zbm c,zbu c,zoH,zom,zI8,zij,zii,zmw,cT,cF,kE,kU]};{simp only [zbz,cF,zmM]}
theorem zDd:vP 90 zvF:=hF2 zRg zbh zx zo zJv zIU
def zbbA:zba:=[(90,zvF)]++z3d
theorem z3e:zT zbbA:=zi zDd zRg
def zvp (x y:Bare):Bool:=pc (x=y)
def zuh (_ _:Bare):Bool:=true
def zyY:Run:=rF2 (dT .bare) (dT .bare) λb c=>(zvp b c,[aB<|zuh b c])
def zCg (N:Nat)(a b:Bare):OA:=
 (oN (zoI a.Memory b.Memory)<|cond (zon a.Memory b.Memory) (oN (znx a.Guests b.Guests)<|cond (zmM a.Guests b.Guests) (oN (zhS a.Outs b.Outs)<|cond (ziz a.Outs b.Outs) (some [aB<|ieq a.Pending b.Pending]) oF) oF) oF)
theorem zPv (a b:Bare)(c:zvp a b=true):∃N,zCg N a b=some [aB<|zuh a b]:=by have:=zK.1 c;subst this;refine⟨0,?_⟩;simp only[zCg,zoI,zon,znx,zmM,zhS,ziz,zI8,zij,zii,zmw,cT,cF,kE,kU,zuh]
theorem zIh:vP 32 zyY:=kF2 z3e zbh zx zo (zq []) zPv
def z8N:zba:=[(61,zxE),(93,zmX)]++zNL
theorem z5V:zT z8N:=zi zA0 (zi zys zfe)
def z8O:zba:=z8N
theorem z5W:zT z8O:=z5V
def z8P:zba:=z8O
theorem z5X:zT z8P:=z5W
def z8Q:zba:=z8P
theorem z5Y:zT z8Q:=z5X
def zbcw:zba:=z8Q
theorem z5Z:zT zbcw:=z5Y
def zKd (N:Nat)(b:Host)(c:Int):OA:=
 (oN (zDZ b c)<|cond (nB<|ztf b c) (some [aT .bare (⟨[],[],[],0⟩:Bare)])<|iter (σ:=(Int×Int×Int×Int×lM×lN×lE×lE×lM×lG×(List Int)×lM×lG×(List Int)×Unit)) N (λh a=>let g:=a.2.2.2.2.2.2.2.2.2.2.2.2.1;let f:=a.2.2.2.2.2.2.2.2.2.2.2.2.2.1;let d:=(⟨a.2.2.2.2.1,a.2.2.2.2.2.1,a.2.2.2.2.2.2.1,a.2.2.2.2.2.2.2.1⟩:Host);let e:=ap a.2.2.2.2.2.2.2.2.2.2.2.1 [zpk d a.1 a.2.1]; (cond (ilt a.2.1 8) (oN (zqK d a.1 a.2.1)<|oN (few<|ln e)<|h (a.1,zQ .i64 a.2.1 1,a.2.2.1,a.2.2.2.1,a.2.2.2.2.1,a.2.2.2.2.2.1,a.2.2.2.2.2.2.1,a.2.2.2.2.2.2.2.1,a.2.2.2.2.2.2.2.2.1,a.2.2.2.2.2.2.2.2.2.1,a.2.2.2.2.2.2.2.2.2.2.1,e,g,f,()))<|some [aT .bare (⟨a.2.2.2.2.2.2.2.2.2.2.2.1,g,f,a.2.2.2.1⟩:Bare)])) (c,0,0,(zgp b c).Pending,b.Memory,b.Mons,b.Buffer,b.IoBuffer,[],[],[],[],(zgp b c).Guests,(zgp b c).Outs,()))
def zXm:=zq [(34,0,{n:=39,tm:=[(1,ti),(2,.lp 0 0),(4,.lp 1 0),(7,.lp 2 0),(8,ti)],lo:=[(0,[.sl 0 [],.sl 1 [],.sl 2 [],.sl 3 []]),(1,[.sl 4 [],.sl 5 [],.sl 6 [],ti]),(2,[.sl 7 [],.sl 8 [],.sl 9 [],ti])],ro:=[(0,.sl .int,false),(1,.mon,false),(2,.entry,false),(3,.entry,false),(4,.sl .int,true),(5,.guest,true),(6,.int,true),(7,.sl .int,true),(8,.guest,true),(9,.int,true)]})]
theorem zVG (a:Host)(b:Int)(f:zc2 a b=true):∃N,zKd N a b=some [aT .bare<|zc4 a b]:=by
 have e:=zK.1 f;refine zcE λN d=>?_;unfold zKd zc4 zC oN nB;conv=>zeta
 refine must (zbs e) ?_;rw[show ztf a b=hasB b (ln a.Mons) from rfl];cases g:hasB b (ln a.Mons);{rfl};{refine zci rfl ?_;refine(zvn 8 (λi (t:lM)=>(b,(i:Int),0,(zgp a b).Pending,a.Memory,a.Mons,a.Buffer,a.IoBuffer,[],[],[],t,(zgp a b).Guests,(zgp a b).Outs,())) _ (λi (c:List (List Int)) j=>bif few (ln<|ap c [zc0 a b (i:Int)]) then j (ap c [zc0 a b (i:Int)]) else none) (λ(t:lM)=>some [.agg<|Ty.cells .bare (⟨t,(zgp a b).Guests,(zgp a b).Outs,(zgp a b).Pending⟩:Bare)]) (λi h t rec=>?_) (λt rec=>?_) _ ([])<|d (by decide)).trans ?_;{simp only [show ilt (i:Int) 8=true from qJ (by omega),zbj h (show 8<=big by decide),cT];exact must (zbs e) rfl};{simp only [show ilt ((8:Nat):Int) 8=false from qH (by omega),cF]};rw[zC4 a b _ 8 0 [] (by decide)];simp only[zgp,g,cT,jS]}
theorem zOJ:vP 34 zmV:=kF2 z5Z zbh zx zo zXm zVG
structure Clear (h:Host) (m p:Int):Prop where
 d:ix (ix h.Mons m mZ).Dirty p false=false
 s:(ix (ix h.Mons m mZ).Outer p sZ).Page≠-1->(ix (ix h.Mons m mZ).Outer p sZ).Rights=1/\(∀e∈h.Buffer,e.Host≠(ix (ix h.Mons m mZ).Outer p sZ).Page)/\(∀e∈h.IoBuffer,e.Host≠(ix (ix h.Mons m mZ).Outer p sZ).Page)/\
  ∀g i,hasB g (ln (ix h.Mons m mZ).Guests)=true->hasB i (ln (ix (ix h.Mons m mZ).Guests g gZ).Live)=true->(ix (ix (ix h.Mons m mZ).Guests g gZ).Live i sZ).Page=p->ix (ix (ix h.Mons m mZ).Tables g kZ).Known i false=false
theorem zYu {h:Host}(S:Safe h)(a:GAct){m:Int}(b:m≠a.M):zC (zbU h a) m=zC h m:=by obtain⟨_,_,e,_⟩:=zKr S a;rw[e m];cases zll a with|false=>rfl|true=>rw[cond_true,zcf.2 b];rfl
theorem zVU {d b:Type}{f:d->b}{l:List d}{x:b}{c:List b}(h:l.map f=x::c):∃a r,l=a::r/\f a=x/\r.map f=c:=by cases l with|nil=>cases h|cons a r=>simp only[jG,List.cons.injEq]at h;exact⟨a,r,rfl,h.1,h.2⟩
theorem zbb8 {a:AV}{b:CTy}(h:some a.sh=some (false,[b])):∃c,a = .one c/\c.ty=b:=by cases a with|one c=>simp only[AV.sh,qC,jV,List.cons.injEq,and_true,true_and]at h;exact⟨c,rfl,h⟩|agg l=>simp[AV.sh]at h
theorem sh_s {a:AV}{t:Ty}(h:some a.sh=some (false,[.s t])):∃l:List t.den,a = .one (.s t l):=by obtain⟨c,rfl,b⟩:=zbb8 h;obtain⟨l,rfl⟩:=zno b;exact⟨l,rfl⟩
section
open Go Go.ChangeShapes Go.WideShapes Go.ChangeAt
abbrev zPa (_:List Int):Bool:=true
abbrev zL6 (l:List Int):Bool:=igt (ln l) 1048576
def zRJ:Run:=rF1 (dS .u8) λb=>(zPa b,[aB<|zL6 b])
def zZa (N:Nat)(a:List Int):OA:=
 (some [aB<|igt (ln a) 1048576])
theorem z3J (a:List Int)(b:zPa a=true):∃N,zZa N a=some [aB<|zL6 a]:=by refine⟨0,?_⟩;unfold zZa;first|rfl|(simp only [*,zL6,cT,cF]<;>rfl)|simp_all[Ty.cells,zL6]
theorem zX0:vP 7 zRJ:=kF1 zUq zbh zx zo (zq []) z3J
def z8B:zba:=[(7,zRJ),(32,zyY),(33,zmV),(34,zmV)]++z8n
theorem z5R:zT z8B:=zi zX0 (zi zIh<|zi zyp<|zi zOJ zUq)
def zpH (N:Nat)(c:List Int):OA:=
 let d:=zqH c;let b:=zjT c;let f:=zhC d b; (oN (zPa c)<|cond (zL6 c) oT<|oN (zkK c)<|oN (zib c)<|oN (zgY d b)<|iter (σ:=(Int×Int×Int×Int×Int×Int×Int×lM×lN×lE×lE×lM×lN×lE×lE×Unit)) N (λm a=>let l:=a.2.2.2.2.2.2.2.2.2.2.2.2.2.1;let k:=a.2.2.2.2.2.2.2.2.2.2.2.2.2.2.1;let i:=a.2.2.2.2.2.2.2.2.2.2.2.2.1;let e:=a.2.2.2.2.2.2.2.2.1;let h:=(⟨a.2.2.2.2.2.2.2.1,e,a.2.2.2.2.2.2.2.2.2.1,a.2.2.2.2.2.2.2.2.2.2.1⟩:Host);let g:=(⟨a.2.2.2.2.2.2.2.2.2.2.2.1,i,l,k⟩:Host);let j:=m (zQ .i64 a.1 1,a.2.1,a.2.2.1,a.2.2.2.1,a.2.2.2.2.1,a.2.2.2.2.2.1,a.2.2.2.2.2.2.1,a.2.2.2.2.2.2.2.1,e,a.2.2.2.2.2.2.2.2.2.1,a.2.2.2.2.2.2.2.2.2.2.1,a.2.2.2.2.2.2.2.2.2.2.2.1,i,l,k,()); (cond (ilt a.1<|ln e) (cond (ine a.1 a.2.2.1) (oN (zc2 g a.1)<|oN (zc2 h a.1)<|oN (zvp (zc4 g a.1)<|zc4 h a.1)<|cond (nB<|zuh (zc4 g a.1)<|zc4 h a.1) oF j) j)<|cond (ieq (ln i)<|ln e) (some [aB<|igt (ln e) 0]) oF)) (0,b.Kind,b.M,b.G,b.X,b.Y,b.Z,d.Memory,d.Mons,d.Buffer,d.IoBuffer,f.Memory,f.Mons,f.Buffer,f.IoBuffer,()))
def zze:=zq [(5,0,{n:=58,tm:=[(3,.lp 0 0),(5,.lp 1 0),(6,.lp 2 0),(8,ti)],lo:=[(0,[.sl 0 [],.sl 1 [],.sl 2 [],.sl 3 []]),(1,[ti,ti,ti,ti,ti,ti]),(2,[.sl 4 [],.sl 5 [],.sl 6 [],.sl 7 []])],ro:=[(0,.sl .int,true),(1,.mon,true),(2,.entry,true),(3,.entry,true),(4,.sl .int,true),(5,.mon,true),(6,.entry,true),(7,.entry,true)]})]
theorem zTh (N:Nat)(a:List Int):evalFn (cQ z8B z6B zI9 zW3) zze N 12 5 [aS .u8 a]=zpH N a:=by kernel_rfl
theorem zKM (N:Nat)(g:List Int)(j:g.length<=big)(x:4<N):Ends (λa=>a=[.one<|.b true]) (zpH N g):=by
 unfold zpH oN nB;conv=>zeta
 refine zG rfl (zbG (λ_=>zu8 rfl) λ_=>zG (zKL j) (zG (zRX j) ?_));obtain⟨S,l⟩:=zVR (zDX<|zKL j).2;generalize zqH g=h at S l;generalize zjT g=a;have m:zdP h:=(zS h).2 l;have t:zdP (zbU h a):=(zS _).2 (zEN l);have u:=S.ok.n1;have v:=S.ok.n3;have d:(zbU h a).Mons.length=h.Mons.length:=(zKr S a).2.1;refine zG (zbi m) (zmB (λn s=>∃i:Nat,s=((i:Int),a.Kind,a.M,a.G,a.X,a.Y,a.Z,h.Memory,h.Mons,h.Buffer,h.IoBuffer,(zbU h a).Memory,(zbU h a).Mons,(zbU h a).Buffer,(zbU h a).IoBuffer,())/\i+n=h.Mons.length) ?_ N h.Mons.length _ ⟨0,rfl,by omega⟩ (by omega));rintro n s rec ⟨i,rfl,y⟩ c;dsimp only;refine zbG (λk=>?_) (λ_=>zG ?_ (zu8 ?_));{have f:=qD k;unfold ln at f;have q:zQ .i64 (i:Int) 1=((i+1:Nat):Int):=(by rw[zrV (by omega) (by omega)];omega);refine zbG (λp=>?_) (λ_=>c (n-1) _ (by omega) ⟨i+1,by rw[q],by omega⟩);have w:(i:Int)≠a.M:=λe=>(by rw[e]at p;simp[ine]at p);have r:zc4 (zbU h a) (i:Int)=zc4 h (i:Int):=zYu S a w;exact zG (zbi t) (zG (zbi m)<|zG (zbi r) (zbai rfl (c (n-1) _ (by omega) ⟨i+1,by rw[q],by omega⟩)))};{unfold ln;rw[d];exact zii _};{have:igt (ln h.Mons) 0=true:=qJ (by unfold ln;omega);rw[this]}
theorem zNH (d:List Int)(h:∀c∈zF [aS .u8 d],CVOk c):∃N,zpH N d=some [.one<|.b true]:=by have e:zbR big [aS .u8 d]:=λc f=>CVB.of_ok (h c f);have g:=len0 e;exact⟨5,zbam (G:=λa=>a=[.one<|.b true])<|zKM 5 d g (by decide)⟩
theorem zJp:Tryz.f5.params.toList.map (zdc Tryz.prog 4)=[some (false,[.s .u8])]:=by kernel_rfl
theorem zCG:zY6 5 Tryz.f5.params.toList:=by refine zXH z5R zbh zx zo (zkq (by kernel_rfl)) ?_;intro c hg;obtain⟨a,e⟩:=hg;rw[zJp]at a;obtain⟨h,g,rfl,d,a⟩:=zVU a;cases List.map_eq_nil_iff.1 a;obtain⟨b,rfl⟩:=sh_s d;obtain⟨N,f⟩:=zNH b e;exact⟨zze,N,12,(zTh N b).trans f⟩
theorem zNc (H:Type)(a:List (DataW H))(h:a.length=Tryz.f5.params.toList.length):Rows.fnOthersSpec.fn H a={results:=[.lit<|.bool true],args:=a}:=by
 have b:a.length=1:=h.trans (by kernel_rfl)
 match a,b with
 |[d],_=>rfl
set_option maxRecDepth 100000 in
theorem zFC (g:Os)(a:g.Started)(H:Type)(enc:TypeId×Value->H) :
 ReturnsInHanded {} Tryz.checked g 5 .any (Rows.fnOthersSpec.pre6 enc Tryz.prog Tryz.f5 Rows.fnOthersRow.domain false) (Rows.fnOthersSpec.post enc Tryz.prog Tryz.f5 false true false false):=by
 refine returnsInHanded_of_change_shaped (C:=Tryz.checked) own a (by kernel_rfl) Tryz.func5
  (ChangeSpec.witness6 (enc:=enc) (C:=Tryz.checked) false ⟨#[],#[.slice none 0 0],[]⟩ 8 (by kernel_rfl) (by kernel_rfl) (by kernel_rfl) (by kernel_rfl)) ?_
 intro W d c h i b e j _ f _ _;exact zL7 (P:=Tryz.prog) z5p z6r rfl zNc (by kernel_rfl) (B:=4) (by kernel_rfl) (by kernel_rfl) zCG W d c h i b e j f
end
end
end Go.Proofs.YtdlfljbgoopanaaGreat.E
