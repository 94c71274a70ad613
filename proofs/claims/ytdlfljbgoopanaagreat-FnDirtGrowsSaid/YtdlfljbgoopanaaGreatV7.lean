/- What is proved here: a part of the proof that the statement of this claim holds (several texts of wip/, laid together). -/
import Derived.Test.YtdlfljbgoopanaaGreatV6
namespace Go.Proofs.YtdlfljbgoopanaaGreat.E
open Go
set_option linter.defProp false
set_option linter.constructorNameAsVariable false
set_option linter.unusedVariables false
set_option maxRecDepth 100000
set_option linter.unusedSimpArgs false
set_option linter.unusedSectionVars false
noncomputable section
def zbcu:zbf:=[(258,znZ),(103,zk5)]++z8l
def zHW:zU zbcu:=zi zpv (zi zvy zfS)
def zEG {g:Type}{c e:Cur}(h:zbk c)(j:0<=e.i){P:g->Prop}{q:Int}(A:0<q)(M:q<=1000){fc:Cur->Bool}{fs:Cur->Cur}{fv:Cur->g}(E:∀{c:Cur},zbk c->fc c=true)(H:∀c,0<=(fs c).i)(hg:∀{c:Cur},zbk c->P (fv c)){G:Ans->Prop}{l0:List g}{z:Nat}(O:l0.length<=z)(I:z<=1000)(m:∀x∈l0,P x){p:Type}(S:Nat->Int×Int×Int×List g->p){F:(p->OA)->p->OA}(D:∀rec t i k l,∃r,F rec (S 0 (t,i,k,l))=(bif zD ⟨c.b,i,k⟩ q then (bif ilt t (zu ⟨c.b,i,k⟩ q) then (bif fc { zf ⟨c.b,i,k⟩ q with b:=c.b } then (bif few (ln (ap l [fv { zf ⟨c.b,i,k⟩ q with b:=c.b }])) then
        rec (S 0 (zQ .i64 t 1,(fs {zf ⟨c.b,i,k⟩ q with b:=c.b}).i,(fs {zf ⟨c.b,i,k⟩ q with b:=c.b}).h,ap l [fv {zf ⟨c.b,i,k⟩ q with b:=c.b}])) else none) else none) else some r) else none)/\(ln l<=z+q->(∀x∈l,P x)->G r)):Ends G (iter 1002 F (S 0 (0,e.i,e.h,l0))):=by
 refine zl2 (fun n s=>∃t i k l,s=S 0 (t,i,k,l)/\t+(n:Int)=1000/\0<=t/\t<=q/\0<=i/\(∀x∈l,P x)/\ln l<=z+t) ?_ 1002 1000 _ ⟨0,e.i,e.h,l0,rfl,rfl,kL 0,by omega,j,m,by unfold ln;omega⟩ (by omega)
 rintro n s rec ⟨t,i,k,l,rfl,J,B,K,C,u,L⟩ f
 obtain⟨r,hF1,hF2⟩:=D rec t i k l;rw[hF1];have a:zbk ⟨c.b,i,k⟩:=zb0 h C;have d:=zgS a A;have v:zbk {zf ⟨c.b,i,k⟩ q with b:=c.b}:=zb0 h (zJ _ _);refine zI (zbF a _) (zbK (fun w=>?_) (fun w=>?_))
 .have hlt:t<zu ⟨c.b,i,k⟩ q:=qD w;have N:=zjd (y:=1) B (by omega) (by omega) (by omega)
  refine zI (E v) (zI (zl3 (by rw[ziK];omega)) (f (n-1) _ (by omega) ⟨_,_,_,_,rfl,by omega,by omega,by omega,H _,?_,by rw[ziK];omega⟩))
  intro x d;rcases jN.1 d with d|d
  .exact u x d
  .rw [qF.1 d];exact hg v
 .exact zvo (hF2 (by omega) u)
def zbbL {c d:Cur}(h:zbk c)(f:0<=d.i){m q x:Int}(t:0<q)(g:0<=m)(D:m+q<=1000){G:Ans->Prop}{l0:LI}(B:ln l0<=m+q){j:Type}(S:Nat->Int×Int×LI->j){F:(j->OA)->j->OA}(w:∀rec i k l,∃r,F rec (S 0 (i,k,l))=(bif zD ⟨c.b,i,k⟩ q then (bif ilt (ln l) (zQ .i64 m (zu ⟨c.b,i,k⟩ q)) then (bif few (ln (ap l [x])) then
        rec (S 0 ((zf ⟨c.b,i,k⟩ q).i,(zf ⟨c.b,i,k⟩ q).h,ap l [x])) else none) else some r) else none)/\(ln l<=m+q->G r)):Ends G (iter 1002 F (S 0 (d.i,d.h,l0))):=by
 refine zl2 (fun n s=>∃i k l,s=S 0 (i,k,l)/\ln l+(n:Int)=1000/\0<=i/\ln l<=m+q) ?_ 1002 (1000-ln l0).toNat _ ⟨d.i,d.h,l0,rfl,by unfold ln at *;omega,f,B⟩ (by unfold ln at *;omega)
 rintro n s rec ⟨i,k,l,rfl,C,u,v⟩ e
 obtain⟨r,hF1,hF2⟩:=w rec i k l;rw[hF1];have a:zbk ⟨c.b,i,k⟩:=zb0 h u;have A:=zgS a t;have z:=zjd (x:=m) (y:=zu ⟨c.b,i,k⟩ q) g (by omega) A.1 (by omega)
 refine zI (zbF a _) (zbK (fun p=>?_) (fun p=>?_))
 .have hlt:ln l<zQ .i64 m (zu ⟨c.b,i,k⟩ q):=qD p;rw[z]at hlt;exact zI (zl3 (by rw[ziK];omega)) (e (n-1) _ (by unfold ln at *;omega) ⟨_,_,_,rfl,by rw[ziK];omega,zJ _ _,by rw[ziK];omega⟩)
 .exact zvo (hF2 v)
def GuS (g:Guest):Prop:=g.Prog.length<=13/\g.Written.length<=4/\g.Live.length<=4/\g.Seen.length<=50
def zEr {c:Cur}(h:zbk c):(zej c 4 8).length<=4:=by have:=(zba3 h (n:=4) (m:=8) (by omega) (by omega) (by omega) (by omega)).1;unfold ln at this;omega
def zvc (N:Nat)(c:Cur)  : OA :=
 let C:=({ (zbb c) with b:=c.b}:Cur);let v:=zej C 4 8;let d:=zcY<|zcv c;let y9:=({ (zK C 4 8) with b:=c.b}:Cur);let x:=zej y9 4 8;let y2:=({ (zK y9 4 8) with b:=c.b}:Cur);let w:=zu y2 100;let B:=({ (zf y2 100) with b:=c.b}:Cur);let y:=zu B 4;let y0:=({ (zf B 4) with b:=c.b}:Cur);let I:=({ (zcR y0) with b:=c.b}:Cur);let e:=zc7 y0;let A:=({ (zW I 3) with b:=c.b}:Cur);let H:=({ (zf A 256) with b:=c.b}:Cur);let r:=({ (zW A 4) with b:=c.b}:Cur);let u:=({ (zgL r) with b:=c.b}:Cur);let q:=({ (zW H 4) with b:=c.b}:Cur);let t:=({ (zgL q) with b:=c.b}:Cur); (oN (ziX c)<|oN (zk8<|zcv c)<|oN (zjz C 4 8)<|oN (zjz y9 4 8)<|oN (zD y2 100)<|oN (zD B 4)<|oN (zlX y0)<|oN (zdG I 3)<|cond (zdS I 3) (oN (zD A 256)<|oN (zdG H 4)<|cond (zdS H 4) (oN (zkz q)<|oN (zdG t 12)<|iter (σ:=(Int×Int×Int×Int×Int×Int×Int×Bool×Int×Int×Int×Bool×Int×Bool×Int×Int×Int×Int×Bool×Int×Int×Int×Bool×Int×Bool×LI×lI×lS×lS×LI×lI×lS×lS×LI×Unit)) N (λz a=>let d6:=a.2.2.2.2.2.2.2.2.2.2.2.2.2.2.1;let d2:=a.2.2.2.2.2.2.2.2.2.2.2.2.2.2.2.1;let c8:=a.2.2.2.2.2.2.2.2.2.2.2.2.2.2.2.2.1;let c4:=a.2.2.2.2.2.2.2.2.2.2.2.2.2.2.2.2.2.1;let c0:=a.2.2.2.2.2.2.2.2.2.2.2.2.2.2.2.2.2.2.1;let b6:=a.2.2.2.2.2.2.2.2.2.2.2.2.2.2.2.2.2.2.2.1;let b2:=a.2.2.2.2.2.2.2.2.2.2.2.2.2.2.2.2.2.2.2.2.1;let a8:=a.2.2.2.2.2.2.2.2.2.2.2.2.2.2.2.2.2.2.2.2.2.1;let a4:=a.2.2.2.2.2.2.2.2.2.2.2.2.2.2.2.2.2.2.2.2.2.2.1;let a0:=a.2.2.2.2.2.2.2.2.2.2.2.2.2.2.2.2.2.2.2.2.2.2.2.1;let W:=a.2.2.2.2.2.2.2.2.2.2.2.2.2.2.2.2.2.2.2.2.2.2.2.2.1;let S:=a.2.2.2.2.2.2.2.2.2.2.2.2.2.2.2.2.2.2.2.2.2.2.2.2.2.2.2.2.2.2.1;let O:=a.2.2.2.2.2.2.2.2.2.2.2.2.2.2.2.2.2.2.2.2.2.2.2.2.2.2.2.2.2.2.2.1;let J:=a.2.2.2.2.2.2.2.2.2.2.2.2.2.2.2.2.2.2.2.2.2.2.2.2.2.2.2.2.2.2.2.2.1;let D:=a.2.2.2.2.2.2.2.2.2.2.2.2.2.2.2.2.2.2.2.2.2.2.2.2.2.2.2.2.2.2.2.2.2.1;let y4:=a.2.2.2.2.2.2.2.2.2.2.2.2.2.2.2.2.2.2.2.2.2.2.2.2.2.1;let l:=(⟨y4,a.2.1,a.2.2.1⟩:Cur);let f:=({ (zf l 4) with b:=y4}:Cur); (oN (zD l 4)<|cond (ilt a.1<|zu l 4) (oN (zD f 100)<|oN (few<|ln<|ap D [zu f 100])<|z (zQ .i64 a.1 1,(zf f 100).i,(zf f 100).h,a.2.2.2.1,a.2.2.2.2.1,a.2.2.2.2.2.1,a.2.2.2.2.2.2.1,a.2.2.2.2.2.2.2.1,a.2.2.2.2.2.2.2.2.1,a.2.2.2.2.2.2.2.2.2.1,a.2.2.2.2.2.2.2.2.2.2.1,a.2.2.2.2.2.2.2.2.2.2.2.1,a.2.2.2.2.2.2.2.2.2.2.2.2.1,a.2.2.2.2.2.2.2.2.2.2.2.2.2.1,d6,d2,c8,c4,c0,b6,b2,a8,a4,a0,W,y4,a.2.2.2.2.2.2.2.2.2.2.2.2.2.2.2.2.2.2.2.2.2.2.2.2.2.2.1,a.2.2.2.2.2.2.2.2.2.2.2.2.2.2.2.2.2.2.2.2.2.2.2.2.2.2.2.1,a.2.2.2.2.2.2.2.2.2.2.2.2.2.2.2.2.2.2.2.2.2.2.2.2.2.2.2.2.1,a.2.2.2.2.2.2.2.2.2.2.2.2.2.2.2.2.2.2.2.2.2.2.2.2.2.2.2.2.2.1,S,O,J,ap D [zu f 100],()))<|some [.agg [.s .u8 y4,.i .i64 (zf l 4).i,.i .i64 (zf l 4).h],aT .guest (⟨S,d6,d2,O,J,⟨c8,c4,c0⟩,b6,⟨b2,a8,a4,a0⟩,W,D⟩:Guest)])) (0,(zW t 12).i,(zW t 12).h,0,0,0,0,false,0,0,0,false,0,false,w,y,e.Traps,e.Post,e.Open,zu A 256,(zcN q).Kind,(zcN q).Page,(zcN q).Write,(zcN q).N,zdS t 12,c.b,[],[],[],[],d.Prog,v,x,d.Seen,()))<|oN (zdG q 12)<|iter (σ:=(Int×Int×Int×Int×Int×Int×Int×Bool×Int×Int×Int×Bool×Int×Bool×Int×Int×Int×Int×Bool×Int×Int×Int×Bool×Int×Bool×LI×lI×lS×lS×LI×lI×lS×lS×LI×Unit)) N (λz a=>let d7:=a.2.2.2.2.2.2.2.2.2.2.2.2.2.2.1;let d3:=a.2.2.2.2.2.2.2.2.2.2.2.2.2.2.2.1;let c9:=a.2.2.2.2.2.2.2.2.2.2.2.2.2.2.2.2.1;let c5:=a.2.2.2.2.2.2.2.2.2.2.2.2.2.2.2.2.2.1;let c1:=a.2.2.2.2.2.2.2.2.2.2.2.2.2.2.2.2.2.2.1;let b7:=a.2.2.2.2.2.2.2.2.2.2.2.2.2.2.2.2.2.2.2.1;let b3:=a.2.2.2.2.2.2.2.2.2.2.2.2.2.2.2.2.2.2.2.2.1;let a9:=a.2.2.2.2.2.2.2.2.2.2.2.2.2.2.2.2.2.2.2.2.2.1;let a5:=a.2.2.2.2.2.2.2.2.2.2.2.2.2.2.2.2.2.2.2.2.2.2.1;let a1:=a.2.2.2.2.2.2.2.2.2.2.2.2.2.2.2.2.2.2.2.2.2.2.2.1;let X:=a.2.2.2.2.2.2.2.2.2.2.2.2.2.2.2.2.2.2.2.2.2.2.2.2.1;let T:=a.2.2.2.2.2.2.2.2.2.2.2.2.2.2.2.2.2.2.2.2.2.2.2.2.2.2.2.2.2.2.1;let P:=a.2.2.2.2.2.2.2.2.2.2.2.2.2.2.2.2.2.2.2.2.2.2.2.2.2.2.2.2.2.2.2.1;let K:=a.2.2.2.2.2.2.2.2.2.2.2.2.2.2.2.2.2.2.2.2.2.2.2.2.2.2.2.2.2.2.2.2.1;let E:=a.2.2.2.2.2.2.2.2.2.2.2.2.2.2.2.2.2.2.2.2.2.2.2.2.2.2.2.2.2.2.2.2.2.1;let y5:=a.2.2.2.2.2.2.2.2.2.2.2.2.2.2.2.2.2.2.2.2.2.2.2.2.2.1;let m:=(⟨y5,a.2.1,a.2.2.1⟩:Cur);let g:=({ (zf m 4) with b:=y5}:Cur); (oN (zD m 4)<|cond (ilt a.1<|zu m 4) (oN (zD g 100)<|oN (few<|ln<|ap E [zu g 100])<|z (zQ .i64 a.1 1,(zf g 100).i,(zf g 100).h,a.2.2.2.1,a.2.2.2.2.1,a.2.2.2.2.2.1,a.2.2.2.2.2.2.1,a.2.2.2.2.2.2.2.1,a.2.2.2.2.2.2.2.2.1,a.2.2.2.2.2.2.2.2.2.1,a.2.2.2.2.2.2.2.2.2.2.1,a.2.2.2.2.2.2.2.2.2.2.2.1,a.2.2.2.2.2.2.2.2.2.2.2.2.1,a.2.2.2.2.2.2.2.2.2.2.2.2.2.1,d7,d3,c9,c5,c1,b7,b3,a9,a5,a1,X,y5,a.2.2.2.2.2.2.2.2.2.2.2.2.2.2.2.2.2.2.2.2.2.2.2.2.2.2.1,a.2.2.2.2.2.2.2.2.2.2.2.2.2.2.2.2.2.2.2.2.2.2.2.2.2.2.2.1,a.2.2.2.2.2.2.2.2.2.2.2.2.2.2.2.2.2.2.2.2.2.2.2.2.2.2.2.2.1,a.2.2.2.2.2.2.2.2.2.2.2.2.2.2.2.2.2.2.2.2.2.2.2.2.2.2.2.2.2.1,T,P,K,ap E [zu g 100],()))<|some [.agg [.s .u8 y5,.i .i64 (zf m 4).i,.i .i64 (zf m 4).h],aT .guest (⟨T,d7,d3,P,K,⟨c9,c5,c1⟩,b7,⟨b3,a9,a5,a1⟩,X,E⟩:Guest)])) (0,(zW q 12).i,(zW q 12).h,0,0,0,0,false,0,0,0,false,0,false,w,y,e.Traps,e.Post,e.Open,zu A 256,d.Exit.Kind,d.Exit.Page,d.Exit.Write,d.Exit.N,zdS q 12,c.b,[],[],[],[],d.Prog,v,x,d.Seen,()))<|oN (zdG A 4)<|cond (zdS A 4) (oN (zkz r)<|oN (zdG u 12)<|iter (σ:=(Int×Int×Int×Int×Int×Int×Int×Bool×Int×Int×Int×Bool×Int×Bool×Int×Int×Int×Int×Bool×Int×Int×Int×Bool×Int×Bool×LI×lI×lS×lS×LI×lI×lS×lS×LI×Unit)) N (λz a=>let d8:=a.2.2.2.2.2.2.2.2.2.2.2.2.2.2.1;let d4:=a.2.2.2.2.2.2.2.2.2.2.2.2.2.2.2.1;let d0:=a.2.2.2.2.2.2.2.2.2.2.2.2.2.2.2.2.1;let c6:=a.2.2.2.2.2.2.2.2.2.2.2.2.2.2.2.2.2.1;let c2:=a.2.2.2.2.2.2.2.2.2.2.2.2.2.2.2.2.2.2.1;let b8:=a.2.2.2.2.2.2.2.2.2.2.2.2.2.2.2.2.2.2.2.1;let b4:=a.2.2.2.2.2.2.2.2.2.2.2.2.2.2.2.2.2.2.2.2.1;let b0:=a.2.2.2.2.2.2.2.2.2.2.2.2.2.2.2.2.2.2.2.2.2.1;let a6:=a.2.2.2.2.2.2.2.2.2.2.2.2.2.2.2.2.2.2.2.2.2.2.1;let a2:=a.2.2.2.2.2.2.2.2.2.2.2.2.2.2.2.2.2.2.2.2.2.2.2.1;let Y:=a.2.2.2.2.2.2.2.2.2.2.2.2.2.2.2.2.2.2.2.2.2.2.2.2.1;let U:=a.2.2.2.2.2.2.2.2.2.2.2.2.2.2.2.2.2.2.2.2.2.2.2.2.2.2.2.2.2.2.1;let Q:=a.2.2.2.2.2.2.2.2.2.2.2.2.2.2.2.2.2.2.2.2.2.2.2.2.2.2.2.2.2.2.2.1;let L:=a.2.2.2.2.2.2.2.2.2.2.2.2.2.2.2.2.2.2.2.2.2.2.2.2.2.2.2.2.2.2.2.2.1;let F:=a.2.2.2.2.2.2.2.2.2.2.2.2.2.2.2.2.2.2.2.2.2.2.2.2.2.2.2.2.2.2.2.2.2.1;let y6:=a.2.2.2.2.2.2.2.2.2.2.2.2.2.2.2.2.2.2.2.2.2.2.2.2.2.1;let n:=(⟨y6,a.2.1,a.2.2.1⟩:Cur);let j:=({ (zf n 4) with b:=y6}:Cur); (oN (zD n 4)<|cond (ilt a.1<|zu n 4) (oN (zD j 100)<|oN (few<|ln<|ap F [zu j 100])<|z (zQ .i64 a.1 1,(zf j 100).i,(zf j 100).h,a.2.2.2.1,a.2.2.2.2.1,a.2.2.2.2.2.1,a.2.2.2.2.2.2.1,a.2.2.2.2.2.2.2.1,a.2.2.2.2.2.2.2.2.1,a.2.2.2.2.2.2.2.2.2.1,a.2.2.2.2.2.2.2.2.2.2.1,a.2.2.2.2.2.2.2.2.2.2.2.1,a.2.2.2.2.2.2.2.2.2.2.2.2.1,a.2.2.2.2.2.2.2.2.2.2.2.2.2.1,d8,d4,d0,c6,c2,b8,b4,b0,a6,a2,Y,y6,a.2.2.2.2.2.2.2.2.2.2.2.2.2.2.2.2.2.2.2.2.2.2.2.2.2.2.1,a.2.2.2.2.2.2.2.2.2.2.2.2.2.2.2.2.2.2.2.2.2.2.2.2.2.2.2.1,a.2.2.2.2.2.2.2.2.2.2.2.2.2.2.2.2.2.2.2.2.2.2.2.2.2.2.2.2.1,a.2.2.2.2.2.2.2.2.2.2.2.2.2.2.2.2.2.2.2.2.2.2.2.2.2.2.2.2.2.1,U,Q,L,ap F [zu j 100],()))<|some [.agg [.s .u8 y6,.i .i64 (zf n 4).i,.i .i64 (zf n 4).h],aT .guest (⟨U,d8,d4,Q,L,⟨d0,c6,c2⟩,b8,⟨b4,b0,a6,a2⟩,Y,F⟩:Guest)])) (0,(zW u 12).i,(zW u 12).h,0,0,0,0,false,0,0,0,false,0,false,w,y,e.Traps,e.Post,e.Open,d.Pending,(zcN r).Kind,(zcN r).Page,(zcN r).Write,(zcN r).N,zdS u 12,c.b,[],[],[],[],d.Prog,v,x,d.Seen,()))<|oN (zdG r 12)<|iter (σ:=(Int×Int×Int×Int×Int×Int×Int×Bool×Int×Int×Int×Bool×Int×Bool×Int×Int×Int×Int×Bool×Int×Int×Int×Bool×Int×Bool×LI×lI×lS×lS×LI×lI×lS×lS×LI×Unit)) N (λz a=>let d9:=a.2.2.2.2.2.2.2.2.2.2.2.2.2.2.1;let d5:=a.2.2.2.2.2.2.2.2.2.2.2.2.2.2.2.1;let d1:=a.2.2.2.2.2.2.2.2.2.2.2.2.2.2.2.2.1;let c7:=a.2.2.2.2.2.2.2.2.2.2.2.2.2.2.2.2.2.1;let c3:=a.2.2.2.2.2.2.2.2.2.2.2.2.2.2.2.2.2.2.1;let b9:=a.2.2.2.2.2.2.2.2.2.2.2.2.2.2.2.2.2.2.2.1;let b5:=a.2.2.2.2.2.2.2.2.2.2.2.2.2.2.2.2.2.2.2.2.1;let b1:=a.2.2.2.2.2.2.2.2.2.2.2.2.2.2.2.2.2.2.2.2.2.1;let a7:=a.2.2.2.2.2.2.2.2.2.2.2.2.2.2.2.2.2.2.2.2.2.2.1;let a3:=a.2.2.2.2.2.2.2.2.2.2.2.2.2.2.2.2.2.2.2.2.2.2.2.1;let Z:=a.2.2.2.2.2.2.2.2.2.2.2.2.2.2.2.2.2.2.2.2.2.2.2.2.1;let V:=a.2.2.2.2.2.2.2.2.2.2.2.2.2.2.2.2.2.2.2.2.2.2.2.2.2.2.2.2.2.2.1;let R:=a.2.2.2.2.2.2.2.2.2.2.2.2.2.2.2.2.2.2.2.2.2.2.2.2.2.2.2.2.2.2.2.1;let M:=a.2.2.2.2.2.2.2.2.2.2.2.2.2.2.2.2.2.2.2.2.2.2.2.2.2.2.2.2.2.2.2.2.1;let G:=a.2.2.2.2.2.2.2.2.2.2.2.2.2.2.2.2.2.2.2.2.2.2.2.2.2.2.2.2.2.2.2.2.2.1;let y7:=a.2.2.2.2.2.2.2.2.2.2.2.2.2.2.2.2.2.2.2.2.2.2.2.2.2.1;let p:=(⟨y7,a.2.1,a.2.2.1⟩:Cur);let k:=({ (zf p 4) with b:=y7}:Cur); (oN (zD p 4)<|cond (ilt a.1<|zu p 4) (oN (zD k 100)<|oN (few<|ln<|ap G [zu k 100])<|z (zQ .i64 a.1 1,(zf k 100).i,(zf k 100).h,a.2.2.2.1,a.2.2.2.2.1,a.2.2.2.2.2.1,a.2.2.2.2.2.2.1,a.2.2.2.2.2.2.2.1,a.2.2.2.2.2.2.2.2.1,a.2.2.2.2.2.2.2.2.2.1,a.2.2.2.2.2.2.2.2.2.2.1,a.2.2.2.2.2.2.2.2.2.2.2.1,a.2.2.2.2.2.2.2.2.2.2.2.2.1,a.2.2.2.2.2.2.2.2.2.2.2.2.2.1,d9,d5,d1,c7,c3,b9,b5,b1,a7,a3,Z,y7,a.2.2.2.2.2.2.2.2.2.2.2.2.2.2.2.2.2.2.2.2.2.2.2.2.2.2.1,a.2.2.2.2.2.2.2.2.2.2.2.2.2.2.2.2.2.2.2.2.2.2.2.2.2.2.2.1,a.2.2.2.2.2.2.2.2.2.2.2.2.2.2.2.2.2.2.2.2.2.2.2.2.2.2.2.2.1,a.2.2.2.2.2.2.2.2.2.2.2.2.2.2.2.2.2.2.2.2.2.2.2.2.2.2.2.2.2.1,V,R,M,ap G [zu k 100],()))<|some [.agg [.s .u8 y7,.i .i64 (zf p 4).i,.i .i64 (zf p 4).h],aT .guest (⟨V,d9,d5,R,M,⟨d1,c7,c3⟩,b9,⟨b5,b1,a7,a3⟩,Z,G⟩:Guest)])) (0,(zW r 12).i,(zW r 12).h,0,0,0,0,false,0,0,0,false,0,false,w,y,e.Traps,e.Post,e.Open,d.Pending,d.Exit.Kind,d.Exit.Page,d.Exit.Write,d.Exit.N,zdS r 12,c.b,[],[],[],[],d.Prog,v,x,d.Seen,()))
def zQn:=zo [(179,0,{n:=50,tm:=[(0,.lp 0 0),(2,.lp 1 0),(3,.lp 2 0),(4,ti)],lo:=[(0,[.sl 0 [],ti,ti]),(1,[.sl 1 [],ti,ti,.sl 2 [],.sl 3 [],ti,ti,.b,ti,ti,ti,.b,ti,.b,.sl 4 []]),(2,[.sl 5 [],ti,ti,.sl 6 [],.sl 7 [],ti,ti,.b,ti,ti,ti,.b,ti,.b,.sl 8 []])],ro:=[(0,.u8,false),(1,.ins,true),(2,.slot,true),(3,.slot,true),(4,.int,true),(5,.ins,true),(6,.slot,true),(7,.slot,true),(8,.int,true)]})]
def zpn (c:Cur)(s:Cur)(a:Guest):Prop:=(∃N,zvc N c=some (AV.agg (zcl s)::[aT .guest a]))/\(s.b=c.b/\0<=s.i)/\(GuS a/\a.Seen.length<=4)
def zno (c:Cur)  : Bool:=wC (zpn c)
def zlh (c:Cur)  : Cur:=wS (zpn c)
def zcE (c:Cur)  : Guest:=wV (zpn c)
def zEg {c:Cur}(h:zno c=true):zpn c (zlh c) (zcE c):=wG h
def zWJ (c:Cur)  : 0<=(zlh c).i:=wP λh=>h.2.1.2
def zWI (c:Cur)(h:∃N,Ends (wE (λa=>aT .guest a) c.b λa=>GuS a/\a.Seen.length<=4)<|zvc N c):zno c=true:=wI (λ_ _ h=>h) h
def zxa:zeR:=rP0 λc=>(zno c,zlh c,[aT .guest<|zcE c])
def zIW:zcc Tryz.prog 179 [false,true,true] zxa:=hP0 zHW zbo zWk zq zQn (λ_ h=>(zEg h).1)
def zUE {c:Cur}(h:zbk c):zno c=true:=by
 refine zWI c ⟨1002,?_⟩;unfold zvc oN;conv=>zeta
 have f:=zDY h;have j:=zJy (zsL f).2.2;have e:zk8 (zcv c)=true:=zbh (by omega);have q:∀{s:Cur},0<=s.i->zbk {s with b:=c.b}:=fun g=>zb0 h g;have d:GuS ⟨zcv c,0,0,[],[],⟨0,0,false⟩,0,⟨0,0,false,0⟩,false,[]⟩:=⟨by dsimp only;omega,by simp,by simp,by simp⟩
 refine zI f (zI e (zI (zzu (q (zky _)) (by omega) (by omega) _) (zI (zzu (q (zjA _ _ _)) (by omega) (by omega) _) (zI (zbF (q (zjA _ _ _)) _) (zI (zbF (q (zJ _ _)) _) (zI (z0t (q (zJ _ _))) (zI (zk0 (q (zAF _)) _)
  (zbK (fun _=>zI (zbF (q (zcT _ _)) _) (zI (zk0 (q (zJ _ _)) _) (zbK (fun _=>zI (zUH (q (zcT _ _))) (zI (zk0 (q (zx6 _)) _) ?_)) (fun _=>zI (zk0 (q (zcT _ _)) _) ?_))))
   (fun _=>zI (zk0 (q (zcT _ _)) _) (zbK (fun _=>zI (zUH (q (zcT _ _))) (zI (zk0 (q (zx6 _)) _) ?_)) (fun _=>zI (zk0 (q (zcT _ _)) _) ?_)))))))))))
 .exact zEG h (zcT _ _) (P:=fun _=>True) (q:=4) (by omega) (by omega) (fc:=fun c=>zD c 100) (fs:=fun c=>zf c 100) (fv:=fun c=>zu c 100) (fun h=>zbF h _) (fun c=>zJ c _) (fun _=>trivial) (z:=0) (l0:=(zcY (zcv c)).Seen) (qV 0) (by omega) (by simp) ((fun _ t=>(t.1,t.2.1,t.2.2.1,0,0,0,0,false,0,0,0,false,0,false,(zu ({ (zK ({ (zK ({ (zbb c) with b:=c.b }:Cur) 4 8) with b:=c.b }:Cur) 4 8) with b:=c.b }:Cur) 100),(zu ({ (zf ({ (zK ({ (zK ({ (zbb c) with b:=c.b }:Cur) 4 8) with b:=c.b }:Cur) 4 8) with b:=c.b }:Cur) 100) with b:=c.b }:Cur) 4),(zc7 ({ (zf ({ (zf ({ (zK ({ (zK ({ (zbb c) with b:=c.b }:Cur) 4 8) with b:=c.b }:Cur) 4 8) with b:=c.b }:Cur) 100) with b:=c.b }:Cur) 4) with b:=c.b }:Cur)).Traps,(zc7 ({ (zf ({ (zf ({ (zK ({ (zK ({ (zbb c) with b:=c.b }:Cur) 4 8) with b:=c.b }:Cur) 4 8) with b:=c.b }:Cur) 100) with b:=c.b }:Cur) 4) with b:=c.b }:Cur)).Post,(zc7 ({ (zf ({ (zf ({ (zK ({ (zK ({ (zbb c) with b:=c.b }:Cur) 4 8) with b:=c.b }:Cur) 4 8) with b:=c.b }:Cur) 100) with b:=c.b }:Cur) 4) with b:=c.b }:Cur)).Open,(zu ({ (zW ({ (zcR ({ (zf ({ (zf ({ (zK ({ (zK ({ (zbb c) with b:=c.b }:Cur) 4 8) with b:=c.b }:Cur) 4 8) with b:=c.b }:Cur) 100) with b:=c.b }:Cur) 4) with b:=c.b }:Cur)) with b:=c.b }:Cur) 3) with b:=c.b }:Cur) 256),(zcN ({ (zW ({ (zf ({ (zW ({ (zcR ({ (zf ({ (zf ({ (zK ({ (zK ({ (zbb c) with b:=c.b }:Cur) 4 8) with b:=c.b }:Cur) 4 8) with b:=c.b }:Cur) 100) with b:=c.b }:Cur) 4) with b:=c.b }:Cur)) with b:=c.b }:Cur) 3) with b:=c.b }:Cur) 256) with b:=c.b }:Cur) 4) with b:=c.b }:Cur)).Kind,(zcN ({ (zW ({ (zf ({ (zW ({ (zcR ({ (zf ({ (zf ({ (zK ({ (zK ({ (zbb c) with b:=c.b }:Cur) 4 8) with b:=c.b }:Cur) 4 8) with b:=c.b }:Cur) 100) with b:=c.b }:Cur) 4) with b:=c.b }:Cur)) with b:=c.b }:Cur) 3) with b:=c.b }:Cur) 256) with b:=c.b }:Cur) 4) with b:=c.b }:Cur)).Page,(zcN ({ (zW ({ (zf ({ (zW ({ (zcR ({ (zf ({ (zf ({ (zK ({ (zK ({ (zbb c) with b:=c.b }:Cur) 4 8) with b:=c.b }:Cur) 4 8) with b:=c.b }:Cur) 100) with b:=c.b }:Cur) 4) with b:=c.b }:Cur)) with b:=c.b }:Cur) 3) with b:=c.b }:Cur) 256) with b:=c.b }:Cur) 4) with b:=c.b }:Cur)).Write,(zcN ({ (zW ({ (zf ({ (zW ({ (zcR ({ (zf ({ (zf ({ (zK ({ (zK ({ (zbb c) with b:=c.b }:Cur) 4 8) with b:=c.b }:Cur) 4 8) with b:=c.b }:Cur) 100) with b:=c.b }:Cur) 4) with b:=c.b }:Cur)) with b:=c.b }:Cur) 3) with b:=c.b }:Cur) 256) with b:=c.b }:Cur) 4) with b:=c.b }:Cur)).N,(zdS ({ (zgL ({ (zW ({ (zf ({ (zW ({ (zcR ({ (zf ({ (zf ({ (zK ({ (zK ({ (zbb c) with b:=c.b }:Cur) 4 8) with b:=c.b }:Cur) 4 8) with b:=c.b }:Cur) 100) with b:=c.b }:Cur) 4) with b:=c.b }:Cur)) with b:=c.b }:Cur) 3) with b:=c.b }:Cur) 256) with b:=c.b }:Cur) 4) with b:=c.b }:Cur)) with b:=c.b }:Cur) 12),c.b,[],[],[],[],(zcY (zcv c)).Prog,(zej ({ (zbb c) with b:=c.b }:Cur) 4 8),(zej ({ (zK ({ (zbb c) with b:=c.b }:Cur) 4 8) with b:=c.b }:Cur) 4 8),t.2.2.2,())):Nat->Int×Int×Int×LI->_)
   (fun rec t i k l=>⟨_,rfl,fun a _=>⟨⟨_,_,_⟩,_,rfl,⟨rfl,zJ _ _⟩,⟨⟨d.1,zEr (q (zky _)),zEr (q (zjA _ _ _)),by unfold ln at a;dsimp only;omega⟩,by unfold ln at a;dsimp only;omega⟩⟩⟩)
 .exact zEG h (zcT _ _) (P:=fun _=>True) (q:=4) (by omega) (by omega) (fc:=fun c=>zD c 100) (fs:=fun c=>zf c 100) (fv:=fun c=>zu c 100) (fun h=>zbF h _) (fun c=>zJ c _) (fun _=>trivial) (z:=0) (l0:=(zcY (zcv c)).Seen) (qV 0) (by omega) (by simp) ((fun _ t=>(t.1,t.2.1,t.2.2.1,0,0,0,0,false,0,0,0,false,0,false,(zu ({ (zK ({ (zK ({ (zbb c) with b:=c.b }:Cur) 4 8) with b:=c.b }:Cur) 4 8) with b:=c.b }:Cur) 100),(zu ({ (zf ({ (zK ({ (zK ({ (zbb c) with b:=c.b }:Cur) 4 8) with b:=c.b }:Cur) 4 8) with b:=c.b }:Cur) 100) with b:=c.b }:Cur) 4),(zc7 ({ (zf ({ (zf ({ (zK ({ (zK ({ (zbb c) with b:=c.b }:Cur) 4 8) with b:=c.b }:Cur) 4 8) with b:=c.b }:Cur) 100) with b:=c.b }:Cur) 4) with b:=c.b }:Cur)).Traps,(zc7 ({ (zf ({ (zf ({ (zK ({ (zK ({ (zbb c) with b:=c.b }:Cur) 4 8) with b:=c.b }:Cur) 4 8) with b:=c.b }:Cur) 100) with b:=c.b }:Cur) 4) with b:=c.b }:Cur)).Post,(zc7 ({ (zf ({ (zf ({ (zK ({ (zK ({ (zbb c) with b:=c.b }:Cur) 4 8) with b:=c.b }:Cur) 4 8) with b:=c.b }:Cur) 100) with b:=c.b }:Cur) 4) with b:=c.b }:Cur)).Open,(zu ({ (zW ({ (zcR ({ (zf ({ (zf ({ (zK ({ (zK ({ (zbb c) with b:=c.b }:Cur) 4 8) with b:=c.b }:Cur) 4 8) with b:=c.b }:Cur) 100) with b:=c.b }:Cur) 4) with b:=c.b }:Cur)) with b:=c.b }:Cur) 3) with b:=c.b }:Cur) 256),(zcY (zcv c)).Exit.Kind,(zcY (zcv c)).Exit.Page,(zcY (zcv c)).Exit.Write,(zcY (zcv c)).Exit.N,(zdS ({ (zW ({ (zf ({ (zW ({ (zcR ({ (zf ({ (zf ({ (zK ({ (zK ({ (zbb c) with b:=c.b }:Cur) 4 8) with b:=c.b }:Cur) 4 8) with b:=c.b }:Cur) 100) with b:=c.b }:Cur) 4) with b:=c.b }:Cur)) with b:=c.b }:Cur) 3) with b:=c.b }:Cur) 256) with b:=c.b }:Cur) 4) with b:=c.b }:Cur) 12),c.b,[],[],[],[],(zcY (zcv c)).Prog,(zej ({ (zbb c) with b:=c.b }:Cur) 4 8),(zej ({ (zK ({ (zbb c) with b:=c.b }:Cur) 4 8) with b:=c.b }:Cur) 4 8),t.2.2.2,())):Nat->Int×Int×Int×LI->_)
   (fun rec t i k l=>⟨_,rfl,fun a _=>⟨⟨_,_,_⟩,_,rfl,⟨rfl,zJ _ _⟩,⟨⟨d.1,zEr (q (zky _)),zEr (q (zjA _ _ _)),by unfold ln at a;dsimp only;omega⟩,by unfold ln at a;dsimp only;omega⟩⟩⟩)
 .exact zEG h (zcT _ _) (P:=fun _=>True) (q:=4) (by omega) (by omega) (fc:=fun c=>zD c 100) (fs:=fun c=>zf c 100) (fv:=fun c=>zu c 100) (fun h=>zbF h _) (fun c=>zJ c _) (fun _=>trivial) (z:=0) (l0:=(zcY (zcv c)).Seen) (qV 0) (by omega) (by simp) ((fun _ t=>(t.1,t.2.1,t.2.2.1,0,0,0,0,false,0,0,0,false,0,false,(zu ({ (zK ({ (zK ({ (zbb c) with b:=c.b }:Cur) 4 8) with b:=c.b }:Cur) 4 8) with b:=c.b }:Cur) 100),(zu ({ (zf ({ (zK ({ (zK ({ (zbb c) with b:=c.b }:Cur) 4 8) with b:=c.b }:Cur) 4 8) with b:=c.b }:Cur) 100) with b:=c.b }:Cur) 4),(zc7 ({ (zf ({ (zf ({ (zK ({ (zK ({ (zbb c) with b:=c.b }:Cur) 4 8) with b:=c.b }:Cur) 4 8) with b:=c.b }:Cur) 100) with b:=c.b }:Cur) 4) with b:=c.b }:Cur)).Traps,(zc7 ({ (zf ({ (zf ({ (zK ({ (zK ({ (zbb c) with b:=c.b }:Cur) 4 8) with b:=c.b }:Cur) 4 8) with b:=c.b }:Cur) 100) with b:=c.b }:Cur) 4) with b:=c.b }:Cur)).Post,(zc7 ({ (zf ({ (zf ({ (zK ({ (zK ({ (zbb c) with b:=c.b }:Cur) 4 8) with b:=c.b }:Cur) 4 8) with b:=c.b }:Cur) 100) with b:=c.b }:Cur) 4) with b:=c.b }:Cur)).Open,(zcY (zcv c)).Pending,(zcN ({ (zW ({ (zW ({ (zcR ({ (zf ({ (zf ({ (zK ({ (zK ({ (zbb c) with b:=c.b }:Cur) 4 8) with b:=c.b }:Cur) 4 8) with b:=c.b }:Cur) 100) with b:=c.b }:Cur) 4) with b:=c.b }:Cur)) with b:=c.b }:Cur) 3) with b:=c.b }:Cur) 4) with b:=c.b }:Cur)).Kind,(zcN ({ (zW ({ (zW ({ (zcR ({ (zf ({ (zf ({ (zK ({ (zK ({ (zbb c) with b:=c.b }:Cur) 4 8) with b:=c.b }:Cur) 4 8) with b:=c.b }:Cur) 100) with b:=c.b }:Cur) 4) with b:=c.b }:Cur)) with b:=c.b }:Cur) 3) with b:=c.b }:Cur) 4) with b:=c.b }:Cur)).Page,(zcN ({ (zW ({ (zW ({ (zcR ({ (zf ({ (zf ({ (zK ({ (zK ({ (zbb c) with b:=c.b }:Cur) 4 8) with b:=c.b }:Cur) 4 8) with b:=c.b }:Cur) 100) with b:=c.b }:Cur) 4) with b:=c.b }:Cur)) with b:=c.b }:Cur) 3) with b:=c.b }:Cur) 4) with b:=c.b }:Cur)).Write,(zcN ({ (zW ({ (zW ({ (zcR ({ (zf ({ (zf ({ (zK ({ (zK ({ (zbb c) with b:=c.b }:Cur) 4 8) with b:=c.b }:Cur) 4 8) with b:=c.b }:Cur) 100) with b:=c.b }:Cur) 4) with b:=c.b }:Cur)) with b:=c.b }:Cur) 3) with b:=c.b }:Cur) 4) with b:=c.b }:Cur)).N,(zdS ({ (zgL ({ (zW ({ (zW ({ (zcR ({ (zf ({ (zf ({ (zK ({ (zK ({ (zbb c) with b:=c.b }:Cur) 4 8) with b:=c.b }:Cur) 4 8) with b:=c.b }:Cur) 100) with b:=c.b }:Cur) 4) with b:=c.b }:Cur)) with b:=c.b }:Cur) 3) with b:=c.b }:Cur) 4) with b:=c.b }:Cur)) with b:=c.b }:Cur) 12),c.b,[],[],[],[],(zcY (zcv c)).Prog,(zej ({ (zbb c) with b:=c.b }:Cur) 4 8),(zej ({ (zK ({ (zbb c) with b:=c.b }:Cur) 4 8) with b:=c.b }:Cur) 4 8),t.2.2.2,())):Nat->Int×Int×Int×LI->_)
   (fun rec t i k l=>⟨_,rfl,fun a _=>⟨⟨_,_,_⟩,_,rfl,⟨rfl,zJ _ _⟩,⟨⟨d.1,zEr (q (zky _)),zEr (q (zjA _ _ _)),by unfold ln at a;dsimp only;omega⟩,by unfold ln at a;dsimp only;omega⟩⟩⟩)
 .exact zEG h (zcT _ _) (P:=fun _=>True) (q:=4) (by omega) (by omega) (fc:=fun c=>zD c 100) (fs:=fun c=>zf c 100) (fv:=fun c=>zu c 100) (fun h=>zbF h _) (fun c=>zJ c _) (fun _=>trivial) (z:=0) (l0:=(zcY (zcv c)).Seen) (qV 0) (by omega) (by simp) ((fun _ t=>(t.1,t.2.1,t.2.2.1,0,0,0,0,false,0,0,0,false,0,false,(zu ({ (zK ({ (zK ({ (zbb c) with b:=c.b }:Cur) 4 8) with b:=c.b }:Cur) 4 8) with b:=c.b }:Cur) 100),(zu ({ (zf ({ (zK ({ (zK ({ (zbb c) with b:=c.b }:Cur) 4 8) with b:=c.b }:Cur) 4 8) with b:=c.b }:Cur) 100) with b:=c.b }:Cur) 4),(zc7 ({ (zf ({ (zf ({ (zK ({ (zK ({ (zbb c) with b:=c.b }:Cur) 4 8) with b:=c.b }:Cur) 4 8) with b:=c.b }:Cur) 100) with b:=c.b }:Cur) 4) with b:=c.b }:Cur)).Traps,(zc7 ({ (zf ({ (zf ({ (zK ({ (zK ({ (zbb c) with b:=c.b }:Cur) 4 8) with b:=c.b }:Cur) 4 8) with b:=c.b }:Cur) 100) with b:=c.b }:Cur) 4) with b:=c.b }:Cur)).Post,(zc7 ({ (zf ({ (zf ({ (zK ({ (zK ({ (zbb c) with b:=c.b }:Cur) 4 8) with b:=c.b }:Cur) 4 8) with b:=c.b }:Cur) 100) with b:=c.b }:Cur) 4) with b:=c.b }:Cur)).Open,(zcY (zcv c)).Pending,(zcY (zcv c)).Exit.Kind,(zcY (zcv c)).Exit.Page,(zcY (zcv c)).Exit.Write,(zcY (zcv c)).Exit.N,(zdS ({ (zW ({ (zW ({ (zcR ({ (zf ({ (zf ({ (zK ({ (zK ({ (zbb c) with b:=c.b }:Cur) 4 8) with b:=c.b }:Cur) 4 8) with b:=c.b }:Cur) 100) with b:=c.b }:Cur) 4) with b:=c.b }:Cur)) with b:=c.b }:Cur) 3) with b:=c.b }:Cur) 4) with b:=c.b }:Cur) 12),c.b,[],[],[],[],(zcY (zcv c)).Prog,(zej ({ (zbb c) with b:=c.b }:Cur) 4 8),(zej ({ (zK ({ (zbb c) with b:=c.b }:Cur) 4 8) with b:=c.b }:Cur) 4 8),t.2.2.2,())):Nat->Int×Int×Int×LI->_)
   (fun rec t i k l=>⟨_,rfl,fun a _=>⟨⟨_,_,_⟩,_,rfl,⟨rfl,zJ _ _⟩,⟨⟨d.1,zEr (q (zky _)),zEr (q (zjA _ _ _)),by unfold ln at a;dsimp only;omega⟩,by unfold ln at a;dsimp only;omega⟩⟩⟩)
def z9r:zdj:=[(179,[false,true,true],zxa)]++z9q
def zJw:zco z9r:=zcZ zWk (by
 intro x a;simp only[qG,qN,or_false]at a;rcases a with rfl
 .exact zIW)
def zzG (N:Nat)(c:Cur)  : OA :=
 let e:=zcE c;let B:=({ (zlh c) with b:=c.b}:Cur);let f:=zf B 14;let j:=zu B 14;let d:=({f with b:=c.b}:Cur);let g:=zir d 4 8;let p:=zba d [-1,12,13,9223372036854775807]; (oN (zno c)<|oN (zD B 14)<|cond (ieq j 0) (oN (zlf d)<|some [.agg [.s .u8 c.b,.i .i64 (zlg d).i,.i .i64 (zlg d).h],aT .guest ({e with Prog:=(zq9 d)}:Guest)])<|cond (ieq j 1) (oN (zbB d [-1,100])<|some [.agg [.s .u8 c.b,.i .i64 (zba d [-1,100]).i,.i .i64 (zba d [-1,100]).h],aT .guest ({e with A:=(zbt d [-1,100])}:Guest)])<|cond (ieq j 2) (oN (zbB d [-1,12,13,9223372036854775807])<|some [.agg [.s .u8 c.b,.i .i64 p.i,.i .i64 p.h],aT .guest ({e with Pc:=(zbt d [-1,12,13,9223372036854775807])}:Guest)])<|cond (ieq j 3) (oN (zg4 d 4 8)<|some [.agg [.s .u8 c.b,.i .i64 g.i,.i .i64 g.h],aT .guest ({e with Live:=(zgh d 4 8)}:Guest)])<|cond (ieq j 4) (oN (zrb d)<|some [.agg [.s .u8 c.b,.i .i64 (zrd d).i,.i .i64 (zrd d).h],aT .guest ({e with Ctl:=(zAE d)}:Guest)])<|cond (ieq j 5) (oN (zoS d)<|some [.agg [.s .u8 c.b,.i .i64 (zoT d).i,.i .i64 (zoT d).h],aT .guest ({e with Pending:=(zxt d)}:Guest)])<|cond (ieq j 6) (oN (zre d)<|some [.agg [.s .u8 c.b,.i .i64 (zrf d).i,.i .i64 (zrf d).h],aT .guest ({e with Exit:=(zAG d)}:Guest)])<|cond (ieq j 7) (iter (σ:=(Int×Int×Int×Int×Int×Int×Bool×Int×Int×Int×Bool×Int×Bool×Int×Int×Int×Int×Bool×Int×Int×Int×Bool×Int×Bool×LI×lI×lS×lS×LI×lI×lS×lS×LI×Unit)) N (λG a=>let y:=a.2.2.2.2.2.2.2.2.2.2.2.2.2.1;let x:=a.2.2.2.2.2.2.2.2.2.2.2.2.2.2.1;let w:=a.2.2.2.2.2.2.2.2.2.2.2.2.2.2.2.1;let v:=a.2.2.2.2.2.2.2.2.2.2.2.2.2.2.2.2.1;let u:=a.2.2.2.2.2.2.2.2.2.2.2.2.2.2.2.2.2.1;let t:=a.2.2.2.2.2.2.2.2.2.2.2.2.2.2.2.2.2.2.1;let r:=a.2.2.2.2.2.2.2.2.2.2.2.2.2.2.2.2.2.2.2.1;let q:=a.2.2.2.2.2.2.2.2.2.2.2.2.2.2.2.2.2.2.2.2.1;let n:=a.2.2.2.2.2.2.2.2.2.2.2.2.2.2.2.2.2.2.2.2.2.1;let m:=a.2.2.2.2.2.2.2.2.2.2.2.2.2.2.2.2.2.2.2.2.2.2.1;let l:=a.2.2.2.2.2.2.2.2.2.2.2.2.2.2.2.2.2.2.2.2.2.2.2.1;let F:=a.2.2.2.2.2.2.2.2.2.2.2.2.2.2.2.2.2.2.2.2.2.2.2.2.2.2.2.2.2.1;let E:=a.2.2.2.2.2.2.2.2.2.2.2.2.2.2.2.2.2.2.2.2.2.2.2.2.2.2.2.2.2.2.1;let D:=a.2.2.2.2.2.2.2.2.2.2.2.2.2.2.2.2.2.2.2.2.2.2.2.2.2.2.2.2.2.2.2.1;let C:=a.2.2.2.2.2.2.2.2.2.2.2.2.2.2.2.2.2.2.2.2.2.2.2.2.1;let z:=a.2.2.2.2.2.2.2.2.2.2.2.2.2.2.2.2.2.2.2.2.2.2.2.2.2.2.2.2.2.2.2.2.1;let k:=(⟨C,a.1,a.2.1⟩:Cur); (oN (zD k 3)<|cond (ilt (ln z)<|zQ .i64 39<|zu k 3) (oN (few<|ln<|ap z [1])<|G ((zf k 3).i,(zf k 3).h,a.2.2.1,a.2.2.2.1,a.2.2.2.2.1,a.2.2.2.2.2.1,a.2.2.2.2.2.2.1,a.2.2.2.2.2.2.2.1,a.2.2.2.2.2.2.2.2.1,a.2.2.2.2.2.2.2.2.2.1,a.2.2.2.2.2.2.2.2.2.2.1,a.2.2.2.2.2.2.2.2.2.2.2.1,a.2.2.2.2.2.2.2.2.2.2.2.2.1,y,x,w,v,u,t,r,q,n,m,l,C,a.2.2.2.2.2.2.2.2.2.2.2.2.2.2.2.2.2.2.2.2.2.2.2.2.2.1,a.2.2.2.2.2.2.2.2.2.2.2.2.2.2.2.2.2.2.2.2.2.2.2.2.2.2.1,a.2.2.2.2.2.2.2.2.2.2.2.2.2.2.2.2.2.2.2.2.2.2.2.2.2.2.2.1,a.2.2.2.2.2.2.2.2.2.2.2.2.2.2.2.2.2.2.2.2.2.2.2.2.2.2.2.2.1,F,E,D,ap z [1],()))<|some [.agg [.s .u8 C,.i .i64 (zf k 3).i,.i .i64 (zf k 3).h],aT .guest (⟨F,y,x,E,D,⟨w,v,u⟩,t,⟨r,q,n,m⟩,l,z⟩:Guest)])) (f.i,f.h,0,0,0,0,false,0,0,0,false,0,false,e.A,e.Pc,e.Ctl.Traps,e.Ctl.Post,e.Ctl.Open,e.Pending,e.Exit.Kind,e.Exit.Page,e.Exit.Write,e.Exit.N,e.Halted,c.b,[],[],[],[],e.Prog,e.Written,e.Live,e.Seen,()))<|cond (ieq j 8) (oN (zg4 d 4 8)<|some [.agg [.s .u8 c.b,.i .i64 g.i,.i .i64 g.h],aT .guest ({e with Written:=(zgh d 4 8)}:Guest)])<|some [.agg [.s .u8 c.b,.i .i64 f.i,.i .i64 f.h],aT .guest e])
def zXr:=zo [(99,1,{n:=65,tm:=[(0,.lp 0 0),(2,.lp 1 0),(3,.lp 2 0)],lo:=[(0,[.sl 0 [],ti,ti]),(1,[.sl 1 [],ti,ti,.sl 2 [],.sl 3 [],ti,ti,.b,ti,ti,ti,.b,ti,.b,.sl 4 []]),(2,[.sl 5 [],ti,ti,.sl 6 [],.sl 7 [],ti,ti,.b,ti,ti,ti,.b,ti,.b,.sl 8 []])],ro:=[(0,.u8,false),(1,.ins,true),(2,.slot,true),(3,.slot,true),(4,.int,true),(5,.ins,true),(6,.slot,true),(7,.slot,true),(8,.int,true)]})]
def zsP (c:Cur)(s:Cur)(a:Guest):Prop:=(∃N,zzG N c=some (AV.agg (zcl s)::[aT .guest a]))/\(s.b=c.b/\0<=s.i)/\(GuS a)
def zri (c:Cur)  : Bool:=wC (zsP c)
def zrj (c:Cur)  : Cur:=wS (zsP c)
def zAH (c:Cur)  : Guest:=wV (zsP c)
def zM7 {c:Cur}(h:zri c=true):zsP c (zrj c) (zAH c):=wG h
def z1W (c:Cur)  : 0<=(zrj c).i:=wP λh=>h.2.1.2
def z1V (c:Cur)(h:∃N,Ends (wE (λa=>aT .guest a) c.b λa=>GuS a)<|zzG N c):zri c=true:=wI (λ_ _ h=>h) h
def zBt:zeR:=rP0 λc=>(zri c,zrj c,[aT .guest<|zAH c])
def zOZ:zcc Tryz.prog 99 [false,true,true] zBt:=hP0 zHW zbo zJw zq zXr (λ_ h=>(zM7 h).1)
def zKI {c:Cur}(h:zbk c):zri c=true:=by
 refine z1V c ⟨1002,?_⟩;unfold zzG oN;conv=>zeta
 have q:∀{s:Cur},0<=s.i->zbk {s with b:=c.b}:=λr=>zb0 h r;have a:zbk {zf {zlh c with b:=c.b} 14 with b:=c.b}:=q (zJ _ _);obtain⟨⟨d,e,f,g⟩,w⟩:=(zEg<|zUE h).2.2;have p:(zgh {zf {zlh c with b:=c.b} 14 with b:=c.b} 4 8).length<=4:=by have:=((zq2<|zp8 a (n:=4) (by omega) (by omega) 8).2.2 (by omega) (by omega)).1;unfold ln at this;omega
 have j:=(zzp<|zQV a).2.2;refine zI (zUE h) (zI (zbF (q<|zWJ _) _) (zbK (λ_=>zI (zQV a) (zbU (aT .guest) (v:={zcE c with Prog:=zq9 _}) (zP3 _) ⟨j,e,f,g⟩))
  (λ_=>zbK (λ_=>zI (zgs a (by simp)) (zbU (aT .guest) (v:={zcE c with A:=zbt _ _}) (zcu _ _) ⟨d,e,f,g⟩))
  (λ_=>zbK (λ_=>zI (zgs a (by simp)) (zbU (aT .guest) (v:={zcE c with Pc:=zbt _ _}) (zcu _ _) ⟨d,e,f,g⟩))
  (λ_=>zbK (λ_=>zI (zp8 a (by omega) (by omega) _) (zbU (aT .guest) (v:={zcE c with Live:=zgh _ _ _}) (zq3 _ _ _) ⟨d,e,p,g⟩))
  (λ_=>zbK (λ_=>zI (z5l a) (zbU (aT .guest) (v:={zcE c with Ctl:=zAE _}) (z1P _) ⟨d,e,f,g⟩))
  (λ_=>zbK (λ_=>zI (zbb3 a) (zbU (aT .guest) (v:={zcE c with Pending:=zxt _}) (zYK _) ⟨d,e,f,g⟩))
  (λ_=>zbK (λ_=>zI (z2B a) (zbU (aT .guest) (v:={zcE c with Exit:=zAG _}) (z1U _) ⟨d,e,f,g⟩))
  (λ_=>zbK (λ_=>?_)
  (λ_=>zbK (λ_=>zI (zp8 a (by omega) (by omega) _) (zbU (aT .guest) (v:={zcE c with Written:=zgh _ _ _}) (zq3 _ _ _) ⟨d,p,f,g⟩))
  (λ_=>zbU (aT .guest) (v:=zcE c) (zJ _ _) ⟨d,e,f,g⟩)))))))))))
 exact zbbL h (zJ _ _) (m:=39) (q:=3) (x:=1) (by omega) (by omega) (by omega) (l0:=(zcE c).Seen) (by unfold ln;omega) ((λ_ t=>(t.1,t.2.1,0,0,0,0,false,0,0,0,false,0,false,(zcE c).A,(zcE c).Pc,(zcE c).Ctl.Traps,(zcE c).Ctl.Post,(zcE c).Ctl.Open,(zcE c).Pending,(zcE c).Exit.Kind,(zcE c).Exit.Page,(zcE c).Exit.Write,(zcE c).Exit.N,(zcE c).Halted,c.b,[],[],[],[],(zcE c).Prog,(zcE c).Written,(zcE c).Live,t.2.2,())):Nat->Int×Int×LI->_)
  (λrec i k l=>⟨_,rfl,λu=>⟨⟨_,_,_⟩,_,rfl,⟨rfl,zJ _ _⟩,⟨d,e,f,by unfold ln at u;dsimp only;omega⟩⟩⟩)
def zbaN (b:List Entry)(e:Entry)(h:b.length<=1048576):(zqq b e).length<=6:=by have c:=(zvT e h).2;unfold zqq;generalize ap (zde b e.Tag e.Page) [e]=l at c;cases a:igt (ln l) 6 with|false=>have:¬ ln l>6:=qX a;rw[cF];unfold ln at this;omega|true=>rw[cT,zsc (by unfold ln;omega) (by unfold ln;omega)];have:ln l>6:=qD a;simp only[dp,vL];unfold ln at *;omega
def ztG (N:Nat)(c:Cur)  : OA :=
 (iter (σ:=(Int×Int×Int×lE×LI×Unit)) N (λl d=>let e:=d.2.2.2.2.1;let j:=(⟨e,d.2.1,d.2.2.1⟩:Cur);let a:=({ (zf j 9) with b:=e}:Cur);let g:=({ (zW a 8) with b:=e}:Cur);let f:=({ (zii g) with b:=e}:Cur);let k:=ap d.2.2.2.1 [zoh g,zoh f]; (oN (zD j 9)<|cond (ilt d.1<|zu j 9) (oN (zjB a)<|oN (zid d.2.2.2.1<|zoh a)<|l (zQ .i64 d.1 1,(zii a).i,(zii a).h,zhO d.2.2.2.1<|zoh a,e,()))<|oN (zdG a 8)<|cond (zdS a 8) (oN (zjB g)<|oN (zjB f)<|oN (few<|ln k)<|some [.agg [.s .u8 e,.i .i64 (zii f).i,.i .i64 (zii f).h],aS .entry k])<|some [.agg [.s .u8 e,.i .i64 (zW a 8).i,.i .i64 (zW a 8).h],aS .entry d.2.2.2.1])) (0,c.i,c.h,[],c.b,()))
def zNC:=zo [(41,0,{n:=26,tm:=[(0,.lp 0 0),(3,.sl 0 []),(4,ti)],lo:=[(0,[.sl 1 [],ti,ti])],ro:=[(0,.entry,true),(1,.u8,false)]})]
def zog (c:Cur)(s:Cur)(a:List Entry):Prop:=(∃N,ztG N c=some (AV.agg (zcl s)::[aS .entry a]))/\(s.b=c.b/\0<=s.i)/\(a.length<=8)
def zmf (c:Cur)  : Bool:=wC (zog c)
def zmg (c:Cur)  : Cur:=wS (zog c)
def zsJ (c:Cur)  : List Entry:=wV (zog c)
def zBS {c:Cur}(h:zmf c=true):zog c (zmg c) (zsJ c):=wG h
def zTm (c:Cur)  : 0<=(zmg c).i:=wP λh=>h.2.1.2
def zTl (c:Cur)(h:∃N,Ends (wE (λa=>aS .entry a) c.b λa=>a.length<=8)<|ztG N c):zmf c=true:=wI (λ_ _ h=>h) h
def zvQ:zeR:=rP0 λc=>(zmf c,zmg c,[aS .entry<|zsJ c])
def zFC:zcc Tryz.prog 41 [false,true,true] zvQ:=hP0 zHW zbo zJw zq zNC (λ_ h=>(zBS h).1)
def zUf {c:Cur}(h:zbk c):zmf c=true:=by
 refine zTl c ⟨1002,?_⟩;unfold ztG oN;conv=>zeta
 refine zl2 (λn s=>∃t i k l,s=(((λ_ t=>(t.1,t.2.1,t.2.2.1,t.2.2.2,c.b,())):Nat->Int×Int×Int×List Entry->_) 0 (t,i,k,l))/\t+(n:Int)=10/\0<=t/\0<=i/\l.length<=6) ?_ 1002 10 _ ⟨0,c.i,c.h,[],rfl,rfl,kL 0,h.1,by simp⟩ (by omega);rintro n s rec ⟨t,i,k,l,rfl,p,g,j,r⟩ d;dsimp only;have a:zbk ⟨c.b,i,k⟩:=zb0 h j;have v:=zgS a (n:=9) (by omega);have q:∀{s:Cur},0<=s.i->zbk {s with b:=c.b}:=λf=>zb0 h f;refine zI (zbF a 9) (zbK (λe=>?_) λe=>?_);{have m:t<zu ⟨c.b,i,k⟩ 9:=qD e;have u:=zjd (y:=1) g (by omega) (by omega) (by omega);exact zI (zNR<|q<|zJ _ _) (zI (zbh (by omega))<|d (n-1) _ (by omega) ⟨zQ .i64 t 1,_,_,_,rfl,by omega,by omega,zv5 _,zbaN _ _ (by omega)⟩)};{refine zI (zk0 (q<|zJ _ _) 8) (zbK (λ_=>zI (zNR<|q<|zcT _ _) (zI (zNR<|q<|zv5 _)<|zI (zl3 ?_)<|zbU (aS .entry) (zv5 _) ?_)) λ_=>zbU (aS .entry) (zcT _ _) (by omega));{simp only [ln,ap,kC,jB,uK];omega};{simp only [ap,kC,jB,uK];omega}}
def z9s:zdj:=[(99,[false,true,true],zBt),(41,[false,true,true],zvQ)]++z9r
def zWl:zco z9s:=zcZ zJw (by
 intro x a;simp only[qG,qN,or_false]at a;rcases a with rfl|rfl
 .exact zOZ
 .exact zFC)
def zKJ (b:Bare)(a:GAct):Bare:=bif ieq a.Kind 1 then zfQ b a.G else (cond (ieq a.Kind 2) (chg b a.G (zt3 a.X ⟨a.Y,a.Z⟩)<|zv8 (gAt b a.G) a.X ⟨a.Y,a.Z⟩)<|cond (ieq a.Kind 3) (chg b a.G (hasB a.X 4)<|zey (gAt b a.G) a.X)<|cond (ieq a.Kind 4) (chg b a.G (ztK (gAt b a.G) a.X)<|zve (gAt b a.G) a.X)<|cond (ieq a.Kind 5) (chg b a.G (zxY<|gAt b a.G)<|zvU<|gAt b a.G)<|cond (ieq a.Kind 6) (chg b a.G (zh8 (gAt b a.G).Pending a.X)<|zm0 (gAt b a.G) a.X)<|cond (ieq a.Kind 7) (chg b a.G (znG ⟨a.X,a.Y,ieq a.Z 1⟩)<|zC4 (gAt b a.G) ⟨a.X,a.Y,ieq a.Z 1⟩)<|cond (ieq a.Kind 8) (zo2 b a.X a.Y a.Z)<|cond (ieq a.Kind 9) (zj7 b a.X)<|cond (ieq a.Kind 10) (zlx b)<|cond (ieq a.Kind 11) (z0N b a.G a.X a.Y)<|b)
def zKK (b:Bare)(a:GAct):Told:=bif ieq a.Kind 1 then ⟨zij b a.G,0⟩ else (cond (ieq a.Kind 2) ⟨zb5 b a.G<|zt3 a.X ⟨a.Y,a.Z⟩,0⟩<|cond (ieq a.Kind 3) ⟨zb5 b a.G<|hasB a.X 4,0⟩<|cond (ieq a.Kind 4) ⟨zb5 b a.G<|ztK (gAt b a.G) a.X,0⟩<|cond (ieq a.Kind 5) ⟨zb5 b a.G<|zxY<|gAt b a.G,0⟩<|cond (ieq a.Kind 6) ⟨zb5 b a.G<|zh8 (gAt b a.G).Pending a.X,0⟩<|cond (ieq a.Kind 7) ⟨zb5 b a.G<|znG ⟨a.X,a.Y,ieq a.Z 1⟩,0⟩<|cond (ieq a.Kind 8) ⟨zk2 b a.X a.Y a.Z,0⟩<|cond (ieq a.Kind 9) ⟨zf2 b a.X,0⟩<|cond (ieq a.Kind 10) ⟨zkH b,zrF b⟩<|cond (ieq a.Kind 11) ⟨zzZ b a.G a.X a.Y,0⟩<|⟨zqc b a.G a.X 1,zTS b a.G a.X⟩)
def zKL (l:List Bare)(a:GAct):List Bare:=bif zl a.Kind 1 17 then (cond (zl a.Kind 13 17) l<|cond (hasB a.M<|ln l) (up l a.M<|zKJ (ix l a.M zXB) a) l) else l
def z0h (l:List Bare)(a:GAct):Told:=bif zl a.Kind 1 17 then (cond (zl a.Kind 13 17) ⟨false,0⟩<|cond (hasB a.M<|ln l) (zKK (ix l a.M zXB) a)<|cond (ieq a.Kind 10) ⟨false,-1⟩ ⟨false,0⟩) else ⟨false,0⟩
def zG {i n:Int}:hasB i n=true↔0<=i/\i<n:=by unfold hasB;exact decide_eq_true_iff
def zdo {x a b:Int}:zl x a b=true↔a<=x/\x<=b:=by simp[zl,ige,ile]
def zbz {x y:Int}:ieq x y=true↔x=y:=by simp[ieq]
def zET {x y:Int}:ine x y=true↔x≠y:=by simp[ine]
def zcf {x y:Int}:ieq x y=false↔x≠y:=by simp[ieq]
def zcJ {a b:Bool}:(cond a b false)=true↔a=true/\b=true:=by cases a<;>simp
def zb4 {a:Type}(l:List a)(i:Int)(x:a):(up l i x).length=l.length:=by simp[up]
def zd4 {a:Type}(l:List a)(i:Int)(x:a):ln (up l i x)=ln l:=by simp[up,ln]
def zAj {a:Type}{l:List a}{i:Int}(h:hasB i (ln l)=true)(d:a):∃k:Nat,∃b:k<l.length,i=(k:Int)/\ix l i d=l[k]:=by rw[zG]at h;unfold ln at h;refine⟨i.toNat,by omega,by omega,?_⟩;simp[ix,List.getD,qB (show i.toNat<l.length by omega)]
def zl4 {a:Type}{l:List a}{k:Nat}(h:k<l.length)(d:a):ix l (k:Int) d=l[k]:=by simp[ix,List.getD,qB h]
def znN {a:Type}{l:List a}{i:Int}(h:hasB i (ln l)=true)(d:a):ix l i d∈l:=by obtain⟨k,b,_,e⟩:=zAj h d;rw[e];exact jI b
def zVY {a:Type}{l:List a}{x:a}(h:x∈l)(d:a):∃i,hasB i (ln l)=true/\ix l i d=x:=by obtain⟨k,b,e⟩:=List.mem_iff_getElem.1 h;exact⟨(k:Int),zG.2 (by unfold ln;omega),(zl4 b d).trans e⟩
def zbm {a:Type}{l:List a}{i:Int}(h:hasB i (ln l)=true)(x d:a):ix (up l i x) i d=x:=by rw[zG]at h;unfold ln at h;simp[ix,up,List.getD,show i.toNat<l.length by omega]
def zbA {a:Type}{l:List a}{i j:Int}(b:0<=i)(c:0<=j)(h:i≠j)(x d:a):ix (up l i x) j d=ix l j d:=by have:i.toNat≠j.toNat:=(by omega);simp[ix,up,List.getD,jC,this]
def z5d {a:Type}(l:List a)(i:Int)(x y:a):up (up l i x) i y=up l i y:=by simp[up]
def zuX {a:Type}{l m:List a}(d:a)(h:l.length=m.length)(e:∀i,hasB i (ln l)=true->ix l i d=ix m i d):l=m:=by refine List.ext_getElem h λk b c=>?_;have:=e (k:Int) (zG.2 (by unfold ln;omega));rwa [zl4 b,zl4 c] at this
def zpH {a:Type}{l:List a}{i:Int}(h:hasB i (ln l)=true)(d:a):up l i (ix l i d)=l:=by obtain⟨k,b,rfl,e⟩:=zAj h d;rw[e];simp[up]
def cPg (x:Mon)(q:Int):Nat:=x.Outer.countP λs=>ieq s.Page q
def zgG (l:List Mon)(q:Int):Nat:=(l.map λx=>cPg x q).sum
def zQ1 {a:Type}(P:a->Bool){l:List a}{i:Int}(h:hasB i (ln l)=true)(x d:a):(up l i x).countP P+(if P (ix l i d) then 1 else 0)=l.countP P+(if P x then 1 else 0):=by
 obtain⟨k,b,rfl,e⟩:=zAj h d;rw[e];simp only[up,kG,List.countP_set b];have:(if P l[k]=true then 1 else 0)<=l.countP P:=by
  split
  .rename_i hp;exact List.countP_pos_iff.2 ⟨l[k],jI b,hp⟩
  .omega
 omega
def zzs {l:List Mon}{m:Int}(h:hasB m (ln l)=true)(x:Mon)(q:Int):zgG (up l m x) q+cPg (ix l m mZ) q=zgG l q+cPg x q:=by obtain⟨k,a,rfl,e⟩:=zAj h mZ;rw[e];clear h e;unfold up;simp only[kG];induction l generalizing k with|nil=>simp at a|cons y l b=>(cases k with|zero=>simp[zgG];omega|succ k=>have:=b k (by simpa using a);simp[zgG] at this ⊢;omega)
def zHN {l:List Mon}{m p:Int}(a:hasB m (ln l)=true)(b:hasB p (ln (ix l m mZ).Outer)=true):1<=zgG l (ix (ix l m mZ).Outer p sZ).Page:=by have d:1<=cPg (ix l m mZ) (ix (ix l m mZ).Outer p sZ).Page:=List.countP_pos_iff.2 ⟨_,znN b sZ,by simp[ieq]⟩;have:=zzs a (⟨[],[],[],[],[],0,0,[],0⟩:Mon) (ix (ix l m mZ).Outer p sZ).Page;have c:cPg (⟨[],[],[],[],[],0,0,[],0⟩:Mon) (ix (ix l m mZ).Outer p sZ).Page=0:=rfl;omega
def z5q {l:List Mon}{m p n k:Int}{q:Int}(b:hasB m (ln l)=true)(v:hasB p (ln (ix l m mZ).Outer)=true)(u:hasB n (ln l)=true)(f:hasB k (ln (ix l n mZ).Outer)=true)(z:(ix (ix l m mZ).Outer p sZ).Page=q)(t:(ix (ix l n mZ).Outer k sZ).Page=q)(h:zgG l q<=1):m=n/\p=k:=by have c:=zG.1 b;have d:=zG.1 u;have i:=zG.1 v;have g:=zG.1 f;have B:¬ ieq q (q+1)=true:=(by simp[ieq];omega);obtain⟨y,r⟩:∃y:Mon,y.Outer=up (ix l m mZ).Outer p ⟨q+1,0⟩:=⟨{ix l m mZ with Outer:=up (ix l m mZ).Outer p ⟨q+1,0⟩},rfl⟩;have x:=zQ1 (λs=>ieq s.Page q) v (⟨q+1,0⟩:Slot) sZ;simp only[z,show ieq q q=true by simp[ieq],show ieq (q+1) q=false by simp[ieq];omega,if_true,kD,if_false] at x;have C:=zzs b y q;simp only[cPg,r] at C;have D:zgG (up l m y) q=0:=(by omega);apply Classical.byContradiction;intro A;have w:1<=zgG (up l m y) q:=(by by_cases a:m=n;{subst a;have j:p≠k:=λe=>A ⟨rfl,e⟩;have:=zHN (l:=up l m y) (m:=m) (p:=k) (by rw[zd4];exact b) (by rw[zbm b,r,zd4];exact f);rw[zbm b,r,zbA i.1 g.1 j,t] at this;exact this};{have:=zHN (l:=up l m y) (m:=n) (p:=k) (by rw[zd4];exact u) (by rw[zbA c.1 d.1 a];exact f);rw[zbA c.1 d.1 a,t] at this;exact this});omega
def zvg {a b c:Bool}:(cond a b c)=true↔(a=true/\b=true)\/(a=false/\c=true):=by cases a<;>simp
def SOk (s:Slot):Prop:=s=noSlot\/(0<=s.Page/\s.Page<=11/\1<=s.Rights/\s.Rights<=3)
def zJG {a b:Slot}(c:a.Page=b.Page)(d:a.Rights=b.Rights):a=b:=by cases a;cases b;simp_all
def zol {a b:Slot}:zdv a b=true↔a=b:=by simp only[zdv,qE,zbz];exact⟨λh=>zJG h.1 h.2,λh=>by rw[h];exact⟨rfl,rfl⟩⟩
def zpW {a b:Slot}:zdv a b=false↔a≠b:=by rw[<- Bool.not_eq_true,zol]
def zZS {s:Slot}:zeO s 12=true↔SOk s:=by unfold zeO SOk;rw[zvg,zol,zpW];have:wsub .i64 12 1=11:=(by decide);simp only[this,zvg,zdo];simp[igt];constructor;{rintro (h|⟨h,⟨a,b⟩,c⟩);{exact .inl h};{exact .inr ⟨a,b,c⟩}};{intro h;by_cases d:s=noSlot;{exact .inl d};{rcases h with h|⟨a,b,c⟩;{exact .inl h};{exact .inr ⟨d,⟨a,b⟩,c⟩}}}
def SOk.none {s:Slot}(h:SOk s)(a:s.Page = -1):s=noSlot:=by rcases h with h|h;{exact h};{omega}
def SOk.pos {s:Slot}(h:SOk s)(a:s.Page≠-1):0<=s.Page/\s.Page<=11/\1<=s.Rights/\s.Rights<=3:=by rcases h with h|h;{rw [h]at a;exact absurd rfl a};{exact h}
structure MOk (x:Mon):Prop where
 g1:1<=x.Guests.length
 g2:x.Guests.length<=2
 gt:x.Tables.length=x.Guests.length
 o8:x.Outer.length=8
 sl:∀s∈x.Outer,SOk s
 u8:x.Out.length=8
 d8:x.Dirty.length=8
 outs:x.Outs.length<=40
 pend:zef x.Pending=true
 tr:zl x.Traps 0 3=true
 own:zl x.Own 0 1000000000=true
 gs:∀g∈x.Guests,zeu g=true
 fit:∀p,hasB p 8=true->znS (ix x.Outer p sZ) (ix x.Out p [])=true
def zT9 {P:Nat->Bool}:∀{n i:Nat},zp7 P n i=true↔∀j,i<=j->j<i+n->P j=true
 | 0,i=>by simp[zp7];intro j a b;omega
 |n+1,i=>by rw[zp7,qE,zT9];constructor;{rintro⟨a,b⟩ j c d;by_cases e:j=i;{rw [e];exact a};{exact b j (by omega) (by omega)}};{intro h;exact⟨h i (by omega) (by omega),λj a b=>h j (by omega) (by omega)⟩}
def zsY {t:List Slot}{n p:Int}:zdN t n p=true↔(∀s∈t,zeO s p=true)/\ln t=n:=by unfold zdN;rw[zcJ,qM,zbz]
def zbay {x:Mon}:zfI x=true↔MOk x:=by unfold zfI;simp only[zcJ,zdo,zbz,zsY,zT9,qM,ile,qY];constructor;{rintro⟨⟨g,i⟩,m,⟨k,l⟩,n,q,r,e,a,b,c,d⟩;unfold ln at *;refine⟨by omega,by omega,by omega,by omega,λs f=>zZS.1 (k s f),by omega,by omega,by omega,e,zdo.2 a,zdo.2 b,c,λp t=>?_⟩;have u:=zG.1 t;have:=d p.toNat (by omega) (by omega);unfold fits at this;rwa [show ((p.toNat:Nat):Int)=p by omega] at this};{intro h;obtain⟨g,i,m,k,l,n,q,r,e,a,b,c,d⟩:=h;unfold ln;exact⟨⟨by omega,by omega⟩,by omega,⟨λs f=>zZS.2 (l s f),by omega⟩,by omega,by omega,by omega,e,zdo.1 a,zdo.1 b,c,λj g i=>d (j:Int) (zG.2 (by omega))⟩}
def zzP (o:List Slot)(s:Slot)(q:Int):(s::o).countP (λs=>ieq s.Page q)=o.countP (λs=>ieq s.Page q)+if s.Page=q then 1 else 0:=by rw[vG];simp[ieq]
def zAR:∀{o:List Slot} {u:List Bool},(∀s∈o,s.Page<u.length)->
 (∀c,ziE o u=some c↔(∀q,0<=q->o.countP (λs=>ieq s.Page q)+(if ix u q false then 1 else 0)<=1)/\
  c=(o.foldl (λu s=>bif ilt s.Page 0 then u else up u s.Page true) u))
 |[],u,h,c=>by simp[ziE];exact⟨λh=>⟨λq _=>by split<;>omega,h.symm⟩,λh=>h.2.symm⟩
 |s::o,u,h,c=>by
  unfold ziE;by_cases g:s.Page<0;{have b:ilt s.Page 0=true:=qJ g;rw[b,cond_true,zAR λy d=>h y (jA _ d)];simp only[uL,b,cond_true];refine and_congr (forall_congr' λq=>forall_congr' λf=>?_) Iff.rfl;have e:(if s.Page=q then 1 else 0)=0:=if_neg (by omega);rw[zzP,e,jZ]};{have b:ilt s.Page 0=false:=qH g;have k:=h s jF;have j:hasB s.Page (ln u)=true:=zG.2 ⟨by omega,by unfold ln;omega⟩;rw[b,cond_false];cases i:ix u s.Page false with|true=>rw[cond_true];constructor;{intro h;cases h};{rintro⟨h,_⟩;have:=h s.Page (by omega);rw[zzP,if_pos rfl,i] at this;simp at this}|false=>rw[cond_false,zAR (λy d=>by rw[zb4];exact h y (jA _ d))];simp only[uL,b,cond_false];refine and_congr (forall_congr' λq=>forall_congr' λf=>?_) Iff.rfl;rw[zzP];by_cases a:s.Page=q;{subst a;rw[zbm j,i];simp};{rw [zbA (by omega) f a,if_neg a,jZ]}}
def zJO:∀(o:List Slot) (u:List Bool),(o.foldl (λu s=>bif ilt s.Page 0 then u else up u s.Page true) u).length=u.length
 |[],u=>rfl
 |s::o,u=>by rw[uL,zJO];cases ilt s.Page 0<;>simp [zb4]
def zQr:∀(o:List Slot) (u:List Bool) (q:Int),0<=q->(∀s∈o,s.Page<u.length)->(ix (o.foldl (λu s=>bif ilt s.Page 0 then u else up u s.Page true) u) q false=true↔ix u q false=true\/1<=o.countP λs=>ieq s.Page q)
 |[],u,q,b,h=>by simp
 |s::o,u,q,b,h=>by
  rw[uL,zQr _ _ q b (λy f=>by have:=h y (jA _ f);cases ilt s.Page 0<;>simpa [zb4] using this),zzP];by_cases c:s.Page<0;{rw [show ilt s.Page 0=true from qJ c,cond_true,if_neg (by omega),jZ]};{rw [show ilt s.Page 0=false from qH c,cond_false];have e:=h s jF;have d:hasB s.Page (ln u)=true:=zG.2 ⟨by omega,by unfold ln;omega⟩;by_cases a:s.Page=q;{subst a;rw[zbm d];simp};{rw [zbA (by omega) b a,if_neg a,jZ]}}
def zAc:∀{l:List Mon} {u:List Bool},u.length=12->(zkT l u=true↔(∀x∈l,MOk x)/\∀q,0<=q->zgG l q+(if l≠[]/\ix u q false then 1 else 0)<=1)
 |[],u,c=>by simp[zkT,zgG]
 |x::l,u,c=>by
  unfold zkT;rw[zcJ,zbay];constructor;{rintro⟨f,b⟩;have k:∀s∈x.Outer,s.Page<u.length:=λs n=>(by rcases f.sl s n with h|h;{rw [h,c];decide};{rw [c];omega});split at b;{rename_i B d;obtain⟨g,rfl⟩:=(zAR k B).1 d;rw[zAc (by rw[zJO,c])]at b;obtain⟨v,w⟩:=b;refine⟨by simpa using ⟨f,v⟩,λq a=>?_⟩;have z:=g q a;have i:=w q a;have m:=zQr x.Outer u q a k;simp only[zgG,jG,uJ]at i ⊢;unfold cPg at i ⊢;simp only[ne_eq,reduceCtorEq,not_false_eq_true,true_and];by_cases r:l=[];{subst r;simpa using z};{simp only [r,ne_eq,not_false_eq_true,true_and]at i;by_cases j:ix (x.Outer.foldl (λu s=>bif ilt s.Page 0 then u else up u s.Page true) u) q false=true;{rw [if_pos j]at i;omega};{rw [if_neg j]at i;have p:¬ (ix u q false=true\/1<=x.Outer.countP λs=>ieq s.Page q):=λe=>j (m.2 e);rw[not_or]at p;rw[if_neg p.1];omega}}};{cases b}}
  .rintro⟨f,b⟩;have t:MOk x:=f x jF;refine⟨t,?_⟩;have k:∀s∈x.Outer,s.Page<u.length:=λs n=>by rcases t.sl s n with h|h;{rw [h,c];decide};{rw [c];omega}
   have d:=(zAR k _).2 ⟨λq a=>by
    have:=b q a;simp only[zgG,jG,uJ,ne_eq,reduceCtorEq,not_false_eq_true,true_and] at this;unfold cPg at this;omega,rfl⟩
   rw[d];simp only;rw[zAc (by rw[zJO,c])];refine⟨λy A=>f y (jA _ A),λq a=>?_⟩;have g:=b q a;have m:=zQr x.Outer u q a k;simp only[zgG,jG,uJ,ne_eq,reduceCtorEq,not_false_eq_true,true_and]at g ⊢;unfold cPg at g ⊢;split;{rename_i j;rcases m.1 j.2 with h|h;{rw [if_pos h]at g;omega};{omega}};{omega}
structure HOk (h:Host):Prop where
 m12:h.Memory.length=12
 pgs:∀c∈h.Memory,zc2 c=true
 n1:1<=h.Mons.length
 n3:h.Mons.length<=3
 b1:zgT h.Buffer=true
 b2:zgT h.IoBuffer=true
 mons:∀x∈h.Mons,MOk x
 uq:∀q,0<=q->zgG h.Mons q<=1
def zi8 {h:Host}:zbQ h=true↔HOk h:=by unfold zbQ zj5;simp only[zcJ,zdo,zbz,qM];rw[zAc (by simp[rp])];have g:∀q,ix (rp 12 false) q false=false:=λq=>(by unfold ix rp;rw[kA,kF];split<;>rfl);simp only[g,kD,and_false,if_false,jZ];unfold ln;constructor;{rintro⟨⟨e,f⟩,⟨i,j⟩,a,b,c,d⟩;exact⟨by omega,e,by omega,by omega,a,b,c,d⟩};{rintro⟨e,f,i,j,a,b,c,d⟩;exact⟨⟨f,by omega⟩,⟨by omega,by omega⟩,a,b,c,d⟩}
def HOk.mon {h:Host}(H:HOk h){m:Int}(a:hasB m (ln h.Mons)=true):MOk (ix h.Mons m mZ):=H.mons _ (znN a _)
def MOk.hasO {x:Mon}(H:MOk x){p:Int}(a:hasB p 8=true):hasB p (ln x.Outer)=true:=by rw[ln,H.o8];exact a
def MOk.hasU {x:Mon}(H:MOk x){p:Int}(a:hasB p 8=true):hasB p (ln x.Out)=true:=by rw[ln,H.u8];exact a
def MOk.hasD {x:Mon}(H:MOk x){p:Int}(a:hasB p 8=true):hasB p (ln x.Dirty)=true:=by rw[ln,H.d8];exact a
def MOk.slot {x:Mon}(H:MOk x){p:Int}(a:hasB p 8=true):SOk (ix x.Outer p sZ):=H.sl _ (znN (H.hasO a) _)
def HOk.uniq {h:Host}(H:HOk h){m p n k q:Int}(a:hasB m (ln h.Mons)=true)(f:hasB p 8=true)(b:hasB n (ln h.Mons)=true)(e:hasB k 8=true)(c:(ix (ix h.Mons m mZ).Outer p sZ).Page=q)(d:(ix (ix h.Mons n mZ).Outer k sZ).Page=q)(g:0<=q):m=n/\p=k :=
 z5q a ((H.mon a).hasO f) b ((H.mon b).hasO e) c d (H.uq q g)
def HOk.up {h:Host}(H:HOk h){m:Int}(k:hasB m (ln h.Mons)=true){x:Mon}(l:MOk x){a:Host}(e:a.Mons=up h.Mons m x)(d:a.Memory.length=12)(f:∀c∈a.Memory,zc2 c=true)(i:zgT a.Buffer=true)(j:zgT a.IoBuffer=true)(n:∀q,0<=q->cPg x q<=cPg (ix h.Mons m mZ) q\/zgG h.Mons q=0/\cPg x q<=1):HOk a:=by refine⟨d,f,by rw[e,zb4];exact H.n1,by rw[e,zb4];exact H.n3,i,j,λy b=>?_,λq g=>?_⟩;{rw [e]at b;unfold E.up at b;rcases qZ b with h|h;{exact H.mons y h};{rw [h];exact l}};{rw [e];have p:=zzs k x q;have r:=H.uq q g;have s:=n q g;omega}
structure KOk (k:Kept) (inner outer:List Slot):Prop where
 l1:k.Known.length=inner.length
 l2:k.Slots.length=inner.length
 at':∀i,hasB i (ln inner)=true->ix k.Slots i sZ=bif ix k.Known i false then zbG (ix inner i sZ) outer else noSlot
def TOk (x:Mon):Prop:=∀g,hasB g (ln x.Guests)=true->KOk (ix x.Tables g kZ) (ix x.Guests g gZ).Live x.Outer
structure Rt (h:Host):Prop where
 t:∀m,hasB m (ln h.Mons)=true->TOk (ix h.Mons m mZ)
 e1:∀e∈h.Buffer,zdz h e=true
 e2:∀e∈h.IoBuffer,zdz h e=true
structure Safe (h:Host):Prop where
 ok:HOk h
 rt:Rt h
def zs4 {a b:Slot}:below' a b=true↔a=noSlot\/(a.Page=b.Page/\enough b.Rights a.Rights=true):=by unfold below';rw[zvg,zol,zpW,zcJ,zbz];by_cases h:a=noSlot<;>simp [h]
def z5e (x:Int):wand .i64 0 x=0:=by unfold wand;have:(BitVec.ofInt 64 0 &&& BitVec.ofInt 64 x)=0#64:=(by rw[show BitVec.ofInt 64 0=0#64 from rfl,BitVec.zero_and]);show IntKind.wrap .i64 ((BitVec.ofInt 64 0 &&& BitVec.ofInt 64 x).toNat:Int)=0;rw[this];rfl
def z5p {a:Slot}(h:below' a noSlot=true):a=noSlot:=by rcases zs4.1 h with h|⟨c,b⟩;{exact h};{refine zJG c ?_;unfold enough at b;rw[show noSlot.Rights=0 from rfl,z5e]at b;simp only[zcJ,zbz]at b;exact b.2.2.symm}
def zhc {h:Host}{e:Entry}:zdz h e=true↔hasB (zeA e.Tag) (ln h.Mons)=true/\hasB (zfr e.Tag) (ln (ix h.Mons (zeA e.Tag) mZ).Guests)=true/\
 below' ⟨e.Host,e.Rights⟩ (zbG (zbJ (ix (ix h.Mons (zeA e.Tag) mZ).Guests (zfr e.Tag) gZ).Live e.Page) (ix h.Mons (zeA e.Tag) mZ).Outer)=true:=by
 unfold zdz;rw[zcJ,zcJ]
def zRN {o:List Slot}{p q:Int}{s:Slot}(a:0<=p)(h:q≠p):zbJ (up o p s) q=zbJ o q:=by unfold zbJ;rw[zd4];cases b:hasB q (ln o) with|false=>rfl|true=>rw[cond_true,cond_true,zbA a (zG.1 b).1<|Ne.symm h]
def zKV {s:Slot}{o:List Slot}{p:Int}{t:Slot}(a:0<=p)(h:s.Page≠p):zbG s (up o p t)=zbG s o:=by unfold zbG;rw[zRN a h]
def z0p {s:Slot}{o:List Slot}:zbG s o=noSlot\/(zbG s o).Page=(zbJ o s.Page).Page:=by unfold zbG;cases ieq s.Page (-1)<;>cases ieq (zbJ o s.Page).Page (-1)<;>cases ieq (zfd s.Rights (zbJ o s.Page).Rights) 0<;>simp
def zmU (k:Kept)(q:Int):(zce k q).Known.length=k.Known.length/\(zce k q).Slots.length=k.Slots.length:=by unfold zce;cases zd9 k q<;>simp [zb4]
def ztN:∀(l:LI) (k:Kept),(zfX k l).Known.length=k.Known.length/\(zfX k l).Slots.length=k.Slots.length
 |[],k=>⟨rfl,rfl⟩
 |q::l,k=>by have a:=ztN l (zce k q);have b:=zmU k q;exact⟨a.1.trans b.1,a.2.trans b.2⟩
def zxR {k:Kept}{q i:Int}(d:k.Known.length=k.Slots.length)(b:hasB i (ln k.Known)=true) :
 ix (zce k q).Known i false=(cond (ieq q i) false<|ix k.Known i false)/\ix (zce k q).Slots i sZ=(cond (ieq q i) noSlot<|ix k.Slots i sZ):=by
 have c:hasB i (ln k.Slots)=true:=by unfold ln at b ⊢;rwa [<- d]
 unfold zce zd9
 by_cases e:q=i
 .subst e;simp only[b,c,cond_true,ieq,beq_self_eq_true];exact⟨zbm b _ _,zbm c _ _⟩
 .rw [show ieq q i=false from zcf.2 e]
  by_cases a:hasB q (ln k.Known)=true
  .have hq':hasB q (ln k.Slots)=true:=by unfold ln at a ⊢;rwa [<- d]
   simp only[a,hq',cond_true,cond_false];exact⟨zbA (zG.1 a).1 (zG.1 b).1 e _ _,zbA (zG.1 a).1 (zG.1 b).1 e _ _⟩
  .rw [Bool.not_eq_true]at a;simp[a]
def zmT:∀(l:LI) {k:Kept} {i:Int},k.Known.length=k.Slots.length->hasB i (ln k.Known)=true->
 (i∈l->ix (zfX k l).Known i false=false/\ix (zfX k l).Slots i sZ=noSlot)/\
 (i∉l->ix (zfX k l).Known i false=ix k.Known i false/\ix (zfX k l).Slots i sZ=ix k.Slots i sZ)
 |[],k,i,d,c=>⟨λh=>by simp at h,λ_=>⟨rfl,rfl⟩⟩
 |q::l,k,i,d,c=>by have b:=zmU k q;have g:=zxR (q:=q) d c;have f:=zmT l (k:=zce k q) (i:=i) (by rw[b.1,b.2,d]) (by unfold ln at c ⊢;rwa [b.1]);show (_->ix (zfX (zce k q) l).Known i false=_/\ix (zfX (zce k q) l).Slots i sZ=_)/\(_->ix (zfX (zce k q) l).Known i false=_/\ix (zfX (zce k q) l).Slots i sZ=_);by_cases a:i∈l;{refine⟨λ_=>f.1 a,λh=>absurd (jA _ a) h⟩};{rw [(f.2 a).1,(f.2 a).2,g.1,g.2];by_cases e:q=i;{subst e;simp[ieq]};{rw [zcf.2 e];simp[a,Ne.symm e]}}
def zvE {e:Type}{P:e->Bool}{d:e}:∀{l:List e} {n:Nat} {i:Int},i∈idxs P l n↔∃k:Nat,∃h:k<l.length,i=((n+k:Nat):Int)/\P l[k]=true
 |[],n,i=>by simp[idxs]
 |x::l,n,i=>by
  have g:=@zvE e P d l (n+1) i;unfold idxs;constructor
  .intro h;cases f:P x with
   |true=>rw[f,cond_true,qG]at h;rcases h with h|h;{exact⟨0,by simp,by simpa using h,f⟩};{obtain⟨k,c,b,a⟩:=g.1 h;exact⟨k+1,by simpa using c,by rw[b];congr 1;omega,by simpa using a⟩}
   |false=>rw[f,cond_false]at h;obtain⟨k,c,b,a⟩:=g.1 h;exact⟨k+1,by simpa using c,by rw[b];congr 1;omega,by simpa using a⟩
  {rintro⟨k,c,b,a⟩;cases k with|zero=>simp only[List.getElem_cons_zero]at a;rw[a,cond_true,b];exact jF|succ k=>have:=g.2 ⟨k,by simpa using c,by rw[b];congr 1;omega,by simpa using a⟩;cases P x;{exact this};{exact jA _ this}}
def znv {l:List Slot}{p i:Int}:i∈zrt l p↔hasB i (ln l)=true/\(ix l i sZ).Page=p:=by unfold zrt;rw[zvE (d:=sZ)];constructor;{rintro⟨k,a,rfl,c⟩;rw[j5,zl4 a];exact⟨zG.2 (by unfold ln;omega),zbz.1 c⟩};{rintro⟨a,b⟩;obtain⟨k,f,rfl,e⟩:=zAj a sZ;exact⟨k,f,by simp,by rw[e]at b;exact zbz.2 b⟩}
def z09 {k:Kept}{a b:List Slot}(h:KOk k a b){p:Int}(j:0<=p)(s:Slot):KOk (zgd k a p) a (up b p s):=by have g:=ztN (zrt a p) k;refine⟨g.1.trans h.l1,g.2.trans h.l2,λi d=>?_⟩;have e:hasB i (ln k.Known)=true:=(by unfold ln at d ⊢;rwa [h.l1]);have f:=zmT (zrt a p) (by rw[h.l1,h.l2]) e;unfold zgd;by_cases c:(ix a i sZ).Page=p;{have:=f.1 (znv.2 ⟨d,c⟩);rw[this.1,this.2];rfl};{have:=f.2 (λh=>c (znv.1 h).2);rw[this.1,this.2,h.at' i d,zKV j c]}
def ztw (b:List Guest)(p:Int):∀(n:Nat) (a:List Kept),(zjJ b p n a).length=a.length
 | 0,a=>rfl
 |n+1,a=>by rw[zjJ,zb4,ztw b p n]
def zzt (b:List Guest)(p:Int):∀(n:Nat) (a:List Kept),n<=a.length->∀i,0<=i->ix (zjJ b p n a) i kZ=if i<n then zgd (ix a i kZ) (ix b i gZ).Live p else ix a i kZ
 | 0,a,_,i,c=>by rw[if_neg (by omega)];rfl
 |n+1,a,d,i,c=>by rw[zjJ];by_cases e:i=n;{subst e;rw[zbm (by rw[ln,ztw];exact zG.2 (by omega)),if_pos (by omega),zzt b p n a (by omega) _ c,if_neg (by omega)]};{rw [zbA (by omega) c<|Ne.symm e,zzt b p n a (by omega) i c];by_cases h:i<n;{rw [if_pos h,if_pos (by omega)]};{rw [if_neg h,if_neg (by omega)]}}
def ziN (x:Mon)(p:Int)(s:Slot):Mon:={zjD x p x.Tables.length with Outer:=up x.Outer p s}
def z4R {x:Mon}(h:TOk x)(c:x.Tables.length=x.Guests.length){p:Int}(b:0<=p)(s:Slot):TOk (ziN x p s):=by intro g hg;have a:hasB g (ln x.Guests)=true:=hg;show KOk (ix (zjJ x.Guests p x.Tables.length x.Tables) g kZ) (ix x.Guests g gZ).Live (up x.Outer p s);rw[zzt _ _ _ _ (qV _) _ (zG.1 a).1,if_pos (by have:=zG.1 a;unfold ln at this;omega)];exact z09 (h g a) b s
def zmk (h:Host)(m p:Int)(s:Slot):(zcx h m p s).Mons=up h.Mons m (ziN (ix h.Mons m mZ) p s):=by unfold zcx;cases ine (ix (ix h.Mons m zh).Outer p zV).Page (-1)<;>rfl
def zsV (h:Host)(m p:Int)(s:Slot):(zcx h m p s).Memory=h.Memory:=by unfold zcx;cases ine (ix (ix h.Mons m zh).Outer p zV).Page (-1)<;>rfl
def zxy (h:Host)(m p:Int)(s:Slot):(zcx h m p s).Buffer=(cond (ieq (ix (ix h.Mons m mZ).Outer p sZ).Page<|-1) h.Buffer<|flushed h.Buffer (ix (ix h.Mons m mZ).Outer p sZ).Page)/\
 (zcx h m p s).IoBuffer=(cond (ieq (ix (ix h.Mons m mZ).Outer p sZ).Page<|-1) h.IoBuffer<|flushed h.IoBuffer (ix (ix h.Mons m mZ).Outer p sZ).Page):=by
 unfold zcx
 by_cases e:(ix (ix h.Mons m zh).Outer p zV).Page = -1
 .rw [show ine (ix (ix h.Mons m zh).Outer p zV).Page (-1)=false by simp[ine,e],show ieq (ix (ix h.Mons m mZ).Outer p sZ).Page (-1)=true from zbz.2 e]
  exact⟨rfl,rfl⟩
 .rw [show ine (ix (ix h.Mons m zh).Outer p zV).Page (-1)=true from zET.2 e,show ieq (ix (ix h.Mons m mZ).Outer p sZ).Page (-1)=false from zcf.2 e]
  exact⟨rfl,rfl⟩
def zK2 {h k:Host}{m p:Int}{s:Slot}(n:hasB m (ln h.Mons)=true)(q:hasB p (ln (ix h.Mons m mZ).Outer)=true){x:Mon}(u:k.Mons=up h.Mons m x)(t:x.Guests=(ix h.Mons m mZ).Guests)(v:x.Outer=up (ix h.Mons m mZ).Outer p s){e:Entry}(w:zdz h e=true)(c:(ix (ix h.Mons m mZ).Outer p sZ).Page = -1\/e.Host≠(ix (ix h.Mons m mZ).Outer p sZ).Page):zdz k e=true:=by obtain⟨f,g,b⟩:=zhc.1 w;rw[zhc,u,zd4];refine⟨f,?_⟩;by_cases l:m=zeA e.Tag;{rw [<- l]at f g b ⊢;rw[zbm n,t,v];refine⟨g,?_⟩;by_cases j:(zbJ (ix (ix h.Mons m mZ).Guests (zfr e.Tag) gZ).Live e.Page).Page=p;{have a:zbG (zbJ (ix (ix h.Mons m mZ).Guests (zfr e.Tag) gZ).Live e.Page) (ix h.Mons m mZ).Outer=noSlot\/e.Host≠(zbG (zbJ (ix (ix h.Mons m mZ).Guests (zfr e.Tag) gZ).Live e.Page) (ix h.Mons m mZ).Outer).Page:=(by rcases z0p (s:=zbJ (ix (ix h.Mons m mZ).Guests (zfr e.Tag) gZ).Live e.Page) (o:=(ix h.Mons m mZ).Outer) with d|d;{exact .inl d};{rw [j]at d;have r:zbJ (ix h.Mons m mZ).Outer p=ix (ix h.Mons m mZ).Outer p sZ:=(by unfold zbJ;rw[q];rfl);rw[r]at d;rcases c with c|c;{left;unfold zbG;rw[j,r,c,show ieq (-1) (-1)=true from rfl];cases ieq p (-1)<;>rfl};{exact .inr (by rw[d];exact c)}});have i:(⟨e.Host,e.Rights⟩:Slot)=noSlot:=(by rcases a with a|a;{rw [a]at b;exact z5p b};{rcases zs4.1 b with h|h;{exact h};{exact absurd h.1 a}});rw[i];exact zs4.2 (.inl rfl)};{rw [zKV (zG.1 q).1 j];exact b}};{rw [zbA (zG.1 n).1 (zG.1 f).1 l];exact⟨g,b⟩}
def zAA {h:Host}(H:Rt h){m p:Int}(d:hasB m (ln h.Mons)=true)(q:hasB p (ln (ix h.Mons m mZ).Outer)=true)(u:(ix h.Mons m mZ).Tables.length=(ix h.Mons m mZ).Guests.length)(s:Slot):Rt (zcx h m p s):=by have c:=zxy h m p s;have i:=zmk h m p s;have f:∀(b:List Entry),(∀e∈b,zdz h e=true)->∀e∈(cond (ieq (ix (ix h.Mons m mZ).Outer p sZ).Page<|-1) b<|flushed b (ix (ix h.Mons m mZ).Outer p sZ).Page),zdz (zcx h m p s) e=true:=(by intro b c e a;by_cases n:(ix (ix h.Mons m mZ).Outer p sZ).Page = -1;{rw [zbz.2 n,cond_true]at a;exact zK2 d q i rfl rfl (c e a) (.inl n)};{rw [zcf.2 n,cond_false]at a;obtain⟨j,l⟩:=kV.1 a;exact zK2 d q i rfl rfl (c e j) (.inr (by simpa [ieq] using l))});refine⟨λk g=>?_,λe a=>f _ H.e1 e (by rwa [c.1]at a),λe a=>f _ H.e2 e (by rwa [c.2]at a)⟩;rw[i]at g ⊢;rw[zd4]at g;by_cases r:m=k;{subst r;rw[zbm d];exact z4R (H.t m d) u (zG.1 q).1 s};{rw [zbA (zG.1 d).1 (zG.1 g).1 r];exact H.t k g}
def zQU:∀(l a:List Entry),allI (alone<|a++l) l a.length=true↔(∀x∈l,∀y∈a,sameKey x y=false)/\l.Pairwise (λy x=>sameKey x y=false)
 |[],a=>by simp[allI]
 |x::l,a=>by have g:=zQU l (a++[x]);rw[kB,List.singleton_append,kC,uA] at g;rw[allI,qE,g,List.pairwise_cons];have h:alone (a++x::l) a.length x=true↔∀y∈a,sameKey x y=false:=(by unfold alone;rw[kN rfl,qM];simp);rw[h];constructor;{rintro⟨d,e,f⟩;refine⟨λz c y b=>?_,λz c=>e z c x (by simp),f⟩;rcases qG.1 c with rfl|c;{exact d y b};{exact e z c y (by simp[b])}};{rintro⟨d,e,f⟩;refine⟨λy b=>d x (by simp) y b,λz c y b=>?_,f⟩;rcases jN.1 b with b|b;{exact d z (by simp[c]) y b};{rw [qF.1 b];exact e z c}}
def zEC {l:List Entry}:zgT l=true↔l.Pairwise (λy x=>sameKey x y=false)/\l.length<=6:=by unfold zgT;have:=zQU l [];simp only[jT,uK] at this;have a:ile (ln l) 6=true↔l.length<=6:=(by rw[ile,qY,ln];omega);rw[zcJ,this,a];simp
def zzO {l:List Entry}(h:zgT l=true)(P:Entry->Bool):zgT (l.filter P)=true:=by rw[zEC]at h ⊢;exact⟨h.1.sublist List.filter_sublist,qU (uB _ _) h.2⟩
def zGS {l:List Entry}(h:zgT l=true)(p:Int):zgT (flushed l p)=true:=zzO h _
def zUg {x x':Mon}{p:Int}(a:hasB p (ln x.Outer)=true){s:Slot}(h:x'.Outer=up x.Outer p s)(q:Int):cPg x' q+(if (ix x.Outer p sZ).Page=q then 1 else 0)=cPg x q+(if s.Page=q then 1 else 0):=by have:=zQ1 (λs=>ieq s.Page q) a s sZ;simp only[zbz] at this;unfold cPg;rw[h];exact this
def zrM {s:Slot}(d:SOk s){c:LI}:znS s c=true↔(s.Page = -1->zc2 c=true)/\(s.Page≠-1->enough s.Rights 1=true/\c=[]):=by unfold znS;by_cases e:s=noSlot;{rw [zol.2 e,cond_true,e];simp[noSlot]};{rw [zpW.2 e,cond_false,zcJ];have:s.Page≠-1:=λh=>e (d.none h);have b:ile (ln c) 0=true↔c=[]:=(by rw[ile,qY,ln,<- uS];omega);rw[b];exact⟨λh=>⟨λa=>absurd a this,λ_=>h⟩,λh=>h.2 this⟩}
structure Chg (x x':Mon) (p:Int) (s:Slot) (c:List Int):Prop where
 o:x'.Outer=up x.Outer p s
 u:x'.Out=up x.Out p c
 g:x'.Guests=x.Guests
 t:x'.Tables.length=x.Tables.length
 d:x'.Dirty.length=x.Dirty.length
 a1:x'.Outs=x.Outs
 a2:x'.Pending=x.Pending
 a3:x'.Traps=x.Traps
 a4:x'.Own=x.Own
def MOk.chg {x i:Mon}(H:MOk x){p:Int}(a:hasB p 8=true){s:Slot}{c:LI}(k:Chg x i p s c)(l:SOk s)(j:znS s c=true):MOk i:=by refine⟨by rw[k.g];exact H.g1,by rw[k.g];exact H.g2,by rw[k.t,k.g];exact H.gt,by rw[k.o,zb4];exact H.o8,λy f=>?_,by rw[k.u,zb4];exact H.u8,by rw[k.d];exact H.d8,by rw[k.a1];exact H.outs,by rw[k.a2];exact H.pend,by rw[k.a3];exact H.tr,by rw[k.a4];exact H.own,by rw[k.g];exact H.gs,λq b=>?_⟩;{rw [k.o]at f;rcases qZ f with h|h;{exact H.sl y h};{rw [h];exact l}};{rw [k.o,k.u];by_cases e:p=q;{subst e;rw[zbm<|H.hasO a,zbm<|H.hasU a];exact j};{rw [zbA (zG.1 a).1 (zG.1 b).1 e,zbA (zG.1 a).1 (zG.1 b).1 e];exact H.fit q b}}
structure Like (h r:Host):Prop where
 len:r.Mons.length=h.Mons.length
 g:∀i,hasB i (ln h.Mons)=true->(ix r.Mons i mZ).Guests=(ix h.Mons i mZ).Guests
 o:∀i,hasB i (ln h.Mons)=true->(ix r.Mons i mZ).Outs=(ix h.Mons i mZ).Outs
 p:∀i,hasB i (ln h.Mons)=true->(ix r.Mons i mZ).Pending=(ix h.Mons i mZ).Pending
 tr:∀i,hasB i (ln h.Mons)=true->(ix r.Mons i mZ).Traps=(ix h.Mons i mZ).Traps
 ow:∀i,hasB i (ln h.Mons)=true->(ix r.Mons i mZ).Own=(ix h.Mons i mZ).Own
 pg:∀i k,hasB i (ln h.Mons)=true->hasB k 8=true->zdf r i k=zdf h i k
def Like.refl (h:Host):Like h h:=⟨rfl,λ_ _=>rfl,λ_ _=>rfl,λ_ _=>rfl,λ_ _=>rfl,λ_ _=>rfl,λ_ _ _ _=>rfl⟩
def Like.trans {a b c:Host}(x:Like a b)(y:Like b c):Like a c:=by have k:∀i,hasB i (ln a.Mons)=true->hasB i (ln b.Mons)=true:=λi e=>(by unfold ln at e ⊢;rwa [x.len]);exact⟨y.len.trans x.len,λi h=>(y.g i<|k i h).trans (x.g i h),λi h=>(y.o i<|k i h).trans (x.o i h),λi h=>(y.p i<|k i h).trans (x.p i h),λi h=>(y.tr i<|k i h).trans (x.tr i h),λi h=>(y.ow i<|k i h).trans (x.ow i h),λi q h d=>(y.pg i q (k i h) d).trans (x.pg i q h d)⟩
def Like.has {h r:Host}(k:Like h r){i:Int}:hasB i (ln r.Mons)=hasB i (ln h.Mons):=by unfold ln;rw[k.len]
def zsr {h r:Host}{m:Int}:∀(n i:Nat),(∀k:Nat,i<=k->k<i+n->zdf r m (k:Int)=zdf h m (k:Int))->zc4 r m n i=zc4 h m n i
 | 0,i,_=>rfl
 |n+1,i,h=>by rw[zc4,zc4,h i (by omega) (by omega),zsr n (i+1) λk a b=>h k (by omega) (by omega)]
def Like.seen {h r:Host}(k:Like h r)(m:Int):zC r m=zC h m:=by unfold zC;rw[k.has];cases a:hasB m (ln h.Mons) with|false=>rfl|true=>simp only[cond_true];rw[k.g m a,k.o m a,k.p m a,zsr 8 0 λj b c=>k.pg m j a (zG.2 (by omega))]
def zpS {h:Host}{m p:Int}(a:hasB m (ln h.Mons)=true)(c:hasB p 8=true)(b:hasB p (ln (ix h.Mons m mZ).Outer)=true) :
 zdf h m p=bif ieq (ix (ix h.Mons m mZ).Outer p sZ).Page (-1) then zc1 (ix h.Mons m mZ).Out p else zc1 h.Memory (ix (ix h.Mons m mZ).Outer p sZ).Page:=by
 unfold zdf;have:zbJ (ix h.Mons m mZ).Outer p=ix (ix h.Mons m mZ).Outer p sZ:=by unfold zbJ;rw[b];rfl
 rw[a,c,cond_true,cond_true,this]
 by_cases e:(ix (ix h.Mons m mZ).Outer p sZ).Page = -1
 .rw [zbz.2 e,show ine (ix (ix h.Mons m mZ).Outer p sZ).Page (-1)=false by simp[ine,e]];rfl
 .rw [zcf.2 e,show ine (ix (ix h.Mons m mZ).Outer p sZ).Page (-1)=true from zET.2 e];rfl
def zm6 {m:List LI}{p:Int}(h:hasB p (ln m)=true):zc1 m p=ix m p []:=by unfold zc1;rw[h];rfl
def zRA {m:List LI}(h:∀c∈m,zc2 c=true)(p:Int):zc2 (zc1 m p)=true:=by unfold zc1;cases a:hasB p (ln m) with|false=>rfl|true=>exact h _ (znN a _)
def zxz {h r:Host}(H:HOk h){m p:Int}(b:hasB m (ln h.Mons)=true)(i:hasB p 8=true){x:Mon}{s:Slot}{c:LI}(n:r.Mons=up h.Mons m x)(k:Chg (ix h.Mons m mZ) x p s c)(u:SOk s)(t:znS s c=true)(f:r.Memory.length=12)(g:∀c∈r.Memory,zc2 c=true)(j:zgT r.Buffer=true)(l:zgT r.IoBuffer=true)(v:0<=s.Page->s.Page=(ix (ix h.Mons m mZ).Outer p sZ).Page\/zgG h.Mons s.Page=0):HOk r:=by refine H.up b ((H.mon b).chg i k u t) n f g j l λq z=>?_;have d:=zUg ((H.mon b).hasO i) k.o q;by_cases e:s.Page=q;{have a:=v (by omega);rw[if_pos e]at d;rcases a with a|a;{rw [if_pos (by omega)]at d;left;omega};{right;rw[e] at a;refine⟨a,?_⟩;have:=zzs b x q;have y:cPg (ix h.Mons m mZ) q<=zgG h.Mons q:=(by have:=zzs b (⟨[],[],[],[],[],0,0,[],0⟩:Mon) q;have w:cPg (⟨[],[],[],[],[],0,0,[],0⟩:Mon) q=0:=rfl;omega);omega}};{rw [if_neg e]at d;left;split at d<;>omega}
def zwZ {h r:Host}(H:HOk h){m p:Int}(a:hasB m (ln h.Mons)=true)(y:hasB p 8=true){x:Mon}{s:Slot}{c:LI}(n:r.Mons=up h.Mons m x)(k:Chg (ix h.Mons m mZ) x p s c)(B:(cond (ieq s.Page<|-1) c<|zc1 r.Memory s.Page)=zdf h m p)(f:∀i q,hasB i (ln h.Mons)=true->hasB q 8=true->¬ (i=m/\q=p)->(ix (ix h.Mons i mZ).Outer q sZ).Page≠-1->zc1 r.Memory (ix (ix h.Mons i mZ).Outer q sZ).Page=zc1 h.Memory (ix (ix h.Mons i mZ).Outer q sZ).Page):Like h r:=by have l:=(zG.1 a).1;have t:=(zG.1 y).1;have e:∀{C:Type} (F:Mon->C),F x=F (ix h.Mons m mZ)->∀i,hasB i (ln h.Mons)=true->F (ix r.Mons i mZ)=F (ix h.Mons i mZ):=(by intro C F D i d;rw[n];by_cases e:m=i;{subst e;rw[zbm a];exact D};{rw [zbA l (zG.1 d).1 e]});refine⟨by rw[n,zb4],e Mon.Guests k.g,e Mon.Outs k.a1,e Mon.Pending k.a2,e Mon.Traps k.a3,e Mon.Own k.a4,λi q d b=>?_⟩;have A:hasB i (ln r.Mons)=true:=(by rw[n,zd4];exact d);have w:=(H.mon d).hasO b;have z:hasB q (ln (ix r.Mons i mZ).Outer)=true:=(by rw[n];by_cases e:m=i;{subst e;rw[zbm a,k.o,zd4];exact w};{rw [zbA l (zG.1 d).1 e];exact w});rw[zpS A b z];by_cases e:m=i;{subst e;rw[n,zbm a,k.o,k.u];by_cases v:p=q;{subst v;rw[zbm<|(H.mon a).hasO y,<- B];cases ieq s.Page (-1);{rfl};{rw [cond_true,cond_true,zm6 (by rw[zd4];exact(H.mon a).hasU y),zbm<|(H.mon a).hasU y]}};{rw [zbA t (zG.1 b).1 v,zpS a b w];by_cases j:(ix (ix h.Mons m mZ).Outer q sZ).Page = -1;{rw [zbz.2 j,cond_true,cond_true,zm6 (by rw[zd4];exact(H.mon a).hasU b),zm6<|(H.mon a).hasU b,zbA t (zG.1 b).1 v]};{rw [zcf.2 j,cond_false,cond_false,f m q a b (λh=>v h.2.symm) j]}}};{rw [n,zbA l (zG.1 d).1 e,zpS d b w];by_cases j:(ix (ix h.Mons i mZ).Outer q sZ).Page = -1;{rw [zbz.2 j,cond_true,cond_true]};{rw [zcf.2 j,cond_false,cond_false,f i q d b (λh=>e h.1.symm) j]}}
structure Op (h r:Host):Prop where
 ok:HOk r
 like:Like h r
 rt:Rt h->Rt r
def Op.refl {h:Host}(H:HOk h):Op h h:=⟨H,Like.refl h,id⟩
def Op.trans {a b c:Host}(x:Op a b)(y:Op b c):Op a c:=⟨y.ok,x.like.trans y.like,λh=>y.rt (x.rt h)⟩
def Op.safe {h r:Host}(k:Op h r)(s:Safe h):Safe r:=⟨k.ok,k.rt s.rt⟩
def zM0 {h r:Host}(H:Rt h){m:Int}(l:hasB m (ln h.Mons)=true){x:Mon}(u:r.Mons=up h.Mons m x)(q:r.Buffer=h.Buffer)(s:r.IoBuffer=h.IoBuffer)(y:x.Guests.length=(ix h.Mons m mZ).Guests.length)(w:∀g,hasB g (ln (ix h.Mons m mZ).Guests)=true->(ix x.Guests g gZ).Live=(ix (ix h.Mons m mZ).Guests g gZ).Live)(z:x.Tables=(ix h.Mons m mZ).Tables)(v:x.Outer=(ix h.Mons m mZ).Outer):Rt r:=by have d:=(zG.1 l).1;have hg:∀g,hasB g (ln x.Guests)=hasB g (ln (ix h.Mons m mZ).Guests):=λg=>(by unfold ln;rw[y]);have f:∀e,zdz h e=true->zdz r e=true:=(by intro e c;obtain⟨n,i,p⟩:=zhc.1 c;rw[zhc,u,zd4];refine⟨n,?_⟩;by_cases b:m=zeA e.Tag;{rw [<- b]at n i p ⊢;rw[zbm l,hg,w _ i,v];exact⟨i,p⟩};{rw [zbA d (zG.1 n).1 b];exact⟨i,p⟩});refine⟨λk j=>?_,λe c=>f e (H.e1 e (by rwa [q]at c)),λe c=>f e (H.e2 e (by rwa [s]at c))⟩;rw[u]at j ⊢;rw[zd4]at j;by_cases b:m=k;{subst b;rw[zbm l];intro g a;rw[hg]at a;rw[z,w g a,v];exact H.t m l g a};{rw [zbA d (zG.1 j).1 b];exact H.t k j}
def zom {h a:Host}{m p:Int}{s:Slot}{x:Mon}(b:hasB m (ln h.Mons)=true)(e:a.Mons=up h.Mons m x):(zcx a m p s).Mons=up h.Mons m (ziN x p s):=by rw[zmk,e,zbm b,z5d]
def zC1 {x a:Mon}{p:Int}{s:Slot}{c:LI}(h:a.Outer=x.Outer)(j:a.Out=up x.Out p c)(hg:a.Guests=x.Guests)(i:a.Tables=x.Tables)(g:a.Dirty.length=x.Dirty.length)(b:a.Outs=x.Outs)(d:a.Pending=x.Pending)(e:a.Traps=x.Traps)(f:a.Own=x.Own):Chg x (ziN a p s) p s c :=
 ⟨by show up a.Outer p s=_;rw[h],j,hg,by show (zjJ a.Guests p a.Tables.length a.Tables).length=_;rw[ztw,i],g,b,d,e,f⟩
def zwc {h:Host}{m p:Int}{s:Slot}(a:zgT h.Buffer=true)(b:zgT h.IoBuffer=true):zgT (zcx h m p s).Buffer=true/\zgT (zcx h m p s).IoBuffer=true:=by have:=zxy h m p s;rw[this.1,this.2];cases ieq (ix (ix h.Mons m mZ).Outer p sZ).Page (-1);{exact⟨zGS a _,zGS b _⟩};{exact⟨a,b⟩}
def hasM {h:Host}(H:HOk h){s:Slot}(b:SOk s)(a:s.Page≠-1):hasB s.Page (ln h.Memory)=true:=by have:=b.pos a;exact zG.2 ⟨this.1,by unfold ln;rw[H.m12];omega⟩
def zZH {h:Host}(H:HOk h){m p:Int}(b:hasB m (ln h.Mons)=true)(c:hasB p 8=true)(l:(ix (ix h.Mons m mZ).Outer p sZ).Page≠-1):Op h (zex h m p):=by
 have X:=H.mon b;have f:(zex h m p).Mons=up h.Mons m (ziN {ix h.Mons m mZ with Out:=up (ix h.Mons m mZ).Out p (zc1 h.Memory (ix (ix h.Mons m mZ).Outer p sZ).Page)} p noSlot):=zom b rfl;have k:Chg (ix h.Mons m mZ) (ziN {ix h.Mons m mZ with Out:=up (ix h.Mons m mZ).Out p (zc1 h.Memory (ix (ix h.Mons m mZ).Outer p sZ).Page)} p noSlot) p noSlot (zc1 h.Memory (ix (ix h.Mons m mZ).Outer p sZ).Page):=zC1 rfl rfl rfl rfl rfl rfl rfl rfl rfl;have a:(zex h m p).Memory=h.Memory:=zsV _ _ _ _;have g:=zwc (h:=zgf h m p) (m:=m) (p:=p) (s:=noSlot) H.b1 H.b2;refine⟨zxz H b c f k (.inl rfl) ((zrM (.inl rfl)).2 ⟨λ_=>zRA H.pgs _,λh=>absurd rfl h⟩) (by rw[a];exact H.m12) (by rw[a];exact H.pgs) g.1 g.2 λh=>absurd h (by decide),
  zwZ H b c f k ?_ (λi q _ _ _ _=>by rw[a]),λR=>?_⟩
 {rw [zpS b c<|X.hasO c,zcf.2 l];rfl};{have j:Rt (zgf h m p):=zM0 (x:={ix h.Mons m mZ with Out:=up (ix h.Mons m mZ).Out p (zc1 h.Memory (ix (ix h.Mons m mZ).Outer p sZ).Page)}) R b rfl rfl rfl rfl (λ_ _=>rfl) rfl rfl;have d:hasB m (ln (zgf h m p).Mons)=true:=(by show hasB m (ln<|up h.Mons m _)=true;rw[zd4];exact b);have e:ix (zgf h m p).Mons m mZ={ix h.Mons m mZ with Out:=up (ix h.Mons m mZ).Out p (zc1 h.Memory (ix (ix h.Mons m mZ).Outer p sZ).Page)}:=zbm b _ _;exact zAA j d (by rw[e];exact X.hasO c) (by rw[e];exact X.gt) noSlot}
def zG0 {o:List Slot}{q:Int}:zqe o q=none↔o.countP (λs=>ieq s.Page q)=0:=by unfold zqe;rw[List.findIdx?_eq_none_iff,vA];simp
def zXS {o:List Slot}{q:Int}{k:Nat}(h:zqe o q=some k):∃a:k<o.length,o[k].Page=q:=by unfold zqe at h;rw[uY]at h;obtain⟨a,b,_⟩:=h;exact⟨a,zbz.1 b⟩
def zAu {q:Int}:∀(l:List Mon) (i:Nat),((zj6 q l i).1<0↔zgG l q=0)/\(¬ (zj6 q l i).1<0->∃a b:Nat,∃f:a<l.length,∃g:b<l[a].Outer.length,zj6 q l i=(((i+a:Nat):Int),(b:Int))/\l[a].Outer[b].Page=q)
 |[],i=>⟨by simp[zj6,zgG],λh=>absurd (show (-1:Int)<0 by decide) h⟩
 |x::l,i=>by have j:=zAu (q:=q) l (i+1);unfold zj6;split;{rename_i k c;obtain⟨m,n⟩:=zXS c;refine⟨⟨λh=>by simp at h;omega,λh=>?_⟩,λ_=>⟨0,k,by simp,m,by simp,n⟩⟩;exfalso;simp only[zgG,jG,uJ]at h;have d:x.Outer.countP (λs=>ieq s.Page q)=0:=(by unfold cPg at h;omega);rw[zG0.2 d]at c;cases c};{rename_i c;have d:=zG0.1 c;refine⟨?_,λh=>?_⟩;{rw [j.1];simp only[zgG,jG,uJ];unfold cPg;omega};{obtain⟨a,b,f,g,e,p⟩:=j.2 h;exact⟨a+1,b,by simpa using f,by simpa using g,by rw[e];simp;omega,by simpa using p⟩}}
def zJo {h:Host}{q:Int}(a:0<=q):(zbW h q).1<0↔zgG h.Mons q=0:=by unfold zbW;rw[show ilt q 0=false from qH (by omega),cond_false];exact(zAu h.Mons 0).1
def z6N {h:Host}(H:HOk h){q:Int}(j:0<=q)(c:¬ (zbW h q).1<0):hasB (zbW h q).1 (ln h.Mons)=true/\hasB (zbW h q).2 8=true/\(ix (ix h.Mons (zbW h q).1 mZ).Outer (zbW h q).2 sZ).Page=q:=by unfold zbW at c ⊢;rw[show ilt q 0=false from qH (by omega),cond_false]at c ⊢;obtain⟨a,b,d,f,e,g⟩:=(zAu h.Mons 0).2 c;rw[e,j5];have i:=(H.mons _<|jI d).o8;exact⟨zG.2 (by unfold ln;simp;omega),zG.2 (by simp;omega),by rw[zl4 d,zl4 f];exact g⟩
def zU3 {P:Nat->Bool}:∀{n i:Nat} {q:Int},q∈zxT P n i↔∃k:Nat,q=(k:Int)/\i<=k/\k<i+n/\P k=true
 | 0,i,q=>by simp[zxT];intro k _ _ _;omega
 |n+1,i,q=>by
  have d:=@zU3 P n (i+1) q;unfold zxT;constructor
  .intro h;cases c:P i with
   |true=>rw[c,cond_true,qG]at h;rcases h with h|h;{exact⟨i,h,by omega,by omega,c⟩};{obtain⟨k,a,f,g,b⟩:=d.1 h;exact⟨k,a,by omega,by omega,b⟩}
   |false=>rw[c,cond_false]at h;obtain⟨k,a,f,g,b⟩:=d.1 h;exact⟨k,a,by omega,by omega,b⟩
  {rintro⟨k,a,f,g,b⟩;by_cases e:k=i;{subst e;rw[b,cond_true,a];exact jF};{have:=d.2 ⟨k,a,by omega,by omega,b⟩;cases P i;{exact this};{exact jA _ this}}}
def zH8 {h:Host}{q:Int}:q∈zcV h↔hasB q (ln h.Memory)=true/\zgG h.Mons q=0:=by unfold zcV;rw[zU3];constructor;{rintro⟨k,rfl,b,c,d⟩;exact⟨zG.2 (by unfold ln;omega),(zJo (by omega)).1 (qD d)⟩};{rintro⟨b,c⟩;have a:=zG.1 b;unfold ln at a;refine⟨q.toNat,by omega,by omega,by omega,?_⟩;rw[show ((q.toNat:Nat):Int)=q by omega];exact qJ ((zJo a.1).2 c)}
def z0Y {h:Host}(a:zcV h≠[]):hasB (ix (zcV h) 0 0) (ln h.Memory)=true/\zgG h.Mons (ix (zcV h) 0 0)=0:=by refine zH8.1 (znN (zG.2 ⟨by omega,?_⟩) 0);unfold ln;have:=kR.2 a;omega
structure But (h r:Host) (m p:Int):Prop where
 ne:∀i k,hasB i (ln h.Mons)=true->hasB k 8=true->¬ (i=m/\k=p)->ix (ix r.Mons i mZ).Outer k sZ=ix (ix h.Mons i mZ).Outer k sZ
def zHM {h r:Host}{m p:Int}(a:hasB m (ln h.Mons)=true)(j:hasB p 8=true){x:Mon}{s:Slot}(b:r.Mons=up h.Mons m x)(g:x.Outer=up (ix h.Mons m mZ).Outer p s):But h r m p:=by refine⟨λi k d f c=>?_⟩;rw[b];by_cases e:m=i;{subst e;rw[zbm a,g,zbA (zG.1 j).1 (zG.1 f).1 λe=>c ⟨rfl,e.symm⟩]};{rw [zbA (zG.1 a).1 (zG.1 d).1 e]}
def z4L {h:Host}(H:HOk h){m p:Int}(a:hasB m (ln h.Mons)=true)(c:hasB p 8=true):But h (zex h m p) m p/\ix (ix (zex h m p).Mons m mZ).Outer p sZ=noSlot:=by have b:(zex h m p).Mons=up h.Mons m (ziN {ix h.Mons m mZ with Out:=up (ix h.Mons m mZ).Out p (zc1 h.Memory (ix (ix h.Mons m mZ).Outer p sZ).Page)} p noSlot):=zom a rfl;refine⟨zHM a c b rfl,?_⟩;rw[b,zbm a];exact zbm ((H.mon a).hasO c) _ _
structure Roomy (h r:Host):Prop where
 op:Op h r
 free:zcV r≠[]
 sl:∀i k,hasB i (ln h.Mons)=true->hasB k 8=true->ix (ix r.Mons i mZ).Outer k sZ=ix (ix h.Mons i mZ).Outer k sZ\/ix (ix r.Mons i mZ).Outer k sZ=noSlot
 dirt:∀i,(ix r.Mons i mZ).Dirty=(ix h.Mons i mZ).Dirty
def zuT {h r:Host}{m:Int}(c:hasB m (ln h.Mons)=true){x:Mon}(a:r.Mons=up h.Mons m x)(b:x.Dirty=(ix h.Mons m mZ).Dirty)(i:Int):(ix r.Mons i mZ).Dirty=(ix h.Mons i mZ).Dirty:=by
 rw[a];by_cases e:i.toNat=m.toNat
 {have:∀l:List Mon,ix l i mZ=ix l m mZ:=λl=>(by unfold ix;rw[e]);rw[this,this,zbm c,b]};{unfold ix up;simp[List.getD,jC,Ne.symm e]}
def roomy {h:Host}(H:HOk h):Roomy h (zdY h):=by unfold zdY;by_cases b:zcV h=[];{rw [show ieq (ln<|zcV h) 0=true by rw[b];rfl,cond_true];have p:¬ (zbW h 0).1<0:=λd=>(by have:(0:Int)∈zcV h:=zH8.2 ⟨zG.2 (by unfold ln;rw[H.m12];omega),(zJo (by omega)).1 d⟩;rw[b] at this;cases this);obtain⟨a,c,f⟩:=z6N H (by omega) p;have k:=zZH H a c (by rw[f];decide);have j:=z4L H a c;refine⟨k,λd=>?_,λi q g r=>?_,λi=>zuT (x:=ziN {ix h.Mons (zbW h 0).1 mZ with Out:=up (ix h.Mons (zbW h 0).1 mZ).Out (zbW h 0).2 (zc1 h.Memory (ix (ix h.Mons (zbW h 0).1 mZ).Outer (zbW h 0).2 sZ).Page)} (zbW h 0).2 noSlot) a (zom a rfl) rfl i⟩;{have:(0:Int)∈zcV (zex h (zbW h 0).1 (zbW h 0).2):=(by refine zH8.2 ⟨zG.2 (by unfold ln;rw[k.ok.m12];omega),?_⟩;have n:(zex h (zbW h 0).1 (zbW h 0).2).Mons=up h.Mons (zbW h 0).1 (ziN {ix h.Mons (zbW h 0).1 mZ with Out:=up (ix h.Mons (zbW h 0).1 mZ).Out (zbW h 0).2 (zc1 h.Memory (ix (ix h.Mons (zbW h 0).1 mZ).Outer (zbW h 0).2 sZ).Page)} (zbW h 0).2 noSlot):=zom a rfl;have l:=zzs a (ziN {ix h.Mons (zbW h 0).1 mZ with Out:=up (ix h.Mons (zbW h 0).1 mZ).Out (zbW h 0).2 (zc1 h.Memory (ix (ix h.Mons (zbW h 0).1 mZ).Outer (zbW h 0).2 sZ).Page)} (zbW h 0).2 noSlot) 0;rw[<- n] at l;have m:=zUg (x':=ziN {ix h.Mons (zbW h 0).1 mZ with Out:=up (ix h.Mons (zbW h 0).1 mZ).Out (zbW h 0).2 (zc1 h.Memory (ix (ix h.Mons (zbW h 0).1 mZ).Outer (zbW h 0).2 sZ).Page)} (zbW h 0).2 noSlot) ((H.mon a).hasO c) (s:=noSlot) rfl 0;rw[if_pos f,if_neg (by decide)] at m;have t:=H.uq 0 (by omega);omega);rw[d] at this;cases this};{by_cases e:i=(zbW h 0).1/\q=(zbW h 0).2;{rw [e.1,e.2];exact .inr j.2};{exact .inl (j.1.ne i q g r e)}}};{have:ieq (ln<|zcV h) 0=false:=zcf.2 (by unfold ln;have:=kR.2 b;omega);rw[this,cond_false];exact⟨Op.refl H,b,λi k g u=>.inl rfl,λ_=>rfl⟩}
def zY7 {m:List LI}{p:Int}{c:LI}(b:hasB p (ln m)=true)(a:zc2 c=true):zkE m p c=up m p c:=by unfold zkE;rw[b,a];rfl
def zDW {m:List LI}{p q:Int}{c:LI}(a:0<=p)(h:q≠p):zc1 (up m p c) q=zc1 m q:=by unfold zc1;rw[zd4];cases b:hasB q (ln m) with|false=>rfl|true=>rw[cond_true,cond_true,zbA a (zG.1 b).1<|Ne.symm h]
def zDV {m:List LI}{p:Int}{c:LI}(a:hasB p (ln m)=true):zc1 (up m p c) p=c:=by rw[zm6 (by rw[zd4];exact a),zbm a]
def z1v {h:Host}(H:HOk h){m p a:Int}(d:hasB m (ln h.Mons)=true)(f:hasB p 8=true)(z:(ix (ix h.Mons m mZ).Outer p sZ).Page = -1)(u:hasB a (ln h.Memory)=true)(B:zgG h.Mons a=0) :
 Op h (zgk h m p a)/\But h (zgk h m p a) m p/\ix (ix (zgk h m p a).Mons m mZ).Outer p sZ=⟨a,3⟩/\∀i,(ix (zgk h m p a).Mons i mZ).Dirty=(ix h.Mons i mZ).Dirty:=by
 have X:=H.mon d;have g:=zG.1 u;unfold ln at g;rw[H.m12]at g;have l:(zgk h m p a).Mons=up h.Mons m (ziN {ix h.Mons m mZ with Out:=up (ix h.Mons m mZ).Out p []} p ⟨a,3⟩):=zom d rfl;have k:Chg (ix h.Mons m mZ) (ziN {ix h.Mons m mZ with Out:=up (ix h.Mons m mZ).Out p []} p ⟨a,3⟩) p ⟨a,3⟩ []:=zC1 rfl rfl rfl rfl rfl rfl rfl rfl rfl;have j:=((zrM<|X.slot f).1 (X.fit p f)).1 z;have b:(zgk h m p a).Memory=up h.Memory a (ix (ix h.Mons m mZ).Out p []):=by show (zcx (landing h m p a) m p ⟨a,3⟩).Memory=_;rw[zsV];exact zY7 u j
 have A:SOk ⟨a,3⟩:=.inr ⟨g.1,by show a<=11;omega,by show (1:Int)<=3;omega,by show (3:Int)<=3;omega⟩
 have w:=zwc (h:=landing h m p a) (m:=m) (p:=p) (s:=⟨a,3⟩) H.b1 H.b2;refine⟨⟨zxz H d f l k A ((zrM A).2 ⟨λh=>absurd h (by show a≠-1;omega),λ_=>⟨show enough 3 1=true by decide,rfl⟩⟩) (by rw[b,zb4];exact H.m12) (λc r=>?_) w.1 w.2 λ_=>.inr B,
  zwZ H d f l k ?_ λi q y D r C=>?_,λR=>?_⟩,zHM d f l rfl,?_,λi=>zuT (x:=ziN {ix h.Mons m mZ with Out:=up (ix h.Mons m mZ).Out p []} p ⟨a,3⟩) d l rfl i⟩
 .rw [b]at r;rcases qZ r with n|n
  .exact H.pgs c n
  .rw [n];exact j
 .rw [zpS d f<|X.hasO f,zbz.2 z,cond_true,zm6<|X.hasU f];rw[show ieq (⟨a,3⟩:Slot).Page (-1)=false from zcf.2 (by show a≠-1;omega),cond_false,b]
  exact zDV u
 .rw [b];refine zDW g.1 (λe=>?_);have:=zHN y ((H.mon y).hasO D);rw[e] at this;omega
 .have R1:Rt (landing h m p a):=zM0 (x:={ix h.Mons m mZ with Out:=up (ix h.Mons m mZ).Out p []}) R d rfl rfl rfl rfl (λ_ _=>rfl) rfl rfl;have t:hasB m (ln (landing h m p a).Mons)=true:=by show hasB m (ln<|up h.Mons m _)=true;rw[zd4];exact d
  have v:ix (landing h m p a).Mons m mZ={ix h.Mons m mZ with Out:=up (ix h.Mons m mZ).Out p []}:=zbm d _ _;exact zAA R1 t (by rw[v];exact X.hasO f) (by rw[v];exact X.gt) _
 .rw [l,zbm d];exact zbm (X.hasO f) _ _
def zAt {h:Host}(H:HOk h){m p:Int}(f:hasB m (ln h.Mons)=true)(g:hasB p 8=true)(k:(ix (ix h.Mons m mZ).Outer p sZ).Page = -1) :
 Op h (fetched h m p)/\(∃e,0<=e/\e<=11/\ix (ix (fetched h m p).Mons m mZ).Outer p sZ=⟨e,3⟩)/\∀i,(ix (fetched h m p).Mons i mZ).Dirty=(ix h.Mons i mZ).Dirty:=by
 have R:=roomy H;have c:hasB m (ln (zdY h).Mons)=true:=by rw[R.op.like.has];exact f
 have d:(ix (ix (zdY h).Mons m mZ).Outer p sZ).Page = -1:=by rcases R.sl m p f g with b|b<;>rw [b];{exact k};{rfl}
 obtain⟨b,j⟩:=z0Y R.free;obtain⟨l,r,n,q⟩:=z1v R.op.ok c g d b j;have a:=zG.1 b;unfold ln at a;rw[R.op.ok.m12]at a;exact⟨R.op.trans l,⟨_,a.1,by omega,n⟩,λi=>(q i).trans (R.dirt i)⟩
def zpV {o:List Slot}{p:Int}(h:hasB p (ln o)=true):zbJ o p=ix o p sZ:=by unfold zbJ;rw[h];rfl
def zm8 {h:Host}(H:HOk h){m p:Int}(a:hasB m (ln h.Mons)=true)(b:hasB p 8=true) :
 (cond (ieq (ix (ix h.Mons m mZ).Outer p sZ).Page<|-1) (ix (ix h.Mons m mZ).Out p [])<|zc1 h.Memory (ix (ix h.Mons m mZ).Outer p sZ).Page)=zdf h m p:=by
 rw[zpS a b<|(H.mon a).hasO b,zm6<|(H.mon a).hasU b]
structure Mark (x y:Mon):Prop where
 o:y.Outer=x.Outer
 u:y.Out=x.Out
 g:y.Guests=x.Guests
 t:y.Tables=x.Tables
 d:y.Dirty.length=x.Dirty.length
 a1:y.Outs=x.Outs
 a2:y.Pending=x.Pending
 a3:y.Traps=x.Traps
 a4:y.Own=x.Own
def zZG {h:Host}(H:HOk h){m:Int}(b:hasB m (ln h.Mons)=true){y:Mon}(k:Mark (ix h.Mons m mZ) y):Op h {h with Mons:=up h.Mons m y}/\∀i q,ix (ix (up h.Mons m y) i mZ).Outer q sZ=ix (ix h.Mons i mZ).Outer q sZ:=by
 have X:=H.mon b;have a:hasB 0 8=true:=(by decide);have c:Chg (ix h.Mons m mZ) y 0 (ix (ix h.Mons m mZ).Outer 0 sZ) (ix (ix h.Mons m mZ).Out 0 []):=⟨by rw[zpH<|X.hasO a,k.o],by rw[zpH<|X.hasU a,k.u],k.g,by rw[k.t],k.d,k.a1,k.a2,k.a3,k.a4⟩
 refine⟨⟨zxz H b a rfl c (X.slot a) (X.fit 0 a) H.m12 H.pgs H.b1 H.b2 λ_=>.inl rfl,zwZ H b a rfl c (zm8 H b a) λ_ _ _ _ _ _=>rfl,
  λR=>zM0 R b rfl rfl rfl (by rw[k.g]) (λg _=>by rw[k.g]) k.t k.o⟩,λi q=>?_⟩
 by_cases e:i.toNat=m.toNat
 {have:∀l:List Mon,ix l i mZ=ix l m mZ:=λl=>(by unfold ix;rw[e]);rw[this,this,zbm b,k.o]};{have:ix (up h.Mons m y) i mZ=ix h.Mons i mZ:=(by unfold ix up;simp[List.getD,jC,Ne.symm e]);rw[this]}
def zMP {h:Host}(H:HOk h){m:Int}(a:hasB m (ln h.Mons)=true)(p:Int):Op h (zbN h m p)/\∀i q,ix (ix (zbN h m p).Mons i mZ).Outer q sZ=ix (ix h.Mons i mZ).Outer q sZ :=
 zZG H a ⟨rfl,rfl,rfl,rfl,zb4 _ _ _,rfl,rfl,rfl,rfl⟩
def z4k {h:Host}(H:HOk h){m:Int}(a:hasB m (ln h.Mons)=true)(p:Int):Op h (zgz h m p)/\∀i q,ix (ix (zgz h m p).Mons i mZ).Outer q sZ=ix (ix h.Mons i mZ).Outer q sZ :=
 zZG H a ⟨rfl,rfl,rfl,rfl,zb4 _ _ _,rfl,rfl,rfl,rfl⟩
def rights {r:Int}(a:1<=r)(b:r<=3):r=1\/r=2\/r=3:=by omega
def MOk.enough1 {x:Mon}(X:MOk x){p:Int}(a:hasB p 8=true)(d:(ix x.Outer p sZ).Page≠-1):(ix x.Outer p sZ).Rights=1\/(ix x.Outer p sZ).Rights=3:=by have b:=(((zrM<|X.slot a).1 (X.fit p a)).2 d).1;have c:=(X.slot a).pos d;rcases rights c.2.2.1 c.2.2.2 with e|e|e;{exact .inl e};{rw [e]at b;exact absurd b (by decide)};{exact .inr e}
def zRy {h:Host}(H:HOk h){m p:Int}(c:hasB m (ln h.Mons)=true)(b:hasB p 8=true)(g:(ix (ix h.Mons m mZ).Outer p sZ).Page≠-1){r:Int}(n:r=1\/r=3) :
 Op h (zcx h m p ⟨(ix (ix h.Mons m mZ).Outer p sZ).Page,r⟩)/\But h (zcx h m p ⟨(ix (ix h.Mons m mZ).Outer p sZ).Page,r⟩) m p/\
  ix (ix (zcx h m p ⟨(ix (ix h.Mons m mZ).Outer p sZ).Page,r⟩).Mons m mZ).Outer p sZ=⟨(ix (ix h.Mons m mZ).Outer p sZ).Page,r⟩/\∀i,(ix (zcx h m p ⟨(ix (ix h.Mons m mZ).Outer p sZ).Page,r⟩).Mons i mZ).Dirty=(ix h.Mons i mZ).Dirty:=by
 have X:=H.mon c;have d:=(X.slot b).pos g;have e:=zmk h m p ⟨(ix (ix h.Mons m mZ).Outer p sZ).Page,r⟩;have k:Chg (ix h.Mons m mZ) (ziN (ix h.Mons m mZ) p ⟨(ix (ix h.Mons m mZ).Outer p sZ).Page,r⟩) p ⟨(ix (ix h.Mons m mZ).Outer p sZ).Page,r⟩ (ix (ix h.Mons m mZ).Out p []):=
  zC1 rfl (zpH (X.hasU b) _).symm rfl rfl rfl rfl rfl rfl rfl
 have l:SOk ⟨(ix (ix h.Mons m mZ).Outer p sZ).Page,r⟩:=.inr ⟨d.1,d.2.1,by show 1<=r;omega,by show r<=3;omega⟩
 have f:=((zrM<|X.slot b).1 (X.fit p b)).2 g;have j:=zwc (h:=h) (m:=m) (p:=p) (s:=⟨(ix (ix h.Mons m mZ).Outer p sZ).Page,r⟩) H.b1 H.b2;have a:=zsV h m p ⟨(ix (ix h.Mons m mZ).Outer p sZ).Page,r⟩;refine⟨⟨zxz H c b e k l ((zrM l).2 ⟨λh=>absurd h g,λ_=>⟨?_,f.2⟩⟩) (by rw[a];exact H.m12) (by rw[a];exact H.pgs) j.1 j.2 λ_=>.inl rfl,
  zwZ H c b e k (by rw[a];exact zm8 H c b) (λi q _ _ _ _=>by rw[a]),λR=>zAA R c (X.hasO b) X.gt _⟩,zHM c b e rfl,?_,λi=>zuT c e rfl i⟩
 .show enough r 1=true
  rcases n with rfl|rfl<;>decide
 .rw [e,zbm c];exact zbm (X.hasO b) _ _
structure Mended (h r:Host) (m p n:Int):Prop where
 op:Op h r
 inn:(ix (ix r.Mons m mZ).Outer p sZ).Page≠-1
 ri:ieq (wand .i64 n 2) 0=false->(ix (ix r.Mons m mZ).Outer p sZ).Rights=3
 dt:ieq (wand .i64 n 2) 0=false->ix (ix r.Mons m mZ).Dirty p false=true
 d0:ieq (wand .i64 n 2) 0=true->(ix r.Mons m mZ).Dirty=(ix h.Mons m mZ).Dirty
 dk:∀k,hasB k 8=true->k≠p->ix (ix r.Mons m mZ).Dirty k false=ix (ix h.Mons m mZ).Dirty k false
 dm:∀i,hasB i (ln h.Mons)=true->i≠m->(ix r.Mons i mZ).Dirty=(ix h.Mons i mZ).Dirty
def zV6 {h:Host}(H:HOk h){m p:Int}(n:Int)(c:hasB m (ln h.Mons)=true)(g:hasB p 8=true)(v:(ix (ix h.Mons m mZ).Outer p sZ).Page≠-1):Mended h (zlG h m p n) m p n:=by
 unfold zlG;cases s:ieq (wand .i64 n 2) 0 with
 |true=>exact⟨Op.refl H,v,λe=>Bool.noConfusion<|s.symm.trans e,λe=>Bool.noConfusion<|s.symm.trans e,λ_=>rfl,λ_ _ _=>rfl,λ_ _ _=>rfl⟩
 |false=>rw[cond_false];obtain⟨f,C⟩:=zMP H c p;have d:hasB m (ln (zbN h m p).Mons)=true:=(by rw[f.like.has];exact c);have a:(ix (ix (zbN h m p).Mons m mZ).Outer p sZ).Page≠-1:=(by rw[C];exact v);have u:(ix (zbN h m p).Mons m mZ).Dirty=up (ix h.Mons m mZ).Dirty p true:=(by show (ix (up h.Mons m _) m mZ).Dirty=_;rw[zbm c]);have l:∀i,hasB i (ln h.Mons)=true->i≠m->(ix (zbN h m p).Mons i mZ).Dirty=(ix h.Mons i mZ).Dirty:=λi q b=>(by show (ix (up h.Mons m _) i mZ).Dirty=_;rw[zbA (zG.1 c).1 (zG.1 q).1<|Ne.symm b]);have A:=(f.ok.mon d).enough1 g a;have t:∀r:Host,(∀i,(ix r.Mons i mZ).Dirty=(ix (zbN h m p).Mons i mZ).Dirty)->Op (zbN h m p) r->(ix (ix r.Mons m mZ).Outer p sZ).Page≠-1->(ix (ix r.Mons m mZ).Outer p sZ).Rights=3->Mended h r m p n:=(by intro r j x y z;refine⟨f.trans x,y,λ_=>z,λ_=>?_,λe=>Bool.noConfusion<|s.symm.trans e,λk B b=>?_,λi q b=>by rw[j,l i q b]⟩;{rw [j,u,zbm<|(H.mon c).hasD g]};{rw [j,u,zbA (zG.1 g).1 (zG.1 B).1<|Ne.symm b]});unfold opened;rcases A with e|e;{rw [e,show ieq (wand .i64 1 2) 0=true by decide,cond_true];obtain⟨D,F,w,E⟩:=zRy f.ok d g a (r:=3) (.inr rfl);exact t _ E D (by rw[w];exact a) (by rw[w])};{rw [e,show ieq (wand .i64 3 2) 0=false by decide,cond_false];exact t _ (λ_=>rfl) (Op.refl f.ok) a e}
def zDU {h:Host}(H:HOk h){m p:Int}(n:Int)(c:hasB m (ln h.Mons)=true)(d:hasB p 8=true):Mended h (mended h m p n) m p n:=by unfold mended;by_cases e:(ix (ix h.Mons m mZ).Outer p sZ).Page = -1;{rw [zbz.2 e,cond_true];obtain⟨a,⟨q,r,s,l⟩,f⟩:=zAt H c d e;have K:=zV6 a.ok n (by rw[a.like.has];exact c) d (by rw[l];show q≠-1;omega);exact⟨a.trans K.op,K.inn,K.ri,K.dt,λe=>by rw[K.d0 e,f],λk j b=>by rw[K.dk k j b,f],λi g b=>by rw[K.dm i (by rw[a.like.has];exact g) b,f]⟩};{rw [zcf.2 e,cond_false];exact zV6 H n c d e}
def zh7 {h:Host}{m p:Int}:zb3 h m p=true↔HOk h/\hasB m (ln h.Mons)=true/\hasB p 8=true:=by unfold zb3;rw[zcJ,zcJ,zi8]
def z1w {h:Host}(H:HOk h)(m p:Int):Op h (zk1 h m p):=by unfold zk1;cases a:zb3 h m p with|false=>exact Op.refl H|true=>obtain⟨_,b,c⟩:=zh7.1 a;rw[cond_true];unfold zin;by_cases e:(ix (ix h.Mons m mZ).Outer p sZ).Page = -1;{rw [zbz.2 e];exact Op.refl H};{rw [zcf.2 e];exact zZH H b c e}
def z4j {h:Host}(H:HOk h)(m p:Int):Op h (zm7 h m p):=by unfold zm7;cases a:zb3 h m p with|false=>exact Op.refl H|true=>obtain⟨_,b,c⟩:=zh7.1 a;rw[cond_true];unfold zin;by_cases e:(ix (ix h.Mons m mZ).Outer p sZ).Page = -1;{rw [zbz.2 e];exact(zAt H b c e).1};{rw [zcf.2 e];exact Op.refl H}
def zRx {h:Host}(H:HOk h)(m p:Int):Op h (zeW h m p):=by unfold zeW;cases g:zb3 h m p with|false=>exact Op.refl H|true=>obtain⟨_,b,c⟩:=zh7.1 g;rw[cond_true];obtain⟨a,d⟩:=z4k H b p;(cases e:zdv (ix (ix h.Mons m zh).Outer p zV) noSlot with|true=>exact a|false=>rw[cond_false];have i:(ix (ix h.Mons m mZ).Outer p sZ).Page≠-1:=λf=>zpW.1 e (((H.mon b).slot c).none f);have:=zRy a.ok (m:=m) (p:=p) (by rw[a.like.has];exact b) c (by rw[d];exact i) (r:=1) (.inl rfl);rw[d m p] at this;exact a.trans this.1)
structure KeepP (x y:Mon):Prop where
 o:y.Outer=x.Outer
 u:y.Out=x.Out
def zMT {h r:Host}{m:Int}(b:hasB m (ln h.Mons)=true){y:Mon}(c:r.Mons=up h.Mons m y)(a:r.Memory=h.Memory)(k:KeepP (ix h.Mons m mZ) y)(i q:Int):zdf r i q=zdf h i q:=by unfold zdf;rw[c,zd4,a];cases d:hasB i (ln h.Mons) with|false=>rfl|true=>by_cases e:m=i;{subst e;rw[zbm b,k.o,k.u]};{rw [zbA (zG.1 b).1 (zG.1 d).1 e]}
def zv7 {h r:Host}{m:Int}(b:hasB m (ln h.Mons)=true){y:Mon}(c:r.Mons=up h.Mons m y)(a:r.Memory=h.Memory)(k:KeepP (ix h.Mons m mZ) y)(i:Int) :
 zC r i=bif ieq i m then ⟨(zC h i).Memory,y.Guests,y.Outs,y.Pending⟩ else zC h i:=by
 have f:zc4 r i 8 0=zc4 h i 8 0:=zsr 8 0 (λj _ _=>zMT b c a k i j);unfold zC;rw[f,c,zd4]
 by_cases e:i=m
 .subst e;rw[b,zbz.2 rfl,zbm b];rfl
 .rw [zcf.2 e,cond_false];cases d:hasB i (ln h.Mons) with
  |false=>rfl
  |true=>rw[zbA (zG.1 b).1 (zG.1 d).1<|Ne.symm e]
def zm2 {x y:Mon}(X:MOk x)(k:KeepP x y)(g:y.Guests.length=x.Guests.length)(t:y.Tables.length=x.Tables.length)(d:y.Dirty.length=x.Dirty.length)(o:y.Outs.length<=40)(p:zef y.Pending=true)(tr:zl y.Traps 0 3=true)(b:zl y.Own 0 1000000000=true)(a:∀g∈y.Guests,zeu g=true):MOk y :=
 ⟨by rw[g];exact X.g1,by rw[g];exact X.g2,by rw[t,g];exact X.gt,by rw[k.o];exact X.o8,by rw[k.o];exact X.sl,by rw[k.u];exact X.u8,by rw[d];exact X.d8,o,p,tr,b,a,by rw[k.o,k.u];exact X.fit⟩
def zUR {h:Host}(H:HOk h){m:Int}(a:hasB m (ln h.Mons)=true){y:Mon}(k:KeepP (ix h.Mons m mZ) y)(b:MOk y):HOk {h with Mons:=up h.Mons m y} :=
 H.up a b rfl H.m12 H.pgs H.b1 H.b2 λq _=>.inl (by unfold cPg;rw[k.o];exact qV _)
def zxv {h:Host}(S:Safe h){m:Int}(a:hasB m (ln h.Mons)=true){y:Mon}(k:KeepP (ix h.Mons m mZ) y)(d:MOk y)(hg:y.Guests.length=(ix h.Mons m mZ).Guests.length)(c:∀g,hasB g (ln (ix h.Mons m mZ).Guests)=true->(ix y.Guests g gZ).Live=(ix (ix h.Mons m mZ).Guests g gZ).Live)(b:y.Tables=(ix h.Mons m mZ).Tables):Safe {h with Mons:=up h.Mons m y} :=
 ⟨zUR S.ok a k d,zM0 S.rt a rfl rfl rfl hg c b k.o⟩
def zTq {h:Host}(S:Safe h)(m t:Int):Safe (zhD h m t)/\∀i,zC (zhD h m t) i=zC h i:=by
 unfold zhD;rw[zi8.2 S.ok,cond_true];cases a:hasB m (ln h.Mons) with
 |false=>exact⟨S,λ_=>rfl⟩
 |true=>
  cases b:zl t 0 3 with
  |false=>exact⟨S,λ_=>rfl⟩
  |true=>have X:=S.ok.mon a;have k:KeepP (ix h.Mons m mZ) {ix h.Mons m mZ with Traps:=t}:=⟨rfl,rfl⟩;refine⟨zxv S a k (zm2 X k rfl rfl rfl X.outs X.pend b X.own X.gs) rfl (λ_ _=>rfl) rfl,λi=>?_⟩;rw[cond_true,cond_true];refine(zv7 (h:=h) (r:={h with Mons:=up h.Mons m {ix h.Mons m mZ with Traps:=t}}) a rfl rfl k i).trans ?_;by_cases e:i=m;{subst e;rw[zbz.2 rfl,cond_true];unfold zC;rw[a];rfl};{rw [zcf.2 e];rfl}
def zG3:∀(n i:Nat) (k:Kept),(zi6 n i k).Known.length=k.Known.length/\(zi6 n i k).Slots.length=k.Slots.length
 | 0,i,k=>⟨rfl,rfl⟩
 |n+1,i,k=>by have a:=zG3 n (i+1) (zce k (i:Int));have b:=zmU k (i:Int);exact⟨a.1.trans b.1,a.2.trans b.2⟩
def zK9:∀(n i:Nat) (k:Kept),k.Known.length=k.Slots.length->∀j,hasB j (ln k.Known)=true->
 ((i:Int)<=j/\j<((i+n:Nat):Int)->ix (zi6 n i k).Known j false=false/\ix (zi6 n i k).Slots j sZ=noSlot)/\
 (¬ ((i:Int)<=j/\j<((i+n:Nat):Int))->ix (zi6 n i k).Known j false=ix k.Known j false/\ix (zi6 n i k).Slots j sZ=ix k.Slots j sZ)
 | 0,i,k,_,j,_=>⟨λh=>by omega,λ_=>⟨rfl,rfl⟩⟩
 |n+1,i,k,g,j,f=>by have b:=zmU k (i:Int);have d:=zxR (q:=(i:Int)) g f;have c:=zK9 n (i+1) (zce k (i:Int)) (by rw[b.1,b.2,g]) j (by unfold ln at f ⊢;rwa [b.1]);rw[zi6];by_cases a:((i+1:Nat):Int)<=j/\j<((i+1+n:Nat):Int);{exact⟨λ_=>c.1 a,λh=>absurd (by omega) h⟩};{rw [(c.2 a).1,(c.2 a).2,d.1,d.2];by_cases e:(i:Int)=j;{rw [zbz.2 e];exact⟨λ_=>⟨rfl,rfl⟩,λh=>absurd (by omega) h⟩};{rw [zcf.2 e];exact⟨λh=>absurd (by omega) a,λ_=>⟨rfl,rfl⟩⟩}}
def zSq {k:Kept}{a b:List Slot}(h:KOk k a b):KOk (ziH k) a b:=by have e:=zG3 k.Known.length 0 k;refine⟨e.1.trans h.l1,e.2.trans h.l2,λi f=>?_⟩;have c:hasB i (ln k.Known)=true:=(by unfold ln at f ⊢;rwa [h.l1]);have d:=zG.1 c;unfold ln at d;have:=(zK9 k.Known.length 0 k (by rw[h.l1,h.l2]) i c).1 ⟨by omega,by omega⟩;unfold ziH;rw[this.1,this.2];rfl
def zKU:∀(n j:Nat) (l:List Kept),(zww n j l).length=l.length
 | 0,_,_=>rfl
 |n+1,j,l=>by rw[zww,zKU n,zb4]
def zUk:∀(n j:Nat) (l:List Kept),j+n<=l.length->∀g,0<=g->ix (zww n j l) g kZ=if (j:Int)<=g/\g<((j+n:Nat):Int) then ziH (ix l g kZ) else ix l g kZ
 | 0,j,l,_,g,hg=>by rw[if_neg (by omega)];rfl
 |n+1,j,l,a,g,hg=>by rw[zww,zUk n (j+1) _ (by rw[zb4];omega) g hg];by_cases e:(j:Int)=g;{subst e;rw[if_neg (by omega),if_pos (by omega),zbm<|zG.2 ⟨by omega,by unfold ln;omega⟩]};{rw [zbA (by omega) hg e];by_cases h:((j+1:Nat):Int)<=g/\g<((j+1+n:Nat):Int);{rw [if_pos h,if_pos (by omega)]};{rw [if_neg h,if_neg (by omega)]}}
def zKT:∀(n i:Nat) (l:List Mon),(zlZ n i l).length=l.length
 | 0,_,_=>rfl
 |n+1,i,l=>by rw[zlZ,zKT n,zb4]
def zQ0:∀(n i:Nat) (l:List Mon),i+n<=l.length->∀m,0<=m->ix (zlZ n i l) m mZ=if (i:Int)<=m/\m<((i+n:Nat):Int) then zoZ (ix l m mZ) (ix l m mZ).Tables.length 0 else ix l m mZ
 | 0,i,l,_,m,a=>by rw[if_neg (by omega)];rfl
 |n+1,i,l,b,m,a=>by rw[zlZ,zQ0 n (i+1) _ (by rw[zb4];omega) m a];by_cases e:(i:Int)=m;{subst e;rw[if_neg (by omega),if_pos (by omega),zbm<|zG.2 ⟨by omega,by unfold ln;omega⟩]};{rw [zbA (by omega) a e];by_cases h:((i+1:Nat):Int)<=m/\m<((i+1+n:Nat):Int);{rw [if_pos h,if_pos (by omega)]};{rw [if_neg h,if_neg (by omega)]}}
def z5w (h:Host){m:Int}(a:hasB m (ln h.Mons)=true):ix (cold h).Mons m mZ=zoZ (ix h.Mons m mZ) (ix h.Mons m mZ).Tables.length 0:=by have:=zG.1 a;unfold ln at this;show ix (zlZ h.Mons.length 0 h.Mons) m mZ=_;rw[zQ0 _ _ _ (by omega) m this.1,if_pos (by omega)]
def zyA (h:Host):(cold h).Mons.length=h.Mons.length:=zKT _ _ _
def zHP (h:Host)(m:Int):hasB m (ln (cold h).Mons)=hasB m (ln h.Mons):=by unfold ln;rw[zyA]
def z9K {l a:List Mon}(d:a.length=l.length)(h:∀m,hasB m (ln l)=true->(ix a m mZ).Outer=(ix l m mZ).Outer)(q:Int):zgG a q=zgG l q:=by have:a.map (λx=>cPg x q)=l.map (λx=>cPg x q):=(by refine List.ext_getElem (by simp[d]) λk b c=>?_;simp only[uM]at b c;have:=h (k:Int) (zG.2 ⟨by omega,by unfold ln;omega⟩);rw[zl4 b,zl4 c] at this;simp[cPg,this]);unfold zgG;rw[this]
def zbaJ {h:Host}(H:HOk h):Op h (cold h):=by have c:∀m,hasB m (ln h.Mons)=true->ix (cold h).Mons m mZ=zoZ (ix h.Mons m mZ) (ix h.Mons m mZ).Tables.length 0:=λm a=>z5w h a;have n:∀i q,zdf (cold h) i q=zdf h i q:=(by intro i q;unfold zdf;rw[zHP];cases b:hasB i (ln h.Mons) with|false=>rfl|true=>rw[c i b];rfl);refine⟨⟨H.m12,H.pgs,by rw[zyA];exact H.n1,by rw[zyA];exact H.n3,rfl,rfl,λy s=>?_,λq r=>?_⟩,⟨zyA h,λi b=>by rw[c i b];rfl,λi b=>by rw[c i b];rfl,λi b=>by rw[c i b];rfl,λi b=>by rw[c i b];rfl,λi b=>by rw[c i b];rfl,λi k _ _=>n i k⟩,λR=>⟨λm a=>?_,λe j=>(by cases j),λe j=>(by cases j)⟩⟩;{obtain⟨m,a,rfl⟩:=zVY s mZ;rw[zHP]at a;rw[c m a];have X:=H.mon a;have k:KeepP (ix h.Mons m mZ) (zoZ (ix h.Mons m mZ) (ix h.Mons m mZ).Tables.length 0):=⟨rfl,rfl⟩;exact zm2 X k rfl (zKU _ _ _) rfl X.outs X.pend X.tr X.own X.gs};{rw [z9K (l:=h.Mons) (zyA h) (λm a=>by rw[c m a];rfl)];exact H.uq q r};{rw [zHP]at a;rw[c m a];have X:=H.mon a;intro g hg;show KOk (ix (zww (ix h.Mons m mZ).Tables.length 0 (ix h.Mons m mZ).Tables) g kZ) (ix (ix h.Mons m mZ).Guests g gZ).Live (ix h.Mons m mZ).Outer;have d:hasB g (ln (ix h.Mons m mZ).Guests)=true:=hg;have f:=zG.1 d;unfold ln at f;have p:=X.gt;rw[zUk _ _ _ (by omega) g f.1,if_pos (by omega)];exact zSq (R.t m a g d)}
def zW3 {m g:Int}(c:zl m 0 2=true)(hg:zl g 0 1=true):zeA (zeU m g)=m/\zfr (zeU m g)=g/\1<=zeU m g/\zeU m g<=6:=by have d:=zdo.1 c;have e:=zdo.1 hg;have a:m=0\/m=1\/m=2:=(by omega);have b:g=0\/g=1:=(by omega);rcases a with rfl|rfl|rfl<;>rcases b with rfl|rfl<;>decide
def HOk.tag {h:Host}(H:HOk h){m g:Int}(a:hasB m (ln h.Mons)=true)(hg:hasB g (ln (ix h.Mons m mZ).Guests)=true):zl m 0 2=true/\zl g 0 1=true:=by have b:=zG.1 a;have c:=zG.1 hg;have d:=H.n3;have e:=(H.mon a).g2;unfold ln at b c;exact⟨zdo.2 (by omega),zdo.2 (by omega)⟩
def zh9 {r:Int}:zep r=true↔r=0\/r=1\/r=2\/r=3:=by unfold zep ige ile;rw[qE,qY,qY];omega
def zs8 {a b:Int}(h:enough a b=true):zep a=true/\zep b=true:=by unfold enough at h;rw[zcJ,zcJ]at h;exact⟨h.1,h.2.1⟩
def zUF {a b c:Int}(d:enough a b=true)(e:enough b c=true):enough a c=true:=by have f:=zh9.1 (zs8 d).1;have g:=zh9.1 (zs8 d).2;have h:=zh9.1 (zs8 e).2;rcases f with rfl|rfl|rfl|rfl<;>rcases g with rfl|rfl|rfl|rfl<;>rcases h with rfl|rfl|rfl|rfl<;>revert d e<;>decide
def zXJ {a b n:Int}(g:n=1\/n=2)(c:enough a n=true)(d:enough b n=true):zfd a b≠0/\enough (zfd a b) n=true:=by have e:=zh9.1 (zs8 c).1;have f:=zh9.1 (zs8 d).1;rcases g with rfl|rfl<;>rcases e with rfl|rfl|rfl|rfl<;>rcases f with rfl|rfl|rfl|rfl<;>revert c d<;>decide
def both_ok (a b:Int):zep (zfd a b)=true:=by
 unfold zfd;cases c:zep a with
 |false=>rfl
 |true=>
  cases d:zep b with
  |false=>rfl
  |true=>have c:=zh9.1 c;have d:=zh9.1 d;rcases c with rfl|rfl|rfl|rfl<;>rcases d with rfl|rfl|rfl|rfl<;>decide
def zXQ {a:Int}(h:zep a=true):enough a a=true:=by rcases zh9.1 h with rfl|rfl|rfl|rfl<;>decide
def zsl {n:Int}(a:n=1\/n=2):enough 0 n=false:=by rcases a with rfl|rfl<;>decide
def z0q {s:Slot}{o:List Slot}(a:s.Page≠-1)(b:(zbJ o s.Page).Page≠-1):zbG s o=bif ieq (zfd s.Rights (zbJ o s.Page).Rights) 0 then noSlot else ⟨(zbJ o s.Page).Page,zfd s.Rights (zbJ o s.Page).Rights⟩:=by unfold zbG;rw[zcf.2 a,zcf.2 b];rfl
def zrI {s:Slot}{o:List Slot}{n:Int}(c:n=1\/n=2)(h:enough (zbG s o).Rights n=true):s.Page≠-1/\(zbJ o s.Page).Page≠-1/\(zbG s o).Page=(zbJ o s.Page).Page:=by unfold zbG at h ⊢;by_cases a:s.Page = -1;{rw [zbz.2 a,cond_true]at h;rw[show noSlot.Rights=0 from rfl,zsl c]at h;cases h};{rw [zcf.2 a,cond_false]at h ⊢;by_cases b:(zbJ o s.Page).Page = -1;{rw [zbz.2 b,cond_true]at h;rw[show noSlot.Rights=0 from rfl,zsl c]at h;cases h};{rw [zcf.2 b,cond_false]at h ⊢;by_cases d:zfd s.Rights (zbJ o s.Page).Rights=0;{rw [zbz.2 d,cond_true]at h;rw[show noSlot.Rights=0 from rfl,zsl c]at h;cases h};{rw [zcf.2 d];exact⟨a,b,rfl⟩}}}
def zUl {s:Slot}{o:List Slot}{n:Int}(e:n=1\/n=2)(a:s.Page≠-1)(b:(zbJ o s.Page).Page≠-1)(c:enough s.Rights n=true)(d:enough (zbJ o s.Page).Rights n=true) :
 (zbG s o).Page=(zbJ o s.Page).Page/\enough (zbG s o).Rights n=true:=by
 have:=zXJ e c d;rw[z0q a b,zcf.2 this.1];exact⟨rfl,this.2⟩
def z0r (s:Slot)(o:List Slot):zep (zbG s o).Rights=true:=by unfold zbG;cases ieq s.Page (-1)<;>cases ieq (zbJ o s.Page).Page (-1)<;>cases ieq (zfd s.Rights (zbJ o s.Page).Rights) 0<;>first|rfl|exact both_ok _ _
def zz2 {b:List Entry}{t p:Int}{e:Entry}:e∈zde b t p↔e∈b/\¬ (e.Tag=t/\e.Page=p):=by unfold zde;rw[kV];refine and_congr Iff.rfl ?_;unfold ztn;by_cases h:e.Tag=t;{rw [show ine e.Tag t=false by simp[ine,h],cond_false,zET];simp[h]};{rw [zET.2 h];simp[h]}
def z6V {b:List Entry}{e x:Entry}(h:x∈zqq b e):x∈b\/x=e:=by unfold zqq ap at h;have:x∈zde b e.Tag e.Page++[e]:=(by cases a:igt (ln<|zde b e.Tag e.Page++[e]) 6 with|true=>rw[a,cond_true]at h;exact kM h|false=>rw[a,cond_false]at h;exact h);rcases jN.1 this with h|h;{exact .inl (zz2.1 h).1};{exact .inr (qF.1 h)}
def zbcS {n:Nat}(h:n<=100):wsub .i64 (n:Int) 6=(n:Int)-6:=by unfold wsub IntKind.wrap;simp[IntKind.signed,IntKind.bits];omega
def zZh {b:List Entry}(h:zgT b=true)(e:Entry):zgT (zqq b e)=true:=by have c:=zEC.1 h;have k:(zde b e.Tag e.Page).length<=6:=qU (uB _ _) c.2;have d:(zde b e.Tag e.Page++[e]).Pairwise (λy x=>sameKey x y=false):=(by rw[List.pairwise_append];refine⟨c.1.sublist List.filter_sublist,List.pairwise_singleton _ _,λx i y j=>?_⟩;rw[qF.1 j];have:=(zz2.1 i).2;unfold sameKey;by_cases a:e.Tag=x.Tag;{rw [zbz.2 a,cond_true,zcf];exact λf=>this ⟨a.symm,f.symm⟩};{rw [zcf.2 a];rfl});unfold zqq ap;cases g:igt (ln<|zde b e.Tag e.Page++[e]) 6 with|true=>rw[cond_true,zEC];refine⟨d.sublist<|List.drop_sublist _ _,?_⟩;unfold dp ln;rw[kC,uA,zbcS (by omega),vL,kC,uA];omega|false=>rw[cond_false,zEC];refine⟨d,?_⟩;have:=qX g;unfold ln at this;omega
def z3U {h r:Host}{m:Int}(c:hasB m (ln h.Mons)=true){y:Mon}(b:r.Mons=up h.Mons m y)(a:r.Memory=h.Memory)(k:KeepP (ix h.Mons m mZ) y)(g:y.Guests=(ix h.Mons m mZ).Guests)(o:y.Outs=(ix h.Mons m mZ).Outs)(p:y.Pending=(ix h.Mons m mZ).Pending)(t:y.Traps=(ix h.Mons m mZ).Traps)(w:y.Own=(ix h.Mons m mZ).Own):Like h r:=by have e:∀{d:Type} (F:Mon->d),F y=F (ix h.Mons m mZ)->∀i,hasB i (ln h.Mons)=true->F (ix r.Mons i mZ)=F (ix h.Mons i mZ):=(by intro d F f i j;rw[b];by_cases e:m=i;{subst e;rw[zbm c];exact f};{rw [zbA (zG.1 c).1 (zG.1 j).1 e]});exact⟨by rw[b,zb4],e Mon.Guests g,e Mon.Outs o,e Mon.Pending p,e Mon.Traps t,e Mon.Own w,λi q _ _=>zMT c b a k i q⟩
def z6Y {h:Host}(R:Rt h){m g:Int}(d:hasB m (ln h.Mons)=true)(r:hasB g (ln (ix h.Mons m mZ).Tables)=true){k:Kept}(u:KOk k (ix (ix h.Mons m mZ).Guests g gZ).Live (ix h.Mons m mZ).Outer) :
 Rt {h with Mons:=up h.Mons m {ix h.Mons m mZ with Tables:=up (ix h.Mons m mZ).Tables g k}}:=by
 have f:∀e,zdz h e=true->zdz {h with Mons:=up h.Mons m {ix h.Mons m mZ with Tables:=up (ix h.Mons m mZ).Tables g k}} e=true:=by intro e b;obtain⟨l,n,p⟩:=zhc.1 b;rw[zhc];show hasB (zeA e.Tag) (ln<|up h.Mons m _)=true/\hasB (zfr e.Tag) (ln (ix (up h.Mons m _) (zeA e.Tag) mZ).Guests)=true/\below' _ (zbG (zbJ (ix (ix (up h.Mons m _) (zeA e.Tag) mZ).Guests (zfr e.Tag) gZ).Live e.Page) (ix (up h.Mons m _) (zeA e.Tag) mZ).Outer)=true;rw[zd4];refine⟨l,?_⟩;by_cases a:m=zeA e.Tag;{rw [<- a]at l n p ⊢;rw[zbm d];exact⟨n,p⟩};{rw [zbA (zG.1 d).1 (zG.1 l).1 a];exact⟨n,p⟩}
 refine⟨λi s=>?_,λe b=>f e (R.e1 e b),λe b=>f e (R.e2 e b)⟩
 show TOk (ix (up h.Mons m _) i mZ)
 have c:hasB i (ln h.Mons)=true:=by have:hasB i (ln<|up h.Mons m {ix h.Mons m mZ with Tables:=up (ix h.Mons m mZ).Tables g k})=true:=s;rwa [zd4] at this
 by_cases a:m=i
 .subst a;rw[zbm d];intro j q
  by_cases e:g=j
  .subst e
   show KOk (ix (up _ g k) g kZ) _ _
   rw[zbm r];exact u
  .show KOk (ix (up _ g k) j kZ) _ _
   rw[zbA (zG.1 r).1 (zG.1 q).1 e];exact R.t m d j q
 .rw [zbA (zG.1 d).1 (zG.1 c).1 a];exact R.t i c
def z6K {h:Host}(H:HOk h){m g:Int}(a:hasB m (ln h.Mons)=true)(c:hasB g (ln (ix h.Mons m mZ).Tables)=true){k:Kept}(b:Rt h->KOk k (ix (ix h.Mons m mZ).Guests g gZ).Live (ix h.Mons m mZ).Outer) :
 Op h {h with Mons:=up h.Mons m {ix h.Mons m mZ with Tables:=up (ix h.Mons m mZ).Tables g k}}:=by
 have X:=H.mon a;have kp:KeepP (ix h.Mons m mZ) {ix h.Mons m mZ with Tables:=up (ix h.Mons m mZ).Tables g k}:=⟨rfl,rfl⟩;exact⟨zUR H a kp (zm2 X kp rfl (zb4 _ _ _) rfl X.outs X.pend X.tr X.own X.gs),z3U (y:={ix h.Mons m mZ with Tables:=up (ix h.Mons m mZ).Tables g k}) a rfl rfl kp rfl rfl rfl rfl rfl,λR=>z6Y R a c (b R)⟩
def zMj {k:Kept}{a b:List Slot}(h:KOk k a b)(p:Int):KOk (filled k a b p) a b:=by unfold filled zd9;cases d:hasB p (ln k.Known) with|false=>exact h|true=>have f:hasB p (ln k.Slots)=true:=(by unfold ln at d ⊢;rw[h.l2,<- h.l1];exact d);have g:hasB p (ln a)=true:=(by unfold ln at d ⊢;rw[<- h.l1];exact d);rw[cond_true,f,cond_true,g,cond_true];refine⟨by rw[zb4];exact h.l1,by rw[zb4];exact h.l2,λi c=>?_⟩;by_cases e:p=i;{subst e;show ix (up _ p _) p sZ=bif ix (up _ p true) p false then _ else _;rw[zbm f,zbm d];rfl};{show ix (up _ p _) i sZ=bif ix (up _ p true) i false then _ else _;rw[zbA (zG.1 f).1 (zG.1 c).1 e,zbA (zG.1 f).1 (zG.1 c).1 e];exact h.at' i c}
def zbaK {h:Host}(H:HOk h){m g:Int}(b:hasB m (ln h.Mons)=true)(hg:hasB g (ln (ix h.Mons m mZ).Guests)=true)(a:Int):Op h (zcX h m g a):=
 z6K H b (by unfold ln;rw[(H.mon b).gt];exact hg) λR=>zMj (R.t m b g hg) a
def z2D {k:Kept}{a b:List Slot}(h:KOk k a b){p:Int}(c:hasB p (ln a)=true):zeN k p=bif ix k.Known p false then zbG (ix a p sZ) b else noSlot:=by have d:hasB p (ln k.Known)=true:=(by unfold ln at c ⊢;rw[h.l1];exact c);have e:hasB p (ln k.Slots)=true:=(by unfold ln at c ⊢;rw[h.l2];exact c);unfold zeN zl5 zd9;rw[d,e,cond_true,cond_true,h.at' p c];cases ix k.Known p false<;>rfl
def z0g {k:Kept}{a b:List Slot}(h:KOk k a b){p:Int}(c:hasB p (ln a)=true):zeN (filled k a b p) p=zbG (ix a p sZ) b:=by rw[z2D (zMj h p) c];have d:hasB p (ln k.Known)=true:=(by unfold ln at c ⊢;rw[h.l1];exact c);have e:hasB p (ln k.Slots)=true:=(by unfold ln at c ⊢;rw[h.l2];exact c);have:ix (filled k a b p).Known p false=true:=(by unfold filled zd9;rw[d,e,c];exact zbm d _ _);rw[this];rfl
def zbb0 {h:Host}(H:HOk h){m g a:Int}(i:Bool)(n:Rt h->zdz h (zTK h m g a)=true):Op h (zxc h m g a i):=by have f:∀(j k:List Entry),Like h ⟨h.Memory,h.Mons,j,k⟩:=λ_ _=>⟨rfl,λ_ _=>rfl,λ_ _=>rfl,λ_ _=>rfl,λ_ _=>rfl,λ_ _=>rfl,λ_ _ _ _=>rfl⟩;have d:∀(b:List Entry),(∀e∈b,zdz h e=true)->Rt h->∀e∈zqq b (zTK h m g a),zdz h e=true:=(by intro b l R e c;rcases z6V c with c|c;{exact l e c};{rw [c];exact n R});unfold zxc;cases i;{exact⟨⟨H.m12,H.pgs,H.n1,H.n3,zZh H.b1 _,H.b2,H.mons,H.uq⟩,f _ _,λR=>⟨R.t,λe c=>d _ R.e1 R e c,R.e2⟩⟩};{exact⟨⟨H.m12,H.pgs,H.n1,H.n3,H.b1,zZh H.b2 _,H.mons,H.uq⟩,f _ _,λR=>⟨R.t,R.e1,λe c=>d _ R.e2 R e c⟩⟩}
def z6h {b:List Entry}{t p:Int}{e:Entry}(h:zz0 b t p=some e):e∈b/\e.Tag=t/\e.Page=p:=by unfold zz0 at h;have a:=List.find?_some h;rw[zcJ,zbz,zbz]at a;exact⟨uN h,a⟩
def zjO {h:Host}{m g:Int}:zb8 h m g=true↔HOk h/\hasB m (ln h.Mons)=true/\hasB g (ln (ix h.Mons m mZ).Guests)=true:=by unfold zb8;rw[zcJ,zcJ,zi8]
structure GOk (x:Guest):Prop where
 prog:zd5 x.Prog=true
 a:zl x.A 0 99=true
 pc:zl x.Pc 0 12=true
 w:zdN x.Written 4 8=true
 l:zdN x.Live 4 8=true
 ctl:znG x.Ctl=true
 pend:zef x.Pending=true
 ex:zj1 x.Exit=true
 seen:ile (ln x.Seen) 40=true
def zuU {x:Guest}:zeu x=true↔GOk x:=by unfold zeu;simp only[qE];exact⟨λ⟨a,b,c,d,e,f,g,h,i⟩=>⟨a,b,c,d,e,f,g,h,i⟩,λ⟨a,b,c,d,e,f,g,h,i⟩=>⟨a,b,c,d,e,f,g,h,i⟩⟩
def z4Q {s:Slot}:zeO s 8=true↔s=noSlot\/(0<=s.Page/\s.Page<=7/\1<=s.Rights/\s.Rights<=3):=by unfold zeO;rw[zvg,zol,zpW];have:wsub .i64 8 1=7:=(by decide);simp only[this,zvg,zdo];simp[igt];constructor;{rintro (h|⟨h,⟨a,b⟩,c⟩);{exact .inl h};{exact .inr ⟨a,b,c⟩}};{intro h;by_cases d:s=noSlot;{exact .inl d};{rcases h with h|⟨a,b,c⟩;{exact .inl h};{exact .inr ⟨d,⟨a,b⟩,c⟩}}}
def HOk.guest {h:Host}(H:HOk h){m g:Int}(a:hasB m (ln h.Mons)=true)(hg:hasB g (ln (ix h.Mons m mZ).Guests)=true):GOk (ix (ix h.Mons m mZ).Guests g gZ):=zuU.1 ((H.mon a).gs _ (znN hg _))
structure Walked (l:List Slot) (p n q:Int):Prop where
 hp:hasB p (ln l)=true
 pg:(ix l p sZ).Page=q
 q8:hasB q 8=true
 en:enough (ix l p sZ).Rights n=true
def walked {x:Guest}(X:GOk x){p n:Int}(a:zfs x.Live p n=true):Walked x.Live p n (zcH x.Live p n):=by have e:zcH x.Live p n=(zbJ x.Live p).Page:=(by unfold zcH;rw[a];rfl);unfold zfs at a;by_cases b:(zbJ x.Live p).Page = -1;{rw [zbz.2 b]at a;cases a};{rw [zcf.2 b,cond_false,zcJ]at a;have c:hasB p (ln x.Live)=true:=(by cases c:hasB p (ln x.Live) with|true=>rfl|false=>exact absurd (by unfold zbJ;rw[c];rfl) b);rw[zpV c] at e b a;rw[e];have d:=z4Q.1 ((zsY.1 X.l).1 _ (znN c sZ));refine⟨c,rfl,?_,a.1⟩;rcases d with d|d;{rw [d]at b;exact absurd rfl b};{exact zG.2 (by omega)}}
structure Looked (h r:Host) (m g page need q host:Int):Prop where
 op:Op h r
 inn:(ix (ix r.Mons m mZ).Outer q sZ).Page=host
 ne:host≠-1
 en:enough (zbG (ix (ix (ix h.Mons m mZ).Guests g gZ).Live page sZ) (ix r.Mons m mZ).Outer).Rights need=true
 cp:(zbG (ix (ix (ix h.Mons m mZ).Guests g gZ).Live page sZ) (ix r.Mons m mZ).Outer).Page=host
 dk:∀k,hasB k 8=true->k≠q->ix (ix r.Mons m mZ).Dirty k false=ix (ix h.Mons m mZ).Dirty k false
 dq:need=2->ix (ix r.Mons m mZ).Dirty q false=true
 d1:need=1->(ix r.Mons m mZ).Dirty=(ix h.Mons m mZ).Dirty
 dm:∀i,hasB i (ln h.Mons)=true->i≠m->(ix r.Mons i mZ).Dirty=(ix h.Mons i mZ).Dirty
def zRq {h:Host}(S:Safe h){m g a b q:Int}(f:hasB m (ln h.Mons)=true)(hg:hasB g (ln (ix h.Mons m mZ).Guests)=true)(l:b=1\/b=2)(W:Walked (ix (ix h.Mons m mZ).Guests g gZ).Live a b q)(c:Bool)(d:zeN (zcp h m g) a=zbG (ix (ix (ix h.Mons m mZ).Guests g gZ).Live a sZ) (ix h.Mons m mZ).Outer)(i:enough (zeN (zcp h m g) a).Rights b=true) :
 Op h (zfE h m g a c).1/\(zfE h m g a c).2=((ix (ix h.Mons m mZ).Outer q sZ).Page,true)/\(ix (ix h.Mons m mZ).Outer q sZ).Page≠-1/\(zfE h m g a c).1.Mons=h.Mons:=by
 rw[d]at i;have e:=zrI l i;rw[W.pg,zpV<|(S.ok.mon f).hasO W.q8]at e;refine⟨zbb0 S.ok c λR=>?_,?_,e.2.1,?_⟩
 .obtain⟨t1,t2⟩:=S.ok.tag f hg;obtain⟨j,k,_⟩:=zW3 t1 t2;rw[zhc]
  show hasB (zeA<|zeU m g) _=true/\hasB (zfr<|zeU m g) (ln (ix h.Mons (zeA<|zeU m g) mZ).Guests)=true/\below' ⟨(zeN (zcp h m g) a).Page,(zeN (zcp h m g) a).Rights⟩ (zbG (zbJ (ix (ix h.Mons (zeA<|zeU m g) mZ).Guests (zfr<|zeU m g) gZ).Live a) (ix h.Mons (zeA<|zeU m g) mZ).Outer)=true
  rw[j,k,zpV W.hp,d];exact⟨f,hg,zs4.2<|.inr ⟨rfl,zXQ<|z0r _ _⟩⟩
 .show ((zeN (zcp h m g) a).Page,true)=_
  rw[d,e.2.2]
 .show (zxc h m g a c).Mons=_
  unfold zxc;cases c<;>rfl
def zVU {h:Host}(S:Safe h){m g page need q:Int}(x:hasB m (ln h.Mons)=true)(hg:hasB g (ln (ix h.Mons m mZ).Guests)=true)(D:need=1\/need=2)(W:Walked (ix (ix h.Mons m mZ).Guests g gZ).Live page need q)(N:Bool){b:List Entry}(hb:∀e∈b,zdz h e=true)(hd:need=2->ix (ix h.Mons m mZ).Dirty q false=true) :
 Looked h (zhH h b m g page need q N).1 m g page need q (zhH h b m g page need q N).2.1/\(zhH h b m g page need q N).2.2=true:=by
 have X:=S.ok.mon x;have r:=W.q8;have L:=zpV (X.hasO W.q8);unfold zhH;cases K:zjN b m g page need with
 |true=>
  rw[cond_true];unfold zjN at K;cases B:ztb b m g page with
  |none=>rw[B]at K;cases K
  |some e=>rw[B]at K;have A:enough e.Rights need=true:=K;obtain⟨f1,f2,f3⟩:=z6h B;obtain⟨t1,t2⟩:=S.ok.tag x hg;obtain⟨b1,b2,_⟩:=zW3 t1 t2;obtain⟨_,_,v⟩:=zhc.1 (hb e f1);rw[f2,b1,b2,f3,zpV W.hp]at v;have T:(⟨e.Host,e.Rights⟩:Slot)≠noSlot:=λf=>(by have:e.Rights=0:=congrArg Slot.Rights f;rw[this,zsl D]at A;cases A);rcases zs4.1 v with v|⟨v,h4⟩;{exact absurd v T};{have h5:=zUF h4 A;have f:=zrI D h5;rw[W.pg,L]at f;have O:e.Host=_:=v;refine⟨⟨Op.refl S.ok,f.2.2.symm.trans v.symm,?_,h5,v.symm,λ_ _ _=>rfl,hd,λ_=>rfl,λ_ _ _=>rfl⟩,rfl⟩;show e.Host≠-1;rw[O,f.2.2];exact f.2.1}
 |false=>
  rw[cond_false];have P:=S.rt.t m x g hg;cases y:zfq h m g page need with
  |false=>rw[cond_false];have E:ix (zcp h m g).Known page false=true/\enough (zeN (zcp h m g) page).Rights need=true:=(by unfold zfq at y;cases n:zl5 (zcp h m g) page with|false=>rw[n]at y;cases y|true=>rw[n,cond_true]at y;refine⟨?_,?_⟩;{unfold zl5 at n;cases hh:zd9 (zcp h m g) page with|false=>rw[hh]at n;cases n|true=>rw[hh]at n;exact n};{cases hz:ieq (zeN (zcp h m g) page).Page (-1) with|true=>rw[hz]at y;cases y|false=>rw[hz]at y;simpa using y});have H:zeN (zcp h m g) page=zbG (ix (ix (ix h.Mons m mZ).Guests g gZ).Live page sZ) (ix h.Mons m mZ).Outer:=(by have Z:=z2D P W.hp;have h1:ix (ix (ix h.Mons m mZ).Tables g kZ).Known page false=true:=E.1;rw[h1]at Z;exact Z);obtain⟨U,V,Y,d⟩:=zRq S x hg D W N H E.2;rw[V];have J:=E.2;rw[H]at J;have f:=zrI D J;rw[W.pg,L]at f;exact⟨⟨U,by rw[d],Y,by rw[d];exact J,by rw[d];exact f.2.2,λ_ _ _=>by rw[d],λe=>by rw[d];exact hd e,λ_=>by rw[d],λ_ _ _=>by rw[d]⟩,rfl⟩
  |true=>
   rw[cond_true];have M:=zDU S.ok (m:=m) (p:=q) need x r;have c:hasB m (ln (mended h m q need).Mons)=true:=(by rw[M.op.like.has];exact x);have C:(ix (mended h m q need).Mons m mZ).Guests=(ix h.Mons m mZ).Guests:=M.op.like.g m x;have l:hasB g (ln (ix (mended h m q need).Mons m mZ).Guests)=true:=(by rw[C];exact hg);have G:Safe (mended h m q need):=M.op.safe S;have F:=zbaK G.ok c l page;have S2:Safe (zcX (mended h m q need) m g page):=F.safe G;have R:hasB m (ln (zcX (mended h m q need) m g page).Mons)=true:=(by rw[F.like.has];exact c);have u:ix (zcX (mended h m q need) m g page).Mons m mZ={ix (mended h m q need).Mons m mZ with Tables:=up (ix (mended h m q need).Mons m mZ).Tables g (filled (zcp (mended h m q need) m g) (zcS (mended h m q need) m g) (ix (mended h m q need).Mons m mZ).Outer page)}:=zbm c _ _;have Q:hasB g (ln (ix (zcX (mended h m q need) m g page).Mons m mZ).Guests)=true:=(by rw[u];exact l);have w:(ix (zcX (mended h m q need) m g page).Mons m mZ).Guests=(ix h.Mons m mZ).Guests:=(by rw[u];exact C);have W2:Walked (ix (ix (zcX (mended h m q need) m g page).Mons m mZ).Guests g gZ).Live page need q:=(by rw[w];exact W);have H:zeN (zcp (zcX (mended h m q need) m g page) m g) page=zbG (ix (ix (ix (zcX (mended h m q need) m g page).Mons m mZ).Guests g gZ).Live page sZ) (ix (zcX (mended h m q need) m g page).Mons m mZ).Outer:=(by have:zcp (zcX (mended h m q need) m g page) m g=filled (zcp (mended h m q need) m g) (zcS (mended h m q need) m g) (ix (mended h m q need).Mons m mZ).Outer page:=(by unfold zcp;rw[u];exact zbm (by unfold ln;rw[(G.ok.mon c).gt];exact l) _ _);rw[this];refine(z0g (p:=page) (G.rt.t m c g l) (by rw[C];exact W.hp)).trans ?_;rw[u]);have z:(ix (zcX (mended h m q need) m g page).Mons m mZ).Outer=(ix (mended h m q need).Mons m mZ).Outer:=by rw[u]
   have j:=zpV ((G.ok.mon c).hasO r);have a:=zUl (s:=ix (ix (ix h.Mons m mZ).Guests g gZ).Live page sZ) (o:=(ix (mended h m q need).Mons m mZ).Outer) D (by rw[W.pg];have:=zG.1 r;omega) (by rw[W.pg,j];exact M.inn) W.en (by
    rw[W.pg,j];rcases D with rfl|rfl
    .rcases (G.ok.mon c).enough1 r M.inn with e|e<;>rw [e]<;>decide
    .rw [M.ri (by decide)];decide)
   have J:enough (zeN (zcp (zcX (mended h m q need) m g page) m g) page).Rights need=true:=(by rw[H,w,z];exact a.2);obtain⟨U,V,Y,d⟩:=zRq S2 R Q D W2 N H J;rw[V];have I:=a.1;rw[W.pg,j]at I;refine⟨⟨(M.op.trans F).trans U,by rw[d],Y,by rw[d,z];exact a.2,by rw[d,z];exact I,λk n f=>?_,λe=>?_,λe=>?_,λi hi f=>?_⟩,rfl⟩;{rw [d,u];exact M.dk k n f};{rw [d,u];exact M.dt (by rw[e];decide)};{rw [d,u];exact M.d0 (by rw[e];decide)};{rw [d];show (ix (up (mended h m q need).Mons m _) i mZ).Dirty=_;rw[zbA (zG.1 x).1 (zG.1 hi).1<|Ne.symm f];exact M.dm i hi f}
def zHd {n:Int}:zhl n=true↔n=1\/n=2:=by unfold zhl;by_cases h:n=1;{rw [zbz.2 h];simp[h]};{rw [zcf.2 h,cond_false,zbz];simp[h]}
def zoF {h:Host}{m g page need:Int}:zbY h m g page need=true↔zb8 h m g=true/\(need=1\/need=2)/\zfs (zcS h m g) page need=true:=by unfold zbY;rw[zcJ,zcJ,zHd]
def zw0 {h:Host}(S:Safe h){m g page need:Int}(j:Bool)(t:zbY h m g page need=true){b:List Entry}(r:∀e∈b,zdz h e=true) :
 Looked h (lookOf h b m g page need j).1 m g page need (zcH (zcS h m g) page need) (lookOf h b m g page need j).2.1/\(lookOf h b m g page need j).2.2=true:=by
 obtain⟨w,A,B⟩:=zoF.1 t;obtain⟨_,a,hg⟩:=zjO.1 w;have W:=walked (S.ok.guest a hg) B;unfold lookOf;rw[t,cond_true];rcases A with rfl|rfl
 .rw [show ieq 1 2=false by decide,cond_false]
  exact zVU S a hg (.inl rfl) W j r (λe=>absurd e (by decide))
 .rw [show ieq 2 2=true by decide,cond_true]
  obtain⟨d,C⟩:=zMP S.ok a (zcH (zcS h m g) page 2);have p:hasB m (ln (zbN h m<|zcH (zcS h m g) page 2).Mons)=true:=by rw[d.like.has];exact a
  have f:ix (zbN h m<|zcH (zcS h m g) page 2).Mons m mZ={ix h.Mons m mZ with Dirty:=up (ix h.Mons m mZ).Dirty (zcH (zcS h m g) page 2) true}:=zbm a _ _;have x:=(S.ok.mon a).hasD W.q8;obtain⟨L,y⟩:=zVU (d.safe S) p (g:=g) (page:=page) (need:=2) (q:=zcH (zcS h m g) page 2) (by rw[f];exact hg) (.inr rfl) (by rw[f];exact W) j (b:=b) (λe z=>by
   obtain⟨l,u,v⟩:=zhc.1 (r e z);rw[zhc];have n:hasB (zeA e.Tag) (ln (zbN h m<|zcH (zcS h m g) page 2).Mons)=true:=by rw[d.like.has];exact l
   refine⟨n,by rw[d.like.g _ l];exact u,?_⟩
   rw[d.like.g _ l];have:(ix (zbN h m<|zcH (zcS h m g) page 2).Mons (zeA e.Tag) mZ).Outer=(ix h.Mons (zeA e.Tag) mZ).Outer:=by show (ix (up h.Mons m _) _ mZ).Outer=_;by_cases c:m=zeA e.Tag;{rw [<- c,zbm a]};{rw [zbA (zG.1 a).1 (zG.1 l).1 c]}
   rw[this];exact v) (λ_=>by rw[f];exact zbm x _ _)
  refine⟨⟨d.trans L.op,L.inn,L.ne,?_,?_,λk s c=>?_,L.dq,λe=>absurd e (by decide),λi n c=>?_⟩,y⟩
  .have:=L.en;rw[f] at this;exact this
  .have:=L.cp;rw[f] at this;exact this
  .rw [L.dk k s c,f];exact zbA (zG.1 W.q8).1 (zG.1 s).1 (Ne.symm c) _ _
  .rw [L.dm i (by rw[d.like.has];exact n) c]
   show (ix (up h.Mons m _) i mZ).Dirty=_
   rw[zbA (zG.1 a).1 (zG.1 n).1<|Ne.symm c]
def zQs {x y:Int}(a : -9223372036854775808<=x+y)(b:x+y<=9223372036854775807):zQ .i64 x y=x+y:=by unfold zQ;simp only[IntKind.wrap,IntKind.signed,IntKind.bits];simp;omega
def zK4 {n:Nat}{P:Int->Prop}(h:∀i:Fin n,P ((i.val:Nat):Int)){x:Int}(a:0<=x)(b:x<n):P x:=by have:=h ⟨x.toNat,by omega⟩;simpa [show ((x.toNat:Nat):Int)=x by omega] using this
def zWn {p:Int}:zef p=true↔0<=p/\p<=255:=by unfold zef;exact zdo
def zRD {p:Int}(h:zef p=true):zef (zhv p)=true:=by have a:=zWn.1 h;exact zK4 (n:=256) (P:=λx=>zef (zhv x)=true) (by decide +kernel) a.1 (by omega)
def zRC {p:Int}(h:zef p=true)(n:Int):zef (zqp p n)=true:=by unfold zqp zh8;rw[h,cond_true];cases e:zl n 0 7 with|false=>exact h|true=>rw[cond_true];have b:=zWn.1 h;have a:=zdo.1 e;exact zK4 (n:=256) (P:=λx=>∀k,0<=k->k<(8:Int)->zef (wor .i64 x<|zmx .i64 1 k)=true) (λi k c d=>zK4 (n:=8) (P:=λk=>zef (wor .i64 ((i.val:Nat):Int)<|zmx .i64 1 k)=true) (by revert i;decide +kernel) c d) b.1 (by omega) n a.1 (by omega)
structure GKeep (x y:Guest):Prop where
 ok:GOk y
 live:y.Live=x.Live
def z00 {x:Guest}(X:GOk x){c:Int}(b:zl c 0 12=true):GOk {x with Pc:=c}:=⟨X.prog,X.a,b,X.w,X.l,X.ctl,X.pend,X.ex,X.seen⟩
def z0Z {x:Guest}(X:GOk x){c:Int}(a:zl c 0 99=true):GOk {x with A:=c}:=⟨X.prog,a,X.pc,X.w,X.l,X.ctl,X.pend,X.ex,X.seen⟩
def zlB {x:Guest}(X:GOk x):GKeep x (zci x):=by unfold zci;have a:=zdo.1 X.pc;cases h:ige x.Pc 12 with|true=>exact⟨z00 X (by decide),rfl⟩|false=>have:¬ x.Pc≥12:=qX h;refine⟨z00 X ?_,rfl⟩;rw[zQs (by omega) (by omega)];exact zdo.2 (by omega)
def zUM {x:Guest}(X:GOk x)(n:Int):GKeep x (saw x n):=by unfold saw;cases h:ilt (ln x.Seen) 40 with|false=>exact⟨X,rfl⟩|true=>have:ln x.Seen<40:=qD h;refine⟨⟨X.prog,X.a,X.pc,X.w,X.l,X.ctl,X.pend,X.ex,qJ ?_⟩,rfl⟩;unfold ln ap at *;simp;omega
def zlC {x:Guest}(X:GOk x){e:GExit}(b:zj1 e=true):GKeep x (stopped x e):=⟨⟨X.prog,X.a,X.pc,X.w,X.l,X.ctl,X.pend,b,X.seen⟩,rfl⟩
def zZw {x:Guest}(X:GOk x){p:Int}(b:zef p=true):GKeep x {x with Pending:=p}:=⟨⟨X.prog,X.a,X.pc,X.w,X.l,X.ctl,b,X.ex,X.seen⟩,rfl⟩
def zZt {x:Guest}(X:GOk x)(b:Bool):GKeep x {x with Halted:=b}:=⟨⟨X.prog,X.a,X.pc,X.w,X.l,X.ctl,X.pend,X.ex,X.seen⟩,rfl⟩
def zZu {x:Guest}(X:GOk x):GKeep x (held x):=⟨(zlB (zZt X true).ok).ok,(zlB (zZt X true).ok).live⟩
def z3A {x:Guest}(X:GOk x){v:Int}(c:zl v 0 99=true):GKeep x (loaded x v):=by have a:=zUM (z0Z X c) v;have b:=zlB a.ok;exact⟨b.ok,b.live.trans a.live⟩
def zNU {x:Guest}(X:GOk x):GKeep x (interrupted x):=by unfold interrupted;cases zkD x with|false=>exact⟨X,rfl⟩|true=>have a:=zZw X (zRD X.pend);rw[cond_true];exact⟨(zUM a.ok _).ok,(zUM a.ok _).live⟩
def zJx {p:List Ins}(h:zd5 p=true)(i:Int):zfh (zcL p i)=true:=by unfold zcL;cases a:hasB i (ln p) with|false=>rfl|true=>unfold zd5 at h;rw[zcJ,qM]at h;exact h.1 _ (znN a _)
def zbbR {i:Ins}(h:zfh i=true)(a:i.Op=3\/i.Op=4):0<=i.X/\i.X<=15:=by unfold zfh at h;rcases a with e|e<;>rw [e]at h<;>exact zdo.1 h
def z3H {i:Ins}(h:zfh i=true)(a:i.Op=5\/i.Op=6):0<=i.X/\i.X<=99:=by unfold zfh at h;rcases a with e|e<;>rw [e]at h<;>exact zdo.1 h
def zbcB {i:Ins}(h:zfh i=true)(a:i.Op=8):0<=i.X/\i.X<=11:=by unfold zfh at h;rw[a]at h;exact zdo.1 h
def zbcA {i:Ins}(h:zfh i=true)(a:i.Op=1):0<=i.X/\i.X<=99:=by unfold zfh at h;rw[a]at h;exact zdo.1 h
def z01 {x:Guest}(X:GOk x):GKeep x (plainly x):=by have M:=zlB X;have b:=zJx X.prog x.Pc;unfold plainly;cases ine (zL x) 2 with|true=>exact⟨X,rfl⟩|false=>rw[cond_false];(cases zl x.A 0 99 with|false=>exact M|true=>rw[cond_true];(cases zl (zcL x.Prog x.Pc).X 0 99 with|false=>exact M|true=>rw[cond_true];by_cases c:(zcL x.Prog x.Pc).Op=1;{rw [zbz.2 c,cond_true];exact⟨z0Z M.ok<|zdo.2<|zbcA b c,M.live⟩};{rw [zcf.2 c,cond_false];by_cases d:(zcL x.Prog x.Pc).Op=2;{rw [zbz.2 d,cond_true];refine⟨z0Z M.ok ?_,M.live⟩;have f:=zdo.1 X.a;have i:0<=(zcL x.Prog x.Pc).X/\(zcL x.Prog x.Pc).X<=99:=(by unfold zfh at b;rw[d]at b;exact zdo.1 b);rw[zdo];unfold zru;rw[zQs (by omega) (by omega)];have g:=Int.tmod_nonneg (a:=x.A+(zcL x.Prog x.Pc).X) 100 (by omega);have h:=Int.tmod_lt_of_pos (x.A+(zcL x.Prog x.Pc).X) (show (0:Int)<100 by omega);omega};{rw [zcf.2 d,cond_false];by_cases e:(zcL x.Prog x.Pc).Op=8;{rw [zbz.2 e,cond_true];cases ieq x.A 0 with|true=>have:=zbcB b e;exact⟨z00 M.ok<|zdo.2 (by omega),M.live⟩|false=>exact M};{rw [zcf.2 e];exact M}}}))
def zuy {c:LI}:zc2 c=true↔(∀x∈c,zl x 0 99=true)/\ln c=4:=by unfold zc2;rw[zcJ,qM,zbz]
def zoJ (h:Host)(m:Int):∀(n i:Nat),(zc4 h m n i).length=n
 | 0,_=>rfl
 |n+1,i=>by rw[zc4,jB,zoJ h m n]
def zMV (h:Host)(m:Int):∀(n i k:Nat) (a:k<(zc4 h m n i).length),(zc4 h m n i)[k]=zdf h m ((i+k:Nat):Int)
 | 0,i,k,a=>by simp[zc4]at a
 |n+1,i,k,a=>by cases k with|zero=>rfl|succ k=>have:=zMV h m n (i+1) k (by simpa [zc4] using a);simp only[zc4,List.getElem_cons_succ];rw[this];congr 1;omega
def zrV {h:Host}{m q:Int}(b:hasB q 8=true)(d:LI):ix (zc4 h m 8 0) q d=zdf h m q:=by have c:=zG.1 b;have a:q.toNat<(zc4 h m 8 0).length:=(by rw[zoJ];omega);have:=zl4 a d;rw[show ((q.toNat:Nat):Int)=q by omega] at this;rw[this,zMV];congr 1;omega
def zvL (h:Host)(m:Int):ln (zc4 h m 8 0)=8:=by unfold ln;rw[zoJ];rfl
def zAw {h:Host}(H:HOk h){m p:Int}(b:hasB m (ln h.Mons)=true)(a:hasB p 8=true):zc2 (zdf h m p)=true:=by have X:=H.mon b;rw[<- zm8 H b a];by_cases e:(ix (ix h.Mons m mZ).Outer p sZ).Page = -1;{rw [zbz.2 e];exact((zrM<|X.slot a).1 (X.fit p a)).1 e};{rw [zcf.2 e];exact zRA H.pgs _}
def zzr {h:Host}(H:HOk h){m:Int}(b:hasB m (ln h.Mons)=true):zbZ (zC h m)=true:=by have X:=H.mon b;unfold zC;rw[b,cond_true];unfold zbZ zj5;rw[zcJ,qM];refine⟨X.gs,?_⟩;simp only[qE,zcJ,qM,zbz,zdo];refine⟨⟨λc d=>?_,zvL h m⟩,⟨?_,?_⟩,?_,X.pend⟩;{obtain⟨i,a,rfl⟩:=zVY d [];rw[zvL]at a;rw[zrV a];exact zAw H b a};{unfold ln;have:=X.g1;omega};{unfold ln;have:=X.g2;omega};{unfold ile ln;have:=X.outs;exact qJ (by omega)}
structure SimT (h r:Host) (m:Int) (f:Bare->Bare):Prop where
 safe:Safe r
 seen:∀i,zC r i=bif ieq i m then f (zC h i) else zC h i
 len:r.Mons.length=h.Mons.length
def SimT.trans {a b c:Host}{m:Int}{f g:Bare->Bare}(x:SimT a b m f)(y:SimT b c m g):SimT a c m (λt=>g (f t)):=by refine⟨y.safe,λi=>?_,y.len.trans x.len⟩;rw[y.seen i,x.seen i];cases ieq i m<;>rfl
def Op.sim {h r:Host}(k:Op h r)(S:Safe h)(m:Int):SimT h r m id:=⟨k.safe S,λi=>by rw[k.like.seen i];cases ieq i m<;>rfl,k.like.len⟩
def SimT.congr {h r:Host}{m:Int}{f g:Bare->Bare}(x:SimT h r m f)(e:f (zC h m)=g (zC h m)):SimT h r m g:=by refine⟨x.safe,λi=>?_,x.len⟩;rw[x.seen i];by_cases a:i=m;{subst a;rw[zbz.2 rfl,cond_true,cond_true,e]};{rw [zcf.2 a];rfl}
def SimT.has {h r:Host}{m:Int}{f:Bare->Bare}(x:SimT h r m f)(i:Int):hasB i (ln r.Mons)=hasB i (ln h.Mons):=by unfold ln;rw[x.len]
def SimT.refl {h:Host}(S:Safe h)(m:Int):SimT h h m id:=⟨S,λi=>by cases ieq i m<;>rfl,rfl⟩
def zxw {h:Host}(S:Safe h){m q a:Int}(l:hasB m (ln h.Mons)=true)(f:hasB q 8=true)(J:(ix (ix h.Mons m mZ).Outer q sZ).Page=a)(y:a≠-1)(c v:Int) :
 SimT h {h with Memory:=zbT h.Memory a c v} m (λb=>{b with Memory:=zbT b.Memory q c v})/\cellAt h.Memory a c=cellAt (zC h m).Memory q c:=by
 have H:=S.ok;have X:=H.mon l;have N:=X.slot f;have E:=hasM H N (by rw[J];exact y)
 rw[J]at E;have z:ix h.Memory a []=zdf h m q:=by have:=zm8 H l f;rw[J,zcf.2 y,cond_false,zm6 E] at this;exact this
 have n:ln (zdf h m q)=4:=(zuy.1<|zAw H l f).2;have d:(zC h m).Memory=zc4 h m 8 0:=by unfold zC;rw[l];rfl
 have C:zhk h.Memory a c=hasB c 4:=by unfold zhk;rw[E,cond_true,z,n]
 have D:zhk (zc4 h m 8 0) q c=hasB c 4:=by unfold zhk;rw[zvL,f,cond_true,zrV f,n]
 have u:cellAt h.Memory a c=cellAt (zC h m).Memory q c:=by rw[d];unfold cellAt;rw[C,D,z,zrV f]
 refine⟨?_,u⟩;cases A:hasB c 4 with
 |false=>have s:zbT h.Memory a c v=h.Memory:=(by unfold zbT;rw[C,A];rfl);rw[s];refine(SimT.refl S m).congr ?_;show zC h m={zC h m with Memory:=zbT (zC h m).Memory q c v};rw[d];have B:zbT (zc4 h m 8 0) q c v=zc4 h m 8 0:=(by unfold zbT;rw[D,A];rfl);rw[B,<- d]
 |true=>
  cases K:zl v 0 99 with
  |false=>have s:zbT h.Memory a c v=h.Memory:=(by unfold zbT;rw[C,A,K];rfl);rw[s];refine(SimT.refl S m).congr ?_;show zC h m={zC h m with Memory:=zbT (zC h m).Memory q c v};rw[d];have B:zbT (zc4 h m 8 0) q c v=zc4 h m 8 0:=(by unfold zbT;rw[D,A,K];rfl);rw[B,<- d]
  |true=>have s:zbT h.Memory a c v=up h.Memory a (up (zdf h m q) c v):=(by unfold zbT;rw[C,A,K,z];rfl);have B:zbT (zc4 h m 8 0) q c v=up (zc4 h m 8 0) q (up (zdf h m q) c v):=(by unfold zbT;rw[D,A,K,zrV f];rfl);have G:zc2 (up (zdf h m q) c v)=true:=(by have:=zuy.1 (zAw H l f);rw[zuy,zd4];refine⟨λx O=>?_,this.2⟩;rcases qZ O with h|h;{exact this.1 x h};{rw [h];exact K});have P:=(zG.1 E).1;have L:HOk {h with Memory:=zbT h.Memory a c v}:=(by rw[s];refine⟨by show (up _ _ _).length=12;rw[zb4];exact H.m12,λx O=>?_,H.n1,H.n3,H.b1,H.b2,H.mons,H.uq⟩;rcases qZ O with h|h;{exact H.pgs x h};{rw [h];exact G});refine⟨⟨L,⟨S.rt.t,S.rt.e1,S.rt.e2⟩⟩,λi=>?_,rfl⟩;have r:∀i k,hasB i (ln h.Mons)=true->hasB k 8=true->¬ (i=m/\k=q)->zdf {h with Memory:=zbT h.Memory a c v} i k=zdf h i k:=(by intro i k w g I;rw[<- zm8 L (m:=i) (p:=k) w g,<- zm8 H w g];show (cond (ieq (ix (ix h.Mons i mZ).Outer k sZ).Page<|-1) _<|zc1 (zbT h.Memory a c v) _)=_;by_cases e:(ix (ix h.Mons i mZ).Outer k sZ).Page = -1;{rw [zbz.2 e];rfl};{rw [zcf.2 e,cond_false,cond_false,s];exact zDW P (λe=>I (H.uniq w g l f e J P))});have F:zdf {h with Memory:=zbT h.Memory a c v} m q=up (zdf h m q) c v:=(by rw[<- zm8 L (m:=m) (p:=q) l f];show (cond (ieq (ix (ix h.Mons m mZ).Outer q sZ).Page<|-1) _<|zc1 (zbT h.Memory a c v) (ix (ix h.Mons m mZ).Outer q sZ).Page)=_;rw[J,zcf.2 y,cond_false,s];exact zDV E);by_cases w:i=m;{subst w;rw[zbz.2 rfl,cond_true];unfold zC;show (cond (hasB i<|ln h.Mons) _ _)=_;rw[l,cond_true,cond_true];show Bare.mk (zc4 {h with Memory:=zbT h.Memory a c v} i 8 0) _ _ _=Bare.mk (zbT (zc4 h i 8 0) q c v) _ _ _;congr 1;rw[B];refine zuX [] (by rw[zb4,zoJ,zoJ]) λk g=>?_;rw[zvL]at g;rw[zrV g];by_cases e:q=k;{subst e;rw[zbm (by rw[zvL];exact f),F]};{rw [zbA (zG.1 f).1 (zG.1 g).1 e,zrV g];exact r i k l g (λh=>e h.2.symm)}};{rw [zcf.2 w,cond_false];unfold zC;show (cond (hasB i<|ln h.Mons) _ _)=_;cases M:hasB i (ln h.Mons) with|false=>rfl|true=>rw[cond_true,cond_true];show Bare.mk (zc4 {h with Memory:=zbT h.Memory a c v} i 8 0) _ _ _=_;rw[zsr 8 0 λj C D=>r i (j:Int) M (zG.2 (by omega)) λh=>w h.1]}
def zr7 {h:Host}(S:Safe h){m g:Int}(a:hasB m (ln h.Mons)=true)(hg:hasB g (ln (ix h.Mons m mZ).Guests)=true){y:Guest}(k:GKeep (gOf h m g) y):SimT h (zg0 h m g y) m (λb=>zeK b g y):=by have X:=S.ok.mon a;have kp:KeepP (ix h.Mons m mZ) {ix h.Mons m mZ with Guests:=up (ix h.Mons m mZ).Guests g y}:=⟨rfl,rfl⟩;refine⟨zxv S a kp (zm2 X kp (zb4 _ _ _) rfl rfl X.outs X.pend X.tr X.own λz d=>?_) (zb4 _ _ _) (λj c=>?_) rfl,λi=>?_,zb4 _ _ _⟩;{rcases qZ d with h|h;{exact X.gs z h};{rw [h];exact zuU.2 k.ok}};{show (ix (up (ix h.Mons m mZ).Guests g y) j gZ).Live=_;by_cases e:g=j;{subst e;rw[zbm hg];exact k.live};{rw [zbA (zG.1 hg).1 (zG.1 c).1 e]}};{refine(zv7 (h:=h) (r:=zg0 h m g y) a rfl rfl kp i).trans ?_;by_cases e:i=m;{subst e;rw[zbz.2 rfl,cond_true,cond_true];unfold zeK zC;rw[a];rfl};{rw [zcf.2 e];rfl}}
def zWR {h:Host}(S:Safe h){m:Int}(a:hasB m (ln h.Mons)=true){y:Mon}(kp:KeepP (ix h.Mons m mZ) y)(d:MOk y)(hg:y.Guests=(ix h.Mons m mZ).Guests)(c:y.Tables=(ix h.Mons m mZ).Tables) :
 SimT h {h with Mons:=up h.Mons m y} m (λb=>{b with Outs:=y.Outs,Pending:=y.Pending}):=by
 refine⟨zxv S a kp d (by rw[hg]) (λj _=>by rw[hg]) c,λi=>?_,zb4 _ _ _⟩
 refine(zv7 (h:=h) (r:={h with Mons:=up h.Mons m y}) a rfl rfl kp i).trans ?_
 by_cases e:i=m
 .subst e;rw[zbz.2 rfl,cond_true,cond_true];unfold zC;rw[a,hg];rfl
 .rw [zcf.2 e];rfl
def zgQ {h:Host}{m:Int}(a:hasB m (ln h.Mons)=true):zC h m=⟨zc4 h m 8 0,(ix h.Mons m mZ).Guests,(ix h.Mons m mZ).Outs,(ix h.Mons m mZ).Pending⟩:=by unfold zC;rw[a];rfl
def z4N {h:Host}(S:Safe h){m:Int}(a:hasB m (ln h.Mons)=true):SimT h (owned h m) m id:=by unfold owned;cases b:ilt (ix h.Mons m mZ).Own 1000000000 with|false=>exact SimT.refl S m|true=>rw[cond_true];have X:=S.ok.mon a;have d:=zdo.1 X.own;have c:(ix h.Mons m mZ).Own<1000000000:=qD b;have kp:KeepP (ix h.Mons m mZ) {ix h.Mons m mZ with Own:=zQ .i64 (ix h.Mons m mZ).Own 1}:=⟨rfl,rfl⟩;refine(zWR S a kp (zm2 X kp rfl rfl rfl X.outs X.pend X.tr ?_ X.gs) rfl rfl).congr ?_;{show zl (zQ .i64 (ix h.Mons m mZ).Own 1) 0 1000000000=true;rw[zQs (by omega) (by omega),zdo];omega};{rw [zgQ a];rfl}
def z2g {h:Host}(S:Safe h){m:Int}(a:hasB m (ln h.Mons)=true)(n:Int):SimT h (zhm h m n) m (λb=>zk3 b n):=by unfold zhm;have X:=S.ok.mon a;cases c:ilt (ln (ix h.Mons m mZ).Outs) 40 with|false=>refine(SimT.refl S m).congr ?_;rw[zgQ a];unfold zk3;rw[c];rfl|true=>rw[cond_true];have d:ln (ix h.Mons m mZ).Outs<40:=qD c;have kp:KeepP (ix h.Mons m mZ) {ix h.Mons m mZ with Outs:=ap (ix h.Mons m mZ).Outs [n]}:=⟨rfl,rfl⟩;refine(zWR S a kp (zm2 X kp rfl rfl rfl ?_ X.pend X.tr X.own X.gs) rfl rfl).congr ?_;{show (ap (ix h.Mons m mZ).Outs [n]).length<=40;unfold ln ap at *;simp;omega};{rw [zgQ a];unfold zk3;rw[c];rfl}
def zvr {h:Host}{m g:Int}(a:hasB m (ln h.Mons)=true)(hg:hasB g (ln (ix h.Mons m mZ).Guests)=true):gAt (zC h m) g=gOf h m g:=by rw[zgQ a];unfold gAt;show (cond (hasB g<|ln (ix h.Mons m mZ).Guests) _ _)=_;rw[hg];rfl
def zQt {x:Guest}(h:zL x=3\/zL x=4\/zL x=5\/zL x=6):(zcL x.Prog x.Pc).Op=zL x:=by unfold zL at h ⊢;cases e:canRun x with|false=>simp[e]at h|true=>simp only[e,cond_true]at h ⊢;(cases f:zkD x with|true=>simp[f]at h|false=>simp only[f,cond_false]at h ⊢;unfold zy1 at h ⊢;by_cases a:(zcL x.Prog x.Pc).Op=3;{rw [a];rfl};{rw [zcf.2 a,cond_false]at h ⊢;by_cases b:(zcL x.Prog x.Pc).Op=4;{rw [b];rfl};{rw [zcf.2 b,cond_false]at h ⊢;by_cases c:(zcL x.Prog x.Pc).Op=5;{rw [c];rfl};{rw [zcf.2 c,cond_false]at h ⊢;by_cases d:(zcL x.Prog x.Pc).Op=6;{rw [d];rfl};{rw [zcf.2 d,cond_false]at h ⊢;cases g:ieq (zcL x.Prog x.Pc).Op 7<;>simp [g]at h}}}})
def z9H {x:Guest}(X:GOk x){w:Int}(a:zL x=w)(h:w=3\/w=4):0<=address x/\address x<=15:=by have e:address x=(zcL x.Prog x.Pc).X:=(by unfold address;rcases h with e|e;{rw [a,e];rfl};{rw [a,e];rfl});rw[e];exact zbbR (zJx X.prog _) (by rw[zQt (by omega),a];exact h)
def z9I {a:Int}(b:0<=a)(c:a<=15):zl (zbj a) 0 3=true/\hasB (zd7 a) 4=true :=
 zK4 (n:=16) (P:=λa=>zl (zbj a) 0 3=true/\hasB (zd7 a) 4=true) (by decide) b (by omega)
def z0Q {p:Int}(h:zl p 0 3=true)(w:Bool):zj1 (zta p w)=true:=by unfold zj1 zta;simp[ieq,h]
def z3r {n:Int}(h:zl n 0 99=true):zj1 (zvi n)=true:=by unfold zj1 zvi;simp[ieq,h]
def z6g {n:Int}(h:zl n 0 99=true):zj1 (zy2 n)=true:=by unfold zj1 zy2;simp[ieq,h]
def z6m {x:Guest}(X:GOk x)(t:Int){w:Int}(d:zL x=w):GKeep x (zgD x t w):=by have c:=zJx X.prog x.Pc;unfold zgD;by_cases b:w=6;{rw [zbz.2 b];exact zlC X (z3r<|zdo.2<|z3H c (by rw[zQt (by omega),d];omega))};{rw [zcf.2 b,cond_false];by_cases a:w=5;{rw [zbz.2 a];cases zev t 1 with|true=>exact zlC X (z6g<|zdo.2<|z3H c (by rw[zQt (by omega),d];omega))|false=>rw[a];exact zlB X};{rw [zcf.2 a];rw[Bool.false_and,cond_false];cases e:(ieq w 7&&zev t 2) with|true=>exact zlC X rfl|false=>rw[cond_false];cases ieq w 7;{exact zlB X};{exact zZu X}}}
def zZC {a:Type}(g:Int):hasB g (ln ([]:List a))=false:=by cases h:hasB g (ln ([]:List a)) with|false=>rfl|true=>have:=zG.1 h;simp[ln] at this;omega
def z5s {m:List LI}(h:∀c∈m,zc2 c=true)(p c:Int):zl (cellAt m p c) 0 99=true:=by unfold cellAt zhk;cases b:hasB p (ln m) with|false=>rfl|true=>rw[cond_true];(cases a:hasB c (ln<|ix m p []) with|false=>rfl|true=>rw[cond_true];exact(zuy.1<|h _<|znN b []).1 _ (znN a 0))
def HOk.seenG {h:Host}(H:HOk h){m g:Int}(a:hasB m (ln h.Mons)=true)(hg:hasB g (ln (ix h.Mons m mZ).Guests)=true):GOk (gOf h m g):=H.guest a hg
def zW0 {h:Host}(S:Safe h){m g:Int}(i:hasB m (ln h.Mons)=true)(hg:hasB g (ln (ix h.Mons m mZ).Guests)=true)(w:Bool)(B:zL (gOf h m g)=bif w then 4 else 3) :
 SimT h (zg7 (zim h m g (gOf h m g) w) m g (gOf h m g) w) m (λb=>zmw b g (gOf h m g) w):=by
 have X:=S.ok.seenG i hg;have t:=z9H X B (by cases w<;>simp)
 have n:=z9I t.1 t.2;have z:zcq w=1\/zcq w=2:=by cases w<;>simp [zcq]
 unfold zg7 zim;cases k:zbY h m g (zbj<|address<|gOf h m g) (zcq w) with
 |false=>have e:lookOf h h.Buffer m g (zbj<|address<|gOf h m g) (zcq w) false=(h,-1,false):=(by unfold lookOf;rw[k];rfl);have q:zfs (gOf h m g).Live (zbj<|address<|gOf h m g) (zcq w)=false:=(by cases y:zfs (gOf h m g).Live (zbj<|address<|gOf h m g) (zcq w) with|false=>rfl|true=>exact Bool.noConfusion (k.symm.trans<|zoF.2 ⟨zjO.2 ⟨S.ok,i,hg⟩,z,y⟩));rw[e];refine(zr7 S i hg<|zlC X<|z0Q n.1 w).congr ?_;unfold zmw;rw[q];rfl
 |true=>obtain⟨L,x⟩:=zw0 S false k S.rt.e1;obtain⟨_,_,j⟩:=zoF.1 k;have c:zfs (gOf h m g).Live (zbj<|address<|gOf h m g) (zcq w)=true:=j;have W:=walked X j;rw[x,cond_true];have l:=L.op.safe S;have f:hasB m (ln (lookOf h h.Buffer m g (zbj<|address<|gOf h m g) (zcq w) false).1.Mons)=true:=(by rw[L.op.like.has];exact i);have a:=L.op.like.g m i;have C:hasB (zcH (zcS h m g) (zbj<|address<|gOf h m g)<|zcq w) 8=true:=W.q8;obtain⟨u,v⟩:=zxw l f C L.inn L.ne (zd7<|address<|gOf h m g) (gOf h m g).A;rw[L.op.like.seen m] at v;cases w with|true=>rw[cond_true];have r:=L.op.sim S m;have p:hasB m (ln ({ (lookOf h h.Buffer m g (zbj<|address<|gOf h m g) (zcq true) false).1 with Memory:=zbT (lookOf h h.Buffer m g (zbj<|address<|gOf h m g) (zcq true) false).1.Memory (lookOf h h.Buffer m g (zbj<|address<|gOf h m g) (zcq true) false).2.1 (zd7<|address<|gOf h m g) (gOf h m g).A}:Host).Mons)=true:=f;have d:hasB g (ln (ix ({ (lookOf h h.Buffer m g (zbj<|address<|gOf h m g) (zcq true) false).1 with Memory:=zbT (lookOf h h.Buffer m g (zbj<|address<|gOf h m g) (zcq true) false).1.Memory (lookOf h h.Buffer m g (zbj<|address<|gOf h m g) (zcq true) false).2.1 (zd7<|address<|gOf h m g) (gOf h m g).A}:Host).Mons m mZ).Guests)=true:=(by show hasB g (ln (ix (lookOf h h.Buffer m g (zbj<|address<|gOf h m g) (zcq true) false).1.Mons m mZ).Guests)=true;rw[a];exact hg);have s:GKeep (gOf { (lookOf h h.Buffer m g (zbj<|address<|gOf h m g) (zcq true) false).1 with Memory:=zbT (lookOf h h.Buffer m g (zbj<|address<|gOf h m g) (zcq true) false).1.Memory (lookOf h h.Buffer m g (zbj<|address<|gOf h m g) (zcq true) false).2.1 (zd7<|address<|gOf h m g) (gOf h m g).A} m g) (zci<|gOf h m g):=(by have:gOf { (lookOf h h.Buffer m g (zbj<|address<|gOf h m g) (zcq true) false).1 with Memory:=zbT (lookOf h h.Buffer m g (zbj<|address<|gOf h m g) (zcq true) false).1.Memory (lookOf h h.Buffer m g (zbj<|address<|gOf h m g) (zcq true) false).2.1 (zd7<|address<|gOf h m g) (gOf h m g).A} m g=gOf h m g:=(by show ix (ix (lookOf h h.Buffer m g (zbj<|address<|gOf h m g) (zcq true) false).1.Mons m mZ).Guests g gZ=_;rw[a];rfl);rw[this];exact zlB X);refine((r.trans u).trans (zr7 u.safe p d s)).congr ?_;unfold zmw;rw[c];rfl|false=>rw[cond_false];have r:=L.op.sim S m;have d:hasB g (ln (ix (lookOf h h.Buffer m g (zbj<|address<|gOf h m g) (zcq false) false).1.Mons m mZ).Guests)=true:=(by rw[a];exact hg);have s:GKeep (gOf (lookOf h h.Buffer m g (zbj<|address<|gOf h m g) (zcq false) false).1 m g) (loaded (gOf h m g)<|cellAt (lookOf h h.Buffer m g (zbj<|address<|gOf h m g) (zcq false) false).1.Memory (lookOf h h.Buffer m g (zbj<|address<|gOf h m g) (zcq false) false).2.1<|zd7<|address<|gOf h m g):=(by have:gOf (lookOf h h.Buffer m g (zbj<|address<|gOf h m g) (zcq false) false).1 m g=gOf h m g:=(by show ix (ix (lookOf h h.Buffer m g (zbj<|address<|gOf h m g) (zcq false) false).1.Mons m mZ).Guests g gZ=_;rw[a];rfl);rw[this];exact z3A X (z5s l.ok.pgs _ _));refine(r.trans<|zr7 l f d s).congr ?_;unfold zmw;rw[c,v];rfl
def z6l {h r:Host}{m g:Int}(e:(ix r.Mons m mZ).Guests=(ix h.Mons m mZ).Guests):gOf r m g=gOf h m g:=by unfold gOf;rw[e]
def zbaL (h:Host)(m:Int)(a:hasB m (ln h.Mons)=true):(ix (owned h m).Mons m mZ).Guests=(ix h.Mons m mZ).Guests:=by unfold owned;cases ilt (ix h.Mons m mZ).Own 1000000000 with|false=>rfl|true=>show (ix (up h.Mons m _) m mZ).Guests=_;rw[zbm a]
def z6L (h:Host)(m n:Int)(a:hasB m (ln h.Mons)=true):(ix (zhm h m n).Mons m mZ).Guests=(ix h.Mons m mZ).Guests:=by unfold zhm;cases ilt (ln (ix h.Mons m mZ).Outs) 40 with|false=>rfl|true=>show (ix (up h.Mons m _) m mZ).Guests=_;rw[zbm a]
def z4P {h:Host}(S:Safe h){m:Int}(a:hasB m (ln h.Mons)=true)(x:Guest)(w:Int):SimT h (zdP h m x w) m id/\(ix (zdP h m x w).Mons m mZ).Guests=(ix h.Mons m mZ).Guests:=by unfold zdP;cases (cond (ine w 6) (ieq (zm4 (ix h.Mons m mZ).Traps x.Ctl.Traps<|zgc w) 2) false) with|false=>exact⟨SimT.refl S m,rfl⟩|true=>exact⟨z4N S a,zbaL h m a⟩
def z4O {h:Host}(S:Safe h){m:Int}(a:hasB m (ln h.Mons)=true)(x:Guest)(w:Int):SimT h (zgC h m x w) m (λb=>bif (cond (zhY x.Ctl.Traps w) (ieq w 5) false) then zk3 b (zcL x.Prog x.Pc).X else b)/\(ix (zgC h m x w).Mons m mZ).Guests=(ix h.Mons m mZ).Guests:=by unfold zgC;cases (cond (zhY x.Ctl.Traps w) (ieq w 5) false) with|false=>exact⟨SimT.refl S m,rfl⟩|true=>exact⟨z2g S a _,z6L h m _ a⟩
def zEk {h:Host}(S:Safe h){m g:Int}(d:hasB m (ln h.Mons)=true)(hg:hasB g (ln (ix h.Mons m mZ).Guests)=true){w:Int}(l:zL (gOf h m g)=w) :
 SimT h (zkN h m g (gOf h m g) w) m (λb=>zr8 b g (gOf h m g) w):=by
 have X:=S.ok.seenG d hg;obtain⟨f,j⟩:=z4P S d (gOf h m g) w;have a:hasB m (ln (zdP h m (gOf h m g) w).Mons)=true:=by rw[f.has];exact d
 obtain⟨i,k⟩:=z4O f.safe a (gOf h m g) w;have e:hasB m (ln (zgC (zdP h m (gOf h m g) w) m (gOf h m g) w).Mons)=true:=by rw[i.has];exact a
 have c:hasB g (ln (ix (zgC (zdP h m (gOf h m g) w) m (gOf h m g) w).Mons m mZ).Guests)=true:=by rw[k,j];exact hg
 have n:GKeep (gOf (zgC (zdP h m (gOf h m g) w) m (gOf h m g) w) m g) (zgD (gOf h m g) (gOf h m g).Ctl.Traps w):=by rw[z6l<|k.trans j];exact z6m X _ l
 exact((f.trans i).trans (zr7 i.safe e c n)).congr rfl
def z2u (x:Guest):zL x=0\/zL x=1\/zL x=2\/zL x=3\/zL x=4\/zL x=5\/zL x=6\/zL x=7:=by unfold zL zy1;cases canRun x<;>cases zkD x<;>cases ieq (zcL x.Prog x.Pc).Op 3<;>cases ieq (zcL x.Prog x.Pc).Op 4<;>cases ieq (zcL x.Prog x.Pc).Op 5<;>cases ieq (zcL x.Prog x.Pc).Op 6<;>cases ieq (zcL x.Prog x.Pc).Op 7<;>simp
def zUi {h:Host}(H:HOk h)(m g:Int):zij (zC h m) g=bif zb8 h m g then !ieq (zL<|gOf h m g) 0 else false:=by unfold zij zb8;rw[zi8.2 H,cond_true];cases a:hasB m (ln h.Mons) with|false=>have:(zC h m).Guests=[]:=(by unfold zC;rw[a];rfl);rw[this,zZC];rfl|true=>rw[cond_true,zzr H a,cond_true];have:(zC h m).Guests=(ix h.Mons m mZ).Guests:=(by rw[zgQ a]);rw[this];(cases hg:hasB g (ln (ix h.Mons m mZ).Guests) with|false=>rfl|true=>rw[cond_true,cond_true,zvr a hg])
def step_ok {h:Host}(S:Safe h)(m g:Int):SimT h (zcz h m g).1 m (λb=>zfQ b g)/\(zcz h m g).2=zij (zC h m) g:=by
 have a:=zUi S.ok m g;unfold zcz;cases i:zb8 h m g with
 |false=>rw[i,cond_false]at a;refine⟨(SimT.refl S m).congr ?_,a.symm⟩;unfold zfQ;rw[a];rfl
 |true=>rw[i,cond_true]at a;rw[cond_true];obtain⟨_,c,hg⟩:=zjO.1 i;have X:=S.ok.seenG c hg;have f:=zvr c hg;have d:∀w,zL (gOf h m g)=w->w≠0->zfQ (zC h m) g=stepped (zC h m) g (gOf h m g) w:=(by intro w j k;unfold zfQ;rw[a,j,zcf.2 k,f,j];rfl);rcases z2u (gOf h m g) with e|e|e|e|e|e|e|e;{rw [e];rw[e]at a;refine⟨(SimT.refl S m).congr ?_,a.symm⟩;unfold zfQ;rw[a];rfl};{rw [e]at a ⊢;exact⟨(zr7 S c hg<|zNU X).congr (d 1 e (by decide)).symm,a.symm⟩};{rw [e]at a ⊢;exact⟨(zr7 S c hg<|z01 X).congr (d 2 e (by decide)).symm,a.symm⟩};{rw [e]at a ⊢;exact⟨(zW0 S c hg false e).congr (d 3 e (by decide)).symm,a.symm⟩};{rw [e]at a ⊢;exact⟨(zW0 S c hg true e).congr (d 4 e (by decide)).symm,a.symm⟩};{rw [e]at a ⊢;exact⟨(zEk S c hg e).congr (d 5 e (by decide)).symm,a.symm⟩};{rw [e]at a ⊢;exact⟨(zEk S c hg e).congr (d 6 e (by decide)).symm,a.symm⟩};{rw [e]at a ⊢;exact⟨(zEk S c hg e).congr (d 7 e (by decide)).symm,a.symm⟩}
structure BackOk (b c:Bare):Prop where
 m:c.Memory=b.Memory
 o:c.Outs=b.Outs
 n:c.Guests.length=b.Guests.length
 g:∀j,hasB j (ln b.Guests)=true->GKeep (ix b.Guests j gZ) (ix c.Guests j gZ)
 p:zef b.Pending=true->zef c.Pending=true
def z7g {h:Host}(S:Safe h){m:Int}(b:hasB m (ln h.Mons)=true){c:Bare}(k:BackOk (zC h m) c):SimT h (zcK h m c) m (λ_=>c):=by have X:=S.ok.mon b;have f:=zgQ b;have d:(zC h m).Guests=(ix h.Mons m mZ).Guests:=(by rw[f]);have l:c.Guests.length=(ix h.Mons m mZ).Guests.length:=(by rw[k.n,d]);have hg:∀j,hasB j (ln (ix h.Mons m mZ).Guests)=true->GKeep (ix (ix h.Mons m mZ).Guests j gZ) (ix c.Guests j gZ):=λj a=>(by have:=k.g j (by rw[d];exact a);rwa [d] at this);have kp:KeepP (ix h.Mons m mZ) (zoY (ix h.Mons m mZ) c):=⟨rfl,rfl⟩;have s:zef c.Pending=true:=k.p (by rw[f];exact X.pend);refine⟨zxv S b kp (zm2 X kp l rfl rfl X.outs s X.tr X.own λz t=>?_) l (λj a=>(hg j a).live) rfl,λi=>?_,zb4 _ _ _⟩;{obtain⟨j,a,rfl⟩:=zVY t gZ;exact zuU.2 (hg j (by unfold ln at a ⊢;rw[<- l];exact a)).ok};{refine(zv7 (h:=h) (r:=zcK h m c) b rfl rfl kp i).trans ?_;by_cases e:i=m;{subst e;rw[zbz.2 rfl,cond_true,cond_true];show Bare.mk (zC h i).Memory c.Guests (ix h.Mons i mZ).Outs c.Pending=c;have u:=k.m;have q:=k.o;rw[f]at q;cases c;simp_all};{rw [zcf.2 e];rfl}}
def seen_none {h:Host}{m:Int}(a:hasB m (ln h.Mons)=false):zC h m=⟨[],[],[],0⟩:=by unfold zC;rw[a];rfl
def zuZ:zbZ ⟨[],[],[],0⟩=false:=by decide
def zvf {b:Bare}(h:zbZ b=false)(g:Int):zb2 b g=false:=by unfold zb2;rw[h];rfl
def zjZ {b:Bare}(h:zbZ b=true):BackOk b b:=⟨rfl,rfl,rfl,λj a=>⟨zuU.1 (by
 unfold zbZ at h;rw[zcJ,qM]at h;exact h.1 _ (znN a _)),rfl⟩,id⟩
def z2H {b:Bare}(h:zbZ b=true){g:Int}(hg:hasB g (ln b.Guests)=true){y:Guest}(k:GKeep (gAt b g) y):BackOk b (zeK b g y):=by have e:gAt b g=ix b.Guests g gZ:=(by unfold gAt;rw[hg];rfl);refine⟨rfl,rfl,zb4 _ _ _,λj c=>?_,id⟩;show GKeep _ (ix (up b.Guests g y) j gZ);by_cases a:g=j;{subst a;rw[zbm hg,<- e];exact k};{rw [zbA (zG.1 hg).1 (zG.1 c).1 a];exact(zjZ h).g j c}
def zs3 {b:Bare}(h:zbZ b=true){g:Int}{c:Bool}{y:Guest}(k:hasB g (ln b.Guests)=true->c=true->GOk (gAt b g)->GKeep (gAt b g) y):BackOk b (chg b g c y):=by unfold chg zb2;rw[h,cond_true];cases hg:hasB g (ln b.Guests) with|false=>exact zjZ h|true=>rw[cond_true];(cases c with|false=>exact zjZ h|true=>refine z2H h hg (k hg rfl ?_);have:=(zjZ h).g g hg;unfold gAt;rw[hg];exact this.ok)
def zrX {h:Host}(S:Safe h)(m:Int){F:Bare->Bare}(d:∀b,zbZ b=true->BackOk b (F b))(c:F ⟨[],[],[],0⟩=⟨[],[],[],0⟩):SimT h (zfJ h m<|F<|zC h m) m F:=by unfold zfJ zb1;rw[zi8.2 S.ok,cond_true];cases a:hasB m (ln h.Mons) with|false=>refine(SimT.refl S m).congr ?_;rw[seen_none a];exact c.symm|true=>exact(z7g S a<|d _<|zzr S.ok a).congr rfl
def znb {h:Host}(S:Safe h)(m:Int){t:Bare->Bool}(a:t ⟨[],[],[],0⟩=false):zfi h m (t<|zC h m)=t (zC h m):=by unfold zfi zb1;rw[zi8.2 S.ok,cond_true];cases b:hasB m (ln h.Mons) with|false=>rw[cond_false,seen_none b,a]|true=>rfl
def zrH (g:Int)(c:Bool)(y:Guest):chg ⟨[],[],[],0⟩ g c y=⟨[],[],[],0⟩:=by unfold chg;rw[zvf zuZ];rfl
def zlz (g:Int)(c:Bool):zb5 ⟨[],[],[],0⟩ g c=false:=by unfold zb5;rw[zvf zuZ];rfl
def zW2 {t:List Slot}{n q:Int}(h:zdN t n q=true){p:Int}{s:Slot}(b:zeO s q=true):zdN (zeV t p s) n q=true:=by
 unfold zeV;cases hasB p (ln t) with
 |false=>exact h
 |true=>rw[cond_true];rw[zsY]at h ⊢;rw[zd4];refine⟨λx c=>?_,h.2⟩;rcases qZ c with a|a;{exact h.1 x a};{rw [a];exact b}
def zbat {x:Guest}(X:GOk x){p:Int}{s:Slot}(h:zt3 p s=true):GKeep x (zv8 x p s):=by unfold zt3 at h;rw[zcJ]at h;exact⟨⟨X.prog,X.a,X.pc,zW2 X.w h.2,X.l,X.ctl,X.pend,X.ex,X.seen⟩,rfl⟩
def zbaq {x:Guest}(X:GOk x){v:Int}(h:ztK x v=true):GKeep x (zve x v):=by unfold ztK at h;rw[zcJ]at h;unfold zve;cases ieq x.Exit.Kind 2 with|true=>rw[cond_true];have b:=zlC (z0Z X h.1) (e:=zjl) rfl;have a:=zlB b.ok;exact⟨a.ok,a.live⟩|false=>rw[cond_false];have b:=zlC X (e:=zjl) rfl;have a:=zlB b.ok;exact⟨a.ok,a.live.trans b.live⟩
def zbas {x:Guest}(X:GOk x):GKeep x (zvU x):=by unfold zvU;have a:=zlC X (e:=zjl) rfl;cases ieq x.Exit.Kind 1 with|true=>exact a|false=>have b:=zZu a.ok;exact⟨b.ok,b.live.trans a.live⟩
def zZv {x:Guest}(X:GOk x)(n:Int):GKeep x (zm0 x n):=zZw X (zRC X.pend n)
def zbar {x:Guest}(X:GOk x){c:Ctl}(h:znG c=true):GKeep x (zC4 x c):=⟨⟨X.prog,X.a,X.pc,X.w,X.l,h,X.pend,X.ex,X.seen⟩,rfl⟩
def zCZ (n:Int):∀(d:LI) (b:Bare) (l:List Guest),(∀k∈d,hasB k (ln b.Guests)=true)->BackOk b {b with Guests:=l}->BackOk b {b with Guests:=znT n d l}
 |[],b,l,_,h=>h
 |k::d,b,l,q,h=>by show BackOk b {b with Guests:=znT n d (zE0 n l k)};refine zCZ n d b _ (λj a=>q j (jA _ a)) ⟨h.m,h.o,by show (up l k _).length=_;rw[zb4];exact h.n,λj a=>?_,h.p⟩;show GKeep _ (ix (up l k _) j gZ);have r:l.length=b.Guests.length:=h.n;have c:hasB k (ln l)=true:=(by unfold ln;rw[r];exact q k jF);by_cases e:k=j;{subst e;rw[zbm c];have f:=h.g k a;have i:=zZv f.ok n;exact⟨i.ok,i.live.trans f.live⟩};{rw [zbA (zG.1 c).1 (zG.1 a).1 e];exact h.g j a}
def z0i {b:Bare}(h:zbZ b=true)(n:Int):BackOk b (zj7 b n):=by
 unfold zj7 zf2 zE1;rw[h,cond_true];cases hasB n 8 with
 |false=>exact zjZ h
 |true=>
  rw[cond_true];cases ieq (ln<|zfa b.Guests n) 0 with
  |true=>have:=zjZ h;exact⟨rfl,rfl,rfl,this.g,λc=>zRC c n⟩
  |false=>rw[cond_false];refine zCZ n _ b b.Guests (λk a=>?_) (zjZ h);unfold zfa at a;obtain⟨j,e,rfl,_⟩:=(zvE (d:=gZ)).1 a;exact zG.2 ⟨by omega,by unfold ln;omega⟩
def z2G {b:Bare}(h:zbZ b=true):BackOk b (zlx b):=by unfold zlx;rw[h,cond_true];exact⟨rfl,rfl,rfl,(zjZ h).g,λa=>zRD a⟩
def z6U {h:Host}(S:Safe h)(m p c v:Int):SimT h (zjh h m p c v) m (λb=>zo2 b p c v)/\zdk h m p c v=zk2 (zC h m) p c v:=by have e:zdk h m p c v=zk2 (zC h m) p c v:=(by unfold zdk zk2 zb3 zMW;rw[zi8.2 S.ok,cond_true];cases d:hasB m (ln h.Mons) with|false=>rw[seen_none d,zuZ];rfl|true=>rw[zzr S.ok d,cond_true];rfl);refine⟨?_,e⟩;unfold zjh;cases f:zdk h m p c v with|false=>refine(SimT.refl S m).congr ?_;unfold zo2;rw[<- e,f];rfl|true=>rw[cond_true];have a:=f;unfold zdk at a;rw[zcJ,zcJ]at a;obtain⟨k,_,_⟩:=a;obtain⟨_,d,j⟩:=zh7.1 k;have M:=zDU S.ok (m:=m) (p:=p) 2 d j;have i:=M.op.sim S m;have g:hasB m (ln (mended h m p 2).Mons)=true:=(by rw[i.has];exact d);obtain⟨l,_⟩:=zxw i.safe g j rfl M.inn c v;refine(i.trans l).congr ?_;unfold zo2;rw[<- e,f];rfl
def z3W {h:Host}(S:Safe h)(m g b a:Int):zbY h m g b a=(cond (zb2 (zC h m) g) (cond (zhl a) (zfs (gAt (zC h m) g).Live b a) false) false):=by have e:zb8 h m g=zb2 (zC h m) g:=(by unfold zb8 zb2;rw[zi8.2 S.ok,cond_true];cases c:hasB m (ln h.Mons) with|false=>rw[seen_none c,zuZ,cond_false,cond_false]|true=>rw[cond_true,zzr S.ok c,cond_true];have:(zC h m).Guests=(ix h.Mons m mZ).Guests:=(by rw[zgQ c]);rw[this]);unfold zbY;rw[<- e];cases hg:zb8 h m g with|false=>rw[cond_false,cond_false]|true=>obtain⟨_,c,hg⟩:=zjO.1 hg;have:(gAt (zC h m) g).Live=zcS h m g:=(by rw[zvr c hg];rfl);rw[this]
def zH7 {h:Host}(S:Safe h)(m g a n:Int)(b:n=1\/n=2):zqc (zC h m) g a n=bif zl a 0 15 then zbY h m g (zbj a) n else false:=by rw[z3W S];unfold zqc;rw[zHd.2 b,cond_true];cases zb2 (zC h m) g<;>cases zl a 0 15<;>rfl
def zUD {h:Host}(S:Safe h){m g a n:Int}(f:n=1\/n=2)(b:zqc (zC h m) g a n=true) :
 Looked h (zDB h m g a n).1 m g (zbj a) n (zEH (zC h m) g a n) (zDB h m g a n).2.1/\hasB m (ln h.Mons)=true/\hasB (zEH (zC h m) g a n) 8=true:=by
 rw[zH7 S m g a n f,zcJ]at b;obtain⟨L,_⟩:=zw0 S true b.2 S.rt.e2;obtain⟨d,_,i⟩:=zoF.1 b.2;obtain⟨_,c,hg⟩:=zjO.1 d;have e:zEH (zC h m) g a n=zcH (zcS h m g) (zbj a) n:=by unfold zEH;rw[zvr c hg];rfl
 rw[e];exact⟨L,c,(walked (S.ok.guest c hg) i).q8⟩
def zbbK {h:Host}(S:Safe h)(m g a v:Int):SimT h (zkS h m g a v) m (λb=>z0N b g a v)/\zgm h m g a v=zzZ (zC h m) g a v:=by have e:zgm h m g a v=zzZ (zC h m) g a v:=(by unfold zgm zzZ;rw[zH7 S m g a 2 (.inr rfl)];cases zl a 0 15<;>cases zl v 0 99<;>cases zbY h m g (zbj a) 2<;>rfl);refine⟨?_,e⟩;unfold zkS;cases c:zgm h m g a v with|false=>refine(SimT.refl S m).congr ?_;unfold z0N;rw[<- e,c];rfl|true=>rw[cond_true];have f:zqc (zC h m) g a 2=true:=(by have:=e.symm.trans c;unfold zzZ at this;exact(zcJ.1 this).1);obtain⟨L,i,j⟩:=zUD S (.inr rfl) f;have d:=L.op.sim S m;obtain⟨k,_⟩:=zxw d.safe (by rw[d.has];exact i) j L.inn L.ne (zd7 a) v;refine(d.trans k).congr ?_;unfold z0N;rw[<- e,c];rfl
def zbaO {h:Host}(S:Safe h)(m g a:Int):SimT h (zji h m g a) m id/\zfB h m g a=zqc (zC h m) g a 1/\zmW h m g a=zTS (zC h m) g a:=by have e:zfB h m g a=zqc (zC h m) g a 1:=(by unfold zfB;rw[zH7 S m g a 1 (.inl rfl)]);unfold zji zmW zTS;rw[e];cases d:zqc (zC h m) g a 1 with|false=>exact⟨SimT.refl S m,rfl,rfl⟩|true=>obtain⟨L,f,i⟩:=zUD S (.inl rfl) d;have b:=L.op.sim S m;obtain⟨_,c⟩:=zxw b.safe (by rw[b.has];exact f) i L.inn L.ne (zd7 a) 0;rw[L.op.like.seen m] at c;exact⟨b,rfl,c⟩
def z3J {k:Kept}{a b:List Slot}(h:KOk k a b)(p:Int)(s:Slot):KOk (zce k p) (zeV a p s) b:=by have j:=zmU k p;have f:(zeV a p s).length=a.length:=(by unfold zeV;cases hasB p (ln a)<;>simp [zb4]);refine⟨by rw[j.1,f,h.l1],by rw[j.2,f,h.l2],λi l=>?_⟩;have c:hasB i (ln a)=true:=(by unfold ln at l ⊢;rwa [<- f]);have d:hasB i (ln k.Known)=true:=(by unfold ln at c ⊢;rwa [h.l1]);have g:=zxR (q:=p) (by rw[h.l1,h.l2]) d;rw[g.1,g.2];by_cases e:p=i;{subst e;rw[zbz.2 rfl];rfl};{rw [zcf.2 e,cond_false,cond_false,h.at' i c];have:ix (zeV a p s) i sZ=ix a i sZ:=(by unfold zeV;cases m:hasB p (ln a) with|false=>rfl|true=>exact zbA (zG.1 m).1 (zG.1 c).1 e _ _);rw[this]}
def zbcc {t m g:Int}(a:zeA t=m)(b:zfr t=g)(c:0<=m):t=zeU m g:=by subst a;subst b;by_cases h:1<=t/\t<=6;{have e:t=1\/t=2\/t=3\/t=4\/t=5\/t=6:=(by omega);rcases e with rfl|rfl|rfl|rfl|rfl|rfl<;>decide};{exfalso;have:zeA t = -1:=(by unfold zeA ige ile;rw[show (decide (t≥1)&&decide (t<=6))=false by simp;omega];rfl);omega}
def zYW {t:List Slot}{p q:Int}{s:Slot}(h:q≠p):zbJ (zeV t p s) q=zbJ t q:=by unfold zeV;cases a:hasB p (ln t) with|false=>rfl|true=>exact zRN (zG.1 a).1 h
def z7h {t:List Slot}(h:zdN t 4 8=true)(p:Int):zeO (zbJ t p) 8=true:=by unfold zbJ;cases a:hasB p (ln t) with|false=>rfl|true=>exact(zsY.1 h).1 _ (znN a _)
def z3z {x:Guest}(X:GOk x)(p:Int):GOk (zey x p):=⟨X.prog,X.a,X.pc,X.w,zW2 X.l<|z7h X.w p,X.ctl,X.pend,X.ex,X.seen⟩
def z6j {h:Host}(S:Safe h)(m g p:Int):SimT h (zh2 h m g p) m (λb=>chg b g (hasB p 4) (zey (gAt b g) p))/\zfi h m (zb5 (zC h m) g<|hasB p 4)=zb5 (zC h m) g (hasB p 4):=by
 refine⟨?_,znb S m (t:=λb=>zb5 b g (hasB p 4))<|zlz g _⟩;unfold zh2 zb1;rw[zi8.2 S.ok,cond_true];cases a:hasB m (ln h.Mons) with
 |false=>refine(SimT.refl S m).congr ?_;rw[seen_none a,zrH];rfl
 |true=>
  rw[cond_true];cases w:zb5 (zC h m) g (hasB p 4) with
  |false=>refine(SimT.refl S m).congr ?_;show zC h m=chg (zC h m) g (hasB p 4) (zey (gAt (zC h m) g) p);have c:=w;unfold zb5 at c;unfold chg;rw[c];rfl
  |true=>rw[cond_true];have c:=w;unfold zb5 zb2 at c;rw[zzr S.ok a,cond_true,zcJ,zgQ a]at c;have hg:hasB g (ln (ix h.Mons m mZ).Guests)=true:=c.1;have X:=S.ok.mon a;have G:=S.ok.seenG a hg;have C:chg (zC h m) g (hasB p 4) (zey (gAt (zC h m) g) p)=zeK (zC h m) g (zey (gOf h m g) p):=(by have l:=w;unfold zb5 at l;unfold chg;rw[l,zvr a hg];rfl);rw[C];have B:hasB g (ln (ix h.Mons m mZ).Tables)=true:=(by unfold ln;rw[X.gt];exact hg);have s:(zyD (zcK h m<|zeK (zC h m) g<|zey (gOf h m g) p) m g p).Mons=up h.Mons m {ix h.Mons m mZ with Guests:=up (ix h.Mons m mZ).Guests g (zey (gOf h m g) p),Tables:=up (ix h.Mons m mZ).Tables g (zce (ix (ix h.Mons m mZ).Tables g kZ) p)}:=(by show up (up h.Mons m _) m _=_;rw[z5d];have D:ix (zcK h m<|zeK (zC h m) g<|zey (gOf h m g) p).Mons m mZ=zoY (ix h.Mons m mZ) (zeK (zC h m) g<|zey (gOf h m g) p):=zbm a _ _;rw[D];unfold zoY zeK;rw[zgQ a]);have kp:KeepP (ix h.Mons m mZ) {ix h.Mons m mZ with Guests:=up (ix h.Mons m mZ).Guests g (zey (gOf h m g) p),Tables:=up (ix h.Mons m mZ).Tables g (zce (ix (ix h.Mons m mZ).Tables g kZ) p)}:=⟨rfl,rfl⟩;have K:MOk {ix h.Mons m mZ with Guests:=up (ix h.Mons m mZ).Guests g (zey (gOf h m g) p),Tables:=up (ix h.Mons m mZ).Tables g (zce (ix (ix h.Mons m mZ).Tables g kZ) p)}:=zm2 X kp (zb4 _ _ _) (zb4 _ _ _) rfl X.outs X.pend X.tr X.own λz L=>(by rcases qZ L with h|h;{exact X.gs z h};{rw [h];exact zuU.2 (z3z G p)});have E:HOk (zyD (zcK h m<|zeK (zC h m) g<|zey (gOf h m g) p) m g p):=S.ok.up a K s S.ok.m12 S.ok.pgs (zzO S.ok.b1 _) (zzO S.ok.b2 _) λq _=>.inl (qV _);have u:∀b:List Entry,(∀e∈b,zdz h e=true)->∀e∈zde b (zeU m g) p,zdz (zyD (zcK h m<|zeK (zC h m) g<|zey (gOf h m g) p) m g p) e=true:=(by intro b F e H;obtain⟨x,y⟩:=zz2.1 H;obtain⟨l,n,r⟩:=zhc.1 (F e x);rw[zhc,s,zd4];refine⟨l,?_⟩;by_cases d:m=zeA e.Tag;{rw [<- d]at l n r ⊢;rw[zbm a];show hasB (zfr e.Tag) (ln<|up _ _ _)=true/\below' _ (zbG (zbJ (ix (up (ix h.Mons m mZ).Guests g _) (zfr e.Tag) gZ).Live e.Page) (ix h.Mons m mZ).Outer)=true;rw[zd4];refine⟨n,?_⟩;by_cases f:g=zfr e.Tag;{rw [<- f]at n r ⊢;rw[zbm hg];have A:e.Page≠p:=λJ=>y ⟨zbcc d.symm f.symm (zG.1 a).1,J⟩;show below' _ (zbG (zbJ (zeV (gOf h m g).Live p _) e.Page) _)=true;rw[zYW A];exact r};{rw [zbA (zG.1 hg).1 (zG.1 n).1 f];exact r}};{rw [zbA (zG.1 a).1 (zG.1 l).1 d];exact⟨n,r⟩});refine⟨⟨E,⟨λi v=>?_,u _ S.rt.e1,u _ S.rt.e2⟩⟩,λi=>?_,by rw[s,zb4]⟩;{rw [s]at v ⊢;rw[zd4]at v;by_cases d:m=i;{subst d;rw[zbm a];intro j I;show KOk (ix (up (ix h.Mons m mZ).Tables g _) j kZ) (ix (up (ix h.Mons m mZ).Guests g _) j gZ).Live (ix h.Mons m mZ).Outer;have k:hasB j (ln (ix h.Mons m mZ).Guests)=true:=(by have:hasB j (ln<|up (ix h.Mons m mZ).Guests g<|zey (gOf h m g) p)=true:=I;rwa [zd4] at this);by_cases e:g=j;{subst e;rw[zbm B,zbm hg];exact z3J (S.rt.t m a g hg) p _};{rw [zbA (zG.1 hg).1 (zG.1 k).1 e,zbA (zG.1 hg).1 (zG.1 k).1 e];exact S.rt.t m a j k}};{rw [zbA (zG.1 a).1 (zG.1 v).1 d];exact S.rt.t i v}};{refine(zv7 (h:=h) a s rfl kp i).trans ?_;by_cases e:i=m;{subst e;rw[zbz.2 rfl,cond_true,cond_true,C,zgQ a];rfl};{rw [zcf.2 e];rfl}}
def zRW (g:Int):zfQ ⟨[],[],[],0⟩ g=⟨[],[],[],0⟩/\zij ⟨[],[],[],0⟩ g=false:=by have:zij ⟨[],[],[],0⟩ g=false:=(by unfold zij;rw[zZC];rfl);refine⟨?_,this⟩;unfold zfQ;rw[this];rfl
def z6o {h:Host}(S:Safe h)(a:GAct):SimT h (zgn h a) a.M (λb=>zKJ b a)/\zh4 h a=zKK (zC h a.M) a:=by
 have f:=zuZ;unfold zgn zh4 zKJ zKK;cases ieq a.Kind 1 with
 |true=>obtain⟨k,e⟩:=step_ok S a.M a.G;exact⟨k,by rw[cond_true,cond_true,e]⟩
 |false=>
  simp only[cond_false];cases ieq a.Kind 2 with
  |true=>
   exact⟨zrX S a.M (F:=λb=>chg b a.G (zt3 a.X ⟨a.Y,a.Z⟩) (zv8 (gAt b a.G) a.X ⟨a.Y,a.Z⟩)) (λb c=>zs3 c λ_ d G=>zbat G d)<|zrH _ _ _,
    congrArg (λt=>Told.mk t 0) (znb S a.M (t:=λb=>zb5 b a.G (zt3 a.X ⟨a.Y,a.Z⟩))<|zlz _ _)⟩
  |false=>
   simp only[cond_false];cases ieq a.Kind 3 with
   |true=>obtain⟨k,e⟩:=z6j S a.M a.G a.X;exact⟨k,congrArg (λt=>Told.mk t 0) e⟩
   |false=>
    simp only[cond_false];cases ieq a.Kind 4 with
    |true=>
     exact⟨zrX S a.M (F:=λb=>chg b a.G (ztK (gAt b a.G) a.X) (zve (gAt b a.G) a.X)) (λb c=>zs3 c λ_ d G=>zbaq G d)<|zrH _ _ _,
      congrArg (λt=>Told.mk t 0) (znb S a.M (t:=λb=>zb5 b a.G (ztK (gAt b a.G) a.X))<|zlz _ _)⟩
    |false=>
     simp only[cond_false];cases ieq a.Kind 5 with
     |true=>
      exact⟨zrX S a.M (F:=λb=>chg b a.G (zxY<|gAt b a.G) (zvU<|gAt b a.G)) (λb c=>zs3 c λ_ _ G=>zbas G)<|zrH _ _ _,
       congrArg (λt=>Told.mk t 0) (znb S a.M (t:=λb=>zb5 b a.G (zxY<|gAt b a.G))<|zlz _ _)⟩
     |false=>
      simp only[cond_false];cases ieq a.Kind 6 with
      |true=>
       exact⟨zrX S a.M (F:=λb=>chg b a.G (zh8 (gAt b a.G).Pending a.X) (zm0 (gAt b a.G) a.X)) (λb c=>zs3 c λ_ _ G=>zZv G _)<|zrH _ _ _,
        congrArg (λt=>Told.mk t 0) (znb S a.M (t:=λb=>zb5 b a.G (zh8 (gAt b a.G).Pending a.X))<|zlz _ _)⟩
      |false=>
       simp only[cond_false];cases ieq a.Kind 7 with
       |true=>
        exact⟨zrX S a.M (F:=λb=>chg b a.G (znG ⟨a.X,a.Y,ieq a.Z 1⟩) (zC4 (gAt b a.G) ⟨a.X,a.Y,ieq a.Z 1⟩)) (λb c=>zs3 c λ_ d G=>zbar G d)<|zrH _ _ _,
         congrArg (λt=>Told.mk t 0) (znb S a.M (t:=λb=>zb5 b a.G (znG ⟨a.X,a.Y,ieq a.Z 1⟩))<|zlz _ _)⟩
       |false=>
        simp only[cond_false];cases ieq a.Kind 8 with
        |true=>obtain⟨k,e⟩:=z6U S a.M a.X a.Y a.Z;exact⟨k,congrArg (λt=>Told.mk t 0) e⟩
        |false=>
         simp only[cond_false];cases ieq a.Kind 9 with
         |true=>
          exact⟨zrX S a.M (F:=λb=>zj7 b a.X) (λb c=>z0i c _) (by unfold zj7 zf2;rw[f];rfl),
           congrArg (λt=>Told.mk t 0) (znb S a.M (t:=λb=>zf2 b a.X) (by unfold zf2;rw[f];rfl))⟩
         |false=>
          simp only[cond_false];cases ieq a.Kind 10 with
          |true=>refine⟨zrX S a.M (F:=zlx) (λb c=>z2G c) (by unfold zlx;rw[f];rfl),?_⟩;have e:=znb S a.M (t:=zkH) (by unfold zkH;rw[f];rfl);show Told.mk (zfi h a.M<|zkH<|zC h a.M) (cond (zb1 h a.M) (zrF<|zC h a.M)<|-1)=⟨zkH<|zC h a.M,zrF<|zC h a.M⟩;rw[e];congr 1;unfold zb1;rw[zi8.2 S.ok,cond_true];cases j:hasB a.M (ln h.Mons) with|true=>rfl|false=>rw[seen_none j];unfold zrF;rw[f];rfl
          |false=>
           simp only[cond_false];cases ieq a.Kind 11 with
           |true=>obtain⟨k,e⟩:=zbbK S a.M a.G a.X a.Y;exact⟨k,congrArg (λt=>Told.mk t 0) e⟩
           |false=>obtain⟨k,g,i⟩:=zbaO S a.M a.G a.X;exact⟨k,by simp only[cond_false];rw[g,i]⟩
def z6M {h:Host}(S:Safe h)(a:GAct):Safe (ziC h a)/\(∀i,zC (ziC h a) i=zC h i)/\(ziC h a).Mons.length=h.Mons.length:=by
 unfold ziC;have k:∀r,Op h r->Safe r/\(∀i,zC r i=zC h i)/\r.Mons.length=h.Mons.length:=λr k=>⟨k.safe S,λi=>k.like.seen i,k.like.len⟩;cases ieq a.Kind 13 with
 |true=>exact k _ (z1w S.ok _ _)
 |false=>
  simp only[cond_false];cases ieq a.Kind 14 with
  |true=>exact k _ (z4j S.ok _ _)
  |false=>
   simp only[cond_false];cases ieq a.Kind 15 with
   |true=>exact k _ (zRx S.ok _ _)
   |false=>
    simp only[cond_false];cases ieq a.Kind 16 with
    |true=>obtain⟨b,c⟩:=zTq S a.M a.X;refine⟨b,c,?_⟩;simp only[cond_true];unfold zhD;cases zbQ h<;>cases hasB a.M (ln h.Mons)<;>cases zl a.X 0 3<;>first|rfl|exact zb4 _ _ _
    |false=>exact k _ (zbaJ S.ok)
def zmz (a:GAct):Bool:=bif zl a.Kind 1 17 then !zl a.Kind 13 17 else false
def zT7 {h:Host}(S:Safe h)(a:GAct):Safe (zbV h a)/\(zbV h a).Mons.length=h.Mons.length/\
 (∀i,zC (zbV h a) i=bif (cond (zmz a) (ieq i a.M) false) then zKJ (zC h i) a else zC h i)/\(zmz a=true->zcQ h a=zKK (zC h a.M) a):=by
 unfold zbV zcQ zmz;cases zl a.Kind 1 17 with
 |false=>exact⟨S,rfl,λ_=>rfl,λe=>by cases e⟩
 |true=>
  simp only[cond_true];cases zl a.Kind 13 17 with
  |true=>obtain⟨b,c,d⟩:=z6M S a;exact⟨b,d,λi=>by simp only[cond_true,Bool.not_true,cond_false];exact c i,λe=>by cases e⟩
  |false=>obtain⟨k,e⟩:=z6o S a;exact⟨k.safe,k.len,λi=>by simp only[cond_false,Bool.not_false,cond_true];exact k.seen i,λ_=>e⟩
def zd8 (h:Host):List Bare:=(List.range h.Mons.length).map λ(i:Nat)=>zC h (i:Int)
def zmm (h:Host):(zd8 h).length=h.Mons.length:=by simp[zd8]
def zoA (h:Host)(m:Int):hasB m (ln<|zd8 h)=hasB m (ln h.Mons):=by unfold ln;rw[zmm]
def znD {h:Host}{m:Int}(c:hasB m (ln h.Mons)=true)(d:Bare):ix (zd8 h) m d=zC h m:=by have a:=zG.1 c;unfold ln at a;have b:m.toNat<(zd8 h).length:=(by rw[zmm];omega);have:=zl4 b d;rw[show ((m.toNat:Nat):Int)=m by omega] at this;rw[this];simp[zd8,show max m 0=m by omega]
def zKG {h r:Host}(a:r.Mons.length=h.Mons.length)(e:∀i,zC r i=zC h i):zd8 r=zd8 h:=by unfold zd8;rw[a];exact List.map_congr_left λi _=>e _
def zXG {h:Host}(S:Safe h)(a:GAct):zd8 (zbV h a)=zKL (zd8 h) a/\(zmz a=true->zcQ h a=z0h (zd8 h) a):=by obtain⟨_,k,l,t⟩:=zT7 S a;have p:zmz a=true->zd8 (zbV h a)=(cond (hasB a.M<|ln h.Mons) (up (zd8 h) a.M<|zKJ (zC h a.M) a)<|zd8 h):=(by intro b;rw[b]at l;cases f:hasB a.M (ln h.Mons) with|false=>rw[cond_false];refine zuX ⟨[],[],[],0⟩ (by rw[zmm,zmm,k]) λi c=>?_;rw[zoA]at c;rw[znD c];have d:hasB i (ln h.Mons)=true:=(by unfold ln at c ⊢;rwa [<- k]);rw[znD d,l i];have:ieq i a.M=false:=zcf.2 λe=>(by rw[e,f]at d;cases d);rw[this];rfl|true=>rw[cond_true];refine zuX ⟨[],[],[],0⟩ (by rw[zb4,zmm,zmm,k]) λi c=>?_;rw[zoA]at c;rw[znD c,l i];have d:hasB i (ln h.Mons)=true:=(by unfold ln at c ⊢;rwa [<- k]);by_cases e:i=a.M;{rw [e,zbz.2 rfl,zbm (by rw[zoA];exact f)];rfl};{rw [zcf.2 e,zbA (zG.1 f).1 (zG.1 d).1<|Ne.symm e,znD d];rfl});have s:zmz a=false->zd8 (zbV h a)=zd8 h:=λb=>zKG k λi=>(by rw[l i,b];rfl);have r:zmz a=true->zl a.Kind 1 17=true/\zl a.Kind 13 17=false:=(by intro b;unfold zmz at b;cases g:zl a.Kind 1 17<;>cases j:zl a.Kind 13 17<;>rw [g,j]at b<;>first|exact⟨rfl,rfl⟩|cases b);constructor;{unfold zKL;cases b:zmz a with|true=>obtain⟨g,j⟩:=r b;rw[g,j,cond_true,cond_false,zoA,p b];(cases f:hasB a.M (ln h.Mons) with|true=>rw[cond_true,cond_true,znD f]|false=>rfl)|false=>rw[s b];unfold zmz at b;(cases g:zl a.Kind 1 17 with|false=>rfl|true=>(cases j:zl a.Kind 13 17 with|true=>rfl|false=>rw[g,j]at b;cases b))};{intro b;rw[t b];obtain⟨g,j⟩:=r b;unfold z0h;rw[g,j,cond_true,cond_false,zoA];cases f:hasB a.M (ln h.Mons) with|true=>rw[cond_true,znD f]|false=>rw[cond_false,seen_none f];have n:=(zRW a.G).2;have q:=zuZ;unfold zKK;simp only[n,zlz];unfold zk2 zf2 zkH zrF zzZ zTS zqc;simp only[q,zvf q,cond_false];(cases m:ieq a.Kind 10 with|true=>have:a.Kind=10:=zbz.1 m;rw[this];rfl|false=>cases ieq a.Kind 1<;>cases ieq a.Kind 2<;>cases ieq a.Kind 3<;>cases ieq a.Kind 4<;>cases ieq a.Kind 5<;>cases ieq a.Kind 6<;>cases ieq a.Kind 7<;>cases ieq a.Kind 8<;>cases ieq a.Kind 9<;>cases ieq a.Kind 11<;>rfl)}
def zMh:List GAct->List Told->List Told
 |a::l,t::ts=>bif zmz a then t::zMh l ts else zMh l ts
 |_,_=>[]
structure Live (u:Host×List Told) (v:List Bare×List Told):Prop where
 safe:Safe u.1
 seen:zd8 u.1=v.1
def zEu:List GAct->Host->List Told
 |[],_=>[]
 |a::l,h=>zcQ h a::zEu l (zbV h a)
def z5c:List GAct->List Bare->List Told
 |[],_=>[]
 |a::l,b=>z0h b a::z5c l (zKL b a)
def zwE:List GAct->Host->Host
 |[],h=>h
 |a::l,h=>zwE l (zbV h a)
def z6f:List GAct->List Bare->List Bare
 |[],b=>b
 |a::l,b=>z6f l (zKL b a)
def zZR:∀(l:List GAct) (u:Host×List Told),zD0 l u=(zwE l u.1,u.2++zEu l u.1)
 |[],u=>by simp[zD0,zwE,zEu]
 |a::l,u=>by rw[zD0,zZR l];simp[zwE,zEu,ap]
def z3q:∀(l:List GAct) {h:Host},Safe h->Safe (zwE l h)/\zd8 (zwE l h)=z6f l (zd8 h)/\zMh l (zEu l h)=zMh l (z5c l<|zd8 h)/\(zwE l h).Mons.length=h.Mons.length
 |[],h,S=>⟨S,rfl,rfl,rfl⟩
 |a::l,h,S=>by have d:=zT7 S a;have b:=zXG S a;obtain⟨e,f,c,g⟩:=z3q l d.1;refine⟨e,by show zd8 (zwE l<|zbV h a)=z6f l (zKL (zd8 h) a);rw[f,b.1],?_,g.trans d.2.1⟩;show (cond (zmz a) _ _)=(cond (zmz a) _ _);cases i:zmz a with|false=>rw[cond_false,cond_false,c,b.1]|true=>rw[cond_true,cond_true,c,b.1,b.2 i]
def cz8 (q:Int)(b:0<=q):zwb.countP (λs=>ieq s.Page q)=0:=by rw[vA];intro s a;have:=(uP.1 a).2;rw[this];show ¬ ieq (-1) q=true;rw[zbz];omega
def zXY {p:List Ins}(h:zd5 p=true):GOk (zgi p):=⟨h,rfl,rfl,rfl,rfl,rfl,rfl,rfl,rfl⟩
def z4d {a:List (List Ins)}(i:1<=a.length)(h:∀p∈a,zd5 p=true):MOk (ziB a):=by have d:∀s∈zwb,s=noSlot:=λs c=>(uP.1 c).2;refine⟨?_,?_,?_,rfl,λs c=>.inl (d s c),rfl,rfl,jX _,rfl,rfl,rfl,λg hg=>?_,λp b=>?_⟩;{show 1<=((a.take 2).map zgi).length;simp;omega};{show ((a.take 2).map zgi).length<=2;simp;omega};{show ((a.take 2).map λ_=>zmq).length=((a.take 2).map zgi).length;simp};{obtain⟨p,b,rfl⟩:=jH.1 hg;exact zuU.2 (zXY<|h p<|jY b)};{have f:=zG.1 b;have e:p=0\/p=1\/p=2\/p=3\/p=4\/p=5\/p=6\/p=7:=(by omega);rcases e with rfl|rfl|rfl|rfl|rfl|rfl|rfl|rfl<;>rfl}
def z9G (a:List (List<|List Ins)):Prop:=1<=a.length/\∀p∈a,1<=p.length/\∀x∈p,zd5 x=true
def z04 {a:List (List<|List Ins)}(h:z9G a):Safe (zg8 a):=by have b:∀x∈(zg8 a).Mons,∃p∈a,x=ziB p:=λx f=>(by obtain⟨p,j,rfl⟩:=jH.1 f;exact⟨p,jY j,rfl⟩);have u:∀x∈(zg8 a).Mons,x.Outer=zwb:=λx f=>(by obtain⟨p,_,rfl⟩:=b x f;rfl);have H:HOk (zg8 a):=(by refine⟨rfl,λc v=>?_,?_,?_,rfl,rfl,λx f=>?_,λq B=>?_⟩;{have:c=[0,0,0,0]:=(uP.1 v).2;rw[this];rfl};{show 1<=((a.take 3).map ziB).length;have:=h.1;simp;omega};{show ((a.take 3).map ziB).length<=3;simp;omega};{obtain⟨p,j,rfl⟩:=b x f;exact z4d (h.2 p j).1 (h.2 p j).2};{have:zgG (zg8 a).Mons q=0:=(by unfold zgG;have:(zg8 a).Mons.map (λx=>cPg x q)=(zg8 a).Mons.map (λ_=>0):=List.map_congr_left λx f=>(by unfold cPg;rw[u x f];exact cz8 q B);rw[this];generalize (zg8 a).Mons=l;induction l with|nil=>rfl|cons x l D=>rw[jG,uJ,D]);omega});refine⟨H,λm A g hg=>?_,λe r=>(by cases r),λe r=>(by cases r)⟩;obtain⟨p,j,e⟩:=b _ (znN A mZ);rw[e]at hg ⊢;have d:hasB g (ln<|(p.take 2).map zgi)=true:=hg;have C:ix (ziB p).Tables g kZ=zmq:=(by have:hasB g (ln<|(p.take 2).map λ_=>zmq)=true:=(by unfold ln at d ⊢;simpa using d);obtain⟨k,y,_,n⟩:=zAj this kZ;show ix ((p.take 2).map λ_=>zmq) g kZ=_;rw[n];simp);have z:(ix (ziB p).Guests g gZ).Live=znu:=(by obtain⟨k,y,_,n⟩:=zAj d gZ;show (ix ((p.take 2).map zgi) g gZ).Live=_;rw[n];simp[zgi]);rw[C,z];show KOk zmq znu zwb;refine⟨rfl,rfl,λi w=>?_⟩;have s:=zG.1 w;have:ln znu=4:=rfl;rw[this]at s;have t:i=0\/i=1\/i=2\/i=3:=(by omega);rcases t with rfl|rfl|rfl|rfl<;>rfl
def zJl {h:Host}{m:Int}(a:hasB m (ln h.Mons)=true):zAs h m=ix h.Mons m mZ:=by unfold zAs;rw[a];rfl
def zZW:∀(l:List GAct) (u:Host×List Told),SmH u.1->SmH (zD0 l u).1
 |[],u,h=>h
 |a::l,u,h=>zZW l (zbV u.1 a,ap u.2 [zcQ u.1 a]) (zE5 h)
def zVT {h:Host}(L:zEz h):Safe h/\SmH h:=by obtain⟨c,l,a,b,rfl⟩:=L;refine⟨?_,zZW _ _<|zZV a⟩;unfold zAd;rw[zZR];exact(z3q _<|z04 b).1
def z2P:zbf:=z2N
def zwz:zU z2P:=z2O
structure MonS (x:Mon):Prop where
 sm:zfz x
 g1:1<=x.Guests.length
 g2:x.Guests.length<=2
 t2:x.Tables.length<=2
 o8:x.Outer.length<=8
 pg:∀s∈x.Outer,I64 s.Page
structure AnyH (h:Host):Prop where
 mem:SmM h.Memory
 n1:1<=h.Mons.length
 n3:h.Mons.length<=3
 mons:∀x∈h.Mons,MonS x
 b1:h.Buffer.length<=1048576
 b2:h.IoBuffer.length<=1048576
def AnyH.sm {h:Host}(k:AnyH h):SmH h:=⟨k.mem,⟨qU k.n3 (by decide),λx a=>(k.mons x a).sm⟩,k.b1,k.b2⟩
def z7b {h:Host}(S:Safe h)(sm:SmH h):AnyH h :=
 ⟨sm.1,S.ok.n1,S.ok.n3,λx a=>by
  have k:=S.ok.mons x a;refine⟨sm.2.1.2 x a,k.g1,k.g2,by rw[k.gt];exact k.g2,by rw[k.o8];exact qV 8,λs b=>?_⟩
  rcases k.sl s b with rfl|⟨c,d,_⟩
  .exact⟨by decide,by decide⟩
  .exact⟨by omega,by omega⟩,sm.2.2.1,sm.2.2.2⟩
def zyx {h:Host}(k:AnyH h)(i:Int){x:Mon}(b:MonS x):AnyH {h with Mons:=up h.Mons i x} :=
 ⟨k.mem,by rw[zj4];exact k.n1,by rw[zj4];exact k.n3,λy a=>by
  rcases qZ a with a|rfl
  .exact k.mons y a
  .exact b,k.b1,k.b2⟩
def zbb9 {g:Guest}(h:GuS g):SmG g:=⟨qU h.1 (by decide),qU h.2.1 (by decide),qU h.2.2.1 (by decide),qU h.2.2.2 (by decide)⟩
def z7l {l:List Guest}(h:zmK l)(i:Int){g:Guest}(hg:SmG g):zmK (up l i g):=
 ⟨by rw[zj4];exact h.1,λy a=>by
  rcases qZ a with a|rfl
  .exact h.2 y a
  .exact hg⟩
def zba2 {l:List LI}(h:SmM l)(i:Int){g:LI}(hg:g.length<=1048576):SmM (up l i g):=
 ⟨by rw[zj4];exact h.1,λy a=>by
  rcases qZ a with a|rfl
  .exact h.2 y a
  .exact hg⟩
def zzI (N:Nat)(c:Cur)  : OA :=
 let j:=ziY c;let r:=({ (zkA c) with b:=c.b}:Cur);let f:=j.Mons;let k:=zu r<|ln f;let m:=inb k<|ln f;let g:=ix f k zh;let q:=({ (zf r<|ln f) with b:=c.b}:Cur);let e:=zf q 24;let l:=zu q 24;let a:=({e with b:=c.b}:Cur);let n:=zba a [-1,1000000000,1000000001];let p:=({ (zf a 8) with b:=c.b}:Cur); (oN (zgM c)<|oN (zD r<|ln f)<|oN (zD q 24)<|cond (ieq l 0) (oN (zg4 a 8 12)<|oN m<|share (up f k ({g with Outer:=(zgh a 8 12)}:Mon)) λd=>some [.agg [.s .u8 c.b,.i .i64 (zir a 8 12).i,.i .i64 (zir a 8 12).h],aH ({j with Mons:=d}:Host)])<|cond (ieq l 1) (oN m<|oN (zD a 8)<|oN (znk p)<|oN (inb (zu a 8)<|ln g.Out)<|share (up f k ({g with Out:=(up g.Out (zu a 8)<|zuI p)}:Mon)) λd=>some [.agg [.s .u8 c.b,.i .i64 (znl p).i,.i .i64 (znl p).h],aH ({j with Mons:=d}:Host)])<|cond (ieq l 2) (oN m<|oN (zri a)<|oN (inb 0<|ln g.Guests)<|share (up f k ({g with Guests:=(up g.Guests 0<|zAH a)}:Mon)) λd=>some [.agg [.s .u8 c.b,.i .i64 (zrj a).i,.i .i64 (zrj a).h],aH ({j with Mons:=d}:Host)])<|cond (ieq l 3) (oN m<|share (up f k ({g with Tables:=[]}:Mon)) λd=>some [.agg [.s .u8 c.b,.i .i64 e.i,.i .i64 e.h],aH ({j with Mons:=d}:Host)])<|cond (ieq l 4) (oN (zmf a)<|some [.agg [.s .u8 c.b,.i .i64 (zmg a).i,.i .i64 (zmg a).h],aH ({j with Buffer:=(zsJ a)}:Host)])<|cond (ieq l 5) (oN (znm a)<|oN m<|share (up f k ({g with Traps:=(zuJ a)}:Mon)) λd=>some [.agg [.s .u8 c.b,.i .i64 (znn a).i,.i .i64 (znn a).h],aH ({j with Mons:=d}:Host)])<|cond (ieq l 6) (oN (zbB a [-1,1000000000,1000000001])<|oN m<|share (up f k ({g with Own:=(zbt a [-1,1000000000,1000000001])}:Mon)) λd=>some [.agg [.s .u8 c.b,.i .i64 n.i,.i .i64 n.h],aH ({j with Mons:=d}:Host)])<|cond (ieq l 7) (oN (zq7 a)<|some [.agg [.s .u8 c.b,.i .i64 (zkc a).i,.i .i64 (zkc a).h],aH ({j with Memory:=(zr4 a)}:Host)])<|some [.agg [.s .u8 c.b,.i .i64 e.i,.i .i64 e.h],aH j])
def zsR (c:Cur)(s:Cur)(a:Host):Prop:=(∃N,zzI N c=some (AV.agg (zcl s)::[aH a]))/\(s.b=c.b/\0<=s.i)/\(AnyH a)
def zok (c:Cur)  : Bool:=wC (zsR c)
def zlY (c:Cur)  : Cur:=wS (zsR c)
def znp (c:Cur)  : Host:=wV (zsR c)
def zM9 {c:Cur}(h:zok c=true):zsR c (zlY c) (znp c):=wG h
def z14 (c:Cur)  : 0<=(zlY c).i:=wP λh=>h.2.1.2
def z1Z (c:Cur)(h:∃N,Ends (wE (λa=>aH a) c.b λa=>AnyH a)<|zzI N c):zok c=true:=wI (λ_ _ h=>h) h
def zBv:zeR:=rP0 λc=>(zok c,zlY c,[aH<|znp c])
def zO1:zcc Tryz.prog 38 [false,true,true] zBv:=hP0 zwz zbo zWl zq (zo []) (λ_ h=>(zM9 h).1)
def z3G {c:Cur}(h:zbk c):zok c=true:=by
 refine z1Z c ⟨0,?_⟩;unfold zzI oN;conv=>zeta
 obtain⟨S,sm⟩:=zVT (zx7<|zMf h).2.2;have A:=z7b S sm;have q:∀{s:Cur},0<=s.i->zbk {s with b:=c.b}:=λy=>zb0 h y;have w:zbk {zkA c with b:=c.b}:=q (zYM _);have l:0<ln (ziY c).Mons:=by have:=A.n1;unfold ln;omega
 have a:=zwv w l (kL _);have u:=zbO a zh;generalize B:ziY c=H at *;generalize zu {zkA c with b:=c.b} (ln H.Mons)=m at *;have M:=A.mons _ u;have x:=S.ok.mons _ u;generalize C:ix H.Mons m zh=X at *;obtain⟨p,e,f,j,k,t⟩:=M.sm;have d:∀{n},zbk {zf {zf {zkA c with b:=c.b} n with b:=c.b} 24 with b:=c.b}:=λ{n}=>q (zJ _ _);refine zI (zMf h) (zI (zbF w _) (zI (zbF (q<|zJ _ _) 24)
  (zbK (λ_=>zI (zp8 d (by omega) (by omega) _) (zI a<|znJ<|zbU aH (v:={H with Mons:=up H.Mons m {X with Outer:=zgh _ _ _}}) (zq3 _ _ _)<|zyx A m ?_))
  (λ_=>zbK (λ_=>zI a (zI (zbF d 8)<|zI (zZj<|q<|zJ _ _)<|zI (zwv d (by omega) ?_)<|znJ<|zbU aH (v:={H with Mons:=up H.Mons m {X with Out:=up X.Out _ (zuI _)}}) (zWC _)<|zyx A m ?_))
  (λ_=>zbK (λ_=>zI a (zI (zKI d)<|zI ?_<|znJ<|zbU aH (v:={H with Mons:=up H.Mons m {X with Guests:=up X.Guests 0 (zAH _)}}) (z1W _)<|zyx A m ?_))
  (λ_=>zbK (λ_=>zI a (znJ<|zbU aH (v:={H with Mons:=up H.Mons m {X with Tables:=[]}}) (zJ _ _)<|zyx A m ?_))
  (λ_=>zbK (λ_=>zI (zUf d) (zbU aH (v:={H with Buffer:=zsJ _}) (zTm _) ⟨A.mem,A.n1,A.n3,A.mons,qU (zBS<|zUf d).2.2 (by decide),A.b2⟩))
  (λ_=>zbK (λ_=>zI (zba5 d) (zI a<|znJ<|zbU aH (v:={H with Mons:=up H.Mons m {X with Traps:=zuJ _}}) (zWH _)<|zyx A m ?_))
  (λ_=>zbK (λ_=>zI (zgs d (by simp)) (zI a<|znJ<|zbU aH (v:={H with Mons:=up H.Mons m {X with Own:=zbt _ _}}) (zcu _ _)<|zyx A m ?_))
  (λ_=>zbK (λ_=>zI (zU9 d) (zbU aH (v:={H with Memory:=zr4 _}) (z1J _) ⟨?_,A.n1,A.n3,A.mons,A.b1,A.b2⟩))
  (λ_=>zbU aH (v:=H) (zJ _ _) A)))))))))))
 {have g:=(zq2<|zp8 (d (n:=ln H.Mons)) (n:=8) (by omega) (by omega) 12).2.2 (by omega) (by omega);refine⟨⟨?_,e,f,j,k,t⟩,M.g1,M.g2,M.t2,?_,g.2 (by omega) (by omega)⟩;{have:=g.1;unfold ln at this;exact qU (m:=8) (by exact Int.ofNat_le.1 this) (by decide)};{have:=g.1;unfold ln at this;exact Int.ofNat_le.1 this}};{unfold ln;rw[x.u8];decide};{exact⟨⟨p,zba2 e _<|qU (zEf<|zZj<|q<|zJ _ _).2.2 (by decide),f,j,k,t⟩,M.g1,M.g2,M.t2,M.o8,M.pg⟩};{exact qJ (by have:=M.g1;unfold ln;omega)};{exact⟨⟨p,e,f,z7l j 0<|zbb9 (zM7<|zKI d).2.2,k,t⟩,by rw[zj4];exact M.g1,by rw[zj4];exact M.g2,M.t2,M.o8,M.pg⟩};{exact⟨⟨p,e,f,j,k,⟨by simp,by simp⟩⟩,M.g1,M.g2,by simp,M.o8,M.pg⟩};{exact⟨⟨p,e,f,j,k,t⟩,M.g1,M.g2,M.t2,M.o8,M.pg⟩};{exact⟨⟨p,e,f,j,k,t⟩,M.g1,M.g2,M.t2,M.o8,M.pg⟩};{have g:=(zM5<|zU9<|d (n:=ln H.Mons)).2.2;exact⟨qU g.1 (by decide),λr z=>qU (g.2 r z) (by decide)⟩}
def z9t:zdj:=[(38,[false,true,true],zBv)]++z9s
def z6S:zco z9t:=zcZ zWl (by
 intro x a;simp only[qG,qN,or_false]at a;rcases a with rfl
 .exact zO1)
def zCR (N:Nat)(c:Cur)  : OA :=
 let a:=zba c [0,0,0,1,1,2,-1,9223372036854775807]; (oN (zbB c [0,0,0,1,1,2,-1,9223372036854775807])<|some [.agg [.s .u8 c.b,.i .i64 a.i,.i .i64 a.h],aI<|zbt c [0,0,0,1,1,2,-1,9223372036854775807]])
def zuK (c:Cur)(s:Cur)(a:Int):Prop:=(∃N,zCR N c=some (AV.agg (zcl s)::[aI a]))/\(s.b=c.b/\0<=s.i)/\(True)
def znq (c:Cur)  : Bool:=wC (zuK c)
def zxu (c:Cur)  : Cur:=wS (zuK c)
def zzq (c:Cur)  : Int:=wV (zuK c)
def z4F {c:Cur}(h:znq c=true):zuK c (zxu c) (zzq c):=wG h
def z4G (c:Cur)(h:∃N,Ends (wE (λa=>aI a) c.b λa=>True)<|zCR N c):znq c=true:=wI (λ_ _ h=>h) h
def zvS:zeR:=rP0 λc=>(znq c,zxu c,[aI<|zzq c])
def zBi:zcc Tryz.prog 67 [false,true,true] zvS:=hP0 zwz zbo zvM zq (zo []) (λ_ h=>(z4F h).1)
def at_t {c:Cur}(h:zbk c):znq c=true:=by
 refine z4G c ⟨0,?_⟩;unfold zCR oN;conv=>zeta
 exact zI (zgs h (by simp)) (zbU aI (zcu _ _) trivial)
def zbcI:zdj:=[(67,[false,true,true],zvS)]++z1B
def z6Q:zco zbcI:=zcZ zvM (by
 intro x a;simp only[qG,qN,or_false]at a;rcases a with rfl
 .exact zBi)
def z0d (N:Nat)(c:Cur)  : OA :=
 let a:=zjC c;let e:=({ (zfg c) with b:=c.b}:Cur);let f:=zu e 10;let d:=({ (zf e 10) with b:=c.b}:Cur);let g:=zba d [-1,4,8,16,100,9223372036854775807]; (oN (zhX c)<|oN (zD e 10)<|cond (ieq f 0) (oN (zD d 20)<|some [.agg [.s .u8 c.b,.i .i64 (zf d 20).i,.i .i64 (zf d 20).h],.agg [.i .i64<|wsub .i64 (zu d 20) 1,.i .i64 a.M,.i .i64 a.G,.i .i64 a.X,.i .i64 a.Y,.i .i64 a.Z]])<|cond (ieq f 1) (oN (znq d)<|some [.agg [.s .u8 c.b,.i .i64 (zxu d).i,.i .i64 (zxu d).h],.agg [.i .i64 a.Kind,.i .i64<|zzq d,.i .i64 a.G,.i .i64 a.X,.i .i64 a.Y,.i .i64 a.Z]])<|cond (ieq f 2) (oN (zbB d [-1,4,8,16,100,9223372036854775807])<|some [.agg [.s .u8 c.b,.i .i64 g.i,.i .i64 g.h],.agg [.i .i64 a.Kind,.i .i64 a.M,.i .i64 a.G,.i .i64<|zbt d [-1,4,8,16,100,9223372036854775807],.i .i64 a.Y,.i .i64 a.Z]])<|cond (ieq f 3) (oN (zbB d [-1,0,1,4])<|some [.agg [.s .u8 c.b,.i .i64 (zba d [-1,0,1,4]).i,.i .i64 (zba d [-1,0,1,4]).h],.agg [.i .i64 a.Kind,.i .i64 a.M,.i .i64 a.G,.i .i64 a.X,.i .i64 a.Y,.i .i64<|zbt d [-1,0,1,4]]])<|some [.agg [.s .u8 c.b,.i .i64 (zf e 10).i,.i .i64 (zf e 10).h],.agg [.i .i64 a.Kind,.i .i64 a.M,.i .i64 a.G,.i .i64 a.X,.i .i64 a.Y,.i .i64 a.Z]])
def zsU (c:Cur)(s:Cur)(a:GAct):Prop:=(∃N,z0d N c=some (AV.agg (zcl s)::[aT .act a]))/\(s.b=c.b/\0<=s.i)/\(True)
def zNb (c:Cur)  : Bool:=wC (zsU c)
def zNc (c:Cur)  : Cur:=wS (zsU c)
def zWM (c:Cur)  : GAct:=wV (zsU c)
def z18 {c:Cur}(h:zNb c=true):zsU c (zNc c) (zWM c):=wG h
def zBx:zeR:=rP0 λc=>(zNb c,zNc c,[aT .act<|zWM c])
def zO6:zcc Tryz.prog 88 [false,true,true] zBx:=hP0 zwz zbo z6Q zq (zo []) (λ_ h=>(z18 h).1)
def zbcJ:zdj:=[(67,[false,true,true],zvS),(88,[false,true,true],zBx)]++z9t
def z6T:zco zbcJ:=zcZ z6S (by
 intro x a;simp only[qG,qN,or_false]at a;rcases a with rfl|rfl
 .exact zBi
 .exact zO6)
def z8m:zbf:=[(202,zl8)]++z2P
def z5T:zU z8m:=zi zwV zwz
def z2J {a:LI}(h:a.length<=big){G:Ans->Prop}{N:Nat}(l:a.length<N){g:Int}{R:Int->OA}{d:Type}(S:Int->Int->d){F:(d->OA)->d->OA}(k:∀rec i t,F rec (S i t)=bif ilt i (ln a) then (cond (ilt i 4000) (cond (inb i<|ln a) (rec<|S (zQ .i64 i 1)<|wand .i64 (zQ .i64 (zQ .i64 (znw .i64 t 131)<|wcv .i64<|ix a i 0) 7) 1073741823) none)<|R t) else R t)(e:∀t,zbk ⟨a,0,t⟩->Ends G (R t)):Ends G (iter N F<|S 0 g):=by refine zl2 (λn s=>∃(i:Nat) (t:Int),s=S (i:Int) t/\i+n=a.length) ?_ N a.length _ ⟨0,g,rfl,by omega⟩ l;rintro n s rec ⟨i,t,rfl,p⟩ b;rw[k];have f:zbk ⟨a,0,t⟩:=⟨kL 0,h⟩;refine zbK (λj=>zbK (λm=>?_) λ_=>e t f) (λ_=>e t f);have c:(i:Int)<ln a:=qD j;unfold ln at c;rw[zbi (show i<a.length by omega) h];exact zI (qJ ⟨by omega,by unfold ln;omega⟩) (b (n-1) _ (by omega) ⟨i+1,_,rfl,by omega⟩)
def q_of {b:LI}(h:b.length<=big){s:Cur}(a:0<=s.i):zbk {s with b:=b}:=⟨a,h⟩
def z8n:zbf:=z8m
def z5U:zU z8n:=z5T
def z8o:zbf:=z8n
def z5V:zU z8o:=z5U
def z8p:zbf:=z8o
def zUs:zU z8p:=z5V
def zkG (N:Nat)(u:LI):OA:=
 (iter (σ:=(Int×Int×LI×lA×lM×lN×lE×lE×Unit)) N (λv c=>let g:=c.2.2.2.2.2.2.1;let t:=c.2.2.2.2.2.2.2.1;let k:=c.2.2.1;let j:=(⟨k,0,c.1⟩:Cur);let d:=znp j; (cond (ilt c.2.1<|ln k) (cond (ilt c.2.1 4000) (oN (inb c.2.1<|ln k)<|v (wand .i64 (zQ .i64 (zQ .i64 (znw .i64 c.1 131)<|wcv .i64<|ix k c.2.1 0) 7) 1073741823,zQ .i64 c.2.1 1,k,c.2.2.2.1,c.2.2.2.2.1,c.2.2.2.2.2.1,g,t,()))<|oN (zok j)<|iter (σ:=(Int×Int×Int×lA×lM×lN×lE×lE×LI×lM×lN×lE×lE×Unit)) N (λn a=>let l:=a.2.2.2.2.2.2.2.2.2.2.2.2.1;let r:=a.2.2.2.2.2.2.2.2.1;let p:=(⟨r,a.2.1,a.2.2.1⟩:Cur);let e:=({ (zf p 8) with b:=r}:Cur); (oN (zD p 8)<|cond (ilt a.1<|zu p 8) (oN (zhX e)<|oN (few<|ln<|ap a.2.2.2.1 [zjC e])<|n (zQ .i64 a.1 1,(zfg e).i,(zfg e).h,ap a.2.2.2.1 [zjC e],a.2.2.2.2.1,a.2.2.2.2.2.1,a.2.2.2.2.2.2.1,a.2.2.2.2.2.2.2.1,r,a.2.2.2.2.2.2.2.2.2.1,a.2.2.2.2.2.2.2.2.2.2.1,a.2.2.2.2.2.2.2.2.2.2.2.1,l,()))<|oN (znq e)<|some [aH (⟨a.2.2.2.2.2.2.2.2.2.1,a.2.2.2.2.2.2.2.2.2.2.1,a.2.2.2.2.2.2.2.2.2.2.2.1,l⟩:Host),aI<|zzq e,aS .act a.2.2.2.1])) (0,(zlY j).i,(zlY j).h,[],c.2.2.2.2.1,c.2.2.2.2.2.1,g,t,k,d.Memory,d.Mons,d.Buffer,d.IoBuffer,()))<|oN (zok j)<|iter (σ:=(Int×Int×Int×lA×lM×lN×lE×lE×LI×lM×lN×lE×lE×Unit)) N (λn a=>let m:=a.2.2.2.2.2.2.2.2.2.2.2.2.1;let s:=a.2.2.2.2.2.2.2.2.1;let q:=(⟨s,a.2.1,a.2.2.1⟩:Cur);let f:=({ (zf q 8) with b:=s}:Cur); (oN (zD q 8)<|cond (ilt a.1<|zu q 8) (oN (zhX f)<|oN (few<|ln<|ap a.2.2.2.1 [zjC f])<|n (zQ .i64 a.1 1,(zfg f).i,(zfg f).h,ap a.2.2.2.1 [zjC f],a.2.2.2.2.1,a.2.2.2.2.2.1,a.2.2.2.2.2.2.1,a.2.2.2.2.2.2.2.1,s,a.2.2.2.2.2.2.2.2.2.1,a.2.2.2.2.2.2.2.2.2.2.1,a.2.2.2.2.2.2.2.2.2.2.2.1,m,()))<|oN (znq f)<|some [aH (⟨a.2.2.2.2.2.2.2.2.2.1,a.2.2.2.2.2.2.2.2.2.2.1,a.2.2.2.2.2.2.2.2.2.2.2.1,m⟩:Host),aI<|zzq f,aS .act a.2.2.2.1])) (0,(zlY j).i,(zlY j).h,[],c.2.2.2.2.1,c.2.2.2.2.2.1,g,t,k,d.Memory,d.Mons,d.Buffer,d.IoBuffer,()))) (zQ .i64 94701<|ln u,0,u,[],[],[],[],[],()))
def zCd:=zo [(39,0,{n:=32,tm:=[(0,.sl 0 []),(3,ti),(4,ti)],lo:=[(0,[.sl 2 [],.sl 3 [],.sl 4 [],.sl 5 []])],ro:=[(0,.u8,false),(1,.act,true),(2,.sl .int,true),(3,.mon,true),(4,.entry,true),(5,.entry,true)],sk:=[(0,2,0,.lp 0 0),(0,4,0,.sl 1 [])]}),(25,0,{n:=29,tm:=[(2,.lp 0 0),(5,.lp 1 0),(6,.lp 2 0),(7,.sl 0 []),(8,ti)],lo:=[(0,[.sl 1 [],.sl 2 [],.sl 3 [],.sl 4 []]),(1,[.sl 5 [],ti,ti]),(2,[.sl 6 [],.sl 7 [],.sl 8 [],.sl 9 []])],ro:=[(0,.act,true),(1,.sl .int,true),(2,.mon,true),(3,.entry,true),(4,.entry,true),(5,.u8,false),(6,.sl .int,false),(7,.mon,true),(8,.entry,true),(9,.entry,true)]})]
def zne (c:LI)(a:Host)(d:Int)(b:List GAct):Prop:=(∃N,zkG N c=some [aH a,aI d,aS .act b])/\(AnyH a/\b.length<=8)
def zha (a:LI):Bool:=uC (T:=Host×Int×List GAct) (λr=>zne a r.1 r.2.1 r.2.2)
def zox (a:LI):Host×Int×List GAct:=uV (λr=>zne a r.1 r.2.1 r.2.2)
def zov (a:LI):Host:=(zox a).1
def zow (a:LI):Int:=(zox a).2.1
def ziD (a:LI):List GAct:=(zox a).2.2
def zug {a:LI}(h:zha a=true):zne a (zov a) (zow a) (ziD a):=uG h
def zFZ (f:LI)(h:∃N,Ends (λa=>∃b d c,a=[aH b,aI d,aS .act c]/\(AnyH b/\c.length<=8))<|zkG N f):zha f=true:=by obtain⟨N,a,e,b,d,c,rfl,h⟩:=h;exact zbh ⟨(b,d,c),⟨N,e⟩,h⟩
def zrz:Run:=rF1 (dS .u8) λb=>(zha b,[aH<|zov b,aI<|zow b,aS .act<|ziD b])
def zCa (a:LI)(b:zha a=true):∃N,zkG N a=some [aH<|zov a,aI<|zow a,aS .act<|ziD a]:=by exact(zug b).1
def zyK:vO 25 zrz:=kF1 zUs zbo z6T zq zCd zCa
def zwD {a:LI}(h:a.length<=big):zha a=true:=by
 refine zFZ a (zcy λN c=>?_);unfold zkG oN;conv=>zeta
 have r:8<N:=c (by rw[zpJ];omega);refine z2J h (c h) ((λi t=>(t,(i:Int),a,[],[],[],[],[],())):Int->Int->_) (λrec i t=>by dsimp only) (λt m=>?_);have g:=(zM9<|z3G m).2.2;refine zI (z3G m) (zl2 (λn s=>∃(k:Nat) (i x:Int) (l:List GAct),s=((k:Int),i,x,l,[],[],[],[],a,(znp ⟨a,0,t⟩).Memory,(znp ⟨a,0,t⟩).Mons,(znp ⟨a,0,t⟩).Buffer,(znp ⟨a,0,t⟩).IoBuffer,())/\k+n=8/\0<=i/\l.length=k) ?_ N 8 _ ⟨0,_,_,[],rfl,rfl,z14 _,rfl⟩ r);rintro n s rec ⟨k,i,x,l,rfl,u,e,f⟩ d;dsimp only;have b:zbk ⟨a,i,x⟩:=⟨e,h⟩;have v:=zgS b (n:=8) (by omega);have j:=q_of h (zJ ⟨a,i,x⟩ 8);refine zI (zbF b _) (zbK (λp=>?_) λ_=>zI (at_t j) ⟨_,rfl,znp ⟨a,0,t⟩,_,l,rfl,g,by omega⟩);have q:=qD p;refine zI (z7C j) (zI (zl3 (by rw[ziK];unfold ln;omega))<|d (n-1) _ (by omega) ?_);rw[zp0 (show -9223372036854775808<=(k:Int)+1 by omega) (by omega)];exact⟨k+1,_,_,_,rfl,by omega,zNa _,by simp[ap,f]⟩
def z8q:zbf:=[(25,zrz)]++z8p
def zUt:zU z8q:=zi zyK zUs
structure Clear (h:Host) (m p:Int):Prop where
 d:ix (ix h.Mons m mZ).Dirty p false=false
 s:(ix (ix h.Mons m mZ).Outer p sZ).Page≠-1->(ix (ix h.Mons m mZ).Outer p sZ).Rights=1/\(∀e∈h.Buffer,e.Host≠(ix (ix h.Mons m mZ).Outer p sZ).Page)/\(∀e∈h.IoBuffer,e.Host≠(ix (ix h.Mons m mZ).Outer p sZ).Page)/\
  ∀g i,hasB g (ln (ix h.Mons m mZ).Guests)=true->hasB i (ln (ix (ix h.Mons m mZ).Guests g gZ).Live)=true->(ix (ix (ix h.Mons m mZ).Guests g gZ).Live i sZ).Page=p->ix (ix (ix h.Mons m mZ).Tables g kZ).Known i false=false
def zDj {h:Host}(H:HOk h){m p:Int}(a:hasB m (ln h.Mons)=true)(b:hasB p 8=true) :
 ((ix (ix h.Mons m mZ).Outer p sZ).Page = -1/\zeW h m p=zgz h m p)\/((ix (ix h.Mons m mZ).Outer p sZ).Page≠-1/\zeW h m p=zcx (zgz h m p) m p ⟨(ix (ix h.Mons m mZ).Outer p sZ).Page,1⟩):=by
 have c:zb3 h m p=true:=zh7.2 ⟨H,a,b⟩;unfold zeW;rw[c,cond_true]
 by_cases e:(ix (ix h.Mons m mZ).Outer p sZ).Page = -1
 .exact .inl ⟨e,by rw[show zdv (ix (ix h.Mons m zh).Outer p zV) noSlot=true from zol.2 (((H.mon a).slot b).none e),cond_true]⟩
 .exact .inr ⟨e,by rw[show zdv (ix (ix h.Mons m zh).Outer p zV) noSlot=false from zpW.2 λh=>e (by rw[show ix (ix _ m mZ).Outer p sZ=noSlot from h];rfl),cond_false]⟩
def zuN {h:Host}{m:Int}(a:hasB m (ln h.Mons)=true)(p:Int):ix (zgz h m p).Mons m mZ=zoX (ix h.Mons m mZ) p:=zbm a _ _
def zY6 {h:Host}{m:Int}(p i:Int):hasB i (ln (zgz h m p).Mons)=hasB i (ln h.Mons):=by show hasB i (ln<|up h.Mons m _)=_;rw[zd4]
def zHv {h:Host}{m p:Int}(a:hasB m (ln h.Mons)=true)(s:Slot):ix (zcx (zgz h m p) m p s).Mons m mZ=ziN (zoX (ix h.Mons m mZ) p) p s:=by rw[zmk,zbm (by rw[zY6];exact a),zuN a]
def zXW {h:Host}(S:Safe h){m p q:Int}(c:hasB m (ln h.Mons)=true)(B:hasB p 8=true)(n:hasB q 8=true)(v:p=q\/Clear h m p):Clear (zeW h m q) m p:=by
 have H:=S.ok;have X:=H.mon c;have A:ix (up (ix h.Mons m mZ).Dirty q false) p false=false:=(by by_cases e:q=p;{subst e;exact zbm (X.hasD n) _ _};{rw [zbA (zG.1 n).1 (zG.1 B).1 e];rcases v with a|a;{exact absurd a.symm e};{exact a.d}});rcases zDj H c n with⟨e,r⟩|⟨e,r⟩;{rw [r];refine⟨by rw[zuN c];exact A,?_⟩;rw[zuN c];show (ix (ix h.Mons m mZ).Outer p sZ).Page≠-1->_;intro k;rcases v with a|a;{subst a;exact absurd e k};{exact a.s k}}
 .rw [r];have u:=zxy (zgz h m q) m q ⟨(ix (ix h.Mons m mZ).Outer q sZ).Page,1⟩;rw[zuN c,show (ix (zoX (ix h.Mons m mZ) q).Outer q sZ).Page=(ix (ix h.Mons m mZ).Outer q sZ).Page from rfl,zcf.2 e,cond_false,cond_false]at u
  have I:ix (up (ix h.Mons m mZ).Outer q ⟨(ix (ix h.Mons m mZ).Outer q sZ).Page,1⟩) p sZ=(if p=q then ⟨(ix (ix h.Mons m mZ).Outer q sZ).Page,1⟩ else ix (ix h.Mons m mZ).Outer p sZ):=by
   by_cases a:p=q
   .subst a;rw[if_pos rfl];exact zbm (X.hasO n) _ _
   .rw [if_neg a,zbA (zG.1 n).1 (zG.1 B).1<|Ne.symm a]
  refine⟨by rw[zHv c];exact A,?_⟩;rw[zHv c,u.1,u.2];show (ix (up (ix h.Mons m mZ).Outer q ⟨(ix (ix h.Mons m mZ).Outer q sZ).Page,1⟩) p sZ).Page≠-1->(ix (up (ix h.Mons m mZ).Outer q ⟨(ix (ix h.Mons m mZ).Outer q sZ).Page,1⟩) p sZ).Rights=1/\(∀e∈flushed h.Buffer _,e.Host≠(ix (up (ix h.Mons m mZ).Outer q ⟨(ix (ix h.Mons m mZ).Outer q sZ).Page,1⟩) p sZ).Page)/\(∀e∈flushed h.IoBuffer _,e.Host≠(ix (up (ix h.Mons m mZ).Outer q ⟨(ix (ix h.Mons m mZ).Outer q sZ).Page,1⟩) p sZ).Page)/\∀g i,hasB g (ln (ix h.Mons m mZ).Guests)=true->hasB i (ln (ix (ix h.Mons m mZ).Guests g gZ).Live)=true->(ix (ix (ix h.Mons m mZ).Guests g gZ).Live i sZ).Page=p->ix (ix (zjJ (ix h.Mons m mZ).Guests q (ix h.Mons m mZ).Tables.length (ix h.Mons m mZ).Tables) g kZ).Known i false=false;rw[I];have y:∀g i,hasB g (ln (ix h.Mons m mZ).Guests)=true->hasB i (ln (ix (ix h.Mons m mZ).Guests g gZ).Live)=true->(ix (ix (ix h.Mons m mZ).Guests g gZ).Live i sZ).Page=p->(p≠q->ix (ix (ix h.Mons m mZ).Tables g kZ).Known i false=false)->ix (ix (zjJ (ix h.Mons m mZ).Guests q (ix h.Mons m mZ).Tables.length (ix h.Mons m mZ).Tables) g kZ).Known i false=false:=(by intro g i hg f b L;have l:=zG.1 hg;unfold ln at l;have K:=S.rt.t m c g hg;rw[zzt _ _ _ _ (qV _) _ l.1,if_pos (by have:=X.gt;omega)];have w:hasB i (ln (ix (ix h.Mons m mZ).Tables g kZ).Known)=true:=(by unfold ln at f ⊢;rwa [K.l1]);have z:=zmT (zrt (ix (ix h.Mons m mZ).Guests g gZ).Live q) (by rw[K.l1,K.l2]) w;unfold zgd;by_cases a:p=q;{exact(z.1<|znv.2 ⟨f,by rw[b,a]⟩).1};{rw [(z.2 λJ=>a (by rw[<- b,(znv.1 J).2])).1];exact L a});by_cases a:p=q;{rw [if_pos a];exact λ_=>⟨rfl,λx j=>by have:=(kV.1 j).2;simpa [ieq] using this,λx j=>by have:=(kV.1 j).2;simpa [ieq] using this,λg i hg f b=>y g i hg f b λk=>absurd a k⟩};{rw [if_neg a];intro k;have C:Clear h m p:=v.resolve_left a;obtain⟨D,E,F,G⟩:=C.s k;exact⟨D,λx j=>E x (kV.1 j).1,λx j=>F x (kV.1 j).1,λg i hg f b=>y g i hg f b λ_=>G g i hg f b⟩}
def zDg {b:List Entry}{p:Int}(h:∀e∈b,e.Host≠p):flushed b p=b:=List.filter_eq_self.2 λe a=>by simp[ieq,h e a]
def zXU {k:Kept}{l o:List Slot}(K:KOk k l o){p:Int}(h:∀i,hasB i (ln l)=true->(ix l i sZ).Page=p->ix k.Known i false=false):zgd k l p=k:=by have j:=ztN (zrt l p) k;have n:(zgd k l p).Known=k.Known:=zuX false j.1 λi g=>(by have d:hasB i (ln k.Known)=true:=(by unfold ln at g ⊢;rw[<- j.1];exact g);have c:hasB i (ln l)=true:=(by unfold ln at d ⊢;rw[<- K.l1];exact d);have f:=zmT (zrt l p) (by rw[K.l1,K.l2]) d;by_cases e:(ix l i sZ).Page=p;{exact(f.1<|znv.2 ⟨c,e⟩).1.trans (h i c e).symm};{exact(f.2 λm=>e (znv.1 m).2).1});have q:(zgd k l p).Slots=k.Slots:=zuX sZ j.2 λi g=>(by have c:hasB i (ln l)=true:=(by unfold ln at g ⊢;rw[<- K.l2,<- j.2];exact g);have d:hasB i (ln k.Known)=true:=(by unfold ln at c ⊢;rw[K.l1];exact c);have f:=zmT (zrt l p) (by rw[K.l1,K.l2]) d;by_cases e:(ix l i sZ).Page=p;{exact(f.1<|znv.2 ⟨c,e⟩).2.trans (by rw[K.at' i c,h i c e];rfl)};{exact(f.2 λm=>e (znv.1 m).2).2});cases r:zgd k l p with|mk a b=>rw[r] at n q;cases k;cases n;cases q;rfl
def z3F {h:Host}(S:Safe h){m p:Int}(c:hasB m (ln h.Mons)=true)(k:hasB p 8=true)(C:Clear h m p):zeW h m p=h:=by have H:=S.ok;have X:=H.mon c;have A:zoX (ix h.Mons m mZ) p=ix h.Mons m mZ:=(by unfold zoX;have:=zpH (X.hasD k) false;rw[C.d] at this;rw[this]);have l:zgz h m p=h:=(by unfold zgz;rw[show zoX (ix h.Mons m zh) p=ix h.Mons m mZ from A,zpH c mZ]);rcases zDj H c k with⟨e,i⟩|⟨e,i⟩;{rw [i,l]};{obtain⟨q,u,v,w⟩:=C.s e;have z:(⟨(ix (ix h.Mons m mZ).Outer p sZ).Page,1⟩:Slot)=ix (ix h.Mons m mZ).Outer p sZ:=zJG rfl q.symm;have f:=zxy h m p ⟨(ix (ix h.Mons m mZ).Outer p sZ).Page,1⟩;rw[zcf.2 e,cond_false,cond_false,zDg u,zDg v]at f;have x:zjJ (ix h.Mons m mZ).Guests p (ix h.Mons m mZ).Tables.length (ix h.Mons m mZ).Tables=(ix h.Mons m mZ).Tables:=zuX kZ (ztw _ _ _ _) λg hg=>(by have a:=zG.1 hg;unfold ln at a;rw[ztw]at a;have b:hasB g (ln (ix h.Mons m mZ).Guests)=true:=zG.2 (by have:=X.gt;unfold ln;omega);rw[zzt _ _ _ _ (qV _) _ a.1,if_pos (by omega)];exact zXU (S.rt.t m c g b) (w g · b));have y:ziN (ix h.Mons m mZ) p ⟨(ix (ix h.Mons m mZ).Outer p sZ).Page,1⟩=ix h.Mons m mZ:=(by unfold ziN zjD;rw[x,z,zpH<|X.hasO k]);have j:=zmk h m p ⟨(ix (ix h.Mons m mZ).Outer p sZ).Page,1⟩;rw[y,zpH c]at j;have n:=zsV h m p ⟨(ix (ix h.Mons m mZ).Outer p sZ).Page,1⟩;rw[i,l];generalize zcx h m p ⟨(ix (ix h.Mons m mZ).Outer p sZ).Page,1⟩=r at f j n;cases r;cases h;cases f.1;cases f.2;cases j;cases n;rfl}
def zzR (m:Int):∀(n i:Nat) {h:Host},Safe h->hasB m (ln h.Mons)=true->i+n<=8->(∀p:Int,0<=p->p<i->Clear h m p)->
 Op h (zho m n i h)/\∀p:Int,0<=p->p<(i+n:Nat)->Clear (zho m n i h) m p
 | 0,i,h,S,d,g,b=>⟨Op.refl S.ok,b⟩
 |n+1,i,h,S,d,g,b=>by have k:=zRx S.ok m (i:Int);have c:hasB (i:Int) 8=true:=zG.2 (by omega);obtain⟨j,l⟩:=zzR m n (i+1) (h:=zeW h m (i:Int)) (k.safe S) (by rw[k.like.has];exact d) (by omega) λp a f=>(by refine zXW S d (zG.2 (by omega)) c ?_;by_cases e:p=i;{exact .inl e};{exact .inr (b p a (by omega))});exact⟨k.trans j,λp a f=>l p a (by omega)⟩
def zGT (m:Int):∀(n i:Nat) {h:Host},Safe h->hasB m (ln h.Mons)=true->i+n<=8->(∀p:Int,0<=p->p<8->Clear h m p)->zho m n i h=h
 | 0,i,h,S,b,c,a=>rfl
 |n+1,i,h,S,b,c,a=>by have e:=z3F S b (zG.2 (by omega)) (a (i:Int) (by omega) (by omega));rw[zho,e];exact zGT m n (i+1) S b (by omega) a
def z0m {h:Host}(S:Safe h){m:Int}(g:hasB m (ln h.Mons)=true) :
 Safe (cleaned h m)/\zd8 (cleaned h m)=zd8 h/\(∀i,zC (cleaned h m) i=zC h i)/\(cleaned h m).Mons.length=h.Mons.length/\cleaned (cleaned h m) m=cleaned h m/\∀p:Int,0<=p->p<8->Clear (cleaned h m) m p:=by
 have j:zb1 h m=true:=zbr.2 ⟨zi8.2 S.ok,g⟩;obtain⟨k,c⟩:=zzR m 8 0 S g (by omega) (λp b d=>absurd d (by omega))
 have e:cleaned h m=zho m 8 0 h:=by unfold cleaned;rw[j,cond_true]
 have a:hasB m (ln (zho m 8 0 h).Mons)=true:=by rw[k.like.has];exact g
 have f:zb1 (zho m 8 0 h) m=true:=zbr.2 ⟨zi8.2 k.ok,a⟩;rw[e];refine⟨k.safe S,zKG k.like.len λi=>k.like.seen i,λi=>k.like.seen i,k.like.len,?_,λp b d=>c p b (by omega)⟩
 unfold cleaned;rw[f,cond_true];exact zGT m 8 0 (k.safe S) a (by omega) λp b d=>c p b (by omega)
def z0n {h:Host}(S:Safe h){m:Int}(a:hasB m (ln h.Mons)=true):Op h (cleaned h m):=by have c:zb1 h m=true:=zbr.2 ⟨zi8.2 S.ok,a⟩;unfold cleaned;rw[c,cond_true];exact(zzR m 8 0 S a (by omega) λp d b=>absurd b (by omega)).1
def Dg (h r:Host)(i:Int):Prop:=∀k,hasB k 8=true->ix (ix h.Mons i mZ).Dirty k false=true->ix (ix r.Mons i mZ).Dirty k false=true
def zeZ {h r:Host}{i:Int}(e:(ix r.Mons i mZ).Dirty=(ix h.Mons i mZ).Dirty):Dg h r i:=λk _ a=>by rw[e];exact a
def Dg.trans {a b c:Host}{i:Int}(x:Dg a b i)(y:Dg b c i):Dg a c i:=λk d h=>y k d (x k d h)
def z3n {h:Host}(H:HOk h){m p:Int}(n:Int)(g:hasB m (ln h.Mons)=true)(j:hasB p 8=true){i:Int}(d:hasB i (ln h.Mons)=true):Dg h (mended h m p n) i:=by have M:=zDU H (m:=m) (p:=p) n g j;by_cases e:i=m;{subst e;cases b:ieq (wand .i64 n 2) 0 with|true=>exact zeZ (M.d0 b)|false=>intro k f c;by_cases a:k=p;{rw [a];exact M.dt b};{rw [M.dk k f a];exact c}};{exact zeZ (M.dm i d e)}
def zNQ {h:Host}(S:Safe h)(m g c a:Int)(j:Bool){b:List Entry}(p:∀e∈b,zdz h e=true){i:Int}(r:hasB i (ln h.Mons)=true):Dg h (lookOf h b m g c a j).1 i:=by
 cases d:zbY h m g c a with
 |false=>unfold lookOf;rw[d];exact zeZ rfl
 |true=>have L:=(zw0 S j d p).1;by_cases e:i=m;{subst e;rcases (zoF.1 d).2.1 with l|n;{exact zeZ (L.d1 l)};{intro k s q;by_cases f:k=zcH (zcS h i g) c a;{rw [f];exact L.dq n};{rw [L.dk k s f];exact q}}};{exact zeZ (L.dm i r e)}
def zwC {h r:Host}{m:Int}(b:hasB m (ln h.Mons)=true)(x:Mon)(e:r.Mons=up h.Mons m x)(a:x.Dirty=(ix h.Mons m mZ).Dirty)(i:Int):Dg h r i:=zeZ (zuT b e a i)
def zyC {h:Host}{m:Int}(a:hasB m (ln h.Mons)=true)(g:Int)(x:Guest)(i:Int):Dg h (zg0 h m g x) i:=zwC a {ix h.Mons m mZ with Guests:=up (ix h.Mons m mZ).Guests g x} rfl rfl i
def z0M {L:Host×Int×Bool}{m:Int}(a:hasB m (ln L.1.Mons)=true)(g:Int)(x:Guest)(w:Bool)(i:Int):Dg L.1 (zg7 L m g x w) i:=by unfold zg7;cases L.2.2 with|false=>exact zyC a g _ i|true=>(cases w with|true=>exact zwC a {ix L.1.Mons m mZ with Guests:=up (ix L.1.Mons m mZ).Guests g (zci x)} rfl rfl i|false=>exact zyC a g _ i)
def zbai {h:Host}{m:Int}(b:hasB m (ln h.Mons)=true)(g:Int)(x:Guest)(w:Int)(i:Int):Dg h (zkN h m g x w) i:=by have a:Dg h (zdP h m x w) i/\hasB m (ln (zdP h m x w).Mons)=true:=(by unfold zdP;cases (cond (ine w 6) (ieq (zm4 (ix h.Mons m mZ).Traps x.Ctl.Traps<|zgc w) 2) false) with|false=>exact⟨zeZ rfl,b⟩|true=>show Dg h (owned h m) i/\hasB m (ln (owned h m).Mons)=true;unfold owned;(cases ilt (ix h.Mons m mZ).Own 1000000000 with|false=>exact⟨zeZ rfl,b⟩|true=>exact⟨zwC b {ix h.Mons m mZ with Own:=zQ .i64 (ix h.Mons m mZ).Own 1} rfl rfl i,by rw[cond_true];show hasB m (ln<|up h.Mons m _)=true;rw[zd4];exact b⟩));have c:Dg h (zgC (zdP h m x w) m x w) i/\hasB m (ln (zgC (zdP h m x w) m x w).Mons)=true:=(by unfold zgC;cases (cond (zhY x.Ctl.Traps w) (ieq w 5) false) with|false=>exact a|true=>show Dg h (zhm (zdP h m x w) m _) i/\hasB m (ln (zhm (zdP h m x w) m _).Mons)=true;unfold zhm;(cases ilt (ln (ix (zdP h m x w).Mons m mZ).Outs) 40 with|false=>exact a|true=>exact⟨a.1.trans (zwC a.2 {ix (zdP h m x w).Mons m mZ with Outs:=ap (ix (zdP h m x w).Mons m mZ).Outs [(zcL x.Prog x.Pc).X]} rfl rfl i),by rw[cond_true];show hasB m (ln<|up (zdP h m x w).Mons m _)=true;rw[zd4];exact a.2⟩));exact c.1.trans (zyC c.2 g _ i)
def zbah {h:Host}(S:Safe h)(m g:Int){i:Int}(e:hasB i (ln h.Mons)=true):Dg h (zcz h m g).1 i:=by unfold zcz;cases d:zb8 h m g with|false=>exact zeZ rfl|true=>obtain⟨_,a,_⟩:=zjO.1 d;rw[cond_true];unfold zEp;(cases ieq (zL<|gOf h m g) 0 with|true=>exact zeZ rfl|false=>rw[cond_false];(cases ieq (zL<|gOf h m g) 1 with|true=>exact zyC a g _ i|false=>rw[cond_false];(cases ieq (zL<|gOf h m g) 2 with|true=>exact zyC a g _ i|false=>rw[cond_false];(cases (cond (ieq (zL<|gOf h m g) 3) true<|ieq (zL<|gOf h m g) 4) with|true=>rw[cond_true];have k:=zNQ S m g (zbj<|address<|gOf h m g) (zcq<|ieq (zL<|gOf h m g) 4) false S.rt.e1 e;have b:hasB m (ln (zim h m g (gOf h m g)<|ieq (zL<|gOf h m g) 4).1.Mons)=true:=(by unfold zim;cases c:zbY h m g (zbj<|address<|gOf h m g) (zcq<|ieq (zL<|gOf h m g) 4) with|false=>unfold lookOf;rw[c];exact a|true=>rw[(zw0 S false c S.rt.e1).1.op.like.has];exact a);exact Dg.trans k (z0M b g _ _ i)|false=>exact zbai a g _ _ i))))
def zrL {h:Host}(m:Int)(b:Bare)(i:Int):Dg h (zfJ h m b) i:=by unfold zfJ zb1;cases zbQ h with|false=>exact zeZ rfl|true=>(cases a:hasB m (ln h.Mons) with|false=>exact zeZ rfl|true=>exact zwC a (zoY (ix h.Mons m mZ) b) rfl rfl i)
def z6d {h:Host}(m g p:Int)(i:Int):Dg h (zh2 h m g p) i:=by unfold zh2 zb1;cases zbQ h with|false=>exact zeZ rfl|true=>(cases a:hasB m (ln h.Mons) with|false=>exact zeZ rfl|true=>(cases zb5 (zC h m) g (hasB p 4) with|false=>exact zeZ rfl|true=>have c:∀b,Dg h (zcK h m b) i:=λb=>zwC a (zoY (ix h.Mons m mZ) b) rfl rfl i;have d:∀r:Host,hasB m (ln r.Mons)=true->Dg r (zyD r m g p) i:=λr e=>zwC e {ix r.Mons m mZ with Tables:=up (ix r.Mons m mZ).Tables g (zce (ix (ix r.Mons m mZ).Tables g kZ) p)} rfl rfl i;refine(c _).trans (d _ ?_);show hasB m (ln<|up h.Mons m _)=true;rw[zd4];exact a))
def zbag {h:Host}(H:HOk h)(m p c v:Int){i:Int}(b:hasB i (ln h.Mons)=true):Dg h (zjh h m p c v) i:=by unfold zjh;cases a:zdk h m p c v with|false=>exact zeZ rfl|true=>unfold zdk at a;rw[zcJ]at a;obtain⟨_,d,e⟩:=zh7.1 a.1;exact z3n H 2 d e b
def z0L {h:Host}(H:HOk h)(m p:Int)(i:Int):Dg h (zk1 h m p) i:=by unfold zk1;cases c:zb3 h m p with|false=>exact zeZ rfl|true=>obtain⟨_,a,d⟩:=zh7.1 c;(cases zin h m p with|true=>exact zeZ rfl|false=>have b:(zex h m p).Mons=up h.Mons m (ziN {ix h.Mons m mZ with Out:=up (ix h.Mons m mZ).Out p (zc1 h.Memory (ix (ix h.Mons m mZ).Outer p sZ).Page)} p noSlot):=zom a rfl;exact zeZ (zuT a b rfl i))
def z3o {h:Host}(H:HOk h)(m p:Int)(i:Int):Dg h (zm7 h m p) i:=by unfold zm7;cases a:zb3 h m p with|false=>exact zeZ rfl|true=>obtain⟨_,b,d⟩:=zh7.1 a;(cases c:zin h m p with|false=>exact zeZ rfl|true=>exact zeZ ((zAt H b d<|zbz.1 c).2.2 i))
def z6e {h:Host}(m t:Int)(i:Int):Dg h (zhD h m t) i:=by unfold zhD;cases zbQ h with|false=>exact zeZ rfl|true=>(cases a:hasB m (ln h.Mons) with|false=>exact zeZ rfl|true=>(cases zl t 0 3 with|false=>exact zeZ rfl|true=>exact zwC a {ix h.Mons m mZ with Traps:=t} rfl rfl i))
def zGU:∀(n k:Nat) (t:List Mon) (i:Int),k+n<=t.length->(ix (zlZ n k t) i mZ).Dirty=(ix t i mZ).Dirty
 | 0,k,t,i,_=>rfl
 |n+1,k,t,i,h=>by
  have a:hasB (k:Int) (ln t)=true:=zG.2 ⟨by omega,by unfold ln;omega⟩
  have e:(ix (up t (k:Int)<|zoZ (ix t (k:Int) mZ) (ix t (k:Int) mZ).Tables.length 0) i mZ).Dirty=(ix t i mZ).Dirty :=
   zuT (h:=⟨[],t,[],[]⟩) (r:=⟨[],up t (k:Int)<|zoZ (ix t (k:Int) mZ) (ix t (k:Int) mZ).Tables.length 0,[],[]⟩) a rfl rfl i
  unfold zlZ;rw[zGU n (k+1) _ i (by rw[zb4];omega),e]
def zbaf (h:Host)(i:Int):Dg h (cold h) i:=zeZ (zGU h.Mons.length 0 h.Mons i (by omega))
def zbbJ {h:Host}(S:Safe h)(a:GAct)(c:a.Kind≠15){i:Int}(b:hasB i (ln h.Mons)=true):Dg h (zbV h a) i:=by unfold zbV;cases zl a.Kind 1 17 with|false=>exact zeZ rfl|true=>rw[cond_true];(cases zl a.Kind 13 17 with|true=>rw[cond_true];unfold ziC;rw[zcf.2 c];(cases ieq a.Kind 13 with|true=>exact z0L S.ok _ _ i|false=>(cases ieq a.Kind 14 with|true=>exact z3o S.ok _ _ i|false=>(cases ieq a.Kind 16 with|true=>exact z6e _ _ i|false=>exact zbaf h i)))|false=>rw[cond_false];unfold zgn;(cases ieq a.Kind 1 with|true=>exact zbah S _ _ b|false=>(cases ieq a.Kind 2 with|true=>exact zrL _ _ i|false=>(cases ieq a.Kind 3 with|true=>exact z6d _ _ _ i|false=>(cases ieq a.Kind 4 with|true=>exact zrL _ _ i|false=>(cases ieq a.Kind 5 with|true=>exact zrL _ _ i|false=>(cases ieq a.Kind 6 with|true=>exact zrL _ _ i|false=>(cases ieq a.Kind 7 with|true=>exact zrL _ _ i|false=>(cases ieq a.Kind 8 with|true=>exact zbag S.ok _ _ _ _ b|false=>(cases ieq a.Kind 9 with|true=>exact zrL _ _ i|false=>(cases ieq a.Kind 10 with|true=>exact zrL _ _ i|false=>(cases ieq a.Kind 11 with|true=>show Dg h (zkS h a.M a.G a.X a.Y) i;unfold zkS;(cases zgm h a.M a.G a.X a.Y with|false=>exact zeZ rfl|true=>exact zNQ S a.M a.G (zbj a.X) 2 true S.rt.e2 b)|false=>show Dg h (zji h a.M a.G a.X) i;unfold zji;(cases zfB h a.M a.G a.X with|false=>exact zeZ rfl|true=>exact zNQ S a.M a.G (zbj a.X) 1 true S.rt.e2 b)))))))))))))
def zKZ {a b:Host}(A:HOk a)(B:HOk b){i:Int}(h:hasB i (ln a.Mons)=true)(j:hasB i (ln b.Mons)=true)(d:Dg a b i):zEU b i (zjM a i)=true:=by unfold zEU;rw[qM];intro q f;unfold zjM zs7 at f;rw[zJl h]at f;obtain⟨k,p,rfl,n⟩:=(zvE (d:=false)).1 f;have r:=(A.mon h).d8;have m:=(B.mon j).d8;have e:hasB ((0+k:Nat):Int) 8=true:=zG.2 (by omega);have l:ix (ix a.Mons i mZ).Dirty ((0+k:Nat):Int) false=true:=(by rw[show ((0+k:Nat):Int)=(k:Int) by omega,zl4 p];exact n);have g:=d _ e l;unfold zIf;rw[k5];refine⟨_,?_,zbz.2 rfl⟩;unfold zjM zs7;rw[zJl j];have c:k<(ix b.Mons i mZ).Dirty.length:=(by omega);refine(zvE (d:=false)).2 ⟨k,c,rfl,?_⟩;rw[show ((0+k:Nat):Int)=(k:Int) by omega,zl4 c] at g;exact g
def zVW {d b:Type}{f:d->b}{l:List d}{x:b}{c:List b}(h:l.map f=x::c):∃a r,l=a::r/\f a=x/\r.map f=c:=by cases l with|nil=>cases h|cons a r=>simp only[jG,List.cons.injEq]at h;exact⟨a,r,rfl,h.1,h.2⟩
def zbb8 {a:AV}{b:CTy}(h:some a.sh=some (false,[b])):∃c,a = .one c/\c.ty=b:=by cases a with|one c=>simp only[AV.sh,qC,jV,List.cons.injEq,and_true,true_and]at h;exact⟨c,rfl,h⟩|agg l=>simp[AV.sh]at h
def sh_s {a:AV}{t:Ty}(h:some a.sh=some (false,[.s t])):∃l:List t.den,a = .one (.s t l):=by obtain⟨c,rfl,b⟩:=zbb8 h;obtain⟨l,rfl⟩:=znH b;exact⟨l,rfl⟩
section
open Go Go.ChangeShapes Go.WideShapes Go.ChangeAt
abbrev zPc (_:LI):Bool:=true
abbrev zMl (l:LI):Bool:=igt (ln l) 1048576
def zRJ:Run:=rF1 (dS .u8) λb=>(zPc b,[aB<|zMl b])
def zZc (N:Nat)(a:LI):OA:=
 (some [aB<|igt (ln a) 1048576])
def z3R (a:LI)(b:zPc a=true):∃N,zZc N a=some [aB<|zMl a]:=by refine⟨0,?_⟩;unfold zZc;first|rfl|(simp only [*,zMl,cT,cF]<;>rfl)|simp_all[Ty.cells,zMl]
def zX2:vO 7 zRJ:=kF1 zUt zbo zA zq (zo []) z3R
def z8k:zbf:=[(7,zRJ),(26,zr1),(29,ztT),(30,zvV),(28,ztU)]++z8q
def z5S:zU z8k:=zi zX2 (zi zvv<|zi zwP<|zi zyJ<|zi zwQ zUt)
def zmy (N:Nat)(d:LI):OA:=
 let e:=zqh (zob d) 0; (oN (zPc d)<|cond (zMl d) oT<|oN (zk6 d)<|oN (zha d)<|oN (zcd (zob d) 0)<|iter (σ:=(Int×lA×LI×lM×lN×lE×lE×Unit)) N (λg a=>let f:=ix a.2.1 a.1 z2x;let b:=(⟨a.2.2.2.1,a.2.2.2.2.1,a.2.2.2.2.2.1,a.2.2.2.2.2.2.1⟩:Host);let c:=zf6 b f; (cond (ilt a.1<|ln a.2.1) (oN (inb a.1<|ln a.2.1)<|cond (ine f.Kind 15) (oN (inb a.1<|ln a.2.1)<|oN (zg6 b f)<|oN (zso c 0 a.2.2.1)<|cond (nB<|zj2 c 0 a.2.2.1) oF<|oN (zgW c 0)<|g (zQ .i64 a.1 1,a.2.1,zpO c 0,c.Memory,c.Mons,c.Buffer,c.IoBuffer,()))<|oN (zso b 0 a.2.2.1)<|cond (nB<|zj2 b 0 a.2.2.1) oF<|oN (zgW b 0)<|g (zQ .i64 a.1 1,a.2.1,zpO b 0,a.2.2.2.1,a.2.2.2.2.1,a.2.2.2.2.2.1,a.2.2.2.2.2.2.1,()))<|oN (zgW b 0)<|some [aB<|ieq (ln<|zkn b 0) 8])) (0,ziD d,[],e.Memory,e.Mons,e.Buffer,e.IoBuffer,()))
def zuh:=zo [(4,0,{n:=58,tm:=[(6,.sl 0 []),(7,.lp 0 0),(9,.sl 1 []),(10,ti)],lo:=[(0,[.sl 2 [],.sl 3 [],.sl 4 [],.sl 5 []])],ro:=[(0,.act,true),(1,.int,true),(2,.sl .int,true),(3,.mon,true),(4,.entry,true),(5,.entry,true)]})]
def zJn (N:Nat)(a:LI):evalFn (cQ z8k z6C zJq zW5) zuh N 12 4 [aS .u8 a]=zmy N a:=by kernel_rfl
def zYZ {h:Host}(a:SmH h)(m:Int):SmH (cleaned h m):=by unfold cleaned;cases zb1 h m with|false=>exact a|true=>exact zRP m 8 0 h a
def zDd (N:Nat)(m:LI)(q:m.length<=big)(G:9<N):Ends (λa=>a=[.one<|.b true]) (zmy N m):=by
 unfold zmy oN nB;conv=>zeta
 refine zI rfl (zbK (λ_=>zvo rfl) λ_=>zI (zK1 q) (zI (zwD q) ?_));obtain⟨S,w⟩:=zVT (zEd<|zK1 q).2;have F:=(zug<|zwD q).2.2;generalize zob m=h at S w;generalize ziD m=c at F;have u:hasB 0 (ln h.Mons)=true:=zG.2 ⟨by omega,by have:=S.ok.n1;unfold ln;omega⟩;have E:=(z0m S u).1;have v:hasB 0 (ln (cleaned h 0).Mons)=true:=(by rw[(z0n S u).like.has];exact u);refine zI (zbh<|(zS h).2 w) (zl2 (λn s=>∃(i:Nat) (x:Host) (l:LI),s=((i:Int),c,l,x.Memory,x.Mons,x.Buffer,x.IoBuffer,())/\i+n=c.length/\Safe x/\SmH x/\hasB 0 (ln x.Mons)=true/\(l=[]\/l=zjM x 0)) ?_ N c.length _ ⟨0,cleaned h 0,[],rfl,by omega,E,zYZ w 0,v,.inl rfl⟩ (by omega));rintro n s rec ⟨i,x,l,rfl,H,X,y,f,B⟩ d;dsimp only;have p:zc8 x:=(zS x).2 y;refine zbK (λj=>?_) (λ_=>zI (zbh p) (zvo ?_));{have g:inb (i:Int) (ln c)=true:=qJ ⟨by omega,qD j⟩;have k:=qD j;unfold ln at k;have A:zQ .i64 (i:Int) 1=((i+1:Nat):Int):=(by rw[zp0 (by omega) (by omega)];omega);refine zI g (zbK (λt=>zI g (zI (zbh p) ?_)) λ_=>?_);{generalize ix c (i:Int) z2x=a at t;have Y:=zT7 X a;have C:hasB 0 (ln (zbV x a).Mons)=true:=(by unfold ln;rw[Y.2.1];exact f);have D:SmH (zbV x a):=zE5 y;have z:zc8 (zbV x a):=(zS _).2 D;have r:zj2 (zf6 x a) 0 l=true:=(by rcases B with rfl|rfl;{rfl};{exact zKZ X.ok Y.1.ok f C (zbbJ X a (λe=>by rw[e]at t;cases t) f)});refine zI (zbh z) (zZm (by rw[show zj2 (zf6 ⟨x.Memory,x.Mons,x.Buffer,x.IoBuffer⟩ a) 0 l=true from r];rfl)<|zI (zbh z)<|d (n-1) _ (by omega) ⟨i+1,zbV x a,zjM (zbV x a) 0,by rw[<- A];rfl,by omega,Y.1,D,C,.inr rfl⟩)};{have r:zj2 x 0 l=true:=(by rcases B with rfl|rfl;{rfl};{exact zKZ X.ok X.ok f f (zeZ rfl)});refine zI (zbh p) (zZm (by rw[show zj2 ⟨x.Memory,x.Mons,x.Buffer,x.IoBuffer⟩ 0 l=true from r];rfl)<|zI (zbh p)<|d (n-1) _ (by omega) ⟨i+1,x,zjM x 0,by rw[<- A];rfl,by omega,X,y,f,.inr rfl⟩)}};{show [AV.one<|.b<|ieq (ln<|zs7 x 0) 8]=_;have:=(X.ok.mon f).d8;unfold zs7 ln;rw[zJl f];rw[show (ix x.Mons 0 mZ).Dirty.length=8 from this];rfl}
def zE9 (d:LI)(h:∀c∈zF [aS .u8 d],CVOk c):∃N,zmy N d=some [.one<|.b true]:=by have e:zbX big [aS .u8 d]:=λc f=>CVB.of_ok (h c f);have g:=len0 e;exact⟨10,zban (G:=λa=>a=[.one<|.b true])<|zDd 10 d g (by decide)⟩
def zCc:Tryz.f4.params.toList.map (zdb Tryz.prog 4)=[some (false,[.s .u8])]:=by kernel_rfl
def zyw:zY8 4 Tryz.f4.params.toList:=by refine zXH z5S zbo zA zq (zkJ (by kernel_rfl)) ?_;intro c hg;obtain⟨a,e⟩:=hg;rw[zCc]at a;obtain⟨h,g,rfl,d,a⟩:=zVW a;cases List.map_eq_nil_iff.1 a;obtain⟨b,rfl⟩:=sh_s d;obtain⟨N,f⟩:=zE9 b e;exact⟨zuh,N,12,(zJn N b).trans f⟩
def zEo (H:Type)(a:List (DataW H))(h:a.length=Tryz.f4.params.toList.length):Rows.fnDirtGrowsSpec.fn H a={results:=[.lit<|.bool true],args:=a}:=by
 have b:a.length=1:=h.trans (by kernel_rfl)
 match a,b with
 |[d],_=>rfl
set_option maxRecDepth 100000 in
def zAp (g:Os)(a:g.Started)(H:Type)(enc:TypeId×Value->H) :
 ReturnsInHanded {} Tryz.checked g 4 .any (Rows.fnDirtGrowsSpec.pre6 enc Tryz.prog Tryz.f4 Rows.fnDirtGrowsRow.domain false) (Rows.fnDirtGrowsSpec.post enc Tryz.prog Tryz.f4 false true false false):=by
 refine returnsInHanded_of_change_shaped (C:=Tryz.checked) own a (by kernel_rfl) Tryz.func4
  (ChangeSpec.witness6 (enc:=enc) (C:=Tryz.checked) false ⟨#[],#[.slice none 0 0],[]⟩ 8 (by kernel_rfl) (by kernel_rfl) (by kernel_rfl) (by kernel_rfl)) ?_
 intro W d c h i b e j _ f _ _;exact zMm (P:=Tryz.prog) z5u z6s rfl zEo (by kernel_rfl) (B:=4) (by kernel_rfl) (by kernel_rfl) zyw W d c h i b e j f
end
end
end Go.Proofs.YtdlfljbgoopanaaGreat.E
