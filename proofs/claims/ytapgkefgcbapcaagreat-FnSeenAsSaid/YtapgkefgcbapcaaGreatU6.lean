/- What is proved here: a part of the proof of the claim. -/
import Derived.Test.YtapgkefgcbapcaaGreatU5
import Derived.WalkKit
import Derived.Tactics2
import Derived.Deep.RegionWith
import Derived.Laws.Rows
namespace Go.Proofs.YtapgkefgcbapcaaGreat.E
open Go
set_option linter.defProp false
set_option linter.constructorNameAsVariable false
set_option linter.unusedVariables false
set_option maxRecDepth 100000
set_option linter.unusedSimpArgs false
set_option linter.unusedSectionVars false
noncomputable section
def zC6:List GAct->ad×List aF->ad×List aF
 |[],u=>u
 |a::l,u=>zC6 l (zeU u.1 a,ap u.2 [zjP u.1 a])
def zzb (a:List (List<|List Ins))(l:List GAct):ad×List aF:=zC6 (l.take 80) (zf7 a,[])
abbrev HSt:Type:=(List aF)×(List<|LI)×(List Mon)×(List ar)×(List ar)
def hOf (t:HSt):ad:=⟨t.2.1,t.2.2.1,t.2.2.2.1,t.2.2.2.2⟩
def tOf (u:ad×List aF):HSt:=(u.2,u.1.ag,u.1.aa,u.1.ao,u.1.an)
def zzl (t:HSt):OA:=some [AV.agg<|zbn<|hOf t,AV.one<|.s .told t.1]
def zXD {e:List (List<|List Ins)}(h:zJf e):SmH (zf7 e):=by refine⟨show SmM zYX from ⟨by decide,by decide⟩,⟨?_,?_⟩,by simp[zf7],by simp[zf7]⟩;{simp only [zf7,uR,vR];omega};{intro x d;simp only[zf7,jJ]at d;obtain⟨p,f,rfl⟩:=d;have b:=h.2 p (jY f);refine⟨show zuK.length<=1048576 by decide,show SmM zNX from ⟨by decide,by decide⟩,show (rp 8 false).length<=1048576 by decide,⟨?_,?_⟩,by simp[zho],⟨?_,?_⟩⟩;{simp only [zho,uR,vR];omega};{intro y a;simp only[zho,jJ]at a;obtain⟨q,c,rfl⟩:=a;exact⟨b.2 q<|jY c,show zlL.length<=1048576 by decide,show zlL.length<=1048576 by decide,by simp[zfj]⟩};{simp only [zho,uR,vR];omega};{intro y a;simp only[zho,jJ]at a;obtain⟨q,c,rfl⟩:=a;exact⟨show (rp 4 false).length<=1048576 by decide,show zlL.length<=1048576 by decide⟩}}
def zF0 {c:ad->GAct->Bool}(d:∀h a,SmH h->c h a=true)(m:Nat):∀(l:List GAct) (i:Nat) (u:ad×List aF),SmH u.1->u.2.length+l.length<=2147483648->
 goL (λ(i:Nat) x (t:HSt) n=>bif ilt (i:Int) (m:Int) then (cond (c (hOf t) x) (cond (few<|ln<|ap t.1 [zjP (hOf t) x]) (n (ap t.1 [zjP (hOf t) x],(zeU (hOf t) x).ag,(zeU (hOf t) x).aa,(zeU (hOf t) x).ao,(zeU (hOf t) x).an)) none) none) else zzl t) zzl l i (tOf u)=zzl (tOf<|zC6 (l.take<|m-i) u)
 |[],i,u,_,_=>by simp[goL,zC6]
 |a::l,i,u,e,k=>by simp only[qX]at k;have g:few (ln<|ap u.2 [zjP u.1 a])=true:=zhn (by simp[ap];omega);have j:hOf (tOf u)=u.1:=rfl;have f:(tOf u).1=u.2:=rfl;by_cases h:i<m;{have b:ilt (i:Int) (m:Int)=true:=qM (by omega);simp only[goL,b,j,f,g,d _ _ e,cT];refine(zF0 d m l (i+1) (zeU u.1 a,ap u.2 [zjP u.1 a]) (zXC e) (by simp[ap];omega)).trans ?_;rw[show m-i=m-(i+1)+1 by omega];rfl};{have b:ilt (i:Int) (m:Int)=false:=qT (by omega);simp only[goL,b,cF];rw[show m-i=0 by omega];rfl}
@[simp] abbrev zuy (a:List (List<|List Ins))(l:List GAct):Bool:=pc (zJf a/\l.length<=1048576)
@[simp] abbrev zux (a:List (List<|List Ins))(l:List GAct):ad:=(zzb a l).1
@[simp] abbrev zDp (a:List (List<|List Ins))(l:List GAct):List aF:=(zzb a l).2
def zxZ:Run:=rF2 (dS<|.sl<|.sl .ins) (dS .act) λb c=>(zuy b c,[aH<|zux b c,aS .told<|zDp b c])
def zBG (N:Nat)(b:lQ)(g:lA):OA:=
 (oN (zwL b)<|iter (σ:=(Int×lA×lT×lM×lN×lE×lE×lM×lN×lE×lE×Unit)) N (λh a=>let b:=a.2.2.2.2.2;let e:=ix a.2.1 a.1 zbaI;let c:=(⟨b.2.2.1,b.2.2.2.1,b.2.2.2.2.1,b.2.2.2.2.2.1⟩:ad);let f:=ap a.2.2.1 [zmR c e];let d:=zmQ c e; (cond (ilt a.1<|ln a.2.1) (cond (ilt a.1 80) (oN (inb a.1<|ln a.2.1)<|oN (zh9 c e)<|oN (few<|ln f)<|h (zM .i64 a.1 1,a.2.1,f,a.2.2.2.1,a.2.2.2.2.1,b.1,b.2.1,d.ag,d.aa,d.ao,d.an,()))<|some [aH c,aS .told a.2.2.1])<|some [aH c,aS .told a.2.2.1])) (0,g,[],[],[],[],[],(zhA b).ag,(zhA b).aa,(zhA b).ao,(zhA b).an,()))
def zOp:=zA [(235,0,{n:=39,tm:=[(1,.sl 0 []),(4,.lp 0 0),(6,.lp 1 0),(7,.sl 1 []),(8,ti)],lo:=[(0,[.sl 2 [],.sl 3 [],.sl 4 [],.sl 5 []]),(1,[.sl 6 [],.sl 7 [],.sl 8 [],.sl 9 []])],ro:=[(0,.act,false),(1,.told,true),(2,.sl .int,true),(3,.mon,true),(4,.entry,true),(5,.entry,true),(6,.sl .int,true),(7,.mon,true),(8,.entry,true),(9,.entry,true)]})]
def zNC (b:List lP)(c:List GAct)(k:zuy b c=true):∃N,zBG N b c=some [aH<|zux b c,aS .told<|zDp b c]:=by
 obtain⟨j,g⟩:=zT.1 k;have f:=zcO g;refine zcI λN e=>?_;unfold zBG oN;conv=>zeta
 refine j0 (zY j) ?_;refine(zbJ c (λi (t:lT×lM×lN×lE×lE)=>((i:Int),c,t.1,[],[],[],[],t.2.1,t.2.2.1,t.2.2.2.1,t.2.2.2.2,())) _ (λi (x:GAct) (t:HSt) m=>bif ilt (i:Int) ((80:Nat):Int) then (cond (zh9 (hOf t) x) (cond (few<|ln<|ap t.1 [zjP (hOf t) x]) (m (ap t.1 [zjP (hOf t) x],(zeU (hOf t) x).ag,(zeU (hOf t) x).aa,(zeU (hOf t) x).ao,(zeU (hOf t) x).an)) none) none) else zzl t) (λ(t:lT×lM×lN×lE×lE)=>some [.agg<|zbn (⟨t.2.1,t.2.2.1,t.2.2.2.1,t.2.2.2.2⟩:ad),.one<|.s .told t.1]) (λi d t rec=>?_) (λt rec=>?_) _ ([],(zhA b).ag,(zhA b).aa,(zhA b).ao,(zhA b).an)<|e f.1).trans ?_;{simp only [zbK d,zbc d,zbr d,zbx d f.1,cT];rfl};{simp only [zbw,cF]};exact zF0 (λh a l=>zY ((zU h).2 l)) 80 c 0 (zf7 b,[]) (zXD j) (by simpa using f.2)
def zHq:vT 235 zxZ:=kF2 zPs zJ zci zdk zOp zNC
def zSw:zW:=[(235,zxZ)]++z0N
def zFR:zL zSw:=zh zHq zPs
def zXU (h:ad):Prop:=∃a l,zJf a/\(1<=a.length/\∀p∈a,1<=p.length/\∀x∈p,zdR x=true)/\h=(zzb a l).1
def zIg {p:List Ins}(h:zdR p=true):p.length<=12:=by unfold zdR at h;cases a:p.all zeV with|false=>rw[a]at h;cases h|true=>rw[a,cT]at h;have b:=(zgz.1 h).2;unfold ln at b;omega
def zwm (N:Nat)(c:Cur)  : OA :=
 let a:=({ (zmp c) with b:=c.b}:Cur); (oN (zps c)<|oN (zm0 a 20)<|oN (zuy (zuG c)<|zr2 a 20)<|some [.agg [.s .u8 c.b,.i .i64 (zm1 a 20).i,.i .i64 (zm1 a 20).h],aH<|zux (zuG c)<|zr2 a 20])
def zpt (c:Cur)(s:Cur)(a:ad):Prop:=(∃N,zwm N c=some (AV.agg (zbT s)::[aH a]))/\(s.b=c.b/\0<=s.i)/\(zXU a)
def zmZ (c:Cur)  : Bool:=wC (zpt c)
def ziW (c:Cur)  : Cur:=wS (zpt c)
def zr1 (c:Cur)  : ad:=wV (zpt c)
def zGu {c:Cur}(h:zmZ c=true):zpt c (ziW c) (zr1 c):=wG h
def zWx (c:Cur)  : 0<=(ziW c).i:=wP λh=>h.2.1.2
def zWw (c:Cur)(h:∃N,Ends (wE (λa=>aH a) c.b λa=>zXU a)<|zwm N c):zmZ c=true:=wI (λ_ _ h=>h) h
def zxQ:zdB:=rP0 λc=>(zmZ c,ziW c,[aH<|zr1 c])
def zKp:zbP Tryz.prog 99 [false,true,true] zxQ:=hP0 zFR zN zUa zq (zA []) (λ_ h=>(zGu h).1)
def z1l {c:Cur}(h:zba c):zmZ c=true:=by
 refine zWw c ⟨0,?_⟩;have e:zba {zmp c with b:=c.b}:=zbE h (zZw _);have a:=(zLx<|z5i h).2.2;have f:=(zGw<|zZZ e (m:=20) (by omega) (by omega)).2.2;unfold zwm oN;conv=>zeta
 have i:(zr2 {zmp c with b:=c.b} 20).length<=65:=by unfold ln at f;omega
 have S:zJf (zuG c):=⟨by omega,λp d=>by
  have g:=a.2.2 p d;exact⟨by omega,λx j=>by have:=zIg (g.2.2 x j);omega⟩⟩
 exact zo (z5i h) (zo (zZZ e (by omega) (by omega))<|zo (zY ⟨S,qS i (by decide)⟩)<|zby aH (zWA _ _) ⟨_,_,S,⟨a.1,λp d=>⟨(a.2.2 p d).1,(a.2.2 p d).2.2⟩⟩,rfl⟩)
def zZa:zcT:=[(99,[false,true,true],zxQ)]++z6M
def zzt:zb2 zZa:=zce zUa (by
 intro x a;simp only[qG,qN,or_false]at a;rcases a with rfl
 .exact zKp)
def z0d:zW:=zSw
def z0e:zL z0d:=zFR
instance:Inhabited k0:=⟨⟨0,0⟩⟩
instance:Inhabited ar:=⟨⟨0,0,0,0⟩⟩
instance:Inhabited aE:=⟨⟨0,0,false,0⟩⟩
instance:Inhabited ah:=⟨⟨[],0,0,[],[],⟨0,0,false⟩,0,⟨0,0,false,0⟩,false,[]⟩⟩
def zu4 {c:Cur}(h:zba c){n m:Int}(a:0<n)(b:n<=m):inb (zk c n) m=true:=by have:=zfi h a;exact qM (by omega)
def zB4 {c:Cur}(h:zba c){n m:Int}(a:0<n)(b:n<=m+1):inr 0 (zk c n) m=true:=by have:=zfi h a;exact qM (by omega)
def zCT {a:Type}(l:List a)(n:Int):(tk l n).length<=l.length:=by simp[tk];omega
def ziv {a:Type}(l:List a)(n:Int)(x:a):(up l n x).length=l.length:=by simp[up]
def z4g {a:Type}(l:List a)(n:Int):ln (tk l n)<=ln l:=by have:=zCT l n;unfold ln;omega
def z4h {a:Type}(l:List a)(n:Int)(x:a):ln (up l n x)=ln l:=by unfold ln;rw[ziv]
def I64 (x:Int):Prop:=-9223372036854775808<=x/\x<=9223372036854775807
def zTV {f:Type}{c:Cur}(h:zba c){P:f->Prop}{m:Int}(r:0<=m)(I:m<=1000){fc:Cur->Bool}{fs:Cur->Cur}{fv:Cur->f}(z:∀{c:Cur},zba c->fc c=true)(C:∀c,0<=(fs c).i)(hg:∀{c:Cur},zba c->P (fv c)){G:Ans->Prop}{R:Cur->List f->Ans}(w:∀s l,s.b=c.b->0<=s.i->ln l=m->(∀x∈l,P x)->G (R s l)){j:Type}(S:Int->Int×Int×List f->j){F:(j->OA)->j->OA}(v:∀rec t i k l,F rec (S t (i,k,l))=bif ilt t m then (cond (fc ⟨c.b,i,k⟩) (cond (few<|ln<|ap l [fv ⟨c.b,i,k⟩]) (rec<|S (zM .i64 t 1) ((fs ⟨c.b,i,k⟩).i,(fs ⟨c.b,i,k⟩).h,ap l [fv ⟨c.b,i,k⟩])) none) none) else some (R ⟨c.b,i,k⟩ l)):Ends G (iter 1002 F<|S 0 (c.i,c.h,[])):=by refine zke (λn s=>∃t i k l,s=S t (i,k,l)/\t+(n:Int)=1000/\0<=t/\t<=m/\0<=i/\(∀x∈l,P x)/\ln l=t) ?_ 1002 1000 _ ⟨0,c.i,c.h,[],rfl,rfl,kP 0,r,h.1,by simp,rfl⟩ (by omega);rintro n s rec ⟨t,i,k,l,rfl,D,u,E,p,q,H⟩ d;rw[v];have a:zba ⟨c.b,i,k⟩:=zbE h p;refine zbt (λg=>?_) (λg=>?_);{have B:t<m:=qF g;have J:=zhP (y:=1) u (by omega) (by omega) (by omega);refine zo (z a) (zo (zhS (by rw[zfR];omega))<|d (n-1) _ (by omega) ⟨_,_,_,_,rfl,by omega,by omega,by omega,C _,?_,by rw[zfR];omega⟩);intro x e;rcases jH.1 e with e|e;{exact q x e};{rw [qD.1 e];exact hg a}};{have A:¬ t<m:=jV g;exact ztJ (w _ l rfl p (by omega) q)}
def zr5 (N:Nat)(c:Cur)  : OA :=
 let a:=zZ c [3,3,1,2,0,3,1,-1,4,9223372036854775807]; (oN (zbq c [3,3,1,2,0,3,1,-1,4,9223372036854775807])<|some [.agg [.s .u8 c.b,.i .i64 a.i,.i .i64 a.h],aI<|zbk c [3,3,1,2,0,3,1,-1,4,9223372036854775807]])
def zmi (c:Cur)(s:Cur)(a:Int):Prop:=(∃N,zr5 N c=some (AV.agg (zbT s)::[aI a]))/\(s.b=c.b/\0<=s.i)/\(True)
def zkp (c:Cur)  : Bool:=wC (zmi c)
def zkq (c:Cur)  : Cur:=wS (zmi c)
def zq9 (c:Cur)  : Int:=wV (zmi c)
def zRh {c:Cur}(h:zkp c=true):zmi c (zkq c) (zq9 c):=wG h
def zRj (c:Cur)  : 0<=(zkq c).i:=wP λh=>h.2.1.2
def zRi (c:Cur)(h:∃N,Ends (wE (λa=>aI a) c.b λa=>True)<|zr5 N c):zkp c=true:=wI (λ_ _ h=>h) h
def zue:zdB:=rP0 λc=>(zkp c,zkq c,[aI<|zq9 c])
def zEM:zbP Tryz.prog 457 [false,true,true] zue:=hP0 zdV zN zzt zq (zA []) (λ_ h=>(zRh h).1)
def z4E {c:Cur}(h:zba c):zkp c=true:=by
 refine zRi c ⟨0,?_⟩;unfold zr5 oN;conv=>zeta
 exact zo (ze8 h (by simp)) (zby aI (zbW _ _) trivial)
def z6N:zcT:=[(457,[false,true,true],zue)]++zZa
def zUb:zb2 z6N:=zce zzt (by
 intro x a;simp only[qG,qN,or_false]at a;rcases a with rfl
 .exact zEM)
def z5P:zW:=[(215,zlu),(286,zoC),(409,zqh),(411,zsn)]++zMl
def zei:zL z5P:=zh zxs (zh zsE<|zh ztU<|zh zvr zdV)
def zwg (N:Nat)(c:Cur)(d:Int):OA:=
 let e:=({ (zO c 5) with b:=c.b}:Cur);let a:=({ (zf e d) with b:=c.b}:Cur); (oN (zcv c 5)<|cond (zcQ c 5) (oN zb3<|some [.agg [.s .u8 c.b,.i .i64 (zO c 5).i,.i .i64 (zO c 5).h],.agg [.i .i64 zbo.af,.i .i64 zbo.aj]])<|oN (zu e d)<|oN (zbq a [3,3,3,1,2])<|some [.agg [.s .u8 c.b,.i .i64 (zZ a [3,3,3,1,2]).i,.i .i64 (zZ a [3,3,3,1,2]).h],.agg [.i .i64<|zk e d,.i .i64<|zbk a [3,3,3,1,2]]])
def zpf (c:Cur)(a:Int)(s:Cur)(d:k0):Prop:=(∃N,zwg N c a=some (AV.agg (zbT s)::[aT .slot d]))/\(s.b=c.b/\0<=s.i)/\(0<a->a<=1000->I64 d.af)
def ziQ (c:Cur)(a:Int):Bool:=wC (zpf c a)
def zgK (c:Cur)(a:Int):Cur:=wS (zpf c a)
def zgg (c:Cur)(a:Int):k0:=wV (zpf c a)
def zwP {c:Cur}{a:Int}(h:ziQ c a=true):zpf c a (zgK c a) (zgg c a):=wG h
def zGq (c:Cur)(a:Int):0<=(zgK c a).i:=wP λh=>h.2.1.2
def zWn (c:Cur)(a:Int)(h:∃N,Ends (wE (λd=>aT .slot d) c.b λd=>0<a->a<=1000->I64 d.af)<|zwg N c a):ziQ c a=true:=wI (λ_ _ h=>h) h
def zxK:zdB:=rP1 dI λc b=>(ziQ c b,zgK c b,[aT .slot<|zgg c b])
def zKd:zbP Tryz.prog 456 [false,true,true] zxK:=hP1 zei zN zUb zq (zA []) (λ_ _ h=>(zwP h).1)
def zLC {c:Cur}(h:zba c)(a:Int):ziQ c a=true:=by
 refine zWn c a ⟨0,?_⟩;unfold zwg oN;conv=>zeta
 have d:zba {zO c 5 with b:=c.b}:=zbE h (zb0 _ _);have g:zba {zf {zO c 5 with b:=c.b} a with b:=c.b}:=zbE h (zB _ _);refine zo (zhW h 5) (zbt (λ_=>zo rfl (zby (aT .slot) (v:=⟨_,_⟩) (zb0 _ _) λ_ _=>?_)) λ_=>zo (zbp d a) (zo (ze8 g (by simp))<|zby (aT .slot) (v:=⟨_,_⟩) (zbW _ _) λe f=>?_));{exact⟨by decide,by decide⟩};{have:=zfi d e;exact⟨Int.le_trans (by decide) this.1,Int.le_trans (vS this.2) (by omega)⟩}
def z6O:zcT:=[(456,[false,true,true],zxK)]++z6N
def zIa:zb2 z6O:=zce zUb (by
 intro x a;simp only[qG,qN,or_false]at a;rcases a with rfl
 .exact zKd)
def zyt (N:Nat)(c:Cur)(a:Int):OA:=
 let e:=({ (zgK c a) with b:=c.b}:Cur);let d:=({ (zf e 12) with b:=c.b}:Cur);let f:=zZ d [-1,-2,a,9223372036854775807,-9223372036854775808]; (oN (ziQ c a)<|oN (zu e 12)<|cond (ieq (zk e 12) 0) (oN (zbq d [-1,-2,a,9223372036854775807,-9223372036854775808])<|some [.agg [.s .u8 c.b,.i .i64 f.i,.i .i64 f.h],.agg [.i .i64<|zbk d [-1,-2,a,9223372036854775807,-9223372036854775808],.i .i64 (zgg c a).aj]])<|cond (ieq (zk e 12) 1) (oN (zkp d)<|some [.agg [.s .u8 c.b,.i .i64 (zkq d).i,.i .i64 (zkq d).h],.agg [.i .i64 (zgg c a).af,.i .i64<|zq9 d]])<|some [.agg [.s .u8 c.b,.i .i64 (zf e 12).i,.i .i64 (zf e 12).h],.agg [.i .i64 (zgg c a).af,.i .i64 (zgg c a).aj]])
def zra (c:Cur)(a:Int)(s:Cur)(d:k0):Prop:=(∃N,zyt N c a=some (AV.agg (zbT s)::[aT .slot d]))/\(s.b=c.b/\0<=s.i)/\(0<a->a<=1000->I64 d.af)
def zpc (c:Cur)(a:Int):Bool:=wC (zra c a)
def zpd (c:Cur)(a:Int):Cur:=wS (zra c a)
def zIn (c:Cur)(a:Int):k0:=wV (zra c a)
def zLr {c:Cur}{a:Int}(h:zpc c a=true):zra c a (zpd c a) (zIn c a):=wG h
def zZg (c:Cur)(a:Int):0<=(zpd c a).i:=wP λh=>h.2.1.2
def zZf (c:Cur)(a:Int)(h:∃N,Ends (wE (λd=>aT .slot d) c.b λd=>0<a->a<=1000->I64 d.af)<|zyt N c a):zpc c a=true:=wI (λ_ _ h=>h) h
def zAl:zdB:=rP1 dI λc b=>(zpc c b,zpd c b,[aT .slot<|zIn c b])
def zM1:zbP Tryz.prog 392 [false,true,true] zAl:=hP1 zei zN zIa zq (zA []) (λ_ _ h=>(zLr h).1)
def zO0 {c:Cur}(h:zba c)(a:Int):zpc c a=true:=by
 refine zZf c a ⟨0,?_⟩;unfold zyt oN;conv=>zeta
 have d:zba {zgK c a with b:=c.b}:=zbE h (zGq _ _);have f:zba {zf {zgK c a with b:=c.b} 12 with b:=c.b}:=zbE h (zB _ _);have g:=(zwP<|zLC h a).2.2;refine zo (zLC h a) (zo (zbp d 12)<|zbt (λ_=>zo (ze8 f (by simp)) (zby (aT .slot) (v:=⟨zbk _ _,(zgg c a).aj⟩) (zbW _ _) λe i=>?_)) λ_=>zbt (λ_=>zo (z4E f) (zby (aT .slot) (v:=⟨(zgg c a).af,zq9 _⟩) (zRj _) λe d=>g e d)) λ_=>zby (aT .slot) (v:=⟨(zgg c a).af,(zgg c a).aj⟩) (zB _ _) λe d=>g e d);have j:=zXp f (l:=[-1,-2,a,9223372036854775807,-9223372036854775808]) (by simp);simp only[qG,qN,or_false]at j;unfold I64;dsimp only;omega
def ztu (N:Nat)(c:Cur)(g j:Int):OA:=
 (iter (σ:=(Int×Int×Int×Int×Int×lS×LI×Unit)) N (λk a=>let b:=a.2.2.2.2;let e:=b.2.2.1;let d:=(⟨e,a.2.2.2.1,b.1⟩:Cur);let f:=ap b.2.1 [zgg d a.2.1]; (cond (ilt a.2.2.1 a.1) (oN (ziQ d a.2.1)<|oN (few<|ln f)<|k (a.1,a.2.1,zM .i64 a.2.2.1 1,(zgK d a.2.1).i,(zgK d a.2.1).h,f,e,()))<|some [.agg [.s .u8 e,.i .i64 a.2.2.2.1,.i .i64 b.1],aS .slot b.2.1])) (g,j,0,c.i,c.h,[],c.b,()))
def zOu:=zA [(391,0,{n:=22,tm:=[(0,.lp 0 0),(1,ti),(2,ti),(7,.sl 0 []),(8,ti)],lo:=[(0,[.sl 1 [],ti,ti])],ro:=[(0,.slot,true),(1,.u8,false)]})]
def znh (c:Cur)(a:Int)(d:Int)(s:Cur)(e:List k0):Prop:=(∃N,ztu N c a d=some (AV.agg (zbT s)::[aS .slot e]))/\(s.b=c.b/\0<=s.i)/\(0<=a->a<=1000->ln e=a/\(0<d->d<=1000->∀s∈e,I64 s.af))
def zh6 (c:Cur)(a:Int)(b:Int):Bool:=wC (znh c a b)
def zI (c:Cur)(a:Int)(b:Int):Cur:=wS (znh c a b)
def zdr (c:Cur)(a:Int)(b:Int):List k0:=wV (znh c a b)
def zuE {c:Cur}{a:Int}{b:Int}(h:zh6 c a b=true):znh c a b (zI c a b) (zdr c a b):=wG h
def zh7 (c:Cur)(a:Int)(b:Int):0<=(zI c a b).i:=wP λh=>h.2.1.2
def zUr (c:Cur)(a:Int)(d:Int)(h:∃N,Ends (wE (λe=>aS .slot e) c.b λe=>0<=a->a<=1000->ln e=a/\(0<d->d<=1000->∀s∈e,I64 s.af))<|ztu N c a d):zh6 c a d=true:=wI (λ_ _ h=>h) h
def zvy:zdB:=rP2 dI dI λc b d=>(zh6 c b d,zI c b d,[aS .slot<|zdr c b d])
def zHE:zbP Tryz.prog 391 [false,true,true] zvy:=hP2 zei zN zIa zq zOu (λ_ _ _ h=>(zuE h).1)
def zym {c:Cur}(h:zba c){d:Int}(g:0<=d)(j:d<=1000)(a:Int):zh6 c d a=true:=by
 refine zUr c d a ⟨1002,?_⟩;unfold ztu oN;conv=>zeta
 exact zTV h (P:=λs=>0<a->a<=1000->I64 s.af) g j (fc:=λc=>ziQ c a) (fs:=λc=>zgK c a) (fv:=λc=>zgg c a) (R:=λs l=>AV.agg (zbT s)::[aS .slot l]) (λh=>zLC h a) (λc=>zGq c a) (λh=>(zwP<|zLC h a).2.2) (λs l m n p q=>⟨s,l,rfl,⟨m,n⟩,λ_ _=>⟨p,λe f s r=>q s r e f⟩⟩) ((λi t=>(d,a,(i:Int),t.1,t.2.1,t.2.2,c.b,())):Int->Int×Int×List k0->_) (λrec t i k l=>rfl)
def z81 {c:Cur}(h:zba c){n m:Int}(a:0<=n)(b:n<=1000)(d:0<m)(e:m<=1000):ln (zdr c n m)=n/\∀s∈zdr c n m,I64 s.af:=by have g:=(zuE<|zym h a b m).2.2 a b;exact⟨g.1,g.2 d e⟩
def z6P:zcT:=[(392,[false,true,true],zAl),(391,[false,true,true],zvy)]++z6O
def zIb:zb2 z6P:=zce zIa (by
 intro x a;simp only[qG,qN,or_false]at a;rcases a with rfl|rfl
 .exact zM1
 .exact zHE)
def zn9 (N:Nat)(c:Cur)(a d:Int):OA:=
 let g:=zdr c a d;let f:=({ (zI c a d) with b:=c.b}:Cur);let e:=({ (zf f 8) with b:=c.b}:Cur);let k:=zk e a;let j:=({ (zf e a) with b:=c.b}:Cur); (oN (zh6 c a d)<|oN (zu f 8)<|cond (ieq (zk f 8) 0) (oN (zu e a)<|oN (zpc j d)<|oN (inb k<|ln g)<|p0 (up g k<|zIn j d) λl=>some [.agg [.s .u8 c.b,.i .i64 (zpd j d).i,.i .i64 (zpd j d).h],aS .slot l])<|cond (ieq (zk f 8) 1) (oN (zu e a)<|oN (inr 0 k<|ln g)<|some [.agg [.s .u8 c.b,.i .i64 (zf e a).i,.i .i64 (zf e a).h],aS .slot<|tk g k])<|some [.agg [.s .u8 c.b,.i .i64 (zf f 8).i,.i .i64 (zf f 8).h],aS .slot g])
def zj0 (c:Cur)(a:Int)(d:Int)(s:Cur)(e:List k0):Prop:=(∃N,zn9 N c a d=some (AV.agg (zbT s)::[aS .slot e]))/\(s.b=c.b/\0<=s.i)/\(0<a->a<=1000->ln e<=a/\(0<d->d<=1000->∀s∈e,I64 s.af))
def zf1 (c:Cur)(a:Int)(b:Int):Bool:=wC (zj0 c a b)
def zhb (c:Cur)(a:Int)(b:Int):Cur:=wS (zj0 c a b)
def zfg (c:Cur)(a:Int)(b:Int):List k0:=wV (zj0 c a b)
def zpa {c:Cur}{a:Int}{b:Int}(h:zf1 c a b=true):zj0 c a b (zhb c a b) (zfg c a b):=wG h
def zpb (c:Cur)(a:Int)(b:Int):0<=(zhb c a b).i:=wP λh=>h.2.1.2
def zLq (c:Cur)(a:Int)(d:Int)(h:∃N,Ends (wE (λe=>aS .slot e) c.b λe=>0<a->a<=1000->ln e<=a/\(0<d->d<=1000->∀s∈e,I64 s.af))<|zn9 N c a d):zf1 c a d=true:=wI (λ_ _ h=>h) h
def zrR:zdB:=rP2 dI dI λc b d=>(zf1 c b d,zhb c b d,[aS .slot<|zfg c b d])
def zBn:zbP Tryz.prog 239 [false,true,true] zrR:=hP2 zei zN zIb zq (zA []) (λ_ _ _ h=>(zpa h).1)
def zob {c:Cur}(h:zba c){n:Int}(a:0<n)(j:n<=1000)(m:Int):zf1 c n m=true:=by
 refine zLq c n m ⟨0,?_⟩;unfold zn9 oN;conv=>zeta
 have l:zba {zI c n m with b:=c.b}:=zbE h (zh7 _ _ _);have i:zba {zf {zI c n m with b:=c.b} 8 with b:=c.b}:=zbE h (zB _ _);have k:zba {zf {zf {zI c n m with b:=c.b} 8 with b:=c.b} n with b:=c.b}:=zbE h (zB _ _);have g:=(zuE<|zym h (vS a) j m).2.2 (vS a) j;generalize zdr c n m=T at g;refine zo (zym h (vS a) j m) (zo (zbp l 8)<|zbt (λ_=>zo (zbp i n) (zo (zO0 k m)<|zo (zu4 i a (by omega))<|zij<|zby (aS .slot) (zZg _ _) λ_ _=>⟨by rw[z4h];omega,λe f s d=>?_⟩)) λ_=>zbt (λ_=>zo (zbp i n) (zo (zB4 i a (by omega))<|zby (aS .slot) (zB _ _) λ_ _=>⟨?_,λe f s d=>g.2 e f s (jY d)⟩)) λ_=>zby (aS .slot) (zB _ _) λ_ _=>⟨by omega,g.2⟩);{rcases qY d with d|rfl;{exact g.2 e f s d};{exact(zLr<|zO0 k m).2.2 e f}};{have:=z4g T;exact Int.le_trans (this _) (by omega)}
def zwh (N:Nat)(c:Cur)  : OA :=
 (iter (σ:=(Int×Int×Int×LI×LI×Unit)) N (λf a=>let d:=(⟨a.2.2.2.2.1,a.2.1,a.2.2.1⟩:Cur);let e:=ap a.2.2.2.1 [zk d 100]; (cond (ilt a.1 4) (oN (zu d 100)<|oN (few<|ln e)<|f (zM .i64 a.1 1,(zf d 100).i,(zf d 100).h,e,a.2.2.2.2.1,()))<|some [.agg [.s .u8 a.2.2.2.2.1,.i .i64 a.2.1,.i .i64 a.2.2.1],aS .int a.2.2.2.1])) (0,c.i,c.h,[],c.b,()))
def zRA:=zA [(393,0,{n:=16,tm:=[(0,.lp 0 0),(3,.sl 0 []),(4,ti)],lo:=[(0,[.sl 1 [],ti,ti])],ro:=[(0,.int,true),(1,.u8,false)]})]
def zpg (c:Cur)(s:Cur)(a:LI):Prop:=(∃N,zwh N c=some (AV.agg (zbT s)::[aS .int a]))/\(s.b=c.b/\0<=s.i)/\(a.length=4)
def ziR (c:Cur)  : Bool:=wC (zpg c)
def zfC (c:Cur)  : Cur:=wS (zpg c)
def znZ (c:Cur)  : LI:=wV (zpg c)
def zwQ {c:Cur}(h:ziR c=true):zpg c (zfC c) (znZ c):=wG h
def zGr (c:Cur)  : 0<=(zfC c).i:=wP λh=>h.2.1.2
def zWo (c:Cur)(h:∃N,Ends (wE (λa=>aS .int a) c.b λa=>a.length=4)<|zwh N c):ziR c=true:=wI (λ_ _ h=>h) h
def zxL:zdB:=rP0 λc=>(ziR c,zfC c,[aS .int<|znZ c])
def zKf:zbP Tryz.prog 393 [false,true,true] zxL:=hP0 zei zN zIb zq zRA (λ_ h=>(zwQ h).1)
def zLf {c:Cur}(h:zba c):ziR c=true:=by
 refine zWo c ⟨1002,?_⟩;unfold zwh oN;conv=>zeta
 exact zTV h (P:=λ_=>True) (m:=4) (by omega) (by omega) (fc:=λc=>zu c 100) (fs:=λc=>zf c 100) (fv:=λc=>zk c 100) (R:=λs l=>AV.agg (zbT s)::[aS .int l]) (λh=>zbp h _) (λc=>zB c _) (λ_=>trivial) (λs l a d e f=>⟨s,l,rfl,⟨a,d⟩,by unfold ln at e;omega⟩) ((λi t=>((i:Int),t.1,t.2.1,t.2.2,c.b,())):Int->Int×Int×LI->_) (λrec t i k l=>rfl)
def z6Q:zcT:=[(239,[false,true,true],zrR),(393,[false,true,true],zxL)]++z6P
def zIc:zb2 z6Q:=zce zIb (by
 intro x a;simp only[qG,qN,or_false]at a;rcases a with rfl|rfl
 .exact zBn
 .exact zKf)
def zyu (N:Nat)(c:Cur)(f:Int):OA:=
 (iter (σ:=(Int×Int×Int×Int×lM×LI×Unit)) N (λg a=>let b:=a.2.2.2.2;let d:=(⟨b.2.1,a.2.2.1,a.2.2.2.1⟩:Cur);let e:=ap b.1 [znZ d]; (cond (ilt a.2.1 a.1) (oN (ziR d)<|oN (few<|ln e)<|g (a.1,zM .i64 a.2.1 1,(zfC d).i,(zfC d).h,e,b.2.1,()))<|some [.agg [.s .u8 b.2.1,.i .i64 a.2.2.1,.i .i64 a.2.2.2.1],aS (.sl .int) b.1])) (f,0,c.i,c.h,[],c.b,()))
def zVe:=zA [(340,0,{n:=19,tm:=[(0,.lp 0 0),(1,ti),(5,.sl 0 []),(6,ti)],lo:=[(0,[.sl 1 [],ti,ti])],ro:=[(0,.sl .int,true),(1,.u8,false)]})]
def zrd (c:Cur)(a:Int)(s:Cur)(d:List LI):Prop:=(∃N,zyu N c a=some (AV.agg (zbT s)::[aS (.sl .int) d]))/\(s.b=c.b/\0<=s.i)/\(0<=a->a<=1000->ln d=a/\∀r∈d,r.length=4)
def zhv (c:Cur)(a:Int):Bool:=wC (zrd c a)
def ziF (c:Cur)(a:Int):Cur:=wS (zrd c a)
def zhl (c:Cur)(a0:Int):List LI:=wV (zrd c a0)
def zs9 {c:Cur}{a0:Int}(h:zhv c a0=true):zrd c a0 (ziF c a0) (zhl c a0):=wG h
def zLt (c:Cur)(a0:Int):0<=(ziF c a0).i:=wP λh=>h.2.1.2
def zZi (c:Cur)(a:Int)(h:∃N,Ends (wE (λd=>aS (.sl .int) d) c.b λd=>(0<=a->a<=1000->ln d=a/\∀r∈d,r.length=4))<|zyu N c a):zhv c a=true:=wI (λ_ _ h=>h) h
def zAm:zdB:=rP1 dI λc b=>(zhv c b,ziF c b,[aS (.sl .int)<|zhl c b])
def zxu:zbP Tryz.prog 340 [false,true,true] zAm:=hP1 zei zN zIc zq zVe (λ_ _ h=>(zs9 h).1)
def z6C {c:Cur}(h:zba c){a0:Int}(a:0<=a0)(d:a0<=1000):zhv c a0=true:=by
 refine zZi c a0 ⟨1002,?_⟩;unfold zyu oN;conv=>zeta
 exact zTV h (P:=λr=>r.length=4) a d (fc:=ziR) (fs:=zfC) (fv:=znZ) (R:=λs l=>AV.agg (zbT s)::[aS (.sl .int) l]) zLf zGr (λh=>(zwQ<|zLf h).2.2) (λs l e f g j=>⟨s,l,rfl,⟨e,f⟩,λ_ _=>⟨g,j⟩⟩) ((λi t=>(a0,(i:Int),t.1,t.2.1,t.2.2,c.b,())):Int->Int×Int×List LI->_) (λrec t i k l=>rfl)
def ztv (N:Nat)(c:Cur)  : OA :=
 let d:=znZ c;let e:=({ (zfC c) with b:=c.b}:Cur);let f:=zf e 6;let a:=({f with b:=c.b}:Cur);let g:=({ (zf a 4) with b:=c.b}:Cur); (oN (ziR c)<|oN (zu e 6)<|cond (ieq (zk e 6) 0) (oN (zu a 4)<|oN (inr 0 (zk a 4)<|ln d)<|some [.agg [.s .u8 c.b,.i .i64 (zf a 4).i,.i .i64 (zf a 4).h],aS .int<|tk d<|zk a 4])<|cond (ieq (zk e 6) 1) (oN (zu a 4)<|oN (zbq g [-1,99,100])<|oN (inb (zk a 4)<|ln d)<|p0 (up d (zk a 4)<|zbk g [-1,99,100]) λj=>some [.agg [.s .u8 c.b,.i .i64 (zZ g [-1,99,100]).i,.i .i64 (zZ g [-1,99,100]).h],aS .int j])<|cond (ieq (zk e 6) 2) (oN (few<|ln<|ap d [1])<|some [.agg [.s .u8 c.b,.i .i64 f.i,.i .i64 f.h],aS .int<|ap d [1]])<|some [.agg [.s .u8 c.b,.i .i64 f.i,.i .i64 f.h],aS .int d])
def zni (c:Cur)(s:Cur)(a:LI):Prop:=(∃N,ztv N c=some (AV.agg (zbT s)::[aS .int a]))/\(s.b=c.b/\0<=s.i)/\(a.length<=5)
def zlD (c:Cur)  : Bool:=wC (zni c)
def zlE (c:Cur)  : Cur:=wS (zni c)
def zs8 (c:Cur)  : LI:=wV (zni c)
def zDt {c:Cur}(h:zlD c=true):zni c (zlE c) (zs8 c):=wG h
def zUt (c:Cur)  : 0<=(zlE c).i:=wP λh=>h.2.1.2
def zUs (c:Cur)(h:∃N,Ends (wE (λa=>aS .int a) c.b λa=>a.length<=5)<|ztv N c):zlD c=true:=wI (λ_ _ h=>h) h
def zvz:zdB:=rP0 λc=>(zlD c,zlE c,[aS .int<|zs8 c])
def zHF:zbP Tryz.prog 240 [false,true,true] zvz:=hP0 zei zN zIc zq (zA []) (λ_ h=>(zDt h).1)
def zWW {c:Cur}(h:zba c):zlD c=true:=by
 refine zUs c ⟨0,?_⟩;unfold ztv oN;conv=>zeta
 have e:zba {zfC c with b:=c.b}:=zbE h (zGr _);have a:zba {zf {zfC c with b:=c.b} 6 with b:=c.b}:=zbE h (zB _ _);have f:zba {zf {zf {zfC c with b:=c.b} 6 with b:=c.b} 4 with b:=c.b}:=zbE h (zB _ _);have g:=(zwQ<|zLf h).2.2;generalize znZ c=T at g;have d:ln T=4:=(by unfold ln;omega);refine zo (zLf h) (zo (zbp e 6)<|zbt (λ_=>zo (zbp a 4) (zo (zB4 a (by omega) (by omega))<|zby (aS .int) (zB _ _)<|qS (zCT T _) (by omega))) λ_=>zbt (λ_=>zo (zbp a 4) (zo (ze8 f (by simp))<|zo (zu4 a (by omega) (by omega))<|zij<|zby (aS .int) (zbW _ _) (by rw[ziv];omega))) λ_=>zbt (λ_=>zo (zhS (by rw[zfR];omega)) (zby (aS .int) (zB _ _) ?_)) λ_=>zby (aS .int) (zB _ _) (by omega));simp[ap];omega
def z6R:zcT:=[(340,[false,true,true],zAm),(240,[false,true,true],zvz)]++z6Q
def zUc:zb2 z6R:=zce zIc (by
 intro x a;simp only[qG,qN,or_false]at a;rcases a with rfl|rfl
 .exact zxu
 .exact zHF)
def zr7 (N:Nat)(c:Cur)  : OA :=
 let d:=({ (zgO c) with b:=c.b}:Cur);let a:=({ (zf d 10) with b:=c.b}:Cur);let e:=zZ a [-1,0,12,15,16,99,100,9223372036854775807]; (oN (zj1 c)<|oN (zu d 10)<|cond (ieq (zk d 10) 0) (oN (zu a 11)<|some [.agg [.s .u8 c.b,.i .i64 (zf a 11).i,.i .i64 (zf a 11).h],.agg [.i .i64<|wsub .i64 (zk a 11) 1,.i .i64 (zgx c).X]])<|cond (ieq (zk d 10) 1) (oN (zbq a [-1,0,12,15,16,99,100,9223372036854775807])<|some [.agg [.s .u8 c.b,.i .i64 e.i,.i .i64 e.h],.agg [.i .i64 (zgx c).Op,.i .i64<|zbk a [-1,0,12,15,16,99,100,9223372036854775807]]])<|some [.agg [.s .u8 c.b,.i .i64 (zf d 10).i,.i .i64 (zf d 10).h],.agg [.i .i64 (zgx c).Op,.i .i64 (zgx c).X]])
def zmm (c:Cur)(s:Cur)(a:Ins):Prop:=(∃N,zr7 N c=some (AV.agg (zbT s)::[aT .ins a]))/\(s.b=c.b/\0<=s.i)/\(True)
def zkt (c:Cur)  : Bool:=wC (zmm c)
def zku (c:Cur)  : Cur:=wS (zmm c)
def zwR (c:Cur)  : Ins:=wV (zmm c)
def zRm {c:Cur}(h:zkt c=true):zmm c (zku c) (zwR c):=wG h
def zRo (c:Cur)  : 0<=(zku c).i:=wP λh=>h.2.1.2
def zRn (c:Cur)(h:∃N,Ends (wE (λa=>aT .ins a) c.b λa=>True)<|zr7 N c):zkt c=true:=wI (λ_ _ h=>h) h
def zug:zdB:=rP0 λc=>(zkt c,zku c,[aT .ins<|zwR c])
def zEO:zbP Tryz.prog 448 [false,true,true] zug:=hP0 zei zN zUc zq (zA []) (λ_ h=>(zRm h).1)
def z2X {c:Cur}(h:zba c):zkt c=true:=by
 refine zRn c ⟨0,?_⟩;unfold zr7 oN;conv=>zeta
 have d:zba {zgO c with b:=c.b}:=zbE h (zzH _);have a:zba {zf {zgO c with b:=c.b} 10 with b:=c.b}:=zbE h (zB _ _);exact zo (zRM h) (zo (zbp d 10)<|zbt (λ_=>zo (zbp a 11) (zby (aT .ins) (v:=⟨wsub .i64 _ 1,(zgx c).X⟩) (zB _ _) trivial)) λ_=>zbt (λ_=>zo (ze8 a (by simp)) (zby (aT .ins) (v:=⟨(zgx c).Op,zbk _ _⟩) (zbW _ _) trivial)) λ_=>zby (aT .ins) (v:=zgx c) (zB _ _) trivial)
def z6S:zcT:=[(448,[false,true,true],zug)]++z6R
def zzu:zb2 z6S:=zce zUc (by
 intro x a;simp only[qG,qN,or_false]at a;rcases a with rfl
 .exact zEO)
def zpK (N:Nat)(c:Cur)  : OA :=
 let e:=zb4 c;let g:=({ (zbb c) with b:=c.b}:Cur);let k:=zf g 8;let d:=({k with b:=c.b}:Cur); (oN (zhC c)<|oN (zu g 8)<|cond (ieq (zk g 8) 0) (oN (zkt d)<|oN (inb 0<|ln e)<|p0 (up e 0<|zwR d) λm=>some [.agg [.s .u8 c.b,.i .i64 (zku d).i,.i .i64 (zku d).h],aS .ins m])<|cond (ieq (zk g 8) 1) (iter (σ:=(Int×Int×lI×LI×Unit)) N (λl a=>let j:=(⟨a.2.2.2.1,a.1,a.2.1⟩:Cur);let f:=({ (zf j 2) with b:=a.2.2.2.1}:Cur); (oN (zu j 2)<|cond (ilt (ln a.2.2.1)<|zM .i64 12<|zk j 2) (oN (zj1 f)<|oN (few<|ln<|ap a.2.2.1 [zgx f])<|l ((zgO f).i,(zgO f).h,ap a.2.2.1 [zgx f],a.2.2.2.1,()))<|some [.agg [.s .u8 a.2.2.2.1,.i .i64 (zf j 2).i,.i .i64 (zf j 2).h],aS .ins a.2.2.1])) (k.i,k.h,e,c.b,()))<|cond (ieq (zk g 8) 2) (oN (zu d 2)<|oN (inr 0 (zk d 2)<|ln e)<|some [.agg [.s .u8 c.b,.i .i64 (zf d 2).i,.i .i64 (zf d 2).h],aS .ins<|tk e<|zk d 2])<|some [.agg [.s .u8 c.b,.i .i64 k.i,.i .i64 k.h],aS .ins e])
def zIA:=zA [(364,1,{n:=34,tm:=[(0,.lp 0 0),(3,.sl 0 [])],lo:=[(0,[.sl 1 [],ti,ti])],ro:=[(0,.ins,true),(1,.u8,false)]})]
def zkZ (c:Cur)(s:Cur)(a:List Ins):Prop:=(∃N,zpK N c=some (AV.agg (zbT s)::[aS .ins a]))/\(s.b=c.b/\0<=s.i)/\(a.length<=13)
def zjr (c:Cur)  : Bool:=wC (zkZ c)
def zjs (c:Cur)  : Cur:=wS (zkZ c)
def zph (c:Cur)  : List Ins:=wV (zkZ c)
def zyi {c:Cur}(h:zjr c=true):zkZ c (zjs c) (zph c):=wG h
def zOc (c:Cur)  : 0<=(zjs c).i:=wP λh=>h.2.1.2
def zOb (c:Cur)(h:∃N,Ends (wE (λa=>aS .ins a) c.b λa=>a.length<=13)<|zpK N c):zjr c=true:=wI (λ_ _ h=>h) h
def zsG:zdB:=rP0 λc=>(zjr c,zjs c,[aS .ins<|zph c])
def zCC:zbP Tryz.prog 364 [false,true,true] zsG:=hP0 zei zN zzu zq zIA (λ_ h=>(zyi h).1)
def zOZ {c:Cur}(h:zba c):zjr c=true:=by
 refine zOb c ⟨1002,?_⟩;unfold zpK oN;conv=>zeta
 have B:zba {zbb c with b:=c.b}:=zbE h (ziT _);have q:zba {zf {zbb c with b:=c.b} 8 with b:=c.b}:=zbE h (zB _ _);have g:=(zrg<|zC1 h).2.2;have p:=zIg g;have j:1<=(zb4 c).length:=(by unfold zdR at g;cases d:(zb4 c).all zeV with|false=>rw[d] at g;cases g|true=>rw[d,cT] at g;have:=(zgz.1 g).1;unfold ln at this;omega);generalize zb4 c=T at p j;have y:1<=ln T/\ln T<=12:=(by unfold ln;omega);have e:(2:Int)<=ln T+1:=(by omega);refine zo (zC1 h) (zo (zbp B 8)<|zbt (λ_=>zo (z2X q) (zo (qM (by omega))<|zij<|zby (aS .ins) (zRo _) (by rw[ziv];omega))) λ_=>zbt (λ_=>?_) λ_=>zbt (λ_=>zo (zbp q 2) (zo (zB4 q (n:=2) (by omega) e)<|zby (aS .ins) (zB _ _)<|qS (zCT T _) (by omega))) λ_=>zby (aS .ins) (zB _ _) (by omega));{refine zke (λn s=>s.2.2.1.length+n=13/\0<=s.1/\s.2.2.2.1=c.b) ?_ 1002 (13-T.length) _ ⟨by dsimp only;omega,zB _ _,rfl⟩ (by omega);rintro n ⟨i,k,l,b,u⟩ rec ⟨v,r,t⟩ m;dsimp only at v r t ⊢;subst t;have a:zba ⟨c.b,i,k⟩:=zbE h r;have A:=zfi a (n:=2) (by omega);have z:=zhP (x:=12) (by omega) (by omega) A.1 (by omega);have w:zba {zf ⟨c.b,i,k⟩ 2 with b:=c.b}:=zbE h (zB _ _);refine zo (zbp a 2) (zbt (λd=>?_) λd=>?_);{have f:ln l<zM .i64 12 (zk ⟨c.b,i,k⟩ 2):=qF d;rw[z]at f;unfold ln at f;exact zo (zRM w) (zo (zhS (by rw[zfR];unfold ln;omega))<|m (n-1) _ (by omega) ⟨by simp[ap];omega,zzH _,rfl⟩)};{exact zby (aS .ins) (zB _ _) (by omega)}}
def zyw (N:Nat)(c:Cur)  : OA :=
 let a:=zcA c;let e:=({ (zcg c) with b:=c.b}:Cur);let f:=zf e 8;let d:=({f with b:=c.b}:Cur);let g:=zZ d [-1,255,256,9223372036854775807]; (oN (zj2 c)<|oN (zu e 8)<|cond (ieq (zk e 8) 0) (oN (zbq d [-1,2,3,4])<|some [.agg [.s .u8 c.b,.i .i64 (zZ d [-1,2,3,4]).i,.i .i64 (zZ d [-1,2,3,4]).h],.agg [.i .i64<|zbk d [-1,2,3,4],.i .i64 a.Post,.b a.Open]])<|cond (ieq (zk e 8) 1) (oN (zbq d [-1,255,256,9223372036854775807])<|some [.agg [.s .u8 c.b,.i .i64 g.i,.i .i64 g.h],.agg [.i .i64 a.aq,.i .i64<|zbk d [-1,255,256,9223372036854775807],.b a.Open]])<|cond (ieq (zk e 8) 2) (some [.agg [.s .u8 c.b,.i .i64 f.i,.i .i64 f.h],.agg [.i .i64 a.aq,.i .i64 a.Post,.b<|nB a.Open]])<|some [.agg [.s .u8 c.b,.i .i64 f.i,.i .i64 f.h],.agg [.i .i64 a.aq,.i .i64 a.Post,.b a.Open]])
def zrh (c:Cur)(s:Cur)(a:Ctl):Prop:=(∃N,zyw N c=some (AV.agg (zbT s)::[.agg<|zog a]))/\(s.b=c.b/\0<=s.i)/\(True)
def zpj (c:Cur)  : Bool:=wC (zrh c)
def zpk (c:Cur)  : Cur:=wS (zrh c)
def zzI (c:Cur)  : Ctl:=wV (zrh c)
def zZk {c:Cur}(h:zpj c=true):zrh c (zpk c) (zzI c):=wG h
def zZm (c:Cur)  : 0<=(zpk c).i:=wP λh=>h.2.1.2
def zZl (c:Cur)(h:∃N,Ends (wE (λa=>.agg (zog a)) c.b λa=>True)<|zyw N c):zpj c=true:=wI (λ_ _ h=>h) h
def zAo:zdB:=rP0 λc=>(zpj c,zpk c,[.agg<|zog<|zzI c])
def zM6:zbP Tryz.prog 394 [false,true,true] zAo:=hP0 zei zN zzu zq (zA []) (λ_ h=>(zZk h).1)
def z2W {c:Cur}(h:zba c):zpj c=true:=by
 refine zZl c ⟨0,?_⟩;unfold zyw oN nB;conv=>zeta
 have d:zba {zcg c with b:=c.b}:=zbE h (zzJ _);have a:zba {zf {zcg c with b:=c.b} 8 with b:=c.b}:=zbE h (zB _ _);exact zo (zX6 h) (zo (zbp d 8)<|zbt (λ_=>zo (ze8 a (by simp)) (zby (λx=>AV.agg (zog x)) (v:=⟨zbk _ _,(zcA c).Post,(zcA c).Open⟩) (zbW _ _) trivial)) λ_=>zbt (λ_=>zo (ze8 a (by simp)) (zby (λx=>AV.agg (zog x)) (v:=⟨(zcA c).aq,zbk _ _,(zcA c).Open⟩) (zbW _ _) trivial)) λ_=>zbt (λ_=>zby (λx=>AV.agg (zog x)) (v:=⟨(zcA c).aq,(zcA c).Post,bif (zcA c).Open then false else true⟩) (zB _ _) trivial) λ_=>zby (λx=>AV.agg (zog x)) (v:=(zcA c)) (zB _ _) trivial)
def zwj (N:Nat)(c:Cur)  : OA :=
 let f:=zf c 5;let d:=({f with b:=c.b}:Cur);let j:=zf d 100;let a:=zk d 100;let e:=({ (zf d 4) with b:=c.b}:Cur);let g:=zfB (zk d 4)<|zcQ e 2; (oN (zu c 5)<|cond (ieq (zk c 5) 0) (oN (zu d 4)<|oN (zcv e 2)<|oN (zkk (zk d 4)<|zcQ e 2)<|some [.agg [.s .u8 c.b,.i .i64 (zO e 2).i,.i .i64 (zO e 2).h],.agg [.i .i64 g.Kind,.i .i64 g.af,.b g.Write,.i .i64 g.N]])<|cond (ieq (zk c 5) 1) (oN (zu d 100)<|oN (zgZ a)<|some [.agg [.s .u8 c.b,.i .i64 j.i,.i .i64 j.h],.agg [.i .i64 (zfU a).Kind,.i .i64 (zfU a).af,.b (zfU a).Write,.i .i64 (zfU a).N]])<|cond (ieq (zk c 5) 2) (oN (zu d 100)<|oN (zgZ a)<|some [.agg [.s .u8 c.b,.i .i64 j.i,.i .i64 j.h],.agg [.i .i64 (zg0 a).Kind,.i .i64 (zg0 a).af,.b (zg0 a).Write,.i .i64 (zg0 a).N]])<|cond (ieq (zk c 5) 3) (some [.agg [.s .u8 c.b,.i .i64 f.i,.i .i64 f.h],.agg [.i .i64 4,.i .i64 0,.b false,.i .i64 0]])<|some [.agg [.s .u8 c.b,.i .i64 f.i,.i .i64 f.h],.agg [.i .i64 0,.i .i64 0,.b false,.i .i64 0]])
def zpn (c:Cur)(s:Cur)(a:aE):Prop:=(∃N,zwj N c=some (AV.agg (zbT s)::[.agg<|zgl a]))/\(s.b=c.b/\0<=s.i)/\(True)
def ziU (c:Cur)  : Bool:=wC (zpn c)
def zfD (c:Cur)  : Cur:=wS (zpn c)
def zb9 (c:Cur)  : aE:=wV (zpn c)
def zWq {c:Cur}(h:ziU c=true):zpn c (zfD c) (zb9 c):=wG h
def zwS (c:Cur)  : 0<=(zfD c).i:=wP λh=>h.2.1.2
def zWr (c:Cur)(h:∃N,Ends (wE (λa=>.agg (zgl a)) c.b λa=>True)<|zwj N c):ziU c=true:=wI (λ_ _ h=>h) h
def zxN:zdB:=rP0 λc=>(ziU c,zfD c,[.agg<|zgl<|zb9 c])
def zKi:zbP Tryz.prog 435 [false,true,true] zxN:=hP0 zei zN zzu zq (zA []) (λ_ h=>(zWq h).1)
def zSL {c:Cur}(h:zba c):ziU c=true:=by
 refine zWr c ⟨0,?_⟩;unfold zwj oN;conv=>zeta
 have a:zba {zf c 5 with b:=c.b}:=zbE h (zB _ _);have d:zba {zf {zf c 5 with b:=c.b} 4 with b:=c.b}:=zbE h (zB _ _);exact zo (zbp h 5) (zbt (λ_=>zo (zbp a 4) (zo (zhW d 2) (zo rfl (zby (λx=>AV.agg (zgl x)) (v:=zfB _ _) (zb0 _ _) trivial)))) λ_=>zbt (λ_=>zo (zbp a 100) (zo rfl (zby (λx=>AV.agg (zgl x)) (v:=zfU _) (zB _ _) trivial))) λ_=>zbt (λ_=>zo (zbp a 100) (zo rfl (zby (λx=>AV.agg (zgl x)) (v:=zg0 _) (zB _ _) trivial))) λ_=>zbt (λ_=>zby (λx=>AV.agg (zgl x)) (v:=⟨4,0,false,0⟩) (zB _ _) trivial) λ_=>zby (λx=>AV.agg (zgl x)) (v:=⟨0,0,false,0⟩) (zB _ _) trivial)
def z6T:zcT:=[(364,[false,true,true],zsG),(394,[false,true,true],zAo),(435,[false,true,true],zxN)]++z6S
def zp8:zb2 z6T:=zce zzu (by
 intro x a;simp only[qG,qN,or_false]at a;rcases a with rfl|rfl|rfl
 .exact zCC
 .exact zM6
 .exact zKi)
def zyy (N:Nat)(c:Cur)  : OA :=
 let a:=zb9 c;let e:=({ (zfD c) with b:=c.b}:Cur);let d:=({ (zf e 8) with b:=c.b}:Cur); (oN (ziU c)<|oN (zu e 8)<|cond (ieq (zk e 8) 0) (oN (zu d 7)<|some [.agg [.s .u8 c.b,.i .i64 (zf d 7).i,.i .i64 (zf d 7).h],.agg [.i .i64<|wsub .i64 (zk d 7) 1,.i .i64 a.af,.b a.Write,.i .i64 a.N]])<|cond (ieq (zk e 8) 1) (oN (zbq d [-1,3,4])<|some [.agg [.s .u8 c.b,.i .i64 (zZ d [-1,3,4]).i,.i .i64 (zZ d [-1,3,4]).h],.agg [.i .i64 a.Kind,.i .i64<|zbk d [-1,3,4],.b a.Write,.i .i64 a.N]])<|cond (ieq (zk e 8) 2) (oN (zbq d [-1,99,100])<|some [.agg [.s .u8 c.b,.i .i64 (zZ d [-1,99,100]).i,.i .i64 (zZ d [-1,99,100]).h],.agg [.i .i64 a.Kind,.i .i64 a.af,.b a.Write,.i .i64<|zbk d [-1,99,100]]])<|some [.agg [.s .u8 c.b,.i .i64 (zf e 8).i,.i .i64 (zf e 8).h],.agg [.i .i64 a.Kind,.i .i64 a.af,.b a.Write,.i .i64 a.N]])
def zrj (c:Cur)(s:Cur)(a:aE):Prop:=(∃N,zyy N c=some (AV.agg (zbT s)::[.agg<|zgl a]))/\(s.b=c.b/\0<=s.i)/\(True)
def zpl (c:Cur)  : Bool:=wC (zrj c)
def zpm (c:Cur)  : Cur:=wS (zrj c)
def zzK (c:Cur)  : aE:=wV (zrj c)
def zZp {c:Cur}(h:zpl c=true):zrj c (zpm c) (zzK c):=wG h
def zZr (c:Cur)  : 0<=(zpm c).i:=wP λh=>h.2.1.2
def zZq (c:Cur)(h:∃N,Ends (wE (λa=>.agg (zgl a)) c.b λa=>True)<|zyy N c):zpl c=true:=wI (λ_ _ h=>h) h
def zAq:zdB:=rP0 λc=>(zpl c,zpm c,[.agg<|zgl<|zzK c])
def zM8:zbP Tryz.prog 395 [false,true,true] zAq:=hP0 zei zN zp8 zq (zA []) (λ_ h=>(zZp h).1)
def zZ0 {c:Cur}(h:zba c):zpl c=true:=by
 refine zZq c ⟨0,?_⟩;unfold zyy oN;conv=>zeta
 have d:zba {zfD c with b:=c.b}:=zbE h (zwS _);have a:zba {zf {zfD c with b:=c.b} 8 with b:=c.b}:=zbE h (zB _ _);exact zo (zSL h) (zo (zbp d 8)<|zbt (λ_=>zo (zbp a 7) (zby (λx=>AV.agg (zgl x)) (v:=⟨wsub .i64 _ 1,(zb9 c).af,(zb9 c).Write,(zb9 c).N⟩) (zB _ _) trivial)) λ_=>zbt (λ_=>zo (ze8 a (by simp)) (zby (λx=>AV.agg (zgl x)) (v:=⟨(zb9 c).Kind,zbk _ _,(zb9 c).Write,(zb9 c).N⟩) (zbW _ _) trivial)) λ_=>zbt (λ_=>zo (ze8 a (by simp)) (zby (λx=>AV.agg (zgl x)) (v:=⟨(zb9 c).Kind,(zb9 c).af,(zb9 c).Write,zbk _ _⟩) (zbW _ _) trivial)) λ_=>zby (λx=>AV.agg (zgl x)) (v:=(zb9 c)) (zB _ _) trivial)
def zwk (N:Nat)(c:Cur)  : OA :=
 let a:=({ (zf c 256) with b:=c.b}:Cur);let d:=({ (zf a 256) with b:=c.b}:Cur);let e:=zZ d [0,1,128,255,zk c 256,zk a 256,-1,256,9223372036854775807]; (oN (zu c 256)<|oN (zu a 256)<|oN (zbq d [0,1,128,255,zk c 256,zk a 256,-1,256,9223372036854775807])<|some [.agg [.s .u8 c.b,.i .i64 e.i,.i .i64 e.h],aI<|zbk d [0,1,128,255,zk c 256,zk a 256,-1,256,9223372036854775807]])
def zpo (c:Cur)(s:Cur)(a:Int):Prop:=(∃N,zwk N c=some (AV.agg (zbT s)::[aI a]))/\(s.b=c.b/\0<=s.i)/\(True)
def zkK (c:Cur)  : Bool:=wC (zpo c)
def ziV (c:Cur)  : Cur:=wS (zpo c)
def zn0 (c:Cur)  : Int:=wV (zpo c)
def zWs {c:Cur}(h:zkK c=true):zpo c (ziV c) (zn0 c):=wG h
def zGs (c:Cur)  : 0<=(ziV c).i:=wP λh=>h.2.1.2
def zWt (c:Cur)(h:∃N,Ends (wE (λa=>aI a) c.b λa=>True)<|zwk N c):zkK c=true:=wI (λ_ _ h=>h) h
def zxO:zdB:=rP0 λc=>(zkK c,ziV c,[aI<|zn0 c])
def zKj:zbP Tryz.prog 339 [false,true,true] zxO:=hP0 zei zN zp8 zq (zA []) (λ_ h=>(zWs h).1)
def z14 {c:Cur}(h:zba c):zkK c=true:=by
 refine zWt c ⟨0,?_⟩;unfold zwk oN;conv=>zeta
 have a:zba {zf c 256 with b:=c.b}:=zbE h (zB _ _);have d:zba {zf {zf c 256 with b:=c.b} 256 with b:=c.b}:=zbE h (zB _ _);exact zo (zbp h 256) (zo (zbp a 256)<|zo (ze8 d (by simp))<|zby aI (zbW _ _) trivial)
def ztx (N:Nat)(c:Cur)  : OA :=
 let a:=zZ c [0,1,2,3,0,1,-1,4,9223372036854775807]; (oN (zbq c [0,1,2,3,0,1,-1,4,9223372036854775807])<|some [.agg [.s .u8 c.b,.i .i64 a.i,.i .i64 a.h],aI<|zbk c [0,1,2,3,0,1,-1,4,9223372036854775807]])
def znk (c:Cur)(s:Cur)(a:Int):Prop:=(∃N,ztx N c=some (AV.agg (zbT s)::[aI a]))/\(s.b=c.b/\0<=s.i)/\(True)
def zlF (c:Cur)  : Bool:=wC (znk c)
def zlG (c:Cur)  : Cur:=wS (znk c)
def zta (c:Cur)  : Int:=wV (znk c)
def zUw {c:Cur}(h:zlF c=true):znk c (zlG c) (zta c):=wG h
def zUy (c:Cur)  : 0<=(zlG c).i:=wP λh=>h.2.1.2
def zUx (c:Cur)(h:∃N,Ends (wE (λa=>aI a) c.b λa=>True)<|ztx N c):zlF c=true:=wI (λ_ _ h=>h) h
def zvB:zdB:=rP0 λc=>(zlF c,zlG c,[aI<|zta c])
def zHH:zbP Tryz.prog 242 [false,true,true] zvB:=hP0 zei zN zp8 zq (zA []) (λ_ h=>(zUw h).1)
def z9a {c:Cur}(h:zba c):zlF c=true:=by
 refine zUx c ⟨0,?_⟩;unfold ztx oN;conv=>zeta
 exact zo (ze8 h (by simp)) (zby aI (zbW _ _) trivial)
def zwf (N:Nat)(c:Cur)  : OA :=
 let a:=zZ c [0,1,2,3,3,4,7,8,-1,9223372036854775807,-9223372036854775808]; (oN (zbq c [0,1,2,3,3,4,7,8,-1,9223372036854775807,-9223372036854775808])<|some [.agg [.s .u8 c.b,.i .i64 a.i,.i .i64 a.h],aI<|zbk c [0,1,2,3,3,4,7,8,-1,9223372036854775807,-9223372036854775808]])
def zpe (c:Cur)(s:Cur)(a:Int):Prop:=(∃N,zwf N c=some (AV.agg (zbT s)::[aI a]))/\(s.b=c.b/\0<=s.i)/\(True)
def zkJ (c:Cur)  : Bool:=wC (zpe c)
def zGp (c:Cur)  : Cur:=wS (zpe c)
def zv4 (c:Cur)  : Int:=wV (zpe c)
def zWl {c:Cur}(h:zkJ c=true):zpe c (zGp c) (zv4 c):=wG h
def zWm (c:Cur)(h:∃N,Ends (wE (λa=>aI a) c.b λa=>True)<|zwf N c):zkJ c=true:=wI (λ_ _ h=>h) h
def zxJ:zdB:=rP0 λc=>(zkJ c,zGp c,[aI<|zv4 c])
def zKc:zbP Tryz.prog 355 [false,true,true] zxJ:=hP0 zei zN zp8 zq (zA []) (λ_ h=>(zWl h).1)
def z8F {c:Cur}(h:zba c):zkJ c=true:=by
 refine zWm c ⟨0,?_⟩;unfold zwf oN;conv=>zeta
 exact zo (ze8 h (by simp)) (zby aI (zbW _ _) trivial)
def ztw (N:Nat)(c:Cur)  : OA :=
 let e:=({ (zf c 3) with b:=c.b}:Cur);let d:=({ (zf e 4) with b:=c.b}:Cur);let a:=({ (zf d 6) with b:=c.b}:Cur); (oN (zu c 3)<|oN (zu e 4)<|oN (zu d 6)<|oN (zu a 3)<|some [.agg [.s .u8 c.b,.i .i64 (zf a 3).i,.i .i64 (zf a 3).h],.agg [.i .i64<|zM .i64 1<|zk c 3,.i .i64<|zk e 4,.i .i64<|zk d 6,.i .i64<|zM .i64 1<|zk a 3]])
def znj (c:Cur)(s:Cur)(a:ar):Prop:=(∃N,ztw N c=some (AV.agg (zbT s)::[aT .entry a]))/\(s.b=c.b/\0<=s.i)/\(True)
def zh8 (c:Cur)  : Bool:=wC (znj c)
def zg2 (c:Cur)  : Cur:=wS (znj c)
def zml (c:Cur)  : ar:=wV (znj c)
def zUu {c:Cur}(h:zh8 c=true):znj c (zg2 c) (zml c):=wG h
def zuF (c:Cur)  : 0<=(zg2 c).i:=wP λh=>h.2.1.2
def zUv (c:Cur)(h:∃N,Ends (wE (λa=>aT .entry a) c.b λa=>True)<|ztw N c):zh8 c=true:=wI (λ_ _ h=>h) h
def zvA:zdB:=rP0 λc=>(zh8 c,zg2 c,[aT .entry<|zml c])
def zHG:zbP Tryz.prog 202 [false,true,true] zvA:=hP0 zei zN zp8 zq (zA []) (λ_ h=>(zUu h).1)
def zMp {c:Cur}(h:zba c):zh8 c=true:=by
 refine zUv c ⟨0,?_⟩;unfold ztw oN;conv=>zeta
 have a:zba {zf c 3 with b:=c.b}:=zbE h (zB _ _);have d:zba {zf {zf c 3 with b:=c.b} 4 with b:=c.b}:=zbE h (zB _ _);have e:zba {zf {zf {zf c 3 with b:=c.b} 4 with b:=c.b} 6 with b:=c.b}:=zbE h (zB _ _);exact zo (zbp h 3) (zo (zbp a 4)<|zo (zbp d 6)<|zo (zbp e 3)<|zby (aT .entry) (v:=⟨_,_,_,_⟩) (zB _ _) trivial)
def z6U:zcT:=[(395,[false,true,true],zAq),(339,[false,true,true],zxO),(242,[false,true,true],zvB),(355,[false,true,true],zxJ),(202,[false,true,true],zvA)]++z6T
def z4y:zb2 z6U:=zce zp8 (by
 intro x a;simp only[qG,qN,or_false]at a;rcases a with rfl|rfl|rfl|rfl|rfl
 .exact zM8
 .exact zKj
 .exact zHH
 .exact zKc
 .exact zHG)
section
open Go Go.RowKit
structure Cw (w0:World) (blk:Nat) (u:Value) (c:Cur) (w:World):Prop where
 os:w.os=w0.os
 tape:w.tape=w0.tape
 output:w.output=w0.output
 size:w0.heap.size<=w.heap.size
 keep:∀b,b<w0.heap.size->b≠blk->w.heap[b]?=w0.heap[b]?
 cur:∃e,w.heap[blk]?=some (.cells #[u,.int .i64 c.i,.int .i64 c.h] e (0,0))
def Cw.trans {g w1 h:World}{blk:Nat}{u:Value}{i d:Cur}(a:Cw g blk u i w1)(c:Cw w1 blk u d h):Cw g blk u d h :=
 ⟨c.os.trans a.os,c.tape.trans a.tape,c.output.trans a.output,qS a.size c.size,λb e f=>(c.keep b (qZ e a.size) f).trans (a.keep b e f),c.cur⟩
def Cw.drew {a w:World}{blk:Nat}{u:Value}{c:Cur}(h:Cw a blk u c w):Cw a blk u c w.drew:=⟨h.os,h.tape,h.output,h.size,h.keep,h.cur⟩
def Cw.at (w:World)(blk:Nat)(u:Value)(c:Cur)(h:∃e,w.heap[blk]?=some (.cells #[u,.int .i64 c.i,.int .i64 c.h] e (0,0))):Cw w blk u c w:=⟨rfl,rfl,rfl,qW _,λ_ _ _=>rfl,h⟩
def Cw.alloc {d w:World}{blk:Nat}{u:Value}{c:Cur}(h:Cw d blk u c w)(a:blk<w.heap.size)(o:Obj):Cw d blk u c (w.alloc o):=
 ⟨h.os,h.tape,h.output,qS h.size (by simp),λb a g=>(heap_alloc_old w o<|qZ a h.size).trans (h.keep b a g),by obtain⟨e,f⟩:=h.cur;exact⟨e,(heap_alloc_old w o a).trans f⟩⟩
def Cw.lt {b w:World}{blk:Nat}{u:Value}{c:Cur}(h:Cw b blk u c w):blk<w.heap.size:=by obtain⟨e,a⟩:=h.cur;exact(qL.1 a).1
def zG3 {P:Program}{f:FuncId}{y:LC->LA->Option (Bool×LC×LA)}(V:zbP P f [false,true,true] y){w:World}{blk:Nat}{u:Value}{c c2:Cur}{z:zV}(q:∃e,w.heap[blk]?=some (.cells #[u,.int .i64 c.i,.int .i64 c.h] e (0,0)))(hu:Rep false w u (.s .u8 c.b) z)(W:∀x,z x->x<w.heap.size/\x≠blk){avs rs:LA}{xs:List Value}{Ka:zV}(l:zdo false w (zy avs) xs λ_=>Ka)(p:∀x,Ka x->x<w.heap.size/\x≠blk)(hr:y (zbT c) avs=some (true,zbT c2,rs)) :
 Calls P f (#[.pointer<|some ⟨blk,0,none⟩]++(zbS avs xs).toArray) w λe B=>∃C A,e = .returned (zjT<|zbS rs C)/\Cw w blk u c2 B/\zpG (zkQ f) B (zy rs) C A/\(∀i x,i<(zy rs).length->A i x->w.heap.size<=x/\x<B.heap.size):=by
 obtain⟨e,Y⟩:=q;refine(V.2 w blk _ e (zbT c) (λj x=>j=0/\z x) avs xs Ka (zbT c2) rs Y rfl rfl ?_ ?_ ?_ l ?_ hr).mono ?_
 .intro j cv v m k
  match j,m,k with
  | 0,m,k=>cases m;cases k;exact hu.weak (λx l=>⟨rfl,l⟩)
  | 1,m,k=>cases m;cases k;exact .i _ _ _
  | 2,m,k=>cases m;cases k;exact .i _ _ _
  |j+3,m,k=>simp[zbT]at m
 .intro j x _ l;exact W x l.2
 .intro i j x r t n hne l hx2;have:i=0:=l.1;subst this;simp[zbd]at n
 .intro x l;refine⟨(p x l).1,(p x l).2,λj t n d=>?_⟩;have:j=0:=d.1;subst this;simp[zbd]at n
 .intro E B hp;cases E with
  |panicked _=>exact hp.elim
  |outgrown=>exact hp.elim
  |returned v=>
   obtain⟨Q,R,S,T,U,a,G,K',C,A,I,L,g3,F,M,N,g7,O,g9,J,K⟩:=hp;have g:∀i x,i<(zbT c).length->zbd [false,true,true] i->¬ ((λ(j:Nat) x=>j=0/\z x) i x):=by intro i x r n d;have:i=0:=d.1;subst this;simp[zbd]at n
   have k:a = #[u,.int .i64 c2.i,.int .i64 c2.h]:=by
    have hs:a.size=3:=L;have D:=(F 0 _ (a[0]'(by omega)) rfl (jG _)).2 (by simp[zbd]);have H:=F 1 _ (a[1]'(by omega)) rfl (jG _);have E:=F 2 _ (a[2]'(by omega)) rfl (jG _);have D:u=a[0]'(by omega):=(by simpa using D);apply Array.ext;{exact hs}
    .intro i r hi2
     match i,r with
     | 0,_=>exact D.symm
     | 1,_=>exact H
     | 2,_=>exact E
     |i+3,h=>omega
   subst k;refine⟨C,A,by rw[N],⟨Q,R,S,T,λb X Z=>U b X Z λj t n d=>g j b t n d,G,I⟩,M,λi x r d=>?_⟩;obtain⟨k1,k2,k3⟩:=O i x r d;rcases k3 with⟨j,t,n,d⟩|d;{exact absurd d (g j x t n)};{exact⟨d,k1⟩}
def zeR (c:Cur):List LI:=zhl c 3
def zzi (c:Cur):Cur:={ziF c 3 with b:=c.b}
def zYP (c:Cur):Int:=zk (zzi c) 8
def zic (c:Cur):Cur:={zf (zzi c) 8 with b:=c.b}
def zYO (c:Cur):Int:=zk (zic c) 3
def zsR (c:Cur):Cur:={zf (zic c) 3 with b:=c.b}
def z9T (c:Cur):Int:=zk (zsR c) 4
def zYM (c:Cur):Cur:={zf (zsR c) 4 with b:=c.b}
def zt4 (c:Cur):Int:=zbk (zic c) [-1,100]
def zYN (c:Cur):Cur:={zZ (zic c) [-1,100] with b:=c.b}
def zoa (_:Nat)(c:Cur):OA:=
 bif zhv c 3 then (bif zu (zzi c) 8 then (bif ieq (zYP c) 0 then (cond (zu (zic c) 3) (cond (zu (zsR c) 4) (some (AV.agg (zbT<|zYM c)::[aS (.sl .int)<|up (zeR c) (zYO c)<|tk (ix (zeR c) 0 [])<|z9T c])) none) none)
  else (bif ieq (zYP c) 1 then (cond (zbq (zic c) [-1,100]) (some (AV.agg (zbT<|zYN c)::[aS (.sl .int)<|up (zeR c) 1<|up (ix (zeR c) 1 []) 2<|zt4 c])) none)
  else (cond (ieq (zYP c) 2) (cond (zu (zic c) 3) (some (AV.agg (zbT<|zsR c)::[aS (.sl .int)<|tk (zeR c)<|zYO c])) none)<|some (AV.agg (zbT<|zic c)::[aS (.sl .int)<|zeR c])))) else none) else none
def zrb (c:Cur)(s:Cur)(a:List LI):Prop:=(∃N,zoa N c=some (AV.agg (zbT s)::[aS (.sl .int) a]))/\(s.b=c.b/\0<=s.i)/\(a.length<=3/\∀r∈a,r.length<=4)
def zmj (c:Cur)  : Bool:=wC (zrb c)
def zgL (c:Cur)  : Cur:=wS (zrb c)
def zlC (c:Cur)  : List LI:=wV (zrb c)
def zzG {c:Cur}(h:zmj c=true):zrb c (zgL c) (zlC c):=wG h
def zLs (c:Cur)  : 0<=(zgL c).i:=wP λh=>h.2.1.2
def zZh (c:Cur)(h:∃N,Ends (wE (λa=>aS (.sl .int) a) c.b λa=>a.length<=3/\∀r∈a,r.length<=4)<|zoa N c):zmj c=true:=wI (λ_ _ h=>h) h
def zsg:zdB:=rP0 λc=>(zmj c,zgL c,[aS (.sl .int)<|zlC c])
def z4o {w:World}{blk:Nat}{u:Value}{c:Cur}{l:zV}{n:Int}(g:∃e,w.heap[blk]?=some (.cells #[u,.int .i64 c.i,.int .i64 c.h] e (0,0)))(t:Rep false w u (.s .u8 c.b) l)(q:∀x,l x->x<w.heap.size/\x≠blk)(r:zhv c n=true) :
 Calls Tryz.prog 340 #[.pointer<|some ⟨blk,0,none⟩,.int .i64 n] w λe k=>∃v j,e = .returned v/\Cw w blk u {ziF c n with b:=c.b} k/\Rep true k v (.s (.sl .int)<|zhl c n) j/\(∀x,j x->w.heap.size<=x/\x<k.heap.size):=by
 have:=zG3 (c:=c) (c2:=ziF c n) zxu g t q (avs:=[.one<|.i .i64 n]) (rs:=[aS (.sl .int)<|zhl c n]) (xs:=[.int .i64 n]) (Ka:=λ_=>False) ⟨rfl,λi A x a d=>by
  match i,a,d with
  | 0,a,d=>cases a;cases d;exact .i _ _ _
  |i+1,a,d=>simp at d⟩ (λx d=>d.elim) (by show some (zhv ⟨c.b,c.i,c.h⟩ n,_,_)=_;rw[show (⟨c.b,c.i,c.h⟩:Cur)=c from rfl,r])
 refine Calls.mono this ?_
 rintro e k ⟨z,j,rfl,f,m,p⟩
 match z,m.1 with
 |[y],_=>exact⟨y,j 0,rfl,⟨f.os,f.tape,f.output,f.size,f.keep,f.cur⟩,m.2 0 _ y rfl rfl,λx d=>p 0 x (by simp[zy,AV.cvs]) d⟩
def zsN {w:World}{blk:Nat}{u:Value}{c:Cur}{j:zV}{n:Int}(g:∃e,w.heap[blk]?=some (.cells #[u,.int .i64 c.i,.int .i64 c.h] e (0,0)))(r:Rep false w u (.s .u8 c.b) j)(p:∀x,j x->x<w.heap.size/\x≠blk)(q:zu c n=true) :
 Calls Tryz.prog 101 #[.pointer<|some ⟨blk,0,none⟩,.int .i64 n] w λe l=>e = .returned (.int .i64<|zk c n)/\Cw w blk u {zf c n with b:=c.b} l:=by
 have:=zG3 (c:=c) (c2:=zf c n) ztZ g r p (avs:=[.one<|.i .i64 n]) (rs:=[aI<|zk c n]) (xs:=[.int .i64 n]) (Ka:=λ_=>False) ⟨rfl,λi z x a d=>by
  match i,a,d with
  | 0,a,d=>cases a;cases d;exact .i _ _ _
  |i+1,a,d=>simp at d⟩ (λx d=>d.elim) (by show some (zu ⟨c.b,c.i,c.h⟩ n,_,_)=_;rw[show (⟨c.b,c.i,c.h⟩:Cur)=c from rfl,q])
 refine Calls.mono this ?_
 rintro e l ⟨t,v,rfl,f,k,A⟩
 match t,k.1,k.2 with
 |[y],_,m=>have:=(m 0 _ y rfl rfl).int_inv;subst this;exact⟨rfl,f.os,f.tape,f.output,f.size,f.keep,f.cur⟩
def z15 {w:World}{blk:Nat}{u:Value}{c:Cur}{k:zV}{l:LI}{v:Value}{Ka:zV}(f:∃e,w.heap[blk]?=some (.cells #[u,.int .i64 c.i,.int .i64 c.h] e (0,0)))(t:Rep false w u (.s .u8 c.b) k)(q:∀x,k x->x<w.heap.size/\x≠blk)(r:zbq c l=true)(z:Rep false w v (.s .int l) Ka)(j:∀x,Ka x->x<w.heap.size/\x≠blk) :
 Calls Tryz.prog 109 #[.pointer<|some ⟨blk,0,none⟩,v] w λe n=>e = .returned (.int .i64<|zbk c l)/\Cw w blk u {zZ c l with b:=c.b} n:=by
 have:=zG3 (c:=c) (c2:=zZ c l) zrL f t q (avs:=[.one<|.s .int l]) (rs:=[aI<|zbk c l]) (xs:=[v]) (Ka:=Ka) ⟨rfl,λi C x a g=>by
  match i,a,g with
  | 0,a,g=>cases a;cases g;exact z
  |i+1,a,g=>simp at g⟩ j (by show some (zbq ⟨c.b,c.i,c.h⟩ l,_,_)=_;rw[show (⟨c.b,c.i,c.h⟩:Cur)=c from rfl,r])
 refine Calls.mono this ?_
 rintro e n ⟨A,B,rfl,d,m,D⟩
 match A,m.1,m.2 with
 |[y],_,p=>have:=(p 0 _ y rfl rfl).int_inv;subst this;exact⟨rfl,d.os,d.tape,d.output,d.size,d.keep,d.cur⟩
def z2e {w:World}{v:Value}{l:List LI}{K:zV}(h:Rep true w v (.s (.sl .int) l) K)(n:l.length=3):∃(b off cap:Nat) (arr:LV) (e:TypeId) (V:Nat->Value) (c:Nat->zV),v = .slice (some ⟨b,off,none⟩) 3 cap/\w.heap[b]?=some (.cells arr e (0,0))/\3<=cap/\off+cap<=arr.size/\K b/\
 (∀i x,i<3->c i x->K x/\x≠b)/\(∀i g x,i<3->g<3->c i x->c g x->i=g)/\(∀i,i<3->arr[off+i]?=some (V i))/\∀i x,l[i]?=some x->Rep true w (V i) (.s .int x) (c i):=by
 cases h with
 |nil=>simp at n
 |void _ _ _ B=>cases B
 |sl _ _ b off cap arr e E V c _ y k r p f u a d C z=>have:=k rfl;subst this;have t:Ty.wi (.sl .int)=1:=rfl;rw[t,u5]at f;refine⟨b,off,cap,arr,e,λi=>V i 0,λi=>c i 0,by rw[n],y,by omega,f,u,λi x q j=>⟨(a i 0 x (by omega) (by decide) j).1,(a i 0 x (by omega) (by decide) j).2 rfl⟩,λi g x q A j m=>(d rfl i 0 g 0 x (by omega) (by decide) (by omega) (by decide) j m).1,λi q=>?_,λi x D=>z i x D 0 _ rfl⟩;have:=C i 0 (by omega) (by decide);rwa [t,u5,j8] at this
def zUn {w:World}{v:Value}{l:LI}{K:zV}(h:Rep true w v (.s .int l) K)(d:l.length=4):∃(b off cap:Nat) (arr:LV) (e:TypeId),v = .slice (some ⟨b,off,none⟩) 4 cap/\w.heap[b]?=some (.cells arr e (0,0))/\4<=cap/\off+cap<=arr.size/\K b/\
 ∀i x,l[i]?=some x->arr[off+i]?=some (.int .i64 x):=by
 cases h with
 |nil=>simp at d
 |void _ _ _ u=>cases u
 |sl _ _ b off cap arr e A V z _ q c j f a p k g y r=>have:=c rfl;subst this;have m:Ty.wi .int=1:=rfl;rw[m,u5]at a;refine⟨b,off,cap,arr,e,by rw[d],q,by omega,a,p,λi x n=>?_⟩;have t:i<l.length:=(qA.1 n).1;have:=y i 0 t (by decide);rw[m,u5,j8] at this;rw[this,(r i x n 0 (.i .i64 x) rfl).int_inv]
def zIh {o:Bool}{w:World}{b off cap:Nat}{arr:LV}{e:TypeId}(g:w.heap[b]?=some (.cells arr e (0,0))){l:LI}(r:l.length<=1000)(c:l.length<=cap)(m:off+cap<=arr.size)(n:∀i x,l[i]?=some x->arr[off+i]?=some (.int .i64 x)):Rep o w (.slice (some ⟨b,off,none⟩) l.length cap) (.s .int l) (λx=>x=b):=by
 refine .sl .int l b off cap arr e (0,0) (λi j=>.int .i64 (l.getD i 0)) (λ_ _ _=>False) _ g (λ_=>rfl) (by rw[zpP];omega) c (by show off+cap*1<=arr.size;omega) rfl (λi j x _ _ h=>h.elim) (λ_ i j t u x _ _ _ _ h=>h.elim) (λi j f k=>?_) (λi x p j q a=>?_);{have d:j=0:=(by have:j<1:=k;omega);subst d;have:=n i _ (qB f);show arr[off+i*1+0]?=_;rw[u5,j8,this];simp[List.getD,qB f]}
 .match j,a with
  | 0,a=>cases a;have:l.getD i 0=x:=(by simp[List.getD,p]);show Rep o w (.int .i64<|l.getD i 0) _ _;rw[this];exact .i _ _ _
  |j+1,a=>simp[Ty.cells]at a
def zIi {w:World}{b off cap:Nat}{arr:LV}{e:TypeId}(n:w.heap[b]?=some (.cells arr e (0,0))){l:List LI}(A:l.length<=1000)(c:l.length<=cap)(t:off+cap<=arr.size)(V:Nat->Value){K:zV}(f:K b)(u:∀i,i<l.length->arr[off+i]?=some (V i))(r:∀i x,l[i]?=some x->∃d,Rep false w (V i) (.s .int x) d/\∀y,d y->K y):Rep false w (.slice (some ⟨b,off,none⟩) l.length cap) (.s (.sl .int) l) K:=by
 refine .sl (.sl .int) l b off cap arr e (0,0) (λi _=>V i) (λ_ _=>K) _ n (λ_=>rfl) (by rw[zpP];omega) c (by show off+cap*1<=arr.size;omega) f (λi j x _ _ h=>⟨h,λh=>by cases h⟩) (λh=>by cases h) (λi j p q=>?_) (λi x v j z a=>?_);{have g:j=0:=(by have:j<1:=q;omega);subst g;show arr[off+i*1+0]?=_;rw[u5,j8];exact u i p}
 .match j,a with
  | 0,a=>cases a;obtain⟨d,k,m⟩:=r i x v;exact k.weak m
  |j+1,a=>simp[Ty.cells]at a
def zvj {w:World}{b o:Nat}{arr:LV}{e:TypeId}(a:w.heap[b]?=some (.cells arr e (0,0))):w.frozen? ⟨b,o,none⟩=false:=by simp[World.frozen?,a]
set_option maxHeartbeats 3000000 in
def zVS {w:World}{blk:Nat}{u:Value}{c:Cur}{K0:zV}{r:Ans}(N:Nat)(b5:∃e,w.heap[blk]?=some (.cells #[u,.int .i64 c.i,.int .i64 c.h] e (0,0)))(hu:Rep false w u (.s .u8 c.b) K0)(hK:∀x,K0 x->x<w.heap.size/\x≠blk)(hE:zoa N c=some r) :
 Calls Tryz.prog 243 #[.pointer<|some ⟨blk,0,none⟩] w λe p=>∃c2 l v Kr,r=AV.agg (zbT c2)::[aS (.sl .int) l]/\e = .returned v/\Cw w blk u c2 p/\Rep false p v (.s (.sl .int) l) Kr/\(∀x,Kr x->w.heap.size<=x/\x<p.heap.size):=by
 unfold zoa at hE;cases hm:zhv c 3 with
 |false=>rw[hm]at hE;cases hE
 |true=>
 cases K:zu (zzi c) 8 with
 |false=>rw[hm,K]at hE;cases hE
 |true=>
 rw[hm,K,cT,cT]at hE;have a7:∀{p:World} {O:Cur},Cw w blk u O p->O.b=c.b->Rep false p u (.s .u8 O.b) K0/\∀x,K0 x->x<p.heap.size/\x≠blk:=by intro p O h e;rw[e];exact⟨hu.frame λx d=>h.keep x (hK x d).1 (hK x d).2,λx d=>⟨qZ (hK x d).1 h.size,(hK x d).2⟩⟩
 have hM:=(zs9 hm).2.2 (by omega) (by omega)
 have a8:(zeR c).length=3:=by have:=hM.1;unfold ln at this;unfold zeR;omega
 have h5:=(zh5 K).2.2 (by omega)
 obtain⟨k,hk⟩:∃k,zk (zzi c) 8=k:=⟨_,rfl⟩;have f1:zYP c=k:=hk;rw[f1]at hE
 go_enter Tryz.func243,Tryz.ntmps243
 go_wp2_with fail
 refine(z4o b5 hu hK hm).mono ?_
 rintro e L ⟨v,K1,rfl,F,b3,m⟩
 have b3:Rep true L v (.s (.sl .int)<|zeR c) K1:=b3;have F:Cw w blk u (zzi c) L:=F;obtain⟨E,t,a3,d7,e0,V,Kc,rfl,c3,g9,d1,Z,G,e9,hV,c1⟩:=z2e b3 a8;have h3:blk<w.heap.size:=by obtain⟨e,he⟩:=b5;exact(qL.1 he).1
 have e5:E≠blk:=by have:=(m E Z).1;omega
 have cellAt:∀{p:World} {O:Cur},Cw L blk u O p->p.heap[E]?=some (.cells d7 e0 (0,0)):=λh=>(h.keep E (m E Z).2 e5).trans c3
 go_wp2_with fail
 obtain⟨g1,f2⟩:=a7 F rfl;refine(zsN F.cur g1 f2 K).mono ?_;rw[hk]
 rintro e X ⟨rfl,B⟩
 have B:Cw L blk u (zic c) X:=B;obtain⟨g2,f3⟩:=a7 (F.trans B) rfl;have g0:=B.size;have g8:w.heap.size<=E/\E<L.heap.size:=m E Z
 have b2:∀{p:World} (i:Nat) (x:LI),(∀b,Kc i b->b<L.heap.size->b≠blk->b≠E->p.heap[b]?=L.heap[b]?)->i<3->(zeR c)[i]?=some x->Rep false p (V i) (.s .int x) (Kc i)/\∀y,Kc i y->w.heap.size<=y/\y<L.heap.size:=by intro p i x hf P d;refine⟨((c1 i x d).frame λy S=>?_).ro,λy S=>m y (G i y P S).1⟩;have:=m y (G i y P S).1;exact hf y S this.2 (by omega) (G i y P S).2
 go_wp2_with fail
 .have h0:ieq k 0=true:=by assumption
  rw[h0,cT]at hE;cases J:zu (zic c) 3 with
  |false=>rw[J]at hE;cases hE
  |true=>
  cases b4:zu (zsR c) 4 with
  |false=>rw[J,b4]at hE;cases hE
  |true=>
   rw[J,b4,cT,cT]at hE;have hj:=(zh5 J).2.2 (by omega);obtain⟨j,a0⟩:=u0 hj.1;have c8:zYO c=(j:Int):=a0;have hn:=(zh5 b4).2.2 (by omega);obtain⟨n,c9⟩:=u0 hn.1;have f8:z9T c=(n:Int):=c9;rw[c8,f8]at hE;rw[a0]at hj;rw[c9]at hn;have e6:j<3:=(by omega);have h6:n<4:=(by omega);obtain⟨R0,c0⟩:∃R0,(zeR c)[0]?=some R0:=⟨_,qB (by omega)⟩;have e2:R0.length=4:=hM.2 R0 (qH c0);obtain⟨f,a,g,T,e1,f0,c4,c6,a9,D,W⟩:=zUn (c1 0 R0 c0) e2;have Q:∀{p:World} {O:Cur},Cw L blk u O p->p.cell? ⟨E,t,none⟩=some (.slice (some ⟨f,a,none⟩) 4 g):=λh=>(by have:=hV 0 (by omega);rw[j8,f0] at this;rw[E0<|cellAt h];exact this);have b7:∀{p:World} {O:Cur},Cw L blk u O p->p.cell? ⟨E,t+j,none⟩=some (V j)/\p.frozen? ⟨E,t+j,none⟩=false:=λh=>by rw[E0<|cellAt h];exact⟨hV j e6,zvj<|cellAt h⟩
   have d8:∀{I:World},Cw L blk u (zYM c) I->∃c2 l v Kr,r=AV.agg (zbT c2)::[aS (.sl .int) l]/\Ending.returned (.slice (some ⟨E,t,none⟩) 3 a3) = .returned v/\Cw w blk u c2 (I.setCell ⟨E,t+j,none⟩<|.slice (some ⟨f,a,none⟩) n g)/\Rep false (I.setCell ⟨E,t+j,none⟩<|.slice (some ⟨f,a,none⟩) n g) v (.s (.sl .int) l) Kr/\
    (∀x,Kr x->w.heap.size<=x/\x<(I.setCell ⟨E,t+j,none⟩<|.slice (some ⟨f,a,none⟩) n g).heap.size):=by
    intro I h4;have hz:=h4.size;have a6:=m f (G 0 f (by omega) D).1
    have U:f≠blk:=by omega
    have a5:f≠E:=(G 0 f (by omega) D).2
    have ho:∀b,b≠E->(I.setCell ⟨E,t+j,none⟩<|.slice (some ⟨f,a,none⟩) n g).heap[b]?=I.heap[b]?:=λb K=>heap_setCell_other I _ b _ K;have d0:=heap_setCell_same I E (t+j) d7 e0 (.slice (some ⟨f,a,none⟩) n g) (cellAt h4);have A:=F.trans h4;refine⟨_,_,_,K1,(Option.some.inj hE).symm,rfl,⟨A.os,A.tape,A.output,by rw[World.size_setCell];exact A.size,λb K hn=>(ho b (by omega)).trans (A.keep b K hn),by obtain⟨e,he⟩:=A.cur;exact⟨e,(ho blk λh=>e5 h.symm).trans he⟩⟩,?_,λx d=>⟨(m x d).1,by rw[World.size_setCell];have:=m x d;omega⟩⟩
    have c7:ix (zeR c) 0 []=R0:=by unfold ix;simp[List.getD,c0]
    have a1:(up (zeR c) (j:Int)<|tk (ix (zeR c) 0 []) (n:Int)).length=3:=by rw[ziv];exact a8
    have:=zIi d0 (l:=up (zeR c) (j:Int) (tk (ix (zeR c) 0 []) (n:Int))) (by omega) (cap:=a3) (off:=t) (by omega) (by simpa using d1) (λi=>if i=j then .slice (some ⟨f,a,none⟩) n g else V i) Z (λi P=>by
     rw[a1]at P;rw[uF]
     by_cases M:i=j
     .subst M;rw[if_pos rfl,if_pos (by omega),if_pos rfl]
     .rw [if_neg (by omega),if_neg M]
      exact hV i P) (λi x d=>by
     have P:i<3:=by rw[<- a1];exact(qA.1 d).1
     unfold up at d;rw[q9]at d
     by_cases M:i=j
     .subst M;rw[kM,if_pos rfl,if_pos (by omega),c7]at d
      cases d;refine⟨λx=>x=f,?_,λy S=>by rw[S];exact(G 0 f (by omega) D).1⟩
      have hl:(tk R0 (n:Int)).length=n:=by simp[tk];omega
      have:=zIh (o:=false) (w:=I.setCell ⟨E,t+i,none⟩ (.slice (some ⟨f,a,none⟩) n g)) (b:=f) (off:=a) (cap:=g) (arr:=T) (e:=e1) ((ho f a5).trans ((h4.keep f a6.2 U).trans c4)) (l:=tk R0 (n:Int)) (by omega) (by omega) a9 (λq z hq=>by
       unfold tk at hq;rw[jK]at hq;split at hq
       .exact W q z hq
       .cases hq)
      rw[hl] at this;rw[if_pos rfl];exact this
     .rw [kM,if_neg (by omega)]at d
      rw[if_neg M];exact⟨Kc i,(b2 i x (λb _ K hn c3=>(ho b c3).trans (h4.keep b K hn)) P d).1,λy S=>(G i y P S).1⟩)
    rw[a1] at this;exact this
   have Y:Cw L blk u (zic c) X.drew:=B.drew;obtain⟨e8,e7⟩:=a7 (F.trans Y) rfl;have d2:=Q Y
   go_region_with (first
    |(go_at_call_of 101 (Value.int IntKind.i64 3);refine(zsN (c:=zic c) (n:=3) Y.cur e8 e7 J).mono ?_;rw[a0];rintro e w3 ⟨rfl,H⟩;have H:Cw X.drew blk u (zsR c) w3:=H;have C:=Y.trans H;have d3:=Q C;obtain⟨g3,f4⟩:=a7 (F.trans C) rfl)
    |(go_at_call_of 101 (Value.int IntKind.i64 4);refine(zsN (c:=zsR c) (n:=4) C.cur g3 f4 b4).mono ?_;rw[c9];rintro e I ⟨rfl,b8⟩;have b8:Cw w3 blk u (zYM c) I:=b8;have b9:=C.trans b8;have d4:=Q b9;obtain⟨d5,d6⟩:=b7 b9))
   (all_goals go_wp2);(all_goals go_ret);all_goals exact d8 b9
 .have h0:ieq k 0=false:=by assumption
  have h1:ieq k 1=true:=by assumption
  rw[h0,h1,cF,cT]at hE;cases c5:zbq (zic c) [-1,100] with
  |false=>rw[c5]at hE;cases hE
  |true=>
   rw[c5,cT]at hE;obtain⟨R1,a4⟩:∃R1,(zeR c)[1]?=some R1:=⟨_,qB (by omega)⟩;have e3:R1.length=4:=hM.2 R1 (qH a4);obtain⟨f,a,g,T,e1,e4,c4,c6,a9,D,W⟩:=zUn (c1 1 R1 a4) e3;have a6:=m f (G 1 f (by omega) D).1;have U:f≠blk:=(by omega);have a5:f≠E:=(G 1 f (by omega) D).2;have R:∀{p:World} {O:Cur},Cw L blk u O p->p.cell? ⟨E,t+1,none⟩=some (.slice (some ⟨f,a,none⟩) 4 g):=λh=>(by have:=hV 1 (by omega);rw[e4] at this;rw[E0<|cellAt h];exact this);have a2:∀{p:World} {O:Cur},Cw L blk u O p->p.heap[f]?=some (.cells T e1 (0,0)):=λh=>(h.keep f a6.2 U).trans c4;have b6:∀{p:World} {O:Cur},Cw L blk u O p->p.cell? ⟨f,a+2,none⟩=some (.int .i64 R1[2])/\p.frozen? ⟨f,a+2,none⟩=false:=λh=>by rw[E0<|a2 h];exact⟨W 2 _<|qB (by omega),zvj<|a2 h⟩
   have Y:Cw L blk u (zic c) X.drew:=B.drew;have d2:=R Y;have d9:∀{I:World},Cw L blk u (zYN c) I->∃c2 l v Kr,r=AV.agg (zbT c2)::[aS (.sl .int) l]/\Ending.returned (.slice (some ⟨E,t,none⟩) 3 a3) = .returned v/\Cw w blk u c2 (I.setCell ⟨f,a+2,none⟩<|.int .i64<|zt4 c)/\Rep false (I.setCell ⟨f,a+2,none⟩<|.int .i64<|zt4 c) v (.s (.sl .int) l) Kr/\
    (∀x,Kr x->w.heap.size<=x/\x<(I.setCell ⟨f,a+2,none⟩<|.int .i64<|zt4 c).heap.size):=by
    intro I h4;have hz:=h4.size;have ho:∀b,b≠f->(I.setCell ⟨f,a+2,none⟩<|.int .i64<|zt4 c).heap[b]?=I.heap[b]?:=λb K=>heap_setCell_other I _ b _ K;have d0:=heap_setCell_same I f (a+2) T e1 (.int .i64<|zt4 c) (a2 h4);have A:=F.trans h4;refine⟨_,_,_,K1,(Option.some.inj hE).symm,rfl,⟨A.os,A.tape,A.output,by rw[World.size_setCell];exact A.size,λb K hn=>(ho b (by omega)).trans (A.keep b K hn),by obtain⟨e,he⟩:=A.cur;exact⟨e,(ho blk λh=>U h.symm).trans he⟩⟩,?_,λx d=>⟨(m x d).1,by rw[World.size_setCell];have:=m x d;omega⟩⟩
    have c7:ix (zeR c) 1 []=R1:=by unfold ix;show (zeR c).getD 1 []=R1;simp[List.getD,a4]
    have a1:(up (zeR c) 1<|up (ix (zeR c) 1 []) 2<|zt4 c).length=3:=by rw[ziv];exact a8
    have:=zIi ((ho E λh=>a5 h.symm).trans (cellAt h4)) (l:=up (zeR c) 1 (up (ix (zeR c) 1 []) 2<|zt4 c)) (by omega) (cap:=a3) (off:=t) (by omega) d1 V Z (λi P=>hV i (by omega)) (λi x d=>by
     have P:i<3:=by rw[<- a1];exact(qA.1 d).1
     unfold up at d;rw[q9]at d
     by_cases M:i=1
     .subst M;rw[show (1:Int).toNat=1 from rfl,if_pos rfl,if_pos (by omega),c7]at d
      cases d;refine⟨λx=>x=f,?_,λy S=>by rw[S];exact(G 1 f (by omega) D).1⟩
      have hl:(List.set R1 (2:Int).toNat<|zt4 c).length=4:=by simp;omega
      have:=zIh (o:=false) (w:=I.setCell ⟨f,a+2,none⟩ (.int .i64<|zt4 c)) (b:=f) (off:=a) (cap:=g) d0 (l:=List.set R1 (2:Int).toNat (zt4 c)) (by omega) (by omega) (by simpa using a9) (λq z hq=>by
       rw[q9]at hq;rw[uF]
       by_cases f9:q=2
       .subst f9;rw[show (2:Int).toNat=2 from rfl,if_pos rfl,if_pos (by omega)]at hq
        cases hq;rw[if_pos rfl,if_pos (by omega)]
       .rw [show (2:Int).toNat=2 from rfl,if_neg (by omega)]at hq
        rw[if_neg (by omega)]
        exact W q z hq)
      rw[hl] at this;rw[e4];exact this
     .rw [show (1:Int).toNat=1 from rfl,if_neg (by omega)]at d
      refine⟨Kc i,(b2 i x (λb f6 K hn g7=>?_) P d).1,λy S=>(G i y P S).1⟩;exact(ho b λe=>M (e9 i 1 b P (by omega) f6 (by rw[e];exact D))).trans (h4.keep b K hn))
    rw[a1] at this;exact this
   have hA:Cw L blk u (zic c) (X.alloc<|Obj.cells #[Value.int .i64<|-1,Value.int .i64 100] 3).drew:=(B.alloc B.lt _).drew;obtain⟨g4,f5⟩:=a7 (F.trans hA) rfl;have dA:=R hA;have g5:Rep false (X.alloc<|Obj.cells #[Value.int .i64<|-1,Value.int .i64 100] 3).drew (.slice (some ⟨X.heap.size,0,none⟩) 2 2) (.s .int [-1,100]) (λx=>x=X.heap.size):=by
    have hh:(X.alloc<|Obj.cells #[Value.int .i64<|-1,Value.int .i64 100] 3).drew.heap[X.heap.size]?=some (.cells #[Value.int .i64<|-1,Value.int .i64 100] 3 (0,0)):=heap_alloc_new X _;exact zIh (o:=false) hh (l:=[-1,100]) (cap:=2) (off:=0) (by decide) (by decide) (by decide) (λi x d=>by
     match i,d with
     | 0,d=>cases d;rfl
     | 1,d=>cases d;rfl
     |i+2,d=>simp at d)
   go_region_with (first
    |(go_at_call_of 109 (Value.slice (some ⟨X.heap.size,0,none⟩) 2 2);refine(z15 (c:=zic c) (l:=[-1,100]) hA.cur g4 f5 c5 g5 (λx d=>by rw[d];exact⟨by simp,Nat.ne_of_gt B.lt⟩)).mono ?_;rintro e w3 ⟨rfl,H⟩;have H:Cw (X.alloc<|Obj.cells #[Value.int .i64<|-1,Value.int .i64 100] 3).drew blk u (zYN c) w3:=H;have C:=hA.trans H;have d3:=R C;obtain⟨d4,d5⟩:=b6 C))
   (all_goals go_wp2);(all_goals go_ret);all_goals exact d9 C
 .have h0:ieq k 0=false:=by assumption
  have h1:ieq k 1=false:=by assumption
  have h2:ieq k 2=true:=by assumption
  rw[h0,h1,h2,cF,cF,cT]at hE;cases J:zu (zic c) 3 with
  |false=>rw[J]at hE;cases hE
  |true=>
   rw[J,cT]at hE;have hj:=(zh5 J).2.2 (by omega);obtain⟨j,a0⟩:=u0 hj.1;have c8:zYO c=(j:Int):=a0;rw[c8]at hE;refine(zsN B.cur g2 f3 J).mono ?_;rw[a0];rintro e w3 ⟨rfl,H⟩;have H:Cw X blk u (zsR c) w3:=H;go_wp2;go_ret;have e6:j<3:=(by omega);have f7:(tk (zeR c) (j:Int)).length=j:=(by simp[tk];omega);have C:=B.trans H;refine⟨_,_,_,K1,(Option.some.inj hE).symm,rfl,F.trans C,?_,λx d=>⟨(m x d).1,by have:=m x d;have:=C.size;omega⟩⟩
   have:=zIi (cellAt C) (l:=tk (zeR c) (j:Int)) (by omega) (cap:=a3) (off:=t) (by omega) d1 V Z (λi P=>hV i (by omega)) (λi x d=>by
    have P:i<(tk (zeR c) (j:Int)).length:=(qA.1 d).1;have g6:(zeR c)[i]?=some x:=by unfold tk at d;rw[jK]at d;split at d;{exact d};{cases d}
    exact⟨Kc i,(b2 i x (λb _ K hn _=>C.keep b K hn) (by omega) g6).1,λy S=>(G i y (by omega) S).1⟩)
   rw[f7] at this;exact this
 .have h0:ieq k 0=false:=by assumption
  have h1:ieq k 1=false:=by assumption
  have h2:ieq k 2=false:=by assumption
  rw[h0,h1,h2,cF,cF,cF]at hE
  go_ret
  exact⟨_,_,_,K1,(Option.some.inj hE).symm,rfl,F.trans B,(b3.frame λx d=>B.keep x (m x d).2 (by have:=m x d;omega)).ro,λx d=>⟨(m x d).1,by have:=m x d;omega⟩⟩
def zzh {c:Cur}(h:zba c):zmj c=true:=by
 refine zZh c ⟨0,?_⟩;unfold zoa;have t:=z6C h (a0:=3) (by omega) (by omega);have y:zba (zzi c):=zbE h (zLt _ _);have k:zba (zic c):=zbE h (zB _ _);have z:zba (zsR c):=zbE h (zB _ _);have p:=(zs9 t).2.2 (by omega) (by omega);have A:(zeR c).length=3:=(by have:=p.1;unfold ln at this;unfold zeR;omega);have f:∀r∈zeR c,r.length<=4:=λr f=>uA (p.2 r f);have u:∀n,(ix (zeR c) n []).length<=4:=(by intro n;unfold ix List.getD;cases e:(zeR c)[n.toNat]? with|none=>simp|some r=>exact f r (qH e));have g:∀(n:Int) (r:LI),r.length<=4->∀q∈up (zeR c) n r,q.length<=4:=by intro n r j q e;rcases qY e with e|rfl;{exact f q e};{exact j}
 have d:∀(s:Cur) (l:List LI),s.b=c.b->0<=s.i->l.length<=3->(∀r∈l,r.length<=4)->Ends (λa=>∃s m,a=(AV.agg (zbT s)::[aS (.sl .int) m])/\(s.b=c.b/\0<=s.i)/\(m.length<=3/\∀r∈m,r.length<=4)) (some (AV.agg (zbT s)::[aS (.sl .int) l])):=
  λs l v w x j=>⟨_,rfl,s,l,rfl,⟨v,w⟩,x,j⟩
 exact zo t (zo (zbp y 8) (zbt (λ_=>zo (zbp k 3) (zo (zbp z 4) (d _ _ rfl (zB _ _) (by rw[ziv];omega) (g _ _<|qS (zCT _ _)<|u _))))
  (λ_=>zbt (λ_=>zo (ze8 k (by simp)) (d _ _ rfl (zbW _ _) (by rw[ziv];omega) (g _ _ (by rw[ziv];exact u _)))) λ_=>zbt (λ_=>zo (zbp k 3) (d _ _ rfl (zB _ _) (qS (zCT _ _) (by omega)) λr e=>f r (jY e))) λ_=>d _ _ rfl (zB _ _) (by omega) f)))
def zM2:zbP Tryz.prog 243 [false,true,true] zsg:=by
 refine⟨zjK (by kernel_rfl),?_⟩;intro w blk d e cs K T xs Ka U rs D P a4 k A X n W g;unfold zsg rP0 at g;obtain⟨⟨p,q,r⟩,rfl,g⟩:=z1V g;obtain⟨rfl,R,rfl,rfl⟩:=zvv g;dsimp only at R ⊢;have hs:d.size=3:=P;have M:xs=[]:=List.eq_nil_of_length_eq_zero n.1;subst M;obtain⟨N,hE⟩:=(zzG R).1;have v1:=(k 1 _ (d[1]'(by omega)) rfl (jG _)).int_inv;have v2:=(k 2 _ (d[2]'(by omega)) rfl (jG _)).int_inv
 have m:d = #[d[0]'(by omega),.int .i64 q,.int .i64 r]:=by
  apply Array.ext;{exact hs}
  .intro i E hi2
   match i,E with
   | 0,_=>rfl
   | 1,_=>exact v1
   | 2,_=>exact v2
   |i+3,h=>omega
 have hu:=k 0 _ (d[0]'(by omega)) rfl (jG _);have f:Rep false w (d[0]'(by omega)) (.s .u8 p) (K 0):=hu;generalize d[0]'(by omega)=u at m f;subst m;refine(zVS (c:=⟨p,q,r⟩) (u:=u) (K0:=K 0) N ⟨e,D⟩ f (λx n=>A 0 x (show 0<3 by decide) n) hE).mono ?_;rintro e2 w' ⟨z,l,v,S,hr,rfl,y,Y,t⟩;have B:AV.agg (zbT<|zgL ⟨p,q,r⟩)::[aS (.sl .int)<|zlC ⟨p,q,r⟩]=AV.agg (zbT z)::[aS (.sl .int) l]:=hr;simp only[List.cons.injEq,AV.agg.injEq,AV.one.injEq,and_true]at B;obtain⟨C,I⟩:=B;have I:zlC ⟨p,q,r⟩=l:=(by cases I;rfl);subst I;have O:zgL ⟨p,q,r⟩=z:=(by have C:=C;simp only[zbT,List.cons.injEq,CV.s.injEq,CV.i.injEq,true_and,and_true,heq_eq_eq]at C;obtain⟨F,G,H⟩:=C;generalize zgL ⟨p,q,r⟩=s at F G H;obtain⟨a1,a2,a3⟩:=s;obtain⟨b1,b2,b3⟩:=z;simp only at F G H;rw[F,G,H]);rw[O];obtain⟨V,J⟩:=y.cur;refine⟨y.os,y.tape,y.output,y.size,λb D hn _=>y.keep b D hn,#[u,.int .i64 z.i,.int .i64 z.h],V,λ_ _=>False,[v],λ_=>S,J,rfl,rfl,?_,⟨rfl,λi Q x a n=>?_⟩,rfl,λj x _ h=>h.elim,λi x E L=>⟨(t x L).2,?_,.inr (t x L).1⟩,λi j x _ _ _ h=>h.elim,?_,λi j x _ _ h=>h.elim⟩
 .intro j Q u' a f
  match j,a,f with
  | 0,a,f=>cases a;exact⟨λh=>by simp[zbd]at h,λ_=>f⟩
  | 1,a,f=>cases a;cases f;rfl
  | 2,a,f=>cases a;cases f;rfl
  |j+3,a,f=>simp[zbT]at a
 .match i,a,n with
  | 0,a,n=>cases a;cases n;exact Y
  |i+1,a,n=>simp at n
 {have:=(qL.1 D).1;have:=(t x L).1;omega};{intro i j Q x E ho Z a0 _;have h1:i<1:=(qA.1 E).1;have h2:j<1:=Z;omega}
def z6V:zcT:=[(243,[false,true,true],zsg)]++z6U
def zUd:zb2 z6V:=zce z4y (by
 intro x a;simp only[qG,qN,or_false]at a;rcases a with rfl
 .exact zM2)
end
def zbaj:zW:=[(197,zl8),(384,zqj)]++z5P
def zGY:zL zbaj:=zh znu (zh ztW zei)
def zDR {g:Type}{c e:Cur}(h:zba c)(j:0<=e.i){P:g->Prop}{q:Int}(A:0<q)(M:q<=1000){fc:Cur->Bool}{fs:Cur->Cur}{fv:Cur->g}(E:∀{c:Cur},zba c->fc c=true)(H:∀c,0<=(fs c).i)(hg:∀{c:Cur},zba c->P (fv c)){G:Ans->Prop}{l0:List g}{z:Nat}(O:l0.length<=z)(I:z<=1000)(m:∀x∈l0,P x){p:Type}(S:Nat->Int×Int×Int×List g->p){F:(p->OA)->p->OA}(D:∀rec t i k l,∃r,F rec (S 0 (t,i,k,l))=(bif zu ⟨c.b,i,k⟩ q then (bif ilt t (zk ⟨c.b,i,k⟩ q) then (bif fc { zf ⟨c.b,i,k⟩ q with b:=c.b } then (bif few (ln (ap l [fv { zf ⟨c.b,i,k⟩ q with b:=c.b }])) then
        rec (S 0 (zM .i64 t 1,(fs {zf ⟨c.b,i,k⟩ q with b:=c.b}).i,(fs {zf ⟨c.b,i,k⟩ q with b:=c.b}).h,ap l [fv {zf ⟨c.b,i,k⟩ q with b:=c.b}])) else none) else none) else some r) else none)/\(ln l<=z+q->(∀x∈l,P x)->G r)):Ends G (iter 1002 F (S 0 (0,e.i,e.h,l0))):=by
 refine zke (fun n s=>∃t i k l,s=S 0 (t,i,k,l)/\t+(n:Int)=1000/\0<=t/\t<=q/\0<=i/\(∀x∈l,P x)/\ln l<=z+t) ?_ 1002 1000 _ ⟨0,e.i,e.h,l0,rfl,rfl,kP 0,by omega,j,m,by unfold ln;omega⟩ (by omega)
 rintro n s rec ⟨t,i,k,l,rfl,J,B,K,C,u,L⟩ f
 obtain⟨r,hF1,hF2⟩:=D rec t i k l;rw[hF1];have a:zba ⟨c.b,i,k⟩:=zbE h C;have d:=zfi a A;have v:zba {zf ⟨c.b,i,k⟩ q with b:=c.b}:=zbE h (zB _ _);refine zo (zbp a _) (zbt (fun w=>?_) (fun w=>?_))
 .have hlt:t<zk ⟨c.b,i,k⟩ q:=qF w;have N:=zhP (y:=1) B (by omega) (by omega) (by omega)
  refine zo (E v) (zo (zhS (by rw[zfR];omega)) (f (n-1) _ (by omega) ⟨_,_,_,_,rfl,by omega,by omega,by omega,H _,?_,by rw[zfR];omega⟩))
  intro x d;rcases jH.1 d with d|d
  .exact u x d
  .rw [qD.1 d];exact hg v
 .exact ztJ (hF2 (by omega) u)
def z05 {c d:Cur}(h:zba c)(f:0<=d.i){m q x:Int}(t:0<q)(g:0<=m)(D:m+q<=1000){G:Ans->Prop}{l0:LI}(B:ln l0<=m+q){j:Type}(S:Nat->Int×Int×LI->j){F:(j->OA)->j->OA}(w:∀rec i k l,∃r,F rec (S 0 (i,k,l))=(bif zu ⟨c.b,i,k⟩ q then (bif ilt (ln l) (zM .i64 m (zk ⟨c.b,i,k⟩ q)) then (bif few (ln (ap l [x])) then
        rec (S 0 ((zf ⟨c.b,i,k⟩ q).i,(zf ⟨c.b,i,k⟩ q).h,ap l [x])) else none) else some r) else none)/\(ln l<=m+q->G r)):Ends G (iter 1002 F (S 0 (d.i,d.h,l0))):=by
 refine zke (fun n s=>∃i k l,s=S 0 (i,k,l)/\ln l+(n:Int)=1000/\0<=i/\ln l<=m+q) ?_ 1002 (1000-ln l0).toNat _ ⟨d.i,d.h,l0,rfl,by unfold ln at *;omega,f,B⟩ (by unfold ln at *;omega)
 rintro n s rec ⟨i,k,l,rfl,C,u,v⟩ e
 obtain⟨r,hF1,hF2⟩:=w rec i k l;rw[hF1];have a:zba ⟨c.b,i,k⟩:=zbE h u;have A:=zfi a t;have z:=zhP (x:=m) (y:=zk ⟨c.b,i,k⟩ q) g (by omega) A.1 (by omega)
 refine zo (zbp a _) (zbt (fun p=>?_) (fun p=>?_))
 .have hlt:ln l<zM .i64 m (zk ⟨c.b,i,k⟩ q):=qF p;rw[z]at hlt;exact zo (zhS (by rw[zfR];omega)) (e (n-1) _ (by unfold ln at *;omega) ⟨_,_,_,rfl,by rw[zfR];omega,zB _ _,by rw[zfR];omega⟩)
 .exact ztJ (hF2 v)
def GuS (g:ah):Prop:=g.ax.length<=13/\g.aA.length<=4/\g.aw.length<=4/\g.aD.length<=50
def zDC {c:Cur}(h:zba c):(zdr c 4 8).length<=4:=by have:=(z81 h (n:=4) (m:=8) (by omega) (by omega) (by omega) (by omega)).1;unfold ln at this;omega
def zty (N:Nat)(c:Cur)  : OA :=
 let C:=({ (zbb c) with b:=c.b}:Cur);let v:=zdr C 4 8;let d:=zcr<|zb4 c;let y9:=({ (zI C 4 8) with b:=c.b}:Cur);let x:=zdr y9 4 8;let y2:=({ (zI y9 4 8) with b:=c.b}:Cur);let w:=zk y2 100;let B:=({ (zf y2 100) with b:=c.b}:Cur);let y:=zk B 4;let y0:=({ (zf B 4) with b:=c.b}:Cur);let I:=({ (zcg y0) with b:=c.b}:Cur);let e:=zcA y0;let A:=({ (zO I 3) with b:=c.b}:Cur);let H:=({ (zf A 256) with b:=c.b}:Cur);let r:=({ (zO A 4) with b:=c.b}:Cur);let u:=({ (zfD r) with b:=c.b}:Cur);let q:=({ (zO H 4) with b:=c.b}:Cur);let t:=({ (zfD q) with b:=c.b}:Cur); (oN (zhC c)<|oN (zjn<|zb4 c)<|oN (zh6 C 4 8)<|oN (zh6 y9 4 8)<|oN (zu y2 100)<|oN (zu B 4)<|oN (zj2 y0)<|oN (zcv I 3)<|cond (zcQ I 3) (oN (zu A 256)<|oN (zcv H 4)<|cond (zcQ H 4) (oN (ziU q)<|oN (zcv t 12)<|iter (σ:=(Int×Int×Int×Int×Int×Int×Int×Bool×Int×Int×Int×Bool×Int×Bool×Int×Int×Int×Int×Bool×Int×Int×Int×Bool×Int×Bool×LI×lI×lS×lS×LI×lI×lS×lS×LI×Unit)) N (λz a=>let c:=a.2.2.2.2.2.2.2.2.2.2.2.2;let d:=c.2.2.2.2.2.2.2.2.2.2;let d6:=c.2.2.1;let d2:=c.2.2.2.1;let c8:=c.2.2.2.2.1;let c4:=c.2.2.2.2.2.1;let c0:=c.2.2.2.2.2.2.1;let b6:=c.2.2.2.2.2.2.2.1;let b2:=c.2.2.2.2.2.2.2.2.1;let a8:=c.2.2.2.2.2.2.2.2.2.1;let a4:=d.1;let a0:=d.2.1;let W:=d.2.2.1;let S:=d.2.2.2.2.2.2.2.2.1;let O:=d.2.2.2.2.2.2.2.2.2.1;let J:=d.2.2.2.2.2.2.2.2.2.2.1;let D:=d.2.2.2.2.2.2.2.2.2.2.2.1;let y4:=d.2.2.2.1;let l:=(⟨y4,a.2.1,a.2.2.1⟩:Cur);let f:=({ (zf l 4) with b:=y4}:Cur); (oN (zu l 4)<|cond (ilt a.1<|zk l 4) (oN (zu f 100)<|oN (few<|ln<|ap D [zk f 100])<|z (zM .i64 a.1 1,(zf f 100).i,(zf f 100).h,a.2.2.2.1,a.2.2.2.2.1,a.2.2.2.2.2.1,a.2.2.2.2.2.2.1,a.2.2.2.2.2.2.2.1,a.2.2.2.2.2.2.2.2.1,a.2.2.2.2.2.2.2.2.2.1,a.2.2.2.2.2.2.2.2.2.2.1,a.2.2.2.2.2.2.2.2.2.2.2.1,c.1,c.2.1,d6,d2,c8,c4,c0,b6,b2,a8,a4,a0,W,y4,d.2.2.2.2.1,d.2.2.2.2.2.1,d.2.2.2.2.2.2.1,d.2.2.2.2.2.2.2.1,S,O,J,ap D [zk f 100],()))<|some [.agg [.s .u8 y4,.i .i64 (zf l 4).i,.i .i64 (zf l 4).h],aT .guest (⟨S,d6,d2,O,J,⟨c8,c4,c0⟩,b6,⟨b2,a8,a4,a0⟩,W,D⟩:ah)])) (0,(zO t 12).i,(zO t 12).h,0,0,0,0,false,0,0,0,false,0,false,w,y,e.aq,e.Post,e.Open,zk A 256,(zb9 q).Kind,(zb9 q).af,(zb9 q).Write,(zb9 q).N,zcQ t 12,c.b,[],[],[],[],d.ax,v,x,d.aD,()))<|oN (zcv q 12)<|iter (σ:=(Int×Int×Int×Int×Int×Int×Int×Bool×Int×Int×Int×Bool×Int×Bool×Int×Int×Int×Int×Bool×Int×Int×Int×Bool×Int×Bool×LI×lI×lS×lS×LI×lI×lS×lS×LI×Unit)) N (λz a=>let c:=a.2.2.2.2.2.2.2.2.2.2.2.2;let d:=c.2.2.2.2.2.2.2.2.2.2;let d7:=c.2.2.1;let d3:=c.2.2.2.1;let c9:=c.2.2.2.2.1;let c5:=c.2.2.2.2.2.1;let c1:=c.2.2.2.2.2.2.1;let b7:=c.2.2.2.2.2.2.2.1;let b3:=c.2.2.2.2.2.2.2.2.1;let a9:=c.2.2.2.2.2.2.2.2.2.1;let a5:=d.1;let a1:=d.2.1;let X:=d.2.2.1;let T:=d.2.2.2.2.2.2.2.2.1;let P:=d.2.2.2.2.2.2.2.2.2.1;let K:=d.2.2.2.2.2.2.2.2.2.2.1;let E:=d.2.2.2.2.2.2.2.2.2.2.2.1;let y5:=d.2.2.2.1;let m:=(⟨y5,a.2.1,a.2.2.1⟩:Cur);let g:=({ (zf m 4) with b:=y5}:Cur); (oN (zu m 4)<|cond (ilt a.1<|zk m 4) (oN (zu g 100)<|oN (few<|ln<|ap E [zk g 100])<|z (zM .i64 a.1 1,(zf g 100).i,(zf g 100).h,a.2.2.2.1,a.2.2.2.2.1,a.2.2.2.2.2.1,a.2.2.2.2.2.2.1,a.2.2.2.2.2.2.2.1,a.2.2.2.2.2.2.2.2.1,a.2.2.2.2.2.2.2.2.2.1,a.2.2.2.2.2.2.2.2.2.2.1,a.2.2.2.2.2.2.2.2.2.2.2.1,c.1,c.2.1,d7,d3,c9,c5,c1,b7,b3,a9,a5,a1,X,y5,d.2.2.2.2.1,d.2.2.2.2.2.1,d.2.2.2.2.2.2.1,d.2.2.2.2.2.2.2.1,T,P,K,ap E [zk g 100],()))<|some [.agg [.s .u8 y5,.i .i64 (zf m 4).i,.i .i64 (zf m 4).h],aT .guest (⟨T,d7,d3,P,K,⟨c9,c5,c1⟩,b7,⟨b3,a9,a5,a1⟩,X,E⟩:ah)])) (0,(zO q 12).i,(zO q 12).h,0,0,0,0,false,0,0,0,false,0,false,w,y,e.aq,e.Post,e.Open,zk A 256,d.Exit.Kind,d.Exit.af,d.Exit.Write,d.Exit.N,zcQ q 12,c.b,[],[],[],[],d.ax,v,x,d.aD,()))<|oN (zcv A 4)<|cond (zcQ A 4) (oN (ziU r)<|oN (zcv u 12)<|iter (σ:=(Int×Int×Int×Int×Int×Int×Int×Bool×Int×Int×Int×Bool×Int×Bool×Int×Int×Int×Int×Bool×Int×Int×Int×Bool×Int×Bool×LI×lI×lS×lS×LI×lI×lS×lS×LI×Unit)) N (λz a=>let c:=a.2.2.2.2.2.2.2.2.2.2.2.2;let d:=c.2.2.2.2.2.2.2.2.2.2;let d8:=c.2.2.1;let d4:=c.2.2.2.1;let d0:=c.2.2.2.2.1;let c6:=c.2.2.2.2.2.1;let c2:=c.2.2.2.2.2.2.1;let b8:=c.2.2.2.2.2.2.2.1;let b4:=c.2.2.2.2.2.2.2.2.1;let b0:=c.2.2.2.2.2.2.2.2.2.1;let a6:=d.1;let a2:=d.2.1;let Y:=d.2.2.1;let U:=d.2.2.2.2.2.2.2.2.1;let Q:=d.2.2.2.2.2.2.2.2.2.1;let L:=d.2.2.2.2.2.2.2.2.2.2.1;let F:=d.2.2.2.2.2.2.2.2.2.2.2.1;let y6:=d.2.2.2.1;let n:=(⟨y6,a.2.1,a.2.2.1⟩:Cur);let j:=({ (zf n 4) with b:=y6}:Cur); (oN (zu n 4)<|cond (ilt a.1<|zk n 4) (oN (zu j 100)<|oN (few<|ln<|ap F [zk j 100])<|z (zM .i64 a.1 1,(zf j 100).i,(zf j 100).h,a.2.2.2.1,a.2.2.2.2.1,a.2.2.2.2.2.1,a.2.2.2.2.2.2.1,a.2.2.2.2.2.2.2.1,a.2.2.2.2.2.2.2.2.1,a.2.2.2.2.2.2.2.2.2.1,a.2.2.2.2.2.2.2.2.2.2.1,a.2.2.2.2.2.2.2.2.2.2.2.1,c.1,c.2.1,d8,d4,d0,c6,c2,b8,b4,b0,a6,a2,Y,y6,d.2.2.2.2.1,d.2.2.2.2.2.1,d.2.2.2.2.2.2.1,d.2.2.2.2.2.2.2.1,U,Q,L,ap F [zk j 100],()))<|some [.agg [.s .u8 y6,.i .i64 (zf n 4).i,.i .i64 (zf n 4).h],aT .guest (⟨U,d8,d4,Q,L,⟨d0,c6,c2⟩,b8,⟨b4,b0,a6,a2⟩,Y,F⟩:ah)])) (0,(zO u 12).i,(zO u 12).h,0,0,0,0,false,0,0,0,false,0,false,w,y,e.aq,e.Post,e.Open,d.ai,(zb9 r).Kind,(zb9 r).af,(zb9 r).Write,(zb9 r).N,zcQ u 12,c.b,[],[],[],[],d.ax,v,x,d.aD,()))<|oN (zcv r 12)<|iter (σ:=(Int×Int×Int×Int×Int×Int×Int×Bool×Int×Int×Int×Bool×Int×Bool×Int×Int×Int×Int×Bool×Int×Int×Int×Bool×Int×Bool×LI×lI×lS×lS×LI×lI×lS×lS×LI×Unit)) N (λz a=>let c:=a.2.2.2.2.2.2.2.2.2.2.2.2;let d:=c.2.2.2.2.2.2.2.2.2.2;let d9:=c.2.2.1;let d5:=c.2.2.2.1;let d1:=c.2.2.2.2.1;let c7:=c.2.2.2.2.2.1;let c3:=c.2.2.2.2.2.2.1;let b9:=c.2.2.2.2.2.2.2.1;let b5:=c.2.2.2.2.2.2.2.2.1;let b1:=c.2.2.2.2.2.2.2.2.2.1;let a7:=d.1;let a3:=d.2.1;let Z:=d.2.2.1;let V:=d.2.2.2.2.2.2.2.2.1;let R:=d.2.2.2.2.2.2.2.2.2.1;let M:=d.2.2.2.2.2.2.2.2.2.2.1;let G:=d.2.2.2.2.2.2.2.2.2.2.2.1;let y7:=d.2.2.2.1;let p:=(⟨y7,a.2.1,a.2.2.1⟩:Cur);let k:=({ (zf p 4) with b:=y7}:Cur); (oN (zu p 4)<|cond (ilt a.1<|zk p 4) (oN (zu k 100)<|oN (few<|ln<|ap G [zk k 100])<|z (zM .i64 a.1 1,(zf k 100).i,(zf k 100).h,a.2.2.2.1,a.2.2.2.2.1,a.2.2.2.2.2.1,a.2.2.2.2.2.2.1,a.2.2.2.2.2.2.2.1,a.2.2.2.2.2.2.2.2.1,a.2.2.2.2.2.2.2.2.2.1,a.2.2.2.2.2.2.2.2.2.2.1,a.2.2.2.2.2.2.2.2.2.2.2.1,c.1,c.2.1,d9,d5,d1,c7,c3,b9,b5,b1,a7,a3,Z,y7,d.2.2.2.2.1,d.2.2.2.2.2.1,d.2.2.2.2.2.2.1,d.2.2.2.2.2.2.2.1,V,R,M,ap G [zk k 100],()))<|some [.agg [.s .u8 y7,.i .i64 (zf p 4).i,.i .i64 (zf p 4).h],aT .guest (⟨V,d9,d5,R,M,⟨d1,c7,c3⟩,b9,⟨b5,b1,a7,a3⟩,Z,G⟩:ah)])) (0,(zO r 12).i,(zO r 12).h,0,0,0,0,false,0,0,0,false,0,false,w,y,e.aq,e.Post,e.Open,d.ai,d.Exit.Kind,d.Exit.af,d.Exit.Write,d.Exit.N,zcQ r 12,c.b,[],[],[],[],d.ax,v,x,d.aD,()))
def zOv:=zA [(338,0,{n:=50,tm:=[(0,.lp 0 0),(2,.lp 1 0),(3,.lp 2 0),(4,ti)],lo:=[(0,[.sl 0 [],ti,ti]),(1,[.sl 1 [],ti,ti,.sl 2 [],.sl 3 [],ti,ti,.b,ti,ti,ti,.b,ti,.b,.sl 4 []]),(2,[.sl 5 [],ti,ti,.sl 6 [],.sl 7 [],ti,ti,.b,ti,ti,ti,.b,ti,.b,.sl 8 []])],ro:=[(0,.u8,false),(1,.ins,true),(2,.slot,true),(3,.slot,true),(4,.int,true),(5,.ins,true),(6,.slot,true),(7,.slot,true),(8,.int,true)]})]
def znl (c:Cur)(s:Cur)(a:ah):Prop:=(∃N,zty N c=some (AV.agg (zbT s)::[aT .guest a]))/\(s.b=c.b/\0<=s.i)/\(GuS a/\a.aD.length<=4)
def zg3 (c:Cur)  : Bool:=wC (znl c)
def zes (c:Cur)  : Cur:=wS (znl c)
def zbN (c:Cur)  : ah:=wV (znl c)
def zpp {c:Cur}(h:zg3 c=true):znl c (zes c) (zbN c):=wG h
def zlH (c:Cur)  : 0<=(zes c).i:=wP λh=>h.2.1.2
def zUz (c:Cur)(h:∃N,Ends (wE (λa=>aT .guest a) c.b λa=>GuS a/\a.aD.length<=4)<|zty N c):zg3 c=true:=wI (λ_ _ h=>h) h
def zvC:zdB:=rP0 λc=>(zg3 c,zes c,[aT .guest<|zbN c])
def zHI:zbP Tryz.prog 338 [false,true,true] zvC:=hP0 zGY zN zUd zq zOv (λ_ h=>(zpp h).1)
def znr {c:Cur}(h:zba c):zg3 c=true:=by
 refine zUz c ⟨1002,?_⟩;unfold zty oN;conv=>zeta
 have f:=zC1 h;have j:=zIg (zrg f).2.2;have e:zjn (zb4 c)=true:=zY (by omega);have q:∀{s:Cur},0<=s.i->zba {s with b:=c.b}:=fun g=>zbE h g;have d:GuS ⟨zb4 c,0,0,[],[],⟨0,0,false⟩,0,⟨0,0,false,0⟩,false,[]⟩:=⟨by dsimp only;omega,by simp,by simp,by simp⟩
 refine zo f (zo e (zo (zym (q (ziT _)) (by omega) (by omega) _) (zo (zym (q (zh7 _ _ _)) (by omega) (by omega) _) (zo (zbp (q (zh7 _ _ _)) _) (zo (zbp (q (zB _ _)) _) (zo (zX6 (q (zB _ _))) (zo (zhW (q (zzJ _)) _)
  (zbt (fun _=>zo (zbp (q (zb0 _ _)) _) (zo (zhW (q (zB _ _)) _) (zbt (fun _=>zo (zSL (q (zb0 _ _))) (zo (zhW (q (zwS _)) _) ?_)) (fun _=>zo (zhW (q (zb0 _ _)) _) ?_))))
   (fun _=>zo (zhW (q (zb0 _ _)) _) (zbt (fun _=>zo (zSL (q (zb0 _ _))) (zo (zhW (q (zwS _)) _) ?_)) (fun _=>zo (zhW (q (zb0 _ _)) _) ?_)))))))))))
 .exact zDR h (zb0 _ _) (P:=fun _=>True) (q:=4) (by omega) (by omega) (fc:=fun c=>zu c 100) (fs:=fun c=>zf c 100) (fv:=fun c=>zk c 100) (fun h=>zbp h _) (fun c=>zB c _) (fun _=>trivial) (z:=0) (l0:=(zcr (zb4 c)).aD) (qW 0) (by omega) (by simp) ((fun _ t=>(t.1,t.2.1,t.2.2.1,0,0,0,0,false,0,0,0,false,0,false,(zk ({ (zI ({ (zI ({ (zbb c) with b:=c.b }:Cur) 4 8) with b:=c.b }:Cur) 4 8) with b:=c.b }:Cur) 100),(zk ({ (zf ({ (zI ({ (zI ({ (zbb c) with b:=c.b }:Cur) 4 8) with b:=c.b }:Cur) 4 8) with b:=c.b }:Cur) 100) with b:=c.b }:Cur) 4),(zcA ({ (zf ({ (zf ({ (zI ({ (zI ({ (zbb c) with b:=c.b }:Cur) 4 8) with b:=c.b }:Cur) 4 8) with b:=c.b }:Cur) 100) with b:=c.b }:Cur) 4) with b:=c.b }:Cur)).aq,(zcA ({ (zf ({ (zf ({ (zI ({ (zI ({ (zbb c) with b:=c.b }:Cur) 4 8) with b:=c.b }:Cur) 4 8) with b:=c.b }:Cur) 100) with b:=c.b }:Cur) 4) with b:=c.b }:Cur)).Post,(zcA ({ (zf ({ (zf ({ (zI ({ (zI ({ (zbb c) with b:=c.b }:Cur) 4 8) with b:=c.b }:Cur) 4 8) with b:=c.b }:Cur) 100) with b:=c.b }:Cur) 4) with b:=c.b }:Cur)).Open,(zk ({ (zO ({ (zcg ({ (zf ({ (zf ({ (zI ({ (zI ({ (zbb c) with b:=c.b }:Cur) 4 8) with b:=c.b }:Cur) 4 8) with b:=c.b }:Cur) 100) with b:=c.b }:Cur) 4) with b:=c.b }:Cur)) with b:=c.b }:Cur) 3) with b:=c.b }:Cur) 256),(zb9 ({ (zO ({ (zf ({ (zO ({ (zcg ({ (zf ({ (zf ({ (zI ({ (zI ({ (zbb c) with b:=c.b }:Cur) 4 8) with b:=c.b }:Cur) 4 8) with b:=c.b }:Cur) 100) with b:=c.b }:Cur) 4) with b:=c.b }:Cur)) with b:=c.b }:Cur) 3) with b:=c.b }:Cur) 256) with b:=c.b }:Cur) 4) with b:=c.b }:Cur)).Kind,(zb9 ({ (zO ({ (zf ({ (zO ({ (zcg ({ (zf ({ (zf ({ (zI ({ (zI ({ (zbb c) with b:=c.b }:Cur) 4 8) with b:=c.b }:Cur) 4 8) with b:=c.b }:Cur) 100) with b:=c.b }:Cur) 4) with b:=c.b }:Cur)) with b:=c.b }:Cur) 3) with b:=c.b }:Cur) 256) with b:=c.b }:Cur) 4) with b:=c.b }:Cur)).af,(zb9 ({ (zO ({ (zf ({ (zO ({ (zcg ({ (zf ({ (zf ({ (zI ({ (zI ({ (zbb c) with b:=c.b }:Cur) 4 8) with b:=c.b }:Cur) 4 8) with b:=c.b }:Cur) 100) with b:=c.b }:Cur) 4) with b:=c.b }:Cur)) with b:=c.b }:Cur) 3) with b:=c.b }:Cur) 256) with b:=c.b }:Cur) 4) with b:=c.b }:Cur)).Write,(zb9 ({ (zO ({ (zf ({ (zO ({ (zcg ({ (zf ({ (zf ({ (zI ({ (zI ({ (zbb c) with b:=c.b }:Cur) 4 8) with b:=c.b }:Cur) 4 8) with b:=c.b }:Cur) 100) with b:=c.b }:Cur) 4) with b:=c.b }:Cur)) with b:=c.b }:Cur) 3) with b:=c.b }:Cur) 256) with b:=c.b }:Cur) 4) with b:=c.b }:Cur)).N,(zcQ ({ (zfD ({ (zO ({ (zf ({ (zO ({ (zcg ({ (zf ({ (zf ({ (zI ({ (zI ({ (zbb c) with b:=c.b }:Cur) 4 8) with b:=c.b }:Cur) 4 8) with b:=c.b }:Cur) 100) with b:=c.b }:Cur) 4) with b:=c.b }:Cur)) with b:=c.b }:Cur) 3) with b:=c.b }:Cur) 256) with b:=c.b }:Cur) 4) with b:=c.b }:Cur)) with b:=c.b }:Cur) 12),c.b,[],[],[],[],(zcr (zb4 c)).ax,(zdr ({ (zbb c) with b:=c.b }:Cur) 4 8),(zdr ({ (zI ({ (zbb c) with b:=c.b }:Cur) 4 8) with b:=c.b }:Cur) 4 8),t.2.2.2,())):Nat->Int×Int×Int×LI->_)
   (fun rec t i k l=>⟨_,rfl,fun a _=>⟨⟨_,_,_⟩,_,rfl,⟨rfl,zB _ _⟩,⟨⟨d.1,zDC (q (ziT _)),zDC (q (zh7 _ _ _)),by unfold ln at a;dsimp only;omega⟩,by unfold ln at a;dsimp only;omega⟩⟩⟩)
 .exact zDR h (zb0 _ _) (P:=fun _=>True) (q:=4) (by omega) (by omega) (fc:=fun c=>zu c 100) (fs:=fun c=>zf c 100) (fv:=fun c=>zk c 100) (fun h=>zbp h _) (fun c=>zB c _) (fun _=>trivial) (z:=0) (l0:=(zcr (zb4 c)).aD) (qW 0) (by omega) (by simp) ((fun _ t=>(t.1,t.2.1,t.2.2.1,0,0,0,0,false,0,0,0,false,0,false,(zk ({ (zI ({ (zI ({ (zbb c) with b:=c.b }:Cur) 4 8) with b:=c.b }:Cur) 4 8) with b:=c.b }:Cur) 100),(zk ({ (zf ({ (zI ({ (zI ({ (zbb c) with b:=c.b }:Cur) 4 8) with b:=c.b }:Cur) 4 8) with b:=c.b }:Cur) 100) with b:=c.b }:Cur) 4),(zcA ({ (zf ({ (zf ({ (zI ({ (zI ({ (zbb c) with b:=c.b }:Cur) 4 8) with b:=c.b }:Cur) 4 8) with b:=c.b }:Cur) 100) with b:=c.b }:Cur) 4) with b:=c.b }:Cur)).aq,(zcA ({ (zf ({ (zf ({ (zI ({ (zI ({ (zbb c) with b:=c.b }:Cur) 4 8) with b:=c.b }:Cur) 4 8) with b:=c.b }:Cur) 100) with b:=c.b }:Cur) 4) with b:=c.b }:Cur)).Post,(zcA ({ (zf ({ (zf ({ (zI ({ (zI ({ (zbb c) with b:=c.b }:Cur) 4 8) with b:=c.b }:Cur) 4 8) with b:=c.b }:Cur) 100) with b:=c.b }:Cur) 4) with b:=c.b }:Cur)).Open,(zk ({ (zO ({ (zcg ({ (zf ({ (zf ({ (zI ({ (zI ({ (zbb c) with b:=c.b }:Cur) 4 8) with b:=c.b }:Cur) 4 8) with b:=c.b }:Cur) 100) with b:=c.b }:Cur) 4) with b:=c.b }:Cur)) with b:=c.b }:Cur) 3) with b:=c.b }:Cur) 256),(zcr (zb4 c)).Exit.Kind,(zcr (zb4 c)).Exit.af,(zcr (zb4 c)).Exit.Write,(zcr (zb4 c)).Exit.N,(zcQ ({ (zO ({ (zf ({ (zO ({ (zcg ({ (zf ({ (zf ({ (zI ({ (zI ({ (zbb c) with b:=c.b }:Cur) 4 8) with b:=c.b }:Cur) 4 8) with b:=c.b }:Cur) 100) with b:=c.b }:Cur) 4) with b:=c.b }:Cur)) with b:=c.b }:Cur) 3) with b:=c.b }:Cur) 256) with b:=c.b }:Cur) 4) with b:=c.b }:Cur) 12),c.b,[],[],[],[],(zcr (zb4 c)).ax,(zdr ({ (zbb c) with b:=c.b }:Cur) 4 8),(zdr ({ (zI ({ (zbb c) with b:=c.b }:Cur) 4 8) with b:=c.b }:Cur) 4 8),t.2.2.2,())):Nat->Int×Int×Int×LI->_)
   (fun rec t i k l=>⟨_,rfl,fun a _=>⟨⟨_,_,_⟩,_,rfl,⟨rfl,zB _ _⟩,⟨⟨d.1,zDC (q (ziT _)),zDC (q (zh7 _ _ _)),by unfold ln at a;dsimp only;omega⟩,by unfold ln at a;dsimp only;omega⟩⟩⟩)
 .exact zDR h (zb0 _ _) (P:=fun _=>True) (q:=4) (by omega) (by omega) (fc:=fun c=>zu c 100) (fs:=fun c=>zf c 100) (fv:=fun c=>zk c 100) (fun h=>zbp h _) (fun c=>zB c _) (fun _=>trivial) (z:=0) (l0:=(zcr (zb4 c)).aD) (qW 0) (by omega) (by simp) ((fun _ t=>(t.1,t.2.1,t.2.2.1,0,0,0,0,false,0,0,0,false,0,false,(zk ({ (zI ({ (zI ({ (zbb c) with b:=c.b }:Cur) 4 8) with b:=c.b }:Cur) 4 8) with b:=c.b }:Cur) 100),(zk ({ (zf ({ (zI ({ (zI ({ (zbb c) with b:=c.b }:Cur) 4 8) with b:=c.b }:Cur) 4 8) with b:=c.b }:Cur) 100) with b:=c.b }:Cur) 4),(zcA ({ (zf ({ (zf ({ (zI ({ (zI ({ (zbb c) with b:=c.b }:Cur) 4 8) with b:=c.b }:Cur) 4 8) with b:=c.b }:Cur) 100) with b:=c.b }:Cur) 4) with b:=c.b }:Cur)).aq,(zcA ({ (zf ({ (zf ({ (zI ({ (zI ({ (zbb c) with b:=c.b }:Cur) 4 8) with b:=c.b }:Cur) 4 8) with b:=c.b }:Cur) 100) with b:=c.b }:Cur) 4) with b:=c.b }:Cur)).Post,(zcA ({ (zf ({ (zf ({ (zI ({ (zI ({ (zbb c) with b:=c.b }:Cur) 4 8) with b:=c.b }:Cur) 4 8) with b:=c.b }:Cur) 100) with b:=c.b }:Cur) 4) with b:=c.b }:Cur)).Open,(zcr (zb4 c)).ai,(zb9 ({ (zO ({ (zO ({ (zcg ({ (zf ({ (zf ({ (zI ({ (zI ({ (zbb c) with b:=c.b }:Cur) 4 8) with b:=c.b }:Cur) 4 8) with b:=c.b }:Cur) 100) with b:=c.b }:Cur) 4) with b:=c.b }:Cur)) with b:=c.b }:Cur) 3) with b:=c.b }:Cur) 4) with b:=c.b }:Cur)).Kind,(zb9 ({ (zO ({ (zO ({ (zcg ({ (zf ({ (zf ({ (zI ({ (zI ({ (zbb c) with b:=c.b }:Cur) 4 8) with b:=c.b }:Cur) 4 8) with b:=c.b }:Cur) 100) with b:=c.b }:Cur) 4) with b:=c.b }:Cur)) with b:=c.b }:Cur) 3) with b:=c.b }:Cur) 4) with b:=c.b }:Cur)).af,(zb9 ({ (zO ({ (zO ({ (zcg ({ (zf ({ (zf ({ (zI ({ (zI ({ (zbb c) with b:=c.b }:Cur) 4 8) with b:=c.b }:Cur) 4 8) with b:=c.b }:Cur) 100) with b:=c.b }:Cur) 4) with b:=c.b }:Cur)) with b:=c.b }:Cur) 3) with b:=c.b }:Cur) 4) with b:=c.b }:Cur)).Write,(zb9 ({ (zO ({ (zO ({ (zcg ({ (zf ({ (zf ({ (zI ({ (zI ({ (zbb c) with b:=c.b }:Cur) 4 8) with b:=c.b }:Cur) 4 8) with b:=c.b }:Cur) 100) with b:=c.b }:Cur) 4) with b:=c.b }:Cur)) with b:=c.b }:Cur) 3) with b:=c.b }:Cur) 4) with b:=c.b }:Cur)).N,(zcQ ({ (zfD ({ (zO ({ (zO ({ (zcg ({ (zf ({ (zf ({ (zI ({ (zI ({ (zbb c) with b:=c.b }:Cur) 4 8) with b:=c.b }:Cur) 4 8) with b:=c.b }:Cur) 100) with b:=c.b }:Cur) 4) with b:=c.b }:Cur)) with b:=c.b }:Cur) 3) with b:=c.b }:Cur) 4) with b:=c.b }:Cur)) with b:=c.b }:Cur) 12),c.b,[],[],[],[],(zcr (zb4 c)).ax,(zdr ({ (zbb c) with b:=c.b }:Cur) 4 8),(zdr ({ (zI ({ (zbb c) with b:=c.b }:Cur) 4 8) with b:=c.b }:Cur) 4 8),t.2.2.2,())):Nat->Int×Int×Int×LI->_)
   (fun rec t i k l=>⟨_,rfl,fun a _=>⟨⟨_,_,_⟩,_,rfl,⟨rfl,zB _ _⟩,⟨⟨d.1,zDC (q (ziT _)),zDC (q (zh7 _ _ _)),by unfold ln at a;dsimp only;omega⟩,by unfold ln at a;dsimp only;omega⟩⟩⟩)
 .exact zDR h (zb0 _ _) (P:=fun _=>True) (q:=4) (by omega) (by omega) (fc:=fun c=>zu c 100) (fs:=fun c=>zf c 100) (fv:=fun c=>zk c 100) (fun h=>zbp h _) (fun c=>zB c _) (fun _=>trivial) (z:=0) (l0:=(zcr (zb4 c)).aD) (qW 0) (by omega) (by simp) ((fun _ t=>(t.1,t.2.1,t.2.2.1,0,0,0,0,false,0,0,0,false,0,false,(zk ({ (zI ({ (zI ({ (zbb c) with b:=c.b }:Cur) 4 8) with b:=c.b }:Cur) 4 8) with b:=c.b }:Cur) 100),(zk ({ (zf ({ (zI ({ (zI ({ (zbb c) with b:=c.b }:Cur) 4 8) with b:=c.b }:Cur) 4 8) with b:=c.b }:Cur) 100) with b:=c.b }:Cur) 4),(zcA ({ (zf ({ (zf ({ (zI ({ (zI ({ (zbb c) with b:=c.b }:Cur) 4 8) with b:=c.b }:Cur) 4 8) with b:=c.b }:Cur) 100) with b:=c.b }:Cur) 4) with b:=c.b }:Cur)).aq,(zcA ({ (zf ({ (zf ({ (zI ({ (zI ({ (zbb c) with b:=c.b }:Cur) 4 8) with b:=c.b }:Cur) 4 8) with b:=c.b }:Cur) 100) with b:=c.b }:Cur) 4) with b:=c.b }:Cur)).Post,(zcA ({ (zf ({ (zf ({ (zI ({ (zI ({ (zbb c) with b:=c.b }:Cur) 4 8) with b:=c.b }:Cur) 4 8) with b:=c.b }:Cur) 100) with b:=c.b }:Cur) 4) with b:=c.b }:Cur)).Open,(zcr (zb4 c)).ai,(zcr (zb4 c)).Exit.Kind,(zcr (zb4 c)).Exit.af,(zcr (zb4 c)).Exit.Write,(zcr (zb4 c)).Exit.N,(zcQ ({ (zO ({ (zO ({ (zcg ({ (zf ({ (zf ({ (zI ({ (zI ({ (zbb c) with b:=c.b }:Cur) 4 8) with b:=c.b }:Cur) 4 8) with b:=c.b }:Cur) 100) with b:=c.b }:Cur) 4) with b:=c.b }:Cur)) with b:=c.b }:Cur) 3) with b:=c.b }:Cur) 4) with b:=c.b }:Cur) 12),c.b,[],[],[],[],(zcr (zb4 c)).ax,(zdr ({ (zbb c) with b:=c.b }:Cur) 4 8),(zdr ({ (zI ({ (zbb c) with b:=c.b }:Cur) 4 8) with b:=c.b }:Cur) 4 8),t.2.2.2,())):Nat->Int×Int×Int×LI->_)
   (fun rec t i k l=>⟨_,rfl,fun a _=>⟨⟨_,_,_⟩,_,rfl,⟨rfl,zB _ _⟩,⟨⟨d.1,zDC (q (ziT _)),zDC (q (zh7 _ _ _)),by unfold ln at a;dsimp only;omega⟩,by unfold ln at a;dsimp only;omega⟩⟩⟩)
def z6W:zcT:=[(338,[false,true,true],zvC)]++z6V
def zId:zb2 z6W:=zce zUd (by
 intro x a;simp only[qG,qN,or_false]at a;rcases a with rfl
 .exact zHI)
def zyz (N:Nat)(c:Cur)  : OA :=
 let e:=zbN c;let B:=({ (zes c) with b:=c.b}:Cur);let f:=zf B 14;let j:=zk B 14;let d:=({f with b:=c.b}:Cur);let g:=zhb d 4 8;let p:=zZ d [-1,12,13,9223372036854775807]; (oN (zg3 c)<|oN (zu B 14)<|cond (ieq j 0) (oN (zjr d)<|some [.agg [.s .u8 c.b,.i .i64 (zjs d).i,.i .i64 (zjs d).h],aT .guest ({e with ax:=(zph d)}:ah)])<|cond (ieq j 1) (oN (zbq d [-1,100])<|some [.agg [.s .u8 c.b,.i .i64 (zZ d [-1,100]).i,.i .i64 (zZ d [-1,100]).h],aT .guest ({e with A:=(zbk d [-1,100])}:ah)])<|cond (ieq j 2) (oN (zbq d [-1,12,13,9223372036854775807])<|some [.agg [.s .u8 c.b,.i .i64 p.i,.i .i64 p.h],aT .guest ({e with Pc:=(zbk d [-1,12,13,9223372036854775807])}:ah)])<|cond (ieq j 3) (oN (zf1 d 4 8)<|some [.agg [.s .u8 c.b,.i .i64 g.i,.i .i64 g.h],aT .guest ({e with aw:=(zfg d 4 8)}:ah)])<|cond (ieq j 4) (oN (zpj d)<|some [.agg [.s .u8 c.b,.i .i64 (zpk d).i,.i .i64 (zpk d).h],aT .guest ({e with Ctl:=(zzI d)}:ah)])<|cond (ieq j 5) (oN (zkK d)<|some [.agg [.s .u8 c.b,.i .i64 (ziV d).i,.i .i64 (ziV d).h],aT .guest ({e with ai:=(zn0 d)}:ah)])<|cond (ieq j 6) (oN (zpl d)<|some [.agg [.s .u8 c.b,.i .i64 (zpm d).i,.i .i64 (zpm d).h],aT .guest ({e with Exit:=(zzK d)}:ah)])<|cond (ieq j 7) (iter (σ:=(Int×Int×Int×Int×Int×Int×Bool×Int×Int×Int×Bool×Int×Bool×Int×Int×Int×Int×Bool×Int×Int×Int×Bool×Int×Bool×LI×lI×lS×lS×LI×lI×lS×lS×LI×Unit)) N (λG a=>let y:=a.2.2.2.2.2.2.2.2.2.2.2.2.2.1;let x:=a.2.2.2.2.2.2.2.2.2.2.2.2.2.2.1;let w:=a.2.2.2.2.2.2.2.2.2.2.2.2.2.2.2.1;let v:=a.2.2.2.2.2.2.2.2.2.2.2.2.2.2.2.2.1;let u:=a.2.2.2.2.2.2.2.2.2.2.2.2.2.2.2.2.2.1;let t:=a.2.2.2.2.2.2.2.2.2.2.2.2.2.2.2.2.2.2.1;let r:=a.2.2.2.2.2.2.2.2.2.2.2.2.2.2.2.2.2.2.2.1;let q:=a.2.2.2.2.2.2.2.2.2.2.2.2.2.2.2.2.2.2.2.2.1;let n:=a.2.2.2.2.2.2.2.2.2.2.2.2.2.2.2.2.2.2.2.2.2.1;let m:=a.2.2.2.2.2.2.2.2.2.2.2.2.2.2.2.2.2.2.2.2.2.2.1;let l:=a.2.2.2.2.2.2.2.2.2.2.2.2.2.2.2.2.2.2.2.2.2.2.2.1;let F:=a.2.2.2.2.2.2.2.2.2.2.2.2.2.2.2.2.2.2.2.2.2.2.2.2.2.2.2.2.2.1;let E:=a.2.2.2.2.2.2.2.2.2.2.2.2.2.2.2.2.2.2.2.2.2.2.2.2.2.2.2.2.2.2.1;let D:=a.2.2.2.2.2.2.2.2.2.2.2.2.2.2.2.2.2.2.2.2.2.2.2.2.2.2.2.2.2.2.2.1;let C:=a.2.2.2.2.2.2.2.2.2.2.2.2.2.2.2.2.2.2.2.2.2.2.2.2.1;let z:=a.2.2.2.2.2.2.2.2.2.2.2.2.2.2.2.2.2.2.2.2.2.2.2.2.2.2.2.2.2.2.2.2.1;let k:=(⟨C,a.1,a.2.1⟩:Cur); (oN (zu k 3)<|cond (ilt (ln z)<|zM .i64 39<|zk k 3) (oN (few<|ln<|ap z [1])<|G ((zf k 3).i,(zf k 3).h,a.2.2.1,a.2.2.2.1,a.2.2.2.2.1,a.2.2.2.2.2.1,a.2.2.2.2.2.2.1,a.2.2.2.2.2.2.2.1,a.2.2.2.2.2.2.2.2.1,a.2.2.2.2.2.2.2.2.2.1,a.2.2.2.2.2.2.2.2.2.2.1,a.2.2.2.2.2.2.2.2.2.2.2.1,a.2.2.2.2.2.2.2.2.2.2.2.2.1,y,x,w,v,u,t,r,q,n,m,l,C,a.2.2.2.2.2.2.2.2.2.2.2.2.2.2.2.2.2.2.2.2.2.2.2.2.2.1,a.2.2.2.2.2.2.2.2.2.2.2.2.2.2.2.2.2.2.2.2.2.2.2.2.2.2.1,a.2.2.2.2.2.2.2.2.2.2.2.2.2.2.2.2.2.2.2.2.2.2.2.2.2.2.2.1,a.2.2.2.2.2.2.2.2.2.2.2.2.2.2.2.2.2.2.2.2.2.2.2.2.2.2.2.2.1,F,E,D,ap z [1],()))<|some [.agg [.s .u8 C,.i .i64 (zf k 3).i,.i .i64 (zf k 3).h],aT .guest (⟨F,y,x,E,D,⟨w,v,u⟩,t,⟨r,q,n,m⟩,l,z⟩:ah)])) (f.i,f.h,0,0,0,0,false,0,0,0,false,0,false,e.A,e.Pc,e.Ctl.aq,e.Ctl.Post,e.Ctl.Open,e.ai,e.Exit.Kind,e.Exit.af,e.Exit.Write,e.Exit.N,e.aG,c.b,[],[],[],[],e.ax,e.aA,e.aw,e.aD,()))<|cond (ieq j 8) (oN (zf1 d 4 8)<|some [.agg [.s .u8 c.b,.i .i64 g.i,.i .i64 g.h],aT .guest ({e with aA:=(zfg d 4 8)}:ah)])<|some [.agg [.s .u8 c.b,.i .i64 f.i,.i .i64 f.h],aT .guest e])
def zVf:=zA [(241,1,{n:=65,tm:=[(0,.lp 0 0),(2,.lp 1 0),(3,.lp 2 0)],lo:=[(0,[.sl 0 [],ti,ti]),(1,[.sl 1 [],ti,ti,.sl 2 [],.sl 3 [],ti,ti,.b,ti,ti,ti,.b,ti,.b,.sl 4 []]),(2,[.sl 5 [],ti,ti,.sl 6 [],.sl 7 [],ti,ti,.b,ti,ti,ti,.b,ti,.b,.sl 8 []])],ro:=[(0,.u8,false),(1,.ins,true),(2,.slot,true),(3,.slot,true),(4,.int,true),(5,.ins,true),(6,.slot,true),(7,.slot,true),(8,.int,true)]})]
def zrk (c:Cur)(s:Cur)(a:ah):Prop:=(∃N,zyz N c=some (AV.agg (zbT s)::[aT .guest a]))/\(s.b=c.b/\0<=s.i)/\(GuS a)
def zmn (c:Cur)  : Bool:=wC (zrk c)
def zj3 (c:Cur)  : Cur:=wS (zrk c)
def zqw (c:Cur)  : ah:=wV (zrk c)
def zzL {c:Cur}(h:zmn c=true):zrk c (zj3 c) (zqw c):=wG h
def zLv (c:Cur)  : 0<=(zj3 c).i:=wP λh=>h.2.1.2
def zZs (c:Cur)(h:∃N,Ends (wE (λa=>aT .guest a) c.b λa=>GuS a)<|zyz N c):zmn c=true:=wI (λ_ _ h=>h) h
def zAr:zdB:=rP0 λc=>(zmn c,zj3 c,[aT .guest<|zqw c])
def zM9:zbP Tryz.prog 241 [false,true,true] zAr:=hP0 zGY zN zId zq zVf (λ_ h=>(zzL h).1)
def zsM {c:Cur}(h:zba c):zmn c=true:=by
 refine zZs c ⟨1002,?_⟩;unfold zyz oN;conv=>zeta
 have q:∀{s:Cur},0<=s.i->zba {s with b:=c.b}:=λr=>zbE h r;have a:zba {zf {zes c with b:=c.b} 14 with b:=c.b}:=q (zB _ _);obtain⟨⟨d,e,f,g⟩,w⟩:=(zpp<|znr h).2.2;have p:(zfg {zf {zes c with b:=c.b} 14 with b:=c.b} 4 8).length<=4:=by have:=((zpa<|zob a (n:=4) (by omega) (by omega) 8).2.2 (by omega) (by omega)).1;unfold ln at this;omega
 have j:=(zyi<|zOZ a).2.2;refine zo (znr h) (zo (zbp (q<|zlH _) _) (zbt (λ_=>zo (zOZ a) (zby (aT .guest) (v:={zbN c with ax:=zph _}) (zOc _) ⟨j,e,f,g⟩))
  (λ_=>zbt (λ_=>zo (ze8 a (by simp)) (zby (aT .guest) (v:={zbN c with A:=zbk _ _}) (zbW _ _) ⟨d,e,f,g⟩))
  (λ_=>zbt (λ_=>zo (ze8 a (by simp)) (zby (aT .guest) (v:={zbN c with Pc:=zbk _ _}) (zbW _ _) ⟨d,e,f,g⟩))
  (λ_=>zbt (λ_=>zo (zob a (by omega) (by omega) _) (zby (aT .guest) (v:={zbN c with aw:=zfg _ _ _}) (zpb _ _ _) ⟨d,e,p,g⟩))
  (λ_=>zbt (λ_=>zo (z2W a) (zby (aT .guest) (v:={zbN c with Ctl:=zzI _}) (zZm _) ⟨d,e,f,g⟩))
  (λ_=>zbt (λ_=>zo (z14 a) (zby (aT .guest) (v:={zbN c with ai:=zn0 _}) (zGs _) ⟨d,e,f,g⟩))
  (λ_=>zbt (λ_=>zo (zZ0 a) (zby (aT .guest) (v:={zbN c with Exit:=zzK _}) (zZr _) ⟨d,e,f,g⟩))
  (λ_=>zbt (λ_=>?_)
  (λ_=>zbt (λ_=>zo (zob a (by omega) (by omega) _) (zby (aT .guest) (v:={zbN c with aA:=zfg _ _ _}) (zpb _ _ _) ⟨d,p,f,g⟩))
  (λ_=>zby (aT .guest) (v:=zbN c) (zB _ _) ⟨d,e,f,g⟩)))))))))))
 exact z05 h (zB _ _) (m:=39) (q:=3) (x:=1) (by omega) (by omega) (by omega) (l0:=(zbN c).aD) (by unfold ln;omega) ((λ_ t=>(t.1,t.2.1,0,0,0,0,false,0,0,0,false,0,false,(zbN c).A,(zbN c).Pc,(zbN c).Ctl.aq,(zbN c).Ctl.Post,(zbN c).Ctl.Open,(zbN c).ai,(zbN c).Exit.Kind,(zbN c).Exit.af,(zbN c).Exit.Write,(zbN c).Exit.N,(zbN c).aG,c.b,[],[],[],[],(zbN c).ax,(zbN c).aA,(zbN c).aw,t.2.2,())):Nat->Int×Int×LI->_)
  (λrec i k l=>⟨_,rfl,λu=>⟨⟨_,_,_⟩,_,rfl,⟨rfl,zB _ _⟩,⟨d,e,f,by unfold ln at u;dsimp only;omega⟩⟩⟩)
def z8G (b:List ar)(e:ar)(h:b.length<=1048576):(zqa b e).length<=6:=by have c:=(zzv e h).2;unfold zqa;generalize ap (zcS b e.Tag e.af) [e]=l at c;cases a:igt (ln l) 6 with|false=>have:¬ ln l>6:=jV a;rw[cF];unfold ln at this;omega|true=>rw[cT,zys (by unfold ln;omega) (by unfold ln;omega)];have:ln l>6:=qF a;simp only[dp,vQ];unfold ln at *;omega
def zr6 (N:Nat)(c:Cur)  : OA :=
 (iter (σ:=(Int×Int×Int×lE×LI×Unit)) N (λl d=>let e:=d.2.2.2.2.1;let j:=(⟨e,d.2.1,d.2.2.1⟩:Cur);let a:=({ (zf j 9) with b:=e}:Cur);let g:=({ (zO a 8) with b:=e}:Cur);let f:=({ (zg2 g) with b:=e}:Cur);let k:=ap d.2.2.2.1 [zml g,zml f]; (oN (zu j 9)<|cond (ilt d.1<|zk j 9) (oN (zh8 a)<|oN (zly d.2.2.2.1<|zml a)<|l (zM .i64 d.1 1,(zg2 a).i,(zg2 a).h,zmf d.2.2.2.1<|zml a,e,()))<|oN (zcv a 8)<|cond (zcQ a 8) (oN (zh8 g)<|oN (zh8 f)<|oN (few<|ln k)<|some [.agg [.s .u8 e,.i .i64 (zg2 f).i,.i .i64 (zg2 f).h],aS .entry k])<|some [.agg [.s .u8 e,.i .i64 (zO a 8).i,.i .i64 (zO a 8).h],aS .entry d.2.2.2.1])) (0,c.i,c.h,[],c.b,()))
def zL6:=zA [(220,0,{n:=26,tm:=[(0,.lp 0 0),(3,.sl 0 []),(4,ti)],lo:=[(0,[.sl 1 [],ti,ti])],ro:=[(0,.entry,true),(1,.u8,false)]})]
def zmk (c:Cur)(s:Cur)(a:List ar):Prop:=(∃N,zr6 N c=some (AV.agg (zbT s)::[aS .entry a]))/\(s.b=c.b/\0<=s.i)/\(a.length<=8)
def zkr (c:Cur)  : Bool:=wC (zmk c)
def zks (c:Cur)  : Cur:=wS (zmk c)
def zre (c:Cur)  : List ar:=wV (zmk c)
def zA8 {c:Cur}(h:zkr c=true):zmk c (zks c) (zre c):=wG h
def zRl (c:Cur)  : 0<=(zks c).i:=wP λh=>h.2.1.2
def zRk (c:Cur)(h:∃N,Ends (wE (λa=>aS .entry a) c.b λa=>a.length<=8)<|zr6 N c):zkr c=true:=wI (λ_ _ h=>h) h
def zuf:zdB:=rP0 λc=>(zkr c,zks c,[aS .entry<|zre c])
def zEN:zbP Tryz.prog 220 [false,true,true] zuf:=hP0 zGY zN zId zq zL6 (λ_ h=>(zA8 h).1)
def zSg {c:Cur}(h:zba c):zkr c=true:=by
 refine zRk c ⟨1002,?_⟩;unfold zr6 oN;conv=>zeta
 refine zke (λn s=>∃t i k l,s=(((λ_ t=>(t.1,t.2.1,t.2.2.1,t.2.2.2,c.b,())):Nat->Int×Int×Int×List ar->_) 0 (t,i,k,l))/\t+(n:Int)=10/\0<=t/\0<=i/\l.length<=6) ?_ 1002 10 _ ⟨0,c.i,c.h,[],rfl,rfl,kP 0,h.1,by simp⟩ (by omega);rintro n s rec ⟨t,i,k,l,rfl,p,g,j,r⟩ d;dsimp only;have a:zba ⟨c.b,i,k⟩:=zbE h j;have v:=zfi a (n:=9) (by omega);have q:∀{s:Cur},0<=s.i->zba {s with b:=c.b}:=λf=>zbE h f;refine zo (zbp a 9) (zbt (λe=>?_) λe=>?_);{have m:t<zk ⟨c.b,i,k⟩ 9:=qF e;have u:=zhP (y:=1) g (by omega) (by omega) (by omega);exact zo (zMp<|q<|zB _ _) (zo (zY (by omega))<|d (n-1) _ (by omega) ⟨zM .i64 t 1,_,_,_,rfl,by omega,by omega,zuF _,z8G _ _ (by omega)⟩)};{refine zo (zhW (q<|zB _ _) 8) (zbt (λ_=>zo (zMp<|q<|zb0 _ _) (zo (zMp<|q<|zuF _)<|zo (zhS ?_)<|zby (aS .entry) (zuF _) ?_)) λ_=>zby (aS .entry) (zb0 _ _) (by omega));{simp only [ln,ap,j7,qX,k5];omega};{simp only [ap,j7,qX,k5];omega}}
def z6X:zcT:=[(241,[false,true,true],zAr),(220,[false,true,true],zuf)]++z6W
def zUe:zb2 z6X:=zce zId (by
 intro x a;simp only[qG,qN,or_false]at a;rcases a with rfl|rfl
 .exact zM9
 .exact zEN)
def zJi (b:ak)(a:GAct):ak:=bif ieq a.Kind 1 then ziL b a.G else (cond (ieq a.Kind 2) (chg b a.G (zwU a.X ⟨a.Y,a.Z⟩)<|zDw (gAt b a.G) a.X ⟨a.Y,a.Z⟩)<|cond (ieq a.Kind 3) (chg b a.G (i0 a.X 4)<|zd4 (gAt b a.G) a.X)<|cond (ieq a.Kind 4) (chg b a.G (zwr (gAt b a.G) a.X)<|zyG (gAt b a.G) a.X)<|cond (ieq a.Kind 5) (chg b a.G (zC3<|gAt b a.G)<|zzx<|gAt b a.G)<|cond (ieq a.Kind 6) (chg b a.G (zhY (gAt b a.G).ai a.X)<|zoq (gAt b a.G) a.X)<|cond (ieq a.Kind 7) (chg b a.G (zlV ⟨a.X,a.Y,ieq a.Z 1⟩)<|zMk (gAt b a.G) ⟨a.X,a.Y,ieq a.Z 1⟩)<|cond (ieq a.Kind 8) (zRP b a.X a.Y a.Z)<|cond (ieq a.Kind 9) (zkV b a.X)<|cond (ieq a.Kind 10) (zno b)<|cond (ieq a.Kind 11) (zYm b a.G a.X a.Y)<|b)
def zJj (b:ak)(a:GAct):aF:=bif ieq a.Kind 1 then ⟨zlT b a.G,0⟩ else (cond (ieq a.Kind 2) ⟨zcl b a.G<|zwU a.X ⟨a.Y,a.Z⟩,0⟩<|cond (ieq a.Kind 3) ⟨zcl b a.G<|i0 a.X 4,0⟩<|cond (ieq a.Kind 4) ⟨zcl b a.G<|zwr (gAt b a.G) a.X,0⟩<|cond (ieq a.Kind 5) ⟨zcl b a.G<|zC3<|gAt b a.G,0⟩<|cond (ieq a.Kind 6) ⟨zcl b a.G<|zhY (gAt b a.G).ai a.X,0⟩<|cond (ieq a.Kind 7) ⟨zcl b a.G<|zlV ⟨a.X,a.Y,ieq a.Z 1⟩,0⟩<|cond (ieq a.Kind 8) ⟨zxG b a.X a.Y a.Z,0⟩<|cond (ieq a.Kind 9) ⟨zf8 b a.X,0⟩<|cond (ieq a.Kind 10) ⟨zm5 b,ztA b⟩<|cond (ieq a.Kind 11) ⟨zyX b a.G a.X a.Y,0⟩<|⟨zoj b a.G a.X 1,zRT b a.G a.X⟩)
def zJk (l:List ak)(a:GAct):List ak:=bif zl a.Kind 1 17 then (cond (zl a.Kind 13 17) l<|cond (i0 a.M<|ln l) (up l a.M<|zJi (ix l a.M ziJ) a) l) else l
def zXY (l:List ak)(a:GAct):aF:=bif zl a.Kind 1 17 then (cond (zl a.Kind 13 17) ⟨false,0⟩<|cond (i0 a.M<|ln l) (zJj (ix l a.M ziJ) a)<|cond (ieq a.Kind 10) ⟨false,-1⟩ ⟨false,0⟩) else ⟨false,0⟩
def zF {i n:Int}:i0 i n=true↔0<=i/\i<n:=by unfold i0;exact decide_eq_true_iff
def zcU {x a b:Int}:zl x a b=true↔a<=x/\x<=b:=by simp[zl,ige,ile]
def zbu {x y:Int}:ieq x y=true↔x=y:=by simp[ieq]
def zD4 {x y:Int}:ine x y=true↔x≠y:=by simp[ine]
def zbY {x y:Int}:ieq x y=false↔x≠y:=by simp[ieq]
def zcb {a b:Bool}:(cond a b false)=true↔a=true/\b=true:=by cases a<;>simp
def zbR {a:Type}(l:List a)(i:Int)(x:a):(up l i x).length=l.length:=by simp[up]
def zdQ {a:Type}(l:List a)(i:Int)(x:a):ln (up l i x)=ln l:=by simp[up,ln]
def zzf {a:Type}{l:List a}{i:Int}(h:i0 i (ln l)=true)(d:a):∃k:Nat,∃b:k<l.length,i=(k:Int)/\ix l i d=l[k]:=by rw[zF]at h;unfold ln at h;refine⟨i.toNat,by omega,by omega,?_⟩;simp[ix,List.getD,qB (show i.toNat<l.length by omega)]
def zmD {a:Type}{l:List a}{k:Nat}(h:k<l.length)(d:a):ix l (k:Int) d=l[k]:=by simp[ix,List.getD,qB h]
def zl1 {a:Type}{l:List a}{i:Int}(h:i0 i (ln l)=true)(d:a):ix l i d∈l:=by obtain⟨k,b,_,e⟩:=zzf h d;rw[e];exact jM b
def zCV {a:Type}{l:List a}{x:a}(h:x∈l)(d:a):∃i,i0 i (ln l)=true/\ix l i d=x:=by obtain⟨k,b,e⟩:=List.mem_iff_getElem.1 h;exact⟨(k:Int),zF.2 (by unfold ln;omega),(zmD b d).trans e⟩
def zbg {a:Type}{l:List a}{i:Int}(h:i0 i (ln l)=true)(x d:a):ix (up l i x) i d=x:=by rw[zF]at h;unfold ln at h;simp[ix,up,List.getD,show i.toNat<l.length by omega]
def zbv {a:Type}{l:List a}{i j:Int}(b:0<=i)(c:0<=j)(h:i≠j)(x d:a):ix (up l i x) j d=ix l j d:=by have:i.toNat≠j.toNat:=(by omega);simp[ix,up,List.getD,q9,this]
def z2N {a:Type}(l:List a)(i:Int)(x y:a):up (up l i x) i y=up l i y:=by simp[up]
def zNT {a:Type}{l m:List a}(d:a)(h:l.length=m.length)(e:∀i,i0 i (ln l)=true->ix l i d=ix m i d):l=m:=by refine List.ext_getElem h λk b c=>?_;have:=e (k:Int) (zF.2 (by unfold ln;omega));rwa [zmD b,zmD c] at this
def zIB {a:Type}{l:List a}{i:Int}(h:i0 i (ln l)=true)(d:a):up l i (ix l i d)=l:=by obtain⟨k,b,rfl,e⟩:=zzf h d;rw[e];simp[up]
def cPg (x:Mon)(q:Int):Nat:=x.ae.countP λs=>ieq s.af q
def zfw (l:List Mon)(q:Int):Nat:=(l.map λx=>cPg x q).sum
def zO5 {a:Type}(P:a->Bool){l:List a}{i:Int}(h:i0 i (ln l)=true)(x d:a):(up l i x).countP P+(if P (ix l i d) then 1 else 0)=l.countP P+(if P x then 1 else 0):=by
 obtain⟨k,b,rfl,e⟩:=zzf h d;rw[e];simp only[up,kM,List.countP_set b];have:(if P l[k]=true then 1 else 0)<=l.countP P:=by
  split
  .rename_i hp;exact List.countP_pos_iff.2 ⟨l[k],jM b,hp⟩
  .omega
 omega
def zyl {l:List Mon}{m:Int}(h:i0 m (ln l)=true)(x:Mon)(q:Int):zfw (up l m x) q+cPg (ix l m mZ) q=zfw l q+cPg x q:=by obtain⟨k,a,rfl,e⟩:=zzf h mZ;rw[e];clear h e;unfold up;simp only[kM];induction l generalizing k with|nil=>simp at a|cons y l b=>(cases k with|zero=>simp[zfw];omega|succ k=>have:=b k (by simpa using a);simp[zfw] at this ⊢;omega)
def zGR {l:List Mon}{m p:Int}(a:i0 m (ln l)=true)(b:i0 p (ln (ix l m mZ).ae)=true):1<=zfw l (ix (ix l m mZ).ae p sZ).af:=by have d:1<=cPg (ix l m mZ) (ix (ix l m mZ).ae p sZ).af:=List.countP_pos_iff.2 ⟨_,zl1 b sZ,by simp[ieq]⟩;have:=zyl a (⟨[],[],[],[],[],0,0,[],0⟩:Mon) (ix (ix l m mZ).ae p sZ).af;have c:cPg (⟨[],[],[],[],[],0,0,[],0⟩:Mon) (ix (ix l m mZ).ae p sZ).af=0:=rfl;omega
def z3c {l:List Mon}{m p n k:Int}{q:Int}(b:i0 m (ln l)=true)(v:i0 p (ln (ix l m mZ).ae)=true)(u:i0 n (ln l)=true)(f:i0 k (ln (ix l n mZ).ae)=true)(z:(ix (ix l m mZ).ae p sZ).af=q)(t:(ix (ix l n mZ).ae k sZ).af=q)(h:zfw l q<=1):m=n/\p=k:=by have c:=zF.1 b;have d:=zF.1 u;have i:=zF.1 v;have g:=zF.1 f;have B:¬ ieq q (q+1)=true:=(by simp[ieq];omega);obtain⟨y,r⟩:∃y:Mon,y.ae=up (ix l m mZ).ae p ⟨q+1,0⟩:=⟨{ix l m mZ with ae:=up (ix l m mZ).ae p ⟨q+1,0⟩},rfl⟩;have x:=zO5 (λs=>ieq s.af q) v (⟨q+1,0⟩:k0) sZ;simp only[z,show ieq q q=true by simp[ieq],show ieq (q+1) q=false by simp[ieq];omega,if_true,kL,if_false] at x;have C:=zyl b y q;simp only[cPg,r] at C;have D:zfw (up l m y) q=0:=(by omega);apply Classical.byContradiction;intro A;have w:1<=zfw (up l m y) q:=(by by_cases a:m=n;{subst a;have j:p≠k:=λe=>A ⟨rfl,e⟩;have:=zGR (l:=up l m y) (m:=m) (p:=k) (by rw[zdQ];exact b) (by rw[zbg b,r,zdQ];exact f);rw[zbg b,r,zbv i.1 g.1 j,t] at this;exact this};{have:=zGR (l:=up l m y) (m:=n) (p:=k) (by rw[zdQ];exact u) (by rw[zbv c.1 d.1 a];exact f);rw[zbv c.1 d.1 a,t] at this;exact this});omega
def ztC {a b c:Bool}:(cond a b c)=true↔(a=true/\b=true)\/(a=false/\c=true):=by cases a<;>simp
def SOk (s:k0):Prop:=s=z0\/(0<=s.af/\s.af<=11/\1<=s.aj/\s.aj<=3)
def zUH {a b:k0}(c:a.af=b.af)(d:a.aj=b.aj):a=b:=by cases a;cases b;simp_all
def zpv {a b:k0}:zdh a b=true↔a=b:=by simp only[zdh,qE,zbu];exact⟨λh=>zUH h.1 h.2,λh=>by rw[h];exact⟨rfl,rfl⟩⟩
def zr3 {a b:k0}:zdh a b=false↔a≠b:=by rw[<- Bool.not_eq_true,zpv]
def zXv {s:k0}:zeM s 12=true↔SOk s:=by unfold zeM SOk;rw[ztC,zpv,zr3];have:wsub .i64 12 1=11:=(by decide);simp only[this,ztC,zcU];simp[igt];constructor;{rintro (h|⟨h,⟨a,b⟩,c⟩);{exact .inl h};{exact .inr ⟨a,b,c⟩}};{intro h;by_cases d:s=z0;{exact .inl d};{rcases h with h|⟨a,b,c⟩;{exact .inl h};{exact .inr ⟨d,⟨a,b⟩,c⟩}}}
def SOk.none {s:k0}(h:SOk s)(a:s.af = -1):s=z0:=by rcases h with h|h;{exact h};{omega}
def SOk.pos {s:k0}(h:SOk s)(a:s.af≠-1):0<=s.af/\s.af<=11/\1<=s.aj/\s.aj<=3:=by rcases h with h|h;{rw [h]at a;exact absurd rfl a};{exact h}
structure MOk (x:Mon):Prop where
 g1:1<=x.ac.length
 g2:x.ac.length<=2
 gt:x.am.length=x.ac.length
 o8:x.ae.length=8
 sl:∀s∈x.ae,SOk s
 u8:x.Out.length=8
 d8:x.au.length=8
 outs:x.Outs.length<=40
 pend:zdz x.ai=true
 tr:zl x.aq 0 3=true
 own:zl x.Own 0 1000000000=true
 gs:∀g∈x.ac,ze0 g=true
 fit:∀p,i0 p 8=true->znU (ix x.ae p sZ) (ix x.Out p [])=true
def zR7 {P:Nat->Bool}:∀{n i:Nat},zpM P n i=true↔∀j,i<=j->j<i+n->P j=true
 | 0,i=>by simp[zpM];intro j a b;omega
 |n+1,i=>by rw[zpM,qE,zR7];constructor;{rintro⟨a,b⟩ j c d;by_cases e:j=i;{rw [e];exact a};{exact b j (by omega) (by omega)}};{intro h;exact⟨h i (by omega) (by omega),λj a b=>h j (by omega) (by omega)⟩}
def zrv {t:List k0}{n p:Int}:zdy t n p=true↔(∀s∈t,zeM s p=true)/\ln t=n:=by unfold zdy;rw[zcb,qO,zbu]
def z8r {x:Mon}:zfT x=true↔MOk x:=by unfold zfT;simp only[zcb,zcU,zbu,zrv,zR7,qO,ile,jA];constructor;{rintro⟨⟨g,i⟩,m,⟨k,l⟩,n,q,r,e,a,b,c,d⟩;unfold ln at *;refine⟨by omega,by omega,by omega,by omega,λs f=>zXv.1 (k s f),by omega,by omega,by omega,e,zcU.2 a,zcU.2 b,c,λp t=>?_⟩;have u:=zF.1 t;have:=d p.toNat (by omega) (by omega);unfold fits at this;rwa [show ((p.toNat:Nat):Int)=p by omega] at this};{intro h;obtain⟨g,i,m,k,l,n,q,r,e,a,b,c,d⟩:=h;unfold ln;exact⟨⟨by omega,by omega⟩,by omega,⟨λs f=>zXv.2 (l s f),by omega⟩,by omega,by omega,by omega,e,zcU.1 a,zcU.1 b,c,λj g i=>d (j:Int) (zF.2 (by omega))⟩}
def zyM (o:List k0)(s:k0)(q:Int):(s::o).countP (λs=>ieq s.af q)=o.countP (λs=>ieq s.af q)+if s.af=q then 1 else 0:=by rw[vM];simp[ieq]
def zzS:∀{o:List k0} {u:List Bool},(∀s∈o,s.af<u.length)->
 (∀c,zia o u=some c↔(∀q,0<=q->o.countP (λs=>ieq s.af q)+(if ix u q false then 1 else 0)<=1)/\
  c=(o.foldl (λu s=>bif ilt s.af 0 then u else up u s.af true) u))
 |[],u,h,c=>by simp[zia];exact⟨λh=>⟨λq _=>by split<;>omega,h.symm⟩,λh=>h.2.symm⟩
 |s::o,u,h,c=>by
  unfold zia;by_cases g:s.af<0;{have b:ilt s.af 0=true:=qM g;rw[b,cond_true,zzS λy d=>h y (q0 _ d)];simp only[uQ,b,cond_true];refine and_congr (forall_congr' λq=>forall_congr' λf=>?_) Iff.rfl;have e:(if s.af=q then 1 else 0)=0:=if_neg (by omega);rw[zyM,e,j8]};{have b:ilt s.af 0=false:=qT g;have k:=h s jF;have j:i0 s.af (ln u)=true:=zF.2 ⟨by omega,by unfold ln;omega⟩;rw[b,cond_false];cases i:ix u s.af false with|true=>rw[cond_true];constructor;{intro h;cases h};{rintro⟨h,_⟩;have:=h s.af (by omega);rw[zyM,if_pos rfl,i] at this;simp at this}|false=>rw[cond_false,zzS (λy d=>by rw[zbR];exact h y (q0 _ d))];simp only[uQ,b,cond_false];refine and_congr (forall_congr' λq=>forall_congr' λf=>?_) Iff.rfl;rw[zyM];by_cases a:s.af=q;{subst a;rw[zbg j,i];simp};{rw [zbv (by omega) f a,if_neg a,j8]}}
def zIC:∀(o:List k0) (u:List Bool),(o.foldl (λu s=>bif ilt s.af 0 then u else up u s.af true) u).length=u.length
 |[],u=>rfl
 |s::o,u=>by rw[uQ,zIC];cases ilt s.af 0<;>simp [zbR]
def zOA:∀(o:List k0) (u:List Bool) (q:Int),0<=q->(∀s∈o,s.af<u.length)->(ix (o.foldl (λu s=>bif ilt s.af 0 then u else up u s.af true) u) q false=true↔ix u q false=true\/1<=o.countP λs=>ieq s.af q)
 |[],u,q,b,h=>by simp
 |s::o,u,q,b,h=>by
  rw[uQ,zOA _ _ q b (λy f=>by have:=h y (q0 _ f);cases ilt s.af 0<;>simpa [zbR] using this),zyM];by_cases c:s.af<0;{rw [show ilt s.af 0=true from qM c,cond_true,if_neg (by omega),j8]};{rw [show ilt s.af 0=false from qT c,cond_false];have e:=h s jF;have d:i0 s.af (ln u)=true:=zF.2 ⟨by omega,by unfold ln;omega⟩;by_cases a:s.af=q;{subst a;rw[zbg d];simp};{rw [zbv (by omega) b a,if_neg a,j8]}}
def zza:∀{l:List Mon} {u:List Bool},u.length=12->(zlf l u=true↔(∀x∈l,MOk x)/\∀q,0<=q->zfw l q+(if l≠[]/\ix u q false then 1 else 0)<=1)
 |[],u,c=>by simp[zlf,zfw]
 |x::l,u,c=>by
  unfold zlf;rw[zcb,z8r];constructor;{rintro⟨f,b⟩;have k:∀s∈x.ae,s.af<u.length:=λs n=>(by rcases f.sl s n with h|h;{rw [h,c];decide};{rw [c];omega});split at b;{rename_i B d;obtain⟨g,rfl⟩:=(zzS k B).1 d;rw[zza (by rw[zIC,c])]at b;obtain⟨v,w⟩:=b;refine⟨by simpa using ⟨f,v⟩,λq a=>?_⟩;have z:=g q a;have i:=w q a;have m:=zOA x.ae u q a k;simp only[zfw,jC,uP]at i ⊢;unfold cPg at i ⊢;simp only[ne_eq,reduceCtorEq,not_false_eq_true,true_and];by_cases r:l=[];{subst r;simpa using z};{simp only [r,ne_eq,not_false_eq_true,true_and]at i;by_cases j:ix (x.ae.foldl (λu s=>bif ilt s.af 0 then u else up u s.af true) u) q false=true;{rw [if_pos j]at i;omega};{rw [if_neg j]at i;have p:¬ (ix u q false=true\/1<=x.ae.countP λs=>ieq s.af q):=λe=>j (m.2 e);rw[not_or]at p;rw[if_neg p.1];omega}}};{cases b}}
  .rintro⟨f,b⟩;have t:MOk x:=f x jF;refine⟨t,?_⟩;have k:∀s∈x.ae,s.af<u.length:=λs n=>by rcases t.sl s n with h|h;{rw [h,c];decide};{rw [c];omega}
   have d:=(zzS k _).2 ⟨λq a=>by
    have:=b q a;simp only[zfw,jC,uP,ne_eq,reduceCtorEq,not_false_eq_true,true_and] at this;unfold cPg at this;omega,rfl⟩
   rw[d];simp only;rw[zza (by rw[zIC,c])];refine⟨λy A=>f y (q0 _ A),λq a=>?_⟩;have g:=b q a;have m:=zOA x.ae u q a k;simp only[zfw,jC,uP,ne_eq,reduceCtorEq,not_false_eq_true,true_and]at g ⊢;unfold cPg at g ⊢;split;{rename_i j;rcases m.1 j.2 with h|h;{rw [if_pos h]at g;omega};{omega}};{omega}
structure HOk (h:ad):Prop where
 m12:h.ag.length=12
 pgs:∀c∈h.ag,zcK c=true
 n1:1<=h.aa.length
 n3:h.aa.length<=3
 b1:zgk h.ao=true
 b2:zgk h.an=true
 mons:∀x∈h.aa,MOk x
 uq:∀q,0<=q->zfw h.aa q<=1
def zkA {h:ad}:zcj h=true↔HOk h:=by unfold zcj zl3;simp only[zcb,zcU,zbu,qO];rw[zza (by simp[rp])];have g:∀q,ix (rp 12 false) q false=false:=λq=>(by unfold ix rp;rw[kG,kB];split<;>rfl);simp only[g,kL,and_false,if_false,j8];unfold ln;constructor;{rintro⟨⟨e,f⟩,⟨i,j⟩,a,b,c,d⟩;exact⟨by omega,e,by omega,by omega,a,b,c,d⟩};{rintro⟨e,f,i,j,a,b,c,d⟩;exact⟨⟨f,by omega⟩,⟨by omega,by omega⟩,a,b,c,d⟩}
def HOk.mon {h:ad}(H:HOk h){m:Int}(a:i0 m (ln h.aa)=true):MOk (ix h.aa m mZ):=H.mons _ (zl1 a _)
def MOk.hasO {x:Mon}(H:MOk x){p:Int}(a:i0 p 8=true):i0 p (ln x.ae)=true:=by rw[ln,H.o8];exact a
def MOk.hasU {x:Mon}(H:MOk x){p:Int}(a:i0 p 8=true):i0 p (ln x.Out)=true:=by rw[ln,H.u8];exact a
def MOk.hasD {x:Mon}(H:MOk x){p:Int}(a:i0 p 8=true):i0 p (ln x.au)=true:=by rw[ln,H.d8];exact a
def MOk.slot {x:Mon}(H:MOk x){p:Int}(a:i0 p 8=true):SOk (ix x.ae p sZ):=H.sl _ (zl1 (H.hasO a) _)
def HOk.uniq {h:ad}(H:HOk h){m p n k q:Int}(a:i0 m (ln h.aa)=true)(f:i0 p 8=true)(b:i0 n (ln h.aa)=true)(e:i0 k 8=true)(c:(ix (ix h.aa m mZ).ae p sZ).af=q)(d:(ix (ix h.aa n mZ).ae k sZ).af=q)(g:0<=q):m=n/\p=k :=
 z3c a ((H.mon a).hasO f) b ((H.mon b).hasO e) c d (H.uq q g)
def HOk.up {h:ad}(H:HOk h){m:Int}(k:i0 m (ln h.aa)=true){x:Mon}(l:MOk x){a:ad}(e:a.aa=up h.aa m x)(d:a.ag.length=12)(f:∀c∈a.ag,zcK c=true)(i:zgk a.ao=true)(j:zgk a.an=true)(n:∀q,0<=q->cPg x q<=cPg (ix h.aa m mZ) q\/zfw h.aa q=0/\cPg x q<=1):HOk a:=by refine⟨d,f,by rw[e,zbR];exact H.n1,by rw[e,zbR];exact H.n3,i,j,λy b=>?_,λq g=>?_⟩;{rw [e]at b;unfold E.up at b;rcases qY b with h|h;{exact H.mons y h};{rw [h];exact l}};{rw [e];have p:=zyl k x q;have r:=H.uq q g;have s:=n q g;omega}
structure KOk (k:az) (inner outer:List k0):Prop where
 l1:k.ay.length=inner.length
 l2:k.aC.length=inner.length
 at':∀i,i0 i (ln inner)=true->ix k.aC i sZ=bif ix k.ay i false then zbA (ix inner i sZ) outer else z0
def TOk (x:Mon):Prop:=∀g,i0 g (ln x.ac)=true->KOk (ix x.am g kZ) (ix x.ac g gZ).aw x.ae
structure Rt (h:ad):Prop where
 t:∀m,i0 m (ln h.aa)=true->TOk (ix h.aa m mZ)
 e1:∀e∈h.ao,zc7 h e=true
 e2:∀e∈h.an,zc7 h e=true
structure Safe (h:ad):Prop where
 ok:HOk h
 rt:Rt h
def zrz {a b:k0}:below' a b=true↔a=z0\/(a.af=b.af/\enough b.aj a.aj=true):=by unfold below';rw[ztC,zpv,zr3,zcb,zbu];by_cases h:a=z0<;>simp [h]
def z2P (x:Int):wand .i64 0 x=0:=by unfold wand;have:(BitVec.ofInt 64 0 &&& BitVec.ofInt 64 x)=0#64:=(by rw[show BitVec.ofInt 64 0=0#64 from rfl,BitVec.zero_and]);show IntKind.wrap .i64 ((BitVec.ofInt 64 0 &&& BitVec.ofInt 64 x).toNat:Int)=0;rw[this];rfl
def z3b {a:k0}(h:below' a z0=true):a=z0:=by rcases zrz.1 h with h|⟨c,b⟩;{exact h};{refine zUH c ?_;unfold enough at b;rw[show z0.aj=0 from rfl,z2P]at b;simp only[zcb,zbu]at b;exact b.2.2.symm}
def zgc {h:ad}{e:ar}:zc7 h e=true↔i0 (zdA e.Tag) (ln h.aa)=true/\i0 (zev e.Tag) (ln (ix h.aa (zdA e.Tag) mZ).ac)=true/\
 below' ⟨e.ad,e.aj⟩ (zbA (zbB (ix (ix h.aa (zdA e.Tag) mZ).ac (zev e.Tag) gZ).aw e.af) (ix h.aa (zdA e.Tag) mZ).ae)=true:=by
 unfold zc7;rw[zcb,zcb]
def zP5 {o:List k0}{p q:Int}{s:k0}(a:0<=p)(h:q≠p):zbB (up o p s) q=zbB o q:=by unfold zbB;rw[zdQ];cases b:i0 q (ln o) with|false=>rfl|true=>rw[cond_true,cond_true,zbv a (zF.1 b).1<|Ne.symm h]
def zJu {s:k0}{o:List k0}{p:Int}{t:k0}(a:0<=p)(h:s.af≠p):zbA s (up o p t)=zbA s o:=by unfold zbA;rw[zP5 a h]
def zX2 {s:k0}{o:List k0}:zbA s o=z0\/(zbA s o).af=(zbB o s.af).af:=by unfold zbA;cases ieq s.af (-1)<;>cases ieq (zbB o s.af).af (-1)<;>cases ieq (zef s.aj (zbB o s.af).aj) 0<;>simp
def zld (k:az)(q:Int):(zbX k q).ay.length=k.ay.length/\(zbX k q).aC.length=k.aC.length:=by unfold zbX;cases zdJ k q<;>simp [zbR]
def zAh:∀(l:LI) (k:az),(zeT k l).ay.length=k.ay.length/\(zeT k l).aC.length=k.aC.length
 |[],k=>⟨rfl,rfl⟩
 |q::l,k=>by have a:=zAh l (zbX k q);have b:=zld k q;exact⟨a.1.trans b.1,a.2.trans b.2⟩
def zww {k:az}{q i:Int}(d:k.ay.length=k.aC.length)(b:i0 i (ln k.ay)=true) :
 ix (zbX k q).ay i false=(cond (ieq q i) false<|ix k.ay i false)/\ix (zbX k q).aC i sZ=(cond (ieq q i) z0<|ix k.aC i sZ):=by
 have c:i0 i (ln k.aC)=true:=by unfold ln at b ⊢;rwa [<- d]
 unfold zbX zdJ
 by_cases e:q=i
 .subst e;simp only[b,c,cond_true,ieq,beq_self_eq_true];exact⟨zbg b _ _,zbg c _ _⟩
 .rw [show ieq q i=false from zbY.2 e]
  by_cases a:i0 q (ln k.ay)=true
  .have hq':i0 q (ln k.aC)=true:=by unfold ln at a ⊢;rwa [<- d]
   simp only[a,hq',cond_true,cond_false];exact⟨zbv (zF.1 a).1 (zF.1 b).1 e _ _,zbv (zF.1 a).1 (zF.1 b).1 e _ _⟩
  .rw [Bool.not_eq_true]at a;simp[a]
def zCm:∀(l:LI) {k:az} {i:Int},k.ay.length=k.aC.length->i0 i (ln k.ay)=true->
 (i∈l->ix (zeT k l).ay i false=false/\ix (zeT k l).aC i sZ=z0)/\
 (i∉l->ix (zeT k l).ay i false=ix k.ay i false/\ix (zeT k l).aC i sZ=ix k.aC i sZ)
 |[],k,i,d,c=>⟨λh=>by simp at h,λ_=>⟨rfl,rfl⟩⟩
 |q::l,k,i,d,c=>by have b:=zld k q;have g:=zww (q:=q) d c;have f:=zCm l (k:=zbX k q) (i:=i) (by rw[b.1,b.2,d]) (by unfold ln at c ⊢;rwa [b.1]);show (_->ix (zeT (zbX k q) l).ay i false=_/\ix (zeT (zbX k q) l).aC i sZ=_)/\(_->ix (zeT (zbX k q) l).ay i false=_/\ix (zeT (zbX k q) l).aC i sZ=_);by_cases a:i∈l;{refine⟨λ_=>f.1 a,λh=>absurd (q0 _ a) h⟩};{rw [(f.2 a).1,(f.2 a).2,g.1,g.2];by_cases e:q=i;{subst e;simp[ieq]};{rw [zbY.2 e];simp[a,Ne.symm e]}}
def zHN {e:Type}{P:e->Bool}{d:e}:∀{l:List e} {n:Nat} {i:Int},i∈idxs P l n↔∃k:Nat,∃h:k<l.length,i=((n+k:Nat):Int)/\P l[k]=true
 |[],n,i=>by simp[idxs]
 |x::l,n,i=>by
  have g:=@zHN e P d l (n+1) i;unfold idxs;constructor
  .intro h;cases f:P x with
   |true=>rw[f,cond_true,qG]at h;rcases h with h|h;{exact⟨0,by simp,by simpa using h,f⟩};{obtain⟨k,c,b,a⟩:=g.1 h;exact⟨k+1,by simpa using c,by rw[b];congr 1;omega,by simpa using a⟩}
   |false=>rw[f,cond_false]at h;obtain⟨k,c,b,a⟩:=g.1 h;exact⟨k+1,by simpa using c,by rw[b];congr 1;omega,by simpa using a⟩
  {rintro⟨k,c,b,a⟩;cases k with|zero=>simp only[List.getElem_cons_zero]at a;rw[a,cond_true,b];exact jF|succ k=>have:=g.2 ⟨k,by simpa using c,by rw[b];congr 1;omega,by simpa using a⟩;cases P x;{exact this};{exact q0 _ this}}
def zVq {l:List k0}{p i:Int}:i∈zDJ l p↔i0 i (ln l)=true/\(ix l i sZ).af=p:=by unfold zDJ;rw[zHN (d:=sZ)];constructor;{rintro⟨k,a,rfl,c⟩;rw[jW,zmD a];exact⟨zF.2 (by unfold ln;omega),zbu.1 c⟩};{rintro⟨a,b⟩;obtain⟨k,f,rfl,e⟩:=zzf a sZ;exact⟨k,f,by simp,by rw[e]at b;exact zbu.2 b⟩}
def zYJ {k:az}{a b:List k0}(h:KOk k a b){p:Int}(j:0<=p)(s:k0):KOk (zjM k a p) a (up b p s):=by have g:=zAh (zDJ a p) k;refine⟨g.1.trans h.l1,g.2.trans h.l2,λi d=>?_⟩;have e:i0 i (ln k.ay)=true:=(by unfold ln at d ⊢;rwa [h.l1]);have f:=zCm (zDJ a p) (by rw[h.l1,h.l2]) e;unfold zjM;by_cases c:(ix a i sZ).af=p;{have:=f.1 (zVq.2 ⟨d,c⟩);rw[this.1,this.2];rfl};{have:=f.2 (λh=>c (zVq.1 h).2);rw[this.1,this.2,h.at' i d,zJu j c]}
def zDD (b:List ah)(p:Int):∀(n:Nat) (a:List az),(zlN b p n a).length=a.length
 | 0,a=>rfl
 |n+1,a=>by rw[zlN,zbR,zDD b p n]
def zOh (b:List ah)(p:Int):∀(n:Nat) (a:List az),n<=a.length->∀i,0<=i->ix (zlN b p n a) i kZ=if i<n then zjM (ix a i kZ) (ix b i gZ).aw p else ix a i kZ
 | 0,a,_,i,c=>by rw[if_neg (by omega)];rfl
 |n+1,a,d,i,c=>by rw[zlN];by_cases e:i=n;{subst e;rw[zbg (by rw[ln,zDD];exact zF.2 (by omega)),if_pos (by omega),zOh b p n a (by omega) _ c,if_neg (by omega)]};{rw [zbv (by omega) c<|Ne.symm e,zOh b p n a (by omega) i c];by_cases h:i<n;{rw [if_pos h,if_pos (by omega)]};{rw [if_neg h,if_neg (by omega)]}}
def zj9 (x:Mon)(p:Int)(s:k0):Mon:={zkR x p x.am.length with ae:=up x.ae p s}
def z2x {x:Mon}(h:TOk x)(c:x.am.length=x.ac.length){p:Int}(b:0<=p)(s:k0):TOk (zj9 x p s):=by intro g hg;have a:i0 g (ln x.ac)=true:=hg;show KOk (ix (zlN x.ac p x.am.length x.am) g kZ) (ix x.ac g gZ).aw (up x.ae p s);rw[zOh _ _ _ _ (qW _) _ (zF.1 a).1,if_pos (by have:=zF.1 a;unfold ln at this;omega)];exact zYJ (h g a) b s
def zsz (h:ad)(m p:Int)(s:k0):(zcq h m p s).aa=up h.aa m (zj9 (ix h.aa m mZ) p s):=by unfold zcq;cases ine (ix (ix h.aa m zi).ae p zbe).af (-1)<;>rfl
def zwW (h:ad)(m p:Int)(s:k0):(zcq h m p s).ag=h.ag:=by unfold zcq;cases ine (ix (ix h.aa m zi).ae p zbe).af (-1)<;>rfl
def zP7 (h:ad)(m p:Int)(s:k0):(zcq h m p s).ao=(cond (ieq (ix (ix h.aa m mZ).ae p sZ).af<|-1) h.ao<|flushed h.ao (ix (ix h.aa m mZ).ae p sZ).af)/\
 (zcq h m p s).an=(cond (ieq (ix (ix h.aa m mZ).ae p sZ).af<|-1) h.an<|flushed h.an (ix (ix h.aa m mZ).ae p sZ).af):=by
 unfold zcq
 by_cases e:(ix (ix h.aa m zi).ae p zbe).af = -1
 .rw [show ine (ix (ix h.aa m zi).ae p zbe).af (-1)=false by simp[ine,e],show ieq (ix (ix h.aa m mZ).ae p sZ).af (-1)=true from zbu.2 e]
  exact⟨rfl,rfl⟩
 .rw [show ine (ix (ix h.aa m zi).ae p zbe).af (-1)=true from zD4.2 e,show ieq (ix (ix h.aa m mZ).ae p sZ).af (-1)=false from zbY.2 e]
  exact⟨rfl,rfl⟩
def zJz {h k:ad}{m p:Int}{s:k0}(n:i0 m (ln h.aa)=true)(q:i0 p (ln (ix h.aa m mZ).ae)=true){x:Mon}(u:k.aa=up h.aa m x)(t:x.ac=(ix h.aa m mZ).ac)(v:x.ae=up (ix h.aa m mZ).ae p s){e:ar}(w:zc7 h e=true)(c:(ix (ix h.aa m mZ).ae p sZ).af = -1\/e.ad≠(ix (ix h.aa m mZ).ae p sZ).af):zc7 k e=true:=by obtain⟨f,g,b⟩:=zgc.1 w;rw[zgc,u,zdQ];refine⟨f,?_⟩;by_cases l:m=zdA e.Tag;{rw [<- l]at f g b ⊢;rw[zbg n,t,v];refine⟨g,?_⟩;by_cases j:(zbB (ix (ix h.aa m mZ).ac (zev e.Tag) gZ).aw e.af).af=p;{have a:zbA (zbB (ix (ix h.aa m mZ).ac (zev e.Tag) gZ).aw e.af) (ix h.aa m mZ).ae=z0\/e.ad≠(zbA (zbB (ix (ix h.aa m mZ).ac (zev e.Tag) gZ).aw e.af) (ix h.aa m mZ).ae).af:=(by rcases zX2 (s:=zbB (ix (ix h.aa m mZ).ac (zev e.Tag) gZ).aw e.af) (o:=(ix h.aa m mZ).ae) with d|d;{exact .inl d};{rw [j]at d;have r:zbB (ix h.aa m mZ).ae p=ix (ix h.aa m mZ).ae p sZ:=(by unfold zbB;rw[q];rfl);rw[r]at d;rcases c with c|c;{left;unfold zbA;rw[j,r,c,show ieq (-1) (-1)=true from rfl];cases ieq p (-1)<;>rfl};{exact .inr (by rw[d];exact c)}});have i:(⟨e.ad,e.aj⟩:k0)=z0:=(by rcases a with a|a;{rw [a]at b;exact z3b b};{rcases zrz.1 b with h|h;{exact h};{exact absurd h.1 a}});rw[i];exact zrz.2 (.inl rfl)};{rw [zJu (zF.1 q).1 j];exact b}};{rw [zbv (zF.1 n).1 (zF.1 f).1 l];exact⟨g,b⟩}
def zzy {h:ad}(H:Rt h){m p:Int}(d:i0 m (ln h.aa)=true)(q:i0 p (ln (ix h.aa m mZ).ae)=true)(u:(ix h.aa m mZ).am.length=(ix h.aa m mZ).ac.length)(s:k0):Rt (zcq h m p s):=by have c:=zP7 h m p s;have i:=zsz h m p s;have f:∀(b:List ar),(∀e∈b,zc7 h e=true)->∀e∈(cond (ieq (ix (ix h.aa m mZ).ae p sZ).af<|-1) b<|flushed b (ix (ix h.aa m mZ).ae p sZ).af),zc7 (zcq h m p s) e=true:=(by intro b c e a;by_cases n:(ix (ix h.aa m mZ).ae p sZ).af = -1;{rw [zbu.2 n,cond_true]at a;exact zJz d q i rfl rfl (c e a) (.inl n)};{rw [zbY.2 n,cond_false]at a;obtain⟨j,l⟩:=List.mem_filter.1 a;exact zJz d q i rfl rfl (c e j) (.inr (by simpa [ieq] using l))});refine⟨λk g=>?_,λe a=>f _ H.e1 e (by rwa [c.1]at a),λe a=>f _ H.e2 e (by rwa [c.2]at a)⟩;rw[i]at g ⊢;rw[zdQ]at g;by_cases r:m=k;{subst r;rw[zbg d];exact z2x (H.t m d) u (zF.1 q).1 s};{rw [zbv (zF.1 d).1 (zF.1 g).1 r];exact H.t k g}
def zOY:∀(l a:List ar),allI (alone<|a++l) l a.length=true↔(∀x∈l,∀y∈a,sameKey x y=false)/\l.Pairwise (λy x=>sameKey x y=false)
 |[],a=>by simp[allI]
 |x::l,a=>by have g:=zOY l (a++[x]);rw[kI,List.singleton_append,j7,uI] at g;rw[allI,qE,g,List.pairwise_cons];have h:alone (a++x::l) a.length x=true↔∀y∈a,sameKey x y=false:=(by unfold alone;rw[kN rfl,qO];simp);rw[h];constructor;{rintro⟨d,e,f⟩;refine⟨λz c y b=>?_,λz c=>e z c x (by simp),f⟩;rcases qG.1 c with rfl|c;{exact d y b};{exact e z c y (by simp[b])}};{rintro⟨d,e,f⟩;refine⟨λy b=>d x (by simp) y b,λz c y b=>?_,f⟩;rcases jH.1 b with b|b;{exact d z (by simp[c]) y b};{rw [qD.1 b];exact e z c}}
def zDO {l:List ar}:zgk l=true↔l.Pairwise (λy x=>sameKey x y=false)/\l.length<=6:=by unfold zgk;have:=zOY l [];simp only[jS,k5] at this;have a:ile (ln l) 6=true↔l.length<=6:=(by rw[ile,jA,ln];omega);rw[zcb,this,a];simp
def zyL {l:List ar}(h:zgk l=true)(P:ar->Bool):zgk (l.filter P)=true:=by rw[zDO]at h ⊢;exact⟨h.1.sublist List.filter_sublist,qS (uJ _ _) h.2⟩
def zFO {l:List ar}(h:zgk l=true)(p:Int):zgk (flushed l p)=true:=zyL h _
def zSh {x x':Mon}{p:Int}(a:i0 p (ln x.ae)=true){s:k0}(h:x'.ae=up x.ae p s)(q:Int):cPg x' q+(if (ix x.ae p sZ).af=q then 1 else 0)=cPg x q+(if s.af=q then 1 else 0):=by have:=zO5 (λs=>ieq s.af q) a s sZ;simp only[zbu] at this;unfold cPg;rw[h];exact this
def zpW {s:k0}(d:SOk s){c:LI}:znU s c=true↔(s.af = -1->zcK c=true)/\(s.af≠-1->enough s.aj 1=true/\c=[]):=by unfold znU;by_cases e:s=z0;{rw [zpv.2 e,cond_true,e];simp[z0]};{rw [zr3.2 e,cond_false,zcb];have:s.af≠-1:=λh=>e (d.none h);have b:ile (ln c) 0=true↔c=[]:=(by rw[ile,jA,ln,<- uY];omega);rw[b];exact⟨λh=>⟨λa=>absurd a this,λ_=>h⟩,λh=>h.2 this⟩}
structure Chg (x x':Mon) (p:Int) (s:k0) (c:List Int):Prop where
 o:x'.ae=up x.ae p s
 u:x'.Out=up x.Out p c
 g:x'.ac=x.ac
 t:x'.am.length=x.am.length
 d:x'.au.length=x.au.length
 a1:x'.Outs=x.Outs
 a2:x'.ai=x.ai
 a3:x'.aq=x.aq
 a4:x'.Own=x.Own
def MOk.chg {x i:Mon}(H:MOk x){p:Int}(a:i0 p 8=true){s:k0}{c:LI}(k:Chg x i p s c)(l:SOk s)(j:znU s c=true):MOk i:=by refine⟨by rw[k.g];exact H.g1,by rw[k.g];exact H.g2,by rw[k.t,k.g];exact H.gt,by rw[k.o,zbR];exact H.o8,λy f=>?_,by rw[k.u,zbR];exact H.u8,by rw[k.d];exact H.d8,by rw[k.a1];exact H.outs,by rw[k.a2];exact H.pend,by rw[k.a3];exact H.tr,by rw[k.a4];exact H.own,by rw[k.g];exact H.gs,λq b=>?_⟩;{rw [k.o]at f;rcases qY f with h|h;{exact H.sl y h};{rw [h];exact l}};{rw [k.o,k.u];by_cases e:p=q;{subst e;rw[zbg<|H.hasO a,zbg<|H.hasU a];exact j};{rw [zbv (zF.1 a).1 (zF.1 b).1 e,zbv (zF.1 a).1 (zF.1 b).1 e];exact H.fit q b}}
structure Like (h r:ad):Prop where
 len:r.aa.length=h.aa.length
 g:∀i,i0 i (ln h.aa)=true->(ix r.aa i mZ).ac=(ix h.aa i mZ).ac
 o:∀i,i0 i (ln h.aa)=true->(ix r.aa i mZ).Outs=(ix h.aa i mZ).Outs
 p:∀i,i0 i (ln h.aa)=true->(ix r.aa i mZ).ai=(ix h.aa i mZ).ai
 tr:∀i,i0 i (ln h.aa)=true->(ix r.aa i mZ).aq=(ix h.aa i mZ).aq
 ow:∀i,i0 i (ln h.aa)=true->(ix r.aa i mZ).Own=(ix h.aa i mZ).Own
 pg:∀i k,i0 i (ln h.aa)=true->i0 k 8=true->zb8 r i k=zb8 h i k
def Like.refl (h:ad):Like h h:=⟨rfl,λ_ _=>rfl,λ_ _=>rfl,λ_ _=>rfl,λ_ _=>rfl,λ_ _=>rfl,λ_ _ _ _=>rfl⟩
def Like.trans {a b c:ad}(x:Like a b)(y:Like b c):Like a c:=by have k:∀i,i0 i (ln a.aa)=true->i0 i (ln b.aa)=true:=λi e=>(by unfold ln at e ⊢;rwa [x.len]);exact⟨y.len.trans x.len,λi h=>(y.g i<|k i h).trans (x.g i h),λi h=>(y.o i<|k i h).trans (x.o i h),λi h=>(y.p i<|k i h).trans (x.p i h),λi h=>(y.tr i<|k i h).trans (x.tr i h),λi h=>(y.ow i<|k i h).trans (x.ow i h),λi q h d=>(y.pg i q (k i h) d).trans (x.pg i q h d)⟩
def Like.has {h r:ad}(k:Like h r){i:Int}:i0 i (ln r.aa)=i0 i (ln h.aa):=by unfold ln;rw[k.len]
def zmN {h r:ad}{m:Int}:∀(n i:Nat),(∀k:Nat,i<=k->k<i+n->zb8 r m (k:Int)=zb8 h m (k:Int))->zcz r m n i=zcz h m n i
 | 0,i,_=>rfl
 |n+1,i,h=>by rw[zcz,zcz,h i (by omega) (by omega),zmN n (i+1) λk a b=>h k (by omega) (by omega)]
def Like.seen {h r:ad}(k:Like h r)(m:Int):zK r m=zK h m:=by unfold zK;rw[k.has];cases a:i0 m (ln h.aa) with|false=>rfl|true=>simp only[cond_true];rw[k.g m a,k.o m a,k.p m a,zmN 8 0 λj b c=>k.pg m j a (zF.2 (by omega))]
def znV {h:ad}{m p:Int}(a:i0 m (ln h.aa)=true)(c:i0 p 8=true)(b:i0 p (ln (ix h.aa m mZ).ae)=true) :
 zb8 h m p=bif ieq (ix (ix h.aa m mZ).ae p sZ).af (-1) then zcy (ix h.aa m mZ).Out p else zcy h.ag (ix (ix h.aa m mZ).ae p sZ).af:=by
 unfold zb8;have:zbB (ix h.aa m mZ).ae p=ix (ix h.aa m mZ).ae p sZ:=by unfold zbB;rw[b];rfl
 rw[a,c,cond_true,cond_true,this]
 by_cases e:(ix (ix h.aa m mZ).ae p sZ).af = -1
 .rw [zbu.2 e,show ine (ix (ix h.aa m mZ).ae p sZ).af (-1)=false by simp[ine,e]];rfl
 .rw [zbY.2 e,show ine (ix (ix h.aa m mZ).ae p sZ).af (-1)=true from zD4.2 e];rfl
def zlp {m:List LI}{p:Int}(h:i0 p (ln m)=true):zcy m p=ix m p []:=by unfold zcy;rw[h];rfl
def zPT {m:List LI}(h:∀c∈m,zcK c=true)(p:Int):zcK (zcy m p)=true:=by unfold zcy;cases a:i0 p (ln m) with|false=>rfl|true=>exact h _ (zl1 a _)
def zv9 {h r:ad}(H:HOk h){m p:Int}(b:i0 m (ln h.aa)=true)(i:i0 p 8=true){x:Mon}{s:k0}{c:LI}(n:r.aa=up h.aa m x)(k:Chg (ix h.aa m mZ) x p s c)(u:SOk s)(t:znU s c=true)(f:r.ag.length=12)(g:∀c∈r.ag,zcK c=true)(j:zgk r.ao=true)(l:zgk r.an=true)(v:0<=s.af->s.af=(ix (ix h.aa m mZ).ae p sZ).af\/zfw h.aa s.af=0):HOk r:=by refine H.up b ((H.mon b).chg i k u t) n f g j l λq z=>?_;have d:=zSh ((H.mon b).hasO i) k.o q;by_cases e:s.af=q;{have a:=v (by omega);rw[if_pos e]at d;rcases a with a|a;{rw [if_pos (by omega)]at d;left;omega};{right;rw[e] at a;refine⟨a,?_⟩;have:=zyl b x q;have y:cPg (ix h.aa m mZ) q<=zfw h.aa q:=(by have:=zyl b (⟨[],[],[],[],[],0,0,[],0⟩:Mon) q;have w:cPg (⟨[],[],[],[],[],0,0,[],0⟩:Mon) q=0:=rfl;omega);omega}};{rw [if_neg e]at d;left;split at d<;>omega}
def zvu {h r:ad}(H:HOk h){m p:Int}(a:i0 m (ln h.aa)=true)(y:i0 p 8=true){x:Mon}{s:k0}{c:LI}(n:r.aa=up h.aa m x)(k:Chg (ix h.aa m mZ) x p s c)(B:(cond (ieq s.af<|-1) c<|zcy r.ag s.af)=zb8 h m p)(f:∀i q,i0 i (ln h.aa)=true->i0 q 8=true->¬ (i=m/\q=p)->(ix (ix h.aa i mZ).ae q sZ).af≠-1->zcy r.ag (ix (ix h.aa i mZ).ae q sZ).af=zcy h.ag (ix (ix h.aa i mZ).ae q sZ).af):Like h r:=by have l:=(zF.1 a).1;have t:=(zF.1 y).1;have e:∀{C:Type} (F:Mon->C),F x=F (ix h.aa m mZ)->∀i,i0 i (ln h.aa)=true->F (ix r.aa i mZ)=F (ix h.aa i mZ):=(by intro C F D i d;rw[n];by_cases e:m=i;{subst e;rw[zbg a];exact D};{rw [zbv l (zF.1 d).1 e]});refine⟨by rw[n,zbR],e Mon.ac k.g,e Mon.Outs k.a1,e Mon.ai k.a2,e Mon.aq k.a3,e Mon.Own k.a4,λi q d b=>?_⟩;have A:i0 i (ln r.aa)=true:=(by rw[n,zdQ];exact d);have w:=(H.mon d).hasO b;have z:i0 q (ln (ix r.aa i mZ).ae)=true:=(by rw[n];by_cases e:m=i;{subst e;rw[zbg a,k.o,zdQ];exact w};{rw [zbv l (zF.1 d).1 e];exact w});rw[znV A b z];by_cases e:m=i;{subst e;rw[n,zbg a,k.o,k.u];by_cases v:p=q;{subst v;rw[zbg<|(H.mon a).hasO y,<- B];cases ieq s.af (-1);{rfl};{rw [cond_true,cond_true,zlp (by rw[zdQ];exact(H.mon a).hasU y),zbg<|(H.mon a).hasU y]}};{rw [zbv t (zF.1 b).1 v,znV a b w];by_cases j:(ix (ix h.aa m mZ).ae q sZ).af = -1;{rw [zbu.2 j,cond_true,cond_true,zlp (by rw[zdQ];exact(H.mon a).hasU b),zlp<|(H.mon a).hasU b,zbv t (zF.1 b).1 v]};{rw [zbY.2 j,cond_false,cond_false,f m q a b (λh=>v h.2.symm) j]}}};{rw [n,zbv l (zF.1 d).1 e,znV d b w];by_cases j:(ix (ix h.aa i mZ).ae q sZ).af = -1;{rw [zbu.2 j,cond_true,cond_true]};{rw [zbY.2 j,cond_false,cond_false,f i q d b (λh=>e h.1.symm) j]}}
structure Op (h r:ad):Prop where
 ok:HOk r
 like:Like h r
 rt:Rt h->Rt r
def Op.refl {h:ad}(H:HOk h):Op h h:=⟨H,Like.refl h,id⟩
def Op.trans {a b c:ad}(x:Op a b)(y:Op b c):Op a c:=⟨y.ok,x.like.trans y.like,λh=>y.rt (x.rt h)⟩
def Op.safe {h r:ad}(k:Op h r)(s:Safe h):Safe r:=⟨k.ok,k.rt s.rt⟩
def zLm {h r:ad}(H:Rt h){m:Int}(l:i0 m (ln h.aa)=true){x:Mon}(u:r.aa=up h.aa m x)(q:r.ao=h.ao)(s:r.an=h.an)(y:x.ac.length=(ix h.aa m mZ).ac.length)(w:∀g,i0 g (ln (ix h.aa m mZ).ac)=true->(ix x.ac g gZ).aw=(ix (ix h.aa m mZ).ac g gZ).aw)(z:x.am=(ix h.aa m mZ).am)(v:x.ae=(ix h.aa m mZ).ae):Rt r:=by have d:=(zF.1 l).1;have hg:∀g,i0 g (ln x.ac)=i0 g (ln (ix h.aa m mZ).ac):=λg=>(by unfold ln;rw[y]);have f:∀e,zc7 h e=true->zc7 r e=true:=(by intro e c;obtain⟨n,i,p⟩:=zgc.1 c;rw[zgc,u,zdQ];refine⟨n,?_⟩;by_cases b:m=zdA e.Tag;{rw [<- b]at n i p ⊢;rw[zbg l,hg,w _ i,v];exact⟨i,p⟩};{rw [zbv d (zF.1 n).1 b];exact⟨i,p⟩});refine⟨λk j=>?_,λe c=>f e (H.e1 e (by rwa [q]at c)),λe c=>f e (H.e2 e (by rwa [s]at c))⟩;rw[u]at j ⊢;rw[zdQ]at j;by_cases b:m=k;{subst b;rw[zbg l];intro g a;rw[hg]at a;rw[z,w g a,v];exact H.t m l g a};{rw [zbv d (zF.1 j).1 b];exact H.t k j}
def zpw {h a:ad}{m p:Int}{s:k0}{x:Mon}(b:i0 m (ln h.aa)=true)(e:a.aa=up h.aa m x):(zcq a m p s).aa=up h.aa m (zj9 x p s):=by rw[zsz,e,zbg b,z2N]
def zB5 {x a:Mon}{p:Int}{s:k0}{c:LI}(h:a.ae=x.ae)(j:a.Out=up x.Out p c)(hg:a.ac=x.ac)(i:a.am=x.am)(g:a.au.length=x.au.length)(b:a.Outs=x.Outs)(d:a.ai=x.ai)(e:a.aq=x.aq)(f:a.Own=x.Own):Chg x (zj9 a p s) p s c :=
 ⟨by show up a.ae p s=_;rw[h],j,hg,by show (zlN a.ac p a.am.length a.am).length=_;rw[zDD,i],g,b,d,e,f⟩
def zuL {h:ad}{m p:Int}{s:k0}(a:zgk h.ao=true)(b:zgk h.an=true):zgk (zcq h m p s).ao=true/\zgk (zcq h m p s).an=true:=by have:=zP7 h m p s;rw[this.1,this.2];cases ieq (ix (ix h.aa m mZ).ae p sZ).af (-1);{exact⟨zFO a _,zFO b _⟩};{exact⟨a,b⟩}
def hasM {h:ad}(H:HOk h){s:k0}(b:SOk s)(a:s.af≠-1):i0 s.af (ln h.ag)=true:=by have:=b.pos a;exact zF.2 ⟨this.1,by unfold ln;rw[H.m12];omega⟩
def zXl {h:ad}(H:HOk h){m p:Int}(b:i0 m (ln h.aa)=true)(c:i0 p 8=true)(l:(ix (ix h.aa m mZ).ae p sZ).af≠-1):Op h (zdK h m p):=by
 have X:=H.mon b;have f:(zdK h m p).aa=up h.aa m (zj9 {ix h.aa m mZ with Out:=up (ix h.aa m mZ).Out p (zcy h.ag (ix (ix h.aa m mZ).ae p sZ).af)} p z0):=zpw b rfl;have k:Chg (ix h.aa m mZ) (zj9 {ix h.aa m mZ with Out:=up (ix h.aa m mZ).Out p (zcy h.ag (ix (ix h.aa m mZ).ae p sZ).af)} p z0) p z0 (zcy h.ag (ix (ix h.aa m mZ).ae p sZ).af):=zB5 rfl rfl rfl rfl rfl rfl rfl rfl rfl;have a:(zdK h m p).ag=h.ag:=zwW _ _ _ _;have g:=zuL (h:=zfe h m p) (m:=m) (p:=p) (s:=z0) H.b1 H.b2;refine⟨zv9 H b c f k (.inl rfl) ((zpW (.inl rfl)).2 ⟨λ_=>zPT H.pgs _,λh=>absurd rfl h⟩) (by rw[a];exact H.m12) (by rw[a];exact H.pgs) g.1 g.2 λh=>absurd h (by decide),
  zvu H b c f k ?_ (λi q _ _ _ _=>by rw[a]),λR=>?_⟩
 {rw [znV b c<|X.hasO c,zbY.2 l];rfl};{have j:Rt (zfe h m p):=zLm (x:={ix h.aa m mZ with Out:=up (ix h.aa m mZ).Out p (zcy h.ag (ix (ix h.aa m mZ).ae p sZ).af)}) R b rfl rfl rfl rfl (λ_ _=>rfl) rfl rfl;have d:i0 m (ln (zfe h m p).aa)=true:=(by show i0 m (ln<|up h.aa m _)=true;rw[zdQ];exact b);have e:ix (zfe h m p).aa m mZ={ix h.aa m mZ with Out:=up (ix h.aa m mZ).Out p (zcy h.ag (ix (ix h.aa m mZ).ae p sZ).af)}:=zbg b _ _;exact zzy j d (by rw[e];exact X.hasO c) (by rw[e];exact X.gt) z0}
def zFU {o:List k0}{q:Int}:zom o q=none↔o.countP (λs=>ieq s.af q)=0:=by unfold zom;rw[List.findIdx?_eq_none_iff,vF];simp
def zVJ {o:List k0}{q:Int}{k:Nat}(h:zom o q=some k):∃a:k<o.length,o[k].af=q:=by unfold zom at h;rw[u4]at h;obtain⟨a,b,_⟩:=h;exact⟨a,zbu.1 b⟩
def zzp {q:Int}:∀(l:List Mon) (i:Nat),((ziz q l i).1<0↔zfw l q=0)/\(¬ (ziz q l i).1<0->∃a b:Nat,∃f:a<l.length,∃g:b<l[a].ae.length,ziz q l i=(((i+a:Nat):Int),(b:Int))/\l[a].ae[b].af=q)
 |[],i=>⟨by simp[ziz,zfw],λh=>absurd (show (-1:Int)<0 by decide) h⟩
 |x::l,i=>by have j:=zzp (q:=q) l (i+1);unfold ziz;split;{rename_i k c;obtain⟨m,n⟩:=zVJ c;refine⟨⟨λh=>by simp at h;omega,λh=>?_⟩,λ_=>⟨0,k,by simp,m,by simp,n⟩⟩;exfalso;simp only[zfw,jC,uP]at h;have d:x.ae.countP (λs=>ieq s.af q)=0:=(by unfold cPg at h;omega);rw[zFU.2 d]at c;cases c};{rename_i c;have d:=zFU.1 c;refine⟨?_,λh=>?_⟩;{rw [j.1];simp only[zfw,jC,uP];unfold cPg;omega};{obtain⟨a,b,f,g,e,p⟩:=j.2 h;exact⟨a+1,b,by simpa using f,by simpa using g,by rw[e];simp;omega,by simpa using p⟩}}
def zH5 {h:ad}{q:Int}(a:0<=q):(zbM h q).1<0↔zfw h.aa q=0:=by unfold zbM;rw[show ilt q 0=false from qT (by omega),cond_false];exact(zzp h.aa 0).1
def z4u {h:ad}(H:HOk h){q:Int}(j:0<=q)(c:¬ (zbM h q).1<0):i0 (zbM h q).1 (ln h.aa)=true/\i0 (zbM h q).2 8=true/\(ix (ix h.aa (zbM h q).1 mZ).ae (zbM h q).2 sZ).af=q:=by unfold zbM at c ⊢;rw[show ilt q 0=false from qT (by omega),cond_false]at c ⊢;obtain⟨a,b,d,f,e,g⟩:=(zzp h.aa 0).2 c;rw[e,jW];have i:=(H.mons _<|jM d).o8;exact⟨zF.2 (by unfold ln;simp;omega),zF.2 (by simp;omega),by rw[zmD d,zmD f];exact g⟩
def zS5 {P:Nat->Bool}:∀{n i:Nat} {q:Int},q∈zwA P n i↔∃k:Nat,q=(k:Int)/\i<=k/\k<i+n/\P k=true
 | 0,i,q=>by simp[zwA];intro k _ _ _;omega
 |n+1,i,q=>by
  have d:=@zS5 P n (i+1) q;unfold zwA;constructor
  .intro h;cases c:P i with
   |true=>rw[c,cond_true,qG]at h;rcases h with h|h;{exact⟨i,h,by omega,by omega,c⟩};{obtain⟨k,a,f,g,b⟩:=d.1 h;exact⟨k,a,by omega,by omega,b⟩}
   |false=>rw[c,cond_false]at h;obtain⟨k,a,f,g,b⟩:=d.1 h;exact⟨k,a,by omega,by omega,b⟩
  {rintro⟨k,a,f,g,b⟩;by_cases e:k=i;{subst e;rw[b,cond_true,a];exact jF};{have:=d.2 ⟨k,a,by omega,by omega,b⟩;cases P i;{exact this};{exact q0 _ this}}}
def zG8 {h:ad}{q:Int}:q∈zcn h↔i0 q (ln h.ag)=true/\zfw h.aa q=0:=by unfold zcn;rw[zS5];constructor;{rintro⟨k,rfl,b,c,d⟩;exact⟨zF.2 (by unfold ln;omega),(zH5 (by omega)).1 (qF d)⟩};{rintro⟨b,c⟩;have a:=zF.1 b;unfold ln at a;refine⟨q.toNat,by omega,by omega,by omega,?_⟩;rw[show ((q.toNat:Nat):Int)=q by omega];exact qM ((zH5 a.1).2 c)}
def zYx {h:ad}(a:zcn h≠[]):i0 (ix (zcn h) 0 0) (ln h.ag)=true/\zfw h.aa (ix (zcn h) 0 0)=0:=by refine zG8.1 (zl1 (zF.2 ⟨by omega,?_⟩) 0);unfold ln;have:=kO.2 a;omega
structure But (h r:ad) (m p:Int):Prop where
 ne:∀i k,i0 i (ln h.aa)=true->i0 k 8=true->¬ (i=m/\k=p)->ix (ix r.aa i mZ).ae k sZ=ix (ix h.aa i mZ).ae k sZ
def zGQ {h r:ad}{m p:Int}(a:i0 m (ln h.aa)=true)(j:i0 p 8=true){x:Mon}{s:k0}(b:r.aa=up h.aa m x)(g:x.ae=up (ix h.aa m mZ).ae p s):But h r m p:=by refine⟨λi k d f c=>?_⟩;rw[b];by_cases e:m=i;{subst e;rw[zbg a,g,zbv (zF.1 j).1 (zF.1 f).1 λe=>c ⟨rfl,e.symm⟩]};{rw [zbv (zF.1 a).1 (zF.1 d).1 e]}
def z2r {h:ad}(H:HOk h){m p:Int}(a:i0 m (ln h.aa)=true)(c:i0 p 8=true):But h (zdK h m p) m p/\ix (ix (zdK h m p).aa m mZ).ae p sZ=z0:=by have b:(zdK h m p).aa=up h.aa m (zj9 {ix h.aa m mZ with Out:=up (ix h.aa m mZ).Out p (zcy h.ag (ix (ix h.aa m mZ).ae p sZ).af)} p z0):=zpw a rfl;refine⟨zGQ a c b rfl,?_⟩;rw[b,zbg a];exact zbg ((H.mon a).hasO c) _ _
structure Roomy (h r:ad):Prop where
 op:Op h r
 free:zcn r≠[]
 sl:∀i k,i0 i (ln h.aa)=true->i0 k 8=true->ix (ix r.aa i mZ).ae k sZ=ix (ix h.aa i mZ).ae k sZ\/ix (ix r.aa i mZ).ae k sZ=z0
 dirt:∀i,(ix r.aa i mZ).au=(ix h.aa i mZ).au
def zMo {h r:ad}{m:Int}(c:i0 m (ln h.aa)=true){x:Mon}(a:r.aa=up h.aa m x)(b:x.au=(ix h.aa m mZ).au)(i:Int):(ix r.aa i mZ).au=(ix h.aa i mZ).au:=by
 rw[a];by_cases e:i.toNat=m.toNat
 {have:∀l:List Mon,ix l i mZ=ix l m mZ:=λl=>(by unfold ix;rw[e]);rw[this,this,zbg c,b]};{unfold ix up;simp[List.getD,q9,Ne.symm e]}
def roomy {h:ad}(H:HOk h):Roomy h (zdc h):=by unfold zdc;by_cases b:zcn h=[];{rw [show ieq (ln<|zcn h) 0=true by rw[b];rfl,cond_true];have p:¬ (zbM h 0).1<0:=λd=>(by have:(0:Int)∈zcn h:=zG8.2 ⟨zF.2 (by unfold ln;rw[H.m12];omega),(zH5 (by omega)).1 d⟩;rw[b] at this;cases this);obtain⟨a,c,f⟩:=z4u H (by omega) p;have k:=zXl H a c (by rw[f];decide);have j:=z2r H a c;refine⟨k,λd=>?_,λi q g r=>?_,λi=>zMo (x:=zj9 {ix h.aa (zbM h 0).1 mZ with Out:=up (ix h.aa (zbM h 0).1 mZ).Out (zbM h 0).2 (zcy h.ag (ix (ix h.aa (zbM h 0).1 mZ).ae (zbM h 0).2 sZ).af)} (zbM h 0).2 z0) a (zpw a rfl) rfl i⟩;{have:(0:Int)∈zcn (zdK h (zbM h 0).1 (zbM h 0).2):=(by refine zG8.2 ⟨zF.2 (by unfold ln;rw[k.ok.m12];omega),?_⟩;have n:(zdK h (zbM h 0).1 (zbM h 0).2).aa=up h.aa (zbM h 0).1 (zj9 {ix h.aa (zbM h 0).1 mZ with Out:=up (ix h.aa (zbM h 0).1 mZ).Out (zbM h 0).2 (zcy h.ag (ix (ix h.aa (zbM h 0).1 mZ).ae (zbM h 0).2 sZ).af)} (zbM h 0).2 z0):=zpw a rfl;have l:=zyl a (zj9 {ix h.aa (zbM h 0).1 mZ with Out:=up (ix h.aa (zbM h 0).1 mZ).Out (zbM h 0).2 (zcy h.ag (ix (ix h.aa (zbM h 0).1 mZ).ae (zbM h 0).2 sZ).af)} (zbM h 0).2 z0) 0;rw[<- n] at l;have m:=zSh (x':=zj9 {ix h.aa (zbM h 0).1 mZ with Out:=up (ix h.aa (zbM h 0).1 mZ).Out (zbM h 0).2 (zcy h.ag (ix (ix h.aa (zbM h 0).1 mZ).ae (zbM h 0).2 sZ).af)} (zbM h 0).2 z0) ((H.mon a).hasO c) (s:=z0) rfl 0;rw[if_pos f,if_neg (by decide)] at m;have t:=H.uq 0 (by omega);omega);rw[d] at this;cases this};{by_cases e:i=(zbM h 0).1/\q=(zbM h 0).2;{rw [e.1,e.2];exact .inr j.2};{exact .inl (j.1.ne i q g r e)}}};{have:ieq (ln<|zcn h) 0=false:=zbY.2 (by unfold ln;have:=kO.2 b;omega);rw[this,cond_false];exact⟨Op.refl H,b,λi k g u=>.inl rfl,λ_=>rfl⟩}
def zWM {m:List LI}{p:Int}{c:LI}(b:i0 p (ln m)=true)(a:zcK c=true):ziZ m p c=up m p c:=by unfold ziZ;rw[b,a];rfl
def zCY {m:List LI}{p q:Int}{c:LI}(a:0<=p)(h:q≠p):zcy (up m p c) q=zcy m q:=by unfold zcy;rw[zdQ];cases b:i0 q (ln m) with|false=>rfl|true=>rw[cond_true,cond_true,zbv a (zF.1 b).1<|Ne.symm h]
def zCX {m:List LI}{p:Int}{c:LI}(a:i0 p (ln m)=true):zcy (up m p c) p=c:=by rw[zlp (by rw[zdQ];exact a),zbg a]
def zY4 {h:ad}(H:HOk h){m p a:Int}(d:i0 m (ln h.aa)=true)(f:i0 p 8=true)(z:(ix (ix h.aa m mZ).ae p sZ).af = -1)(u:i0 a (ln h.ag)=true)(B:zfw h.aa a=0) :
 Op h (zfn h m p a)/\But h (zfn h m p a) m p/\ix (ix (zfn h m p a).aa m mZ).ae p sZ=⟨a,3⟩/\∀i,(ix (zfn h m p a).aa i mZ).au=(ix h.aa i mZ).au:=by
 have X:=H.mon d;have g:=zF.1 u;unfold ln at g;rw[H.m12]at g;have l:(zfn h m p a).aa=up h.aa m (zj9 {ix h.aa m mZ with Out:=up (ix h.aa m mZ).Out p []} p ⟨a,3⟩):=zpw d rfl;have k:Chg (ix h.aa m mZ) (zj9 {ix h.aa m mZ with Out:=up (ix h.aa m mZ).Out p []} p ⟨a,3⟩) p ⟨a,3⟩ []:=zB5 rfl rfl rfl rfl rfl rfl rfl rfl rfl;have j:=((zpW<|X.slot f).1 (X.fit p f)).1 z;have b:(zfn h m p a).ag=up h.ag a (ix (ix h.aa m mZ).Out p []):=by show (zcq (landing h m p a) m p ⟨a,3⟩).ag=_;rw[zwW];exact zWM u j
 have A:SOk ⟨a,3⟩:=.inr ⟨g.1,by show a<=11;omega,by show (1:Int)<=3;omega,by show (3:Int)<=3;omega⟩
 have w:=zuL (h:=landing h m p a) (m:=m) (p:=p) (s:=⟨a,3⟩) H.b1 H.b2;refine⟨⟨zv9 H d f l k A ((zpW A).2 ⟨λh=>absurd h (by show a≠-1;omega),λ_=>⟨show enough 3 1=true by decide,rfl⟩⟩) (by rw[b,zbR];exact H.m12) (λc r=>?_) w.1 w.2 λ_=>.inr B,
  zvu H d f l k ?_ λi q y D r C=>?_,λR=>?_⟩,zGQ d f l rfl,?_,λi=>zMo (x:=zj9 {ix h.aa m mZ with Out:=up (ix h.aa m mZ).Out p []} p ⟨a,3⟩) d l rfl i⟩
 .rw [b]at r;rcases qY r with n|n
  .exact H.pgs c n
  .rw [n];exact j
 .rw [znV d f<|X.hasO f,zbu.2 z,cond_true,zlp<|X.hasU f];rw[show ieq (⟨a,3⟩:k0).af (-1)=false from zbY.2 (by show a≠-1;omega),cond_false,b]
  exact zCX u
 .rw [b];refine zCY g.1 (λe=>?_);have:=zGR y ((H.mon y).hasO D);rw[e] at this;omega
 .have R1:Rt (landing h m p a):=zLm (x:={ix h.aa m mZ with Out:=up (ix h.aa m mZ).Out p []}) R d rfl rfl rfl rfl (λ_ _=>rfl) rfl rfl;have t:i0 m (ln (landing h m p a).aa)=true:=by show i0 m (ln<|up h.aa m _)=true;rw[zdQ];exact d
  have v:ix (landing h m p a).aa m mZ={ix h.aa m mZ with Out:=up (ix h.aa m mZ).Out p []}:=zbg d _ _;exact zzy R1 t (by rw[v];exact X.hasO f) (by rw[v];exact X.gt) _
 .rw [l,zbg d];exact zbg (X.hasO f) _ _
def zK8 {h:ad}(H:HOk h){m p:Int}(f:i0 m (ln h.aa)=true)(g:i0 p 8=true)(k:(ix (ix h.aa m mZ).ae p sZ).af = -1) :
 Op h (fetched h m p)/\(∃e,0<=e/\e<=11/\ix (ix (fetched h m p).aa m mZ).ae p sZ=⟨e,3⟩)/\∀i,(ix (fetched h m p).aa i mZ).au=(ix h.aa i mZ).au:=by
 have R:=roomy H;have c:i0 m (ln (zdc h).aa)=true:=by rw[R.op.like.has];exact f
 have d:(ix (ix (zdc h).aa m mZ).ae p sZ).af = -1:=by rcases R.sl m p f g with b|b<;>rw [b];{exact k};{rfl}
 obtain⟨b,j⟩:=zYx R.free;obtain⟨l,r,n,q⟩:=zY4 R.op.ok c g d b j;have a:=zF.1 b;unfold ln at a;rw[R.op.ok.m12]at a;exact⟨R.op.trans l,⟨_,a.1,by omega,n⟩,λi=>(q i).trans (R.dirt i)⟩
def zn3 {o:List k0}{p:Int}(h:i0 p (ln o)=true):zbB o p=ix o p sZ:=by unfold zbB;rw[h];rfl
def zlq {h:ad}(H:HOk h){m p:Int}(a:i0 m (ln h.aa)=true)(b:i0 p 8=true) :
 (cond (ieq (ix (ix h.aa m mZ).ae p sZ).af<|-1) (ix (ix h.aa m mZ).Out p [])<|zcy h.ag (ix (ix h.aa m mZ).ae p sZ).af)=zb8 h m p:=by
 rw[znV a b<|(H.mon a).hasO b,zlp<|(H.mon a).hasU b]
structure Mark (x y:Mon):Prop where
 o:y.ae=x.ae
 u:y.Out=x.Out
 g:y.ac=x.ac
 t:y.am=x.am
 d:y.au.length=x.au.length
 a1:y.Outs=x.Outs
 a2:y.ai=x.ai
 a3:y.aq=x.aq
 a4:y.Own=x.Own
def zXk {h:ad}(H:HOk h){m:Int}(b:i0 m (ln h.aa)=true){y:Mon}(k:Mark (ix h.aa m mZ) y):Op h {h with aa:=up h.aa m y}/\∀i q,ix (ix (up h.aa m y) i mZ).ae q sZ=ix (ix h.aa i mZ).ae q sZ:=by
 have X:=H.mon b;have a:i0 0 8=true:=(by decide);have c:Chg (ix h.aa m mZ) y 0 (ix (ix h.aa m mZ).ae 0 sZ) (ix (ix h.aa m mZ).Out 0 []):=⟨by rw[zIB<|X.hasO a,k.o],by rw[zIB<|X.hasU a,k.u],k.g,by rw[k.t],k.d,k.a1,k.a2,k.a3,k.a4⟩
 refine⟨⟨zv9 H b a rfl c (X.slot a) (X.fit 0 a) H.m12 H.pgs H.b1 H.b2 λ_=>.inl rfl,zvu H b a rfl c (zlq H b a) λ_ _ _ _ _ _=>rfl,
  λR=>zLm R b rfl rfl rfl (by rw[k.g]) (λg _=>by rw[k.g]) k.t k.o⟩,λi q=>?_⟩
 by_cases e:i.toNat=m.toNat
 {have:∀l:List Mon,ix l i mZ=ix l m mZ:=λl=>(by unfold ix;rw[e]);rw[this,this,zbg b,k.o]};{have:ix (up h.aa m y) i mZ=ix h.aa i mZ:=(by unfold ix up;simp[List.getD,q9,Ne.symm e]);rw[this]}
def zK7 {h:ad}(H:HOk h){m:Int}(a:i0 m (ln h.aa)=true)(p:Int):Op h (zbL h m p)/\∀i q,ix (ix (zbL h m p).aa i mZ).ae q sZ=ix (ix h.aa i mZ).ae q sZ :=
 zXk H a ⟨rfl,rfl,rfl,rfl,zbR _ _ _,rfl,rfl,rfl,rfl⟩
def z1S {h:ad}(H:HOk h){m:Int}(a:i0 m (ln h.aa)=true)(p:Int):Op h (zqD h m p)/\∀i q,ix (ix (zqD h m p).aa i mZ).ae q sZ=ix (ix h.aa i mZ).ae q sZ :=
 zXk H a ⟨rfl,rfl,rfl,rfl,zbR _ _ _,rfl,rfl,rfl,rfl⟩
def rights {r:Int}(a:1<=r)(b:r<=3):r=1\/r=2\/r=3:=by omega
def MOk.enough1 {x:Mon}(X:MOk x){p:Int}(a:i0 p 8=true)(d:(ix x.ae p sZ).af≠-1):(ix x.ae p sZ).aj=1\/(ix x.ae p sZ).aj=3:=by have b:=(((zpW<|X.slot a).1 (X.fit p a)).2 d).1;have c:=(X.slot a).pos d;rcases rights c.2.2.1 c.2.2.2 with e|e|e;{exact .inl e};{rw [e]at b;exact absurd b (by decide)};{exact .inr e}
def zPO {h:ad}(H:HOk h){m p:Int}(c:i0 m (ln h.aa)=true)(b:i0 p 8=true)(g:(ix (ix h.aa m mZ).ae p sZ).af≠-1){r:Int}(n:r=1\/r=3) :
 Op h (zcq h m p ⟨(ix (ix h.aa m mZ).ae p sZ).af,r⟩)/\But h (zcq h m p ⟨(ix (ix h.aa m mZ).ae p sZ).af,r⟩) m p/\
  ix (ix (zcq h m p ⟨(ix (ix h.aa m mZ).ae p sZ).af,r⟩).aa m mZ).ae p sZ=⟨(ix (ix h.aa m mZ).ae p sZ).af,r⟩/\∀i,(ix (zcq h m p ⟨(ix (ix h.aa m mZ).ae p sZ).af,r⟩).aa i mZ).au=(ix h.aa i mZ).au:=by
 have X:=H.mon c;have d:=(X.slot b).pos g;have e:=zsz h m p ⟨(ix (ix h.aa m mZ).ae p sZ).af,r⟩;have k:Chg (ix h.aa m mZ) (zj9 (ix h.aa m mZ) p ⟨(ix (ix h.aa m mZ).ae p sZ).af,r⟩) p ⟨(ix (ix h.aa m mZ).ae p sZ).af,r⟩ (ix (ix h.aa m mZ).Out p []):=
  zB5 rfl (zIB (X.hasU b) _).symm rfl rfl rfl rfl rfl rfl rfl
 have l:SOk ⟨(ix (ix h.aa m mZ).ae p sZ).af,r⟩:=.inr ⟨d.1,d.2.1,by show 1<=r;omega,by show r<=3;omega⟩
 have f:=((zpW<|X.slot b).1 (X.fit p b)).2 g;have j:=zuL (h:=h) (m:=m) (p:=p) (s:=⟨(ix (ix h.aa m mZ).ae p sZ).af,r⟩) H.b1 H.b2;have a:=zwW h m p ⟨(ix (ix h.aa m mZ).ae p sZ).af,r⟩;refine⟨⟨zv9 H c b e k l ((zpW l).2 ⟨λh=>absurd h g,λ_=>⟨?_,f.2⟩⟩) (by rw[a];exact H.m12) (by rw[a];exact H.pgs) j.1 j.2 λ_=>.inl rfl,
  zvu H c b e k (by rw[a];exact zlq H c b) (λi q _ _ _ _=>by rw[a]),λR=>zzy R c (X.hasO b) X.gt _⟩,zGQ c b e rfl,?_,λi=>zMo c e rfl i⟩
 .show enough r 1=true
  rcases n with rfl|rfl<;>decide
 .rw [e,zbg c];exact zbg (X.hasO b) _ _
structure Mended (h r:ad) (m p n:Int):Prop where
 op:Op h r
 inn:(ix (ix r.aa m mZ).ae p sZ).af≠-1
 ri:ieq (wand .i64 n 2) 0=false->(ix (ix r.aa m mZ).ae p sZ).aj=3
 dt:ieq (wand .i64 n 2) 0=false->ix (ix r.aa m mZ).au p false=true
 d0:ieq (wand .i64 n 2) 0=true->(ix r.aa m mZ).au=(ix h.aa m mZ).au
 dk:∀k,i0 k 8=true->k≠p->ix (ix r.aa m mZ).au k false=ix (ix h.aa m mZ).au k false
 dm:∀i,i0 i (ln h.aa)=true->i≠m->(ix r.aa i mZ).au=(ix h.aa i mZ).au
def zTZ {h:ad}(H:HOk h){m p:Int}(n:Int)(c:i0 m (ln h.aa)=true)(g:i0 p 8=true)(v:(ix (ix h.aa m mZ).ae p sZ).af≠-1):Mended h (zjR h m p n) m p n:=by
 unfold zjR;cases s:ieq (wand .i64 n 2) 0 with
 |true=>exact⟨Op.refl H,v,λe=>Bool.noConfusion<|s.symm.trans e,λe=>Bool.noConfusion<|s.symm.trans e,λ_=>rfl,λ_ _ _=>rfl,λ_ _ _=>rfl⟩
 |false=>rw[cond_false];obtain⟨f,C⟩:=zK7 H c p;have d:i0 m (ln (zbL h m p).aa)=true:=(by rw[f.like.has];exact c);have a:(ix (ix (zbL h m p).aa m mZ).ae p sZ).af≠-1:=(by rw[C];exact v);have u:(ix (zbL h m p).aa m mZ).au=up (ix h.aa m mZ).au p true:=(by show (ix (up h.aa m _) m mZ).au=_;rw[zbg c]);have l:∀i,i0 i (ln h.aa)=true->i≠m->(ix (zbL h m p).aa i mZ).au=(ix h.aa i mZ).au:=λi q b=>(by show (ix (up h.aa m _) i mZ).au=_;rw[zbv (zF.1 c).1 (zF.1 q).1<|Ne.symm b]);have A:=(f.ok.mon d).enough1 g a;have t:∀r:ad,(∀i,(ix r.aa i mZ).au=(ix (zbL h m p).aa i mZ).au)->Op (zbL h m p) r->(ix (ix r.aa m mZ).ae p sZ).af≠-1->(ix (ix r.aa m mZ).ae p sZ).aj=3->Mended h r m p n:=(by intro r j x y z;refine⟨f.trans x,y,λ_=>z,λ_=>?_,λe=>Bool.noConfusion<|s.symm.trans e,λk B b=>?_,λi q b=>by rw[j,l i q b]⟩;{rw [j,u,zbg<|(H.mon c).hasD g]};{rw [j,u,zbv (zF.1 g).1 (zF.1 B).1<|Ne.symm b]});unfold opened;rcases A with e|e;{rw [e,show ieq (wand .i64 1 2) 0=true by decide,cond_true];obtain⟨D,F,w,E⟩:=zPO f.ok d g a (r:=3) (.inr rfl);exact t _ E D (by rw[w];exact a) (by rw[w])};{rw [e,show ieq (wand .i64 3 2) 0=false by decide,cond_false];exact t _ (λ_=>rfl) (Op.refl f.ok) a e}
def zPN {h:ad}(H:HOk h){m p:Int}(n:Int)(c:i0 m (ln h.aa)=true)(d:i0 p 8=true):Mended h (C0 h m p n) m p n:=by unfold C0;by_cases e:(ix (ix h.aa m mZ).ae p sZ).af = -1;{rw [zbu.2 e,cond_true];obtain⟨a,⟨q,r,s,l⟩,f⟩:=zK8 H c d e;have K:=zTZ a.ok n (by rw[a.like.has];exact c) d (by rw[l];show q≠-1;omega);exact⟨a.trans K.op,K.inn,K.ri,K.dt,λe=>by rw[K.d0 e,f],λk j b=>by rw[K.dk k j b,f],λi g b=>by rw[K.dm i (by rw[a.like.has];exact g) b,f]⟩};{rw [zbY.2 e,cond_false];exact zTZ H n c d e}
def zou {h:ad}{m p:Int}:zcH h m p=true↔HOk h/\i0 m (ln h.aa)=true/\i0 p 8=true:=by unfold zcH;rw[zcb,zcb,zkA]
def zY5 {h:ad}(H:HOk h)(m p:Int):Op h (zp6 h m p):=by unfold zp6;cases a:zcH h m p with|false=>exact Op.refl H|true=>obtain⟨_,b,c⟩:=zou.1 a;rw[cond_true];unfold zkU;by_cases e:(ix (ix h.aa m mZ).ae p sZ).af = -1;{rw [zbu.2 e];exact Op.refl H};{rw [zbY.2 e];exact zXl H b c e}
def z1R {h:ad}(H:HOk h)(m p:Int):Op h (zt8 h m p):=by unfold zt8;cases a:zcH h m p with|false=>exact Op.refl H|true=>obtain⟨_,b,c⟩:=zou.1 a;rw[cond_true];unfold zkU;by_cases e:(ix (ix h.aa m mZ).ae p sZ).af = -1;{rw [zbu.2 e];exact(zK8 H b c e).1};{rw [zbY.2 e];exact Op.refl H}
def z1Q {h:ad}(H:HOk h)(m p:Int):Op h (ztP h m p):=by unfold ztP;cases g:zcH h m p with|false=>exact Op.refl H|true=>obtain⟨_,b,c⟩:=zou.1 g;rw[cond_true];obtain⟨a,d⟩:=z1S H b p;(cases e:zdh (ix (ix h.aa m zi).ae p zbe) z0 with|true=>exact a|false=>rw[cond_false];have i:(ix (ix h.aa m mZ).ae p sZ).af≠-1:=λf=>zr3.1 e (((H.mon b).slot c).none f);have:=zPO a.ok (m:=m) (p:=p) (by rw[a.like.has];exact b) c (by rw[d];exact i) (r:=1) (.inl rfl);rw[d m p] at this;exact a.trans this.1)
structure KeepP (x y:Mon):Prop where
 o:y.ae=x.ae
 u:y.Out=x.Out
def zLe {h r:ad}{m:Int}(b:i0 m (ln h.aa)=true){y:Mon}(c:r.aa=up h.aa m y)(a:r.ag=h.ag)(k:KeepP (ix h.aa m mZ) y)(i q:Int):zb8 r i q=zb8 h i q:=by unfold zb8;rw[c,zdQ,a];cases d:i0 i (ln h.aa) with|false=>rfl|true=>by_cases e:m=i;{subst e;rw[zbg b,k.o,k.u]};{rw [zbv (zF.1 b).1 (zF.1 d).1 e]}
def zuI {h r:ad}{m:Int}(b:i0 m (ln h.aa)=true){y:Mon}(c:r.aa=up h.aa m y)(a:r.ag=h.ag)(k:KeepP (ix h.aa m mZ) y)(i:Int) :
 zK r i=bif ieq i m then ⟨(zK h i).ag,y.ac,y.Outs,y.ai⟩ else zK h i:=by
 have f:zcz r i 8 0=zcz h i 8 0:=zmN 8 0 (λj _ _=>zLe b c a k i j);unfold zK;rw[f,c,zdQ]
 by_cases e:i=m
 .subst e;rw[b,zbu.2 rfl,zbg b];rfl
 .rw [zbY.2 e,cond_false];cases d:i0 i (ln h.aa) with
  |false=>rfl
  |true=>rw[zbv (zF.1 b).1 (zF.1 d).1<|Ne.symm e]
def zli {x y:Mon}(X:MOk x)(k:KeepP x y)(g:y.ac.length=x.ac.length)(t:y.am.length=x.am.length)(d:y.au.length=x.au.length)(o:y.Outs.length<=40)(p:zdz y.ai=true)(tr:zl y.aq 0 3=true)(b:zl y.Own 0 1000000000=true)(a:∀g∈y.ac,ze0 g=true):MOk y :=
 ⟨by rw[g];exact X.g1,by rw[g];exact X.g2,by rw[t,g];exact X.gt,by rw[k.o];exact X.o8,by rw[k.o];exact X.sl,by rw[k.u];exact X.u8,by rw[d];exact X.d8,o,p,tr,b,a,by rw[k.o,k.u];exact X.fit⟩
def zSY {h:ad}(H:HOk h){m:Int}(a:i0 m (ln h.aa)=true){y:Mon}(k:KeepP (ix h.aa m mZ) y)(b:MOk y):HOk {h with aa:=up h.aa m y} :=
 H.up a b rfl H.m12 H.pgs H.b1 H.b2 λq _=>.inl (by unfold cPg;rw[k.o];exact qW _)
def zv5 {h:ad}(S:Safe h){m:Int}(a:i0 m (ln h.aa)=true){y:Mon}(k:KeepP (ix h.aa m mZ) y)(d:MOk y)(hg:y.ac.length=(ix h.aa m mZ).ac.length)(c:∀g,i0 g (ln (ix h.aa m mZ).ac)=true->(ix y.ac g gZ).aw=(ix (ix h.aa m mZ).ac g gZ).aw)(b:y.am=(ix h.aa m mZ).am):Safe {h with aa:=up h.aa m y} :=
 ⟨zSY S.ok a k d,zLm S.rt a rfl rfl rfl hg c b k.o⟩
def zRp {h:ad}(S:Safe h)(m t:Int):Safe (zj8 h m t)/\∀i,zK (zj8 h m t) i=zK h i:=by
 unfold zj8;rw[zkA.2 S.ok,cond_true];cases a:i0 m (ln h.aa) with
 |false=>exact⟨S,λ_=>rfl⟩
 |true=>
  cases b:zl t 0 3 with
  |false=>exact⟨S,λ_=>rfl⟩
  |true=>have X:=S.ok.mon a;have k:KeepP (ix h.aa m mZ) {ix h.aa m mZ with aq:=t}:=⟨rfl,rfl⟩;refine⟨zv5 S a k (zli X k rfl rfl rfl X.outs X.pend b X.own X.gs) rfl (λ_ _=>rfl) rfl,λi=>?_⟩;rw[cond_true,cond_true];refine(zuI (h:=h) (r:={h with aa:=up h.aa m {ix h.aa m mZ with aq:=t}}) a rfl rfl k i).trans ?_;by_cases e:i=m;{subst e;rw[zbu.2 rfl,cond_true];unfold zK;rw[a];rfl};{rw [zbY.2 e];rfl}
def zFX:∀(n i:Nat) (k:az),(zi7 n i k).ay.length=k.ay.length/\(zi7 n i k).aC.length=k.aC.length
 | 0,i,k=>⟨rfl,rfl⟩
 |n+1,i,k=>by have a:=zFX n (i+1) (zbX k (i:Int));have b:=zld k (i:Int);exact⟨a.1.trans b.1,a.2.trans b.2⟩
def zJF:∀(n i:Nat) (k:az),k.ay.length=k.aC.length->∀j,i0 j (ln k.ay)=true->
 ((i:Int)<=j/\j<((i+n:Nat):Int)->ix (zi7 n i k).ay j false=false/\ix (zi7 n i k).aC j sZ=z0)/\
 (¬ ((i:Int)<=j/\j<((i+n:Nat):Int))->ix (zi7 n i k).ay j false=ix k.ay j false/\ix (zi7 n i k).aC j sZ=ix k.aC j sZ)
 | 0,i,k,_,j,_=>⟨λh=>by omega,λ_=>⟨rfl,rfl⟩⟩
 |n+1,i,k,g,j,f=>by have b:=zld k (i:Int);have d:=zww (q:=(i:Int)) g f;have c:=zJF n (i+1) (zbX k (i:Int)) (by rw[b.1,b.2,g]) j (by unfold ln at f ⊢;rwa [b.1]);rw[zi7];by_cases a:((i+1:Nat):Int)<=j/\j<((i+1+n:Nat):Int);{exact⟨λ_=>c.1 a,λh=>absurd (by omega) h⟩};{rw [(c.2 a).1,(c.2 a).2,d.1,d.2];by_cases e:(i:Int)=j;{rw [zbu.2 e];exact⟨λ_=>⟨rfl,rfl⟩,λh=>absurd (by omega) h⟩};{rw [zbY.2 e];exact⟨λh=>absurd (by omega) a,λ_=>⟨rfl,rfl⟩⟩}}
def zQz {k:az}{a b:List k0}(h:KOk k a b):KOk (zjL k) a b:=by have e:=zFX k.ay.length 0 k;refine⟨e.1.trans h.l1,e.2.trans h.l2,λi f=>?_⟩;have c:i0 i (ln k.ay)=true:=(by unfold ln at f ⊢;rwa [h.l1]);have d:=zF.1 c;unfold ln at d;have:=(zJF k.ay.length 0 k (by rw[h.l1,h.l2]) i c).1 ⟨by omega,by omega⟩;unfold zjL;rw[this.1,this.2];rfl
def zJt:∀(n j:Nat) (l:List az),(zu5 n j l).length=l.length
 | 0,_,_=>rfl
 |n+1,j,l=>by rw[zu5,zJt n,zbR]
def zSl:∀(n j:Nat) (l:List az),j+n<=l.length->∀g,0<=g->ix (zu5 n j l) g kZ=if (j:Int)<=g/\g<((j+n:Nat):Int) then zjL (ix l g kZ) else ix l g kZ
 | 0,j,l,_,g,hg=>by rw[if_neg (by omega)];rfl
 |n+1,j,l,a,g,hg=>by rw[zu5,zSl n (j+1) _ (by rw[zbR];omega) g hg];by_cases e:(j:Int)=g;{subst e;rw[if_neg (by omega),if_pos (by omega),zbg<|zF.2 ⟨by omega,by unfold ln;omega⟩]};{rw [zbv (by omega) hg e];by_cases h:((j+1:Nat):Int)<=g/\g<((j+1+n:Nat):Int);{rw [if_pos h,if_pos (by omega)]};{rw [if_neg h,if_neg (by omega)]}}
def zJs:∀(n i:Nat) (l:List Mon),(zof n i l).length=l.length
 | 0,_,_=>rfl
 |n+1,i,l=>by rw[zof,zJs n,zbR]
def zO4:∀(n i:Nat) (l:List Mon),i+n<=l.length->∀m,0<=m->ix (zof n i l) m mZ=if (i:Int)<=m/\m<((i+n:Nat):Int) then zu6 (ix l m mZ) (ix l m mZ).am.length 0 else ix l m mZ
 | 0,i,l,_,m,a=>by rw[if_neg (by omega)];rfl
 |n+1,i,l,b,m,a=>by rw[zof,zO4 n (i+1) _ (by rw[zbR];omega) m a];by_cases e:(i:Int)=m;{subst e;rw[if_neg (by omega),if_pos (by omega),zbg<|zF.2 ⟨by omega,by unfold ln;omega⟩]};{rw [zbv (by omega) a e];by_cases h:((i+1:Nat):Int)<=m/\m<((i+1+n:Nat):Int);{rw [if_pos h,if_pos (by omega)]};{rw [if_neg h,if_neg (by omega)]}}
def zGT (h:ad){m:Int}(a:i0 m (ln h.aa)=true):ix (cold h).aa m mZ=zu6 (ix h.aa m mZ) (ix h.aa m mZ).am.length 0:=by have:=zF.1 a;unfold ln at this;show ix (zof h.aa.length 0 h.aa) m mZ=_;rw[zO4 _ _ _ (by omega) m this.1,if_pos (by omega)]
def ztf (h:ad):(cold h).aa.length=h.aa.length:=zJs _ _ _
def zpR (h:ad)(m:Int):i0 m (ln (cold h).aa)=i0 m (ln h.aa):=by unfold ln;rw[ztf]
def z7r {l a:List Mon}(d:a.length=l.length)(h:∀m,i0 m (ln l)=true->(ix a m mZ).ae=(ix l m mZ).ae)(q:Int):zfw a q=zfw l q:=by have:a.map (λx=>cPg x q)=l.map (λx=>cPg x q):=(by refine List.ext_getElem (by simp[d]) λk b c=>?_;simp only[uR]at b c;have:=h (k:Int) (zF.2 ⟨by omega,by unfold ln;omega⟩);rw[zmD b,zmD c] at this;simp[cPg,this]);unfold zfw;rw[this]
def z8C {h:ad}(H:HOk h):Op h (cold h):=by have c:∀m,i0 m (ln h.aa)=true->ix (cold h).aa m mZ=zu6 (ix h.aa m mZ) (ix h.aa m mZ).am.length 0:=λm a=>zGT h a;have n:∀i q,zb8 (cold h) i q=zb8 h i q:=(by intro i q;unfold zb8;rw[zpR];cases b:i0 i (ln h.aa) with|false=>rfl|true=>rw[c i b];rfl);refine⟨⟨H.m12,H.pgs,by rw[ztf];exact H.n1,by rw[ztf];exact H.n3,rfl,rfl,λy s=>?_,λq r=>?_⟩,⟨ztf h,λi b=>by rw[c i b];rfl,λi b=>by rw[c i b];rfl,λi b=>by rw[c i b];rfl,λi b=>by rw[c i b];rfl,λi b=>by rw[c i b];rfl,λi k _ _=>n i k⟩,λR=>⟨λm a=>?_,λe j=>(by cases j),λe j=>(by cases j)⟩⟩;{obtain⟨m,a,rfl⟩:=zCV s mZ;rw[zpR]at a;rw[c m a];have X:=H.mon a;have k:KeepP (ix h.aa m mZ) (zu6 (ix h.aa m mZ) (ix h.aa m mZ).am.length 0):=⟨rfl,rfl⟩;exact zli X k rfl (zJt _ _ _) rfl X.outs X.pend X.tr X.own X.gs};{rw [z7r (l:=h.aa) (ztf h) (λm a=>by rw[c m a];rfl)];exact H.uq q r};{rw [zpR]at a;rw[c m a];have X:=H.mon a;intro g hg;show KOk (ix (zu5 (ix h.aa m mZ).am.length 0 (ix h.aa m mZ).am) g kZ) (ix (ix h.aa m mZ).ac g gZ).aw (ix h.aa m mZ).ae;have d:i0 g (ln (ix h.aa m mZ).ac)=true:=hg;have f:=zF.1 d;unfold ln at f;have p:=X.gt;rw[zSl _ _ _ (by omega) g f.1,if_pos (by omega)];exact zQz (R.t m a g d)}
def zUV {m g:Int}(c:zl m 0 2=true)(hg:zl g 0 1=true):zdA (zfh m g)=m/\zev (zfh m g)=g/\1<=zfh m g/\zfh m g<=6:=by have d:=zcU.1 c;have e:=zcU.1 hg;have a:m=0\/m=1\/m=2:=(by omega);have b:g=0\/g=1:=(by omega);rcases a with rfl|rfl|rfl<;>rcases b with rfl|rfl<;>decide
def HOk.tag {h:ad}(H:HOk h){m g:Int}(a:i0 m (ln h.aa)=true)(hg:i0 g (ln (ix h.aa m mZ).ac)=true):zl m 0 2=true/\zl g 0 1=true:=by have b:=zF.1 a;have c:=zF.1 hg;have d:=H.n3;have e:=(H.mon a).g2;unfold ln at b c;exact⟨zcU.2 (by omega),zcU.2 (by omega)⟩
def zgX {r:Int}:zdu r=true↔r=0\/r=1\/r=2\/r=3:=by unfold zdu ige ile;rw[qE,jA,jA];omega
def zrC {a b:Int}(h:enough a b=true):zdu a=true/\zdu b=true:=by unfold enough at h;rw[zcb,zcb]at h;exact⟨h.1,h.2.1⟩
def zSJ {a b c:Int}(d:enough a b=true)(e:enough b c=true):enough a c=true:=by have f:=zgX.1 (zrC d).1;have g:=zgX.1 (zrC d).2;have h:=zgX.1 (zrC e).2;rcases f with rfl|rfl|rfl|rfl<;>rcases g with rfl|rfl|rfl|rfl<;>rcases h with rfl|rfl|rfl|rfl<;>revert d e<;>decide
def zVz {a b n:Int}(g:n=1\/n=2)(c:enough a n=true)(d:enough b n=true):zef a b≠0/\enough (zef a b) n=true:=by have e:=zgX.1 (zrC c).1;have f:=zgX.1 (zrC d).1;rcases g with rfl|rfl<;>rcases e with rfl|rfl|rfl|rfl<;>rcases f with rfl|rfl|rfl|rfl<;>revert c d<;>decide
def both_ok (a b:Int):zdu (zef a b)=true:=by
 unfold zef;cases c:zdu a with
 |false=>rfl
 |true=>
  cases d:zdu b with
  |false=>rfl
  |true=>have c:=zgX.1 c;have d:=zgX.1 d;rcases c with rfl|rfl|rfl|rfl<;>rcases d with rfl|rfl|rfl|rfl<;>decide
def zVH {a:Int}(h:zdu a=true):enough a a=true:=by rcases zgX.1 h with rfl|rfl|rfl|rfl<;>decide
def zqP {n:Int}(a:n=1\/n=2):enough 0 n=false:=by rcases a with rfl|rfl<;>decide
def zX3 {s:k0}{o:List k0}(a:s.af≠-1)(b:(zbB o s.af).af≠-1):zbA s o=bif ieq (zef s.aj (zbB o s.af).aj) 0 then z0 else ⟨(zbB o s.af).af,zef s.aj (zbB o s.af).aj⟩:=by unfold zbA;rw[zbY.2 a,zbY.2 b];rfl
def zpS {s:k0}{o:List k0}{n:Int}(c:n=1\/n=2)(h:enough (zbA s o).aj n=true):s.af≠-1/\(zbB o s.af).af≠-1/\(zbA s o).af=(zbB o s.af).af:=by unfold zbA at h ⊢;by_cases a:s.af = -1;{rw [zbu.2 a,cond_true]at h;rw[show z0.aj=0 from rfl,zqP c]at h;cases h};{rw [zbY.2 a,cond_false]at h ⊢;by_cases b:(zbB o s.af).af = -1;{rw [zbu.2 b,cond_true]at h;rw[show z0.aj=0 from rfl,zqP c]at h;cases h};{rw [zbY.2 b,cond_false]at h ⊢;by_cases d:zef s.aj (zbB o s.af).aj=0;{rw [zbu.2 d,cond_true]at h;rw[show z0.aj=0 from rfl,zqP c]at h;cases h};{rw [zbY.2 d];exact⟨a,b,rfl⟩}}}
def zSm {s:k0}{o:List k0}{n:Int}(e:n=1\/n=2)(a:s.af≠-1)(b:(zbB o s.af).af≠-1)(c:enough s.aj n=true)(d:enough (zbB o s.af).aj n=true) :
 (zbA s o).af=(zbB o s.af).af/\enough (zbA s o).aj n=true:=by
 have:=zVz e c d;rw[zX3 a b,zbY.2 this.1];exact⟨rfl,this.2⟩
def zX4 (s:k0)(o:List k0):zdu (zbA s o).aj=true:=by unfold zbA;cases ieq s.af (-1)<;>cases ieq (zbB o s.af).af (-1)<;>cases ieq (zef s.aj (zbB o s.af).aj) 0<;>first|rfl|exact both_ok _ _
def zyZ {b:List ar}{t p:Int}{e:ar}:e∈zcS b t p↔e∈b/\¬ (e.Tag=t/\e.af=p):=by unfold zcS;rw[List.mem_filter];refine and_congr Iff.rfl ?_;unfold zCW;by_cases h:e.Tag=t;{rw [show ine e.Tag t=false by simp[ine,h],cond_false,zD4];simp[h]};{rw [zD4.2 h];simp[h]}
def z4C {b:List ar}{e x:ar}(h:x∈zqa b e):x∈b\/x=e:=by unfold zqa ap at h;have:x∈zcS b e.Tag e.af++[e]:=(by cases a:igt (ln<|zcS b e.Tag e.af++[e]) 6 with|true=>rw[a,cond_true]at h;exact kT h|false=>rw[a,cond_false]at h;exact h);rcases jH.1 this with h|h;{exact .inl (zyZ.1 h).1};{exact .inr (qD.1 h)}
def zbaH {n:Nat}(h:n<=100):wsub .i64 (n:Int) 6=(n:Int)-6:=by unfold wsub IntKind.wrap;simp[IntKind.signed,IntKind.bits];omega
def zWU {b:List ar}(h:zgk b=true)(e:ar):zgk (zqa b e)=true:=by have c:=zDO.1 h;have k:(zcS b e.Tag e.af).length<=6:=qS (uJ _ _) c.2;have d:(zcS b e.Tag e.af++[e]).Pairwise (λy x=>sameKey x y=false):=(by rw[List.pairwise_append];refine⟨c.1.sublist List.filter_sublist,List.pairwise_singleton _ _,λx i y j=>?_⟩;rw[qD.1 j];have:=(zyZ.1 i).2;unfold sameKey;by_cases a:e.Tag=x.Tag;{rw [zbu.2 a,cond_true,zbY];exact λf=>this ⟨a.symm,f.symm⟩};{rw [zbY.2 a];rfl});unfold zqa ap;cases g:igt (ln<|zcS b e.Tag e.af++[e]) 6 with|true=>rw[cond_true,zDO];refine⟨d.sublist<|List.drop_sublist _ _,?_⟩;unfold dp ln;rw[j7,uI,zbaH (by omega),vQ,j7,uI];omega|false=>rw[cond_false,zDO];refine⟨d,?_⟩;have:=jV g;unfold ln at this;omega
def z1A {h r:ad}{m:Int}(c:i0 m (ln h.aa)=true){y:Mon}(b:r.aa=up h.aa m y)(a:r.ag=h.ag)(k:KeepP (ix h.aa m mZ) y)(g:y.ac=(ix h.aa m mZ).ac)(o:y.Outs=(ix h.aa m mZ).Outs)(p:y.ai=(ix h.aa m mZ).ai)(t:y.aq=(ix h.aa m mZ).aq)(w:y.Own=(ix h.aa m mZ).Own):Like h r:=by have e:∀{d:Type} (F:Mon->d),F y=F (ix h.aa m mZ)->∀i,i0 i (ln h.aa)=true->F (ix r.aa i mZ)=F (ix h.aa i mZ):=(by intro d F f i j;rw[b];by_cases e:m=i;{subst e;rw[zbg c];exact f};{rw [zbv (zF.1 c).1 (zF.1 j).1 e]});exact⟨by rw[b,zbR],e Mon.ac g,e Mon.Outs o,e Mon.ai p,e Mon.aq t,e Mon.Own w,λi q _ _=>zLe c b a k i q⟩
def z4F {h:ad}(R:Rt h){m g:Int}(d:i0 m (ln h.aa)=true)(r:i0 g (ln (ix h.aa m mZ).am)=true){k:az}(u:KOk k (ix (ix h.aa m mZ).ac g gZ).aw (ix h.aa m mZ).ae) :
 Rt {h with aa:=up h.aa m {ix h.aa m mZ with am:=up (ix h.aa m mZ).am g k}}:=by
 have f:∀e,zc7 h e=true->zc7 {h with aa:=up h.aa m {ix h.aa m mZ with am:=up (ix h.aa m mZ).am g k}} e=true:=by intro e b;obtain⟨l,n,p⟩:=zgc.1 b;rw[zgc];show i0 (zdA e.Tag) (ln<|up h.aa m _)=true/\i0 (zev e.Tag) (ln (ix (up h.aa m _) (zdA e.Tag) mZ).ac)=true/\below' _ (zbA (zbB (ix (ix (up h.aa m _) (zdA e.Tag) mZ).ac (zev e.Tag) gZ).aw e.af) (ix (up h.aa m _) (zdA e.Tag) mZ).ae)=true;rw[zdQ];refine⟨l,?_⟩;by_cases a:m=zdA e.Tag;{rw [<- a]at l n p ⊢;rw[zbg d];exact⟨n,p⟩};{rw [zbv (zF.1 d).1 (zF.1 l).1 a];exact⟨n,p⟩}
 refine⟨λi s=>?_,λe b=>f e (R.e1 e b),λe b=>f e (R.e2 e b)⟩
 show TOk (ix (up h.aa m _) i mZ)
 have c:i0 i (ln h.aa)=true:=by have:i0 i (ln<|up h.aa m {ix h.aa m mZ with am:=up (ix h.aa m mZ).am g k})=true:=s;rwa [zdQ] at this
 by_cases a:m=i
 .subst a;rw[zbg d];intro j q
  by_cases e:g=j
  .subst e
   show KOk (ix (up _ g k) g kZ) _ _
   rw[zbg r];exact u
  .show KOk (ix (up _ g k) j kZ) _ _
   rw[zbv (zF.1 r).1 (zF.1 q).1 e];exact R.t m d j q
 .rw [zbv (zF.1 d).1 (zF.1 c).1 a];exact R.t i c
def z4r {h:ad}(H:HOk h){m g:Int}(a:i0 m (ln h.aa)=true)(c:i0 g (ln (ix h.aa m mZ).am)=true){k:az}(b:Rt h->KOk k (ix (ix h.aa m mZ).ac g gZ).aw (ix h.aa m mZ).ae) :
 Op h {h with aa:=up h.aa m {ix h.aa m mZ with am:=up (ix h.aa m mZ).am g k}}:=by
 have X:=H.mon a;have kp:KeepP (ix h.aa m mZ) {ix h.aa m mZ with am:=up (ix h.aa m mZ).am g k}:=⟨rfl,rfl⟩;exact⟨zSY H a kp (zli X kp rfl (zbR _ _ _) rfl X.outs X.pend X.tr X.own X.gs),z1A (y:={ix h.aa m mZ with am:=up (ix h.aa m mZ).am g k}) a rfl rfl kp rfl rfl rfl rfl rfl,λR=>z4F R a c (b R)⟩
def zKA {k:az}{a b:List k0}(h:KOk k a b)(p:Int):KOk (filled k a b p) a b:=by unfold filled zdJ;cases d:i0 p (ln k.ay) with|false=>exact h|true=>have f:i0 p (ln k.aC)=true:=(by unfold ln at d ⊢;rw[h.l2,<- h.l1];exact d);have g:i0 p (ln a)=true:=(by unfold ln at d ⊢;rw[<- h.l1];exact d);rw[cond_true,f,cond_true,g,cond_true];refine⟨by rw[zbR];exact h.l1,by rw[zbR];exact h.l2,λi c=>?_⟩;by_cases e:p=i;{subst e;show ix (up _ p _) p sZ=bif ix (up _ p true) p false then _ else _;rw[zbg f,zbg d];rfl};{show ix (up _ p _) i sZ=bif ix (up _ p true) i false then _ else _;rw[zbv (zF.1 f).1 (zF.1 c).1 e,zbv (zF.1 f).1 (zF.1 c).1 e];exact h.at' i c}
def z8D {h:ad}(H:HOk h){m g:Int}(b:i0 m (ln h.aa)=true)(hg:i0 g (ln (ix h.aa m mZ).ac)=true)(a:Int):Op h (zdY h m g a):=
 z4r H b (by unfold ln;rw[(H.mon b).gt];exact hg) λR=>zKA (R.t m b g hg) a
def zZ2 {k:az}{a b:List k0}(h:KOk k a b){p:Int}(c:i0 p (ln a)=true):zfI k p=bif ix k.ay p false then zbA (ix a p sZ) b else z0:=by have d:i0 p (ln k.ay)=true:=(by unfold ln at c ⊢;rw[h.l1];exact c);have e:i0 p (ln k.aC)=true:=(by unfold ln at c ⊢;rw[h.l2];exact c);unfold zfI zlh zdJ;rw[d,e,cond_true,cond_true,h.at' p c];cases ix k.ay p false<;>rfl
def zXX {k:az}{a b:List k0}(h:KOk k a b){p:Int}(c:i0 p (ln a)=true):zfI (filled k a b p) p=zbA (ix a p sZ) b:=by rw[zZ2 (zKA h p) c];have d:i0 p (ln k.ay)=true:=(by unfold ln at c ⊢;rw[h.l1];exact c);have e:i0 p (ln k.aC)=true:=(by unfold ln at c ⊢;rw[h.l2];exact c);have:ix (filled k a b p).ay p false=true:=(by unfold filled zdJ;rw[d,e,c];exact zbg d _ _);rw[this];rfl
def z9Y {h:ad}(H:HOk h){m g a:Int}(i:Bool)(n:Rt h->zc7 h (zRK h m g a)=true):Op h (zvE h m g a i):=by have f:∀(j k:List ar),Like h ⟨h.ag,h.aa,j,k⟩:=λ_ _=>⟨rfl,λ_ _=>rfl,λ_ _=>rfl,λ_ _=>rfl,λ_ _=>rfl,λ_ _=>rfl,λ_ _ _ _=>rfl⟩;have d:∀(b:List ar),(∀e∈b,zc7 h e=true)->Rt h->∀e∈zqa b (zRK h m g a),zc7 h e=true:=(by intro b l R e c;rcases z4C c with c|c;{exact l e c};{rw [c];exact n R});unfold zvE;cases i;{exact⟨⟨H.m12,H.pgs,H.n1,H.n3,zWU H.b1 _,H.b2,H.mons,H.uq⟩,f _ _,λR=>⟨R.t,λe c=>d _ R.e1 R e c,R.e2⟩⟩};{exact⟨⟨H.m12,H.pgs,H.n1,H.n3,H.b1,zWU H.b2 _,H.mons,H.uq⟩,f _ _,λR=>⟨R.t,R.e1,λe c=>d _ R.e2 R e c⟩⟩}
def z3T {b:List ar}{t p:Int}{e:ar}(h:zDX b t p=some e):e∈b/\e.Tag=t/\e.af=p:=by unfold zDX at h;have a:=List.find?_some h;rw[zcb,zbu,zbu]at a;exact⟨uS h,a⟩
def zkg {h:ad}{m g:Int}:zb1 h m g=true↔HOk h/\i0 m (ln h.aa)=true/\i0 g (ln (ix h.aa m mZ).ac)=true:=by unfold zb1;rw[zcb,zcb,zkA]
structure GOk (x:ah):Prop where
 prog:zdR x.ax=true
 a:zl x.A 0 99=true
 pc:zl x.Pc 0 12=true
 w:zdy x.aA 4 8=true
 l:zdy x.aw 4 8=true
 ctl:zlV x.Ctl=true
 pend:zdz x.ai=true
 ex:zkf x.Exit=true
 seen:ile (ln x.aD) 40=true
def ztk {x:ah}:ze0 x=true↔GOk x:=by unfold ze0;simp only[qE];exact⟨λ⟨a,b,c,d,e,f,g,h,i⟩=>⟨a,b,c,d,e,f,g,h,i⟩,λ⟨a,b,c,d,e,f,g,h,i⟩=>⟨a,b,c,d,e,f,g,h,i⟩⟩
def z2w {s:k0}:zeM s 8=true↔s=z0\/(0<=s.af/\s.af<=7/\1<=s.aj/\s.aj<=3):=by unfold zeM;rw[ztC,zpv,zr3];have:wsub .i64 8 1=7:=(by decide);simp only[this,ztC,zcU];simp[igt];constructor;{rintro (h|⟨h,⟨a,b⟩,c⟩);{exact .inl h};{exact .inr ⟨a,b,c⟩}};{intro h;by_cases d:s=z0;{exact .inl d};{rcases h with h|⟨a,b,c⟩;{exact .inl h};{exact .inr ⟨d,⟨a,b⟩,c⟩}}}
def HOk.guest {h:ad}(H:HOk h){m g:Int}(a:i0 m (ln h.aa)=true)(hg:i0 g (ln (ix h.aa m mZ).ac)=true):GOk (ix (ix h.aa m mZ).ac g gZ):=ztk.1 ((H.mon a).gs _ (zl1 hg _))
structure Walked (l:List k0) (p n q:Int):Prop where
 hp:i0 p (ln l)=true
 pg:(ix l p sZ).af=q
 q8:i0 q 8=true
 en:enough (ix l p sZ).aj n=true
def walked {x:ah}(X:GOk x){p n:Int}(a:zf5 x.aw p n=true):Walked x.aw p n (zcP x.aw p n):=by have e:zcP x.aw p n=(zbB x.aw p).af:=(by unfold zcP;rw[a];rfl);unfold zf5 at a;by_cases b:(zbB x.aw p).af = -1;{rw [zbu.2 b]at a;cases a};{rw [zbY.2 b,cond_false,zcb]at a;have c:i0 p (ln x.aw)=true:=(by cases c:i0 p (ln x.aw) with|true=>rfl|false=>exact absurd (by unfold zbB;rw[c];rfl) b);rw[zn3 c] at e b a;rw[e];have d:=z2w.1 ((zrv.1 X.l).1 _ (zl1 c sZ));refine⟨c,rfl,?_,a.1⟩;rcases d with d|d;{rw [d]at b;exact absurd rfl b};{exact zF.2 (by omega)}}
structure Looked (h r:ad) (m g page need q host:Int):Prop where
 op:Op h r
 inn:(ix (ix r.aa m mZ).ae q sZ).af=host
 ne:host≠-1
 en:enough (zbA (ix (ix (ix h.aa m mZ).ac g gZ).aw page sZ) (ix r.aa m mZ).ae).aj need=true
 cp:(zbA (ix (ix (ix h.aa m mZ).ac g gZ).aw page sZ) (ix r.aa m mZ).ae).af=host
 dk:∀k,i0 k 8=true->k≠q->ix (ix r.aa m mZ).au k false=ix (ix h.aa m mZ).au k false
 dq:need=2->ix (ix r.aa m mZ).au q false=true
 d1:need=1->(ix r.aa m mZ).au=(ix h.aa m mZ).au
 dm:∀i,i0 i (ln h.aa)=true->i≠m->(ix r.aa i mZ).au=(ix h.aa i mZ).au
def zPE {h:ad}(S:Safe h){m g a b q:Int}(f:i0 m (ln h.aa)=true)(hg:i0 g (ln (ix h.aa m mZ).ac)=true)(l:b=1\/b=2)(W:Walked (ix (ix h.aa m mZ).ac g gZ).aw a b q)(c:Bool)(d:zfI (zcC h m g) a=zbA (ix (ix (ix h.aa m mZ).ac g gZ).aw a sZ) (ix h.aa m mZ).ae)(i:enough (zfI (zcC h m g) a).aj b=true) :
 Op h (zix h m g a c).1/\(zix h m g a c).2=((ix (ix h.aa m mZ).ae q sZ).af,true)/\(ix (ix h.aa m mZ).ae q sZ).af≠-1/\(zix h m g a c).1.aa=h.aa:=by
 rw[d]at i;have e:=zpS l i;rw[W.pg,zn3<|(S.ok.mon f).hasO W.q8]at e;refine⟨z9Y S.ok c λR=>?_,?_,e.2.1,?_⟩
 .obtain⟨t1,t2⟩:=S.ok.tag f hg;obtain⟨j,k,_⟩:=zUV t1 t2;rw[zgc]
  show i0 (zdA<|zfh m g) _=true/\i0 (zev<|zfh m g) (ln (ix h.aa (zdA<|zfh m g) mZ).ac)=true/\below' ⟨(zfI (zcC h m g) a).af,(zfI (zcC h m g) a).aj⟩ (zbA (zbB (ix (ix h.aa (zdA<|zfh m g) mZ).ac (zev<|zfh m g) gZ).aw a) (ix h.aa (zdA<|zfh m g) mZ).ae)=true
  rw[j,k,zn3 W.hp,d];exact⟨f,hg,zrz.2<|.inr ⟨rfl,zVH<|zX4 _ _⟩⟩
 .show ((zfI (zcC h m g) a).af,true)=_
  rw[d,e.2.2]
 .show (zvE h m g a c).aa=_
  unfold zvE;cases c<;>rfl
def zTP {h:ad}(S:Safe h){m g page need q:Int}(x:i0 m (ln h.aa)=true)(hg:i0 g (ln (ix h.aa m mZ).ac)=true)(D:need=1\/need=2)(W:Walked (ix (ix h.aa m mZ).ac g gZ).aw page need q)(N:Bool){b:List ar}(hb:∀e∈b,zc7 h e=true)(hd:need=2->ix (ix h.aa m mZ).au q false=true) :
 Looked h (ziw h b m g page need q N).1 m g page need q (ziw h b m g page need q N).2.1/\(ziw h b m g page need q N).2.2=true:=by
 have X:=S.ok.mon x;have r:=W.q8;have L:=zn3 (X.hasO W.q8);unfold ziw;cases K:zik b m g page need with
 |true=>
  rw[cond_true];unfold zik at K;cases B:zrF b m g page with
  |none=>rw[B]at K;cases K
  |some e=>rw[B]at K;have A:enough e.aj need=true:=K;obtain⟨f1,f2,f3⟩:=z3T B;obtain⟨t1,t2⟩:=S.ok.tag x hg;obtain⟨b1,b2,_⟩:=zUV t1 t2;obtain⟨_,_,v⟩:=zgc.1 (hb e f1);rw[f2,b1,b2,f3,zn3 W.hp]at v;have T:(⟨e.ad,e.aj⟩:k0)≠z0:=λf=>(by have:e.aj=0:=congrArg k0.aj f;rw[this,zqP D]at A;cases A);rcases zrz.1 v with v|⟨v,h4⟩;{exact absurd v T};{have h5:=zSJ h4 A;have f:=zpS D h5;rw[W.pg,L]at f;have O:e.ad=_:=v;refine⟨⟨Op.refl S.ok,f.2.2.symm.trans v.symm,?_,h5,v.symm,λ_ _ _=>rfl,hd,λ_=>rfl,λ_ _ _=>rfl⟩,rfl⟩;show e.ad≠-1;rw[O,f.2.2];exact f.2.1}
 |false=>
  rw[cond_false];have P:=S.rt.t m x g hg;cases y:zfv h m g page need with
  |false=>rw[cond_false];have E:ix (zcC h m g).ay page false=true/\enough (zfI (zcC h m g) page).aj need=true:=(by unfold zfv at y;cases n:zlh (zcC h m g) page with|false=>rw[n]at y;cases y|true=>rw[n,cond_true]at y;refine⟨?_,?_⟩;{unfold zlh at n;cases hh:zdJ (zcC h m g) page with|false=>rw[hh]at n;cases n|true=>rw[hh]at n;exact n};{cases hz:ieq (zfI (zcC h m g) page).af (-1) with|true=>rw[hz]at y;cases y|false=>rw[hz]at y;simpa using y});have H:zfI (zcC h m g) page=zbA (ix (ix (ix h.aa m mZ).ac g gZ).aw page sZ) (ix h.aa m mZ).ae:=(by have Z:=zZ2 P W.hp;have h1:ix (ix (ix h.aa m mZ).am g kZ).ay page false=true:=E.1;rw[h1]at Z;exact Z);obtain⟨U,V,Y,d⟩:=zPE S x hg D W N H E.2;rw[V];have J:=E.2;rw[H]at J;have f:=zpS D J;rw[W.pg,L]at f;exact⟨⟨U,by rw[d],Y,by rw[d];exact J,by rw[d];exact f.2.2,λ_ _ _=>by rw[d],λe=>by rw[d];exact hd e,λ_=>by rw[d],λ_ _ _=>by rw[d]⟩,rfl⟩
  |true=>
   rw[cond_true];have M:=zPN S.ok (m:=m) (p:=q) need x r;have c:i0 m (ln (C0 h m q need).aa)=true:=(by rw[M.op.like.has];exact x);have C:(ix (C0 h m q need).aa m mZ).ac=(ix h.aa m mZ).ac:=M.op.like.g m x;have l:i0 g (ln (ix (C0 h m q need).aa m mZ).ac)=true:=(by rw[C];exact hg);have G:Safe (C0 h m q need):=M.op.safe S;have F:=z8D G.ok c l page;have S2:Safe (zdY (C0 h m q need) m g page):=F.safe G;have R:i0 m (ln (zdY (C0 h m q need) m g page).aa)=true:=(by rw[F.like.has];exact c);have u:ix (zdY (C0 h m q need) m g page).aa m mZ={ix (C0 h m q need).aa m mZ with am:=up (ix (C0 h m q need).aa m mZ).am g (filled (zcC (C0 h m q need) m g) (zcZ (C0 h m q need) m g) (ix (C0 h m q need).aa m mZ).ae page)}:=zbg c _ _;have Q:i0 g (ln (ix (zdY (C0 h m q need) m g page).aa m mZ).ac)=true:=(by rw[u];exact l);have w:(ix (zdY (C0 h m q need) m g page).aa m mZ).ac=(ix h.aa m mZ).ac:=(by rw[u];exact C);have W2:Walked (ix (ix (zdY (C0 h m q need) m g page).aa m mZ).ac g gZ).aw page need q:=(by rw[w];exact W);have H:zfI (zcC (zdY (C0 h m q need) m g page) m g) page=zbA (ix (ix (ix (zdY (C0 h m q need) m g page).aa m mZ).ac g gZ).aw page sZ) (ix (zdY (C0 h m q need) m g page).aa m mZ).ae:=(by have:zcC (zdY (C0 h m q need) m g page) m g=filled (zcC (C0 h m q need) m g) (zcZ (C0 h m q need) m g) (ix (C0 h m q need).aa m mZ).ae page:=(by unfold zcC;rw[u];exact zbg (by unfold ln;rw[(G.ok.mon c).gt];exact l) _ _);rw[this];refine(zXX (p:=page) (G.rt.t m c g l) (by rw[C];exact W.hp)).trans ?_;rw[u]);have z:(ix (zdY (C0 h m q need) m g page).aa m mZ).ae=(ix (C0 h m q need).aa m mZ).ae:=by rw[u]
   have j:=zn3 ((G.ok.mon c).hasO r);have a:=zSm (s:=ix (ix (ix h.aa m mZ).ac g gZ).aw page sZ) (o:=(ix (C0 h m q need).aa m mZ).ae) D (by rw[W.pg];have:=zF.1 r;omega) (by rw[W.pg,j];exact M.inn) W.en (by
    rw[W.pg,j];rcases D with rfl|rfl
    .rcases (G.ok.mon c).enough1 r M.inn with e|e<;>rw [e]<;>decide
    .rw [M.ri (by decide)];decide)
   have J:enough (zfI (zcC (zdY (C0 h m q need) m g page) m g) page).aj need=true:=(by rw[H,w,z];exact a.2);obtain⟨U,V,Y,d⟩:=zPE S2 R Q D W2 N H J;rw[V];have I:=a.1;rw[W.pg,j]at I;refine⟨⟨(M.op.trans F).trans U,by rw[d],Y,by rw[d,z];exact a.2,by rw[d,z];exact I,λk n f=>?_,λe=>?_,λe=>?_,λi hi f=>?_⟩,rfl⟩;{rw [d,u];exact M.dk k n f};{rw [d,u];exact M.dt (by rw[e];decide)};{rw [d,u];exact M.d0 (by rw[e];decide)};{rw [d];show (ix (up (C0 h m q need).aa m _) i mZ).au=_;rw[zbv (zF.1 x).1 (zF.1 hi).1<|Ne.symm f];exact M.dm i hi f}
def zF3 {n:Int}:zkj n=true↔n=1\/n=2:=by unfold zkj;by_cases h:n=1;{rw [zbu.2 h];simp[h]};{rw [zbY.2 h,cond_false,zbu];simp[h]}
def zqU {h:ad}{m g page need:Int}:zca h m g page need=true↔zb1 h m g=true/\(need=1\/need=2)/\zf5 (zcZ h m g) page need=true:=by unfold zca;rw[zcb,zcb,zF3]
def zPG {h:ad}(S:Safe h){m g page need:Int}(j:Bool)(t:zca h m g page need=true){b:List ar}(r:∀e∈b,zc7 h e=true) :
 Looked h (lookOf h b m g page need j).1 m g page need (zcP (zcZ h m g) page need) (lookOf h b m g page need j).2.1/\(lookOf h b m g page need j).2.2=true:=by
 obtain⟨w,A,B⟩:=zqU.1 t;obtain⟨_,a,hg⟩:=zkg.1 w;have W:=walked (S.ok.guest a hg) B;unfold lookOf;rw[t,cond_true];rcases A with rfl|rfl
 .rw [show ieq 1 2=false by decide,cond_false]
  exact zTP S a hg (.inl rfl) W j r (λe=>absurd e (by decide))
 .rw [show ieq 2 2=true by decide,cond_true]
  obtain⟨d,C⟩:=zK7 S.ok a (zcP (zcZ h m g) page 2);have p:i0 m (ln (zbL h m<|zcP (zcZ h m g) page 2).aa)=true:=by rw[d.like.has];exact a
  have f:ix (zbL h m<|zcP (zcZ h m g) page 2).aa m mZ={ix h.aa m mZ with au:=up (ix h.aa m mZ).au (zcP (zcZ h m g) page 2) true}:=zbg a _ _;have x:=(S.ok.mon a).hasD W.q8;obtain⟨L,y⟩:=zTP (d.safe S) p (g:=g) (page:=page) (need:=2) (q:=zcP (zcZ h m g) page 2) (by rw[f];exact hg) (.inr rfl) (by rw[f];exact W) j (b:=b) (λe z=>by
   obtain⟨l,u,v⟩:=zgc.1 (r e z);rw[zgc];have n:i0 (zdA e.Tag) (ln (zbL h m<|zcP (zcZ h m g) page 2).aa)=true:=by rw[d.like.has];exact l
   refine⟨n,by rw[d.like.g _ l];exact u,?_⟩
   rw[d.like.g _ l];have:(ix (zbL h m<|zcP (zcZ h m g) page 2).aa (zdA e.Tag) mZ).ae=(ix h.aa (zdA e.Tag) mZ).ae:=by show (ix (up h.aa m _) _ mZ).ae=_;by_cases c:m=zdA e.Tag;{rw [<- c,zbg a]};{rw [zbv (zF.1 a).1 (zF.1 l).1 c]}
   rw[this];exact v) (λ_=>by rw[f];exact zbg x _ _)
  refine⟨⟨d.trans L.op,L.inn,L.ne,?_,?_,λk s c=>?_,L.dq,λe=>absurd e (by decide),λi n c=>?_⟩,y⟩
  .have:=L.en;rw[f] at this;exact this
  .have:=L.cp;rw[f] at this;exact this
  .rw [L.dk k s c,f];exact zbv (zF.1 W.q8).1 (zF.1 s).1 (Ne.symm c) _ _
  .rw [L.dm i (by rw[d.like.has];exact n) c]
   show (ix (up h.aa m _) i mZ).au=_
   rw[zbv (zF.1 a).1 (zF.1 n).1<|Ne.symm c]
def zOC {x y:Int}(a : -9223372036854775808<=x+y)(b:x+y<=9223372036854775807):zM .i64 x y=x+y:=by unfold zM;simp only[IntKind.wrap,IntKind.signed,IntKind.bits];simp;omega
def zJA {n:Nat}{P:Int->Prop}(h:∀i:Fin n,P ((i.val:Nat):Int)){x:Int}(a:0<=x)(b:x<n):P x:=by have:=h ⟨x.toNat,by omega⟩;simpa [show ((x.toNat:Nat):Int)=x by omega] using this
def zUh {p:Int}:zdz p=true↔0<=p/\p<=255:=by unfold zdz;exact zcU
def zPW {p:Int}(h:zdz p=true):zdz (zkB p)=true:=by have a:=zUh.1 h;exact zJA (n:=256) (P:=λx=>zdz (zkB x)=true) (by decide +kernel) a.1 (by omega)
def zPV {p:Int}(h:zdz p=true)(n:Int):zdz (zsX p n)=true:=by unfold zsX zhY;rw[h,cond_true];cases e:zl n 0 7 with|false=>exact h|true=>rw[cond_true];have b:=zUh.1 h;have a:=zcU.1 e;exact zJA (n:=256) (P:=λx=>∀k,0<=k->k<(8:Int)->zdz (wor .i64 x<|zpA .i64 1 k)=true) (λi k c d=>zJA (n:=8) (P:=λk=>zdz (wor .i64 ((i.val:Nat):Int)<|zpA .i64 1 k)=true) (by revert i;decide +kernel) c d) b.1 (by omega) n a.1 (by omega)
structure GKeep (x y:ah):Prop where
 ok:GOk y
 live:y.aw=x.aw
def zYz {x:ah}(X:GOk x){c:Int}(b:zl c 0 12=true):GOk {x with Pc:=c}:=⟨X.prog,X.a,b,X.w,X.l,X.ctl,X.pend,X.ex,X.seen⟩
def zYy {x:ah}(X:GOk x){c:Int}(a:zl c 0 99=true):GOk {x with A:=c}:=⟨X.prog,a,X.pc,X.w,X.l,X.ctl,X.pend,X.ex,X.seen⟩
def zjN {x:ah}(X:GOk x):GKeep x (zck x):=by unfold zck;have a:=zcU.1 X.pc;cases h:ige x.Pc 12 with|true=>exact⟨zYz X (by decide),rfl⟩|false=>have:¬ x.Pc≥12:=jV h;refine⟨zYz X ?_,rfl⟩;rw[zOC (by omega) (by omega)];exact zcU.2 (by omega)
def zSS {x:ah}(X:GOk x)(n:Int):GKeep x (saw x n):=by unfold saw;cases h:ilt (ln x.aD) 40 with|false=>exact⟨X,rfl⟩|true=>have:ln x.aD<40:=qF h;refine⟨⟨X.prog,X.a,X.pc,X.w,X.l,X.ctl,X.pend,X.ex,qM ?_⟩,rfl⟩;unfold ln ap at *;simp;omega
def zjO {x:ah}(X:GOk x){e:aE}(b:zkf e=true):GKeep x (stopped x e):=⟨⟨X.prog,X.a,X.pc,X.w,X.l,X.ctl,X.pend,b,X.seen⟩,rfl⟩
def zW8 {x:ah}(X:GOk x){p:Int}(b:zdz p=true):GKeep x {x with ai:=p}:=⟨⟨X.prog,X.a,X.pc,X.w,X.l,X.ctl,b,X.ex,X.seen⟩,rfl⟩
def zW5 {x:ah}(X:GOk x)(b:Bool):GKeep x {x with aG:=b}:=⟨⟨X.prog,X.a,X.pc,X.w,X.l,X.ctl,X.pend,X.ex,X.seen⟩,rfl⟩
def zW6 {x:ah}(X:GOk x):GKeep x (held x):=⟨(zjN (zW5 X true).ok).ok,(zjN (zW5 X true).ok).live⟩
def z1g {x:ah}(X:GOk x){v:Int}(c:zl v 0 99=true):GKeep x (loaded x v):=by have a:=zSS (zYy X c) v;have b:=zjN a.ok;exact⟨b.ok,b.live.trans a.live⟩
def zMs {x:ah}(X:GOk x):GKeep x (interrupted x):=by unfold interrupted;cases ziY x with|false=>exact⟨X,rfl⟩|true=>have a:=zW8 X (zPW X.pend);rw[cond_true];exact⟨(zSS a.ok _).ok,(zSS a.ok _).live⟩
def zIf {p:List Ins}(h:zdR p=true)(i:Int):zeV (zcx p i)=true:=by unfold zcx;cases a:i0 i (ln p) with|false=>rfl|true=>unfold zdR at h;rw[zcb,qO]at h;exact h.1 _ (zl1 a _)
def z9Q {i:Ins}(h:zeV i=true)(a:i.Op=3\/i.Op=4):0<=i.X/\i.X<=15:=by unfold zeV at h;rcases a with e|e<;>rw [e]at h<;>exact zcU.1 h
def z1p {i:Ins}(h:zeV i=true)(a:i.Op=5\/i.Op=6):0<=i.X/\i.X<=99:=by unfold zeV at h;rcases a with e|e<;>rw [e]at h<;>exact zcU.1 h
def zbaq {i:Ins}(h:zeV i=true)(a:i.Op=8):0<=i.X/\i.X<=11:=by unfold zeV at h;rw[a]at h;exact zcU.1 h
def zbap {i:Ins}(h:zeV i=true)(a:i.Op=1):0<=i.X/\i.X<=99:=by unfold zeV at h;rw[a]at h;exact zcU.1 h
def zYA {x:ah}(X:GOk x):GKeep x (plainly x):=by have M:=zjN X;have b:=zIf X.prog x.Pc;unfold plainly;cases ine (zbf x) 2 with|true=>exact⟨X,rfl⟩|false=>rw[cond_false];(cases zl x.A 0 99 with|false=>exact M|true=>rw[cond_true];(cases zl (zcx x.ax x.Pc).X 0 99 with|false=>exact M|true=>rw[cond_true];by_cases c:(zcx x.ax x.Pc).Op=1;{rw [zbu.2 c,cond_true];exact⟨zYy M.ok<|zcU.2<|zbap b c,M.live⟩};{rw [zbY.2 c,cond_false];by_cases d:(zcx x.ax x.Pc).Op=2;{rw [zbu.2 d,cond_true];refine⟨zYy M.ok ?_,M.live⟩;have f:=zcU.1 X.a;have i:0<=(zcx x.ax x.Pc).X/\(zcx x.ax x.Pc).X<=99:=(by unfold zeV at b;rw[d]at b;exact zcU.1 b);rw[zcU];unfold zqF;rw[zOC (by omega) (by omega)];have g:=Int.tmod_nonneg (a:=x.A+(zcx x.ax x.Pc).X) 100 (by omega);have h:=Int.tmod_lt_of_pos (x.A+(zcx x.ax x.Pc).X) (show (0:Int)<100 by omega);omega};{rw [zbY.2 d,cond_false];by_cases e:(zcx x.ax x.Pc).Op=8;{rw [zbu.2 e,cond_true];cases ieq x.A 0 with|true=>have:=zbaq b e;exact⟨zYz M.ok<|zcU.2 (by omega),M.live⟩|false=>exact M};{rw [zbY.2 e];exact M}}}))
def zsW {c:LI}:zcK c=true↔(∀x∈c,zl x 0 99=true)/\ln c=4:=by unfold zcK;rw[zcb,qO,zbu]
def zmM (h:ad)(m:Int):∀(n i:Nat),(zcz h m n i).length=n
 | 0,_=>rfl
 |n+1,i=>by rw[zcz,qX,zmM h m n]
def zLg (h:ad)(m:Int):∀(n i k:Nat) (a:k<(zcz h m n i).length),(zcz h m n i)[k]=zb8 h m ((i+k:Nat):Int)
 | 0,i,k,a=>by simp[zcz]at a
 |n+1,i,k,a=>by cases k with|zero=>rfl|succ k=>have:=zLg h m n (i+1) k (by simpa [zcz] using a);simp only[zcz,List.getElem_cons_succ];rw[this];congr 1;omega
def zp7 {h:ad}{m q:Int}(b:i0 q 8=true)(d:LI):ix (zcz h m 8 0) q d=zb8 h m q:=by have c:=zF.1 b;have a:q.toNat<(zcz h m 8 0).length:=(by rw[zmM];omega);have:=zmD a d;rw[show ((q.toNat:Nat):Int)=q by omega] at this;rw[this,zLg];congr 1;omega
def zt9 (h:ad)(m:Int):ln (zcz h m 8 0)=8:=by unfold ln;rw[zmM];rfl
def zzr {h:ad}(H:HOk h){m p:Int}(b:i0 m (ln h.aa)=true)(a:i0 p 8=true):zcK (zb8 h m p)=true:=by have X:=H.mon b;rw[<- zlq H b a];by_cases e:(ix (ix h.aa m mZ).ae p sZ).af = -1;{rw [zbu.2 e];exact((zpW<|X.slot a).1 (X.fit p a)).1 e};{rw [zbY.2 e];exact zPT H.pgs _}
def zyj {h:ad}(H:HOk h){m:Int}(b:i0 m (ln h.aa)=true):zcc (zK h m)=true:=by have X:=H.mon b;unfold zK;rw[b,cond_true];unfold zcc zl3;rw[zcb,qO];refine⟨X.gs,?_⟩;simp only[qE,zcb,qO,zbu,zcU];refine⟨⟨λc d=>?_,zt9 h m⟩,⟨?_,?_⟩,?_,X.pend⟩;{obtain⟨i,a,rfl⟩:=zCV d [];rw[zt9]at a;rw[zp7 a];exact zzr H b a};{unfold ln;have:=X.g1;omega};{unfold ln;have:=X.g2;omega};{unfold ile ln;have:=X.outs;exact qM (by omega)}
structure SimT (h r:ad) (m:Int) (f:ak->ak):Prop where
 safe:Safe r
 seen:∀i,zK r i=bif ieq i m then f (zK h i) else zK h i
 len:r.aa.length=h.aa.length
def SimT.trans {a b c:ad}{m:Int}{f g:ak->ak}(x:SimT a b m f)(y:SimT b c m g):SimT a c m (λt=>g (f t)):=by refine⟨y.safe,λi=>?_,y.len.trans x.len⟩;rw[y.seen i,x.seen i];cases ieq i m<;>rfl
def Op.sim {h r:ad}(k:Op h r)(S:Safe h)(m:Int):SimT h r m id:=⟨k.safe S,λi=>by rw[k.like.seen i];cases ieq i m<;>rfl,k.like.len⟩
def SimT.congr {h r:ad}{m:Int}{f g:ak->ak}(x:SimT h r m f)(e:f (zK h m)=g (zK h m)):SimT h r m g:=by refine⟨x.safe,λi=>?_,x.len⟩;rw[x.seen i];by_cases a:i=m;{subst a;rw[zbu.2 rfl,cond_true,cond_true,e]};{rw [zbY.2 a];rfl}
def SimT.has {h r:ad}{m:Int}{f:ak->ak}(x:SimT h r m f)(i:Int):i0 i (ln r.aa)=i0 i (ln h.aa):=by unfold ln;rw[x.len]
def SimT.refl {h:ad}(S:Safe h)(m:Int):SimT h h m id:=⟨S,λi=>by cases ieq i m<;>rfl,rfl⟩
def zv6 {h:ad}(S:Safe h){m q a:Int}(l:i0 m (ln h.aa)=true)(f:i0 q 8=true)(J:(ix (ix h.aa m mZ).ae q sZ).af=a)(y:a≠-1)(c v:Int) :
 SimT h {h with ag:=zbO h.ag a c v} m (λb=>{b with ag:=zbO b.ag q c v})/\cellAt h.ag a c=cellAt (zK h m).ag q c:=by
 have H:=S.ok;have X:=H.mon l;have N:=X.slot f;have E:=hasM H N (by rw[J];exact y)
 rw[J]at E;have z:ix h.ag a []=zb8 h m q:=by have:=zlq H l f;rw[J,zbY.2 y,cond_false,zlp E] at this;exact this
 have n:ln (zb8 h m q)=4:=(zsW.1<|zzr H l f).2;have d:(zK h m).ag=zcz h m 8 0:=by unfold zK;rw[l];rfl
 have C:ziy h.ag a c=i0 c 4:=by unfold ziy;rw[E,cond_true,z,n]
 have D:ziy (zcz h m 8 0) q c=i0 c 4:=by unfold ziy;rw[zt9,f,cond_true,zp7 f,n]
 have u:cellAt h.ag a c=cellAt (zK h m).ag q c:=by rw[d];unfold cellAt;rw[C,D,z,zp7 f]
 refine⟨?_,u⟩;cases A:i0 c 4 with
 |false=>have s:zbO h.ag a c v=h.ag:=(by unfold zbO;rw[C,A];rfl);rw[s];refine(SimT.refl S m).congr ?_;show zK h m={zK h m with ag:=zbO (zK h m).ag q c v};rw[d];have B:zbO (zcz h m 8 0) q c v=zcz h m 8 0:=(by unfold zbO;rw[D,A];rfl);rw[B,<- d]
 |true=>
  cases K:zl v 0 99 with
  |false=>have s:zbO h.ag a c v=h.ag:=(by unfold zbO;rw[C,A,K];rfl);rw[s];refine(SimT.refl S m).congr ?_;show zK h m={zK h m with ag:=zbO (zK h m).ag q c v};rw[d];have B:zbO (zcz h m 8 0) q c v=zcz h m 8 0:=(by unfold zbO;rw[D,A,K];rfl);rw[B,<- d]
  |true=>have s:zbO h.ag a c v=up h.ag a (up (zb8 h m q) c v):=(by unfold zbO;rw[C,A,K,z];rfl);have B:zbO (zcz h m 8 0) q c v=up (zcz h m 8 0) q (up (zb8 h m q) c v):=(by unfold zbO;rw[D,A,K,zp7 f];rfl);have G:zcK (up (zb8 h m q) c v)=true:=(by have:=zsW.1 (zzr H l f);rw[zsW,zdQ];refine⟨λx O=>?_,this.2⟩;rcases qY O with h|h;{exact this.1 x h};{rw [h];exact K});have P:=(zF.1 E).1;have L:HOk {h with ag:=zbO h.ag a c v}:=(by rw[s];refine⟨by show (up _ _ _).length=12;rw[zbR];exact H.m12,λx O=>?_,H.n1,H.n3,H.b1,H.b2,H.mons,H.uq⟩;rcases qY O with h|h;{exact H.pgs x h};{rw [h];exact G});refine⟨⟨L,⟨S.rt.t,S.rt.e1,S.rt.e2⟩⟩,λi=>?_,rfl⟩;have r:∀i k,i0 i (ln h.aa)=true->i0 k 8=true->¬ (i=m/\k=q)->zb8 {h with ag:=zbO h.ag a c v} i k=zb8 h i k:=(by intro i k w g I;rw[<- zlq L (m:=i) (p:=k) w g,<- zlq H w g];show (cond (ieq (ix (ix h.aa i mZ).ae k sZ).af<|-1) _<|zcy (zbO h.ag a c v) _)=_;by_cases e:(ix (ix h.aa i mZ).ae k sZ).af = -1;{rw [zbu.2 e];rfl};{rw [zbY.2 e,cond_false,cond_false,s];exact zCY P (λe=>I (H.uniq w g l f e J P))});have F:zb8 {h with ag:=zbO h.ag a c v} m q=up (zb8 h m q) c v:=(by rw[<- zlq L (m:=m) (p:=q) l f];show (cond (ieq (ix (ix h.aa m mZ).ae q sZ).af<|-1) _<|zcy (zbO h.ag a c v) (ix (ix h.aa m mZ).ae q sZ).af)=_;rw[J,zbY.2 y,cond_false,s];exact zCX E);by_cases w:i=m;{subst w;rw[zbu.2 rfl,cond_true];unfold zK;show (cond (i0 i<|ln h.aa) _ _)=_;rw[l,cond_true,cond_true];show ak.mk (zcz {h with ag:=zbO h.ag a c v} i 8 0) _ _ _=ak.mk (zbO (zcz h i 8 0) q c v) _ _ _;congr 1;rw[B];refine zNT [] (by rw[zbR,zmM,zmM]) λk g=>?_;rw[zt9]at g;rw[zp7 g];by_cases e:q=k;{subst e;rw[zbg (by rw[zt9];exact f),F]};{rw [zbv (zF.1 f).1 (zF.1 g).1 e,zp7 g];exact r i k l g (λh=>e h.2.symm)}};{rw [zbY.2 w,cond_false];unfold zK;show (cond (i0 i<|ln h.aa) _ _)=_;cases M:i0 i (ln h.aa) with|false=>rfl|true=>rw[cond_true,cond_true];show ak.mk (zcz {h with ag:=zbO h.ag a c v} i 8 0) _ _ _=_;rw[zmN 8 0 λj C D=>r i (j:Int) M (zF.2 (by omega)) λh=>w h.1]}
def zqy {h:ad}(S:Safe h){m g:Int}(a:i0 m (ln h.aa)=true)(hg:i0 g (ln (ix h.aa m mZ).ac)=true){y:ah}(k:GKeep (gOf h m g) y):SimT h (zls h m g y) m (λb=>zeK b g y):=by have X:=S.ok.mon a;have kp:KeepP (ix h.aa m mZ) {ix h.aa m mZ with ac:=up (ix h.aa m mZ).ac g y}:=⟨rfl,rfl⟩;refine⟨zv5 S a kp (zli X kp (zbR _ _ _) rfl rfl X.outs X.pend X.tr X.own λz d=>?_) (zbR _ _ _) (λj c=>?_) rfl,λi=>?_,zbR _ _ _⟩;{rcases qY d with h|h;{exact X.gs z h};{rw [h];exact ztk.2 k.ok}};{show (ix (up (ix h.aa m mZ).ac g y) j gZ).aw=_;by_cases e:g=j;{subst e;rw[zbg hg];exact k.live};{rw [zbv (zF.1 hg).1 (zF.1 c).1 e]}};{refine(zuI (h:=h) (r:=zls h m g y) a rfl rfl kp i).trans ?_;by_cases e:i=m;{subst e;rw[zbu.2 rfl,cond_true,cond_true];unfold zeK zK;rw[a];rfl};{rw [zbY.2 e];rfl}}
def zUG {h:ad}(S:Safe h){m:Int}(a:i0 m (ln h.aa)=true){y:Mon}(kp:KeepP (ix h.aa m mZ) y)(d:MOk y)(hg:y.ac=(ix h.aa m mZ).ac)(c:y.am=(ix h.aa m mZ).am) :
 SimT h {h with aa:=up h.aa m y} m (λb=>{b with Outs:=y.Outs,ai:=y.ai}):=by
 refine⟨zv5 S a kp d (by rw[hg]) (λj _=>by rw[hg]) c,λi=>?_,zbR _ _ _⟩
 refine(zuI (h:=h) (r:={h with aa:=up h.aa m y}) a rfl rfl kp i).trans ?_
 by_cases e:i=m
 .subst e;rw[zbu.2 rfl,cond_true,cond_true];unfold zK;rw[a,hg];rfl
 .rw [zbY.2 e];rfl
def zfG {h:ad}{m:Int}(a:i0 m (ln h.aa)=true):zK h m=⟨zcz h m 8 0,(ix h.aa m mZ).ac,(ix h.aa m mZ).Outs,(ix h.aa m mZ).ai⟩:=by unfold zK;rw[a];rfl
def z2t {h:ad}(S:Safe h){m:Int}(a:i0 m (ln h.aa)=true):SimT h (owned h m) m id:=by unfold owned;cases b:ilt (ix h.aa m mZ).Own 1000000000 with|false=>exact SimT.refl S m|true=>rw[cond_true];have X:=S.ok.mon a;have d:=zcU.1 X.own;have c:(ix h.aa m mZ).Own<1000000000:=qF b;have kp:KeepP (ix h.aa m mZ) {ix h.aa m mZ with Own:=zM .i64 (ix h.aa m mZ).Own 1}:=⟨rfl,rfl⟩;refine(zUG S a kp (zli X kp rfl rfl rfl X.outs X.pend X.tr ?_ X.gs) rfl rfl).congr ?_;{show zl (zM .i64 (ix h.aa m mZ).Own 1) 0 1000000000=true;rw[zOC (by omega) (by omega),zcU];omega};{rw [zfG a];rfl}
def zZI {h:ad}(S:Safe h){m:Int}(a:i0 m (ln h.aa)=true)(n:Int):SimT h (zot h m n) m (λb=>zow b n):=by unfold zot;have X:=S.ok.mon a;cases c:ilt (ln (ix h.aa m mZ).Outs) 40 with|false=>refine(SimT.refl S m).congr ?_;rw[zfG a];unfold zow;rw[c];rfl|true=>rw[cond_true];have d:ln (ix h.aa m mZ).Outs<40:=qF c;have kp:KeepP (ix h.aa m mZ) {ix h.aa m mZ with Outs:=ap (ix h.aa m mZ).Outs [n]}:=⟨rfl,rfl⟩;refine(zUG S a kp (zli X kp rfl rfl rfl ?_ X.pend X.tr X.own X.gs) rfl rfl).congr ?_;{show (ap (ix h.aa m mZ).Outs [n]).length<=40;unfold ln ap at *;simp;omega};{rw [zfG a];unfold zow;rw[c];rfl}
def ztN {h:ad}{m g:Int}(a:i0 m (ln h.aa)=true)(hg:i0 g (ln (ix h.aa m mZ).ac)=true):gAt (zK h m) g=gOf h m g:=by rw[zfG a];unfold gAt;show (cond (i0 g<|ln (ix h.aa m mZ).ac) _ _)=_;rw[hg];rfl
def zOD {x:ah}(h:zbf x=3\/zbf x=4\/zbf x=5\/zbf x=6):(zcx x.ax x.Pc).Op=zbf x:=by unfold zbf at h ⊢;cases e:canRun x with|false=>simp[e]at h|true=>simp only[e,cond_true]at h ⊢;(cases f:ziY x with|true=>simp[f]at h|false=>simp only[f,cond_false]at h ⊢;unfold zxE at h ⊢;by_cases a:(zcx x.ax x.Pc).Op=3;{rw [a];rfl};{rw [zbY.2 a,cond_false]at h ⊢;by_cases b:(zcx x.ax x.Pc).Op=4;{rw [b];rfl};{rw [zbY.2 b,cond_false]at h ⊢;by_cases c:(zcx x.ax x.Pc).Op=5;{rw [c];rfl};{rw [zbY.2 c,cond_false]at h ⊢;by_cases d:(zcx x.ax x.Pc).Op=6;{rw [d];rfl};{rw [zbY.2 d,cond_false]at h ⊢;cases g:ieq (zcx x.ax x.Pc).Op 7<;>simp [g]at h}}}})
def z7n {x:ah}(X:GOk x){w:Int}(a:zbf x=w)(h:w=3\/w=4):0<=D0 x/\D0 x<=15:=by have e:D0 x=(zcx x.ax x.Pc).X:=(by unfold D0;rcases h with e|e;{rw [a,e];rfl};{rw [a,e];rfl});rw[e];exact z9Q (zIf X.prog _) (by rw[zOD (by omega),a];exact h)
def z7o {a:Int}(b:0<=a)(c:a<=15):zl (zbi a) 0 3=true/\i0 (zdi a) 4=true :=
 zJA (n:=16) (P:=λa=>zl (zbi a) 0 3=true/\i0 (zdi a) 4=true) (by decide) b (by omega)
def zYp {p:Int}(h:zl p 0 3=true)(w:Bool):zkf (zrD p w)=true:=by unfold zkf zrD;simp[ieq,h]
def z04 {n:Int}(h:zl n 0 99=true):zkf (zyN n)=true:=by unfold zkf zyN;simp[ieq,h]
def z3S {n:Int}(h:zl n 0 99=true):zkf (zxF n)=true:=by unfold zkf zxF;simp[ieq,h]
def z3Y {x:ah}(X:GOk x)(t:Int){w:Int}(d:zbf x=w):GKeep x (zkc x t w):=by have c:=zIf X.prog x.Pc;unfold zkc;by_cases b:w=6;{rw [zbu.2 b];exact zjO X (z04<|zcU.2<|z1p c (by rw[zOD (by omega),d];omega))};{rw [zbY.2 b,cond_false];by_cases a:w=5;{rw [zbu.2 a];cases zhI t 1 with|true=>exact zjO X (z3S<|zcU.2<|z1p c (by rw[zOD (by omega),d];omega))|false=>rw[a];exact zjN X};{rw [zbY.2 a];rw[Bool.false_and,cond_false];cases e:(ieq w 7&&zhI t 2) with|true=>exact zjO X rfl|false=>rw[cond_false];cases ieq w 7;{exact zjN X};{exact zW6 X}}}
def zXf {a:Type}(g:Int):i0 g (ln ([]:List a))=false:=by cases h:i0 g (ln ([]:List a)) with|false=>rfl|true=>have:=zF.1 h;simp[ln] at this;omega
def z3d {m:List LI}(h:∀c∈m,zcK c=true)(p c:Int):zl (cellAt m p c) 0 99=true:=by unfold cellAt ziy;cases b:i0 p (ln m) with|false=>rfl|true=>rw[cond_true];(cases a:i0 c (ln<|ix m p []) with|false=>rfl|true=>rw[cond_true];exact(zsW.1<|h _<|zl1 b []).1 _ (zl1 a 0))
def HOk.seenG {h:ad}(H:HOk h){m g:Int}(a:i0 m (ln h.aa)=true)(hg:i0 g (ln (ix h.aa m mZ).ac)=true):GOk (gOf h m g):=H.guest a hg
def zUS {h:ad}(S:Safe h){m g:Int}(i:i0 m (ln h.aa)=true)(hg:i0 g (ln (ix h.aa m mZ).ac)=true)(w:Bool)(B:zbf (gOf h m g)=bif w then 4 else 3) :
 SimT h (zkb (zm9 h m g (gOf h m g) w) m g (gOf h m g) w) m (λb=>zn4 b g (gOf h m g) w):=by
 have X:=S.ok.seenG i hg;have t:=z7n X B (by cases w<;>simp)
 have n:=z7o t.1 t.2;have z:zcd w=1\/zcd w=2:=by cases w<;>simp [zcd]
 unfold zkb zm9;cases k:zca h m g (zbi<|D0<|gOf h m g) (zcd w) with
 |false=>have e:lookOf h h.ao m g (zbi<|D0<|gOf h m g) (zcd w) false=(h,-1,false):=(by unfold lookOf;rw[k];rfl);have q:zf5 (gOf h m g).aw (zbi<|D0<|gOf h m g) (zcd w)=false:=(by cases y:zf5 (gOf h m g).aw (zbi<|D0<|gOf h m g) (zcd w) with|false=>rfl|true=>exact Bool.noConfusion (k.symm.trans<|zqU.2 ⟨zkg.2 ⟨S.ok,i,hg⟩,z,y⟩));rw[e];refine(zqy S i hg<|zjO X<|zYp n.1 w).congr ?_;unfold zn4;rw[q];rfl
 |true=>obtain⟨L,x⟩:=zPG S false k S.rt.e1;obtain⟨_,_,j⟩:=zqU.1 k;have c:zf5 (gOf h m g).aw (zbi<|D0<|gOf h m g) (zcd w)=true:=j;have W:=walked X j;rw[x,cond_true];have l:=L.op.safe S;have f:i0 m (ln (lookOf h h.ao m g (zbi<|D0<|gOf h m g) (zcd w) false).1.aa)=true:=(by rw[L.op.like.has];exact i);have a:=L.op.like.g m i;have C:i0 (zcP (zcZ h m g) (zbi<|D0<|gOf h m g)<|zcd w) 8=true:=W.q8;obtain⟨u,v⟩:=zv6 l f C L.inn L.ne (zdi<|D0<|gOf h m g) (gOf h m g).A;rw[L.op.like.seen m] at v;cases w with|true=>rw[cond_true];have r:=L.op.sim S m;have p:i0 m (ln ({ (lookOf h h.ao m g (zbi<|D0<|gOf h m g) (zcd true) false).1 with ag:=zbO (lookOf h h.ao m g (zbi<|D0<|gOf h m g) (zcd true) false).1.ag (lookOf h h.ao m g (zbi<|D0<|gOf h m g) (zcd true) false).2.1 (zdi<|D0<|gOf h m g) (gOf h m g).A}:ad).aa)=true:=f;have d:i0 g (ln (ix ({ (lookOf h h.ao m g (zbi<|D0<|gOf h m g) (zcd true) false).1 with ag:=zbO (lookOf h h.ao m g (zbi<|D0<|gOf h m g) (zcd true) false).1.ag (lookOf h h.ao m g (zbi<|D0<|gOf h m g) (zcd true) false).2.1 (zdi<|D0<|gOf h m g) (gOf h m g).A}:ad).aa m mZ).ac)=true:=(by show i0 g (ln (ix (lookOf h h.ao m g (zbi<|D0<|gOf h m g) (zcd true) false).1.aa m mZ).ac)=true;rw[a];exact hg);have s:GKeep (gOf { (lookOf h h.ao m g (zbi<|D0<|gOf h m g) (zcd true) false).1 with ag:=zbO (lookOf h h.ao m g (zbi<|D0<|gOf h m g) (zcd true) false).1.ag (lookOf h h.ao m g (zbi<|D0<|gOf h m g) (zcd true) false).2.1 (zdi<|D0<|gOf h m g) (gOf h m g).A} m g) (zck<|gOf h m g):=(by have:gOf { (lookOf h h.ao m g (zbi<|D0<|gOf h m g) (zcd true) false).1 with ag:=zbO (lookOf h h.ao m g (zbi<|D0<|gOf h m g) (zcd true) false).1.ag (lookOf h h.ao m g (zbi<|D0<|gOf h m g) (zcd true) false).2.1 (zdi<|D0<|gOf h m g) (gOf h m g).A} m g=gOf h m g:=(by show ix (ix (lookOf h h.ao m g (zbi<|D0<|gOf h m g) (zcd true) false).1.aa m mZ).ac g gZ=_;rw[a];rfl);rw[this];exact zjN X);refine((r.trans u).trans (zqy u.safe p d s)).congr ?_;unfold zn4;rw[c];rfl|false=>rw[cond_false];have r:=L.op.sim S m;have d:i0 g (ln (ix (lookOf h h.ao m g (zbi<|D0<|gOf h m g) (zcd false) false).1.aa m mZ).ac)=true:=(by rw[a];exact hg);have s:GKeep (gOf (lookOf h h.ao m g (zbi<|D0<|gOf h m g) (zcd false) false).1 m g) (loaded (gOf h m g)<|cellAt (lookOf h h.ao m g (zbi<|D0<|gOf h m g) (zcd false) false).1.ag (lookOf h h.ao m g (zbi<|D0<|gOf h m g) (zcd false) false).2.1<|zdi<|D0<|gOf h m g):=(by have:gOf (lookOf h h.ao m g (zbi<|D0<|gOf h m g) (zcd false) false).1 m g=gOf h m g:=(by show ix (ix (lookOf h h.ao m g (zbi<|D0<|gOf h m g) (zcd false) false).1.aa m mZ).ac g gZ=_;rw[a];rfl);rw[this];exact z1g X (z3d l.ok.pgs _ _));refine(r.trans<|zqy l f d s).congr ?_;unfold zn4;rw[c,v];rfl
def z3X {h r:ad}{m g:Int}(e:(ix r.aa m mZ).ac=(ix h.aa m mZ).ac):gOf r m g=gOf h m g:=by unfold gOf;rw[e]
def z8E (h:ad)(m:Int)(a:i0 m (ln h.aa)=true):(ix (owned h m).aa m mZ).ac=(ix h.aa m mZ).ac:=by unfold owned;cases ilt (ix h.aa m mZ).Own 1000000000 with|false=>rfl|true=>show (ix (up h.aa m _) m mZ).ac=_;rw[zbg a]
def z4s (h:ad)(m n:Int)(a:i0 m (ln h.aa)=true):(ix (zot h m n).aa m mZ).ac=(ix h.aa m mZ).ac:=by unfold zot;cases ilt (ln (ix h.aa m mZ).Outs) 40 with|false=>rfl|true=>show (ix (up h.aa m _) m mZ).ac=_;rw[zbg a]
def z2v {h:ad}(S:Safe h){m:Int}(a:i0 m (ln h.aa)=true)(x:ah)(w:Int):SimT h (zhd h m x w) m id/\(ix (zhd h m x w).aa m mZ).ac=(ix h.aa m mZ).ac:=by unfold zhd;cases (cond (ine w 6) (ieq (zzq (ix h.aa m mZ).aq x.Ctl.aq<|zyp w) 2) false) with|false=>exact⟨SimT.refl S m,rfl⟩|true=>exact⟨z2t S a,z8E h m a⟩
def z2u {h:ad}(S:Safe h){m:Int}(a:i0 m (ln h.aa)=true)(x:ah)(w:Int):SimT h (zhc h m x w) m (λb=>bif (cond (zk0 x.Ctl.aq w) (ieq w 5) false) then zow b (zcx x.ax x.Pc).X else b)/\(ix (zhc h m x w).aa m mZ).ac=(ix h.aa m mZ).ac:=by unfold zhc;cases (cond (zk0 x.Ctl.aq w) (ieq w 5) false) with|false=>exact⟨SimT.refl S m,rfl⟩|true=>exact⟨zZI S a _,z4s h m _ a⟩
def zDy {h:ad}(S:Safe h){m g:Int}(d:i0 m (ln h.aa)=true)(hg:i0 g (ln (ix h.aa m mZ).ac)=true){w:Int}(l:zbf (gOf h m g)=w) :
 SimT h (zwb h m g (gOf h m g) w) m (λb=>zEh b g (gOf h m g) w):=by
 have X:=S.ok.seenG d hg;obtain⟨f,j⟩:=z2v S d (gOf h m g) w;have a:i0 m (ln (zhd h m (gOf h m g) w).aa)=true:=by rw[f.has];exact d
 obtain⟨i,k⟩:=z2u f.safe a (gOf h m g) w;have e:i0 m (ln (zhc (zhd h m (gOf h m g) w) m (gOf h m g) w).aa)=true:=by rw[i.has];exact a
 have c:i0 g (ln (ix (zhc (zhd h m (gOf h m g) w) m (gOf h m g) w).aa m mZ).ac)=true:=by rw[k,j];exact hg
 have n:GKeep (gOf (zhc (zhd h m (gOf h m g) w) m (gOf h m g) w) m g) (zkc (gOf h m g) (gOf h m g).Ctl.aq w):=by rw[z3X<|k.trans j];exact z3Y X _ l
 exact((f.trans i).trans (zqy i.safe e c n)).congr rfl
def zZV (x:ah):zbf x=0\/zbf x=1\/zbf x=2\/zbf x=3\/zbf x=4\/zbf x=5\/zbf x=6\/zbf x=7:=by unfold zbf zxE;cases canRun x<;>cases ziY x<;>cases ieq (zcx x.ax x.Pc).Op 3<;>cases ieq (zcx x.ax x.Pc).Op 4<;>cases ieq (zcx x.ax x.Pc).Op 5<;>cases ieq (zcx x.ax x.Pc).Op 6<;>cases ieq (zcx x.ax x.Pc).Op 7<;>simp
def zSj {h:ad}(H:HOk h)(m g:Int):zlT (zK h m) g=bif zb1 h m g then !ieq (zbf<|gOf h m g) 0 else false:=by unfold zlT zb1;rw[zkA.2 H,cond_true];cases a:i0 m (ln h.aa) with|false=>have:(zK h m).ac=[]:=(by unfold zK;rw[a];rfl);rw[this,zXf];rfl|true=>rw[cond_true,zyj H a,cond_true];have:(zK h m).ac=(ix h.aa m mZ).ac:=(by rw[zfG a]);rw[this];(cases hg:i0 g (ln (ix h.aa m mZ).ac) with|false=>rfl|true=>rw[cond_true,cond_true,ztN a hg])
def step_ok {h:ad}(S:Safe h)(m g:Int):SimT h (zcw h m g).1 m (λb=>ziL b g)/\(zcw h m g).2=zlT (zK h m) g:=by
 have a:=zSj S.ok m g;unfold zcw;cases i:zb1 h m g with
 |false=>rw[i,cond_false]at a;refine⟨(SimT.refl S m).congr ?_,a.symm⟩;unfold ziL;rw[a];rfl
 |true=>rw[i,cond_true]at a;rw[cond_true];obtain⟨_,c,hg⟩:=zkg.1 i;have X:=S.ok.seenG c hg;have f:=ztN c hg;have d:∀w,zbf (gOf h m g)=w->w≠0->ziL (zK h m) g=stepped (zK h m) g (gOf h m g) w:=(by intro w j k;unfold ziL;rw[a,j,zbY.2 k,f,j];rfl);rcases zZV (gOf h m g) with e|e|e|e|e|e|e|e;{rw [e];rw[e]at a;refine⟨(SimT.refl S m).congr ?_,a.symm⟩;unfold ziL;rw[a];rfl};{rw [e]at a ⊢;exact⟨(zqy S c hg<|zMs X).congr (d 1 e (by decide)).symm,a.symm⟩};{rw [e]at a ⊢;exact⟨(zqy S c hg<|zYA X).congr (d 2 e (by decide)).symm,a.symm⟩};{rw [e]at a ⊢;exact⟨(zUS S c hg false e).congr (d 3 e (by decide)).symm,a.symm⟩};{rw [e]at a ⊢;exact⟨(zUS S c hg true e).congr (d 4 e (by decide)).symm,a.symm⟩};{rw [e]at a ⊢;exact⟨(zDy S c hg e).congr (d 5 e (by decide)).symm,a.symm⟩};{rw [e]at a ⊢;exact⟨(zDy S c hg e).congr (d 6 e (by decide)).symm,a.symm⟩};{rw [e]at a ⊢;exact⟨(zDy S c hg e).congr (d 7 e (by decide)).symm,a.symm⟩}
structure BackOk (b c:ak):Prop where
 m:c.ag=b.ag
 o:c.Outs=b.Outs
 n:c.ac.length=b.ac.length
 g:∀j,i0 j (ln b.ac)=true->GKeep (ix b.ac j gZ) (ix c.ac j gZ)
 p:zdz b.ai=true->zdz c.ai=true
def z4M {h:ad}(S:Safe h){m:Int}(b:i0 m (ln h.aa)=true){c:ak}(k:BackOk (zK h m) c):SimT h (zdd h m c) m (λ_=>c):=by have X:=S.ok.mon b;have f:=zfG b;have d:(zK h m).ac=(ix h.aa m mZ).ac:=(by rw[f]);have l:c.ac.length=(ix h.aa m mZ).ac.length:=(by rw[k.n,d]);have hg:∀j,i0 j (ln (ix h.aa m mZ).ac)=true->GKeep (ix (ix h.aa m mZ).ac j gZ) (ix c.ac j gZ):=λj a=>(by have:=k.g j (by rw[d];exact a);rwa [d] at this);have kp:KeepP (ix h.aa m mZ) (zu3 (ix h.aa m mZ) c):=⟨rfl,rfl⟩;have s:zdz c.ai=true:=k.p (by rw[f];exact X.pend);refine⟨zv5 S b kp (zli X kp l rfl rfl X.outs s X.tr X.own λz t=>?_) l (λj a=>(hg j a).live) rfl,λi=>?_,zbR _ _ _⟩;{obtain⟨j,a,rfl⟩:=zCV t gZ;exact ztk.2 (hg j (by unfold ln at a ⊢;rw[<- l];exact a)).ok};{refine(zuI (h:=h) (r:=zdd h m c) b rfl rfl kp i).trans ?_;by_cases e:i=m;{subst e;rw[zbu.2 rfl,cond_true,cond_true];show ak.mk (zK h i).ag c.ac (ix h.aa i mZ).Outs c.ai=c;have u:=k.m;have q:=k.o;rw[f]at q;cases c;simp_all};{rw [zbY.2 e];rfl}}
def seen_none {h:ad}{m:Int}(a:i0 m (ln h.aa)=false):zK h m=⟨[],[],[],0⟩:=by unfold zK;rw[a];rfl
def ztn:zcc ⟨[],[],[],0⟩=false:=by decide
def ztB {b:ak}(h:zcc b=false)(g:Int):zch b g=false:=by unfold zch;rw[h];rfl
def zis {b:ak}(h:zcc b=true):BackOk b b:=⟨rfl,rfl,rfl,λj a=>⟨ztk.1 (by
 unfold zcc at h;rw[zcb,qO]at h;exact h.1 _ (zl1 a _)),rfl⟩,id⟩
def zZ6 {b:ak}(h:zcc b=true){g:Int}(hg:i0 g (ln b.ac)=true){y:ah}(k:GKeep (gAt b g) y):BackOk b (zeK b g y):=by have e:gAt b g=ix b.ac g gZ:=(by unfold gAt;rw[hg];rfl);refine⟨rfl,rfl,zbR _ _ _,λj c=>?_,id⟩;show GKeep _ (ix (up b.ac g y) j gZ);by_cases a:g=j;{subst a;rw[zbg hg,<- e];exact k};{rw [zbv (zF.1 hg).1 (zF.1 c).1 a];exact(zis h).g j c}
def zry {b:ak}(h:zcc b=true){g:Int}{c:Bool}{y:ah}(k:i0 g (ln b.ac)=true->c=true->GOk (gAt b g)->GKeep (gAt b g) y):BackOk b (chg b g c y):=by unfold chg zch;rw[h,cond_true];cases hg:i0 g (ln b.ac) with|false=>exact zis h|true=>rw[cond_true];(cases c with|false=>exact zis h|true=>refine zZ6 h hg (k hg rfl ?_);have:=(zis h).g g hg;unfold gAt;rw[hg];exact this.ok)
def zqd {h:ad}(S:Safe h)(m:Int){F:ak->ak}(d:∀b,zcc b=true->BackOk b (F b))(c:F ⟨[],[],[],0⟩=⟨[],[],[],0⟩):SimT h (zid h m<|F<|zK h m) m F:=by unfold zid zc0;rw[zkA.2 S.ok,cond_true];cases a:i0 m (ln h.aa) with|false=>refine(SimT.refl S m).congr ?_;rw[seen_none a];exact c.symm|true=>exact(z4M S a<|d _<|zyj S.ok a).congr rfl
def zlt {h:ad}(S:Safe h)(m:Int){t:ak->Bool}(a:t ⟨[],[],[],0⟩=false):zg7 h m (t<|zK h m)=t (zK h m):=by unfold zg7 zc0;rw[zkA.2 S.ok,cond_true];cases b:i0 m (ln h.aa) with|false=>rw[cond_false,seen_none b,a]|true=>rfl
def zpQ (g:Int)(c:Bool)(y:ah):chg ⟨[],[],[],0⟩ g c y=⟨[],[],[],0⟩:=by unfold chg;rw[ztB ztn];rfl
def zjJ (g:Int)(c:Bool):zcl ⟨[],[],[],0⟩ g c=false:=by unfold zcl;rw[ztB ztn];rfl
def zUU {t:List k0}{n q:Int}(h:zdy t n q=true){p:Int}{s:k0}(b:zeM s q=true):zdy (zew t p s) n q=true:=by
 unfold zew;cases i0 p (ln t) with
 |false=>exact h
 |true=>rw[cond_true];rw[zrv]at h ⊢;rw[zdQ];refine⟨λx c=>?_,h.2⟩;rcases qY c with a|a;{exact h.1 x a};{rw [a];exact b}
def z8f {x:ah}(X:GOk x){p:Int}{s:k0}(h:zwU p s=true):GKeep x (zDw x p s):=by unfold zwU at h;rw[zcb]at h;exact⟨⟨X.prog,X.a,X.pc,zUU X.w h.2,X.l,X.ctl,X.pend,X.ex,X.seen⟩,rfl⟩
def z8c {x:ah}(X:GOk x){v:Int}(h:zwr x v=true):GKeep x (zyG x v):=by unfold zwr at h;rw[zcb]at h;unfold zyG;cases ieq x.Exit.Kind 2 with|true=>rw[cond_true];have b:=zjO (zYy X h.1) (e:=zlm) rfl;have a:=zjN b.ok;exact⟨a.ok,a.live⟩|false=>rw[cond_false];have b:=zjO X (e:=zlm) rfl;have a:=zjN b.ok;exact⟨a.ok,a.live.trans b.live⟩
def z8e {x:ah}(X:GOk x):GKeep x (zzx x):=by unfold zzx;have a:=zjO X (e:=zlm) rfl;cases ieq x.Exit.Kind 1 with|true=>exact a|false=>have b:=zW6 a.ok;exact⟨b.ok,b.live.trans a.live⟩
def zW7 {x:ah}(X:GOk x)(n:Int):GKeep x (zoq x n):=zW8 X (zPV X.pend n)
def z8d {x:ah}(X:GOk x){c:Ctl}(h:zlV c=true):GKeep x (zMk x c):=⟨⟨X.prog,X.a,X.pc,X.w,X.l,h,X.pend,X.ex,X.seen⟩,rfl⟩
def zB3 (n:Int):∀(d:LI) (b:ak) (l:List ah),(∀k∈d,i0 k (ln b.ac)=true)->BackOk b {b with ac:=l}->BackOk b {b with ac:=zl6 n d l}
 |[],b,l,_,h=>h
 |k::d,b,l,q,h=>by show BackOk b {b with ac:=zl6 n d (zEc n l k)};refine zB3 n d b _ (λj a=>q j (q0 _ a)) ⟨h.m,h.o,by show (up l k _).length=_;rw[zbR];exact h.n,λj a=>?_,h.p⟩;show GKeep _ (ix (up l k _) j gZ);have r:l.length=b.ac.length:=h.n;have c:i0 k (ln l)=true:=(by unfold ln;rw[r];exact q k jF);by_cases e:k=j;{subst e;rw[zbg c];have f:=h.g k a;have i:=zW7 f.ok n;exact⟨i.ok,i.live.trans f.live⟩};{rw [zbv (zF.1 c).1 (zF.1 a).1 e];exact h.g j a}
def zXZ {b:ak}(h:zcc b=true)(n:Int):BackOk b (zkV b n):=by
 unfold zkV zf8 zEd;rw[h,cond_true];cases i0 n 8 with
 |false=>exact zis h
 |true=>
  rw[cond_true];cases ieq (ln<|zen b.ac n) 0 with
  |true=>have:=zis h;exact⟨rfl,rfl,rfl,this.g,λc=>zPV c n⟩
  |false=>rw[cond_false];refine zB3 n _ b b.ac (λk a=>?_) (zis h);unfold zen at a;obtain⟨j,e,rfl,_⟩:=(zHN (d:=gZ)).1 a;exact zF.2 ⟨by omega,by unfold ln;omega⟩
def zZ5 {b:ak}(h:zcc b=true):BackOk b (zno b):=by unfold zno;rw[h,cond_true];exact⟨rfl,rfl,rfl,(zis h).g,λa=>zPW a⟩
def z4B {h:ad}(S:Safe h)(m p c v:Int):SimT h (znv h m p c v) m (λb=>zRP b p c v)/\zfN h m p c v=zxG (zK h m) p c v:=by have e:zfN h m p c v=zxG (zK h m) p c v:=(by unfold zfN zxG zcH z7b;rw[zkA.2 S.ok,cond_true];cases d:i0 m (ln h.aa) with|false=>rw[seen_none d,ztn];rfl|true=>rw[zyj S.ok d,cond_true];rfl);refine⟨?_,e⟩;unfold znv;cases f:zfN h m p c v with|false=>refine(SimT.refl S m).congr ?_;unfold zRP;rw[<- e,f];rfl|true=>rw[cond_true];have a:=f;unfold zfN at a;rw[zcb,zcb]at a;obtain⟨k,_,_⟩:=a;obtain⟨_,d,j⟩:=zou.1 k;have M:=zPN S.ok (m:=m) (p:=p) 2 d j;have i:=M.op.sim S m;have g:i0 m (ln (C0 h m p 2).aa)=true:=(by rw[i.has];exact d);obtain⟨l,_⟩:=zv6 i.safe g j rfl M.inn c v;refine(i.trans l).congr ?_;unfold zRP;rw[<- e,f];rfl
def z1D {h:ad}(S:Safe h)(m g b a:Int):zca h m g b a=(cond (zch (zK h m) g) (cond (zkj a) (zf5 (gAt (zK h m) g).aw b a) false) false):=by have e:zb1 h m g=zch (zK h m) g:=(by unfold zb1 zch;rw[zkA.2 S.ok,cond_true];cases c:i0 m (ln h.aa) with|false=>rw[seen_none c,ztn,cond_false,cond_false]|true=>rw[cond_true,zyj S.ok c,cond_true];have:(zK h m).ac=(ix h.aa m mZ).ac:=(by rw[zfG c]);rw[this]);unfold zca;rw[<- e];cases hg:zb1 h m g with|false=>rw[cond_false,cond_false]|true=>obtain⟨_,c,hg⟩:=zkg.1 hg;have:(gAt (zK h m) g).aw=zcZ h m g:=(by rw[ztN c hg];rfl);rw[this]
def zG7 {h:ad}(S:Safe h)(m g a n:Int)(b:n=1\/n=2):zoj (zK h m) g a n=bif zl a 0 15 then zca h m g (zbi a) n else false:=by rw[z1D S];unfold zoj;rw[zF3.2 b,cond_true];cases zch (zK h m) g<;>cases zl a 0 15<;>rfl
def zSI {h:ad}(S:Safe h){m g a n:Int}(f:n=1\/n=2)(b:zoj (zK h m) g a n=true) :
 Looked h (zCI h m g a n).1 m g (zbi a) n (zDS (zK h m) g a n) (zCI h m g a n).2.1/\i0 m (ln h.aa)=true/\i0 (zDS (zK h m) g a n) 8=true:=by
 rw[zG7 S m g a n f,zcb]at b;obtain⟨L,_⟩:=zPG S true b.2 S.rt.e2;obtain⟨d,_,i⟩:=zqU.1 b.2;obtain⟨_,c,hg⟩:=zkg.1 d;have e:zDS (zK h m) g a n=zcP (zcZ h m g) (zbi a) n:=by unfold zDS;rw[ztN c hg];rfl
 rw[e];exact⟨L,c,(walked (S.ok.guest c hg) i).q8⟩
def z9L {h:ad}(S:Safe h)(m g a v:Int):SimT h (zp1 h m g a v) m (λb=>zYm b g a v)/\zhw h m g a v=zyX (zK h m) g a v:=by have e:zhw h m g a v=zyX (zK h m) g a v:=(by unfold zhw zyX;rw[zG7 S m g a 2 (.inr rfl)];cases zl a 0 15<;>cases zl v 0 99<;>cases zca h m g (zbi a) 2<;>rfl);refine⟨?_,e⟩;unfold zp1;cases c:zhw h m g a v with|false=>refine(SimT.refl S m).congr ?_;unfold zYm;rw[<- e,c];rfl|true=>rw[cond_true];have f:zoj (zK h m) g a 2=true:=(by have:=e.symm.trans c;unfold zyX at this;exact(zcb.1 this).1);obtain⟨L,i,j⟩:=zSI S (.inr rfl) f;have d:=L.op.sim S m;obtain⟨k,_⟩:=zv6 d.safe (by rw[d.has];exact i) j L.inn L.ne (zdi a) v;refine(d.trans k).congr ?_;unfold zYm;rw[<- e,c];rfl
def z8H {h:ad}(S:Safe h)(m g a:Int):SimT h (znw h m g a) m id/\zgB h m g a=zoj (zK h m) g a 1/\zrM h m g a=zRT (zK h m) g a:=by have e:zgB h m g a=zoj (zK h m) g a 1:=(by unfold zgB;rw[zG7 S m g a 1 (.inl rfl)]);unfold znw zrM zRT;rw[e];cases d:zoj (zK h m) g a 1 with|false=>exact⟨SimT.refl S m,rfl,rfl⟩|true=>obtain⟨L,f,i⟩:=zSI S (.inl rfl) d;have b:=L.op.sim S m;obtain⟨_,c⟩:=zv6 b.safe (by rw[b.has];exact f) i L.inn L.ne (zdi a) 0;rw[L.op.like.seen m] at c;exact⟨b,rfl,c⟩
def z1r {k:az}{a b:List k0}(h:KOk k a b)(p:Int)(s:k0):KOk (zbX k p) (zew a p s) b:=by have j:=zld k p;have f:(zew a p s).length=a.length:=(by unfold zew;cases i0 p (ln a)<;>simp [zbR]);refine⟨by rw[j.1,f,h.l1],by rw[j.2,f,h.l2],λi l=>?_⟩;have c:i0 i (ln a)=true:=(by unfold ln at l ⊢;rwa [<- f]);have d:i0 i (ln k.ay)=true:=(by unfold ln at c ⊢;rwa [h.l1]);have g:=zww (q:=p) (by rw[h.l1,h.l2]) d;rw[g.1,g.2];by_cases e:p=i;{subst e;rw[zbu.2 rfl];rfl};{rw [zbY.2 e,cond_false,cond_false,h.at' i c];have:ix (zew a p s) i sZ=ix a i sZ:=(by unfold zew;cases m:i0 p (ln a) with|false=>rfl|true=>exact zbv (zF.1 m).1 (zF.1 c).1 e _ _);rw[this]}
def z99 {t m g:Int}(a:zdA t=m)(b:zev t=g)(c:0<=m):t=zfh m g:=by subst a;subst b;by_cases h:1<=t/\t<=6;{have e:t=1\/t=2\/t=3\/t=4\/t=5\/t=6:=(by omega);rcases e with rfl|rfl|rfl|rfl|rfl|rfl<;>decide};{exfalso;have:zdA t = -1:=(by unfold zdA ige ile;rw[show (decide (t≥1)&&decide (t<=6))=false by simp;omega];rfl);omega}
def zWI {t:List k0}{p q:Int}{s:k0}(h:q≠p):zbB (zew t p s) q=zbB t q:=by unfold zew;cases a:i0 p (ln t) with|false=>rfl|true=>exact zP5 (zF.1 a).1 h
def z4N {t:List k0}(h:zdy t 4 8=true)(p:Int):zeM (zbB t p) 8=true:=by unfold zbB;cases a:i0 p (ln t) with|false=>rfl|true=>exact(zrv.1 h).1 _ (zl1 a _)
def z1f {x:ah}(X:GOk x)(p:Int):GOk (zd4 x p):=⟨X.prog,X.a,X.pc,X.w,zUU X.l<|z4N X.w p,X.ctl,X.pend,X.ex,X.seen⟩
def z3V {h:ad}(S:Safe h)(m g p:Int):SimT h (zle h m g p) m (λb=>chg b g (i0 p 4) (zd4 (gAt b g) p))/\zg7 h m (zcl (zK h m) g<|i0 p 4)=zcl (zK h m) g (i0 p 4):=by
 refine⟨?_,zlt S m (t:=λb=>zcl b g (i0 p 4))<|zjJ g _⟩;unfold zle zc0;rw[zkA.2 S.ok,cond_true];cases a:i0 m (ln h.aa) with
 |false=>refine(SimT.refl S m).congr ?_;rw[seen_none a,zpQ];rfl
 |true=>
  rw[cond_true];cases w:zcl (zK h m) g (i0 p 4) with
  |false=>refine(SimT.refl S m).congr ?_;show zK h m=chg (zK h m) g (i0 p 4) (zd4 (gAt (zK h m) g) p);have c:=w;unfold zcl at c;unfold chg;rw[c];rfl
  |true=>rw[cond_true];have c:=w;unfold zcl zch at c;rw[zyj S.ok a,cond_true,zcb,zfG a]at c;have hg:i0 g (ln (ix h.aa m mZ).ac)=true:=c.1;have X:=S.ok.mon a;have G:=S.ok.seenG a hg;have C:chg (zK h m) g (i0 p 4) (zd4 (gAt (zK h m) g) p)=zeK (zK h m) g (zd4 (gOf h m g) p):=(by have l:=w;unfold zcl at l;unfold chg;rw[l,ztN a hg];rfl);rw[C];have B:i0 g (ln (ix h.aa m mZ).am)=true:=(by unfold ln;rw[X.gt];exact hg);have s:(zCk (zdd h m<|zeK (zK h m) g<|zd4 (gOf h m g) p) m g p).aa=up h.aa m {ix h.aa m mZ with ac:=up (ix h.aa m mZ).ac g (zd4 (gOf h m g) p),am:=up (ix h.aa m mZ).am g (zbX (ix (ix h.aa m mZ).am g kZ) p)}:=(by show up (up h.aa m _) m _=_;rw[z2N];have D:ix (zdd h m<|zeK (zK h m) g<|zd4 (gOf h m g) p).aa m mZ=zu3 (ix h.aa m mZ) (zeK (zK h m) g<|zd4 (gOf h m g) p):=zbg a _ _;rw[D];unfold zu3 zeK;rw[zfG a]);have kp:KeepP (ix h.aa m mZ) {ix h.aa m mZ with ac:=up (ix h.aa m mZ).ac g (zd4 (gOf h m g) p),am:=up (ix h.aa m mZ).am g (zbX (ix (ix h.aa m mZ).am g kZ) p)}:=⟨rfl,rfl⟩;have K:MOk {ix h.aa m mZ with ac:=up (ix h.aa m mZ).ac g (zd4 (gOf h m g) p),am:=up (ix h.aa m mZ).am g (zbX (ix (ix h.aa m mZ).am g kZ) p)}:=zli X kp (zbR _ _ _) (zbR _ _ _) rfl X.outs X.pend X.tr X.own λz L=>(by rcases qY L with h|h;{exact X.gs z h};{rw [h];exact ztk.2 (z1f G p)});have E:HOk (zCk (zdd h m<|zeK (zK h m) g<|zd4 (gOf h m g) p) m g p):=S.ok.up a K s S.ok.m12 S.ok.pgs (zyL S.ok.b1 _) (zyL S.ok.b2 _) λq _=>.inl (qW _);have u:∀b:List ar,(∀e∈b,zc7 h e=true)->∀e∈zcS b (zfh m g) p,zc7 (zCk (zdd h m<|zeK (zK h m) g<|zd4 (gOf h m g) p) m g p) e=true:=(by intro b F e H;obtain⟨x,y⟩:=zyZ.1 H;obtain⟨l,n,r⟩:=zgc.1 (F e x);rw[zgc,s,zdQ];refine⟨l,?_⟩;by_cases d:m=zdA e.Tag;{rw [<- d]at l n r ⊢;rw[zbg a];show i0 (zev e.Tag) (ln<|up _ _ _)=true/\below' _ (zbA (zbB (ix (up (ix h.aa m mZ).ac g _) (zev e.Tag) gZ).aw e.af) (ix h.aa m mZ).ae)=true;rw[zdQ];refine⟨n,?_⟩;by_cases f:g=zev e.Tag;{rw [<- f]at n r ⊢;rw[zbg hg];have A:e.af≠p:=λJ=>y ⟨z99 d.symm f.symm (zF.1 a).1,J⟩;show below' _ (zbA (zbB (zew (gOf h m g).aw p _) e.af) _)=true;rw[zWI A];exact r};{rw [zbv (zF.1 hg).1 (zF.1 n).1 f];exact r}};{rw [zbv (zF.1 a).1 (zF.1 l).1 d];exact⟨n,r⟩});refine⟨⟨E,⟨λi v=>?_,u _ S.rt.e1,u _ S.rt.e2⟩⟩,λi=>?_,by rw[s,zbR]⟩;{rw [s]at v ⊢;rw[zdQ]at v;by_cases d:m=i;{subst d;rw[zbg a];intro j I;show KOk (ix (up (ix h.aa m mZ).am g _) j kZ) (ix (up (ix h.aa m mZ).ac g _) j gZ).aw (ix h.aa m mZ).ae;have k:i0 j (ln (ix h.aa m mZ).ac)=true:=(by have:i0 j (ln<|up (ix h.aa m mZ).ac g<|zd4 (gOf h m g) p)=true:=I;rwa [zdQ] at this);by_cases e:g=j;{subst e;rw[zbg B,zbg hg];exact z1r (S.rt.t m a g hg) p _};{rw [zbv (zF.1 hg).1 (zF.1 k).1 e,zbv (zF.1 hg).1 (zF.1 k).1 e];exact S.rt.t m a j k}};{rw [zbv (zF.1 a).1 (zF.1 v).1 d];exact S.rt.t i v}};{refine(zuI (h:=h) a s rfl kp i).trans ?_;by_cases e:i=m;{subst e;rw[zbu.2 rfl,cond_true,cond_true,C,zfG a];rfl};{rw [zbY.2 e];rfl}}
def zQf (g:Int):ziL ⟨[],[],[],0⟩ g=⟨[],[],[],0⟩/\zlT ⟨[],[],[],0⟩ g=false:=by have:zlT ⟨[],[],[],0⟩ g=false:=(by unfold zlT;rw[zXf];rfl);refine⟨?_,this⟩;unfold ziL;rw[this];rfl
def z4b {h:ad}(S:Safe h)(a:GAct):SimT h (zt1 h a) a.M (λb=>zJi b a)/\zCG h a=zJj (zK h a.M) a:=by
 have f:=ztn;unfold zt1 zCG zJi zJj;cases ieq a.Kind 1 with
 |true=>obtain⟨k,e⟩:=step_ok S a.M a.G;exact⟨k,by rw[cond_true,cond_true,e]⟩
 |false=>
  simp only[cond_false];cases ieq a.Kind 2 with
  |true=>
   exact⟨zqd S a.M (F:=λb=>chg b a.G (zwU a.X ⟨a.Y,a.Z⟩) (zDw (gAt b a.G) a.X ⟨a.Y,a.Z⟩)) (λb c=>zry c λ_ d G=>z8f G d)<|zpQ _ _ _,
    congrArg (λt=>aF.mk t 0) (zlt S a.M (t:=λb=>zcl b a.G (zwU a.X ⟨a.Y,a.Z⟩))<|zjJ _ _)⟩
  |false=>
   simp only[cond_false];cases ieq a.Kind 3 with
   |true=>obtain⟨k,e⟩:=z3V S a.M a.G a.X;exact⟨k,congrArg (λt=>aF.mk t 0) e⟩
   |false=>
    simp only[cond_false];cases ieq a.Kind 4 with
    |true=>
     exact⟨zqd S a.M (F:=λb=>chg b a.G (zwr (gAt b a.G) a.X) (zyG (gAt b a.G) a.X)) (λb c=>zry c λ_ d G=>z8c G d)<|zpQ _ _ _,
      congrArg (λt=>aF.mk t 0) (zlt S a.M (t:=λb=>zcl b a.G (zwr (gAt b a.G) a.X))<|zjJ _ _)⟩
    |false=>
     simp only[cond_false];cases ieq a.Kind 5 with
     |true=>
      exact⟨zqd S a.M (F:=λb=>chg b a.G (zC3<|gAt b a.G) (zzx<|gAt b a.G)) (λb c=>zry c λ_ _ G=>z8e G)<|zpQ _ _ _,
       congrArg (λt=>aF.mk t 0) (zlt S a.M (t:=λb=>zcl b a.G (zC3<|gAt b a.G))<|zjJ _ _)⟩
     |false=>
      simp only[cond_false];cases ieq a.Kind 6 with
      |true=>
       exact⟨zqd S a.M (F:=λb=>chg b a.G (zhY (gAt b a.G).ai a.X) (zoq (gAt b a.G) a.X)) (λb c=>zry c λ_ _ G=>zW7 G _)<|zpQ _ _ _,
        congrArg (λt=>aF.mk t 0) (zlt S a.M (t:=λb=>zcl b a.G (zhY (gAt b a.G).ai a.X))<|zjJ _ _)⟩
      |false=>
       simp only[cond_false];cases ieq a.Kind 7 with
       |true=>
        exact⟨zqd S a.M (F:=λb=>chg b a.G (zlV ⟨a.X,a.Y,ieq a.Z 1⟩) (zMk (gAt b a.G) ⟨a.X,a.Y,ieq a.Z 1⟩)) (λb c=>zry c λ_ d G=>z8d G d)<|zpQ _ _ _,
         congrArg (λt=>aF.mk t 0) (zlt S a.M (t:=λb=>zcl b a.G (zlV ⟨a.X,a.Y,ieq a.Z 1⟩))<|zjJ _ _)⟩
       |false=>
        simp only[cond_false];cases ieq a.Kind 8 with
        |true=>obtain⟨k,e⟩:=z4B S a.M a.X a.Y a.Z;exact⟨k,congrArg (λt=>aF.mk t 0) e⟩
        |false=>
         simp only[cond_false];cases ieq a.Kind 9 with
         |true=>
          exact⟨zqd S a.M (F:=λb=>zkV b a.X) (λb c=>zXZ c _) (by unfold zkV zf8;rw[f];rfl),
           congrArg (λt=>aF.mk t 0) (zlt S a.M (t:=λb=>zf8 b a.X) (by unfold zf8;rw[f];rfl))⟩
         |false=>
          simp only[cond_false];cases ieq a.Kind 10 with
          |true=>refine⟨zqd S a.M (F:=zno) (λb c=>zZ5 c) (by unfold zno;rw[f];rfl),?_⟩;have e:=zlt S a.M (t:=zm5) (by unfold zm5;rw[f];rfl);show aF.mk (zg7 h a.M<|zm5<|zK h a.M) (cond (zc0 h a.M) (ztA<|zK h a.M)<|-1)=⟨zm5<|zK h a.M,ztA<|zK h a.M⟩;rw[e];congr 1;unfold zc0;rw[zkA.2 S.ok,cond_true];cases j:i0 a.M (ln h.aa) with|true=>rfl|false=>rw[seen_none j];unfold ztA;rw[f];rfl
          |false=>
           simp only[cond_false];cases ieq a.Kind 11 with
           |true=>obtain⟨k,e⟩:=z9L S a.M a.G a.X a.Y;exact⟨k,congrArg (λt=>aF.mk t 0) e⟩
           |false=>obtain⟨k,g,i⟩:=z8H S a.M a.G a.X;exact⟨k,by simp only[cond_false];rw[g,i]⟩
def z4t {h:ad}(S:Safe h)(a:GAct):Safe (zmL h a)/\(∀i,zK (zmL h a) i=zK h i)/\(zmL h a).aa.length=h.aa.length:=by
 unfold zmL;have k:∀r,Op h r->Safe r/\(∀i,zK r i=zK h i)/\r.aa.length=h.aa.length:=λr k=>⟨k.safe S,λi=>k.like.seen i,k.like.len⟩;cases ieq a.Kind 13 with
 |true=>exact k _ (zY5 S.ok _ _)
 |false=>
  simp only[cond_false];cases ieq a.Kind 14 with
  |true=>exact k _ (z1R S.ok _ _)
  |false=>
   simp only[cond_false];cases ieq a.Kind 15 with
   |true=>exact k _ (z1Q S.ok _ _)
   |false=>
    simp only[cond_false];cases ieq a.Kind 16 with
    |true=>obtain⟨b,c⟩:=zRp S a.M a.X;refine⟨b,c,?_⟩;simp only[cond_true];unfold zj8;cases zcj h<;>cases i0 a.M (ln h.aa)<;>cases zl a.X 0 3<;>first|rfl|exact zbR _ _ _
    |false=>exact k _ (z8C S.ok)
def zkT (a:GAct):Bool:=bif zl a.Kind 1 17 then !zl a.Kind 13 17 else false
def zZY {h:ad}(S:Safe h)(a:GAct):Safe (zeU h a)/\(zeU h a).aa.length=h.aa.length/\
 (∀i,zK (zeU h a) i=bif (cond (zkT a) (ieq i a.M) false) then zJi (zK h i) a else zK h i)/\(zkT a=true->zjP h a=zJj (zK h a.M) a):=by
 unfold zeU zjP zkT;cases zl a.Kind 1 17 with
 |false=>exact⟨S,rfl,λ_=>rfl,λe=>by cases e⟩
 |true=>
  simp only[cond_true];cases zl a.Kind 13 17 with
  |true=>obtain⟨b,c,d⟩:=z4t S a;exact⟨b,d,λi=>by simp only[cond_true,vJ,cond_false];exact c i,λe=>by cases e⟩
  |false=>obtain⟨k,e⟩:=z4b S a;exact⟨k.safe,k.len,λi=>by simp only[cond_false,Bool.not_false,cond_true];exact k.seen i,λ_=>e⟩
end
end Go.Proofs.YtapgkefgcbapcaaGreat.E
