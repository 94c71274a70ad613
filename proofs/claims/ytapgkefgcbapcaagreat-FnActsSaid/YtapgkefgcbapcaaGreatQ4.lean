/- What is proved here: a part of the proof of the claim. -/
import Derived.Test.YtapgkefgcbapcaaGreatQ3
namespace Go.Proofs.YtapgkefgcbapcaaGreat.E
open Go
set_option linter.defProp false
set_option linter.constructorNameAsVariable false
set_option linter.unusedVariables false
set_option maxRecDepth 100000
set_option linter.unusedSimpArgs false
set_option linter.unusedSectionVars false
noncomputable section
def Ends {b:Type}(G:b->Prop)(o:Option b):Prop:=∃a,o=some a/\G a
section
variable {ρ:Type} {G:ρ->Prop}
def zB {c:Bool}{a b:Option ρ}(h:c=true)(k:Ends G a):Ends G (cond c a b):=by rw[h];exact k
def zsH {c:Bool}{a b:Option ρ}(h:c=false)(k:Ends G b):Ends G (cond c a b):=by rw[h];exact k
def zbB {c:Bool}{a b:Option ρ}(d:c=true->Ends G a)(e:c=false->Ends G b):Ends G (cond c a b):=by cases c;{exact e rfl};{exact d rfl}
def zlm {a:Type}{x:a}{f:a->Option ρ}(h:Ends G (f x)):Ends G (p0 x f):=h
def zqa {x:Option ρ}{f:Option ρ->Option ρ}(h:Ends G x)(k:∀t,Ends G t->Ends G (f t)):Ends G (p0 x f):=k x h
def zwt {a:ρ}(h:G a):Ends G (some a):=⟨a,rfl,h⟩
def zmH {b:Type}{F:(b->Option ρ)->b->Option ρ}(I:Nat->b->Prop)(h:∀n s rec,I n s->(∀k a,k<n->I k a->Ends G (rec a))->Ends G (F rec s)):∀(N n:Nat) (s:b),I n s->n<N->Ends G (q0 N F s)
 | 0,n,s,_,c=>absurd c (Nat.not_lt_zero n)
 |N+1,n,s,d,c=>h n s (q0 N F) d λk a f e=>zmH I h N k a e (by omega)
def zbdo {G:Ans->Prop}{o:OA}{r:Ans}(h:Ends (λa=>a=r) o):o=some r:=by obtain⟨a,b,c⟩:=h;rw[b,c]
end
instance:Inhabited Cur:=⟨⟨[],0,0⟩⟩
def uC {T:Type}(ok:T->Prop):Bool:=pc (∃v,ok v)
def uV {T:Type}[Nonempty T](ok:T->Prop):T:=Classical.epsilon ok
def uG {T:Type}[Nonempty T]{ok:T->Prop}(h:uC ok=true):ok (uV ok):=Classical.epsilon_spec (zF.1 h)
def wC {T:Type}(ok:Cur->T->Prop):Bool:=uC λr:Cur×T=>ok r.1 r.2
def wS {T:Type}[Nonempty T](ok:Cur->T->Prop):Cur:=bif wC ok then (uV λr:Cur×T=>ok r.1 r.2).1 else ⟨[],0,0⟩
def wV {T:Type}[Nonempty T](ok:Cur->T->Prop):T:=(uV λr:Cur×T=>ok r.1 r.2).2
def wG {T:Type}[Nonempty T]{ok:Cur->T->Prop}(h:wC ok=true):ok (wS ok) (wV ok):=by unfold wS wV;rw[h,cT];exact uG h
def wP {T:Type}[Nonempty T]{ok:Cur->T->Prop}(k:∀{s v},ok s v->0<=s.i):0<=(wS ok).i:=by cases h:wC ok with|false=>unfold wS;rw[h];exact kQ 0|true=>exact k (wG h)
abbrev wE {T:Type}(e:T->AV)(b:LI)(c:T->Prop):Ans->Prop:=λa=>∃s d,a=(AV.agg (zb5 s)::[e d])/\(s.b=b/\0<=s.i)/\c d
def wI {T:Type}{ok:Cur->T->Prop}{E:Nat->OA}{d:T->AV}{b:LI}{c:T->Prop}(k:∀s v,((∃N,E N=some (AV.agg (zb5 s)::[d v]))/\(s.b=b/\0<=s.i)/\c v)->ok s v)(h:∃N,Ends (wE d b c)<|E N):wC ok=true:=by obtain⟨N,a,e,s,v,rfl,h⟩:=h;exact zba ⟨(s,v),k s v ⟨⟨N,e⟩,h⟩⟩
abbrev zeD:=LC->LA->Option (Bool×LC×LA)
abbrev zJ2:=LA->Option (Bool×LC×LA)
def pR (k:Cur->zJ2):zeD
 |[.s .u8 b,.i .i64 i,.i .i64 h],a=>k ⟨b,i,h⟩ a
 |_,_=>none
def zZB {b:Type}(D:Dc b)(k:b->zJ2):zJ2
 |[]=>none
 |a::l=>match D.d a with
  |some x=>k x l
  |none=>none
def zPz (r:Bool×Cur×LA):zJ2
 |[]=>some (r.1,zb5 r.2.1,r.2.2)
 |_=>none
def z8a {k:Cur->zJ2}{b:LC}{a:LA}{r:Bool×LC×LA}(h:pR k b a=some r):∃c,b=zb5 c/\k c a=some r:=by unfold pR at h;split at h;{exact⟨_,rfl,h⟩};{cases h}
def zLV {c:Type}{D:Dc c}{k:c->zJ2}{b:LA}{r:Bool×LC×LA}(h:zZB D k b=some r):∃x l,b=D.e x::l/\k x l=some r:=by unfold zZB at h;split at h;{cases h};{rename_i a l;split at h;{rename_i x d;exact⟨x,l,by rw[D.h d],h⟩};{cases h}}
def zx9 {q:Bool×Cur×LA}{b:Bool}{c:LC}{d a:LA}(h:zPz q a=some (b,c,d)):a=[]/\q.1=b/\c=zb5 q.2.1/\d=q.2.2:=by unfold zPz at h;split at h<;>cases h;exact⟨rfl,rfl,rfl,rfl⟩
section
variable {c:zbb} {m:ziV} {p:zdb} {t:zgr} (o1:zN c) (o2:zgP m) (o3:zce p) (o4:zfh t) (tms:FuncId->Nat->Option Tmpl) {f:FuncId}
include o1 o2 o3 o4
def hPx {k:Cur->zJ2}(j:zf9 f=true)(h:∀x b a d,k x b=some (true,a,d)->a.length=3/\∃N,zq4 (cQ c m p t) tms N 12 f [false,true,true] (zb5 x) b=some (.agg a::d)):zbU Tryz.prog f [false,true,true] (pR k):=by refine zjv (zis o1 o2 o3 o4) (ziX j) ?_;intro l b a d n q e;obtain⟨x,rfl,e⟩:=z8a e;obtain⟨g,N,i⟩:=h x b a d e;exact⟨g,tms,N,12,i⟩
def rP0 (g:Cur->Bool×Cur×LA):zeD:=pR λc=>zPz (g c)
def hP0 {g:Cur->Bool×Cur×LA}{E:Nat->Cur->OA}(a:∀x,(g x).1=true->∃N,E N x=some (.agg (zb5 (g x).2.1)::(g x).2.2))(k:∀N x,zq4 (cQ c m p t) tms N 12 f [false,true,true] (zb5 x) []=E N x:=by intros;kernel_rfl)(j:zf9 f=true:=by kernel_rfl):zbU Tryz.prog f [false,true,true] (rP0 g):=
 hPx o1 o2 o3 o4 tms j λx b d l e=>by obtain⟨rfl,i,rfl,rfl⟩:=zx9 e;obtain⟨N,h⟩:=a x i;exact⟨rfl,N,(k N x).trans h⟩
def rP1 {A:Type}(D:Dc A)(g:Cur->A->Bool×Cur×LA):zeD:=pR λc=>zZB D λa=>zPz (g c a)
def hP1 {A:Type}{D:Dc A}{g:Cur->A->Bool×Cur×LA}{E:Nat->Cur->A->OA}(b:∀x a,(g x a).1=true->∃N,E N x a=some (.agg (zb5 (g x a).2.1)::(g x a).2.2))(q:∀N x a,zq4 (cQ c m p t) tms N 12 f [false,true,true] (zb5 x) [D.e a]=E N x a:=by intros;kernel_rfl)(n:zf9 f=true:=by kernel_rfl):zbU Tryz.prog f [false,true,true] (rP1 D g):=
 hPx o1 o2 o3 o4 tms n λx d i r e=>by obtain⟨a,l,rfl,j⟩:=zLV e;obtain⟨rfl,k,rfl,rfl⟩:=zx9 j;obtain⟨N,h⟩:=b x a k;exact⟨rfl,N,(q N x a).trans h⟩
def rP2 {A B:Type}(D:Dc A)(d:Dc B)(g:Cur->A->B->Bool×Cur×LA):zeD:=pR λc=>zZB D λa=>zZB d λb=>zPz (g c a b)
def hP2 {A B:Type}{D:Dc A}{i:Dc B}{g:Cur->A->B->Bool×Cur×LA}{E:Nat->Cur->A->B->OA}(d:∀x a b,(g x a b).1=true->∃N,E N x a b=some (.agg (zb5 (g x a b).2.1)::(g x a b).2.2))(u:∀N x a b,zq4 (cQ c m p t) tms N 12 f [false,true,true] (zb5 x) [D.e a,i.e b]=E N x a b:=by intros;kernel_rfl)(s:zf9 f=true:=by kernel_rfl):zbU Tryz.prog f [false,true,true] (rP2 D i g):=
 hPx o1 o2 o3 o4 tms s λx j k w e=>by obtain⟨a,l,rfl,n⟩:=zLV e;obtain⟨b,v,rfl,q⟩:=zLV n;obtain⟨rfl,r,rfl,rfl⟩:=zx9 q;obtain⟨N,h⟩:=d x a b r;exact⟨rfl,N,(u N x a b).trans h⟩
end
instance:Inhabited Ins:=⟨⟨0,0⟩⟩
instance:Inhabited r0:=⟨⟨0,0,0,0,0,0⟩⟩
instance:Inhabited Ctl:=⟨⟨0,0,false⟩⟩
instance:Inhabited ad:=⟨⟨[],[],[],[]⟩⟩
def zbf (c:Cur):Prop:=0<=c.i/\c.b.length<=big
def zbF {T:Type}(d:T->AV){c:T->Prop}{b:LI}{x y:Int}{v:T}(h:0<=x)(g:c v):Ends (λa=>∃s e,a=(AV.agg (zb5 s)::[d e])/\(s.b=b/\0<=s.i)/\c e) (some (AV.agg [.s .u8 b,.i .i64 x,.i .i64 y]::[d v])):=
 ⟨_,rfl,⟨b,x,y⟩,v,rfl,⟨rfl,h⟩,g⟩
def zyM (N:Nat)(c:Cur)  : OA :=
 let a:=zM .i64 (zm8 .i64 c.h 6364136223846793005) 1442695040888963407;let d:=wand .i64 (wxor .i64 (zlU .i64 a 33)<|zlU .i64 a 45) 255; (oN (ile 0 33)<|oN (ile 0 45)<|cond (ilt c.i<|ln c.b) (oN (inb c.i<|ln c.b)<|some [.agg [.s .u8 c.b,.i .i64<|zM .i64 c.i 1,.i .i64 a],aI<|wand .i64 (zM .i64 d<|wcv .i64<|ix c.b c.i 0) 255])<|some [.agg [.s .u8 c.b,.i .i64 c.i,.i .i64 a],aI d])
def zr4 (c:Cur)(s:Cur)(a:Int):Prop:=(∃N,zyM N c=some (AV.agg (zb5 s)::[aI a]))/\(s.b=c.b/\0<=s.i)/\(0<=a/\a<=255)
def zfH (c:Cur)  : Bool:=wC (zr4 c)
def zd9 (c:Cur)  : Cur:=wS (zr4 c)
def zil (c:Cur)  : Int:=wV (zr4 c)
def zps {c:Cur}(h:zfH c=true):zr4 c (zd9 c) (zil c):=wG h
def zpt (c:Cur)  : 0<=(zd9 c).i:=wP λh=>h.2.1.2
def z2d (c:Cur)(h:∃N,Ends (wE (λa=>aI a) c.b λa=>0<=a/\a<=255)<|zyM N c):zfH c=true:=wI (λ_ _ h=>h) h
def zAi:zeD:=rP0 λc=>(zfH c,zd9 c,[aI<|zil c])
def zOq:zbU Tryz.prog 237 [false,true,true] zAi:=hP0 zeS zY zu zn (zo []) (λ_ h=>(zps h).1)
def zVd {x m:Int}(c:0<=m)(d:m<9223372036854775808):0<=wand .i64 x m/\wand .i64 x m<=m:=by have b:(BitVec.ofInt 64 m).toNat=m.toNat:=(by rw[BitVec.toNat_ofInt];omega);have a:(BitVec.ofInt 64 x &&& BitVec.ofInt 64 m).toNat<=m.toNat:=(by rw[BitVec.toNat_and,b];exact Nat.and_le_right);unfold wand;show 0<=IntKind.wrap .i64 ((BitVec.ofInt 64 x &&& BitVec.ofInt 64 m).toNat:Int)/\IntKind.wrap .i64 ((BitVec.ofInt 64 x &&& BitVec.ofInt 64 m).toNat:Int)<=m;rw[zwa (by omega) (by omega)];omega
@[simp] def zNn {c:Cur}(h:zbf c):zfH c=true:=by
 refine z2d c ⟨0,?_⟩;unfold zyM oN;conv=>zeta
 refine zB rfl (zB rfl (zbB (λa=>zB (qL ⟨h.1,qD a⟩) (zbF aI ?_<|zVd (by omega) (by omega))) λ_=>zbF aI h.1 (zVd (by omega) (by omega))));have d:c.i<ln c.b:=qD a;have e:=h.2;have f:=h.1;rw[zsF]at e;unfold ln at d;rw[zo0 (by omega) (by omega)];omega
def zbce:zdb:=[(237,[false,true,true],zAi)]++zBQ
def zZF:zce zbce:=zcF zu (by
 intro x a;simp only[qG,qN,or_false]at a;rcases a with rfl
 .exact zOq)
def zKo {b:LI}{i h:Int}(a:0<=i)(c:b.length<=big):zbf ⟨b,i,h⟩:=⟨a,c⟩
def z3Q {x n:Int}(a:0<=x)(b:0<n):0<=zs6 x n/\zs6 x n<n:=by unfold zs6;exact⟨Int.tmod_nonneg _ a,Int.tmod_lt_of_pos _ b⟩
def zwe (N:Nat)(c:Cur)(a:Int):OA:=
 let f:=({ (zd9 c) with b:=c.b}:Cur);let e:=({ (zd9 f) with b:=c.b}:Cur);let d:=({ (zd9 e) with b:=c.b}:Cur); (cond (ile a 0) (some [.agg [.s .u8 c.b,.i .i64 c.i,.i .i64 c.h],aI 0])<|cond (ile a 256) (oN (zfH c)<|oN (ine a 0)<|some [.agg [.s .u8 c.b,.i .i64 (zd9 c).i,.i .i64 (zd9 c).h],aI<|zs6 (zil c) a])<|oN (zfH c)<|oN (zfH f)<|oN (zfH e)<|oN (zfH d)<|oN (ine a 0)<|some [.agg [.s .u8 c.b,.i .i64 (zd9 d).i,.i .i64 (zd9 d).h],aI<|zs6 (zM .i64 (zM .i64 (zM .i64 (zm8 .i64 (zil c) 16777216)<|zm8 .i64 (zil f) 65536)<|zm8 .i64 (zil e) 256)<|zil d) a])
def zpX (c:Cur)(a:Int)(s:Cur)(d:Int):Prop:=(∃N,zwe N c a=some (AV.agg (zb5 s)::[aI d]))/\(s.b=c.b/\0<=s.i)/\(0<a->0<=d/\d<a)
def zC (c:Cur)(a:Int):Bool:=wC (zpX c a)
def zf (c:Cur)(a0:Int):Cur:=wS (zpX c a0)
def zx (c:Cur)(a0:Int):Int:=wV (zpX c a0)
def zj0 {c:Cur}{a:Int}(h:zC c a=true):zpX c a (zf c a) (zx c a):=wG h
def zG (c:Cur)(a0:Int):0<=(zf c a0).i:=wP λh=>h.2.1.2
def zZ5 (c:Cur)(a:Int)(h:∃N,Ends (wE (λd=>aI d) c.b λd=>0<a->0<=d/\d<a)<|zwe N c a):zC c a=true:=wI (λ_ _ h=>h) h
def zyc:zeD:=rP1 dI λc b=>(zC c b,zf c b,[aI<|zx c b])
def zwI:zbU Tryz.prog 101 [false,true,true] zyc:=hP1 zeS zY zZF zn (zo []) (λ_ _ h=>(zj0 h).1)
def zbA {c:Cur}(h:zbf c)(n:Int):zC c n=true:=by
 refine zZ5 c n ⟨0,?_⟩;have f:=zNn h;have k:zfH {zd9 c with b:=c.b}=true:=zNn (zKo (zpt _) h.2);have l:zfH {zd9 {zd9 c with b:=c.b} with b:=c.b}=true:=zNn (zKo (zpt _) h.2);have m:zfH {zd9 {zd9 {zd9 c with b:=c.b} with b:=c.b} with b:=c.b}=true:=zNn (zKo (zpt _) h.2);have i:=(zps f).2.2;have q:=(zps k).2.2;have r:=(zps l).2.2;have s:=(zps m).2.2;unfold zwe oN;conv=>zeta
 refine zbB (λd=>zbF aI h.1 λu=>absurd (qD d) (by omega)) (λd=>?_);have u:¬ n<=0:=qM d;have j:ine n 0=true:=(by simp[ine];omega);refine zbB (λt=>zB f (zB j<|zbF aI (zpt _) λe=>z3Q i.1 e)) (λt=>?_);refine zB f (zB k<|zB l<|zB m<|zB j<|zbF aI (zpt _) λe=>z3Q ?_ e);generalize zil c=a at i;generalize zil _=g at q;generalize zil _=p at r;generalize zil _=z at s;have v:zm8 .i64 a 16777216=a*16777216:=zwa (by omega) (by omega);have w:zm8 .i64 g 65536=g*65536:=zwa (by omega) (by omega);have y:zm8 .i64 p 256=p*256:=zwa (by omega) (by omega);rw[v,w,y,zo0 (x:=a*16777216) (by omega) (by omega),zo0 (x:=a*16777216+g*65536) (by omega) (by omega),zo0 (by omega) (by omega)];omega
def zbcf:zdb:=[(101,[false,true,true],zyc)]++zbce
def zLW:zce zbcf:=zcF zZF (by
 intro x a;simp only[qG,qN,or_false]at a;rcases a with rfl
 .exact zwI)
def zyN (N:Nat)(c:Cur)(a:Int):OA:=
 (oN (zC c a)<|some [.agg [.s .u8 c.b,.i .i64 (zf c a).i,.i .i64 (zf c a).h],aB<|ieq (zx c a) 0])
def zr5 (c:Cur)(a:Int)(s:Cur)(d:Bool):Prop:=(∃N,zyN N c a=some (AV.agg (zb5 s)::[aB d]))/\(s.b=c.b/\0<=s.i)/\(True)
def zdo (c:Cur)(a:Int):Bool:=wC (zr5 c a)
def zV (c:Cur)(a:Int):Cur:=wS (zr5 c a)
def zdH (c:Cur)(a:Int):Bool:=wV (zr5 c a)
def z2e {c:Cur}{a:Int}(h:zdo c a=true):zr5 c a (zV c a) (zdH c a):=wG h
def zcx (c:Cur)(a0:Int):0<=(zV c a0).i:=wP λh=>h.2.1.2
def z2f (c:Cur)(a:Int)(h:∃N,Ends (wE (λd=>aB d) c.b λd=>True)<|zyN N c a):zdo c a=true:=wI (λ_ _ h=>h) h
def zAj:zeD:=rP1 dI λc b=>(zdo c b,zV c b,[aB<|zdH c b])
def zOr:zbU Tryz.prog 170 [false,true,true] zAj:=hP1 zeS zY zLW zn (zo []) (λ_ _ h=>(z2e h).1)
def zky {c:Cur}(h:zbf c)(n:Int):zdo c n=true:=by refine z2f c n ⟨0,?_⟩;unfold zyN oN;exact zB (zbA h _) (zbF aB (zG _ _) trivial)
def zsB (N:Nat)(c:Cur)(a:LI):OA:=
 (oN (zC c<|ln a)<|oN (inb (zx c<|ln a)<|ln a)<|some [.agg [.s .u8 c.b,.i .i64 (zf c<|ln a).i,.i .i64 (zf c<|ln a).h],aI<|ix a (zx c<|ln a) 0])
def zno (c:Cur)(a:LI)(s:Cur)(d:Int):Prop:=(∃N,zsB N c a=some (AV.agg (zb5 s)::[aI d]))/\(s.b=c.b/\0<=s.i)/\(0<a.length->d∈a)
def zbC (c:Cur)(a:LI):Bool:=wC (zno c a)
def zbe (c:Cur)(a:LI):Cur:=wS (zno c a)
def zbu (c:Cur)(a:LI):Int:=wV (zno c a)
def zAL {c:Cur}{a:LI}(h:zbC c a=true):zno c a (zbe c a) (zbu c a):=wG h
def zb4 (c:Cur)(a0:LI):0<=(zbe c a0).i:=wP λh=>h.2.1.2
def zTk (c:Cur)(a:LI)(h:∃N,Ends (wE (λd=>aI d) c.b λd=>0<a.length->d∈a)<|zsB N c a):zbC c a=true:=wI (λ_ _ h=>h) h
def zva:zeD:=rP1 (dS .int) λc b=>(zbC c b,zbe c b,[aI<|zbu c b])
def zt7:zbU Tryz.prog 109 [false,true,true] zva:=hP1 zeS zY zLW zn (zo []) (λ_ _ h=>(zAL h).1)
def zfY {c:Cur}(h:zbf c){l:LI}(b:l≠[]):zbC c l=true:=by refine zTk c l ⟨0,?_⟩;have d:0<ln l:=(by unfold ln;have:=kX.2 b;omega);have g:=(zj0<|zbA h<|ln l).2.2 d;have a:inb (zx c<|ln l) (ln l)=true:=qL ⟨g.1,g.2⟩;unfold zsB oN;exact zB (zbA h _) (zB a<|zbF aI (zG _ _) λ_=>zbJ a 0)
def zbcg:zdb:=[(170,[false,true,true],zAj),(109,[false,true,true],zva)]++zbcf
def zZG:zce zbcg:=zcF zLW (by
 intro x a;simp only[qG,qN,or_false]at a;rcases a with rfl|rfl
 .exact zOr
 .exact zt7)
def ctr3:zbb:=zQM
def zbc0:zN ctr3:=zeS
def ctr4:zbb:=ctr3
def zbc1:zN ctr4:=zbc0
def ctr5:zbb:=ctr4
def zbc2:zN ctr5:=zbc1
def ctr6:zbb:=ctr5
def zbc3:zN ctr6:=zbc2
def ctr7:zbb:=ctr6
def zbc4:zN ctr7:=zbc3
def ctr8:zbb:=ctr7
def zbc5:zN ctr8:=zbc4
def ctr9:zbb:=ctr8
def zbc6:zN ctr9:=zbc5
def zbaW:zbb:=ctr9
def z9h:zN zbaW:=zbc6
def zbaX:zbb:=zbaW
def z9i:zN zbaX:=z9h
def zbaY:zbb:=zbaX
def z9j:zN zbaY:=z9i
def zbaZ:zbb:=zbaY
def z9k:zN zbaZ:=z9j
def zba0:zbb:=zbaZ
def z9l:zN zba0:=z9k
def zba1:zbb:=zba0
def z9m:zN zba1:=z9l
def zba2:zbb:=zba1
def z9n:zN zba2:=z9m
def zba3:zbb:=zba2
def z9o:zN zba3:=z9n
def zba4:zbb:=zba3
def z9p:zN zba4:=z9o
def zba5:zbb:=zba4
def z9q:zN zba5:=z9p
def zba6:zbb:=zba5
def z9r:zN zba6:=z9q
def zba7:zbb:=zba6
def z9s:zN zba7:=z9r
def zba8:zbb:=zba7
def z9t:zN zba8:=z9s
def ctrX:zbb:=zba8
def zvZ:∀f a,zy ctrX f=some a->Holds Tryz.prog f a:=z9t
def zJ (_ _ _:Int):Bool:=true
def zl (x a b:Int):Bool:=ige x a&&ile x b
def ztx:Run:=rF3 dI dI dI λb c d=>(zJ b c d,[aB<|zl b c d])
def zUc (N:Nat)(a b c:Int):OA:=
 (cond (ige a b) (some [aB<|ile a c]) oF)
def zJo (a b c:Int)(d:zbE big [aI a,aI b,aI c])(e:zJ a b c=true):∃N,zUc N a b c=some [aB<|zl a b c]:=by refine⟨0,?_⟩;unfold zUc zl;cases ige a b<;>rfl
def zVG:vP 121 ztx:=hF3 zvZ zY zu zn (zo []) zJo
def zbi (_ _:Int):Bool:=true
abbrev zbX (i n:Int):Bool:=j0 i n
def zU0:Run:=rF2 dI dI λb c=>(zbi b c,[aB<|zbX b c])
def z2M (N:Nat)(a b:Int):OA:=
 (cond (ige a 0) (some [aB<|ilt a b]) oF)
def z7F (a b:Int)(c:zbi a b=true):∃N,z2M N a b=some [aB<|zbX a b]:=by refine⟨0,?_⟩;unfold z2M zbX;rw[<- has_eq];cases ige a 0<;>rfl
def z1v:vP 154 zU0:=kF2 zvZ zY zu zn (zo []) z7F
def zFB {n:Nat}(c:n<=big)(i:Int):zl i 0 (wsub .i64 (n:Int) 1)=j0 i n:=by rw[zsF]at c;rw[zs7 (by omega) (by omega)];unfold zl ige ile j0;by_cases a:0<=i<;>by_cases b:i<n;{rw [qL (p:=i≥0) (by omega),qL (p:=i<=(n:Int)-1) (by omega),qL (p:=0<=i/\i<(n:Int)) ⟨a,b⟩];rfl};{rw [qH (p:=i<=(n:Int)-1) (by omega),qH (p:=0<=i/\i<(n:Int)) (by omega)];simp};{rw [qH (p:=i≥0) (by omega),qH (p:=0<=i/\i<(n:Int)) (by omega)];simp};{rw [qH (p:=i≥0) (by omega),qH (p:=0<=i/\i<(n:Int)) (by omega)];simp}
def zhX (l:List LI):Bool:=pc (CVB sm<|.s (.sl .int) l)
abbrev zf6 (l:List LI):List LI:=l
def zDg:Run:=rF1 (dS<|.sl .int) λb=>(zhX b,[aS (.sl .int)<|zf6 b])
def zIT (N:Nat)(c:lM):OA:=
 (q0 (σ:=(Int×lM×lM×Unit)) N (λd a=>let b:=ap []<|ix a.2.1 a.1 []; (cond (ilt a.1<|ln a.2.1) (oN (inb a.1<|ln a.2.1)<|oN (few<|ln b)<|oN (few<|ln<|ap a.2.2.1 [b])<|d (zM .i64 a.1 1,a.2.1,ap a.2.2.1 [b],()))<|some [aS (.sl .int) a.2.2.1])) (0,c,[],()))
def zW6:=zo [(257,0,{n:=22,tm:=[(0,.sl 0 []),(3,.sl 1 []),(4,ti)],lo:=[],ro:=[(0,.sl .int,false),(1,.sl .int,true)]})]
def zWy (b:List LI)(f:zhX b=true):∃N,zIT N b=some [aS (.sl .int)<|zf6 b]:=by
 have e:=zF.1 f;have d:=zcC e.len;refine⟨b.length+1,?_⟩;unfold zIT oN;conv=>zeta
 refine(zbp b (λi a=>((i:Int),b,a,())) _ (λ_ x a k=>bif few (ln x) then (cond (few<|ln<|ap a [x]) (k<|ap a [x]) none) else none) (λa=>some [AV.one<|.s (.sl .int) a])
  (λi c t rec=>?_) (λt rec=>?_) _ [] (jU _)).trans (zjD (λx=>few (ln x)) (λx=>x) _ b 0 [] (λx g=>⟨zh8 (zcC (e.inv.2 x g _ (qF.2 rfl)).len).2,rfl⟩) (by simpa using d.2))
 {simp only [zbw c,zbc c,zbn c,cT,zbj c d.1,zpb]};{simp only [zbq,cF]}
def zOu:vP 257 zDg:=kF1 zvZ zY zu zn zW6 zWy
abbrev zhY (k:aA):Bool:=pc (∀c∈Ty.cells .kept k,CVB sm c)
abbrev zeG (k:aA):aA:=k
def zDh:Run:=rF1 (dT .kept) λb=>(zhY b,[aT .kept<|zeG b])
def zIU (N:Nat)(a:aA):OA:=
 (oN (few<|ln<|ap [] a.ay)<|oN (few<|ln<|ap [] a.az)<|some [.agg [.s .bool<|ap [] a.ay,.s .slot<|ap [] a.az]])
def zWA (a:aA)(d:zhY a=true):∃N,zIU N a=some [aT .kept<|zeG a]:=by have h:=zF.1 d;have b:=zq5 (h (.s .bool a.ay) (by simp[Ty.cells]));have c:=zq5 (h (.s .slot a.az) (by simp[Ty.cells]));refine⟨0,?_⟩;simp only[zIU,zpb,b,c,cT];rfl
def zOw:vP 360 zDh:=kF1 zvZ zY zu zn (zo []) zWA
def zea (g:ah):Bool:=pc (∀c∈Ty.cells .guest g,CVB sm c)
abbrev zdI (g:ah):ah:=g
def zDi:Run:=rF1 (dT .guest) λb=>(zea b,[aT .guest<|zdI b])
def zIV (N:Nat)(a:ah):OA:=
 (oN (few<|ln<|ap [] a.aw)<|oN (few<|ln<|ap [] a.ar)<|oN (few<|ln<|ap [] a.ax)<|oN (few<|ln<|ap [] a.aC)<|some [.agg [.s .ins<|ap [] a.aw,.i .i64 a.A,.i .i64 a.Pc,.s .slot<|ap [] a.ar,.s .slot<|ap [] a.ax,.i .i64 a.Ctl.aq,.i .i64 a.Ctl.Post,.b a.Ctl.Open,.i .i64 a.aj,.i .i64 a.Exit.Kind,.i .i64 a.Exit.af,.b a.Exit.Write,.i .i64 a.Exit.N,.b a.aF,.s .int<|ap [] a.aC]])
def zWB (a:ah)(f:zea a=true):∃N,zIV N a=some [aT .guest<|zdI a]:=by have h:=zF.1 f;have b:=zq5 (h (.s .ins a.aw) (by simp[Ty.cells]));have c:=zq5 (h (.s .slot a.ar) (by simp[Ty.cells]));have d:=zq5 (h (.s .slot a.ax) (by simp[Ty.cells]));have e:=zq5 (h (.s .int a.aC) (by simp[Ty.cells]));refine⟨0,?_⟩;simp only[zIV,zpb,b,c,d,e,cT];rfl
def zOA:vP 403 zDi:=kF1 zvZ zY zu zn (zo []) zWB
def zba9:zbb:=[(121,ztx),(154,zU0),(257,zDg),(360,zDh),(403,zDi)]++ctrX
def zXU:zN zba9:=zh zVG (zh z1v<|zh zOu<|zh zOw<|zh zOA zvZ)
def zhe (l:List ah):Bool:=pc (CVB sm<|.s .guest l)
abbrev zh0 (l:List ah):List ah:=l
def zyu:Run:=rF1 (dS .guest) λb=>(zhe b,[aS .guest<|zh0 b])
def zCK (N:Nat)(c:lG):OA:=
 (q0 (σ:=(Int×lG×lG×Unit)) N (λd a=>let b:=ix a.2.1 a.1 zA; (cond (ilt a.1<|ln a.2.1) (oN (inb a.1<|ln a.2.1)<|oN (zea b)<|oN (few<|ln<|ap a.2.2.1 [zdI b])<|d (zM .i64 a.1 1,a.2.1,ap a.2.2.1 [zdI b],()))<|some [aS .guest a.2.2.1])) (0,c,[],()))
def zQz:=zo [(370,0,{n:=21,tm:=[(0,.sl 0 []),(3,.sl 1 []),(4,ti)],lo:=[],ro:=[(0,.guest,false),(1,.guest,true)]})]
def zPl (b:List ah)(f:zhe b=true):∃N,zCK N b=some [aS .guest<|zh0 b]:=by
 have e:=zF.1 f;have d:=zcC e.len;refine⟨b.length+1,?_⟩;unfold zCK oN;conv=>zeta
 refine(zbp b (λi a=>((i:Int),b,a,())) _ (λ_ x a k=>bif zea x then (cond (few<|ln<|ap a [zdI x]) (k<|ap a [zdI x]) none) else none) (λa=>some [AV.one<|.s .guest a])
  (λi c t rec=>?_) (λt rec=>?_) _ [] (jU _)).trans (zjD zea zdI _ b 0 [] (λx g=>⟨zba<|e.inv.2 x g,rfl⟩) (by simpa using d.2))
 {simp only [zbw c,zbc c,zbn c,cT,zbj c d.1]};{simp only [zbq,cF]}
def zHD:vP 370 zyu:=kF1 zXU zY zu zn zQz zPl
def zbba:zbb:=[(370,zyu)]++zba9
def zXV:zN zbba:=zh zHD zXU
abbrev zmz (m:Mon):Bool:=pc (∀c∈Ty.cells .mon m,CVB sm c)
abbrev zqp (m:Mon):Mon:=m
def zF2:Run:=rF1 (dT .mon) λb=>(zmz b,[aT .mon<|zqp b])
def zNb (N:Nat)(b:Mon):OA:=
 (oN (few<|ln<|ap [] b.ae)<|oN (zhX b.Out)<|oN (few<|ln<|ap [] b.av)<|oN (zhe b.ac)<|oN (few<|ln<|ap [] b.Outs)<|q0 (σ:=(Int×Int×Int×Int×Int×Int×Int×lK×lS×lM×lB×lG×LI×lK×lS×lM×lB×lG×LI×lK×Unit)) N (λf a=>let b:=a.2.2.2.2.2.2.2.2;let g:=b.2.2.2.2.2;let e:=b.2.2.2.2.1;let c:=g.1;let d:=ap a.2.2.2.2.2.2.2.1 [zeG<|ix c a.1 zec]; (cond (ilt a.1<|ln c) (oN (inb a.1<|ln c)<|oN (zhY<|ix c a.1 zec)<|oN (few<|ln d)<|f (zM .i64 a.1 1,a.2.1,a.2.2.1,a.2.2.2.1,a.2.2.2.2.1,a.2.2.2.2.2.1,a.2.2.2.2.2.2.1,d,b.1,b.2.1,b.2.2.1,b.2.2.2.1,e,c,g.2.1,g.2.2.1,g.2.2.2.1,g.2.2.2.2.1,g.2.2.2.2.2.1,g.2.2.2.2.2.2.1,()))<|some [.agg [.s .slot b.1,.s (.sl .int) b.2.1,.s .bool b.2.2.1,.s .guest b.2.2.2.1,.s .int e,.i .i64 a.2.1,.i .i64 a.2.2.1,.s .kept a.2.2.2.2.2.2.2.1,.i .i64 a.2.2.2.1]])) (0,b.aj,b.aq,b.Own,0,0,0,[],ap [] b.ae,zf6 b.Out,ap [] b.av,zh0 b.ac,ap [] b.Outs,b.ak,[],[],[],[],[],[],()))
def z00:=zo [(201,0,{n:=48,tm:=[(1,.lp 0 0),(2,.lp 1 0),(3,.sl 0 []),(4,ti)],lo:=[(0,[.sl 1 [],.sl 2 [],.sl 3 [],.sl 4 [],.sl 5 [],ti,ti,.sl 6 [],ti]),(1,[.sl 7 [],.sl 8 [],.sl 9 [],.sl 10 [],.sl 11 [],ti,ti,.sl 12 [],ti])],ro:=[(0,.kept,true),(1,.slot,true),(2,.sl .int,true),(3,.bool,true),(4,.guest,true),(5,.int,true),(6,.kept,false),(7,.slot,true),(8,.sl .int,true),(9,.bool,true),(10,.guest,true),(11,.int,true),(12,.kept,true)]})]
def zZn (a:Mon)(n:zmz a=true):∃N,zNb N a=some [aT .mon<|zqp a]:=by
 have h:=zF.1 n;have f:=zq5 (h (.s .slot a.ae) (by simp[Ty.cells]));have g:zhX a.Out=true:=zba (h (.s (.sl .int) a.Out) (by simp[Ty.cells]));have j:=zq5 (h (.s .bool a.av) (by simp[Ty.cells]));have l:zhe a.ac=true:=zba (h (.s .guest a.ac) (by simp[Ty.cells]));have m:=zq5 (h (.s .int a.Outs) (by simp[Ty.cells]));have d:CVB sm (.s .kept a.ak):=h (.s .kept a.ak) (by simp[Ty.cells]);have e:=zcC d.len;refine⟨a.ak.length+1,?_⟩;unfold zNb oN;conv=>zeta
 simp only[zpb,f,g,j,l,m,cT];refine(zbp a.ak (λi b=>((i:Int),a.aj,a.aq,a.Own,0,0,0,b,a.ae,zf6 a.Out,a.av,zh0 a.ac,a.Outs,a.ak,[],[],[],[],[],[],())) _
  (λ_ x b k=>bif zhY x then (cond (few<|ln<|ap b [zeG x]) (k<|ap b [zeG x]) none) else none) (λb=>some [AV.agg<|Ty.cells .mon ⟨a.ae,a.Out,a.av,a.ac,a.Outs,a.aj,a.aq,b,a.Own⟩])
  (λi c t rec=>?_) (λt rec=>?_) _ [] (jU _)).trans (zjD zhY zeG _ a.ak 0 [] (λx p=>⟨zba<|d.inv.2 x p,rfl⟩) (by simpa using e.2))
 {simp only [zbw c,zbc c,zbn c,cT,zbj c e.1]};{simp only [zbq,cF];rfl}
def zR5:vP 201 zF2:=kF1 zXV zY zu zn z00 zZn
def zbbb:zbb:=[(201,zF2)]++zbba
def zXW:zN zbbb:=zh zR5 zXV
def zF5 (h:ad)(_:Int):Bool:=pc (zdJ h)
def zgC (h:ad)(m:Int):Mon:=bif j0 m (ln h.aa) then ix h.aa m zi else Ty.dflt .mon
def zul (h:ad)(m:Int):Bool:=j0 m (ln h.aa)
def zza:Run:=rF2 dH dI λb c=>(zF5 b c,[aT .mon<|zgC b c,aB<|zul b c])
def zT7 (N:Nat)(b:ad)(c:Int):OA:=
 let d:=ix b.aa c zi;let a:=zqp d; (oN (zJ c 0<|wsub .i64 (ln b.aa) 1)<|cond (nB<|zl c 0<|wsub .i64 (ln b.aa) 1) (some [.agg [.s .slot [],.s (.sl .int) [],.s .bool [],.s .guest [],.s .int [],.i .i64 0,.i .i64 0,.s .kept [],.i .i64 0],aB false])<|oN (inb c<|ln b.aa)<|oN (zmz d)<|some [.agg [.s .slot a.ae,.s (.sl .int) a.Out,.s .bool a.av,.s .guest a.ac,.s .int a.Outs,.i .i64 a.aj,.i .i64 a.aq,.s .kept a.ak,.i .i64 a.Own],aB true])
def z1N (b:ad)(a:Int)(f:zF5 b a=true):∃N,zT7 N b a=some [aT .mon<|zgC b a,aB<|zul b a]:=by
 have h:=(zF.1 f).mons;refine⟨0,?_⟩;unfold zT7 zgC zul oN nB;conv=>zeta
 have e:zl a 0 (wsub .i64 (ln b.aa) 1)=j0 a (ln b.aa):=zFB (zcC h.len).1 a;rw[e];cases c:j0 a (ln b.aa);{simp [zJ,Ty.cells,Ty.dflt]};{have d:zmz (ix b.aa a zi)=true:=zba (h.inv.2 _<|zbJ c _);simp only[zJ,cT,jQ,cF,zD c,d];rfl}
def zCQ:vP 73 zza:=kF2 zXW zY zu zn (zo []) z1N
def zbbc:zbb:=[(73,zza)]++zbbb
def z9u:zN zbbc:=zh zCQ zXW
def zbbd:zbb:=zbbc
def z9v:zN zbbd:=z9u
def ctrY:zbb:=zbbd
def zv0:∀f a,zy ctrY f=some a->Holds Tryz.prog f a:=z9v
def A0:k0:=⟨-1,0⟩
def zbO:Bool:=true
abbrev zbm:k0:=A0
def znP:Run:=rF0 (zbO,[aT .slot zbm])
def z3S (N:Nat)  : OA :=
 (some [.agg [.i .i64<|-1,.i .i64 0]])
def zFH  (a:zbE big []) (b:zbO=true):∃N,z3S N  = some [aT .slot zbm]:=by exact⟨0,rfl⟩
def zzZ:vP 215 znP:=hF0 zv0 zY zu zn (zo []) zFH
def zRf:vP 210 znP:=hF0 zv0 zY zu zn (zo []) zFH
def zRw:vP 168 ztx:=hF3 zv0 zY zu zn (zo []) zJo
def zbbf:zbb:=[(215,znP),(210,znP),(168,ztx)]++ctrY
def zKd:zN zbbf:=zh zzZ (zh zRf<|zh zRw zv0)
def ziJ (r:Int):Bool:=ige r 0&&ile r 3
def zlJ (_:Int):Bool:=true
abbrev zhT (r:Int):Bool:=ziJ r
def zoG:Run:=rF1 dI λb=>(zlJ b,[aB<|zhT b])
def zXC (N:Nat)(a:Int):OA:=
 (oN (zJ a 0 3)<|some [aB<|zl a 0 3])
def zAc (a:Int)(b:zbE big [aI a])(c:zlJ a=true):∃N,zXC N a=some [aB<|zhT a]:=by exact⟨0,rfl⟩
def zLe:vP 185 zoG:=hF1 zKd zY zu zn (zo []) zAc
def zKL:vP 381 zoG:=hF1 zKd zY zu zn (zo []) zAc
def zbbg:zbb:=[(185,zoG),(381,zoG)]++zbbf
def zp7:zN zbbg:=zh zLe (zh zKL zKd)
def zof (a b:Int):Int:=bif ziJ a then (cond (ziJ b) (wand .i64 a b) 0) else 0
abbrev zif (a b:Int):Int:=zof a b
def zmm:Run:=rF2 dI dI λb c=>(zbi b c,[aI<|zif b c])
def zzH (N:Nat)(a b:Int):OA:=
 (oN (zlJ a)<|cond (nB<|zhT a) (some [aI 0])<|oN (zlJ b)<|cond (nB<|zhT b) (some [aI 0])<|some [aI<|wand .i64 a b])
def zwO (a b:Int)(c:zbE big [aI a,aI b])(d:zbi a b=true):∃N,zzH N a b=some [aI<|zif a b]:=by refine⟨0,?_⟩;unfold zzH zif zof zhT oN nB;cases ziJ a<;>cases ziJ b<;>rfl
def zFp:vP 386 zmm:=hF2 zp7 zY zu zn (zo []) zwO
def zFg:vP 385 zmm:=hF2 zp7 zY zu zn (zo []) zwO
def enough (a b:Int):Bool:=bif ziJ a then (cond (ziJ b) (ieq (wand .i64 a b) b) false) else false
abbrev zds (a b:Int):Bool:=enough a b
def zrA:Run:=rF2 dI dI λb c=>(zbi b c,[aB<|zds b c])
def zMN (N:Nat)(b a:Int):OA:=
 (oN (zlJ b)<|cond (zhT b) (oN (zlJ a)<|cond (zhT a) (some [aB<|ieq (wand .i64 b a) a]) oF) oF)
def zFE (a b:Int)(c:zbE big [aI a,aI b])(d:zbi a b=true):∃N,zMN N a b=some [aB<|zds a b]:=by refine⟨0,?_⟩;unfold zMN zds enough zhT oN;cases ziJ a<;>cases ziJ b<;>rfl
def zRA:vP 64 zrA:=hF2 zp7 zY zu zn (zo []) zFE
def zQ6:vP 212 zrA:=hF2 zp7 zY zu zn (zo []) zFE
def zc2 (t:List k0)(p:Int):k0:=bif j0 p (ln t) then ix t p zX else A0
def zgp (_:List k0)(_:Int):Bool:=true
abbrev zeZ (t:List k0)(p:Int):k0:=zc2 t p
def zrM:Run:=rF2 (dS .slot) dI λb c=>(zgp b c,[aT .slot<|zeZ b c])
def zM3 (N:Nat)(a:lS)(b:Int):OA:=
 (oN (zJ b 0<|wsub .i64 (ln a) 1)<|cond (nB<|zl b 0<|wsub .i64 (ln a) 1) (oN zbO<|some [.agg [.i .i64 zbm.af,.i .i64 zbm.an]])<|oN (inb b<|ln a)<|some [.agg [.i .i64 (ix a b zX).af,.i .i64 (ix a b zX).an]])
def zZh (b:List k0)(a:Int)(c:zbE big [aS .slot b,aI a])(g:zgp b a=true):∃N,zM3 N b a=some [aT .slot<|zeZ b a]:=by have f:=len0 c;refine⟨0,?_⟩;unfold zM3 zeZ zc2 oN nB;have e:zl a 0 (wsub .i64 (ln b) 1)=j0 a (ln b):=zBE f a;rw[e];cases d:j0 a (ln b);{rfl};{rw [zD d];rfl}
def zRO:vP 173 zrM:=hF2 zp7 zY zu zn (zo []) zZh
def zME (N:Nat)(a:lS)(b:Int):OA:=
 (oN (zbi b<|ln a)<|cond (nB<|zbX b<|ln a) (oN zbO<|some [.agg [.i .i64 zbm.af,.i .i64 zbm.an]])<|oN (inb b<|ln a)<|some [.agg [.i .i64 (ix a b zX).af,.i .i64 (ix a b zX).an]])
def zYW (a:List k0)(b:Int)(d:zgp a b=true):∃N,zME N a b=some [aT .slot<|zeZ a b]:=by refine⟨0,?_⟩;unfold zME zeZ zc2 zbX oN nB;cases c:j0 b (ln a);{rfl};{rw [zD c];rfl}
def zRo:vP 171 zrM:=kF2 zp7 zY zu zn (zo []) zYW
def zbbh:zbb:=[(386,zmm),(385,zmm),(64,zrA),(212,zrA),(173,zrM),(171,zrM)]++zbbg
def zKe:zN zbbh:=zh zFp (zh zFg<|zh zRA<|zh zQ6<|zh zRO<|zh zRo zp7)
def zdz (a b:k0):Bool:=ieq a.af b.af&&ieq a.an b.an
def below' (a b:k0):Bool:=bif zdz a A0 then true else (cond (ieq a.af b.af) (enough b.an a.an) false)
def zdQ (s:k0)(a:List k0):k0 :=
 bif ieq s.af (-1) then A0 else (cond (ieq (zc2 a s.af).af<|-1) A0<|cond (ieq (zof s.an (zc2 a s.af).an) 0) A0 ⟨(zc2 a s.af).af,zof s.an (zc2 a s.af).an⟩)
def ziy (_:k0)(_:List k0):Bool:=true
def zmM (s:k0)(a:List k0):k0:=zdQ s a
def zlh:Run:=rF2 (dT .slot) (dS .slot) λb c=>(ziy b c,[aT .slot<|zmM b c])
def zxl (N:Nat)(a:k0)(c:lS):OA:=
 let b:=zeZ c a.af; (oN (zgp c a.af)<|oN (zbi a.an b.an)<|cond (ieq a.af<|-1) (oN zbO<|some [.agg [.i .i64 zbm.af,.i .i64 zbm.an]])<|cond (ieq b.af<|-1) (oN zbO<|some [.agg [.i .i64 zbm.af,.i .i64 zbm.an]])<|cond (ieq (zif a.an b.an) 0) (oN zbO<|some [.agg [.i .i64 zbm.af,.i .i64 zbm.an]])<|some [.agg [.i .i64 b.af,.i .i64<|zif a.an b.an]])
def zu9 (a:k0)(b:List k0)(c:zbE big [aT .slot a,aS .slot b])(d:ziy a b=true):∃N,zxl N a b=some [aT .slot<|zmM a b]:=by
 refine⟨0,?_⟩;unfold zxl zmM zdQ zeZ zif oN;conv=>zeta
 cases ieq a.af (-1)<;>cases ieq (zc2 b a.af).af (-1)<;>cases ieq (zof a.an (zc2 b a.af).an) 0<;>rfl
def zDA:vP 229 zlh:=hF2 zKe zY zu zn (zo []) zu9
def zDx:vP 225 zlh:=hF2 zKe zY zu zn (zo []) zu9
def zpy (x:Int):Int:=bif (ige x 1&&ile x 6) then z08 .i64 (wsub .i64 x 1) 2 else -1
def zn6 (x:Int):Int:=bif (ige x 1&&ile x 6) then zs6 (wsub .i64 x 1) 2 else -1
def zbbi:zbb:=[(229,zlh),(225,zlh)]++zbbh
def z9x:zN zbbi:=zh zDA (zh zDx zKe)
def zbdu {a b:Type}{l:List a}{m:List b}(h:ine (ln l) (ln m)=false):l.length=m.length:=by have:(ln l==ln m)=true:=(by simpa [ine,bne] using h);have:=eq_of_beq this;simp only[ln] at this;omega
def zbbj:zbb:=zbbi
def z9y:zN zbbj:=z9x
def zhG (h:ad)(e:au):Bool :=
 bif j0 (zpy e.Tag) (ln h.aa) then (bif j0 (zn6 e.Tag) (ln (ix h.aa (zpy e.Tag) zi).ac) then
  below' ⟨e.ad,e.an⟩ (zdQ (zc2 (ix (ix h.aa (zpy e.Tag) zi).ac (zn6 e.Tag) zA).ax e.af) (ix h.aa (zpy e.Tag) zi).ae) else false) else false
def zbbk:zbb:=zbbj
def z9z:zN zbbk:=z9y
def ctrW:zbb:=zbbk
def zQN:∀f a,zy ctrW f=some a->Holds Tryz.prog f a:=z9z
def hE (h:ad):(⟨h.ag,h.aa,h.ao,h.am⟩:ad)=h:=rfl
def idxs {a:Type}(p:a->Bool):List a->Nat->LI
 |[],_=>[]
 |x::l,i=>bif p x then (i:Int)::idxs p l (i+1) else idxs p l (i+1)
def zwK {a:Type}(p:a->Bool):∀(l:List a) (i:Nat),(idxs p l i).length<=l.length
 |[],_=>qX _
 |x::l,i=>by have:=zwK p l (i+1);simp only[idxs];cases p x<;>simp<;>omega
def zsL {b c:Type}(p:b->Bool)(K:LI->Option c):∀(l:List b) (i:Nat) (a:LI),a.length+l.length<=2147483648->
 goL (λi x a k=>bif p x then (cond (few<|ln<|ap a [(i:Int)]) (k<|ap a [(i:Int)]) none) else k a) K l i a=K (a++idxs p l i)
 |[],i,a,_=>by simp[goL,idxs]
 |x::l,i,a,h=>by simp only[qY]at h;simp only[goL,idxs];cases p x;{simp only [cF];exact zsL p K l (i+1) a (by omega)};{simp only [cT];rw[zh8 (by simp[ap];omega),cT,zsL p K l (i+1) _ (by simp[ap];omega)];simp[ap]}
def zy4 (p:Nat->Bool):Nat->Nat->LI
 | 0,_=>[]
 |n+1,i=>bif p i then (i:Int)::zy4 p n (i+1) else zy4 p n (i+1)
def zBw {b:Type}(p:Nat->Bool)(K:LI->Option b):∀(n i:Nat) (a:LI),a.length+n<=2147483648->
 goN (λi a k=>bif p i then (cond (few<|ln<|ap a [(i:Int)]) (k<|ap a [(i:Int)]) none) else k a) K n i a=K (a++zy4 p n i)
 | 0,i,a,_=>by simp[goN,zy4]
 |n+1,i,a,h=>by simp only[goN,zy4];cases p i;{simp only [cF];exact zBw p K n (i+1) a (by omega)};{simp only [cT];rw[zh8 (by simp[ap];omega),cT,zBw p K n (i+1) _ (by simp[ap];omega)];simp[ap]}
abbrev zr3 (l:List k0)(_:Int):Bool:=pc (l.length<=2147483648)
abbrev zhy (l:List k0)(p:Int):LI:=idxs (λ(s:k0)=>ieq s.af p) l 0
def zrO:Run:=rF2 (dS .slot) dI λb c=>(zr3 b c,[aS .int<|zhy b c])
def zM7 (N:Nat)(c:lS)(d:Int):OA:=
 (q0 (σ:=(Int×Int×lS×LI×Unit)) N (λb a=>cond (ilt a.2.1<|ln a.2.2.1) (oN (inb a.2.1<|ln a.2.2.1)<|cond (ieq (ix a.2.2.1 a.2.1 zX).af a.1) (oN (few<|ln<|ap a.2.2.2.1 [a.2.1])<|b (a.1,zM .i64 a.2.1 1,a.2.2.1,ap a.2.2.2.1 [a.2.1],()))<|b (a.1,zM .i64 a.2.1 1,a.2.2.1,a.2.2.2.1,()))<|some [aS .int a.2.2.2.1]) (d,0,c,[],()))
def z0V:=zo [(469,0,{n:=26,tm:=[(0,.sl 0 []),(1,ti),(5,.sl 1 []),(6,ti)],lo:=[],ro:=[(0,.slot,false),(1,.int,true)]})]
def zZk (b:List k0)(a:Int)(g:zbE big [aS .slot b,aI a])(h:zr3 b a=true):∃N,zM7 N b a=some [aS .int<|zhy b a]:=by have e:=len0 g;have j:=zF.1 h;refine zcf λN d=>?_;unfold zM7 oN;refine(zbp b (λi (t:LI)=>(a,(i:Int),b,t,())) _ (λi (x:k0) (t:LI) f=>bif ieq x.af a then (cond (few<|ln<|ap t [(i:Int)]) (f<|ap t [(i:Int)]) none) else f t) (λ(t:LI)=>some [.one<|.s .int t]) (λi c t rec=>?_) (λt rec=>?_) _ ([])<|d e).trans ?_;{simp only [zbw c,zbc c,zbn c,zbj c e,cT]};{simp only [zbq,cF]};exact zsL (λ(s:k0)=>ieq s.af a) _ _ 0 [] (by simpa using j)
def zRS:vP 469 zrO:=hF2 zQN zY zu zn z0V zZk
def zMH (N:Nat)(d:lS)(f:Int):OA:=
 (q0 (σ:=(Int×Int×Int×LI×lS×Unit)) N (λe a=>let c:=a.2.2.2.2.1;let b:=a.2.2.1; (cond (ilt b a.2.1) (oN (inb b<|ln c)<|cond (ieq (ix c b zX).af a.1) (oN (few<|ln<|ap a.2.2.2.1 [b])<|e (a.1,a.2.1,zM .i64 b 1,ap a.2.2.2.1 [b],c,()))<|e (a.1,a.2.1,zM .i64 b 1,a.2.2.2.1,c,()))<|some [aS .int a.2.2.2.1])) (f,ln d,0,[],d,()))
def z0K:=zo [(466,0,{n:=26,tm:=[(1,ti),(5,.sl 0 []),(9,.sl 1 []),(10,ti),(11,ti)],lo:=[],ro:=[(0,.int,true),(1,.slot,false)]})]
def zYZ (a:List k0)(b:Int)(g:zbE big [aS .slot a,aI b])(h:zr3 a b=true):∃N,zMH N a b=some [aS .int<|zhy a b]:=by
 have e:=len0 g;have j:=zF.1 h;refine zcf λN d=>?_;unfold zMH oN;conv=>zeta
 refine(zbp a (λi (t:LI)=>(b,ln a,(i:Int),t,a,())) _ (λi (x:k0) (t:LI) f=>bif ieq x.af b then (cond (few<|ln<|ap t [(i:Int)]) (f<|ap t [(i:Int)]) none) else f t) (λ(t:LI)=>some [.one<|.s .int t]) (λi c t rec=>?_) (λt rec=>?_) _ ([])<|d e).trans ?_;{simp only [zbw c,zbc c,zbn c,zbj c e,cT]};{simp only [zbq,cF]};exact zsL (λ(s:k0)=>ieq s.af b) _ _ 0 [] (by simpa using j)
def zRs:vP 466 zrO:=hF2 zQN zY zu zn z0K zYZ
def zbbl:zbb:=[(469,zrO),(466,zrO)]++ctrW
def z9A:zN zbbl:=zh zRS (zh zRs zQN)
def zbbm:zbb:=zbbl
def z9B:zN zbbm:=z9A
def zbbn:zbb:=zbbm
def zKf:zN zbbn:=z9B
def all2 {a:Type}(b:a->a->Bool):List a->List a->Bool
 |[],[]=>true
 |x::l,y::m=>b x y&&all2 b l m
 |_,_=>false
def zXG {a:Type}(b:a->a->Bool):∀(l m:List a),l.length≠m.length->all2 b l m=false
 |[],[],h=>absurd rfl h
 |[],_::_,_=>rfl
 |_::_,[],_=>rfl
 |x::l,y::m,h=>by simp only[all2,zXG b l m (by simpa using h),Bool.and_false]
def zYl {c g:Type}(e:c->c->Bool)(d:c)(b:List c)(r:Option g)(K:Unit->Option g):∀(a:List c) (i:Nat),a.length+i=b.length->
 goL (λi x (_:Unit) k=>bif e x (ix b (i:Int) d) then k () else r) K a i ()=bif all2 e a (b.drop i) then K () else r
 |[],i,h=>by have:b.drop i=[]:=List.drop_eq_nil_of_le (by simp at h;omega);rw[this];rfl
 |x::a,i,h=>by simp only[qY]at h;have f:i<b.length:=(by omega);rw[kT f];simp only[goL,all2,zbn f];cases e x b[i];{rfl};{simp only [cT,uN];exact zYl e d b r K a (i+1) (by omega)}
def zbeO {a b:Type}{l:List a}{m:List b}(h:ine (ln l) (ln m)=true):l.length≠m.length:=by intro e;simp only[ine,ln,e,bne_self_eq_false]at h;cases h
def zjw (x y:Int):ine x y = !ieq x y:=rfl
def eqI (a b:LI):Bool:=all2 ieq a b
def zdp (_ _:LI):Bool:=true
def zkK (a b:LI):Bool:=eqI a b
def zuU:Run:=rF2 (dS .int) (dS .int) λb c=>(zdp b c,[aB<|zkK b c])
def zs8 (N:Nat)(b c:LI):OA:=
 (cond (ine (ln b)<|ln c) oF<|q0 (σ:=(Int×LI×LI×Unit)) N (λd a=>cond (ilt a.1<|ln a.2.1) (oN (inb a.1<|ln a.2.1)<|oN (inb a.1<|ln a.2.2.1)<|cond (ine (ix a.2.1 a.1 0)<|ix a.2.2.1 a.1 0) oF<|d (zM .i64 a.1 1,a.2.1,a.2.2.1,())) oT) (0,b,c,()))
def zW7:=zo [(297,0,{n:=26,tm:=[(0,.sl 0 []),(1,.sl 1 []),(5,ti)],lo:=[],ro:=[(0,.int,false),(1,.int,false)]})]
def zWz (c a:LI)(j:zbE big [aS .int c,aS .int a])(m:zdp c a=true):∃N,zs8 N c a=some [aB<|zkK c a]:=by have h:=len0 j;refine zcf λN f=>?_;unfold zs8 zkK eqI oN;cases g:ine (ln c) (ln a);{have e:=zbdu g;rw[cF];refine(zbp c (λi (t:Unit)=>((i:Int),c,a,())) _ (λi (x:Int) (_:Unit) k=>bif ieq x (ix a (i:Int) 0) then k () else oF) (λ(t:Unit)=>some [.one<|.b true]) (λi d t rec=>?_) (λt rec=>?_) _ ()<|f h).trans ?_;{simp only [zbw d,zbc d,zbn d,zbj d h,cT];simp only[zbc (l:=a) (i:=i)<|e ▸ d,cT,zjw];cases ieq c[i] (ix a (↑i) 0)<;>rfl};{simp only [zbq,cF]};rw[zYl ieq 0 a _ _ c 0 (by simpa using e),vE];cases all2 ieq c a<;>rfl};{rw [zXG _ _ _<|zbeO g];rfl}
def zx3:vP 297 zuU:=hF2 zKf zY zu zn zW7 zWz
def zeL (l:LI):Bool:=pc (l.length<=2147483648)
abbrev zeJ (l:LI):LI:=l
def zAy:Run:=rF1 (dS .int) λb=>(zeL b,[aS .int<|zeJ b])
def zD9 (N:Nat)(a:LI):OA:=
 (oN (few<|ln<|ap [] a)<|some [aS .int<|ap [] a])
def zSA (a:LI)(b:zeL a=true):∃N,zD9 N a=some [aS .int<|zeJ a]:=by refine⟨0,?_⟩;unfold zD9 oN;rw[zpb,zh8<|zF.1 b,cT]
def zKT:vP 344 zAy:=kF1 zKf zY zu zn (zo []) zSA
def zbbo:zbb:=[(297,zuU),(344,zAy)]++zbbn
def zKg:zN zbbo:=zh zx3 (zh zKT zKf)
def zCh:LI:=rp 4 0
def zdc (m:List LI)(p:Int):LI:=bif j0 p (ln m) then ix m p [] else zCh
def zfT (m:List LI)(_:Int):Bool:=pc (CVB sm<|.s (.sl .int) m)
def zhx (m:List LI)(p:Int):LI:=zdc m p
def z8q {m:List LI}{p:Int}(b:CVB sm (.s (.sl .int) m))(a:j0 p (ln m)=true):(ix m p []).length<=2147483648 :=
 (zcC (b.inv.2 _ (zbJ a ([]:LI)) (.s .int _) (qF.2 rfl)).len).2
def zrG:Run:=rF2 (dS<|.sl .int) dI λb c=>(zfT b c,[aS .int<|zhx b c])
def zMV (N:Nat)(a:lM)(b:Int):OA:=
 (oN (zJ b 0<|wsub .i64 (ln a) 1)<|cond (nB<|zl b 0<|wsub .i64 (ln a) 1) (oN (cond (few 4) (ieq 4 4) false)<|some [aS .int<|rp 4 0])<|oN (inb b<|ln a)<|oN (few<|ln<|ap []<|ix a b [])<|some [aS .int<|ap []<|ix a b []])
def zZa (b:List LI)(a:Int)(f:zfT b a=true):∃N,zMV N b a=some [aS .int<|zhx b a]:=by have d:=zF.1 f;refine⟨0,?_⟩;unfold zMV zhx zdc oN nB;have e:zl a 0 (wsub .i64 (ln b) 1)=j0 a (ln b):=zBE (zcC d.len).1 a;rw[e];cases c:j0 a (ln b);{rfl};{simp only [zJ,cT,cF,zD c,zpb,zh8<|z8q d c]}
def zRH:vP 174 zrG:=kF2 zKg zY zu zn (zo []) zZa
def zMx (N:Nat)(a:lM)(b:Int):OA:=
 (oN (zbi b<|ln a)<|cond (nB<|zbX b<|ln a) (oN (cond (few 4) (ieq 4 4) false)<|some [aS .int<|rp 4 0])<|oN (inb b<|ln a)<|oN (zeL<|ix a b [])<|some [aS .int<|zeJ<|ix a b []])
def zYP (a:List LI)(b:Int)(d:zfT a b=true):∃N,zMx N a b=some [aS .int<|zhx a b]:=by have e:=zF.1 d;refine⟨0,?_⟩;unfold zMx zhx zdc zbX oN nB;cases c:j0 b (ln a);{rfl};{simp only [zbi,cT,cF,zD c,show zeL (ix a b [])=true from zba (z8q e c),zeJ]}
def zRg:vP 172 zrG:=kF2 zKg zY zu zn (zo []) zYP
def zbbp:zbb:=[(174,zrG),(172,zrG)]++zbbo
def zKh:zN zbbp:=zh zRH (zh zRg zKg)
def zeB (h:ad)(m p:Int):LI :=
 bif j0 m (ln h.aa) then (cond (j0 p 8) (cond (ine (zc2 (ix h.aa m zi).ae p).af<|-1) (zdc h.ag (zc2 (ix h.aa m zi).ae p).af)<|zdc (ix h.aa m zi).Out p) zCh) else zCh
def has8 (p:Int):zl p 0 7=j0 p 8:=by unfold zl ige ile j0;by_cases a:0<=p<;>by_cases b:p<8;{rw [qL (p:=p≥0) (by omega),qL (p:=p<=7) (by omega),qL (p:=0<=p/\p<8) ⟨a,b⟩];rfl};{rw [qH (p:=p<=7) (by omega),qH (p:=0<=p/\p<8) (by omega)];simp};{rw [qH (p:=p≥0) (by omega),qH (p:=0<=p/\p<8) (by omega)];simp};{rw [qH (p:=p≥0) (by omega),qH (p:=0<=p/\p<8) (by omega)];simp}
def zr0 (h:ad)(_ _:Int):Bool:=pc (zdJ h)
def zqo (h:ad)(m p:Int):LI:=zeB h m p
def znQ:Run:=rF3 dH dI dI λb c d=>(zr0 b c d,[aS .int<|zqo b c d])
def zMX (N:Nat)(a:ad)(c b:Int):OA:=
 let d:=ix a.aa c zi;let e:=(zeZ d.ae b).af; (oN (zJ c 0<|wsub .i64 (ln a.aa) 1)<|cond (nB<|zl c 0<|wsub .i64 (ln a.aa) 1) (oN (cond (few 4) (ieq 4 4) false)<|some [aS .int<|rp 4 0])<|oN (zJ b 0 7)<|cond (nB<|zl b 0 7) (oN (cond (few 4) (ieq 4 4) false)<|some [aS .int<|rp 4 0])<|oN (inb c<|ln a.aa)<|oN (zgp d.ae b)<|cond (ine e<|-1) (oN (zfT a.ag e)<|some [aS .int<|zhx a.ag e])<|oN (zfT d.Out b)<|some [aS .int<|zhx d.Out b])
def zZc (a:ad)(b c:Int)(g:zr0 a b c=true):∃N,zMX N a b c=some [aS .int<|zqo a b c]:=by
 have d:=zF.1 g;refine⟨0,?_⟩;unfold zMX zqo zeB oN nB;conv=>zeta
 have e:zl b 0 (wsub .i64 (ln a.aa) 1)=j0 b (ln a.aa):=zBE (zcC d.mons.len).1 b;rw[e,has8];cases f:j0 b (ln a.aa);{rfl};{cases i:j0 c 8;{rfl};{have h:CVB sm (.s (.sl .int) (ix a.aa b zi).Out):=d.mons.inv.2 _ (zbJ f zi) (.s (.sl .int) _) (by simp[Ty.cells]);simp only[zJ,cT,cF,zD f,zgp,zeZ,show ∀p,zfT a.ag p=true from λp=>zba d.mem,show ∀p,zfT (ix a.aa b zi).Out p=true from λp=>zba h,zhx];cases ine (zc2 (ix a.aa b zi).ae c).af (-1)<;>rfl}}
def zz0:vP 52 znQ:=kF3 zKh zY zu zn (zo []) zZc
def zMz (N:Nat)(a:ad)(c b:Int):OA:=
 let d:=ix a.aa c zi;let e:=(zeZ d.ae b).af; (oN (zbi c<|ln a.aa)<|cond (nB<|zbX c<|ln a.aa) (oN (cond (few 4) (ieq 4 4) false)<|some [aS .int<|rp 4 0])<|oN (zbi b 8)<|cond (nB<|zbX b 8) (oN (cond (few 4) (ieq 4 4) false)<|some [aS .int<|rp 4 0])<|oN (inb c<|ln a.aa)<|oN (zgp d.ae b)<|cond (ine e<|-1) (oN (zfT a.ag e)<|some [aS .int<|zhx a.ag e])<|oN (zfT d.Out b)<|some [aS .int<|zhx d.Out b])
def zYR (a:ad)(b c:Int)(f:zr0 a b c=true):∃N,zMz N a b c=some [aS .int<|zqo a b c]:=by
 have e:=zF.1 f;refine⟨0,?_⟩;unfold zMz zqo zeB zbX oN nB;conv=>zeta
 cases d:j0 b (ln a.aa);{rfl};{cases h:j0 c 8;{rfl};{have g:CVB sm (.s (.sl .int) (ix a.aa b zi).Out):=e.mons.inv.2 _ (zbJ d zi) (.s (.sl .int) _) (by simp[Ty.cells]);simp only[zbi,cT,cF,zD d,zgp,zeZ,show ∀p,zfT a.ag p=true from λp=>zba e.mem,show ∀p,zfT (ix a.aa b zi).Out p=true from λp=>zba g,zhx];cases ine (zc2 (ix a.aa b zi).ae c).af (-1)<;>rfl}}
def zRi:vP 51 znQ:=kF3 zKh zY zu zn (zo []) zYR
def zbbq:zbb:=[(52,znQ),(51,znQ)]++zbbp
def z9C:zN zbbq:=zh zz0 (zh zRi zKh)
def zbbr:zbb:=zbbq
def z9D:zN zbbr:=z9C
def ctrV:zbb:=zbbr
def zbdf:∀f a,zy ctrV f=some a->Holds Tryz.prog f a:=z9D
def ctrU:zbb:=ctrV
def zd2:zN ctrU:=zbdf
def zo6:ziV:=mct0
def zq:zgP zo6:=zY
def canRun (g:ah):Bool:=bif (ieq g.Exit.Kind 0&&(ieq g.Exit.af 0&&(zhn g.Exit.Write false&&ieq g.Exit.N 0))) then !g.aF else false
def zvI (_:ah):Bool:=true
abbrev zqk (g:ah):Bool:=canRun g
def zrz:Run:=rF1 (dT .guest) λb=>(zvI b,[aB<|zqk b])
def zML (N:Nat)(a:ah):OA:=
 (cond (cond (ieq a.Exit.Kind 0) (cond (ieq a.Exit.af 0) (cond (zhn a.Exit.Write false) (ieq a.Exit.N 0) false) false) false) (some [aB<|nB a.aF]) oF)
def zFD (a:ah)(b:zbE big [aT .guest a])(c:zvI a=true):∃N,zML N a=some [aB<|zqk a]:=by refine⟨0,?_⟩;unfold zML zqk canRun nB;cases ieq a.Exit.Kind 0<;>cases ieq a.Exit.af 0<;>cases zhn a.Exit.Write false<;>cases ieq a.Exit.N 0<;>simp
def zRy:vP 119 zrz:=hF1 zv0 zY zu zn (zo []) zFD
def zQ4:vP 396 zrz:=hF1 zv0 zY zu zn (zo []) zFD
def i0 {d:Type}{c:Bool}{a b r:Option d}(h:c=true)(k:a=r):(cond c a b)=r:=by rw[h];exact k
def mu {d:Type}{c:Bool}{a b r:Option d}(k:a=r)(h:c=true:=by first|assumption|(simp_all<;>omega)):(cond c a b)=r:=i0 h k
def zb9 {d:Type}{c:Bool}{a b r:Option d}(h:c=false)(k:b=r):(cond c a b)=r:=by rw[h];exact k
def br {f:Type}{c:Bool}{a b r:Option f}(d:c=true->a=r)(e:c=false->b=r):(cond c a b)=r:=by cases c;{exact e rfl};{exact d rfl}
def brN {f:Type}{c:Bool}{a b r:Option f}(d:c=false->a=r)(e:c=true->b=r):(cond (cond c false true) a b)=r:=by cases c;{exact d rfl};{exact e rfl}
def shr {a b:Type}{x:a}{f:a->Option b}{r:Option b}(h:f x=r):p0 x f=r:=h
def zkQ {e:Type}{c p:Bool}{a b:Option e}(d:c=true):(cond c (cond (cond p false true) a b) none)=bif p then b else a:=by rw[d];cases p<;>rfl
attribute [simp] zF
@[simp] def zbdq {a:Type}(l:List a):(few (ln l)=true)↔l.length<=2147483648:=by unfold few ln;rw[decide_eq_true_iff];omega
@[simp] def zbge {a:Type}(l m:List a):(ap l m).length=l.length+m.length:=by simp[ap]
attribute [simp] zpb zfB
@[simp] def zbb1 (n:Nat)(k:IntKind)(x:Int):CVB n (.i k x)↔True:=⟨λ_=>trivial,λ_=>.i k x⟩
@[simp] def zbgi (n:Nat)(x:Bool):CVB n (.b x)↔True:=⟨λ_=>trivial,λ_=>.b x⟩
def zoi {n:Nat}{t:Ty}(l:List t.den):CVB n (.s t l)↔l.length<=n/\∀x∈l,∀c∈t.cells x,CVB n c:=⟨λh=>h.inv,λh=>.s t l h.1 h.2⟩
@[simp] def z2X (n:Nat)(l:LI):CVB n (.s .int l)↔l.length<=n:=by rw[zoi];simp[Ty.cells]
@[simp] def zbeG (n:Nat)(l:LI):CVB n (.s .u8 l)↔l.length<=n:=by rw[zoi];simp[Ty.cells]
@[simp] def z9K (n:Nat)(l:List Bool):CVB n (.s .bool l)↔l.length<=n:=by rw[zoi];simp[Ty.cells]
@[simp] def z9M (n:Nat)(l:List k0):CVB n (.s .slot l)↔l.length<=n:=by rw[zoi];simp[Ty.cells]
@[simp] def zbdh (n:Nat)(l:List Ins):CVB n (.s .ins l)↔l.length<=n:=by rw[zoi];simp[Ty.cells]
@[simp] def z7f (n:Nat)(l:List au):CVB n (.s .entry l)↔l.length<=n:=by rw[zoi];simp[Ty.cells]
@[simp] def zbdg (n:Nat)(l:List r0):CVB n (.s .act l)↔l.length<=n:=by rw[zoi];simp[Ty.cells]
@[simp] def z9N (n:Nat)(l:List aE):CVB n (.s .told l)↔l.length<=n:=by rw[zoi];simp[Ty.cells]
def SmM (m:List LI):Prop:=m.length<=1048576/\∀x∈m,x.length<=1048576
def SmG (g:ah):Prop:=g.aw.length<=1048576/\g.ar.length<=1048576/\g.ax.length<=1048576/\g.aC.length<=1048576
def zm7 (l:List ah):Prop:=l.length<=1048576/\∀x∈l,SmG x
def SmB (b:ai):Prop:=SmM b.ag/\zm7 b.ac/\b.Outs.length<=1048576
def zwl (l:List ai):Prop:=l.length<=1048576/\∀x∈l,SmB x
def sm_v:sm=1048576:=rfl
@[simp] def z4s (l:LI):CVB sm (.s .int l)↔l.length<=1048576:=z2X sm l
@[simp] def zbfT (l:LI):CVB sm (.s .u8 l)↔l.length<=1048576:=zbeG sm l
@[simp] def z1i (l:List Bool):CVB sm (.s .bool l)↔l.length<=1048576:=z9K sm l
@[simp] def z1j (l:List k0):CVB sm (.s .slot l)↔l.length<=1048576:=z9M sm l
@[simp] def zbfx (l:List Ins):CVB sm (.s .ins l)↔l.length<=1048576:=zbdh sm l
@[simp] def zYc (l:List au):CVB sm (.s .entry l)↔l.length<=1048576:=z7f sm l
@[simp] def zbfw (l:List r0):CVB sm (.s .act l)↔l.length<=1048576:=zbdg sm l
@[simp] def zbff (l:List aE):CVB sm (.s .told l)↔l.length<=1048576:=z9N sm l
@[simp] def zsG (l:List LI):CVB sm (.s (.sl .int) l)↔SmM l:=by rw[zoi];simp[Ty.cells,SmM,sm_v]
@[simp] def zbcW (g:ah):(∀c∈Ty.cells .guest g,CVB sm c)↔SmG g:=by simp[Ty.cells,SmG,sm_v]
@[simp] def zxF (l:List ah):CVB sm (.s .guest l)↔zm7 l:=by rw[zoi];simp only[zbcW];rfl
@[simp] def zbcV (b:ai):(∀c∈Ty.cells .bare b,CVB sm c)↔SmB b:=by simp only[Ty.cells,qG,qN,or_false,vM,forall_eq,zsG,zxF,z2X,zbb1,and_true];rfl
@[simp] def zbfX (l:List ai):CVB sm (.s .bare l)↔zwl l:=by rw[zoi];simp only[zbcV];rfl
@[simp] def zbgh (a:List Ins)(b c:Int)(d e:List k0)(f:Ctl)(g:Int)(h:aD)(i:Bool)(j:LI):SmG ⟨a,b,c,d,e,f,g,h,i,j⟩↔a.length<=1048576/\d.length<=1048576/\e.length<=1048576/\j.length<=1048576:=Iff.rfl
@[simp] def zbgg (m:List LI)(g:List ah)(o:LI)(p:Int):SmB ⟨m,g,o,p⟩↔SmM m/\zm7 g/\o.length<=1048576:=Iff.rfl
def zP6 {m:List LI}{i:Int}{x:LI}(h:SmM m)(b:x.length<=1048576):SmM (up m i x):=by refine⟨by simpa using h.1,λy a=>?_⟩;rcases jD a with a|rfl;{exact h.2 y a};{exact b}
def zGV {m:List ah}{i:Int}{x:ah}(h:zm7 m)(b:SmG x):zm7 (up m i x):=by refine⟨by simpa using h.1,λy a=>?_⟩;rcases jD a with a|rfl;{exact h.2 y a};{exact b}
def zbdX {m:List ai}{i:Int}{x:ai}(h:zwl m)(b:SmB x):zwl (up m i x):=by refine⟨by simpa using h.1,λy a=>?_⟩;rcases jD a with a|rfl;{exact h.2 y a};{exact b}
def zP3 {l:List ah}{i:Int}(h:zm7 l)(a:j0 i (ln l)=true)(d:ah):SmG (ix l i d):=h.2 _ (zbJ a d)
def z0p {l:List ai}{i:Int}(h:zwl l)(a:j0 i (ln l)=true)(d:ai):SmB (ix l i d):=h.2 _ (zbJ a d)
def zbe8 {l:List LI}{i:Int}(h:SmM l)(a:j0 i (ln l)=true)(d:LI):(ix l i d).length<=1048576:=h.2 _ (zbJ a d)
@[simp] def zbfN:SmG zA:=⟨by decide,by decide,by decide,by decide⟩
@[simp] def zXu (x a b:Int):zl x a b=zl x a b:=rfl
@[simp] def zYD (i n:Int):inb i n=j0 i n:=rfl
attribute [simp] zbX
@[simp] def zs5 {a:Type}{l:List a}(h:l.length<=1048576)(i:Int):zl i 0 (wsub .i64 (ln l) 1)=j0 i (ln l):=zFB (zcC h).1 i
def zMo {a:Type}{l:List a}(h:l.length<=big)(i:Int):zl i 0 (wsub .i64 (ln l) 1)=j0 i (ln l):=zFB h i
def zff {x a b:Int}:(zl x a b=true)↔a<=x/\x<=b:=by unfold zl ige ile;simp only[qE,decide_eq_true_iff]
def zbdt (a b:Int):ilt a b = !ige a b:=by unfold ilt ige;by_cases h:a<b;{rw [qL h,qH (by omega)];rfl};{rw [qH h,qL (by omega)];rfl}
attribute [simp] zbm zbm zhT zhT zif zif zds zds zeZ zeZ zqk zqk zbO zbO
attribute [simp] zf6 zdI zh0 zeJ
attribute [simp] zhX zea zhe zeL
def zco (a:Int):Int:=bif ilt a 0 then -1 else z08 .i64 a 4
def zhl (a:Int):Int:=bif ilt a 0 then -1 else zs6 a 4
@[simp] abbrev zbo (a:Int):Bool:=true
@[simp] abbrev zbs (a:Int):Int:=zco a
def zoA:Run:=rF1 dI λb=>(zbo b,[aI<|zbs b])
def zEi (N:Nat)(a:Int):OA:=
 (cond (ilt a 0) (some [aI<|-1])<|oN (ine 4 0)<|some [aI<|z08 .i64 a 4])
def zAa (a:Int)(b:zbE big [aI a])(c:zbo a=true):∃N,zEi N a=some [aI<|zbs a]:=by refine⟨0,?_⟩;unfold zEi oN;refine br (λ_=>?_) (λ_=>i0 rfl ?_);all_goals first|rfl|(simp only [*,zbs,zco,cT,cF]<;>rfl)|simp_all[Ty.cells,zbs,zco]
def zK4:vP 283 zoA:=hF1 zd2 zq zu zn (zo []) zAa
def zKB:vP 247 zoA:=hF1 zd2 zq zu zn (zo []) zAa
@[simp] abbrev zcg (a:Int):Int:=zhl a
def zoz:Run:=rF1 dI λb=>(zbo b,[aI<|zcg b])
def zEh (N:Nat)(a:Int):OA:=
 (cond (ilt a 0) (some [aI<|-1])<|oN (ine 4 0)<|some [aI<|zs6 a 4])
def zz9 (a:Int)(b:zbE big [aI a])(c:zbo a=true):∃N,zEh N a=some [aI<|zcg a]:=by refine⟨0,?_⟩;unfold zEh oN;refine br (λ_=>?_) (λ_=>i0 rfl ?_);all_goals first|rfl|(simp only [*,zcg,zhl,cT,cF]<;>rfl)|simp_all[Ty.cells,zcg,zhl]
def zK3:vP 288 zoz:=hF1 zd2 zq zu zn (zo []) zz9
def zKA:vP 252 zoz:=hF1 zd2 zq zu zn (zo []) zz9
def zhi (w:Bool):Int:=bif w then 2 else 1
@[simp] abbrev zi2 (w:Bool):Bool:=true
@[simp] abbrev zcP (w:Bool):Int:=zhi w
def zrF:Run:=rF1 dB λb=>(zi2 b,[aI<|zcP b])
def zMU (N:Nat)(a:Bool):OA:=
 (cond a (some [aI 2])<|some [aI 1])
def zFG (a:Bool)(b:zbE big [aB a])(c:zi2 a=true):∃N,zMU N a=some [aI<|zcP a]:=by refine⟨0,?_⟩;unfold zMU;refine br (λ_=>?_) (λ_=>?_);all_goals first|rfl|(simp only [*,zcP,zhi,cT,cF]<;>rfl)|simp_all[Ty.cells,zcP,zhi]
def zRG:vP 284 zrF:=hF1 zd2 zq zu zn (zo []) zFG
def zRe:vP 248 zrF:=hF1 zd2 zq zu zn (zo []) zFG
def zE8 (p:Int)(w:Bool):aD:=⟨1,p,w,0⟩
def zJ9 (n:Int):aD:=⟨2,0,false,n⟩
def zTe (n:Int):aD:=⟨3,0,false,n⟩
@[simp] abbrev zfE (p:Int)(w:Bool):Bool:=true
@[simp] abbrev zd8 (p:Int)(w:Bool):aD:=zE8 p w
def zkB:Run:=rF2 dI dB λb c=>(zfE b c,[.agg<|zgF<|zd8 b c])
def zCC (N:Nat)(a:Int)(c:Bool):OA:=
 (some [.agg [.i .i64 1,.i .i64 a,.b c,.i .i64 0]])
def zx6 (a:Int)(b:Bool)(c:zbE big [aI a,aB b])(d:zfE a b=true):∃N,zCC N a b=some [.agg<|zgF<|zd8 a b]:=by refine⟨0,?_⟩;unfold zCC;first|rfl|(simp only [*,zd8,cT,cF]<;>rfl)|simp_all[Ty.cells,zd8]
def zu8:vP 286 zkB:=hF2 zd2 zq zu zn (zo []) zx6
def zG0:vP 250 zkB:=hF2 zd2 zq zu zn (zo []) zx6
@[simp] abbrev zfv (n:Int):Bool:=true
@[simp] abbrev zfk (n:Int):aD:=zJ9 n
def zlA:Run:=rF1 dI λb=>(zfv b,[.agg<|zgF<|zfk b])
def zEo (N:Nat)(a:Int):OA:=
 (some [.agg [.i .i64 2,.i .i64 0,.b false,.i .i64 a]])
def zAb (a:Int)(b:zbE big [aI a])(c:zfv a=true):∃N,zEo N a=some [.agg<|zgF<|zfk a]:=by refine⟨0,?_⟩;unfold zEo;first|rfl|(simp only [*,zfk,cT,cF]<;>rfl)|simp_all[Ty.cells,zfk]
def zwF:vP 409 zlA:=hF1 zd2 zq zu zn (zo []) zAb
def zKD:vP 271 zlA:=hF1 zd2 zq zu zn (zo []) zAb
@[simp] abbrev zgD (n:Int):aD:=zTe n
def zmL:Run:=rF1 dI λb=>(zfv b,[.agg<|zgF<|zgD b])
def zIK (N:Nat)(a:Int):OA:=
 (some [.agg [.i .i64 3,.i .i64 0,.b false,.i .i64 a]])
def zCV (a:Int)(b:zbE big [aI a])(c:zfv a=true):∃N,zIK N a=some [.agg<|zgF<|zgD a]:=by refine⟨0,?_⟩;unfold zIK;first|rfl|(simp only [*,zgD,cT,cF]<;>rfl)|simp_all[Ty.cells,zgD]
def zx2:vP 411 zmL:=hF1 zd2 zq zu zn (zo []) zCV
def zNU:vP 407 zmL:=hF1 zd2 zq zu zn (zo []) zCV
def zeT (t x:Int):Bool:=bif zl t 0 3 then (cond (zl x 1 2) (ine (wand .i64 t x) 0) false) else false
def zbcL (x:Int):zl x 1 2=(ieq x 1||ieq x 2):=by have h:(zl x 1 2=true)↔(ieq x 1||ieq x 2)=true:=(by rw[zff];simp only[ieq,j6,qK];omega);cases a:zl x 1 2<;>cases b:(ieq x 1||ieq x 2)<;>simp_all
@[simp] abbrev zgK (t x:Int):Bool:=true
@[simp] abbrev zf5 (t x:Int):Bool:=zeT t x
def zpL:Run:=rF2 dI dI λb c=>(zgK b c,[aB<|zf5 b c])
def zIC (N:Nat)(a b:Int):OA:=
 (oN (zJ a 0 3)<|cond (zl a 0 3) (oN (zJ b 1 2)<|cond (zl b 1 2) (some [aB<|ine (wand .i64 a b) 0]) oF) oF)
def zWj (a b:Int)(c:zgK a b=true):∃N,zIC N a b=some [aB<|zf5 a b]:=by refine⟨0,?_⟩;unfold zIC oN;refine i0 rfl (br (λ_=>i0 rfl (br (λ_=>?_) λ_=>?_)) λ_=>?_);all_goals first|rfl|(simp only [*,zf5,zeT,cT,cF]<;>rfl)|simp_all[Ty.cells,zf5,zeT]
def zOb:vP 410 zpL:=kF2 zd2 zq zu zn (zo []) zWj
def zIb (N:Nat)(a b:Int):OA:=
 let c:=aB<|ine (wand .i64 a b) 0; (oN (zJ a 0 3)<|cond (zl a 0 3) (cond (ieq b 1) (some [c])<|cond (ieq b 2) (some [c]) oF) oF)
def zVT (a b:Int)(c:zgK a b=true):∃N,zIb N a b=some [aB<|zf5 a b]:=by
 refine⟨0,?_⟩;unfold zIb oN;conv=>zeta
 refine i0 rfl (br (λ_=>br (λ_=>?_) λ_=>br (λ_=>?_) λ_=>?_) λ_=>?_);all_goals first|rfl|(simp only [*,zf5,zeT,zbcL,cT,cF]<;>rfl)|simp_all[Ty.cells,zf5,zeT,zbcL]
def zNP:vP 272 zpL:=kF2 zd2 zq zu zn (zo []) zVT
def zhj (p:Int):Bool:=zl p 0 255
@[simp] abbrev zch (p:Int):Bool:=true
@[simp] abbrev zeY (p:Int):Bool:=zhj p
def zrJ:Run:=rF1 dI λb=>(zch b,[aB<|zeY b])
def zMZ (N:Nat)(a:Int):OA:=
 (oN (zJ a 0 255)<|some [aB<|zl a 0 255])
def zFI (a:Int)(b:zbE big [aI a])(c:zch a=true):∃N,zMZ N a=some [aB<|zeY a]:=by refine⟨0,?_⟩;unfold zMZ oN;refine i0 rfl ?_;first|rfl|(simp only [*,zeY,zhj,cT,cF]<;>rfl)|simp_all[Ty.cells,zeY,zhj]
def zRK:vP 217 zrJ:=hF1 zd2 zq zu zn (zo []) zFI
def zRk:vP 208 zrJ:=hF1 zd2 zq zu zn (zo []) zFI
def zfj (l:List Ins)(p:Int):Ins:=bif j0 p (ln l) then ix l p zsx else ⟨7,0⟩
@[simp] abbrev zdU (l:List Ins)(p:Int):Bool:=true
@[simp] abbrev zd3 (l:List Ins)(p:Int):Ins:=zfj l p
def zts:Run:=rF2 (dS .ins) dI λb c=>(zdU b c,[aT .ins<|zd3 b c])
def zT4 (N:Nat)(a:lI)(b:Int):OA:=
 (oN (zJ b 0<|wsub .i64 (ln a) 1)<|cond (nB<|zl b 0<|wsub .i64 (ln a) 1) (some [.agg [.i .i64 7,.i .i64 0]])<|oN (inb b<|ln a)<|some [.agg [.i .i64 (ix a b zsx).Op,.i .i64 (ix a b zsx).X]])
def z1L (a:List Ins)(b:Int)(c:zbE big [aS .ins a,aI b])(e:zdU a b=true):∃N,zT4 N a b=some [aT .ins<|zd3 a b]:=by have d:=((zd0 c).1 _ (qF.2 rfl)).len;have f:=zMo d;refine⟨0,?_⟩;unfold zT4 oN nB;refine i0 rfl (brN (λ_=>?_) λ_=>mu ?_);all_goals first|rfl|(simp only [*,zd3,zfj,cT,cF]<;>rfl)|simp_all[Ty.cells,zd3,zfj]
def zVz:vP 294 zts:=hF2 zd2 zq zu zn (zo []) z1L
def zTS (N:Nat)(a:lI)(b:Int):OA:=
 (oN (zbi b<|ln a)<|cond (nB<|zbX b<|ln a) (some [.agg [.i .i64 7,.i .i64 0]])<|oN (inb b<|ln a)<|some [.agg [.i .i64 (ix a b zsx).Op,.i .i64 (ix a b zsx).X]])
def z1B (a:List Ins)(b:Int)(c:zdU a b=true):∃N,zTS N a b=some [aT .ins<|zd3 a b]:=by refine⟨0,?_⟩;unfold zTS oN nB;refine i0 rfl (brN (λ_=>?_) λ_=>mu ?_);all_goals first|rfl|(simp only [*,zd3,zfj,cT,cF]<;>rfl)|simp_all[Ty.cells,zd3,zfj]
def zVn:vP 266 zts:=kF2 zd2 zq zu zn (zo []) z1B
def zg3 (w:Int):Int:=bif ieq w 5 then 1 else 2
@[simp] abbrev zrh (w:Int):Bool:=true
@[simp] abbrev zjJ (w:Int):Int:=zg3 w
def zFY:Run:=rF1 dI λb=>(zrh b,[aI<|zjJ b])
def zMJ (N:Nat)(a:Int):OA:=
 (cond (ieq a 5) (some [aI 1])<|some [aI 2])
def zY1 (a:Int)(b:zrh a=true):∃N,zMJ N a=some [aI<|zjJ a]:=by refine⟨0,?_⟩;unfold zMJ;refine br (λ_=>?_) (λ_=>?_);all_goals first|rfl|(simp only [*,zjJ,zg3,cT,cF]<;>rfl)|simp_all[Ty.cells,zjJ,zg3]
def zRv:vP 273 zFY:=kF1 zd2 zq zu zn (zo []) zY1
def zfZ (s:k0)(n:Int):Bool:=bif zdz s A0 then true else (cond (igt n 0) (cond (zl s.af 0<|wsub .i64 n 1) (zl s.an 1 3) false) false)
@[simp] abbrev zmt (s:k0)(n:Int):Bool:=true
@[simp] abbrev zjY (s:k0)(n:Int):Bool:=zfZ s n
def zrN:Run:=rF2 (dT .slot) dI λb c=>(zmt b c,[aB<|zjY b c])
def zM4 (N:Nat)(a:k0)(b:Int):OA:=
 (oN zbO<|cond (cond (ieq a.af zbm.af) (ieq a.an zbm.an) false) oT<|oN (zJ a.af 0<|wsub .i64 b 1)<|cond (zl a.af 0<|wsub .i64 b 1) (cond (igt b 0) (oN (zJ a.an 1 3)<|some [aB<|zl a.an 1 3]) oF) oF)
def zZi (a:k0)(b:Int)(c:zmt a b=true):∃N,zM4 N a b=some [aB<|zjY a b]:=by refine⟨0,?_⟩;unfold zM4 oN;refine i0 rfl (br (λ_=>?_) λ_=>i0 rfl (br (λ_=>br (λ_=>i0 rfl ?_) λ_=>?_) λ_=>?_));all_goals first|rfl|(simp only [*,zjY,zfZ,zdz,cT,cF]<;>rfl)|simp_all[Ty.cells,zjY,zfZ,zdz]
def zRP:vP 346 zrN:=kF2 zd2 zq zu zn (zo []) zZi
def zMF (N:Nat)(a:k0)(b:Int):OA:=
 (oN zbO<|cond (cond (ieq a.af zbm.af) (ieq a.an zbm.an) false) oT<|cond (igt b 0) (oN (zJ a.af 0<|wsub .i64 b 1)<|cond (zl a.af 0<|wsub .i64 b 1) (oN (zJ a.an 1 3)<|some [aB<|zl a.an 1 3]) oF) oF)
def zYX (a:k0)(b:Int)(c:zmt a b=true):∃N,zMF N a b=some [aB<|zjY a b]:=by refine⟨0,?_⟩;unfold zMF oN;refine i0 rfl (br (λ_=>?_) λ_=>br (λ_=>i0 rfl (br (λ_=>i0 rfl ?_) λ_=>?_)) λ_=>?_);all_goals first|rfl|(simp only [*,zjY,zfZ,zdz,cT,cF]<;>rfl)|simp_all[Ty.cells,zjY,zfZ,zdz]
def zRp:vP 377 zrN:=kF2 zd2 zq zu zn (zo []) zYX
@[simp] abbrev zg6 (l:List k0):Bool:=pc (l.length<=2147483648)
@[simp] abbrev ze5 (l:List k0):List k0:=l
def zyn:Run:=rF1 (dS .slot) λb=>(zg6 b,[aS .slot<|ze5 b])
def zCt (N:Nat)(a:lS):OA:=
 (oN (few<|ln<|ap [] a)<|some [aS .slot<|ap [] a])
def zO1 (a:List k0)(b:zg6 a=true):∃N,zCt N a=some [aS .slot<|ze5 a]:=by have c:=zF.1 b;refine⟨0,?_⟩;unfold zCt oN;refine mu ?_;first|rfl|(simp only [*,ze5,cT,cF]<;>rfl)|simp_all[Ty.cells,ze5]
def zHa:vP 368 zyn:=kF1 zd2 zq zu zn (zo []) zO1
@[simp] abbrev zwJ (l:List Ins):Bool:=pc (l.length<=2147483648)
@[simp] abbrev zrg (l:List Ins):List Ins:=l
def zAA:Run:=rF1 (dS .ins) λb=>(zwJ b,[aS .ins<|zrg b])
def zEb (N:Nat)(a:lI):OA:=
 (oN (few<|ln<|ap [] a)<|some [aS .ins<|ap [] a])
def zSC (a:List Ins)(b:zwJ a=true):∃N,zEb N a=some [aS .ins<|zrg a]:=by have c:=zF.1 b;refine⟨0,?_⟩;unfold zEb oN;refine mu ?_;first|rfl|(simp only [*,zrg,cT,cF]<;>rfl)|simp_all[Ty.cells,zrg]
def zKV:vP 366 zAA:=kF1 zd2 zq zu zn (zo []) zSC
def zlv (m:List LI)(p c:Int):Bool:=bif j0 p (ln m) then j0 c (ln<|ix m p []) else false
def cellAt (m:List LI)(p c:Int):Int:=bif zlv m p c then ix (ix m p []) c 0 else 0
def zf3 (m:List LI)(p c v:Int):List LI:=bif zlv m p c then (cond (zl v 0 99) (up m p<|up (ix m p []) c v) m) else m
def zBL (m:List LI)(p c:Int):(zlv m p c=true)↔j0 p (ln m)=true/\j0 c (ln<|ix m p [])=true:=by unfold zlv;cases j0 p (ln m)<;>simp
def zbeF {n:Nat}{m:List LI}(h:CVB n (.s (.sl .int) m)):m.length<=n/\∀p:Int,j0 p (ln m)=true->(ix m p []).length<=n :=
 ⟨h.len,λp a=>(h.inv.2 _ (zbJ a []) _ (qF.2 rfl)).len⟩
@[simp] abbrev zer (m:List LI)(p c:Int):Bool:=true
@[simp] abbrev zsZ (m:List LI)(p c:Int):Bool:=zlv m p c
def zF0:Run:=rF3 (dS<|.sl .int) dI dI λb c d=>(zer b c d,[aB<|zsZ b c d])
def zM9 (N:Nat)(a:lM)(b c:Int):OA:=
 let d:=wsub .i64 (ln<|ix a b []) 1; (oN (zJ b 0<|wsub .i64 (ln a) 1)<|cond (zl b 0<|wsub .i64 (ln a) 1) (oN (inb b<|ln a)<|oN (zJ c 0 d)<|some [aB<|zl c 0 d]) oF)
def zZl (a:List LI)(b c:Int)(e:zbE big [aS (.sl .int) a,aI b,aI c])(g:zer a b c=true):∃N,zM9 N a b c=some [aB<|zsZ a b c]:=by
 have d:=zbeF ((zd0 e).1 _ (qF.2 rfl));have j:=zMo d.1;have f:∀p i:Int,j0 p (ln a)=true->zl i 0 (wsub .i64 (ln<|ix a p []) 1)=j0 i (ln<|ix a p []):=λp i h=>zMo (d.2 p h) i;refine⟨0,?_⟩;unfold zM9 oN;conv=>zeta
 refine i0 rfl (br (λ_=>mu (i0 rfl ?_)) λ_=>?_);all_goals first|rfl|(simp only [*,zsZ,zlv,cT,cF]<;>rfl)|simp_all[Ty.cells,zsZ,zlv]
def zRV:vP 408 zF0:=hF3 zd2 zq zu zn (zo []) zZl
@[simp] abbrev zfr (m:List LI)(p c:Int):Int:=cellAt m p c
def zrq:Run:=rF3 (dS<|.sl .int) dI dI λb c d=>(zer b c d,[aI<|zfr b c d])
def zMq (N:Nat)(a:lM)(b c:Int):OA:=
 let d:=ix a b []; (oN (zbi b<|ln a)<|cond (nB<|zbX b<|ln a) (some [aI 0])<|oN (inb b<|ln a)<|oN (zbi c<|ln d)<|cond (nB<|zbX c<|ln d) (some [aI 0])<|oN (inb b<|ln a)<|oN (inb c<|ln d)<|some [aI<|ix d c 0])
def zYI (a:List LI)(b c:Int)(d:zer a b c=true):∃N,zMq N a b c=some [aI<|zfr a b c]:=by
 refine⟨0,?_⟩;unfold zMq oN nB;conv=>zeta
 refine i0 rfl (brN (λ_=>?_) λ_=>mu (i0 rfl (brN (λ_=>?_) λ_=>mu (mu ?_))));all_goals first|rfl|(simp only [*,zfr,cellAt,zlv,cT,cF]<;>rfl)|simp_all[Ty.cells,zfr,cellAt,zlv]
def zQ5:vP 255 zrq:=kF3 zd2 zq zu zn (zo []) zYI
def z4i:zbb:=[(119,zrz),(396,zrz),(283,zoA),(247,zoA),(288,zoz),(252,zoz),(284,zrF),(248,zrF),(286,zkB),(250,zkB),(409,zlA),(271,zlA),(411,zmL),(407,zmL),(410,zpL),(272,zpL),(217,zrJ),(208,zrJ),(294,zts),(266,zts),(273,zFY),(346,zrN),(377,zrN),(368,zyn),(366,zAA),(408,zF0),(255,zrq)]++ctrU
def zho:zN z4i:=zh zRy (zh zQ4<|zh zK4<|zh zKB<|zh zK3<|zh zKA<|zh zRG<|zh zRe<|zh zu8<|zh zG0<|zh zwF<|zh zKD<|zh zx2<|zh zNU<|zh zOb<|zh zNP<|zh zRK<|zh zRk<|zh zVz<|zh zVn<|zh zRv<|zh zRP<|zh zRp<|zh zHa<|zh zKV<|zh zRV<|zh zQ5 zd2)
def zMM (N:Nat)(a:lM)(b c:Int):OA:=
 (oN (zer a b c)<|cond (nB<|zsZ a b c) (some [aI 0])<|oN (inb b<|ln a)<|oN (inb c<|ln<|ix a b [])<|some [aI<|ix (ix a b []) c 0])
def zY3 (a:List LI)(b c:Int)(d:zer a b c=true):∃N,zMM N a b c=some [aI<|zfr a b c]:=by have e:=(zBL a b c).1;refine⟨0,?_⟩;unfold zMM oN nB;refine i0 rfl (brN (λ_=>?_) λ_=>mu (mu ?_));all_goals first|rfl|(simp only [*,zfr,cellAt,cT,cF]<;>rfl)|simp_all[Ty.cells,zfr,cellAt]
def zRz:vP 291 zrq:=kF3 zho zq zu zn (zo []) zY3
def zek (t:List k0)(n p:Int):Bool:=bif t.all (λs=>zfZ s p) then ieq (ln t) n else false
@[simp] abbrev zk1 (t:List k0)(n p:Int):Bool:=true
@[simp] abbrev zfx (t:List k0)(n p:Int):Bool:=zek t n p
def zpU:Run:=rF3 (dS .slot) dI dI λb c d=>(zk1 b c d,[aB<|zfx b c d])
def zIR (N:Nat)(d:lS)(e f:Int):OA:=
 (q0 (σ:=(Int×Int×Int×lS×Unit)) N (λg a=>let b:=a.2.2.2.1;let c:=ix b a.2.2.1 zX; (cond (ilt a.2.2.1<|ln b) (oN (inb a.2.2.1<|ln b)<|oN (zmt c a.2.1)<|cond (nB<|zjY c a.2.1) oF<|g (a.1,a.2.1,zM .i64 a.2.2.1 1,b,()))<|some [aB<|ieq (ln b) a.1])) (e,f,0,d,()))
def zW5:=zo [(213,0,{n:=25,tm:=[(0,.sl 0 []),(1,ti),(2,ti),(7,ti)],lo:=[],ro:=[(0,.slot,false)]})]
def zWw (a:List k0)(d c:Int)(j:zbE big [aS .slot a,aI d,aI c])(l:zk1 a d c=true):∃N,zIR N a d c=some [aB<|zfx a d c]:=by
 have h:(_:List _).length<=big:=((zd0 j).1 _ (qF.2 rfl)).len;refine zcf λN g=>?_;unfold zIR oN nB;conv=>zeta
 refine(zbp a (λi (t:Unit)=>(d,c,(i:Int),a,())) _ (λ_ x (_:Unit) k=>bif (λs=>zfZ s c) x then k () else oF) (λ(t:Unit)=>some [.one<|.b<|ieq (ln a) d]) (λi e t rec=>?_) (λt rec=>?_) _ ()<|g h).trans ?_;{simp only [zbw e,zbc e,zbn e,zbj e h,cT];exact zkQ rfl};{simp only [zbq,cF]};rw[ziu λs=>zfZ s c];refine br (λf=>?_) (λf=>?_);{first|rfl|(simp only [f,zfx,zek,cT,cF]<;>rfl)|(simp_all [Ty.cells,zfx,zek];done)};{first|rfl|(simp only [f,zfx,zek,cT,cF]<;>rfl)|(simp_all [Ty.cells,zfx,zek];done)}
def zOo:vP 213 zpU:=hF3 zho zq zu zn zW5 zWw
def zIl (N:Nat)(c:lS)(e f:Int):OA:=
 (q0 (σ:=(Int×Int×Int×Int×lS×Unit)) N (λg a=>let b:=a.2.2.2.2.1;let d:=ix b a.2.2.2.1 zX; (cond (ilt a.2.2.2.1 a.2.2.1) (oN (inb a.2.2.2.1<|ln b)<|oN (zmt d a.2.1)<|cond (nB<|zjY d a.2.1) oF<|g (a.1,a.2.1,a.2.2.1,zM .i64 a.2.2.2.1 1,b,()))<|some [aB<|ieq (ln b) a.1])) (e,f,ln c,0,c,()))
def zW0:=zo [(207,0,{n:=24,tm:=[(0,.sl 0 []),(1,ti),(2,ti),(9,.sl 0 []),(10,ti),(11,ti)],lo:=[],ro:=[(0,.slot,false)]})]
def zV4 (a:List k0)(d c:Int)(j:zbE big [aS .slot a,aI d,aI c])(l:zk1 a d c=true):∃N,zIl N a d c=some [aB<|zfx a d c]:=by
 have h:(_:List _).length<=big:=((zd0 j).1 _ (qF.2 rfl)).len;refine zcf λN g=>?_;unfold zIl oN nB;conv=>zeta
 refine(zbp a (λi (t:Unit)=>(d,c,ln a,(i:Int),a,())) _ (λ_ x (_:Unit) k=>bif (λs=>zfZ s c) x then k () else oF) (λ(t:Unit)=>some [.one<|.b<|ieq (ln a) d]) (λi e t rec=>?_) (λt rec=>?_) _ ()<|g h).trans ?_;{simp only [zbw e,zbc e,zbn e,zbj e h,cT];exact zkQ rfl};{simp only [zbq,cF]};rw[ziu λs=>zfZ s c];refine br (λf=>?_) (λf=>?_);{first|rfl|(simp only [f,zfx,zek,cT,cF]<;>rfl)|(simp_all [Ty.cells,zfx,zek];done)};{first|rfl|(simp only [f,zfx,zek,cT,cF]<;>rfl)|(simp_all [Ty.cells,zfx,zek];done)}
def zN0:vP 207 zpU:=hF3 zho zq zu zn zW0 zV4
def zdr (c:LI):Bool:=bif c.all (λx=>zl x 0 99) then ieq (ln c) 4 else false
@[simp] abbrev zep (c:LI):Bool:=true
@[simp] abbrev zdF (c:LI):Bool:=zdr c
def zrI:Run:=rF1 (dS .int) λb=>(zep b,[aB<|zdF b])
def zMY (N:Nat)(b:LI):OA:=
 (q0 (σ:=(Int×LI×Unit)) N (λc a=>cond (ilt a.1<|ln a.2.1) (oN (inb a.1<|ln a.2.1)<|oN (zJ (ix a.2.1 a.1 0) 0 99)<|cond (nB<|zl (ix a.2.1 a.1 0) 0 99) oF<|c (zM .i64 a.1 1,a.2.1,()))<|some [aB<|ieq (ln a.2.1) 4]) (0,b,()))
def z0R:=zo [(216,0,{n:=19,tm:=[(0,.sl 0 []),(3,ti)],lo:=[],ro:=[(0,.int,false)]})]
def zZd (a:LI)(g:zbE big [aS .int a])(j:zep a=true):∃N,zMY N a=some [aB<|zdF a]:=by have f:(_:List _).length<=big:=((zd0 g).1 _ (qF.2 rfl)).len;refine zcf λN e=>?_;unfold zMY oN nB;refine(zbp a (λi (t:Unit)=>((i:Int),a,())) _ (λ_ x (_:Unit) h=>bif (λx=>zl x 0 99) x then h () else oF) (λ(t:Unit)=>some [.one<|.b<|ieq (ln a) 4]) (λi c t rec=>?_) (λt rec=>?_) _ ()<|e f).trans ?_;{simp only [zbw c,zbc c,zbn c,zbj c f,cT];exact zkQ rfl};{simp only [zbq,cF]};rw[ziu λx=>zl x 0 99];refine br (λd=>?_) (λd=>?_);{first|rfl|(simp only [d,zdF,zdr,cT,cF]<;>rfl)|(simp_all [Ty.cells,zdF,zdr];done)};{first|rfl|(simp only [d,zdF,zdr,cT,cF]<;>rfl)|(simp_all [Ty.cells,zdF,zdr];done)}
def zRJ:vP 216 zrI:=hF1 zho zq zu zn z0R zZd
def zMA (N:Nat)(b:LI):OA:=
 (q0 (σ:=(Int×Int×LI×Unit)) N (λc a=>cond (ilt a.2.1 a.1) (oN (inb a.2.1<|ln a.2.2.1)<|oN (zJ (ix a.2.2.1 a.2.1 0) 0 99)<|cond (nB<|zl (ix a.2.2.1 a.2.1 0) 0 99) oF<|c (a.1,zM .i64 a.2.1 1,a.2.2.1,()))<|some [aB<|ieq (ln a.2.2.1) 4]) (ln b,0,b,()))
def z0H:=zo [(211,0,{n:=18,tm:=[(0,.sl 0 []),(5,.sl 0 []),(6,ti),(7,ti)],lo:=[],ro:=[(0,.int,false)]})]
def zYS (a:LI)(g:zbE big [aS .int a])(j:zep a=true):∃N,zMA N a=some [aB<|zdF a]:=by have f:(_:List _).length<=big:=((zd0 g).1 _ (qF.2 rfl)).len;refine zcf λN e=>?_;unfold zMA oN nB;refine(zbp a (λi (t:Unit)=>(ln a,(i:Int),a,())) _ (λ_ x (_:Unit) h=>bif (λx=>zl x 0 99) x then h () else oF) (λ(t:Unit)=>some [.one<|.b<|ieq (ln a) 4]) (λi c t rec=>?_) (λt rec=>?_) _ ()<|e f).trans ?_;{simp only [zbw c,zbc c,zbn c,zbj c f,cT];exact zkQ rfl};{simp only [zbq,cF]};rw[ziu λx=>zl x 0 99];refine br (λd=>?_) (λd=>?_);{first|rfl|(simp only [d,zdF,zdr,cT,cF]<;>rfl)|(simp_all [Ty.cells,zdF,zdr];done)};{first|rfl|(simp only [d,zdF,zdr,cT,cF]<;>rfl)|(simp_all [Ty.cells,zdF,zdr];done)}
def zRj:vP 211 zrI:=hF1 zho zq zu zn z0H zYS
def zj4 (i:Ins):Bool:=bif (ieq i.Op 1||ieq i.Op 2||ieq i.Op 5||ieq i.Op 6) then zl i.X 0 99 else (cond (ieq i.Op 3||ieq i.Op 4) (zl i.X 0 15)<|cond (ieq i.Op 7) (ieq i.X 0)<|cond (ieq i.Op 8) (zl i.X 0 11) false)
@[simp] abbrev zyH (i:Ins):Bool:=true
@[simp] abbrev zv7 (i:Ins):Bool:=zj4 i
def ztt:Run:=rF1 (dT .ins) λb=>(zyH b,[aB<|zv7 b])
def zT5 (N:Nat)(a:Ins):OA:=
 let b:=ieq a.Op 4;let l:=zJ a.X 0 99;let k:=aB<|zl a.X 0 99;let j:=ieq a.Op 8;let i:=ieq a.Op 7;let h:=ieq a.Op 3;let g:=zJ a.X 0 11;let f:=zJ a.X 0 15;let e:=aB<|ieq a.X 0;let d:=aB<|zl a.X 0 11;let c:=aB<|zl a.X 0 15; (cond (ieq a.Op 1) (cond (ieq a.Op 1) (oN l<|some [k])<|cond h (cond h (oN f<|some [c])<|cond i (some [e])<|cond j (oN g<|some [d]) oF)<|cond b (oN f<|some [c])<|cond i (some [e])<|cond j (oN g<|some [d]) oF)<|cond (ieq a.Op 2) (cond (ieq a.Op 2) (oN l<|some [k])<|cond h (cond h (oN f<|some [c])<|cond i (some [e])<|cond j (oN g<|some [d]) oF)<|cond b (oN f<|some [c])<|cond i (some [e])<|cond j (oN g<|some [d]) oF)<|cond (ieq a.Op 5) (cond (ieq a.Op 5) (oN l<|some [k])<|cond h (cond h (oN f<|some [c])<|cond i (some [e])<|cond j (oN g<|some [d]) oF)<|cond b (oN f<|some [c])<|cond i (some [e])<|cond j (oN g<|some [d]) oF)<|cond (ieq a.Op 6) (oN l<|some [k])<|cond h (cond h (oN f<|some [c])<|cond i (some [e])<|cond j (oN g<|some [d]) oF)<|cond b (oN f<|some [c])<|cond i (some [e])<|cond j (oN g<|some [d]) oF)
def zJn (a:Ins)(b:zbE big [aT .ins a])(c:zyH a=true):∃N,zT5 N a=some [aB<|zv7 a]:=by
 refine⟨0,?_⟩;unfold zT5 oN;conv=>zeta
 refine br (λ_=>br (λ_=>i0 rfl ?_) λ_=>br (λ_=>br (λ_=>i0 rfl ?_) λ_=>br (λ_=>?_) λ_=>br (λ_=>i0 rfl ?_) λ_=>?_) λ_=>br (λ_=>i0 rfl ?_) λ_=>br (λ_=>?_) λ_=>br (λ_=>i0 rfl ?_) λ_=>?_) (λ_=>br (λ_=>br (λ_=>i0 rfl ?_) λ_=>br (λ_=>br (λ_=>i0 rfl ?_) λ_=>br (λ_=>?_) λ_=>br (λ_=>i0 rfl ?_) λ_=>?_) λ_=>br (λ_=>i0 rfl ?_) λ_=>br (λ_=>?_) λ_=>br (λ_=>i0 rfl ?_) λ_=>?_) λ_=>br (λ_=>br (λ_=>i0 rfl ?_) λ_=>br (λ_=>br (λ_=>i0 rfl ?_) λ_=>br (λ_=>?_) λ_=>br (λ_=>i0 rfl ?_) λ_=>?_) λ_=>br (λ_=>i0 rfl ?_) λ_=>br (λ_=>?_) λ_=>br (λ_=>i0 rfl ?_) λ_=>?_) λ_=>br (λ_=>i0 rfl ?_) λ_=>br (λ_=>br (λ_=>i0 rfl ?_) λ_=>br (λ_=>?_) λ_=>br (λ_=>i0 rfl ?_) λ_=>?_) λ_=>br (λ_=>i0 rfl ?_) λ_=>br (λ_=>?_) λ_=>br (λ_=>i0 rfl ?_) λ_=>?_);all_goals first|rfl|(simp only [*,zv7,zj4,cT,cF]<;>rfl)|simp_all[Ty.cells,zv7,zj4]
def zVA:vP 453 ztt:=hF1 zho zq zu zn (zo []) zJn
def zVo:vP 451 ztt:=hF1 zho zq zu zn (zo []) zJn
def zwu (e:aD):Bool:=bif (ieq e.Kind 0||ieq e.Kind 4) then (ieq e.af 0&&(!e.Write&&ieq e.N 0)) else (cond (ieq e.Kind 1) (zl e.af 0 3&&ieq e.N 0)<|cond (ieq e.Kind 2||ieq e.Kind 3) (zl e.N 0 99&&(ieq e.af 0 && !e.Write)) false)
@[simp] def zbgf (x:Bool):zhn x false = !x:=by cases x<;>rfl
attribute [simp] zcX
@[simp] abbrev zvJ (e:aD):Bool:=true
@[simp] abbrev znR (e:aD):Bool:=zwu e
def zrB:Run:=rF1 dE λb=>(zvJ b,[aB<|znR b])
def zMO (N:Nat)(a:aD):OA:=
 let f:=zl a.N 0 99;let e:=zJ a.N 0 99;let d:=ieq a.Kind 2;let b:=ieq a.af 0;let c:=aB<|nB a.Write;let g:=aB<|cond (ieq a.Kind a.Kind) (cond b (cond (zhn a.Write false) (ieq a.N 0) false) false) false; (cond (ieq a.Kind 0) (cond (ieq a.Kind 0) (some [g])<|cond (ieq a.Kind 1) (oN (zJ a.af 0 3)<|cond (zl a.af 0 3) (some [aB<|ieq a.N 0]) oF)<|cond d (cond d (oN e<|cond f (cond b (some [c]) oF) oF) oF)<|cond (ieq a.Kind 3) (oN e<|cond f (cond b (some [c]) oF) oF) oF)<|cond (ieq a.Kind 4) (some [g])<|cond (ieq a.Kind 1) (oN (zJ a.af 0 3)<|cond (zl a.af 0 3) (some [aB<|ieq a.N 0]) oF)<|cond d (cond d (oN e<|cond f (cond b (some [c]) oF) oF) oF)<|cond (ieq a.Kind 3) (oN e<|cond f (cond b (some [c]) oF) oF) oF)
def zY4 (a:aD)(b:zvJ a=true):∃N,zMO N a=some [aB<|znR a]:=by
 refine⟨0,?_⟩;unfold zMO oN nB;conv=>zeta
 refine br (λ_=>br (λ_=>?_) λ_=>br (λ_=>i0 rfl (br (λ_=>?_) λ_=>?_)) λ_=>br (λ_=>br (λ_=>i0 rfl (br (λ_=>br (λ_=>?_) λ_=>?_) λ_=>?_)) λ_=>?_) λ_=>br (λ_=>i0 rfl (br (λ_=>br (λ_=>?_) λ_=>?_) λ_=>?_)) λ_=>?_) (λ_=>br (λ_=>?_) λ_=>br (λ_=>i0 rfl (br (λ_=>?_) λ_=>?_)) λ_=>br (λ_=>br (λ_=>i0 rfl (br (λ_=>br (λ_=>?_) λ_=>?_) λ_=>?_)) λ_=>?_) λ_=>br (λ_=>i0 rfl (br (λ_=>br (λ_=>?_) λ_=>?_) λ_=>?_)) λ_=>?_);all_goals first|rfl|(simp only [*,znR,zwu,cT,cF]<;>rfl)|simp_all[Ty.cells,znR,zwu]
def zRB:vP 383 zrB:=kF1 zho zq zu zn (zo []) zY4
def zMs (N:Nat)(a:aD):OA:=
 let g:=zl a.N 0 99;let f:=zJ a.N 0 99;let e:=ieq a.Kind 2;let d:=aB<|ieq a.N 0;let b:=ieq a.af 0;let c:=aB<|nB a.Write; (cond (ieq a.Kind 0) (cond (ieq a.Kind 0) (cond b (cond (nB a.Write) (some [d]) oF) oF)<|cond (ieq a.Kind 1) (oN (zJ a.af 0 3)<|cond (zl a.af 0 3) (some [d]) oF)<|cond e (cond e (oN f<|cond g (cond b (some [c]) oF) oF) oF)<|cond (ieq a.Kind 3) (oN f<|cond g (cond b (some [c]) oF) oF) oF)<|cond (ieq a.Kind 4) (cond b (cond (nB a.Write) (some [d]) oF) oF)<|cond (ieq a.Kind 1) (oN (zJ a.af 0 3)<|cond (zl a.af 0 3) (some [d]) oF)<|cond e (cond e (oN f<|cond g (cond b (some [c]) oF) oF) oF)<|cond (ieq a.Kind 3) (oN f<|cond g (cond b (some [c]) oF) oF) oF)
def zYK (a:aD)(b:zvJ a=true):∃N,zMs N a=some [aB<|znR a]:=by
 refine⟨0,?_⟩;unfold zMs oN nB;conv=>zeta
 refine br (λ_=>br (λ_=>br (λ_=>brN (λ_=>?_) λ_=>?_) λ_=>?_) λ_=>br (λ_=>i0 rfl (br (λ_=>?_) λ_=>?_)) λ_=>br (λ_=>br (λ_=>i0 rfl (br (λ_=>br (λ_=>?_) λ_=>?_) λ_=>?_)) λ_=>?_) λ_=>br (λ_=>i0 rfl (br (λ_=>br (λ_=>?_) λ_=>?_) λ_=>?_)) λ_=>?_) (λ_=>br (λ_=>br (λ_=>brN (λ_=>?_) λ_=>?_) λ_=>?_) λ_=>br (λ_=>i0 rfl (br (λ_=>?_) λ_=>?_)) λ_=>br (λ_=>br (λ_=>i0 rfl (br (λ_=>br (λ_=>?_) λ_=>?_) λ_=>?_)) λ_=>?_) λ_=>br (λ_=>i0 rfl (br (λ_=>br (λ_=>?_) λ_=>?_) λ_=>?_)) λ_=>?_);all_goals first|rfl|(simp only [*,znR,zwu,cT,cF]<;>rfl)|simp_all[Ty.cells,znR,zwu]
def zQ8:vP 380 zrB:=kF1 zho zq zu zn (zo []) zYK
def zxB (c:Ctl):LI:=(cond (zl c.aq 0 3) [] [1])++((cond (zl c.Post 0 255) [] [2])++((cond (ine c.Post 0) (cond c.Open [] [3]) [])++(cond (ieq c.aq 2) (cond (ine c.Post 0) [4] []) [])))
@[simp] def zbgc {a:Type}(x:a)(l m:List a):ap (x::l) m=x::ap l m:=rfl
@[simp] abbrev zfD (c:Ctl):Bool:=true
@[simp] abbrev zpl (c:Ctl):LI:=zxB c
def znj:Run:=rF1 dC λb=>(zfD b,[aS .int<|zpl b])
def zCB (N:Nat)(b:Ctl):OA:=
 let e:=aS .int [];let k:=ap (ap [] [2]) [4];let j:=ap (ap [] [1]) [4];let i:=aS .int<|ap [] [2];let h:=aS .int<|ap [] [1];let g:=ap (ap [] [2]) [3];let f:=ap (ap [] [1]) [3];let c:=ieq b.aq 2;let a:=ine b.Post 0;let d:=ap (ap [] [1]) [2];let l:=aS .int d; (oN (zJ b.aq 0 3)<|cond (nB<|zl b.aq 0 3) (oN (few<|ln<|ap [] [1])<|oN (zJ b.Post 0 255)<|cond (nB<|zl b.Post 0 255) (oN (few<|ln d)<|cond a (cond (nB b.Open) (oN (few<|ln<|ap d [3])<|cond c (cond a (oN (few<|ln<|ap (ap d [3]) [4])<|some [aS .int<|ap (ap d [3]) [4]])<|some [aS .int<|ap d [3]])<|some [aS .int<|ap d [3]])<|cond c (cond a (oN (few<|ln<|ap d [4])<|some [aS .int<|ap d [4]])<|some [l])<|some [l])<|cond c (cond a (oN (few<|ln<|ap d [4])<|some [aS .int<|ap d [4]])<|some [l])<|some [l])<|cond a (cond (nB b.Open) (oN (few<|ln f)<|cond c (cond a (oN (few<|ln<|ap f [4])<|some [aS .int<|ap f [4]])<|some [aS .int f])<|some [aS .int f])<|cond c (cond a (oN (few<|ln j)<|some [aS .int j])<|some [h])<|some [h])<|cond c (cond a (oN (few<|ln j)<|some [aS .int j])<|some [h])<|some [h])<|oN (zJ b.Post 0 255)<|cond (nB<|zl b.Post 0 255) (oN (few<|ln<|ap [] [2])<|cond a (cond (nB b.Open) (oN (few<|ln g)<|cond c (cond a (oN (few<|ln<|ap g [4])<|some [aS .int<|ap g [4]])<|some [aS .int g])<|some [aS .int g])<|cond c (cond a (oN (few<|ln k)<|some [aS .int k])<|some [i])<|some [i])<|cond c (cond a (oN (few<|ln k)<|some [aS .int k])<|some [i])<|some [i])<|cond a (cond (nB b.Open) (oN (few<|ln<|ap [] [3])<|cond c (cond a (oN (few<|ln<|ap (ap [] [3]) [4])<|some [aS .int<|ap (ap [] [3]) [4]])<|some [aS .int<|ap [] [3]])<|some [aS .int<|ap [] [3]])<|cond c (cond a (oN (few<|ln<|ap [] [4])<|some [aS .int<|ap [] [4]])<|some [e])<|some [e])<|cond c (cond a (oN (few<|ln<|ap [] [4])<|some [aS .int<|ap [] [4]])<|some [e])<|some [e])
def zx5 (a:Ctl)(b:zbE big [.agg<|zo5 a])(c:zfD a=true):∃N,zCB N a=some [aS .int<|zpl a]:=by
 refine⟨0,?_⟩;unfold zCB oN nB;conv=>zeta
 refine i0 rfl (brN (λ_=>mu (i0 rfl (brN (λ_=>mu (br (λ_=>brN (λ_=>mu (br (λ_=>br (λ_=>mu ?_) λ_=>?_) λ_=>?_)) λ_=>br (λ_=>br (λ_=>mu ?_) λ_=>?_) λ_=>?_) λ_=>br (λ_=>br (λ_=>mu ?_) λ_=>?_) λ_=>?_)) λ_=>br (λ_=>brN (λ_=>mu (br (λ_=>br (λ_=>mu ?_) λ_=>?_) λ_=>?_)) λ_=>br (λ_=>br (λ_=>mu ?_) λ_=>?_) λ_=>?_) λ_=>br (λ_=>br (λ_=>mu ?_) λ_=>?_) λ_=>?_))) λ_=>i0 rfl (brN (λ_=>mu (br (λ_=>brN (λ_=>mu (br (λ_=>br (λ_=>mu ?_) λ_=>?_) λ_=>?_)) λ_=>br (λ_=>br (λ_=>mu ?_) λ_=>?_) λ_=>?_) λ_=>br (λ_=>br (λ_=>mu ?_) λ_=>?_) λ_=>?_)) λ_=>br (λ_=>brN (λ_=>mu (br (λ_=>br (λ_=>mu ?_) λ_=>?_) λ_=>?_)) λ_=>br (λ_=>br (λ_=>mu ?_) λ_=>?_) λ_=>?_) λ_=>br (λ_=>br (λ_=>mu ?_) λ_=>?_) λ_=>?_));all_goals first|rfl|(simp only [*,zpl,zxB,cT,cF]<;>rfl)|simp_all[Ty.cells,zpl,zxB]
def zHi:vP 437 znj:=hF1 zho zq zu zn (zo []) zx5
def zGZ:vP 452 znj:=hF1 zho zq zu zn (zo []) zx5
def len8tab:ByteArray:=⟨⟨[0,1,2,2,3,3,3,3,4,4,4,4,4,4,4,4,5,5,5,5,5,5,5,5,5,5,5,5,5,5,5,5,6,6,6,6,6,6,6,6,6,6,6,6,6,6,6,6,6,6,6,6,6,6,6,6,6,6,6,6,6,6,6,6,7,7,7,7,7,7,7,7,7,7,7,7,7,7,7,7,7,7,7,7,7,7,7,7,7,7,7,7,7,7,7,7,7,7,7,7,7,7,7,7,7,7,7,7,7,7,7,7,7,7,7,7,7,7,7,7,7,7,7,7,7,7,7,7,8,8,8,8,8,8,8,8,8,8,8,8,8,8,8,8,8,8,8,8,8,8,8,8,8,8,8,8,8,8,8,8,8,8,8,8,8,8,8,8,8,8,8,8,8,8,8,8,8,8,8,8,8,8,8,8,8,8,8,8,8,8,8,8,8,8,8,8,8,8,8,8,8,8,8,8,8,8,8,8,8,8,8,8,8,8,8,8,8,8,8,8,8,8,8,8,8,8,8,8,8,8,8,8,8,8,8,8,8,8,8,8,8,8,8,8,8,8,8,8,8,8,8,8,8,8,8,8]⟩⟩
def ziW (p n:Int):Bool:=ieq (wand .i64 (zlU .i64 p n) 1) 1
def scan (p:Int):Int:=bif ziW p 7 then 7 else (cond (ziW p 6) 6<|cond (ziW p 5) 5<|cond (ziW p 4) 4<|cond (ziW p 3) 3<|cond (ziW p 2) 2<|cond (ziW p 1) 1<|cond (ziW p 0) 0<|-1)
def zbaz:∀n:Fin 256,zM .i64 0 (wcv .i64<|byteAt len8tab<|wcv .u8 (n.val:Int))=scan (n.val:Int)+1:=by decide +kernel
def z0j:∀n:Fin 256,-1<=scan (n.val:Int)/\scan (n.val:Int)<=7/\(0<=scan (n.val:Int)->wsub .i64 (n.val:Int) (zo8 .i64 1<|scan (n.val:Int))=zCg .i64 (n.val:Int) (zo8 .i64 1<|scan (n.val:Int))):=by decide +kernel
def zFP {P:Int->Prop}(h:∀n:Fin 256,P (n.val:Int)){x:Int}(a:0<=x)(b:x<=255):P x:=by have:=h ⟨x.toNat,by omega⟩;have e:((x.toNat:Nat):Int)=x:=(by omega);simpa [e] using this
def zo9 (x:Int):Bool:=pc (0<=x/\x<=255)
def zkP (x:Int):Int:=scan x+1
def zj6:LW
 |[.one<|.i .u64 b]=>some (zo9 b,[aI<|zkP b])
 |_=>none
def zo2 (N:Nat)(a:Int):OA:=
 let d:=zlU .u64 a 16;let b:=zlU .u64 a 32;let c:=zlU .u64 b 16; (cond (ige a 4294967296) (oN (ile 0 32)<|cond (ige b 65536) (oN (ile 0 16)<|cond (ige c 256) (oN (ile 0 8)<|oN (inb (wcv .u8<|zlU .u64 c 8) 256)<|some [aI<|zM .i64 (zM .i64 (zM .i64 32 16) 8)<|wcv .i64<|byteAt len8tab<|wcv .u8<|zlU .u64 c 8])<|oN (inb (wcv .u8 c) 256)<|some [aI<|zM .i64 (zM .i64 32 16)<|wcv .i64<|byteAt len8tab<|wcv .u8 c])<|cond (ige b 256) (oN (ile 0 8)<|oN (inb (wcv .u8<|zlU .u64 b 8) 256)<|some [aI<|zM .i64 (zM .i64 32 8)<|wcv .i64<|byteAt len8tab<|wcv .u8<|zlU .u64 b 8])<|oN (inb (wcv .u8 b) 256)<|some [aI<|zM .i64 32<|wcv .i64<|byteAt len8tab<|wcv .u8 b])<|cond (ige a 65536) (oN (ile 0 16)<|cond (ige d 256) (oN (ile 0 8)<|oN (inb (wcv .u8<|zlU .u64 d 8) 256)<|some [aI<|zM .i64 (zM .i64 (zM .i64 0 16) 8)<|wcv .i64<|byteAt len8tab<|wcv .u8<|zlU .u64 d 8])<|oN (inb (wcv .u8 d) 256)<|some [aI<|zM .i64 (zM .i64 0 16)<|wcv .i64<|byteAt len8tab<|wcv .u8 d])<|cond (ige a 256) (oN (ile 0 8)<|oN (inb (wcv .u8<|zlU .u64 a 8) 256)<|some [aI<|zM .i64 (zM .i64 0 8)<|wcv .i64<|byteAt len8tab<|wcv .u8<|zlU .u64 a 8])<|oN (inb (wcv .u8 a) 256)<|some [aI<|zM .i64 0<|wcv .i64<|byteAt len8tab<|wcv .u8 a])
def zFO (N:Nat)(a:Int):evalFn (cQ z4i zo6 zBQ zMe) (zo []) N 12 455 [.one<|.i .u64 a]=zo2 N a:=by kernel_rfl
def zDP (a:Int)(g:zbE big [.one<|.i .u64 a])(f:zo9 a=true):∃N,zo2 N a=some [aI<|zkP a]:=by
 obtain⟨b,c⟩:=zF.1 f;refine⟨0,?_⟩;unfold zo2 oN;conv=>zeta
 refine zb9 (qH (by omega)) ?_;refine zb9 (qH (by omega)) ?_;refine zb9 (qH (by omega)) ?_;have e:inb (wcv .u8 a) 256=true:=zFP (P:=λx=>inb (wcv .u8 x) 256=true) (by decide +kernel) b c;refine i0 e ?_;have d:=zFP (P:=λx=>zM .i64 0 (wcv .i64<|byteAt len8tab<|wcv .u8 x)=scan x+1) zbaz b c;rw[d];rfl
def zqE:vP 455 zj6:=zBy zho zq zu zn (ziX (by kernel_rfl)) λa d b h=>by unfold zj6 at h;split at h;{obtain⟨c,rfl⟩:=zd4 h;exact(zDP _ b c).elim λN e=>⟨zo [],N,(zFO N _).trans e⟩};{cases h}
def zbbE:zbb:=[(291,zrq),(213,zpU),(207,zpU),(216,zrI),(211,zrI),(453,ztt),(451,ztt),(383,zrB),(380,zrB),(437,znj),(452,znj),(455,zj6)]++z4i
def zhp:zN zbbE:=zh zRz (zh zOo<|zh zN0<|zh zRJ<|zh zRj<|zh zVA<|zh zVo<|zh zRB<|zh zQ8<|zh zHi<|zh zGZ<|zh zqE zho)
def zlf (m:List LI)(n:Int):Bool:=bif m.all zdr then ieq (ln m) n else false
@[simp] abbrev zkI (m:List LI)(n:Int):Bool:=true
@[simp] abbrev zgB (m:List LI)(n:Int):Bool:=zlf m n
def ztu:Run:=rF2 (dS<|.sl .int) dI λb c=>(zkI b c,[aB<|zgB b c])
def zT6 (N:Nat)(c:lM)(d:Int):OA:=
 (q0 (σ:=(Int×Int×lM×Unit)) N (λe a=>let b:=a.2.2.1; (cond (ilt a.2.1<|ln b) (oN (inb a.2.1<|ln b)<|oN (zep<|ix b a.2.1 [])<|cond (nB<|zdF<|ix b a.2.1 []) oF<|e (a.1,zM .i64 a.2.1 1,b,()))<|some [aB<|ieq (ln b) a.1])) (d,0,c,()))
def z2G:=zo [(120,0,{n:=22,tm:=[(0,.sl 0 []),(1,ti),(5,ti)],lo:=[],ro:=[(0,.sl .int,false)]})]
def z1M (a:List LI)(c:Int)(h:zbE big [aS (.sl .int) a,aI c])(k:zkI a c=true):∃N,zT6 N a c=some [aB<|zgB a c]:=by
 have g:(_:List _).length<=big:=((zd0 h).1 _ (qF.2 rfl)).len;refine zcf λN f=>?_;unfold zT6 oN nB;conv=>zeta
 refine(zbp a (λi (t:Unit)=>(c,(i:Int),a,())) _ (λ_ x (_:Unit) j=>bif (zdr) x then j () else oF) (λ(t:Unit)=>some [.one<|.b<|ieq (ln a) c]) (λi d t rec=>?_) (λt rec=>?_) _ ()<|f g).trans ?_;{simp only [zbw d,zbc d,zbn d,zbj d g,cT];exact zkQ rfl};{simp only [zbq,cF]};rw[ziu<|zdr];refine br (λe=>?_) (λe=>?_);{first|rfl|(simp only [e,zgB,zlf,cT,cF]<;>rfl)|(simp_all [Ty.cells,zgB,zlf];done)};{first|rfl|(simp only [e,zgB,zlf,cT,cF]<;>rfl)|(simp_all [Ty.cells,zgB,zlf];done)}
def zVB:vP 120 ztu:=hF2 zhp zq zu zn z2G z1M
def zTT (N:Nat)(c:lM)(d:Int):OA:=
 (q0 (σ:=(Int×Int×Int×lM×Unit)) N (λe a=>let b:=a.2.2.2.1; (cond (ilt a.2.2.1 a.2.1) (oN (inb a.2.2.1<|ln b)<|oN (zep<|ix b a.2.2.1 [])<|cond (nB<|zdF<|ix b a.2.2.1 []) oF<|e (a.1,a.2.1,zM .i64 a.2.2.1 1,b,()))<|some [aB<|ieq (ln b) a.1])) (d,ln c,0,c,()))
def z2E:=zo [(218,0,{n:=21,tm:=[(0,.sl 0 []),(1,ti),(7,.sl 0 []),(8,ti),(9,ti)],lo:=[],ro:=[(0,.sl .int,false)]})]
def z1C (a:List LI)(c:Int)(h:zbE big [aS (.sl .int) a,aI c])(k:zkI a c=true):∃N,zTT N a c=some [aB<|zgB a c]:=by
 have g:(_:List _).length<=big:=((zd0 h).1 _ (qF.2 rfl)).len;refine zcf λN f=>?_;unfold zTT oN nB;conv=>zeta
 refine(zbp a (λi (t:Unit)=>(c,ln a,(i:Int),a,())) _ (λ_ x (_:Unit) j=>bif (zdr) x then j () else oF) (λ(t:Unit)=>some [.one<|.b<|ieq (ln a) c]) (λi d t rec=>?_) (λt rec=>?_) _ ()<|f g).trans ?_;{simp only [zbw d,zbc d,zbn d,zbj d g,cT];exact zkQ rfl};{simp only [zbq,cF]};rw[ziu<|zdr];refine br (λe=>?_) (λe=>?_);{first|rfl|(simp only [e,zgB,zlf,cT,cF]<;>rfl)|(simp_all [Ty.cells,zgB,zlf];done)};{first|rfl|(simp only [e,zgB,zlf,cT,cF]<;>rfl)|(simp_all [Ty.cells,zgB,zlf];done)}
def zVp:vP 218 ztu:=hF2 zhp zq zu zn z2E z1C
def ze2 (p:List Ins):Bool:=bif p.all zj4 then zl (ln p) 1 12 else false
@[simp] abbrev zvL (p:List Ins):Bool:=true
@[simp] abbrev ziN (p:List Ins):Bool:=ze2 p
def zrK:Run:=rF1 (dS .ins) λb=>(zvL b,[aB<|ziN b])
def zM0 (N:Nat)(c:lI):OA:=
 (q0 (σ:=(Int×lI×Unit)) N (λd a=>let b:=ix a.2.1 a.1 zsx; (cond (ilt a.1<|ln a.2.1) (oN (inb a.1<|ln a.2.1)<|oN (zyH b)<|cond (nB<|zv7 b) oF<|d (zM .i64 a.1 1,a.2.1,()))<|oN (zJ (ln a.2.1) 1 12)<|some [aB<|zl (ln a.2.1) 1 12])) (0,c,()))
def z0S:=zo [(382,0,{n:=19,tm:=[(0,.sl 0 []),(3,ti)],lo:=[],ro:=[(0,.ins,false)]})]
def zZe (a:List Ins)(g:zbE big [aS .ins a])(j:zvL a=true):∃N,zM0 N a=some [aB<|ziN a]:=by
 have f:(_:List _).length<=big:=((zd0 g).1 _ (qF.2 rfl)).len;refine zcf λN e=>?_;unfold zM0 oN nB;conv=>zeta
 refine(zbp a (λi (t:Unit)=>((i:Int),a,())) _ (λ_ x (_:Unit) h=>bif (zj4) x then h () else oF) (λ(t:Unit)=>cond (zJ (ln a) 1 12) (some [.one<|.b<|zl (ln a) 1 12]) none) (λi c t rec=>?_) (λt rec=>?_) _ ()<|e f).trans ?_;{simp only [zbw c,zbc c,zbn c,zbj c f,cT];exact zkQ rfl};{simp only [zbq,cF]};rw[ziu<|zj4];refine br (λd=>?_) (λd=>?_);{refine i0 rfl ?_;first|rfl|(simp only [d,ziN,ze2,cT,cF]<;>rfl)|(simp_all [Ty.cells,ziN,ze2];done)};{first|rfl|(simp only [d,ziN,ze2,cT,cF]<;>rfl)|(simp_all [Ty.cells,ziN,ze2];done)}
def zRL:vP 382 zrK:=hF1 zhp zq zu zn z0S zZe
def zMB (N:Nat)(b:lI):OA:=
 (q0 (σ:=(Int×Int×lI×Unit)) N (λd a=>let c:=ix a.2.2.1 a.2.1 zsx; (cond (ilt a.2.1 a.1) (oN (inb a.2.1<|ln a.2.2.1)<|oN (zyH c)<|cond (nB<|zv7 c) oF<|d (a.1,zM .i64 a.2.1 1,a.2.2.1,()))<|oN (zJ (ln a.2.2.1) 1 12)<|some [aB<|zl (ln a.2.2.1) 1 12])) (ln b,0,b,()))
def z0I:=zo [(378,0,{n:=18,tm:=[(0,.sl 0 []),(5,.sl 0 []),(6,ti),(7,ti)],lo:=[],ro:=[(0,.ins,false)]})]
def zYT (a:List Ins)(g:zbE big [aS .ins a])(j:zvL a=true):∃N,zMB N a=some [aB<|ziN a]:=by
 have f:(_:List _).length<=big:=((zd0 g).1 _ (qF.2 rfl)).len;refine zcf λN e=>?_;unfold zMB oN nB;conv=>zeta
 refine(zbp a (λi (t:Unit)=>(ln a,(i:Int),a,())) _ (λ_ x (_:Unit) h=>bif (zj4) x then h () else oF) (λ(t:Unit)=>cond (zJ (ln a) 1 12) (some [.one<|.b<|zl (ln a) 1 12]) none) (λi c t rec=>?_) (λt rec=>?_) _ ()<|e f).trans ?_;{simp only [zbw c,zbc c,zbn c,zbj c f,cT];exact zkQ rfl};{simp only [zbq,cF]};rw[ziu<|zj4];refine br (λd=>?_) (λd=>?_);{refine i0 rfl ?_;first|rfl|(simp only [d,ziN,ze2,cT,cF]<;>rfl)|(simp_all [Ty.cells,ziN,ze2];done)};{first|rfl|(simp only [d,ziN,ze2,cT,cF]<;>rfl)|(simp_all [Ty.cells,ziN,ze2];done)}
def zRl:vP 378 zrK:=hF1 zhp zq zu zn z0I zYT
def ztg (c:Ctl):Bool:=ieq (ln<|zxB c) 0
@[simp] abbrev zoM (c:Ctl):Bool:=ztg c
def ztr:Run:=rF1 dC λb=>(zfD b,[aB<|zoM b])
def zT2 (N:Nat)(a:Ctl):OA:=
 (oN (zfD a)<|some [aB<|ieq (ln<|zpl a) 0])
def zJm (a:Ctl)(b:zbE big [.agg<|zo5 a])(c:zfD a=true):∃N,zT2 N a=some [aB<|zoM a]:=by refine⟨0,?_⟩;unfold zT2 oN;refine i0 rfl ?_;first|rfl|(simp only [*,zoM,ztg,cT,cF]<;>rfl)|simp_all[Ty.cells,zoM,ztg]
def zVx:vP 351 ztr:=hF1 zhp zq zu zn (zo []) zJm
def zVk:vP 379 ztr:=hF1 zhp zq zu zn (zo []) zJm
def zeC (p:Int):Int:=bif zhj p then scan p else -1
def zTP {x:Int}(a:0<=x)(b:x<=255):wcv .u64 x=x:=zFP (P:=λx=>wcv .u64 x=x) (by decide +kernel) a b
@[simp] abbrev ziG (p:Int):Int:=zeC p
def zrt:Run:=rF1 dI λb=>(zch b,[aI<|ziG b])
def zMG (N:Nat)(a:Int):OA:=
 (oN (zch a)<|cond (nB<|zeY a) (some [aI<|-1])<|oN (zo9<|wcv .u64 a)<|some [aI<|wsub .i64 (zkP<|wcv .u64 a) 1])
def zYY (a:Int)(d:zch a=true):∃N,zMG N a=some [aI<|ziG a]:=by refine⟨0,?_⟩;unfold zMG oN nB;refine i0 rfl ?_;cases h:zhj a;{refine i0 (by simp[h]) ?_;simp[zeC,h]};{obtain⟨b,c⟩:=zff.1 h;have r:=zFP (P:=λx=>-1<=scan x/\scan x<=7/\(0<=scan x->wsub .i64 x (zo8 .i64 1<|scan x)=zCg .i64 x (zo8 .i64 1<|scan x))) z0j b c;refine zb9 (by simp[h]) ?_;rw[zTP b c];refine i0 (zba ⟨b,c⟩) ?_;have e:wsub .i64 (zkP a) 1=scan a:=(by unfold zkP;rw[zs7 (by omega) (by omega)];omega);rw[e];simp[zeC,h]}
def zRr:vP 458 zrt:=kF1 zhp zq zu zn (zo []) zYY
def zM6 (N:Nat)(b:Int):OA:=
 (q0 (σ:=(Int×Int×Unit)) N (λc a=>cond (ige a.2.1 0) (oN (zch a.1)<|cond (zeY a.1) (oN (ile 0<|wcv .u64 a.2.1)<|cond (ieq (wand .i64 (zlU .i64 a.1<|wcv .u64 a.2.1) 1) 1) (some [aI a.2.1])<|c (a.1,wsub .i64 a.2.1 1,()))<|some [aI<|-1])<|some [aI<|-1]) (b,7,()))
def z0U:=zo [(439,0,{n:=19,tm:=[(0,ti),(3,ti)],lo:=[],ro:=[]})]
def zZj (a:Int)(C:zch a=true):∃N,zM6 N a=some [aI<|ziG a]:=by refine⟨10,?_⟩;unfold zM6 oN;cases h:zhj a;{rw [zeF];refine i0 rfl ?_;refine i0 rfl ?_;refine zb9 h ?_;simp[zeC,h]};{have c:zeY a=true:=h;rw[zeF];refine i0 rfl (i0 rfl (i0 c (i0 rfl (br (λr=>?_) λr=>?_))));{have A:ziW a 7=true:=r;simp[zeC,h,scan,A]};have b:ziW a 7=false:=r;show q0 9 _ (a,6,())=_;rw[zeF];refine i0 rfl (i0 rfl (i0 c (i0 rfl (br (λq=>?_) λq=>?_))));{have z:ziW a 6=true:=q;simp[zeC,h,scan,z,b]};have d:ziW a 6=false:=q;show q0 8 _ (a,5,())=_;rw[zeF];refine i0 rfl (i0 rfl (i0 c (i0 rfl (br (λp=>?_) λp=>?_))));{have y:ziW a 5=true:=p;simp[zeC,h,scan,y,b,d]};have e:ziW a 5=false:=p;show q0 7 _ (a,4,())=_;rw[zeF];refine i0 rfl (i0 rfl (i0 c (i0 rfl (br (λn=>?_) λn=>?_))));{have x:ziW a 4=true:=n;simp[zeC,h,scan,x,b,d,e]};have f:ziW a 4=false:=n;show q0 6 _ (a,3,())=_;rw[zeF];refine i0 rfl (i0 rfl (i0 c (i0 rfl (br (λm=>?_) λm=>?_))));{have w:ziW a 3=true:=m;simp[zeC,h,scan,w,b,d,e,f]};have g:ziW a 3=false:=m;show q0 5 _ (a,2,())=_;rw[zeF];refine i0 rfl (i0 rfl (i0 c (i0 rfl (br (λl=>?_) λl=>?_))));{have v:ziW a 2=true:=l;simp[zeC,h,scan,v,b,d,e,f,g]};have i:ziW a 2=false:=l;show q0 4 _ (a,1,())=_;rw[zeF];refine i0 rfl (i0 rfl (i0 c (i0 rfl (br (λk=>?_) λk=>?_))));{have u:ziW a 1=true:=k;simp[zeC,h,scan,u,b,d,e,f,g,i]};have s:ziW a 1=false:=k;show q0 3 _ (a,0,())=_;rw[zeF];refine i0 rfl (i0 rfl (i0 c (i0 rfl (br (λj=>?_) λj=>?_))));{have t:ziW a 0=true:=j;simp[zeC,h,scan,t,b,d,e,f,g,i,s]};have B:ziW a 0=false:=j;show q0 2 _ (a,-1,())=_;rw[zeF];refine zb9 rfl ?_;simp[zeC,h,scan,b,d,e,f,g,i,s,B]}
def zRR:vP 439 zrt:=kF1 zhp zq zu zn z0U zZj
def zbI {c:Cur}{i k:Int}(h:zbf c)(a:0<=i):zbf ⟨c.b,i,k⟩:=⟨a,h.2⟩
def z3v {c:Cur}(h:zbf c){l:LI}(a:l≠[]):zbu c l∈l:=(zAL<|zfY h a).2.2 (kX.2 a)
def zgs {c:Cur}(h:zbf c){n:Int}(a:0<n):0<=zx c n/\zx c n<n:=(zj0<|zbA h n).2.2 a
def zON {o x:Int}(h:(o=1\/o=2\/o=5\/o=6)/\0<=x/\x<=99\/(o=3\/o=4)/\0<=x/\x<=15\/o=8/\0<=x/\x<=11):zj4 ⟨o,x⟩=true:=by have w:∀{a b:Int},a<=x->x<=b->zl x a b=true:=λc d=>(by simp only[zl,ige,ile,qE,jA];exact⟨c,d⟩);rcases h with⟨h|h|h|h,c,d⟩|⟨h|h,c,d⟩|⟨h,c,d⟩<;>subst h<;>exact w c d
def zAU (N:Nat)(c:Cur)  : OA :=
 let d:=zbu c [1,2,3,3,3,4,4,4,5,6,8];let a:=({ (zbe c [1,2,3,3,3,4,4,4,5,6,8]) with b:=c.b}:Cur); (p0 (oN (zC a 16)<|some [.agg [.s .u8 c.b,.i .i64 (zf a 16).i,.i .i64 (zf a 16).h],.agg [.i .i64 d,.i .i64<|zx a 16]]) λf=>p0 (cond (ieq d 8) (oN (zC a 4)<|some [.agg [.s .u8 c.b,.i .i64 (zf a 4).i,.i .i64 (zf a 4).h],.agg [.i .i64 d,.i .i64<|zx a 4]])<|oN (zC a 100)<|some [.agg [.s .u8 c.b,.i .i64 (zf a 100).i,.i .i64 (zf a 100).h],.agg [.i .i64 d,.i .i64<|zx a 100]]) λe=>oN (zbC c [1,2,3,3,3,4,4,4,5,6,8])<|cond (ieq d 3) (cond (ieq d 3) f e)<|cond (ieq d 4) f e)
def ztG (c:Cur)(s:Cur)(a:Ins):Prop:=(∃N,zAU N c=some (AV.agg (zb5 s)::[aT .ins a]))/\(s.b=c.b/\0<=s.i)/\(zj4 a=true)
def zmw (c:Cur)  : Bool:=wC (ztG c)
def zhZ (c:Cur)  : Cur:=wS (ztG c)
def zhA (c:Cur)  : Ins:=wV (ztG c)
def zPQ {c:Cur}(h:zmw c=true):ztG c (zhZ c) (zhA c):=wG h
def zBZ (c:Cur)  : 0<=(zhZ c).i:=wP λh=>h.2.1.2
def z5B (c:Cur)(h:∃N,Ends (wE (λa=>aT .ins a) c.b λa=>zj4 a=true)<|zAU N c):zmw c=true:=wI (λ_ _ h=>h) h
def zCZ:zeD:=rP0 λc=>(zmw c,zhZ c,[aT .ins<|zhA c])
def zRX:zbU Tryz.prog 447 [false,true,true] zCZ:=hP0 zeS zY zZG zn (zo []) (λ_ h=>(zPQ h).1)
def zXk {c:Cur}(h:zbf c):zmw c=true:=by
 refine z5B c ⟨0,?_⟩;have p:([1,2,3,3,3,4,4,4,5,6,8]:LI)≠[]:=(by simp);have q:=z3v h p;have f:zbf {zbe c [1,2,3,3,3,4,4,4,5,6,8] with b:=c.b}:=zbI h (zb4 _ _);have t:=zgs f (n:=16) (by omega);have w:=zgs f (n:=4) (by omega);have m:=zgs f (n:=100) (by omega);unfold zAU oN;conv=>zeta
 generalize zbu c [1,2,3,3,3,4,4,4,5,6,8]=o at q;simp only[qG,qN,or_false]at q;have j:∀{n:Int},ieq o n=false->o≠n:=λh e=>(by subst e;simp[ieq]at h);have k:∀{n:Int},ieq o n=true->o=n:=λh=>by simpa [ieq] using h
 have L:∀(n:Int),0<n->(zj4 ⟨o,zx {zbe c [1,2,3,3,3,4,4,4,5,6,8] with b:=c.b} n⟩=true)->Ends (λa=>∃s r,a=(AV.agg (zb5 s)::[aT .ins r])/\(s.b=c.b/\0<=s.i)/\zj4 r=true)
  (cond (zC {zbe c [1,2,3,3,3,4,4,4,5,6,8] with b:=c.b} n) (some (AV.agg [.s .u8 c.b,.i .i64 (zf {zbe c [1,2,3,3,3,4,4,4,5,6,8] with b:=c.b} n).i,.i .i64 (zf {zbe c [1,2,3,3,3,4,4,4,5,6,8] with b:=c.b} n).h]::[.agg [.i .i64 o,.i .i64<|zx {zbe c [1,2,3,3,3,4,4,4,5,6,8] with b:=c.b} n]])) none):=
  λn x u=>zB (zbA f n) (zbF (aT .ins) (v:=⟨o,zx _ n⟩) (zG _ _) u)
 refine zB (zfY h p) (zbB (λg=>zbB (λ_=>L 16 (by omega) (zON ?_)) λd=>absurd (k g) (j d)) λg=>zbB (λd=>L 16 (by omega) (zON ?_)) λd=>zbB (λl=>L 4 (by omega) (zON ?_)) λl=>L 100 (by omega) (zON ?_));{have:=k g;omega};{have:=k d;omega};{have:=k l;omega};{have:=j g;have:=j d;have:=j l;omega}
def zbch:zdb:=[(447,[false,true,true],zCZ)]++zbcg
def zZH:zce zbch:=zcF zZG (by
 intro x a;simp only[qG,qN,or_false]at a;rcases a with rfl
 .exact zRX)
def zjC {x y:Int}(a:0<=x)(b:x<=1000000)(c:0<=y)(d:y<=1000000):zM .i64 x y=x+y:=zo0 (by omega) (by omega)
def zkt {a:Type}{l:List a}(h:ln l<=1000000):few (ln l)=true:=qL ⟨by unfold ln;omega,by omega⟩
def zhg {a:Type}(l:List a)(x:a):ln (ap l [x])=ln l+1:=by simp[ln,ap]
def zyQ (N:Nat)(c:Cur)  : OA :=
 (q0 (σ:=(Int×Int×Int×lI×LI×Unit)) N (λj d=>let e:=d.2.2.2.1;let f:=d.2.2.2.2.1;let g:=(⟨f,d.2.1,d.2.2.1⟩:Cur);let a:=({ (zf g 7) with b:=f}:Cur); (oN (zC g 7)<|cond (ilt d.1<|zM .i64 2<|zx g 7) (oN (zmw a)<|oN (few<|ln<|ap e [zhA a])<|j (zM .i64 d.1 1,(zhZ a).i,(zhZ a).h,ap e [zhA a],f,()))<|oN (zdo a 3)<|cond (zdH a 3) (oN (few<|ln<|ap e [(⟨7,0⟩:Ins)])<|some [.agg [.s .u8 f,.i .i64 (zV a 3).i,.i .i64 (zV a 3).h],aS .ins<|ap e [(⟨7,0⟩:Ins)]])<|oN (few<|ln<|ap e [(⟨8,0⟩:Ins)])<|some [.agg [.s .u8 f,.i .i64 (zV a 3).i,.i .i64 (zV a 3).h],aS .ins<|ap e [(⟨8,0⟩:Ins)]])) (0,c.i,c.h,[],c.b,()))
def zW9:=zo [(363,0,{n:=29,tm:=[(0,.lp 0 0),(3,.sl 0 []),(4,ti)],lo:=[(0,[.sl 1 [],ti,ti])],ro:=[(0,.ins,true),(1,.u8,false)]})]
def zse (c:Cur)(s:Cur)(a:List Ins):Prop:=(∃N,zyQ N c=some (AV.agg (zb5 s)::[aS .ins a]))/\(s.b=c.b/\0<=s.i)/\(ze2 a=true)
def zjk (c:Cur)  : Bool:=wC (zse c)
def zbh (c:Cur)  : Cur:=wS (zse c)
def zcr (c:Cur)  : List Ins:=wV (zse c)
def ztH {c:Cur}(h:zjk c=true):zse c (zbh c) (zcr c):=wG h
def zk5 (c:Cur)  : 0<=(zbh c).i:=wP λh=>h.2.1.2
def z2j (c:Cur)(h:∃N,Ends (wE (λa=>aS .ins a) c.b λa=>ze2 a=true)<|zyQ N c):zjk c=true:=wI (λ_ _ h=>h) h
def zAn:zeD:=rP0 λc=>(zjk c,zbh c,[aS .ins<|zcr c])
def zOx:zbU Tryz.prog 363 [false,true,true] zAn:=hP0 zeS zY zZH zn zW9 (λ_ h=>(ztH h).1)
def zFQ {c:Cur}(h:zbf c):zjk c=true:=by
 refine z2j c ⟨9,?_⟩;unfold zyQ oN;conv=>zeta
 refine zmH (λn s=>s.1+(n:Int)=8/\0<=s.1/\0<=s.2.1/\(∀x∈s.2.2.2.1,zj4 x=true)/\ln s.2.2.2.1=s.1/\s.2.2.2.2.1=c.b) ?_ 9 8 _ ⟨rfl,kQ 0,h.1,by simp,rfl,rfl⟩ (by omega);rintro n ⟨t,i,k,l,b,u⟩ rec ⟨B,g,v,j,w,z⟩ f;dsimp only at B g v j w z ⊢;subst z;have a:zbf ⟨c.b,i,k⟩:=zbI h v;have d:=zgs a (n:=7) (by omega);have A:=zjC (x:=2) (by omega) (by omega) d.1 (by omega);have m:zbf {zf ⟨c.b,i,k⟩ 7 with b:=c.b}:=zbI h (zG _ _);have e:∀(y:Ins),zj4 y=true->2<=t->ze2 (ap l [y])=true:=(by intro y C D;unfold ze2;rw[zhg,w];have:(ap l [y]).all zj4=true:=(by simp only[ap,List.all_append,k9,List.all_nil,vH,qE];exact⟨qP.2 j,C⟩);rw[this,cT];simp only[zl,ige,ile,qE,jA];omega);refine zB (zbA a 7) (zbB (λp=>?_) λp=>?_);{have r:t<zM .i64 2 (zx ⟨c.b,i,k⟩ 7):=qD p;rw[A]at r;refine zB (zXk m) (zB (zkt (by rw[zhg];omega))<|f (n-1) _ (by omega) ⟨?_,?_,zBZ _,?_,?_,rfl⟩);{show zM .i64 t 1+_=8;rw[zjC g (by omega) (by omega) (by omega)];omega};{show 0<=zM .i64 t 1;rw[zjC g (by omega) (by omega) (by omega)];omega};{intro x d;rcases jK.1 d with d|d;{exact j x d};{rw [qF.1 d];exact(zPQ<|zXk m).2.2}};{show ln (ap l [_])=zM .i64 t 1;rw[zhg,zjC g (by omega) (by omega) (by omega)];omega}};{have q:¬ t<zM .i64 2 (zx ⟨c.b,i,k⟩ 7):=qM p;rw[A]at q;refine zB (zky m 3) (zbB (λ_=>zB (zkt (by rw[zhg];omega)) (zbF (aS .ins) (zcx _ _) (e _ rfl (by omega)))) λ_=>zB (zkt (by rw[zhg];omega)) (zbF (aS .ins) (zcx _ _) (e _ rfl (by omega))))}
def zbci:zdb:=[(363,[false,true,true],zAn)]++zbch
def zZI:zce zbci:=zcF zZH (by
 intro x a;simp only[qG,qN,or_false]at a;rcases a with rfl
 .exact zOx)
def z04 {f:Type}{c:Cur}(h:zbf c){P:f->Prop}{fc:Cur->Bool}{fs:Cur->Cur}{fv:Cur->f}(C:∀{c:Cur},zbf c->fc c=true)(D:∀c,0<=(fs c).i)(hg:∀{c:Cur},zbf c->P (fv c)){G:Ans->Prop}{R:Cur->List f->Ans}(B:∀s l,s.b=c.b->0<=s.i->1<=l.length->l.length<=2->(∀x∈l,P x)->G (R s l)){F:(Int×Int×Int×List f×LI×Unit->OA)->Int×Int×Int×List f×LI×Unit->OA}(A:∀rec t i k l,F rec (t,i,k,l,c.b,())=bif zC ⟨c.b,i,k⟩ 2 then (bif ilt t (zM .i64 1 (zx ⟨c.b,i,k⟩ 2)) then (bif fc { zf ⟨c.b,i,k⟩ 2 with b:=c.b } then (bif few (ln (ap l [fv { zf ⟨c.b,i,k⟩ 2 with b:=c.b }])) then
        rec (zM .i64 t 1,(fs {zf ⟨c.b,i,k⟩ 2 with b:=c.b}).i,(fs {zf ⟨c.b,i,k⟩ 2 with b:=c.b}).h,ap l [fv {zf ⟨c.b,i,k⟩ 2 with b:=c.b}],c.b,()) else none) else none) else some (R ⟨c.b,(zf ⟨c.b,i,k⟩ 2).i,(zf ⟨c.b,i,k⟩ 2).h⟩ l)) else none) :
 Ends G (q0 3 F (0,c.i,c.h,[],c.b,())):=by
 refine zmH (fun n s=>s.1+(n:Int)=2/\0<=s.1/\0<=s.2.1/\(∀x∈s.2.2.2.1,P x)/\ln s.2.2.2.1=s.1/\s.2.2.2.2.1=c.b) ?_ 3 2 _ ⟨rfl,kQ 0,h.1,by simp,rfl,rfl⟩ (by omega)
 rintro n ⟨t,i,k,l,b,u⟩ rec ⟨z,m,p,g,q,r⟩ e
 dsimp only at z m p g q r
 subst r;rw[A];have a:zbf ⟨c.b,i,k⟩:=zbI h p;have d:=zgs a (n:=2) (by omega)
 have w:=zjC (x:=1) (by omega) (by omega) d.1 (by omega)
 have v:zbf {zf ⟨c.b,i,k⟩ 2 with b:=c.b}:=zbI h (zG _ _);refine zB (zbA a 2) (zbB (fun j=>?_) (fun j=>?_))
 .have hlt:t<zM .i64 1 (zx ⟨c.b,i,k⟩ 2):=qD j;rw[w]at hlt;have E:=zjC (y:=1) m (by omega) (by omega) (by omega)
  refine zB (C v) (zB (zkt (by rw[zhg];omega)) (e (n-1) _ (by omega) ⟨?_,?_,D _,?_,?_,rfl⟩))
  .show zM .i64 t 1+_=2
   omega
  .show 0<=zM .i64 t 1
   omega
  .intro x d;rcases jK.1 d with d|d
   .exact g x d
   .rw [qF.1 d];exact hg v
  .show ln (ap l [_])=zM .i64 t 1
   rw[zhg];omega
 .have hge:¬ t<zM .i64 1 (zx ⟨c.b,i,k⟩ 2):=qM j;rw[w]at hge;unfold ln at q;exact zwt (B _ l rfl (zG _ _) (by omega) (by omega) g)
def zwk (N:Nat)(c:Cur)  : OA :=
 (q0 (σ:=(Int×Int×Int×lP×LI×Unit)) N (λg a=>let f:=a.2.2.2.2.1;let e:=(⟨f,a.2.1,a.2.2.1⟩:Cur);let d:=({ (zf e 2) with b:=f}:Cur); (oN (zC e 2)<|cond (ilt a.1<|zM .i64 1<|zx e 2) (oN (zjk d)<|oN (few<|ln<|ap a.2.2.2.1 [zcr d])<|g (zM .i64 a.1 1,(zbh d).i,(zbh d).h,ap a.2.2.2.1 [zcr d],f,()))<|some [.agg [.s .u8 f,.i .i64 (zf e 2).i,.i .i64 (zf e 2).h],aS (.sl .ins) a.2.2.2.1])) (0,c.i,c.h,[],c.b,()))
def zTK:=zo [(187,0,{n:=19,tm:=[(0,.lp 0 0),(3,.sl 0 []),(4,ti)],lo:=[(0,[.sl 1 [],ti,ti])],ro:=[(0,.sl .ins,true),(1,.u8,false)]})]
def zp3 (c:Cur)(s:Cur)(a:List (List Ins)):Prop:=(∃N,zwk N c=some (AV.agg (zb5 s)::[aS (.sl .ins) a]))/\(s.b=c.b/\0<=s.i)/\(1<=a.length/\a.length<=2/\∀x∈a,ze2 x=true)
def zlO (c:Cur)  : Bool:=wC (zp3 c)
def zlP (c:Cur)  : Cur:=wS (zp3 c)
def zsn (c:Cur)  : List (List Ins):=wV (zp3 c)
def zF7 {c:Cur}(h:zlO c=true):zp3 c (zlP c) (zsn c):=wG h
def z0g (c:Cur)  : 0<=(zlP c).i:=wP λh=>h.2.1.2
def z0f (c:Cur)(h:∃N,Ends (wE (λa=>aS (.sl .ins) a) c.b λa=>1<=a.length/\a.length<=2/\∀x∈a,ze2 x=true)<|zwk N c):zlO c=true:=wI (λ_ _ h=>h) h
def zyi:zeD:=rP0 λc=>(zlO c,zlP c,[aS (.sl .ins)<|zsn c])
def zLs:zbU Tryz.prog 187 [false,true,true] zyi:=hP0 zeS zY zZI zn zTK (λ_ h=>(zF7 h).1)
def z3x {c:Cur}(h:zbf c):zlO c=true:=by
 refine z0f c ⟨3,?_⟩;unfold zwk oN;conv=>zeta
 exact z04 h (P:=λx=>ze2 x=true) (fc:=zjk) (fs:=zbh) (fv:=zcr) (R:=λs l=>AV.agg (zb5 s)::[aS (.sl .ins) l]) zFQ zk5 (λh=>(ztH<|zFQ h).2.2) (λs l d e a b f=>⟨s,l,rfl,⟨d,e⟩,a,b,f⟩) (λrec t i k l=>rfl)
def zbcj:zdb:=[(187,[false,true,true],zyi)]++zbci
def zZJ:zce zbcj:=zcF zZI (by
 intro x a;simp only[qG,qN,or_false]at a;rcases a with rfl
 .exact zLs)
def zA0 (N:Nat)(c:Cur)  : OA :=
 (q0 (σ:=(Int×Int×Int×lQ×LI×Unit)) N (λg a=>let f:=a.2.2.2.2.1;let e:=(⟨f,a.2.1,a.2.2.1⟩:Cur);let d:=({ (zf e 2) with b:=f}:Cur); (oN (zC e 2)<|cond (ilt a.1<|zM .i64 1<|zx e 2) (oN (zlO d)<|oN (few<|ln<|ap a.2.2.2.1 [zsn d])<|g (zM .i64 a.1 1,(zlP d).i,(zlP d).h,ap a.2.2.2.1 [zsn d],f,()))<|some [.agg [.s .u8 f,.i .i64 (zf e 2).i,.i .i64 (zf e 2).h],aS (.sl<|.sl .ins) a.2.2.2.1])) (0,c.i,c.h,[],c.b,()))
def z0Z:=zo [(186,0,{n:=19,tm:=[(0,.lp 0 0),(3,.sl 0 []),(4,ti)],lo:=[(0,[.sl 1 [],ti,ti])],ro:=[(0,.sl<|.sl .ins,true),(1,.u8,false)]})]
def ztN (c:Cur)(s:Cur)(a:List (List<|List Ins)):Prop:=(∃N,zA0 N c=some (AV.agg (zb5 s)::[aS (.sl<|.sl .ins) a]))/\(s.b=c.b/\0<=s.i)/\(1<=a.length/\a.length<=2/\∀p∈a,1<=p.length/\p.length<=2/\∀x∈p,ze2 x=true)
def zso (c:Cur)  : Bool:=wC (ztN c)
def zoV (c:Cur)  : Cur:=wS (ztN c)
def zxe (c:Cur)  : List (List<|List Ins):=wV (ztN c)
def zPT {c:Cur}(h:zso c=true):ztN c (zoV c) (zxe c):=wG h
def z5O (c:Cur)  : 0<=(zoV c).i:=wP λh=>h.2.1.2
def z5N (c:Cur)(h:∃N,Ends (wE (λa=>aS (.sl<|.sl .ins) a) c.b λa=>1<=a.length/\a.length<=2/\∀p∈a,1<=p.length/\p.length<=2/\∀x∈p,ze2 x=true)<|zA0 N c):zso c=true:=wI (λ_ _ h=>h) h
def zC5:zeD:=rP0 λc=>(zso c,zoV c,[aS (.sl<|.sl .ins)<|zxe c])
def zR3:zbU Tryz.prog 186 [false,true,true] zC5:=hP0 zeS zY zZJ zn z0Z (λ_ h=>(zPT h).1)
def zbaT {c:Cur}(h:zbf c):zso c=true:=by
 refine z5N c ⟨3,?_⟩;unfold zA0 oN;conv=>zeta
 exact z04 h (P:=λp=>1<=p.length/\p.length<=2/\∀x∈p,ze2 x=true) (fc:=zlO) (fs:=zlP) (fv:=zsn) (R:=λs l=>AV.agg (zb5 s)::[aS (.sl<|.sl .ins) l]) z3x z0g (λh=>(zF7<|z3x h).2.2) (λs l d e a b f=>⟨s,l,rfl,⟨d,e⟩,a,b,f⟩) (λrec t i k l=>rfl)
def zbck:zdb:=[(186,[false,true,true],zC5)]++zbcj
def zZK:zce zbck:=zcF zZJ (by
 intro x a;simp only[qG,qN,or_false]at a;rcases a with rfl
 .exact zR3)
def zGw {c:Type}{G:c->Prop}{x:Bool}{a b:Option c}(k:Ends G a)(h:x=true:=by first
 |exact zbA (by first|assumption|exact zbI (by assumption) (zG _ _)|exact zbI (by assumption) (zcx _ _)|exact zbI (by assumption) (zb4 _ _)) _
 |exact zky (by first|assumption|exact zbI (by assumption) (zG _ _)|exact zbI (by assumption) (zcx _ _)) _
 |exact zfY (by first|assumption|exact zbI (by assumption) (zG _ _)) (by simp)):Ends G (cond x a b):=zB h k
def zAW (N:Nat)(c:Cur)  : OA :=
 let f:=zx c 4;let j:=({ (zf c 4) with b:=c.b}:Cur);let e:=zdH j 4;let d:=zV j 4;let a:=({d with b:=c.b}:Cur);let g:=({ (zV a 2) with b:=c.b}:Cur); (oN (zC c 4)<|oN (zdo j 4)<|cond (nB e) (cond (ine f 2) (oN (zdo a 2)<|cond (zdH a 2) (oN (zC g 256)<|some [.agg [.s .u8 c.b,.i .i64 (zf g 256).i,.i .i64 (zf g 256).h],.agg [.i .i64 f,.i .i64<|zx g 256,.b<|nB e]])<|some [.agg [.s .u8 c.b,.i .i64 (zV a 2).i,.i .i64 (zV a 2).h],.agg [.i .i64 f,.i .i64 0,.b<|nB e]])<|some [.agg [.s .u8 c.b,.i .i64 d.i,.i .i64 d.h],.agg [.i .i64 f,.i .i64 0,.b<|nB e]])<|some [.agg [.s .u8 c.b,.i .i64 d.i,.i .i64 d.h],.agg [.i .i64 f,.i .i64 0,.b<|nB e]])
def ztJ (c:Cur)(s:Cur)(a:Ctl):Prop:=(∃N,zAW N c=some (AV.agg (zb5 s)::[.agg<|zo5 a]))/\(s.b=c.b/\0<=s.i)/\(True)
def zmx (c:Cur)  : Bool:=wC (ztJ c)
def zcI (c:Cur)  : Cur:=wS (ztJ c)
def zc1 (c:Cur)  : Ctl:=wV (ztJ c)
def z5F {c:Cur}(h:zmx c=true):ztJ c (zcI c) (zc1 c):=wG h
def zB1 (c:Cur)  : 0<=(zcI c).i:=wP λh=>h.2.1.2
def z5G (c:Cur)(h:∃N,Ends (wE (λa=>.agg (zo5 a)) c.b λa=>True)<|zAW N c):zmx c=true:=wI (λ_ _ h=>h) h
def zC1:zeD:=rP0 λc=>(zmx c,zcI c,[.agg<|zo5<|zc1 c])
def zRZ:zbU Tryz.prog 413 [false,true,true] zC1:=hP0 zeS zY zZK zn (zo []) (λ_ h=>(z5F h).1)
def z4e {c:Cur}(h:zbf c):zmx c=true:=by
 refine z5G c ⟨0,?_⟩;unfold zAW oN nB;conv=>zeta
 refine zGw (zGw<|zbB (λ_=>zbB (λ_=>zGw (zbB (λ_=>zGw (?_)) λ_=>?_)) λ_=>?_) λ_=>?_);all_goals exact zbF (λx=>AV.agg (zo5 x)) (v:=⟨_,_,_⟩) (by first|exact zG _ _|exact zcx _ _) trivial
def zbcl:zdb:=[(413,[false,true,true],zC1)]++zbck
def zLX:zce zbcl:=zcF zZK (by
 intro x a;simp only[qG,qN,or_false]at a;rcases a with rfl
 .exact zRZ)
def ze4 {c:Type}{G:c->Prop}{x:Bool}{a b:Option c}(k:Ends G a)(h:x=true:=by first
 |exact zbA (by first|assumption|exact zbI (by assumption) (zG _ _)|exact zbI (by assumption) (zb4 _ _)) _
 |exact zfY (by first|assumption|exact zbI (by assumption) (zG _ _)) (by simp)
 |exact z4e (zbI (by assumption)<|zG _ _)):Ends G (cond x a b):=zB h k
def zA3 (N:Nat)(c:Cur)  : OA :=
 let m:=({ (zf c 2) with b:=c.b}:Cur);let g:=zx c 2;let f:=zx m 2;let u:=({ (zf m 2) with b:=c.b}:Cur);let e:=zf u 24;let d:=zx u 24;let a:=({e with b:=c.b}:Cur);let j:=zf a 8;let l:=({ (zf a 4) with b:=c.b}:Cur);let k:=({j with b:=c.b}:Cur);let t:=({ (zf a 16) with b:=c.b}:Cur);let r:=({ (zbe a [16,17]) with b:=c.b}:Cur);let q:=({ (zbe a [13,13,14,15]) with b:=c.b}:Cur);let p:=({ (zf k 4) with b:=c.b}:Cur);let n:=({ (zf l 8) with b:=c.b}:Cur); (p0 (oN (zbC a [13,13,14,15])<|oN (zC q 8)<|some [.agg [.s .u8 c.b,.i .i64 (zf q 8).i,.i .i64 (zf q 8).h],.agg [.i .i64<|zbu a [13,13,14,15],.i .i64 g,.i .i64 f,.i .i64<|zx q 8,.i .i64 0,.i .i64 0]]) λA=>p0 (cond (ieq d 16) (oN (zbC a [16,17])<|oN (zC r 4)<|some [.agg [.s .u8 c.b,.i .i64 (zf r 4).i,.i .i64 (zf r 4).h],.agg [.i .i64<|zbu a [16,17],.i .i64 g,.i .i64 f,.i .i64<|zx r 4,.i .i64 0,.i .i64 0]])<|some [.agg [.s .u8 c.b,.i .i64 e.i,.i .i64 e.h],.agg [.i .i64 1,.i .i64 g,.i .i64 f,.i .i64 0,.i .i64 0,.i .i64 0]]) λz=>p0 (oN (zC a 4)<|oN (zC l 8)<|oN (zbC n [3,3,1,2])<|some [.agg [.s .u8 c.b,.i .i64 (zbe n [3,3,1,2]).i,.i .i64 (zbe n [3,3,1,2]).h],.agg [.i .i64 2,.i .i64 g,.i .i64 f,.i .i64<|zx a 4,.i .i64<|zx l 8,.i .i64<|zbu n [3,3,1,2]]]) λy=>p0 (oN (zC a 4)<|some [.agg [.s .u8 c.b,.i .i64 (zf a 4).i,.i .i64 (zf a 4).h],.agg [.i .i64 3,.i .i64 g,.i .i64 f,.i .i64<|zx a 4,.i .i64 0,.i .i64 0]]) λx=>p0 (cond (ieq d 7) (oN (zC a 8)<|some [.agg [.s .u8 c.b,.i .i64 j.i,.i .i64 j.h],.agg [.i .i64 6,.i .i64 g,.i .i64 f,.i .i64<|zx a 8,.i .i64 0,.i .i64 0]])<|cond (ieq d 8) (oN (zmx a)<|cond ((zc1 a).Open) (some [.agg [.s .u8 c.b,.i .i64 (zcI a).i,.i .i64 (zcI a).h],.agg [.i .i64 7,.i .i64 g,.i .i64 f,.i .i64 (zc1 a).aq,.i .i64 (zc1 a).Post,.i .i64 1]])<|some [.agg [.s .u8 c.b,.i .i64 (zcI a).i,.i .i64 (zcI a).h],.agg [.i .i64 7,.i .i64 g,.i .i64 f,.i .i64 (zc1 a).aq,.i .i64 (zc1 a).Post,.i .i64 0]])<|cond (ieq d 9) (oN (zC a 8)<|oN (zC k 4)<|oN (zC p 100)<|some [.agg [.s .u8 c.b,.i .i64 (zf p 100).i,.i .i64 (zf p 100).h],.agg [.i .i64 8,.i .i64 g,.i .i64 f,.i .i64<|zx a 8,.i .i64<|zx k 4,.i .i64<|zx p 100]])<|cond (ieq d 10) (oN (zC a 8)<|some [.agg [.s .u8 c.b,.i .i64 j.i,.i .i64 j.h],.agg [.i .i64 9,.i .i64 g,.i .i64 f,.i .i64<|zx a 8,.i .i64 0,.i .i64 0]])<|cond (ieq d 11) (some [.agg [.s .u8 c.b,.i .i64 e.i,.i .i64 e.h],.agg [.i .i64 10,.i .i64 g,.i .i64 f,.i .i64 0,.i .i64 0,.i .i64 0]])<|cond (ieq d 12) (oN (zC a 16)<|oN (zC t 100)<|some [.agg [.s .u8 c.b,.i .i64 (zf t 100).i,.i .i64 (zf t 100).h],.agg [.i .i64 11,.i .i64 g,.i .i64 f,.i .i64<|zx a 16,.i .i64<|zx t 100,.i .i64 0]])<|cond (ieq d 13) (oN (zC a 16)<|some [.agg [.s .u8 c.b,.i .i64 (zf a 16).i,.i .i64 (zf a 16).h],.agg [.i .i64 12,.i .i64 g,.i .i64 f,.i .i64<|zx a 16,.i .i64 0,.i .i64 0]])<|cond (ieq d 14) (cond (ieq d 14) A z)<|cond (ieq d 15) A z) λv=>p0 (cond (ieq d 4) (oN (zC a 100)<|some [.agg [.s .u8 c.b,.i .i64 (zf a 100).i,.i .i64 (zf a 100).h],.agg [.i .i64 4,.i .i64 g,.i .i64 f,.i .i64<|zx a 100,.i .i64 0,.i .i64 0]])<|cond (ieq d 5) (cond (ieq d 5) (some [.agg [.s .u8 c.b,.i .i64 e.i,.i .i64 e.h],.agg [.i .i64 5,.i .i64 g,.i .i64 f,.i .i64 0,.i .i64 0,.i .i64 0]]) v)<|cond (ieq d 6) (some [.agg [.s .u8 c.b,.i .i64 e.i,.i .i64 e.h],.agg [.i .i64 5,.i .i64 g,.i .i64 f,.i .i64 0,.i .i64 0,.i .i64 0]]) v) λw=>p0 (cond (ieq d 2) (cond (ieq d 2) x w)<|cond (ieq d 3) x w) λB=>oN (zC c 2)<|oN (zC m 2)<|oN (zC u 24)<|cond (ieq d 0) (cond (ieq d 0) y B)<|cond (ieq d 1) y B)
def ztP (c:Cur)(s:Cur)(a:r0):Prop:=(∃N,zA3 N c=some (AV.agg (zb5 s)::[aT .act a]))/\(s.b=c.b/\0<=s.i)/\(True)
def zkN (c:Cur)  : Bool:=wC (ztP c)
def zdq (c:Cur)  : Cur:=wS (ztP c)
def zc5 (c:Cur)  : r0:=wV (ztP c)
def z5R {c:Cur}(h:zkN c=true):ztP c (zdq c) (zc5 c):=wG h
def zPV (c:Cur)  : 0<=(zdq c).i:=wP λh=>h.2.1.2
def z5S (c:Cur)(h:∃N,Ends (wE (λa=>aT .act a) c.b λa=>True)<|zA3 N c):zkN c=true:=wI (λ_ _ h=>h) h
def zC7:zeD:=rP0 λc=>(zkN c,zdq c,[aT .act<|zc5 c])
def zR8:zbU Tryz.prog 299 [false,true,true] zC7:=hP0 zeS zY zLX zn (zo []) (λ_ h=>(z5R h).1)
def zbaS {c:Cur}(h:zbf c):zkN c=true:=by
 refine z5S c ⟨0,?_⟩;unfold zA3 oN;conv=>zeta
 refine zqa (ze4<|ze4<|?_) (λ_ g=>zqa (zbB (λ_=>ze4 (ze4<|?_)) λ_=>?_) λ_ f=>zqa (ze4<|ze4<|ze4<|?_) λ_ e=>zqa (ze4<|?_) λ_ d=>zqa (zbB (λ_=>ze4 (?_)) λ_=>zbB (λ_=>ze4 (zbB (λ_=>?_) λ_=>?_)) λ_=>zbB (λ_=>ze4 (ze4<|ze4<|?_)) λ_=>zbB (λ_=>ze4 (?_)) λ_=>zbB (λ_=>?_) λ_=>zbB (λ_=>ze4 (ze4<|?_)) λ_=>zbB (λ_=>ze4 (?_)) λ_=>zbB (λ_=>zbB (λ_=>g) λ_=>f) λ_=>zbB (λ_=>g) λ_=>f) λ_ a=>zqa (zbB (λ_=>ze4 (?_)) λ_=>zbB (λ_=>zbB (λ_=>?_) λ_=>a) λ_=>zbB (λ_=>?_) λ_=>a) λ_ b=>zqa (zbB (λ_=>zbB (λ_=>d) λ_=>b) λ_=>zbB (λ_=>d) λ_=>b) λ_ i=>ze4 (ze4<|ze4<|zbB (λ_=>zbB (λ_=>e) λ_=>i) λ_=>zbB (λ_=>e) λ_=>i));all_goals exact zbF (aT .act) (v:=⟨_,_,_,_,_,_⟩) (by first|exact zG _ _|exact zb4 _ _|exact zB1 _) trivial
def znr (N:Nat)  : OA :=
 (q0 (σ:=(Int×lA×Unit)) N (λe c=>cond (ilt c.1 2) (q0 (σ:=(Int×Int×lA×Unit)) N (λf b=>cond (ilt b.2.1 2) (q0 (σ:=(Int×Int×Int×lA×Unit)) N (λg a=>let d:=ap a.2.2.2.1 [(⟨2,a.1,a.2.1,a.2.2.1,zM .i64 a.2.2.1<|zm8 .i64 3 a.2.1,3⟩:r0),(⟨3,a.1,a.2.1,a.2.2.1,0,0⟩:r0)]; (cond (ilt a.2.2.1 3) (oN (few<|ln d)<|g (a.1,a.2.1,zM .i64 a.2.2.1 1,d,()))<|f (a.1,zM .i64 a.2.1 1,a.2.2.2.1,()))) (b.1,b.2.1,0,b.2.2.1,()))<|e (zM .i64 b.1 1,b.2.2.1,())) (c.1,0,c.2.1,()))<|some [aS .act c.2.1]) (0,[],()))
def zTM:=zo [(390,0,{n:=34,tm:=[(1,.sl 0 []),(2,ti)],lo:=[],ro:=[(0,.act,true)]}),(390,2,{n:=34,tm:=[(1,.sl 0 []),(2,ti),(3,ti)],lo:=[],ro:=[(0,.act,true)]}),(390,4,{n:=34,tm:=[(1,.sl 0 []),(2,ti),(3,ti),(4,ti)],lo:=[],ro:=[(0,.act,true)]})]
def zuZ  (a:List r0):Prop:=(∃N,znr N=some [aS .act a])/\(a.length<=45)
def zlS  : Bool:=uC (T:=List r0) (λr=>zuZ r)
def z0i  : List r0:=uV (λr=>zuZ r)
def zvS  : List r0:=(z0i)
def zF8  (h:zlS=true):zuZ zvS:=uG h
def z0h  (h:∃N,Ends (λa=>∃b,a=[aS .act b]/\(b.length<=45))<|znr N):zlS=true:=by obtain⟨N,a,e,b,rfl,h⟩:=h;exact zba ⟨b,⟨N,e⟩,h⟩
def zAI:Run:=rF0 (zlS,[aS .act zvS])
def zS5  (a:zlS=true):∃N,znr N  = some [aS .act zvS]:=by exact(zF8 a).1
def zLu:vP 390 zAI:=kF0 zeS zY zLX zn zTM zS5
def z6u:List r0:=match znr 10 with
 |some [.one<|.s .act l]=>l
 |_=>[]
def z2S:zlS=true:=z0h ⟨10,_,(by kernel_rfl:znr 10=some [aS .act z6u]),z6u,rfl,Nat.le_of_ble_eq_true (by kernel_rfl)⟩
def zbcm:zdb:=[(299,[false,true,true],zC7)]++zbcl
def zZL:zce zbcm:=zcF zLX (by
 intro x a;simp only[qG,qN,or_false]at a;rcases a with rfl
 .exact zR8)
def zbey:zbb:=[(390,zAI)]++zQM
def z6D:zN zbey:=zh zLu zeS
def zUL {c:Cur}(h:zbf c){m:Int}(e:0<=m)(J:m<=1000){G:Ans->Prop}{R:Cur->List r0->Ans}(D:∀s l,s.b=c.b->0<=s.i->ln l<=45+m->G (R s l)){F:(Int×Int×Int×Int×List r0×LI×Unit->OA)->Int×Int×Int×Int×List r0×LI×Unit->OA}(C:∀rec t i k l,F rec (m,t,i,k,l,c.b,())=bif zC ⟨c.b,i,k⟩ (zM .i64 m 1) then (bif ilt t (zx ⟨c.b,i,k⟩ (zM .i64 m 1)) then (bif zkN { zf ⟨c.b,i,k⟩ (zM .i64 m 1) with b:=c.b } then (bif few (ln (ap l [zc5 { zf ⟨c.b,i,k⟩ (zM .i64 m 1) with b:=c.b }])) then
        rec (m,zM .i64 t 1,(zdq {zf ⟨c.b,i,k⟩ (zM .i64 m 1) with b:=c.b}).i,(zdq {zf ⟨c.b,i,k⟩ (zM .i64 m 1) with b:=c.b}).h,ap l [zc5 {zf ⟨c.b,i,k⟩ (zM .i64 m 1) with b:=c.b}],c.b,()) else none) else none) else some (R ⟨c.b,(zf ⟨c.b,i,k⟩ (zM .i64 m 1)).i,(zf ⟨c.b,i,k⟩ (zM .i64 m 1)).h⟩ l)) else none){w I:Int}(f:0<=w){g:List r0}(E:g.length<=45):Ends G (q0 1002 F (m,0,w,I,g,c.b,())):=by
 refine zmH (fun n s=>s.1=m/\s.2.1+(n:Int)=1000/\0<=s.2.1/\0<=s.2.2.1/\(ln s.2.2.2.2.1<=45+s.2.1/\s.2.1<=m)/\s.2.2.2.2.2.1=c.b) ?_ 1002 1000 _ ⟨rfl,rfl,kQ 0,f,⟨by unfold ln;show ((g.length:Nat):Int)<=45+0;omega,e⟩,rfl⟩ (by omega)
 rintro n ⟨q,t,i,k,l,b,u⟩ rec ⟨e,z,j,p,⟨A,H⟩,r⟩ d
 dsimp only at e z j p A r H
 subst r;subst e;rw[C];have a:zbf ⟨c.b,i,k⟩:=zbI h p;have L:=zjC (x:=q) (y:=1) (by omega) (by omega) (by omega) (by omega)
 have M:=zgs a (n:=zM .i64 q 1) (by omega)
 have B:zbf {zf ⟨c.b,i,k⟩ (zM .i64 q 1) with b:=c.b}:=zbI h (zG _ _);refine zB (zbA a _) (zbB (fun v=>?_) (fun v=>?_))
 .have hlt:t<zx ⟨c.b,i,k⟩ (zM .i64 q 1):=qD v;have K:=zjC (y:=1) j (by omega) (by omega) (by omega)
  refine zB (zbaS B) (zB (zkt (by rw[zhg];omega)) (d (n-1) _ (by omega) ⟨rfl,?_,?_,zPV _,⟨?_,?_⟩,rfl⟩))
  .show zM .i64 t 1+_=1000
   omega
  .show 0<=zM .i64 t 1
   omega
  .show ln (ap l [_])<=45+zM .i64 t 1
   rw[zhg];omega
  .show zM .i64 t 1<=q
   omega
 .refine zwt (D _ l rfl (zG _ _) ?_);omega
def zyY (N:Nat)(c:Cur)(p:Int):OA:=
 (oN (zdo c 5)<|cond (nB<|zdH c 5) (oN zlS<|q0 (σ:=(Int×Int×Int×Int×lA×LI×Unit)) N (λn a=>let l:=a.2.2.2.2.2.1;let f:=zM .i64 a.1 1;let d:=(⟨l,a.2.2.1,a.2.2.2.1⟩:Cur);let j:=({ (zf d f) with b:=l}:Cur);let q:=ap a.2.2.2.2.1 [zc5 j]; (oN (zC d f)<|cond (ilt a.2.1<|zx d f) (oN (zkN j)<|oN (few<|ln q)<|n (a.1,zM .i64 a.2.1 1,(zdq j).i,(zdq j).h,q,l,()))<|some [.agg [.s .u8 l,.i .i64 (zf d f).i,.i .i64 (zf d f).h],aS .act a.2.2.2.2.1])) (p,0,(zV c 5).i,(zV c 5).h,zvS,c.b,()))<|q0 (σ:=(Int×Int×Int×Int×lA×LI×Unit)) N (λn a=>let m:=a.2.2.2.2.2.1;let g:=zM .i64 a.1 1;let e:=(⟨m,a.2.2.1,a.2.2.2.1⟩:Cur);let k:=({ (zf e g) with b:=m}:Cur);let r:=ap a.2.2.2.2.1 [zc5 k]; (oN (zC e g)<|cond (ilt a.2.1<|zx e g) (oN (zkN k)<|oN (few<|ln r)<|n (a.1,zM .i64 a.2.1 1,(zdq k).i,(zdq k).h,r,m,()))<|some [.agg [.s .u8 m,.i .i64 (zf e g).i,.i .i64 (zf e g).h],aS .act a.2.2.2.2.1])) (p,0,(zV c 5).i,(zV c 5).h,[],c.b,()))
def zXd:=zo [(236,0,{n:=26,tm:=[(0,.lp 0 0),(1,ti),(5,.sl 0 []),(6,ti)],lo:=[(0,[.sl 1 [],ti,ti])],ro:=[(0,.act,true),(1,.u8,false)]})]
def zsr (c:Cur)(a:Int)(s:Cur)(d:List r0):Prop:=(∃N,zyY N c a=some (AV.agg (zb5 s)::[aS .act d]))/\(s.b=c.b/\0<=s.i)/\(ln d<=45+a)
def zpv (c:Cur)(a:Int):Bool:=wC (zsr c a)
def zpw (c:Cur)(a:Int):Cur:=wS (zsr c a)
def zuq (c:Cur)(a:Int):List r0:=wV (zsr c a)
def zJL {c:Cur}{a:Int}(h:zpv c a=true):zsr c a (zpw c a) (zuq c a):=wG h
def z2t (c:Cur)(a:Int):0<=(zpw c a).i:=wP λh=>h.2.1.2
def z2s (c:Cur)(a:Int)(h:∃N,Ends (wE (λd=>aS .act d) c.b λd=>ln d<=45+a)<|zyY N c a):zpv c a=true:=wI (λ_ _ h=>h) h
def zAs:zeD:=rP1 dI λc b=>(zpv c b,zpw c b,[aS .act<|zuq c b])
def zOL:zbU Tryz.prog 236 [false,true,true] zAs:=hP1 z6D zY zZL zn zXd (λ_ _ h=>(zJL h).1)
def z6p {c:Cur}(h:zbf c){m:Int}(e:0<=m)(f:m<=1000):zpv c m=true:=by
 refine z2s c m ⟨1002,?_⟩;unfold zyY oN nB;conv=>zeta
 have g:=zF8 z2S;exact zB (zky h 5) (zbB (λ_=>zB z2S (zUL h e f (R:=λs l=>AV.agg (zb5 s)::[aS .act l]) (λs l a b d=>⟨s,l,rfl,⟨a,b⟩,d⟩) (λrec t i k l=>rfl) (zcx _ _) g.2)) λ_=>zUL h e f (R:=λs l=>AV.agg (zb5 s)::[aS .act l]) (λs l a b d=>⟨s,l,rfl,⟨a,b⟩,d⟩) (λrec t i k l=>rfl) (zcx _ _) (j7 _))
def zbcn:zdb:=[(236,[false,true,true],zAs)]++zbcm
def zZM:zce zbcn:=zcF zZL (by
 intro x a;simp only[qG,qN,or_false]at a;rcases a with rfl
 .exact zOL)
@[simp] abbrev zhH (l:List LI):Bool:=pc (SmM l)
@[simp] abbrev zeE (l:List LI):List LI:=l
def zDa:Run:=rF1 (dS<|.sl .int) λb=>(zhH b,[aS (.sl .int)<|zeE b])
def zIo (N:Nat)(c:lM):OA:=
 (q0 (σ:=(Int×Int×lM×lM×Unit)) N (λd a=>let b:=ix a.2.2.2.1 a.2.1 []; (cond (ilt a.2.1 a.1) (oN (inb a.2.1<|ln a.2.2.2.1)<|oN (zeL b)<|oN (few<|ln<|ap a.2.2.1 [zeJ b])<|d (a.1,zM .i64 a.2.1 1,ap a.2.2.1 [zeJ b],a.2.2.2.1,()))<|some [aS (.sl .int) a.2.2.1])) (ln c,0,[],c,()))
def zW1:=zo [(238,0,{n:=20,tm:=[(3,.sl 0 []),(7,.sl 1 []),(8,ti),(9,ti)],lo:=[],ro:=[(0,.sl .int,true),(1,.sl .int,false)]})]
def zV7 (a:List LI)(g:zhH a=true):∃N,zIo N a=some [aS (.sl .int)<|zeE a]:=by
 have f:=zF.1 g;have e:=zcC f.1;refine zcf λN d=>?_;unfold zIo oN;conv=>zeta
 refine(zbp a (λi (t:lM)=>(ln a,(i:Int),t,a,())) _ (λ_ x b j=>bif zeL x then (cond (few<|ln<|ap b [zeJ x]) (j<|ap b [zeJ x]) none) else none) (λ(t:lM)=>some [.one<|.s (.sl .int) t]) (λi c t rec=>?_) (λt rec=>?_) _ ([])<|d e.1).trans ?_;{simp only [zbw c,zbc c,zbn c,zbj c e.1,cT]};{simp only [zbq,cF]};exact zjD zeL zeJ _ a 0 [] (λx h=>⟨by exact zba (qT (f.2 x h) (by decide)),rfl⟩) (by simpa using e.2)
def zN3:vP 238 zDa:=kF1 zhp zq zu zn zW1 zV7
@[simp] abbrev zL (g:ah):Bool:=pc (SmG g)
@[simp] abbrev zc6 (g:ah):ah:=g
def zym:Run:=rF1 (dT .guest) λb=>(zL b,[aT .guest<|zc6 b])
def zCs (N:Nat)(a:ah):OA:=
 (oN (zwJ a.aw)<|oN (zg6 a.ar)<|oN (zg6 a.ax)<|oN (zeL a.aC)<|some [aT .guest ({a with aw:=(zrg a.aw),ar:=(ze5 a.ar),ax:=(ze5 a.ax),aC:=(zeJ a.aC)}:ah)])
def zO0 (a:ah)(b:zL a=true):∃N,zCs N a=some [aT .guest<|zc6 a]:=by have c:=zF.1 b;obtain⟨h,i,j,k⟩:=c;have d:a.aw.length<=2147483648:=(by omega);have e:a.ar.length<=2147483648:=(by omega);have f:a.ax.length<=2147483648:=(by omega);have g:a.aC.length<=2147483648:=(by omega);refine⟨0,?_⟩;unfold zCs oN;refine mu (mu<|mu<|mu ?_);first|rfl|(simp only [*,zc6,cT,cF]<;>rfl)|simp_all[Ty.cells,zc6]
def zG9:vP 399 zym:=kF1 zhp zq zu zn (zo []) zO0
def ziU (t:List k0)(p n:Int):Bool:=bif ieq (zc2 t p).af (-1) then false else (cond (enough (zc2 t p).an n) (zl n 1 3) false)
def zdM (t:List k0)(p n:Int):Int:=bif ziU t p n then (zc2 t p).af else -1
def zbat {r:Int}(h:ziJ r=true):0<=r/\r<=3:=zff.1 h
def z4w {a n:Int}(h:enough a n=true):zl n 1 3 = !ieq n 0:=by unfold enough at h;cases b:ziJ a;{rw [b]at h;cases h};{cases c:ziJ n;{rw [b,c]at h;cases h};{have:=zbat c;have e:(zl n 1 3=true)↔(!ieq n 0)=true:=(by rw[zff];simp[ieq];omega);cases d:zl n 1 3<;>cases f:(!ieq n 0)<;>simp_all}}
@[simp] abbrev ze0 (t:List k0)(p n:Int):Bool:=true
@[simp] abbrev zeg (t:List k0)(p n:Int):Int:=zdM t p n
@[simp] abbrev zdD (t:List k0)(p n:Int):Bool:=ziU t p n
def zne:Run:=rF3 (dS .slot) dI dI λb c d=>(ze0 b c d,[aI<|zeg b c d,aB<|zdD b c d])
def zCp (N:Nat)(c:lS)(d a:Int):OA:=
 let b:=zeZ c d; (oN (zgp c d)<|cond (ieq b.af<|-1) (some [aI<|-1,aB false])<|oN (zbi b.an a)<|cond (nB<|zds b.an a) (some [aI<|-1,aB false])<|oN (zJ a 1 3)<|cond (nB<|zl a 1 3) (some [aI<|-1,aB false])<|some [aI b.af,aB true])
def zOX (a:List k0)(b c:Int)(d:ze0 a b c=true):∃N,zCp N a b c=some [aI<|zeg a b c,aB<|zdD a b c]:=by
 refine⟨0,?_⟩;unfold zCp oN nB;conv=>zeta
 refine i0 rfl (br (λ_=>?_) λ_=>i0 rfl (brN (λ_=>?_) λ_=>i0 rfl (brN (λ_=>?_) λ_=>?_)));all_goals first|rfl|(simp only [*,zeg,zdD,zdM,ziU,cT,cF]<;>rfl)|simp_all[Ty.cells,zeg,zdD,zdM,ziU]
def zG6:vP 270 zne:=kF3 zhp zq zu zn (zo []) zOX
def zCJ (N:Nat)(c:lS)(d b:Int):OA:=
 let a:=zeZ c d; (oN (zgp c d)<|cond (ieq a.af<|-1) (some [aI<|-1,aB false])<|oN (zbi a.an b)<|cond (nB<|zds a.an b) (some [aI<|-1,aB false])<|cond (ieq b 0) (some [aI<|-1,aB false])<|some [aI a.af,aB true])
def zPk (a:List k0)(b c:Int)(d:ze0 a b c=true):∃N,zCJ N a b c=some [aI<|zeg a b c,aB<|zdD a b c]:=by
 have e:=@z4w (zc2 a b).an c;refine⟨0,?_⟩;unfold zCJ oN nB;conv=>zeta
 refine i0 rfl (br (λ_=>?_) λ_=>i0 rfl (brN (λ_=>?_) λ_=>br (λ_=>?_) λ_=>?_));all_goals first|rfl|(simp only [*,zeg,zdD,zdM,ziU,cT,cF]<;>rfl)|simp_all[Ty.cells,zeg,zdD,zdM,ziU]
def zHr:vP 282 zne:=kF3 zhp zq zu zn (zo []) zPk
def zbbF:zbb:=[(455,zj6),(238,zDa),(399,zym),(282,zne),(270,zne),(120,ztu),(218,ztu),(382,zrK),(378,zrK),(351,ztr),(379,ztr),(439,zrt),(458,zrt)]++zbbE
def zhq:zN zbbF:=zh zqE (zh zN3<|zh zG9<|zh zHr<|zh zG6<|zh zVB<|zh zVp<|zh zRL<|zh zRl<|zh zVx<|zh zVk<|zh zRR<|zh zRr zhp)
@[simp] abbrev zde (m:List LI)(p c v:Int):Bool:=pc (SmM m)
@[simp] abbrev zdn (m:List LI)(p c v:Int):List LI:=zf3 m p c v
def zoJ:Run:=rF4 (dS<|.sl .int) dI dI dI λb c d e=>(zde b c d e,[aS (.sl .int)<|zdn b c d e])
def zEB (N:Nat)(c:lM)(a d e:Int):OA:=
 let b:=zf6 c; (oN (zhX c)<|oN (zer c a d)<|cond (zsZ c a d) (oN (zJ e 0 99)<|cond (zl e 0 99) (oN (inb a<|ln b)<|oN (inb d<|ln<|ix b a [])<|p0 (up b a<|up (ix b a []) d e) λf=>some [aS (.sl .int) f])<|some [aS (.sl .int) b])<|some [aS (.sl .int) b])
def zS1 (a:List LI)(b c d:Int)(e:zde a b c d=true):∃N,zEB N a b c d=some [aS (.sl .int)<|zdn a b c d]:=by
 have g:=zF.1 e;have f:=(zBL a b c).1;refine⟨0,?_⟩;unfold zEB oN;conv=>zeta
 refine mu (i0 rfl (br (λ_=>i0 rfl (br (λ_=>mu (mu<|shr ?_)) λ_=>?_)) λ_=>?_));all_goals first|rfl|(simp only [*,zdn,zf3,cT,cF]<;>rfl)|simp_all[Ty.cells,zdn,zf3]
def zLk:vP 287 zoJ:=kF4 zhq zq zu zn (zo []) zS1
def zD4 (N:Nat)(a:lM)(b c d:Int):OA:=
 let e:=aS (.sl .int)<|zeE a; (oN (zhH a)<|oN (zbi b<|ln a)<|cond (zbX b<|ln a) (oN (inb b<|ln a)<|oN (zbi c<|ln<|ix a b [])<|cond (zbX c<|ln<|ix a b []) (oN (zJ d 0 99)<|cond (zl d 0 99) (oN (inb b<|ln<|zeE a)<|oN (inb c<|ln<|ix (zeE a) b [])<|p0 (up (zeE a) b<|up (ix (zeE a) b []) c d) λf=>some [aS (.sl .int) f])<|some [e])<|some [e])<|some [e])
def zSv (a:List LI)(b c d:Int)(e:zde a b c d=true):∃N,zD4 N a b c d=some [aS (.sl .int)<|zdn a b c d]:=by
 have f:=zF.1 e;refine⟨0,?_⟩;unfold zD4 oN;conv=>zeta
 refine mu (i0 rfl (br (λ_=>mu (i0 rfl (br (λ_=>i0 rfl (br (λ_=>mu (mu<|shr ?_)) λ_=>?_)) λ_=>?_))) λ_=>?_));all_goals first|rfl|(simp only [*,zdn,zf3,zlv,cT,cF]<;>rfl)|simp_all[Ty.cells,zdn,zf3,zlv]
def zKO:vP 251 zoJ:=kF4 zhq zq zu zn (zo []) zSv
def zqw (g:ah):Bool:=bif canRun g then (cond g.Ctl.Open (ige (zeC g.aj) 0) false) else false
@[simp] abbrev zbx (g:ah):Bool:=true
@[simp] abbrev zmu (g:ah):Bool:=zqw g
def zoI:Run:=rF1 (dT .guest) λb=>(zbx b,[aB<|zmu b])
def zEA (N:Nat)(a:ah):OA:=
 (oN (zvI a)<|cond (zqk a) (cond a.Ctl.Open (oN (zch a.aj)<|some [aB<|ige (ziG a.aj) 0]) oF) oF)
def zAd (a:ah)(b:zbE big [aT .guest a])(c:zbx a=true):∃N,zEA N a=some [aB<|zmu a]:=by refine⟨0,?_⟩;unfold zEA oN;refine i0 rfl (br (λ_=>br (λ_=>i0 rfl ?_) λ_=>?_) λ_=>?_);all_goals first|rfl|(simp only [*,zmu,zqw,cT,cF]<;>rfl)|simp_all[Ty.cells,zmu,zqw]
def zLj:vP 402 zoI:=hF1 zhq zq zu zn (zo []) zAd
def zKN:vP 397 zoI:=hF1 zhq zq zu zn (zo []) zAd
def zjx (p:Int):Int:=bif ilt (zeC p) 0 then p else wsub .i64 p (zo8 .i64 1<|zeC p)
def znG (p:Int):Int:=bif ilt (zeC p) 0 then -1 else zeC p
def zVc {p:Int}(h:ilt (zeC p) 0=false):wcv .u64 (zeC p)=zeC p/\ile 0 (zeC p)=true/\zCg .i64 p (zo8 .i64 1<|zeC p)=wsub .i64 p (zo8 .i64 1<|zeC p):=by unfold zeC at *;cases a:zhj p;{rw [a]at h;cases h};{simp only [a,cT]at h ⊢;obtain⟨c,d⟩:=zff.1 a;have r:=zFP (P:=λx=>-1<=scan x/\scan x<=7/\(0<=scan x->wsub .i64 x (zo8 .i64 1<|scan x)=zCg .i64 x (zo8 .i64 1<|scan x))) z0j c d;have b:0<=scan p:=(by unfold ilt at h;have:=qM h;omega);exact⟨zTP b (by omega),qL b,(r.2.2 b).symm⟩}
@[simp] abbrev zgf (p:Int):Int:=zjx p
@[simp] abbrev zgg (p:Int):Int:=znG p
@[simp] abbrev zhU (p:Int):Bool:=!ilt (zeC p) 0
def zpV:Run:=rF1 dI λb=>(zch b,[aI<|zgf b,aI<|zgg b,aB<|zhU b])
def zIS (N:Nat)(a:Int):OA:=
 (oN (zch a)<|cond (ilt (ziG a) 0) (some [aI a,aI<|-1,aB false])<|oN (ile 0<|wcv .u64<|ziG a)<|some [aI<|wsub .i64 a<|zo8 .i64 1<|wcv .u64<|ziG a,aI<|ziG a,aB true])
def zWx (a:Int)(b:zch a=true):∃N,zIS N a=some [aI<|zgf a,aI<|zgg a,aB<|zhU a]:=by have c:=@zVc a;refine⟨0,?_⟩;unfold zIS oN;refine i0 rfl (br (λ_=>?_) λ_=>mu ?_);all_goals first|rfl|(simp only [*,zgf,zgg,zhU,zjx,znG,cT,cF]<;>rfl)|simp_all[Ty.cells,zgf,zgg,zhU,zjx,znG]
def zOp:vP 353 zpV:=kF1 zhq zq zu zn (zo []) zWx
def zIm (N:Nat)(a:Int):OA:=
 (oN (zch a)<|cond (ilt (ziG a) 0) (some [aI a,aI<|-1,aB false])<|oN (ile 0<|ziG a)<|some [aI<|zCg .i64 a<|zo8 .i64 1<|ziG a,aI<|ziG a,aB true])
def zV5 (a:Int)(b:zch a=true):∃N,zIm N a=some [aI<|zgf a,aI<|zgg a,aB<|zhU a]:=by have c:=@zVc a;refine⟨0,?_⟩;unfold zIm oN;refine i0 rfl (br (λ_=>?_) λ_=>mu ?_);all_goals first|rfl|(simp only [*,zgf,zgg,zhU,zjx,znG,cT,cF]<;>rfl)|simp_all[Ty.cells,zgf,zgg,zhU,zjx,znG]
def zN1:vP 406 zpV:=kF1 zhq zq zu zn (zo []) zV5
def saw (g:ah)(n:Int):ah:=bif ilt (ln g.aC) 40 then {g with aC:=ap g.aC [n]} else g
@[simp] def zTo {g:ah}(n:Int)(h:SmG g):SmG (saw g n):=by unfold saw;cases a:ilt (ln g.aC) 40;{exact h};{have:=qD a;refine⟨h.1,h.2.1,h.2.2.1,?_⟩;simp[ln] at *;omega}
@[simp] abbrev zv8 (g:ah)(n:Int):Bool:=pc (SmG g)
@[simp] abbrev zr2 (g:ah)(n:Int):ah:=saw g n
def zyt:Run:=rF2 (dT .guest) dI λb c=>(zv8 b c,[aT .guest<|zr2 b c])
def z2P (N:Nat)(a:ah)(b:Int):OA:=
 (oN (zea a)<|cond (ilt (ln (zdI a).aC) 40) (oN (few<|ln<|ap (zdI a).aC [b])<|some [aT .guest ({ (zdI a) with aC:=(ap (zdI a).aC [b])}:ah)])<|some [aT .guest<|zdI a])
def z7I (a:ah)(b:Int)(c:zv8 a b=true):∃N,z2P N a b=some [aT .guest<|zr2 a b]:=by have d:=zF.1 c;have e:a.aC.length<=1048576:=d.2.2.2;refine⟨0,?_⟩;unfold z2P oN;refine mu (br (λ_=>mu ?_) λ_=>?_);all_goals first|rfl|(simp only [*,zr2,saw,cT,cF]<;>rfl)|simp_all[Ty.cells,zr2,saw]
def z1y:vP 404 zyt:=kF2 zhq zq zu zn (zo []) z7I
def z2L (N:Nat)(a:ah)(b:Int):OA:=
 (oN (zL a)<|cond (ilt (ln a.aC) 40) (oN (few<|ln<|ap (zc6 a).aC [b])<|some [aT .guest ({ (zc6 a) with aC:=(ap (zc6 a).aC [b])}:ah)])<|some [aT .guest<|zc6 a])
def z7E (a:ah)(b:Int)(c:zv8 a b=true):∃N,z2L N a b=some [aT .guest<|zr2 a b]:=by have d:=zF.1 c;have e:a.aC.length<=1048576:=d.2.2.2;refine⟨0,?_⟩;unfold z2L oN;refine mu (br (λ_=>mu ?_) λ_=>?_);all_goals first|rfl|(simp only [*,zr2,saw,cT,cF]<;>rfl)|simp_all[Ty.cells,zr2,saw]
def z1u:vP 400 zyt:=kF2 zhq zq zu zn (zo []) z7E
def stopped (g:ah)(e:aD):ah:={g with Exit:=e}
@[simp] def z2B {g:ah}(e:aD)(h:SmG g):SmG (stopped g e):=h
@[simp] abbrev zci (g:ah)(e:aD):Bool:=pc (SmG g)
@[simp] abbrev zcu (g:ah)(e:aD):ah:=stopped g e
def zpT:Run:=rF2 (dT .guest) dE λb c=>(zci b c,[aT .guest<|zcu b c])
def zIQ (N:Nat)(a:ah)(b:aD):OA:=
 (oN (zea a)<|some [aT .guest ({ (zdI a) with Exit:=b}:ah)])
def zWv (a:ah)(b:aD)(c:zci a b=true):∃N,zIQ N a b=some [aT .guest<|zcu a b]:=by have d:=zF.1 c;refine⟨0,?_⟩;unfold zIQ oN;refine mu ?_;first|rfl|(simp only [*,zcu,stopped,cT,cF]<;>rfl)|simp_all[Ty.cells,zcu,stopped]
def zOn:vP 285 zpT:=kF2 zhq zq zu zn (zo []) zWv
def zIk (N:Nat)(a:ah)(b:aD):OA:=
 (oN (zL a)<|some [aT .guest ({ (zc6 a) with Exit:=b}:ah)])
def zV3 (a:ah)(b:aD)(c:zci a b=true):∃N,zIk N a b=some [aT .guest<|zcu a b]:=by have d:=zF.1 c;refine⟨0,?_⟩;unfold zIk oN;refine mu ?_;first|rfl|(simp only [*,zcu,stopped,cT,cF]<;>rfl)|simp_all[Ty.cells,zcu,stopped]
def zNZ:vP 249 zpT:=kF2 zhq zq zu zn (zo []) zV3
def zcq (g:ah):ah:=bif ige g.Pc 12 then {g with Pc:=12} else {g with Pc:=zM .i64 g.Pc 1}
@[simp] def zl5 {g:ah}(h:SmG g):SmG (zcq g):=by unfold zcq;cases ige g.Pc 12<;>exact h
@[simp] abbrev zb3 (g:ah):ah:=zcq g
def zjg:Run:=rF1 (dT .guest) λb=>(zL b,[aT .guest<|zb3 b])
def zT9 (N:Nat)(a:ah):OA:=
 (oN (zea a)<|cond (ige (zdI a).Pc 12) (some [aT .guest ({ (zdI a) with Pc:=12}:ah)])<|some [aT .guest ({ (zdI a) with Pc:=(zM .i64 (zdI a).Pc 1)}:ah)])
def z1P (a:ah)(b:zL a=true):∃N,zT9 N a=some [aT .guest<|zb3 a]:=by have c:=zF.1 b;refine⟨0,?_⟩;unfold zT9 oN;refine mu (br (λ_=>?_) λ_=>?_);all_goals first|rfl|(simp only [*,zb3,zcq,cT,cF]<;>rfl)|simp_all[Ty.cells,zb3,zcq]
def zVD:vP 348 zjg:=kF1 zhq zq zu zn (zo []) z1P
def zTW (N:Nat)(a:ah):OA:=
 (oN (zL a)<|cond (ige a.Pc 12) (some [aT .guest ({ (zc6 a) with Pc:=12}:ah)])<|some [aT .guest ({ (zc6 a) with Pc:=(zM .i64 a.Pc 1)}:ah)])
def z1F (a:ah)(b:zL a=true):∃N,zTW N a=some [aT .guest<|zb3 a]:=by have c:=zF.1 b;refine⟨0,?_⟩;unfold zTW oN;refine mu (br (λ_=>?_) λ_=>?_);all_goals first|rfl|(simp only [*,zb3,zcq,cT,cF]<;>rfl)|simp_all[Ty.cells,zb3,zcq]
def zVs:vP 276 zjg:=kF1 zhq zq zu zn (zo []) z1F
def zbbG:zbb:=[(287,zoJ),(251,zoJ),(402,zoI),(397,zoI),(353,zpV),(406,zpV),(404,zyt),(400,zyt),(285,zpT),(249,zpT),(348,zjg),(276,zjg)]++zbbF
def zfo:zN zbbG:=zh zLk (zh zKO<|zh zLj<|zh zKN<|zh zOp<|zh zN1<|zh z1y<|zh z1u<|zh zOn<|zh zNZ<|zh zVD<|zh zVs zhq)
def interrupted (g:ah):ah:=bif zqw g then saw {g with aj:=zjx g.aj} (zM .i64 100<|znG g.aj) else g
@[simp] def z3B {g:ah}(h:SmG g):SmG (interrupted g):=by unfold interrupted;cases zqw g;{exact h};{exact zTo (g:={g with aj:=zjx g.aj}) _ h}
@[simp] abbrev ze3 (g:ah):ah:=interrupted g
def zli:Run:=rF1 (dT .guest) λb=>(zL b,[aT .guest<|ze3 b])
def zxu (N:Nat)(a:ah):OA:=
 let c:=zM .i64 100<|zgg a.aj;let b:=({a with aj:=(zgf a.aj)}:ah); (oN (zbx a)<|cond (nB<|zmu a) (oN (zea a)<|some [aT .guest<|zdI a])<|oN (zch a.aj)<|oN (zv8 b c)<|some [aT .guest<|zr2 b c])
def zHR (a:ah)(b:zL a=true):∃N,zxu N a=some [aT .guest<|ze3 a]:=by
 have c:=zF.1 b;have d:_/\_/\_/\_:=c;refine⟨0,?_⟩;unfold zxu oN nB;conv=>zeta
 refine i0 rfl (brN (λ_=>mu ?_) λ_=>i0 rfl (mu ?_));all_goals first|rfl|(simp only [*,ze3,interrupted,cT,cF]<;>rfl)|simp_all[Ty.cells,ze3,interrupted]
def zDL:vP 260 zli:=kF1 zfo zq zu zn (zo []) zHR
def zxj (N:Nat)(a:ah):OA:=
 let c:=zM .i64 100<|zgg a.aj;let b:=({a with aj:=(zgf a.aj)}:ah); (oN (zbx a)<|cond (nB<|zmu a) (oN (zL a)<|some [aT .guest<|zc6 a])<|oN (zch a.aj)<|oN (zv8 b c)<|some [aT .guest<|zr2 b c])
def zHE (a:ah)(b:zL a=true):∃N,zxj N a=some [aT .guest<|ze3 a]:=by
 have c:=zF.1 b;have d:_/\_/\_/\_:=c;refine⟨0,?_⟩;unfold zxj oN nB;conv=>zeta
 refine i0 rfl (brN (λ_=>mu ?_) λ_=>i0 rfl (mu ?_));all_goals first|rfl|(simp only [*,ze3,interrupted,cT,cF]<;>rfl)|simp_all[Ty.cells,ze3,interrupted]
def zDy:vP 268 zli:=kF1 zfo zq zu zn (zo []) zHE
def zPx (o:Int):Int:=bif ieq o 3 then 3 else (cond (ieq o 4) 4<|cond (ieq o 5) 5<|cond (ieq o 6) 6<|cond (ieq o 7) 7 2)
def zU (g:ah):Int:=bif canRun g then (cond (zqw g) 1<|zPx (zfj g.aw g.Pc).Op) else 0
@[simp] abbrev zhz (g:ah):Int:=zU g
def zrP:Run:=rF1 (dT .guest) λb=>(zbx b,[aI<|zhz b])
def zM8 (N:Nat)(a:ah):OA:=
 let b:=(zd3 a.aw a.Pc).Op; (oN (zvI a)<|cond (nB<|zqk a) (some [aI 0])<|oN (zbx a)<|cond (zmu a) (some [aI 1])<|oN (zdU a.aw a.Pc)<|cond (ieq b 3) (some [aI 3])<|cond (ieq b 4) (some [aI 4])<|cond (ieq b 5) (some [aI 5])<|cond (ieq b 6) (some [aI 6])<|cond (ieq b 7) (some [aI 7])<|some [aI 2])
def zFK (a:ah)(b:zbE big [aT .guest a])(c:zbx a=true):∃N,zM8 N a=some [aI<|zhz a]:=by
 refine⟨0,?_⟩;unfold zM8 oN nB;conv=>zeta
 refine i0 rfl (brN (λ_=>?_) λ_=>i0 rfl (br (λ_=>?_) λ_=>i0 rfl (br (λ_=>?_) λ_=>br (λ_=>?_) λ_=>br (λ_=>?_) λ_=>br (λ_=>?_) λ_=>br (λ_=>?_) λ_=>?_)));all_goals first|rfl|(simp only [*,zhz,zU,zPx,cT,cF]<;>rfl)|simp_all[Ty.cells,zhz,zU,zPx]
def zcM:vP 259 zrP:=hF1 zfo zq zu zn (zo []) zFK
def zRt:vP 244 zrP:=hF1 zfo zq zu zn (zo []) zFK
def held (g:ah):ah:=zcq {g with aF:=true}
@[simp] def z0r {g:ah}(h:SmG g):SmG (held g):=zl5 (g:={g with aF:=true}) h
@[simp] abbrev zjR (g:ah):ah:=held g
def zvH:Run:=rF1 (dT .guest) λb=>(zL b,[aT .guest<|zjR b])
def zXB (N:Nat)(b:ah):OA:=
 let a:=({b with aF:=true}:ah); (oN (zL a)<|some [aT .guest<|zb3 a])
def zPg (a:ah)(d:zbE big [aT .guest a])(b:zL a=true):∃N,zXB N a=some [aT .guest<|zjR a]:=by
 have c:=zF.1 b;have e:_/\_/\_/\_:=c;refine⟨0,?_⟩;unfold zXB oN;conv=>zeta
 refine mu ?_;first|rfl|(simp only [*,zjR,held,cT,cF]<;>rfl)|simp_all[Ty.cells,zjR,held]
def zYy:vP 349 zvH:=hF1 zfo zq zu zn (zo []) zPg
def zYt:vP 277 zvH:=hF1 zfo zq zu zn (zo []) zPg
def zM5 (N:Nat)(a:ah):OA:=
 (oN (zL a)<|some [aT .guest<|zb3 a])
def zFJ (a:ah)(c:zbE big [aT .guest a])(b:zL a=true):∃N,zM5 N a=some [aT .guest<|zb3 a]:=by have d:=zF.1 b;refine⟨0,?_⟩;unfold zM5 oN;refine mu ?_;first|rfl|(simp only [*,zb3,cT,cF]<;>rfl)|simp_all[Ty.cells,zb3]
def zRQ:vP 289 zjg:=hF1 zfo zq zu zn (zo []) zFJ
def zRq:vP 253 zjg:=hF1 zfo zq zu zn (zo []) zFJ
def loaded (g:ah)(v:Int):ah:=zcq (saw {g with A:=v} v)
@[simp] def zP4 {g:ah}(v:Int)(h:SmG g):SmG (loaded g v):=zl5 (zTo (g:={g with A:=v}) v h)
@[simp] abbrev zkH (g:ah)(v:Int):Bool:=pc (SmG g)
@[simp] abbrev zjW (g:ah)(v:Int):ah:=loaded g v
def zrE:Run:=rF2 (dT .guest) dI λb c=>(zkH b c,[aT .guest<|zjW b c])
def zMS (N:Nat)(c:ah)(a:Int):OA:=
 let b:=({c with A:=a}:ah); (oN (zv8 b a)<|oN (zL<|zr2 b a)<|some [aT .guest<|zb3<|zr2 b a])
def zFF (b:ah)(a:Int)(e:zbE big [aT .guest b,aI a])(d:zkH b a=true):∃N,zMS N b a=some [aT .guest<|zjW b a]:=by
 have c:=zF.1 d;have h:_/\_/\_/\_:=c;have f:SmG (saw {b with A:=a} a):=zTo (g:={b with A:=a}) a c;refine⟨0,?_⟩;unfold zMS oN;conv=>zeta
 refine mu (mu ?_);first|rfl|(simp only [*,zjW,loaded,cT,cF]<;>rfl)|simp_all[Ty.cells,zjW,loaded]
def zRE:vP 290 zrE:=hF2 zfo zq zu zn (zo []) zFF
def zRc:vP 254 zrE:=hF2 zfo zq zu zn (zo []) zFF
def zs4 (g:ah)(w:Int):ah:=bif ieq w 5 then stopped g (zTe (zfj g.aw g.Pc).X) else stopped g ⟨4,0,false,0⟩
@[simp] def zbfg {g:ah}(w:Int)(h:SmG g):SmG (zs4 g w):=by unfold zs4;cases ieq w 5<;>exact h
@[simp] abbrev zpd (g:ah)(w:Int):Bool:=pc (SmG g)
@[simp] abbrev zlY (g:ah)(w:Int):ah:=zs4 g w
def zDc:Run:=rF2 (dT .guest) dI λb c=>(zpd b c,[aT .guest<|zlY b c])
def zIr (N:Nat)(a:ah)(c:Int):OA:=
 let b:=(zd3 a.aw a.Pc).X; (cond (ieq c 5) (oN (zdU a.aw a.Pc)<|oN (zfv b)<|oN (zci a<|zgD b)<|some [aT .guest<|zcu a<|zgD b])<|oN (zci a (⟨4,0,false,0⟩:aD))<|some [aT .guest<|zcu a (⟨4,0,false,0⟩:aD)])
def zWa (a:ah)(b:Int)(c:zpd a b=true):∃N,zIr N a b=some [aT .guest<|zlY a b]:=by
 have d:=zF.1 c;refine⟨0,?_⟩;unfold zIr oN;conv=>zeta
 refine br (λ_=>i0 rfl (i0 rfl (mu ?_))) (λ_=>mu ?_);all_goals first|rfl|(simp only [*,zlY,zs4,cT,cF]<;>rfl)|simp_all[Ty.cells,zlY,zs4]
def zN6:vP 274 zDc:=kF2 zfo zq zu zn (zo []) zWa
def zey (g:ah):Bool:=ze2 g.aw&&(zl g.A 0 99&&(zl g.Pc 0 12&&(zek g.ar 4 8&&(zek g.ax 4 8&&(ztg g.Ctl&&(zhj g.aj&&(zwu g.Exit&&ile (ln g.aC) 40)))))))
@[simp] abbrev zjh (g:ah):Bool:=zey g
def zpK:Run:=rF1 (dT .guest) λb=>(zbx b,[aB<|zjh b])
def zIB (N:Nat)(a:ah):OA:=
 (oN (zvL a.aw)<|cond (ziN a.aw) (oN (zJ a.A 0 99)<|cond (zl a.A 0 99) (oN (zJ a.Pc 0 12)<|cond (zl a.Pc 0 12) (oN (zk1 a.ar 4 8)<|cond (zfx a.ar 4 8) (oN (zk1 a.ax 4 8)<|cond (zfx a.ax 4 8) (oN (zfD a.Ctl)<|cond (zoM a.Ctl) (oN (zch a.aj)<|cond (zeY a.aj) (oN (zvJ a.Exit)<|cond (znR a.Exit) (some [aB<|ile (ln a.aC) 40]) oF) oF) oF) oF) oF) oF) oF) oF)
def zCT (a:ah)(b:zbE big [aT .guest a])(c:zbx a=true):∃N,zIB N a=some [aB<|zjh a]:=by refine⟨0,?_⟩;unfold zIB oN;refine i0 rfl (br (λ_=>i0 rfl (br (λ_=>i0 rfl (br (λ_=>i0 rfl (br (λ_=>i0 rfl (br (λ_=>i0 rfl (br (λ_=>i0 rfl (br (λ_=>i0 rfl (br (λ_=>?_) λ_=>?_)) λ_=>?_)) λ_=>?_)) λ_=>?_)) λ_=>?_)) λ_=>?_)) λ_=>?_)) λ_=>?_);all_goals first|rfl|(simp only [*,zjh,zey,cT,cF]<;>rfl)|simp_all[Ty.cells,zjh,zey]
def zOa:vP 214 zpK:=hF1 zfo zq zu zn (zo []) zCT
def zNO:vP 209 zpK:=hF1 zfo zq zu zn (zo []) zCT
@[simp] abbrev zdi (l:List ah):Bool:=pc (zm7 l)
@[simp] abbrev zdX (l:List ah):List ah:=l
def zw3:Run:=rF1 (dS .guest) λb=>(zdi b,[aS .guest<|zdX b])
def zzC (N:Nat)(c:lG):OA:=
 (q0 (σ:=(Int×Int×lG×lG×Unit)) N (λd a=>let b:=ix a.2.2.2.1 a.2.1 zA; (cond (ilt a.2.1 a.1) (oN (inb a.2.1<|ln a.2.2.2.1)<|oN (zL b)<|oN (few<|ln<|ap a.2.2.1 [zc6 b])<|d (a.1,zM .i64 a.2.1 1,ap a.2.2.1 [zc6 b],a.2.2.2.1,()))<|some [aS .guest a.2.2.1])) (ln c,0,[],c,()))
def zMg:=zo [(343,0,{n:=20,tm:=[(3,.sl 0 []),(7,.sl 1 []),(8,ti),(9,ti)],lo:=[],ro:=[(0,.guest,true),(1,.guest,false)]})]
def zLF (a:List ah)(g:zdi a=true):∃N,zzC N a=some [aS .guest<|zdX a]:=by
 have f:=zF.1 g;have e:=zcC f.1;refine zcf λN d=>?_;unfold zzC oN;conv=>zeta
 refine(zbp a (λi (t:lG)=>(ln a,(i:Int),t,a,())) _ (λ_ x b j=>bif zL x then (cond (few<|ln<|ap b [zc6 x]) (j<|ap b [zc6 x]) none) else none) (λ(t:lG)=>some [.one<|.s .guest t]) (λi c t rec=>?_) (λt rec=>?_) _ ([])<|d e.1).trans ?_;{simp only [zbw c,zbc c,zbn c,zbj c e.1,cT]};{simp only [zbq,cF]};exact zjD zL zc6 _ a 0 [] (λx h=>⟨by exact zba (f.2 x h),rfl⟩) (by simpa using e.2)
def zFl:vP 343 zw3:=kF1 zfo zq zu zn zMg zLF
def gAt (b:ai)(i:Int):ah:=bif j0 i (ln b.ac) then ix b.ac i zA else Ty.dflt .guest
@[simp] def zfz {b:ai}(i:Int)(h:SmB b):SmG (gAt b i):=by unfold gAt;cases a:j0 i (ln b.ac);{exact zbfN};{exact zP3 h.2.1 a _}
@[simp] abbrev zdC (b:ai)(i:Int):Bool:=pc (SmB b)
@[simp] abbrev zc9 (b:ai)(i:Int):ah:=gAt b i
@[simp] abbrev zda (b:ai)(i:Int):Bool:=j0 i (ln b.ac)
def zpJ:Run:=rF2 (dT .bare) dI λb c=>(zdC b c,[aT .guest<|zc9 b c,aB<|zda b c])
def zIA (N:Nat)(a:ai)(b:Int):OA:=
 let c:=ix a.ac b zA; (oN (zJ b 0<|wsub .i64 (ln a.ac) 1)<|cond (nB<|zl b 0<|wsub .i64 (ln a.ac) 1) (some [aT .guest (⟨[],0,0,[],[],⟨0,0,false⟩,0,⟨0,0,false,0⟩,false,[]⟩:ah),aB false])<|oN (inb b<|ln a.ac)<|oN (zea c)<|some [aT .guest<|zdI c,aB true])
def zWi (a:ai)(b:Int)(d:zdC a b=true):∃N,zIA N a b=some [aT .guest<|zc9 a b,aB<|zda a b]:=by
 have c:=zF.1 d;have e:a.ac.length<=1048576:=c.2.1.1;have f:j0 b (ln a.ac)=true->SmG (ix a.ac b zA):=λh=>zP3 c.2.1 h _;refine⟨0,?_⟩;unfold zIA oN nB;conv=>zeta
 refine i0 rfl (brN (λ_=>?_) λ_=>mu (mu ?_));all_goals first|rfl|(simp only [*,zc9,zda,gAt,Ty.dflt,cT,cF]<;>rfl)|simp_all[Ty.cells,zc9,zda,gAt,Ty.dflt]
def zN9:vP 279 zpJ:=kF2 zfo zq zu zn (zo []) zWi
def zIa (N:Nat)(a:ai)(b:Int):OA:=
 let c:=ix a.ac b zA; (oN (zbi b<|ln a.ac)<|cond (nB<|zbX b<|ln a.ac) (some [aT .guest (⟨[],0,0,[],[],⟨0,0,false⟩,0,⟨0,0,false,0⟩,false,[]⟩:ah),aB false])<|oN (inb b<|ln a.ac)<|oN (zL c)<|some [aT .guest<|zc6 c,aB true])
def zVS (a:ai)(b:Int)(d:zdC a b=true):∃N,zIa N a b=some [aT .guest<|zc9 a b,aB<|zda a b]:=by
 have c:=zF.1 d;have e:a.ac.length<=1048576:=c.2.1.1;have f:j0 b (ln a.ac)=true->SmG (ix a.ac b zA):=λh=>zP3 c.2.1 h _;refine⟨0,?_⟩;unfold zIa oN nB;conv=>zeta
 refine i0 rfl (brN (λ_=>?_) λ_=>mu (mu ?_));all_goals first|rfl|(simp only [*,zc9,zda,gAt,Ty.dflt,cT,cF]<;>rfl)|simp_all[Ty.cells,zc9,zda,gAt,Ty.dflt]
def zNN:vP 264 zpJ:=kF2 zfo zq zu zn (zo []) zVS
def zbbH:zbb:=[(260,zli),(268,zli),(259,zrP),(244,zrP),(349,zvH),(277,zvH),(289,zjg),(253,zjg),(290,zrE),(254,zrE),(274,zDc),(214,zpK),(209,zpK),(343,zw3),(279,zpJ),(264,zpJ)]++zbbG
def zkS:zN zbbH:=zh zDL (zh zDy<|zh zcM<|zh zRt<|zh zYy<|zh zYt<|zh zRQ<|zh zRq<|zh zRE<|zh zRc<|zh zN6<|zh zOa<|zh zNO<|zh zFl<|zh zN9<|zh zNN zfo)
def plainly (g:ah):ah:=bif ine (zU g) 2 then g else (cond (zl g.A 0 99) (cond (zl (zfj g.aw g.Pc).X 0 99) (cond (ieq (zfj g.aw g.Pc).Op 1) {zcq g with A:=(zfj g.aw g.Pc).X}<|cond (ieq (zfj g.aw g.Pc).Op 2) {zcq g with A:=zs6 (zM .i64 g.A (zfj g.aw g.Pc).X) 100}<|cond (ieq (zfj g.aw g.Pc).Op 8) (cond (ieq g.A 0) {zcq g with Pc:=(zfj g.aw g.Pc).X}<|zcq g)<|zcq g)<|zcq g)<|zcq g)
@[simp] def zbfF (g:ah):(zcq g).aw=g.aw:=by unfold zcq;cases ige g.Pc 12<;>rfl
@[simp] def zbgd (g:ah):(zcq g).A=g.A:=by unfold zcq;cases ige g.Pc 12<;>rfl
@[simp] def zbd7 (g:ah):(zcq g).ar=g.ar:=by unfold zcq;cases ige g.Pc 12<;>rfl
@[simp] def zbfE (g:ah):(zcq g).ax=g.ax:=by unfold zcq;cases ige g.Pc 12<;>rfl
@[simp] def zbfU (g:ah):(zcq g).Ctl=g.Ctl:=by unfold zcq;cases ige g.Pc 12<;>rfl
@[simp] def zbd6 (g:ah):(zcq g).aj=g.aj:=by unfold zcq;cases ige g.Pc 12<;>rfl
@[simp] def zbfD (g:ah):(zcq g).Exit=g.Exit:=by unfold zcq;cases ige g.Pc 12<;>rfl
@[simp] def zbeY (g:ah):(zcq g).aF=g.aF:=by unfold zcq;cases ige g.Pc 12<;>rfl
@[simp] def zbfG (g:ah):(zcq g).aC=g.aC:=by unfold zcq;cases ige g.Pc 12<;>rfl
@[simp] def zbfV (g:ah)(x:Int):(zcq {g with A:=x}).Pc=(zcq g).Pc:=by unfold zcq;cases ige g.Pc 12<;>rfl
@[simp] def zJP {g:ah}(h:SmG g):SmG (plainly g):=by have a:=zl5 h;unfold plainly;cases ine (zU g) 2;{cases zl g.A 0 99;{exact a};{cases zl (zfj g.aw g.Pc).X 0 99;{exact a};{cases ieq (zfj g.aw g.Pc).Op 1;{cases ieq (zfj g.aw g.Pc).Op 2;{cases ieq (zfj g.aw g.Pc).Op 8;{exact a};{cases ieq g.A 0<;>exact a}};{exact a}};{exact a}}}};{exact h}
@[simp] abbrev zh9 (g:ah):ah:=plainly g
def zpH:Run:=rF1 (dT .guest) λb=>(zL b,[aT .guest<|zh9 b])
def zIi (N:Nat)(a:ah):OA:=
 let c:=aT .guest<|zb3 a;let b:=zd3 a.aw a.Pc; (oN (zbx a)<|cond (ine (zhz a) 2) (oN (zL a)<|some [aT .guest<|zc6 a])<|oN (zdU a.aw a.Pc)<|oN (zL a)<|oN (zJ a.A 0 99)<|cond (nB<|zl a.A 0 99) (some [c])<|oN (zJ b.X 0 99)<|cond (nB<|zl b.X 0 99) (some [c])<|cond (ieq b.Op 1) (some [aT .guest ({ (zb3 a) with A:=b.X}:ah)])<|cond (ieq b.Op 2) (oN (ine 100 0)<|some [aT .guest ({ (zb3 a) with A:=(zs6 (zM .i64 a.A b.X) 100)}:ah)])<|cond (ieq b.Op 8) (cond (ieq a.A 0) (some [aT .guest ({ (zb3 a) with Pc:=b.X}:ah)])<|some [c])<|some [c])
def zV1 (a:ah)(b:zL a=true):∃N,zIi N a=some [aT .guest<|zh9 a]:=by
 have c:=zF.1 b;refine⟨0,?_⟩;unfold zIi oN nB;conv=>zeta
 refine i0 rfl (br (λ_=>mu ?_) λ_=>i0 rfl (mu (i0 rfl (brN (λ_=>?_) λ_=>i0 rfl (brN (λ_=>?_) λ_=>br (λ_=>?_) λ_=>br (λ_=>i0 rfl ?_) λ_=>br (λ_=>br (λ_=>?_) λ_=>?_) λ_=>?_)))));all_goals first|rfl|(simp only [*,zh9,plainly,cT,cF]<;>rfl)|simp_all[Ty.cells,zh9,plainly]
def zNX:vP 269 zpH:=kF1 zkS zq zu zn (zo []) zV1
def zIN (N:Nat)(a:ah):OA:=
 let i:=ieq a.A 0;let c:=zL a;let b:=aT .guest<|zb3 a;let d:=zd3 a.aw a.Pc;let j:=({a with A:=d.X}:ah);let h:=ieq d.Op 8;let e:=zl d.X 0 99;let g:=aT .guest ({ (zdI a) with Pc:=d.X}:ah);let f:=({a with A:=(zs6 (zM .i64 a.A d.X) 100)}:ah); (oN (zbx a)<|cond (ine (zhz a) 2) (oN (zea a)<|some [aT .guest<|zdI a])<|oN (zdU a.aw a.Pc)<|oN (zJ a.A 0 99)<|cond (zl a.A 0 99) (oN (zJ d.X 0 99)<|cond e (cond (ieq d.Op 1) (oN (zL j)<|some [aT .guest<|zb3 j])<|cond e (cond (ieq d.Op 2) (oN (ine 100 0)<|oN (zL f)<|some [aT .guest<|zb3 f])<|cond e (cond h (cond i (oN (zea a)<|some [g])<|oN c<|some [b])<|oN c<|some [b])<|oN c<|some [b])<|cond e (cond h (cond i (oN (zea a)<|some [g])<|oN c<|some [b])<|oN c<|some [b])<|oN c<|some [b])<|cond e (cond (ieq d.Op 2) (oN (ine 100 0)<|oN (zL f)<|some [aT .guest<|zb3 f])<|cond e (cond h (cond i (oN (zea a)<|some [g])<|oN c<|some [b])<|oN c<|some [b])<|oN c<|some [b])<|cond e (cond h (cond i (oN (zea a)<|some [g])<|oN c<|some [b])<|oN c<|some [b])<|oN c<|some [b])<|oN c<|some [b])
def zWs (a:ah)(b:zL a=true):∃N,zIN N a=some [aT .guest<|zh9 a]:=by
 have c:=zF.1 b;have d:_/\_/\_/\_:=c;refine⟨0,?_⟩;unfold zIN oN;conv=>zeta
 refine i0 rfl (br (λ_=>mu ?_) λ_=>i0 rfl (i0 rfl (br (λ_=>i0 rfl (br (λ_=>br (λ_=>mu ?_) λ_=>br (λ_=>br (λ_=>i0 rfl (mu ?_)) λ_=>br (λ_=>br (λ_=>br (λ_=>mu ?_) λ_=>mu ?_) λ_=>mu ?_) λ_=>mu ?_) λ_=>br (λ_=>br (λ_=>br (λ_=>mu ?_) λ_=>mu ?_) λ_=>mu ?_) λ_=>mu ?_) λ_=>br (λ_=>br (λ_=>i0 rfl (mu ?_)) λ_=>br (λ_=>br (λ_=>br (λ_=>mu ?_) λ_=>mu ?_) λ_=>mu ?_) λ_=>mu ?_) λ_=>br (λ_=>br (λ_=>br (λ_=>mu ?_) λ_=>mu ?_) λ_=>mu ?_) λ_=>mu ?_)) λ_=>mu ?_)));all_goals first|rfl|(simp only [*,zh9,plainly,cT,cF]<;>rfl)|simp_all[Ty.cells,zh9,plainly]
def zOk:vP 261 zpH:=kF1 zkS zq zu zn (zo []) zWs
def address (g:ah):Int:=bif ine (zU g) 3 then (cond (ine (zU g) 4) (-1)<|(zfj g.aw g.Pc).X) else (zfj g.aw g.Pc).X
@[simp] abbrev zg9 (g:ah):Int:=address g
def zpI:Run:=rF1 (dT .guest) λb=>(zbx b,[aI<|zg9 b])
def zIt (N:Nat)(a:ah):OA:=
 (oN (zbx a)<|cond (ine (zhz a) 3) (cond (ine (zhz a) 4) (some [aI<|-1])<|oN (zdU a.aw a.Pc)<|some [aI (zd3 a.aw a.Pc).X])<|oN (zdU a.aw a.Pc)<|some [aI (zd3 a.aw a.Pc).X])
def zCS (a:ah)(b:zbE big [aT .guest a])(c:zbx a=true):∃N,zIt N a=some [aI<|zg9 a]:=by refine⟨0,?_⟩;unfold zIt oN;refine i0 rfl (br (λ_=>br (λ_=>?_) λ_=>i0 rfl ?_) λ_=>i0 rfl ?_);all_goals first|rfl|(simp only [*,zg9,address,cT,cF]<;>rfl)|simp_all[Ty.cells,zg9,address]
def zN8:vP 281 zpI:=hF1 zkS zq zu zn (zo []) zCS
def zNL:vP 245 zpI:=hF1 zkS zq zu zn (zo []) zCS
def zh4 (g:ah)(t w:Int):ah:=bif ieq w 6 then stopped g (zJ9 (zfj g.aw g.Pc).X) else (cond (ieq w 5&&zeT t 1) (stopped g<|zTe (zfj g.aw g.Pc).X)<|cond (ieq w 7&&zeT t 2) (stopped g ⟨4,0,false,0⟩)<|cond (ieq w 7) (held g)<|zcq g)
def zj7 (t w:Int):Bool:=bif ieq w 6 then false else (cond (ieq w 5&&zeT t 1) false<|cond (ieq w 7&&zeT t 2) false true)
@[simp] def zGb {g:ah}(t w:Int)(h:SmG g):SmG (zh4 g t w):=by unfold zh4;cases ieq w 6;{cases (ieq w 5&&zeT t 1);{cases (ieq w 7&&zeT t 2);{cases ieq w 7;{exact zl5 h};{exact z0r h}};{exact h}};{exact h}};{exact h}
@[simp] abbrev zew (g:ah)(t w:Int):Bool:=pc (SmG g)
@[simp] abbrev zcH (g:ah)(t w:Int):ah:=zh4 g t w
@[simp] abbrev zdV (g:ah)(t w:Int):Bool:=zj7 t w
def zDj:Run:=rF3 (dT .guest) dI dI λb c d=>(zew b c d,[aT .guest<|zcH b c d,aB<|zdV b c d])
def zIX (N:Nat)(a:ah)(c b:Int):OA:=
 let g:=aT .guest<|zb3 a;let f:=aT .guest<|zjR a;let e:=(⟨4,0,false,0⟩:aD);let d:=(zd3 a.aw a.Pc).X; (oN (zdU a.aw a.Pc)<|cond (ieq b 6) (oN (zfv d)<|oN (zci a<|zfk d)<|some [aT .guest<|zcu a<|zfk d,aB false])<|cond (ieq b 5) (oN (zgK c 1)<|cond (zf5 c 1) (oN (zfv d)<|oN (zci a<|zgD d)<|some [aT .guest<|zcu a<|zgD d,aB false])<|cond (ieq b 7) (oN (zgK c 2)<|cond (zf5 c 2) (oN (zci a e)<|some [aT .guest<|zcu a e,aB false])<|cond (ieq b 7) (oN (zL a)<|some [f,aB true])<|oN (zL a)<|some [g,aB true])<|cond (ieq b 7) (oN (zL a)<|some [f,aB true])<|oN (zL a)<|some [g,aB true])<|cond (ieq b 7) (oN (zgK c 2)<|cond (zf5 c 2) (oN (zci a e)<|some [aT .guest<|zcu a e,aB false])<|cond (ieq b 7) (oN (zL a)<|some [f,aB true])<|oN (zL a)<|some [g,aB true])<|cond (ieq b 7) (oN (zL a)<|some [f,aB true])<|oN (zL a)<|some [g,aB true])
def zWD (a:ah)(b c:Int)(d:zew a b c=true):∃N,zIX N a b c=some [aT .guest<|zcH a b c,aB<|zdV a b c]:=by
 have e:=zF.1 d;refine⟨0,?_⟩;unfold zIX oN;conv=>zeta
 refine i0 rfl (br (λ_=>i0 rfl (mu ?_)) λ_=>br (λ_=>i0 rfl (br (λ_=>i0 rfl (mu ?_)) λ_=>br (λ_=>i0 rfl (br (λ_=>mu ?_) λ_=>br (λ_=>mu ?_) λ_=>mu ?_)) λ_=>br (λ_=>mu ?_) λ_=>mu ?_)) λ_=>br (λ_=>i0 rfl (br (λ_=>mu ?_) λ_=>br (λ_=>mu ?_) λ_=>mu ?_)) λ_=>br (λ_=>mu ?_) λ_=>mu ?_);all_goals first|rfl|(simp only [*,zcH,zdV,zh4,zj7,cT,cF]<;>rfl)|simp_all[Ty.cells,zcH,zdV,zh4,zj7]
def zOD:vP 292 zDj:=kF3 zkS zq zu zn (zo []) zWD
def zcp (b:ai):Bool:=bif b.ac.all zey then (zlf b.ag 8&&(zl (ln b.ac) 1 2&&(ile (ln b.Outs) 40&&zhj b.aj))) else false
@[simp] abbrev zcY (b:ai):Bool:=true
@[simp] abbrev zbR (b:ai):Bool:=zcp b
def zry:Run:=rF1 (dT .bare) λb=>(zcY b,[aB<|zbR b])
def zMK (N:Nat)(c:ai):OA:=
 (q0 (σ:=(Int×Int×lM×lG×LI×Unit)) N (λd a=>let b:=a.2.2.2.1; (cond (ilt a.1<|ln b) (oN (inb a.1<|ln b)<|oN (zbx<|ix b a.1 zA)<|cond (nB<|zjh<|ix b a.1 zA) oF<|d (zM .i64 a.1 1,a.2.1,a.2.2.1,b,a.2.2.2.2.1,()))<|oN (zkI a.2.2.1 8)<|cond (zgB a.2.2.1 8) (oN (zJ (ln b) 1 2)<|cond (zl (ln b) 1 2) (cond (ile (ln a.2.2.2.2.1) 40) (oN (zch a.2.1)<|some [aB<|zeY a.2.1]) oF) oF) oF)) (0,c.aj,c.ag,c.ac,c.Outs,()))
def z0M:=zo [(280,0,{n:=38,tm:=[(1,.lp 0 0),(3,ti)],lo:=[(0,[.sl 0 [],.sl 1 [],.sl 2 [],ti])],ro:=[(0,.sl .int,false),(1,.guest,false),(2,.int,false)]})]
def zY2 (a:ai)(k:zbE big [aT .bare a])(m:zcY a=true):∃N,zMK N a=some [aB<|zbR a]:=by
 have j:(_:List _).length<=big:=((zd0 k).1 (.s .guest a.ac) (by simp[AV.cvs,Ty.cells])).len;refine zcf λN h=>?_;unfold zMK oN nB;conv=>zeta
 refine(zbp a.ac (λi (t:Unit)=>((i:Int),a.aj,a.ag,a.ac,a.Outs,())) _ (λ_ x (_:Unit) l=>bif (zey) x then l () else oF) (λ(t:Unit)=>cond (zkI a.ag 8) (cond (zgB a.ag 8) (cond (zJ (ln a.ac) 1 2) (cond (zl (ln a.ac) 1 2) (cond (ile (ln a.Outs) 40) (cond (zch a.aj) (some [.one<|.b<|zeY a.aj]) none) oF) oF) none) oF) none) (λi f t rec=>?_) (λt rec=>?_) _ ()<|h j).trans ?_;{simp only [zbw f,zbc f,zbn f,zbj f j,cT];exact zkQ rfl};{simp only [zbq,cF]};rw[ziu<|zey];refine br (λc=>?_) (λc=>?_);{refine i0 rfl ?_;refine br (λd=>?_) (λd=>?_);{refine i0 rfl ?_;refine br (λe=>?_) (λe=>?_);{refine br (λg=>?_) (λg=>?_);{refine i0 rfl ?_;first|rfl|(simp only [c,d,e,g,zbR,zcp,cT,cF]<;>rfl)|(simp_all [Ty.cells,zbR,zcp];done)};{first|rfl|(simp only [c,d,e,g,zbR,zcp,cT,cF]<;>rfl)|(simp_all [Ty.cells,zbR,zcp];done)}};{first|rfl|(simp only [c,d,e,zbR,zcp,cT,cF]<;>rfl)|(simp_all [Ty.cells,zbR,zcp];done)}};{first|rfl|(simp only [c,d,zbR,zcp,cT,cF]<;>rfl)|(simp_all [Ty.cells,zbR,zcp];done)}};{first|rfl|(simp only [c,zbR,zcp,cT,cF]<;>rfl)|(simp_all [Ty.cells,zbR,zcp];done)}
def zRx:vP 280 zry:=hF1 zkS zq zu zn z0M zY2
def zMp (N:Nat)(b:ai):OA:=
 (q0 (σ:=(Int×Int×Int×lG×lM×LI×Unit)) N (λe a=>let b:=a.2.2.2.2;let c:=a.2.2.2.1;let d:=ix c a.2.1 zA; (cond (ilt a.2.1 a.1) (oN (inb a.2.1<|ln c)<|oN (zbx d)<|cond (nB<|zjh d) oF<|e (a.1,zM .i64 a.2.1 1,a.2.2.1,c,b.1,b.2.1,()))<|oN (zkI b.1 8)<|cond (zgB b.1 8) (oN (zJ (ln c) 1 2)<|cond (zl (ln c) 1 2) (cond (ile (ln b.2.1) 40) (oN (zch a.2.2.1)<|some [aB<|zeY a.2.2.1]) oF) oF) oF)) (ln b.ac,0,b.aj,b.ac,b.ag,b.Outs,()))
def z0E:=zo [(265,0,{n:=36,tm:=[(1,.lp 0 0),(6,.sl 0 []),(7,ti),(8,ti)],lo:=[(0,[.sl 1 [],.sl 0 [],.sl 2 [],ti])],ro:=[(0,.guest,false),(1,.sl .int,false),(2,.int,false)]})]
def zYH (a:ai)(k:zbE big [aT .bare a])(m:zcY a=true):∃N,zMp N a=some [aB<|zbR a]:=by
 have j:(_:List _).length<=big:=((zd0 k).1 (.s .guest a.ac) (by simp[AV.cvs,Ty.cells])).len;refine zcf λN h=>?_;unfold zMp oN nB;conv=>zeta
 refine(zbp a.ac (λi (t:Unit)=>(ln a.ac,(i:Int),a.aj,a.ac,a.ag,a.Outs,())) _ (λ_ x (_:Unit) l=>bif (zey) x then l () else oF) (λ(t:Unit)=>cond (zkI a.ag 8) (cond (zgB a.ag 8) (cond (zJ (ln a.ac) 1 2) (cond (zl (ln a.ac) 1 2) (cond (ile (ln a.Outs) 40) (cond (zch a.aj) (some [.one<|.b<|zeY a.aj]) none) oF) oF) none) oF) none) (λi f t rec=>?_) (λt rec=>?_) _ ()<|h j).trans ?_;{simp only [zbw f,zbc f,zbn f,zbj f j,cT];exact zkQ rfl};{simp only [zbq,cF]};rw[ziu<|zey];refine br (λc=>?_) (λc=>?_);{refine i0 rfl ?_;refine br (λd=>?_) (λd=>?_);{refine i0 rfl ?_;refine br (λe=>?_) (λe=>?_);{refine br (λg=>?_) (λg=>?_);{refine i0 rfl ?_;first|rfl|(simp only [c,d,e,g,zbR,zcp,cT,cF]<;>rfl)|(simp_all [Ty.cells,zbR,zcp];done)};{first|rfl|(simp only [c,d,e,g,zbR,zcp,cT,cF]<;>rfl)|(simp_all [Ty.cells,zbR,zcp];done)}};{first|rfl|(simp only [c,d,e,zbR,zcp,cT,cF]<;>rfl)|(simp_all [Ty.cells,zbR,zcp];done)}};{first|rfl|(simp only [c,d,zbR,zcp,cT,cF]<;>rfl)|(simp_all [Ty.cells,zbR,zcp];done)}};{first|rfl|(simp only [c,zbR,zcp,cT,cF]<;>rfl)|(simp_all [Ty.cells,zbR,zcp];done)}
def zQ3:vP 265 zry:=hF1 zkS zq zu zn z0E zYH
@[simp] abbrev zW (b:ai):Bool:=pc (SmB b)
@[simp] abbrev zO (b:ai):ai:=b
def zow:Run:=rF1 (dT .bare) λb=>(zW b,[aT .bare<|zO b])
def zD7 (N:Nat)(a:ai):OA:=
 (oN (zhH a.ag)<|oN (zdi a.ac)<|oN (zeL a.Outs)<|some [aT .bare (⟨zeE a.ag,zdX a.ac,zeJ a.Outs,a.aj⟩:ai)])
def zSy (a:ai)(b:zW a=true):∃N,zD7 N a=some [aT .bare<|zO a]:=by have c:=zF.1 b;have d:_/\_/\_:=c;refine⟨0,?_⟩;unfold zD7 oN;refine mu (mu<|mu ?_);first|rfl|(simp only [*,zO,cT,cF]<;>rfl)|simp_all[Ty.cells,zO]
def zKR:vP 156 zow:=kF1 zkS zq zu zn (zo []) zSy
def zIW (N:Nat)(a:ai):OA:=
 (oN (zhX a.ag)<|oN (zhe a.ac)<|oN (few<|ln<|ap [] a.Outs)<|some [aT .bare (⟨zf6 a.ag,zh0 a.ac,ap [] a.Outs,a.aj⟩:ai)])
def zWC (a:ai)(b:zW a=true):∃N,zIW N a=some [aT .bare<|zO a]:=by have c:=zF.1 b;have d:_/\_/\_:=c;refine⟨0,?_⟩;unfold zIW oN;refine mu (mu<|mu ?_);first|rfl|(simp only [*,zO,cT,cF]<;>rfl)|simp_all[Ty.cells,zO]
def zOC:vP 278 zow:=kF1 zkS zq zu zn (zo []) zWC
def zbbI:zbb:=[(261,zpH),(269,zpH),(281,zpI),(245,zpI),(292,zDj),(280,zry),(265,zry),(156,zow),(278,zow)]++zbbH
def zBl:zN zbbI:=zh zOk (zh zNX<|zh zN8<|zh zNL<|zh zOD<|zh zRx<|zh zQ3<|zh zKR<|zh zOC zkS)
def zf2 (b:ai)(i:Int)(x:ah):ai:={b with ac:=up b.ac i x}
def zes (b:ai)(i:Int)(x:ah):ai:=bif j0 i (ln b.ac) then zf2 b i x else b
def znM (b:ai)(n:Int):ai:=bif ilt (ln b.Outs) 40 then {b with Outs:=ap b.Outs [n]} else b
@[simp] def zqr {b:ai}{i:Int}{x:ah}(h:SmB b)(a:SmG x):SmB (zf2 b i x):=⟨h.1,zGV h.2.1 a,h.2.2⟩
@[simp] def zP1 {b:ai}{n:Int}(h:SmB b):SmB (znM b n):=by unfold znM;cases a:ilt (ln b.Outs) 40;{exact h};{have:=qD a;refine⟨h.1,h.2.1,?_⟩;simp[ln] at *;omega}
@[simp] def zbf9 (b:ai)(n:Int):(znM b n).ac=b.ac:=by unfold znM;cases ilt (ln b.Outs) 40<;>rfl
@[simp] def zqu {m:List LI}{p c v:Int}(h:SmM m):SmM (zf3 m p c v):=by unfold zf3;cases a:zlv m p c;{exact h};{cases b:zl v 0 99;{exact h};{exact zP6 h (by simpa using zbe8 h ((zBL m p c).1 a).1 [])}}
@[simp] abbrev zbK (b:ai)(i:Int)(x:ah):Bool:=pc (SmB b/\SmG x)
@[simp] abbrev zcE (b:ai)(i:Int)(x:ah):ai:=zes b i x
def zyl:Run:=rF3 (dT .bare) dI (dT .guest) λb c d=>(zbK b c d,[aT .bare<|zcE b c d])
def zCq (N:Nat)(a:ai)(b:Int)(c:ah):OA:=
 (oN (zW a)<|oN (zbi b<|ln a.ac)<|cond (zbX b<|ln a.ac) (oN (zL c)<|oN (inb b<|ln (zO a).ac)<|p0 (up (zO a).ac b<|zc6 c) λd=>some [aT .bare ({ (zO a) with ac:=d}:ai)])<|some [aT .bare<|zO a])
def zOY (a:ai)(b:Int)(c:ah)(d:zbK a b c=true):∃N,zCq N a b c=some [aT .bare<|zcE a b c]:=by have e:=zF.1 d;refine⟨0,?_⟩;unfold zCq oN;refine mu (i0 rfl (br (λ_=>mu (mu<|shr ?_)) λ_=>?_));all_goals first|rfl|(simp only [*,zcE,zes,zf2,cT,cF]<;>rfl)|simp_all[Ty.cells,zcE,zes,zf2]
def zG7:vP 267 zyl:=kF3 zBl zq zu zn (zo []) zOY
@[simp] abbrev zdm (b:ai)(n:Int):Bool:=pc (SmB b)
@[simp] abbrev zk0 (b:ai)(n:Int):ai:=znM b n
def zrL:Run:=rF2 (dT .bare) dI λb c=>(zdm b c,[aT .bare<|zk0 b c])
def zM1 (N:Nat)(a:ai)(b:Int):OA:=
 (oN (zW a)<|cond (ilt (ln (zO a).Outs) 40) (oN (few<|ln<|ap (zO a).Outs [b])<|some [aT .bare ({ (zO a) with Outs:=(ap (zO a).Outs [b])}:ai)])<|some [aT .bare<|zO a])
def zZf (a:ai)(b:Int)(c:zdm a b=true):∃N,zM1 N a b=some [aT .bare<|zk0 a b]:=by have d:=zF.1 c;have e:a.Outs.length<=1048576:=d.2.2;refine⟨0,?_⟩;unfold zM1 oN;refine mu (br (λ_=>mu ?_) λ_=>?_);all_goals first|rfl|(simp only [*,zk0,znM,cT,cF]<;>rfl)|simp_all[Ty.cells,zk0,znM]
def zRM:vP 293 zrL:=kF2 zBl zq zu zn (zo []) zZf
def zMC (N:Nat)(a:ai)(b:Int):OA:=
 (oN (zW a)<|cond (ilt (ln a.Outs) 40) (oN (few<|ln<|ap (zO a).Outs [b])<|some [aT .bare ({ (zO a) with Outs:=(ap (zO a).Outs [b])}:ai)])<|some [aT .bare<|zO a])
def zYU (a:ai)(b:Int)(c:zdm a b=true):∃N,zMC N a b=some [aT .bare<|zk0 a b]:=by have d:=zF.1 c;have e:a.Outs.length<=1048576:=d.2.2;refine⟨0,?_⟩;unfold zMC oN;refine mu (br (λ_=>mu ?_) λ_=>?_);all_goals first|rfl|(simp only [*,zk0,znM,cT,cF]<;>rfl)|simp_all[Ty.cells,zk0,znM]
def zRm:vP 275 zrL:=kF2 zBl zq zu zn (zo []) zYU
def z4j:zbb:=[(267,zyl),(293,zrL),(275,zrL)]++zbbI
def zl7:zN z4j:=zh zG7 (zh zRM<|zh zRm zBl)
def zqO (b:ai)(g:Int)(x:ah)(w:Bool):ai :=
 bif ziU x.ax (zco<|address x) (zhi w) then
  (bif w then zf2 {b with ag:=zf3 b.ag (zdM x.ax (zco<|address x)<|zhi w) (zhl<|address x) x.A} g (zcq x)
  else zf2 b g (loaded x<|cellAt b.ag (zdM x.ax (zco<|address x)<|zhi w)<|zhl<|address x))
 else zf2 b g (stopped x<|zE8 (zco<|address x) w)
def zqP (b:ai)(g:Int)(x:ah)(w:Int):ai :=
 zf2 (cond (cond (zj7 x.Ctl.aq w) (ieq w 5) false) (znM b (zfj x.aw x.Pc).X) b) g (zh4 x x.Ctl.aq w)
def stepped (b:ai)(g:Int)(x:ah)(w:Int):ai :=
 bif ieq w 1 then zf2 b g (interrupted x) else (cond (ieq w 2) (zf2 b g<|plainly x)<|cond (ieq w 3) (zqO b g x false)<|cond (ieq w 4) (zqO b g x true)<|zqP b g x w)
def tr1 (x:ah)(t w:Int):ieq w 6=true->zh4 x t w=stopped x (zJ9 (zfj x.aw x.Pc).X)/\zj7 t w=false:=by intro h;simp[zh4,zj7,h]
def tr2 (x:ah)(t w:Int):ieq w 6=false->(ieq w 5=false->ieq w 6=false->ieq w 7=true)->zeT t (zg3 w)=true->zh4 x t w=zs4 x w/\zj7 t w=false:=by intro b c h;unfold zh4 zj7 zs4 zg3 at *;cases a:ieq w 5<;>simp_all
def tr3 (x:ah)(t w:Int):ieq w 6=false->ieq w 7=false->zeT t (zg3 w)=false->ieq w 5=true->zh4 x t w=zcq x/\zj7 t w=true:=by intro b c h a;unfold zh4 zj7 zg3 at *;simp_all
def tr4 (x:ah)(t w:Int):ieq w 6=false->(ieq w 5=false->ieq w 6=false->ieq w 7=true)->zeT t (zg3 w)=false->ieq w 5=false->zh4 x t w=held x:=by intro b c h a;unfold zh4 zg3 at *;simp_all
def zmV (b:ai)(g:Int):Bool:=bif j0 g (ln b.ac) then (cond (zcp b) (!ieq (zU<|gAt b g) 0) false) else false
def zjE (b:ai)(g:Int):ai:=bif zmV b g then stepped b g (gAt b g) (zU<|gAt b g) else b
@[simp] def z3A {b:ai}{g:Int}{x:ah}{w:Bool}(h:SmB b)(a:SmG x):SmB (zqO b g x w):=by unfold zqO;cases ziU x.ax (zco<|address x) (zhi w);{exact zqr h a};{cases w;{exact zqr h (zP4 _ a)};{exact⟨zqu h.1,zGV h.2.1<|zl5 a,h.2.2⟩}}
@[simp] def zbdW {b:ai}{g:Int}{x:ah}{w:Int}(h:SmB b)(a:SmG x):SmB (zqP b g x w):=by unfold zqP;cases (cond (zj7 x.Ctl.aq w) (ieq w 5) false);{exact zqr h (zGb _ _ a)};{exact zqr (zP1 h) (zGb _ _ a)}
@[simp] def z2A {b:ai}{g:Int}{x:ah}{w:Int}(h:SmB b)(a:SmG x):SmB (stepped b g x w):=by unfold stepped;cases ieq w 1;{cases ieq w 2;{cases ieq w 3;{cases ieq w 4;{exact zbdW h a};{exact z3A h a}};{exact z3A h a}};{exact zqr h (zJP a)}};{exact zqr h (z3B a)}
@[simp] def zbaC {b:ai}{g:Int}(h:SmB b):SmB (zjE b g):=by unfold zjE;cases zmV b g;{exact h};{exact z2A h (zfz g h)}
def zXt (x:ah):ieq (zU x) 0=false->ieq (zU x) 1=false->ieq (zU x) 2=false->ieq (zU x) 3=false->ieq (zU x) 4=false->ieq (zU x) 5=false->ieq (zU x) 6=false->ieq (zU x) 7=true:=by unfold zU zPx;cases canRun x;{intro h;cases h};{cases zqw x;{simp only [cT,cF];generalize (zfj x.aw x.Pc).Op=o;cases ieq o 3<;>cases ieq o 4<;>cases ieq o 5<;>cases ieq o 6<;>cases ieq o 7<;>simp [ieq]};{intro _ h;cases h}}
def zGF {x:Int}{a b:Int}(h:ieq x a=true)(c:ieq a b=false):ieq x b=false:=by have:x=a:=(by simpa [ieq] using h);rw[this];exact c
@[simp] abbrev zbT (b:ai)(g:Int):Bool:=pc (SmB b)
@[simp] abbrev zfq (b:ai)(g:Int):ai:=zjE b g
@[simp] abbrev zgS (b:ai)(g:Int):Bool:=zmV b g
def zlz:Run:=rF2 (dT .bare) dI λb c=>(zbT b c,[aT .bare<|zfq b c,aB<|zgS b c])
def zDU (N:Nat)(b:ai)(c:Int):OA:=
 let g:=b.ag;let l:=aT .bare<|zO b;let a:=zc9 b c;let k:=a.Ctl.aq;let t:=aT .bare<|zcE b c<|zjR a;let d:=zhz a;let r:=aT .bare<|zcE b c<|zlY a d;let i:=zg9 a;let f:=zcg i;let e:=zbs i;let h:=ieq d 4;let w:=zd8 e h;let p:=aT .bare<|zcE b c<|zcu a w;let j:=(zd3 a.aw a.Pc).X;let u:=zbK (zk0 b j) c<|zb3 a;let n:=aT .bare<|zcE (zk0 b j) c<|zb3 a;let x:=zcu a<|zfk j;let m:=zeg a.ax e<|zcP h;let v:=zfr g m f;let q:=aT .bare<|zcE b c<|zjW a v;let y:=({b with ag:=(zdn g m f a.A)}:ai);let s:=aT .bare<|zcE y c<|zb3 a; (oN (zdC b c)<|oN (zbx a)<|oN (zcY b)<|cond (nB<|zbR b) (oN (zW b)<|some [l,aB false])<|cond (nB<|zda b c) (oN (zW b)<|some [l,aB false])<|cond (ieq d 0) (oN (zW b)<|some [l,aB false])<|oN (zbx a)<|oN (zdU a.aw a.Pc)<|cond (ieq d 1) (oN (zL a)<|oN (zbK b c<|ze3 a)<|some [aT .bare<|zcE b c<|ze3 a,aB true])<|cond (ieq d 2) (oN (zL a)<|oN (zbK b c<|zh9 a)<|some [aT .bare<|zcE b c<|zh9 a,aB true])<|cond (ieq d 3) (cond (ieq d 3) (oN (zbo i)<|oN (zi2 h)<|oN (ze0 a.ax e<|zcP h)<|cond (nB<|zdD a.ax e<|zcP h) (oN (zbo i)<|oN (zfE e h)<|oN (zci a w)<|oN (zbK b c<|zcu a w)<|some [p,aB true])<|cond h (oN (zbo i)<|oN (zde g m f a.A)<|oN (zL a)<|oN (zbK y c<|zb3 a)<|some [s,aB true])<|oN (zbo i)<|oN (zer g m f)<|oN (zkH a v)<|oN (zbK b c<|zjW a v)<|some [q,aB true])<|cond (ieq d 6) (oN (zfv j)<|oN (zci a<|zfk j)<|oN (zbK b c x)<|some [aT .bare<|zcE b c x,aB true])<|oN (zrh d)<|oN (zgK k<|zjJ d)<|cond (zf5 k<|zjJ d) (oN (zpd a d)<|oN (zbK b c<|zlY a d)<|some [r,aB true])<|cond (ieq d 5) (oN (zdm b j)<|oN (zL a)<|oN u<|some [n,aB true])<|oN (zL a)<|oN (zbK b c<|zjR a)<|some [t,aB true])<|cond h (oN (zbo i)<|oN (zi2 h)<|oN (ze0 a.ax e<|zcP h)<|cond (nB<|zdD a.ax e<|zcP h) (oN (zbo i)<|oN (zfE e h)<|oN (zci a w)<|oN (zbK b c<|zcu a w)<|some [p,aB true])<|cond h (oN (zbo i)<|oN (zde g m f a.A)<|oN (zL a)<|oN (zbK y c<|zb3 a)<|some [s,aB true])<|oN (zbo i)<|oN (zer g m f)<|oN (zkH a v)<|oN (zbK b c<|zjW a v)<|some [q,aB true])<|cond (ieq d 6) (oN (zfv j)<|oN (zci a<|zfk j)<|oN (zbK b c x)<|some [aT .bare<|zcE b c x,aB true])<|oN (zrh d)<|oN (zgK k<|zjJ d)<|cond (zf5 k<|zjJ d) (oN (zpd a d)<|oN (zbK b c<|zlY a d)<|some [r,aB true])<|cond (ieq d 5) (oN (zdm b j)<|oN (zL a)<|oN u<|some [n,aB true])<|oN (zL a)<|oN (zbK b c<|zjR a)<|some [t,aB true])
def zSl (a:ai)(b:Int)(f:zbT a b=true):∃N,zDU N a b=some [aT .bare<|zfq a b,aB<|zgS a b]:=by
 have c:=zF.1 f;have j:=zfz b c;have k:_/\_/\_:=c;have hg:a.ac.length<=1048576:=c.2.1.1;have g:=zXt (gAt a b);have d:ieq (zU<|gAt a b) 3=true->ieq (zU<|gAt a b) 4=false:=λh=>zGF h rfl;have e:ieq (zU<|gAt a b) 5=true->ieq (zU<|gAt a b) 7=false:=λh=>zGF h rfl;have l:=tr1 (gAt a b) (gAt a b).Ctl.aq (zU<|gAt a b);have m:=tr2 (gAt a b) (gAt a b).Ctl.aq (zU<|gAt a b);have p:=tr3 (gAt a b) (gAt a b).Ctl.aq (zU<|gAt a b);have q:=tr4 (gAt a b) (gAt a b).Ctl.aq (zU<|gAt a b);have i:∀n,SmB (znM a n):=λn=>zP1 c;refine⟨0,?_⟩;unfold zDU oN nB;conv=>zeta
 refine mu (i0 rfl (i0 rfl (brN (λ_=>mu ?_) λ_=>brN (λ_=>mu ?_) λ_=>br (λ_=>mu ?_) λ_=>i0 rfl (i0 rfl (br (λ_=>mu (mu ?_)) λ_=>br (λ_=>mu (mu ?_)) λ_=>br (λ_=>br (λ_=>i0 rfl (i0 rfl (i0 rfl (brN (λ_=>i0 rfl (i0 rfl (mu<|mu ?_))) λ_=>br (λ_=>i0 rfl (mu<|mu<|mu ?_)) λ_=>i0 rfl (i0 rfl (mu<|mu ?_)))))) λ_=>br (λ_=>i0 rfl (mu<|mu ?_)) λ_=>i0 rfl (i0 rfl (br (λ_=>mu (mu ?_)) λ_=>br (λ_=>mu (mu<|mu ?_)) λ_=>mu (mu ?_)))) λ_=>br (λ_=>i0 rfl (i0 rfl (i0 rfl (brN (λ_=>i0 rfl (i0 rfl (mu<|mu ?_))) λ_=>br (λ_=>i0 rfl (mu<|mu<|mu ?_)) λ_=>i0 rfl (i0 rfl (mu<|mu ?_)))))) λ_=>br (λ_=>i0 rfl (mu<|mu ?_)) λ_=>i0 rfl (i0 rfl (br (λ_=>mu (mu ?_)) λ_=>br (λ_=>mu (mu<|mu ?_)) λ_=>mu (mu ?_))))))));all_goals first|rfl|(simp only [*,zfq,zgS,zjE,zmV,stepped,zqO,zqP,zes,zhi,cT,cF]<;>rfl)|simp_all[Ty.cells,zfq,zgS,zjE,zmV,stepped,zqO,zqP,zes,zhi]
def zwB:vP 111 zlz:=kF2 zl7 zq zu zn (zo []) zSl
def zEm (N:Nat)(v:ai)(f:Int):OA:=
 let c:=zO v;let h:=c.ag;let e:=c.ac;let k:=inb f<|ln e;let a:=zc9 c f;let l:=a.Ctl.aq;let q:=(zd3 a.aw a.Pc).X;let j:=zhz a;let u:=zcH a l j;let n:=up e f u;let r:=zk0 c q;let m:=zg9 a;let g:=zcg m;let d:=zbs m;let i:=ieq j 4;let s:=up e f<|zcu a<|zd8 d i;let p:=zeg a.ax d<|zcP i;let t:=zfr h p g; (oN (zW v)<|oN (zdC c f)<|oN (zbx a)<|cond (nB<|zda c f) (some [aT .bare c,aB false])<|oN (zcY c)<|cond (nB<|zbR c) (some [aT .bare c,aB false])<|cond (ieq j 0) (some [aT .bare c,aB false])<|cond (ieq j 1) (oN (zL a)<|oN k<|p0 (up e f<|ze3 a) λb=>some [aT .bare ({c with ac:=b}:ai),aB true])<|cond (ieq j 2) (oN (zL a)<|oN k<|p0 (up e f<|zh9 a) λb=>some [aT .bare ({c with ac:=b}:ai),aB true])<|cond (ieq j 3) (cond (ieq j 3) (oN (zbx a)<|oN (zbo m)<|oN (zi2 i)<|oN (ze0 a.ax d<|zcP i)<|cond (nB<|zdD a.ax d<|zcP i) (oN (zbo m)<|oN (zfE d i)<|oN (zci a<|zd8 d i)<|oN k<|p0 s λb=>some [aT .bare ({c with ac:=b}:ai),aB true])<|cond i (oN (zbo m)<|oN (zde h p g a.A)<|oN (zL a)<|oN k<|p0 (up e f<|zb3 a) λb=>some [aT .bare ({c with ag:=(zdn h p g a.A),ac:=b}:ai),aB true])<|oN (zbo m)<|oN (zer h p g)<|oN (zkH a t)<|oN k<|p0 (up e f<|zjW a t) λb=>some [aT .bare ({c with ac:=b}:ai),aB true])<|oN (zew a l j)<|cond (zdV a l j) (cond (ieq j 5) (oN (zdU a.aw a.Pc)<|oN (zdm c q)<|oN (inb f<|ln r.ac)<|p0 (up r.ac f u) λb=>some [aT .bare ({r with ac:=b}:ai),aB true])<|oN k<|p0 n λb=>some [aT .bare ({c with ac:=b}:ai),aB true])<|oN k<|p0 n λb=>some [aT .bare ({c with ac:=b}:ai),aB true])<|cond i (oN (zbx a)<|oN (zbo m)<|oN (zi2 i)<|oN (ze0 a.ax d<|zcP i)<|cond (nB<|zdD a.ax d<|zcP i) (oN (zbo m)<|oN (zfE d i)<|oN (zci a<|zd8 d i)<|oN k<|p0 s λb=>some [aT .bare ({c with ac:=b}:ai),aB true])<|cond i (oN (zbo m)<|oN (zde h p g a.A)<|oN (zL a)<|oN k<|p0 (up e f<|zb3 a) λb=>some [aT .bare ({c with ag:=(zdn h p g a.A),ac:=b}:ai),aB true])<|oN (zbo m)<|oN (zer h p g)<|oN (zkH a t)<|oN k<|p0 (up e f<|zjW a t) λb=>some [aT .bare ({c with ac:=b}:ai),aB true])<|oN (zew a l j)<|cond (zdV a l j) (cond (ieq j 5) (oN (zdU a.aw a.Pc)<|oN (zdm c q)<|oN (inb f<|ln r.ac)<|p0 (up r.ac f u) λb=>some [aT .bare ({r with ac:=b}:ai),aB true])<|oN k<|p0 n λb=>some [aT .bare ({c with ac:=b}:ai),aB true])<|oN k<|p0 n λb=>some [aT .bare ({c with ac:=b}:ai),aB true])
def zSM (a:ai)(b:Int)(e:zbT a b=true):∃N,zEm N a b=some [aT .bare<|zfq a b,aB<|zgS a b]:=by
 have c:=zF.1 e;have g:=zfz b c;have i:_/\_/\_:=c;have hg:a.ac.length<=1048576:=c.2.1.1;have f:=zXt (gAt a b);have d:ieq (zU<|gAt a b) 3=true->ieq (zU<|gAt a b) 4=false:=λh=>zGF h rfl;refine⟨0,?_⟩;unfold zEm oN nB;conv=>zeta
 refine mu (mu (i0 rfl (brN (λ_=>?_) λ_=>i0 rfl (brN (λ_=>?_) λ_=>br (λ_=>?_) λ_=>br (λ_=>mu (mu<|shr ?_)) λ_=>br (λ_=>mu (mu<|shr ?_)) λ_=>br (λ_=>br (λ_=>i0 rfl (i0 rfl (i0 rfl (i0 rfl (brN (λ_=>i0 rfl (i0 rfl (mu<|mu<|shr ?_))) λ_=>br (λ_=>i0 rfl (mu<|mu<|mu<|shr ?_)) λ_=>i0 rfl (i0 rfl (mu<|mu<|shr ?_))))))) λ_=>mu (br (λ_=>br (λ_=>i0 rfl (mu<|mu<|shr ?_)) λ_=>mu (shr ?_)) λ_=>mu (shr ?_))) λ_=>br (λ_=>i0 rfl (i0 rfl (i0 rfl (i0 rfl (brN (λ_=>i0 rfl (i0 rfl (mu<|mu<|shr ?_))) λ_=>br (λ_=>i0 rfl (mu<|mu<|mu<|shr ?_)) λ_=>i0 rfl (i0 rfl (mu<|mu<|shr ?_))))))) λ_=>mu (br (λ_=>br (λ_=>i0 rfl (mu<|mu<|shr ?_)) λ_=>mu (shr ?_)) λ_=>mu (shr ?_))))));all_goals first|rfl|(simp only [*,zfq,zgS,zjE,zmV,stepped,zqO,zqP,zes,zhi,zf2,cT,cF]<;>rfl)|simp_all[Ty.cells,zfq,zgS,zjE,zmV,stepped,zqO,zqP,zes,zhi,zf2]
def zK5:vP 113 zlz:=kF2 zl7 zq zu zn (zo []) zSM
def SmK (k:aA):Prop:=k.ay.length<=1048576/\k.az.length<=1048576
def zEI (l:List aA):Prop:=l.length<=1048576/\∀x∈l,SmK x
def zfJ (m:Mon):Prop:=m.ae.length<=1048576/\SmM m.Out/\m.av.length<=1048576/\zm7 m.ac/\m.Outs.length<=1048576/\zEI m.ak
def zqW (l:List Mon):Prop:=l.length<=1048576/\∀x∈l,zfJ x
def SmH (h:ad):Prop:=SmM h.ag/\zqW h.aa/\h.ao.length<=1048576/\h.am.length<=1048576
@[simp] def zzN (k:aA):(∀c∈Ty.cells .kept k,CVB sm c)↔SmK k:=by simp[Ty.cells,SmK,sm_v]
@[simp] def z9L (l:List aA):CVB sm (.s .kept l)↔zEI l:=by rw[zoi];simp only[zzN];rfl
@[simp] def z2T (m:Mon):(∀c∈Ty.cells .mon m,CVB sm c)↔zfJ m:=by simp only[Ty.cells,qG,qN,or_false,vM,forall_eq,zsG,zxF,z9L,z4s,z1j,z1i,zbb1,and_true,true_and];rfl
@[simp] def zbdi (l:List Mon):CVB sm (.s .mon l)↔zqW l:=by rw[zoi];simp only[z2T];rfl
@[simp] def zQ (h:ad):zdJ h↔SmH h:=by unfold zdJ;simp only[zbl,qG,qN,or_false,vM,forall_eq,zsG,zbdi,zYc];rfl
def zbv {p:Prop}(h:p):pc p=true:=zba h
def zv9 {l:List aA}{i:Int}{x:aA}(h:zEI l)(b:SmK x):zEI (up l i x):=by refine⟨by simpa using h.1,λy a=>?_⟩;rcases jD a with a|rfl;{exact h.2 y a};{exact b}
def zkO {l:List Mon}{i:Int}{x:Mon}(h:zqW l)(b:zfJ x):zqW (up l i x):=by refine⟨by simpa using h.1,λy a=>?_⟩;rcases jD a with a|rfl;{exact h.2 y a};{exact b}
def zqA {a:Type}{l:List a}(h:l.length<=1048576):few (ln<|ap [] l)=true:=by rw[zpb,zbdq];omega
@[simp] abbrev zS (h:ad):Bool:=pc (zdJ h)
@[simp] abbrev zk (h:ad):ad:=h
def zpW:Run:=rF1 dH λb=>(zS b,[aH<|zk b])
def zIY (N:Nat)(b:ad):OA:=
 (oN (zhX b.ag)<|oN (few<|ln<|ap [] b.ao)<|oN (few<|ln<|ap [] b.am)<|q0 (σ:=(Int×lM×lN×lE×lE×lM×lN×lE×lE×lM×lN×lE×lE×Unit)) N (λf a=>let b:=a.2.2.2.2.2.2.2;let e:=b.2.2.2.2.2.1;let d:=ix a.2.2.1 a.1 zi;let c:=ap b.2.2.2.1 [zqp d]; (cond (ilt a.1<|ln a.2.2.1) (oN (inb a.1<|ln a.2.2.1)<|oN (zmz d)<|oN (few<|ln c)<|f (zM .i64 a.1 1,a.2.1,a.2.2.1,a.2.2.2.1,a.2.2.2.2.1,a.2.2.2.2.2.1,a.2.2.2.2.2.2.1,b.1,b.2.1,b.2.2.1,c,b.2.2.2.2.1,e,()))<|some [aH (⟨b.2.2.1,b.2.2.2.1,b.2.2.2.2.1,e⟩:ad)])) (0,b.ag,b.aa,b.ao,b.am,[],[],[],[],zf6 b.ag,[],ap [] b.ao,ap [] b.am,()))
def zXb:=zo [(107,0,{n:=36,tm:=[(1,.lp 0 0),(2,.lp 1 0),(3,.lp 2 0),(4,ti)],lo:=[(0,[.sl 0 [],.sl 1 [],.sl 2 [],.sl 3 []]),(1,[.sl 4 [],.sl 5 [],.sl 6 [],.sl 7 []]),(2,[.sl 8 [],.sl 9 [],.sl 10 [],.sl 11 []])],ro:=[(0,.sl .int,false),(1,.mon,false),(2,.entry,false),(3,.entry,false),(4,.sl .int,true),(5,.mon,true),(6,.entry,true),(7,.entry,true),(8,.sl .int,true),(9,.mon,true),(10,.entry,true),(11,.entry,true)]})]
def zWE (a:ad)(k:zS a=true):∃N,zIY N a=some [aH<|zk a]:=by
 obtain⟨g,f,h,j⟩:=(zQ a).1 (zF.1 k);have e:=zcC f.1;refine zcf λN d=>?_;unfold zIY oN;conv=>zeta
 refine i0 (zbv<|(zsG _).2 g) (i0 (zqA h)<|i0 (zqA j) ?_);refine(zbp a.aa (λi (t:lN)=>((i:Int),a.ag,a.aa,a.ao,a.am,[],[],[],[],zf6 a.ag,t,ap [] a.ao,ap [] a.am,())) _ (λ_ x b m=>bif zmz x then (cond (few<|ln<|ap b [zqp x]) (m<|ap b [zqp x]) none) else none) (λ(t:lN)=>some [.agg<|zbl (⟨zf6 a.ag,t,ap [] a.ao,ap [] a.am⟩:ad)]) (λi c t rec=>?_) (λt rec=>?_) _ ([])<|d e.1).trans ?_;{simp only [zbw c,zbc c,zbn c,zbj c e.1,cT]};{simp only [zbq,cF]};exact zjD zmz zqp _ a.aa 0 [] (λx l=>⟨zbv<|(z2T x).2 (f.2 x l),rfl⟩) (by simpa using e.2)
def zOE:vP 107 zpW:=kF1 zl7 zq zu zn zXb zWE
@[simp] abbrev zen (k:aA):Bool:=pc (SmK k)
@[simp] abbrev zdk (k:aA):aA:=k
def zAz:Run:=rF1 (dT .kept) λb=>(zen b,[aT .kept<|zdk b])
def zEa (N:Nat)(a:aA):OA:=
 (oN (few<|ln<|ap [] a.ay)<|oN (zg6 a.az)<|some [aT .kept (⟨ap [] a.ay,ze5 a.az⟩:aA)])
def zSB (a:aA)(b:zen a=true):∃N,zEa N a=some [aT .kept<|zdk a]:=by have c:=zF.1 b;obtain⟨f,g⟩:=c;have d:a.ay.length<=2147483648:=(by omega);have e:a.az.length<=2147483648:=(by omega);refine⟨0,?_⟩;unfold zEa oN;refine mu (mu ?_);first|rfl|(simp only [*,zdk,cT,cF]<;>rfl)|simp_all[Ty.cells,zdk]
def zKU:vP 369 zAz:=kF1 zl7 zq zu zn (zo []) zSB
def zbbw:zbb:=[(107,zpW),(369,zAz)]++z4j
def zX1:zN zbbw:=zh zOE (zh zKU zl7)
@[simp] abbrev zmZ (m:Mon):Bool:=pc (zfJ m)
@[simp] abbrev znF (m:Mon):Mon:=m
def zDb:Run:=rF1 (dT .mon) λb=>(zmZ b,[aT .mon<|znF b])
def zIp (N:Nat)(b:Mon):OA:=
 (oN (zg6 b.ae)<|oN (zhH b.Out)<|oN (few<|ln<|ap [] b.av)<|oN (zdi b.ac)<|oN (zeL b.Outs)<|q0 (σ:=(Int×Int×Int×Int×Int×Int×Int×Int×lK×lK×lS×lM×lB×lG×LI×lS×lM×lB×lG×LI×lK×Unit)) N (λi a=>let b:=a.2.2.2.2.2.2.2.2.2.2;let j:=b.2.2.2.2.2;let h:=b.2.2.1;let g:=b.2.2.2.1;let f:=b.2.2.2.2.1;let e:=a.2.2.2.2.2.2.2.2.1;let d:=a.2.2.2.2.2.2.2.2.2.1;let c:=ix d a.2.1 zec; (cond (ilt a.2.1 a.1) (oN (inb a.2.1<|ln d)<|oN (zen c)<|oN (few<|ln<|ap e [zdk c])<|i (a.1,zM .i64 a.2.1 1,a.2.2.1,a.2.2.2.1,a.2.2.2.2.1,a.2.2.2.2.2.1,a.2.2.2.2.2.2.1,a.2.2.2.2.2.2.2.1,ap e [zdk c],d,b.1,b.2.1,h,g,f,j.1,j.2.1,j.2.2.1,j.2.2.2.1,j.2.2.2.2.1,j.2.2.2.2.2.1,()))<|some [aT .mon (⟨b.1,b.2.1,h,g,f,a.2.2.1,a.2.2.2.1,e,a.2.2.2.2.1⟩:Mon)])) (ln b.ak,0,b.aj,b.aq,b.Own,0,0,0,[],b.ak,ze5 b.ae,zeE b.Out,ap [] b.av,zdX b.ac,zeJ b.Outs,[],[],[],[],[],[],()))
def zW2:=zo [(200,0,{n:=44,tm:=[(1,.lp 0 0),(2,.lp 1 0),(3,.sl 0 []),(29,.sl 1 []),(30,ti),(31,ti)],lo:=[(0,[.sl 2 [],.sl 3 [],.sl 4 [],.sl 5 [],.sl 6 [],ti,ti,.sl 1 [],ti]),(1,[.sl 7 [],.sl 8 [],.sl 9 [],.sl 10 [],.sl 11 [],ti,ti,.sl 12 [],ti])],ro:=[(0,.kept,true),(1,.kept,false),(2,.slot,true),(3,.sl .int,true),(4,.bool,true),(5,.guest,true),(6,.int,true),(7,.slot,true),(8,.sl .int,true),(9,.bool,true),(10,.guest,true),(11,.int,true),(12,.kept,true)]})]
def zV8 (a:Mon)(p:zmZ a=true):∃N,zIp N a=some [aT .mon<|znF a]:=by
 obtain⟨s,l,m,n,u,f⟩:=zF.1 p;have e:=zcC f.1;refine zcf λN d=>?_;unfold zIp oN;conv=>zeta
 have g:zg6 a.ae=true:=(by simp;omega);have h:zhH a.Out=true:=(by simp;exact l);have j:zdi a.ac=true:=(by simp;exact n);have k:zeL a.Outs=true:=(by simp;omega);refine i0 g (i0 h<|i0 (zqA m)<|i0 j<|i0 k ?_);refine(zbp a.ak (λi (t:lK)=>(ln a.ak,(i:Int),a.aj,a.aq,a.Own,0,0,0,t,a.ak,ze5 a.ae,zeE a.Out,ap [] a.av,zdX a.ac,zeJ a.Outs,[],[],[],[],[],[],())) _ (λ_ x b r=>bif zen x then (cond (few<|ln<|ap b [zdk x]) (r<|ap b [zdk x]) none) else none) (λ(t:lK)=>some [.agg<|Ty.cells .mon (⟨ze5 a.ae,zeE a.Out,ap [] a.av,zdX a.ac,zeJ a.Outs,a.aj,a.aq,t,a.Own⟩:Mon)]) (λi c t rec=>?_) (λt rec=>?_) _ ([])<|d e.1).trans ?_;{simp only [zbw c,zbc c,zbn c,zbj c e.1,cT]};{simp only [zbq,cF]};exact zjD zen zdk _ a.ak 0 [] (λx q=>⟨zbv<|f.2 x q,rfl⟩) (by simpa using e.2)
def zN4:vP 200 zDb:=kF1 zX1 zq zu zn zW2 zV8
def zbbx:zbb:=[(200,zDb)]++zbbw
def zBi:zN zbbx:=zh zN4 zX1
def zD8 (N:Nat)(b:ad):OA:=
 (oN (zhH b.ag)<|oN (few<|ln<|ap [] b.ao)<|oN (few<|ln<|ap [] b.am)<|q0 (σ:=(Int×Int×lN×lM×lN×lE×lE×lM×lN×lE×lE×Unit)) N (λe a=>let b:=a.2.2.2.2.2.2.2;let d:=ix a.2.2.1 a.2.1 zi;let c:=ap b.2.1 [znF d]; (cond (ilt a.2.1 a.1) (oN (inb a.2.1<|ln a.2.2.1)<|oN (zmZ d)<|oN (few<|ln c)<|e (a.1,zM .i64 a.2.1 1,a.2.2.1,a.2.2.2.1,a.2.2.2.2.1,a.2.2.2.2.2.1,a.2.2.2.2.2.2.1,b.1,c,b.2.2.1,b.2.2.2.1,()))<|some [aH (⟨b.1,b.2.1,b.2.2.1,b.2.2.2.1⟩:ad)])) (ln b.aa,0,b.aa,[],[],[],[],zeE b.ag,[],ap [] b.ao,ap [] b.am,()))
def zTx:=zo [(102,0,{n:=34,tm:=[(2,.lp 0 0),(3,.lp 1 0),(19,.sl 0 []),(20,ti),(21,ti)],lo:=[(0,[.sl 1 [],.sl 2 [],.sl 3 [],.sl 4 []]),(1,[.sl 5 [],.sl 6 [],.sl 7 [],.sl 8 []])],ro:=[(0,.mon,false),(1,.sl .int,true),(2,.mon,true),(3,.entry,true),(4,.entry,true),(5,.sl .int,true),(6,.mon,true),(7,.entry,true),(8,.entry,true)]})]
def zSz (a:ad)(l:zS a=true):∃N,zD8 N a=some [aH<|zk a]:=by
 obtain⟨h,f,j,k⟩:=(zQ a).1 (zF.1 l);have e:=zcC f.1;refine zcf λN d=>?_;unfold zD8 oN;conv=>zeta
 have g:zhH a.ag=true:=(by simp;exact h);refine i0 g (i0 (zqA j)<|i0 (zqA k) ?_);refine(zbp a.aa (λi (t:lN)=>(ln a.aa,(i:Int),a.aa,[],[],[],[],zeE a.ag,t,ap [] a.ao,ap [] a.am,())) _ (λ_ x b n=>bif zmZ x then (cond (few<|ln<|ap b [znF x]) (n<|ap b [znF x]) none) else none) (λ(t:lN)=>some [.agg<|zbl (⟨zeE a.ag,t,ap [] a.ao,ap [] a.am⟩:ad)]) (λi c t rec=>?_) (λt rec=>?_) _ ([])<|d e.1).trans ?_;{simp only [zbw c,zbc c,zbn c,zbj c e.1,cT]};{simp only [zbq,cF]};exact zjD zmZ znF _ a.aa 0 [] (λx m=>⟨zbv<|f.2 x m,rfl⟩) (by simpa using e.2)
def zKS:vP 102 zpW:=kF1 zBi zq zu zn zTx zSz
def allI {a:Type}(p:Nat->a->Bool):List a->Nat->Bool
 |[],_=>true
 |x::l,i=>p i x&&allI p l (i+1)
def zKt {a b:Type}(p:Nat->a->Bool)(r:Option b)(K:Unit->Option b):∀(l:List a) (i:Nat),goL (λi x (_:Unit) k=>bif p i x then k () else r) K l i ()=bif allI p l i then K () else r
 |[],_=>rfl
 |x::l,i=>by simp only[goL,allI];cases p i x;{rfl};{simp only [cT,uN];exact zKt p r K l (i+1)}
def zUi {a:Type}(q:a->Bool)(l:List a)(d:a):∀(n i:Nat),i+n<=l.length->zqY (λj=>q (ix l (j:Int) d)) n i=((l.drop i).take n).all q
 | 0,i,_=>by simp[zqY]
 |n+1,i,h=>by have b:i<l.length:=(by omega);rw[kT b,List.take_succ_cons,k9,<- zUi q l d n (i+1) (by omega)];simp only[zqY,zbn b]
def sameKey (a b:au):Bool:=bif ieq a.Tag b.Tag then ieq a.af b.af else false
def alone (l:List au)(i:Nat)(x:au):Bool:=(l.take i).all λy=>!sameKey x y
def zhF (l:List au):Bool:=bif allI (alone l) l 0 then ile (ln l) 6 else false
def z9R {a:Type}{l:List a}{i:Nat}(h:i<=l.length):inr 0 (i:Int) (ln l)=true:=qL (by simp only[ln];omega)
@[simp] abbrev zjI (l:List au):Bool:=true
@[simp] abbrev zi0 (l:List au):Bool:=zhF l
def zov:Run:=rF1 (dS .entry) λb=>(zjI b,[aB<|zi0 b])
def zDV (N:Nat)(g:lE):OA:=
 (q0 (σ:=(Int×Int×lE×Unit)) N (λi b=>let c:=b.2.2.1;let e:=ix c b.2.1 zfW; (cond (ilt b.2.1 b.1) (oN (inb b.2.1<|ln c)<|oN (inr 0 b.2.1<|ln c)<|q0 (σ:=(Int×Int×Int×Int×Int×Int×Int×Int×lE×lE×Unit)) N (λj a=>let b:=a.2.2.2.2;let d:=a.2.2.2.1;let f:=b.2.2.2.2.2.1;let h:=j (a.1,a.2.1,a.2.2.1,zM .i64 d 1,b.1,b.2.1,b.2.2.1,b.2.2.2.1,b.2.2.2.2.1,f,()); (cond (ilt d a.2.2.1) (oN (inb d<|ln f)<|cond (ieq b.1 (ix f d zfW).Tag) (cond (ieq b.2.1 (ix f d zfW).af) oF h) h)<|i (a.1,zM .i64 a.2.1 1,b.2.2.2.2.1,()))) (b.1,b.2.1,ln<|tk c b.2.1,0,e.Tag,e.af,e.ad,e.an,c,tk c b.2.1,()))<|some [aB<|ile (ln c) 6])) (ln g,0,g,()))
def zTv:=zo [(219,0,{n:=39,tm:=[(0,.sl 0 []),(7,.sl 0 []),(8,ti),(9,ti)],lo:=[],ro:=[(0,.entry,false)]}),(219,2,{n:=39,tm:=[(0,.sl 0 []),(4,.lp 0 0),(7,.sl 0 []),(8,ti),(9,ti),(16,.sl 1 []),(17,ti),(18,ti)],lo:=[(0,[ti,ti,ti,ti])],ro:=[(0,.entry,false),(1,.entry,false)]})]
def zSm (a:List au)(l:zbE big [aS .entry a])(m:zjI a=true):∃N,zDV N a=some [aB<|zi0 a]:=by
 have e:=len0 l;refine zcf λN d=>?_;unfold zDV oN;conv=>zeta
 refine(zbp a (λi (t:Unit)=>(ln a,(i:Int),a,())) _ (λi (x:au) (_:Unit) h=>bif alone a i x then h () else oF) (λ(t:Unit)=>some [.one<|.b<|ile (ln a) 6]) (λi c t rec=>?_) (λt rec=>?_) _ ()<|d e).trans ?_;{simp only [zbw c,zbc c,zbn c,zbj c e,cT];rw[z9R<|Nat.le_of_lt c,cT];have k:(tk a (i:Int)).length<=big:=qT (by simp[tk];omega) e;refine(zbp (tk a (i:Int)) (λj (u:Unit)=>(ln a,(i:Int),ln<|tk a (i:Int),(j:Int),a[i].Tag,a[i].af,a[i].ad,a[i].an,a,tk a (i:Int),())) _ (λ_ (y:au) (_:Unit) h=>bif !sameKey a[i] y then h () else oF) (λ(u:Unit)=>rec (ln a,((i+1:Nat):Int),a,())) (λj g u f=>?_) (λu f=>?_) _ ()<|d k).trans ?_;{simp only [zbw g,zbc g,zbn g,zbj g k,cT,zbj c e];unfold sameKey;cases ieq a[i].Tag (tk a (i:Int))[j].Tag<;>cases ieq a[i].af (tk a (i:Int))[j].af<;>rfl};{simp only [zbq,cF,zbj c e]};rw[ziu λy=>!sameKey a[i] y];rfl};{simp only [zbq,cF]};rw[zKt<|alone a];unfold zi0 zhF;cases allI (alone a) a 0<;>rfl
def zKC:vP 219 zov:=hF1 zBi zq zu zn zTv zSm
def zEn (N:Nat)(f:lE):OA:=
 (q0 (σ:=(Int×lE×Unit)) N (λg c=>cond (ilt c.1<|ln c.2.1) (q0 (σ:=(Int×Int×lE×Unit)) N (λh a=>let b:=a.2.2.1;let e:=ix b a.2.1 zfW;let d:=h (a.1,zM .i64 a.2.1 1,b,()); (cond (ilt a.2.1 a.1) (oN (inb a.1<|ln b)<|oN (inb a.2.1<|ln b)<|cond (ieq (ix b a.1 zfW).Tag e.Tag) (oN (inb a.1<|ln b)<|oN (inb a.2.1<|ln b)<|cond (ieq (ix b a.1 zfW).af e.af) oF d) d)<|g (zM .i64 a.1 1,b,()))) (c.1,0,c.2.1,()))<|some [aB<|ile (ln c.2.1) 6]) (0,f,()))
def zTC:=zo [(122,0,{n:=43,tm:=[(0,.sl 0 []),(3,ti)],lo:=[],ro:=[(0,.entry,false)]}),(122,2,{n:=43,tm:=[(0,.sl 0 []),(3,ti),(4,ti)],lo:=[],ro:=[(0,.entry,false)]})]
def zSN (a:List au)(k:zbE big [aS .entry a])(l:zjI a=true):∃N,zEn N a=some [aB<|zi0 a]:=by
 have g:=len0 k;refine zcf λN d=>?_;unfold zEn oN;conv=>zeta
 refine(zbp a (λi (t:Unit)=>((i:Int),a,())) _ (λi (x:au) (_:Unit) h=>bif alone a i x then h () else oF) (λ(t:Unit)=>some [.one<|.b<|ile (ln a) 6]) (λi c t rec=>?_) (λt rec=>?_) _ ()<|d g).trans ?_;{simp only [zbw c,zbc c,zbn c,zbj c g,cT];refine(zwL i (λ(j:Nat) (_:Unit)=>((i:Int),(j:Int),a,())) _ (λj (_:Unit) h=>bif !sameKey a[i] (ix a (j:Int) zfW) then h () else oF) (λ_=>rec (((i+1:Nat):Int),a,())) (λj m u f=>?_) (λu f=>?_) _ ()<|d (by omega)).trans ?_;{have e:j<a.length:=(by omega);simp only[show ilt (j:Int) (i:Int)=true from qL (by omega),zbc c,zbc e,zbn c,zbj e g,cT];unfold sameKey;cases ieq a[i].Tag (ix a (j:Int) zfW).Tag<;>cases ieq a[i].af (ix a (j:Int) zfW).af<;>rfl};{simp only [show ilt (i:Int) (i:Int)=false from qH (by omega),zbj c g,cF]};rw[zGE λj=>!sameKey a[i] (ix a (j:Int) zfW),zUi (λy=>!sameKey a[i] y) a _ i 0 (by omega)];rfl};{simp only [zbq,cF]};rw[zKt<|alone a];unfold zi0 zhF;cases allI (alone a) a 0<;>rfl
def zK6:vP 122 zov:=hF1 zBi zq zu zn zTC zSN
def zbby:zbb:=[(102,zpW),(122,zov),(219,zov)]++zbbx
def zKj:zN zbby:=zh zKS (zh zK6<|zh zKC zBi)
def zSa (a b:Int):igt a b = !ile a b:=by unfold igt ile;by_cases h:a<=b;{rw [qL h,qH (by omega)];rfl};{rw [qH h,qL (by omega)];rfl}
def stB {c M:Bool}{E:OA}(h:c=true->E=some [AV.one<|.b M]):(cond (cond c false true) (some [AV.one<|.b false]) E)=some [AV.one<|.b<|cond c M false]:=by cases c;{rfl};{exact h rfl}
def stI {a b:Int}{M:Bool}{E:OA}(h:ieq a b=true->E=some [AV.one<|.b M]):(cond (ine a b) (some [AV.one<|.b false]) E)=some [AV.one<|.b<|cond (ieq a b) M false]:=by rw[zjw];cases c:ieq a b;{rfl};{exact h c}
def stG {a b:Int}{M:Bool}{E:OA}(h:ile a b=true->E=some [AV.one<|.b M]):(cond (igt a b) (some [AV.one<|.b false]) E)=some [AV.one<|.b<|cond (ile a b) M false]:=by rw[zSa];cases c:ile a b;{rfl};{exact h c}
def zos (s:k0)(p:LI):Bool:=bif zdz s A0 then zdr p else (cond (enough s.an 1) (ile (ln p) 0) false)
def fits (m:Mon)(j:Nat):Bool:=zos (ix m.ae (j:Int) zX) (ix m.Out (j:Int) [])
def zfQ (m:Mon):Bool:=bif zl (ln m.ac) 1 2 then (cond (ieq (ln m.ak)<|ln m.ac) (cond (zek m.ae 8 12) (cond (ieq (ln m.Out) 8) (cond (ieq (ln m.av) 8) (cond (ile (ln m.Outs) 40) (cond (zhj m.aj) (cond (zl m.aq 0 3) (cond (zl m.Own 0 1000000000) (cond (m.ac.all zey) (zqY (fits m) 8 0) false) false) false) false) false) false) false) false) false) else false
def zut {t:List k0}{n p:Int}(h:zek t n p=true):ln t=n:=by unfold zek at h;cases a:t.all (λs=>zfZ s p);{rw [a]at h;cases h};{rw [a]at h;exact qD h}
@[simp] abbrev zku (m:Mon):Bool:=true
@[simp] abbrev zlr (m:Mon):Bool:=zfQ m
def ztq:Run:=rF1 (dT .mon) λb=>(zku b,[aB<|zlr b])
def zTV (N:Nat)(a:Mon):OA:=
 let h:=ln a.ac; (oN (zJ h 1 2)<|cond (nB<|zl h 1 2) oF<|cond (ine (ln a.ak) h) oF<|oN (zk1 a.ae 8 12)<|cond (nB<|zfx a.ae 8 12) oF<|cond (ine (ln a.Out) 8) oF<|cond (ine (ln a.av) 8) oF<|cond (igt (ln a.Outs) 40) oF<|oN (zch a.aj)<|cond (nB<|zeY a.aj) oF<|oN (zJ a.aq 0 3)<|cond (nB<|zl a.aq 0 3) oF<|oN (zJ a.Own 0 1000000000)<|cond (nB<|zl a.Own 0 1000000000) oF<|q0 (σ:=(Int×Int×Int×Int×Int×lG×lS×lM×lB×LI×lK×Unit)) N (λl b=>let a:=b.2.2.2.2.2.2.2;let i:=b.2.2.2.2.2.2.1;let g:=b.2.2.2.2.2.1;let k:=ix g b.2.1 zA; (cond (ilt b.2.1 b.1) (oN (inb b.2.1<|ln g)<|oN (zbx k)<|cond (nB<|zjh k) oF<|l (b.1,zM .i64 b.2.1 1,b.2.2.1,b.2.2.2.1,b.2.2.2.2.1,g,i,a.1,a.2.1,a.2.2.1,a.2.2.2.1,()))<|q0 (σ:=(Int×Int×Int×Int×Int×lS×lM×lB×lG×LI×lK×Unit)) N (λm c=>let a:=c.2.2.2.2.2;let d:=c.2.1;let e:=a.2.1;let f:=ix a.1 d zX;let j:=m (c.1,zM .i64 d 1,c.2.2.1,c.2.2.2.1,c.2.2.2.2.1,a.1,e,a.2.2.1,a.2.2.2.1,a.2.2.2.2.1,a.2.2.2.2.2.1,()); (cond (ilt d c.1) (oN (inb d<|ln a.1)<|oN zbO<|cond (cond (ieq f.af zbm.af) (ieq f.an zbm.an) false) (oN (inb d<|ln e)<|oN (zep<|ix e d [])<|cond (nB<|zdF<|ix e d []) oF j)<|oN (zbi f.an 1)<|cond (nB<|zds f.an 1) oF<|oN (inb d<|ln e)<|cond (igt (ln<|ix e d []) 0) oF j) oT)) (ln i,0,b.2.2.1,b.2.2.2.1,b.2.2.2.2.1,i,a.1,a.2.1,g,a.2.2.1,a.2.2.2.1,()))) (h,0,a.aj,a.aq,a.Own,a.ac,a.ae,a.Out,a.av,a.Outs,a.ak,()))
def z2F:=zo [(80,0,{n:=106,tm:=[(1,.lp 0 0),(64,.sl 0 []),(65,ti),(66,ti)],lo:=[(0,[.sl 1 [],.sl 2 [],.sl 3 [],.sl 0 [],.sl 4 [],ti,ti,.sl 5 [],ti])],ro:=[(0,.guest,false),(1,.slot,false),(2,.sl .int,false),(3,.bool,false),(4,.int,false),(5,.kept,false)]}),(80,2,{n:=106,tm:=[(1,.lp 0 0),(75,.sl 0 []),(76,ti),(77,ti)],lo:=[(0,[.sl 0 [],.sl 1 [],.sl 2 [],.sl 3 [],.sl 4 [],ti,ti,.sl 5 [],ti])],ro:=[(0,.slot,false),(1,.sl .int,false),(2,.bool,false),(3,.guest,false),(4,.int,false),(5,.kept,false)]})]
def z1E (a:Mon)(l:zbE big [aT .mon a])(E:zku a=true):∃N,zTV N a=some [aB<|zlr a]:=by
 have hg:a.ac.length<=big:=((zd0 l).1 (.s .guest a.ac) (by simp[AV.cvs,Ty.cells])).len;have m:a.ae.length<=big:=((zd0 l).1 (.s .slot a.ae) (by simp[AV.cvs,Ty.cells])).len;refine zcf λN d=>?_;unfold zTV zlr zfQ oN nB;conv=>zeta
 refine i0 rfl (stB λw=>stI λy=>i0 rfl (stB λr=>stI λv=>stI λz=>stG λA=>i0 rfl (stB λB=>i0 rfl (stB λC=>i0 rfl (stB λD=>?_)))));have p:=zut r;have q:ln a.Out=8:=qD v;simp only[ln] at p q;refine(zbp a.ac (λi (t:Unit)=>(ln a.ac,(i:Int),a.aj,a.aq,a.Own,a.ac,a.ae,a.Out,a.av,a.Outs,a.ak,())) _ (λ_ (x:ah) (_:Unit) g=>bif zey x then g () else oF) (λ(t:Unit)=>q0 (σ:=(Int×Int×Int×Int×Int×lS×lM×lB×lG×LI×lK×Unit)) N (λn c=>cond (ilt c.2.1 c.1) (cond (inb c.2.1<|ln c.2.2.2.2.2.1) (cond zbO (cond (cond (ieq (ix c.2.2.2.2.2.1 c.2.1 zX).af zbm.af) (ieq (ix c.2.2.2.2.2.1 c.2.1 zX).an zbm.an) false) (cond (inb c.2.1<|ln c.2.2.2.2.2.2.1) (cond (zep<|ix c.2.2.2.2.2.2.1 c.2.1 []) (cond (cond (zdF<|ix c.2.2.2.2.2.2.1 c.2.1 []) false true) oF<|n (c.1,zM .i64 c.2.1 1,c.2.2.1,c.2.2.2.1,c.2.2.2.2.1,c.2.2.2.2.2.1,c.2.2.2.2.2.2.1,c.2.2.2.2.2.2.2.1,c.2.2.2.2.2.2.2.2.1,c.2.2.2.2.2.2.2.2.2.1,c.2.2.2.2.2.2.2.2.2.2.1,())) none) none)<|cond (zbi (ix c.2.2.2.2.2.1 c.2.1 zX).an 1) (cond (cond (zds (ix c.2.2.2.2.2.1 c.2.1 zX).an 1) false true) oF<|cond (inb c.2.1<|ln c.2.2.2.2.2.2.1) (cond (igt (ln<|ix c.2.2.2.2.2.2.1 c.2.1 []) 0) oF<|n (c.1,zM .i64 c.2.1 1,c.2.2.1,c.2.2.2.1,c.2.2.2.2.1,c.2.2.2.2.2.1,c.2.2.2.2.2.2.1,c.2.2.2.2.2.2.2.1,c.2.2.2.2.2.2.2.2.1,c.2.2.2.2.2.2.2.2.2.1,c.2.2.2.2.2.2.2.2.2.2.1,())) none) none) none) none)<|some [.one<|.b true]) (ln a.ae,0,a.aj,a.aq,a.Own,a.ae,a.Out,a.av,a.ac,a.Outs,a.ak,())) (λi h t rec=>?_) (λt rec=>?_) _ ()<|d hg).trans ?_;{simp only [zbw h,zbc h,zbn h,zbj h hg,cT];simp only[zbx,zjh,cT];cases zey a.ac[i]<;>rfl};{simp only [zbq,cF]};rw[ziu zey];cases a.ac.all zey;{rfl};simp only[cT];refine(zbp a.ae (λj (u:Unit)=>(ln a.ae,(j:Int),a.aj,a.aq,a.Own,a.ae,a.Out,a.av,a.ac,a.Outs,a.ak,())) _ (λj (_:k0) (_:Unit) g=>bif fits a j then g () else oF) (λ(u:Unit)=>some [.one<|.b true]) (λj e u f=>?_) (λu f=>?_) _ ()<|d m).trans ?_;{simp only [zbw e,zbc e,zbn e,zbj e m,cT];have k:j<a.Out.length:=(by omega);simp only[zbO,zbm,zep,zdF,zbi,zds,zbc k,zSa,cT];unfold fits zos;simp only[zbn e,zdz];cases ieq a.ae[j].af A0.af<;>cases ieq a.ae[j].an A0.an<;>cases enough a.ae[j].an 1<;>cases ile (ln<|ix a.Out (j:Int) []) 0<;>cases zdr (ix a.Out (j:Int) [])<;>rfl};{simp only [zbq,cF]};rw[zzU λj (_:Unit) g=>bif fits a j then g () else oF,zGE<|fits a,show a.ae.length=8 by omega];cases zqY (fits a) 8 0<;>rfl
def zVr:vP 80 ztq:=hF1 zKj zq zu zn z2F z1E
def zT8 (N:Nat)(c:Mon):OA:=
 (oN (zJ (ln c.ac) 1 2)<|cond (nB<|zl (ln c.ac) 1 2) oF<|cond (ine (ln c.ak)<|ln c.ac) oF<|oN (zk1 c.ae 8 12)<|cond (nB<|zfx c.ae 8 12) oF<|cond (ine (ln c.Out) 8) oF<|cond (ine (ln c.av) 8) oF<|q0 (σ:=(Int×Int×Int×Int×lS×lM×lB×lG×LI×lK×Unit)) N (λl b=>let c:=b.2.2.2.2;let n:=c.2.2.2.2;let d:=c.2.2.2.1; (cond (ilt b.1<|ln d) (oN (inb b.1<|ln d)<|oN (zbx<|ix d b.1 zA)<|cond (nB<|zjh<|ix d b.1 zA) oF<|l (zM .i64 b.1 1,b.2.1,b.2.2.1,b.2.2.2.1,c.1,c.2.1,c.2.2.1,d,n.1,n.2.1,()))<|q0 (σ:=(Int×Int×Int×Int×lS×lM×lB×lG×LI×lK×Unit)) N (λm a=>let b:=a.2.2.2.2.2;let h:=a.2.2.2.2.1;let i:=inb a.1<|ln b.1;let e:=ix b.1 a.1 [];let g:=ix h a.1 zX;let k:=ieq g.an zbm.an;let j:=ieq g.af zbm.af;let f:=m (zM .i64 a.1 1,a.2.1,a.2.2.1,a.2.2.2.1,h,b.1,b.2.1,b.2.2.1,b.2.2.2.1,b.2.2.2.2.1,()); (cond (ilt a.1 8) (oN (inb a.1<|ln h)<|oN zbO<|cond (nB<|cond j k false) (oN i<|cond (igt (ln e) 0) oF<|oN (inb a.1<|ln h)<|oN (zbi g.an 1)<|cond (nB<|zds g.an 1) oF<|cond (nB<|nB<|cond j k false) (oN i<|oN (zep e)<|cond (nB<|zdF e) oF f) f)<|cond (nB<|nB<|cond j k false) (oN i<|oN (zep e)<|cond (nB<|zdF e) oF f) f)<|cond (ile (ln b.2.2.2.1) 40) (oN (zch a.2.1)<|cond (zeY a.2.1) (oN (zJ a.2.2.1 0 3)<|cond (zl a.2.2.1 0 3) (oN (zJ a.2.2.2.1 0 1000000000)<|some [aB<|zl a.2.2.2.1 0 1000000000]) oF) oF) oF)) (0,b.2.1,b.2.2.1,b.2.2.2.1,c.1,c.2.1,c.2.2.1,d,n.1,n.2.1,()))) (0,c.aj,c.aq,c.Own,c.ae,c.Out,c.av,c.ac,c.Outs,c.ak,()))
def z2H:=zo [(81,0,{n:=115,tm:=[(1,.lp 0 0),(3,ti)],lo:=[(0,[.sl 0 [],.sl 1 [],.sl 2 [],.sl 3 [],.sl 4 [],ti,ti,.sl 5 [],ti])],ro:=[(0,.slot,false),(1,.sl .int,false),(2,.bool,false),(3,.guest,false),(4,.int,false),(5,.kept,false)]}),(81,2,{n:=115,tm:=[(1,.lp 0 0),(4,ti)],lo:=[(0,[.sl 0 [],.sl 1 [],.sl 2 [],.sl 3 [],.sl 4 [],ti,ti,.sl 5 [],ti])],ro:=[(0,.slot,false),(1,.sl .int,false),(2,.bool,false),(3,.guest,false),(4,.int,false),(5,.kept,false)]})]
def z1O (c:Mon)(r:zbE big [aT .mon c])(A:zku c=true):∃N,zT8 N c=some [aB<|zlr c]:=by
 have hg:c.ac.length<=big:=((zd0 r).1 (.s .guest c.ac) (by simp[AV.cvs,Ty.cells])).len;refine zcf λN d=>?_;unfold zT8 zlr zfQ oN nB;conv=>zeta
 refine i0 rfl (stB λw=>stI λy=>i0 rfl (stB λp=>stI λq=>stI λz=>?_));have m:=zut p;have n:ln c.Out=8:=qD q;simp only[ln] at m n;refine(zbp c.ac (λi (t:Unit)=>((i:Int),c.aj,c.aq,c.Own,c.ae,c.Out,c.av,c.ac,c.Outs,c.ak,())) _ (λ_ (x:ah) (_:Unit) l=>bif zey x then l () else oF) (λ(t:Unit)=>q0 (σ:=(Int×Int×Int×Int×lS×lM×lB×lG×LI×lK×Unit)) N (λh a=>cond (ilt a.1 8) (cond (inb a.1<|ln a.2.2.2.2.1) (cond zbO (cond (cond (cond (ieq (ix a.2.2.2.2.1 a.1 zX).af zbm.af) (ieq (ix a.2.2.2.2.1 a.1 zX).an zbm.an) false) false true) (cond (inb a.1<|ln a.2.2.2.2.2.1) (cond (igt (ln<|ix a.2.2.2.2.2.1 a.1 []) 0) oF<|cond (inb a.1<|ln a.2.2.2.2.1) (cond (zbi (ix a.2.2.2.2.1 a.1 zX).an 1) (cond (cond (zds (ix a.2.2.2.2.1 a.1 zX).an 1) false true) oF<|cond (cond (cond (cond (ieq (ix a.2.2.2.2.1 a.1 zX).af zbm.af) (ieq (ix a.2.2.2.2.1 a.1 zX).an zbm.an) false) false true) false true) (cond (inb a.1<|ln a.2.2.2.2.2.1) (cond (zep<|ix a.2.2.2.2.2.1 a.1 []) (cond (cond (zdF<|ix a.2.2.2.2.2.1 a.1 []) false true) oF<|h (zM .i64 a.1 1,a.2.1,a.2.2.1,a.2.2.2.1,a.2.2.2.2.1,a.2.2.2.2.2.1,a.2.2.2.2.2.2.1,a.2.2.2.2.2.2.2.1,a.2.2.2.2.2.2.2.2.1,a.2.2.2.2.2.2.2.2.2.1,())) none) none)<|h (zM .i64 a.1 1,a.2.1,a.2.2.1,a.2.2.2.1,a.2.2.2.2.1,a.2.2.2.2.2.1,a.2.2.2.2.2.2.1,a.2.2.2.2.2.2.2.1,a.2.2.2.2.2.2.2.2.1,a.2.2.2.2.2.2.2.2.2.1,())) none) none) none)<|cond (cond (cond (cond (ieq (ix a.2.2.2.2.1 a.1 zX).af zbm.af) (ieq (ix a.2.2.2.2.1 a.1 zX).an zbm.an) false) false true) false true) (cond (inb a.1<|ln a.2.2.2.2.2.1) (cond (zep<|ix a.2.2.2.2.2.1 a.1 []) (cond (cond (zdF<|ix a.2.2.2.2.2.1 a.1 []) false true) oF<|h (zM .i64 a.1 1,a.2.1,a.2.2.1,a.2.2.2.1,a.2.2.2.2.1,a.2.2.2.2.2.1,a.2.2.2.2.2.2.1,a.2.2.2.2.2.2.2.1,a.2.2.2.2.2.2.2.2.1,a.2.2.2.2.2.2.2.2.2.1,())) none) none)<|h (zM .i64 a.1 1,a.2.1,a.2.2.1,a.2.2.2.1,a.2.2.2.2.1,a.2.2.2.2.2.1,a.2.2.2.2.2.2.1,a.2.2.2.2.2.2.2.1,a.2.2.2.2.2.2.2.2.1,a.2.2.2.2.2.2.2.2.2.1,())) none) none)<|cond (ile (ln a.2.2.2.2.2.2.2.2.1) 40) (cond (zch a.2.1) (cond (zeY a.2.1) (cond (zJ a.2.2.1 0 3) (cond (zl a.2.2.1 0 3) (cond (zJ a.2.2.2.1 0 1000000000) (some [.one<|.b<|zl a.2.2.2.1 0 1000000000]) none) oF) none) oF) none) oF) (0,c.aj,c.aq,c.Own,c.ae,c.Out,c.av,c.ac,c.Outs,c.ak,())) (λi g t rec=>?_) (λt rec=>?_) _ ()<|d hg).trans ?_;{simp only [zbw g,zbc g,zbn g,zbj g hg,cT];simp only[zbx,zjh,cT];cases zey c.ac[i]<;>rfl};{simp only [zbq,cF]};rw[ziu zey];cases B:c.ac.all zey;{simp only [cF];cases ile (ln c.Outs) 40<;>cases zhj c.aj<;>cases zl c.aq 0 3<;>cases zl c.Own 0 1000000000<;>rfl};simp only[cT];refine(zwL 8 (λj (u:Unit)=>((j:Int),c.aj,c.aq,c.Own,c.ae,c.Out,c.av,c.ac,c.Outs,c.ak,())) _ (λj (_:Unit) l=>bif fits c j then l () else oF) (λ(u:Unit)=>cond (ile (ln c.Outs) 40) (cond (zch c.aj) (cond (zeY c.aj) (cond (zJ c.aq 0 3) (cond (zl c.aq 0 3) (cond (zJ c.Own 0 1000000000) (some [.one<|.b<|zl c.Own 0 1000000000]) none) oF) none) oF) none) oF) (λj v u f=>?_) (λu f=>?_) _ ()<|d (by decide)).trans ?_;{simp only [show ilt (j:Int) 8=true from qL (by omega),zbj v (show 8<=big by decide),cT];have e:j<c.ae.length:=(by omega);have k:j<c.Out.length:=(by omega);simp only[zbO,zbm,zep,zdF,zbi,zds,zbc e,zbc k,zSa,cT];unfold fits zos;simp only[zbn e,zdz];cases ieq c.ae[j].af A0.af<;>cases ieq c.ae[j].an A0.an<;>cases enough c.ae[j].an 1<;>cases ile (ln<|ix c.Out (j:Int) []) 0<;>cases zdr (ix c.Out (j:Int) [])<;>rfl};{simp only [show ilt ((8:Nat):Int) 8=false from qH (by omega),cF];rfl};rw[zGE<|fits c];simp only[zch,zeY,zJ,zXu,cT];cases zqY (fits c) 8 0<;>cases ile (ln c.Outs) 40<;>cases zhj c.aj<;>cases zl c.aq 0 3<;>cases zl c.Own 0 1000000000<;>rfl
def zVC:vP 81 ztq:=hF1 zKj zq zu zn z2H z1O
def zbbz:zbb:=[(81,ztq),(80,ztq)]++zbby
def zKk:zN zbbz:=zh zVC (zh zVr zKj)
def ziT:List k0->List Bool->Option (List Bool)
 |[],u=>some u
 |s::l,u=>bif ilt s.af 0 then ziT l u else (cond (ix u s.af false) none<|ziT l<|up u s.af true)
def zlo:List Mon->List Bool->Bool
 |[],_=>true
 |m::l,u=>bif zfQ m then (match ziT m.ae u with|some a=>zlo l a|none=>false) else false
def zbW (h:ad):Bool:=bif zlf h.ag 12 then (cond (zl (ln h.aa) 1 3) (cond (zhF h.ao) (cond (zhF h.am) (zlo h.aa<|rp 12 false) false) false) false) else false
def zsw:∀(l:List k0) (u a:List Bool),ziT l u=some a->a.length=u.length
 |[],u,a,h=>by cases h;rfl
 |s::l,u,a,h=>by simp only[ziT]at h;cases b:ilt s.af 0;{rw [b]at h;cases c:ix u s.af false;{rw [c]at h;simpa using zsw l _ a h};{rw [c]at h;cases h}};{rw [b]at h;exact zsw l u a h}
def zGR {t:List k0}{n:Int}(h:zek t n 12=true):∀s∈t,s.af<12:=by intro s d;unfold zek at h;cases b:t.all (λs=>zfZ s 12);{rw [b]at h;cases h};{have:=qP.1 b s d;unfold zfZ at this;cases a:zdz s A0;{rw [a] at this;simp only[cF,show igt 12 0=true from rfl,cT] at this;cases c:zl s.af 0 (wsub .i64 12 1);{rw [c] at this;cases this};{have:=(zff.1 c).2;rw[show wsub .i64 12 1=11 from rfl] at this;omega}};{unfold zdz at a;rw[qE]at a;have a:s.af = -1:=qD a.1;omega}}
def z06 {s:k0}{u:List Bool}(h:s.af<12)(b:u.length=12)(a:ilt s.af 0=false):inb s.af (ln u)=true:=by have:=qM a;exact qL (by simp only[ln];omega)
def zwm {a:Type}(r:Option a)(y:k0)(u:List Bool)(b:List Bool->Option a):Option a:=bif ilt y.af 0 then b u else (cond (inb y.af<|ln u) (cond (ix u y.af false) r<|cond (inb y.af<|ln u) (p0 (up u y.af true) λc=>b c) none) none)
def zBv {c:Type}(r:Option c)(K:List Bool->Option c):∀(l:List k0) (i:Nat) (u:List Bool),(∀s∈l,s.af<12)->u.length=12->
 goL (λ_ y u g=>zwm r y u g) K l i u=match ziT l u with|some f=>K f|none=>r
 |[],_,_,_,_=>rfl
 |s::l,i,u,h,b=>by simp only[goL,ziT,zwm];cases d:ilt s.af 0;{have e:=z06 (h s (by simp)) b d;rw[e];cases ix u s.af false;{simp only [cF,cT,p0];exact zBv r K l (i+1) _ (λs a=>h s (by simp[a])) (by simpa using b)};{rfl}};{simp only [cT];exact zBv r K l (i+1) u (λs a=>h s (by simp[a])) b}
def z3X {b:Type}(r:Option b)(m:Mon)(u:List Bool)(a:List Bool->Option b):Option b:=bif zfQ m then goL (λ_ y u a=>zwm r y u a) a m.ae 0 u else r
def zd1 {c x:Bool}:((cond c x false)=true)↔c=true/\x=true:=by cases c<;>simp
def zph {m:Mon}(h:zfQ m=true):zek m.ae 8 12=true:=by unfold zfQ at h;simp only[zd1]at h;exact h.2.2.1
def zYm {K:Bool->OA}(k:List Bool->OA)(a:∀u,k u=K true):∀(l:List Mon) (i:Nat) (u:List Bool),u.length=12->
 goL (λ_ m u g=>z3X (K false) m u g) k l i u=K (zlo l u)
 |[],_,u,_=>a u
 |m::l,i,u,b=>by simp only[goL,zlo,z3X];cases c:zfQ m;{rfl};{simp only [cT];have e:=zph c;rw[zBv _ _ _ _ _ (zGR e) b];cases d:ziT m.ae u with|none=>rfl|some f=>exact zYm k a l (i+1) f ((zsw _ _ _ d).trans b)}
@[simp] abbrev zb8 (h:ad):Bool:=true
@[simp] abbrev zb7 (h:ad):Bool:=zbW h
def znO:Run:=rF1 dH λb=>(zb8 b,[aB<|zb7 b])
def zMv (N:Nat)(c:ad):OA:=
 (oN (zkI c.ag 12)<|cond (nB<|zgB c.ag 12) oF<|oN (zJ (ln c.aa) 1 3)<|cond (nB<|zl (ln c.aa) 1 3) oF<|oN (zjI c.ao)<|cond (nB<|zi0 c.ao) oF<|oN (zjI c.am)<|cond (nB<|zi0 c.am) oF<|oN (cond (few 12) (ieq 12 12) false)<|q0 (σ:=(Int×Int×lB×lN×Unit)) N (λk b=>let h:=ix b.2.2.2.1 b.2.1 zi; (cond (ilt b.2.1 b.1) (oN (inb b.2.1<|ln b.2.2.2.1)<|oN (zku h)<|cond (nB<|zlr h) oF<|q0 (σ:=(Int×Int×Int×Int×Int×lB×lN×Unit)) N (λi a=>let f:=a.2.2.2.2.1;let g:=a.2.2.2.2.2.2.1;let j:=(ix g a.2.2.1 zi).ae;let d:=a.2.2.2.2.2.1;let e:=(ix j f zX).af; (cond (ilt f a.2.2.2.1) (oN (inb f<|ln j)<|cond (ilt e 0) (i (a.1,a.2.1,a.2.2.1,a.2.2.2.1,zM .i64 f 1,d,g,()))<|oN (inb e<|ln d)<|cond (ix d e false) oF<|oN (inb e<|ln d)<|p0 (up d e true) λl=>i (a.1,a.2.1,a.2.2.1,a.2.2.2.1,zM .i64 f 1,l,g,()))<|k (a.1,zM .i64 a.2.1 1,d,g,()))) (b.1,b.2.1,b.2.1,ln h.ae,0,b.2.2.1,b.2.2.2.1,())) oT)) (ln c.aa,0,rp 12 false,c.aa,()))
def z0G:=zo [(82,0,{n:=63,tm:=[(3,.sl 0 []),(33,.sl 1 []),(34,ti),(35,ti)],lo:=[],ro:=[(0,.bool,true),(1,.mon,false)]}),(82,2,{n:=63,tm:=[(3,.sl 0 []),(33,.sl 1 []),(34,ti),(35,ti),(43,.sl 1 [0]),(44,ti),(45,ti)],lo:=[],ro:=[(0,.bool,true),(1,.mon,false)]})]
def zYN (a:ad)(n:zbE big [aH a])(w:zb8 a=true):∃N,zMv N a=some [aB<|zb7 a]:=by
 have l:CVB big (.s .mon a.aa):=(zd0 n).1 _ (by simp[AV.cvs,zbl]);have g:=l.len;refine zcf λN d=>?_;unfold zMv zb7 zbW oN nB;conv=>zeta
 refine i0 rfl (stB λp=>i0 rfl (stB λq=>i0 rfl (stB λr=>i0 rfl (stB λv=>i0 rfl ?_))));refine(zbp a.aa (λi (t:lB)=>(ln a.aa,(i:Int),t,a.aa,())) _ (λ_ (x:Mon) (u:List Bool) h=>z3X (oF) x u h) (λ(t:lB)=>some [.one<|.b true]) (λi c t rec=>?_) (λt rec=>?_) _ (rp 12 false)<|d g).trans ?_;{simp only [zbw c,zbc c,zbn c,zbj c g,cT];unfold z3X;cases k:zfQ a.aa[i];{simp only [zku,zlr,k,cT,cF]};simp only[zku,zlr,k,cT,cF];have m:a.aa[i].ae.length<=big:=(l.inv.2 _ (jI c) (.s .slot _) (by simp[Ty.cells])).len;refine(zbp a.aa[i].ae (λj (u:lB)=>(ln a.aa,(i:Int),(i:Int),ln a.aa[i].ae,(j:Int),u,a.aa,())) _ (λ_ (y:k0) (u:List Bool) h=>zwm (oF) y u h) (λ(u:lB)=>rec (ln a.aa,((i+1:Nat):Int),u,a.aa,())) (λj f u e=>?_) (λu e=>?_) _ (t)<|d m).trans ?_;{simp only [zbw f,zbc f,zbn f,zbj f m,cT,zbc c,zbn c,zbj c g];rfl};{simp only [zbq,cF,zbc c,zbn c,zbj c g]};rfl};{simp only [zbq,cF]};exact zYm (K:=λb=>some [AV.one<|.b b]) _ (λ_=>rfl) _ _ _ rfl
def zRb:vP 82 znO:=hF1 zKk zq zu zn z0G zYN
def zKw {e:Type}(r:Option e)(k:List Bool->Option e)(m:Mon):∀(n i:Nat) (u:List Bool),(∀s∈m.ae,s.af<12)->u.length=12->i+n=m.ae.length->
 goN (λj u d=>bif inb (j:Int) (ln m.ae) then zwm r (ix m.ae (j:Int) zX) u d else none) k n i u=goL (λ_ y u d=>zwm r y u d) k (m.ae.drop i) i u
 | 0,i,u,_,_,h=>by have:i=m.ae.length:=(by omega);subst this;simp[goN,goL]
 |n+1,i,u,b,c,h=>by have a:i<m.ae.length:=(by omega);rw[kT a];simp only[goN,goL,zbc a,zbn a,cT,zwm];cases f:ilt m.ae[i].af 0;{rw [z06 (b _<|jI a) c f];cases ix u m.ae[i].af false;{simp only [cF,cT,p0];exact zKw r k m n (i+1) _ b (by simpa using c) (by omega)};{rfl}};{simp only [cT];exact zKw r k m n (i+1) u b c (by omega)}
def zMR (N:Nat)(b:ad):OA:=
 (oN (zkI b.ag 12)<|cond (nB<|zgB b.ag 12) oF<|oN (zJ (ln b.aa) 1 3)<|cond (nB<|zl (ln b.aa) 1 3) oF<|oN (zjI b.ao)<|cond (nB<|zi0 b.ao) oF<|oN (zjI b.am)<|cond (nB<|zi0 b.am) oF<|oN (cond (few 12) (ieq 12 12) false)<|q0 (σ:=(Int×lB×lM×lN×lE×lE×Unit)) N (λq c=>let n:=ix c.2.2.2.1 c.1 zi; (cond (ilt c.1<|ln c.2.2.2.1) (oN (inb c.1<|ln c.2.2.2.1)<|oN (zku n)<|cond (nB<|zlr n) oF<|q0 (σ:=(Int×Int×lB×lM×lN×lE×lE×Unit)) N (λi a=>let k:=zM .i64 a.2.1 1;let h:=a.2.2.2.2.2.1;let g:=a.2.2.2.2.2.2.1;let f:=a.2.2.1;let e:=a.2.2.2.2.1;let p:=(ix e a.1 zi).ae;let m:=i (a.1,k,f,a.2.2.2.1,e,h,g,());let d:=(ix p a.2.1 zX).af;let l:=inb d<|ln f; (cond (ilt a.2.1 8) (oN (inb a.1<|ln e)<|oN (inb a.2.1<|ln p)<|cond (ige d 0) (oN l<|cond (ix f d false) oF<|cond (ige d 0) (oN l<|p0 (up f d true) λj=>i (a.1,k,j,a.2.2.2.1,e,h,g,())) m)<|cond (ige d 0) (oN l<|p0 (up f d true) λj=>i (a.1,k,j,a.2.2.2.1,e,h,g,())) m)<|q (zM .i64 a.1 1,f,a.2.2.2.1,e,h,g,()))) (c.1,0,c.2.1,c.2.2.1,c.2.2.2.1,c.2.2.2.2.1,c.2.2.2.2.2.1,())) oT)) (0,rp 12 false,b.ag,b.aa,b.ao,b.am,()))
def z0O:=zo [(28,0,{n:=72,tm:=[(1,.lp 0 0),(3,.sl 0 []),(4,ti)],lo:=[(0,[.sl 1 [],.sl 2 [],.sl 3 [],.sl 4 []])],ro:=[(0,.bool,true),(1,.sl .int,false),(2,.mon,false),(3,.entry,false),(4,.entry,false)]}),(28,2,{n:=72,tm:=[(1,.lp 0 0),(3,.sl 0 []),(4,ti),(5,ti)],lo:=[(0,[.sl 1 [],.sl 2 [],.sl 3 [],.sl 4 []])],ro:=[(0,.bool,true),(1,.sl .int,false),(2,.mon,false),(3,.entry,false),(4,.entry,false)]})]
def zY7 (a:ad)(y:zbE big [aH a])(F:zb8 a=true):∃N,zMR N a=some [aB<|zb7 a]:=by
 have A:CVB big (.s .mon a.aa):=(zd0 y).1 _ (by simp[AV.cvs,zbl]);have h:=A.len;refine zcf λN f=>?_;unfold zMR zb7 zbW oN nB;conv=>zeta
 refine i0 rfl (stB λD=>i0 rfl (stB λq=>i0 rfl (stB λr=>i0 rfl (stB λE=>i0 rfl ?_))));refine(zbp a.aa (λi (t:lB)=>((i:Int),t,a.ag,a.aa,a.ao,a.am,())) _ (λ_ (x:Mon) (u:List Bool) d=>bif zfQ x then goN (λj u d=>bif inb (j:Int) (ln x.ae) then zwm (oF) (ix x.ae (j:Int) zX) u d else none) d 8 0 u else oF) (λ(t:lB)=>some [.one<|.b true]) (λi c t rec=>?_) (λt rec=>?_) _ (rp 12 false)<|f h).trans ?_;{simp only [zbw c,zbc c,zbn c,zbj c h,cT];cases v:zfQ a.aa[i];{simp only [zku,zlr,v,cT,cF]};simp only[zku,zlr,v,cT,cF];refine(zwL 8 (λj (u:lB)=>((i:Int),(j:Int),u,a.ag,a.aa,a.ao,a.am,())) _ (λj (u:List Bool) d=>bif inb (j:Int) (ln a.aa[i].ae) then zwm (oF) (ix a.aa[i].ae (j:Int) zX) u d else none) (λ(u:lB)=>rec (((i+1:Nat):Int),u,a.ag,a.aa,a.ao,a.am,())) (λj z u g=>?_) (λu g=>?_) _ (t)<|f (by decide)).trans ?_;{simp only [show ilt (j:Int) 8=true from qL (by omega),zbj z (show 8<=big by decide),cT,zbc c,zbn c,zbj c h];unfold zwm;have e:ige (ix a.aa[i].ae (j:Int) zX).af 0 = !ilt (ix a.aa[i].ae (j:Int) zX).af 0:=(by rw[zbdt,Bool.not_not]);simp only[e];cases ilt (ix a.aa[i].ae (j:Int) zX).af 0<;>cases inb (j:Int) (ln a.aa[i].ae)<;>cases inb (ix a.aa[i].ae (j:Int) zX).af (ln u)<;>cases ix u (ix a.aa[i].ae (j:Int) zX).af false<;>rfl};{simp only [show ilt ((8:Nat):Int) 8=false from qH (by omega),cF,zbc c,zbn c,zbj c h]};rfl};{simp only [zbq,cF]};have p:∀(l:List Mon) (i:Nat) (u:List Bool),u.length=12->goL (λ_ (x:Mon) (u:List Bool) d=>bif zfQ x then goN (λj u d=>bif inb (j:Int) (ln x.ae) then zwm (oF) (ix x.ae (j:Int) zX) u d else none) d 8 0 u else oF) (λ_=>oT) l i u=some [AV.one<|.b<|zlo l u]:=(by intro l;induction l with|nil=>intro i u _;rfl|cons m l B=>intro i u n;simp only[goL,zlo];cases q:zfQ m;{rfl};{have k:=zph q;have w:0+8=m.ae.length:=(by have:=zut k;simp only[ln] at this;omega);simp only[cT];rw[zKw _ _ m 8 0 u (zGR k) n w,vE,zBv _ _ _ _ _ (zGR k) n];cases r:ziT m.ae u with|none=>rfl|some C=>exact B (i+1) C ((zsw _ _ _ r).trans n)});exact p _ _ _ rfl
def zzX:vP 28 znO:=hF1 zKk zq zu zn z0O zY7
def zbbA:zbb:=[(28,znO),(82,znO)]++zbbz
def zBj:zN zbbA:=zh zzX (zh zRb zKk)
def z4I {h:ad}(a:zbW h=true):(h.aa.length:Int)<=3:=by unfold zbW at a;simp only[zd1]at a;exact(zff.1 a.2.1).2
def zcm (h:ad)(m:Int):Bool:=bif zbW h then j0 m (ln h.aa) else false
def zbP (h:ad)(m p:Int):Bool:=bif zbW h then (cond (j0 m<|ln h.aa) (j0 p 8) false) else false
def zTQ {h:ad}(a:zbW h=true)(m:Int):zl m 0 (wsub .i64 (ln h.aa) 1)=j0 m (ln h.aa):=zs5 (by have:=z4I a;omega) m
@[simp] abbrev zg2 (h:ad)(m:Int):Bool:=true
@[simp] abbrev zg1 (h:ad)(m:Int):Bool:=zcm h m
def zF3:Run:=rF2 dH dI λb c=>(zg2 b c,[aB<|zg1 b c])
def zNc (N:Nat)(a:ad)(b:Int):OA:=
 (oN (zb8 a)<|cond (zb7 a) (oN (zJ b 0<|wsub .i64 (ln a.aa) 1)<|some [aB<|zl b 0<|wsub .i64 (ln a.aa) 1]) oF)
def zZp (a:ad)(b:Int)(d:zg2 a b=true):∃N,zNc N a b=some [aB<|zg1 a b]:=by refine⟨0,?_⟩;unfold zNc zg1 zcm oN;cases c:zbW a;{simp only [zb8,zb7,c,cT,cF]};{simp only [zb8,zb7,c,cT,zJ,zXu,zTQ c]}
def zR7:vP 331 zF3:=kF2 zBj zq zu zn (zo []) zZp
@[simp] abbrev zjl (h:ad)(m p:Int):Bool:=true
@[simp] abbrev zeA (h:ad)(m p:Int):Bool:=zbP h m p
def zty:Run:=rF3 dH dI dI λb c d=>(zjl b c d,[aB<|zeA b c d])
def zUf (N:Nat)(a:ad)(b c:Int):OA:=
 (oN (zb8 a)<|cond (zb7 a) (oN (zJ b 0<|wsub .i64 (ln a.aa) 1)<|cond (zl b 0<|wsub .i64 (ln a.aa) 1) (oN (zJ c 0 7)<|some [aB<|zl c 0 7]) oF) oF)
def z1V (a:ad)(b c:Int)(e:zjl a b c=true):∃N,zUf N a b c=some [aB<|zeA a b c]:=by refine⟨0,?_⟩;unfold zUf zeA zbP oN;cases d:zbW a;{simp only [zb8,zb7,d,cT,cF]};{simp only [zb8,zb7,d,cT,zJ,zXu,zTQ d,has8];cases j0 b (ln a.aa)<;>rfl}
def zVK:vP 182 zty:=kF3 zBj zq zu zn (zo []) z1V
def zIq (N:Nat)(a:ad)(b c:Int):OA:=
 (oN (zb8 a)<|cond (zb7 a) (oN (zbi b<|ln a.aa)<|cond (zbX b<|ln a.aa) (oN (zbi c 8)<|some [aB<|zbX c 8]) oF) oF)
def zV9 (a:ad)(b c:Int)(e:zjl a b c=true):∃N,zIq N a b c=some [aB<|zeA a b c]:=by refine⟨0,?_⟩;unfold zIq zeA zbP oN;cases d:zbW a;{simp only [zb8,zb7,d,cT,cF]};{simp only [zb8,zb7,d,cT,zbi,zbX];cases j0 b (ln a.aa)<;>rfl}
def zN5:vP 180 zty:=kF3 zBj zq zu zn (zo []) zV9
def zbbB:zbb:=[(331,zF3),(182,zty),(180,zty)]++zbbA
def zX2:zN zbbB:=zh zR7 (zh zVK<|zh zN5 zBj)
end
end Go.Proofs.YtapgkefgcbapcaaGreat.E
