/- What is proved here: a part of the proof that the statement of this claim holds (several texts of wip/, laid together). -/
import Derived.Test.YtgjpbkhaaiffkaaGreatU3
import Derived.Shelf.Bits.Mul64
import Derived.Ground.NamesProg
import Derived.Laws.CopyOwn
import Derived.Deep.RegionLaw
import Derived.WalkKit
import Derived.Tactics2
namespace Go.Proofs.YtgjpbkhaaiffkaaGreat.E
open Go
set_option linter.constructorNameAsVariable false
set_option linter.unusedVariables false
set_option maxRecDepth 100000
set_option linter.unusedSimpArgs false
set_option linter.unusedSectionVars false
noncomputable section
theorem hE (h:Host):(⟨h.Memory,h.Mons,h.Buffer,h.IoBuffer⟩:Host)=h:=rfl
def idxs {a:Type}(p:a->Bool):List a->Nat->List Int
 |[],_=>[]
 |x::l,i=>bif p x then (i:Int)::idxs p l (i+1) else idxs p l (i+1)
theorem zvx {a:Type}(p:a->Bool):∀(l:List a) (i:Nat),(idxs p l i).length<=l.length
 |[],_=>qT _
 |x::l,i=>by have:=zvx p l (i+1);simp only[idxs];cases p x<;>simp<;>omega
theorem zrR {b c:Type}(p:b->Bool)(K:List Int->Option c):∀(l:List b) (i:Nat) (a:List Int),a.length+l.length<=2147483648->
 goL (λi x a k=>bif p x then (cond (few<|ln<|ap a [(i:Int)]) (k<|ap a [(i:Int)]) none) else k a) K l i a=K (a++idxs p l i)
 |[],i,a,_=>by simp[goL,idxs]
 |x::l,i,a,h=>by simp only[qU]at h;simp only[goL,idxs];cases p x;{simp only [cF];exact zrR p K l (i+1) a (by omega)};{simp only [cT];rw[zfE (by simp[ap];omega),cT,zrR p K l (i+1) _ (by simp[ap];omega)];simp[ap]}
def zxy (p:Nat->Bool):Nat->Nat->List Int
 | 0,_=>[]
 |n+1,i=>bif p i then (i:Int)::zxy p n (i+1) else zxy p n (i+1)
theorem zzE {b:Type}(p:Nat->Bool)(K:List Int->Option b):∀(n i:Nat) (a:List Int),a.length+n<=2147483648->
 goN (λi a k=>bif p i then (cond (few<|ln<|ap a [(i:Int)]) (k<|ap a [(i:Int)]) none) else k a) K n i a=K (a++zxy p n i)
 | 0,i,a,_=>by simp[goN,zxy]
 |n+1,i,a,h=>by simp only[goN,zxy];cases p i;{simp only [cF];exact zzE p K n (i+1) a (by omega)};{simp only [cT];rw[zfE (by simp[ap];omega),cT,zzE p K n (i+1) _ (by simp[ap];omega)];simp[ap]}
abbrev zrg (l:List Slot)(_:Int):Bool:=pc (l.length<=2147483648)
abbrev zhI (l:List Slot)(p:Int):List Int:=idxs (λ(s:Slot)=>ieq s.Page p) l 0
def zq3:Run:=rF2 (dS .slot) dI λb c=>(zrg b c,[aS .int<|zhI b c])
def zKK (N:Nat)(c:lS)(d:Int):OA:=
 (iter (σ:=(Int×Int×lS×(List Int)×Unit)) N (λb a=>cond (ilt a.2.1<|ln a.2.2.1) (oN (inb a.2.1<|ln a.2.2.1)<|cond (ieq (ix a.2.2.1 a.2.1 zW).Page a.1) (oN (few<|ln<|ap a.2.2.2.1 [a.2.1])<|b (a.1,zN .i64 a.2.1 1,a.2.2.1,ap a.2.2.2.1 [a.2.1],()))<|b (a.1,zN .i64 a.2.1 1,a.2.2.1,a.2.2.2.1,()))<|some [aS .int a.2.2.2.1]) (d,0,c,[],()))
def zYn:=zq [(403,0,{n:=26,tm:=[(0,.sl 0 []),(1,ti),(5,.sl 1 []),(6,ti)],lo:=[],ro:=[(0,.slot,false),(1,.int,true)]})]
theorem zWP (b:List Slot)(a:Int)(g:zbE big [aS .slot b,aI a])(h:zrg b a=true):∃N,zKK N b a=some [aS .int<|zhI b a]:=by have e:=len0 g;have j:=zD.1 h;refine zbX λN d=>?_;unfold zKK oN;refine(zY b (λi (t:(List Int))=>(a,(i:Int),b,t,())) _ (λi (x:Slot) (t:List Int) f=>bif ieq x.Page a then (cond (few<|ln<|ap t [(i:Int)]) (f<|ap t [(i:Int)]) none) else f t) (λ(t:(List Int))=>some [.one<|.s .int t]) (λi c t rec=>?_) (λt rec=>?_) _ ([])<|d e).trans ?_;{simp only [zbn c,zU c,zbb c,zX c e,cT]};{simp only [zbe,cF]};exact zrR (λ(s:Slot)=>ieq s.Page a) _ _ 0 [] (by simpa using j)
theorem zPr:vV 403 zq3:=hF2 zOl zbf zn zo zYn zWP
def zKl (N:Nat)(d:lS)(f:Int):OA:=
 (iter (σ:=(Int×Int×Int×(List Int)×lS×Unit)) N (λe a=>let c:=a.2.2.2.2.1;let b:=a.2.2.1; (cond (ilt b a.2.1) (oN (inb b<|ln c)<|cond (ieq (ix c b zW).Page a.1) (oN (few<|ln<|ap a.2.2.2.1 [b])<|e (a.1,a.2.1,zN .i64 b 1,ap a.2.2.2.1 [b],c,()))<|e (a.1,a.2.1,zN .i64 b 1,a.2.2.2.1,c,()))<|some [aS .int a.2.2.2.1])) (f,ln d,0,[],d,()))
def zYd:=zq [(308,0,{n:=26,tm:=[(1,ti),(5,.sl 0 []),(9,.sl 1 []),(10,ti),(11,ti)],lo:=[],ro:=[(0,.int,true),(1,.slot,false)]})]
theorem zWw (a:List Slot)(b:Int)(g:zbE big [aS .slot a,aI b])(h:zrg a b=true):∃N,zKl N a b=some [aS .int<|zhI a b]:=by
 have e:=len0 g;have j:=zD.1 h;refine zbX λN d=>?_;unfold zKl oN;conv=>zeta
 refine(zY a (λi (t:(List Int))=>(b,ln a,(i:Int),t,a,())) _ (λi (x:Slot) (t:List Int) f=>bif ieq x.Page b then (cond (few<|ln<|ap t [(i:Int)]) (f<|ap t [(i:Int)]) none) else f t) (λ(t:(List Int))=>some [.one<|.s .int t]) (λi c t rec=>?_) (λt rec=>?_) _ ([])<|d e).trans ?_;{simp only [zbn c,zU c,zbb c,zX c e,cT]};{simp only [zbe,cF]};exact zrR (λ(s:Slot)=>ieq s.Page b) _ _ 0 [] (by simpa using j)
theorem zO0:vV 308 zq3:=hF2 zOl zbf zn zo zYd zWw
def z9a:zbd:=[(403,zq3),(308,zq3)]++ctrW
theorem z6S:zQ z9a:=zf zPr (zf zO0 zOl)
def z9b:zbd:=z9a
theorem z6T:zQ z9b:=z6S
def z9c:zbd:=z9b
theorem zH1:zQ z9c:=z6T
def all2 {a:Type}(b:a->a->Bool):List a->List a->Bool
 |[],[]=>true
 |x::l,y::m=>b x y&&all2 b l m
 |_,_=>false
theorem zU8 {a:Type}(b:a->a->Bool):∀(l m:List a),l.length≠m.length->all2 b l m=false
 |[],[],h=>absurd rfl h
 |[],_::_,_=>rfl
 |_::_,[],_=>rfl
 |x::l,y::m,h=>by simp only[all2,zU8 b l m (by simpa using h),Bool.and_false]
theorem zVM {c g:Type}(e:c->c->Bool)(d:c)(b:List c)(r:Option g)(K:Unit->Option g):∀(a:List c) (i:Nat),a.length+i=b.length->
 goL (λi x (_:Unit) k=>bif e x (ix b (i:Int) d) then k () else r) K a i ()=bif all2 e a (b.drop i) then K () else r
 |[],i,h=>by have:b.drop i=[]:=kX (by simp at h;omega);rw[this];rfl
 |x::a,i,h=>by simp only[qU]at h;have f:i<b.length:=(by omega);rw[j5 f];simp only[goL,all2,zbb f];cases e x b[i];{rfl};{simp only [cT,uP];exact zVM e d b r K a (i+1) (by omega)}
theorem zbcs {a b:Type}{l:List a}{m:List b}(h:ine (ln l) (ln m)=true):l.length≠m.length:=by intro e;simp only[ine,ln,e,bne_self_eq_false]at h;cases h
theorem zje (x y:Int):ine x y = !ieq x y:=rfl
def eqI (a b:List Int):Bool:=all2 ieq a b
def zbq (_ _:List Int):Bool:=true
def zcB (a b:List Int):Bool:=eqI a b
def zhu:Run:=rF2 (dS .int) (dS .int) λb c=>(zbq b c,[aB<|zcB b c])
def zlD (N:Nat)(b c:List Int):OA:=
 (cond (ine (ln b)<|ln c) oF<|iter (σ:=(Int×Int×(List Int)×(List Int)×Unit)) N (λd a=>cond (ilt a.2.1 a.1) (oN (inb a.2.1<|ln a.2.2.1)<|oN (inb a.2.1<|ln a.2.2.2.1)<|cond (ine (ix a.2.2.1 a.2.1 0)<|ix a.2.2.2.1 a.2.1 0) oF<|d (a.1,zN .i64 a.2.1 1,a.2.2.1,a.2.2.2.1,())) oT) (ln b,0,b,c,()))
def zrA:=zq [(157,0,{n:=26,tm:=[(0,.sl 0 []),(1,.sl 1 []),(12,ti),(13,ti)],lo:=[],ro:=[(0,.int,false),(1,.int,false)]})]
theorem zrz (a c:List Int)(j:zbE big [aS .int a,aS .int c])(m:zbq a c=true):∃N,zlD N a c=some [aB<|zcB a c]:=by have h:=len0 j;refine zbX λN f=>?_;unfold zlD zcB eqI oN;cases g:ine (ln a) (ln c);{have e:=zPE g;rw[cF];refine(zY a (λi (t:Unit)=>(ln a,(i:Int),a,c,())) _ (λi (x:Int) (_:Unit) k=>bif ieq x (ix c (i:Int) 0) then k () else oF) (λ(t:Unit)=>some [.one<|.b true]) (λi d t rec=>?_) (λt rec=>?_) _ ()<|f h).trans ?_;{simp only [zbn d,zU d,zbb d,zX d h,cT];simp only[zU (l:=c) (i:=i)<|e ▸ d,cT,zje];cases ieq a[i] (ix c (↑i) 0)<;>rfl};{simp only [zbe,cF]};rw[zVM ieq 0 c _ _ a 0 (by simpa using e),uX];cases all2 ieq a c<;>rfl};{rw [zU8 _ _ _<|zbcs g];rfl}
theorem zjV:vV 157 zhu:=hF2 zH1 zbf zn zo zrA zrz
def zeO (l:List Int):Bool:=pc (l.length<=2147483648)
abbrev zeJ (l:List Int):List Int:=l
def zyR:Run:=rF1 (dS .int) λb=>(zeO b,[aS .int<|zeJ b])
def zB7 (N:Nat)(a:List Int):OA:=
 (oN (few<|ln<|ap [] a)<|some [aS .int<|ap [] a])
theorem zP6 (a:List Int)(b:zeO a=true):∃N,zB7 N a=some [aS .int<|zeJ a]:=by refine⟨0,?_⟩;unfold zB7 oN;rw[zoJ,zfE<|zD.1 b,cT]
theorem zIH:vV 254 zyR:=kF1 zH1 zbf zn zo (zq []) zP6
def z9d:zbd:=[(157,zhu),(254,zyR)]++z9c
theorem zH2:zQ z9d:=zf zjV (zf zIH zH1)
def zAl:List Int:=rp 4 0
def zcZ (m:List (List Int))(p:Int):List Int:=bif hasB p (ln m) then ix m p [] else zAl
def ziL (m:List (List Int))(_:Int):Bool:=pc (CVB sm<|.s (.sl .int) m)
def zkR (m:List (List Int))(p:Int):List Int:=zcZ m p
theorem z5x {m:List (List Int)}{p:Int}(b:CVB sm (.s (.sl .int) m))(a:hasB p (ln m)=true):(ix m p []).length<=2147483648 :=
 (zcu (b.inv.2 _ (zbQ a ([]:List Int)) (.s .int _) (qF.2 rfl)).len).2
def zqV:Run:=rF2 (dS<|.sl .int) dI λb c=>(ziL b c,[aS .int<|zkR b c])
def zKA (N:Nat)(a:lM)(b:Int):OA:=
 (oN (zJ b 0<|wsub .i64 (ln a) 1)<|cond (nB<|zi b 0<|wsub .i64 (ln a) 1) (oN (cond (few 4) (ieq 4 4) false)<|some [aS .int<|rp 4 0])<|oN (inb b<|ln a)<|oN (few<|ln<|ap []<|ix a b [])<|some [aS .int<|ap []<|ix a b []])
theorem zWH (b:List (List Int))(a:Int)(f:ziL b a=true):∃N,zKA N b a=some [aS .int<|zkR b a]:=by have d:=zD.1 f;refine⟨0,?_⟩;unfold zKA zkR zcZ oN nB;have e:zi a 0 (wsub .i64 (ln b) 1)=hasB a (ln b):=zMx (zcu d.len).1 a;rw[e];cases c:hasB a (ln b);{rfl};{simp only [zJ,cT,cF,zA c,zoJ,zfE<|z5x d c]}
theorem zPh:vV 344 zqV:=kF2 zH2 zbf zn zo (zq []) zWH
def zKa (N:Nat)(a:lM)(b:Int):OA:=
 (oN (zbj b<|ln a)<|cond (nB<|zca b<|ln a) (oN (cond (few 4) (ieq 4 4) false)<|some [aS .int<|rp 4 0])<|oN (inb b<|ln a)<|oN (zeO<|ix a b [])<|some [aS .int<|zeJ<|ix a b []])
theorem zWl (a:List (List Int))(b:Int)(d:ziL a b=true):∃N,zKa N a b=some [aS .int<|zkR a b]:=by have e:=zD.1 d;refine⟨0,?_⟩;unfold zKa zkR zcZ zca oN nB;cases c:hasB b (ln a);{rfl};{simp only [zbj,cT,cF,zA c,show zeO (ix a b [])=true from zba (z5x e c),zeJ]}
theorem zOO:vV 162 zqV:=kF2 zH2 zbf zn zo (zq []) zWl
def z9e:zbd:=[(344,zqV),(162,zqV)]++z9d
theorem zVr:zQ z9e:=zf zPh (zf zOO zH2)
def zcl (h:Host)(m p:Int):List Int :=
 bif hasB m (ln h.Mons) then (cond (hasB p 8) (cond (ine (zbK (ix h.Mons m zh).Outer p).Page<|-1) (zcZ h.Memory (zbK (ix h.Mons m zh).Outer p).Page)<|zcZ (ix h.Mons m zh).Out p) zAl) else zAl
def zzN (h:Host)(_ _:Int):Bool:=pc (zdv h)
def zzM (h:Host)(m p:Int):List Int:=zcl h m p
def zDZ:Run:=rF3 dH dI dI λb c d=>(zzN b c d,[aS .int<|zzM b c d])
def zKc (N:Nat)(a:Host)(c b:Int):OA:=
 let d:=ix a.Mons c zh;let e:=(ze8 d.Outer b).Page; (oN (zbj c<|ln a.Mons)<|cond (nB<|zca c<|ln a.Mons) (oN (cond (few 4) (ieq 4 4) false)<|some [aS .int<|rp 4 0])<|oN (zbj b 8)<|cond (nB<|zca b 8) (oN (cond (few 4) (ieq 4 4) false)<|some [aS .int<|rp 4 0])<|oN (inb c<|ln a.Mons)<|oN (zgx d.Outer b)<|cond (ine e<|-1) (oN (ziL a.Memory e)<|some [aS .int<|zkR a.Memory e])<|oN (ziL d.Out b)<|some [aS .int<|zkR d.Out b])
theorem zWn (a:Host)(b c:Int)(f:zzN a b c=true):∃N,zKc N a b c=some [aS .int<|zzM a b c]:=by
 have e:=zD.1 f;refine⟨0,?_⟩;unfold zKc zzM zcl zca oN nB;conv=>zeta
 cases d:hasB b (ln a.Mons);{rfl};{cases h:hasB c 8;{rfl};{have g:CVB sm (.s (.sl .int) (ix a.Mons b zh).Out):=e.mons.inv.2 _ (zbQ d zh) (.s (.sl .int) _) (by simp[Ty.cells]);simp only[zbj,cT,cF,zA d,zgx,ze8,show ∀p,ziL a.Memory p=true from λp=>zba e.mem,show ∀p,ziL (ix a.Mons b zh).Out p=true from λp=>zba g,zkR];cases ine (zbK (ix a.Mons b zh).Outer c).Page (-1)<;>rfl}}
theorem zOQ:vV 185 zDZ:=kF3 zVr zbf zn zo (zq []) zWn
def z9f:zbd:=[(185,zDZ)]++z9e
theorem z6U:zQ z9f:=zf zOQ zVr
def z9g:zbd:=z9f
theorem z6V:zQ z9g:=z6U
def ctrV:zbd:=z9g
theorem zbaK:∀f a,zx ctrV f=some a->Holds Tryz.prog f a:=z6V
def ctrU:zbd:=ctrV
theorem zd4:zQ ctrU:=zbaK
def zqA:ziB:=z7B
theorem zl:zg2 zqA:=zbf
def canRun (g:Guest):Bool:=bif (ieq g.Exit.Kind 0&&(ieq g.Exit.Page 0&&(zk9 g.Exit.Write false&&ieq g.Exit.N 0))) then !g.Halted else false
def zuB (_:Guest):Bool:=true
abbrev zpI (g:Guest):Bool:=canRun g
def zqM:Run:=rF1 (dT .guest) λb=>(zuB b,[aB<|zpI b])
def zKp (N:Nat)(a:Guest):OA:=
 (cond (cond (ieq a.Exit.Kind 0) (cond (ieq a.Exit.Page 0) (cond (zk9 a.Exit.Write false) (ieq a.Exit.N 0) false) false) false) (some [aB<|nB a.Halted]) oF)
theorem zDC (a:Guest)(b:zbE big [aT .guest a])(c:zuB a=true):∃N,zKp N a=some [aB<|zpI a]:=by refine⟨0,?_⟩;unfold zKp zpI canRun nB;cases ieq a.Exit.Kind 0<;>cases ieq a.Exit.Page 0<;>cases zk9 a.Exit.Write false<;>cases ieq a.Exit.N 0<;>simp
theorem zO6:vV 290 zqM:=hF1 zuJ zbf zn zo (zq []) zDC
theorem zOA:vV 164 zqM:=hF1 zuJ zbf zn zo (zq []) zDC
theorem must {d:Type}{c:Bool}{a b r:Option d}(h:c=true)(k:a=r):(cond c a b)=r:=by rw[h];exact k
theorem mu {d:Type}{c:Bool}{a b r:Option d}(k:a=r)(h:c=true:=by first|assumption|(simp_all<;>omega)):(cond c a b)=r:=must h k
theorem zb4 {d:Type}{c:Bool}{a b r:Option d}(h:c=false)(k:b=r):(cond c a b)=r:=by rw[h];exact k
theorem br {f:Type}{c:Bool}{a b r:Option f}(d:c=true->a=r)(e:c=false->b=r):(cond c a b)=r:=by cases c;{exact e rfl};{exact d rfl}
theorem brN {f:Type}{c:Bool}{a b r:Option f}(d:c=false->a=r)(e:c=true->b=r):(cond (cond c false true) a b)=r:=by cases c;{exact d rfl};{exact e rfl}
theorem shr {a b:Type}{x:a}{f:a->Option b}{r:Option b}(h:f x=r):share x f=r:=h
theorem zkE {e:Type}{c p:Bool}{a b:Option e}(d:c=true):(cond c (cond (cond p false true) a b) none)=bif p then b else a:=by rw[d];cases p<;>rfl
attribute [simp] zD
@[simp] theorem zbaW {a:Type}(l:List a):(few (ln l)=true)↔l.length<=2147483648:=by unfold few ln;rw[decide_eq_true_iff];omega
@[simp] theorem zbdW {a:Type}(l m:List a):(ap l m).length=l.length+m.length:=by simp[ap]
attribute [simp] zoJ zgN
@[simp] theorem z9F (n:Nat)(k:IntKind)(x:Int):CVB n (.i k x)↔True:=⟨λ_=>trivial,λ_=>.i k x⟩
@[simp] theorem zbd0 (n:Nat)(x:Bool):CVB n (.b x)↔True:=⟨λ_=>trivial,λ_=>.b x⟩
theorem znQ {n:Nat}{t:Ty}(l:List t.den):CVB n (.s t l)↔l.length<=n/\∀x∈l,∀c∈t.cells x,CVB n c:=⟨λh=>h.inv,λh=>.s t l h.1 h.2⟩
@[simp] theorem z0d (n:Nat)(l:List Int):CVB n (.s .int l)↔l.length<=n:=by rw[znQ];simp[Ty.cells]
@[simp] theorem zbck (n:Nat)(l:List Int):CVB n (.s .u8 l)↔l.length<=n:=by rw[znQ];simp[Ty.cells]
@[simp] theorem z7b (n:Nat)(l:List Bool):CVB n (.s .bool l)↔l.length<=n:=by rw[znQ];simp[Ty.cells]
@[simp] theorem z7d (n:Nat)(l:List Slot):CVB n (.s .slot l)↔l.length<=n:=by rw[znQ];simp[Ty.cells]
@[simp] theorem zbaM (n:Nat)(l:List Ins):CVB n (.s .ins l)↔l.length<=n:=by rw[znQ];simp[Ty.cells]
@[simp] theorem z4j (n:Nat)(l:List Entry):CVB n (.s .entry l)↔l.length<=n:=by rw[znQ];simp[Ty.cells]
@[simp] theorem zbaL (n:Nat)(l:List GAct):CVB n (.s .act l)↔l.length<=n:=by rw[znQ];simp[Ty.cells]
@[simp] theorem z7e (n:Nat)(l:List Told):CVB n (.s .told l)↔l.length<=n:=by rw[znQ];simp[Ty.cells]
def SmM (m:List (List Int)):Prop:=m.length<=1048576/\∀x∈m,x.length<=1048576
def SmG (g:Guest):Prop:=g.Prog.length<=1048576/\g.Written.length<=1048576/\g.Live.length<=1048576/\g.Seen.length<=1048576
def zpx (l:List Guest):Prop:=l.length<=1048576/\∀x∈l,SmG x
def SmB (b:Bare):Prop:=SmM b.Memory/\zpx b.Guests/\b.Outs.length<=1048576
def ztH (l:List Bare):Prop:=l.length<=1048576/\∀x∈l,SmB x
theorem z8n:sm=1048576:=rfl
@[simp] theorem z1x (l:List Int):CVB sm (.s .int l)↔l.length<=1048576:=z0d sm l
@[simp] theorem zbdy (l:List Int):CVB sm (.s .u8 l)↔l.length<=1048576:=zbck sm l
@[simp] theorem zYK (l:List Bool):CVB sm (.s .bool l)↔l.length<=1048576:=z7b sm l
@[simp] theorem zYL (l:List Slot):CVB sm (.s .slot l)↔l.length<=1048576:=z7d sm l
@[simp] theorem zbdb (l:List Ins):CVB sm (.s .ins l)↔l.length<=1048576:=zbaM sm l
@[simp] theorem zVA (l:List Entry):CVB sm (.s .entry l)↔l.length<=1048576:=z4j sm l
@[simp] theorem zbda (l:List GAct):CVB sm (.s .act l)↔l.length<=1048576:=zbaL sm l
@[simp] theorem zbcR (l:List Told):CVB sm (.s .told l)↔l.length<=1048576:=z7e sm l
@[simp] theorem zrN (l:List (List Int)):CVB sm (.s (.sl .int) l)↔SmM l:=by rw[znQ];simp[Ty.cells,SmM,z8n]
@[simp] theorem zbaq (g:Guest):(∀c∈Ty.cells .guest g,CVB sm c)↔SmG g:=by simp[Ty.cells,SmG,z8n]
@[simp] theorem zwp (l:List Guest):CVB sm (.s .guest l)↔zpx l:=by rw[znQ];simp only[zbaq];rfl
@[simp] theorem zbap (b:Bare):(∀c∈Ty.cells .bare b,CVB sm c)↔SmB b:=by simp only[Ty.cells,qG,qZ,or_false,vS,forall_eq,zrN,zwp,z0d,z9F,and_true];rfl
@[simp] theorem zbdD (l:List Bare):CVB sm (.s .bare l)↔ztH l:=by rw[znQ];simp only[zbap];rfl
@[simp] theorem zbdZ (a:List Ins)(b c:Int)(d e:List Slot)(f:Ctl)(g:Int)(h:GExit)(i:Bool)(j:List Int):SmG ⟨a,b,c,d,e,f,g,h,i,j⟩↔a.length<=1048576/\d.length<=1048576/\e.length<=1048576/\j.length<=1048576:=Iff.rfl
@[simp] theorem zbdY (m:List (List Int))(g:List Guest)(o:List Int)(p:Int):SmB ⟨m,g,o,p⟩↔SmM m/\zpx g/\o.length<=1048576:=Iff.rfl
theorem zNF {m:List (List Int)}{i:Int}{x:List Int}(h:SmM m)(b:x.length<=1048576):SmM (up m i x):=by refine⟨by simpa using h.1,λy a=>?_⟩;rcases jD a with a|rfl;{exact h.2 y a};{exact b}
theorem zEP {m:List Guest}{i:Int}{x:Guest}(h:zpx m)(b:SmG x):zpx (up m i x):=by refine⟨by simpa using h.1,λy a=>?_⟩;rcases jD a with a|rfl;{exact h.2 y a};{exact b}
theorem z0M {m:List Bare}{i:Int}{x:Bare}(h:ztH m)(b:SmB x):ztH (up m i x):=by refine⟨by simpa using h.1,λy a=>?_⟩;rcases jD a with a|rfl;{exact h.2 y a};{exact b}
theorem zNC {l:List Guest}{i:Int}(h:zpx l)(a:hasB i (ln l)=true)(d:Guest):SmG (ix l i d):=h.2 _ (zbQ a d)
theorem z5P {l:List Bare}{i:Int}(h:ztH l)(a:hasB i (ln l)=true)(d:Bare):SmB (ix l i d):=h.2 _ (zbQ a d)
theorem zbcL {l:List (List Int)}{i:Int}(h:SmM l)(a:hasB i (ln l)=true)(d:List Int):(ix l i d).length<=1048576:=h.2 _ (zbQ a d)
@[simp] theorem zbds:SmG zu:=⟨by decide,by decide,by decide,by decide⟩
@[simp] theorem zUV (x a b:Int):zi x a b=zi x a b:=rfl
@[simp] theorem zV6 (i n:Int):inb i n=hasB i n:=rfl
attribute [simp] zca
@[simp] theorem zsg {a:Type}{l:List a}(h:l.length<=1048576)(i:Int):zi i 0 (wsub .i64 (ln l) 1)=hasB i (ln l):=zSh (zcu h).1 i
theorem zJZ {a:Type}{l:List a}(h:l.length<=big)(i:Int):zi i 0 (wsub .i64 (ln l) 1)=hasB i (ln l):=zSh h i
theorem zf7 {x a b:Int}:(zi x a b=true)↔a<=x/\x<=b:=by unfold zi ige ile;simp only[qE,decide_eq_true_iff]
theorem zba3 (a b:Int):ilt a b = !ige a b:=by unfold ilt ige;by_cases h:a<b;{rw [qK h,qH (by omega)];rfl};{rw [qH h,qK (by omega)];rfl}
attribute [simp] zbi zbi zhY zhY zif zif zdi zdi ze8 ze8 zpI zpI zbN zbN
attribute [simp] zgb zdN zh2 zeJ
attribute [simp] zh0 zeb zhs zeO
def zbp (a:Int):Int:=bif ilt a 0 then -1 else zRp .i64 a 4
def zee (a:Int):Int:=bif ilt a 0 then -1 else zoF a 4
@[simp] abbrev zbs (a:Int):Bool:=true
@[simp] abbrev zbw (a:Int):Int:=zbp a
def zoc:Run:=rF1 dI λb=>(zbs b,[aI<|zbw b])
def zCh (N:Nat)(a:Int):OA:=
 (cond (ilt a 0) (some [aI<|-1])<|oN (ine 4 0)<|some [aI<|zRp .i64 a 4])
theorem zyu (a:Int)(b:zbE big [aI a])(c:zbs a=true):∃N,zCh N a=some [aI<|zbw a]:=by refine⟨0,?_⟩;unfold zCh oN;refine br (λ_=>?_) (λ_=>must rfl ?_);all_goals first|rfl|(simp only [*,zbw,zbp,cT,cF]<;>rfl)|simp_all[Ty.cells,zbw,zbp]
theorem zIQ:vV 207 zoc:=hF1 zd4 zl zn zo (zq []) zyu
theorem zIk:vV 73 zoc:=hF1 zd4 zl zn zo (zq []) zyu
@[simp] abbrev zcv (a:Int):Int:=zee a
def zob:Run:=rF1 dI λb=>(zbs b,[aI<|zcv b])
def zCg (N:Nat)(a:Int):OA:=
 (cond (ilt a 0) (some [aI<|-1])<|oN (ine 4 0)<|some [aI<|zoF a 4])
theorem zyt (a:Int)(b:zbE big [aI a])(c:zbs a=true):∃N,zCg N a=some [aI<|zcv a]:=by refine⟨0,?_⟩;unfold zCg oN;refine br (λ_=>?_) (λ_=>must rfl ?_);all_goals first|rfl|(simp only [*,zcv,zee,cT,cF]<;>rfl)|simp_all[Ty.cells,zcv,zee]
theorem zIP:vV 212 zob:=hF1 zd4 zl zn zo (zq []) zyt
theorem zIj:vV 78 zob:=hF1 zd4 zl zn zo (zq []) zyt
def zcq (w:Bool):Int:=bif w then 2 else 1
@[simp] abbrev ziK (w:Bool):Bool:=true
@[simp] abbrev zcR (w:Bool):Int:=zcq w
def zqT:Run:=rF1 dB λb=>(ziK b,[aI<|zcR b])
def zKz (N:Nat)(a:Bool):OA:=
 (cond a (some [aI 2])<|some [aI 1])
theorem zDG (a:Bool)(b:zbE big [aB a])(c:ziK a=true):∃N,zKz N a=some [aI<|zcR a]:=by refine⟨0,?_⟩;unfold zKz;refine br (λ_=>?_) (λ_=>?_);all_goals first|rfl|(simp only [*,zcR,zcq,cT,cF]<;>rfl)|simp_all[Ty.cells,zcR,zcq]
theorem zPf:vV 208 zqT:=hF1 zd4 zl zn zo (zq []) zDG
theorem zOM:vV 74 zqT:=hF1 zd4 zl zn zo (zq []) zDG
def zs6 (p:Int)(w:Bool):GExit:=⟨1,p,w,0⟩
def zu7 (n:Int):GExit:=⟨2,0,false,n⟩
def zyD (n:Int):GExit:=⟨3,0,false,n⟩
@[simp] abbrev zgv (p:Int)(w:Bool):Bool:=true
@[simp] abbrev zeW (p:Int)(w:Bool):GExit:=zs6 p w
def zmP:Run:=rF2 dI dB λb c=>(zgv b c,[.agg<|zuh<|zeW b c])
def zAH (N:Nat)(a:Int)(c:Bool):OA:=
 (some [.agg [.i .i64 1,.i .i64 a,.b c,.i .i64 0]])
theorem zwN (a:Int)(b:Bool)(c:zbE big [aI a,aB b])(d:zgv a b=true):∃N,zAH N a b=some [.agg<|zuh<|zeW a b]:=by refine⟨0,?_⟩;unfold zAH;first|rfl|(simp only [*,zeW,cT,cF]<;>rfl)|simp_all[Ty.cells,zeW]
theorem zFg:vV 210 zmP:=hF2 zd4 zl zn zo (zq []) zwN
theorem zEW:vV 76 zmP:=hF2 zd4 zl zn zo (zq []) zwN
@[simp] abbrev zha (n:Int):Bool:=true
@[simp] abbrev ziI (n:Int):GExit:=zu7 n
def zod:Run:=rF1 dI λb=>(zha b,[.agg<|zuh<|ziI b])
def zCo (N:Nat)(a:Int):OA:=
 (some [.agg [.i .i64 2,.i .i64 0,.b false,.i .i64 a]])
theorem zyv (a:Int)(b:zbE big [aI a])(c:zha a=true):∃N,zCo N a=some [.agg<|zuh<|ziI a]:=by refine⟨0,?_⟩;unfold zCo;first|rfl|(simp only [*,ziI,cT,cF]<;>rfl)|simp_all[Ty.cells,ziI]
theorem zIU:vV 298 zod:=hF1 zd4 zl zn zo (zq []) zyv
theorem zIm:vV 182 zod:=hF1 zd4 zl zn zo (zq []) zyv
@[simp] abbrev zlH (n:Int):GExit:=zyD n
def zpl:Run:=rF1 dI λb=>(zha b,[.agg<|zuh<|zlH b])
def zGB (N:Nat)(a:Int):OA:=
 (some [.agg [.i .i64 3,.i .i64 0,.b false,.i .i64 a]])
theorem zA0 (a:Int)(b:zbE big [aI a])(c:zha a=true):∃N,zGB N a=some [.agg<|zuh<|zlH a]:=by refine⟨0,?_⟩;unfold zGB;first|rfl|(simp only [*,zlH,cT,cF]<;>rfl)|simp_all[Ty.cells,zlH]
theorem zL2:vV 300 zpl:=hF1 zd4 zl zn zo (zq []) zA0
theorem zLB:vV 275 zpl:=hF1 zd4 zl zn zo (zq []) zA0
def zey (t x:Int):Bool:=bif zi t 0 3 then (cond (zi x 1 2) (ine (wand .i64 t x) 0) false) else false
theorem zbae (x:Int):zi x 1 2=(ieq x 1||ieq x 2):=by have h:(zi x 1 2=true)↔(ieq x 1||ieq x 2)=true:=(by rw[zf7];simp only[ieq,jY,qM];omega);cases a:zi x 1 2<;>cases b:(ieq x 1||ieq x 2)<;>simp_all
@[simp] abbrev zgV (t x:Int):Bool:=true
@[simp] abbrev zga (t x:Int):Bool:=zey t x
def zpf:Run:=rF2 dI dI λb c=>(zgV b c,[aB<|zga b c])
def zGt (N:Nat)(a b:Int):OA:=
 (oN (zJ a 0 3)<|cond (zi a 0 3) (oN (zJ b 1 2)<|cond (zi b 1 2) (some [aB<|ine (wand .i64 a b) 0]) oF) oF)
theorem zTX (a b:Int)(c:zgV a b=true):∃N,zGt N a b=some [aB<|zga a b]:=by refine⟨0,?_⟩;unfold zGt oN;refine must rfl (br (λ_=>must rfl (br (λ_=>?_) λ_=>?_)) λ_=>?_);all_goals first|rfl|(simp only [*,zga,zey,cT,cF]<;>rfl)|simp_all[Ty.cells,zga,zey]
theorem zLU:vV 299 zpf:=kF2 zd4 zl zn zo (zq []) zTX
def zF0 (N:Nat)(a b:Int):OA:=
 let c:=aB<|ine (wand .i64 a b) 0; (oN (zJ a 0 3)<|cond (zi a 0 3) (cond (ieq b 1) (some [c])<|cond (ieq b 2) (some [c]) oF) oF)
theorem zTv (a b:Int)(c:zgV a b=true):∃N,zF0 N a b=some [aB<|zga a b]:=by
 refine⟨0,?_⟩;unfold zF0 oN;conv=>zeta
 refine must rfl (br (λ_=>br (λ_=>?_) λ_=>br (λ_=>?_) λ_=>?_) λ_=>?_);all_goals first|rfl|(simp only [*,zga,zey,zbae,cT,cF]<;>rfl)|simp_all[Ty.cells,zga,zey,zbae]
theorem zLv:vV 183 zpf:=kF2 zd4 zl zn zo (zq []) zTv
def zem (p:Int):Bool:=zi p 0 255
@[simp] abbrev zcm (p:Int):Bool:=true
@[simp] abbrev ze7 (p:Int):Bool:=zem p
def zqY:Run:=rF1 dI λb=>(zcm b,[aB<|ze7 b])
def zKD (N:Nat)(a:Int):OA:=
 (oN (zJ a 0 255)<|some [aB<|zi a 0 255])
theorem zDI (a:Int)(b:zbE big [aI a])(c:zcm a=true):∃N,zKD N a=some [aB<|ze7 a]:=by refine⟨0,?_⟩;unfold zKD oN;refine must rfl ?_;first|rfl|(simp only [*,ze7,zem,cT,cF]<;>rfl)|simp_all[Ty.cells,ze7,zem]
theorem zPk:vV 294 zqY:=hF1 zd4 zl zn zo (zq []) zDI
theorem zOS:vV 258 zqY:=hF1 zd4 zl zn zo (zq []) zDI
def zcF (l:List Ins)(p:Int):Ins:=bif hasB p (ln l) then ix l p zpw else ⟨7,0⟩
@[simp] abbrev zdV (l:List Ins)(p:Int):Bool:=true
@[simp] abbrev zd5 (l:List Ins)(p:Int):Ins:=zcF l p
def zsE:Run:=rF2 (dS .ins) dI λb c=>(zdV b c,[aT .ins<|zd5 b c])
def zRD (N:Nat)(a:lI)(b:Int):OA:=
 (oN (zJ b 0<|wsub .i64 (ln a) 1)<|cond (nB<|zi b 0<|wsub .i64 (ln a) 1) (some [.agg [.i .i64 7,.i .i64 0]])<|oN (inb b<|ln a)<|some [.agg [.i .i64 (ix a b zpw).Op,.i .i64 (ix a b zpw).X]])
theorem zZd (a:List Ins)(b:Int)(c:zbE big [aS .ins a,aI b])(e:zdV a b=true):∃N,zRD N a b=some [aT .ins<|zd5 a b]:=by have d:=((zcV c).1 _ (qF.2 rfl)).len;have f:=zJZ d;refine⟨0,?_⟩;unfold zRD oN nB;refine must rfl (brN (λ_=>?_) λ_=>mu ?_);all_goals first|rfl|(simp only [*,zd5,zcF,cT,cF]<;>rfl)|simp_all[Ty.cells,zd5,zcF]
theorem zTa:vV 218 zsE:=hF2 zd4 zl zn zo (zq []) zZd
def zRs (N:Nat)(a:lI)(b:Int):OA:=
 (oN (zbj b<|ln a)<|cond (nB<|zca b<|ln a) (some [.agg [.i .i64 7,.i .i64 0]])<|oN (inb b<|ln a)<|some [.agg [.i .i64 (ix a b zpw).Op,.i .i64 (ix a b zpw).X]])
theorem zY3 (a:List Ins)(b:Int)(c:zdV a b=true):∃N,zRs N a b=some [aT .ins<|zd5 a b]:=by refine⟨0,?_⟩;unfold zRs oN nB;refine must rfl (brN (λ_=>?_) λ_=>mu ?_);all_goals first|rfl|(simp only [*,zd5,zcF,cT,cF]<;>rfl)|simp_all[Ty.cells,zd5,zcF]
theorem zSZ:vV 166 zsE:=kF2 zd4 zl zn zo (zq []) zY3
def zgM (w:Int):Int:=bif ieq w 5 then 1 else 2
@[simp] abbrev zqu (w:Int):Bool:=true
@[simp] abbrev zjs (w:Int):Int:=zgM w
def zD2:Run:=rF1 dI λb=>(zqu b,[aI<|zjs b])
def zKn (N:Nat)(a:Int):OA:=
 (cond (ieq a 5) (some [aI 1])<|some [aI 2])
theorem zWy (a:Int)(b:zqu a=true):∃N,zKn N a=some [aI<|zjs a]:=by refine⟨0,?_⟩;unfold zKn;refine br (λ_=>?_) (λ_=>?_);all_goals first|rfl|(simp only [*,zjs,zgM,cT,cF]<;>rfl)|simp_all[Ty.cells,zjs,zgM]
theorem zO3:vV 172 zD2:=kF1 zd4 zl zn zo (zq []) zWy
def zeT (s:Slot)(n:Int):Bool:=bif zc5 s noSlot then true else (cond (igt n 0) (cond (zi s.Page 0<|wsub .i64 n 1) (zi s.Rights 1 3) false) false)
@[simp] abbrev zmf (s:Slot)(n:Int):Bool:=true
@[simp] abbrev zjL (s:Slot)(n:Int):Bool:=zeT s n
def zq2:Run:=rF2 (dT .slot) dI λb c=>(zmf b c,[aB<|zjL b c])
def zKH (N:Nat)(a:Slot)(b:Int):OA:=
 (oN zbN<|cond (cond (ieq a.Page zbi.Page) (ieq a.Rights zbi.Rights) false) oT<|oN (zJ a.Page 0<|wsub .i64 b 1)<|cond (zi a.Page 0<|wsub .i64 b 1) (cond (igt b 0) (oN (zJ a.Rights 1 3)<|some [aB<|zi a.Rights 1 3]) oF) oF)
theorem zWN (a:Slot)(b:Int)(c:zmf a b=true):∃N,zKH N a b=some [aB<|zjL a b]:=by refine⟨0,?_⟩;unfold zKH oN;refine must rfl (br (λ_=>?_) λ_=>must rfl (br (λ_=>br (λ_=>must rfl ?_) λ_=>?_) λ_=>?_));all_goals first|rfl|(simp only [*,zjL,zeT,zc5,cT,cF]<;>rfl)|simp_all[Ty.cells,zjL,zeT,zc5]
theorem zPo:vV 220 zq2:=kF2 zd4 zl zn zo (zq []) zWN
def zKi (N:Nat)(a:Slot)(b:Int):OA:=
 (oN zbN<|cond (cond (ieq a.Page zbi.Page) (ieq a.Rights zbi.Rights) false) oT<|cond (igt b 0) (oN (zJ a.Page 0<|wsub .i64 b 1)<|cond (zi a.Page 0<|wsub .i64 b 1) (oN (zJ a.Rights 1 3)<|some [aB<|zi a.Rights 1 3]) oF) oF)
theorem zWt (a:Slot)(b:Int)(c:zmf a b=true):∃N,zKi N a b=some [aB<|zjL a b]:=by refine⟨0,?_⟩;unfold zKi oN;refine must rfl (br (λ_=>?_) λ_=>br (λ_=>must rfl (br (λ_=>must rfl ?_) λ_=>?_)) λ_=>?_);all_goals first|rfl|(simp only [*,zjL,zeT,zc5,cT,cF]<;>rfl)|simp_all[Ty.cells,zjL,zeT,zc5]
theorem zOW:vV 232 zq2:=kF2 zd4 zl zn zo (zq []) zWt
@[simp] abbrev zhm (l:List Slot):Bool:=pc (l.length<=2147483648)
@[simp] abbrev zfi (l:List Slot):List Slot:=l
def zw0:Run:=rF1 (dS .slot) λb=>(zhm b,[aS .slot<|zfi b])
def zAz (N:Nat)(a:lS):OA:=
 (oN (few<|ln<|ap [] a)<|some [aS .slot<|ap [] a])
theorem zMM (a:List Slot)(b:zhm a=true):∃N,zAz N a=some [aS .slot<|zfi a]:=by have c:=zD.1 b;refine⟨0,?_⟩;unfold zAz oN;refine mu ?_;first|rfl|(simp only [*,zfi,cT,cF]<;>rfl)|simp_all[Ty.cells,zfi]
theorem zE8:vV 255 zw0:=kF1 zd4 zl zn zo (zq []) zMM
@[simp] abbrev zqs (l:List Ins):Bool:=pc (l.length<=2147483648)
@[simp] abbrev znW (l:List Ins):List Ins:=l
def zyT:Run:=rF1 (dS .ins) λb=>(zqs b,[aS .ins<|znW b])
def zB9 (N:Nat)(a:lI):OA:=
 (oN (few<|ln<|ap [] a)<|some [aS .ins<|ap [] a])
theorem zP8 (a:List Ins)(b:zqs a=true):∃N,zB9 N a=some [aS .ins<|znW a]:=by have c:=zD.1 b;refine⟨0,?_⟩;unfold zB9 oN;refine mu ?_;first|rfl|(simp only [*,znW,cT,cF]<;>rfl)|simp_all[Ty.cells,znW]
theorem zIJ:vV 196 zyT:=kF1 zd4 zl zn zo (zq []) zP8
def zhv (m:List (List Int))(p c:Int):Bool:=bif hasB p (ln m) then hasB c (ln<|ix m p []) else false
def cellAt (m:List (List Int))(p c:Int):Int:=bif zhv m p c then ix (ix m p []) c 0 else 0
def zbU (m:List (List Int))(p c v:Int):List (List Int):=bif zhv m p c then (cond (zi v 0 99) (up m p<|up (ix m p []) c v) m) else m
theorem zzU (m:List (List Int))(p c:Int):(zhv m p c=true)↔hasB p (ln m)=true/\hasB c (ln<|ix m p [])=true:=by unfold zhv;cases hasB p (ln m)<;>simp
theorem zbcj {n:Nat}{m:List (List Int)}(h:CVB n (.s (.sl .int) m)):m.length<=n/\∀p:Int,hasB p (ln m)=true->(ix m p []).length<=n :=
 ⟨h.len,λp a=>(h.inv.2 _ (zbQ a []) _ (qF.2 rfl)).len⟩
@[simp] abbrev zeK (m:List (List Int))(p c:Int):Bool:=true
@[simp] abbrev zr9 (m:List (List Int))(p c:Int):Bool:=zhv m p c
def zD3:Run:=rF3 (dS<|.sl .int) dI dI λb c d=>(zeK b c d,[aB<|zr9 b c d])
def zKM (N:Nat)(a:lM)(b c:Int):OA:=
 let d:=wsub .i64 (ln<|ix a b []) 1; (oN (zJ b 0<|wsub .i64 (ln a) 1)<|cond (zi b 0<|wsub .i64 (ln a) 1) (oN (inb b<|ln a)<|oN (zJ c 0 d)<|some [aB<|zi c 0 d]) oF)
theorem zWQ (a:List (List Int))(b c:Int)(e:zbE big [aS (.sl .int) a,aI b,aI c])(g:zeK a b c=true):∃N,zKM N a b c=some [aB<|zr9 a b c]:=by
 have d:=zbcj ((zcV e).1 _ (qF.2 rfl));have j:=zJZ d.1;have f:∀p i:Int,hasB p (ln a)=true->zi i 0 (wsub .i64 (ln<|ix a p []) 1)=hasB i (ln<|ix a p []):=λp i h=>zJZ (d.2 p h) i;refine⟨0,?_⟩;unfold zKM oN;conv=>zeta
 refine must rfl (br (λ_=>mu (must rfl ?_)) λ_=>?_);all_goals first|rfl|(simp only [*,zr9,zhv,cT,cF]<;>rfl)|simp_all[Ty.cells,zr9,zhv]
theorem zPs:vV 297 zD3:=hF3 zd4 zl zn zo (zq []) zWQ
@[simp] abbrev zf6 (m:List (List Int))(p c:Int):Int:=cellAt m p c
def zqG:Run:=rF3 (dS<|.sl .int) dI dI λb c d=>(zeK b c d,[aI<|zf6 b c d])
def zJ1 (N:Nat)(a:lM)(b c:Int):OA:=
 let d:=ix a b []; (oN (zbj b<|ln a)<|cond (nB<|zca b<|ln a) (some [aI 0])<|oN (inb b<|ln a)<|oN (zbj c<|ln d)<|cond (nB<|zca c<|ln d) (some [aI 0])<|oN (inb b<|ln a)<|oN (inb c<|ln d)<|some [aI<|ix d c 0])
theorem zWb (a:List (List Int))(b c:Int)(d:zeK a b c=true):∃N,zJ1 N a b c=some [aI<|zf6 a b c]:=by
 refine⟨0,?_⟩;unfold zJ1 oN nB;conv=>zeta
 refine must rfl (brN (λ_=>?_) λ_=>mu (must rfl (brN (λ_=>?_) λ_=>mu (mu ?_))));all_goals first|rfl|(simp only [*,zf6,cellAt,zhv,cT,cF]<;>rfl)|simp_all[Ty.cells,zf6,cellAt,zhv]
theorem zOB:vV 81 zqG:=kF3 zd4 zl zn zo (zq []) zWb
def z1m:zbd:=[(290,zqM),(164,zqM),(207,zoc),(73,zoc),(212,zob),(78,zob),(208,zqT),(74,zqT),(210,zmP),(76,zmP),(298,zod),(182,zod),(300,zpl),(275,zpl),(299,zpf),(183,zpf),(294,zqY),(258,zqY),(218,zsE),(166,zsE),(172,zD2),(220,zq2),(232,zq2),(255,zw0),(196,zyT),(297,zD3),(81,zqG)]++ctrU
theorem zhy:zQ z1m:=zf zO6 (zf zOA<|zf zIQ<|zf zIk<|zf zIP<|zf zIj<|zf zPf<|zf zOM<|zf zFg<|zf zEW<|zf zIU<|zf zIm<|zf zL2<|zf zLB<|zf zLU<|zf zLv<|zf zPk<|zf zOS<|zf zTa<|zf zSZ<|zf zO3<|zf zPo<|zf zOW<|zf zE8<|zf zIJ<|zf zPs<|zf zOB zd4)
def zKq (N:Nat)(a:lM)(b c:Int):OA:=
 (oN (zeK a b c)<|cond (nB<|zr9 a b c) (some [aI 0])<|oN (inb b<|ln a)<|oN (inb c<|ln<|ix a b [])<|some [aI<|ix (ix a b []) c 0])
theorem zWA (a:List (List Int))(b c:Int)(d:zeK a b c=true):∃N,zKq N a b c=some [aI<|zf6 a b c]:=by have e:=(zzU a b c).1;refine⟨0,?_⟩;unfold zKq oN nB;refine must rfl (brN (λ_=>?_) λ_=>mu (mu ?_));all_goals first|rfl|(simp only [*,zf6,cellAt,cT,cF]<;>rfl)|simp_all[Ty.cells,zf6,cellAt]
theorem zO7:vV 215 zqG:=kF3 zhy zl zn zo (zq []) zWA
def zds (t:List Slot)(n p:Int):Bool:=bif t.all (λs=>zeT s p) then ieq (ln t) n else false
@[simp] abbrev zkU (t:List Slot)(n p:Int):Bool:=true
@[simp] abbrev zfH (t:List Slot)(n p:Int):Bool:=zds t n p
def zpq:Run:=rF3 (dS .slot) dI dI λb c d=>(zkU b c d,[aB<|zfH b c d])
def zGH (N:Nat)(d:lS)(e f:Int):OA:=
 (iter (σ:=(Int×Int×Int×lS×Unit)) N (λg a=>let b:=a.2.2.2.1;let c:=ix b a.2.2.1 zW; (cond (ilt a.2.2.1<|ln b) (oN (inb a.2.2.1<|ln b)<|oN (zmf c a.2.1)<|cond (nB<|zjL c a.2.1) oF<|g (a.1,a.2.1,zN .i64 a.2.2.1 1,b,()))<|some [aB<|ieq (ln b) a.1])) (e,f,0,d,()))
def zUy:=zq [(349,0,{n:=25,tm:=[(0,.sl 0 []),(1,ti),(2,ti),(7,ti)],lo:=[],ro:=[(0,.slot,false)]})]
theorem zT9 (a:List Slot)(d c:Int)(j:zbE big [aS .slot a,aI d,aI c])(l:zkU a d c=true):∃N,zGH N a d c=some [aB<|zfH a d c]:=by
 have h:(_:List _).length<=big:=((zcV j).1 _ (qF.2 rfl)).len;refine zbX λN g=>?_;unfold zGH oN nB;conv=>zeta
 refine(zY a (λi (t:Unit)=>(d,c,(i:Int),a,())) _ (λ_ x (_:Unit) k=>bif (λs=>zeT s c) x then k () else oF) (λ(t:Unit)=>some [.one<|.b<|ieq (ln a) d]) (λi e t rec=>?_) (λt rec=>?_) _ ()<|g h).trans ?_;{simp only [zbn e,zU e,zbb e,zX e h,cT];exact zkE rfl};{simp only [zbe,cF]};rw[zhi λs=>zeT s c];refine br (λf=>?_) (λf=>?_);{first|rfl|(simp only [f,zfH,zds,cT,cF]<;>rfl)|(simp_all [Ty.cells,zfH,zds];done)};{first|rfl|(simp only [f,zfH,zds,cT,cF]<;>rfl)|(simp_all [Ty.cells,zfH,zds];done)}
theorem zL8:vV 349 zpq:=hF3 zhy zl zn zo zUy zT9
def zGc (N:Nat)(c:lS)(e f:Int):OA:=
 (iter (σ:=(Int×Int×Int×Int×lS×Unit)) N (λg a=>let b:=a.2.2.2.2.1;let d:=ix b a.2.2.2.1 zW; (cond (ilt a.2.2.2.1 a.2.2.1) (oN (inb a.2.2.2.1<|ln b)<|oN (zmf d a.2.1)<|cond (nB<|zjL d a.2.1) oF<|g (a.1,a.2.1,a.2.2.1,zN .i64 a.2.2.2.1 1,b,()))<|some [aB<|ieq (ln b) a.1])) (e,f,ln c,0,c,()))
def zUt:=zq [(257,0,{n:=24,tm:=[(0,.sl 0 []),(1,ti),(2,ti),(9,.sl 0 []),(10,ti),(11,ti)],lo:=[],ro:=[(0,.slot,false)]})]
theorem zTI (a:List Slot)(d c:Int)(j:zbE big [aS .slot a,aI d,aI c])(l:zkU a d c=true):∃N,zGc N a d c=some [aB<|zfH a d c]:=by
 have h:(_:List _).length<=big:=((zcV j).1 _ (qF.2 rfl)).len;refine zbX λN g=>?_;unfold zGc oN nB;conv=>zeta
 refine(zY a (λi (t:Unit)=>(d,c,ln a,(i:Int),a,())) _ (λ_ x (_:Unit) k=>bif (λs=>zeT s c) x then k () else oF) (λ(t:Unit)=>some [.one<|.b<|ieq (ln a) d]) (λi e t rec=>?_) (λt rec=>?_) _ ()<|g h).trans ?_;{simp only [zbn e,zU e,zbb e,zX e h,cT];exact zkE rfl};{simp only [zbe,cF]};rw[zhi λs=>zeT s c];refine br (λf=>?_) (λf=>?_);{first|rfl|(simp only [f,zfH,zds,cT,cF]<;>rfl)|(simp_all [Ty.cells,zfH,zds];done)};{first|rfl|(simp only [f,zfH,zds,cT,cF]<;>rfl)|(simp_all [Ty.cells,zfH,zds];done)}
theorem zLI:vV 257 zpq:=hF3 zhy zl zn zo zUt zTI
def zcT (c:List Int):Bool:=bif c.all (λx=>zi x 0 99) then ieq (ln c) 4 else false
@[simp] abbrev zeo (c:List Int):Bool:=true
@[simp] abbrev zdM (c:List Int):Bool:=zcT c
def zqX:Run:=rF1 (dS .int) λb=>(zeo b,[aB<|zdM b])
def zKC (N:Nat)(b:List Int):OA:=
 (iter (σ:=(Int×(List Int)×Unit)) N (λc a=>cond (ilt a.1<|ln a.2.1) (oN (inb a.1<|ln a.2.1)<|oN (zJ (ix a.2.1 a.1 0) 0 99)<|cond (nB<|zi (ix a.2.1 a.1 0) 0 99) oF<|c (zN .i64 a.1 1,a.2.1,()))<|some [aB<|ieq (ln a.2.1) 4]) (0,b,()))
def zYk:=zq [(351,0,{n:=19,tm:=[(0,.sl 0 []),(3,ti)],lo:=[],ro:=[(0,.int,false)]})]
theorem zWJ (a:List Int)(g:zbE big [aS .int a])(j:zeo a=true):∃N,zKC N a=some [aB<|zdM a]:=by have f:(_:List _).length<=big:=((zcV g).1 _ (qF.2 rfl)).len;refine zbX λN e=>?_;unfold zKC oN nB;refine(zY a (λi (t:Unit)=>((i:Int),a,())) _ (λ_ x (_:Unit) h=>bif (λx=>zi x 0 99) x then h () else oF) (λ(t:Unit)=>some [.one<|.b<|ieq (ln a) 4]) (λi c t rec=>?_) (λt rec=>?_) _ ()<|e f).trans ?_;{simp only [zbn c,zU c,zbb c,zX c f,cT];exact zkE rfl};{simp only [zbe,cF]};rw[zhi λx=>zi x 0 99];refine br (λd=>?_) (λd=>?_);{first|rfl|(simp only [d,zdM,zcT,cT,cF]<;>rfl)|(simp_all [Ty.cells,zdM,zcT];done)};{first|rfl|(simp only [d,zdM,zcT,cT,cF]<;>rfl)|(simp_all [Ty.cells,zdM,zcT];done)}
theorem zPj:vV 351 zqX:=hF1 zhy zl zn zo zYk zWJ
def zKd (N:Nat)(b:List Int):OA:=
 (iter (σ:=(Int×Int×(List Int)×Unit)) N (λc a=>cond (ilt a.2.1 a.1) (oN (inb a.2.1<|ln a.2.2.1)<|oN (zJ (ix a.2.2.1 a.2.1 0) 0 99)<|cond (nB<|zi (ix a.2.2.1 a.2.1 0) 0 99) oF<|c (a.1,zN .i64 a.2.1 1,a.2.2.1,()))<|some [aB<|ieq (ln a.2.2.1) 4]) (ln b,0,b,()))
def zYa:=zq [(256,0,{n:=18,tm:=[(0,.sl 0 []),(5,.sl 0 []),(6,ti),(7,ti)],lo:=[],ro:=[(0,.int,false)]})]
theorem zWo (a:List Int)(g:zbE big [aS .int a])(j:zeo a=true):∃N,zKd N a=some [aB<|zdM a]:=by have f:(_:List _).length<=big:=((zcV g).1 _ (qF.2 rfl)).len;refine zbX λN e=>?_;unfold zKd oN nB;refine(zY a (λi (t:Unit)=>(ln a,(i:Int),a,())) _ (λ_ x (_:Unit) h=>bif (λx=>zi x 0 99) x then h () else oF) (λ(t:Unit)=>some [.one<|.b<|ieq (ln a) 4]) (λi c t rec=>?_) (λt rec=>?_) _ ()<|e f).trans ?_;{simp only [zbn c,zU c,zbb c,zX c f,cT];exact zkE rfl};{simp only [zbe,cF]};rw[zhi λx=>zi x 0 99];refine br (λd=>?_) (λd=>?_);{first|rfl|(simp only [d,zdM,zcT,cT,cF]<;>rfl)|(simp_all [Ty.cells,zdM,zcT];done)};{first|rfl|(simp only [d,zdM,zcT,cT,cF]<;>rfl)|(simp_all [Ty.cells,zdM,zcT];done)}
theorem zOR:vV 256 zqX:=hF1 zhy zl zn zo zYa zWo
def zfT (i:Ins):Bool:=bif (ieq i.Op 1||ieq i.Op 2||ieq i.Op 5||ieq i.Op 6) then zi i.X 0 99 else (cond (ieq i.Op 3||ieq i.Op 4) (zi i.X 0 15)<|cond (ieq i.Op 7) (ieq i.X 0)<|cond (ieq i.Op 8) (zi i.X 0 11) false)
@[simp] abbrev zxe (i:Ins):Bool:=true
@[simp] abbrev zuT (i:Ins):Bool:=zfT i
def zsF:Run:=rF1 (dT .ins) λb=>(zxe b,[aB<|zuT b])
def zRE (N:Nat)(a:Ins):OA:=
 let b:=ieq a.Op 4;let l:=zJ a.X 0 99;let k:=aB<|zi a.X 0 99;let j:=ieq a.Op 8;let i:=ieq a.Op 7;let h:=ieq a.Op 3;let g:=zJ a.X 0 11;let f:=zJ a.X 0 15;let e:=aB<|ieq a.X 0;let d:=aB<|zi a.X 0 11;let c:=aB<|zi a.X 0 15; (cond (ieq a.Op 1) (cond (ieq a.Op 1) (oN l<|some [k])<|cond h (cond h (oN f<|some [c])<|cond i (some [e])<|cond j (oN g<|some [d]) oF)<|cond b (oN f<|some [c])<|cond i (some [e])<|cond j (oN g<|some [d]) oF)<|cond (ieq a.Op 2) (cond (ieq a.Op 2) (oN l<|some [k])<|cond h (cond h (oN f<|some [c])<|cond i (some [e])<|cond j (oN g<|some [d]) oF)<|cond b (oN f<|some [c])<|cond i (some [e])<|cond j (oN g<|some [d]) oF)<|cond (ieq a.Op 5) (cond (ieq a.Op 5) (oN l<|some [k])<|cond h (cond h (oN f<|some [c])<|cond i (some [e])<|cond j (oN g<|some [d]) oF)<|cond b (oN f<|some [c])<|cond i (some [e])<|cond j (oN g<|some [d]) oF)<|cond (ieq a.Op 6) (oN l<|some [k])<|cond h (cond h (oN f<|some [c])<|cond i (some [e])<|cond j (oN g<|some [d]) oF)<|cond b (oN f<|some [c])<|cond i (some [e])<|cond j (oN g<|some [d]) oF)
theorem zHb (a:Ins)(b:zbE big [aT .ins a])(c:zxe a=true):∃N,zRE N a=some [aB<|zuT a]:=by
 refine⟨0,?_⟩;unfold zRE oN;conv=>zeta
 refine br (λ_=>br (λ_=>must rfl ?_) λ_=>br (λ_=>br (λ_=>must rfl ?_) λ_=>br (λ_=>?_) λ_=>br (λ_=>must rfl ?_) λ_=>?_) λ_=>br (λ_=>must rfl ?_) λ_=>br (λ_=>?_) λ_=>br (λ_=>must rfl ?_) λ_=>?_) (λ_=>br (λ_=>br (λ_=>must rfl ?_) λ_=>br (λ_=>br (λ_=>must rfl ?_) λ_=>br (λ_=>?_) λ_=>br (λ_=>must rfl ?_) λ_=>?_) λ_=>br (λ_=>must rfl ?_) λ_=>br (λ_=>?_) λ_=>br (λ_=>must rfl ?_) λ_=>?_) λ_=>br (λ_=>br (λ_=>must rfl ?_) λ_=>br (λ_=>br (λ_=>must rfl ?_) λ_=>br (λ_=>?_) λ_=>br (λ_=>must rfl ?_) λ_=>?_) λ_=>br (λ_=>must rfl ?_) λ_=>br (λ_=>?_) λ_=>br (λ_=>must rfl ?_) λ_=>?_) λ_=>br (λ_=>must rfl ?_) λ_=>br (λ_=>br (λ_=>must rfl ?_) λ_=>br (λ_=>?_) λ_=>br (λ_=>must rfl ?_) λ_=>?_) λ_=>br (λ_=>must rfl ?_) λ_=>br (λ_=>?_) λ_=>br (λ_=>must rfl ?_) λ_=>?_);all_goals first|rfl|(simp only [*,zuT,zfT,cT,cF]<;>rfl)|simp_all[Ty.cells,zuT,zfT]
theorem zTb:vV 382 zsF:=hF1 zhy zl zn zo (zq []) zHb
theorem zS0:vV 353 zsF:=hF1 zhy zl zn zo (zq []) zHb
def zkl (e:GExit):Bool:=bif (ieq e.Kind 0||ieq e.Kind 4) then (ieq e.Page 0&&(!e.Write&&ieq e.N 0)) else (cond (ieq e.Kind 1) (zi e.Page 0 3&&ieq e.N 0)<|cond (ieq e.Kind 2||ieq e.Kind 3) (zi e.N 0 99&&(ieq e.Page 0 && !e.Write)) false)
@[simp] theorem zbdX (x:Bool):zk9 x false = !x:=by cases x<;>rfl
attribute [simp] zdS
@[simp] abbrev zuC (e:GExit):Bool:=true
@[simp] abbrev znu (e:GExit):Bool:=zkl e
def zqO:Run:=rF1 dE λb=>(zuC b,[aB<|znu b])
def zKs (N:Nat)(a:GExit):OA:=
 let f:=zi a.N 0 99;let e:=zJ a.N 0 99;let d:=ieq a.Kind 2;let b:=ieq a.Page 0;let c:=aB<|nB a.Write;let g:=aB<|cond (ieq a.Kind a.Kind) (cond b (cond (zk9 a.Write false) (ieq a.N 0) false) false) false; (cond (ieq a.Kind 0) (cond (ieq a.Kind 0) (some [g])<|cond (ieq a.Kind 1) (oN (zJ a.Page 0 3)<|cond (zi a.Page 0 3) (some [aB<|ieq a.N 0]) oF)<|cond d (cond d (oN e<|cond f (cond b (some [c]) oF) oF) oF)<|cond (ieq a.Kind 3) (oN e<|cond f (cond b (some [c]) oF) oF) oF)<|cond (ieq a.Kind 4) (some [g])<|cond (ieq a.Kind 1) (oN (zJ a.Page 0 3)<|cond (zi a.Page 0 3) (some [aB<|ieq a.N 0]) oF)<|cond d (cond d (oN e<|cond f (cond b (some [c]) oF) oF) oF)<|cond (ieq a.Kind 3) (oN e<|cond f (cond b (some [c]) oF) oF) oF)
theorem zWB (a:GExit)(b:zuC a=true):∃N,zKs N a=some [aB<|znu a]:=by
 refine⟨0,?_⟩;unfold zKs oN nB;conv=>zeta
 refine br (λ_=>br (λ_=>?_) λ_=>br (λ_=>must rfl (br (λ_=>?_) λ_=>?_)) λ_=>br (λ_=>br (λ_=>must rfl (br (λ_=>br (λ_=>?_) λ_=>?_) λ_=>?_)) λ_=>?_) λ_=>br (λ_=>must rfl (br (λ_=>br (λ_=>?_) λ_=>?_) λ_=>?_)) λ_=>?_) (λ_=>br (λ_=>?_) λ_=>br (λ_=>must rfl (br (λ_=>?_) λ_=>?_)) λ_=>br (λ_=>br (λ_=>must rfl (br (λ_=>br (λ_=>?_) λ_=>?_) λ_=>?_)) λ_=>?_) λ_=>br (λ_=>must rfl (br (λ_=>br (λ_=>?_) λ_=>?_) λ_=>?_)) λ_=>?_);all_goals first|rfl|(simp only [*,znu,zkl,cT,cF]<;>rfl)|simp_all[Ty.cells,znu,zkl]
theorem zO9:vV 350 zqO:=kF1 zhy zl zn zo (zq []) zWB
def zJ3 (N:Nat)(a:GExit):OA:=
 let g:=zi a.N 0 99;let f:=zJ a.N 0 99;let e:=ieq a.Kind 2;let d:=aB<|ieq a.N 0;let b:=ieq a.Page 0;let c:=aB<|nB a.Write; (cond (ieq a.Kind 0) (cond (ieq a.Kind 0) (cond b (cond (nB a.Write) (some [d]) oF) oF)<|cond (ieq a.Kind 1) (oN (zJ a.Page 0 3)<|cond (zi a.Page 0 3) (some [d]) oF)<|cond e (cond e (oN f<|cond g (cond b (some [c]) oF) oF) oF)<|cond (ieq a.Kind 3) (oN f<|cond g (cond b (some [c]) oF) oF) oF)<|cond (ieq a.Kind 4) (cond b (cond (nB a.Write) (some [d]) oF) oF)<|cond (ieq a.Kind 1) (oN (zJ a.Page 0 3)<|cond (zi a.Page 0 3) (some [d]) oF)<|cond e (cond e (oN f<|cond g (cond b (some [c]) oF) oF) oF)<|cond (ieq a.Kind 3) (oN f<|cond g (cond b (some [c]) oF) oF) oF)
theorem zWd (a:GExit)(b:zuC a=true):∃N,zJ3 N a=some [aB<|znu a]:=by
 refine⟨0,?_⟩;unfold zJ3 oN nB;conv=>zeta
 refine br (λ_=>br (λ_=>br (λ_=>brN (λ_=>?_) λ_=>?_) λ_=>?_) λ_=>br (λ_=>must rfl (br (λ_=>?_) λ_=>?_)) λ_=>br (λ_=>br (λ_=>must rfl (br (λ_=>br (λ_=>?_) λ_=>?_) λ_=>?_)) λ_=>?_) λ_=>br (λ_=>must rfl (br (λ_=>br (λ_=>?_) λ_=>?_) λ_=>?_)) λ_=>?_) (λ_=>br (λ_=>br (λ_=>brN (λ_=>?_) λ_=>?_) λ_=>?_) λ_=>br (λ_=>must rfl (br (λ_=>?_) λ_=>?_)) λ_=>br (λ_=>br (λ_=>must rfl (br (λ_=>br (λ_=>?_) λ_=>?_) λ_=>?_)) λ_=>?_) λ_=>br (λ_=>must rfl (br (λ_=>br (λ_=>?_) λ_=>?_) λ_=>?_)) λ_=>?_);all_goals first|rfl|(simp only [*,znu,zkl,cT,cF]<;>rfl)|simp_all[Ty.cells,znu,zkl]
theorem zOE:vV 311 zqO:=kF1 zhy zl zn zo (zq []) zWd
def zwl (c:Ctl):List Int:=(cond (zi c.Traps 0 3) [] [1])++((cond (zi c.Post 0 255) [] [2])++((cond (ine c.Post 0) (cond c.Open [] [3]) [])++(cond (ieq c.Traps 2) (cond (ine c.Post 0) [4] []) [])))
@[simp] theorem zbdU {a:Type}(x:a)(l m:List a):ap (x::l) m=x::ap l m:=rfl
@[simp] abbrev zfM (c:Ctl):Bool:=true
@[simp] abbrev zoU (c:Ctl):List Int:=zwl c
def zmO:Run:=rF1 dC λb=>(zfM b,[aS .int<|zoU b])
def zAG (N:Nat)(b:Ctl):OA:=
 let e:=aS .int [];let k:=ap (ap [] [2]) [4];let j:=ap (ap [] [1]) [4];let i:=aS .int<|ap [] [2];let h:=aS .int<|ap [] [1];let g:=ap (ap [] [2]) [3];let f:=ap (ap [] [1]) [3];let c:=ieq b.Traps 2;let a:=ine b.Post 0;let d:=ap (ap [] [1]) [2];let l:=aS .int d; (oN (zJ b.Traps 0 3)<|cond (nB<|zi b.Traps 0 3) (oN (few<|ln<|ap [] [1])<|oN (zJ b.Post 0 255)<|cond (nB<|zi b.Post 0 255) (oN (few<|ln d)<|cond a (cond (nB b.Open) (oN (few<|ln<|ap d [3])<|cond c (cond a (oN (few<|ln<|ap (ap d [3]) [4])<|some [aS .int<|ap (ap d [3]) [4]])<|some [aS .int<|ap d [3]])<|some [aS .int<|ap d [3]])<|cond c (cond a (oN (few<|ln<|ap d [4])<|some [aS .int<|ap d [4]])<|some [l])<|some [l])<|cond c (cond a (oN (few<|ln<|ap d [4])<|some [aS .int<|ap d [4]])<|some [l])<|some [l])<|cond a (cond (nB b.Open) (oN (few<|ln f)<|cond c (cond a (oN (few<|ln<|ap f [4])<|some [aS .int<|ap f [4]])<|some [aS .int f])<|some [aS .int f])<|cond c (cond a (oN (few<|ln j)<|some [aS .int j])<|some [h])<|some [h])<|cond c (cond a (oN (few<|ln j)<|some [aS .int j])<|some [h])<|some [h])<|oN (zJ b.Post 0 255)<|cond (nB<|zi b.Post 0 255) (oN (few<|ln<|ap [] [2])<|cond a (cond (nB b.Open) (oN (few<|ln g)<|cond c (cond a (oN (few<|ln<|ap g [4])<|some [aS .int<|ap g [4]])<|some [aS .int g])<|some [aS .int g])<|cond c (cond a (oN (few<|ln k)<|some [aS .int k])<|some [i])<|some [i])<|cond c (cond a (oN (few<|ln k)<|some [aS .int k])<|some [i])<|some [i])<|cond a (cond (nB b.Open) (oN (few<|ln<|ap [] [3])<|cond c (cond a (oN (few<|ln<|ap (ap [] [3]) [4])<|some [aS .int<|ap (ap [] [3]) [4]])<|some [aS .int<|ap [] [3]])<|some [aS .int<|ap [] [3]])<|cond c (cond a (oN (few<|ln<|ap [] [4])<|some [aS .int<|ap [] [4]])<|some [e])<|some [e])<|cond c (cond a (oN (few<|ln<|ap [] [4])<|some [aS .int<|ap [] [4]])<|some [e])<|some [e])
theorem zwM (a:Ctl)(b:zbE big [.agg<|zzo a])(c:zfM a=true):∃N,zAG N a=some [aS .int<|zoU a]:=by
 refine⟨0,?_⟩;unfold zAG oN nB;conv=>zeta
 refine must rfl (brN (λ_=>mu (must rfl (brN (λ_=>mu (br (λ_=>brN (λ_=>mu (br (λ_=>br (λ_=>mu ?_) λ_=>?_) λ_=>?_)) λ_=>br (λ_=>br (λ_=>mu ?_) λ_=>?_) λ_=>?_) λ_=>br (λ_=>br (λ_=>mu ?_) λ_=>?_) λ_=>?_)) λ_=>br (λ_=>brN (λ_=>mu (br (λ_=>br (λ_=>mu ?_) λ_=>?_) λ_=>?_)) λ_=>br (λ_=>br (λ_=>mu ?_) λ_=>?_) λ_=>?_) λ_=>br (λ_=>br (λ_=>mu ?_) λ_=>?_) λ_=>?_))) λ_=>must rfl (brN (λ_=>mu (br (λ_=>brN (λ_=>mu (br (λ_=>br (λ_=>mu ?_) λ_=>?_) λ_=>?_)) λ_=>br (λ_=>br (λ_=>mu ?_) λ_=>?_) λ_=>?_) λ_=>br (λ_=>br (λ_=>mu ?_) λ_=>?_) λ_=>?_)) λ_=>br (λ_=>brN (λ_=>mu (br (λ_=>br (λ_=>mu ?_) λ_=>?_) λ_=>?_)) λ_=>br (λ_=>br (λ_=>mu ?_) λ_=>?_) λ_=>?_) λ_=>br (λ_=>br (λ_=>mu ?_) λ_=>?_) λ_=>?_));all_goals first|rfl|(simp only [*,zoU,zwl,cT,cF]<;>rfl)|simp_all[Ty.cells,zoU,zwl]
theorem zFf:vV 301 zmO:=hF1 zhy zl zn zo (zq []) zwM
theorem zEV:vV 304 zmO:=hF1 zhy zl zn zo (zq []) zwM
def len8tab:ByteArray:=⟨⟨[0,1,2,2,3,3,3,3,4,4,4,4,4,4,4,4,5,5,5,5,5,5,5,5,5,5,5,5,5,5,5,5,6,6,6,6,6,6,6,6,6,6,6,6,6,6,6,6,6,6,6,6,6,6,6,6,6,6,6,6,6,6,6,6,7,7,7,7,7,7,7,7,7,7,7,7,7,7,7,7,7,7,7,7,7,7,7,7,7,7,7,7,7,7,7,7,7,7,7,7,7,7,7,7,7,7,7,7,7,7,7,7,7,7,7,7,7,7,7,7,7,7,7,7,7,7,7,7,8,8,8,8,8,8,8,8,8,8,8,8,8,8,8,8,8,8,8,8,8,8,8,8,8,8,8,8,8,8,8,8,8,8,8,8,8,8,8,8,8,8,8,8,8,8,8,8,8,8,8,8,8,8,8,8,8,8,8,8,8,8,8,8,8,8,8,8,8,8,8,8,8,8,8,8,8,8,8,8,8,8,8,8,8,8,8,8,8,8,8,8,8,8,8,8,8,8,8,8,8,8,8,8,8,8,8,8,8,8,8,8,8,8,8,8,8,8,8,8,8,8,8,8,8,8,8,8]⟩⟩
def ziD (p n:Int):Bool:=ieq (wand .i64 (zlC .i64 p n) 1) 1
def scan (p:Int):Int:=bif ziD p 7 then 7 else (cond (ziD p 6) 6<|cond (ziD p 5) 5<|cond (ziD p 4) 4<|cond (ziD p 3) 3<|cond (ziD p 2) 2<|cond (ziD p 1) 1<|cond (ziD p 0) 0<|-1)
theorem z8b:∀n:Fin 256,zN .i64 0 (wcv .i64<|byteAt len8tab<|wcv .u8 (n.val:Int))=scan (n.val:Int)+1:=by decide +kernel
theorem zXE:∀n:Fin 256,-1<=scan (n.val:Int)/\scan (n.val:Int)<=7/\(0<=scan (n.val:Int)->wsub .i64 (n.val:Int) (zmK .i64 1<|scan (n.val:Int))=zAk .i64 (n.val:Int) (zmK .i64 1<|scan (n.val:Int))):=by decide +kernel
theorem zDP {P:Int->Prop}(h:∀n:Fin 256,P (n.val:Int)){x:Int}(a:0<=x)(b:x<=255):P x:=by have:=h ⟨x.toNat,by omega⟩;have e:((x.toNat:Nat):Int)=x:=(by omega);simpa [e] using this
def zoG (x:Int):Bool:=pc (0<=x/\x<=255)
def zkC (x:Int):Int:=scan x+1
def zjT:List AV->Option (Bool×List AV)
 |[.one<|.i .u64 b]=>some (zoG b,[aI<|zkC b])
 |_=>none
def zox (N:Nat)(a:Int):OA:=
 let d:=zlC .u64 a 16;let b:=zlC .u64 a 32;let c:=zlC .u64 b 16; (cond (ige a 4294967296) (oN (ile 0 32)<|cond (ige b 65536) (oN (ile 0 16)<|cond (ige c 256) (oN (ile 0 8)<|oN (inb (wcv .u8<|zlC .u64 c 8) 256)<|some [aI<|zN .i64 (zN .i64 (zN .i64 32 16) 8)<|wcv .i64<|byteAt len8tab<|wcv .u8<|zlC .u64 c 8])<|oN (inb (wcv .u8 c) 256)<|some [aI<|zN .i64 (zN .i64 32 16)<|wcv .i64<|byteAt len8tab<|wcv .u8 c])<|cond (ige b 256) (oN (ile 0 8)<|oN (inb (wcv .u8<|zlC .u64 b 8) 256)<|some [aI<|zN .i64 (zN .i64 32 8)<|wcv .i64<|byteAt len8tab<|wcv .u8<|zlC .u64 b 8])<|oN (inb (wcv .u8 b) 256)<|some [aI<|zN .i64 32<|wcv .i64<|byteAt len8tab<|wcv .u8 b])<|cond (ige a 65536) (oN (ile 0 16)<|cond (ige d 256) (oN (ile 0 8)<|oN (inb (wcv .u8<|zlC .u64 d 8) 256)<|some [aI<|zN .i64 (zN .i64 (zN .i64 0 16) 8)<|wcv .i64<|byteAt len8tab<|wcv .u8<|zlC .u64 d 8])<|oN (inb (wcv .u8 d) 256)<|some [aI<|zN .i64 (zN .i64 0 16)<|wcv .i64<|byteAt len8tab<|wcv .u8 d])<|cond (ige a 256) (oN (ile 0 8)<|oN (inb (wcv .u8<|zlC .u64 a 8) 256)<|some [aI<|zN .i64 (zN .i64 0 8)<|wcv .i64<|byteAt len8tab<|wcv .u8<|zlC .u64 a 8])<|oN (inb (wcv .u8 a) 256)<|some [aI<|zN .i64 0<|wcv .i64<|byteAt len8tab<|wcv .u8 a])
theorem zDO (N:Nat)(a:Int):evalFn (cQ z1m zqA zQJ zXZ) (zq []) N 12 277 [.one<|.i .u64 a]=zox N a:=by kernel_rfl
theorem zBI (a:Int)(g:zbE big [.one<|.i .u64 a])(f:zoG a=true):∃N,zox N a=some [aI<|zkC a]:=by
 obtain⟨b,c⟩:=zD.1 f;refine⟨0,?_⟩;unfold zox oN;conv=>zeta
 refine zb4 (qH (by omega)) ?_;refine zb4 (qH (by omega)) ?_;refine zb4 (qH (by omega)) ?_;have e:inb (wcv .u8 a) 256=true:=zDP (P:=λx=>inb (wcv .u8 x) 256=true) (by decide +kernel) b c;refine must e ?_;have d:=zDP (P:=λx=>zN .i64 0 (wcv .i64<|byteAt len8tab<|wcv .u8 x)=scan x+1) z8b b c;rw[d];rfl
theorem zpX:vV 277 zjT:=zVT zhy zl zn zo (zkm (by kernel_rfl)) λa d b h=>by unfold zjT at h;split at h;{obtain⟨c,rfl⟩:=zfo h;exact(zBI _ b c).elim λN e=>⟨zq [],N,(zDO N _).trans e⟩};{cases h}
def z9o:zbd:=[(215,zqG),(349,zpq),(257,zpq),(351,zqX),(256,zqX),(382,zsF),(353,zsF),(350,zqO),(311,zqO),(301,zmO),(304,zmO),(277,zjT)]++z1m
theorem zhz:zQ z9o:=zf zO7 (zf zL8<|zf zLI<|zf zPj<|zf zOR<|zf zTb<|zf zS0<|zf zO9<|zf zOE<|zf zFf<|zf zEV<|zf zpX zhy)
def zkq (m:List (List Int))(n:Int):Bool:=bif m.all zcT then ieq (ln m) n else false
@[simp] abbrev zkw (m:List (List Int))(n:Int):Bool:=true
@[simp] abbrev zgJ (m:List (List Int))(n:Int):Bool:=zkq m n
def zsG:Run:=rF2 (dS<|.sl .int) dI λb c=>(zkw b c,[aB<|zgJ b c])
def zRF (N:Nat)(c:lM)(d:Int):OA:=
 (iter (σ:=(Int×Int×lM×Unit)) N (λe a=>let b:=a.2.2.1; (cond (ilt a.2.1<|ln b) (oN (inb a.2.1<|ln b)<|oN (zeo<|ix b a.2.1 [])<|cond (nB<|zdM<|ix b a.2.1 []) oF<|e (a.1,zN .i64 a.2.1 1,b,()))<|some [aB<|ieq (ln b) a.1])) (d,0,c,()))
def zZX:=zq [(293,0,{n:=22,tm:=[(0,.sl 0 []),(1,ti),(5,ti)],lo:=[],ro:=[(0,.sl .int,false)]})]
theorem zZe (a:List (List Int))(c:Int)(h:zbE big [aS (.sl .int) a,aI c])(k:zkw a c=true):∃N,zRF N a c=some [aB<|zgJ a c]:=by
 have g:(_:List _).length<=big:=((zcV h).1 _ (qF.2 rfl)).len;refine zbX λN f=>?_;unfold zRF oN nB;conv=>zeta
 refine(zY a (λi (t:Unit)=>(c,(i:Int),a,())) _ (λ_ x (_:Unit) j=>bif (zcT) x then j () else oF) (λ(t:Unit)=>some [.one<|.b<|ieq (ln a) c]) (λi d t rec=>?_) (λt rec=>?_) _ ()<|f g).trans ?_;{simp only [zbn d,zU d,zbb d,zX d g,cT];exact zkE rfl};{simp only [zbe,cF]};rw[zhi<|zcT];refine br (λe=>?_) (λe=>?_);{first|rfl|(simp only [e,zgJ,zkq,cT,cF]<;>rfl)|(simp_all [Ty.cells,zgJ,zkq];done)};{first|rfl|(simp only [e,zgJ,zkq,cT,cF]<;>rfl)|(simp_all [Ty.cells,zgJ,zkq];done)}
theorem zTc:vV 293 zsG:=hF2 zhz zl zn zo zZX zZe
def zRt (N:Nat)(c:lM)(d:Int):OA:=
 (iter (σ:=(Int×Int×Int×lM×Unit)) N (λe a=>let b:=a.2.2.2.1; (cond (ilt a.2.2.1 a.2.1) (oN (inb a.2.2.1<|ln b)<|oN (zeo<|ix b a.2.2.1 [])<|cond (nB<|zdM<|ix b a.2.2.1 []) oF<|e (a.1,a.2.1,zN .i64 a.2.2.1 1,b,()))<|some [aB<|ieq (ln b) a.1])) (d,ln c,0,c,()))
def zZV:=zq [(146,0,{n:=21,tm:=[(0,.sl 0 []),(1,ti),(7,.sl 0 []),(8,ti),(9,ti)],lo:=[],ro:=[(0,.sl .int,false)]})]
theorem zY4 (a:List (List Int))(c:Int)(h:zbE big [aS (.sl .int) a,aI c])(k:zkw a c=true):∃N,zRt N a c=some [aB<|zgJ a c]:=by
 have g:(_:List _).length<=big:=((zcV h).1 _ (qF.2 rfl)).len;refine zbX λN f=>?_;unfold zRt oN nB;conv=>zeta
 refine(zY a (λi (t:Unit)=>(c,ln a,(i:Int),a,())) _ (λ_ x (_:Unit) j=>bif (zcT) x then j () else oF) (λ(t:Unit)=>some [.one<|.b<|ieq (ln a) c]) (λi d t rec=>?_) (λt rec=>?_) _ ()<|f g).trans ?_;{simp only [zbn d,zU d,zbb d,zX d g,cT];exact zkE rfl};{simp only [zbe,cF]};rw[zhi<|zcT];refine br (λe=>?_) (λe=>?_);{first|rfl|(simp only [e,zgJ,zkq,cT,cF]<;>rfl)|(simp_all [Ty.cells,zgJ,zkq];done)};{first|rfl|(simp only [e,zgJ,zkq,cT,cF]<;>rfl)|(simp_all [Ty.cells,zgJ,zkq];done)}
theorem zS1:vV 146 zsG:=hF2 zhz zl zn zo zZV zY4
def zen (p:List Ins):Bool:=bif p.all zfT then zi (ln p) 1 12 else false
@[simp] abbrev zuD (p:List Ins):Bool:=true
@[simp] abbrev ziy (p:List Ins):Bool:=zen p
def zqZ:Run:=rF1 (dS .ins) λb=>(zuD b,[aB<|ziy b])
def zKE (N:Nat)(c:lI):OA:=
 (iter (σ:=(Int×lI×Unit)) N (λd a=>let b:=ix a.2.1 a.1 zpw; (cond (ilt a.1<|ln a.2.1) (oN (inb a.1<|ln a.2.1)<|oN (zxe b)<|cond (nB<|zuT b) oF<|d (zN .i64 a.1 1,a.2.1,()))<|oN (zJ (ln a.2.1) 1 12)<|some [aB<|zi (ln a.2.1) 1 12])) (0,c,()))
def zYl:=zq [(348,0,{n:=19,tm:=[(0,.sl 0 []),(3,ti)],lo:=[],ro:=[(0,.ins,false)]})]
theorem zWK (a:List Ins)(g:zbE big [aS .ins a])(j:zuD a=true):∃N,zKE N a=some [aB<|ziy a]:=by
 have f:(_:List _).length<=big:=((zcV g).1 _ (qF.2 rfl)).len;refine zbX λN e=>?_;unfold zKE oN nB;conv=>zeta
 refine(zY a (λi (t:Unit)=>((i:Int),a,())) _ (λ_ x (_:Unit) h=>bif (zfT) x then h () else oF) (λ(t:Unit)=>cond (zJ (ln a) 1 12) (some [.one<|.b<|zi (ln a) 1 12]) none) (λi c t rec=>?_) (λt rec=>?_) _ ()<|e f).trans ?_;{simp only [zbn c,zU c,zbb c,zX c f,cT];exact zkE rfl};{simp only [zbe,cF]};rw[zhi<|zfT];refine br (λd=>?_) (λd=>?_);{refine must rfl ?_;first|rfl|(simp only [d,ziy,zen,cT,cF]<;>rfl)|(simp_all [Ty.cells,ziy,zen];done)};{first|rfl|(simp only [d,ziy,zen,cT,cF]<;>rfl)|(simp_all [Ty.cells,ziy,zen];done)}
theorem zPl:vV 348 zqZ:=hF1 zhz zl zn zo zYl zWK
def zKe (N:Nat)(b:lI):OA:=
 (iter (σ:=(Int×Int×lI×Unit)) N (λd a=>let c:=ix a.2.2.1 a.2.1 zpw; (cond (ilt a.2.1 a.1) (oN (inb a.2.1<|ln a.2.2.1)<|oN (zxe c)<|cond (nB<|zuT c) oF<|d (a.1,zN .i64 a.2.1 1,a.2.2.1,()))<|oN (zJ (ln a.2.2.1) 1 12)<|some [aB<|zi (ln a.2.2.1) 1 12])) (ln b,0,b,()))
def zYb:=zq [(310,0,{n:=18,tm:=[(0,.sl 0 []),(5,.sl 0 []),(6,ti),(7,ti)],lo:=[],ro:=[(0,.ins,false)]})]
theorem zWp (a:List Ins)(g:zbE big [aS .ins a])(j:zuD a=true):∃N,zKe N a=some [aB<|ziy a]:=by
 have f:(_:List _).length<=big:=((zcV g).1 _ (qF.2 rfl)).len;refine zbX λN e=>?_;unfold zKe oN nB;conv=>zeta
 refine(zY a (λi (t:Unit)=>(ln a,(i:Int),a,())) _ (λ_ x (_:Unit) h=>bif (zfT) x then h () else oF) (λ(t:Unit)=>cond (zJ (ln a) 1 12) (some [.one<|.b<|zi (ln a) 1 12]) none) (λi c t rec=>?_) (λt rec=>?_) _ ()<|e f).trans ?_;{simp only [zbn c,zU c,zbb c,zX c f,cT];exact zkE rfl};{simp only [zbe,cF]};rw[zhi<|zfT];refine br (λd=>?_) (λd=>?_);{refine must rfl ?_;first|rfl|(simp only [d,ziy,zen,cT,cF]<;>rfl)|(simp_all [Ty.cells,ziy,zen];done)};{first|rfl|(simp only [d,ziy,zen,cT,cF]<;>rfl)|(simp_all [Ty.cells,ziy,zen];done)}
theorem zOT:vV 310 zqZ:=hF1 zhz zl zn zo zYb zWp
def znO (c:Ctl):Bool:=ieq (ln<|zwl c) 0
@[simp] abbrev zop (c:Ctl):Bool:=znO c
def zsD:Run:=rF1 dC λb=>(zfM b,[aB<|zop b])
def zRB (N:Nat)(a:Ctl):OA:=
 (oN (zfM a)<|some [aB<|ieq (ln<|zoU a) 0])
theorem zHa (a:Ctl)(b:zbE big [.agg<|zzo a])(c:zfM a=true):∃N,zRB N a=some [aB<|zop a]:=by refine⟨0,?_⟩;unfold zRB oN;refine must rfl ?_;first|rfl|(simp only [*,zop,znO,cT,cF]<;>rfl)|simp_all[Ty.cells,zop,znO]
theorem zS8:vV 226 zsD:=hF1 zhz zl zn zo (zq []) zHa
theorem zSX:vV 244 zsD:=hF1 zhz zl zn zo (zq []) zHa
def zeD (p:Int):Int:=bif zem p then scan p else -1
theorem zRn {x:Int}(a:0<=x)(b:x<=255):wcv .u64 x=x:=zDP (P:=λx=>wcv .u64 x=x) (by decide +kernel) a b
@[simp] abbrev ziu (p:Int):Int:=zeD p
def zqI:Run:=rF1 dI λb=>(zcm b,[aI<|ziu b])
def zKk (N:Nat)(a:Int):OA:=
 (oN (zcm a)<|cond (nB<|ze7 a) (some [aI<|-1])<|oN (zoG<|wcv .u64 a)<|some [aI<|wsub .i64 (zkC<|wcv .u64 a) 1])
theorem zWv (a:Int)(d:zcm a=true):∃N,zKk N a=some [aI<|ziu a]:=by refine⟨0,?_⟩;unfold zKk oN nB;refine must rfl ?_;cases h:zem a;{refine must (by simp[h]) ?_;simp[zeD,h]};{obtain⟨b,c⟩:=zf7.1 h;have r:=zDP (P:=λx=>-1<=scan x/\scan x<=7/\(0<=scan x->wsub .i64 x (zmK .i64 1<|scan x)=zAk .i64 x (zmK .i64 1<|scan x))) zXE b c;refine zb4 (by simp[h]) ?_;rw[zRn b c];refine must (zba ⟨b,c⟩) ?_;have e:wsub .i64 (zkC a) 1=scan a:=(by unfold zkC;rw[zuX (by omega) (by omega)];omega);rw[e];simp[zeD,h]}
theorem zOZ:vV 271 zqI:=kF1 zhz zl zn zo (zq []) zWv
def zKJ (N:Nat)(b:Int):OA:=
 (iter (σ:=(Int×Int×Unit)) N (λc a=>cond (ige a.2.1 0) (oN (zcm a.1)<|cond (ze7 a.1) (oN (ile 0<|wcv .u64 a.2.1)<|cond (ieq (wand .i64 (zlC .i64 a.1<|wcv .u64 a.2.1) 1) 1) (some [aI a.2.1])<|c (a.1,wsub .i64 a.2.1 1,()))<|some [aI<|-1])<|some [aI<|-1]) (b,7,()))
def zYm:=zq [(303,0,{n:=19,tm:=[(0,ti),(3,ti)],lo:=[],ro:=[]})]
theorem zWO (a:Int)(C:zcm a=true):∃N,zKJ N a=some [aI<|ziu a]:=by refine⟨10,?_⟩;unfold zKJ oN;cases h:zem a;{rw [zeH];refine must rfl ?_;refine must rfl ?_;refine zb4 h ?_;simp[zeD,h]};{have c:ze7 a=true:=h;rw[zeH];refine must rfl (must rfl (must c (must rfl (br (λr=>?_) λr=>?_))));{have A:ziD a 7=true:=r;simp[zeD,h,scan,A]};have b:ziD a 7=false:=r;show iter 9 _ (a,6,())=_;rw[zeH];refine must rfl (must rfl (must c (must rfl (br (λq=>?_) λq=>?_))));{have z:ziD a 6=true:=q;simp[zeD,h,scan,z,b]};have d:ziD a 6=false:=q;show iter 8 _ (a,5,())=_;rw[zeH];refine must rfl (must rfl (must c (must rfl (br (λp=>?_) λp=>?_))));{have y:ziD a 5=true:=p;simp[zeD,h,scan,y,b,d]};have e:ziD a 5=false:=p;show iter 7 _ (a,4,())=_;rw[zeH];refine must rfl (must rfl (must c (must rfl (br (λn=>?_) λn=>?_))));{have x:ziD a 4=true:=n;simp[zeD,h,scan,x,b,d,e]};have f:ziD a 4=false:=n;show iter 6 _ (a,3,())=_;rw[zeH];refine must rfl (must rfl (must c (must rfl (br (λm=>?_) λm=>?_))));{have w:ziD a 3=true:=m;simp[zeD,h,scan,w,b,d,e,f]};have g:ziD a 3=false:=m;show iter 5 _ (a,2,())=_;rw[zeH];refine must rfl (must rfl (must c (must rfl (br (λl=>?_) λl=>?_))));{have v:ziD a 2=true:=l;simp[zeD,h,scan,v,b,d,e,f,g]};have i:ziD a 2=false:=l;show iter 4 _ (a,1,())=_;rw[zeH];refine must rfl (must rfl (must c (must rfl (br (λk=>?_) λk=>?_))));{have u:ziD a 1=true:=k;simp[zeD,h,scan,u,b,d,e,f,g,i]};have s:ziD a 1=false:=k;show iter 3 _ (a,0,())=_;rw[zeH];refine must rfl (must rfl (must c (must rfl (br (λj=>?_) λj=>?_))));{have t:ziD a 0=true:=j;simp[zeD,h,scan,t,b,d,e,f,g,i,s]};have B:ziD a 0=false:=j;show iter 2 _ (a,-1,())=_;rw[zeH];refine zb4 rfl ?_;simp[zeD,h,scan,b,d,e,f,g,i,s,B]}
theorem zPq:vV 303 zqI:=kF1 zhz zl zn zo zYm zWO
@[simp] abbrev zhP (l:List (List Int)):Bool:=pc (SmM l)
@[simp] abbrev zeF (l:List (List Int)):List (List Int):=l
def zA8:Run:=rF1 (dS<|.sl .int) λb=>(zhP b,[aS (.sl .int)<|zeF b])
def zGe (N:Nat)(c:lM):OA:=
 (iter (σ:=(Int×Int×lM×lM×Unit)) N (λd a=>let b:=ix a.2.2.2.1 a.2.1 []; (cond (ilt a.2.1 a.1) (oN (inb a.2.1<|ln a.2.2.2.1)<|oN (zeO b)<|oN (few<|ln<|ap a.2.2.1 [zeJ b])<|d (a.1,zN .i64 a.2.1 1,ap a.2.2.1 [zeJ b],a.2.2.2.1,()))<|some [aS (.sl .int) a.2.2.1])) (ln c,0,[],c,()))
def zUu:=zq [(144,0,{n:=20,tm:=[(3,.sl 0 []),(7,.sl 1 []),(8,ti),(9,ti)],lo:=[],ro:=[(0,.sl .int,true),(1,.sl .int,false)]})]
theorem zTK (a:List (List Int))(g:zhP a=true):∃N,zGe N a=some [aS (.sl .int)<|zeF a]:=by
 have f:=zD.1 g;have e:=zcu f.1;refine zbX λN d=>?_;unfold zGe oN;conv=>zeta
 refine(zY a (λi (t:lM)=>(ln a,(i:Int),t,a,())) _ (λ_ x b j=>bif zeO x then (cond (few<|ln<|ap b [zeJ x]) (j<|ap b [zeJ x]) none) else none) (λ(t:lM)=>some [.one<|.s (.sl .int) t]) (λi c t rec=>?_) (λt rec=>?_) _ ([])<|d e.1).trans ?_;{simp only [zbn c,zU c,zbb c,zX c e.1,cT]};{simp only [zbe,cF]};exact zkG zeO zeJ _ a 0 [] (λx h=>⟨by exact zba (jB (f.2 x h) (by decide)),rfl⟩) (by simpa using e.2)
theorem zLK:vV 144 zA8:=kF1 zhz zl zn zo zUu zTK
@[simp] abbrev zK (g:Guest):Bool:=pc (SmG g)
@[simp] abbrev zda (g:Guest):Guest:=g
def zwZ:Run:=rF1 (dT .guest) λb=>(zK b,[aT .guest<|zda b])
def zAy (N:Nat)(a:Guest):OA:=
 (oN (zqs a.Prog)<|oN (zhm a.Written)<|oN (zhm a.Live)<|oN (zeO a.Seen)<|some [aT .guest ({a with Prog:=(znW a.Prog),Written:=(zfi a.Written),Live:=(zfi a.Live),Seen:=(zeJ a.Seen)}:Guest)])
theorem zML (a:Guest)(b:zK a=true):∃N,zAy N a=some [aT .guest<|zda a]:=by have c:=zD.1 b;obtain⟨h,i,j,k⟩:=c;have d:a.Prog.length<=2147483648:=(by omega);have e:a.Written.length<=2147483648:=(by omega);have f:a.Live.length<=2147483648:=(by omega);have g:a.Seen.length<=2147483648:=(by omega);refine⟨0,?_⟩;unfold zAy oN;refine mu (mu<|mu<|mu ?_);first|rfl|(simp only [*,zda,cT,cF]<;>rfl)|simp_all[Ty.cells,zda]
theorem zE7:vV 168 zwZ:=kF1 zhz zl zn zo (zq []) zML
def zfK (t:List Slot)(p n:Int):Bool:=bif ieq (zbK t p).Page (-1) then false else (cond (enough (zbK t p).Rights n) (zi n 1 3) false)
def zcx (t:List Slot)(p n:Int):Int:=bif zfK t p n then (zbK t p).Page else -1
theorem z7U {r:Int}(h:zes r=true):0<=r/\r<=3:=zf7.1 h
theorem z1B {a n:Int}(h:enough a n=true):zi n 1 3 = !ieq n 0:=by unfold enough at h;cases b:zes a;{rw [b]at h;cases h};{cases c:zes n;{rw [b,c]at h;cases h};{have:=z7U c;have e:(zi n 1 3=true)↔(!ieq n 0)=true:=(by rw[zf7];simp[ieq];omega);cases d:zi n 1 3<;>cases f:(!ieq n 0)<;>simp_all}}
@[simp] abbrev zfL (t:List Slot)(p n:Int):Bool:=true
@[simp] abbrev zeL (t:List Slot)(p n:Int):Int:=zcx t p n
@[simp] abbrev zdZ (t:List Slot)(p n:Int):Bool:=zfK t p n
def zmN:Run:=rF3 (dS .slot) dI dI λb c d=>(zfL b c d,[aI<|zeL b c d,aB<|zdZ b c d])
def zAw (N:Nat)(c:lS)(d a:Int):OA:=
 let b:=ze8 c d; (oN (zgx c d)<|cond (ieq b.Page<|-1) (some [aI<|-1,aB false])<|oN (zbj b.Rights a)<|cond (nB<|zdi b.Rights a) (some [aI<|-1,aB false])<|oN (zJ a 1 3)<|cond (nB<|zi a 1 3) (some [aI<|-1,aB false])<|some [aI b.Page,aB true])
theorem zMJ (a:List Slot)(b c:Int)(d:zfL a b c=true):∃N,zAw N a b c=some [aI<|zeL a b c,aB<|zdZ a b c]:=by
 refine⟨0,?_⟩;unfold zAw oN nB;conv=>zeta
 refine must rfl (br (λ_=>?_) λ_=>must rfl (brN (λ_=>?_) λ_=>must rfl (brN (λ_=>?_) λ_=>?_)));all_goals first|rfl|(simp only [*,zeL,zdZ,zcx,zfK,cT,cF]<;>rfl)|simp_all[Ty.cells,zeL,zdZ,zcx,zfK]
theorem zE5:vV 181 zmN:=kF3 zhz zl zn zo (zq []) zMJ
def zAO (N:Nat)(c:lS)(d b:Int):OA:=
 let a:=ze8 c d; (oN (zgx c d)<|cond (ieq a.Page<|-1) (some [aI<|-1,aB false])<|oN (zbj a.Rights b)<|cond (nB<|zdi a.Rights b) (some [aI<|-1,aB false])<|cond (ieq b 0) (some [aI<|-1,aB false])<|some [aI a.Page,aB true])
theorem zM1 (a:List Slot)(b c:Int)(d:zfL a b c=true):∃N,zAO N a b c=some [aI<|zeL a b c,aB<|zdZ a b c]:=by
 have e:=@z1B (zbK a b).Rights c;refine⟨0,?_⟩;unfold zAO oN nB;conv=>zeta
 refine must rfl (br (λ_=>?_) λ_=>must rfl (brN (λ_=>?_) λ_=>br (λ_=>?_) λ_=>?_));all_goals first|rfl|(simp only [*,zeL,zdZ,zcx,zfK,cT,cF]<;>rfl)|simp_all[Ty.cells,zeL,zdZ,zcx,zfK]
theorem zFn:vV 206 zmN:=kF3 zhz zl zn zo (zq []) zM1
def z9p:zbd:=[(277,zjT),(144,zA8),(168,zwZ),(206,zmN),(181,zmN),(293,zsG),(146,zsG),(348,zqZ),(310,zqZ),(226,zsD),(244,zsD),(303,zqI),(271,zqI)]++z9o
theorem zhA:zQ z9p:=zf zpX (zf zLK<|zf zE7<|zf zFn<|zf zE5<|zf zTc<|zf zS1<|zf zPl<|zf zOT<|zf zS8<|zf zSX<|zf zPq<|zf zOZ zhz)
@[simp] abbrev zdf (m:List (List Int))(p c v:Int):Bool:=pc (SmM m)
@[simp] abbrev zdG (m:List (List Int))(p c v:Int):List (List Int):=zbU m p c v
def zom:Run:=rF4 (dS<|.sl .int) dI dI dI λb c d e=>(zdf b c d e,[aS (.sl .int)<|zdG b c d e])
def zCy (N:Nat)(c:lM)(a d e:Int):OA:=
 let b:=zgb c; (oN (zh0 c)<|oN (zeK c a d)<|cond (zr9 c a d) (oN (zJ e 0 99)<|cond (zi e 0 99) (oN (inb a<|ln b)<|oN (inb d<|ln<|ix b a [])<|share (up b a<|up (ix b a []) d e) λf=>some [aS (.sl .int) f])<|some [aS (.sl .int) b])<|some [aS (.sl .int) b])
theorem zQu (a:List (List Int))(b c d:Int)(e:zdf a b c d=true):∃N,zCy N a b c d=some [aS (.sl .int)<|zdG a b c d]:=by
 have g:=zD.1 e;have f:=(zzU a b c).1;refine⟨0,?_⟩;unfold zCy oN;conv=>zeta
 refine mu (must rfl (br (λ_=>must rfl (br (λ_=>mu (mu<|shr ?_)) λ_=>?_)) λ_=>?_));all_goals first|rfl|(simp only [*,zdG,zbU,cT,cF]<;>rfl)|simp_all[Ty.cells,zdG,zbU]
theorem zI6:vV 211 zom:=kF4 zhA zl zn zo (zq []) zQu
def zB2 (N:Nat)(a:lM)(b c d:Int):OA:=
 let e:=aS (.sl .int)<|zeF a; (oN (zhP a)<|oN (zbj b<|ln a)<|cond (zca b<|ln a) (oN (inb b<|ln a)<|oN (zbj c<|ln<|ix a b [])<|cond (zca c<|ln<|ix a b []) (oN (zJ d 0 99)<|cond (zi d 0 99) (oN (inb b<|ln<|zeF a)<|oN (inb c<|ln<|ix (zeF a) b [])<|share (up (zeF a) b<|up (ix (zeF a) b []) c d) λf=>some [aS (.sl .int) f])<|some [e])<|some [e])<|some [e])
theorem zP1 (a:List (List Int))(b c d:Int)(e:zdf a b c d=true):∃N,zB2 N a b c d=some [aS (.sl .int)<|zdG a b c d]:=by
 have f:=zD.1 e;refine⟨0,?_⟩;unfold zB2 oN;conv=>zeta
 refine mu (must rfl (br (λ_=>mu (must rfl (br (λ_=>must rfl (br (λ_=>mu (mu<|shr ?_)) λ_=>?_)) λ_=>?_))) λ_=>?_));all_goals first|rfl|(simp only [*,zdG,zbU,zhv,cT,cF]<;>rfl)|simp_all[Ty.cells,zdG,zbU,zhv]
theorem zIC:vV 77 zom:=kF4 zhA zl zn zo (zq []) zP1
def zkZ (g:Guest):Bool:=bif canRun g then (cond g.Ctl.Open (ige (zeD g.Pending) 0) false) else false
@[simp] abbrev zbx (g:Guest):Bool:=true
@[simp] abbrev zmg (g:Guest):Bool:=zkZ g
def zol:Run:=rF1 (dT .guest) λb=>(zbx b,[aB<|zmg b])
def zCx (N:Nat)(a:Guest):OA:=
 (oN (zuB a)<|cond (zpI a) (cond a.Ctl.Open (oN (zcm a.Pending)<|some [aB<|ige (ziu a.Pending) 0]) oF) oF)
theorem zyx (a:Guest)(b:zbE big [aT .guest a])(c:zbx a=true):∃N,zCx N a=some [aB<|zmg a]:=by refine⟨0,?_⟩;unfold zCx oN;refine must rfl (br (λ_=>br (λ_=>must rfl ?_) λ_=>?_) λ_=>?_);all_goals first|rfl|(simp only [*,zmg,zkZ,cT,cF]<;>rfl)|simp_all[Ty.cells,zmg,zkZ]
theorem zI5:vV 291 zol:=hF1 zhA zl zn zo (zq []) zyx
theorem zIB:vV 165 zol:=hF1 zhA zl zn zo (zq []) zyx
def zhD (p:Int):Int:=bif ilt (zeD p) 0 then p else wsub .i64 p (zmK .i64 1<|zeD p)
def zne (p:Int):Int:=bif ilt (zeD p) 0 then -1 else zeD p
theorem zSP {p:Int}(h:ilt (zeD p) 0=false):wcv .u64 (zeD p)=zeD p/\ile 0 (zeD p)=true/\zAk .i64 p (zmK .i64 1<|zeD p)=wsub .i64 p (zmK .i64 1<|zeD p):=by unfold zeD at *;cases a:zem p;{rw [a]at h;cases h};{simp only [a,cT]at h ⊢;obtain⟨c,d⟩:=zf7.1 a;have r:=zDP (P:=λx=>-1<=scan x/\scan x<=7/\(0<=scan x->wsub .i64 x (zmK .i64 1<|scan x)=zAk .i64 x (zmK .i64 1<|scan x))) zXE c d;have b:0<=scan p:=(by unfold ilt at h;have:=qY h;omega);exact⟨zRn b (by omega),qK b,(r.2.2 b).symm⟩}
@[simp] abbrev zgn (p:Int):Int:=zhD p
@[simp] abbrev zgo (p:Int):Int:=zne p
@[simp] abbrev zhZ (p:Int):Bool:=!ilt (zeD p) 0
def zpr:Run:=rF1 dI λb=>(zcm b,[aI<|zgn b,aI<|zgo b,aB<|zhZ b])
def zGI (N:Nat)(a:Int):OA:=
 (oN (zcm a)<|cond (ilt (ziu a) 0) (some [aI a,aI<|-1,aB false])<|oN (ile 0<|wcv .u64<|ziu a)<|some [aI<|wsub .i64 a<|zmK .i64 1<|wcv .u64<|ziu a,aI<|ziu a,aB true])
theorem zUa (a:Int)(b:zcm a=true):∃N,zGI N a=some [aI<|zgn a,aI<|zgo a,aB<|zhZ a]:=by have c:=@zSP a;refine⟨0,?_⟩;unfold zGI oN;refine must rfl (br (λ_=>?_) λ_=>mu ?_);all_goals first|rfl|(simp only [*,zgn,zgo,zhZ,zhD,zne,cT,cF]<;>rfl)|simp_all[Ty.cells,zgn,zgo,zhZ,zhD,zne]
theorem zL9:vV 228 zpr:=kF1 zhA zl zn zo (zq []) zUa
def zGd (N:Nat)(a:Int):OA:=
 (oN (zcm a)<|cond (ilt (ziu a) 0) (some [aI a,aI<|-1,aB false])<|oN (ile 0<|ziu a)<|some [aI<|zAk .i64 a<|zmK .i64 1<|ziu a,aI<|ziu a,aB true])
theorem zTJ (a:Int)(b:zcm a=true):∃N,zGd N a=some [aI<|zgn a,aI<|zgo a,aB<|zhZ a]:=by have c:=@zSP a;refine⟨0,?_⟩;unfold zGd oN;refine must rfl (br (λ_=>?_) λ_=>mu ?_);all_goals first|rfl|(simp only [*,zgn,zgo,zhZ,zhD,zne,cT,cF]<;>rfl)|simp_all[Ty.cells,zgn,zgo,zhZ,zhD,zne]
theorem zLJ:vV 248 zpr:=kF1 zhA zl zn zo (zq []) zTJ
def saw (g:Guest)(n:Int):Guest:=bif ilt (ln g.Seen) 40 then {g with Seen:=ap g.Seen [n]} else g
@[simp] theorem zQT {g:Guest}(n:Int)(h:SmG g):SmG (saw g n):=by unfold saw;cases a:ilt (ln g.Seen) 40;{exact h};{have:=qD a;refine⟨h.1,h.2.1,h.2.2.1,?_⟩;simp[ln] at *;omega}
@[simp] abbrev zuU (g:Guest)(n:Int):Bool:=pc (SmG g)
@[simp] abbrev zrf (g:Guest)(n:Int):Guest:=saw g n
def zw4:Run:=rF2 (dT .guest) dI λb c=>(zuU b c,[aT .guest<|zrf b c])
def zZ7 (N:Nat)(a:Guest)(b:Int):OA:=
 (oN (zeb a)<|cond (ilt (ln (zdN a).Seen) 40) (oN (few<|ln<|ap (zdN a).Seen [b])<|some [aT .guest ({ (zdN a) with Seen:=(ap (zdN a).Seen [b])}:Guest)])<|some [aT .guest<|zdN a])
theorem z4N (a:Guest)(b:Int)(c:zuU a b=true):∃N,zZ7 N a b=some [aT .guest<|zrf a b]:=by have d:=zD.1 c;have e:a.Seen.length<=1048576:=d.2.2.2;refine⟨0,?_⟩;unfold zZ7 oN;refine mu (br (λ_=>mu ?_) λ_=>?_);all_goals first|rfl|(simp only [*,zrf,saw,cT,cF]<;>rfl)|simp_all[Ty.cells,zrf,saw]
theorem zY0:vV 295 zw4:=kF2 zhA zl zn zo (zq []) z4N
def zZ3 (N:Nat)(a:Guest)(b:Int):OA:=
 (oN (zK a)<|cond (ilt (ln a.Seen) 40) (oN (few<|ln<|ap (zda a).Seen [b])<|some [aT .guest ({ (zda a) with Seen:=(ap (zda a).Seen [b])}:Guest)])<|some [aT .guest<|zda a])
theorem z4J (a:Guest)(b:Int)(c:zuU a b=true):∃N,zZ3 N a b=some [aT .guest<|zrf a b]:=by have d:=zD.1 c;have e:a.Seen.length<=1048576:=d.2.2.2;refine⟨0,?_⟩;unfold zZ3 oN;refine mu (br (λ_=>mu ?_) λ_=>?_);all_goals first|rfl|(simp only [*,zrf,saw,cT,cF]<;>rfl)|simp_all[Ty.cells,zrf,saw]
theorem zYW:vV 170 zw4:=kF2 zhA zl zn zo (zq []) z4J
def stopped (g:Guest)(e:GExit):Guest:={g with Exit:=e}
@[simp] theorem zZT {g:Guest}(e:GExit)(h:SmG g):SmG (stopped g e):=h
@[simp] abbrev zcn (g:Guest)(e:GExit):Bool:=pc (SmG g)
@[simp] abbrev zcz (g:Guest)(e:GExit):Guest:=stopped g e
def zpp:Run:=rF2 (dT .guest) dE λb c=>(zcn b c,[aT .guest<|zcz b c])
def zGG (N:Nat)(a:Guest)(b:GExit):OA:=
 (oN (zeb a)<|some [aT .guest ({ (zdN a) with Exit:=b}:Guest)])
theorem zT8 (a:Guest)(b:GExit)(c:zcn a b=true):∃N,zGG N a b=some [aT .guest<|zcz a b]:=by have d:=zD.1 c;refine⟨0,?_⟩;unfold zGG oN;refine mu ?_;first|rfl|(simp only [*,zcz,stopped,cT,cF]<;>rfl)|simp_all[Ty.cells,zcz,stopped]
theorem zL7:vV 209 zpp:=kF2 zhA zl zn zo (zq []) zT8
def zGb (N:Nat)(a:Guest)(b:GExit):OA:=
 (oN (zK a)<|some [aT .guest ({ (zda a) with Exit:=b}:Guest)])
theorem zTH (a:Guest)(b:GExit)(c:zcn a b=true):∃N,zGb N a b=some [aT .guest<|zcz a b]:=by have d:=zD.1 c;refine⟨0,?_⟩;unfold zGb oN;refine mu ?_;first|rfl|(simp only [*,zcz,stopped,cT,cF]<;>rfl)|simp_all[Ty.cells,zcz,stopped]
theorem zLH:vV 75 zpp:=kF2 zhA zl zn zo (zq []) zTH
def zcg (g:Guest):Guest:=bif ige g.Pc 12 then {g with Pc:=12} else {g with Pc:=zN .i64 g.Pc 1}
@[simp] theorem zlO {g:Guest}(h:SmG g):SmG (zcg g):=by unfold zcg;cases ige g.Pc 12<;>exact h
@[simp] abbrev zb7 (g:Guest):Guest:=zcg g
def ziT:Run:=rF1 (dT .guest) λb=>(zK b,[aT .guest<|zb7 b])
def zRH (N:Nat)(a:Guest):OA:=
 (oN (zeb a)<|cond (ige (zdN a).Pc 12) (some [aT .guest ({ (zdN a) with Pc:=12}:Guest)])<|some [aT .guest ({ (zdN a) with Pc:=(zN .i64 (zdN a).Pc 1)}:Guest)])
theorem zZg (a:Guest)(b:zK a=true):∃N,zRH N a=some [aT .guest<|zb7 a]:=by have c:=zD.1 b;refine⟨0,?_⟩;unfold zRH oN;refine mu (br (λ_=>?_) λ_=>?_);all_goals first|rfl|(simp only [*,zb7,zcg,cT,cF]<;>rfl)|simp_all[Ty.cells,zb7,zcg]
theorem zTe:vV 223 ziT:=kF1 zhA zl zn zo (zq []) zZg
def zRw (N:Nat)(a:Guest):OA:=
 (oN (zK a)<|cond (ige a.Pc 12) (some [aT .guest ({ (zda a) with Pc:=12}:Guest)])<|some [aT .guest ({ (zda a) with Pc:=(zN .i64 a.Pc 1)}:Guest)])
theorem zY7 (a:Guest)(b:zK a=true):∃N,zRw N a=some [aT .guest<|zb7 a]:=by have c:=zD.1 b;refine⟨0,?_⟩;unfold zRw oN;refine mu (br (λ_=>?_) λ_=>?_);all_goals first|rfl|(simp only [*,zb7,zcg,cT,cF]<;>rfl)|simp_all[Ty.cells,zb7,zcg]
theorem zS4:vV 169 ziT:=kF1 zhA zl zn zo (zq []) zY7
def z9q:zbd:=[(211,zom),(77,zom),(291,zol),(165,zol),(228,zpr),(248,zpr),(295,zw4),(170,zw4),(209,zpp),(75,zpp),(223,ziT),(169,ziT)]++z9p
theorem zfD:zQ z9q:=zf zI6 (zf zIC<|zf zI5<|zf zIB<|zf zL9<|zf zLJ<|zf zY0<|zf zYW<|zf zL7<|zf zLH<|zf zTe<|zf zS4 zhA)
def interrupted (g:Guest):Guest:=bif zkZ g then saw {g with Pending:=zhD g.Pending} (zN .i64 100<|zne g.Pending) else g
@[simp] theorem z0N {g:Guest}(h:SmG g):SmG (interrupted g):=by unfold interrupted;cases zkZ g;{exact h};{exact zQT (g:={g with Pending:=zhD g.Pending}) _ h}
@[simp] abbrev zfg (g:Guest):Guest:=interrupted g
def zk6:Run:=rF1 (dT .guest) λb=>(zK b,[aT .guest<|zfg b])
def zwg (N:Nat)(a:Guest):OA:=
 let c:=zN .i64 100<|zgo a.Pending;let b:=({a with Pending:=(zgn a.Pending)}:Guest); (oN (zbx a)<|cond (nB<|zmg a) (oN (zeb a)<|some [aT .guest<|zdN a])<|oN (zcm a.Pending)<|oN (zuU b c)<|some [aT .guest<|zrf b c])
theorem zFI (a:Guest)(b:zK a=true):∃N,zwg N a=some [aT .guest<|zfg a]:=by
 have c:=zD.1 b;have d:_/\_/\_/\_:=c;refine⟨0,?_⟩;unfold zwg oN nB;conv=>zeta
 refine must rfl (brN (λ_=>mu ?_) λ_=>must rfl (mu ?_));all_goals first|rfl|(simp only [*,zfg,interrupted,cT,cF]<;>rfl)|simp_all[Ty.cells,zfg,interrupted]
theorem zBG:vV 203 zk6:=kF1 zfD zl zn zo (zq []) zFI
def zv3 (N:Nat)(a:Guest):OA:=
 let c:=zN .i64 100<|zgo a.Pending;let b:=({a with Pending:=(zgn a.Pending)}:Guest); (oN (zbx a)<|cond (nB<|zmg a) (oN (zK a)<|some [aT .guest<|zda a])<|oN (zcm a.Pending)<|oN (zuU b c)<|some [aT .guest<|zrf b c])
theorem zFx (a:Guest)(b:zK a=true):∃N,zv3 N a=some [aT .guest<|zfg a]:=by
 have c:=zD.1 b;have d:_/\_/\_/\_:=c;refine⟨0,?_⟩;unfold zv3 oN nB;conv=>zeta
 refine must rfl (brN (λ_=>mu ?_) λ_=>must rfl (mu ?_));all_goals first|rfl|(simp only [*,zfg,interrupted,cT,cF]<;>rfl)|simp_all[Ty.cells,zfg,interrupted]
theorem zBw:vV 179 zk6:=kF1 zfD zl zn zo (zq []) zFx
def zyC (o:Int):Int:=bif ieq o 3 then 3 else (cond (ieq o 4) 4<|cond (ieq o 5) 5<|cond (ieq o 6) 6<|cond (ieq o 7) 7 2)
def zL (g:Guest):Int:=bif canRun g then (cond (zkZ g) 1<|zyC (zcF g.Prog g.Pc).Op) else 0
@[simp] abbrev zhJ (g:Guest):Int:=zL g
def zq4:Run:=rF1 (dT .guest) λb=>(zbx b,[aI<|zhJ b])
def zKL (N:Nat)(a:Guest):OA:=
 let b:=(zd5 a.Prog a.Pc).Op; (oN (zuB a)<|cond (nB<|zpI a) (some [aI 0])<|oN (zbx a)<|cond (zmg a) (some [aI 1])<|oN (zdV a.Prog a.Pc)<|cond (ieq b 3) (some [aI 3])<|cond (ieq b 4) (some [aI 4])<|cond (ieq b 5) (some [aI 5])<|cond (ieq b 6) (some [aI 6])<|cond (ieq b 7) (some [aI 7])<|some [aI 2])
theorem zDK (a:Guest)(b:zbE big [aT .guest a])(c:zbx a=true):∃N,zKL N a=some [aI<|zhJ a]:=by
 refine⟨0,?_⟩;unfold zKL oN nB;conv=>zeta
 refine must rfl (brN (λ_=>?_) λ_=>must rfl (br (λ_=>?_) λ_=>must rfl (br (λ_=>?_) λ_=>br (λ_=>?_) λ_=>br (λ_=>?_) λ_=>br (λ_=>?_) λ_=>br (λ_=>?_) λ_=>?_)));all_goals first|rfl|(simp only [*,zhJ,zL,zyC,cT,cF]<;>rfl)|simp_all[Ty.cells,zhJ,zL,zyC]
theorem zcO:vV 201 zq4:=hF1 zfD zl zn zo (zq []) zDK
theorem zO1:vV 70 zq4:=hF1 zfD zl zn zo (zq []) zDK
def held (g:Guest):Guest:=zcg {g with Halted:=true}
@[simp] theorem zXK {g:Guest}(h:SmG g):SmG (held g):=zlO (g:={g with Halted:=true}) h
@[simp] abbrev zjD (g:Guest):Guest:=held g
def zuA:Run:=rF1 (dT .guest) λb=>(zK b,[aT .guest<|zjD b])
def zU2 (N:Nat)(b:Guest):OA:=
 let a:=({b with Halted:=true}:Guest); (oN (zK a)<|some [aT .guest<|zb7 a])
theorem zMZ (a:Guest)(d:zbE big [aT .guest a])(b:zK a=true):∃N,zU2 N a=some [aT .guest<|zjD a]:=by
 have c:=zD.1 b;have e:_/\_/\_/\_:=c;refine⟨0,?_⟩;unfold zU2 oN;conv=>zeta
 refine mu ?_;first|rfl|(simp only [*,zjD,held,cT,cF]<;>rfl)|simp_all[Ty.cells,zjD,held]
theorem zV2:vV 224 zuA:=hF1 zfD zl zn zo (zq []) zMZ
theorem zVW:vV 174 zuA:=hF1 zfD zl zn zo (zq []) zMZ
def zKI (N:Nat)(a:Guest):OA:=
 (oN (zK a)<|some [aT .guest<|zb7 a])
theorem zDJ (a:Guest)(c:zbE big [aT .guest a])(b:zK a=true):∃N,zKI N a=some [aT .guest<|zb7 a]:=by have d:=zD.1 b;refine⟨0,?_⟩;unfold zKI oN;refine mu ?_;first|rfl|(simp only [*,zb7,cT,cF]<;>rfl)|simp_all[Ty.cells,zb7]
theorem zPp:vV 213 ziT:=hF1 zfD zl zn zo (zq []) zDJ
theorem zOX:vV 79 ziT:=hF1 zfD zl zn zo (zq []) zDJ
def loaded (g:Guest)(v:Int):Guest:=zcg (saw {g with A:=v} v)
@[simp] theorem zND {g:Guest}(v:Int)(h:SmG g):SmG (loaded g v):=zlO (zQT (g:={g with A:=v}) v h)
@[simp] abbrev zkv (g:Guest)(v:Int):Bool:=pc (SmG g)
@[simp] abbrev zjI (g:Guest)(v:Int):Guest:=loaded g v
def zqR:Run:=rF2 (dT .guest) dI λb c=>(zkv b c,[aT .guest<|zjI b c])
def zKw (N:Nat)(c:Guest)(a:Int):OA:=
 let b:=({c with A:=a}:Guest); (oN (zuU b a)<|oN (zK<|zrf b a)<|some [aT .guest<|zb7<|zrf b a])
theorem zDF (b:Guest)(a:Int)(e:zbE big [aT .guest b,aI a])(d:zkv b a=true):∃N,zKw N b a=some [aT .guest<|zjI b a]:=by
 have c:=zD.1 d;have h:_/\_/\_/\_:=c;have f:SmG (saw {b with A:=a} a):=zQT (g:={b with A:=a}) a c;refine⟨0,?_⟩;unfold zKw oN;conv=>zeta
 refine mu (mu ?_);first|rfl|(simp only [*,zjI,loaded,cT,cF]<;>rfl)|simp_all[Ty.cells,zjI,loaded]
theorem zPd:vV 214 zqR:=hF2 zfD zl zn zo (zq []) zDF
theorem zOJ:vV 80 zqR:=hF2 zfD zl zn zo (zq []) zDF
def zse (g:Guest)(w:Int):Guest:=bif ieq w 5 then stopped g (zyD (zcF g.Prog g.Pc).X) else stopped g ⟨4,0,false,0⟩
@[simp] theorem zbcS {g:Guest}(w:Int)(h:SmG g):SmG (zse g w):=by unfold zse;cases ieq w 5<;>exact h
@[simp] abbrev zoM (g:Guest)(w:Int):Bool:=pc (SmG g)
@[simp] abbrev zlF (g:Guest)(w:Int):Guest:=zse g w
def zBa:Run:=rF2 (dT .guest) dI λb c=>(zoM b c,[aT .guest<|zlF b c])
def zGh (N:Nat)(a:Guest)(c:Int):OA:=
 let b:=(zd5 a.Prog a.Pc).X; (cond (ieq c 5) (oN (zdV a.Prog a.Pc)<|oN (zha b)<|oN (zcn a<|zlH b)<|some [aT .guest<|zcz a<|zlH b])<|oN (zcn a (⟨4,0,false,0⟩:GExit))<|some [aT .guest<|zcz a (⟨4,0,false,0⟩:GExit)])
theorem zTN (a:Guest)(b:Int)(c:zoM a b=true):∃N,zGh N a b=some [aT .guest<|zlF a b]:=by
 have d:=zD.1 c;refine⟨0,?_⟩;unfold zGh oN;conv=>zeta
 refine br (λ_=>must rfl (must rfl (mu ?_))) (λ_=>mu ?_);all_goals first|rfl|(simp only [*,zlF,zse,cT,cF]<;>rfl)|simp_all[Ty.cells,zlF,zse]
theorem zLN:vV 173 zBa:=kF2 zfD zl zn zo (zq []) zTN
def zex (g:Guest):Bool:=zen g.Prog&&(zi g.A 0 99&&(zi g.Pc 0 12&&(zds g.Written 4 8&&(zds g.Live 4 8&&(znO g.Ctl&&(zem g.Pending&&(zkl g.Exit&&ile (ln g.Seen) 40)))))))
@[simp] abbrev ziY (g:Guest):Bool:=zex g
def zpe:Run:=rF1 (dT .guest) λb=>(zbx b,[aB<|ziY b])
def zGs (N:Nat)(a:Guest):OA:=
 (oN (zuD a.Prog)<|cond (ziy a.Prog) (oN (zJ a.A 0 99)<|cond (zi a.A 0 99) (oN (zJ a.Pc 0 12)<|cond (zi a.Pc 0 12) (oN (zkU a.Written 4 8)<|cond (zfH a.Written 4 8) (oN (zkU a.Live 4 8)<|cond (zfH a.Live 4 8) (oN (zfM a.Ctl)<|cond (zop a.Ctl) (oN (zcm a.Pending)<|cond (ze7 a.Pending) (oN (zuC a.Exit)<|cond (znu a.Exit) (some [aB<|ile (ln a.Seen) 40]) oF) oF) oF) oF) oF) oF) oF) oF)
theorem zAY (a:Guest)(b:zbE big [aT .guest a])(c:zbx a=true):∃N,zGs N a=some [aB<|ziY a]:=by refine⟨0,?_⟩;unfold zGs oN;refine must rfl (br (λ_=>must rfl (br (λ_=>must rfl (br (λ_=>must rfl (br (λ_=>must rfl (br (λ_=>must rfl (br (λ_=>must rfl (br (λ_=>must rfl (br (λ_=>?_) λ_=>?_)) λ_=>?_)) λ_=>?_)) λ_=>?_)) λ_=>?_)) λ_=>?_)) λ_=>?_)) λ_=>?_);all_goals first|rfl|(simp only [*,ziY,zex,cT,cF]<;>rfl)|simp_all[Ty.cells,ziY,zex]
theorem zLT:vV 292 zpe:=hF1 zfD zl zn zo (zq []) zAY
theorem zLu:vV 259 zpe:=hF1 zfD zl zn zo (zq []) zAY
@[simp] abbrev zdh (l:List Guest):Bool:=pc (zpx l)
@[simp] abbrev zd1 (l:List Guest):List Guest:=l
def zvJ:Run:=rF1 (dS .guest) λb=>(zdh b,[aS .guest<|zd1 b])
def zxY (N:Nat)(c:lG):OA:=
 (iter (σ:=(Int×Int×lG×lG×Unit)) N (λd a=>let b:=ix a.2.2.2.1 a.2.1 zu; (cond (ilt a.2.1 a.1) (oN (inb a.2.1<|ln a.2.2.2.1)<|oN (zK b)<|oN (few<|ln<|ap a.2.2.1 [zda b])<|d (a.1,zN .i64 a.2.1 1,ap a.2.2.1 [zda b],a.2.2.2.1,()))<|some [aS .guest a.2.2.1])) (ln c,0,[],c,()))
def zJS:=zq [(230,0,{n:=20,tm:=[(3,.sl 0 []),(7,.sl 1 []),(8,ti),(9,ti)],lo:=[],ro:=[(0,.guest,true),(1,.guest,false)]})]
theorem zJo (a:List Guest)(g:zdh a=true):∃N,zxY N a=some [aS .guest<|zd1 a]:=by
 have f:=zD.1 g;have e:=zcu f.1;refine zbX λN d=>?_;unfold zxY oN;conv=>zeta
 refine(zY a (λi (t:lG)=>(ln a,(i:Int),t,a,())) _ (λ_ x b j=>bif zK x then (cond (few<|ln<|ap b [zda x]) (j<|ap b [zda x]) none) else none) (λ(t:lG)=>some [.one<|.s .guest t]) (λi c t rec=>?_) (λt rec=>?_) _ ([])<|d e.1).trans ?_;{simp only [zbn c,zU c,zbb c,zX c e.1,cT]};{simp only [zbe,cF]};exact zkG zK zda _ a 0 [] (λx h=>⟨by exact zba (f.2 x h),rfl⟩) (by simpa using e.2)
theorem zDi:vV 230 zvJ:=kF1 zfD zl zn zo zJS zJo
def gAt (b:Bare)(i:Int):Guest:=bif hasB i (ln b.Guests) then ix b.Guests i zu else Ty.dflt .guest
@[simp] theorem zf3 {b:Bare}(i:Int)(h:SmB b):SmG (gAt b i):=by unfold gAt;cases a:hasB i (ln b.Guests);{exact zbds};{exact zNC h.2.1 a _}
@[simp] abbrev zdU (b:Bare)(i:Int):Bool:=pc (SmB b)
@[simp] abbrev zdp (b:Bare)(i:Int):Guest:=gAt b i
@[simp] abbrev zdq (b:Bare)(i:Int):Bool:=hasB i (ln b.Guests)
def zpd:Run:=rF2 (dT .bare) dI λb c=>(zdU b c,[aT .guest<|zdp b c,aB<|zdq b c])
def zGr (N:Nat)(a:Bare)(b:Int):OA:=
 let c:=ix a.Guests b zu; (oN (zJ b 0<|wsub .i64 (ln a.Guests) 1)<|cond (nB<|zi b 0<|wsub .i64 (ln a.Guests) 1) (some [aT .guest (⟨[],0,0,[],[],⟨0,0,false⟩,0,⟨0,0,false,0⟩,false,[]⟩:Guest),aB false])<|oN (inb b<|ln a.Guests)<|oN (zeb c)<|some [aT .guest<|zdN c,aB true])
theorem zTW (a:Bare)(b:Int)(d:zdU a b=true):∃N,zGr N a b=some [aT .guest<|zdp a b,aB<|zdq a b]:=by
 have c:=zD.1 d;have e:a.Guests.length<=1048576:=c.2.1.1;have f:hasB b (ln a.Guests)=true->SmG (ix a.Guests b zu):=λh=>zNC c.2.1 h _;refine⟨0,?_⟩;unfold zGr oN nB;conv=>zeta
 refine must rfl (brN (λ_=>?_) λ_=>mu (mu ?_));all_goals first|rfl|(simp only [*,zdp,zdq,gAt,Ty.dflt,cT,cF]<;>rfl)|simp_all[Ty.cells,zdp,zdq,gAt,Ty.dflt]
theorem zLS:vV 200 zpd:=kF2 zfD zl zn zo (zq []) zTW
def zFZ (N:Nat)(a:Bare)(b:Int):OA:=
 let c:=ix a.Guests b zu; (oN (zbj b<|ln a.Guests)<|cond (nB<|zca b<|ln a.Guests) (some [aT .guest (⟨[],0,0,[],[],⟨0,0,false⟩,0,⟨0,0,false,0⟩,false,[]⟩:Guest),aB false])<|oN (inb b<|ln a.Guests)<|oN (zK c)<|some [aT .guest<|zda c,aB true])
theorem zTu (a:Bare)(b:Int)(d:zdU a b=true):∃N,zFZ N a b=some [aT .guest<|zdp a b,aB<|zdq a b]:=by
 have c:=zD.1 d;have e:a.Guests.length<=1048576:=c.2.1.1;have f:hasB b (ln a.Guests)=true->SmG (ix a.Guests b zu):=λh=>zNC c.2.1 h _;refine⟨0,?_⟩;unfold zFZ oN nB;conv=>zeta
 refine must rfl (brN (λ_=>?_) λ_=>mu (mu ?_));all_goals first|rfl|(simp only [*,zdp,zdq,gAt,Ty.dflt,cT,cF]<;>rfl)|simp_all[Ty.cells,zdp,zdq,gAt,Ty.dflt]
theorem zLt:vV 175 zpd:=kF2 zfD zl zn zo (zq []) zTu
def z9r:zbd:=[(203,zk6),(179,zk6),(201,zq4),(70,zq4),(224,zuA),(174,zuA),(213,ziT),(79,ziT),(214,zqR),(80,zqR),(173,zBa),(292,zpe),(259,zpe),(230,zvJ),(200,zpd),(175,zpd)]++z9q
theorem zkH:zQ z9r:=zf zBG (zf zBw<|zf zcO<|zf zO1<|zf zV2<|zf zVW<|zf zPp<|zf zOX<|zf zPd<|zf zOJ<|zf zLN<|zf zLT<|zf zLu<|zf zDi<|zf zLS<|zf zLt zfD)
def plainly (g:Guest):Guest:=bif ine (zL g) 2 then g else (cond (zi g.A 0 99) (cond (zi (zcF g.Prog g.Pc).X 0 99) (cond (ieq (zcF g.Prog g.Pc).Op 1) {zcg g with A:=(zcF g.Prog g.Pc).X}<|cond (ieq (zcF g.Prog g.Pc).Op 2) {zcg g with A:=zoF (zN .i64 g.A (zcF g.Prog g.Pc).X) 100}<|cond (ieq (zcF g.Prog g.Pc).Op 8) (cond (ieq g.A 0) {zcg g with Pc:=(zcF g.Prog g.Pc).X}<|zcg g)<|zcg g)<|zcg g)<|zcg g)
@[simp] theorem zbdl (g:Guest):(zcg g).Prog=g.Prog:=by unfold zcg;cases ige g.Pc 12<;>rfl
@[simp] theorem zbdV (g:Guest):(zcg g).A=g.A:=by unfold zcg;cases ige g.Pc 12<;>rfl
@[simp] theorem zbbH (g:Guest):(zcg g).Written=g.Written:=by unfold zcg;cases ige g.Pc 12<;>rfl
@[simp] theorem zbdk (g:Guest):(zcg g).Live=g.Live:=by unfold zcg;cases ige g.Pc 12<;>rfl
@[simp] theorem zbdz (g:Guest):(zcg g).Ctl=g.Ctl:=by unfold zcg;cases ige g.Pc 12<;>rfl
@[simp] theorem zbbG (g:Guest):(zcg g).Pending=g.Pending:=by unfold zcg;cases ige g.Pc 12<;>rfl
@[simp] theorem zbdj (g:Guest):(zcg g).Exit=g.Exit:=by unfold zcg;cases ige g.Pc 12<;>rfl
@[simp] theorem zbcz (g:Guest):(zcg g).Halted=g.Halted:=by unfold zcg;cases ige g.Pc 12<;>rfl
@[simp] theorem zbdm (g:Guest):(zcg g).Seen=g.Seen:=by unfold zcg;cases ige g.Pc 12<;>rfl
@[simp] theorem zbdA (g:Guest)(x:Int):(zcg {g with A:=x}).Pc=(zcg g).Pc:=by unfold zcg;cases ige g.Pc 12<;>rfl
@[simp] theorem zHB {g:Guest}(h:SmG g):SmG (plainly g):=by have a:=zlO h;unfold plainly;cases ine (zL g) 2;{cases zi g.A 0 99;{exact a};{cases zi (zcF g.Prog g.Pc).X 0 99;{exact a};{cases ieq (zcF g.Prog g.Pc).Op 1;{cases ieq (zcF g.Prog g.Pc).Op 2;{cases ieq (zcF g.Prog g.Pc).Op 8;{exact a};{cases ieq g.A 0<;>exact a}};{exact a}};{exact a}}}};{exact h}
@[simp] abbrev zh8 (g:Guest):Guest:=plainly g
def zpa:Run:=rF1 (dT .guest) λb=>(zK b,[aT .guest<|zh8 b])
def zF8 (N:Nat)(a:Guest):OA:=
 let c:=aT .guest<|zb7 a;let b:=zd5 a.Prog a.Pc; (oN (zbx a)<|cond (ine (zhJ a) 2) (oN (zK a)<|some [aT .guest<|zda a])<|oN (zdV a.Prog a.Pc)<|oN (zK a)<|oN (zJ a.A 0 99)<|cond (nB<|zi a.A 0 99) (some [c])<|oN (zJ b.X 0 99)<|cond (nB<|zi b.X 0 99) (some [c])<|cond (ieq b.Op 1) (some [aT .guest ({ (zb7 a) with A:=b.X}:Guest)])<|cond (ieq b.Op 2) (oN (ine 100 0)<|some [aT .guest ({ (zb7 a) with A:=(zoF (zN .i64 a.A b.X) 100)}:Guest)])<|cond (ieq b.Op 8) (cond (ieq a.A 0) (some [aT .guest ({ (zb7 a) with Pc:=b.X}:Guest)])<|some [c])<|some [c])
theorem zTE (a:Guest)(b:zK a=true):∃N,zF8 N a=some [aT .guest<|zh8 a]:=by
 have c:=zD.1 b;refine⟨0,?_⟩;unfold zF8 oN nB;conv=>zeta
 refine must rfl (br (λ_=>mu ?_) λ_=>must rfl (mu (must rfl (brN (λ_=>?_) λ_=>must rfl (brN (λ_=>?_) λ_=>br (λ_=>?_) λ_=>br (λ_=>must rfl ?_) λ_=>br (λ_=>br (λ_=>?_) λ_=>?_) λ_=>?_)))));all_goals first|rfl|(simp only [*,zh8,plainly,cT,cF]<;>rfl)|simp_all[Ty.cells,zh8,plainly]
theorem zLE:vV 180 zpa:=kF1 zkH zl zn zo (zq []) zTE
def zGE (N:Nat)(a:Guest):OA:=
 let i:=ieq a.A 0;let c:=zK a;let b:=aT .guest<|zb7 a;let d:=zd5 a.Prog a.Pc;let j:=({a with A:=d.X}:Guest);let h:=ieq d.Op 8;let e:=zi d.X 0 99;let g:=aT .guest ({ (zdN a) with Pc:=d.X}:Guest);let f:=({a with A:=(zoF (zN .i64 a.A d.X) 100)}:Guest); (oN (zbx a)<|cond (ine (zhJ a) 2) (oN (zeb a)<|some [aT .guest<|zdN a])<|oN (zdV a.Prog a.Pc)<|oN (zJ a.A 0 99)<|cond (zi a.A 0 99) (oN (zJ d.X 0 99)<|cond e (cond (ieq d.Op 1) (oN (zK j)<|some [aT .guest<|zb7 j])<|cond e (cond (ieq d.Op 2) (oN (ine 100 0)<|oN (zK f)<|some [aT .guest<|zb7 f])<|cond e (cond h (cond i (oN (zeb a)<|some [g])<|oN c<|some [b])<|oN c<|some [b])<|oN c<|some [b])<|cond e (cond h (cond i (oN (zeb a)<|some [g])<|oN c<|some [b])<|oN c<|some [b])<|oN c<|some [b])<|cond e (cond (ieq d.Op 2) (oN (ine 100 0)<|oN (zK f)<|some [aT .guest<|zb7 f])<|cond e (cond h (cond i (oN (zeb a)<|some [g])<|oN c<|some [b])<|oN c<|some [b])<|oN c<|some [b])<|cond e (cond h (cond i (oN (zeb a)<|some [g])<|oN c<|some [b])<|oN c<|some [b])<|oN c<|some [b])<|oN c<|some [b])
theorem zT6 (a:Guest)(b:zK a=true):∃N,zGE N a=some [aT .guest<|zh8 a]:=by
 have c:=zD.1 b;have d:_/\_/\_/\_:=c;refine⟨0,?_⟩;unfold zGE oN;conv=>zeta
 refine must rfl (br (λ_=>mu ?_) λ_=>must rfl (must rfl (br (λ_=>must rfl (br (λ_=>br (λ_=>mu ?_) λ_=>br (λ_=>br (λ_=>must rfl (mu ?_)) λ_=>br (λ_=>br (λ_=>br (λ_=>mu ?_) λ_=>mu ?_) λ_=>mu ?_) λ_=>mu ?_) λ_=>br (λ_=>br (λ_=>br (λ_=>mu ?_) λ_=>mu ?_) λ_=>mu ?_) λ_=>mu ?_) λ_=>br (λ_=>br (λ_=>must rfl (mu ?_)) λ_=>br (λ_=>br (λ_=>br (λ_=>mu ?_) λ_=>mu ?_) λ_=>mu ?_) λ_=>mu ?_) λ_=>br (λ_=>br (λ_=>br (λ_=>mu ?_) λ_=>mu ?_) λ_=>mu ?_) λ_=>mu ?_)) λ_=>mu ?_)));all_goals first|rfl|(simp only [*,zh8,plainly,cT,cF]<;>rfl)|simp_all[Ty.cells,zh8,plainly]
theorem zL5:vV 204 zpa:=kF1 zkH zl zn zo (zq []) zT6
def address (g:Guest):Int:=bif ine (zL g) 3 then (cond (ine (zL g) 4) (-1)<|(zcF g.Prog g.Pc).X) else (zcF g.Prog g.Pc).X
@[simp] abbrev zhp (g:Guest):Int:=address g
def zpc:Run:=rF1 (dT .guest) λb=>(zbx b,[aI<|zhp b])
def zGj (N:Nat)(a:Guest):OA:=
 (oN (zbx a)<|cond (ine (zhJ a) 3) (cond (ine (zhJ a) 4) (some [aI<|-1])<|oN (zdV a.Prog a.Pc)<|some [aI (zd5 a.Prog a.Pc).X])<|oN (zdV a.Prog a.Pc)<|some [aI (zd5 a.Prog a.Pc).X])
theorem zAX (a:Guest)(b:zbE big [aT .guest a])(c:zbx a=true):∃N,zGj N a=some [aI<|zhp a]:=by refine⟨0,?_⟩;unfold zGj oN;refine must rfl (br (λ_=>br (λ_=>?_) λ_=>must rfl ?_) λ_=>must rfl ?_);all_goals first|rfl|(simp only [*,zhp,address,cT,cF]<;>rfl)|simp_all[Ty.cells,zhp,address]
theorem zLP:vV 205 zpc:=hF1 zkH zl zn zo (zq []) zAX
theorem zLs:vV 71 zpc:=hF1 zkH zl zn zo (zq []) zAX
def zgO (g:Guest)(t w:Int):Guest:=bif ieq w 6 then stopped g (zu7 (zcF g.Prog g.Pc).X) else (cond (ieq w 5&&zey t 1) (stopped g<|zyD (zcF g.Prog g.Pc).X)<|cond (ieq w 7&&zey t 2) (stopped g ⟨4,0,false,0⟩)<|cond (ieq w 7) (held g)<|zcg g)
def zis (t w:Int):Bool:=bif ieq w 6 then false else (cond (ieq w 5&&zey t 1) false<|cond (ieq w 7&&zey t 2) false true)
@[simp] theorem zEc {g:Guest}(t w:Int)(h:SmG g):SmG (zgO g t w):=by unfold zgO;cases ieq w 6;{cases (ieq w 5&&zey t 1);{cases (ieq w 7&&zey t 2);{cases ieq w 7;{exact zlO h};{exact zXK h}};{exact h}};{exact h}};{exact h}
@[simp] abbrev zeu (g:Guest)(t w:Int):Bool:=pc (SmG g)
@[simp] abbrev zcK (g:Guest)(t w:Int):Guest:=zgO g t w
@[simp] abbrev zdX (g:Guest)(t w:Int):Bool:=zis t w
def zBh:Run:=rF3 (dT .guest) dI dI λb c d=>(zeu b c d,[aT .guest<|zcK b c d,aB<|zdX b c d])
def zGN (N:Nat)(a:Guest)(c b:Int):OA:=
 let g:=aT .guest<|zb7 a;let f:=aT .guest<|zjD a;let e:=(⟨4,0,false,0⟩:GExit);let d:=(zd5 a.Prog a.Pc).X; (oN (zdV a.Prog a.Pc)<|cond (ieq b 6) (oN (zha d)<|oN (zcn a<|ziI d)<|some [aT .guest<|zcz a<|ziI d,aB false])<|cond (ieq b 5) (oN (zgV c 1)<|cond (zga c 1) (oN (zha d)<|oN (zcn a<|zlH d)<|some [aT .guest<|zcz a<|zlH d,aB false])<|cond (ieq b 7) (oN (zgV c 2)<|cond (zga c 2) (oN (zcn a e)<|some [aT .guest<|zcz a e,aB false])<|cond (ieq b 7) (oN (zK a)<|some [f,aB true])<|oN (zK a)<|some [g,aB true])<|cond (ieq b 7) (oN (zK a)<|some [f,aB true])<|oN (zK a)<|some [g,aB true])<|cond (ieq b 7) (oN (zgV c 2)<|cond (zga c 2) (oN (zcn a e)<|some [aT .guest<|zcz a e,aB false])<|cond (ieq b 7) (oN (zK a)<|some [f,aB true])<|oN (zK a)<|some [g,aB true])<|cond (ieq b 7) (oN (zK a)<|some [f,aB true])<|oN (zK a)<|some [g,aB true])
theorem zUf (a:Guest)(b c:Int)(d:zeu a b c=true):∃N,zGN N a b c=some [aT .guest<|zcK a b c,aB<|zdX a b c]:=by
 have e:=zD.1 d;refine⟨0,?_⟩;unfold zGN oN;conv=>zeta
 refine must rfl (br (λ_=>must rfl (mu ?_)) λ_=>br (λ_=>must rfl (br (λ_=>must rfl (mu ?_)) λ_=>br (λ_=>must rfl (br (λ_=>mu ?_) λ_=>br (λ_=>mu ?_) λ_=>mu ?_)) λ_=>br (λ_=>mu ?_) λ_=>mu ?_)) λ_=>br (λ_=>must rfl (br (λ_=>mu ?_) λ_=>br (λ_=>mu ?_) λ_=>mu ?_)) λ_=>br (λ_=>mu ?_) λ_=>mu ?_);all_goals first|rfl|(simp only [*,zcK,zdX,zgO,zis,cT,cF]<;>rfl)|simp_all[Ty.cells,zcK,zdX,zgO,zis]
theorem zMh:vV 216 zBh:=kF3 zkH zl zn zo (zq []) zUf
def zbW (b:Bare):Bool:=bif b.Guests.all zex then (zkq b.Memory 8&&(zi (ln b.Guests) 1 2&&(ile (ln b.Outs) 40&&zem b.Pending))) else false
@[simp] abbrev zdd (b:Bare):Bool:=true
@[simp] abbrev zbY (b:Bare):Bool:=zbW b
def zqL:Run:=rF1 (dT .bare) λb=>(zdd b,[aB<|zbY b])
def zKo (N:Nat)(c:Bare):OA:=
 (iter (σ:=(Int×Int×lM×lG×(List Int)×Unit)) N (λd a=>let b:=a.2.2.2.1; (cond (ilt a.1<|ln b) (oN (inb a.1<|ln b)<|oN (zbx<|ix b a.1 zu)<|cond (nB<|ziY<|ix b a.1 zu) oF<|d (zN .i64 a.1 1,a.2.1,a.2.2.1,b,a.2.2.2.2.1,()))<|oN (zkw a.2.2.1 8)<|cond (zgJ a.2.2.1 8) (oN (zJ (ln b) 1 2)<|cond (zi (ln b) 1 2) (cond (ile (ln a.2.2.2.2.1) 40) (oN (zcm a.2.1)<|some [aB<|ze7 a.2.1]) oF) oF) oF)) (0,c.Pending,c.Memory,c.Guests,c.Outs,()))
def zYf:=zq [(202,0,{n:=38,tm:=[(1,.lp 0 0),(3,ti)],lo:=[(0,[.sl 0 [],.sl 1 [],.sl 2 [],ti])],ro:=[(0,.sl .int,false),(1,.guest,false),(2,.int,false)]})]
theorem zWz (a:Bare)(k:zbE big [aT .bare a])(m:zdd a=true):∃N,zKo N a=some [aB<|zbY a]:=by
 have j:(_:List _).length<=big:=((zcV k).1 (.s .guest a.Guests) (by simp[AV.cvs,Ty.cells])).len;refine zbX λN h=>?_;unfold zKo oN nB;conv=>zeta
 refine(zY a.Guests (λi (t:Unit)=>((i:Int),a.Pending,a.Memory,a.Guests,a.Outs,())) _ (λ_ x (_:Unit) l=>bif (zex) x then l () else oF) (λ(t:Unit)=>cond (zkw a.Memory 8) (cond (zgJ a.Memory 8) (cond (zJ (ln a.Guests) 1 2) (cond (zi (ln a.Guests) 1 2) (cond (ile (ln a.Outs) 40) (cond (zcm a.Pending) (some [.one<|.b<|ze7 a.Pending]) none) oF) oF) none) oF) none) (λi f t rec=>?_) (λt rec=>?_) _ ()<|h j).trans ?_;{simp only [zbn f,zU f,zbb f,zX f j,cT];exact zkE rfl};{simp only [zbe,cF]};rw[zhi<|zex];refine br (λc=>?_) (λc=>?_);{refine must rfl ?_;refine br (λd=>?_) (λd=>?_);{refine must rfl ?_;refine br (λe=>?_) (λe=>?_);{refine br (λg=>?_) (λg=>?_);{refine must rfl ?_;first|rfl|(simp only [c,d,e,g,zbY,zbW,cT,cF]<;>rfl)|(simp_all [Ty.cells,zbY,zbW];done)};{first|rfl|(simp only [c,d,e,g,zbY,zbW,cT,cF]<;>rfl)|(simp_all [Ty.cells,zbY,zbW];done)}};{first|rfl|(simp only [c,d,e,zbY,zbW,cT,cF]<;>rfl)|(simp_all [Ty.cells,zbY,zbW];done)}};{first|rfl|(simp only [c,d,zbY,zbW,cT,cF]<;>rfl)|(simp_all [Ty.cells,zbY,zbW];done)}};{first|rfl|(simp only [c,zbY,zbW,cT,cF]<;>rfl)|(simp_all [Ty.cells,zbY,zbW];done)}
theorem zO5:vV 202 zqL:=hF1 zkH zl zn zo zYf zWz
def zJ0 (N:Nat)(b:Bare):OA:=
 (iter (σ:=(Int×Int×Int×lG×lM×(List Int)×Unit)) N (λe a=>let c:=a.2.2.2.1;let d:=ix c a.2.1 zu; (cond (ilt a.2.1 a.1) (oN (inb a.2.1<|ln c)<|oN (zbx d)<|cond (nB<|ziY d) oF<|e (a.1,zN .i64 a.2.1 1,a.2.2.1,c,a.2.2.2.2.1,a.2.2.2.2.2.1,()))<|oN (zkw a.2.2.2.2.1 8)<|cond (zgJ a.2.2.2.2.1 8) (oN (zJ (ln c) 1 2)<|cond (zi (ln c) 1 2) (cond (ile (ln a.2.2.2.2.2.1) 40) (oN (zcm a.2.2.1)<|some [aB<|ze7 a.2.2.1]) oF) oF) oF)) (ln b.Guests,0,b.Pending,b.Guests,b.Memory,b.Outs,()))
def zX4:=zq [(176,0,{n:=36,tm:=[(1,.lp 0 0),(6,.sl 0 []),(7,ti),(8,ti)],lo:=[(0,[.sl 1 [],.sl 0 [],.sl 2 [],ti])],ro:=[(0,.guest,false),(1,.sl .int,false),(2,.int,false)]})]
theorem zWa (a:Bare)(k:zbE big [aT .bare a])(m:zdd a=true):∃N,zJ0 N a=some [aB<|zbY a]:=by
 have j:(_:List _).length<=big:=((zcV k).1 (.s .guest a.Guests) (by simp[AV.cvs,Ty.cells])).len;refine zbX λN h=>?_;unfold zJ0 oN nB;conv=>zeta
 refine(zY a.Guests (λi (t:Unit)=>(ln a.Guests,(i:Int),a.Pending,a.Guests,a.Memory,a.Outs,())) _ (λ_ x (_:Unit) l=>bif (zex) x then l () else oF) (λ(t:Unit)=>cond (zkw a.Memory 8) (cond (zgJ a.Memory 8) (cond (zJ (ln a.Guests) 1 2) (cond (zi (ln a.Guests) 1 2) (cond (ile (ln a.Outs) 40) (cond (zcm a.Pending) (some [.one<|.b<|ze7 a.Pending]) none) oF) oF) none) oF) none) (λi f t rec=>?_) (λt rec=>?_) _ ()<|h j).trans ?_;{simp only [zbn f,zU f,zbb f,zX f j,cT];exact zkE rfl};{simp only [zbe,cF]};rw[zhi<|zex];refine br (λc=>?_) (λc=>?_);{refine must rfl ?_;refine br (λd=>?_) (λd=>?_);{refine must rfl ?_;refine br (λe=>?_) (λe=>?_);{refine br (λg=>?_) (λg=>?_);{refine must rfl ?_;first|rfl|(simp only [c,d,e,g,zbY,zbW,cT,cF]<;>rfl)|(simp_all [Ty.cells,zbY,zbW];done)};{first|rfl|(simp only [c,d,e,g,zbY,zbW,cT,cF]<;>rfl)|(simp_all [Ty.cells,zbY,zbW];done)}};{first|rfl|(simp only [c,d,e,zbY,zbW,cT,cF]<;>rfl)|(simp_all [Ty.cells,zbY,zbW];done)}};{first|rfl|(simp only [c,d,zbY,zbW,cT,cF]<;>rfl)|(simp_all [Ty.cells,zbY,zbW];done)}};{first|rfl|(simp only [c,zbY,zbW,cT,cF]<;>rfl)|(simp_all [Ty.cells,zbY,zbW];done)}
theorem zOz:vV 176 zqL:=hF1 zkH zl zn zo zX4 zWa
@[simp] abbrev zbc (b:Bare):Bool:=pc (SmB b)
@[simp] abbrev zV (b:Bare):Bare:=b
def zoa:Run:=rF1 (dT .bare) λb=>(zbc b,[aT .bare<|zV b])
def zB5 (N:Nat)(a:Bare):OA:=
 (oN (zhP a.Memory)<|oN (zdh a.Guests)<|oN (zeO a.Outs)<|some [aT .bare (⟨zeF a.Memory,zd1 a.Guests,zeJ a.Outs,a.Pending⟩:Bare)])
theorem zP4 (a:Bare)(b:zbc a=true):∃N,zB5 N a=some [aT .bare<|zV a]:=by have c:=zD.1 b;have d:_/\_/\_:=c;refine⟨0,?_⟩;unfold zB5 oN;refine mu (mu<|mu ?_);first|rfl|(simp only [*,zV,cT,cF]<;>rfl)|simp_all[Ty.cells,zV]
theorem zIF:vV 177 zoa:=kF1 zkH zl zn zo (zq []) zP4
def zGM (N:Nat)(a:Bare):OA:=
 (oN (zh0 a.Memory)<|oN (zhs a.Guests)<|oN (few<|ln<|ap [] a.Outs)<|some [aT .bare (⟨zgb a.Memory,zh2 a.Guests,ap [] a.Outs,a.Pending⟩:Bare)])
theorem zUe (a:Bare)(b:zbc a=true):∃N,zGM N a=some [aT .bare<|zV a]:=by have c:=zD.1 b;have d:_/\_/\_:=c;refine⟨0,?_⟩;unfold zGM oN;refine mu (mu<|mu ?_);first|rfl|(simp only [*,zV,cT,cF]<;>rfl)|simp_all[Ty.cells,zV]
theorem zMg:vV 199 zoa:=kF1 zkH zl zn zo (zq []) zUe
def z9s:zbd:=[(204,zpa),(180,zpa),(205,zpc),(71,zpc),(216,zBh),(202,zqL),(176,zqL),(177,zoa),(199,zoa)]++z9r
theorem zzr:zQ z9s:=zf zL5 (zf zLE<|zf zLP<|zf zLs<|zf zMh<|zf zO5<|zf zOz<|zf zIF<|zf zMg zkH)
def zev (b:Bare)(i:Int)(x:Guest):Bare:={b with Guests:=up b.Guests i x}
def zeq (b:Bare)(i:Int)(x:Guest):Bare:=bif hasB i (ln b.Guests) then zev b i x else b
def zjz (b:Bare)(n:Int):Bare:=bif ilt (ln b.Outs) 40 then {b with Outs:=ap b.Outs [n]} else b
@[simp] theorem zpN {b:Bare}{i:Int}{x:Guest}(h:SmB b)(a:SmG x):SmB (zev b i x):=⟨h.1,zEP h.2.1 a,h.2.2⟩
@[simp] theorem zNB {b:Bare}{n:Int}(h:SmB b):SmB (zjz b n):=by unfold zjz;cases a:ilt (ln b.Outs) 40;{exact h};{have:=qD a;refine⟨h.1,h.2.1,?_⟩;simp[ln] at *;omega}
@[simp] theorem zbdQ (b:Bare)(n:Int):(zjz b n).Guests=b.Guests:=by unfold zjz;cases ilt (ln b.Outs) 40<;>rfl
@[simp] theorem zpP {m:List (List Int)}{p c v:Int}(h:SmM m):SmM (zbU m p c v):=by unfold zbU;cases a:zhv m p c;{exact h};{cases b:zi v 0 99;{exact h};{exact zNF h (by simpa using zbcL h ((zzU m p c).1 a).1 [])}}
@[simp] abbrev zbL (b:Bare)(i:Int)(x:Guest):Bool:=pc (SmB b/\SmG x)
@[simp] abbrev zcI (b:Bare)(i:Int)(x:Guest):Bare:=zeq b i x
def zwY:Run:=rF3 (dT .bare) dI (dT .guest) λb c d=>(zbL b c d,[aT .bare<|zcI b c d])
def zAx (N:Nat)(a:Bare)(b:Int)(c:Guest):OA:=
 (oN (zbc a)<|oN (zbj b<|ln a.Guests)<|cond (zca b<|ln a.Guests) (oN (zK c)<|oN (inb b<|ln (zV a).Guests)<|share (up (zV a).Guests b<|zda c) λd=>some [aT .bare ({ (zV a) with Guests:=d}:Bare)])<|some [aT .bare<|zV a])
theorem zMK (a:Bare)(b:Int)(c:Guest)(d:zbL a b c=true):∃N,zAx N a b c=some [aT .bare<|zcI a b c]:=by have e:=zD.1 d;refine⟨0,?_⟩;unfold zAx oN;refine mu (must rfl (br (λ_=>mu (mu<|shr ?_)) λ_=>?_));all_goals first|rfl|(simp only [*,zcI,zeq,zev,cT,cF]<;>rfl)|simp_all[Ty.cells,zcI,zeq,zev]
theorem zE6:vV 178 zwY:=kF3 zzr zl zn zo (zq []) zMK
@[simp] abbrev zdF (b:Bare)(n:Int):Bool:=pc (SmB b)
@[simp] abbrev zkT (b:Bare)(n:Int):Bare:=zjz b n
def zq0:Run:=rF2 (dT .bare) dI λb c=>(zdF b c,[aT .bare<|zkT b c])
def zKF (N:Nat)(a:Bare)(b:Int):OA:=
 (oN (zbc a)<|cond (ilt (ln (zV a).Outs) 40) (oN (few<|ln<|ap (zV a).Outs [b])<|some [aT .bare ({ (zV a) with Outs:=(ap (zV a).Outs [b])}:Bare)])<|some [aT .bare<|zV a])
theorem zWL (a:Bare)(b:Int)(c:zdF a b=true):∃N,zKF N a b=some [aT .bare<|zkT a b]:=by have d:=zD.1 c;have e:a.Outs.length<=1048576:=d.2.2;refine⟨0,?_⟩;unfold zKF oN;refine mu (br (λ_=>mu ?_) λ_=>?_);all_goals first|rfl|(simp only [*,zkT,zjz,cT,cF]<;>rfl)|simp_all[Ty.cells,zkT,zjz]
theorem zPm:vV 217 zq0:=kF2 zzr zl zn zo (zq []) zWL
def zKf (N:Nat)(a:Bare)(b:Int):OA:=
 (oN (zbc a)<|cond (ilt (ln a.Outs) 40) (oN (few<|ln<|ap (zV a).Outs [b])<|some [aT .bare ({ (zV a) with Outs:=(ap (zV a).Outs [b])}:Bare)])<|some [aT .bare<|zV a])
theorem zWq (a:Bare)(b:Int)(c:zdF a b=true):∃N,zKf N a b=some [aT .bare<|zkT a b]:=by have d:=zD.1 c;have e:a.Outs.length<=1048576:=d.2.2;refine⟨0,?_⟩;unfold zKf oN;refine mu (br (λ_=>mu ?_) λ_=>?_);all_goals first|rfl|(simp only [*,zkT,zjz,cT,cF]<;>rfl)|simp_all[Ty.cells,zkT,zjz]
theorem zOU:vV 184 zq0:=kF2 zzr zl zn zo (zq []) zWq
def z1o:zbd:=[(178,zwY),(217,zq0),(184,zq0)]++z9s
theorem zlU:zQ z1o:=zf zE6 (zf zPm<|zf zOU zzr)
def zkd (b:Bare)(g:Int)(x:Guest)(w:Bool):Bare :=
 bif zfK x.Live (zbp<|address x) (zcq w) then
  (bif w then zev {b with Memory:=zbU b.Memory (zcx x.Live (zbp<|address x)<|zcq w) (zee<|address x) x.A} g (zcg x)
  else zev b g (loaded x<|cellAt b.Memory (zcx x.Live (zbp<|address x)<|zcq w)<|zee<|address x))
 else zev b g (stopped x<|zs6 (zbp<|address x) w)
def zov (b:Bare)(g:Int)(x:Guest)(w:Int):Bare :=
 zev (cond (cond (zis x.Ctl.Traps w) (ieq w 5) false) (zjz b (zcF x.Prog x.Pc).X) b) g (zgO x x.Ctl.Traps w)
def stepped (b:Bare)(g:Int)(x:Guest)(w:Int):Bare :=
 bif ieq w 1 then zev b g (interrupted x) else (cond (ieq w 2) (zev b g<|plainly x)<|cond (ieq w 3) (zkd b g x false)<|cond (ieq w 4) (zkd b g x true)<|zov b g x w)
theorem tr1 (x:Guest)(t w:Int):ieq w 6=true->zgO x t w=stopped x (zu7 (zcF x.Prog x.Pc).X)/\zis t w=false:=by intro h;simp[zgO,zis,h]
theorem tr2 (x:Guest)(t w:Int):ieq w 6=false->(ieq w 5=false->ieq w 6=false->ieq w 7=true)->zey t (zgM w)=true->zgO x t w=zse x w/\zis t w=false:=by intro b c h;unfold zgO zis zse zgM at *;cases a:ieq w 5<;>simp_all
theorem tr3 (x:Guest)(t w:Int):ieq w 6=false->ieq w 7=false->zey t (zgM w)=false->ieq w 5=true->zgO x t w=zcg x/\zis t w=true:=by intro b c h a;unfold zgO zis zgM at *;simp_all
theorem tr4 (x:Guest)(t w:Int):ieq w 6=false->(ieq w 5=false->ieq w 6=false->ieq w 7=true)->zey t (zgM w)=false->ieq w 5=false->zgO x t w=held x:=by intro b c h a;unfold zgO zgM at *;simp_all
def zhh (b:Bare)(g:Int):Bool:=bif hasB g (ln b.Guests) then (cond (zbW b) (!ieq (zL<|gAt b g) 0) false) else false
def zfp (b:Bare)(g:Int):Bare:=bif zhh b g then stepped b g (gAt b g) (zL<|gAt b g) else b
@[simp] theorem z0L {b:Bare}{g:Int}{x:Guest}{w:Bool}(h:SmB b)(a:SmG x):SmB (zkd b g x w):=by unfold zkd;cases zfK x.Live (zbp<|address x) (zcq w);{exact zpN h a};{cases w;{exact zpN h (zND _ a)};{exact⟨zpP h.1,zEP h.2.1<|zlO a,h.2.2⟩}}
@[simp] theorem zbbB {b:Bare}{g:Int}{x:Guest}{w:Int}(h:SmB b)(a:SmG x):SmB (zov b g x w):=by unfold zov;cases (cond (zis x.Ctl.Traps w) (ieq w 5) false);{exact zpN h (zEc _ _ a)};{exact zpN (zNB h) (zEc _ _ a)}
@[simp] theorem zZS {b:Bare}{g:Int}{x:Guest}{w:Int}(h:SmB b)(a:SmG x):SmB (stepped b g x w):=by unfold stepped;cases ieq w 1;{cases ieq w 2;{cases ieq w 3;{cases ieq w 4;{exact zbbB h a};{exact z0L h a}};{exact z0L h a}};{exact zpN h (zHB a)}};{exact zpN h (z0N a)}
@[simp] theorem z8h {b:Bare}{g:Int}(h:SmB b):SmB (zfp b g):=by unfold zfp;cases zhh b g;{exact h};{exact zZS h (zf3 g h)}
theorem zUU (x:Guest):ieq (zL x) 0=false->ieq (zL x) 1=false->ieq (zL x) 2=false->ieq (zL x) 3=false->ieq (zL x) 4=false->ieq (zL x) 5=false->ieq (zL x) 6=false->ieq (zL x) 7=true:=by unfold zL zyC;cases canRun x;{intro h;cases h};{cases zkZ x;{simp only [cT,cF];generalize (zcF x.Prog x.Pc).Op=o;cases ieq o 3<;>cases ieq o 4<;>cases ieq o 5<;>cases ieq o 6<;>cases ieq o 7<;>simp [ieq]};{intro _ h;cases h}}
theorem zEC {x:Int}{a b:Int}(h:ieq x a=true)(c:ieq a b=false):ieq x b=false:=by have:x=a:=(by simpa [ieq] using h);rw[this];exact c
@[simp] abbrev zb6 (b:Bare)(g:Int):Bool:=pc (SmB b)
@[simp] abbrev zgf (b:Bare)(g:Int):Bare:=zfp b g
@[simp] abbrev zh7 (b:Bare)(g:Int):Bool:=zhh b g
def zlk:Run:=rF2 (dT .bare) dI λb c=>(zb6 b c,[aT .bare<|zgf b c,aB<|zh7 b c])
def zBL (N:Nat)(b:Bare)(c:Int):OA:=
 let g:=b.Memory;let l:=aT .bare<|zV b;let a:=zdp b c;let k:=a.Ctl.Traps;let t:=aT .bare<|zcI b c<|zjD a;let d:=zhJ a;let r:=aT .bare<|zcI b c<|zlF a d;let i:=zhp a;let f:=zcv i;let e:=zbw i;let h:=ieq d 4;let w:=zeW e h;let p:=aT .bare<|zcI b c<|zcz a w;let j:=(zd5 a.Prog a.Pc).X;let u:=zbL (zkT b j) c<|zb7 a;let n:=aT .bare<|zcI (zkT b j) c<|zb7 a;let x:=zcz a<|ziI j;let m:=zeL a.Live e<|zcR h;let v:=zf6 g m f;let q:=aT .bare<|zcI b c<|zjI a v;let y:=({b with Memory:=(zdG g m f a.A)}:Bare);let s:=aT .bare<|zcI y c<|zb7 a; (oN (zdU b c)<|oN (zbx a)<|oN (zdd b)<|cond (nB<|zbY b) (oN (zbc b)<|some [l,aB false])<|cond (nB<|zdq b c) (oN (zbc b)<|some [l,aB false])<|cond (ieq d 0) (oN (zbc b)<|some [l,aB false])<|oN (zbx a)<|oN (zdV a.Prog a.Pc)<|cond (ieq d 1) (oN (zK a)<|oN (zbL b c<|zfg a)<|some [aT .bare<|zcI b c<|zfg a,aB true])<|cond (ieq d 2) (oN (zK a)<|oN (zbL b c<|zh8 a)<|some [aT .bare<|zcI b c<|zh8 a,aB true])<|cond (ieq d 3) (cond (ieq d 3) (oN (zbs i)<|oN (ziK h)<|oN (zfL a.Live e<|zcR h)<|cond (nB<|zdZ a.Live e<|zcR h) (oN (zbs i)<|oN (zgv e h)<|oN (zcn a w)<|oN (zbL b c<|zcz a w)<|some [p,aB true])<|cond h (oN (zbs i)<|oN (zdf g m f a.A)<|oN (zK a)<|oN (zbL y c<|zb7 a)<|some [s,aB true])<|oN (zbs i)<|oN (zeK g m f)<|oN (zkv a v)<|oN (zbL b c<|zjI a v)<|some [q,aB true])<|cond (ieq d 6) (oN (zha j)<|oN (zcn a<|ziI j)<|oN (zbL b c x)<|some [aT .bare<|zcI b c x,aB true])<|oN (zqu d)<|oN (zgV k<|zjs d)<|cond (zga k<|zjs d) (oN (zoM a d)<|oN (zbL b c<|zlF a d)<|some [r,aB true])<|cond (ieq d 5) (oN (zdF b j)<|oN (zK a)<|oN u<|some [n,aB true])<|oN (zK a)<|oN (zbL b c<|zjD a)<|some [t,aB true])<|cond h (oN (zbs i)<|oN (ziK h)<|oN (zfL a.Live e<|zcR h)<|cond (nB<|zdZ a.Live e<|zcR h) (oN (zbs i)<|oN (zgv e h)<|oN (zcn a w)<|oN (zbL b c<|zcz a w)<|some [p,aB true])<|cond h (oN (zbs i)<|oN (zdf g m f a.A)<|oN (zK a)<|oN (zbL y c<|zb7 a)<|some [s,aB true])<|oN (zbs i)<|oN (zeK g m f)<|oN (zkv a v)<|oN (zbL b c<|zjI a v)<|some [q,aB true])<|cond (ieq d 6) (oN (zha j)<|oN (zcn a<|ziI j)<|oN (zbL b c x)<|some [aT .bare<|zcI b c x,aB true])<|oN (zqu d)<|oN (zgV k<|zjs d)<|cond (zga k<|zjs d) (oN (zoM a d)<|oN (zbL b c<|zlF a d)<|some [r,aB true])<|cond (ieq d 5) (oN (zdF b j)<|oN (zK a)<|oN u<|some [n,aB true])<|oN (zK a)<|oN (zbL b c<|zjD a)<|some [t,aB true])
theorem zPK (a:Bare)(b:Int)(f:zb6 a b=true):∃N,zBL N a b=some [aT .bare<|zgf a b,aB<|zh7 a b]:=by
 have c:=zD.1 f;have j:=zf3 b c;have k:_/\_/\_:=c;have hg:a.Guests.length<=1048576:=c.2.1.1;have g:=zUU (gAt a b);have d:ieq (zL<|gAt a b) 3=true->ieq (zL<|gAt a b) 4=false:=λh=>zEC h rfl;have e:ieq (zL<|gAt a b) 5=true->ieq (zL<|gAt a b) 7=false:=λh=>zEC h rfl;have l:=tr1 (gAt a b) (gAt a b).Ctl.Traps (zL<|gAt a b);have m:=tr2 (gAt a b) (gAt a b).Ctl.Traps (zL<|gAt a b);have p:=tr3 (gAt a b) (gAt a b).Ctl.Traps (zL<|gAt a b);have q:=tr4 (gAt a b) (gAt a b).Ctl.Traps (zL<|gAt a b);have i:∀n,SmB (zjz a n):=λn=>zNB c;refine⟨0,?_⟩;unfold zBL oN nB;conv=>zeta
 refine mu (must rfl (must rfl (brN (λ_=>mu ?_) λ_=>brN (λ_=>mu ?_) λ_=>br (λ_=>mu ?_) λ_=>must rfl (must rfl (br (λ_=>mu (mu ?_)) λ_=>br (λ_=>mu (mu ?_)) λ_=>br (λ_=>br (λ_=>must rfl (must rfl (must rfl (brN (λ_=>must rfl (must rfl (mu<|mu ?_))) λ_=>br (λ_=>must rfl (mu<|mu<|mu ?_)) λ_=>must rfl (must rfl (mu<|mu ?_)))))) λ_=>br (λ_=>must rfl (mu<|mu ?_)) λ_=>must rfl (must rfl (br (λ_=>mu (mu ?_)) λ_=>br (λ_=>mu (mu<|mu ?_)) λ_=>mu (mu ?_)))) λ_=>br (λ_=>must rfl (must rfl (must rfl (brN (λ_=>must rfl (must rfl (mu<|mu ?_))) λ_=>br (λ_=>must rfl (mu<|mu<|mu ?_)) λ_=>must rfl (must rfl (mu<|mu ?_)))))) λ_=>br (λ_=>must rfl (mu<|mu ?_)) λ_=>must rfl (must rfl (br (λ_=>mu (mu ?_)) λ_=>br (λ_=>mu (mu<|mu ?_)) λ_=>mu (mu ?_))))))));all_goals first|rfl|(simp only [*,zgf,zh7,zfp,zhh,stepped,zkd,zov,zeq,zcq,cT,cF]<;>rfl)|simp_all[Ty.cells,zgf,zh7,zfp,zhh,stepped,zkd,zov,zeq,zcq]
theorem zvk:vV 83 zlk:=kF2 zlU zl zn zo (zq []) zPK
def zCm (N:Nat)(v:Bare)(f:Int):OA:=
 let c:=zV v;let h:=c.Memory;let e:=c.Guests;let k:=inb f<|ln e;let a:=zdp c f;let l:=a.Ctl.Traps;let q:=(zd5 a.Prog a.Pc).X;let j:=zhJ a;let u:=zcK a l j;let n:=up e f u;let r:=zkT c q;let m:=zhp a;let g:=zcv m;let d:=zbw m;let i:=ieq j 4;let s:=up e f<|zcz a<|zeW d i;let p:=zeL a.Live d<|zcR i;let t:=zf6 h p g; (oN (zbc v)<|oN (zdU c f)<|oN (zbx a)<|cond (nB<|zdq c f) (some [aT .bare c,aB false])<|oN (zdd c)<|cond (nB<|zbY c) (some [aT .bare c,aB false])<|cond (ieq j 0) (some [aT .bare c,aB false])<|cond (ieq j 1) (oN (zK a)<|oN k<|share (up e f<|zfg a) λb=>some [aT .bare ({c with Guests:=b}:Bare),aB true])<|cond (ieq j 2) (oN (zK a)<|oN k<|share (up e f<|zh8 a) λb=>some [aT .bare ({c with Guests:=b}:Bare),aB true])<|cond (ieq j 3) (cond (ieq j 3) (oN (zbx a)<|oN (zbs m)<|oN (ziK i)<|oN (zfL a.Live d<|zcR i)<|cond (nB<|zdZ a.Live d<|zcR i) (oN (zbs m)<|oN (zgv d i)<|oN (zcn a<|zeW d i)<|oN k<|share s λb=>some [aT .bare ({c with Guests:=b}:Bare),aB true])<|cond i (oN (zbs m)<|oN (zdf h p g a.A)<|oN (zK a)<|oN k<|share (up e f<|zb7 a) λb=>some [aT .bare ({c with Memory:=(zdG h p g a.A),Guests:=b}:Bare),aB true])<|oN (zbs m)<|oN (zeK h p g)<|oN (zkv a t)<|oN k<|share (up e f<|zjI a t) λb=>some [aT .bare ({c with Guests:=b}:Bare),aB true])<|oN (zeu a l j)<|cond (zdX a l j) (cond (ieq j 5) (oN (zdV a.Prog a.Pc)<|oN (zdF c q)<|oN (inb f<|ln r.Guests)<|share (up r.Guests f u) λb=>some [aT .bare ({r with Guests:=b}:Bare),aB true])<|oN k<|share n λb=>some [aT .bare ({c with Guests:=b}:Bare),aB true])<|oN k<|share n λb=>some [aT .bare ({c with Guests:=b}:Bare),aB true])<|cond i (oN (zbx a)<|oN (zbs m)<|oN (ziK i)<|oN (zfL a.Live d<|zcR i)<|cond (nB<|zdZ a.Live d<|zcR i) (oN (zbs m)<|oN (zgv d i)<|oN (zcn a<|zeW d i)<|oN k<|share s λb=>some [aT .bare ({c with Guests:=b}:Bare),aB true])<|cond i (oN (zbs m)<|oN (zdf h p g a.A)<|oN (zK a)<|oN k<|share (up e f<|zb7 a) λb=>some [aT .bare ({c with Memory:=(zdG h p g a.A),Guests:=b}:Bare),aB true])<|oN (zbs m)<|oN (zeK h p g)<|oN (zkv a t)<|oN k<|share (up e f<|zjI a t) λb=>some [aT .bare ({c with Guests:=b}:Bare),aB true])<|oN (zeu a l j)<|cond (zdX a l j) (cond (ieq j 5) (oN (zdV a.Prog a.Pc)<|oN (zdF c q)<|oN (inb f<|ln r.Guests)<|share (up r.Guests f u) λb=>some [aT .bare ({r with Guests:=b}:Bare),aB true])<|oN k<|share n λb=>some [aT .bare ({c with Guests:=b}:Bare),aB true])<|oN k<|share n λb=>some [aT .bare ({c with Guests:=b}:Bare),aB true])
theorem zQi (a:Bare)(b:Int)(e:zb6 a b=true):∃N,zCm N a b=some [aT .bare<|zgf a b,aB<|zh7 a b]:=by
 have c:=zD.1 e;have g:=zf3 b c;have i:_/\_/\_:=c;have hg:a.Guests.length<=1048576:=c.2.1.1;have f:=zUU (gAt a b);have d:ieq (zL<|gAt a b) 3=true->ieq (zL<|gAt a b) 4=false:=λh=>zEC h rfl;refine⟨0,?_⟩;unfold zCm oN nB;conv=>zeta
 refine mu (mu (must rfl (brN (λ_=>?_) λ_=>must rfl (brN (λ_=>?_) λ_=>br (λ_=>?_) λ_=>br (λ_=>mu (mu<|shr ?_)) λ_=>br (λ_=>mu (mu<|shr ?_)) λ_=>br (λ_=>br (λ_=>must rfl (must rfl (must rfl (must rfl (brN (λ_=>must rfl (must rfl (mu<|mu<|shr ?_))) λ_=>br (λ_=>must rfl (mu<|mu<|mu<|shr ?_)) λ_=>must rfl (must rfl (mu<|mu<|shr ?_))))))) λ_=>mu (br (λ_=>br (λ_=>must rfl (mu<|mu<|shr ?_)) λ_=>mu (shr ?_)) λ_=>mu (shr ?_))) λ_=>br (λ_=>must rfl (must rfl (must rfl (must rfl (brN (λ_=>must rfl (must rfl (mu<|mu<|shr ?_))) λ_=>br (λ_=>must rfl (mu<|mu<|mu<|shr ?_)) λ_=>must rfl (must rfl (mu<|mu<|shr ?_))))))) λ_=>mu (br (λ_=>br (λ_=>must rfl (mu<|mu<|shr ?_)) λ_=>mu (shr ?_)) λ_=>mu (shr ?_))))));all_goals first|rfl|(simp only [*,zgf,zh7,zfp,zhh,stepped,zkd,zov,zeq,zcq,zev,cT,cF]<;>rfl)|simp_all[Ty.cells,zgf,zh7,zfp,zhh,stepped,zkd,zov,zeq,zcq,zev]
theorem zIS:vV 103 zlk:=kF2 zlU zl zn zo (zq []) zQi
def brought (n a b:Int):Int:=bif ilt n a then a else (cond (ilt b a) a<|zgR n b)
@[simp] abbrev zkK (_ _ _:Int):Bool:=true
@[simp] abbrev ziQ (n a b:Int):Int:=brought n a b
def zj6:Run:=rF3 dI dI dI λb c d=>(zkK b c d,[aI<|ziQ b c d])
def zFY (N:Nat)(b a c:Int):OA:=
 (cond (ilt b a) (some [aI a])<|cond (ilt c a) (some [aI a])<|some [aI<|zgR b c])
theorem zTt (a b c:Int)(d:zkK a b c=true):∃N,zFY N a b c=some [aI<|ziQ a b c]:=by refine⟨0,?_⟩;unfold zFY;refine br (λ_=>?_) (λ_=>br (λ_=>?_) λ_=>?_);all_goals first|rfl|(simp only [*,ziQ,brought,cT,cF]<;>rfl)|simp_all[Ty.cells,ziQ,brought]
theorem zwC:vV 90 zj6:=kF3 zlU zl zn zo (zq []) zTt
def zGq (N:Nat)(b a c:Int):OA:=
 (cond (ilt c a) (some [aI a])<|cond (ilt b a) (some [aI a])<|cond (igt b c) (some [aI c])<|some [aI b])
theorem zTV (a b c:Int)(g:zkK a b c=true):∃N,zGq N a b c=some [aI<|ziQ a b c]:=by refine⟨0,?_⟩;unfold zGq;unfold ziQ brought zgR;cases d:ilt c b<;>cases e:ilt a b<;>cases f:igt a c<;>simp [igt] at * <;> omega
theorem zwJ:vV 197 zj6:=kF3 zlU zl zn zo (zq []) zTV
@[simp] abbrev zvU (l:List Bare):Bool:=pc (ztH l)
@[simp] abbrev zz9 (l:List Bare):List Bare:=l
def zyZ:Run:=rF1 (dS .bare) λb=>(zvU b,[aS .bare<|zz9 b])
def zCD (N:Nat)(c:lR):OA:=
 (iter (σ:=(Int×lR×lR×Unit)) N (λd a=>let b:=ix a.2.1 a.1 ztw; (cond (ilt a.1<|ln a.2.1) (oN (inb a.1<|ln a.2.1)<|oN (zbc b)<|oN (few<|ln<|ap a.2.2.1 [zV b])<|d (zN .i64 a.1 1,a.2.1,ap a.2.2.1 [zV b],()))<|some [aS .bare a.2.2.1])) (0,c,[],()))
def zRh:=zq [(100,0,{n:=21,tm:=[(0,.sl 0 []),(3,.sl 1 []),(4,ti)],lo:=[],ro:=[(0,.bare,false),(1,.bare,true)]})]
theorem zQx (a:List Bare)(g:zvU a=true):∃N,zCD N a=some [aS .bare<|zz9 a]:=by
 have f:=zD.1 g;have e:=zcu f.1;refine zbX λN d=>?_;unfold zCD oN;conv=>zeta
 refine(zY a (λi (t:lR)=>((i:Int),a,t,())) _ (λ_ x b j=>bif zbc x then (cond (few<|ln<|ap b [zV x]) (j<|ap b [zV x]) none) else none) (λ(t:lR)=>some [.one<|.s .bare t]) (λi c t rec=>?_) (λt rec=>?_) _ ([])<|d e.1).trans ?_;{simp only [zbn c,zU c,zbb c,zX c e.1,cT]};{simp only [zbe,cF]};exact zkG zbc zV _ a 0 [] (λx h=>⟨zba<|f.2 x h,rfl⟩) (by simpa using e.2)
theorem zJb:vV 100 zyZ:=kF1 zlU zl zn zo zRh zQx
structure RI (a:List Bare) (i:Nat) (l:List Bare):Prop where
 len:l.length=a.length
 sm:ztH l
 eq:∀k,i<=k->l[k]?=a[k]?
theorem RI.up {a l:List Bare}{i:Nat}(h:RI a i l)(x:Bare)(b:SmB x):RI a (i+1) (up l (i:Int) x):=
 ⟨by rw[zgN];exact h.len,z0M h.sm b,λk c=>by rw[zbcn (by omega)];exact h.eq k (by omega)⟩
structure RJ (l:List Bare) (i:Nat) (l':List Bare):Prop where
 len:l'.length=l.length
 sm:SmB (ix l' (i:Int) ztw)
 up:∀x,E.up l' (i:Int) x=E.up l (i:Int) x
theorem RJ.next {l a:List Bare}{i:Nat}(h:RJ l i a)(b:i<l.length)(x:Bare)(c:SmB x):RJ l i (E.up a (i:Int) x):=
 ⟨by rw[zgN];exact h.len,by rw[zed (by rw[h.len];exact b)];exact c,λy=>by rw[zrv];exact h.up y⟩
def z9A:zbd:=[(83,zlk),(103,zlk),(90,zj6),(197,zj6)]++z1o
theorem zlV:zQ z9A:=zf zvk (zf zIS<|zf zwC<|zf zwJ zlU)
theorem zVd {a b:Bool}(h:(a=true)↔(b=true)):a=b:=by cases a<;>cases b<;>simp_all
@[simp] theorem zbcO (x:Int):zi x 0 3=hasB x 4:=zVd (by rw[zf7];unfold hasB;rw[decide_eq_true_iff];omega)
@[simp] theorem zOc (x:Int):zi x 0 7=hasB x 8:=zVd (by rw[zf7];unfold hasB;rw[decide_eq_true_iff];omega)
def zfb (t:List Slot)(p:Int)(s:Slot):List Slot:=bif hasB p (ln t) then up t p s else t
@[simp] theorem zbcP (t:List Slot)(p:Int)(s:Slot):(zfb t p s).length=t.length:=by unfold zfb;cases hasB p (ln t)<;>simp
@[simp] abbrev zjM (t:List Slot)(p:Int)(s:Slot):Bool:=pc (t.length<=1048576)
@[simp] abbrev zhe (t:List Slot)(p:Int)(s:Slot):List Slot:=zfb t p s
def zoo:Run:=rF3 (dS .slot) dI (dT .slot) λb c d=>(zjM b c d,[aS .slot<|zhe b c d])
def zCA (N:Nat)(a:lS)(b:Int)(c:Slot):OA:=
 (oN (few<|ln<|ap [] a)<|oN (zJ b 0<|wsub .i64 (ln a) 1)<|cond (zi b 0<|wsub .i64 (ln a) 1) (oN (inb b<|ln<|ap [] a)<|share (up (ap [] a) b c) λd=>some [aS .slot d])<|some [aS .slot<|ap [] a])
theorem zQw (a:List Slot)(b:Int)(c:Slot)(d:zjM a b c=true):∃N,zCA N a b c=some [aS .slot<|zhe a b c]:=by have e:=zD.1 d;refine⟨0,?_⟩;unfold zCA oN;refine mu (must rfl (br (λ_=>mu (shr ?_)) λ_=>?_));all_goals first|rfl|(simp only [*,zhe,zfb,cT,cF]<;>rfl)|simp_all[Ty.cells,zhe,zfb]
theorem zI8:vV 221 zoo:=kF3 zlV zl zn zo (zq []) zQw
def zB4 (N:Nat)(a:lS)(b:Int)(c:Slot):OA:=
 (oN (zhm a)<|oN (zbj b<|ln a)<|cond (zca b<|ln a) (oN (inb b<|ln<|zfi a)<|share (up (zfi a) b c) λd=>some [aS .slot d])<|some [aS .slot<|zfi a])
theorem zP3 (a:List Slot)(b:Int)(c:Slot)(d:zjM a b c=true):∃N,zB4 N a b c=some [aS .slot<|zhe a b c]:=by have e:=zD.1 d;refine⟨0,?_⟩;unfold zB4 oN;refine mu (must rfl (br (λ_=>mu (shr ?_)) λ_=>?_));all_goals first|rfl|(simp only [*,zhe,zfb,cT,cF]<;>rfl)|simp_all[Ty.cells,zhe,zfb]
theorem zIE:vV 234 zoo:=kF3 zlV zl zn zo (zq []) zP3
def zid (p n:Int):Bool:=bif zem p then zi n 0 7 else false
def zqF (p n:Int):Int:=bif zid p n then wor .i64 p (zmK .i64 1 n) else p
theorem cv7 {n:Int}(h:hasB n 8=true):wcv .u64 n=n/\ile 0 n=true:=by have:=qD h;exact⟨zRn (by omega) (by omega),qK (by omega)⟩
@[simp] abbrev zgm (p n:Int):Bool:=true
@[simp] abbrev zet (p n:Int):Int:=zqF p n
@[simp] abbrev zhX (p n:Int):Bool:=zid p n
def zpo:Run:=rF2 dI dI λb c=>(zgm b c,[aI<|zet b c,aB<|zhX b c])
def zGF (N:Nat)(a b:Int):OA:=
 (oN (zcm a)<|cond (nB<|ze7 a) (some [aI a,aB false])<|oN (zJ b 0 7)<|cond (nB<|zi b 0 7) (some [aI a,aB false])<|oN (ile 0<|wcv .u64 b)<|some [aI<|wor .i64 a<|zmK .i64 1<|wcv .u64 b,aB true])
theorem zT7 (b a:Int)(c:zgm b a=true):∃N,zGF N b a=some [aI<|zet b a,aB<|zhX b a]:=by have d:=@cv7 a;refine⟨0,?_⟩;unfold zGF oN nB;refine must rfl (brN (λ_=>?_) λ_=>must rfl (brN (λ_=>?_) λ_=>mu ?_));all_goals first|rfl|(simp only [*,zet,zhX,zqF,zid,cT,cF]<;>rfl)|simp_all[Ty.cells,zet,zhX,zqF,zid]
theorem zL6:vV 225 zpo:=kF2 zlV zl zn zo (zq []) zT7
def zF9 (N:Nat)(a b:Int):OA:=
 (oN (zcm a)<|cond (nB<|ze7 a) (some [aI a,aB false])<|oN (zJ b 0 7)<|cond (nB<|zi b 0 7) (some [aI a,aB false])<|oN (ile 0 b)<|some [aI<|wor .i64 a<|zmK .i64 1 b,aB true])
theorem zTF (b a:Int)(c:zgm b a=true):∃N,zF9 N b a=some [aI<|zet b a,aB<|zhX b a]:=by have d:=@cv7 a;refine⟨0,?_⟩;unfold zF9 oN nB;refine must rfl (brN (λ_=>?_) λ_=>must rfl (brN (λ_=>?_) λ_=>mu ?_));all_goals first|rfl|(simp only [*,zet,zhX,zqF,zid,cT,cF]<;>rfl)|simp_all[Ty.cells,zet,zhX,zqF,zid]
theorem zLF:vV 242 zpo:=kF2 zlV zl zn zo (zq []) zTF
def posts (c:Ctl)(n:Int):Bool:=bif znO c then (cond (zi n 0 7) (ieq (wand .i64 (zlC .i64 c.Post n) 1) 1) false) else false
@[simp] abbrev ztp (c:Ctl)(n:Int):Bool:=true
@[simp] abbrev zoq (c:Ctl)(n:Int):Bool:=posts c n
def zsH:Run:=rF2 dC dI λb c=>(ztp b c,[aB<|zoq b c])
def zRI (N:Nat)(b:Ctl)(a:Int):OA:=
 (oN (zfM b)<|cond (zop b) (oN (zJ a 0 7)<|cond (zi a 0 7) (oN (ile 0<|wcv .u64 a)<|some [aB<|ieq (wand .i64 (zlC .i64 b.Post<|wcv .u64 a) 1) 1]) oF) oF)
theorem zZh (b:Ctl)(a:Int)(c:ztp b a=true):∃N,zRI N b a=some [aB<|zoq b a]:=by have d:=@cv7 a;refine⟨0,?_⟩;unfold zRI oN;refine must rfl (br (λ_=>must rfl (br (λ_=>mu ?_) λ_=>?_)) λ_=>?_);all_goals first|rfl|(simp only [*,zoq,posts,cT,cF]<;>rfl)|simp_all[Ty.cells,zoq,posts]
theorem zTf:vV 302 zsH:=kF2 zlV zl zn zo (zq []) zZh
def zRx (N:Nat)(b:Ctl)(a:Int):OA:=
 (oN (zfM b)<|cond (zop b) (oN (zJ a 0 7)<|cond (zi a 0 7) (oN (ile 0 a)<|some [aB<|ieq (wand .i64 (zlC .i64 b.Post a) 1) 1]) oF) oF)
theorem zY8 (b:Ctl)(a:Int)(c:ztp b a=true):∃N,zRx N b a=some [aB<|zoq b a]:=by have d:=@cv7 a;refine⟨0,?_⟩;unfold zRx oN;refine must rfl (br (λ_=>must rfl (br (λ_=>mu ?_) λ_=>?_)) λ_=>?_);all_goals first|rfl|(simp only [*,zoq,posts,cT,cF]<;>rfl)|simp_all[Ty.cells,zoq,posts]
theorem zS5:vV 306 zsH:=kF2 zlV zl zn zo (zq []) zY8
def zbR (b:Bare)(g:Int):Bool:=bif zbW b then hasB g (ln b.Guests) else false
theorem zd7 {b:Bare}{g:Int}:(zbR b g=true)↔zbW b=true/\hasB g (ln b.Guests)=true:=by unfold zbR;cases zbW b<;>simp
@[simp] abbrev zly (b:Bare)(g:Int):Bool:=zbR b g
def zHp:Run:=rF2 (dT .bare) dI λb c=>(zb6 b c,[aB<|zly b c])
def zRL (N:Nat)(a:Bare)(b:Int):OA:=
 (oN (zdd a)<|cond (zbY a) (oN (zJ b 0<|wsub .i64 (ln a.Guests) 1)<|some [aB<|zi b 0<|wsub .i64 (ln a.Guests) 1]) oF)
theorem zZj (a:Bare)(b:Int)(c:zb6 a b=true):∃N,zRL N a b=some [aB<|zly a b]:=by have d:=zD.1 c;have e:a.Guests.length<=1048576:=d.2.1.1;refine⟨0,?_⟩;unfold zRL oN;refine must rfl (br (λ_=>must rfl ?_) λ_=>?_);all_goals first|rfl|(simp only [*,zly,zbR,cT,cF]<;>rfl)|simp_all[Ty.cells,zly,zbR]
theorem zTi:vV 219 zHp:=kF2 zlV zl zn zo (zq []) zZj
@[simp] abbrev zna (b:Bare)(g:Int):GExit:=(gAt b g).Exit
def zDW:Run:=rF2 (dT .bare) dI λb c=>(zb6 b c,[.agg<|zuh<|zna b c])
def zJ2 (N:Nat)(c:Bare)(d:Int):OA:=
 let a:=zdp c d; (oN (zdU c d)<|some [.agg [.i .i64 a.Exit.Kind,.i .i64 a.Exit.Page,.b a.Exit.Write,.i .i64 a.Exit.N]])
theorem zWc (a:Bare)(b:Int)(c:zb6 a b=true):∃N,zJ2 N a b=some [.agg<|zuh<|zna a b]:=by
 have d:=zD.1 c;refine⟨0,?_⟩;unfold zJ2 oN;conv=>zeta
 refine mu ?_;first|rfl|(simp only [*,zna,cT,cF]<;>rfl)|simp_all[Ty.cells,zna]
theorem zOD:vV 239 zDW:=kF2 zlV zl zn zo (zq []) zWc
def z9B:zbd:=[(221,zoo),(234,zoo),(225,zpo),(242,zpo),(302,zsH),(306,zsH),(219,zHp),(239,zDW)]++z9A
theorem zfq:zQ z9B:=zf zI8 (zf zIE<|zf zL6<|zf zLF<|zf zTf<|zf zS5<|zf zTi<|zf zOD zlV)
theorem zYu {b:Type}{l:List b}{i:Int}{d:b}(h:hasB i (ln l)=true):up l i (ix l i d)=l:=by obtain⟨k,rfl,a⟩:=zeN (n:=l.length) h;unfold up;rw[zbb a,kE];exact vC a
theorem zs8 {b:Bare}{g:Int}(h:hasB g (ln b.Guests)=true):gAt b g=ix b.Guests g zu:=by unfold gAt;rw[h];rfl
theorem z5J {b:Bare}{g:Int}(h:hasB g (ln b.Guests)=true):zev b g (gAt b g)=b:=by unfold zev;rw[zs8 h,zYu h]
def chg (b:Bare)(g:Int)(c:Bool)(x:Guest):Bare:=bif (cond (zbR b g) c false) then zev b g x else b
def zb0 (b:Bare)(g:Int)(c:Bool):Bool:=bif zbR b g then c else false
def ztY (p:Int)(s:Slot):Bool:=bif hasB p 4 then zeT s 8 else false
def zvX (x:Guest)(p:Int)(s:Slot):Guest:={x with Written:=zfb x.Written p s}
def zeB (x:Guest)(p:Int):Guest:={x with Live:=zfb x.Live p (zbK x.Written p)}
def zju:GExit:=⟨0,0,false,0⟩
def ztI (x:Guest)(v:Int):Bool:=bif zi v 0 99 then (cond (ieq x.Exit.Kind 2) true<|ieq x.Exit.Kind 3) else false
def zu3 (x:Guest)(v:Int):Guest:=zcg (stopped (cond (ieq x.Exit.Kind 2) {x with A:=v} x) zju)
def zxD (x:Guest):Bool:=bif ieq x.Exit.Kind 1 then true else ieq x.Exit.Kind 4
def zvH (x:Guest):Guest:=bif ieq x.Exit.Kind 1 then stopped x zju else held (stopped x zju)
def znd (x:Guest)(n:Int):Guest:={x with Pending:=zqF x.Pending n}
def zCO (x:Guest)(c:Ctl):Guest:={x with Ctl:=c}
theorem zba5 {x:Guest}{n:Int}(h:zid x.Pending n=false):znd x n=x:=by unfold znd zqF;rw[h];rfl
theorem zJP {x:Guest}(p:Int)(s:Slot)(h:SmG x):SmG (zvX x p s):=⟨h.1,by simpa [zvX] using h.2.1,h.2.2.1,h.2.2.2⟩
theorem zru {x:Guest}(p:Int)(h:SmG x):SmG (zeB x p):=⟨h.1,h.2.1,by simpa [zeB] using h.2.2.1,h.2.2.2⟩
theorem zXJ {x:Guest}(v:Int)(h:SmG x):SmG (zu3 x v):=by unfold zu3;cases ieq x.Exit.Kind 2<;>exact zlO h
theorem zXL {x:Guest}(h:SmG x):SmG (zvH x):=by unfold zvH;cases ieq x.Exit.Kind 1;{exact zXK (g:=stopped x zju) h};{exact h}
theorem ziq {b:Bare}{g:Int}{c:Bool}{x:Guest}(h:SmB b)(a:SmG x):SmB (chg b g c x):=by unfold chg;cases (cond (zbR b g) c false);{exact h};{exact zpN h a}
@[simp] abbrev ziX (b:Bare)(g p:Int)(s:Slot):Bool:=pc (SmB b)
@[simp] abbrev zdo (b:Bare)(g p:Int)(s:Slot):Bare:=chg b g (ztY p s) (zvX (gAt b g) p s)
@[simp] abbrev zdJ (b:Bare)(g p:Int)(s:Slot):Bool:=zb0 b g (ztY p s)
def zj9:Run:=rF4 (dT .bare) dI dI (dT .slot) λb c d e=>(ziX b c d e,[aT .bare<|zdo b c d e,aB<|zdJ b c d e])
def zGp (N:Nat)(f:Bare)(b c:Int)(d:Slot):OA:=
 let a:=zV f;let e:=ix a.Guests b zu; (oN (zbc f)<|oN (zb6 a b)<|cond (nB<|zly a b) (some [aT .bare a,aB false])<|oN (zJ c 0 3)<|cond (nB<|zi c 0 3) (some [aT .bare a,aB false])<|oN (zmf d 8)<|cond (nB<|zjL d 8) (some [aT .bare a,aB false])<|oN (inb b<|ln a.Guests)<|oN (zjM e.Written c d)<|oN (inb b<|ln a.Guests)<|share (up a.Guests b ({e with Written:=(zhe e.Written c d)}:Guest)) λg=>some [aT .bare ({a with Guests:=g}:Bare),aB true])
theorem zTU (b:Bare)(a c:Int)(d:Slot)(e:ziX b a c d=true):∃N,zGp N b a c d=some [aT .bare<|zdo b a c d,aB<|zdJ b a c d]:=by
 have f:=zD.1 e;have g:=zf3 a f;have k:zbR b a=true->hasB a (ln b.Guests)=true:=λh=>(zd7.1 h).2;have i:zbR b a=true->gAt b a=ix b.Guests a zu:=λh=>zs8 (zd7.1 h).2;have j:=g.2.1;refine⟨0,?_⟩;unfold zGp oN nB;conv=>zeta
 refine mu (mu<|brN (λ_=>?_) λ_=>must rfl (brN (λ_=>?_) λ_=>must rfl (brN (λ_=>?_) λ_=>mu (mu<|mu<|shr ?_))));all_goals first|rfl|(simp only [*,zdo,zdJ,chg,zb0,ztY,zvX,zev,cT,cF]<;>rfl)|simp_all[Ty.cells,zdo,zdJ,chg,zb0,ztY,zvX,zev]
theorem zwI:vV 104 zj9:=kF4 zfq zl zn zo (zq []) zTU
def zFX (N:Nat)(a:Bare)(b e:Int)(f:Slot):OA:=
 let d:=zbc a;let g:=({ (zdp a b) with Written:=(zhe (zdp a b).Written e f)}:Guest);let c:=aT .bare<|zV a; (oN (zbj e 4)<|cond (zca e 4) (oN (zmf f 8)<|oN (zdU a b)<|oN (zdd a)<|cond (nB<|zbY a) (oN d<|some [c,aB false])<|cond (nB<|zdq a b) (oN d<|some [c,aB false])<|cond (nB<|zjL f 8) (oN d<|some [c,aB false])<|oN (zjM (zdp a b).Written e f)<|oN (cond (ieq a.Pending a.Pending) true false)<|oN (ieq b b)<|oN (zbL a b g)<|some [aT .bare<|zcI a b g,aB true])<|oN (zdU a b)<|oN (zdd a)<|cond (nB<|zbY a) (oN d<|some [c,aB false])<|cond (nB<|zdq a b) (oN d<|some [c,aB false])<|oN d<|some [c,aB false])
theorem zTs (b:Bare)(a c:Int)(d:Slot)(f:ziX b a c d=true):∃N,zFX N b a c d=some [aT .bare<|zdo b a c d,aB<|zdJ b a c d]:=by
 have g:=zD.1 f;have e:=zf3 a g;have i:_/\_/\_/\_:=e;have h:=λp s=>zJP (x:=gAt b a) p s e;unfold zvX at h;refine⟨0,?_⟩;unfold zFX oN nB;conv=>zeta
 refine must rfl (br (λ_=>must rfl (mu (must rfl (brN (λ_=>mu ?_) λ_=>brN (λ_=>mu ?_) λ_=>brN (λ_=>mu ?_) λ_=>mu (mu<|mu<|mu ?_))))) λ_=>mu (must rfl (brN (λ_=>mu ?_) λ_=>brN (λ_=>mu ?_) λ_=>mu ?_)));all_goals first|rfl|(simp only [*,zdo,zdJ,chg,zb0,ztY,zvX,zbR,zeq,cT,cF]<;>rfl)|simp_all[Ty.cells,zdo,zdJ,chg,zb0,ztY,zvX,zbR,zeq]
theorem zwB:vV 118 zj9:=kF4 zfq zl zn zo (zq []) zTs
@[simp] abbrev zkb (b:Bare)(g p:Int):Bool:=pc (SmB b)
@[simp] abbrev zc4 (b:Bare)(g p:Int):Bare:=chg b g (hasB p 4) (zeB (gAt b g) p)
@[simp] abbrev zeM (b:Bare)(g p:Int):Bool:=zb0 b g (hasB p 4)
def zio:Run:=rF3 (dT .bare) dI dI λb c d=>(zkb b c d,[aT .bare<|zc4 b c d,aB<|zeM b c d])
def zAF (N:Nat)(f:Bare)(d b:Int):OA:=
 let a:=zV f;let e:=inb d<|ln a.Guests;let c:=ix a.Guests d zu; (oN (zbc f)<|oN (zb6 a d)<|cond (nB<|zly a d) (some [aT .bare a,aB false])<|oN (zJ b 0 3)<|cond (nB<|zi b 0 3) (some [aT .bare a,aB false])<|oN e<|oN e<|oN (zgx c.Written b)<|oN (zjM c.Live b<|ze8 c.Written b)<|oN e<|share (up a.Guests d ({c with Live:=(zhe c.Live b<|ze8 c.Written b)}:Guest)) λg=>some [aT .bare ({a with Guests:=g}:Bare),aB true])
theorem zMU (b:Bare)(a c:Int)(d:zkb b a c=true):∃N,zAF N b a c=some [aT .bare<|zc4 b a c,aB<|zeM b a c]:=by
 have e:=zD.1 d;have f:=zf3 a e;have j:zbR b a=true->hasB a (ln b.Guests)=true:=λh=>(zd7.1 h).2;have g:zbR b a=true->gAt b a=ix b.Guests a zu:=λh=>zs8 (zd7.1 h).2;have i:=f.2.2.1;refine⟨0,?_⟩;unfold zAF oN nB;conv=>zeta
 refine mu (mu<|brN (λ_=>?_) λ_=>must rfl (brN (λ_=>?_) λ_=>mu (mu (must rfl (mu<|mu<|shr ?_)))));all_goals first|rfl|(simp only [*,zc4,zeM,chg,zb0,zeB,zev,cT,cF]<;>rfl)|simp_all[Ty.cells,zc4,zeM,chg,zb0,zeB,zev]
theorem zt5:vV 105 zio:=kF3 zfq zl zn zo (zq []) zMU
def zAo (N:Nat)(a:Bare)(b c:Int):OA:=
 let e:=aT .bare<|zV a;let d:=zdp a b;let f:=({d with Live:=(zhe d.Live c<|ze8 d.Written c)}:Guest); (oN (zbj c 4)<|oN (zdU a b)<|oN (zdd a)<|cond (nB<|zbY a) (oN (zbc a)<|some [e,aB false])<|cond (nB<|zdq a b) (oN (zbc a)<|some [e,aB false])<|cond (nB<|zca c 4) (oN (zbc a)<|some [e,aB false])<|oN (zgx d.Written c)<|oN (zjM d.Live c<|ze8 d.Written c)<|oN (cond (ieq a.Pending a.Pending) true false)<|oN (ieq b b)<|oN (zbL a b f)<|some [aT .bare<|zcI a b f,aB true])
theorem zMB (b:Bare)(a c:Int)(e:zkb b a c=true):∃N,zAo N b a c=some [aT .bare<|zc4 b a c,aB<|zeM b a c]:=by
 have f:=zD.1 e;have d:=zf3 a f;have h:_/\_/\_/\_:=d;have g:=λp=>zru (x:=gAt b a) p d;unfold zeB at g;refine⟨0,?_⟩;unfold zAo oN nB;conv=>zeta
 refine must rfl (mu (must rfl (brN (λ_=>mu ?_) λ_=>brN (λ_=>mu ?_) λ_=>brN (λ_=>mu ?_) λ_=>must rfl (mu<|mu<|mu<|mu ?_))));all_goals first|rfl|(simp only [*,zc4,zeM,chg,zb0,zeB,zbR,zeq,cT,cF]<;>rfl)|simp_all[Ty.cells,zc4,zeM,chg,zb0,zeB,zbR,zeq]
theorem zt3:vV 120 zio:=kF3 zfq zl zn zo (zq []) zMB
@[simp] abbrev zgG (b:Bare)(g v:Int):Bool:=pc (SmB b)
@[simp] abbrev zcc (b:Bare)(g v:Int):Bare:=chg b g (ztI (gAt b g) v) (zu3 (gAt b g) v)
@[simp] abbrev zcr (b:Bare)(g v:Int):Bool:=zb0 b g (ztI (gAt b g) v)
def zhE:Run:=rF3 (dT .bare) dI dI λb c d=>(zgG b c d,[aT .bare<|zcc b c d,aB<|zcr b c d])
def zx1 (N:Nat)(i:Bare)(b e:Int):OA:=
 let a:=zV i;let h:=inb b<|ln a.Guests;let d:=(⟨0,0,false,0⟩:GExit);let c:=ix a.Guests b zu;let g:=({c with A:=e}:Guest); (oN (zbc i)<|oN (zb6 a b)<|cond (nB<|zly a b) (some [aT .bare a,aB false])<|oN (zJ e 0 99)<|cond (nB<|zi e 0 99) (some [aT .bare a,aB false])<|oN h<|cond (ieq c.Exit.Kind 2) (oN (zcn g d)<|oN (zK<|zcz g d)<|oN h<|share (up a.Guests b<|zb7<|zcz g d) λf=>some [aT .bare ({a with Guests:=f}:Bare),aB true])<|cond (ieq c.Exit.Kind 3) (oN (zcn c d)<|oN (zK<|zcz c d)<|oN h<|share (up a.Guests b<|zb7<|zcz c d) λf=>some [aT .bare ({a with Guests:=f}:Bare),aB true])<|some [aT .bare a,aB false])
theorem zJs (b:Bare)(a c:Int)(d:zgG b a c=true):∃N,zx1 N b a c=some [aT .bare<|zcc b a c,aB<|zcr b a c]:=by
 have e:=zD.1 d;have f:=zf3 a e;have j:zbR b a=true->hasB a (ln b.Guests)=true:=λh=>(zd7.1 h).2;have g:zbR b a=true->gAt b a=ix b.Guests a zu:=λh=>zs8 (zd7.1 h).2;have i:_/\_/\_/\_:=f;refine⟨0,?_⟩;unfold zx1 oN nB;conv=>zeta
 refine mu (mu<|brN (λ_=>?_) λ_=>must rfl (brN (λ_=>?_) λ_=>mu (br (λ_=>mu (mu<|mu<|shr ?_)) λ_=>br (λ_=>mu (mu<|mu<|shr ?_)) λ_=>?_)));all_goals first|rfl|(simp only [*,zcc,zcr,chg,zb0,ztI,zu3,zju,zev,SmG,stopped,cT,cF]<;>rfl)|simp_all[Ty.cells,zcc,zcr,chg,zb0,ztI,zu3,zju,zev,SmG,stopped]
theorem zte:vV 106 zhE:=kF3 zfq zl zn zo (zq []) zJs
def zxR (N:Nat)(a:Bare)(b g:Int):OA:=
 let c:=zdp a b;let l:=ieq (zna a b).Kind 2;let e:=zbc a;let j:=ieq a.Pending a.Pending;let d:=aT .bare<|zV a;let k:=({c with A:=g}:Guest);let f:=(⟨0,0,false,0⟩:GExit);let i:=zcz k f;let m:=aT .bare<|zcI a b<|zb7 i;let h:=zcz c f;let n:=aT .bare<|zcI a b<|zb7 h; (oN (zb6 a b)<|cond l (oN (zJ g 0 99)<|oN (zdU a b)<|oN (zdd a)<|cond (nB<|zbY a) (oN e<|some [d,aB false])<|cond (nB<|zdq a b) (oN e<|some [d,aB false])<|cond (nB<|zi g 0 99) (oN e<|some [d,aB false])<|cond l (oN (zcn k f)<|oN (zK i)<|oN (cond j true false)<|oN (ieq b b)<|oN (zbL a b<|zb7 i)<|some [m,aB true])<|oN (zcn c f)<|oN (zK h)<|oN (cond j true false)<|oN (ieq b b)<|oN (zbL a b<|zb7 h)<|some [n,aB true])<|cond (ieq (zna a b).Kind 3) (oN (zJ g 0 99)<|oN (zdU a b)<|oN (zdd a)<|cond (nB<|zbY a) (oN e<|some [d,aB false])<|cond (nB<|zdq a b) (oN e<|some [d,aB false])<|cond (nB<|zi g 0 99) (oN e<|some [d,aB false])<|cond l (oN (zcn k f)<|oN (zK i)<|oN (cond j true false)<|oN (ieq b b)<|oN (zbL a b<|zb7 i)<|some [m,aB true])<|oN (zcn c f)<|oN (zK h)<|oN (cond j true false)<|oN (ieq b b)<|oN (zbL a b<|zb7 h)<|some [n,aB true])<|oN (zdU a b)<|oN (zdd a)<|cond (nB<|zbY a) (oN e<|some [d,aB false])<|cond (nB<|zdq a b) (oN e<|some [d,aB false])<|oN e<|some [d,aB false])
theorem zJh (b:Bare)(a c:Int)(f:zgG b a c=true):∃N,zxR N b a c=some [aT .bare<|zcc b a c,aB<|zcr b a c]:=by
 have g:=zD.1 f;have d:=zf3 a g;have j:_/\_/\_/\_:=d;have h:SmG ({gAt b a with A:=c}:Guest):=d;have i:∀e,SmG (zcg<|stopped (gAt b a) e):=λe=>zlO (zZT e d);refine⟨0,?_⟩;unfold zxR oN nB;conv=>zeta
 refine mu (br (λ_=>must rfl (mu (must rfl (brN (λ_=>mu ?_) λ_=>brN (λ_=>mu ?_) λ_=>brN (λ_=>mu ?_) λ_=>br (λ_=>mu (mu<|mu<|mu<|mu ?_)) λ_=>mu (mu<|mu<|mu<|mu ?_))))) λ_=>br (λ_=>must rfl (mu (must rfl (brN (λ_=>mu ?_) λ_=>brN (λ_=>mu ?_) λ_=>brN (λ_=>mu ?_) λ_=>br (λ_=>mu (mu<|mu<|mu<|mu ?_)) λ_=>mu (mu<|mu<|mu<|mu ?_))))) λ_=>mu (must rfl (brN (λ_=>mu ?_) λ_=>brN (λ_=>mu ?_) λ_=>mu ?_)));all_goals first|rfl|(simp only [*,zcc,zcr,chg,zb0,ztI,zu3,zju,zbR,zeq,cT,cF]<;>rfl)|simp_all[Ty.cells,zcc,zcr,chg,zb0,ztI,zu3,zju,zbR,zeq]
theorem ztb:vV 125 zhE:=kF3 zfq zl zn zo (zq []) zJh
@[simp] abbrev zce (b:Bare)(g:Int):Bare:=chg b g (zxD<|gAt b g) (zvH<|gAt b g)
@[simp] abbrev zct (b:Bare)(g:Int):Bool:=zb0 b g (zxD<|gAt b g)
def zhG:Run:=rF2 (dT .bare) dI λb c=>(zb6 b c,[aT .bare<|zce b c,aB<|zct b c])
def zx3 (N:Nat)(g:Bare)(c:Int):OA:=
 let a:=zV g;let f:=inb c<|ln a.Guests;let d:=(⟨0,0,false,0⟩:GExit);let b:=ix a.Guests c zu; (oN (zbc g)<|oN (zb6 a c)<|cond (nB<|zly a c) (some [aT .bare a,aB false])<|oN f<|cond (ieq b.Exit.Kind 1) (oN (zcn b d)<|oN f<|share (up a.Guests c<|zcz b d) λe=>some [aT .bare ({a with Guests:=e}:Bare),aB true])<|cond (ieq b.Exit.Kind 4) (oN (zcn b d)<|oN (zK<|zcz b d)<|oN f<|share (up a.Guests c<|zjD<|zcz b d) λe=>some [aT .bare ({a with Guests:=e}:Bare),aB true])<|some [aT .bare a,aB false])
theorem zJu (b:Bare)(a:Int)(c:zb6 b a=true):∃N,zx3 N b a=some [aT .bare<|zce b a,aB<|zct b a]:=by
 have d:=zD.1 c;have e:=zf3 a d;have i:zbR b a=true->hasB a (ln b.Guests)=true:=λh=>(zd7.1 h).2;have f:zbR b a=true->gAt b a=ix b.Guests a zu:=λh=>zs8 (zd7.1 h).2;have g:_/\_/\_/\_:=e;refine⟨0,?_⟩;unfold zx3 oN nB;conv=>zeta
 refine mu (mu<|brN (λ_=>?_) λ_=>mu (br (λ_=>mu (mu<|shr ?_)) λ_=>br (λ_=>mu (mu<|mu<|shr ?_)) λ_=>?_));all_goals first|rfl|(simp only [*,zce,zct,chg,zb0,zxD,zvH,zju,zev,SmG,stopped,cT,cF]<;>rfl)|simp_all[Ty.cells,zce,zct,chg,zb0,zxD,zvH,zju,zev,SmG,stopped]
theorem ztg:vV 107 zhG:=kF2 zfq zl zn zo (zq []) zJu
def zxT (N:Nat)(a:Bare)(b:Int):OA:=
 let f:=ieq (zna a b).Kind 4;let e:=ieq a.Pending a.Pending;let d:=aT .bare<|zV a;let c:=({ (zdp a b) with Exit:=(⟨0,0,false,0⟩:GExit)}:Guest);let g:=aT .bare<|zcI a b<|zjD c; (oN (zb6 a b)<|cond (ieq (zna a b).Kind 1) (oN (zdU a b)<|oN (zdd a)<|cond (nB<|zbY a) (oN (zbc a)<|some [d,aB false])<|cond (nB<|zdq a b) (oN (zbc a)<|some [d,aB false])<|cond f (oN (zK c)<|oN (cond e true false)<|oN (ieq b b)<|oN (zbL a b<|zjD c)<|some [g,aB true])<|oN (cond e true false)<|oN (ieq b b)<|oN (zbL a b c)<|some [aT .bare<|zcI a b c,aB true])<|oN (zdU a b)<|oN (zdd a)<|cond (nB<|zbY a) (oN (zbc a)<|some [d,aB false])<|cond (nB<|zdq a b) (oN (zbc a)<|some [d,aB false])<|cond (nB f) (oN (zbc a)<|some [d,aB false])<|cond f (oN (zK c)<|oN (cond e true false)<|oN (ieq b b)<|oN (zbL a b<|zjD c)<|some [g,aB true])<|oN (cond e true false)<|oN (ieq b b)<|oN (zbL a b c)<|some [aT .bare<|zcI a b c,aB true])
theorem zJj (b:Bare)(a:Int)(d:zb6 b a=true):∃N,zxT N b a=some [aT .bare<|zce b a,aB<|zct b a]:=by
 have e:=zD.1 d;have f:=zf3 a e;have g:_/\_/\_/\_:=f;have c:ieq (gAt b a).Exit.Kind 1=true->ieq (gAt b a).Exit.Kind 4=false:=λh=>zEC h (by decide);refine⟨0,?_⟩;unfold zxT oN nB;conv=>zeta
 refine mu (br (λ_=>mu (must rfl (brN (λ_=>mu ?_) λ_=>brN (λ_=>mu ?_) λ_=>br (λ_=>mu (mu<|mu<|mu ?_)) λ_=>mu (mu<|mu ?_)))) λ_=>mu (must rfl (brN (λ_=>mu ?_) λ_=>brN (λ_=>mu ?_) λ_=>brN (λ_=>mu ?_) λ_=>br (λ_=>mu (mu<|mu<|mu ?_)) λ_=>mu (mu<|mu ?_))));all_goals first|rfl|(simp only [*,zce,zct,chg,zb0,zxD,zvH,zju,zbR,zeq,SmG,stopped,cT,cF]<;>rfl)|simp_all[Ty.cells,zce,zct,chg,zb0,zxD,zvH,zju,zbR,zeq,SmG,stopped]
theorem ztd:vV 127 zhG:=kF2 zfq zl zn zo (zq []) zJj
theorem zbbW {b:Bare}{g:Int}{c:Bool}{x:Guest}(h:zbR b g=false):chg b g c x=b:=by unfold chg;rw[h];rfl
theorem zbar {b:Bare}{g n:Int}(h:zbR b g=true):chg b g (zid (gAt b g).Pending n) (znd (gAt b g) n)=zev b g (znd (gAt b g) n):=by unfold chg;rw[h];cases a:zid (gAt b g).Pending n;{rw [zba5 a,z5J (zd7.1 h).2];rfl};{rfl}
@[simp] abbrev zgH (b:Bare)(g n:Int):Bool:=pc (SmB b)
@[simp] abbrev zcd (b:Bare)(g n:Int):Bare:=chg b g (zid (gAt b g).Pending n) (znd (gAt b g) n)
@[simp] abbrev zcs (b:Bare)(g n:Int):Bool:=zb0 b g (zid (gAt b g).Pending n)
def zhF:Run:=rF3 (dT .bare) dI dI λb c d=>(zgH b c d,[aT .bare<|zcd b c d,aB<|zcs b c d])
def zx2 (N:Nat)(e:Bare)(b d:Int):OA:=
 let a:=zV e;let c:=ix a.Guests b zu; (oN (zbc e)<|oN (zb6 a b)<|cond (nB<|zly a b) (some [aT .bare a,aB false])<|oN (inb b<|ln a.Guests)<|oN (zgm c.Pending d)<|oN (inb b<|ln a.Guests)<|share (up a.Guests b ({c with Pending:=(zet c.Pending d)}:Guest)) λf=>some [aT .bare ({a with Guests:=f}:Bare),aB<|zhX c.Pending d])
theorem zJt (a:Bare)(b c:Int)(d:zgH a b c=true):∃N,zx2 N a b c=some [aT .bare<|zcd a b c,aB<|zcs a b c]:=by
 have i:=zD.1 d;have j:zbR a b=true->hasB b (ln a.Guests)=true:=λh=>(zd7.1 h).2;have f:zbR a b=true->gAt a b=ix a.Guests b zu:=λh=>zs8 (zd7.1 h).2;have g:=@zbar a b c;have e:=@zbbW a b (zid (gAt a b).Pending c) (znd (gAt a b) c);refine⟨0,?_⟩;unfold zx2 oN nB;conv=>zeta
 refine mu (mu<|brN (λ_=>?_) λ_=>mu (must rfl (mu<|shr ?_)));all_goals first|rfl|(simp only [*,zcd,zcs,zb0,zev,znd,cT,cF]<;>rfl)|simp_all[Ty.cells,zcd,zcs,zb0,zev,znd]
theorem ztf:vV 108 zhF:=kF3 zfq zl zn zo (zq []) zJt
def zxS (N:Nat)(a:Bare)(b c:Int):OA:=
 let e:=(zdp a b).Pending;let d:=aT .bare<|zV a;let f:=({ (zdp a b) with Pending:=(zet e c)}:Guest); (oN (zdU a b)<|oN (zgm e c)<|oN (zdU a b)<|oN (zdd a)<|cond (nB<|zbY a) (oN (zbc a)<|some [d,aB false])<|cond (nB<|zdq a b) (oN (zbc a)<|some [d,aB false])<|cond (nB<|zhX e c) (oN (zbc a)<|some [d,aB false])<|oN (cond (ieq a.Pending a.Pending) true false)<|oN (ieq b b)<|oN (zbL a b f)<|some [aT .bare<|zcI a b f,aB true])
theorem zJi (b:Bare)(a c:Int)(d:zgH b a c=true):∃N,zxS N b a c=some [aT .bare<|zcd b a c,aB<|zcs b a c]:=by
 have e:=zD.1 d;have f:=zf3 a e;have g:_/\_/\_/\_:=f;refine⟨0,?_⟩;unfold zxS oN nB;conv=>zeta
 refine mu (must rfl (mu (must rfl (brN (λ_=>mu ?_) λ_=>brN (λ_=>mu ?_) λ_=>brN (λ_=>mu ?_) λ_=>mu (mu<|mu ?_)))));all_goals first|rfl|(simp only [*,zcd,zcs,chg,zb0,znd,zbR,zeq,cT,cF]<;>rfl)|simp_all[Ty.cells,zcd,zcs,chg,zb0,znd,zbR,zeq]
theorem ztc:vV 129 zhF:=kF3 zfq zl zn zo (zq []) zJi
@[simp] abbrev ziW (b:Bare)(g:Int)(c:Ctl):Bool:=pc (SmB b)
@[simp] abbrev zcX (b:Bare)(g:Int)(c:Ctl):Bare:=chg b g (znO c) (zCO (gAt b g) c)
@[simp] abbrev zdc (b:Bare)(g:Int)(c:Ctl):Bool:=zb0 b g (znO c)
def zj8:Run:=rF3 (dT .bare) dI dC λb c d=>(ziW b c d,[aT .bare<|zcX b c d,aB<|zdc b c d])
def zGm (N:Nat)(d:Bare)(b:Int)(c:Ctl):OA:=
 let a:=zV d; (oN (zbc d)<|oN (zb6 a b)<|cond (nB<|zly a b) (some [aT .bare a,aB false])<|oN (zfM c)<|cond (nB<|zop c) (some [aT .bare a,aB false])<|oN (inb b<|ln a.Guests)<|share (up a.Guests b ({ (ix a.Guests b zu) with Ctl:=c}:Guest)) λe=>some [aT .bare ({a with Guests:=e}:Bare),aB true])
theorem zTR (a:Bare)(b:Int)(c:Ctl)(d:ziW a b c=true):∃N,zGm N a b c=some [aT .bare<|zcX a b c,aB<|zdc a b c]:=by
 have f:=zD.1 d;have g:zbR a b=true->hasB b (ln a.Guests)=true:=λh=>(zd7.1 h).2;have e:zbR a b=true->gAt a b=ix a.Guests b zu:=λh=>zs8 (zd7.1 h).2;refine⟨0,?_⟩;unfold zGm oN nB;conv=>zeta
 refine mu (mu<|brN (λ_=>?_) λ_=>must rfl (brN (λ_=>?_) λ_=>mu (shr ?_)));all_goals first|rfl|(simp only [*,zcX,zdc,chg,zb0,zCO,zev,cT,cF]<;>rfl)|simp_all[Ty.cells,zcX,zdc,chg,zb0,zCO,zev]
theorem zwG:vV 109 zj8:=kF3 zfq zl zn zo (zq []) zTR
def zFW (N:Nat)(a:Bare)(b:Int)(c:Ctl):OA:=
 let d:=aT .bare<|zV a;let e:=({ (zdp a b) with Ctl:=c}:Guest); (oN (zfM c)<|oN (zdU a b)<|oN (zdd a)<|cond (nB<|zbY a) (oN (zbc a)<|some [d,aB false])<|cond (nB<|zdq a b) (oN (zbc a)<|some [d,aB false])<|cond (nB<|zop c) (oN (zbc a)<|some [d,aB false])<|oN (cond (ieq a.Pending a.Pending) true false)<|oN (ieq b b)<|oN (zbL a b e)<|some [aT .bare<|zcI a b e,aB true])
theorem zTr (b:Bare)(a:Int)(c:Ctl)(d:ziW b a c=true):∃N,zFW N b a c=some [aT .bare<|zcX b a c,aB<|zdc b a c]:=by
 have e:=zD.1 d;have f:=zf3 a e;have g:_/\_/\_/\_:=f;refine⟨0,?_⟩;unfold zFW oN nB;conv=>zeta
 refine must rfl (mu (must rfl (brN (λ_=>mu ?_) λ_=>brN (λ_=>mu ?_) λ_=>brN (λ_=>mu ?_) λ_=>mu (mu<|mu ?_))));all_goals first|rfl|(simp only [*,zcX,zdc,chg,zb0,zCO,zbR,zeq,cT,cF]<;>rfl)|simp_all[Ty.cells,zcX,zdc,chg,zb0,zCO,zbR,zeq]
theorem zwA:vV 131 zj8:=kF3 zfq zl zn zo (zq []) zTr
def zz1 (p c v:Int):Bool:=bif hasB p 8 then (cond (hasB c 4) (zi v 0 99) false) else false
def ziA (b:Bare)(p c v:Int):Bool:=bif zbW b then zz1 p c v else false
def zk3 (b:Bare)(p c v:Int):Bare:=bif ziA b p c v then {b with Memory:=zbU b.Memory p c v} else b
def zlR (b:Bare):Bare:=bif zbW b then {b with Pending:=zhD b.Pending} else b
def zrH (b:Bare):Int:=bif zbW b then zne b.Pending else -1
def zk1 (b:Bare):Bool:=bif zbW b then !ilt (zeD b.Pending) 0 else false
def zjP (b:Bare)(g a n:Int):Bool:=bif zbR b g then (cond (zi a 0 15) (zfK (gAt b g).Live (zbp a) n) false) else false
def zug (b:Bare)(g a n:Int):Int:=zcx (gAt b g).Live (zbp a) n
def zqf (b:Bare)(g a v:Int):Bool:=bif zjP b g a 2 then zi v 0 99 else false
def zzu (b:Bare)(g a v:Int):Bare:=bif zqf b g a v then {b with Memory:=zbU b.Memory (zug b g a 2) (zee a) v} else b
def zz4 (b:Bare)(g a:Int):Int:=bif zjP b g a 1 then cellAt b.Memory (zug b g a 1) (zee a) else 0
@[simp] abbrev znr (b:Bare)(p c v:Int):Bool:=pc (SmB b)
@[simp] abbrev zfe (b:Bare)(p c v:Int):Bare:=zk3 b p c v
@[simp] abbrev zgj (b:Bare)(p c v:Int):Bool:=ziA b p c v
def zji:Run:=rF4 (dT .bare) dI dI dI λb c d e=>(znr b c d e,[aT .bare<|zfe b c d e,aB<|zgj b c d e])
def zCj (N:Nat)(f:Bare)(b c d:Int):OA:=
 let a:=zV f;let e:=aT .bare a; (oN (zbc f)<|oN (zdd a)<|cond (nB<|zbY a) (some [e,aB false])<|oN (zJ b 0 7)<|cond (nB<|zi b 0 7) (some [e,aB false])<|oN (zJ c 0 3)<|cond (nB<|zi c 0 3) (some [e,aB false])<|oN (zJ d 0 99)<|cond (nB<|zi d 0 99) (some [e,aB false])<|oN (zdf a.Memory b c d)<|some [aT .bare ({a with Memory:=(zdG a.Memory b c d)}:Bare),aB true])
theorem zQf (a:Bare)(b c d:Int)(e:znr a b c d=true):∃N,zCj N a b c d=some [aT .bare<|zfe a b c d,aB<|zgj a b c d]:=by
 have f:=zD.1 e;have g:_/\_/\_:=f;refine⟨0,?_⟩;unfold zCj oN nB;conv=>zeta
 refine mu (must rfl (brN (λ_=>?_) λ_=>must rfl (brN (λ_=>?_) λ_=>must rfl (brN (λ_=>?_) λ_=>must rfl (brN (λ_=>?_) λ_=>mu ?_)))));all_goals first|rfl|(simp only [*,zfe,zgj,zk3,ziA,zz1,cT,cF]<;>rfl)|simp_all[Ty.cells,zfe,zgj,zk3,ziA,zz1]
theorem zvo:vV 111 zji:=kF4 zfq zl zn zo (zq []) zQf
@[simp] abbrev zdb (b:Bare):Bare:=zlR b
@[simp] abbrev zd9 (b:Bare):Int:=zrH b
@[simp] abbrev zdn (b:Bare):Bool:=zk1 b
def zj7:Run:=rF1 (dT .bare) λb=>(zbc b,[aT .bare<|zdb b,aI<|zd9 b,aB<|zdn b])
def zGk (N:Nat)(b:Bare):OA:=
 let a:=zV b; (oN (zbc b)<|oN (zdd a)<|cond (nB<|zbY a) (some [aT .bare a,aI<|-1,aB false])<|oN (zcm a.Pending)<|some [aT .bare ({a with Pending:=(zgn a.Pending)}:Bare),aI<|zgo a.Pending,aB<|zhZ a.Pending])
theorem zTP (a:Bare)(b:zbc a=true):∃N,zGk N a=some [aT .bare<|zdb a,aI<|zd9 a,aB<|zdn a]:=by
 have c:=zD.1 b;refine⟨0,?_⟩;unfold zGk oN nB;conv=>zeta
 refine mu (must rfl (brN (λ_=>?_) λ_=>must rfl ?_));all_goals first|rfl|(simp only [*,zdb,zd9,zdn,zlR,zrH,zk1,zhD,zne,cT,cF]<;>rfl)|simp_all[Ty.cells,zdb,zd9,zdn,zlR,zrH,zk1,zhD,zne]
theorem zwF:vV 113 zj7:=kF1 zfq zl zn zo (zq []) zTP
def zBJ (N:Nat)(a:Bare)(b c d:Int):OA:=
 let e:=aT .bare<|zV a; (oN (zbc a)<|oN (zdd a)<|cond (nB<|zbY a) (some [e,aB false])<|oN (zbj b 8)<|cond (nB<|zca b 8) (some [e,aB false])<|oN (zbj c 4)<|cond (nB<|zca c 4) (some [e,aB false])<|oN (zJ d 0 99)<|cond (nB<|zi d 0 99) (some [e,aB false])<|oN (zdf a.Memory b c d)<|some [aT .bare ({ (zV a) with Memory:=(zdG a.Memory b c d)}:Bare),aB true])
theorem zPI (a:Bare)(b c d:Int)(e:znr a b c d=true):∃N,zBJ N a b c d=some [aT .bare<|zfe a b c d,aB<|zgj a b c d]:=by
 have f:=zD.1 e;have g:_/\_/\_:=f;refine⟨0,?_⟩;unfold zBJ oN nB;conv=>zeta
 refine mu (must rfl (brN (λ_=>?_) λ_=>must rfl (brN (λ_=>?_) λ_=>must rfl (brN (λ_=>?_) λ_=>must rfl (brN (λ_=>?_) λ_=>mu ?_)))));all_goals first|rfl|(simp only [*,zfe,zgj,zk3,ziA,zz1,cT,cF]<;>rfl)|simp_all[Ty.cells,zfe,zgj,zk3,ziA,zz1]
theorem zvi:vV 133 zji:=kF4 zfq zl zn zo (zq []) zPI
def zFV (N:Nat)(a:Bare):OA:=
 (oN (zbc a)<|oN (zcm a.Pending)<|oN (zdd a)<|cond (nB<|zbY a) (some [aT .bare<|zV a,aI<|-1,aB false])<|cond (nB<|zhZ a.Pending) (some [aT .bare<|zV a,aI<|-1,aB false])<|some [aT .bare ({ (zV a) with Pending:=(zgn a.Pending)}:Bare),aI<|zgo a.Pending,aB true])
theorem zTq (a:Bare)(b:zbc a=true):∃N,zFV N a=some [aT .bare<|zdb a,aI<|zd9 a,aB<|zdn a]:=by have c:=zD.1 b;refine⟨0,?_⟩;unfold zFV oN nB;refine mu (must rfl (must rfl (brN (λ_=>?_) λ_=>brN (λ_=>?_) λ_=>?_)));all_goals first|rfl|(simp only [*,zdb,zd9,zdn,zlR,zrH,zk1,zhD,zne,cT,cF]<;>rfl)|simp_all[Ty.cells,zdb,zd9,zdn,zlR,zrH,zk1,zhD,zne]
theorem zwz:vV 138 zj7:=kF1 zfq zl zn zo (zq []) zTq
theorem z8D {a:Type}(c:Bool)(x y:a):(cond c (cond c x y) y)=(cond c x y):=by cases c<;>rfl
@[simp] abbrev zxf (b:Bare)(g a n:Int):Bool:=pc (SmB b)
@[simp] abbrev zlK (b:Bare)(g a n:Int):Int:=bif zjP b g a n then zug b g a n else -1
@[simp] abbrev zp3 (b:Bare)(g a n:Int):Bool:=zjP b g a n
def zHq:Run:=rF4 (dT .bare) dI dI dI λb c d e=>(zxf b c d e,[aI<|zlK b c d e,aB<|zp3 b c d e])
def zRM (N:Nat)(b:Bare)(c a d:Int):OA:=
 let e:=(ix b.Guests c zu).Live; (oN (zb6 b c)<|cond (nB<|zly b c) (some [aI<|-1,aB false])<|oN (zJ a 0 15)<|cond (nB<|zi a 0 15) (some [aI<|-1,aB false])<|oN (inb c<|ln b.Guests)<|oN (zbs a)<|oN (zfL e (zbw a) d)<|some [aI<|zeL e (zbw a) d,aB<|zdZ e (zbw a) d])
theorem zZk (a:Bare)(b c d:Int)(e:zxf a b c d=true):∃N,zRM N a b c d=some [aI<|zlK a b c d,aB<|zp3 a b c d]:=by
 have g:=zD.1 e;have i:zbR a b=true->hasB b (ln a.Guests)=true:=λh=>(zd7.1 h).2;have f:zbR a b=true->gAt a b=ix a.Guests b zu:=λh=>zs8 (zd7.1 h).2;refine⟨0,?_⟩;unfold zRM oN nB;conv=>zeta
 refine mu (brN (λ_=>?_) λ_=>must rfl (brN (λ_=>?_) λ_=>mu (must rfl (must rfl ?_))));all_goals first|rfl|(simp only [*,zlK,zp3,zjP,zug,zcx,z8D,cT,cF]<;>rfl)|simp_all[Ty.cells,zlK,zp3,zjP,zug,zcx,z8D]
theorem zTj:vV 229 zHq:=kF4 zfq zl zn zo (zq []) zZk
def z0I (b:Bare)(g a:Int):Bool:=bif zbR b g then zi a 0 15 else false
def z9C:zbd:=[(229,zHq)]++z9B
theorem zvd:zQ z9C:=zf zTj zfq
theorem zNn {b:Bare}{g a n:Int}(h:zjP b g a n=true):z0I b g a=true:=by unfold zjP at h;unfold z0I;cases c:zbR b g;{rw [c]at h;exact h};{cases d:zi a 0 15;{rw [c,d]at h;exact h};{rfl}}
@[simp] abbrev zxG (b:Bare)(g a v:Int):Bool:=pc (SmB b)
@[simp] abbrev zoS (b:Bare)(g a v:Int):Bare:=zzu b g a v
@[simp] abbrev zoT (b:Bare)(g a v:Int):Bool:=zqf b g a v
def ztR:Run:=rF4 (dT .bare) dI dI dI λb c d e=>(zxG b c d e,[aT .bare<|zoS b c d e,aB<|zoT b c d e])
def zGn (N:Nat)(e:Bare)(c b d:Int):OA:=
 let a:=zV e; (oN (zbc e)<|oN (zxf a c b 2)<|cond (nB<|zp3 a c b 2) (some [aT .bare a,aB false])<|oN (zJ d 0 99)<|cond (nB<|zi d 0 99) (some [aT .bare a,aB false])<|oN (zbs b)<|oN (zdf a.Memory (zlK a c b 2) (zcv b) d)<|some [aT .bare ({a with Memory:=(zdG a.Memory (zlK a c b 2) (zcv b) d)}:Bare),aB true])
theorem zTS (a:Bare)(b c d:Int)(e:zxG a b c d=true):∃N,zGn N a b c d=some [aT .bare<|zoS a b c d,aB<|zoT a b c d]:=by
 have f:=zD.1 e;have h:_/\_/\_:=f;have g:=@zNn a b c 2;refine⟨0,?_⟩;unfold zGn oN nB;conv=>zeta
 refine mu (mu<|brN (λ_=>?_) λ_=>must rfl (brN (λ_=>?_) λ_=>must rfl (mu ?_)));all_goals first|rfl|(simp only [*,zoS,zoT,zzu,zqf,cT,cF]<;>rfl)|simp_all[Ty.cells,zoS,zoT,zzu,zqf]
theorem zwH:vV 114 ztR:=kF4 zvd zl zn zo (zq []) zTS
@[simp] abbrev zvN (b:Bare)(g a:Int):Bool:=pc (SmB b)
@[simp] abbrev zns (b:Bare)(g a:Int):Int:=zz4 b g a
@[simp] abbrev znt (b:Bare)(g a:Int):Bool:=zjP b g a 1
def zr6:Run:=rF3 (dT .bare) dI dI λb c d=>(zvN b c d,[aI<|zns b c d,aB<|znt b c d])
def zCl (N:Nat)(b:Bare)(c a:Int):OA:=
 (oN (zxf b c a 1)<|cond (nB<|zp3 b c a 1) (some [aI 0,aB false])<|oN (zbs a)<|oN (zeK b.Memory (zlK b c a 1)<|zcv a)<|some [aI<|zf6 b.Memory (zlK b c a 1)<|zcv a,aB true])
theorem zQh (a:Bare)(b c:Int)(d:zvN a b c=true):∃N,zCl N a b c=some [aI<|zns a b c,aB<|znt a b c]:=by have e:=zD.1 d;have g:_/\_/\_:=e;have f:=@zNn a b c 1;refine⟨0,?_⟩;unfold zCl oN nB;refine mu (brN (λ_=>?_) λ_=>must rfl (must rfl ?_));all_goals first|rfl|(simp only [*,zns,znt,zz4,cT,cF]<;>rfl)|simp_all[Ty.cells,zns,znt,zz4]
theorem zvq:vV 115 zr6:=kF3 zvd zl zn zo (zq []) zQh
def zfs (l:List Guest)(n:Int):List Int:=idxs (λ(x:Guest)=>posts x.Ctl n) l 0
theorem zV5 {d:Type}(p:d->Bool):∀(l:List d) (i:Nat),∀k∈idxs p l i,(i:Int)<=k/\k<(i:Int)+l.length
 |[],_,k,a=>by cases a
 |x::l,i,k,a=>by have c:=zV5 p l (i+1);simp only[qU];unfold idxs at a;cases b:p x;{rw [b]at a;have:=c k a;omega};{rw [b]at a;rcases qG.1 a with rfl|a;{omega};{have:=c k a;omega}}
@[simp] abbrev zfY (b:Bare)(n:Int):List Int:=zfs b.Guests n
def zoh:Run:=rF2 (dT .bare) dI λb c=>(zdF b c,[aS .int<|zfY b c])
def zCu (N:Nat)(c:Bare)(f:Int):OA:=
 (iter (σ:=(Int×Int×Int×(List Int)×lM×lG×(List Int)×Unit)) N (λd a=>let b:=a.2.2.2.2.2.1;let e:=(ix b a.2.1 zu).Ctl; (cond (ilt a.2.1<|ln b) (oN (inb a.2.1<|ln b)<|oN (ztp e a.1)<|cond (zoq e a.1) (oN (few<|ln<|ap a.2.2.2.1 [a.2.1])<|d (a.1,zN .i64 a.2.1 1,a.2.2.1,ap a.2.2.2.1 [a.2.1],a.2.2.2.2.1,b,a.2.2.2.2.2.2.1,()))<|d (a.1,zN .i64 a.2.1 1,a.2.2.1,a.2.2.2.1,a.2.2.2.2.1,b,a.2.2.2.2.2.2.1,()))<|some [aS .int a.2.2.2.1])) (f,0,c.Pending,[],c.Memory,c.Guests,c.Outs,()))
def zRd:=zq [(227,0,{n:=28,tm:=[(1,ti),(2,.lp 0 0),(5,.sl 0 []),(6,ti)],lo:=[(0,[.sl 1 [],.sl 2 [],.sl 3 [],ti])],ro:=[(0,.int,true),(1,.sl .int,false),(2,.guest,false),(3,.int,false)]})]
theorem zQp (a:Bare)(b:Int)(g:zdF a b=true):∃N,zCu N a b=some [aS .int<|zfY a b]:=by
 have h:=zD.1 g;have e:=zcu h.2.1.1;refine zbX λN d=>?_;unfold zCu oN;conv=>zeta
 refine(zY a.Guests (λi (t:(List Int))=>(b,(i:Int),a.Pending,t,a.Memory,a.Guests,a.Outs,())) _ (λi (x:Guest) (t:List Int) f=>bif posts x.Ctl b then (cond (few<|ln<|ap t [(i:Int)]) (f<|ap t [(i:Int)]) none) else f t) (λ(t:(List Int))=>some [.one<|.s .int t]) (λi c t rec=>?_) (λt rec=>?_) _ ([])<|d e.1).trans ?_;{simp only [zbn c,zU c,zbb c,zX c e.1,cT]};{simp only [zbe,cF]};exact zrR (λ(x:Guest)=>posts x.Ctl b) _ a.Guests 0 [] (by simpa using e.2)
theorem zI0:vV 227 zoh:=kF2 zvd zl zn zo zRd zQp
def zBV (N:Nat)(d:Bare)(g:Int):OA:=
 (iter (σ:=(Int×Int×Int×(List Int)×lG×Unit)) N (λe a=>let c:=a.2.2.2.2.1;let b:=a.2.2.1;let f:=(ix c b zu).Ctl; (cond (ilt b a.2.1) (oN (inb b<|ln c)<|oN (ztp f a.1)<|cond (zoq f a.1) (oN (few<|ln<|ap a.2.2.2.1 [b])<|e (a.1,a.2.1,zN .i64 b 1,ap a.2.2.2.1 [b],c,()))<|e (a.1,a.2.1,zN .i64 b 1,a.2.2.2.1,c,()))<|some [aS .int a.2.2.2.1])) (g,ln d.Guests,0,[],d.Guests,()))
def zQ3:=zq [(247,0,{n:=27,tm:=[(1,ti),(5,.sl 0 []),(10,.sl 1 []),(11,ti),(12,ti)],lo:=[],ro:=[(0,.int,true),(1,.guest,false)]})]
theorem zPU (a:Bare)(b:Int)(g:zdF a b=true):∃N,zBV N a b=some [aS .int<|zfY a b]:=by
 have h:=zD.1 g;have e:=zcu h.2.1.1;refine zbX λN d=>?_;unfold zBV oN;conv=>zeta
 refine(zY a.Guests (λi (t:(List Int))=>(b,ln a.Guests,(i:Int),t,a.Guests,())) _ (λi (x:Guest) (t:List Int) f=>bif posts x.Ctl b then (cond (few<|ln<|ap t [(i:Int)]) (f<|ap t [(i:Int)]) none) else f t) (λ(t:(List Int))=>some [.one<|.s .int t]) (λi c t rec=>?_) (λt rec=>?_) _ ([])<|d e.1).trans ?_;{simp only [zbn c,zU c,zbb c,zX c e.1,cT]};{simp only [zbe,cF]};exact zrR (λ(x:Guest)=>posts x.Ctl b) _ a.Guests 0 [] (by simpa using e.2)
theorem zIt:vV 247 zoh:=kF2 zvd zl zn zo zQ3 zPU
def z9D:zbd:=[(227,zoh),(247,zoh)]++z9C
theorem zH6:zQ z9D:=zf zI0 (zf zIt zvd)
def zEK (n:Int)(l:List Guest)(k:Int):List Guest:=up l k (znd (ix l k zu) n)
def zn5 (n:Int)(a:List Int)(l:List Guest):List Guest:=a.foldl (zEK n) l
theorem zDT (n:Int)(l:List Guest)(k:Int):(zEK n l k).length=l.length:=zgN _ _ _
theorem z2Q {n:Int}{l:List Guest}{k:Int}(a:hasB k (ln l)=true)(h:zpx l):zpx (zEK n l k):=zEP h (zNC h a _)
theorem zEd {n:Int}:∀(a:List Int) {l:List Guest},(∀k∈a,hasB k (ln l)=true)->zpx l->zpx (zn5 n a l)/\(zn5 n a l).length=l.length
 |[],_,_,h=>⟨h,rfl⟩
 |k::a,l,b,h=>by have e:=z2Q (n:=n) (b k (by simp)) h;obtain⟨c,d⟩:=zEd (n:=n) a (l:=zEK n l k) (λj f=>by rw[ln,zDT];exact b j (by simp[f])) e;exact⟨c,d.trans<|zDT _ _ _⟩
theorem zIg {e:Type}(n:Int)(K:List Guest->Option e):∀(a:List Int) (i:Nat) (l:List Guest),(∀k∈a,hasB k (ln l)=true)->
 goL (λ_ k (t:List Guest) d=>bif inb k (ln t) then (cond (inb k<|ln t) (d<|up t k<|znd (ix t k zu) n) none) else none) K a i l=K (zn5 n a l)
 |[],_,_,_=>rfl
 |k::a,i,l,h=>by have c:inb k (ln l)=true:=h k (by simp);simp only[goL,c,cT];exact zIg n K a (i+1) (zEK n l k) (λj b=>by rw[ln,zDT];exact h j (by simp[b]))
def zEL (b:Bare)(n:Int):Bare:=bif ieq (ln<|zfs b.Guests n) 0 then {b with Pending:=zqF b.Pending n} else {b with Guests:=zn5 n (zfs b.Guests n) b.Guests}
def zge (b:Bare)(n:Int):Bool:=bif zbW b then hasB n 8 else false
def zks (b:Bare)(n:Int):Bare:=bif zge b n then zEL b n else b
theorem zz2 {b:Bare}{n:Int}:∀k∈zfs b.Guests n,hasB k (ln b.Guests)=true:=λk a=>by have:=zV5 _ _ _ k a;exact qK (by simp only[ln];omega)
theorem z2t {b:Bare}{n:Int}(h:ieq (ln<|zfs b.Guests n) 0=true):zn5 n (zfs b.Guests n) b.Guests=b.Guests:=by have a:((zfs b.Guests n).length:Int)=0:=qD h;have:zfs b.Guests n=[]:=uZ.1 (by omega);rw[this];rfl
theorem zNm {b:Bare}{n:Int}:(cond (ieq (ln<|zfs b.Guests n) 0) (some [AV.agg<|Ty.cells .bare ⟨b.Memory,zn5 n (zfs b.Guests n) b.Guests,b.Outs,zqF b.Pending n⟩,AV.one<|.b true])<|some [AV.agg<|Ty.cells .bare ⟨b.Memory,zn5 n (zfs b.Guests n) b.Guests,b.Outs,b.Pending⟩,AV.one<|.b true])=some [AV.agg<|Ty.cells .bare<|zEL b n,AV.one<|.b true]:=by unfold zEL;cases h:ieq (ln<|zfs b.Guests n) 0;{rfl};{simp only [cT,z2t h]}
@[simp] abbrev zde (b:Bare)(n:Int):Bare:=zks b n
@[simp] abbrev zdw (b:Bare)(n:Int):Bool:=zge b n
def zjj:Run:=rF2 (dT .bare) dI λb c=>(zdF b c,[aT .bare<|zde b c,aB<|zdw b c])
def zCk (N:Nat)(i:Bare)(e:Int):OA:=
 let b:=zV i; (oN (zbc i)<|oN (zdd b)<|cond (nB<|zbY b) (some [aT .bare b,aB false])<|oN (zJ e 0 7)<|cond (nB<|zi e 0 7) (some [aT .bare b,aB false])<|oN (zdF b e)<|iter (σ:=(Int×Int×Int×Int×(List Int)×lM×lG×(List Int)×lM×lG×(List Int)×Unit)) N (λj a=>let h:=a.2.2.2.2.2.2.2.1;let d:=a.2.2.2.2.1;let c:=a.2.2.2.2.2.2.1;let f:=ix d a.2.1 0;let g:=ix c f zu; (cond (ilt a.2.1<|ln d) (oN (inb a.2.1<|ln d)<|oN (inb a.2.1<|ln d)<|oN (inb f<|ln c)<|oN (zgm g.Pending a.1)<|oN (inb f<|ln c)<|j (a.1,zN .i64 a.2.1 1,a.2.2.1,a.2.2.2.1,d,a.2.2.2.2.2.1,up c f ({g with Pending:=(zet g.Pending a.1)}:Guest),h,a.2.2.2.2.2.2.2.2.1,a.2.2.2.2.2.2.2.2.2.1,a.2.2.2.2.2.2.2.2.2.2.1,()))<|cond (ieq (ln d) 0) (oN (zgm a.2.2.1 a.1)<|some [aT .bare (⟨a.2.2.2.2.2.1,c,h,zet a.2.2.1 a.1⟩:Bare),aB true])<|some [aT .bare (⟨a.2.2.2.2.2.1,c,h,a.2.2.1⟩:Bare),aB true])) (e,0,b.Pending,0,zfY b e,b.Memory,b.Guests,b.Outs,[],[],[],()))
def zRa:=zq [(112,0,{n:=62,tm:=[(1,ti),(2,.lp 0 0),(4,.lp 1 0),(6,.sl 0 []),(7,ti)],lo:=[(0,[.sl 1 [],.sl 2 [],.sl 3 [],ti]),(1,[.sl 4 [],.sl 5 [],.sl 6 [],ti])],ro:=[(0,.int,true),(1,.sl .int,true),(2,.guest,true),(3,.int,true),(4,.sl .int,true),(5,.guest,true),(6,.int,true)]})]
theorem zQg (a:Bare)(c:Int)(l:zdF a c=true):∃N,zCk N a c=some [aT .bare<|zde a c,aB<|zdw a c]:=by
 have h:=zD.1 l;have j:(zfs a.Guests c).length<=big:=jB (zvx _ _ _) (zcu h.2.1.1).1;refine zbX λN g=>?_;unfold zCk zde zdw zks zge oN nB;conv=>zeta
 refine must (zba h) (must rfl (brN (λe=>?_) λe=>must rfl (brN (λd=>?_) λd=>must (zba h) ?_)));{simp only [show zbW a=false from e,cF]};{simp only [show zbW a=true from e,show hasB c 8=false from by first|exact d|exact(zOc c).symm.trans d,cT,cF]};simp only[show zbW a=true from e,show hasB c 8=true from by first|exact d|exact(zOc c).symm.trans d,cT];refine(zY (zfY (zV a) c) (λi (t:lG)=>(c,(i:Int),(zV a).Pending,0,zfY (zV a) c,(zV a).Memory,t,(zV a).Outs,[],[],[],())) _ (λ_ k (t:List Guest) m=>bif inb k (ln t) then (cond (inb k<|ln t) (m<|up t k<|znd (ix t k zu) c) none) else none) (λ(t:lG)=>cond (ieq (ln<|zfY (zV a) c) 0) (cond (zgm (zV a).Pending c) (some [.agg<|Ty.cells .bare (⟨(zV a).Memory,t,(zV a).Outs,zet (zV a).Pending c⟩:Bare),.one<|.b true]) none)<|some [.agg<|Ty.cells .bare (⟨(zV a).Memory,t,(zV a).Outs,(zV a).Pending⟩:Bare),.one<|.b true]) (λi f t rec=>?_) (λt rec=>?_) _ ((zV a).Guests)<|g j).trans ?_;{simp only [zbn f,zU f,zbb f,zX f j,cT];rfl};{simp only [zbe,cF];rfl};exact(zIg c _ _ 0 _ zz2).trans zNm
theorem zvp:vV 112 zjj:=kF2 zH6 zl zn zo zRa zQg
def zBK (N:Nat)(b:Bare)(c:Int):OA:=
 let e:=zV b; (oN (zbc b)<|oN (zdd b)<|cond (nB<|zbY b) (some [aT .bare e,aB false])<|oN (zJ c 0 7)<|cond (nB<|zi c 0 7) (some [aT .bare e,aB false])<|oN (zdF b c)<|iter (σ:=(Int×Int×Int×Int×Int×(List Int)×lM×lG×(List Int)×lM×lG×(List Int)×Unit)) N (λl a=>let h:=a.2.2.2.2.1;let g:=a.2.2.2.2.2.1;let k:=a.2.2.2.2.2.2.2.2.2.1;let i:=a.2.2.2.2.2.2.2.2.2.2.2.1;let f:=ix g a.2.2.1 0;let d:=a.2.2.2.2.2.2.2.2.2.2.1;let j:=ix d f zu; (cond (ilt a.2.2.1 a.2.1) (oN (inb a.2.2.1<|ln g)<|oN (inb f<|ln d)<|oN (zgm j.Pending a.1)<|oN (inb f<|ln d)<|l (a.1,a.2.1,zN .i64 a.2.2.1 1,a.2.2.2.1,h,g,a.2.2.2.2.2.2.1,a.2.2.2.2.2.2.2.1,a.2.2.2.2.2.2.2.2.1,k,up d f ({j with Pending:=(zet j.Pending a.1)}:Guest),i,()))<|cond (ieq (ln g) 0) (oN (zgm h a.1)<|some [aT .bare (⟨k,d,i,zet h a.1⟩:Bare),aB true])<|some [aT .bare (⟨k,d,i,h⟩:Bare),aB true])) (c,ln<|zfY b c,0,0,e.Pending,zfY b c,[],[],[],e.Memory,e.Guests,e.Outs,()))
def zQZ:=zq [(136,0,{n:=59,tm:=[(1,ti),(4,.lp 0 0),(6,.lp 1 0),(7,.sl 0 []),(24,.sl 0 []),(25,ti),(26,ti)],lo:=[(0,[.sl 1 [],.sl 2 [],.sl 3 [],ti]),(1,[.sl 4 [],.sl 5 [],.sl 6 [],ti])],ro:=[(0,.int,true),(1,.sl .int,true),(2,.guest,true),(3,.int,true),(4,.sl .int,true),(5,.guest,true),(6,.int,true)]})]
theorem zPJ (a:Bare)(c:Int)(l:zdF a c=true):∃N,zBK N a c=some [aT .bare<|zde a c,aB<|zdw a c]:=by
 have h:=zD.1 l;have j:(zfs a.Guests c).length<=big:=jB (zvx _ _ _) (zcu h.2.1.1).1;refine zbX λN g=>?_;unfold zBK zde zdw zks zge oN nB;conv=>zeta
 refine must (zba h) (must rfl (brN (λe=>?_) λe=>must rfl (brN (λd=>?_) λd=>must (zba h) ?_)));{simp only [show zbW a=false from e,cF]};{simp only [show zbW a=true from e,show hasB c 8=false from by first|exact d|exact(zOc c).symm.trans d,cT,cF]};simp only[show zbW a=true from e,show hasB c 8=true from by first|exact d|exact(zOc c).symm.trans d,cT];refine(zY (zfY a c) (λi (t:lG)=>(c,ln<|zfY a c,(i:Int),0,(zV a).Pending,zfY a c,[],[],[],(zV a).Memory,t,(zV a).Outs,())) _ (λ_ k (t:List Guest) m=>bif inb k (ln t) then (cond (inb k<|ln t) (m<|up t k<|znd (ix t k zu) c) none) else none) (λ(t:lG)=>cond (ieq (ln<|zfY a c) 0) (cond (zgm (zV a).Pending c) (some [.agg<|Ty.cells .bare (⟨(zV a).Memory,t,(zV a).Outs,zet (zV a).Pending c⟩:Bare),.one<|.b true]) none)<|some [.agg<|Ty.cells .bare (⟨(zV a).Memory,t,(zV a).Outs,(zV a).Pending⟩:Bare),.one<|.b true]) (λi f t rec=>?_) (λt rec=>?_) _ ((zV a).Guests)<|g j).trans ?_;{simp only [zbn f,zU f,zbb f,zX f j,cT];rfl};{simp only [zbe,cF];rfl};exact(zIg c _ _ 0 _ zz2).trans zNm
theorem zvj:vV 136 zjj:=kF2 zH6 zl zn zo zQZ zPJ
end
end Go.Proofs.YtgjpbkhaaiffkaaGreat.E
namespace Go.Proofs
open Go Go.Shelf
def Tryz.laysMul_ren:Go.Shelf.Ren:=⟨fun|212=>285|263=>346|264=>347|n=>n,fun|46=>228|51=>257|146=>261|53=>259|148=>263|n=>n,fun|n=>n⟩
theorem Tryz.laysMul:Go.Proofs.Lays.n212 Tryz.prog Tryz.laysMul_ren:={
 mixed:=by kernel_rfl
 f212:=Tryz.func285.trans (congrArg some (by kernel_rfl))
 f263:=Tryz.func346.trans (congrArg some (by kernel_rfl))
 f264:=Tryz.func347.trans (congrArg some (by kernel_rfl))
 t46:=Tryz.underlying228
 a46:=Tryz.isAgg228
 z46:=Tryz.sizeOf228
 v46:=Tryz.zeroValue228
 t51:=Tryz.underlying257
 a51:=Tryz.isAgg257
 z51:=Tryz.sizeOf257
 v51:=Tryz.zeroValue257
 t53:=Tryz.underlying259
 a53:=Tryz.isAgg259
 z53:=Tryz.sizeOf259
 v53:=Tryz.zeroValue259
 t146:=Tryz.underlying261
 a146:=Tryz.isAgg261
 z146:=Tryz.sizeOf261
 v146:=Tryz.zeroValue261
 t148:=Tryz.underlying263
 a148:=Tryz.isAgg263
 z148:=Tryz.sizeOf263
 v148:=Tryz.zeroValue263}
end Go.Proofs
namespace Go.Proofs.YtgjpbkhaaiffkaaGreat.E
open Go
set_option linter.constructorNameAsVariable false
set_option linter.unusedVariables false
set_option maxRecDepth 100000
set_option linter.unusedSimpArgs false
set_option linter.unusedSectionVars false
noncomputable section
section
open Go Go.RowKit Go.Proofs
theorem z4Y (x y:Nat)(a:x<18446744073709551616)(b:y<18446744073709551616)(w:World) :
 Calls Tryz.prog 285 #[.int .u64 x,.int .u64 y] w λe c=>e = .returned (.tuple #[.int .u64 ((x*y / 18446744073709551616:Nat):Int),.int .u64 ((x*y % 18446744073709551616:Nat):Int)])/\c=w :=
 Any.bits_Mul Tryz.laysMul x y a b w
theorem zM9 (y:Nat)(b:y<1000)(w:World):Calls Tryz.prog 285 #[.int .u64 1,.int .u64 y] w λe a=>e = .returned (.tuple #[.int .u64 0,.int .u64 y])/\a=w:=by have h:=z4Y 1 y (by omega) (by omega) w;rw[show 1*y / 18446744073709551616=0 by omega,show 1*y % 18446744073709551616=y by omega]at h;exact h
theorem src_of {w:World}{g:Nat}{a b:List Value}{t:TypeId}(hg:w.heap[g]?=some (.cells a.toArray t (0,0)))(h:∀(j:Nat) v,b[j]?=some v->a[j]?=some v)(j:Nat)(v:Value)(d:b[j]?=some v):w.cell? ((⟨g,0,none⟩:Addr).add j)=some v:=by have c:(⟨g,0,none⟩:Addr).add j=⟨g,j,none⟩:=(by unfold Addr.add;split<;>simp_all);rw[c];simp[World.cell?,hg,h j v d]
theorem z1a {B:Nat}{a w:World}(h:Below B a w):Below B a w.drew:=h.trans ⟨rfl,rfl,rfl,qT _,λ_ _=>rfl⟩
theorem alloc_at (w:World)(o:Obj):(w.alloc o).heap[w.heap.size]?=some o:=by unfold World.alloc;exact Array.getElem?_push_size
section
variable {P:Program}
theorem zA7 (w:World)(dT x ty f:TypeId)(g o c h:Nat)(a:Addr)(d m:Nat)(b:Array Value)(t:TypeId)(e:List Value)(i:TypeInfo)(u:P.underlying dT=some (.slice f))(s:P.info? f=some i)(hg:w.heap[g]?=some (.cells b t (0,0)))(r:e.length=Nat.min d c*i.size)(l:∀j v,e[j]?=some v->w.cell? (a.add j)=some v)(k:o+e.length<=b.size)(p:∀v∈e,v.oneCell'=true) :
 (Builtin.copy_ #[dT,x] ty #[.slice (some ⟨g,o,none⟩) c h,.slice (some a) d m]).run P w =
  .ok (goInt<|Nat.min d c) (w.setRow g (b.toList.take o++e++b.toList.drop (o+e.length)).toArray):=by
 have q:=run_loadCells_list (P:=P) w a e l;have n:=run_storeCells_at P g o t e 0 b w hg (by simpa using k) p
 simp[Builtin.copy_,run_underlying u,Builtin.lenOf,Builtin.firstCells,sizeOf,typeInfo,s,<- r,q,n]
theorem zYx {w:World}{z:Array Oper}{m:List Oper}{o:Oper}{a:Act}{Q:Exit->Act->World->Prop}(E:o.guard=none)(d s:Operand)(dT G:TypeId)(O:o.op = .call {callee:=.builtin .copy,args:=#[d,s],argTypes:=#[dT,G]})(c:TypeId)(S:P.underlying dT=some (.slice c))(i:TypeInfo)(F:P.info? c=some i)(g k b l:Nat)(C:Addr)(e p:Nat)(M:a.eval d = .slice (some ⟨g,k,none⟩) b l)(R:a.eval s = .slice (some C) e p)(f:List Value)(t:TypeId)(hg:w.heap[g]?=some (.cells f.toArray t (0,0)))(q:List Value)(n:Nat)(u:Nat.min e b=n)(N:q.length=n*i.size)(y:∀j v,q[j]?=some v->w.cell? (C.add j)=some v)(r:k+q.length<=f.length)(I:∀v∈q,v.oneCell'=true)(B:Nat)(H:World)(L:Below B H w)(D:B<=g)(h:∀A,Hid (A.heap[g]?=some (.cells (splice f k q).toArray t (0,0)))->Below B H A->A.heap.size=w.heap.size->wpList P z Q m (a.put o.dst<|goInt n) A) :
 wpList P z Q (o::m) a w:=by
 refine wpList_plain E λK J=>?_;subst u;have x:=zA7 (P:=P) w dT G o.type c g k b l C e p f.toArray t q i S F hg N y (by simpa using r) I
 unfold Oper.wp;simp[execOp,O,resolve,invoke,builtin,M,R,x,Result.andThen];exact J _ _ (by simpa using h _ (show _=_ by simpa [splice] using setRow_heap w g _ _ t _ hg) (below_setRow L D _) (by simp[World.setRow]))
theorem z2W {y:Array Oper}{o:Oper}{a:Act}{w:World}{K:Act->World->Prop}{Q:Exit->Act->World->Prop}{E:Prop}(D:o.guard=none)(d s:Operand)(dT G:TypeId)(N:o.op = .call {callee:=.builtin .copy,args:=#[d,s],argTypes:=#[dT,G]})(c:TypeId)(R:P.underlying dT=some (.slice c))(i:TypeInfo)(F:P.info? c=some i)(g k b l:Nat)(A:Addr)(e m:Nat)(L:a.eval d = .slice (some ⟨g,k,none⟩) b l)(O:a.eval s = .slice (some A) e m)(f:List Value)(t:TypeId)(hg:w.heap[g]?=some (.cells f.toArray t (0,0)))(p:List Value)(n:Nat)(r:Nat.min e b=n)(M:p.length=n*i.size)(x:∀j v,p[j]?=some v->w.cell? (A.add j)=some v)(q:k+p.length<=f.length)(I:∀v∈p,v.oneCell'=true)(B:Nat)(H:World)(J:Below B H w)(C:B<=g)(h:∀z,Hid (z.heap[g]?=some (.cells (splice f k p).toArray t (0,0)))->Below B H z->z.heap.size=w.heap.size->K (a.put o.dst<|goInt n) z) :
 if Region.wanted o (yielded y a.tmps)=true then Oper.wp P o a w K Q else E:=by
 have S:Region.wanted o (yielded y a.tmps)=true:=by simp[Region.wanted,D]
 rw[if_pos S];subst r;have u:=zA7 (P:=P) w dT G o.type c g k b l A e m f.toArray t p i R F hg M x (by simpa using q) I
 unfold Oper.wp;simp[execOp,N,resolve,invoke,builtin,L,O,u,Result.andThen];exact h _ (show _=_ by simpa [splice] using setRow_heap w g _ _ t _ hg) (below_setRow J C _) (by simp[World.setRow])
end
def ze5 (a b:Value):Nat->List Value
 | 0=>[]
 |n+1=>a::b::ze5 a b n
theorem zjA (a b:Value):∀n,(ze5 a b n).length=n*2
 | 0=>rfl
 |n+1=>by simp[ze5,zjA a b n];omega
theorem zvG (a b:Value)(m:Nat):∀n,ze5 a b (n+m)=ze5 a b n++ze5 a b m
 | 0=>by simp[ze5]
 |n+1=>by rw[show n+1+m=n+m+1 by omega];simp[ze5,zvG a b m n]
theorem zJJ {a b v:Value}:∀{n},v∈ze5 a b n->v=a\/v=b
 |n+1,h=>by simp[ze5]at h;rcases h with h|h|h;{exact .inl h};{exact .inr h};{exact zJJ h}
theorem zXv (a b:Value):∀{n j:Nat},j<n->(ze5 a b n)[j*2]?=some a/\(ze5 a b n)[j*2+1]?=some b
 |n+1,0,_=>⟨rfl,rfl⟩
 |n+1,j+1,h=>by have:=zXv a b (n:=n) (j:=j) (by omega);rw[show (j+1)*2=j*2+1+1 by omega];simpa [ze5] using this
def pat (a b c d:Value)(k m:Nat):List Value:=ze5 a b k++ze5 c d m
theorem z0D (a b c d:Value)(k m:Nat):(pat a b c d k m).length=(k+m)*2:=by simp[pat,zjA];omega
theorem zNl (a b c d:Value)(k m r:Nat)(h:r<=m):splice (pat a b c d k m) (k*2) (ze5 a b r)=pat a b c d (k+r) (m-r):=by
 unfold splice pat;have g:m=r+(m-r):=(by omega);have e:(ze5 a b k++ze5 c d m).take (k*2)=ze5 a b k:=by rw[List.take_append_of_le_length (by simp[zjA]),kL (by simp[zjA])]
 have f:(ze5 a b k++ze5 c d m).drop (k*2+(ze5 a b r).length)=ze5 c d (m-r):=by
  rw[<- zjA a b k,List.drop_append,kX (by simp[zjA]),jL,Nat.add_sub_cancel_left];conv=>lhs;rw[g,zvG]
  rw[List.drop_append,kX (by simp[zjA])];simp[zjA]
 rw[e,f,zvG,j4]
theorem zZv {a b c d:Value}{m:Nat}(h:1<=m):splice (pat c d c d 0 m) 0 (ze5 a b 1)=pat a b c d 1 (m-1):=by have:=zNl a b c d 0 m 1 h;simpa [pat,ze5] using this
theorem zbbm (a b c d:Value)(k m r:Nat)(f:r<=k)(j:Nat)(v:Value)(h:(ze5 a b r)[j]?=some v):(pat a b c d k m)[j]?=some v:=by have e:j<(ze5 a b r).length:=(qA.1 h).1;unfold pat;rw[show k=r+(k-r) by omega,zvG,j4,qV e,h]
theorem z7w (c d:Value)(n:Nat):(madeCells #[c,d] (n*2)).toList=ze5 c d n:=by induction n with|zero=>simp[madeCells,ze5,vM]|succ n a=>rw[zvG c d 1 n,<- a];unfold madeCells;rw[show (n+1)*2=n*2+1+1 by omega,Array.range_succ,Array.range_succ];simp[ze5]
theorem zSg:∃i:TypeInfo,Tryz.prog.info? 76=some i/\i.size=2/\i.bytes=16/\i.zero=some (.agg #[.int .i64 0,.int .i64 0]):=by have h:(Tryz.prog.info? 76).map (λi=>(i.size,i.bytes))=some (2,16):=(by kernel_rfl);have a:(Tryz.prog.info? 76).bind (λi=>i.zero)=some (.agg #[.int .i64 0,.int .i64 0]):=(by kernel_rfl);cases b:Tryz.prog.info? 76 with|none=>rw[b]at h;cases h|some i=>rw[b]at h a;simp at h a;exact⟨i,rfl,h.1,h.2,a⟩
theorem z2a (w:World)(l:Nat)(e:l<=24):(Instr.makeSlice 56 (.int .i64 l)<|.int .i64 l).run Tryz.prog w = .ok (.slice (some ⟨w.heap.size,0,none⟩) l l) (w.alloc<|.cells (pat (.int .i64 0) (.int .i64 0) (.int .i64 0) (.int .i64 0) 0 l).toArray 76):=by obtain⟨i,b,c,a,d⟩:=zSg;have:=run_make (P:=Tryz.prog) w 56 76 i _ Tryz.underlying56 b d .i64 .i64 l l (by omega) (by omega) (by rw[a];omega) (by omega);rw[this,c];simp only[kE];rw[show (Value.agg #[.int .i64 0,.int .i64 0]).cells = #[.int .i64 0,.int .i64 0] from by kernel_rfl];simp only[pat,ze5,jL,<- z7w,jQ]
theorem zZw (b a p n:Nat)(f h:Value)(w:World)(Q:1<=n)(B:n<=24)(G:w.cell? ⟨b,a,none⟩=some f)(H:w.cell? ⟨b,a+1,none⟩=some h)(J:b<w.heap.size)(S:f.oneCell'=true)(T:h.oneCell'=true) :
 Calls Tryz.prog 195 #[.slice (some ⟨b,a,none⟩) 1 p,.int .i64 n] w λe z=>∃g,e = .returned (.slice (some ⟨g,0,none⟩) n n)/\w.heap.size<=g/\z.heap[g]?=some (.cells (ze5 f h n).toArray 76 (0,0))/\Below w.heap.size w z:=by
 have P:=λw=>z2a w n B;obtain⟨y,d,t,-,-⟩:=zSg;have s:∀(x:Obj) (j:Nat) (v:Value),(ze5 f h 1)[j]?=some v->(w.alloc x).cell? ((⟨b,a,none⟩:Addr).add j)=some v:=by
  intro x j v m;have q:Below w.heap.size w (w.alloc x):=(Below.refl _ _).alloc (qT _) _;have L:j<2:=(by simpa [ze5] using (qA.1 m).1);have I:(⟨b,a,none⟩:Addr).add j=⟨b,a+j,none⟩:=(by unfold Addr.add;split<;>simp_all);rw[I,q.cell (by exact J)]
  match j,L with
  | 0,_=>cases m;exact G
  | 1,_=>cases m;exact H
 go_enter Tryz.func195,Tryz.ntmps195
 go_wp2_with (go_at_fn 285;refine(zM9 n (by omega) _).mono ?_;rintro e z ⟨rfl,E⟩;rw[E])
 .refine(zM9 n (by omega) _).mono ?_
  rintro e z ⟨rfl,E⟩
  rw[E]
  go_wp2_with (refine zYx rfl (.tmp 31) (.tmp 32) 56 56 rfl 76 Tryz.underlying56 y d w.heap.size 0 n n ⟨b,a,none⟩ 1 p rfl rfl (pat (.int .i64 0) (.int .i64 0) (.int .i64 0) (.int .i64 0) 0 n) 76 (alloc_at _ _) (ze5 f h 1) 1 (by show min 1 n=1;omega) (by rw[t];rfl) (s _) (by simp[ze5,z0D];omega) (by intro v m;rcases zJJ m with rfl|rfl<;>assumption) w.heap.size w ((Below.refl _ _).alloc (qT _) _) (qT _) ?_;intro R c l D)
  rw[zZv (by omega)] at c
  go_loopw [8] (λi wr=>∃k:Nat,1<=k/\k<=n/\i = .int .i64 k/\wr.heap[w.heap.size]?=some (.cells (pat f h (.int .i64 0) (.int .i64 0) k<|n-k).toArray 76 (0,0))/\Below w.heap.size w wr) (λi _=>n-(intOf i).toNat)
  case atStart=>exact⟨1,qT _,Q,rfl,c.out,l⟩
  case round=>
   obtain⟨k,M,N,rfl,A,F⟩:=hrel
   by_cases O:k<n
   .obtain⟨r,hr⟩:∃r,r=min k (n-k):=⟨_,rfl⟩;have K:(k:Int)<=(n:Int):=by omega
    have C:n≠k:=by omega
    have u:IntKind.i64.wrap ((k:Int)+(r:Int))=((k+r:Nat):Int):=by rw[IntKind.wrap_i64];omega
    go_wp2_with fail
    go_region_law (refine z2W rfl (.tmp 41) (.tmp 44) 56 56 rfl 76 Tryz.underlying56 y d w.heap.size (k*2) (n-k) (n-k) ⟨w.heap.size,0,none⟩ k n (by simp[Act.eval,Act.put,C]) (by simp[Act.eval,Act.put]) (pat f h (.int .i64 0) (.int .i64 0) k<|n-k) 76 A (ze5 f h r) r hr.symm (by rw[t,zjA]) (src_of A<|zbbm _ _ _ _ _ _ _ (by omega)) (by simp[zjA,z0D];omega) (by intro v m;rcases zJJ m with rfl|rfl<;>assumption) w.heap.size w (z1a F) (qT _) ?_;intro R c l D)
    go_simp
    go_roundw
    case rel=>
     refine⟨_,_,_,_,_,_,_,_,_,_,_,_,_,_,⟨k+r,by omega,by omega,?_,?_,l⟩,rfl⟩
     .rw [<- hr,u]
     .rw [show n-(k+r)=n-k-r by omega,<- zNl _ _ _ _ _ _ _ (by omega)]
      exact c.out
    case measure=>
     show n-(intOf<|.int .i64<|IntKind.i64.wrap<|(k:Int)+((min k (n-k):Nat):Int)).toNat<n-(intOf<|.int .i64 k).toNat
     rw[<- hr,u];simp only[intOf,kE];omega
   .obtain rfl:k=n:=by omega
    go_wp2
    go_ret
    refine⟨_,rfl,qT _,?_,F⟩;rw[A];simp[pat,ze5]
theorem zZt (w:World):Calls Tryz.prog 163 #[] w λe a=>e = .returned (.agg #[.int .i64<|-1,.int .i64 0])/\Below w.heap.size w a:=by go_enter Tryz.func163,Tryz.ntmps163;go_wp2;refine bodyPost_ret (results_cell_row (by rfl) _ _ w.heap.size 76 #[.int .i64<|-1,.int .i64 0] (0,0) _ rfl (alloc_at _ _) Tryz.underlying76 rfl (by kernel_rfl)) rfl ?_;exact⟨rfl,(Below.refl _ _).alloc (qT _) _⟩
theorem zVe (n:Nat)(w:World)(a:n<=24):Calls Tryz.prog 90 #[.int .i64 n,.int .i64 0,.int .i64 24] w λe b=>e = .returned (.int .i64 n)/\Below w.heap.size w b:=by
 go_enter Tryz.func90,Tryz.ntmps90;go_wp2
 all_goals first
  |omega
  |(go_ret;exact⟨by first|rfl|(congr 3;omega),Below.refl _ _⟩)
theorem zAR (w:World)(c:Array Value)(t:TypeId){i:Nat}{v:Value}(h:c[i]?=some v):(w.alloc<|.cells c t).cell? ⟨w.heap.size,i,none⟩=some v:=by rw[World.cell?_alloc_at (w:=w) c t _ _ rfl,h]
theorem z2X (n:Nat)(w:World)(k:1<=n)(d:n<=24) :
 Calls Tryz.prog 95 #[.int .i64 n] w λe j=>∃g,e = .returned (.slice (some ⟨g,0,none⟩) n n)/\w.heap.size<=g/\j.heap[g]?=some (.cells (ze5 (.int .i64<|-1) (.int .i64 0) n).toArray 76 (0,0))/\Below w.heap.size w j:=by
 go_enter Tryz.func95,Tryz.ntmps95
 go_wp2_with fail
 refine(zZt _).mono ?_
 rintro e h ⟨rfl,c⟩
 go_wp2_with fail
 refine(zVe n _ d).mono ?_
 rintro e l ⟨rfl,a⟩
 go_wp2_with fail
 have b:(h.alloc<|.cells #[.int .i64<|-1,.int .i64 0] 76).heap.size=h.heap.size+1:=by simp
 have m:=c.size;have p:=a.size;rw[b] at p;refine(zZw h.heap.size 0 1 n (.int .i64<|-1) (.int .i64 0) l k d (by rw[a.cell (by show h.heap.size<_;rw[b];omega)];exact zAR _ _ _ rfl) (by rw[a.cell (by show h.heap.size<_;rw[b];omega)];exact zAR _ _ _ rfl) (by omega) rfl rfl).mono ?_
 rintro e q ⟨g,rfl,hg,f,i⟩
 go_wp2
 go_ret
 exact⟨g,rfl,by omega,f,((c.alloc m _).trans (a.mono (by omega))).trans (i.mono (by omega))⟩
@[simp] abbrev zlg (n:Int):Bool:=ile 1 n&&ile n 24
@[simp] abbrev ziH (n:Int):List Slot:=List.replicate n.toNat ⟨-1,0⟩
def zn9:List AV->Option (Bool×List AV)
 |[.one<|.i .i64 n]=>some (zlg n,[.one<|.s .slot<|ziH n])
 |_=>none
theorem zvn:vV 95 zn9:=by
 refine⟨zkm (by kernel_rfl),?_⟩;intro w C B L f a;unfold zn9 at a;split at a
 .rename_i n;simp only[qC,jO,zlg,qE,ile,qX]at a;obtain⟨⟨F,G⟩,rfl⟩:=a;have I:B.length=1:=f.1
  match B,I with
  |[A],_=>
   have D:Rep false w A (.i .i64 n) (λb=>b<w.heap.size):=f.2 0 _ A rfl rfl;obtain rfl:=D.int_inv;obtain⟨m,rfl⟩:∃m:Nat,n=(m:Int):=⟨n.toNat,by omega⟩;refine(z2X m w (by omega) (by omega)).mono ?_;rintro r z ⟨g,rfl,hg,k,l⟩;have H:g<z.heap.size:=(qS.1 k).1;have d:(ziH (m:Int)).length=m:=(by simp);refine⟨⟨l.os,l.tape,l.output,l.size,λb E=>l.block b E⟩,[_],λ_ x=>x=g,zei.o ⟨rfl,λi c x y t=>?_⟩,rfl,Fresh.o ⟨λi x _ h=>⟨by omega,by omega⟩,λi j x p q _ _=>?_⟩⟩
   .cases i with
    |zero=>
     cases y;cases t;have:=Rep.sl (o:=true) (w:=z) .slot (ziH (m:Int)) g 0 m _ _ (0,0) (λ_ j=>if j=0 then .int .i64 (-1) else .int .i64 0) (λ_ _ _=>False) (λx=>x=g) k (λ_=>rfl)
      (by rw[d];unfold big;omega) (by rw[d];exact qT _) (by simp[zjA,Ty.width]) rfl (λi j x _ _ h=>h.elim) (λ_ i j J K x _ _ _ _ h=>h.elim)
      (λi j p q=>by
       rw[d]at p;have s:j<2:=q;have v:=zXv (.int .i64<|-1) (.int .i64 0) p
       match j,s with
       | 0,_=>simpa [show Ty.width .slot=2 from rfl] using v.1
       | 1,_=>simpa [show Ty.width .slot=2 from rfl] using v.2)
      (λi x t j c e=>by
       have u:x=⟨-1,0⟩:=by have:=qJ t;simpa using (uH.1 this).2
       subst u
       match j,e with
       | 0,e=>cases e;exact .i _ _ _
       | 1,e=>cases e;exact .i _ _ _)
     rw[d] at this;exact this
    |succ i=>simp[zF,AV.cvs]at y
   {simp [zF,AV.cvs]at p q;omega}
 {cases a}
end
def z3s:zbd:=[(104,zj9),(118,zj9),(105,zio),(120,zio),(106,zhE),(125,zhE),(107,zhG),(127,zhG),(108,zhF),(129,zhF),(109,zj8),(131,zj8),(111,zji),(133,zji),(113,zj7),(138,zj7),(114,ztR),(115,zr6),(112,zjj),(136,zjj),(95,zn9)]++z9D
theorem zwm:zQ z3s:=zf zwI (zf zwB<|zf zt5<|zf zt3<|zf zte<|zf ztb<|zf ztg<|zf ztd<|zf ztf<|zf ztc<|zf zwG<|zf zwA<|zf zvo<|zf zvi<|zf zwF<|zf zwz<|zf zwH<|zf zvq<|zf zvp<|zf zvj<|zf zvn zH6)
theorem z6b {n:Int}(h:(ieq n 4||ieq n 8)=true):n=4\/n=8:=by rcases jY _ _ ▸ h with h|h;{exact .inl (qD h)};{exact .inr (qD h)}
theorem zSq {n:Int}(h:(ieq n 8||ieq n 12)=true):n=8\/n=12:=by rcases jY _ _ ▸ h with h|h;{exact .inl (qD h)};{exact .inr (qD h)}
@[simp] abbrev zlu (n:Int):Bool:=ieq n 4||ieq n 8
@[simp] abbrev ziN (n:Int):List Slot:=List.replicate n.toNat ⟨-1,0⟩
def zr8:Run:=rF1 dI λb=>(zlu b,[aS .slot<|ziN b])
def zU4 (N:Nat)(b:Int):OA:=
 (oN (zkK b 0 24)<|iter (σ:=(Int×lS×Unit)) N (λc a=>cond (igt a.1 0) (oN zbN<|oN (few<|ln<|ap a.2.1 [zbi])<|c (wsub .i64 a.1 1,ap a.2.1 [zbi],()))<|some [aS .slot a.2.1]) (ziQ b 0 24,[],()))
def zRf:=zq [(198,0,{n:=17,tm:=[(3,.sl 0 []),(4,ti)],lo:=[],ro:=[(0,.slot,true)]})]
theorem zQt (a:Int)(b:zlu a=true):∃N,zU4 N a=some [aS .slot<|ziN a]:=by refine⟨30,?_⟩;have h:a=4\/a=8:=z6b b;rcases h with rfl|rfl<;>(change _=_;kernel_rfl)
theorem zvs:vV 198 zr8:=kF1 zwm zl zn zo zRf zQt
@[simp] abbrev ziJ (n:Int):Bool:=ieq n 8||ieq n 12
@[simp] abbrev ze6 (n:Int):List (List Int):=List.replicate n.toNat [0,0,0,0]
def zlm:Run:=rF1 dI λb=>(ziJ b,[aS (.sl .int)<|ze6 b])
def z04 (N:Nat)(b:Int):OA:=
 (oN (zkK b 0 24)<|iter (σ:=(Int×lM×Unit)) N (λc a=>cond (igt a.1 0) (oN (cond (few 4) (ieq 4 4) false)<|oN (few<|ln<|ap a.2.1 [rp 4 0])<|c (wsub .i64 a.1 1,ap a.2.1 [rp 4 0],()))<|some [aS (.sl .int) a.2.1]) (ziQ b 0 24,[],()))
def zYi:=zq [(98,0,{n:=17,tm:=[(3,.sl 0 []),(4,ti)],lo:=[],ro:=[(0,.sl .int,true)]})]
theorem zWF (a:Int)(b:ziJ a=true):∃N,z04 N a=some [aS (.sl .int)<|ze6 a]:=by refine⟨30,?_⟩;have h:a=8\/a=12:=zSq b;rcases h with rfl|rfl<;>(change _=_;kernel_rfl)
theorem zym:vV 98 zlm:=kF1 zwm zl zn zo zYi zWF
def z03 (N:Nat)(b:Int):OA:=
 (iter (σ:=(Int×Int×lM×Unit)) N (λc a=>oN (zkK a.1 0 24)<|cond (ilt a.2.1<|ziQ a.1 0 24) (oN (cond (few 4) (ieq 4 4) false)<|oN (few<|ln<|ap a.2.2.1 [rp 4 0])<|c (a.1,zN .i64 a.2.1 1,ap a.2.2.1 [rp 4 0],()))<|some [aS (.sl .int) a.2.2.1]) (b,0,[],()))
def zX8:=zq [(29,0,{n:=17,tm:=[(0,ti),(3,.sl 0 []),(4,ti)],lo:=[],ro:=[(0,.sl .int,true)]})]
theorem zWj (a:Int)(b:ziJ a=true):∃N,z03 N a=some [aS (.sl .int)<|ze6 a]:=by refine⟨30,?_⟩;have h:a=8\/a=12:=zSq b;rcases h with rfl|rfl<;>(change _=_;kernel_rfl)
theorem zyk:vV 29 zlm:=kF1 zwm zl zn zo zX8 zWj
def z3t:zbd:=[(198,zr8),(98,zlm),(29,zlm)]++z3s
theorem zCP:zQ z3t:=zf zvs (zf zym<|zf zyk zwm)
def zjO:List Slot:=List.replicate 4 ⟨-1,0⟩
def zdK (p:List Ins):Guest:=⟨p,0,0,zjO,zjO,⟨0,0,false⟩,0,⟨0,0,false,0⟩,false,[]⟩
@[simp] abbrev zhc (p:List Ins):Bool:=pc (p.length<=1048576)
@[simp] abbrev zhW (p:List Ins):Guest:=zdK p
def zjk:Run:=rF1 (dS .ins) λb=>(zhc b,[aT .guest<|zhW b])
def zCp (N:Nat)(a:lI):OA:=
 (oN (few<|ln<|ap [] a)<|oN (zlu 4)<|oN (zlu 4)<|some [aT .guest (⟨ap [] a,0,0,ziN 4,ziN 4,⟨0,0,false⟩,0,⟨0,0,false,0⟩,false,[]⟩:Guest)])
theorem zQk (a:List Ins)(b:zhc a=true):∃N,zCp N a=some [aT .guest<|zhW a]:=by have c:=zD.1 b;refine⟨0,?_⟩;unfold zCp oN;refine mu (must rfl (must rfl ?_));first|rfl|(simp only [*,zhW,zdK,zjO,cT,cF]<;>rfl)|simp_all[Ty.cells,zhW,zdK,zjO]
theorem zvr:vV 99 zjk:=kF1 zCP zl zn zo (zq []) zQk
def zBN (N:Nat)(a:lI):OA:=
 (oN (zqs a)<|oN (zlg 4)<|oN (zlg 4)<|some [aT .guest (⟨znW a,0,0,ziH 4,ziH 4,⟨0,0,false⟩,0,⟨0,0,false,0⟩,false,[]⟩:Guest)])
theorem zPM (a:List Ins)(b:zhc a=true):∃N,zBN N a=some [aT .guest<|zhW a]:=by have c:=zD.1 b;refine⟨0,?_⟩;unfold zBN oN;refine mu (must rfl (must rfl ?_));first|rfl|(simp only [*,zhW,zdK,zjO,cT,cF]<;>rfl)|simp_all[Ty.cells,zhW,zdK,zjO]
theorem zvl:vV 96 zjk:=kF1 zCP zl zn zo (zq []) zPM
def z3u:zbd:=[(99,zjk),(96,zjk)]++z3t
theorem zm2:zQ z3u:=zf zvr (zf zvl zCP)
def ztO:List (List Int):=List.replicate 8 [0,0,0,0]
def zi9 (ps:List (List Ins)):Bare:=⟨ztO,(ps.take 2).map zdK,[],0⟩
def z6k (a:List (List Ins)):Prop:=a.length<=1048576/\∀p∈a,p.length<=1048576
theorem zW1 {c b g:Type}(f:c->b)(K:List b->Option g):∀(l:List c) (i:Nat) (a:List b),a.length+l.length<=2147483648->
 goL (λ_ x a k=>bif few (ln<|ap a [f x]) then k (ap a [f x]) else none) K l i a=K (a++l.map f)
 |[],i,a,_=>by simp[goL]
 |x::l,i,a,e=>by simp only[qU]at e;have d:few (ln<|ap a [f x])=true:=zfE (by simp[ap];omega);simp only[goL,d,cT];rw[zW1 f K l (i+1) (ap a [f x]) (by simp[ap];omega)];simp[ap]
theorem zwQ {d c j:Type}(m:Nat)(f:d->c)(K:List c->Option j):∀(l:List d) (i:Nat) (a:List c),a.length+l.length<=2147483648->
 goL (λ(i:Nat) x a k=>bif ilt (i:Int) (m:Int) then (cond (few<|ln<|ap a [f x]) (k<|ap a [f x]) none) else K a) K l i a=K (a++(l.take<|m-i).map f)
 |[],i,a,_=>by simp[goL]
 |x::l,i,a,g=>by simp only[qU]at g;have e:few (ln<|ap a [f x])=true:=zfE (by simp[ap];omega);by_cases h:i<m;{have b:ilt (i:Int) (m:Int)=true:=qK (by omega);simp only[goL,b,e,cT];rw[zwQ m f K l (i+1) (ap a [f x]) (by simp[ap];omega)];rw[show m-i=m-(i+1)+1 by omega];simp[ap]};{have b:ilt (i:Int) (m:Int)=false:=qH (by omega);simp only[goL,b,cF];rw[show m-i=0 by omega];simp}
theorem z6d {a:Type}{l:List a}{n:Int}{x:a}(h:x∈tk l n):x∈l:=jX (by exact h)
theorem zX3 {a:Type}(l:List a)(m:Nat):tk l (zgR (ln l) (m:Int))=l.take m/\inr 0 (zgR (ln l) (m:Int)) (ln l)=true:=by unfold tk zgR;by_cases h:(m:Int)<ln l;{rw [if_pos h];simp only[ln]at h;exact⟨by rw[kE],qK (by simp only[ln];omega)⟩};{rw [if_neg h];simp only[ln]at h ⊢;refine⟨by rw[kE,kL<|qT _,kL (by omega)],qK (by omega)⟩}
@[simp] abbrev zgi (a:List (List Ins)):Bool:=pc (z6k a)
@[simp] abbrev zD7 (a:List (List Ins)):Bare:=zi9 a
def zBd:Run:=rF1 (dS<|.sl .ins) λb=>(zgi b,[aT .bare<|zD7 b])
def zGo (N:Nat)(e:lP):OA:=
 (oN (ziJ 8)<|iter (σ:=(Int×Int×Int×lP×lM×lG×(List Int)×lM×lG×(List Int)×Unit)) N (λf a=>let b:=a.2.2.2.1;let d:=ap a.2.2.2.2.2.2.2.2.1 [zhW<|ix b a.1 []];let c:=aT .bare (⟨a.2.2.2.2.2.2.2.1,a.2.2.2.2.2.2.2.2.1,a.2.2.2.2.2.2.2.2.2.1,a.2.2.1⟩:Bare); (cond (ilt a.1<|ln b) (cond (ilt a.1 2) (oN (inb a.1<|ln b)<|oN (zhc<|ix b a.1 [])<|oN (few<|ln d)<|f (zN .i64 a.1 1,a.2.1,a.2.2.1,b,a.2.2.2.2.1,a.2.2.2.2.2.1,a.2.2.2.2.2.2.1,a.2.2.2.2.2.2.2.1,d,a.2.2.2.2.2.2.2.2.2.1,()))<|some [c])<|some [c])) (0,0,0,e,[],[],[],ze6 8,[],[],()))
def zUw:=zq [(31,0,{n:=28,tm:=[(0,.sl 0 []),(2,.lp 0 0),(3,.lp 1 0),(4,ti)],lo:=[(0,[.sl 1 [],.sl 2 [],.sl 3 [],ti]),(1,[.sl 4 [],.sl 5 [],.sl 6 [],ti])],ro:=[(0,.sl .ins,false),(1,.sl .int,true),(2,.guest,true),(3,.int,true),(4,.sl .int,true),(5,.guest,true),(6,.int,true)]})]
theorem zTT (a:List lI)(f:zgi a=true):∃N,zGo N a=some [aT .bare<|zD7 a]:=by
 have e:=zD.1 f;have d:=zcu e.1;refine zbX λN c=>?_;unfold zGo oN;conv=>zeta
 refine must rfl ?_;refine(zY a (λi (t:lG)=>((i:Int),0,0,a,[],[],[],ze6 8,t,[],())) _ (λi (x:List Ins) (t:List Guest) h=>bif ilt (i:Int) ((2:Nat):Int) then (cond (few<|ln<|ap t [zdK x]) (h<|ap t [zdK x]) none) else some [AV.agg<|Ty.cells .bare ⟨ztO,t,[],0⟩]) (λ(t:lG)=>some [.agg<|Ty.cells .bare (⟨ze6 8,t,[],0⟩:Bare)]) (λi b t rec=>?_) (λt rec=>?_) _ ([])<|c d.1).trans ?_;{simp only [zbn b,zU b,zbb b,zX b d.1,cT];have g:zhc a[i]=true:=zba (e.2 _<|jA b);simp only[g,cT];rfl};{simp only [zbe,cF]};exact zwQ 2 zdK (λt=>some [AV.agg<|Ty.cells .bare ⟨ztO,t,[],0⟩]) a 0 [] (by simpa using d.2)
theorem zLR:vV 31 zBd:=kF1 zm2 zl zn zo zUw zTT
@[simp] abbrev zkt (a:GAct):Bool:=true
@[simp] abbrev zuS (a:GAct):Bool:=zi a.Kind 1 17
def zxE:Run:=rF1 (dT .act) λb=>(zkt b,[aB<|zuS b])
def zRz (N:Nat)(a:GAct):OA:=
 (oN (zJ a.Kind 1 17)<|some [aB<|zi a.Kind 1 17])
theorem zZb (a:GAct)(b:zkt a=true):∃N,zRz N a=some [aB<|zuS a]:=by refine⟨0,?_⟩;unfold zRz oN;refine must rfl ?_;first|rfl|(simp only [*,zuS,cT,cF]<;>rfl)|simp_all[Ty.cells,zuS]
theorem zAV:vV 101 zxE:=kF1 zm2 zl zn zo (zq []) zZb
@[simp] abbrev zoZ (k:Int):Bool:=true
@[simp] abbrev znz (k:Int):Bool:=zi k 13 17
def zho:Run:=rF1 dI λb=>(zoZ b,[aB<|znz b])
def zGA (N:Nat)(a:Int):OA:=
 (oN (zJ a 13 17)<|some [aB<|zi a 13 17])
theorem zAZ (a:Int)(b:zbE big [aI a])(c:zoZ a=true):∃N,zGA N a=some [aB<|znz a]:=by refine⟨0,?_⟩;unfold zGA oN;refine must rfl ?_;first|rfl|(simp only [*,znz,cT,cF]<;>rfl)|simp_all[Ty.cells,znz]
theorem zqm:vV 59 zho:=hF1 zm2 zl zn zo (zq []) zAZ
@[simp] abbrev zjl (a:GAct):Ctl:=⟨a.X,a.Y,ieq a.Z 1⟩
def zmC:Run:=rF1 (dT .act) λb=>(zkt b,[.agg<|zzo<|zjl b])
def zRA (N:Nat)(a:GAct):OA:=
 (some [.agg [.i .i64 a.X,.i .i64 a.Y,.b<|ieq a.Z 1]])
theorem zG9 (a:GAct)(b:zbE big [aT .act a])(c:zkt a=true):∃N,zRA N a=some [.agg<|zzo<|zjl a]:=by refine⟨0,?_⟩;unfold zRA;first|rfl|(simp only [*,zjl,cT,cF]<;>rfl)|simp_all[Ty.cells,zjl]
theorem zAW:vV 110 zmC:=hF1 zm2 zl zn zo (zq []) zG9
theorem zql:vV 58 zho:=hF1 zm2 zl zn zo (zq []) zAZ
theorem zAT:vV 39 zmC:=hF1 zm2 zl zn zo (zq []) zG9
def z3v:zbd:=[(31,zBd),(101,zxE),(59,zho),(58,zho),(110,zmC),(39,zmC)]++z3u
theorem z3w:zQ z3v:=zf zLR (zf zAV<|zf zqm<|zf zql<|zf zAW<|zf zAT zm2)
end
end Go.Proofs.YtgjpbkhaaiffkaaGreat.E
