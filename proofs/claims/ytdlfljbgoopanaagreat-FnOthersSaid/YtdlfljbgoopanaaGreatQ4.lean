/- What is proved here: a part of the proof that the statement of this claim holds (several texts of wip/, laid together). -/
import Derived.Test.YtdlfljbgoopanaaGreatQ3
namespace Go.Proofs.YtdlfljbgoopanaaGreat.E
open Go
set_option linter.constructorNameAsVariable false
set_option linter.unusedVariables false
set_option maxRecDepth 100000
set_option linter.unusedSimpArgs false
set_option linter.unusedSectionVars false
noncomputable section
theorem hE (h:Host):(⟨h.Memory,h.Mons,h.Buffer,h.IoBuffer⟩:Host)=h:=rfl
def idxs {a:Type}(p:a->Bool):List a->Nat->List Int
 |[],_=>[]
 |x::l,i=>bif p x then (i:Int)::idxs p l (i+1) else idxs p l (i+1)
theorem zvm {a:Type}(p:a->Bool):∀(l:List a) (i:Nat),(idxs p l i).length<=l.length
 |[],_=>qX _
 |x::l,i=>by have:=zvm p l (i+1);simp only[idxs];cases p x<;>simp<;>omega
theorem zrA {b c:Type}(p:b->Bool)(K:List Int->Option c):∀(l:List b) (i:Nat) (a:List Int),a.length+l.length<=2147483648->
 goL (λi x a k=>bif p x then (cond (few<|ln<|ap a [(i:Int)]) (k<|ap a [(i:Int)]) none) else k a) K l i a=K (a++idxs p l i)
 |[],i,a,_=>by simp[goL,idxs]
 |x::l,i,a,h=>by simp only[jB]at h;simp only[goL,idxs];cases p x;{simp only [cF];exact zrA p K l (i+1) a (by omega)};{simp only [cT];rw[zir (by simp[ap];omega),cT,zrA p K l (i+1) _ (by simp[ap];omega)];simp[ap]}
def zxy (p:Nat->Bool):Nat->Nat->List Int
 | 0,_=>[]
 |n+1,i=>bif p i then (i:Int)::zxy p n (i+1) else zxy p n (i+1)
theorem zzQ {b:Type}(p:Nat->Bool)(K:List Int->Option b):∀(n i:Nat) (a:List Int),a.length+n<=2147483648->
 goN (λi a k=>bif p i then (cond (few<|ln<|ap a [(i:Int)]) (k<|ap a [(i:Int)]) none) else k a) K n i a=K (a++zxy p n i)
 | 0,i,a,_=>by simp[goN,zxy]
 |n+1,i,a,h=>by simp only[goN,zxy];cases p i;{simp only [cF];exact zzQ p K n (i+1) a (by omega)};{simp only [cT];rw[zir (by simp[ap];omega),cT,zzQ p K n (i+1) _ (by simp[ap];omega)];simp[ap]}
abbrev zqM (l:List Slot)(_:Int):Bool:=pc (l.length<=2147483648)
abbrev zhr (l:List Slot)(p:Int):List Int:=idxs (λ(s:Slot)=>ieq s.Page p) l 0
def zqw:Run:=rF2 (dS .slot) dI λb c=>(zqM b c,[aS .int<|zhr b c])
def zKi (N:Nat)(c:lS)(d:Int):OA:=
 (iter (σ:=(Int×Int×lS×(List Int)×Unit)) N (λb a=>cond (ilt a.2.1<|ln a.2.2.1) (oN (inb a.2.1<|ln a.2.2.1)<|cond (ieq (ix a.2.2.1 a.2.1 zV).Page a.1) (oN (few<|ln<|ap a.2.2.2.1 [a.2.1])<|b (a.1,zQ .i64 a.2.1 1,a.2.2.1,ap a.2.2.2.1 [a.2.1],()))<|b (a.1,zQ .i64 a.2.1 1,a.2.2.1,a.2.2.2.1,()))<|some [aS .int a.2.2.2.1]) (d,0,c,[],()))
def zXo:=zq [(396,0,{n:=26,tm:=[(0,.sl 0 []),(1,ti),(5,.sl 1 []),(6,ti)],lo:=[],ro:=[(0,.slot,false),(1,.int,true)]})]
theorem zVK (b:List Slot)(a:Int)(g:zbR big [aS .slot b,aI a])(h:zqM b a=true):∃N,zKi N b a=some [aS .int<|zhr b a]:=by have e:=len0 g;have j:=zK.1 h;refine zcE λN d=>?_;unfold zKi oN;refine(zbq b (λi (t:(List Int))=>(a,(i:Int),b,t,())) _ (λi (x:Slot) (t:List Int) f=>bif ieq x.Page a then (cond (few<|ln<|ap t [(i:Int)]) (f<|ap t [(i:Int)]) none) else f t) (λ(t:(List Int))=>some [.one<|.s .int t]) (λi c t rec=>?_) (λt rec=>?_) _ ([])<|d e).trans ?_;{simp only [zbI c,zbm c,zbu c,zbj c e,cT]};{simp only [zbz,cF]};exact zrA (λ(s:Slot)=>ieq s.Page a) _ _ 0 [] (by simpa using j)
theorem zOO:vP 396 zqw:=hF2 zNM zbh zx zo zXo zVK
def zJT (N:Nat)(d:lS)(f:Int):OA:=
 (iter (σ:=(Int×Int×Int×(List Int)×lS×Unit)) N (λe a=>let c:=a.2.2.2.2.1;let b:=a.2.2.1; (cond (ilt b a.2.1) (oN (inb b<|ln c)<|cond (ieq (ix c b zV).Page a.1) (oN (few<|ln<|ap a.2.2.2.1 [b])<|e (a.1,a.2.1,zQ .i64 b 1,ap a.2.2.2.1 [b],c,()))<|e (a.1,a.2.1,zQ .i64 b 1,a.2.2.2.1,c,()))<|some [aS .int a.2.2.2.1])) (f,ln d,0,[],d,()))
def zXd:=zq [(299,0,{n:=26,tm:=[(1,ti),(5,.sl 0 []),(9,.sl 1 []),(10,ti),(11,ti)],lo:=[],ro:=[(0,.int,true),(1,.slot,false)]})]
theorem zVq (a:List Slot)(b:Int)(g:zbR big [aS .slot a,aI b])(h:zqM a b=true):∃N,zJT N a b=some [aS .int<|zhr a b]:=by
 have e:=len0 g;have j:=zK.1 h;refine zcE λN d=>?_;unfold zJT oN;conv=>zeta
 refine(zbq a (λi (t:(List Int))=>(b,ln a,(i:Int),t,a,())) _ (λi (x:Slot) (t:List Int) f=>bif ieq x.Page b then (cond (few<|ln<|ap t [(i:Int)]) (f<|ap t [(i:Int)]) none) else f t) (λ(t:(List Int))=>some [.one<|.s .int t]) (λi c t rec=>?_) (λt rec=>?_) _ ([])<|d e).trans ?_;{simp only [zbI c,zbm c,zbu c,zbj c e,cT]};{simp only [zbz,cF]};exact zrA (λ(s:Slot)=>ieq s.Page b) _ _ 0 [] (by simpa using j)
theorem zOo:vP 299 zqw:=hF2 zNM zbh zx zo zXd zVq
def z8b:zba:=[(396,zqw),(299,zqw)]++ctrW
theorem z5K:zT z8b:=zi zOO (zi zOo zNM)
def z8c:zba:=z8b
theorem z5L:zT z8c:=z5K
def z8d:zba:=z8c
theorem zUo:zT z8d:=z5L
theorem zjA (x y:Int):ine x y = !ieq x y:=rfl
def zeH (l:List Int):Bool:=pc (l.length<=2147483648)
abbrev zeD (l:List Int):List Int:=l
def zyV:Run:=rF1 (dS .int) λb=>(zeH b,[aS .int<|zeD b])
def zCc (N:Nat)(a:List Int):OA:=
 (oN (few<|ln<|ap [] a)<|some [aS .int<|ap [] a])
theorem zPs (a:List Int)(b:zeH a=true):∃N,zCc N a=some [aS .int<|zeD a]:=by refine⟨0,?_⟩;unfold zCc oN;rw[zoh,zir<|zK.1 b,cT]
theorem zIe:vP 205 zyV:=kF1 zUo zbh zx zo (zq []) zPs
def z8e:zba:=[(205,zyV)]++z8d
theorem zHA:zT z8e:=zi zIe zUo
def zAy:List Int:=rp 4 0
def zc5 (m:List (List Int))(p:Int):List Int:=bif hasB p (ln m) then ix m p [] else zAy
def zfG (m:List (List Int))(_:Int):Bool:=pc (CVB sm<|.s (.sl .int) m)
def zhq (m:List (List Int))(p:Int):List Int:=zc5 m p
theorem z4u {m:List (List Int)}{p:Int}(b:CVB sm (.s (.sl .int) m))(a:hasB p (ln m)=true):(ix m p []).length<=2147483648 :=
 (zda (b.inv.2 _ (zbM a ([]:List Int)) (.s .int _) (qF.2 rfl)).len).2
def zqo:Run:=rF2 (dS<|.sl .int) dI λb c=>(zfG b c,[aS .int<|zhq b c])
def zJ7 (N:Nat)(a:lM)(b:Int):OA:=
 (oN (zM b 0<|wsub .i64 (ln a) 1)<|cond (nB<|zl b 0<|wsub .i64 (ln a) 1) (oN (cond (few 4) (ieq 4 4) false)<|some [aS .int<|rp 4 0])<|oN (inb b<|ln a)<|oN (few<|ln<|ap []<|ix a b [])<|some [aS .int<|ap []<|ix a b []])
theorem zVB (b:List (List Int))(a:Int)(f:zfG b a=true):∃N,zJ7 N b a=some [aS .int<|zhq b a]:=by have d:=zK.1 f;refine⟨0,?_⟩;unfold zJ7 zhq zc5 oN nB;have e:zl a 0 (wsub .i64 (ln b) 1)=hasB a (ln b):=zzZ (zda d.len).1 a;rw[e];cases c:hasB a (ln b);{rfl};{simp only [zM,cT,cF,zB c,zoh,zir<|z4u d c]}
theorem zOE:vP 174 zqo:=kF2 zHA zbh zx zo (zq []) zVB
def zJJ (N:Nat)(a:lM)(b:Int):OA:=
 (oN (zbl b<|ln a)<|cond (nB<|zch b<|ln a) (oN (cond (few 4) (ieq 4 4) false)<|some [aS .int<|rp 4 0])<|oN (inb b<|ln a)<|oN (zeH<|ix a b [])<|some [aS .int<|zeD<|ix a b []])
theorem zVf (a:List (List Int))(b:Int)(d:zfG a b=true):∃N,zJJ N a b=some [aS .int<|zhq a b]:=by have e:=zK.1 d;refine⟨0,?_⟩;unfold zJJ zhq zc5 zch oN nB;cases c:hasB b (ln a);{rfl};{simp only [zbl,cT,cF,zB c,show zeH (ix a b [])=true from zbi (z4u e c),zeD]}
theorem zOd:vP 173 zqo:=kF2 zHA zbh zx zo (zq []) zVf
def z8f:zba:=[(174,zqo),(173,zqo)]++z8e
theorem zHB:zT z8f:=zi zOE (zi zOd zHA)
def zc0 (h:Host)(m p:Int):List Int :=
 bif hasB m (ln h.Mons) then (cond (hasB p 8) (cond (ine (zbK (ix h.Mons m zh).Outer p).Page<|-1) (zc5 h.Memory (zbK (ix h.Mons m zh).Outer p).Page)<|zc5 (ix h.Mons m zh).Out p) zAy) else zAy
theorem has8 (p:Int):zl p 0 7=hasB p 8:=by unfold zl ige ile hasB;by_cases a:0<=p<;>by_cases b:p<8;{rw [qJ (p:=p≥0) (by omega),qJ (p:=p<=7) (by omega),qJ (p:=0<=p/\p<8) ⟨a,b⟩];rfl};{rw [qH (p:=p<=7) (by omega),qH (p:=0<=p/\p<8) (by omega)];simp};{rw [qH (p:=p≥0) (by omega),qH (p:=0<=p/\p<8) (by omega)];simp};{rw [qH (p:=p≥0) (by omega),qH (p:=0<=p/\p<8) (by omega)];simp}
def zqK (h:Host)(_ _:Int):Bool:=pc (zdP h)
def zpk (h:Host)(m p:Int):List Int:=zc0 h m p
def zmX:Run:=rF3 dH dI dI λb c d=>(zqK b c d,[aS .int<|zpk b c d])
def zJ9 (N:Nat)(a:Host)(c b:Int):OA:=
 let d:=ix a.Mons c zh;let e:=(zeU d.Outer b).Page; (oN (zM c 0<|wsub .i64 (ln a.Mons) 1)<|cond (nB<|zl c 0<|wsub .i64 (ln a.Mons) 1) (oN (cond (few 4) (ieq 4 4) false)<|some [aS .int<|rp 4 0])<|oN (zM b 0 7)<|cond (nB<|zl b 0 7) (oN (cond (few 4) (ieq 4 4) false)<|some [aS .int<|rp 4 0])<|oN (inb c<|ln a.Mons)<|oN (zgd d.Outer b)<|cond (ine e<|-1) (oN (zfG a.Memory e)<|some [aS .int<|zhq a.Memory e])<|oN (zfG d.Out b)<|some [aS .int<|zhq d.Out b])
theorem zVD (a:Host)(b c:Int)(g:zqK a b c=true):∃N,zJ9 N a b c=some [aS .int<|zpk a b c]:=by
 have d:=zK.1 g;refine⟨0,?_⟩;unfold zJ9 zpk zc0 oN nB;conv=>zeta
 have e:zl b 0 (wsub .i64 (ln a.Mons) 1)=hasB b (ln a.Mons):=zzZ (zda d.mons.len).1 b;rw[e,has8];cases f:hasB b (ln a.Mons);{rfl};{cases i:hasB c 8;{rfl};{have h:CVB sm (.s (.sl .int) (ix a.Mons b zh).Out):=d.mons.inv.2 _ (zbM f zh) (.s (.sl .int) _) (by simp[Ty.cells]);simp only[zM,cT,cF,zB f,zgd,zeU,show ∀p,zfG a.Memory p=true from λp=>zbi d.mem,show ∀p,zfG (ix a.Mons b zh).Out p=true from λp=>zbi h,zhq];cases ine (zbK (ix a.Mons b zh).Outer c).Page (-1)<;>rfl}}
theorem zys:vP 93 zmX:=kF3 zHB zbh zx zo (zq []) zVD
def zJL (N:Nat)(a:Host)(c b:Int):OA:=
 let d:=ix a.Mons c zh;let e:=(zeU d.Outer b).Page; (oN (zbl c<|ln a.Mons)<|cond (nB<|zch c<|ln a.Mons) (oN (cond (few 4) (ieq 4 4) false)<|some [aS .int<|rp 4 0])<|oN (zbl b 8)<|cond (nB<|zch b 8) (oN (cond (few 4) (ieq 4 4) false)<|some [aS .int<|rp 4 0])<|oN (inb c<|ln a.Mons)<|oN (zgd d.Outer b)<|cond (ine e<|-1) (oN (zfG a.Memory e)<|some [aS .int<|zhq a.Memory e])<|oN (zfG d.Out b)<|some [aS .int<|zhq d.Out b])
theorem zVh (a:Host)(b c:Int)(f:zqK a b c=true):∃N,zJL N a b c=some [aS .int<|zpk a b c]:=by
 have e:=zK.1 f;refine⟨0,?_⟩;unfold zJL zpk zc0 zch oN nB;conv=>zeta
 cases d:hasB b (ln a.Mons);{rfl};{cases h:hasB c 8;{rfl};{have g:CVB sm (.s (.sl .int) (ix a.Mons b zh).Out):=e.mons.inv.2 _ (zbM d zh) (.s (.sl .int) _) (by simp[Ty.cells]);simp only[zbl,cT,cF,zB d,zgd,zeU,show ∀p,zfG a.Memory p=true from λp=>zbi e.mem,show ∀p,zfG (ix a.Mons b zh).Out p=true from λp=>zbi g,zhq];cases ine (zbK (ix a.Mons b zh).Outer c).Page (-1)<;>rfl}}
theorem zOf:vP 92 zmX:=kF3 zHB zbh zx zo (zq []) zVh
def z8g:zba:=[(93,zmX),(92,zmX)]++z8f
theorem z5M:zT z8g:=zi zys (zi zOf zHB)
def z8h:zba:=z8g
theorem z5N:zT z8h:=z5M
def ctrV:zba:=z8h
theorem zbac:∀f a,zA ctrV f=some a->Holds Tryz.prog f a:=z5N
def ctrU:zba:=ctrV
theorem zd1:zT ctrU:=zbac
def zp3:ziu:=z6B
theorem zn:zgK zp3:=zbh
def canRun (g:Guest):Bool:=bif (ieq g.Exit.Kind 0&&(ieq g.Exit.Page 0&&(zo9 g.Exit.Write false&&ieq g.Exit.N 0))) then !g.Halted else false
def zur (_:Guest):Bool:=true
abbrev zpi (g:Guest):Bool:=canRun g
def zqh:Run:=rF1 (dT .guest) λb=>(zur b,[aB<|zpi b])
def zJX (N:Nat)(a:Guest):OA:=
 (cond (cond (ieq a.Exit.Kind 0) (cond (ieq a.Exit.Page 0) (cond (zo9 a.Exit.Write false) (ieq a.Exit.N 0) false) false) false) (some [aB<|nB a.Halted]) oF)
theorem zDt (a:Guest)(b:zbR big [aT .guest a])(c:zur a=true):∃N,zJX N a=some [aB<|zpi a]:=by refine⟨0,?_⟩;unfold zJX zpi canRun nB;cases ieq a.Exit.Kind 0<;>cases ieq a.Exit.Page 0<;>cases zo9 a.Exit.Write false<;>cases ieq a.Exit.N 0<;>simp
theorem zOu:vP 364 zqh:=hF1 zuD zbh zx zo (zq []) zDt
theorem zN1:vP 211 zqh:=hF1 zuD zbh zx zo (zq []) zDt
theorem must {d:Type}{c:Bool}{a b r:Option d}(h:c=true)(k:a=r):(cond c a b)=r:=by rw[h];exact k
theorem mu {d:Type}{c:Bool}{a b r:Option d}(k:a=r)(h:c=true:=by first|assumption|(simp_all<;>omega)):(cond c a b)=r:=must h k
theorem zci {d:Type}{c:Bool}{a b r:Option d}(h:c=false)(k:b=r):(cond c a b)=r:=by rw[h];exact k
theorem br {f:Type}{c:Bool}{a b r:Option f}(d:c=true->a=r)(e:c=false->b=r):(cond c a b)=r:=by cases c;{exact e rfl};{exact d rfl}
theorem brN {f:Type}{c:Bool}{a b r:Option f}(d:c=false->a=r)(e:c=true->b=r):(cond (cond c false true) a b)=r:=by cases c;{exact d rfl};{exact e rfl}
theorem shr {a b:Type}{x:a}{f:a->Option b}{r:Option b}(h:f x=r):share x f=r:=h
theorem zj3 {e:Type}{c p:Bool}{a b:Option e}(d:c=true):(cond c (cond (cond p false true) a b) none)=bif p then b else a:=by rw[d];cases p<;>rfl
attribute [simp] zK
@[simp] theorem zbao {a:Type}(l:List a):(few (ln l)=true)↔l.length<=2147483648:=by unfold few ln;rw[decide_eq_true_iff];omega
@[simp] theorem zbdl {a:Type}(l m:List a):(ap l m).length=l.length+m.length:=by simp[ap]
attribute [simp] zoh zgv
@[simp] theorem z8R (n:Nat)(k:IntKind)(x:Int):CVB n (.i k x)↔True:=⟨λ_=>trivial,λ_=>.i k x⟩
@[simp] theorem zbdp (n:Nat)(x:Bool):CVB n (.b x)↔True:=⟨λ_=>trivial,λ_=>.b x⟩
theorem znp {n:Nat}{t:Ty}(l:List t.den):CVB n (.s t l)↔l.length<=n/\∀x∈l,∀c∈t.cells x,CVB n c:=⟨λh=>h.inv,λh=>.s t l h.1 h.2⟩
@[simp] theorem zZj (n:Nat)(l:List Int):CVB n (.s .int l)↔l.length<=n:=by rw[znp];simp[Ty.cells]
@[simp] theorem zbbH (n:Nat)(l:List Int):CVB n (.s .u8 l)↔l.length<=n:=by rw[znp];simp[Ty.cells]
@[simp] theorem z6a (n:Nat)(l:List Bool):CVB n (.s .bool l)↔l.length<=n:=by rw[znp];simp[Ty.cells]
@[simp] theorem z6c (n:Nat)(l:List Slot):CVB n (.s .slot l)↔l.length<=n:=by rw[znp];simp[Ty.cells]
@[simp] theorem zbae (n:Nat)(l:List Ins):CVB n (.s .ins l)↔l.length<=n:=by rw[znp];simp[Ty.cells]
@[simp] theorem z3f (n:Nat)(l:List Entry):CVB n (.s .entry l)↔l.length<=n:=by rw[znp];simp[Ty.cells]
@[simp] theorem zbad (n:Nat)(l:List GAct):CVB n (.s .act l)↔l.length<=n:=by rw[znp];simp[Ty.cells]
@[simp] theorem z6d (n:Nat)(l:List Told):CVB n (.s .told l)↔l.length<=n:=by rw[znp];simp[Ty.cells]
def SmM (m:List (List Int)):Prop:=m.length<=1048576/\∀x∈m,x.length<=1048576
def SmG (g:Guest):Prop:=g.Prog.length<=1048576/\g.Written.length<=1048576/\g.Live.length<=1048576/\g.Seen.length<=1048576
def zmt (l:List Guest):Prop:=l.length<=1048576/\∀x∈l,SmG x
def SmB (b:Bare):Prop:=SmM b.Memory/\zmt b.Guests/\b.Outs.length<=1048576
def zZ9 (l:List Bare):Prop:=l.length<=1048576/\∀x∈l,SmB x
theorem z7o:sm=1048576:=rfl
@[simp] theorem z0A (l:List Int):CVB sm (.s .int l)↔l.length<=1048576:=zZj sm l
@[simp] theorem zbcX (l:List Int):CVB sm (.s .u8 l)↔l.length<=1048576:=zbbH sm l
@[simp] theorem zXM (l:List Bool):CVB sm (.s .bool l)↔l.length<=1048576:=z6a sm l
@[simp] theorem zXN (l:List Slot):CVB sm (.s .slot l)↔l.length<=1048576:=z6c sm l
@[simp] theorem zbcy (l:List Ins):CVB sm (.s .ins l)↔l.length<=1048576:=zbae sm l
@[simp] theorem zUy (l:List Entry):CVB sm (.s .entry l)↔l.length<=1048576:=z3f sm l
@[simp] theorem zbcx (l:List GAct):CVB sm (.s .act l)↔l.length<=1048576:=zbad sm l
@[simp] theorem zbcg (l:List Told):CVB sm (.s .told l)↔l.length<=1048576:=z6d sm l
@[simp] theorem zrv (l:List (List Int)):CVB sm (.s (.sl .int) l)↔SmM l:=by rw[znp];simp[Ty.cells,SmM,z7o]
@[simp] theorem z9Q (g:Guest):(∀c∈Ty.cells .guest g,CVB sm c)↔SmG g:=by simp[Ty.cells,SmG,z7o]
@[simp] theorem zwi (l:List Guest):CVB sm (.s .guest l)↔zmt l:=by rw[znp];simp only[z9Q];rfl
@[simp] theorem z9P (b:Bare):(∀c∈Ty.cells .bare b,CVB sm c)↔SmB b:=by simp only[Ty.cells,qG,qN,or_false,vL,forall_eq,zrv,zwi,zZj,z8R,and_true];rfl
@[simp] theorem zbc1 (l:List Bare):CVB sm (.s .bare l)↔zZ9 l:=by rw[znp];simp only[z9P];rfl
@[simp] theorem zbdo (a:List Ins)(b c:Int)(d e:List Slot)(f:Ctl)(g:Int)(h:GExit)(i:Bool)(j:List Int):SmG ⟨a,b,c,d,e,f,g,h,i,j⟩↔a.length<=1048576/\d.length<=1048576/\e.length<=1048576/\j.length<=1048576:=Iff.rfl
@[simp] theorem zbdn (m:List (List Int))(g:List Guest)(o:List Int)(p:Int):SmB ⟨m,g,o,p⟩↔SmM m/\zmt g/\o.length<=1048576:=Iff.rfl
theorem zNb {m:List (List Int)}{i:Int}{x:List Int}(h:SmM m)(b:x.length<=1048576):SmM (up m i x):=by refine⟨by simpa using h.1,λy a=>?_⟩;rcases qZ a with a|rfl;{exact h.2 y a};{exact b}
theorem zEM {m:List Guest}{i:Int}{x:Guest}(h:zmt m)(b:SmG x):zmt (up m i x):=by refine⟨by simpa using h.1,λy a=>?_⟩;rcases qZ a with a|rfl;{exact h.2 y a};{exact b}
theorem zbaY {m:List Bare}{i:Int}{x:Bare}(h:zZ9 m)(b:SmB x):zZ9 (up m i x):=by refine⟨by simpa using h.1,λy a=>?_⟩;rcases qZ a with a|rfl;{exact h.2 y a};{exact b}
theorem zWR {l:List Guest}{i:Int}(h:zmt l)(a:hasB i (ln l)=true)(d:Guest):SmG (ix l i d):=h.2 _ (zbM a d)
theorem zbcb {l:List (List Int)}{i:Int}(h:SmM l)(a:hasB i (ln l)=true)(d:List Int):(ix l i d).length<=1048576:=h.2 _ (zbM a d)
@[simp] theorem zbcQ:SmG zy:=⟨by decide,by decide,by decide,by decide⟩
@[simp] theorem zTU (x a b:Int):zl x a b=zl x a b:=rfl
@[simp] theorem zU2 (i n:Int):inb i n=hasB i n:=rfl
attribute [simp] zch
@[simp] theorem zrW {a:Type}{l:List a}(h:l.length<=1048576)(i:Int):zl i 0 (wsub .i64 (ln l) 1)=hasB i (ln l):=zDr (zda h).1 i
theorem zJA {a:Type}{l:List a}(h:l.length<=big)(i:Int):zl i 0 (wsub .i64 (ln l) 1)=hasB i (ln l):=zDr h i
theorem zfT {x a b:Int}:(zl x a b=true)↔a<=x/\x<=b:=by unfold zl ige ile;simp only[qE,decide_eq_true_iff]
theorem zbav (a b:Int):ilt a b = !ige a b:=by unfold ilt ige;by_cases h:a<b;{rw [qJ h,qH (by omega)];rfl};{rw [qH h,qJ (by omega)];rfl}
attribute [simp] zbk zbk zhF zhF zhY zhY zdr zdr zeU zeU zpi zpi zbV zbV
attribute [simp] zfW zdT zhL zeD
attribute [simp] zhI zeq zha zeH
def zbn (a:Int):Int:=bif ilt a 0 then -1 else zXA .i64 a 4
def zd7 (a:Int):Int:=bif ilt a 0 then -1 else zrh a 4
@[simp] abbrev zbQ (a:Int):Bool:=true
@[simp] abbrev zby (a:Int):Int:=zbn a
def znI:Run:=rF1 dI λb=>(zbQ b,[aI<|zby b])
def zCk (N:Nat)(a:Int):OA:=
 (cond (ilt a 0) (some [aI<|-1])<|oN (ine 4 0)<|some [aI<|zXA .i64 a 4])
theorem zyz (a:Int)(b:zbR big [aI a])(c:zbQ a=true):∃N,zCk N a=some [aI<|zby a]:=by refine⟨0,?_⟩;unfold zCk oN;refine br (λ_=>?_) (λ_=>must rfl ?_);all_goals first|rfl|(simp only [*,zby,zbn,cT,cF]<;>rfl)|simp_all[Ty.cells,zby,zbn]
theorem zIl:vP 354 znI:=hF1 zd1 zn zx zo (zq []) zyz
theorem zHW:vP 133 znI:=hF1 zd1 zn zx zo (zq []) zyz
@[simp] abbrev zc7 (a:Int):Int:=zd7 a
def znH:Run:=rF1 dI λb=>(zbQ b,[aI<|zc7 b])
def zCj (N:Nat)(a:Int):OA:=
 (cond (ilt a 0) (some [aI<|-1])<|oN (ine 4 0)<|some [aI<|zrh a 4])
theorem zyy (a:Int)(b:zbR big [aI a])(c:zbQ a=true):∃N,zCj N a=some [aI<|zc7 a]:=by refine⟨0,?_⟩;unfold zCj oN;refine br (λ_=>?_) (λ_=>must rfl ?_);all_goals first|rfl|(simp only [*,zc7,zd7,cT,cF]<;>rfl)|simp_all[Ty.cells,zc7,zd7]
theorem zIk:vP 355 znH:=hF1 zd1 zn zx zo (zq []) zyy
theorem zHV:vP 138 znH:=hF1 zd1 zn zx zo (zq []) zyy
def zcv (w:Bool):Int:=bif w then 2 else 1
@[simp] abbrev zlz (w:Bool):Bool:=true
@[simp] abbrev zdF (w:Bool):Int:=zcv w
def zqn:Run:=rF1 dB λb=>(zlz b,[aI<|zdF b])
def zJ6 (N:Nat)(a:Bool):OA:=
 (cond a (some [aI 2])<|some [aI 1])
theorem zDw (a:Bool)(b:zbR big [aB a])(c:zlz a=true):∃N,zJ6 N a=some [aI<|zdF a]:=by refine⟨0,?_⟩;unfold zJ6;refine br (λ_=>?_) (λ_=>?_);all_goals first|rfl|(simp only [*,zdF,zcv,cT,cF]<;>rfl)|simp_all[Ty.cells,zdF,zcv]
theorem zOD:vP 371 zqn:=hF1 zd1 zn zx zo (zq []) zDw
theorem zOb:vP 134 zqn:=hF1 zd1 zn zx zo (zq []) zDw
def zsS (p:Int)(w:Bool):GExit:=⟨1,p,w,0⟩
def zu1 (n:Int):GExit:=⟨2,0,false,n⟩
def zyI (n:Int):GExit:=⟨3,0,false,n⟩
@[simp] abbrev zg6 (p:Int)(w:Bool):Bool:=true
@[simp] abbrev ze5 (p:Int)(w:Bool):GExit:=zsS p w
def zjS:Run:=rF2 dI dB λb c=>(zg6 b c,[.agg<|zgw<|ze5 b c])
def zAP (N:Nat)(a:Int)(c:Bool):OA:=
 (some [.agg [.i .i64 1,.i .i64 a,.b c,.i .i64 0]])
theorem zwD (a:Int)(b:Bool)(c:zbR big [aI a,aB b])(d:zg6 a b=true):∃N,zAP N a b=some [.agg<|zgw<|ze5 a b]:=by refine⟨0,?_⟩;unfold zAP;first|rfl|(simp only [*,ze5,cT,cF]<;>rfl)|simp_all[Ty.cells,ze5]
theorem ztW:vP 312 zjS:=hF2 zd1 zn zx zo (zq []) zwD
theorem zES:vP 136 zjS:=hF2 zd1 zn zx zo (zq []) zwD
@[simp] abbrev zfl (n:Int):Bool:=true
@[simp] abbrev zfd (n:Int):GExit:=zu1 n
def zkI:Run:=rF1 dI λb=>(zfl b,[.agg<|zgw<|zfd b])
def zCn (N:Nat)(a:Int):OA:=
 (some [.agg [.i .i64 2,.i .i64 0,.b false,.i .i64 a]])
theorem zyA (a:Int)(b:zbR big [aI a])(c:zfl a=true):∃N,zCn N a=some [.agg<|zgw<|zfd a]:=by refine⟨0,?_⟩;unfold zCn;first|rfl|(simp only [*,zfd,cT,cF]<;>rfl)|simp_all[Ty.cells,zfd]
theorem zvg:vP 313 zkI:=hF1 zd1 zn zx zo (zq []) zyA
theorem zHY:vP 229 zkI:=hF1 zd1 zn zx zo (zq []) zyA
@[simp] abbrev zgq (n:Int):GExit:=zyI n
def zlS:Run:=rF1 dI λb=>(zfl b,[.agg<|zgw<|zgq b])
def zGm (N:Nat)(a:Int):OA:=
 (some [.agg [.i .i64 3,.i .i64 0,.b false,.i .i64 a]])
theorem zA4 (a:Int)(b:zbR big [aI a])(c:zfl a=true):∃N,zGm N a=some [.agg<|zgw<|zgq a]:=by refine⟨0,?_⟩;unfold zGm;first|rfl|(simp only [*,zgq,cT,cF]<;>rfl)|simp_all[Ty.cells,zgq]
theorem zwB:vP 314 zlS:=hF1 zd1 zn zx zo (zq []) zA4
theorem zLe:vP 306 zlS:=hF1 zd1 zn zx zo (zq []) zA4
def zet (t x:Int):Bool:=bif zl t 0 3 then (cond (zl x 1 2) (ine (wand .i64 t x) 0) false) else false
theorem z9F (x:Int):zl x 1 2=(ieq x 1||ieq x 2):=by have h:(zl x 1 2=true)↔(ieq x 1||ieq x 2)=true:=(by rw[zfT];simp only[ieq,jW,qL];omega);cases a:zl x 1 2<;>cases b:(ieq x 1||ieq x 2)<;>simp_all
@[simp] abbrev zgC (t x:Int):Bool:=true
@[simp] abbrev zfV (t x:Int):Bool:=zet t x
def zoO:Run:=rF2 dI dI λb c=>(zgC b c,[aB<|zfV b c])
def zGe (N:Nat)(a b:Int):OA:=
 (oN (zM a 0 3)<|cond (zl a 0 3) (oN (zM b 1 2)<|cond (zl b 1 2) (some [aB<|ine (wand .i64 a b) 0]) oF) oF)
theorem zSR (a b:Int)(c:zgC a b=true):∃N,zGe N a b=some [aB<|zfV a b]:=by refine⟨0,?_⟩;unfold zGe oN;refine must rfl (br (λ_=>must rfl (br (λ_=>?_) λ_=>?_)) λ_=>?_);all_goals first|rfl|(simp only [*,zfV,zet,cT,cF]<;>rfl)|simp_all[Ty.cells,zfV,zet]
theorem zLs:vP 394 zoO:=kF2 zd1 zn zx zo (zq []) zSR
def zFS (N:Nat)(a b:Int):OA:=
 let c:=aB<|ine (wand .i64 a b) 0; (oN (zM a 0 3)<|cond (zl a 0 3) (cond (ieq b 1) (some [c])<|cond (ieq b 2) (some [c]) oF) oF)
theorem zSx (a b:Int)(c:zgC a b=true):∃N,zFS N a b=some [aB<|zfV a b]:=by
 refine⟨0,?_⟩;unfold zFS oN;conv=>zeta
 refine must rfl (br (λ_=>br (λ_=>?_) λ_=>br (λ_=>?_) λ_=>?_) λ_=>?_);all_goals first|rfl|(simp only [*,zfV,zet,z9F,cT,cF]<;>rfl)|simp_all[Ty.cells,zfV,zet,z9F]
theorem zK8:vP 230 zoO:=kF2 zd1 zn zx zo (zq []) zSx
def zee (p:Int):Bool:=zl p 0 255
@[simp] abbrev zcl (p:Int):Bool:=true
@[simp] abbrev zeT (p:Int):Bool:=zee p
def zqr:Run:=rF1 dI λb=>(zcl b,[aB<|zeT b])
def zKb (N:Nat)(a:Int):OA:=
 (oN (zM a 0 255)<|some [aB<|zl a 0 255])
theorem zDy (a:Int)(b:zbR big [aI a])(c:zcl a=true):∃N,zKb N a=some [aB<|zeT a]:=by refine⟨0,?_⟩;unfold zKb oN;refine must rfl ?_;first|rfl|(simp only [*,zeT,zee,cT,cF]<;>rfl)|simp_all[Ty.cells,zeT,zee]
theorem zOH:vP 193 zqr:=hF1 zd1 zn zx zo (zq []) zDy
theorem zOh:vP 188 zqr:=hF1 zd1 zn zx zo (zq []) zDy
def zcK (l:List Ins)(p:Int):Ins:=bif hasB p (ln l) then ix l p zsK else ⟨7,0⟩
@[simp] abbrev zef (l:List Ins)(p:Int):Bool:=true
@[simp] abbrev zea (l:List Ins)(p:Int):Ins:=zcK l p
def zsk:Run:=rF2 (dS .ins) dI λb c=>(zef b c,[aT .ins<|zea b c])
def zQL (N:Nat)(a:lI)(b:Int):OA:=
 (oN (zM b 0<|wsub .i64 (ln a) 1)<|cond (nB<|zl b 0<|wsub .i64 (ln a) 1) (some [.agg [.i .i64 7,.i .i64 0]])<|oN (inb b<|ln a)<|some [.agg [.i .i64 (ix a b zsK).Op,.i .i64 (ix a b zsK).X]])
theorem zYf (a:List Ins)(b:Int)(c:zbR big [aS .ins a,aI b])(e:zef a b=true):∃N,zQL N a b=some [aT .ins<|zea a b]:=by have d:=((zdY c).1 _ (qF.2 rfl)).len;have f:=zJA d;refine⟨0,?_⟩;unfold zQL oN nB;refine must rfl (brN (λ_=>?_) λ_=>mu ?_);all_goals first|rfl|(simp only [*,zea,zcK,cT,cF]<;>rfl)|simp_all[Ty.cells,zea,zcK]
theorem zSf:vP 366 zsk:=hF2 zd1 zn zx zo (zq []) zYf
def zQA (N:Nat)(a:lI)(b:Int):OA:=
 (oN (zbl b<|ln a)<|cond (nB<|zch b<|ln a) (some [.agg [.i .i64 7,.i .i64 0]])<|oN (inb b<|ln a)<|some [.agg [.i .i64 (ix a b zsK).Op,.i .i64 (ix a b zsK).X]])
theorem zX5 (a:List Ins)(b:Int)(c:zef a b=true):∃N,zQA N a b=some [aT .ins<|zea a b]:=by refine⟨0,?_⟩;unfold zQA oN nB;refine must rfl (brN (λ_=>?_) λ_=>mu ?_);all_goals first|rfl|(simp only [*,zea,zcK,cT,cF]<;>rfl)|simp_all[Ty.cells,zea,zcK]
theorem zR2:vP 213 zsk:=kF2 zd1 zn zx zo (zq []) zX5
def zgu (w:Int):Int:=bif ieq w 5 then 1 else 2
@[simp] abbrev zp0 (w:Int):Bool:=true
@[simp] abbrev zi4 (w:Int):Int:=zgu w
def zDR:Run:=rF1 dI λb=>(zp0 b,[aI<|zi4 b])
def zJV (N:Nat)(a:Int):OA:=
 (cond (ieq a 5) (some [aI 1])<|some [aI 2])
theorem zVs (a:Int)(b:zp0 a=true):∃N,zJV N a=some [aI<|zi4 a]:=by refine⟨0,?_⟩;unfold zJV;refine br (λ_=>?_) (λ_=>?_);all_goals first|rfl|(simp only [*,zi4,zgu,cT,cF]<;>rfl)|simp_all[Ty.cells,zi4,zgu]
theorem zOr:vP 219 zDR:=kF1 zd1 zn zx zo (zq []) zVs
def zeP (s:Slot)(n:Int):Bool:=bif zdJ s noSlot then true else (cond (igt n 0) (cond (zl s.Page 0<|wsub .i64 n 1) (zl s.Rights 1 3) false) false)
@[simp] abbrev zlB (s:Slot)(n:Int):Bool:=true
@[simp] abbrev zjg (s:Slot)(n:Int):Bool:=zeP s n
def zqv:Run:=rF2 (dT .slot) dI λb c=>(zlB b c,[aB<|zjg b c])
def zKf (N:Nat)(a:Slot)(b:Int):OA:=
 (oN zbV<|cond (cond (ieq a.Page zbk.Page) (ieq a.Rights zbk.Rights) false) oT<|oN (zM a.Page 0<|wsub .i64 b 1)<|cond (zl a.Page 0<|wsub .i64 b 1) (cond (igt b 0) (oN (zM a.Rights 1 3)<|some [aB<|zl a.Rights 1 3]) oF) oF)
theorem zVI (a:Slot)(b:Int)(c:zlB a b=true):∃N,zKf N a b=some [aB<|zjg a b]:=by refine⟨0,?_⟩;unfold zKf oN;refine must rfl (br (λ_=>?_) λ_=>must rfl (br (λ_=>br (λ_=>must rfl ?_) λ_=>?_) λ_=>?_));all_goals first|rfl|(simp only [*,zjg,zeP,zdJ,cT,cF]<;>rfl)|simp_all[Ty.cells,zjg,zeP,zdJ]
theorem zOL:vP 265 zqv:=kF2 zd1 zn zx zo (zq []) zVI
def zJR (N:Nat)(a:Slot)(b:Int):OA:=
 (oN zbV<|cond (cond (ieq a.Page zbk.Page) (ieq a.Rights zbk.Rights) false) oT<|cond (igt b 0) (oN (zM a.Page 0<|wsub .i64 b 1)<|cond (zl a.Page 0<|wsub .i64 b 1) (oN (zM a.Rights 1 3)<|some [aB<|zl a.Rights 1 3]) oF) oF)
theorem zVo (a:Slot)(b:Int)(c:zlB a b=true):∃N,zJR N a b=some [aB<|zjg a b]:=by refine⟨0,?_⟩;unfold zJR oN;refine must rfl (br (λ_=>?_) λ_=>br (λ_=>must rfl (br (λ_=>must rfl ?_) λ_=>?_)) λ_=>?_);all_goals first|rfl|(simp only [*,zjg,zeP,zdJ,cT,cF]<;>rfl)|simp_all[Ty.cells,zjg,zeP,zdJ]
theorem zOl:vP 233 zqv:=kF2 zd1 zn zx zo (zq []) zVo
@[simp] abbrev zg4 (l:List Slot):Bool:=pc (l.length<=2147483648)
@[simp] abbrev ze1 (l:List Slot):List Slot:=l
def zwT:Run:=rF1 (dS .slot) λb=>(zg4 b,[aS .slot<|ze1 b])
def zAJ (N:Nat)(a:lS):OA:=
 (oN (few<|ln<|ap [] a)<|some [aS .slot<|ap [] a])
theorem zMh (a:List Slot)(b:zg4 a=true):∃N,zAJ N a=some [aS .slot<|ze1 a]:=by have c:=zK.1 b;refine⟨0,?_⟩;unfold zAJ oN;refine mu ?_;first|rfl|(simp only [*,ze1,cT,cF]<;>rfl)|simp_all[Ty.cells,ze1]
theorem zE1:vP 206 zwT:=kF1 zd1 zn zx zo (zq []) zMh
@[simp] abbrev zvl (l:List Ins):Bool:=pc (l.length<=2147483648)
@[simp] abbrev zpZ (l:List Ins):List Ins:=l
def zyX:Run:=rF1 (dS .ins) λb=>(zvl b,[aS .ins<|zpZ b])
def zCe (N:Nat)(a:lI):OA:=
 (oN (few<|ln<|ap [] a)<|some [aS .ins<|ap [] a])
theorem zPu (a:List Ins)(b:zvl a=true):∃N,zCe N a=some [aS .ins<|zpZ a]:=by have c:=zK.1 b;refine⟨0,?_⟩;unfold zCe oN;refine mu ?_;first|rfl|(simp only [*,zpZ,cT,cF]<;>rfl)|simp_all[Ty.cells,zpZ]
theorem zIg:vP 305 zyX:=kF1 zd1 zn zx zo (zq []) zPu
def zhc (m:List (List Int))(p c:Int):Bool:=bif hasB p (ln m) then hasB c (ln<|ix m p []) else false
def cellAt (m:List (List Int))(p c:Int):Int:=bif zhc m p c then ix (ix m p []) c 0 else 0
def zbW (m:List (List Int))(p c v:Int):List (List Int):=bif zhc m p c then (cond (zl v 0 99) (up m p<|up (ix m p []) c v) m) else m
theorem zz5 (m:List (List Int))(p c:Int):(zhc m p c=true)↔hasB p (ln m)=true/\hasB c (ln<|ix m p [])=true:=by unfold zhc;cases hasB p (ln m)<;>simp
theorem zbbG {n:Nat}{m:List (List Int)}(h:CVB n (.s (.sl .int) m)):m.length<=n/\∀p:Int,hasB p (ln m)=true->(ix m p []).length<=n :=
 ⟨h.len,λp a=>(h.inv.2 _ (zbM a []) _ (qF.2 rfl)).len⟩
@[simp] abbrev zfJ (m:List (List Int))(p c:Int):Bool:=true
@[simp] abbrev zrQ (m:List (List Int))(p c:Int):Bool:=zhc m p c
def zDT:Run:=rF3 (dS<|.sl .int) dI dI λb c d=>(zfJ b c d,[aB<|zrQ b c d])
def zKk (N:Nat)(a:lM)(b c:Int):OA:=
 let d:=wsub .i64 (ln<|ix a b []) 1; (oN (zM b 0<|wsub .i64 (ln a) 1)<|cond (zl b 0<|wsub .i64 (ln a) 1) (oN (inb b<|ln a)<|oN (zM c 0 d)<|some [aB<|zl c 0 d]) oF)
theorem zVL (a:List (List Int))(b c:Int)(e:zbR big [aS (.sl .int) a,aI b,aI c])(g:zfJ a b c=true):∃N,zKk N a b c=some [aB<|zrQ a b c]:=by
 have d:=zbbG ((zdY e).1 _ (qF.2 rfl));have j:=zJA d.1;have f:∀p i:Int,hasB p (ln a)=true->zl i 0 (wsub .i64 (ln<|ix a p []) 1)=hasB i (ln<|ix a p []):=λp i h=>zJA (d.2 p h) i;refine⟨0,?_⟩;unfold zKk oN;conv=>zeta
 refine must rfl (br (λ_=>mu (must rfl ?_)) λ_=>?_);all_goals first|rfl|(simp only [*,zrQ,zhc,cT,cF]<;>rfl)|simp_all[Ty.cells,zrQ,zhc]
theorem zOR:vP 382 zDT:=hF3 zd1 zn zx zo (zq []) zVL
@[simp] abbrev zgN (m:List (List Int))(p c:Int):Int:=cellAt m p c
def zqb:Run:=rF3 (dS<|.sl .int) dI dI λb c d=>(zfJ b c d,[aI<|zgN b c d])
def zJC (N:Nat)(a:lM)(b c:Int):OA:=
 let d:=ix a b []; (oN (zbl b<|ln a)<|cond (nB<|zch b<|ln a) (some [aI 0])<|oN (inb b<|ln a)<|oN (zbl c<|ln d)<|cond (nB<|zch c<|ln d) (some [aI 0])<|oN (inb b<|ln a)<|oN (inb c<|ln d)<|some [aI<|ix d c 0])
theorem zU8 (a:List (List Int))(b c:Int)(d:zfJ a b c=true):∃N,zJC N a b c=some [aI<|zgN a b c]:=by
 refine⟨0,?_⟩;unfold zJC oN nB;conv=>zeta
 refine must rfl (brN (λ_=>?_) λ_=>mu (must rfl (brN (λ_=>?_) λ_=>mu (mu ?_))));all_goals first|rfl|(simp only [*,zgN,cellAt,zhc,cT,cF]<;>rfl)|simp_all[Ty.cells,zgN,cellAt,zhc]
theorem zN2:vP 141 zqb:=kF3 zd1 zn zx zo (zq []) zU8
def z0q:zba:=[(364,zqh),(211,zqh),(354,znI),(133,znI),(355,znH),(138,znH),(371,zqn),(134,zqn),(312,zjS),(136,zjS),(313,zkI),(229,zkI),(314,zlS),(306,zlS),(394,zoO),(230,zoO),(193,zqr),(188,zqr),(366,zsk),(213,zsk),(219,zDR),(265,zqv),(233,zqv),(206,zwT),(305,zyX),(382,zDT),(141,zqb)]++ctrU
theorem zhg:zT z0q:=zi zOu (zi zN1<|zi zIl<|zi zHW<|zi zIk<|zi zHV<|zi zOD<|zi zOb<|zi ztW<|zi zES<|zi zvg<|zi zHY<|zi zwB<|zi zLe<|zi zLs<|zi zK8<|zi zOH<|zi zOh<|zi zSf<|zi zR2<|zi zOr<|zi zOL<|zi zOl<|zi zE1<|zi zIg<|zi zOR<|zi zN2 zd1)
def zJY (N:Nat)(a:lM)(b c:Int):OA:=
 (oN (zfJ a b c)<|cond (nB<|zrQ a b c) (some [aI 0])<|oN (inb b<|ln a)<|oN (inb c<|ln<|ix a b [])<|some [aI<|ix (ix a b []) c 0])
theorem zVu (a:List (List Int))(b c:Int)(d:zfJ a b c=true):∃N,zJY N a b c=some [aI<|zgN a b c]:=by have e:=(zz5 a b c).1;refine⟨0,?_⟩;unfold zJY oN nB;refine must rfl (brN (λ_=>?_) λ_=>mu (mu ?_));all_goals first|rfl|(simp only [*,zgN,cellAt,cT,cF]<;>rfl)|simp_all[Ty.cells,zgN,cellAt]
theorem zOv:vP 356 zqb:=kF3 zhg zn zx zo (zq []) zVu
def zdL (t:List Slot)(n p:Int):Bool:=bif t.all (λs=>zeP s p) then ieq (ln t) n else false
@[simp] abbrev zkd (t:List Slot)(n p:Int):Bool:=true
@[simp] abbrev zfn (t:List Slot)(n p:Int):Bool:=zdL t n p
def zoX:Run:=rF3 (dS .slot) dI dI λb c d=>(zkd b c d,[aB<|zfn b c d])
def zGs (N:Nat)(d:lS)(e f:Int):OA:=
 (iter (σ:=(Int×Int×Int×lS×Unit)) N (λg a=>let b:=a.2.2.2.1;let c:=ix b a.2.2.1 zV; (cond (ilt a.2.2.1<|ln b) (oN (inb a.2.2.1<|ln b)<|oN (zlB c a.2.1)<|cond (nB<|zjg c a.2.1) oF<|g (a.1,a.2.1,zQ .i64 a.2.2.1 1,b,()))<|some [aB<|ieq (ln b) a.1])) (e,f,0,d,()))
def zTx:=zq [(191,0,{n:=25,tm:=[(0,.sl 0 []),(1,ti),(2,ti),(7,ti)],lo:=[],ro:=[(0,.slot,false)]})]
theorem zS4 (a:List Slot)(d c:Int)(j:zbR big [aS .slot a,aI d,aI c])(l:zkd a d c=true):∃N,zGs N a d c=some [aB<|zfn a d c]:=by
 have h:(_:List _).length<=big:=((zdY j).1 _ (qF.2 rfl)).len;refine zcE λN g=>?_;unfold zGs oN nB;conv=>zeta
 refine(zbq a (λi (t:Unit)=>(d,c,(i:Int),a,())) _ (λ_ x (_:Unit) k=>bif (λs=>zeP s c) x then k () else oF) (λ(t:Unit)=>some [.one<|.b<|ieq (ln a) d]) (λi e t rec=>?_) (λt rec=>?_) _ ()<|g h).trans ?_;{simp only [zbI e,zbm e,zbu e,zbj e h,cT];exact zj3 rfl};{simp only [zbz,cF]};rw[zh8 λs=>zeP s c];refine br (λf=>?_) (λf=>?_);{first|rfl|(simp only [f,zfn,zdL,cT,cF]<;>rfl)|(simp_all [Ty.cells,zfn,zdL];done)};{first|rfl|(simp only [f,zfn,zdL,cT,cF]<;>rfl)|(simp_all [Ty.cells,zfn,zdL];done)}
theorem zLF:vP 191 zoX:=hF3 zhg zn zx zo zTx zS4
def zF2 (N:Nat)(c:lS)(e f:Int):OA:=
 (iter (σ:=(Int×Int×Int×Int×lS×Unit)) N (λg a=>let b:=a.2.2.2.2.1;let d:=ix b a.2.2.2.1 zV; (cond (ilt a.2.2.2.1 a.2.2.1) (oN (inb a.2.2.2.1<|ln b)<|oN (zlB d a.2.1)<|cond (nB<|zjg d a.2.1) oF<|g (a.1,a.2.1,a.2.2.1,zQ .i64 a.2.2.2.1 1,b,()))<|some [aB<|ieq (ln b) a.1])) (e,f,ln c,0,c,()))
def zTt:=zq [(187,0,{n:=24,tm:=[(0,.sl 0 []),(1,ti),(2,ti),(9,.sl 0 []),(10,ti),(11,ti)],lo:=[],ro:=[(0,.slot,false)]})]
theorem zSH (a:List Slot)(d c:Int)(j:zbR big [aS .slot a,aI d,aI c])(l:zkd a d c=true):∃N,zF2 N a d c=some [aB<|zfn a d c]:=by
 have h:(_:List _).length<=big:=((zdY j).1 _ (qF.2 rfl)).len;refine zcE λN g=>?_;unfold zF2 oN nB;conv=>zeta
 refine(zbq a (λi (t:Unit)=>(d,c,ln a,(i:Int),a,())) _ (λ_ x (_:Unit) k=>bif (λs=>zeP s c) x then k () else oF) (λ(t:Unit)=>some [.one<|.b<|ieq (ln a) d]) (λi e t rec=>?_) (λt rec=>?_) _ ()<|g h).trans ?_;{simp only [zbI e,zbm e,zbu e,zbj e h,cT];exact zj3 rfl};{simp only [zbz,cF]};rw[zh8 λs=>zeP s c];refine br (λf=>?_) (λf=>?_);{first|rfl|(simp only [f,zfn,zdL,cT,cF]<;>rfl)|(simp_all [Ty.cells,zfn,zdL];done)};{first|rfl|(simp only [f,zfn,zdL,cT,cF]<;>rfl)|(simp_all [Ty.cells,zfn,zdL];done)}
theorem zLk:vP 187 zoX:=hF3 zhg zn zx zo zTt zSH
def zc1 (c:List Int):Bool:=bif c.all (λx=>zl x 0 99) then ieq (ln c) 4 else false
@[simp] abbrev zeg (c:List Int):Bool:=true
@[simp] abbrev zdG (c:List Int):Bool:=zc1 c
def zqq:Run:=rF1 (dS .int) λb=>(zeg b,[aB<|zdG b])
def zKa (N:Nat)(b:List Int):OA:=
 (iter (σ:=(Int×(List Int)×Unit)) N (λc a=>cond (ilt a.1<|ln a.2.1) (oN (inb a.1<|ln a.2.1)<|oN (zM (ix a.2.1 a.1 0) 0 99)<|cond (nB<|zl (ix a.2.1 a.1 0) 0 99) oF<|c (zQ .i64 a.1 1,a.2.1,()))<|some [aB<|ieq (ln a.2.1) 4]) (0,b,()))
def zXk:=zq [(190,0,{n:=19,tm:=[(0,.sl 0 []),(3,ti)],lo:=[],ro:=[(0,.int,false)]})]
theorem zVE (a:List Int)(g:zbR big [aS .int a])(j:zeg a=true):∃N,zKa N a=some [aB<|zdG a]:=by have f:(_:List _).length<=big:=((zdY g).1 _ (qF.2 rfl)).len;refine zcE λN e=>?_;unfold zKa oN nB;refine(zbq a (λi (t:Unit)=>((i:Int),a,())) _ (λ_ x (_:Unit) h=>bif (λx=>zl x 0 99) x then h () else oF) (λ(t:Unit)=>some [.one<|.b<|ieq (ln a) 4]) (λi c t rec=>?_) (λt rec=>?_) _ ()<|e f).trans ?_;{simp only [zbI c,zbm c,zbu c,zbj c f,cT];exact zj3 rfl};{simp only [zbz,cF]};rw[zh8 λx=>zl x 0 99];refine br (λd=>?_) (λd=>?_);{first|rfl|(simp only [d,zdG,zc1,cT,cF]<;>rfl)|(simp_all [Ty.cells,zdG,zc1];done)};{first|rfl|(simp only [d,zdG,zc1,cT,cF]<;>rfl)|(simp_all [Ty.cells,zdG,zc1];done)}
theorem zOG:vP 190 zqq:=hF1 zhg zn zx zo zXk zVE
def zJM (N:Nat)(b:List Int):OA:=
 (iter (σ:=(Int×Int×(List Int)×Unit)) N (λc a=>cond (ilt a.2.1 a.1) (oN (inb a.2.1<|ln a.2.2.1)<|oN (zM (ix a.2.2.1 a.2.1 0) 0 99)<|cond (nB<|zl (ix a.2.2.1 a.2.1 0) 0 99) oF<|c (a.1,zQ .i64 a.2.1 1,a.2.2.1,()))<|some [aB<|ieq (ln a.2.2.1) 4]) (ln b,0,b,()))
def zXa:=zq [(186,0,{n:=18,tm:=[(0,.sl 0 []),(5,.sl 0 []),(6,ti),(7,ti)],lo:=[],ro:=[(0,.int,false)]})]
theorem zVi (a:List Int)(g:zbR big [aS .int a])(j:zeg a=true):∃N,zJM N a=some [aB<|zdG a]:=by have f:(_:List _).length<=big:=((zdY g).1 _ (qF.2 rfl)).len;refine zcE λN e=>?_;unfold zJM oN nB;refine(zbq a (λi (t:Unit)=>(ln a,(i:Int),a,())) _ (λ_ x (_:Unit) h=>bif (λx=>zl x 0 99) x then h () else oF) (λ(t:Unit)=>some [.one<|.b<|ieq (ln a) 4]) (λi c t rec=>?_) (λt rec=>?_) _ ()<|e f).trans ?_;{simp only [zbI c,zbm c,zbu c,zbj c f,cT];exact zj3 rfl};{simp only [zbz,cF]};rw[zh8 λx=>zl x 0 99];refine br (λd=>?_) (λd=>?_);{first|rfl|(simp only [d,zdG,zc1,cT,cF]<;>rfl)|(simp_all [Ty.cells,zdG,zc1];done)};{first|rfl|(simp only [d,zdG,zc1,cT,cF]<;>rfl)|(simp_all [Ty.cells,zdG,zc1];done)}
theorem zOg:vP 186 zqq:=hF1 zhg zn zx zo zXa zVi
def zff (i:Ins):Bool:=bif (ieq i.Op 1||ieq i.Op 2||ieq i.Op 5||ieq i.Op 6) then zl i.X 0 99 else (cond (ieq i.Op 3||ieq i.Op 4) (zl i.X 0 15)<|cond (ieq i.Op 7) (ieq i.X 0)<|cond (ieq i.Op 8) (zl i.X 0 11) false)
@[simp] abbrev zw9 (i:Ins):Bool:=true
@[simp] abbrev zuL (i:Ins):Bool:=zff i
def zsl:Run:=rF1 (dT .ins) λb=>(zw9 b,[aB<|zuL b])
def zQM (N:Nat)(a:Ins):OA:=
 let b:=ieq a.Op 4;let l:=zM a.X 0 99;let k:=aB<|zl a.X 0 99;let j:=ieq a.Op 8;let i:=ieq a.Op 7;let h:=ieq a.Op 3;let g:=zM a.X 0 11;let f:=zM a.X 0 15;let e:=aB<|ieq a.X 0;let d:=aB<|zl a.X 0 11;let c:=aB<|zl a.X 0 15; (cond (ieq a.Op 1) (cond (ieq a.Op 1) (oN l<|some [k])<|cond h (cond h (oN f<|some [c])<|cond i (some [e])<|cond j (oN g<|some [d]) oF)<|cond b (oN f<|some [c])<|cond i (some [e])<|cond j (oN g<|some [d]) oF)<|cond (ieq a.Op 2) (cond (ieq a.Op 2) (oN l<|some [k])<|cond h (cond h (oN f<|some [c])<|cond i (some [e])<|cond j (oN g<|some [d]) oF)<|cond b (oN f<|some [c])<|cond i (some [e])<|cond j (oN g<|some [d]) oF)<|cond (ieq a.Op 5) (cond (ieq a.Op 5) (oN l<|some [k])<|cond h (cond h (oN f<|some [c])<|cond i (some [e])<|cond j (oN g<|some [d]) oF)<|cond b (oN f<|some [c])<|cond i (some [e])<|cond j (oN g<|some [d]) oF)<|cond (ieq a.Op 6) (oN l<|some [k])<|cond h (cond h (oN f<|some [c])<|cond i (some [e])<|cond j (oN g<|some [d]) oF)<|cond b (oN f<|some [c])<|cond i (some [e])<|cond j (oN g<|some [d]) oF)
theorem zGT (a:Ins)(b:zbR big [aT .ins a])(c:zw9 a=true):∃N,zQM N a=some [aB<|zuL a]:=by
 refine⟨0,?_⟩;unfold zQM oN;conv=>zeta
 refine br (λ_=>br (λ_=>must rfl ?_) λ_=>br (λ_=>br (λ_=>must rfl ?_) λ_=>br (λ_=>?_) λ_=>br (λ_=>must rfl ?_) λ_=>?_) λ_=>br (λ_=>must rfl ?_) λ_=>br (λ_=>?_) λ_=>br (λ_=>must rfl ?_) λ_=>?_) (λ_=>br (λ_=>br (λ_=>must rfl ?_) λ_=>br (λ_=>br (λ_=>must rfl ?_) λ_=>br (λ_=>?_) λ_=>br (λ_=>must rfl ?_) λ_=>?_) λ_=>br (λ_=>must rfl ?_) λ_=>br (λ_=>?_) λ_=>br (λ_=>must rfl ?_) λ_=>?_) λ_=>br (λ_=>br (λ_=>must rfl ?_) λ_=>br (λ_=>br (λ_=>must rfl ?_) λ_=>br (λ_=>?_) λ_=>br (λ_=>must rfl ?_) λ_=>?_) λ_=>br (λ_=>must rfl ?_) λ_=>br (λ_=>?_) λ_=>br (λ_=>must rfl ?_) λ_=>?_) λ_=>br (λ_=>must rfl ?_) λ_=>br (λ_=>br (λ_=>must rfl ?_) λ_=>br (λ_=>?_) λ_=>br (λ_=>must rfl ?_) λ_=>?_) λ_=>br (λ_=>must rfl ?_) λ_=>br (λ_=>?_) λ_=>br (λ_=>must rfl ?_) λ_=>?_);all_goals first|rfl|(simp only [*,zuL,zff,cT,cF]<;>rfl)|simp_all[Ty.cells,zuL,zff]
theorem zSg:vP 316 zsl:=hF1 zhg zn zx zo (zq []) zGT
theorem zR3:vP 315 zsl:=hF1 zhg zn zx zo (zq []) zGT
def zjL (e:GExit):Bool:=bif (ieq e.Kind 0||ieq e.Kind 4) then (ieq e.Page 0&&(!e.Write&&ieq e.N 0)) else (cond (ieq e.Kind 1) (zl e.Page 0 3&&ieq e.N 0)<|cond (ieq e.Kind 2||ieq e.Kind 3) (zl e.N 0 99&&(ieq e.Page 0 && !e.Write)) false)
@[simp] theorem zbdm (x:Bool):zo9 x false = !x:=by cases x<;>rfl
attribute [simp] zii
@[simp] abbrev zus (e:GExit):Bool:=true
@[simp] abbrev zmZ (e:GExit):Bool:=zjL e
def zqj:Run:=rF1 dE λb=>(zus b,[aB<|zmZ b])
def zJ0 (N:Nat)(a:GExit):OA:=
 let f:=zl a.N 0 99;let e:=zM a.N 0 99;let d:=ieq a.Kind 2;let b:=ieq a.Page 0;let c:=aB<|nB a.Write;let g:=aB<|cond (ieq a.Kind a.Kind) (cond b (cond (zo9 a.Write false) (ieq a.N 0) false) false) false; (cond (ieq a.Kind 0) (cond (ieq a.Kind 0) (some [g])<|cond (ieq a.Kind 1) (oN (zM a.Page 0 3)<|cond (zl a.Page 0 3) (some [aB<|ieq a.N 0]) oF)<|cond d (cond d (oN e<|cond f (cond b (some [c]) oF) oF) oF)<|cond (ieq a.Kind 3) (oN e<|cond f (cond b (some [c]) oF) oF) oF)<|cond (ieq a.Kind 4) (some [g])<|cond (ieq a.Kind 1) (oN (zM a.Page 0 3)<|cond (zl a.Page 0 3) (some [aB<|ieq a.N 0]) oF)<|cond d (cond d (oN e<|cond f (cond b (some [c]) oF) oF) oF)<|cond (ieq a.Kind 3) (oN e<|cond f (cond b (some [c]) oF) oF) oF)
theorem zVv (a:GExit)(b:zus a=true):∃N,zJ0 N a=some [aB<|zmZ a]:=by
 refine⟨0,?_⟩;unfold zJ0 oN nB;conv=>zeta
 refine br (λ_=>br (λ_=>?_) λ_=>br (λ_=>must rfl (br (λ_=>?_) λ_=>?_)) λ_=>br (λ_=>br (λ_=>must rfl (br (λ_=>br (λ_=>?_) λ_=>?_) λ_=>?_)) λ_=>?_) λ_=>br (λ_=>must rfl (br (λ_=>br (λ_=>?_) λ_=>?_) λ_=>?_)) λ_=>?_) (λ_=>br (λ_=>?_) λ_=>br (λ_=>must rfl (br (λ_=>?_) λ_=>?_)) λ_=>br (λ_=>br (λ_=>must rfl (br (λ_=>br (λ_=>?_) λ_=>?_) λ_=>?_)) λ_=>?_) λ_=>br (λ_=>must rfl (br (λ_=>br (λ_=>?_) λ_=>?_) λ_=>?_)) λ_=>?_);all_goals first|rfl|(simp only [*,zmZ,zjL,cT,cF]<;>rfl)|simp_all[Ty.cells,zmZ,zjL]
theorem zOx:vP 268 zqj:=kF1 zhg zn zx zo (zq []) zVv
def zJE (N:Nat)(a:GExit):OA:=
 let g:=zl a.N 0 99;let f:=zM a.N 0 99;let e:=ieq a.Kind 2;let d:=aB<|ieq a.N 0;let b:=ieq a.Page 0;let c:=aB<|nB a.Write; (cond (ieq a.Kind 0) (cond (ieq a.Kind 0) (cond b (cond (nB a.Write) (some [d]) oF) oF)<|cond (ieq a.Kind 1) (oN (zM a.Page 0 3)<|cond (zl a.Page 0 3) (some [d]) oF)<|cond e (cond e (oN f<|cond g (cond b (some [c]) oF) oF) oF)<|cond (ieq a.Kind 3) (oN f<|cond g (cond b (some [c]) oF) oF) oF)<|cond (ieq a.Kind 4) (cond b (cond (nB a.Write) (some [d]) oF) oF)<|cond (ieq a.Kind 1) (oN (zM a.Page 0 3)<|cond (zl a.Page 0 3) (some [d]) oF)<|cond e (cond e (oN f<|cond g (cond b (some [c]) oF) oF) oF)<|cond (ieq a.Kind 3) (oN f<|cond g (cond b (some [c]) oF) oF) oF)
theorem zVa (a:GExit)(b:zus a=true):∃N,zJE N a=some [aB<|zmZ a]:=by
 refine⟨0,?_⟩;unfold zJE oN nB;conv=>zeta
 refine br (λ_=>br (λ_=>br (λ_=>brN (λ_=>?_) λ_=>?_) λ_=>?_) λ_=>br (λ_=>must rfl (br (λ_=>?_) λ_=>?_)) λ_=>br (λ_=>br (λ_=>must rfl (br (λ_=>br (λ_=>?_) λ_=>?_) λ_=>?_)) λ_=>?_) λ_=>br (λ_=>must rfl (br (λ_=>br (λ_=>?_) λ_=>?_) λ_=>?_)) λ_=>?_) (λ_=>br (λ_=>br (λ_=>brN (λ_=>?_) λ_=>?_) λ_=>?_) λ_=>br (λ_=>must rfl (br (λ_=>?_) λ_=>?_)) λ_=>br (λ_=>br (λ_=>must rfl (br (λ_=>br (λ_=>?_) λ_=>?_) λ_=>?_)) λ_=>?_) λ_=>br (λ_=>must rfl (br (λ_=>br (λ_=>?_) λ_=>?_) λ_=>?_)) λ_=>?_);all_goals first|rfl|(simp only [*,zmZ,zjL,cT,cF]<;>rfl)|simp_all[Ty.cells,zmZ,zjL]
theorem zN5:vP 264 zqj:=kF1 zhg zn zx zo (zq []) zVa
def zwf (c:Ctl):List Int:=(cond (zl c.Traps 0 3) [] [1])++((cond (zl c.Post 0 255) [] [2])++((cond (ine c.Post 0) (cond c.Open [] [3]) [])++(cond (ieq c.Traps 2) (cond (ine c.Post 0) [4] []) [])))
@[simp] theorem zbdj {a:Type}(x:a)(l m:List a):ap (x::l) m=x::ap l m:=rfl
@[simp] abbrev zfs (c:Ctl):Bool:=true
@[simp] abbrev zot (c:Ctl):List Int:=zwf c
def zml:Run:=rF1 dC λb=>(zfs b,[aS .int<|zot b])
def zAO (N:Nat)(b:Ctl):OA:=
 let e:=aS .int [];let k:=ap (ap [] [2]) [4];let j:=ap (ap [] [1]) [4];let i:=aS .int<|ap [] [2];let h:=aS .int<|ap [] [1];let g:=ap (ap [] [2]) [3];let f:=ap (ap [] [1]) [3];let c:=ieq b.Traps 2;let a:=ine b.Post 0;let d:=ap (ap [] [1]) [2];let l:=aS .int d; (oN (zM b.Traps 0 3)<|cond (nB<|zl b.Traps 0 3) (oN (few<|ln<|ap [] [1])<|oN (zM b.Post 0 255)<|cond (nB<|zl b.Post 0 255) (oN (few<|ln d)<|cond a (cond (nB b.Open) (oN (few<|ln<|ap d [3])<|cond c (cond a (oN (few<|ln<|ap (ap d [3]) [4])<|some [aS .int<|ap (ap d [3]) [4]])<|some [aS .int<|ap d [3]])<|some [aS .int<|ap d [3]])<|cond c (cond a (oN (few<|ln<|ap d [4])<|some [aS .int<|ap d [4]])<|some [l])<|some [l])<|cond c (cond a (oN (few<|ln<|ap d [4])<|some [aS .int<|ap d [4]])<|some [l])<|some [l])<|cond a (cond (nB b.Open) (oN (few<|ln f)<|cond c (cond a (oN (few<|ln<|ap f [4])<|some [aS .int<|ap f [4]])<|some [aS .int f])<|some [aS .int f])<|cond c (cond a (oN (few<|ln j)<|some [aS .int j])<|some [h])<|some [h])<|cond c (cond a (oN (few<|ln j)<|some [aS .int j])<|some [h])<|some [h])<|oN (zM b.Post 0 255)<|cond (nB<|zl b.Post 0 255) (oN (few<|ln<|ap [] [2])<|cond a (cond (nB b.Open) (oN (few<|ln g)<|cond c (cond a (oN (few<|ln<|ap g [4])<|some [aS .int<|ap g [4]])<|some [aS .int g])<|some [aS .int g])<|cond c (cond a (oN (few<|ln k)<|some [aS .int k])<|some [i])<|some [i])<|cond c (cond a (oN (few<|ln k)<|some [aS .int k])<|some [i])<|some [i])<|cond a (cond (nB b.Open) (oN (few<|ln<|ap [] [3])<|cond c (cond a (oN (few<|ln<|ap (ap [] [3]) [4])<|some [aS .int<|ap (ap [] [3]) [4]])<|some [aS .int<|ap [] [3]])<|some [aS .int<|ap [] [3]])<|cond c (cond a (oN (few<|ln<|ap [] [4])<|some [aS .int<|ap [] [4]])<|some [e])<|some [e])<|cond c (cond a (oN (few<|ln<|ap [] [4])<|some [aS .int<|ap [] [4]])<|some [e])<|some [e])
theorem zwC (a:Ctl)(b:zbR big [.agg<|zob a])(c:zfs a=true):∃N,zAO N a=some [aS .int<|zot a]:=by
 refine⟨0,?_⟩;unfold zAO oN nB;conv=>zeta
 refine must rfl (brN (λ_=>mu (must rfl (brN (λ_=>mu (br (λ_=>brN (λ_=>mu (br (λ_=>br (λ_=>mu ?_) λ_=>?_) λ_=>?_)) λ_=>br (λ_=>br (λ_=>mu ?_) λ_=>?_) λ_=>?_) λ_=>br (λ_=>br (λ_=>mu ?_) λ_=>?_) λ_=>?_)) λ_=>br (λ_=>brN (λ_=>mu (br (λ_=>br (λ_=>mu ?_) λ_=>?_) λ_=>?_)) λ_=>br (λ_=>br (λ_=>mu ?_) λ_=>?_) λ_=>?_) λ_=>br (λ_=>br (λ_=>mu ?_) λ_=>?_) λ_=>?_))) λ_=>must rfl (brN (λ_=>mu (br (λ_=>brN (λ_=>mu (br (λ_=>br (λ_=>mu ?_) λ_=>?_) λ_=>?_)) λ_=>br (λ_=>br (λ_=>mu ?_) λ_=>?_) λ_=>?_) λ_=>br (λ_=>br (λ_=>mu ?_) λ_=>?_) λ_=>?_)) λ_=>br (λ_=>brN (λ_=>mu (br (λ_=>br (λ_=>mu ?_) λ_=>?_) λ_=>?_)) λ_=>br (λ_=>br (λ_=>mu ?_) λ_=>?_) λ_=>?_) λ_=>br (λ_=>br (λ_=>mu ?_) λ_=>?_) λ_=>?_));all_goals first|rfl|(simp only [*,zot,zwf,cT,cF]<;>rfl)|simp_all[Ty.cells,zot,zwf]
theorem zE6:vP 317 zml:=hF1 zhg zn zx zo (zq []) zwC
theorem zER:vP 307 zml:=hF1 zhg zn zx zo (zq []) zwC
def len8tab:ByteArray:=⟨⟨[0,1,2,2,3,3,3,3,4,4,4,4,4,4,4,4,5,5,5,5,5,5,5,5,5,5,5,5,5,5,5,5,6,6,6,6,6,6,6,6,6,6,6,6,6,6,6,6,6,6,6,6,6,6,6,6,6,6,6,6,6,6,6,6,7,7,7,7,7,7,7,7,7,7,7,7,7,7,7,7,7,7,7,7,7,7,7,7,7,7,7,7,7,7,7,7,7,7,7,7,7,7,7,7,7,7,7,7,7,7,7,7,7,7,7,7,7,7,7,7,7,7,7,7,7,7,7,7,8,8,8,8,8,8,8,8,8,8,8,8,8,8,8,8,8,8,8,8,8,8,8,8,8,8,8,8,8,8,8,8,8,8,8,8,8,8,8,8,8,8,8,8,8,8,8,8,8,8,8,8,8,8,8,8,8,8,8,8,8,8,8,8,8,8,8,8,8,8,8,8,8,8,8,8,8,8,8,8,8,8,8,8,8,8,8,8,8,8,8,8,8,8,8,8,8,8,8,8,8,8,8,8,8,8,8,8,8,8,8,8,8,8,8,8,8,8,8,8,8,8,8,8,8,8,8,8]⟩⟩
def ziv (p n:Int):Bool:=ieq (wand .i64 (zk1 .i64 p n) 1) 1
def scan (p:Int):Int:=bif ziv p 7 then 7 else (cond (ziv p 6) 6<|cond (ziv p 5) 5<|cond (ziv p 4) 4<|cond (ziv p 3) 3<|cond (ziv p 2) 2<|cond (ziv p 1) 1<|cond (ziv p 0) 0<|-1)
theorem z7d:∀n:Fin 256,zQ .i64 0 (wcv .i64<|byteAt len8tab<|wcv .u8 (n.val:Int))=scan (n.val:Int)+1:=by decide +kernel
theorem zWM:∀n:Fin 256,-1<=scan (n.val:Int)/\scan (n.val:Int)<=7/\(0<=scan (n.val:Int)->wsub .i64 (n.val:Int) (zmh .i64 1<|scan (n.val:Int))=zAx .i64 (n.val:Int) (zmh .i64 1<|scan (n.val:Int))):=by decide +kernel
theorem zDG {P:Int->Prop}(h:∀n:Fin 256,P (n.val:Int)){x:Int}(a:0<=x)(b:x<=255):P x:=by have:=h ⟨x.toNat,by omega⟩;have e:((x.toNat:Nat):Int)=x:=(by omega);simpa [e] using this
def zoe (x:Int):Bool:=pc (0<=x/\x<=255)
def zj2 (x:Int):Int:=scan x+1
def zjs:List AV->Option (Bool×List AV)
 |[.one<|.i .u64 b]=>some (zoe b,[aI<|zj2 b])
 |_=>none
def zn8 (N:Nat)(a:Int):OA:=
 let d:=zk1 .u64 a 16;let b:=zk1 .u64 a 32;let c:=zk1 .u64 b 16; (cond (ige a 4294967296) (oN (ile 0 32)<|cond (ige b 65536) (oN (ile 0 16)<|cond (ige c 256) (oN (ile 0 8)<|oN (inb (wcv .u8<|zk1 .u64 c 8) 256)<|some [aI<|zQ .i64 (zQ .i64 (zQ .i64 32 16) 8)<|wcv .i64<|byteAt len8tab<|wcv .u8<|zk1 .u64 c 8])<|oN (inb (wcv .u8 c) 256)<|some [aI<|zQ .i64 (zQ .i64 32 16)<|wcv .i64<|byteAt len8tab<|wcv .u8 c])<|cond (ige b 256) (oN (ile 0 8)<|oN (inb (wcv .u8<|zk1 .u64 b 8) 256)<|some [aI<|zQ .i64 (zQ .i64 32 8)<|wcv .i64<|byteAt len8tab<|wcv .u8<|zk1 .u64 b 8])<|oN (inb (wcv .u8 b) 256)<|some [aI<|zQ .i64 32<|wcv .i64<|byteAt len8tab<|wcv .u8 b])<|cond (ige a 65536) (oN (ile 0 16)<|cond (ige d 256) (oN (ile 0 8)<|oN (inb (wcv .u8<|zk1 .u64 d 8) 256)<|some [aI<|zQ .i64 (zQ .i64 (zQ .i64 0 16) 8)<|wcv .i64<|byteAt len8tab<|wcv .u8<|zk1 .u64 d 8])<|oN (inb (wcv .u8 d) 256)<|some [aI<|zQ .i64 (zQ .i64 0 16)<|wcv .i64<|byteAt len8tab<|wcv .u8 d])<|cond (ige a 256) (oN (ile 0 8)<|oN (inb (wcv .u8<|zk1 .u64 a 8) 256)<|some [aI<|zQ .i64 (zQ .i64 0 8)<|wcv .i64<|byteAt len8tab<|wcv .u8<|zk1 .u64 a 8])<|oN (inb (wcv .u8 a) 256)<|some [aI<|zQ .i64 0<|wcv .i64<|byteAt len8tab<|wcv .u8 a])
theorem zDF (N:Nat)(a:Int):evalFn (cQ z0q zp3 zI9 zW3) (zq []) N 12 197 [.one<|.i .u64 a]=zn8 N a:=by kernel_rfl
theorem zBU (a:Int)(g:zbR big [.one<|.i .u64 a])(f:zoe a=true):∃N,zn8 N a=some [aI<|zj2 a]:=by
 obtain⟨b,c⟩:=zK.1 f;refine⟨0,?_⟩;unfold zn8 oN;conv=>zeta
 refine zci (qH (by omega)) ?_;refine zci (qH (by omega)) ?_;refine zci (qH (by omega)) ?_;have e:inb (wcv .u8 a) 256=true:=zDG (P:=λx=>inb (wcv .u8 x) 256=true) (by decide +kernel) b c;refine must e ?_;have d:=zDG (P:=λx=>zQ .i64 0 (wcv .i64<|byteAt len8tab<|wcv .u8 x)=scan x+1) z7d b c;rw[d];rfl
theorem zpv:vP 197 zjs:=zUQ zhg zn zx zo (zkq (by kernel_rfl)) λa d b h=>by unfold zjs at h;split at h;{obtain⟨c,rfl⟩:=ze7 h;exact(zBU _ b c).elim λN e=>⟨zq [],N,(zDF N _).trans e⟩};{cases h}
def z8w:zba:=[(356,zqb),(191,zoX),(187,zoX),(190,zqq),(186,zqq),(316,zsl),(315,zsl),(268,zqj),(264,zqj),(317,zml),(307,zml),(197,zjs)]++z0q
theorem zhh:zT z8w:=zi zOv (zi zLF<|zi zLk<|zi zOG<|zi zOg<|zi zSg<|zi zR3<|zi zOx<|zi zN5<|zi zE6<|zi zER<|zi zpv zhg)
def zjP (m:List (List Int))(n:Int):Bool:=bif m.all zc1 then ieq (ln m) n else false
@[simp] abbrev zjU (m:List (List Int))(n:Int):Bool:=true
@[simp] abbrev zgo (m:List (List Int))(n:Int):Bool:=zjP m n
def zsm:Run:=rF2 (dS<|.sl .int) dI λb c=>(zjU b c,[aB<|zgo b c])
def zQN (N:Nat)(c:lM)(d:Int):OA:=
 (iter (σ:=(Int×Int×lM×Unit)) N (λe a=>let b:=a.2.2.1; (cond (ilt a.2.1<|ln b) (oN (inb a.2.1<|ln b)<|oN (zeg<|ix b a.2.1 [])<|cond (nB<|zdG<|ix b a.2.1 []) oF<|e (a.1,zQ .i64 a.2.1 1,b,()))<|some [aB<|ieq (ln b) a.1])) (d,0,c,()))
def zY2:=zq [(108,0,{n:=22,tm:=[(0,.sl 0 []),(1,ti),(5,ti)],lo:=[],ro:=[(0,.sl .int,false)]})]
theorem zYg (a:List (List Int))(c:Int)(h:zbR big [aS (.sl .int) a,aI c])(k:zjU a c=true):∃N,zQN N a c=some [aB<|zgo a c]:=by
 have g:(_:List _).length<=big:=((zdY h).1 _ (qF.2 rfl)).len;refine zcE λN f=>?_;unfold zQN oN nB;conv=>zeta
 refine(zbq a (λi (t:Unit)=>(c,(i:Int),a,())) _ (λ_ x (_:Unit) j=>bif (zc1) x then j () else oF) (λ(t:Unit)=>some [.one<|.b<|ieq (ln a) c]) (λi d t rec=>?_) (λt rec=>?_) _ ()<|f g).trans ?_;{simp only [zbI d,zbm d,zbu d,zbj d g,cT];exact zj3 rfl};{simp only [zbz,cF]};rw[zh8<|zc1];refine br (λe=>?_) (λe=>?_);{first|rfl|(simp only [e,zgo,zjP,cT,cF]<;>rfl)|(simp_all [Ty.cells,zgo,zjP];done)};{first|rfl|(simp only [e,zgo,zjP,cT,cF]<;>rfl)|(simp_all [Ty.cells,zgo,zjP];done)}
theorem zSh:vP 108 zsm:=hF2 zhh zn zx zo zY2 zYg
def zQB (N:Nat)(c:lM)(d:Int):OA:=
 (iter (σ:=(Int×Int×Int×lM×Unit)) N (λe a=>let b:=a.2.2.2.1; (cond (ilt a.2.2.1 a.2.1) (oN (inb a.2.2.1<|ln b)<|oN (zeg<|ix b a.2.2.1 [])<|cond (nB<|zdG<|ix b a.2.2.1 []) oF<|e (a.1,a.2.1,zQ .i64 a.2.2.1 1,b,()))<|some [aB<|ieq (ln b) a.1])) (d,ln c,0,c,()))
def zY0:=zq [(105,0,{n:=21,tm:=[(0,.sl 0 []),(1,ti),(7,.sl 0 []),(8,ti),(9,ti)],lo:=[],ro:=[(0,.sl .int,false)]})]
theorem zX6 (a:List (List Int))(c:Int)(h:zbR big [aS (.sl .int) a,aI c])(k:zjU a c=true):∃N,zQB N a c=some [aB<|zgo a c]:=by
 have g:(_:List _).length<=big:=((zdY h).1 _ (qF.2 rfl)).len;refine zcE λN f=>?_;unfold zQB oN nB;conv=>zeta
 refine(zbq a (λi (t:Unit)=>(c,ln a,(i:Int),a,())) _ (λ_ x (_:Unit) j=>bif (zc1) x then j () else oF) (λ(t:Unit)=>some [.one<|.b<|ieq (ln a) c]) (λi d t rec=>?_) (λt rec=>?_) _ ()<|f g).trans ?_;{simp only [zbI d,zbm d,zbu d,zbj d g,cT];exact zj3 rfl};{simp only [zbz,cF]};rw[zh8<|zc1];refine br (λe=>?_) (λe=>?_);{first|rfl|(simp only [e,zgo,zjP,cT,cF]<;>rfl)|(simp_all [Ty.cells,zgo,zjP];done)};{first|rfl|(simp only [e,zgo,zjP,cT,cF]<;>rfl)|(simp_all [Ty.cells,zgo,zjP];done)}
theorem zR4:vP 105 zsm:=hF2 zhh zn zx zo zY0 zX6
def zd5 (p:List Ins):Bool:=bif p.all zff then zl (ln p) 1 12 else false
@[simp] abbrev zuu (p:List Ins):Bool:=true
@[simp] abbrev zin (p:List Ins):Bool:=zd5 p
def zqs:Run:=rF1 (dS .ins) λb=>(zuu b,[aB<|zin b])
def zKc (N:Nat)(c:lI):OA:=
 (iter (σ:=(Int×lI×Unit)) N (λd a=>let b:=ix a.2.1 a.1 zsK; (cond (ilt a.1<|ln a.2.1) (oN (inb a.1<|ln a.2.1)<|oN (zw9 b)<|cond (nB<|zuL b) oF<|d (zQ .i64 a.1 1,a.2.1,()))<|oN (zM (ln a.2.1) 1 12)<|some [aB<|zl (ln a.2.1) 1 12])) (0,c,()))
def zXl:=zq [(266,0,{n:=19,tm:=[(0,.sl 0 []),(3,ti)],lo:=[],ro:=[(0,.ins,false)]})]
theorem zVF (a:List Ins)(g:zbR big [aS .ins a])(j:zuu a=true):∃N,zKc N a=some [aB<|zin a]:=by
 have f:(_:List _).length<=big:=((zdY g).1 _ (qF.2 rfl)).len;refine zcE λN e=>?_;unfold zKc oN nB;conv=>zeta
 refine(zbq a (λi (t:Unit)=>((i:Int),a,())) _ (λ_ x (_:Unit) h=>bif (zff) x then h () else oF) (λ(t:Unit)=>cond (zM (ln a) 1 12) (some [.one<|.b<|zl (ln a) 1 12]) none) (λi c t rec=>?_) (λt rec=>?_) _ ()<|e f).trans ?_;{simp only [zbI c,zbm c,zbu c,zbj c f,cT];exact zj3 rfl};{simp only [zbz,cF]};rw[zh8<|zff];refine br (λd=>?_) (λd=>?_);{refine must rfl ?_;first|rfl|(simp only [d,zin,zd5,cT,cF]<;>rfl)|(simp_all [Ty.cells,zin,zd5];done)};{first|rfl|(simp only [d,zin,zd5,cT,cF]<;>rfl)|(simp_all [Ty.cells,zin,zd5];done)}
theorem zOI:vP 266 zqs:=hF1 zhh zn zx zo zXl zVF
def zJN (N:Nat)(b:lI):OA:=
 (iter (σ:=(Int×Int×lI×Unit)) N (λd a=>let c:=ix a.2.2.1 a.2.1 zsK; (cond (ilt a.2.1 a.1) (oN (inb a.2.1<|ln a.2.2.1)<|oN (zw9 c)<|cond (nB<|zuL c) oF<|d (a.1,zQ .i64 a.2.1 1,a.2.2.1,()))<|oN (zM (ln a.2.2.1) 1 12)<|some [aB<|zl (ln a.2.2.1) 1 12])) (ln b,0,b,()))
def zXb:=zq [(263,0,{n:=18,tm:=[(0,.sl 0 []),(5,.sl 0 []),(6,ti),(7,ti)],lo:=[],ro:=[(0,.ins,false)]})]
theorem zVj (a:List Ins)(g:zbR big [aS .ins a])(j:zuu a=true):∃N,zJN N a=some [aB<|zin a]:=by
 have f:(_:List _).length<=big:=((zdY g).1 _ (qF.2 rfl)).len;refine zcE λN e=>?_;unfold zJN oN nB;conv=>zeta
 refine(zbq a (λi (t:Unit)=>(ln a,(i:Int),a,())) _ (λ_ x (_:Unit) h=>bif (zff) x then h () else oF) (λ(t:Unit)=>cond (zM (ln a) 1 12) (some [.one<|.b<|zl (ln a) 1 12]) none) (λi c t rec=>?_) (λt rec=>?_) _ ()<|e f).trans ?_;{simp only [zbI c,zbm c,zbu c,zbj c f,cT];exact zj3 rfl};{simp only [zbz,cF]};rw[zh8<|zff];refine br (λd=>?_) (λd=>?_);{refine must rfl ?_;first|rfl|(simp only [d,zin,zd5,cT,cF]<;>rfl)|(simp_all [Ty.cells,zin,zd5];done)};{first|rfl|(simp only [d,zin,zd5,cT,cF]<;>rfl)|(simp_all [Ty.cells,zin,zd5];done)}
theorem zOi:vP 263 zqs:=hF1 zhh zn zx zo zXb zVj
def znn (c:Ctl):Bool:=ieq (ln<|zwf c) 0
@[simp] abbrev znU (c:Ctl):Bool:=znn c
def zsi:Run:=rF1 dC λb=>(zfs b,[aB<|znU b])
def zQJ (N:Nat)(a:Ctl):OA:=
 (oN (zfs a)<|some [aB<|ieq (ln<|zot a) 0])
theorem zGS (a:Ctl)(b:zbR big [.agg<|zob a])(c:zfs a=true):∃N,zQJ N a=some [aB<|znU a]:=by refine⟨0,?_⟩;unfold zQJ oN;refine must rfl ?_;first|rfl|(simp only [*,znU,znn,cT,cF]<;>rfl)|simp_all[Ty.cells,znU,znn]
theorem zSd:vP 267 zsi:=hF1 zhh zn zx zo (zq []) zGS
theorem zR0:vP 244 zsi:=hF1 zhh zn zx zo (zq []) zGS
def zey (p:Int):Int:=bif zee p then scan p else -1
theorem zQx {x:Int}(a:0<=x)(b:x<=255):wcv .u64 x=x:=zDG (P:=λx=>wcv .u64 x=x) (by decide +kernel) a b
@[simp] abbrev zif (p:Int):Int:=zey p
def zqd:Run:=rF1 dI λb=>(zcl b,[aI<|zif b])
def zJS (N:Nat)(a:Int):OA:=
 (oN (zcl a)<|cond (nB<|zeT a) (some [aI<|-1])<|oN (zoe<|wcv .u64 a)<|some [aI<|wsub .i64 (zj2<|wcv .u64 a) 1])
theorem zVp (a:Int)(d:zcl a=true):∃N,zJS N a=some [aI<|zif a]:=by refine⟨0,?_⟩;unfold zJS oN nB;refine must rfl ?_;cases h:zee a;{refine must (by simp[h]) ?_;simp[zey,h]};{obtain⟨b,c⟩:=zfT.1 h;have r:=zDG (P:=λx=>-1<=scan x/\scan x<=7/\(0<=scan x->wsub .i64 x (zmh .i64 1<|scan x)=zAx .i64 x (zmh .i64 1<|scan x))) zWM b c;refine zci (by simp[h]) ?_;rw[zQx b c];refine must (zbi ⟨b,c⟩) ?_;have e:wsub .i64 (zj2 a) 1=scan a:=(by unfold zj2;rw[zrX (by omega) (by omega)];omega);rw[e];simp[zey,h]}
theorem zOn:vP 301 zqd:=kF1 zhh zn zx zo (zq []) zVp
def zKh (N:Nat)(b:Int):OA:=
 (iter (σ:=(Int×Int×Unit)) N (λc a=>cond (ige a.2.1 0) (oN (zcl a.1)<|cond (zeT a.1) (oN (ile 0<|wcv .u64 a.2.1)<|cond (ieq (wand .i64 (zk1 .i64 a.1<|wcv .u64 a.2.1) 1) 1) (some [aI a.2.1])<|c (a.1,wsub .i64 a.2.1 1,()))<|some [aI<|-1])<|some [aI<|-1]) (b,7,()))
def zXn:=zq [(393,0,{n:=19,tm:=[(0,ti),(3,ti)],lo:=[],ro:=[]})]
theorem zVJ (a:Int)(C:zcl a=true):∃N,zKh N a=some [aI<|zif a]:=by refine⟨10,?_⟩;unfold zKh oN;cases h:zee a;{rw [zeA];refine must rfl ?_;refine must rfl ?_;refine zci h ?_;simp[zey,h]};{have c:zeT a=true:=h;rw[zeA];refine must rfl (must rfl (must c (must rfl (br (λr=>?_) λr=>?_))));{have A:ziv a 7=true:=r;simp[zey,h,scan,A]};have b:ziv a 7=false:=r;show iter 9 _ (a,6,())=_;rw[zeA];refine must rfl (must rfl (must c (must rfl (br (λq=>?_) λq=>?_))));{have z:ziv a 6=true:=q;simp[zey,h,scan,z,b]};have d:ziv a 6=false:=q;show iter 8 _ (a,5,())=_;rw[zeA];refine must rfl (must rfl (must c (must rfl (br (λp=>?_) λp=>?_))));{have y:ziv a 5=true:=p;simp[zey,h,scan,y,b,d]};have e:ziv a 5=false:=p;show iter 7 _ (a,4,())=_;rw[zeA];refine must rfl (must rfl (must c (must rfl (br (λn=>?_) λn=>?_))));{have x:ziv a 4=true:=n;simp[zey,h,scan,x,b,d,e]};have f:ziv a 4=false:=n;show iter 6 _ (a,3,())=_;rw[zeA];refine must rfl (must rfl (must c (must rfl (br (λm=>?_) λm=>?_))));{have w:ziv a 3=true:=m;simp[zey,h,scan,w,b,d,e,f]};have g:ziv a 3=false:=m;show iter 5 _ (a,2,())=_;rw[zeA];refine must rfl (must rfl (must c (must rfl (br (λl=>?_) λl=>?_))));{have v:ziv a 2=true:=l;simp[zey,h,scan,v,b,d,e,f,g]};have i:ziv a 2=false:=l;show iter 4 _ (a,1,())=_;rw[zeA];refine must rfl (must rfl (must c (must rfl (br (λk=>?_) λk=>?_))));{have u:ziv a 1=true:=k;simp[zey,h,scan,u,b,d,e,f,g,i]};have s:ziv a 1=false:=k;show iter 3 _ (a,0,())=_;rw[zeA];refine must rfl (must rfl (must c (must rfl (br (λj=>?_) λj=>?_))));{have t:ziv a 0=true:=j;simp[zey,h,scan,t,b,d,e,f,g,i,s]};have B:ziv a 0=false:=j;show iter 2 _ (a,-1,())=_;rw[zeA];refine zci rfl ?_;simp[zey,h,scan,b,d,e,f,g,i,s,B]}
theorem zON:vP 393 zqd:=kF1 zhh zn zx zo zXn zVJ
theorem zbT {c:Cur}{i k:Int}(h:zbg c)(a:0<=i):zbg ⟨c.b,i,k⟩:=⟨a,h.2⟩
theorem zZJ {c:Cur}(h:zbg c){l:List Int}(a:l≠[]):zbr c l∈l:=(zy7<|zfM h a).2.2 (kT.2 a)
theorem zhf {c:Cur}(h:zbg c){n:Int}(a:0<n):0<=zu c n/\zu c n<n:=(zji<|zbE h n).2.2 a
theorem zL4 {o x:Int}(h:(o=1\/o=2\/o=5\/o=6)/\0<=x/\x<=99\/(o=3\/o=4)/\0<=x/\x<=15\/o=8/\0<=x/\x<=11):zff ⟨o,x⟩=true:=by have w:∀{a b:Int},a<=x->x<=b->zl x a b=true:=λc d=>(by simp only[zl,ige,ile,qE,qY];exact⟨c,d⟩);rcases h with⟨h|h|h|h,c,d⟩|⟨h|h,c,d⟩|⟨h,c,d⟩<;>subst h<;>exact w c d
def zzj (N:Nat)(c:Cur)  : OA :=
 let d:=zbr c [1,2,3,3,3,4,4,4,5,6,8];let a:=({ (zbb c [1,2,3,3,3,4,4,4,5,6,8]) with b:=c.b}:Cur); (share (oN (zD a 16)<|some [.agg [.s .u8 c.b,.i .i64 (zf a 16).i,.i .i64 (zf a 16).h],.agg [.i .i64 d,.i .i64<|zu a 16]]) λf=>share (cond (ieq d 8) (oN (zD a 4)<|some [.agg [.s .u8 c.b,.i .i64 (zf a 4).i,.i .i64 (zf a 4).h],.agg [.i .i64 d,.i .i64<|zu a 4]])<|oN (zD a 100)<|some [.agg [.s .u8 c.b,.i .i64 (zf a 100).i,.i .i64 (zf a 100).h],.agg [.i .i64 d,.i .i64<|zu a 100]]) λe=>oN (zbA c [1,2,3,3,3,4,4,4,5,6,8])<|cond (ieq d 3) (cond (ieq d 3) f e)<|cond (ieq d 4) f e)
def zsx (c:Cur)(s:Cur)(a:Ins):Prop:=(∃N,zzj N c=some (AV.agg (zcj s)::[aT .ins a]))/\(s.b=c.b/\0<=s.i)/\(zff a=true)
def zlE (c:Cur)  : Bool:=wC (zsx c)
def zhK (c:Cur)  : Cur:=wS (zsx c)
def zhs (c:Cur)  : Ins:=wV (zsx c)
theorem zMX {c:Cur}(h:zlE c=true):zsx c (zhK c) (zhs c):=wG h
theorem zAg (c:Cur)  : 0<=(zhK c).i:=wP λh=>h.2.1.2
theorem z1D (c:Cur)(h:∃N,Ends (wE (λa=>aT .ins a) c.b λa=>zff a=true)<|zzj N c):zlE c=true:=wI (λ_ _ h=>h) h
def zA8:zeS:=rP0 λc=>(zlE c,zhK c,[aT .ins<|zhs c])
theorem zOT:zb8 Tryz.prog 262 [false,true,true] zA8:=hP0 zfe zbh zV9 zo (zq []) (λ_ h=>(zMX h).1)
theorem zTL {c:Cur}(h:zbg c):zlE c=true:=by
 refine z1D c ⟨0,?_⟩;have p:([1,2,3,3,3,4,4,4,5,6,8]:List Int)≠[]:=(by simp);have q:=zZJ h p;have f:zbg {zbb c [1,2,3,3,3,4,4,4,5,6,8] with b:=c.b}:=zbT h (zca _ _);have t:=zhf f (n:=16) (by omega);have w:=zhf f (n:=4) (by omega);have m:=zhf f (n:=100) (by omega);unfold zzj oN;conv=>zeta
 generalize zbr c [1,2,3,3,3,4,4,4,5,6,8]=o at q;simp only[qG,qN,or_false]at q;have j:∀{n:Int},ieq o n=false->o≠n:=λh e=>(by subst e;simp[ieq]at h);have k:∀{n:Int},ieq o n=true->o=n:=λh=>by simpa [ieq] using h
 have L:∀(n:Int),0<n->(zff ⟨o,zu {zbb c [1,2,3,3,3,4,4,4,5,6,8] with b:=c.b} n⟩=true)->Ends (λa=>∃s r,a=(AV.agg (zcj s)::[aT .ins r])/\(s.b=c.b/\0<=s.i)/\zff r=true)
  (cond (zD {zbb c [1,2,3,3,3,4,4,4,5,6,8] with b:=c.b} n) (some (AV.agg [.s .u8 c.b,.i .i64 (zf {zbb c [1,2,3,3,3,4,4,4,5,6,8] with b:=c.b} n).i,.i .i64 (zf {zbb c [1,2,3,3,3,4,4,4,5,6,8] with b:=c.b} n).h]::[.agg [.i .i64 o,.i .i64<|zu {zbb c [1,2,3,3,3,4,4,4,5,6,8] with b:=c.b} n]])) none):=
  λn x u=>zG (zbE f n) (zbN (aT .ins) (v:=⟨o,zu _ n⟩) (zI _ _) u)
 refine zG (zfM h p) (zbG (λg=>zbG (λ_=>L 16 (by omega) (zL4 ?_)) λd=>absurd (k g) (j d)) λg=>zbG (λd=>L 16 (by omega) (zL4 ?_)) λd=>zbG (λl=>L 4 (by omega) (zL4 ?_)) λl=>L 100 (by omega) (zL4 ?_));{have:=k g;omega};{have:=k d;omega};{have:=k l;omega};{have:=j g;have:=j d;have:=j l;omega}
def z9d:zdk:=[(262,[false,true,true],zA8)]++z9c
theorem zWa:zcn z9d:=zcY zV9 (by
 intro x a;simp only[qG,qN,or_false]at a;rcases a with rfl
 .exact zOT)
theorem ziZ {x y:Int}(a:0<=x)(b:x<=1000000)(c:0<=y)(d:y<=1000000):zQ .i64 x y=x+y:=zrV (by omega) (by omega)
theorem zmC {a:Type}{l:List a}(h:ln l<=1000000):few (ln l)=true:=qJ ⟨by unfold ln;omega,by omega⟩
theorem zjo {a:Type}(l:List a)(x:a):ln (ap l [x])=ln l+1:=by simp[ln,ap]
def zxk (N:Nat)(c:Cur)  : OA :=
 (iter (σ:=(Int×Int×Int×lI×(List Int)×Unit)) N (λj d=>let e:=d.2.2.2.1;let f:=d.2.2.2.2.1;let g:=(⟨f,d.2.1,d.2.2.1⟩:Cur);let a:=({ (zf g 7) with b:=f}:Cur); (oN (zD g 7)<|cond (ilt d.1<|zQ .i64 2<|zu g 7) (oN (zlE a)<|oN (few<|ln<|ap e [zhs a])<|j (zQ .i64 d.1 1,(zhK a).i,(zhK a).h,ap e [zhs a],f,()))<|oN (zdD a 3)<|cond (zdS a 3) (oN (few<|ln<|ap e [(⟨7,0⟩:Ins)])<|some [.agg [.s .u8 f,.i .i64 (zW a 3).i,.i .i64 (zW a 3).h],aS .ins<|ap e [(⟨7,0⟩:Ins)]])<|oN (few<|ln<|ap e [(⟨8,0⟩:Ins)])<|some [.agg [.s .u8 f,.i .i64 (zW a 3).i,.i .i64 (zW a 3).h],aS .ins<|ap e [(⟨8,0⟩:Ins)]])) (0,c.i,c.h,[],c.b,()))
def zTA:=zq [(259,0,{n:=29,tm:=[(0,.lp 0 0),(3,.sl 0 []),(4,ti)],lo:=[(0,[.sl 1 [],ti,ti])],ro:=[(0,.ins,true),(1,.u8,false)]})]
def zqX (c:Cur)(s:Cur)(a:List Ins):Prop:=(∃N,zxk N c=some (AV.agg (zcj s)::[aS .ins a]))/\(s.b=c.b/\0<=s.i)/\(zd5 a=true)
def ziK (c:Cur)  : Bool:=wC (zqX c)
def zbc (c:Cur)  : Cur:=wS (zqX c)
def zct (c:Cur)  : List Ins:=wV (zqX c)
theorem zsy {c:Cur}(h:ziK c=true):zqX c (zbc c) (zct c):=wG h
theorem zkh (c:Cur)  : 0<=(zbc c).i:=wP λh=>h.2.1.2
theorem zYF (c:Cur)(h:∃N,Ends (wE (λa=>aS .ins a) c.b λa=>zd5 a=true)<|zxk N c):ziK c=true:=wI (λ_ _ h=>h) h
def zyN:zeS:=rP0 λc=>(ziK c,zbc c,[aS .ins<|zct c])
theorem zLN:zb8 Tryz.prog 259 [false,true,true] zyN:=hP0 zfe zbh zWa zo zTA (λ_ h=>(zsy h).1)
theorem zDK {c:Cur}(h:zbg c):ziK c=true:=by
 refine zYF c ⟨9,?_⟩;unfold zxk oN;conv=>zeta
 refine zmB (λn s=>s.1+(n:Int)=8/\0<=s.1/\0<=s.2.1/\(∀x∈s.2.2.2.1,zff x=true)/\ln s.2.2.2.1=s.1/\s.2.2.2.2.1=c.b) ?_ 9 8 _ ⟨rfl,kN 0,h.1,by simp,rfl,rfl⟩ (by omega);rintro n ⟨t,i,k,l,b,u⟩ rec ⟨B,g,v,j,w,z⟩ f;dsimp only at B g v j w z ⊢;subst z;have a:zbg ⟨c.b,i,k⟩:=zbT h v;have d:=zhf a (n:=7) (by omega);have A:=ziZ (x:=2) (by omega) (by omega) d.1 (by omega);have m:zbg {zf ⟨c.b,i,k⟩ 7 with b:=c.b}:=zbT h (zI _ _);have e:∀(y:Ins),zff y=true->2<=t->zd5 (ap l [y])=true:=(by intro y C D;unfold zd5;rw[zjo,w];have:(ap l [y]).all zff=true:=(by simp only[ap,List.all_append,k5,List.all_nil,vF,qE];exact⟨qM.2 j,C⟩);rw[this,cT];simp only[zl,ige,ile,qE,qY];omega);refine zG (zbE a 7) (zbG (λp=>?_) λp=>?_);{have r:t<zQ .i64 2 (zu ⟨c.b,i,k⟩ 7):=qD p;rw[A]at r;refine zG (zTL m) (zG (zmC (by rw[zjo];omega))<|f (n-1) _ (by omega) ⟨?_,?_,zAg _,?_,?_,rfl⟩);{show zQ .i64 t 1+_=8;rw[ziZ g (by omega) (by omega) (by omega)];omega};{show 0<=zQ .i64 t 1;rw[ziZ g (by omega) (by omega) (by omega)];omega};{intro x d;rcases jN.1 d with d|d;{exact j x d};{rw [qF.1 d];exact(zMX<|zTL m).2.2}};{show ln (ap l [_])=zQ .i64 t 1;rw[zjo,ziZ g (by omega) (by omega) (by omega)];omega}};{have q:¬ t<zQ .i64 2 (zu ⟨c.b,i,k⟩ 7):=qW p;rw[A]at q;refine zG (zkF m 3) (zbG (λ_=>zG (zmC (by rw[zjo];omega)) (zbN (aS .ins) (zcR _ _) (e _ rfl (by omega)))) λ_=>zG (zmC (by rw[zjo];omega)) (zbN (aS .ins) (zcR _ _) (e _ rfl (by omega))))}
def z9e:zdk:=[(259,[false,true,true],zyN)]++z9d
theorem zWb:zcn z9e:=zcY zWa (by
 intro x a;simp only[qG,qN,or_false]at a;rcases a with rfl
 .exact zLN)
theorem zXw {f:Type}{c:Cur}(h:zbg c){P:f->Prop}{fc:Cur->Bool}{fs:Cur->Cur}{fv:Cur->f}(C:∀{c:Cur},zbg c->fc c=true)(D:∀c,0<=(fs c).i)(hg:∀{c:Cur},zbg c->P (fv c)){G:Ans->Prop}{R:Cur->List f->Ans}(B:∀s l,s.b=c.b->0<=s.i->1<=l.length->l.length<=2->(∀x∈l,P x)->G (R s l)){F:(Int×Int×Int×List f×List Int×Unit->OA)->Int×Int×Int×List f×List Int×Unit->OA}(A:∀rec t i k l,F rec (t,i,k,l,c.b,())=bif zD ⟨c.b,i,k⟩ 2 then (bif ilt t (zQ .i64 1 (zu ⟨c.b,i,k⟩ 2)) then (bif fc { zf ⟨c.b,i,k⟩ 2 with b:=c.b } then (bif few (ln (ap l [fv { zf ⟨c.b,i,k⟩ 2 with b:=c.b }])) then
        rec (zQ .i64 t 1,(fs {zf ⟨c.b,i,k⟩ 2 with b:=c.b}).i,(fs {zf ⟨c.b,i,k⟩ 2 with b:=c.b}).h,ap l [fv {zf ⟨c.b,i,k⟩ 2 with b:=c.b}],c.b,()) else none) else none) else some (R ⟨c.b,(zf ⟨c.b,i,k⟩ 2).i,(zf ⟨c.b,i,k⟩ 2).h⟩ l)) else none) :
 Ends G (iter 3 F (0,c.i,c.h,[],c.b,())):=by
 refine zmB (fun n s=>s.1+(n:Int)=2/\0<=s.1/\0<=s.2.1/\(∀x∈s.2.2.2.1,P x)/\ln s.2.2.2.1=s.1/\s.2.2.2.2.1=c.b) ?_ 3 2 _ ⟨rfl,kN 0,h.1,by simp,rfl,rfl⟩ (by omega)
 rintro n ⟨t,i,k,l,b,u⟩ rec ⟨z,m,p,g,q,r⟩ e
 dsimp only at z m p g q r
 subst r;rw[A];have a:zbg ⟨c.b,i,k⟩:=zbT h p;have d:=zhf a (n:=2) (by omega)
 have w:=ziZ (x:=1) (by omega) (by omega) d.1 (by omega)
 have v:zbg {zf ⟨c.b,i,k⟩ 2 with b:=c.b}:=zbT h (zI _ _);refine zG (zbE a 2) (zbG (fun j=>?_) (fun j=>?_))
 .have hlt:t<zQ .i64 1 (zu ⟨c.b,i,k⟩ 2):=qD j;rw[w]at hlt;have E:=ziZ (y:=1) m (by omega) (by omega) (by omega)
  refine zG (C v) (zG (zmC (by rw[zjo];omega)) (e (n-1) _ (by omega) ⟨?_,?_,D _,?_,?_,rfl⟩))
  .show zQ .i64 t 1+_=2
   omega
  .show 0<=zQ .i64 t 1
   omega
  .intro x d;rcases jN.1 d with d|d
   .exact g x d
   .rw [qF.1 d];exact hg v
  .show ln (ap l [_])=zQ .i64 t 1
   rw[zjo];omega
 .have hge:¬ t<zQ .i64 1 (zu ⟨c.b,i,k⟩ 2):=qW j;rw[w]at hge;unfold ln at q;exact zu8 (B _ l rfl (zI _ _) (by omega) (by omega) g)
def zuW (N:Nat)(c:Cur)  : OA :=
 (iter (σ:=(Int×Int×Int×lP×(List Int)×Unit)) N (λg a=>let f:=a.2.2.2.2.1;let e:=(⟨f,a.2.1,a.2.2.1⟩:Cur);let d:=({ (zf e 2) with b:=f}:Cur); (oN (zD e 2)<|cond (ilt a.1<|zQ .i64 1<|zu e 2) (oN (ziK d)<|oN (few<|ln<|ap a.2.2.2.1 [zct d])<|g (zQ .i64 a.1 1,(zbc d).i,(zbc d).h,ap a.2.2.2.1 [zct d],f,()))<|some [.agg [.s .u8 f,.i .i64 (zf e 2).i,.i .i64 (zf e 2).h],aS (.sl .ins) a.2.2.2.1])) (0,c.i,c.h,[],c.b,()))
def zQr:=zq [(203,0,{n:=19,tm:=[(0,.lp 0 0),(3,.sl 0 []),(4,ti)],lo:=[(0,[.sl 1 [],ti,ti])],ro:=[(0,.sl .ins,true),(1,.u8,false)]})]
def zo6 (c:Cur)(s:Cur)(a:List (List Ins)):Prop:=(∃N,zuW N c=some (AV.agg (zcj s)::[aS (.sl .ins) a]))/\(s.b=c.b/\0<=s.i)/\(1<=a.length/\a.length<=2/\∀x∈a,zd5 x=true)
def zkW (c:Cur)  : Bool:=wC (zo6 c)
def zkX (c:Cur)  : Cur:=wS (zo6 c)
def zq6 (c:Cur)  : List (List Ins):=wV (zo6 c)
theorem zD2 {c:Cur}(h:zkW c=true):zo6 c (zkX c) (zq6 c):=wG h
theorem zWJ (c:Cur)  : 0<=(zkX c).i:=wP λh=>h.2.1.2
theorem zWI (c:Cur)(h:∃N,Ends (wE (λa=>aS (.sl .ins) a) c.b λa=>1<=a.length/\a.length<=2/\∀x∈a,zd5 x=true)<|zuW N c):zkW c=true:=wI (λ_ _ h=>h) h
def zwP:zeS:=rP0 λc=>(zkW c,zkX c,[aS (.sl .ins)<|zq6 c])
theorem zIF:zb8 Tryz.prog 203 [false,true,true] zwP:=hP0 zfe zbh zWb zo zQr (λ_ h=>(zD2 h).1)
theorem zZL {c:Cur}(h:zbg c):zkW c=true:=by
 refine zWI c ⟨3,?_⟩;unfold zuW oN;conv=>zeta
 exact zXw h (P:=λx=>zd5 x=true) (fc:=ziK) (fs:=zbc) (fv:=zct) (R:=λs l=>AV.agg (zcj s)::[aS (.sl .ins) l]) zDK zkh (λh=>(zsy<|zDK h).2.2) (λs l d e a b f=>⟨s,l,rfl,⟨d,e⟩,a,b,f⟩) (λrec t i k l=>rfl)
def z9f:zdk:=[(203,[false,true,true],zwP)]++z9e
theorem zWc:zcn z9f:=zcY zWb (by
 intro x a;simp only[qG,qN,or_false]at a;rcases a with rfl
 .exact zIF)
def zzo (N:Nat)(c:Cur)  : OA :=
 (iter (σ:=(Int×Int×Int×lQ×(List Int)×Unit)) N (λg a=>let f:=a.2.2.2.2.1;let e:=(⟨f,a.2.1,a.2.2.1⟩:Cur);let d:=({ (zf e 2) with b:=f}:Cur); (oN (zD e 2)<|cond (ilt a.1<|zQ .i64 1<|zu e 2) (oN (zkW d)<|oN (few<|ln<|ap a.2.2.2.1 [zq6 d])<|g (zQ .i64 a.1 1,(zkX d).i,(zkX d).h,ap a.2.2.2.1 [zq6 d],f,()))<|some [.agg [.s .u8 f,.i .i64 (zf e 2).i,.i .i64 (zf e 2).h],aS (.sl<|.sl .ins) a.2.2.2.1])) (0,c.i,c.h,[],c.b,()))
def zXr:=zq [(122,0,{n:=19,tm:=[(0,.lp 0 0),(3,.sl 0 []),(4,ti)],lo:=[(0,[.sl 1 [],ti,ti])],ro:=[(0,.sl<|.sl .ins,true),(1,.u8,false)]})]
def zsD (c:Cur)(s:Cur)(a:List (List<|List Ins)):Prop:=(∃N,zzo N c=some (AV.agg (zcj s)::[aS (.sl<|.sl .ins) a]))/\(s.b=c.b/\0<=s.i)/\(1<=a.length/\a.length<=2/\∀p∈a,1<=p.length/\p.length<=2/\∀x∈p,zd5 x=true)
def zq7 (c:Cur)  : Bool:=wC (zsD c)
def zn2 (c:Cur)  : Cur:=wS (zsD c)
def zvP (c:Cur)  : List (List<|List Ins):=wV (zsD c)
theorem zMZ {c:Cur}(h:zq7 c=true):zsD c (zn2 c) (zvP c):=wG h
theorem z1P (c:Cur)  : 0<=(zn2 c).i:=wP λh=>h.2.1.2
theorem z1O (c:Cur)(h:∃N,Ends (wE (λa=>aS (.sl<|.sl .ins) a) c.b λa=>1<=a.length/\a.length<=2/\∀p∈a,1<=p.length/\p.length<=2/\∀x∈p,zd5 x=true)<|zzo N c):zq7 c=true:=wI (λ_ _ h=>h) h
def zBd:zeS:=rP0 λc=>(zq7 c,zn2 c,[aS (.sl<|.sl .ins)<|zvP c])
theorem zOY:zb8 Tryz.prog 122 [false,true,true] zBd:=hP0 zfe zbh zWc zo zXr (λ_ h=>(zMZ h).1)
theorem z7B {c:Cur}(h:zbg c):zq7 c=true:=by
 refine z1O c ⟨3,?_⟩;unfold zzo oN;conv=>zeta
 exact zXw h (P:=λp=>1<=p.length/\p.length<=2/\∀x∈p,zd5 x=true) (fc:=zkW) (fs:=zkX) (fv:=zq6) (R:=λs l=>AV.agg (zcj s)::[aS (.sl<|.sl .ins) l]) zZL zWJ (λh=>(zD2<|zZL h).2.2) (λs l d e a b f=>⟨s,l,rfl,⟨d,e⟩,a,b,f⟩) (λrec t i k l=>rfl)
def z9g:zdk:=[(122,[false,true,true],zBd)]++z9f
theorem zWd:zcn z9g:=zcY zWc (by
 intro x a;simp only[qG,qN,or_false]at a;rcases a with rfl
 .exact zOY)
theorem zEr {c:Type}{G:c->Prop}{x:Bool}{a b:Option c}(k:Ends G a)(h:x=true:=by first
 |exact zbE (by first|assumption|exact zbT (by assumption) (zI _ _)|exact zbT (by assumption) (zcR _ _)|exact zbT (by assumption) (zca _ _)) _
 |exact zkF (by first|assumption|exact zbT (by assumption) (zI _ _)|exact zbT (by assumption) (zcR _ _)) _
 |exact zfM (by first|assumption|exact zbT (by assumption) (zI _ _)) (by simp)):Ends G (cond x a b):=zG h k
def zzl (N:Nat)(c:Cur)  : OA :=
 let f:=zu c 4;let j:=({ (zf c 4) with b:=c.b}:Cur);let e:=zdS j 4;let d:=zW j 4;let a:=({d with b:=c.b}:Cur);let g:=({ (zW a 2) with b:=c.b}:Cur); (oN (zD c 4)<|oN (zdD j 4)<|cond (nB e) (cond (ine f 2) (oN (zdD a 2)<|cond (zdS a 2) (oN (zD g 256)<|some [.agg [.s .u8 c.b,.i .i64 (zf g 256).i,.i .i64 (zf g 256).h],.agg [.i .i64 f,.i .i64<|zu g 256,.b<|nB e]])<|some [.agg [.s .u8 c.b,.i .i64 (zW a 2).i,.i .i64 (zW a 2).h],.agg [.i .i64 f,.i .i64 0,.b<|nB e]])<|some [.agg [.s .u8 c.b,.i .i64 d.i,.i .i64 d.h],.agg [.i .i64 f,.i .i64 0,.b<|nB e]])<|some [.agg [.s .u8 c.b,.i .i64 d.i,.i .i64 d.h],.agg [.i .i64 f,.i .i64 0,.b<|nB e]])
def zsA (c:Cur)(s:Cur)(a:Ctl):Prop:=(∃N,zzl N c=some (AV.agg (zcj s)::[.agg<|zob a]))/\(s.b=c.b/\0<=s.i)/\(True)
def zlF (c:Cur)  : Bool:=wC (zsA c)
def zcQ (c:Cur)  : Cur:=wS (zsA c)
def zc9 (c:Cur)  : Ctl:=wV (zsA c)
theorem z1H {c:Cur}(h:zlF c=true):zsA c (zcQ c) (zc9 c):=wG h
theorem zAi (c:Cur)  : 0<=(zcQ c).i:=wP λh=>h.2.1.2
theorem z1I (c:Cur)(h:∃N,Ends (wE (λa=>.agg (zob a)) c.b λa=>True)<|zzl N c):zlF c=true:=wI (λ_ _ h=>h) h
def zBa:zeS:=rP0 λc=>(zlF c,zcQ c,[.agg<|zob<|zc9 c])
theorem zOV:zb8 Tryz.prog 125 [false,true,true] zBa:=hP0 zfe zbh zWd zo (zq []) (λ_ h=>(z1H h).1)
theorem z0n {c:Cur}(h:zbg c):zlF c=true:=by
 refine z1I c ⟨0,?_⟩;unfold zzl oN nB;conv=>zeta
 refine zEr (zEr<|zbG (λ_=>zbG (λ_=>zEr (zbG (λ_=>zEr (?_)) λ_=>?_)) λ_=>?_) λ_=>?_);all_goals exact zbN (λx=>AV.agg (zob x)) (v:=⟨_,_,_⟩) (by first|exact zI _ _|exact zcR _ _) trivial
def z9h:zdk:=[(125,[false,true,true],zBa)]++z9g
theorem zJb:zcn z9h:=zcY zWd (by
 intro x a;simp only[qG,qN,or_false]at a;rcases a with rfl
 .exact zOV)
theorem ze0 {c:Type}{G:c->Prop}{x:Bool}{a b:Option c}(k:Ends G a)(h:x=true:=by first
 |exact zbE (by first|assumption|exact zbT (by assumption) (zI _ _)|exact zbT (by assumption) (zca _ _)) _
 |exact zfM (by first|assumption|exact zbT (by assumption) (zI _ _)) (by simp)
 |exact z0n (zbT (by assumption)<|zI _ _)):Ends G (cond x a b):=zG h k
def zzr (N:Nat)(c:Cur)  : OA :=
 let m:=({ (zf c 2) with b:=c.b}:Cur);let g:=zu c 2;let f:=zu m 2;let u:=({ (zf m 2) with b:=c.b}:Cur);let e:=zf u 24;let d:=zu u 24;let a:=({e with b:=c.b}:Cur);let j:=zf a 8;let l:=({ (zf a 4) with b:=c.b}:Cur);let k:=({j with b:=c.b}:Cur);let t:=({ (zf a 16) with b:=c.b}:Cur);let r:=({ (zbb a [16,17]) with b:=c.b}:Cur);let q:=({ (zbb a [13,13,14,15]) with b:=c.b}:Cur);let p:=({ (zf k 4) with b:=c.b}:Cur);let n:=({ (zf l 8) with b:=c.b}:Cur); (share (oN (zbA a [13,13,14,15])<|oN (zD q 8)<|some [.agg [.s .u8 c.b,.i .i64 (zf q 8).i,.i .i64 (zf q 8).h],.agg [.i .i64<|zbr a [13,13,14,15],.i .i64 g,.i .i64 f,.i .i64<|zu q 8,.i .i64 0,.i .i64 0]]) λA=>share (cond (ieq d 16) (oN (zbA a [16,17])<|oN (zD r 4)<|some [.agg [.s .u8 c.b,.i .i64 (zf r 4).i,.i .i64 (zf r 4).h],.agg [.i .i64<|zbr a [16,17],.i .i64 g,.i .i64 f,.i .i64<|zu r 4,.i .i64 0,.i .i64 0]])<|some [.agg [.s .u8 c.b,.i .i64 e.i,.i .i64 e.h],.agg [.i .i64 1,.i .i64 g,.i .i64 f,.i .i64 0,.i .i64 0,.i .i64 0]]) λz=>share (oN (zD a 4)<|oN (zD l 8)<|oN (zbA n [3,3,1,2])<|some [.agg [.s .u8 c.b,.i .i64 (zbb n [3,3,1,2]).i,.i .i64 (zbb n [3,3,1,2]).h],.agg [.i .i64 2,.i .i64 g,.i .i64 f,.i .i64<|zu a 4,.i .i64<|zu l 8,.i .i64<|zbr n [3,3,1,2]]]) λy=>share (oN (zD a 4)<|some [.agg [.s .u8 c.b,.i .i64 (zf a 4).i,.i .i64 (zf a 4).h],.agg [.i .i64 3,.i .i64 g,.i .i64 f,.i .i64<|zu a 4,.i .i64 0,.i .i64 0]]) λx=>share (cond (ieq d 7) (oN (zD a 8)<|some [.agg [.s .u8 c.b,.i .i64 j.i,.i .i64 j.h],.agg [.i .i64 6,.i .i64 g,.i .i64 f,.i .i64<|zu a 8,.i .i64 0,.i .i64 0]])<|cond (ieq d 8) (oN (zlF a)<|cond ((zc9 a).Open) (some [.agg [.s .u8 c.b,.i .i64 (zcQ a).i,.i .i64 (zcQ a).h],.agg [.i .i64 7,.i .i64 g,.i .i64 f,.i .i64 (zc9 a).Traps,.i .i64 (zc9 a).Post,.i .i64 1]])<|some [.agg [.s .u8 c.b,.i .i64 (zcQ a).i,.i .i64 (zcQ a).h],.agg [.i .i64 7,.i .i64 g,.i .i64 f,.i .i64 (zc9 a).Traps,.i .i64 (zc9 a).Post,.i .i64 0]])<|cond (ieq d 9) (oN (zD a 8)<|oN (zD k 4)<|oN (zD p 100)<|some [.agg [.s .u8 c.b,.i .i64 (zf p 100).i,.i .i64 (zf p 100).h],.agg [.i .i64 8,.i .i64 g,.i .i64 f,.i .i64<|zu a 8,.i .i64<|zu k 4,.i .i64<|zu p 100]])<|cond (ieq d 10) (oN (zD a 8)<|some [.agg [.s .u8 c.b,.i .i64 j.i,.i .i64 j.h],.agg [.i .i64 9,.i .i64 g,.i .i64 f,.i .i64<|zu a 8,.i .i64 0,.i .i64 0]])<|cond (ieq d 11) (some [.agg [.s .u8 c.b,.i .i64 e.i,.i .i64 e.h],.agg [.i .i64 10,.i .i64 g,.i .i64 f,.i .i64 0,.i .i64 0,.i .i64 0]])<|cond (ieq d 12) (oN (zD a 16)<|oN (zD t 100)<|some [.agg [.s .u8 c.b,.i .i64 (zf t 100).i,.i .i64 (zf t 100).h],.agg [.i .i64 11,.i .i64 g,.i .i64 f,.i .i64<|zu a 16,.i .i64<|zu t 100,.i .i64 0]])<|cond (ieq d 13) (oN (zD a 16)<|some [.agg [.s .u8 c.b,.i .i64 (zf a 16).i,.i .i64 (zf a 16).h],.agg [.i .i64 12,.i .i64 g,.i .i64 f,.i .i64<|zu a 16,.i .i64 0,.i .i64 0]])<|cond (ieq d 14) (cond (ieq d 14) A z)<|cond (ieq d 15) A z) λv=>share (cond (ieq d 4) (oN (zD a 100)<|some [.agg [.s .u8 c.b,.i .i64 (zf a 100).i,.i .i64 (zf a 100).h],.agg [.i .i64 4,.i .i64 g,.i .i64 f,.i .i64<|zu a 100,.i .i64 0,.i .i64 0]])<|cond (ieq d 5) (cond (ieq d 5) (some [.agg [.s .u8 c.b,.i .i64 e.i,.i .i64 e.h],.agg [.i .i64 5,.i .i64 g,.i .i64 f,.i .i64 0,.i .i64 0,.i .i64 0]]) v)<|cond (ieq d 6) (some [.agg [.s .u8 c.b,.i .i64 e.i,.i .i64 e.h],.agg [.i .i64 5,.i .i64 g,.i .i64 f,.i .i64 0,.i .i64 0,.i .i64 0]]) v) λw=>share (cond (ieq d 2) (cond (ieq d 2) x w)<|cond (ieq d 3) x w) λB=>oN (zD c 2)<|oN (zD m 2)<|oN (zD u 24)<|cond (ieq d 0) (cond (ieq d 0) y B)<|cond (ieq d 1) y B)
def zsF (c:Cur)(s:Cur)(a:GAct):Prop:=(∃N,zzr N c=some (AV.agg (zcj s)::[aT .act a]))/\(s.b=c.b/\0<=s.i)/\(True)
def zjZ (c:Cur)  : Bool:=wC (zsF c)
def zdo (c:Cur)  : Cur:=wS (zsF c)
def zdd (c:Cur)  : GAct:=wV (zsF c)
theorem z1S {c:Cur}(h:zjZ c=true):zsF c (zdo c) (zdd c):=wG h
theorem zM1 (c:Cur)  : 0<=(zdo c).i:=wP λh=>h.2.1.2
theorem z1T (c:Cur)(h:∃N,Ends (wE (λa=>aT .act a) c.b λa=>True)<|zzr N c):zjZ c=true:=wI (λ_ _ h=>h) h
def zBf:zeS:=rP0 λc=>(zjZ c,zdo c,[aT .act<|zdd c])
theorem zO3:zb8 Tryz.prog 66 [false,true,true] zBf:=hP0 zfe zbh zJb zo (zq []) (λ_ h=>(z1S h).1)
theorem z7A {c:Cur}(h:zbg c):zjZ c=true:=by
 refine z1T c ⟨0,?_⟩;unfold zzr oN;conv=>zeta
 refine zpb (ze0<|ze0<|?_) (λ_ g=>zpb (zbG (λ_=>ze0 (ze0<|?_)) λ_=>?_) λ_ f=>zpb (ze0<|ze0<|ze0<|?_) λ_ e=>zpb (ze0<|?_) λ_ d=>zpb (zbG (λ_=>ze0 (?_)) λ_=>zbG (λ_=>ze0 (zbG (λ_=>?_) λ_=>?_)) λ_=>zbG (λ_=>ze0 (ze0<|ze0<|?_)) λ_=>zbG (λ_=>ze0 (?_)) λ_=>zbG (λ_=>?_) λ_=>zbG (λ_=>ze0 (ze0<|?_)) λ_=>zbG (λ_=>ze0 (?_)) λ_=>zbG (λ_=>zbG (λ_=>g) λ_=>f) λ_=>zbG (λ_=>g) λ_=>f) λ_ a=>zpb (zbG (λ_=>ze0 (?_)) λ_=>zbG (λ_=>zbG (λ_=>?_) λ_=>a) λ_=>zbG (λ_=>?_) λ_=>a) λ_ b=>zpb (zbG (λ_=>zbG (λ_=>d) λ_=>b) λ_=>zbG (λ_=>d) λ_=>b) λ_ i=>ze0 (ze0<|ze0<|zbG (λ_=>zbG (λ_=>e) λ_=>i) λ_=>zbG (λ_=>e) λ_=>i));all_goals exact zbN (aT .act) (v:=⟨_,_,_,_,_,_⟩) (by first|exact zI _ _|exact zca _ _|exact zAi _) trivial
def zms (N:Nat)  : OA :=
 (iter (σ:=(Int×lA×Unit)) N (λe c=>cond (ilt c.1 2) (iter (σ:=(Int×Int×lA×Unit)) N (λf b=>cond (ilt b.2.1 2) (iter (σ:=(Int×Int×Int×lA×Unit)) N (λg a=>let d:=ap a.2.2.2.1 [(⟨2,a.1,a.2.1,a.2.2.1,zQ .i64 a.2.2.1<|znd .i64 3 a.2.1,3⟩:GAct),(⟨3,a.1,a.2.1,a.2.2.1,0,0⟩:GAct)]; (cond (ilt a.2.2.1 3) (oN (few<|ln d)<|g (a.1,a.2.1,zQ .i64 a.2.2.1 1,d,()))<|f (a.1,zQ .i64 a.2.1 1,a.2.2.2.1,()))) (b.1,b.2.1,0,b.2.2.1,()))<|e (zQ .i64 b.1 1,b.2.2.1,())) (c.1,0,c.2.1,()))<|some [aS .act c.2.1]) (0,[],()))
def zQs:=zq [(204,0,{n:=34,tm:=[(1,.sl 0 []),(2,ti)],lo:=[],ro:=[(0,.act,true)]}),(204,2,{n:=34,tm:=[(1,.sl 0 []),(2,ti),(3,ti)],lo:=[],ro:=[(0,.act,true)]}),(204,4,{n:=34,tm:=[(1,.sl 0 []),(2,ti),(3,ti),(4,ti)],lo:=[],ro:=[(0,.act,true)]})]
def ztN  (a:List GAct):Prop:=(∃N,zms N=some [aS .act a])/\(a.length<=45)
def zkZ  : Bool:=uC (T:=List GAct) (λr=>ztN r)
def zWL  : List GAct:=uV (λr=>ztN r)
def zuy  : List GAct:=(zWL)
theorem zD3  (h:zkZ=true):ztN zuy:=uG h
theorem zWK  (h:∃N,Ends (λa=>∃b,a=[aS .act b]/\(b.length<=45))<|zms N):zkZ=true:=by obtain⟨N,a,e,b,rfl,h⟩:=h;exact zbi ⟨b,⟨N,e⟩,h⟩
def zy3:Run:=rF0 (zkZ,[aS .act zuy])
theorem zPN  (a:zkZ=true):∃N,zms N  = some [aS .act zuy]:=by exact(zD3 a).1
theorem zIG:vP 204 zy3:=kF0 zfe zbh zJb zo zQs zPN
def z2z:List GAct:=match zms 10 with
 |some [.one<|.s .act l]=>l
 |_=>[]
theorem zZe:zkZ=true:=zWK ⟨10,_,(by kernel_rfl:zms 10=some [aS .act z2z]),z2z,rfl,Nat.le_of_ble_eq_true (by kernel_rfl)⟩
def z9i:zdk:=[(66,[false,true,true],zBf)]++z9h
theorem zWe:zcn z9i:=zcY zJb (by
 intro x a;simp only[qG,qN,or_false]at a;rcases a with rfl
 .exact zO3)
def zbbz:zba:=[(204,zy3)]++zNL
theorem z2D:zT zbbz:=zi zIG zfe
theorem zRr {c:Cur}(h:zbg c){m:Int}(e:0<=m)(J:m<=1000){G:Ans->Prop}{R:Cur->List GAct->Ans}(D:∀s l,s.b=c.b->0<=s.i->ln l<=45+m->G (R s l)){F:(Int×Int×Int×Int×List GAct×List Int×Unit->OA)->Int×Int×Int×Int×List GAct×List Int×Unit->OA}(C:∀rec t i k l,F rec (m,t,i,k,l,c.b,())=bif zD ⟨c.b,i,k⟩ (zQ .i64 m 1) then (bif ilt t (zu ⟨c.b,i,k⟩ (zQ .i64 m 1)) then (bif zjZ { zf ⟨c.b,i,k⟩ (zQ .i64 m 1) with b:=c.b } then (bif few (ln (ap l [zdd { zf ⟨c.b,i,k⟩ (zQ .i64 m 1) with b:=c.b }])) then
        rec (m,zQ .i64 t 1,(zdo {zf ⟨c.b,i,k⟩ (zQ .i64 m 1) with b:=c.b}).i,(zdo {zf ⟨c.b,i,k⟩ (zQ .i64 m 1) with b:=c.b}).h,ap l [zdd {zf ⟨c.b,i,k⟩ (zQ .i64 m 1) with b:=c.b}],c.b,()) else none) else none) else some (R ⟨c.b,(zf ⟨c.b,i,k⟩ (zQ .i64 m 1)).i,(zf ⟨c.b,i,k⟩ (zQ .i64 m 1)).h⟩ l)) else none){w I:Int}(f:0<=w){g:List GAct}(E:g.length<=45):Ends G (iter 1002 F (m,0,w,I,g,c.b,())):=by
 refine zmB (fun n s=>s.1=m/\s.2.1+(n:Int)=1000/\0<=s.2.1/\0<=s.2.2.1/\(ln s.2.2.2.2.1<=45+s.2.1/\s.2.1<=m)/\s.2.2.2.2.2.1=c.b) ?_ 1002 1000 _ ⟨rfl,rfl,kN 0,f,⟨by unfold ln;show ((g.length:Nat):Int)<=45+0;omega,e⟩,rfl⟩ (by omega)
 rintro n ⟨q,t,i,k,l,b,u⟩ rec ⟨e,z,j,p,⟨A,H⟩,r⟩ d
 dsimp only at e z j p A r H
 subst r;subst e;rw[C];have a:zbg ⟨c.b,i,k⟩:=zbT h p;have L:=ziZ (x:=q) (y:=1) (by omega) (by omega) (by omega) (by omega)
 have M:=zhf a (n:=zQ .i64 q 1) (by omega)
 have B:zbg {zf ⟨c.b,i,k⟩ (zQ .i64 q 1) with b:=c.b}:=zbT h (zI _ _);refine zG (zbE a _) (zbG (fun v=>?_) (fun v=>?_))
 .have hlt:t<zu ⟨c.b,i,k⟩ (zQ .i64 q 1):=qD v;have K:=ziZ (y:=1) j (by omega) (by omega) (by omega)
  refine zG (z7A B) (zG (zmC (by rw[zjo];omega)) (d (n-1) _ (by omega) ⟨rfl,?_,?_,zM1 _,⟨?_,?_⟩,rfl⟩))
  .show zQ .i64 t 1+_=1000
   omega
  .show 0<=zQ .i64 t 1
   omega
  .show ln (ap l [_])<=45+zQ .i64 t 1
   rw[zjo];omega
  .show zQ .i64 t 1<=q
   omega
 .refine zu8 (D _ l rfl (zI _ _) ?_);omega
def zxr (N:Nat)(c:Cur)(p:Int):OA:=
 (oN (zdD c 5)<|cond (nB<|zdS c 5) (oN zkZ<|iter (σ:=(Int×Int×Int×Int×lA×(List Int)×Unit)) N (λn a=>let l:=a.2.2.2.2.2.1;let f:=zQ .i64 a.1 1;let d:=(⟨l,a.2.2.1,a.2.2.2.1⟩:Cur);let j:=({ (zf d f) with b:=l}:Cur);let q:=ap a.2.2.2.2.1 [zdd j]; (oN (zD d f)<|cond (ilt a.2.1<|zu d f) (oN (zjZ j)<|oN (few<|ln q)<|n (a.1,zQ .i64 a.2.1 1,(zdo j).i,(zdo j).h,q,l,()))<|some [.agg [.s .u8 l,.i .i64 (zf d f).i,.i .i64 (zf d f).h],aS .act a.2.2.2.2.1])) (p,0,(zW c 5).i,(zW c 5).h,zuy,c.b,()))<|iter (σ:=(Int×Int×Int×Int×lA×(List Int)×Unit)) N (λn a=>let m:=a.2.2.2.2.2.1;let g:=zQ .i64 a.1 1;let e:=(⟨m,a.2.2.1,a.2.2.2.1⟩:Cur);let k:=({ (zf e g) with b:=m}:Cur);let r:=ap a.2.2.2.2.1 [zdd k]; (oN (zD e g)<|cond (ilt a.2.1<|zu e g) (oN (zjZ k)<|oN (few<|ln r)<|n (a.1,zQ .i64 a.2.1 1,(zdo k).i,(zdo k).h,r,m,()))<|some [.agg [.s .u8 m,.i .i64 (zf e g).i,.i .i64 (zf e g).h],aS .act a.2.2.2.2.1])) (p,0,(zW c 5).i,(zW c 5).h,[],c.b,()))
def zTD:=zq [(123,0,{n:=26,tm:=[(0,.lp 0 0),(1,ti),(5,.sl 0 []),(6,ti)],lo:=[(0,[.sl 1 [],ti,ti])],ro:=[(0,.act,true),(1,.u8,false)]})]
def zra (c:Cur)(a:Int)(s:Cur)(d:List GAct):Prop:=(∃N,zxr N c a=some (AV.agg (zcj s)::[aS .act d]))/\(s.b=c.b/\0<=s.i)/\(ln d<=45+a)
def zoD (c:Cur)(a:Int):Bool:=wC (zra c a)
def zoE (c:Cur)(a:Int):Cur:=wS (zra c a)
def ztj (c:Cur)(a:Int):List GAct:=wV (zra c a)
theorem zG9 {c:Cur}{a:Int}(h:zoD c a=true):zra c a (zoE c a) (ztj c a):=wG h
theorem zYO (c:Cur)(a:Int):0<=(zoE c a).i:=wP λh=>h.2.1.2
theorem zYN (c:Cur)(a:Int)(h:∃N,Ends (wE (λd=>aS .act d) c.b λd=>ln d<=45+a)<|zxr N c a):zoD c a=true:=wI (λ_ _ h=>h) h
def zyR:zeS:=rP1 dI λc b=>(zoD c b,zoE c b,[aS .act<|ztj c b])
theorem zL0:zb8 Tryz.prog 123 [false,true,true] zyR:=hP1 z2D zbh zWe zo zTD (λ_ _ h=>(zG9 h).1)
theorem z2r {c:Cur}(h:zbg c){m:Int}(e:0<=m)(f:m<=1000):zoD c m=true:=by
 refine zYN c m ⟨1002,?_⟩;unfold zxr oN nB;conv=>zeta
 have g:=zD3 zZe;exact zG (zkF h 5) (zbG (λ_=>zG zZe (zRr h e f (R:=λs l=>AV.agg (zcj s)::[aS .act l]) (λs l a b d=>⟨s,l,rfl,⟨a,b⟩,d⟩) (λrec t i k l=>rfl) (zcR _ _) g.2)) λ_=>zRr h e f (R:=λs l=>AV.agg (zcj s)::[aS .act l]) (λs l a b d=>⟨s,l,rfl,⟨a,b⟩,d⟩) (λrec t i k l=>rfl) (zcR _ _) (jX _))
def z9j:zdk:=[(123,[false,true,true],zyR)]++z9i
theorem zWf:zcn z9j:=zcY zWe (by
 intro x a;simp only[qG,qN,or_false]at a;rcases a with rfl
 .exact zL0)
@[simp] abbrev zhv (l:List (List Int)):Bool:=pc (SmM l)
@[simp] abbrev zez (l:List (List Int)):List (List Int):=l
def zBi:Run:=rF1 (dS<|.sl .int) λb=>(zhv b,[aS (.sl .int)<|zez b])
def zF4 (N:Nat)(c:lM):OA:=
 (iter (σ:=(Int×Int×lM×lM×Unit)) N (λd a=>let b:=ix a.2.2.2.1 a.2.1 []; (cond (ilt a.2.1 a.1) (oN (inb a.2.1<|ln a.2.2.2.1)<|oN (zeH b)<|oN (few<|ln<|ap a.2.2.1 [zeD b])<|d (a.1,zQ .i64 a.2.1 1,ap a.2.2.1 [zeD b],a.2.2.2.1,()))<|some [aS (.sl .int) a.2.2.1])) (ln c,0,[],c,()))
def zTu:=zq [(126,0,{n:=20,tm:=[(3,.sl 0 []),(7,.sl 1 []),(8,ti),(9,ti)],lo:=[],ro:=[(0,.sl .int,true),(1,.sl .int,false)]})]
theorem zSJ (a:List (List Int))(g:zhv a=true):∃N,zF4 N a=some [aS (.sl .int)<|zez a]:=by
 have f:=zK.1 g;have e:=zda f.1;refine zcE λN d=>?_;unfold zF4 oN;conv=>zeta
 refine(zbq a (λi (t:lM)=>(ln a,(i:Int),t,a,())) _ (λ_ x b j=>bif zeH x then (cond (few<|ln<|ap b [zeD x]) (j<|ap b [zeD x]) none) else none) (λ(t:lM)=>some [.one<|.s (.sl .int) t]) (λi c t rec=>?_) (λt rec=>?_) _ ([])<|d e.1).trans ?_;{simp only [zbI c,zbm c,zbu c,zbj c e.1,cT]};{simp only [zbz,cF]};exact zlc zeH zeD _ a 0 [] (λx h=>⟨by exact zbi (qU (f.2 x h) (by decide)),rfl⟩) (by simpa using e.2)
theorem zLm:vP 126 zBi:=kF1 zhh zn zx zo zTu zSJ
@[simp] abbrev zO (g:Guest):Bool:=pc (SmG g)
@[simp] abbrev zde (g:Guest):Guest:=g
def zwS:Run:=rF1 (dT .guest) λb=>(zO b,[aT .guest<|zde b])
def zAI (N:Nat)(a:Guest):OA:=
 (oN (zvl a.Prog)<|oN (zg4 a.Written)<|oN (zg4 a.Live)<|oN (zeH a.Seen)<|some [aT .guest ({a with Prog:=(zpZ a.Prog),Written:=(ze1 a.Written),Live:=(ze1 a.Live),Seen:=(zeD a.Seen)}:Guest)])
theorem zMg (a:Guest)(b:zO a=true):∃N,zAI N a=some [aT .guest<|zde a]:=by have c:=zK.1 b;obtain⟨h,i,j,k⟩:=c;have d:a.Prog.length<=2147483648:=(by omega);have e:a.Written.length<=2147483648:=(by omega);have f:a.Live.length<=2147483648:=(by omega);have g:a.Seen.length<=2147483648:=(by omega);refine⟨0,?_⟩;unfold zAI oN;refine mu (mu<|mu<|mu ?_);first|rfl|(simp only [*,zde,cT,cF]<;>rfl)|simp_all[Ty.cells,zde]
theorem zE0:vP 215 zwS:=kF1 zhh zn zx zo (zq []) zMg
def zfq (t:List Slot)(p n:Int):Bool:=bif ieq (zbK t p).Page (-1) then false else (cond (enough (zbK t p).Rights n) (zl n 1 3) false)
def zcH (t:List Slot)(p n:Int):Int:=bif zfq t p n then (zbK t p).Page else -1
theorem z6U {r:Int}(h:zen r=true):0<=r/\r<=3:=zfT.1 h
theorem z0F {a n:Int}(h:enough a n=true):zl n 1 3 = !ieq n 0:=by unfold enough at h;cases b:zen a;{rw [b]at h;cases h};{cases c:zen n;{rw [b,c]at h;cases h};{have:=z6U c;have e:(zl n 1 3=true)↔(!ieq n 0)=true:=(by rw[zfT];simp[ieq];omega);cases d:zl n 1 3<;>cases f:(!ieq n 0)<;>simp_all}}
@[simp] abbrev zih (t:List Slot)(p n:Int):Bool:=true
@[simp] abbrev zfr (t:List Slot)(p n:Int):Int:=zcH t p n
@[simp] abbrev zeY (t:List Slot)(p n:Int):Bool:=zfq t p n
def zmk:Run:=rF3 (dS .slot) dI dI λb c d=>(zih b c d,[aI<|zfr b c d,aB<|zeY b c d])
def zAG (N:Nat)(c:lS)(d a:Int):OA:=
 let b:=zeU c d; (oN (zgd c d)<|cond (ieq b.Page<|-1) (some [aI<|-1,aB false])<|oN (zbl b.Rights a)<|cond (nB<|zdr b.Rights a) (some [aI<|-1,aB false])<|oN (zM a 1 3)<|cond (nB<|zl a 1 3) (some [aI<|-1,aB false])<|some [aI b.Page,aB true])
theorem zMe (a:List Slot)(b c:Int)(d:zih a b c=true):∃N,zAG N a b c=some [aI<|zfr a b c,aB<|zeY a b c]:=by
 refine⟨0,?_⟩;unfold zAG oN nB;conv=>zeta
 refine must rfl (br (λ_=>?_) λ_=>must rfl (brN (λ_=>?_) λ_=>must rfl (brN (λ_=>?_) λ_=>?_)));all_goals first|rfl|(simp only [*,zfr,zeY,zcH,zfq,cT,cF]<;>rfl)|simp_all[Ty.cells,zfr,zeY,zcH,zfq]
theorem zEY:vP 228 zmk:=kF3 zhh zn zx zo (zq []) zMe
def zAV (N:Nat)(c:lS)(d b:Int):OA:=
 let a:=zeU c d; (oN (zgd c d)<|cond (ieq a.Page<|-1) (some [aI<|-1,aB false])<|oN (zbl a.Rights b)<|cond (nB<|zdr a.Rights b) (some [aI<|-1,aB false])<|cond (ieq b 0) (some [aI<|-1,aB false])<|some [aI a.Page,aB true])
theorem zMt (a:List Slot)(b c:Int)(d:zih a b c=true):∃N,zAV N a b c=some [aI<|zfr a b c,aB<|zeY a b c]:=by
 have e:=@z0F (zbK a b).Rights c;refine⟨0,?_⟩;unfold zAV oN nB;conv=>zeta
 refine must rfl (br (λ_=>?_) λ_=>must rfl (brN (λ_=>?_) λ_=>br (λ_=>?_) λ_=>?_));all_goals first|rfl|(simp only [*,zfr,zeY,zcH,zfq,cT,cF]<;>rfl)|simp_all[Ty.cells,zfr,zeY,zcH,zfq]
theorem zFc:vP 385 zmk:=kF3 zhh zn zx zo (zq []) zMt
def z8x:zba:=[(197,zjs),(126,zBi),(215,zwS),(385,zmk),(228,zmk),(108,zsm),(105,zsm),(266,zqs),(263,zqs),(267,zsi),(244,zsi),(393,zqd),(301,zqd)]++z8w
theorem zhi:zT z8x:=zi zpv (zi zLm<|zi zE0<|zi zFc<|zi zEY<|zi zSh<|zi zR4<|zi zOI<|zi zOi<|zi zSd<|zi zR0<|zi zON<|zi zOn zhh)
@[simp] abbrev zeh (m:List (List Int))(p c v:Int):Bool:=pc (SmM m)
@[simp] abbrev zeE (m:List (List Int))(p c v:Int):List (List Int):=zbW m p c v
def znR:Run:=rF4 (dS<|.sl .int) dI dI dI λb c d e=>(zeh b c d e,[aS (.sl .int)<|zeE b c d e])
def zCx (N:Nat)(c:lM)(a d e:Int):OA:=
 let b:=zfW c; (oN (zhI c)<|oN (zfJ c a d)<|cond (zrQ c a d) (oN (zM e 0 99)<|cond (zl e 0 99) (oN (inb a<|ln b)<|oN (inb d<|ln<|ix b a [])<|share (up b a<|up (ix b a []) d e) λf=>some [aS (.sl .int) f])<|some [aS (.sl .int) b])<|some [aS (.sl .int) b])
theorem zPK (a:List (List Int))(b c d:Int)(e:zeh a b c d=true):∃N,zCx N a b c d=some [aS (.sl .int)<|zeE a b c d]:=by
 have g:=zK.1 e;have f:=(zz5 a b c).1;refine⟨0,?_⟩;unfold zCx oN;conv=>zeta
 refine mu (must rfl (br (λ_=>must rfl (br (λ_=>mu (mu<|shr ?_)) λ_=>?_)) λ_=>?_));all_goals first|rfl|(simp only [*,zeE,zbW,cT,cF]<;>rfl)|simp_all[Ty.cells,zeE,zbW]
theorem zIx:vP 350 znR:=kF4 zhi zn zx zo (zq []) zPK
def zB7 (N:Nat)(a:lM)(b c d:Int):OA:=
 let e:=aS (.sl .int)<|zez a; (oN (zhv a)<|oN (zbl b<|ln a)<|cond (zch b<|ln a) (oN (inb b<|ln a)<|oN (zbl c<|ln<|ix a b [])<|cond (zch c<|ln<|ix a b []) (oN (zM d 0 99)<|cond (zl d 0 99) (oN (inb b<|ln<|zez a)<|oN (inb c<|ln<|ix (zez a) b [])<|share (up (zez a) b<|up (ix (zez a) b []) c d) λf=>some [aS (.sl .int) f])<|some [e])<|some [e])<|some [e])
theorem zPn (a:List (List Int))(b c d:Int)(e:zeh a b c d=true):∃N,zB7 N a b c d=some [aS (.sl .int)<|zeE a b c d]:=by
 have f:=zK.1 e;refine⟨0,?_⟩;unfold zB7 oN;conv=>zeta
 refine mu (must rfl (br (λ_=>mu (must rfl (br (λ_=>must rfl (br (λ_=>mu (mu<|shr ?_)) λ_=>?_)) λ_=>?_))) λ_=>?_));all_goals first|rfl|(simp only [*,zeE,zbW,zhc,cT,cF]<;>rfl)|simp_all[Ty.cells,zeE,zbW,zhc]
theorem zH9:vP 137 znR:=kF4 zhi zn zx zo (zq []) zPn
def zkm (g:Guest):Bool:=bif canRun g then (cond g.Ctl.Open (ige (zey g.Pending) 0) false) else false
@[simp] abbrev zbx (g:Guest):Bool:=true
@[simp] abbrev zlC (g:Guest):Bool:=zkm g
def znQ:Run:=rF1 (dT .guest) λb=>(zbx b,[aB<|zlC b])
def zCw (N:Nat)(a:Guest):OA:=
 (oN (zur a)<|cond (zpi a) (cond a.Ctl.Open (oN (zcl a.Pending)<|some [aB<|ige (zif a.Pending) 0]) oF) oF)
theorem zyC (a:Guest)(b:zbR big [aT .guest a])(c:zbx a=true):∃N,zCw N a=some [aB<|zlC a]:=by refine⟨0,?_⟩;unfold zCw oN;refine must rfl (br (λ_=>br (λ_=>must rfl ?_) λ_=>?_) λ_=>?_);all_goals first|rfl|(simp only [*,zlC,zkm,cT,cF]<;>rfl)|simp_all[Ty.cells,zlC,zkm]
theorem zIw:vP 365 znQ:=hF1 zhi zn zx zo (zq []) zyC
theorem zH8:vP 212 znQ:=hF1 zhi zn zx zo (zq []) zyC
def zhk (p:Int):Int:=bif ilt (zey p) 0 then p else wsub .i64 p (zmh .i64 1<|zey p)
def zmL (p:Int):Int:=bif ilt (zey p) 0 then -1 else zey p
theorem zRR {p:Int}(h:ilt (zey p) 0=false):wcv .u64 (zey p)=zey p/\ile 0 (zey p)=true/\zAx .i64 p (zmh .i64 1<|zey p)=wsub .i64 p (zmh .i64 1<|zey p):=by unfold zey at *;cases a:zee p;{rw [a]at h;cases h};{simp only [a,cT]at h ⊢;obtain⟨c,d⟩:=zfT.1 a;have r:=zDG (P:=λx=>-1<=scan x/\scan x<=7/\(0<=scan x->wsub .i64 x (zmh .i64 1<|scan x)=zAx .i64 x (zmh .i64 1<|scan x))) zWM c d;have b:0<=scan p:=(by unfold ilt at h;have:=qW h;omega);exact⟨zQx b (by omega),qJ b,(r.2.2 b).symm⟩}
@[simp] abbrev zf4 (p:Int):Int:=zhk p
@[simp] abbrev zf5 (p:Int):Int:=zmL p
@[simp] abbrev zhG (p:Int):Bool:=!ilt (zey p) 0
def zoY:Run:=rF1 dI λb=>(zcl b,[aI<|zf4 b,aI<|zf5 b,aB<|zhG b])
def zGt (N:Nat)(a:Int):OA:=
 (oN (zcl a)<|cond (ilt (zif a) 0) (some [aI a,aI<|-1,aB false])<|oN (ile 0<|wcv .u64<|zif a)<|some [aI<|wsub .i64 a<|zmh .i64 1<|wcv .u64<|zif a,aI<|zif a,aB true])
theorem zS5 (a:Int)(b:zcl a=true):∃N,zGt N a=some [aI<|zf4 a,aI<|zf5 a,aB<|zhG a]:=by have c:=@zRR a;refine⟨0,?_⟩;unfold zGt oN;refine must rfl (br (λ_=>?_) λ_=>mu ?_);all_goals first|rfl|(simp only [*,zf4,zf5,zhG,zhk,zmL,cT,cF]<;>rfl)|simp_all[Ty.cells,zf4,zf5,zhG,zhk,zmL]
theorem zLG:vP 367 zoY:=kF1 zhi zn zx zo (zq []) zS5
def zF3 (N:Nat)(a:Int):OA:=
 (oN (zcl a)<|cond (ilt (zif a) 0) (some [aI a,aI<|-1,aB false])<|oN (ile 0<|zif a)<|some [aI<|zAx .i64 a<|zmh .i64 1<|zif a,aI<|zif a,aB true])
theorem zSI (a:Int)(b:zcl a=true):∃N,zF3 N a=some [aI<|zf4 a,aI<|zf5 a,aB<|zhG a]:=by have c:=@zRR a;refine⟨0,?_⟩;unfold zF3 oN;refine must rfl (br (λ_=>?_) λ_=>mu ?_);all_goals first|rfl|(simp only [*,zf4,zf5,zhG,zhk,zmL,cT,cF]<;>rfl)|simp_all[Ty.cells,zf4,zf5,zhG,zhk,zmL]
theorem zLl:vP 247 zoY:=kF1 zhi zn zx zo (zq []) zSI
def saw (g:Guest)(n:Int):Guest:=bif ilt (ln g.Seen) 40 then {g with Seen:=ap g.Seen [n]} else g
@[simp] theorem zP8 {g:Guest}(n:Int)(h:SmG g):SmG (saw g n):=by unfold saw;cases a:ilt (ln g.Seen) 40;{exact h};{have:=qD a;refine⟨h.1,h.2.1,h.2.2.1,?_⟩;simp[ln] at *;omega}
@[simp] abbrev zuM (g:Guest)(n:Int):Bool:=pc (SmG g)
@[simp] abbrev zqL (g:Guest)(n:Int):Guest:=saw g n
def zwY:Run:=rF2 (dT .guest) dI λb c=>(zuM b c,[aT .guest<|zqL b c])
def zZc (N:Nat)(a:Guest)(b:Int):OA:=
 (oN (zeq a)<|cond (ilt (ln (zdT a).Seen) 40) (oN (few<|ln<|ap (zdT a).Seen [b])<|some [aT .guest ({ (zdT a) with Seen:=(ap (zdT a).Seen [b])}:Guest)])<|some [aT .guest<|zdT a])
theorem z3L (a:Guest)(b:Int)(c:zuM a b=true):∃N,zZc N a b=some [aT .guest<|zqL a b]:=by have d:=zK.1 c;have e:a.Seen.length<=1048576:=d.2.2.2;refine⟨0,?_⟩;unfold zZc oN;refine mu (br (λ_=>mu ?_) λ_=>?_);all_goals first|rfl|(simp only [*,zqL,saw,cT,cF]<;>rfl)|simp_all[Ty.cells,zqL,saw]
theorem zX2:vP 368 zwY:=kF2 zhi zn zx zo (zq []) z3L
def zY8 (N:Nat)(a:Guest)(b:Int):OA:=
 (oN (zO a)<|cond (ilt (ln a.Seen) 40) (oN (few<|ln<|ap (zde a).Seen [b])<|some [aT .guest ({ (zde a) with Seen:=(ap (zde a).Seen [b])}:Guest)])<|some [aT .guest<|zde a])
theorem z3H (a:Guest)(b:Int)(c:zuM a b=true):∃N,zY8 N a b=some [aT .guest<|zqL a b]:=by have d:=zK.1 c;have e:a.Seen.length<=1048576:=d.2.2.2;refine⟨0,?_⟩;unfold zY8 oN;refine mu (br (λ_=>mu ?_) λ_=>?_);all_goals first|rfl|(simp only [*,zqL,saw,cT,cF]<;>rfl)|simp_all[Ty.cells,zqL,saw]
theorem zXY:vP 217 zwY:=kF2 zhi zn zx zo (zq []) z3H
def stopped (g:Guest)(e:GExit):Guest:={g with Exit:=e}
@[simp] theorem zYY {g:Guest}(e:GExit)(h:SmG g):SmG (stopped g e):=h
@[simp] abbrev zcD (g:Guest)(e:GExit):Bool:=pc (SmG g)
@[simp] abbrev zcF (g:Guest)(e:GExit):Guest:=stopped g e
def zoW:Run:=rF2 (dT .guest) dE λb c=>(zcD b c,[aT .guest<|zcF b c])
def zGr (N:Nat)(a:Guest)(b:GExit):OA:=
 (oN (zeq a)<|some [aT .guest ({ (zdT a) with Exit:=b}:Guest)])
theorem zS3 (a:Guest)(b:GExit)(c:zcD a b=true):∃N,zGr N a b=some [aT .guest<|zcF a b]:=by have d:=zK.1 c;refine⟨0,?_⟩;unfold zGr oN;refine mu ?_;first|rfl|(simp only [*,zcF,stopped,cT,cF]<;>rfl)|simp_all[Ty.cells,zcF,stopped]
theorem zLE:vP 372 zoW:=kF2 zhi zn zx zo (zq []) zS3
def zF1 (N:Nat)(a:Guest)(b:GExit):OA:=
 (oN (zO a)<|some [aT .guest ({ (zde a) with Exit:=b}:Guest)])
theorem zSG (a:Guest)(b:GExit)(c:zcD a b=true):∃N,zF1 N a b=some [aT .guest<|zcF a b]:=by have d:=zK.1 c;refine⟨0,?_⟩;unfold zF1 oN;refine mu ?_;first|rfl|(simp only [*,zcF,stopped,cT,cF]<;>rfl)|simp_all[Ty.cells,zcF,stopped]
theorem zLj:vP 135 zoW:=kF2 zhi zn zx zo (zq []) zSG
def zcg (g:Guest):Guest:=bif ige g.Pc 12 then {g with Pc:=12} else {g with Pc:=zQ .i64 g.Pc 1}
@[simp] theorem zk9 {g:Guest}(h:SmG g):SmG (zcg g):=by unfold zcg;cases ige g.Pc 12<;>exact h
@[simp] abbrev zce (g:Guest):Guest:=zcg g
def ziF:Run:=rF1 (dT .guest) λb=>(zO b,[aT .guest<|zce b])
def zQQ (N:Nat)(a:Guest):OA:=
 (oN (zeq a)<|cond (ige (zdT a).Pc 12) (some [aT .guest ({ (zdT a) with Pc:=12}:Guest)])<|some [aT .guest ({ (zdT a) with Pc:=(zQ .i64 (zdT a).Pc 1)}:Guest)])
theorem zYj (a:Guest)(b:zO a=true):∃N,zQQ N a=some [aT .guest<|zce a]:=by have c:=zK.1 b;refine⟨0,?_⟩;unfold zQQ oN;refine mu (br (λ_=>?_) λ_=>?_);all_goals first|rfl|(simp only [*,zce,zcg,cT,cF]<;>rfl)|simp_all[Ty.cells,zce,zcg]
theorem zSj:vP 369 ziF:=kF1 zhi zn zx zo (zq []) zYj
def zQE (N:Nat)(a:Guest):OA:=
 (oN (zO a)<|cond (ige a.Pc 12) (some [aT .guest ({ (zde a) with Pc:=12}:Guest)])<|some [aT .guest ({ (zde a) with Pc:=(zQ .i64 a.Pc 1)}:Guest)])
theorem zX9 (a:Guest)(b:zO a=true):∃N,zQE N a=some [aT .guest<|zce a]:=by have c:=zK.1 b;refine⟨0,?_⟩;unfold zQE oN;refine mu (br (λ_=>?_) λ_=>?_);all_goals first|rfl|(simp only [*,zce,zcg,cT,cF]<;>rfl)|simp_all[Ty.cells,zce,zcg]
theorem zR7:vP 216 ziF:=kF1 zhi zn zx zo (zq []) zX9
def z8y:zba:=[(350,znR),(137,znR),(365,znQ),(212,znQ),(367,zoY),(247,zoY),(368,zwY),(217,zwY),(372,zoW),(135,zoW),(369,ziF),(216,ziF)]++z8x
theorem zfQ:zT z8y:=zi zIx (zi zH9<|zi zIw<|zi zH8<|zi zLG<|zi zLl<|zi zX2<|zi zXY<|zi zLE<|zi zLj<|zi zSj<|zi zR7 zhi)
def interrupted (g:Guest):Guest:=bif zkm g then saw {g with Pending:=zhk g.Pending} (zQ .i64 100<|zmL g.Pending) else g
@[simp] theorem zZQ {g:Guest}(h:SmG g):SmG (interrupted g):=by unfold interrupted;cases zkm g;{exact h};{exact zP8 (g:={g with Pending:=zhk g.Pending}) _ h}
@[simp] abbrev zfu (g:Guest):Guest:=interrupted g
def zkt:Run:=rF1 (dT .guest) λb=>(zO b,[aT .guest<|zfu b])
def zv9 (N:Nat)(a:Guest):OA:=
 let c:=zQ .i64 100<|zf5 a.Pending;let b:=({a with Pending:=(zf4 a.Pending)}:Guest); (oN (zbx a)<|cond (nB<|zlC a) (oN (zeq a)<|some [aT .guest<|zdT a])<|oN (zcl a.Pending)<|oN (zuM b c)<|some [aT .guest<|zqL b c])
theorem zFA (a:Guest)(b:zO a=true):∃N,zv9 N a=some [aT .guest<|zfu a]:=by
 have c:=zK.1 b;have d:_/\_/\_/\_:=c;refine⟨0,?_⟩;unfold zv9 oN nB;conv=>zeta
 refine must rfl (brN (λ_=>mu ?_) λ_=>must rfl (mu ?_));all_goals first|rfl|(simp only [*,zfu,interrupted,cT,cF]<;>rfl)|simp_all[Ty.cells,zfu,interrupted]
theorem zBR:vP 333 zkt:=kF1 zfQ zn zx zo (zq []) zFA
def zvY (N:Nat)(a:Guest):OA:=
 let c:=zQ .i64 100<|zf5 a.Pending;let b:=({a with Pending:=(zf4 a.Pending)}:Guest); (oN (zbx a)<|cond (nB<|zlC a) (oN (zO a)<|some [aT .guest<|zde a])<|oN (zcl a.Pending)<|oN (zuM b c)<|some [aT .guest<|zqL b c])
theorem zFp (a:Guest)(b:zO a=true):∃N,zvY N a=some [aT .guest<|zfu a]:=by
 have c:=zK.1 b;have d:_/\_/\_/\_:=c;refine⟨0,?_⟩;unfold zvY oN nB;conv=>zeta
 refine must rfl (brN (λ_=>mu ?_) λ_=>must rfl (mu ?_));all_goals first|rfl|(simp only [*,zfu,interrupted,cT,cF]<;>rfl)|simp_all[Ty.cells,zfu,interrupted]
theorem zBG:vP 226 zkt:=kF1 zfQ zn zx zo (zq []) zFp
def zyH (o:Int):Int:=bif ieq o 3 then 3 else (cond (ieq o 4) 4<|cond (ieq o 5) 5<|cond (ieq o 6) 6<|cond (ieq o 7) 7 2)
def zN (g:Guest):Int:=bif canRun g then (cond (zkm g) 1<|zyH (zcK g.Prog g.Pc).Op) else 0
@[simp] abbrev zio (g:Guest):Int:=zN g
def zqx:Run:=rF1 (dT .guest) λb=>(zbx b,[aI<|zio b])
def zKj (N:Nat)(a:Guest):OA:=
 let b:=(zea a.Prog a.Pc).Op; (oN (zur a)<|cond (nB<|zpi a) (some [aI 0])<|oN (zbx a)<|cond (zlC a) (some [aI 1])<|oN (zef a.Prog a.Pc)<|cond (ieq b 3) (some [aI 3])<|cond (ieq b 4) (some [aI 4])<|cond (ieq b 5) (some [aI 5])<|cond (ieq b 6) (some [aI 6])<|cond (ieq b 7) (some [aI 7])<|some [aI 2])
theorem zDA (a:Guest)(b:zbR big [aT .guest a])(c:zbx a=true):∃N,zKj N a=some [aI<|zio a]:=by
 refine⟨0,?_⟩;unfold zKj oN nB;conv=>zeta
 refine must rfl (brN (λ_=>?_) λ_=>must rfl (br (λ_=>?_) λ_=>must rfl (br (λ_=>?_) λ_=>br (λ_=>?_) λ_=>br (λ_=>?_) λ_=>br (λ_=>?_) λ_=>br (λ_=>?_) λ_=>?_)));all_goals first|rfl|(simp only [*,zio,zN,zyH,cT,cF]<;>rfl)|simp_all[Ty.cells,zio,zN,zyH]
theorem zcU:vP 332 zqx:=hF1 zfQ zn zx zo (zq []) zDA
theorem zOp:vP 130 zqx:=hF1 zfQ zn zx zo (zq []) zDA
def held (g:Guest):Guest:=zcg {g with Halted:=true}
@[simp] theorem zWQ {g:Guest}(h:SmG g):SmG (held g):=zk9 (g:={g with Halted:=true}) h
@[simp] abbrev zja (g:Guest):Guest:=held g
def zuq:Run:=rF1 (dT .guest) λb=>(zO b,[aT .guest<|zja b])
def zT1 (N:Nat)(b:Guest):OA:=
 let a:=({b with Halted:=true}:Guest); (oN (zO a)<|some [aT .guest<|zce a])
theorem zMr (a:Guest)(d:zbR big [aT .guest a])(b:zO a=true):∃N,zT1 N a=some [aT .guest<|zja a]:=by
 have c:=zK.1 b;have e:_/\_/\_/\_:=c;refine⟨0,?_⟩;unfold zT1 oN;conv=>zeta
 refine mu ?_;first|rfl|(simp only [*,zja,held,cT,cF]<;>rfl)|simp_all[Ty.cells,zja,held]
theorem zUY:vP 380 zuq:=hF1 zfQ zn zx zo (zq []) zMr
theorem zUT:vP 221 zuq:=hF1 zfQ zn zx zo (zq []) zMr
def zKg (N:Nat)(a:Guest):OA:=
 (oN (zO a)<|some [aT .guest<|zce a])
theorem zDz (a:Guest)(c:zbR big [aT .guest a])(b:zO a=true):∃N,zKg N a=some [aT .guest<|zce a]:=by have d:=zK.1 b;refine⟨0,?_⟩;unfold zKg oN;refine mu ?_;first|rfl|(simp only [*,zce,cT,cF]<;>rfl)|simp_all[Ty.cells,zce]
theorem zOM:vP 373 ziF:=hF1 zfQ zn zx zo (zq []) zDz
theorem zOm:vP 139 ziF:=hF1 zfQ zn zx zo (zq []) zDz
def loaded (g:Guest)(v:Int):Guest:=zcg (saw {g with A:=v} v)
@[simp] theorem zM9 {g:Guest}(v:Int)(h:SmG g):SmG (loaded g v):=zk9 (zP8 (g:={g with A:=v}) v h)
@[simp] abbrev znV (g:Guest)(v:Int):Bool:=pc (SmG g)
@[simp] abbrev zlx (g:Guest)(v:Int):Guest:=loaded g v
def zqm:Run:=rF2 (dT .guest) dI λb c=>(znV b c,[aT .guest<|zlx b c])
def zJ4 (N:Nat)(c:Guest)(a:Int):OA:=
 let b:=({c with A:=a}:Guest); (oN (zuM b a)<|oN (zO<|zqL b a)<|some [aT .guest<|zce<|zqL b a])
theorem zDv (b:Guest)(a:Int)(e:zbR big [aT .guest b,aI a])(d:znV b a=true):∃N,zJ4 N b a=some [aT .guest<|zlx b a]:=by
 have c:=zK.1 d;have h:_/\_/\_/\_:=c;have f:SmG (saw {b with A:=a} a):=zP8 (g:={b with A:=a}) a c;refine⟨0,?_⟩;unfold zJ4 oN;conv=>zeta
 refine mu (mu ?_);first|rfl|(simp only [*,zlx,loaded,cT,cF]<;>rfl)|simp_all[Ty.cells,zlx,loaded]
theorem zOB:vP 374 zqm:=hF2 zfQ zn zx zo (zq []) zDv
theorem zN9:vP 140 zqm:=hF2 zfQ zn zx zo (zq []) zDv
def zrU (g:Guest)(w:Int):Guest:=bif ieq w 5 then stopped g (zyI (zcK g.Prog g.Pc).X) else stopped g ⟨4,0,false,0⟩
@[simp] theorem zbch {g:Guest}(w:Int)(h:SmG g):SmG (zrU g w):=by unfold zrU;cases ieq w 5<;>exact h
@[simp] abbrev zok (g:Guest)(w:Int):Bool:=pc (SmG g)
@[simp] abbrev zk3 (g:Guest)(w:Int):Guest:=zrU g w
def zBk:Run:=rF2 (dT .guest) dI λb c=>(zok b c,[aT .guest<|zk3 b c])
def zF7 (N:Nat)(a:Guest)(c:Int):OA:=
 let b:=(zea a.Prog a.Pc).X; (cond (ieq c 5) (oN (zef a.Prog a.Pc)<|oN (zfl b)<|oN (zcD a<|zgq b)<|some [aT .guest<|zcF a<|zgq b])<|oN (zcD a (⟨4,0,false,0⟩:GExit))<|some [aT .guest<|zcF a (⟨4,0,false,0⟩:GExit)])
theorem zSM (a:Guest)(b:Int)(c:zok a b=true):∃N,zF7 N a b=some [aT .guest<|zk3 a b]:=by
 have d:=zK.1 c;refine⟨0,?_⟩;unfold zF7 oN;conv=>zeta
 refine br (λ_=>must rfl (must rfl (mu ?_))) (λ_=>mu ?_);all_goals first|rfl|(simp only [*,zk3,zrU,cT,cF]<;>rfl)|simp_all[Ty.cells,zk3,zrU]
theorem zLp:vP 220 zBk:=kF2 zfQ zn zx zo (zq []) zSM
def zes (g:Guest):Bool:=zd5 g.Prog&&(zl g.A 0 99&&(zl g.Pc 0 12&&(zdL g.Written 4 8&&(zdL g.Live 4 8&&(znn g.Ctl&&(zee g.Pending&&(zjL g.Exit&&ile (ln g.Seen) 40)))))))
@[simp] abbrev ziG (g:Guest):Bool:=zes g
def zoN:Run:=rF1 (dT .guest) λb=>(zbx b,[aB<|ziG b])
def zGd (N:Nat)(a:Guest):OA:=
 (oN (zuu a.Prog)<|cond (zin a.Prog) (oN (zM a.A 0 99)<|cond (zl a.A 0 99) (oN (zM a.Pc 0 12)<|cond (zl a.Pc 0 12) (oN (zkd a.Written 4 8)<|cond (zfn a.Written 4 8) (oN (zkd a.Live 4 8)<|cond (zfn a.Live 4 8) (oN (zfs a.Ctl)<|cond (znU a.Ctl) (oN (zcl a.Pending)<|cond (zeT a.Pending) (oN (zus a.Exit)<|cond (zmZ a.Exit) (some [aB<|ile (ln a.Seen) 40]) oF) oF) oF) oF) oF) oF) oF) oF)
theorem zA3 (a:Guest)(b:zbR big [aT .guest a])(c:zbx a=true):∃N,zGd N a=some [aB<|ziG a]:=by refine⟨0,?_⟩;unfold zGd oN;refine must rfl (br (λ_=>must rfl (br (λ_=>must rfl (br (λ_=>must rfl (br (λ_=>must rfl (br (λ_=>must rfl (br (λ_=>must rfl (br (λ_=>must rfl (br (λ_=>?_) λ_=>?_)) λ_=>?_)) λ_=>?_)) λ_=>?_)) λ_=>?_)) λ_=>?_)) λ_=>?_)) λ_=>?_);all_goals first|rfl|(simp only [*,ziG,zes,cT,cF]<;>rfl)|simp_all[Ty.cells,ziG,zes]
theorem zLr:vP 192 zoN:=hF1 zfQ zn zx zo (zq []) zA3
theorem zK7:vP 189 zoN:=hF1 zfQ zn zx zo (zq []) zA3
@[simp] abbrev zdh (l:List Guest):Bool:=pc (zmt l)
@[simp] abbrev zdW (l:List Guest):List Guest:=l
def zvE:Run:=rF1 (dS .guest) λb=>(zdh b,[aS .guest<|zdW b])
def zx4 (N:Nat)(c:lG):OA:=
 (iter (σ:=(Int×Int×lG×lG×Unit)) N (λd a=>let b:=ix a.2.2.2.1 a.2.1 zy; (cond (ilt a.2.1 a.1) (oN (inb a.2.1<|ln a.2.2.2.1)<|oN (zO b)<|oN (few<|ln<|ap a.2.2.1 [zde b])<|d (a.1,zQ .i64 a.2.1 1,ap a.2.2.1 [zde b],a.2.2.2.1,()))<|some [aS .guest a.2.2.1])) (ln c,0,[],c,()))
def zJt:=zq [(207,0,{n:=20,tm:=[(3,.sl 0 []),(7,.sl 1 []),(8,ti),(9,ti)],lo:=[],ro:=[(0,.guest,true),(1,.guest,false)]})]
theorem zIS (a:List Guest)(g:zdh a=true):∃N,zx4 N a=some [aS .guest<|zdW a]:=by
 have f:=zK.1 g;have e:=zda f.1;refine zcE λN d=>?_;unfold zx4 oN;conv=>zeta
 refine(zbq a (λi (t:lG)=>(ln a,(i:Int),t,a,())) _ (λ_ x b j=>bif zO x then (cond (few<|ln<|ap b [zde x]) (j<|ap b [zde x]) none) else none) (λ(t:lG)=>some [.one<|.s .guest t]) (λi c t rec=>?_) (λt rec=>?_) _ ([])<|d e.1).trans ?_;{simp only [zbI c,zbm c,zbu c,zbj c e.1,cT]};{simp only [zbz,cF]};exact zlc zO zde _ a 0 [] (λx h=>⟨by exact zbi (f.2 x h),rfl⟩) (by simpa using e.2)
theorem zDb:vP 207 zvE:=kF1 zfQ zn zx zo zJt zIS
def gAt (b:Bare)(i:Int):Guest:=bif hasB i (ln b.Guests) then ix b.Guests i zy else Ty.dflt .guest
@[simp] theorem zgs {b:Bare}(i:Int)(h:SmB b):SmG (gAt b i):=by unfold gAt;cases a:hasB i (ln b.Guests);{exact zbcQ};{exact zWR h.2.1 a _}
@[simp] abbrev zel (b:Bare)(i:Int):Bool:=pc (SmB b)
@[simp] abbrev zej (b:Bare)(i:Int):Guest:=gAt b i
@[simp] abbrev zek (b:Bare)(i:Int):Bool:=hasB i (ln b.Guests)
def zBh:Run:=rF2 (dT .bare) dI λb c=>(zel b c,[aT .guest<|zej b c,aB<|zek b c])
def zFR (N:Nat)(a:Bare)(b:Int):OA:=
 let c:=ix a.Guests b zy; (oN (zbl b<|ln a.Guests)<|cond (nB<|zch b<|ln a.Guests) (some [aT .guest (⟨[],0,0,[],[],⟨0,0,false⟩,0,⟨0,0,false,0⟩,false,[]⟩:Guest),aB false])<|oN (inb b<|ln a.Guests)<|oN (zO c)<|some [aT .guest<|zde c,aB true])
theorem zSw (a:Bare)(b:Int)(d:zel a b=true):∃N,zFR N a b=some [aT .guest<|zej a b,aB<|zek a b]:=by
 have c:=zK.1 d;have e:a.Guests.length<=1048576:=c.2.1.1;have f:hasB b (ln a.Guests)=true->SmG (ix a.Guests b zy):=λh=>zWR c.2.1 h _;refine⟨0,?_⟩;unfold zFR oN nB;conv=>zeta
 refine must rfl (brN (λ_=>?_) λ_=>mu (mu ?_));all_goals first|rfl|(simp only [*,zej,zek,gAt,Ty.dflt,cT,cF]<;>rfl)|simp_all[Ty.cells,zej,zek,gAt,Ty.dflt]
theorem zK6:vP 222 zBh:=kF2 zfQ zn zx zo (zq []) zSw
def z8z:zba:=[(333,zkt),(226,zkt),(332,zqx),(130,zqx),(380,zuq),(221,zuq),(373,ziF),(139,ziF),(374,zqm),(140,zqm),(220,zBk),(192,zoN),(189,zoN),(207,zvE),(222,zBh)]++z8y
theorem zj5:zT z8z:=zi zBR (zi zBG<|zi zcU<|zi zOp<|zi zUY<|zi zUT<|zi zOM<|zi zOm<|zi zOB<|zi zN9<|zi zLp<|zi zLr<|zi zK7<|zi zDb<|zi zK6 zfQ)
def plainly (g:Guest):Guest:=bif ine (zN g) 2 then g else (cond (zl g.A 0 99) (cond (zl (zcK g.Prog g.Pc).X 0 99) (cond (ieq (zcK g.Prog g.Pc).Op 1) {zcg g with A:=(zcK g.Prog g.Pc).X}<|cond (ieq (zcK g.Prog g.Pc).Op 2) {zcg g with A:=zrh (zQ .i64 g.A (zcK g.Prog g.Pc).X) 100}<|cond (ieq (zcK g.Prog g.Pc).Op 8) (cond (ieq g.A 0) {zcg g with Pc:=(zcK g.Prog g.Pc).X}<|zcg g)<|zcg g)<|zcg g)<|zcg g)
@[simp] theorem zbcI (g:Guest):(zcg g).Prog=g.Prog:=by unfold zcg;cases ige g.Pc 12<;>rfl
@[simp] theorem zbdk (g:Guest):(zcg g).A=g.A:=by unfold zcg;cases ige g.Pc 12<;>rfl
@[simp] theorem zba7 (g:Guest):(zcg g).Written=g.Written:=by unfold zcg;cases ige g.Pc 12<;>rfl
@[simp] theorem zbcH (g:Guest):(zcg g).Live=g.Live:=by unfold zcg;cases ige g.Pc 12<;>rfl
@[simp] theorem zbcY (g:Guest):(zcg g).Ctl=g.Ctl:=by unfold zcg;cases ige g.Pc 12<;>rfl
@[simp] theorem zba6 (g:Guest):(zcg g).Pending=g.Pending:=by unfold zcg;cases ige g.Pc 12<;>rfl
@[simp] theorem zbcG (g:Guest):(zcg g).Exit=g.Exit:=by unfold zcg;cases ige g.Pc 12<;>rfl
@[simp] theorem zbbY (g:Guest):(zcg g).Halted=g.Halted:=by unfold zcg;cases ige g.Pc 12<;>rfl
@[simp] theorem zbcJ (g:Guest):(zcg g).Seen=g.Seen:=by unfold zcg;cases ige g.Pc 12<;>rfl
@[simp] theorem zbcZ (g:Guest)(x:Int):(zcg {g with A:=x}).Pc=(zcg g).Pc:=by unfold zcg;cases ige g.Pc 12<;>rfl
@[simp] theorem zHd {g:Guest}(h:SmG g):SmG (plainly g):=by have a:=zk9 h;unfold plainly;cases ine (zN g) 2;{cases zl g.A 0 99;{exact a};{cases zl (zcK g.Prog g.Pc).X 0 99;{exact a};{cases ieq (zcK g.Prog g.Pc).Op 1;{cases ieq (zcK g.Prog g.Pc).Op 2;{cases ieq (zcK g.Prog g.Pc).Op 8;{exact a};{cases ieq g.A 0<;>exact a}};{exact a}};{exact a}}}};{exact h}
@[simp] abbrev ziC (g:Guest):Guest:=plainly g
def zoL:Run:=rF1 (dT .guest) λb=>(zO b,[aT .guest<|ziC b])
def zFZ (N:Nat)(a:Guest):OA:=
 let c:=aT .guest<|zce a;let b:=zea a.Prog a.Pc; (oN (zbx a)<|cond (ine (zio a) 2) (oN (zO a)<|some [aT .guest<|zde a])<|oN (zef a.Prog a.Pc)<|oN (zO a)<|oN (zM a.A 0 99)<|cond (nB<|zl a.A 0 99) (some [c])<|oN (zM b.X 0 99)<|cond (nB<|zl b.X 0 99) (some [c])<|cond (ieq b.Op 1) (some [aT .guest ({ (zce a) with A:=b.X}:Guest)])<|cond (ieq b.Op 2) (oN (ine 100 0)<|some [aT .guest ({ (zce a) with A:=(zrh (zQ .i64 a.A b.X) 100)}:Guest)])<|cond (ieq b.Op 8) (cond (ieq a.A 0) (some [aT .guest ({ (zce a) with Pc:=b.X}:Guest)])<|some [c])<|some [c])
theorem zSE (a:Guest)(b:zO a=true):∃N,zFZ N a=some [aT .guest<|ziC a]:=by
 have c:=zK.1 b;refine⟨0,?_⟩;unfold zFZ oN nB;conv=>zeta
 refine must rfl (br (λ_=>mu ?_) λ_=>must rfl (mu (must rfl (brN (λ_=>?_) λ_=>must rfl (brN (λ_=>?_) λ_=>br (λ_=>?_) λ_=>br (λ_=>must rfl ?_) λ_=>br (λ_=>br (λ_=>?_) λ_=>?_) λ_=>?_)))));all_goals first|rfl|(simp only [*,ziC,plainly,cT,cF]<;>rfl)|simp_all[Ty.cells,ziC,plainly]
theorem zLh:vP 227 zoL:=kF1 zj5 zn zx zo (zq []) zSE
def zGp (N:Nat)(a:Guest):OA:=
 let i:=ieq a.A 0;let c:=zO a;let b:=aT .guest<|zce a;let d:=zea a.Prog a.Pc;let j:=({a with A:=d.X}:Guest);let h:=ieq d.Op 8;let e:=zl d.X 0 99;let g:=aT .guest ({ (zdT a) with Pc:=d.X}:Guest);let f:=({a with A:=(zrh (zQ .i64 a.A d.X) 100)}:Guest); (oN (zbx a)<|cond (ine (zio a) 2) (oN (zeq a)<|some [aT .guest<|zdT a])<|oN (zef a.Prog a.Pc)<|oN (zM a.A 0 99)<|cond (zl a.A 0 99) (oN (zM d.X 0 99)<|cond e (cond (ieq d.Op 1) (oN (zO j)<|some [aT .guest<|zce j])<|cond e (cond (ieq d.Op 2) (oN (ine 100 0)<|oN (zO f)<|some [aT .guest<|zce f])<|cond e (cond h (cond i (oN (zeq a)<|some [g])<|oN c<|some [b])<|oN c<|some [b])<|oN c<|some [b])<|cond e (cond h (cond i (oN (zeq a)<|some [g])<|oN c<|some [b])<|oN c<|some [b])<|oN c<|some [b])<|cond e (cond (ieq d.Op 2) (oN (ine 100 0)<|oN (zO f)<|some [aT .guest<|zce f])<|cond e (cond h (cond i (oN (zeq a)<|some [g])<|oN c<|some [b])<|oN c<|some [b])<|oN c<|some [b])<|cond e (cond h (cond i (oN (zeq a)<|some [g])<|oN c<|some [b])<|oN c<|some [b])<|oN c<|some [b])<|oN c<|some [b])
theorem zS1 (a:Guest)(b:zO a=true):∃N,zGp N a=some [aT .guest<|ziC a]:=by
 have c:=zK.1 b;have d:_/\_/\_/\_:=c;refine⟨0,?_⟩;unfold zGp oN;conv=>zeta
 refine must rfl (br (λ_=>mu ?_) λ_=>must rfl (must rfl (br (λ_=>must rfl (br (λ_=>br (λ_=>mu ?_) λ_=>br (λ_=>br (λ_=>must rfl (mu ?_)) λ_=>br (λ_=>br (λ_=>br (λ_=>mu ?_) λ_=>mu ?_) λ_=>mu ?_) λ_=>mu ?_) λ_=>br (λ_=>br (λ_=>br (λ_=>mu ?_) λ_=>mu ?_) λ_=>mu ?_) λ_=>mu ?_) λ_=>br (λ_=>br (λ_=>must rfl (mu ?_)) λ_=>br (λ_=>br (λ_=>br (λ_=>mu ?_) λ_=>mu ?_) λ_=>mu ?_) λ_=>mu ?_) λ_=>br (λ_=>br (λ_=>br (λ_=>mu ?_) λ_=>mu ?_) λ_=>mu ?_) λ_=>mu ?_)) λ_=>mu ?_)));all_goals first|rfl|(simp only [*,ziC,plainly,cT,cF]<;>rfl)|simp_all[Ty.cells,ziC,plainly]
theorem zLC:vP 334 zoL:=kF1 zj5 zn zx zo (zq []) zS1
def address (g:Guest):Int:=bif ine (zN g) 3 then (cond (ine (zN g) 4) (-1)<|(zcK g.Prog g.Pc).X) else (zcK g.Prog g.Pc).X
@[simp] abbrev zhX (g:Guest):Int:=address g
def zoM:Run:=rF1 (dT .guest) λb=>(zbx b,[aI<|zhX b])
def zF8 (N:Nat)(a:Guest):OA:=
 (oN (zbx a)<|cond (ine (zio a) 3) (cond (ine (zio a) 4) (some [aI<|-1])<|oN (zef a.Prog a.Pc)<|some [aI (zea a.Prog a.Pc).X])<|oN (zef a.Prog a.Pc)<|some [aI (zea a.Prog a.Pc).X])
theorem zA2 (a:Guest)(b:zbR big [aT .guest a])(c:zbx a=true):∃N,zF8 N a=some [aI<|zhX a]:=by refine⟨0,?_⟩;unfold zF8 oN;refine must rfl (br (λ_=>br (λ_=>?_) λ_=>must rfl ?_) λ_=>must rfl ?_);all_goals first|rfl|(simp only [*,zhX,address,cT,cF]<;>rfl)|simp_all[Ty.cells,zhX,address]
theorem zLq:vP 370 zoM:=hF1 zj5 zn zx zo (zq []) zA2
theorem zK5:vP 131 zoM:=hF1 zj5 zn zx zo (zq []) zA2
def zgx (g:Guest)(t w:Int):Guest:=bif ieq w 6 then stopped g (zu1 (zcK g.Prog g.Pc).X) else (cond (ieq w 5&&zet t 1) (stopped g<|zyI (zcK g.Prog g.Pc).X)<|cond (ieq w 7&&zet t 2) (stopped g ⟨4,0,false,0⟩)<|cond (ieq w 7) (held g)<|zcg g)
def zie (t w:Int):Bool:=bif ieq w 6 then false else (cond (ieq w 5&&zet t 1) false<|cond (ieq w 7&&zet t 2) false true)
@[simp] theorem zD6 {g:Guest}(t w:Int)(h:SmG g):SmG (zgx g t w):=by unfold zgx;cases ieq w 6;{cases (ieq w 5&&zet t 1);{cases (ieq w 7&&zet t 2);{cases ieq w 7;{exact zk9 h};{exact zWQ h}};{exact h}};{exact h}};{exact h}
@[simp] abbrev ze6 (g:Guest)(t w:Int):Bool:=pc (SmG g)
@[simp] abbrev zcS (g:Guest)(t w:Int):Guest:=zgx g t w
@[simp] abbrev zer (g:Guest)(t w:Int):Bool:=zie t w
def zBr:Run:=rF3 (dT .guest) dI dI λb c d=>(ze6 b c d,[aT .guest<|zcS b c d,aB<|zer b c d])
def zGy (N:Nat)(a:Guest)(c b:Int):OA:=
 let g:=aT .guest<|zce a;let f:=aT .guest<|zja a;let e:=(⟨4,0,false,0⟩:GExit);let d:=(zea a.Prog a.Pc).X; (oN (zef a.Prog a.Pc)<|cond (ieq b 6) (oN (zfl d)<|oN (zcD a<|zfd d)<|some [aT .guest<|zcF a<|zfd d,aB false])<|cond (ieq b 5) (oN (zgC c 1)<|cond (zfV c 1) (oN (zfl d)<|oN (zcD a<|zgq d)<|some [aT .guest<|zcF a<|zgq d,aB false])<|cond (ieq b 7) (oN (zgC c 2)<|cond (zfV c 2) (oN (zcD a e)<|some [aT .guest<|zcF a e,aB false])<|cond (ieq b 7) (oN (zO a)<|some [f,aB true])<|oN (zO a)<|some [g,aB true])<|cond (ieq b 7) (oN (zO a)<|some [f,aB true])<|oN (zO a)<|some [g,aB true])<|cond (ieq b 7) (oN (zgC c 2)<|cond (zfV c 2) (oN (zcD a e)<|some [aT .guest<|zcF a e,aB false])<|cond (ieq b 7) (oN (zO a)<|some [f,aB true])<|oN (zO a)<|some [g,aB true])<|cond (ieq b 7) (oN (zO a)<|some [f,aB true])<|oN (zO a)<|some [g,aB true])
theorem zTa (a:Guest)(b c:Int)(d:ze6 a b c=true):∃N,zGy N a b c=some [aT .guest<|zcS a b c,aB<|zer a b c]:=by
 have e:=zK.1 d;refine⟨0,?_⟩;unfold zGy oN;conv=>zeta
 refine must rfl (br (λ_=>must rfl (mu ?_)) λ_=>br (λ_=>must rfl (br (λ_=>must rfl (mu ?_)) λ_=>br (λ_=>must rfl (br (λ_=>mu ?_) λ_=>br (λ_=>mu ?_) λ_=>mu ?_)) λ_=>br (λ_=>mu ?_) λ_=>mu ?_)) λ_=>br (λ_=>must rfl (br (λ_=>mu ?_) λ_=>br (λ_=>mu ?_) λ_=>mu ?_)) λ_=>br (λ_=>mu ?_) λ_=>mu ?_);all_goals first|rfl|(simp only [*,zcS,zer,zgx,zie,cT,cF]<;>rfl)|simp_all[Ty.cells,zcS,zer,zgx,zie]
theorem zLS:vP 376 zBr:=kF3 zj5 zn zx zo (zq []) zTa
def zbY (b:Bare):Bool:=bif b.Guests.all zes then (zjP b.Memory 8&&(zl (ln b.Guests) 1 2&&(ile (ln b.Outs) 40&&zee b.Pending))) else false
@[simp] abbrev zdz (b:Bare):Bool:=true
@[simp] abbrev zb6 (b:Bare):Bool:=zbY b
def zqg:Run:=rF1 (dT .bare) λb=>(zdz b,[aB<|zb6 b])
def zJW (N:Nat)(c:Bare):OA:=
 (iter (σ:=(Int×Int×lM×lG×(List Int)×Unit)) N (λd a=>let b:=a.2.2.2.1; (cond (ilt a.1<|ln b) (oN (inb a.1<|ln b)<|oN (zbx<|ix b a.1 zy)<|cond (nB<|ziG<|ix b a.1 zy) oF<|d (zQ .i64 a.1 1,a.2.1,a.2.2.1,b,a.2.2.2.2.1,()))<|oN (zjU a.2.2.1 8)<|cond (zgo a.2.2.1 8) (oN (zM (ln b) 1 2)<|cond (zl (ln b) 1 2) (cond (ile (ln a.2.2.2.2.1) 40) (oN (zcl a.2.1)<|some [aB<|zeT a.2.1]) oF) oF) oF)) (0,c.Pending,c.Memory,c.Guests,c.Outs,()))
def zXf:=zq [(383,0,{n:=38,tm:=[(1,.lp 0 0),(3,ti)],lo:=[(0,[.sl 0 [],.sl 1 [],.sl 2 [],ti])],ro:=[(0,.sl .int,false),(1,.guest,false),(2,.int,false)]})]
theorem zVt (a:Bare)(k:zbR big [aT .bare a])(m:zdz a=true):∃N,zJW N a=some [aB<|zb6 a]:=by
 have j:(_:List _).length<=big:=((zdY k).1 (.s .guest a.Guests) (by simp[AV.cvs,Ty.cells])).len;refine zcE λN h=>?_;unfold zJW oN nB;conv=>zeta
 refine(zbq a.Guests (λi (t:Unit)=>((i:Int),a.Pending,a.Memory,a.Guests,a.Outs,())) _ (λ_ x (_:Unit) l=>bif (zes) x then l () else oF) (λ(t:Unit)=>cond (zjU a.Memory 8) (cond (zgo a.Memory 8) (cond (zM (ln a.Guests) 1 2) (cond (zl (ln a.Guests) 1 2) (cond (ile (ln a.Outs) 40) (cond (zcl a.Pending) (some [.one<|.b<|zeT a.Pending]) none) oF) oF) none) oF) none) (λi f t rec=>?_) (λt rec=>?_) _ ()<|h j).trans ?_;{simp only [zbI f,zbm f,zbu f,zbj f j,cT];exact zj3 rfl};{simp only [zbz,cF]};rw[zh8<|zes];refine br (λc=>?_) (λc=>?_);{refine must rfl ?_;refine br (λd=>?_) (λd=>?_);{refine must rfl ?_;refine br (λe=>?_) (λe=>?_);{refine br (λg=>?_) (λg=>?_);{refine must rfl ?_;first|rfl|(simp only [c,d,e,g,zb6,zbY,cT,cF]<;>rfl)|(simp_all [Ty.cells,zb6,zbY];done)};{first|rfl|(simp only [c,d,e,g,zb6,zbY,cT,cF]<;>rfl)|(simp_all [Ty.cells,zb6,zbY];done)}};{first|rfl|(simp only [c,d,e,zb6,zbY,cT,cF]<;>rfl)|(simp_all [Ty.cells,zb6,zbY];done)}};{first|rfl|(simp only [c,d,zb6,zbY,cT,cF]<;>rfl)|(simp_all [Ty.cells,zb6,zbY];done)}};{first|rfl|(simp only [c,zb6,zbY,cT,cF]<;>rfl)|(simp_all [Ty.cells,zb6,zbY];done)}
theorem zOt:vP 383 zqg:=hF1 zj5 zn zx zo zXf zVt
def zJB (N:Nat)(b:Bare):OA:=
 (iter (σ:=(Int×Int×Int×lG×lM×(List Int)×Unit)) N (λe a=>let c:=a.2.2.2.1;let d:=ix c a.2.1 zy; (cond (ilt a.2.1 a.1) (oN (inb a.2.1<|ln c)<|oN (zbx d)<|cond (nB<|ziG d) oF<|e (a.1,zQ .i64 a.2.1 1,a.2.2.1,c,a.2.2.2.2.1,a.2.2.2.2.2.1,()))<|oN (zjU a.2.2.2.2.1 8)<|cond (zgo a.2.2.2.2.1 8) (oN (zM (ln c) 1 2)<|cond (zl (ln c) 1 2) (cond (ile (ln a.2.2.2.2.2.1) 40) (oN (zcl a.2.2.1)<|some [aB<|zeT a.2.2.1]) oF) oF) oF)) (ln b.Guests,0,b.Pending,b.Guests,b.Memory,b.Outs,()))
def zW7:=zq [(223,0,{n:=36,tm:=[(1,.lp 0 0),(6,.sl 0 []),(7,ti),(8,ti)],lo:=[(0,[.sl 1 [],.sl 0 [],.sl 2 [],ti])],ro:=[(0,.guest,false),(1,.sl .int,false),(2,.int,false)]})]
theorem zU7 (a:Bare)(k:zbR big [aT .bare a])(m:zdz a=true):∃N,zJB N a=some [aB<|zb6 a]:=by
 have j:(_:List _).length<=big:=((zdY k).1 (.s .guest a.Guests) (by simp[AV.cvs,Ty.cells])).len;refine zcE λN h=>?_;unfold zJB oN nB;conv=>zeta
 refine(zbq a.Guests (λi (t:Unit)=>(ln a.Guests,(i:Int),a.Pending,a.Guests,a.Memory,a.Outs,())) _ (λ_ x (_:Unit) l=>bif (zes) x then l () else oF) (λ(t:Unit)=>cond (zjU a.Memory 8) (cond (zgo a.Memory 8) (cond (zM (ln a.Guests) 1 2) (cond (zl (ln a.Guests) 1 2) (cond (ile (ln a.Outs) 40) (cond (zcl a.Pending) (some [.one<|.b<|zeT a.Pending]) none) oF) oF) none) oF) none) (λi f t rec=>?_) (λt rec=>?_) _ ()<|h j).trans ?_;{simp only [zbI f,zbm f,zbu f,zbj f j,cT];exact zj3 rfl};{simp only [zbz,cF]};rw[zh8<|zes];refine br (λc=>?_) (λc=>?_);{refine must rfl ?_;refine br (λd=>?_) (λd=>?_);{refine must rfl ?_;refine br (λe=>?_) (λe=>?_);{refine br (λg=>?_) (λg=>?_);{refine must rfl ?_;first|rfl|(simp only [c,d,e,g,zb6,zbY,cT,cF]<;>rfl)|(simp_all [Ty.cells,zb6,zbY];done)};{first|rfl|(simp only [c,d,e,g,zb6,zbY,cT,cF]<;>rfl)|(simp_all [Ty.cells,zb6,zbY];done)}};{first|rfl|(simp only [c,d,e,zb6,zbY,cT,cF]<;>rfl)|(simp_all [Ty.cells,zb6,zbY];done)}};{first|rfl|(simp only [c,d,zb6,zbY,cT,cF]<;>rfl)|(simp_all [Ty.cells,zb6,zbY];done)}};{first|rfl|(simp only [c,zb6,zbY,cT,cF]<;>rfl)|(simp_all [Ty.cells,zb6,zbY];done)}
theorem zN0:vP 223 zqg:=hF1 zj5 zn zx zo zW7 zU7
@[simp] abbrev zbo (b:Bare):Bool:=pc (SmB b)
@[simp] abbrev zY (b:Bare):Bare:=b
def znG:Run:=rF1 (dT .bare) λb=>(zbo b,[aT .bare<|zY b])
def zCa (N:Nat)(a:Bare):OA:=
 (oN (zhv a.Memory)<|oN (zdh a.Guests)<|oN (zeH a.Outs)<|some [aT .bare (⟨zez a.Memory,zdW a.Guests,zeD a.Outs,a.Pending⟩:Bare)])
theorem zPq (a:Bare)(b:zbo a=true):∃N,zCa N a=some [aT .bare<|zY a]:=by have c:=zK.1 b;have d:_/\_/\_:=c;refine⟨0,?_⟩;unfold zCa oN;refine mu (mu<|mu ?_);first|rfl|(simp only [*,zY,cT,cF]<;>rfl)|simp_all[Ty.cells,zY]
theorem zIc:vP 224 znG:=kF1 zj5 zn zx zo (zq []) zPq
def zGx (N:Nat)(a:Bare):OA:=
 (oN (zhI a.Memory)<|oN (zha a.Guests)<|oN (few<|ln<|ap [] a.Outs)<|some [aT .bare (⟨zfW a.Memory,zhL a.Guests,ap [] a.Outs,a.Pending⟩:Bare)])
theorem zS9 (a:Bare)(b:zbo a=true):∃N,zGx N a=some [aT .bare<|zY a]:=by have c:=zK.1 b;have d:_/\_/\_:=c;refine⟨0,?_⟩;unfold zGx oN;refine mu (mu<|mu ?_);first|rfl|(simp only [*,zY,cT,cF]<;>rfl)|simp_all[Ty.cells,zY]
theorem zLR:vP 377 znG:=kF1 zj5 zn zx zo (zq []) zS9
def z8A:zba:=[(334,zoL),(227,zoL),(370,zoM),(131,zoM),(376,zBr),(383,zqg),(223,zqg),(224,znG),(377,znG)]++z8z
theorem zHG:zT z8A:=zi zLC (zi zLh<|zi zLq<|zi zK5<|zi zLS<|zi zOt<|zi zN0<|zi zIc<|zi zLR zj5)
def zeK (b:Bare)(i:Int)(x:Guest):Bare:={b with Guests:=up b.Guests i x}
def zeQ (b:Bare)(i:Int)(x:Guest):Bare:=bif hasB i (ln b.Guests) then zeK b i x else b
def zkH (b:Bare)(n:Int):Bare:=bif ilt (ln b.Outs) 40 then {b with Outs:=ap b.Outs [n]} else b
@[simp] theorem zpn {b:Bare}{i:Int}{x:Guest}(h:SmB b)(a:SmG x):SmB (zeK b i x):=⟨h.1,zEM h.2.1 a,h.2.2⟩
@[simp] theorem zM8 {b:Bare}{n:Int}(h:SmB b):SmB (zkH b n):=by unfold zkH;cases a:ilt (ln b.Outs) 40;{exact h};{have:=qD a;refine⟨h.1,h.2.1,?_⟩;simp[ln] at *;omega}
@[simp] theorem zbde (b:Bare)(n:Int):(zkH b n).Guests=b.Guests:=by unfold zkH;cases ilt (ln b.Outs) 40<;>rfl
@[simp] theorem zvW {m:List (List Int)}{p c v:Int}(h:SmM m):SmM (zbW m p c v):=by unfold zbW;cases a:zhc m p c;{exact h};{cases b:zl v 0 99;{exact h};{exact zNb h (by simpa using zbcb h ((zz5 m p c).1 a).1 [])}}
@[simp] abbrev zbL (b:Bare)(i:Int)(x:Guest):Bool:=pc (SmB b/\SmG x)
@[simp] abbrev zcN (b:Bare)(i:Int)(x:Guest):Bare:=zeQ b i x
def zwR:Run:=rF3 (dT .bare) dI (dT .guest) λb c d=>(zbL b c d,[aT .bare<|zcN b c d])
def zAH (N:Nat)(a:Bare)(b:Int)(c:Guest):OA:=
 (oN (zbo a)<|oN (zbl b<|ln a.Guests)<|cond (zch b<|ln a.Guests) (oN (zO c)<|oN (inb b<|ln (zY a).Guests)<|share (up (zY a).Guests b<|zde c) λd=>some [aT .bare ({ (zY a) with Guests:=d}:Bare)])<|some [aT .bare<|zY a])
theorem zMf (a:Bare)(b:Int)(c:Guest)(d:zbL a b c=true):∃N,zAH N a b c=some [aT .bare<|zcN a b c]:=by have e:=zK.1 d;refine⟨0,?_⟩;unfold zAH oN;refine mu (must rfl (br (λ_=>mu (mu<|shr ?_)) λ_=>?_));all_goals first|rfl|(simp only [*,zcN,zeQ,zeK,cT,cF]<;>rfl)|simp_all[Ty.cells,zcN,zeQ,zeK]
theorem zEZ:vP 225 zwR:=kF3 zHG zn zx zo (zq []) zMf
@[simp] abbrev zeC (b:Bare)(n:Int):Bool:=pc (SmB b)
@[simp] abbrev zrB (b:Bare)(n:Int):Bare:=zkH b n
def zDP:Run:=rF2 (dT .bare) dI λb c=>(zeC b c,[aT .bare<|zrB b c])
def zJO (N:Nat)(a:Bare)(b:Int):OA:=
 (oN (zbo a)<|cond (ilt (ln a.Outs) 40) (oN (few<|ln<|ap (zY a).Outs [b])<|some [aT .bare ({ (zY a) with Outs:=(ap (zY a).Outs [b])}:Bare)])<|some [aT .bare<|zY a])
theorem zVk (a:Bare)(b:Int)(c:zeC a b=true):∃N,zJO N a b=some [aT .bare<|zrB a b]:=by have d:=zK.1 c;have e:a.Outs.length<=1048576:=d.2.2;refine⟨0,?_⟩;unfold zJO oN;refine mu (br (λ_=>mu ?_) λ_=>?_);all_goals first|rfl|(simp only [*,zrB,zkH,cT,cF]<;>rfl)|simp_all[Ty.cells,zrB,zkH]
theorem zOj:vP 231 zDP:=kF2 zHG zn zx zo (zq []) zVk
def z0r:zba:=[(225,zwR),(231,zDP)]++z8A
theorem zru:zT z0r:=zi zEZ (zi zOj zHG)
def zmg (b:Bare)(g:Int)(x:Guest)(w:Bool):Bare :=
 bif zfq x.Live (zbn<|address x) (zcv w) then
  (bif w then zeK {b with Memory:=zbW b.Memory (zcH x.Live (zbn<|address x)<|zcv w) (zd7<|address x) x.A} g (zcg x)
  else zeK b g (loaded x<|cellAt b.Memory (zcH x.Live (zbn<|address x)<|zcv w)<|zd7<|address x))
 else zeK b g (stopped x<|zsS (zbn<|address x) w)
def zrS (b:Bare)(g:Int)(x:Guest)(w:Int):Bare :=
 zeK (cond (cond (zie x.Ctl.Traps w) (ieq w 5) false) (zkH b (zcK x.Prog x.Pc).X) b) g (zgx x x.Ctl.Traps w)
def stepped (b:Bare)(g:Int)(x:Guest)(w:Int):Bare :=
 bif ieq w 1 then zeK b g (interrupted x) else (cond (ieq w 2) (zeK b g<|plainly x)<|cond (ieq w 3) (zmg b g x false)<|cond (ieq w 4) (zmg b g x true)<|zrS b g x w)
theorem tr1 (x:Guest)(t w:Int):ieq w 6=true->zgx x t w=stopped x (zu1 (zcK x.Prog x.Pc).X)/\zie t w=false:=by intro h;simp[zgx,zie,h]
theorem tr2 (x:Guest)(t w:Int):ieq w 6=false->(ieq w 5=false->ieq w 6=false->ieq w 7=true)->zet t (zgu w)=true->zgx x t w=zrU x w/\zie t w=false:=by intro b c h;unfold zgx zie zrU zgu at *;cases a:ieq w 5<;>simp_all
theorem tr3 (x:Guest)(t w:Int):ieq w 6=false->ieq w 7=false->zet t (zgu w)=false->ieq w 5=true->zgx x t w=zcg x/\zie t w=true:=by intro b c h a;unfold zgx zie zgu at *;simp_all
theorem tr4 (x:Guest)(t w:Int):ieq w 6=false->(ieq w 5=false->ieq w 6=false->ieq w 7=true)->zet t (zgu w)=false->ieq w 5=false->zgx x t w=held x:=by intro b c h a;unfold zgx zgu at *;simp_all
def zh5 (b:Bare)(g:Int):Bool:=bif hasB g (ln b.Guests) then (cond (zbY b) (!ieq (zN<|gAt b g) 0) false) else false
def zfN (b:Bare)(g:Int):Bare:=bif zh5 b g then stepped b g (gAt b g) (zN<|gAt b g) else b
@[simp] theorem zZP {b:Bare}{g:Int}{x:Guest}{w:Bool}(h:SmB b)(a:SmG x):SmB (zmg b g x w):=by unfold zmg;cases zfq x.Live (zbn<|address x) (zcv w);{exact zpn h a};{cases w;{exact zpn h (zM9 _ a)};{exact⟨zvW h.1,zEM h.2.1<|zk9 a,h.2.2⟩}}
@[simp] theorem zbaX {b:Bare}{g:Int}{x:Guest}{w:Int}(h:SmB b)(a:SmG x):SmB (zrS b g x w):=by unfold zrS;cases (cond (zie x.Ctl.Traps w) (ieq w 5) false);{exact zpn h (zD6 _ _ a)};{exact zpn (zM8 h) (zD6 _ _ a)}
@[simp] theorem zYX {b:Bare}{g:Int}{x:Guest}{w:Int}(h:SmB b)(a:SmG x):SmB (stepped b g x w):=by unfold stepped;cases ieq w 1;{cases ieq w 2;{cases ieq w 3;{cases ieq w 4;{exact zbaX h a};{exact zZP h a}};{exact zZP h a}};{exact zpn h (zHd a)}};{exact zpn h (zZQ a)}
@[simp] theorem zbdh {b:Bare}{g:Int}(h:SmB b):SmB (zfN b g):=by unfold zfN;cases zh5 b g;{exact h};{exact zYX h (zgs g h)}
theorem z2k (x:Guest):ieq (zN x) 0=false->ieq (zN x) 1=false->ieq (zN x) 2=false->ieq (zN x) 3=false->ieq (zN x) 4=false->ieq (zN x) 5=false->ieq (zN x) 6=false->ieq (zN x) 7=true:=by unfold zN zyH;cases canRun x;{intro h;cases h};{cases zkm x;{simp only [cT,cF];generalize (zcK x.Prog x.Pc).Op=o;cases ieq o 3<;>cases ieq o 4<;>cases ieq o 5<;>cases ieq o 6<;>cases ieq o 7<;>simp [ieq]};{intro _ h;cases h}}
theorem zO5 {x:Int}{a b:Int}(h:ieq x a=true)(c:ieq a b=false):ieq x b=false:=by have:x=a:=(by simpa [ieq] using h);rw[this];exact c
@[simp] abbrev zcB (b:Bare)(g:Int):Bool:=pc (SmB b)
@[simp] abbrev zkA (b:Bare)(g:Int):Bare:=zfN b g
@[simp] abbrev zpX (b:Bare)(g:Int):Bool:=zh5 b g
def zrM:Run:=rF2 (dT .bare) dI λb c=>(zcB b c,[aT .bare<|zkA b c,aB<|zpX b c])
def zBX (N:Nat)(b:Bare)(c:Int):OA:=
 let g:=b.Memory;let l:=aT .bare<|zY b;let a:=zej b c;let k:=a.Ctl.Traps;let t:=aT .bare<|zcN b c<|zja a;let d:=zio a;let r:=aT .bare<|zcN b c<|zk3 a d;let i:=zhX a;let f:=zc7 i;let e:=zby i;let h:=ieq d 4;let w:=ze5 e h;let p:=aT .bare<|zcN b c<|zcF a w;let j:=(zea a.Prog a.Pc).X;let u:=zbL (zrB b j) c<|zce a;let n:=aT .bare<|zcN (zrB b j) c<|zce a;let x:=zcF a<|zfd j;let m:=zfr a.Live e<|zdF h;let v:=zgN g m f;let q:=aT .bare<|zcN b c<|zlx a v;let y:=({b with Memory:=(zeE g m f a.A)}:Bare);let s:=aT .bare<|zcN y c<|zce a; (oN (zel b c)<|oN (zbx a)<|oN (zdz b)<|cond (nB<|zb6 b) (oN (zbo b)<|some [l,aB false])<|cond (nB<|zek b c) (oN (zbo b)<|some [l,aB false])<|cond (ieq d 0) (oN (zbo b)<|some [l,aB false])<|oN (zbx a)<|oN (zef a.Prog a.Pc)<|cond (ieq d 1) (oN (zO a)<|oN (zbL b c<|zfu a)<|some [aT .bare<|zcN b c<|zfu a,aB true])<|cond (ieq d 2) (oN (zO a)<|oN (zbL b c<|ziC a)<|some [aT .bare<|zcN b c<|ziC a,aB true])<|cond (ieq d 3) (cond (ieq d 3) (oN (zbQ i)<|oN (zlz h)<|oN (zih a.Live e<|zdF h)<|cond (nB<|zeY a.Live e<|zdF h) (oN (zbQ i)<|oN (zg6 e h)<|oN (zcD a w)<|oN (zbL b c<|zcF a w)<|some [p,aB true])<|cond h (oN (zbQ i)<|oN (zeh g m f a.A)<|oN (zO a)<|oN (zbL y c<|zce a)<|some [s,aB true])<|oN (zbQ i)<|oN (zfJ g m f)<|oN (znV a v)<|oN (zbL b c<|zlx a v)<|some [q,aB true])<|cond (ieq d 6) (oN (zfl j)<|oN (zcD a<|zfd j)<|oN (zbL b c x)<|some [aT .bare<|zcN b c x,aB true])<|oN (zp0 d)<|oN (zgC k<|zi4 d)<|cond (zfV k<|zi4 d) (oN (zok a d)<|oN (zbL b c<|zk3 a d)<|some [r,aB true])<|cond (ieq d 5) (oN (zeC b j)<|oN (zO a)<|oN u<|some [n,aB true])<|oN (zO a)<|oN (zbL b c<|zja a)<|some [t,aB true])<|cond h (oN (zbQ i)<|oN (zlz h)<|oN (zih a.Live e<|zdF h)<|cond (nB<|zeY a.Live e<|zdF h) (oN (zbQ i)<|oN (zg6 e h)<|oN (zcD a w)<|oN (zbL b c<|zcF a w)<|some [p,aB true])<|cond h (oN (zbQ i)<|oN (zeh g m f a.A)<|oN (zO a)<|oN (zbL y c<|zce a)<|some [s,aB true])<|oN (zbQ i)<|oN (zfJ g m f)<|oN (znV a v)<|oN (zbL b c<|zlx a v)<|some [q,aB true])<|cond (ieq d 6) (oN (zfl j)<|oN (zcD a<|zfd j)<|oN (zbL b c x)<|some [aT .bare<|zcN b c x,aB true])<|oN (zp0 d)<|oN (zgC k<|zi4 d)<|cond (zfV k<|zi4 d) (oN (zok a d)<|oN (zbL b c<|zk3 a d)<|some [r,aB true])<|cond (ieq d 5) (oN (zeC b j)<|oN (zO a)<|oN u<|some [n,aB true])<|oN (zO a)<|oN (zbL b c<|zja a)<|some [t,aB true])
theorem zPd (a:Bare)(b:Int)(f:zcB a b=true):∃N,zBX N a b=some [aT .bare<|zkA a b,aB<|zpX a b]:=by
 have c:=zK.1 f;have j:=zgs b c;have k:_/\_/\_:=c;have hg:a.Guests.length<=1048576:=c.2.1.1;have g:=z2k (gAt a b);have d:ieq (zN<|gAt a b) 3=true->ieq (zN<|gAt a b) 4=false:=λh=>zO5 h rfl;have e:ieq (zN<|gAt a b) 5=true->ieq (zN<|gAt a b) 7=false:=λh=>zO5 h rfl;have l:=tr1 (gAt a b) (gAt a b).Ctl.Traps (zN<|gAt a b);have m:=tr2 (gAt a b) (gAt a b).Ctl.Traps (zN<|gAt a b);have p:=tr3 (gAt a b) (gAt a b).Ctl.Traps (zN<|gAt a b);have q:=tr4 (gAt a b) (gAt a b).Ctl.Traps (zN<|gAt a b);have i:∀n,SmB (zkH a n):=λn=>zM8 c;refine⟨0,?_⟩;unfold zBX oN nB;conv=>zeta
 refine mu (must rfl (must rfl (brN (λ_=>mu ?_) λ_=>brN (λ_=>mu ?_) λ_=>br (λ_=>mu ?_) λ_=>must rfl (must rfl (br (λ_=>mu (mu ?_)) λ_=>br (λ_=>mu (mu ?_)) λ_=>br (λ_=>br (λ_=>must rfl (must rfl (must rfl (brN (λ_=>must rfl (must rfl (mu<|mu ?_))) λ_=>br (λ_=>must rfl (mu<|mu<|mu ?_)) λ_=>must rfl (must rfl (mu<|mu ?_)))))) λ_=>br (λ_=>must rfl (mu<|mu ?_)) λ_=>must rfl (must rfl (br (λ_=>mu (mu ?_)) λ_=>br (λ_=>mu (mu<|mu ?_)) λ_=>mu (mu ?_)))) λ_=>br (λ_=>must rfl (must rfl (must rfl (brN (λ_=>must rfl (must rfl (mu<|mu ?_))) λ_=>br (λ_=>must rfl (mu<|mu<|mu ?_)) λ_=>must rfl (must rfl (mu<|mu ?_)))))) λ_=>br (λ_=>must rfl (mu<|mu ?_)) λ_=>must rfl (must rfl (br (λ_=>mu (mu ?_)) λ_=>br (λ_=>mu (mu<|mu ?_)) λ_=>mu (mu ?_))))))));all_goals first|rfl|(simp only [*,zkA,zpX,zfN,zh5,stepped,zmg,zrS,zeQ,zcv,cT,cF]<;>rfl)|simp_all[Ty.cells,zkA,zpX,zfN,zh5,stepped,zmg,zrS,zeQ,zcv]
theorem zve:vP 143 zrM:=kF2 zru zn zx zo (zq []) zPd
def SmK (k:Kept):Prop:=k.Known.length<=1048576/\k.Slots.length<=1048576
def zCD (l:List Kept):Prop:=l.length<=1048576/\∀x∈l,SmK x
def zfx (m:Mon):Prop:=m.Outer.length<=1048576/\SmM m.Out/\m.Dirty.length<=1048576/\zmt m.Guests/\m.Outs.length<=1048576/\zCD m.Tables
def zpL (l:List Mon):Prop:=l.length<=1048576/\∀x∈l,zfx x
def SmH (h:Host):Prop:=SmM h.Memory/\zpL h.Mons/\h.Buffer.length<=1048576/\h.IoBuffer.length<=1048576
@[simp] theorem zyf (k:Kept):(∀c∈Ty.cells .kept k,CVB sm c)↔SmK k:=by simp[Ty.cells,SmK,z7o]
@[simp] theorem z6b (l:List Kept):CVB sm (.s .kept l)↔zCD l:=by rw[znp];simp only[zyf];rfl
@[simp] theorem zZg (m:Mon):(∀c∈Ty.cells .mon m,CVB sm c)↔zfx m:=by simp only[Ty.cells,qG,qN,or_false,vL,forall_eq,zrv,zwi,z6b,z0A,zXN,zXM,z8R,and_true,true_and];rfl
@[simp] theorem zbaf (l:List Mon):CVB sm (.s .mon l)↔zpL l:=by rw[znp];simp only[zZg];rfl
@[simp] theorem zS (h:Host):zdP h↔SmH h:=by unfold zdP;simp only[zbf,qG,qN,or_false,vL,forall_eq,zrv,zbaf,zUy];rfl
theorem zbs {p:Prop}(h:p):pc p=true:=zbi h
theorem zuN {l:List Kept}{i:Int}{x:Kept}(h:zCD l)(b:SmK x):zCD (up l i x):=by refine⟨by simpa using h.1,λy a=>?_⟩;rcases qZ a with a|rfl;{exact h.2 y a};{exact b}
theorem zj0 {l:List Mon}{i:Int}{x:Mon}(h:zpL l)(b:zfx x):zpL (up l i x):=by refine⟨by simpa using h.1,λy a=>?_⟩;rcases qZ a with a|rfl;{exact h.2 y a};{exact b}
theorem zps {a:Type}{l:List a}(h:l.length<=1048576):few (ln<|ap [] l)=true:=by rw[zoh,zbao];omega
@[simp] abbrev zU (h:Host):Bool:=pc (zdP h)
@[simp] abbrev zk (h:Host):Host:=h
def zoZ:Run:=rF1 dH λb=>(zU b,[aH<|zk b])
def zGz (N:Nat)(b:Host):OA:=
 (oN (zhI b.Memory)<|oN (few<|ln<|ap [] b.Buffer)<|oN (few<|ln<|ap [] b.IoBuffer)<|iter (σ:=(Int×lM×lN×lE×lE×lM×lN×lE×lE×lM×lN×lE×lE×Unit)) N (λf a=>let e:=a.2.2.2.2.2.2.2.2.2.2.2.2.1;let d:=ix a.2.2.1 a.1 zh;let c:=ap a.2.2.2.2.2.2.2.2.2.2.1 [zpl d]; (cond (ilt a.1<|ln a.2.2.1) (oN (inb a.1<|ln a.2.2.1)<|oN (zlG d)<|oN (few<|ln c)<|f (zQ .i64 a.1 1,a.2.1,a.2.2.1,a.2.2.2.1,a.2.2.2.2.1,a.2.2.2.2.2.1,a.2.2.2.2.2.2.1,a.2.2.2.2.2.2.2.1,a.2.2.2.2.2.2.2.2.1,a.2.2.2.2.2.2.2.2.2.1,c,a.2.2.2.2.2.2.2.2.2.2.2.1,e,()))<|some [aH (⟨a.2.2.2.2.2.2.2.2.2.1,a.2.2.2.2.2.2.2.2.2.2.1,a.2.2.2.2.2.2.2.2.2.2.2.1,e⟩:Host)])) (0,b.Memory,b.Mons,b.Buffer,b.IoBuffer,[],[],[],[],zfW b.Memory,[],ap [] b.Buffer,ap [] b.IoBuffer,()))
def zTB:=zq [(284,0,{n:=36,tm:=[(1,.lp 0 0),(2,.lp 1 0),(3,.lp 2 0),(4,ti)],lo:=[(0,[.sl 0 [],.sl 1 [],.sl 2 [],.sl 3 []]),(1,[.sl 4 [],.sl 5 [],.sl 6 [],.sl 7 []]),(2,[.sl 8 [],.sl 9 [],.sl 10 [],.sl 11 []])],ro:=[(0,.sl .int,false),(1,.mon,false),(2,.entry,false),(3,.entry,false),(4,.sl .int,true),(5,.mon,true),(6,.entry,true),(7,.entry,true),(8,.sl .int,true),(9,.mon,true),(10,.entry,true),(11,.entry,true)]})]
theorem zTb (a:Host)(k:zU a=true):∃N,zGz N a=some [aH<|zk a]:=by
 obtain⟨g,f,h,j⟩:=(zS a).1 (zK.1 k);have e:=zda f.1;refine zcE λN d=>?_;unfold zGz oN;conv=>zeta
 refine must (zbs<|(zrv _).2 g) (must (zps h)<|must (zps j) ?_);refine(zbq a.Mons (λi (t:lN)=>((i:Int),a.Memory,a.Mons,a.Buffer,a.IoBuffer,[],[],[],[],zfW a.Memory,t,ap [] a.Buffer,ap [] a.IoBuffer,())) _ (λ_ x b m=>bif zlG x then (cond (few<|ln<|ap b [zpl x]) (m<|ap b [zpl x]) none) else none) (λ(t:lN)=>some [.agg<|zbf (⟨zfW a.Memory,t,ap [] a.Buffer,ap [] a.IoBuffer⟩:Host)]) (λi c t rec=>?_) (λt rec=>?_) _ ([])<|d e.1).trans ?_;{simp only [zbI c,zbm c,zbu c,zbj c e.1,cT]};{simp only [zbz,cF]};exact zlc zlG zpl _ a.Mons 0 [] (λx l=>⟨zbs<|(zZg x).2 (f.2 x l),rfl⟩) (by simpa using e.2)
theorem zLT:vP 284 zoZ:=kF1 zru zn zx zo zTB zTb
@[simp] abbrev zed (k:Kept):Bool:=pc (SmK k)
@[simp] abbrev zdl (k:Kept):Kept:=k
def zyW:Run:=rF1 (dT .kept) λb=>(zed b,[aT .kept<|zdl b])
def zCd (N:Nat)(a:Kept):OA:=
 (oN (few<|ln<|ap [] a.Known)<|oN (zg4 a.Slots)<|some [aT .kept (⟨ap [] a.Known,ze1 a.Slots⟩:Kept)])
theorem zPt (a:Kept)(b:zed a=true):∃N,zCd N a=some [aT .kept<|zdl a]:=by have c:=zK.1 b;obtain⟨f,g⟩:=c;have d:a.Known.length<=2147483648:=(by omega);have e:a.Slots.length<=2147483648:=(by omega);refine⟨0,?_⟩;unfold zCd oN;refine mu (mu ?_);first|rfl|(simp only [*,zdl,cT,cF]<;>rfl)|simp_all[Ty.cells,zdl]
theorem zIf:vP 208 zyW:=kF1 zru zn zx zo (zq []) zPt
def z8o:zba:=[(284,zoZ),(208,zyW)]++z0r
theorem zUt:zT z8o:=zi zLT (zi zIf zru)
@[simp] abbrev zl8 (m:Mon):Bool:=pc (zfx m)
@[simp] abbrev zmJ (m:Mon):Mon:=m
def zBj:Run:=rF1 (dT .mon) λb=>(zl8 b,[aT .mon<|zmJ b])
def zF5 (N:Nat)(b:Mon):OA:=
 (oN (zg4 b.Outer)<|oN (zhv b.Out)<|oN (few<|ln<|ap [] b.Dirty)<|oN (zdh b.Guests)<|oN (zeH b.Outs)<|iter (σ:=(Int×Int×Int×Int×Int×Int×Int×Int×lK×lK×lS×lM×lB×lG×(List Int)×lS×lM×lB×lG×(List Int)×lK×Unit)) N (λi a=>let h:=a.2.2.2.2.2.2.2.2.2.2.2.2.1;let g:=a.2.2.2.2.2.2.2.2.2.2.2.2.2.1;let f:=a.2.2.2.2.2.2.2.2.2.2.2.2.2.2.1;let e:=a.2.2.2.2.2.2.2.2.1;let d:=a.2.2.2.2.2.2.2.2.2.1;let c:=ix d a.2.1 zeL; (cond (ilt a.2.1 a.1) (oN (inb a.2.1<|ln d)<|oN (zed c)<|oN (few<|ln<|ap e [zdl c])<|i (a.1,zQ .i64 a.2.1 1,a.2.2.1,a.2.2.2.1,a.2.2.2.2.1,a.2.2.2.2.2.1,a.2.2.2.2.2.2.1,a.2.2.2.2.2.2.2.1,ap e [zdl c],d,a.2.2.2.2.2.2.2.2.2.2.1,a.2.2.2.2.2.2.2.2.2.2.2.1,h,g,f,a.2.2.2.2.2.2.2.2.2.2.2.2.2.2.2.1,a.2.2.2.2.2.2.2.2.2.2.2.2.2.2.2.2.1,a.2.2.2.2.2.2.2.2.2.2.2.2.2.2.2.2.2.1,a.2.2.2.2.2.2.2.2.2.2.2.2.2.2.2.2.2.2.1,a.2.2.2.2.2.2.2.2.2.2.2.2.2.2.2.2.2.2.2.1,a.2.2.2.2.2.2.2.2.2.2.2.2.2.2.2.2.2.2.2.2.1,()))<|some [aT .mon (⟨a.2.2.2.2.2.2.2.2.2.2.1,a.2.2.2.2.2.2.2.2.2.2.2.1,h,g,f,a.2.2.1,a.2.2.2.1,e,a.2.2.2.2.1⟩:Mon)])) (ln b.Tables,0,b.Pending,b.Traps,b.Own,0,0,0,[],b.Tables,ze1 b.Outer,zez b.Out,ap [] b.Dirty,zdW b.Guests,zeD b.Outs,[],[],[],[],[],[],()))
def zTv:=zq [(127,0,{n:=44,tm:=[(1,.lp 0 0),(2,.lp 1 0),(3,.sl 0 []),(29,.sl 1 []),(30,ti),(31,ti)],lo:=[(0,[.sl 2 [],.sl 3 [],.sl 4 [],.sl 5 [],.sl 6 [],ti,ti,.sl 1 [],ti]),(1,[.sl 7 [],.sl 8 [],.sl 9 [],.sl 10 [],.sl 11 [],ti,ti,.sl 12 [],ti])],ro:=[(0,.kept,true),(1,.kept,false),(2,.slot,true),(3,.sl .int,true),(4,.bool,true),(5,.guest,true),(6,.int,true),(7,.slot,true),(8,.sl .int,true),(9,.bool,true),(10,.guest,true),(11,.int,true),(12,.kept,true)]})]
theorem zSK (a:Mon)(p:zl8 a=true):∃N,zF5 N a=some [aT .mon<|zmJ a]:=by
 obtain⟨s,l,m,n,u,f⟩:=zK.1 p;have e:=zda f.1;refine zcE λN d=>?_;unfold zF5 oN;conv=>zeta
 have g:zg4 a.Outer=true:=(by simp;omega);have h:zhv a.Out=true:=(by simp;exact l);have j:zdh a.Guests=true:=(by simp;exact n);have k:zeH a.Outs=true:=(by simp;omega);refine must g (must h<|must (zps m)<|must j<|must k ?_);refine(zbq a.Tables (λi (t:lK)=>(ln a.Tables,(i:Int),a.Pending,a.Traps,a.Own,0,0,0,t,a.Tables,ze1 a.Outer,zez a.Out,ap [] a.Dirty,zdW a.Guests,zeD a.Outs,[],[],[],[],[],[],())) _ (λ_ x b r=>bif zed x then (cond (few<|ln<|ap b [zdl x]) (r<|ap b [zdl x]) none) else none) (λ(t:lK)=>some [.agg<|Ty.cells .mon (⟨ze1 a.Outer,zez a.Out,ap [] a.Dirty,zdW a.Guests,zeD a.Outs,a.Pending,a.Traps,t,a.Own⟩:Mon)]) (λi c t rec=>?_) (λt rec=>?_) _ ([])<|d e.1).trans ?_;{simp only [zbI c,zbm c,zbu c,zbj c e.1,cT]};{simp only [zbz,cF]};exact zlc zed zdl _ a.Tables 0 [] (λx q=>⟨zbs<|f.2 x q,rfl⟩) (by simpa using e.2)
theorem zLn:vP 127 zBj:=kF1 zUt zn zx zo zTv zSK
def z8p:zba:=[(127,zBj)]++z8o
theorem zzC:zT z8p:=zi zLn zUt
def zCb (N:Nat)(b:Host):OA:=
 (oN (zhv b.Memory)<|oN (few<|ln<|ap [] b.Buffer)<|oN (few<|ln<|ap [] b.IoBuffer)<|iter (σ:=(Int×Int×lN×lM×lN×lE×lE×lM×lN×lE×lE×Unit)) N (λe a=>let d:=ix a.2.2.1 a.2.1 zh;let c:=ap a.2.2.2.2.2.2.2.2.1 [zmJ d]; (cond (ilt a.2.1 a.1) (oN (inb a.2.1<|ln a.2.2.1)<|oN (zl8 d)<|oN (few<|ln c)<|e (a.1,zQ .i64 a.2.1 1,a.2.2.1,a.2.2.2.1,a.2.2.2.2.1,a.2.2.2.2.2.1,a.2.2.2.2.2.2.1,a.2.2.2.2.2.2.2.1,c,a.2.2.2.2.2.2.2.2.2.1,a.2.2.2.2.2.2.2.2.2.2.1,()))<|some [aH (⟨a.2.2.2.2.2.2.2.1,a.2.2.2.2.2.2.2.2.1,a.2.2.2.2.2.2.2.2.2.1,a.2.2.2.2.2.2.2.2.2.2.1⟩:Host)])) (ln b.Mons,0,b.Mons,[],[],[],[],zez b.Memory,[],ap [] b.Buffer,ap [] b.IoBuffer,()))
def zQg:=zq [(68,0,{n:=34,tm:=[(2,.lp 0 0),(3,.lp 1 0),(19,.sl 0 []),(20,ti),(21,ti)],lo:=[(0,[.sl 1 [],.sl 2 [],.sl 3 [],.sl 4 []]),(1,[.sl 5 [],.sl 6 [],.sl 7 [],.sl 8 []])],ro:=[(0,.mon,false),(1,.sl .int,true),(2,.mon,true),(3,.entry,true),(4,.entry,true),(5,.sl .int,true),(6,.mon,true),(7,.entry,true),(8,.entry,true)]})]
theorem zPr (a:Host)(l:zU a=true):∃N,zCb N a=some [aH<|zk a]:=by
 obtain⟨h,f,j,k⟩:=(zS a).1 (zK.1 l);have e:=zda f.1;refine zcE λN d=>?_;unfold zCb oN;conv=>zeta
 have g:zhv a.Memory=true:=(by simp;exact h);refine must g (must (zps j)<|must (zps k) ?_);refine(zbq a.Mons (λi (t:lN)=>(ln a.Mons,(i:Int),a.Mons,[],[],[],[],zez a.Memory,t,ap [] a.Buffer,ap [] a.IoBuffer,())) _ (λ_ x b n=>bif zl8 x then (cond (few<|ln<|ap b [zmJ x]) (n<|ap b [zmJ x]) none) else none) (λ(t:lN)=>some [.agg<|zbf (⟨zez a.Memory,t,ap [] a.Buffer,ap [] a.IoBuffer⟩:Host)]) (λi c t rec=>?_) (λt rec=>?_) _ ([])<|d e.1).trans ?_;{simp only [zbI c,zbm c,zbu c,zbj c e.1,cT]};{simp only [zbz,cF]};exact zlc zl8 zmJ _ a.Mons 0 [] (λx m=>⟨zbs<|f.2 x m,rfl⟩) (by simpa using e.2)
theorem zId:vP 68 zoZ:=kF1 zzC zn zx zo zQg zPr
def allI {a:Type}(p:Nat->a->Bool):List a->Nat->Bool
 |[],_=>true
 |x::l,i=>p i x&&allI p l (i+1)
theorem zHQ {a b:Type}(p:Nat->a->Bool)(r:Option b)(K:Unit->Option b):∀(l:List a) (i:Nat),goL (λi x (_:Unit) k=>bif p i x then k () else r) K l i ()=bif allI p l i then K () else r
 |[],_=>rfl
 |x::l,i=>by simp only[goL,allI];cases p i x;{rfl};{simp only [cT,u2];exact zHQ p r K l (i+1)}
theorem zQX {a:Type}(q:a->Bool)(l:List a)(d:a):∀(n i:Nat),i+n<=l.length->zpM (λj=>q (ix l (j:Int) d)) n i=((l.drop i).take n).all q
 | 0,i,_=>by simp[zpM]
 |n+1,i,h=>by have b:i<l.length:=(by omega);rw[k6 b,List.take_succ_cons,k5,<- zQX q l d n (i+1) (by omega)];simp only[zpM,zbu b]
def sameKey (a b:Entry):Bool:=bif ieq a.Tag b.Tag then ieq a.Page b.Page else false
def alone (l:List Entry)(i:Nat)(x:Entry):Bool:=(l.take i).all λy=>!sameKey x y
def zgL (l:List Entry):Bool:=bif allI (alone l) l 0 then ile (ln l) 6 else false
theorem z6o {a:Type}{l:List a}{i:Nat}(h:i<=l.length):inr 0 (i:Int) (ln l)=true:=qJ (by simp only[ln];omega)
@[simp] abbrev zi3 (l:List Entry):Bool:=true
@[simp] abbrev ziy (l:List Entry):Bool:=zgL l
def znF:Run:=rF1 (dS .entry) λb=>(zi3 b,[aB<|ziy b])
def zBY (N:Nat)(g:lE):OA:=
 (iter (σ:=(Int×Int×lE×Unit)) N (λi b=>let c:=b.2.2.1;let e:=ix c b.2.1 zg1; (cond (ilt b.2.1 b.1) (oN (inb b.2.1<|ln c)<|oN (inr 0 b.2.1<|ln c)<|iter (σ:=(Int×Int×Int×Int×Int×Int×Int×Int×lE×lE×Unit)) N (λj a=>let d:=a.2.2.2.1;let f:=a.2.2.2.2.2.2.2.2.2.1;let h:=j (a.1,a.2.1,a.2.2.1,zQ .i64 d 1,a.2.2.2.2.1,a.2.2.2.2.2.1,a.2.2.2.2.2.2.1,a.2.2.2.2.2.2.2.1,a.2.2.2.2.2.2.2.2.1,f,()); (cond (ilt d a.2.2.1) (oN (inb d<|ln f)<|cond (ieq a.2.2.2.2.1 (ix f d zg1).Tag) (cond (ieq a.2.2.2.2.2.1 (ix f d zg1).Page) oF h) h)<|i (a.1,zQ .i64 a.2.1 1,a.2.2.2.2.2.2.2.2.1,()))) (b.1,b.2.1,ln<|tk c b.2.1,0,e.Tag,e.Page,e.Host,e.Rights,c,tk c b.2.1,()))<|some [aB<|ile (ln c) 6])) (ln g,0,g,()))
def zQe:=zq [(106,0,{n:=39,tm:=[(0,.sl 0 []),(7,.sl 0 []),(8,ti),(9,ti)],lo:=[],ro:=[(0,.entry,false)]}),(106,2,{n:=39,tm:=[(0,.sl 0 []),(4,.lp 0 0),(7,.sl 0 []),(8,ti),(9,ti),(16,.sl 1 []),(17,ti),(18,ti)],lo:=[(0,[ti,ti,ti,ti])],ro:=[(0,.entry,false),(1,.entry,false)]})]
theorem zPe (a:List Entry)(l:zbR big [aS .entry a])(m:zi3 a=true):∃N,zBY N a=some [aB<|ziy a]:=by
 have e:=len0 l;refine zcE λN d=>?_;unfold zBY oN;conv=>zeta
 refine(zbq a (λi (t:Unit)=>(ln a,(i:Int),a,())) _ (λi (x:Entry) (_:Unit) h=>bif alone a i x then h () else oF) (λ(t:Unit)=>some [.one<|.b<|ile (ln a) 6]) (λi c t rec=>?_) (λt rec=>?_) _ ()<|d e).trans ?_;{simp only [zbI c,zbm c,zbu c,zbj c e,cT];rw[z6o<|Nat.le_of_lt c,cT];have k:(tk a (i:Int)).length<=big:=qU (by simp[tk];omega) e;refine(zbq (tk a (i:Int)) (λj (u:Unit)=>(ln a,(i:Int),ln<|tk a (i:Int),(j:Int),a[i].Tag,a[i].Page,a[i].Host,a[i].Rights,a,tk a (i:Int),())) _ (λ_ (y:Entry) (_:Unit) h=>bif !sameKey a[i] y then h () else oF) (λ(u:Unit)=>rec (ln a,((i+1:Nat):Int),a,())) (λj g u f=>?_) (λu f=>?_) _ ()<|d k).trans ?_;{simp only [zbI g,zbm g,zbu g,zbj g k,cT,zbj c e];unfold sameKey;cases ieq a[i].Tag (tk a (i:Int))[j].Tag<;>cases ieq a[i].Page (tk a (i:Int))[j].Page<;>rfl};{simp only [zbz,cF,zbj c e]};rw[zh8 λy=>!sameKey a[i] y];rfl};{simp only [zbz,cF]};rw[zHQ<|alone a];unfold ziy zgL;cases allI (alone a) a 0<;>rfl
theorem zHX:vP 106 znF:=hF1 zzC zn zx zo zQe zPe
def zCm (N:Nat)(f:lE):OA:=
 (iter (σ:=(Int×lE×Unit)) N (λg c=>cond (ilt c.1<|ln c.2.1) (iter (σ:=(Int×Int×lE×Unit)) N (λh a=>let b:=a.2.2.1;let e:=ix b a.2.1 zg1;let d:=h (a.1,zQ .i64 a.2.1 1,b,()); (cond (ilt a.2.1 a.1) (oN (inb a.1<|ln b)<|oN (inb a.2.1<|ln b)<|cond (ieq (ix b a.1 zg1).Tag e.Tag) (oN (inb a.1<|ln b)<|oN (inb a.2.1<|ln b)<|cond (ieq (ix b a.1 zg1).Page e.Page) oF d) d)<|g (zQ .i64 a.1 1,b,()))) (c.1,0,c.2.1,()))<|some [aB<|ile (ln c.2.1) 6]) (0,f,()))
def zQk:=zq [(109,0,{n:=43,tm:=[(0,.sl 0 []),(3,ti)],lo:=[],ro:=[(0,.entry,false)]}),(109,2,{n:=43,tm:=[(0,.sl 0 []),(3,ti),(4,ti)],lo:=[],ro:=[(0,.entry,false)]})]
theorem zPz (a:List Entry)(k:zbR big [aS .entry a])(l:zi3 a=true):∃N,zCm N a=some [aB<|ziy a]:=by
 have g:=len0 k;refine zcE λN d=>?_;unfold zCm oN;conv=>zeta
 refine(zbq a (λi (t:Unit)=>((i:Int),a,())) _ (λi (x:Entry) (_:Unit) h=>bif alone a i x then h () else oF) (λ(t:Unit)=>some [.one<|.b<|ile (ln a) 6]) (λi c t rec=>?_) (λt rec=>?_) _ ()<|d g).trans ?_;{simp only [zbI c,zbm c,zbu c,zbj c g,cT];refine(zvn i (λ(j:Nat) (_:Unit)=>((i:Int),(j:Int),a,())) _ (λj (_:Unit) h=>bif !sameKey a[i] (ix a (j:Int) zg1) then h () else oF) (λ_=>rec (((i+1:Nat):Int),a,())) (λj m u f=>?_) (λu f=>?_) _ ()<|d (by omega)).trans ?_;{have e:j<a.length:=(by omega);simp only[show ilt (j:Int) (i:Int)=true from qJ (by omega),zbm c,zbm e,zbu c,zbj e g,cT];unfold sameKey;cases ieq a[i].Tag (ix a (j:Int) zg1).Tag<;>cases ieq a[i].Page (ix a (j:Int) zg1).Page<;>rfl};{simp only [show ilt (i:Int) (i:Int)=false from qH (by omega),zbj c g,cF]};rw[zEz λj=>!sameKey a[i] (ix a (j:Int) zg1),zQX (λy=>!sameKey a[i] y) a _ i 0 (by omega)];rfl};{simp only [zbz,cF]};rw[zHQ<|alone a];unfold ziy zgL;cases allI (alone a) a 0<;>rfl
theorem zIm:vP 109 znF:=hF1 zzC zn zx zo zQk zPz
def z8q:zba:=[(68,zoZ),(109,znF),(106,znF)]++z8p
theorem zHD:zT z8q:=zi zId (zi zIm<|zi zHX zzC)
theorem zO6 (a b:Int):igt a b = !ile a b:=by unfold igt ile;by_cases h:a<=b;{rw [qJ h,qH (by omega)];rfl};{rw [qH h,qJ (by omega)];rfl}
theorem stB {c M:Bool}{E:OA}(h:c=true->E=some [AV.one<|.b M]):(cond (cond c false true) (some [AV.one<|.b false]) E)=some [AV.one<|.b<|cond c M false]:=by cases c;{rfl};{exact h rfl}
theorem stI {a b:Int}{M:Bool}{E:OA}(h:ieq a b=true->E=some [AV.one<|.b M]):(cond (ine a b) (some [AV.one<|.b false]) E)=some [AV.one<|.b<|cond (ieq a b) M false]:=by rw[zjA];cases c:ieq a b;{rfl};{exact h c}
theorem stG {a b:Int}{M:Bool}{E:OA}(h:ile a b=true->E=some [AV.one<|.b M]):(cond (igt a b) (some [AV.one<|.b false]) E)=some [AV.one<|.b<|cond (ile a b) M false]:=by rw[zO6];cases c:ile a b;{rfl};{exact h c}
def znB (s:Slot)(p:List Int):Bool:=bif zdJ s noSlot then zc1 p else (cond (enough s.Rights 1) (ile (ln p) 0) false)
def fits (m:Mon)(j:Nat):Bool:=znB (ix m.Outer (j:Int) zV) (ix m.Out (j:Int) [])
def zfF (m:Mon):Bool:=bif zl (ln m.Guests) 1 2 then (cond (ieq (ln m.Tables)<|ln m.Guests) (cond (zdL m.Outer 8 12) (cond (ieq (ln m.Out) 8) (cond (ieq (ln m.Dirty) 8) (cond (ile (ln m.Outs) 40) (cond (zee m.Pending) (cond (zl m.Traps 0 3) (cond (zl m.Own 0 1000000000) (cond (m.Guests.all zes) (zpM (fits m) 8 0) false) false) false) false) false) false) false) false) false) else false
theorem ztm {t:List Slot}{n p:Int}(h:zdL t n p=true):ln t=n:=by unfold zdL at h;cases a:t.all (λs=>zeP s p);{rw [a]at h;cases h};{rw [a]at h;exact qD h}
@[simp] abbrev zjN (m:Mon):Bool:=true
@[simp] abbrev zkD (m:Mon):Bool:=zfF m
def zsg:Run:=rF1 (dT .mon) λb=>(zjN b,[aB<|zkD b])
def zQD (N:Nat)(a:Mon):OA:=
 let h:=ln a.Guests; (oN (zM h 1 2)<|cond (nB<|zl h 1 2) oF<|cond (ine (ln a.Tables) h) oF<|oN (zkd a.Outer 8 12)<|cond (nB<|zfn a.Outer 8 12) oF<|cond (ine (ln a.Out) 8) oF<|cond (ine (ln a.Dirty) 8) oF<|cond (igt (ln a.Outs) 40) oF<|oN (zcl a.Pending)<|cond (nB<|zeT a.Pending) oF<|oN (zM a.Traps 0 3)<|cond (nB<|zl a.Traps 0 3) oF<|oN (zM a.Own 0 1000000000)<|cond (nB<|zl a.Own 0 1000000000) oF<|iter (σ:=(Int×Int×Int×Int×Int×lG×lS×lM×lB×(List Int)×lK×Unit)) N (λl b=>let i:=b.2.2.2.2.2.2.1;let g:=b.2.2.2.2.2.1;let k:=ix g b.2.1 zy; (cond (ilt b.2.1 b.1) (oN (inb b.2.1<|ln g)<|oN (zbx k)<|cond (nB<|ziG k) oF<|l (b.1,zQ .i64 b.2.1 1,b.2.2.1,b.2.2.2.1,b.2.2.2.2.1,g,i,b.2.2.2.2.2.2.2.1,b.2.2.2.2.2.2.2.2.1,b.2.2.2.2.2.2.2.2.2.1,b.2.2.2.2.2.2.2.2.2.2.1,()))<|iter (σ:=(Int×Int×Int×Int×Int×lS×lM×lB×lG×(List Int)×lK×Unit)) N (λm c=>let d:=c.2.1;let e:=c.2.2.2.2.2.2.1;let f:=ix c.2.2.2.2.2.1 d zV;let j:=m (c.1,zQ .i64 d 1,c.2.2.1,c.2.2.2.1,c.2.2.2.2.1,c.2.2.2.2.2.1,e,c.2.2.2.2.2.2.2.1,c.2.2.2.2.2.2.2.2.1,c.2.2.2.2.2.2.2.2.2.1,c.2.2.2.2.2.2.2.2.2.2.1,()); (cond (ilt d c.1) (oN (inb d<|ln c.2.2.2.2.2.1)<|oN zbV<|cond (cond (ieq f.Page zbk.Page) (ieq f.Rights zbk.Rights) false) (oN (inb d<|ln e)<|oN (zeg<|ix e d [])<|cond (nB<|zdG<|ix e d []) oF j)<|oN (zbl f.Rights 1)<|cond (nB<|zdr f.Rights 1) oF<|oN (inb d<|ln e)<|cond (igt (ln<|ix e d []) 0) oF j) oT)) (ln i,0,b.2.2.1,b.2.2.2.1,b.2.2.2.2.1,i,b.2.2.2.2.2.2.2.1,b.2.2.2.2.2.2.2.2.1,g,b.2.2.2.2.2.2.2.2.2.1,b.2.2.2.2.2.2.2.2.2.2.1,()))) (h,0,a.Pending,a.Traps,a.Own,a.Guests,a.Outer,a.Out,a.Dirty,a.Outs,a.Tables,()))
def zY1:=zq [(107,0,{n:=106,tm:=[(1,.lp 0 0),(64,.sl 0 []),(65,ti),(66,ti)],lo:=[(0,[.sl 1 [],.sl 2 [],.sl 3 [],.sl 0 [],.sl 4 [],ti,ti,.sl 5 [],ti])],ro:=[(0,.guest,false),(1,.slot,false),(2,.sl .int,false),(3,.bool,false),(4,.int,false),(5,.kept,false)]}),(107,2,{n:=106,tm:=[(1,.lp 0 0),(75,.sl 0 []),(76,ti),(77,ti)],lo:=[(0,[.sl 0 [],.sl 1 [],.sl 2 [],.sl 3 [],.sl 4 [],ti,ti,.sl 5 [],ti])],ro:=[(0,.slot,false),(1,.sl .int,false),(2,.bool,false),(3,.guest,false),(4,.int,false),(5,.kept,false)]})]
theorem zX8 (a:Mon)(l:zbR big [aT .mon a])(E:zjN a=true):∃N,zQD N a=some [aB<|zkD a]:=by
 have hg:a.Guests.length<=big:=((zdY l).1 (.s .guest a.Guests) (by simp[AV.cvs,Ty.cells])).len;have m:a.Outer.length<=big:=((zdY l).1 (.s .slot a.Outer) (by simp[AV.cvs,Ty.cells])).len;refine zcE λN d=>?_;unfold zQD zkD zfF oN nB;conv=>zeta
 refine must rfl (stB λw=>stI λy=>must rfl (stB λr=>stI λv=>stI λz=>stG λA=>must rfl (stB λB=>must rfl (stB λC=>must rfl (stB λD=>?_)))));have p:=ztm r;have q:ln a.Out=8:=qD v;simp only[ln] at p q;refine(zbq a.Guests (λi (t:Unit)=>(ln a.Guests,(i:Int),a.Pending,a.Traps,a.Own,a.Guests,a.Outer,a.Out,a.Dirty,a.Outs,a.Tables,())) _ (λ_ (x:Guest) (_:Unit) g=>bif zes x then g () else oF) (λ(t:Unit)=>iter (σ:=(Int×Int×Int×Int×Int×lS×lM×lB×lG×(List Int)×lK×Unit)) N (λn c=>cond (ilt c.2.1 c.1) (cond (inb c.2.1<|ln c.2.2.2.2.2.1) (cond zbV (cond (cond (ieq (ix c.2.2.2.2.2.1 c.2.1 zV).Page zbk.Page) (ieq (ix c.2.2.2.2.2.1 c.2.1 zV).Rights zbk.Rights) false) (cond (inb c.2.1<|ln c.2.2.2.2.2.2.1) (cond (zeg<|ix c.2.2.2.2.2.2.1 c.2.1 []) (cond (cond (zdG<|ix c.2.2.2.2.2.2.1 c.2.1 []) false true) oF<|n (c.1,zQ .i64 c.2.1 1,c.2.2.1,c.2.2.2.1,c.2.2.2.2.1,c.2.2.2.2.2.1,c.2.2.2.2.2.2.1,c.2.2.2.2.2.2.2.1,c.2.2.2.2.2.2.2.2.1,c.2.2.2.2.2.2.2.2.2.1,c.2.2.2.2.2.2.2.2.2.2.1,())) none) none)<|cond (zbl (ix c.2.2.2.2.2.1 c.2.1 zV).Rights 1) (cond (cond (zdr (ix c.2.2.2.2.2.1 c.2.1 zV).Rights 1) false true) oF<|cond (inb c.2.1<|ln c.2.2.2.2.2.2.1) (cond (igt (ln<|ix c.2.2.2.2.2.2.1 c.2.1 []) 0) oF<|n (c.1,zQ .i64 c.2.1 1,c.2.2.1,c.2.2.2.1,c.2.2.2.2.1,c.2.2.2.2.2.1,c.2.2.2.2.2.2.1,c.2.2.2.2.2.2.2.1,c.2.2.2.2.2.2.2.2.1,c.2.2.2.2.2.2.2.2.2.1,c.2.2.2.2.2.2.2.2.2.2.1,())) none) none) none) none)<|some [.one<|.b true]) (ln a.Outer,0,a.Pending,a.Traps,a.Own,a.Outer,a.Out,a.Dirty,a.Guests,a.Outs,a.Tables,())) (λi h t rec=>?_) (λt rec=>?_) _ ()<|d hg).trans ?_;{simp only [zbI h,zbm h,zbu h,zbj h hg,cT];simp only[zbx,ziG,cT];cases zes a.Guests[i]<;>rfl};{simp only [zbz,cF]};rw[zh8 zes];cases a.Guests.all zes;{rfl};simp only[cT];refine(zbq a.Outer (λj (u:Unit)=>(ln a.Outer,(j:Int),a.Pending,a.Traps,a.Own,a.Outer,a.Out,a.Dirty,a.Guests,a.Outs,a.Tables,())) _ (λj (_:Slot) (_:Unit) g=>bif fits a j then g () else oF) (λ(u:Unit)=>some [.one<|.b true]) (λj e u f=>?_) (λu f=>?_) _ ()<|d m).trans ?_;{simp only [zbI e,zbm e,zbu e,zbj e m,cT];have k:j<a.Out.length:=(by omega);simp only[zbV,zbk,zeg,zdG,zbl,zdr,zbm k,zO6,cT];unfold fits znB;simp only[zbu e,zdJ];cases ieq a.Outer[j].Page noSlot.Page<;>cases ieq a.Outer[j].Rights noSlot.Rights<;>cases enough a.Outer[j].Rights 1<;>cases ile (ln<|ix a.Out (j:Int) []) 0<;>cases zc1 (ix a.Out (j:Int) [])<;>rfl};{simp only [zbz,cF]};rw[zym λj (_:Unit) g=>bif fits a j then g () else oF,zEz<|fits a,show a.Outer.length=8 by omega];cases zpM (fits a) 8 0<;>rfl
theorem zR6:vP 107 zsg:=hF1 zHD zn zx zo zY1 zX8
def zQP (N:Nat)(c:Mon):OA:=
 (oN (zM (ln c.Guests) 1 2)<|cond (nB<|zl (ln c.Guests) 1 2) oF<|cond (ine (ln c.Tables)<|ln c.Guests) oF<|oN (zkd c.Outer 8 12)<|cond (nB<|zfn c.Outer 8 12) oF<|cond (ine (ln c.Out) 8) oF<|cond (ine (ln c.Dirty) 8) oF<|iter (σ:=(Int×Int×Int×Int×lS×lM×lB×lG×(List Int)×lK×Unit)) N (λl b=>let d:=b.2.2.2.2.2.2.2.1; (cond (ilt b.1<|ln d) (oN (inb b.1<|ln d)<|oN (zbx<|ix d b.1 zy)<|cond (nB<|ziG<|ix d b.1 zy) oF<|l (zQ .i64 b.1 1,b.2.1,b.2.2.1,b.2.2.2.1,b.2.2.2.2.1,b.2.2.2.2.2.1,b.2.2.2.2.2.2.1,d,b.2.2.2.2.2.2.2.2.1,b.2.2.2.2.2.2.2.2.2.1,()))<|iter (σ:=(Int×Int×Int×Int×lS×lM×lB×lG×(List Int)×lK×Unit)) N (λm a=>let h:=a.2.2.2.2.1;let i:=inb a.1<|ln a.2.2.2.2.2.1;let e:=ix a.2.2.2.2.2.1 a.1 [];let g:=ix h a.1 zV;let k:=ieq g.Rights zbk.Rights;let j:=ieq g.Page zbk.Page;let f:=m (zQ .i64 a.1 1,a.2.1,a.2.2.1,a.2.2.2.1,h,a.2.2.2.2.2.1,a.2.2.2.2.2.2.1,a.2.2.2.2.2.2.2.1,a.2.2.2.2.2.2.2.2.1,a.2.2.2.2.2.2.2.2.2.1,()); (cond (ilt a.1 8) (oN (inb a.1<|ln h)<|oN zbV<|cond (nB<|cond j k false) (oN i<|cond (igt (ln e) 0) oF<|oN (inb a.1<|ln h)<|oN (zbl g.Rights 1)<|cond (nB<|zdr g.Rights 1) oF<|cond (nB<|nB<|cond j k false) (oN i<|oN (zeg e)<|cond (nB<|zdG e) oF f) f)<|cond (nB<|nB<|cond j k false) (oN i<|oN (zeg e)<|cond (nB<|zdG e) oF f) f)<|cond (ile (ln a.2.2.2.2.2.2.2.2.1) 40) (oN (zcl a.2.1)<|cond (zeT a.2.1) (oN (zM a.2.2.1 0 3)<|cond (zl a.2.2.1 0 3) (oN (zM a.2.2.2.1 0 1000000000)<|some [aB<|zl a.2.2.2.1 0 1000000000]) oF) oF) oF)) (0,b.2.1,b.2.2.1,b.2.2.2.1,b.2.2.2.2.1,b.2.2.2.2.2.1,b.2.2.2.2.2.2.1,d,b.2.2.2.2.2.2.2.2.1,b.2.2.2.2.2.2.2.2.2.1,()))) (0,c.Pending,c.Traps,c.Own,c.Outer,c.Out,c.Dirty,c.Guests,c.Outs,c.Tables,()))
def zY3:=zq [(110,0,{n:=115,tm:=[(1,.lp 0 0),(3,ti)],lo:=[(0,[.sl 0 [],.sl 1 [],.sl 2 [],.sl 3 [],.sl 4 [],ti,ti,.sl 5 [],ti])],ro:=[(0,.slot,false),(1,.sl .int,false),(2,.bool,false),(3,.guest,false),(4,.int,false),(5,.kept,false)]}),(110,2,{n:=115,tm:=[(1,.lp 0 0),(4,ti)],lo:=[(0,[.sl 0 [],.sl 1 [],.sl 2 [],.sl 3 [],.sl 4 [],ti,ti,.sl 5 [],ti])],ro:=[(0,.slot,false),(1,.sl .int,false),(2,.bool,false),(3,.guest,false),(4,.int,false),(5,.kept,false)]})]
theorem zYi (c:Mon)(r:zbR big [aT .mon c])(A:zjN c=true):∃N,zQP N c=some [aB<|zkD c]:=by
 have hg:c.Guests.length<=big:=((zdY r).1 (.s .guest c.Guests) (by simp[AV.cvs,Ty.cells])).len;refine zcE λN d=>?_;unfold zQP zkD zfF oN nB;conv=>zeta
 refine must rfl (stB λw=>stI λy=>must rfl (stB λp=>stI λq=>stI λz=>?_));have m:=ztm p;have n:ln c.Out=8:=qD q;simp only[ln] at m n;refine(zbq c.Guests (λi (t:Unit)=>((i:Int),c.Pending,c.Traps,c.Own,c.Outer,c.Out,c.Dirty,c.Guests,c.Outs,c.Tables,())) _ (λ_ (x:Guest) (_:Unit) l=>bif zes x then l () else oF) (λ(t:Unit)=>iter (σ:=(Int×Int×Int×Int×lS×lM×lB×lG×(List Int)×lK×Unit)) N (λh a=>cond (ilt a.1 8) (cond (inb a.1<|ln a.2.2.2.2.1) (cond zbV (cond (cond (cond (ieq (ix a.2.2.2.2.1 a.1 zV).Page zbk.Page) (ieq (ix a.2.2.2.2.1 a.1 zV).Rights zbk.Rights) false) false true) (cond (inb a.1<|ln a.2.2.2.2.2.1) (cond (igt (ln<|ix a.2.2.2.2.2.1 a.1 []) 0) oF<|cond (inb a.1<|ln a.2.2.2.2.1) (cond (zbl (ix a.2.2.2.2.1 a.1 zV).Rights 1) (cond (cond (zdr (ix a.2.2.2.2.1 a.1 zV).Rights 1) false true) oF<|cond (cond (cond (cond (ieq (ix a.2.2.2.2.1 a.1 zV).Page zbk.Page) (ieq (ix a.2.2.2.2.1 a.1 zV).Rights zbk.Rights) false) false true) false true) (cond (inb a.1<|ln a.2.2.2.2.2.1) (cond (zeg<|ix a.2.2.2.2.2.1 a.1 []) (cond (cond (zdG<|ix a.2.2.2.2.2.1 a.1 []) false true) oF<|h (zQ .i64 a.1 1,a.2.1,a.2.2.1,a.2.2.2.1,a.2.2.2.2.1,a.2.2.2.2.2.1,a.2.2.2.2.2.2.1,a.2.2.2.2.2.2.2.1,a.2.2.2.2.2.2.2.2.1,a.2.2.2.2.2.2.2.2.2.1,())) none) none)<|h (zQ .i64 a.1 1,a.2.1,a.2.2.1,a.2.2.2.1,a.2.2.2.2.1,a.2.2.2.2.2.1,a.2.2.2.2.2.2.1,a.2.2.2.2.2.2.2.1,a.2.2.2.2.2.2.2.2.1,a.2.2.2.2.2.2.2.2.2.1,())) none) none) none)<|cond (cond (cond (cond (ieq (ix a.2.2.2.2.1 a.1 zV).Page zbk.Page) (ieq (ix a.2.2.2.2.1 a.1 zV).Rights zbk.Rights) false) false true) false true) (cond (inb a.1<|ln a.2.2.2.2.2.1) (cond (zeg<|ix a.2.2.2.2.2.1 a.1 []) (cond (cond (zdG<|ix a.2.2.2.2.2.1 a.1 []) false true) oF<|h (zQ .i64 a.1 1,a.2.1,a.2.2.1,a.2.2.2.1,a.2.2.2.2.1,a.2.2.2.2.2.1,a.2.2.2.2.2.2.1,a.2.2.2.2.2.2.2.1,a.2.2.2.2.2.2.2.2.1,a.2.2.2.2.2.2.2.2.2.1,())) none) none)<|h (zQ .i64 a.1 1,a.2.1,a.2.2.1,a.2.2.2.1,a.2.2.2.2.1,a.2.2.2.2.2.1,a.2.2.2.2.2.2.1,a.2.2.2.2.2.2.2.1,a.2.2.2.2.2.2.2.2.1,a.2.2.2.2.2.2.2.2.2.1,())) none) none)<|cond (ile (ln a.2.2.2.2.2.2.2.2.1) 40) (cond (zcl a.2.1) (cond (zeT a.2.1) (cond (zM a.2.2.1 0 3) (cond (zl a.2.2.1 0 3) (cond (zM a.2.2.2.1 0 1000000000) (some [.one<|.b<|zl a.2.2.2.1 0 1000000000]) none) oF) none) oF) none) oF) (0,c.Pending,c.Traps,c.Own,c.Outer,c.Out,c.Dirty,c.Guests,c.Outs,c.Tables,())) (λi g t rec=>?_) (λt rec=>?_) _ ()<|d hg).trans ?_;{simp only [zbI g,zbm g,zbu g,zbj g hg,cT];simp only[zbx,ziG,cT];cases zes c.Guests[i]<;>rfl};{simp only [zbz,cF]};rw[zh8 zes];cases B:c.Guests.all zes;{simp only [cF];cases ile (ln c.Outs) 40<;>cases zee c.Pending<;>cases zl c.Traps 0 3<;>cases zl c.Own 0 1000000000<;>rfl};simp only[cT];refine(zvn 8 (λj (u:Unit)=>((j:Int),c.Pending,c.Traps,c.Own,c.Outer,c.Out,c.Dirty,c.Guests,c.Outs,c.Tables,())) _ (λj (_:Unit) l=>bif fits c j then l () else oF) (λ(u:Unit)=>cond (ile (ln c.Outs) 40) (cond (zcl c.Pending) (cond (zeT c.Pending) (cond (zM c.Traps 0 3) (cond (zl c.Traps 0 3) (cond (zM c.Own 0 1000000000) (some [.one<|.b<|zl c.Own 0 1000000000]) none) oF) none) oF) none) oF) (λj v u f=>?_) (λu f=>?_) _ ()<|d (by decide)).trans ?_;{simp only [show ilt (j:Int) 8=true from qJ (by omega),zbj v (show 8<=big by decide),cT];have e:j<c.Outer.length:=(by omega);have k:j<c.Out.length:=(by omega);simp only[zbV,zbk,zeg,zdG,zbl,zdr,zbm e,zbm k,zO6,cT];unfold fits znB;simp only[zbu e,zdJ];cases ieq c.Outer[j].Page noSlot.Page<;>cases ieq c.Outer[j].Rights noSlot.Rights<;>cases enough c.Outer[j].Rights 1<;>cases ile (ln<|ix c.Out (j:Int) []) 0<;>cases zc1 (ix c.Out (j:Int) [])<;>rfl};{simp only [show ilt ((8:Nat):Int) 8=false from qH (by omega),cF];rfl};rw[zEz<|fits c];simp only[zcl,zeT,zM,zTU,cT];cases zpM (fits c) 8 0<;>cases ile (ln c.Outs) 40<;>cases zee c.Pending<;>cases zl c.Traps 0 3<;>cases zl c.Own 0 1000000000<;>rfl
theorem zSi:vP 110 zsg:=hF1 zHD zn zx zo zY3 zYi
def z8r:zba:=[(110,zsg),(107,zsg)]++z8q
theorem zHE:zT z8r:=zi zSi (zi zR6 zHD)
def zit:List Slot->List Bool->Option (List Bool)
 |[],u=>some u
 |s::l,u=>bif ilt s.Page 0 then zit l u else (cond (ix u s.Page false) none<|zit l<|up u s.Page true)
def zky:List Mon->List Bool->Bool
 |[],_=>true
 |m::l,u=>bif zfF m then (match zit m.Outer u with|some a=>zky l a|none=>false) else false
def zb0 (h:Host):Bool:=bif zjP h.Memory 12 then (cond (zl (ln h.Mons) 1 3) (cond (zgL h.Buffer) (cond (zgL h.IoBuffer) (zky h.Mons<|rp 12 false) false) false) false) else false
theorem zrg:∀(l:List Slot) (u a:List Bool),zit l u=some a->a.length=u.length
 |[],u,a,h=>by cases h;rfl
 |s::l,u,a,h=>by simp only[zit]at h;cases b:ilt s.Page 0;{rw [b]at h;cases c:ix u s.Page false;{rw [c]at h;simpa using zrg l _ a h};{rw [c]at h;cases h}};{rw [b]at h;exact zrg l u a h}
theorem zEL {t:List Slot}{n:Int}(h:zdL t n 12=true):∀s∈t,s.Page<12:=by intro s d;unfold zdL at h;cases b:t.all (λs=>zeP s 12);{rw [b]at h;cases h};{have:=qM.1 b s d;unfold zeP at this;cases a:zdJ s noSlot;{rw [a] at this;simp only[cF,show igt 12 0=true from rfl,cT] at this;cases c:zl s.Page 0 (wsub .i64 12 1);{rw [c] at this;cases this};{have:=(zfT.1 c).2;rw[show wsub .i64 12 1=11 from rfl] at this;omega}};{unfold zdJ at a;rw[qE]at a;have a:s.Page = -1:=qD a.1;omega}}
theorem zXy {s:Slot}{u:List Bool}(h:s.Page<12)(b:u.length=12)(a:ilt s.Page 0=false):inb s.Page (ln u)=true:=by have:=qW a;exact qJ (by simp only[ln];omega)
def zu0 {a:Type}(r:Option a)(y:Slot)(u:List Bool)(b:List Bool->Option a):Option a:=bif ilt y.Page 0 then b u else (cond (inb y.Page<|ln u) (cond (ix u y.Page false) r<|cond (inb y.Page<|ln u) (share (up u y.Page true) λc=>b c) none) none)
theorem zzP {c:Type}(r:Option c)(K:List Bool->Option c):∀(l:List Slot) (i:Nat) (u:List Bool),(∀s∈l,s.Page<12)->u.length=12->
 goL (λ_ y u g=>zu0 r y u g) K l i u=match zit l u with|some f=>K f|none=>r
 |[],_,_,_,_=>rfl
 |s::l,i,u,h,b=>by simp only[goL,zit,zu0];cases d:ilt s.Page 0;{have e:=zXy (h s (by simp)) b d;rw[e];cases ix u s.Page false;{simp only [cF,cT,share];exact zzP r K l (i+1) _ (λs a=>h s (by simp[a])) (by simpa using b)};{rfl}};{simp only [cT];exact zzP r K l (i+1) u (λs a=>h s (by simp[a])) b}
def z0f {b:Type}(r:Option b)(m:Mon)(u:List Bool)(a:List Bool->Option b):Option b:=bif zfF m then goL (λ_ y u a=>zu0 r y u a) a m.Outer 0 u else r
theorem zdZ {c x:Bool}:((cond c x false)=true)↔c=true/\x=true:=by cases c<;>simp
theorem zop {m:Mon}(h:zfF m=true):zdL m.Outer 8 12=true:=by unfold zfF at h;simp only[zdZ]at h;exact h.2.2.1
theorem zUL {K:Bool->OA}(k:List Bool->OA)(a:∀u,k u=K true):∀(l:List Mon) (i:Nat) (u:List Bool),u.length=12->
 goL (λ_ m u g=>z0f (K false) m u g) k l i u=K (zky l u)
 |[],_,u,_=>a u
 |m::l,i,u,b=>by simp only[goL,zky,z0f];cases c:zfF m;{rfl};{simp only [cT];have e:=zop c;rw[zzP _ _ _ _ _ (zEL e) b];cases d:zit m.Outer u with|none=>rfl|some f=>exact zUL k a l (i+1) f ((zrg _ _ _ d).trans b)}
@[simp] abbrev zcs (h:Host):Bool:=true
@[simp] abbrev zcm (h:Host):Bool:=zb0 h
def zqc:Run:=rF1 dH λb=>(zcs b,[aB<|zcm b])
def zJH (N:Nat)(c:Host):OA:=
 (oN (zjU c.Memory 12)<|cond (nB<|zgo c.Memory 12) oF<|oN (zM (ln c.Mons) 1 3)<|cond (nB<|zl (ln c.Mons) 1 3) oF<|oN (zi3 c.Buffer)<|cond (nB<|ziy c.Buffer) oF<|oN (zi3 c.IoBuffer)<|cond (nB<|ziy c.IoBuffer) oF<|oN (cond (few 12) (ieq 12 12) false)<|iter (σ:=(Int×Int×lB×lN×Unit)) N (λk b=>let h:=ix b.2.2.2.1 b.2.1 zh; (cond (ilt b.2.1 b.1) (oN (inb b.2.1<|ln b.2.2.2.1)<|oN (zjN h)<|cond (nB<|zkD h) oF<|iter (σ:=(Int×Int×Int×Int×Int×lB×lN×Unit)) N (λi a=>let f:=a.2.2.2.2.1;let g:=a.2.2.2.2.2.2.1;let j:=(ix g a.2.2.1 zh).Outer;let d:=a.2.2.2.2.2.1;let e:=(ix j f zV).Page; (cond (ilt f a.2.2.2.1) (oN (inb f<|ln j)<|cond (ilt e 0) (i (a.1,a.2.1,a.2.2.1,a.2.2.2.1,zQ .i64 f 1,d,g,()))<|oN (inb e<|ln d)<|cond (ix d e false) oF<|oN (inb e<|ln d)<|share (up d e true) λl=>i (a.1,a.2.1,a.2.2.1,a.2.2.2.1,zQ .i64 f 1,l,g,()))<|k (a.1,zQ .i64 a.2.1 1,d,g,()))) (b.1,b.2.1,b.2.1,ln h.Outer,0,b.2.2.1,b.2.2.2.1,())) oT)) (ln c.Mons,0,rp 12 false,c.Mons,()))
def zW9:=zq [(43,0,{n:=63,tm:=[(3,.sl 0 []),(33,.sl 1 []),(34,ti),(35,ti)],lo:=[],ro:=[(0,.bool,true),(1,.mon,false)]}),(43,2,{n:=63,tm:=[(3,.sl 0 []),(33,.sl 1 []),(34,ti),(35,ti),(43,.sl 1 [0]),(44,ti),(45,ti)],lo:=[],ro:=[(0,.bool,true),(1,.mon,false)]})]
theorem zVd (a:Host)(n:zbR big [aH a])(w:zcs a=true):∃N,zJH N a=some [aB<|zcm a]:=by
 have l:CVB big (.s .mon a.Mons):=(zdY n).1 _ (by simp[AV.cvs,zbf]);have g:=l.len;refine zcE λN d=>?_;unfold zJH zcm zb0 oN nB;conv=>zeta
 refine must rfl (stB λp=>must rfl (stB λq=>must rfl (stB λr=>must rfl (stB λv=>must rfl ?_))));refine(zbq a.Mons (λi (t:lB)=>(ln a.Mons,(i:Int),t,a.Mons,())) _ (λ_ (x:Mon) (u:List Bool) h=>z0f (oF) x u h) (λ(t:lB)=>some [.one<|.b true]) (λi c t rec=>?_) (λt rec=>?_) _ (rp 12 false)<|d g).trans ?_;{simp only [zbI c,zbm c,zbu c,zbj c g,cT];unfold z0f;cases k:zfF a.Mons[i];{simp only [zjN,zkD,k,cT,cF]};simp only[zjN,zkD,k,cT,cF];have m:a.Mons[i].Outer.length<=big:=(l.inv.2 _ (jI c) (.s .slot _) (by simp[Ty.cells])).len;refine(zbq a.Mons[i].Outer (λj (u:lB)=>(ln a.Mons,(i:Int),(i:Int),ln a.Mons[i].Outer,(j:Int),u,a.Mons,())) _ (λ_ (y:Slot) (u:List Bool) h=>zu0 (oF) y u h) (λ(u:lB)=>rec (ln a.Mons,((i+1:Nat):Int),u,a.Mons,())) (λj f u e=>?_) (λu e=>?_) _ (t)<|d m).trans ?_;{simp only [zbI f,zbm f,zbu f,zbj f m,cT,zbm c,zbu c,zbj c g];rfl};{simp only [zbz,cF,zbm c,zbu c,zbj c g]};rfl};{simp only [zbz,cF]};exact zUL (K:=λb=>some [AV.one<|.b b]) _ (λ_=>rfl) _ _ _ rfl
theorem zN8:vP 43 zqc:=hF1 zHE zn zx zo zW9 zVd
theorem zHT {e:Type}(r:Option e)(k:List Bool->Option e)(m:Mon):∀(n i:Nat) (u:List Bool),(∀s∈m.Outer,s.Page<12)->u.length=12->i+n=m.Outer.length->
 goN (λj u d=>bif inb (j:Int) (ln m.Outer) then zu0 r (ix m.Outer (j:Int) zV) u d else none) k n i u=goL (λ_ y u d=>zu0 r y u d) k (m.Outer.drop i) i u
 | 0,i,u,_,_,h=>by have:i=m.Outer.length:=(by omega);subst this;simp[goN,goL]
 |n+1,i,u,b,c,h=>by have a:i<m.Outer.length:=(by omega);rw[k6 a];simp only[goN,goL,zbm a,zbu a,cT,zu0];cases f:ilt m.Outer[i].Page 0;{rw [zXy (b _<|jI a) c f];cases ix u m.Outer[i].Page false;{simp only [cF,cT,share];exact zHT r k m n (i+1) _ b (by simpa using c) (by omega)};{rfl}};{simp only [cT];exact zHT r k m n (i+1) u b c (by omega)}
def zJ3 (N:Nat)(b:Host):OA:=
 (oN (zjU b.Memory 12)<|cond (nB<|zgo b.Memory 12) oF<|oN (zM (ln b.Mons) 1 3)<|cond (nB<|zl (ln b.Mons) 1 3) oF<|oN (zi3 b.Buffer)<|cond (nB<|ziy b.Buffer) oF<|oN (zi3 b.IoBuffer)<|cond (nB<|ziy b.IoBuffer) oF<|oN (cond (few 12) (ieq 12 12) false)<|iter (σ:=(Int×lB×lM×lN×lE×lE×Unit)) N (λq c=>let n:=ix c.2.2.2.1 c.1 zh; (cond (ilt c.1<|ln c.2.2.2.1) (oN (inb c.1<|ln c.2.2.2.1)<|oN (zjN n)<|cond (nB<|zkD n) oF<|iter (σ:=(Int×Int×lB×lM×lN×lE×lE×Unit)) N (λi a=>let k:=zQ .i64 a.2.1 1;let h:=a.2.2.2.2.2.1;let g:=a.2.2.2.2.2.2.1;let f:=a.2.2.1;let e:=a.2.2.2.2.1;let p:=(ix e a.1 zh).Outer;let m:=i (a.1,k,f,a.2.2.2.1,e,h,g,());let d:=(ix p a.2.1 zV).Page;let l:=inb d<|ln f; (cond (ilt a.2.1 8) (oN (inb a.1<|ln e)<|oN (inb a.2.1<|ln p)<|cond (ige d 0) (oN l<|cond (ix f d false) oF<|cond (ige d 0) (oN l<|share (up f d true) λj=>i (a.1,k,j,a.2.2.2.1,e,h,g,())) m)<|cond (ige d 0) (oN l<|share (up f d true) λj=>i (a.1,k,j,a.2.2.2.1,e,h,g,())) m)<|q (zQ .i64 a.1 1,f,a.2.2.2.1,e,h,g,()))) (c.1,0,c.2.1,c.2.2.1,c.2.2.2.1,c.2.2.2.2.1,c.2.2.2.2.2.1,())) oT)) (0,rp 12 false,b.Memory,b.Mons,b.Buffer,b.IoBuffer,()))
def zXh:=zq [(44,0,{n:=72,tm:=[(1,.lp 0 0),(3,.sl 0 []),(4,ti)],lo:=[(0,[.sl 1 [],.sl 2 [],.sl 3 [],.sl 4 []])],ro:=[(0,.bool,true),(1,.sl .int,false),(2,.mon,false),(3,.entry,false),(4,.entry,false)]}),(44,2,{n:=72,tm:=[(1,.lp 0 0),(3,.sl 0 []),(4,ti),(5,ti)],lo:=[(0,[.sl 1 [],.sl 2 [],.sl 3 [],.sl 4 []])],ro:=[(0,.bool,true),(1,.sl .int,false),(2,.mon,false),(3,.entry,false),(4,.entry,false)]})]
theorem zVy (a:Host)(y:zbR big [aH a])(F:zcs a=true):∃N,zJ3 N a=some [aB<|zcm a]:=by
 have A:CVB big (.s .mon a.Mons):=(zdY y).1 _ (by simp[AV.cvs,zbf]);have h:=A.len;refine zcE λN f=>?_;unfold zJ3 zcm zb0 oN nB;conv=>zeta
 refine must rfl (stB λD=>must rfl (stB λq=>must rfl (stB λr=>must rfl (stB λE=>must rfl ?_))));refine(zbq a.Mons (λi (t:lB)=>((i:Int),t,a.Memory,a.Mons,a.Buffer,a.IoBuffer,())) _ (λ_ (x:Mon) (u:List Bool) d=>bif zfF x then goN (λj u d=>bif inb (j:Int) (ln x.Outer) then zu0 (oF) (ix x.Outer (j:Int) zV) u d else none) d 8 0 u else oF) (λ(t:lB)=>some [.one<|.b true]) (λi c t rec=>?_) (λt rec=>?_) _ (rp 12 false)<|f h).trans ?_;{simp only [zbI c,zbm c,zbu c,zbj c h,cT];cases v:zfF a.Mons[i];{simp only [zjN,zkD,v,cT,cF]};simp only[zjN,zkD,v,cT,cF];refine(zvn 8 (λj (u:lB)=>((i:Int),(j:Int),u,a.Memory,a.Mons,a.Buffer,a.IoBuffer,())) _ (λj (u:List Bool) d=>bif inb (j:Int) (ln a.Mons[i].Outer) then zu0 (oF) (ix a.Mons[i].Outer (j:Int) zV) u d else none) (λ(u:lB)=>rec (((i+1:Nat):Int),u,a.Memory,a.Mons,a.Buffer,a.IoBuffer,())) (λj z u g=>?_) (λu g=>?_) _ (t)<|f (by decide)).trans ?_;{simp only [show ilt (j:Int) 8=true from qJ (by omega),zbj z (show 8<=big by decide),cT,zbm c,zbu c,zbj c h];unfold zu0;have e:ige (ix a.Mons[i].Outer (j:Int) zV).Page 0 = !ilt (ix a.Mons[i].Outer (j:Int) zV).Page 0:=(by rw[zbav,Bool.not_not]);simp only[e];cases ilt (ix a.Mons[i].Outer (j:Int) zV).Page 0<;>cases inb (j:Int) (ln a.Mons[i].Outer)<;>cases inb (ix a.Mons[i].Outer (j:Int) zV).Page (ln u)<;>cases ix u (ix a.Mons[i].Outer (j:Int) zV).Page false<;>rfl};{simp only [show ilt ((8:Nat):Int) 8=false from qH (by omega),cF,zbm c,zbu c,zbj c h]};rfl};{simp only [zbz,cF]};have p:∀(l:List Mon) (i:Nat) (u:List Bool),u.length=12->goL (λ_ (x:Mon) (u:List Bool) d=>bif zfF x then goN (λj u d=>bif inb (j:Int) (ln x.Outer) then zu0 (oF) (ix x.Outer (j:Int) zV) u d else none) d 8 0 u else oF) (λ_=>oT) l i u=some [AV.one<|.b<|zky l u]:=(by intro l;induction l with|nil=>intro i u _;rfl|cons m l B=>intro i u n;simp only[goL,zky];cases q:zfF m;{rfl};{have k:=zop q;have w:0+8=m.Outer.length:=(by have:=ztm k;simp only[ln] at this;omega);simp only[cT];rw[zHT _ _ m 8 0 u (zEL k) n w,List.drop_zero,zzP _ _ _ _ _ (zEL k) n];cases r:zit m.Outer u with|none=>rfl|some C=>exact B (i+1) C ((zrg _ _ _ r).trans n)});exact p _ _ _ rfl
theorem zOA:vP 44 zqc:=hF1 zHE zn zx zo zXh zVy
def z8s:zba:=[(44,zqc),(43,zqc)]++z8r
theorem zzD:zT z8s:=zi zOA (zi zN8 zHE)
theorem z0X {h:Host}(a:zb0 h=true):(h.Mons.length:Int)<=3:=by unfold zb0 at a;simp only[zdZ]at a;exact(zfT.1 a.2.1).2
def zck (h:Host)(m:Int):Bool:=bif zb0 h then hasB m (ln h.Mons) else false
def zb9 (h:Host)(m p:Int):Bool:=bif zb0 h then (cond (hasB m<|ln h.Mons) (hasB p 8) false) else false
theorem zQy {h:Host}(a:zb0 h=true)(m:Int):zl m 0 (wsub .i64 (ln h.Mons) 1)=hasB m (ln h.Mons):=zrW (by have:=z0X a;omega) m
@[simp] abbrev zgX (h:Host)(m:Int):Bool:=true
@[simp] abbrev zgW (h:Host)(m:Int):Bool:=zck h m
def zDW:Run:=rF2 dH dI λb c=>(zgX b c,[aB<|zgW b c])
def zKn (N:Nat)(a:Host)(b:Int):OA:=
 (oN (zcs a)<|cond (zcm a) (oN (zM b 0<|wsub .i64 (ln a.Mons) 1)<|some [aB<|zl b 0<|wsub .i64 (ln a.Mons) 1]) oF)
theorem zVP (a:Host)(b:Int)(d:zgX a b=true):∃N,zKn N a b=some [aB<|zgW a b]:=by refine⟨0,?_⟩;unfold zKn zgW zck oN;cases c:zb0 a;{simp only [zcs,zcm,c,cT,cF]};{simp only [zcs,zcm,c,cT,zM,zTU,zQy c]}
theorem zO2:vP 337 zDW:=kF2 zzD zn zx zo (zq []) zVP
@[simp] abbrev ziM (h:Host)(m p:Int):Bool:=true
@[simp] abbrev zdV (h:Host)(m p:Int):Bool:=zb9 h m p
def zsq:Run:=rF3 dH dI dI λb c d=>(ziM b c d,[aB<|zdV b c d])
def zQV (N:Nat)(a:Host)(b c:Int):OA:=
 (oN (zcs a)<|cond (zcm a) (oN (zM b 0<|wsub .i64 (ln a.Mons) 1)<|cond (zl b 0<|wsub .i64 (ln a.Mons) 1) (oN (zM c 0 7)<|some [aB<|zl c 0 7]) oF) oF)
theorem zYo (a:Host)(b c:Int)(e:ziM a b c=true):∃N,zQV N a b c=some [aB<|zdV a b c]:=by refine⟨0,?_⟩;unfold zQV zdV zb9 oN;cases d:zb0 a;{simp only [zcs,zcm,d,cT,cF]};{simp only [zcs,zcm,d,cT,zM,zTU,zQy d,has8];cases hasB b (ln a.Mons)<;>rfl}
theorem zSp:vP 348 zsq:=kF3 zzD zn zx zo (zq []) zYo
def zF6 (N:Nat)(a:Host)(b c:Int):OA:=
 (oN (zcs a)<|cond (zcm a) (oN (zbl b<|ln a.Mons)<|cond (zch b<|ln a.Mons) (oN (zbl c 8)<|some [aB<|zch c 8]) oF) oF)
theorem zSL (a:Host)(b c:Int)(e:ziM a b c=true):∃N,zF6 N a b c=some [aB<|zdV a b c]:=by refine⟨0,?_⟩;unfold zF6 zdV zb9 oN;cases d:zb0 a;{simp only [zcs,zcm,d,cT,cF]};{simp only [zcs,zcm,d,cT,zbl,zch];cases hasB b (ln a.Mons)<;>rfl}
theorem zLo:vP 128 zsq:=kF3 zzD zn zx zo (zq []) zSL
def z8t:zba:=[(337,zDW),(348,zsq),(128,zsq)]++z8s
theorem zUu:zT z8t:=zi zO2 (zi zSp<|zi zLo zzD)
def zd8 (k:Kept)(p:Int):Bool:=bif hasB p (ln k.Known) then hasB p (ln k.Slots) else false
def zcd (k:Kept)(p:Int):Kept:=bif zd8 k p then ⟨up k.Known p false,up k.Slots p noSlot⟩ else k
@[simp] theorem zn5 {k:Kept}{p:Int}(h:SmK k):SmK (zcd k p):=by unfold zcd;cases zd8 k p;{exact h};{exact⟨by simpa using h.1,by simpa using h.2⟩}
theorem has_lt {p:Int}{n m:Int}(h:hasB p n=true):ilt p m=hasB p m:=by have h:=qD h;unfold ilt hasB;by_cases a:p<m;{rw [qJ a,qJ ⟨h.1,a⟩]};{rw [qH a,qH (by omega)]}
@[simp] abbrev zc8 (k:Kept)(p:Int):Bool:=pc (SmK k)
@[simp] abbrev zkg (k:Kept)(p:Int):Bool:=zd8 k p
def zDU:Run:=rF2 (dT .kept) dI λb c=>(zc8 b c,[aB<|zkg b c])
def zKl (N:Nat)(a:Kept)(b:Int):OA:=
 (oN (zM b 0<|wsub .i64 (ln a.Known) 1)<|cond (zl b 0<|wsub .i64 (ln a.Known) 1) (some [aB<|ilt b<|ln a.Slots]) oF)
theorem zVM (a:Kept)(b:Int)(c:zc8 a b=true):∃N,zKl N a b=some [aB<|zkg a b]:=by have e:=zK.1 c;refine⟨0,?_⟩;unfold zKl zkg zd8 oN;simp only[zM,zTU,zrW e.1,cT];cases d:hasB b (ln a.Known);{rfl};{simp only [cT,has_lt d]}
theorem zOS:vP 120 zDU:=kF2 zUu zn zx zo (zq []) zVM
def z8u:zba:=[(120,zDU)]++z8t
theorem zHF:zT z8u:=zi zOS zUu
@[simp] abbrev zeI (k:Kept)(p:Int):Kept:=zcd k p
def zqk:Run:=rF2 (dT .kept) dI λb c=>(zc8 b c,[aT .kept<|zeI b c])
def zJ1 (N:Nat)(c:Kept)(b:Int):OA:=
 let a:=zeB c; (oN (zhJ c)<|oN (zc8 a b)<|cond (zkg a b) (oN (inb b<|ln a.Known)<|share (up a.Known b false) λd=>oN zbV<|oN (inb b<|ln a.Slots)<|share (up a.Slots b zbk) λe=>some [aT .kept (⟨d,e⟩:Kept)])<|some [aT .kept a])
theorem zVw (a:Kept)(b:Int)(g:zc8 a b=true):∃N,zJ1 N a b=some [aT .kept<|zeI a b]:=by
 have d:=zK.1 g;refine⟨0,?_⟩;unfold zJ1 zeI oN;conv=>zeta
 refine must (zbs<|(zyf _).2 d) (must (zbs d) ?_);unfold zcd;cases c:zd8 a b;{simp only [zkg,zeB,c,cF]};{simp only [zkg,zeB,c,cT];unfold zd8 at c;obtain⟨e,f⟩:=zdZ.1 c;simp only[zU2,e,f,cT,share,zbV]}
theorem zOy:vP 342 zqk:=kF2 zHF zn zx zo (zq []) zVw
def zJF (N:Nat)(b:Kept)(a:Int):OA:=
 let c:=zdl b; (oN (zed b)<|oN (zbl a<|ln b.Known)<|cond (zch a<|ln b.Known) (oN (zbl a<|ln b.Slots)<|cond (zch a<|ln b.Slots) (oN (inb a<|ln c.Known)<|share (up c.Known a false) λd=>oN zbV<|oN (inb a<|ln c.Slots)<|share (up c.Slots a zbk) λe=>some [aT .kept (⟨d,e⟩:Kept)])<|some [aT .kept c])<|some [aT .kept c])
theorem zVb (a:Kept)(b:Int)(c:zc8 a b=true):∃N,zJF N a b=some [aT .kept<|zeI a b]:=by
 have d:=zK.1 c;refine⟨0,?_⟩;unfold zJF zeI oN;conv=>zeta
 refine must (zbs d) (must rfl ?_);unfold zcd zd8;simp only[zch,zbl,zdl,zU2,share,zbV,cT];cases hasB b (ln a.Known);{rfl};{cases hasB b (ln a.Slots)<;>rfl}
theorem zN6:vP 149 zqk:=kF2 zHF zn zx zo (zq []) zVb
def z8v:zba:=[(342,zqk),(149,zqk)]++z8u
theorem zu4:zT z8v:=zi zOy (zi zN6 zHF)
def zfU (k:Kept)(l:List Int):Kept:=l.foldl zcd k
theorem zZT:∀(l:List Int) {k:Kept},SmK k->SmK (zfU k l)
 |[],_,h=>h
 |p::l,k,h=>zZT l (zn5 (p:=p) h)
theorem zzO {b:Type}(K:List Bool×List Slot->Option b):∀(l:List Int) (i:Nat) (k:Kept),SmK k->
 goL (λ_ x (t:List Bool×List Slot) a=>bif pc (SmK ⟨t.1,t.2⟩) then a ((zcd ⟨t.1,t.2⟩ x).Known,(zcd ⟨t.1,t.2⟩ x).Slots) else none) K l i (k.Known,k.Slots)=K ((zfU k l).Known,(zfU k l).Slots)
 |[],_,_,_=>rfl
 |x::l,i,k,h=>by have e:pc (SmK ⟨k.Known,k.Slots⟩)=true:=zbs h;simp only[goL,e,cT];exact zzO K l (i+1) (zcd k x) (zn5 h)
def zEh (l:List Slot)(p:Int):List Int:=idxs (λ(s:Slot)=>ieq s.Page p) l 0
def zlf (k:Kept)(l:List Slot)(p:Int):Kept:=zfU k (zEh l p)
theorem z7n {k:Kept}(l:List Slot)(p:Int)(h:SmK k):SmK (zlf k l p):=zZT _ h
@[simp] abbrev zgn (k:Kept)(l:List Slot)(p:Int):Bool:=pc (SmK k/\l.length<=1048576)
@[simp] abbrev zkL (k:Kept)(l:List Slot)(p:Int):Kept:=zlf k l p
def zlt:Run:=rF3 (dT .kept) (dS .slot) dI λb c d=>(zgn b c d,[aT .kept<|zkL b c d])
def zya (N:Nat)(c:Kept)(e:lS)(f:Int):OA:=
 (oN (zhJ c)<|oN (zqM e f)<|iter (σ:=(Int×(List Int)×lB×lS×lB×lS×Unit)) N (λg a=>let d:=ix a.2.1 a.1 0;let b:=(⟨a.2.2.1,a.2.2.2.1⟩:Kept); (cond (ilt a.1<|ln a.2.1) (oN (inb a.1<|ln a.2.1)<|oN (zc8 b d)<|g (zQ .i64 a.1 1,a.2.1,(zeI b d).Known,(zeI b d).Slots,a.2.2.2.2.1,a.2.2.2.2.2.1,()))<|some [aT .kept b])) (0,zhr e f,(zeB c).Known,(zeB c).Slots,[],[],()))
def zJw:=zq [(391,0,{n:=27,tm:=[(3,.lp 0 0),(6,.lp 1 0),(7,.sl 0 []),(8,ti)],lo:=[(0,[.sl 1 [],.sl 2 []]),(1,[.sl 3 [],.sl 4 []])],ro:=[(0,.int,true),(1,.bool,true),(2,.slot,true),(3,.bool,true),(4,.slot,true)]})]
theorem zIY (b:Kept)(a:List Slot)(c:Int)(j:zgn b a c=true):∃N,zya N b a c=some [aT .kept<|zkL b a c]:=by
 obtain⟨h,f⟩:=zK.1 j;have g:(zhr a c).length<=big:=qU (zvm _ a 0) (zda f).1;refine zcE λN e=>?_;unfold zya oN;conv=>zeta
 refine must (zbs<|(zyf _).2 h) (must (zbs (by omega)) ?_);refine(zbq (zhr a c) (λi (t:lB×lS)=>((i:Int),zhr a c,t.1,t.2,[],[],())) _ (λ_ (x:Int) (t:List Bool×List Slot) k=>bif pc (SmK ⟨t.1,t.2⟩) then k ((zcd ⟨t.1,t.2⟩ x).Known,(zcd ⟨t.1,t.2⟩ x).Slots) else none) (λ(t:lB×lS)=>some [.agg<|Ty.cells .kept (⟨t.1,t.2⟩:Kept)]) (λi d t rec=>?_) (λt rec=>?_) _ ((zeB b).Known,(zeB b).Slots)<|e g).trans ?_;{simp only [zbI d,zbm d,zbu d,zbj d g,cT]};{simp only [zbz,cF]};exact zzO _ _ 0 b h
theorem zDf:vP 391 zlt:=kF3 zu4 zn zx zo zJw zIY
def zx0 (N:Nat)(c:Kept)(d:lS)(e:Int):OA:=
 (oN (zed c)<|oN (zqM d e)<|iter (σ:=(Int×Int×(List Int)×lB×lS×lB×lS×Unit)) N (λg a=>let f:=ix a.2.2.1 a.2.1 0;let b:=(⟨a.2.2.2.2.2.1,a.2.2.2.2.2.2.1⟩:Kept); (cond (ilt a.2.1 a.1) (oN (inb a.2.1<|ln a.2.2.1)<|oN (zc8 b f)<|g (a.1,zQ .i64 a.2.1 1,a.2.2.1,a.2.2.2.1,a.2.2.2.2.1,(zeI b f).Known,(zeI b f).Slots,()))<|some [aT .kept b])) (ln<|zhr d e,0,zhr d e,[],[],(zdl c).Known,(zdl c).Slots,()))
def zJs:=zq [(209,0,{n:=25,tm:=[(6,.lp 0 0),(7,.lp 1 0),(14,.sl 0 []),(15,ti),(16,ti)],lo:=[(0,[.sl 1 [],.sl 2 []]),(1,[.sl 3 [],.sl 4 []])],ro:=[(0,.int,true),(1,.bool,true),(2,.slot,true),(3,.bool,true),(4,.slot,true)]})]
theorem zIO (c:Kept)(a:List Slot)(b:Int)(j:zgn c a b=true):∃N,zx0 N c a b=some [aT .kept<|zkL c a b]:=by
 obtain⟨h,f⟩:=zK.1 j;have g:(zhr a b).length<=big:=qU (zvm _ a 0) (zda f).1;refine zcE λN e=>?_;unfold zx0 oN;conv=>zeta
 refine must (zbs h) (must (zbs (by omega)) ?_);refine(zbq (zhr a b) (λi (t:lB×lS)=>(ln<|zhr a b,(i:Int),zhr a b,[],[],t.1,t.2,())) _ (λ_ (x:Int) (t:List Bool×List Slot) k=>bif pc (SmK ⟨t.1,t.2⟩) then k ((zcd ⟨t.1,t.2⟩ x).Known,(zcd ⟨t.1,t.2⟩ x).Slots) else none) (λ(t:lB×lS)=>some [.agg<|Ty.cells .kept (⟨t.1,t.2⟩:Kept)]) (λi d t rec=>?_) (λt rec=>?_) _ ((zdl c).Known,(zdl c).Slots)<|e g).trans ?_;{simp only [zbI d,zbm d,zbu d,zbj d g,cT]};{simp only [zbz,cF]};exact zzO _ _ 0 c h
theorem zC7:vP 209 zlt:=kF3 zu4 zn zx zo zJs zIO
def flushed (l:List Entry)(p:Int):List Entry:=l.filter λe=>!ieq e.Host p
theorem zGJ (l:List Entry)(p:Int):(flushed l p).length<=l.length:=uD _ _
theorem znr {b e:Type}(p:b->Bool)(K:List b->Option e):∀(l:List b) (i:Nat) (a:List b),a.length+l.length<=2147483648->
 goL (λ_ x a d=>bif p x then (cond (few<|ln<|ap a [x]) (d<|ap a [x]) none) else d a) K l i a=K (a++l.filter p)
 |[],i,a,_=>by simp[goL]
 |x::l,i,a,h=>by simp only[jB]at h;simp only[goL];cases c:p x;{rw [cF,znr p K l (i+1) a (by omega),List.filter_cons_of_neg (by simp[c])]};{rw [cT,zir (by simp[ap];omega),cT,znr p K l (i+1) _ (by simp[ap];omega),List.filter_cons_of_pos c];simp[ap]}
@[simp] abbrev zdE (l:List Entry)(p:Int):Bool:=pc (l.length<=1048576)
@[simp] abbrev zf2 (l:List Entry)(p:Int):List Entry:=flushed l p
def zmn:Run:=rF2 (dS .entry) dI λb c=>(zdE b c,[aS .entry<|zf2 b c])
def zAR (N:Nat)(e:lE)(f:Int):OA:=
 (iter (σ:=(Int×Int×lE×lE×Unit)) N (λd a=>let b:=a.2.2.1;let c:=ix b a.2.1 zg1; (cond (ilt a.2.1<|ln b) (oN (inb a.2.1<|ln b)<|cond (ine c.Host a.1) (oN (inb a.2.1<|ln b)<|oN (few<|ln<|ap a.2.2.2.1 [c])<|d (a.1,zQ .i64 a.2.1 1,b,ap a.2.2.2.1 [c],()))<|d (a.1,zQ .i64 a.2.1 1,b,a.2.2.2.1,()))<|some [aS .entry a.2.2.2.1])) (f,0,e,[],()))
def zNt:=zq [(392,0,{n:=29,tm:=[(0,.sl 0 []),(1,ti),(5,.sl 1 []),(6,ti)],lo:=[],ro:=[(0,.entry,false),(1,.entry,true)]})]
theorem zMo (a:List Entry)(b:Int)(h:zdE a b=true):∃N,zAR N a b=some [aS .entry<|zf2 a b]:=by
 have j:=zK.1 h;have f:=zda j;refine zcE λN d=>?_;unfold zAR oN;conv=>zeta
 refine(zbq a (λi (t:lE)=>(b,(i:Int),a,t,())) _ (λ_ (x:Entry) (t:List Entry) g=>bif !ieq x.Host b then (cond (few<|ln<|ap t [x]) (g<|ap t [x]) none) else g t) (λ(t:lE)=>some [.one<|.s .entry t]) (λi c t rec=>?_) (λt rec=>?_) _ ([])<|d f.1).trans ?_;{simp only [zbI c,zbm c,zbu c,zbj c f.1,cT];rfl};{simp only [zbz,cF]};exact znr (λe=>!ieq e.Host b) _ a 0 [] (by simpa using f.2)
theorem zE8:vP 392 zmn:=kF2 zu4 zn zx zo zNt zMo
def zAC (N:Nat)(d:lE)(f:Int):OA:=
 (iter (σ:=(Int×Int×Int×lE×lE×Unit)) N (λe a=>let b:=a.2.2.2.2.1;let c:=ix b a.2.1 zg1; (cond (ilt a.2.1 a.1) (oN (inb a.2.1<|ln b)<|cond (nB<|ieq c.Host a.2.2.1) (oN (few<|ln<|ap a.2.2.2.1 [c])<|e (a.1,zQ .i64 a.2.1 1,a.2.2.1,ap a.2.2.2.1 [c],b,()))<|e (a.1,zQ .i64 a.2.1 1,a.2.2.1,a.2.2.2.1,b,()))<|some [aS .entry a.2.2.2.1])) (ln d,0,f,[],d,()))
def zNn:=zq [(237,0,{n:=25,tm:=[(1,.fn 300 [0]),(5,.sl 0 []),(9,.sl 1 []),(10,ti),(11,ti)],lo:=[(0,[ti])],ro:=[(0,.entry,true),(1,.entry,false)]})]
theorem zMa (a:List Entry)(b:Int)(h:zdE a b=true):∃N,zAC N a b=some [aS .entry<|zf2 a b]:=by
 have j:=zK.1 h;have f:=zda j;refine zcE λN d=>?_;unfold zAC oN nB;conv=>zeta
 refine(zbq a (λi (t:lE)=>(ln a,(i:Int),b,t,a,())) _ (λ_ (x:Entry) (t:List Entry) g=>bif !ieq x.Host b then (cond (few<|ln<|ap t [x]) (g<|ap t [x]) none) else g t) (λ(t:lE)=>some [.one<|.s .entry t]) (λi c t rec=>?_) (λt rec=>?_) _ ([])<|d f.1).trans ?_;{simp only [zbI c,zbm c,zbu c,zbj c f.1,cT];cases ieq a[i].Host b<;>rfl};{simp only [zbz,cF]};exact znr (λe=>!ieq e.Host b) _ a 0 [] (by simpa using f.2)
theorem zEU:vP 210 zmn:=kF2 zu4 zn zx zo zNn zMa
def z0p:zba:=[(391,zlt),(209,zlt),(392,zmn),(210,zmn)]++z8v
theorem zzE:zT z0p:=zi zDf (zi zC7<|zi zE8<|zi zEU zu4)
def zlI (b:List Guest)(p:Int):Nat->List Kept->List Kept
 | 0,a=>a
 |n+1,a=>up (zlI b p n a) (n:Int) (zlf (ix (zlI b p n a) (n:Int) zeL) (ix b (n:Int) zy).Live p)
theorem zpp (b:List Guest)(p:Int):∀(n:Nat) (a:List Kept),(zlI b p n a).length=a.length
 | 0,_=>rfl
 |n+1,a=>by simp only[zlI,zgv];exact zpp b p n a
theorem ztl (b:List Guest)(p:Int):∀(n:Nat) (a:List Kept),n<=a.length->zCD a->zCD (zlI b p n a)
 | 0,_,_,h=>h
 |n+1,a,e,h=>by have d:=ztl b p n a (by omega) h;have c:n<(zlI b p n a).length:=(by rw[zpp];omega);exact zuN d (z7n _ _ (by rw[zbu c];exact d.2 _ (jI c)))
def zjw (x:Mon)(p:Int)(n:Nat):Mon:={x with Tables:=zlI x.Guests p n x.Tables}
theorem z4S {x:Mon}{p:Int}{n:Nat}(a:n<=x.Tables.length)(h:zfx x):zfx (zjw x p n):=⟨h.1,h.2.1,h.2.2.1,h.2.2.2.1,h.2.2.2.2.1,ztl _ _ _ _ a h.2.2.2.2.2⟩
def zcI (h:Host)(m p:Int)(s:Slot):Host :=
 bif ine (ix (ix h.Mons m zh).Outer p zV).Page (-1)
 then ⟨h.Memory,up h.Mons m {zjw (ix h.Mons m zh) p (ix h.Mons m zh).Tables.length with Outer:=up (ix h.Mons m zh).Outer p s},flushed h.Buffer (ix (ix h.Mons m zh).Outer p zV).Page,flushed h.IoBuffer (ix (ix h.Mons m zh).Outer p zV).Page⟩
 else ⟨h.Memory,up h.Mons m {zjw (ix h.Mons m zh) p (ix h.Mons m zh).Tables.length with Outer:=up (ix h.Mons m zh).Outer p s},h.Buffer,h.IoBuffer⟩
def zba9 (h:Host)(m p:Int):Prop:=hasB m (ln h.Mons)=true/\hasB p (ln (ix h.Mons m zh).Outer)=true/\(ix h.Mons m zh).Tables.length<=(ix h.Mons m zh).Guests.length
@[simp] abbrev zgH (h:Host)(m p:Int)(s:Slot):Bool:=pc (zdP h/\zba9 h m p)
@[simp] abbrev ziN (h:Host)(m p:Int)(s:Slot):Host:=zcI h m p s
def ztJ:List AV->Option (Bool×List AV)
 |[.agg [.s (.sl .int) b,.s .mon c,.s .entry d,.s .entry e],.one<|.i .i64 f,.one<|.i .i64 g,.agg [.i .i64 h,.i .i64 j]]=>some (zgH (⟨b,c,d,e⟩:Host) f g (⟨h,j⟩:Slot),[aH<|ziN (⟨b,c,d,e⟩:Host) f g (⟨h,j⟩:Slot)])
 |_=>none
def zxp (N:Nat)(p:Host)(g z:Int)(B:Slot):OA:=
 let v:=ix p.Mons g zh; (oN (inb g<|ln p.Mons)<|oN (inb z<|ln v.Outer)<|iter (σ:=(Int×Int×Int×Int×Int×Int×Int×Int×Int×Int×Int×Int×Int×Int×Int×lM×lN×lE×lE×lM×lN×lE×lE×Unit)) N (λD a=>let d:=a.2.2.1;let m:=a.2.2.2.2.2.2.2.2.2.2.2.1;let l:=a.2.2.2.2.2.2.2.2.2.2.2.2.1;let k:=a.2.2.2.2.2.2.2.2.2.2.2.2.2.2.1;let j:=a.2.2.2.2.2.2.2.2.2.2.2.2.2.2.2.1;let f:=a.2.2.2.2.2.2.2.1;let e:=a.2.2.2.2.2.2.2.2.1;let c:=a.2.2.2.1;let w:=a.2.2.2.2.2.2.2.2.2.2.1;let y:=a.2.2.2.2.2.2.2.2.2.2.2.2.2.2.2.2.2.1;let x:=a.2.2.2.2.2.2.2.2.2.2.2.2.2.2.2.2.2.2.1;let n:=a.2.2.2.2.2.2.1;let r:=a.2.2.2.2.2.2.2.2.2.1;let i:=a.2.2.2.2.2.2.2.2.2.2.2.2.2.1;let q:=a.2.2.2.2.2.2.2.2.2.2.2.2.2.2.2.2.1;let u:=(ix q r zh).Guests;let t:=(ix u c zy).Live;let h:=ix q n zh;let s:=(ix q i zh).Tables;let C:=up q n ({h with Outer:=(up h.Outer a.2.1 (⟨a.2.2.2.2.1,a.2.2.2.2.2.1⟩:Slot))}:Mon); (cond (ilt c<|ln s) (oN (inb c<|ln s)<|oN (inb c<|ln u)<|oN (zgn (ix s c zeL) t a.2.1)<|oN (inb c<|ln s)<|share (up q i ({ (ix q i zh) with Tables:=(up s c<|zkL (ix s c zeL) t a.2.1)}:Mon)) λb=>D (a.1,a.2.1,d,zQ .i64 c 1,a.2.2.2.2.1,a.2.2.2.2.2.1,n,f,e,r,w,m,l,i,k,j,b,y,x,a.2.2.2.2.2.2.2.2.2.2.2.2.2.2.2.2.2.2.2.1,a.2.2.2.2.2.2.2.2.2.2.2.2.2.2.2.2.2.2.2.2.1,a.2.2.2.2.2.2.2.2.2.2.2.2.2.2.2.2.2.2.2.2.2.1,a.2.2.2.2.2.2.2.2.2.2.2.2.2.2.2.2.2.2.2.2.2.2.1,()))<|cond (ine d<|-1) (oN (zdE y d)<|oN (zdE x d)<|oN (inb a.2.1<|ln h.Outer)<|share C λb=>oN (inb a.1<|ln b)<|oN (cond (cond (cond (cond (cond (cond (ieq i a.1) true false) (cond (ieq w a.1) true false) false) (cond (ieq r a.1) true false) false) (cond (ieq e a.1) true false) false) (cond (ieq f a.1) true false) false) (cond (ieq n a.1) true false) false)<|share (up b a.1 ({ (ix b n zh) with Out:=(ix b f zh).Out,Dirty:=(ix b e zh).Dirty,Guests:=(ix b r zh).Guests,Outs:=(ix b w zh).Outs,Pending:=m,Traps:=l,Tables:=(ix b i zh).Tables,Own:=k}:Mon)) λA=>some [aH (⟨j,A,zf2 y d,zf2 x d⟩:Host)])<|oN (inb a.2.1<|ln h.Outer)<|share C λb=>oN (inb a.1<|ln b)<|oN (cond (cond (cond (cond (cond (cond (ieq i a.1) true false) (cond (ieq w a.1) true false) false) (cond (ieq r a.1) true false) false) (cond (ieq e a.1) true false) false) (cond (ieq f a.1) true false) false) (cond (ieq n a.1) true false) false)<|share (up b a.1 ({ (ix b n zh) with Out:=(ix b f zh).Out,Dirty:=(ix b e zh).Dirty,Guests:=(ix b r zh).Guests,Outs:=(ix b w zh).Outs,Pending:=m,Traps:=l,Tables:=(ix b i zh).Tables,Own:=k}:Mon)) λA=>some [aH (⟨j,A,y,x⟩:Host)])) (g,z,(ix v.Outer z zV).Page,0,B.Page,B.Rights,g,g,g,g,g,v.Pending,v.Traps,g,v.Own,p.Memory,p.Mons,p.Buffer,p.IoBuffer,[],[],[],[],()))
def zTC:=zq [(362,0,{n:=70,tm:=[(1,ti),(2,ti),(4,.lp 0 0),(7,.lp 1 0),(8,.lp 2 0),(9,.lp 3 0),(10,ti),(11,ti)],lo:=[(0,[.sl 0 [],.sl 1 [],.sl 2 [],.sl 3 []]),(1,[ti,ti]),(2,[.sl 4 [],.sl 5 [],.sl 6 [],.sl 7 []]),(3,[.sl 1 [0],.sl 1 [1],.sl 1 [2],.sl 1 [3],.sl 1 [4],ti,ti,.sl 1 [7],ti])],ro:=[(0,.sl .int,true),(1,.mon,true),(2,.entry,true),(3,.entry,true),(4,.sl .int,true),(5,.mon,true),(6,.entry,true),(7,.entry,true)]})]
theorem zV2 (N:Nat)(a:Host)(b c:Int)(d:Slot):zEt (cQ z0p zp3 zI9 zW3) zTC N 12 362 [true,true,true,true,false,false,false,false] 1 1 [[0],[1],[2],[4],[7]] .mon [aH a,aI b,aI c,aT .slot d]=zxp N a b c d:=by kernel_rfl
theorem zTd (a:Host)(f b:Int)(d:Slot)(D:zbR big [aH a,aI f,aI b,aT .slot d])(y:zgH a f b d=true):∃N,zxp N a f b d=some [aH<|ziN a f b d]:=by
 obtain⟨B,g,s,C⟩:=zK.1 y;have l:=(zS a).1 B;have r:zfx (ix a.Mons f zh):=l.2.1.2 _ (zbM g _);obtain⟨k,rfl,q⟩:=zeG (n:=a.Mons.length) g;have x:=(zda r.2.2.2.2.2.1).1;refine zcE λN p=>?_;unfold zxp oN;conv=>zeta
 refine must g (must s ?_);refine zrD (ix a.Mons (k:Int) zh).Tables.length (λi (t:List Mon)=>((k:Int),b,(ix (ix a.Mons (k:Int) zh).Outer b zV).Page,(i:Int),d.Page,d.Rights,(k:Int),(k:Int),(k:Int),(k:Int),(k:Int),(ix a.Mons (k:Int) zh).Pending,(ix a.Mons (k:Int) zh).Traps,(k:Int),(ix a.Mons (k:Int) zh).Own,a.Memory,t,a.Buffer,a.IoBuffer,[],[],[],[],())) _
  (λi t=>t=up a.Mons (k:Int) (zjw (ix a.Mons (k:Int) zh) b i)) (λ_ _=>some [AV.agg<|zbf<|zcI a (k:Int) b d]) (λi t rec u m A=>?_) (λt rec m=>?_) _ 0 a.Mons ?_ (jX _) ?_
 .subst m;have c:i<(zlI (ix a.Mons (k:Int) zh).Guests b i (ix a.Mons (k:Int) zh).Tables).length:=(by rw[zpp];exact u);have e:i<(ix a.Mons (k:Int) zh).Guests.length:=by omega
  have z:zgn (ix (zlI (ix a.Mons (k:Int) zh).Guests b i (ix a.Mons (k:Int) zh).Tables) (i:Int) zeL) (ix (ix a.Mons (k:Int) zh).Guests (i:Int) zy).Live b=true :=
   zbs ⟨by rw[zbu c];exact(ztl _ _ _ _ (by omega) r.2.2.2.2.2).2 _ (jI c),by rw[zbu e];exact(r.2.2.2.1.2 _<|jI e).2.2.1⟩
  simp only[zd6 q,zrf,zjw,zbI c,zbm c,zbm e,z,cT,share,zbj u x];exact A _ rfl
 {subst m;simp only[zd6 q,zrf,zgv,zjw,ln,zpp,zii,show ilt (((ix a.Mons (k:Int) zh).Tables.length:Nat):Int) (((ix a.Mons (k:Int) zh).Tables.length:Nat):Int)=false from qH (by omega),cT,cF,share];have h:inb (k:Int) ((a.Mons.length:Nat):Int)=true:=g;have j:inb b (((ix a.Mons (k:Int) zh).Outer.length:Nat):Int)=true:=s;have v:zdE a.Buffer (ix (ix a.Mons (k:Int) zh).Outer b zV).Page=true:=zbs l.2.2.1;have w:zdE a.IoBuffer (ix (ix a.Mons (k:Int) zh).Outer b zV).Page=true:=zbs l.2.2.2;simp only[h,j,v,w,cT];unfold zcI;cases ine (ix (ix a.Mons (k:Int) zh).Outer b zV).Page (-1)<;>rfl};{exact(zEQ q _).symm};{exact p (by omega)}
theorem zLW:zfi Tryz.prog 362 [true,true,true,true,false,false,false,false] (some (1,1,[[0],[1],[2],[4],[7]])) ztJ:=by refine znt (kt:=.mon) (zh7 zzE zn zx zo) (zkq (by kernel_rfl)) (by kernel_rfl) ?_;intro a g f e h;have c:=zkv e;unfold ztJ at h;split at h;{obtain⟨d,rfl⟩:=ze7 h;obtain⟨N,b⟩:=zTd _ _ _ _ (by exact c) d;exact⟨⟨_,rfl⟩,rfl,_,N,12,(zV2 N _ _ _ _ ).trans b⟩};{cases h}
def zW4:zgy:=[(362,[true,true,true,true,false,false,false,false],some (1,1,[[0],[1],[2],[4],[7]]),ztJ)]++zW3
theorem zd2:zfa zW4:=zrT zo (by
 intro x a;simp only[qG,qN,or_false]at a;rcases a with rfl
 .exact zLW)
def zNz (x:Mon)(p:Int):Mon:={x with Dirty:=up x.Dirty p false}
def grd (x:Mon)(p:Int):Mon:={x with Outer:=up x.Outer p ⟨(ix x.Outer p zV).Page,1⟩}
def zn7 (h:Host)(m p:Int):Host:={h with Mons:=up h.Mons m (zNz (ix h.Mons m zh) p)}
def zpV (h:Host)(m p:Int):Host:=bif zb9 h m p then (cond (zdJ (ix (ix h.Mons m zh).Outer p zV) noSlot) (zn7 h m p)<|zcI (zn7 h m p) m p ⟨(ix (ix h.Mons m zh).Outer p zV).Page,1⟩) else h
theorem zzT:∀(l:List Mon) (u:List Bool),zky l u=true->∀x∈l,zfF x=true
 |[],_,_,x,a=>by cases a
 |m::l,u,h,x,a=>by
  simp only[zky]at h;cases b:zfF m;{rw [b]at h;cases h}
  .rw [b]at h;simp only[cT]at h;cases c:zit m.Outer u with
   |none=>rw[c]at h;cases h
   |some d =>rw[c]at h;rcases qG.1 a with rfl|a;{exact b};{exact zzT l d h x a}
structure PageAt (h:Host) (m p:Int):Prop where
 hm:hasB m (ln h.Mons)=true
 hp:hasB p 8=true
 ok:zfF (ix h.Mons m zh)=true
 ho:(ix h.Mons m zh).Outer.length=8
 hd:(ix h.Mons m zh).Dirty.length=8
 ht:(ix h.Mons m zh).Tables.length=(ix h.Mons m zh).Guests.length
 hs:zdJ (ix (ix h.Mons m zh).Outer p zV) noSlot=ieq (ix (ix h.Mons m zh).Outer p zV).Page (-1)
theorem zRO {s:Slot}{n:Int}(h:zeP s n=true):zdJ s noSlot=ieq s.Page (-1):=by unfold zeP at h;cases a:zdJ s noSlot;{rw [a]at h;cases d:ieq s.Page (-1);{rfl};{have e:s.Page = -1:=qD d;cases b:igt n 0;{rw [b]at h;cases h};{cases c:zl s.Page 0 (wsub .i64 n 1);{rw [b,c]at h;cases h};{have:=(zfT.1 c).1;omega}}}};{unfold zdJ at a;rw[qE]at a;exact a.1.symm}
theorem zz8 {h:Host}{m p:Int}(d:zb9 h m p=true):PageAt h m p:=by unfold zb9 at d;simp only[zdZ]at d;obtain⟨c,f,g⟩:=d;unfold zb0 at c;simp only[zdZ]at c;have b:=zzT _ _ c.2.2.2.2 _ (zbM f zh);have a:=b;unfold zfF at a;simp only[zdZ]at a;have i:(ix h.Mons m zh).Outer.length=8:=(by have:=ztm a.2.2.1;simp only[ln] at this;omega);refine⟨f,g,b,i,?_,?_,?_⟩;{have:ln (ix h.Mons m zh).Dirty=8:=qD a.2.2.2.2.1;simp only[ln] at this;omega};{have:ln (ix h.Mons m zh).Tables=ln (ix h.Mons m zh).Guests:=qD a.2.1;simp only[ln] at this;omega};{have e:=a.2.2.1;unfold zdL at e;simp only[zdZ]at e;have j:hasB p (ln (ix h.Mons m zh).Outer)=true:=(by rw[ln,i];exact g);exact zRO (qM.1 e.1 _<|zbM j _)}
theorem zWV {x:Mon}{p:Int}(h:zfx x):zfx (zNz x p):=⟨h.1,h.2.1,by simpa [zNz] using h.2.2.1,h.2.2.2⟩
theorem zAs {h:Host}{m p:Int}(b:hasB m (ln h.Mons)=true)(a:SmH h):SmH (zn7 h m p):=⟨a.1,zj0 a.2.1<|zWV<|a.2.1.2 _<|zbM b _,a.2.2⟩
theorem zHe {h:Host}{m p:Int}{s:Slot}(d:hasB m (ln h.Mons)=true)(a:SmH h):SmH (zcI h m p s):=by have c:=a.2.1.2 _ (zbM d zh);have e:=z4S (p:=p) (qX _) c;have b:zpL (up h.Mons m {zjw (ix h.Mons m zh) p (ix h.Mons m zh).Tables.length with Outer:=up (ix h.Mons m zh).Outer p s}):=zj0 a.2.1 ⟨by simpa using c.1,e.2⟩;unfold zcI;cases ine (ix (ix h.Mons m zh).Outer p zV).Page (-1);{exact⟨a.1,b,a.2.2⟩};{exact⟨a.1,b,qU (zGJ _ _) a.2.2.1,qU (zGJ _ _) a.2.2.2⟩}
theorem zAv {h:Host}{m p:Int}(a:hasB m (ln h.Mons)=true):hasB m (ln (zn7 h m p).Mons)=true:=by unfold zn7;simpa [ln] using a
theorem z4O {h:Host}{m p:Int}(a:SmH h):SmH (zpV h m p):=by unfold zpV;cases b:zb9 h m p;{exact a};{have P:=zz8 b;cases zdJ (ix (ix h.Mons m zh).Outer p zV) noSlot;{exact zHe (zAv P.hm) (zAs P.hm a)};{exact zAs P.hm a}}
@[simp] abbrev zfm (h:Host)(m p:Int):Bool:=pc (zdP h)
@[simp] abbrev zk5 (h:Host)(m p:Int):Host:=zpV h m p
def zsj:Run:=rF3 dH dI dI λb c d=>(zfm b c d,[aH<|zk5 b c d,aB<|zdV b c d])
def zQK (N:Nat)(h:Host)(a b:Int):OA:=
 let c:=zk h;let g:=ix c.Mons a zh; (oN (zU h)<|oN (ziM c a b)<|cond (nB<|zdV c a b) (some [aH c,aB false])<|oN (inb a<|ln c.Mons)<|oN (inb b<|ln g.Dirty)<|share (up c.Mons a ({g with Dirty:=(up g.Dirty b false)}:Mon)) (λd=>let i:=(ix d a zh).Outer;let f:=({c with Mons:=d}:Host);let e:=ix i b zV;let j:=({e with Rights:=1}:Slot); (oN (inb a<|ln d)<|oN (inb b<|ln i)<|oN zbV<|cond (cond (ieq e.Page zbk.Page) (ieq e.Rights zbk.Rights) false) (some [aH f,aB true])<|oN (zgH f a b j)<|some [aH<|ziN f a b j,aB true])))
theorem zYe (a:Host)(c b:Int)(j:zfm a c b=true):∃N,zQK N a c b=some [aH<|zk5 a c b,aB<|zdV a c b]:=by
 have g:=zK.1 j;have i:=(zS a).1 g;refine⟨0,?_⟩;unfold zQK zk5 zdV zpV oN nB;conv=>zeta
 refine must (zbs g) (must rfl ?_);cases f:zb9 a c b;{simp only [zdV,zk,f,cF,cT]};{have P:=zz8 f;obtain⟨k,rfl,d⟩:=zeG (n:=a.Mons.length) P.hm;simp only[zdV,zk,f,cT,cF];have l:inb b (ln (ix a.Mons (k:Int) zh).Dirty)=true:=(by rw[ln,P.hd];exact P.hp);have h:inb b (ln (ix a.Mons (k:Int) zh).Outer)=true:=(by rw[ln,P.ho];exact P.hp);refine must P.hm (must l ?_);simp only[share,zd6 d,h,cT,zbV,zbk];refine must (zAv (p:=b) P.hm) ?_;have e:∀s:Slot,zdJ s noSlot=bif ieq s.Page noSlot.Page then ieq s.Rights noSlot.Rights else false:=λs=>(by unfold zdJ;cases ieq s.Page noSlot.Page<;>rfl);rw[<- e];cases zdJ (ix (ix a.Mons (k:Int) zh).Outer b zV) noSlot;{refine zci rfl (must (zbs ⟨(zS _).2 (zAs P.hm i),zAv (p:=b) P.hm,?_,?_⟩) rfl);{simp only [zd6 d];exact h};{simp only [zd6 d];exact k7 P.ht}};{rfl}}
theorem zSe:vP 328 zsj:=kF3 zzE zn zx zd2 (zq []) zYe
def zQz (N:Nat)(f:Host)(a c:Int):OA:=
 let d:=zk f;let g:=ix d.Mons a zh;let j:=ix g.Outer c zV; (oN (zU f)<|oN (ziM f a c)<|cond (nB<|zdV f a c) (some [aH d,aB false])<|oN (inb a<|ln d.Mons)<|oN (inb c<|ln g.Outer)<|cond (ine j.Page<|-1) (oN (inb c<|ln g.Outer)<|share (up d.Mons a ({g with Outer:=(up g.Outer c ({j with Rights:=1}:Slot))}:Mon)) λk=>oN (inb a<|ln k)<|oN (cond (cond (cond (ieq a a) true false) (cond (cond (ieq a a) true false) (cond (cond (ieq a a) true false) (cond (cond (ieq a a) true false) (cond (cond (ieq a a) true false) (cond (ieq a a) (cond (cond (ieq c c) (ieq a a) false) (cond (cond (ieq a a) true false) (cond (cond (ieq a a) true false) (cond (cond (ieq a a) true false) (cond (ieq a a) (cond (cond (ieq c c) (ieq a a) false) (cond (cond (ieq c c) (ieq a a) false) true false) false) false) false) false) false) false) false) false) false) false) false) false) true false)<|iter (σ:=(Int×Int×Int×Int×Int×Int×Int×Int×lN×lM×lN×lE×lE×lM×lE×lE×lM×lN×lE×lE×Unit)) N (λv b=>let e:=b.2.2.2.2.1;let s:=b.2.2.2.2.2.2.2.2.1;let t:=b.2.2.2.2.2.2.2.2.2.2.2.2.2.1;let h:=b.2.2.2.1;let r:=b.2.2.2.2.2.2.2.2.2.2.2.2.2.2.1;let q:=b.2.2.2.2.2.2.2.2.2.2.2.2.2.2.2.1;let p:=ix s a zh;let u:=up s a ({p with Dirty:=(up p.Dirty c false)}:Mon);let i:=ix s b.2.1 zh;let n:=ix i.Tables h zeL;let m:=(ix i.Guests h zy).Live; (cond (ilt h b.2.2.1) (oN (inb h<|ln i.Tables)<|oN (inb h<|ln i.Guests)<|oN (zgn n m b.1)<|oN (inb h<|ln i.Tables)<|share (up s b.2.1 ({i with Tables:=(up i.Tables h<|zkL n m b.1)}:Mon)) λl=>oN (cond (cond (cond (ieq a a) true false) (cond (cond (ieq a a) true false) (cond (cond (ieq a a) true false) (cond (cond (ieq a a) true false) (cond (cond (ieq a a) true false) (cond (ieq a a) (cond (cond (ieq c c) (ieq a a) false) (cond (cond (ieq a a) true false) (cond (cond (ieq a a) true false) (cond (cond (ieq a a) true false) (cond (ieq a a) (cond (cond (ieq c c) (ieq a a) false) (cond (cond (ieq c c) (ieq a a) false) true false) false) false) false) false) false) false) false) false) false) false) false) false) true false)<|v (b.1,b.2.1,b.2.2.1,zQ .i64 h 1,e,b.2.2.2.2.2.1,b.2.2.2.2.2.2.1,b.2.2.2.2.2.2.2.1,l,b.2.2.2.2.2.2.2.2.2.1,b.2.2.2.2.2.2.2.2.2.2.1,b.2.2.2.2.2.2.2.2.2.2.2.1,b.2.2.2.2.2.2.2.2.2.2.2.2.1,t,r,q,b.2.2.2.2.2.2.2.2.2.2.2.2.2.2.2.2.1,b.2.2.2.2.2.2.2.2.2.2.2.2.2.2.2.2.2.1,b.2.2.2.2.2.2.2.2.2.2.2.2.2.2.2.2.2.2.1,b.2.2.2.2.2.2.2.2.2.2.2.2.2.2.2.2.2.2.2.1,()))<|cond (ine e<|-1) (oN (zdE r e)<|oN (zdE q e)<|oN (inb c<|ln p.Dirty)<|share u λl=>some [aH (⟨t,l,zf2 r e,zf2 q e⟩:Host),aB true])<|oN (inb c<|ln p.Dirty)<|share u λl=>some [aH (⟨t,l,r,q⟩:Host),aB true])) (c,a,ln (ix k a zh).Guests,0,j.Page,j.Rights,j.Page,j.Rights,k,f.Memory,f.Mons,f.Buffer,f.IoBuffer,d.Memory,d.Buffer,d.IoBuffer,[],[],[],[],()))<|oN (inb c<|ln g.Dirty)<|share (up d.Mons a ({g with Dirty:=(up g.Dirty c false)}:Mon)) λk=>some [aH ({d with Mons:=k}:Host),aB true])
def zYZ:=zq [(129,0,{n:=71,tm:=[(0,.lp 0 0),(2,ti),(7,.lp 1 0),(8,.ep 0 [] 0),(20,ti),(21,ti)],lo:=[(0,[.sl 5 [],.sl 0 [],.sl 6 [],.sl 7 []]),(1,[ti,ti]),(2,[.sl 1 [],.sl 2 [],.sl 3 [],.sl 4 []]),(3,[.sl 8 [],.sl 9 [],.sl 10 [],.sl 11 []]),(4,[ti,ti])],ro:=[(0,.mon,true),(1,.sl .int,false),(2,.mon,false),(3,.entry,false),(4,.entry,false),(5,.sl .int,true),(6,.entry,true),(7,.entry,true),(8,.sl .int,true),(9,.mon,true),(10,.entry,true),(11,.entry,true)],sk:=[(0,0,0,.sl 1 []),(0,0,1,.sl 2 []),(0,0,2,.sl 3 []),(0,0,3,.sl 4 []),(0,3,0,.lp 2 0),(0,6,0,.lp 3 0),(0,10,0,.lp 4 0),(0,12,0,.sl 5 []),(0,12,2,.sl 6 []),(0,12,3,.sl 7 [])]})]
theorem zX4 (a:Host)(d c:Int)(z:zfm a d c=true):∃N,zQz N a d c=some [aH<|zk5 a d c,aB<|zdV a d c]:=by
 have s:=zK.1 z;have l:=(zS a).1 s;refine zcE λN p=>?_;unfold zQz zk5 zdV zpV oN nB;conv=>zeta
 refine must (zbs s) (must rfl ?_);cases B:zb9 a d c;{rfl}
 .have P:=zz8 B;have r:zfx (ix a.Mons d zh):=l.2.1.2 _ (zbM P.hm _);obtain⟨k,rfl,q⟩:=zeG (n:=a.Mons.length) P.hm;have u:inb c (ln (ix a.Mons (k:Int) zh).Dirty)=true:=(by rw[ln,P.hd];exact P.hp);have v:inb c (ln (ix a.Mons (k:Int) zh).Outer)=true:=(by rw[ln,P.ho];exact P.hp);have y:=(zda r.2.2.2.2.2.1).1;refine zci rfl ?_;rw[P.hs];refine must P.hm (must v ?_);cases h:ieq (ix (ix a.Mons (k:Int) zh).Outer c zV).Page (-1)
  .have hpg2:ine (ix (ix a.Mons (k:Int) zh).Outer c zV).Page (-1)=true:=(by rw[zjA];exact congrArg not h);refine must hpg2 (must v ?_);simp only[share];refine must (by simp only[ln,zgv];exact P.hm) ?_
   simp only[zii,cT,zk];refine zrD (ix a.Mons (k:Int) zh).Guests.length (λi (t:List Mon)=>(c,(k:Int),ln (ix (up a.Mons (k:Int)<|grd (ix a.Mons (k:Int) zh) c) (k:Int) zh).Guests,(i:Int),(ix (ix a.Mons (k:Int) zh).Outer c zV).Page,(ix (ix a.Mons (k:Int) zh).Outer c zV).Rights,(ix (ix a.Mons (k:Int) zh).Outer c zV).Page,(ix (ix a.Mons (k:Int) zh).Outer c zV).Rights,t,a.Memory,a.Mons,a.Buffer,a.IoBuffer,a.Memory,a.Buffer,a.IoBuffer,[],[],[],[],())) _
    (λi t=>t=up a.Mons (k:Int) (zjw (grd (ix a.Mons (k:Int) zh) c) c i)) (λ_ _=>some [AV.agg<|zbf<|zcI (zn7 a (k:Int) c) (k:Int) c ⟨(ix (ix a.Mons (k:Int) zh).Outer c zV).Page,1⟩,AV.one<|.b true]) (λi t rec f m C=>?_) (λt rec m=>?_) _ 0 (up a.Mons (k:Int)<|grd (ix a.Mons (k:Int) zh) c) rfl (jX _) ?_
   .subst m;have g:i<(ix a.Mons (k:Int) zh).Tables.length:=(by rw[P.ht];exact f);have e:i<(zlI (ix a.Mons (k:Int) zh).Guests c i (ix a.Mons (k:Int) zh).Tables).length:=by rw[zpp];exact g
    have A:zgn (ix (zlI (ix a.Mons (k:Int) zh).Guests c i (ix a.Mons (k:Int) zh).Tables) (i:Int) zeL) (ix (ix a.Mons (k:Int) zh).Guests (i:Int) zy).Live c=true :=
     zbs ⟨by rw[zbu e];exact(ztl _ _ _ _ (by omega) r.2.2.2.2.2).2 _ (jI e),by rw[zbu f];exact(r.2.2.2.1.2 _<|jI f).2.2.1⟩
    simp only[zd6 q,zrf,zjw,grd,zbI f,zbm e,zbm f,A,cT,share,zbj g y];have j:=C _ rfl;simp only[zd6 q,zjw,grd]at j;exact j
   {subst m;have w:zdE a.Buffer (ix (ix a.Mons (k:Int) zh).Outer c zV).Page=true:=zbs l.2.2.1;have x:zdE a.IoBuffer (ix (ix a.Mons (k:Int) zh).Outer c zV).Page=true:=zbs l.2.2.2;unfold zcI zn7 zNz;simp only[zd6 q,zrf,zjw,grd,zbz,hpg2,w,x,u,P.ht,share,cT,cF]};{exact p (by rw[<- P.ht];omega)}
  {refine zci (by rw[zjA];exact congrArg not h) (must u ?_);rfl}
theorem zR1:vP 69 zsj:=kF3 zzE zn zx zd2 zYZ zX4
def z2Y:zba:=[(328,zsj),(69,zsj)]++z0p
theorem z2Z:zT z2Y:=zi zSe (zi zR1 zzE)
def z3a:zba:=z2Y
theorem zgi:zT z3a:=z2Z
end
end Go.Proofs.YtdlfljbgoopanaaGreat.E
