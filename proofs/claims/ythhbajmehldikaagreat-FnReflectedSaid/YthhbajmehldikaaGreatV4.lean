/- What is proved here: a part of the proof that the statement of this claim holds (several texts of wip/, laid together). -/
import Derived.Test.YthhbajmehldikaaGreatV3
namespace Go.Proofs.YthhbajmehldikaaGreat.E
open Go
set_option linter.unusedVariables false
set_option maxRecDepth 100000
set_option linter.unusedSimpArgs false
set_option linter.unusedSectionVars false
noncomputable section
theorem hE (h:Host):(⟨h.Memory,h.Mons,h.Buffer,h.IoBuffer⟩:Host)=h:=rfl
def idxs {a:Type}(p:a->Bool):List a->Nat->List Int
 |[],_=>[]
 |x::l,i=>bif p x then (i:Int)::idxs p l (i+1) else idxs p l (i+1)
theorem zB0 {a:Type}(p:a->Bool):∀(l:List a) (i:Nat),(idxs p l i).length<=l.length
 |[],_=>qW _
 |x::l,i=>by have:=zB0 p l (i+1);simp only[idxs];cases p x<;>simp<;>omega
theorem zvM {b c:Type}(p:b->Bool)(K:List Int->Option c):∀(l:List b) (i:Nat) (a:List Int),a.length+l.length<=2147483648->
 goL (fun i x a k=>bif p x then (cond (few (ln (ap a [(i:Int)]))) (k (ap a [(i:Int)])) none) else k a) K l i a=K (a++idxs p l i)
 |[],i,a,_=>by simp[goL,idxs]
 |x::l,i,a,h=>by simp only[q0]at h;simp only[goL,idxs];cases p x;{simp only [cF];exact zvM p K l (i+1) a (by omega)};{simp only [cT];rw[zhA (by simp[ap];omega),cT,zvM p K l (i+1) _ (by simp[ap];omega)];simp[ap]}
def zy5 (p:Nat->Bool):Nat->Nat->List Int
 | 0,_=>[]
 |n+1,i=>bif p i then (i:Int)::zy5 p n (i+1) else zy5 p n (i+1)
theorem zBN {b:Type}(p:Nat->Bool)(K:List Int->Option b):∀(n i:Nat) (a:List Int),a.length+n<=2147483648->
 goN (fun i a k=>bif p i then (cond (few (ln (ap a [(i:Int)]))) (k (ap a [(i:Int)])) none) else k a) K n i a=K (a++zy5 p n i)
 | 0,i,a,_=>by simp[goN,zy5]
 |n+1,i,a,h=>by simp only[goN,zy5];cases p i;{simp only [cF];exact zBN p K n (i+1) a (by omega)};{simp only [cT];rw[zhA (by simp[ap];omega),cT,zBN p K n (i+1) _ (by simp[ap];omega)];simp[ap]}
abbrev zCw (l:List Slot)(_:Int):Bool:=pc (l.length<=2147483648)
abbrev zrB (l:List Slot)(p:Int):List Int:=idxs (fun (s:Slot)=>ieq s.Page p) l 0
def zGB:Run:=rF2 (dS .slot) dI fun b c=>(zCw b c,[aS .int (zrB b c)])
def zNj (N:Nat)(c:lS)(d:Int):OA:=
 (iter (σ:=(Int×(Int×(lS×((List Int)×Unit))))) N (fun b a=>(cond (ilt a.2.1 (ln a.2.2.1)) (oN (inb a.2.1 (ln a.2.2.1)) (cond (ieq (ix a.2.2.1 a.2.1 zZ).Page a.1) (oN (few (ln (ap a.2.2.2.1 [a.2.1]))) (b (a.1,((zM .i64 a.2.1 1),(a.2.2.1,((ap a.2.2.2.1 [a.2.1]),())))))) (b (a.1,((zM .i64 a.2.1 1),(a.2.2.1,(a.2.2.2.1,()))))))) (some [(aS .int a.2.2.2.1)]))) (d,(0,(c,([],())))))
def zZR:FuncId->Nat->Option Tmpl:=zq [(317,0,{n:=26,tm:=[(0,.sl 0 []),(1,ti),(5,.sl 1 []),(6,ti)],lo:=[],ro:=[(0,.slot,false),(1,.int,true)]})]
theorem zYe (b:List Slot)(a:Int)(g:zci big [aS .slot b,aI a])(h:zCw b a=true):∃N,zNj N b a=some [aS .int (zrB b a)]:=by have e:=(len0 g);have j:=zK.1 h;refine zcp fun N d=>?_;unfold zNj oN;refine(zbo b (fun i (t:(List Int))=>(a,(i:Int),b,t,())) _ (fun i (x:Slot) (t:List Int) f=>bif ieq x.Page a then (cond (few (ln (ap t [(i:Int)]))) (f (ap t [(i:Int)])) none) else f t) (fun (t:(List Int))=>(some [(.one (.s .int t))])) (fun i c t rec=>?_) (fun t rec=>?_) _ ([]) (d e)).trans ?_;{simp only [zbG c,zbi c,zbp c,zbj c e,cT]};{simp only [zbw,cF]};exact zvM (fun (s:Slot)=>ieq s.Page a) _ _ 0 [] (by simpa using j)
theorem zRd:vM 317 zGB:=hF2 zQr zU zy zn zZR zYe
abbrev zBZ (l:List Slot)(_:Int):Bool:=pc (l.length<=2147483648)
abbrev zlU (l:List Slot)(p:Int):List Int:=idxs (fun (s:Slot)=>ieq s.Page p) l 0
def zGf:Run:=rF2 (dS .slot) dI fun b c=>(zBZ b c,[aS .int (zlU b c)])
def zMV (N:Nat)(d:lS)(f:Int):OA:=
 (iter (σ:=(Int×(Int×(Int×((List Int)×(lS×Unit)))))) N (fun e a=>let c:=a.2.2.2.2.1;let b:=a.2.2.1; (cond (ilt b a.2.1) (oN (inb b (ln c)) (cond (ieq (ix c b zZ).Page a.1) (oN (few (ln (ap a.2.2.2.1 [b]))) (e (a.1,(a.2.1,((zM .i64 b 1),((ap a.2.2.2.1 [b]),(c,()))))))) (e (a.1,(a.2.1,((zM .i64 b 1),(a.2.2.2.1,(c,())))))))) (some [(aS .int a.2.2.2.1)]))) (f,((ln d),(0,([],(d,()))))))
def zZH:FuncId->Nat->Option Tmpl:=zq [(315,0,{n:=26,tm:=[(1,ti),(5,.sl 0 []),(9,.sl 1 []),(10,ti),(11,ti)],lo:=[],ro:=[(0,.int,true),(1,.slot,false)]})]
theorem zXO (a:List Slot)(b:Int)(g:zci big [aS .slot a,aI b])(h:zBZ a b=true):∃N,zMV N a b=some [aS .int (zlU a b)]:=by
 have e:=(len0 g);have j:=zK.1 h;refine zcp fun N d=>?_;unfold zMV oN;conv=>zeta
 refine(zbo a (fun i (t:(List Int))=>(b,(ln a),(i:Int),t,a,())) _ (fun i (x:Slot) (t:List Int) f=>bif ieq x.Page b then (cond (few (ln (ap t [(i:Int)]))) (f (ap t [(i:Int)])) none) else f t) (fun (t:(List Int))=>(some [(.one (.s .int t))])) (fun i c t rec=>?_) (fun t rec=>?_) _ ([]) (d e)).trans ?_;{simp only [zbG c,zbi c,zbp c,zbj c e,cT]};{simp only [zbw,cF]};exact zvM (fun (s:Slot)=>ieq s.Page b) _ _ 0 [] (by simpa using j)
theorem zQR:vM 315 zGf:=hF2 zQr zU zy zn zZH zXO
def zbaZ:zW:=[(317,zGB),(315,zGf)]++ctrW
theorem z8W:zL zbaZ:=zh zRd (zh zQR zQr)
def zba0:zW:=zbaZ
theorem z8X:zL zba0:=z8W
def zba1:zW:=zba0
theorem zWQ:zL zba1:=z8X
theorem zHy (x y:Int):ine x y = !ieq x y:=rfl
def zdA (l:List Int):Bool:=pc (l.length<=2147483648)
abbrev zdu (l:List Int):List Int:=l
def zAB:Run:=rF1 (dS .int) fun b=>(zdA b,[aS .int (zdu b)])
def zEt (N:Nat)(a:List Int):OA:=
 (oN (few (ln (ap [] a))) (some [(aS .int (ap [] a))]))
theorem zRF (a:List Int)(b:zdA a=true):∃N,zEt N a=some [aS .int (zdu a)]:=by refine⟨0,?_⟩;unfold zEt oN;rw[znq,zhA (zK.1 b),cT]
theorem zLb:vM 271 zAB:=kF1 zWQ zU zy zn (zq []) zRF
def zba2:zW:=[(271,zAB)]++zba1
theorem zKM:zL zba2:=zh zLb zWQ
def zCR:List Int:=rp 4 0
def zct (m:List (List Int))(p:Int):List Int:=bif hasB p (ln m) then ix m p [] else zCR
def zkb (m:List (List Int))(_:Int):Bool:=pc (CVB sm (.s (.sl .int) m))
def zoP (m:List (List Int))(p:Int):List Int:=zct m p
theorem z7D {m:List (List Int)}{p:Int}(b:CVB sm (.s (.sl .int) m))(a:hasB p (ln m)=true):(ix m p []).length<=2147483648 :=
 (zc2 (b.inv.2 _ (zbA a ([]:List Int)) (.s .int _) (qF.2 rfl)).len).2
def zGs:Run:=rF2 (dS (.sl .int)) dI fun b c=>(zkb b c,[aS .int (zoP b c)])
def zM8 (N:Nat)(a:lM)(b:Int):OA:=
 (oN (zN b 0 (wsub .i64 (ln a) 1)) (cond (nB (zQ b 0 (wsub .i64 (ln a) 1))) (oN (cond (few 4) (ieq 4 4) false) (some [(aS .int (rp 4 0))])) (oN (inb b (ln a)) (oN (few (ln (ap [] (ix a b [])))) (some [(aS .int (ap [] (ix a b [])))])))))
theorem zX3 (b:List (List Int))(a:Int)(f:zkb b a=true):∃N,zM8 N b a=some [aS .int (zoP b a)]:=by have d:=zK.1 f;refine⟨0,?_⟩;unfold zM8 zoP zct oN nB;have e:zQ a 0 (wsub .i64 (ln b) 1)=hasB a (ln b):=zB3 (zc2 d.len).1 a;rw[e];cases c:hasB a (ln b);{rfl};{simp only [zN,cT,cF,zI c,znq,zhA (z7D d c)]}
theorem zQ4:vM 117 zGs:=kF2 zKM zU zy zn (zq []) zX3
def zjZ (m:List (List Int))(_:Int):Bool:=pc (CVB sm (.s (.sl .int) m))
def zot (m:List (List Int))(p:Int):List Int:=zct m p
def zF7:Run:=rF2 (dS (.sl .int)) dI fun b c=>(zjZ b c,[aS .int (zot b c)])
def zMN (N:Nat)(a:lM)(b:Int):OA:=
 (oN (zdB b (ln a)) (cond (nB (zd1 b (ln a))) (oN (cond (few 4) (ieq 4 4) false) (some [(aS .int (rp 4 0))])) (oN (inb b (ln a)) (oN (zdA (ix a b [])) (some [(aS .int (zdu (ix a b [])))])))))
theorem zXG (a:List (List Int))(b:Int)(d:zjZ a b=true):∃N,zMN N a b=some [aS .int (zot a b)]:=by have e:=zK.1 d;refine⟨0,?_⟩;unfold zMN zot zct zd1 oN nB;cases c:hasB b (ln a);{rfl};{simp only [zdB,cT,cF,zI c,show zdA (ix a b [])=true from zY (z7D e c),zdu]}
theorem zQJ:vM 307 zF7:=kF2 zKM zU zy zn (zq []) zXG
def zba3:zW:=[(117,zGs),(307,zF7)]++zba2
theorem zKN:zL zba3:=zh zQ4 (zh zQJ zKM)
def zcm (h:Host)(m p:Int):List Int :=
 bif hasB m (ln h.Mons) then (cond (hasB p 8) (cond (ine (zbu (ix h.Mons m zi).Outer p).Page (-1)) (zct h.Memory (zbu (ix h.Mons m zi).Outer p).Page) (zct (ix h.Mons m zi).Out p)) zCR) else zCR
theorem has8 (p:Int):zQ p 0 7=hasB p 8:=by unfold zQ ige ile hasB;by_cases a:0<=p<;>by_cases b:p<8;{rw [qJ (p:=p≥0) (by omega),qJ (p:=p<=7) (by omega),qJ (p:=0<=p/\p<8) ⟨a,b⟩];rfl};{rw [qM (p:=p<=7) (by omega),qM (p:=0<=p/\p<8) (by omega)];simp};{rw [qM (p:=p≥0) (by omega),qM (p:=0<=p/\p<8) (by omega)];simp};{rw [qM (p:=p≥0) (by omega),qM (p:=0<=p/\p<8) (by omega)];simp}
def zCr (h:Host)(_ _:Int):Bool:=pc (zcc h)
def zCq (h:Host)(m p:Int):List Int:=zcm h m p
def zwl:Run:=rF3 dH dI dI fun b c d=>(zCr b c d,[aS .int (zCq b c d)])
def zNa (N:Nat)(a:Host)(c b:Int):OA:=
 let d:=(ix a.Mons c zi);let e:=(zgb d.Outer b).Page; (oN (zN c 0 (wsub .i64 (ln a.Mons) 1)) (cond (nB (zQ c 0 (wsub .i64 (ln a.Mons) 1))) (oN (cond (few 4) (ieq 4 4) false) (some [(aS .int (rp 4 0))])) (oN (zN b 0 7) (cond (nB (zQ b 0 7)) (oN (cond (few 4) (ieq 4 4) false) (some [(aS .int (rp 4 0))])) (oN (inb c (ln a.Mons)) (oN (ziH d.Outer b) (cond (ine e (-1)) (oN (zkb a.Memory e) (some [(aS .int (zoP a.Memory e))])) (oN (zkb d.Out b) (some [(aS .int (zoP d.Out b))])))))))))
theorem zX5 (a:Host)(b c:Int)(g:zCr a b c=true):∃N,zNa N a b c=some [aS .int (zCq a b c)]:=by
 have d:=zK.1 g;refine⟨0,?_⟩;unfold zNa zCq zcm oN nB;conv=>zeta
 have e:zQ b 0 (wsub .i64 (ln a.Mons) 1)=hasB b (ln a.Mons):=zB3 (zc2 d.mons.len).1 b;rw[e,has8];cases f:hasB b (ln a.Mons);{rfl};{cases i:hasB c 8;{rfl};{have h:CVB sm (.s (.sl .int) (ix a.Mons b zi).Out):=d.mons.inv.2 _ (zbA f zi) (.s (.sl .int) _) (by simp[Ty.cells]);simp only[zN,cT,cF,zI f,ziH,zgb,show ∀p,zkb a.Memory p=true from fun p=>zY d.mem,show ∀p,zkb (ix a.Mons b zi).Out p=true from fun p=>zY h,zoP];cases ine (zbu (ix a.Mons b zi).Outer c).Page (-1)<;>rfl}}
theorem zz5:vM 34 zwl:=kF3 zKN zU zy zn (zq []) zX5
def zBX (h:Host)(_ _:Int):Bool:=pc (zcc h)
def zBW (h:Host)(m p:Int):List Int:=zcm h m p
def zF8:Run:=rF3 dH dI dI fun b c d=>(zBX b c d,[aS .int (zBW b c d)])
def zMO (N:Nat)(a:Host)(c b:Int):OA:=
 let d:=(ix a.Mons c zi);let e:=(zq8 d.Outer b).Page; (oN (zdB c (ln a.Mons)) (cond (nB (zd1 c (ln a.Mons))) (oN (cond (few 4) (ieq 4 4) false) (some [(aS .int (rp 4 0))])) (oN (zdB b 8) (cond (nB (zd1 b 8)) (oN (cond (few 4) (ieq 4 4) false) (some [(aS .int (rp 4 0))])) (oN (inb c (ln a.Mons)) (oN (zuL d.Outer b) (cond (ine e (-1)) (oN (zjZ a.Memory e) (some [(aS .int (zot a.Memory e))])) (oN (zjZ d.Out b) (some [(aS .int (zot d.Out b))])))))))))
theorem zXH (a:Host)(b c:Int)(f:zBX a b c=true):∃N,zMO N a b c=some [aS .int (zBW a b c)]:=by
 have e:=zK.1 f;refine⟨0,?_⟩;unfold zMO zBW zcm zd1 oN nB;conv=>zeta
 cases d:hasB b (ln a.Mons);{rfl};{cases h:hasB c 8;{rfl};{have g:CVB sm (.s (.sl .int) (ix a.Mons b zi).Out):=e.mons.inv.2 _ (zbA d zi) (.s (.sl .int) _) (by simp[Ty.cells]);simp only[zdB,cT,cF,zI d,zuL,zq8,show ∀p,zjZ a.Memory p=true from fun p=>zY e.mem,show ∀p,zjZ (ix a.Mons b zi).Out p=true from fun p=>zY g,zot];cases ine (zbu (ix a.Mons b zi).Outer c).Page (-1)<;>rfl}}
theorem zQK:vM 255 zF8:=kF3 zKN zU zy zn (zq []) zXH
def zba4:zW:=[(34,zwl),(255,zF8)]++zba3
theorem z8Y:zL zba4:=zh zz5 (zh zQK zKN)
def zba5:zW:=zba4
theorem z8Z:zL zba5:=z8Y
def ctrV:zW:=zba5
theorem zbcO:∀f a,zl ctrV f=some a->Holds Tryz.prog f a:=z8Z
def ctrU:zW:=ctrV
theorem zfP:zL ctrU:=zbcO
def zrd:zhQ:=z9L
theorem zx:zgq zrd:=zU
def canRun (g:Guest):Bool:=bif (ieq g.Exit.Kind 0&&(ieq g.Exit.Page 0&&(ziP g.Exit.Write false&&ieq g.Exit.N 0))) then !g.Halted else false
def zuV (_:Guest):Bool:=true
abbrev zrx (g:Guest):Bool:=canRun g
def zGi:Run:=rF1 (dT .guest) fun b=>(zuV b,[aB (zrx b)])
def zMY (N:Nat)(a:Guest):OA:=
 (cond (cond (ieq a.Exit.Kind 0) (cond (ieq a.Exit.Page 0) (cond (ziP a.Exit.Write false) (ieq a.Exit.N 0) false) false) false) (some [(aB (nB a.Halted))]) oF)
theorem zXR (a:Guest)(b:zuV a=true):∃N,zMY N a=some [aB (zrx a)]:=by refine⟨0,?_⟩;unfold zMY zrx canRun nB;cases ieq a.Exit.Kind 0<;>cases ieq a.Exit.Page 0<;>cases ziP a.Exit.Write false<;>cases ieq a.Exit.N 0<;>simp
theorem zQU:vM 345 zGi:=kF1 zzU zU zy zn (zq []) zXR
theorem must {d:Type}{c:Bool}{a b r:Option d}(h:c=true)(k:a=r):(cond c a b)=r:=by rw[h];exact k
theorem mu {d:Type}{c:Bool}{a b r:Option d}(k:a=r)(h:c=true:=by first|assumption|(simp_all<;>omega)):(cond c a b)=r:=must h k
theorem zdH {d:Type}{c:Bool}{a b r:Option d}(h:c=false)(k:b=r):(cond c a b)=r:=by rw[h];exact k
theorem br {f:Type}{c:Bool}{a b r:Option f}(d:c=true->a=r)(e:c=false->b=r):(cond c a b)=r:=by cases c;{exact e rfl};{exact d rfl}
theorem brN {f:Type}{c:Bool}{a b r:Option f}(d:c=false->a=r)(e:c=true->b=r):(cond (cond c false true) a b)=r:=by cases c;{exact d rfl};{exact e rfl}
theorem shr {a b:Type}{x:a}{f:a->Option b}{r:Option b}(h:f x=r):share x f=r:=h
theorem ziM {e:Type}{c p:Bool}{a b:Option e}(d:c=true):(cond c (cond (cond p false true) a b) none)=bif p then b else a:=by rw[d];cases p<;>rfl
attribute [simp] zK
@[simp] theorem zbcZ {a:Type}(l:List a):(few (ln l)=true)↔l.length<=2147483648:=by unfold few ln;rw[decide_eq_true_iff];omega
@[simp] theorem zbfG {a:Type}(l m:List a):(ap l m).length=l.length+m.length:=by simp[ap]
attribute [simp] znq zgX
@[simp] theorem zbbF (n:Nat)(k:IntKind)(x:Int):CVB n (.i k x)↔True:=⟨fun _=>trivial,fun _=>.i k x⟩
@[simp] theorem zbfK (n:Nat)(x:Bool):CVB n (.b x)↔True:=⟨fun _=>trivial,fun _=>.b x⟩
theorem zmy {n:Nat}{t:Ty}(l:List t.den):CVB n (.s t l)↔l.length<=n/\∀x∈l,∀c∈t.cells x,CVB n c:=⟨fun h=>h.inv,fun h=>.s t l h.1 h.2⟩
@[simp] theorem z1W (n:Nat)(l:List Int):CVB n (.s .int l)↔l.length<=n:=by rw[zmy];simp[Ty.cells]
@[simp] theorem zbem (n:Nat)(l:List Int):CVB n (.s .u8 l)↔l.length<=n:=by rw[zmy];simp[Ty.cells]
@[simp] theorem z9k (n:Nat)(l:List Bool):CVB n (.s .bool l)↔l.length<=n:=by rw[zmy];simp[Ty.cells]
@[simp] theorem z9m (n:Nat)(l:List Slot):CVB n (.s .slot l)↔l.length<=n:=by rw[zmy];simp[Ty.cells]
@[simp] theorem zbcQ (n:Nat)(l:List Ins):CVB n (.s .ins l)↔l.length<=n:=by rw[zmy];simp[Ty.cells]
@[simp] theorem z6p (n:Nat)(l:List Entry):CVB n (.s .entry l)↔l.length<=n:=by rw[zmy];simp[Ty.cells]
@[simp] theorem zbcP (n:Nat)(l:List GAct):CVB n (.s .act l)↔l.length<=n:=by rw[zmy];simp[Ty.cells]
@[simp] theorem z9n (n:Nat)(l:List Told):CVB n (.s .told l)↔l.length<=n:=by rw[zmy];simp[Ty.cells]
def SmM (m:List (List Int)):Prop:=m.length<=1048576/\∀x∈m,x.length<=1048576
def SmG (g:Guest):Prop:=g.Prog.length<=1048576/\g.Written.length<=1048576/\g.Live.length<=1048576/\g.Seen.length<=1048576
def zlB (l:List Guest):Prop:=l.length<=1048576/\∀x∈l,SmG x
def SmB (b:Bare):Prop:=SmM b.Memory/\zlB b.Guests/\b.Outs.length<=1048576
def z2S (l:List Bare):Prop:=l.length<=1048576/\∀x∈l,SmB x
theorem sm_v:sm=1048576:=rfl
@[simp] theorem z3s (l:List Int):CVB sm (.s .int l)↔l.length<=1048576:=z1W sm l
@[simp] theorem zbfn (l:List Int):CVB sm (.s .u8 l)↔l.length<=1048576:=zbem sm l
@[simp] theorem z0h (l:List Bool):CVB sm (.s .bool l)↔l.length<=1048576:=z9k sm l
@[simp] theorem z0i (l:List Slot):CVB sm (.s .slot l)↔l.length<=1048576:=z9m sm l
@[simp] theorem zbeX (l:List Ins):CVB sm (.s .ins l)↔l.length<=1048576:=zbcQ sm l
@[simp] theorem zW1 (l:List Entry):CVB sm (.s .entry l)↔l.length<=1048576:=z6p sm l
@[simp] theorem zbeW (l:List GAct):CVB sm (.s .act l)↔l.length<=1048576:=zbcP sm l
@[simp] theorem zbeQ (l:List Told):CVB sm (.s .told l)↔l.length<=1048576:=z9n sm l
@[simp] theorem zqZ (l:List (List Int)):CVB sm (.s (.sl .int) l)↔SmM l:=by rw[zmy];simp[Ty.cells,SmM,sm_v]
@[simp] theorem zbcu (g:Guest):(∀c∈Ty.cells .guest g,CVB sm c)↔SmG g:=by simp[Ty.cells,SmG,sm_v]
@[simp] theorem zw7 (l:List Guest):CVB sm (.s .guest l)↔zlB l:=by rw[zmy];simp only[zbcu];rfl
@[simp] theorem zbct (b:Bare):(∀c∈Ty.cells .bare b,CVB sm c)↔SmB b:=by simp only[Ty.cells,qG,qN,or_false,vI,forall_eq,zqZ,zw7,z1W,zbbF,and_true];rfl
@[simp] theorem zbfq (l:List Bare):CVB sm (.s .bare l)↔z2S l:=by rw[zmy];simp only[zbct];rfl
@[simp] theorem zbfJ (a:List Ins)(b c:Int)(d e:List Slot)(f:Ctl)(g:Int)(h:GExit)(i:Bool)(j:List Int):SmG ⟨a,b,c,d,e,f,g,h,i,j⟩↔a.length<=1048576/\d.length<=1048576/\e.length<=1048576/\j.length<=1048576:=Iff.rfl
@[simp] theorem zbfI (m:List (List Int))(g:List Guest)(o:List Int)(p:Int):SmB ⟨m,g,o,p⟩↔SmM m/\zlB g/\o.length<=1048576:=Iff.rfl
theorem zPW {m:List (List Int)}{i:Int}{x:List Int}(h:SmM m)(b:x.length<=1048576):SmM (up m i x):=by refine⟨by simpa using h.1,fun y a=>?_⟩;rcases qY a with a|rfl;{exact h.2 y a};{exact b}
theorem zHO {m:List Guest}{i:Int}{x:Guest}(h:zlB m)(b:SmG x):zlB (up m i x):=by refine⟨by simpa using h.1,fun y a=>?_⟩;rcases qY a with a|rfl;{exact h.2 y a};{exact b}
theorem zbdG {m:List Bare}{i:Int}{x:Bare}(h:z2S m)(b:SmB x):z2S (up m i x):=by refine⟨by simpa using h.1,fun y a=>?_⟩;rcases qY a with a|rfl;{exact h.2 y a};{exact b}
theorem zPT {l:List Guest}{i:Int}(h:zlB l)(a:hasB i (ln l)=true)(d:Guest):SmG (ix l i d):=h.2 _ (zbA a d)
theorem zbeL {l:List (List Int)}{i:Int}(h:SmM l)(a:hasB i (ln l)=true)(d:List Int):(ix l i d).length<=1048576:=h.2 _ (zbA a d)
@[simp] theorem zbfe:SmG zD:=⟨by decide,by decide,by decide,by decide⟩
def win (x a b:Int):Bool:=ige x a&&ile x b
@[simp] theorem zWi (x a b:Int):zQ x a b=win x a b:=rfl
@[simp] theorem zbfL (x a b:Int):zcj x a b=win x a b:=rfl
@[simp] theorem zXt (i n:Int):inb i n=hasB i n:=rfl
attribute [simp] zd1
@[simp] theorem zrL {a:Type}{l:List a}(h:l.length<=1048576)(i:Int):win i 0 (wsub .i64 (ln l) 1)=hasB i (ln l):=zFI (zc2 h).1 i
theorem zMF {a:Type}{l:List a}(h:l.length<=big)(i:Int):win i 0 (wsub .i64 (ln l) 1)=hasB i (ln l):=zFI h i
theorem zge {x a b:Int}:(win x a b=true)↔a<=x/\x<=b:=by unfold win ige ile;simp only[qD,decide_eq_true_iff]
theorem zbdb (a b:Int):ilt a b = !ige a b:=by unfold ilt ige;by_cases h:a<b;{rw [qJ h,qM (by omega)];rfl};{rw [qM h,qJ (by omega)];rfl}
attribute [simp] zbv zfx zg3 zmK zhG zhH zfw zgb zq8 zrx zcx zfy
attribute [simp] zew zcU zgn zdu
attribute [simp] zgk zdd zfX zdA
def zbk (a:Int):Int:=bif ilt a 0 then -1 else zZ4 .i64 a 4
def zde (a:Int):Int:=bif ilt a 0 then -1 else zrM a 4
@[simp] abbrev zgx (a:Int):Bool:=true
@[simp] abbrev zcQ (a:Int):Int:=zbk a
def zAK:Run:=rF1 dI fun b=>(zgx b,[aI (zcQ b)])
def zED (N:Nat)(a:Int):OA:=
 (cond (ilt a 0) (some [(aI (-1))]) (oN (ine 4 0) (some [(aI (zZ4 .i64 a 4))])))
theorem zRO (a:Int)(b:zgx a=true):∃N,zED N a=some [aI (zcQ a)]:=by refine⟨0,?_⟩;unfold zED oN;refine br (fun _=>?_) (fun _=>must rfl ?_);all_goals first|rfl|(simp only [*,zcQ,zbk,cT,cF]<;>rfl)|simp_all[Ty.cells,zcQ,zbk]
theorem zLk:vM 145 zAK:=kF1 zfP zx zy zn (zq []) zRO
@[simp] abbrev zjq (a:Int):Bool:=true
@[simp] abbrev zen (a:Int):Int:=zde a
def zAJ:Run:=rF1 dI fun b=>(zjq b,[aI (zen b)])
def zEC (N:Nat)(a:Int):OA:=
 (cond (ilt a 0) (some [(aI (-1))]) (oN (ine 4 0) (some [(aI (zrM a 4))])))
theorem zRN (a:Int)(b:zjq a=true):∃N,zEC N a=some [aI (zen a)]:=by refine⟨0,?_⟩;unfold zEC oN;refine br (fun _=>?_) (fun _=>must rfl ?_);all_goals first|rfl|(simp only [*,zen,zde,cT,cF]<;>rfl)|simp_all[Ty.cells,zen,zde]
theorem zLj:vM 146 zAJ:=kF1 zfP zx zy zn (zq []) zRN
def zcf (w:Bool):Int:=bif w then 2 else 1
@[simp] abbrev zuY (w:Bool):Bool:=true
@[simp] abbrev zfE (w:Bool):Int:=zcf w
def zGr:Run:=rF1 dB fun b=>(zuY b,[aI (zfE b)])
def zM7 (N:Nat)(a:Bool):OA:=
 (cond a (some [(aI 2)]) (some [(aI 1)]))
theorem zX1 (a:Bool)(b:zuY a=true):∃N,zM7 N a=some [aI (zfE a)]:=by refine⟨0,?_⟩;unfold zM7;refine br (fun _=>?_) (fun _=>?_);all_goals first|rfl|(simp only [*,zfE,zcf,cT,cF]<;>rfl)|simp_all[Ty.cells,zfE,zcf]
theorem zQ3:vM 350 zGr:=kF1 zfP zx zy zn (zq []) zX1
def zsX (p:Int)(w:Bool):GExit:=⟨1,p,w,0⟩
def zBx (n:Int):GExit:=⟨2,0,false,n⟩
def zAh (n:Int):GExit:=⟨3,0,false,n⟩
@[simp] abbrev zkx (p:Int)(w:Bool):Bool:=true
@[simp] abbrev zfj (p:Int)(w:Bool):GExit:=zsX p w
def zpQ:Run:=rF2 dI dB fun b c=>(zkx b c,[.agg (zfg (zfj b c))])
def zC5 (N:Nat)(a:Int)(c:Bool):OA:=
 (some [(.agg [(.i .i64 1),(.i .i64 a),(.b c),(.i .i64 0)])])
theorem zO3 (a:Int)(b:Bool)(c:zkx a b=true):∃N,zC5 N a b=some [.agg (zfg (zfj a b))]:=by refine⟨0,?_⟩;unfold zC5;first|rfl|(simp only [*,zfj,cT,cF]<;>rfl)|simp_all[Ty.cells,zfj]
theorem zuw:vM 260 zpQ:=kF2 zfP zx zy zn (zq []) zO3
@[simp] abbrev zp4 (n:Int):Bool:=true
@[simp] abbrev zfA (n:Int):GExit:=zBx n
def zrq:Run:=rF1 dI fun b=>(zp4 b,[.agg (zfg (zfA b))])
def zEG (N:Nat)(a:Int):OA:=
 (some [(.agg [(.i .i64 2),(.i .i64 0),(.b false),(.i .i64 a)])])
theorem zRR (a:Int)(b:zp4 a=true):∃N,zEG N a=some [.agg (zfg (zfA a))]:=by refine⟨0,?_⟩;unfold zEG;first|rfl|(simp only [*,zfA,cT,cF]<;>rfl)|simp_all[Ty.cells,zfA]
theorem zvP:vM 261 zrq:=kF1 zfP zx zy zn (zq []) zRR
@[simp] abbrev zsp (n:Int):Bool:=true
@[simp] abbrev zgy (n:Int):GExit:=zAh n
def zt9:Run:=rF1 dI fun b=>(zsp b,[.agg (zfg (zgy b))])
def zJh (N:Nat)(a:Int):OA:=
 (some [(.agg [(.i .i64 3),(.i .i64 0),(.b false),(.i .i64 a)])])
theorem zVk (a:Int)(b:zsp a=true):∃N,zJh N a=some [.agg (zfg (zgy a))]:=by refine⟨0,?_⟩;unfold zJh;first|rfl|(simp only [*,zgy,cT,cF]<;>rfl)|simp_all[Ty.cells,zgy]
theorem zxu:vM 262 zt9:=kF1 zfP zx zy zn (zq []) zVk
def zhm (t x:Int):Bool:=bif win t 0 3 then (cond (win x 1 2) (ine (wand .i64 t x) 0) false) else false
@[simp] abbrev zi3 (t x:Int):Bool:=true
@[simp] abbrev ziF (t x:Int):Bool:=zhm t x
def zDE:Run:=rF2 dI dI fun b c=>(zi3 b c,[aB (ziF b c)])
def zI9 (N:Nat)(a b:Int):OA:=
 (oN (zN a 0 3) (cond (zQ a 0 3) (oN (zN b 1 2) (cond (zQ b 1 2) (some [(aB (ine (wand .i64 a b) 0))]) oF)) oF))
theorem zVb (a b:Int)(c:zi3 a b=true):∃N,zI9 N a b=some [aB (ziF a b)]:=by refine⟨0,?_⟩;unfold zI9 oN;refine must rfl (br (fun _=>must rfl (br (fun _=>?_) (fun _=>?_))) (fun _=>?_));all_goals first|rfl|(simp only [*,ziF,zhm,cT,cF]<;>rfl)|simp_all[Ty.cells,ziF,zhm]
theorem zOd:vM 355 zDE:=kF2 zfP zx zy zn (zq []) zVb
def zc5 (p:Int):Bool:=win p 0 255
@[simp] abbrev zfH (p:Int):Bool:=true
@[simp] abbrev zfG (p:Int):Bool:=zc5 p
def zGv:Run:=rF1 dI fun b=>(zfH b,[aB (zfG b)])
def zNc (N:Nat)(a:Int):OA:=
 (oN (zN a 0 255) (some [(aB (zQ a 0 255))]))
theorem zX7 (a:Int)(b:zfH a=true):∃N,zNc N a=some [aB (zfG a)]:=by refine⟨0,?_⟩;unfold zNc oN;refine must rfl ?_;first|rfl|(simp only [*,zfG,zc5,cT,cF]<;>rfl)|simp_all[Ty.cells,zfG,zc5]
theorem zQ7:vM 264 zGv:=kF1 zfP zx zy zn (zq []) zX7
@[simp] abbrev zj1 (p:Int):Bool:=true
@[simp] abbrev zj0 (p:Int):Bool:=zc5 p
def zGa:Run:=rF1 dI fun b=>(zj1 b,[aB (zj0 b)])
def zMQ (N:Nat)(a:Int):OA:=
 (oN (zbY a 0 255) (some [(aB (zcj a 0 255))]))
theorem zXJ (a:Int)(b:zj1 a=true):∃N,zMQ N a=some [aB (zj0 a)]:=by refine⟨0,?_⟩;unfold zMQ oN;refine must rfl ?_;first|rfl|(simp only [*,zj0,zc5,cT,cF]<;>rfl)|simp_all[Ty.cells,zj0,zc5]
theorem zQM:vM 263 zGa:=kF1 zfP zx zy zn (zq []) zXJ
def zcv (l:List Ins)(p:Int):Ins:=bif hasB p (ln l) then ix l p zyH else ⟨7,0⟩
@[simp] abbrev zfV (l:List Ins)(p:Int):Bool:=true
@[simp] abbrev zga (l:List Ins)(p:Int):Ins:=zcv l p
def zJ5:Run:=rF2 (dS .ins) dI fun b c=>(zfV b c,[aT .ins (zga b c)])
def zS8 (N:Nat)(a:lI)(b:Int):OA:=
 (oN (zN b 0 (wsub .i64 (ln a) 1)) (cond (nB (zQ b 0 (wsub .i64 (ln a) 1))) (some [(.agg [(.i .i64 7),(.i .i64 0)])]) (oN (inb b (ln a)) (some [(.agg [(.i .i64 (ix a b zyH).Op),(.i .i64 (ix a b zyH).X)])]))))
theorem z0I (a:List Ins)(b:Int)(c:zci big [aS .ins a,aI b])(e:zfV a b=true):∃N,zS8 N a b=some [aT .ins (zga a b)]:=by have d:=((zc8 c).1 _ (qF.2 rfl)).len;have f:=zMF d;refine⟨0,?_⟩;unfold zS8 oN nB;refine must rfl (brN (fun _=>?_) (fun _=>mu ?_));all_goals first|rfl|(simp only [*,zga,zcv,cT,cF]<;>rfl)|simp_all[Ty.cells,zga,zcv]
theorem zUA:vM 347 zJ5:=hF2 zfP zx zy zn (zq []) z0I
def zBc (w:Int):Int:=bif ieq w 5 then 1 else 2
def zdD (s:Slot)(n:Int):Bool:=bif zcW s noSlot then true else (cond (igt n 0) (cond (win s.Page 0 (wsub .i64 n 1)) (win s.Rights 1 3) false) false)
@[simp] abbrev zu1 (s:Slot)(n:Int):Bool:=true
@[simp] abbrev zrA (s:Slot)(n:Int):Bool:=zdD s n
def zGy:Run:=rF2 (dT .slot) dI fun b c=>(zu1 b c,[aB (zrA b c)])
def zNg (N:Nat)(a:Slot)(b:Int):OA:=
 (oN zcx (cond (cond (ieq a.Page zbv.Page) (ieq a.Rights zbv.Rights) false) oT (oN (zN a.Page 0 (wsub .i64 b 1)) (cond (zQ a.Page 0 (wsub .i64 b 1)) (cond (igt b 0) (oN (zN a.Rights 1 3) (some [(aB (zQ a.Rights 1 3))])) oF) oF))))
theorem zYb (a:Slot)(b:Int)(c:zu1 a b=true):∃N,zNg N a b=some [aB (zrA a b)]:=by refine⟨0,?_⟩;unfold zNg oN;refine must rfl (br (fun _=>?_) (fun _=>must rfl (br (fun _=>br (fun _=>must rfl ?_) (fun _=>?_)) (fun _=>?_))));all_goals first|rfl|(simp only [*,zrA,zdD,zcW,cT,cF]<;>rfl)|simp_all[Ty.cells,zrA,zdD,zcW]
theorem zRa:vM 171 zGy:=kF2 zfP zx zy zn (zq []) zYb
@[simp] abbrev zuM (s:Slot)(n:Int):Bool:=true
@[simp] abbrev zq9 (s:Slot)(n:Int):Bool:=zdD s n
def zGe:Run:=rF2 (dT .slot) dI fun b c=>(zuM b c,[aB (zq9 b c)])
def zMU (N:Nat)(a:Slot)(b:Int):OA:=
 (oN zfy (cond (cond (ieq a.Page zfx.Page) (ieq a.Rights zfx.Rights) false) oT (cond (igt b 0) (oN (zbY a.Page 0 (wsub .i64 b 1)) (cond (zcj a.Page 0 (wsub .i64 b 1)) (oN (zbY a.Rights 1 3) (some [(aB (zcj a.Rights 1 3))])) oF)) oF)))
theorem zXN (a:Slot)(b:Int)(c:zuM a b=true):∃N,zMU N a b=some [aB (zq9 a b)]:=by refine⟨0,?_⟩;unfold zMU oN;refine must rfl (br (fun _=>?_) (fun _=>br (fun _=>must rfl (br (fun _=>must rfl ?_) (fun _=>?_))) (fun _=>?_)));all_goals first|rfl|(simp only [*,zq9,zdD,zcW,cT,cF]<;>rfl)|simp_all[Ty.cells,zq9,zdD,zcW]
theorem zQQ:vM 164 zGe:=kF2 zfP zx zy zn (zq []) zXN
@[simp] abbrev zfT (l:List Slot):Bool:=pc (l.length<=2147483648)
@[simp] abbrev zdW (l:List Slot):List Slot:=l
def zxO:Run:=rF1 (dS .slot) fun b=>(zfT b,[aS .slot (zdW b)])
def zCX (N:Nat)(a:lS):OA:=
 (oN (few (ln (ap [] a))) (some [(aS .slot (ap [] a))]))
theorem zOU (a:List Slot)(b:zfT a=true):∃N,zCX N a=some [aS .slot (zdW a)]:=by have c:=zK.1 b;refine⟨0,?_⟩;unfold zCX oN;refine mu ?_;first|rfl|(simp only [*,zdW,cT,cF]<;>rfl)|simp_all[Ty.cells,zdW]
theorem zHY:vM 258 zxO:=kF1 zfP zx zy zn (zq []) zOU
@[simp] abbrev zvY (l:List Ins):Bool:=pc (l.length<=2147483648)
@[simp] abbrev zpx (l:List Ins):List Ins:=l
def zAD:Run:=rF1 (dS .ins) fun b=>(zvY b,[aS .ins (zpx b)])
def zEv (N:Nat)(a:lI):OA:=
 (oN (few (ln (ap [] a))) (some [(aS .ins (ap [] a))]))
theorem zRH (a:List Ins)(b:zvY a=true):∃N,zEv N a=some [aS .ins (zpx a)]:=by have c:=zK.1 b;refine⟨0,?_⟩;unfold zEv oN;refine mu ?_;first|rfl|(simp only [*,zpx,cT,cF]<;>rfl)|simp_all[Ty.cells,zpx]
theorem zLd:vM 308 zAD:=kF1 zfP zx zy zn (zq []) zRH
def zin (m:List (List Int))(p c:Int):Bool:=bif hasB p (ln m) then hasB c (ln (ix m p [])) else false
def cellAt (m:List (List Int))(p c:Int):Int:=bif zin m p c then ix (ix m p []) c 0 else 0
def zbN (m:List (List Int))(p c v:Int):List (List Int):=bif zin m p c then (cond (win v 0 99) (up m p (up (ix m p []) c v)) m) else m
theorem zCc (m:List (List Int))(p c:Int):(zin m p c=true)↔hasB p (ln m)=true/\hasB c (ln (ix m p []))=true:=by unfold zin;cases hasB p (ln m)<;>simp
theorem zbel {n:Nat}{m:List (List Int)}(h:CVB n (.s (.sl .int) m)):m.length<=n/\∀p:Int,hasB p (ln m)=true->(ix m p []).length<=n :=
 ⟨h.len,fun p a=>(h.inv.2 _ (zbA a []) _ (qF.2 rfl)).len⟩
@[simp] abbrev zu5 (m:List (List Int))(p c:Int):Bool:=true
@[simp] abbrev zrD (m:List (List Int))(p c:Int):Bool:=zin m p c
def zGD:Run:=rF3 (dS (.sl .int)) dI dI fun b c d=>(zu5 b c d,[aB (zrD b c d)])
def zNl (N:Nat)(a:lM)(b c:Int):OA:=
 let d:=(wsub .i64 (ln (ix a b [])) 1); (oN (zN b 0 (wsub .i64 (ln a) 1)) (cond (zQ b 0 (wsub .i64 (ln a) 1)) (oN (inb b (ln a)) (oN (zN c 0 d) (some [(aB (zQ c 0 d))]))) oF))
theorem zYg (a:List (List Int))(b c:Int)(e:zci big [aS (.sl .int) a,aI b,aI c])(g:zu5 a b c=true):∃N,zNl N a b c=some [aB (zrD a b c)]:=by
 have d:=zbel ((zc8 e).1 _ (qF.2 rfl));have j:=zMF d.1;have f:∀p i:Int,hasB p (ln a)=true->win i 0 (wsub .i64 (ln (ix a p [])) 1)=hasB i (ln (ix a p [])):=fun p i h=>zMF (d.2 p h) i;refine⟨0,?_⟩;unfold zNl oN;conv=>zeta
 refine must rfl (br (fun _=>mu (must rfl ?_)) (fun _=>?_));all_goals first|rfl|(simp only [*,zrD,zin,cT,cF]<;>rfl)|simp_all[Ty.cells,zrD,zin]
theorem zRg:vM 214 zGD:=hF3 zfP zx zy zn (zq []) zYg
def zbbj:zW:=[(345,zGi),(145,zAK),(146,zAJ),(350,zGr),(260,zpQ),(261,zrq),(262,zt9),(355,zDE),(264,zGv),(263,zGa),(347,zJ5),(171,zGy),(164,zGe),(258,zxO),(308,zAD),(214,zGD)]++ctrU
theorem zgP:zL zbbj:=zh zQU (zh zLk (zh zLj (zh zQ3 (zh zuw (zh zvP (zh zxu (zh zOd (zh zQ7 (zh zQM (zh zUA (zh zRa (zh zQQ (zh zHY (zh zLd (zh zRg zfP)))))))))))))))
@[simp] abbrev zuW (m:List (List Int))(p c:Int):Bool:=true
@[simp] abbrev zoL (m:List (List Int))(p c:Int):Int:=cellAt m p c
def zGj:Run:=rF3 (dS (.sl .int)) dI dI fun b c d=>(zuW b c d,[aI (zoL b c d)])
def zMZ (N:Nat)(a:lM)(b c:Int):OA:=
 (oN (zu5 a b c) (cond (nB (zrD a b c)) (some [(aI 0)]) (oN (inb b (ln a)) (oN (inb c (ln (ix a b []))) (some [(aI (ix (ix a b []) c 0))])))))
theorem zXS (a:List (List Int))(b c:Int)(d:zuW a b c=true):∃N,zMZ N a b c=some [aI (zoL a b c)]:=by have e:=(zCc a b c).1;refine⟨0,?_⟩;unfold zMZ oN nB;refine must rfl (brN (fun _=>?_) (fun _=>mu (mu ?_)));all_goals first|rfl|(simp only [*,zoL,cellAt,cT,cF]<;>rfl)|simp_all[Ty.cells,zoL,cellAt]
theorem zQV:vM 119 zGj:=kF3 zgP zx zy zn (zq []) zXS
def zcS (t:List Slot)(n p:Int):Bool:=bif t.all (fun s=>zdD s p) then ieq (ln t) n else false
@[simp] abbrev znS (t:List Slot)(n p:Int):Bool:=true
@[simp] abbrev ziI (t:List Slot)(n p:Int):Bool:=zcS t n p
def zDO:Run:=rF3 (dS .slot) dI dI fun b c d=>(znS b c d,[aB (ziI b c d)])
def zJn (N:Nat)(d:lS)(e f:Int):OA:=
 (iter (σ:=(Int×(Int×(Int×(lS×Unit))))) N (fun g a=>let b:=a.2.2.2.1;let c:=(ix b a.2.2.1 zZ); (cond (ilt a.2.2.1 (ln b)) (oN (inb a.2.2.1 (ln b)) (oN (zu1 c a.2.1) (cond (nB (zrA c a.2.1)) oF (g (a.1,(a.2.1,((zM .i64 a.2.2.1 1),(b,())))))))) (some [(aB (ieq (ln b) a.1))]))) (e,(f,(0,(d,())))))
def zVU:FuncId->Nat->Option Tmpl:=zq [(288,0,{n:=25,tm:=[(0,.sl 0 []),(1,ti),(2,ti),(7,ti)],lo:=[],ro:=[(0,.slot,false)]})]
theorem zVr (a:List Slot)(d c:Int)(j:zci big [aS .slot a,aI d,aI c])(l:znS a d c=true):∃N,zJn N a d c=some [aB (ziI a d c)]:=by
 have h:(_:List _).length<=big:=((zc8 j).1 _ (qF.2 rfl)).len;refine zcp fun N g=>?_;unfold zJn oN nB;conv=>zeta
 refine(zbo a (fun i (t:Unit)=>(d,c,(i:Int),a,())) _ (fun _ x (_:Unit) k=>bif (fun s=>zdD s c) x then k () else oF) (fun (t:Unit)=>(some [(.one (.b (ieq (ln a) d)))])) (fun i e t rec=>?_) (fun t rec=>?_) _ () (g h)).trans ?_;{simp only [zbG e,zbi e,zbp e,zbj e h,cT];exact ziM rfl};{simp only [zbw,cF]};rw[zgG (fun s=>zdD s c)];refine br (fun f=>?_) (fun f=>?_);{first|rfl|(simp only [f,ziI,zcS,cT,cF]<;>rfl)|(simp_all [Ty.cells,ziI,zcS];done)};{first|rfl|(simp only [f,ziI,zcS,cT,cF]<;>rfl)|(simp_all [Ty.cells,ziI,zcS];done)}
theorem zOn:vM 288 zDO:=hF3 zgP zx zy zn zVU zVr
@[simp] abbrev zny (t:List Slot)(n p:Int):Bool:=true
@[simp] abbrev zij (t:List Slot)(n p:Int):Bool:=zcS t n p
def zDw:Run:=rF3 (dS .slot) dI dI fun b c d=>(zny b c d,[aB (zij b c d)])
def zIW (N:Nat)(c:lS)(e f:Int):OA:=
 (iter (σ:=(Int×(Int×(Int×(Int×(lS×Unit)))))) N (fun g a=>let b:=a.2.2.2.2.1;let d:=(ix b a.2.2.2.1 zZ); (cond (ilt a.2.2.2.1 a.2.2.1) (oN (inb a.2.2.2.1 (ln b)) (oN (zuM d a.2.1) (cond (nB (zq9 d a.2.1)) oF (g (a.1,(a.2.1,(a.2.2.1,((zM .i64 a.2.2.2.1 1),(b,()))))))))) (some [(aB (ieq (ln b) a.1))]))) (e,(f,((ln c),(0,(c,()))))))
def zVQ:FuncId->Nat->Option Tmpl:=zq [(306,0,{n:=24,tm:=[(0,.sl 0 []),(1,ti),(2,ti),(9,.sl 0 []),(10,ti),(11,ti)],lo:=[],ro:=[(0,.slot,false)]})]
theorem zUY (a:List Slot)(d c:Int)(j:zci big [aS .slot a,aI d,aI c])(l:zny a d c=true):∃N,zIW N a d c=some [aB (zij a d c)]:=by
 have h:(_:List _).length<=big:=((zc8 j).1 _ (qF.2 rfl)).len;refine zcp fun N g=>?_;unfold zIW oN nB;conv=>zeta
 refine(zbo a (fun i (t:Unit)=>(d,c,(ln a),(i:Int),a,())) _ (fun _ x (_:Unit) k=>bif (fun s=>zdD s c) x then k () else oF) (fun (t:Unit)=>(some [(.one (.b (ieq (ln a) d)))])) (fun i e t rec=>?_) (fun t rec=>?_) _ () (g h)).trans ?_;{simp only [zbG e,zbi e,zbp e,zbj e h,cT];exact ziM rfl};{simp only [zbw,cF]};rw[zgG (fun s=>zdD s c)];refine br (fun f=>?_) (fun f=>?_);{first|rfl|(simp only [f,zij,zcS,cT,cF]<;>rfl)|(simp_all [Ty.cells,zij,zcS];done)};{first|rfl|(simp only [f,zij,zcS,cT,cF]<;>rfl)|(simp_all [Ty.cells,zij,zcS];done)}
theorem zN5:vM 306 zDw:=hF3 zgP zx zy zn zVQ zUY
def zcn (c:List Int):Bool:=bif c.all (fun x=>win x 0 99) then ieq (ln c) 4 else false
@[simp] abbrev zgi (c:List Int):Bool:=true
@[simp] abbrev zfF (c:List Int):Bool:=zcn c
def zGu:Run:=rF1 (dS .int) fun b=>(zgi b,[aB (zfF b)])
def zNb (N:Nat)(b:List Int):OA:=
 (iter (σ:=(Int×((List Int)×Unit))) N (fun c a=>(cond (ilt a.1 (ln a.2.1)) (oN (inb a.1 (ln a.2.1)) (oN (zN (ix a.2.1 a.1 0) 0 99) (cond (nB (zQ (ix a.2.1 a.1 0) 0 99)) oF (c ((zM .i64 a.1 1),(a.2.1,())))))) (some [(aB (ieq (ln a.2.1) 4))]))) (0,(b,())))
def zZN:FuncId->Nat->Option Tmpl:=zq [(287,0,{n:=19,tm:=[(0,.sl 0 []),(3,ti)],lo:=[],ro:=[(0,.int,false)]})]
theorem zX6 (a:List Int)(g:zci big [aS .int a])(j:zgi a=true):∃N,zNb N a=some [aB (zfF a)]:=by have f:(_:List _).length<=big:=((zc8 g).1 _ (qF.2 rfl)).len;refine zcp fun N e=>?_;unfold zNb oN nB;refine(zbo a (fun i (t:Unit)=>((i:Int),a,())) _ (fun _ x (_:Unit) h=>bif (fun x=>win x 0 99) x then h () else oF) (fun (t:Unit)=>(some [(.one (.b (ieq (ln a) 4)))])) (fun i c t rec=>?_) (fun t rec=>?_) _ () (e f)).trans ?_;{simp only [zbG c,zbi c,zbp c,zbj c f,cT];exact ziM rfl};{simp only [zbw,cF]};rw[zgG (fun x=>win x 0 99)];refine br (fun d=>?_) (fun d=>?_);{first|rfl|(simp only [d,zfF,zcn,cT,cF]<;>rfl)|(simp_all [Ty.cells,zfF,zcn];done)};{first|rfl|(simp only [d,zfF,zcn,cT,cF]<;>rfl)|(simp_all [Ty.cells,zfF,zcn];done)}
theorem zQ6:vM 287 zGu:=hF1 zgP zx zy zn zZN zX6
@[simp] abbrev zih (c:List Int):Bool:=true
@[simp] abbrev zgR (c:List Int):Bool:=zcn c
def zF9:Run:=rF1 (dS .int) fun b=>(zih b,[aB (zgR b)])
def zMP (N:Nat)(b:List Int):OA:=
 (iter (σ:=(Int×(Int×((List Int)×Unit)))) N (fun c a=>(cond (ilt a.2.1 a.1) (oN (inb a.2.1 (ln a.2.2.1)) (oN (zbY (ix a.2.2.1 a.2.1 0) 0 99) (cond (nB (zcj (ix a.2.2.1 a.2.1 0) 0 99)) oF (c (a.1,((zM .i64 a.2.1 1),(a.2.2.1,()))))))) (some [(aB (ieq (ln a.2.2.1) 4))]))) ((ln b),(0,(b,()))))
def zZE:FuncId->Nat->Option Tmpl:=zq [(305,0,{n:=18,tm:=[(0,.sl 0 []),(5,.sl 0 []),(6,ti),(7,ti)],lo:=[],ro:=[(0,.int,false)]})]
theorem zXI (a:List Int)(g:zci big [aS .int a])(j:zih a=true):∃N,zMP N a=some [aB (zgR a)]:=by have f:(_:List _).length<=big:=((zc8 g).1 _ (qF.2 rfl)).len;refine zcp fun N e=>?_;unfold zMP oN nB;refine(zbo a (fun i (t:Unit)=>((ln a),(i:Int),a,())) _ (fun _ x (_:Unit) h=>bif (fun x=>win x 0 99) x then h () else oF) (fun (t:Unit)=>(some [(.one (.b (ieq (ln a) 4)))])) (fun i c t rec=>?_) (fun t rec=>?_) _ () (e f)).trans ?_;{simp only [zbG c,zbi c,zbp c,zbj c f,cT];exact ziM rfl};{simp only [zbw,cF]};rw[zgG (fun x=>win x 0 99)];refine br (fun d=>?_) (fun d=>?_);{first|rfl|(simp only [d,zgR,zcn,cT,cF]<;>rfl)|(simp_all [Ty.cells,zgR,zcn];done)};{first|rfl|(simp only [d,zgR,zcn,cT,cF]<;>rfl)|(simp_all [Ty.cells,zgR,zcn];done)}
theorem zQL:vM 305 zF9:=hF1 zgP zx zy zn zZE zXI
def zdO (i:Ins):Bool:=bif (ieq i.Op 1||ieq i.Op 2||ieq i.Op 5||ieq i.Op 6) then win i.X 0 99 else (cond (ieq i.Op 3||ieq i.Op 4) (win i.X 0 15) (cond (ieq i.Op 7) (ieq i.X 0) (cond (ieq i.Op 8) (win i.X 0 11) false)))
@[simp] abbrev zGQ (i:Ins):Bool:=true
@[simp] abbrev zA1 (i:Ins):Bool:=zdO i
def zJ6:Run:=rF1 (dT .ins) fun b=>(zGQ b,[aB (zA1 b)])
def zS9 (N:Nat)(a:Ins):OA:=
 let b:=(ieq a.Op 4);let l:=(zN a.X 0 99);let k:=(aB (zQ a.X 0 99));let j:=(ieq a.Op 8);let i:=(ieq a.Op 7);let h:=(ieq a.Op 3);let g:=(zN a.X 0 11);let f:=(zN a.X 0 15);let e:=(aB (ieq a.X 0));let d:=(aB (zQ a.X 0 11));let c:=(aB (zQ a.X 0 15)); (cond (ieq a.Op 1) (cond (ieq a.Op 1) (oN l (some [k])) (cond h (cond h (oN f (some [c])) (cond i (some [e]) (cond j (oN g (some [d])) oF))) (cond b (oN f (some [c])) (cond i (some [e]) (cond j (oN g (some [d])) oF))))) (cond (ieq a.Op 2) (cond (ieq a.Op 2) (oN l (some [k])) (cond h (cond h (oN f (some [c])) (cond i (some [e]) (cond j (oN g (some [d])) oF))) (cond b (oN f (some [c])) (cond i (some [e]) (cond j (oN g (some [d])) oF))))) (cond (ieq a.Op 5) (cond (ieq a.Op 5) (oN l (some [k])) (cond h (cond h (oN f (some [c])) (cond i (some [e]) (cond j (oN g (some [d])) oF))) (cond b (oN f (some [c])) (cond i (some [e]) (cond j (oN g (some [d])) oF))))) (cond (ieq a.Op 6) (oN l (some [k])) (cond h (cond h (oN f (some [c])) (cond i (some [e]) (cond j (oN g (some [d])) oF))) (cond b (oN f (some [c])) (cond i (some [e]) (cond j (oN g (some [d])) oF))))))))
theorem z0J (a:Ins)(b:zGQ a=true):∃N,zS9 N a=some [aB (zA1 a)]:=by
 refine⟨0,?_⟩;unfold zS9 oN;conv=>zeta
 refine br (fun _=>br (fun _=>must rfl ?_) (fun _=>br (fun _=>br (fun _=>must rfl ?_) (fun _=>br (fun _=>?_) (fun _=>br (fun _=>must rfl ?_) (fun _=>?_)))) (fun _=>br (fun _=>must rfl ?_) (fun _=>br (fun _=>?_) (fun _=>br (fun _=>must rfl ?_) (fun _=>?_)))))) (fun _=>br (fun _=>br (fun _=>must rfl ?_) (fun _=>br (fun _=>br (fun _=>must rfl ?_) (fun _=>br (fun _=>?_) (fun _=>br (fun _=>must rfl ?_) (fun _=>?_)))) (fun _=>br (fun _=>must rfl ?_) (fun _=>br (fun _=>?_) (fun _=>br (fun _=>must rfl ?_) (fun _=>?_)))))) (fun _=>br (fun _=>br (fun _=>must rfl ?_) (fun _=>br (fun _=>br (fun _=>must rfl ?_) (fun _=>br (fun _=>?_) (fun _=>br (fun _=>must rfl ?_) (fun _=>?_)))) (fun _=>br (fun _=>must rfl ?_) (fun _=>br (fun _=>?_) (fun _=>br (fun _=>must rfl ?_) (fun _=>?_)))))) (fun _=>br (fun _=>must rfl ?_) (fun _=>br (fun _=>br (fun _=>must rfl ?_) (fun _=>br (fun _=>?_) (fun _=>br (fun _=>must rfl ?_) (fun _=>?_)))) (fun _=>br (fun _=>must rfl ?_) (fun _=>br (fun _=>?_) (fun _=>br (fun _=>must rfl ?_) (fun _=>?_))))))));all_goals first|rfl|(simp only [*,zA1,zdO,cT,cF]<;>rfl)|simp_all[Ty.cells,zA1,zdO]
theorem zUB:vM 330 zJ6:=kF1 zgP zx zy zn (zq []) z0J
@[simp] abbrev zFx (i:Ins):Bool:=true
@[simp] abbrev zz8 (i:Ins):Bool:=zdO i
def zJW:Run:=rF1 (dT .ins) fun b=>(zFx b,[aB (zz8 b)])
def zSZ (N:Nat)(a:Ins):OA:=
 let b:=(ieq a.Op 4);let l:=(zbY a.X 0 99);let k:=(aB (zcj a.X 0 99));let j:=(ieq a.Op 8);let i:=(ieq a.Op 7);let h:=(ieq a.Op 3);let g:=(zbY a.X 0 11);let f:=(zbY a.X 0 15);let e:=(aB (ieq a.X 0));let d:=(aB (zcj a.X 0 11));let c:=(aB (zcj a.X 0 15)); (cond (ieq a.Op 1) (cond (ieq a.Op 1) (oN l (some [k])) (cond h (cond h (oN f (some [c])) (cond i (some [e]) (cond j (oN g (some [d])) oF))) (cond b (oN f (some [c])) (cond i (some [e]) (cond j (oN g (some [d])) oF))))) (cond (ieq a.Op 2) (cond (ieq a.Op 2) (oN l (some [k])) (cond h (cond h (oN f (some [c])) (cond i (some [e]) (cond j (oN g (some [d])) oF))) (cond b (oN f (some [c])) (cond i (some [e]) (cond j (oN g (some [d])) oF))))) (cond (ieq a.Op 5) (cond (ieq a.Op 5) (oN l (some [k])) (cond h (cond h (oN f (some [c])) (cond i (some [e]) (cond j (oN g (some [d])) oF))) (cond b (oN f (some [c])) (cond i (some [e]) (cond j (oN g (some [d])) oF))))) (cond (ieq a.Op 6) (oN l (some [k])) (cond h (cond h (oN f (some [c])) (cond i (some [e]) (cond j (oN g (some [d])) oF))) (cond b (oN f (some [c])) (cond i (some [e]) (cond j (oN g (some [d])) oF))))))))
theorem z0y (a:Ins)(b:zFx a=true):∃N,zSZ N a=some [aB (zz8 a)]:=by
 refine⟨0,?_⟩;unfold zSZ oN;conv=>zeta
 refine br (fun _=>br (fun _=>must rfl ?_) (fun _=>br (fun _=>br (fun _=>must rfl ?_) (fun _=>br (fun _=>?_) (fun _=>br (fun _=>must rfl ?_) (fun _=>?_)))) (fun _=>br (fun _=>must rfl ?_) (fun _=>br (fun _=>?_) (fun _=>br (fun _=>must rfl ?_) (fun _=>?_)))))) (fun _=>br (fun _=>br (fun _=>must rfl ?_) (fun _=>br (fun _=>br (fun _=>must rfl ?_) (fun _=>br (fun _=>?_) (fun _=>br (fun _=>must rfl ?_) (fun _=>?_)))) (fun _=>br (fun _=>must rfl ?_) (fun _=>br (fun _=>?_) (fun _=>br (fun _=>must rfl ?_) (fun _=>?_)))))) (fun _=>br (fun _=>br (fun _=>must rfl ?_) (fun _=>br (fun _=>br (fun _=>must rfl ?_) (fun _=>br (fun _=>?_) (fun _=>br (fun _=>must rfl ?_) (fun _=>?_)))) (fun _=>br (fun _=>must rfl ?_) (fun _=>br (fun _=>?_) (fun _=>br (fun _=>must rfl ?_) (fun _=>?_)))))) (fun _=>br (fun _=>must rfl ?_) (fun _=>br (fun _=>br (fun _=>must rfl ?_) (fun _=>br (fun _=>?_) (fun _=>br (fun _=>must rfl ?_) (fun _=>?_)))) (fun _=>br (fun _=>must rfl ?_) (fun _=>br (fun _=>?_) (fun _=>br (fun _=>must rfl ?_) (fun _=>?_))))))));all_goals first|rfl|(simp only [*,zz8,zdO,cT,cF]<;>rfl)|simp_all[Ty.cells,zz8,zdO]
theorem zUq:vM 329 zJW:=kF1 zgP zx zy zn (zq []) z0y
def zhz (e:GExit):Bool:=bif (ieq e.Kind 0||ieq e.Kind 4) then (ieq e.Page 0&&(!e.Write&&ieq e.N 0)) else (cond (ieq e.Kind 1) (win e.Page 0 3&&ieq e.N 0) (cond (ieq e.Kind 2||ieq e.Kind 3) (win e.N 0 99&&(ieq e.Page 0 && !e.Write)) false))
@[simp] theorem zbfH (x:Bool):ziP x false = !x:=by cases x<;>rfl
attribute [simp] zes
@[simp] abbrev zCn (e:GExit):Bool:=true
@[simp] abbrev zwo (e:GExit):Bool:=zhz e
def zGl:Run:=rF1 dE fun b=>(zCn b,[aB (zwo b)])
def zM1 (N:Nat)(a:GExit):OA:=
 let f:=(zQ a.N 0 99);let e:=(zN a.N 0 99);let d:=(ieq a.Kind 2);let b:=(ieq a.Page 0);let c:=(aB (nB a.Write));let g:=(aB (cond (ieq a.Kind a.Kind) (cond b (cond (ziP a.Write false) (ieq a.N 0) false) false) false)); (cond (ieq a.Kind 0) (cond (ieq a.Kind 0) (some [g]) (cond (ieq a.Kind 1) (oN (zN a.Page 0 3) (cond (zQ a.Page 0 3) (some [(aB (ieq a.N 0))]) oF)) (cond d (cond d (oN e (cond f (cond b (some [c]) oF) oF)) oF) (cond (ieq a.Kind 3) (oN e (cond f (cond b (some [c]) oF) oF)) oF)))) (cond (ieq a.Kind 4) (some [g]) (cond (ieq a.Kind 1) (oN (zN a.Page 0 3) (cond (zQ a.Page 0 3) (some [(aB (ieq a.N 0))]) oF)) (cond d (cond d (oN e (cond f (cond b (some [c]) oF) oF)) oF) (cond (ieq a.Kind 3) (oN e (cond f (cond b (some [c]) oF) oF)) oF)))))
theorem zXU (a:GExit)(b:zCn a=true):∃N,zM1 N a=some [aB (zwo a)]:=by
 refine⟨0,?_⟩;unfold zM1 oN nB;conv=>zeta
 refine br (fun _=>br (fun _=>?_) (fun _=>br (fun _=>must rfl (br (fun _=>?_) (fun _=>?_))) (fun _=>br (fun _=>br (fun _=>must rfl (br (fun _=>br (fun _=>?_) (fun _=>?_)) (fun _=>?_))) (fun _=>?_)) (fun _=>br (fun _=>must rfl (br (fun _=>br (fun _=>?_) (fun _=>?_)) (fun _=>?_))) (fun _=>?_))))) (fun _=>br (fun _=>?_) (fun _=>br (fun _=>must rfl (br (fun _=>?_) (fun _=>?_))) (fun _=>br (fun _=>br (fun _=>must rfl (br (fun _=>br (fun _=>?_) (fun _=>?_)) (fun _=>?_))) (fun _=>?_)) (fun _=>br (fun _=>must rfl (br (fun _=>br (fun _=>?_) (fun _=>?_)) (fun _=>?_))) (fun _=>?_)))));all_goals first|rfl|(simp only [*,zwo,zhz,cT,cF]<;>rfl)|simp_all[Ty.cells,zwo,zhz]
theorem zQX:vM 320 zGl:=kF1 zgP zx zy zn (zq []) zXU
@[simp] abbrev zBT (e:GExit):Bool:=true
@[simp] abbrev zvT (e:GExit):Bool:=zhz e
def zF2:Run:=rF1 dE fun b=>(zBT b,[aB (zvT b)])
def zMJ (N:Nat)(a:GExit):OA:=
 let g:=(zcj a.N 0 99);let f:=(zbY a.N 0 99);let e:=(ieq a.Kind 2);let d:=(aB (ieq a.N 0));let b:=(ieq a.Page 0);let c:=(aB (nB a.Write)); (cond (ieq a.Kind 0) (cond (ieq a.Kind 0) (cond b (cond (nB a.Write) (some [d]) oF) oF) (cond (ieq a.Kind 1) (oN (zbY a.Page 0 3) (cond (zcj a.Page 0 3) (some [d]) oF)) (cond e (cond e (oN f (cond g (cond b (some [c]) oF) oF)) oF) (cond (ieq a.Kind 3) (oN f (cond g (cond b (some [c]) oF) oF)) oF)))) (cond (ieq a.Kind 4) (cond b (cond (nB a.Write) (some [d]) oF) oF) (cond (ieq a.Kind 1) (oN (zbY a.Page 0 3) (cond (zcj a.Page 0 3) (some [d]) oF)) (cond e (cond e (oN f (cond g (cond b (some [c]) oF) oF)) oF) (cond (ieq a.Kind 3) (oN f (cond g (cond b (some [c]) oF) oF)) oF)))))
theorem zXB (a:GExit)(b:zBT a=true):∃N,zMJ N a=some [aB (zvT a)]:=by
 refine⟨0,?_⟩;unfold zMJ oN nB;conv=>zeta
 refine br (fun _=>br (fun _=>br (fun _=>brN (fun _=>?_) (fun _=>?_)) (fun _=>?_)) (fun _=>br (fun _=>must rfl (br (fun _=>?_) (fun _=>?_))) (fun _=>br (fun _=>br (fun _=>must rfl (br (fun _=>br (fun _=>?_) (fun _=>?_)) (fun _=>?_))) (fun _=>?_)) (fun _=>br (fun _=>must rfl (br (fun _=>br (fun _=>?_) (fun _=>?_)) (fun _=>?_))) (fun _=>?_))))) (fun _=>br (fun _=>br (fun _=>brN (fun _=>?_) (fun _=>?_)) (fun _=>?_)) (fun _=>br (fun _=>must rfl (br (fun _=>?_) (fun _=>?_))) (fun _=>br (fun _=>br (fun _=>must rfl (br (fun _=>br (fun _=>?_) (fun _=>?_)) (fun _=>?_))) (fun _=>?_)) (fun _=>br (fun _=>must rfl (br (fun _=>br (fun _=>?_) (fun _=>?_)) (fun _=>?_))) (fun _=>?_)))));all_goals first|rfl|(simp only [*,zvT,zhz,cT,cF]<;>rfl)|simp_all[Ty.cells,zvT,zhz]
theorem zQE:vM 312 zF2:=kF1 zgP zx zy zn (zq []) zXB
def zlG (c:Ctl):List Int:=(cond (win c.Traps 0 3) [] [1])++((cond (win c.Post 0 255) [] [2])++((cond (ine c.Post 0) (cond c.Open [] [3]) [])++(cond (ieq c.Traps 2) (cond (ine c.Post 0) [4] []) [])))
@[simp] theorem zbfE {a:Type}(x:a)(l m:List a):ap (x::l) m=x::ap l m:=rfl
@[simp] abbrev zui (c:Ctl):Bool:=true
@[simp] abbrev znI (c:Ctl):List Int:=zlG c
def zxV:Run:=rF1 dC fun b=>(zui b,[aS .int (znI b)])
def zC4 (N:Nat)(b:Ctl):OA:=
 let e:=(aS .int []);let k:=(ap (ap [] [2]) [4]);let j:=(ap (ap [] [1]) [4]);let i:=(aS .int (ap [] [2]));let h:=(aS .int (ap [] [1]));let g:=(ap (ap [] [2]) [3]);let f:=(ap (ap [] [1]) [3]);let c:=(ieq b.Traps 2);let a:=(ine b.Post 0);let d:=(ap (ap [] [1]) [2]);let l:=(aS .int d); (oN (zN b.Traps 0 3) (cond (nB (zQ b.Traps 0 3)) (oN (few (ln (ap [] [1]))) (oN (zN b.Post 0 255) (cond (nB (zQ b.Post 0 255)) (oN (few (ln d)) (cond a (cond (nB b.Open) (oN (few (ln (ap d [3]))) (cond c (cond a (oN (few (ln (ap (ap d [3]) [4]))) (some [(aS .int (ap (ap d [3]) [4]))])) (some [(aS .int (ap d [3]))])) (some [(aS .int (ap d [3]))]))) (cond c (cond a (oN (few (ln (ap d [4]))) (some [(aS .int (ap d [4]))])) (some [l])) (some [l]))) (cond c (cond a (oN (few (ln (ap d [4]))) (some [(aS .int (ap d [4]))])) (some [l])) (some [l])))) (cond a (cond (nB b.Open) (oN (few (ln f)) (cond c (cond a (oN (few (ln (ap f [4]))) (some [(aS .int (ap f [4]))])) (some [(aS .int f)])) (some [(aS .int f)]))) (cond c (cond a (oN (few (ln j)) (some [(aS .int j)])) (some [h])) (some [h]))) (cond c (cond a (oN (few (ln j)) (some [(aS .int j)])) (some [h])) (some [h])))))) (oN (zN b.Post 0 255) (cond (nB (zQ b.Post 0 255)) (oN (few (ln (ap [] [2]))) (cond a (cond (nB b.Open) (oN (few (ln g)) (cond c (cond a (oN (few (ln (ap g [4]))) (some [(aS .int (ap g [4]))])) (some [(aS .int g)])) (some [(aS .int g)]))) (cond c (cond a (oN (few (ln k)) (some [(aS .int k)])) (some [i])) (some [i]))) (cond c (cond a (oN (few (ln k)) (some [(aS .int k)])) (some [i])) (some [i])))) (cond a (cond (nB b.Open) (oN (few (ln (ap [] [3]))) (cond c (cond a (oN (few (ln (ap (ap [] [3]) [4]))) (some [(aS .int (ap (ap [] [3]) [4]))])) (some [(aS .int (ap [] [3]))])) (some [(aS .int (ap [] [3]))]))) (cond c (cond a (oN (few (ln (ap [] [4]))) (some [(aS .int (ap [] [4]))])) (some [e])) (some [e]))) (cond c (cond a (oN (few (ln (ap [] [4]))) (some [(aS .int (ap [] [4]))])) (some [e])) (some [e])))))))
theorem zO2 (a:Ctl)(b:zui a=true):∃N,zC4 N a=some [aS .int (znI a)]:=by
 refine⟨0,?_⟩;unfold zC4 oN nB;conv=>zeta
 refine must rfl (brN (fun _=>mu (must rfl (brN (fun _=>mu (br (fun _=>brN (fun _=>mu (br (fun _=>br (fun _=>mu ?_) (fun _=>?_)) (fun _=>?_))) (fun _=>br (fun _=>br (fun _=>mu ?_) (fun _=>?_)) (fun _=>?_))) (fun _=>br (fun _=>br (fun _=>mu ?_) (fun _=>?_)) (fun _=>?_)))) (fun _=>br (fun _=>brN (fun _=>mu (br (fun _=>br (fun _=>mu ?_) (fun _=>?_)) (fun _=>?_))) (fun _=>br (fun _=>br (fun _=>mu ?_) (fun _=>?_)) (fun _=>?_))) (fun _=>br (fun _=>br (fun _=>mu ?_) (fun _=>?_)) (fun _=>?_)))))) (fun _=>must rfl (brN (fun _=>mu (br (fun _=>brN (fun _=>mu (br (fun _=>br (fun _=>mu ?_) (fun _=>?_)) (fun _=>?_))) (fun _=>br (fun _=>br (fun _=>mu ?_) (fun _=>?_)) (fun _=>?_))) (fun _=>br (fun _=>br (fun _=>mu ?_) (fun _=>?_)) (fun _=>?_)))) (fun _=>br (fun _=>brN (fun _=>mu (br (fun _=>br (fun _=>mu ?_) (fun _=>?_)) (fun _=>?_))) (fun _=>br (fun _=>br (fun _=>mu ?_) (fun _=>?_)) (fun _=>?_))) (fun _=>br (fun _=>br (fun _=>mu ?_) (fun _=>?_)) (fun _=>?_))))));all_goals first|rfl|(simp only [*,znI,zlG,cT,cF]<;>rfl)|simp_all[Ty.cells,znI,zlG]
theorem zH5:vM 266 zxV:=kF1 zgP zx zy zn (zq []) zO2
@[simp] abbrev ztQ (c:Ctl):Bool:=true
@[simp] abbrev znt (c:Ctl):List Int:=zlG c
def zxK:Run:=rF1 dC fun b=>(ztQ b,[aS .int (znt b)])
def zCT (N:Nat)(b:Ctl):OA:=
 let e:=(aS .int []);let k:=(ap (ap [] [2]) [4]);let j:=(ap (ap [] [1]) [4]);let i:=(aS .int (ap [] [2]));let h:=(aS .int (ap [] [1]));let g:=(ap (ap [] [2]) [3]);let f:=(ap (ap [] [1]) [3]);let c:=(ieq b.Traps 2);let a:=(ine b.Post 0);let d:=(ap (ap [] [1]) [2]);let l:=(aS .int d); (oN (zbY b.Traps 0 3) (cond (nB (zcj b.Traps 0 3)) (oN (few (ln (ap [] [1]))) (oN (zbY b.Post 0 255) (cond (nB (zcj b.Post 0 255)) (oN (few (ln d)) (cond a (cond (nB b.Open) (oN (few (ln (ap d [3]))) (cond c (cond a (oN (few (ln (ap (ap d [3]) [4]))) (some [(aS .int (ap (ap d [3]) [4]))])) (some [(aS .int (ap d [3]))])) (some [(aS .int (ap d [3]))]))) (cond c (cond a (oN (few (ln (ap d [4]))) (some [(aS .int (ap d [4]))])) (some [l])) (some [l]))) (cond c (cond a (oN (few (ln (ap d [4]))) (some [(aS .int (ap d [4]))])) (some [l])) (some [l])))) (cond a (cond (nB b.Open) (oN (few (ln f)) (cond c (cond a (oN (few (ln (ap f [4]))) (some [(aS .int (ap f [4]))])) (some [(aS .int f)])) (some [(aS .int f)]))) (cond c (cond a (oN (few (ln j)) (some [(aS .int j)])) (some [h])) (some [h]))) (cond c (cond a (oN (few (ln j)) (some [(aS .int j)])) (some [h])) (some [h])))))) (oN (zbY b.Post 0 255) (cond (nB (zcj b.Post 0 255)) (oN (few (ln (ap [] [2]))) (cond a (cond (nB b.Open) (oN (few (ln g)) (cond c (cond a (oN (few (ln (ap g [4]))) (some [(aS .int (ap g [4]))])) (some [(aS .int g)])) (some [(aS .int g)]))) (cond c (cond a (oN (few (ln k)) (some [(aS .int k)])) (some [i])) (some [i]))) (cond c (cond a (oN (few (ln k)) (some [(aS .int k)])) (some [i])) (some [i])))) (cond a (cond (nB b.Open) (oN (few (ln (ap [] [3]))) (cond c (cond a (oN (few (ln (ap (ap [] [3]) [4]))) (some [(aS .int (ap (ap [] [3]) [4]))])) (some [(aS .int (ap [] [3]))])) (some [(aS .int (ap [] [3]))]))) (cond c (cond a (oN (few (ln (ap [] [4]))) (some [(aS .int (ap [] [4]))])) (some [e])) (some [e]))) (cond c (cond a (oN (few (ln (ap [] [4]))) (some [(aS .int (ap [] [4]))])) (some [e])) (some [e])))))))
theorem zOQ (a:Ctl)(b:ztQ a=true):∃N,zCT N a=some [aS .int (znt a)]:=by
 refine⟨0,?_⟩;unfold zCT oN nB;conv=>zeta
 refine must rfl (brN (fun _=>mu (must rfl (brN (fun _=>mu (br (fun _=>brN (fun _=>mu (br (fun _=>br (fun _=>mu ?_) (fun _=>?_)) (fun _=>?_))) (fun _=>br (fun _=>br (fun _=>mu ?_) (fun _=>?_)) (fun _=>?_))) (fun _=>br (fun _=>br (fun _=>mu ?_) (fun _=>?_)) (fun _=>?_)))) (fun _=>br (fun _=>brN (fun _=>mu (br (fun _=>br (fun _=>mu ?_) (fun _=>?_)) (fun _=>?_))) (fun _=>br (fun _=>br (fun _=>mu ?_) (fun _=>?_)) (fun _=>?_))) (fun _=>br (fun _=>br (fun _=>mu ?_) (fun _=>?_)) (fun _=>?_)))))) (fun _=>must rfl (brN (fun _=>mu (br (fun _=>brN (fun _=>mu (br (fun _=>br (fun _=>mu ?_) (fun _=>?_)) (fun _=>?_))) (fun _=>br (fun _=>br (fun _=>mu ?_) (fun _=>?_)) (fun _=>?_))) (fun _=>br (fun _=>br (fun _=>mu ?_) (fun _=>?_)) (fun _=>?_)))) (fun _=>br (fun _=>brN (fun _=>mu (br (fun _=>br (fun _=>mu ?_) (fun _=>?_)) (fun _=>?_))) (fun _=>br (fun _=>br (fun _=>mu ?_) (fun _=>?_)) (fun _=>?_))) (fun _=>br (fun _=>br (fun _=>mu ?_) (fun _=>?_)) (fun _=>?_))))));all_goals first|rfl|(simp only [*,znt,zlG,cT,cF]<;>rfl)|simp_all[Ty.cells,znt,zlG]
theorem zHU:vM 265 zxK:=kF1 zgP zx zy zn (zq []) zOQ
def zgZ (p n:Int):Bool:=ieq (wand .i64 (zHc .i64 p n) 1) 1
def scan (p:Int):Int:=bif zgZ p 7 then 7 else (cond (zgZ p 6) 6 (cond (zgZ p 5) 5 (cond (zgZ p 4) 4 (cond (zgZ p 3) 3 (cond (zgZ p 2) 2 (cond (zgZ p 1) 1 (cond (zgZ p 0) 0 (-1))))))))
theorem zbad:∀n:Fin 256,-1<=scan (n.val:Int)/\scan (n.val:Int)<=7/\(0<=scan (n.val:Int)->wsub .i64 (n.val:Int) (zoZ .i64 1 (scan (n.val:Int)))=zQk .i64 (n.val:Int) (zoZ .i64 1 (scan (n.val:Int)))):=by decide +kernel
theorem z7j {P:Int->Prop}(h:∀n:Fin 256,P (n.val:Int)){x:Int}(a:0<=x)(b:x<=255):P x:=by have:=h ⟨x.toNat,by omega⟩;have e:((x.toNat:Nat):Int)=x:=(by omega);simpa [e] using this
def zbbk:zW:=[(119,zGj),(288,zDO),(306,zDw),(287,zGu),(305,zF9),(330,zJ6),(329,zJW),(320,zGl),(312,zF2),(266,zxV),(265,zxK)]++zbbj
theorem zhw:zL zbbk:=zh zQV (zh zOn (zh zN5 (zh zQ6 (zh zQL (zh zUB (zh zUq (zh zQX (zh zQE (zh zH5 (zh zHU zgP))))))))))
def zhP (m:List (List Int))(n:Int):Bool:=bif m.all zcn then ieq (ln m) n else false
@[simp] abbrev zty (m:List (List Int))(n:Int):Bool:=true
@[simp] abbrev zm3 (m:List (List Int))(n:Int):Bool:=zhP m n
def zJ7:Run:=rF2 (dS (.sl .int)) dI fun b c=>(zty b c,[aB (zm3 b c)])
def zTa (N:Nat)(c:lM)(d:Int):OA:=
 (iter (σ:=(Int×(Int×(lM×Unit)))) N (fun e a=>let b:=a.2.2.1; (cond (ilt a.2.1 (ln b)) (oN (inb a.2.1 (ln b)) (oN (zgi (ix b a.2.1 [])) (cond (nB (zfF (ix b a.2.1 []))) oF (e (a.1,((zM .i64 a.2.1 1),(b,()))))))) (some [(aB (ieq (ln b) a.1))]))) (d,(0,(c,()))))
def z1H:FuncId->Nat->Option Tmpl:=zq [(226,0,{n:=22,tm:=[(0,.sl 0 []),(1,ti),(5,ti)],lo:=[],ro:=[(0,(.sl .int),false)]})]
theorem z0K (a:List (List Int))(c:Int)(h:zci big [aS (.sl .int) a,aI c])(k:zty a c=true):∃N,zTa N a c=some [aB (zm3 a c)]:=by
 have g:(_:List _).length<=big:=((zc8 h).1 _ (qF.2 rfl)).len;refine zcp fun N f=>?_;unfold zTa oN nB;conv=>zeta
 refine(zbo a (fun i (t:Unit)=>(c,(i:Int),a,())) _ (fun _ x (_:Unit) j=>bif (zcn) x then j () else oF) (fun (t:Unit)=>(some [(.one (.b (ieq (ln a) c)))])) (fun i d t rec=>?_) (fun t rec=>?_) _ () (f g)).trans ?_;{simp only [zbG d,zbi d,zbp d,zbj d g,cT];exact ziM rfl};{simp only [zbw,cF]};rw[zgG (zcn)];refine br (fun e=>?_) (fun e=>?_);{first|rfl|(simp only [e,zm3,zhP,cT,cF]<;>rfl)|(simp_all [Ty.cells,zm3,zhP];done)};{first|rfl|(simp only [e,zm3,zhP,cT,cF]<;>rfl)|(simp_all [Ty.cells,zm3,zhP];done)}
theorem zUC:vM 226 zJ7:=hF2 zhw zx zy zn z1H z0K
@[simp] abbrev ztj (m:List (List Int))(n:Int):Bool:=true
@[simp] abbrev zmJ (m:List (List Int))(n:Int):Bool:=zhP m n
def zJX:Run:=rF2 (dS (.sl .int)) dI fun b c=>(ztj b c,[aB (zmJ b c)])
def zS0 (N:Nat)(c:lM)(d:Int):OA:=
 (iter (σ:=(Int×(Int×(Int×(lM×Unit))))) N (fun e a=>let b:=a.2.2.2.1; (cond (ilt a.2.2.1 a.2.1) (oN (inb a.2.2.1 (ln b)) (oN (zih (ix b a.2.2.1 [])) (cond (nB (zgR (ix b a.2.2.1 []))) oF (e (a.1,(a.2.1,((zM .i64 a.2.2.1 1),(b,())))))))) (some [(aB (ieq (ln b) a.1))]))) (d,((ln c),(0,(c,())))))
def z1F:FuncId->Nat->Option Tmpl:=zq [(252,0,{n:=21,tm:=[(0,.sl 0 []),(1,ti),(7,.sl 0 []),(8,ti),(9,ti)],lo:=[],ro:=[(0,(.sl .int),false)]})]
theorem z0z (a:List (List Int))(c:Int)(h:zci big [aS (.sl .int) a,aI c])(k:ztj a c=true):∃N,zS0 N a c=some [aB (zmJ a c)]:=by
 have g:(_:List _).length<=big:=((zc8 h).1 _ (qF.2 rfl)).len;refine zcp fun N f=>?_;unfold zS0 oN nB;conv=>zeta
 refine(zbo a (fun i (t:Unit)=>(c,(ln a),(i:Int),a,())) _ (fun _ x (_:Unit) j=>bif (zcn) x then j () else oF) (fun (t:Unit)=>(some [(.one (.b (ieq (ln a) c)))])) (fun i d t rec=>?_) (fun t rec=>?_) _ () (f g)).trans ?_;{simp only [zbG d,zbi d,zbp d,zbj d g,cT];exact ziM rfl};{simp only [zbw,cF]};rw[zgG (zcn)];refine br (fun e=>?_) (fun e=>?_);{first|rfl|(simp only [e,zmJ,zhP,cT,cF]<;>rfl)|(simp_all [Ty.cells,zmJ,zhP];done)};{first|rfl|(simp only [e,zmJ,zhP,cT,cF]<;>rfl)|(simp_all [Ty.cells,zmJ,zhP];done)}
theorem zUr:vM 252 zJX:=hF2 zhw zx zy zn z1F z0z
def zc6 (p:List Ins):Bool:=bif p.all zdO then win (ln p) 1 12 else false
@[simp] abbrev zCs (p:List Ins):Bool:=true
@[simp] abbrev zoQ (p:List Ins):Bool:=zc6 p
def zGw:Run:=rF1 (dS .ins) fun b=>(zCs b,[aB (zoQ b)])
def zNd (N:Nat)(c:lI):OA:=
 (iter (σ:=(Int×(lI×Unit))) N (fun d a=>let b:=(ix a.2.1 a.1 zyH); (cond (ilt a.1 (ln a.2.1)) (oN (inb a.1 (ln a.2.1)) (oN (zGQ b) (cond (nB (zA1 b)) oF (d ((zM .i64 a.1 1),(a.2.1,())))))) (oN (zN (ln a.2.1) 1 12) (some [(aB (zQ (ln a.2.1) 1 12))])))) (0,(c,())))
def zZO:FuncId->Nat->Option Tmpl:=zq [(319,0,{n:=19,tm:=[(0,.sl 0 []),(3,ti)],lo:=[],ro:=[(0,.ins,false)]})]
theorem zX8 (a:List Ins)(g:zci big [aS .ins a])(j:zCs a=true):∃N,zNd N a=some [aB (zoQ a)]:=by
 have f:(_:List _).length<=big:=((zc8 g).1 _ (qF.2 rfl)).len;refine zcp fun N e=>?_;unfold zNd oN nB;conv=>zeta
 refine(zbo a (fun i (t:Unit)=>((i:Int),a,())) _ (fun _ x (_:Unit) h=>bif (zdO) x then h () else oF) (fun (t:Unit)=>(cond (zN (ln a) 1 12) (some [(.one (.b (zQ (ln a) 1 12)))]) none)) (fun i c t rec=>?_) (fun t rec=>?_) _ () (e f)).trans ?_;{simp only [zbG c,zbi c,zbp c,zbj c f,cT];exact ziM rfl};{simp only [zbw,cF]};rw[zgG (zdO)];refine br (fun d=>?_) (fun d=>?_);{refine must rfl ?_;first|rfl|(simp only [d,zoQ,zc6,cT,cF]<;>rfl)|(simp_all [Ty.cells,zoQ,zc6];done)};{first|rfl|(simp only [d,zoQ,zc6,cT,cF]<;>rfl)|(simp_all [Ty.cells,zoQ,zc6];done)}
theorem zQ8:vM 319 zGw:=hF1 zhw zx zy zn zZO zX8
@[simp] abbrev zBY (p:List Ins):Bool:=true
@[simp] abbrev zou (p:List Ins):Bool:=zc6 p
def zGb:Run:=rF1 (dS .ins) fun b=>(zBY b,[aB (zou b)])
def zMR (N:Nat)(b:lI):OA:=
 (iter (σ:=(Int×(Int×(lI×Unit)))) N (fun d a=>let c:=(ix a.2.2.1 a.2.1 zyH); (cond (ilt a.2.1 a.1) (oN (inb a.2.1 (ln a.2.2.1)) (oN (zFx c) (cond (nB (zz8 c)) oF (d (a.1,((zM .i64 a.2.1 1),(a.2.2.1,()))))))) (oN (zbY (ln a.2.2.1) 1 12) (some [(aB (zcj (ln a.2.2.1) 1 12))])))) ((ln b),(0,(b,()))))
def zZF:FuncId->Nat->Option Tmpl:=zq [(311,0,{n:=18,tm:=[(0,.sl 0 []),(5,.sl 0 []),(6,ti),(7,ti)],lo:=[],ro:=[(0,.ins,false)]})]
theorem zXK (a:List Ins)(g:zci big [aS .ins a])(j:zBY a=true):∃N,zMR N a=some [aB (zou a)]:=by
 have f:(_:List _).length<=big:=((zc8 g).1 _ (qF.2 rfl)).len;refine zcp fun N e=>?_;unfold zMR oN nB;conv=>zeta
 refine(zbo a (fun i (t:Unit)=>((ln a),(i:Int),a,())) _ (fun _ x (_:Unit) h=>bif (zdO) x then h () else oF) (fun (t:Unit)=>(cond (zbY (ln a) 1 12) (some [(.one (.b (zcj (ln a) 1 12)))]) none)) (fun i c t rec=>?_) (fun t rec=>?_) _ () (e f)).trans ?_;{simp only [zbG c,zbi c,zbp c,zbj c f,cT];exact ziM rfl};{simp only [zbw,cF]};rw[zgG (zdO)];refine br (fun d=>?_) (fun d=>?_);{refine must rfl ?_;first|rfl|(simp only [d,zou,zc6,cT,cF]<;>rfl)|(simp_all [Ty.cells,zou,zc6];done)};{first|rfl|(simp only [d,zou,zc6,cT,cF]<;>rfl)|(simp_all [Ty.cells,zou,zc6];done)}
theorem zQN:vM 311 zGb:=hF1 zhw zx zy zn zZF zXK
def zgE (c:Ctl):Bool:=ieq (ln (zlG c)) 0
@[simp] abbrev ztt (c:Ctl):Bool:=true
@[simp] abbrev zrz (c:Ctl):Bool:=zgE c
def zJ3:Run:=rF1 dC fun b=>(ztt b,[aB (zrz b)])
def zS6 (N:Nat)(a:Ctl):OA:=
 (oN (zui a) (some [(aB (ieq (ln (znI a)) 0))]))
theorem z0G (a:Ctl)(b:ztt a=true):∃N,zS6 N a=some [aB (zrz a)]:=by refine⟨0,?_⟩;unfold zS6 oN;refine must rfl ?_;first|rfl|(simp only [*,zrz,zgE,cT,cF]<;>rfl)|simp_all[Ty.cells,zrz,zgE]
theorem zUy:vM 192 zJ3:=kF1 zhw zx zy zn (zq []) z0G
@[simp] abbrev zxv (c:Ctl):Bool:=true
@[simp] abbrev zvh (c:Ctl):Bool:=zgE c
def zJV:Run:=rF1 dC fun b=>(zxv b,[aB (zvh b)])
def zSY (N:Nat)(a:Ctl):OA:=
 (oN (ztQ a) (some [(aB (ieq (ln (znt a)) 0))]))
theorem z0x (a:Ctl)(b:zxv a=true):∃N,zSY N a=some [aB (zvh a)]:=by refine⟨0,?_⟩;unfold zSY oN;refine must rfl ?_;first|rfl|(simp only [*,zvh,zgE,cT,cF]<;>rfl)|simp_all[Ty.cells,zvh,zgE]
theorem zUp:vM 190 zJV:=kF1 zhw zx zy zn (zq []) z0x
def zdQ (p:Int):Int:=bif zc5 p then scan p else -1
theorem z2M {x:Int}(a:0<=x)(b:x<=255):wcv .u64 x=x:=z7j (P:=fun x=>wcv .u64 x=x) (by decide +kernel) a b
@[simp] abbrev zu3 (p:Int):Bool:=true
@[simp] abbrev zoR (p:Int):Int:=zdQ p
def zGA:Run:=rF1 dI fun b=>(zu3 b,[aI (zoR b)])
def zNi (N:Nat)(b:Int):OA:=
 (iter (σ:=(Int×(Int×Unit))) N (fun c a=>(cond (ige a.2.1 0) (oN (zfH a.1) (cond (zfG a.1) (oN (ile 0 (wcv .u64 a.2.1)) (cond (ieq (wand .i64 (zHc .i64 a.1 (wcv .u64 a.2.1)) 1) 1) (some [(aI a.2.1)]) (c (a.1,((wsub .i64 a.2.1 1),()))))) (some [(aI (-1))]))) (some [(aI (-1))]))) (b,(7,())))
def zZQ:FuncId->Nat->Option Tmpl:=zq [(297,0,{n:=19,tm:=[(0,ti),(3,ti)],lo:=[],ro:=[]})]
theorem zYd (a:Int)(C:zu3 a=true):∃N,zNi N a=some [aI (zoR a)]:=by refine⟨10,?_⟩;unfold zNi oN;cases h:zc5 a;{rw [zdr];refine must rfl ?_;refine must rfl ?_;refine zdH h ?_;simp[zdQ,h]};{have c:zfG a=true:=h;rw[zdr];refine must rfl (must rfl (must c (must rfl (br (fun r=>?_) (fun r=>?_)))));{have A:zgZ a 7=true:=r;simp[zdQ,h,scan,A]};have b:zgZ a 7=false:=r;show iter 9 _ (a,6,())=_;rw[zdr];refine must rfl (must rfl (must c (must rfl (br (fun q=>?_) (fun q=>?_)))));{have z:zgZ a 6=true:=q;simp[zdQ,h,scan,z,b]};have d:zgZ a 6=false:=q;show iter 8 _ (a,5,())=_;rw[zdr];refine must rfl (must rfl (must c (must rfl (br (fun p=>?_) (fun p=>?_)))));{have y:zgZ a 5=true:=p;simp[zdQ,h,scan,y,b,d]};have e:zgZ a 5=false:=p;show iter 7 _ (a,4,())=_;rw[zdr];refine must rfl (must rfl (must c (must rfl (br (fun n=>?_) (fun n=>?_)))));{have x:zgZ a 4=true:=n;simp[zdQ,h,scan,x,b,d,e]};have f:zgZ a 4=false:=n;show iter 6 _ (a,3,())=_;rw[zdr];refine must rfl (must rfl (must c (must rfl (br (fun m=>?_) (fun m=>?_)))));{have w:zgZ a 3=true:=m;simp[zdQ,h,scan,w,b,d,e,f]};have g:zgZ a 3=false:=m;show iter 5 _ (a,2,())=_;rw[zdr];refine must rfl (must rfl (must c (must rfl (br (fun l=>?_) (fun l=>?_)))));{have v:zgZ a 2=true:=l;simp[zdQ,h,scan,v,b,d,e,f,g]};have i:zgZ a 2=false:=l;show iter 4 _ (a,1,())=_;rw[zdr];refine must rfl (must rfl (must c (must rfl (br (fun k=>?_) (fun k=>?_)))));{have u:zgZ a 1=true:=k;simp[zdQ,h,scan,u,b,d,e,f,g,i]};have s:zgZ a 1=false:=k;show iter 3 _ (a,0,())=_;rw[zdr];refine must rfl (must rfl (must c (must rfl (br (fun j=>?_) (fun j=>?_)))));{have t:zgZ a 0=true:=j;simp[zdQ,h,scan,t,b,d,e,f,g,i,s]};have B:zgZ a 0=false:=j;show iter 2 _ (a,-1,())=_;rw[zdr];refine zdH rfl ?_;simp[zdQ,h,scan,b,d,e,f,g,i,s,B]}
theorem zRc:vM 297 zGA:=kF1 zhw zx zy zn zZQ zYd
theorem zbL {c:Cur}{i k:Int}(h:zbd c)(a:0<=i):zbd ⟨c.b,i,k⟩:=⟨a,h.2⟩
theorem z2r {c:Cur}(h:zbd c){l:List Int}(a:l≠[]):zbh c l∈l:=(zA3 (zd2 h a)).2.2 (kR.2 a)
theorem zfZ {c:Cur}(h:zbd c){n:Int}(a:0<n):0<=zk c n/\zk c n<n:=(zhI (zbz h n)).2.2 a
theorem zOM {o x:Int}(h:(o=1\/o=2\/o=5\/o=6)/\0<=x/\x<=99\/(o=3\/o=4)/\0<=x/\x<=15\/o=8/\0<=x/\x<=11):zdO ⟨o,x⟩=true:=by have w:∀{a b:Int},a<=x->x<=b->win x a b=true:=fun c d=>(by simp only[win,ige,ile,qD,qX];exact⟨c,d⟩);rcases h with⟨h|h|h|h,c,d⟩|⟨h|h,c,d⟩|⟨h,c,d⟩<;>subst h<;>exact w c d
def zBi (N:Nat)(c:Cur)  : OA :=
 let d:=(zbh c [1,2,3,3,3,4,4,4,5,6,8]);let a:=({ (zV c [1,2,3,3,3,4,4,4,5,6,8]) with b:=c.b}:Cur); (share (oN (zA a 16) (some [(.agg [(.s .u8 c.b),(.i .i64 (zf a 16).i),(.i .i64 (zf a 16).h)]),(.agg [(.i .i64 d),(.i .i64 (zk a 16))])])) (fun f=>(share (cond (ieq d 8) (oN (zA a 4) (some [(.agg [(.s .u8 c.b),(.i .i64 (zf a 4).i),(.i .i64 (zf a 4).h)]),(.agg [(.i .i64 d),(.i .i64 (zk a 4))])])) (oN (zA a 100) (some [(.agg [(.s .u8 c.b),(.i .i64 (zf a 100).i),(.i .i64 (zf a 100).h)]),(.agg [(.i .i64 d),(.i .i64 (zk a 100))])]))) (fun e=>(oN (zbl c [1,2,3,3,3,4,4,4,5,6,8]) (cond (ieq d 3) (cond (ieq d 3) f e) (cond (ieq d 4) f e)))))))
def zsA (c:Cur)(s:Cur)(a:Ins):Prop:=(∃N,zBi N c=some (AV.agg (zbU s)::[aT .ins a]))/\(s.b=c.b/\0<=s.i)/\(zdO a=true)
def zkg (c:Cur)  : Bool:=wC (zsA c)
def zgm (c:Cur)  : Cur:=wS (zsA c)
def zgc (c:Cur)  : Ins:=wV (zsA c)
theorem zPJ {c:Cur}(h:zkg c=true):zsA c (zgm c) (zgc c):=wG h
theorem zCy (c:Cur)  : 0<=(zgm c).i:=wP fun h=>h.2.1.2
theorem z4E (c:Cur)(h:∃N,Ends (wE (fun a=>aT .ins a) c.b fun a=>zdO a=true) (zBi N c)):zkg c=true:=wI (fun _ _ h=>h) h
def zDj:zdk:=rP0 fun c=>(zkg c,zgm c,[aT .ins (zgc c)])
theorem zRi:zbM Tryz.prog 304 [false,true,true] zDj:=hP0 zdw zU zYE zn (zq []) (fun _ h=>(zPJ h).1)
theorem zV8 {c:Cur}(h:zbd c):zkg c=true:=by
 refine z4E c ⟨0,?_⟩;have p:([1,2,3,3,3,4,4,4,5,6,8]:List Int)≠[]:=(by simp);have q:=z2r h p;have f:zbd {zV c [1,2,3,3,3,4,4,4,5,6,8] with b:=c.b}:=zbL h (zbO _ _);have t:=zfZ f (n:=16) (by omega);have w:=zfZ f (n:=4) (by omega);have m:=zfZ f (n:=100) (by omega);unfold zBi oN;conv=>zeta
 generalize zbh c [1,2,3,3,3,4,4,4,5,6,8]=o at q;simp only[qG,qN,or_false]at q;have j:∀{n:Int},ieq o n=false->o≠n:=fun h e=>(by subst e;simp[ieq]at h);have k:∀{n:Int},ieq o n=true->o=n:=fun h=>by simpa [ieq] using h
 have L:∀(n:Int),0<n->(zdO ⟨o,zk {zV c [1,2,3,3,3,4,4,4,5,6,8] with b:=c.b} n⟩=true)->Ends (fun a=>∃s r,a=(AV.agg (zbU s)::[aT .ins r])/\(s.b=c.b/\0<=s.i)/\zdO r=true)
  (cond (zA {zV c [1,2,3,3,3,4,4,4,5,6,8] with b:=c.b} n) (some (AV.agg [.s .u8 c.b,.i .i64 (zf {zV c [1,2,3,3,3,4,4,4,5,6,8] with b:=c.b} n).i,.i .i64 (zf {zV c [1,2,3,3,3,4,4,4,5,6,8] with b:=c.b} n).h]::[.agg [.i .i64 o,.i .i64 (zk {zV c [1,2,3,3,3,4,4,4,5,6,8] with b:=c.b} n)]])) none):=
  fun n x u=>zo (zbz f n) (zbB (aT .ins) (v:=⟨o,zk _ n⟩) (zF _ _) u)
 refine zo (zd2 h p) (zbC (fun g=>zbC (fun _=>L 16 (by omega) (zOM ?_)) (fun d=>absurd (k g) (j d))) (fun g=>zbC (fun d=>L 16 (by omega) (zOM ?_)) (fun d=>zbC (fun l=>L 4 (by omega) (zOM ?_)) (fun l=>L 100 (by omega) (zOM ?_)))));{have:=k g;omega};{have:=k d;omega};{have:=k l;omega};{have:=j g;have:=j d;have:=j l;omega}
def zbbO:zcL:=[(304,([false,true,true],zDj))]++zbbN
theorem zYF:zb8 zbbO:=zcr zYE (by
 intro x a;simp only[qG,qN,or_false]at a;rcases a with rfl
 .exact zRi)
theorem zhv {x y:Int}(a:0<=x)(b:x<=1000000)(c:0<=y)(d:y<=1000000):zM .i64 x y=x+y:=zvp (by omega) (by omega)
theorem zlL {a:Type}{l:List a}(h:ln l<=1000000):few (ln l)=true:=qJ ⟨by unfold ln;omega,by omega⟩
theorem zhO {a:Type}(l:List a)(x:a):ln (ap l [x])=ln l+1:=by simp[ln,ap]
def zyN (N:Nat)(c:Cur)  : OA :=
 (iter (σ:=(Int×(Int×(Int×(lI×((List Int)×Unit)))))) N (fun j d=>let e:=d.2.2.2.1;let f:=d.2.2.2.2.1;let g:=(⟨f,d.2.1,d.2.2.1⟩:Cur);let a:=({ (zf g 7) with b:=f}:Cur); (oN (zA g 7) (cond (ilt d.1 (zM .i64 2 (zk g 7))) (oN (zkg a) (oN (few (ln (ap e [(zgc a)]))) (j ((zM .i64 d.1 1),((zgm a).i,((zgm a).h,((ap e [(zgc a)]),(f,())))))))) (oN (zcI a 3) (cond (zcT a 3) (oN (few (ln (ap e [(⟨7,0⟩:Ins)]))) (some [(.agg [(.s .u8 f),(.i .i64 (zO a 3).i),(.i .i64 (zO a 3).h)]),(aS .ins (ap e [(⟨7,0⟩:Ins)]))])) (oN (few (ln (ap e [(⟨8,0⟩:Ins)]))) (some [(.agg [(.s .u8 f),(.i .i64 (zO a 3).i),(.i .i64 (zO a 3).h)]),(aS .ins (ap e [(⟨8,0⟩:Ins)]))]))))))) (0,(c.i,(c.h,([],(c.b,()))))))
def zVX:FuncId->Nat->Option Tmpl:=zq [(302,0,{n:=29,tm:=[(0,.lp 0 0),(3,.sl 0 []),(4,ti)],lo:=[(0,[.sl 1 [],ti,ti])],ro:=[(0,.ins,true),(1,.u8,false)]})]
def zqu (c:Cur)(s:Cur)(a:List Ins):Prop:=(∃N,zyN N c=some (AV.agg (zbU s)::[aS .ins a]))/\(s.b=c.b/\0<=s.i)/\(zc6 a=true)
def zhe (c:Cur)  : Bool:=wC (zqu c)
def zba (c:Cur)  : Cur:=wS (zqu c)
def zb4 (c:Cur)  : List Ins:=wV (zqu c)
theorem zsB {c:Cur}(h:zhe c=true):zqu c (zba c) (zb4 c):=wG h
theorem zi7 (c:Cur)  : 0<=(zba c).i:=wP fun h=>h.2.1.2
theorem z1j (c:Cur)(h:∃N,Ends (wE (fun a=>aS .ins a) c.b fun a=>zc6 a=true) (zyN N c)):zhe c=true:=wI (fun _ _ h=>h) h
def zAo:zdk:=rP0 fun c=>(zhe c,zba c,[aS .ins (zb4 c)])
theorem zOw:zbM Tryz.prog 302 [false,true,true] zAo:=hP0 zdw zU zYF zn zVX (fun _ h=>(zsB h).1)
theorem zFU {c:Cur}(h:zbd c):zhe c=true:=by
 refine z1j c ⟨9,?_⟩;unfold zyN oN;conv=>zeta
 refine zns (fun n s=>s.1+(n:Int)=8/\0<=s.1/\0<=s.2.1/\(∀x∈s.2.2.2.1,zdO x=true)/\ln s.2.2.2.1=s.1/\s.2.2.2.2.1=c.b) ?_ 9 8 _ ⟨rfl,kS 0,h.1,by simp,rfl,rfl⟩ (by omega);rintro n ⟨t,i,k,l,b,u⟩ rec ⟨B,g,v,j,w,z⟩ f;dsimp only at B g v j w z ⊢;subst z;have a:zbd ⟨c.b,i,k⟩:=zbL h v;have d:=zfZ a (n:=7) (by omega);have A:=zhv (x:=2) (by omega) (by omega) d.1 (by omega);have m:zbd {zf ⟨c.b,i,k⟩ 7 with b:=c.b}:=zbL h (zF _ _);have e:∀(y:Ins),zdO y=true->2<=t->zc6 (ap l [y])=true:=(by intro y C D;unfold zc6;rw[zhO,w];have:(ap l [y]).all zdO=true:=(by simp only[ap,List.all_append,kW,List.all_nil,vC,qD];exact⟨qL.2 j,C⟩);rw[this,cT];simp only[win,ige,ile,qD,qX];omega);refine zo (zbz a 7) (zbC (fun p=>?_) (fun p=>?_));{have r:t<zM .i64 2 (zk ⟨c.b,i,k⟩ 7):=qE p;rw[A]at r;refine zo (zV8 m) (zo (zlL (by rw[zhO];omega)) (f (n-1) _ (by omega) ⟨?_,?_,zCy _,?_,?_,rfl⟩));{show zM .i64 t 1+_=8;rw[zhv g (by omega) (by omega) (by omega)];omega};{show 0<=zM .i64 t 1;rw[zhv g (by omega) (by omega) (by omega)];omega};{intro x d;rcases jJ.1 d with d|d;{exact j x d};{rw [qF.1 d];exact(zPJ (zV8 m)).2.2}};{show ln (ap l [_])=zM .i64 t 1;rw[zhO,zhv g (by omega) (by omega) (by omega)];omega}};{have q:¬ t<zM .i64 2 (zk ⟨c.b,i,k⟩ 7):=jV p;rw[A]at q;refine zo (zio m 3) (zbC (fun _=>zo (zlL (by rw[zhO];omega)) (zbB (aS .ins) (zb7 _ _) (e _ rfl (by omega)))) (fun _=>zo (zlL (by rw[zhO];omega)) (zbB (aS .ins) (zb7 _ _) (e _ rfl (by omega)))))}
def zbbP:zcL:=[(302,([false,true,true],zAo))]++zbbO
theorem zYG:zb8 zbbP:=zcr zYF (by
 intro x a;simp only[qG,qN,or_false]at a;rcases a with rfl
 .exact zOw)
theorem zZZ {f:Type}{c:Cur}(h:zbd c){P:f->Prop}{fc:Cur->Bool}{fs:Cur->Cur}{fv:Cur->f}(C:∀{c:Cur},zbd c->fc c=true)(D:∀c,0<=(fs c).i)(hg:∀{c:Cur},zbd c->P (fv c)){G:Ans->Prop}{R:Cur->List f->Ans}(B:∀s l,s.b=c.b->0<=s.i->1<=l.length->l.length<=2->(∀x∈l,P x)->G (R s l)){F:(Int×Int×Int×List f×List Int×Unit->OA)->Int×Int×Int×List f×List Int×Unit->OA}(A:∀rec t i k l,F rec (t,i,k,l,c.b,())=bif zA ⟨c.b,i,k⟩ 2 then (bif ilt t (zM .i64 1 (zk ⟨c.b,i,k⟩ 2)) then (bif fc { zf ⟨c.b,i,k⟩ 2 with b:=c.b } then (bif few (ln (ap l [fv { zf ⟨c.b,i,k⟩ 2 with b:=c.b }])) then
        rec (zM .i64 t 1,(fs {zf ⟨c.b,i,k⟩ 2 with b:=c.b}).i,(fs {zf ⟨c.b,i,k⟩ 2 with b:=c.b}).h,ap l [fv {zf ⟨c.b,i,k⟩ 2 with b:=c.b}],c.b,()) else none) else none) else some (R ⟨c.b,(zf ⟨c.b,i,k⟩ 2).i,(zf ⟨c.b,i,k⟩ 2).h⟩ l)) else none) :
 Ends G (iter 3 F (0,c.i,c.h,[],c.b,())):=by
 refine zns (fun n s=>s.1+(n:Int)=2/\0<=s.1/\0<=s.2.1/\(∀x∈s.2.2.2.1,P x)/\ln s.2.2.2.1=s.1/\s.2.2.2.2.1=c.b) ?_ 3 2 _ ⟨rfl,kS 0,h.1,by simp,rfl,rfl⟩ (by omega)
 rintro n ⟨t,i,k,l,b,u⟩ rec ⟨z,m,p,g,q,r⟩ e
 dsimp only at z m p g q r
 subst r;rw[A];have a:zbd ⟨c.b,i,k⟩:=zbL h p;have d:=zfZ a (n:=2) (by omega)
 have w:=zhv (x:=1) (by omega) (by omega) d.1 (by omega)
 have v:zbd {zf ⟨c.b,i,k⟩ 2 with b:=c.b}:=zbL h (zF _ _);refine zo (zbz a 2) (zbC (fun j=>?_) (fun j=>?_))
 .have hlt:t<zM .i64 1 (zk ⟨c.b,i,k⟩ 2):=qE j;rw[w]at hlt;have E:=zhv (y:=1) m (by omega) (by omega) (by omega)
  refine zo (C v) (zo (zlL (by rw[zhO];omega)) (e (n-1) _ (by omega) ⟨?_,?_,D _,?_,?_,rfl⟩))
  .show zM .i64 t 1+_=2
   omega
  .show 0<=zM .i64 t 1
   omega
  .intro x d;rcases jJ.1 d with d|d
   .exact g x d
   .rw [qF.1 d];exact hg v
  .show ln (ap l [_])=zM .i64 t 1
   rw[zhO];omega
 .have hge:¬ t<zM .i64 1 (zk ⟨c.b,i,k⟩ 2):=jV j;rw[w]at hge;unfold ln at q;exact zvI (B _ l rfl (zF _ _) (by omega) (by omega) g)
def zvx (N:Nat)(c:Cur)  : OA :=
 (iter (σ:=(Int×(Int×(Int×(lP×((List Int)×Unit)))))) N (fun g a=>let f:=a.2.2.2.2.1;let e:=(⟨f,a.2.1,a.2.2.1⟩:Cur);let d:=({ (zf e 2) with b:=f}:Cur); (oN (zA e 2) (cond (ilt a.1 (zM .i64 1 (zk e 2))) (oN (zhe d) (oN (few (ln (ap a.2.2.2.1 [(zb4 d)]))) (g ((zM .i64 a.1 1),((zba d).i,((zba d).h,((ap a.2.2.2.1 [(zb4 d)]),(f,())))))))) (some [(.agg [(.s .u8 f),(.i .i64 (zf e 2).i),(.i .i64 (zf e 2).h)]),(aS (.sl .ins) a.2.2.2.1)])))) (0,(c.i,(c.h,([],(c.b,()))))))
def zSQ:FuncId->Nat->Option Tmpl:=zq [(299,0,{n:=19,tm:=[(0,.lp 0 0),(3,.sl 0 []),(4,ti)],lo:=[(0,[.sl 1 [],ti,ti])],ro:=[(0,(.sl .ins),true),(1,.u8,false)]})]
def zok (c:Cur)(s:Cur)(a:List (List Ins)):Prop:=(∃N,zvx N c=some (AV.agg (zbU s)::[aS (.sl .ins) a]))/\(s.b=c.b/\0<=s.i)/\(1<=a.length/\a.length<=2/\∀x∈a,zc6 x=true)
def zjC (c:Cur)  : Bool:=wC (zok c)
def zjD (c:Cur)  : Cur:=wS (zok c)
def zqC (c:Cur)  : List (List Ins):=wV (zok c)
theorem zGV {c:Cur}(h:zjC c=true):zok c (zjD c) (zqC c):=wG h
theorem zZc (c:Cur)  : 0<=(zjD c).i:=wP fun h=>h.2.1.2
theorem zZb (c:Cur)(h:∃N,Ends (wE (fun a=>aS (.sl .ins) a) c.b fun a=>1<=a.length/\a.length<=2/\∀x∈a,zc6 x=true) (zvx N c)):zjC c=true:=wI (fun _ _ h=>h) h
def zxH:zdk:=rP0 fun c=>(zjC c,zjD c,[aS (.sl .ins) (zqC c)])
theorem zLD:zbM Tryz.prog 299 [false,true,true] zxH:=hP0 zdw zU zYG zn zSQ (fun _ h=>(zGV h).1)
theorem z2t {c:Cur}(h:zbd c):zjC c=true:=by
 refine zZb c ⟨3,?_⟩;unfold zvx oN;conv=>zeta
 exact zZZ h (P:=fun x=>zc6 x=true) (fc:=zhe) (fs:=zba) (fv:=zb4) (R:=fun s l=>AV.agg (zbU s)::[aS (.sl .ins) l]) zFU zi7 (fun h=>(zsB (zFU h)).2.2) (fun s l d e a b f=>⟨s,l,rfl,⟨d,e⟩,a,b,f⟩) (fun rec t i k l=>rfl)
def zbbQ:zcL:=[(299,([false,true,true],zxH))]++zbbP
theorem zYH:zb8 zbbQ:=zcr zYG (by
 intro x a;simp only[qG,qN,or_false]at a;rcases a with rfl
 .exact zLD)
def zBo (N:Nat)(c:Cur)  : OA :=
 (iter (σ:=(Int×(Int×(Int×(lQ×((List Int)×Unit)))))) N (fun g a=>let f:=a.2.2.2.2.1;let e:=(⟨f,a.2.1,a.2.2.1⟩:Cur);let d:=({ (zf e 2) with b:=f}:Cur); (oN (zA e 2) (cond (ilt a.1 (zM .i64 1 (zk e 2))) (oN (zjC d) (oN (few (ln (ap a.2.2.2.1 [(zqC d)]))) (g ((zM .i64 a.1 1),((zjD d).i,((zjD d).h,((ap a.2.2.2.1 [(zqC d)]),(f,())))))))) (some [(.agg [(.s .u8 f),(.i .i64 (zf e 2).i),(.i .i64 (zf e 2).h)]),(aS (.sl (.sl .ins)) a.2.2.2.1)])))) (0,(c.i,(c.h,([],(c.b,()))))))
def zZU:FuncId->Nat->Option Tmpl:=zq [(241,0,{n:=19,tm:=[(0,.lp 0 0),(3,.sl 0 []),(4,ti)],lo:=[(0,[.sl 1 [],ti,ti])],ro:=[(0,(.sl (.sl .ins)),true),(1,.u8,false)]})]
def zsI (c:Cur)(s:Cur)(a:List (List (List Ins))):Prop:=(∃N,zBo N c=some (AV.agg (zbU s)::[aS (.sl (.sl .ins)) a]))/\(s.b=c.b/\0<=s.i)/\(1<=a.length/\a.length<=2/\∀p∈a,1<=p.length/\p.length<=2/\∀x∈p,zc6 x=true)
def zqE (c:Cur)  : Bool:=wC (zsI c)
def zne (c:Cur)  : Cur:=wS (zsI c)
def zwF (c:Cur)  : List (List (List Ins)):=wV (zsI c)
theorem zPM {c:Cur}(h:zqE c=true):zsI c (zne c) (zwF c):=wG h
theorem z4S (c:Cur)  : 0<=(zne c).i:=wP fun h=>h.2.1.2
theorem z4R (c:Cur)(h:∃N,Ends (wE (fun a=>aS (.sl (.sl .ins)) a) c.b fun a=>1<=a.length/\a.length<=2/\∀p∈a,1<=p.length/\p.length<=2/\∀x∈p,zc6 x=true) (zBo N c)):zqE c=true:=wI (fun _ _ h=>h) h
def zDp:zdk:=rP0 fun c=>(zqE c,zne c,[aS (.sl (.sl .ins)) (zwF c)])
theorem zRo:zbM Tryz.prog 241 [false,true,true] zDp:=hP0 zdw zU zYH zn zZU (fun _ h=>(zPM h).1)
theorem zbaz {c:Cur}(h:zbd c):zqE c=true:=by
 refine z4R c ⟨3,?_⟩;unfold zBo oN;conv=>zeta
 exact zZZ h (P:=fun p=>1<=p.length/\p.length<=2/\∀x∈p,zc6 x=true) (fc:=zjC) (fs:=zjD) (fv:=zqC) (R:=fun s l=>AV.agg (zbU s)::[aS (.sl (.sl .ins)) l]) z2t zZc (fun h=>(zGV (z2t h)).2.2) (fun s l d e a b f=>⟨s,l,rfl,⟨d,e⟩,a,b,f⟩) (fun rec t i k l=>rfl)
def zbbR:zcL:=[(241,([false,true,true],zDp))]++zbbQ
theorem zYI:zb8 zbbR:=zcr zYH (by
 intro x a;simp only[qG,qN,or_false]at a;rcases a with rfl
 .exact zRo)
theorem zHm {c:Type}{G:c->Prop}{x:Bool}{a b:Option c}(k:Ends G a)(h:x=true:=by first
 |exact zbz (by first|assumption|exact zbL (by assumption) (zF _ _)|exact zbL (by assumption) (zb7 _ _)|exact zbL (by assumption) (zbO _ _)) _
 |exact zio (by first|assumption|exact zbL (by assumption) (zF _ _)|exact zbL (by assumption) (zb7 _ _)) _
 |exact zd2 (by first|assumption|exact zbL (by assumption) (zF _ _)) (by simp)):Ends G (cond x a b):=zo h k
def zBk (N:Nat)(c:Cur)  : OA :=
 let f:=(zk c 4);let j:=({ (zf c 4) with b:=c.b}:Cur);let e:=(zcT j 4);let d:=(zO j 4);let a:=({d with b:=c.b}:Cur);let g:=({ (zO a 2) with b:=c.b}:Cur); (oN (zA c 4) (oN (zcI j 4) (cond (nB e) (cond (ine f 2) (oN (zcI a 2) (cond (zcT a 2) (oN (zA g 256) (some [(.agg [(.s .u8 c.b),(.i .i64 (zf g 256).i),(.i .i64 (zf g 256).h)]),(.agg [(.i .i64 f),(.i .i64 (zk g 256)),(.b (nB e))])])) (some [(.agg [(.s .u8 c.b),(.i .i64 (zO a 2).i),(.i .i64 (zO a 2).h)]),(.agg [(.i .i64 f),(.i .i64 0),(.b (nB e))])]))) (some [(.agg [(.s .u8 c.b),(.i .i64 d.i),(.i .i64 d.h)]),(.agg [(.i .i64 f),(.i .i64 0),(.b (nB e))])])) (some [(.agg [(.s .u8 c.b),(.i .i64 d.i),(.i .i64 d.h)]),(.agg [(.i .i64 f),(.i .i64 0),(.b (nB e))])]))))
def zsD (c:Cur)(s:Cur)(a:Ctl):Prop:=(∃N,zBk N c=some (AV.agg (zbU s)::[.agg (zk8 a)]))/\(s.b=c.b/\0<=s.i)/\(True)
def zki (c:Cur)  : Bool:=wC (zsD c)
def zcg (c:Cur)  : Cur:=wS (zsD c)
def zcy (c:Cur)  : Ctl:=wV (zsD c)
theorem z4I {c:Cur}(h:zki c=true):zsD c (zcg c) (zcy c):=wG h
theorem zCz (c:Cur)  : 0<=(zcg c).i:=wP fun h=>h.2.1.2
theorem z4J (c:Cur)(h:∃N,Ends (wE (fun a=>.agg (zk8 a)) c.b fun a=>True) (zBk N c)):zki c=true:=wI (fun _ _ h=>h) h
def zDl:zdk:=rP0 fun c=>(zki c,zcg c,[.agg (zk8 (zcy c))])
theorem zRk:zbM Tryz.prog 189 [false,true,true] zDl:=hP0 zdw zU zYI zn (zq []) (fun _ h=>(z4I h).1)
theorem z3g {c:Cur}(h:zbd c):zki c=true:=by
 refine z4J c ⟨0,?_⟩;unfold zBk oN nB;conv=>zeta
 refine zHm (zHm (zbC (fun _=>zbC (fun _=>zHm (zbC (fun _=>zHm (?_)) (fun _=>?_))) (fun _=>?_)) (fun _=>?_)));all_goals exact zbB (fun x=>AV.agg (zk8 x)) (v:=⟨_,_,_⟩) (by first|exact zF _ _|exact zb7 _ _) trivial
def zbbS:zcL:=[(189,([false,true,true],zDl))]++zbbR
theorem zMe:zb8 zbbS:=zcr zYI (by
 intro x a;simp only[qG,qN,or_false]at a;rcases a with rfl
 .exact zRk)
theorem zdS {c:Type}{G:c->Prop}{x:Bool}{a b:Option c}(k:Ends G a)(h:x=true:=by first
 |exact zbz (by first|assumption|exact zbL (by assumption) (zF _ _)|exact zbL (by assumption) (zbO _ _)) _
 |exact zd2 (by first|assumption|exact zbL (by assumption) (zF _ _)) (by simp)
 |exact z3g (zbL (by assumption) (zF _ _))):Ends G (cond x a b):=zo h k
def zBr (N:Nat)(c:Cur)  : OA :=
 let m:=({ (zf c 2) with b:=c.b}:Cur);let g:=(zk c 2);let f:=(zk m 2);let u:=({ (zf m 2) with b:=c.b}:Cur);let e:=(zf u 24);let d:=(zk u 24);let a:=({e with b:=c.b}:Cur);let j:=(zf a 8);let l:=({ (zf a 4) with b:=c.b}:Cur);let k:=({j with b:=c.b}:Cur);let t:=({ (zf a 16) with b:=c.b}:Cur);let r:=({ (zV a [16,17]) with b:=c.b}:Cur);let q:=({ (zV a [13,13,14,15]) with b:=c.b}:Cur);let p:=({ (zf k 4) with b:=c.b}:Cur);let n:=({ (zf l 8) with b:=c.b}:Cur); (share (oN (zbl a [13,13,14,15]) (oN (zA q 8) (some [(.agg [(.s .u8 c.b),(.i .i64 (zf q 8).i),(.i .i64 (zf q 8).h)]),(.agg [(.i .i64 (zbh a [13,13,14,15])),(.i .i64 g),(.i .i64 f),(.i .i64 (zk q 8)),(.i .i64 0),(.i .i64 0)])]))) (fun A=>(share (cond (ieq d 16) (oN (zbl a [16,17]) (oN (zA r 4) (some [(.agg [(.s .u8 c.b),(.i .i64 (zf r 4).i),(.i .i64 (zf r 4).h)]),(.agg [(.i .i64 (zbh a [16,17])),(.i .i64 g),(.i .i64 f),(.i .i64 (zk r 4)),(.i .i64 0),(.i .i64 0)])]))) (some [(.agg [(.s .u8 c.b),(.i .i64 e.i),(.i .i64 e.h)]),(.agg [(.i .i64 1),(.i .i64 g),(.i .i64 f),(.i .i64 0),(.i .i64 0),(.i .i64 0)])])) (fun z=>(share (oN (zA a 4) (oN (zA l 8) (oN (zbl n [3,3,1,2]) (some [(.agg [(.s .u8 c.b),(.i .i64 (zV n [3,3,1,2]).i),(.i .i64 (zV n [3,3,1,2]).h)]),(.agg [(.i .i64 2),(.i .i64 g),(.i .i64 f),(.i .i64 (zk a 4)),(.i .i64 (zk l 8)),(.i .i64 (zbh n [3,3,1,2]))])])))) (fun y=>(share (oN (zA a 4) (some [(.agg [(.s .u8 c.b),(.i .i64 (zf a 4).i),(.i .i64 (zf a 4).h)]),(.agg [(.i .i64 3),(.i .i64 g),(.i .i64 f),(.i .i64 (zk a 4)),(.i .i64 0),(.i .i64 0)])])) (fun x=>(share (cond (ieq d 7) (oN (zA a 8) (some [(.agg [(.s .u8 c.b),(.i .i64 j.i),(.i .i64 j.h)]),(.agg [(.i .i64 6),(.i .i64 g),(.i .i64 f),(.i .i64 (zk a 8)),(.i .i64 0),(.i .i64 0)])])) (cond (ieq d 8) (oN (zki a) (cond ((zcy a).Open) (some [(.agg [(.s .u8 c.b),(.i .i64 (zcg a).i),(.i .i64 (zcg a).h)]),(.agg [(.i .i64 7),(.i .i64 g),(.i .i64 f),(.i .i64 (zcy a).Traps),(.i .i64 (zcy a).Post),(.i .i64 1)])]) (some [(.agg [(.s .u8 c.b),(.i .i64 (zcg a).i),(.i .i64 (zcg a).h)]),(.agg [(.i .i64 7),(.i .i64 g),(.i .i64 f),(.i .i64 (zcy a).Traps),(.i .i64 (zcy a).Post),(.i .i64 0)])]))) (cond (ieq d 9) (oN (zA a 8) (oN (zA k 4) (oN (zA p 100) (some [(.agg [(.s .u8 c.b),(.i .i64 (zf p 100).i),(.i .i64 (zf p 100).h)]),(.agg [(.i .i64 8),(.i .i64 g),(.i .i64 f),(.i .i64 (zk a 8)),(.i .i64 (zk k 4)),(.i .i64 (zk p 100))])])))) (cond (ieq d 10) (oN (zA a 8) (some [(.agg [(.s .u8 c.b),(.i .i64 j.i),(.i .i64 j.h)]),(.agg [(.i .i64 9),(.i .i64 g),(.i .i64 f),(.i .i64 (zk a 8)),(.i .i64 0),(.i .i64 0)])])) (cond (ieq d 11) (some [(.agg [(.s .u8 c.b),(.i .i64 e.i),(.i .i64 e.h)]),(.agg [(.i .i64 10),(.i .i64 g),(.i .i64 f),(.i .i64 0),(.i .i64 0),(.i .i64 0)])]) (cond (ieq d 12) (oN (zA a 16) (oN (zA t 100) (some [(.agg [(.s .u8 c.b),(.i .i64 (zf t 100).i),(.i .i64 (zf t 100).h)]),(.agg [(.i .i64 11),(.i .i64 g),(.i .i64 f),(.i .i64 (zk a 16)),(.i .i64 (zk t 100)),(.i .i64 0)])]))) (cond (ieq d 13) (oN (zA a 16) (some [(.agg [(.s .u8 c.b),(.i .i64 (zf a 16).i),(.i .i64 (zf a 16).h)]),(.agg [(.i .i64 12),(.i .i64 g),(.i .i64 f),(.i .i64 (zk a 16)),(.i .i64 0),(.i .i64 0)])])) (cond (ieq d 14) (cond (ieq d 14) A z) (cond (ieq d 15) A z))))))))) (fun v=>(share (cond (ieq d 4) (oN (zA a 100) (some [(.agg [(.s .u8 c.b),(.i .i64 (zf a 100).i),(.i .i64 (zf a 100).h)]),(.agg [(.i .i64 4),(.i .i64 g),(.i .i64 f),(.i .i64 (zk a 100)),(.i .i64 0),(.i .i64 0)])])) (cond (ieq d 5) (cond (ieq d 5) (some [(.agg [(.s .u8 c.b),(.i .i64 e.i),(.i .i64 e.h)]),(.agg [(.i .i64 5),(.i .i64 g),(.i .i64 f),(.i .i64 0),(.i .i64 0),(.i .i64 0)])]) v) (cond (ieq d 6) (some [(.agg [(.s .u8 c.b),(.i .i64 e.i),(.i .i64 e.h)]),(.agg [(.i .i64 5),(.i .i64 g),(.i .i64 f),(.i .i64 0),(.i .i64 0),(.i .i64 0)])]) v))) (fun w=>(share (cond (ieq d 2) (cond (ieq d 2) x w) (cond (ieq d 3) x w)) (fun B=>(oN (zA c 2) (oN (zA m 2) (oN (zA u 24) (cond (ieq d 0) (cond (ieq d 0) y B) (cond (ieq d 1) y B)))))))))))))))))))
def zsK (c:Cur)(s:Cur)(a:GAct):Prop:=(∃N,zBr N c=some (AV.agg (zbU s)::[aT .act a]))/\(s.b=c.b/\0<=s.i)/\(True)
def zkl (c:Cur)  : Bool:=wC (zsK c)
def zg5 (c:Cur)  : Cur:=wS (zsK c)
def zrE (c:Cur)  : GAct:=wV (zsK c)
theorem z4U {c:Cur}(h:zkl c=true):zsK c (zg5 c) (zrE c):=wG h
theorem z4W (c:Cur)  : 0<=(zg5 c).i:=wP fun h=>h.2.1.2
theorem z4V (c:Cur)(h:∃N,Ends (wE (fun a=>aT .act a) c.b fun a=>True) (zBr N c)):zkl c=true:=wI (fun _ _ h=>h) h
def zDr:zdk:=rP0 fun c=>(zkl c,zg5 c,[aT .act (zrE c)])
theorem zRt:zbM Tryz.prog 301 [false,true,true] zDr:=hP0 zdw zU zMe zn (zq []) (fun _ h=>(z4U h).1)
theorem zbeS {c:Cur}(h:zbd c):zkl c=true:=by
 refine z4V c ⟨0,?_⟩;unfold zBr oN;conv=>zeta
 refine zoo (zdS (zdS (?_))) (fun _ g=>zoo (zbC (fun _=>zdS (zdS (?_))) (fun _=>?_)) (fun _ f=>zoo (zdS (zdS (zdS (?_)))) (fun _ e=>zoo (zdS (?_)) (fun _ d=>zoo (zbC (fun _=>zdS (?_)) (fun _=>zbC (fun _=>zdS (zbC (fun _=>?_) (fun _=>?_))) (fun _=>zbC (fun _=>zdS (zdS (zdS (?_)))) (fun _=>zbC (fun _=>zdS (?_)) (fun _=>zbC (fun _=>?_) (fun _=>zbC (fun _=>zdS (zdS (?_))) (fun _=>zbC (fun _=>zdS (?_)) (fun _=>zbC (fun _=>zbC (fun _=>g) (fun _=>f)) (fun _=>zbC (fun _=>g) (fun _=>f)))))))))) (fun _ a=>zoo (zbC (fun _=>zdS (?_)) (fun _=>zbC (fun _=>zbC (fun _=>?_) (fun _=>a)) (fun _=>zbC (fun _=>?_) (fun _=>a)))) (fun _ b=>zoo (zbC (fun _=>zbC (fun _=>d) (fun _=>b)) (fun _=>zbC (fun _=>d) (fun _=>b))) (fun _ i=>zdS (zdS (zdS (zbC (fun _=>zbC (fun _=>e) (fun _=>i)) (fun _=>zbC (fun _=>e) (fun _=>i))))))))))));all_goals exact zbB (aT .act) (v:=⟨_,_,_,_,_,_⟩) (by first|exact zF _ _|exact zbO _ _|exact zCz _) trivial
def zlA (N:Nat)  : OA :=
 (iter (σ:=(Int×(lA×Unit))) N (fun e c=>(cond (ilt c.1 2) (iter (σ:=(Int×(Int×(lA×Unit)))) N (fun f b=>(cond (ilt b.2.1 2) (iter (σ:=(Int×(Int×(Int×(lA×Unit))))) N (fun g a=>let d:=(ap a.2.2.2.1 [(⟨2,a.1,a.2.1,a.2.2.1,(zM .i64 a.2.2.1 (zle .i64 3 a.2.1)),3⟩:GAct),(⟨3,a.1,a.2.1,a.2.2.1,0,0⟩:GAct)]); (cond (ilt a.2.2.1 3) (oN (few (ln d)) (g (a.1,(a.2.1,((zM .i64 a.2.2.1 1),(d,())))))) (f (a.1,((zM .i64 a.2.1 1),(a.2.2.2.1,())))))) (b.1,(b.2.1,(0,(b.2.2.1,()))))) (e ((zM .i64 b.1 1),(b.2.2.1,()))))) (c.1,(0,(c.2.1,())))) (some [(aS .act c.2.1)]))) (0,([],())))
def zSR:FuncId->Nat->Option Tmpl:=zq [(300,0,{n:=34,tm:=[(1,.sl 0 []),(2,ti)],lo:=[],ro:=[(0,.act,true)]}),(300,2,{n:=34,tm:=[(1,.sl 0 []),(2,ti),(3,ti)],lo:=[],ro:=[(0,.act,true)]}),(300,4,{n:=34,tm:=[(1,.sl 0 []),(2,ti),(3,ti),(4,ti)],lo:=[],ro:=[(0,.act,true)]})]
def zum  (a:List GAct):Prop:=(∃N,zlA N=some [aS .act a])/\(a.length<=45)
def zjF  : Bool:=uC (T:=List GAct) (fun r=>zum r)
def zZf  : List GAct:=uV (fun r=>zum r)
def zvb  : List GAct:=(zZf)
theorem zGX  (h:zjF=true):zum zvb:=uG h
theorem zZe  (h:∃N,Ends (fun a=>∃b,a=[aS .act b]/\(b.length<=45)) (zlA N)):zjF=true:=by obtain⟨N,a,e,b,rfl,h⟩:=h;exact zY ⟨b,⟨N,e⟩,h⟩
def zAX:Run:=rF0 (zjF,[aS .act zvb])
theorem zR6  (a:zjF=true):∃N,zlA N  = some [aS .act zvb]:=by exact(zGX a).1
theorem zLF:vM 300 zAX:=kF0 zdw zU zMe zn zSR zR6
def z5D:List GAct:=match zlA 10 with
 |some [.one (.s .act l)]=>l
 |_=>[]
theorem z1R:zjF=true:=zZe ⟨10,_,(by kernel_rfl:zlA 10=some [aS .act z5D]),z5D,rfl,Nat.le_of_ble_eq_true (by kernel_rfl)⟩
def zbbT:zcL:=[(301,([false,true,true],zDr))]++zbbS
theorem zYJ:zb8 zbbT:=zcr zMe (by
 intro x a;simp only[qG,qN,or_false]at a;rcases a with rfl
 .exact zRt)
def zbed:zW:=[(300,zAX)]++zKK
theorem z5G:zL zbed:=zh zLF zdw
theorem zTR {c:Cur}(h:zbd c){m:Int}(e:0<=m)(J:m<=1000){G:Ans->Prop}{R:Cur->List GAct->Ans}(D:∀s l,s.b=c.b->0<=s.i->ln l<=45+m->G (R s l)){F:(Int×Int×Int×Int×List GAct×List Int×Unit->OA)->Int×Int×Int×Int×List GAct×List Int×Unit->OA}(C:∀rec t i k l,F rec (m,t,i,k,l,c.b,())=bif zA ⟨c.b,i,k⟩ (zM .i64 m 1) then (bif ilt t (zk ⟨c.b,i,k⟩ (zM .i64 m 1)) then (bif zkl { zf ⟨c.b,i,k⟩ (zM .i64 m 1) with b:=c.b } then (bif few (ln (ap l [zrE { zf ⟨c.b,i,k⟩ (zM .i64 m 1) with b:=c.b }])) then
        rec (m,zM .i64 t 1,(zg5 {zf ⟨c.b,i,k⟩ (zM .i64 m 1) with b:=c.b}).i,(zg5 {zf ⟨c.b,i,k⟩ (zM .i64 m 1) with b:=c.b}).h,ap l [zrE {zf ⟨c.b,i,k⟩ (zM .i64 m 1) with b:=c.b}],c.b,()) else none) else none) else some (R ⟨c.b,(zf ⟨c.b,i,k⟩ (zM .i64 m 1)).i,(zf ⟨c.b,i,k⟩ (zM .i64 m 1)).h⟩ l)) else none){w I:Int}(f:0<=w){g:List GAct}(E:g.length<=45):Ends G (iter 1002 F (m,0,w,I,g,c.b,())):=by
 refine zns (fun n s=>s.1=m/\s.2.1+(n:Int)=1000/\0<=s.2.1/\0<=s.2.2.1/\(ln s.2.2.2.2.1<=45+s.2.1/\s.2.1<=m)/\s.2.2.2.2.2.1=c.b) ?_ 1002 1000 _ ⟨rfl,rfl,kS 0,f,⟨by unfold ln;show ((g.length:Nat):Int)<=45+0;omega,e⟩,rfl⟩ (by omega)
 rintro n ⟨q,t,i,k,l,b,u⟩ rec ⟨e,z,j,p,⟨A,H⟩,r⟩ d
 dsimp only at e z j p A r H
 subst r;subst e;rw[C];have a:zbd ⟨c.b,i,k⟩:=zbL h p;have L:=zhv (x:=q) (y:=1) (by omega) (by omega) (by omega) (by omega)
 have M:=zfZ a (n:=zM .i64 q 1) (by omega)
 have B:zbd {zf ⟨c.b,i,k⟩ (zM .i64 q 1) with b:=c.b}:=zbL h (zF _ _);refine zo (zbz a _) (zbC (fun v=>?_) (fun v=>?_))
 .have hlt:t<zk ⟨c.b,i,k⟩ (zM .i64 q 1):=qE v;have K:=zhv (y:=1) j (by omega) (by omega) (by omega)
  refine zo (zbeS B) (zo (zlL (by rw[zhO];omega)) (d (n-1) _ (by omega) ⟨rfl,?_,?_,z4W _,⟨?_,?_⟩,rfl⟩))
  .show zM .i64 t 1+_=1000
   omega
  .show 0<=zM .i64 t 1
   omega
  .show ln (ap l [_])<=45+zM .i64 t 1
   rw[zhO];omega
  .show zM .i64 t 1<=q
   omega
 .refine zvI (D _ l rfl (zF _ _) ?_);omega
def zyU (N:Nat)(c:Cur)(p:Int):OA:=
 (oN (zcI c 5) (cond (nB (zcT c 5)) (oN zjF (iter (σ:=(Int×(Int×(Int×(Int×(lA×((List Int)×Unit))))))) N (fun n a=>let l:=a.2.2.2.2.2.1;let f:=(zM .i64 a.1 1);let d:=(⟨l,a.2.2.1,a.2.2.2.1⟩:Cur);let j:=({ (zf d f) with b:=l}:Cur);let q:=(ap a.2.2.2.2.1 [(zrE j)]); (oN (zA d f) (cond (ilt a.2.1 (zk d f)) (oN (zkl j) (oN (few (ln q)) (n (a.1,((zM .i64 a.2.1 1),((zg5 j).i,((zg5 j).h,(q,(l,()))))))))) (some [(.agg [(.s .u8 l),(.i .i64 (zf d f).i),(.i .i64 (zf d f).h)]),(aS .act a.2.2.2.2.1)])))) (p,(0,((zO c 5).i,((zO c 5).h,(zvb,(c.b,())))))))) (iter (σ:=(Int×(Int×(Int×(Int×(lA×((List Int)×Unit))))))) N (fun n a=>let m:=a.2.2.2.2.2.1;let g:=(zM .i64 a.1 1);let e:=(⟨m,a.2.2.1,a.2.2.2.1⟩:Cur);let k:=({ (zf e g) with b:=m}:Cur);let r:=(ap a.2.2.2.2.1 [(zrE k)]); (oN (zA e g) (cond (ilt a.2.1 (zk e g)) (oN (zkl k) (oN (few (ln r)) (n (a.1,((zM .i64 a.2.1 1),((zg5 k).i,((zg5 k).h,(r,(m,()))))))))) (some [(.agg [(.s .u8 m),(.i .i64 (zf e g).i),(.i .i64 (zf e g).h)]),(aS .act a.2.2.2.2.1)])))) (p,(0,((zO c 5).i,((zO c 5).h,([],(c.b,())))))))))
def zV1:FuncId->Nat->Option Tmpl:=zq [(242,0,{n:=26,tm:=[(0,.lp 0 0),(1,ti),(5,.sl 0 []),(6,ti)],lo:=[(0,[.sl 1 [],ti,ti])],ro:=[(0,.act,true),(1,.u8,false)]})]
def zqH (c:Cur)(a:Int)(s:Cur)(d:List GAct):Prop:=(∃N,zyU N c a=some (AV.agg (zbU s)::[aS .act d]))/\(s.b=c.b/\0<=s.i)/\(ln d<=45+a)
def zn0 (c:Cur)(a:Int):Bool:=wC (zqH c a)
def zn1 (c:Cur)(a:Int):Cur:=wS (zqH c a)
def ztE (c:Cur)(a:Int):List GAct:=wV (zqH c a)
theorem zKl {c:Cur}{a:Int}(h:zn0 c a=true):zqH c a (zn1 c a) (ztE c a):=wG h
theorem z1u (c:Cur)(a:Int):0<=(zn1 c a).i:=wP fun h=>h.2.1.2
theorem z1t (c:Cur)(a:Int)(h:∃N,Ends (wE (fun d=>aS .act d) c.b fun d=>ln d<=45+a) (zyU N c a)):zn0 c a=true:=wI (fun _ _ h=>h) h
def zAt:zdk:=rP1 dI fun c b=>(zn0 c b,zn1 c b,[aS .act (ztE c b)])
theorem zOK:zbM Tryz.prog 242 [false,true,true] zAt:=hP1 z5G zU zYJ zn zV1 (fun _ _ h=>(zKl h).1)
theorem z5v {c:Cur}(h:zbd c){m:Int}(e:0<=m)(f:m<=1000):zn0 c m=true:=by
 refine z1t c m ⟨1002,?_⟩;unfold zyU oN nB;conv=>zeta
 have g:=zGX z1R;exact zo (zio h 5) (zbC (fun _=>zo z1R (zTR h e f (R:=fun s l=>AV.agg (zbU s)::[aS .act l]) (fun s l a b d=>⟨s,l,rfl,⟨a,b⟩,d⟩) (fun rec t i k l=>rfl) (zb7 _ _) g.2)) (fun _=>zTR h e f (R:=fun s l=>AV.agg (zbU s)::[aS .act l]) (fun s l a b d=>⟨s,l,rfl,⟨a,b⟩,d⟩) (fun rec t i k l=>rfl) (zb7 _ _) (j4 _)))
def zbbU:zcL:=[(242,([false,true,true],zAt))]++zbbT
theorem zYK:zb8 zbbU:=zcr zYJ (by
 intro x a;simp only[qG,qN,or_false]at a;rcases a with rfl
 .exact zOK)
@[simp] abbrev zg9 (l:List (List Int)):Bool:=pc (SmM l)
@[simp] abbrev zeY (l:List (List Int)):List (List Int):=l
def zDx:Run:=rF1 (dS (.sl .int)) fun b=>(zg9 b,[aS (.sl .int) (zeY b)])
def zIX (N:Nat)(c:lM):OA:=
 (iter (σ:=(Int×(Int×(lM×(lM×Unit))))) N (fun d a=>let b:=(ix a.2.2.2.1 a.2.1 []); (cond (ilt a.2.1 a.1) (oN (inb a.2.1 (ln a.2.2.2.1)) (oN (zdA b) (oN (few (ln (ap a.2.2.1 [(zdu b)]))) (d (a.1,((zM .i64 a.2.1 1),((ap a.2.2.1 [(zdu b)]),(a.2.2.2.1,())))))))) (some [(aS (.sl .int) a.2.2.1)]))) ((ln c),(0,([],(c,())))))
def zVR:FuncId->Nat->Option Tmpl:=zq [(211,0,{n:=20,tm:=[(3,.sl 0 []),(7,.sl 1 []),(8,ti),(9,ti)],lo:=[],ro:=[(0,(.sl .int),true),(1,(.sl .int),false)]})]
theorem zUZ (a:List (List Int))(g:zg9 a=true):∃N,zIX N a=some [aS (.sl .int) (zeY a)]:=by
 have f:=zK.1 g;have e:=zc2 f.1;refine zcp fun N d=>?_;unfold zIX oN;conv=>zeta
 refine(zbo a (fun i (t:lM)=>((ln a),(i:Int),t,a,())) _ (fun _ x b j=>bif zdA x then (cond (few (ln (ap b [zdu x]))) (j (ap b [zdu x])) none) else none) (fun (t:lM)=>(some [(.one (.s (.sl .int) t))])) (fun i c t rec=>?_) (fun t rec=>?_) _ ([]) (d e.1)).trans ?_;{simp only [zbG c,zbi c,zbp c,zbj c e.1,cT]};{simp only [zbw,cF]};exact zjQ zdA zdu _ a 0 [] (fun x h=>⟨by exact zY (qU (f.2 x h) (by decide)),rfl⟩) (by simpa using e.2)
theorem zN6:vM 211 zDx:=kF1 zhw zx zy zn zVR zUZ
@[simp] abbrev zeH (g:Guest):Bool:=pc (SmG g)
@[simp] abbrev zdG (g:Guest):Guest:=g
def zxN:Run:=rF1 (dT .guest) fun b=>(zeH b,[aT .guest (zdG b)])
def zCW (N:Nat)(a:Guest):OA:=
 (oN (zvY a.Prog) (oN (zfT a.Written) (oN (zfT a.Live) (oN (zdA a.Seen) (some [(aT .guest ({a with Prog:=(zpx a.Prog),Written:=(zdW a.Written),Live:=(zdW a.Live),Seen:=(zdu a.Seen)}:Guest))])))))
theorem zOT (a:Guest)(b:zeH a=true):∃N,zCW N a=some [aT .guest (zdG a)]:=by have c:=zK.1 b;obtain⟨h,i,j,k⟩:=c;have d:a.Prog.length<=2147483648:=(by omega);have e:a.Written.length<=2147483648:=(by omega);have f:a.Live.length<=2147483648:=(by omega);have g:a.Seen.length<=2147483648:=(by omega);refine⟨0,?_⟩;unfold zCW oN;refine mu (mu (mu (mu ?_)));first|rfl|(simp only [*,zdG,cT,cF]<;>rfl)|simp_all[Ty.cells,zdG]
theorem zHX:vM 256 zxN:=kF1 zhw zx zy zn (zq []) zOT
def zfN (t:List Slot)(p n:Int):Bool:=bif ieq (zbu t p).Page (-1) then false else (cond (enough (zbu t p).Rights n) (win n 1 3) false)
def zcE (t:List Slot)(p n:Int):Int:=bif zfN t p n then (zbu t p).Page else -1
theorem z94 {r:Int}(h:zc0 r=true):0<=r/\r<=3:=zge.1 h
theorem z3x {a n:Int}(h:enough a n=true):win n 1 3 = !ieq n 0:=by unfold enough at h;cases b:zc0 a;{rw [b]at h;cases h};{cases c:zc0 n;{rw [b,c]at h;cases h};{have:=z94 c;have e:(win n 1 3=true)↔(!ieq n 0)=true:=(by rw[zge];simp[ieq];omega);cases d:win n 1 3<;>cases f:(!ieq n 0)<;>simp_all}}
@[simp] abbrev zul (t:List Slot)(p n:Int):Bool:=true
@[simp] abbrev zkA (t:List Slot)(p n:Int):Int:=zcE t p n
@[simp] abbrev zkB (t:List Slot)(p n:Int):Bool:=zfN t p n
def zx1:Run:=rF3 (dS .slot) dI dI fun b c d=>(zul b c d,[aI (zkA b c d),aB (zkB b c d)])
def zDb (N:Nat)(c:lS)(d b:Int):OA:=
 let a:=(zgb c d); (oN (ziH c d) (cond (ieq a.Page (-1)) (some [(aI (-1)),(aB false)]) (oN (zg2 a.Rights b) (cond (nB (zhH a.Rights b)) (some [(aI (-1)),(aB false)]) (cond (ieq b 0) (some [(aI (-1)),(aB false)]) (some [(aI a.Page),(aB true)]))))))
theorem zO9 (a:List Slot)(b c:Int)(d:zul a b c=true):∃N,zDb N a b c=some [aI (zkA a b c),aB (zkB a b c)]:=by
 have e:=@z3x (zbu a b).Rights c;refine⟨0,?_⟩;unfold zDb oN nB;conv=>zeta
 refine must rfl (br (fun _=>?_) (fun _=>must rfl (brN (fun _=>?_) (fun _=>br (fun _=>?_) (fun _=>?_)))));all_goals first|rfl|(simp only [*,zkA,zkB,zcE,zfN,cT,cF]<;>rfl)|simp_all[Ty.cells,zkA,zkB,zcE,zfN]
theorem zIb:vM 221 zx1:=kF3 zhw zx zy zn (zq []) zO9
def zbbl:zW:=[(211,zDx),(256,zxN),(221,zx1),(226,zJ7),(252,zJX),(319,zGw),(311,zGb),(192,zJ3),(190,zJV),(297,zGA)]++zbbk
theorem zjT:zL zbbl:=zh zN6 (zh zHX (zh zIb (zh zUC (zh zUr (zh zQ8 (zh zQN (zh zUy (zh zUp (zh zRc zhw)))))))))
@[simp] abbrev zjy (m:List (List Int))(p c v:Int):Bool:=pc (SmM m)
@[simp] abbrev zkc (m:List (List Int))(p c v:Int):List (List Int):=zbN m p c v
def zAU:Run:=rF4 (dS (.sl .int)) dI dI dI fun b c d e=>(zjy b c d e,[aS (.sl .int) (zkc b c d e)])
def zEQ (N:Nat)(c:lM)(a d e:Int):OA:=
 let b:=(zew c); (oN (zgk c) (oN (zu5 c a d) (cond (zrD c a d) (oN (zN e 0 99) (cond (zQ e 0 99) (oN (inb a (ln b)) (oN (inb d (ln (ix b a []))) (share (up b a (up (ix b a []) d e)) (fun f=>(some [(aS (.sl .int) f)]))))) (some [(aS (.sl .int) b)]))) (some [(aS (.sl .int) b)]))))
theorem zR3 (a:List (List Int))(b c d:Int)(e:zjy a b c d=true):∃N,zEQ N a b c d=some [aS (.sl .int) (zkc a b c d)]:=by
 have g:=zK.1 e;have f:=(zCc a b c).1;refine⟨0,?_⟩;unfold zEQ oN;conv=>zeta
 refine mu (must rfl (br (fun _=>must rfl (br (fun _=>mu (mu (shr ?_))) (fun _=>?_))) (fun _=>?_)));all_goals first|rfl|(simp only [*,zkc,zbN,cT,cF]<;>rfl)|simp_all[Ty.cells,zkc,zbN]
theorem zLv:vM 116 zAU:=kF4 zjT zx zy zn (zq []) zR3
def zjb (g:Guest):Bool:=bif canRun g then (cond g.Ctl.Open (ige (zdQ g.Pending) 0) false) else false
@[simp] abbrev zqg (g:Guest):Bool:=true
@[simp] abbrev zm6 (g:Guest):Bool:=zjb g
def zAT:Run:=rF1 (dT .guest) fun b=>(zqg b,[aB (zm6 b)])
def zEP (N:Nat)(a:Guest):OA:=
 (oN (zuV a) (cond (zrx a) (cond a.Ctl.Open (oN (zu3 a.Pending) (some [(aB (ige (zoR a.Pending) 0))])) oF) oF))
theorem zR2 (a:Guest)(b:zqg a=true):∃N,zEP N a=some [aB (zm6 a)]:=by refine⟨0,?_⟩;unfold zEP oN;refine must rfl (br (fun _=>br (fun _=>must rfl ?_) (fun _=>?_)) (fun _=>?_));all_goals first|rfl|(simp only [*,zm6,zjb,cT,cF]<;>rfl)|simp_all[Ty.cells,zm6,zjb]
theorem zLu:vM 346 zAT:=kF1 zjT zx zy zn (zq []) zR2
def zkT (p:Int):Int:=bif ilt (zdQ p) 0 then p else wsub .i64 p (zoZ .i64 1 (zdQ p))
def zv0 (p:Int):Int:=bif ilt (zdQ p) 0 then -1 else zdQ p
theorem z8j {p:Int}(h:ilt (zdQ p) 0=false):wcv .u64 (zdQ p)=zdQ p/\ile 0 (zdQ p)=true/\zQk .i64 p (zoZ .i64 1 (zdQ p))=wsub .i64 p (zoZ .i64 1 (zdQ p)):=by unfold zdQ at *;cases a:zc5 p;{rw [a]at h;cases h};{simp only [a,cT]at h ⊢;obtain⟨c,d⟩:=zge.1 a;have r:=z7j (P:=fun x=>-1<=scan x/\scan x<=7/\(0<=scan x->wsub .i64 x (zoZ .i64 1 (scan x))=zQk .i64 x (zoZ .i64 1 (scan x)))) zbad c d;have b:0<=scan p:=(by unfold ilt at h;have:=jV h;omega);exact⟨z2M b (by omega),qJ b,(r.2.2 b).symm⟩}
@[simp] abbrev zst (p:Int):Bool:=true
@[simp] abbrev zk2 (p:Int):Int:=zkT p
@[simp] abbrev zk3 (p:Int):Int:=zv0 p
@[simp] abbrev znT (p:Int):Bool:=!ilt (zdQ p) 0
def zDP:Run:=rF1 dI fun b=>(zst b,[aI (zk2 b),aI (zk3 b),aB (znT b)])
def zJo (N:Nat)(a:Int):OA:=
 (oN (zu3 a) (cond (ilt (zoR a) 0) (some [(aI a),(aI (-1)),(aB false)]) (oN (ile 0 (wcv .u64 (zoR a))) (some [(aI (wsub .i64 a (zoZ .i64 1 (wcv .u64 (zoR a))))),(aI (zoR a)),(aB true)]))))
theorem zVs (a:Int)(b:zst a=true):∃N,zJo N a=some [aI (zk2 a),aI (zk3 a),aB (znT a)]:=by have c:=@z8j a;refine⟨0,?_⟩;unfold zJo oN;refine must rfl (br (fun _=>?_) (fun _=>mu ?_));all_goals first|rfl|(simp only [*,zk2,zk3,znT,zkT,zv0,cT,cF]<;>rfl)|simp_all[Ty.cells,zk2,zk3,znT,zkT,zv0]
theorem zOo:vM 239 zDP:=kF1 zjT zx zy zn (zq []) zVs
def saw (g:Guest)(n:Int):Guest:=bif ilt (ln g.Seen) 40 then {g with Seen:=ap g.Seen [n]} else g
@[simp] theorem zSy {g:Guest}(n:Int)(h:SmG g):SmG (saw g n):=by unfold saw;cases a:ilt (ln g.Seen) 40;{exact h};{have:=qE a;refine⟨h.1,h.2.1,h.2.2.1,?_⟩;simp[ln] at *;omega}
@[simp] abbrev zHK (g:Guest)(n:Int):Bool:=pc (SmG g)
@[simp] abbrev zCt (g:Guest)(n:Int):Guest:=saw g n
def zUb:Run:=rF2 (dT .guest) dI fun b c=>(zHK b c,[aT .guest (zCt b c)])
def z1P (N:Nat)(a:Guest)(b:Int):OA:=
 (oN (zdd a) (cond (ilt (ln (zcU a).Seen) 40) (oN (few (ln (ap (zcU a).Seen [b]))) (some [(aT .guest ({ (zcU a) with Seen:=(ap (zcU a).Seen [b])}:Guest))])) (some [(aT .guest (zcU a))])))
theorem z6V (a:Guest)(b:Int)(c:zHK a b=true):∃N,z1P N a b=some [aT .guest (zCt a b)]:=by have d:=zK.1 c;have e:a.Seen.length<=1048576:=d.2.2.2;refine⟨0,?_⟩;unfold z1P oN;refine mu (br (fun _=>mu ?_) (fun _=>?_));all_goals first|rfl|(simp only [*,zCt,saw,cT,cF]<;>rfl)|simp_all[Ty.cells,zCt,saw]
theorem z0v:vM 348 zUb:=kF2 zjT zx zy zn (zq []) z6V
def stopped (g:Guest)(e:GExit):Guest:={g with Exit:=e}
@[simp] theorem z1E {g:Guest}(e:GExit)(h:SmG g):SmG (stopped g e):=h
@[simp] abbrev zed (g:Guest)(e:GExit):Bool:=pc (SmG g)
@[simp] abbrev zdJ (g:Guest)(e:GExit):Guest:=stopped g e
def zDN:Run:=rF2 (dT .guest) dE fun b c=>(zed b c,[aT .guest (zdJ b c)])
def zJm (N:Nat)(a:Guest)(b:GExit):OA:=
 (oN (zdd a) (some [(aT .guest ({ (zcU a) with Exit:=b}:Guest))]))
theorem zVq (a:Guest)(b:GExit)(c:zed a b=true):∃N,zJm N a b=some [aT .guest (zdJ a b)]:=by have d:=zK.1 c;refine⟨0,?_⟩;unfold zJm oN;refine mu ?_;first|rfl|(simp only [*,zdJ,stopped,cT,cF]<;>rfl)|simp_all[Ty.cells,zdJ,stopped]
theorem zOm:vM 181 zDN:=kF2 zjT zx zy zn (zq []) zVq
@[simp] abbrev zkR (g:Guest)(e:GExit):Bool:=pc (SmG g)
@[simp] abbrev zo2 (g:Guest)(e:GExit):Guest:=stopped g e
def zDv:Run:=rF2 (dT .guest) dE fun b c=>(zkR b c,[aT .guest (zo2 b c)])
def zIV (N:Nat)(a:Guest)(b:GExit):OA:=
 (oN (zeH a) (some [(aT .guest ({ (zdG a) with Exit:=b}:Guest))]))
theorem zUX (a:Guest)(b:GExit)(c:zkR a b=true):∃N,zIV N a b=some [aT .guest (zo2 a b)]:=by have d:=zK.1 c;refine⟨0,?_⟩;unfold zIV oN;refine mu ?_;first|rfl|(simp only [*,zo2,stopped,cT,cF]<;>rfl)|simp_all[Ty.cells,zo2,stopped]
theorem zN4:vM 179 zDv:=kF2 zjT zx zy zn (zq []) zUX
def zb3 (g:Guest):Guest:=bif ige g.Pc 12 then {g with Pc:=12} else {g with Pc:=zM .i64 g.Pc 1}
@[simp] theorem zjN {g:Guest}(h:SmG g):SmG (zb3 g):=by unfold zb3;cases ige g.Pc 12<;>exact h
@[simp] abbrev zd9 (g:Guest):Bool:=pc (SmG g)
@[simp] abbrev zgK (g:Guest):Guest:=zb3 g
def zJ9:Run:=rF1 (dT .guest) fun b=>(zd9 b,[aT .guest (zgK b)])
def zTd (N:Nat)(a:Guest):OA:=
 (oN (zdd a) (cond (ige (zcU a).Pc 12) (some [(aT .guest ({ (zcU a) with Pc:=12}:Guest))]) (some [(aT .guest ({ (zcU a) with Pc:=(zM .i64 (zcU a).Pc 1)}:Guest))])))
theorem z0N (a:Guest)(b:zd9 a=true):∃N,zTd N a=some [aT .guest (zgK a)]:=by have c:=zK.1 b;refine⟨0,?_⟩;unfold zTd oN;refine mu (br (fun _=>?_) (fun _=>?_));all_goals first|rfl|(simp only [*,zgK,zb3,cT,cF]<;>rfl)|simp_all[Ty.cells,zgK,zb3]
theorem zUE:vM 180 zJ9:=kF1 zjT zx zy zn (zq []) z0N
@[simp] abbrev zlS (g:Guest):Bool:=pc (SmG g)
@[simp] abbrev zjl (g:Guest):Guest:=zb3 g
def zJ0:Run:=rF1 (dT .guest) fun b=>(zlS b,[aT .guest (zjl b)])
def zS3 (N:Nat)(a:Guest):OA:=
 (oN (zeH a) (cond (ige a.Pc 12) (some [(aT .guest ({ (zdG a) with Pc:=12}:Guest))]) (some [(aT .guest ({ (zdG a) with Pc:=(zM .i64 a.Pc 1)}:Guest))])))
theorem z0C (a:Guest)(b:zlS a=true):∃N,zS3 N a=some [aT .guest (zjl a)]:=by have c:=zK.1 b;refine⟨0,?_⟩;unfold zS3 oN;refine mu (br (fun _=>?_) (fun _=>?_));all_goals first|rfl|(simp only [*,zjl,zb3,cT,cF]<;>rfl)|simp_all[Ty.cells,zjl,zb3]
theorem zUu:vM 178 zJ0:=kF1 zjT zx zy zn (zq []) z0C
def zbbm:zW:=[(116,zAU),(346,zAT),(239,zDP),(348,zUb),(181,zDN),(179,zDv),(180,zJ9),(178,zJ0)]++zbbl
theorem zgQ:zL zbbm:=zh zLv (zh zLu (zh zOo (zh z0v (zh zOm (zh zN4 (zh zUE (zh zUu zjT)))))))
def interrupted (g:Guest):Guest:=bif zjb g then saw {g with Pending:=zkT g.Pending} (zM .i64 100 (zv0 g.Pending)) else g
@[simp] theorem z2z {g:Guest}(h:SmG g):SmG (interrupted g):=by unfold interrupted;cases zjb g;{exact h};{exact zSy (g:={g with Pending:=zkT g.Pending}) _ h}
@[simp] abbrev zqc (g:Guest):Bool:=pc (SmG g)
@[simp] abbrev zkz (g:Guest):Guest:=interrupted g
def zuD:Run:=rF1 (dT .guest) fun b=>(zqc b,[aT .guest (zkz b)])
def zwY (N:Nat)(a:Guest):OA:=
 let c:=(zM .i64 100 (zk3 a.Pending));let b:=({a with Pending:=(zk2 a.Pending)}:Guest); (oN (zqg a) (cond (nB (zm6 a)) (oN (zdd a) (some [(aT .guest (zcU a))])) (oN (zst a.Pending) (oN (zHK b c) (some [(aT .guest (zCt b c))])))))
theorem zIA (a:Guest)(b:zqc a=true):∃N,zwY N a=some [aT .guest (zkz a)]:=by
 have c:=zK.1 b;have d:_/\_/\_/\_:=c;refine⟨0,?_⟩;unfold zwY oN nB;conv=>zeta
 refine must rfl (brN (fun _=>mu ?_) (fun _=>must rfl (mu ?_)));all_goals first|rfl|(simp only [*,zkz,interrupted,cT,cF]<;>rfl)|simp_all[Ty.cells,zkz,interrupted]
theorem zEk:vM 341 zuD:=kF1 zgQ zx zy zn (zq []) zIA
def zAg (o:Int):Int:=bif ieq o 3 then 3 else (cond (ieq o 4) 4 (cond (ieq o 5) 5 (cond (ieq o 6) 6 (cond (ieq o 7) 7 2))))
def zbe (g:Guest):Int:=bif canRun g then (cond (zjb g) 1 (zAg (zcv g.Prog g.Pc).Op)) else 0
@[simp] abbrev zeL (g:Guest):Bool:=true
@[simp] abbrev zoS (g:Guest):Int:=zbe g
def zGC:Run:=rF1 (dT .guest) fun b=>(zeL b,[aI (zoS b)])
def zNk (N:Nat)(a:Guest):OA:=
 let b:=(zga a.Prog a.Pc).Op; (oN (zuV a) (cond (nB (zrx a)) (some [(aI 0)]) (oN (zqg a) (cond (zm6 a) (some [(aI 1)]) (oN (zfV a.Prog a.Pc) (cond (ieq b 3) (some [(aI 3)]) (cond (ieq b 4) (some [(aI 4)]) (cond (ieq b 5) (some [(aI 5)]) (cond (ieq b 6) (some [(aI 6)]) (cond (ieq b 7) (some [(aI 7)]) (some [(aI 2)])))))))))))
theorem zYf (a:Guest)(b:zeL a=true):∃N,zNk N a=some [aI (zoS a)]:=by
 refine⟨0,?_⟩;unfold zNk oN nB;conv=>zeta
 refine must rfl (brN (fun _=>?_) (fun _=>must rfl (br (fun _=>?_) (fun _=>must rfl (br (fun _=>?_) (fun _=>br (fun _=>?_) (fun _=>br (fun _=>?_) (fun _=>br (fun _=>?_) (fun _=>br (fun _=>?_) (fun _=>?_))))))))));all_goals first|rfl|(simp only [*,zoS,zbe,zAg,cT,cF]<;>rfl)|simp_all[Ty.cells,zoS,zbe,zAg]
theorem zcl:vM 340 zGC:=kF1 zgQ zx zy zn (zq []) zYf
def held (g:Guest):Guest:=zb3 {g with Halted:=true}
@[simp] theorem zZk {g:Guest}(h:SmG g):SmG (held g):=zjN (g:={g with Halted:=true}) h
@[simp] abbrev zoO (g:Guest):Bool:=pc (SmG g)
@[simp] abbrev zA0 (g:Guest):Guest:=held g
def zPC:Run:=rF1 (dT .guest) fun b=>(zoO b,[aT .guest (zA0 b)])
def zWo (N:Nat)(b:Guest):OA:=
 let a:=({b with Halted:=true}:Guest); (oN (zd9 a) (some [(aT .guest (zgK a))]))
theorem z4f (a:Guest)(b:zoO a=true):∃N,zWo N a=some [aT .guest (zA0 a)]:=by
 have c:=zK.1 b;have d:_/\_/\_/\_:=c;refine⟨0,?_⟩;unfold zWo oN;conv=>zeta
 refine mu ?_;first|rfl|(simp only [*,zA0,held,cT,cF]<;>rfl)|simp_all[Ty.cells,zA0,held]
theorem zXo:vM 184 zPC:=kF1 zgQ zx zy zn (zq []) z4f
@[simp] abbrev zBV (g:Guest):Bool:=pc (SmG g)
@[simp] abbrev zvW (g:Guest):Guest:=held g
def zPz:Run:=rF1 (dT .guest) fun b=>(zBV b,[aT .guest (zvW b)])
def zWk (N:Nat)(b:Guest):OA:=
 let a:=({b with Halted:=true}:Guest); (oN (zlS a) (some [(aT .guest (zjl a))]))
theorem z4a (a:Guest)(b:zBV a=true):∃N,zWk N a=some [aT .guest (zvW a)]:=by
 have c:=zK.1 b;have d:_/\_/\_/\_:=c;refine⟨0,?_⟩;unfold zWk oN;conv=>zeta
 refine mu ?_;first|rfl|(simp only [*,zvW,held,cT,cF]<;>rfl)|simp_all[Ty.cells,zvW,held]
theorem zXj:vM 183 zPz:=kF1 zgQ zx zy zn (zq []) z4a
@[simp] abbrev zCv (g:Guest):Bool:=pc (SmG g)
@[simp] abbrev zwA (g:Guest):Guest:=zb3 g
def zGz:Run:=rF1 (dT .guest) fun b=>(zCv b,[aT .guest (zwA b)])
def zNh (N:Nat)(a:Guest):OA:=
 (oN (zd9 a) (some [(aT .guest (zgK a))]))
theorem zYc (a:Guest)(b:zCv a=true):∃N,zNh N a=some [aT .guest (zwA a)]:=by have c:=zK.1 b;refine⟨0,?_⟩;unfold zNh oN;refine mu ?_;first|rfl|(simp only [*,zwA,cT,cF]<;>rfl)|simp_all[Ty.cells,zwA]
theorem zRb:vM 351 zGz:=kF1 zgQ zx zy zn (zq []) zYc
def loaded (g:Guest)(v:Int):Guest:=zb3 (saw {g with A:=v} v)
@[simp] theorem zPU {g:Guest}(v:Int)(h:SmG g):SmG (loaded g v):=zjN (zSy (g:={g with A:=v}) v h)
@[simp] abbrev zCo (g:Guest)(v:Int):Bool:=pc (SmG g)
@[simp] abbrev zww (g:Guest)(v:Int):Guest:=loaded g v
def zGp:Run:=rF2 (dT .guest) dI fun b c=>(zCo b c,[aT .guest (zww b c)])
def zM5 (N:Nat)(c:Guest)(a:Int):OA:=
 let b:=({c with A:=a}:Guest); (oN (zHK b a) (oN (zd9 (zCt b a)) (some [(aT .guest (zgK (zCt b a)))])))
theorem zXY (b:Guest)(a:Int)(d:zCo b a=true):∃N,zM5 N b a=some [aT .guest (zww b a)]:=by
 have c:=zK.1 d;have f:_/\_/\_/\_:=c;have e:SmG (saw {b with A:=a} a):=zSy (g:={b with A:=a}) a c;refine⟨0,?_⟩;unfold zM5 oN;conv=>zeta
 refine mu (mu ?_);first|rfl|(simp only [*,zww,loaded,cT,cF]<;>rfl)|simp_all[Ty.cells,zww,loaded]
theorem zQ1:vM 352 zGp:=kF2 zgQ zx zy zn (zq []) zXY
def z2J (g:Guest)(w:Int):Guest:=bif ieq w 5 then stopped g (zAh (zcv g.Prog g.Pc).X) else stopped g ⟨4,0,false,0⟩
@[simp] theorem zbeR {g:Guest}(w:Int)(h:SmG g):SmG (z2J g w):=by unfold z2J;cases ieq w 5<;>exact h
def zc3 (g:Guest):Bool:=zc6 g.Prog&&(win g.A 0 99&&(win g.Pc 0 12&&(zcS g.Written 4 8&&(zcS g.Live 4 8&&(zgE g.Ctl&&(zc5 g.Pending&&(zhz g.Exit&&ile (ln g.Seen) 40)))))))
@[simp] abbrev znL (g:Guest):Bool:=true
@[simp] abbrev zmb (g:Guest):Bool:=zc3 g
def zDD:Run:=rF1 (dT .guest) fun b=>(znL b,[aB (zmb b)])
def zI8 (N:Nat)(a:Guest):OA:=
 (oN (zCs a.Prog) (cond (zoQ a.Prog) (oN (zN a.A 0 99) (cond (zQ a.A 0 99) (oN (zN a.Pc 0 12) (cond (zQ a.Pc 0 12) (oN (znS a.Written 4 8) (cond (ziI a.Written 4 8) (oN (znS a.Live 4 8) (cond (ziI a.Live 4 8) (oN (ztt a.Ctl) (cond (zrz a.Ctl) (oN (zfH a.Pending) (cond (zfG a.Pending) (oN (zCn a.Exit) (cond (zwo a.Exit) (some [(aB (ile (ln a.Seen) 40))]) oF)) oF)) oF)) oF)) oF)) oF)) oF)) oF))
theorem zVa (a:Guest)(b:znL a=true):∃N,zI8 N a=some [aB (zmb a)]:=by refine⟨0,?_⟩;unfold zI8 oN;refine must rfl (br (fun _=>must rfl (br (fun _=>must rfl (br (fun _=>must rfl (br (fun _=>must rfl (br (fun _=>must rfl (br (fun _=>must rfl (br (fun _=>must rfl (br (fun _=>?_) (fun _=>?_))) (fun _=>?_))) (fun _=>?_))) (fun _=>?_))) (fun _=>?_))) (fun _=>?_))) (fun _=>?_))) (fun _=>?_));all_goals first|rfl|(simp only [*,zmb,zc3,cT,cF]<;>rfl)|simp_all[Ty.cells,zmb,zc3]
theorem zOc:vM 289 zDD:=kF1 zgQ zx zy zn (zq []) zVa
@[simp] abbrev znu (g:Guest):Bool:=true
@[simp] abbrev zlR (g:Guest):Bool:=zc3 g
def zDt:Run:=rF1 (dT .guest) fun b=>(znu b,[aB (zlR b)])
def zIR (N:Nat)(a:Guest):OA:=
 (oN (zBY a.Prog) (cond (zou a.Prog) (oN (zbY a.A 0 99) (cond (zcj a.A 0 99) (oN (zbY a.Pc 0 12) (cond (zcj a.Pc 0 12) (oN (zny a.Written 4 8) (cond (zij a.Written 4 8) (oN (zny a.Live 4 8) (cond (zij a.Live 4 8) (oN (zxv a.Ctl) (cond (zvh a.Ctl) (oN (zj1 a.Pending) (cond (zj0 a.Pending) (oN (zBT a.Exit) (cond (zvT a.Exit) (some [(aB (ile (ln a.Seen) 40))]) oF)) oF)) oF)) oF)) oF)) oF)) oF)) oF))
theorem zUT (a:Guest)(b:znu a=true):∃N,zIR N a=some [aB (zlR a)]:=by refine⟨0,?_⟩;unfold zIR oN;refine must rfl (br (fun _=>must rfl (br (fun _=>must rfl (br (fun _=>must rfl (br (fun _=>must rfl (br (fun _=>must rfl (br (fun _=>must rfl (br (fun _=>must rfl (br (fun _=>?_) (fun _=>?_))) (fun _=>?_))) (fun _=>?_))) (fun _=>?_))) (fun _=>?_))) (fun _=>?_))) (fun _=>?_))) (fun _=>?_));all_goals first|rfl|(simp only [*,zlR,zc3,cT,cF]<;>rfl)|simp_all[Ty.cells,zlR,zc3]
theorem zN2:vM 272 zDt:=kF1 zgQ zx zy zn (zq []) zUT
@[simp] abbrev zdz (l:List Guest):Bool:=pc (zlB l)
@[simp] abbrev zd6 (l:List Guest):List Guest:=l
def zwe:Run:=rF1 (dS .guest) fun b=>(zdz b,[aS .guest (zd6 b)])
def zzF (N:Nat)(c:lG):OA:=
 (iter (σ:=(Int×(Int×(lG×(lG×Unit))))) N (fun d a=>let b:=(ix a.2.2.2.1 a.2.1 zD); (cond (ilt a.2.1 a.1) (oN (inb a.2.1 (ln a.2.2.2.1)) (oN (zeH b) (oN (few (ln (ap a.2.2.1 [(zdG b)]))) (d (a.1,((zM .i64 a.2.1 1),((ap a.2.2.1 [(zdG b)]),(a.2.2.2.1,())))))))) (some [(aS .guest a.2.2.1)]))) ((ln c),(0,([],(c,())))))
def zMx:FuncId->Nat->Option Tmpl:=zq [(162,0,{n:=20,tm:=[(3,.sl 0 []),(7,.sl 1 []),(8,ti),(9,ti)],lo:=[],ro:=[(0,.guest,true),(1,.guest,false)]})]
theorem zLU (a:List Guest)(g:zdz a=true):∃N,zzF N a=some [aS .guest (zd6 a)]:=by
 have f:=zK.1 g;have e:=zc2 f.1;refine zcp fun N d=>?_;unfold zzF oN;conv=>zeta
 refine(zbo a (fun i (t:lG)=>((ln a),(i:Int),t,a,())) _ (fun _ x b j=>bif zeH x then (cond (few (ln (ap b [zdG x]))) (j (ap b [zdG x])) none) else none) (fun (t:lG)=>(some [(.one (.s .guest t))])) (fun i c t rec=>?_) (fun t rec=>?_) _ ([]) (d e.1)).trans ?_;{simp only [zbG c,zbi c,zbp c,zbj c e.1,cT]};{simp only [zbw,cF]};exact zjQ zeH zdG _ a 0 [] (fun x h=>⟨by exact zY (f.2 x h),rfl⟩) (by simpa using e.2)
theorem zFq:vM 162 zwe:=kF1 zgQ zx zy zn zMx zLU
def gAt (b:Bare)(i:Int):Guest:=bif hasB i (ln b.Guests) then ix b.Guests i zD else Ty.dflt .guest
@[simp] theorem zgC {b:Bare}(i:Int)(h:SmB b):SmG (gAt b i):=by unfold gAt;cases a:hasB i (ln b.Guests);{exact zbfe};{exact zPT h.2.1 a _}
@[simp] abbrev zzf (b:Bare)(i:Int):Bool:=pc (SmB b)
@[simp] abbrev znK (b:Bare)(i:Int):Guest:=gAt b i
@[simp] abbrev zsf (b:Bare)(i:Int):Bool:=hasB i (ln b.Guests)
def zt4:Run:=rF2 (dT .bare) dI fun b c=>(zzf b c,[aT .guest (znK b c),aB (zsf b c)])
def zI7 (N:Nat)(a:Bare)(b:Int):OA:=
 let c:=(ix a.Guests b zD); (oN (zN b 0 (wsub .i64 (ln a.Guests) 1)) (cond (nB (zQ b 0 (wsub .i64 (ln a.Guests) 1))) (some [(aT .guest (⟨[],0,0,[],[],⟨0,0,false⟩,0,⟨0,0,false,0⟩,false,[]⟩:Guest)),(aB false)]) (oN (inb b (ln a.Guests)) (oN (zdd c) (some [(aT .guest (zcU c)),(aB true)])))))
theorem zU9 (a:Bare)(b:Int)(d:zzf a b=true):∃N,zI7 N a b=some [aT .guest (znK a b),aB (zsf a b)]:=by
 have c:=zK.1 d;have e:a.Guests.length<=1048576:=c.2.1.1;have f:hasB b (ln a.Guests)=true->SmG (ix a.Guests b zD):=fun h=>zPT c.2.1 h _;refine⟨0,?_⟩;unfold zI7 oN nB;conv=>zeta
 refine must rfl (brN (fun _=>?_) (fun _=>mu (mu ?_)));all_goals first|rfl|(simp only [*,znK,zsf,gAt,Ty.dflt,cT,cF]<;>rfl)|simp_all[Ty.cells,znK,zsf,gAt,Ty.dflt]
theorem zxp:vM 198 zt4:=kF2 zgQ zx zy zn (zq []) zU9
@[simp] abbrev zdV (b:Bare)(i:Int):Bool:=pc (SmB b)
@[simp] abbrev zdT (b:Bare)(i:Int):Guest:=gAt b i
@[simp] abbrev zdU (b:Bare)(i:Int):Bool:=hasB i (ln b.Guests)
def zDs:Run:=rF2 (dT .bare) dI fun b c=>(zdV b c,[aT .guest (zdT b c),aB (zdU b c)])
def zIQ (N:Nat)(a:Bare)(b:Int):OA:=
 let c:=(ix a.Guests b zD); (oN (zdB b (ln a.Guests)) (cond (nB (zd1 b (ln a.Guests))) (some [(aT .guest (⟨[],0,0,[],[],⟨0,0,false⟩,0,⟨0,0,false,0⟩,false,[]⟩:Guest)),(aB false)]) (oN (inb b (ln a.Guests)) (oN (zeH c) (some [(aT .guest (zdG c)),(aB true)])))))
theorem zUS (a:Bare)(b:Int)(d:zdV a b=true):∃N,zIQ N a b=some [aT .guest (zdT a b),aB (zdU a b)]:=by
 have c:=zK.1 d;have e:a.Guests.length<=1048576:=c.2.1.1;have f:hasB b (ln a.Guests)=true->SmG (ix a.Guests b zD):=fun h=>zPT c.2.1 h _;refine⟨0,?_⟩;unfold zIQ oN nB;conv=>zeta
 refine must rfl (brN (fun _=>?_) (fun _=>mu (mu ?_)));all_goals first|rfl|(simp only [*,zdT,zdU,gAt,Ty.dflt,cT,cF]<;>rfl)|simp_all[Ty.cells,zdT,zdU,gAt,Ty.dflt]
theorem zN1:vM 185 zDs:=kF2 zgQ zx zy zn (zq []) zUS
def zbbn:zW:=[(341,zuD),(340,zGC),(184,zPC),(183,zPz),(351,zGz),(352,zGp),(289,zDD),(272,zDt),(162,zwe),(198,zt4),(185,zDs)]++zbbm
theorem zlI:zL zbbn:=zh zEk (zh zcl (zh zXo (zh zXj (zh zRb (zh zQ1 (zh zOc (zh zN2 (zh zFq (zh zxp (zh zN1 zgQ))))))))))
def plainly (g:Guest):Guest:=bif ine (zbe g) 2 then g else (cond (win g.A 0 99) (cond (win (zcv g.Prog g.Pc).X 0 99) (cond (ieq (zcv g.Prog g.Pc).Op 1) {zb3 g with A:=(zcv g.Prog g.Pc).X} (cond (ieq (zcv g.Prog g.Pc).Op 2) {zb3 g with A:=zrM (zM .i64 g.A (zcv g.Prog g.Pc).X) 100} (cond (ieq (zcv g.Prog g.Pc).Op 8) (cond (ieq g.A 0) {zb3 g with Pc:=(zcv g.Prog g.Pc).X} (zb3 g)) (zb3 g)))) (zb3 g)) (zb3 g))
@[simp] theorem zbe7 (g:Guest):(zb3 g).Prog=g.Prog:=by unfold zb3;cases ige g.Pc 12<;>rfl
@[simp] theorem zbfF (g:Guest):(zb3 g).A=g.A:=by unfold zb3;cases ige g.Pc 12<;>rfl
@[simp] theorem zbdT (g:Guest):(zb3 g).Written=g.Written:=by unfold zb3;cases ige g.Pc 12<;>rfl
@[simp] theorem zbe6 (g:Guest):(zb3 g).Live=g.Live:=by unfold zb3;cases ige g.Pc 12<;>rfl
@[simp] theorem zbfo (g:Guest):(zb3 g).Ctl=g.Ctl:=by unfold zb3;cases ige g.Pc 12<;>rfl
@[simp] theorem zbdS (g:Guest):(zb3 g).Pending=g.Pending:=by unfold zb3;cases ige g.Pc 12<;>rfl
@[simp] theorem zbe5 (g:Guest):(zb3 g).Exit=g.Exit:=by unfold zb3;cases ige g.Pc 12<;>rfl
@[simp] theorem zbey (g:Guest):(zb3 g).Halted=g.Halted:=by unfold zb3;cases ige g.Pc 12<;>rfl
@[simp] theorem zbe8 (g:Guest):(zb3 g).Seen=g.Seen:=by unfold zb3;cases ige g.Pc 12<;>rfl
@[simp] theorem zbfp (g:Guest)(x:Int):(zb3 {g with A:=x}).Pc=(zb3 g).Pc:=by unfold zb3;cases ige g.Pc 12<;>rfl
@[simp] theorem zKp {g:Guest}(h:SmG g):SmG (plainly g):=by have a:=zjN h;unfold plainly;cases ine (zbe g) 2;{cases win g.A 0 99;{exact a};{cases win (zcv g.Prog g.Pc).X 0 99;{exact a};{cases ieq (zcv g.Prog g.Pc).Op 1;{cases ieq (zcv g.Prog g.Pc).Op 2;{cases ieq (zcv g.Prog g.Pc).Op 8;{exact a};{cases ieq g.A 0<;>exact a}};{exact a}};{exact a}}}};{exact h}
@[simp] abbrev zzl (g:Guest):Bool:=pc (SmG g)
@[simp] abbrev ztB (g:Guest):Guest:=plainly g
def zDL:Run:=rF1 (dT .guest) fun b=>(zzl b,[aT .guest (ztB b)])
def zJk (N:Nat)(a:Guest):OA:=
 let i:=(ieq a.A 0);let c:=(zd9 a);let b:=(aT .guest (zgK a));let d:=(zga a.Prog a.Pc);let j:=({a with A:=d.X}:Guest);let h:=(ieq d.Op 8);let e:=(zQ d.X 0 99);let g:=(aT .guest ({ (zcU a) with Pc:=d.X}:Guest));let f:=({a with A:=(zrM (zM .i64 a.A d.X) 100)}:Guest); (oN (zeL a) (cond (ine (zoS a) 2) (oN (zdd a) (some [(aT .guest (zcU a))])) (oN (zfV a.Prog a.Pc) (oN (zN a.A 0 99) (cond (zQ a.A 0 99) (oN (zN d.X 0 99) (cond e (cond (ieq d.Op 1) (oN (zd9 j) (some [(aT .guest (zgK j))])) (cond e (cond (ieq d.Op 2) (oN (ine 100 0) (oN (zd9 f) (some [(aT .guest (zgK f))]))) (cond e (cond h (cond i (oN (zdd a) (some [g])) (oN c (some [b]))) (oN c (some [b]))) (oN c (some [b])))) (cond e (cond h (cond i (oN (zdd a) (some [g])) (oN c (some [b]))) (oN c (some [b]))) (oN c (some [b]))))) (cond e (cond (ieq d.Op 2) (oN (ine 100 0) (oN (zd9 f) (some [(aT .guest (zgK f))]))) (cond e (cond h (cond i (oN (zdd a) (some [g])) (oN c (some [b]))) (oN c (some [b]))) (oN c (some [b])))) (cond e (cond h (cond i (oN (zdd a) (some [g])) (oN c (some [b]))) (oN c (some [b]))) (oN c (some [b])))))) (oN c (some [b])))))))
theorem zVo (a:Guest)(b:zzl a=true):∃N,zJk N a=some [aT .guest (ztB a)]:=by
 have c:=zK.1 b;have d:_/\_/\_/\_:=c;refine⟨0,?_⟩;unfold zJk oN;conv=>zeta
 refine must rfl (br (fun _=>mu ?_) (fun _=>must rfl (must rfl (br (fun _=>must rfl (br (fun _=>br (fun _=>mu ?_) (fun _=>br (fun _=>br (fun _=>must rfl (mu ?_)) (fun _=>br (fun _=>br (fun _=>br (fun _=>mu ?_) (fun _=>mu ?_)) (fun _=>mu ?_)) (fun _=>mu ?_))) (fun _=>br (fun _=>br (fun _=>br (fun _=>mu ?_) (fun _=>mu ?_)) (fun _=>mu ?_)) (fun _=>mu ?_)))) (fun _=>br (fun _=>br (fun _=>must rfl (mu ?_)) (fun _=>br (fun _=>br (fun _=>br (fun _=>mu ?_) (fun _=>mu ?_)) (fun _=>mu ?_)) (fun _=>mu ?_))) (fun _=>br (fun _=>br (fun _=>br (fun _=>mu ?_) (fun _=>mu ?_)) (fun _=>mu ?_)) (fun _=>mu ?_))))) (fun _=>mu ?_)))));all_goals first|rfl|(simp only [*,ztB,plainly,cT,cF]<;>rfl)|simp_all[Ty.cells,ztB,plainly]
theorem zOk:vM 342 zDL:=kF1 zlI zx zy zn (zq []) zVo
def address (g:Guest):Int:=bif ine (zbe g) 3 then (cond (ine (zbe g) 4) (-1) ((zcv g.Prog g.Pc).X)) else (zcv g.Prog g.Pc).X
@[simp] abbrev zr9 (g:Guest):Bool:=true
@[simp] abbrev zjJ (g:Guest):Int:=address g
def zDC:Run:=rF1 (dT .guest) fun b=>(zr9 b,[aI (zjJ b)])
def zI2 (N:Nat)(a:Guest):OA:=
 (oN (zeL a) (cond (ine (zoS a) 3) (cond (ine (zoS a) 4) (some [(aI (-1))]) (oN (zfV a.Prog a.Pc) (some [(aI (zga a.Prog a.Pc).X)]))) (oN (zfV a.Prog a.Pc) (some [(aI (zga a.Prog a.Pc).X)]))))
theorem zU4 (a:Guest)(b:zr9 a=true):∃N,zI2 N a=some [aI (zjJ a)]:=by refine⟨0,?_⟩;unfold zI2 oN;refine must rfl (br (fun _=>br (fun _=>?_) (fun _=>must rfl ?_)) (fun _=>must rfl ?_));all_goals first|rfl|(simp only [*,zjJ,address,cT,cF]<;>rfl)|simp_all[Ty.cells,zjJ,address]
theorem zOb:vM 349 zDC:=kF1 zlI zx zy zn (zq []) zU4
def zkq (g:Guest)(t w:Int):Guest:=bif ieq w 6 then stopped g (zBx (zcv g.Prog g.Pc).X) else (cond (ieq w 5&&zhm t 1) (stopped g (zAh (zcv g.Prog g.Pc).X)) (cond (ieq w 7&&zhm t 2) (stopped g ⟨4,0,false,0⟩) (cond (ieq w 7) (held g) (zb3 g))))
def zlz (t w:Int):Bool:=bif ieq w 6 then false else (cond (ieq w 5&&zhm t 1) false (cond (ieq w 7&&zhm t 2) false true))
@[simp] theorem zG0 {g:Guest}(t w:Int)(h:SmG g):SmG (zkq g t w):=by unfold zkq;cases ieq w 6;{cases (ieq w 5&&zhm t 1);{cases (ieq w 7&&zhm t 2);{cases ieq w 7;{exact zjN h};{exact zZk h}};{exact h}};{exact h}};{exact h}
@[simp] abbrev zdX (g:Guest)(t w:Int):Bool:=pc (SmG g)
@[simp] abbrev zck (g:Guest)(t w:Int):Guest:=zkq g t w
@[simp] abbrev zdm (g:Guest)(t w:Int):Bool:=zlz t w
def zDU:Run:=rF3 (dT .guest) dI dI fun b c d=>(zdX b c d,[aT .guest (zck b c d),aB (zdm b c d)])
def zJt (N:Nat)(a:Guest)(c b:Int):OA:=
 let g:=(aT .guest (zgK a));let f:=(aT .guest (zA0 a));let e:=(⟨4,0,false,0⟩:GExit);let d:=(zga a.Prog a.Pc).X; (oN (zfV a.Prog a.Pc) (cond (ieq b 6) (oN (zp4 d) (oN (zed a (zfA d)) (some [(aT .guest (zdJ a (zfA d))),(aB false)]))) (cond (ieq b 5) (oN (zi3 c 1) (cond (ziF c 1) (oN (zsp d) (oN (zed a (zgy d)) (some [(aT .guest (zdJ a (zgy d))),(aB false)]))) (cond (ieq b 7) (oN (zi3 c 2) (cond (ziF c 2) (oN (zed a e) (some [(aT .guest (zdJ a e)),(aB false)])) (cond (ieq b 7) (oN (zoO a) (some [f,(aB true)])) (oN (zd9 a) (some [g,(aB true)]))))) (cond (ieq b 7) (oN (zoO a) (some [f,(aB true)])) (oN (zd9 a) (some [g,(aB true)])))))) (cond (ieq b 7) (oN (zi3 c 2) (cond (ziF c 2) (oN (zed a e) (some [(aT .guest (zdJ a e)),(aB false)])) (cond (ieq b 7) (oN (zoO a) (some [f,(aB true)])) (oN (zd9 a) (some [g,(aB true)]))))) (cond (ieq b 7) (oN (zoO a) (some [f,(aB true)])) (oN (zd9 a) (some [g,(aB true)])))))))
theorem zVx (a:Guest)(b c:Int)(d:zdX a b c=true):∃N,zJt N a b c=some [aT .guest (zck a b c),aB (zdm a b c)]:=by
 have e:=zK.1 d;refine⟨0,?_⟩;unfold zJt oN;conv=>zeta
 refine must rfl (br (fun _=>must rfl (mu ?_)) (fun _=>br (fun _=>must rfl (br (fun _=>must rfl (mu ?_)) (fun _=>br (fun _=>must rfl (br (fun _=>mu ?_) (fun _=>br (fun _=>mu ?_) (fun _=>mu ?_)))) (fun _=>br (fun _=>mu ?_) (fun _=>mu ?_))))) (fun _=>br (fun _=>must rfl (br (fun _=>mu ?_) (fun _=>br (fun _=>mu ?_) (fun _=>mu ?_)))) (fun _=>br (fun _=>mu ?_) (fun _=>mu ?_)))));all_goals first|rfl|(simp only [*,zck,zdm,zkq,zlz,cT,cF]<;>rfl)|simp_all[Ty.cells,zck,zdm,zkq,zlz]
theorem zOB:vM 354 zDU:=kF3 zlI zx zy zn (zq []) zVx
def zbS (b:Bare):Bool:=bif b.Guests.all zc3 then (zhP b.Memory 8&&(win (ln b.Guests) 1 2&&(ile (ln b.Outs) 40&&zc5 b.Pending))) else false
@[simp] abbrev zp0 (b:Bare):Bool:=true
@[simp] abbrev zeQ (b:Bare):Bool:=zbS b
def zGh:Run:=rF1 (dT .bare) fun b=>(zp0 b,[aB (zeQ b)])
def zMX (N:Nat)(c:Bare):OA:=
 (iter (σ:=(Int×(Int×(lM×(lG×((List Int)×Unit)))))) N (fun d a=>let b:=a.2.2.2.1; (cond (ilt a.1 (ln b)) (oN (inb a.1 (ln b)) (oN (znL (ix b a.1 zD)) (cond (nB (zmb (ix b a.1 zD))) oF (d ((zM .i64 a.1 1),(a.2.1,(a.2.2.1,(b,(a.2.2.2.2.1,()))))))))) (oN (zty a.2.2.1 8) (cond (zm3 a.2.2.1 8) (oN (zN (ln b) 1 2) (cond (zQ (ln b) 1 2) (cond (ile (ln a.2.2.2.2.1) 40) (oN (zfH a.2.1) (some [(aB (zfG a.2.1))])) oF) oF)) oF)))) (0,(c.Pending,(c.Memory,(c.Guests,(c.Outs,()))))))
def zZI:FuncId->Nat->Option Tmpl:=zq [(236,0,{n:=38,tm:=[(1,.lp 0 0),(3,ti)],lo:=[(0,[.sl 0 [],.sl 1 [],.sl 2 [],ti])],ro:=[(0,(.sl .int),false),(1,.guest,false),(2,.int,false)]})]
theorem zXQ (a:Bare)(k:zci big [aT .bare a])(m:zp0 a=true):∃N,zMX N a=some [aB (zeQ a)]:=by
 have j:(_:List _).length<=big:=((zc8 k).1 (.s .guest a.Guests) (by simp[AV.cvs,Ty.cells])).len;refine zcp fun N h=>?_;unfold zMX oN nB;conv=>zeta
 refine(zbo a.Guests (fun i (t:Unit)=>((i:Int),a.Pending,a.Memory,a.Guests,a.Outs,())) _ (fun _ x (_:Unit) l=>bif (zc3) x then l () else oF) (fun (t:Unit)=>(cond (zty a.Memory 8) (cond (zm3 a.Memory 8) (cond (zN (ln a.Guests) 1 2) (cond (zQ (ln a.Guests) 1 2) (cond (ile (ln a.Outs) 40) (cond (zfH a.Pending) (some [(.one (.b (zfG a.Pending)))]) none) oF) oF) none) oF) none)) (fun i f t rec=>?_) (fun t rec=>?_) _ () (h j)).trans ?_;{simp only [zbG f,zbi f,zbp f,zbj f j,cT];exact ziM rfl};{simp only [zbw,cF]};rw[zgG (zc3)];refine br (fun c=>?_) (fun c=>?_);{refine must rfl ?_;refine br (fun d=>?_) (fun d=>?_);{refine must rfl ?_;refine br (fun e=>?_) (fun e=>?_);{refine br (fun g=>?_) (fun g=>?_);{refine must rfl ?_;first|rfl|(simp only [c,d,e,g,zeQ,zbS,cT,cF]<;>rfl)|(simp_all [Ty.cells,zeQ,zbS];done)};{first|rfl|(simp only [c,d,e,g,zeQ,zbS,cT,cF]<;>rfl)|(simp_all [Ty.cells,zeQ,zbS];done)}};{first|rfl|(simp only [c,d,e,zeQ,zbS,cT,cF]<;>rfl)|(simp_all [Ty.cells,zeQ,zbS];done)}};{first|rfl|(simp only [c,d,zeQ,zbS,cT,cF]<;>rfl)|(simp_all [Ty.cells,zeQ,zbS];done)}};{first|rfl|(simp only [c,zeQ,zbS,cT,cF]<;>rfl)|(simp_all [Ty.cells,zeQ,zbS];done)}
theorem zQT:vM 236 zGh:=hF1 zlI zx zy zn zZI zXQ
@[simp] abbrev zfv (b:Bare):Bool:=true
@[simp] abbrev zdl (b:Bare):Bool:=zbS b
def zFZ:Run:=rF1 (dT .bare) fun b=>(zfv b,[aB (zdl b)])
def zMG (N:Nat)(b:Bare):OA:=
 (iter (σ:=(Int×(Int×(Int×(lG×(lM×((List Int)×Unit))))))) N (fun e a=>let c:=a.2.2.2.1;let d:=(ix c a.2.1 zD); (cond (ilt a.2.1 a.1) (oN (inb a.2.1 (ln c)) (oN (znu d) (cond (nB (zlR d)) oF (e (a.1,((zM .i64 a.2.1 1),(a.2.2.1,(c,(a.2.2.2.2.1,(a.2.2.2.2.2.1,())))))))))) (oN (ztj a.2.2.2.2.1 8) (cond (zmJ a.2.2.2.2.1 8) (oN (zbY (ln c) 1 2) (cond (zcj (ln c) 1 2) (cond (ile (ln a.2.2.2.2.2.1) 40) (oN (zj1 a.2.2.1) (some [(aB (zj0 a.2.2.1))])) oF) oF)) oF)))) ((ln b.Guests),(0,(b.Pending,(b.Guests,(b.Memory,(b.Outs,())))))))
def zZB:FuncId->Nat->Option Tmpl:=zq [(207,0,{n:=36,tm:=[(1,.lp 0 0),(6,.sl 0 []),(7,ti),(8,ti)],lo:=[(0,[.sl 1 [],.sl 0 [],.sl 2 [],ti])],ro:=[(0,.guest,false),(1,(.sl .int),false),(2,.int,false)]})]
theorem zXy (a:Bare)(k:zci big [aT .bare a])(m:zfv a=true):∃N,zMG N a=some [aB (zdl a)]:=by
 have j:(_:List _).length<=big:=((zc8 k).1 (.s .guest a.Guests) (by simp[AV.cvs,Ty.cells])).len;refine zcp fun N h=>?_;unfold zMG oN nB;conv=>zeta
 refine(zbo a.Guests (fun i (t:Unit)=>((ln a.Guests),(i:Int),a.Pending,a.Guests,a.Memory,a.Outs,())) _ (fun _ x (_:Unit) l=>bif (zc3) x then l () else oF) (fun (t:Unit)=>(cond (ztj a.Memory 8) (cond (zmJ a.Memory 8) (cond (zbY (ln a.Guests) 1 2) (cond (zcj (ln a.Guests) 1 2) (cond (ile (ln a.Outs) 40) (cond (zj1 a.Pending) (some [(.one (.b (zj0 a.Pending)))]) none) oF) oF) none) oF) none)) (fun i f t rec=>?_) (fun t rec=>?_) _ () (h j)).trans ?_;{simp only [zbG f,zbi f,zbp f,zbj f j,cT];exact ziM rfl};{simp only [zbw,cF]};rw[zgG (zc3)];refine br (fun c=>?_) (fun c=>?_);{refine must rfl ?_;refine br (fun d=>?_) (fun d=>?_);{refine must rfl ?_;refine br (fun e=>?_) (fun e=>?_);{refine br (fun g=>?_) (fun g=>?_);{refine must rfl ?_;first|rfl|(simp only [c,d,e,g,zdl,zbS,cT,cF]<;>rfl)|(simp_all [Ty.cells,zdl,zbS];done)};{first|rfl|(simp only [c,d,e,g,zdl,zbS,cT,cF]<;>rfl)|(simp_all [Ty.cells,zdl,zbS];done)}};{first|rfl|(simp only [c,d,e,zdl,zbS,cT,cF]<;>rfl)|(simp_all [Ty.cells,zdl,zbS];done)}};{first|rfl|(simp only [c,d,zdl,zbS,cT,cF]<;>rfl)|(simp_all [Ty.cells,zdl,zbS];done)}};{first|rfl|(simp only [c,zdl,zbS,cT,cF]<;>rfl)|(simp_all [Ty.cells,zdl,zbS];done)}
theorem zQB:vM 207 zFZ:=hF1 zlI zx zy zn zZB zXy
@[simp] abbrev zcV (b:Bare):Bool:=pc (SmB b)
@[simp] abbrev zek (b:Bare):Bare:=b
def zAz:Run:=rF1 (dT .bare) fun b=>(zcV b,[aT .bare (zek b)])
def zEr (N:Nat)(a:Bare):OA:=
 (oN (zg9 a.Memory) (oN (zdz a.Guests) (oN (zdA a.Outs) (some [(aT .bare (⟨(zeY a.Memory),(zd6 a.Guests),(zdu a.Outs),a.Pending⟩:Bare))]))))
theorem zRD (a:Bare)(b:zcV a=true):∃N,zEr N a=some [aT .bare (zek a)]:=by have c:=zK.1 b;have d:_/\_/\_:=c;refine⟨0,?_⟩;unfold zEr oN;refine mu (mu (mu ?_));first|rfl|(simp only [*,zek,cT,cF]<;>rfl)|simp_all[Ty.cells,zek]
theorem zK9:vM 206 zAz:=kF1 zlI zx zy zn (zq []) zRD
@[simp] abbrev zfl (b:Bare):Bool:=pc (SmB b)
@[simp] abbrev zcu (b:Bare):Bare:=b
def zDT:Run:=rF1 (dT .bare) fun b=>(zfl b,[aT .bare (zcu b)])
def zJs (N:Nat)(a:Bare):OA:=
 (oN (zgk a.Memory) (oN (zfX a.Guests) (oN (few (ln (ap [] a.Outs))) (some [(aT .bare (⟨(zew a.Memory),(zgn a.Guests),(ap [] a.Outs),a.Pending⟩:Bare))]))))
theorem zVw (a:Bare)(b:zfl a=true):∃N,zJs N a=some [aT .bare (zcu a)]:=by have c:=zK.1 b;have d:_/\_/\_:=c;refine⟨0,?_⟩;unfold zJs oN;refine mu (mu (mu ?_));first|rfl|(simp only [*,zcu,cT,cF]<;>rfl)|simp_all[Ty.cells,zcu]
theorem zOA:vM 169 zDT:=kF1 zlI zx zy zn (zq []) zVw
def zbbo:zW:=[(342,zDL),(349,zDC),(354,zDU),(236,zGh),(207,zFZ),(206,zAz),(169,zDT)]++zbbn
theorem zWW:zL zbbo:=zh zOk (zh zOb (zh zOB (zh zQT (zh zQB (zh zK9 (zh zOA zlI))))))
def zdZ (b:Bare)(i:Int)(x:Guest):Bare:={b with Guests:=up b.Guests i x}
def zfd (b:Bare)(i:Int)(x:Guest):Bare:=bif hasB i (ln b.Guests) then zdZ b i x else b
def zpI (b:Bare)(n:Int):Bare:=bif ilt (ln b.Outs) 40 then {b with Outs:=ap b.Outs [n]} else b
@[simp] theorem zoW {b:Bare}{i:Int}{x:Guest}(h:SmB b)(a:SmG x):SmB (zdZ b i x):=⟨h.1,zHO h.2.1 a,h.2.2⟩
@[simp] theorem z5f {b:Bare}{n:Int}(h:SmB b):SmB (zpI b n):=by unfold zpI;cases a:ilt (ln b.Outs) 40;{exact h};{have:=qE a;refine⟨h.1,h.2.1,?_⟩;simp[ln] at *;omega}
@[simp] theorem zbfz (b:Bare)(n:Int):(zpI b n).Guests=b.Guests:=by unfold zpI;cases ilt (ln b.Outs) 40<;>rfl
@[simp] theorem zCK {m:List (List Int)}{p c v:Int}(h:SmM m):SmM (zbN m p c v):=by unfold zbN;cases a:zin m p c;{exact h};{cases b:win v 0 99;{exact h};{exact zPW h (by simpa using zbeL h ((zCc m p c).1 a).1 [])}}
@[simp] abbrev zdg (b:Bare)(i:Int)(x:Guest):Bool:=pc (SmB b/\SmG x)
@[simp] abbrev zec (b:Bare)(i:Int)(x:Guest):Bare:=zfd b i x
def zxM:Run:=rF3 (dT .bare) dI (dT .guest) fun b c d=>(zdg b c d,[aT .bare (zec b c d)])
def zCV (N:Nat)(a:Bare)(b:Int)(c:Guest):OA:=
 (oN (zcV a) (oN (zdB b (ln a.Guests)) (cond (zd1 b (ln a.Guests)) (oN (zeH c) (oN (inb b (ln (zek a).Guests)) (share (up (zek a).Guests b (zdG c)) (fun d=>(some [(aT .bare ({ (zek a) with Guests:=d}:Bare))]))))) (some [(aT .bare (zek a))]))))
theorem zOS (a:Bare)(b:Int)(c:Guest)(d:zdg a b c=true):∃N,zCV N a b c=some [aT .bare (zec a b c)]:=by have e:=zK.1 d;refine⟨0,?_⟩;unfold zCV oN;refine mu (must rfl (br (fun _=>mu (mu (shr ?_))) (fun _=>?_)));all_goals first|rfl|(simp only [*,zec,zfd,zdZ,cT,cF]<;>rfl)|simp_all[Ty.cells,zec,zfd,zdZ]
theorem zHW:vM 257 zxM:=kF3 zWW zx zy zn (zq []) zOS
def z3j:zW:=[(257,zxM)]++zbbo
theorem zvF:zL z3j:=zh zHW zWW
def zpc (b:Bare)(g:Int)(x:Guest)(w:Bool):Bare :=
 bif zfN x.Live (zbk (address x)) (zcf w) then
  (bif w then zdZ {b with Memory:=zbN b.Memory (zcE x.Live (zbk (address x)) (zcf w)) (zde (address x)) x.A} g (zb3 x)
  else zdZ b g (loaded x (cellAt b.Memory (zcE x.Live (zbk (address x)) (zcf w)) (zde (address x)))))
 else zdZ b g (stopped x (zsX (zbk (address x)) w))
def zHP (b:Bare)(g:Int)(x:Guest)(w:Int):Bare :=
 zdZ (cond (cond (zlz x.Ctl.Traps w) (ieq w 5) false) (zpI b (zcv x.Prog x.Pc).X) b) g (zkq x x.Ctl.Traps w)
def stepped (b:Bare)(g:Int)(x:Guest)(w:Int):Bare :=
 bif ieq w 1 then zdZ b g (interrupted x) else (cond (ieq w 2) (zdZ b g (plainly x)) (cond (ieq w 3) (zpc b g x false) (cond (ieq w 4) (zpc b g x true) (zHP b g x w))))
def zmv (b:Bare)(g:Int):Bool:=bif hasB g (ln b.Guests) then (cond (zbS b) (!ieq (zbe (gAt b g)) 0) false) else false
def ziO (b:Bare)(g:Int):Bare:=bif zmv b g then stepped b g (gAt b g) (zbe (gAt b g)) else b
@[simp] theorem z2y {b:Bare}{g:Int}{x:Guest}{w:Bool}(h:SmB b)(a:SmG x):SmB (zpc b g x w):=by unfold zpc;cases zfN x.Live (zbk (address x)) (zcf w);{exact zoW h a};{cases w;{exact zoW h (zPU _ a)};{exact⟨zCK h.1,zHO h.2.1 (zjN a),h.2.2⟩}}
@[simp] theorem zbdF {b:Bare}{g:Int}{x:Guest}{w:Int}(h:SmB b)(a:SmG x):SmB (zHP b g x w):=by unfold zHP;cases (cond (zlz x.Ctl.Traps w) (ieq w 5) false);{exact zoW h (zG0 _ _ a)};{exact zoW (z5f h) (zG0 _ _ a)}
@[simp] theorem z1D {b:Bare}{g:Int}{x:Guest}{w:Int}(h:SmB b)(a:SmG x):SmB (stepped b g x w):=by unfold stepped;cases ieq w 1;{cases ieq w 2;{cases ieq w 3;{cases ieq w 4;{exact zbdF h a};{exact z2y h a}};{exact z2y h a}};{exact zoW h (zKp a)}};{exact zoW h (z2z a)}
@[simp] theorem zbfB {b:Bare}{g:Int}(h:SmB b):SmB (ziO b g):=by unfold ziO;cases zmv b g;{exact h};{exact z1D h (zgC g h)}
theorem zbfj (x:Guest):ieq (zbe x) 0=false->ieq (zbe x) 1=false->ieq (zbe x) 2=false->ieq (zbe x) 3=false->ieq (zbe x) 4=false->ieq (zbe x) 5=false->ieq (zbe x) 6=false->ieq (zbe x) 7=true:=by unfold zbe zAg;cases canRun x;{intro h;cases h};{cases zjb x;{simp only [cT,cF];generalize (zcv x.Prog x.Pc).Op=o;cases ieq o 3<;>cases ieq o 4<;>cases ieq o 5<;>cases ieq o 6<;>cases ieq o 7<;>simp [ieq]};{intro _ h;cases h}}
theorem zbda {x:Int}{a b:Int}(h:ieq x a=true)(c:ieq a b=false):ieq x b=false:=by have:x=a:=(by simpa [ieq] using h);rw[this];exact c
def SmK (k:Kept):Prop:=k.Known.length<=1048576/\k.Slots.length<=1048576
def zEX (l:List Kept):Prop:=l.length<=1048576/\∀x∈l,SmK x
def zfp (m:Mon):Prop:=m.Outer.length<=1048576/\SmM m.Out/\m.Dirty.length<=1048576/\zlB m.Guests/\m.Outs.length<=1048576/\zEX m.Tables
def zsO (l:List Mon):Prop:=l.length<=1048576/\∀x∈l,zfp x
def SmH (h:Host):Prop:=SmM h.Memory/\zsO h.Mons/\h.Buffer.length<=1048576/\h.IoBuffer.length<=1048576
@[simp] theorem zzR (k:Kept):(∀c∈Ty.cells .kept k,CVB sm c)↔SmK k:=by simp[Ty.cells,SmK,sm_v]
@[simp] theorem z9l (l:List Kept):CVB sm (.s .kept l)↔zEX l:=by rw[zmy];simp only[zzR];rfl
@[simp] theorem z1T (m:Mon):(∀c∈Ty.cells .mon m,CVB sm c)↔zfp m:=by simp only[Ty.cells,qG,qN,or_false,vI,forall_eq,zqZ,zw7,z9l,z3s,z0i,z0h,zbbF,and_true,true_and];rfl
@[simp] theorem zbcR (l:List Mon):CVB sm (.s .mon l)↔zsO l:=by rw[zmy];simp only[z1T];rfl
@[simp] theorem zT (h:Host):zcc h↔SmH h:=by unfold zcc;simp only[zbf,qG,qN,or_false,vI,forall_eq,zqZ,zbcR,zW1];rfl
theorem zbJ {p:Prop}(h:p):pc p=true:=zY h
theorem zA7 {l:List Kept}{i:Int}{x:Kept}(h:zEX l)(b:SmK x):zEX (up l i x):=by refine⟨by simpa using h.1,fun y a=>?_⟩;rcases qY a with a|rfl;{exact h.2 y a};{exact b}
theorem zjO {l:List Mon}{i:Int}{x:Mon}(h:zsO l)(b:zfp x):zsO (up l i x):=by refine⟨by simpa using h.1,fun y a=>?_⟩;rcases qY a with a|rfl;{exact h.2 y a};{exact b}
theorem zo0 {a:Type}{l:List a}(h:l.length<=1048576):few (ln (ap [] l))=true:=by rw[znq,zbcZ];omega
@[simp] abbrev zbV (h:Host):Bool:=pc (zcc h)
@[simp] abbrev zu (h:Host):Host:=h
def zDV:Run:=rF1 dH fun b=>(zbV b,[aH (zu b)])
def zJu (N:Nat)(b:Host):OA:=
 (oN (zgk b.Memory) (oN (few (ln (ap [] b.Buffer))) (oN (few (ln (ap [] b.IoBuffer))) (iter (σ:=(Int×(lM×(lN×(lE×(lE×(lM×(lN×(lE×(lE×(lM×(lN×(lE×(lE×Unit)))))))))))))) N (fun f a=>let e:=a.2.2.2.2.2.2.2.2.2.2.2.2.1;let d:=(ix a.2.2.1 a.1 zi);let c:=(ap a.2.2.2.2.2.2.2.2.2.2.1 [(zoU d)]); (cond (ilt a.1 (ln a.2.2.1)) (oN (inb a.1 (ln a.2.2.1)) (oN (zkk d) (oN (few (ln c)) (f ((zM .i64 a.1 1),(a.2.1,(a.2.2.1,(a.2.2.2.1,(a.2.2.2.2.1,(a.2.2.2.2.2.1,(a.2.2.2.2.2.2.1,(a.2.2.2.2.2.2.2.1,(a.2.2.2.2.2.2.2.2.1,(a.2.2.2.2.2.2.2.2.2.1,(c,(a.2.2.2.2.2.2.2.2.2.2.2.1,(e,()))))))))))))))))) (some [(aH (⟨a.2.2.2.2.2.2.2.2.2.1,a.2.2.2.2.2.2.2.2.2.2.1,a.2.2.2.2.2.2.2.2.2.2.2.1,e⟩:Host))]))) (0,(b.Memory,(b.Mons,(b.Buffer,(b.IoBuffer,([],([],([],([],((zew b.Memory),([],((ap [] b.Buffer),((ap [] b.IoBuffer),())))))))))))))))))
def zVY:FuncId->Nat->Option Tmpl:=zq [(73,0,{n:=36,tm:=[(1,.lp 0 0),(2,.lp 1 0),(3,.lp 2 0),(4,ti)],lo:=[(0,[.sl 0 [],.sl 1 [],.sl 2 [],.sl 3 []]),(1,[.sl 4 [],.sl 5 [],.sl 6 [],.sl 7 []]),(2,[.sl 8 [],.sl 9 [],.sl 10 [],.sl 11 []])],ro:=[(0,(.sl .int),false),(1,.mon,false),(2,.entry,false),(3,.entry,false),(4,(.sl .int),true),(5,.mon,true),(6,.entry,true),(7,.entry,true),(8,(.sl .int),true),(9,.mon,true),(10,.entry,true),(11,.entry,true)]})]
theorem zVy (a:Host)(k:zbV a=true):∃N,zJu N a=some [aH (zu a)]:=by
 obtain⟨g,f,h,j⟩:=(zT a).1 (zK.1 k);have e:=zc2 f.1;refine zcp fun N d=>?_;unfold zJu oN;conv=>zeta
 refine must (zbJ ((zqZ _).2 g)) (must (zo0 h) (must (zo0 j) ?_));refine(zbo a.Mons (fun i (t:lN)=>((i:Int),a.Memory,a.Mons,a.Buffer,a.IoBuffer,[],[],[],[],(zew a.Memory),t,(ap [] a.Buffer),(ap [] a.IoBuffer),())) _ (fun _ x b m=>bif zkk x then (cond (few (ln (ap b [zoU x]))) (m (ap b [zoU x])) none) else none) (fun (t:lN)=>(some [(.agg (zbf (⟨(zew a.Memory),t,(ap [] a.Buffer),(ap [] a.IoBuffer)⟩:Host)))])) (fun i c t rec=>?_) (fun t rec=>?_) _ ([]) (d e.1)).trans ?_;{simp only [zbG c,zbi c,zbp c,zbj c e.1,cT]};{simp only [zbw,cF]};exact zjQ zkk zoU _ a.Mons 0 [] (fun x l=>⟨zbJ ((z1T x).2 (f.2 x l)),rfl⟩) (by simpa using e.2)
theorem zOD:vM 73 zDV:=kF1 zvF zx zy zn zVY zVy
@[simp] abbrev zhB (k:Kept):Bool:=pc (SmK k)
@[simp] abbrev zdN (k:Kept):Kept:=k
def zAC:Run:=rF1 (dT .kept) fun b=>(zhB b,[aT .kept (zdN b)])
def zEu (N:Nat)(a:Kept):OA:=
 (oN (few (ln (ap [] a.Known))) (oN (zfT a.Slots) (some [(aT .kept (⟨(ap [] a.Known),(zdW a.Slots)⟩:Kept))])))
theorem zRG (a:Kept)(b:zhB a=true):∃N,zEu N a=some [aT .kept (zdN a)]:=by have c:=zK.1 b;obtain⟨f,g⟩:=c;have d:a.Known.length<=2147483648:=(by omega);have e:a.Slots.length<=2147483648:=(by omega);refine⟨0,?_⟩;unfold zEu oN;refine mu (mu ?_);first|rfl|(simp only [*,zdN,cT,cF]<;>rfl)|simp_all[Ty.cells,zdN]
theorem zLc:vM 201 zAC:=kF1 zvF zx zy zn (zq []) zRG
def zbbb:zW:=[(73,zDV),(201,zAC)]++z3j
theorem zWU:zL zbbb:=zh zOD (zh zLc zvF)
@[simp] abbrev zkS (m:Mon):Bool:=pc (zfp m)
@[simp] abbrev zlW (m:Mon):Mon:=m
def zDy:Run:=rF1 (dT .mon) fun b=>(zkS b,[aT .mon (zlW b)])
def zIY (N:Nat)(b:Mon):OA:=
 (oN (zfT b.Outer) (oN (zg9 b.Out) (oN (few (ln (ap [] b.Dirty))) (oN (zdz b.Guests) (oN (zdA b.Outs) (iter (σ:=(Int×(Int×(Int×(Int×(Int×(Int×(Int×(Int×(lK×(lK×(lS×(lM×(lB×(lG×((List Int)×(lS×(lM×(lB×(lG×((List Int)×(lK×Unit)))))))))))))))))))))) N (fun i a=>let h:=a.2.2.2.2.2.2.2.2.2.2.2.2.1;let g:=a.2.2.2.2.2.2.2.2.2.2.2.2.2.1;let f:=a.2.2.2.2.2.2.2.2.2.2.2.2.2.2.1;let e:=a.2.2.2.2.2.2.2.2.1;let d:=a.2.2.2.2.2.2.2.2.2.1;let c:=(ix d a.2.1 zfO); (cond (ilt a.2.1 a.1) (oN (inb a.2.1 (ln d)) (oN (zhB c) (oN (few (ln (ap e [(zdN c)]))) (i (a.1,((zM .i64 a.2.1 1),(a.2.2.1,(a.2.2.2.1,(a.2.2.2.2.1,(a.2.2.2.2.2.1,(a.2.2.2.2.2.2.1,(a.2.2.2.2.2.2.2.1,((ap e [(zdN c)]),(d,(a.2.2.2.2.2.2.2.2.2.2.1,(a.2.2.2.2.2.2.2.2.2.2.2.1,(h,(g,(f,(a.2.2.2.2.2.2.2.2.2.2.2.2.2.2.2.1,(a.2.2.2.2.2.2.2.2.2.2.2.2.2.2.2.2.1,(a.2.2.2.2.2.2.2.2.2.2.2.2.2.2.2.2.2.1,(a.2.2.2.2.2.2.2.2.2.2.2.2.2.2.2.2.2.2.1,(a.2.2.2.2.2.2.2.2.2.2.2.2.2.2.2.2.2.2.2.1,(a.2.2.2.2.2.2.2.2.2.2.2.2.2.2.2.2.2.2.2.2.1,()))))))))))))))))))))))))) (some [(aT .mon (⟨a.2.2.2.2.2.2.2.2.2.2.1,a.2.2.2.2.2.2.2.2.2.2.2.1,h,g,f,a.2.2.1,a.2.2.2.1,e,a.2.2.2.2.1⟩:Mon))]))) ((ln b.Tables),(0,(b.Pending,(b.Traps,(b.Own,(0,(0,(0,([],(b.Tables,((zdW b.Outer),((zeY b.Out),((ap [] b.Dirty),((zd6 b.Guests),((zdu b.Outs),([],([],([],([],([],([],())))))))))))))))))))))))))))
def zVS:FuncId->Nat->Option Tmpl:=zq [(225,0,{n:=44,tm:=[(1,.lp 0 0),(2,.lp 1 0),(3,.sl 0 []),(29,.sl 1 []),(30,ti),(31,ti)],lo:=[(0,[.sl 2 [],.sl 3 [],.sl 4 [],.sl 5 [],.sl 6 [],ti,ti,.sl 1 [],ti]),(1,[.sl 7 [],.sl 8 [],.sl 9 [],.sl 10 [],.sl 11 [],ti,ti,.sl 12 [],ti])],ro:=[(0,.kept,true),(1,.kept,false),(2,.slot,true),(3,(.sl .int),true),(4,.bool,true),(5,.guest,true),(6,.int,true),(7,.slot,true),(8,(.sl .int),true),(9,.bool,true),(10,.guest,true),(11,.int,true),(12,.kept,true)]})]
theorem zU0 (a:Mon)(p:zkS a=true):∃N,zIY N a=some [aT .mon (zlW a)]:=by
 obtain⟨s,l,m,n,u,f⟩:=zK.1 p;have e:=zc2 f.1;refine zcp fun N d=>?_;unfold zIY oN;conv=>zeta
 have g:zfT a.Outer=true:=(by simp;omega);have h:zg9 a.Out=true:=(by simp;exact l);have j:zdz a.Guests=true:=(by simp;exact n);have k:zdA a.Outs=true:=(by simp;omega);refine must g (must h (must (zo0 m) (must j (must k ?_))));refine(zbo a.Tables (fun i (t:lK)=>((ln a.Tables),(i:Int),a.Pending,a.Traps,a.Own,0,0,0,t,a.Tables,(zdW a.Outer),(zeY a.Out),(ap [] a.Dirty),(zd6 a.Guests),(zdu a.Outs),[],[],[],[],[],[],())) _ (fun _ x b r=>bif zhB x then (cond (few (ln (ap b [zdN x]))) (r (ap b [zdN x])) none) else none) (fun (t:lK)=>(some [(.agg (Ty.cells .mon (⟨(zdW a.Outer),(zeY a.Out),(ap [] a.Dirty),(zd6 a.Guests),(zdu a.Outs),a.Pending,a.Traps,t,a.Own⟩:Mon)))])) (fun i c t rec=>?_) (fun t rec=>?_) _ ([]) (d e.1)).trans ?_;{simp only [zbG c,zbi c,zbp c,zbj c e.1,cT]};{simp only [zbw,cF]};exact zjQ zhB zdN _ a.Tables 0 [] (fun x q=>⟨zbJ (f.2 x q),rfl⟩) (by simpa using e.2)
theorem zN7:vM 225 zDy:=kF1 zWU zx zy zn zVS zU0
def zbbc:zW:=[(225,zDy)]++zbbb
theorem zBB:zL zbbc:=zh zN7 zWU
@[simp] abbrev zgs (h:Host):Bool:=pc (zcc h)
@[simp] abbrev zj3 (h:Host):Host:=h
def zAA:Run:=rF1 dH fun b=>(zgs b,[aH (zj3 b)])
def zEs (N:Nat)(b:Host):OA:=
 (oN (zg9 b.Memory) (oN (few (ln (ap [] b.Buffer))) (oN (few (ln (ap [] b.IoBuffer))) (iter (σ:=(Int×(Int×(lN×(lM×(lN×(lE×(lE×(lM×(lN×(lE×(lE×Unit)))))))))))) N (fun e a=>let d:=(ix a.2.2.1 a.2.1 zi);let c:=(ap a.2.2.2.2.2.2.2.2.1 [(zlW d)]); (cond (ilt a.2.1 a.1) (oN (inb a.2.1 (ln a.2.2.1)) (oN (zkS d) (oN (few (ln c)) (e (a.1,((zM .i64 a.2.1 1),(a.2.2.1,(a.2.2.2.1,(a.2.2.2.2.1,(a.2.2.2.2.2.1,(a.2.2.2.2.2.2.1,(a.2.2.2.2.2.2.2.1,(c,(a.2.2.2.2.2.2.2.2.2.1,(a.2.2.2.2.2.2.2.2.2.2.1,()))))))))))))))) (some [(aH (⟨a.2.2.2.2.2.2.2.1,a.2.2.2.2.2.2.2.2.1,a.2.2.2.2.2.2.2.2.2.1,a.2.2.2.2.2.2.2.2.2.2.1⟩:Host))]))) ((ln b.Mons),(0,(b.Mons,([],([],([],([],((zeY b.Memory),([],((ap [] b.Buffer),((ap [] b.IoBuffer),())))))))))))))))
def zSF:FuncId->Nat->Option Tmpl:=zq [(123,0,{n:=34,tm:=[(2,.lp 0 0),(3,.lp 1 0),(19,.sl 0 []),(20,ti),(21,ti)],lo:=[(0,[.sl 1 [],.sl 2 [],.sl 3 [],.sl 4 []]),(1,[.sl 5 [],.sl 6 [],.sl 7 [],.sl 8 []])],ro:=[(0,.mon,false),(1,(.sl .int),true),(2,.mon,true),(3,.entry,true),(4,.entry,true),(5,(.sl .int),true),(6,.mon,true),(7,.entry,true),(8,.entry,true)]})]
theorem zRE (a:Host)(l:zgs a=true):∃N,zEs N a=some [aH (zj3 a)]:=by
 obtain⟨h,f,j,k⟩:=(zT a).1 (zK.1 l);have e:=zc2 f.1;refine zcp fun N d=>?_;unfold zEs oN;conv=>zeta
 have g:zg9 a.Memory=true:=(by simp;exact h);refine must g (must (zo0 j) (must (zo0 k) ?_));refine(zbo a.Mons (fun i (t:lN)=>((ln a.Mons),(i:Int),a.Mons,[],[],[],[],(zeY a.Memory),t,(ap [] a.Buffer),(ap [] a.IoBuffer),())) _ (fun _ x b n=>bif zkS x then (cond (few (ln (ap b [zlW x]))) (n (ap b [zlW x])) none) else none) (fun (t:lN)=>(some [(.agg (zbf (⟨(zeY a.Memory),t,(ap [] a.Buffer),(ap [] a.IoBuffer)⟩:Host)))])) (fun i c t rec=>?_) (fun t rec=>?_) _ ([]) (d e.1)).trans ?_;{simp only [zbG c,zbi c,zbp c,zbj c e.1,cT]};{simp only [zbw,cF]};exact zjQ zkS zlW _ a.Mons 0 [] (fun x m=>⟨zbJ (f.2 x m),rfl⟩) (by simpa using e.2)
theorem zLa:vM 123 zAA:=kF1 zBB zx zy zn zSF zRE
def allI {a:Type}(p:Nat->a->Bool):List a->Nat->Bool
 |[],_=>true
 |x::l,i=>p i x&&allI p l (i+1)
theorem zK2 {a b:Type}(p:Nat->a->Bool)(r:Option b)(K:Unit->Option b):∀(l:List a) (i:Nat),goL (fun i x (_:Unit) k=>bif p i x then k () else r) K l i ()=bif allI p l i then K () else r
 |[],_=>rfl
 |x::l,i=>by simp only[goL,allI];cases p i x;{rfl};{simp only [cT,u0];exact zK2 p r K l (i+1)}
theorem zTk {a:Type}(q:a->Bool)(l:List a)(d:a):∀(n i:Nat),i+n<=l.length->zph (fun j=>q (ix l (j:Int) d)) n i=((l.drop i).take n).all q
 | 0,i,_=>by simp[zph]
 |n+1,i,h=>by have b:i<l.length:=(by omega);rw[kX b,List.take_succ_cons,kW,<- zTk q l d n (i+1) (by omega)];simp only[zph,zbp b]
def sameKey (a b:Entry):Bool:=bif ieq a.Tag b.Tag then ieq a.Page b.Page else false
def alone (l:List Entry)(i:Nat)(x:Entry):Bool:=(l.take i).all fun y=>!sameKey x y
def zff (l:List Entry):Bool:=bif allI (alone l) l 0 then ile (ln l) 6 else false
theorem z9z {a:Type}{l:List a}{i:Nat}(h:i<=l.length):inr 0 (i:Int) (ln l)=true:=qJ (by simp only[ln];omega)
@[simp] abbrev zpu (l:List Entry):Bool:=true
@[simp] abbrev zpt (l:List Entry):Bool:=zff l
def zAv:Run:=rF1 (dS .entry) fun b=>(zpu b,[aB (zpt b)])
def zEo (N:Nat)(g:lE):OA:=
 (iter (σ:=(Int×(Int×(lE×Unit)))) N (fun i b=>let c:=b.2.2.1;let e:=(ix c b.2.1 zfe); (cond (ilt b.2.1 b.1) (oN (inb b.2.1 (ln c)) (oN (inr 0 b.2.1 (ln c)) (iter (σ:=(Int×(Int×(Int×(Int×(Int×(Int×(Int×(Int×(lE×(lE×Unit))))))))))) N (fun j a=>let d:=a.2.2.2.1;let f:=a.2.2.2.2.2.2.2.2.2.1;let h:=(j (a.1,(a.2.1,(a.2.2.1,((zM .i64 d 1),(a.2.2.2.2.1,(a.2.2.2.2.2.1,(a.2.2.2.2.2.2.1,(a.2.2.2.2.2.2.2.1,(a.2.2.2.2.2.2.2.2.1,(f,()))))))))))); (cond (ilt d a.2.2.1) (oN (inb d (ln f)) (cond (ieq a.2.2.2.2.1 (ix f d zfe).Tag) (cond (ieq a.2.2.2.2.2.1 (ix f d zfe).Page) oF h) h)) (i (a.1,((zM .i64 a.2.1 1),(a.2.2.2.2.2.2.2.2.1,())))))) (b.1,(b.2.1,((ln (tk c b.2.1)),(0,(e.Tag,(e.Page,(e.Host,(e.Rights,(c,((tk c b.2.1),()))))))))))))) (some [(aB (ile (ln c) 6))]))) ((ln g),(0,(g,()))))
def zSE:FuncId->Nat->Option Tmpl:=zq [(253,0,{n:=39,tm:=[(0,.sl 0 []),(7,.sl 0 []),(8,ti),(9,ti)],lo:=[],ro:=[(0,.entry,false)]}),(253,2,{n:=39,tm:=[(0,.sl 0 []),(4,.lp 0 0),(7,.sl 0 []),(8,ti),(9,ti),(16,.sl 1 []),(17,ti),(18,ti)],lo:=[(0,[ti,ti,ti,ti])],ro:=[(0,.entry,false),(1,.entry,false)]})]
theorem zRz (a:List Entry)(l:zci big [aS .entry a])(m:zpu a=true):∃N,zEo N a=some [aB (zpt a)]:=by
 have e:=(len0 l);refine zcp fun N d=>?_;unfold zEo oN;conv=>zeta
 refine(zbo a (fun i (t:Unit)=>((ln a),(i:Int),a,())) _ (fun i (x:Entry) (_:Unit) h=>bif alone a i x then h () else oF) (fun (t:Unit)=>(some [(.one (.b (ile (ln a) 6)))])) (fun i c t rec=>?_) (fun t rec=>?_) _ () (d e)).trans ?_;{simp only [zbG c,zbi c,zbp c,zbj c e,cT];rw[z9z (Nat.le_of_lt c),cT];have k:(tk a (i:Int)).length<=big:=qU (by simp[tk];omega) e;refine(zbo (tk a (i:Int)) (fun j (u:Unit)=>((ln a),(i:Int),(ln (tk a (i:Int))),(j:Int),a[i].Tag,a[i].Page,a[i].Host,a[i].Rights,a,(tk a (i:Int)),())) _ (fun _ (y:Entry) (_:Unit) h=>bif !sameKey a[i] y then h () else oF) (fun (u:Unit)=>(rec ((ln a),((((i+1:Nat)):Int),(a,()))))) (fun j g u f=>?_) (fun u f=>?_) _ () (d k)).trans ?_;{simp only [zbG g,zbi g,zbp g,zbj g k,cT,zbj c e];unfold sameKey;cases ieq a[i].Tag (tk a (i:Int))[j].Tag<;>cases ieq a[i].Page (tk a (i:Int))[j].Page<;>rfl};{simp only [zbw,cF,zbj c e]};rw[zgG (fun y=>!sameKey a[i] y)];rfl};{simp only [zbw,cF]};rw[zK2 (alone a)];unfold zpt zff;cases allI (alone a) a 0<;>rfl
theorem zK5:vM 253 zAv:=hF1 zBB zx zy zn zSE zRz
@[simp] abbrev zp3 (l:List Entry):Bool:=true
@[simp] abbrev zp2 (l:List Entry):Bool:=zff l
def zAL:Run:=rF1 (dS .entry) fun b=>(zp3 b,[aB (zp2 b)])
def zEF (N:Nat)(f:lE):OA:=
 (iter (σ:=(Int×(lE×Unit))) N (fun g c=>(cond (ilt c.1 (ln c.2.1)) (iter (σ:=(Int×(Int×(lE×Unit)))) N (fun h a=>let b:=a.2.2.1;let e:=(ix b a.2.1 zfe);let d:=(h (a.1,((zM .i64 a.2.1 1),(b,())))); (cond (ilt a.2.1 a.1) (oN (inb a.1 (ln b)) (oN (inb a.2.1 (ln b)) (cond (ieq (ix b a.1 zfe).Tag e.Tag) (oN (inb a.1 (ln b)) (oN (inb a.2.1 (ln b)) (cond (ieq (ix b a.1 zfe).Page e.Page) oF d))) d))) (g ((zM .i64 a.1 1),(b,()))))) (c.1,(0,(c.2.1,())))) (some [(aB (ile (ln c.2.1) 6))]))) (0,(f,())))
def zSK:FuncId->Nat->Option Tmpl:=zq [(227,0,{n:=43,tm:=[(0,.sl 0 []),(3,ti)],lo:=[],ro:=[(0,.entry,false)]}),(227,2,{n:=43,tm:=[(0,.sl 0 []),(3,ti),(4,ti)],lo:=[],ro:=[(0,.entry,false)]})]
theorem zRQ (a:List Entry)(k:zci big [aS .entry a])(l:zp3 a=true):∃N,zEF N a=some [aB (zp2 a)]:=by
 have g:=(len0 k);refine zcp fun N d=>?_;unfold zEF oN;conv=>zeta
 refine(zbo a (fun i (t:Unit)=>((i:Int),a,())) _ (fun i (x:Entry) (_:Unit) h=>bif alone a i x then h () else oF) (fun (t:Unit)=>(some [(.one (.b (ile (ln a) 6)))])) (fun i c t rec=>?_) (fun t rec=>?_) _ () (d g)).trans ?_;{simp only [zbG c,zbi c,zbp c,zbj c g,cT];refine(zv1 i (fun (j:Nat) (_:Unit)=>((i:Int),((j:Int),(a,())))) _ (fun j (_:Unit) h=>bif !sameKey a[i] (ix a (j:Int) zfe) then h () else oF) (fun _=>rec (((i+1:Nat):Int),(a,()))) (fun j m u f=>?_) (fun u f=>?_) _ () (d (by omega))).trans ?_;{have e:j<a.length:=(by omega);simp only[show ilt (j:Int) (i:Int)=true from qJ (by omega),zbi c,zbi e,zbp c,zbj e g,cT];unfold sameKey;cases ieq a[i].Tag (ix a (j:Int) zfe).Tag<;>cases ieq a[i].Page (ix a (j:Int) zfe).Page<;>rfl};{simp only [show ilt (i:Int) (i:Int)=false from qM (by omega),zbj c g,cF]};rw[zHv (fun j=>!sameKey a[i] (ix a (j:Int) zfe)),zTk (fun y=>!sameKey a[i] y) a _ i 0 (by omega)];rfl};{simp only [zbw,cF]};rw[zK2 (alone a)];unfold zp2 zff;cases allI (alone a) a 0<;>rfl
theorem zLl:vM 227 zAL:=hF1 zBB zx zy zn zSK zRQ
def zbbd:zW:=[(123,zAA),(227,zAL),(253,zAv)]++zbbc
theorem zKP:zL zbbd:=zh zLa (zh zLl (zh zK5 zBB))
theorem zRu (a b:Int):igt a b = !ile a b:=by unfold igt ile;by_cases h:a<=b;{rw [qJ h,qM (by omega)];rfl};{rw [qM h,qJ (by omega)];rfl}
theorem stB {c M:Bool}{E:OA}(h:c=true->E=some [AV.one (.b M)]):(cond (cond c false true) (some [AV.one (.b false)]) E)=some [AV.one (.b (cond c M false))]:=by cases c;{rfl};{exact h rfl}
theorem stI {a b:Int}{M:Bool}{E:OA}(h:ieq a b=true->E=some [AV.one (.b M)]):(cond (ine a b) (some [AV.one (.b false)]) E)=some [AV.one (.b (cond (ieq a b) M false))]:=by rw[zHy];cases c:ieq a b;{rfl};{exact h c}
theorem stG {a b:Int}{M:Bool}{E:OA}(h:ile a b=true->E=some [AV.one (.b M)]):(cond (igt a b) (some [AV.one (.b false)]) E)=some [AV.one (.b (cond (ile a b) M false))]:=by rw[zRu];cases c:ile a b;{rfl};{exact h c}
def zmQ (s:Slot)(p:List Int):Bool:=bif zcW s noSlot then zcn p else (cond (enough s.Rights 1) (ile (ln p) 0) false)
def fits (m:Mon)(j:Nat):Bool:=zmQ (ix m.Outer (j:Int) zZ) (ix m.Out (j:Int) [])
def zd3 (m:Mon):Bool:=bif win (ln m.Guests) 1 2 then (cond (ieq (ln m.Tables) (ln m.Guests)) (cond (zcS m.Outer 8 12) (cond (ieq (ln m.Out) 8) (cond (ieq (ln m.Dirty) 8) (cond (ile (ln m.Outs) 40) (cond (zc5 m.Pending) (cond (win m.Traps 0 3) (cond (win m.Own 0 1000000000) (cond (m.Guests.all zc3) (zph (fits m) 8 0) false) false) false) false) false) false) false) false) false) else false
theorem ztG {t:List Slot}{n p:Int}(h:zcS t n p=true):ln t=n:=by unfold zcS at h;cases a:t.all (fun s=>zdD s p);{rw [a]at h;cases h};{rw [a]at h;exact qE h}
@[simp] abbrev ztl (m:Mon):Bool:=true
@[simp] abbrev zvi (m:Mon):Bool:=zd3 m
def zJZ:Run:=rF1 (dT .mon) fun b=>(ztl b,[aB (zvi b)])
def zS2 (N:Nat)(a:Mon):OA:=
 let h:=(ln a.Guests); (oN (zbY h 1 2) (cond (nB (zcj h 1 2)) oF (cond (ine (ln a.Tables) h) oF (oN (zny a.Outer 8 12) (cond (nB (zij a.Outer 8 12)) oF (cond (ine (ln a.Out) 8) oF (cond (ine (ln a.Dirty) 8) oF (cond (igt (ln a.Outs) 40) oF (oN (zj1 a.Pending) (cond (nB (zj0 a.Pending)) oF (oN (zbY a.Traps 0 3) (cond (nB (zcj a.Traps 0 3)) oF (oN (zbY a.Own 0 1000000000) (cond (nB (zcj a.Own 0 1000000000)) oF (iter (σ:=(Int×(Int×(Int×(Int×(Int×(lG×(lS×(lM×(lB×((List Int)×(lK×Unit)))))))))))) N (fun l b=>let i:=b.2.2.2.2.2.2.1;let g:=b.2.2.2.2.2.1;let k:=(ix g b.2.1 zD); (cond (ilt b.2.1 b.1) (oN (inb b.2.1 (ln g)) (oN (znu k) (cond (nB (zlR k)) oF (l (b.1,((zM .i64 b.2.1 1),(b.2.2.1,(b.2.2.2.1,(b.2.2.2.2.1,(g,(i,(b.2.2.2.2.2.2.2.1,(b.2.2.2.2.2.2.2.2.1,(b.2.2.2.2.2.2.2.2.2.1,(b.2.2.2.2.2.2.2.2.2.2.1,()))))))))))))))) (iter (σ:=(Int×(Int×(Int×(Int×(Int×(lS×(lM×(lB×(lG×((List Int)×(lK×Unit)))))))))))) N (fun m c=>let d:=c.2.1;let e:=c.2.2.2.2.2.2.1;let f:=(ix c.2.2.2.2.2.1 d zZ);let j:=(m (c.1,((zM .i64 d 1),(c.2.2.1,(c.2.2.2.1,(c.2.2.2.2.1,(c.2.2.2.2.2.1,(e,(c.2.2.2.2.2.2.2.1,(c.2.2.2.2.2.2.2.2.1,(c.2.2.2.2.2.2.2.2.2.1,(c.2.2.2.2.2.2.2.2.2.2.1,())))))))))))); (cond (ilt d c.1) (oN (inb d (ln c.2.2.2.2.2.1)) (oN zfy (cond (cond (ieq f.Page zfx.Page) (ieq f.Rights zfx.Rights) false) (oN (inb d (ln e)) (oN (zih (ix e d [])) (cond (nB (zgR (ix e d []))) oF j))) (oN (zeG f.Rights 1) (cond (nB (zfw f.Rights 1)) oF (oN (inb d (ln e)) (cond (igt (ln (ix e d [])) 0) oF j))))))) oT)) ((ln i),(0,(b.2.2.1,(b.2.2.2.1,(b.2.2.2.2.1,(i,(b.2.2.2.2.2.2.2.1,(b.2.2.2.2.2.2.2.2.1,(g,(b.2.2.2.2.2.2.2.2.2.1,(b.2.2.2.2.2.2.2.2.2.2.1,())))))))))))))) (h,(0,(a.Pending,(a.Traps,(a.Own,(a.Guests,(a.Outer,(a.Out,(a.Dirty,(a.Outs,(a.Tables,()))))))))))))))))))))))))))
def z1G:FuncId->Nat->Option Tmpl:=zq [(254,0,{n:=106,tm:=[(1,.lp 0 0),(64,.sl 0 []),(65,ti),(66,ti)],lo:=[(0,[.sl 1 [],.sl 2 [],.sl 3 [],.sl 0 [],.sl 4 [],ti,ti,.sl 5 [],ti])],ro:=[(0,.guest,false),(1,.slot,false),(2,(.sl .int),false),(3,.bool,false),(4,.int,false),(5,.kept,false)]}),(254,2,{n:=106,tm:=[(1,.lp 0 0),(75,.sl 0 []),(76,ti),(77,ti)],lo:=[(0,[.sl 0 [],.sl 1 [],.sl 2 [],.sl 3 [],.sl 4 [],ti,ti,.sl 5 [],ti])],ro:=[(0,.slot,false),(1,(.sl .int),false),(2,.bool,false),(3,.guest,false),(4,.int,false),(5,.kept,false)]})]
theorem z0B (a:Mon)(l:zci big [aT .mon a])(E:ztl a=true):∃N,zS2 N a=some [aB (zvi a)]:=by
 have hg:a.Guests.length<=big:=((zc8 l).1 (.s .guest a.Guests) (by simp[AV.cvs,Ty.cells])).len;have m:a.Outer.length<=big:=((zc8 l).1 (.s .slot a.Outer) (by simp[AV.cvs,Ty.cells])).len;refine zcp fun N d=>?_;unfold zS2 zvi zd3 oN nB;conv=>zeta
 refine must rfl (stB fun w=>stI fun y=>must rfl (stB fun r=>stI fun v=>stI fun z=>stG fun A=>must rfl (stB fun B=>must rfl (stB fun C=>must rfl (stB fun D=>?_)))));have p:=ztG r;have q:ln a.Out=8:=qE v;simp only[ln] at p q;refine(zbo a.Guests (fun i (t:Unit)=>((ln a.Guests),(i:Int),a.Pending,a.Traps,a.Own,a.Guests,a.Outer,a.Out,a.Dirty,a.Outs,a.Tables,())) _ (fun _ (x:Guest) (_:Unit) g=>bif zc3 x then g () else oF) (fun (t:Unit)=>(iter (σ:=(Int×(Int×(Int×(Int×(Int×(lS×(lM×(lB×(lG×((List Int)×(lK×Unit)))))))))))) N (fun n c=>(cond (ilt c.2.1 c.1) (cond (inb c.2.1 (ln c.2.2.2.2.2.1)) (cond zfy (cond (cond (ieq (ix c.2.2.2.2.2.1 c.2.1 zZ).Page zfx.Page) (ieq (ix c.2.2.2.2.2.1 c.2.1 zZ).Rights zfx.Rights) false) (cond (inb c.2.1 (ln c.2.2.2.2.2.2.1)) (cond (zih (ix c.2.2.2.2.2.2.1 c.2.1 [])) (cond (cond (zgR (ix c.2.2.2.2.2.2.1 c.2.1 [])) false true) oF (n (c.1,((zM .i64 c.2.1 1),(c.2.2.1,(c.2.2.2.1,(c.2.2.2.2.1,(c.2.2.2.2.2.1,(c.2.2.2.2.2.2.1,(c.2.2.2.2.2.2.2.1,(c.2.2.2.2.2.2.2.2.1,(c.2.2.2.2.2.2.2.2.2.1,(c.2.2.2.2.2.2.2.2.2.2.1,()))))))))))))) none) none) (cond (zeG (ix c.2.2.2.2.2.1 c.2.1 zZ).Rights 1) (cond (cond (zfw (ix c.2.2.2.2.2.1 c.2.1 zZ).Rights 1) false true) oF (cond (inb c.2.1 (ln c.2.2.2.2.2.2.1)) (cond (igt (ln (ix c.2.2.2.2.2.2.1 c.2.1 [])) 0) oF (n (c.1,((zM .i64 c.2.1 1),(c.2.2.1,(c.2.2.2.1,(c.2.2.2.2.1,(c.2.2.2.2.2.1,(c.2.2.2.2.2.2.1,(c.2.2.2.2.2.2.2.1,(c.2.2.2.2.2.2.2.2.1,(c.2.2.2.2.2.2.2.2.2.1,(c.2.2.2.2.2.2.2.2.2.2.1,()))))))))))))) none)) none)) none) none) (some [(.one (.b true))]))) ((ln a.Outer),(0,(a.Pending,(a.Traps,(a.Own,(a.Outer,(a.Out,(a.Dirty,(a.Guests,(a.Outs,(a.Tables,()))))))))))))) (fun i h t rec=>?_) (fun t rec=>?_) _ () (d hg)).trans ?_;{simp only [zbG h,zbi h,zbp h,zbj h hg,cT];simp only[znu,zlR,cT];cases zc3 a.Guests[i]<;>rfl};{simp only [zbw,cF]};rw[zgG zc3];cases a.Guests.all zc3;{rfl};simp only[cT];refine(zbo a.Outer (fun j (u:Unit)=>((ln a.Outer),(j:Int),a.Pending,a.Traps,a.Own,a.Outer,a.Out,a.Dirty,a.Guests,a.Outs,a.Tables,())) _ (fun j (_:Slot) (_:Unit) g=>bif fits a j then g () else oF) (fun (u:Unit)=>(some [(.one (.b true))])) (fun j e u f=>?_) (fun u f=>?_) _ () (d m)).trans ?_;{simp only [zbG e,zbi e,zbp e,zbj e m,cT];have k:j<a.Out.length:=(by omega);simp only[zfy,zfx,zih,zgR,zeG,zfw,zbi k,zRu,cT];unfold fits zmQ;simp only[zbp e,zcW];cases ieq a.Outer[j].Page noSlot.Page<;>cases ieq a.Outer[j].Rights noSlot.Rights<;>cases enough a.Outer[j].Rights 1<;>cases ile (ln (ix a.Out (j:Int) [])) 0<;>cases zcn (ix a.Out (j:Int) [])<;>rfl};{simp only [zbw,cF]};rw[zz0 (fun j (_:Unit) g=>bif fits a j then g () else oF),zHv (fits a),show a.Outer.length=8 by omega];cases zph (fits a) 8 0<;>rfl
theorem zUt:vM 254 zJZ:=hF1 zKP zx zy zn z1G z0B
@[simp] abbrev ztA (m:Mon):Bool:=true
@[simp] abbrev zvn (m:Mon):Bool:=zd3 m
def zJ8:Run:=rF1 (dT .mon) fun b=>(ztA b,[aB (zvn b)])
def zTc (N:Nat)(c:Mon):OA:=
 (oN (zN (ln c.Guests) 1 2) (cond (nB (zQ (ln c.Guests) 1 2)) oF (cond (ine (ln c.Tables) (ln c.Guests)) oF (oN (znS c.Outer 8 12) (cond (nB (ziI c.Outer 8 12)) oF (cond (ine (ln c.Out) 8) oF (cond (ine (ln c.Dirty) 8) oF (iter (σ:=(Int×(Int×(Int×(Int×(lS×(lM×(lB×(lG×((List Int)×(lK×Unit))))))))))) N (fun l b=>let d:=b.2.2.2.2.2.2.2.1; (cond (ilt b.1 (ln d)) (oN (inb b.1 (ln d)) (oN (znL (ix d b.1 zD)) (cond (nB (zmb (ix d b.1 zD))) oF (l ((zM .i64 b.1 1),(b.2.1,(b.2.2.1,(b.2.2.2.1,(b.2.2.2.2.1,(b.2.2.2.2.2.1,(b.2.2.2.2.2.2.1,(d,(b.2.2.2.2.2.2.2.2.1,(b.2.2.2.2.2.2.2.2.2.1,())))))))))))))) (iter (σ:=(Int×(Int×(Int×(Int×(lS×(lM×(lB×(lG×((List Int)×(lK×Unit))))))))))) N (fun m a=>let h:=a.2.2.2.2.1;let i:=(inb a.1 (ln a.2.2.2.2.2.1));let e:=(ix a.2.2.2.2.2.1 a.1 []);let g:=(ix h a.1 zZ);let k:=(ieq g.Rights zbv.Rights);let j:=(ieq g.Page zbv.Page);let f:=(m ((zM .i64 a.1 1),(a.2.1,(a.2.2.1,(a.2.2.2.1,(h,(a.2.2.2.2.2.1,(a.2.2.2.2.2.2.1,(a.2.2.2.2.2.2.2.1,(a.2.2.2.2.2.2.2.2.1,(a.2.2.2.2.2.2.2.2.2.1,()))))))))))); (cond (ilt a.1 8) (oN (inb a.1 (ln h)) (oN zcx (cond (nB (cond j k false)) (oN i (cond (igt (ln e) 0) oF (oN (inb a.1 (ln h)) (oN (zg2 g.Rights 1) (cond (nB (zhH g.Rights 1)) oF (cond (nB (nB (cond j k false))) (oN i (oN (zgi e) (cond (nB (zfF e)) oF f))) f)))))) (cond (nB (nB (cond j k false))) (oN i (oN (zgi e) (cond (nB (zfF e)) oF f))) f)))) (cond (ile (ln a.2.2.2.2.2.2.2.2.1) 40) (oN (zfH a.2.1) (cond (zfG a.2.1) (oN (zN a.2.2.1 0 3) (cond (zQ a.2.2.1 0 3) (oN (zN a.2.2.2.1 0 1000000000) (some [(aB (zQ a.2.2.2.1 0 1000000000))])) oF)) oF)) oF))) (0,(b.2.1,(b.2.2.1,(b.2.2.2.1,(b.2.2.2.2.1,(b.2.2.2.2.2.1,(b.2.2.2.2.2.2.1,(d,(b.2.2.2.2.2.2.2.2.1,(b.2.2.2.2.2.2.2.2.2.1,()))))))))))))) (0,(c.Pending,(c.Traps,(c.Own,(c.Outer,(c.Out,(c.Dirty,(c.Guests,(c.Outs,(c.Tables,()))))))))))))))))))
def z1I:FuncId->Nat->Option Tmpl:=zq [(228,0,{n:=115,tm:=[(1,.lp 0 0),(3,ti)],lo:=[(0,[.sl 0 [],.sl 1 [],.sl 2 [],.sl 3 [],.sl 4 [],ti,ti,.sl 5 [],ti])],ro:=[(0,.slot,false),(1,(.sl .int),false),(2,.bool,false),(3,.guest,false),(4,.int,false),(5,.kept,false)]}),(228,2,{n:=115,tm:=[(1,.lp 0 0),(4,ti)],lo:=[(0,[.sl 0 [],.sl 1 [],.sl 2 [],.sl 3 [],.sl 4 [],ti,ti,.sl 5 [],ti])],ro:=[(0,.slot,false),(1,(.sl .int),false),(2,.bool,false),(3,.guest,false),(4,.int,false),(5,.kept,false)]})]
theorem z0M (c:Mon)(r:zci big [aT .mon c])(A:ztA c=true):∃N,zTc N c=some [aB (zvn c)]:=by
 have hg:c.Guests.length<=big:=((zc8 r).1 (.s .guest c.Guests) (by simp[AV.cvs,Ty.cells])).len;refine zcp fun N d=>?_;unfold zTc zvn zd3 oN nB;conv=>zeta
 refine must rfl (stB fun w=>stI fun y=>must rfl (stB fun p=>stI fun q=>stI fun z=>?_));have m:=ztG p;have n:ln c.Out=8:=qE q;simp only[ln] at m n;refine(zbo c.Guests (fun i (t:Unit)=>((i:Int),c.Pending,c.Traps,c.Own,c.Outer,c.Out,c.Dirty,c.Guests,c.Outs,c.Tables,())) _ (fun _ (x:Guest) (_:Unit) l=>bif zc3 x then l () else oF) (fun (t:Unit)=>(iter (σ:=(Int×(Int×(Int×(Int×(lS×(lM×(lB×(lG×((List Int)×(lK×Unit))))))))))) N (fun h a=>(cond (ilt a.1 8) (cond (inb a.1 (ln a.2.2.2.2.1)) (cond zcx (cond (cond (cond (ieq (ix a.2.2.2.2.1 a.1 zZ).Page zbv.Page) (ieq (ix a.2.2.2.2.1 a.1 zZ).Rights zbv.Rights) false) false true) (cond (inb a.1 (ln a.2.2.2.2.2.1)) (cond (igt (ln (ix a.2.2.2.2.2.1 a.1 [])) 0) oF (cond (inb a.1 (ln a.2.2.2.2.1)) (cond (zg2 (ix a.2.2.2.2.1 a.1 zZ).Rights 1) (cond (cond (zhH (ix a.2.2.2.2.1 a.1 zZ).Rights 1) false true) oF (cond (cond (cond (cond (ieq (ix a.2.2.2.2.1 a.1 zZ).Page zbv.Page) (ieq (ix a.2.2.2.2.1 a.1 zZ).Rights zbv.Rights) false) false true) false true) (cond (inb a.1 (ln a.2.2.2.2.2.1)) (cond (zgi (ix a.2.2.2.2.2.1 a.1 [])) (cond (cond (zfF (ix a.2.2.2.2.2.1 a.1 [])) false true) oF (h ((zM .i64 a.1 1),(a.2.1,(a.2.2.1,(a.2.2.2.1,(a.2.2.2.2.1,(a.2.2.2.2.2.1,(a.2.2.2.2.2.2.1,(a.2.2.2.2.2.2.2.1,(a.2.2.2.2.2.2.2.2.1,(a.2.2.2.2.2.2.2.2.2.1,())))))))))))) none) none) (h ((zM .i64 a.1 1),(a.2.1,(a.2.2.1,(a.2.2.2.1,(a.2.2.2.2.1,(a.2.2.2.2.2.1,(a.2.2.2.2.2.2.1,(a.2.2.2.2.2.2.2.1,(a.2.2.2.2.2.2.2.2.1,(a.2.2.2.2.2.2.2.2.2.1,()))))))))))))) none) none)) none) (cond (cond (cond (cond (ieq (ix a.2.2.2.2.1 a.1 zZ).Page zbv.Page) (ieq (ix a.2.2.2.2.1 a.1 zZ).Rights zbv.Rights) false) false true) false true) (cond (inb a.1 (ln a.2.2.2.2.2.1)) (cond (zgi (ix a.2.2.2.2.2.1 a.1 [])) (cond (cond (zfF (ix a.2.2.2.2.2.1 a.1 [])) false true) oF (h ((zM .i64 a.1 1),(a.2.1,(a.2.2.1,(a.2.2.2.1,(a.2.2.2.2.1,(a.2.2.2.2.2.1,(a.2.2.2.2.2.2.1,(a.2.2.2.2.2.2.2.1,(a.2.2.2.2.2.2.2.2.1,(a.2.2.2.2.2.2.2.2.2.1,())))))))))))) none) none) (h ((zM .i64 a.1 1),(a.2.1,(a.2.2.1,(a.2.2.2.1,(a.2.2.2.2.1,(a.2.2.2.2.2.1,(a.2.2.2.2.2.2.1,(a.2.2.2.2.2.2.2.1,(a.2.2.2.2.2.2.2.2.1,(a.2.2.2.2.2.2.2.2.2.1,()))))))))))))) none) none) (cond (ile (ln a.2.2.2.2.2.2.2.2.1) 40) (cond (zfH a.2.1) (cond (zfG a.2.1) (cond (zN a.2.2.1 0 3) (cond (zQ a.2.2.1 0 3) (cond (zN a.2.2.2.1 0 1000000000) (some [(.one (.b (zQ a.2.2.2.1 0 1000000000)))]) none) oF) none) oF) none) oF))) (0,(c.Pending,(c.Traps,(c.Own,(c.Outer,(c.Out,(c.Dirty,(c.Guests,(c.Outs,(c.Tables,())))))))))))) (fun i g t rec=>?_) (fun t rec=>?_) _ () (d hg)).trans ?_;{simp only [zbG g,zbi g,zbp g,zbj g hg,cT];simp only[znL,zmb,cT];cases zc3 c.Guests[i]<;>rfl};{simp only [zbw,cF]};rw[zgG zc3];cases B:c.Guests.all zc3;{simp only [cF];cases ile (ln c.Outs) 40<;>cases zc5 c.Pending<;>cases win c.Traps 0 3<;>cases win c.Own 0 1000000000<;>rfl};simp only[cT];refine(zv1 8 (fun j (u:Unit)=>((j:Int),c.Pending,c.Traps,c.Own,c.Outer,c.Out,c.Dirty,c.Guests,c.Outs,c.Tables,())) _ (fun j (_:Unit) l=>bif fits c j then l () else oF) (fun (u:Unit)=>(cond (ile (ln c.Outs) 40) (cond (zfH c.Pending) (cond (zfG c.Pending) (cond (zN c.Traps 0 3) (cond (zQ c.Traps 0 3) (cond (zN c.Own 0 1000000000) (some [(.one (.b (zQ c.Own 0 1000000000)))]) none) oF) none) oF) none) oF)) (fun j v u f=>?_) (fun u f=>?_) _ () (d (by decide))).trans ?_;{simp only [show ilt (j:Int) 8=true from qJ (by omega),zbj v (show 8<=big by decide),cT];have e:j<c.Outer.length:=(by omega);have k:j<c.Out.length:=(by omega);simp only[zcx,zbv,zgi,zfF,zg2,zhH,zbi e,zbi k,zRu,cT];unfold fits zmQ;simp only[zbp e,zcW];cases ieq c.Outer[j].Page noSlot.Page<;>cases ieq c.Outer[j].Rights noSlot.Rights<;>cases enough c.Outer[j].Rights 1<;>cases ile (ln (ix c.Out (j:Int) [])) 0<;>cases zcn (ix c.Out (j:Int) [])<;>rfl};{simp only [show ilt (((8:Nat)):Int) 8=false from qM (by omega),cF];rfl};rw[zHv (fits c)];simp only[zfH,zfG,zN,zWi,cT];cases zph (fits c) 8 0<;>cases ile (ln c.Outs) 40<;>cases zc5 c.Pending<;>cases win c.Traps 0 3<;>cases win c.Own 0 1000000000<;>rfl
theorem zUD:vM 228 zJ8:=hF1 zKP zx zy zn z1I z0M
def zbbe:zW:=[(228,zJ8),(254,zJZ)]++zbbd
theorem zKQ:zL zbbe:=zh zUD (zh zUt zKP)
def zgY:List Slot->List Bool->Option (List Bool)
 |[],u=>some u
 |s::l,u=>bif ilt s.Page 0 then zgY l u else (cond (ix u s.Page false) none (zgY l (up u s.Page true)))
def zjh:List Mon->List Bool->Bool
 |[],_=>true
 |m::l,u=>bif zd3 m then (match zgY m.Outer u with|some a=>zjh l a|none=>false) else false
def zb1 (h:Host):Bool:=bif zhP h.Memory 12 then (cond (win (ln h.Mons) 1 3) (cond (zff h.Buffer) (cond (zff h.IoBuffer) (zjh h.Mons (rp 12 false)) false) false) false) else false
theorem zqM:∀(l:List Slot) (u a:List Bool),zgY l u=some a->a.length=u.length
 |[],u,a,h=>by cases h;rfl
 |s::l,u,a,h=>by simp only[zgY]at h;cases b:ilt s.Page 0;{rw [b]at h;cases c:ix u s.Page false;{rw [c]at h;simpa using zqM l _ a h};{rw [c]at h;cases h}};{rw [b]at h;exact zqM l u a h}
theorem zHM {t:List Slot}{n:Int}(h:zcS t n 12=true):∀s∈t,s.Page<12:=by intro s d;unfold zcS at h;cases b:t.all (fun s=>zdD s 12);{rw [b]at h;cases h};{have:=qL.1 b s d;unfold zdD at this;cases a:zcW s noSlot;{rw [a] at this;simp only[cF,show igt 12 0=true from rfl,cT] at this;cases c:win s.Page 0 (wsub .i64 12 1);{rw [c] at this;cases this};{have:=(zge.1 c).2;rw[show wsub .i64 12 1=11 from rfl] at this;omega}};{unfold zcW at a;rw[qD]at a;have a:s.Page = -1:=qE a.1;omega}}
theorem zZ2 {s:Slot}{u:List Bool}(h:s.Page<12)(b:u.length=12)(a:ilt s.Page 0=false):inb s.Page (ln u)=true:=by have:=jV a;exact qJ (by simp only[ln];omega)
def zvC {a:Type}(r:Option a)(y:Slot)(u:List Bool)(b:List Bool->Option a):Option a:=bif ilt y.Page 0 then b u else (cond (inb y.Page (ln u)) (cond (ix u y.Page false) r (cond (inb y.Page (ln u)) (share (up u y.Page true) (fun c=>b c)) none)) none)
theorem zBM {c:Type}(r:Option c)(K:List Bool->Option c):∀(l:List Slot) (i:Nat) (u:List Bool),(∀s∈l,s.Page<12)->u.length=12->
 goL (fun _ y u g=>zvC r y u g) K l i u=match zgY l u with|some f=>K f|none=>r
 |[],_,_,_,_=>rfl
 |s::l,i,u,h,b=>by simp only[goL,zgY,zvC];cases d:ilt s.Page 0;{have e:=zZ2 (h s (by simp)) b d;rw[e];cases ix u s.Page false;{simp only [cF,cT,share];exact zBM r K l (i+1) _ (fun s a=>h s (by simp[a])) (by simpa using b)};{rfl}};{simp only [cT];exact zBM r K l (i+1) u (fun s a=>h s (by simp[a])) b}
def z2Y {b:Type}(r:Option b)(m:Mon)(u:List Bool)(a:List Bool->Option b):Option b:=bif zd3 m then goL (fun _ y u a=>zvC r y u a) a m.Outer 0 u else r
theorem zc9 {c x:Bool}:((cond c x false)=true)↔c=true/\x=true:=by cases c<;>simp
theorem znD {m:Mon}(h:zd3 m=true):zcS m.Outer 8 12=true:=by unfold zd3 at h;simp only[zc9]at h;exact h.2.2.1
theorem zXd {K:Bool->OA}(k:List Bool->OA)(a:∀u,k u=K true):∀(l:List Mon) (i:Nat) (u:List Bool),u.length=12->
 goL (fun _ m u g=>z2Y (K false) m u g) k l i u=K (zjh l u)
 |[],_,u,_=>a u
 |m::l,i,u,b=>by simp only[goL,zjh,z2Y];cases c:zd3 m;{rfl};{simp only [cT];have e:=znD c;rw[zBM _ _ _ _ _ (zHM e) b];cases d:zgY m.Outer u with|none=>rfl|some f=>exact zXd k a l (i+1) f ((zqM _ _ _ d).trans b)}
@[simp] abbrev zie (h:Host):Bool:=true
@[simp] abbrev ziU (h:Host):Bool:=zb1 h
def zF5:Run:=rF1 dH fun b=>(zie b,[aB (ziU b)])
def zMM (N:Nat)(c:Host):OA:=
 (oN (ztj c.Memory 12) (cond (nB (zmJ c.Memory 12)) oF (oN (zbY (ln c.Mons) 1 3) (cond (nB (zcj (ln c.Mons) 1 3)) oF (oN (zpu c.Buffer) (cond (nB (zpt c.Buffer)) oF (oN (zpu c.IoBuffer) (cond (nB (zpt c.IoBuffer)) oF (oN (cond (few 12) (ieq 12 12) false) (iter (σ:=(Int×(Int×(lB×(lN×Unit))))) N (fun k b=>let h:=(ix b.2.2.2.1 b.2.1 zi); (cond (ilt b.2.1 b.1) (oN (inb b.2.1 (ln b.2.2.2.1)) (oN (ztl h) (cond (nB (zvi h)) oF (iter (σ:=(Int×(Int×(Int×(Int×(Int×(lB×(lN×Unit)))))))) N (fun i a=>let f:=a.2.2.2.2.1;let g:=a.2.2.2.2.2.2.1;let j:=(ix g a.2.2.1 zi).Outer;let d:=a.2.2.2.2.2.1;let e:=(ix j f zZ).Page; (cond (ilt f a.2.2.2.1) (oN (inb f (ln j)) (cond (ilt e 0) (i (a.1,(a.2.1,(a.2.2.1,(a.2.2.2.1,((zM .i64 f 1),(d,(g,())))))))) (oN (inb e (ln d)) (cond (ix d e false) oF (oN (inb e (ln d)) (share (up d e true) (fun l=>(i (a.1,(a.2.1,(a.2.2.1,(a.2.2.2.1,((zM .i64 f 1),(l,(g,()))))))))))))))) (k (a.1,((zM .i64 a.2.1 1),(d,(g,()))))))) (b.1,(b.2.1,(b.2.1,((ln h.Outer),(0,(b.2.2.1,(b.2.2.2.1,()))))))))))) oT)) ((ln c.Mons),(0,((rp 12 false),(c.Mons,()))))))))))))))
def zZD:FuncId->Nat->Option Tmpl:=zq [(159,0,{n:=63,tm:=[(3,.sl 0 []),(33,.sl 1 []),(34,ti),(35,ti)],lo:=[],ro:=[(0,.bool,true),(1,.mon,false)]}),(159,2,{n:=63,tm:=[(3,.sl 0 []),(33,.sl 1 []),(34,ti),(35,ti),(43,.sl 1 [0]),(44,ti),(45,ti)],lo:=[],ro:=[(0,.bool,true),(1,.mon,false)]})]
theorem zXE (a:Host)(n:zci big [aH a])(w:zie a=true):∃N,zMM N a=some [aB (ziU a)]:=by
 have l:CVB big (.s .mon a.Mons):=(zc8 n).1 _ (by simp[AV.cvs,zbf]);have g:=l.len;refine zcp fun N d=>?_;unfold zMM ziU zb1 oN nB;conv=>zeta
 refine must rfl (stB fun p=>must rfl (stB fun q=>must rfl (stB fun r=>must rfl (stB fun v=>must rfl ?_))));refine(zbo a.Mons (fun i (t:lB)=>((ln a.Mons),(i:Int),t,a.Mons,())) _ (fun _ (x:Mon) (u:List Bool) h=>z2Y (oF) x u h) (fun (t:lB)=>(some [(.one (.b true))])) (fun i c t rec=>?_) (fun t rec=>?_) _ ((rp 12 false)) (d g)).trans ?_;{simp only [zbG c,zbi c,zbp c,zbj c g,cT];unfold z2Y;cases k:zd3 a.Mons[i];{simp only [ztl,zvi,k,cT,cF]};simp only[ztl,zvi,k,cT,cF];have m:a.Mons[i].Outer.length<=big:=(l.inv.2 _ (jL c) (.s .slot _) (by simp[Ty.cells])).len;refine(zbo a.Mons[i].Outer (fun j (u:lB)=>((ln a.Mons),(i:Int),(i:Int),(ln a.Mons[i].Outer),(j:Int),u,a.Mons,())) _ (fun _ (y:Slot) (u:List Bool) h=>zvC (oF) y u h) (fun (u:lB)=>(rec ((ln a.Mons),((((i+1:Nat)):Int),(u,(a.Mons,())))))) (fun j f u e=>?_) (fun u e=>?_) _ (t) (d m)).trans ?_;{simp only [zbG f,zbi f,zbp f,zbj f m,cT,zbi c,zbp c,zbj c g];rfl};{simp only [zbw,cF,zbi c,zbp c,zbj c g]};rfl};{simp only [zbw,cF]};exact zXd (K:=fun b=>some [AV.one (.b b)]) _ (fun _=>rfl) _ _ _ rfl
theorem zQH:vM 159 zF5:=hF1 zKQ zx zy zn zZD zXE
@[simp] abbrev zfD (h:Host):Bool:=true
@[simp] abbrev zfC (h:Host):Bool:=zb1 h
theorem zK3 {e:Type}(r:Option e)(k:List Bool->Option e)(m:Mon):∀(n i:Nat) (u:List Bool),(∀s∈m.Outer,s.Page<12)->u.length=12->i+n=m.Outer.length->
 goN (fun j u d=>bif inb (j:Int) (ln m.Outer) then zvC r (ix m.Outer (j:Int) zZ) u d else none) k n i u=goL (fun _ y u d=>zvC r y u d) k (m.Outer.drop i) i u
 | 0,i,u,_,_,h=>by have:i=m.Outer.length:=(by omega);subst this;simp[goN,goL]
 |n+1,i,u,b,c,h=>by have a:i<m.Outer.length:=(by omega);rw[kX a];simp only[goN,goL,zbi a,zbp a,cT,zvC];cases f:ilt m.Outer[i].Page 0;{rw [zZ2 (b _ (jL a)) c f];cases ix u m.Outer[i].Page false;{simp only [cF,cT,share];exact zK3 r k m n (i+1) _ b (by simpa using c) (by omega)};{rfl}};{simp only [cT];exact zK3 r k m n (i+1) u b c (by omega)}
def zGo:Run:=rF1 dH fun b=>(zfD b,[aB (zfC b)])
def zM4 (N:Nat)(b:Host):OA:=
 (oN (zty b.Memory 12) (cond (nB (zm3 b.Memory 12)) oF (oN (zN (ln b.Mons) 1 3) (cond (nB (zQ (ln b.Mons) 1 3)) oF (oN (zp3 b.Buffer) (cond (nB (zp2 b.Buffer)) oF (oN (zp3 b.IoBuffer) (cond (nB (zp2 b.IoBuffer)) oF (oN (cond (few 12) (ieq 12 12) false) (iter (σ:=(Int×(lB×(lM×(lN×(lE×(lE×Unit))))))) N (fun q c=>let n:=(ix c.2.2.2.1 c.1 zi); (cond (ilt c.1 (ln c.2.2.2.1)) (oN (inb c.1 (ln c.2.2.2.1)) (oN (ztA n) (cond (nB (zvn n)) oF (iter (σ:=(Int×(Int×(lB×(lM×(lN×(lE×(lE×Unit)))))))) N (fun i a=>let k:=(zM .i64 a.2.1 1);let h:=a.2.2.2.2.2.1;let g:=a.2.2.2.2.2.2.1;let f:=a.2.2.1;let e:=a.2.2.2.2.1;let p:=(ix e a.1 zi).Outer;let m:=(i (a.1,(k,(f,(a.2.2.2.1,(e,(h,(g,()))))))));let d:=(ix p a.2.1 zZ).Page;let l:=(inb d (ln f)); (cond (ilt a.2.1 8) (oN (inb a.1 (ln e)) (oN (inb a.2.1 (ln p)) (cond (ige d 0) (oN l (cond (ix f d false) oF (cond (ige d 0) (oN l (share (up f d true) (fun j=>(i (a.1,(k,(j,(a.2.2.2.1,(e,(h,(g,()))))))))))) m))) (cond (ige d 0) (oN l (share (up f d true) (fun j=>(i (a.1,(k,(j,(a.2.2.2.1,(e,(h,(g,()))))))))))) m)))) (q ((zM .i64 a.1 1),(f,(a.2.2.2.1,(e,(h,(g,()))))))))) (c.1,(0,(c.2.1,(c.2.2.1,(c.2.2.2.1,(c.2.2.2.2.1,(c.2.2.2.2.2.1,()))))))))))) oT)) (0,((rp 12 false),(b.Memory,(b.Mons,(b.Buffer,(b.IoBuffer,()))))))))))))))))
def zZK:FuncId->Nat->Option Tmpl:=zq [(128,0,{n:=72,tm:=[(1,.lp 0 0),(3,.sl 0 []),(4,ti)],lo:=[(0,[.sl 1 [],.sl 2 [],.sl 3 [],.sl 4 []])],ro:=[(0,.bool,true),(1,(.sl .int),false),(2,.mon,false),(3,.entry,false),(4,.entry,false)]}),(128,2,{n:=72,tm:=[(1,.lp 0 0),(3,.sl 0 []),(4,ti),(5,ti)],lo:=[(0,[.sl 1 [],.sl 2 [],.sl 3 [],.sl 4 []])],ro:=[(0,.bool,true),(1,(.sl .int),false),(2,.mon,false),(3,.entry,false),(4,.entry,false)]})]
theorem zXX (a:Host)(y:zci big [aH a])(F:zfD a=true):∃N,zM4 N a=some [aB (zfC a)]:=by
 have A:CVB big (.s .mon a.Mons):=(zc8 y).1 _ (by simp[AV.cvs,zbf]);have h:=A.len;refine zcp fun N f=>?_;unfold zM4 zfC zb1 oN nB;conv=>zeta
 refine must rfl (stB fun D=>must rfl (stB fun q=>must rfl (stB fun r=>must rfl (stB fun E=>must rfl ?_))));refine(zbo a.Mons (fun i (t:lB)=>((i:Int),t,a.Memory,a.Mons,a.Buffer,a.IoBuffer,())) _ (fun _ (x:Mon) (u:List Bool) d=>bif zd3 x then goN (fun j u d=>bif inb (j:Int) (ln x.Outer) then zvC (oF) (ix x.Outer (j:Int) zZ) u d else none) d 8 0 u else oF) (fun (t:lB)=>(some [(.one (.b true))])) (fun i c t rec=>?_) (fun t rec=>?_) _ ((rp 12 false)) (f h)).trans ?_;{simp only [zbG c,zbi c,zbp c,zbj c h,cT];cases v:zd3 a.Mons[i];{simp only [ztA,zvn,v,cT,cF]};simp only[ztA,zvn,v,cT,cF];refine(zv1 8 (fun j (u:lB)=>((i:Int),(j:Int),u,a.Memory,a.Mons,a.Buffer,a.IoBuffer,())) _ (fun j (u:List Bool) d=>bif inb (j:Int) (ln a.Mons[i].Outer) then zvC (oF) (ix a.Mons[i].Outer (j:Int) zZ) u d else none) (fun (u:lB)=>(rec ((((i+1:Nat)):Int),(u,(a.Memory,(a.Mons,(a.Buffer,(a.IoBuffer,())))))))) (fun j z u g=>?_) (fun u g=>?_) _ (t) (f (by decide))).trans ?_;{simp only [show ilt (j:Int) 8=true from qJ (by omega),zbj z (show 8<=big by decide),cT,zbi c,zbp c,zbj c h];unfold zvC;have e:ige (ix a.Mons[i].Outer (j:Int) zZ).Page 0 = !ilt (ix a.Mons[i].Outer (j:Int) zZ).Page 0:=(by rw[zbdb,Bool.not_not]);simp only[e];cases ilt (ix a.Mons[i].Outer (j:Int) zZ).Page 0<;>cases inb (j:Int) (ln a.Mons[i].Outer)<;>cases inb (ix a.Mons[i].Outer (j:Int) zZ).Page (ln u)<;>cases ix u (ix a.Mons[i].Outer (j:Int) zZ).Page false<;>rfl};{simp only [show ilt (((8:Nat)):Int) 8=false from qM (by omega),cF,zbi c,zbp c,zbj c h]};rfl};{simp only [zbw,cF]};have p:∀(l:List Mon) (i:Nat) (u:List Bool),u.length=12->goL (fun _ (x:Mon) (u:List Bool) d=>bif zd3 x then goN (fun j u d=>bif inb (j:Int) (ln x.Outer) then zvC (oF) (ix x.Outer (j:Int) zZ) u d else none) d 8 0 u else oF) (fun _=>oT) l i u=some [AV.one (.b (zjh l u))]:=(by intro l;induction l with|nil=>intro i u _;rfl|cons m l B=>intro i u n;simp only[goL,zjh];cases q:zd3 m;{rfl};{have k:=znD q;have w:0+8=m.Outer.length:=(by have:=ztG k;simp only[ln] at this;omega);simp only[cT];rw[zK3 _ _ m 8 0 u (zHM k) n w,List.drop_zero,zBM _ _ _ _ _ (zHM k) n];cases r:zgY m.Outer u with|none=>rfl|some C=>exact B (i+1) C ((zqM _ _ _ r).trans n)});exact p _ _ _ rfl
theorem zQ0:vM 128 zGo:=hF1 zKQ zx zy zn zZK zXX
def zbbf:zW:=[(128,zGo),(159,zF5)]++zbbe
theorem zKR:zL zbbf:=zh zQ0 (zh zQH zKQ)
theorem z3P {h:Host}(a:zb1 h=true):(h.Mons.length:Int)<=3:=by unfold zb1 at a;simp only[zc9]at a;exact(zge.1 a.2.1).2
def zcb (h:Host)(m:Int):Bool:=bif zb1 h then hasB m (ln h.Mons) else false
def zcz (h:Host)(m p:Int):Bool:=bif zb1 h then (cond (hasB m (ln h.Mons)) (hasB p 8) false) else false
theorem zSX {h:Host}(a:zb1 h=true)(m:Int):win m 0 (wsub .i64 (ln h.Mons) 1)=hasB m (ln h.Mons):=zrL (by have:=z3P a;omega) m
theorem win7 (p:Int):win p 0 7=hasB p 8:=by unfold win ige ile hasB;by_cases a:0<=p<;>by_cases b:p<8;{rw [qJ (p:=p≥0) (by omega),qJ (p:=p<=7) (by omega),qJ (p:=0<=p/\p<8) ⟨a,b⟩];rfl};{rw [qM (p:=p<=7) (by omega),qM (p:=0<=p/\p<8) (by omega)];simp};{rw [qM (p:=p≥0) (by omega),qM (p:=0<=p/\p<8) (by omega)];simp};{rw [qM (p:=p≥0) (by omega),qM (p:=0<=p/\p<8) (by omega)];simp}
@[simp] abbrev zfL (h:Host)(m:Int):Bool:=true
@[simp] abbrev zfK (h:Host)(m:Int):Bool:=zcb h m
def zGG:Run:=rF2 dH dI fun b c=>(zfL b c,[aB (zfK b c)])
def zNo (N:Nat)(a:Host)(b:Int):OA:=
 (oN (zfD a) (cond (zfC a) (oN (zN b 0 (wsub .i64 (ln a.Mons) 1)) (some [(aB (zQ b 0 (wsub .i64 (ln a.Mons) 1)))])) oF))
theorem zYk (a:Host)(b:Int)(d:zfL a b=true):∃N,zNo N a b=some [aB (zfK a b)]:=by refine⟨0,?_⟩;unfold zNo zfK zcb oN;cases c:zb1 a;{simp only [zfD,zfC,c,cT,cF]};{simp only [zfD,zfC,c,cT,zN,zWi,zSX c]}
theorem zRs:vM 74 zGG:=kF2 zKR zx zy zn (zq []) zYk
@[simp] abbrev zo9 (h:Host)(m p:Int):Bool:=true
@[simp] abbrev zh4 (h:Host)(m p:Int):Bool:=zcz h m p
def zKe:Run:=rF3 dH dI dI fun b c d=>(zo9 b c d,[aB (zh4 b c d)])
def zTi (N:Nat)(a:Host)(b c:Int):OA:=
 (oN (zfD a) (cond (zfC a) (oN (zN b 0 (wsub .i64 (ln a.Mons) 1)) (cond (zQ b 0 (wsub .i64 (ln a.Mons) 1)) (oN (zN c 0 7) (some [(aB (zQ c 0 7))])) oF)) oF))
theorem z0T (a:Host)(b c:Int)(e:zo9 a b c=true):∃N,zTi N a b c=some [aB (zh4 a b c)]:=by refine⟨0,?_⟩;unfold zTi zh4 zcz oN;cases d:zb1 a;{simp only [zfD,zfC,d,cT,cF]};{simp only [zfD,zfC,d,cT,zN,zWi,zSX d,win7];cases hasB b (ln a.Mons)<;>rfl}
theorem zUM:vM 114 zKe:=kF3 zKR zx zy zn (zq []) z0T
def zbbg:zW:=[(74,zGG),(114,zKe)]++zbbf
theorem zWV:zL zbbg:=zh zRs (zh zUM zKR)
def zdC (k:Kept)(p:Int):Bool:=bif hasB p (ln k.Known) then hasB p (ln k.Slots) else false
def zbX (k:Kept)(p:Int):Kept:=bif zdC k p then ⟨up k.Known p false,up k.Slots p noSlot⟩ else k
@[simp] theorem zqL {k:Kept}{p:Int}(h:SmK k):SmK (zbX k p):=by unfold zbX;cases zdC k p;{exact h};{exact⟨by simpa using h.1,by simpa using h.2⟩}
theorem has_lt {p:Int}{n m:Int}(h:hasB p n=true):ilt p m=hasB p m:=by have h:=qE h;unfold ilt hasB;by_cases a:p<m;{rw [qJ a,qJ ⟨h.1,a⟩]};{rw [qM a,qM (by omega)]}
@[simp] abbrev zqr (k:Kept)(p:Int):Bool:=pc (SmK k)
@[simp] abbrev zi6 (k:Kept)(p:Int):Bool:=zdC k p
def zGE:Run:=rF2 (dT .kept) dI fun b c=>(zqr b c,[aB (zi6 b c)])
def zNm (N:Nat)(a:Kept)(b:Int):OA:=
 (oN (zN b 0 (wsub .i64 (ln a.Known) 1)) (cond (zQ b 0 (wsub .i64 (ln a.Known) 1)) (some [(aB (ilt b (ln a.Slots)))]) oF))
theorem zYh (a:Kept)(b:Int)(c:zqr a b=true):∃N,zNm N a b=some [aB (zi6 a b)]:=by have e:=zK.1 c;refine⟨0,?_⟩;unfold zNm zi6 zdC oN;simp only[zN,zWi,zrL e.1,cT];cases d:hasB b (ln a.Known);{rfl};{simp only [cT,has_lt d]}
theorem zRh:vM 118 zGE:=kF2 zWV zx zy zn (zq []) zYh
def zbbh:zW:=[(118,zGE)]++zbbg
theorem zKS:zL zbbh:=zh zRh zWV
@[simp] abbrev zmY (k:Kept)(p:Int):Bool:=pc (SmK k)
@[simp] abbrev zma (k:Kept)(p:Int):Kept:=zbX k p
def zGm:Run:=rF2 (dT .kept) dI fun b c=>(zmY b c,[aT .kept (zma b c)])
def zM2 (N:Nat)(c:Kept)(b:Int):OA:=
 let a:=(zds c); (oN (zgl c) (oN (zqr a b) (cond (zi6 a b) (oN (inb b (ln a.Known)) (share (up a.Known b false) (fun d=>(oN zcx (oN (inb b (ln a.Slots)) (share (up a.Slots b zbv) (fun e=>(some [(aT .kept (⟨d,e⟩:Kept))])))))))) (some [(aT .kept a)]))))
theorem zXV (a:Kept)(b:Int)(g:zmY a b=true):∃N,zM2 N a b=some [aT .kept (zma a b)]:=by
 have d:=zK.1 g;refine⟨0,?_⟩;unfold zM2 zma oN;conv=>zeta
 refine must (zbJ ((zzR _).2 d)) (must (zbJ d) ?_);unfold zbX;cases c:zdC a b;{simp only [zi6,zds,c,cF]};{simp only [zi6,zds,c,cT];unfold zdC at c;obtain⟨e,f⟩:=zc9.1 c;simp only[zXt,e,f,cT,share,zcx]}
theorem zQY:vM 108 zGm:=kF2 zKS zx zy zn (zq []) zXV
@[simp] abbrev zBU (k:Kept)(p:Int):Bool:=pc (SmK k)
@[simp] abbrev zvU (k:Kept)(p:Int):Kept:=zbX k p
def zF3:Run:=rF2 (dT .kept) dI fun b c=>(zBU b c,[aT .kept (zvU b c)])
def zMK (N:Nat)(b:Kept)(a:Int):OA:=
 let c:=(zdN b); (oN (zhB b) (oN (zdB a (ln b.Known)) (cond (zd1 a (ln b.Known)) (oN (zdB a (ln b.Slots)) (cond (zd1 a (ln b.Slots)) (oN (inb a (ln c.Known)) (share (up c.Known a false) (fun d=>(oN zfy (oN (inb a (ln c.Slots)) (share (up c.Slots a zfx) (fun e=>(some [(aT .kept (⟨d,e⟩:Kept))])))))))) (some [(aT .kept c)]))) (some [(aT .kept c)]))))
theorem zXC (a:Kept)(b:Int)(c:zBU a b=true):∃N,zMK N a b=some [aT .kept (zvU a b)]:=by
 have d:=zK.1 c;refine⟨0,?_⟩;unfold zMK zvU oN;conv=>zeta
 refine must (zbJ d) (must rfl ?_);unfold zbX zdC;simp only[zd1,zdB,zdN,zXt,share,zfy,cT];cases hasB b (ln a.Known);{rfl};{cases hasB b (ln a.Slots)<;>rfl}
theorem zQF:vM 104 zF3:=kF2 zKS zx zy zn (zq []) zXC
def zbbi:zW:=[(108,zGm),(104,zF3)]++zbbh
theorem zvE:zL zbbi:=zh zQY (zh zQF zKS)
def zeu (k:Kept)(l:List Int):Kept:=l.foldl zbX k
theorem z2C:∀(l:List Int) {k:Kept},SmK k->SmK (zeu k l)
 |[],_,h=>h
 |p::l,k,h=>z2C l (zqL (p:=p) h)
theorem zBL {b:Type}(K:List Bool×List Slot->Option b):∀(l:List Int) (i:Nat) (k:Kept),SmK k->
 goL (fun _ x (t:List Bool×List Slot) a=>bif pc (SmK ⟨t.1,t.2⟩) then a ((zbX ⟨t.1,t.2⟩ x).Known,(zbX ⟨t.1,t.2⟩ x).Slots) else none) K l i (k.Known,k.Slots)=K ((zeu k l).Known,(zeu k l).Slots)
 |[],_,_,_=>rfl
 |x::l,i,k,h=>by have e:pc (SmK ⟨k.Known,k.Slots⟩)=true:=zbJ h;simp only[goL,e,cT];exact zBL K l (i+1) (zbX k x) (zqL h)
def zHb (l:List Slot)(p:Int):List Int:=idxs (fun (s:Slot)=>ieq s.Page p) l 0
def zid (k:Kept)(l:List Slot)(p:Int):Kept:=zeu k (zHb l p)
theorem zbam {k:Kept}(l:List Slot)(p:Int)(h:SmK k):SmK (zid k l p):=z2C _ h
@[simp] abbrev zmX (k:Kept)(l:List Slot)(p:Int):Bool:=pc (SmK k/\l.length<=1048576)
@[simp] abbrev zwp (k:Kept)(l:List Slot)(p:Int):Kept:=zid k l p
def zwi:Run:=rF3 (dT .kept) (dS .slot) dI fun b c d=>(zmX b c d,[aT .kept (zwp b c d)])
def zzM (N:Nat)(c:Kept)(e:lS)(f:Int):OA:=
 (oN (zgl c) (oN (zCw e f) (iter (σ:=(Int×((List Int)×(lB×(lS×(lB×(lS×Unit))))))) N (fun g a=>let d:=(ix a.2.1 a.1 0);let b:=(⟨a.2.2.1,a.2.2.2.1⟩:Kept); (cond (ilt a.1 (ln a.2.1)) (oN (inb a.1 (ln a.2.1)) (oN (zmY b d) (g ((zM .i64 a.1 1),(a.2.1,((zma b d).Known,((zma b d).Slots,(a.2.2.2.2.1,(a.2.2.2.2.2.1,()))))))))) (some [(aT .kept b)]))) (0,((zrB e f),((zds c).Known,((zds c).Slots,([],([],())))))))))
def zMB:FuncId->Nat->Option Tmpl:=zq [(283,0,{n:=27,tm:=[(3,.lp 0 0),(6,.lp 1 0),(7,.sl 0 []),(8,ti)],lo:=[(0,[.sl 1 [],.sl 2 []]),(1,[.sl 3 [],.sl 4 []])],ro:=[(0,.int,true),(1,.bool,true),(2,.slot,true),(3,.bool,true),(4,.slot,true)]})]
theorem zL2 (b:Kept)(a:List Slot)(c:Int)(j:zmX b a c=true):∃N,zzM N b a c=some [aT .kept (zwp b a c)]:=by
 obtain⟨h,f⟩:=zK.1 j;have g:(zrB a c).length<=big:=qU (zB0 _ a 0) (zc2 f).1;refine zcp fun N e=>?_;unfold zzM oN;conv=>zeta
 refine must (zbJ ((zzR _).2 h)) (must (zbJ (by omega)) ?_);refine(zbo (zrB a c) (fun i (t:lB×lS)=>((i:Int),(zrB a c),t.1,t.2,[],[],())) _ (fun _ (x:Int) (t:List Bool×List Slot) k=>bif pc (SmK ⟨t.1,t.2⟩) then k ((zbX ⟨t.1,t.2⟩ x).Known,(zbX ⟨t.1,t.2⟩ x).Slots) else none) (fun (t:lB×lS)=>(some [(.agg (Ty.cells .kept (⟨t.1,t.2⟩:Kept)))])) (fun i d t rec=>?_) (fun t rec=>?_) _ ((zds b).Known,(zds b).Slots) (e g)).trans ?_;{simp only [zbG d,zbi d,zbp d,zbj d g,cT]};{simp only [zbw,cF]};exact zBL _ _ 0 b h
theorem zFv:vM 283 zwi:=kF3 zvE zx zy zn zMB zL2
@[simp] abbrev zq4 (k:Kept)(l:List Slot)(p:Int):Bool:=pc (SmK k/\l.length<=1048576)
@[simp] abbrev zvV (k:Kept)(l:List Slot)(p:Int):Kept:=zid k l p
def zwd:Run:=rF3 (dT .kept) (dS .slot) dI fun b c d=>(zq4 b c d,[aT .kept (zvV b c d)])
def zzB (N:Nat)(c:Kept)(d:lS)(e:Int):OA:=
 (oN (zhB c) (oN (zBZ d e) (iter (σ:=(Int×(Int×((List Int)×(lB×(lS×(lB×(lS×Unit)))))))) N (fun g a=>let f:=(ix a.2.2.1 a.2.1 0);let b:=(⟨a.2.2.2.2.2.1,a.2.2.2.2.2.2.1⟩:Kept); (cond (ilt a.2.1 a.1) (oN (inb a.2.1 (ln a.2.2.1)) (oN (zBU b f) (g (a.1,((zM .i64 a.2.1 1),(a.2.2.1,(a.2.2.2.1,(a.2.2.2.2.1,((zvU b f).Known,((zvU b f).Slots,())))))))))) (some [(aT .kept b)]))) ((ln (zlU d e)),(0,((zlU d e),([],([],((zdN c).Known,((zdN c).Slots,()))))))))))
def zMw:FuncId->Nat->Option Tmpl:=zq [(277,0,{n:=25,tm:=[(6,.lp 0 0),(7,.lp 1 0),(14,.sl 0 []),(15,ti),(16,ti)],lo:=[(0,[.sl 1 [],.sl 2 []]),(1,[.sl 3 [],.sl 4 []])],ro:=[(0,.int,true),(1,.bool,true),(2,.slot,true),(3,.bool,true),(4,.slot,true)]})]
theorem zLQ (c:Kept)(a:List Slot)(b:Int)(j:zq4 c a b=true):∃N,zzB N c a b=some [aT .kept (zvV c a b)]:=by
 obtain⟨h,f⟩:=zK.1 j;have g:(zlU a b).length<=big:=qU (zB0 _ a 0) (zc2 f).1;refine zcp fun N e=>?_;unfold zzB oN;conv=>zeta
 refine must (zbJ h) (must (zbJ (by omega)) ?_);refine(zbo (zlU a b) (fun i (t:lB×lS)=>((ln (zlU a b)),(i:Int),(zlU a b),[],[],t.1,t.2,())) _ (fun _ (x:Int) (t:List Bool×List Slot) k=>bif pc (SmK ⟨t.1,t.2⟩) then k ((zbX ⟨t.1,t.2⟩ x).Known,(zbX ⟨t.1,t.2⟩ x).Slots) else none) (fun (t:lB×lS)=>(some [(.agg (Ty.cells .kept (⟨t.1,t.2⟩:Kept)))])) (fun i d t rec=>?_) (fun t rec=>?_) _ ((zdN c).Known,(zdN c).Slots) (e g)).trans ?_;{simp only [zbG d,zbi d,zbp d,zbj d g,cT]};{simp only [zbw,cF]};exact zBL _ _ 0 c h
theorem zFp:vM 277 zwd:=kF3 zvE zx zy zn zMw zLQ
def flushed (l:List Entry)(p:Int):List Entry:=l.filter fun e=>!ieq e.Host p
theorem zJG (l:List Entry)(p:Int):(flushed l p).length<=l.length:=uA _ _
theorem zpr {b e:Type}(p:b->Bool)(K:List b->Option e):∀(l:List b) (i:Nat) (a:List b),a.length+l.length<=2147483648->
 goL (fun _ x a d=>bif p x then (cond (few (ln (ap a [x]))) (d (ap a [x])) none) else d a) K l i a=K (a++l.filter p)
 |[],i,a,_=>by simp[goL]
 |x::l,i,a,h=>by simp only[q0]at h;simp only[goL];cases c:p x;{rw [cF,zpr p K l (i+1) a (by omega),List.filter_cons_of_neg (by simp[c])]};{rw [cT,zhA (by simp[ap];omega),cT,zpr p K l (i+1) _ (by simp[ap];omega),List.filter_cons_of_pos c];simp[ap]}
@[simp] abbrev zh1 (l:List Entry)(p:Int):Bool:=pc (l.length<=1048576)
@[simp] abbrev zse (l:List Entry)(p:Int):List Entry:=flushed l p
def zxX:Run:=rF2 (dS .entry) dI fun b c=>(zh1 b c,[aS .entry (zse b c)])
def zC7 (N:Nat)(e:lE)(f:Int):OA:=
 (iter (σ:=(Int×(Int×(lE×(lE×Unit))))) N (fun d a=>let b:=a.2.2.1;let c:=(ix b a.2.1 zfe); (cond (ilt a.2.1 (ln b)) (oN (inb a.2.1 (ln b)) (cond (ine c.Host a.1) (oN (inb a.2.1 (ln b)) (oN (few (ln (ap a.2.2.2.1 [c]))) (d (a.1,((zM .i64 a.2.1 1),(b,((ap a.2.2.2.1 [c]),()))))))) (d (a.1,((zM .i64 a.2.1 1),(b,(a.2.2.2.1,()))))))) (some [(aS .entry a.2.2.2.1)]))) (f,(0,(e,([],())))))
def zQc:FuncId->Nat->Option Tmpl:=zq [(284,0,{n:=29,tm:=[(0,.sl 0 []),(1,ti),(5,.sl 1 []),(6,ti)],lo:=[],ro:=[(0,.entry,false),(1,.entry,true)]})]
theorem zO5 (a:List Entry)(b:Int)(h:zh1 a b=true):∃N,zC7 N a b=some [aS .entry (zse a b)]:=by
 have j:=zK.1 h;have f:=zc2 j;refine zcp fun N d=>?_;unfold zC7 oN;conv=>zeta
 refine(zbo a (fun i (t:lE)=>(b,(i:Int),a,t,())) _ (fun _ (x:Entry) (t:List Entry) g=>bif !ieq x.Host b then (cond (few (ln (ap t [x]))) (g (ap t [x])) none) else g t) (fun (t:lE)=>(some [(.one (.s .entry t))])) (fun i c t rec=>?_) (fun t rec=>?_) _ ([]) (d f.1)).trans ?_;{simp only [zbG c,zbi c,zbp c,zbj c f.1,cT];rfl};{simp only [zbw,cF]};exact zpr (fun e=>!ieq e.Host b) _ a 0 [] (by simpa using f.2)
theorem zH7:vM 284 zxX:=kF2 zvE zx zy zn zQc zO5
@[simp] abbrev zhX (l:List Entry)(p:Int):Bool:=pc (l.length<=1048576)
@[simp] abbrev zkP (l:List Entry)(p:Int):List Entry:=flushed l p
def zxL:Run:=rF2 (dS .entry) dI fun b c=>(zhX b c,[aS .entry (zkP b c)])
def zCU (N:Nat)(d:lE)(f:Int):OA:=
 (iter (σ:=(Int×(Int×(Int×(lE×(lE×Unit)))))) N (fun e a=>let b:=a.2.2.2.2.1;let c:=(ix b a.2.1 zfe); (cond (ilt a.2.1 a.1) (oN (inb a.2.1 (ln b)) (cond (nB (ieq c.Host a.2.2.1)) (oN (few (ln (ap a.2.2.2.1 [c]))) (e (a.1,((zM .i64 a.2.1 1),(a.2.2.1,((ap a.2.2.2.1 [c]),(b,()))))))) (e (a.1,((zM .i64 a.2.1 1),(a.2.2.1,(a.2.2.2.1,(b,())))))))) (some [(aS .entry a.2.2.2.1)]))) ((ln d),(0,(f,([],(d,()))))))
def zP6:FuncId->Nat->Option Tmpl:=zq [(203,0,{n:=25,tm:=[(1,.fn 316 [0]),(5,.sl 0 []),(9,.sl 1 []),(10,ti),(11,ti)],lo:=[(0,[ti])],ro:=[(0,.entry,true),(1,.entry,false)]})]
theorem zOR (a:List Entry)(b:Int)(h:zhX a b=true):∃N,zCU N a b=some [aS .entry (zkP a b)]:=by
 have j:=zK.1 h;have f:=zc2 j;refine zcp fun N d=>?_;unfold zCU oN nB;conv=>zeta
 refine(zbo a (fun i (t:lE)=>((ln a),(i:Int),b,t,a,())) _ (fun _ (x:Entry) (t:List Entry) g=>bif !ieq x.Host b then (cond (few (ln (ap t [x]))) (g (ap t [x])) none) else g t) (fun (t:lE)=>(some [(.one (.s .entry t))])) (fun i c t rec=>?_) (fun t rec=>?_) _ ([]) (d f.1)).trans ?_;{simp only [zbG c,zbi c,zbp c,zbj c f.1,cT];cases ieq a[i].Host b<;>rfl};{simp only [zbw,cF]};exact zpr (fun e=>!ieq e.Host b) _ a 0 [] (by simpa using f.2)
theorem zHV:vM 278 zxL:=kF2 zvE zx zy zn zP6 zOR
def z3i:zW:=[(283,zwi),(277,zwd),(284,zxX),(278,zxL)]++zbbi
theorem zKT:zL z3i:=zh zFv (zh zFp (zh zH7 (zh zHV zvE)))
def zmq (b:List Guest)(p:Int):Nat->List Kept->List Kept
 | 0,a=>a
 |n+1,a=>up (zmq b p n a) (n:Int) (zid (ix (zmq b p n a) (n:Int) zfO) (ix b (n:Int) zD).Live p)
theorem zrI (b:List Guest)(p:Int):∀(n:Nat) (a:List Kept),(zmq b p n a).length=a.length
 | 0,_=>rfl
 |n+1,a=>by simp only[zmq,zgX];exact zrI b p n a
theorem zyD (b:List Guest)(p:Int):∀(n:Nat) (a:List Kept),n<=a.length->zEX a->zEX (zmq b p n a)
 | 0,_,_,h=>h
 |n+1,a,e,h=>by have d:=zyD b p n a (by omega) h;have c:n<(zmq b p n a).length:=(by rw[zrI];omega);exact zA7 d (zbam _ _ (by rw[zbp c];exact d.2 _ (jL c)))
def zld (x:Mon)(p:Int)(n:Nat):Mon:={x with Tables:=zmq x.Guests p n x.Tables}
theorem z8c {x:Mon}{p:Int}{n:Nat}(a:n<=x.Tables.length)(h:zfp x):zfp (zld x p n):=⟨h.1,h.2.1,h.2.2.1,h.2.2.2.1,h.2.2.2.2.1,zyD _ _ _ _ a h.2.2.2.2.2⟩
def zco (h:Host)(m p:Int)(s:Slot):Host :=
 bif ine (ix (ix h.Mons m zi).Outer p zZ).Page (-1)
 then ⟨h.Memory,up h.Mons m {zld (ix h.Mons m zi) p (ix h.Mons m zi).Tables.length with Outer:=up (ix h.Mons m zi).Outer p s},flushed h.Buffer (ix (ix h.Mons m zi).Outer p zZ).Page,flushed h.IoBuffer (ix (ix h.Mons m zi).Outer p zZ).Page⟩
 else ⟨h.Memory,up h.Mons m {zld (ix h.Mons m zi) p (ix h.Mons m zi).Tables.length with Outer:=up (ix h.Mons m zi).Outer p s},h.Buffer,h.IoBuffer⟩
def zbdV (h:Host)(m p:Int):Prop:=hasB m (ln h.Mons)=true/\hasB p (ln (ix h.Mons m zi).Outer)=true/\(ix h.Mons m zi).Tables.length<=(ix h.Mons m zi).Guests.length
@[simp] abbrev zfm (h:Host)(m p:Int)(s:Slot):Bool:=pc (zcc h/\zbdV h m p)
@[simp] abbrev zhg (h:Host)(m p:Int)(s:Slot):Host:=zco h m p s
def zue:List AV->Option (Bool×List AV)
 |[.agg [.s (.sl .int) b,.s .mon c,.s .entry d,.s .entry e],.one (.i .i64 f),.one (.i .i64 g),.agg [.i .i64 h,.i .i64 j]]=>some ((zfm (⟨b,c,d,e⟩:Host) f g (⟨h,j⟩:Slot)),[aH (zhg (⟨b,c,d,e⟩:Host) f g (⟨h,j⟩:Slot))])
 |_=>none
def zyS (N:Nat)(p:Host)(g z:Int)(B:Slot):OA:=
 let v:=(ix p.Mons g zi); (oN (inb g (ln p.Mons)) (oN (inb z (ln v.Outer)) (iter (σ:=(Int×(Int×(Int×(Int×(Int×(Int×(Int×(Int×(Int×(Int×(Int×(Int×(Int×(Int×(Int×(lM×(lN×(lE×(lE×(lM×(lN×(lE×(lE×Unit)))))))))))))))))))))))) N (fun D a=>let d:=a.2.2.1;let m:=a.2.2.2.2.2.2.2.2.2.2.2.1;let l:=a.2.2.2.2.2.2.2.2.2.2.2.2.1;let k:=a.2.2.2.2.2.2.2.2.2.2.2.2.2.2.1;let j:=a.2.2.2.2.2.2.2.2.2.2.2.2.2.2.2.1;let f:=a.2.2.2.2.2.2.2.1;let e:=a.2.2.2.2.2.2.2.2.1;let c:=a.2.2.2.1;let w:=a.2.2.2.2.2.2.2.2.2.2.1;let y:=a.2.2.2.2.2.2.2.2.2.2.2.2.2.2.2.2.2.1;let x:=a.2.2.2.2.2.2.2.2.2.2.2.2.2.2.2.2.2.2.1;let n:=a.2.2.2.2.2.2.1;let r:=a.2.2.2.2.2.2.2.2.2.1;let i:=a.2.2.2.2.2.2.2.2.2.2.2.2.2.1;let q:=a.2.2.2.2.2.2.2.2.2.2.2.2.2.2.2.2.1;let u:=(ix q r zi).Guests;let t:=(ix u c zD).Live;let h:=(ix q n zi);let s:=(ix q i zi).Tables;let C:=(up q n ({h with Outer:=(up h.Outer a.2.1 (⟨a.2.2.2.2.1,a.2.2.2.2.2.1⟩:Slot))}:Mon)); (cond (ilt c (ln s)) (oN (inb c (ln s)) (oN (inb c (ln u)) (oN (zmX (ix s c zfO) t a.2.1) (oN (inb c (ln s)) (share (up q i ({ (ix q i zi) with Tables:=(up s c (zwp (ix s c zfO) t a.2.1))}:Mon)) (fun b=>(D (a.1,(a.2.1,(d,((zM .i64 c 1),(a.2.2.2.2.1,(a.2.2.2.2.2.1,(n,(f,(e,(r,(w,(m,(l,(i,(k,(j,(b,(y,(x,(a.2.2.2.2.2.2.2.2.2.2.2.2.2.2.2.2.2.2.2.1,(a.2.2.2.2.2.2.2.2.2.2.2.2.2.2.2.2.2.2.2.2.1,(a.2.2.2.2.2.2.2.2.2.2.2.2.2.2.2.2.2.2.2.2.2.1,(a.2.2.2.2.2.2.2.2.2.2.2.2.2.2.2.2.2.2.2.2.2.2.1,())))))))))))))))))))))))))))))) (cond (ine d (-1)) (oN (zh1 y d) (oN (zh1 x d) (oN (inb a.2.1 (ln h.Outer)) (share C (fun b=>(oN (inb a.1 (ln b)) (oN (cond (cond (cond (cond (cond (cond (ieq i a.1) true false) (cond (ieq w a.1) true false) false) (cond (ieq r a.1) true false) false) (cond (ieq e a.1) true false) false) (cond (ieq f a.1) true false) false) (cond (ieq n a.1) true false) false) (share (up b a.1 ({ (ix b n zi) with Out:=(ix b f zi).Out,Dirty:=(ix b e zi).Dirty,Guests:=(ix b r zi).Guests,Outs:=(ix b w zi).Outs,Pending:=m,Traps:=l,Tables:=(ix b i zi).Tables,Own:=k}:Mon)) (fun A=>(some [(aH (⟨j,A,(zse y d),(zse x d)⟩:Host))])))))))))) (oN (inb a.2.1 (ln h.Outer)) (share C (fun b=>(oN (inb a.1 (ln b)) (oN (cond (cond (cond (cond (cond (cond (ieq i a.1) true false) (cond (ieq w a.1) true false) false) (cond (ieq r a.1) true false) false) (cond (ieq e a.1) true false) false) (cond (ieq f a.1) true false) false) (cond (ieq n a.1) true false) false) (share (up b a.1 ({ (ix b n zi) with Out:=(ix b f zi).Out,Dirty:=(ix b e zi).Dirty,Guests:=(ix b r zi).Guests,Outs:=(ix b w zi).Outs,Pending:=m,Traps:=l,Tables:=(ix b i zi).Tables,Own:=k}:Mon)) (fun A=>(some [(aH (⟨j,A,y,x⟩:Host))]))))))))))) (g,(z,((ix v.Outer z zZ).Page,(0,(B.Page,(B.Rights,(g,(g,(g,(g,(g,(v.Pending,(v.Traps,(g,(v.Own,(p.Memory,(p.Mons,(p.Buffer,(p.IoBuffer,([],([],([],([],()))))))))))))))))))))))))))
def zVZ:FuncId->Nat->Option Tmpl:=zq [(213,0,{n:=70,tm:=[(1,ti),(2,ti),(4,.lp 0 0),(7,.lp 1 0),(8,.lp 2 0),(9,.lp 3 0),(10,ti),(11,ti)],lo:=[(0,[.sl 0 [],.sl 1 [],.sl 2 [],.sl 3 []]),(1,[ti,ti]),(2,[.sl 4 [],.sl 5 [],.sl 6 [],.sl 7 []]),(3,[.sl 1 [0],.sl 1 [1],.sl 1 [2],.sl 1 [3],.sl 1 [4],ti,ti,.sl 1 [7],ti])],ro:=[(0,(.sl .int),true),(1,.mon,true),(2,.entry,true),(3,.entry,true),(4,(.sl .int),true),(5,.mon,true),(6,.entry,true),(7,.entry,true)]})]
theorem zYx (N:Nat)(a:Host)(b c:Int)(d:Slot):zHo (cQ z3i zrd zSn z5m) zVZ N 12 213 [true,true,true,true,false,false,false,false] 1 1 [[0],[1],[2],[4],[7]] .mon [aH a,aI b,aI c,aT .slot d]=zyS N a b c d:=by kernel_rfl
theorem zVA (a:Host)(f b:Int)(d:Slot)(D:zci big [aH a,aI f,aI b,aT .slot d])(y:zfm a f b d=true):∃N,zyS N a f b d=some [aH (zhg a f b d)]:=by
 obtain⟨B,g,s,C⟩:=zK.1 y;have l:=(zT a).1 B;have r:zfp (ix a.Mons f zi):=l.2.1.2 _ (zbA g _);obtain⟨k,rfl,q⟩:=zdK (n:=a.Mons.length) g;have x:=(zc2 r.2.2.2.2.2.1).1;refine zcp fun N p=>?_;unfold zyS oN;conv=>zeta
 refine must g (must s ?_);refine zHz (ix a.Mons (k:Int) zi).Tables.length (fun i (t:List Mon)=>((k:Int),b,(ix (ix a.Mons (k:Int) zi).Outer b zZ).Page,(i:Int),d.Page,d.Rights,(k:Int),(k:Int),(k:Int),(k:Int),(k:Int),(ix a.Mons (k:Int) zi).Pending,(ix a.Mons (k:Int) zi).Traps,(k:Int),(ix a.Mons (k:Int) zi).Own,a.Memory,t,a.Buffer,a.IoBuffer,[],[],[],[],())) _
  (fun i t=>t=up a.Mons (k:Int) (zld (ix a.Mons (k:Int) zi) b i)) (fun _ _=>some [AV.agg (zbf (zco a (k:Int) b d))]) (fun i t rec u m A=>?_) (fun t rec m=>?_) _ 0 a.Mons ?_ (j4 _) ?_
 .subst m;have c:i<(zmq (ix a.Mons (k:Int) zi).Guests b i (ix a.Mons (k:Int) zi).Tables).length:=(by rw[zrI];exact u);have e:i<(ix a.Mons (k:Int) zi).Guests.length:=by omega
  have z:zmX (ix (zmq (ix a.Mons (k:Int) zi).Guests b i (ix a.Mons (k:Int) zi).Tables) (i:Int) zfO) (ix (ix a.Mons (k:Int) zi).Guests (i:Int) zD).Live b=true :=
   zbJ ⟨by rw[zbp c];exact(zyD _ _ _ _ (by omega) r.2.2.2.2.2).2 _ (jL c),by rw[zbp e];exact(r.2.2.2.1.2 _ (jL e)).2.2.1⟩
  simp only[zdR q,zyG,zld,zbG c,zbi c,zbi e,z,cT,share,zbj u x];exact A _ rfl
 {subst m;simp only[zdR q,zyG,zgX,zld,ln,zrI,zes,show ilt (((ix a.Mons (k:Int) zi).Tables.length:Nat):Int) (((ix a.Mons (k:Int) zi).Tables.length:Nat):Int)=false from qM (by omega),cT,cF,share];have h:inb (k:Int) ((a.Mons.length:Nat):Int)=true:=g;have j:inb b (((ix a.Mons (k:Int) zi).Outer.length:Nat):Int)=true:=s;have v:zh1 a.Buffer (ix (ix a.Mons (k:Int) zi).Outer b zZ).Page=true:=zbJ l.2.2.1;have w:zh1 a.IoBuffer (ix (ix a.Mons (k:Int) zi).Outer b zZ).Page=true:=zbJ l.2.2.2;simp only[h,j,v,w,cT];unfold zco;cases ine (ix (ix a.Mons (k:Int) zi).Outer b zZ).Page (-1)<;>rfl};{exact(zST q _).symm};{exact p (by omega)}
theorem zOG:zd4 Tryz.prog 213 [true,true,true,true,false,false,false,false] (some (1,1,[[0],[1],[2],[4],[7]])) zue:=by refine zmB (kt:=.mon) (zgF zKT zx zy zn) (zjU (by kernel_rfl)) (by kernel_rfl) ?_;intro a g f e h;have c:=zjd e;unfold zue at h;split at h;{obtain⟨d,rfl⟩:=zea h;obtain⟨N,b⟩:=zVA _ _ _ _ (by exact c) d;exact⟨⟨_,rfl⟩,rfl,_,N,12,(zYx N _ _ _ _ ).trans b⟩};{cases h}
def zZy:zfY:=[(213,([true,true,true,true,false,false,false,false],(some (1,1,[[0],[1],[2],[4],[7]])),zue))]++z5m
theorem zeB:zep zZy:=zrJ zn (by
 intro x a;simp only[qG,qN,or_false]at a;rcases a with rfl
 .exact zOG)
def zZ0 (x:Mon)(p:Int):Mon:={x with Dirty:=up x.Dirty p false}
def zrK (h:Host)(m p:Int):Host:={h with Mons:=up h.Mons m (zZ0 (ix h.Mons m zi) p)}
def zvN (h:Host)(m p:Int):Host:=bif zcz h m p then (cond (zcW (ix (ix h.Mons m zi).Outer p zZ) noSlot) (zrK h m p) (zco (zrK h m p) m p ⟨(ix (ix h.Mons m zi).Outer p zZ).Page,1⟩)) else h
theorem zBQ:∀(l:List Mon) (u:List Bool),zjh l u=true->∀x∈l,zd3 x=true
 |[],_,_,x,a=>by cases a
 |m::l,u,h,x,a=>by
  simp only[zjh]at h;cases b:zd3 m;{rw [b]at h;cases h}
  .rw [b]at h;simp only[cT]at h;cases c:zgY m.Outer u with
   |none=>rw[c]at h;cases h
   |some d =>rw[c]at h;rcases qG.1 a with rfl|a;{exact b};{exact zBQ l d h x a}
structure PageAt (h:Host) (m p:Int):Prop where
 hm:hasB m (ln h.Mons)=true
 hp:hasB p 8=true
 ok:zd3 (ix h.Mons m zi)=true
 ho:(ix h.Mons m zi).Outer.length=8
 hd:(ix h.Mons m zi).Dirty.length=8
 ht:(ix h.Mons m zi).Tables.length=(ix h.Mons m zi).Guests.length
 hs:zcW (ix (ix h.Mons m zi).Outer p zZ) noSlot=ieq (ix (ix h.Mons m zi).Outer p zZ).Page (-1)
theorem zUg {s:Slot}{n:Int}(h:zdD s n=true):zcW s noSlot=ieq s.Page (-1):=by unfold zdD at h;cases a:zcW s noSlot;{rw [a]at h;cases d:ieq s.Page (-1);{rfl};{have e:s.Page = -1:=qE d;cases b:igt n 0;{rw [b]at h;cases h};{cases c:win s.Page 0 (wsub .i64 n 1);{rw [b,c]at h;cases h};{have:=(zge.1 c).1;omega}}}};{unfold zcW at a;rw[qD]at a;exact a.1.symm}
theorem zPp {h:Host}{m p:Int}(d:zcz h m p=true):PageAt h m p:=by unfold zcz at d;simp only[zc9]at d;obtain⟨c,f,g⟩:=d;unfold zb1 at c;simp only[zc9]at c;have b:=zBQ _ _ c.2.2.2.2 _ (zbA f zi);have a:=b;unfold zd3 at a;simp only[zc9]at a;have i:(ix h.Mons m zi).Outer.length=8:=(by have:=ztG a.2.2.1;simp only[ln] at this;omega);refine⟨f,g,b,i,?_,?_,?_⟩;{have:ln (ix h.Mons m zi).Dirty=8:=qE a.2.2.2.2.1;simp only[ln] at this;omega};{have:ln (ix h.Mons m zi).Tables=ln (ix h.Mons m zi).Guests:=qE a.2.1;simp only[ln] at this;omega};{have e:=a.2.2.1;unfold zcS at e;simp only[zc9]at e;have j:hasB p (ln (ix h.Mons m zi).Outer)=true:=(by rw[ln,i];exact g);exact zUg (qL.1 e.1 _ (zbA j _))}
theorem zZp {x:Mon}{p:Int}(h:zfp x):zfp (zZ0 x p):=⟨h.1,h.2.1,by simpa [zZ0] using h.2.2.1,h.2.2.2⟩
theorem zCJ {h:Host}{m p:Int}(b:hasB m (ln h.Mons)=true)(a:SmH h):SmH (zrK h m p):=⟨a.1,zjO a.2.1 (zZp (a.2.1.2 _ (zbA b _))),a.2.2⟩
theorem zKq {h:Host}{m p:Int}{s:Slot}(d:hasB m (ln h.Mons)=true)(a:SmH h):SmH (zco h m p s):=by have c:=a.2.1.2 _ (zbA d zi);have e:=z8c (p:=p) (qW _) c;have b:zsO (up h.Mons m {zld (ix h.Mons m zi) p (ix h.Mons m zi).Tables.length with Outer:=up (ix h.Mons m zi).Outer p s}):=zjO a.2.1 ⟨by simpa using c.1,e.2⟩;unfold zco;cases ine (ix (ix h.Mons m zi).Outer p zZ).Page (-1);{exact⟨a.1,b,a.2.2⟩};{exact⟨a.1,b,qU (zJG _ _) a.2.2.1,qU (zJG _ _) a.2.2.2⟩}
theorem zCP {h:Host}{m p:Int}(a:hasB m (ln h.Mons)=true):hasB m (ln (zrK h m p).Mons)=true:=by unfold zrK;simpa [ln] using a
theorem z7Y {h:Host}{m p:Int}(a:SmH h):SmH (zvN h m p):=by unfold zvN;cases b:zcz h m p;{exact a};{have P:=zPp b;cases zcW (ix (ix h.Mons m zi).Outer p zZ) noSlot;{exact zKq (zCP P.hm) (zCJ P.hm a)};{exact zCJ P.hm a}}
@[simp] abbrev zGM (h:Host)(m p:Int):Bool:=pc (zcc h)
@[simp] abbrev zx5 (h:Host)(m p:Int):Host:=zvN h m p
@[simp] abbrev zx6 (h:Host)(m p:Int):Bool:=zcz h m p
def zJ4:Run:=rF3 dH dI dI fun b c d=>(zGM b c d,[aH (zx5 b c d),aB (zx6 b c d)])
def zS7 (N:Nat)(h:Host)(a b:Int):OA:=
 let c:=(zu h);let g:=(ix c.Mons a zi); (oN (zbV h) (oN (zo9 c a b) (cond (nB (zh4 c a b)) (some [(aH c),(aB false)]) (oN (inb a (ln c.Mons)) (oN (inb b (ln g.Dirty)) (share (up c.Mons a ({g with Dirty:=(up g.Dirty b false)}:Mon)) (fun d=>let i:=(ix d a zi).Outer;let f:=({c with Mons:=d}:Host);let e:=(ix i b zZ);let j:=({e with Rights:=1}:Slot); (oN (inb a (ln d)) (oN (inb b (ln i)) (oN zcx (cond (cond (ieq e.Page zbv.Page) (ieq e.Rights zbv.Rights) false) (some [(aH f),(aB true)]) (oN (zfm f a b j) (some [(aH (zhg f a b j)),(aB true)])))))))))))))
theorem z0H (a:Host)(c b:Int)(j:zGM a c b=true):∃N,zS7 N a c b=some [aH (zx5 a c b),aB (zx6 a c b)]:=by
 have g:=zK.1 j;have i:=(zT a).1 g;refine⟨0,?_⟩;unfold zS7 zx5 zx6 zvN oN nB;conv=>zeta
 refine must (zbJ g) (must rfl ?_);cases f:zcz a c b;{simp only [zh4,zu,f,cF,cT]};{have P:=zPp f;obtain⟨k,rfl,d⟩:=zdK (n:=a.Mons.length) P.hm;simp only[zh4,zu,f,cT,cF];have l:inb b (ln (ix a.Mons (k:Int) zi).Dirty)=true:=(by rw[ln,P.hd];exact P.hp);have h:inb b (ln (ix a.Mons (k:Int) zi).Outer)=true:=(by rw[ln,P.ho];exact P.hp);refine must P.hm (must l ?_);simp only[share,zdR d,h,cT,zcx,zbv];refine must (zCP (p:=b) P.hm) ?_;have e:∀s:Slot,zcW s noSlot=bif ieq s.Page noSlot.Page then ieq s.Rights noSlot.Rights else false:=fun s=>(by unfold zcW;cases ieq s.Page noSlot.Page<;>rfl);rw[<- e];cases zcW (ix (ix a.Mons (k:Int) zi).Outer b zZ) noSlot;{refine zdH rfl (must (zbJ ⟨(zT _).2 (zCJ P.hm i),zCP (p:=b) P.hm,?_,?_⟩) rfl);{simp only [zdR d];exact h};{simp only [zdR d];exact kY P.ht}};{rfl}}
theorem zUz:vM 337 zJ4:=kF3 zKT zx zy zeB (zq []) z0H
def z6f:zW:=[(337,zJ4)]++z3i
theorem z6g:zL z6f:=zh zUz zKT
def z6h:zW:=z6f
theorem zlH:zL z6h:=z6g
def zCf (o i t:Int):Int:=bif zhm i t then 1 else (cond (zhm o t) 2 0)
@[simp] abbrev zsq (o i t:Int):Bool:=true
@[simp] abbrev zo7 (o i t:Int):Int:=zCf o i t
def zDJ:Run:=rF3 dI dI dI fun b c d=>(zsq b c d,[aI (zo7 b c d)])
def zJi (N:Nat)(b c a:Int):OA:=
 (oN (zi3 c a) (cond (ziF c a) (some [(aI 1)]) (oN (zi3 b a) (cond (ziF b a) (some [(aI 2)]) (some [(aI 0)])))))
theorem zVm (a b c:Int)(d:zsq a b c=true):∃N,zJi N a b c=some [aI (zo7 a b c)]:=by refine⟨0,?_⟩;unfold zJi oN;refine must rfl (br (fun _=>?_) (fun _=>must rfl (br (fun _=>?_) (fun _=>?_))));all_goals first|rfl|(simp only [*,zo7,zCf,cT,cF]<;>rfl)|simp_all[Ty.cells,zo7,zCf]
theorem zOi:vM 353 zDJ:=kF3 zlH zx zy zeB (zq []) zVm
def zeN (m g:Int):Int:=bif win m 0 2 then (cond (win g 0 1) (zM .i64 (zM .i64 1 g) (zle .i64 m 2)) 0) else 0
@[simp] abbrev zmd (m g:Int):Bool:=true
@[simp] abbrev zvo (m g:Int):Int:=zeN m g
def zKb:Run:=rF2 dI dI fun b c=>(zmd b c,[aI (zvo b c)])
def zTf (N:Nat)(a b:Int):OA:=
 (oN (zN a 0 2) (cond (nB (zQ a 0 2)) (some [(aI 0)]) (oN (zN b 0 1) (cond (nB (zQ b 0 1)) (some [(aI 0)]) (some [(aI (zM .i64 (zM .i64 1 b) (zle .i64 a 2)))])))))
theorem z0P (a b:Int)(c:zmd a b=true):∃N,zTf N a b=some [aI (zvo a b)]:=by refine⟨0,?_⟩;unfold zTf oN nB;refine must rfl (brN (fun _=>?_) (fun _=>must rfl (brN (fun _=>?_) (fun _=>?_))));all_goals first|rfl|(simp only [*,zvo,zeN,cT,cF]<;>rfl)|simp_all[Ty.cells,zvo,zeN]
theorem zUG:vM 37 zKb:=kF2 zlH zx zy zeB (zq []) z0P
def zlX (k:Kept)(p:Int):Bool:=bif zdC k p then ix k.Known p false else false
def zfq (k:Kept)(p:Int):Slot:=bif zlX k p then ix k.Slots p zZ else noSlot
@[simp] abbrev zHJ (k:Kept)(p:Int):Bool:=pc (SmK k)
@[simp] abbrev zvm (k:Kept)(p:Int):Slot:=zfq k p
@[simp] abbrev zHI (k:Kept)(p:Int):Bool:=zlX k p
def zUa:Run:=rF2 (dT .kept) dI fun b c=>(zHJ b c,[aT .slot (zvm b c),aB (zHI b c)])
def z1O (N:Nat)(a:Kept)(b:Int):OA:=
 let c:=(ix a.Slots b zZ); (oN (zqr a b) (cond (nB (zi6 a b)) (oN zcx (some [(.agg [(.i .i64 zbv.Page),(.i .i64 zbv.Rights)]),(aB false)])) (oN (inb b (ln a.Known)) (cond (nB (ix a.Known b false)) (oN zcx (some [(.agg [(.i .i64 zbv.Page),(.i .i64 zbv.Rights)]),(aB false)])) (oN (inb b (ln a.Slots)) (some [(.agg [(.i .i64 c.Page),(.i .i64 c.Rights)]),(aB true)]))))))
theorem z6U (a:Kept)(b:Int)(f:zHJ a b=true):∃N,z1O N a b=some [aT .slot (zvm a b),aB (zHI a b)]:=by
 have g:=zK.1 f;refine⟨0,?_⟩;unfold z1O zvm zHI zfq zlX oN nB;conv=>zeta
 refine must (zbJ g) ?_;rw[show zi6 a b=zdC a b from rfl];cases c:zdC a b;{rfl};{unfold zdC at c;obtain⟨d,e⟩:=zc9.1 c;simp only[zI d,zI e,cT];cases ix a.Known b false<;>rfl}
theorem z0u:vM 35 zUa:=kF2 zlH zx zy zeB (zq []) z6U
def filled (k:Kept)(a b:List Slot)(p:Int):Kept:=bif zdC k p then (cond (hasB p (ln a)) ⟨up k.Known p true,up k.Slots p (zbx (ix a p zZ) b)⟩ k) else k
@[simp] theorem z5h {k:Kept}{a b:List Slot}{p:Int}(h:SmK k):SmK (filled k a b p):=by unfold filled;cases zdC k p;{exact h};{cases hasB p (ln a);{exact h};{exact⟨by simpa using h.1,by simpa using h.2⟩}}
@[simp] abbrev zMq (k:Kept)(i o:List Slot)(p:Int):Bool:=pc (SmK k)
@[simp] abbrev zPF (k:Kept)(i o:List Slot)(p:Int):Kept:=filled k i o p
def zPB:Run:=rF4 (dT .kept) (dS .slot) (dS .slot) dI fun b c d e=>(zMq b c d e,[aT .kept (zPF b c d e)])
def zWn (N:Nat)(d:Kept)(c e:lS)(a:Int):OA:=
 let b:=(zds d); (oN (zgl d) (oN (zqr b a) (cond (zi6 b a) (cond (ilt a (ln c)) (oN (inb a (ln b.Known)) (share (up b.Known a true) (fun f=>(oN (inb a (ln c)) (oN (zll (ix c a zZ) e) (oN (inb a (ln b.Slots)) (share (up b.Slots a (zn9 (ix c a zZ) e)) (fun g=>(some [(aT .kept (⟨f,g⟩:Kept))]))))))))) (some [(aT .kept b)])) (some [(aT .kept b)]))))
theorem z4e (b:Kept)(c d:List Slot)(a:Int)(j:zMq b c d a=true):∃N,zWn N b c d a=some [aT .kept (zPF b c d a)]:=by
 have g:=zK.1 j;refine⟨0,?_⟩;unfold zWn zPF filled oN;conv=>zeta
 refine must (zbJ ((zzR _).2 g)) (must (zbJ g) ?_);rw[show zi6 (zds b) a=zdC b a from rfl];cases f:zdC b a;{rfl};{unfold zdC at f;obtain⟨e,h⟩:=zc9.1 f;rw[has_lt e (m:=ln c)];cases i:hasB a (ln c);{rfl};{simp only [cT,zds,zI e,zI h,zI i,share,zll];rfl}}
theorem zXn:vM 223 zPB:=kF4 zlH zx zy zeB (zq []) z4e
theorem zXc {a b:Type}(p:a->Bool)(r:a->Option b)(K:Unit->Option b):∀(l:List a) (i:Nat),goL (fun _ x (_:Unit) k=>bif p x then r x else k ()) K l i ()=match l.find? p with|some x=>r x|none=>K ()
 |[],_=>rfl
 |x::l,i=>by simp only[goL];cases h:p x;{rw [List.find?_cons_of_neg (by simp[h])];exact zXc p r K l (i+1)};{rw [List.find?_cons_of_pos h];rfl}
def zHp (b:List Entry)(t p:Int):Option Entry:=b.find? fun e=>bif ieq e.Tag t then ieq e.Page p else false
@[simp] abbrev zob (b:List Entry)(t p:Int):Bool:=true
@[simp] abbrev zoa (b:List Entry)(t p:Int):Entry:=(zHp b t p).getD ⟨0,0,0,0⟩
@[simp] abbrev zky (b:List Entry)(t p:Int):Bool:=(zHp b t p).isSome
def zxW:Run:=rF3 (dS .entry) dI dI fun b c d=>(zob b c d,[aT .entry (zoa b c d),aB (zky b c d)])
def zC6 (N:Nat)(f:lE)(g h:Int):OA:=
 (iter (σ:=(Int×(Int×(Int×(Int×(Int×(Int×(Int×(lE×Unit))))))))) N (fun j a=>let c:=a.2.2.2.2.2.2.2.1;let d:=(inb a.2.2.1 (ln c));let e:=(j (a.1,(a.2.1,((zM .i64 a.2.2.1 1),(a.2.2.2.1,(a.2.2.2.2.1,(a.2.2.2.2.2.1,(a.2.2.2.2.2.2.1,(c,())))))))));let b:=(ix c a.2.2.1 zfe); (cond (ilt a.2.2.1 (ln c)) (oN d (cond (ieq b.Tag a.1) (oN d (cond (ieq b.Page a.2.1) (oN d (some [(.agg [(.i .i64 b.Tag),(.i .i64 b.Page),(.i .i64 b.Host),(.i .i64 b.Rights)]),(aB true)])) e)) e)) (some [(.agg [(.i .i64 0),(.i .i64 0),(.i .i64 0),(.i .i64 0)]),(aB false)]))) (g,(h,(0,(0,(0,(0,(0,(f,())))))))))
def zQb:FuncId->Nat->Option Tmpl:=zq [(36,0,{n:=36,tm:=[(0,.sl 0 []),(1,ti),(2,ti),(6,.lp 0 0),(8,ti)],lo:=[(0,[ti,ti,ti,ti])],ro:=[(0,.entry,false)]})]
theorem zO4 (a:List Entry)(c d:Int)(j:zci big [aS .entry a,aI c,aI d])(l:zob a c d=true):∃N,zC6 N a c d=some [aT .entry (zoa a c d),aB (zky a c d)]:=by
 have h:=(len0 j);refine zcp fun N g=>?_;unfold zC6 oN;conv=>zeta
 refine(zbo a (fun i (t:Unit)=>(c,d,(i:Int),0,0,0,0,a,())) _ (fun _ (x:Entry) (_:Unit) k=>bif (cond (ieq x.Tag c) (ieq x.Page d) false) then (some [AV.agg (Ty.cells .entry x),AV.one (.b true)]) else k ()) (fun (t:Unit)=>(some [(.agg [(.i .i64 0),(.i .i64 0),(.i .i64 0),(.i .i64 0)]),(.one (.b false))])) (fun i f t rec=>?_) (fun t rec=>?_) _ () (g h)).trans ?_;{simp only [zbG f,zbi f,zbp f,zbj f h,cT];cases ieq a[i].Tag c<;>cases ieq a[i].Page d<;>rfl};{simp only [zbw,cF]};rw[zXc (fun e:Entry=>bif ieq e.Tag c then ieq e.Page d else false)];unfold zoa zky zHp;cases a.find? (fun e:Entry=>bif ieq e.Tag c then ieq e.Page d else false)<;>rfl
theorem zH6:vM 36 zxW:=hF3 zlH zx zy zeB zQb zO4
def zFP (t p:Int)(e:Entry):Bool:=bif ine e.Tag t then true else ine e.Page p
def zcG (b:List Entry)(t p:Int):List Entry:=b.filter (zFP t p)
theorem zBG (b:List Entry)(t p:Int):(zcG b t p).length<=b.length:=uA _ _
@[simp] abbrev zgU (b:List Entry)(t p:Int):Bool:=pc (b.length<=1048576)
@[simp] abbrev znJ (b:List Entry)(t p:Int):List Entry:=zcG b t p
def zxY:Run:=rF3 (dS .entry) dI dI fun b c d=>(zgU b c d,[aS .entry (znJ b c d)])
def zC8 (N:Nat)(h:lE)(i j:Int):OA:=
 (iter (σ:=(Int×(Int×(Int×(lE×(lE×Unit)))))) N (fun f a=>let b:=a.2.2.2.1;let c:=(inb a.2.2.1 (ln b));let d:=(ix b a.2.2.1 zfe);let e:=(ap a.2.2.2.2.1 [d]);let g:=(f (a.1,(a.2.1,((zM .i64 a.2.2.1 1),(b,(e,())))))); (cond (ilt a.2.2.1 (ln b)) (oN c (cond (ine d.Tag a.1) (oN c (oN (few (ln e)) g)) (oN c (cond (ine d.Page a.2.1) (oN c (oN (few (ln e)) g)) (f (a.1,(a.2.1,((zM .i64 a.2.2.1 1),(b,(a.2.2.2.2.1,())))))))))) (some [(aS .entry a.2.2.2.2.1)]))) (i,(j,(0,(h,([],()))))))
def zQd:FuncId->Nat->Option Tmpl:=zq [(109,0,{n:=40,tm:=[(0,.sl 0 []),(1,ti),(2,ti),(7,.sl 1 []),(8,ti)],lo:=[],ro:=[(0,.entry,false),(1,.entry,true)]})]
theorem zO6 (a:List Entry)(b c:Int)(h:zgU a b c=true):∃N,zC8 N a b c=some [aS .entry (znJ a b c)]:=by
 have j:=zK.1 h;have f:=zc2 j;refine zcp fun N e=>?_;unfold zC8 oN;conv=>zeta
 refine(zbo a (fun i (t:lE)=>(b,c,(i:Int),a,t,())) _ (fun _ (x:Entry) (t:List Entry) g=>bif zFP b c x then (cond (few (ln (ap t [x]))) (g (ap t [x])) none) else g t) (fun (t:lE)=>(some [(.one (.s .entry t))])) (fun i d t rec=>?_) (fun t rec=>?_) _ ([]) (e f.1)).trans ?_;{simp only [zbG d,zbi d,zbp d,zbj d f.1,cT];unfold zFP;cases ine a[i].Tag b<;>cases ine a[i].Page c<;>rfl};{simp only [zbw,cF]};exact zpr (zFP b c) _ a 0 [] (by simpa using f.2)
theorem zH8:vM 109 zxY:=kF3 zlH zx zy zeB zQd zO6
def zbbp:zW:=[(353,zDJ),(37,zKb),(35,zUa),(223,zPB),(36,zxW),(109,zxY)]++z6h
theorem zBC:zL zbbp:=zh zOi (zh zUG (zh z0u (zh zXn (zh zH6 (zh zH8 zlH)))))
def zrj (b:List Entry)(e:Entry):List Entry:=bif igt (ln (ap (zcG b e.Tag e.Page) [e])) 6 then dp (ap (zcG b e.Tag e.Page) [e]) (wsub .i64 (ln (ap (zcG b e.Tag e.Page) [e])) 6) else ap (zcG b e.Tag e.Page) [e]
theorem zCk {b:List Entry}(e:Entry)(h:b.length<=1048576):(zrj b e).length<=1048576/\(ap (zcG b e.Tag e.Page) [e]).length<=1048577:=by have d:=zBG b e.Tag e.Page;have c:(ap (zcG b e.Tag e.Page) [e]).length<=1048577:=(by simp[ap];omega);refine⟨?_,c⟩;unfold zrj;cases a:igt (ln (ap (zcG b e.Tag e.Page) [e])) 6;{have a:=jV a;simp only[ln]at a;simp only[cF];omega};{simp only [cT,dp,vJ];have a:=qE a;have:wsub .i64 (ln (ap (zcG b e.Tag e.Page) [e])) 6=ln (ap (zcG b e.Tag e.Page) [e])-6:=zBf (by simp only[ln] at *;omega) (by simp only[ln] at *;omega);rw[this];simp only[ln] at *;omega}
@[simp] abbrev zmc (b:List Entry)(e:Entry):Bool:=pc (b.length<=1048576)
@[simp] abbrev zm5 (b:List Entry)(e:Entry):List Entry:=zrj b e
def zrt:Run:=rF2 (dS .entry) (dT .entry) fun b c=>(zmc b c,[aS .entry (zm5 b c)])
def zEN (N:Nat)(d:lE)(b:Entry):OA:=
 let a:=(ap (znJ d b.Tag b.Page) [b]);let c:=(wsub .i64 (ln a) 6); (oN (zgU d b.Tag b.Page) (oN (few (ln a)) (cond (igt (ln a) 6) (oN (inr c (ln a) (ln a)) (oN (few (ln (ap [] (dp a c)))) (some [(aS .entry (ap [] (dp a c)))]))) (some [(aS .entry a)]))))
theorem zRY (b:List Entry)(a:Entry)(h:zmc b a=true):∃N,zEN N b a=some [aS .entry (zm5 b a)]:=by
 have f:=zK.1 h;obtain⟨c,g⟩:=zCk a f;refine⟨0,?_⟩;unfold zEN oN;conv=>zeta
 refine must (zbJ f) (must (zhA (qU g (by decide:1048577<=2147483648))) ?_);unfold zm5 zrj at *;show _=some [AV.one (.s .entry (cond (igt (ln (ap (zcG b a.Tag a.Page) [a])) 6) (dp (ap (zcG b a.Tag a.Page) [a]) (wsub .i64 (ln (ap (zcG b a.Tag a.Page) [a])) 6)) (ap (zcG b a.Tag a.Page) [a])))];cases d:igt (ln (ap (zcG b a.Tag a.Page) [a])) 6;{rfl};{rw [d]at c;simp only[cT]at c;have d:=qE d;have e:wsub .i64 (ln (ap (zcG b a.Tag a.Page) [a])) 6=ln (ap (zcG b a.Tag a.Page) [a])-6:=zBf (by simp only[ln] at *;omega) (by simp only[ln] at *;omega);refine must rfl (must (qJ ?_) (must ?_ ?_));{show 0<=wsub .i64 (ln (ap (zcG b a.Tag a.Page) [a])) 6/\wsub .i64 (ln (ap (zcG b a.Tag a.Page) [a])) 6<=ln (ap (zcG b a.Tag a.Page) [a])/\ln (ap (zcG b a.Tag a.Page) [a])<=ln (ap (zcG b a.Tag a.Page) [a]);rw[e];simp only[ln] at *;omega};{exact zo0 c};{rw [znq];rfl}}
theorem zvQ:vM 224 zrt:=kF2 zBC zx zy zeB (zq []) zRY
def zpq (l:List Slot)(p:Int):Option Nat:=l.findIdx? fun s=>ieq s.Page p
def ziq (p:Int):List Mon->Nat->Int×Int
 |[],_=>(-1,-1)
 |m::l,i=>match zpq m.Outer p with|some k=>((i:Int),(k:Int))|none=>ziq p l (i+1)
def zbH (h:Host)(p:Int):Int×Int:=bif ilt p 0 then (-1,-1) else ziq p h.Mons 0
theorem zTM {a:Type}(p:Slot->Bool)(r:Nat->Option a)(K:Unit->Option a):∀(l:List Slot) (i:Nat),goL (fun j x (_:Unit) k=>bif p x then r j else k ()) K l i ()=match l.findIdx? p with|some k=>r (i+k)|none=>K ()
 |[],_=>rfl
 |x::l,i=>by simp only[goL];rw[List.findIdx?_cons];cases h:p x;{simp only [cF,kE,if_false];rw[zTM p r K l (i+1)];cases l.findIdx? p with|none=>rfl|some k=>simp only[Option.map_some];congr 1;omega};{rfl}
theorem zQy {c:Type}(p:Int)(r:Int->Int->Option c):∀(l:List Mon) (i:Nat),goL (fun i (x:Mon) (_:Unit) b=>goL (fun j (y:Slot) (_:Unit) a=>bif ieq y.Page p then r (i:Int) (j:Int) else a ()) (fun _=>b ()) x.Outer 0 ()) (fun _=>r (-1) (-1)) l i ()=r (ziq p l i).1 (ziq p l i).2
 |[],_=>rfl
 |m::l,i=>by simp only[goL,ziq];rw[zTM (fun s=>ieq s.Page p) (fun j=>r (i:Int) (j:Int))];unfold zpq;cases m.Outer.findIdx? (fun s=>ieq s.Page p) with|none=>exact zQy p r l (i+1)|some k=>simp only[j6]
@[simp] abbrev zli (h:Host)(p:Int):Bool:=true
@[simp] abbrev zgH (h:Host)(p:Int):Int:=(zbH h p).1
@[simp] abbrev zif (h:Host)(p:Int):Int:=(zbH h p).2
def zuz:Run:=rF2 dH dI fun b c=>(zli b c,[aI (zgH b c),aI (zif b c)])
def zwO (N:Nat)(f:Host)(g:Int):OA:=
 (cond (ilt g 0) (some [(aI (-1)),(aI (-1))]) (iter (σ:=(Int×(Int×(Int×(lN×Unit))))) N (fun i b=>let c:=b.2.2.1; (cond (ilt c b.2.1) (oN (inb c (ln b.2.2.2.1)) (iter (σ:=(Int×(Int×(Int×(Int×(Int×(Int×(Int×(lN×Unit))))))))) N (fun j a=>let e:=a.2.2.2.2.2.2.2.1;let h:=(ix e a.2.2.2.2.1 zi).Outer;let d:=a.2.2.2.2.2.2.1; (cond (ilt d a.2.2.2.2.2.1) (oN (inb d (ln h)) (cond (ieq (ix h d zZ).Page a.1) (some [(aI a.2.1),(aI d)]) (j (a.1,(a.2.1,(a.2.2.1,(a.2.2.2.1,(a.2.2.2.2.1,(a.2.2.2.2.2.1,((zM .i64 d 1),(e,()))))))))))) (i (a.1,(a.2.2.1,((zM .i64 a.2.2.2.1 1),(e,()))))))) (b.1,(c,(b.2.1,(c,(c,((ln (ix b.2.2.2.1 c zi).Outer),(0,(b.2.2.2.1,())))))))))) (some [(aI (-1)),(aI (-1))]))) (g,((ln f.Mons),(0,(f.Mons,()))))))
def zIK:FuncId->Nat->Option Tmpl:=zq [(313,0,{n:=36,tm:=[(1,ti),(13,.sl 0 []),(14,ti),(15,ti)],lo:=[],ro:=[(0,.mon,false)]}),(313,2,{n:=36,tm:=[(1,ti),(6,ti),(13,.sl 0 []),(14,ti),(15,ti),(21,.sl 0 [0]),(22,ti),(23,ti)],lo:=[],ro:=[(0,.mon,false)]})]
theorem zIo (a:Host)(c:Int)(m:zci big [aH a,aI c])(q:zli a c=true):∃N,zwO N a c=some [aI (zgH a c),aI (zif a c)]:=by
 have k:CVB big (.s .mon a.Mons):=(zc8 m).1 _ (by simp[AV.cvs,zbf]);have h:=k.len;refine zcp fun N e=>?_;unfold zwO zgH zif zbH oN;conv=>zeta
 cases p:ilt c 0;{simp only [cF];refine(zbo a.Mons (fun i (t:Unit)=>(c,(ln a.Mons),(i:Int),a.Mons,())) _ (fun i (x:Mon) (_:Unit) n=>goL (fun j (y:Slot) (_:Unit) b=>bif ieq y.Page c then some [AV.one (.i .i64 (i:Int)),AV.one (.i .i64 (j:Int))] else b ()) (fun _=>n ()) x.Outer 0 ()) (fun (t:Unit)=>(some [(.one (.i .i64 (-1))),(.one (.i .i64 (-1)))])) (fun i d t rec=>?_) (fun t rec=>?_) _ () (e h)).trans ?_;{simp only [zbG d,zbi d,zbp d,zbj d h,cT];have l:a.Mons[i].Outer.length<=big:=(k.inv.2 _ (jL d) (.s .slot _) (by simp[Ty.cells])).len;refine(zbo a.Mons[i].Outer (fun j (u:Unit)=>(c,(i:Int),(ln a.Mons),(i:Int),(i:Int),(ln a.Mons[i].Outer),(j:Int),a.Mons,())) _ (fun j (y:Slot) (_:Unit) b=>bif ieq y.Page c then some [AV.one (.i .i64 (i:Int)),AV.one (.i .i64 (j:Int))] else b ()) (fun (u:Unit)=>(rec (c,((ln a.Mons),((((i+1:Nat)):Int),(a.Mons,())))))) (fun j g u f=>?_) (fun u f=>?_) _ () (e l)).trans ?_;{simp only [zbG g,zbi g,zbp g,zbj g l,cT,zbi d,zbp d,zbj d h]};{simp only [zbw,cF,zbi d,zbp d,zbj d h]};rfl};{simp only [zbw,cF]};exact zQy c (fun i j=>some [AV.one (.i .i64 i),AV.one (.i .i64 j)]) a.Mons 0};{rfl}
theorem zD9:vM 313 zuz:=hF2 zBC zx zy zeB zIK zIo
theorem z6F {a c b:Type}(r:Option b):∀(l:List a) (i:Nat) (t:c),goL (fun _ _ _ _=>r) (fun _=>r) l i t=r
 |[],_,_=>rfl
 |_::_,_,_=>rfl
@[simp] abbrev zlw (h:Host)(p:Int):Bool:=true
@[simp] abbrev zgL (h:Host)(p:Int):Int:=(zbH h p).1
@[simp] abbrev ziG (h:Host)(p:Int):Int:=(zbH h p).2
def zuE:Run:=rF2 dH dI fun b c=>(zlw b c,[aI (zgL b c),aI (ziG b c)])
def zwZ (N:Nat)(d:Host)(f:Int):OA:=
 (iter (σ:=(Int×(Int×(lM×(lN×(lE×(lE×Unit))))))) N (fun g b=>(cond (ilt b.2.1 (ln b.2.2.2.1)) (cond (ige b.1 0) (iter (σ:=(Int×(Int×(Int×(lM×(lN×(lE×(lE×Unit)))))))) N (fun h a=>let c:=a.2.2.2.2.1;let e:=(ix c a.2.1 zi).Outer; (oN (inb a.2.1 (ln c)) (cond (ilt a.2.2.1 (ln e)) (oN (inb a.2.1 (ln c)) (oN (inb a.2.2.1 (ln e)) (cond (ieq (ix e a.2.2.1 zZ).Page a.1) (some [(aI a.2.1),(aI a.2.2.1)]) (h (a.1,(a.2.1,((zM .i64 a.2.2.1 1),(a.2.2.2.1,(c,(a.2.2.2.2.2.1,(a.2.2.2.2.2.2.1,()))))))))))) (g (a.1,((zM .i64 a.2.1 1),(a.2.2.2.1,(c,(a.2.2.2.2.2.1,(a.2.2.2.2.2.2.1,())))))))))) (b.1,(b.2.1,(0,(b.2.2.1,(b.2.2.2.1,(b.2.2.2.2.1,(b.2.2.2.2.2.1,())))))))) (some [(aI (-1)),(aI (-1))])) (some [(aI (-1)),(aI (-1))]))) (f,(0,(d.Memory,(d.Mons,(d.Buffer,(d.IoBuffer,())))))))
def zIN:FuncId->Nat->Option Tmpl:=zq [(280,0,{n:=44,tm:=[(1,ti),(2,.lp 0 0),(6,ti)],lo:=[(0,[.sl 0 [],.sl 1 [],.sl 2 [],.sl 3 []])],ro:=[(0,(.sl .int),false),(1,.mon,false),(2,.entry,false),(3,.entry,false)]}),(280,2,{n:=44,tm:=[(1,ti),(2,.lp 0 0),(6,ti),(7,ti)],lo:=[(0,[.sl 0 [],.sl 1 [],.sl 2 [],.sl 3 []])],ro:=[(0,(.sl .int),false),(1,.mon,false),(2,.entry,false),(3,.entry,false)]})]
theorem zIB (a:Host)(b:Int)(p:zci big [aH a,aI b])(r:zlw a b=true):∃N,zwZ N a b=some [aI (zgL a b),aI (ziG a b)]:=by
 have m:CVB big (.s .mon a.Mons):=(zc8 p).1 _ (by simp[AV.cvs,zbf]);have l:=m.len;refine zcp fun N e=>?_;unfold zwZ zgL ziG zbH oN;conv=>zeta
 refine(zbo a.Mons (fun i (t:Unit)=>(b,(i:Int),a.Memory,a.Mons,a.Buffer,a.IoBuffer,())) _ (fun i (x:Mon) (_:Unit) q=>bif ige b 0 then goL (fun j (y:Slot) (_:Unit) c=>bif ieq y.Page b then some [AV.one (.i .i64 (i:Int)),AV.one (.i .i64 (j:Int))] else c ()) (fun _=>q ()) x.Outer 0 () else some [AV.one (.i .i64 (-1)),AV.one (.i .i64 (-1))]) (fun (t:Unit)=>(some [(.one (.i .i64 (-1))),(.one (.i .i64 (-1)))])) (fun i d t rec=>?_) (fun t rec=>?_) _ () (e l)).trans ?_;{simp only [zbG d,zbi d,zbp d,zbj d l,cT];cases h:ige b 0;{rfl};have n:a.Mons[i].Outer.length<=big:=(m.inv.2 _ (jL d) (.s .slot _) (by simp[Ty.cells])).len;simp only[cT];refine(zbo a.Mons[i].Outer (fun j (_:Unit)=>(b,((i:Int),((j:Int),(a.Memory,(a.Mons,(a.Buffer,(a.IoBuffer,())))))))) _ (fun j (y:Slot) (_:Unit) c=>bif ieq y.Page b then some [AV.one (.i .i64 (i:Int)),AV.one (.i .i64 (j:Int))] else c ()) (fun _=>rec (b,(((i+1:Nat):Int),(a.Memory,(a.Mons,(a.Buffer,(a.IoBuffer,()))))))) (fun j g u f=>?_) (fun u f=>?_) _ () (e n)).trans ?_;{simp only [zbG g,zbi g,zbp g,zbj g n,cT,zbi d,zbp d]};{simp only [zbw,cF,cT,zbi d,zbp d,zbj d l]};rfl};{simp only [zbw,cF]};cases h:ige b 0;{have k:ilt b 0=true:=(by have:=jV h;exact qJ (by omega));rw[k];exact z6F _ _ _ _};{have k:ilt b 0=false:=(by have:=qE h;exact qM (by omega));rw[k];exact zQy b (fun i j=>some [AV.one (.i .i64 i),AV.one (.i .i64 j)]) a.Mons 0}
theorem zEl:vM 280 zuE:=hF2 zBC zx zy zeB zIN zIB
def zbbq:zW:=[(224,zrt),(280,zuE),(313,zuz)]++zbbp
theorem zvG:zL zbbq:=zh zvQ (zh zEl (zh zD9 zBC))
def zch (h:Host):List Int:=zy5 (fun i=>ilt (zbH h (i:Int)).1 0) h.Memory.length 0
@[simp] abbrev zmZ (h:Host):Bool:=pc (h.Memory.length<=1048576)
@[simp] abbrev zfB (h:Host):List Int:=zch h
def zGn:Run:=rF1 dH fun b=>(zmZ b,[aS .int (zfB b)])
def zM3 (N:Nat)(b:Host):OA:=
 (iter (σ:=(Int×((List Int)×(lM×(lN×(lE×(lE×Unit))))))) N (fun c a=>let d:=(⟨a.2.2.1,a.2.2.2.1,a.2.2.2.2.1,a.2.2.2.2.2.1⟩:Host); (cond (ilt a.1 (ln a.2.2.1)) (oN (zlw d a.1) (cond (ilt (zgL d a.1) 0) (oN (few (ln (ap a.2.1 [a.1]))) (c ((zM .i64 a.1 1),((ap a.2.1 [a.1]),(a.2.2.1,(a.2.2.2.1,(a.2.2.2.2.1,(a.2.2.2.2.2.1,())))))))) (c ((zM .i64 a.1 1),(a.2.1,(a.2.2.1,(a.2.2.2.1,(a.2.2.2.2.1,(a.2.2.2.2.2.1,()))))))))) (some [(aS .int a.2.1)]))) (0,([],(b.Memory,(b.Mons,(b.Buffer,(b.IoBuffer,())))))))
def zZJ:FuncId->Nat->Option Tmpl:=zq [(279,0,{n:=28,tm:=[(1,.lp 0 0),(3,.sl 0 []),(4,ti)],lo:=[(0,[.sl 1 [],.sl 2 [],.sl 3 [],.sl 4 []])],ro:=[(0,.int,true),(1,(.sl .int),false),(2,.mon,false),(3,.entry,false),(4,.entry,false)]})]
theorem zXW (a:Host)(f:zmZ a=true):∃N,zM3 N a=some [aS .int (zfB a)]:=by
 have g:=zK.1 f;have e:=zc2 g;refine zcp fun N d=>?_;unfold zM3 oN;conv=>zeta
 refine(zbo a.Memory (fun i (t:(List Int))=>((i:Int),t,a.Memory,a.Mons,a.Buffer,a.IoBuffer,())) _ (fun i (_:List Int) (t:List Int) b=>bif ilt (zbH a (i:Int)).1 0 then (cond (few (ln (ap t [(i:Int)]))) (b (ap t [(i:Int)])) none) else b t) (fun (t:(List Int))=>(some [(.one (.s .int t))])) (fun i c t rec=>?_) (fun t rec=>?_) _ ([]) (d e.1)).trans ?_;{simp only [zbG c,zbi c,zbp c,zbj c e.1,cT]};{simp only [zbw,cF]};rw[zz0 (fun i (t:List Int) b=>bif ilt (zbH a (i:Int)).1 0 then (cond (few (ln (ap t [(i:Int)]))) (b (ap t [(i:Int)])) none) else b t)];exact zBN (fun i=>ilt (zbH a (i:Int)).1 0) _ _ 0 [] (by simpa using e.2)
theorem zQZ:vM 279 zGn:=kF1 zvG zx zy zeB zZJ zXW
@[simp] abbrev zmF (h:Host):Bool:=pc (h.Memory.length<=1048576)
@[simp] abbrev zf2 (h:Host):List Int:=zch h
def zF4:Run:=rF1 dH fun b=>(zmF b,[aS .int (zf2 b)])
def zML (N:Nat)(b:Host):OA:=
 (iter (σ:=(Int×(Int×((List Int)×(lM×(lN×(lE×(lE×Unit)))))))) N (fun d a=>let c:=a.2.2.2.2.2.2.1;let e:=(⟨a.2.2.2.1,a.2.2.2.2.1,a.2.2.2.2.2.1,c⟩:Host); (cond (ilt a.2.1 a.1) (oN (zli e a.2.1) (cond (ilt (zgH e a.2.1) 0) (oN (few (ln (ap a.2.2.1 [a.2.1]))) (d (a.1,((zM .i64 a.2.1 1),((ap a.2.2.1 [a.2.1]),(a.2.2.2.1,(a.2.2.2.2.1,(a.2.2.2.2.2.1,(c,()))))))))) (d (a.1,((zM .i64 a.2.1 1),(a.2.2.1,(a.2.2.2.1,(a.2.2.2.2.1,(a.2.2.2.2.2.1,(c,())))))))))) (some [(aS .int a.2.2.1)]))) ((ln b.Memory),(0,([],(b.Memory,(b.Mons,(b.Buffer,(b.IoBuffer,()))))))))
def zZC:FuncId->Nat->Option Tmpl:=zq [(273,0,{n:=28,tm:=[(1,.lp 0 0),(3,.sl 0 []),(10,ti),(11,ti)],lo:=[(0,[.sl 1 [],.sl 2 [],.sl 3 [],.sl 4 []])],ro:=[(0,.int,true),(1,(.sl .int),false),(2,.mon,false),(3,.entry,false),(4,.entry,false)]})]
theorem zXD (a:Host)(f:zmF a=true):∃N,zML N a=some [aS .int (zf2 a)]:=by
 have g:=zK.1 f;have e:=zc2 g;refine zcp fun N d=>?_;unfold zML oN;conv=>zeta
 refine(zbo a.Memory (fun i (t:(List Int))=>((ln a.Memory),(i:Int),t,a.Memory,a.Mons,a.Buffer,a.IoBuffer,())) _ (fun i (_:List Int) (t:List Int) b=>bif ilt (zbH a (i:Int)).1 0 then (cond (few (ln (ap t [(i:Int)]))) (b (ap t [(i:Int)])) none) else b t) (fun (t:(List Int))=>(some [(.one (.s .int t))])) (fun i c t rec=>?_) (fun t rec=>?_) _ ([]) (d e.1)).trans ?_;{simp only [zbG c,zbi c,zbp c,zbj c e.1,cT]};{simp only [zbw,cF]};rw[zz0 (fun i (t:List Int) b=>bif ilt (zbH a (i:Int)).1 0 then (cond (few (ln (ap t [(i:Int)]))) (b (ap t [(i:Int)])) none) else b t)];exact zBN (fun i=>ilt (zbH a (i:Int)).1 0) _ _ 0 [] (by simpa using e.2)
theorem zQG:vM 273 zF4:=kF1 zvG zx zy zeB zZC zXD
def zhM (m:List (List Int))(p:Int)(c:List Int):List (List Int):=bif hasB p (ln m) then (cond (zcn c) (up m p c) m) else m
@[simp] abbrev zme (m:List (List Int))(p:Int)(c:List Int):Bool:=pc (SmM m/\c.length<=1048576)
@[simp] abbrev zkd (m:List (List Int))(p:Int)(c:List Int):List (List Int):=zhM m p c
def zAV:Run:=rF3 (dS (.sl .int)) dI (dS .int) fun b c d=>(zme b c d,[aS (.sl .int) (zkd b c d)])
def zER (N:Nat)(a:lM)(b:Int)(c:List Int):OA:=
 (oN (zgk a) (oN (zN b 0 (wsub .i64 (ln a) 1)) (cond (zQ b 0 (wsub .i64 (ln a) 1)) (oN (zgi c) (cond (zfF c) (oN (few (ln (ap [] c))) (oN (inb b (ln (zew a))) (share (up (zew a) b (ap [] c)) (fun d=>(some [(aS (.sl .int) d)]))))) (some [(aS (.sl .int) (zew a))]))) (some [(aS (.sl .int) (zew a))]))))
theorem zR4 (b:List (List Int))(a:Int)(c:List Int)(g:zme b a c=true):∃N,zER N b a c=some [aS (.sl .int) (zkd b a c)]:=by obtain⟨e,d⟩:=zK.1 g;refine⟨0,?_⟩;unfold zER zkd zhM oN;refine must (zbJ ((zqZ _).2 e)) (must rfl ?_);rw[show zQ a 0 (wsub .i64 (ln b) 1)=hasB a (ln b) from zrL e.1 a];cases f:hasB a (ln b);{rfl};{simp only [cT,zgi,zfF];cases h:zcn c;{rfl};{refine must rfl (must (zo0 d) (must (zI f) ?_));rw[znq];rfl}}
theorem zLw:vM 282 zAV:=kF3 zvG zx zy zeB (zq []) zR4
@[simp] abbrev zlV (m:List (List Int))(p:Int)(c:List Int):Bool:=pc (SmM m/\c.length<=1048576)
@[simp] abbrev zj2 (m:List (List Int))(p:Int)(c:List Int):List (List Int):=zhM m p c
def zAx:Run:=rF3 (dS (.sl .int)) dI (dS .int) fun b c d=>(zlV b c d,[aS (.sl .int) (zj2 b c d)])
def zEp (N:Nat)(a:lM)(b:Int)(c:List Int):OA:=
 (oN (zg9 a) (oN (zdB b (ln a)) (cond (zd1 b (ln a)) (oN (zih c) (cond (zgR c) (oN (zdA c) (oN (inb b (ln (zeY a))) (share (up (zeY a) b (zdu c)) (fun d=>(some [(aS (.sl .int) d)]))))) (some [(aS (.sl .int) (zeY a))]))) (some [(aS (.sl .int) (zeY a))]))))
theorem zRB (a:List (List Int))(b:Int)(c:List Int)(f:zlV a b c=true):∃N,zEp N a b c=some [aS (.sl .int) (zj2 a b c)]:=by obtain⟨g,d⟩:=zK.1 f;refine⟨0,?_⟩;unfold zEp zj2 zhM oN;refine must (zbJ g) (must rfl ?_);rw[show zd1 b (ln a)=hasB b (ln a) from rfl];cases e:hasB b (ln a);{rfl};{simp only [cT,zih,zgR];cases h:zcn c;{rfl};{refine must rfl (must (zbJ (qU d (by decide))) (must (zI e) rfl))}}
theorem zK7:vM 275 zAx:=kF3 zvG zx zy zeB (zq []) zRB
def zrT:zW:=[(279,zGn),(273,zF4),(282,zAV),(275,zAx)]++zbbq
theorem zhx:zL zrT:=zh zQZ (zh zQG (zh zLw (zh zK7 zvG)))
end
end Go.Proofs.YthhbajmehldikaaGreat.E
