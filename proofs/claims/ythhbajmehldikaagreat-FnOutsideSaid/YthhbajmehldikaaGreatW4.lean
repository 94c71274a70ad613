/- What is proved here: a part of the proof that the statement of this claim holds (several texts of wip/, laid together). -/
import Derived.Test.YthhbajmehldikaaGreatW3
namespace Go.Proofs.YthhbajmehldikaaGreat.E
open Go
set_option linter.constructorNameAsVariable false
set_option linter.unusedVariables false
set_option maxRecDepth 100000
set_option linter.unusedSimpArgs false
set_option linter.unusedSectionVars false
noncomputable section
theorem hE (h:Host):(⟨h.Memory,h.Mons,h.Buffer,h.IoBuffer⟩:Host)=h:=rfl
def idxs {a:Type}(p:a->Bool):List a->Nat->List Int
 |[],_=>[]
 |x::l,i=>bif p x then (i:Int)::idxs p l (i+1) else idxs p l (i+1)
theorem zvX {a:Type}(p:a->Bool):∀(l:List a) (i:Nat),(idxs p l i).length<=l.length
 |[],_=>qW _
 |x::l,i=>by have:=zvX p l (i+1);simp only[idxs];cases p x<;>simp<;>omega
theorem zqY {b c:Type}(p:b->Bool)(K:List Int->Option c):∀(l:List b) (i:Nat) (a:List Int),a.length+l.length<=2147483648->
 goL (fun i x a k=>bif p x then (cond (few (ln (ap a [(i:Int)]))) (k (ap a [(i:Int)])) none) else k a) K l i a=K (a++idxs p l i)
 |[],i,a,_=>by simp[goL,idxs]
 |x::l,i,a,h=>by simp only[q0]at h;simp only[goL,idxs];cases p x;{simp only [cF];exact zqY p K l (i+1) a (by omega)};{simp only [cT];rw[zgE (by simp[ap];omega),cT,zqY p K l (i+1) _ (by simp[ap];omega)];simp[ap]}
def zy8 (p:Nat->Bool):Nat->Nat->List Int
 | 0,_=>[]
 |n+1,i=>bif p i then (i:Int)::zy8 p n (i+1) else zy8 p n (i+1)
theorem zBP {b:Type}(p:Nat->Bool)(K:List Int->Option b):∀(n i:Nat) (a:List Int),a.length+n<=2147483648->
 goN (fun i a k=>bif p i then (cond (few (ln (ap a [(i:Int)]))) (k (ap a [(i:Int)])) none) else k a) K n i a=K (a++zy8 p n i)
 | 0,i,a,_=>by simp[goN,zy8]
 |n+1,i,a,h=>by simp only[goN,zy8];cases p i;{simp only [cF];exact zBP p K n (i+1) a (by omega)};{simp only [cT];rw[zgE (by simp[ap];omega),cT,zBP p K n (i+1) _ (by simp[ap];omega)];simp[ap]}
abbrev zCB (l:List Slot)(_:Int):Bool:=pc (l.length<=2147483648)
abbrev zrz (l:List Slot)(p:Int):List Int:=idxs (fun (s:Slot)=>ieq s.Page p) l 0
def zGW:Run:=rF2 (dS .slot) dI fun b c=>(zCB b c,[aS .int (zrz b c)])
def zNK (N:Nat)(c:lS)(d:Int):OA:=
 (iter (σ:=(Int×(Int×(lS×((List Int)×Unit))))) N (fun b a=>(cond (ilt a.2.1 (ln a.2.2.1)) (oN (inb a.2.1 (ln a.2.2.1)) (cond (ieq (ix a.2.2.1 a.2.1 zV).Page a.1) (oN (few (ln (ap a.2.2.2.1 [a.2.1]))) (b (a.1,((zK .i64 a.2.1 1),(a.2.2.1,((ap a.2.2.2.1 [a.2.1]),())))))) (b (a.1,((zK .i64 a.2.1 1),(a.2.2.1,(a.2.2.2.1,()))))))) (some [(aS .int a.2.2.2.1)]))) (d,(0,(c,([],())))))
def z0E:FuncId->Nat->Option Tmpl:=zo [(317,0,{n:=26,tm:=[(0,.sl 0 []),(1,ti),(5,.sl 1 []),(6,ti)],lo:=[],ro:=[(0,.slot,false),(1,.int,true)]})]
theorem zY2 (b:List Slot)(a:Int)(g:zce big [aS .slot b,aI a])(h:zCB b a=true):∃N,zNK N b a=some [aS .int (zrz b a)]:=by have e:=(len0 g);have j:=zM.1 h;refine zcd fun N d=>?_;unfold zNK oN;refine(zbl b (fun i (t:(List Int))=>(a,(i:Int),b,t,())) _ (fun i (x:Slot) (t:List Int) f=>bif ieq x.Page a then (cond (few (ln (ap t [(i:Int)]))) (f (ap t [(i:Int)])) none) else f t) (fun (t:(List Int))=>(some [(.one (.s .int t))])) (fun i c t rec=>?_) (fun t rec=>?_) _ ([]) (d e)).trans ?_;{simp only [zbA c,zbh c,zbo c,zbg c e,cT]};{simp only [zbq,cF]};exact zqY (fun (s:Slot)=>ieq s.Page a) _ _ 0 [] (by simpa using j)
theorem zRQ:vN 317 zGW:=hF2 zQ1 zU zy zn z0E zY2
abbrev zB5 (l:List Slot)(_:Int):Bool:=pc (l.length<=2147483648)
abbrev zlx (l:List Slot)(p:Int):List Int:=idxs (fun (s:Slot)=>ieq s.Page p) l 0
def zGy:Run:=rF2 (dS .slot) dI fun b c=>(zB5 b c,[aS .int (zlx b c)])
def zNl (N:Nat)(d:lS)(f:Int):OA:=
 (iter (σ:=(Int×(Int×(Int×((List Int)×(lS×Unit)))))) N (fun e a=>let c:=a.2.2.2.2.1;let b:=a.2.2.1; (cond (ilt b a.2.1) (oN (inb b (ln c)) (cond (ieq (ix c b zV).Page a.1) (oN (few (ln (ap a.2.2.2.1 [b]))) (e (a.1,(a.2.1,((zK .i64 b 1),((ap a.2.2.2.1 [b]),(c,()))))))) (e (a.1,(a.2.1,((zK .i64 b 1),(a.2.2.2.1,(c,())))))))) (some [(aS .int a.2.2.2.1)]))) (f,((ln d),(0,([],(d,()))))))
def z0t:FuncId->Nat->Option Tmpl:=zo [(315,0,{n:=26,tm:=[(1,ti),(5,.sl 0 []),(9,.sl 1 []),(10,ti),(11,ti)],lo:=[],ro:=[(0,.int,true),(1,.slot,false)]})]
theorem zYB (a:List Slot)(b:Int)(g:zce big [aS .slot a,aI b])(h:zB5 a b=true):∃N,zNl N a b=some [aS .int (zlx a b)]:=by
 have e:=(len0 g);have j:=zM.1 h;refine zcd fun N d=>?_;unfold zNl oN;conv=>zeta
 refine(zbl a (fun i (t:(List Int))=>(b,(ln a),(i:Int),t,a,())) _ (fun i (x:Slot) (t:List Int) f=>bif ieq x.Page b then (cond (few (ln (ap t [(i:Int)]))) (f (ap t [(i:Int)])) none) else f t) (fun (t:(List Int))=>(some [(.one (.s .int t))])) (fun i c t rec=>?_) (fun t rec=>?_) _ ([]) (d e)).trans ?_;{simp only [zbA c,zbh c,zbo c,zbg c e,cT]};{simp only [zbq,cF]};exact zqY (fun (s:Slot)=>ieq s.Page b) _ _ 0 [] (by simpa using j)
theorem zRs:vN 315 zGy:=hF2 zQ1 zU zy zn z0t zYB
def zbbU:zX:=[(317,zGW),(315,zGy)]++ctrW
theorem z9Z:zL zbbU:=zh zRQ (zh zRs zQ1)
def zbbV:zX:=zbbU
theorem z90:zL zbbV:=z9Z
def zbbW:zX:=zbbV
theorem zXE:zL zbbW:=z90
theorem zq2 (x y:Int):ine x y = !ieq x y:=rfl
def zdJ (l:List Int):Bool:=pc (l.length<=2147483648)
abbrev zdG (l:List Int):List Int:=l
def zAH:Run:=rF1 (dS .int) fun b=>(zdJ b,[aS .int (zdG b)])
def zEH (N:Nat)(a:List Int):OA:=
 (oN (few (ln (ap [] a))) (some [(aS .int (ap [] a))]))
theorem zSq (a:List Int)(b:zdJ a=true):∃N,zEH N a=some [aS .int (zdG a)]:=by refine⟨0,?_⟩;unfold zEH oN;rw[zm5,zgE (zM.1 b),cT]
theorem zLB:vN 271 zAH:=kF1 zXE zU zy zn (zo []) zSq
def zbbX:zX:=[(271,zAH)]++zbbW
theorem zK3:zL zbbX:=zh zLB zXE
def zCU:List Int:=rp 4 0
def zcx (m:List (List Int))(p:Int):List Int:=bif hasB p (ln m) then ix m p [] else zCU
def zjV (m:List (List Int))(_:Int):Bool:=pc (CVB sm (.s (.sl .int) m))
def zoB (m:List (List Int))(p:Int):List Int:=zcx m p
theorem z8H {m:List (List Int)}{p:Int}(b:CVB sm (.s (.sl .int) m))(a:hasB p (ln m)=true):(ix m p []).length<=2147483648 :=
 (zcQ (b.inv.2 _ (zbD a ([]:List Int)) (.s .int _) (qF.2 rfl)).len).2
def zGM:Run:=rF2 (dS (.sl .int)) dI fun b c=>(zjV b c,[aS .int (zoB b c)])
def zNz (N:Nat)(a:lM)(b:Int):OA:=
 (oN (zN b 0 (wsub .i64 (ln a) 1)) (cond (nB (zT b 0 (wsub .i64 (ln a) 1))) (oN (cond (few 4) (ieq 4 4) false) (some [(aS .int (rp 4 0))])) (oN (inb b (ln a)) (oN (few (ln (ap [] (ix a b [])))) (some [(aS .int (ap [] (ix a b [])))])))))
theorem zYR (b:List (List Int))(a:Int)(f:zjV b a=true):∃N,zNz N b a=some [aS .int (zoB b a)]:=by have d:=zM.1 f;refine⟨0,?_⟩;unfold zNz zoB zcx oN nB;have e:zT a 0 (wsub .i64 (ln b) 1)=hasB a (ln b):=zCc (zcQ d.len).1 a;rw[e];cases c:hasB a (ln b);{rfl};{simp only [zN,cT,cF,zC c,zm5,zgE (z8H d c)]}
theorem zRG:vN 117 zGM:=kF2 zK3 zU zy zn (zo []) zYR
def zjC (m:List (List Int))(_:Int):Bool:=pc (CVB sm (.s (.sl .int) m))
def zom (m:List (List Int))(p:Int):List Int:=zcx m p
def zGp:Run:=rF2 (dS (.sl .int)) dI fun b c=>(zjC b c,[aS .int (zom b c)])
def zNc (N:Nat)(a:lM)(b:Int):OA:=
 (oN (zcM b (ln a)) (cond (nB (zdc b (ln a))) (oN (cond (few 4) (ieq 4 4) false) (some [(aS .int (rp 4 0))])) (oN (inb b (ln a)) (oN (zdJ (ix a b [])) (some [(aS .int (zdG (ix a b [])))])))))
theorem zYs (a:List (List Int))(b:Int)(d:zjC a b=true):∃N,zNc N a b=some [aS .int (zom a b)]:=by have e:=zM.1 d;refine⟨0,?_⟩;unfold zNc zom zcx zdc oN nB;cases c:hasB b (ln a);{rfl};{simp only [zcM,cT,cF,zC c,show zdJ (ix a b [])=true from zbd (z8H e c),zdG]}
theorem zRj:vN 307 zGp:=kF2 zK3 zU zy zn (zo []) zYs
def zbbY:zX:=[(117,zGM),(307,zGp)]++zbbX
theorem zK4:zL zbbY:=zh zRG (zh zRj zK3)
def zcq (h:Host)(m p:Int):List Int :=
 bif hasB m (ln h.Mons) then (cond (hasB p 8) (cond (ine (zbs (ix h.Mons m zi).Outer p).Page (-1)) (zcx h.Memory (zbs (ix h.Mons m zi).Outer p).Page) (zcx (ix h.Mons m zi).Out p)) zCU) else zCU
theorem has8 (p:Int):zT p 0 7=hasB p 8:=by unfold zT ige ile hasB;by_cases a:0<=p<;>by_cases b:p<8;{rw [qJ (p:=p≥0) (by omega),qJ (p:=p<=7) (by omega),qJ (p:=0<=p/\p<8) ⟨a,b⟩];rfl};{rw [qH (p:=p<=7) (by omega),qH (p:=0<=p/\p<8) (by omega)];simp};{rw [qH (p:=p≥0) (by omega),qH (p:=0<=p/\p<8) (by omega)];simp};{rw [qH (p:=p≥0) (by omega),qH (p:=0<=p/\p<8) (by omega)];simp}
def zCw (h:Host)(_ _:Int):Bool:=pc (zcc h)
def zCv (h:Host)(m p:Int):List Int:=zcq h m p
def zwn:Run:=rF3 dH dI dI fun b c d=>(zCw b c d,[aS .int (zCv b c d)])
def zNB (N:Nat)(a:Host)(c b:Int):OA:=
 let d:=(ix a.Mons c zi);let e:=(zhs d.Outer b).Page; (oN (zN c 0 (wsub .i64 (ln a.Mons) 1)) (cond (nB (zT c 0 (wsub .i64 (ln a.Mons) 1))) (oN (cond (few 4) (ieq 4 4) false) (some [(aS .int (rp 4 0))])) (oN (zN b 0 7) (cond (nB (zT b 0 7)) (oN (cond (few 4) (ieq 4 4) false) (some [(aS .int (rp 4 0))])) (oN (inb c (ln a.Mons)) (oN (zjW d.Outer b) (cond (ine e (-1)) (oN (zjV a.Memory e) (some [(aS .int (zoB a.Memory e))])) (oN (zjV d.Out b) (some [(aS .int (zoB d.Out b))])))))))))
theorem zYT (a:Host)(b c:Int)(g:zCw a b c=true):∃N,zNB N a b c=some [aS .int (zCv a b c)]:=by
 have d:=zM.1 g;refine⟨0,?_⟩;unfold zNB zCv zcq oN nB;conv=>zeta
 have e:zT b 0 (wsub .i64 (ln a.Mons) 1)=hasB b (ln a.Mons):=zCc (zcQ d.mons.len).1 b;rw[e,has8];cases f:hasB b (ln a.Mons);{rfl};{cases i:hasB c 8;{rfl};{have h:CVB sm (.s (.sl .int) (ix a.Mons b zi).Out):=d.mons.inv.2 _ (zbD f zi) (.s (.sl .int) _) (by simp[Ty.cells]);simp only[zN,cT,cF,zC f,zjW,zhs,show ∀p,zjV a.Memory p=true from fun p=>zbd d.mem,show ∀p,zjV (ix a.Mons b zi).Out p=true from fun p=>zbd h,zoB];cases ine (zbs (ix a.Mons b zi).Outer c).Page (-1)<;>rfl}}
theorem zz4:vN 34 zwn:=kF3 zK4 zU zy zn (zo []) zYT
def zB1 (h:Host)(_ _:Int):Bool:=pc (zcc h)
def zB0 (h:Host)(m p:Int):List Int:=zcq h m p
def zGq:Run:=rF3 dH dI dI fun b c d=>(zB1 b c d,[aS .int (zB0 b c d)])
def zNd (N:Nat)(a:Host)(c b:Int):OA:=
 let d:=(ix a.Mons c zi);let e:=(zjD d.Outer b).Page; (oN (zcM c (ln a.Mons)) (cond (nB (zdc c (ln a.Mons))) (oN (cond (few 4) (ieq 4 4) false) (some [(aS .int (rp 4 0))])) (oN (zcM b 8) (cond (nB (zdc b 8)) (oN (cond (few 4) (ieq 4 4) false) (some [(aS .int (rp 4 0))])) (oN (inb c (ln a.Mons)) (oN (zml d.Outer b) (cond (ine e (-1)) (oN (zjC a.Memory e) (some [(aS .int (zom a.Memory e))])) (oN (zjC d.Out b) (some [(aS .int (zom d.Out b))])))))))))
theorem zYt (a:Host)(b c:Int)(f:zB1 a b c=true):∃N,zNd N a b c=some [aS .int (zB0 a b c)]:=by
 have e:=zM.1 f;refine⟨0,?_⟩;unfold zNd zB0 zcq zdc oN nB;conv=>zeta
 cases d:hasB b (ln a.Mons);{rfl};{cases h:hasB c 8;{rfl};{have g:CVB sm (.s (.sl .int) (ix a.Mons b zi).Out):=e.mons.inv.2 _ (zbD d zi) (.s (.sl .int) _) (by simp[Ty.cells]);simp only[zcM,cT,cF,zC d,zml,zjD,show ∀p,zjC a.Memory p=true from fun p=>zbd e.mem,show ∀p,zjC (ix a.Mons b zi).Out p=true from fun p=>zbd g,zom];cases ine (zbs (ix a.Mons b zi).Outer c).Page (-1)<;>rfl}}
theorem zRk:vN 255 zGq:=kF3 zK4 zU zy zn (zo []) zYt
def zbbZ:zX:=[(34,zwn),(255,zGq)]++zbbY
theorem z92:zL zbbZ:=zh zz4 (zh zRk zK4)
def zbb0:zX:=zbbZ
theorem z94:zL zbb0:=z92
def ctrV:zX:=zbb0
theorem zbdO:∀f a,zl ctrV f=some a->Holds Tryz.prog f a:=z94
def ctrU:zX:=ctrV
theorem zeo:zL ctrU:=zbdO
def zpF:zgI:=mct0
theorem zx:zfc zpF:=zU
def canRun (g:Guest):Bool:=bif (ieq g.Exit.Kind 0&&(ieq g.Exit.Page 0&&(ziI g.Exit.Write false&&ieq g.Exit.N 0))) then !g.Halted else false
def zuI (_:Guest):Bool:=true
abbrev zrp (g:Guest):Bool:=canRun g
def zGC:Run:=rF1 (dT .guest) fun b=>(zuI b,[aB (zrp b)])
def zNp (N:Nat)(a:Guest):OA:=
 (cond (cond (ieq a.Exit.Kind 0) (cond (ieq a.Exit.Page 0) (cond (ziI a.Exit.Write false) (ieq a.Exit.N 0) false) false) false) (some [(aB (nB a.Halted))]) oF)
theorem zYF (a:Guest)(b:zuI a=true):∃N,zNp N a=some [aB (zrp a)]:=by refine⟨0,?_⟩;unfold zNp zrp canRun nB;cases ieq a.Exit.Kind 0<;>cases ieq a.Exit.Page 0<;>cases ziI a.Exit.Write false<;>cases ieq a.Exit.N 0<;>simp
theorem zRw:vN 345 zGC:=kF1 zzT zU zy zn (zo []) zYF
theorem must {d:Type}{c:Bool}{a b r:Option d}(h:c=true)(k:a=r):(cond c a b)=r:=by rw[h];exact k
theorem mu {d:Type}{c:Bool}{a b r:Option d}(k:a=r)(h:c=true:=by first|assumption|(simp_all<;>omega)):(cond c a b)=r:=must h k
theorem zcS {d:Type}{c:Bool}{a b r:Option d}(h:c=false)(k:b=r):(cond c a b)=r:=by rw[h];exact k
theorem br {f:Type}{c:Bool}{a b r:Option f}(d:c=true->a=r)(e:c=false->b=r):(cond c a b)=r:=by cases c;{exact e rfl};{exact d rfl}
theorem brN {f:Type}{c:Bool}{a b r:Option f}(d:c=false->a=r)(e:c=true->b=r):(cond (cond c false true) a b)=r:=by cases c;{exact d rfl};{exact e rfl}
theorem shr {a b:Type}{x:a}{f:a->Option b}{r:Option b}(h:f x=r):share x f=r:=h
theorem zii {e:Type}{c p:Bool}{a b:Option e}(d:c=true):(cond c (cond (cond p false true) a b) none)=bif p then b else a:=by rw[d];cases p<;>rfl
attribute [simp] zM
@[simp] theorem zbdZ {a:Type}(l:List a):(few (ln l)=true)↔l.length<=2147483648:=by unfold few ln;rw[decide_eq_true_iff];omega
@[simp] theorem zbgx {a:Type}(l m:List a):(ap l m).length=l.length+m.length:=by simp[ap]
attribute [simp] zm5 zgG
@[simp] theorem zbcz (n:Nat)(k:IntKind)(x:Int):CVB n (.i k x)↔True:=⟨fun _=>trivial,fun _=>.i k x⟩
@[simp] theorem zbgB (n:Nat)(x:Bool):CVB n (.b x)↔True:=⟨fun _=>trivial,fun _=>.b x⟩
theorem zmb {n:Nat}{t:Ty}(l:List t.den):CVB n (.s t l)↔l.length<=n/\∀x∈l,∀c∈t.cells x,CVB n c:=⟨fun h=>h.inv,fun h=>.s t l h.1 h.2⟩
@[simp] theorem z2O (n:Nat)(l:List Int):CVB n (.s .int l)↔l.length<=n:=by rw[zmb];simp[Ty.cells]
@[simp] theorem zbe9 (n:Nat)(l:List Int):CVB n (.s .u8 l)↔l.length<=n:=by rw[zmb];simp[Ty.cells]
@[simp] theorem zbag (n:Nat)(l:List Bool):CVB n (.s .bool l)↔l.length<=n:=by rw[zmb];simp[Ty.cells]
@[simp] theorem zbai (n:Nat)(l:List Slot):CVB n (.s .slot l)↔l.length<=n:=by rw[zmb];simp[Ty.cells]
@[simp] theorem zbdQ (n:Nat)(l:List Ins):CVB n (.s .ins l)↔l.length<=n:=by rw[zmb];simp[Ty.cells]
@[simp] theorem z7s (n:Nat)(l:List Entry):CVB n (.s .entry l)↔l.length<=n:=by rw[zmb];simp[Ty.cells]
@[simp] theorem zbdP (n:Nat)(l:List GAct):CVB n (.s .act l)↔l.length<=n:=by rw[zmb];simp[Ty.cells]
@[simp] theorem zbaj (n:Nat)(l:List Told):CVB n (.s .told l)↔l.length<=n:=by rw[zmb];simp[Ty.cells]
def SmM (m:List (List Int)):Prop:=m.length<=1048576/\∀x∈m,x.length<=1048576
def SmG (g:Guest):Prop:=g.Prog.length<=1048576/\g.Written.length<=1048576/\g.Live.length<=1048576/\g.Seen.length<=1048576
def zlg (l:List Guest):Prop:=l.length<=1048576/\∀x∈l,SmG x
def SmB (b:Bare):Prop:=SmM b.Memory/\zlg b.Guests/\b.Outs.length<=1048576
def z3W (l:List Bare):Prop:=l.length<=1048576/\∀x∈l,SmB x
theorem sm_v:sm=1048576:=rfl
@[simp] theorem z4y (l:List Int):CVB sm (.s .int l)↔l.length<=1048576:=z2O sm l
@[simp] theorem zbge (l:List Int):CVB sm (.s .u8 l)↔l.length<=1048576:=zbe9 sm l
@[simp] theorem z03 (l:List Bool):CVB sm (.s .bool l)↔l.length<=1048576:=zbag sm l
@[simp] theorem z04 (l:List Slot):CVB sm (.s .slot l)↔l.length<=1048576:=zbai sm l
@[simp] theorem zbfO (l:List Ins):CVB sm (.s .ins l)↔l.length<=1048576:=zbdQ sm l
@[simp] theorem zXO (l:List Entry):CVB sm (.s .entry l)↔l.length<=1048576:=z7s sm l
@[simp] theorem zbfN (l:List GAct):CVB sm (.s .act l)↔l.length<=1048576:=zbdP sm l
@[simp] theorem zbfF (l:List Told):CVB sm (.s .told l)↔l.length<=1048576:=zbaj sm l
@[simp] theorem zqU (l:List (List Int)):CVB sm (.s (.sl .int) l)↔SmM l:=by rw[zmb];simp[Ty.cells,SmM,sm_v]
@[simp] theorem zbdu (g:Guest):(∀c∈Ty.cells .guest g,CVB sm c)↔SmG g:=by simp[Ty.cells,SmG,sm_v]
@[simp] theorem zw8 (l:List Guest):CVB sm (.s .guest l)↔zlg l:=by rw[zmb];simp only[zbdu];rfl
@[simp] theorem zbdt (b:Bare):(∀c∈Ty.cells .bare b,CVB sm c)↔SmB b:=by simp only[Ty.cells,qG,qN,or_false,vJ,forall_eq,zqU,zw8,z2O,zbcz,and_true];rfl
@[simp] theorem zbgh (l:List Bare):CVB sm (.s .bare l)↔z3W l:=by rw[zmb];simp only[zbdt];rfl
@[simp] theorem zbgA (a:List Ins)(b c:Int)(d e:List Slot)(f:Ctl)(g:Int)(h:GExit)(i:Bool)(j:List Int):SmG ⟨a,b,c,d,e,f,g,h,i,j⟩↔a.length<=1048576/\d.length<=1048576/\e.length<=1048576/\j.length<=1048576:=Iff.rfl
@[simp] theorem zbgz (m:List (List Int))(g:List Guest)(o:List Int)(p:Int):SmB ⟨m,g,o,p⟩↔SmM m/\zlg g/\o.length<=1048576:=Iff.rfl
theorem zQs {m:List (List Int)}{i:Int}{x:List Int}(h:SmM m)(b:x.length<=1048576):SmM (up m i x):=by refine⟨by simpa using h.1,fun y a=>?_⟩;rcases qY a with a|rfl;{exact h.2 y a};{exact b}
theorem zH5 {m:List Guest}{i:Int}{x:Guest}(h:zlg m)(b:SmG x):zlg (up m i x):=by refine⟨by simpa using h.1,fun y a=>?_⟩;rcases qY a with a|rfl;{exact h.2 y a};{exact b}
theorem zbey {m:List Bare}{i:Int}{x:Bare}(h:z3W m)(b:SmB x):z3W (up m i x):=by refine⟨by simpa using h.1,fun y a=>?_⟩;rcases qY a with a|rfl;{exact h.2 y a};{exact b}
theorem z88 {l:List Guest}{i:Int}(h:zlg l)(a:hasB i (ln l)=true)(d:Guest):SmG (ix l i d):=h.2 _ (zbD a d)
theorem zbfA {l:List (List Int)}{i:Int}(h:SmM l)(a:hasB i (ln l)=true)(d:List Int):(ix l i d).length<=1048576:=h.2 _ (zbD a d)
@[simp] theorem zbf5:SmG zG:=⟨by decide,by decide,by decide,by decide⟩
def win (x a b:Int):Bool:=ige x a&&ile x b
@[simp] theorem zW7 (x a b:Int):zT x a b=win x a b:=rfl
@[simp] theorem zbgC (x a b:Int):zbU x a b=win x a b:=rfl
@[simp] theorem zYf (i n:Int):inb i n=hasB i n:=rfl
attribute [simp] zdc
@[simp] theorem zrI {a:Type}{l:List a}(h:l.length<=1048576)(i:Int):win i 0 (wsub .i64 (ln l) 1)=hasB i (ln l):=zFW (zcQ h).1 i
theorem zM4 {a:Type}{l:List a}(h:l.length<=big)(i:Int):win i 0 (wsub .i64 (ln l) 1)=hasB i (ln l):=zFW h i
theorem zfv {x a b:Int}:(win x a b=true)↔a<=x/\x<=b:=by unfold win ige ile;simp only[qD,decide_eq_true_iff]
theorem zbd6 (a b:Int):ilt a b = !ige a b:=by unfold ilt ige;by_cases h:a<b;{rw [qJ h,qH (by omega)];rfl};{rw [qH h,qJ (by omega)];rfl}
attribute [simp] zbx zcO zgP zgL zhq zhm zhr zd3 zhs zjD zrp zcC zdo
attribute [simp] zeB zc8 zf9 zdG
attribute [simp] zf6 zdu zfF zdJ
def zbf (a:Int):Int:=bif ilt a 0 then -1 else zTK .i64 a 4
def zcZ (a:Int):Int:=bif ilt a 0 then -1 else zqJ a 4
@[simp] abbrev zgk (a:Int):Bool:=true
@[simp] abbrev zcW (a:Int):Int:=zbf a
def zAQ:Run:=rF1 dI fun b=>(zgk b,[aI (zcW b)])
def zER (N:Nat)(a:Int):OA:=
 (cond (ilt a 0) (some [(aI (-1))]) (oN (ine 4 0) (some [(aI (zTK .i64 a 4))])))
theorem zSz (a:Int)(b:zgk a=true):∃N,zER N a=some [aI (zcW a)]:=by refine⟨0,?_⟩;unfold zER oN;refine br (fun _=>?_) (fun _=>must rfl ?_);all_goals first|rfl|(simp only [*,zcW,zbf,cT,cF]<;>rfl)|simp_all[Ty.cells,zcW,zbf]
theorem zLK:vN 145 zAQ:=kF1 zeo zx zy zn (zo []) zSz
@[simp] abbrev zpk (a:Int):Bool:=true
@[simp] abbrev zdE (a:Int):Int:=zbf a
def zAx:Run:=rF1 dI fun b=>(zpk b,[aI (zdE b)])
def zEv (N:Nat)(a:Int):OA:=
 (cond (ilt a 0) (some [(aI (-1))]) (oN (ine 4 0) (some [(aI (zTK .i64 a 4))])))
theorem zSd (a:Int)(b:zpk a=true):∃N,zEv N a=some [aI (zdE a)]:=by refine⟨0,?_⟩;unfold zEv oN;refine br (fun _=>?_) (fun _=>must rfl ?_);all_goals first|rfl|(simp only [*,zdE,zbf,cT,cF]<;>rfl)|simp_all[Ty.cells,zdE,zbf]
theorem zLr:vN 142 zAx:=kF1 zeo zx zy zn (zo []) zSd
@[simp] abbrev zi1 (a:Int):Bool:=true
@[simp] abbrev zes (a:Int):Int:=zcZ a
def zAP:Run:=rF1 dI fun b=>(zi1 b,[aI (zes b)])
def zEQ (N:Nat)(a:Int):OA:=
 (cond (ilt a 0) (some [(aI (-1))]) (oN (ine 4 0) (some [(aI (zqJ a 4))])))
theorem zSy (a:Int)(b:zi1 a=true):∃N,zEQ N a=some [aI (zes a)]:=by refine⟨0,?_⟩;unfold zEQ oN;refine br (fun _=>?_) (fun _=>must rfl ?_);all_goals first|rfl|(simp only [*,zes,zcZ,cT,cF]<;>rfl)|simp_all[Ty.cells,zes,zcZ]
theorem zLJ:vN 146 zAP:=kF1 zeo zx zy zn (zo []) zSy
@[simp] abbrev zpj (a:Int):Bool:=true
@[simp] abbrev zhZ (a:Int):Int:=zcZ a
def zAw:Run:=rF1 dI fun b=>(zpj b,[aI (zhZ b)])
def zEu (N:Nat)(a:Int):OA:=
 (cond (ilt a 0) (some [(aI (-1))]) (oN (ine 4 0) (some [(aI (zqJ a 4))])))
theorem zSc (a:Int)(b:zpj a=true):∃N,zEu N a=some [aI (zhZ a)]:=by refine⟨0,?_⟩;unfold zEu oN;refine br (fun _=>?_) (fun _=>must rfl ?_);all_goals first|rfl|(simp only [*,zhZ,zcZ,cT,cF]<;>rfl)|simp_all[Ty.cells,zhZ,zcZ]
theorem zLq:vN 144 zAw:=kF1 zeo zx zy zn (zo []) zSc
def zci (w:Bool):Int:=bif w then 2 else 1
@[simp] abbrev zuL (w:Bool):Bool:=true
@[simp] abbrev zfo (w:Bool):Int:=zci w
def zGL:Run:=rF1 dB fun b=>(zuL b,[aI (zfo b)])
def zNy (N:Nat)(a:Bool):OA:=
 (cond a (some [(aI 2)]) (some [(aI 1)]))
theorem zYP (a:Bool)(b:zuL a=true):∃N,zNy N a=some [aI (zfo a)]:=by refine⟨0,?_⟩;unfold zNy;refine br (fun _=>?_) (fun _=>?_);all_goals first|rfl|(simp only [*,zfo,zci,cT,cF]<;>rfl)|simp_all[Ty.cells,zfo,zci]
theorem zRF:vN 350 zGL:=kF1 zeo zx zy zn (zo []) zYP
def zsQ (p:Int)(w:Bool):GExit:=⟨1,p,w,0⟩
def zBA (n:Int):GExit:=⟨2,0,false,n⟩
def zAi (n:Int):GExit:=⟨3,0,false,n⟩
@[simp] abbrev zkk (p:Int)(w:Bool):Bool:=true
@[simp] abbrev ze6 (p:Int)(w:Bool):GExit:=zsQ p w
def zpN:Run:=rF2 dI dB fun b c=>(zkk b c,[.agg (zfH (ze6 b c))])
def zDa (N:Nat)(a:Int)(c:Bool):OA:=
 (some [(.agg [(.i .i64 1),(.i .i64 a),(.b c),(.i .i64 0)])])
theorem zPv (a:Int)(b:Bool)(c:zkk a b=true):∃N,zDa N a b=some [.agg (zfH (ze6 a b))]:=by refine⟨0,?_⟩;unfold zDa;first|rfl|(simp only [*,ze6,cT,cF]<;>rfl)|simp_all[Ty.cells,ze6]
theorem zui:vN 260 zpN:=kF2 zeo zx zy zn (zo []) zPv
@[simp] abbrev zp1 (n:Int):Bool:=true
@[simp] abbrev zfk (n:Int):GExit:=zBA n
def zri:Run:=rF1 dI fun b=>(zp1 b,[.agg (zfH (zfk b))])
def zEU (N:Nat)(a:Int):OA:=
 (some [(.agg [(.i .i64 2),(.i .i64 0),(.b false),(.i .i64 a)])])
theorem zSC (a:Int)(b:zp1 a=true):∃N,zEU N a=some [.agg (zfH (zfk a))]:=by refine⟨0,?_⟩;unfold zEU;first|rfl|(simp only [*,zfk,cT,cF]<;>rfl)|simp_all[Ty.cells,zfk]
theorem zvG:vN 261 zri:=kF1 zeo zx zy zn (zo []) zSC
@[simp] abbrev zsl (n:Int):Bool:=true
@[simp] abbrev zgl (n:Int):GExit:=zAi n
def ztX:Run:=rF1 dI fun b=>(zsl b,[.agg (zfH (zgl b))])
def zJv (N:Nat)(a:Int):OA:=
 (some [(.agg [(.i .i64 3),(.i .i64 0),(.b false),(.i .i64 a)])])
theorem zWa (a:Int)(b:zsl a=true):∃N,zJv N a=some [.agg (zfH (zgl a))]:=by refine⟨0,?_⟩;unfold zJv;first|rfl|(simp only [*,zgl,cT,cF]<;>rfl)|simp_all[Ty.cells,zgl]
theorem zxv:vN 262 ztX:=kF1 zeo zx zy zn (zo []) zWa
def zg6 (t x:Int):Bool:=bif win t 0 3 then (cond (win x 1 2) (ine (wand .i64 t x) 0) false) else false
@[simp] abbrev zix (t x:Int):Bool:=true
@[simp] abbrev zh8 (t x:Int):Bool:=zg6 t x
def zDG:Run:=rF2 dI dI fun b c=>(zix b c,[aB (zh8 b c)])
def zJn (N:Nat)(a b:Int):OA:=
 (oN (zN a 0 3) (cond (zT a 0 3) (oN (zN b 1 2) (cond (zT b 1 2) (some [(aB (ine (wand .i64 a b) 0))]) oF)) oF))
theorem zV1 (a b:Int)(c:zix a b=true):∃N,zJn N a b=some [aB (zh8 a b)]:=by refine⟨0,?_⟩;unfold zJn oN;refine must rfl (br (fun _=>must rfl (br (fun _=>?_) (fun _=>?_))) (fun _=>?_));all_goals first|rfl|(simp only [*,zh8,zg6,cT,cF]<;>rfl)|simp_all[Ty.cells,zh8,zg6]
theorem zOB:vN 355 zDG:=kF2 zeo zx zy zn (zo []) zV1
def zc7 (p:Int):Bool:=win p 0 255
@[simp] abbrev zfr (p:Int):Bool:=true
@[simp] abbrev zfq (p:Int):Bool:=zc7 p
def zGP:Run:=rF1 dI fun b=>(zfr b,[aB (zfq b)])
def zND (N:Nat)(a:Int):OA:=
 (oN (zN a 0 255) (some [(aB (zT a 0 255))]))
theorem zYV (a:Int)(b:zfr a=true):∃N,zND N a=some [aB (zfq a)]:=by refine⟨0,?_⟩;unfold zND oN;refine must rfl ?_;first|rfl|(simp only [*,zfq,zc7,cT,cF]<;>rfl)|simp_all[Ty.cells,zfq,zc7]
theorem zRJ:vN 264 zGP:=kF1 zeo zx zy zn (zo []) zYV
@[simp] abbrev zh2 (p:Int):Bool:=true
@[simp] abbrev zio (p:Int):Bool:=zc7 p
def zGs:Run:=rF1 dI fun b=>(zh2 b,[aB (zio b)])
def zNf (N:Nat)(a:Int):OA:=
 (oN (zbM a 0 255) (some [(aB (zbU a 0 255))]))
theorem zYv (a:Int)(b:zh2 a=true):∃N,zNf N a=some [aB (zio a)]:=by refine⟨0,?_⟩;unfold zNf oN;refine must rfl ?_;first|rfl|(simp only [*,zio,zc7,cT,cF]<;>rfl)|simp_all[Ty.cells,zio,zc7]
theorem zRm:vN 263 zGs:=kF1 zeo zx zy zn (zo []) zYv
def zcA (l:List Ins)(p:Int):Ins:=bif hasB p (ln l) then ix l p zyM else ⟨7,0⟩
@[simp] abbrev zfD (l:List Ins)(p:Int):Bool:=true
@[simp] abbrev zfV (l:List Ins)(p:Int):Ins:=zcA l p
def zKk:Run:=rF2 (dS .ins) dI fun b c=>(zfD b c,[aT .ins (zfV b c)])
def zTW (N:Nat)(a:lI)(b:Int):OA:=
 (oN (zN b 0 (wsub .i64 (ln a) 1)) (cond (nB (zT b 0 (wsub .i64 (ln a) 1))) (some [(.agg [(.i .i64 7),(.i .i64 0)])]) (oN (inb b (ln a)) (some [(.agg [(.i .i64 (ix a b zyM).Op),(.i .i64 (ix a b zyM).X)])]))))
theorem z1x (a:List Ins)(b:Int)(c:zce big [aS .ins a,aI b])(e:zfD a b=true):∃N,zTW N a b=some [aT .ins (zfV a b)]:=by have d:=((zdd c).1 _ (qF.2 rfl)).len;have f:=zM4 d;refine⟨0,?_⟩;unfold zTW oN nB;refine must rfl (brN (fun _=>?_) (fun _=>mu ?_));all_goals first|rfl|(simp only [*,zfV,zcA,cT,cF]<;>rfl)|simp_all[Ty.cells,zfV,zcA]
theorem zVu:vN 347 zKk:=hF2 zeo zx zy zn (zo []) z1x
def zBg (w:Int):Int:=bif ieq w 5 then 1 else 2
def zdK (s:Slot)(n:Int):Bool:=bif zc1 s noSlot then true else (cond (igt n 0) (cond (win s.Page 0 (wsub .i64 n 1)) (win s.Rights 1 3) false) false)
@[simp] abbrev zuO (s:Slot)(n:Int):Bool:=true
@[simp] abbrev zry (s:Slot)(n:Int):Bool:=zdK s n
def zGT:Run:=rF2 (dT .slot) dI fun b c=>(zuO b c,[aB (zry b c)])
def zNH (N:Nat)(a:Slot)(b:Int):OA:=
 (oN zcC (cond (cond (ieq a.Page zbx.Page) (ieq a.Rights zbx.Rights) false) oT (oN (zN a.Page 0 (wsub .i64 b 1)) (cond (zT a.Page 0 (wsub .i64 b 1)) (cond (igt b 0) (oN (zN a.Rights 1 3) (some [(aB (zT a.Rights 1 3))])) oF) oF))))
theorem zYZ (a:Slot)(b:Int)(c:zuO a b=true):∃N,zNH N a b=some [aB (zry a b)]:=by refine⟨0,?_⟩;unfold zNH oN;refine must rfl (br (fun _=>?_) (fun _=>must rfl (br (fun _=>br (fun _=>must rfl ?_) (fun _=>?_)) (fun _=>?_))));all_goals first|rfl|(simp only [*,zry,zdK,zc1,cT,cF]<;>rfl)|simp_all[Ty.cells,zry,zdK,zc1]
theorem zRN:vN 171 zGT:=kF2 zeo zx zy zn (zo []) zYZ
@[simp] abbrev zB3 (s:Slot)(n:Int):Bool:=true
@[simp] abbrev zvT (s:Slot)(n:Int):Bool:=zdK s n
def zGw:Run:=rF2 (dT .slot) dI fun b c=>(zB3 b c,[aB (zvT b c)])
def zNj (N:Nat)(a:Slot)(b:Int):OA:=
 (oN zdo (cond (cond (ieq a.Page zcO.Page) (ieq a.Rights zcO.Rights) false) oT (cond (igt b 0) (oN (zbM a.Page 0 (wsub .i64 b 1)) (cond (zbU a.Page 0 (wsub .i64 b 1)) (oN (zbM a.Rights 1 3) (some [(aB (zbU a.Rights 1 3))])) oF)) oF)))
theorem zYz (a:Slot)(b:Int)(c:zB3 a b=true):∃N,zNj N a b=some [aB (zvT a b)]:=by refine⟨0,?_⟩;unfold zNj oN;refine must rfl (br (fun _=>?_) (fun _=>br (fun _=>must rfl (br (fun _=>must rfl ?_) (fun _=>?_))) (fun _=>?_)));all_goals first|rfl|(simp only [*,zvT,zdK,zc1,cT,cF]<;>rfl)|simp_all[Ty.cells,zvT,zdK,zc1]
theorem zRq:vN 164 zGw:=kF2 zeo zx zy zn (zo []) zYz
@[simp] abbrev zgA (l:List Slot):Bool:=pc (l.length<=2147483648)
@[simp] abbrev ze4 (l:List Slot):List Slot:=l
def zxT:Run:=rF1 (dS .slot) fun b=>(zgA b,[aS .slot (ze4 b)])
def zC2 (N:Nat)(a:lS):OA:=
 (oN (few (ln (ap [] a))) (some [(aS .slot (ap [] a))]))
theorem zPl (a:List Slot)(b:zgA a=true):∃N,zC2 N a=some [aS .slot (ze4 a)]:=by have c:=zM.1 b;refine⟨0,?_⟩;unfold zC2 oN;refine mu ?_;first|rfl|(simp only [*,ze4,cT,cF]<;>rfl)|simp_all[Ty.cells,ze4]
theorem zIf:vN 258 zxT:=kF1 zeo zx zy zn (zo []) zPl
@[simp] abbrev zvV (l:List Ins):Bool:=pc (l.length<=2147483648)
@[simp] abbrev zpy (l:List Ins):List Ins:=l
def zAJ:Run:=rF1 (dS .ins) fun b=>(zvV b,[aS .ins (zpy b)])
def zEJ (N:Nat)(a:lI):OA:=
 (oN (few (ln (ap [] a))) (some [(aS .ins (ap [] a))]))
theorem zSs (a:List Ins)(b:zvV a=true):∃N,zEJ N a=some [aS .ins (zpy a)]:=by have c:=zM.1 b;refine⟨0,?_⟩;unfold zEJ oN;refine mu ?_;first|rfl|(simp only [*,zpy,cT,cF]<;>rfl)|simp_all[Ty.cells,zpy]
theorem zLD:vN 308 zAJ:=kF1 zeo zx zy zn (zo []) zSs
def zfI (m:List (List Int))(p c:Int):Bool:=bif hasB p (ln m) then hasB c (ln (ix m p [])) else false
def cellAt (m:List (List Int))(p c:Int):Int:=bif zfI m p c then ix (ix m p []) c 0 else 0
def zbH (m:List (List Int))(p c v:Int):List (List Int):=bif zfI m p c then (cond (win v 0 99) (up m p (up (ix m p []) c v)) m) else m
theorem zCh (m:List (List Int))(p c:Int):(zfI m p c=true)↔hasB p (ln m)=true/\hasB c (ln (ix m p []))=true:=by unfold zfI;cases hasB p (ln m)<;>simp
theorem zbe8 {n:Nat}{m:List (List Int)}(h:CVB n (.s (.sl .int) m)):m.length<=n/\∀p:Int,hasB p (ln m)=true->(ix m p []).length<=n :=
 ⟨h.len,fun p a=>(h.inv.2 _ (zbD a []) _ (qF.2 rfl)).len⟩
@[simp] abbrev zuR (m:List (List Int))(p c:Int):Bool:=true
@[simp] abbrev zrB (m:List (List Int))(p c:Int):Bool:=zfI m p c
def zGY:Run:=rF3 (dS (.sl .int)) dI dI fun b c d=>(zuR b c d,[aB (zrB b c d)])
def zNM (N:Nat)(a:lM)(b c:Int):OA:=
 let d:=(wsub .i64 (ln (ix a b [])) 1); (oN (zN b 0 (wsub .i64 (ln a) 1)) (cond (zT b 0 (wsub .i64 (ln a) 1)) (oN (inb b (ln a)) (oN (zN c 0 d) (some [(aB (zT c 0 d))]))) oF))
theorem zY4 (a:List (List Int))(b c:Int)(e:zce big [aS (.sl .int) a,aI b,aI c])(g:zuR a b c=true):∃N,zNM N a b c=some [aB (zrB a b c)]:=by
 have d:=zbe8 ((zdd e).1 _ (qF.2 rfl));have j:=zM4 d.1;have f:∀p i:Int,hasB p (ln a)=true->win i 0 (wsub .i64 (ln (ix a p [])) 1)=hasB i (ln (ix a p [])):=fun p i h=>zM4 (d.2 p h) i;refine⟨0,?_⟩;unfold zNM oN;conv=>zeta
 refine must rfl (br (fun _=>mu (must rfl ?_)) (fun _=>?_));all_goals first|rfl|(simp only [*,zrB,zfI,cT,cF]<;>rfl)|simp_all[Ty.cells,zrB,zfI]
theorem zRT:vN 214 zGY:=hF3 zeo zx zy zn (zo []) zY4
@[simp] abbrev zBX (m:List (List Int))(p c:Int):Bool:=true
@[simp] abbrev zvM (m:List (List Int))(p c:Int):Int:=cellAt m p c
def zGi:Run:=rF3 (dS (.sl .int)) dI dI fun b c d=>(zBX b c d,[aI (zvM b c d)])
def zM6 (N:Nat)(a:lM)(b c:Int):OA:=
 let d:=(ix a b []); (oN (zcM b (ln a)) (cond (nB (zdc b (ln a))) (some [(aI 0)]) (oN (inb b (ln a)) (oN (zcM c (ln d)) (cond (nB (zdc c (ln d))) (some [(aI 0)]) (oN (inb b (ln a)) (oN (inb c (ln d)) (some [(aI (ix d c 0))]))))))))
theorem zYl (a:List (List Int))(b c:Int)(d:zBX a b c=true):∃N,zM6 N a b c=some [aI (zvM a b c)]:=by
 refine⟨0,?_⟩;unfold zM6 oN nB;conv=>zeta
 refine must rfl (brN (fun _=>?_) (fun _=>mu (must rfl (brN (fun _=>?_) (fun _=>mu (mu ?_))))));all_goals first|rfl|(simp only [*,zvM,cellAt,zfI,cT,cF]<;>rfl)|simp_all[Ty.cells,zvM,cellAt,zfI]
theorem zRc:vN 147 zGi:=kF3 zeo zx zy zn (zo []) zYl
def z4o:zX:=[(345,zGC),(145,zAQ),(142,zAx),(146,zAP),(144,zAw),(350,zGL),(260,zpN),(261,zri),(262,ztX),(355,zDG),(264,zGP),(263,zGs),(347,zKk),(171,zGT),(164,zGw),(258,zxT),(308,zAJ),(214,zGY),(147,zGi)]++ctrU
theorem zfL:zL z4o:=zh zRw (zh zLK (zh zLr (zh zLJ (zh zLq (zh zRF (zh zui (zh zvG (zh zxv (zh zOB (zh zRJ (zh zRm (zh zVu (zh zRN (zh zRq (zh zIf (zh zLD (zh zRT (zh zRc zeo))))))))))))))))))
@[simp] abbrev zuJ (m:List (List Int))(p c:Int):Bool:=true
@[simp] abbrev zow (m:List (List Int))(p c:Int):Int:=cellAt m p c
def zGD:Run:=rF3 (dS (.sl .int)) dI dI fun b c d=>(zuJ b c d,[aI (zow b c d)])
def zNq (N:Nat)(a:lM)(b c:Int):OA:=
 (oN (zuR a b c) (cond (nB (zrB a b c)) (some [(aI 0)]) (oN (inb b (ln a)) (oN (inb c (ln (ix a b []))) (some [(aI (ix (ix a b []) c 0))])))))
theorem zYG (a:List (List Int))(b c:Int)(d:zuJ a b c=true):∃N,zNq N a b c=some [aI (zow a b c)]:=by have e:=(zCh a b c).1;refine⟨0,?_⟩;unfold zNq oN nB;refine must rfl (brN (fun _=>?_) (fun _=>mu (mu ?_)));all_goals first|rfl|(simp only [*,zow,cellAt,cT,cF]<;>rfl)|simp_all[Ty.cells,zow,cellAt]
theorem zRx:vN 119 zGD:=kF3 zfL zx zy zn (zo []) zYG
def zcY (t:List Slot)(n p:Int):Bool:=bif t.all (fun s=>zdK s p) then ieq (ln t) n else false
@[simp] abbrev znB (t:List Slot)(n p:Int):Bool:=true
@[simp] abbrev zia (t:List Slot)(n p:Int):Bool:=zcY t n p
def zDQ:Run:=rF3 (dS .slot) dI dI fun b c d=>(znB b c d,[aB (zia b c d)])
def zJB (N:Nat)(d:lS)(e f:Int):OA:=
 (iter (σ:=(Int×(Int×(Int×(lS×Unit))))) N (fun g a=>let b:=a.2.2.2.1;let c:=(ix b a.2.2.1 zV); (cond (ilt a.2.2.1 (ln b)) (oN (inb a.2.2.1 (ln b)) (oN (zuO c a.2.1) (cond (nB (zry c a.2.1)) oF (g (a.1,(a.2.1,((zK .i64 a.2.2.1 1),(b,())))))))) (some [(aB (ieq (ln b) a.1))]))) (e,(f,(0,(d,())))))
def zWK:FuncId->Nat->Option Tmpl:=zo [(288,0,{n:=25,tm:=[(0,.sl 0 []),(1,ti),(2,ti),(7,ti)],lo:=[],ro:=[(0,.slot,false)]})]
theorem zWg (a:List Slot)(d c:Int)(j:zce big [aS .slot a,aI d,aI c])(l:znB a d c=true):∃N,zJB N a d c=some [aB (zia a d c)]:=by
 have h:(_:List _).length<=big:=((zdd j).1 _ (qF.2 rfl)).len;refine zcd fun N g=>?_;unfold zJB oN nB;conv=>zeta
 refine(zbl a (fun i (t:Unit)=>(d,c,(i:Int),a,())) _ (fun _ x (_:Unit) k=>bif (fun s=>zdK s c) x then k () else oF) (fun (t:Unit)=>(some [(.one (.b (ieq (ln a) d)))])) (fun i e t rec=>?_) (fun t rec=>?_) _ () (g h)).trans ?_;{simp only [zbA e,zbh e,zbo e,zbg e h,cT];exact zii rfl};{simp only [zbq,cF]};rw[zgq (fun s=>zdK s c)];refine br (fun f=>?_) (fun f=>?_);{first|rfl|(simp only [f,zia,zcY,cT,cF]<;>rfl)|(simp_all [Ty.cells,zia,zcY];done)};{first|rfl|(simp only [f,zia,zcY,cT,cF]<;>rfl)|(simp_all [Ty.cells,zia,zcY];done)}
theorem zOL:vN 288 zDQ:=hF3 zfL zx zy zn zWK zWg
@[simp] abbrev znc (t:List Slot)(n p:Int):Bool:=true
@[simp] abbrev zh4 (t:List Slot)(n p:Int):Bool:=zcY t n p
def zDz:Run:=rF3 (dS .slot) dI dI fun b c d=>(znc b c d,[aB (zh4 b c d)])
def zJc (N:Nat)(c:lS)(e f:Int):OA:=
 (iter (σ:=(Int×(Int×(Int×(Int×(lS×Unit)))))) N (fun g a=>let b:=a.2.2.2.2.1;let d:=(ix b a.2.2.2.1 zV); (cond (ilt a.2.2.2.1 a.2.2.1) (oN (inb a.2.2.2.1 (ln b)) (oN (zB3 d a.2.1) (cond (nB (zvT d a.2.1)) oF (g (a.1,(a.2.1,(a.2.2.1,((zK .i64 a.2.2.2.1 1),(b,()))))))))) (some [(aB (ieq (ln b) a.1))]))) (e,(f,((ln c),(0,(c,()))))))
def zWG:FuncId->Nat->Option Tmpl:=zo [(306,0,{n:=24,tm:=[(0,.sl 0 []),(1,ti),(2,ti),(9,.sl 0 []),(10,ti),(11,ti)],lo:=[],ro:=[(0,.slot,false)]})]
theorem zVP (a:List Slot)(d c:Int)(j:zce big [aS .slot a,aI d,aI c])(l:znc a d c=true):∃N,zJc N a d c=some [aB (zh4 a d c)]:=by
 have h:(_:List _).length<=big:=((zdd j).1 _ (qF.2 rfl)).len;refine zcd fun N g=>?_;unfold zJc oN nB;conv=>zeta
 refine(zbl a (fun i (t:Unit)=>(d,c,(ln a),(i:Int),a,())) _ (fun _ x (_:Unit) k=>bif (fun s=>zdK s c) x then k () else oF) (fun (t:Unit)=>(some [(.one (.b (ieq (ln a) d)))])) (fun i e t rec=>?_) (fun t rec=>?_) _ () (g h)).trans ?_;{simp only [zbA e,zbh e,zbo e,zbg e h,cT];exact zii rfl};{simp only [zbq,cF]};rw[zgq (fun s=>zdK s c)];refine br (fun f=>?_) (fun f=>?_);{first|rfl|(simp only [f,zh4,zcY,cT,cF]<;>rfl)|(simp_all [Ty.cells,zh4,zcY];done)};{first|rfl|(simp only [f,zh4,zcY,cT,cF]<;>rfl)|(simp_all [Ty.cells,zh4,zcY];done)}
theorem zOu:vN 306 zDz:=hF3 zfL zx zy zn zWG zVP
def zcr (c:List Int):Bool:=bif c.all (fun x=>win x 0 99) then ieq (ln c) 4 else false
@[simp] abbrev zf4 (c:List Int):Bool:=true
@[simp] abbrev zfp (c:List Int):Bool:=zcr c
def zGO:Run:=rF1 (dS .int) fun b=>(zf4 b,[aB (zfp b)])
def zNC (N:Nat)(b:List Int):OA:=
 (iter (σ:=(Int×((List Int)×Unit))) N (fun c a=>(cond (ilt a.1 (ln a.2.1)) (oN (inb a.1 (ln a.2.1)) (oN (zN (ix a.2.1 a.1 0) 0 99) (cond (nB (zT (ix a.2.1 a.1 0) 0 99)) oF (c ((zK .i64 a.1 1),(a.2.1,())))))) (some [(aB (ieq (ln a.2.1) 4))]))) (0,(b,())))
def z0A:FuncId->Nat->Option Tmpl:=zo [(287,0,{n:=19,tm:=[(0,.sl 0 []),(3,ti)],lo:=[],ro:=[(0,.int,false)]})]
theorem zYU (a:List Int)(g:zce big [aS .int a])(j:zf4 a=true):∃N,zNC N a=some [aB (zfp a)]:=by have f:(_:List _).length<=big:=((zdd g).1 _ (qF.2 rfl)).len;refine zcd fun N e=>?_;unfold zNC oN nB;refine(zbl a (fun i (t:Unit)=>((i:Int),a,())) _ (fun _ x (_:Unit) h=>bif (fun x=>win x 0 99) x then h () else oF) (fun (t:Unit)=>(some [(.one (.b (ieq (ln a) 4)))])) (fun i c t rec=>?_) (fun t rec=>?_) _ () (e f)).trans ?_;{simp only [zbA c,zbh c,zbo c,zbg c f,cT];exact zii rfl};{simp only [zbq,cF]};rw[zgq (fun x=>win x 0 99)];refine br (fun d=>?_) (fun d=>?_);{first|rfl|(simp only [d,zfp,zcr,cT,cF]<;>rfl)|(simp_all [Ty.cells,zfp,zcr];done)};{first|rfl|(simp only [d,zfp,zcr,cT,cF]<;>rfl)|(simp_all [Ty.cells,zfp,zcr];done)}
theorem zRI:vN 287 zGO:=hF1 zfL zx zy zn z0A zYU
@[simp] abbrev zh1 (c:List Int):Bool:=true
@[simp] abbrev zgz (c:List Int):Bool:=zcr c
def zGr:Run:=rF1 (dS .int) fun b=>(zh1 b,[aB (zgz b)])
def zNe (N:Nat)(b:List Int):OA:=
 (iter (σ:=(Int×(Int×((List Int)×Unit)))) N (fun c a=>(cond (ilt a.2.1 a.1) (oN (inb a.2.1 (ln a.2.2.1)) (oN (zbM (ix a.2.2.1 a.2.1 0) 0 99) (cond (nB (zbU (ix a.2.2.1 a.2.1 0) 0 99)) oF (c (a.1,((zK .i64 a.2.1 1),(a.2.2.1,()))))))) (some [(aB (ieq (ln a.2.2.1) 4))]))) ((ln b),(0,(b,()))))
def z0q:FuncId->Nat->Option Tmpl:=zo [(305,0,{n:=18,tm:=[(0,.sl 0 []),(5,.sl 0 []),(6,ti),(7,ti)],lo:=[],ro:=[(0,.int,false)]})]
theorem zYu (a:List Int)(g:zce big [aS .int a])(j:zh1 a=true):∃N,zNe N a=some [aB (zgz a)]:=by have f:(_:List _).length<=big:=((zdd g).1 _ (qF.2 rfl)).len;refine zcd fun N e=>?_;unfold zNe oN nB;refine(zbl a (fun i (t:Unit)=>((ln a),(i:Int),a,())) _ (fun _ x (_:Unit) h=>bif (fun x=>win x 0 99) x then h () else oF) (fun (t:Unit)=>(some [(.one (.b (ieq (ln a) 4)))])) (fun i c t rec=>?_) (fun t rec=>?_) _ () (e f)).trans ?_;{simp only [zbA c,zbh c,zbo c,zbg c f,cT];exact zii rfl};{simp only [zbq,cF]};rw[zgq (fun x=>win x 0 99)];refine br (fun d=>?_) (fun d=>?_);{first|rfl|(simp only [d,zgz,zcr,cT,cF]<;>rfl)|(simp_all [Ty.cells,zgz,zcr];done)};{first|rfl|(simp only [d,zgz,zcr,cT,cF]<;>rfl)|(simp_all [Ty.cells,zgz,zcr];done)}
theorem zRl:vN 305 zGr:=hF1 zfL zx zy zn z0q zYu
def zdU (i:Ins):Bool:=bif (ieq i.Op 1||ieq i.Op 2||ieq i.Op 5||ieq i.Op 6) then win i.X 0 99 else (cond (ieq i.Op 3||ieq i.Op 4) (win i.X 0 15) (cond (ieq i.Op 7) (ieq i.X 0) (cond (ieq i.Op 8) (win i.X 0 11) false)))
@[simp] abbrev zG8 (i:Ins):Bool:=true
@[simp] abbrev zA5 (i:Ins):Bool:=zdU i
def zKl:Run:=rF1 (dT .ins) fun b=>(zG8 b,[aB (zA5 b)])
def zTX (N:Nat)(a:Ins):OA:=
 let b:=(ieq a.Op 4);let l:=(zN a.X 0 99);let k:=(aB (zT a.X 0 99));let j:=(ieq a.Op 8);let i:=(ieq a.Op 7);let h:=(ieq a.Op 3);let g:=(zN a.X 0 11);let f:=(zN a.X 0 15);let e:=(aB (ieq a.X 0));let d:=(aB (zT a.X 0 11));let c:=(aB (zT a.X 0 15)); (cond (ieq a.Op 1) (cond (ieq a.Op 1) (oN l (some [k])) (cond h (cond h (oN f (some [c])) (cond i (some [e]) (cond j (oN g (some [d])) oF))) (cond b (oN f (some [c])) (cond i (some [e]) (cond j (oN g (some [d])) oF))))) (cond (ieq a.Op 2) (cond (ieq a.Op 2) (oN l (some [k])) (cond h (cond h (oN f (some [c])) (cond i (some [e]) (cond j (oN g (some [d])) oF))) (cond b (oN f (some [c])) (cond i (some [e]) (cond j (oN g (some [d])) oF))))) (cond (ieq a.Op 5) (cond (ieq a.Op 5) (oN l (some [k])) (cond h (cond h (oN f (some [c])) (cond i (some [e]) (cond j (oN g (some [d])) oF))) (cond b (oN f (some [c])) (cond i (some [e]) (cond j (oN g (some [d])) oF))))) (cond (ieq a.Op 6) (oN l (some [k])) (cond h (cond h (oN f (some [c])) (cond i (some [e]) (cond j (oN g (some [d])) oF))) (cond b (oN f (some [c])) (cond i (some [e]) (cond j (oN g (some [d])) oF))))))))
theorem z1y (a:Ins)(b:zG8 a=true):∃N,zTX N a=some [aB (zA5 a)]:=by
 refine⟨0,?_⟩;unfold zTX oN;conv=>zeta
 refine br (fun _=>br (fun _=>must rfl ?_) (fun _=>br (fun _=>br (fun _=>must rfl ?_) (fun _=>br (fun _=>?_) (fun _=>br (fun _=>must rfl ?_) (fun _=>?_)))) (fun _=>br (fun _=>must rfl ?_) (fun _=>br (fun _=>?_) (fun _=>br (fun _=>must rfl ?_) (fun _=>?_)))))) (fun _=>br (fun _=>br (fun _=>must rfl ?_) (fun _=>br (fun _=>br (fun _=>must rfl ?_) (fun _=>br (fun _=>?_) (fun _=>br (fun _=>must rfl ?_) (fun _=>?_)))) (fun _=>br (fun _=>must rfl ?_) (fun _=>br (fun _=>?_) (fun _=>br (fun _=>must rfl ?_) (fun _=>?_)))))) (fun _=>br (fun _=>br (fun _=>must rfl ?_) (fun _=>br (fun _=>br (fun _=>must rfl ?_) (fun _=>br (fun _=>?_) (fun _=>br (fun _=>must rfl ?_) (fun _=>?_)))) (fun _=>br (fun _=>must rfl ?_) (fun _=>br (fun _=>?_) (fun _=>br (fun _=>must rfl ?_) (fun _=>?_)))))) (fun _=>br (fun _=>must rfl ?_) (fun _=>br (fun _=>br (fun _=>must rfl ?_) (fun _=>br (fun _=>?_) (fun _=>br (fun _=>must rfl ?_) (fun _=>?_)))) (fun _=>br (fun _=>must rfl ?_) (fun _=>br (fun _=>?_) (fun _=>br (fun _=>must rfl ?_) (fun _=>?_))))))));all_goals first|rfl|(simp only [*,zA5,zdU,cT,cF]<;>rfl)|simp_all[Ty.cells,zA5,zdU]
theorem zVv:vN 330 zKl:=kF1 zfL zx zy zn (zo []) z1y
@[simp] abbrev zFL (i:Ins):Bool:=true
@[simp] abbrev zz7 (i:Ins):Bool:=zdU i
def zKa:Run:=rF1 (dT .ins) fun b=>(zFL b,[aB (zz7 b)])
def zTM (N:Nat)(a:Ins):OA:=
 let b:=(ieq a.Op 4);let l:=(zbM a.X 0 99);let k:=(aB (zbU a.X 0 99));let j:=(ieq a.Op 8);let i:=(ieq a.Op 7);let h:=(ieq a.Op 3);let g:=(zbM a.X 0 11);let f:=(zbM a.X 0 15);let e:=(aB (ieq a.X 0));let d:=(aB (zbU a.X 0 11));let c:=(aB (zbU a.X 0 15)); (cond (ieq a.Op 1) (cond (ieq a.Op 1) (oN l (some [k])) (cond h (cond h (oN f (some [c])) (cond i (some [e]) (cond j (oN g (some [d])) oF))) (cond b (oN f (some [c])) (cond i (some [e]) (cond j (oN g (some [d])) oF))))) (cond (ieq a.Op 2) (cond (ieq a.Op 2) (oN l (some [k])) (cond h (cond h (oN f (some [c])) (cond i (some [e]) (cond j (oN g (some [d])) oF))) (cond b (oN f (some [c])) (cond i (some [e]) (cond j (oN g (some [d])) oF))))) (cond (ieq a.Op 5) (cond (ieq a.Op 5) (oN l (some [k])) (cond h (cond h (oN f (some [c])) (cond i (some [e]) (cond j (oN g (some [d])) oF))) (cond b (oN f (some [c])) (cond i (some [e]) (cond j (oN g (some [d])) oF))))) (cond (ieq a.Op 6) (oN l (some [k])) (cond h (cond h (oN f (some [c])) (cond i (some [e]) (cond j (oN g (some [d])) oF))) (cond b (oN f (some [c])) (cond i (some [e]) (cond j (oN g (some [d])) oF))))))))
theorem z1l (a:Ins)(b:zFL a=true):∃N,zTM N a=some [aB (zz7 a)]:=by
 refine⟨0,?_⟩;unfold zTM oN;conv=>zeta
 refine br (fun _=>br (fun _=>must rfl ?_) (fun _=>br (fun _=>br (fun _=>must rfl ?_) (fun _=>br (fun _=>?_) (fun _=>br (fun _=>must rfl ?_) (fun _=>?_)))) (fun _=>br (fun _=>must rfl ?_) (fun _=>br (fun _=>?_) (fun _=>br (fun _=>must rfl ?_) (fun _=>?_)))))) (fun _=>br (fun _=>br (fun _=>must rfl ?_) (fun _=>br (fun _=>br (fun _=>must rfl ?_) (fun _=>br (fun _=>?_) (fun _=>br (fun _=>must rfl ?_) (fun _=>?_)))) (fun _=>br (fun _=>must rfl ?_) (fun _=>br (fun _=>?_) (fun _=>br (fun _=>must rfl ?_) (fun _=>?_)))))) (fun _=>br (fun _=>br (fun _=>must rfl ?_) (fun _=>br (fun _=>br (fun _=>must rfl ?_) (fun _=>br (fun _=>?_) (fun _=>br (fun _=>must rfl ?_) (fun _=>?_)))) (fun _=>br (fun _=>must rfl ?_) (fun _=>br (fun _=>?_) (fun _=>br (fun _=>must rfl ?_) (fun _=>?_)))))) (fun _=>br (fun _=>must rfl ?_) (fun _=>br (fun _=>br (fun _=>must rfl ?_) (fun _=>br (fun _=>?_) (fun _=>br (fun _=>must rfl ?_) (fun _=>?_)))) (fun _=>br (fun _=>must rfl ?_) (fun _=>br (fun _=>?_) (fun _=>br (fun _=>must rfl ?_) (fun _=>?_))))))));all_goals first|rfl|(simp only [*,zz7,zdU,cT,cF]<;>rfl)|simp_all[Ty.cells,zz7,zdU]
theorem zVi:vN 329 zKa:=kF1 zfL zx zy zn (zo []) z1l
def zhk (e:GExit):Bool:=bif (ieq e.Kind 0||ieq e.Kind 4) then (ieq e.Page 0&&(!e.Write&&ieq e.N 0)) else (cond (ieq e.Kind 1) (win e.Page 0 3&&ieq e.N 0) (cond (ieq e.Kind 2||ieq e.Kind 3) (win e.N 0 99&&(ieq e.Page 0 && !e.Write)) false))
@[simp] theorem zbgy (x:Bool):ziI x false = !x:=by cases x<;>rfl
attribute [simp] zd4
@[simp] abbrev zCs (e:GExit):Bool:=true
@[simp] abbrev zwr (e:GExit):Bool:=zhk e
def zGF:Run:=rF1 dE fun b=>(zCs b,[aB (zwr b)])
def zNs (N:Nat)(a:GExit):OA:=
 let f:=(zT a.N 0 99);let e:=(zN a.N 0 99);let d:=(ieq a.Kind 2);let b:=(ieq a.Page 0);let c:=(aB (nB a.Write));let g:=(aB (cond (ieq a.Kind a.Kind) (cond b (cond (ziI a.Write false) (ieq a.N 0) false) false) false)); (cond (ieq a.Kind 0) (cond (ieq a.Kind 0) (some [g]) (cond (ieq a.Kind 1) (oN (zN a.Page 0 3) (cond (zT a.Page 0 3) (some [(aB (ieq a.N 0))]) oF)) (cond d (cond d (oN e (cond f (cond b (some [c]) oF) oF)) oF) (cond (ieq a.Kind 3) (oN e (cond f (cond b (some [c]) oF) oF)) oF)))) (cond (ieq a.Kind 4) (some [g]) (cond (ieq a.Kind 1) (oN (zN a.Page 0 3) (cond (zT a.Page 0 3) (some [(aB (ieq a.N 0))]) oF)) (cond d (cond d (oN e (cond f (cond b (some [c]) oF) oF)) oF) (cond (ieq a.Kind 3) (oN e (cond f (cond b (some [c]) oF) oF)) oF)))))
theorem zYI (a:GExit)(b:zCs a=true):∃N,zNs N a=some [aB (zwr a)]:=by
 refine⟨0,?_⟩;unfold zNs oN nB;conv=>zeta
 refine br (fun _=>br (fun _=>?_) (fun _=>br (fun _=>must rfl (br (fun _=>?_) (fun _=>?_))) (fun _=>br (fun _=>br (fun _=>must rfl (br (fun _=>br (fun _=>?_) (fun _=>?_)) (fun _=>?_))) (fun _=>?_)) (fun _=>br (fun _=>must rfl (br (fun _=>br (fun _=>?_) (fun _=>?_)) (fun _=>?_))) (fun _=>?_))))) (fun _=>br (fun _=>?_) (fun _=>br (fun _=>must rfl (br (fun _=>?_) (fun _=>?_))) (fun _=>br (fun _=>br (fun _=>must rfl (br (fun _=>br (fun _=>?_) (fun _=>?_)) (fun _=>?_))) (fun _=>?_)) (fun _=>br (fun _=>must rfl (br (fun _=>br (fun _=>?_) (fun _=>?_)) (fun _=>?_))) (fun _=>?_)))));all_goals first|rfl|(simp only [*,zwr,zhk,cT,cF]<;>rfl)|simp_all[Ty.cells,zwr,zhk]
theorem zRz:vN 320 zGF:=kF1 zfL zx zy zn (zo []) zYI
@[simp] abbrev zBY (e:GExit):Bool:=true
@[simp] abbrev zvN (e:GExit):Bool:=zhk e
def zGk:Run:=rF1 dE fun b=>(zBY b,[aB (zvN b)])
def zM8 (N:Nat)(a:GExit):OA:=
 let g:=(zbU a.N 0 99);let f:=(zbM a.N 0 99);let e:=(ieq a.Kind 2);let d:=(aB (ieq a.N 0));let b:=(ieq a.Page 0);let c:=(aB (nB a.Write)); (cond (ieq a.Kind 0) (cond (ieq a.Kind 0) (cond b (cond (nB a.Write) (some [d]) oF) oF) (cond (ieq a.Kind 1) (oN (zbM a.Page 0 3) (cond (zbU a.Page 0 3) (some [d]) oF)) (cond e (cond e (oN f (cond g (cond b (some [c]) oF) oF)) oF) (cond (ieq a.Kind 3) (oN f (cond g (cond b (some [c]) oF) oF)) oF)))) (cond (ieq a.Kind 4) (cond b (cond (nB a.Write) (some [d]) oF) oF) (cond (ieq a.Kind 1) (oN (zbM a.Page 0 3) (cond (zbU a.Page 0 3) (some [d]) oF)) (cond e (cond e (oN f (cond g (cond b (some [c]) oF) oF)) oF) (cond (ieq a.Kind 3) (oN f (cond g (cond b (some [c]) oF) oF)) oF)))))
theorem zYn (a:GExit)(b:zBY a=true):∃N,zM8 N a=some [aB (zvN a)]:=by
 refine⟨0,?_⟩;unfold zM8 oN nB;conv=>zeta
 refine br (fun _=>br (fun _=>br (fun _=>brN (fun _=>?_) (fun _=>?_)) (fun _=>?_)) (fun _=>br (fun _=>must rfl (br (fun _=>?_) (fun _=>?_))) (fun _=>br (fun _=>br (fun _=>must rfl (br (fun _=>br (fun _=>?_) (fun _=>?_)) (fun _=>?_))) (fun _=>?_)) (fun _=>br (fun _=>must rfl (br (fun _=>br (fun _=>?_) (fun _=>?_)) (fun _=>?_))) (fun _=>?_))))) (fun _=>br (fun _=>br (fun _=>brN (fun _=>?_) (fun _=>?_)) (fun _=>?_)) (fun _=>br (fun _=>must rfl (br (fun _=>?_) (fun _=>?_))) (fun _=>br (fun _=>br (fun _=>must rfl (br (fun _=>br (fun _=>?_) (fun _=>?_)) (fun _=>?_))) (fun _=>?_)) (fun _=>br (fun _=>must rfl (br (fun _=>br (fun _=>?_) (fun _=>?_)) (fun _=>?_))) (fun _=>?_)))));all_goals first|rfl|(simp only [*,zvN,zhk,cT,cF]<;>rfl)|simp_all[Ty.cells,zvN,zhk]
theorem zRe:vN 312 zGk:=kF1 zfL zx zy zn (zo []) zYn
def zll (c:Ctl):List Int:=(cond (win c.Traps 0 3) [] [1])++((cond (win c.Post 0 255) [] [2])++((cond (ine c.Post 0) (cond c.Open [] [3]) [])++(cond (ieq c.Traps 2) (cond (ine c.Post 0) [4] []) [])))
@[simp] theorem zbgv {a:Type}(x:a)(l m:List a):ap (x::l) m=x::ap l m:=rfl
@[simp] abbrev zt3 (c:Ctl):Bool:=true
@[simp] abbrev znr (c:Ctl):List Int:=zll c
def zx0:Run:=rF1 dC fun b=>(zt3 b,[aS .int (znr b)])
def zC9 (N:Nat)(b:Ctl):OA:=
 let e:=(aS .int []);let k:=(ap (ap [] [2]) [4]);let j:=(ap (ap [] [1]) [4]);let i:=(aS .int (ap [] [2]));let h:=(aS .int (ap [] [1]));let g:=(ap (ap [] [2]) [3]);let f:=(ap (ap [] [1]) [3]);let c:=(ieq b.Traps 2);let a:=(ine b.Post 0);let d:=(ap (ap [] [1]) [2]);let l:=(aS .int d); (oN (zN b.Traps 0 3) (cond (nB (zT b.Traps 0 3)) (oN (few (ln (ap [] [1]))) (oN (zN b.Post 0 255) (cond (nB (zT b.Post 0 255)) (oN (few (ln d)) (cond a (cond (nB b.Open) (oN (few (ln (ap d [3]))) (cond c (cond a (oN (few (ln (ap (ap d [3]) [4]))) (some [(aS .int (ap (ap d [3]) [4]))])) (some [(aS .int (ap d [3]))])) (some [(aS .int (ap d [3]))]))) (cond c (cond a (oN (few (ln (ap d [4]))) (some [(aS .int (ap d [4]))])) (some [l])) (some [l]))) (cond c (cond a (oN (few (ln (ap d [4]))) (some [(aS .int (ap d [4]))])) (some [l])) (some [l])))) (cond a (cond (nB b.Open) (oN (few (ln f)) (cond c (cond a (oN (few (ln (ap f [4]))) (some [(aS .int (ap f [4]))])) (some [(aS .int f)])) (some [(aS .int f)]))) (cond c (cond a (oN (few (ln j)) (some [(aS .int j)])) (some [h])) (some [h]))) (cond c (cond a (oN (few (ln j)) (some [(aS .int j)])) (some [h])) (some [h])))))) (oN (zN b.Post 0 255) (cond (nB (zT b.Post 0 255)) (oN (few (ln (ap [] [2]))) (cond a (cond (nB b.Open) (oN (few (ln g)) (cond c (cond a (oN (few (ln (ap g [4]))) (some [(aS .int (ap g [4]))])) (some [(aS .int g)])) (some [(aS .int g)]))) (cond c (cond a (oN (few (ln k)) (some [(aS .int k)])) (some [i])) (some [i]))) (cond c (cond a (oN (few (ln k)) (some [(aS .int k)])) (some [i])) (some [i])))) (cond a (cond (nB b.Open) (oN (few (ln (ap [] [3]))) (cond c (cond a (oN (few (ln (ap (ap [] [3]) [4]))) (some [(aS .int (ap (ap [] [3]) [4]))])) (some [(aS .int (ap [] [3]))])) (some [(aS .int (ap [] [3]))]))) (cond c (cond a (oN (few (ln (ap [] [4]))) (some [(aS .int (ap [] [4]))])) (some [e])) (some [e]))) (cond c (cond a (oN (few (ln (ap [] [4]))) (some [(aS .int (ap [] [4]))])) (some [e])) (some [e])))))))
theorem zPt (a:Ctl)(b:zt3 a=true):∃N,zC9 N a=some [aS .int (znr a)]:=by
 refine⟨0,?_⟩;unfold zC9 oN nB;conv=>zeta
 refine must rfl (brN (fun _=>mu (must rfl (brN (fun _=>mu (br (fun _=>brN (fun _=>mu (br (fun _=>br (fun _=>mu ?_) (fun _=>?_)) (fun _=>?_))) (fun _=>br (fun _=>br (fun _=>mu ?_) (fun _=>?_)) (fun _=>?_))) (fun _=>br (fun _=>br (fun _=>mu ?_) (fun _=>?_)) (fun _=>?_)))) (fun _=>br (fun _=>brN (fun _=>mu (br (fun _=>br (fun _=>mu ?_) (fun _=>?_)) (fun _=>?_))) (fun _=>br (fun _=>br (fun _=>mu ?_) (fun _=>?_)) (fun _=>?_))) (fun _=>br (fun _=>br (fun _=>mu ?_) (fun _=>?_)) (fun _=>?_)))))) (fun _=>must rfl (brN (fun _=>mu (br (fun _=>brN (fun _=>mu (br (fun _=>br (fun _=>mu ?_) (fun _=>?_)) (fun _=>?_))) (fun _=>br (fun _=>br (fun _=>mu ?_) (fun _=>?_)) (fun _=>?_))) (fun _=>br (fun _=>br (fun _=>mu ?_) (fun _=>?_)) (fun _=>?_)))) (fun _=>br (fun _=>brN (fun _=>mu (br (fun _=>br (fun _=>mu ?_) (fun _=>?_)) (fun _=>?_))) (fun _=>br (fun _=>br (fun _=>mu ?_) (fun _=>?_)) (fun _=>?_))) (fun _=>br (fun _=>br (fun _=>mu ?_) (fun _=>?_)) (fun _=>?_))))));all_goals first|rfl|(simp only [*,znr,zll,cT,cF]<;>rfl)|simp_all[Ty.cells,znr,zll]
theorem zIm:vN 266 zx0:=kF1 zfL zx zy zn (zo []) zPt
@[simp] abbrev ztE (c:Ctl):Bool:=true
@[simp] abbrev zm8 (c:Ctl):List Int:=zll c
def zxN:Run:=rF1 dC fun b=>(ztE b,[aS .int (zm8 b)])
def zCW (N:Nat)(b:Ctl):OA:=
 let e:=(aS .int []);let k:=(ap (ap [] [2]) [4]);let j:=(ap (ap [] [1]) [4]);let i:=(aS .int (ap [] [2]));let h:=(aS .int (ap [] [1]));let g:=(ap (ap [] [2]) [3]);let f:=(ap (ap [] [1]) [3]);let c:=(ieq b.Traps 2);let a:=(ine b.Post 0);let d:=(ap (ap [] [1]) [2]);let l:=(aS .int d); (oN (zbM b.Traps 0 3) (cond (nB (zbU b.Traps 0 3)) (oN (few (ln (ap [] [1]))) (oN (zbM b.Post 0 255) (cond (nB (zbU b.Post 0 255)) (oN (few (ln d)) (cond a (cond (nB b.Open) (oN (few (ln (ap d [3]))) (cond c (cond a (oN (few (ln (ap (ap d [3]) [4]))) (some [(aS .int (ap (ap d [3]) [4]))])) (some [(aS .int (ap d [3]))])) (some [(aS .int (ap d [3]))]))) (cond c (cond a (oN (few (ln (ap d [4]))) (some [(aS .int (ap d [4]))])) (some [l])) (some [l]))) (cond c (cond a (oN (few (ln (ap d [4]))) (some [(aS .int (ap d [4]))])) (some [l])) (some [l])))) (cond a (cond (nB b.Open) (oN (few (ln f)) (cond c (cond a (oN (few (ln (ap f [4]))) (some [(aS .int (ap f [4]))])) (some [(aS .int f)])) (some [(aS .int f)]))) (cond c (cond a (oN (few (ln j)) (some [(aS .int j)])) (some [h])) (some [h]))) (cond c (cond a (oN (few (ln j)) (some [(aS .int j)])) (some [h])) (some [h])))))) (oN (zbM b.Post 0 255) (cond (nB (zbU b.Post 0 255)) (oN (few (ln (ap [] [2]))) (cond a (cond (nB b.Open) (oN (few (ln g)) (cond c (cond a (oN (few (ln (ap g [4]))) (some [(aS .int (ap g [4]))])) (some [(aS .int g)])) (some [(aS .int g)]))) (cond c (cond a (oN (few (ln k)) (some [(aS .int k)])) (some [i])) (some [i]))) (cond c (cond a (oN (few (ln k)) (some [(aS .int k)])) (some [i])) (some [i])))) (cond a (cond (nB b.Open) (oN (few (ln (ap [] [3]))) (cond c (cond a (oN (few (ln (ap (ap [] [3]) [4]))) (some [(aS .int (ap (ap [] [3]) [4]))])) (some [(aS .int (ap [] [3]))])) (some [(aS .int (ap [] [3]))]))) (cond c (cond a (oN (few (ln (ap [] [4]))) (some [(aS .int (ap [] [4]))])) (some [e])) (some [e]))) (cond c (cond a (oN (few (ln (ap [] [4]))) (some [(aS .int (ap [] [4]))])) (some [e])) (some [e])))))))
theorem zPf (a:Ctl)(b:ztE a=true):∃N,zCW N a=some [aS .int (zm8 a)]:=by
 refine⟨0,?_⟩;unfold zCW oN nB;conv=>zeta
 refine must rfl (brN (fun _=>mu (must rfl (brN (fun _=>mu (br (fun _=>brN (fun _=>mu (br (fun _=>br (fun _=>mu ?_) (fun _=>?_)) (fun _=>?_))) (fun _=>br (fun _=>br (fun _=>mu ?_) (fun _=>?_)) (fun _=>?_))) (fun _=>br (fun _=>br (fun _=>mu ?_) (fun _=>?_)) (fun _=>?_)))) (fun _=>br (fun _=>brN (fun _=>mu (br (fun _=>br (fun _=>mu ?_) (fun _=>?_)) (fun _=>?_))) (fun _=>br (fun _=>br (fun _=>mu ?_) (fun _=>?_)) (fun _=>?_))) (fun _=>br (fun _=>br (fun _=>mu ?_) (fun _=>?_)) (fun _=>?_)))))) (fun _=>must rfl (brN (fun _=>mu (br (fun _=>brN (fun _=>mu (br (fun _=>br (fun _=>mu ?_) (fun _=>?_)) (fun _=>?_))) (fun _=>br (fun _=>br (fun _=>mu ?_) (fun _=>?_)) (fun _=>?_))) (fun _=>br (fun _=>br (fun _=>mu ?_) (fun _=>?_)) (fun _=>?_)))) (fun _=>br (fun _=>brN (fun _=>mu (br (fun _=>br (fun _=>mu ?_) (fun _=>?_)) (fun _=>?_))) (fun _=>br (fun _=>br (fun _=>mu ?_) (fun _=>?_)) (fun _=>?_))) (fun _=>br (fun _=>br (fun _=>mu ?_) (fun _=>?_)) (fun _=>?_))))));all_goals first|rfl|(simp only [*,zm8,zll,cT,cF]<;>rfl)|simp_all[Ty.cells,zm8,zll]
theorem zH9:vN 265 zxN:=kF1 zfL zx zy zn (zo []) zPf
def len8tab:ByteArray:=⟨⟨[0,1,2,2,3,3,3,3,4,4,4,4,4,4,4,4,5,5,5,5,5,5,5,5,5,5,5,5,5,5,5,5,6,6,6,6,6,6,6,6,6,6,6,6,6,6,6,6,6,6,6,6,6,6,6,6,6,6,6,6,6,6,6,6,7,7,7,7,7,7,7,7,7,7,7,7,7,7,7,7,7,7,7,7,7,7,7,7,7,7,7,7,7,7,7,7,7,7,7,7,7,7,7,7,7,7,7,7,7,7,7,7,7,7,7,7,7,7,7,7,7,7,7,7,7,7,7,7,8,8,8,8,8,8,8,8,8,8,8,8,8,8,8,8,8,8,8,8,8,8,8,8,8,8,8,8,8,8,8,8,8,8,8,8,8,8,8,8,8,8,8,8,8,8,8,8,8,8,8,8,8,8,8,8,8,8,8,8,8,8,8,8,8,8,8,8,8,8,8,8,8,8,8,8,8,8,8,8,8,8,8,8,8,8,8,8,8,8,8,8,8,8,8,8,8,8,8,8,8,8,8,8,8,8,8,8,8,8,8,8,8,8,8,8,8,8,8,8,8,8,8,8,8,8,8,8]⟩⟩
def zgJ (p n:Int):Bool:=ieq (wand .i64 (zjh .i64 p n) 1) 1
def scan (p:Int):Int:=bif zgJ p 7 then 7 else (cond (zgJ p 6) 6 (cond (zgJ p 5) 5 (cond (zgJ p 4) 4 (cond (zgJ p 3) 3 (cond (zgJ p 2) 2 (cond (zgJ p 1) 1 (cond (zgJ p 0) 0 (-1))))))))
theorem zba6:∀n:Fin 256,zK .i64 0 (wcv .i64 (byteAt len8tab (wcv .u8 (n.val:Int))))=scan (n.val:Int)+1:=by decide +kernel
theorem zZ3:∀n:Fin 256,-1<=scan (n.val:Int)/\scan (n.val:Int)<=7/\(0<=scan (n.val:Int)->wsub .i64 (n.val:Int) (zkW .i64 1 (scan (n.val:Int)))=zCT .i64 (n.val:Int) (zkW .i64 1 (scan (n.val:Int)))):=by decide +kernel
theorem zF7 {P:Int->Prop}(h:∀n:Fin 256,P (n.val:Int)){x:Int}(a:0<=x)(b:x<=255):P x:=by have:=h ⟨x.toNat,by omega⟩;have e:((x.toNat:Nat):Int)=x:=(by omega);simpa [e] using this
def zm2 (x:Int):Bool:=pc (0<=x/\x<=255)
def zif (x:Int):Int:=scan x+1
def zhE:List AV->Option (Bool×List AV)
 |[.one (.i .u64 b)]=>some ((zm2 b),[aI (zif b)])
 |_=>none
def zmV (N:Nat)(a:Int):OA:=
 let d:=(zjh .u64 a 16);let b:=(zjh .u64 a 32);let c:=(zjh .u64 b 16); (cond (ige a 4294967296) (oN (ile 0 32) (cond (ige b 65536) (oN (ile 0 16) (cond (ige c 256) (oN (ile 0 8) (oN (inb (wcv .u8 (zjh .u64 c 8)) 256) (some [(aI (zK .i64 (zK .i64 (zK .i64 32 16) 8) (wcv .i64 (byteAt len8tab (wcv .u8 (zjh .u64 c 8))))))]))) (oN (inb (wcv .u8 c) 256) (some [(aI (zK .i64 (zK .i64 32 16) (wcv .i64 (byteAt len8tab (wcv .u8 c)))))])))) (cond (ige b 256) (oN (ile 0 8) (oN (inb (wcv .u8 (zjh .u64 b 8)) 256) (some [(aI (zK .i64 (zK .i64 32 8) (wcv .i64 (byteAt len8tab (wcv .u8 (zjh .u64 b 8))))))]))) (oN (inb (wcv .u8 b) 256) (some [(aI (zK .i64 32 (wcv .i64 (byteAt len8tab (wcv .u8 b)))))]))))) (cond (ige a 65536) (oN (ile 0 16) (cond (ige d 256) (oN (ile 0 8) (oN (inb (wcv .u8 (zjh .u64 d 8)) 256) (some [(aI (zK .i64 (zK .i64 (zK .i64 0 16) 8) (wcv .i64 (byteAt len8tab (wcv .u8 (zjh .u64 d 8))))))]))) (oN (inb (wcv .u8 d) 256) (some [(aI (zK .i64 (zK .i64 0 16) (wcv .i64 (byteAt len8tab (wcv .u8 d)))))])))) (cond (ige a 256) (oN (ile 0 8) (oN (inb (wcv .u8 (zjh .u64 a 8)) 256) (some [(aI (zK .i64 (zK .i64 0 8) (wcv .i64 (byteAt len8tab (wcv .u8 (zjh .u64 a 8))))))]))) (oN (inb (wcv .u8 a) 256) (some [(aI (zK .i64 0 (wcv .i64 (byteAt len8tab (wcv .u8 a)))))])))))
theorem zF6 (N:Nat)(a:Int):evalFn (cQ z4o zpF zMx z0j) (zo []) N 12 322 [.one (.i .u64 a)]=zmV N a:=by kernel_rfl
theorem zEt (a:Int)(g:zce big [.one (.i .u64 a)])(f:zm2 a=true):∃N,zmV N a=some [aI (zif a)]:=by
 obtain⟨b,c⟩:=zM.1 f;refine⟨0,?_⟩;unfold zmV oN;conv=>zeta
 refine zcS (qH (by omega)) ?_;refine zcS (qH (by omega)) ?_;refine zcS (qH (by omega)) ?_;have e:inb (wcv .u8 a) 256=true:=zF7 (P:=fun x=>inb (wcv .u8 x) 256=true) (by decide +kernel) b c;refine must e ?_;have d:=zF7 (P:=fun x=>zK .i64 0 (wcv .i64 (byteAt len8tab (wcv .u8 x)))=scan x+1) zba6 b c;rw[d];rfl
theorem zoO:vN 322 zhE:=zX5 zfL zx zy zn (ziG (by kernel_rfl)) fun a d b h=>by unfold zhE at h;split at h;{obtain⟨c,rfl⟩:=zd1 h;exact(zEt _ b c).elim fun N e=>⟨zo [],N,(zF6 N _).trans e⟩};{cases h}
def zbce:zX:=[(119,zGD),(288,zDQ),(306,zDz),(287,zGO),(305,zGr),(330,zKl),(329,zKa),(320,zGF),(312,zGk),(266,zx0),(265,zxN),(322,zhE)]++z4o
theorem zfM:zL zbce:=zh zRx (zh zOL (zh zOu (zh zRI (zh zRl (zh zVv (zh zVi (zh zRz (zh zRe (zh zIm (zh zH9 (zh zoO zfL)))))))))))
def zhD (m:List (List Int))(n:Int):Bool:=bif m.all zcr then ieq (ln m) n else false
@[simp] abbrev ztg (m:List (List Int))(n:Int):Bool:=true
@[simp] abbrev zmH (m:List (List Int))(n:Int):Bool:=zhD m n
def zKm:Run:=rF2 (dS (.sl .int)) dI fun b c=>(ztg b c,[aB (zmH b c)])
def zTY (N:Nat)(c:lM)(d:Int):OA:=
 (iter (σ:=(Int×(Int×(lM×Unit)))) N (fun e a=>let b:=a.2.2.1; (cond (ilt a.2.1 (ln b)) (oN (inb a.2.1 (ln b)) (oN (zf4 (ix b a.2.1 [])) (cond (nB (zfp (ix b a.2.1 []))) oF (e (a.1,((zK .i64 a.2.1 1),(b,()))))))) (some [(aB (ieq (ln b) a.1))]))) (d,(0,(c,()))))
def z2y:FuncId->Nat->Option Tmpl:=zo [(226,0,{n:=22,tm:=[(0,.sl 0 []),(1,ti),(5,ti)],lo:=[],ro:=[(0,(.sl .int),false)]})]
theorem z1z (a:List (List Int))(c:Int)(h:zce big [aS (.sl .int) a,aI c])(k:ztg a c=true):∃N,zTY N a c=some [aB (zmH a c)]:=by
 have g:(_:List _).length<=big:=((zdd h).1 _ (qF.2 rfl)).len;refine zcd fun N f=>?_;unfold zTY oN nB;conv=>zeta
 refine(zbl a (fun i (t:Unit)=>(c,(i:Int),a,())) _ (fun _ x (_:Unit) j=>bif (zcr) x then j () else oF) (fun (t:Unit)=>(some [(.one (.b (ieq (ln a) c)))])) (fun i d t rec=>?_) (fun t rec=>?_) _ () (f g)).trans ?_;{simp only [zbA d,zbh d,zbo d,zbg d g,cT];exact zii rfl};{simp only [zbq,cF]};rw[zgq (zcr)];refine br (fun e=>?_) (fun e=>?_);{first|rfl|(simp only [e,zmH,zhD,cT,cF]<;>rfl)|(simp_all [Ty.cells,zmH,zhD];done)};{first|rfl|(simp only [e,zmH,zhD,cT,cF]<;>rfl)|(simp_all [Ty.cells,zmH,zhD];done)}
theorem zVw:vN 226 zKm:=hF2 zfM zx zy zn z2y z1z
@[simp] abbrev zs3 (m:List (List Int))(n:Int):Bool:=true
@[simp] abbrev zmk (m:List (List Int))(n:Int):Bool:=zhD m n
def zKb:Run:=rF2 (dS (.sl .int)) dI fun b c=>(zs3 b c,[aB (zmk b c)])
def zTN (N:Nat)(c:lM)(d:Int):OA:=
 (iter (σ:=(Int×(Int×(Int×(lM×Unit))))) N (fun e a=>let b:=a.2.2.2.1; (cond (ilt a.2.2.1 a.2.1) (oN (inb a.2.2.1 (ln b)) (oN (zh1 (ix b a.2.2.1 [])) (cond (nB (zgz (ix b a.2.2.1 []))) oF (e (a.1,(a.2.1,((zK .i64 a.2.2.1 1),(b,())))))))) (some [(aB (ieq (ln b) a.1))]))) (d,((ln c),(0,(c,())))))
def z2w:FuncId->Nat->Option Tmpl:=zo [(252,0,{n:=21,tm:=[(0,.sl 0 []),(1,ti),(7,.sl 0 []),(8,ti),(9,ti)],lo:=[],ro:=[(0,(.sl .int),false)]})]
theorem z1m (a:List (List Int))(c:Int)(h:zce big [aS (.sl .int) a,aI c])(k:zs3 a c=true):∃N,zTN N a c=some [aB (zmk a c)]:=by
 have g:(_:List _).length<=big:=((zdd h).1 _ (qF.2 rfl)).len;refine zcd fun N f=>?_;unfold zTN oN nB;conv=>zeta
 refine(zbl a (fun i (t:Unit)=>(c,(ln a),(i:Int),a,())) _ (fun _ x (_:Unit) j=>bif (zcr) x then j () else oF) (fun (t:Unit)=>(some [(.one (.b (ieq (ln a) c)))])) (fun i d t rec=>?_) (fun t rec=>?_) _ () (f g)).trans ?_;{simp only [zbA d,zbh d,zbo d,zbg d g,cT];exact zii rfl};{simp only [zbq,cF]};rw[zgq (zcr)];refine br (fun e=>?_) (fun e=>?_);{first|rfl|(simp only [e,zmk,zhD,cT,cF]<;>rfl)|(simp_all [Ty.cells,zmk,zhD];done)};{first|rfl|(simp only [e,zmk,zhD,cT,cF]<;>rfl)|(simp_all [Ty.cells,zmk,zhD];done)}
theorem zVj:vN 252 zKb:=hF2 zfM zx zy zn z2w z1m
def zda (p:List Ins):Bool:=bif p.all zdU then win (ln p) 1 12 else false
@[simp] abbrev zCx (p:List Ins):Bool:=true
@[simp] abbrev zoC (p:List Ins):Bool:=zda p
def zGQ:Run:=rF1 (dS .ins) fun b=>(zCx b,[aB (zoC b)])
def zNE (N:Nat)(c:lI):OA:=
 (iter (σ:=(Int×(lI×Unit))) N (fun d a=>let b:=(ix a.2.1 a.1 zyM); (cond (ilt a.1 (ln a.2.1)) (oN (inb a.1 (ln a.2.1)) (oN (zG8 b) (cond (nB (zA5 b)) oF (d ((zK .i64 a.1 1),(a.2.1,())))))) (oN (zN (ln a.2.1) 1 12) (some [(aB (zT (ln a.2.1) 1 12))])))) (0,(c,())))
def z0B:FuncId->Nat->Option Tmpl:=zo [(319,0,{n:=19,tm:=[(0,.sl 0 []),(3,ti)],lo:=[],ro:=[(0,.ins,false)]})]
theorem zYW (a:List Ins)(g:zce big [aS .ins a])(j:zCx a=true):∃N,zNE N a=some [aB (zoC a)]:=by
 have f:(_:List _).length<=big:=((zdd g).1 _ (qF.2 rfl)).len;refine zcd fun N e=>?_;unfold zNE oN nB;conv=>zeta
 refine(zbl a (fun i (t:Unit)=>((i:Int),a,())) _ (fun _ x (_:Unit) h=>bif (zdU) x then h () else oF) (fun (t:Unit)=>(cond (zN (ln a) 1 12) (some [(.one (.b (zT (ln a) 1 12)))]) none)) (fun i c t rec=>?_) (fun t rec=>?_) _ () (e f)).trans ?_;{simp only [zbA c,zbh c,zbo c,zbg c f,cT];exact zii rfl};{simp only [zbq,cF]};rw[zgq (zdU)];refine br (fun d=>?_) (fun d=>?_);{refine must rfl ?_;first|rfl|(simp only [d,zoC,zda,cT,cF]<;>rfl)|(simp_all [Ty.cells,zoC,zda];done)};{first|rfl|(simp only [d,zoC,zda,cT,cF]<;>rfl)|(simp_all [Ty.cells,zoC,zda];done)}
theorem zRK:vN 319 zGQ:=hF1 zfM zx zy zn z0B zYW
@[simp] abbrev zB2 (p:List Ins):Bool:=true
@[simp] abbrev zon (p:List Ins):Bool:=zda p
def zGt:Run:=rF1 (dS .ins) fun b=>(zB2 b,[aB (zon b)])
def zNg (N:Nat)(b:lI):OA:=
 (iter (σ:=(Int×(Int×(lI×Unit)))) N (fun d a=>let c:=(ix a.2.2.1 a.2.1 zyM); (cond (ilt a.2.1 a.1) (oN (inb a.2.1 (ln a.2.2.1)) (oN (zFL c) (cond (nB (zz7 c)) oF (d (a.1,((zK .i64 a.2.1 1),(a.2.2.1,()))))))) (oN (zbM (ln a.2.2.1) 1 12) (some [(aB (zbU (ln a.2.2.1) 1 12))])))) ((ln b),(0,(b,()))))
def z0r:FuncId->Nat->Option Tmpl:=zo [(311,0,{n:=18,tm:=[(0,.sl 0 []),(5,.sl 0 []),(6,ti),(7,ti)],lo:=[],ro:=[(0,.ins,false)]})]
theorem zYw (a:List Ins)(g:zce big [aS .ins a])(j:zB2 a=true):∃N,zNg N a=some [aB (zon a)]:=by
 have f:(_:List _).length<=big:=((zdd g).1 _ (qF.2 rfl)).len;refine zcd fun N e=>?_;unfold zNg oN nB;conv=>zeta
 refine(zbl a (fun i (t:Unit)=>((ln a),(i:Int),a,())) _ (fun _ x (_:Unit) h=>bif (zdU) x then h () else oF) (fun (t:Unit)=>(cond (zbM (ln a) 1 12) (some [(.one (.b (zbU (ln a) 1 12)))]) none)) (fun i c t rec=>?_) (fun t rec=>?_) _ () (e f)).trans ?_;{simp only [zbA c,zbh c,zbo c,zbg c f,cT];exact zii rfl};{simp only [zbq,cF]};rw[zgq (zdU)];refine br (fun d=>?_) (fun d=>?_);{refine must rfl ?_;first|rfl|(simp only [d,zon,zda,cT,cF]<;>rfl)|(simp_all [Ty.cells,zon,zda];done)};{first|rfl|(simp only [d,zon,zda,cT,cF]<;>rfl)|(simp_all [Ty.cells,zon,zda];done)}
theorem zRn:vN 311 zGt:=hF1 zfM zx zy zn z0r zYw
def zhA (c:Ctl):Bool:=ieq (ln (zll c)) 0
@[simp] abbrev zte (c:Ctl):Bool:=true
@[simp] abbrev zrr (c:Ctl):Bool:=zhA c
def zKi:Run:=rF1 dC fun b=>(zte b,[aB (zrr b)])
def zTU (N:Nat)(a:Ctl):OA:=
 (oN (zt3 a) (some [(aB (ieq (ln (znr a)) 0))]))
theorem z1v (a:Ctl)(b:zte a=true):∃N,zTU N a=some [aB (zrr a)]:=by refine⟨0,?_⟩;unfold zTU oN;refine must rfl ?_;first|rfl|(simp only [*,zrr,zhA,cT,cF]<;>rfl)|simp_all[Ty.cells,zrr,zhA]
theorem zVs:vN 192 zKi:=kF1 zfM zx zy zn (zo []) z1v
@[simp] abbrev zxw (c:Ctl):Bool:=true
@[simp] abbrev zu5 (c:Ctl):Bool:=zhA c
def zJ9:Run:=rF1 dC fun b=>(zxw b,[aB (zu5 b)])
def zTL (N:Nat)(a:Ctl):OA:=
 (oN (ztE a) (some [(aB (ieq (ln (zm8 a)) 0))]))
theorem z1k (a:Ctl)(b:zxw a=true):∃N,zTL N a=some [aB (zu5 a)]:=by refine⟨0,?_⟩;unfold zTL oN;refine must rfl ?_;first|rfl|(simp only [*,zu5,zhA,cT,cF]<;>rfl)|simp_all[Ty.cells,zu5,zhA]
theorem zVh:vN 190 zJ9:=kF1 zfM zx zy zn (zo []) z1k
def zdi (p:Int):Int:=bif zc7 p then scan p else -1
theorem zTI {x:Int}(a:0<=x)(b:x<=255):wcv .u64 x=x:=zF7 (P:=fun x=>wcv .u64 x=x) (by decide +kernel) a b
@[simp] abbrev zB4 (p:Int):Bool:=true
@[simp] abbrev zq1 (p:Int):Int:=zdi p
def zGx:Run:=rF1 dI fun b=>(zB4 b,[aI (zq1 b)])
def zNk (N:Nat)(a:Int):OA:=
 (oN (zh2 a) (cond (nB (zio a)) (some [(aI (-1))]) (oN (zm2 (wcv .u64 a)) (some [(aI (wsub .i64 (zif (wcv .u64 a)) 1))]))))
theorem zYA (a:Int)(d:zB4 a=true):∃N,zNk N a=some [aI (zq1 a)]:=by refine⟨0,?_⟩;unfold zNk oN nB;refine must rfl ?_;cases h:zc7 a;{refine must (by simp[h]) ?_;simp[zdi,h]};{obtain⟨b,c⟩:=zfv.1 h;have r:=zF7 (P:=fun x=>-1<=scan x/\scan x<=7/\(0<=scan x->wsub .i64 x (zkW .i64 1 (scan x))=zCT .i64 x (zkW .i64 1 (scan x)))) zZ3 b c;refine zcS (by simp[h]) ?_;rw[zTI b c];refine must (zbd ⟨b,c⟩) ?_;have e:wsub .i64 (zif a) 1=scan a:=(by unfold zif;rw[zrJ (by omega) (by omega)];omega);rw[e];simp[zdi,h]}
theorem zRr:vN 296 zGx:=kF1 zfM zx zy zn (zo []) zYA
@[simp] abbrev zuP (p:Int):Bool:=true
@[simp] abbrev zoD (p:Int):Int:=zdi p
def zGV:Run:=rF1 dI fun b=>(zuP b,[aI (zoD b)])
def zNJ (N:Nat)(b:Int):OA:=
 (iter (σ:=(Int×(Int×Unit))) N (fun c a=>(cond (ige a.2.1 0) (oN (zfr a.1) (cond (zfq a.1) (oN (ile 0 (wcv .u64 a.2.1)) (cond (ieq (wand .i64 (zjh .i64 a.1 (wcv .u64 a.2.1)) 1) 1) (some [(aI a.2.1)]) (c (a.1,((wsub .i64 a.2.1 1),()))))) (some [(aI (-1))]))) (some [(aI (-1))]))) (b,(7,())))
def z0D:FuncId->Nat->Option Tmpl:=zo [(297,0,{n:=19,tm:=[(0,ti),(3,ti)],lo:=[],ro:=[]})]
theorem zY1 (a:Int)(C:zuP a=true):∃N,zNJ N a=some [aI (zoD a)]:=by refine⟨10,?_⟩;unfold zNJ oN;cases h:zc7 a;{rw [zdC];refine must rfl ?_;refine must rfl ?_;refine zcS h ?_;simp[zdi,h]};{have c:zfq a=true:=h;rw[zdC];refine must rfl (must rfl (must c (must rfl (br (fun r=>?_) (fun r=>?_)))));{have A:zgJ a 7=true:=r;simp[zdi,h,scan,A]};have b:zgJ a 7=false:=r;show iter 9 _ (a,6,())=_;rw[zdC];refine must rfl (must rfl (must c (must rfl (br (fun q=>?_) (fun q=>?_)))));{have z:zgJ a 6=true:=q;simp[zdi,h,scan,z,b]};have d:zgJ a 6=false:=q;show iter 8 _ (a,5,())=_;rw[zdC];refine must rfl (must rfl (must c (must rfl (br (fun p=>?_) (fun p=>?_)))));{have y:zgJ a 5=true:=p;simp[zdi,h,scan,y,b,d]};have e:zgJ a 5=false:=p;show iter 7 _ (a,4,())=_;rw[zdC];refine must rfl (must rfl (must c (must rfl (br (fun n=>?_) (fun n=>?_)))));{have x:zgJ a 4=true:=n;simp[zdi,h,scan,x,b,d,e]};have f:zgJ a 4=false:=n;show iter 6 _ (a,3,())=_;rw[zdC];refine must rfl (must rfl (must c (must rfl (br (fun m=>?_) (fun m=>?_)))));{have w:zgJ a 3=true:=m;simp[zdi,h,scan,w,b,d,e,f]};have g:zgJ a 3=false:=m;show iter 5 _ (a,2,())=_;rw[zdC];refine must rfl (must rfl (must c (must rfl (br (fun l=>?_) (fun l=>?_)))));{have v:zgJ a 2=true:=l;simp[zdi,h,scan,v,b,d,e,f,g]};have i:zgJ a 2=false:=l;show iter 4 _ (a,1,())=_;rw[zdC];refine must rfl (must rfl (must c (must rfl (br (fun k=>?_) (fun k=>?_)))));{have u:zgJ a 1=true:=k;simp[zdi,h,scan,u,b,d,e,f,g,i]};have s:zgJ a 1=false:=k;show iter 3 _ (a,0,())=_;rw[zdC];refine must rfl (must rfl (must c (must rfl (br (fun j=>?_) (fun j=>?_)))));{have t:zgJ a 0=true:=j;simp[zdi,h,scan,t,b,d,e,f,g,i,s]};have B:zgJ a 0=false:=j;show iter 2 _ (a,-1,())=_;rw[zdC];refine zcS rfl ?_;simp[zdi,h,scan,b,d,e,f,g,i,s,B]}
theorem zRP:vN 297 zGV:=kF1 zfM zx zy zn z0D zY1
theorem zbL {c:Cur}{i k:Int}(h:zbc c)(a:0<=i):zbc ⟨c.b,i,k⟩:=⟨a,h.2⟩
theorem z3r {c:Cur}(h:zbc c){l:List Int}(a:l≠[]):zbj c l∈l:=(zA7 (zd6 h a)).2.2 (kR.2 a)
theorem zfK {c:Cur}(h:zbc c){n:Int}(a:0<n):0<=zk c n/\zk c n<n:=(zht (zbt h n)).2.2 a
theorem zPb {o x:Int}(h:(o=1\/o=2\/o=5\/o=6)/\0<=x/\x<=99\/(o=3\/o=4)/\0<=x/\x<=15\/o=8/\0<=x/\x<=11):zdU ⟨o,x⟩=true:=by have w:∀{a b:Int},a<=x->x<=b->win x a b=true:=fun c d=>(by simp only[win,ige,ile,qD,qX];exact⟨c,d⟩);rcases h with⟨h|h|h|h,c,d⟩|⟨h|h,c,d⟩|⟨h,c,d⟩<;>subst h<;>exact w c d
def zBl (N:Nat)(c:Cur)  : OA :=
 let d:=(zbj c [1,2,3,3,3,4,4,4,5,6,8]);let a:=({ (zW c [1,2,3,3,3,4,4,4,5,6,8]) with b:=c.b}:Cur); (share (oN (zA a 16) (some [(.agg [(.s .u8 c.b),(.i .i64 (zf a 16).i),(.i .i64 (zf a 16).h)]),(.agg [(.i .i64 d),(.i .i64 (zk a 16))])])) (fun f=>(share (cond (ieq d 8) (oN (zA a 4) (some [(.agg [(.s .u8 c.b),(.i .i64 (zf a 4).i),(.i .i64 (zf a 4).h)]),(.agg [(.i .i64 d),(.i .i64 (zk a 4))])])) (oN (zA a 100) (some [(.agg [(.s .u8 c.b),(.i .i64 (zf a 100).i),(.i .i64 (zf a 100).h)]),(.agg [(.i .i64 d),(.i .i64 (zk a 100))])]))) (fun e=>(oN (zbm c [1,2,3,3,3,4,4,4,5,6,8]) (cond (ieq d 3) (cond (ieq d 3) f e) (cond (ieq d 4) f e)))))))
def zsv (c:Cur)(s:Cur)(a:Ins):Prop:=(∃N,zBl N c=some (AV.agg (zbT s)::[aT .ins a]))/\(s.b=c.b/\0<=s.i)/\(zdU a=true)
def zj0 (c:Cur)  : Bool:=wC (zsv c)
def zf8 (c:Cur)  : Cur:=wS (zsv c)
def zfW (c:Cur)  : Ins:=wV (zsv c)
theorem zQc {c:Cur}(h:zj0 c=true):zsv c (zf8 c) (zfW c):=wG h
theorem zCD (c:Cur)  : 0<=(zf8 c).i:=wP fun h=>h.2.1.2
theorem z5J (c:Cur)(h:∃N,Ends (wE (fun a=>aT .ins a) c.b fun a=>zdU a=true) (zBl N c)):zj0 c=true:=wI (fun _ _ h=>h) h
def zDo:zdr:=rP0 fun c=>(zj0 c,zf8 c,[aT .ins (zfW c)])
theorem zRV:zbN Tryz.prog 304 [false,true,true] zDo:=hP0 zdR zU zZq zn (zo []) (fun _ h=>(zQc h).1)
theorem zWX {c:Cur}(h:zbc c):zj0 c=true:=by
 refine z5J c ⟨0,?_⟩;have p:([1,2,3,3,3,4,4,4,5,6,8]:List Int)≠[]:=(by simp);have q:=z3r h p;have f:zbc {zW c [1,2,3,3,3,4,4,4,5,6,8] with b:=c.b}:=zbL h (zbP _ _);have t:=zfK f (n:=16) (by omega);have w:=zfK f (n:=4) (by omega);have m:=zfK f (n:=100) (by omega);unfold zBl oN;conv=>zeta
 generalize zbj c [1,2,3,3,3,4,4,4,5,6,8]=o at q;simp only[qG,qN,or_false]at q;have j:∀{n:Int},ieq o n=false->o≠n:=fun h e=>(by subst e;simp[ieq]at h);have k:∀{n:Int},ieq o n=true->o=n:=fun h=>by simpa [ieq] using h
 have L:∀(n:Int),0<n->(zdU ⟨o,zk {zW c [1,2,3,3,3,4,4,4,5,6,8] with b:=c.b} n⟩=true)->Ends (fun a=>∃s r,a=(AV.agg (zbT s)::[aT .ins r])/\(s.b=c.b/\0<=s.i)/\zdU r=true)
  (cond (zA {zW c [1,2,3,3,3,4,4,4,5,6,8] with b:=c.b} n) (some (AV.agg [.s .u8 c.b,.i .i64 (zf {zW c [1,2,3,3,3,4,4,4,5,6,8] with b:=c.b} n).i,.i .i64 (zf {zW c [1,2,3,3,3,4,4,4,5,6,8] with b:=c.b} n).h]::[.agg [.i .i64 o,.i .i64 (zk {zW c [1,2,3,3,3,4,4,4,5,6,8] with b:=c.b} n)]])) none):=
  fun n x u=>zq (zbt f n) (zbF (aT .ins) (v:=⟨o,zk _ n⟩) (zF _ _) u)
 refine zq (zd6 h p) (zbE (fun g=>zbE (fun _=>L 16 (by omega) (zPb ?_)) (fun d=>absurd (k g) (j d))) (fun g=>zbE (fun d=>L 16 (by omega) (zPb ?_)) (fun d=>zbE (fun l=>L 4 (by omega) (zPb ?_)) (fun l=>L 100 (by omega) (zPb ?_)))));{have:=k g;omega};{have:=k d;omega};{have:=k l;omega};{have:=j g;have:=j d;have:=j l;omega}
def zbcO:zcJ:=[(304,([false,true,true],zDo))]++zbcN
theorem zZr:zb2 zbcO:=zcv zZq (by
 intro x a;simp only[qG,qN,or_false]at a;rcases a with rfl
 .exact zRV)
theorem zhg {x y:Int}(a:0<=x)(b:x<=1000000)(c:0<=y)(d:y<=1000000):zK .i64 x y=x+y:=zvf (by omega) (by omega)
theorem zlo {a:Type}{l:List a}(h:ln l<=1000000):few (ln l)=true:=qJ ⟨by unfold ln;omega,by omega⟩
theorem zhC {a:Type}(l:List a)(x:a):ln (ap l [x])=ln l+1:=by simp[ln,ap]
def zyR (N:Nat)(c:Cur)  : OA :=
 (iter (σ:=(Int×(Int×(Int×(lI×((List Int)×Unit)))))) N (fun j d=>let e:=d.2.2.2.1;let f:=d.2.2.2.2.1;let g:=(⟨f,d.2.1,d.2.2.1⟩:Cur);let a:=({ (zf g 7) with b:=f}:Cur); (oN (zA g 7) (cond (ilt d.1 (zK .i64 2 (zk g 7))) (oN (zj0 a) (oN (few (ln (ap e [(zfW a)]))) (j ((zK .i64 d.1 1),((zf8 a).i,((zf8 a).h,((ap e [(zfW a)]),(f,())))))))) (oN (zcL a 3) (cond (zc0 a 3) (oN (few (ln (ap e [(⟨7,0⟩:Ins)]))) (some [(.agg [(.s .u8 f),(.i .i64 (zO a 3).i),(.i .i64 (zO a 3).h)]),(aS .ins (ap e [(⟨7,0⟩:Ins)]))])) (oN (few (ln (ap e [(⟨8,0⟩:Ins)]))) (some [(.agg [(.s .u8 f),(.i .i64 (zO a 3).i),(.i .i64 (zO a 3).h)]),(aS .ins (ap e [(⟨8,0⟩:Ins)]))]))))))) (0,(c.i,(c.h,([],(c.b,()))))))
def zWN:FuncId->Nat->Option Tmpl:=zo [(302,0,{n:=29,tm:=[(0,.lp 0 0),(3,.sl 0 []),(4,ti)],lo:=[(0,[.sl 1 [],ti,ti])],ro:=[(0,.ins,true),(1,.u8,false)]})]
def zqo (c:Cur)(s:Cur)(a:List Ins):Prop:=(∃N,zyR N c=some (AV.agg (zbT s)::[aS .ins a]))/\(s.b=c.b/\0<=s.i)/\(zda a=true)
def zgX (c:Cur)  : Bool:=wC (zqo c)
def zZ (c:Cur)  : Cur:=wS (zqo c)
def zb5 (c:Cur)  : List Ins:=wV (zqo c)
theorem zsw {c:Cur}(h:zgX c=true):zqo c (zZ c) (zb5 c):=wG h
theorem ziB (c:Cur)  : 0<=(zZ c).i:=wP fun h=>h.2.1.2
theorem z18 (c:Cur)(h:∃N,Ends (wE (fun a=>aS .ins a) c.b fun a=>zda a=true) (zyR N c)):zgX c=true:=wI (fun _ _ h=>h) h
def zAp:zdr:=rP0 fun c=>(zgX c,zZ c,[aS .ins (zb5 c)])
theorem zOU:zbN Tryz.prog 302 [false,true,true] zAp:=hP0 zdR zU zZr zn zWN (fun _ h=>(zsw h).1)
theorem zGc {c:Cur}(h:zbc c):zgX c=true:=by
 refine z18 c ⟨9,?_⟩;unfold zyR oN;conv=>zeta
 refine zm7 (fun n s=>s.1+(n:Int)=8/\0<=s.1/\0<=s.2.1/\(∀x∈s.2.2.2.1,zdU x=true)/\ln s.2.2.2.1=s.1/\s.2.2.2.2.1=c.b) ?_ 9 8 _ ⟨rfl,kS 0,h.1,by simp,rfl,rfl⟩ (by omega);rintro n ⟨t,i,k,l,b,u⟩ rec ⟨B,g,v,j,w,z⟩ f;dsimp only at B g v j w z ⊢;subst z;have a:zbc ⟨c.b,i,k⟩:=zbL h v;have d:=zfK a (n:=7) (by omega);have A:=zhg (x:=2) (by omega) (by omega) d.1 (by omega);have m:zbc {zf ⟨c.b,i,k⟩ 7 with b:=c.b}:=zbL h (zF _ _);have e:∀(y:Ins),zdU y=true->2<=t->zda (ap l [y])=true:=(by intro y C D;unfold zda;rw[zhC,w];have:(ap l [y]).all zdU=true:=(by simp only[ap,List.all_append,kW,List.all_nil,vD,qD];exact⟨qM.2 j,C⟩);rw[this,cT];simp only[win,ige,ile,qD,qX];omega);refine zq (zbt a 7) (zbE (fun p=>?_) (fun p=>?_));{have r:t<zK .i64 2 (zk ⟨c.b,i,k⟩ 7):=qE p;rw[A]at r;refine zq (zWX m) (zq (zlo (by rw[zhC];omega)) (f (n-1) _ (by omega) ⟨?_,?_,zCD _,?_,?_,rfl⟩));{show zK .i64 t 1+_=8;rw[zhg g (by omega) (by omega) (by omega)];omega};{show 0<=zK .i64 t 1;rw[zhg g (by omega) (by omega) (by omega)];omega};{intro x d;rcases jJ.1 d with d|d;{exact j x d};{rw [qF.1 d];exact(zQc (zWX m)).2.2}};{show ln (ap l [_])=zK .i64 t 1;rw[zhC,zhg g (by omega) (by omega) (by omega)];omega}};{have q:¬ t<zK .i64 2 (zk ⟨c.b,i,k⟩ 7):=jT p;rw[A]at q;refine zq (zi0 m 3) (zbE (fun _=>zq (zlo (by rw[zhC];omega)) (zbF (aS .ins) (zcm _ _) (e _ rfl (by omega)))) (fun _=>zq (zlo (by rw[zhC];omega)) (zbF (aS .ins) (zcm _ _) (e _ rfl (by omega)))))}
def zbcP:zcJ:=[(302,([false,true,true],zAp))]++zbcO
theorem zZs:zb2 zbcP:=zcv zZr (by
 intro x a;simp only[qG,qN,or_false]at a;rcases a with rfl
 .exact zOU)
theorem z0M {f:Type}{c:Cur}(h:zbc c){P:f->Prop}{fc:Cur->Bool}{fs:Cur->Cur}{fv:Cur->f}(C:∀{c:Cur},zbc c->fc c=true)(D:∀c,0<=(fs c).i)(hg:∀{c:Cur},zbc c->P (fv c)){G:Ans->Prop}{R:Cur->List f->Ans}(B:∀s l,s.b=c.b->0<=s.i->1<=l.length->l.length<=2->(∀x∈l,P x)->G (R s l)){F:(Int×Int×Int×List f×List Int×Unit->OA)->Int×Int×Int×List f×List Int×Unit->OA}(A:∀rec t i k l,F rec (t,i,k,l,c.b,())=bif zA ⟨c.b,i,k⟩ 2 then (bif ilt t (zK .i64 1 (zk ⟨c.b,i,k⟩ 2)) then (bif fc { zf ⟨c.b,i,k⟩ 2 with b:=c.b } then (bif few (ln (ap l [fv { zf ⟨c.b,i,k⟩ 2 with b:=c.b }])) then
        rec (zK .i64 t 1,(fs {zf ⟨c.b,i,k⟩ 2 with b:=c.b}).i,(fs {zf ⟨c.b,i,k⟩ 2 with b:=c.b}).h,ap l [fv {zf ⟨c.b,i,k⟩ 2 with b:=c.b}],c.b,()) else none) else none) else some (R ⟨c.b,(zf ⟨c.b,i,k⟩ 2).i,(zf ⟨c.b,i,k⟩ 2).h⟩ l)) else none) :
 Ends G (iter 3 F (0,c.i,c.h,[],c.b,())):=by
 refine zm7 (fun n s=>s.1+(n:Int)=2/\0<=s.1/\0<=s.2.1/\(∀x∈s.2.2.2.1,P x)/\ln s.2.2.2.1=s.1/\s.2.2.2.2.1=c.b) ?_ 3 2 _ ⟨rfl,kS 0,h.1,by simp,rfl,rfl⟩ (by omega)
 rintro n ⟨t,i,k,l,b,u⟩ rec ⟨z,m,p,g,q,r⟩ e
 dsimp only at z m p g q r
 subst r;rw[A];have a:zbc ⟨c.b,i,k⟩:=zbL h p;have d:=zfK a (n:=2) (by omega)
 have w:=zhg (x:=1) (by omega) (by omega) d.1 (by omega)
 have v:zbc {zf ⟨c.b,i,k⟩ 2 with b:=c.b}:=zbL h (zF _ _);refine zq (zbt a 2) (zbE (fun j=>?_) (fun j=>?_))
 .have hlt:t<zK .i64 1 (zk ⟨c.b,i,k⟩ 2):=qE j;rw[w]at hlt;have E:=zhg (y:=1) m (by omega) (by omega) (by omega)
  refine zq (C v) (zq (zlo (by rw[zhC];omega)) (e (n-1) _ (by omega) ⟨?_,?_,D _,?_,?_,rfl⟩))
  .show zK .i64 t 1+_=2
   omega
  .show 0<=zK .i64 t 1
   omega
  .intro x d;rcases jJ.1 d with d|d
   .exact g x d
   .rw [qF.1 d];exact hg v
  .show ln (ap l [_])=zK .i64 t 1
   rw[zhC];omega
 .have hge:¬ t<zK .i64 1 (zk ⟨c.b,i,k⟩ 2):=jT j;rw[w]at hge;unfold ln at q;exact zvx (B _ l rfl (zF _ _) (by omega) (by omega) g)
def zvo (N:Nat)(c:Cur)  : OA :=
 (iter (σ:=(Int×(Int×(Int×(lP×((List Int)×Unit)))))) N (fun g a=>let f:=a.2.2.2.2.1;let e:=(⟨f,a.2.1,a.2.2.1⟩:Cur);let d:=({ (zf e 2) with b:=f}:Cur); (oN (zA e 2) (cond (ilt a.1 (zK .i64 1 (zk e 2))) (oN (zgX d) (oN (few (ln (ap a.2.2.2.1 [(zb5 d)]))) (g ((zK .i64 a.1 1),((zZ d).i,((zZ d).h,((ap a.2.2.2.1 [(zb5 d)]),(f,())))))))) (some [(.agg [(.s .u8 f),(.i .i64 (zf e 2).i),(.i .i64 (zf e 2).h)]),(aS (.sl .ins) a.2.2.2.1)])))) (0,(c.i,(c.h,([],(c.b,()))))))
def zTB:FuncId->Nat->Option Tmpl:=zo [(299,0,{n:=19,tm:=[(0,.lp 0 0),(3,.sl 0 []),(4,ti)],lo:=[(0,[.sl 1 [],ti,ti])],ro:=[(0,(.sl .ins),true),(1,.u8,false)]})]
def zoa (c:Cur)(s:Cur)(a:List (List Ins)):Prop:=(∃N,zvo N c=some (AV.agg (zbT s)::[aS (.sl .ins) a]))/\(s.b=c.b/\0<=s.i)/\(1<=a.length/\a.length<=2/\∀x∈a,zda x=true)
def zjc (c:Cur)  : Bool:=wC (zoa c)
def zjd (c:Cur)  : Cur:=wS (zoa c)
def zqy (c:Cur)  : List (List Ins):=wV (zoa c)
theorem zHd {c:Cur}(h:zjc c=true):zoa c (zjd c) (zqy c):=wG h
theorem zZZ (c:Cur)  : 0<=(zjd c).i:=wP fun h=>h.2.1.2
theorem zZY (c:Cur)(h:∃N,Ends (wE (fun a=>aS (.sl .ins) a) c.b fun a=>1<=a.length/\a.length<=2/\∀x∈a,zda x=true) (zvo N c)):zjc c=true:=wI (fun _ _ h=>h) h
def zxK:zdr:=rP0 fun c=>(zjc c,zjd c,[aS (.sl .ins) (zqy c)])
theorem zL1:zbN Tryz.prog 299 [false,true,true] zxK:=hP0 zdR zU zZs zn zTB (fun _ h=>(zHd h).1)
theorem z3t {c:Cur}(h:zbc c):zjc c=true:=by
 refine zZY c ⟨3,?_⟩;unfold zvo oN;conv=>zeta
 exact z0M h (P:=fun x=>zda x=true) (fc:=zgX) (fs:=zZ) (fv:=zb5) (R:=fun s l=>AV.agg (zbT s)::[aS (.sl .ins) l]) zGc ziB (fun h=>(zsw (zGc h)).2.2) (fun s l d e a b f=>⟨s,l,rfl,⟨d,e⟩,a,b,f⟩) (fun rec t i k l=>rfl)
def zbcQ:zcJ:=[(299,([false,true,true],zxK))]++zbcP
theorem zZt:zb2 zbcQ:=zcv zZs (by
 intro x a;simp only[qG,qN,or_false]at a;rcases a with rfl
 .exact zL1)
def zBr (N:Nat)(c:Cur)  : OA :=
 (iter (σ:=(Int×(Int×(Int×(lQ×((List Int)×Unit)))))) N (fun g a=>let f:=a.2.2.2.2.1;let e:=(⟨f,a.2.1,a.2.2.1⟩:Cur);let d:=({ (zf e 2) with b:=f}:Cur); (oN (zA e 2) (cond (ilt a.1 (zK .i64 1 (zk e 2))) (oN (zjc d) (oN (few (ln (ap a.2.2.2.1 [(zqy d)]))) (g ((zK .i64 a.1 1),((zjd d).i,((zjd d).h,((ap a.2.2.2.1 [(zqy d)]),(f,())))))))) (some [(.agg [(.s .u8 f),(.i .i64 (zf e 2).i),(.i .i64 (zf e 2).h)]),(aS (.sl (.sl .ins)) a.2.2.2.1)])))) (0,(c.i,(c.h,([],(c.b,()))))))
def z0H:FuncId->Nat->Option Tmpl:=zo [(241,0,{n:=19,tm:=[(0,.lp 0 0),(3,.sl 0 []),(4,ti)],lo:=[(0,[.sl 1 [],ti,ti])],ro:=[(0,(.sl (.sl .ins)),true),(1,.u8,false)]})]
def zsD (c:Cur)(s:Cur)(a:List (List (List Ins))):Prop:=(∃N,zBr N c=some (AV.agg (zbT s)::[aS (.sl (.sl .ins)) a]))/\(s.b=c.b/\0<=s.i)/\(1<=a.length/\a.length<=2/\∀p∈a,1<=p.length/\p.length<=2/\∀x∈p,zda x=true)
def zqA (c:Cur)  : Bool:=wC (zsD c)
def zmS (c:Cur)  : Cur:=wS (zsD c)
def zwF (c:Cur)  : List (List (List Ins)):=wV (zsD c)
theorem zQf {c:Cur}(h:zqA c=true):zsD c (zmS c) (zwF c):=wG h
theorem z5X (c:Cur)  : 0<=(zmS c).i:=wP fun h=>h.2.1.2
theorem z5W (c:Cur)(h:∃N,Ends (wE (fun a=>aS (.sl (.sl .ins)) a) c.b fun a=>1<=a.length/\a.length<=2/\∀p∈a,1<=p.length/\p.length<=2/\∀x∈p,zda x=true) (zBr N c)):zqA c=true:=wI (fun _ _ h=>h) h
def zDu:zdr:=rP0 fun c=>(zqA c,zmS c,[aS (.sl (.sl .ins)) (zwF c)])
theorem zR1:zbN Tryz.prog 241 [false,true,true] zDu:=hP0 zdR zU zZt zn z0H (fun _ h=>(zQf h).1)
theorem zbbu {c:Cur}(h:zbc c):zqA c=true:=by
 refine z5W c ⟨3,?_⟩;unfold zBr oN;conv=>zeta
 exact z0M h (P:=fun p=>1<=p.length/\p.length<=2/\∀x∈p,zda x=true) (fc:=zjc) (fs:=zjd) (fv:=zqy) (R:=fun s l=>AV.agg (zbT s)::[aS (.sl (.sl .ins)) l]) z3t zZZ (fun h=>(zHd (z3t h)).2.2) (fun s l d e a b f=>⟨s,l,rfl,⟨d,e⟩,a,b,f⟩) (fun rec t i k l=>rfl)
def zbcR:zcJ:=[(241,([false,true,true],zDu))]++zbcQ
theorem zZu:zb2 zbcR:=zcv zZt (by
 intro x a;simp only[qG,qN,or_false]at a;rcases a with rfl
 .exact zR1)
theorem zHG {c:Type}{G:c->Prop}{x:Bool}{a b:Option c}(k:Ends G a)(h:x=true:=by first
 |exact zbt (by first|assumption|exact zbL (by assumption) (zF _ _)|exact zbL (by assumption) (zcm _ _)|exact zbL (by assumption) (zbP _ _)) _
 |exact zi0 (by first|assumption|exact zbL (by assumption) (zF _ _)|exact zbL (by assumption) (zcm _ _)) _
 |exact zd6 (by first|assumption|exact zbL (by assumption) (zF _ _)) (by simp)):Ends G (cond x a b):=zq h k
def zBn (N:Nat)(c:Cur)  : OA :=
 let f:=(zk c 4);let j:=({ (zf c 4) with b:=c.b}:Cur);let e:=(zc0 j 4);let d:=(zO j 4);let a:=({d with b:=c.b}:Cur);let g:=({ (zO a 2) with b:=c.b}:Cur); (oN (zA c 4) (oN (zcL j 4) (cond (nB e) (cond (ine f 2) (oN (zcL a 2) (cond (zc0 a 2) (oN (zA g 256) (some [(.agg [(.s .u8 c.b),(.i .i64 (zf g 256).i),(.i .i64 (zf g 256).h)]),(.agg [(.i .i64 f),(.i .i64 (zk g 256)),(.b (nB e))])])) (some [(.agg [(.s .u8 c.b),(.i .i64 (zO a 2).i),(.i .i64 (zO a 2).h)]),(.agg [(.i .i64 f),(.i .i64 0),(.b (nB e))])]))) (some [(.agg [(.s .u8 c.b),(.i .i64 d.i),(.i .i64 d.h)]),(.agg [(.i .i64 f),(.i .i64 0),(.b (nB e))])])) (some [(.agg [(.s .u8 c.b),(.i .i64 d.i),(.i .i64 d.h)]),(.agg [(.i .i64 f),(.i .i64 0),(.b (nB e))])]))))
def zsy (c:Cur)(s:Cur)(a:Ctl):Prop:=(∃N,zBn N c=some (AV.agg (zbT s)::[.agg (zpd a)]))/\(s.b=c.b/\0<=s.i)/\(True)
def zj1 (c:Cur)  : Bool:=wC (zsy c)
def zcj (c:Cur)  : Cur:=wS (zsy c)
def zcD (c:Cur)  : Ctl:=wV (zsy c)
theorem z5N {c:Cur}(h:zj1 c=true):zsy c (zcj c) (zcD c):=wG h
theorem zCF (c:Cur)  : 0<=(zcj c).i:=wP fun h=>h.2.1.2
theorem z5O (c:Cur)(h:∃N,Ends (wE (fun a=>.agg (zpd a)) c.b fun a=>True) (zBn N c)):zj1 c=true:=wI (fun _ _ h=>h) h
def zDq:zdr:=rP0 fun c=>(zj1 c,zcj c,[.agg (zpd (zcD c))])
theorem zRX:zbN Tryz.prog 189 [false,true,true] zDq:=hP0 zdR zU zZu zn (zo []) (fun _ h=>(z5N h).1)
theorem z4l {c:Cur}(h:zbc c):zj1 c=true:=by
 refine z5O c ⟨0,?_⟩;unfold zBn oN nB;conv=>zeta
 refine zHG (zHG (zbE (fun _=>zbE (fun _=>zHG (zbE (fun _=>zHG (?_)) (fun _=>?_))) (fun _=>?_)) (fun _=>?_)));all_goals exact zbF (fun x=>AV.agg (zpd x)) (v:=⟨_,_,_⟩) (by first|exact zF _ _|exact zcm _ _) trivial
def zbcS:zcJ:=[(189,([false,true,true],zDq))]++zbcR
theorem zMz:zb2 zbcS:=zcv zZu (by
 intro x a;simp only[qG,qN,or_false]at a;rcases a with rfl
 .exact zRX)
theorem zdY {c:Type}{G:c->Prop}{x:Bool}{a b:Option c}(k:Ends G a)(h:x=true:=by first
 |exact zbt (by first|assumption|exact zbL (by assumption) (zF _ _)|exact zbL (by assumption) (zbP _ _)) _
 |exact zd6 (by first|assumption|exact zbL (by assumption) (zF _ _)) (by simp)
 |exact z4l (zbL (by assumption) (zF _ _))):Ends G (cond x a b):=zq h k
def zBu (N:Nat)(c:Cur)  : OA :=
 let m:=({ (zf c 2) with b:=c.b}:Cur);let g:=(zk c 2);let f:=(zk m 2);let u:=({ (zf m 2) with b:=c.b}:Cur);let e:=(zf u 24);let d:=(zk u 24);let a:=({e with b:=c.b}:Cur);let j:=(zf a 8);let l:=({ (zf a 4) with b:=c.b}:Cur);let k:=({j with b:=c.b}:Cur);let t:=({ (zf a 16) with b:=c.b}:Cur);let r:=({ (zW a [16,17]) with b:=c.b}:Cur);let q:=({ (zW a [13,13,14,15]) with b:=c.b}:Cur);let p:=({ (zf k 4) with b:=c.b}:Cur);let n:=({ (zf l 8) with b:=c.b}:Cur); (share (oN (zbm a [13,13,14,15]) (oN (zA q 8) (some [(.agg [(.s .u8 c.b),(.i .i64 (zf q 8).i),(.i .i64 (zf q 8).h)]),(.agg [(.i .i64 (zbj a [13,13,14,15])),(.i .i64 g),(.i .i64 f),(.i .i64 (zk q 8)),(.i .i64 0),(.i .i64 0)])]))) (fun A=>(share (cond (ieq d 16) (oN (zbm a [16,17]) (oN (zA r 4) (some [(.agg [(.s .u8 c.b),(.i .i64 (zf r 4).i),(.i .i64 (zf r 4).h)]),(.agg [(.i .i64 (zbj a [16,17])),(.i .i64 g),(.i .i64 f),(.i .i64 (zk r 4)),(.i .i64 0),(.i .i64 0)])]))) (some [(.agg [(.s .u8 c.b),(.i .i64 e.i),(.i .i64 e.h)]),(.agg [(.i .i64 1),(.i .i64 g),(.i .i64 f),(.i .i64 0),(.i .i64 0),(.i .i64 0)])])) (fun z=>(share (oN (zA a 4) (oN (zA l 8) (oN (zbm n [3,3,1,2]) (some [(.agg [(.s .u8 c.b),(.i .i64 (zW n [3,3,1,2]).i),(.i .i64 (zW n [3,3,1,2]).h)]),(.agg [(.i .i64 2),(.i .i64 g),(.i .i64 f),(.i .i64 (zk a 4)),(.i .i64 (zk l 8)),(.i .i64 (zbj n [3,3,1,2]))])])))) (fun y=>(share (oN (zA a 4) (some [(.agg [(.s .u8 c.b),(.i .i64 (zf a 4).i),(.i .i64 (zf a 4).h)]),(.agg [(.i .i64 3),(.i .i64 g),(.i .i64 f),(.i .i64 (zk a 4)),(.i .i64 0),(.i .i64 0)])])) (fun x=>(share (cond (ieq d 7) (oN (zA a 8) (some [(.agg [(.s .u8 c.b),(.i .i64 j.i),(.i .i64 j.h)]),(.agg [(.i .i64 6),(.i .i64 g),(.i .i64 f),(.i .i64 (zk a 8)),(.i .i64 0),(.i .i64 0)])])) (cond (ieq d 8) (oN (zj1 a) (cond ((zcD a).Open) (some [(.agg [(.s .u8 c.b),(.i .i64 (zcj a).i),(.i .i64 (zcj a).h)]),(.agg [(.i .i64 7),(.i .i64 g),(.i .i64 f),(.i .i64 (zcD a).Traps),(.i .i64 (zcD a).Post),(.i .i64 1)])]) (some [(.agg [(.s .u8 c.b),(.i .i64 (zcj a).i),(.i .i64 (zcj a).h)]),(.agg [(.i .i64 7),(.i .i64 g),(.i .i64 f),(.i .i64 (zcD a).Traps),(.i .i64 (zcD a).Post),(.i .i64 0)])]))) (cond (ieq d 9) (oN (zA a 8) (oN (zA k 4) (oN (zA p 100) (some [(.agg [(.s .u8 c.b),(.i .i64 (zf p 100).i),(.i .i64 (zf p 100).h)]),(.agg [(.i .i64 8),(.i .i64 g),(.i .i64 f),(.i .i64 (zk a 8)),(.i .i64 (zk k 4)),(.i .i64 (zk p 100))])])))) (cond (ieq d 10) (oN (zA a 8) (some [(.agg [(.s .u8 c.b),(.i .i64 j.i),(.i .i64 j.h)]),(.agg [(.i .i64 9),(.i .i64 g),(.i .i64 f),(.i .i64 (zk a 8)),(.i .i64 0),(.i .i64 0)])])) (cond (ieq d 11) (some [(.agg [(.s .u8 c.b),(.i .i64 e.i),(.i .i64 e.h)]),(.agg [(.i .i64 10),(.i .i64 g),(.i .i64 f),(.i .i64 0),(.i .i64 0),(.i .i64 0)])]) (cond (ieq d 12) (oN (zA a 16) (oN (zA t 100) (some [(.agg [(.s .u8 c.b),(.i .i64 (zf t 100).i),(.i .i64 (zf t 100).h)]),(.agg [(.i .i64 11),(.i .i64 g),(.i .i64 f),(.i .i64 (zk a 16)),(.i .i64 (zk t 100)),(.i .i64 0)])]))) (cond (ieq d 13) (oN (zA a 16) (some [(.agg [(.s .u8 c.b),(.i .i64 (zf a 16).i),(.i .i64 (zf a 16).h)]),(.agg [(.i .i64 12),(.i .i64 g),(.i .i64 f),(.i .i64 (zk a 16)),(.i .i64 0),(.i .i64 0)])])) (cond (ieq d 14) (cond (ieq d 14) A z) (cond (ieq d 15) A z))))))))) (fun v=>(share (cond (ieq d 4) (oN (zA a 100) (some [(.agg [(.s .u8 c.b),(.i .i64 (zf a 100).i),(.i .i64 (zf a 100).h)]),(.agg [(.i .i64 4),(.i .i64 g),(.i .i64 f),(.i .i64 (zk a 100)),(.i .i64 0),(.i .i64 0)])])) (cond (ieq d 5) (cond (ieq d 5) (some [(.agg [(.s .u8 c.b),(.i .i64 e.i),(.i .i64 e.h)]),(.agg [(.i .i64 5),(.i .i64 g),(.i .i64 f),(.i .i64 0),(.i .i64 0),(.i .i64 0)])]) v) (cond (ieq d 6) (some [(.agg [(.s .u8 c.b),(.i .i64 e.i),(.i .i64 e.h)]),(.agg [(.i .i64 5),(.i .i64 g),(.i .i64 f),(.i .i64 0),(.i .i64 0),(.i .i64 0)])]) v))) (fun w=>(share (cond (ieq d 2) (cond (ieq d 2) x w) (cond (ieq d 3) x w)) (fun B=>(oN (zA c 2) (oN (zA m 2) (oN (zA u 24) (cond (ieq d 0) (cond (ieq d 0) y B) (cond (ieq d 1) y B)))))))))))))))))))
def zsF (c:Cur)(s:Cur)(a:GAct):Prop:=(∃N,zBu N c=some (AV.agg (zbT s)::[aT .act a]))/\(s.b=c.b/\0<=s.i)/\(True)
def zj3 (c:Cur)  : Bool:=wC (zsF c)
def zgR (c:Cur)  : Cur:=wS (zsF c)
def zrC (c:Cur)  : GAct:=wV (zsF c)
theorem z5Z {c:Cur}(h:zj3 c=true):zsF c (zgR c) (zrC c):=wG h
theorem z6b (c:Cur)  : 0<=(zgR c).i:=wP fun h=>h.2.1.2
theorem z6a (c:Cur)(h:∃N,Ends (wE (fun a=>aT .act a) c.b fun a=>True) (zBu N c)):zj3 c=true:=wI (fun _ _ h=>h) h
def zDw:zdr:=rP0 fun c=>(zj3 c,zgR c,[aT .act (zrC c)])
theorem zR6:zbN Tryz.prog 301 [false,true,true] zDw:=hP0 zdR zU zMz zn (zo []) (fun _ h=>(z5Z h).1)
theorem zbfI {c:Cur}(h:zbc c):zj3 c=true:=by
 refine z6a c ⟨0,?_⟩;unfold zBu oN;conv=>zeta
 refine zoi (zdY (zdY (?_))) (fun _ g=>zoi (zbE (fun _=>zdY (zdY (?_))) (fun _=>?_)) (fun _ f=>zoi (zdY (zdY (zdY (?_)))) (fun _ e=>zoi (zdY (?_)) (fun _ d=>zoi (zbE (fun _=>zdY (?_)) (fun _=>zbE (fun _=>zdY (zbE (fun _=>?_) (fun _=>?_))) (fun _=>zbE (fun _=>zdY (zdY (zdY (?_)))) (fun _=>zbE (fun _=>zdY (?_)) (fun _=>zbE (fun _=>?_) (fun _=>zbE (fun _=>zdY (zdY (?_))) (fun _=>zbE (fun _=>zdY (?_)) (fun _=>zbE (fun _=>zbE (fun _=>g) (fun _=>f)) (fun _=>zbE (fun _=>g) (fun _=>f)))))))))) (fun _ a=>zoi (zbE (fun _=>zdY (?_)) (fun _=>zbE (fun _=>zbE (fun _=>?_) (fun _=>a)) (fun _=>zbE (fun _=>?_) (fun _=>a)))) (fun _ b=>zoi (zbE (fun _=>zbE (fun _=>d) (fun _=>b)) (fun _=>zbE (fun _=>d) (fun _=>b))) (fun _ i=>zdY (zdY (zdY (zbE (fun _=>zbE (fun _=>e) (fun _=>i)) (fun _=>zbE (fun _=>e) (fun _=>i))))))))))));all_goals exact zbF (aT .act) (v:=⟨_,_,_,_,_,_⟩) (by first|exact zF _ _|exact zbP _ _|exact zCF _) trivial
def zlf (N:Nat)  : OA :=
 (iter (σ:=(Int×(lA×Unit))) N (fun e c=>(cond (ilt c.1 2) (iter (σ:=(Int×(Int×(lA×Unit)))) N (fun f b=>(cond (ilt b.2.1 2) (iter (σ:=(Int×(Int×(Int×(lA×Unit))))) N (fun g a=>let d:=(ap a.2.2.2.1 [(⟨2,a.1,a.2.1,a.2.2.1,(zK .i64 a.2.2.1 (zkV .i64 3 a.2.1)),3⟩:GAct),(⟨3,a.1,a.2.1,a.2.2.1,0,0⟩:GAct)]); (cond (ilt a.2.2.1 3) (oN (few (ln d)) (g (a.1,(a.2.1,((zK .i64 a.2.2.1 1),(d,())))))) (f (a.1,((zK .i64 a.2.1 1),(a.2.2.2.1,())))))) (b.1,(b.2.1,(0,(b.2.2.1,()))))) (e ((zK .i64 b.1 1),(b.2.2.1,()))))) (c.1,(0,(c.2.1,())))) (some [(aS .act c.2.1)]))) (0,([],())))
def zTC:FuncId->Nat->Option Tmpl:=zo [(300,0,{n:=34,tm:=[(1,.sl 0 []),(2,ti)],lo:=[],ro:=[(0,.act,true)]}),(300,2,{n:=34,tm:=[(1,.sl 0 []),(2,ti),(3,ti)],lo:=[],ro:=[(0,.act,true)]}),(300,4,{n:=34,tm:=[(1,.sl 0 []),(2,ti),(3,ti),(4,ti)],lo:=[],ro:=[(0,.act,true)]})]
def zt7  (a:List GAct):Prop:=(∃N,zlf N=some [aS .act a])/\(a.length<=45)
def zjf  : Bool:=uC (T:=List GAct) (fun r=>zt7 r)
def zZ2  : List GAct:=uV (fun r=>zt7 r)
def zuX  : List GAct:=(zZ2)
theorem zHh  (h:zjf=true):zt7 zuX:=uG h
theorem zZ1  (h:∃N,Ends (fun a=>∃b,a=[aS .act b]/\(b.length<=45)) (zlf N)):zjf=true:=by obtain⟨N,a,e,b,rfl,h⟩:=h;exact zbd ⟨b,⟨N,e⟩,h⟩
def zA1:Run:=rF0 (zjf,[aS .act zuX])
theorem zSR  (a:zjf=true):∃N,zlf N  = some [aS .act zuX]:=by exact(zHh a).1
theorem zL3:vN 300 zA1:=kF0 zdR zU zMz zn zTC zSR
def z6J:List GAct:=match zlf 10 with
 |some [.one (.s .act l)]=>l
 |_=>[]
theorem z2J:zjf=true:=zZ1 ⟨10,_,(by kernel_rfl:zlf 10=some [aS .act z6J]),z6J,rfl,Nat.le_of_ble_eq_true (by kernel_rfl)⟩
def zbcT:zcJ:=[(301,([false,true,true],zDw))]++zbcS
theorem zZv:zb2 zbcT:=zcv zMz (by
 intro x a;simp only[qG,qN,or_false]at a;rcases a with rfl
 .exact zR6)
def zbe1:zX:=[(300,zA1)]++zQ0
theorem z6M:zL zbe1:=zh zL3 zdR
theorem zUG {c:Cur}(h:zbc c){m:Int}(e:0<=m)(J:m<=1000){G:Ans->Prop}{R:Cur->List GAct->Ans}(D:∀s l,s.b=c.b->0<=s.i->ln l<=45+m->G (R s l)){F:(Int×Int×Int×Int×List GAct×List Int×Unit->OA)->Int×Int×Int×Int×List GAct×List Int×Unit->OA}(C:∀rec t i k l,F rec (m,t,i,k,l,c.b,())=bif zA ⟨c.b,i,k⟩ (zK .i64 m 1) then (bif ilt t (zk ⟨c.b,i,k⟩ (zK .i64 m 1)) then (bif zj3 { zf ⟨c.b,i,k⟩ (zK .i64 m 1) with b:=c.b } then (bif few (ln (ap l [zrC { zf ⟨c.b,i,k⟩ (zK .i64 m 1) with b:=c.b }])) then
        rec (m,zK .i64 t 1,(zgR {zf ⟨c.b,i,k⟩ (zK .i64 m 1) with b:=c.b}).i,(zgR {zf ⟨c.b,i,k⟩ (zK .i64 m 1) with b:=c.b}).h,ap l [zrC {zf ⟨c.b,i,k⟩ (zK .i64 m 1) with b:=c.b}],c.b,()) else none) else none) else some (R ⟨c.b,(zf ⟨c.b,i,k⟩ (zK .i64 m 1)).i,(zf ⟨c.b,i,k⟩ (zK .i64 m 1)).h⟩ l)) else none){w I:Int}(f:0<=w){g:List GAct}(E:g.length<=45):Ends G (iter 1002 F (m,0,w,I,g,c.b,())):=by
 refine zm7 (fun n s=>s.1=m/\s.2.1+(n:Int)=1000/\0<=s.2.1/\0<=s.2.2.1/\(ln s.2.2.2.2.1<=45+s.2.1/\s.2.1<=m)/\s.2.2.2.2.2.1=c.b) ?_ 1002 1000 _ ⟨rfl,rfl,kS 0,f,⟨by unfold ln;show ((g.length:Nat):Int)<=45+0;omega,e⟩,rfl⟩ (by omega)
 rintro n ⟨q,t,i,k,l,b,u⟩ rec ⟨e,z,j,p,⟨A,H⟩,r⟩ d
 dsimp only at e z j p A r H
 subst r;subst e;rw[C];have a:zbc ⟨c.b,i,k⟩:=zbL h p;have L:=zhg (x:=q) (y:=1) (by omega) (by omega) (by omega) (by omega)
 have M:=zfK a (n:=zK .i64 q 1) (by omega)
 have B:zbc {zf ⟨c.b,i,k⟩ (zK .i64 q 1) with b:=c.b}:=zbL h (zF _ _);refine zq (zbt a _) (zbE (fun v=>?_) (fun v=>?_))
 .have hlt:t<zk ⟨c.b,i,k⟩ (zK .i64 q 1):=qE v;have K:=zhg (y:=1) j (by omega) (by omega) (by omega)
  refine zq (zbfI B) (zq (zlo (by rw[zhC];omega)) (d (n-1) _ (by omega) ⟨rfl,?_,?_,z6b _,⟨?_,?_⟩,rfl⟩))
  .show zK .i64 t 1+_=1000
   omega
  .show 0<=zK .i64 t 1
   omega
  .show ln (ap l [_])<=45+zK .i64 t 1
   rw[zhC];omega
  .show zK .i64 t 1<=q
   omega
 .refine zvx (D _ l rfl (zF _ _) ?_);omega
def zyZ (N:Nat)(c:Cur)(p:Int):OA:=
 (oN (zcL c 5) (cond (nB (zc0 c 5)) (oN zjf (iter (σ:=(Int×(Int×(Int×(Int×(lA×((List Int)×Unit))))))) N (fun n a=>let l:=a.2.2.2.2.2.1;let f:=(zK .i64 a.1 1);let d:=(⟨l,a.2.2.1,a.2.2.2.1⟩:Cur);let j:=({ (zf d f) with b:=l}:Cur);let q:=(ap a.2.2.2.2.1 [(zrC j)]); (oN (zA d f) (cond (ilt a.2.1 (zk d f)) (oN (zj3 j) (oN (few (ln q)) (n (a.1,((zK .i64 a.2.1 1),((zgR j).i,((zgR j).h,(q,(l,()))))))))) (some [(.agg [(.s .u8 l),(.i .i64 (zf d f).i),(.i .i64 (zf d f).h)]),(aS .act a.2.2.2.2.1)])))) (p,(0,((zO c 5).i,((zO c 5).h,(zuX,(c.b,())))))))) (iter (σ:=(Int×(Int×(Int×(Int×(lA×((List Int)×Unit))))))) N (fun n a=>let m:=a.2.2.2.2.2.1;let g:=(zK .i64 a.1 1);let e:=(⟨m,a.2.2.1,a.2.2.2.1⟩:Cur);let k:=({ (zf e g) with b:=m}:Cur);let r:=(ap a.2.2.2.2.1 [(zrC k)]); (oN (zA e g) (cond (ilt a.2.1 (zk e g)) (oN (zj3 k) (oN (few (ln r)) (n (a.1,((zK .i64 a.2.1 1),((zgR k).i,((zgR k).h,(r,(m,()))))))))) (some [(.agg [(.s .u8 m),(.i .i64 (zf e g).i),(.i .i64 (zf e g).h)]),(aS .act a.2.2.2.2.1)])))) (p,(0,((zO c 5).i,((zO c 5).h,([],(c.b,())))))))))
def zWQ:FuncId->Nat->Option Tmpl:=zo [(242,0,{n:=26,tm:=[(0,.lp 0 0),(1,ti),(5,.sl 0 []),(6,ti)],lo:=[(0,[.sl 1 [],ti,ti])],ro:=[(0,.act,true),(1,.u8,false)]})]
def zqD (c:Cur)(a:Int)(s:Cur)(d:List GAct):Prop:=(∃N,zyZ N c a=some (AV.agg (zbT s)::[aS .act d]))/\(s.b=c.b/\0<=s.i)/\(ln d<=45+a)
def znJ (c:Cur)(a:Int):Bool:=wC (zqD c a)
def znK (c:Cur)(a:Int):Cur:=wS (zqD c a)
def ztm (c:Cur)(a:Int):List GAct:=wV (zqD c a)
theorem zKB {c:Cur}{a:Int}(h:znJ c a=true):zqD c a (znK c a) (ztm c a):=wG h
theorem z2l (c:Cur)(a:Int):0<=(znK c a).i:=wP fun h=>h.2.1.2
theorem z2k (c:Cur)(a:Int)(h:∃N,Ends (wE (fun d=>aS .act d) c.b fun d=>ln d<=45+a) (zyZ N c a)):znJ c a=true:=wI (fun _ _ h=>h) h
def zAu:zdr:=rP1 dI fun c b=>(znJ c b,znK c b,[aS .act (ztm c b)])
theorem zO8:zbN Tryz.prog 242 [false,true,true] zAu:=hP1 z6M zU zZv zn zWQ (fun _ _ h=>(zKB h).1)
theorem z6z {c:Cur}(h:zbc c){m:Int}(e:0<=m)(f:m<=1000):znJ c m=true:=by
 refine z2k c m ⟨1002,?_⟩;unfold zyZ oN nB;conv=>zeta
 have g:=zHh z2J;exact zq (zi0 h 5) (zbE (fun _=>zq z2J (zUG h e f (R:=fun s l=>AV.agg (zbT s)::[aS .act l]) (fun s l a b d=>⟨s,l,rfl,⟨a,b⟩,d⟩) (fun rec t i k l=>rfl) (zcm _ _) g.2)) (fun _=>zUG h e f (R:=fun s l=>AV.agg (zbT s)::[aS .act l]) (fun s l a b d=>⟨s,l,rfl,⟨a,b⟩,d⟩) (fun rec t i k l=>rfl) (zcm _ _) (j4 _)))
def zbcU:zcJ:=[(242,([false,true,true],zAu))]++zbcT
theorem zZw:zb2 zbcU:=zcv zZv (by
 intro x a;simp only[qG,qN,or_false]at a;rcases a with rfl
 .exact zO8)
@[simp] abbrev zf2 (l:List (List Int)):Bool:=pc (SmM l)
@[simp] abbrev zdB (l:List (List Int)):List (List Int):=l
def zDB:Run:=rF1 (dS (.sl .int)) fun b=>(zf2 b,[aS (.sl .int) (zdB b)])
def zJe (N:Nat)(c:lM):OA:=
 (iter (σ:=(Int×(Int×(lM×(lM×Unit))))) N (fun d a=>let b:=(ix a.2.2.2.1 a.2.1 []); (cond (ilt a.2.1 a.1) (oN (inb a.2.1 (ln a.2.2.2.1)) (oN (zdJ b) (oN (few (ln (ap a.2.2.1 [(zdG b)]))) (d (a.1,((zK .i64 a.2.1 1),((ap a.2.2.1 [(zdG b)]),(a.2.2.2.1,())))))))) (some [(aS (.sl .int) a.2.2.1)]))) ((ln c),(0,([],(c,())))))
def zWH:FuncId->Nat->Option Tmpl:=zo [(211,0,{n:=20,tm:=[(3,.sl 0 []),(7,.sl 1 []),(8,ti),(9,ti)],lo:=[],ro:=[(0,(.sl .int),true),(1,(.sl .int),false)]})]
theorem zVR (a:List (List Int))(g:zf2 a=true):∃N,zJe N a=some [aS (.sl .int) (zdB a)]:=by
 have f:=zM.1 g;have e:=zcQ f.1;refine zcd fun N d=>?_;unfold zJe oN;conv=>zeta
 refine(zbl a (fun i (t:lM)=>((ln a),(i:Int),t,a,())) _ (fun _ x b j=>bif zdJ x then (cond (few (ln (ap b [zdG x]))) (j (ap b [zdG x])) none) else none) (fun (t:lM)=>(some [(.one (.s (.sl .int) t))])) (fun i c t rec=>?_) (fun t rec=>?_) _ ([]) (d e.1)).trans ?_;{simp only [zbA c,zbh c,zbo c,zbg c e.1,cT]};{simp only [zbq,cF]};exact zjs zdJ zdG _ a 0 [] (fun x h=>⟨by exact zbd (qU (f.2 x h) (by decide)),rfl⟩) (by simpa using e.2)
theorem zOw:vN 211 zDB:=kF1 zfM zx zy zn zWH zVR
@[simp] abbrev zkg (g:Guest):Bool:=pc (SmG g)
@[simp] abbrev zf0 (g:Guest):Guest:=g
def zxS:Run:=rF1 (dT .guest) fun b=>(zkg b,[aT .guest (zf0 b)])
def zC1 (N:Nat)(a:Guest):OA:=
 (oN (zvV a.Prog) (oN (zgA a.Written) (oN (zgA a.Live) (oN (zdJ a.Seen) (some [(aT .guest ({a with Prog:=(zpy a.Prog),Written:=(ze4 a.Written),Live:=(ze4 a.Live),Seen:=(zdG a.Seen)}:Guest))])))))
theorem zPk (a:Guest)(b:zkg a=true):∃N,zC1 N a=some [aT .guest (zf0 a)]:=by have c:=zM.1 b;obtain⟨h,i,j,k⟩:=c;have d:a.Prog.length<=2147483648:=(by omega);have e:a.Written.length<=2147483648:=(by omega);have f:a.Live.length<=2147483648:=(by omega);have g:a.Seen.length<=2147483648:=(by omega);refine⟨0,?_⟩;unfold zC1 oN;refine mu (mu (mu (mu ?_)));first|rfl|(simp only [*,zf0,cT,cF]<;>rfl)|simp_all[Ty.cells,zf0]
theorem zIe:vN 256 zxS:=kF1 zfM zx zy zn (zo []) zPk
def zd8 (t:List Slot)(p n:Int):Bool:=bif ieq (zbs t p).Page (-1) then false else (cond (enough (zbs t p).Rights n) (win n 1 3) false)
def zcb (t:List Slot)(p n:Int):Int:=bif zd8 t p n then (zbs t p).Page else -1
theorem zbaX {r:Int}(h:zcP r=true):0<=r/\r<=3:=zfv.1 h
theorem z4D {a n:Int}(h:enough a n=true):win n 1 3 = !ieq n 0:=by unfold enough at h;cases b:zcP a;{rw [b]at h;cases h};{cases c:zcP n;{rw [b,c]at h;cases h};{have:=zbaX c;have e:(win n 1 3=true)↔(!ieq n 0)=true:=(by rw[zfv];simp[ieq];omega);cases d:win n 1 3<;>cases f:(!ieq n 0)<;>simp_all}}
@[simp] abbrev ztG (t:List Slot)(p n:Int):Bool:=true
@[simp] abbrev zke (t:List Slot)(p n:Int):Int:=zcb t p n
@[simp] abbrev zkf (t:List Slot)(p n:Int):Bool:=zd8 t p n
def zxR:Run:=rF3 (dS .slot) dI dI fun b c d=>(ztG b c d,[aI (zke b c d),aB (zkf b c d)])
def zC0 (N:Nat)(c:lS)(d a:Int):OA:=
 let b:=(zjD c d); (oN (zml c d) (cond (ieq b.Page (-1)) (some [(aI (-1)),(aB false)]) (oN (zdF b.Rights a) (cond (nB (zd3 b.Rights a)) (some [(aI (-1)),(aB false)]) (oN (zbM a 1 3) (cond (nB (zbU a 1 3)) (some [(aI (-1)),(aB false)]) (some [(aI b.Page),(aB true)])))))))
theorem zPj (a:List Slot)(b c:Int)(d:ztG a b c=true):∃N,zC0 N a b c=some [aI (zke a b c),aB (zkf a b c)]:=by
 refine⟨0,?_⟩;unfold zC0 oN nB;conv=>zeta
 refine must rfl (br (fun _=>?_) (fun _=>must rfl (brN (fun _=>?_) (fun _=>must rfl (brN (fun _=>?_) (fun _=>?_))))));all_goals first|rfl|(simp only [*,zke,zkf,zcb,zd8,cT,cF]<;>rfl)|simp_all[Ty.cells,zke,zkf,zcb,zd8]
theorem zId:vN 216 zxR:=kF3 zfM zx zy zn (zo []) zPj
@[simp] abbrev zt6 (t:List Slot)(p n:Int):Bool:=true
@[simp] abbrev zkn (t:List Slot)(p n:Int):Int:=zcb t p n
@[simp] abbrev zko (t:List Slot)(p n:Int):Bool:=zd8 t p n
def zx7:Run:=rF3 (dS .slot) dI dI fun b c d=>(zt6 b c d,[aI (zkn b c d),aB (zko b c d)])
def zDg (N:Nat)(c:lS)(d b:Int):OA:=
 let a:=(zhs c d); (oN (zjW c d) (cond (ieq a.Page (-1)) (some [(aI (-1)),(aB false)]) (oN (zgO a.Rights b) (cond (nB (zhr a.Rights b)) (some [(aI (-1)),(aB false)]) (cond (ieq b 0) (some [(aI (-1)),(aB false)]) (some [(aI a.Page),(aB true)]))))))
theorem zPB (a:List Slot)(b c:Int)(d:zt6 a b c=true):∃N,zDg N a b c=some [aI (zkn a b c),aB (zko a b c)]:=by
 have e:=@z4D (zbs a b).Rights c;refine⟨0,?_⟩;unfold zDg oN nB;conv=>zeta
 refine must rfl (br (fun _=>?_) (fun _=>must rfl (brN (fun _=>?_) (fun _=>br (fun _=>?_) (fun _=>?_)))));all_goals first|rfl|(simp only [*,zkn,zko,zcb,zd8,cT,cF]<;>rfl)|simp_all[Ty.cells,zkn,zko,zcb,zd8]
theorem zIt:vN 221 zx7:=kF3 zfM zx zy zn (zo []) zPB
def zbcf:zX:=[(322,zhE),(211,zDB),(256,zxS),(221,zx7),(216,zxR),(226,zKm),(252,zKb),(319,zGQ),(311,zGt),(192,zKi),(190,zJ9),(297,zGV),(296,zGx)]++zbce
theorem zju:zL zbcf:=zh zoO (zh zOw (zh zIe (zh zIt (zh zId (zh zVw (zh zVj (zh zRK (zh zRn (zh zVs (zh zVh (zh zRP (zh zRr zfM))))))))))))
@[simp] abbrev zi8 (m:List (List Int))(p c v:Int):Bool:=pc (SmM m)
@[simp] abbrev zjX (m:List (List Int))(p c v:Int):List (List Int):=zbH m p c v
def zAY:Run:=rF4 (dS (.sl .int)) dI dI dI fun b c d e=>(zi8 b c d e,[aS (.sl .int) (zjX b c d e)])
def zE4 (N:Nat)(c:lM)(a d e:Int):OA:=
 let b:=(zeB c); (oN (zf6 c) (oN (zuR c a d) (cond (zrB c a d) (oN (zN e 0 99) (cond (zT e 0 99) (oN (inb a (ln b)) (oN (inb d (ln (ix b a []))) (share (up b a (up (ix b a []) d e)) (fun f=>(some [(aS (.sl .int) f)]))))) (some [(aS (.sl .int) b)]))) (some [(aS (.sl .int) b)]))))
theorem zSO (a:List (List Int))(b c d:Int)(e:zi8 a b c d=true):∃N,zE4 N a b c d=some [aS (.sl .int) (zjX a b c d)]:=by
 have g:=zM.1 e;have f:=(zCh a b c).1;refine⟨0,?_⟩;unfold zE4 oN;conv=>zeta
 refine mu (must rfl (br (fun _=>must rfl (br (fun _=>mu (mu (shr ?_))) (fun _=>?_))) (fun _=>?_)));all_goals first|rfl|(simp only [*,zjX,zbH,cT,cF]<;>rfl)|simp_all[Ty.cells,zjX,zbH]
theorem zLT:vN 116 zAY:=kF4 zju zx zy zn (zo []) zSO
@[simp] abbrev zvU (m:List (List Int))(p c v:Int):Bool:=pc (SmM m)
@[simp] abbrev zpw (m:List (List Int))(p c v:Int):List (List Int):=zbH m p c v
def zAD:Run:=rF4 (dS (.sl .int)) dI dI dI fun b c d e=>(zvU b c d e,[aS (.sl .int) (zpw b c d e)])
def zED (N:Nat)(a:lM)(b c d:Int):OA:=
 let e:=(aS (.sl .int) (zdB a)); (oN (zf2 a) (oN (zcM b (ln a)) (cond (zdc b (ln a)) (oN (inb b (ln a)) (oN (zcM c (ln (ix a b []))) (cond (zdc c (ln (ix a b []))) (oN (zbM d 0 99) (cond (zbU d 0 99) (oN (inb b (ln (zdB a))) (oN (inb c (ln (ix (zdB a) b []))) (share (up (zdB a) b (up (ix (zdB a) b []) c d)) (fun f=>(some [(aS (.sl .int) f)]))))) (some [e]))) (some [e])))) (some [e]))))
theorem zSm (a:List (List Int))(b c d:Int)(e:zvU a b c d=true):∃N,zED N a b c d=some [aS (.sl .int) (zpw a b c d)]:=by
 have f:=zM.1 e;refine⟨0,?_⟩;unfold zED oN;conv=>zeta
 refine mu (must rfl (br (fun _=>mu (must rfl (br (fun _=>must rfl (br (fun _=>mu (mu (shr ?_))) (fun _=>?_))) (fun _=>?_)))) (fun _=>?_)));all_goals first|rfl|(simp only [*,zpw,zbH,zfI,cT,cF]<;>rfl)|simp_all[Ty.cells,zpw,zbH,zfI]
theorem zLx:vN 113 zAD:=kF4 zju zx zy zn (zo []) zSm
def ziE (g:Guest):Bool:=bif canRun g then (cond g.Ctl.Open (ige (zdi g.Pending) 0) false) else false
@[simp] abbrev zqa (g:Guest):Bool:=true
@[simp] abbrev zmK (g:Guest):Bool:=ziE g
def zAX:Run:=rF1 (dT .guest) fun b=>(zqa b,[aB (zmK b)])
def zE3 (N:Nat)(a:Guest):OA:=
 (oN (zuI a) (cond (zrp a) (cond a.Ctl.Open (oN (zuP a.Pending) (some [(aB (ige (zoD a.Pending) 0))])) oF) oF))
theorem zSN (a:Guest)(b:zqa a=true):∃N,zE3 N a=some [aB (zmK a)]:=by refine⟨0,?_⟩;unfold zE3 oN;refine must rfl (br (fun _=>br (fun _=>must rfl ?_) (fun _=>?_)) (fun _=>?_));all_goals first|rfl|(simp only [*,zmK,ziE,cT,cF]<;>rfl)|simp_all[Ty.cells,zmK,ziE]
theorem zLS:vN 346 zAX:=kF1 zju zx zy zn (zo []) zSN
def zfx (p:Int):Int:=bif ilt (zdi p) 0 then p else wsub .i64 p (zkW .i64 1 (zdi p))
def zkh (p:Int):Int:=bif ilt (zdi p) 0 then -1 else zdi p
theorem zVa {p:Int}(h:ilt (zdi p) 0=false):wcv .u64 (zdi p)=zdi p/\ile 0 (zdi p)=true/\zCT .i64 p (zkW .i64 1 (zdi p))=wsub .i64 p (zkW .i64 1 (zdi p)):=by unfold zdi at *;cases a:zc7 p;{rw [a]at h;cases h};{simp only [a,cT]at h ⊢;obtain⟨c,d⟩:=zfv.1 a;have r:=zF7 (P:=fun x=>-1<=scan x/\scan x<=7/\(0<=scan x->wsub .i64 x (zkW .i64 1 (scan x))=zCT .i64 x (zkW .i64 1 (scan x)))) zZ3 c d;have b:0<=scan p:=(by unfold ilt at h;have:=jT h;omega);exact⟨zTI b (by omega),qJ b,(r.2.2 b).symm⟩}
@[simp] abbrev zsp (p:Int):Bool:=true
@[simp] abbrev zkO (p:Int):Int:=zfx p
@[simp] abbrev zkP (p:Int):Int:=zkh p
@[simp] abbrev znC (p:Int):Bool:=!ilt (zdi p) 0
def zDR:Run:=rF1 dI fun b=>(zsp b,[aI (zkO b),aI (zkP b),aB (znC b)])
def zJC (N:Nat)(a:Int):OA:=
 (oN (zuP a) (cond (ilt (zoD a) 0) (some [(aI a),(aI (-1)),(aB false)]) (oN (ile 0 (wcv .u64 (zoD a))) (some [(aI (wsub .i64 a (zkW .i64 1 (wcv .u64 (zoD a))))),(aI (zoD a)),(aB true)]))))
theorem zWh (a:Int)(b:zsp a=true):∃N,zJC N a=some [aI (zkO a),aI (zkP a),aB (znC a)]:=by have c:=@zVa a;refine⟨0,?_⟩;unfold zJC oN;refine must rfl (br (fun _=>?_) (fun _=>mu ?_));all_goals first|rfl|(simp only [*,zkO,zkP,znC,zfx,zkh,cT,cF]<;>rfl)|simp_all[Ty.cells,zkO,zkP,znC,zfx,zkh]
theorem zOM:vN 239 zDR:=kF1 zju zx zy zn (zo []) zWh
@[simp] abbrev zy7 (p:Int):Bool:=true
@[simp] abbrev znd (p:Int):Int:=zfx p
@[simp] abbrev zne (p:Int):Int:=zkh p
@[simp] abbrev znf (p:Int):Bool:=!ilt (zdi p) 0
def zDA:Run:=rF1 dI fun b=>(zy7 b,[aI (znd b),aI (zne b),aB (znf b)])
def zJd (N:Nat)(a:Int):OA:=
 (oN (zB4 a) (cond (ilt (zq1 a) 0) (some [(aI a),(aI (-1)),(aB false)]) (oN (ile 0 (zq1 a)) (some [(aI (zCT .i64 a (zkW .i64 1 (zq1 a)))),(aI (zq1 a)),(aB true)]))))
theorem zVQ (a:Int)(b:zy7 a=true):∃N,zJd N a=some [aI (znd a),aI (zne a),aB (znf a)]:=by have c:=@zVa a;refine⟨0,?_⟩;unfold zJd oN;refine must rfl (br (fun _=>?_) (fun _=>mu ?_));all_goals first|rfl|(simp only [*,znd,zne,znf,zfx,zkh,cT,cF]<;>rfl)|simp_all[Ty.cells,znd,zne,znf,zfx,zkh]
theorem zOv:vN 238 zDA:=kF1 zju zx zy zn (zo []) zVQ
def saw (g:Guest)(n:Int):Guest:=bif ilt (ln g.Seen) 40 then {g with Seen:=ap g.Seen [n]} else g
@[simp] theorem zTh {g:Guest}(n:Int)(h:SmG g):SmG (saw g n):=by unfold saw;cases a:ilt (ln g.Seen) 40;{exact h};{have:=qE a;refine⟨h.1,h.2.1,h.2.2.1,?_⟩;simp[ln] at *;omega}
@[simp] abbrev zH2 (g:Guest)(n:Int):Bool:=pc (SmG g)
@[simp] abbrev zCy (g:Guest)(n:Int):Guest:=saw g n
def zU1:Run:=rF2 (dT .guest) dI fun b c=>(zH2 b c,[aT .guest (zCy b c)])
def z2H (N:Nat)(a:Guest)(b:Int):OA:=
 (oN (zdu a) (cond (ilt (ln (zc8 a).Seen) 40) (oN (few (ln (ap (zc8 a).Seen [b]))) (some [(aT .guest ({ (zc8 a) with Seen:=(ap (zc8 a).Seen [b])}:Guest))])) (some [(aT .guest (zc8 a))])))
theorem z7Z (a:Guest)(b:Int)(c:zH2 a b=true):∃N,z2H N a b=some [aT .guest (zCy a b)]:=by have d:=zM.1 c;have e:a.Seen.length<=1048576:=d.2.2.2;refine⟨0,?_⟩;unfold z2H oN;refine mu (br (fun _=>mu ?_) (fun _=>?_));all_goals first|rfl|(simp only [*,zCy,saw,cT,cF]<;>rfl)|simp_all[Ty.cells,zCy,saw]
theorem z1i:vN 348 zU1:=kF2 zju zx zy zn (zo []) z7Z
def stopped (g:Guest)(e:GExit):Guest:={g with Exit:=e}
@[simp] theorem zbfG {g:Guest}(e:GExit)(h:SmG g):SmG (stopped g e):=h
@[simp] abbrev zek (g:Guest)(e:GExit):Bool:=pc (SmG g)
@[simp] abbrev zdQ (g:Guest)(e:GExit):Guest:=stopped g e
def zDP:Run:=rF2 (dT .guest) dE fun b c=>(zek b c,[aT .guest (zdQ b c)])
def zJA (N:Nat)(a:Guest)(b:GExit):OA:=
 (oN (zdu a) (some [(aT .guest ({ (zc8 a) with Exit:=b}:Guest))]))
theorem zWf (a:Guest)(b:GExit)(c:zek a b=true):∃N,zJA N a b=some [aT .guest (zdQ a b)]:=by have d:=zM.1 c;refine⟨0,?_⟩;unfold zJA oN;refine mu ?_;first|rfl|(simp only [*,zdQ,stopped,cT,cF]<;>rfl)|simp_all[Ty.cells,zdQ,stopped]
theorem zOK:vN 181 zDP:=kF2 zju zx zy zn (zo []) zWf
def zch (g:Guest):Guest:=bif ige g.Pc 12 then {g with Pc:=12} else {g with Pc:=zK .i64 g.Pc 1}
@[simp] theorem zl2 {g:Guest}(h:SmG g):SmG (zch g):=by unfold zch;cases ige g.Pc 12<;>exact h
@[simp] abbrev zeg (g:Guest):Bool:=pc (SmG g)
@[simp] abbrev zgu (g:Guest):Guest:=zch g
def zKo:Run:=rF1 (dT .guest) fun b=>(zeg b,[aT .guest (zgu b)])
def zT1 (N:Nat)(a:Guest):OA:=
 (oN (zdu a) (cond (ige (zc8 a).Pc 12) (some [(aT .guest ({ (zc8 a) with Pc:=12}:Guest))]) (some [(aT .guest ({ (zc8 a) with Pc:=(zK .i64 (zc8 a).Pc 1)}:Guest))])))
theorem z1C (a:Guest)(b:zeg a=true):∃N,zT1 N a=some [aT .guest (zgu a)]:=by have c:=zM.1 b;refine⟨0,?_⟩;unfold zT1 oN;refine mu (br (fun _=>?_) (fun _=>?_));all_goals first|rfl|(simp only [*,zgu,zch,cT,cF]<;>rfl)|simp_all[Ty.cells,zgu,zch]
theorem zVy:vN 180 zKo:=kF1 zju zx zy zn (zo []) z1C
def zbcg:zX:=[(116,zAY),(113,zAD),(346,zAX),(239,zDR),(238,zDA),(348,zU1),(181,zDP),(180,zKo)]++zbcf
theorem zjv:zL zbcg:=zh zLT (zh zLx (zh zLS (zh zOM (zh zOv (zh z1i (zh zOK (zh zVy zju)))))))
def interrupted (g:Guest):Guest:=bif ziE g then saw {g with Pending:=zfx g.Pending} (zK .i64 100 (zkh g.Pending)) else g
@[simp] theorem z3A {g:Guest}(h:SmG g):SmG (interrupted g):=by unfold interrupted;cases ziE g;{exact h};{exact zTh (g:={g with Pending:=zfx g.Pending}) _ h}
@[simp] abbrev zp6 (g:Guest):Bool:=pc (SmG g)
@[simp] abbrev zkm (g:Guest):Guest:=interrupted g
def zuq:Run:=rF1 (dT .guest) fun b=>(zp6 b,[aT .guest (zkm b)])
def zwY (N:Nat)(a:Guest):OA:=
 let c:=(zK .i64 100 (zkP a.Pending));let b:=({a with Pending:=(zkO a.Pending)}:Guest); (oN (zqa a) (cond (nB (zmK a)) (oN (zdu a) (some [(aT .guest (zc8 a))])) (oN (zsp a.Pending) (oN (zH2 b c) (some [(aT .guest (zCy b c))])))))
theorem zIT (a:Guest)(b:zp6 a=true):∃N,zwY N a=some [aT .guest (zkm a)]:=by
 have c:=zM.1 b;have d:_/\_/\_/\_:=c;refine⟨0,?_⟩;unfold zwY oN nB;conv=>zeta
 refine must rfl (brN (fun _=>mu ?_) (fun _=>must rfl (mu ?_)));all_goals first|rfl|(simp only [*,zkm,interrupted,cT,cF]<;>rfl)|simp_all[Ty.cells,zkm,interrupted]
theorem zEq:vN 341 zuq:=kF1 zjv zx zy zn (zo []) zIT
def zAh (o:Int):Int:=bif ieq o 3 then 3 else (cond (ieq o 4) 4 (cond (ieq o 5) 5 (cond (ieq o 6) 6 (cond (ieq o 7) 7 2))))
def zbe (g:Guest):Int:=bif canRun g then (cond (ziE g) 1 (zAh (zcA g.Prog g.Pc).Op)) else 0
@[simp] abbrev zeN (g:Guest):Bool:=true
@[simp] abbrev zoE (g:Guest):Int:=zbe g
def zGX:Run:=rF1 (dT .guest) fun b=>(zeN b,[aI (zoE b)])
def zNL (N:Nat)(a:Guest):OA:=
 let b:=(zfV a.Prog a.Pc).Op; (oN (zuI a) (cond (nB (zrp a)) (some [(aI 0)]) (oN (zqa a) (cond (zmK a) (some [(aI 1)]) (oN (zfD a.Prog a.Pc) (cond (ieq b 3) (some [(aI 3)]) (cond (ieq b 4) (some [(aI 4)]) (cond (ieq b 5) (some [(aI 5)]) (cond (ieq b 6) (some [(aI 6)]) (cond (ieq b 7) (some [(aI 7)]) (some [(aI 2)])))))))))))
theorem zY3 (a:Guest)(b:zeN a=true):∃N,zNL N a=some [aI (zoE a)]:=by
 refine⟨0,?_⟩;unfold zNL oN nB;conv=>zeta
 refine must rfl (brN (fun _=>?_) (fun _=>must rfl (br (fun _=>?_) (fun _=>must rfl (br (fun _=>?_) (fun _=>br (fun _=>?_) (fun _=>br (fun _=>?_) (fun _=>br (fun _=>?_) (fun _=>br (fun _=>?_) (fun _=>?_))))))))));all_goals first|rfl|(simp only [*,zoE,zbe,zAh,cT,cF]<;>rfl)|simp_all[Ty.cells,zoE,zbe,zAh]
theorem zco:vN 340 zGX:=kF1 zjv zx zy zn (zo []) zY3
def held (g:Guest):Guest:=zch {g with Halted:=true}
@[simp] theorem zZ7 {g:Guest}(h:SmG g):SmG (held g):=zl2 (g:={g with Halted:=true}) h
@[simp] abbrev zoA (g:Guest):Bool:=pc (SmG g)
@[simp] abbrev zA4 (g:Guest):Guest:=held g
def zP5:Run:=rF1 (dT .guest) fun b=>(zoA b,[aT .guest (zA4 b)])
def zXe (N:Nat)(b:Guest):OA:=
 let a:=({b with Halted:=true}:Guest); (oN (zeg a) (some [(aT .guest (zgu a))]))
theorem z5l (a:Guest)(b:zoA a=true):∃N,zXe N a=some [aT .guest (zA4 a)]:=by
 have c:=zM.1 b;have d:_/\_/\_/\_:=c;refine⟨0,?_⟩;unfold zXe oN;conv=>zeta
 refine mu ?_;first|rfl|(simp only [*,zA4,held,cT,cF]<;>rfl)|simp_all[Ty.cells,zA4,held]
theorem zYb:vN 184 zP5:=kF1 zjv zx zy zn (zo []) z5l
@[simp] abbrev zCA (g:Guest):Bool:=pc (SmG g)
@[simp] abbrev zwB (g:Guest):Guest:=zch g
def zGU:Run:=rF1 (dT .guest) fun b=>(zCA b,[aT .guest (zwB b)])
def zNI (N:Nat)(a:Guest):OA:=
 (oN (zeg a) (some [(aT .guest (zgu a))]))
theorem zY0 (a:Guest)(b:zCA a=true):∃N,zNI N a=some [aT .guest (zwB a)]:=by have c:=zM.1 b;refine⟨0,?_⟩;unfold zNI oN;refine mu ?_;first|rfl|(simp only [*,zwB,cT,cF]<;>rfl)|simp_all[Ty.cells,zwB]
theorem zRO:vN 351 zGU:=kF1 zjv zx zy zn (zo []) zY0
def loaded (g:Guest)(v:Int):Guest:=zch (saw {g with A:=v} v)
@[simp] theorem zQq {g:Guest}(v:Int)(h:SmG g):SmG (loaded g v):=zl2 (zTh (g:={g with A:=v}) v h)
@[simp] abbrev zCt (g:Guest)(v:Int):Bool:=pc (SmG g)
@[simp] abbrev zwx (g:Guest)(v:Int):Guest:=loaded g v
def zGJ:Run:=rF2 (dT .guest) dI fun b c=>(zCt b c,[aT .guest (zwx b c)])
def zNw (N:Nat)(c:Guest)(a:Int):OA:=
 let b:=({c with A:=a}:Guest); (oN (zH2 b a) (oN (zeg (zCy b a)) (some [(aT .guest (zgu (zCy b a)))])))
theorem zYM (b:Guest)(a:Int)(d:zCt b a=true):∃N,zNw N b a=some [aT .guest (zwx b a)]:=by
 have c:=zM.1 d;have f:_/\_/\_/\_:=c;have e:SmG (saw {b with A:=a} a):=zTh (g:={b with A:=a}) a c;refine⟨0,?_⟩;unfold zNw oN;conv=>zeta
 refine mu (mu ?_);first|rfl|(simp only [*,zwx,loaded,cT,cF]<;>rfl)|simp_all[Ty.cells,zwx,loaded]
theorem zRD:vN 352 zGJ:=kF2 zjv zx zy zn (zo []) zYM
def z3O (g:Guest)(w:Int):Guest:=bif ieq w 5 then stopped g (zAi (zcA g.Prog g.Pc).X) else stopped g ⟨4,0,false,0⟩
@[simp] theorem zbfH {g:Guest}(w:Int)(h:SmG g):SmG (z3O g w):=by unfold z3O;cases ieq w 5<;>exact h
def zc9 (g:Guest):Bool:=zda g.Prog&&(win g.A 0 99&&(win g.Pc 0 12&&(zcY g.Written 4 8&&(zcY g.Live 4 8&&(zhA g.Ctl&&(zc7 g.Pending&&(zhk g.Exit&&ile (ln g.Seen) 40)))))))
@[simp] abbrev znt (g:Guest):Bool:=true
@[simp] abbrev zlN (g:Guest):Bool:=zc9 g
def zDF:Run:=rF1 (dT .guest) fun b=>(znt b,[aB (zlN b)])
def zJm (N:Nat)(a:Guest):OA:=
 (oN (zCx a.Prog) (cond (zoC a.Prog) (oN (zN a.A 0 99) (cond (zT a.A 0 99) (oN (zN a.Pc 0 12) (cond (zT a.Pc 0 12) (oN (znB a.Written 4 8) (cond (zia a.Written 4 8) (oN (znB a.Live 4 8) (cond (zia a.Live 4 8) (oN (zte a.Ctl) (cond (zrr a.Ctl) (oN (zfr a.Pending) (cond (zfq a.Pending) (oN (zCs a.Exit) (cond (zwr a.Exit) (some [(aB (ile (ln a.Seen) 40))]) oF)) oF)) oF)) oF)) oF)) oF)) oF)) oF))
theorem zVZ (a:Guest)(b:znt a=true):∃N,zJm N a=some [aB (zlN a)]:=by refine⟨0,?_⟩;unfold zJm oN;refine must rfl (br (fun _=>must rfl (br (fun _=>must rfl (br (fun _=>must rfl (br (fun _=>must rfl (br (fun _=>must rfl (br (fun _=>must rfl (br (fun _=>must rfl (br (fun _=>?_) (fun _=>?_))) (fun _=>?_))) (fun _=>?_))) (fun _=>?_))) (fun _=>?_))) (fun _=>?_))) (fun _=>?_))) (fun _=>?_));all_goals first|rfl|(simp only [*,zlN,zc9,cT,cF]<;>rfl)|simp_all[Ty.cells,zlN,zc9]
theorem zOA:vN 289 zDF:=kF1 zjv zx zy zn (zo []) zVZ
@[simp] abbrev zm9 (g:Guest):Bool:=true
@[simp] abbrev zlu (g:Guest):Bool:=zc9 g
def zDx:Run:=rF1 (dT .guest) fun b=>(zm9 b,[aB (zlu b)])
def zI8 (N:Nat)(a:Guest):OA:=
 (oN (zB2 a.Prog) (cond (zon a.Prog) (oN (zbM a.A 0 99) (cond (zbU a.A 0 99) (oN (zbM a.Pc 0 12) (cond (zbU a.Pc 0 12) (oN (znc a.Written 4 8) (cond (zh4 a.Written 4 8) (oN (znc a.Live 4 8) (cond (zh4 a.Live 4 8) (oN (zxw a.Ctl) (cond (zu5 a.Ctl) (oN (zh2 a.Pending) (cond (zio a.Pending) (oN (zBY a.Exit) (cond (zvN a.Exit) (some [(aB (ile (ln a.Seen) 40))]) oF)) oF)) oF)) oF)) oF)) oF)) oF)) oF))
theorem zVL (a:Guest)(b:zm9 a=true):∃N,zI8 N a=some [aB (zlu a)]:=by refine⟨0,?_⟩;unfold zI8 oN;refine must rfl (br (fun _=>must rfl (br (fun _=>must rfl (br (fun _=>must rfl (br (fun _=>must rfl (br (fun _=>must rfl (br (fun _=>must rfl (br (fun _=>must rfl (br (fun _=>?_) (fun _=>?_))) (fun _=>?_))) (fun _=>?_))) (fun _=>?_))) (fun _=>?_))) (fun _=>?_))) (fun _=>?_))) (fun _=>?_));all_goals first|rfl|(simp only [*,zlu,zc9,cT,cF]<;>rfl)|simp_all[Ty.cells,zlu,zc9]
theorem zOs:vN 272 zDx:=kF1 zjv zx zy zn (zo []) zVL
@[simp] abbrev zeT (l:List Guest):Bool:=pc (zlg l)
@[simp] abbrev zge (l:List Guest):List Guest:=l
def zwd:Run:=rF1 (dS .guest) fun b=>(zeT b,[aS .guest (zge b)])
def zzE (N:Nat)(c:lG):OA:=
 (iter (σ:=(Int×(Int×(lG×(lG×Unit))))) N (fun d a=>let b:=(ix a.2.2.2.1 a.2.1 zG); (cond (ilt a.2.1 a.1) (oN (inb a.2.1 (ln a.2.2.2.1)) (oN (zkg b) (oN (few (ln (ap a.2.2.1 [(zf0 b)]))) (d (a.1,((zK .i64 a.2.1 1),((ap a.2.2.1 [(zf0 b)]),(a.2.2.2.1,())))))))) (some [(aS .guest a.2.2.1)]))) ((ln c),(0,([],(c,())))))
def zMW:FuncId->Nat->Option Tmpl:=zo [(162,0,{n:=20,tm:=[(3,.sl 0 []),(7,.sl 1 []),(8,ti),(9,ti)],lo:=[],ro:=[(0,.guest,true),(1,.guest,false)]})]
theorem zMe (a:List Guest)(g:zeT a=true):∃N,zzE N a=some [aS .guest (zge a)]:=by
 have f:=zM.1 g;have e:=zcQ f.1;refine zcd fun N d=>?_;unfold zzE oN;conv=>zeta
 refine(zbl a (fun i (t:lG)=>((ln a),(i:Int),t,a,())) _ (fun _ x b j=>bif zkg x then (cond (few (ln (ap b [zf0 x]))) (j (ap b [zf0 x])) none) else none) (fun (t:lG)=>(some [(.one (.s .guest t))])) (fun i c t rec=>?_) (fun t rec=>?_) _ ([]) (d e.1)).trans ?_;{simp only [zbA c,zbh c,zbo c,zbg c e.1,cT]};{simp only [zbq,cF]};exact zjs zkg zf0 _ a 0 [] (fun x h=>⟨by exact zbd (f.2 x h),rfl⟩) (by simpa using e.2)
theorem zFB:vN 162 zwd:=kF1 zjv zx zy zn zMW zMe
def gAt (b:Bare)(i:Int):Guest:=bif hasB i (ln b.Guests) then ix b.Guests i zG else Ty.dflt .guest
@[simp] theorem zkw {b:Bare}(i:Int)(h:SmB b):SmG (gAt b i):=by unfold gAt;cases a:hasB i (ln b.Guests);{exact zbf5};{exact z88 h.2.1 a _}
def zbch:zX:=[(341,zuq),(340,zGX),(184,zP5),(351,zGU),(352,zGJ),(289,zDF),(272,zDx),(162,zwd)]++zbcg
theorem zlm:zL zbch:=zh zEq (zh zco (zh zYb (zh zRO (zh zRD (zh zOA (zh zOs (zh zFB zjv)))))))
def plainly (g:Guest):Guest:=bif ine (zbe g) 2 then g else (cond (win g.A 0 99) (cond (win (zcA g.Prog g.Pc).X 0 99) (cond (ieq (zcA g.Prog g.Pc).Op 1) {zch g with A:=(zcA g.Prog g.Pc).X} (cond (ieq (zcA g.Prog g.Pc).Op 2) {zch g with A:=zqJ (zK .i64 g.A (zcA g.Prog g.Pc).X) 100} (cond (ieq (zcA g.Prog g.Pc).Op 8) (cond (ieq g.A 0) {zch g with Pc:=(zcA g.Prog g.Pc).X} (zch g)) (zch g)))) (zch g)) (zch g))
@[simp] theorem zbfY (g:Guest):(zch g).Prog=g.Prog:=by unfold zch;cases ige g.Pc 12<;>rfl
@[simp] theorem zbgw (g:Guest):(zch g).A=g.A:=by unfold zch;cases ige g.Pc 12<;>rfl
@[simp] theorem zbeH (g:Guest):(zch g).Written=g.Written:=by unfold zch;cases ige g.Pc 12<;>rfl
@[simp] theorem zbfX (g:Guest):(zch g).Live=g.Live:=by unfold zch;cases ige g.Pc 12<;>rfl
@[simp] theorem zbgf (g:Guest):(zch g).Ctl=g.Ctl:=by unfold zch;cases ige g.Pc 12<;>rfl
@[simp] theorem zbeG (g:Guest):(zch g).Pending=g.Pending:=by unfold zch;cases ige g.Pc 12<;>rfl
@[simp] theorem zbfW (g:Guest):(zch g).Exit=g.Exit:=by unfold zch;cases ige g.Pc 12<;>rfl
@[simp] theorem zbfo (g:Guest):(zch g).Halted=g.Halted:=by unfold zch;cases ige g.Pc 12<;>rfl
@[simp] theorem zbfZ (g:Guest):(zch g).Seen=g.Seen:=by unfold zch;cases ige g.Pc 12<;>rfl
@[simp] theorem zbgg (g:Guest)(x:Int):(zch {g with A:=x}).Pc=(zch g).Pc:=by unfold zch;cases ige g.Pc 12<;>rfl
@[simp] theorem zKF {g:Guest}(h:SmG g):SmG (plainly g):=by have a:=zl2 h;unfold plainly;cases ine (zbe g) 2;{cases win g.A 0 99;{exact a};{cases win (zcA g.Prog g.Pc).X 0 99;{exact a};{cases ieq (zcA g.Prog g.Pc).Op 1;{cases ieq (zcA g.Prog g.Pc).Op 2;{cases ieq (zcA g.Prog g.Pc).Op 8;{exact a};{cases ieq g.A 0<;>exact a}};{exact a}};{exact a}}}};{exact h}
@[simp] abbrev zzo (g:Guest):Bool:=pc (SmG g)
@[simp] abbrev ztj (g:Guest):Guest:=plainly g
def zDN:Run:=rF1 (dT .guest) fun b=>(zzo b,[aT .guest (ztj b)])
def zJy (N:Nat)(a:Guest):OA:=
 let i:=(ieq a.A 0);let c:=(zeg a);let b:=(aT .guest (zgu a));let d:=(zfV a.Prog a.Pc);let j:=({a with A:=d.X}:Guest);let h:=(ieq d.Op 8);let e:=(zT d.X 0 99);let g:=(aT .guest ({ (zc8 a) with Pc:=d.X}:Guest));let f:=({a with A:=(zqJ (zK .i64 a.A d.X) 100)}:Guest); (oN (zeN a) (cond (ine (zoE a) 2) (oN (zdu a) (some [(aT .guest (zc8 a))])) (oN (zfD a.Prog a.Pc) (oN (zN a.A 0 99) (cond (zT a.A 0 99) (oN (zN d.X 0 99) (cond e (cond (ieq d.Op 1) (oN (zeg j) (some [(aT .guest (zgu j))])) (cond e (cond (ieq d.Op 2) (oN (ine 100 0) (oN (zeg f) (some [(aT .guest (zgu f))]))) (cond e (cond h (cond i (oN (zdu a) (some [g])) (oN c (some [b]))) (oN c (some [b]))) (oN c (some [b])))) (cond e (cond h (cond i (oN (zdu a) (some [g])) (oN c (some [b]))) (oN c (some [b]))) (oN c (some [b]))))) (cond e (cond (ieq d.Op 2) (oN (ine 100 0) (oN (zeg f) (some [(aT .guest (zgu f))]))) (cond e (cond h (cond i (oN (zdu a) (some [g])) (oN c (some [b]))) (oN c (some [b]))) (oN c (some [b])))) (cond e (cond h (cond i (oN (zdu a) (some [g])) (oN c (some [b]))) (oN c (some [b]))) (oN c (some [b])))))) (oN c (some [b])))))))
theorem zWd (a:Guest)(b:zzo a=true):∃N,zJy N a=some [aT .guest (ztj a)]:=by
 have c:=zM.1 b;have d:_/\_/\_/\_:=c;refine⟨0,?_⟩;unfold zJy oN;conv=>zeta
 refine must rfl (br (fun _=>mu ?_) (fun _=>must rfl (must rfl (br (fun _=>must rfl (br (fun _=>br (fun _=>mu ?_) (fun _=>br (fun _=>br (fun _=>must rfl (mu ?_)) (fun _=>br (fun _=>br (fun _=>br (fun _=>mu ?_) (fun _=>mu ?_)) (fun _=>mu ?_)) (fun _=>mu ?_))) (fun _=>br (fun _=>br (fun _=>br (fun _=>mu ?_) (fun _=>mu ?_)) (fun _=>mu ?_)) (fun _=>mu ?_)))) (fun _=>br (fun _=>br (fun _=>must rfl (mu ?_)) (fun _=>br (fun _=>br (fun _=>br (fun _=>mu ?_) (fun _=>mu ?_)) (fun _=>mu ?_)) (fun _=>mu ?_))) (fun _=>br (fun _=>br (fun _=>br (fun _=>mu ?_) (fun _=>mu ?_)) (fun _=>mu ?_)) (fun _=>mu ?_))))) (fun _=>mu ?_)))));all_goals first|rfl|(simp only [*,ztj,plainly,cT,cF]<;>rfl)|simp_all[Ty.cells,ztj,plainly]
theorem zOI:vN 342 zDN:=kF1 zlm zx zy zn (zo []) zWd
def address (g:Guest):Int:=bif ine (zbe g) 3 then (cond (ine (zbe g) 4) (-1) ((zcA g.Prog g.Pc).X)) else (zcA g.Prog g.Pc).X
@[simp] abbrev zr7 (g:Guest):Bool:=true
@[simp] abbrev zjj (g:Guest):Int:=address g
def zDE:Run:=rF1 (dT .guest) fun b=>(zr7 b,[aI (zjj b)])
def zJh (N:Nat)(a:Guest):OA:=
 (oN (zeN a) (cond (ine (zoE a) 3) (cond (ine (zoE a) 4) (some [(aI (-1))]) (oN (zfD a.Prog a.Pc) (some [(aI (zfV a.Prog a.Pc).X)]))) (oN (zfD a.Prog a.Pc) (some [(aI (zfV a.Prog a.Pc).X)]))))
theorem zVU (a:Guest)(b:zr7 a=true):∃N,zJh N a=some [aI (zjj a)]:=by refine⟨0,?_⟩;unfold zJh oN;refine must rfl (br (fun _=>br (fun _=>?_) (fun _=>must rfl ?_)) (fun _=>must rfl ?_));all_goals first|rfl|(simp only [*,zjj,address,cT,cF]<;>rfl)|simp_all[Ty.cells,zjj,address]
theorem zOz:vN 349 zDE:=kF1 zlm zx zy zn (zo []) zVU
def zj8 (g:Guest)(t w:Int):Guest:=bif ieq w 6 then stopped g (zBA (zcA g.Prog g.Pc).X) else (cond (ieq w 5&&zg6 t 1) (stopped g (zAi (zcA g.Prog g.Pc).X)) (cond (ieq w 7&&zg6 t 2) (stopped g ⟨4,0,false,0⟩) (cond (ieq w 7) (held g) (zch g))))
def zle (t w:Int):Bool:=bif ieq w 6 then false else (cond (ieq w 5&&zg6 t 1) false (cond (ieq w 7&&zg6 t 2) false true))
@[simp] theorem zHk {g:Guest}(t w:Int)(h:SmG g):SmG (zj8 g t w):=by unfold zj8;cases ieq w 6;{cases (ieq w 5&&zg6 t 1);{cases (ieq w 7&&zg6 t 2);{cases ieq w 7;{exact zl2 h};{exact zZ7 h}};{exact h}};{exact h}};{exact h}
@[simp] abbrev zdZ (g:Guest)(t w:Int):Bool:=pc (SmG g)
@[simp] abbrev zcn (g:Guest)(t w:Int):Guest:=zj8 g t w
@[simp] abbrev zdv (g:Guest)(t w:Int):Bool:=zle t w
def zDW:Run:=rF3 (dT .guest) dI dI fun b c d=>(zdZ b c d,[aT .guest (zcn b c d),aB (zdv b c d)])
def zJH (N:Nat)(a:Guest)(c b:Int):OA:=
 let g:=(aT .guest (zgu a));let f:=(aT .guest (zA4 a));let e:=(⟨4,0,false,0⟩:GExit);let d:=(zfV a.Prog a.Pc).X; (oN (zfD a.Prog a.Pc) (cond (ieq b 6) (oN (zp1 d) (oN (zek a (zfk d)) (some [(aT .guest (zdQ a (zfk d))),(aB false)]))) (cond (ieq b 5) (oN (zix c 1) (cond (zh8 c 1) (oN (zsl d) (oN (zek a (zgl d)) (some [(aT .guest (zdQ a (zgl d))),(aB false)]))) (cond (ieq b 7) (oN (zix c 2) (cond (zh8 c 2) (oN (zek a e) (some [(aT .guest (zdQ a e)),(aB false)])) (cond (ieq b 7) (oN (zoA a) (some [f,(aB true)])) (oN (zeg a) (some [g,(aB true)]))))) (cond (ieq b 7) (oN (zoA a) (some [f,(aB true)])) (oN (zeg a) (some [g,(aB true)])))))) (cond (ieq b 7) (oN (zix c 2) (cond (zh8 c 2) (oN (zek a e) (some [(aT .guest (zdQ a e)),(aB false)])) (cond (ieq b 7) (oN (zoA a) (some [f,(aB true)])) (oN (zeg a) (some [g,(aB true)]))))) (cond (ieq b 7) (oN (zoA a) (some [f,(aB true)])) (oN (zeg a) (some [g,(aB true)])))))))
theorem zWm (a:Guest)(b c:Int)(d:zdZ a b c=true):∃N,zJH N a b c=some [aT .guest (zcn a b c),aB (zdv a b c)]:=by
 have e:=zM.1 d;refine⟨0,?_⟩;unfold zJH oN;conv=>zeta
 refine must rfl (br (fun _=>must rfl (mu ?_)) (fun _=>br (fun _=>must rfl (br (fun _=>must rfl (mu ?_)) (fun _=>br (fun _=>must rfl (br (fun _=>mu ?_) (fun _=>br (fun _=>mu ?_) (fun _=>mu ?_)))) (fun _=>br (fun _=>mu ?_) (fun _=>mu ?_))))) (fun _=>br (fun _=>must rfl (br (fun _=>mu ?_) (fun _=>br (fun _=>mu ?_) (fun _=>mu ?_)))) (fun _=>br (fun _=>mu ?_) (fun _=>mu ?_)))));all_goals first|rfl|(simp only [*,zcn,zdv,zj8,zle,cT,cF]<;>rfl)|simp_all[Ty.cells,zcn,zdv,zj8,zle]
theorem zOZ:vN 354 zDW:=kF3 zlm zx zy zn (zo []) zWm
def zbK (b:Bare):Bool:=bif b.Guests.all zc9 then (zhD b.Memory 8&&(win (ln b.Guests) 1 2&&(ile (ln b.Outs) 40&&zc7 b.Pending))) else false
@[simp] abbrev zpX (b:Bare):Bool:=true
@[simp] abbrev zeQ (b:Bare):Bool:=zbK b
def zGB:Run:=rF1 (dT .bare) fun b=>(zpX b,[aB (zeQ b)])
def zNo (N:Nat)(c:Bare):OA:=
 (iter (σ:=(Int×(Int×(lM×(lG×((List Int)×Unit)))))) N (fun d a=>let b:=a.2.2.2.1; (cond (ilt a.1 (ln b)) (oN (inb a.1 (ln b)) (oN (znt (ix b a.1 zG)) (cond (nB (zlN (ix b a.1 zG))) oF (d ((zK .i64 a.1 1),(a.2.1,(a.2.2.1,(b,(a.2.2.2.2.1,()))))))))) (oN (ztg a.2.2.1 8) (cond (zmH a.2.2.1 8) (oN (zN (ln b) 1 2) (cond (zT (ln b) 1 2) (cond (ile (ln a.2.2.2.2.1) 40) (oN (zfr a.2.1) (some [(aB (zfq a.2.1))])) oF) oF)) oF)))) (0,(c.Pending,(c.Memory,(c.Guests,(c.Outs,()))))))
def z0v:FuncId->Nat->Option Tmpl:=zo [(236,0,{n:=38,tm:=[(1,.lp 0 0),(3,ti)],lo:=[(0,[.sl 0 [],.sl 1 [],.sl 2 [],ti])],ro:=[(0,(.sl .int),false),(1,.guest,false),(2,.int,false)]})]
theorem zYE (a:Bare)(k:zce big [aT .bare a])(m:zpX a=true):∃N,zNo N a=some [aB (zeQ a)]:=by
 have j:(_:List _).length<=big:=((zdd k).1 (.s .guest a.Guests) (by simp[AV.cvs,Ty.cells])).len;refine zcd fun N h=>?_;unfold zNo oN nB;conv=>zeta
 refine(zbl a.Guests (fun i (t:Unit)=>((i:Int),a.Pending,a.Memory,a.Guests,a.Outs,())) _ (fun _ x (_:Unit) l=>bif (zc9) x then l () else oF) (fun (t:Unit)=>(cond (ztg a.Memory 8) (cond (zmH a.Memory 8) (cond (zN (ln a.Guests) 1 2) (cond (zT (ln a.Guests) 1 2) (cond (ile (ln a.Outs) 40) (cond (zfr a.Pending) (some [(.one (.b (zfq a.Pending)))]) none) oF) oF) none) oF) none)) (fun i f t rec=>?_) (fun t rec=>?_) _ () (h j)).trans ?_;{simp only [zbA f,zbh f,zbo f,zbg f j,cT];exact zii rfl};{simp only [zbq,cF]};rw[zgq (zc9)];refine br (fun c=>?_) (fun c=>?_);{refine must rfl ?_;refine br (fun d=>?_) (fun d=>?_);{refine must rfl ?_;refine br (fun e=>?_) (fun e=>?_);{refine br (fun g=>?_) (fun g=>?_);{refine must rfl ?_;first|rfl|(simp only [c,d,e,g,zeQ,zbK,cT,cF]<;>rfl)|(simp_all [Ty.cells,zeQ,zbK];done)};{first|rfl|(simp only [c,d,e,g,zeQ,zbK,cT,cF]<;>rfl)|(simp_all [Ty.cells,zeQ,zbK];done)}};{first|rfl|(simp only [c,d,e,zeQ,zbK,cT,cF]<;>rfl)|(simp_all [Ty.cells,zeQ,zbK];done)}};{first|rfl|(simp only [c,d,zeQ,zbK,cT,cF]<;>rfl)|(simp_all [Ty.cells,zeQ,zbK];done)}};{first|rfl|(simp only [c,zeQ,zbK,cT,cF]<;>rfl)|(simp_all [Ty.cells,zeQ,zbK];done)}
theorem zRv:vN 236 zGB:=hF1 zlm zx zy zn z0v zYE
@[simp] abbrev zuz (b:Bare):Bool:=true
@[simp] abbrev zfh (b:Bare):Bool:=zbK b
def zGh:Run:=rF1 (dT .bare) fun b=>(zuz b,[aB (zfh b)])
def zM5 (N:Nat)(b:Bare):OA:=
 (iter (σ:=(Int×(Int×(Int×(lG×(lM×((List Int)×Unit))))))) N (fun e a=>let c:=a.2.2.2.1;let d:=(ix c a.2.1 zG); (cond (ilt a.2.1 a.1) (oN (inb a.2.1 (ln c)) (oN (zm9 d) (cond (nB (zlu d)) oF (e (a.1,((zK .i64 a.2.1 1),(a.2.2.1,(c,(a.2.2.2.2.1,(a.2.2.2.2.2.1,())))))))))) (oN (zs3 a.2.2.2.2.1 8) (cond (zmk a.2.2.2.2.1 8) (oN (zbM (ln c) 1 2) (cond (zbU (ln c) 1 2) (cond (ile (ln a.2.2.2.2.2.1) 40) (oN (zh2 a.2.2.1) (some [(aB (zio a.2.2.1))])) oF) oF)) oF)))) ((ln b.Guests),(0,(b.Pending,(b.Guests,(b.Memory,(b.Outs,())))))))
def z0n:FuncId->Nat->Option Tmpl:=zo [(207,0,{n:=36,tm:=[(1,.lp 0 0),(6,.sl 0 []),(7,ti),(8,ti)],lo:=[(0,[.sl 1 [],.sl 0 [],.sl 2 [],ti])],ro:=[(0,.guest,false),(1,(.sl .int),false),(2,.int,false)]})]
theorem zYk (a:Bare)(k:zce big [aT .bare a])(m:zuz a=true):∃N,zM5 N a=some [aB (zfh a)]:=by
 have j:(_:List _).length<=big:=((zdd k).1 (.s .guest a.Guests) (by simp[AV.cvs,Ty.cells])).len;refine zcd fun N h=>?_;unfold zM5 oN nB;conv=>zeta
 refine(zbl a.Guests (fun i (t:Unit)=>((ln a.Guests),(i:Int),a.Pending,a.Guests,a.Memory,a.Outs,())) _ (fun _ x (_:Unit) l=>bif (zc9) x then l () else oF) (fun (t:Unit)=>(cond (zs3 a.Memory 8) (cond (zmk a.Memory 8) (cond (zbM (ln a.Guests) 1 2) (cond (zbU (ln a.Guests) 1 2) (cond (ile (ln a.Outs) 40) (cond (zh2 a.Pending) (some [(.one (.b (zio a.Pending)))]) none) oF) oF) none) oF) none)) (fun i f t rec=>?_) (fun t rec=>?_) _ () (h j)).trans ?_;{simp only [zbA f,zbh f,zbo f,zbg f j,cT];exact zii rfl};{simp only [zbq,cF]};rw[zgq (zc9)];refine br (fun c=>?_) (fun c=>?_);{refine must rfl ?_;refine br (fun d=>?_) (fun d=>?_);{refine must rfl ?_;refine br (fun e=>?_) (fun e=>?_);{refine br (fun g=>?_) (fun g=>?_);{refine must rfl ?_;first|rfl|(simp only [c,d,e,g,zfh,zbK,cT,cF]<;>rfl)|(simp_all [Ty.cells,zfh,zbK];done)};{first|rfl|(simp only [c,d,e,g,zfh,zbK,cT,cF]<;>rfl)|(simp_all [Ty.cells,zfh,zbK];done)}};{first|rfl|(simp only [c,d,e,zfh,zbK,cT,cF]<;>rfl)|(simp_all [Ty.cells,zfh,zbK];done)}};{first|rfl|(simp only [c,d,zfh,zbK,cT,cF]<;>rfl)|(simp_all [Ty.cells,zfh,zbK];done)}};{first|rfl|(simp only [c,zfh,zbK,cT,cF]<;>rfl)|(simp_all [Ty.cells,zfh,zbK];done)}
theorem zRb:vN 207 zGh:=hF1 zlm zx zy zn z0n zYk
@[simp] abbrev zpx (b:Bare):Bool:=pc (SmB b)
@[simp] abbrev zc5 (b:Bare):Bare:=b
def zAF:Run:=rF1 (dT .bare) fun b=>(zpx b,[aT .bare (zc5 b)])
def zEF (N:Nat)(a:Bare):OA:=
 (oN (zf2 a.Memory) (oN (zeT a.Guests) (oN (zdJ a.Outs) (some [(aT .bare (⟨(zdB a.Memory),(zge a.Guests),(zdG a.Outs),a.Pending⟩:Bare))]))))
theorem zSo (a:Bare)(b:zpx a=true):∃N,zEF N a=some [aT .bare (zc5 a)]:=by have c:=zM.1 b;have d:_/\_/\_:=c;refine⟨0,?_⟩;unfold zEF oN;refine mu (mu (mu ?_));first|rfl|(simp only [*,zc5,cT,cF]<;>rfl)|simp_all[Ty.cells,zc5]
theorem zLz:vN 206 zAF:=kF1 zlm zx zy zn (zo []) zSo
@[simp] abbrev ze8 (b:Bare):Bool:=pc (SmB b)
@[simp] abbrev zcy (b:Bare):Bare:=b
def zDV:Run:=rF1 (dT .bare) fun b=>(ze8 b,[aT .bare (zcy b)])
def zJG (N:Nat)(a:Bare):OA:=
 (oN (zf6 a.Memory) (oN (zfF a.Guests) (oN (few (ln (ap [] a.Outs))) (some [(aT .bare (⟨(zeB a.Memory),(zf9 a.Guests),(ap [] a.Outs),a.Pending⟩:Bare))]))))
theorem zWl (a:Bare)(b:ze8 a=true):∃N,zJG N a=some [aT .bare (zcy a)]:=by have c:=zM.1 b;have d:_/\_/\_:=c;refine⟨0,?_⟩;unfold zJG oN;refine mu (mu (mu ?_));first|rfl|(simp only [*,zcy,cT,cF]<;>rfl)|simp_all[Ty.cells,zcy]
theorem zOY:vN 169 zDV:=kF1 zlm zx zy zn (zo []) zWl
def zbci:zX:=[(342,zDN),(349,zDE),(354,zDW),(236,zGB),(207,zGh),(206,zAF),(169,zDV)]++zbch
theorem z95:zL zbci:=zh zOI (zh zOz (zh zOZ (zh zRv (zh zRb (zh zLz (zh zOY zlm))))))
def zeu (b:Bare)(i:Int)(x:Guest):Bare:={b with Guests:=up b.Guests i x}
def zpJ (b:Bare)(n:Int):Bare:=bif ilt (ln b.Outs) 40 then {b with Outs:=ap b.Outs [n]} else b
@[simp] theorem zoI {b:Bare}{i:Int}{x:Guest}(h:SmB b)(a:SmG x):SmB (zeu b i x):=⟨h.1,zH5 h.2.1 a,h.2.2⟩
@[simp] theorem z6k {b:Bare}{n:Int}(h:SmB b):SmB (zpJ b n):=by unfold zpJ;cases a:ilt (ln b.Outs) 40;{exact h};{have:=qE a;refine⟨h.1,h.2.1,?_⟩;simp[ln] at *;omega}
@[simp] theorem zbgq (b:Bare)(n:Int):(zpJ b n).Guests=b.Guests:=by unfold zpJ;cases ilt (ln b.Outs) 40<;>rfl
@[simp] theorem zCP {m:List (List Int)}{p c v:Int}(h:SmM m):SmM (zbH m p c v):=by unfold zbH;cases a:zfI m p c;{exact h};{cases b:win v 0 99;{exact h};{exact zQs h (by simpa using zbfA h ((zCh m p c).1 a).1 [])}}
def z4p:zX:=zbci
theorem zvt:zL z4p:=z95
def zo1 (b:Bare)(g:Int)(x:Guest)(w:Bool):Bare :=
 bif zd8 x.Live (zbf (address x)) (zci w) then
  (bif w then zeu {b with Memory:=zbH b.Memory (zcb x.Live (zbf (address x)) (zci w)) (zcZ (address x)) x.A} g (zch x)
  else zeu b g (loaded x (cellAt b.Memory (zcb x.Live (zbf (address x)) (zci w)) (zcZ (address x)))))
 else zeu b g (stopped x (zsQ (zbf (address x)) w))
def zH6 (b:Bare)(g:Int)(x:Guest)(w:Int):Bare :=
 zeu (cond (cond (zle x.Ctl.Traps w) (ieq w 5) false) (zpJ b (zcA x.Prog x.Pc).X) b) g (zj8 x x.Ctl.Traps w)
def stepped (b:Bare)(g:Int)(x:Guest)(w:Int):Bare :=
 bif ieq w 1 then zeu b g (interrupted x) else (cond (ieq w 2) (zeu b g (plainly x)) (cond (ieq w 3) (zo1 b g x false) (cond (ieq w 4) (zo1 b g x true) (zH6 b g x w))))
def zl8 (b:Bare)(g:Int):Bool:=bif hasB g (ln b.Guests) then (cond (zbK b) (!ieq (zbe (gAt b g)) 0) false) else false
def zik (b:Bare)(g:Int):Bare:=bif zl8 b g then stepped b g (gAt b g) (zbe (gAt b g)) else b
@[simp] theorem z3z {b:Bare}{g:Int}{x:Guest}{w:Bool}(h:SmB b)(a:SmG x):SmB (zo1 b g x w):=by unfold zo1;cases zd8 x.Live (zbf (address x)) (zci w);{exact zoI h a};{cases w;{exact zoI h (zQq _ a)};{exact⟨zCP h.1,zH5 h.2.1 (zl2 a),h.2.2⟩}}
@[simp] theorem zbex {b:Bare}{g:Int}{x:Guest}{w:Int}(h:SmB b)(a:SmG x):SmB (zH6 b g x w):=by unfold zH6;cases (cond (zle x.Ctl.Traps w) (ieq w 5) false);{exact zoI h (zHk _ _ a)};{exact zoI (z6k h) (zHk _ _ a)}
@[simp] theorem z2v {b:Bare}{g:Int}{x:Guest}{w:Int}(h:SmB b)(a:SmG x):SmB (stepped b g x w):=by unfold stepped;cases ieq w 1;{cases ieq w 2;{cases ieq w 3;{cases ieq w 4;{exact zbex h a};{exact z3z h a}};{exact z3z h a}};{exact zoI h (zKF a)}};{exact zoI h (z3A a)}
@[simp] theorem zbgs {b:Bare}{g:Int}(h:SmB b):SmB (zik b g):=by unfold zik;cases zl8 b g;{exact h};{exact z2v h (zkw g h)}
theorem zbga (x:Guest):ieq (zbe x) 0=false->ieq (zbe x) 1=false->ieq (zbe x) 2=false->ieq (zbe x) 3=false->ieq (zbe x) 4=false->ieq (zbe x) 5=false->ieq (zbe x) 6=false->ieq (zbe x) 7=true:=by unfold zbe zAh;cases canRun x;{intro h;cases h};{cases ziE x;{simp only [cT,cF];generalize (zcA x.Prog x.Pc).Op=o;cases ieq o 3<;>cases ieq o 4<;>cases ieq o 5<;>cases ieq o 6<;>cases ieq o 7<;>simp [ieq]};{intro _ h;cases h}}
def SmK (k:Kept):Prop:=k.Known.length<=1048576/\k.Slots.length<=1048576
def zFb (l:List Kept):Prop:=l.length<=1048576/\∀x∈l,SmK x
def zfd (m:Mon):Prop:=m.Outer.length<=1048576/\SmM m.Out/\m.Dirty.length<=1048576/\zlg m.Guests/\m.Outs.length<=1048576/\zFb m.Tables
def zsJ (l:List Mon):Prop:=l.length<=1048576/\∀x∈l,zfd x
def SmH (h:Host):Prop:=SmM h.Memory/\zsJ h.Mons/\h.Buffer.length<=1048576/\h.IoBuffer.length<=1048576
@[simp] theorem zzQ (k:Kept):(∀c∈Ty.cells .kept k,CVB sm c)↔SmK k:=by simp[Ty.cells,SmK,sm_v]
@[simp] theorem zbah (l:List Kept):CVB sm (.s .kept l)↔zFb l:=by rw[zmb];simp only[zzQ];rfl
@[simp] theorem z2L (m:Mon):(∀c∈Ty.cells .mon m,CVB sm c)↔zfd m:=by simp only[Ty.cells,qG,qN,or_false,vJ,forall_eq,zqU,zw8,zbah,z4y,z04,z03,zbcz,and_true,true_and];rfl
@[simp] theorem zbdR (l:List Mon):CVB sm (.s .mon l)↔zsJ l:=by rw[zmb];simp only[z2L];rfl
@[simp] theorem zQ (h:Host):zcc h↔SmH h:=by unfold zcc;simp only[zbk,qG,qN,or_false,vJ,forall_eq,zqU,zbdR,zXO];rfl
theorem zbz {p:Prop}(h:p):pc p=true:=zbd h
theorem zBb {l:List Kept}{i:Int}{x:Kept}(h:zFb l)(b:SmK x):zFb (up l i x):=by refine⟨by simpa using h.1,fun y a=>?_⟩;rcases qY a with a|rfl;{exact h.2 y a};{exact b}
theorem zjn {l:List Mon}{i:Int}{x:Mon}(h:zsJ l)(b:zfd x):zsJ (up l i x):=by refine⟨by simpa using h.1,fun y a=>?_⟩;rcases qY a with a|rfl;{exact h.2 y a};{exact b}
theorem zoL {a:Type}{l:List a}(h:l.length<=1048576):few (ln (ap [] l))=true:=by rw[zm5,zbdZ];omega
@[simp] abbrev zbW (h:Host):Bool:=pc (zcc h)
@[simp] abbrev zu (h:Host):Host:=h
def zDX:Run:=rF1 dH fun b=>(zbW b,[aH (zu b)])
def zJI (N:Nat)(b:Host):OA:=
 (oN (zf6 b.Memory) (oN (few (ln (ap [] b.Buffer))) (oN (few (ln (ap [] b.IoBuffer))) (iter (σ:=(Int×(lM×(lN×(lE×(lE×(lM×(lN×(lE×(lE×(lM×(lN×(lE×(lE×Unit)))))))))))))) N (fun f a=>let e:=a.2.2.2.2.2.2.2.2.2.2.2.2.1;let d:=(ix a.2.2.1 a.1 zi);let c:=(ap a.2.2.2.2.2.2.2.2.2.2.1 [(zoF d)]); (cond (ilt a.1 (ln a.2.2.1)) (oN (inb a.1 (ln a.2.2.1)) (oN (zj2 d) (oN (few (ln c)) (f ((zK .i64 a.1 1),(a.2.1,(a.2.2.1,(a.2.2.2.1,(a.2.2.2.2.1,(a.2.2.2.2.2.1,(a.2.2.2.2.2.2.1,(a.2.2.2.2.2.2.2.1,(a.2.2.2.2.2.2.2.2.1,(a.2.2.2.2.2.2.2.2.2.1,(c,(a.2.2.2.2.2.2.2.2.2.2.2.1,(e,()))))))))))))))))) (some [(aH (⟨a.2.2.2.2.2.2.2.2.2.1,a.2.2.2.2.2.2.2.2.2.2.1,a.2.2.2.2.2.2.2.2.2.2.2.1,e⟩:Host))]))) (0,(b.Memory,(b.Mons,(b.Buffer,(b.IoBuffer,([],([],([],([],((zeB b.Memory),([],((ap [] b.Buffer),((ap [] b.IoBuffer),())))))))))))))))))
def zWO:FuncId->Nat->Option Tmpl:=zo [(73,0,{n:=36,tm:=[(1,.lp 0 0),(2,.lp 1 0),(3,.lp 2 0),(4,ti)],lo:=[(0,[.sl 0 [],.sl 1 [],.sl 2 [],.sl 3 []]),(1,[.sl 4 [],.sl 5 [],.sl 6 [],.sl 7 []]),(2,[.sl 8 [],.sl 9 [],.sl 10 [],.sl 11 []])],ro:=[(0,(.sl .int),false),(1,.mon,false),(2,.entry,false),(3,.entry,false),(4,(.sl .int),true),(5,.mon,true),(6,.entry,true),(7,.entry,true),(8,(.sl .int),true),(9,.mon,true),(10,.entry,true),(11,.entry,true)]})]
theorem zWn (a:Host)(k:zbW a=true):∃N,zJI N a=some [aH (zu a)]:=by
 obtain⟨g,f,h,j⟩:=(zQ a).1 (zM.1 k);have e:=zcQ f.1;refine zcd fun N d=>?_;unfold zJI oN;conv=>zeta
 refine must (zbz ((zqU _).2 g)) (must (zoL h) (must (zoL j) ?_));refine(zbl a.Mons (fun i (t:lN)=>((i:Int),a.Memory,a.Mons,a.Buffer,a.IoBuffer,[],[],[],[],(zeB a.Memory),t,(ap [] a.Buffer),(ap [] a.IoBuffer),())) _ (fun _ x b m=>bif zj2 x then (cond (few (ln (ap b [zoF x]))) (m (ap b [zoF x])) none) else none) (fun (t:lN)=>(some [(.agg (zbk (⟨(zeB a.Memory),t,(ap [] a.Buffer),(ap [] a.IoBuffer)⟩:Host)))])) (fun i c t rec=>?_) (fun t rec=>?_) _ ([]) (d e.1)).trans ?_;{simp only [zbA c,zbh c,zbo c,zbg c e.1,cT]};{simp only [zbq,cF]};exact zjs zj2 zoF _ a.Mons 0 [] (fun x l=>⟨zbz ((z2L x).2 (f.2 x l)),rfl⟩) (by simpa using e.2)
theorem zO1:vN 73 zDX:=kF1 zvt zx zy zn zWO zWn
@[simp] abbrev zgf (k:Kept):Bool:=pc (SmK k)
@[simp] abbrev zdp (k:Kept):Kept:=k
def zAI:Run:=rF1 (dT .kept) fun b=>(zgf b,[aT .kept (zdp b)])
def zEI (N:Nat)(a:Kept):OA:=
 (oN (few (ln (ap [] a.Known))) (oN (zgA a.Slots) (some [(aT .kept (⟨(ap [] a.Known),(ze4 a.Slots)⟩:Kept))])))
theorem zSr (a:Kept)(b:zgf a=true):∃N,zEI N a=some [aT .kept (zdp a)]:=by have c:=zM.1 b;obtain⟨f,g⟩:=c;have d:a.Known.length<=2147483648:=(by omega);have e:a.Slots.length<=2147483648:=(by omega);refine⟨0,?_⟩;unfold zEI oN;refine mu (mu ?_);first|rfl|(simp only [*,zdp,cT,cF]<;>rfl)|simp_all[Ty.cells,zdp]
theorem zLC:vN 201 zAI:=kF1 zvt zx zy zn (zo []) zSr
def zbb6:zX:=[(73,zDX),(201,zAI)]++z4p
theorem zXK:zL zbb6:=zh zO1 (zh zLC zvt)
@[simp] abbrev zkC (m:Mon):Bool:=pc (zfd m)
@[simp] abbrev zlz (m:Mon):Mon:=m
def zDC:Run:=rF1 (dT .mon) fun b=>(zkC b,[aT .mon (zlz b)])
def zJf (N:Nat)(b:Mon):OA:=
 (oN (zgA b.Outer) (oN (zf2 b.Out) (oN (few (ln (ap [] b.Dirty))) (oN (zeT b.Guests) (oN (zdJ b.Outs) (iter (σ:=(Int×(Int×(Int×(Int×(Int×(Int×(Int×(Int×(lK×(lK×(lS×(lM×(lB×(lG×((List Int)×(lS×(lM×(lB×(lG×((List Int)×(lK×Unit)))))))))))))))))))))) N (fun i a=>let h:=a.2.2.2.2.2.2.2.2.2.2.2.2.1;let g:=a.2.2.2.2.2.2.2.2.2.2.2.2.2.1;let f:=a.2.2.2.2.2.2.2.2.2.2.2.2.2.2.1;let e:=a.2.2.2.2.2.2.2.2.1;let d:=a.2.2.2.2.2.2.2.2.2.1;let c:=(ix d a.2.1 zd9); (cond (ilt a.2.1 a.1) (oN (inb a.2.1 (ln d)) (oN (zgf c) (oN (few (ln (ap e [(zdp c)]))) (i (a.1,((zK .i64 a.2.1 1),(a.2.2.1,(a.2.2.2.1,(a.2.2.2.2.1,(a.2.2.2.2.2.1,(a.2.2.2.2.2.2.1,(a.2.2.2.2.2.2.2.1,((ap e [(zdp c)]),(d,(a.2.2.2.2.2.2.2.2.2.2.1,(a.2.2.2.2.2.2.2.2.2.2.2.1,(h,(g,(f,(a.2.2.2.2.2.2.2.2.2.2.2.2.2.2.2.1,(a.2.2.2.2.2.2.2.2.2.2.2.2.2.2.2.2.1,(a.2.2.2.2.2.2.2.2.2.2.2.2.2.2.2.2.2.1,(a.2.2.2.2.2.2.2.2.2.2.2.2.2.2.2.2.2.2.1,(a.2.2.2.2.2.2.2.2.2.2.2.2.2.2.2.2.2.2.2.1,(a.2.2.2.2.2.2.2.2.2.2.2.2.2.2.2.2.2.2.2.2.1,()))))))))))))))))))))))))) (some [(aT .mon (⟨a.2.2.2.2.2.2.2.2.2.2.1,a.2.2.2.2.2.2.2.2.2.2.2.1,h,g,f,a.2.2.1,a.2.2.2.1,e,a.2.2.2.2.1⟩:Mon))]))) ((ln b.Tables),(0,(b.Pending,(b.Traps,(b.Own,(0,(0,(0,([],(b.Tables,((ze4 b.Outer),((zdB b.Out),((ap [] b.Dirty),((zge b.Guests),((zdG b.Outs),([],([],([],([],([],([],())))))))))))))))))))))))))))
def zWI:FuncId->Nat->Option Tmpl:=zo [(225,0,{n:=44,tm:=[(1,.lp 0 0),(2,.lp 1 0),(3,.sl 0 []),(29,.sl 1 []),(30,ti),(31,ti)],lo:=[(0,[.sl 2 [],.sl 3 [],.sl 4 [],.sl 5 [],.sl 6 [],ti,ti,.sl 1 [],ti]),(1,[.sl 7 [],.sl 8 [],.sl 9 [],.sl 10 [],.sl 11 [],ti,ti,.sl 12 [],ti])],ro:=[(0,.kept,true),(1,.kept,false),(2,.slot,true),(3,(.sl .int),true),(4,.bool,true),(5,.guest,true),(6,.int,true),(7,.slot,true),(8,(.sl .int),true),(9,.bool,true),(10,.guest,true),(11,.int,true),(12,.kept,true)]})]
theorem zVS (a:Mon)(p:zkC a=true):∃N,zJf N a=some [aT .mon (zlz a)]:=by
 obtain⟨s,l,m,n,u,f⟩:=zM.1 p;have e:=zcQ f.1;refine zcd fun N d=>?_;unfold zJf oN;conv=>zeta
 have g:zgA a.Outer=true:=(by simp;omega);have h:zf2 a.Out=true:=(by simp;exact l);have j:zeT a.Guests=true:=(by simp;exact n);have k:zdJ a.Outs=true:=(by simp;omega);refine must g (must h (must (zoL m) (must j (must k ?_))));refine(zbl a.Tables (fun i (t:lK)=>((ln a.Tables),(i:Int),a.Pending,a.Traps,a.Own,0,0,0,t,a.Tables,(ze4 a.Outer),(zdB a.Out),(ap [] a.Dirty),(zge a.Guests),(zdG a.Outs),[],[],[],[],[],[],())) _ (fun _ x b r=>bif zgf x then (cond (few (ln (ap b [zdp x]))) (r (ap b [zdp x])) none) else none) (fun (t:lK)=>(some [(.agg (Ty.cells .mon (⟨(ze4 a.Outer),(zdB a.Out),(ap [] a.Dirty),(zge a.Guests),(zdG a.Outs),a.Pending,a.Traps,t,a.Own⟩:Mon)))])) (fun i c t rec=>?_) (fun t rec=>?_) _ ([]) (d e.1)).trans ?_;{simp only [zbA c,zbh c,zbo c,zbg c e.1,cT]};{simp only [zbq,cF]};exact zjs zgf zdp _ a.Tables 0 [] (fun x q=>⟨zbz (f.2 x q),rfl⟩) (by simpa using e.2)
theorem zOx:vN 225 zDC:=kF1 zXK zx zy zn zWI zVS
def zbb7:zX:=[(225,zDC)]++zbb6
theorem zBE:zL zbb7:=zh zOx zXK
@[simp] abbrev zee (h:Host):Bool:=pc (zcc h)
@[simp] abbrev zf1 (h:Host):Host:=h
def zAG:Run:=rF1 dH fun b=>(zee b,[aH (zf1 b)])
def zEG (N:Nat)(b:Host):OA:=
 (oN (zf2 b.Memory) (oN (few (ln (ap [] b.Buffer))) (oN (few (ln (ap [] b.IoBuffer))) (iter (σ:=(Int×(Int×(lN×(lM×(lN×(lE×(lE×(lM×(lN×(lE×(lE×Unit)))))))))))) N (fun e a=>let d:=(ix a.2.2.1 a.2.1 zi);let c:=(ap a.2.2.2.2.2.2.2.2.1 [(zlz d)]); (cond (ilt a.2.1 a.1) (oN (inb a.2.1 (ln a.2.2.1)) (oN (zkC d) (oN (few (ln c)) (e (a.1,((zK .i64 a.2.1 1),(a.2.2.1,(a.2.2.2.1,(a.2.2.2.2.1,(a.2.2.2.2.2.1,(a.2.2.2.2.2.2.1,(a.2.2.2.2.2.2.2.1,(c,(a.2.2.2.2.2.2.2.2.2.1,(a.2.2.2.2.2.2.2.2.2.2.1,()))))))))))))))) (some [(aH (⟨a.2.2.2.2.2.2.2.1,a.2.2.2.2.2.2.2.2.1,a.2.2.2.2.2.2.2.2.2.1,a.2.2.2.2.2.2.2.2.2.2.1⟩:Host))]))) ((ln b.Mons),(0,(b.Mons,([],([],([],([],((zdB b.Memory),([],((ap [] b.Buffer),((ap [] b.IoBuffer),())))))))))))))))
def zTq:FuncId->Nat->Option Tmpl:=zo [(123,0,{n:=34,tm:=[(2,.lp 0 0),(3,.lp 1 0),(19,.sl 0 []),(20,ti),(21,ti)],lo:=[(0,[.sl 1 [],.sl 2 [],.sl 3 [],.sl 4 []]),(1,[.sl 5 [],.sl 6 [],.sl 7 [],.sl 8 []])],ro:=[(0,.mon,false),(1,(.sl .int),true),(2,.mon,true),(3,.entry,true),(4,.entry,true),(5,(.sl .int),true),(6,.mon,true),(7,.entry,true),(8,.entry,true)]})]
theorem zSp (a:Host)(l:zee a=true):∃N,zEG N a=some [aH (zf1 a)]:=by
 obtain⟨h,f,j,k⟩:=(zQ a).1 (zM.1 l);have e:=zcQ f.1;refine zcd fun N d=>?_;unfold zEG oN;conv=>zeta
 have g:zf2 a.Memory=true:=(by simp;exact h);refine must g (must (zoL j) (must (zoL k) ?_));refine(zbl a.Mons (fun i (t:lN)=>((ln a.Mons),(i:Int),a.Mons,[],[],[],[],(zdB a.Memory),t,(ap [] a.Buffer),(ap [] a.IoBuffer),())) _ (fun _ x b n=>bif zkC x then (cond (few (ln (ap b [zlz x]))) (n (ap b [zlz x])) none) else none) (fun (t:lN)=>(some [(.agg (zbk (⟨(zdB a.Memory),t,(ap [] a.Buffer),(ap [] a.IoBuffer)⟩:Host)))])) (fun i c t rec=>?_) (fun t rec=>?_) _ ([]) (d e.1)).trans ?_;{simp only [zbA c,zbh c,zbo c,zbg c e.1,cT]};{simp only [zbq,cF]};exact zjs zkC zlz _ a.Mons 0 [] (fun x m=>⟨zbz (f.2 x m),rfl⟩) (by simpa using e.2)
theorem zLA:vN 123 zAG:=kF1 zBE zx zy zn zTq zSp
def allI {a:Type}(p:Nat->a->Bool):List a->Nat->Bool
 |[],_=>true
 |x::l,i=>p i x&&allI p l (i+1)
theorem zLl {a b:Type}(p:Nat->a->Bool)(r:Option b)(K:Unit->Option b):∀(l:List a) (i:Nat),goL (fun i x (_:Unit) k=>bif p i x then k () else r) K l i ()=bif allI p l i then K () else r
 |[],_=>rfl
 |x::l,i=>by simp only[goL,allI];cases p i x;{rfl};{simp only [cT,u0];exact zLl p r K l (i+1)}
theorem zT8 {a:Type}(q:a->Bool)(l:List a)(d:a):∀(n i:Nat),i+n<=l.length->zo7 (fun j=>q (ix l (j:Int) d)) n i=((l.drop i).take n).all q
 | 0,i,_=>by simp[zo7]
 |n+1,i,h=>by have b:i<l.length:=(by omega);rw[kX b,List.take_succ_cons,kW,<- zT8 q l d n (i+1) (by omega)];simp only[zo7,zbo b]
def sameKey (a b:Entry):Bool:=bif ieq a.Tag b.Tag then ieq a.Page b.Page else false
def alone (l:List Entry)(i:Nat)(x:Entry):Bool:=(l.take i).all fun y=>!sameKey x y
def ze1 (l:List Entry):Bool:=bif allI (alone l) l 0 then ile (ln l) 6 else false
theorem zbau {a:Type}{l:List a}{i:Nat}(h:i<=l.length):inr 0 (i:Int) (ln l)=true:=qJ (by simp only[ln];omega)
@[simp] abbrev zpn (l:List Entry):Bool:=true
@[simp] abbrev zpm (l:List Entry):Bool:=ze1 l
def zAy:Run:=rF1 (dS .entry) fun b=>(zpn b,[aB (zpm b)])
def zEx (N:Nat)(g:lE):OA:=
 (iter (σ:=(Int×(Int×(lE×Unit)))) N (fun i b=>let c:=b.2.2.1;let e:=(ix c b.2.1 zew); (cond (ilt b.2.1 b.1) (oN (inb b.2.1 (ln c)) (oN (inr 0 b.2.1 (ln c)) (iter (σ:=(Int×(Int×(Int×(Int×(Int×(Int×(Int×(Int×(lE×(lE×Unit))))))))))) N (fun j a=>let d:=a.2.2.2.1;let f:=a.2.2.2.2.2.2.2.2.2.1;let h:=(j (a.1,(a.2.1,(a.2.2.1,((zK .i64 d 1),(a.2.2.2.2.1,(a.2.2.2.2.2.1,(a.2.2.2.2.2.2.1,(a.2.2.2.2.2.2.2.1,(a.2.2.2.2.2.2.2.2.1,(f,()))))))))))); (cond (ilt d a.2.2.1) (oN (inb d (ln f)) (cond (ieq a.2.2.2.2.1 (ix f d zew).Tag) (cond (ieq a.2.2.2.2.2.1 (ix f d zew).Page) oF h) h)) (i (a.1,((zK .i64 a.2.1 1),(a.2.2.2.2.2.2.2.2.1,())))))) (b.1,(b.2.1,((ln (tk c b.2.1)),(0,(e.Tag,(e.Page,(e.Host,(e.Rights,(c,((tk c b.2.1),()))))))))))))) (some [(aB (ile (ln c) 6))]))) ((ln g),(0,(g,()))))
def zTo:FuncId->Nat->Option Tmpl:=zo [(253,0,{n:=39,tm:=[(0,.sl 0 []),(7,.sl 0 []),(8,ti),(9,ti)],lo:=[],ro:=[(0,.entry,false)]}),(253,2,{n:=39,tm:=[(0,.sl 0 []),(4,.lp 0 0),(7,.sl 0 []),(8,ti),(9,ti),(16,.sl 1 []),(17,ti),(18,ti)],lo:=[(0,[ti,ti,ti,ti])],ro:=[(0,.entry,false),(1,.entry,false)]})]
theorem zSf (a:List Entry)(l:zce big [aS .entry a])(m:zpn a=true):∃N,zEx N a=some [aB (zpm a)]:=by
 have e:=(len0 l);refine zcd fun N d=>?_;unfold zEx oN;conv=>zeta
 refine(zbl a (fun i (t:Unit)=>((ln a),(i:Int),a,())) _ (fun i (x:Entry) (_:Unit) h=>bif alone a i x then h () else oF) (fun (t:Unit)=>(some [(.one (.b (ile (ln a) 6)))])) (fun i c t rec=>?_) (fun t rec=>?_) _ () (d e)).trans ?_;{simp only [zbA c,zbh c,zbo c,zbg c e,cT];rw[zbau (Nat.le_of_lt c),cT];have k:(tk a (i:Int)).length<=big:=qU (by simp[tk];omega) e;refine(zbl (tk a (i:Int)) (fun j (u:Unit)=>((ln a),(i:Int),(ln (tk a (i:Int))),(j:Int),a[i].Tag,a[i].Page,a[i].Host,a[i].Rights,a,(tk a (i:Int)),())) _ (fun _ (y:Entry) (_:Unit) h=>bif !sameKey a[i] y then h () else oF) (fun (u:Unit)=>(rec ((ln a),((((i+1:Nat)):Int),(a,()))))) (fun j g u f=>?_) (fun u f=>?_) _ () (d k)).trans ?_;{simp only [zbA g,zbh g,zbo g,zbg g k,cT,zbg c e];unfold sameKey;cases ieq a[i].Tag (tk a (i:Int))[j].Tag<;>cases ieq a[i].Page (tk a (i:Int))[j].Page<;>rfl};{simp only [zbq,cF,zbg c e]};rw[zgq (fun y=>!sameKey a[i] y)];rfl};{simp only [zbq,cF]};rw[zLl (alone a)];unfold zpm ze1;cases allI (alone a) a 0<;>rfl
theorem zLs:vN 253 zAy:=hF1 zBE zx zy zn zTo zSf
@[simp] abbrev zp0 (l:List Entry):Bool:=true
@[simp] abbrev zpZ (l:List Entry):Bool:=ze1 l
def zAR:Run:=rF1 (dS .entry) fun b=>(zp0 b,[aB (zpZ b)])
def zET (N:Nat)(f:lE):OA:=
 (iter (σ:=(Int×(lE×Unit))) N (fun g c=>(cond (ilt c.1 (ln c.2.1)) (iter (σ:=(Int×(Int×(lE×Unit)))) N (fun h a=>let b:=a.2.2.1;let e:=(ix b a.2.1 zew);let d:=(h (a.1,((zK .i64 a.2.1 1),(b,())))); (cond (ilt a.2.1 a.1) (oN (inb a.1 (ln b)) (oN (inb a.2.1 (ln b)) (cond (ieq (ix b a.1 zew).Tag e.Tag) (oN (inb a.1 (ln b)) (oN (inb a.2.1 (ln b)) (cond (ieq (ix b a.1 zew).Page e.Page) oF d))) d))) (g ((zK .i64 a.1 1),(b,()))))) (c.1,(0,(c.2.1,())))) (some [(aB (ile (ln c.2.1) 6))]))) (0,(f,())))
def zTv:FuncId->Nat->Option Tmpl:=zo [(227,0,{n:=43,tm:=[(0,.sl 0 []),(3,ti)],lo:=[],ro:=[(0,.entry,false)]}),(227,2,{n:=43,tm:=[(0,.sl 0 []),(3,ti),(4,ti)],lo:=[],ro:=[(0,.entry,false)]})]
theorem zSB (a:List Entry)(k:zce big [aS .entry a])(l:zp0 a=true):∃N,zET N a=some [aB (zpZ a)]:=by
 have g:=(len0 k);refine zcd fun N d=>?_;unfold zET oN;conv=>zeta
 refine(zbl a (fun i (t:Unit)=>((i:Int),a,())) _ (fun i (x:Entry) (_:Unit) h=>bif alone a i x then h () else oF) (fun (t:Unit)=>(some [(.one (.b (ile (ln a) 6)))])) (fun i c t rec=>?_) (fun t rec=>?_) _ () (d g)).trans ?_;{simp only [zbA c,zbh c,zbo c,zbg c g,cT];refine(zvZ i (fun (j:Nat) (_:Unit)=>((i:Int),((j:Int),(a,())))) _ (fun j (_:Unit) h=>bif !sameKey a[i] (ix a (j:Int) zew) then h () else oF) (fun _=>rec (((i+1:Nat):Int),(a,()))) (fun j m u f=>?_) (fun u f=>?_) _ () (d (by omega))).trans ?_;{have e:j<a.length:=(by omega);simp only[show ilt (j:Int) (i:Int)=true from qJ (by omega),zbh c,zbh e,zbo c,zbg e g,cT];unfold sameKey;cases ieq a[i].Tag (ix a (j:Int) zew).Tag<;>cases ieq a[i].Page (ix a (j:Int) zew).Page<;>rfl};{simp only [show ilt (i:Int) (i:Int)=false from qH (by omega),zbg c g,cF]};rw[zHO (fun j=>!sameKey a[i] (ix a (j:Int) zew)),zT8 (fun y=>!sameKey a[i] y) a _ i 0 (by omega)];rfl};{simp only [zbq,cF]};rw[zLl (alone a)];unfold zpZ ze1;cases allI (alone a) a 0<;>rfl
theorem zLL:vN 227 zAR:=hF1 zBE zx zy zn zTv zSB
def zbb8:zX:=[(123,zAG),(227,zAR),(253,zAy)]++zbb7
theorem zK6:zL zbb8:=zh zLA (zh zLL (zh zLs zBE))
theorem zR7 (a b:Int):igt a b = !ile a b:=by unfold igt ile;by_cases h:a<=b;{rw [qJ h,qH (by omega)];rfl};{rw [qH h,qJ (by omega)];rfl}
theorem stB {c M:Bool}{E:OA}(h:c=true->E=some [AV.one (.b M)]):(cond (cond c false true) (some [AV.one (.b false)]) E)=some [AV.one (.b (cond c M false))]:=by cases c;{rfl};{exact h rfl}
theorem stI {a b:Int}{M:Bool}{E:OA}(h:ieq a b=true->E=some [AV.one (.b M)]):(cond (ine a b) (some [AV.one (.b false)]) E)=some [AV.one (.b (cond (ieq a b) M false))]:=by rw[zq2];cases c:ieq a b;{rfl};{exact h c}
theorem stG {a b:Int}{M:Bool}{E:OA}(h:ile a b=true->E=some [AV.one (.b M)]):(cond (igt a b) (some [AV.one (.b false)]) E)=some [AV.one (.b (cond (ile a b) M false))]:=by rw[zR7];cases c:ile a b;{rfl};{exact h c}
def zmr (s:Slot)(p:List Int):Bool:=bif zc1 s noSlot then zcr p else (cond (enough s.Rights 1) (ile (ln p) 0) false)
def fits (m:Mon)(j:Nat):Bool:=zmr (ix m.Outer (j:Int) zV) (ix m.Out (j:Int) [])
def zeb (m:Mon):Bool:=bif win (ln m.Guests) 1 2 then (cond (ieq (ln m.Tables) (ln m.Guests)) (cond (zcY m.Outer 8 12) (cond (ieq (ln m.Out) 8) (cond (ieq (ln m.Dirty) 8) (cond (ile (ln m.Outs) 40) (cond (zc7 m.Pending) (cond (win m.Traps 0 3) (cond (win m.Own 0 1000000000) (cond (m.Guests.all zc9) (zo7 (fits m) 8 0) false) false) false) false) false) false) false) false) false) else false
theorem zto {t:List Slot}{n p:Int}(h:zcY t n p=true):ln t=n:=by unfold zcY at h;cases a:t.all (fun s=>zdK s p);{rw [a]at h;cases h};{rw [a]at h;exact qE h}
@[simp] abbrev zs4 (m:Mon):Bool:=true
@[simp] abbrev zu6 (m:Mon):Bool:=zeb m
def zKd:Run:=rF1 (dT .mon) fun b=>(zs4 b,[aB (zu6 b)])
def zTP (N:Nat)(a:Mon):OA:=
 let h:=(ln a.Guests); (oN (zbM h 1 2) (cond (nB (zbU h 1 2)) oF (cond (ine (ln a.Tables) h) oF (oN (znc a.Outer 8 12) (cond (nB (zh4 a.Outer 8 12)) oF (cond (ine (ln a.Out) 8) oF (cond (ine (ln a.Dirty) 8) oF (cond (igt (ln a.Outs) 40) oF (oN (zh2 a.Pending) (cond (nB (zio a.Pending)) oF (oN (zbM a.Traps 0 3) (cond (nB (zbU a.Traps 0 3)) oF (oN (zbM a.Own 0 1000000000) (cond (nB (zbU a.Own 0 1000000000)) oF (iter (σ:=(Int×(Int×(Int×(Int×(Int×(lG×(lS×(lM×(lB×((List Int)×(lK×Unit)))))))))))) N (fun l b=>let i:=b.2.2.2.2.2.2.1;let g:=b.2.2.2.2.2.1;let k:=(ix g b.2.1 zG); (cond (ilt b.2.1 b.1) (oN (inb b.2.1 (ln g)) (oN (zm9 k) (cond (nB (zlu k)) oF (l (b.1,((zK .i64 b.2.1 1),(b.2.2.1,(b.2.2.2.1,(b.2.2.2.2.1,(g,(i,(b.2.2.2.2.2.2.2.1,(b.2.2.2.2.2.2.2.2.1,(b.2.2.2.2.2.2.2.2.2.1,(b.2.2.2.2.2.2.2.2.2.2.1,()))))))))))))))) (iter (σ:=(Int×(Int×(Int×(Int×(Int×(lS×(lM×(lB×(lG×((List Int)×(lK×Unit)))))))))))) N (fun m c=>let d:=c.2.1;let e:=c.2.2.2.2.2.2.1;let f:=(ix c.2.2.2.2.2.1 d zV);let j:=(m (c.1,((zK .i64 d 1),(c.2.2.1,(c.2.2.2.1,(c.2.2.2.2.1,(c.2.2.2.2.2.1,(e,(c.2.2.2.2.2.2.2.1,(c.2.2.2.2.2.2.2.2.1,(c.2.2.2.2.2.2.2.2.2.1,(c.2.2.2.2.2.2.2.2.2.2.1,())))))))))))); (cond (ilt d c.1) (oN (inb d (ln c.2.2.2.2.2.1)) (oN zdo (cond (cond (ieq f.Page zcO.Page) (ieq f.Rights zcO.Rights) false) (oN (inb d (ln e)) (oN (zh1 (ix e d [])) (cond (nB (zgz (ix e d []))) oF j))) (oN (zdF f.Rights 1) (cond (nB (zd3 f.Rights 1)) oF (oN (inb d (ln e)) (cond (igt (ln (ix e d [])) 0) oF j))))))) oT)) ((ln i),(0,(b.2.2.1,(b.2.2.2.1,(b.2.2.2.2.1,(i,(b.2.2.2.2.2.2.2.1,(b.2.2.2.2.2.2.2.2.1,(g,(b.2.2.2.2.2.2.2.2.2.1,(b.2.2.2.2.2.2.2.2.2.2.1,())))))))))))))) (h,(0,(a.Pending,(a.Traps,(a.Own,(a.Guests,(a.Outer,(a.Out,(a.Dirty,(a.Outs,(a.Tables,()))))))))))))))))))))))))))
def z2x:FuncId->Nat->Option Tmpl:=zo [(254,0,{n:=106,tm:=[(1,.lp 0 0),(64,.sl 0 []),(65,ti),(66,ti)],lo:=[(0,[.sl 1 [],.sl 2 [],.sl 3 [],.sl 0 [],.sl 4 [],ti,ti,.sl 5 [],ti])],ro:=[(0,.guest,false),(1,.slot,false),(2,(.sl .int),false),(3,.bool,false),(4,.int,false),(5,.kept,false)]}),(254,2,{n:=106,tm:=[(1,.lp 0 0),(75,.sl 0 []),(76,ti),(77,ti)],lo:=[(0,[.sl 0 [],.sl 1 [],.sl 2 [],.sl 3 [],.sl 4 [],ti,ti,.sl 5 [],ti])],ro:=[(0,.slot,false),(1,(.sl .int),false),(2,.bool,false),(3,.guest,false),(4,.int,false),(5,.kept,false)]})]
theorem z1p (a:Mon)(l:zce big [aT .mon a])(E:zs4 a=true):∃N,zTP N a=some [aB (zu6 a)]:=by
 have hg:a.Guests.length<=big:=((zdd l).1 (.s .guest a.Guests) (by simp[AV.cvs,Ty.cells])).len;have m:a.Outer.length<=big:=((zdd l).1 (.s .slot a.Outer) (by simp[AV.cvs,Ty.cells])).len;refine zcd fun N d=>?_;unfold zTP zu6 zeb oN nB;conv=>zeta
 refine must rfl (stB fun w=>stI fun y=>must rfl (stB fun r=>stI fun v=>stI fun z=>stG fun A=>must rfl (stB fun B=>must rfl (stB fun C=>must rfl (stB fun D=>?_)))));have p:=zto r;have q:ln a.Out=8:=qE v;simp only[ln] at p q;refine(zbl a.Guests (fun i (t:Unit)=>((ln a.Guests),(i:Int),a.Pending,a.Traps,a.Own,a.Guests,a.Outer,a.Out,a.Dirty,a.Outs,a.Tables,())) _ (fun _ (x:Guest) (_:Unit) g=>bif zc9 x then g () else oF) (fun (t:Unit)=>(iter (σ:=(Int×(Int×(Int×(Int×(Int×(lS×(lM×(lB×(lG×((List Int)×(lK×Unit)))))))))))) N (fun n c=>(cond (ilt c.2.1 c.1) (cond (inb c.2.1 (ln c.2.2.2.2.2.1)) (cond zdo (cond (cond (ieq (ix c.2.2.2.2.2.1 c.2.1 zV).Page zcO.Page) (ieq (ix c.2.2.2.2.2.1 c.2.1 zV).Rights zcO.Rights) false) (cond (inb c.2.1 (ln c.2.2.2.2.2.2.1)) (cond (zh1 (ix c.2.2.2.2.2.2.1 c.2.1 [])) (cond (cond (zgz (ix c.2.2.2.2.2.2.1 c.2.1 [])) false true) oF (n (c.1,((zK .i64 c.2.1 1),(c.2.2.1,(c.2.2.2.1,(c.2.2.2.2.1,(c.2.2.2.2.2.1,(c.2.2.2.2.2.2.1,(c.2.2.2.2.2.2.2.1,(c.2.2.2.2.2.2.2.2.1,(c.2.2.2.2.2.2.2.2.2.1,(c.2.2.2.2.2.2.2.2.2.2.1,()))))))))))))) none) none) (cond (zdF (ix c.2.2.2.2.2.1 c.2.1 zV).Rights 1) (cond (cond (zd3 (ix c.2.2.2.2.2.1 c.2.1 zV).Rights 1) false true) oF (cond (inb c.2.1 (ln c.2.2.2.2.2.2.1)) (cond (igt (ln (ix c.2.2.2.2.2.2.1 c.2.1 [])) 0) oF (n (c.1,((zK .i64 c.2.1 1),(c.2.2.1,(c.2.2.2.1,(c.2.2.2.2.1,(c.2.2.2.2.2.1,(c.2.2.2.2.2.2.1,(c.2.2.2.2.2.2.2.1,(c.2.2.2.2.2.2.2.2.1,(c.2.2.2.2.2.2.2.2.2.1,(c.2.2.2.2.2.2.2.2.2.2.1,()))))))))))))) none)) none)) none) none) (some [(.one (.b true))]))) ((ln a.Outer),(0,(a.Pending,(a.Traps,(a.Own,(a.Outer,(a.Out,(a.Dirty,(a.Guests,(a.Outs,(a.Tables,()))))))))))))) (fun i h t rec=>?_) (fun t rec=>?_) _ () (d hg)).trans ?_;{simp only [zbA h,zbh h,zbo h,zbg h hg,cT];simp only[zm9,zlu,cT];cases zc9 a.Guests[i]<;>rfl};{simp only [zbq,cF]};rw[zgq zc9];cases a.Guests.all zc9;{rfl};simp only[cT];refine(zbl a.Outer (fun j (u:Unit)=>((ln a.Outer),(j:Int),a.Pending,a.Traps,a.Own,a.Outer,a.Out,a.Dirty,a.Guests,a.Outs,a.Tables,())) _ (fun j (_:Slot) (_:Unit) g=>bif fits a j then g () else oF) (fun (u:Unit)=>(some [(.one (.b true))])) (fun j e u f=>?_) (fun u f=>?_) _ () (d m)).trans ?_;{simp only [zbA e,zbh e,zbo e,zbg e m,cT];have k:j<a.Out.length:=(by omega);simp only[zdo,zcO,zh1,zgz,zdF,zd3,zbh k,zR7,cT];unfold fits zmr;simp only[zbo e,zc1];cases ieq a.Outer[j].Page noSlot.Page<;>cases ieq a.Outer[j].Rights noSlot.Rights<;>cases enough a.Outer[j].Rights 1<;>cases ile (ln (ix a.Out (j:Int) [])) 0<;>cases zcr (ix a.Out (j:Int) [])<;>rfl};{simp only [zbq,cF]};rw[zzZ (fun j (_:Unit) g=>bif fits a j then g () else oF),zHO (fits a),show a.Outer.length=8 by omega];cases zo7 (fits a) 8 0<;>rfl
theorem zVm:vN 254 zKd:=hF1 zK6 zx zy zn z2x z1p
@[simp] abbrev zti (m:Mon):Bool:=true
@[simp] abbrev zvc (m:Mon):Bool:=zeb m
def zKn:Run:=rF1 (dT .mon) fun b=>(zti b,[aB (zvc b)])
def zT0 (N:Nat)(c:Mon):OA:=
 (oN (zN (ln c.Guests) 1 2) (cond (nB (zT (ln c.Guests) 1 2)) oF (cond (ine (ln c.Tables) (ln c.Guests)) oF (oN (znB c.Outer 8 12) (cond (nB (zia c.Outer 8 12)) oF (cond (ine (ln c.Out) 8) oF (cond (ine (ln c.Dirty) 8) oF (iter (σ:=(Int×(Int×(Int×(Int×(lS×(lM×(lB×(lG×((List Int)×(lK×Unit))))))))))) N (fun l b=>let d:=b.2.2.2.2.2.2.2.1; (cond (ilt b.1 (ln d)) (oN (inb b.1 (ln d)) (oN (znt (ix d b.1 zG)) (cond (nB (zlN (ix d b.1 zG))) oF (l ((zK .i64 b.1 1),(b.2.1,(b.2.2.1,(b.2.2.2.1,(b.2.2.2.2.1,(b.2.2.2.2.2.1,(b.2.2.2.2.2.2.1,(d,(b.2.2.2.2.2.2.2.2.1,(b.2.2.2.2.2.2.2.2.2.1,())))))))))))))) (iter (σ:=(Int×(Int×(Int×(Int×(lS×(lM×(lB×(lG×((List Int)×(lK×Unit))))))))))) N (fun m a=>let h:=a.2.2.2.2.1;let i:=(inb a.1 (ln a.2.2.2.2.2.1));let e:=(ix a.2.2.2.2.2.1 a.1 []);let g:=(ix h a.1 zV);let k:=(ieq g.Rights zbx.Rights);let j:=(ieq g.Page zbx.Page);let f:=(m ((zK .i64 a.1 1),(a.2.1,(a.2.2.1,(a.2.2.2.1,(h,(a.2.2.2.2.2.1,(a.2.2.2.2.2.2.1,(a.2.2.2.2.2.2.2.1,(a.2.2.2.2.2.2.2.2.1,(a.2.2.2.2.2.2.2.2.2.1,()))))))))))); (cond (ilt a.1 8) (oN (inb a.1 (ln h)) (oN zcC (cond (nB (cond j k false)) (oN i (cond (igt (ln e) 0) oF (oN (inb a.1 (ln h)) (oN (zgO g.Rights 1) (cond (nB (zhr g.Rights 1)) oF (cond (nB (nB (cond j k false))) (oN i (oN (zf4 e) (cond (nB (zfp e)) oF f))) f)))))) (cond (nB (nB (cond j k false))) (oN i (oN (zf4 e) (cond (nB (zfp e)) oF f))) f)))) (cond (ile (ln a.2.2.2.2.2.2.2.2.1) 40) (oN (zfr a.2.1) (cond (zfq a.2.1) (oN (zN a.2.2.1 0 3) (cond (zT a.2.2.1 0 3) (oN (zN a.2.2.2.1 0 1000000000) (some [(aB (zT a.2.2.2.1 0 1000000000))])) oF)) oF)) oF))) (0,(b.2.1,(b.2.2.1,(b.2.2.2.1,(b.2.2.2.2.1,(b.2.2.2.2.2.1,(b.2.2.2.2.2.2.1,(d,(b.2.2.2.2.2.2.2.2.1,(b.2.2.2.2.2.2.2.2.2.1,()))))))))))))) (0,(c.Pending,(c.Traps,(c.Own,(c.Outer,(c.Out,(c.Dirty,(c.Guests,(c.Outs,(c.Tables,()))))))))))))))))))
def z2z:FuncId->Nat->Option Tmpl:=zo [(228,0,{n:=115,tm:=[(1,.lp 0 0),(3,ti)],lo:=[(0,[.sl 0 [],.sl 1 [],.sl 2 [],.sl 3 [],.sl 4 [],ti,ti,.sl 5 [],ti])],ro:=[(0,.slot,false),(1,(.sl .int),false),(2,.bool,false),(3,.guest,false),(4,.int,false),(5,.kept,false)]}),(228,2,{n:=115,tm:=[(1,.lp 0 0),(4,ti)],lo:=[(0,[.sl 0 [],.sl 1 [],.sl 2 [],.sl 3 [],.sl 4 [],ti,ti,.sl 5 [],ti])],ro:=[(0,.slot,false),(1,(.sl .int),false),(2,.bool,false),(3,.guest,false),(4,.int,false),(5,.kept,false)]})]
theorem z1B (c:Mon)(r:zce big [aT .mon c])(A:zti c=true):∃N,zT0 N c=some [aB (zvc c)]:=by
 have hg:c.Guests.length<=big:=((zdd r).1 (.s .guest c.Guests) (by simp[AV.cvs,Ty.cells])).len;refine zcd fun N d=>?_;unfold zT0 zvc zeb oN nB;conv=>zeta
 refine must rfl (stB fun w=>stI fun y=>must rfl (stB fun p=>stI fun q=>stI fun z=>?_));have m:=zto p;have n:ln c.Out=8:=qE q;simp only[ln] at m n;refine(zbl c.Guests (fun i (t:Unit)=>((i:Int),c.Pending,c.Traps,c.Own,c.Outer,c.Out,c.Dirty,c.Guests,c.Outs,c.Tables,())) _ (fun _ (x:Guest) (_:Unit) l=>bif zc9 x then l () else oF) (fun (t:Unit)=>(iter (σ:=(Int×(Int×(Int×(Int×(lS×(lM×(lB×(lG×((List Int)×(lK×Unit))))))))))) N (fun h a=>(cond (ilt a.1 8) (cond (inb a.1 (ln a.2.2.2.2.1)) (cond zcC (cond (cond (cond (ieq (ix a.2.2.2.2.1 a.1 zV).Page zbx.Page) (ieq (ix a.2.2.2.2.1 a.1 zV).Rights zbx.Rights) false) false true) (cond (inb a.1 (ln a.2.2.2.2.2.1)) (cond (igt (ln (ix a.2.2.2.2.2.1 a.1 [])) 0) oF (cond (inb a.1 (ln a.2.2.2.2.1)) (cond (zgO (ix a.2.2.2.2.1 a.1 zV).Rights 1) (cond (cond (zhr (ix a.2.2.2.2.1 a.1 zV).Rights 1) false true) oF (cond (cond (cond (cond (ieq (ix a.2.2.2.2.1 a.1 zV).Page zbx.Page) (ieq (ix a.2.2.2.2.1 a.1 zV).Rights zbx.Rights) false) false true) false true) (cond (inb a.1 (ln a.2.2.2.2.2.1)) (cond (zf4 (ix a.2.2.2.2.2.1 a.1 [])) (cond (cond (zfp (ix a.2.2.2.2.2.1 a.1 [])) false true) oF (h ((zK .i64 a.1 1),(a.2.1,(a.2.2.1,(a.2.2.2.1,(a.2.2.2.2.1,(a.2.2.2.2.2.1,(a.2.2.2.2.2.2.1,(a.2.2.2.2.2.2.2.1,(a.2.2.2.2.2.2.2.2.1,(a.2.2.2.2.2.2.2.2.2.1,())))))))))))) none) none) (h ((zK .i64 a.1 1),(a.2.1,(a.2.2.1,(a.2.2.2.1,(a.2.2.2.2.1,(a.2.2.2.2.2.1,(a.2.2.2.2.2.2.1,(a.2.2.2.2.2.2.2.1,(a.2.2.2.2.2.2.2.2.1,(a.2.2.2.2.2.2.2.2.2.1,()))))))))))))) none) none)) none) (cond (cond (cond (cond (ieq (ix a.2.2.2.2.1 a.1 zV).Page zbx.Page) (ieq (ix a.2.2.2.2.1 a.1 zV).Rights zbx.Rights) false) false true) false true) (cond (inb a.1 (ln a.2.2.2.2.2.1)) (cond (zf4 (ix a.2.2.2.2.2.1 a.1 [])) (cond (cond (zfp (ix a.2.2.2.2.2.1 a.1 [])) false true) oF (h ((zK .i64 a.1 1),(a.2.1,(a.2.2.1,(a.2.2.2.1,(a.2.2.2.2.1,(a.2.2.2.2.2.1,(a.2.2.2.2.2.2.1,(a.2.2.2.2.2.2.2.1,(a.2.2.2.2.2.2.2.2.1,(a.2.2.2.2.2.2.2.2.2.1,())))))))))))) none) none) (h ((zK .i64 a.1 1),(a.2.1,(a.2.2.1,(a.2.2.2.1,(a.2.2.2.2.1,(a.2.2.2.2.2.1,(a.2.2.2.2.2.2.1,(a.2.2.2.2.2.2.2.1,(a.2.2.2.2.2.2.2.2.1,(a.2.2.2.2.2.2.2.2.2.1,()))))))))))))) none) none) (cond (ile (ln a.2.2.2.2.2.2.2.2.1) 40) (cond (zfr a.2.1) (cond (zfq a.2.1) (cond (zN a.2.2.1 0 3) (cond (zT a.2.2.1 0 3) (cond (zN a.2.2.2.1 0 1000000000) (some [(.one (.b (zT a.2.2.2.1 0 1000000000)))]) none) oF) none) oF) none) oF))) (0,(c.Pending,(c.Traps,(c.Own,(c.Outer,(c.Out,(c.Dirty,(c.Guests,(c.Outs,(c.Tables,())))))))))))) (fun i g t rec=>?_) (fun t rec=>?_) _ () (d hg)).trans ?_;{simp only [zbA g,zbh g,zbo g,zbg g hg,cT];simp only[znt,zlN,cT];cases zc9 c.Guests[i]<;>rfl};{simp only [zbq,cF]};rw[zgq zc9];cases B:c.Guests.all zc9;{simp only [cF];cases ile (ln c.Outs) 40<;>cases zc7 c.Pending<;>cases win c.Traps 0 3<;>cases win c.Own 0 1000000000<;>rfl};simp only[cT];refine(zvZ 8 (fun j (u:Unit)=>((j:Int),c.Pending,c.Traps,c.Own,c.Outer,c.Out,c.Dirty,c.Guests,c.Outs,c.Tables,())) _ (fun j (_:Unit) l=>bif fits c j then l () else oF) (fun (u:Unit)=>(cond (ile (ln c.Outs) 40) (cond (zfr c.Pending) (cond (zfq c.Pending) (cond (zN c.Traps 0 3) (cond (zT c.Traps 0 3) (cond (zN c.Own 0 1000000000) (some [(.one (.b (zT c.Own 0 1000000000)))]) none) oF) none) oF) none) oF)) (fun j v u f=>?_) (fun u f=>?_) _ () (d (by decide))).trans ?_;{simp only [show ilt (j:Int) 8=true from qJ (by omega),zbg v (show 8<=big by decide),cT];have e:j<c.Outer.length:=(by omega);have k:j<c.Out.length:=(by omega);simp only[zcC,zbx,zf4,zfp,zgO,zhr,zbh e,zbh k,zR7,cT];unfold fits zmr;simp only[zbo e,zc1];cases ieq c.Outer[j].Page noSlot.Page<;>cases ieq c.Outer[j].Rights noSlot.Rights<;>cases enough c.Outer[j].Rights 1<;>cases ile (ln (ix c.Out (j:Int) [])) 0<;>cases zcr (ix c.Out (j:Int) [])<;>rfl};{simp only [show ilt (((8:Nat)):Int) 8=false from qH (by omega),cF];rfl};rw[zHO (fits c)];simp only[zfr,zfq,zN,zW7,cT];cases zo7 (fits c) 8 0<;>cases ile (ln c.Outs) 40<;>cases zc7 c.Pending<;>cases win c.Traps 0 3<;>cases win c.Own 0 1000000000<;>rfl
theorem zVx:vN 228 zKn:=hF1 zK6 zx zy zn z2z z1B
def zbb9:zX:=[(228,zKn),(254,zKd)]++zbb8
theorem zK7:zL zbb9:=zh zVx (zh zVm zK6)
def zgH:List Slot->List Bool->Option (List Bool)
 |[],u=>some u
 |s::l,u=>bif ilt s.Page 0 then zgH l u else (cond (ix u s.Page false) none (zgH l (up u s.Page true)))
def ziM:List Mon->List Bool->Bool
 |[],_=>true
 |m::l,u=>bif zeb m then (match zgH m.Outer u with|some a=>ziM l a|none=>false) else false
def zb3 (h:Host):Bool:=bif zhD h.Memory 12 then (cond (win (ln h.Mons) 1 3) (cond (ze1 h.Buffer) (cond (ze1 h.IoBuffer) (ziM h.Mons (rp 12 false)) false) false) false) else false
theorem zqI:∀(l:List Slot) (u a:List Bool),zgH l u=some a->a.length=u.length
 |[],u,a,h=>by cases h;rfl
 |s::l,u,a,h=>by simp only[zgH]at h;cases b:ilt s.Page 0;{rw [b]at h;cases c:ix u s.Page false;{rw [c]at h;simpa using zqI l _ a h};{rw [c]at h;cases h}};{rw [b]at h;exact zqI l u a h}
theorem zH4 {t:List Slot}{n:Int}(h:zcY t n 12=true):∀s∈t,s.Page<12:=by intro s d;unfold zcY at h;cases b:t.all (fun s=>zdK s 12);{rw [b]at h;cases h};{have:=qM.1 b s d;unfold zdK at this;cases a:zc1 s noSlot;{rw [a] at this;simp only[cF,show igt 12 0=true from rfl,cT] at this;cases c:win s.Page 0 (wsub .i64 12 1);{rw [c] at this;cases this};{have:=(zfv.1 c).2;rw[show wsub .i64 12 1=11 from rfl] at this;omega}};{unfold zc1 at a;rw[qD]at a;have a:s.Page = -1:=qE a.1;omega}}
theorem z0P {s:Slot}{u:List Bool}(h:s.Page<12)(b:u.length=12)(a:ilt s.Page 0=false):inb s.Page (ln u)=true:=by have:=jT a;exact qJ (by simp only[ln];omega)
def zvr {a:Type}(r:Option a)(y:Slot)(u:List Bool)(b:List Bool->Option a):Option a:=bif ilt y.Page 0 then b u else (cond (inb y.Page (ln u)) (cond (ix u y.Page false) r (cond (inb y.Page (ln u)) (share (up u y.Page true) (fun c=>b c)) none)) none)
theorem zBO {c:Type}(r:Option c)(K:List Bool->Option c):∀(l:List Slot) (i:Nat) (u:List Bool),(∀s∈l,s.Page<12)->u.length=12->
 goL (fun _ y u g=>zvr r y u g) K l i u=match zgH l u with|some f=>K f|none=>r
 |[],_,_,_,_=>rfl
 |s::l,i,u,h,b=>by simp only[goL,zgH,zvr];cases d:ilt s.Page 0;{have e:=z0P (h s (by simp)) b d;rw[e];cases ix u s.Page false;{simp only [cF,cT,share];exact zBO r K l (i+1) _ (fun s a=>h s (by simp[a])) (by simpa using b)};{rfl}};{simp only [cT];exact zBO r K l (i+1) u (fun s a=>h s (by simp[a])) b}
def z4d {b:Type}(r:Option b)(m:Mon)(u:List Bool)(a:List Bool->Option b):Option b:=bif zeb m then goL (fun _ y u a=>zvr r y u a) a m.Outer 0 u else r
theorem zde {c x:Bool}:((cond c x false)=true)↔c=true/\x=true:=by cases c<;>simp
theorem znm {m:Mon}(h:zeb m=true):zcY m.Outer 8 12=true:=by unfold zeb at h;simp only[zde]at h;exact h.2.2.1
theorem zX0 {K:Bool->OA}(k:List Bool->OA)(a:∀u,k u=K true):∀(l:List Mon) (i:Nat) (u:List Bool),u.length=12->
 goL (fun _ m u g=>z4d (K false) m u g) k l i u=K (ziM l u)
 |[],_,u,_=>a u
 |m::l,i,u,b=>by simp only[goL,ziM,z4d];cases c:zeb m;{rfl};{simp only [cT];have e:=znm c;rw[zBO _ _ _ _ _ (zH4 e) b];cases d:zgH m.Outer u with|none=>rfl|some f=>exact zX0 k a l (i+1) f ((zqI _ _ _ d).trans b)}
@[simp] abbrev zmj (h:Host):Bool:=true
@[simp] abbrev zlv (h:Host):Bool:=zb3 h
def zGn:Run:=rF1 dH fun b=>(zmj b,[aB (zlv b)])
def zNb (N:Nat)(c:Host):OA:=
 (oN (zs3 c.Memory 12) (cond (nB (zmk c.Memory 12)) oF (oN (zbM (ln c.Mons) 1 3) (cond (nB (zbU (ln c.Mons) 1 3)) oF (oN (zpn c.Buffer) (cond (nB (zpm c.Buffer)) oF (oN (zpn c.IoBuffer) (cond (nB (zpm c.IoBuffer)) oF (oN (cond (few 12) (ieq 12 12) false) (iter (σ:=(Int×(Int×(lB×(lN×Unit))))) N (fun k b=>let h:=(ix b.2.2.2.1 b.2.1 zi); (cond (ilt b.2.1 b.1) (oN (inb b.2.1 (ln b.2.2.2.1)) (oN (zs4 h) (cond (nB (zu6 h)) oF (iter (σ:=(Int×(Int×(Int×(Int×(Int×(lB×(lN×Unit)))))))) N (fun i a=>let f:=a.2.2.2.2.1;let g:=a.2.2.2.2.2.2.1;let j:=(ix g a.2.2.1 zi).Outer;let d:=a.2.2.2.2.2.1;let e:=(ix j f zV).Page; (cond (ilt f a.2.2.2.1) (oN (inb f (ln j)) (cond (ilt e 0) (i (a.1,(a.2.1,(a.2.2.1,(a.2.2.2.1,((zK .i64 f 1),(d,(g,())))))))) (oN (inb e (ln d)) (cond (ix d e false) oF (oN (inb e (ln d)) (share (up d e true) (fun l=>(i (a.1,(a.2.1,(a.2.2.1,(a.2.2.2.1,((zK .i64 f 1),(l,(g,()))))))))))))))) (k (a.1,((zK .i64 a.2.1 1),(d,(g,()))))))) (b.1,(b.2.1,(b.2.1,((ln h.Outer),(0,(b.2.2.1,(b.2.2.2.1,()))))))))))) oT)) ((ln c.Mons),(0,((rp 12 false),(c.Mons,()))))))))))))))
def z0p:FuncId->Nat->Option Tmpl:=zo [(159,0,{n:=63,tm:=[(3,.sl 0 []),(33,.sl 1 []),(34,ti),(35,ti)],lo:=[],ro:=[(0,.bool,true),(1,.mon,false)]}),(159,2,{n:=63,tm:=[(3,.sl 0 []),(33,.sl 1 []),(34,ti),(35,ti),(43,.sl 1 [0]),(44,ti),(45,ti)],lo:=[],ro:=[(0,.bool,true),(1,.mon,false)]})]
theorem zYq (a:Host)(n:zce big [aH a])(w:zmj a=true):∃N,zNb N a=some [aB (zlv a)]:=by
 have l:CVB big (.s .mon a.Mons):=(zdd n).1 _ (by simp[AV.cvs,zbk]);have g:=l.len;refine zcd fun N d=>?_;unfold zNb zlv zb3 oN nB;conv=>zeta
 refine must rfl (stB fun p=>must rfl (stB fun q=>must rfl (stB fun r=>must rfl (stB fun v=>must rfl ?_))));refine(zbl a.Mons (fun i (t:lB)=>((ln a.Mons),(i:Int),t,a.Mons,())) _ (fun _ (x:Mon) (u:List Bool) h=>z4d (oF) x u h) (fun (t:lB)=>(some [(.one (.b true))])) (fun i c t rec=>?_) (fun t rec=>?_) _ ((rp 12 false)) (d g)).trans ?_;{simp only [zbA c,zbh c,zbo c,zbg c g,cT];unfold z4d;cases k:zeb a.Mons[i];{simp only [zs4,zu6,k,cT,cF]};simp only[zs4,zu6,k,cT,cF];have m:a.Mons[i].Outer.length<=big:=(l.inv.2 _ (jL c) (.s .slot _) (by simp[Ty.cells])).len;refine(zbl a.Mons[i].Outer (fun j (u:lB)=>((ln a.Mons),(i:Int),(i:Int),(ln a.Mons[i].Outer),(j:Int),u,a.Mons,())) _ (fun _ (y:Slot) (u:List Bool) h=>zvr (oF) y u h) (fun (u:lB)=>(rec ((ln a.Mons),((((i+1:Nat)):Int),(u,(a.Mons,())))))) (fun j f u e=>?_) (fun u e=>?_) _ (t) (d m)).trans ?_;{simp only [zbA f,zbh f,zbo f,zbg f m,cT,zbh c,zbo c,zbg c g];rfl};{simp only [zbq,cF,zbh c,zbo c,zbg c g]};rfl};{simp only [zbq,cF]};exact zX0 (K:=fun b=>some [AV.one (.b b)]) _ (fun _=>rfl) _ _ _ rfl
theorem zRh:vN 159 zGn:=hF1 zK7 zx zy zn z0p zYq
@[simp] abbrev zfn (h:Host):Bool:=true
@[simp] abbrev zfm (h:Host):Bool:=zb3 h
theorem zLo {e:Type}(r:Option e)(k:List Bool->Option e)(m:Mon):∀(n i:Nat) (u:List Bool),(∀s∈m.Outer,s.Page<12)->u.length=12->i+n=m.Outer.length->
 goN (fun j u d=>bif inb (j:Int) (ln m.Outer) then zvr r (ix m.Outer (j:Int) zV) u d else none) k n i u=goL (fun _ y u d=>zvr r y u d) k (m.Outer.drop i) i u
 | 0,i,u,_,_,h=>by have:i=m.Outer.length:=(by omega);subst this;simp[goN,goL]
 |n+1,i,u,b,c,h=>by have a:i<m.Outer.length:=(by omega);rw[kX a];simp only[goN,goL,zbh a,zbo a,cT,zvr];cases f:ilt m.Outer[i].Page 0;{rw [z0P (b _ (jL a)) c f];cases ix u m.Outer[i].Page false;{simp only [cF,cT,share];exact zLo r k m n (i+1) _ b (by simpa using c) (by omega)};{rfl}};{simp only [cT];exact zLo r k m n (i+1) u b c (by omega)}
def zGI:Run:=rF1 dH fun b=>(zfn b,[aB (zfm b)])
def zNv (N:Nat)(b:Host):OA:=
 (oN (ztg b.Memory 12) (cond (nB (zmH b.Memory 12)) oF (oN (zN (ln b.Mons) 1 3) (cond (nB (zT (ln b.Mons) 1 3)) oF (oN (zp0 b.Buffer) (cond (nB (zpZ b.Buffer)) oF (oN (zp0 b.IoBuffer) (cond (nB (zpZ b.IoBuffer)) oF (oN (cond (few 12) (ieq 12 12) false) (iter (σ:=(Int×(lB×(lM×(lN×(lE×(lE×Unit))))))) N (fun q c=>let n:=(ix c.2.2.2.1 c.1 zi); (cond (ilt c.1 (ln c.2.2.2.1)) (oN (inb c.1 (ln c.2.2.2.1)) (oN (zti n) (cond (nB (zvc n)) oF (iter (σ:=(Int×(Int×(lB×(lM×(lN×(lE×(lE×Unit)))))))) N (fun i a=>let k:=(zK .i64 a.2.1 1);let h:=a.2.2.2.2.2.1;let g:=a.2.2.2.2.2.2.1;let f:=a.2.2.1;let e:=a.2.2.2.2.1;let p:=(ix e a.1 zi).Outer;let m:=(i (a.1,(k,(f,(a.2.2.2.1,(e,(h,(g,()))))))));let d:=(ix p a.2.1 zV).Page;let l:=(inb d (ln f)); (cond (ilt a.2.1 8) (oN (inb a.1 (ln e)) (oN (inb a.2.1 (ln p)) (cond (ige d 0) (oN l (cond (ix f d false) oF (cond (ige d 0) (oN l (share (up f d true) (fun j=>(i (a.1,(k,(j,(a.2.2.2.1,(e,(h,(g,()))))))))))) m))) (cond (ige d 0) (oN l (share (up f d true) (fun j=>(i (a.1,(k,(j,(a.2.2.2.1,(e,(h,(g,()))))))))))) m)))) (q ((zK .i64 a.1 1),(f,(a.2.2.2.1,(e,(h,(g,()))))))))) (c.1,(0,(c.2.1,(c.2.2.1,(c.2.2.2.1,(c.2.2.2.2.1,(c.2.2.2.2.2.1,()))))))))))) oT)) (0,((rp 12 false),(b.Memory,(b.Mons,(b.Buffer,(b.IoBuffer,()))))))))))))))))
def z0x:FuncId->Nat->Option Tmpl:=zo [(128,0,{n:=72,tm:=[(1,.lp 0 0),(3,.sl 0 []),(4,ti)],lo:=[(0,[.sl 1 [],.sl 2 [],.sl 3 [],.sl 4 []])],ro:=[(0,.bool,true),(1,(.sl .int),false),(2,.mon,false),(3,.entry,false),(4,.entry,false)]}),(128,2,{n:=72,tm:=[(1,.lp 0 0),(3,.sl 0 []),(4,ti),(5,ti)],lo:=[(0,[.sl 1 [],.sl 2 [],.sl 3 [],.sl 4 []])],ro:=[(0,.bool,true),(1,(.sl .int),false),(2,.mon,false),(3,.entry,false),(4,.entry,false)]})]
theorem zYL (a:Host)(y:zce big [aH a])(F:zfn a=true):∃N,zNv N a=some [aB (zfm a)]:=by
 have A:CVB big (.s .mon a.Mons):=(zdd y).1 _ (by simp[AV.cvs,zbk]);have h:=A.len;refine zcd fun N f=>?_;unfold zNv zfm zb3 oN nB;conv=>zeta
 refine must rfl (stB fun D=>must rfl (stB fun q=>must rfl (stB fun r=>must rfl (stB fun E=>must rfl ?_))));refine(zbl a.Mons (fun i (t:lB)=>((i:Int),t,a.Memory,a.Mons,a.Buffer,a.IoBuffer,())) _ (fun _ (x:Mon) (u:List Bool) d=>bif zeb x then goN (fun j u d=>bif inb (j:Int) (ln x.Outer) then zvr (oF) (ix x.Outer (j:Int) zV) u d else none) d 8 0 u else oF) (fun (t:lB)=>(some [(.one (.b true))])) (fun i c t rec=>?_) (fun t rec=>?_) _ ((rp 12 false)) (f h)).trans ?_;{simp only [zbA c,zbh c,zbo c,zbg c h,cT];cases v:zeb a.Mons[i];{simp only [zti,zvc,v,cT,cF]};simp only[zti,zvc,v,cT,cF];refine(zvZ 8 (fun j (u:lB)=>((i:Int),(j:Int),u,a.Memory,a.Mons,a.Buffer,a.IoBuffer,())) _ (fun j (u:List Bool) d=>bif inb (j:Int) (ln a.Mons[i].Outer) then zvr (oF) (ix a.Mons[i].Outer (j:Int) zV) u d else none) (fun (u:lB)=>(rec ((((i+1:Nat)):Int),(u,(a.Memory,(a.Mons,(a.Buffer,(a.IoBuffer,())))))))) (fun j z u g=>?_) (fun u g=>?_) _ (t) (f (by decide))).trans ?_;{simp only [show ilt (j:Int) 8=true from qJ (by omega),zbg z (show 8<=big by decide),cT,zbh c,zbo c,zbg c h];unfold zvr;have e:ige (ix a.Mons[i].Outer (j:Int) zV).Page 0 = !ilt (ix a.Mons[i].Outer (j:Int) zV).Page 0:=(by rw[zbd6,Bool.not_not]);simp only[e];cases ilt (ix a.Mons[i].Outer (j:Int) zV).Page 0<;>cases inb (j:Int) (ln a.Mons[i].Outer)<;>cases inb (ix a.Mons[i].Outer (j:Int) zV).Page (ln u)<;>cases ix u (ix a.Mons[i].Outer (j:Int) zV).Page false<;>rfl};{simp only [show ilt (((8:Nat)):Int) 8=false from qH (by omega),cF,zbh c,zbo c,zbg c h]};rfl};{simp only [zbq,cF]};have p:∀(l:List Mon) (i:Nat) (u:List Bool),u.length=12->goL (fun _ (x:Mon) (u:List Bool) d=>bif zeb x then goN (fun j u d=>bif inb (j:Int) (ln x.Outer) then zvr (oF) (ix x.Outer (j:Int) zV) u d else none) d 8 0 u else oF) (fun _=>oT) l i u=some [AV.one (.b (ziM l u))]:=(by intro l;induction l with|nil=>intro i u _;rfl|cons m l B=>intro i u n;simp only[goL,ziM];cases q:zeb m;{rfl};{have k:=znm q;have w:0+8=m.Outer.length:=(by have:=zto k;simp only[ln] at this;omega);simp only[cT];rw[zLo _ _ m 8 0 u (zH4 k) n w,List.drop_zero,zBO _ _ _ _ _ (zH4 k) n];cases r:zgH m.Outer u with|none=>rfl|some C=>exact B (i+1) C ((zqI _ _ _ r).trans n)});exact p _ _ _ rfl
theorem zRC:vN 128 zGI:=hF1 zK7 zx zy zn z0x zYL
def zbca:zX:=[(128,zGI),(159,zGn)]++zbb9
theorem zK8:zL zbca:=zh zRC (zh zRh zK7)
theorem z4V {h:Host}(a:zb3 h=true):(h.Mons.length:Int)<=3:=by unfold zb3 at a;simp only[zde]at a;exact(zfv.1 a.2.1).2
def zcg (h:Host)(m:Int):Bool:=bif zb3 h then hasB m (ln h.Mons) else false
def zcE (h:Host)(m p:Int):Bool:=bif zb3 h then (cond (hasB m (ln h.Mons)) (hasB p 8) false) else false
theorem zTJ {h:Host}(a:zb3 h=true)(m:Int):win m 0 (wsub .i64 (ln h.Mons) 1)=hasB m (ln h.Mons):=zrI (by have:=z4V a;omega) m
theorem win7 (p:Int):win p 0 7=hasB p 8:=by unfold win ige ile hasB;by_cases a:0<=p<;>by_cases b:p<8;{rw [qJ (p:=p≥0) (by omega),qJ (p:=p<=7) (by omega),qJ (p:=0<=p/\p<8) ⟨a,b⟩];rfl};{rw [qH (p:=p<=7) (by omega),qH (p:=0<=p/\p<8) (by omega)];simp};{rw [qH (p:=p≥0) (by omega),qH (p:=0<=p/\p<8) (by omega)];simp};{rw [qH (p:=p≥0) (by omega),qH (p:=0<=p/\p<8) (by omega)];simp}
@[simp] abbrev zfu (h:Host)(m:Int):Bool:=true
@[simp] abbrev zft (h:Host)(m:Int):Bool:=zcg h m
def zG1:Run:=rF2 dH dI fun b c=>(zfu b c,[aB (zft b c)])
def zNP (N:Nat)(a:Host)(b:Int):OA:=
 (oN (zfn a) (cond (zfm a) (oN (zN b 0 (wsub .i64 (ln a.Mons) 1)) (some [(aB (zT b 0 (wsub .i64 (ln a.Mons) 1)))])) oF))
theorem zY8 (a:Host)(b:Int)(d:zfu a b=true):∃N,zNP N a b=some [aB (zft a b)]:=by refine⟨0,?_⟩;unfold zNP zft zcg oN;cases c:zb3 a;{simp only [zfn,zfm,c,cT,cF]};{simp only [zfn,zfm,c,cT,zN,zW7,zTJ c]}
theorem zR5:vN 74 zG1:=kF2 zK8 zx zy zn (zo []) zY8
@[simp] abbrev zoY (h:Host)(m p:Int):Bool:=true
@[simp] abbrev zhR (h:Host)(m p:Int):Bool:=zcE h m p
def zKt:Run:=rF3 dH dI dI fun b c d=>(zoY b c d,[aB (zhR b c d)])
def zT6 (N:Nat)(a:Host)(b c:Int):OA:=
 (oN (zfn a) (cond (zfm a) (oN (zN b 0 (wsub .i64 (ln a.Mons) 1)) (cond (zT b 0 (wsub .i64 (ln a.Mons) 1)) (oN (zN c 0 7) (some [(aB (zT c 0 7))])) oF)) oF))
theorem z1I (a:Host)(b c:Int)(e:zoY a b c=true):∃N,zT6 N a b c=some [aB (zhR a b c)]:=by refine⟨0,?_⟩;unfold zT6 zhR zcE oN;cases d:zb3 a;{simp only [zfn,zfm,d,cT,cF]};{simp only [zfn,zfm,d,cT,zN,zW7,zTJ d,win7];cases hasB b (ln a.Mons)<;>rfl}
theorem zVG:vN 114 zKt:=kF3 zK8 zx zy zn (zo []) z1I
def zbcb:zX:=[(74,zG1),(114,zKt)]++zbca
theorem zXL:zL zbcb:=zh zR5 (zh zVG zK8)
def zdk (k:Kept)(p:Int):Bool:=bif hasB p (ln k.Known) then hasB p (ln k.Slots) else false
def zbY (k:Kept)(p:Int):Kept:=bif zdk k p then ⟨up k.Known p false,up k.Slots p noSlot⟩ else k
@[simp] theorem zqH {k:Kept}{p:Int}(h:SmK k):SmK (zbY k p):=by unfold zbY;cases zdk k p;{exact h};{exact⟨by simpa using h.1,by simpa using h.2⟩}
theorem has_lt {p:Int}{n m:Int}(h:hasB p n=true):ilt p m=hasB p m:=by have h:=qE h;unfold ilt hasB;by_cases a:p<m;{rw [qJ a,qJ ⟨h.1,a⟩]};{rw [qH a,qH (by omega)]}
@[simp] abbrev zqm (k:Kept)(p:Int):Bool:=pc (SmK k)
@[simp] abbrev ziA (k:Kept)(p:Int):Bool:=zdk k p
def zGZ:Run:=rF2 (dT .kept) dI fun b c=>(zqm b c,[aB (ziA b c)])
def zNN (N:Nat)(a:Kept)(b:Int):OA:=
 (oN (zN b 0 (wsub .i64 (ln a.Known) 1)) (cond (zT b 0 (wsub .i64 (ln a.Known) 1)) (some [(aB (ilt b (ln a.Slots)))]) oF))
theorem zY5 (a:Kept)(b:Int)(c:zqm a b=true):∃N,zNN N a b=some [aB (ziA a b)]:=by have e:=zM.1 c;refine⟨0,?_⟩;unfold zNN ziA zdk oN;simp only[zN,zW7,zrI e.1,cT];cases d:hasB b (ln a.Known);{rfl};{simp only [cT,has_lt d]}
theorem zRU:vN 118 zGZ:=kF2 zXL zx zy zn (zo []) zY5
def zbcc:zX:=[(118,zGZ)]++zbcb
theorem zK9:zL zbcc:=zh zRU zXL
@[simp] abbrev zmz (k:Kept)(p:Int):Bool:=pc (SmK k)
@[simp] abbrev zlM (k:Kept)(p:Int):Kept:=zbY k p
def zGG:Run:=rF2 (dT .kept) dI fun b c=>(zmz b c,[aT .kept (zlM b c)])
def zNt (N:Nat)(c:Kept)(b:Int):OA:=
 let a:=(zdD c); (oN (zf7 c) (oN (zqm a b) (cond (ziA a b) (oN (inb b (ln a.Known)) (share (up a.Known b false) (fun d=>(oN zcC (oN (inb b (ln a.Slots)) (share (up a.Slots b zbx) (fun e=>(some [(aT .kept (⟨d,e⟩:Kept))])))))))) (some [(aT .kept a)]))))
theorem zYJ (a:Kept)(b:Int)(g:zmz a b=true):∃N,zNt N a b=some [aT .kept (zlM a b)]:=by
 have d:=zM.1 g;refine⟨0,?_⟩;unfold zNt zlM oN;conv=>zeta
 refine must (zbz ((zzQ _).2 d)) (must (zbz d) ?_);unfold zbY;cases c:zdk a b;{simp only [ziA,zdD,c,cF]};{simp only [ziA,zdD,c,cT];unfold zdk at c;obtain⟨e,f⟩:=zde.1 c;simp only[zYf,e,f,cT,share,zcC]}
theorem zRA:vN 108 zGG:=kF2 zK9 zx zy zn (zo []) zYJ
@[simp] abbrev zBZ (k:Kept)(p:Int):Bool:=pc (SmK k)
@[simp] abbrev zvO (k:Kept)(p:Int):Kept:=zbY k p
def zGl:Run:=rF2 (dT .kept) dI fun b c=>(zBZ b c,[aT .kept (zvO b c)])
def zM9 (N:Nat)(b:Kept)(a:Int):OA:=
 let c:=(zdp b); (oN (zgf b) (oN (zcM a (ln b.Known)) (cond (zdc a (ln b.Known)) (oN (zcM a (ln b.Slots)) (cond (zdc a (ln b.Slots)) (oN (inb a (ln c.Known)) (share (up c.Known a false) (fun d=>(oN zdo (oN (inb a (ln c.Slots)) (share (up c.Slots a zcO) (fun e=>(some [(aT .kept (⟨d,e⟩:Kept))])))))))) (some [(aT .kept c)]))) (some [(aT .kept c)]))))
theorem zYo (a:Kept)(b:Int)(c:zBZ a b=true):∃N,zM9 N a b=some [aT .kept (zvO a b)]:=by
 have d:=zM.1 c;refine⟨0,?_⟩;unfold zM9 zvO oN;conv=>zeta
 refine must (zbz d) (must rfl ?_);unfold zbY zdk;simp only[zdc,zcM,zdp,zYf,share,zdo,cT];cases hasB b (ln a.Known);{rfl};{cases hasB b (ln a.Slots)<;>rfl}
theorem zRf:vN 104 zGl:=kF2 zK9 zx zy zn (zo []) zYo
def zbcd:zX:=[(108,zGG),(104,zGl)]++zbcc
theorem zvs:zL zbcd:=zh zRA (zh zRf zK9)
def zez (k:Kept)(l:List Int):Kept:=l.foldl zbY k
theorem z3D:∀(l:List Int) {k:Kept},SmK k->SmK (zez k l)
 |[],_,h=>h
 |p::l,k,h=>z3D l (zqH (p:=p) h)
theorem zBN {b:Type}(K:List Bool×List Slot->Option b):∀(l:List Int) (i:Nat) (k:Kept),SmK k->
 goL (fun _ x (t:List Bool×List Slot) a=>bif pc (SmK ⟨t.1,t.2⟩) then a ((zbY ⟨t.1,t.2⟩ x).Known,(zbY ⟨t.1,t.2⟩ x).Slots) else none) K l i (k.Known,k.Slots)=K ((zez k l).Known,(zez k l).Slots)
 |[],_,_,_=>rfl
 |x::l,i,k,h=>by have e:pc (SmK ⟨k.Known,k.Slots⟩)=true:=zbz h;simp only[goL,e,cT];exact zBN K l (i+1) (zbY k x) (zqH h)
def zHw (l:List Slot)(p:Int):List Int:=idxs (fun (s:Slot)=>ieq s.Page p) l 0
def zhY (k:Kept)(l:List Slot)(p:Int):Kept:=zez k (zHw l p)
theorem zbbh {k:Kept}(l:List Slot)(p:Int)(h:SmK k):SmK (zhY k l p):=z3D _ h
@[simp] abbrev zmy (k:Kept)(l:List Slot)(p:Int):Bool:=pc (SmK k/\l.length<=1048576)
@[simp] abbrev zwt (k:Kept)(l:List Slot)(p:Int):Kept:=zhY k l p
def zwh:Run:=rF3 (dT .kept) (dS .slot) dI fun b c d=>(zmy b c d,[aT .kept (zwt b c d)])
def zzL (N:Nat)(c:Kept)(e:lS)(f:Int):OA:=
 (oN (zf7 c) (oN (zCB e f) (iter (σ:=(Int×((List Int)×(lB×(lS×(lB×(lS×Unit))))))) N (fun g a=>let d:=(ix a.2.1 a.1 0);let b:=(⟨a.2.2.1,a.2.2.2.1⟩:Kept); (cond (ilt a.1 (ln a.2.1)) (oN (inb a.1 (ln a.2.1)) (oN (zmz b d) (g ((zK .i64 a.1 1),(a.2.1,((zlM b d).Known,((zlM b d).Slots,(a.2.2.2.2.1,(a.2.2.2.2.2.1,()))))))))) (some [(aT .kept b)]))) (0,((zrz e f),((zdD c).Known,((zdD c).Slots,([],([],())))))))))
def zM0:FuncId->Nat->Option Tmpl:=zo [(283,0,{n:=27,tm:=[(3,.lp 0 0),(6,.lp 1 0),(7,.sl 0 []),(8,ti)],lo:=[(0,[.sl 1 [],.sl 2 []]),(1,[.sl 3 [],.sl 4 []])],ro:=[(0,.int,true),(1,.bool,true),(2,.slot,true),(3,.bool,true),(4,.slot,true)]})]
theorem zMm (b:Kept)(a:List Slot)(c:Int)(j:zmy b a c=true):∃N,zzL N b a c=some [aT .kept (zwt b a c)]:=by
 obtain⟨h,f⟩:=zM.1 j;have g:(zrz a c).length<=big:=qU (zvX _ a 0) (zcQ f).1;refine zcd fun N e=>?_;unfold zzL oN;conv=>zeta
 refine must (zbz ((zzQ _).2 h)) (must (zbz (by omega)) ?_);refine(zbl (zrz a c) (fun i (t:lB×lS)=>((i:Int),(zrz a c),t.1,t.2,[],[],())) _ (fun _ (x:Int) (t:List Bool×List Slot) k=>bif pc (SmK ⟨t.1,t.2⟩) then k ((zbY ⟨t.1,t.2⟩ x).Known,(zbY ⟨t.1,t.2⟩ x).Slots) else none) (fun (t:lB×lS)=>(some [(.agg (Ty.cells .kept (⟨t.1,t.2⟩:Kept)))])) (fun i d t rec=>?_) (fun t rec=>?_) _ ((zdD b).Known,(zdD b).Slots) (e g)).trans ?_;{simp only [zbA d,zbh d,zbo d,zbg d g,cT]};{simp only [zbq,cF]};exact zBN _ _ 0 b h
theorem zFG:vN 283 zwh:=kF3 zvs zx zy zn zM0 zMm
@[simp] abbrev zq0 (k:Kept)(l:List Slot)(p:Int):Bool:=pc (SmK k/\l.length<=1048576)
@[simp] abbrev zvP (k:Kept)(l:List Slot)(p:Int):Kept:=zhY k l p
def zwc:Run:=rF3 (dT .kept) (dS .slot) dI fun b c d=>(zq0 b c d,[aT .kept (zvP b c d)])
def zzD (N:Nat)(c:Kept)(d:lS)(e:Int):OA:=
 (oN (zgf c) (oN (zB5 d e) (iter (σ:=(Int×(Int×((List Int)×(lB×(lS×(lB×(lS×Unit)))))))) N (fun g a=>let f:=(ix a.2.2.1 a.2.1 0);let b:=(⟨a.2.2.2.2.2.1,a.2.2.2.2.2.2.1⟩:Kept); (cond (ilt a.2.1 a.1) (oN (inb a.2.1 (ln a.2.2.1)) (oN (zBZ b f) (g (a.1,((zK .i64 a.2.1 1),(a.2.2.1,(a.2.2.2.1,(a.2.2.2.2.1,((zvO b f).Known,((zvO b f).Slots,())))))))))) (some [(aT .kept b)]))) ((ln (zlx d e)),(0,((zlx d e),([],([],((zdp c).Known,((zdp c).Slots,()))))))))))
def zMV:FuncId->Nat->Option Tmpl:=zo [(277,0,{n:=25,tm:=[(6,.lp 0 0),(7,.lp 1 0),(14,.sl 0 []),(15,ti),(16,ti)],lo:=[(0,[.sl 1 [],.sl 2 []]),(1,[.sl 3 [],.sl 4 []])],ro:=[(0,.int,true),(1,.bool,true),(2,.slot,true),(3,.bool,true),(4,.slot,true)]})]
theorem zMd (c:Kept)(a:List Slot)(b:Int)(j:zq0 c a b=true):∃N,zzD N c a b=some [aT .kept (zvP c a b)]:=by
 obtain⟨h,f⟩:=zM.1 j;have g:(zlx a b).length<=big:=qU (zvX _ a 0) (zcQ f).1;refine zcd fun N e=>?_;unfold zzD oN;conv=>zeta
 refine must (zbz h) (must (zbz (by omega)) ?_);refine(zbl (zlx a b) (fun i (t:lB×lS)=>((ln (zlx a b)),(i:Int),(zlx a b),[],[],t.1,t.2,())) _ (fun _ (x:Int) (t:List Bool×List Slot) k=>bif pc (SmK ⟨t.1,t.2⟩) then k ((zbY ⟨t.1,t.2⟩ x).Known,(zbY ⟨t.1,t.2⟩ x).Slots) else none) (fun (t:lB×lS)=>(some [(.agg (Ty.cells .kept (⟨t.1,t.2⟩:Kept)))])) (fun i d t rec=>?_) (fun t rec=>?_) _ ((zdp c).Known,(zdp c).Slots) (e g)).trans ?_;{simp only [zbA d,zbh d,zbo d,zbg d g,cT]};{simp only [zbq,cF]};exact zBN _ _ 0 c h
theorem zFA:vN 277 zwc:=kF3 zvs zx zy zn zMV zMd
def flushed (l:List Entry)(p:Int):List Entry:=l.filter fun e=>!ieq e.Host p
theorem zJU (l:List Entry)(p:Int):(flushed l p).length<=l.length:=uA _ _
theorem zme {b e:Type}(p:b->Bool)(K:List b->Option e):∀(l:List b) (i:Nat) (a:List b),a.length+l.length<=2147483648->
 goL (fun _ x a d=>bif p x then (cond (few (ln (ap a [x]))) (d (ap a [x])) none) else d a) K l i a=K (a++l.filter p)
 |[],i,a,_=>by simp[goL]
 |x::l,i,a,h=>by simp only[q0]at h;simp only[goL];cases c:p x;{rw [cF,zme p K l (i+1) a (by omega),List.filter_cons_of_neg (by simp[c])]};{rw [cT,zgE (by simp[ap];omega),cT,zme p K l (i+1) _ (by simp[ap];omega),List.filter_cons_of_pos c];simp[ap]}
@[simp] abbrev zhQ (l:List Entry)(p:Int):Bool:=pc (l.length<=1048576)
@[simp] abbrev zsc (l:List Entry)(p:Int):List Entry:=flushed l p
def zx3:Run:=rF2 (dS .entry) dI fun b c=>(zhQ b c,[aS .entry (zsc b c)])
def zDc (N:Nat)(e:lE)(f:Int):OA:=
 (iter (σ:=(Int×(Int×(lE×(lE×Unit))))) N (fun d a=>let b:=a.2.2.1;let c:=(ix b a.2.1 zew); (cond (ilt a.2.1 (ln b)) (oN (inb a.2.1 (ln b)) (cond (ine c.Host a.1) (oN (inb a.2.1 (ln b)) (oN (few (ln (ap a.2.2.2.1 [c]))) (d (a.1,((zK .i64 a.2.1 1),(b,((ap a.2.2.2.1 [c]),()))))))) (d (a.1,((zK .i64 a.2.1 1),(b,(a.2.2.2.1,()))))))) (some [(aS .entry a.2.2.2.1)]))) (f,(0,(e,([],())))))
def zQL:FuncId->Nat->Option Tmpl:=zo [(284,0,{n:=29,tm:=[(0,.sl 0 []),(1,ti),(5,.sl 1 []),(6,ti)],lo:=[],ro:=[(0,.entry,false),(1,.entry,true)]})]
theorem zPx (a:List Entry)(b:Int)(h:zhQ a b=true):∃N,zDc N a b=some [aS .entry (zsc a b)]:=by
 have j:=zM.1 h;have f:=zcQ j;refine zcd fun N d=>?_;unfold zDc oN;conv=>zeta
 refine(zbl a (fun i (t:lE)=>(b,(i:Int),a,t,())) _ (fun _ (x:Entry) (t:List Entry) g=>bif !ieq x.Host b then (cond (few (ln (ap t [x]))) (g (ap t [x])) none) else g t) (fun (t:lE)=>(some [(.one (.s .entry t))])) (fun i c t rec=>?_) (fun t rec=>?_) _ ([]) (d f.1)).trans ?_;{simp only [zbA c,zbh c,zbo c,zbg c f.1,cT];rfl};{simp only [zbq,cF]};exact zme (fun e=>!ieq e.Host b) _ a 0 [] (by simpa using f.2)
theorem zIp:vN 284 zx3:=kF2 zvs zx zy zn zQL zPx
@[simp] abbrev zhL (l:List Entry)(p:Int):Bool:=pc (l.length<=1048576)
@[simp] abbrev zkB (l:List Entry)(p:Int):List Entry:=flushed l p
def zxP:Run:=rF2 (dS .entry) dI fun b c=>(zhL b c,[aS .entry (zkB b c)])
def zCY (N:Nat)(d:lE)(f:Int):OA:=
 (iter (σ:=(Int×(Int×(Int×(lE×(lE×Unit)))))) N (fun e a=>let b:=a.2.2.2.2.1;let c:=(ix b a.2.1 zew); (cond (ilt a.2.1 a.1) (oN (inb a.2.1 (ln b)) (cond (nB (ieq c.Host a.2.2.1)) (oN (few (ln (ap a.2.2.2.1 [c]))) (e (a.1,((zK .i64 a.2.1 1),(a.2.2.1,((ap a.2.2.2.1 [c]),(b,()))))))) (e (a.1,((zK .i64 a.2.1 1),(a.2.2.1,(a.2.2.2.1,(b,())))))))) (some [(aS .entry a.2.2.2.1)]))) ((ln d),(0,(f,([],(d,()))))))
def zQD:FuncId->Nat->Option Tmpl:=zo [(203,0,{n:=25,tm:=[(1,.fn 316 [0]),(5,.sl 0 []),(9,.sl 1 []),(10,ti),(11,ti)],lo:=[(0,[ti])],ro:=[(0,.entry,true),(1,.entry,false)]})]
theorem zPh (a:List Entry)(b:Int)(h:zhL a b=true):∃N,zCY N a b=some [aS .entry (zkB a b)]:=by
 have j:=zM.1 h;have f:=zcQ j;refine zcd fun N d=>?_;unfold zCY oN nB;conv=>zeta
 refine(zbl a (fun i (t:lE)=>((ln a),(i:Int),b,t,a,())) _ (fun _ (x:Entry) (t:List Entry) g=>bif !ieq x.Host b then (cond (few (ln (ap t [x]))) (g (ap t [x])) none) else g t) (fun (t:lE)=>(some [(.one (.s .entry t))])) (fun i c t rec=>?_) (fun t rec=>?_) _ ([]) (d f.1)).trans ?_;{simp only [zbA c,zbh c,zbo c,zbg c f.1,cT];cases ieq a[i].Host b<;>rfl};{simp only [zbq,cF]};exact zme (fun e=>!ieq e.Host b) _ a 0 [] (by simpa using f.2)
theorem zIb:vN 278 zxP:=kF2 zvs zx zy zn zQD zPh
def z4n:zX:=[(283,zwh),(277,zwc),(284,zx3),(278,zxP)]++zbcd
theorem zLa:zL z4n:=zh zFG (zh zFA (zh zIp (zh zIb zvs)))
def zl4 (b:List Guest)(p:Int):Nat->List Kept->List Kept
 | 0,a=>a
 |n+1,a=>up (zl4 b p n a) (n:Int) (zhY (ix (zl4 b p n a) (n:Int) zd9) (ix b (n:Int) zG).Live p)
theorem zrF (b:List Guest)(p:Int):∀(n:Nat) (a:List Kept),(zl4 b p n a).length=a.length
 | 0,_=>rfl
 |n+1,a=>by simp only[zl4,zgG];exact zrF b p n a
theorem zyI (b:List Guest)(p:Int):∀(n:Nat) (a:List Kept),n<=a.length->zFb a->zFb (zl4 b p n a)
 | 0,_,_,h=>h
 |n+1,a,e,h=>by have d:=zyI b p n a (by omega) h;have c:n<(zl4 b p n a).length:=(by rw[zrF];omega);exact zBb d (zbbh _ _ (by rw[zbo c];exact d.2 _ (jL c)))
def zkU (x:Mon)(p:Int)(n:Nat):Mon:={x with Tables:=zl4 x.Guests p n x.Tables}
theorem z9f {x:Mon}{p:Int}{n:Nat}(a:n<=x.Tables.length)(h:zfd x):zfd (zkU x p n):=⟨h.1,h.2.1,h.2.2.1,h.2.2.2.1,h.2.2.2.2.1,zyI _ _ _ _ a h.2.2.2.2.2⟩
def zcs (h:Host)(m p:Int)(s:Slot):Host :=
 bif ine (ix (ix h.Mons m zi).Outer p zV).Page (-1)
 then ⟨h.Memory,up h.Mons m {zkU (ix h.Mons m zi) p (ix h.Mons m zi).Tables.length with Outer:=up (ix h.Mons m zi).Outer p s},flushed h.Buffer (ix (ix h.Mons m zi).Outer p zV).Page,flushed h.IoBuffer (ix (ix h.Mons m zi).Outer p zV).Page⟩
 else ⟨h.Memory,up h.Mons m {zkU (ix h.Mons m zi) p (ix h.Mons m zi).Tables.length with Outer:=up (ix h.Mons m zi).Outer p s},h.Buffer,h.IoBuffer⟩
def zbeJ (h:Host)(m p:Int):Prop:=hasB m (ln h.Mons)=true/\hasB p (ln (ix h.Mons m zi).Outer)=true/\(ix h.Mons m zi).Tables.length<=(ix h.Mons m zi).Guests.length
@[simp] abbrev ze9 (h:Host)(m p:Int)(s:Slot):Bool:=pc (zcc h/\zbeJ h m p)
@[simp] abbrev zg0 (h:Host)(m p:Int)(s:Slot):Host:=zcs h m p s
def ztZ:List AV->Option (Bool×List AV)
 |[.agg [.s (.sl .int) b,.s .mon c,.s .entry d,.s .entry e],.one (.i .i64 f),.one (.i .i64 g),.agg [.i .i64 h,.i .i64 j]]=>some ((ze9 (⟨b,c,d,e⟩:Host) f g (⟨h,j⟩:Slot)),[aH (zg0 (⟨b,c,d,e⟩:Host) f g (⟨h,j⟩:Slot))])
 |_=>none
def zyX (N:Nat)(p:Host)(g z:Int)(B:Slot):OA:=
 let v:=(ix p.Mons g zi); (oN (inb g (ln p.Mons)) (oN (inb z (ln v.Outer)) (iter (σ:=(Int×(Int×(Int×(Int×(Int×(Int×(Int×(Int×(Int×(Int×(Int×(Int×(Int×(Int×(Int×(lM×(lN×(lE×(lE×(lM×(lN×(lE×(lE×Unit)))))))))))))))))))))))) N (fun D a=>let d:=a.2.2.1;let m:=a.2.2.2.2.2.2.2.2.2.2.2.1;let l:=a.2.2.2.2.2.2.2.2.2.2.2.2.1;let k:=a.2.2.2.2.2.2.2.2.2.2.2.2.2.2.1;let j:=a.2.2.2.2.2.2.2.2.2.2.2.2.2.2.2.1;let f:=a.2.2.2.2.2.2.2.1;let e:=a.2.2.2.2.2.2.2.2.1;let c:=a.2.2.2.1;let w:=a.2.2.2.2.2.2.2.2.2.2.1;let y:=a.2.2.2.2.2.2.2.2.2.2.2.2.2.2.2.2.2.1;let x:=a.2.2.2.2.2.2.2.2.2.2.2.2.2.2.2.2.2.2.1;let n:=a.2.2.2.2.2.2.1;let r:=a.2.2.2.2.2.2.2.2.2.1;let i:=a.2.2.2.2.2.2.2.2.2.2.2.2.2.1;let q:=a.2.2.2.2.2.2.2.2.2.2.2.2.2.2.2.2.1;let u:=(ix q r zi).Guests;let t:=(ix u c zG).Live;let h:=(ix q n zi);let s:=(ix q i zi).Tables;let C:=(up q n ({h with Outer:=(up h.Outer a.2.1 (⟨a.2.2.2.2.1,a.2.2.2.2.2.1⟩:Slot))}:Mon)); (cond (ilt c (ln s)) (oN (inb c (ln s)) (oN (inb c (ln u)) (oN (zmy (ix s c zd9) t a.2.1) (oN (inb c (ln s)) (share (up q i ({ (ix q i zi) with Tables:=(up s c (zwt (ix s c zd9) t a.2.1))}:Mon)) (fun b=>(D (a.1,(a.2.1,(d,((zK .i64 c 1),(a.2.2.2.2.1,(a.2.2.2.2.2.1,(n,(f,(e,(r,(w,(m,(l,(i,(k,(j,(b,(y,(x,(a.2.2.2.2.2.2.2.2.2.2.2.2.2.2.2.2.2.2.2.1,(a.2.2.2.2.2.2.2.2.2.2.2.2.2.2.2.2.2.2.2.2.1,(a.2.2.2.2.2.2.2.2.2.2.2.2.2.2.2.2.2.2.2.2.2.1,(a.2.2.2.2.2.2.2.2.2.2.2.2.2.2.2.2.2.2.2.2.2.2.1,())))))))))))))))))))))))))))))) (cond (ine d (-1)) (oN (zhQ y d) (oN (zhQ x d) (oN (inb a.2.1 (ln h.Outer)) (share C (fun b=>(oN (inb a.1 (ln b)) (oN (cond (cond (cond (cond (cond (cond (ieq i a.1) true false) (cond (ieq w a.1) true false) false) (cond (ieq r a.1) true false) false) (cond (ieq e a.1) true false) false) (cond (ieq f a.1) true false) false) (cond (ieq n a.1) true false) false) (share (up b a.1 ({ (ix b n zi) with Out:=(ix b f zi).Out,Dirty:=(ix b e zi).Dirty,Guests:=(ix b r zi).Guests,Outs:=(ix b w zi).Outs,Pending:=m,Traps:=l,Tables:=(ix b i zi).Tables,Own:=k}:Mon)) (fun A=>(some [(aH (⟨j,A,(zsc y d),(zsc x d)⟩:Host))])))))))))) (oN (inb a.2.1 (ln h.Outer)) (share C (fun b=>(oN (inb a.1 (ln b)) (oN (cond (cond (cond (cond (cond (cond (ieq i a.1) true false) (cond (ieq w a.1) true false) false) (cond (ieq r a.1) true false) false) (cond (ieq e a.1) true false) false) (cond (ieq f a.1) true false) false) (cond (ieq n a.1) true false) false) (share (up b a.1 ({ (ix b n zi) with Out:=(ix b f zi).Out,Dirty:=(ix b e zi).Dirty,Guests:=(ix b r zi).Guests,Outs:=(ix b w zi).Outs,Pending:=m,Traps:=l,Tables:=(ix b i zi).Tables,Own:=k}:Mon)) (fun A=>(some [(aH (⟨j,A,y,x⟩:Host))]))))))))))) (g,(z,((ix v.Outer z zV).Page,(0,(B.Page,(B.Rights,(g,(g,(g,(g,(g,(v.Pending,(v.Traps,(g,(v.Own,(p.Memory,(p.Mons,(p.Buffer,(p.IoBuffer,([],([],([],([],()))))))))))))))))))))))))))
def zWP:FuncId->Nat->Option Tmpl:=zo [(213,0,{n:=70,tm:=[(1,ti),(2,ti),(4,.lp 0 0),(7,.lp 1 0),(8,.lp 2 0),(9,.lp 3 0),(10,ti),(11,ti)],lo:=[(0,[.sl 0 [],.sl 1 [],.sl 2 [],.sl 3 []]),(1,[ti,ti]),(2,[.sl 4 [],.sl 5 [],.sl 6 [],.sl 7 []]),(3,[.sl 1 [0],.sl 1 [1],.sl 1 [2],.sl 1 [3],.sl 1 [4],ti,ti,.sl 1 [7],ti])],ro:=[(0,(.sl .int),true),(1,.mon,true),(2,.entry,true),(3,.entry,true),(4,(.sl .int),true),(5,.mon,true),(6,.entry,true),(7,.entry,true)]})]
theorem zZj (N:Nat)(a:Host)(b c:Int)(d:Slot):zHI (cQ z4n zpF zMx z0j) zWP N 12 213 [true,true,true,true,false,false,false,false] 1 1 [[0],[1],[2],[4],[7]] .mon [aH a,aI b,aI c,aT .slot d]=zyX N a b c d:=by kernel_rfl
theorem zWp (a:Host)(f b:Int)(d:Slot)(D:zce big [aH a,aI f,aI b,aT .slot d])(y:ze9 a f b d=true):∃N,zyX N a f b d=some [aH (zg0 a f b d)]:=by
 obtain⟨B,g,s,C⟩:=zM.1 y;have l:=(zQ a).1 B;have r:zfd (ix a.Mons f zi):=l.2.1.2 _ (zbD g _);obtain⟨k,rfl,q⟩:=zdS (n:=a.Mons.length) g;have x:=(zcQ r.2.2.2.2.2.1).1;refine zcd fun N p=>?_;unfold zyX oN;conv=>zeta
 refine must g (must s ?_);refine zHS (ix a.Mons (k:Int) zi).Tables.length (fun i (t:List Mon)=>((k:Int),b,(ix (ix a.Mons (k:Int) zi).Outer b zV).Page,(i:Int),d.Page,d.Rights,(k:Int),(k:Int),(k:Int),(k:Int),(k:Int),(ix a.Mons (k:Int) zi).Pending,(ix a.Mons (k:Int) zi).Traps,(k:Int),(ix a.Mons (k:Int) zi).Own,a.Memory,t,a.Buffer,a.IoBuffer,[],[],[],[],())) _
  (fun i t=>t=up a.Mons (k:Int) (zkU (ix a.Mons (k:Int) zi) b i)) (fun _ _=>some [AV.agg (zbk (zcs a (k:Int) b d))]) (fun i t rec u m A=>?_) (fun t rec m=>?_) _ 0 a.Mons ?_ (j4 _) ?_
 .subst m;have c:i<(zl4 (ix a.Mons (k:Int) zi).Guests b i (ix a.Mons (k:Int) zi).Tables).length:=(by rw[zrF];exact u);have e:i<(ix a.Mons (k:Int) zi).Guests.length:=by omega
  have z:zmy (ix (zl4 (ix a.Mons (k:Int) zi).Guests b i (ix a.Mons (k:Int) zi).Tables) (i:Int) zd9) (ix (ix a.Mons (k:Int) zi).Guests (i:Int) zG).Live b=true :=
   zbz ⟨by rw[zbo c];exact(zyI _ _ _ _ (by omega) r.2.2.2.2.2).2 _ (jL c),by rw[zbo e];exact(r.2.2.2.1.2 _ (jL e)).2.2.1⟩
  simp only[zdX q,zyL,zkU,zbA c,zbh c,zbh e,z,cT,share,zbg u x];exact A _ rfl
 {subst m;simp only[zdX q,zyL,zgG,zkU,ln,zrF,zd4,show ilt (((ix a.Mons (k:Int) zi).Tables.length:Nat):Int) (((ix a.Mons (k:Int) zi).Tables.length:Nat):Int)=false from qH (by omega),cT,cF,share];have h:inb (k:Int) ((a.Mons.length:Nat):Int)=true:=g;have j:inb b (((ix a.Mons (k:Int) zi).Outer.length:Nat):Int)=true:=s;have v:zhQ a.Buffer (ix (ix a.Mons (k:Int) zi).Outer b zV).Page=true:=zbz l.2.2.1;have w:zhQ a.IoBuffer (ix (ix a.Mons (k:Int) zi).Outer b zV).Page=true:=zbz l.2.2.2;simp only[h,j,v,w,cT];unfold zcs;cases ine (ix (ix a.Mons (k:Int) zi).Outer b zV).Page (-1)<;>rfl};{exact(zTE q _).symm};{exact p (by omega)}
theorem zO4:zec Tryz.prog 213 [true,true,true,true,false,false,false,false] (some (1,1,[[0],[1],[2],[4],[7]])) ztZ:=by refine zmg (kt:=.mon) (zgp zLa zx zy zn) (ziG (by kernel_rfl)) (by kernel_rfl) ?_;intro a g f e h;have c:=ziH e;unfold ztZ at h;split at h;{obtain⟨d,rfl⟩:=zd1 h;obtain⟨N,b⟩:=zWp _ _ _ _ (by exact c) d;exact⟨⟨_,rfl⟩,rfl,_,N,12,(zZj N _ _ _ _ ).trans b⟩};{cases h}
def z0k:ze2:=[(213,([true,true,true,true,false,false,false,false],(some (1,1,[[0],[1],[2],[4],[7]])),ztZ))]++z0j
theorem zdy:zd5 z0k:=zrG zn (by
 intro x a;simp only[qG,qN,or_false]at a;rcases a with rfl
 .exact zO4)
def z0N (x:Mon)(p:Int):Mon:={x with Dirty:=up x.Dirty p false}
def zrH (h:Host)(m p:Int):Host:={h with Mons:=up h.Mons m (z0N (ix h.Mons m zi) p)}
def zvB (h:Host)(m p:Int):Host:=bif zcE h m p then (cond (zc1 (ix (ix h.Mons m zi).Outer p zV) noSlot) (zrH h m p) (zcs (zrH h m p) m p ⟨(ix (ix h.Mons m zi).Outer p zV).Page,1⟩)) else h
theorem zBU:∀(l:List Mon) (u:List Bool),ziM l u=true->∀x∈l,zeb x=true
 |[],_,_,x,a=>by cases a
 |m::l,u,h,x,a=>by
  simp only[ziM]at h;cases b:zeb m;{rw [b]at h;cases h}
  .rw [b]at h;simp only[cT]at h;cases c:zgH m.Outer u with
   |none=>rw[c]at h;cases h
   |some d =>rw[c]at h;rcases qG.1 a with rfl|a;{exact b};{exact zBU l d h x a}
structure PageAt (h:Host) (m p:Int):Prop where
 hm:hasB m (ln h.Mons)=true
 hp:hasB p 8=true
 ok:zeb (ix h.Mons m zi)=true
 ho:(ix h.Mons m zi).Outer.length=8
 hd:(ix h.Mons m zi).Dirty.length=8
 ht:(ix h.Mons m zi).Tables.length=(ix h.Mons m zi).Guests.length
 hs:zc1 (ix (ix h.Mons m zi).Outer p zV) noSlot=ieq (ix (ix h.Mons m zi).Outer p zV).Page (-1)
theorem zU7 {s:Slot}{n:Int}(h:zdK s n=true):zc1 s noSlot=ieq s.Page (-1):=by unfold zdK at h;cases a:zc1 s noSlot;{rw [a]at h;cases d:ieq s.Page (-1);{rfl};{have e:s.Page = -1:=qE d;cases b:igt n 0;{rw [b]at h;cases h};{cases c:win s.Page 0 (wsub .i64 n 1);{rw [b,c]at h;cases h};{have:=(zfv.1 c).1;omega}}}};{unfold zc1 at a;rw[qD]at a;exact a.1.symm}
theorem zPS {h:Host}{m p:Int}(d:zcE h m p=true):PageAt h m p:=by unfold zcE at d;simp only[zde]at d;obtain⟨c,f,g⟩:=d;unfold zb3 at c;simp only[zde]at c;have b:=zBU _ _ c.2.2.2.2 _ (zbD f zi);have a:=b;unfold zeb at a;simp only[zde]at a;have i:(ix h.Mons m zi).Outer.length=8:=(by have:=zto a.2.2.1;simp only[ln] at this;omega);refine⟨f,g,b,i,?_,?_,?_⟩;{have:ln (ix h.Mons m zi).Dirty=8:=qE a.2.2.2.2.1;simp only[ln] at this;omega};{have:ln (ix h.Mons m zi).Tables=ln (ix h.Mons m zi).Guests:=qE a.2.1;simp only[ln] at this;omega};{have e:=a.2.2.1;unfold zcY at e;simp only[zde]at e;have j:hasB p (ln (ix h.Mons m zi).Outer)=true:=(by rw[ln,i];exact g);exact zU7 (qM.1 e.1 _ (zbD j _))}
theorem z0a {x:Mon}{p:Int}(h:zfd x):zfd (z0N x p):=⟨h.1,h.2.1,by simpa [z0N] using h.2.2.1,h.2.2.2⟩
theorem zCO {h:Host}{m p:Int}(b:hasB m (ln h.Mons)=true)(a:SmH h):SmH (zrH h m p):=⟨a.1,zjn a.2.1 (z0a (a.2.1.2 _ (zbD b _))),a.2.2⟩
theorem zKG {h:Host}{m p:Int}{s:Slot}(d:hasB m (ln h.Mons)=true)(a:SmH h):SmH (zcs h m p s):=by have c:=a.2.1.2 _ (zbD d zi);have e:=z9f (p:=p) (qW _) c;have b:zsJ (up h.Mons m {zkU (ix h.Mons m zi) p (ix h.Mons m zi).Tables.length with Outer:=up (ix h.Mons m zi).Outer p s}):=zjn a.2.1 ⟨by simpa using c.1,e.2⟩;unfold zcs;cases ine (ix (ix h.Mons m zi).Outer p zV).Page (-1);{exact⟨a.1,b,a.2.2⟩};{exact⟨a.1,b,qU (zJU _ _) a.2.2.1,qU (zJU _ _) a.2.2.2⟩}
theorem zCR {h:Host}{m p:Int}(a:hasB m (ln h.Mons)=true):hasB m (ln (zrH h m p).Mons)=true:=by unfold zrH;simpa [ln] using a
theorem z9b {h:Host}{m p:Int}(a:SmH h):SmH (zvB h m p):=by unfold zvB;cases b:zcE h m p;{exact a};{have P:=zPS b;cases zc1 (ix (ix h.Mons m zi).Outer p zV) noSlot;{exact zKG (zCR P.hm) (zCO P.hm a)};{exact zCO P.hm a}}
@[simp] abbrev zG4 (h:Host)(m p:Int):Bool:=pc (zcc h)
@[simp] abbrev zyc (h:Host)(m p:Int):Host:=zvB h m p
@[simp] abbrev zyd (h:Host)(m p:Int):Bool:=zcE h m p
def zKj:Run:=rF3 dH dI dI fun b c d=>(zG4 b c d,[aH (zyc b c d),aB (zyd b c d)])
def zTV (N:Nat)(h:Host)(a b:Int):OA:=
 let c:=(zu h);let g:=(ix c.Mons a zi); (oN (zbW h) (oN (zoY c a b) (cond (nB (zhR c a b)) (some [(aH c),(aB false)]) (oN (inb a (ln c.Mons)) (oN (inb b (ln g.Dirty)) (share (up c.Mons a ({g with Dirty:=(up g.Dirty b false)}:Mon)) (fun d=>let i:=(ix d a zi).Outer;let f:=({c with Mons:=d}:Host);let e:=(ix i b zV);let j:=({e with Rights:=1}:Slot); (oN (inb a (ln d)) (oN (inb b (ln i)) (oN zcC (cond (cond (ieq e.Page zbx.Page) (ieq e.Rights zbx.Rights) false) (some [(aH f),(aB true)]) (oN (ze9 f a b j) (some [(aH (zg0 f a b j)),(aB true)])))))))))))))
theorem z1w (a:Host)(c b:Int)(j:zG4 a c b=true):∃N,zTV N a c b=some [aH (zyc a c b),aB (zyd a c b)]:=by
 have g:=zM.1 j;have i:=(zQ a).1 g;refine⟨0,?_⟩;unfold zTV zyc zyd zvB oN nB;conv=>zeta
 refine must (zbz g) (must rfl ?_);cases f:zcE a c b;{simp only [zhR,zu,f,cF,cT]};{have P:=zPS f;obtain⟨k,rfl,d⟩:=zdS (n:=a.Mons.length) P.hm;simp only[zhR,zu,f,cT,cF];have l:inb b (ln (ix a.Mons (k:Int) zi).Dirty)=true:=(by rw[ln,P.hd];exact P.hp);have h:inb b (ln (ix a.Mons (k:Int) zi).Outer)=true:=(by rw[ln,P.ho];exact P.hp);refine must P.hm (must l ?_);simp only[share,zdX d,h,cT,zcC,zbx];refine must (zCR (p:=b) P.hm) ?_;have e:∀s:Slot,zc1 s noSlot=bif ieq s.Page noSlot.Page then ieq s.Rights noSlot.Rights else false:=fun s=>(by unfold zc1;cases ieq s.Page noSlot.Page<;>rfl);rw[<- e];cases zc1 (ix (ix a.Mons (k:Int) zi).Outer b zV) noSlot;{refine zcS rfl (must (zbz ⟨(zQ _).2 (zCO P.hm i),zCR (p:=b) P.hm,?_,?_⟩) rfl);{simp only [zdX d];exact h};{simp only [zdX d];exact kY P.ht}};{rfl}}
theorem zVt:vN 337 zKj:=kF3 zLa zx zy zdy (zo []) z1w
def z7i:zX:=[(337,zKj)]++z4n
theorem z7j:zL z7i:=zh zVt zLa
def z7k:zX:=z7i
theorem zfz:zL z7k:=z7j
def zCk (o i t:Int):Int:=bif zg6 i t then 1 else (cond (zg6 o t) 2 0)
@[simp] abbrev zsm (o i t:Int):Bool:=true
@[simp] abbrev zoU (o i t:Int):Int:=zCk o i t
def zDL:Run:=rF3 dI dI dI fun b c d=>(zsm b c d,[aI (zoU b c d)])
def zJw (N:Nat)(b c a:Int):OA:=
 (oN (zix c a) (cond (zh8 c a) (some [(aI 1)]) (oN (zix b a) (cond (zh8 b a) (some [(aI 2)]) (some [(aI 0)])))))
theorem zWb (a b c:Int)(d:zsm a b c=true):∃N,zJw N a b c=some [aI (zoU a b c)]:=by refine⟨0,?_⟩;unfold zJw oN;refine must rfl (br (fun _=>?_) (fun _=>must rfl (br (fun _=>?_) (fun _=>?_))));all_goals first|rfl|(simp only [*,zoU,zCk,cT,cF]<;>rfl)|simp_all[Ty.cells,zoU,zCk]
theorem zOG:vN 353 zDL:=kF3 zfz zx zy zdy (zo []) zWb
theorem has3 (p:Int):hasB p 3=win p 0 2:=by unfold hasB win ige ile;by_cases a:0<=p<;>by_cases b:p<3;{rw [qJ (p:=0<=p/\p<3) ⟨a,b⟩,qJ (p:=p≥0) a,qJ (p:=p<=2) (by omega)];rfl};{rw [qH (p:=0<=p/\p<3) (by omega),qH (p:=p<=2) (by omega)];simp};{rw [qH (p:=0<=p/\p<3) (by omega),qH (p:=p≥0) (by omega)];simp};{rw [qH (p:=0<=p/\p<3) (by omega),qH (p:=p≥0) (by omega)];simp}
theorem has2 (p:Int):hasB p 2=win p 0 1:=by unfold hasB win ige ile;by_cases a:0<=p<;>by_cases b:p<2;{rw [qJ (p:=0<=p/\p<2) ⟨a,b⟩,qJ (p:=p≥0) a,qJ (p:=p<=1) (by omega)];rfl};{rw [qH (p:=0<=p/\p<2) (by omega),qH (p:=p<=1) (by omega)];simp};{rw [qH (p:=0<=p/\p<2) (by omega),qH (p:=p≥0) (by omega)];simp};{rw [qH (p:=0<=p/\p<2) (by omega),qH (p:=p≥0) (by omega)];simp}
def zdN (m g:Int):Int:=bif win m 0 2 then (cond (win g 0 1) (zK .i64 (zK .i64 1 g) (zkV .i64 m 2)) 0) else 0
@[simp] abbrev zlS (m g:Int):Bool:=true
@[simp] abbrev zvd (m g:Int):Int:=zdN m g
def zKq:Run:=rF2 dI dI fun b c=>(zlS b c,[aI (zvd b c)])
def zT3 (N:Nat)(a b:Int):OA:=
 (oN (zN a 0 2) (cond (nB (zT a 0 2)) (some [(aI 0)]) (oN (zN b 0 1) (cond (nB (zT b 0 1)) (some [(aI 0)]) (some [(aI (zK .i64 (zK .i64 1 b) (zkV .i64 a 2)))])))))
theorem z1E (a b:Int)(c:zlS a b=true):∃N,zT3 N a b=some [aI (zvd a b)]:=by refine⟨0,?_⟩;unfold zT3 oN nB;refine must rfl (brN (fun _=>?_) (fun _=>must rfl (brN (fun _=>?_) (fun _=>?_))));all_goals first|rfl|(simp only [*,zvd,zdN,cT,cF]<;>rfl)|simp_all[Ty.cells,zvd,zdN]
theorem zVA:vN 37 zKq:=kF2 zfz zx zy zdy (zo []) z1E
@[simp] abbrev zxy (m g:Int):Bool:=true
@[simp] abbrev zz9 (m g:Int):Int:=zdN m g
def zKf:Run:=rF2 dI dI fun b c=>(zxy b c,[aI (zz9 b c)])
def zTR (N:Nat)(a b:Int):OA:=
 (oN (zcM a 3) (cond (nB (zdc a 3)) (some [(aI 0)]) (oN (zcM b 2) (cond (nB (zdc b 2)) (some [(aI 0)]) (some [(aI (zK .i64 (zK .i64 1 b) (zkV .i64 a 2)))])))))
theorem z1r (a b:Int)(c:zxy a b=true):∃N,zTR N a b=some [aI (zz9 a b)]:=by refine⟨0,?_⟩;unfold zTR oN nB;refine must rfl (brN (fun _=>?_) (fun _=>must rfl (brN (fun _=>?_) (fun _=>?_))));all_goals first|rfl|(simp only [*,zz9,zdN,has3,has2,cT,cF]<;>rfl)|simp_all[Ty.cells,zz9,zdN,has3,has2]
theorem zVo:vN 106 zKf:=kF2 zfz zx zy zdy (zo []) z1r
def ziR (k:Kept)(p:Int):Bool:=bif zdk k p then ix k.Known p false else false
def zdI (k:Kept)(p:Int):Slot:=bif ziR k p then ix k.Slots p zV else noSlot
@[simp] abbrev zH1 (k:Kept)(p:Int):Bool:=pc (SmK k)
@[simp] abbrev zvb (k:Kept)(p:Int):Slot:=zdI k p
@[simp] abbrev zH0 (k:Kept)(p:Int):Bool:=ziR k p
def zU0:Run:=rF2 (dT .kept) dI fun b c=>(zH1 b c,[aT .slot (zvb b c),aB (zH0 b c)])
def z2G (N:Nat)(a:Kept)(b:Int):OA:=
 let c:=(ix a.Slots b zV); (oN (zqm a b) (cond (nB (ziA a b)) (oN zcC (some [(.agg [(.i .i64 zbx.Page),(.i .i64 zbx.Rights)]),(aB false)])) (oN (inb b (ln a.Known)) (cond (nB (ix a.Known b false)) (oN zcC (some [(.agg [(.i .i64 zbx.Page),(.i .i64 zbx.Rights)]),(aB false)])) (oN (inb b (ln a.Slots)) (some [(.agg [(.i .i64 c.Page),(.i .i64 c.Rights)]),(aB true)]))))))
theorem z7Y (a:Kept)(b:Int)(f:zH1 a b=true):∃N,z2G N a b=some [aT .slot (zvb a b),aB (zH0 a b)]:=by
 have g:=zM.1 f;refine⟨0,?_⟩;unfold z2G zvb zH0 zdI ziR oN nB;conv=>zeta
 refine must (zbz g) ?_;rw[show ziA a b=zdk a b from rfl];cases c:zdk a b;{rfl};{unfold zdk at c;obtain⟨d,e⟩:=zde.1 c;simp only[zC d,zC e,cT];cases ix a.Known b false<;>rfl}
theorem z1h:vN 35 zU0:=kF2 zfz zx zy zdy (zo []) z7Y
@[simp] abbrev zz6 (k:Kept)(p:Int):Bool:=true
@[simp] abbrev zu4 (k:Kept)(p:Int):Slot:=zdI k p
@[simp] abbrev zHQ (k:Kept)(p:Int):Bool:=ziR k p
def zUX:Run:=rF2 (dT .kept) dI fun b c=>(zz6 b c,[aT .slot (zu4 b c),aB (zHQ b c)])
def z2D (N:Nat)(a:Kept)(b:Int):OA:=
 let c:=(ix a.Slots b zV); (oN (zcM b (ln a.Known)) (cond (nB (zdc b (ln a.Known))) (oN zdo (some [(.agg [(.i .i64 zcO.Page),(.i .i64 zcO.Rights)]),(aB false)])) (oN (zcM b (ln a.Slots)) (cond (nB (zdc b (ln a.Slots))) (oN zdo (some [(.agg [(.i .i64 zcO.Page),(.i .i64 zcO.Rights)]),(aB false)])) (oN (inb b (ln a.Known)) (cond (nB (ix a.Known b false)) (oN zdo (some [(.agg [(.i .i64 zcO.Page),(.i .i64 zcO.Rights)]),(aB false)])) (oN (inb b (ln a.Slots)) (some [(.agg [(.i .i64 c.Page),(.i .i64 c.Rights)]),(aB true)]))))))))
theorem z7V (a:Kept)(b:Int)(e:zz6 a b=true):∃N,z2D N a b=some [aT .slot (zu4 a b),aB (zHQ a b)]:=by
 refine⟨0,?_⟩;unfold z2D zu4 zHQ zdI ziR zdk oN nB;conv=>zeta
 rw[show zdc b (ln a.Known)=hasB b (ln a.Known) from rfl,show zdc b (ln a.Slots)=hasB b (ln a.Slots) from rfl];cases c:hasB b (ln a.Known);{rfl};{cases d:hasB b (ln a.Slots);{rfl};{simp only [zcM,zC c,zC d,cT];cases ix a.Known b false<;>rfl}}
theorem z1e:vN 218 zUX:=kF2 zfz zx zy zdy (zo []) z7V
def filled (k:Kept)(a b:List Slot)(p:Int):Kept:=bif zdk k p then (cond (hasB p (ln a)) ⟨up k.Known p true,up k.Slots p (zbr (ix a p zV) b)⟩ k) else k
@[simp] theorem z6m {k:Kept}{a b:List Slot}{p:Int}(h:SmK k):SmK (filled k a b p):=by unfold filled;cases zdk k p;{exact h};{cases hasB p (ln a);{exact h};{exact⟨by simpa using h.1,by simpa using h.2⟩}}
@[simp] abbrev zMN (k:Kept)(i o:List Slot)(p:Int):Bool:=pc (SmK k)
@[simp] abbrev zP8 (k:Kept)(i o:List Slot)(p:Int):Kept:=filled k i o p
def zP4:Run:=rF4 (dT .kept) (dS .slot) (dS .slot) dI fun b c d e=>(zMN b c d e,[aT .kept (zP8 b c d e)])
def zXd (N:Nat)(d:Kept)(c e:lS)(a:Int):OA:=
 let b:=(zdD d); (oN (zf7 d) (oN (zqm b a) (cond (ziA b a) (cond (ilt a (ln c)) (oN (inb a (ln b.Known)) (share (up b.Known a true) (fun f=>(oN (inb a (ln c)) (oN (zk3 (ix c a zV) e) (oN (inb a (ln b.Slots)) (share (up b.Slots a (znX (ix c a zV) e)) (fun g=>(some [(aT .kept (⟨f,g⟩:Kept))]))))))))) (some [(aT .kept b)])) (some [(aT .kept b)]))))
theorem z5k (b:Kept)(c d:List Slot)(a:Int)(j:zMN b c d a=true):∃N,zXd N b c d a=some [aT .kept (zP8 b c d a)]:=by
 have g:=zM.1 j;refine⟨0,?_⟩;unfold zXd zP8 filled oN;conv=>zeta
 refine must (zbz ((zzQ _).2 g)) (must (zbz g) ?_);rw[show ziA (zdD b) a=zdk b a from rfl];cases f:zdk b a;{rfl};{unfold zdk at f;obtain⟨e,h⟩:=zde.1 f;rw[has_lt e (m:=ln c)];cases i:hasB a (ln c);{rfl};{simp only [cT,zdD,zC e,zC h,zC i,share,zk3];rfl}}
theorem zYa:vN 223 zP4:=kF4 zfz zx zy zdy (zo []) z5k
@[simp] abbrev zL5 (k:Kept)(i o:List Slot)(p:Int):Bool:=pc (SmK k)
@[simp] abbrev zO9 (k:Kept)(i o:List Slot)(p:Int):Kept:=filled k i o p
def zP2:Run:=rF4 (dT .kept) (dS .slot) (dS .slot) dI fun b c d e=>(zL5 b c d e,[aT .kept (zO9 b c d e)])
def zXa (N:Nat)(c:Kept)(d e:lS)(a:Int):OA:=
 let b:=(zdp c); (oN (zgf c) (oN (zcM a (ln c.Known)) (cond (zdc a (ln c.Known)) (oN (zcM a (ln c.Slots)) (cond (zdc a (ln c.Slots)) (oN (zcM a (ln d)) (cond (zdc a (ln d)) (oN (inb a (ln b.Known)) (share (up b.Known a true) (fun f=>(oN (inb a (ln d)) (oN (zkZ (ix d a zV) e) (oN (inb a (ln b.Slots)) (share (up b.Slots a (znP (ix d a zV) e)) (fun g=>(some [(aT .kept (⟨f,g⟩:Kept))]))))))))) (some [(aT .kept b)]))) (some [(aT .kept b)]))) (some [(aT .kept b)]))))
theorem z5g (b:Kept)(c d:List Slot)(a:Int)(h:zL5 b c d a=true):∃N,zXa N b c d a=some [aT .kept (zO9 b c d a)]:=by
 have i:=zM.1 h;refine⟨0,?_⟩;unfold zXa zO9 filled zdk oN;conv=>zeta
 refine must (zbz i) ?_;simp only[zdc,zcM,zdp,cT];cases e:hasB a (ln b.Known);{rfl};{cases f:hasB a (ln b.Slots);{rfl};{cases g:hasB a (ln c);{rfl};{simp only [cT,zC e,zC f,zC g,share,zkZ];rfl}}}
theorem zX6:vN 219 zP2:=kF4 zfz zx zy zdy (zo []) z5g
theorem zLm {a b:Type}(p:a->Bool)(r:a->Option b)(K:Unit->Option b):∀(l:List a) (i:Nat),goL (fun _ x (_:Unit) k=>bif p x then r x else k ()) K l i ()=match l.find? p with|some x=>r x|none=>K ()
 |[],_=>rfl
 |x::l,i=>by simp only[goL];cases h:p x;{rw [List.find?_cons_of_neg (by simp[h])];exact zLm p r K l (i+1)};{rw [List.find?_cons_of_pos h];rfl}
def zuy (b:List Entry)(t p:Int):Option Entry:=b.find? fun e=>bif ieq e.Tag t then ieq e.Page p else false
@[simp] abbrev zn1 (b:List Entry)(t p:Int):Bool:=true
@[simp] abbrev zn0 (b:List Entry)(t p:Int):Entry:=(zuy b t p).getD ⟨0,0,0,0⟩
@[simp] abbrev zkl (b:List Entry)(t p:Int):Bool:=(zuy b t p).isSome
def zx2:Run:=rF3 (dS .entry) dI dI fun b c d=>(zn1 b c d,[aT .entry (zn0 b c d),aB (zkl b c d)])
def zDb (N:Nat)(f:lE)(g h:Int):OA:=
 (iter (σ:=(Int×(Int×(Int×(Int×(Int×(Int×(Int×(lE×Unit))))))))) N (fun j a=>let c:=a.2.2.2.2.2.2.2.1;let d:=(inb a.2.2.1 (ln c));let e:=(j (a.1,(a.2.1,((zK .i64 a.2.2.1 1),(a.2.2.2.1,(a.2.2.2.2.1,(a.2.2.2.2.2.1,(a.2.2.2.2.2.2.1,(c,())))))))));let b:=(ix c a.2.2.1 zew); (cond (ilt a.2.2.1 (ln c)) (oN d (cond (ieq b.Tag a.1) (oN d (cond (ieq b.Page a.2.1) (oN d (some [(.agg [(.i .i64 b.Tag),(.i .i64 b.Page),(.i .i64 b.Host),(.i .i64 b.Rights)]),(aB true)])) e)) e)) (some [(.agg [(.i .i64 0),(.i .i64 0),(.i .i64 0),(.i .i64 0)]),(aB false)]))) (g,(h,(0,(0,(0,(0,(0,(f,())))))))))
def zQK:FuncId->Nat->Option Tmpl:=zo [(36,0,{n:=36,tm:=[(0,.sl 0 []),(1,ti),(2,ti),(6,.lp 0 0),(8,ti)],lo:=[(0,[ti,ti,ti,ti])],ro:=[(0,.entry,false)]})]
theorem zPw (a:List Entry)(c d:Int)(j:zce big [aS .entry a,aI c,aI d])(l:zn1 a c d=true):∃N,zDb N a c d=some [aT .entry (zn0 a c d),aB (zkl a c d)]:=by
 have h:=(len0 j);refine zcd fun N g=>?_;unfold zDb oN;conv=>zeta
 refine(zbl a (fun i (t:Unit)=>(c,d,(i:Int),0,0,0,0,a,())) _ (fun _ (x:Entry) (_:Unit) k=>bif (cond (ieq x.Tag c) (ieq x.Page d) false) then (some [AV.agg (Ty.cells .entry x),AV.one (.b true)]) else k ()) (fun (t:Unit)=>(some [(.agg [(.i .i64 0),(.i .i64 0),(.i .i64 0),(.i .i64 0)]),(.one (.b false))])) (fun i f t rec=>?_) (fun t rec=>?_) _ () (g h)).trans ?_;{simp only [zbA f,zbh f,zbo f,zbg f h,cT];cases ieq a[i].Tag c<;>cases ieq a[i].Page d<;>rfl};{simp only [zbq,cF]};rw[zLm (fun e:Entry=>bif ieq e.Tag c then ieq e.Page d else false)];unfold zn0 zkl zuy;cases a.find? (fun e:Entry=>bif ieq e.Tag c then ieq e.Page d else false)<;>rfl
theorem zIo:vN 36 zx2:=hF3 zfz zx zy zdy zQK zPw
@[simp] abbrev znQ (b:List Entry)(t p:Int):Bool:=true
@[simp] abbrev zkc (b:List Entry)(t p:Int):Entry:=(zuy b t p).getD ⟨0,0,0,0⟩
@[simp] abbrev zkd (b:List Entry)(t p:Int):Bool:=(zuy b t p).isSome
def zxO:Run:=rF3 (dS .entry) dI dI fun b c d=>(znQ b c d,[aT .entry (zkc b c d),aB (zkd b c d)])
def zCX (N:Nat)(d:lE)(f g:Int):OA:=
 (iter (σ:=(Int×(Int×(Int×(Int×(Int×(Int×(Int×(Int×(lE×Unit)))))))))) N (fun h a=>let c:=a.2.2.2.2.2.2.2.2.1;let e:=(h (a.1,(a.2.1,(a.2.2.1,((zK .i64 a.2.2.2.1 1),(a.2.2.2.2.1,(a.2.2.2.2.2.1,(a.2.2.2.2.2.2.1,(a.2.2.2.2.2.2.2.1,(c,()))))))))));let b:=(ix c a.2.2.2.1 zew); (cond (ilt a.2.2.2.1 a.2.2.1) (oN (inb a.2.2.2.1 (ln c)) (cond (ieq b.Tag a.1) (cond (ieq b.Page a.2.1) (some [(.agg [(.i .i64 b.Tag),(.i .i64 b.Page),(.i .i64 b.Host),(.i .i64 b.Rights)]),(aB true)]) e) e)) (some [(.agg [(.i .i64 0),(.i .i64 0),(.i .i64 0),(.i .i64 0)]),(aB false)]))) (f,(g,((ln d),(0,(0,(0,(0,(0,(d,()))))))))))
def zQC:FuncId->Nat->Option Tmpl:=zo [(217,0,{n:=29,tm:=[(1,ti),(2,ti),(6,.lp 0 0),(10,.sl 0 []),(11,ti),(12,ti)],lo:=[(0,[ti,ti,ti,ti])],ro:=[(0,.entry,false)]})]
theorem zPg (a:List Entry)(c d:Int)(j:zce big [aS .entry a,aI c,aI d])(l:znQ a c d=true):∃N,zCX N a c d=some [aT .entry (zkc a c d),aB (zkd a c d)]:=by
 have h:=(len0 j);refine zcd fun N g=>?_;unfold zCX oN;conv=>zeta
 refine(zbl a (fun i (t:Unit)=>(c,d,(ln a),(i:Int),0,0,0,0,a,())) _ (fun _ (x:Entry) (_:Unit) k=>bif (cond (ieq x.Tag c) (ieq x.Page d) false) then (some [AV.agg (Ty.cells .entry x),AV.one (.b true)]) else k ()) (fun (t:Unit)=>(some [(.agg [(.i .i64 0),(.i .i64 0),(.i .i64 0),(.i .i64 0)]),(.one (.b false))])) (fun i f t rec=>?_) (fun t rec=>?_) _ () (g h)).trans ?_;{simp only [zbA f,zbh f,zbo f,zbg f h,cT];cases ieq a[i].Tag c<;>cases ieq a[i].Page d<;>rfl};{simp only [zbq,cF]};rw[zLm (fun e:Entry=>bif ieq e.Tag c then ieq e.Page d else false)];unfold zkc zkd zuy;cases a.find? (fun e:Entry=>bif ieq e.Tag c then ieq e.Page d else false)<;>rfl
theorem zIa:vN 217 zxO:=hF3 zfz zx zy zdy zQC zPg
def zs8 (t p:Int)(e:Entry):Bool:=bif ine e.Tag t then true else ine e.Page p
def zcF (b:List Entry)(t p:Int):List Entry:=b.filter (zs8 t p)
theorem zBI (b:List Entry)(t p:Int):(zcF b t p).length<=b.length:=uA _ _
@[simp] abbrev zgD (b:List Entry)(t p:Int):Bool:=pc (b.length<=1048576)
@[simp] abbrev zns (b:List Entry)(t p:Int):List Entry:=zcF b t p
def zx4:Run:=rF3 (dS .entry) dI dI fun b c d=>(zgD b c d,[aS .entry (zns b c d)])
def zDd (N:Nat)(h:lE)(i j:Int):OA:=
 (iter (σ:=(Int×(Int×(Int×(lE×(lE×Unit)))))) N (fun f a=>let b:=a.2.2.2.1;let c:=(inb a.2.2.1 (ln b));let d:=(ix b a.2.2.1 zew);let e:=(ap a.2.2.2.2.1 [d]);let g:=(f (a.1,(a.2.1,((zK .i64 a.2.2.1 1),(b,(e,())))))); (cond (ilt a.2.2.1 (ln b)) (oN c (cond (ine d.Tag a.1) (oN c (oN (few (ln e)) g)) (oN c (cond (ine d.Page a.2.1) (oN c (oN (few (ln e)) g)) (f (a.1,(a.2.1,((zK .i64 a.2.2.1 1),(b,(a.2.2.2.2.1,())))))))))) (some [(aS .entry a.2.2.2.2.1)]))) (i,(j,(0,(h,([],()))))))
def zQM:FuncId->Nat->Option Tmpl:=zo [(109,0,{n:=40,tm:=[(0,.sl 0 []),(1,ti),(2,ti),(7,.sl 1 []),(8,ti)],lo:=[],ro:=[(0,.entry,false),(1,.entry,true)]})]
theorem zPy (a:List Entry)(b c:Int)(h:zgD a b c=true):∃N,zDd N a b c=some [aS .entry (zns a b c)]:=by
 have j:=zM.1 h;have f:=zcQ j;refine zcd fun N e=>?_;unfold zDd oN;conv=>zeta
 refine(zbl a (fun i (t:lE)=>(b,c,(i:Int),a,t,())) _ (fun _ (x:Entry) (t:List Entry) g=>bif zs8 b c x then (cond (few (ln (ap t [x]))) (g (ap t [x])) none) else g t) (fun (t:lE)=>(some [(.one (.s .entry t))])) (fun i d t rec=>?_) (fun t rec=>?_) _ ([]) (e f.1)).trans ?_;{simp only [zbA d,zbh d,zbo d,zbg d f.1,cT];unfold zs8;cases ine a[i].Tag b<;>cases ine a[i].Page c<;>rfl};{simp only [zbq,cF]};exact zme (zs8 b c) _ a 0 [] (by simpa using f.2)
theorem zIq:vN 109 zx4:=kF3 zfz zx zy zdy zQM zPy
@[simp] abbrev ztF (b:List Entry)(t p:Int):Bool:=pc (b.length<=1048576)
@[simp] abbrev zrV (b:List Entry)(t p:Int):List Entry:=zcF b t p
def zxQ:Run:=rF3 (dS .entry) dI dI fun b c d=>(ztF b c d,[aS .entry (zrV b c d)])
def zCZ (N:Nat)(e:lE)(h i:Int):OA:=
 (iter (σ:=(Int×(Int×(Int×(Int×(lE×(lE×Unit))))))) N (fun f a=>let b:=a.2.2.2.2.2.1;let c:=(ix b a.2.1 zew);let d:=(ap a.2.2.2.2.1 [c]);let g:=(f (a.1,((zK .i64 a.2.1 1),(a.2.2.1,(a.2.2.2.1,(d,(b,()))))))); (cond (ilt a.2.1 a.1) (oN (inb a.2.1 (ln b)) (cond (ieq c.Tag a.2.2.1) (cond (nB (ieq c.Page a.2.2.2.1)) (oN (few (ln d)) g) (f (a.1,((zK .i64 a.2.1 1),(a.2.2.1,(a.2.2.2.1,(a.2.2.2.2.1,(b,())))))))) (oN (few (ln d)) g))) (some [(aS .entry a.2.2.2.2.1)]))) ((ln e),(0,(h,(i,([],(e,())))))))
def zQE:FuncId->Nat->Option Tmpl:=zo [(203,0,{n:=25,tm:=[(1,.fn 204 [0,1]),(5,.sl 0 []),(9,.sl 1 []),(10,ti),(11,ti)],lo:=[(0,[ti]),(1,[ti])],ro:=[(0,.entry,true),(1,.entry,false)]})]
theorem zPi (a:List Entry)(b c:Int)(h:ztF a b c=true):∃N,zCZ N a b c=some [aS .entry (zrV a b c)]:=by
 have j:=zM.1 h;have f:=zcQ j;refine zcd fun N e=>?_;unfold zCZ oN nB;conv=>zeta
 refine(zbl a (fun i (t:lE)=>((ln a),(i:Int),b,c,t,a,())) _ (fun _ (x:Entry) (t:List Entry) g=>bif zs8 b c x then (cond (few (ln (ap t [x]))) (g (ap t [x])) none) else g t) (fun (t:lE)=>(some [(.one (.s .entry t))])) (fun i d t rec=>?_) (fun t rec=>?_) _ ([]) (e f.1)).trans ?_;{simp only [zbA d,zbh d,zbo d,zbg d f.1,cT];unfold zs8;simp only[zq2];cases ieq a[i].Tag b<;>cases ieq a[i].Page c<;>rfl};{simp only [zbq,cF]};exact zme (zs8 b c) _ a 0 [] (by simpa using f.2)
theorem zIc:vN 105 zxQ:=kF3 zfz zx zy zdy zQE zPi
def zbck:zX:=[(353,zDL),(37,zKq),(106,zKf),(35,zU0),(218,zUX),(223,zP4),(219,zP2),(36,zx2),(217,zxO),(109,zx4),(105,zxQ)]++z7k
theorem zvu:zL zbck:=zh zOG (zh zVA (zh zVo (zh z1h (zh z1e (zh zYa (zh zX6 (zh zIo (zh zIa (zh zIq (zh zIc zfz))))))))))
def zor (b:List Entry)(e:Entry):List Entry:=bif igt (ln (ap (zcF b e.Tag e.Page) [e])) 6 then dp (ap (zcF b e.Tag e.Page) [e]) (wsub .i64 (ln (ap (zcF b e.Tag e.Page) [e])) 6) else ap (zcF b e.Tag e.Page) [e]
theorem zwa {b:List Entry}(e:Entry)(h:b.length<=1048576):(zor b e).length<=1048576/\(ap (zcF b e.Tag e.Page) [e]).length<=1048577:=by have d:=zBI b e.Tag e.Page;have c:(ap (zcF b e.Tag e.Page) [e]).length<=1048577:=(by simp[ap];omega);refine⟨?_,c⟩;unfold zor;cases a:igt (ln (ap (zcF b e.Tag e.Page) [e])) 6;{have a:=jT a;simp only[ln]at a;simp only[cF];omega};{simp only [cT,dp,vK];have a:=qE a;have:wsub .i64 (ln (ap (zcF b e.Tag e.Page) [e])) 6=ln (ap (zcF b e.Tag e.Page) [e])-6:=zrJ (by simp only[ln] at *;omega) (by simp only[ln] at *;omega);rw[this];simp only[ln] at *;omega}
@[simp] abbrev zlR (b:List Entry)(e:Entry):Bool:=pc (b.length<=1048576)
@[simp] abbrev zmJ (b:List Entry)(e:Entry):List Entry:=zor b e
def zrm:Run:=rF2 (dS .entry) (dT .entry) fun b c=>(zlR b c,[aS .entry (zmJ b c)])
def zE1 (N:Nat)(d:lE)(b:Entry):OA:=
 let a:=(ap (zns d b.Tag b.Page) [b]);let c:=(wsub .i64 (ln a) 6); (oN (zgD d b.Tag b.Page) (oN (few (ln a)) (cond (igt (ln a) 6) (oN (inr c (ln a) (ln a)) (oN (few (ln (ap [] (dp a c)))) (some [(aS .entry (ap [] (dp a c)))]))) (some [(aS .entry a)]))))
theorem zSJ (b:List Entry)(a:Entry)(h:zlR b a=true):∃N,zE1 N b a=some [aS .entry (zmJ b a)]:=by
 have f:=zM.1 h;obtain⟨c,g⟩:=zwa a f;refine⟨0,?_⟩;unfold zE1 oN;conv=>zeta
 refine must (zbz f) (must (zgE (qU g (by decide:1048577<=2147483648))) ?_);unfold zmJ zor at *;show _=some [AV.one (.s .entry (cond (igt (ln (ap (zcF b a.Tag a.Page) [a])) 6) (dp (ap (zcF b a.Tag a.Page) [a]) (wsub .i64 (ln (ap (zcF b a.Tag a.Page) [a])) 6)) (ap (zcF b a.Tag a.Page) [a])))];cases d:igt (ln (ap (zcF b a.Tag a.Page) [a])) 6;{rfl};{rw [d]at c;simp only[cT]at c;have d:=qE d;have e:wsub .i64 (ln (ap (zcF b a.Tag a.Page) [a])) 6=ln (ap (zcF b a.Tag a.Page) [a])-6:=zrJ (by simp only[ln] at *;omega) (by simp only[ln] at *;omega);refine must rfl (must (qJ ?_) (must ?_ ?_));{show 0<=wsub .i64 (ln (ap (zcF b a.Tag a.Page) [a])) 6/\wsub .i64 (ln (ap (zcF b a.Tag a.Page) [a])) 6<=ln (ap (zcF b a.Tag a.Page) [a])/\ln (ap (zcF b a.Tag a.Page) [a])<=ln (ap (zcF b a.Tag a.Page) [a]);rw[e];simp only[ln] at *;omega};{exact zoL c};{rw [zm5];rfl}}
theorem zvJ:vN 224 zrm:=kF2 zvu zx zy zdy (zo []) zSJ
@[simp] abbrev zpu (b:List Entry)(e:Entry):Bool:=pc (b.length<=1048576)
@[simp] abbrev zpt (b:List Entry)(e:Entry):List Entry:=zor b e
def zAB:Run:=rF2 (dS .entry) (dT .entry) fun b c=>(zpu b c,[aS .entry (zpt b c)])
def zEC (N:Nat)(c:lE)(a:Entry):OA:=
 let b:=(ap (zrV c a.Tag a.Page) [a]);let d:=(imax 0 (wsub .i64 (ln b) 6)); (oN (ztF c a.Tag a.Page) (oN (few (ln b)) (oN (inr d (ln b) (ln b)) (some [(aS .entry (dp b d))]))))
theorem zSk (b:List Entry)(a:Entry)(h:zpu b a=true):∃N,zEC N b a=some [aS .entry (zpt b a)]:=by
 have g:=zM.1 h;obtain⟨_,f⟩:=zwa a g;refine⟨0,?_⟩;unfold zEC zpt zor oN;conv=>zeta
 simp only[zrV];generalize ap (zcF b a.Tag a.Page) [a]=l at f ⊢;refine must (zbz g) (must (zgE (qU f (by decide:1048577<=2147483648))) ?_);have e:wsub .i64 (ln l) 6=ln l-6:=zrJ (by simp only[ln] at *;omega) (by simp only[ln] at *;omega);rw[e];cases c:igt (ln l) 6;{have c:=jT c;have d:imax 0 (ln l-6)=0:=(by unfold imax;rw[if_neg (by omega)]);rw[d];exact must (qJ (by simp only[ln];omega)) (by simp[dp])};{have c:=qE c;have d:imax 0 (ln l-6)=ln l-6:=(by unfold imax;rw[if_pos (by omega)]);rw[d];exact must (qJ (by simp only[ln] at *;omega)) rfl}
theorem zLv:vN 220 zAB:=kF2 zvu zx zy zdy (zo []) zSk
def zph (l:List Slot)(p:Int):Option Nat:=l.findIdx? fun s=>ieq s.Page p
def zh6 (p:Int):List Mon->Nat->Int×Int
 |[],_=>(-1,-1)
 |m::l,i=>match zph m.Outer p with|some k=>((i:Int),(k:Int))|none=>zh6 p l (i+1)
def zbI (h:Host)(p:Int):Int×Int:=bif ilt p 0 then (-1,-1) else zh6 p h.Mons 0
theorem zUC {a:Type}(p:Slot->Bool)(r:Nat->Option a)(K:Unit->Option a):∀(l:List Slot) (i:Nat),goL (fun j x (_:Unit) k=>bif p x then r j else k ()) K l i ()=match l.findIdx? p with|some k=>r (i+k)|none=>K ()
 |[],_=>rfl
 |x::l,i=>by simp only[goL];rw[List.findIdx?_cons];cases h:p x;{simp only [cF,kE,if_false];rw[zUC p r K l (i+1)];cases l.findIdx? p with|none=>rfl|some k=>simp only[Option.map_some];congr 1;omega};{rfl}
theorem zQ8 {c:Type}(p:Int)(r:Int->Int->Option c):∀(l:List Mon) (i:Nat),goL (fun i (x:Mon) (_:Unit) b=>goL (fun j (y:Slot) (_:Unit) a=>bif ieq y.Page p then r (i:Int) (j:Int) else a ()) (fun _=>b ()) x.Outer 0 ()) (fun _=>r (-1) (-1)) l i ()=r (zh6 p l i).1 (zh6 p l i).2
 |[],_=>rfl
 |m::l,i=>by simp only[goL,zh6];rw[zUC (fun s=>ieq s.Page p) (fun j=>r (i:Int) (j:Int))];unfold zph;cases m.Outer.findIdx? (fun s=>ieq s.Page p) with|none=>exact zQ8 p r l (i+1)|some k=>simp only[j6]
@[simp] abbrev zk0 (h:Host)(p:Int):Bool:=true
@[simp] abbrev zgr (h:Host)(p:Int):Int:=(zbI h p).1
@[simp] abbrev zh0 (h:Host)(p:Int):Int:=(zbI h p).2
def zum:Run:=rF2 dH dI fun b c=>(zk0 b c,[aI (zgr b c),aI (zh0 b c)])
def zwO (N:Nat)(f:Host)(g:Int):OA:=
 (cond (ilt g 0) (some [(aI (-1)),(aI (-1))]) (iter (σ:=(Int×(Int×(Int×(lN×Unit))))) N (fun i b=>let c:=b.2.2.1; (cond (ilt c b.2.1) (oN (inb c (ln b.2.2.2.1)) (iter (σ:=(Int×(Int×(Int×(Int×(Int×(Int×(Int×(lN×Unit))))))))) N (fun j a=>let e:=a.2.2.2.2.2.2.2.1;let h:=(ix e a.2.2.2.2.1 zi).Outer;let d:=a.2.2.2.2.2.2.1; (cond (ilt d a.2.2.2.2.2.1) (oN (inb d (ln h)) (cond (ieq (ix h d zV).Page a.1) (some [(aI a.2.1),(aI d)]) (j (a.1,(a.2.1,(a.2.2.1,(a.2.2.2.1,(a.2.2.2.2.1,(a.2.2.2.2.2.1,((zK .i64 d 1),(e,()))))))))))) (i (a.1,(a.2.2.1,((zK .i64 a.2.2.2.1 1),(e,()))))))) (b.1,(c,(b.2.1,(c,(c,((ln (ix b.2.2.2.1 c zi).Outer),(0,(b.2.2.2.1,())))))))))) (some [(aI (-1)),(aI (-1))]))) (g,((ln f.Mons),(0,(f.Mons,()))))))
def zI4:FuncId->Nat->Option Tmpl:=zo [(313,0,{n:=36,tm:=[(1,ti),(13,.sl 0 []),(14,ti),(15,ti)],lo:=[],ro:=[(0,.mon,false)]}),(313,2,{n:=36,tm:=[(1,ti),(6,ti),(13,.sl 0 []),(14,ti),(15,ti),(21,.sl 0 [0]),(22,ti),(23,ti)],lo:=[],ro:=[(0,.mon,false)]})]
theorem zIH (a:Host)(c:Int)(m:zce big [aH a,aI c])(q:zk0 a c=true):∃N,zwO N a c=some [aI (zgr a c),aI (zh0 a c)]:=by
 have k:CVB big (.s .mon a.Mons):=(zdd m).1 _ (by simp[AV.cvs,zbk]);have h:=k.len;refine zcd fun N e=>?_;unfold zwO zgr zh0 zbI oN;conv=>zeta
 cases p:ilt c 0;{simp only [cF];refine(zbl a.Mons (fun i (t:Unit)=>(c,(ln a.Mons),(i:Int),a.Mons,())) _ (fun i (x:Mon) (_:Unit) n=>goL (fun j (y:Slot) (_:Unit) b=>bif ieq y.Page c then some [AV.one (.i .i64 (i:Int)),AV.one (.i .i64 (j:Int))] else b ()) (fun _=>n ()) x.Outer 0 ()) (fun (t:Unit)=>(some [(.one (.i .i64 (-1))),(.one (.i .i64 (-1)))])) (fun i d t rec=>?_) (fun t rec=>?_) _ () (e h)).trans ?_;{simp only [zbA d,zbh d,zbo d,zbg d h,cT];have l:a.Mons[i].Outer.length<=big:=(k.inv.2 _ (jL d) (.s .slot _) (by simp[Ty.cells])).len;refine(zbl a.Mons[i].Outer (fun j (u:Unit)=>(c,(i:Int),(ln a.Mons),(i:Int),(i:Int),(ln a.Mons[i].Outer),(j:Int),a.Mons,())) _ (fun j (y:Slot) (_:Unit) b=>bif ieq y.Page c then some [AV.one (.i .i64 (i:Int)),AV.one (.i .i64 (j:Int))] else b ()) (fun (u:Unit)=>(rec (c,((ln a.Mons),((((i+1:Nat)):Int),(a.Mons,())))))) (fun j g u f=>?_) (fun u f=>?_) _ () (e l)).trans ?_;{simp only [zbA g,zbh g,zbo g,zbg g l,cT,zbh d,zbo d,zbg d h]};{simp only [zbq,cF,zbh d,zbo d,zbg d h]};rfl};{simp only [zbq,cF]};exact zQ8 c (fun i j=>some [AV.one (.i .i64 i),AV.one (.i .i64 j)]) a.Mons 0};{rfl}
theorem zEf:vN 313 zum:=hF2 zvu zx zy zdy zI4 zIH
end
end Go.Proofs.YthhbajmehldikaaGreat.E
