/- What is proved here: a part of the proof that the statement of this claim holds (several texts of wip/, laid together). -/
import Derived.Test.YthhbajmehldikaaGreatU3
namespace Go.Proofs.YthhbajmehldikaaGreat.E
open Go
set_option linter.constructorNameAsVariable false
set_option linter.unusedVariables false
set_option maxRecDepth 100000
set_option linter.unusedSimpArgs false
set_option linter.unusedSectionVars false
noncomputable section
theorem hE (h:Host):(⟨h.Memory,h.Mons,h.Buffer,h.IoBuffer⟩:Host)=h:=rfl
def idxs {a:Type}(p:a->Bool):List a->Nat->List Int
 |[],_=>[]
 |x::l,i=>bif p x then (i:Int)::idxs p l (i+1) else idxs p l (i+1)
theorem zAy {a:Type}(p:a->Bool):∀(l:List a) (i:Nat),(idxs p l i).length<=l.length
 |[],_=>qW _
 |x::l,i=>by have:=zAy p l (i+1);simp only[idxs];cases p x<;>simp<;>omega
theorem zus {b c:Type}(p:b->Bool)(K:List Int->Option c):∀(l:List b) (i:Nat) (a:List Int),a.length+l.length<=2147483648->
 goL (fun i x a k=>bif p x then (cond (few (ln (ap a [(i:Int)]))) (k (ap a [(i:Int)])) none) else k a) K l i a=K (a++idxs p l i)
 |[],i,a,_=>by simp[goL,idxs]
 |x::l,i,a,h=>by simp only[q0]at h;simp only[goL,idxs];cases p x;{simp only [cF];exact zus p K l (i+1) a (by omega)};{simp only [cT];rw[zg8 (by simp[ap];omega),cT,zus p K l (i+1) _ (by simp[ap];omega)];simp[ap]}
def zxF (p:Nat->Bool):Nat->Nat->List Int
 | 0,_=>[]
 |n+1,i=>bif p i then (i:Int)::zxF p n (i+1) else zxF p n (i+1)
theorem zAk {b:Type}(p:Nat->Bool)(K:List Int->Option b):∀(n i:Nat) (a:List Int),a.length+n<=2147483648->
 goN (fun i a k=>bif p i then (cond (few (ln (ap a [(i:Int)]))) (k (ap a [(i:Int)])) none) else k a) K n i a=K (a++zxF p n i)
 | 0,i,a,_=>by simp[goN,zxF]
 |n+1,i,a,h=>by simp only[goN,zxF];cases p i;{simp only [cF];exact zAk p K n (i+1) a (by omega)};{simp only [cT];rw[zg8 (by simp[ap];omega),cT,zAk p K n (i+1) _ (by simp[ap];omega)];simp[ap]}
abbrev zAY (l:List Slot)(_:Int):Bool:=pc (l.length<=2147483648)
abbrev zqD (l:List Slot)(p:Int):List Int:=idxs (fun (s:Slot)=>ieq s.Page p) l 0
def zE9:Run:=rF2 (dS .slot) dI fun b c=>(zAY b c,[aS .int (zqD b c)])
def zLo (N:Nat)(c:lS)(d:Int):OA:=
 (iter (σ:=(Int×(Int×(lS×((List Int)×Unit))))) N (fun b a=>(cond (ilt a.2.1 (ln a.2.2.1)) (oN (inb a.2.1 (ln a.2.2.1)) (cond (ieq (ix a.2.2.1 a.2.1 zV).Page a.1) (oN (few (ln (ap a.2.2.2.1 [a.2.1]))) (b (a.1,((zM .i64 a.2.1 1),(a.2.2.1,((ap a.2.2.2.1 [a.2.1]),())))))) (b (a.1,((zM .i64 a.2.1 1),(a.2.2.1,(a.2.2.2.1,()))))))) (some [(aS .int a.2.2.2.1)]))) (d,(0,(c,([],())))))
def zXK:FuncId->Nat->Option Tmpl:=zq [(317,0,{n:=26,tm:=[(0,.sl 0 []),(1,ti),(5,.sl 1 []),(6,ti)],lo:=[],ro:=[(0,.slot,false),(1,.int,true)]})]
theorem zV9 (b:List Slot)(a:Int)(g:zce big [aS .slot b,aI a])(h:zAY b a=true):∃N,zLo N b a=some [aS .int (zqD b a)]:=by have e:=(len0 g);have j:=zL.1 h;refine zcz fun N d=>?_;unfold zLo oN;refine(zbo b (fun i (t:(List Int))=>(a,(i:Int),b,t,())) _ (fun i (x:Slot) (t:List Int) f=>bif ieq x.Page a then (cond (few (ln (ap t [(i:Int)]))) (f (ap t [(i:Int)])) none) else f t) (fun (t:(List Int))=>(some [(.one (.s .int t))])) (fun i c t rec=>?_) (fun t rec=>?_) _ ([]) (d e)).trans ?_;{simp only [zbD c,zbf c,zbp c,zbi c e,cT]};{simp only [zbt,cF]};exact zus (fun (s:Slot)=>ieq s.Page a) _ _ 0 [] (by simpa using j)
theorem zPm:vN 317 zE9:=hF2 zOB zW zB zn zXK zV9
abbrev zAw (l:List Slot)(_:Int):Bool:=pc (l.length<=2147483648)
abbrev zkS (l:List Slot)(p:Int):List Int:=idxs (fun (s:Slot)=>ieq s.Page p) l 0
def zEM:Run:=rF2 (dS .slot) dI fun b c=>(zAw b c,[aS .int (zkS b c)])
def zKZ (N:Nat)(d:lS)(f:Int):OA:=
 (iter (σ:=(Int×(Int×(Int×((List Int)×(lS×Unit)))))) N (fun e a=>let c:=a.2.2.2.2.1;let b:=a.2.2.1; (cond (ilt b a.2.1) (oN (inb b (ln c)) (cond (ieq (ix c b zV).Page a.1) (oN (few (ln (ap a.2.2.2.1 [b]))) (e (a.1,(a.2.1,((zM .i64 b 1),((ap a.2.2.2.1 [b]),(c,()))))))) (e (a.1,(a.2.1,((zM .i64 b 1),(a.2.2.2.1,(c,())))))))) (some [(aS .int a.2.2.2.1)]))) (f,((ln d),(0,([],(d,()))))))
def zXB:FuncId->Nat->Option Tmpl:=zq [(315,0,{n:=26,tm:=[(1,ti),(5,.sl 0 []),(9,.sl 1 []),(10,ti),(11,ti)],lo:=[],ro:=[(0,.int,true),(1,.slot,false)]})]
theorem zVI (a:List Slot)(b:Int)(g:zce big [aS .slot a,aI b])(h:zAw a b=true):∃N,zKZ N a b=some [aS .int (zkS a b)]:=by
 have e:=(len0 g);have j:=zL.1 h;refine zcz fun N d=>?_;unfold zKZ oN;conv=>zeta
 refine(zbo a (fun i (t:(List Int))=>(b,(ln a),(i:Int),t,a,())) _ (fun i (x:Slot) (t:List Int) f=>bif ieq x.Page b then (cond (few (ln (ap t [(i:Int)]))) (f (ap t [(i:Int)])) none) else f t) (fun (t:(List Int))=>(some [(.one (.s .int t))])) (fun i c t rec=>?_) (fun t rec=>?_) _ ([]) (d e)).trans ?_;{simp only [zbD c,zbf c,zbp c,zbi c e,cT]};{simp only [zbt,cF]};exact zus (fun (s:Slot)=>ieq s.Page b) _ _ 0 [] (by simpa using j)
theorem zO0:vN 315 zEM:=hF2 zOB zW zB zn zXB zVI
def z8G:zba:=[(317,zE9),(315,zEM)]++ctrW
theorem z6z:zK z8G:=zh zPm (zh zO0 zOB)
def z8H:zba:=z8G
theorem z6A:zK z8H:=z6z
def z8I:zba:=z8H
theorem zUK:zK z8I:=z6A
theorem zyG (x y:Int):ine x y = !ieq x y:=rfl
def zdC (l:List Int):Bool:=pc (l.length<=2147483648)
abbrev zdx (l:List Int):List Int:=l
def zy8:Run:=rF1 (dS .int) fun b=>(zdC b,[aS .int (zdx b)])
def zCZ (N:Nat)(a:List Int):OA:=
 (oN (few (ln (ap [] a))) (some [(aS .int (ap [] a))]))
theorem zPR (a:List Int)(b:zdC a=true):∃N,zCZ N a=some [aS .int (zdx a)]:=by refine⟨0,?_⟩;unfold zCZ oN;rw[zmq,zg8 (zL.1 b),cT]
theorem zJl:vN 271 zy8:=kF1 zUK zW zB zn (zq []) zPR
def z8J:zba:=[(271,zy8)]++z8I
theorem zIX:zK z8J:=zh zJl zUK
def zBi:List Int:=rp 4 0
def zct (m:List (List Int))(p:Int):List Int:=bif hasB p (ln m) then ix m p [] else zBi
def zjB (m:List (List Int))(_:Int):Bool:=pc (CVB sm (.s (.sl .int) m))
def znC (m:List (List Int))(p:Int):List Int:=zct m p
theorem z5f {m:List (List Int)}{p:Int}(b:CVB sm (.s (.sl .int) m))(a:hasB p (ln m)=true):(ix m p []).length<=2147483648 :=
 (zc3 (b.inv.2 _ (zbu a ([]:List Int)) (.s .int _) (qF.2 rfl)).len).2
def zE0:Run:=rF2 (dS (.sl .int)) dI fun b c=>(zjB b c,[aS .int (znC b c)])
def zLe (N:Nat)(a:lM)(b:Int):OA:=
 (oN (zO b 0 (wsub .i64 (ln a) 1)) (cond (nB (zS b 0 (wsub .i64 (ln a) 1))) (oN (cond (few 4) (ieq 4 4) false) (some [(aS .int (rp 4 0))])) (oN (inb b (ln a)) (oN (few (ln (ap [] (ix a b [])))) (some [(aS .int (ap [] (ix a b [])))])))))
theorem zVY (b:List (List Int))(a:Int)(f:zjB b a=true):∃N,zLe N b a=some [aS .int (znC b a)]:=by have d:=zL.1 f;refine⟨0,?_⟩;unfold zLe znC zct oN nB;have e:zS a 0 (wsub .i64 (ln b) 1)=hasB a (ln b):=zAC (zc3 d.len).1 a;rw[e];cases c:hasB a (ln b);{rfl};{simp only [zO,cT,cF,zG c,zmq,zg8 (z5f d c)]}
theorem zPd:vN 117 zE0:=kF2 zIX zW zB zn (zq []) zVY
def zjo (m:List (List Int))(_:Int):Bool:=pc (CVB sm (.s (.sl .int) m))
def zns (m:List (List Int))(p:Int):List Int:=zct m p
def zEE:Run:=rF2 (dS (.sl .int)) dI fun b c=>(zjo b c,[aS .int (zns b c)])
def zKR (N:Nat)(a:lM)(b:Int):OA:=
 (oN (zdh b (ln a)) (cond (nB (zdG b (ln a))) (oN (cond (few 4) (ieq 4 4) false) (some [(aS .int (rp 4 0))])) (oN (inb b (ln a)) (oN (zdC (ix a b [])) (some [(aS .int (zdx (ix a b [])))])))))
theorem zVA (a:List (List Int))(b:Int)(d:zjo a b=true):∃N,zKR N a b=some [aS .int (zns a b)]:=by have e:=zL.1 d;refine⟨0,?_⟩;unfold zKR zns zct zdG oN nB;cases c:hasB b (ln a);{rfl};{simp only [zdh,cT,cF,zG c,show zdC (ix a b [])=true from zbh (z5f e c),zdx]}
theorem zOS:vN 307 zEE:=kF2 zIX zW zB zn (zq []) zVA
def z8K:zba:=[(117,zE0),(307,zEE)]++z8J
theorem zIY:zK z8K:=zh zPd (zh zOS zIX)
def zcd (h:Host)(m p:Int):List Int :=
 bif hasB m (ln h.Mons) then (cond (hasB p 8) (cond (ine (zbv (ix h.Mons m zi).Outer p).Page (-1)) (zct h.Memory (zbv (ix h.Mons m zi).Outer p).Page) (zct (ix h.Mons m zi).Out p)) zBi) else zBi
theorem has8 (p:Int):zS p 0 7=hasB p 8:=by unfold zS ige ile hasB;by_cases a:0<=p<;>by_cases b:p<8;{rw [qJ (p:=p≥0) (by omega),qJ (p:=p<=7) (by omega),qJ (p:=0<=p/\p<8) ⟨a,b⟩];rfl};{rw [qH (p:=p<=7) (by omega),qH (p:=0<=p/\p<8) (by omega)];simp};{rw [qH (p:=p≥0) (by omega),qH (p:=0<=p/\p<8) (by omega)];simp};{rw [qH (p:=p≥0) (by omega),qH (p:=0<=p/\p<8) (by omega)];simp}
def ztG (h:Host)(_ _:Int):Bool:=pc (zcD h)
def znD (h:Host)(m p:Int):List Int:=zcd h m p
def zoM:Run:=rF3 dH dI dI fun b c d=>(ztG b c d,[aS .int (znD b c d)])
def zLg (N:Nat)(a:Host)(c b:Int):OA:=
 let d:=(ix a.Mons c zi);let e:=(zhp d.Outer b).Page; (oN (zO c 0 (wsub .i64 (ln a.Mons) 1)) (cond (nB (zS c 0 (wsub .i64 (ln a.Mons) 1))) (oN (cond (few 4) (ieq 4 4) false) (some [(aS .int (rp 4 0))])) (oN (zO b 0 7) (cond (nB (zS b 0 7)) (oN (cond (few 4) (ieq 4 4) false) (some [(aS .int (rp 4 0))])) (oN (inb c (ln a.Mons)) (oN (zjC d.Outer b) (cond (ine e (-1)) (oN (zjB a.Memory e) (some [(aS .int (znC a.Memory e))])) (oN (zjB d.Out b) (some [(aS .int (znC d.Out b))])))))))))
theorem zV1 (a:Host)(b c:Int)(g:ztG a b c=true):∃N,zLg N a b c=some [aS .int (znD a b c)]:=by
 have d:=zL.1 g;refine⟨0,?_⟩;unfold zLg znD zcd oN nB;conv=>zeta
 have e:zS b 0 (wsub .i64 (ln a.Mons) 1)=hasB b (ln a.Mons):=zAC (zc3 d.mons.len).1 b;rw[e,has8];cases f:hasB b (ln a.Mons);{rfl};{cases i:hasB c 8;{rfl};{have h:CVB sm (.s (.sl .int) (ix a.Mons b zi).Out):=d.mons.inv.2 _ (zbu f zi) (.s (.sl .int) _) (by simp[Ty.cells]);simp only[zO,cT,cF,zG f,zjC,zhp,show ∀p,zjB a.Memory p=true from fun p=>zbh d.mem,show ∀p,zjB (ix a.Mons b zi).Out p=true from fun p=>zbh h,znC];cases ine (zbv (ix a.Mons b zi).Outer c).Page (-1)<;>rfl}}
theorem zp3:vN 34 zoM:=kF3 zIY zW zB zn (zq []) zV1
def zAt (h:Host)(_ _:Int):Bool:=pc (zcD h)
def zAs (h:Host)(m p:Int):List Int:=zcd h m p
def zEF:Run:=rF3 dH dI dI fun b c d=>(zAt b c d,[aS .int (zAs b c d)])
def zKS (N:Nat)(a:Host)(c b:Int):OA:=
 let d:=(ix a.Mons c zi);let e:=(zkR d.Outer b).Page; (oN (zdh c (ln a.Mons)) (cond (nB (zdG c (ln a.Mons))) (oN (cond (few 4) (ieq 4 4) false) (some [(aS .int (rp 4 0))])) (oN (zdh b 8) (cond (nB (zdG b 8)) (oN (cond (few 4) (ieq 4 4) false) (some [(aS .int (rp 4 0))])) (oN (inb c (ln a.Mons)) (oN (zon d.Outer b) (cond (ine e (-1)) (oN (zjo a.Memory e) (some [(aS .int (zns a.Memory e))])) (oN (zjo d.Out b) (some [(aS .int (zns d.Out b))])))))))))
theorem zVB (a:Host)(b c:Int)(f:zAt a b c=true):∃N,zKS N a b c=some [aS .int (zAs a b c)]:=by
 have e:=zL.1 f;refine⟨0,?_⟩;unfold zKS zAs zcd zdG oN nB;conv=>zeta
 cases d:hasB b (ln a.Mons);{rfl};{cases h:hasB c 8;{rfl};{have g:CVB sm (.s (.sl .int) (ix a.Mons b zi).Out):=e.mons.inv.2 _ (zbu d zi) (.s (.sl .int) _) (by simp[Ty.cells]);simp only[zdh,cT,cF,zG d,zon,zkR,show ∀p,zjo a.Memory p=true from fun p=>zbh e.mem,show ∀p,zjo (ix a.Mons b zi).Out p=true from fun p=>zbh g,zns];cases ine (zbv (ix a.Mons b zi).Outer c).Page (-1)<;>rfl}}
theorem zOT:vN 255 zEF:=kF3 zIY zW zB zn (zq []) zVB
def z8L:zba:=[(34,zoM),(255,zEF)]++z8K
theorem z6B:zK z8L:=zh zp3 (zh zOT zIY)
def z8M:zba:=z8L
theorem z6C:zK z8M:=z6B
def ctrV:zba:=z8M
theorem zbaz:∀f a,zl ctrV f=some a->Holds Tryz.prog f a:=z6C
def ctrU:zba:=ctrV
theorem zfo:zK ctrU:=zbaz
def zp8:zhz:=z7m
theorem zA:zf1 zp8:=zW
def canRun (g:Guest):Bool:=bif (ieq g.Exit.Kind 0&&(ieq g.Exit.Page 0&&(zjh g.Exit.Write false&&ieq g.Exit.N 0))) then !g.Halted else false
def ztB (_:Guest):Bool:=true
abbrev zqv (g:Guest):Bool:=canRun g
def zER:Run:=rF1 (dT .guest) fun b=>(ztB b,[aB (zqv b)])
def zK4 (N:Nat)(a:Guest):OA:=
 (cond (cond (ieq a.Exit.Kind 0) (cond (ieq a.Exit.Page 0) (cond (zjh a.Exit.Write false) (ieq a.Exit.N 0) false) false) false) (some [(aB (nB a.Halted))]) oF)
theorem zVM (a:Guest)(b:ztB a=true):∃N,zK4 N a=some [aB (zqv a)]:=by refine⟨0,?_⟩;unfold zK4 zqv canRun nB;cases ieq a.Exit.Kind 0<;>cases ieq a.Exit.Page 0<;>cases zjh a.Exit.Write false<;>cases ieq a.Exit.N 0<;>simp
theorem zO4:vN 345 zER:=kF1 zyp zW zB zn (zq []) zVM
theorem must {d:Type}{c:Bool}{a b r:Option d}(h:c=true)(k:a=r):(cond c a b)=r:=by rw[h];exact k
theorem mu {d:Type}{c:Bool}{a b r:Option d}(k:a=r)(h:c=true:=by first|assumption|(simp_all<;>omega)):(cond c a b)=r:=must h k
theorem zdy {d:Type}{c:Bool}{a b r:Option d}(h:c=false)(k:b=r):(cond c a b)=r:=by rw[h];exact k
theorem br {f:Type}{c:Bool}{a b r:Option f}(d:c=true->a=r)(e:c=false->b=r):(cond c a b)=r:=by cases c;{exact e rfl};{exact d rfl}
theorem brN {f:Type}{c:Bool}{a b r:Option f}(d:c=false->a=r)(e:c=true->b=r):(cond (cond c false true) a b)=r:=by cases c;{exact d rfl};{exact e rfl}
theorem shr {a b:Type}{x:a}{f:a->Option b}{r:Option b}(h:f x=r):share x f=r:=h
theorem zia {e:Type}{c p:Bool}{a b:Option e}(d:c=true):(cond c (cond (cond p false true) a b) none)=bif p then b else a:=by rw[d];cases p<;>rfl
attribute [simp] zL
@[simp] theorem zbaK {a:Type}(l:List a):(few (ln l)=true)↔l.length<=2147483648:=by unfold few ln;rw[decide_eq_true_iff];omega
@[simp] theorem zbdw {a:Type}(l m:List a):(ap l m).length=l.length+m.length:=by simp[ap]
attribute [simp] zmq zgy
@[simp] theorem z9q (n:Nat)(k:IntKind)(x:Int):CVB n (.i k x)↔True:=⟨fun _=>trivial,fun _=>.i k x⟩
@[simp] theorem zbdA (n:Nat)(x:Bool):CVB n (.b x)↔True:=⟨fun _=>trivial,fun _=>.b x⟩
theorem zly {n:Nat}{t:Ty}(l:List t.den):CVB n (.s t l)↔l.length<=n/\∀x∈l,∀c∈t.cells x,CVB n c:=⟨fun h=>h.inv,fun h=>.s t l h.1 h.2⟩
@[simp] theorem zZL (n:Nat)(l:List Int):CVB n (.s .int l)↔l.length<=n:=by rw[zly];simp[Ty.cells]
@[simp] theorem zbb8 (n:Nat)(l:List Int):CVB n (.s .u8 l)↔l.length<=n:=by rw[zly];simp[Ty.cells]
@[simp] theorem z6K (n:Nat)(l:List Bool):CVB n (.s .bool l)↔l.length<=n:=by rw[zly];simp[Ty.cells]
@[simp] theorem z6M (n:Nat)(l:List Slot):CVB n (.s .slot l)↔l.length<=n:=by rw[zly];simp[Ty.cells]
@[simp] theorem zbaB (n:Nat)(l:List Ins):CVB n (.s .ins l)↔l.length<=n:=by rw[zly];simp[Ty.cells]
@[simp] theorem z3Q (n:Nat)(l:List Entry):CVB n (.s .entry l)↔l.length<=n:=by rw[zly];simp[Ty.cells]
@[simp] theorem zbaA (n:Nat)(l:List GAct):CVB n (.s .act l)↔l.length<=n:=by rw[zly];simp[Ty.cells]
@[simp] theorem z6N (n:Nat)(l:List Told):CVB n (.s .told l)↔l.length<=n:=by rw[zly];simp[Ty.cells]
def SmM (m:List (List Int)):Prop:=m.length<=1048576/\∀x∈m,x.length<=1048576
def SmG (g:Guest):Prop:=g.Prog.length<=1048576/\g.Written.length<=1048576/\g.Live.length<=1048576/\g.Seen.length<=1048576
def zkC (l:List Guest):Prop:=l.length<=1048576/\∀x∈l,SmG x
def SmB (b:Bare):Prop:=SmM b.Memory/\zkC b.Guests/\b.Outs.length<=1048576
def z0E (l:List Bare):Prop:=l.length<=1048576/\∀x∈l,SmB x
theorem z7U:sm=1048576:=rfl
@[simp] theorem z05 (l:List Int):CVB sm (.s .int l)↔l.length<=1048576:=zZL sm l
@[simp] theorem zbdc (l:List Int):CVB sm (.s .u8 l)↔l.length<=1048576:=zbb8 sm l
@[simp] theorem zYb (l:List Bool):CVB sm (.s .bool l)↔l.length<=1048576:=z6K sm l
@[simp] theorem zYc (l:List Slot):CVB sm (.s .slot l)↔l.length<=1048576:=z6M sm l
@[simp] theorem zbcM (l:List Ins):CVB sm (.s .ins l)↔l.length<=1048576:=zbaB sm l
@[simp] theorem zUV (l:List Entry):CVB sm (.s .entry l)↔l.length<=1048576:=z3Q sm l
@[simp] theorem zbcL (l:List GAct):CVB sm (.s .act l)↔l.length<=1048576:=zbaA sm l
@[simp] theorem zbcF (l:List Told):CVB sm (.s .told l)↔l.length<=1048576:=z6N sm l
@[simp] theorem zpZ (l:List (List Int)):CVB sm (.s (.sl .int) l)↔SmM l:=by rw[zly];simp[Ty.cells,SmM,z7U]
@[simp] theorem zbaf (g:Guest):(∀c∈Ty.cells .guest g,CVB sm c)↔SmG g:=by simp[Ty.cells,SmG,z7U]
@[simp] theorem zvR (l:List Guest):CVB sm (.s .guest l)↔zkC l:=by rw[zly];simp only[zbaf];rfl
@[simp] theorem zbae (b:Bare):(∀c∈Ty.cells .bare b,CVB sm c)↔SmB b:=by simp only[Ty.cells,qG,qN,or_false,vJ,forall_eq,zpZ,zvR,zZL,z9q,and_true];rfl
@[simp] theorem zbdf (l:List Bare):CVB sm (.s .bare l)↔z0E l:=by rw[zly];simp only[zbae];rfl
@[simp] theorem zbdz (a:List Ins)(b c:Int)(d e:List Slot)(f:Ctl)(g:Int)(h:GExit)(i:Bool)(j:List Int):SmG ⟨a,b,c,d,e,f,g,h,i,j⟩↔a.length<=1048576/\d.length<=1048576/\e.length<=1048576/\j.length<=1048576:=Iff.rfl
@[simp] theorem zbdy (m:List (List Int))(g:List Guest)(o:List Int)(p:Int):SmB ⟨m,g,o,p⟩↔SmM m/\zkC g/\o.length<=1048576:=Iff.rfl
theorem zN4 {m:List (List Int)}{i:Int}{x:List Int}(h:SmM m)(b:x.length<=1048576):SmM (up m i x):=by refine⟨by simpa using h.1,fun y a=>?_⟩;rcases qY a with a|rfl;{exact h.2 y a};{exact b}
theorem zGf {m:List Guest}{i:Int}{x:Guest}(h:zkC m)(b:SmG x):zkC (up m i x):=by refine⟨by simpa using h.1,fun y a=>?_⟩;rcases qY a with a|rfl;{exact h.2 y a};{exact b}
theorem zbbq {m:List Bare}{i:Int}{x:Bare}(h:z0E m)(b:SmB x):z0E (up m i x):=by refine⟨by simpa using h.1,fun y a=>?_⟩;rcases qY a with a|rfl;{exact h.2 y a};{exact b}
theorem zXg {l:List Guest}{i:Int}(h:zkC l)(a:hasB i (ln l)=true)(d:Guest):SmG (ix l i d):=h.2 _ (zbu a d)
theorem zbcA {l:List (List Int)}{i:Int}(h:SmM l)(a:hasB i (ln l)=true)(d:List Int):(ix l i d).length<=1048576:=h.2 _ (zbu a d)
@[simp] theorem zbc3:SmG zD:=⟨by decide,by decide,by decide,by decide⟩
def win (x a b:Int):Bool:=ige x a&&ile x b
@[simp] theorem zUg (x a b:Int):zS x a b=win x a b:=rfl
@[simp] theorem zbdB (x a b:Int):zcp x a b=win x a b:=rfl
@[simp] theorem zVo (i n:Int):inb i n=hasB i n:=rfl
attribute [simp] zdG
@[simp] theorem zqM {a:Type}{l:List a}(h:l.length<=1048576)(i:Int):win i 0 (wsub .i64 (ln l) 1)=hasB i (ln l):=zRY (zc3 h).1 i
theorem zKK {a:Type}{l:List a}(h:l.length<=big)(i:Int):win i 0 (wsub .i64 (ln l) 1)=hasB i (ln l):=zRY h i
theorem zfP {x a b:Int}:(win x a b=true)↔a<=x/\x<=b:=by unfold win ige ile;simp only[qD,decide_eq_true_iff]
theorem zbaV (a b:Int):ilt a b = !ige a b:=by unfold ilt ige;by_cases h:a<b;{rw [qJ h,qH (by omega)];rfl};{rw [qH h,qJ (by omega)];rfl}
attribute [simp] zbw ze6 zgD zlH zhh zho ze5 zhp zkR zqv zcx ze7
attribute [simp] zen zc2 zfY zdx
attribute [simp] zfV zdo zfz zdC
def zbj (a:Int):Int:=bif ilt a 0 then -1 else zXY .i64 a 4
def zdf (a:Int):Int:=bif ilt a 0 then -1 else zqN a 4
@[simp] abbrev zf9 (a:Int):Bool:=true
@[simp] abbrev zcQ (a:Int):Int:=zbj a
def zzg:Run:=rF1 dI fun b=>(zf9 b,[aI (zcQ b)])
def zC9 (N:Nat)(a:Int):OA:=
 (cond (ilt a 0) (some [(aI (-1))]) (oN (ine 4 0) (some [(aI (zXY .i64 a 4))])))
theorem zP0 (a:Int)(b:zf9 a=true):∃N,zC9 N a=some [aI (zcQ a)]:=by refine⟨0,?_⟩;unfold zC9 oN;refine br (fun _=>?_) (fun _=>must rfl ?_);all_goals first|rfl|(simp only [*,zcQ,zbj,cT,cF]<;>rfl)|simp_all[Ty.cells,zcQ,zbj]
theorem zJt:vN 145 zzg:=kF1 zfo zA zB zn (zq []) zP0
@[simp] abbrev ziP (a:Int):Bool:=true
@[simp] abbrev zee (a:Int):Int:=zdf a
def zzf:Run:=rF1 dI fun b=>(ziP b,[aI (zee b)])
def zC8 (N:Nat)(a:Int):OA:=
 (cond (ilt a 0) (some [(aI (-1))]) (oN (ine 4 0) (some [(aI (zqN a 4))])))
theorem zPZ (a:Int)(b:ziP a=true):∃N,zC8 N a=some [aI (zee a)]:=by refine⟨0,?_⟩;unfold zC8 oN;refine br (fun _=>?_) (fun _=>must rfl ?_);all_goals first|rfl|(simp only [*,zee,zdf,cT,cF]<;>rfl)|simp_all[Ty.cells,zee,zdf]
theorem zJs:vN 146 zzf:=kF1 zfo zA zB zn (zq []) zPZ
def zcc (w:Bool):Int:=bif w then 2 else 1
@[simp] abbrev ztD (w:Bool):Bool:=true
@[simp] abbrev zfg (w:Bool):Int:=zcc w
def zEZ:Run:=rF1 dB fun b=>(ztD b,[aI (zfg b)])
def zLd (N:Nat)(a:Bool):OA:=
 (cond a (some [(aI 2)]) (some [(aI 1)]))
theorem zVW (a:Bool)(b:ztD a=true):∃N,zLd N a=some [aI (zfg a)]:=by refine⟨0,?_⟩;unfold zLd;refine br (fun _=>?_) (fun _=>?_);all_goals first|rfl|(simp only [*,zfg,zcc,cT,cF]<;>rfl)|simp_all[Ty.cells,zfg,zcc]
theorem zPc:vN 350 zEZ:=kF1 zfo zA zB zn (zq []) zVW
def zrV (p:Int)(w:Bool):GExit:=⟨1,p,w,0⟩
def zz5 (n:Int):GExit:=⟨2,0,false,n⟩
def zyP (n:Int):GExit:=⟨3,0,false,n⟩
@[simp] abbrev zjU (p:Int)(w:Bool):Bool:=true
@[simp] abbrev zeT (p:Int)(w:Bool):GExit:=zrV p w
def zoJ:Run:=rF2 dI dB fun b c=>(zjU b c,[.agg (zfB (zeT b c))])
def zBz (N:Nat)(a:Int)(c:Bool):OA:=
 (some [(.agg [(.i .i64 1),(.i .i64 a),(.b c),(.i .i64 0)])])
theorem zM9 (a:Int)(b:Bool)(c:zjU a b=true):∃N,zBz N a b=some [.agg (zfB (zeT a b))]:=by refine⟨0,?_⟩;unfold zBz;first|rfl|(simp only [*,zeT,cT,cF]<;>rfl)|simp_all[Ty.cells,zeT]
theorem ztb:vN 260 zoJ:=kF2 zfo zA zB zn (zq []) zM9
@[simp] abbrev zo0 (n:Int):Bool:=true
@[simp] abbrev zfc (n:Int):GExit:=zz5 n
def zqo:Run:=rF1 dI fun b=>(zo0 b,[.agg (zfB (zfc b))])
def zDc (N:Nat)(a:Int):OA:=
 (some [(.agg [(.i .i64 2),(.i .i64 0),(.b false),(.i .i64 a)])])
theorem zP3 (a:Int)(b:zo0 a=true):∃N,zDc N a=some [.agg (zfB (zfc a))]:=by refine⟨0,?_⟩;unfold zDc;first|rfl|(simp only [*,zfc,cT,cF]<;>rfl)|simp_all[Ty.cells,zfc]
theorem zuz:vN 261 zqo:=kF1 zfo zA zB zn (zq []) zP3
@[simp] abbrev zrp (n:Int):Bool:=true
@[simp] abbrev zga (n:Int):GExit:=zyP n
def zsO:Run:=rF1 dI fun b=>(zrp b,[.agg (zfB (zga b))])
def zHu (N:Nat)(a:Int):OA:=
 (some [(.agg [(.i .i64 3),(.i .i64 0),(.b false),(.i .i64 a)])])
theorem zTl (a:Int)(b:zrp a=true):∃N,zHu N a=some [.agg (zfB (zga a))]:=by refine⟨0,?_⟩;unfold zHu;first|rfl|(simp only [*,zga,cT,cF]<;>rfl)|simp_all[Ty.cells,zga]
theorem zwa:vN 262 zsO:=kF1 zfo zA zB zn (zq []) zTl
def zgU (t x:Int):Bool:=bif win t 0 3 then (cond (win x 1 2) (ine (wand .i64 t x) 0) false) else false
@[simp] abbrev zio (t x:Int):Bool:=true
@[simp] abbrev zh3 (t x:Int):Bool:=zgU t x
def zB4:Run:=rF2 dI dI fun b c=>(zio b c,[aB (zh3 b c)])
def zHm (N:Nat)(a b:Int):OA:=
 (oN (zO a 0 3) (cond (zS a 0 3) (oN (zO b 1 2) (cond (zS b 1 2) (some [(aB (ine (wand .i64 a b) 0))]) oF)) oF))
theorem zTc (a b:Int)(c:zio a b=true):∃N,zHm N a b=some [aB (zh3 a b)]:=by refine⟨0,?_⟩;unfold zHm oN;refine must rfl (br (fun _=>must rfl (br (fun _=>?_) (fun _=>?_))) (fun _=>?_));all_goals first|rfl|(simp only [*,zh3,zgU,cT,cF]<;>rfl)|simp_all[Ty.cells,zh3,zgU]
theorem zMe:vN 355 zB4:=kF2 zfo zA zB zn (zq []) zTc
def zc6 (p:Int):Bool:=win p 0 255
@[simp] abbrev zfj (p:Int):Bool:=true
@[simp] abbrev zfi (p:Int):Bool:=zc6 p
def zE3:Run:=rF1 dI fun b=>(zfj b,[aB (zfi b)])
def zLi (N:Nat)(a:Int):OA:=
 (oN (zO a 0 255) (some [(aB (zS a 0 255))]))
theorem zV3 (a:Int)(b:zfj a=true):∃N,zLi N a=some [aB (zfi a)]:=by refine⟨0,?_⟩;unfold zLi oN;refine must rfl ?_;first|rfl|(simp only [*,zfi,zc6,cT,cF]<;>rfl)|simp_all[Ty.cells,zfi,zc6]
theorem zPg:vN 264 zE3:=kF1 zfo zA zB zn (zq []) zV3
@[simp] abbrev zlG (p:Int):Bool:=true
@[simp] abbrev zkQ (p:Int):Bool:=zc6 p
def zEH:Run:=rF1 dI fun b=>(zlG b,[aB (zkQ b)])
def zKU (N:Nat)(a:Int):OA:=
 (oN (zb0 a 0 255) (some [(aB (zcp a 0 255))]))
theorem zVD (a:Int)(b:zlG a=true):∃N,zKU N a=some [aB (zkQ a)]:=by refine⟨0,?_⟩;unfold zKU oN;refine must rfl ?_;first|rfl|(simp only [*,zkQ,zc6,cT,cF]<;>rfl)|simp_all[Ty.cells,zkQ,zc6]
theorem zOV:vN 263 zEH:=kF1 zfo zA zB zn (zq []) zVD
def zcv (l:List Ins)(p:Int):Ins:=bif hasB p (ln l) then ix l p zxj else ⟨7,0⟩
@[simp] abbrev zfx (l:List Ins)(p:Int):Bool:=true
@[simp] abbrev zfM (l:List Ins)(p:Int):Ins:=zcv l p
def zIi:Run:=rF2 (dS .ins) dI fun b c=>(zfx b c,[aT .ins (zfM b c)])
def zRj (N:Nat)(a:lI)(b:Int):OA:=
 (oN (zO b 0 (wsub .i64 (ln a) 1)) (cond (nB (zS b 0 (wsub .i64 (ln a) 1))) (some [(.agg [(.i .i64 7),(.i .i64 0)])]) (oN (inb b (ln a)) (some [(.agg [(.i .i64 (ix a b zxj).Op),(.i .i64 (ix a b zxj).X)])]))))
theorem zYD (a:List Ins)(b:Int)(c:zce big [aS .ins a,aI b])(e:zfx a b=true):∃N,zRj N a b=some [aT .ins (zfM a b)]:=by have d:=((zc9 c).1 _ (qF.2 rfl)).len;have f:=zKK d;refine⟨0,?_⟩;unfold zRj oN nB;refine must rfl (brN (fun _=>?_) (fun _=>mu ?_));all_goals first|rfl|(simp only [*,zfM,zcv,cT,cF]<;>rfl)|simp_all[Ty.cells,zfM,zcv]
theorem zSL:vN 347 zIi:=hF2 zfo zA zB zn (zq []) zYD
def zzJ (w:Int):Int:=bif ieq w 5 then 1 else 2
def zdD (s:Slot)(n:Int):Bool:=bif zcU s noSlot then true else (cond (igt n 0) (cond (win s.Page 0 (wsub .i64 n 1)) (win s.Rights 1 3) false) false)
@[simp] abbrev ztH (s:Slot)(n:Int):Bool:=true
@[simp] abbrev zqB (s:Slot)(n:Int):Bool:=zdD s n
def zE6:Run:=rF2 (dT .slot) dI fun b c=>(ztH b c,[aB (zqB b c)])
def zLl (N:Nat)(a:Slot)(b:Int):OA:=
 (oN zcx (cond (cond (ieq a.Page zbw.Page) (ieq a.Rights zbw.Rights) false) oT (oN (zO a.Page 0 (wsub .i64 b 1)) (cond (zS a.Page 0 (wsub .i64 b 1)) (cond (igt b 0) (oN (zO a.Rights 1 3) (some [(aB (zS a.Rights 1 3))])) oF) oF))))
theorem zV6 (a:Slot)(b:Int)(c:ztH a b=true):∃N,zLl N a b=some [aB (zqB a b)]:=by refine⟨0,?_⟩;unfold zLl oN;refine must rfl (br (fun _=>?_) (fun _=>must rfl (br (fun _=>br (fun _=>must rfl ?_) (fun _=>?_)) (fun _=>?_))));all_goals first|rfl|(simp only [*,zqB,zdD,zcU,cT,cF]<;>rfl)|simp_all[Ty.cells,zqB,zdD,zcU]
theorem zPj:vN 171 zE6:=kF2 zfo zA zB zn (zq []) zV6
@[simp] abbrev zAv (s:Slot)(n:Int):Bool:=true
@[simp] abbrev zuH (s:Slot)(n:Int):Bool:=zdD s n
def zEL:Run:=rF2 (dT .slot) dI fun b c=>(zAv b c,[aB (zuH b c)])
def zKY (N:Nat)(a:Slot)(b:Int):OA:=
 (oN ze7 (cond (cond (ieq a.Page ze6.Page) (ieq a.Rights ze6.Rights) false) oT (cond (igt b 0) (oN (zb0 a.Page 0 (wsub .i64 b 1)) (cond (zcp a.Page 0 (wsub .i64 b 1)) (oN (zb0 a.Rights 1 3) (some [(aB (zcp a.Rights 1 3))])) oF)) oF)))
theorem zVH (a:Slot)(b:Int)(c:zAv a b=true):∃N,zKY N a b=some [aB (zuH a b)]:=by refine⟨0,?_⟩;unfold zKY oN;refine must rfl (br (fun _=>?_) (fun _=>br (fun _=>must rfl (br (fun _=>must rfl ?_) (fun _=>?_))) (fun _=>?_)));all_goals first|rfl|(simp only [*,zuH,zdD,zcU,cT,cF]<;>rfl)|simp_all[Ty.cells,zuH,zdD,zcU]
theorem zOZ:vN 164 zEL:=kF2 zfo zA zB zn (zq []) zVH
@[simp] abbrev zfu (l:List Slot):Bool:=pc (l.length<=2147483648)
@[simp] abbrev zdR (l:List Slot):List Slot:=l
def zwv:Run:=rF1 (dS .slot) fun b=>(zfu b,[aS .slot (zdR b)])
def zBr (N:Nat)(a:lS):OA:=
 (oN (few (ln (ap [] a))) (some [(aS .slot (ap [] a))]))
theorem zM0 (a:List Slot)(b:zfu a=true):∃N,zBr N a=some [aS .slot (zdR a)]:=by have c:=zL.1 b;refine⟨0,?_⟩;unfold zBr oN;refine mu ?_;first|rfl|(simp only [*,zdR,cT,cF]<;>rfl)|simp_all[Ty.cells,zdR]
theorem zGo:vN 258 zwv:=kF1 zfo zA zB zn (zq []) zM0
@[simp] abbrev zuJ (l:List Ins):Bool:=pc (l.length<=2147483648)
@[simp] abbrev zoq (l:List Ins):List Ins:=l
def zza:Run:=rF1 (dS .ins) fun b=>(zuJ b,[aS .ins (zoq b)])
def zC1 (N:Nat)(a:lI):OA:=
 (oN (few (ln (ap [] a))) (some [(aS .ins (ap [] a))]))
theorem zPT (a:List Ins)(b:zuJ a=true):∃N,zC1 N a=some [aS .ins (zoq a)]:=by have c:=zL.1 b;refine⟨0,?_⟩;unfold zC1 oN;refine mu ?_;first|rfl|(simp only [*,zoq,cT,cF]<;>rfl)|simp_all[Ty.cells,zoq]
theorem zJn:vN 308 zza:=kF1 zfo zA zB zn (zq []) zPT
def zgs (m:List (List Int))(p c:Int):Bool:=bif hasB p (ln m) then hasB c (ln (ix m p [])) else false
def cellAt (m:List (List Int))(p c:Int):Int:=bif zgs m p c then ix (ix m p []) c 0 else 0
def zbC (m:List (List Int))(p c v:Int):List (List Int):=bif zgs m p c then (cond (win v 0 99) (up m p (up (ix m p []) c v)) m) else m
theorem zoy (m:List (List Int))(p c:Int):(zgs m p c=true)↔hasB p (ln m)=true/\hasB c (ln (ix m p []))=true:=by unfold zgs;cases hasB p (ln m)<;>simp
theorem zbb7 {n:Nat}{m:List (List Int)}(h:CVB n (.s (.sl .int) m)):m.length<=n/\∀p:Int,hasB p (ln m)=true->(ix m p []).length<=n :=
 ⟨h.len,fun p a=>(h.inv.2 _ (zbu a []) _ (qF.2 rfl)).len⟩
@[simp] abbrev ztK (m:List (List Int))(p c:Int):Bool:=true
@[simp] abbrev zqF (m:List (List Int))(p c:Int):Bool:=zgs m p c
def zFb:Run:=rF3 (dS (.sl .int)) dI dI fun b c d=>(ztK b c d,[aB (zqF b c d)])
def zLq (N:Nat)(a:lM)(b c:Int):OA:=
 let d:=(wsub .i64 (ln (ix a b [])) 1); (oN (zO b 0 (wsub .i64 (ln a) 1)) (cond (zS b 0 (wsub .i64 (ln a) 1)) (oN (inb b (ln a)) (oN (zO c 0 d) (some [(aB (zS c 0 d))]))) oF))
theorem zWb (a:List (List Int))(b c:Int)(e:zce big [aS (.sl .int) a,aI b,aI c])(g:ztK a b c=true):∃N,zLq N a b c=some [aB (zqF a b c)]:=by
 have d:=zbb7 ((zc9 e).1 _ (qF.2 rfl));have j:=zKK d.1;have f:∀p i:Int,hasB p (ln a)=true->win i 0 (wsub .i64 (ln (ix a p [])) 1)=hasB i (ln (ix a p [])):=fun p i h=>zKK (d.2 p h) i;refine⟨0,?_⟩;unfold zLq oN;conv=>zeta
 refine must rfl (br (fun _=>mu (must rfl ?_)) (fun _=>?_));all_goals first|rfl|(simp only [*,zqF,zgs,cT,cF]<;>rfl)|simp_all[Ty.cells,zqF,zgs]
theorem zPp:vN 214 zFb:=hF3 zfo zA zB zn (zq []) zWb
def z88:zba:=[(345,zER),(145,zzg),(146,zzf),(350,zEZ),(260,zoJ),(261,zqo),(262,zsO),(355,zB4),(264,zE3),(263,zEH),(347,zIi),(171,zE6),(164,zEL),(258,zwv),(308,zza),(214,zFb)]++ctrU
theorem zgm:zK z88:=zh zO4 (zh zJt (zh zJs (zh zPc (zh ztb (zh zuz (zh zwa (zh zMe (zh zPg (zh zOV (zh zSL (zh zPj (zh zOZ (zh zGo (zh zJn (zh zPp zfo)))))))))))))))
@[simp] abbrev zo1 (m:List (List Int))(p c:Int):Bool:=true
@[simp] abbrev zk9 (m:List (List Int))(p c:Int):Int:=cellAt m p c
def zu3:Run:=rF3 (dS (.sl .int)) dI dI fun b c d=>(zo1 b c d,[aI (zk9 b c d)])
def zK5 (N:Nat)(a:lM)(b c:Int):OA:=
 (oN (ztK a b c) (cond (nB (zqF a b c)) (some [(aI 0)]) (oN (inb b (ln a)) (oN (inb c (ln (ix a b []))) (some [(aI (ix (ix a b []) c 0))])))))
theorem zVN (a:List (List Int))(b c:Int)(d:zo1 a b c=true):∃N,zK5 N a b c=some [aI (zk9 a b c)]:=by have e:=(zoy a b c).1;refine⟨0,?_⟩;unfold zK5 oN nB;refine must rfl (brN (fun _=>?_) (fun _=>mu (mu ?_)));all_goals first|rfl|(simp only [*,zk9,cellAt,cT,cF]<;>rfl)|simp_all[Ty.cells,zk9,cellAt]
theorem zyx:vN 119 zu3:=kF3 zgm zA zB zn (zq []) zVN
def zcS (t:List Slot)(n p:Int):Bool:=bif t.all (fun s=>zdD s p) then ieq (ln t) n else false
@[simp] abbrev zmQ (t:List Slot)(n p:Int):Bool:=true
@[simp] abbrev zh5 (t:List Slot)(n p:Int):Bool:=zcS t n p
def zCg:Run:=rF3 (dS .slot) dI dI fun b c d=>(zmQ b c d,[aB (zh5 b c d)])
def zHA (N:Nat)(d:lS)(e f:Int):OA:=
 (iter (σ:=(Int×(Int×(Int×(lS×Unit))))) N (fun g a=>let b:=a.2.2.2.1;let c:=(ix b a.2.2.1 zV); (cond (ilt a.2.2.1 (ln b)) (oN (inb a.2.2.1 (ln b)) (oN (ztH c a.2.1) (cond (nB (zqB c a.2.1)) oF (g (a.1,(a.2.1,((zM .i64 a.2.2.1 1),(b,())))))))) (some [(aB (ieq (ln b) a.1))]))) (e,(f,(0,(d,())))))
def zTU:FuncId->Nat->Option Tmpl:=zq [(288,0,{n:=25,tm:=[(0,.sl 0 []),(1,ti),(2,ti),(7,ti)],lo:=[],ro:=[(0,.slot,false)]})]
theorem zTr (a:List Slot)(d c:Int)(j:zce big [aS .slot a,aI d,aI c])(l:zmQ a d c=true):∃N,zHA N a d c=some [aB (zh5 a d c)]:=by
 have h:(_:List _).length<=big:=((zc9 j).1 _ (qF.2 rfl)).len;refine zcz fun N g=>?_;unfold zHA oN nB;conv=>zeta
 refine(zbo a (fun i (t:Unit)=>(d,c,(i:Int),a,())) _ (fun _ x (_:Unit) k=>bif (fun s=>zdD s c) x then k () else oF) (fun (t:Unit)=>(some [(.one (.b (ieq (ln a) d)))])) (fun i e t rec=>?_) (fun t rec=>?_) _ () (g h)).trans ?_;{simp only [zbD e,zbf e,zbp e,zbi e h,cT];exact zia rfl};{simp only [zbt,cF]};rw[zgf (fun s=>zdD s c)];refine br (fun f=>?_) (fun f=>?_);{first|rfl|(simp only [f,zh5,zcS,cT,cF]<;>rfl)|(simp_all [Ty.cells,zh5,zcS];done)};{first|rfl|(simp only [f,zh5,zcS,cT,cF]<;>rfl)|(simp_all [Ty.cells,zh5,zcS];done)}
theorem zMq:vN 288 zCg:=hF3 zgm zA zB zn zTU zTr
@[simp] abbrev zmx (t:List Slot)(n p:Int):Bool:=true
@[simp] abbrev zhY (t:List Slot)(n p:Int):Bool:=zcS t n p
def zBY:Run:=rF3 (dS .slot) dI dI fun b c d=>(zmx b c d,[aB (zhY b c d)])
def zHc (N:Nat)(c:lS)(e f:Int):OA:=
 (iter (σ:=(Int×(Int×(Int×(Int×(lS×Unit)))))) N (fun g a=>let b:=a.2.2.2.2.1;let d:=(ix b a.2.2.2.1 zV); (cond (ilt a.2.2.2.1 a.2.2.1) (oN (inb a.2.2.2.1 (ln b)) (oN (zAv d a.2.1) (cond (nB (zuH d a.2.1)) oF (g (a.1,(a.2.1,(a.2.2.1,((zM .i64 a.2.2.2.1 1),(b,()))))))))) (some [(aB (ieq (ln b) a.1))]))) (e,(f,((ln c),(0,(c,()))))))
def zTQ:FuncId->Nat->Option Tmpl:=zq [(306,0,{n:=24,tm:=[(0,.sl 0 []),(1,ti),(2,ti),(9,.sl 0 []),(10,ti),(11,ti)],lo:=[],ro:=[(0,.slot,false)]})]
theorem zS2 (a:List Slot)(d c:Int)(j:zce big [aS .slot a,aI d,aI c])(l:zmx a d c=true):∃N,zHc N a d c=some [aB (zhY a d c)]:=by
 have h:(_:List _).length<=big:=((zc9 j).1 _ (qF.2 rfl)).len;refine zcz fun N g=>?_;unfold zHc oN nB;conv=>zeta
 refine(zbo a (fun i (t:Unit)=>(d,c,(ln a),(i:Int),a,())) _ (fun _ x (_:Unit) k=>bif (fun s=>zdD s c) x then k () else oF) (fun (t:Unit)=>(some [(.one (.b (ieq (ln a) d)))])) (fun i e t rec=>?_) (fun t rec=>?_) _ () (g h)).trans ?_;{simp only [zbD e,zbf e,zbp e,zbi e h,cT];exact zia rfl};{simp only [zbt,cF]};rw[zgf (fun s=>zdD s c)];refine br (fun f=>?_) (fun f=>?_);{first|rfl|(simp only [f,zhY,zcS,cT,cF]<;>rfl)|(simp_all [Ty.cells,zhY,zcS];done)};{first|rfl|(simp only [f,zhY,zcS,cT,cF]<;>rfl)|(simp_all [Ty.cells,zhY,zcS];done)}
theorem zL8:vN 306 zBY:=hF3 zgm zA zB zn zTQ zS2
def zci (c:List Int):Bool:=bif c.all (fun x=>win x 0 99) then ieq (ln c) 4 else false
@[simp] abbrev zfT (c:List Int):Bool:=true
@[simp] abbrev zfh (c:List Int):Bool:=zci c
def zE2:Run:=rF1 (dS .int) fun b=>(zfT b,[aB (zfh b)])
def zLh (N:Nat)(b:List Int):OA:=
 (iter (σ:=(Int×((List Int)×Unit))) N (fun c a=>(cond (ilt a.1 (ln a.2.1)) (oN (inb a.1 (ln a.2.1)) (oN (zO (ix a.2.1 a.1 0) 0 99) (cond (nB (zS (ix a.2.1 a.1 0) 0 99)) oF (c ((zM .i64 a.1 1),(a.2.1,())))))) (some [(aB (ieq (ln a.2.1) 4))]))) (0,(b,())))
def zXH:FuncId->Nat->Option Tmpl:=zq [(287,0,{n:=19,tm:=[(0,.sl 0 []),(3,ti)],lo:=[],ro:=[(0,.int,false)]})]
theorem zV2 (a:List Int)(g:zce big [aS .int a])(j:zfT a=true):∃N,zLh N a=some [aB (zfh a)]:=by have f:(_:List _).length<=big:=((zc9 g).1 _ (qF.2 rfl)).len;refine zcz fun N e=>?_;unfold zLh oN nB;refine(zbo a (fun i (t:Unit)=>((i:Int),a,())) _ (fun _ x (_:Unit) h=>bif (fun x=>win x 0 99) x then h () else oF) (fun (t:Unit)=>(some [(.one (.b (ieq (ln a) 4)))])) (fun i c t rec=>?_) (fun t rec=>?_) _ () (e f)).trans ?_;{simp only [zbD c,zbf c,zbp c,zbi c f,cT];exact zia rfl};{simp only [zbt,cF]};rw[zgf (fun x=>win x 0 99)];refine br (fun d=>?_) (fun d=>?_);{first|rfl|(simp only [d,zfh,zci,cT,cF]<;>rfl)|(simp_all [Ty.cells,zfh,zci];done)};{first|rfl|(simp only [d,zfh,zci,cT,cF]<;>rfl)|(simp_all [Ty.cells,zfh,zci];done)}
theorem zPf:vN 287 zE2:=hF1 zgm zA zB zn zXH zV2
@[simp] abbrev zhX (c:List Int):Bool:=true
@[simp] abbrev zgn (c:List Int):Bool:=zci c
def zEG:Run:=rF1 (dS .int) fun b=>(zhX b,[aB (zgn b)])
def zKT (N:Nat)(b:List Int):OA:=
 (iter (σ:=(Int×(Int×((List Int)×Unit)))) N (fun c a=>(cond (ilt a.2.1 a.1) (oN (inb a.2.1 (ln a.2.2.1)) (oN (zb0 (ix a.2.2.1 a.2.1 0) 0 99) (cond (nB (zcp (ix a.2.2.1 a.2.1 0) 0 99)) oF (c (a.1,((zM .i64 a.2.1 1),(a.2.2.1,()))))))) (some [(aB (ieq (ln a.2.2.1) 4))]))) ((ln b),(0,(b,()))))
def zXy:FuncId->Nat->Option Tmpl:=zq [(305,0,{n:=18,tm:=[(0,.sl 0 []),(5,.sl 0 []),(6,ti),(7,ti)],lo:=[],ro:=[(0,.int,false)]})]
theorem zVC (a:List Int)(g:zce big [aS .int a])(j:zhX a=true):∃N,zKT N a=some [aB (zgn a)]:=by have f:(_:List _).length<=big:=((zc9 g).1 _ (qF.2 rfl)).len;refine zcz fun N e=>?_;unfold zKT oN nB;refine(zbo a (fun i (t:Unit)=>((ln a),(i:Int),a,())) _ (fun _ x (_:Unit) h=>bif (fun x=>win x 0 99) x then h () else oF) (fun (t:Unit)=>(some [(.one (.b (ieq (ln a) 4)))])) (fun i c t rec=>?_) (fun t rec=>?_) _ () (e f)).trans ?_;{simp only [zbD c,zbf c,zbp c,zbi c f,cT];exact zia rfl};{simp only [zbt,cF]};rw[zgf (fun x=>win x 0 99)];refine br (fun d=>?_) (fun d=>?_);{first|rfl|(simp only [d,zgn,zci,cT,cF]<;>rfl)|(simp_all [Ty.cells,zgn,zci];done)};{first|rfl|(simp only [d,zgn,zci,cT,cF]<;>rfl)|(simp_all [Ty.cells,zgn,zci];done)}
theorem zOU:vN 305 zEG:=hF1 zgm zA zB zn zXy zVC
def zdN (i:Ins):Bool:=bif (ieq i.Op 1||ieq i.Op 2||ieq i.Op 5||ieq i.Op 6) then win i.X 0 99 else (cond (ieq i.Op 3||ieq i.Op 4) (win i.X 0 15) (cond (ieq i.Op 7) (ieq i.X 0) (cond (ieq i.Op 8) (win i.X 0 11) false)))
@[simp] abbrev zFl (i:Ins):Bool:=true
@[simp] abbrev zzx (i:Ins):Bool:=zdN i
def zIj:Run:=rF1 (dT .ins) fun b=>(zFl b,[aB (zzx b)])
def zRk (N:Nat)(a:Ins):OA:=
 let b:=(ieq a.Op 4);let l:=(zO a.X 0 99);let k:=(aB (zS a.X 0 99));let j:=(ieq a.Op 8);let i:=(ieq a.Op 7);let h:=(ieq a.Op 3);let g:=(zO a.X 0 11);let f:=(zO a.X 0 15);let e:=(aB (ieq a.X 0));let d:=(aB (zS a.X 0 11));let c:=(aB (zS a.X 0 15)); (cond (ieq a.Op 1) (cond (ieq a.Op 1) (oN l (some [k])) (cond h (cond h (oN f (some [c])) (cond i (some [e]) (cond j (oN g (some [d])) oF))) (cond b (oN f (some [c])) (cond i (some [e]) (cond j (oN g (some [d])) oF))))) (cond (ieq a.Op 2) (cond (ieq a.Op 2) (oN l (some [k])) (cond h (cond h (oN f (some [c])) (cond i (some [e]) (cond j (oN g (some [d])) oF))) (cond b (oN f (some [c])) (cond i (some [e]) (cond j (oN g (some [d])) oF))))) (cond (ieq a.Op 5) (cond (ieq a.Op 5) (oN l (some [k])) (cond h (cond h (oN f (some [c])) (cond i (some [e]) (cond j (oN g (some [d])) oF))) (cond b (oN f (some [c])) (cond i (some [e]) (cond j (oN g (some [d])) oF))))) (cond (ieq a.Op 6) (oN l (some [k])) (cond h (cond h (oN f (some [c])) (cond i (some [e]) (cond j (oN g (some [d])) oF))) (cond b (oN f (some [c])) (cond i (some [e]) (cond j (oN g (some [d])) oF))))))))
theorem zYE (a:Ins)(b:zFl a=true):∃N,zRk N a=some [aB (zzx a)]:=by
 refine⟨0,?_⟩;unfold zRk oN;conv=>zeta
 refine br (fun _=>br (fun _=>must rfl ?_) (fun _=>br (fun _=>br (fun _=>must rfl ?_) (fun _=>br (fun _=>?_) (fun _=>br (fun _=>must rfl ?_) (fun _=>?_)))) (fun _=>br (fun _=>must rfl ?_) (fun _=>br (fun _=>?_) (fun _=>br (fun _=>must rfl ?_) (fun _=>?_)))))) (fun _=>br (fun _=>br (fun _=>must rfl ?_) (fun _=>br (fun _=>br (fun _=>must rfl ?_) (fun _=>br (fun _=>?_) (fun _=>br (fun _=>must rfl ?_) (fun _=>?_)))) (fun _=>br (fun _=>must rfl ?_) (fun _=>br (fun _=>?_) (fun _=>br (fun _=>must rfl ?_) (fun _=>?_)))))) (fun _=>br (fun _=>br (fun _=>must rfl ?_) (fun _=>br (fun _=>br (fun _=>must rfl ?_) (fun _=>br (fun _=>?_) (fun _=>br (fun _=>must rfl ?_) (fun _=>?_)))) (fun _=>br (fun _=>must rfl ?_) (fun _=>br (fun _=>?_) (fun _=>br (fun _=>must rfl ?_) (fun _=>?_)))))) (fun _=>br (fun _=>must rfl ?_) (fun _=>br (fun _=>br (fun _=>must rfl ?_) (fun _=>br (fun _=>?_) (fun _=>br (fun _=>must rfl ?_) (fun _=>?_)))) (fun _=>br (fun _=>must rfl ?_) (fun _=>br (fun _=>?_) (fun _=>br (fun _=>must rfl ?_) (fun _=>?_))))))));all_goals first|rfl|(simp only [*,zzx,zdN,cT,cF]<;>rfl)|simp_all[Ty.cells,zzx,zdN]
theorem zSM:vN 330 zIj:=kF1 zgm zA zB zn (zq []) zYE
@[simp] abbrev zD5 (i:Ins):Bool:=true
@[simp] abbrev zyD (i:Ins):Bool:=zdN i
def zH9:Run:=rF1 (dT .ins) fun b=>(zD5 b,[aB (zyD b)])
def zRa (N:Nat)(a:Ins):OA:=
 let b:=(ieq a.Op 4);let l:=(zb0 a.X 0 99);let k:=(aB (zcp a.X 0 99));let j:=(ieq a.Op 8);let i:=(ieq a.Op 7);let h:=(ieq a.Op 3);let g:=(zb0 a.X 0 11);let f:=(zb0 a.X 0 15);let e:=(aB (ieq a.X 0));let d:=(aB (zcp a.X 0 11));let c:=(aB (zcp a.X 0 15)); (cond (ieq a.Op 1) (cond (ieq a.Op 1) (oN l (some [k])) (cond h (cond h (oN f (some [c])) (cond i (some [e]) (cond j (oN g (some [d])) oF))) (cond b (oN f (some [c])) (cond i (some [e]) (cond j (oN g (some [d])) oF))))) (cond (ieq a.Op 2) (cond (ieq a.Op 2) (oN l (some [k])) (cond h (cond h (oN f (some [c])) (cond i (some [e]) (cond j (oN g (some [d])) oF))) (cond b (oN f (some [c])) (cond i (some [e]) (cond j (oN g (some [d])) oF))))) (cond (ieq a.Op 5) (cond (ieq a.Op 5) (oN l (some [k])) (cond h (cond h (oN f (some [c])) (cond i (some [e]) (cond j (oN g (some [d])) oF))) (cond b (oN f (some [c])) (cond i (some [e]) (cond j (oN g (some [d])) oF))))) (cond (ieq a.Op 6) (oN l (some [k])) (cond h (cond h (oN f (some [c])) (cond i (some [e]) (cond j (oN g (some [d])) oF))) (cond b (oN f (some [c])) (cond i (some [e]) (cond j (oN g (some [d])) oF))))))))
theorem zYt (a:Ins)(b:zD5 a=true):∃N,zRa N a=some [aB (zyD a)]:=by
 refine⟨0,?_⟩;unfold zRa oN;conv=>zeta
 refine br (fun _=>br (fun _=>must rfl ?_) (fun _=>br (fun _=>br (fun _=>must rfl ?_) (fun _=>br (fun _=>?_) (fun _=>br (fun _=>must rfl ?_) (fun _=>?_)))) (fun _=>br (fun _=>must rfl ?_) (fun _=>br (fun _=>?_) (fun _=>br (fun _=>must rfl ?_) (fun _=>?_)))))) (fun _=>br (fun _=>br (fun _=>must rfl ?_) (fun _=>br (fun _=>br (fun _=>must rfl ?_) (fun _=>br (fun _=>?_) (fun _=>br (fun _=>must rfl ?_) (fun _=>?_)))) (fun _=>br (fun _=>must rfl ?_) (fun _=>br (fun _=>?_) (fun _=>br (fun _=>must rfl ?_) (fun _=>?_)))))) (fun _=>br (fun _=>br (fun _=>must rfl ?_) (fun _=>br (fun _=>br (fun _=>must rfl ?_) (fun _=>br (fun _=>?_) (fun _=>br (fun _=>must rfl ?_) (fun _=>?_)))) (fun _=>br (fun _=>must rfl ?_) (fun _=>br (fun _=>?_) (fun _=>br (fun _=>must rfl ?_) (fun _=>?_)))))) (fun _=>br (fun _=>must rfl ?_) (fun _=>br (fun _=>br (fun _=>must rfl ?_) (fun _=>br (fun _=>?_) (fun _=>br (fun _=>must rfl ?_) (fun _=>?_)))) (fun _=>br (fun _=>must rfl ?_) (fun _=>br (fun _=>?_) (fun _=>br (fun _=>must rfl ?_) (fun _=>?_))))))));all_goals first|rfl|(simp only [*,zyD,zdN,cT,cF]<;>rfl)|simp_all[Ty.cells,zyD,zdN]
theorem zSB:vN 329 zH9:=kF1 zgm zA zB zn (zq []) zYt
def zg7 (e:GExit):Bool:=bif (ieq e.Kind 0||ieq e.Kind 4) then (ieq e.Page 0&&(!e.Write&&ieq e.N 0)) else (cond (ieq e.Kind 1) (win e.Page 0 3&&ieq e.N 0) (cond (ieq e.Kind 2||ieq e.Kind 3) (win e.N 0 99&&(ieq e.Page 0 && !e.Write)) false))
@[simp] theorem zbdx (x:Bool):zjh x false = !x:=by cases x<;>rfl
attribute [simp] zd1
@[simp] abbrev zAS (e:GExit):Bool:=true
@[simp] abbrev zvc (e:GExit):Bool:=zg7 e
def zET:Run:=rF1 dE fun b=>(zAS b,[aB (zvc b)])
def zK7 (N:Nat)(a:GExit):OA:=
 let f:=(zS a.N 0 99);let e:=(zO a.N 0 99);let d:=(ieq a.Kind 2);let b:=(ieq a.Page 0);let c:=(aB (nB a.Write));let g:=(aB (cond (ieq a.Kind a.Kind) (cond b (cond (zjh a.Write false) (ieq a.N 0) false) false) false)); (cond (ieq a.Kind 0) (cond (ieq a.Kind 0) (some [g]) (cond (ieq a.Kind 1) (oN (zO a.Page 0 3) (cond (zS a.Page 0 3) (some [(aB (ieq a.N 0))]) oF)) (cond d (cond d (oN e (cond f (cond b (some [c]) oF) oF)) oF) (cond (ieq a.Kind 3) (oN e (cond f (cond b (some [c]) oF) oF)) oF)))) (cond (ieq a.Kind 4) (some [g]) (cond (ieq a.Kind 1) (oN (zO a.Page 0 3) (cond (zS a.Page 0 3) (some [(aB (ieq a.N 0))]) oF)) (cond d (cond d (oN e (cond f (cond b (some [c]) oF) oF)) oF) (cond (ieq a.Kind 3) (oN e (cond f (cond b (some [c]) oF) oF)) oF)))))
theorem zVP (a:GExit)(b:zAS a=true):∃N,zK7 N a=some [aB (zvc a)]:=by
 refine⟨0,?_⟩;unfold zK7 oN nB;conv=>zeta
 refine br (fun _=>br (fun _=>?_) (fun _=>br (fun _=>must rfl (br (fun _=>?_) (fun _=>?_))) (fun _=>br (fun _=>br (fun _=>must rfl (br (fun _=>br (fun _=>?_) (fun _=>?_)) (fun _=>?_))) (fun _=>?_)) (fun _=>br (fun _=>must rfl (br (fun _=>br (fun _=>?_) (fun _=>?_)) (fun _=>?_))) (fun _=>?_))))) (fun _=>br (fun _=>?_) (fun _=>br (fun _=>must rfl (br (fun _=>?_) (fun _=>?_))) (fun _=>br (fun _=>br (fun _=>must rfl (br (fun _=>br (fun _=>?_) (fun _=>?_)) (fun _=>?_))) (fun _=>?_)) (fun _=>br (fun _=>must rfl (br (fun _=>br (fun _=>?_) (fun _=>?_)) (fun _=>?_))) (fun _=>?_)))));all_goals first|rfl|(simp only [*,zvc,zg7,cT,cF]<;>rfl)|simp_all[Ty.cells,zvc,zg7]
theorem zO6:vN 320 zET:=kF1 zgm zA zB zn (zq []) zVP
@[simp] abbrev zAr (e:GExit):Bool:=true
@[simp] abbrev zuF (e:GExit):Bool:=zg7 e
def zEz:Run:=rF1 dE fun b=>(zAr b,[aB (zuF b)])
def zKN (N:Nat)(a:GExit):OA:=
 let g:=(zcp a.N 0 99);let f:=(zb0 a.N 0 99);let e:=(ieq a.Kind 2);let d:=(aB (ieq a.N 0));let b:=(ieq a.Page 0);let c:=(aB (nB a.Write)); (cond (ieq a.Kind 0) (cond (ieq a.Kind 0) (cond b (cond (nB a.Write) (some [d]) oF) oF) (cond (ieq a.Kind 1) (oN (zb0 a.Page 0 3) (cond (zcp a.Page 0 3) (some [d]) oF)) (cond e (cond e (oN f (cond g (cond b (some [c]) oF) oF)) oF) (cond (ieq a.Kind 3) (oN f (cond g (cond b (some [c]) oF) oF)) oF)))) (cond (ieq a.Kind 4) (cond b (cond (nB a.Write) (some [d]) oF) oF) (cond (ieq a.Kind 1) (oN (zb0 a.Page 0 3) (cond (zcp a.Page 0 3) (some [d]) oF)) (cond e (cond e (oN f (cond g (cond b (some [c]) oF) oF)) oF) (cond (ieq a.Kind 3) (oN f (cond g (cond b (some [c]) oF) oF)) oF)))))
theorem zVv (a:GExit)(b:zAr a=true):∃N,zKN N a=some [aB (zuF a)]:=by
 refine⟨0,?_⟩;unfold zKN oN nB;conv=>zeta
 refine br (fun _=>br (fun _=>br (fun _=>brN (fun _=>?_) (fun _=>?_)) (fun _=>?_)) (fun _=>br (fun _=>must rfl (br (fun _=>?_) (fun _=>?_))) (fun _=>br (fun _=>br (fun _=>must rfl (br (fun _=>br (fun _=>?_) (fun _=>?_)) (fun _=>?_))) (fun _=>?_)) (fun _=>br (fun _=>must rfl (br (fun _=>br (fun _=>?_) (fun _=>?_)) (fun _=>?_))) (fun _=>?_))))) (fun _=>br (fun _=>br (fun _=>brN (fun _=>?_) (fun _=>?_)) (fun _=>?_)) (fun _=>br (fun _=>must rfl (br (fun _=>?_) (fun _=>?_))) (fun _=>br (fun _=>br (fun _=>must rfl (br (fun _=>br (fun _=>?_) (fun _=>?_)) (fun _=>?_))) (fun _=>?_)) (fun _=>br (fun _=>must rfl (br (fun _=>br (fun _=>?_) (fun _=>?_)) (fun _=>?_))) (fun _=>?_)))));all_goals first|rfl|(simp only [*,zuF,zg7,cT,cF]<;>rfl)|simp_all[Ty.cells,zuF,zg7]
theorem zON:vN 312 zEz:=kF1 zgm zA zB zn (zq []) zVv
def zkH (c:Ctl):List Int:=(cond (win c.Traps 0 3) [] [1])++((cond (win c.Post 0 255) [] [2])++((cond (ine c.Post 0) (cond c.Open [] [3]) [])++(cond (ieq c.Traps 2) (cond (ine c.Post 0) [4] []) [])))
@[simp] theorem zbdu {a:Type}(x:a)(l m:List a):ap (x::l) m=x::ap l m:=rfl
@[simp] abbrev zsV (c:Ctl):Bool:=true
@[simp] abbrev zmK (c:Ctl):List Int:=zkH c
def zwC:Run:=rF1 dC fun b=>(zsV b,[aS .int (zmK b)])
def zBy (N:Nat)(b:Ctl):OA:=
 let e:=(aS .int []);let k:=(ap (ap [] [2]) [4]);let j:=(ap (ap [] [1]) [4]);let i:=(aS .int (ap [] [2]));let h:=(aS .int (ap [] [1]));let g:=(ap (ap [] [2]) [3]);let f:=(ap (ap [] [1]) [3]);let c:=(ieq b.Traps 2);let a:=(ine b.Post 0);let d:=(ap (ap [] [1]) [2]);let l:=(aS .int d); (oN (zO b.Traps 0 3) (cond (nB (zS b.Traps 0 3)) (oN (few (ln (ap [] [1]))) (oN (zO b.Post 0 255) (cond (nB (zS b.Post 0 255)) (oN (few (ln d)) (cond a (cond (nB b.Open) (oN (few (ln (ap d [3]))) (cond c (cond a (oN (few (ln (ap (ap d [3]) [4]))) (some [(aS .int (ap (ap d [3]) [4]))])) (some [(aS .int (ap d [3]))])) (some [(aS .int (ap d [3]))]))) (cond c (cond a (oN (few (ln (ap d [4]))) (some [(aS .int (ap d [4]))])) (some [l])) (some [l]))) (cond c (cond a (oN (few (ln (ap d [4]))) (some [(aS .int (ap d [4]))])) (some [l])) (some [l])))) (cond a (cond (nB b.Open) (oN (few (ln f)) (cond c (cond a (oN (few (ln (ap f [4]))) (some [(aS .int (ap f [4]))])) (some [(aS .int f)])) (some [(aS .int f)]))) (cond c (cond a (oN (few (ln j)) (some [(aS .int j)])) (some [h])) (some [h]))) (cond c (cond a (oN (few (ln j)) (some [(aS .int j)])) (some [h])) (some [h])))))) (oN (zO b.Post 0 255) (cond (nB (zS b.Post 0 255)) (oN (few (ln (ap [] [2]))) (cond a (cond (nB b.Open) (oN (few (ln g)) (cond c (cond a (oN (few (ln (ap g [4]))) (some [(aS .int (ap g [4]))])) (some [(aS .int g)])) (some [(aS .int g)]))) (cond c (cond a (oN (few (ln k)) (some [(aS .int k)])) (some [i])) (some [i]))) (cond c (cond a (oN (few (ln k)) (some [(aS .int k)])) (some [i])) (some [i])))) (cond a (cond (nB b.Open) (oN (few (ln (ap [] [3]))) (cond c (cond a (oN (few (ln (ap (ap [] [3]) [4]))) (some [(aS .int (ap (ap [] [3]) [4]))])) (some [(aS .int (ap [] [3]))])) (some [(aS .int (ap [] [3]))]))) (cond c (cond a (oN (few (ln (ap [] [4]))) (some [(aS .int (ap [] [4]))])) (some [e])) (some [e]))) (cond c (cond a (oN (few (ln (ap [] [4]))) (some [(aS .int (ap [] [4]))])) (some [e])) (some [e])))))))
theorem zM8 (a:Ctl)(b:zsV a=true):∃N,zBy N a=some [aS .int (zmK a)]:=by
 refine⟨0,?_⟩;unfold zBy oN nB;conv=>zeta
 refine must rfl (brN (fun _=>mu (must rfl (brN (fun _=>mu (br (fun _=>brN (fun _=>mu (br (fun _=>br (fun _=>mu ?_) (fun _=>?_)) (fun _=>?_))) (fun _=>br (fun _=>br (fun _=>mu ?_) (fun _=>?_)) (fun _=>?_))) (fun _=>br (fun _=>br (fun _=>mu ?_) (fun _=>?_)) (fun _=>?_)))) (fun _=>br (fun _=>brN (fun _=>mu (br (fun _=>br (fun _=>mu ?_) (fun _=>?_)) (fun _=>?_))) (fun _=>br (fun _=>br (fun _=>mu ?_) (fun _=>?_)) (fun _=>?_))) (fun _=>br (fun _=>br (fun _=>mu ?_) (fun _=>?_)) (fun _=>?_)))))) (fun _=>must rfl (brN (fun _=>mu (br (fun _=>brN (fun _=>mu (br (fun _=>br (fun _=>mu ?_) (fun _=>?_)) (fun _=>?_))) (fun _=>br (fun _=>br (fun _=>mu ?_) (fun _=>?_)) (fun _=>?_))) (fun _=>br (fun _=>br (fun _=>mu ?_) (fun _=>?_)) (fun _=>?_)))) (fun _=>br (fun _=>brN (fun _=>mu (br (fun _=>br (fun _=>mu ?_) (fun _=>?_)) (fun _=>?_))) (fun _=>br (fun _=>br (fun _=>mu ?_) (fun _=>?_)) (fun _=>?_))) (fun _=>br (fun _=>br (fun _=>mu ?_) (fun _=>?_)) (fun _=>?_))))));all_goals first|rfl|(simp only [*,zmK,zkH,cT,cF]<;>rfl)|simp_all[Ty.cells,zmK,zkH]
theorem zGv:vN 266 zwC:=kF1 zgm zA zB zn (zq []) zM8
@[simp] abbrev zsA (c:Ctl):Bool:=true
@[simp] abbrev zmt (c:Ctl):List Int:=zkH c
def zwp:Run:=rF1 dC fun b=>(zsA b,[aS .int (zmt b)])
def zBl (N:Nat)(b:Ctl):OA:=
 let e:=(aS .int []);let k:=(ap (ap [] [2]) [4]);let j:=(ap (ap [] [1]) [4]);let i:=(aS .int (ap [] [2]));let h:=(aS .int (ap [] [1]));let g:=(ap (ap [] [2]) [3]);let f:=(ap (ap [] [1]) [3]);let c:=(ieq b.Traps 2);let a:=(ine b.Post 0);let d:=(ap (ap [] [1]) [2]);let l:=(aS .int d); (oN (zb0 b.Traps 0 3) (cond (nB (zcp b.Traps 0 3)) (oN (few (ln (ap [] [1]))) (oN (zb0 b.Post 0 255) (cond (nB (zcp b.Post 0 255)) (oN (few (ln d)) (cond a (cond (nB b.Open) (oN (few (ln (ap d [3]))) (cond c (cond a (oN (few (ln (ap (ap d [3]) [4]))) (some [(aS .int (ap (ap d [3]) [4]))])) (some [(aS .int (ap d [3]))])) (some [(aS .int (ap d [3]))]))) (cond c (cond a (oN (few (ln (ap d [4]))) (some [(aS .int (ap d [4]))])) (some [l])) (some [l]))) (cond c (cond a (oN (few (ln (ap d [4]))) (some [(aS .int (ap d [4]))])) (some [l])) (some [l])))) (cond a (cond (nB b.Open) (oN (few (ln f)) (cond c (cond a (oN (few (ln (ap f [4]))) (some [(aS .int (ap f [4]))])) (some [(aS .int f)])) (some [(aS .int f)]))) (cond c (cond a (oN (few (ln j)) (some [(aS .int j)])) (some [h])) (some [h]))) (cond c (cond a (oN (few (ln j)) (some [(aS .int j)])) (some [h])) (some [h])))))) (oN (zb0 b.Post 0 255) (cond (nB (zcp b.Post 0 255)) (oN (few (ln (ap [] [2]))) (cond a (cond (nB b.Open) (oN (few (ln g)) (cond c (cond a (oN (few (ln (ap g [4]))) (some [(aS .int (ap g [4]))])) (some [(aS .int g)])) (some [(aS .int g)]))) (cond c (cond a (oN (few (ln k)) (some [(aS .int k)])) (some [i])) (some [i]))) (cond c (cond a (oN (few (ln k)) (some [(aS .int k)])) (some [i])) (some [i])))) (cond a (cond (nB b.Open) (oN (few (ln (ap [] [3]))) (cond c (cond a (oN (few (ln (ap (ap [] [3]) [4]))) (some [(aS .int (ap (ap [] [3]) [4]))])) (some [(aS .int (ap [] [3]))])) (some [(aS .int (ap [] [3]))]))) (cond c (cond a (oN (few (ln (ap [] [4]))) (some [(aS .int (ap [] [4]))])) (some [e])) (some [e]))) (cond c (cond a (oN (few (ln (ap [] [4]))) (some [(aS .int (ap [] [4]))])) (some [e])) (some [e])))))))
theorem zMU (a:Ctl)(b:zsA a=true):∃N,zBl N a=some [aS .int (zmt a)]:=by
 refine⟨0,?_⟩;unfold zBl oN nB;conv=>zeta
 refine must rfl (brN (fun _=>mu (must rfl (brN (fun _=>mu (br (fun _=>brN (fun _=>mu (br (fun _=>br (fun _=>mu ?_) (fun _=>?_)) (fun _=>?_))) (fun _=>br (fun _=>br (fun _=>mu ?_) (fun _=>?_)) (fun _=>?_))) (fun _=>br (fun _=>br (fun _=>mu ?_) (fun _=>?_)) (fun _=>?_)))) (fun _=>br (fun _=>brN (fun _=>mu (br (fun _=>br (fun _=>mu ?_) (fun _=>?_)) (fun _=>?_))) (fun _=>br (fun _=>br (fun _=>mu ?_) (fun _=>?_)) (fun _=>?_))) (fun _=>br (fun _=>br (fun _=>mu ?_) (fun _=>?_)) (fun _=>?_)))))) (fun _=>must rfl (brN (fun _=>mu (br (fun _=>brN (fun _=>mu (br (fun _=>br (fun _=>mu ?_) (fun _=>?_)) (fun _=>?_))) (fun _=>br (fun _=>br (fun _=>mu ?_) (fun _=>?_)) (fun _=>?_))) (fun _=>br (fun _=>br (fun _=>mu ?_) (fun _=>?_)) (fun _=>?_)))) (fun _=>br (fun _=>brN (fun _=>mu (br (fun _=>br (fun _=>mu ?_) (fun _=>?_)) (fun _=>?_))) (fun _=>br (fun _=>br (fun _=>mu ?_) (fun _=>?_)) (fun _=>?_))) (fun _=>br (fun _=>br (fun _=>mu ?_) (fun _=>?_)) (fun _=>?_))))));all_goals first|rfl|(simp only [*,zmt,zkH,cT,cF]<;>rfl)|simp_all[Ty.cells,zmt,zkH]
theorem zGj:vN 265 zwp:=kF1 zgm zA zB zn (zq []) zMU
def zgA (p n:Int):Bool:=ieq (wand .i64 (zFH .i64 p n) 1) 1
def scan (p:Int):Int:=bif zgA p 7 then 7 else (cond (zgA p 6) 6 (cond (zgA p 5) 5 (cond (zgA p 4) 4 (cond (zgA p 3) 3 (cond (zgA p 2) 2 (cond (zgA p 1) 1 (cond (zgA p 0) 0 (-1))))))))
theorem z7J:∀n:Fin 256,-1<=scan (n.val:Int)/\scan (n.val:Int)<=7/\(0<=scan (n.val:Int)->wsub .i64 (n.val:Int) (zpK .i64 1 (scan (n.val:Int)))=zOt .i64 (n.val:Int) (zpK .i64 1 (scan (n.val:Int)))):=by decide +kernel
theorem z4J {P:Int->Prop}(h:∀n:Fin 256,P (n.val:Int)){x:Int}(a:0<=x)(b:x<=255):P x:=by have:=h ⟨x.toNat,by omega⟩;have e:((x.toNat:Nat):Int)=x:=(by omega);simpa [e] using this
def z9a:zba:=[(119,zu3),(288,zCg),(306,zBY),(287,zE2),(305,zEG),(330,zIj),(329,zH9),(320,zET),(312,zEz),(266,zwC),(265,zwp)]++z88
theorem zg4:zK z9a:=zh zyx (zh zMq (zh zL8 (zh zPf (zh zOU (zh zSM (zh zSB (zh zO6 (zh zON (zh zGv (zh zGj zgm))))))))))
def zhy (m:List (List Int))(n:Int):Bool:=bif m.all zci then ieq (ln m) n else false
@[simp] abbrev zsg (m:List (List Int))(n:Int):Bool:=true
@[simp] abbrev zl3 (m:List (List Int))(n:Int):Bool:=zhy m n
def zIk:Run:=rF2 (dS (.sl .int)) dI fun b c=>(zsg b c,[aB (zl3 b c)])
def zRl (N:Nat)(c:lM)(d:Int):OA:=
 (iter (σ:=(Int×(Int×(lM×Unit)))) N (fun e a=>let b:=a.2.2.1; (cond (ilt a.2.1 (ln b)) (oN (inb a.2.1 (ln b)) (oN (zfT (ix b a.2.1 [])) (cond (nB (zfh (ix b a.2.1 []))) oF (e (a.1,((zM .i64 a.2.1 1),(b,()))))))) (some [(aB (ieq (ln b) a.1))]))) (d,(0,(c,()))))
def zZw:FuncId->Nat->Option Tmpl:=zq [(226,0,{n:=22,tm:=[(0,.sl 0 []),(1,ti),(5,ti)],lo:=[],ro:=[(0,(.sl .int),false)]})]
theorem zYF (a:List (List Int))(c:Int)(h:zce big [aS (.sl .int) a,aI c])(k:zsg a c=true):∃N,zRl N a c=some [aB (zl3 a c)]:=by
 have g:(_:List _).length<=big:=((zc9 h).1 _ (qF.2 rfl)).len;refine zcz fun N f=>?_;unfold zRl oN nB;conv=>zeta
 refine(zbo a (fun i (t:Unit)=>(c,(i:Int),a,())) _ (fun _ x (_:Unit) j=>bif (zci) x then j () else oF) (fun (t:Unit)=>(some [(.one (.b (ieq (ln a) c)))])) (fun i d t rec=>?_) (fun t rec=>?_) _ () (f g)).trans ?_;{simp only [zbD d,zbf d,zbp d,zbi d g,cT];exact zia rfl};{simp only [zbt,cF]};rw[zgf (zci)];refine br (fun e=>?_) (fun e=>?_);{first|rfl|(simp only [e,zl3,zhy,cT,cF]<;>rfl)|(simp_all [Ty.cells,zl3,zhy];done)};{first|rfl|(simp only [e,zl3,zhy,cT,cF]<;>rfl)|(simp_all [Ty.cells,zl3,zhy];done)}
theorem zSN:vN 226 zIk:=hF2 zg4 zA zB zn zZw zYF
@[simp] abbrev zr4 (m:List (List Int))(n:Int):Bool:=true
@[simp] abbrev zlF (m:List (List Int))(n:Int):Bool:=zhy m n
def zIa:Run:=rF2 (dS (.sl .int)) dI fun b c=>(zr4 b c,[aB (zlF b c)])
def zRb (N:Nat)(c:lM)(d:Int):OA:=
 (iter (σ:=(Int×(Int×(Int×(lM×Unit))))) N (fun e a=>let b:=a.2.2.2.1; (cond (ilt a.2.2.1 a.2.1) (oN (inb a.2.2.1 (ln b)) (oN (zhX (ix b a.2.2.1 [])) (cond (nB (zgn (ix b a.2.2.1 []))) oF (e (a.1,(a.2.1,((zM .i64 a.2.2.1 1),(b,())))))))) (some [(aB (ieq (ln b) a.1))]))) (d,((ln c),(0,(c,())))))
def zZu:FuncId->Nat->Option Tmpl:=zq [(252,0,{n:=21,tm:=[(0,.sl 0 []),(1,ti),(7,.sl 0 []),(8,ti),(9,ti)],lo:=[],ro:=[(0,(.sl .int),false)]})]
theorem zYu (a:List (List Int))(c:Int)(h:zce big [aS (.sl .int) a,aI c])(k:zr4 a c=true):∃N,zRb N a c=some [aB (zlF a c)]:=by
 have g:(_:List _).length<=big:=((zc9 h).1 _ (qF.2 rfl)).len;refine zcz fun N f=>?_;unfold zRb oN nB;conv=>zeta
 refine(zbo a (fun i (t:Unit)=>(c,(ln a),(i:Int),a,())) _ (fun _ x (_:Unit) j=>bif (zci) x then j () else oF) (fun (t:Unit)=>(some [(.one (.b (ieq (ln a) c)))])) (fun i d t rec=>?_) (fun t rec=>?_) _ () (f g)).trans ?_;{simp only [zbD d,zbf d,zbp d,zbi d g,cT];exact zia rfl};{simp only [zbt,cF]};rw[zgf (zci)];refine br (fun e=>?_) (fun e=>?_);{first|rfl|(simp only [e,zlF,zhy,cT,cF]<;>rfl)|(simp_all [Ty.cells,zlF,zhy];done)};{first|rfl|(simp only [e,zlF,zhy,cT,cF]<;>rfl)|(simp_all [Ty.cells,zlF,zhy];done)}
theorem zSC:vN 252 zIa:=hF2 zg4 zA zB zn zZu zYu
def zc7 (p:List Ins):Bool:=bif p.all zdN then win (ln p) 1 12 else false
@[simp] abbrev zAV (p:List Ins):Bool:=true
@[simp] abbrev znE (p:List Ins):Bool:=zc7 p
def zE4:Run:=rF1 (dS .ins) fun b=>(zAV b,[aB (znE b)])
def zLj (N:Nat)(c:lI):OA:=
 (iter (σ:=(Int×(lI×Unit))) N (fun d a=>let b:=(ix a.2.1 a.1 zxj); (cond (ilt a.1 (ln a.2.1)) (oN (inb a.1 (ln a.2.1)) (oN (zFl b) (cond (nB (zzx b)) oF (d ((zM .i64 a.1 1),(a.2.1,())))))) (oN (zO (ln a.2.1) 1 12) (some [(aB (zS (ln a.2.1) 1 12))])))) (0,(c,())))
def zXI:FuncId->Nat->Option Tmpl:=zq [(319,0,{n:=19,tm:=[(0,.sl 0 []),(3,ti)],lo:=[],ro:=[(0,.ins,false)]})]
theorem zV4 (a:List Ins)(g:zce big [aS .ins a])(j:zAV a=true):∃N,zLj N a=some [aB (znE a)]:=by
 have f:(_:List _).length<=big:=((zc9 g).1 _ (qF.2 rfl)).len;refine zcz fun N e=>?_;unfold zLj oN nB;conv=>zeta
 refine(zbo a (fun i (t:Unit)=>((i:Int),a,())) _ (fun _ x (_:Unit) h=>bif (zdN) x then h () else oF) (fun (t:Unit)=>(cond (zO (ln a) 1 12) (some [(.one (.b (zS (ln a) 1 12)))]) none)) (fun i c t rec=>?_) (fun t rec=>?_) _ () (e f)).trans ?_;{simp only [zbD c,zbf c,zbp c,zbi c f,cT];exact zia rfl};{simp only [zbt,cF]};rw[zgf (zdN)];refine br (fun d=>?_) (fun d=>?_);{refine must rfl ?_;first|rfl|(simp only [d,znE,zc7,cT,cF]<;>rfl)|(simp_all [Ty.cells,znE,zc7];done)};{first|rfl|(simp only [d,znE,zc7,cT,cF]<;>rfl)|(simp_all [Ty.cells,znE,zc7];done)}
theorem zPh:vN 319 zE4:=hF1 zg4 zA zB zn zXI zV4
@[simp] abbrev zAu (p:List Ins):Bool:=true
@[simp] abbrev znt (p:List Ins):Bool:=zc7 p
def zEI:Run:=rF1 (dS .ins) fun b=>(zAu b,[aB (znt b)])
def zKV (N:Nat)(b:lI):OA:=
 (iter (σ:=(Int×(Int×(lI×Unit)))) N (fun d a=>let c:=(ix a.2.2.1 a.2.1 zxj); (cond (ilt a.2.1 a.1) (oN (inb a.2.1 (ln a.2.2.1)) (oN (zD5 c) (cond (nB (zyD c)) oF (d (a.1,((zM .i64 a.2.1 1),(a.2.2.1,()))))))) (oN (zb0 (ln a.2.2.1) 1 12) (some [(aB (zcp (ln a.2.2.1) 1 12))])))) ((ln b),(0,(b,()))))
def zXz:FuncId->Nat->Option Tmpl:=zq [(311,0,{n:=18,tm:=[(0,.sl 0 []),(5,.sl 0 []),(6,ti),(7,ti)],lo:=[],ro:=[(0,.ins,false)]})]
theorem zVE (a:List Ins)(g:zce big [aS .ins a])(j:zAu a=true):∃N,zKV N a=some [aB (znt a)]:=by
 have f:(_:List _).length<=big:=((zc9 g).1 _ (qF.2 rfl)).len;refine zcz fun N e=>?_;unfold zKV oN nB;conv=>zeta
 refine(zbo a (fun i (t:Unit)=>((ln a),(i:Int),a,())) _ (fun _ x (_:Unit) h=>bif (zdN) x then h () else oF) (fun (t:Unit)=>(cond (zb0 (ln a) 1 12) (some [(.one (.b (zcp (ln a) 1 12)))]) none)) (fun i c t rec=>?_) (fun t rec=>?_) _ () (e f)).trans ?_;{simp only [zbD c,zbf c,zbp c,zbi c f,cT];exact zia rfl};{simp only [zbt,cF]};rw[zgf (zdN)];refine br (fun d=>?_) (fun d=>?_);{refine must rfl ?_;first|rfl|(simp only [d,znt,zc7,cT,cF]<;>rfl)|(simp_all [Ty.cells,znt,zc7];done)};{first|rfl|(simp only [d,znt,zc7,cT,cF]<;>rfl)|(simp_all [Ty.cells,znt,zc7];done)}
theorem zOW:vN 311 zEI:=hF1 zg4 zA zB zn zXz zVE
def zhv (c:Ctl):Bool:=ieq (ln (zkH c)) 0
@[simp] abbrev zse (c:Ctl):Bool:=true
@[simp] abbrev zqx (c:Ctl):Bool:=zhv c
def zIg:Run:=rF1 dC fun b=>(zse b,[aB (zqx b)])
def zRh (N:Nat)(a:Ctl):OA:=
 (oN (zsV a) (some [(aB (ieq (ln (zmK a)) 0))]))
theorem zYB (a:Ctl)(b:zse a=true):∃N,zRh N a=some [aB (zqx a)]:=by refine⟨0,?_⟩;unfold zRh oN;refine must rfl ?_;first|rfl|(simp only [*,zqx,zhv,cT,cF]<;>rfl)|simp_all[Ty.cells,zqx,zhv]
theorem zSJ:vN 192 zIg:=kF1 zg4 zA zB zn (zq []) zYB
@[simp] abbrev zD4 (c:Ctl):Bool:=true
@[simp] abbrev zyC (c:Ctl):Bool:=zhv c
def zH8:Run:=rF1 dC fun b=>(zD4 b,[aB (zyC b)])
def zQ9 (N:Nat)(a:Ctl):OA:=
 (oN (zsA a) (some [(aB (ieq (ln (zmt a)) 0))]))
theorem zYs (a:Ctl)(b:zD4 a=true):∃N,zQ9 N a=some [aB (zyC a)]:=by refine⟨0,?_⟩;unfold zQ9 oN;refine must rfl ?_;first|rfl|(simp only [*,zyC,zhv,cT,cF]<;>rfl)|simp_all[Ty.cells,zyC,zhv]
theorem zSA:vN 190 zH8:=kF1 zg4 zA zB zn (zq []) zYs
def zdO (p:Int):Int:=bif zc6 p then scan p else -1
theorem z0y {x:Int}(a:0<=x)(b:x<=255):wcv .u64 x=x:=z4J (P:=fun x=>wcv .u64 x=x) (by decide +kernel) a b
@[simp] abbrev ztI (p:Int):Bool:=true
@[simp] abbrev znF (p:Int):Int:=zdO p
def zE8:Run:=rF1 dI fun b=>(ztI b,[aI (znF b)])
def zLn (N:Nat)(b:Int):OA:=
 (iter (σ:=(Int×(Int×Unit))) N (fun c a=>(cond (ige a.2.1 0) (oN (zfj a.1) (cond (zfi a.1) (oN (ile 0 (wcv .u64 a.2.1)) (cond (ieq (wand .i64 (zFH .i64 a.1 (wcv .u64 a.2.1)) 1) 1) (some [(aI a.2.1)]) (c (a.1,((wsub .i64 a.2.1 1),()))))) (some [(aI (-1))]))) (some [(aI (-1))]))) (b,(7,())))
def zXJ:FuncId->Nat->Option Tmpl:=zq [(297,0,{n:=19,tm:=[(0,ti),(3,ti)],lo:=[],ro:=[]})]
theorem zV8 (a:Int)(C:ztI a=true):∃N,zLn N a=some [aI (znF a)]:=by refine⟨10,?_⟩;unfold zLn oN;cases h:zc6 a;{rw [zdv];refine must rfl ?_;refine must rfl ?_;refine zdy h ?_;simp[zdO,h]};{have c:zfi a=true:=h;rw[zdv];refine must rfl (must rfl (must c (must rfl (br (fun r=>?_) (fun r=>?_)))));{have A:zgA a 7=true:=r;simp[zdO,h,scan,A]};have b:zgA a 7=false:=r;show iter 9 _ (a,6,())=_;rw[zdv];refine must rfl (must rfl (must c (must rfl (br (fun q=>?_) (fun q=>?_)))));{have z:zgA a 6=true:=q;simp[zdO,h,scan,z,b]};have d:zgA a 6=false:=q;show iter 8 _ (a,5,())=_;rw[zdv];refine must rfl (must rfl (must c (must rfl (br (fun p=>?_) (fun p=>?_)))));{have y:zgA a 5=true:=p;simp[zdO,h,scan,y,b,d]};have e:zgA a 5=false:=p;show iter 7 _ (a,4,())=_;rw[zdv];refine must rfl (must rfl (must c (must rfl (br (fun n=>?_) (fun n=>?_)))));{have x:zgA a 4=true:=n;simp[zdO,h,scan,x,b,d,e]};have f:zgA a 4=false:=n;show iter 6 _ (a,3,())=_;rw[zdv];refine must rfl (must rfl (must c (must rfl (br (fun m=>?_) (fun m=>?_)))));{have w:zgA a 3=true:=m;simp[zdO,h,scan,w,b,d,e,f]};have g:zgA a 3=false:=m;show iter 5 _ (a,2,())=_;rw[zdv];refine must rfl (must rfl (must c (must rfl (br (fun l=>?_) (fun l=>?_)))));{have v:zgA a 2=true:=l;simp[zdO,h,scan,v,b,d,e,f,g]};have i:zgA a 2=false:=l;show iter 4 _ (a,1,())=_;rw[zdv];refine must rfl (must rfl (must c (must rfl (br (fun k=>?_) (fun k=>?_)))));{have u:zgA a 1=true:=k;simp[zdO,h,scan,u,b,d,e,f,g,i]};have s:zgA a 1=false:=k;show iter 3 _ (a,0,())=_;rw[zdv];refine must rfl (must rfl (must c (must rfl (br (fun j=>?_) (fun j=>?_)))));{have t:zgA a 0=true:=j;simp[zdO,h,scan,t,b,d,e,f,g,i,s]};have B:zgA a 0=false:=j;show iter 2 _ (a,-1,())=_;rw[zdv];refine zdy rfl ?_;simp[zdO,h,scan,b,d,e,f,g,i,s,B]}
theorem zPl:vN 297 zE8:=kF1 zg4 zA zB zn zXJ zV8
theorem zbL {c:Cur}{i k:Int}(h:zbc c)(a:0<=i):zbc ⟨c.b,i,k⟩:=⟨a,h.2⟩
theorem z0b {c:Cur}(h:zbc c){l:List Int}(a:l≠[]):zbg c l∈l:=(zzA (zdW h a)).2.2 (kR.2 a)
theorem zfC {c:Cur}(h:zbc c){n:Int}(a:0<n):0<=zk c n/\zk c n<n:=(zhq (zbz h n)).2.2 a
theorem zMP {o x:Int}(h:(o=1\/o=2\/o=5\/o=6)/\0<=x/\x<=99\/(o=3\/o=4)/\0<=x/\x<=15\/o=8/\0<=x/\x<=11):zdN ⟨o,x⟩=true:=by have w:∀{a b:Int},a<=x->x<=b->win x a b=true:=fun c d=>(by simp only[win,ige,ile,qD,qX];exact⟨c,d⟩);rcases h with⟨h|h|h|h,c,d⟩|⟨h|h,c,d⟩|⟨h,c,d⟩<;>subst h<;>exact w c d
def zzP (N:Nat)(c:Cur)  : OA :=
 let d:=(zbg c [1,2,3,3,3,4,4,4,5,6,8]);let a:=({ (zU c [1,2,3,3,3,4,4,4,5,6,8]) with b:=c.b}:Cur); (share (oN (zx a 16) (some [(.agg [(.s .u8 c.b),(.i .i64 (zf a 16).i),(.i .i64 (zf a 16).h)]),(.agg [(.i .i64 d),(.i .i64 (zk a 16))])])) (fun f=>(share (cond (ieq d 8) (oN (zx a 4) (some [(.agg [(.s .u8 c.b),(.i .i64 (zf a 4).i),(.i .i64 (zf a 4).h)]),(.agg [(.i .i64 d),(.i .i64 (zk a 4))])])) (oN (zx a 100) (some [(.agg [(.s .u8 c.b),(.i .i64 (zf a 100).i),(.i .i64 (zf a 100).h)]),(.agg [(.i .i64 d),(.i .i64 (zk a 100))])]))) (fun e=>(oN (zbl c [1,2,3,3,3,4,4,4,5,6,8]) (cond (ieq d 3) (cond (ieq d 3) f e) (cond (ieq d 4) f e)))))))
def zrC (c:Cur)(s:Cur)(a:Ins):Prop:=(∃N,zzP N c=some (AV.agg (zbT s)::[aT .ins a]))/\(s.b=c.b/\0<=s.i)/\(zdN a=true)
def zjG (c:Cur)  : Bool:=wC (zrC c)
def zfX (c:Cur)  : Cur:=wS (zrC c)
def zfN (c:Cur)  : Ins:=wV (zrC c)
theorem zNO {c:Cur}(h:zjG c=true):zrC c (zfX c) (zfN c):=wG h
theorem zA0 (c:Cur)  : 0<=(zfX c).i:=wP fun h=>h.2.1.2
theorem z2e (c:Cur)(h:∃N,Ends (wE (fun a=>aT .ins a) c.b fun a=>zdN a=true) (zzP N c)):zjG c=true:=wI (fun _ _ h=>h) h
def zBN:zdn:=rP0 fun c=>(zjG c,zfX c,[aT .ins (zfN c)])
theorem zPr:zbK Tryz.prog 304 [false,true,true] zBN:=hP0 zdI zW zWy zn (zq []) (fun _ h=>(zNO h).1)
theorem zT7 {c:Cur}(h:zbc c):zjG c=true:=by
 refine z2e c ⟨0,?_⟩;have p:([1,2,3,3,3,4,4,4,5,6,8]:List Int)≠[]:=(by simp);have q:=z0b h p;have f:zbc {zU c [1,2,3,3,3,4,4,4,5,6,8] with b:=c.b}:=zbL h (zbJ _ _);have t:=zfC f (n:=16) (by omega);have w:=zfC f (n:=4) (by omega);have m:=zfC f (n:=100) (by omega);unfold zzP oN;conv=>zeta
 generalize zbg c [1,2,3,3,3,4,4,4,5,6,8]=o at q;simp only[qG,qN,or_false]at q;have j:∀{n:Int},ieq o n=false->o≠n:=fun h e=>(by subst e;simp[ieq]at h);have k:∀{n:Int},ieq o n=true->o=n:=fun h=>by simpa [ieq] using h
 have L:∀(n:Int),0<n->(zdN ⟨o,zk {zU c [1,2,3,3,3,4,4,4,5,6,8] with b:=c.b} n⟩=true)->Ends (fun a=>∃s r,a=(AV.agg (zbT s)::[aT .ins r])/\(s.b=c.b/\0<=s.i)/\zdN r=true)
  (cond (zx {zU c [1,2,3,3,3,4,4,4,5,6,8] with b:=c.b} n) (some (AV.agg [.s .u8 c.b,.i .i64 (zf {zU c [1,2,3,3,3,4,4,4,5,6,8] with b:=c.b} n).i,.i .i64 (zf {zU c [1,2,3,3,3,4,4,4,5,6,8] with b:=c.b} n).h]::[.agg [.i .i64 o,.i .i64 (zk {zU c [1,2,3,3,3,4,4,4,5,6,8] with b:=c.b} n)]])) none):=
  fun n x u=>zu (zbz f n) (zbE (aT .ins) (v:=⟨o,zk _ n⟩) (zF _ _) u)
 refine zu (zdW h p) (zbA (fun g=>zbA (fun _=>L 16 (by omega) (zMP ?_)) (fun d=>absurd (k g) (j d))) (fun g=>zbA (fun d=>L 16 (by omega) (zMP ?_)) (fun d=>zbA (fun l=>L 4 (by omega) (zMP ?_)) (fun l=>L 100 (by omega) (zMP ?_)))));{have:=k g;omega};{have:=k d;omega};{have:=k l;omega};{have:=j g;have:=j d;have:=j l;omega}
def z9z:zcL:=[(304,([false,true,true],zBN))]++z9y
theorem zWz:zb3 z9z:=zcq zWy (by
 intro x a;simp only[qG,qN,or_false]at a;rcases a with rfl
 .exact zPr)
theorem zg3 {x y:Int}(a:0<=x)(b:x<=1000000)(c:0<=y)(d:y<=1000000):zM .i64 x y=x+y:=zt5 (by omega) (by omega)
theorem zkL {a:Type}{l:List a}(h:ln l<=1000000):few (ln l)=true:=qJ ⟨by unfold ln;omega,by omega⟩
theorem zhx {a:Type}(l:List a)(x:a):ln (ap l [x])=ln l+1:=by simp[ln,ap]
def zxp (N:Nat)(c:Cur)  : OA :=
 (iter (σ:=(Int×(Int×(Int×(lI×((List Int)×Unit)))))) N (fun j d=>let e:=d.2.2.2.1;let f:=d.2.2.2.2.1;let g:=(⟨f,d.2.1,d.2.2.1⟩:Cur);let a:=({ (zf g 7) with b:=f}:Cur); (oN (zx g 7) (cond (ilt d.1 (zM .i64 2 (zk g 7))) (oN (zjG a) (oN (few (ln (ap e [(zfN a)]))) (j ((zM .i64 d.1 1),((zfX a).i,((zfX a).h,((ap e [(zfN a)]),(f,())))))))) (oN (zcI a 3) (cond (zcT a 3) (oN (few (ln (ap e [(⟨7,0⟩:Ins)]))) (some [(.agg [(.s .u8 f),(.i .i64 (zN a 3).i),(.i .i64 (zN a 3).h)]),(aS .ins (ap e [(⟨7,0⟩:Ins)]))])) (oN (few (ln (ap e [(⟨8,0⟩:Ins)]))) (some [(.agg [(.s .u8 f),(.i .i64 (zN a 3).i),(.i .i64 (zN a 3).h)]),(aS .ins (ap e [(⟨8,0⟩:Ins)]))]))))))) (0,(c.i,(c.h,([],(c.b,()))))))
def zTX:FuncId->Nat->Option Tmpl:=zq [(302,0,{n:=29,tm:=[(0,.lp 0 0),(3,.sl 0 []),(4,ti)],lo:=[(0,[.sl 1 [],ti,ti])],ro:=[(0,.ins,true),(1,.u8,false)]})]
def zpq (c:Cur)(s:Cur)(a:List Ins):Prop:=(∃N,zxp N c=some (AV.agg (zbT s)::[aS .ins a]))/\(s.b=c.b/\0<=s.i)/\(zc7 a=true)
def zgM (c:Cur)  : Bool:=wC (zpq c)
def zY (c:Cur)  : Cur:=wS (zpq c)
def zb1 (c:Cur)  : List Ins:=wV (zpq c)
theorem zrD {c:Cur}(h:zgM c=true):zpq c (zY c) (zb1 c):=wG h
theorem zit (c:Cur)  : 0<=(zY c).i:=wP fun h=>h.2.1.2
theorem zZa (c:Cur)(h:∃N,Ends (wE (fun a=>aS .ins a) c.b fun a=>zc7 a=true) (zxp N c)):zgM c=true:=wI (fun _ _ h=>h) h
def zyV:zdn:=rP0 fun c=>(zgM c,zY c,[aS .ins (zb1 c)])
theorem zMz:zbK Tryz.prog 302 [false,true,true] zyV:=hP0 zdI zW zWz zn zTX (fun _ h=>(zrD h).1)
theorem zEs {c:Cur}(h:zbc c):zgM c=true:=by
 refine zZa c ⟨9,?_⟩;unfold zxp oN;conv=>zeta
 refine zms (fun n s=>s.1+(n:Int)=8/\0<=s.1/\0<=s.2.1/\(∀x∈s.2.2.2.1,zdN x=true)/\ln s.2.2.2.1=s.1/\s.2.2.2.2.1=c.b) ?_ 9 8 _ ⟨rfl,kS 0,h.1,by simp,rfl,rfl⟩ (by omega);rintro n ⟨t,i,k,l,b,u⟩ rec ⟨B,g,v,j,w,z⟩ f;dsimp only at B g v j w z ⊢;subst z;have a:zbc ⟨c.b,i,k⟩:=zbL h v;have d:=zfC a (n:=7) (by omega);have A:=zg3 (x:=2) (by omega) (by omega) d.1 (by omega);have m:zbc {zf ⟨c.b,i,k⟩ 7 with b:=c.b}:=zbL h (zF _ _);have e:∀(y:Ins),zdN y=true->2<=t->zc7 (ap l [y])=true:=(by intro y C D;unfold zc7;rw[zhx,w];have:(ap l [y]).all zdN=true:=(by simp only[ap,List.all_append,kW,List.all_nil,vD,qD];exact⟨qM.2 j,C⟩);rw[this,cT];simp only[win,ige,ile,qD,qX];omega);refine zu (zbz a 7) (zbA (fun p=>?_) (fun p=>?_));{have r:t<zM .i64 2 (zk ⟨c.b,i,k⟩ 7):=qE p;rw[A]at r;refine zu (zT7 m) (zu (zkL (by rw[zhx];omega)) (f (n-1) _ (by omega) ⟨?_,?_,zA0 _,?_,?_,rfl⟩));{show zM .i64 t 1+_=8;rw[zg3 g (by omega) (by omega) (by omega)];omega};{show 0<=zM .i64 t 1;rw[zg3 g (by omega) (by omega) (by omega)];omega};{intro x d;rcases jJ.1 d with d|d;{exact j x d};{rw [qF.1 d];exact(zNO (zT7 m)).2.2}};{show ln (ap l [_])=zM .i64 t 1;rw[zhx,zg3 g (by omega) (by omega) (by omega)];omega}};{have q:¬ t<zM .i64 2 (zk ⟨c.b,i,k⟩ 7):=jU p;rw[A]at q;refine zu (ziN m 3) (zbA (fun _=>zu (zkL (by rw[zhx];omega)) (zbE (aS .ins) (zcj _ _) (e _ rfl (by omega)))) (fun _=>zu (zkL (by rw[zhx];omega)) (zbE (aS .ins) (zcj _ _) (e _ rfl (by omega)))))}
def z9A:zcL:=[(302,([false,true,true],zyV))]++z9z
theorem zWA:zb3 z9A:=zcq zWz (by
 intro x a;simp only[qG,qN,or_false]at a;rcases a with rfl
 .exact zMz)
theorem zXS {f:Type}{c:Cur}(h:zbc c){P:f->Prop}{fc:Cur->Bool}{fs:Cur->Cur}{fv:Cur->f}(C:∀{c:Cur},zbc c->fc c=true)(D:∀c,0<=(fs c).i)(hg:∀{c:Cur},zbc c->P (fv c)){G:Ans->Prop}{R:Cur->List f->Ans}(B:∀s l,s.b=c.b->0<=s.i->1<=l.length->l.length<=2->(∀x∈l,P x)->G (R s l)){F:(Int×Int×Int×List f×List Int×Unit->OA)->Int×Int×Int×List f×List Int×Unit->OA}(A:∀rec t i k l,F rec (t,i,k,l,c.b,())=bif zx ⟨c.b,i,k⟩ 2 then (bif ilt t (zM .i64 1 (zk ⟨c.b,i,k⟩ 2)) then (bif fc { zf ⟨c.b,i,k⟩ 2 with b:=c.b } then (bif few (ln (ap l [fv { zf ⟨c.b,i,k⟩ 2 with b:=c.b }])) then
        rec (zM .i64 t 1,(fs {zf ⟨c.b,i,k⟩ 2 with b:=c.b}).i,(fs {zf ⟨c.b,i,k⟩ 2 with b:=c.b}).h,ap l [fv {zf ⟨c.b,i,k⟩ 2 with b:=c.b}],c.b,()) else none) else none) else some (R ⟨c.b,(zf ⟨c.b,i,k⟩ 2).i,(zf ⟨c.b,i,k⟩ 2).h⟩ l)) else none) :
 Ends G (iter 3 F (0,c.i,c.h,[],c.b,())):=by
 refine zms (fun n s=>s.1+(n:Int)=2/\0<=s.1/\0<=s.2.1/\(∀x∈s.2.2.2.1,P x)/\ln s.2.2.2.1=s.1/\s.2.2.2.2.1=c.b) ?_ 3 2 _ ⟨rfl,kS 0,h.1,by simp,rfl,rfl⟩ (by omega)
 rintro n ⟨t,i,k,l,b,u⟩ rec ⟨z,m,p,g,q,r⟩ e
 dsimp only at z m p g q r
 subst r;rw[A];have a:zbc ⟨c.b,i,k⟩:=zbL h p;have d:=zfC a (n:=2) (by omega)
 have w:=zg3 (x:=1) (by omega) (by omega) d.1 (by omega)
 have v:zbc {zf ⟨c.b,i,k⟩ 2 with b:=c.b}:=zbL h (zF _ _);refine zu (zbz a 2) (zbA (fun j=>?_) (fun j=>?_))
 .have hlt:t<zM .i64 1 (zk ⟨c.b,i,k⟩ 2):=qE j;rw[w]at hlt;have E:=zg3 (y:=1) m (by omega) (by omega) (by omega)
  refine zu (C v) (zu (zkL (by rw[zhx];omega)) (e (n-1) _ (by omega) ⟨?_,?_,D _,?_,?_,rfl⟩))
  .show zM .i64 t 1+_=2
   omega
  .show 0<=zM .i64 t 1
   omega
  .intro x d;rcases jJ.1 d with d|d
   .exact g x d
   .rw [qF.1 d];exact hg v
  .show ln (ap l [_])=zM .i64 t 1
   rw[zhx];omega
 .have hge:¬ t<zM .i64 1 (zk ⟨c.b,i,k⟩ 2):=jU j;rw[w]at hge;unfold ln at q;exact zod (B _ l rfl (zF _ _) (by omega) (by omega) g)
def zug (N:Nat)(c:Cur)  : OA :=
 (iter (σ:=(Int×(Int×(Int×(lP×((List Int)×Unit)))))) N (fun g a=>let f:=a.2.2.2.2.1;let e:=(⟨f,a.2.1,a.2.2.1⟩:Cur);let d:=({ (zf e 2) with b:=f}:Cur); (oN (zx e 2) (cond (ilt a.1 (zM .i64 1 (zk e 2))) (oN (zgM d) (oN (few (ln (ap a.2.2.2.1 [(zb1 d)]))) (g ((zM .i64 a.1 1),((zY d).i,((zY d).h,((ap a.2.2.2.1 [(zb1 d)]),(f,())))))))) (some [(.agg [(.s .u8 f),(.i .i64 (zf e 2).i),(.i .i64 (zf e 2).h)]),(aS (.sl .ins) a.2.2.2.1)])))) (0,(c.i,(c.h,([],(c.b,()))))))
def zQ1:FuncId->Nat->Option Tmpl:=zq [(299,0,{n:=19,tm:=[(0,.lp 0 0),(3,.sl 0 []),(4,ti)],lo:=[(0,[.sl 1 [],ti,ti])],ro:=[(0,(.sl .ins),true),(1,.u8,false)]})]
def zni (c:Cur)(s:Cur)(a:List (List Ins)):Prop:=(∃N,zug N c=some (AV.agg (zbT s)::[aS (.sl .ins) a]))/\(s.b=c.b/\0<=s.i)/\(1<=a.length/\a.length<=2/\∀x∈a,zc7 x=true)
def ziZ (c:Cur)  : Bool:=wC (zni c)
def zi0 (c:Cur)  : Cur:=wS (zni c)
def zpz (c:Cur)  : List (List Ins):=wV (zni c)
theorem zFp {c:Cur}(h:ziZ c=true):zni c (zi0 c) (zpz c):=wG h
theorem zW7 (c:Cur)  : 0<=(zi0 c).i:=wP fun h=>h.2.1.2
theorem zW6 (c:Cur)(h:∃N,Ends (wE (fun a=>aS (.sl .ins) a) c.b fun a=>1<=a.length/\a.length<=2/\∀x∈a,zc7 x=true) (zug N c)):ziZ c=true:=wI (fun _ _ h=>h) h
def zwm:zdn:=rP0 fun c=>(ziZ c,zi0 c,[aS (.sl .ins) (zpz c)])
theorem zJL:zbK Tryz.prog 299 [false,true,true] zwm:=hP0 zdI zW zWA zn zQ1 (fun _ h=>(zFp h).1)
theorem z0d {c:Cur}(h:zbc c):ziZ c=true:=by
 refine zW6 c ⟨3,?_⟩;unfold zug oN;conv=>zeta
 exact zXS h (P:=fun x=>zc7 x=true) (fc:=zgM) (fs:=zY) (fv:=zb1) (R:=fun s l=>AV.agg (zbT s)::[aS (.sl .ins) l]) zEs zit (fun h=>(zrD (zEs h)).2.2) (fun s l d e a b f=>⟨s,l,rfl,⟨d,e⟩,a,b,f⟩) (fun rec t i k l=>rfl)
def z9B:zcL:=[(299,([false,true,true],zwm))]++z9A
theorem zWB:zb3 z9B:=zcq zWA (by
 intro x a;simp only[qG,qN,or_false]at a;rcases a with rfl
 .exact zJL)
def zzV (N:Nat)(c:Cur)  : OA :=
 (iter (σ:=(Int×(Int×(Int×(lQ×((List Int)×Unit)))))) N (fun g a=>let f:=a.2.2.2.2.1;let e:=(⟨f,a.2.1,a.2.2.1⟩:Cur);let d:=({ (zf e 2) with b:=f}:Cur); (oN (zx e 2) (cond (ilt a.1 (zM .i64 1 (zk e 2))) (oN (ziZ d) (oN (few (ln (ap a.2.2.2.1 [(zpz d)]))) (g ((zM .i64 a.1 1),((zi0 d).i,((zi0 d).h,((ap a.2.2.2.1 [(zpz d)]),(f,())))))))) (some [(.agg [(.s .u8 f),(.i .i64 (zf e 2).i),(.i .i64 (zf e 2).h)]),(aS (.sl (.sl .ins)) a.2.2.2.1)])))) (0,(c.i,(c.h,([],(c.b,()))))))
def zXN:FuncId->Nat->Option Tmpl:=zq [(241,0,{n:=19,tm:=[(0,.lp 0 0),(3,.sl 0 []),(4,ti)],lo:=[(0,[.sl 1 [],ti,ti])],ro:=[(0,(.sl (.sl .ins)),true),(1,.u8,false)]})]
def zrJ (c:Cur)(s:Cur)(a:List (List (List Ins))):Prop:=(∃N,zzV N c=some (AV.agg (zbT s)::[aS (.sl (.sl .ins)) a]))/\(s.b=c.b/\0<=s.i)/\(1<=a.length/\a.length<=2/\∀p∈a,1<=p.length/\p.length<=2/\∀x∈p,zc7 x=true)
def zpB (c:Cur)  : Bool:=wC (zrJ c)
def zme (c:Cur)  : Cur:=wS (zrJ c)
def zvp (c:Cur)  : List (List (List Ins)):=wV (zrJ c)
theorem zNR {c:Cur}(h:zpB c=true):zrJ c (zme c) (zvp c):=wG h
theorem z2t (c:Cur)  : 0<=(zme c).i:=wP fun h=>h.2.1.2
theorem z2s (c:Cur)(h:∃N,Ends (wE (fun a=>aS (.sl (.sl .ins)) a) c.b fun a=>1<=a.length/\a.length<=2/\∀p∈a,1<=p.length/\p.length<=2/\∀x∈p,zc7 x=true) (zzV N c)):zpB c=true:=wI (fun _ _ h=>h) h
def zBT:zdn:=rP0 fun c=>(zpB c,zme c,[aS (.sl (.sl .ins)) (zvp c)])
theorem zPx:zbK Tryz.prog 241 [false,true,true] zBT:=hP0 zdI zW zWB zn zXN (fun _ h=>(zNR h).1)
theorem z8g {c:Cur}(h:zbc c):zpB c=true:=by
 refine z2s c ⟨3,?_⟩;unfold zzV oN;conv=>zeta
 exact zXS h (P:=fun p=>1<=p.length/\p.length<=2/\∀x∈p,zc7 x=true) (fc:=ziZ) (fs:=zi0) (fv:=zpz) (R:=fun s l=>AV.agg (zbT s)::[aS (.sl (.sl .ins)) l]) z0d zW7 (fun h=>(zFp (z0d h)).2.2) (fun s l d e a b f=>⟨s,l,rfl,⟨d,e⟩,a,b,f⟩) (fun rec t i k l=>rfl)
def z9C:zcL:=[(241,([false,true,true],zBT))]++z9B
theorem zWC:zb3 z9C:=zcq zWB (by
 intro x a;simp only[qG,qN,or_false]at a;rcases a with rfl
 .exact zPx)
theorem zFR {c:Type}{G:c->Prop}{x:Bool}{a b:Option c}(k:Ends G a)(h:x=true:=by first
 |exact zbz (by first|assumption|exact zbL (by assumption) (zF _ _)|exact zbL (by assumption) (zcj _ _)|exact zbL (by assumption) (zbJ _ _)) _
 |exact ziN (by first|assumption|exact zbL (by assumption) (zF _ _)|exact zbL (by assumption) (zcj _ _)) _
 |exact zdW (by first|assumption|exact zbL (by assumption) (zF _ _)) (by simp)):Ends G (cond x a b):=zu h k
def zzR (N:Nat)(c:Cur)  : OA :=
 let f:=(zk c 4);let j:=({ (zf c 4) with b:=c.b}:Cur);let e:=(zcT j 4);let d:=(zN j 4);let a:=({d with b:=c.b}:Cur);let g:=({ (zN a 2) with b:=c.b}:Cur); (oN (zx c 4) (oN (zcI j 4) (cond (nB e) (cond (ine f 2) (oN (zcI a 2) (cond (zcT a 2) (oN (zx g 256) (some [(.agg [(.s .u8 c.b),(.i .i64 (zf g 256).i),(.i .i64 (zf g 256).h)]),(.agg [(.i .i64 f),(.i .i64 (zk g 256)),(.b (nB e))])])) (some [(.agg [(.s .u8 c.b),(.i .i64 (zN a 2).i),(.i .i64 (zN a 2).h)]),(.agg [(.i .i64 f),(.i .i64 0),(.b (nB e))])]))) (some [(.agg [(.s .u8 c.b),(.i .i64 d.i),(.i .i64 d.h)]),(.agg [(.i .i64 f),(.i .i64 0),(.b (nB e))])])) (some [(.agg [(.s .u8 c.b),(.i .i64 d.i),(.i .i64 d.h)]),(.agg [(.i .i64 f),(.i .i64 0),(.b (nB e))])]))))
def zrF (c:Cur)(s:Cur)(a:Ctl):Prop:=(∃N,zzR N c=some (AV.agg (zbT s)::[.agg (zob a)]))/\(s.b=c.b/\0<=s.i)/\(True)
def zjH (c:Cur)  : Bool:=wC (zrF c)
def zcf (c:Cur)  : Cur:=wS (zrF c)
def zcy (c:Cur)  : Ctl:=wV (zrF c)
theorem z2i {c:Cur}(h:zjH c=true):zrF c (zcf c) (zcy c):=wG h
theorem zA2 (c:Cur)  : 0<=(zcf c).i:=wP fun h=>h.2.1.2
theorem z2j (c:Cur)(h:∃N,Ends (wE (fun a=>.agg (zob a)) c.b fun a=>True) (zzR N c)):zjH c=true:=wI (fun _ _ h=>h) h
def zBP:zdn:=rP0 fun c=>(zjH c,zcf c,[.agg (zob (zcy c))])
theorem zPt:zbK Tryz.prog 189 [false,true,true] zBP:=hP0 zdI zW zWC zn (zq []) (fun _ h=>(z2i h).1)
theorem z0T {c:Cur}(h:zbc c):zjH c=true:=by
 refine z2j c ⟨0,?_⟩;unfold zzR oN nB;conv=>zeta
 refine zFR (zFR (zbA (fun _=>zbA (fun _=>zFR (zbA (fun _=>zFR (?_)) (fun _=>?_))) (fun _=>?_)) (fun _=>?_)));all_goals exact zbE (fun x=>AV.agg (zob x)) (v:=⟨_,_,_⟩) (by first|exact zF _ _|exact zcj _ _) trivial
def z9D:zcL:=[(189,([false,true,true],zBP))]++z9C
theorem zKf:zb3 z9D:=zcq zWC (by
 intro x a;simp only[qG,qN,or_false]at a;rcases a with rfl
 .exact zPt)
theorem zdQ {c:Type}{G:c->Prop}{x:Bool}{a b:Option c}(k:Ends G a)(h:x=true:=by first
 |exact zbz (by first|assumption|exact zbL (by assumption) (zF _ _)|exact zbL (by assumption) (zbJ _ _)) _
 |exact zdW (by first|assumption|exact zbL (by assumption) (zF _ _)) (by simp)
 |exact z0T (zbL (by assumption) (zF _ _))):Ends G (cond x a b):=zu h k
def zzY (N:Nat)(c:Cur)  : OA :=
 let m:=({ (zf c 2) with b:=c.b}:Cur);let g:=(zk c 2);let f:=(zk m 2);let u:=({ (zf m 2) with b:=c.b}:Cur);let e:=(zf u 24);let d:=(zk u 24);let a:=({e with b:=c.b}:Cur);let j:=(zf a 8);let l:=({ (zf a 4) with b:=c.b}:Cur);let k:=({j with b:=c.b}:Cur);let t:=({ (zf a 16) with b:=c.b}:Cur);let r:=({ (zU a [16,17]) with b:=c.b}:Cur);let q:=({ (zU a [13,13,14,15]) with b:=c.b}:Cur);let p:=({ (zf k 4) with b:=c.b}:Cur);let n:=({ (zf l 8) with b:=c.b}:Cur); (share (oN (zbl a [13,13,14,15]) (oN (zx q 8) (some [(.agg [(.s .u8 c.b),(.i .i64 (zf q 8).i),(.i .i64 (zf q 8).h)]),(.agg [(.i .i64 (zbg a [13,13,14,15])),(.i .i64 g),(.i .i64 f),(.i .i64 (zk q 8)),(.i .i64 0),(.i .i64 0)])]))) (fun A=>(share (cond (ieq d 16) (oN (zbl a [16,17]) (oN (zx r 4) (some [(.agg [(.s .u8 c.b),(.i .i64 (zf r 4).i),(.i .i64 (zf r 4).h)]),(.agg [(.i .i64 (zbg a [16,17])),(.i .i64 g),(.i .i64 f),(.i .i64 (zk r 4)),(.i .i64 0),(.i .i64 0)])]))) (some [(.agg [(.s .u8 c.b),(.i .i64 e.i),(.i .i64 e.h)]),(.agg [(.i .i64 1),(.i .i64 g),(.i .i64 f),(.i .i64 0),(.i .i64 0),(.i .i64 0)])])) (fun z=>(share (oN (zx a 4) (oN (zx l 8) (oN (zbl n [3,3,1,2]) (some [(.agg [(.s .u8 c.b),(.i .i64 (zU n [3,3,1,2]).i),(.i .i64 (zU n [3,3,1,2]).h)]),(.agg [(.i .i64 2),(.i .i64 g),(.i .i64 f),(.i .i64 (zk a 4)),(.i .i64 (zk l 8)),(.i .i64 (zbg n [3,3,1,2]))])])))) (fun y=>(share (oN (zx a 4) (some [(.agg [(.s .u8 c.b),(.i .i64 (zf a 4).i),(.i .i64 (zf a 4).h)]),(.agg [(.i .i64 3),(.i .i64 g),(.i .i64 f),(.i .i64 (zk a 4)),(.i .i64 0),(.i .i64 0)])])) (fun x=>(share (cond (ieq d 7) (oN (zx a 8) (some [(.agg [(.s .u8 c.b),(.i .i64 j.i),(.i .i64 j.h)]),(.agg [(.i .i64 6),(.i .i64 g),(.i .i64 f),(.i .i64 (zk a 8)),(.i .i64 0),(.i .i64 0)])])) (cond (ieq d 8) (oN (zjH a) (cond ((zcy a).Open) (some [(.agg [(.s .u8 c.b),(.i .i64 (zcf a).i),(.i .i64 (zcf a).h)]),(.agg [(.i .i64 7),(.i .i64 g),(.i .i64 f),(.i .i64 (zcy a).Traps),(.i .i64 (zcy a).Post),(.i .i64 1)])]) (some [(.agg [(.s .u8 c.b),(.i .i64 (zcf a).i),(.i .i64 (zcf a).h)]),(.agg [(.i .i64 7),(.i .i64 g),(.i .i64 f),(.i .i64 (zcy a).Traps),(.i .i64 (zcy a).Post),(.i .i64 0)])]))) (cond (ieq d 9) (oN (zx a 8) (oN (zx k 4) (oN (zx p 100) (some [(.agg [(.s .u8 c.b),(.i .i64 (zf p 100).i),(.i .i64 (zf p 100).h)]),(.agg [(.i .i64 8),(.i .i64 g),(.i .i64 f),(.i .i64 (zk a 8)),(.i .i64 (zk k 4)),(.i .i64 (zk p 100))])])))) (cond (ieq d 10) (oN (zx a 8) (some [(.agg [(.s .u8 c.b),(.i .i64 j.i),(.i .i64 j.h)]),(.agg [(.i .i64 9),(.i .i64 g),(.i .i64 f),(.i .i64 (zk a 8)),(.i .i64 0),(.i .i64 0)])])) (cond (ieq d 11) (some [(.agg [(.s .u8 c.b),(.i .i64 e.i),(.i .i64 e.h)]),(.agg [(.i .i64 10),(.i .i64 g),(.i .i64 f),(.i .i64 0),(.i .i64 0),(.i .i64 0)])]) (cond (ieq d 12) (oN (zx a 16) (oN (zx t 100) (some [(.agg [(.s .u8 c.b),(.i .i64 (zf t 100).i),(.i .i64 (zf t 100).h)]),(.agg [(.i .i64 11),(.i .i64 g),(.i .i64 f),(.i .i64 (zk a 16)),(.i .i64 (zk t 100)),(.i .i64 0)])]))) (cond (ieq d 13) (oN (zx a 16) (some [(.agg [(.s .u8 c.b),(.i .i64 (zf a 16).i),(.i .i64 (zf a 16).h)]),(.agg [(.i .i64 12),(.i .i64 g),(.i .i64 f),(.i .i64 (zk a 16)),(.i .i64 0),(.i .i64 0)])])) (cond (ieq d 14) (cond (ieq d 14) A z) (cond (ieq d 15) A z))))))))) (fun v=>(share (cond (ieq d 4) (oN (zx a 100) (some [(.agg [(.s .u8 c.b),(.i .i64 (zf a 100).i),(.i .i64 (zf a 100).h)]),(.agg [(.i .i64 4),(.i .i64 g),(.i .i64 f),(.i .i64 (zk a 100)),(.i .i64 0),(.i .i64 0)])])) (cond (ieq d 5) (cond (ieq d 5) (some [(.agg [(.s .u8 c.b),(.i .i64 e.i),(.i .i64 e.h)]),(.agg [(.i .i64 5),(.i .i64 g),(.i .i64 f),(.i .i64 0),(.i .i64 0),(.i .i64 0)])]) v) (cond (ieq d 6) (some [(.agg [(.s .u8 c.b),(.i .i64 e.i),(.i .i64 e.h)]),(.agg [(.i .i64 5),(.i .i64 g),(.i .i64 f),(.i .i64 0),(.i .i64 0),(.i .i64 0)])]) v))) (fun w=>(share (cond (ieq d 2) (cond (ieq d 2) x w) (cond (ieq d 3) x w)) (fun B=>(oN (zx c 2) (oN (zx m 2) (oN (zx u 24) (cond (ieq d 0) (cond (ieq d 0) y B) (cond (ieq d 1) y B)))))))))))))))))))
def zrL (c:Cur)(s:Cur)(a:GAct):Prop:=(∃N,zzY N c=some (AV.agg (zbT s)::[aT .act a]))/\(s.b=c.b/\0<=s.i)/\(True)
def zjI (c:Cur)  : Bool:=wC (zrL c)
def zgG (c:Cur)  : Cur:=wS (zrL c)
def zqH (c:Cur)  : GAct:=wV (zrL c)
theorem z2v {c:Cur}(h:zjI c=true):zrL c (zgG c) (zqH c):=wG h
theorem z2x (c:Cur)  : 0<=(zgG c).i:=wP fun h=>h.2.1.2
theorem z2w (c:Cur)(h:∃N,Ends (wE (fun a=>aT .act a) c.b fun a=>True) (zzY N c)):zjI c=true:=wI (fun _ _ h=>h) h
def zBV:zdn:=rP0 fun c=>(zjI c,zgG c,[aT .act (zqH c)])
theorem zPC:zbK Tryz.prog 301 [false,true,true] zBV:=hP0 zdI zW zKf zn (zq []) (fun _ h=>(z2v h).1)
theorem zbcI {c:Cur}(h:zbc c):zjI c=true:=by
 refine z2w c ⟨0,?_⟩;unfold zzY oN;conv=>zeta
 refine znm (zdQ (zdQ (?_))) (fun _ g=>znm (zbA (fun _=>zdQ (zdQ (?_))) (fun _=>?_)) (fun _ f=>znm (zdQ (zdQ (zdQ (?_)))) (fun _ e=>znm (zdQ (?_)) (fun _ d=>znm (zbA (fun _=>zdQ (?_)) (fun _=>zbA (fun _=>zdQ (zbA (fun _=>?_) (fun _=>?_))) (fun _=>zbA (fun _=>zdQ (zdQ (zdQ (?_)))) (fun _=>zbA (fun _=>zdQ (?_)) (fun _=>zbA (fun _=>?_) (fun _=>zbA (fun _=>zdQ (zdQ (?_))) (fun _=>zbA (fun _=>zdQ (?_)) (fun _=>zbA (fun _=>zbA (fun _=>g) (fun _=>f)) (fun _=>zbA (fun _=>g) (fun _=>f)))))))))) (fun _ a=>znm (zbA (fun _=>zdQ (?_)) (fun _=>zbA (fun _=>zbA (fun _=>?_) (fun _=>a)) (fun _=>zbA (fun _=>?_) (fun _=>a)))) (fun _ b=>znm (zbA (fun _=>zbA (fun _=>d) (fun _=>b)) (fun _=>zbA (fun _=>d) (fun _=>b))) (fun _ i=>zdQ (zdQ (zdQ (zbA (fun _=>zbA (fun _=>e) (fun _=>i)) (fun _=>zbA (fun _=>e) (fun _=>i))))))))))));all_goals exact zbE (aT .act) (v:=⟨_,_,_,_,_,_⟩) (by first|exact zF _ _|exact zbJ _ _|exact zA2 _) trivial
def zkB (N:Nat)  : OA :=
 (iter (σ:=(Int×(lA×Unit))) N (fun e c=>(cond (ilt c.1 2) (iter (σ:=(Int×(Int×(lA×Unit)))) N (fun f b=>(cond (ilt b.2.1 2) (iter (σ:=(Int×(Int×(Int×(lA×Unit))))) N (fun g a=>let d:=(ap a.2.2.2.1 [(⟨2,a.1,a.2.1,a.2.2.1,(zM .i64 a.2.2.1 (zmn .i64 3 a.2.1)),3⟩:GAct),(⟨3,a.1,a.2.1,a.2.2.1,0,0⟩:GAct)]); (cond (ilt a.2.2.1 3) (oN (few (ln d)) (g (a.1,(a.2.1,((zM .i64 a.2.2.1 1),(d,())))))) (f (a.1,((zM .i64 a.2.1 1),(a.2.2.2.1,())))))) (b.1,(b.2.1,(0,(b.2.2.1,()))))) (e ((zM .i64 b.1 1),(b.2.2.1,()))))) (c.1,(0,(c.2.1,())))) (some [(aS .act c.2.1)]))) (0,([],())))
def zQ2:FuncId->Nat->Option Tmpl:=zq [(300,0,{n:=34,tm:=[(1,.sl 0 []),(2,ti)],lo:=[],ro:=[(0,.act,true)]}),(300,2,{n:=34,tm:=[(1,.sl 0 []),(2,ti),(3,ti)],lo:=[],ro:=[(0,.act,true)]}),(300,4,{n:=34,tm:=[(1,.sl 0 []),(2,ti),(3,ti),(4,ti)],lo:=[],ro:=[(0,.act,true)]})]
def zsY  (a:List GAct):Prop:=(∃N,zkB N=some [aS .act a])/\(a.length<=45)
def zi2  : Bool:=uC (T:=List GAct) (fun r=>zsY r)
def zXa  : List GAct:=uV (fun r=>zsY r)
def ztP  : List GAct:=(zXa)
theorem zFs  (h:zi2=true):zsY ztP:=uG h
theorem zW9  (h:∃N,Ends (fun a=>∃b,a=[aS .act b]/\(b.length<=45)) (zkB N)):zi2=true:=by obtain⟨N,a,e,b,rfl,h⟩:=h;exact zbh ⟨b,⟨N,e⟩,h⟩
def zzs:Run:=rF0 (zi2,[aS .act ztP])
theorem zQi  (a:zi2=true):∃N,zkB N  = some [aS .act ztP]:=by exact(zFs a).1
theorem zJN:vN 300 zzs:=kF0 zdI zW zKf zn zQ2 zQi
def z3f:List GAct:=match zkB 10 with
 |some [.one (.s .act l)]=>l
 |_=>[]
theorem zZG:zi2=true:=zW9 ⟨10,_,(by kernel_rfl:zkB 10=some [aS .act z3f]),z3f,rfl,Nat.le_of_ble_eq_true (by kernel_rfl)⟩
def z9E:zcL:=[(301,([false,true,true],zBV))]++z9D
theorem zWD:zb3 z9E:=zcq zKf (by
 intro x a;simp only[qG,qN,or_false]at a;rcases a with rfl
 .exact zPC)
def zbbZ:zba:=[(300,zzs)]++zOA
theorem z3i:zK zbbZ:=zh zJN zdI
theorem zR2 {c:Cur}(h:zbc c){m:Int}(e:0<=m)(J:m<=1000){G:Ans->Prop}{R:Cur->List GAct->Ans}(D:∀s l,s.b=c.b->0<=s.i->ln l<=45+m->G (R s l)){F:(Int×Int×Int×Int×List GAct×List Int×Unit->OA)->Int×Int×Int×Int×List GAct×List Int×Unit->OA}(C:∀rec t i k l,F rec (m,t,i,k,l,c.b,())=bif zx ⟨c.b,i,k⟩ (zM .i64 m 1) then (bif ilt t (zk ⟨c.b,i,k⟩ (zM .i64 m 1)) then (bif zjI { zf ⟨c.b,i,k⟩ (zM .i64 m 1) with b:=c.b } then (bif few (ln (ap l [zqH { zf ⟨c.b,i,k⟩ (zM .i64 m 1) with b:=c.b }])) then
        rec (m,zM .i64 t 1,(zgG {zf ⟨c.b,i,k⟩ (zM .i64 m 1) with b:=c.b}).i,(zgG {zf ⟨c.b,i,k⟩ (zM .i64 m 1) with b:=c.b}).h,ap l [zqH {zf ⟨c.b,i,k⟩ (zM .i64 m 1) with b:=c.b}],c.b,()) else none) else none) else some (R ⟨c.b,(zf ⟨c.b,i,k⟩ (zM .i64 m 1)).i,(zf ⟨c.b,i,k⟩ (zM .i64 m 1)).h⟩ l)) else none){w I:Int}(f:0<=w){g:List GAct}(E:g.length<=45):Ends G (iter 1002 F (m,0,w,I,g,c.b,())):=by
 refine zms (fun n s=>s.1=m/\s.2.1+(n:Int)=1000/\0<=s.2.1/\0<=s.2.2.1/\(ln s.2.2.2.2.1<=45+s.2.1/\s.2.1<=m)/\s.2.2.2.2.2.1=c.b) ?_ 1002 1000 _ ⟨rfl,rfl,kS 0,f,⟨by unfold ln;show ((g.length:Nat):Int)<=45+0;omega,e⟩,rfl⟩ (by omega)
 rintro n ⟨q,t,i,k,l,b,u⟩ rec ⟨e,z,j,p,⟨A,H⟩,r⟩ d
 dsimp only at e z j p A r H
 subst r;subst e;rw[C];have a:zbc ⟨c.b,i,k⟩:=zbL h p;have L:=zg3 (x:=q) (y:=1) (by omega) (by omega) (by omega) (by omega)
 have M:=zfC a (n:=zM .i64 q 1) (by omega)
 have B:zbc {zf ⟨c.b,i,k⟩ (zM .i64 q 1) with b:=c.b}:=zbL h (zF _ _);refine zu (zbz a _) (zbA (fun v=>?_) (fun v=>?_))
 .have hlt:t<zk ⟨c.b,i,k⟩ (zM .i64 q 1):=qE v;have K:=zg3 (y:=1) j (by omega) (by omega) (by omega)
  refine zu (zbcI B) (zu (zkL (by rw[zhx];omega)) (d (n-1) _ (by omega) ⟨rfl,?_,?_,z2x _,⟨?_,?_⟩,rfl⟩))
  .show zM .i64 t 1+_=1000
   omega
  .show 0<=zM .i64 t 1
   omega
  .show ln (ap l [_])<=45+zM .i64 t 1
   rw[zhx];omega
  .show zM .i64 t 1<=q
   omega
 .refine zod (D _ l rfl (zF _ _) ?_);omega
def zxw (N:Nat)(c:Cur)(p:Int):OA:=
 (oN (zcI c 5) (cond (nB (zcT c 5)) (oN zi2 (iter (σ:=(Int×(Int×(Int×(Int×(lA×((List Int)×Unit))))))) N (fun n a=>let l:=a.2.2.2.2.2.1;let f:=(zM .i64 a.1 1);let d:=(⟨l,a.2.2.1,a.2.2.2.1⟩:Cur);let j:=({ (zf d f) with b:=l}:Cur);let q:=(ap a.2.2.2.2.1 [(zqH j)]); (oN (zx d f) (cond (ilt a.2.1 (zk d f)) (oN (zjI j) (oN (few (ln q)) (n (a.1,((zM .i64 a.2.1 1),((zgG j).i,((zgG j).h,(q,(l,()))))))))) (some [(.agg [(.s .u8 l),(.i .i64 (zf d f).i),(.i .i64 (zf d f).h)]),(aS .act a.2.2.2.2.1)])))) (p,(0,((zN c 5).i,((zN c 5).h,(ztP,(c.b,())))))))) (iter (σ:=(Int×(Int×(Int×(Int×(lA×((List Int)×Unit))))))) N (fun n a=>let m:=a.2.2.2.2.2.1;let g:=(zM .i64 a.1 1);let e:=(⟨m,a.2.2.1,a.2.2.2.1⟩:Cur);let k:=({ (zf e g) with b:=m}:Cur);let r:=(ap a.2.2.2.2.1 [(zqH k)]); (oN (zx e g) (cond (ilt a.2.1 (zk e g)) (oN (zjI k) (oN (few (ln r)) (n (a.1,((zM .i64 a.2.1 1),((zgG k).i,((zgG k).h,(r,(m,()))))))))) (some [(.agg [(.s .u8 m),(.i .i64 (zf e g).i),(.i .i64 (zf e g).h)]),(aS .act a.2.2.2.2.1)])))) (p,(0,((zN c 5).i,((zN c 5).h,([],(c.b,())))))))))
def zT0:FuncId->Nat->Option Tmpl:=zq [(242,0,{n:=26,tm:=[(0,.lp 0 0),(1,ti),(5,.sl 0 []),(6,ti)],lo:=[(0,[.sl 1 [],ti,ti])],ro:=[(0,.act,true),(1,.u8,false)]})]
def zpE (c:Cur)(a:Int)(s:Cur)(d:List GAct):Prop:=(∃N,zxw N c a=some (AV.agg (zbT s)::[aS .act d]))/\(s.b=c.b/\0<=s.i)/\(ln d<=45+a)
def zmY (c:Cur)(a:Int):Bool:=wC (zpE c a)
def zmZ (c:Cur)(a:Int):Cur:=wS (zpE c a)
def zsl (c:Cur)(a:Int):List GAct:=wV (zpE c a)
theorem zIx {c:Cur}{a:Int}(h:zmY c a=true):zpE c a (zmZ c a) (zsl c a):=wG h
theorem zZk (c:Cur)(a:Int):0<=(zmZ c a).i:=wP fun h=>h.2.1.2
theorem zZj (c:Cur)(a:Int)(h:∃N,Ends (wE (fun d=>aS .act d) c.b fun d=>ln d<=45+a) (zxw N c a)):zmY c a=true:=wI (fun _ _ h=>h) h
def zy0:zdn:=rP1 dI fun c b=>(zmY c b,zmZ c b,[aS .act (zsl c b)])
theorem zMN:zbK Tryz.prog 242 [false,true,true] zy0:=hP1 z3i zW zWD zn zT0 (fun _ _ h=>(zIx h).1)
theorem z2W {c:Cur}(h:zbc c){m:Int}(e:0<=m)(f:m<=1000):zmY c m=true:=by
 refine zZj c m ⟨1002,?_⟩;unfold zxw oN nB;conv=>zeta
 have g:=zFs zZG;exact zu (ziN h 5) (zbA (fun _=>zu zZG (zR2 h e f (R:=fun s l=>AV.agg (zbT s)::[aS .act l]) (fun s l a b d=>⟨s,l,rfl,⟨a,b⟩,d⟩) (fun rec t i k l=>rfl) (zcj _ _) g.2)) (fun _=>zR2 h e f (R:=fun s l=>AV.agg (zbT s)::[aS .act l]) (fun s l a b d=>⟨s,l,rfl,⟨a,b⟩,d⟩) (fun rec t i k l=>rfl) (zcj _ _) (j5 _)))
def z9F:zcL:=[(242,([false,true,true],zy0))]++z9E
theorem zWE:zb3 z9F:=zcq zWD (by
 intro x a;simp only[qG,qN,or_false]at a;rcases a with rfl
 .exact zMN)
@[simp] abbrev zfS (l:List (List Int)):Bool:=pc (SmM l)
@[simp] abbrev zdu (l:List (List Int)):List (List Int):=l
def zBZ:Run:=rF1 (dS (.sl .int)) fun b=>(zfS b,[aS (.sl .int) (zdu b)])
def zHd (N:Nat)(c:lM):OA:=
 (iter (σ:=(Int×(Int×(lM×(lM×Unit))))) N (fun d a=>let b:=(ix a.2.2.2.1 a.2.1 []); (cond (ilt a.2.1 a.1) (oN (inb a.2.1 (ln a.2.2.2.1)) (oN (zdC b) (oN (few (ln (ap a.2.2.1 [(zdx b)]))) (d (a.1,((zM .i64 a.2.1 1),((ap a.2.2.1 [(zdx b)]),(a.2.2.2.1,())))))))) (some [(aS (.sl .int) a.2.2.1)]))) ((ln c),(0,([],(c,())))))
def zTR:FuncId->Nat->Option Tmpl:=zq [(211,0,{n:=20,tm:=[(3,.sl 0 []),(7,.sl 1 []),(8,ti),(9,ti)],lo:=[],ro:=[(0,(.sl .int),true),(1,(.sl .int),false)]})]
theorem zS3 (a:List (List Int))(g:zfS a=true):∃N,zHd N a=some [aS (.sl .int) (zdu a)]:=by
 have f:=zL.1 g;have e:=zc3 f.1;refine zcz fun N d=>?_;unfold zHd oN;conv=>zeta
 refine(zbo a (fun i (t:lM)=>((ln a),(i:Int),t,a,())) _ (fun _ x b j=>bif zdC x then (cond (few (ln (ap b [zdx x]))) (j (ap b [zdx x])) none) else none) (fun (t:lM)=>(some [(.one (.s (.sl .int) t))])) (fun i c t rec=>?_) (fun t rec=>?_) _ ([]) (d e.1)).trans ?_;{simp only [zbD c,zbf c,zbp c,zbi c e.1,cT]};{simp only [zbt,cF]};exact zjg zdC zdx _ a 0 [] (fun x h=>⟨by exact zbh (qU (f.2 x h) (by decide)),rfl⟩) (by simpa using e.2)
theorem zL9:vN 211 zBZ:=kF1 zg4 zA zB zn zTR zS3
@[simp] abbrev zgo (g:Guest):Bool:=pc (SmG g)
@[simp] abbrev zes (g:Guest):Guest:=g
def zwu:Run:=rF1 (dT .guest) fun b=>(zgo b,[aT .guest (zes b)])
def zBq (N:Nat)(a:Guest):OA:=
 (oN (zuJ a.Prog) (oN (zfu a.Written) (oN (zfu a.Live) (oN (zdC a.Seen) (some [(aT .guest ({a with Prog:=(zoq a.Prog),Written:=(zdR a.Written),Live:=(zdR a.Live),Seen:=(zdx a.Seen)}:Guest))])))))
theorem zMZ (a:Guest)(b:zgo a=true):∃N,zBq N a=some [aT .guest (zes a)]:=by have c:=zL.1 b;obtain⟨h,i,j,k⟩:=c;have d:a.Prog.length<=2147483648:=(by omega);have e:a.Written.length<=2147483648:=(by omega);have f:a.Live.length<=2147483648:=(by omega);have g:a.Seen.length<=2147483648:=(by omega);refine⟨0,?_⟩;unfold zBq oN;refine mu (mu (mu (mu ?_)));first|rfl|(simp only [*,zes,cT,cF]<;>rfl)|simp_all[Ty.cells,zes]
theorem zGn:vN 256 zwu:=kF1 zg4 zA zB zn (zq []) zMZ
def zfn (t:List Slot)(p n:Int):Bool:=bif ieq (zbv t p).Page (-1) then false else (cond (enough (zbv t p).Rights n) (win n 1 3) false)
def zcE (t:List Slot)(p n:Int):Int:=bif zfn t p n then (zbv t p).Page else -1
theorem z7A {r:Int}(h:zcY r=true):0<=r/\r<=3:=zfP.1 h
theorem z1a {a n:Int}(h:enough a n=true):win n 1 3 = !ieq n 0:=by unfold enough at h;cases b:zcY a;{rw [b]at h;cases h};{cases c:zcY n;{rw [b,c]at h;cases h};{have:=z7A c;have e:(win n 1 3=true)↔(!ieq n 0)=true:=(by rw[zfP];simp[ieq];omega);cases d:win n 1 3<;>cases f:(!ieq n 0)<;>simp_all}}
@[simp] abbrev zsX (t:List Slot)(p n:Int):Bool:=true
@[simp] abbrev zjX (t:List Slot)(p n:Int):Int:=zcE t p n
@[simp] abbrev zjY (t:List Slot)(p n:Int):Bool:=zfn t p n
def zwG:Run:=rF3 (dS .slot) dI dI fun b c d=>(zsX b c d,[aI (zjX b c d),aB (zjY b c d)])
def zBF (N:Nat)(c:lS)(d b:Int):OA:=
 let a:=(zhp c d); (oN (zjC c d) (cond (ieq a.Page (-1)) (some [(aI (-1)),(aB false)]) (oN (zgC a.Rights b) (cond (nB (zho a.Rights b)) (some [(aI (-1)),(aB false)]) (cond (ieq b 0) (some [(aI (-1)),(aB false)]) (some [(aI a.Page),(aB true)]))))))
theorem zNf (a:List Slot)(b c:Int)(d:zsX a b c=true):∃N,zBF N a b c=some [aI (zjX a b c),aB (zjY a b c)]:=by
 have e:=@z1a (zbv a b).Rights c;refine⟨0,?_⟩;unfold zBF oN nB;conv=>zeta
 refine must rfl (br (fun _=>?_) (fun _=>must rfl (brN (fun _=>?_) (fun _=>br (fun _=>?_) (fun _=>?_)))));all_goals first|rfl|(simp only [*,zjX,zjY,zcE,zfn,cT,cF]<;>rfl)|simp_all[Ty.cells,zjX,zjY,zcE,zfn]
theorem zGz:vN 221 zwG:=kF3 zg4 zA zB zn (zq []) zNf
def z9b:zba:=[(211,zBZ),(256,zwu),(221,zwG),(226,zIk),(252,zIa),(319,zE4),(311,zEI),(192,zIg),(190,zH8),(297,zE8)]++z9a
theorem zkI:zK z9b:=zh zL9 (zh zGn (zh zGz (zh zSN (zh zSC (zh zPh (zh zOW (zh zSJ (zh zSA (zh zPl zg4)))))))))
@[simp] abbrev ziV (m:List (List Int))(p c v:Int):Bool:=pc (SmM m)
@[simp] abbrev zjD (m:List (List Int))(p c v:Int):List (List Int):=zbC m p c v
def zzp:Run:=rF4 (dS (.sl .int)) dI dI dI fun b c d e=>(ziV b c d e,[aS (.sl .int) (zjD b c d e)])
def zDm (N:Nat)(c:lM)(a d e:Int):OA:=
 let b:=(zen c); (oN (zfV c) (oN (ztK c a d) (cond (zqF c a d) (oN (zO e 0 99) (cond (zS e 0 99) (oN (inb a (ln b)) (oN (inb d (ln (ix b a []))) (share (up b a (up (ix b a []) d e)) (fun f=>(some [(aS (.sl .int) f)]))))) (some [(aS (.sl .int) b)]))) (some [(aS (.sl .int) b)]))))
theorem zQf (a:List (List Int))(b c d:Int)(e:ziV a b c d=true):∃N,zDm N a b c d=some [aS (.sl .int) (zjD a b c d)]:=by
 have g:=zL.1 e;have f:=(zoy a b c).1;refine⟨0,?_⟩;unfold zDm oN;conv=>zeta
 refine mu (must rfl (br (fun _=>must rfl (br (fun _=>mu (mu (shr ?_))) (fun _=>?_))) (fun _=>?_)));all_goals first|rfl|(simp only [*,zjD,zbC,cT,cF]<;>rfl)|simp_all[Ty.cells,zjD,zbC]
theorem zJD:vN 116 zzp:=kF4 zkI zA zB zn (zq []) zQf
@[simp] abbrev zkT (m:List (List Int))(p c v:Int):Bool:=pc (SmM m)
@[simp] abbrev zjq (m:List (List Int))(p c v:Int):List (List Int):=zbC m p c v
def zy4:Run:=rF4 (dS (.sl .int)) dI dI dI fun b c d e=>(zkT b c d e,[aS (.sl .int) (zjq b c d e)])
def zCU (N:Nat)(a:lM)(b c d:Int):OA:=
 let e:=(aS (.sl .int) (zdu a)); (oN (zfS a) (oN (zdh b (ln a)) (cond (zdG b (ln a)) (oN (inb b (ln a)) (oN (zdh c (ln (ix a b []))) (cond (zdG c (ln (ix a b []))) (oN (zb0 d 0 99) (cond (zcp d 0 99) (oN (inb b (ln (zdu a))) (oN (inb c (ln (ix (zdu a) b []))) (share (up (zdu a) b (up (ix (zdu a) b []) c d)) (fun f=>(some [(aS (.sl .int) f)]))))) (some [e]))) (some [e])))) (some [e]))))
theorem zPM (a:List (List Int))(b c d:Int)(e:zkT a b c d=true):∃N,zCU N a b c d=some [aS (.sl .int) (zjq a b c d)]:=by
 have f:=zL.1 e;refine⟨0,?_⟩;unfold zCU oN;conv=>zeta
 refine mu (must rfl (br (fun _=>mu (must rfl (br (fun _=>must rfl (br (fun _=>mu (mu (shr ?_))) (fun _=>?_))) (fun _=>?_)))) (fun _=>?_)));all_goals first|rfl|(simp only [*,zjq,zbC,zgs,cT,cF]<;>rfl)|simp_all[Ty.cells,zjq,zbC,zgs]
theorem zJh:vN 113 zy4:=kF4 zkI zA zB zn (zq []) zPM
def ziw (g:Guest):Bool:=bif canRun g then (cond g.Ctl.Open (ige (zdO g.Pending) 0) false) else false
@[simp] abbrev zpc (g:Guest):Bool:=true
@[simp] abbrev zl6 (g:Guest):Bool:=ziw g
def zzo:Run:=rF1 (dT .guest) fun b=>(zpc b,[aB (zl6 b)])
def zDl (N:Nat)(a:Guest):OA:=
 (oN (ztB a) (cond (zqv a) (cond a.Ctl.Open (oN (ztI a.Pending) (some [(aB (ige (znF a.Pending) 0))])) oF) oF))
theorem zQe (a:Guest)(b:zpc a=true):∃N,zDl N a=some [aB (zl6 a)]:=by refine⟨0,?_⟩;unfold zDl oN;refine must rfl (br (fun _=>br (fun _=>must rfl ?_) (fun _=>?_)) (fun _=>?_));all_goals first|rfl|(simp only [*,zl6,ziw,cT,cF]<;>rfl)|simp_all[Ty.cells,zl6,ziw]
theorem zJC:vN 346 zzo:=kF1 zkI zA zB zn (zq []) zQe
def zkd (p:Int):Int:=bif ilt (zdO p) 0 then p else wsub .i64 p (zpK .i64 1 (zdO p))
def zuM (p:Int):Int:=bif ilt (zdO p) 0 then -1 else zdO p
theorem z5L {p:Int}(h:ilt (zdO p) 0=false):wcv .u64 (zdO p)=zdO p/\ile 0 (zdO p)=true/\zOt .i64 p (zpK .i64 1 (zdO p))=wsub .i64 p (zpK .i64 1 (zdO p)):=by unfold zdO at *;cases a:zc6 p;{rw [a]at h;cases h};{simp only [a,cT]at h ⊢;obtain⟨c,d⟩:=zfP.1 a;have r:=z4J (P:=fun x=>-1<=scan x/\scan x<=7/\(0<=scan x->wsub .i64 x (zpK .i64 1 (scan x))=zOt .i64 x (zpK .i64 1 (scan x)))) z7J c d;have b:0<=scan p:=(by unfold ilt at h;have:=jU h;omega);exact⟨z0y b (by omega),qJ b,(r.2.2 b).symm⟩}
@[simp] abbrev zru (p:Int):Bool:=true
@[simp] abbrev zkn (p:Int):Int:=zkd p
@[simp] abbrev zko (p:Int):Int:=zuM p
@[simp] abbrev zmR (p:Int):Bool:=!ilt (zdO p) 0
def zCh:Run:=rF1 dI fun b=>(zru b,[aI (zkn b),aI (zko b),aB (zmR b)])
def zHB (N:Nat)(a:Int):OA:=
 (oN (ztI a) (cond (ilt (znF a) 0) (some [(aI a),(aI (-1)),(aB false)]) (oN (ile 0 (wcv .u64 (znF a))) (some [(aI (wsub .i64 a (zpK .i64 1 (wcv .u64 (znF a))))),(aI (znF a)),(aB true)]))))
theorem zTs (a:Int)(b:zru a=true):∃N,zHB N a=some [aI (zkn a),aI (zko a),aB (zmR a)]:=by have c:=@z5L a;refine⟨0,?_⟩;unfold zHB oN;refine must rfl (br (fun _=>?_) (fun _=>mu ?_));all_goals first|rfl|(simp only [*,zkn,zko,zmR,zkd,zuM,cT,cF]<;>rfl)|simp_all[Ty.cells,zkn,zko,zmR,zkd,zuM]
theorem zMr:vN 239 zCh:=kF1 zkI zA zB zn (zq []) zTs
def saw (g:Guest)(n:Int):Guest:=bif ilt (ln g.Seen) 40 then {g with Seen:=ap g.Seen [n]} else g
@[simp] theorem zQJ {g:Guest}(n:Int)(h:SmG g):SmG (saw g n):=by unfold saw;cases a:ilt (ln g.Seen) 40;{exact h};{have:=qE a;refine⟨h.1,h.2.1,h.2.2.1,?_⟩;simp[ln] at *;omega}
@[simp] abbrev zGb (g:Guest)(n:Int):Bool:=pc (SmG g)
@[simp] abbrev zAW (g:Guest)(n:Int):Guest:=saw g n
def zSk:Run:=rF2 (dT .guest) dI fun b c=>(zGb b c,[aT .guest (zAW b c)])
def zZE (N:Nat)(a:Guest)(b:Int):OA:=
 (oN (zdo a) (cond (ilt (ln (zc2 a).Seen) 40) (oN (few (ln (ap (zc2 a).Seen [b]))) (some [(aT .guest ({ (zc2 a) with Seen:=(ap (zc2 a).Seen [b])}:Guest))])) (some [(aT .guest (zc2 a))])))
theorem z4v (a:Guest)(b:Int)(c:zGb a b=true):∃N,zZE N a b=some [aT .guest (zAW a b)]:=by have d:=zL.1 c;have e:a.Seen.length<=1048576:=d.2.2.2;refine⟨0,?_⟩;unfold zZE oN;refine mu (br (fun _=>mu ?_) (fun _=>?_));all_goals first|rfl|(simp only [*,zAW,saw,cT,cF]<;>rfl)|simp_all[Ty.cells,zAW,saw]
theorem zYq:vN 348 zSk:=kF2 zkI zA zB zn (zq []) z4v
def stopped (g:Guest)(e:GExit):Guest:={g with Exit:=e}
@[simp] theorem zbcG {g:Guest}(e:GExit)(h:SmG g):SmG (stopped g e):=h
@[simp] abbrev zd8 (g:Guest)(e:GExit):Bool:=pc (SmG g)
@[simp] abbrev zdH (g:Guest)(e:GExit):Guest:=stopped g e
def zCf:Run:=rF2 (dT .guest) dE fun b c=>(zd8 b c,[aT .guest (zdH b c)])
def zHz (N:Nat)(a:Guest)(b:GExit):OA:=
 (oN (zdo a) (some [(aT .guest ({ (zc2 a) with Exit:=b}:Guest))]))
theorem zTq (a:Guest)(b:GExit)(c:zd8 a b=true):∃N,zHz N a b=some [aT .guest (zdH a b)]:=by have d:=zL.1 c;refine⟨0,?_⟩;unfold zHz oN;refine mu ?_;first|rfl|(simp only [*,zdH,stopped,cT,cF]<;>rfl)|simp_all[Ty.cells,zdH,stopped]
theorem zMp:vN 181 zCf:=kF2 zkI zA zB zn (zq []) zTq
def zcb (g:Guest):Guest:=bif ige g.Pc 12 then {g with Pc:=12} else {g with Pc:=zM .i64 g.Pc 1}
@[simp] theorem zlp {g:Guest}(h:SmG g):SmG (zcb g):=by unfold zcb;cases ige g.Pc 12<;>exact h
@[simp] abbrev zd4 (g:Guest):Bool:=pc (SmG g)
@[simp] abbrev zgh (g:Guest):Guest:=zcb g
def zIm:Run:=rF1 (dT .guest) fun b=>(zd4 b,[aT .guest (zgh b)])
def zRn (N:Nat)(a:Guest):OA:=
 (oN (zdo a) (cond (ige (zc2 a).Pc 12) (some [(aT .guest ({ (zc2 a) with Pc:=12}:Guest))]) (some [(aT .guest ({ (zc2 a) with Pc:=(zM .i64 (zc2 a).Pc 1)}:Guest))])))
theorem zYH (a:Guest)(b:zd4 a=true):∃N,zRn N a=some [aT .guest (zgh a)]:=by have c:=zL.1 b;refine⟨0,?_⟩;unfold zRn oN;refine mu (br (fun _=>?_) (fun _=>?_));all_goals first|rfl|(simp only [*,zgh,zcb,cT,cF]<;>rfl)|simp_all[Ty.cells,zgh,zcb]
theorem zSP:vN 180 zIm:=kF1 zkI zA zB zn (zq []) zYH
def z9c:zba:=[(116,zzp),(113,zy4),(346,zzo),(239,zCh),(348,zSk),(181,zCf),(180,zIm)]++z9b
theorem zid:zK z9c:=zh zJD (zh zJh (zh zJC (zh zMr (zh zYq (zh zMp (zh zSP zkI))))))
def interrupted (g:Guest):Guest:=bif ziw g then saw {g with Pending:=zkd g.Pending} (zM .i64 100 (zuM g.Pending)) else g
@[simp] theorem z0l {g:Guest}(h:SmG g):SmG (interrupted g):=by unfold interrupted;cases ziw g;{exact h};{exact zQJ (g:={g with Pending:=zkd g.Pending}) _ h}
@[simp] abbrev zo8 (g:Guest):Bool:=pc (SmG g)
@[simp] abbrev zjW (g:Guest):Guest:=interrupted g
def zti:Run:=rF1 (dT .guest) fun b=>(zo8 b,[aT .guest (zjW b)])
def zvI (N:Nat)(a:Guest):OA:=
 let c:=(zM .i64 100 (zko a.Pending));let b:=({a with Pending:=(zkn a.Pending)}:Guest); (oN (zpc a) (cond (nB (zl6 a)) (oN (zdo a) (some [(aT .guest (zc2 a))])) (oN (zru a.Pending) (oN (zGb b c) (some [(aT .guest (zAW b c))])))))
theorem zGW (a:Guest)(b:zo8 a=true):∃N,zvI N a=some [aT .guest (zjW a)]:=by
 have c:=zL.1 b;have d:_/\_/\_/\_:=c;refine⟨0,?_⟩;unfold zvI oN nB;conv=>zeta
 refine must rfl (brN (fun _=>mu ?_) (fun _=>must rfl (mu ?_)));all_goals first|rfl|(simp only [*,zjW,interrupted,cT,cF]<;>rfl)|simp_all[Ty.cells,zjW,interrupted]
theorem zCL:vN 341 zti:=kF1 zid zA zB zn (zq []) zGW
def zyO (o:Int):Int:=bif ieq o 3 then 3 else (cond (ieq o 4) 4 (cond (ieq o 5) 5 (cond (ieq o 6) 6 (cond (ieq o 7) 7 2))))
def zbd (g:Guest):Int:=bif canRun g then (cond (ziw g) 1 (zyO (zcv g.Prog g.Pc).Op)) else 0
@[simp] abbrev zeB (g:Guest):Bool:=true
@[simp] abbrev znG (g:Guest):Int:=zbd g
def zFa:Run:=rF1 (dT .guest) fun b=>(zeB b,[aI (znG b)])
def zLp (N:Nat)(a:Guest):OA:=
 let b:=(zfM a.Prog a.Pc).Op; (oN (ztB a) (cond (nB (zqv a)) (some [(aI 0)]) (oN (zpc a) (cond (zl6 a) (some [(aI 1)]) (oN (zfx a.Prog a.Pc) (cond (ieq b 3) (some [(aI 3)]) (cond (ieq b 4) (some [(aI 4)]) (cond (ieq b 5) (some [(aI 5)]) (cond (ieq b 6) (some [(aI 6)]) (cond (ieq b 7) (some [(aI 7)]) (some [(aI 2)])))))))))))
theorem zWa (a:Guest)(b:zeB a=true):∃N,zLp N a=some [aI (znG a)]:=by
 refine⟨0,?_⟩;unfold zLp oN nB;conv=>zeta
 refine must rfl (brN (fun _=>?_) (fun _=>must rfl (br (fun _=>?_) (fun _=>must rfl (br (fun _=>?_) (fun _=>br (fun _=>?_) (fun _=>br (fun _=>?_) (fun _=>br (fun _=>?_) (fun _=>br (fun _=>?_) (fun _=>?_))))))))));all_goals first|rfl|(simp only [*,znG,zbd,zyO,cT,cF]<;>rfl)|simp_all[Ty.cells,znG,zbd,zyO]
theorem zcl:vN 340 zFa:=kF1 zid zA zB zn (zq []) zWa
def held (g:Guest):Guest:=zcb {g with Halted:=true}
@[simp] theorem zXf {g:Guest}(h:SmG g):SmG (held g):=zlp (g:={g with Halted:=true}) h
@[simp] abbrev znB (g:Guest):Bool:=pc (SmG g)
@[simp] abbrev zzw (g:Guest):Guest:=held g
def zNJ:Run:=rF1 (dT .guest) fun b=>(znB b,[aT .guest (zzw b)])
def zUl (N:Nat)(b:Guest):OA:=
 let a:=({b with Halted:=true}:Guest); (oN (zd4 a) (some [(aT .guest (zgh a))]))
theorem z1I (a:Guest)(b:znB a=true):∃N,zUl N a=some [aT .guest (zzw a)]:=by
 have c:=zL.1 b;have d:_/\_/\_/\_:=c;refine⟨0,?_⟩;unfold zUl oN;conv=>zeta
 refine mu ?_;first|rfl|(simp only [*,zzw,held,cT,cF]<;>rfl)|simp_all[Ty.cells,zzw,held]
theorem zVj:vN 184 zNJ:=kF1 zid zA zB zn (zq []) z1I
@[simp] abbrev zAX (g:Guest):Bool:=pc (SmG g)
@[simp] abbrev zvl (g:Guest):Guest:=zcb g
def zE7:Run:=rF1 (dT .guest) fun b=>(zAX b,[aT .guest (zvl b)])
def zLm (N:Nat)(a:Guest):OA:=
 (oN (zd4 a) (some [(aT .guest (zgh a))]))
theorem zV7 (a:Guest)(b:zAX a=true):∃N,zLm N a=some [aT .guest (zvl a)]:=by have c:=zL.1 b;refine⟨0,?_⟩;unfold zLm oN;refine mu ?_;first|rfl|(simp only [*,zvl,cT,cF]<;>rfl)|simp_all[Ty.cells,zvl]
theorem zPk:vN 351 zE7:=kF1 zid zA zB zn (zq []) zV7
def loaded (g:Guest)(v:Int):Guest:=zcb (saw {g with A:=v} v)
@[simp] theorem zN2 {g:Guest}(v:Int)(h:SmG g):SmG (loaded g v):=zlp (zQJ (g:={g with A:=v}) v h)
@[simp] abbrev zAT (g:Guest)(v:Int):Bool:=pc (SmG g)
@[simp] abbrev zvi (g:Guest)(v:Int):Guest:=loaded g v
def zEX:Run:=rF2 (dT .guest) dI fun b c=>(zAT b c,[aT .guest (zvi b c)])
def zLb (N:Nat)(c:Guest)(a:Int):OA:=
 let b:=({c with A:=a}:Guest); (oN (zGb b a) (oN (zd4 (zAW b a)) (some [(aT .guest (zgh (zAW b a)))])))
theorem zVT (b:Guest)(a:Int)(d:zAT b a=true):∃N,zLb N b a=some [aT .guest (zvi b a)]:=by
 have c:=zL.1 d;have f:_/\_/\_/\_:=c;have e:SmG (saw {b with A:=a} a):=zQJ (g:={b with A:=a}) a c;refine⟨0,?_⟩;unfold zLb oN;conv=>zeta
 refine mu (mu ?_);first|rfl|(simp only [*,zvi,loaded,cT,cF]<;>rfl)|simp_all[Ty.cells,zvi,loaded]
theorem zPa:vN 352 zEX:=kF2 zid zA zB zn (zq []) zVT
def z0v (g:Guest)(w:Int):Guest:=bif ieq w 5 then stopped g (zyP (zcv g.Prog g.Pc).X) else stopped g ⟨4,0,false,0⟩
@[simp] theorem zbcH {g:Guest}(w:Int)(h:SmG g):SmG (z0v g w):=by unfold z0v;cases ieq w 5<;>exact h
def zc4 (g:Guest):Bool:=zc7 g.Prog&&(win g.A 0 99&&(win g.Pc 0 12&&(zcS g.Written 4 8&&(zcS g.Live 4 8&&(zhv g.Ctl&&(zc6 g.Pending&&(zg7 g.Exit&&ile (ln g.Seen) 40)))))))
@[simp] abbrev zmM (g:Guest):Bool:=true
@[simp] abbrev zlc (g:Guest):Bool:=zc4 g
def zB3:Run:=rF1 (dT .guest) fun b=>(zmM b,[aB (zlc b)])
def zHl (N:Nat)(a:Guest):OA:=
 (oN (zAV a.Prog) (cond (znE a.Prog) (oN (zO a.A 0 99) (cond (zS a.A 0 99) (oN (zO a.Pc 0 12) (cond (zS a.Pc 0 12) (oN (zmQ a.Written 4 8) (cond (zh5 a.Written 4 8) (oN (zmQ a.Live 4 8) (cond (zh5 a.Live 4 8) (oN (zse a.Ctl) (cond (zqx a.Ctl) (oN (zfj a.Pending) (cond (zfi a.Pending) (oN (zAS a.Exit) (cond (zvc a.Exit) (some [(aB (ile (ln a.Seen) 40))]) oF)) oF)) oF)) oF)) oF)) oF)) oF)) oF))
theorem zTb (a:Guest)(b:zmM a=true):∃N,zHl N a=some [aB (zlc a)]:=by refine⟨0,?_⟩;unfold zHl oN;refine must rfl (br (fun _=>must rfl (br (fun _=>must rfl (br (fun _=>must rfl (br (fun _=>must rfl (br (fun _=>must rfl (br (fun _=>must rfl (br (fun _=>must rfl (br (fun _=>?_) (fun _=>?_))) (fun _=>?_))) (fun _=>?_))) (fun _=>?_))) (fun _=>?_))) (fun _=>?_))) (fun _=>?_))) (fun _=>?_));all_goals first|rfl|(simp only [*,zlc,zc4,cT,cF]<;>rfl)|simp_all[Ty.cells,zlc,zc4]
theorem zMd:vN 289 zB3:=kF1 zid zA zB zn (zq []) zTb
@[simp] abbrev zmw (g:Guest):Bool:=true
@[simp] abbrev zkP (g:Guest):Bool:=zc4 g
def zBX:Run:=rF1 (dT .guest) fun b=>(zmw b,[aB (zkP b)])
def zHb (N:Nat)(a:Guest):OA:=
 (oN (zAu a.Prog) (cond (znt a.Prog) (oN (zb0 a.A 0 99) (cond (zcp a.A 0 99) (oN (zb0 a.Pc 0 12) (cond (zcp a.Pc 0 12) (oN (zmx a.Written 4 8) (cond (zhY a.Written 4 8) (oN (zmx a.Live 4 8) (cond (zhY a.Live 4 8) (oN (zD4 a.Ctl) (cond (zyC a.Ctl) (oN (zlG a.Pending) (cond (zkQ a.Pending) (oN (zAr a.Exit) (cond (zuF a.Exit) (some [(aB (ile (ln a.Seen) 40))]) oF)) oF)) oF)) oF)) oF)) oF)) oF)) oF))
theorem zS1 (a:Guest)(b:zmw a=true):∃N,zHb N a=some [aB (zkP a)]:=by refine⟨0,?_⟩;unfold zHb oN;refine must rfl (br (fun _=>must rfl (br (fun _=>must rfl (br (fun _=>must rfl (br (fun _=>must rfl (br (fun _=>must rfl (br (fun _=>must rfl (br (fun _=>must rfl (br (fun _=>?_) (fun _=>?_))) (fun _=>?_))) (fun _=>?_))) (fun _=>?_))) (fun _=>?_))) (fun _=>?_))) (fun _=>?_))) (fun _=>?_));all_goals first|rfl|(simp only [*,zkP,zc4,cT,cF]<;>rfl)|simp_all[Ty.cells,zkP,zc4]
theorem zL7:vN 272 zBX:=kF1 zid zA zB zn (zq []) zS1
@[simp] abbrev zfG (l:List Guest):Bool:=pc (zkC l)
@[simp] abbrev zf4 (l:List Guest):List Guest:=l
def zuY:Run:=rF1 (dS .guest) fun b=>(zfG b,[aS .guest (zf4 b)])
def zya (N:Nat)(c:lG):OA:=
 (iter (σ:=(Int×(Int×(lG×(lG×Unit))))) N (fun d a=>let b:=(ix a.2.2.2.1 a.2.1 zD); (cond (ilt a.2.1 a.1) (oN (inb a.2.1 (ln a.2.2.2.1)) (oN (zgo b) (oN (few (ln (ap a.2.2.1 [(zes b)]))) (d (a.1,((zM .i64 a.2.1 1),((ap a.2.2.1 [(zes b)]),(a.2.2.2.1,())))))))) (some [(aS .guest a.2.2.1)]))) ((ln c),(0,([],(c,())))))
def zKC:FuncId->Nat->Option Tmpl:=zq [(162,0,{n:=20,tm:=[(3,.sl 0 []),(7,.sl 1 []),(8,ti),(9,ti)],lo:=[],ro:=[(0,.guest,true),(1,.guest,false)]})]
theorem zJW (a:List Guest)(g:zfG a=true):∃N,zya N a=some [aS .guest (zf4 a)]:=by
 have f:=zL.1 g;have e:=zc3 f.1;refine zcz fun N d=>?_;unfold zya oN;conv=>zeta
 refine(zbo a (fun i (t:lG)=>((ln a),(i:Int),t,a,())) _ (fun _ x b j=>bif zgo x then (cond (few (ln (ap b [zes x]))) (j (ap b [zes x])) none) else none) (fun (t:lG)=>(some [(.one (.s .guest t))])) (fun i c t rec=>?_) (fun t rec=>?_) _ ([]) (d e.1)).trans ?_;{simp only [zbD c,zbf c,zbp c,zbi c e.1,cT]};{simp only [zbt,cF]};exact zjg zgo zes _ a 0 [] (fun x h=>⟨by exact zbh (f.2 x h),rfl⟩) (by simpa using e.2)
theorem zDU:vN 162 zuY:=kF1 zid zA zB zn zKC zJW
def gAt (b:Bare)(i:Int):Guest:=bif hasB i (ln b.Guests) then ix b.Guests i zD else Ty.dflt .guest
@[simp] theorem zh8 {b:Bare}(i:Int)(h:SmB b):SmG (gAt b i):=by unfold gAt;cases a:hasB i (ln b.Guests);{exact zbc3};{exact zXg h.2.1 a _}
@[simp] abbrev zxE (b:Bare)(i:Int):Bool:=pc (SmB b)
@[simp] abbrev zmu (b:Bare)(i:Int):Guest:=gAt b i
@[simp] abbrev zmv (b:Bare)(i:Int):Bool:=hasB i (ln b.Guests)
def zBW:Run:=rF2 (dT .bare) dI fun b c=>(zxE b c,[aT .guest (zmu b c),aB (zmv b c)])
def zHa (N:Nat)(a:Bare)(b:Int):OA:=
 let c:=(ix a.Guests b zD); (oN (zdh b (ln a.Guests)) (cond (nB (zdG b (ln a.Guests))) (some [(aT .guest (⟨[],0,0,[],[],⟨0,0,false⟩,0,⟨0,0,false,0⟩,false,[]⟩:Guest)),(aB false)]) (oN (inb b (ln a.Guests)) (oN (zgo c) (some [(aT .guest (zes c)),(aB true)])))))
theorem zS0 (a:Bare)(b:Int)(d:zxE a b=true):∃N,zHa N a b=some [aT .guest (zmu a b),aB (zmv a b)]:=by
 have c:=zL.1 d;have e:a.Guests.length<=1048576:=c.2.1.1;have f:hasB b (ln a.Guests)=true->SmG (ix a.Guests b zD):=fun h=>zXg c.2.1 h _;refine⟨0,?_⟩;unfold zHa oN nB;conv=>zeta
 refine must rfl (brN (fun _=>?_) (fun _=>mu (mu ?_)));all_goals first|rfl|(simp only [*,zmu,zmv,gAt,Ty.dflt,cT,cF]<;>rfl)|simp_all[Ty.cells,zmu,zmv,gAt,Ty.dflt]
theorem zL6:vN 185 zBW:=kF2 zid zA zB zn (zq []) zS0
def z9d:zba:=[(341,zti),(340,zFa),(184,zNJ),(351,zE7),(352,zEX),(289,zB3),(272,zBX),(162,zuY),(185,zBW)]++z9c
theorem zkJ:zK z9d:=zh zCL (zh zcl (zh zVj (zh zPk (zh zPa (zh zMd (zh zL7 (zh zDU (zh zL6 zid))))))))
def plainly (g:Guest):Guest:=bif ine (zbd g) 2 then g else (cond (win g.A 0 99) (cond (win (zcv g.Prog g.Pc).X 0 99) (cond (ieq (zcv g.Prog g.Pc).Op 1) {zcb g with A:=(zcv g.Prog g.Pc).X} (cond (ieq (zcv g.Prog g.Pc).Op 2) {zcb g with A:=zqN (zM .i64 g.A (zcv g.Prog g.Pc).X) 100} (cond (ieq (zcv g.Prog g.Pc).Op 8) (cond (ieq g.A 0) {zcb g with Pc:=(zcv g.Prog g.Pc).X} (zcb g)) (zcb g)))) (zcb g)) (zcb g))
@[simp] theorem zbcW (g:Guest):(zcb g).Prog=g.Prog:=by unfold zcb;cases ige g.Pc 12<;>rfl
@[simp] theorem zbdv (g:Guest):(zcb g).A=g.A:=by unfold zcb;cases ige g.Pc 12<;>rfl
@[simp] theorem zbbD (g:Guest):(zcb g).Written=g.Written:=by unfold zcb;cases ige g.Pc 12<;>rfl
@[simp] theorem zbcV (g:Guest):(zcb g).Live=g.Live:=by unfold zcb;cases ige g.Pc 12<;>rfl
@[simp] theorem zbdd (g:Guest):(zcb g).Ctl=g.Ctl:=by unfold zcb;cases ige g.Pc 12<;>rfl
@[simp] theorem zbbC (g:Guest):(zcb g).Pending=g.Pending:=by unfold zcb;cases ige g.Pc 12<;>rfl
@[simp] theorem zbcU (g:Guest):(zcb g).Exit=g.Exit:=by unfold zcb;cases ige g.Pc 12<;>rfl
@[simp] theorem zbco (g:Guest):(zcb g).Halted=g.Halted:=by unfold zcb;cases ige g.Pc 12<;>rfl
@[simp] theorem zbcX (g:Guest):(zcb g).Seen=g.Seen:=by unfold zcb;cases ige g.Pc 12<;>rfl
@[simp] theorem zbde (g:Guest)(x:Int):(zcb {g with A:=x}).Pc=(zcb g).Pc:=by unfold zcb;cases ige g.Pc 12<;>rfl
@[simp] theorem zIB {g:Guest}(h:SmG g):SmG (plainly g):=by have a:=zlp h;unfold plainly;cases ine (zbd g) 2;{cases win g.A 0 99;{exact a};{cases win (zcv g.Prog g.Pc).X 0 99;{exact a};{cases ieq (zcv g.Prog g.Pc).Op 1;{cases ieq (zcv g.Prog g.Pc).Op 2;{cases ieq (zcv g.Prog g.Pc).Op 8;{exact a};{cases ieq g.A 0<;>exact a}};{exact a}};{exact a}}}};{exact h}
@[simp] abbrev zxW (g:Guest):Bool:=pc (SmG g)
@[simp] abbrev zsi (g:Guest):Guest:=plainly g
def zCd:Run:=rF1 (dT .guest) fun b=>(zxW b,[aT .guest (zsi b)])
def zHx (N:Nat)(a:Guest):OA:=
 let i:=(ieq a.A 0);let c:=(zd4 a);let b:=(aT .guest (zgh a));let d:=(zfM a.Prog a.Pc);let j:=({a with A:=d.X}:Guest);let h:=(ieq d.Op 8);let e:=(zS d.X 0 99);let g:=(aT .guest ({ (zc2 a) with Pc:=d.X}:Guest));let f:=({a with A:=(zqN (zM .i64 a.A d.X) 100)}:Guest); (oN (zeB a) (cond (ine (znG a) 2) (oN (zdo a) (some [(aT .guest (zc2 a))])) (oN (zfx a.Prog a.Pc) (oN (zO a.A 0 99) (cond (zS a.A 0 99) (oN (zO d.X 0 99) (cond e (cond (ieq d.Op 1) (oN (zd4 j) (some [(aT .guest (zgh j))])) (cond e (cond (ieq d.Op 2) (oN (ine 100 0) (oN (zd4 f) (some [(aT .guest (zgh f))]))) (cond e (cond h (cond i (oN (zdo a) (some [g])) (oN c (some [b]))) (oN c (some [b]))) (oN c (some [b])))) (cond e (cond h (cond i (oN (zdo a) (some [g])) (oN c (some [b]))) (oN c (some [b]))) (oN c (some [b]))))) (cond e (cond (ieq d.Op 2) (oN (ine 100 0) (oN (zd4 f) (some [(aT .guest (zgh f))]))) (cond e (cond h (cond i (oN (zdo a) (some [g])) (oN c (some [b]))) (oN c (some [b]))) (oN c (some [b])))) (cond e (cond h (cond i (oN (zdo a) (some [g])) (oN c (some [b]))) (oN c (some [b]))) (oN c (some [b])))))) (oN c (some [b])))))))
theorem zTo (a:Guest)(b:zxW a=true):∃N,zHx N a=some [aT .guest (zsi a)]:=by
 have c:=zL.1 b;have d:_/\_/\_/\_:=c;refine⟨0,?_⟩;unfold zHx oN;conv=>zeta
 refine must rfl (br (fun _=>mu ?_) (fun _=>must rfl (must rfl (br (fun _=>must rfl (br (fun _=>br (fun _=>mu ?_) (fun _=>br (fun _=>br (fun _=>must rfl (mu ?_)) (fun _=>br (fun _=>br (fun _=>br (fun _=>mu ?_) (fun _=>mu ?_)) (fun _=>mu ?_)) (fun _=>mu ?_))) (fun _=>br (fun _=>br (fun _=>br (fun _=>mu ?_) (fun _=>mu ?_)) (fun _=>mu ?_)) (fun _=>mu ?_)))) (fun _=>br (fun _=>br (fun _=>must rfl (mu ?_)) (fun _=>br (fun _=>br (fun _=>br (fun _=>mu ?_) (fun _=>mu ?_)) (fun _=>mu ?_)) (fun _=>mu ?_))) (fun _=>br (fun _=>br (fun _=>br (fun _=>mu ?_) (fun _=>mu ?_)) (fun _=>mu ?_)) (fun _=>mu ?_))))) (fun _=>mu ?_)))));all_goals first|rfl|(simp only [*,zsi,plainly,cT,cF]<;>rfl)|simp_all[Ty.cells,zsi,plainly]
theorem zMn:vN 342 zCd:=kF1 zkJ zA zB zn (zq []) zTo
def address (g:Guest):Int:=bif ine (zbd g) 3 then (cond (ine (zbd g) 4) (-1) ((zcv g.Prog g.Pc).X)) else (zcv g.Prog g.Pc).X
@[simp] abbrev zq7 (g:Guest):Bool:=true
@[simp] abbrev zi7 (g:Guest):Int:=address g
def zB2:Run:=rF1 (dT .guest) fun b=>(zq7 b,[aI (zi7 b)])
def zHg (N:Nat)(a:Guest):OA:=
 (oN (zeB a) (cond (ine (znG a) 3) (cond (ine (znG a) 4) (some [(aI (-1))]) (oN (zfx a.Prog a.Pc) (some [(aI (zfM a.Prog a.Pc).X)]))) (oN (zfx a.Prog a.Pc) (some [(aI (zfM a.Prog a.Pc).X)]))))
theorem zS6 (a:Guest)(b:zq7 a=true):∃N,zHg N a=some [aI (zi7 a)]:=by refine⟨0,?_⟩;unfold zHg oN;refine must rfl (br (fun _=>br (fun _=>?_) (fun _=>must rfl ?_)) (fun _=>must rfl ?_));all_goals first|rfl|(simp only [*,zi7,address,cT,cF]<;>rfl)|simp_all[Ty.cells,zi7,address]
theorem zMc:vN 349 zB2:=kF1 zkJ zA zB zn (zq []) zS6
def zjN (g:Guest)(t w:Int):Guest:=bif ieq w 6 then stopped g (zz5 (zcv g.Prog g.Pc).X) else (cond (ieq w 5&&zgU t 1) (stopped g (zyP (zcv g.Prog g.Pc).X)) (cond (ieq w 7&&zgU t 2) (stopped g ⟨4,0,false,0⟩) (cond (ieq w 7) (held g) (zcb g))))
def zkA (t w:Int):Bool:=bif ieq w 6 then false else (cond (ieq w 5&&zgU t 1) false (cond (ieq w 7&&zgU t 2) false true))
@[simp] theorem zFv {g:Guest}(t w:Int)(h:SmG g):SmG (zjN g t w):=by unfold zjN;cases ieq w 6;{cases (ieq w 5&&zgU t 1);{cases (ieq w 7&&zgU t 2);{cases ieq w 7;{exact zlp h};{exact zXf h}};{exact h}};{exact h}};{exact h}
@[simp] abbrev zdS (g:Guest)(t w:Int):Bool:=pc (SmG g)
@[simp] abbrev zck (g:Guest)(t w:Int):Guest:=zjN g t w
@[simp] abbrev zdp (g:Guest)(t w:Int):Bool:=zkA t w
def zCm:Run:=rF3 (dT .guest) dI dI fun b c d=>(zdS b c d,[aT .guest (zck b c d),aB (zdp b c d)])
def zHG (N:Nat)(a:Guest)(c b:Int):OA:=
 let g:=(aT .guest (zgh a));let f:=(aT .guest (zzw a));let e:=(⟨4,0,false,0⟩:GExit);let d:=(zfM a.Prog a.Pc).X; (oN (zfx a.Prog a.Pc) (cond (ieq b 6) (oN (zo0 d) (oN (zd8 a (zfc d)) (some [(aT .guest (zdH a (zfc d))),(aB false)]))) (cond (ieq b 5) (oN (zio c 1) (cond (zh3 c 1) (oN (zrp d) (oN (zd8 a (zga d)) (some [(aT .guest (zdH a (zga d))),(aB false)]))) (cond (ieq b 7) (oN (zio c 2) (cond (zh3 c 2) (oN (zd8 a e) (some [(aT .guest (zdH a e)),(aB false)])) (cond (ieq b 7) (oN (znB a) (some [f,(aB true)])) (oN (zd4 a) (some [g,(aB true)]))))) (cond (ieq b 7) (oN (znB a) (some [f,(aB true)])) (oN (zd4 a) (some [g,(aB true)])))))) (cond (ieq b 7) (oN (zio c 2) (cond (zh3 c 2) (oN (zd8 a e) (some [(aT .guest (zdH a e)),(aB false)])) (cond (ieq b 7) (oN (znB a) (some [f,(aB true)])) (oN (zd4 a) (some [g,(aB true)]))))) (cond (ieq b 7) (oN (znB a) (some [f,(aB true)])) (oN (zd4 a) (some [g,(aB true)])))))))
theorem zTx (a:Guest)(b c:Int)(d:zdS a b c=true):∃N,zHG N a b c=some [aT .guest (zck a b c),aB (zdp a b c)]:=by
 have e:=zL.1 d;refine⟨0,?_⟩;unfold zHG oN;conv=>zeta
 refine must rfl (br (fun _=>must rfl (mu ?_)) (fun _=>br (fun _=>must rfl (br (fun _=>must rfl (mu ?_)) (fun _=>br (fun _=>must rfl (br (fun _=>mu ?_) (fun _=>br (fun _=>mu ?_) (fun _=>mu ?_)))) (fun _=>br (fun _=>mu ?_) (fun _=>mu ?_))))) (fun _=>br (fun _=>must rfl (br (fun _=>mu ?_) (fun _=>br (fun _=>mu ?_) (fun _=>mu ?_)))) (fun _=>br (fun _=>mu ?_) (fun _=>mu ?_)))));all_goals first|rfl|(simp only [*,zck,zdp,zjN,zkA,cT,cF]<;>rfl)|simp_all[Ty.cells,zck,zdp,zjN,zkA]
theorem zME:vN 354 zCm:=kF3 zkJ zA zB zn (zq []) zTx
def zbQ (b:Bare):Bool:=bif b.Guests.all zc4 then (zhy b.Memory 8&&(win (ln b.Guests) 1 2&&(ile (ln b.Outs) 40&&zc6 b.Pending))) else false
@[simp] abbrev zoW (b:Bare):Bool:=true
@[simp] abbrev zeF (b:Bare):Bool:=zbQ b
def zEQ:Run:=rF1 (dT .bare) fun b=>(zoW b,[aB (zeF b)])
def zK3 (N:Nat)(c:Bare):OA:=
 (iter (σ:=(Int×(Int×(lM×(lG×((List Int)×Unit)))))) N (fun d a=>let b:=a.2.2.2.1; (cond (ilt a.1 (ln b)) (oN (inb a.1 (ln b)) (oN (zmM (ix b a.1 zD)) (cond (nB (zlc (ix b a.1 zD))) oF (d ((zM .i64 a.1 1),(a.2.1,(a.2.2.1,(b,(a.2.2.2.2.1,()))))))))) (oN (zsg a.2.2.1 8) (cond (zl3 a.2.2.1 8) (oN (zO (ln b) 1 2) (cond (zS (ln b) 1 2) (cond (ile (ln a.2.2.2.2.1) 40) (oN (zfj a.2.1) (some [(aB (zfi a.2.1))])) oF) oF)) oF)))) (0,(c.Pending,(c.Memory,(c.Guests,(c.Outs,()))))))
def zXC:FuncId->Nat->Option Tmpl:=zq [(236,0,{n:=38,tm:=[(1,.lp 0 0),(3,ti)],lo:=[(0,[.sl 0 [],.sl 1 [],.sl 2 [],ti])],ro:=[(0,(.sl .int),false),(1,.guest,false),(2,.int,false)]})]
theorem zVL (a:Bare)(k:zce big [aT .bare a])(m:zoW a=true):∃N,zK3 N a=some [aB (zeF a)]:=by
 have j:(_:List _).length<=big:=((zc9 k).1 (.s .guest a.Guests) (by simp[AV.cvs,Ty.cells])).len;refine zcz fun N h=>?_;unfold zK3 oN nB;conv=>zeta
 refine(zbo a.Guests (fun i (t:Unit)=>((i:Int),a.Pending,a.Memory,a.Guests,a.Outs,())) _ (fun _ x (_:Unit) l=>bif (zc4) x then l () else oF) (fun (t:Unit)=>(cond (zsg a.Memory 8) (cond (zl3 a.Memory 8) (cond (zO (ln a.Guests) 1 2) (cond (zS (ln a.Guests) 1 2) (cond (ile (ln a.Outs) 40) (cond (zfj a.Pending) (some [(.one (.b (zfi a.Pending)))]) none) oF) oF) none) oF) none)) (fun i f t rec=>?_) (fun t rec=>?_) _ () (h j)).trans ?_;{simp only [zbD f,zbf f,zbp f,zbi f j,cT];exact zia rfl};{simp only [zbt,cF]};rw[zgf (zc4)];refine br (fun c=>?_) (fun c=>?_);{refine must rfl ?_;refine br (fun d=>?_) (fun d=>?_);{refine must rfl ?_;refine br (fun e=>?_) (fun e=>?_);{refine br (fun g=>?_) (fun g=>?_);{refine must rfl ?_;first|rfl|(simp only [c,d,e,g,zeF,zbQ,cT,cF]<;>rfl)|(simp_all [Ty.cells,zeF,zbQ];done)};{first|rfl|(simp only [c,d,e,g,zeF,zbQ,cT,cF]<;>rfl)|(simp_all [Ty.cells,zeF,zbQ];done)}};{first|rfl|(simp only [c,d,e,zeF,zbQ,cT,cF]<;>rfl)|(simp_all [Ty.cells,zeF,zbQ];done)}};{first|rfl|(simp only [c,d,zeF,zbQ,cT,cF]<;>rfl)|(simp_all [Ty.cells,zeF,zbQ];done)}};{first|rfl|(simp only [c,zeF,zbQ,cT,cF]<;>rfl)|(simp_all [Ty.cells,zeF,zbQ];done)}
theorem zO3:vN 236 zEQ:=hF1 zkJ zA zB zn zXC zVL
@[simp] abbrev ztq (b:Bare):Bool:=true
@[simp] abbrev ze4 (b:Bare):Bool:=zbQ b
def zEx:Run:=rF1 (dT .bare) fun b=>(ztq b,[aB (ze4 b)])
def zKL (N:Nat)(b:Bare):OA:=
 (iter (σ:=(Int×(Int×(Int×(lG×(lM×((List Int)×Unit))))))) N (fun e a=>let c:=a.2.2.2.1;let d:=(ix c a.2.1 zD); (cond (ilt a.2.1 a.1) (oN (inb a.2.1 (ln c)) (oN (zmw d) (cond (nB (zkP d)) oF (e (a.1,((zM .i64 a.2.1 1),(a.2.2.1,(c,(a.2.2.2.2.1,(a.2.2.2.2.2.1,())))))))))) (oN (zr4 a.2.2.2.2.1 8) (cond (zlF a.2.2.2.2.1 8) (oN (zb0 (ln c) 1 2) (cond (zcp (ln c) 1 2) (cond (ile (ln a.2.2.2.2.2.1) 40) (oN (zlG a.2.2.1) (some [(aB (zkQ a.2.2.1))])) oF) oF)) oF)))) ((ln b.Guests),(0,(b.Pending,(b.Guests,(b.Memory,(b.Outs,())))))))
def zXv:FuncId->Nat->Option Tmpl:=zq [(207,0,{n:=36,tm:=[(1,.lp 0 0),(6,.sl 0 []),(7,ti),(8,ti)],lo:=[(0,[.sl 1 [],.sl 0 [],.sl 2 [],ti])],ro:=[(0,.guest,false),(1,(.sl .int),false),(2,.int,false)]})]
theorem zVt (a:Bare)(k:zce big [aT .bare a])(m:ztq a=true):∃N,zKL N a=some [aB (ze4 a)]:=by
 have j:(_:List _).length<=big:=((zc9 k).1 (.s .guest a.Guests) (by simp[AV.cvs,Ty.cells])).len;refine zcz fun N h=>?_;unfold zKL oN nB;conv=>zeta
 refine(zbo a.Guests (fun i (t:Unit)=>((ln a.Guests),(i:Int),a.Pending,a.Guests,a.Memory,a.Outs,())) _ (fun _ x (_:Unit) l=>bif (zc4) x then l () else oF) (fun (t:Unit)=>(cond (zr4 a.Memory 8) (cond (zlF a.Memory 8) (cond (zb0 (ln a.Guests) 1 2) (cond (zcp (ln a.Guests) 1 2) (cond (ile (ln a.Outs) 40) (cond (zlG a.Pending) (some [(.one (.b (zkQ a.Pending)))]) none) oF) oF) none) oF) none)) (fun i f t rec=>?_) (fun t rec=>?_) _ () (h j)).trans ?_;{simp only [zbD f,zbf f,zbp f,zbi f j,cT];exact zia rfl};{simp only [zbt,cF]};rw[zgf (zc4)];refine br (fun c=>?_) (fun c=>?_);{refine must rfl ?_;refine br (fun d=>?_) (fun d=>?_);{refine must rfl ?_;refine br (fun e=>?_) (fun e=>?_);{refine br (fun g=>?_) (fun g=>?_);{refine must rfl ?_;first|rfl|(simp only [c,d,e,g,ze4,zbQ,cT,cF]<;>rfl)|(simp_all [Ty.cells,ze4,zbQ];done)};{first|rfl|(simp only [c,d,e,g,ze4,zbQ,cT,cF]<;>rfl)|(simp_all [Ty.cells,ze4,zbQ];done)}};{first|rfl|(simp only [c,d,e,ze4,zbQ,cT,cF]<;>rfl)|(simp_all [Ty.cells,ze4,zbQ];done)}};{first|rfl|(simp only [c,d,ze4,zbQ,cT,cF]<;>rfl)|(simp_all [Ty.cells,ze4,zbQ];done)}};{first|rfl|(simp only [c,ze4,zbQ,cT,cF]<;>rfl)|(simp_all [Ty.cells,ze4,zbQ];done)}
theorem zOL:vN 207 zEx:=hF1 zkJ zA zB zn zXv zVt
@[simp] abbrev zhc (b:Bare):Bool:=pc (SmB b)
@[simp] abbrev ze8 (b:Bare):Bare:=b
def zy7:Run:=rF1 (dT .bare) fun b=>(zhc b,[aT .bare (ze8 b)])
def zCX (N:Nat)(a:Bare):OA:=
 (oN (zfS a.Memory) (oN (zfG a.Guests) (oN (zdC a.Outs) (some [(aT .bare (⟨(zdu a.Memory),(zf4 a.Guests),(zdx a.Outs),a.Pending⟩:Bare))]))))
theorem zPP (a:Bare)(b:zhc a=true):∃N,zCX N a=some [aT .bare (ze8 a)]:=by have c:=zL.1 b;have d:_/\_/\_:=c;refine⟨0,?_⟩;unfold zCX oN;refine mu (mu (mu ?_));first|rfl|(simp only [*,ze8,cT,cF]<;>rfl)|simp_all[Ty.cells,ze8]
theorem zJk:vN 206 zy7:=kF1 zkJ zA zB zn (zq []) zPP
@[simp] abbrev zeV (b:Bare):Bool:=pc (SmB b)
@[simp] abbrev zcu (b:Bare):Bare:=b
def zCl:Run:=rF1 (dT .bare) fun b=>(zeV b,[aT .bare (zcu b)])
def zHF (N:Nat)(a:Bare):OA:=
 (oN (zfV a.Memory) (oN (zfz a.Guests) (oN (few (ln (ap [] a.Outs))) (some [(aT .bare (⟨(zen a.Memory),(zfY a.Guests),(ap [] a.Outs),a.Pending⟩:Bare))]))))
theorem zTw (a:Bare)(b:zeV a=true):∃N,zHF N a=some [aT .bare (zcu a)]:=by have c:=zL.1 b;have d:_/\_/\_:=c;refine⟨0,?_⟩;unfold zHF oN;refine mu (mu (mu ?_));first|rfl|(simp only [*,zcu,cT,cF]<;>rfl)|simp_all[Ty.cells,zcu]
theorem zMD:vN 169 zCl:=kF1 zkJ zA zB zn (zq []) zTw
def z9e:zba:=[(342,zCd),(349,zB2),(354,zCm),(236,zEQ),(207,zEx),(206,zy7),(169,zCl)]++z9d
theorem zUQ:zK z9e:=zh zMn (zh zMc (zh zME (zh zO3 (zh zOL (zh zJk (zh zMD zkJ))))))
def zdU (b:Bare)(i:Int)(x:Guest):Bare:={b with Guests:=up b.Guests i x}
def zso (b:Bare)(i:Int)(x:Guest):Bare:=bif hasB i (ln b.Guests) then zdU b i x else b
def zoD (b:Bare)(n:Int):Bare:=bif ilt (ln b.Outs) 40 then {b with Outs:=ap b.Outs [n]} else b
@[simp] theorem znJ {b:Bare}{i:Int}{x:Guest}(h:SmB b)(a:SmG x):SmB (zdU b i x):=⟨h.1,zGf h.2.1 a,h.2.2⟩
@[simp] theorem z2G {b:Bare}{n:Int}(h:SmB b):SmB (zoD b n):=by unfold zoD;cases a:ilt (ln b.Outs) 40;{exact h};{have:=qE a;refine⟨h.1,h.2.1,?_⟩;simp[ln] at *;omega}
@[simp] theorem zbdp (b:Bare)(n:Int):(zoD b n).Guests=b.Guests:=by unfold zoD;cases ilt (ln b.Outs) 40<;>rfl
@[simp] theorem zvw {m:List (List Int)}{p c v:Int}(h:SmM m):SmM (zbC m p c v):=by unfold zbC;cases a:zgs m p c;{exact h};{cases b:win v 0 99;{exact h};{exact zN4 h (by simpa using zbcA h ((zoy m p c).1 a).1 [])}}
@[simp] abbrev zsC (b:Bare)(i:Int)(x:Guest):Bool:=pc (SmB b/\SmG x)
@[simp] abbrev zmy (b:Bare)(i:Int)(x:Guest):Bare:=zso b i x
def zwt:Run:=rF3 (dT .bare) dI (dT .guest) fun b c d=>(zsC b c d,[aT .bare (zmy b c d)])
def zBp (N:Nat)(a:Bare)(b:Int)(c:Guest):OA:=
 (oN (zhc a) (oN (zdh b (ln a.Guests)) (cond (zdG b (ln a.Guests)) (oN (zgo c) (oN (inb b (ln (ze8 a).Guests)) (share (up (ze8 a).Guests b (zes c)) (fun d=>(some [(aT .bare ({ (ze8 a) with Guests:=d}:Bare))]))))) (some [(aT .bare (ze8 a))]))))
theorem zMY (a:Bare)(b:Int)(c:Guest)(d:zsC a b c=true):∃N,zBp N a b c=some [aT .bare (zmy a b c)]:=by have e:=zL.1 d;refine⟨0,?_⟩;unfold zBp oN;refine mu (must rfl (br (fun _=>mu (mu (shr ?_))) (fun _=>?_)));all_goals first|rfl|(simp only [*,zmy,zso,zdU,cT,cF]<;>rfl)|simp_all[Ty.cells,zmy,zso,zdU]
theorem zGm:vN 257 zwt:=kF3 zUQ zA zB zn (zq []) zMY
def z0W:zba:=[(257,zwt)]++z9e
theorem zul:zK z0W:=zh zGm zUQ
def zn0 (b:Bare)(g:Int)(x:Guest)(w:Bool):Bare :=
 bif zfn x.Live (zbj (address x)) (zcc w) then
  (bif w then zdU {b with Memory:=zbC b.Memory (zcE x.Live (zbj (address x)) (zcc w)) (zdf (address x)) x.A} g (zcb x)
  else zdU b g (loaded x (cellAt b.Memory (zcE x.Live (zbj (address x)) (zcc w)) (zdf (address x)))))
 else zdU b g (stopped x (zrV (zbj (address x)) w))
def zGg (b:Bare)(g:Int)(x:Guest)(w:Int):Bare :=
 zdU (cond (cond (zkA x.Ctl.Traps w) (ieq w 5) false) (zoD b (zcv x.Prog x.Pc).X) b) g (zjN x x.Ctl.Traps w)
def stepped (b:Bare)(g:Int)(x:Guest)(w:Int):Bare :=
 bif ieq w 1 then zdU b g (interrupted x) else (cond (ieq w 2) (zdU b g (plainly x)) (cond (ieq w 3) (zn0 b g x false) (cond (ieq w 4) (zn0 b g x true) (zGg b g x w))))
def zlv (b:Bare)(g:Int):Bool:=bif hasB g (ln b.Guests) then (cond (zbQ b) (!ieq (zbd (gAt b g)) 0) false) else false
def zic (b:Bare)(g:Int):Bare:=bif zlv b g then stepped b g (gAt b g) (zbd (gAt b g)) else b
@[simp] theorem z0k {b:Bare}{g:Int}{x:Guest}{w:Bool}(h:SmB b)(a:SmG x):SmB (zn0 b g x w):=by unfold zn0;cases zfn x.Live (zbj (address x)) (zcc w);{exact znJ h a};{cases w;{exact znJ h (zN2 _ a)};{exact⟨zvw h.1,zGf h.2.1 (zlp a),h.2.2⟩}}
@[simp] theorem zbbp {b:Bare}{g:Int}{x:Guest}{w:Int}(h:SmB b)(a:SmG x):SmB (zGg b g x w):=by unfold zGg;cases (cond (zkA x.Ctl.Traps w) (ieq w 5) false);{exact znJ h (zFv _ _ a)};{exact znJ (z2G h) (zFv _ _ a)}
@[simp] theorem zZt {b:Bare}{g:Int}{x:Guest}{w:Int}(h:SmB b)(a:SmG x):SmB (stepped b g x w):=by unfold stepped;cases ieq w 1;{cases ieq w 2;{cases ieq w 3;{cases ieq w 4;{exact zbbp h a};{exact z0k h a}};{exact z0k h a}};{exact znJ h (zIB a)}};{exact znJ h (z0l a)}
@[simp] theorem zbdr {b:Bare}{g:Int}(h:SmB b):SmB (zic b g):=by unfold zic;cases zlv b g;{exact h};{exact zZt h (zh8 g h)}
theorem zbc8 (x:Guest):ieq (zbd x) 0=false->ieq (zbd x) 1=false->ieq (zbd x) 2=false->ieq (zbd x) 3=false->ieq (zbd x) 4=false->ieq (zbd x) 5=false->ieq (zbd x) 6=false->ieq (zbd x) 7=true:=by unfold zbd zyO;cases canRun x;{intro h;cases h};{cases ziw x;{simp only [cT,cF];generalize (zcv x.Prog x.Pc).Op=o;cases ieq o 3<;>cases ieq o 4<;>cases ieq o 5<;>cases ieq o 6<;>cases ieq o 7<;>simp [ieq]};{intro _ h;cases h}}
def SmK (k:Kept):Prop:=k.Known.length<=1048576/\k.Slots.length<=1048576
def zDt (l:List Kept):Prop:=l.length<=1048576/\∀x∈l,SmK x
def zeZ (m:Mon):Prop:=m.Outer.length<=1048576/\SmM m.Out/\m.Dirty.length<=1048576/\zkC m.Guests/\m.Outs.length<=1048576/\zDt m.Tables
def zrP (l:List Mon):Prop:=l.length<=1048576/\∀x∈l,zeZ x
def SmH (h:Host):Prop:=SmM h.Memory/\zrP h.Mons/\h.Buffer.length<=1048576/\h.IoBuffer.length<=1048576
@[simp] theorem zym (k:Kept):(∀c∈Ty.cells .kept k,CVB sm c)↔SmK k:=by simp[Ty.cells,SmK,z7U]
@[simp] theorem z6L (l:List Kept):CVB sm (.s .kept l)↔zDt l:=by rw[zly];simp only[zym];rfl
@[simp] theorem zZI (m:Mon):(∀c∈Ty.cells .mon m,CVB sm c)↔zeZ m:=by simp only[Ty.cells,qG,qN,or_false,vJ,forall_eq,zpZ,zvR,z6L,z05,zYc,zYb,z9q,and_true,true_and];rfl
@[simp] theorem zbaC (l:List Mon):CVB sm (.s .mon l)↔zrP l:=by rw[zly];simp only[zZI];rfl
@[simp] theorem zT (h:Host):zcD h↔SmH h:=by unfold zcD;simp only[zbk,qG,qN,or_false,vJ,forall_eq,zpZ,zbaC,zUV];rfl
theorem zbM {p:Prop}(h:p):pc p=true:=zbh h
theorem zzE {l:List Kept}{i:Int}{x:Kept}(h:zDt l)(b:SmK x):zDt (up l i x):=by refine⟨by simpa using h.1,fun y a=>?_⟩;rcases qY a with a|rfl;{exact h.2 y a};{exact b}
theorem zjc {l:List Mon}{i:Int}{x:Mon}(h:zrP l)(b:zeZ x):zrP (up l i x):=by refine⟨by simpa using h.1,fun y a=>?_⟩;rcases qY a with a|rfl;{exact h.2 y a};{exact b}
theorem znN {a:Type}{l:List a}(h:l.length<=1048576):few (ln (ap [] l))=true:=by rw[zmq,zbaK];omega
@[simp] abbrev zbU (h:Host):Bool:=pc (zcD h)
@[simp] abbrev zo (h:Host):Host:=h
def zCn:Run:=rF1 dH fun b=>(zbU b,[aH (zo b)])
def zHH (N:Nat)(b:Host):OA:=
 (oN (zfV b.Memory) (oN (few (ln (ap [] b.Buffer))) (oN (few (ln (ap [] b.IoBuffer))) (iter (σ:=(Int×(lM×(lN×(lE×(lE×(lM×(lN×(lE×(lE×(lM×(lN×(lE×(lE×Unit)))))))))))))) N (fun f a=>let e:=a.2.2.2.2.2.2.2.2.2.2.2.2.1;let d:=(ix a.2.2.1 a.1 zi);let c:=(ap a.2.2.2.2.2.2.2.2.2.2.1 [(zqG d)]); (cond (ilt a.1 (ln a.2.2.1)) (oN (inb a.1 (ln a.2.2.1)) (oN (zpD d) (oN (few (ln c)) (f ((zM .i64 a.1 1),(a.2.1,(a.2.2.1,(a.2.2.2.1,(a.2.2.2.2.1,(a.2.2.2.2.2.1,(a.2.2.2.2.2.2.1,(a.2.2.2.2.2.2.2.1,(a.2.2.2.2.2.2.2.2.1,(a.2.2.2.2.2.2.2.2.2.1,(c,(a.2.2.2.2.2.2.2.2.2.2.2.1,(e,()))))))))))))))))) (some [(aH (⟨a.2.2.2.2.2.2.2.2.2.1,a.2.2.2.2.2.2.2.2.2.2.1,a.2.2.2.2.2.2.2.2.2.2.2.1,e⟩:Host))]))) (0,(b.Memory,(b.Mons,(b.Buffer,(b.IoBuffer,([],([],([],([],((zen b.Memory),([],((ap [] b.Buffer),((ap [] b.IoBuffer),())))))))))))))))))
def zTY:FuncId->Nat->Option Tmpl:=zq [(73,0,{n:=36,tm:=[(1,.lp 0 0),(2,.lp 1 0),(3,.lp 2 0),(4,ti)],lo:=[(0,[.sl 0 [],.sl 1 [],.sl 2 [],.sl 3 []]),(1,[.sl 4 [],.sl 5 [],.sl 6 [],.sl 7 []]),(2,[.sl 8 [],.sl 9 [],.sl 10 [],.sl 11 []])],ro:=[(0,(.sl .int),false),(1,.mon,false),(2,.entry,false),(3,.entry,false),(4,(.sl .int),true),(5,.mon,true),(6,.entry,true),(7,.entry,true),(8,(.sl .int),true),(9,.mon,true),(10,.entry,true),(11,.entry,true)]})]
theorem zTy (a:Host)(k:zbU a=true):∃N,zHH N a=some [aH (zo a)]:=by
 obtain⟨g,f,h,j⟩:=(zT a).1 (zL.1 k);have e:=zc3 f.1;refine zcz fun N d=>?_;unfold zHH oN;conv=>zeta
 refine must (zbM ((zpZ _).2 g)) (must (znN h) (must (znN j) ?_));refine(zbo a.Mons (fun i (t:lN)=>((i:Int),a.Memory,a.Mons,a.Buffer,a.IoBuffer,[],[],[],[],(zen a.Memory),t,(ap [] a.Buffer),(ap [] a.IoBuffer),())) _ (fun _ x b m=>bif zpD x then (cond (few (ln (ap b [zqG x]))) (m (ap b [zqG x])) none) else none) (fun (t:lN)=>(some [(.agg (zbk (⟨(zen a.Memory),t,(ap [] a.Buffer),(ap [] a.IoBuffer)⟩:Host)))])) (fun i c t rec=>?_) (fun t rec=>?_) _ ([]) (d e.1)).trans ?_;{simp only [zbD c,zbf c,zbp c,zbi c e.1,cT]};{simp only [zbt,cF]};exact zjg zpD zqG _ a.Mons 0 [] (fun x l=>⟨zbM ((zZI x).2 (f.2 x l)),rfl⟩) (by simpa using e.2)
theorem zMG:vN 73 zCn:=kF1 zul zA zB zn zTY zTy
@[simp] abbrev zhd (k:Kept):Bool:=pc (SmK k)
@[simp] abbrev zdM (k:Kept):Kept:=k
def zy9:Run:=rF1 (dT .kept) fun b=>(zhd b,[aT .kept (zdM b)])
def zC0 (N:Nat)(a:Kept):OA:=
 (oN (few (ln (ap [] a.Known))) (oN (zfu a.Slots) (some [(aT .kept (⟨(ap [] a.Known),(zdR a.Slots)⟩:Kept))])))
theorem zPS (a:Kept)(b:zhd a=true):∃N,zC0 N a=some [aT .kept (zdM a)]:=by have c:=zL.1 b;obtain⟨f,g⟩:=c;have d:a.Known.length<=2147483648:=(by omega);have e:a.Slots.length<=2147483648:=(by omega);refine⟨0,?_⟩;unfold zC0 oN;refine mu (mu ?_);first|rfl|(simp only [*,zdM,cT,cF]<;>rfl)|simp_all[Ty.cells,zdM]
theorem zJm:vN 201 zy9:=kF1 zul zA zB zn (zq []) zPS
def z8T:zba:=[(73,zCn),(201,zy9)]++z0W
theorem zUO:zK z8T:=zh zMG (zh zJm zul)
@[simp] abbrev zkc (m:Mon):Bool:=pc (zeZ m)
@[simp] abbrev zkV (m:Mon):Mon:=m
def zB0:Run:=rF1 (dT .mon) fun b=>(zkc b,[aT .mon (zkV b)])
def zHe (N:Nat)(b:Mon):OA:=
 (oN (zfu b.Outer) (oN (zfS b.Out) (oN (few (ln (ap [] b.Dirty))) (oN (zfG b.Guests) (oN (zdC b.Outs) (iter (σ:=(Int×(Int×(Int×(Int×(Int×(Int×(Int×(Int×(lK×(lK×(lS×(lM×(lB×(lG×((List Int)×(lS×(lM×(lB×(lG×((List Int)×(lK×Unit)))))))))))))))))))))) N (fun i a=>let h:=a.2.2.2.2.2.2.2.2.2.2.2.2.1;let g:=a.2.2.2.2.2.2.2.2.2.2.2.2.2.1;let f:=a.2.2.2.2.2.2.2.2.2.2.2.2.2.2.1;let e:=a.2.2.2.2.2.2.2.2.1;let d:=a.2.2.2.2.2.2.2.2.2.1;let c:=(ix d a.2.1 zeh); (cond (ilt a.2.1 a.1) (oN (inb a.2.1 (ln d)) (oN (zhd c) (oN (few (ln (ap e [(zdM c)]))) (i (a.1,((zM .i64 a.2.1 1),(a.2.2.1,(a.2.2.2.1,(a.2.2.2.2.1,(a.2.2.2.2.2.1,(a.2.2.2.2.2.2.1,(a.2.2.2.2.2.2.2.1,((ap e [(zdM c)]),(d,(a.2.2.2.2.2.2.2.2.2.2.1,(a.2.2.2.2.2.2.2.2.2.2.2.1,(h,(g,(f,(a.2.2.2.2.2.2.2.2.2.2.2.2.2.2.2.1,(a.2.2.2.2.2.2.2.2.2.2.2.2.2.2.2.2.1,(a.2.2.2.2.2.2.2.2.2.2.2.2.2.2.2.2.2.1,(a.2.2.2.2.2.2.2.2.2.2.2.2.2.2.2.2.2.2.1,(a.2.2.2.2.2.2.2.2.2.2.2.2.2.2.2.2.2.2.2.1,(a.2.2.2.2.2.2.2.2.2.2.2.2.2.2.2.2.2.2.2.2.1,()))))))))))))))))))))))))) (some [(aT .mon (⟨a.2.2.2.2.2.2.2.2.2.2.1,a.2.2.2.2.2.2.2.2.2.2.2.1,h,g,f,a.2.2.1,a.2.2.2.1,e,a.2.2.2.2.1⟩:Mon))]))) ((ln b.Tables),(0,(b.Pending,(b.Traps,(b.Own,(0,(0,(0,([],(b.Tables,((zdR b.Outer),((zdu b.Out),((ap [] b.Dirty),((zf4 b.Guests),((zdx b.Outs),([],([],([],([],([],([],())))))))))))))))))))))))))))
def zTS:FuncId->Nat->Option Tmpl:=zq [(225,0,{n:=44,tm:=[(1,.lp 0 0),(2,.lp 1 0),(3,.sl 0 []),(29,.sl 1 []),(30,ti),(31,ti)],lo:=[(0,[.sl 2 [],.sl 3 [],.sl 4 [],.sl 5 [],.sl 6 [],ti,ti,.sl 1 [],ti]),(1,[.sl 7 [],.sl 8 [],.sl 9 [],.sl 10 [],.sl 11 [],ti,ti,.sl 12 [],ti])],ro:=[(0,.kept,true),(1,.kept,false),(2,.slot,true),(3,(.sl .int),true),(4,.bool,true),(5,.guest,true),(6,.int,true),(7,.slot,true),(8,(.sl .int),true),(9,.bool,true),(10,.guest,true),(11,.int,true),(12,.kept,true)]})]
theorem zS4 (a:Mon)(p:zkc a=true):∃N,zHe N a=some [aT .mon (zkV a)]:=by
 obtain⟨s,l,m,n,u,f⟩:=zL.1 p;have e:=zc3 f.1;refine zcz fun N d=>?_;unfold zHe oN;conv=>zeta
 have g:zfu a.Outer=true:=(by simp;omega);have h:zfS a.Out=true:=(by simp;exact l);have j:zfG a.Guests=true:=(by simp;exact n);have k:zdC a.Outs=true:=(by simp;omega);refine must g (must h (must (znN m) (must j (must k ?_))));refine(zbo a.Tables (fun i (t:lK)=>((ln a.Tables),(i:Int),a.Pending,a.Traps,a.Own,0,0,0,t,a.Tables,(zdR a.Outer),(zdu a.Out),(ap [] a.Dirty),(zf4 a.Guests),(zdx a.Outs),[],[],[],[],[],[],())) _ (fun _ x b r=>bif zhd x then (cond (few (ln (ap b [zdM x]))) (r (ap b [zdM x])) none) else none) (fun (t:lK)=>(some [(.agg (Ty.cells .mon (⟨(zdR a.Outer),(zdu a.Out),(ap [] a.Dirty),(zf4 a.Guests),(zdx a.Outs),a.Pending,a.Traps,t,a.Own⟩:Mon)))])) (fun i c t rec=>?_) (fun t rec=>?_) _ ([]) (d e.1)).trans ?_;{simp only [zbD c,zbf c,zbp c,zbi c e.1,cT]};{simp only [zbt,cF]};exact zjg zhd zdM _ a.Tables 0 [] (fun x q=>⟨zbM (f.2 x q),rfl⟩) (by simpa using e.2)
theorem zMa:vN 225 zB0:=kF1 zUO zA zB zn zTS zS4
def z8U:zba:=[(225,zB0)]++z8T
theorem zz9:zK z8U:=zh zMa zUO
@[simp] abbrev zop (h:Host):Bool:=pc (zcD h)
@[simp] abbrev zjs (h:Host):Host:=h
def zql:Run:=rF1 dH fun b=>(zop b,[aH (zjs b)])
def zCY (N:Nat)(b:Host):OA:=
 (oN (zfS b.Memory) (oN (few (ln (ap [] b.Buffer))) (oN (few (ln (ap [] b.IoBuffer))) (iter (σ:=(Int×(Int×(lN×(lM×(lN×(lE×(lE×(lM×(lN×(lE×(lE×Unit)))))))))))) N (fun e a=>let d:=(ix a.2.2.1 a.2.1 zi);let c:=(ap a.2.2.2.2.2.2.2.2.1 [(zkV d)]); (cond (ilt a.2.1 a.1) (oN (inb a.2.1 (ln a.2.2.1)) (oN (zkc d) (oN (few (ln c)) (e (a.1,((zM .i64 a.2.1 1),(a.2.2.1,(a.2.2.2.1,(a.2.2.2.2.1,(a.2.2.2.2.2.1,(a.2.2.2.2.2.2.1,(a.2.2.2.2.2.2.2.1,(c,(a.2.2.2.2.2.2.2.2.2.1,(a.2.2.2.2.2.2.2.2.2.2.1,()))))))))))))))) (some [(aH (⟨a.2.2.2.2.2.2.2.1,a.2.2.2.2.2.2.2.2.1,a.2.2.2.2.2.2.2.2.2.1,a.2.2.2.2.2.2.2.2.2.2.1⟩:Host))]))) ((ln b.Mons),(0,(b.Mons,([],([],([],([],((zdu b.Memory),([],((ap [] b.Buffer),((ap [] b.IoBuffer),())))))))))))))))
def zQQ:FuncId->Nat->Option Tmpl:=zq [(123,0,{n:=34,tm:=[(2,.lp 0 0),(3,.lp 1 0),(19,.sl 0 []),(20,ti),(21,ti)],lo:=[(0,[.sl 1 [],.sl 2 [],.sl 3 [],.sl 4 []]),(1,[.sl 5 [],.sl 6 [],.sl 7 [],.sl 8 []])],ro:=[(0,.mon,false),(1,(.sl .int),true),(2,.mon,true),(3,.entry,true),(4,.entry,true),(5,(.sl .int),true),(6,.mon,true),(7,.entry,true),(8,.entry,true)]})]
theorem zPQ (a:Host)(l:zop a=true):∃N,zCY N a=some [aH (zjs a)]:=by
 obtain⟨h,f,j,k⟩:=(zT a).1 (zL.1 l);have e:=zc3 f.1;refine zcz fun N d=>?_;unfold zCY oN;conv=>zeta
 have g:zfS a.Memory=true:=(by simp;exact h);refine must g (must (znN j) (must (znN k) ?_));refine(zbo a.Mons (fun i (t:lN)=>((ln a.Mons),(i:Int),a.Mons,[],[],[],[],(zdu a.Memory),t,(ap [] a.Buffer),(ap [] a.IoBuffer),())) _ (fun _ x b n=>bif zkc x then (cond (few (ln (ap b [zkV x]))) (n (ap b [zkV x])) none) else none) (fun (t:lN)=>(some [(.agg (zbk (⟨(zdu a.Memory),t,(ap [] a.Buffer),(ap [] a.IoBuffer)⟩:Host)))])) (fun i c t rec=>?_) (fun t rec=>?_) _ ([]) (d e.1)).trans ?_;{simp only [zbD c,zbf c,zbp c,zbi c e.1,cT]};{simp only [zbt,cF]};exact zjg zkc zkV _ a.Mons 0 [] (fun x m=>⟨zbM (f.2 x m),rfl⟩) (by simpa using e.2)
theorem zuw:vN 123 zql:=kF1 zz9 zA zB zn zQQ zPQ
def allI {a:Type}(p:Nat->a->Bool):List a->Nat->Bool
 |[],_=>true
 |x::l,i=>p i x&&allI p l (i+1)
theorem zJc {a b:Type}(p:Nat->a->Bool)(r:Option b)(K:Unit->Option b):∀(l:List a) (i:Nat),goL (fun i x (_:Unit) k=>bif p i x then k () else r) K l i ()=bif allI p l i then K () else r
 |[],_=>rfl
 |x::l,i=>by simp only[goL,allI];cases p i x;{rfl};{simp only [cT,u0];exact zJc p r K l (i+1)}
theorem zRu {a:Type}(q:a->Bool)(l:List a)(d:a):∀(n i:Nat),i+n<=l.length->zn5 (fun j=>q (ix l (j:Int) d)) n i=((l.drop i).take n).all q
 | 0,i,_=>by simp[zn5]
 |n+1,i,h=>by have b:i<l.length:=(by omega);rw[kX b,List.take_succ_cons,kW,<- zRu q l d n (i+1) (by omega)];simp only[zn5,zbp b]
def sameKey (a b:Entry):Bool:=bif ieq a.Tag b.Tag then ieq a.Page b.Page else false
def alone (l:List Entry)(i:Nat)(x:Entry):Bool:=(l.take i).all fun y=>!sameKey x y
def zeQ (l:List Entry):Bool:=bif allI (alone l) l 0 then ile (ln l) 6 else false
theorem z7a {a:Type}{l:List a}{i:Nat}(h:i<=l.length):inr 0 (i:Int) (ln l)=true:=qJ (by simp only[ln];omega)
@[simp] abbrev zoj (l:List Entry):Bool:=true
@[simp] abbrev zoi (l:List Entry):Bool:=zeQ l
def zy2:Run:=rF1 (dS .entry) fun b=>(zoj b,[aB (zoi b)])
def zCS (N:Nat)(g:lE):OA:=
 (iter (σ:=(Int×(Int×(lE×Unit)))) N (fun i b=>let c:=b.2.2.1;let e:=(ix c b.2.1 zeq); (cond (ilt b.2.1 b.1) (oN (inb b.2.1 (ln c)) (oN (inr 0 b.2.1 (ln c)) (iter (σ:=(Int×(Int×(Int×(Int×(Int×(Int×(Int×(Int×(lE×(lE×Unit))))))))))) N (fun j a=>let d:=a.2.2.2.1;let f:=a.2.2.2.2.2.2.2.2.2.1;let h:=(j (a.1,(a.2.1,(a.2.2.1,((zM .i64 d 1),(a.2.2.2.2.1,(a.2.2.2.2.2.1,(a.2.2.2.2.2.2.1,(a.2.2.2.2.2.2.2.1,(a.2.2.2.2.2.2.2.2.1,(f,()))))))))))); (cond (ilt d a.2.2.1) (oN (inb d (ln f)) (cond (ieq a.2.2.2.2.1 (ix f d zeq).Tag) (cond (ieq a.2.2.2.2.2.1 (ix f d zeq).Page) oF h) h)) (i (a.1,((zM .i64 a.2.1 1),(a.2.2.2.2.2.2.2.2.1,())))))) (b.1,(b.2.1,((ln (tk c b.2.1)),(0,(e.Tag,(e.Page,(e.Host,(e.Rights,(c,((tk c b.2.1),()))))))))))))) (some [(aB (ile (ln c) 6))]))) ((ln g),(0,(g,()))))
def zQP:FuncId->Nat->Option Tmpl:=zq [(253,0,{n:=39,tm:=[(0,.sl 0 []),(7,.sl 0 []),(8,ti),(9,ti)],lo:=[],ro:=[(0,.entry,false)]}),(253,2,{n:=39,tm:=[(0,.sl 0 []),(4,.lp 0 0),(7,.sl 0 []),(8,ti),(9,ti),(16,.sl 1 []),(17,ti),(18,ti)],lo:=[(0,[ti,ti,ti,ti])],ro:=[(0,.entry,false),(1,.entry,false)]})]
theorem zPJ (a:List Entry)(l:zce big [aS .entry a])(m:zoj a=true):∃N,zCS N a=some [aB (zoi a)]:=by
 have e:=(len0 l);refine zcz fun N d=>?_;unfold zCS oN;conv=>zeta
 refine(zbo a (fun i (t:Unit)=>((ln a),(i:Int),a,())) _ (fun i (x:Entry) (_:Unit) h=>bif alone a i x then h () else oF) (fun (t:Unit)=>(some [(.one (.b (ile (ln a) 6)))])) (fun i c t rec=>?_) (fun t rec=>?_) _ () (d e)).trans ?_;{simp only [zbD c,zbf c,zbp c,zbi c e,cT];rw[z7a (Nat.le_of_lt c),cT];have k:(tk a (i:Int)).length<=big:=qU (by simp[tk];omega) e;refine(zbo (tk a (i:Int)) (fun j (u:Unit)=>((ln a),(i:Int),(ln (tk a (i:Int))),(j:Int),a[i].Tag,a[i].Page,a[i].Host,a[i].Rights,a,(tk a (i:Int)),())) _ (fun _ (y:Entry) (_:Unit) h=>bif !sameKey a[i] y then h () else oF) (fun (u:Unit)=>(rec ((ln a),((((i+1:Nat)):Int),(a,()))))) (fun j g u f=>?_) (fun u f=>?_) _ () (d k)).trans ?_;{simp only [zbD g,zbf g,zbp g,zbi g k,cT,zbi c e];unfold sameKey;cases ieq a[i].Tag (tk a (i:Int))[j].Tag<;>cases ieq a[i].Page (tk a (i:Int))[j].Page<;>rfl};{simp only [zbt,cF,zbi c e]};rw[zgf (fun y=>!sameKey a[i] y)];rfl};{simp only [zbt,cF]};rw[zJc (alone a)];unfold zoi zeQ;cases allI (alone a) a 0<;>rfl
theorem zJf:vN 253 zy2:=hF1 zz9 zA zB zn zQP zPJ
@[simp] abbrev zoZ (l:List Entry):Bool:=true
@[simp] abbrev zoY (l:List Entry):Bool:=zeQ l
def zzh:Run:=rF1 (dS .entry) fun b=>(zoZ b,[aB (zoY b)])
def zDb (N:Nat)(f:lE):OA:=
 (iter (σ:=(Int×(lE×Unit))) N (fun g c=>(cond (ilt c.1 (ln c.2.1)) (iter (σ:=(Int×(Int×(lE×Unit)))) N (fun h a=>let b:=a.2.2.1;let e:=(ix b a.2.1 zeq);let d:=(h (a.1,((zM .i64 a.2.1 1),(b,())))); (cond (ilt a.2.1 a.1) (oN (inb a.1 (ln b)) (oN (inb a.2.1 (ln b)) (cond (ieq (ix b a.1 zeq).Tag e.Tag) (oN (inb a.1 (ln b)) (oN (inb a.2.1 (ln b)) (cond (ieq (ix b a.1 zeq).Page e.Page) oF d))) d))) (g ((zM .i64 a.1 1),(b,()))))) (c.1,(0,(c.2.1,())))) (some [(aB (ile (ln c.2.1) 6))]))) (0,(f,())))
def zQV:FuncId->Nat->Option Tmpl:=zq [(227,0,{n:=43,tm:=[(0,.sl 0 []),(3,ti)],lo:=[],ro:=[(0,.entry,false)]}),(227,2,{n:=43,tm:=[(0,.sl 0 []),(3,ti),(4,ti)],lo:=[],ro:=[(0,.entry,false)]})]
theorem zP2 (a:List Entry)(k:zce big [aS .entry a])(l:zoZ a=true):∃N,zDb N a=some [aB (zoY a)]:=by
 have g:=(len0 k);refine zcz fun N d=>?_;unfold zDb oN;conv=>zeta
 refine(zbo a (fun i (t:Unit)=>((i:Int),a,())) _ (fun i (x:Entry) (_:Unit) h=>bif alone a i x then h () else oF) (fun (t:Unit)=>(some [(.one (.b (ile (ln a) 6)))])) (fun i c t rec=>?_) (fun t rec=>?_) _ () (d g)).trans ?_;{simp only [zbD c,zbf c,zbp c,zbi c g,cT];refine(zAA i (fun (j:Nat) (_:Unit)=>((i:Int),((j:Int),(a,())))) _ (fun j (_:Unit) h=>bif !sameKey a[i] (ix a (j:Int) zeq) then h () else oF) (fun _=>rec (((i+1:Nat):Int),(a,()))) (fun j m u f=>?_) (fun u f=>?_) _ () (d (by omega))).trans ?_;{have e:j<a.length:=(by omega);simp only[show ilt (j:Int) (i:Int)=true from qJ (by omega),zbf c,zbf e,zbp c,zbi e g,cT];unfold sameKey;cases ieq a[i].Tag (ix a (j:Int) zeq).Tag<;>cases ieq a[i].Page (ix a (j:Int) zeq).Page<;>rfl};{simp only [show ilt (i:Int) (i:Int)=false from qH (by omega),zbi c g,cF]};rw[zF0 (fun j=>!sameKey a[i] (ix a (j:Int) zeq)),zRu (fun y=>!sameKey a[i] y) a _ i 0 (by omega)];rfl};{simp only [zbt,cF]};rw[zJc (alone a)];unfold zoY zeQ;cases allI (alone a) a 0<;>rfl
theorem zJu:vN 227 zzh:=hF1 zz9 zA zB zn zQV zP2
def z8V:zba:=[(123,zql),(227,zzh),(253,zy2)]++z8U
theorem zI0:zK z8V:=zh zuw (zh zJu (zh zJf zz9))
theorem zPD (a b:Int):igt a b = !ile a b:=by unfold igt ile;by_cases h:a<=b;{rw [qJ h,qH (by omega)];rfl};{rw [qH h,qJ (by omega)];rfl}
theorem stB {c M:Bool}{E:OA}(h:c=true->E=some [AV.one (.b M)]):(cond (cond c false true) (some [AV.one (.b false)]) E)=some [AV.one (.b (cond c M false))]:=by cases c;{rfl};{exact h rfl}
theorem stI {a b:Int}{M:Bool}{E:OA}(h:ieq a b=true->E=some [AV.one (.b M)]):(cond (ine a b) (some [AV.one (.b false)]) E)=some [AV.one (.b (cond (ieq a b) M false))]:=by rw[zyG];cases c:ieq a b;{rfl};{exact h c}
theorem stG {a b:Int}{M:Bool}{E:OA}(h:ile a b=true->E=some [AV.one (.b M)]):(cond (igt a b) (some [AV.one (.b false)]) E)=some [AV.one (.b (cond (ile a b) M false))]:=by rw[zPD];cases c:ile a b;{rfl};{exact h c}
def zlN (s:Slot)(p:List Int):Bool:=bif zcU s noSlot then zci p else (cond (enough s.Rights 1) (ile (ln p) 0) false)
def fits (m:Mon)(j:Nat):Bool:=zlN (ix m.Outer (j:Int) zV) (ix m.Out (j:Int) [])
def zdY (m:Mon):Bool:=bif win (ln m.Guests) 1 2 then (cond (ieq (ln m.Tables) (ln m.Guests)) (cond (zcS m.Outer 8 12) (cond (ieq (ln m.Out) 8) (cond (ieq (ln m.Dirty) 8) (cond (ile (ln m.Outs) 40) (cond (zc6 m.Pending) (cond (win m.Traps 0 3) (cond (win m.Own 0 1000000000) (cond (m.Guests.all zc4) (zn5 (fits m) 8 0) false) false) false) false) false) false) false) false) false) else false
theorem zsn {t:List Slot}{n p:Int}(h:zcS t n p=true):ln t=n:=by unfold zcS at h;cases a:t.all (fun s=>zdD s p);{rw [a]at h;cases h};{rw [a]at h;exact qE h}
@[simp] abbrev zr6 (m:Mon):Bool:=true
@[simp] abbrev ztW (m:Mon):Bool:=zdY m
def zIc:Run:=rF1 (dT .mon) fun b=>(zr6 b,[aB (ztW b)])
def zRd (N:Nat)(a:Mon):OA:=
 let h:=(ln a.Guests); (oN (zb0 h 1 2) (cond (nB (zcp h 1 2)) oF (cond (ine (ln a.Tables) h) oF (oN (zmx a.Outer 8 12) (cond (nB (zhY a.Outer 8 12)) oF (cond (ine (ln a.Out) 8) oF (cond (ine (ln a.Dirty) 8) oF (cond (igt (ln a.Outs) 40) oF (oN (zlG a.Pending) (cond (nB (zkQ a.Pending)) oF (oN (zb0 a.Traps 0 3) (cond (nB (zcp a.Traps 0 3)) oF (oN (zb0 a.Own 0 1000000000) (cond (nB (zcp a.Own 0 1000000000)) oF (iter (σ:=(Int×(Int×(Int×(Int×(Int×(lG×(lS×(lM×(lB×((List Int)×(lK×Unit)))))))))))) N (fun l b=>let i:=b.2.2.2.2.2.2.1;let g:=b.2.2.2.2.2.1;let k:=(ix g b.2.1 zD); (cond (ilt b.2.1 b.1) (oN (inb b.2.1 (ln g)) (oN (zmw k) (cond (nB (zkP k)) oF (l (b.1,((zM .i64 b.2.1 1),(b.2.2.1,(b.2.2.2.1,(b.2.2.2.2.1,(g,(i,(b.2.2.2.2.2.2.2.1,(b.2.2.2.2.2.2.2.2.1,(b.2.2.2.2.2.2.2.2.2.1,(b.2.2.2.2.2.2.2.2.2.2.1,()))))))))))))))) (iter (σ:=(Int×(Int×(Int×(Int×(Int×(lS×(lM×(lB×(lG×((List Int)×(lK×Unit)))))))))))) N (fun m c=>let d:=c.2.1;let e:=c.2.2.2.2.2.2.1;let f:=(ix c.2.2.2.2.2.1 d zV);let j:=(m (c.1,((zM .i64 d 1),(c.2.2.1,(c.2.2.2.1,(c.2.2.2.2.1,(c.2.2.2.2.2.1,(e,(c.2.2.2.2.2.2.2.1,(c.2.2.2.2.2.2.2.2.1,(c.2.2.2.2.2.2.2.2.2.1,(c.2.2.2.2.2.2.2.2.2.2.1,())))))))))))); (cond (ilt d c.1) (oN (inb d (ln c.2.2.2.2.2.1)) (oN ze7 (cond (cond (ieq f.Page ze6.Page) (ieq f.Rights ze6.Rights) false) (oN (inb d (ln e)) (oN (zhX (ix e d [])) (cond (nB (zgn (ix e d []))) oF j))) (oN (zew f.Rights 1) (cond (nB (ze5 f.Rights 1)) oF (oN (inb d (ln e)) (cond (igt (ln (ix e d [])) 0) oF j))))))) oT)) ((ln i),(0,(b.2.2.1,(b.2.2.2.1,(b.2.2.2.2.1,(i,(b.2.2.2.2.2.2.2.1,(b.2.2.2.2.2.2.2.2.1,(g,(b.2.2.2.2.2.2.2.2.2.1,(b.2.2.2.2.2.2.2.2.2.2.1,())))))))))))))) (h,(0,(a.Pending,(a.Traps,(a.Own,(a.Guests,(a.Outer,(a.Out,(a.Dirty,(a.Outs,(a.Tables,()))))))))))))))))))))))))))
def zZv:FuncId->Nat->Option Tmpl:=zq [(254,0,{n:=106,tm:=[(1,.lp 0 0),(64,.sl 0 []),(65,ti),(66,ti)],lo:=[(0,[.sl 1 [],.sl 2 [],.sl 3 [],.sl 0 [],.sl 4 [],ti,ti,.sl 5 [],ti])],ro:=[(0,.guest,false),(1,.slot,false),(2,(.sl .int),false),(3,.bool,false),(4,.int,false),(5,.kept,false)]}),(254,2,{n:=106,tm:=[(1,.lp 0 0),(75,.sl 0 []),(76,ti),(77,ti)],lo:=[(0,[.sl 0 [],.sl 1 [],.sl 2 [],.sl 3 [],.sl 4 [],ti,ti,.sl 5 [],ti])],ro:=[(0,.slot,false),(1,(.sl .int),false),(2,.bool,false),(3,.guest,false),(4,.int,false),(5,.kept,false)]})]
theorem zYw (a:Mon)(l:zce big [aT .mon a])(E:zr6 a=true):∃N,zRd N a=some [aB (ztW a)]:=by
 have hg:a.Guests.length<=big:=((zc9 l).1 (.s .guest a.Guests) (by simp[AV.cvs,Ty.cells])).len;have m:a.Outer.length<=big:=((zc9 l).1 (.s .slot a.Outer) (by simp[AV.cvs,Ty.cells])).len;refine zcz fun N d=>?_;unfold zRd ztW zdY oN nB;conv=>zeta
 refine must rfl (stB fun w=>stI fun y=>must rfl (stB fun r=>stI fun v=>stI fun z=>stG fun A=>must rfl (stB fun B=>must rfl (stB fun C=>must rfl (stB fun D=>?_)))));have p:=zsn r;have q:ln a.Out=8:=qE v;simp only[ln] at p q;refine(zbo a.Guests (fun i (t:Unit)=>((ln a.Guests),(i:Int),a.Pending,a.Traps,a.Own,a.Guests,a.Outer,a.Out,a.Dirty,a.Outs,a.Tables,())) _ (fun _ (x:Guest) (_:Unit) g=>bif zc4 x then g () else oF) (fun (t:Unit)=>(iter (σ:=(Int×(Int×(Int×(Int×(Int×(lS×(lM×(lB×(lG×((List Int)×(lK×Unit)))))))))))) N (fun n c=>(cond (ilt c.2.1 c.1) (cond (inb c.2.1 (ln c.2.2.2.2.2.1)) (cond ze7 (cond (cond (ieq (ix c.2.2.2.2.2.1 c.2.1 zV).Page ze6.Page) (ieq (ix c.2.2.2.2.2.1 c.2.1 zV).Rights ze6.Rights) false) (cond (inb c.2.1 (ln c.2.2.2.2.2.2.1)) (cond (zhX (ix c.2.2.2.2.2.2.1 c.2.1 [])) (cond (cond (zgn (ix c.2.2.2.2.2.2.1 c.2.1 [])) false true) oF (n (c.1,((zM .i64 c.2.1 1),(c.2.2.1,(c.2.2.2.1,(c.2.2.2.2.1,(c.2.2.2.2.2.1,(c.2.2.2.2.2.2.1,(c.2.2.2.2.2.2.2.1,(c.2.2.2.2.2.2.2.2.1,(c.2.2.2.2.2.2.2.2.2.1,(c.2.2.2.2.2.2.2.2.2.2.1,()))))))))))))) none) none) (cond (zew (ix c.2.2.2.2.2.1 c.2.1 zV).Rights 1) (cond (cond (ze5 (ix c.2.2.2.2.2.1 c.2.1 zV).Rights 1) false true) oF (cond (inb c.2.1 (ln c.2.2.2.2.2.2.1)) (cond (igt (ln (ix c.2.2.2.2.2.2.1 c.2.1 [])) 0) oF (n (c.1,((zM .i64 c.2.1 1),(c.2.2.1,(c.2.2.2.1,(c.2.2.2.2.1,(c.2.2.2.2.2.1,(c.2.2.2.2.2.2.1,(c.2.2.2.2.2.2.2.1,(c.2.2.2.2.2.2.2.2.1,(c.2.2.2.2.2.2.2.2.2.1,(c.2.2.2.2.2.2.2.2.2.2.1,()))))))))))))) none)) none)) none) none) (some [(.one (.b true))]))) ((ln a.Outer),(0,(a.Pending,(a.Traps,(a.Own,(a.Outer,(a.Out,(a.Dirty,(a.Guests,(a.Outs,(a.Tables,()))))))))))))) (fun i h t rec=>?_) (fun t rec=>?_) _ () (d hg)).trans ?_;{simp only [zbD h,zbf h,zbp h,zbi h hg,cT];simp only[zmw,zkP,cT];cases zc4 a.Guests[i]<;>rfl};{simp only [zbt,cF]};rw[zgf zc4];cases a.Guests.all zc4;{rfl};simp only[cT];refine(zbo a.Outer (fun j (u:Unit)=>((ln a.Outer),(j:Int),a.Pending,a.Traps,a.Own,a.Outer,a.Out,a.Dirty,a.Guests,a.Outs,a.Tables,())) _ (fun j (_:Slot) (_:Unit) g=>bif fits a j then g () else oF) (fun (u:Unit)=>(some [(.one (.b true))])) (fun j e u f=>?_) (fun u f=>?_) _ () (d m)).trans ?_;{simp only [zbD e,zbf e,zbp e,zbi e m,cT];have k:j<a.Out.length:=(by omega);simp only[ze7,ze6,zhX,zgn,zew,ze5,zbf k,zPD,cT];unfold fits zlN;simp only[zbp e,zcU];cases ieq a.Outer[j].Page noSlot.Page<;>cases ieq a.Outer[j].Rights noSlot.Rights<;>cases enough a.Outer[j].Rights 1<;>cases ile (ln (ix a.Out (j:Int) [])) 0<;>cases zci (ix a.Out (j:Int) [])<;>rfl};{simp only [zbt,cF]};rw[zyu (fun j (_:Unit) g=>bif fits a j then g () else oF),zF0 (fits a),show a.Outer.length=8 by omega];cases zn5 (fits a) 8 0<;>rfl
theorem zSE:vN 254 zIc:=hF1 zI0 zA zB zn zZv zYw
@[simp] abbrev zsh (m:Mon):Bool:=true
@[simp] abbrev zt3 (m:Mon):Bool:=zdY m
def zIl:Run:=rF1 (dT .mon) fun b=>(zsh b,[aB (zt3 b)])
def zRm (N:Nat)(c:Mon):OA:=
 (oN (zO (ln c.Guests) 1 2) (cond (nB (zS (ln c.Guests) 1 2)) oF (cond (ine (ln c.Tables) (ln c.Guests)) oF (oN (zmQ c.Outer 8 12) (cond (nB (zh5 c.Outer 8 12)) oF (cond (ine (ln c.Out) 8) oF (cond (ine (ln c.Dirty) 8) oF (iter (σ:=(Int×(Int×(Int×(Int×(lS×(lM×(lB×(lG×((List Int)×(lK×Unit))))))))))) N (fun l b=>let d:=b.2.2.2.2.2.2.2.1; (cond (ilt b.1 (ln d)) (oN (inb b.1 (ln d)) (oN (zmM (ix d b.1 zD)) (cond (nB (zlc (ix d b.1 zD))) oF (l ((zM .i64 b.1 1),(b.2.1,(b.2.2.1,(b.2.2.2.1,(b.2.2.2.2.1,(b.2.2.2.2.2.1,(b.2.2.2.2.2.2.1,(d,(b.2.2.2.2.2.2.2.2.1,(b.2.2.2.2.2.2.2.2.2.1,())))))))))))))) (iter (σ:=(Int×(Int×(Int×(Int×(lS×(lM×(lB×(lG×((List Int)×(lK×Unit))))))))))) N (fun m a=>let h:=a.2.2.2.2.1;let i:=(inb a.1 (ln a.2.2.2.2.2.1));let e:=(ix a.2.2.2.2.2.1 a.1 []);let g:=(ix h a.1 zV);let k:=(ieq g.Rights zbw.Rights);let j:=(ieq g.Page zbw.Page);let f:=(m ((zM .i64 a.1 1),(a.2.1,(a.2.2.1,(a.2.2.2.1,(h,(a.2.2.2.2.2.1,(a.2.2.2.2.2.2.1,(a.2.2.2.2.2.2.2.1,(a.2.2.2.2.2.2.2.2.1,(a.2.2.2.2.2.2.2.2.2.1,()))))))))))); (cond (ilt a.1 8) (oN (inb a.1 (ln h)) (oN zcx (cond (nB (cond j k false)) (oN i (cond (igt (ln e) 0) oF (oN (inb a.1 (ln h)) (oN (zgC g.Rights 1) (cond (nB (zho g.Rights 1)) oF (cond (nB (nB (cond j k false))) (oN i (oN (zfT e) (cond (nB (zfh e)) oF f))) f)))))) (cond (nB (nB (cond j k false))) (oN i (oN (zfT e) (cond (nB (zfh e)) oF f))) f)))) (cond (ile (ln a.2.2.2.2.2.2.2.2.1) 40) (oN (zfj a.2.1) (cond (zfi a.2.1) (oN (zO a.2.2.1 0 3) (cond (zS a.2.2.1 0 3) (oN (zO a.2.2.2.1 0 1000000000) (some [(aB (zS a.2.2.2.1 0 1000000000))])) oF)) oF)) oF))) (0,(b.2.1,(b.2.2.1,(b.2.2.2.1,(b.2.2.2.2.1,(b.2.2.2.2.2.1,(b.2.2.2.2.2.2.1,(d,(b.2.2.2.2.2.2.2.2.1,(b.2.2.2.2.2.2.2.2.2.1,()))))))))))))) (0,(c.Pending,(c.Traps,(c.Own,(c.Outer,(c.Out,(c.Dirty,(c.Guests,(c.Outs,(c.Tables,()))))))))))))))))))
def zZx:FuncId->Nat->Option Tmpl:=zq [(228,0,{n:=115,tm:=[(1,.lp 0 0),(3,ti)],lo:=[(0,[.sl 0 [],.sl 1 [],.sl 2 [],.sl 3 [],.sl 4 [],ti,ti,.sl 5 [],ti])],ro:=[(0,.slot,false),(1,(.sl .int),false),(2,.bool,false),(3,.guest,false),(4,.int,false),(5,.kept,false)]}),(228,2,{n:=115,tm:=[(1,.lp 0 0),(4,ti)],lo:=[(0,[.sl 0 [],.sl 1 [],.sl 2 [],.sl 3 [],.sl 4 [],ti,ti,.sl 5 [],ti])],ro:=[(0,.slot,false),(1,(.sl .int),false),(2,.bool,false),(3,.guest,false),(4,.int,false),(5,.kept,false)]})]
theorem zYG (c:Mon)(r:zce big [aT .mon c])(A:zsh c=true):∃N,zRm N c=some [aB (zt3 c)]:=by
 have hg:c.Guests.length<=big:=((zc9 r).1 (.s .guest c.Guests) (by simp[AV.cvs,Ty.cells])).len;refine zcz fun N d=>?_;unfold zRm zt3 zdY oN nB;conv=>zeta
 refine must rfl (stB fun w=>stI fun y=>must rfl (stB fun p=>stI fun q=>stI fun z=>?_));have m:=zsn p;have n:ln c.Out=8:=qE q;simp only[ln] at m n;refine(zbo c.Guests (fun i (t:Unit)=>((i:Int),c.Pending,c.Traps,c.Own,c.Outer,c.Out,c.Dirty,c.Guests,c.Outs,c.Tables,())) _ (fun _ (x:Guest) (_:Unit) l=>bif zc4 x then l () else oF) (fun (t:Unit)=>(iter (σ:=(Int×(Int×(Int×(Int×(lS×(lM×(lB×(lG×((List Int)×(lK×Unit))))))))))) N (fun h a=>(cond (ilt a.1 8) (cond (inb a.1 (ln a.2.2.2.2.1)) (cond zcx (cond (cond (cond (ieq (ix a.2.2.2.2.1 a.1 zV).Page zbw.Page) (ieq (ix a.2.2.2.2.1 a.1 zV).Rights zbw.Rights) false) false true) (cond (inb a.1 (ln a.2.2.2.2.2.1)) (cond (igt (ln (ix a.2.2.2.2.2.1 a.1 [])) 0) oF (cond (inb a.1 (ln a.2.2.2.2.1)) (cond (zgC (ix a.2.2.2.2.1 a.1 zV).Rights 1) (cond (cond (zho (ix a.2.2.2.2.1 a.1 zV).Rights 1) false true) oF (cond (cond (cond (cond (ieq (ix a.2.2.2.2.1 a.1 zV).Page zbw.Page) (ieq (ix a.2.2.2.2.1 a.1 zV).Rights zbw.Rights) false) false true) false true) (cond (inb a.1 (ln a.2.2.2.2.2.1)) (cond (zfT (ix a.2.2.2.2.2.1 a.1 [])) (cond (cond (zfh (ix a.2.2.2.2.2.1 a.1 [])) false true) oF (h ((zM .i64 a.1 1),(a.2.1,(a.2.2.1,(a.2.2.2.1,(a.2.2.2.2.1,(a.2.2.2.2.2.1,(a.2.2.2.2.2.2.1,(a.2.2.2.2.2.2.2.1,(a.2.2.2.2.2.2.2.2.1,(a.2.2.2.2.2.2.2.2.2.1,())))))))))))) none) none) (h ((zM .i64 a.1 1),(a.2.1,(a.2.2.1,(a.2.2.2.1,(a.2.2.2.2.1,(a.2.2.2.2.2.1,(a.2.2.2.2.2.2.1,(a.2.2.2.2.2.2.2.1,(a.2.2.2.2.2.2.2.2.1,(a.2.2.2.2.2.2.2.2.2.1,()))))))))))))) none) none)) none) (cond (cond (cond (cond (ieq (ix a.2.2.2.2.1 a.1 zV).Page zbw.Page) (ieq (ix a.2.2.2.2.1 a.1 zV).Rights zbw.Rights) false) false true) false true) (cond (inb a.1 (ln a.2.2.2.2.2.1)) (cond (zfT (ix a.2.2.2.2.2.1 a.1 [])) (cond (cond (zfh (ix a.2.2.2.2.2.1 a.1 [])) false true) oF (h ((zM .i64 a.1 1),(a.2.1,(a.2.2.1,(a.2.2.2.1,(a.2.2.2.2.1,(a.2.2.2.2.2.1,(a.2.2.2.2.2.2.1,(a.2.2.2.2.2.2.2.1,(a.2.2.2.2.2.2.2.2.1,(a.2.2.2.2.2.2.2.2.2.1,())))))))))))) none) none) (h ((zM .i64 a.1 1),(a.2.1,(a.2.2.1,(a.2.2.2.1,(a.2.2.2.2.1,(a.2.2.2.2.2.1,(a.2.2.2.2.2.2.1,(a.2.2.2.2.2.2.2.1,(a.2.2.2.2.2.2.2.2.1,(a.2.2.2.2.2.2.2.2.2.1,()))))))))))))) none) none) (cond (ile (ln a.2.2.2.2.2.2.2.2.1) 40) (cond (zfj a.2.1) (cond (zfi a.2.1) (cond (zO a.2.2.1 0 3) (cond (zS a.2.2.1 0 3) (cond (zO a.2.2.2.1 0 1000000000) (some [(.one (.b (zS a.2.2.2.1 0 1000000000)))]) none) oF) none) oF) none) oF))) (0,(c.Pending,(c.Traps,(c.Own,(c.Outer,(c.Out,(c.Dirty,(c.Guests,(c.Outs,(c.Tables,())))))))))))) (fun i g t rec=>?_) (fun t rec=>?_) _ () (d hg)).trans ?_;{simp only [zbD g,zbf g,zbp g,zbi g hg,cT];simp only[zmM,zlc,cT];cases zc4 c.Guests[i]<;>rfl};{simp only [zbt,cF]};rw[zgf zc4];cases B:c.Guests.all zc4;{simp only [cF];cases ile (ln c.Outs) 40<;>cases zc6 c.Pending<;>cases win c.Traps 0 3<;>cases win c.Own 0 1000000000<;>rfl};simp only[cT];refine(zAA 8 (fun j (u:Unit)=>((j:Int),c.Pending,c.Traps,c.Own,c.Outer,c.Out,c.Dirty,c.Guests,c.Outs,c.Tables,())) _ (fun j (_:Unit) l=>bif fits c j then l () else oF) (fun (u:Unit)=>(cond (ile (ln c.Outs) 40) (cond (zfj c.Pending) (cond (zfi c.Pending) (cond (zO c.Traps 0 3) (cond (zS c.Traps 0 3) (cond (zO c.Own 0 1000000000) (some [(.one (.b (zS c.Own 0 1000000000)))]) none) oF) none) oF) none) oF)) (fun j v u f=>?_) (fun u f=>?_) _ () (d (by decide))).trans ?_;{simp only [show ilt (j:Int) 8=true from qJ (by omega),zbi v (show 8<=big by decide),cT];have e:j<c.Outer.length:=(by omega);have k:j<c.Out.length:=(by omega);simp only[zcx,zbw,zfT,zfh,zgC,zho,zbf e,zbf k,zPD,cT];unfold fits zlN;simp only[zbp e,zcU];cases ieq c.Outer[j].Page noSlot.Page<;>cases ieq c.Outer[j].Rights noSlot.Rights<;>cases enough c.Outer[j].Rights 1<;>cases ile (ln (ix c.Out (j:Int) [])) 0<;>cases zci (ix c.Out (j:Int) [])<;>rfl};{simp only [show ilt (((8:Nat)):Int) 8=false from qH (by omega),cF];rfl};rw[zF0 (fits c)];simp only[zfj,zfi,zO,zUg,cT];cases zn5 (fits c) 8 0<;>cases ile (ln c.Outs) 40<;>cases zc6 c.Pending<;>cases win c.Traps 0 3<;>cases win c.Own 0 1000000000<;>rfl
theorem zSO:vN 228 zIl:=hF1 zI0 zA zB zn zZx zYG
def z8W:zba:=[(228,zIl),(254,zIc)]++z8V
theorem zI1:zK z8W:=zh zSO (zh zSE zI0)
def zgz:List Slot->List Bool->Option (List Bool)
 |[],u=>some u
 |s::l,u=>bif ilt s.Page 0 then zgz l u else (cond (ix u s.Page false) none (zgz l (up u s.Page true)))
def ziE:List Mon->List Bool->Bool
 |[],_=>true
 |m::l,u=>bif zdY m then (match zgz m.Outer u with|some a=>ziE l a|none=>false) else false
def zbW (h:Host):Bool:=bif zhy h.Memory 12 then (cond (win (ln h.Mons) 1 3) (cond (zeQ h.Buffer) (cond (zeQ h.IoBuffer) (ziE h.Mons (rp 12 false)) false) false) false) else false
theorem zpJ:∀(l:List Slot) (u a:List Bool),zgz l u=some a->a.length=u.length
 |[],u,a,h=>by cases h;rfl
 |s::l,u,a,h=>by simp only[zgz]at h;cases b:ilt s.Page 0;{rw [b]at h;cases c:ix u s.Page false;{rw [c]at h;simpa using zpJ l _ a h};{rw [c]at h;cases h}};{rw [b]at h;exact zpJ l u a h}
theorem zGe {t:List Slot}{n:Int}(h:zcS t n 12=true):∀s∈t,s.Page<12:=by intro s d;unfold zcS at h;cases b:t.all (fun s=>zdD s 12);{rw [b]at h;cases h};{have:=qM.1 b s d;unfold zdD at this;cases a:zcU s noSlot;{rw [a] at this;simp only[cF,show igt 12 0=true from rfl,cT] at this;cases c:win s.Page 0 (wsub .i64 12 1);{rw [c] at this;cases this};{have:=(zfP.1 c).2;rw[show wsub .i64 12 1=11 from rfl] at this;omega}};{unfold zcU at a;rw[qD]at a;have a:s.Page = -1:=qE a.1;omega}}
theorem zXW {s:Slot}{u:List Bool}(h:s.Page<12)(b:u.length=12)(a:ilt s.Page 0=false):inb s.Page (ln u)=true:=by have:=jU a;exact qJ (by simp only[ln];omega)
def zuj {a:Type}(r:Option a)(y:Slot)(u:List Bool)(b:List Bool->Option a):Option a:=bif ilt y.Page 0 then b u else (cond (inb y.Page (ln u)) (cond (ix u y.Page false) r (cond (inb y.Page (ln u)) (share (up u y.Page true) (fun c=>b c)) none)) none)
theorem zAj {c:Type}(r:Option c)(K:List Bool->Option c):∀(l:List Slot) (i:Nat) (u:List Bool),(∀s∈l,s.Page<12)->u.length=12->
 goL (fun _ y u g=>zuj r y u g) K l i u=match zgz l u with|some f=>K f|none=>r
 |[],_,_,_,_=>rfl
 |s::l,i,u,h,b=>by simp only[goL,zgz,zuj];cases d:ilt s.Page 0;{have e:=zXW (h s (by simp)) b d;rw[e];cases ix u s.Page false;{simp only [cF,cT,share];exact zAj r K l (i+1) _ (fun s a=>h s (by simp[a])) (by simpa using b)};{rfl}};{simp only [cT];exact zAj r K l (i+1) u (fun s a=>h s (by simp[a])) b}
def z0K {b:Type}(r:Option b)(m:Mon)(u:List Bool)(a:List Bool->Option b):Option b:=bif zdY m then goL (fun _ y u a=>zuj r y u a) a m.Outer 0 u else r
theorem zda {c x:Bool}:((cond c x false)=true)↔c=true/\x=true:=by cases c<;>simp
theorem zmF {m:Mon}(h:zdY m=true):zcS m.Outer 8 12=true:=by unfold zdY at h;simp only[zda]at h;exact h.2.2.1
theorem zU9 {K:Bool->OA}(k:List Bool->OA)(a:∀u,k u=K true):∀(l:List Mon) (i:Nat) (u:List Bool),u.length=12->
 goL (fun _ m u g=>z0K (K false) m u g) k l i u=K (ziE l u)
 |[],_,u,_=>a u
 |m::l,i,u,b=>by simp only[goL,ziE,z0K];cases c:zdY m;{rfl};{simp only [cT];have e:=zmF c;rw[zAj _ _ _ _ _ (zGe e) b];cases d:zgz m.Outer u with|none=>rfl|some f=>exact zU9 k a l (i+1) f ((zpJ _ _ _ d).trans b)}
@[simp] abbrev ztr (h:Host):Bool:=true
@[simp] abbrev znr (h:Host):Bool:=zbW h
def zEC:Run:=rF1 dH fun b=>(ztr b,[aB (znr b)])
def zKQ (N:Nat)(c:Host):OA:=
 (oN (zr4 c.Memory 12) (cond (nB (zlF c.Memory 12)) oF (oN (zb0 (ln c.Mons) 1 3) (cond (nB (zcp (ln c.Mons) 1 3)) oF (oN (zoj c.Buffer) (cond (nB (zoi c.Buffer)) oF (oN (zoj c.IoBuffer) (cond (nB (zoi c.IoBuffer)) oF (oN (cond (few 12) (ieq 12 12) false) (iter (σ:=(Int×(Int×(lB×(lN×Unit))))) N (fun k b=>let h:=(ix b.2.2.2.1 b.2.1 zi); (cond (ilt b.2.1 b.1) (oN (inb b.2.1 (ln b.2.2.2.1)) (oN (zr6 h) (cond (nB (ztW h)) oF (iter (σ:=(Int×(Int×(Int×(Int×(Int×(lB×(lN×Unit)))))))) N (fun i a=>let f:=a.2.2.2.2.1;let g:=a.2.2.2.2.2.2.1;let j:=(ix g a.2.2.1 zi).Outer;let d:=a.2.2.2.2.2.1;let e:=(ix j f zV).Page; (cond (ilt f a.2.2.2.1) (oN (inb f (ln j)) (cond (ilt e 0) (i (a.1,(a.2.1,(a.2.2.1,(a.2.2.2.1,((zM .i64 f 1),(d,(g,())))))))) (oN (inb e (ln d)) (cond (ix d e false) oF (oN (inb e (ln d)) (share (up d e true) (fun l=>(i (a.1,(a.2.1,(a.2.2.1,(a.2.2.2.1,((zM .i64 f 1),(l,(g,()))))))))))))))) (k (a.1,((zM .i64 a.2.1 1),(d,(g,()))))))) (b.1,(b.2.1,(b.2.1,((ln h.Outer),(0,(b.2.2.1,(b.2.2.2.1,()))))))))))) oT)) ((ln c.Mons),(0,((rp 12 false),(c.Mons,()))))))))))))))
def zXx:FuncId->Nat->Option Tmpl:=zq [(159,0,{n:=63,tm:=[(3,.sl 0 []),(33,.sl 1 []),(34,ti),(35,ti)],lo:=[],ro:=[(0,.bool,true),(1,.mon,false)]}),(159,2,{n:=63,tm:=[(3,.sl 0 []),(33,.sl 1 []),(34,ti),(35,ti),(43,.sl 1 [0]),(44,ti),(45,ti)],lo:=[],ro:=[(0,.bool,true),(1,.mon,false)]})]
theorem zVy (a:Host)(n:zce big [aH a])(w:ztr a=true):∃N,zKQ N a=some [aB (znr a)]:=by
 have l:CVB big (.s .mon a.Mons):=(zc9 n).1 _ (by simp[AV.cvs,zbk]);have g:=l.len;refine zcz fun N d=>?_;unfold zKQ znr zbW oN nB;conv=>zeta
 refine must rfl (stB fun p=>must rfl (stB fun q=>must rfl (stB fun r=>must rfl (stB fun v=>must rfl ?_))));refine(zbo a.Mons (fun i (t:lB)=>((ln a.Mons),(i:Int),t,a.Mons,())) _ (fun _ (x:Mon) (u:List Bool) h=>z0K (oF) x u h) (fun (t:lB)=>(some [(.one (.b true))])) (fun i c t rec=>?_) (fun t rec=>?_) _ ((rp 12 false)) (d g)).trans ?_;{simp only [zbD c,zbf c,zbp c,zbi c g,cT];unfold z0K;cases k:zdY a.Mons[i];{simp only [zr6,ztW,k,cT,cF]};simp only[zr6,ztW,k,cT,cF];have m:a.Mons[i].Outer.length<=big:=(l.inv.2 _ (jL c) (.s .slot _) (by simp[Ty.cells])).len;refine(zbo a.Mons[i].Outer (fun j (u:lB)=>((ln a.Mons),(i:Int),(i:Int),(ln a.Mons[i].Outer),(j:Int),u,a.Mons,())) _ (fun _ (y:Slot) (u:List Bool) h=>zuj (oF) y u h) (fun (u:lB)=>(rec ((ln a.Mons),((((i+1:Nat)):Int),(u,(a.Mons,())))))) (fun j f u e=>?_) (fun u e=>?_) _ (t) (d m)).trans ?_;{simp only [zbD f,zbf f,zbp f,zbi f m,cT,zbf c,zbp c,zbi c g];rfl};{simp only [zbt,cF,zbf c,zbp c,zbi c g]};rfl};{simp only [zbt,cF]};exact zU9 (K:=fun b=>some [AV.one (.b b)]) _ (fun _=>rfl) _ _ _ rfl
theorem zOQ:vN 159 zEC:=hF1 zI1 zA zB zn zXx zVy
@[simp] abbrev zff (h:Host):Bool:=true
@[simp] abbrev zfe (h:Host):Bool:=zbW h
theorem zJd {e:Type}(r:Option e)(k:List Bool->Option e)(m:Mon):∀(n i:Nat) (u:List Bool),(∀s∈m.Outer,s.Page<12)->u.length=12->i+n=m.Outer.length->
 goN (fun j u d=>bif inb (j:Int) (ln m.Outer) then zuj r (ix m.Outer (j:Int) zV) u d else none) k n i u=goL (fun _ y u d=>zuj r y u d) k (m.Outer.drop i) i u
 | 0,i,u,_,_,h=>by have:i=m.Outer.length:=(by omega);subst this;simp[goN,goL]
 |n+1,i,u,b,c,h=>by have a:i<m.Outer.length:=(by omega);rw[kX a];simp only[goN,goL,zbf a,zbp a,cT,zuj];cases f:ilt m.Outer[i].Page 0;{rw [zXW (b _ (jL a)) c f];cases ix u m.Outer[i].Page false;{simp only [cF,cT,share];exact zJd r k m n (i+1) _ b (by simpa using c) (by omega)};{rfl}};{simp only [cT];exact zJd r k m n (i+1) u b c (by omega)}
def zEW:Run:=rF1 dH fun b=>(zff b,[aB (zfe b)])
def zLa (N:Nat)(b:Host):OA:=
 (oN (zsg b.Memory 12) (cond (nB (zl3 b.Memory 12)) oF (oN (zO (ln b.Mons) 1 3) (cond (nB (zS (ln b.Mons) 1 3)) oF (oN (zoZ b.Buffer) (cond (nB (zoY b.Buffer)) oF (oN (zoZ b.IoBuffer) (cond (nB (zoY b.IoBuffer)) oF (oN (cond (few 12) (ieq 12 12) false) (iter (σ:=(Int×(lB×(lM×(lN×(lE×(lE×Unit))))))) N (fun q c=>let n:=(ix c.2.2.2.1 c.1 zi); (cond (ilt c.1 (ln c.2.2.2.1)) (oN (inb c.1 (ln c.2.2.2.1)) (oN (zsh n) (cond (nB (zt3 n)) oF (iter (σ:=(Int×(Int×(lB×(lM×(lN×(lE×(lE×Unit)))))))) N (fun i a=>let k:=(zM .i64 a.2.1 1);let h:=a.2.2.2.2.2.1;let g:=a.2.2.2.2.2.2.1;let f:=a.2.2.1;let e:=a.2.2.2.2.1;let p:=(ix e a.1 zi).Outer;let m:=(i (a.1,(k,(f,(a.2.2.2.1,(e,(h,(g,()))))))));let d:=(ix p a.2.1 zV).Page;let l:=(inb d (ln f)); (cond (ilt a.2.1 8) (oN (inb a.1 (ln e)) (oN (inb a.2.1 (ln p)) (cond (ige d 0) (oN l (cond (ix f d false) oF (cond (ige d 0) (oN l (share (up f d true) (fun j=>(i (a.1,(k,(j,(a.2.2.2.1,(e,(h,(g,()))))))))))) m))) (cond (ige d 0) (oN l (share (up f d true) (fun j=>(i (a.1,(k,(j,(a.2.2.2.1,(e,(h,(g,()))))))))))) m)))) (q ((zM .i64 a.1 1),(f,(a.2.2.2.1,(e,(h,(g,()))))))))) (c.1,(0,(c.2.1,(c.2.2.1,(c.2.2.2.1,(c.2.2.2.2.1,(c.2.2.2.2.2.1,()))))))))))) oT)) (0,((rp 12 false),(b.Memory,(b.Mons,(b.Buffer,(b.IoBuffer,()))))))))))))))))
def zXE:FuncId->Nat->Option Tmpl:=zq [(128,0,{n:=72,tm:=[(1,.lp 0 0),(3,.sl 0 []),(4,ti)],lo:=[(0,[.sl 1 [],.sl 2 [],.sl 3 [],.sl 4 []])],ro:=[(0,.bool,true),(1,(.sl .int),false),(2,.mon,false),(3,.entry,false),(4,.entry,false)]}),(128,2,{n:=72,tm:=[(1,.lp 0 0),(3,.sl 0 []),(4,ti),(5,ti)],lo:=[(0,[.sl 1 [],.sl 2 [],.sl 3 [],.sl 4 []])],ro:=[(0,.bool,true),(1,(.sl .int),false),(2,.mon,false),(3,.entry,false),(4,.entry,false)]})]
theorem zVS (a:Host)(y:zce big [aH a])(F:zff a=true):∃N,zLa N a=some [aB (zfe a)]:=by
 have A:CVB big (.s .mon a.Mons):=(zc9 y).1 _ (by simp[AV.cvs,zbk]);have h:=A.len;refine zcz fun N f=>?_;unfold zLa zfe zbW oN nB;conv=>zeta
 refine must rfl (stB fun D=>must rfl (stB fun q=>must rfl (stB fun r=>must rfl (stB fun E=>must rfl ?_))));refine(zbo a.Mons (fun i (t:lB)=>((i:Int),t,a.Memory,a.Mons,a.Buffer,a.IoBuffer,())) _ (fun _ (x:Mon) (u:List Bool) d=>bif zdY x then goN (fun j u d=>bif inb (j:Int) (ln x.Outer) then zuj (oF) (ix x.Outer (j:Int) zV) u d else none) d 8 0 u else oF) (fun (t:lB)=>(some [(.one (.b true))])) (fun i c t rec=>?_) (fun t rec=>?_) _ ((rp 12 false)) (f h)).trans ?_;{simp only [zbD c,zbf c,zbp c,zbi c h,cT];cases v:zdY a.Mons[i];{simp only [zsh,zt3,v,cT,cF]};simp only[zsh,zt3,v,cT,cF];refine(zAA 8 (fun j (u:lB)=>((i:Int),(j:Int),u,a.Memory,a.Mons,a.Buffer,a.IoBuffer,())) _ (fun j (u:List Bool) d=>bif inb (j:Int) (ln a.Mons[i].Outer) then zuj (oF) (ix a.Mons[i].Outer (j:Int) zV) u d else none) (fun (u:lB)=>(rec ((((i+1:Nat)):Int),(u,(a.Memory,(a.Mons,(a.Buffer,(a.IoBuffer,())))))))) (fun j z u g=>?_) (fun u g=>?_) _ (t) (f (by decide))).trans ?_;{simp only [show ilt (j:Int) 8=true from qJ (by omega),zbi z (show 8<=big by decide),cT,zbf c,zbp c,zbi c h];unfold zuj;have e:ige (ix a.Mons[i].Outer (j:Int) zV).Page 0 = !ilt (ix a.Mons[i].Outer (j:Int) zV).Page 0:=(by rw[zbaV,Bool.not_not]);simp only[e];cases ilt (ix a.Mons[i].Outer (j:Int) zV).Page 0<;>cases inb (j:Int) (ln a.Mons[i].Outer)<;>cases inb (ix a.Mons[i].Outer (j:Int) zV).Page (ln u)<;>cases ix u (ix a.Mons[i].Outer (j:Int) zV).Page false<;>rfl};{simp only [show ilt (((8:Nat)):Int) 8=false from qH (by omega),cF,zbf c,zbp c,zbi c h]};rfl};{simp only [zbt,cF]};have p:∀(l:List Mon) (i:Nat) (u:List Bool),u.length=12->goL (fun _ (x:Mon) (u:List Bool) d=>bif zdY x then goN (fun j u d=>bif inb (j:Int) (ln x.Outer) then zuj (oF) (ix x.Outer (j:Int) zV) u d else none) d 8 0 u else oF) (fun _=>oT) l i u=some [AV.one (.b (ziE l u))]:=(by intro l;induction l with|nil=>intro i u _;rfl|cons m l B=>intro i u n;simp only[goL,ziE];cases q:zdY m;{rfl};{have k:=zmF q;have w:0+8=m.Outer.length:=(by have:=zsn k;simp only[ln] at this;omega);simp only[cT];rw[zJd _ _ m 8 0 u (zGe k) n w,List.drop_zero,zAj _ _ _ _ _ (zGe k) n];cases r:zgz m.Outer u with|none=>rfl|some C=>exact B (i+1) C ((zpJ _ _ _ r).trans n)});exact p _ _ _ rfl
theorem zO9:vN 128 zEW:=hF1 zI1 zA zB zn zXE zVS
def z8X:zba:=[(128,zEW),(159,zEC)]++z8W
theorem zI2:zK z8X:=zh zO9 (zh zOQ zI1)
theorem z1t {h:Host}(a:zbW h=true):(h.Mons.length:Int)<=3:=by unfold zbW at a;simp only[zda]at a;exact(zfP.1 a.2.1).2
def zcr (h:Host)(m:Int):Bool:=bif zbW h then hasB m (ln h.Mons) else false
def zb8 (h:Host)(m p:Int):Bool:=bif zbW h then (cond (hasB m (ln h.Mons)) (hasB p 8) false) else false
theorem zQ8 {h:Host}(a:zbW h=true)(m:Int):win m 0 (wsub .i64 (ln h.Mons) 1)=hasB m (ln h.Mons):=zqM (by have:=z1t a;omega) m
theorem win7 (p:Int):win p 0 7=hasB p 8:=by unfold win ige ile hasB;by_cases a:0<=p<;>by_cases b:p<8;{rw [qJ (p:=p≥0) (by omega),qJ (p:=p<=7) (by omega),qJ (p:=0<=p/\p<8) ⟨a,b⟩];rfl};{rw [qH (p:=p<=7) (by omega),qH (p:=0<=p/\p<8) (by omega)];simp};{rw [qH (p:=p≥0) (by omega),qH (p:=0<=p/\p<8) (by omega)];simp};{rw [qH (p:=p≥0) (by omega),qH (p:=0<=p/\p<8) (by omega)];simp}
@[simp] abbrev zfm (h:Host)(m:Int):Bool:=true
@[simp] abbrev zfl (h:Host)(m:Int):Bool:=zcr h m
def zFe:Run:=rF2 dH dI fun b c=>(zfm b c,[aB (zfl b c)])
def zLt (N:Nat)(a:Host)(b:Int):OA:=
 (oN (zff a) (cond (zfe a) (oN (zO b 0 (wsub .i64 (ln a.Mons) 1)) (some [(aB (zS b 0 (wsub .i64 (ln a.Mons) 1)))])) oF))
theorem zWf (a:Host)(b:Int)(d:zfm a b=true):∃N,zLt N a b=some [aB (zfl a b)]:=by refine⟨0,?_⟩;unfold zLt zfl zcr oN;cases c:zbW a;{simp only [zff,zfe,c,cT,cF]};{simp only [zff,zfe,c,cT,zO,zUg,zQ8 c]}
theorem zPB:vN 74 zFe:=kF2 zI2 zA zB zn (zq []) zWf
@[simp] abbrev znX (h:Host)(m p:Int):Bool:=true
@[simp] abbrev zhO (h:Host)(m p:Int):Bool:=zb8 h m p
def zIq:Run:=rF3 dH dI dI fun b c d=>(znX b c d,[aB (zhO b c d)])
def zRs (N:Nat)(a:Host)(b c:Int):OA:=
 (oN (zff a) (cond (zfe a) (oN (zO b 0 (wsub .i64 (ln a.Mons) 1)) (cond (zS b 0 (wsub .i64 (ln a.Mons) 1)) (oN (zO c 0 7) (some [(aB (zS c 0 7))])) oF)) oF))
theorem zYN (a:Host)(b c:Int)(e:znX a b c=true):∃N,zRs N a b c=some [aB (zhO a b c)]:=by refine⟨0,?_⟩;unfold zRs zhO zb8 oN;cases d:zbW a;{simp only [zff,zfe,d,cT,cF]};{simp only [zff,zfe,d,cT,zO,zUg,zQ8 d,win7];cases hasB b (ln a.Mons)<;>rfl}
theorem zSW:vN 114 zIq:=kF3 zI2 zA zB zn (zq []) zYN
def z8Y:zba:=[(74,zFe),(114,zIq)]++z8X
theorem zUP:zK z8Y:=zh zPB (zh zSW zI2)
def zdi (k:Kept)(p:Int):Bool:=bif hasB p (ln k.Known) then hasB p (ln k.Slots) else false
def zbR (k:Kept)(p:Int):Kept:=bif zdi k p then ⟨up k.Known p false,up k.Slots p noSlot⟩ else k
@[simp] theorem zpI {k:Kept}{p:Int}(h:SmK k):SmK (zbR k p):=by unfold zbR;cases zdi k p;{exact h};{exact⟨by simpa using h.1,by simpa using h.2⟩}
theorem has_lt {p:Int}{n m:Int}(h:hasB p n=true):ilt p m=hasB p m:=by have h:=qE h;unfold ilt hasB;by_cases a:p<m;{rw [qJ a,qJ ⟨h.1,a⟩]};{rw [qH a,qH (by omega)]}
@[simp] abbrev zpo (k:Kept)(p:Int):Bool:=pc (SmK k)
@[simp] abbrev zis (k:Kept)(p:Int):Bool:=zdi k p
def zFc:Run:=rF2 (dT .kept) dI fun b c=>(zpo b c,[aB (zis b c)])
def zLr (N:Nat)(a:Kept)(b:Int):OA:=
 (oN (zO b 0 (wsub .i64 (ln a.Known) 1)) (cond (zS b 0 (wsub .i64 (ln a.Known) 1)) (some [(aB (ilt b (ln a.Slots)))]) oF))
theorem zWc (a:Kept)(b:Int)(c:zpo a b=true):∃N,zLr N a b=some [aB (zis a b)]:=by have e:=zL.1 c;refine⟨0,?_⟩;unfold zLr zis zdi oN;simp only[zO,zUg,zqM e.1,cT];cases d:hasB b (ln a.Known);{rfl};{simp only [cT,has_lt d]}
theorem zPq:vN 118 zFc:=kF2 zUP zA zB zn (zq []) zWc
def z8Z:zba:=[(118,zFc)]++z8Y
theorem zI3:zK z8Z:=zh zPq zUP
@[simp] abbrev zlV (k:Kept)(p:Int):Bool:=pc (SmK k)
@[simp] abbrev zlb (k:Kept)(p:Int):Kept:=zbR k p
def zEU:Run:=rF2 (dT .kept) dI fun b c=>(zlV b c,[aT .kept (zlb b c)])
def zK8 (N:Nat)(c:Kept)(b:Int):OA:=
 let a:=(zdw c); (oN (zfW c) (oN (zpo a b) (cond (zis a b) (oN (inb b (ln a.Known)) (share (up a.Known b false) (fun d=>(oN zcx (oN (inb b (ln a.Slots)) (share (up a.Slots b zbw) (fun e=>(some [(aT .kept (⟨d,e⟩:Kept))])))))))) (some [(aT .kept a)]))))
theorem zVQ (a:Kept)(b:Int)(g:zlV a b=true):∃N,zK8 N a b=some [aT .kept (zlb a b)]:=by
 have d:=zL.1 g;refine⟨0,?_⟩;unfold zK8 zlb oN;conv=>zeta
 refine must (zbM ((zym _).2 d)) (must (zbM d) ?_);unfold zbR;cases c:zdi a b;{simp only [zis,zdw,c,cF]};{simp only [zis,zdw,c,cT];unfold zdi at c;obtain⟨e,f⟩:=zda.1 c;simp only[zVo,e,f,cT,share,zcx]}
theorem zO7:vN 108 zEU:=kF2 zI3 zA zB zn (zq []) zVQ
@[simp] abbrev zok (k:Kept)(p:Int):Bool:=pc (SmK k)
@[simp] abbrev znq (k:Kept)(p:Int):Kept:=zbR k p
def zEA:Run:=rF2 (dT .kept) dI fun b c=>(zok b c,[aT .kept (znq b c)])
def zKO (N:Nat)(b:Kept)(a:Int):OA:=
 let c:=(zdM b); (oN (zhd b) (oN (zdh a (ln b.Known)) (cond (zdG a (ln b.Known)) (oN (zdh a (ln b.Slots)) (cond (zdG a (ln b.Slots)) (oN (inb a (ln c.Known)) (share (up c.Known a false) (fun d=>(oN ze7 (oN (inb a (ln c.Slots)) (share (up c.Slots a ze6) (fun e=>(some [(aT .kept (⟨d,e⟩:Kept))])))))))) (some [(aT .kept c)]))) (some [(aT .kept c)]))))
theorem zVw (a:Kept)(b:Int)(c:zok a b=true):∃N,zKO N a b=some [aT .kept (znq a b)]:=by
 have d:=zL.1 c;refine⟨0,?_⟩;unfold zKO znq oN;conv=>zeta
 refine must (zbM d) (must rfl ?_);unfold zbR zdi;simp only[zdG,zdh,zdM,zVo,share,ze7,cT];cases hasB b (ln a.Known);{rfl};{cases hasB b (ln a.Slots)<;>rfl}
theorem zOO:vN 104 zEA:=kF2 zI3 zA zB zn (zq []) zVw
def z81:zba:=[(108,zEU),(104,zEA)]++z8Z
theorem zuk:zK z81:=zh zO7 (zh zOO zI3)
def zel (k:Kept)(l:List Int):Kept:=l.foldl zbR k
theorem z0o:∀(l:List Int) {k:Kept},SmK k->SmK (zel k l)
 |[],_,h=>h
 |p::l,k,h=>z0o l (zpI (p:=p) h)
theorem zAi {b:Type}(K:List Bool×List Slot->Option b):∀(l:List Int) (i:Nat) (k:Kept),SmK k->
 goL (fun _ x (t:List Bool×List Slot) a=>bif pc (SmK ⟨t.1,t.2⟩) then a ((zbR ⟨t.1,t.2⟩ x).Known,(zbR ⟨t.1,t.2⟩ x).Slots) else none) K l i (k.Known,k.Slots)=K ((zel k l).Known,(zel k l).Slots)
 |[],_,_,_=>rfl
 |x::l,i,k,h=>by have e:pc (SmK ⟨k.Known,k.Slots⟩)=true:=zbM h;simp only[goL,e,cT];exact zAi K l (i+1) (zbR k x) (zpI h)
def zFG (l:List Slot)(p:Int):List Int:=idxs (fun (s:Slot)=>ieq s.Page p) l 0
def zhV (k:Kept)(l:List Slot)(p:Int):Kept:=zel k (zFG l p)
theorem z7T {k:Kept}(l:List Slot)(p:Int)(h:SmK k):SmK (zhV k l p):=z0o _ h
@[simp] abbrev zlU (k:Kept)(l:List Slot)(p:Int):Bool:=pc (SmK k/\l.length<=1048576)
@[simp] abbrev zvd (k:Kept)(l:List Slot)(p:Int):Kept:=zhV k l p
def zu4:Run:=rF3 (dT .kept) (dS .slot) dI fun b c d=>(zlU b c d,[aT .kept (zvd b c d)])
def zyh (N:Nat)(c:Kept)(e:lS)(f:Int):OA:=
 (oN (zfW c) (oN (zAY e f) (iter (σ:=(Int×((List Int)×(lB×(lS×(lB×(lS×Unit))))))) N (fun g a=>let d:=(ix a.2.1 a.1 0);let b:=(⟨a.2.2.1,a.2.2.2.1⟩:Kept); (cond (ilt a.1 (ln a.2.1)) (oN (inb a.1 (ln a.2.1)) (oN (zlV b d) (g ((zM .i64 a.1 1),(a.2.1,((zlb b d).Known,((zlb b d).Slots,(a.2.2.2.2.1,(a.2.2.2.2.2.1,()))))))))) (some [(aT .kept b)]))) (0,((zqD e f),((zdw c).Known,((zdw c).Slots,([],([],())))))))))
def zKG:FuncId->Nat->Option Tmpl:=zq [(283,0,{n:=27,tm:=[(3,.lp 0 0),(6,.lp 1 0),(7,.sl 0 []),(8,ti)],lo:=[(0,[.sl 1 [],.sl 2 []]),(1,[.sl 3 [],.sl 4 []])],ro:=[(0,.int,true),(1,.bool,true),(2,.slot,true),(3,.bool,true),(4,.slot,true)]})]
theorem zJ4 (b:Kept)(a:List Slot)(c:Int)(j:zlU b a c=true):∃N,zyh N b a c=some [aT .kept (zvd b a c)]:=by
 obtain⟨h,f⟩:=zL.1 j;have g:(zqD a c).length<=big:=qU (zAy _ a 0) (zc3 f).1;refine zcz fun N e=>?_;unfold zyh oN;conv=>zeta
 refine must (zbM ((zym _).2 h)) (must (zbM (by omega)) ?_);refine(zbo (zqD a c) (fun i (t:lB×lS)=>((i:Int),(zqD a c),t.1,t.2,[],[],())) _ (fun _ (x:Int) (t:List Bool×List Slot) k=>bif pc (SmK ⟨t.1,t.2⟩) then k ((zbR ⟨t.1,t.2⟩ x).Known,(zbR ⟨t.1,t.2⟩ x).Slots) else none) (fun (t:lB×lS)=>(some [(.agg (Ty.cells .kept (⟨t.1,t.2⟩:Kept)))])) (fun i d t rec=>?_) (fun t rec=>?_) _ ((zdw b).Known,(zdw b).Slots) (e g)).trans ?_;{simp only [zbD d,zbf d,zbp d,zbi d g,cT]};{simp only [zbt,cF]};exact zAi _ _ 0 b h
theorem zDZ:vN 283 zu4:=kF3 zuk zA zB zn zKG zJ4
@[simp] abbrev zp5 (k:Kept)(l:List Slot)(p:Int):Bool:=pc (SmK k/\l.length<=1048576)
@[simp] abbrev zuG (k:Kept)(l:List Slot)(p:Int):Kept:=zhV k l p
def zuX:Run:=rF3 (dT .kept) (dS .slot) dI fun b c d=>(zp5 b c d,[aT .kept (zuG b c d)])
def zx9 (N:Nat)(c:Kept)(d:lS)(e:Int):OA:=
 (oN (zhd c) (oN (zAw d e) (iter (σ:=(Int×(Int×((List Int)×(lB×(lS×(lB×(lS×Unit)))))))) N (fun g a=>let f:=(ix a.2.2.1 a.2.1 0);let b:=(⟨a.2.2.2.2.2.1,a.2.2.2.2.2.2.1⟩:Kept); (cond (ilt a.2.1 a.1) (oN (inb a.2.1 (ln a.2.2.1)) (oN (zok b f) (g (a.1,((zM .i64 a.2.1 1),(a.2.2.1,(a.2.2.2.1,(a.2.2.2.2.1,((znq b f).Known,((znq b f).Slots,())))))))))) (some [(aT .kept b)]))) ((ln (zkS d e)),(0,((zkS d e),([],([],((zdM c).Known,((zdM c).Slots,()))))))))))
def zKB:FuncId->Nat->Option Tmpl:=zq [(277,0,{n:=25,tm:=[(6,.lp 0 0),(7,.lp 1 0),(14,.sl 0 []),(15,ti),(16,ti)],lo:=[(0,[.sl 1 [],.sl 2 []]),(1,[.sl 3 [],.sl 4 []])],ro:=[(0,.int,true),(1,.bool,true),(2,.slot,true),(3,.bool,true),(4,.slot,true)]})]
theorem zJV (c:Kept)(a:List Slot)(b:Int)(j:zp5 c a b=true):∃N,zx9 N c a b=some [aT .kept (zuG c a b)]:=by
 obtain⟨h,f⟩:=zL.1 j;have g:(zkS a b).length<=big:=qU (zAy _ a 0) (zc3 f).1;refine zcz fun N e=>?_;unfold zx9 oN;conv=>zeta
 refine must (zbM h) (must (zbM (by omega)) ?_);refine(zbo (zkS a b) (fun i (t:lB×lS)=>((ln (zkS a b)),(i:Int),(zkS a b),[],[],t.1,t.2,())) _ (fun _ (x:Int) (t:List Bool×List Slot) k=>bif pc (SmK ⟨t.1,t.2⟩) then k ((zbR ⟨t.1,t.2⟩ x).Known,(zbR ⟨t.1,t.2⟩ x).Slots) else none) (fun (t:lB×lS)=>(some [(.agg (Ty.cells .kept (⟨t.1,t.2⟩:Kept)))])) (fun i d t rec=>?_) (fun t rec=>?_) _ ((zdM c).Known,(zdM c).Slots) (e g)).trans ?_;{simp only [zbD d,zbf d,zbp d,zbi d g,cT]};{simp only [zbt,cF]};exact zAi _ _ 0 c h
theorem zDT:vN 277 zuX:=kF3 zuk zA zB zn zKB zJV
def flushed (l:List Entry)(p:Int):List Entry:=l.filter fun e=>!ieq e.Host p
theorem zHS (l:List Entry)(p:Int):(flushed l p).length<=l.length:=uA _ _
theorem zlB {b e:Type}(p:b->Bool)(K:List b->Option e):∀(l:List b) (i:Nat) (a:List b),a.length+l.length<=2147483648->
 goL (fun _ x a d=>bif p x then (cond (few (ln (ap a [x]))) (d (ap a [x])) none) else d a) K l i a=K (a++l.filter p)
 |[],i,a,_=>by simp[goL]
 |x::l,i,a,h=>by simp only[q0]at h;simp only[goL];cases c:p x;{rw [cF,zlB p K l (i+1) a (by omega),List.filter_cons_of_neg (by simp[c])]};{rw [cT,zg8 (by simp[ap];omega),cT,zlB p K l (i+1) _ (by simp[ap];omega),List.filter_cons_of_pos c];simp[ap]}
@[simp] abbrev zhM (l:List Entry)(p:Int):Bool:=pc (l.length<=1048576)
@[simp] abbrev zrd (l:List Entry)(p:Int):List Entry:=flushed l p
def zwD:Run:=rF2 (dS .entry) dI fun b c=>(zhM b c,[aS .entry (zrd b c)])
def zBB (N:Nat)(e:lE)(f:Int):OA:=
 (iter (σ:=(Int×(Int×(lE×(lE×Unit))))) N (fun d a=>let b:=a.2.2.1;let c:=(ix b a.2.1 zeq); (cond (ilt a.2.1 (ln b)) (oN (inb a.2.1 (ln b)) (cond (ine c.Host a.1) (oN (inb a.2.1 (ln b)) (oN (few (ln (ap a.2.2.2.1 [c]))) (d (a.1,((zM .i64 a.2.1 1),(b,((ap a.2.2.2.1 [c]),()))))))) (d (a.1,((zM .i64 a.2.1 1),(b,(a.2.2.2.1,()))))))) (some [(aS .entry a.2.2.2.1)]))) (f,(0,(e,([],())))))
def zOl:FuncId->Nat->Option Tmpl:=zq [(284,0,{n:=29,tm:=[(0,.sl 0 []),(1,ti),(5,.sl 1 []),(6,ti)],lo:=[],ro:=[(0,.entry,false),(1,.entry,true)]})]
theorem zNb (a:List Entry)(b:Int)(h:zhM a b=true):∃N,zBB N a b=some [aS .entry (zrd a b)]:=by
 have j:=zL.1 h;have f:=zc3 j;refine zcz fun N d=>?_;unfold zBB oN;conv=>zeta
 refine(zbo a (fun i (t:lE)=>(b,(i:Int),a,t,())) _ (fun _ (x:Entry) (t:List Entry) g=>bif !ieq x.Host b then (cond (few (ln (ap t [x]))) (g (ap t [x])) none) else g t) (fun (t:lE)=>(some [(.one (.s .entry t))])) (fun i c t rec=>?_) (fun t rec=>?_) _ ([]) (d f.1)).trans ?_;{simp only [zbD c,zbf c,zbp c,zbi c f.1,cT];rfl};{simp only [zbt,cF]};exact zlB (fun e=>!ieq e.Host b) _ a 0 [] (by simpa using f.2)
theorem zGw:vN 284 zwD:=kF2 zuk zA zB zn zOl zNb
@[simp] abbrev zhH (l:List Entry)(p:Int):Bool:=pc (l.length<=1048576)
@[simp] abbrev zka (l:List Entry)(p:Int):List Entry:=flushed l p
def zwq:Run:=rF2 (dS .entry) dI fun b c=>(zhH b c,[aS .entry (zka b c)])
def zBm (N:Nat)(d:lE)(f:Int):OA:=
 (iter (σ:=(Int×(Int×(Int×(lE×(lE×Unit)))))) N (fun e a=>let b:=a.2.2.2.2.1;let c:=(ix b a.2.1 zeq); (cond (ilt a.2.1 a.1) (oN (inb a.2.1 (ln b)) (cond (nB (ieq c.Host a.2.2.1)) (oN (few (ln (ap a.2.2.2.1 [c]))) (e (a.1,((zM .i64 a.2.1 1),(a.2.2.1,((ap a.2.2.2.1 [c]),(b,()))))))) (e (a.1,((zM .i64 a.2.1 1),(a.2.2.1,(a.2.2.2.1,(b,())))))))) (some [(aS .entry a.2.2.2.1)]))) ((ln d),(0,(f,([],(d,()))))))
def zOe:FuncId->Nat->Option Tmpl:=zq [(203,0,{n:=25,tm:=[(1,.fn 316 [0]),(5,.sl 0 []),(9,.sl 1 []),(10,ti),(11,ti)],lo:=[(0,[ti])],ro:=[(0,.entry,true),(1,.entry,false)]})]
theorem zMV (a:List Entry)(b:Int)(h:zhH a b=true):∃N,zBm N a b=some [aS .entry (zka a b)]:=by
 have j:=zL.1 h;have f:=zc3 j;refine zcz fun N d=>?_;unfold zBm oN nB;conv=>zeta
 refine(zbo a (fun i (t:lE)=>((ln a),(i:Int),b,t,a,())) _ (fun _ (x:Entry) (t:List Entry) g=>bif !ieq x.Host b then (cond (few (ln (ap t [x]))) (g (ap t [x])) none) else g t) (fun (t:lE)=>(some [(.one (.s .entry t))])) (fun i c t rec=>?_) (fun t rec=>?_) _ ([]) (d f.1)).trans ?_;{simp only [zbD c,zbf c,zbp c,zbi c f.1,cT];cases ieq a[i].Host b<;>rfl};{simp only [zbt,cF]};exact zlB (fun e=>!ieq e.Host b) _ a 0 [] (by simpa using f.2)
theorem zGk:vN 278 zwq:=kF2 zuk zA zB zn zOe zMV
def z0V:zba:=[(283,zu4),(277,zuX),(284,zwD),(278,zwq)]++z81
theorem zI4:zK z0V:=zh zDZ (zh zDT (zh zGw (zh zGk zuk)))
def zlq (b:List Guest)(p:Int):Nat->List Kept->List Kept
 | 0,a=>a
 |n+1,a=>up (zlq b p n a) (n:Int) (zhV (ix (zlq b p n a) (n:Int) zeh) (ix b (n:Int) zD).Live p)
theorem zqJ (b:List Guest)(p:Int):∀(n:Nat) (a:List Kept),(zlq b p n a).length=a.length
 | 0,_=>rfl
 |n+1,a=>by simp only[zlq,zgy];exact zqJ b p n a
theorem zxf (b:List Guest)(p:Int):∀(n:Nat) (a:List Kept),n<=a.length->zDt a->zDt (zlq b p n a)
 | 0,_,_,h=>h
 |n+1,a,e,h=>by have d:=zxf b p n a (by omega) h;have c:n<(zlq b p n a).length:=(by rw[zqJ];omega);exact zzE d (z7T _ _ (by rw[zbp c];exact d.2 _ (jL c)))
def zks (x:Mon)(p:Int)(n:Nat):Mon:={x with Tables:=zlq x.Guests p n x.Tables}
theorem z5E {x:Mon}{p:Int}{n:Nat}(a:n<=x.Tables.length)(h:zeZ x):zeZ (zks x p n):=⟨h.1,h.2.1,h.2.2.1,h.2.2.2.1,h.2.2.2.2.1,zxf _ _ _ _ a h.2.2.2.2.2⟩
def zcm (h:Host)(m p:Int)(s:Slot):Host :=
 bif ine (ix (ix h.Mons m zi).Outer p zV).Page (-1)
 then ⟨h.Memory,up h.Mons m {zks (ix h.Mons m zi) p (ix h.Mons m zi).Tables.length with Outer:=up (ix h.Mons m zi).Outer p s},flushed h.Buffer (ix (ix h.Mons m zi).Outer p zV).Page,flushed h.IoBuffer (ix (ix h.Mons m zi).Outer p zV).Page⟩
 else ⟨h.Memory,up h.Mons m {zks (ix h.Mons m zi) p (ix h.Mons m zi).Tables.length with Outer:=up (ix h.Mons m zi).Outer p s},h.Buffer,h.IoBuffer⟩
def zbbF (h:Host)(m p:Int):Prop:=hasB m (ln h.Mons)=true/\hasB p (ln (ix h.Mons m zi).Outer)=true/\(ix h.Mons m zi).Tables.length<=(ix h.Mons m zi).Guests.length
@[simp] abbrev zeW (h:Host)(m p:Int)(s:Slot):Bool:=pc (zcD h/\zbbF h m p)
@[simp] abbrev zgO (h:Host)(m p:Int)(s:Slot):Host:=zcm h m p s
def zsQ:List AV->Option (Bool×List AV)
 |[.agg [.s (.sl .int) b,.s .mon c,.s .entry d,.s .entry e],.one (.i .i64 f),.one (.i .i64 g),.agg [.i .i64 h,.i .i64 j]]=>some ((zeW (⟨b,c,d,e⟩:Host) f g (⟨h,j⟩:Slot)),[aH (zgO (⟨b,c,d,e⟩:Host) f g (⟨h,j⟩:Slot))])
 |_=>none
def zxu (N:Nat)(p:Host)(g z:Int)(B:Slot):OA:=
 let v:=(ix p.Mons g zi); (oN (inb g (ln p.Mons)) (oN (inb z (ln v.Outer)) (iter (σ:=(Int×(Int×(Int×(Int×(Int×(Int×(Int×(Int×(Int×(Int×(Int×(Int×(Int×(Int×(Int×(lM×(lN×(lE×(lE×(lM×(lN×(lE×(lE×Unit)))))))))))))))))))))))) N (fun D a=>let d:=a.2.2.1;let m:=a.2.2.2.2.2.2.2.2.2.2.2.1;let l:=a.2.2.2.2.2.2.2.2.2.2.2.2.1;let k:=a.2.2.2.2.2.2.2.2.2.2.2.2.2.2.1;let j:=a.2.2.2.2.2.2.2.2.2.2.2.2.2.2.2.1;let f:=a.2.2.2.2.2.2.2.1;let e:=a.2.2.2.2.2.2.2.2.1;let c:=a.2.2.2.1;let w:=a.2.2.2.2.2.2.2.2.2.2.1;let y:=a.2.2.2.2.2.2.2.2.2.2.2.2.2.2.2.2.2.1;let x:=a.2.2.2.2.2.2.2.2.2.2.2.2.2.2.2.2.2.2.1;let n:=a.2.2.2.2.2.2.1;let r:=a.2.2.2.2.2.2.2.2.2.1;let i:=a.2.2.2.2.2.2.2.2.2.2.2.2.2.1;let q:=a.2.2.2.2.2.2.2.2.2.2.2.2.2.2.2.2.1;let u:=(ix q r zi).Guests;let t:=(ix u c zD).Live;let h:=(ix q n zi);let s:=(ix q i zi).Tables;let C:=(up q n ({h with Outer:=(up h.Outer a.2.1 (⟨a.2.2.2.2.1,a.2.2.2.2.2.1⟩:Slot))}:Mon)); (cond (ilt c (ln s)) (oN (inb c (ln s)) (oN (inb c (ln u)) (oN (zlU (ix s c zeh) t a.2.1) (oN (inb c (ln s)) (share (up q i ({ (ix q i zi) with Tables:=(up s c (zvd (ix s c zeh) t a.2.1))}:Mon)) (fun b=>(D (a.1,(a.2.1,(d,((zM .i64 c 1),(a.2.2.2.2.1,(a.2.2.2.2.2.1,(n,(f,(e,(r,(w,(m,(l,(i,(k,(j,(b,(y,(x,(a.2.2.2.2.2.2.2.2.2.2.2.2.2.2.2.2.2.2.2.1,(a.2.2.2.2.2.2.2.2.2.2.2.2.2.2.2.2.2.2.2.2.1,(a.2.2.2.2.2.2.2.2.2.2.2.2.2.2.2.2.2.2.2.2.2.1,(a.2.2.2.2.2.2.2.2.2.2.2.2.2.2.2.2.2.2.2.2.2.2.1,())))))))))))))))))))))))))))))) (cond (ine d (-1)) (oN (zhM y d) (oN (zhM x d) (oN (inb a.2.1 (ln h.Outer)) (share C (fun b=>(oN (inb a.1 (ln b)) (oN (cond (cond (cond (cond (cond (cond (ieq i a.1) true false) (cond (ieq w a.1) true false) false) (cond (ieq r a.1) true false) false) (cond (ieq e a.1) true false) false) (cond (ieq f a.1) true false) false) (cond (ieq n a.1) true false) false) (share (up b a.1 ({ (ix b n zi) with Out:=(ix b f zi).Out,Dirty:=(ix b e zi).Dirty,Guests:=(ix b r zi).Guests,Outs:=(ix b w zi).Outs,Pending:=m,Traps:=l,Tables:=(ix b i zi).Tables,Own:=k}:Mon)) (fun A=>(some [(aH (⟨j,A,(zrd y d),(zrd x d)⟩:Host))])))))))))) (oN (inb a.2.1 (ln h.Outer)) (share C (fun b=>(oN (inb a.1 (ln b)) (oN (cond (cond (cond (cond (cond (cond (ieq i a.1) true false) (cond (ieq w a.1) true false) false) (cond (ieq r a.1) true false) false) (cond (ieq e a.1) true false) false) (cond (ieq f a.1) true false) false) (cond (ieq n a.1) true false) false) (share (up b a.1 ({ (ix b n zi) with Out:=(ix b f zi).Out,Dirty:=(ix b e zi).Dirty,Guests:=(ix b r zi).Guests,Outs:=(ix b w zi).Outs,Pending:=m,Traps:=l,Tables:=(ix b i zi).Tables,Own:=k}:Mon)) (fun A=>(some [(aH (⟨j,A,y,x⟩:Host))]))))))))))) (g,(z,((ix v.Outer z zV).Page,(0,(B.Page,(B.Rights,(g,(g,(g,(g,(g,(v.Pending,(v.Traps,(g,(v.Own,(p.Memory,(p.Mons,(p.Buffer,(p.IoBuffer,([],([],([],([],()))))))))))))))))))))))))))
def zTZ:FuncId->Nat->Option Tmpl:=zq [(213,0,{n:=70,tm:=[(1,ti),(2,ti),(4,.lp 0 0),(7,.lp 1 0),(8,.lp 2 0),(9,.lp 3 0),(10,ti),(11,ti)],lo:=[(0,[.sl 0 [],.sl 1 [],.sl 2 [],.sl 3 []]),(1,[ti,ti]),(2,[.sl 4 [],.sl 5 [],.sl 6 [],.sl 7 []]),(3,[.sl 1 [0],.sl 1 [1],.sl 1 [2],.sl 1 [3],.sl 1 [4],ti,ti,.sl 1 [7],ti])],ro:=[(0,(.sl .int),true),(1,.mon,true),(2,.entry,true),(3,.entry,true),(4,(.sl .int),true),(5,.mon,true),(6,.entry,true),(7,.entry,true)]})]
theorem zWr (N:Nat)(a:Host)(b c:Int)(d:Slot):zFU (cQ z0V zp8 zQz z2N) zTZ N 12 213 [true,true,true,true,false,false,false,false] 1 1 [[0],[1],[2],[4],[7]] .mon [aH a,aI b,aI c,aT .slot d]=zxu N a b c d:=by kernel_rfl
theorem zTA (a:Host)(f b:Int)(d:Slot)(D:zce big [aH a,aI f,aI b,aT .slot d])(y:zeW a f b d=true):∃N,zxu N a f b d=some [aH (zgO a f b d)]:=by
 obtain⟨B,g,s,C⟩:=zL.1 y;have l:=(zT a).1 B;have r:zeZ (ix a.Mons f zi):=l.2.1.2 _ (zbu g _);obtain⟨k,rfl,q⟩:=zdJ (n:=a.Mons.length) g;have x:=(zc3 r.2.2.2.2.2.1).1;refine zcz fun N p=>?_;unfold zxu oN;conv=>zeta
 refine must g (must s ?_);refine zF2 (ix a.Mons (k:Int) zi).Tables.length (fun i (t:List Mon)=>((k:Int),b,(ix (ix a.Mons (k:Int) zi).Outer b zV).Page,(i:Int),d.Page,d.Rights,(k:Int),(k:Int),(k:Int),(k:Int),(k:Int),(ix a.Mons (k:Int) zi).Pending,(ix a.Mons (k:Int) zi).Traps,(k:Int),(ix a.Mons (k:Int) zi).Own,a.Memory,t,a.Buffer,a.IoBuffer,[],[],[],[],())) _
  (fun i t=>t=up a.Mons (k:Int) (zks (ix a.Mons (k:Int) zi) b i)) (fun _ _=>some [AV.agg (zbk (zcm a (k:Int) b d))]) (fun i t rec u m A=>?_) (fun t rec m=>?_) _ 0 a.Mons ?_ (j5 _) ?_
 .subst m;have c:i<(zlq (ix a.Mons (k:Int) zi).Guests b i (ix a.Mons (k:Int) zi).Tables).length:=(by rw[zqJ];exact u);have e:i<(ix a.Mons (k:Int) zi).Guests.length:=by omega
  have z:zlU (ix (zlq (ix a.Mons (k:Int) zi).Guests b i (ix a.Mons (k:Int) zi).Tables) (i:Int) zeh) (ix (ix a.Mons (k:Int) zi).Guests (i:Int) zD).Live b=true :=
   zbM ⟨by rw[zbp c];exact(zxf _ _ _ _ (by omega) r.2.2.2.2.2).2 _ (jL c),by rw[zbp e];exact(r.2.2.2.1.2 _ (jL e)).2.2.1⟩
  simp only[zdP q,zxi,zks,zbD c,zbf c,zbf e,z,cT,share,zbi u x];exact A _ rfl
 {subst m;simp only[zdP q,zxi,zgy,zks,ln,zqJ,zd1,show ilt (((ix a.Mons (k:Int) zi).Tables.length:Nat):Int) (((ix a.Mons (k:Int) zi).Tables.length:Nat):Int)=false from qH (by omega),cT,cF,share];have h:inb (k:Int) ((a.Mons.length:Nat):Int)=true:=g;have j:inb b (((ix a.Mons (k:Int) zi).Outer.length:Nat):Int)=true:=s;have v:zhM a.Buffer (ix (ix a.Mons (k:Int) zi).Outer b zV).Page=true:=zbM l.2.2.1;have w:zhM a.IoBuffer (ix (ix a.Mons (k:Int) zi).Outer b zV).Page=true:=zbM l.2.2.2;simp only[h,j,v,w,cT];unfold zcm;cases ine (ix (ix a.Mons (k:Int) zi).Outer b zV).Page (-1)<;>rfl};{exact(zQ4 q _).symm};{exact p (by omega)}
theorem zMJ:zdZ Tryz.prog 213 [true,true,true,true,false,false,false,false] (some (1,1,[[0],[1],[2],[4],[7]])) zsQ:=by refine zlD (kt:=.mon) (zge zI4 zA zB zn) (zjj (by kernel_rfl)) (by kernel_rfl) ?_;intro a g f e h;have c:=ziA e;unfold zsQ at h;split at h;{obtain⟨d,rfl⟩:=zd5 h;obtain⟨N,b⟩:=zTA _ _ _ _ (by exact c) d;exact⟨⟨_,rfl⟩,rfl,_,N,12,(zWr N _ _ _ _ ).trans b⟩};{cases h}
def zXs:zfA:=[(213,([true,true,true,true,false,false,false,false],(some (1,1,[[0],[1],[2],[4],[7]])),zsQ))]++z2N
theorem zdX:zeg zXs:=zqK zn (by
 intro x a;simp only[qG,qN,or_false]at a;rcases a with rfl
 .exact zMJ)
def zXU (x:Mon)(p:Int):Mon:={x with Dirty:=up x.Dirty p false}
def zqL (h:Host)(m p:Int):Host:={h with Mons:=up h.Mons m (zXU (ix h.Mons m zi) p)}
def zut (h:Host)(m p:Int):Host:=bif zb8 h m p then (cond (zcU (ix (ix h.Mons m zi).Outer p zV) noSlot) (zqL h m p) (zcm (zqL h m p) m p ⟨(ix (ix h.Mons m zi).Outer p zV).Page,1⟩)) else h
theorem zAo:∀(l:List Mon) (u:List Bool),ziE l u=true->∀x∈l,zdY x=true
 |[],_,_,x,a=>by cases a
 |m::l,u,h,x,a=>by
  simp only[ziE]at h;cases b:zdY m;{rw [b]at h;cases h}
  .rw [b]at h;simp only[cT]at h;cases c:zgz m.Outer u with
   |none=>rw[c]at h;cases h
   |some d =>rw[c]at h;rcases qG.1 a with rfl|a;{exact b};{exact zAo l d h x a}
structure PageAt (h:Host) (m p:Int):Prop where
 hm:hasB m (ln h.Mons)=true
 hp:hasB p 8=true
 ok:zdY (ix h.Mons m zi)=true
 ho:(ix h.Mons m zi).Outer.length=8
 hd:(ix h.Mons m zi).Dirty.length=8
 ht:(ix h.Mons m zi).Tables.length=(ix h.Mons m zi).Guests.length
 hs:zcU (ix (ix h.Mons m zi).Outer p zV) noSlot=ieq (ix (ix h.Mons m zi).Outer p zV).Page (-1)
theorem zSq {s:Slot}{n:Int}(h:zdD s n=true):zcU s noSlot=ieq s.Page (-1):=by unfold zdD at h;cases a:zcU s noSlot;{rw [a]at h;cases d:ieq s.Page (-1);{rfl};{have e:s.Page = -1:=qE d;cases b:igt n 0;{rw [b]at h;cases h};{cases c:win s.Page 0 (wsub .i64 n 1);{rw [b,c]at h;cases h};{have:=(zfP.1 c).1;omega}}}};{unfold zcU at a;rw[qD]at a;exact a.1.symm}
theorem zNv {h:Host}{m p:Int}(d:zb8 h m p=true):PageAt h m p:=by unfold zb8 at d;simp only[zda]at d;obtain⟨c,f,g⟩:=d;unfold zbW at c;simp only[zda]at c;have b:=zAo _ _ c.2.2.2.2 _ (zbu f zi);have a:=b;unfold zdY at a;simp only[zda]at a;have i:(ix h.Mons m zi).Outer.length=8:=(by have:=zsn a.2.2.1;simp only[ln] at this;omega);refine⟨f,g,b,i,?_,?_,?_⟩;{have:ln (ix h.Mons m zi).Dirty=8:=qE a.2.2.2.2.1;simp only[ln] at this;omega};{have:ln (ix h.Mons m zi).Tables=ln (ix h.Mons m zi).Guests:=qE a.2.1;simp only[ln] at this;omega};{have e:=a.2.2.1;unfold zcS at e;simp only[zda]at e;have j:hasB p (ln (ix h.Mons m zi).Outer)=true:=(by rw[ln,i];exact g);exact zSq (qM.1 e.1 _ (zbu j _))}
theorem zXj {x:Mon}{p:Int}(h:zeZ x):zeZ (zXU x p):=⟨h.1,h.2.1,by simpa [zXU] using h.2.2.1,h.2.2.2⟩
theorem zBe {h:Host}{m p:Int}(b:hasB m (ln h.Mons)=true)(a:SmH h):SmH (zqL h m p):=⟨a.1,zjc a.2.1 (zXj (a.2.1.2 _ (zbu b _))),a.2.2⟩
theorem zIC {h:Host}{m p:Int}{s:Slot}(d:hasB m (ln h.Mons)=true)(a:SmH h):SmH (zcm h m p s):=by have c:=a.2.1.2 _ (zbu d zi);have e:=z5E (p:=p) (qW _) c;have b:zrP (up h.Mons m {zks (ix h.Mons m zi) p (ix h.Mons m zi).Tables.length with Outer:=up (ix h.Mons m zi).Outer p s}):=zjc a.2.1 ⟨by simpa using c.1,e.2⟩;unfold zcm;cases ine (ix (ix h.Mons m zi).Outer p zV).Page (-1);{exact⟨a.1,b,a.2.2⟩};{exact⟨a.1,b,qU (zHS _ _) a.2.2.1,qU (zHS _ _) a.2.2.2⟩}
theorem zBg {h:Host}{m p:Int}(a:hasB m (ln h.Mons)=true):hasB m (ln (zqL h m p).Mons)=true:=by unfold zqL;simpa [ln] using a
theorem z5A {h:Host}{m p:Int}(a:SmH h):SmH (zut h m p):=by unfold zut;cases b:zb8 h m p;{exact a};{have P:=zNv b;cases zcU (ix (ix h.Mons m zi).Outer p zV) noSlot;{exact zIC (zBg P.hm) (zBe P.hm a)};{exact zBe P.hm a}}
@[simp] abbrev zFh (h:Host)(m p:Int):Bool:=pc (zcD h)
@[simp] abbrev zwI (h:Host)(m p:Int):Host:=zut h m p
@[simp] abbrev zwJ (h:Host)(m p:Int):Bool:=zb8 h m p
def zIh:Run:=rF3 dH dI dI fun b c d=>(zFh b c d,[aH (zwI b c d),aB (zwJ b c d)])
def zRi (N:Nat)(h:Host)(a b:Int):OA:=
 let c:=(zo h);let g:=(ix c.Mons a zi); (oN (zbU h) (oN (znX c a b) (cond (nB (zhO c a b)) (some [(aH c),(aB false)]) (oN (inb a (ln c.Mons)) (oN (inb b (ln g.Dirty)) (share (up c.Mons a ({g with Dirty:=(up g.Dirty b false)}:Mon)) (fun d=>let i:=(ix d a zi).Outer;let f:=({c with Mons:=d}:Host);let e:=(ix i b zV);let j:=({e with Rights:=1}:Slot); (oN (inb a (ln d)) (oN (inb b (ln i)) (oN zcx (cond (cond (ieq e.Page zbw.Page) (ieq e.Rights zbw.Rights) false) (some [(aH f),(aB true)]) (oN (zeW f a b j) (some [(aH (zgO f a b j)),(aB true)])))))))))))))
theorem zYC (a:Host)(c b:Int)(j:zFh a c b=true):∃N,zRi N a c b=some [aH (zwI a c b),aB (zwJ a c b)]:=by
 have g:=zL.1 j;have i:=(zT a).1 g;refine⟨0,?_⟩;unfold zRi zwI zwJ zut oN nB;conv=>zeta
 refine must (zbM g) (must rfl ?_);cases f:zb8 a c b;{simp only [zhO,zo,f,cF,cT]};{have P:=zNv f;obtain⟨k,rfl,d⟩:=zdJ (n:=a.Mons.length) P.hm;simp only[zhO,zo,f,cT,cF];have l:inb b (ln (ix a.Mons (k:Int) zi).Dirty)=true:=(by rw[ln,P.hd];exact P.hp);have h:inb b (ln (ix a.Mons (k:Int) zi).Outer)=true:=(by rw[ln,P.ho];exact P.hp);refine must P.hm (must l ?_);simp only[share,zdP d,h,cT,zcx,zbw];refine must (zBg (p:=b) P.hm) ?_;have e:∀s:Slot,zcU s noSlot=bif ieq s.Page noSlot.Page then ieq s.Rights noSlot.Rights else false:=fun s=>(by unfold zcU;cases ieq s.Page noSlot.Page<;>rfl);rw[<- e];cases zcU (ix (ix a.Mons (k:Int) zi).Outer b zV) noSlot;{refine zdy rfl (must (zbM ⟨(zT _).2 (zBe P.hm i),zBg (p:=b) P.hm,?_,?_⟩) rfl);{simp only [zdP d];exact h};{simp only [zdP d];exact kY P.ht}};{rfl}}
theorem zSK:vN 337 zIh:=kF3 zI4 zA zB zdX (zq []) zYC
def z3G:zba:=[(337,zIh)]++z0V
theorem z3H:zK z3G:=zh zSK zI4
def z3I:zba:=z3G
theorem zhU:zK z3I:=z3H
def zAK (o i t:Int):Int:=bif zgU i t then 1 else (cond (zgU o t) 2 0)
@[simp] abbrev zrq (o i t:Int):Bool:=true
@[simp] abbrev znT (o i t:Int):Int:=zAK o i t
def zCb:Run:=rF3 dI dI dI fun b c d=>(zrq b c d,[aI (znT b c d)])
def zHv (N:Nat)(b c a:Int):OA:=
 (oN (zio c a) (cond (zh3 c a) (some [(aI 1)]) (oN (zio b a) (cond (zh3 b a) (some [(aI 2)]) (some [(aI 0)])))))
theorem zTm (a b c:Int)(d:zrq a b c=true):∃N,zHv N a b c=some [aI (znT a b c)]:=by refine⟨0,?_⟩;unfold zHv oN;refine must rfl (br (fun _=>?_) (fun _=>must rfl (br (fun _=>?_) (fun _=>?_))));all_goals first|rfl|(simp only [*,znT,zAK,cT,cF]<;>rfl)|simp_all[Ty.cells,znT,zAK]
theorem zMl:vN 353 zCb:=kF3 zhU zA zB zdX (zq []) zTm
theorem has3 (p:Int):hasB p 3=win p 0 2:=by unfold hasB win ige ile;by_cases a:0<=p<;>by_cases b:p<3;{rw [qJ (p:=0<=p/\p<3) ⟨a,b⟩,qJ (p:=p≥0) a,qJ (p:=p<=2) (by omega)];rfl};{rw [qH (p:=0<=p/\p<3) (by omega),qH (p:=p<=2) (by omega)];simp};{rw [qH (p:=0<=p/\p<3) (by omega),qH (p:=p≥0) (by omega)];simp};{rw [qH (p:=0<=p/\p<3) (by omega),qH (p:=p≥0) (by omega)];simp}
theorem has2 (p:Int):hasB p 2=win p 0 1:=by unfold hasB win ige ile;by_cases a:0<=p<;>by_cases b:p<2;{rw [qJ (p:=0<=p/\p<2) ⟨a,b⟩,qJ (p:=p≥0) a,qJ (p:=p<=1) (by omega)];rfl};{rw [qH (p:=0<=p/\p<2) (by omega),qH (p:=p<=1) (by omega)];simp};{rw [qH (p:=0<=p/\p<2) (by omega),qH (p:=p≥0) (by omega)];simp};{rw [qH (p:=0<=p/\p<2) (by omega),qH (p:=p≥0) (by omega)];simp}
def zdm (m g:Int):Int:=bif win m 0 2 then (cond (win g 0 1) (zM .i64 (zM .i64 1 g) (zmn .i64 m 2)) 0) else 0
@[simp] abbrev zi8 (m g:Int):Bool:=true
@[simp] abbrev zqC (m g:Int):Int:=zdm m g
def zxM:Run:=rF2 dI dI fun b c=>(zi8 b c,[aI (zqC b c)])
def zRp (N:Nat)(a b:Int):OA:=
 (oN (zO a 0 2) (cond (nB (zS a 0 2)) (some [(aI 0)]) (oN (zO b 0 1) (cond (nB (zS b 0 1)) (some [(aI 0)]) (some [(aI (zM .i64 (zM .i64 1 b) (zmn .i64 a 2)))])))))
theorem zYJ (a b:Int)(c:zi8 a b=true):∃N,zRp N a b=some [aI (zqC a b)]:=by refine⟨0,?_⟩;unfold zRp oN nB;refine must rfl (brN (fun _=>?_) (fun _=>must rfl (brN (fun _=>?_) (fun _=>?_))));all_goals first|rfl|(simp only [*,zqC,zdm,cT,cF]<;>rfl)|simp_all[Ty.cells,zqC,zdm]
theorem zBK:vN 37 zxM:=kF2 zhU zA zB zdX (zq []) zYJ
@[simp] abbrev zD7 (m g:Int):Bool:=true
@[simp] abbrev zyE (m g:Int):Int:=zdm m g
def zId:Run:=rF2 dI dI fun b c=>(zD7 b c,[aI (zyE b c)])
def zRe (N:Nat)(a b:Int):OA:=
 (oN (zdh a 3) (cond (nB (zdG a 3)) (some [(aI 0)]) (oN (zdh b 2) (cond (nB (zdG b 2)) (some [(aI 0)]) (some [(aI (zM .i64 (zM .i64 1 b) (zmn .i64 a 2)))])))))
theorem zYx (a b:Int)(c:zD7 a b=true):∃N,zRe N a b=some [aI (zyE a b)]:=by refine⟨0,?_⟩;unfold zRe oN nB;refine must rfl (brN (fun _=>?_) (fun _=>must rfl (brN (fun _=>?_) (fun _=>?_))));all_goals first|rfl|(simp only [*,zyE,zdm,has3,has2,cT,cF]<;>rfl)|simp_all[Ty.cells,zyE,zdm,has3,has2]
theorem zSF:vN 106 zId:=kF2 zhU zA zB zdX (zq []) zYx
def zhe (k:Kept)(p:Int):Bool:=bif zdi k p then ix k.Known p false else false
def ze0 (k:Kept)(p:Int):Slot:=bif zhe k p then ix k.Slots p zV else noSlot
@[simp] abbrev zt2 (k:Kept)(p:Int):Bool:=pc (SmK k)
@[simp] abbrev zt1 (k:Kept)(p:Int):Slot:=ze0 k p
@[simp] abbrev zzv (k:Kept)(p:Int):Bool:=zhe k p
def zEP:Run:=rF2 (dT .kept) dI fun b c=>(zt2 b c,[aT .slot (zt1 b c),aB (zzv b c)])
def zZD (N:Nat)(a:Kept)(b:Int):OA:=
 let c:=(ix a.Slots b zV); (oN (zpo a b) (cond (nB (zis a b)) (oN zcx (some [(.agg [(.i .i64 zbw.Page),(.i .i64 zbw.Rights)]),(aB false)])) (oN (inb b (ln a.Known)) (cond (nB (ix a.Known b false)) (oN zcx (some [(.agg [(.i .i64 zbw.Page),(.i .i64 zbw.Rights)]),(aB false)])) (oN (inb b (ln a.Slots)) (some [(.agg [(.i .i64 c.Page),(.i .i64 c.Rights)]),(aB true)]))))))
theorem z4u (a:Kept)(b:Int)(f:zt2 a b=true):∃N,zZD N a b=some [aT .slot (zt1 a b),aB (zzv a b)]:=by
 have g:=zL.1 f;refine⟨0,?_⟩;unfold zZD zt1 zzv ze0 zhe oN nB;conv=>zeta
 refine must (zbM g) ?_;rw[show zis a b=zdi a b from rfl];cases c:zdi a b;{rfl};{unfold zdi at c;obtain⟨d,e⟩:=zda.1 c;simp only[zG d,zG e,cT];cases ix a.Known b false<;>rfl}
theorem zHY:vN 35 zEP:=kF2 zhU zA zB zdX (zq []) z4u
def filled (k:Kept)(a b:List Slot)(p:Int):Kept:=bif zdi k p then (cond (hasB p (ln a)) ⟨up k.Known p true,up k.Slots p (zbx (ix a p zV) b)⟩ k) else k
@[simp] theorem z2I {k:Kept}{a b:List Slot}{p:Int}(h:SmK k):SmK (filled k a b p):=by unfold filled;cases zdi k p;{exact h};{cases hasB p (ln a);{exact h};{exact⟨by simpa using h.1,by simpa using h.2⟩}}
@[simp] abbrev zKt (k:Kept)(i o:List Slot)(p:Int):Bool:=pc (SmK k)
@[simp] abbrev zNK (k:Kept)(i o:List Slot)(p:Int):Kept:=filled k i o p
def zNI:Run:=rF4 (dT .kept) (dS .slot) (dS .slot) dI fun b c d e=>(zKt b c d e,[aT .kept (zNK b c d e)])
def zUk (N:Nat)(d:Kept)(c e:lS)(a:Int):OA:=
 let b:=(zdw d); (oN (zfW d) (oN (zpo b a) (cond (zis b a) (cond (ilt a (ln c)) (oN (inb a (ln b.Known)) (share (up b.Known a true) (fun f=>(oN (inb a (ln c)) (oN (zkw (ix c a zV) e) (oN (inb a (ln b.Slots)) (share (up b.Slots a (zm9 (ix c a zV) e)) (fun g=>(some [(aT .kept (⟨f,g⟩:Kept))]))))))))) (some [(aT .kept b)])) (some [(aT .kept b)]))))
theorem z1H (b:Kept)(c d:List Slot)(a:Int)(j:zKt b c d a=true):∃N,zUk N b c d a=some [aT .kept (zNK b c d a)]:=by
 have g:=zL.1 j;refine⟨0,?_⟩;unfold zUk zNK filled oN;conv=>zeta
 refine must (zbM ((zym _).2 g)) (must (zbM g) ?_);rw[show zis (zdw b) a=zdi b a from rfl];cases f:zdi b a;{rfl};{unfold zdi at f;obtain⟨e,h⟩:=zda.1 f;rw[has_lt e (m:=ln c)];cases i:hasB a (ln c);{rfl};{simp only [cT,zdw,zG e,zG h,zG i,share,zkw];rfl}}
theorem zVi:vN 223 zNI:=kF4 zhU zA zB zdX (zq []) z1H
theorem zU8 {a b:Type}(p:a->Bool)(r:a->Option b)(K:Unit->Option b):∀(l:List a) (i:Nat),goL (fun _ x (_:Unit) k=>bif p x then r x else k ()) K l i ()=match l.find? p with|some x=>r x|none=>K ()
 |[],_=>rfl
 |x::l,i=>by simp only[goL];cases h:p x;{rw [List.find?_cons_of_neg (by simp[h])];exact zU8 p r K l (i+1)};{rw [List.find?_cons_of_pos h];rfl}
def zvW (b:List Entry)(t p:Int):Option Entry:=b.find? fun e=>bif ieq e.Tag t then ieq e.Page p else false
@[simp] abbrev zfw (b:List Entry)(t p:Int):Bool:=true
@[simp] abbrev zna (b:List Entry)(t p:Int):Entry:=(zvW b t p).getD ⟨0,0,0,0⟩
@[simp] abbrev zd7 (b:List Entry)(t p:Int):Bool:=(zvW b t p).isSome
def zoK:Run:=rF3 (dS .entry) dI dI fun b c d=>(zfw b c d,[aT .entry (zna b c d),aB (zd7 b c d)])
def zBA (N:Nat)(f:lE)(g h:Int):OA:=
 (iter (σ:=(Int×(Int×(Int×(Int×(Int×(Int×(Int×(lE×Unit))))))))) N (fun j a=>let c:=a.2.2.2.2.2.2.2.1;let d:=(inb a.2.2.1 (ln c));let e:=(j (a.1,(a.2.1,((zM .i64 a.2.2.1 1),(a.2.2.2.1,(a.2.2.2.2.1,(a.2.2.2.2.2.1,(a.2.2.2.2.2.2.1,(c,())))))))));let b:=(ix c a.2.2.1 zeq); (cond (ilt a.2.2.1 (ln c)) (oN d (cond (ieq b.Tag a.1) (oN d (cond (ieq b.Page a.2.1) (oN d (some [(.agg [(.i .i64 b.Tag),(.i .i64 b.Page),(.i .i64 b.Host),(.i .i64 b.Rights)]),(aB true)])) e)) e)) (some [(.agg [(.i .i64 0),(.i .i64 0),(.i .i64 0),(.i .i64 0)]),(aB false)]))) (g,(h,(0,(0,(0,(0,(0,(f,())))))))))
def zOk:FuncId->Nat->Option Tmpl:=zq [(36,0,{n:=36,tm:=[(0,.sl 0 []),(1,ti),(2,ti),(6,.lp 0 0),(8,ti)],lo:=[(0,[ti,ti,ti,ti])],ro:=[(0,.entry,false)]})]
theorem zNa (a:List Entry)(c d:Int)(j:zce big [aS .entry a,aI c,aI d])(l:zfw a c d=true):∃N,zBA N a c d=some [aT .entry (zna a c d),aB (zd7 a c d)]:=by
 have h:=(len0 j);refine zcz fun N g=>?_;unfold zBA oN;conv=>zeta
 refine(zbo a (fun i (t:Unit)=>(c,d,(i:Int),0,0,0,0,a,())) _ (fun _ (x:Entry) (_:Unit) k=>bif (cond (ieq x.Tag c) (ieq x.Page d) false) then (some [AV.agg (Ty.cells .entry x),AV.one (.b true)]) else k ()) (fun (t:Unit)=>(some [(.agg [(.i .i64 0),(.i .i64 0),(.i .i64 0),(.i .i64 0)]),(.one (.b false))])) (fun i f t rec=>?_) (fun t rec=>?_) _ () (g h)).trans ?_;{simp only [zbD f,zbf f,zbp f,zbi f h,cT];cases ieq a[i].Tag c<;>cases ieq a[i].Page d<;>rfl};{simp only [zbt,cF]};rw[zU8 (fun e:Entry=>bif ieq e.Tag c then ieq e.Page d else false)];unfold zna zd7 zvW;cases a.find? (fun e:Entry=>bif ieq e.Tag c then ieq e.Page d else false)<;>rfl
theorem ztc:vN 36 zoK:=hF3 zhU zA zB zdX zOk zNa
def zoz (t p:Int)(e:Entry):Bool:=bif ine e.Tag t then true else ine e.Page p
def zcg (b:List Entry)(t p:Int):List Entry:=b.filter (zoz t p)
theorem ztp (b:List Entry)(t p:Int):(zcg b t p).length<=b.length:=uA _ _
@[simp] abbrev zgr (b:List Entry)(t p:Int):Bool:=pc (b.length<=1048576)
@[simp] abbrev zmL (b:List Entry)(t p:Int):List Entry:=zcg b t p
def zwE:Run:=rF3 (dS .entry) dI dI fun b c d=>(zgr b c d,[aS .entry (zmL b c d)])
def zBC (N:Nat)(h:lE)(i j:Int):OA:=
 (iter (σ:=(Int×(Int×(Int×(lE×(lE×Unit)))))) N (fun f a=>let b:=a.2.2.2.1;let c:=(inb a.2.2.1 (ln b));let d:=(ix b a.2.2.1 zeq);let e:=(ap a.2.2.2.2.1 [d]);let g:=(f (a.1,(a.2.1,((zM .i64 a.2.2.1 1),(b,(e,())))))); (cond (ilt a.2.2.1 (ln b)) (oN c (cond (ine d.Tag a.1) (oN c (oN (few (ln e)) g)) (oN c (cond (ine d.Page a.2.1) (oN c (oN (few (ln e)) g)) (f (a.1,(a.2.1,((zM .i64 a.2.2.1 1),(b,(a.2.2.2.2.1,())))))))))) (some [(aS .entry a.2.2.2.2.1)]))) (i,(j,(0,(h,([],()))))))
def zOm:FuncId->Nat->Option Tmpl:=zq [(109,0,{n:=40,tm:=[(0,.sl 0 []),(1,ti),(2,ti),(7,.sl 1 []),(8,ti)],lo:=[],ro:=[(0,.entry,false),(1,.entry,true)]})]
theorem zNc (a:List Entry)(b c:Int)(h:zgr a b c=true):∃N,zBC N a b c=some [aS .entry (zmL a b c)]:=by
 have j:=zL.1 h;have f:=zc3 j;refine zcz fun N e=>?_;unfold zBC oN;conv=>zeta
 refine(zbo a (fun i (t:lE)=>(b,c,(i:Int),a,t,())) _ (fun _ (x:Entry) (t:List Entry) g=>bif zoz b c x then (cond (few (ln (ap t [x]))) (g (ap t [x])) none) else g t) (fun (t:lE)=>(some [(.one (.s .entry t))])) (fun i d t rec=>?_) (fun t rec=>?_) _ ([]) (e f.1)).trans ?_;{simp only [zbD d,zbf d,zbp d,zbi d f.1,cT];unfold zoz;cases ine a[i].Tag b<;>cases ine a[i].Page c<;>rfl};{simp only [zbt,cF]};exact zlB (zoz b c) _ a 0 [] (by simpa using f.2)
theorem zGx:vN 109 zwE:=kF3 zhU zA zB zdX zOm zNc
@[simp] abbrev zhI (b:List Entry)(t p:Int):Bool:=pc (b.length<=1048576)
@[simp] abbrev zkb (b:List Entry)(t p:Int):List Entry:=zcg b t p
def zwr:Run:=rF3 (dS .entry) dI dI fun b c d=>(zhI b c d,[aS .entry (zkb b c d)])
def zBn (N:Nat)(e:lE)(h i:Int):OA:=
 (iter (σ:=(Int×(Int×(Int×(Int×(lE×(lE×Unit))))))) N (fun f a=>let b:=a.2.2.2.2.2.1;let c:=(ix b a.2.1 zeq);let d:=(ap a.2.2.2.2.1 [c]);let g:=(f (a.1,((zM .i64 a.2.1 1),(a.2.2.1,(a.2.2.2.1,(d,(b,()))))))); (cond (ilt a.2.1 a.1) (oN (inb a.2.1 (ln b)) (cond (ieq c.Tag a.2.2.1) (cond (nB (ieq c.Page a.2.2.2.1)) (oN (few (ln d)) g) (f (a.1,((zM .i64 a.2.1 1),(a.2.2.1,(a.2.2.2.1,(a.2.2.2.2.1,(b,())))))))) (oN (few (ln d)) g))) (some [(aS .entry a.2.2.2.2.1)]))) ((ln e),(0,(h,(i,([],(e,())))))))
def zOf:FuncId->Nat->Option Tmpl:=zq [(203,0,{n:=25,tm:=[(1,.fn 204 [0,1]),(5,.sl 0 []),(9,.sl 1 []),(10,ti),(11,ti)],lo:=[(0,[ti]),(1,[ti])],ro:=[(0,.entry,true),(1,.entry,false)]})]
theorem zMW (a:List Entry)(b c:Int)(h:zhI a b c=true):∃N,zBn N a b c=some [aS .entry (zkb a b c)]:=by
 have j:=zL.1 h;have f:=zc3 j;refine zcz fun N e=>?_;unfold zBn oN nB;conv=>zeta
 refine(zbo a (fun i (t:lE)=>((ln a),(i:Int),b,c,t,a,())) _ (fun _ (x:Entry) (t:List Entry) g=>bif zoz b c x then (cond (few (ln (ap t [x]))) (g (ap t [x])) none) else g t) (fun (t:lE)=>(some [(.one (.s .entry t))])) (fun i d t rec=>?_) (fun t rec=>?_) _ ([]) (e f.1)).trans ?_;{simp only [zbD d,zbf d,zbp d,zbi d f.1,cT];unfold zoz;simp only[zyG];cases ieq a[i].Tag b<;>cases ieq a[i].Page c<;>rfl};{simp only [zbt,cF]};exact zlB (zoz b c) _ a 0 [] (by simpa using f.2)
theorem zGl:vN 105 zwr:=kF3 zhU zA zB zdX zOf zMW
def z9f:zba:=[(353,zCb),(37,zxM),(106,zId),(35,zEP),(223,zNI),(36,zoK),(109,zwE),(105,zwr)]++z3I
theorem zAa:zK z9f:=zh zMl (zh zBK (zh zSF (zh zHY (zh zVi (zh ztc (zh zGx (zh zGl zhU)))))))
def zqe (b:List Entry)(e:Entry):List Entry:=bif igt (ln (ap (zcg b e.Tag e.Page) [e])) 6 then dp (ap (zcg b e.Tag e.Page) [e]) (wsub .i64 (ln (ap (zcg b e.Tag e.Page) [e])) 6) else ap (zcg b e.Tag e.Page) [e]
theorem zAP {b:List Entry}(e:Entry)(h:b.length<=1048576):(zqe b e).length<=1048576/\(ap (zcg b e.Tag e.Page) [e]).length<=1048577:=by have d:=ztp b e.Tag e.Page;have c:(ap (zcg b e.Tag e.Page) [e]).length<=1048577:=(by simp[ap];omega);refine⟨?_,c⟩;unfold zqe;cases a:igt (ln (ap (zcg b e.Tag e.Page) [e])) 6;{have a:=jU a;simp only[ln]at a;simp only[cF];omega};{simp only [cT,dp,vK];have a:=qE a;have:wsub .i64 (ln (ap (zcg b e.Tag e.Page) [e])) 6=ln (ap (zcg b e.Tag e.Page) [e])-6:=zzM (by simp only[ln] at *;omega) (by simp only[ln] at *;omega);rw[this];simp only[ln] at *;omega}
@[simp] abbrev zle (b:List Entry)(e:Entry):Bool:=pc (b.length<=1048576)
@[simp] abbrev zl5 (b:List Entry)(e:Entry):List Entry:=zqe b e
def zqr:Run:=rF2 (dS .entry) (dT .entry) fun b c=>(zle b c,[aS .entry (zl5 b c)])
def zDj (N:Nat)(d:lE)(b:Entry):OA:=
 let a:=(ap (zmL d b.Tag b.Page) [b]);let c:=(wsub .i64 (ln a) 6); (oN (zgr d b.Tag b.Page) (oN (few (ln a)) (cond (igt (ln a) 6) (oN (inr c (ln a) (ln a)) (oN (few (ln (ap [] (dp a c)))) (some [(aS .entry (ap [] (dp a c)))]))) (some [(aS .entry a)]))))
theorem zQa (b:List Entry)(a:Entry)(h:zle b a=true):∃N,zDj N b a=some [aS .entry (zl5 b a)]:=by
 have f:=zL.1 h;obtain⟨c,g⟩:=zAP a f;refine⟨0,?_⟩;unfold zDj oN;conv=>zeta
 refine must (zbM f) (must (zg8 (qU g (by decide:1048577<=2147483648))) ?_);unfold zl5 zqe at *;show _=some [AV.one (.s .entry (cond (igt (ln (ap (zcg b a.Tag a.Page) [a])) 6) (dp (ap (zcg b a.Tag a.Page) [a]) (wsub .i64 (ln (ap (zcg b a.Tag a.Page) [a])) 6)) (ap (zcg b a.Tag a.Page) [a])))];cases d:igt (ln (ap (zcg b a.Tag a.Page) [a])) 6;{rfl};{rw [d]at c;simp only[cT]at c;have d:=qE d;have e:wsub .i64 (ln (ap (zcg b a.Tag a.Page) [a])) 6=ln (ap (zcg b a.Tag a.Page) [a])-6:=zzM (by simp only[ln] at *;omega) (by simp only[ln] at *;omega);refine must rfl (must (qJ ?_) (must ?_ ?_));{show 0<=wsub .i64 (ln (ap (zcg b a.Tag a.Page) [a])) 6/\wsub .i64 (ln (ap (zcg b a.Tag a.Page) [a])) 6<=ln (ap (zcg b a.Tag a.Page) [a])/\ln (ap (zcg b a.Tag a.Page) [a])<=ln (ap (zcg b a.Tag a.Page) [a]);rw[e];simp only[ln] at *;omega};{exact znN c};{rw [zmq];rfl}}
theorem zuB:vN 224 zqr:=kF2 zAa zA zB zdX (zq []) zQa
def zog (l:List Slot)(p:Int):Option Nat:=l.findIdx? fun s=>ieq s.Page p
def zh2 (p:Int):List Mon->Nat->Int×Int
 |[],_=>(-1,-1)
 |m::l,i=>match zog m.Outer p with|some k=>((i:Int),(k:Int))|none=>zh2 p l (i+1)
def zbG (h:Host)(p:Int):Int×Int:=bif ilt p 0 then (-1,-1) else zh2 p h.Mons 0
theorem zRV {a:Type}(p:Slot->Bool)(r:Nat->Option a)(K:Unit->Option a):∀(l:List Slot) (i:Nat),goL (fun j x (_:Unit) k=>bif p x then r j else k ()) K l i ()=match l.findIdx? p with|some k=>r (i+k)|none=>K ()
 |[],_=>rfl
 |x::l,i=>by simp only[goL];rw[List.findIdx?_cons];cases h:p x;{simp only [cF,kE,if_false];rw[zRV p r K l (i+1)];cases l.findIdx? p with|none=>rfl|some k=>simp only[Option.map_some];congr 1;omega};{rfl}
theorem zOI {c:Type}(p:Int)(r:Int->Int->Option c):∀(l:List Mon) (i:Nat),goL (fun i (x:Mon) (_:Unit) b=>goL (fun j (y:Slot) (_:Unit) a=>bif ieq y.Page p then r (i:Int) (j:Int) else a ()) (fun _=>b ()) x.Outer 0 ()) (fun _=>r (-1) (-1)) l i ()=r (zh2 p l i).1 (zh2 p l i).2
 |[],_=>rfl
 |m::l,i=>by simp only[goL,zh2];rw[zRV (fun s=>ieq s.Page p) (fun j=>r (i:Int) (j:Int))];unfold zog;cases m.Outer.findIdx? (fun s=>ieq s.Page p) with|none=>exact zOI p r l (i+1)|some k=>simp only[j7]
@[simp] abbrev zkt (h:Host)(p:Int):Bool:=true
@[simp] abbrev zgg (h:Host)(p:Int):Int:=(zbG h p).1
@[simp] abbrev zhW (h:Host)(p:Int):Int:=(zbG h p).2
def ztg:Run:=rF2 dH dI fun b c=>(zkt b c,[aI (zgg b c),aI (zhW b c)])
def zvy (N:Nat)(f:Host)(g:Int):OA:=
 (cond (ilt g 0) (some [(aI (-1)),(aI (-1))]) (iter (σ:=(Int×(Int×(Int×(lN×Unit))))) N (fun i b=>let c:=b.2.2.1; (cond (ilt c b.2.1) (oN (inb c (ln b.2.2.2.1)) (iter (σ:=(Int×(Int×(Int×(Int×(Int×(Int×(Int×(lN×Unit))))))))) N (fun j a=>let e:=a.2.2.2.2.2.2.2.1;let h:=(ix e a.2.2.2.2.1 zi).Outer;let d:=a.2.2.2.2.2.2.1; (cond (ilt d a.2.2.2.2.2.1) (oN (inb d (ln h)) (cond (ieq (ix h d zV).Page a.1) (some [(aI a.2.1),(aI d)]) (j (a.1,(a.2.1,(a.2.2.1,(a.2.2.2.1,(a.2.2.2.2.1,(a.2.2.2.2.2.1,((zM .i64 d 1),(e,()))))))))))) (i (a.1,(a.2.2.1,((zM .i64 a.2.2.2.1 1),(e,()))))))) (b.1,(c,(b.2.1,(c,(c,((ln (ix b.2.2.2.1 c zi).Outer),(0,(b.2.2.2.1,())))))))))) (some [(aI (-1)),(aI (-1))]))) (g,((ln f.Mons),(0,(f.Mons,()))))))
def zG8:FuncId->Nat->Option Tmpl:=zq [(313,0,{n:=36,tm:=[(1,ti),(13,.sl 0 []),(14,ti),(15,ti)],lo:=[],ro:=[(0,.mon,false)]}),(313,2,{n:=36,tm:=[(1,ti),(6,ti),(13,.sl 0 []),(14,ti),(15,ti),(21,.sl 0 [0]),(22,ti),(23,ti)],lo:=[],ro:=[(0,.mon,false)]})]
theorem zGM (a:Host)(c:Int)(m:zce big [aH a,aI c])(q:zkt a c=true):∃N,zvy N a c=some [aI (zgg a c),aI (zhW a c)]:=by
 have k:CVB big (.s .mon a.Mons):=(zc9 m).1 _ (by simp[AV.cvs,zbk]);have h:=k.len;refine zcz fun N e=>?_;unfold zvy zgg zhW zbG oN;conv=>zeta
 cases p:ilt c 0;{simp only [cF];refine(zbo a.Mons (fun i (t:Unit)=>(c,(ln a.Mons),(i:Int),a.Mons,())) _ (fun i (x:Mon) (_:Unit) n=>goL (fun j (y:Slot) (_:Unit) b=>bif ieq y.Page c then some [AV.one (.i .i64 (i:Int)),AV.one (.i .i64 (j:Int))] else b ()) (fun _=>n ()) x.Outer 0 ()) (fun (t:Unit)=>(some [(.one (.i .i64 (-1))),(.one (.i .i64 (-1)))])) (fun i d t rec=>?_) (fun t rec=>?_) _ () (e h)).trans ?_;{simp only [zbD d,zbf d,zbp d,zbi d h,cT];have l:a.Mons[i].Outer.length<=big:=(k.inv.2 _ (jL d) (.s .slot _) (by simp[Ty.cells])).len;refine(zbo a.Mons[i].Outer (fun j (u:Unit)=>(c,(i:Int),(ln a.Mons),(i:Int),(i:Int),(ln a.Mons[i].Outer),(j:Int),a.Mons,())) _ (fun j (y:Slot) (_:Unit) b=>bif ieq y.Page c then some [AV.one (.i .i64 (i:Int)),AV.one (.i .i64 (j:Int))] else b ()) (fun (u:Unit)=>(rec (c,((ln a.Mons),((((i+1:Nat)):Int),(a.Mons,())))))) (fun j g u f=>?_) (fun u f=>?_) _ () (e l)).trans ?_;{simp only [zbD g,zbf g,zbp g,zbi g l,cT,zbf d,zbp d,zbi d h]};{simp only [zbt,cF,zbf d,zbp d,zbi d h]};rfl};{simp only [zbt,cF]};exact zOI c (fun i j=>some [AV.one (.i .i64 i),AV.one (.i .i64 j)]) a.Mons 0};{rfl}
theorem zCC:vN 313 ztg:=hF2 zAa zA zB zdX zG8 zGM
theorem z4f {a c b:Type}(r:Option b):∀(l:List a) (i:Nat) (t:c),goL (fun _ _ _ _=>r) (fun _=>r) l i t=r
 |[],_,_=>rfl
 |_::_,_,_=>rfl
@[simp] abbrev zkx (h:Host)(p:Int):Bool:=true
@[simp] abbrev zgi (h:Host)(p:Int):Int:=(zbG h p).1
@[simp] abbrev zh4 (h:Host)(p:Int):Int:=(zbG h p).2
def ztj:Run:=rF2 dH dI fun b c=>(zkx b c,[aI (zgi b c),aI (zh4 b c)])
def zvJ (N:Nat)(d:Host)(f:Int):OA:=
 (iter (σ:=(Int×(Int×(lM×(lN×(lE×(lE×Unit))))))) N (fun g b=>(cond (ilt b.2.1 (ln b.2.2.2.1)) (cond (ige b.1 0) (iter (σ:=(Int×(Int×(Int×(lM×(lN×(lE×(lE×Unit)))))))) N (fun h a=>let c:=a.2.2.2.2.1;let e:=(ix c a.2.1 zi).Outer; (oN (inb a.2.1 (ln c)) (cond (ilt a.2.2.1 (ln e)) (oN (inb a.2.1 (ln c)) (oN (inb a.2.2.1 (ln e)) (cond (ieq (ix e a.2.2.1 zV).Page a.1) (some [(aI a.2.1),(aI a.2.2.1)]) (h (a.1,(a.2.1,((zM .i64 a.2.2.1 1),(a.2.2.2.1,(c,(a.2.2.2.2.2.1,(a.2.2.2.2.2.2.1,()))))))))))) (g (a.1,((zM .i64 a.2.1 1),(a.2.2.2.1,(c,(a.2.2.2.2.2.1,(a.2.2.2.2.2.2.1,())))))))))) (b.1,(b.2.1,(0,(b.2.2.1,(b.2.2.2.1,(b.2.2.2.2.1,(b.2.2.2.2.2.1,())))))))) (some [(aI (-1)),(aI (-1))])) (some [(aI (-1)),(aI (-1))]))) (f,(0,(d.Memory,(d.Mons,(d.Buffer,(d.IoBuffer,())))))))
def zG9:FuncId->Nat->Option Tmpl:=zq [(280,0,{n:=44,tm:=[(1,ti),(2,.lp 0 0),(6,ti)],lo:=[(0,[.sl 0 [],.sl 1 [],.sl 2 [],.sl 3 []])],ro:=[(0,(.sl .int),false),(1,.mon,false),(2,.entry,false),(3,.entry,false)]}),(280,2,{n:=44,tm:=[(1,ti),(2,.lp 0 0),(6,ti),(7,ti)],lo:=[(0,[.sl 0 [],.sl 1 [],.sl 2 [],.sl 3 []])],ro:=[(0,(.sl .int),false),(1,.mon,false),(2,.entry,false),(3,.entry,false)]})]
theorem zGX (a:Host)(b:Int)(p:zce big [aH a,aI b])(r:zkx a b=true):∃N,zvJ N a b=some [aI (zgi a b),aI (zh4 a b)]:=by
 have m:CVB big (.s .mon a.Mons):=(zc9 p).1 _ (by simp[AV.cvs,zbk]);have l:=m.len;refine zcz fun N e=>?_;unfold zvJ zgi zh4 zbG oN;conv=>zeta
 refine(zbo a.Mons (fun i (t:Unit)=>(b,(i:Int),a.Memory,a.Mons,a.Buffer,a.IoBuffer,())) _ (fun i (x:Mon) (_:Unit) q=>bif ige b 0 then goL (fun j (y:Slot) (_:Unit) c=>bif ieq y.Page b then some [AV.one (.i .i64 (i:Int)),AV.one (.i .i64 (j:Int))] else c ()) (fun _=>q ()) x.Outer 0 () else some [AV.one (.i .i64 (-1)),AV.one (.i .i64 (-1))]) (fun (t:Unit)=>(some [(.one (.i .i64 (-1))),(.one (.i .i64 (-1)))])) (fun i d t rec=>?_) (fun t rec=>?_) _ () (e l)).trans ?_;{simp only [zbD d,zbf d,zbp d,zbi d l,cT];cases h:ige b 0;{rfl};have n:a.Mons[i].Outer.length<=big:=(m.inv.2 _ (jL d) (.s .slot _) (by simp[Ty.cells])).len;simp only[cT];refine(zbo a.Mons[i].Outer (fun j (_:Unit)=>(b,((i:Int),((j:Int),(a.Memory,(a.Mons,(a.Buffer,(a.IoBuffer,())))))))) _ (fun j (y:Slot) (_:Unit) c=>bif ieq y.Page b then some [AV.one (.i .i64 (i:Int)),AV.one (.i .i64 (j:Int))] else c ()) (fun _=>rec (b,(((i+1:Nat):Int),(a.Memory,(a.Mons,(a.Buffer,(a.IoBuffer,()))))))) (fun j g u f=>?_) (fun u f=>?_) _ () (e n)).trans ?_;{simp only [zbD g,zbf g,zbp g,zbi g n,cT,zbf d,zbp d]};{simp only [zbt,cF,cT,zbf d,zbp d,zbi d l]};rfl};{simp only [zbt,cF]};cases h:ige b 0;{have k:ilt b 0=true:=(by have:=jU h;exact qJ (by omega));rw[k];exact z4f _ _ _ _};{have k:ilt b 0=false:=(by have:=qE h;exact qH (by omega));rw[k];exact zOI b (fun i j=>some [AV.one (.i .i64 i),AV.one (.i .i64 j)]) a.Mons 0}
theorem zCM:vN 280 ztj:=hF2 zAa zA zB zdX zG9 zGX
def z9g:zba:=[(224,zqr),(280,ztj),(313,ztg)]++z9f
theorem zum:zK z9g:=zh zuB (zh zCM (zh zCC zAa))
def zch (h:Host):List Int:=zxF (fun i=>ilt (zbG h (i:Int)).1 0) h.Memory.length 0
@[simp] abbrev zlW (h:Host):Bool:=pc (h.Memory.length<=1048576)
@[simp] abbrev zfd (h:Host):List Int:=zch h
def zEV:Run:=rF1 dH fun b=>(zlW b,[aS .int (zfd b)])
def zK9 (N:Nat)(b:Host):OA:=
 (iter (σ:=(Int×((List Int)×(lM×(lN×(lE×(lE×Unit))))))) N (fun c a=>let d:=(⟨a.2.2.1,a.2.2.2.1,a.2.2.2.2.1,a.2.2.2.2.2.1⟩:Host); (cond (ilt a.1 (ln a.2.2.1)) (oN (zkx d a.1) (cond (ilt (zgi d a.1) 0) (oN (few (ln (ap a.2.1 [a.1]))) (c ((zM .i64 a.1 1),((ap a.2.1 [a.1]),(a.2.2.1,(a.2.2.2.1,(a.2.2.2.2.1,(a.2.2.2.2.2.1,())))))))) (c ((zM .i64 a.1 1),(a.2.1,(a.2.2.1,(a.2.2.2.1,(a.2.2.2.2.1,(a.2.2.2.2.2.1,()))))))))) (some [(aS .int a.2.1)]))) (0,([],(b.Memory,(b.Mons,(b.Buffer,(b.IoBuffer,())))))))
def zXD:FuncId->Nat->Option Tmpl:=zq [(279,0,{n:=28,tm:=[(1,.lp 0 0),(3,.sl 0 []),(4,ti)],lo:=[(0,[.sl 1 [],.sl 2 [],.sl 3 [],.sl 4 []])],ro:=[(0,.int,true),(1,(.sl .int),false),(2,.mon,false),(3,.entry,false),(4,.entry,false)]})]
theorem zVR (a:Host)(f:zlW a=true):∃N,zK9 N a=some [aS .int (zfd a)]:=by
 have g:=zL.1 f;have e:=zc3 g;refine zcz fun N d=>?_;unfold zK9 oN;conv=>zeta
 refine(zbo a.Memory (fun i (t:(List Int))=>((i:Int),t,a.Memory,a.Mons,a.Buffer,a.IoBuffer,())) _ (fun i (_:List Int) (t:List Int) b=>bif ilt (zbG a (i:Int)).1 0 then (cond (few (ln (ap t [(i:Int)]))) (b (ap t [(i:Int)])) none) else b t) (fun (t:(List Int))=>(some [(.one (.s .int t))])) (fun i c t rec=>?_) (fun t rec=>?_) _ ([]) (d e.1)).trans ?_;{simp only [zbD c,zbf c,zbp c,zbi c e.1,cT]};{simp only [zbt,cF]};rw[zyu (fun i (t:List Int) b=>bif ilt (zbG a (i:Int)).1 0 then (cond (few (ln (ap t [(i:Int)]))) (b (ap t [(i:Int)])) none) else b t)];exact zAk (fun i=>ilt (zbG a (i:Int)).1 0) _ _ 0 [] (by simpa using e.2)
theorem zO8:vN 279 zEV:=kF1 zum zA zB zdX zXD zVR
@[simp] abbrev zlE (h:Host):Bool:=pc (h.Memory.length<=1048576)
@[simp] abbrev zfF (h:Host):List Int:=zch h
def zEB:Run:=rF1 dH fun b=>(zlE b,[aS .int (zfF b)])
def zKP (N:Nat)(b:Host):OA:=
 (iter (σ:=(Int×(Int×((List Int)×(lM×(lN×(lE×(lE×Unit)))))))) N (fun d a=>let c:=a.2.2.2.2.2.2.1;let e:=(⟨a.2.2.2.1,a.2.2.2.2.1,a.2.2.2.2.2.1,c⟩:Host); (cond (ilt a.2.1 a.1) (oN (zkt e a.2.1) (cond (ilt (zgg e a.2.1) 0) (oN (few (ln (ap a.2.2.1 [a.2.1]))) (d (a.1,((zM .i64 a.2.1 1),((ap a.2.2.1 [a.2.1]),(a.2.2.2.1,(a.2.2.2.2.1,(a.2.2.2.2.2.1,(c,()))))))))) (d (a.1,((zM .i64 a.2.1 1),(a.2.2.1,(a.2.2.2.1,(a.2.2.2.2.1,(a.2.2.2.2.2.1,(c,())))))))))) (some [(aS .int a.2.2.1)]))) ((ln b.Memory),(0,([],(b.Memory,(b.Mons,(b.Buffer,(b.IoBuffer,()))))))))
def zXw:FuncId->Nat->Option Tmpl:=zq [(273,0,{n:=28,tm:=[(1,.lp 0 0),(3,.sl 0 []),(10,ti),(11,ti)],lo:=[(0,[.sl 1 [],.sl 2 [],.sl 3 [],.sl 4 []])],ro:=[(0,.int,true),(1,(.sl .int),false),(2,.mon,false),(3,.entry,false),(4,.entry,false)]})]
theorem zVx (a:Host)(f:zlE a=true):∃N,zKP N a=some [aS .int (zfF a)]:=by
 have g:=zL.1 f;have e:=zc3 g;refine zcz fun N d=>?_;unfold zKP oN;conv=>zeta
 refine(zbo a.Memory (fun i (t:(List Int))=>((ln a.Memory),(i:Int),t,a.Memory,a.Mons,a.Buffer,a.IoBuffer,())) _ (fun i (_:List Int) (t:List Int) b=>bif ilt (zbG a (i:Int)).1 0 then (cond (few (ln (ap t [(i:Int)]))) (b (ap t [(i:Int)])) none) else b t) (fun (t:(List Int))=>(some [(.one (.s .int t))])) (fun i c t rec=>?_) (fun t rec=>?_) _ ([]) (d e.1)).trans ?_;{simp only [zbD c,zbf c,zbp c,zbi c e.1,cT]};{simp only [zbt,cF]};rw[zyu (fun i (t:List Int) b=>bif ilt (zbG a (i:Int)).1 0 then (cond (few (ln (ap t [(i:Int)]))) (b (ap t [(i:Int)])) none) else b t)];exact zAk (fun i=>ilt (zbG a (i:Int)).1 0) _ _ 0 [] (by simpa using e.2)
theorem zOP:vN 273 zEB:=kF1 zum zA zB zdX zXw zVx
def zhu (m:List (List Int))(p:Int)(c:List Int):List (List Int):=bif hasB p (ln m) then (cond (zci c) (up m p c) m) else m
@[simp] abbrev zlf (m:List (List Int))(p:Int)(c:List Int):Bool:=pc (SmM m/\c.length<=1048576)
@[simp] abbrev zjE (m:List (List Int))(p:Int)(c:List Int):List (List Int):=zhu m p c
def zzq:Run:=rF3 (dS (.sl .int)) dI (dS .int) fun b c d=>(zlf b c d,[aS (.sl .int) (zjE b c d)])
def zDn (N:Nat)(a:lM)(b:Int)(c:List Int):OA:=
 (oN (zfV a) (oN (zO b 0 (wsub .i64 (ln a) 1)) (cond (zS b 0 (wsub .i64 (ln a) 1)) (oN (zfT c) (cond (zfh c) (oN (few (ln (ap [] c))) (oN (inb b (ln (zen a))) (share (up (zen a) b (ap [] c)) (fun d=>(some [(aS (.sl .int) d)]))))) (some [(aS (.sl .int) (zen a))]))) (some [(aS (.sl .int) (zen a))]))))
theorem zQg (b:List (List Int))(a:Int)(c:List Int)(g:zlf b a c=true):∃N,zDn N b a c=some [aS (.sl .int) (zjE b a c)]:=by obtain⟨e,d⟩:=zL.1 g;refine⟨0,?_⟩;unfold zDn zjE zhu oN;refine must (zbM ((zpZ _).2 e)) (must rfl ?_);rw[show zS a 0 (wsub .i64 (ln b) 1)=hasB a (ln b) from zqM e.1 a];cases f:hasB a (ln b);{rfl};{simp only [cT,zfT,zfh];cases h:zci c;{rfl};{refine must rfl (must (znN d) (must (zG f) ?_));rw[zmq];rfl}}
theorem zJE:vN 282 zzq:=kF3 zum zA zB zdX (zq []) zQg
@[simp] abbrev zkU (m:List (List Int))(p:Int)(c:List Int):Bool:=pc (SmM m/\c.length<=1048576)
@[simp] abbrev zjr (m:List (List Int))(p:Int)(c:List Int):List (List Int):=zhu m p c
def zy5:Run:=rF3 (dS (.sl .int)) dI (dS .int) fun b c d=>(zkU b c d,[aS (.sl .int) (zjr b c d)])
def zCV (N:Nat)(a:lM)(b:Int)(c:List Int):OA:=
 (oN (zfS a) (oN (zdh b (ln a)) (cond (zdG b (ln a)) (oN (zhX c) (cond (zgn c) (oN (zdC c) (oN (inb b (ln (zdu a))) (share (up (zdu a) b (zdx c)) (fun d=>(some [(aS (.sl .int) d)]))))) (some [(aS (.sl .int) (zdu a))]))) (some [(aS (.sl .int) (zdu a))]))))
theorem zPN (a:List (List Int))(b:Int)(c:List Int)(f:zkU a b c=true):∃N,zCV N a b c=some [aS (.sl .int) (zjr a b c)]:=by obtain⟨g,d⟩:=zL.1 f;refine⟨0,?_⟩;unfold zCV zjr zhu oN;refine must (zbM g) (must rfl ?_);rw[show zdG b (ln a)=hasB b (ln a) from rfl];cases e:hasB b (ln a);{rfl};{simp only [cT,zhX,zgn];cases h:zci c;{rfl};{refine must rfl (must (zbM (qU d (by decide))) (must (zG e) rfl))}}
theorem zJi:vN 275 zy5:=kF3 zum zA zB zdX (zq []) zPN
def zqV:zba:=[(279,zEV),(273,zEB),(282,zzq),(275,zy5)]++z9g
theorem zg5:zK zqV:=zh zO8 (zh zOP (zh zJE (zh zJi zum)))
end
end Go.Proofs.YthhbajmehldikaaGreat.E
