/- What is proved here: a part of the proof that the statement of this claim holds (several texts of wip/, laid together). -/
import Derived.Test.YtgjpbkhaaiffkaaGreatU4
namespace Go.Proofs.YtgjpbkhaaiffkaaGreat.E
open Go
set_option linter.constructorNameAsVariable false
set_option linter.unusedVariables false
set_option maxRecDepth 100000
set_option linter.unusedSimpArgs false
set_option linter.unusedSectionVars false
noncomputable section
def SmK (k:Kept):Prop:=k.Known.length<=1048576/\k.Slots.length<=1048576
def zCF (l:List Kept):Prop:=l.length<=1048576/\∀x∈l,SmK x
def zf8 (m:Mon):Prop:=m.Outer.length<=1048576/\SmM m.Out/\m.Dirty.length<=1048576/\zpx m.Guests/\m.Outs.length<=1048576/\zCF m.Tables
def zqb (l:List Mon):Prop:=l.length<=1048576/\∀x∈l,zf8 x
def SmH (h:Host):Prop:=SmM h.Memory/\zqb h.Mons/\h.Buffer.length<=1048576/\h.IoBuffer.length<=1048576
@[simp] theorem zya (k:Kept):(∀c∈Ty.cells .kept k,CVB sm c)↔SmK k:=by simp[Ty.cells,SmK,z8n]
@[simp] theorem z7c (l:List Kept):CVB sm (.s .kept l)↔zCF l:=by rw[znQ];simp only[zya];rfl
@[simp] theorem z0b (m:Mon):(∀c∈Ty.cells .mon m,CVB sm c)↔zf8 m:=by simp only[Ty.cells,qG,qZ,or_false,vS,forall_eq,zrN,zwp,z7c,z1x,zYL,zYK,z9F,and_true,true_and];rfl
@[simp] theorem zbaN (l:List Mon):CVB sm (.s .mon l)↔zqb l:=by rw[znQ];simp only[z0b];rfl
@[simp] theorem zO (h:Host):zdv h↔SmH h:=by unfold zdv;simp only[zbh,qG,qZ,or_false,vS,forall_eq,zrN,zbaN,zVA];rfl
theorem zbu {p:Prop}(h:p):pc p=true:=zba h
theorem zuV {l:List Kept}{i:Int}{x:Kept}(h:zCF l)(b:SmK x):zCF (up l i x):=by refine⟨by simpa using h.1,λy a=>?_⟩;rcases jD a with a|rfl;{exact h.2 y a};{exact b}
theorem zkA {l:List Mon}{i:Int}{x:Mon}(h:zqb l)(b:zf8 x):zqb (up l i x):=by refine⟨by simpa using h.1,λy a=>?_⟩;rcases jD a with a|rfl;{exact h.2 y a};{exact b}
theorem zpU {a:Type}{l:List a}(h:l.length<=1048576):few (ln<|ap [] l)=true:=by rw[zoJ,zbaW];omega
@[simp] abbrev zM (h:Host):Bool:=pc (zdv h)
@[simp] abbrev zk (h:Host):Host:=h
def zps:Run:=rF1 dH λb=>(zM b,[aH<|zk b])
def zGO (N:Nat)(b:Host):OA:=
 (oN (zh0 b.Memory)<|oN (few<|ln<|ap [] b.Buffer)<|oN (few<|ln<|ap [] b.IoBuffer)<|iter (σ:=(Int×lM×lN×lE×lE×lM×lN×lE×lE×lM×lN×lE×lE×Unit)) N (λf a=>let e:=a.2.2.2.2.2.2.2.2.2.2.2.2.1;let d:=ix a.2.2.1 a.1 zh;let c:=ap a.2.2.2.2.2.2.2.2.2.2.1 [zsa d]; (cond (ilt a.1<|ln a.2.2.1) (oN (inb a.1<|ln a.2.2.1)<|oN (zrp d)<|oN (few<|ln c)<|f (zN .i64 a.1 1,a.2.1,a.2.2.1,a.2.2.2.1,a.2.2.2.2.1,a.2.2.2.2.2.1,a.2.2.2.2.2.2.1,a.2.2.2.2.2.2.2.1,a.2.2.2.2.2.2.2.2.1,a.2.2.2.2.2.2.2.2.2.1,c,a.2.2.2.2.2.2.2.2.2.2.2.1,e,()))<|some [aH (⟨a.2.2.2.2.2.2.2.2.2.1,a.2.2.2.2.2.2.2.2.2.2.1,a.2.2.2.2.2.2.2.2.2.2.2.1,e⟩:Host)])) (0,b.Memory,b.Mons,b.Buffer,b.IoBuffer,[],[],[],[],zgb b.Memory,[],ap [] b.Buffer,ap [] b.IoBuffer,()))
def zUB:=zq [(317,0,{n:=36,tm:=[(1,.lp 0 0),(2,.lp 1 0),(3,.lp 2 0),(4,ti)],lo:=[(0,[.sl 0 [],.sl 1 [],.sl 2 [],.sl 3 []]),(1,[.sl 4 [],.sl 5 [],.sl 6 [],.sl 7 []]),(2,[.sl 8 [],.sl 9 [],.sl 10 [],.sl 11 []])],ro:=[(0,.sl .int,false),(1,.mon,false),(2,.entry,false),(3,.entry,false),(4,.sl .int,true),(5,.mon,true),(6,.entry,true),(7,.entry,true),(8,.sl .int,true),(9,.mon,true),(10,.entry,true),(11,.entry,true)]})]
theorem zUg (a:Host)(k:zM a=true):∃N,zGO N a=some [aH<|zk a]:=by
 obtain⟨g,f,h,j⟩:=(zO a).1 (zD.1 k);have e:=zcu f.1;refine zbX λN d=>?_;unfold zGO oN;conv=>zeta
 refine must (zbu<|(zrN _).2 g) (must (zpU h)<|must (zpU j) ?_);refine(zY a.Mons (λi (t:lN)=>((i:Int),a.Memory,a.Mons,a.Buffer,a.IoBuffer,[],[],[],[],zgb a.Memory,t,ap [] a.Buffer,ap [] a.IoBuffer,())) _ (λ_ x b m=>bif zrp x then (cond (few<|ln<|ap b [zsa x]) (m<|ap b [zsa x]) none) else none) (λ(t:lN)=>some [.agg<|zbh (⟨zgb a.Memory,t,ap [] a.Buffer,ap [] a.IoBuffer⟩:Host)]) (λi c t rec=>?_) (λt rec=>?_) _ ([])<|d e.1).trans ?_;{simp only [zbn c,zU c,zbb c,zX c e.1,cT]};{simp only [zbe,cF]};exact zkG zrp zsa _ a.Mons 0 [] (λx l=>⟨zbu<|(z0b x).2 (f.2 x l),rfl⟩) (by simpa using e.2)
theorem zMi:vV 317 zps:=kF1 zlU zl zn zo zUB zUg
@[simp] abbrev zel (k:Kept):Bool:=pc (SmK k)
@[simp] abbrev zdm (k:Kept):Kept:=k
def zyS:Run:=rF1 (dT .kept) λb=>(zel b,[aT .kept<|zdm b])
def zB8 (N:Nat)(a:Kept):OA:=
 (oN (few<|ln<|ap [] a.Known)<|oN (zhm a.Slots)<|some [aT .kept (⟨ap [] a.Known,zfi a.Slots⟩:Kept)])
theorem zP7 (a:Kept)(b:zel a=true):∃N,zB8 N a=some [aT .kept<|zdm a]:=by have c:=zD.1 b;obtain⟨f,g⟩:=c;have d:a.Known.length<=2147483648:=(by omega);have e:a.Slots.length<=2147483648:=(by omega);refine⟨0,?_⟩;unfold zB8 oN;refine mu (mu ?_);first|rfl|(simp only [*,zdm,cT,cF]<;>rfl)|simp_all[Ty.cells,zdm]
theorem zII:vV 236 zyS:=kF1 zlU zl zn zo (zq []) zP7
def z9h:zbd:=[(317,zps),(236,zyS)]++z1o
theorem zVv:zQ z9h:=zf zMi (zf zII zlU)
@[simp] abbrev zmB (m:Mon):Bool:=pc (zf8 m)
@[simp] abbrev znc (m:Mon):Mon:=m
def zA9:Run:=rF1 (dT .mon) λb=>(zmB b,[aT .mon<|znc b])
def zGf (N:Nat)(b:Mon):OA:=
 (oN (zhm b.Outer)<|oN (zhP b.Out)<|oN (few<|ln<|ap [] b.Dirty)<|oN (zdh b.Guests)<|oN (zeO b.Outs)<|iter (σ:=(Int×Int×Int×Int×Int×Int×Int×Int×lK×lK×lS×lM×lB×lG×(List Int)×lS×lM×lB×lG×(List Int)×lK×Unit)) N (λi a=>let h:=a.2.2.2.2.2.2.2.2.2.2.2.2.1;let g:=a.2.2.2.2.2.2.2.2.2.2.2.2.2.1;let f:=a.2.2.2.2.2.2.2.2.2.2.2.2.2.2.1;let e:=a.2.2.2.2.2.2.2.2.1;let d:=a.2.2.2.2.2.2.2.2.2.1;let c:=ix d a.2.1 zc7; (cond (ilt a.2.1 a.1) (oN (inb a.2.1<|ln d)<|oN (zel c)<|oN (few<|ln<|ap e [zdm c])<|i (a.1,zN .i64 a.2.1 1,a.2.2.1,a.2.2.2.1,a.2.2.2.2.1,a.2.2.2.2.2.1,a.2.2.2.2.2.2.1,a.2.2.2.2.2.2.2.1,ap e [zdm c],d,a.2.2.2.2.2.2.2.2.2.2.1,a.2.2.2.2.2.2.2.2.2.2.2.1,h,g,f,a.2.2.2.2.2.2.2.2.2.2.2.2.2.2.2.1,a.2.2.2.2.2.2.2.2.2.2.2.2.2.2.2.2.1,a.2.2.2.2.2.2.2.2.2.2.2.2.2.2.2.2.2.1,a.2.2.2.2.2.2.2.2.2.2.2.2.2.2.2.2.2.2.1,a.2.2.2.2.2.2.2.2.2.2.2.2.2.2.2.2.2.2.2.1,a.2.2.2.2.2.2.2.2.2.2.2.2.2.2.2.2.2.2.2.2.1,()))<|some [aT .mon (⟨a.2.2.2.2.2.2.2.2.2.2.1,a.2.2.2.2.2.2.2.2.2.2.2.1,h,g,f,a.2.2.1,a.2.2.2.1,e,a.2.2.2.2.1⟩:Mon)])) (ln b.Tables,0,b.Pending,b.Traps,b.Own,0,0,0,[],b.Tables,zfi b.Outer,zeF b.Out,ap [] b.Dirty,zd1 b.Guests,zeJ b.Outs,[],[],[],[],[],[],()))
def zUv:=zq [(145,0,{n:=44,tm:=[(1,.lp 0 0),(2,.lp 1 0),(3,.sl 0 []),(29,.sl 1 []),(30,ti),(31,ti)],lo:=[(0,[.sl 2 [],.sl 3 [],.sl 4 [],.sl 5 [],.sl 6 [],ti,ti,.sl 1 [],ti]),(1,[.sl 7 [],.sl 8 [],.sl 9 [],.sl 10 [],.sl 11 [],ti,ti,.sl 12 [],ti])],ro:=[(0,.kept,true),(1,.kept,false),(2,.slot,true),(3,.sl .int,true),(4,.bool,true),(5,.guest,true),(6,.int,true),(7,.slot,true),(8,.sl .int,true),(9,.bool,true),(10,.guest,true),(11,.int,true),(12,.kept,true)]})]
theorem zTL (a:Mon)(p:zmB a=true):∃N,zGf N a=some [aT .mon<|znc a]:=by
 obtain⟨s,l,m,n,u,f⟩:=zD.1 p;have e:=zcu f.1;refine zbX λN d=>?_;unfold zGf oN;conv=>zeta
 have g:zhm a.Outer=true:=(by simp;omega);have h:zhP a.Out=true:=(by simp;exact l);have j:zdh a.Guests=true:=(by simp;exact n);have k:zeO a.Outs=true:=(by simp;omega);refine must g (must h<|must (zpU m)<|must j<|must k ?_);refine(zY a.Tables (λi (t:lK)=>(ln a.Tables,(i:Int),a.Pending,a.Traps,a.Own,0,0,0,t,a.Tables,zfi a.Outer,zeF a.Out,ap [] a.Dirty,zd1 a.Guests,zeJ a.Outs,[],[],[],[],[],[],())) _ (λ_ x b r=>bif zel x then (cond (few<|ln<|ap b [zdm x]) (r<|ap b [zdm x]) none) else none) (λ(t:lK)=>some [.agg<|Ty.cells .mon (⟨zfi a.Outer,zeF a.Out,ap [] a.Dirty,zd1 a.Guests,zeJ a.Outs,a.Pending,a.Traps,t,a.Own⟩:Mon)]) (λi c t rec=>?_) (λt rec=>?_) _ ([])<|d e.1).trans ?_;{simp only [zbn c,zU c,zbb c,zX c e.1,cT]};{simp only [zbe,cF]};exact zkG zel zdm _ a.Tables 0 [] (λx q=>⟨zbu<|f.2 x q,rfl⟩) (by simpa using e.2)
theorem zLL:vV 145 zA9:=kF1 zVv zl zn zo zUv zTL
def z9i:zbd:=[(145,zA9)]++z9h
theorem zzp:zQ z9i:=zf zLL zVv
def zB6 (N:Nat)(b:Host):OA:=
 (oN (zhP b.Memory)<|oN (few<|ln<|ap [] b.Buffer)<|oN (few<|ln<|ap [] b.IoBuffer)<|iter (σ:=(Int×Int×lN×lM×lN×lE×lE×lM×lN×lE×lE×Unit)) N (λe a=>let d:=ix a.2.2.1 a.2.1 zh;let c:=ap a.2.2.2.2.2.2.2.2.1 [znc d]; (cond (ilt a.2.1 a.1) (oN (inb a.2.1<|ln a.2.2.1)<|oN (zmB d)<|oN (few<|ln c)<|e (a.1,zN .i64 a.2.1 1,a.2.2.1,a.2.2.2.1,a.2.2.2.2.1,a.2.2.2.2.2.1,a.2.2.2.2.2.2.1,a.2.2.2.2.2.2.2.1,c,a.2.2.2.2.2.2.2.2.2.1,a.2.2.2.2.2.2.2.2.2.2.1,()))<|some [aH (⟨a.2.2.2.2.2.2.2.1,a.2.2.2.2.2.2.2.2.1,a.2.2.2.2.2.2.2.2.2.1,a.2.2.2.2.2.2.2.2.2.2.1⟩:Host)])) (ln b.Mons,0,b.Mons,[],[],[],[],zeF b.Memory,[],ap [] b.Buffer,ap [] b.IoBuffer,()))
def zQ5:=zq [(49,0,{n:=34,tm:=[(2,.lp 0 0),(3,.lp 1 0),(19,.sl 0 []),(20,ti),(21,ti)],lo:=[(0,[.sl 1 [],.sl 2 [],.sl 3 [],.sl 4 []]),(1,[.sl 5 [],.sl 6 [],.sl 7 [],.sl 8 []])],ro:=[(0,.mon,false),(1,.sl .int,true),(2,.mon,true),(3,.entry,true),(4,.entry,true),(5,.sl .int,true),(6,.mon,true),(7,.entry,true),(8,.entry,true)]})]
theorem zP5 (a:Host)(l:zM a=true):∃N,zB6 N a=some [aH<|zk a]:=by
 obtain⟨h,f,j,k⟩:=(zO a).1 (zD.1 l);have e:=zcu f.1;refine zbX λN d=>?_;unfold zB6 oN;conv=>zeta
 have g:zhP a.Memory=true:=(by simp;exact h);refine must g (must (zpU j)<|must (zpU k) ?_);refine(zY a.Mons (λi (t:lN)=>(ln a.Mons,(i:Int),a.Mons,[],[],[],[],zeF a.Memory,t,ap [] a.Buffer,ap [] a.IoBuffer,())) _ (λ_ x b n=>bif zmB x then (cond (few<|ln<|ap b [znc x]) (n<|ap b [znc x]) none) else none) (λ(t:lN)=>some [.agg<|zbh (⟨zeF a.Memory,t,ap [] a.Buffer,ap [] a.IoBuffer⟩:Host)]) (λi c t rec=>?_) (λt rec=>?_) _ ([])<|d e.1).trans ?_;{simp only [zbn c,zU c,zbb c,zX c e.1,cT]};{simp only [zbe,cF]};exact zkG zmB znc _ a.Mons 0 [] (λx m=>⟨zbu<|f.2 x m,rfl⟩) (by simpa using e.2)
theorem zIG:vV 49 zps:=kF1 zzp zl zn zo zQ5 zP5
def allI {a:Type}(p:Nat->a->Bool):List a->Nat->Bool
 |[],_=>true
 |x::l,i=>p i x&&allI p l (i+1)
theorem zIe {a b:Type}(p:Nat->a->Bool)(r:Option b)(K:Unit->Option b):∀(l:List a) (i:Nat),goL (λi x (_:Unit) k=>bif p i x then k () else r) K l i ()=bif allI p l i then K () else r
 |[],_=>rfl
 |x::l,i=>by simp only[goL,allI];cases p i x;{rfl};{simp only [cT,uP];exact zIe p r K l (i+1)}
theorem zRP {a:Type}(q:a->Bool)(l:List a)(d:a):∀(n i:Nat),i+n<=l.length->zoy (λj=>q (ix l (j:Int) d)) n i=((l.drop i).take n).all q
 | 0,i,_=>by simp[zoy]
 |n+1,i,h=>by have b:i<l.length:=(by omega);rw[j5 b,List.take_succ_cons,k9,<- zRP q l d n (i+1) (by omega)];simp only[zoy,zbb b]
def sameKey (a b:Entry):Bool:=bif ieq a.Tag b.Tag then ieq a.Page b.Page else false
def alone (l:List Entry)(i:Nat)(x:Entry):Bool:=(l.take i).all λy=>!sameKey x y
def zg3 (l:List Entry):Bool:=bif allI (alone l) l 0 then ile (ln l) 6 else false
theorem z7p {a:Type}{l:List a}{i:Nat}(h:i<=l.length):inr 0 (i:Int) (ln l)=true:=qK (by simp only[ln];omega)
@[simp] abbrev zjr (l:List Entry):Bool:=true
@[simp] abbrev ziG (l:List Entry):Bool:=zg3 l
def zn8:Run:=rF1 (dS .entry) λb=>(zjr b,[aB<|ziG b])
def zBM (N:Nat)(g:lE):OA:=
 (iter (σ:=(Int×Int×lE×Unit)) N (λi b=>let c:=b.2.2.1;let e:=ix c b.2.1 zfy; (cond (ilt b.2.1 b.1) (oN (inb b.2.1<|ln c)<|oN (inr 0 b.2.1<|ln c)<|iter (σ:=(Int×Int×Int×Int×Int×Int×Int×Int×lE×lE×Unit)) N (λj a=>let d:=a.2.2.2.1;let f:=a.2.2.2.2.2.2.2.2.2.1;let h:=j (a.1,a.2.1,a.2.2.1,zN .i64 d 1,a.2.2.2.2.1,a.2.2.2.2.2.1,a.2.2.2.2.2.2.1,a.2.2.2.2.2.2.2.1,a.2.2.2.2.2.2.2.2.1,f,()); (cond (ilt d a.2.2.1) (oN (inb d<|ln f)<|cond (ieq a.2.2.2.2.1 (ix f d zfy).Tag) (cond (ieq a.2.2.2.2.2.1 (ix f d zfy).Page) oF h) h)<|i (a.1,zN .i64 a.2.1 1,a.2.2.2.2.2.2.2.2.1,()))) (b.1,b.2.1,ln<|tk c b.2.1,0,e.Tag,e.Page,e.Host,e.Rights,c,tk c b.2.1,()))<|some [aB<|ile (ln c) 6])) (ln g,0,g,()))
def zQ0:=zq [(147,0,{n:=39,tm:=[(0,.sl 0 []),(7,.sl 0 []),(8,ti),(9,ti)],lo:=[],ro:=[(0,.entry,false)]}),(147,2,{n:=39,tm:=[(0,.sl 0 []),(4,.lp 0 0),(7,.sl 0 []),(8,ti),(9,ti),(16,.sl 1 []),(17,ti),(18,ti)],lo:=[(0,[ti,ti,ti,ti])],ro:=[(0,.entry,false),(1,.entry,false)]})]
theorem zPL (a:List Entry)(l:zbE big [aS .entry a])(m:zjr a=true):∃N,zBM N a=some [aB<|ziG a]:=by
 have e:=len0 l;refine zbX λN d=>?_;unfold zBM oN;conv=>zeta
 refine(zY a (λi (t:Unit)=>(ln a,(i:Int),a,())) _ (λi (x:Entry) (_:Unit) h=>bif alone a i x then h () else oF) (λ(t:Unit)=>some [.one<|.b<|ile (ln a) 6]) (λi c t rec=>?_) (λt rec=>?_) _ ()<|d e).trans ?_;{simp only [zbn c,zU c,zbb c,zX c e,cT];rw[z7p<|Nat.le_of_lt c,cT];have k:(tk a (i:Int)).length<=big:=jB (by simp[tk];omega) e;refine(zY (tk a (i:Int)) (λj (u:Unit)=>(ln a,(i:Int),ln<|tk a (i:Int),(j:Int),a[i].Tag,a[i].Page,a[i].Host,a[i].Rights,a,tk a (i:Int),())) _ (λ_ (y:Entry) (_:Unit) h=>bif !sameKey a[i] y then h () else oF) (λ(u:Unit)=>rec (ln a,((i+1:Nat):Int),a,())) (λj g u f=>?_) (λu f=>?_) _ ()<|d k).trans ?_;{simp only [zbn g,zU g,zbb g,zX g k,cT,zX c e];unfold sameKey;cases ieq a[i].Tag (tk a (i:Int))[j].Tag<;>cases ieq a[i].Page (tk a (i:Int))[j].Page<;>rfl};{simp only [zbe,cF,zX c e]};rw[zhi λy=>!sameKey a[i] y];rfl};{simp only [zbe,cF]};rw[zIe<|alone a];unfold ziG zg3;cases allI (alone a) a 0<;>rfl
theorem zIl:vV 147 zn8:=hF1 zzp zl zn zo zQ0 zPL
def zCn (N:Nat)(f:lE):OA:=
 (iter (σ:=(Int×lE×Unit)) N (λg c=>cond (ilt c.1<|ln c.2.1) (iter (σ:=(Int×Int×lE×Unit)) N (λh a=>let b:=a.2.2.1;let e:=ix b a.2.1 zfy;let d:=h (a.1,zN .i64 a.2.1 1,b,()); (cond (ilt a.2.1 a.1) (oN (inb a.1<|ln b)<|oN (inb a.2.1<|ln b)<|cond (ieq (ix b a.1 zfy).Tag e.Tag) (oN (inb a.1<|ln b)<|oN (inb a.2.1<|ln b)<|cond (ieq (ix b a.1 zfy).Page e.Page) oF d) d)<|g (zN .i64 a.1 1,b,()))) (c.1,0,c.2.1,()))<|some [aB<|ile (ln c.2.1) 6]) (0,f,()))
def zRb:=zq [(400,0,{n:=43,tm:=[(0,.sl 0 []),(3,ti)],lo:=[],ro:=[(0,.entry,false)]}),(400,2,{n:=43,tm:=[(0,.sl 0 []),(3,ti),(4,ti)],lo:=[],ro:=[(0,.entry,false)]})]
theorem zQj (a:List Entry)(k:zbE big [aS .entry a])(l:zjr a=true):∃N,zCn N a=some [aB<|ziG a]:=by
 have g:=len0 k;refine zbX λN d=>?_;unfold zCn oN;conv=>zeta
 refine(zY a (λi (t:Unit)=>((i:Int),a,())) _ (λi (x:Entry) (_:Unit) h=>bif alone a i x then h () else oF) (λ(t:Unit)=>some [.one<|.b<|ile (ln a) 6]) (λi c t rec=>?_) (λt rec=>?_) _ ()<|d g).trans ?_;{simp only [zbn c,zU c,zbb c,zX c g,cT];refine(zzP i (λ(j:Nat) (_:Unit)=>((i:Int),(j:Int),a,())) _ (λj (_:Unit) h=>bif !sameKey a[i] (ix a (j:Int) zfy) then h () else oF) (λ_=>rec (((i+1:Nat):Int),a,())) (λj m u f=>?_) (λu f=>?_) _ ()<|d (by omega)).trans ?_;{have e:j<a.length:=(by omega);simp only[show ilt (j:Int) (i:Int)=true from qK (by omega),zU c,zU e,zbb c,zX e g,cT];unfold sameKey;cases ieq a[i].Tag (ix a (j:Int) zfy).Tag<;>cases ieq a[i].Page (ix a (j:Int) zfy).Page<;>rfl};{simp only [show ilt (i:Int) (i:Int)=false from qH (by omega),zX c g,cF]};rw[zyh λj=>!sameKey a[i] (ix a (j:Int) zfy),zRP (λy=>!sameKey a[i] y) a _ i 0 (by omega)];rfl};{simp only [zbe,cF]};rw[zIe<|alone a];unfold ziG zg3;cases allI (alone a) a 0<;>rfl
theorem zIT:vV 400 zn8:=hF1 zzp zl zn zo zRb zQj
def z9j:zbd:=[(49,zps),(400,zn8),(147,zn8)]++z9i
theorem zH3:zQ z9j:=zf zIG (zf zIT<|zf zIl zzp)
theorem zPD (a b:Int):igt a b = !ile a b:=by unfold igt ile;by_cases h:a<=b;{rw [qK h,qH (by omega)];rfl};{rw [qH h,qK (by omega)];rfl}
theorem stB {c M:Bool}{E:OA}(h:c=true->E=some [AV.one<|.b M]):(cond (cond c false true) (some [AV.one<|.b false]) E)=some [AV.one<|.b<|cond c M false]:=by cases c;{rfl};{exact h rfl}
theorem stI {a b:Int}{M:Bool}{E:OA}(h:ieq a b=true->E=some [AV.one<|.b M]):(cond (ine a b) (some [AV.one<|.b false]) E)=some [AV.one<|.b<|cond (ieq a b) M false]:=by rw[zje];cases c:ieq a b;{rfl};{exact h c}
theorem stG {a b:Int}{M:Bool}{E:OA}(h:ile a b=true->E=some [AV.one<|.b M]):(cond (igt a b) (some [AV.one<|.b false]) E)=some [AV.one<|.b<|cond (ile a b) M false]:=by rw[zPD];cases c:ile a b;{rfl};{exact h c}
def zn3 (s:Slot)(p:List Int):Bool:=bif zc5 s noSlot then zcT p else (cond (enough s.Rights 1) (ile (ln p) 0) false)
def fits (m:Mon)(j:Nat):Bool:=zn3 (ix m.Outer (j:Int) zW) (ix m.Out (j:Int) [])
def ze4 (m:Mon):Bool:=bif zi (ln m.Guests) 1 2 then (cond (ieq (ln m.Tables)<|ln m.Guests) (cond (zds m.Outer 8 12) (cond (ieq (ln m.Out) 8) (cond (ieq (ln m.Dirty) 8) (cond (ile (ln m.Outs) 40) (cond (zem m.Pending) (cond (zi m.Traps 0 3) (cond (zi m.Own 0 1000000000) (cond (m.Guests.all zex) (zoy (fits m) 8 0) false) false) false) false) false) false) false) false) false) else false
theorem zp5 {t:List Slot}{n p:Int}(h:zds t n p=true):ln t=n:=by unfold zds at h;cases a:t.all (λs=>zeT s p);{rw [a]at h;cases h};{rw [a]at h;exact qD h}
@[simp] abbrev zko (m:Mon):Bool:=true
@[simp] abbrev zlf (m:Mon):Bool:=ze4 m
def zsC:Run:=rF1 (dT .mon) λb=>(zko b,[aB<|zlf b])
def zRv (N:Nat)(a:Mon):OA:=
 let h:=ln a.Guests; (oN (zJ h 1 2)<|cond (nB<|zi h 1 2) oF<|cond (ine (ln a.Tables) h) oF<|oN (zkU a.Outer 8 12)<|cond (nB<|zfH a.Outer 8 12) oF<|cond (ine (ln a.Out) 8) oF<|cond (ine (ln a.Dirty) 8) oF<|cond (igt (ln a.Outs) 40) oF<|oN (zcm a.Pending)<|cond (nB<|ze7 a.Pending) oF<|oN (zJ a.Traps 0 3)<|cond (nB<|zi a.Traps 0 3) oF<|oN (zJ a.Own 0 1000000000)<|cond (nB<|zi a.Own 0 1000000000) oF<|iter (σ:=(Int×Int×Int×Int×Int×lG×lS×lM×lB×(List Int)×lK×Unit)) N (λl b=>let i:=b.2.2.2.2.2.2.1;let g:=b.2.2.2.2.2.1;let k:=ix g b.2.1 zu; (cond (ilt b.2.1 b.1) (oN (inb b.2.1<|ln g)<|oN (zbx k)<|cond (nB<|ziY k) oF<|l (b.1,zN .i64 b.2.1 1,b.2.2.1,b.2.2.2.1,b.2.2.2.2.1,g,i,b.2.2.2.2.2.2.2.1,b.2.2.2.2.2.2.2.2.1,b.2.2.2.2.2.2.2.2.2.1,b.2.2.2.2.2.2.2.2.2.2.1,()))<|iter (σ:=(Int×Int×Int×Int×Int×lS×lM×lB×lG×(List Int)×lK×Unit)) N (λm c=>let d:=c.2.1;let e:=c.2.2.2.2.2.2.1;let f:=ix c.2.2.2.2.2.1 d zW;let j:=m (c.1,zN .i64 d 1,c.2.2.1,c.2.2.2.1,c.2.2.2.2.1,c.2.2.2.2.2.1,e,c.2.2.2.2.2.2.2.1,c.2.2.2.2.2.2.2.2.1,c.2.2.2.2.2.2.2.2.2.1,c.2.2.2.2.2.2.2.2.2.2.1,()); (cond (ilt d c.1) (oN (inb d<|ln c.2.2.2.2.2.1)<|oN zbN<|cond (cond (ieq f.Page zbi.Page) (ieq f.Rights zbi.Rights) false) (oN (inb d<|ln e)<|oN (zeo<|ix e d [])<|cond (nB<|zdM<|ix e d []) oF j)<|oN (zbj f.Rights 1)<|cond (nB<|zdi f.Rights 1) oF<|oN (inb d<|ln e)<|cond (igt (ln<|ix e d []) 0) oF j) oT)) (ln i,0,b.2.2.1,b.2.2.2.1,b.2.2.2.2.1,i,b.2.2.2.2.2.2.2.1,b.2.2.2.2.2.2.2.2.1,g,b.2.2.2.2.2.2.2.2.2.1,b.2.2.2.2.2.2.2.2.2.2.1,()))) (h,0,a.Pending,a.Traps,a.Own,a.Guests,a.Outer,a.Out,a.Dirty,a.Outs,a.Tables,()))
def zZW:=zq [(148,0,{n:=106,tm:=[(1,.lp 0 0),(64,.sl 0 []),(65,ti),(66,ti)],lo:=[(0,[.sl 1 [],.sl 2 [],.sl 3 [],.sl 0 [],.sl 4 [],ti,ti,.sl 5 [],ti])],ro:=[(0,.guest,false),(1,.slot,false),(2,.sl .int,false),(3,.bool,false),(4,.int,false),(5,.kept,false)]}),(148,2,{n:=106,tm:=[(1,.lp 0 0),(75,.sl 0 []),(76,ti),(77,ti)],lo:=[(0,[.sl 0 [],.sl 1 [],.sl 2 [],.sl 3 [],.sl 4 [],ti,ti,.sl 5 [],ti])],ro:=[(0,.slot,false),(1,.sl .int,false),(2,.bool,false),(3,.guest,false),(4,.int,false),(5,.kept,false)]})]
theorem zY6 (a:Mon)(l:zbE big [aT .mon a])(E:zko a=true):∃N,zRv N a=some [aB<|zlf a]:=by
 have hg:a.Guests.length<=big:=((zcV l).1 (.s .guest a.Guests) (by simp[AV.cvs,Ty.cells])).len;have m:a.Outer.length<=big:=((zcV l).1 (.s .slot a.Outer) (by simp[AV.cvs,Ty.cells])).len;refine zbX λN d=>?_;unfold zRv zlf ze4 oN nB;conv=>zeta
 refine must rfl (stB λw=>stI λy=>must rfl (stB λr=>stI λv=>stI λz=>stG λA=>must rfl (stB λB=>must rfl (stB λC=>must rfl (stB λD=>?_)))));have p:=zp5 r;have q:ln a.Out=8:=qD v;simp only[ln] at p q;refine(zY a.Guests (λi (t:Unit)=>(ln a.Guests,(i:Int),a.Pending,a.Traps,a.Own,a.Guests,a.Outer,a.Out,a.Dirty,a.Outs,a.Tables,())) _ (λ_ (x:Guest) (_:Unit) g=>bif zex x then g () else oF) (λ(t:Unit)=>iter (σ:=(Int×Int×Int×Int×Int×lS×lM×lB×lG×(List Int)×lK×Unit)) N (λn c=>cond (ilt c.2.1 c.1) (cond (inb c.2.1<|ln c.2.2.2.2.2.1) (cond zbN (cond (cond (ieq (ix c.2.2.2.2.2.1 c.2.1 zW).Page zbi.Page) (ieq (ix c.2.2.2.2.2.1 c.2.1 zW).Rights zbi.Rights) false) (cond (inb c.2.1<|ln c.2.2.2.2.2.2.1) (cond (zeo<|ix c.2.2.2.2.2.2.1 c.2.1 []) (cond (cond (zdM<|ix c.2.2.2.2.2.2.1 c.2.1 []) false true) oF<|n (c.1,zN .i64 c.2.1 1,c.2.2.1,c.2.2.2.1,c.2.2.2.2.1,c.2.2.2.2.2.1,c.2.2.2.2.2.2.1,c.2.2.2.2.2.2.2.1,c.2.2.2.2.2.2.2.2.1,c.2.2.2.2.2.2.2.2.2.1,c.2.2.2.2.2.2.2.2.2.2.1,())) none) none)<|cond (zbj (ix c.2.2.2.2.2.1 c.2.1 zW).Rights 1) (cond (cond (zdi (ix c.2.2.2.2.2.1 c.2.1 zW).Rights 1) false true) oF<|cond (inb c.2.1<|ln c.2.2.2.2.2.2.1) (cond (igt (ln<|ix c.2.2.2.2.2.2.1 c.2.1 []) 0) oF<|n (c.1,zN .i64 c.2.1 1,c.2.2.1,c.2.2.2.1,c.2.2.2.2.1,c.2.2.2.2.2.1,c.2.2.2.2.2.2.1,c.2.2.2.2.2.2.2.1,c.2.2.2.2.2.2.2.2.1,c.2.2.2.2.2.2.2.2.2.1,c.2.2.2.2.2.2.2.2.2.2.1,())) none) none) none) none)<|some [.one<|.b true]) (ln a.Outer,0,a.Pending,a.Traps,a.Own,a.Outer,a.Out,a.Dirty,a.Guests,a.Outs,a.Tables,())) (λi h t rec=>?_) (λt rec=>?_) _ ()<|d hg).trans ?_;{simp only [zbn h,zU h,zbb h,zX h hg,cT];simp only[zbx,ziY,cT];cases zex a.Guests[i]<;>rfl};{simp only [zbe,cF]};rw[zhi zex];cases a.Guests.all zex;{rfl};simp only[cT];refine(zY a.Outer (λj (u:Unit)=>(ln a.Outer,(j:Int),a.Pending,a.Traps,a.Own,a.Outer,a.Out,a.Dirty,a.Guests,a.Outs,a.Tables,())) _ (λj (_:Slot) (_:Unit) g=>bif fits a j then g () else oF) (λ(u:Unit)=>some [.one<|.b true]) (λj e u f=>?_) (λu f=>?_) _ ()<|d m).trans ?_;{simp only [zbn e,zU e,zbb e,zX e m,cT];have k:j<a.Out.length:=(by omega);simp only[zbN,zbi,zeo,zdM,zbj,zdi,zU k,zPD,cT];unfold fits zn3;simp only[zbb e,zc5];cases ieq a.Outer[j].Page noSlot.Page<;>cases ieq a.Outer[j].Rights noSlot.Rights<;>cases enough a.Outer[j].Rights 1<;>cases ile (ln<|ix a.Out (j:Int) []) 0<;>cases zcT (ix a.Out (j:Int) [])<;>rfl};{simp only [zbe,cF]};rw[zuM λj (_:Unit) g=>bif fits a j then g () else oF,zyh<|fits a,show a.Outer.length=8 by omega];cases zoy (fits a) 8 0<;>rfl
theorem zS3:vV 148 zsC:=hF1 zH3 zl zn zo zZW zY6
def zRG (N:Nat)(c:Mon):OA:=
 (oN (zJ (ln c.Guests) 1 2)<|cond (nB<|zi (ln c.Guests) 1 2) oF<|cond (ine (ln c.Tables)<|ln c.Guests) oF<|oN (zkU c.Outer 8 12)<|cond (nB<|zfH c.Outer 8 12) oF<|cond (ine (ln c.Out) 8) oF<|cond (ine (ln c.Dirty) 8) oF<|iter (σ:=(Int×Int×Int×Int×lS×lM×lB×lG×(List Int)×lK×Unit)) N (λl b=>let d:=b.2.2.2.2.2.2.2.1; (cond (ilt b.1<|ln d) (oN (inb b.1<|ln d)<|oN (zbx<|ix d b.1 zu)<|cond (nB<|ziY<|ix d b.1 zu) oF<|l (zN .i64 b.1 1,b.2.1,b.2.2.1,b.2.2.2.1,b.2.2.2.2.1,b.2.2.2.2.2.1,b.2.2.2.2.2.2.1,d,b.2.2.2.2.2.2.2.2.1,b.2.2.2.2.2.2.2.2.2.1,()))<|iter (σ:=(Int×Int×Int×Int×lS×lM×lB×lG×(List Int)×lK×Unit)) N (λm a=>let h:=a.2.2.2.2.1;let i:=inb a.1<|ln a.2.2.2.2.2.1;let e:=ix a.2.2.2.2.2.1 a.1 [];let g:=ix h a.1 zW;let k:=ieq g.Rights zbi.Rights;let j:=ieq g.Page zbi.Page;let f:=m (zN .i64 a.1 1,a.2.1,a.2.2.1,a.2.2.2.1,h,a.2.2.2.2.2.1,a.2.2.2.2.2.2.1,a.2.2.2.2.2.2.2.1,a.2.2.2.2.2.2.2.2.1,a.2.2.2.2.2.2.2.2.2.1,()); (cond (ilt a.1 8) (oN (inb a.1<|ln h)<|oN zbN<|cond (nB<|cond j k false) (oN i<|cond (igt (ln e) 0) oF<|oN (inb a.1<|ln h)<|oN (zbj g.Rights 1)<|cond (nB<|zdi g.Rights 1) oF<|cond (nB<|nB<|cond j k false) (oN i<|oN (zeo e)<|cond (nB<|zdM e) oF f) f)<|cond (nB<|nB<|cond j k false) (oN i<|oN (zeo e)<|cond (nB<|zdM e) oF f) f)<|cond (ile (ln a.2.2.2.2.2.2.2.2.1) 40) (oN (zcm a.2.1)<|cond (ze7 a.2.1) (oN (zJ a.2.2.1 0 3)<|cond (zi a.2.2.1 0 3) (oN (zJ a.2.2.2.1 0 1000000000)<|some [aB<|zi a.2.2.2.1 0 1000000000]) oF) oF) oF)) (0,b.2.1,b.2.2.1,b.2.2.2.1,b.2.2.2.2.1,b.2.2.2.2.2.1,b.2.2.2.2.2.2.1,d,b.2.2.2.2.2.2.2.2.1,b.2.2.2.2.2.2.2.2.2.1,()))) (0,c.Pending,c.Traps,c.Own,c.Outer,c.Out,c.Dirty,c.Guests,c.Outs,c.Tables,()))
def zZY:=zq [(401,0,{n:=115,tm:=[(1,.lp 0 0),(3,ti)],lo:=[(0,[.sl 0 [],.sl 1 [],.sl 2 [],.sl 3 [],.sl 4 [],ti,ti,.sl 5 [],ti])],ro:=[(0,.slot,false),(1,.sl .int,false),(2,.bool,false),(3,.guest,false),(4,.int,false),(5,.kept,false)]}),(401,2,{n:=115,tm:=[(1,.lp 0 0),(4,ti)],lo:=[(0,[.sl 0 [],.sl 1 [],.sl 2 [],.sl 3 [],.sl 4 [],ti,ti,.sl 5 [],ti])],ro:=[(0,.slot,false),(1,.sl .int,false),(2,.bool,false),(3,.guest,false),(4,.int,false),(5,.kept,false)]})]
theorem zZf (c:Mon)(r:zbE big [aT .mon c])(A:zko c=true):∃N,zRG N c=some [aB<|zlf c]:=by
 have hg:c.Guests.length<=big:=((zcV r).1 (.s .guest c.Guests) (by simp[AV.cvs,Ty.cells])).len;refine zbX λN d=>?_;unfold zRG zlf ze4 oN nB;conv=>zeta
 refine must rfl (stB λw=>stI λy=>must rfl (stB λp=>stI λq=>stI λz=>?_));have m:=zp5 p;have n:ln c.Out=8:=qD q;simp only[ln] at m n;refine(zY c.Guests (λi (t:Unit)=>((i:Int),c.Pending,c.Traps,c.Own,c.Outer,c.Out,c.Dirty,c.Guests,c.Outs,c.Tables,())) _ (λ_ (x:Guest) (_:Unit) l=>bif zex x then l () else oF) (λ(t:Unit)=>iter (σ:=(Int×Int×Int×Int×lS×lM×lB×lG×(List Int)×lK×Unit)) N (λh a=>cond (ilt a.1 8) (cond (inb a.1<|ln a.2.2.2.2.1) (cond zbN (cond (cond (cond (ieq (ix a.2.2.2.2.1 a.1 zW).Page zbi.Page) (ieq (ix a.2.2.2.2.1 a.1 zW).Rights zbi.Rights) false) false true) (cond (inb a.1<|ln a.2.2.2.2.2.1) (cond (igt (ln<|ix a.2.2.2.2.2.1 a.1 []) 0) oF<|cond (inb a.1<|ln a.2.2.2.2.1) (cond (zbj (ix a.2.2.2.2.1 a.1 zW).Rights 1) (cond (cond (zdi (ix a.2.2.2.2.1 a.1 zW).Rights 1) false true) oF<|cond (cond (cond (cond (ieq (ix a.2.2.2.2.1 a.1 zW).Page zbi.Page) (ieq (ix a.2.2.2.2.1 a.1 zW).Rights zbi.Rights) false) false true) false true) (cond (inb a.1<|ln a.2.2.2.2.2.1) (cond (zeo<|ix a.2.2.2.2.2.1 a.1 []) (cond (cond (zdM<|ix a.2.2.2.2.2.1 a.1 []) false true) oF<|h (zN .i64 a.1 1,a.2.1,a.2.2.1,a.2.2.2.1,a.2.2.2.2.1,a.2.2.2.2.2.1,a.2.2.2.2.2.2.1,a.2.2.2.2.2.2.2.1,a.2.2.2.2.2.2.2.2.1,a.2.2.2.2.2.2.2.2.2.1,())) none) none)<|h (zN .i64 a.1 1,a.2.1,a.2.2.1,a.2.2.2.1,a.2.2.2.2.1,a.2.2.2.2.2.1,a.2.2.2.2.2.2.1,a.2.2.2.2.2.2.2.1,a.2.2.2.2.2.2.2.2.1,a.2.2.2.2.2.2.2.2.2.1,())) none) none) none)<|cond (cond (cond (cond (ieq (ix a.2.2.2.2.1 a.1 zW).Page zbi.Page) (ieq (ix a.2.2.2.2.1 a.1 zW).Rights zbi.Rights) false) false true) false true) (cond (inb a.1<|ln a.2.2.2.2.2.1) (cond (zeo<|ix a.2.2.2.2.2.1 a.1 []) (cond (cond (zdM<|ix a.2.2.2.2.2.1 a.1 []) false true) oF<|h (zN .i64 a.1 1,a.2.1,a.2.2.1,a.2.2.2.1,a.2.2.2.2.1,a.2.2.2.2.2.1,a.2.2.2.2.2.2.1,a.2.2.2.2.2.2.2.1,a.2.2.2.2.2.2.2.2.1,a.2.2.2.2.2.2.2.2.2.1,())) none) none)<|h (zN .i64 a.1 1,a.2.1,a.2.2.1,a.2.2.2.1,a.2.2.2.2.1,a.2.2.2.2.2.1,a.2.2.2.2.2.2.1,a.2.2.2.2.2.2.2.1,a.2.2.2.2.2.2.2.2.1,a.2.2.2.2.2.2.2.2.2.1,())) none) none)<|cond (ile (ln a.2.2.2.2.2.2.2.2.1) 40) (cond (zcm a.2.1) (cond (ze7 a.2.1) (cond (zJ a.2.2.1 0 3) (cond (zi a.2.2.1 0 3) (cond (zJ a.2.2.2.1 0 1000000000) (some [.one<|.b<|zi a.2.2.2.1 0 1000000000]) none) oF) none) oF) none) oF) (0,c.Pending,c.Traps,c.Own,c.Outer,c.Out,c.Dirty,c.Guests,c.Outs,c.Tables,())) (λi g t rec=>?_) (λt rec=>?_) _ ()<|d hg).trans ?_;{simp only [zbn g,zU g,zbb g,zX g hg,cT];simp only[zbx,ziY,cT];cases zex c.Guests[i]<;>rfl};{simp only [zbe,cF]};rw[zhi zex];cases B:c.Guests.all zex;{simp only [cF];cases ile (ln c.Outs) 40<;>cases zem c.Pending<;>cases zi c.Traps 0 3<;>cases zi c.Own 0 1000000000<;>rfl};simp only[cT];refine(zzP 8 (λj (u:Unit)=>((j:Int),c.Pending,c.Traps,c.Own,c.Outer,c.Out,c.Dirty,c.Guests,c.Outs,c.Tables,())) _ (λj (_:Unit) l=>bif fits c j then l () else oF) (λ(u:Unit)=>cond (ile (ln c.Outs) 40) (cond (zcm c.Pending) (cond (ze7 c.Pending) (cond (zJ c.Traps 0 3) (cond (zi c.Traps 0 3) (cond (zJ c.Own 0 1000000000) (some [.one<|.b<|zi c.Own 0 1000000000]) none) oF) none) oF) none) oF) (λj v u f=>?_) (λu f=>?_) _ ()<|d (by decide)).trans ?_;{simp only [show ilt (j:Int) 8=true from qK (by omega),zX v (show 8<=big by decide),cT];have e:j<c.Outer.length:=(by omega);have k:j<c.Out.length:=(by omega);simp only[zbN,zbi,zeo,zdM,zbj,zdi,zU e,zU k,zPD,cT];unfold fits zn3;simp only[zbb e,zc5];cases ieq c.Outer[j].Page noSlot.Page<;>cases ieq c.Outer[j].Rights noSlot.Rights<;>cases enough c.Outer[j].Rights 1<;>cases ile (ln<|ix c.Out (j:Int) []) 0<;>cases zcT (ix c.Out (j:Int) [])<;>rfl};{simp only [show ilt ((8:Nat):Int) 8=false from qH (by omega),cF];rfl};rw[zyh<|fits c];simp only[zcm,ze7,zJ,zUV,cT];cases zoy (fits c) 8 0<;>cases ile (ln c.Outs) 40<;>cases zem c.Pending<;>cases zi c.Traps 0 3<;>cases zi c.Own 0 1000000000<;>rfl
theorem zTd:vV 401 zsC:=hF1 zH3 zl zn zo zZY zZf
def z9k:zbd:=[(401,zsC),(148,zsC)]++z9j
theorem zH4:zQ z9k:=zf zTd (zf zS3 zH3)
def zil:List Slot->List Bool->Option (List Bool)
 |[],u=>some u
 |s::l,u=>bif ilt s.Page 0 then zil l u else (cond (ix u s.Page false) none<|zil l<|up u s.Page true)
def zjq:List Mon->List Bool->Bool
 |[],_=>true
 |m::l,u=>bif ze4 m then (match zil m.Outer u with|some a=>zjq l a|none=>false) else false
def zbP (h:Host):Bool:=bif zkq h.Memory 12 then (cond (zi (ln h.Mons) 1 3) (cond (zg3 h.Buffer) (cond (zg3 h.IoBuffer) (zjq h.Mons<|rp 12 false) false) false) false) else false
theorem zrx:∀(l:List Slot) (u a:List Bool),zil l u=some a->a.length=u.length
 |[],u,a,h=>by cases h;rfl
 |s::l,u,a,h=>by simp only[zil]at h;cases b:ilt s.Page 0;{rw [b]at h;cases c:ix u s.Page false;{rw [c]at h;simpa using zrx l _ a h};{rw [c]at h;cases h}};{rw [b]at h;exact zrx l u a h}
theorem zEO {t:List Slot}{n:Int}(h:zds t n 12=true):∀s∈t,s.Page<12:=by intro s d;unfold zds at h;cases b:t.all (λs=>zeT s 12);{rw [b]at h;cases h};{have:=qL.1 b s d;unfold zeT at this;cases a:zc5 s noSlot;{rw [a] at this;simp only[cF,show igt 12 0=true from rfl,cT] at this;cases c:zi s.Page 0 (wsub .i64 12 1);{rw [c] at this;cases this};{have:=(zf7.1 c).2;rw[show wsub .i64 12 1=11 from rfl] at this;omega}};{unfold zc5 at a;rw[qE]at a;have a:s.Page = -1:=qD a.1;omega}}
theorem zYv {s:Slot}{u:List Bool}(h:s.Page<12)(b:u.length=12)(a:ilt s.Page 0=false):inb s.Page (ln u)=true:=by have:=qY a;exact qK (by simp only[ln];omega)
def zu6 {a:Type}(r:Option a)(y:Slot)(u:List Bool)(b:List Bool->Option a):Option a:=bif ilt y.Page 0 then b u else (cond (inb y.Page<|ln u) (cond (ix u y.Page false) r<|cond (inb y.Page<|ln u) (share (up u y.Page true) λc=>b c) none) none)
theorem zzD {c:Type}(r:Option c)(K:List Bool->Option c):∀(l:List Slot) (i:Nat) (u:List Bool),(∀s∈l,s.Page<12)->u.length=12->
 goL (λ_ y u g=>zu6 r y u g) K l i u=match zil l u with|some f=>K f|none=>r
 |[],_,_,_,_=>rfl
 |s::l,i,u,h,b=>by simp only[goL,zil,zu6];cases d:ilt s.Page 0;{have e:=zYv (h s (by simp)) b d;rw[e];cases ix u s.Page false;{simp only [cF,cT,share];exact zzD r K l (i+1) _ (λs a=>h s (by simp[a])) (by simpa using b)};{rfl}};{simp only [cT];exact zzD r K l (i+1) u (λs a=>h s (by simp[a])) b}
def z1b {b:Type}(r:Option b)(m:Mon)(u:List Bool)(a:List Bool->Option b):Option b:=bif ze4 m then goL (λ_ y u a=>zu6 r y u a) a m.Outer 0 u else r
theorem zdB {c x:Bool}:((cond c x false)=true)↔c=true/\x=true:=by cases c<;>simp
theorem zkM {m:Mon}(h:ze4 m=true):zds m.Outer 8 12=true:=by unfold ze4 at h;simp only[zdB]at h;exact h.2.2.1
theorem zVN {K:Bool->OA}(k:List Bool->OA)(a:∀u,k u=K true):∀(l:List Mon) (i:Nat) (u:List Bool),u.length=12->
 goL (λ_ m u g=>z1b (K false) m u g) k l i u=K (zjq l u)
 |[],_,u,_=>a u
 |m::l,i,u,b=>by simp only[goL,zjq,z1b];cases c:ze4 m;{rfl};{simp only [cT];have e:=zkM c;rw[zzD _ _ _ _ _ (zEO e) b];cases d:zil m.Outer u with|none=>rfl|some f=>exact zVN k a l (i+1) f ((zrx _ _ _ d).trans b)}
@[simp] abbrev zcj (h:Host):Bool:=true
@[simp] abbrev zci (h:Host):Bool:=zbP h
def zqH:Run:=rF1 dH λb=>(zcj b,[aB<|zci b])
def zJ6 (N:Nat)(c:Host):OA:=
 (oN (zkw c.Memory 12)<|cond (nB<|zgJ c.Memory 12) oF<|oN (zJ (ln c.Mons) 1 3)<|cond (nB<|zi (ln c.Mons) 1 3) oF<|oN (zjr c.Buffer)<|cond (nB<|ziG c.Buffer) oF<|oN (zjr c.IoBuffer)<|cond (nB<|ziG c.IoBuffer) oF<|oN (cond (few 12) (ieq 12 12) false)<|iter (σ:=(Int×Int×lB×lN×Unit)) N (λk b=>let h:=ix b.2.2.2.1 b.2.1 zh; (cond (ilt b.2.1 b.1) (oN (inb b.2.1<|ln b.2.2.2.1)<|oN (zko h)<|cond (nB<|zlf h) oF<|iter (σ:=(Int×Int×Int×Int×Int×lB×lN×Unit)) N (λi a=>let f:=a.2.2.2.2.1;let g:=a.2.2.2.2.2.2.1;let j:=(ix g a.2.2.1 zh).Outer;let d:=a.2.2.2.2.2.1;let e:=(ix j f zW).Page; (cond (ilt f a.2.2.2.1) (oN (inb f<|ln j)<|cond (ilt e 0) (i (a.1,a.2.1,a.2.2.1,a.2.2.2.1,zN .i64 f 1,d,g,()))<|oN (inb e<|ln d)<|cond (ix d e false) oF<|oN (inb e<|ln d)<|share (up d e true) λl=>i (a.1,a.2.1,a.2.2.1,a.2.2.2.1,zN .i64 f 1,l,g,()))<|k (a.1,zN .i64 a.2.1 1,d,g,()))) (b.1,b.2.1,b.2.1,ln h.Outer,0,b.2.2.1,b.2.2.2.1,())) oT)) (ln c.Mons,0,rp 12 false,c.Mons,()))
def zX6:=zq [(50,0,{n:=63,tm:=[(3,.sl 0 []),(33,.sl 1 []),(34,ti),(35,ti)],lo:=[],ro:=[(0,.bool,true),(1,.mon,false)]}),(50,2,{n:=63,tm:=[(3,.sl 0 []),(33,.sl 1 []),(34,ti),(35,ti),(43,.sl 1 [0]),(44,ti),(45,ti)],lo:=[],ro:=[(0,.bool,true),(1,.mon,false)]})]
theorem zWg (a:Host)(n:zbE big [aH a])(w:zcj a=true):∃N,zJ6 N a=some [aB<|zci a]:=by
 have l:CVB big (.s .mon a.Mons):=(zcV n).1 _ (by simp[AV.cvs,zbh]);have g:=l.len;refine zbX λN d=>?_;unfold zJ6 zci zbP oN nB;conv=>zeta
 refine must rfl (stB λp=>must rfl (stB λq=>must rfl (stB λr=>must rfl (stB λv=>must rfl ?_))));refine(zY a.Mons (λi (t:lB)=>(ln a.Mons,(i:Int),t,a.Mons,())) _ (λ_ (x:Mon) (u:List Bool) h=>z1b (oF) x u h) (λ(t:lB)=>some [.one<|.b true]) (λi c t rec=>?_) (λt rec=>?_) _ (rp 12 false)<|d g).trans ?_;{simp only [zbn c,zU c,zbb c,zX c g,cT];unfold z1b;cases k:ze4 a.Mons[i];{simp only [zko,zlf,k,cT,cF]};simp only[zko,zlf,k,cT,cF];have m:a.Mons[i].Outer.length<=big:=(l.inv.2 _ (jA c) (.s .slot _) (by simp[Ty.cells])).len;refine(zY a.Mons[i].Outer (λj (u:lB)=>(ln a.Mons,(i:Int),(i:Int),ln a.Mons[i].Outer,(j:Int),u,a.Mons,())) _ (λ_ (y:Slot) (u:List Bool) h=>zu6 (oF) y u h) (λ(u:lB)=>rec (ln a.Mons,((i+1:Nat):Int),u,a.Mons,())) (λj f u e=>?_) (λu e=>?_) _ (t)<|d m).trans ?_;{simp only [zbn f,zU f,zbb f,zX f m,cT,zU c,zbb c,zX c g];rfl};{simp only [zbe,cF,zU c,zbb c,zX c g]};rfl};{simp only [zbe,cF]};exact zVN (K:=λb=>some [AV.one<|.b b]) _ (λ_=>rfl) _ _ _ rfl
theorem zOH:vV 50 zqH:=hF1 zH4 zl zn zo zX6 zWg
theorem zIh {e:Type}(r:Option e)(k:List Bool->Option e)(m:Mon):∀(n i:Nat) (u:List Bool),(∀s∈m.Outer,s.Page<12)->u.length=12->i+n=m.Outer.length->
 goN (λj u d=>bif inb (j:Int) (ln m.Outer) then zu6 r (ix m.Outer (j:Int) zW) u d else none) k n i u=goL (λ_ y u d=>zu6 r y u d) k (m.Outer.drop i) i u
 | 0,i,u,_,_,h=>by have:i=m.Outer.length:=(by omega);subst this;simp[goN,goL]
 |n+1,i,u,b,c,h=>by have a:i<m.Outer.length:=(by omega);rw[j5 a];simp only[goN,goL,zU a,zbb a,cT,zu6];cases f:ilt m.Outer[i].Page 0;{rw [zYv (b _<|jA a) c f];cases ix u m.Outer[i].Page false;{simp only [cF,cT,share];exact zIh r k m n (i+1) _ b (by simpa using c) (by omega)};{rfl}};{simp only [cT];exact zIh r k m n (i+1) u b c (by omega)}
def zKv (N:Nat)(b:Host):OA:=
 (oN (zkw b.Memory 12)<|cond (nB<|zgJ b.Memory 12) oF<|oN (zJ (ln b.Mons) 1 3)<|cond (nB<|zi (ln b.Mons) 1 3) oF<|oN (zjr b.Buffer)<|cond (nB<|ziG b.Buffer) oF<|oN (zjr b.IoBuffer)<|cond (nB<|ziG b.IoBuffer) oF<|oN (cond (few 12) (ieq 12 12) false)<|iter (σ:=(Int×lB×lM×lN×lE×lE×Unit)) N (λq c=>let n:=ix c.2.2.2.1 c.1 zh; (cond (ilt c.1<|ln c.2.2.2.1) (oN (inb c.1<|ln c.2.2.2.1)<|oN (zko n)<|cond (nB<|zlf n) oF<|iter (σ:=(Int×Int×lB×lM×lN×lE×lE×Unit)) N (λi a=>let k:=zN .i64 a.2.1 1;let h:=a.2.2.2.2.2.1;let g:=a.2.2.2.2.2.2.1;let f:=a.2.2.1;let e:=a.2.2.2.2.1;let p:=(ix e a.1 zh).Outer;let m:=i (a.1,k,f,a.2.2.2.1,e,h,g,());let d:=(ix p a.2.1 zW).Page;let l:=inb d<|ln f; (cond (ilt a.2.1 8) (oN (inb a.1<|ln e)<|oN (inb a.2.1<|ln p)<|cond (ige d 0) (oN l<|cond (ix f d false) oF<|cond (ige d 0) (oN l<|share (up f d true) λj=>i (a.1,k,j,a.2.2.2.1,e,h,g,())) m)<|cond (ige d 0) (oN l<|share (up f d true) λj=>i (a.1,k,j,a.2.2.2.1,e,h,g,())) m)<|q (zN .i64 a.1 1,f,a.2.2.2.1,e,h,g,()))) (c.1,0,c.2.1,c.2.2.1,c.2.2.2.1,c.2.2.2.2.1,c.2.2.2.2.2.1,())) oT)) (0,rp 12 false,b.Memory,b.Mons,b.Buffer,b.IoBuffer,()))
def zYh:=zq [(386,0,{n:=72,tm:=[(1,.lp 0 0),(3,.sl 0 []),(4,ti)],lo:=[(0,[.sl 1 [],.sl 2 [],.sl 3 [],.sl 4 []])],ro:=[(0,.bool,true),(1,.sl .int,false),(2,.mon,false),(3,.entry,false),(4,.entry,false)]}),(386,2,{n:=72,tm:=[(1,.lp 0 0),(3,.sl 0 []),(4,ti),(5,ti)],lo:=[(0,[.sl 1 [],.sl 2 [],.sl 3 [],.sl 4 []])],ro:=[(0,.bool,true),(1,.sl .int,false),(2,.mon,false),(3,.entry,false),(4,.entry,false)]})]
theorem zWE (a:Host)(y:zbE big [aH a])(F:zcj a=true):∃N,zKv N a=some [aB<|zci a]:=by
 have A:CVB big (.s .mon a.Mons):=(zcV y).1 _ (by simp[AV.cvs,zbh]);have h:=A.len;refine zbX λN f=>?_;unfold zKv zci zbP oN nB;conv=>zeta
 refine must rfl (stB λD=>must rfl (stB λq=>must rfl (stB λr=>must rfl (stB λE=>must rfl ?_))));refine(zY a.Mons (λi (t:lB)=>((i:Int),t,a.Memory,a.Mons,a.Buffer,a.IoBuffer,())) _ (λ_ (x:Mon) (u:List Bool) d=>bif ze4 x then goN (λj u d=>bif inb (j:Int) (ln x.Outer) then zu6 (oF) (ix x.Outer (j:Int) zW) u d else none) d 8 0 u else oF) (λ(t:lB)=>some [.one<|.b true]) (λi c t rec=>?_) (λt rec=>?_) _ (rp 12 false)<|f h).trans ?_;{simp only [zbn c,zU c,zbb c,zX c h,cT];cases v:ze4 a.Mons[i];{simp only [zko,zlf,v,cT,cF]};simp only[zko,zlf,v,cT,cF];refine(zzP 8 (λj (u:lB)=>((i:Int),(j:Int),u,a.Memory,a.Mons,a.Buffer,a.IoBuffer,())) _ (λj (u:List Bool) d=>bif inb (j:Int) (ln a.Mons[i].Outer) then zu6 (oF) (ix a.Mons[i].Outer (j:Int) zW) u d else none) (λ(u:lB)=>rec (((i+1:Nat):Int),u,a.Memory,a.Mons,a.Buffer,a.IoBuffer,())) (λj z u g=>?_) (λu g=>?_) _ (t)<|f (by decide)).trans ?_;{simp only [show ilt (j:Int) 8=true from qK (by omega),zX z (show 8<=big by decide),cT,zU c,zbb c,zX c h];unfold zu6;have e:ige (ix a.Mons[i].Outer (j:Int) zW).Page 0 = !ilt (ix a.Mons[i].Outer (j:Int) zW).Page 0:=(by rw[zba3,Bool.not_not]);simp only[e];cases ilt (ix a.Mons[i].Outer (j:Int) zW).Page 0<;>cases inb (j:Int) (ln a.Mons[i].Outer)<;>cases inb (ix a.Mons[i].Outer (j:Int) zW).Page (ln u)<;>cases ix u (ix a.Mons[i].Outer (j:Int) zW).Page false<;>rfl};{simp only [show ilt ((8:Nat):Int) 8=false from qH (by omega),cF,zU c,zbb c,zX c h]};rfl};{simp only [zbe,cF]};have p:∀(l:List Mon) (i:Nat) (u:List Bool),u.length=12->goL (λ_ (x:Mon) (u:List Bool) d=>bif ze4 x then goN (λj u d=>bif inb (j:Int) (ln x.Outer) then zu6 (oF) (ix x.Outer (j:Int) zW) u d else none) d 8 0 u else oF) (λ_=>oT) l i u=some [AV.one<|.b<|zjq l u]:=(by intro l;induction l with|nil=>intro i u _;rfl|cons m l B=>intro i u n;simp only[goL,zjq];cases q:ze4 m;{rfl};{have k:=zkM q;have w:0+8=m.Outer.length:=(by have:=zp5 k;simp only[ln] at this;omega);simp only[cT];rw[zIh _ _ m 8 0 u (zEO k) n w,uX,zzD _ _ _ _ _ (zEO k) n];cases r:zil m.Outer u with|none=>rfl|some C=>exact B (i+1) C ((zrx _ _ _ r).trans n)});exact p _ _ _ rfl
theorem zPc:vV 386 zqH:=hF1 zH4 zl zn zo zYh zWE
def z1k:zbd:=[(386,zqH),(50,zqH)]++z9k
theorem zu9:zQ z1k:=zf zPc (zf zOH zH4)
theorem zMr {h:Host}(a:zbP h=true):(h.Mons.length:Int)<=3:=by unfold zbP at a;simp only[zdB]at a;exact(zf7.1 a.2.1).2
def zck (h:Host)(m:Int):Bool:=bif zbP h then hasB m (ln h.Mons) else false
def zb5 (h:Host)(m p:Int):Bool:=bif zbP h then (cond (hasB m<|ln h.Mons) (hasB p 8) false) else false
theorem zRo {h:Host}(a:zbP h=true)(m:Int):zi m 0 (wsub .i64 (ln h.Mons) 1)=hasB m (ln h.Mons):=zsg (by have:=zMr a;omega) m
theorem win7 (p:Int):zi p 0 7=hasB p 8:=by unfold zi ige ile hasB;by_cases a:0<=p<;>by_cases b:p<8;{rw [qK (p:=p≥0) (by omega),qK (p:=p<=7) (by omega),qK (p:=0<=p/\p<8) ⟨a,b⟩];rfl};{rw [qH (p:=p<=7) (by omega),qH (p:=0<=p/\p<8) (by omega)];simp};{rw [qH (p:=p≥0) (by omega),qH (p:=0<=p/\p<8) (by omega)];simp};{rw [qH (p:=p≥0) (by omega),qH (p:=0<=p/\p<8) (by omega)];simp}
@[simp] abbrev zhg (h:Host)(m:Int):Bool:=true
@[simp] abbrev zhf (h:Host)(m:Int):Bool:=zck h m
def zD6:Run:=rF2 dH dI λb c=>(zhg b c,[aB<|zhf b c])
def zKP (N:Nat)(a:Host)(b:Int):OA:=
 (oN (zcj a)<|cond (zci a) (oN (zJ b 0<|wsub .i64 (ln a.Mons) 1)<|some [aB<|zi b 0<|wsub .i64 (ln a.Mons) 1]) oF)
theorem zWU (a:Host)(b:Int)(d:zhg a b=true):∃N,zKP N a b=some [aB<|zhf a b]:=by refine⟨0,?_⟩;unfold zKP zhf zck oN;cases c:zbP a;{simp only [zcj,zci,c,cT,cF]};{simp only [zcj,zci,c,cT,zJ,zUV,zRo c]}
theorem zPz:vV 364 zD6:=kF2 zu9 zl zn zo (zq []) zWU
@[simp] abbrev zi2 (h:Host)(m p:Int):Bool:=true
@[simp] abbrev zeA (h:Host)(m p:Int):Bool:=zb5 h m p
def zsK:Run:=rF3 dH dI dI λb c d=>(zi2 b c d,[aB<|zeA b c d])
def zRN (N:Nat)(a:Host)(b c:Int):OA:=
 (oN (zcj a)<|cond (zci a) (oN (zJ b 0<|wsub .i64 (ln a.Mons) 1)<|cond (zi b 0<|wsub .i64 (ln a.Mons) 1) (oN (zJ c 0 7)<|some [aB<|zi c 0 7]) oF) oF)
theorem zZm (a:Host)(b c:Int)(e:zi2 a b c=true):∃N,zRN N a b c=some [aB<|zeA a b c]:=by refine⟨0,?_⟩;unfold zRN zeA zb5 oN;cases d:zbP a;{simp only [zcj,zci,d,cT,cF]};{simp only [zcj,zci,d,cT,zJ,zUV,zRo d,win7];cases hasB b (ln a.Mons)<;>rfl}
theorem zTm:vV 370 zsK:=kF3 zu9 zl zn zo (zq []) zZm
def zGg (N:Nat)(a:Host)(b c:Int):OA:=
 (oN (zcj a)<|cond (zci a) (oN (zbj b<|ln a.Mons)<|cond (zca b<|ln a.Mons) (oN (zbj c 8)<|some [aB<|zca c 8]) oF) oF)
theorem zTM (a:Host)(b c:Int)(e:zi2 a b c=true):∃N,zGg N a b c=some [aB<|zeA a b c]:=by refine⟨0,?_⟩;unfold zGg zeA zb5 oN;cases d:zbP a;{simp only [zcj,zci,d,cT,cF]};{simp only [zcj,zci,d,cT,zbj,zca];cases hasB b (ln a.Mons)<;>rfl}
theorem zLM:vV 66 zsK:=kF3 zu9 zl zn zo (zq []) zTM
def z9l:zbd:=[(364,zD6),(370,zsK),(66,zsK)]++z1k
theorem zVw:zQ z9l:=zf zPz (zf zTm<|zf zLM zu9)
def zeg (k:Kept)(p:Int):Bool:=bif hasB p (ln k.Known) then hasB p (ln k.Slots) else false
def zcb (k:Kept)(p:Int):Kept:=bif zeg k p then ⟨up k.Known p false,up k.Slots p noSlot⟩ else k
@[simp] theorem zot {k:Kept}{p:Int}(h:SmK k):SmK (zcb k p):=by unfold zcb;cases zeg k p;{exact h};{exact⟨by simpa using h.1,by simpa using h.2⟩}
theorem has_lt {p:Int}{n m:Int}(h:hasB p n=true):ilt p m=hasB p m:=by have h:=qD h;unfold ilt hasB;by_cases a:p<m;{rw [qK a,qK ⟨h.1,a⟩]};{rw [qH a,qH (by omega)]}
@[simp] abbrev zc1 (k:Kept)(p:Int):Bool:=pc (SmK k)
@[simp] abbrev zkV (k:Kept)(p:Int):Bool:=zeg k p
def zD4:Run:=rF2 (dT .kept) dI λb c=>(zc1 b c,[aB<|zkV b c])
def zKN (N:Nat)(a:Kept)(b:Int):OA:=
 (oN (zJ b 0<|wsub .i64 (ln a.Known) 1)<|cond (zi b 0<|wsub .i64 (ln a.Known) 1) (some [aB<|ilt b<|ln a.Slots]) oF)
theorem zWR (a:Kept)(b:Int)(c:zc1 a b=true):∃N,zKN N a b=some [aB<|zkV a b]:=by have e:=zD.1 c;refine⟨0,?_⟩;unfold zKN zkV zeg oN;simp only[zJ,zUV,zsg e.1,cT];cases d:hasB b (ln a.Known);{rfl};{simp only [cT,has_lt d]}
theorem zPt:vV 389 zD4:=kF2 zVw zl zn zo (zq []) zWR
def z9m:zbd:=[(389,zD4)]++z9l
theorem zH5:zQ z9m:=zf zPt zVw
@[simp] abbrev zeP (k:Kept)(p:Int):Kept:=zcb k p
def zqP:Run:=rF2 (dT .kept) dI λb c=>(zc1 b c,[aT .kept<|zeP b c])
def zKt (N:Nat)(c:Kept)(b:Int):OA:=
 let a:=zeI c; (oN (zh1 c)<|oN (zc1 a b)<|cond (zkV a b) (oN (inb b<|ln a.Known)<|share (up a.Known b false) λd=>oN zbN<|oN (inb b<|ln a.Slots)<|share (up a.Slots b zbi) λe=>some [aT .kept (⟨d,e⟩:Kept)])<|some [aT .kept a])
theorem zWC (a:Kept)(b:Int)(g:zc1 a b=true):∃N,zKt N a b=some [aT .kept<|zeP a b]:=by
 have d:=zD.1 g;refine⟨0,?_⟩;unfold zKt zeP oN;conv=>zeta
 refine must (zbu<|(zya _).2 d) (must (zbu d) ?_);unfold zcb;cases c:zeg a b;{simp only [zkV,zeI,c,cF]};{simp only [zkV,zeI,c,cT];unfold zeg at c;obtain⟨e,f⟩:=zdB.1 c;simp only[zV6,e,f,cT,share,zbN]}
theorem zPa:vV 367 zqP:=kF2 zH5 zl zn zo (zq []) zWC
def zJ4 (N:Nat)(b:Kept)(a:Int):OA:=
 let c:=zdm b; (oN (zel b)<|oN (zbj a<|ln b.Known)<|cond (zca a<|ln b.Known) (oN (zbj a<|ln b.Slots)<|cond (zca a<|ln b.Slots) (oN (inb a<|ln c.Known)<|share (up c.Known a false) λd=>oN zbN<|oN (inb a<|ln c.Slots)<|share (up c.Slots a zbi) λe=>some [aT .kept (⟨d,e⟩:Kept)])<|some [aT .kept c])<|some [aT .kept c])
theorem zWe (a:Kept)(b:Int)(c:zc1 a b=true):∃N,zJ4 N a b=some [aT .kept<|zeP a b]:=by
 have d:=zD.1 c;refine⟨0,?_⟩;unfold zJ4 zeP oN;conv=>zeta
 refine must (zbu d) (must rfl ?_);unfold zcb zeg;simp only[zca,zbj,zdm,zV6,share,zbN,cT];cases hasB b (ln a.Known);{rfl};{cases hasB b (ln a.Slots)<;>rfl}
theorem zOF:vV 121 zqP:=kF2 zH5 zl zn zo (zq []) zWe
def z9n:zbd:=[(367,zqP),(121,zqP)]++z9m
theorem zva:zQ z9n:=zf zPa (zf zOF zH5)
def zf9 (k:Kept)(l:List Int):Kept:=l.foldl zcb k
theorem z0P:∀(l:List Int) {k:Kept},SmK k->SmK (zf9 k l)
 |[],_,h=>h
 |p::l,k,h=>z0P l (zot (p:=p) h)
theorem zzC {b:Type}(K:List Bool×List Slot->Option b):∀(l:List Int) (i:Nat) (k:Kept),SmK k->
 goL (λ_ x (t:List Bool×List Slot) a=>bif pc (SmK ⟨t.1,t.2⟩) then a ((zcb ⟨t.1,t.2⟩ x).Known,(zcb ⟨t.1,t.2⟩ x).Slots) else none) K l i (k.Known,k.Slots)=K ((zf9 k l).Known,(zf9 k l).Slots)
 |[],_,_,_=>rfl
 |x::l,i,k,h=>by have e:pc (SmK ⟨k.Known,k.Slots⟩)=true:=zbu h;simp only[goL,e,cT];exact zzC K l (i+1) (zcb k x) (zot h)
def zEm (l:List Slot)(p:Int):List Int:=idxs (λ(s:Slot)=>ieq s.Page p) l 0
def zlW (k:Kept)(l:List Slot)(p:Int):Kept:=zf9 k (zEm l p)
theorem z8m {k:Kept}(l:List Slot)(p:Int)(h:SmK k):SmK (zlW k l p):=z0P _ h
@[simp] abbrev zgI (k:Kept)(l:List Slot)(p:Int):Bool:=pc (SmK k/\l.length<=1048576)
@[simp] abbrev zlo (k:Kept)(l:List Slot)(p:Int):Kept:=zlW k l p
def zma:Run:=rF3 (dT .kept) (dS .slot) dI λb c d=>(zgI b c d,[aT .kept<|zlo b c d])
def zx5 (N:Nat)(c:Kept)(e:lS)(f:Int):OA:=
 (oN (zh1 c)<|oN (zrg e f)<|iter (σ:=(Int×(List Int)×lB×lS×lB×lS×Unit)) N (λg a=>let d:=ix a.2.1 a.1 0;let b:=(⟨a.2.2.1,a.2.2.2.1⟩:Kept); (cond (ilt a.1<|ln a.2.1) (oN (inb a.1<|ln a.2.1)<|oN (zc1 b d)<|g (zN .i64 a.1 1,a.2.1,(zeP b d).Known,(zeP b d).Slots,a.2.2.2.2.1,a.2.2.2.2.2.1,()))<|some [aT .kept b])) (0,zhI e f,(zeI c).Known,(zeI c).Slots,[],[],()))
def zJW:=zq [(398,0,{n:=27,tm:=[(3,.lp 0 0),(6,.lp 1 0),(7,.sl 0 []),(8,ti)],lo:=[(0,[.sl 1 [],.sl 2 []]),(1,[.sl 3 [],.sl 4 []])],ro:=[(0,.int,true),(1,.bool,true),(2,.slot,true),(3,.bool,true),(4,.slot,true)]})]
theorem zJv (b:Kept)(a:List Slot)(c:Int)(j:zgI b a c=true):∃N,zx5 N b a c=some [aT .kept<|zlo b a c]:=by
 obtain⟨h,f⟩:=zD.1 j;have g:(zhI a c).length<=big:=jB (zvx _ a 0) (zcu f).1;refine zbX λN e=>?_;unfold zx5 oN;conv=>zeta
 refine must (zbu<|(zya _).2 h) (must (zbu (by omega)) ?_);refine(zY (zhI a c) (λi (t:lB×lS)=>((i:Int),zhI a c,t.1,t.2,[],[],())) _ (λ_ (x:Int) (t:List Bool×List Slot) k=>bif pc (SmK ⟨t.1,t.2⟩) then k ((zcb ⟨t.1,t.2⟩ x).Known,(zcb ⟨t.1,t.2⟩ x).Slots) else none) (λ(t:lB×lS)=>some [.agg<|Ty.cells .kept (⟨t.1,t.2⟩:Kept)]) (λi d t rec=>?_) (λt rec=>?_) _ ((zeI b).Known,(zeI b).Slots)<|e g).trans ?_;{simp only [zbn d,zU d,zbb d,zX d g,cT]};{simp only [zbe,cF]};exact zzC _ _ 0 b h
theorem zDn:vV 398 zma:=kF3 zva zl zn zo zJW zJv
def zxU (N:Nat)(c:Kept)(d:lS)(e:Int):OA:=
 (oN (zel c)<|oN (zrg d e)<|iter (σ:=(Int×Int×(List Int)×lB×lS×lB×lS×Unit)) N (λg a=>let f:=ix a.2.2.1 a.2.1 0;let b:=(⟨a.2.2.2.2.2.1,a.2.2.2.2.2.2.1⟩:Kept); (cond (ilt a.2.1 a.1) (oN (inb a.2.1<|ln a.2.2.1)<|oN (zc1 b f)<|g (a.1,zN .i64 a.2.1 1,a.2.2.1,a.2.2.2.1,a.2.2.2.2.1,(zeP b f).Known,(zeP b f).Slots,()))<|some [aT .kept b])) (ln<|zhI d e,0,zhI d e,[],[],(zdm c).Known,(zdm c).Slots,()))
def zJR:=zq [(252,0,{n:=25,tm:=[(6,.lp 0 0),(7,.lp 1 0),(14,.sl 0 []),(15,ti),(16,ti)],lo:=[(0,[.sl 1 [],.sl 2 []]),(1,[.sl 3 [],.sl 4 []])],ro:=[(0,.int,true),(1,.bool,true),(2,.slot,true),(3,.bool,true),(4,.slot,true)]})]
theorem zJk (c:Kept)(a:List Slot)(b:Int)(j:zgI c a b=true):∃N,zxU N c a b=some [aT .kept<|zlo c a b]:=by
 obtain⟨h,f⟩:=zD.1 j;have g:(zhI a b).length<=big:=jB (zvx _ a 0) (zcu f).1;refine zbX λN e=>?_;unfold zxU oN;conv=>zeta
 refine must (zbu h) (must (zbu (by omega)) ?_);refine(zY (zhI a b) (λi (t:lB×lS)=>(ln<|zhI a b,(i:Int),zhI a b,[],[],t.1,t.2,())) _ (λ_ (x:Int) (t:List Bool×List Slot) k=>bif pc (SmK ⟨t.1,t.2⟩) then k ((zcb ⟨t.1,t.2⟩ x).Known,(zcb ⟨t.1,t.2⟩ x).Slots) else none) (λ(t:lB×lS)=>some [.agg<|Ty.cells .kept (⟨t.1,t.2⟩:Kept)]) (λi d t rec=>?_) (λt rec=>?_) _ ((zdm c).Known,(zdm c).Slots)<|e g).trans ?_;{simp only [zbn d,zU d,zbb d,zX d g,cT]};{simp only [zbe,cF]};exact zzC _ _ 0 c h
theorem zDd:vV 252 zma:=kF3 zva zl zn zo zJR zJk
def flushed (l:List Entry)(p:Int):List Entry:=l.filter λe=>!ieq e.Host p
theorem zGZ (l:List Entry)(p:Int):(flushed l p).length<=l.length:=uM _ _
theorem znR {b e:Type}(p:b->Bool)(K:List b->Option e):∀(l:List b) (i:Nat) (a:List b),a.length+l.length<=2147483648->
 goL (λ_ x a d=>bif p x then (cond (few<|ln<|ap a [x]) (d<|ap a [x]) none) else d a) K l i a=K (a++l.filter p)
 |[],i,a,_=>by simp[goL]
 |x::l,i,a,h=>by simp only[qU]at h;simp only[goL];cases c:p x;{rw [cF,znR p K l (i+1) a (by omega),List.filter_cons_of_neg (by simp[c])]};{rw [cT,zfE (by simp[ap];omega),cT,znR p K l (i+1) _ (by simp[ap];omega),List.filter_cons_of_pos c];simp[ap]}
@[simp] abbrev zdL (l:List Entry)(p:Int):Bool:=pc (l.length<=1048576)
@[simp] abbrev zgk (l:List Entry)(p:Int):List Entry:=flushed l p
def zmR:Run:=rF2 (dS .entry) dI λb c=>(zdL b c,[aS .entry<|zgk b c])
def zAJ (N:Nat)(e:lE)(f:Int):OA:=
 (iter (σ:=(Int×Int×lE×lE×Unit)) N (λd a=>let b:=a.2.2.1;let c:=ix b a.2.1 zfy; (cond (ilt a.2.1<|ln b) (oN (inb a.2.1<|ln b)<|cond (ine c.Host a.1) (oN (inb a.2.1<|ln b)<|oN (few<|ln<|ap a.2.2.2.1 [c])<|d (a.1,zN .i64 a.2.1 1,b,ap a.2.2.2.1 [c],()))<|d (a.1,zN .i64 a.2.1 1,b,a.2.2.2.1,()))<|some [aS .entry a.2.2.2.1])) (f,0,e,[],()))
def zN1:=zq [(399,0,{n:=29,tm:=[(0,.sl 0 []),(1,ti),(5,.sl 1 []),(6,ti)],lo:=[],ro:=[(0,.entry,false),(1,.entry,true)]})]
theorem zMW (a:List Entry)(b:Int)(h:zdL a b=true):∃N,zAJ N a b=some [aS .entry<|zgk a b]:=by
 have j:=zD.1 h;have f:=zcu j;refine zbX λN d=>?_;unfold zAJ oN;conv=>zeta
 refine(zY a (λi (t:lE)=>(b,(i:Int),a,t,())) _ (λ_ (x:Entry) (t:List Entry) g=>bif !ieq x.Host b then (cond (few<|ln<|ap t [x]) (g<|ap t [x]) none) else g t) (λ(t:lE)=>some [.one<|.s .entry t]) (λi c t rec=>?_) (λt rec=>?_) _ ([])<|d f.1).trans ?_;{simp only [zbn c,zU c,zbb c,zX c f.1,cT];rfl};{simp only [zbe,cF]};exact znR (λe=>!ieq e.Host b) _ a 0 [] (by simpa using f.2)
theorem zFi:vV 399 zmR:=kF2 zva zl zn zo zN1 zMW
def zAq (N:Nat)(d:lE)(f:Int):OA:=
 (iter (σ:=(Int×Int×Int×lE×lE×Unit)) N (λe a=>let b:=a.2.2.2.2.1;let c:=ix b a.2.1 zfy; (cond (ilt a.2.1 a.1) (oN (inb a.2.1<|ln b)<|cond (nB<|ieq c.Host a.2.2.1) (oN (few<|ln<|ap a.2.2.2.1 [c])<|e (a.1,zN .i64 a.2.1 1,a.2.2.1,ap a.2.2.2.1 [c],b,()))<|e (a.1,zN .i64 a.2.1 1,a.2.2.1,a.2.2.2.1,b,()))<|some [aS .entry a.2.2.2.1])) (ln d,0,f,[],d,()))
def zNR:=zq [(237,0,{n:=25,tm:=[(1,.fn 309 [0]),(5,.sl 0 []),(9,.sl 1 []),(10,ti),(11,ti)],lo:=[(0,[ti])],ro:=[(0,.entry,true),(1,.entry,false)]})]
theorem zMD (a:List Entry)(b:Int)(h:zdL a b=true):∃N,zAq N a b=some [aS .entry<|zgk a b]:=by
 have j:=zD.1 h;have f:=zcu j;refine zbX λN d=>?_;unfold zAq oN nB;conv=>zeta
 refine(zY a (λi (t:lE)=>(ln a,(i:Int),b,t,a,())) _ (λ_ (x:Entry) (t:List Entry) g=>bif !ieq x.Host b then (cond (few<|ln<|ap t [x]) (g<|ap t [x]) none) else g t) (λ(t:lE)=>some [.one<|.s .entry t]) (λi c t rec=>?_) (λt rec=>?_) _ ([])<|d f.1).trans ?_;{simp only [zbn c,zU c,zbb c,zX c f.1,cT];cases ieq a[i].Host b<;>rfl};{simp only [zbe,cF]};exact znR (λe=>!ieq e.Host b) _ a 0 [] (by simpa using f.2)
theorem zEY:vV 253 zmR:=kF2 zva zl zn zo zNR zMD
def z1l:zbd:=[(398,zma),(252,zma),(399,zmR),(253,zmR)]++z9n
theorem zzq:zQ z1l:=zf zDn (zf zDd<|zf zFi<|zf zEY zva)
def zml (b:List Guest)(p:Int):Nat->List Kept->List Kept
 | 0,a=>a
 |n+1,a=>up (zml b p n a) (n:Int) (zlW (ix (zml b p n a) (n:Int) zc7) (ix b (n:Int) zu).Live p)
theorem zpQ (b:List Guest)(p:Int):∀(n:Nat) (a:List Kept),(zml b p n a).length=a.length
 | 0,_=>rfl
 |n+1,a=>by simp only[zml,zgN];exact zpQ b p n a
theorem ztu (b:List Guest)(p:Int):∀(n:Nat) (a:List Kept),n<=a.length->zCF a->zCF (zml b p n a)
 | 0,_,_,h=>h
 |n+1,a,e,h=>by have d:=ztu b p n a (by omega) h;have c:n<(zml b p n a).length:=(by rw[zpQ];omega);exact zuV d (z8m _ _ (by rw[zbb c];exact d.2 _ (jA c)))
def zjZ (x:Mon)(p:Int)(n:Nat):Mon:={x with Tables:=zml x.Guests p n x.Tables}
theorem z5W {x:Mon}{p:Int}{n:Nat}(a:n<=x.Tables.length)(h:zf8 x):zf8 (zjZ x p n):=⟨h.1,h.2.1,h.2.2.1,h.2.2.2.1,h.2.2.2.2.1,ztu _ _ _ _ a h.2.2.2.2.2⟩
def zcD (h:Host)(m p:Int)(s:Slot):Host :=
 bif ine (ix (ix h.Mons m zh).Outer p zW).Page (-1)
 then ⟨h.Memory,up h.Mons m {zjZ (ix h.Mons m zh) p (ix h.Mons m zh).Tables.length with Outer:=up (ix h.Mons m zh).Outer p s},flushed h.Buffer (ix (ix h.Mons m zh).Outer p zW).Page,flushed h.IoBuffer (ix (ix h.Mons m zh).Outer p zW).Page⟩
 else ⟨h.Memory,up h.Mons m {zjZ (ix h.Mons m zh) p (ix h.Mons m zh).Tables.length with Outer:=up (ix h.Mons m zh).Outer p s},h.Buffer,h.IoBuffer⟩
def zbbK (h:Host)(m p:Int):Prop:=hasB m (ln h.Mons)=true/\hasB p (ln (ix h.Mons m zh).Outer)=true/\(ix h.Mons m zh).Tables.length<=(ix h.Mons m zh).Guests.length
@[simp] abbrev zgZ (h:Host)(m p:Int)(s:Slot):Bool:=pc (zdv h/\zbbK h m p)
@[simp] abbrev zi3 (h:Host)(m p:Int)(s:Slot):Host:=zcD h m p s
def ztT:List AV->Option (Bool×List AV)
 |[.agg [.s (.sl .int) b,.s .mon c,.s .entry d,.s .entry e],.one<|.i .i64 f,.one<|.i .i64 g,.agg [.i .i64 h,.i .i64 j]]=>some (zgZ (⟨b,c,d,e⟩:Host) f g (⟨h,j⟩:Slot),[aH<|zi3 (⟨b,c,d,e⟩:Host) f g (⟨h,j⟩:Slot)])
 |_=>none
def zxo (N:Nat)(p:Host)(g z:Int)(B:Slot):OA:=
 let v:=ix p.Mons g zh; (oN (inb g<|ln p.Mons)<|oN (inb z<|ln v.Outer)<|iter (σ:=(Int×Int×Int×Int×Int×Int×Int×Int×Int×Int×Int×Int×Int×Int×Int×lM×lN×lE×lE×lM×lN×lE×lE×Unit)) N (λD a=>let d:=a.2.2.1;let m:=a.2.2.2.2.2.2.2.2.2.2.2.1;let l:=a.2.2.2.2.2.2.2.2.2.2.2.2.1;let k:=a.2.2.2.2.2.2.2.2.2.2.2.2.2.2.1;let j:=a.2.2.2.2.2.2.2.2.2.2.2.2.2.2.2.1;let f:=a.2.2.2.2.2.2.2.1;let e:=a.2.2.2.2.2.2.2.2.1;let c:=a.2.2.2.1;let w:=a.2.2.2.2.2.2.2.2.2.2.1;let y:=a.2.2.2.2.2.2.2.2.2.2.2.2.2.2.2.2.2.1;let x:=a.2.2.2.2.2.2.2.2.2.2.2.2.2.2.2.2.2.2.1;let n:=a.2.2.2.2.2.2.1;let r:=a.2.2.2.2.2.2.2.2.2.1;let i:=a.2.2.2.2.2.2.2.2.2.2.2.2.2.1;let q:=a.2.2.2.2.2.2.2.2.2.2.2.2.2.2.2.2.1;let u:=(ix q r zh).Guests;let t:=(ix u c zu).Live;let h:=ix q n zh;let s:=(ix q i zh).Tables;let C:=up q n ({h with Outer:=(up h.Outer a.2.1 (⟨a.2.2.2.2.1,a.2.2.2.2.2.1⟩:Slot))}:Mon); (cond (ilt c<|ln s) (oN (inb c<|ln s)<|oN (inb c<|ln u)<|oN (zgI (ix s c zc7) t a.2.1)<|oN (inb c<|ln s)<|share (up q i ({ (ix q i zh) with Tables:=(up s c<|zlo (ix s c zc7) t a.2.1)}:Mon)) λb=>D (a.1,a.2.1,d,zN .i64 c 1,a.2.2.2.2.1,a.2.2.2.2.2.1,n,f,e,r,w,m,l,i,k,j,b,y,x,a.2.2.2.2.2.2.2.2.2.2.2.2.2.2.2.2.2.2.2.1,a.2.2.2.2.2.2.2.2.2.2.2.2.2.2.2.2.2.2.2.2.1,a.2.2.2.2.2.2.2.2.2.2.2.2.2.2.2.2.2.2.2.2.2.1,a.2.2.2.2.2.2.2.2.2.2.2.2.2.2.2.2.2.2.2.2.2.2.1,()))<|cond (ine d<|-1) (oN (zdL y d)<|oN (zdL x d)<|oN (inb a.2.1<|ln h.Outer)<|share C λb=>oN (inb a.1<|ln b)<|oN (cond (cond (cond (cond (cond (cond (ieq i a.1) true false) (cond (ieq w a.1) true false) false) (cond (ieq r a.1) true false) false) (cond (ieq e a.1) true false) false) (cond (ieq f a.1) true false) false) (cond (ieq n a.1) true false) false)<|share (up b a.1 ({ (ix b n zh) with Out:=(ix b f zh).Out,Dirty:=(ix b e zh).Dirty,Guests:=(ix b r zh).Guests,Outs:=(ix b w zh).Outs,Pending:=m,Traps:=l,Tables:=(ix b i zh).Tables,Own:=k}:Mon)) λA=>some [aH (⟨j,A,zgk y d,zgk x d⟩:Host)])<|oN (inb a.2.1<|ln h.Outer)<|share C λb=>oN (inb a.1<|ln b)<|oN (cond (cond (cond (cond (cond (cond (ieq i a.1) true false) (cond (ieq w a.1) true false) false) (cond (ieq r a.1) true false) false) (cond (ieq e a.1) true false) false) (cond (ieq f a.1) true false) false) (cond (ieq n a.1) true false) false)<|share (up b a.1 ({ (ix b n zh) with Out:=(ix b f zh).Out,Dirty:=(ix b e zh).Dirty,Guests:=(ix b r zh).Guests,Outs:=(ix b w zh).Outs,Pending:=m,Traps:=l,Tables:=(ix b i zh).Tables,Own:=k}:Mon)) λA=>some [aH (⟨j,A,y,x⟩:Host)])) (g,z,(ix v.Outer z zW).Page,0,B.Page,B.Rights,g,g,g,g,g,v.Pending,v.Traps,g,v.Own,p.Memory,p.Mons,p.Buffer,p.IoBuffer,[],[],[],[],()))
def zUC:=zq [(385,0,{n:=70,tm:=[(1,ti),(2,ti),(4,.lp 0 0),(7,.lp 1 0),(8,.lp 2 0),(9,.lp 3 0),(10,ti),(11,ti)],lo:=[(0,[.sl 0 [],.sl 1 [],.sl 2 [],.sl 3 []]),(1,[ti,ti]),(2,[.sl 4 [],.sl 5 [],.sl 6 [],.sl 7 []]),(3,[.sl 1 [0],.sl 1 [1],.sl 1 [2],.sl 1 [3],.sl 1 [4],ti,ti,.sl 1 [7],ti])],ro:=[(0,.sl .int,true),(1,.mon,true),(2,.entry,true),(3,.entry,true),(4,.sl .int,true),(5,.mon,true),(6,.entry,true),(7,.entry,true)]})]
theorem zW8 (N:Nat)(a:Host)(b c:Int)(d:Slot):zEv (cQ z1l zqA zQJ zXZ) zUC N 12 385 [true,true,true,true,false,false,false,false] 1 1 [[0],[1],[2],[4],[7]] .mon [aH a,aI b,aI c,aT .slot d]=zxo N a b c d:=by kernel_rfl
theorem zUi (a:Host)(f b:Int)(d:Slot)(D:zbE big [aH a,aI f,aI b,aT .slot d])(y:zgZ a f b d=true):∃N,zxo N a f b d=some [aH<|zi3 a f b d]:=by
 obtain⟨B,g,s,C⟩:=zD.1 y;have l:=(zO a).1 B;have r:zf8 (ix a.Mons f zh):=l.2.1.2 _ (zbQ g _);obtain⟨k,rfl,q⟩:=zeN (n:=a.Mons.length) g;have x:=(zcu r.2.2.2.2.2.1).1;refine zbX λN p=>?_;unfold zxo oN;conv=>zeta
 refine must g (must s ?_);refine zrU (ix a.Mons (k:Int) zh).Tables.length (λi (t:List Mon)=>((k:Int),b,(ix (ix a.Mons (k:Int) zh).Outer b zW).Page,(i:Int),d.Page,d.Rights,(k:Int),(k:Int),(k:Int),(k:Int),(k:Int),(ix a.Mons (k:Int) zh).Pending,(ix a.Mons (k:Int) zh).Traps,(k:Int),(ix a.Mons (k:Int) zh).Own,a.Memory,t,a.Buffer,a.IoBuffer,[],[],[],[],())) _
  (λi t=>t=up a.Mons (k:Int) (zjZ (ix a.Mons (k:Int) zh) b i)) (λ_ _=>some [AV.agg<|zbh<|zcD a (k:Int) b d]) (λi t rec u m A=>?_) (λt rec m=>?_) _ 0 a.Mons ?_ (jW _) ?_
 .subst m;have c:i<(zml (ix a.Mons (k:Int) zh).Guests b i (ix a.Mons (k:Int) zh).Tables).length:=(by rw[zpQ];exact u);have e:i<(ix a.Mons (k:Int) zh).Guests.length:=by omega
  have z:zgI (ix (zml (ix a.Mons (k:Int) zh).Guests b i (ix a.Mons (k:Int) zh).Tables) (i:Int) zc7) (ix (ix a.Mons (k:Int) zh).Guests (i:Int) zu).Live b=true :=
   zbu ⟨by rw[zbb c];exact(ztu _ _ _ _ (by omega) r.2.2.2.2.2).2 _ (jA c),by rw[zbb e];exact(r.2.2.2.1.2 _<|jA e).2.2.1⟩
  simp only[zed q,zrv,zjZ,zbn c,zU c,zU e,z,cT,share,zX u x];exact A _ rfl
 {subst m;simp only[zed q,zrv,zgN,zjZ,ln,zpQ,zdS,show ilt (((ix a.Mons (k:Int) zh).Tables.length:Nat):Int) (((ix a.Mons (k:Int) zh).Tables.length:Nat):Int)=false from qH (by omega),cT,cF,share];have h:inb (k:Int) ((a.Mons.length:Nat):Int)=true:=g;have j:inb b (((ix a.Mons (k:Int) zh).Outer.length:Nat):Int)=true:=s;have v:zdL a.Buffer (ix (ix a.Mons (k:Int) zh).Outer b zW).Page=true:=zbu l.2.2.1;have w:zdL a.IoBuffer (ix (ix a.Mons (k:Int) zh).Outer b zW).Page=true:=zbu l.2.2.2;simp only[h,j,v,w,cT];unfold zcD;cases ine (ix (ix a.Mons (k:Int) zh).Outer b zW).Page (-1)<;>rfl};{exact(zET q _).symm};{exact p (by omega)}
theorem zMl:zfB Tryz.prog 385 [true,true,true,true,false,false,false,false] (some (1,1,[[0],[1],[2],[4],[7]])) ztT:=by refine znT (kt:=.mon) (zin zzq zl zn zo) (zkm (by kernel_rfl)) (by kernel_rfl) ?_;intro a g f e h;have c:=zk8 e;unfold ztT at h;split at h;{obtain⟨d,rfl⟩:=zfo h;obtain⟨N,b⟩:=zUi _ _ _ _ (by exact c) d;exact⟨⟨_,rfl⟩,rfl,_,N,12,(zW8 N _ _ _ _ ).trans b⟩};{cases h}
def zX0:zgP:=[(385,[true,true,true,true,false,false,false,false],some (1,1,[[0],[1],[2],[4],[7]]),ztT)]++zXZ
theorem zd6:zfu zX0:=zsd zo (by
 intro x a;simp only[qG,qZ,or_false]at a;rcases a with rfl
 .exact zMl)
def zN8 (x:Mon)(p:Int):Mon:={x with Dirty:=up x.Dirty p false}
def grd (x:Mon)(p:Int):Mon:={x with Outer:=up x.Outer p ⟨(ix x.Outer p zW).Page,1⟩}
def zow (h:Host)(m p:Int):Host:={h with Mons:=up h.Mons m (zN8 (ix h.Mons m zh) p)}
def zqi (h:Host)(m p:Int):Host:=bif zb5 h m p then (cond (zc5 (ix (ix h.Mons m zh).Outer p zW) noSlot) (zow h m p)<|zcD (zow h m p) m p ⟨(ix (ix h.Mons m zh).Outer p zW).Page,1⟩) else h
theorem zzI:∀(l:List Mon) (u:List Bool),zjq l u=true->∀x∈l,ze4 x=true
 |[],_,_,x,a=>by cases a
 |m::l,u,h,x,a=>by
  simp only[zjq]at h;cases b:ze4 m;{rw [b]at h;cases h}
  .rw [b]at h;simp only[cT]at h;cases c:zil m.Outer u with
   |none=>rw[c]at h;cases h
   |some d =>rw[c]at h;rcases qG.1 a with rfl|a;{exact b};{exact zzI l d h x a}
structure PageAt (h:Host) (m p:Int):Prop where
 hm:hasB m (ln h.Mons)=true
 hp:hasB p 8=true
 ok:ze4 (ix h.Mons m zh)=true
 ho:(ix h.Mons m zh).Outer.length=8
 hd:(ix h.Mons m zh).Dirty.length=8
 ht:(ix h.Mons m zh).Tables.length=(ix h.Mons m zh).Guests.length
 hs:zc5 (ix (ix h.Mons m zh).Outer p zW) noSlot=ieq (ix (ix h.Mons m zh).Outer p zW).Page (-1)
theorem zSM {s:Slot}{n:Int}(h:zeT s n=true):zc5 s noSlot=ieq s.Page (-1):=by unfold zeT at h;cases a:zc5 s noSlot;{rw [a]at h;cases d:ieq s.Page (-1);{rfl};{have e:s.Page = -1:=qD d;cases b:igt n 0;{rw [b]at h;cases h};{cases c:zi s.Page 0 (wsub .i64 n 1);{rw [b,c]at h;cases h};{have:=(zf7.1 c).1;omega}}}};{unfold zc5 at a;rw[qE]at a;exact a.1.symm}
theorem zzX {h:Host}{m p:Int}(d:zb5 h m p=true):PageAt h m p:=by unfold zb5 at d;simp only[zdB]at d;obtain⟨c,f,g⟩:=d;unfold zbP at c;simp only[zdB]at c;have b:=zzI _ _ c.2.2.2.2 _ (zbQ f zh);have a:=b;unfold ze4 at a;simp only[zdB]at a;have i:(ix h.Mons m zh).Outer.length=8:=(by have:=zp5 a.2.2.1;simp only[ln] at this;omega);refine⟨f,g,b,i,?_,?_,?_⟩;{have:ln (ix h.Mons m zh).Dirty=8:=qD a.2.2.2.2.1;simp only[ln] at this;omega};{have:ln (ix h.Mons m zh).Tables=ln (ix h.Mons m zh).Guests:=qD a.2.1;simp only[ln] at this;omega};{have e:=a.2.2.1;unfold zds at e;simp only[zdB]at e;have j:hasB p (ln (ix h.Mons m zh).Outer)=true:=(by rw[ln,i];exact g);exact zSM (qL.1 e.1 _<|zbQ j _)}
theorem zXO {x:Mon}{p:Int}(h:zf8 x):zf8 (zN8 x p):=⟨h.1,h.2.1,by simpa [zN8] using h.2.2.1,h.2.2.2⟩
theorem zAf {h:Host}{m p:Int}(b:hasB m (ln h.Mons)=true)(a:SmH h):SmH (zow h m p):=⟨a.1,zkA a.2.1<|zXO<|a.2.1.2 _<|zbQ b _,a.2.2⟩
theorem zHC {h:Host}{m p:Int}{s:Slot}(d:hasB m (ln h.Mons)=true)(a:SmH h):SmH (zcD h m p s):=by have c:=a.2.1.2 _ (zbQ d zh);have e:=z5W (p:=p) (qT _) c;have b:zqb (up h.Mons m {zjZ (ix h.Mons m zh) p (ix h.Mons m zh).Tables.length with Outer:=up (ix h.Mons m zh).Outer p s}):=zkA a.2.1 ⟨by simpa using c.1,e.2⟩;unfold zcD;cases ine (ix (ix h.Mons m zh).Outer p zW).Page (-1);{exact⟨a.1,b,a.2.2⟩};{exact⟨a.1,b,jB (zGZ _ _) a.2.2.1,jB (zGZ _ _) a.2.2.2⟩}
theorem zAi {h:Host}{m p:Int}(a:hasB m (ln h.Mons)=true):hasB m (ln (zow h m p).Mons)=true:=by unfold zow;simpa [ln] using a
theorem z5S {h:Host}{m p:Int}(a:SmH h):SmH (zqi h m p):=by unfold zqi;cases b:zb5 h m p;{exact a};{have P:=zzX b;cases zc5 (ix (ix h.Mons m zh).Outer p zW) noSlot;{exact zHC (zAi P.hm) (zAf P.hm a)};{exact zAf P.hm a}}
@[simp] abbrev zfn (h:Host)(m p:Int):Bool:=pc (zdv h)
@[simp] abbrev zku (h:Host)(m p:Int):Host:=zqi h m p
def zHo:Run:=rF3 dH dI dI λb c d=>(zfn b c d,[aH<|zku b c d,aB<|zeA b c d])
def zRC (N:Nat)(h:Host)(a b:Int):OA:=
 let c:=zk h;let g:=ix c.Mons a zh; (oN (zM h)<|oN (zi2 c a b)<|cond (nB<|zeA c a b) (some [aH c,aB false])<|oN (inb a<|ln c.Mons)<|oN (inb b<|ln g.Dirty)<|share (up c.Mons a ({g with Dirty:=(up g.Dirty b false)}:Mon)) (λd=>let i:=(ix d a zh).Outer;let f:=({c with Mons:=d}:Host);let e:=ix i b zW;let j:=({e with Rights:=1}:Slot); (oN (inb a<|ln d)<|oN (inb b<|ln i)<|oN zbN<|cond (cond (ieq e.Page zbi.Page) (ieq e.Rights zbi.Rights) false) (some [aH f,aB true])<|oN (zgZ f a b j)<|some [aH<|zi3 f a b j,aB true])))
theorem zZc (a:Host)(c b:Int)(j:zfn a c b=true):∃N,zRC N a c b=some [aH<|zku a c b,aB<|zeA a c b]:=by
 have g:=zD.1 j;have i:=(zO a).1 g;refine⟨0,?_⟩;unfold zRC zku zeA zqi oN nB;conv=>zeta
 refine must (zbu g) (must rfl ?_);cases f:zb5 a c b;{simp only [zeA,zk,f,cF,cT]};{have P:=zzX f;obtain⟨k,rfl,d⟩:=zeN (n:=a.Mons.length) P.hm;simp only[zeA,zk,f,cT,cF];have l:inb b (ln (ix a.Mons (k:Int) zh).Dirty)=true:=(by rw[ln,P.hd];exact P.hp);have h:inb b (ln (ix a.Mons (k:Int) zh).Outer)=true:=(by rw[ln,P.ho];exact P.hp);refine must P.hm (must l ?_);simp only[share,zed d,h,cT,zbN,zbi];refine must (zAi (p:=b) P.hm) ?_;have e:∀s:Slot,zc5 s noSlot=bif ieq s.Page noSlot.Page then ieq s.Rights noSlot.Rights else false:=λs=>(by unfold zc5;cases ieq s.Page noSlot.Page<;>rfl);rw[<- e];cases zc5 (ix (ix a.Mons (k:Int) zh).Outer b zW) noSlot;{refine zb4 rfl (must (zbu ⟨(zO _).2 (zAf P.hm i),zAi (p:=b) P.hm,?_,?_⟩) rfl);{simp only [zed d];exact h};{simp only [zed d];exact uL P.ht}};{rfl}}
theorem zS9:vV 358 zHo:=kF3 zzq zl zn zd6 (zq []) zZc
@[simp] abbrev zwL (h:Host)(m p:Int):Bool:=zb5 h m p
def zHm:Run:=rF3 dH dI dI λb c d=>(zfn b c d,[aH<|zku b c d,aB<|zwL b c d])
def zRr (N:Nat)(f:Host)(a c:Int):OA:=
 let d:=zk f;let g:=ix d.Mons a zh;let j:=ix g.Outer c zW; (oN (zM f)<|oN (zi2 f a c)<|cond (nB<|zeA f a c) (some [aH d,aB false])<|oN (inb a<|ln d.Mons)<|oN (inb c<|ln g.Outer)<|cond (ine j.Page<|-1) (oN (inb c<|ln g.Outer)<|share (up d.Mons a ({g with Outer:=(up g.Outer c ({j with Rights:=1}:Slot))}:Mon)) λk=>oN (inb a<|ln k)<|oN (cond (cond (cond (ieq a a) true false) (cond (cond (ieq a a) true false) (cond (cond (ieq a a) true false) (cond (cond (ieq a a) true false) (cond (cond (ieq a a) true false) (cond (ieq a a) (cond (cond (ieq c c) (ieq a a) false) (cond (cond (ieq a a) true false) (cond (cond (ieq a a) true false) (cond (cond (ieq a a) true false) (cond (ieq a a) (cond (cond (ieq c c) (ieq a a) false) (cond (cond (ieq c c) (ieq a a) false) true false) false) false) false) false) false) false) false) false) false) false) false) false) true false)<|iter (σ:=(Int×Int×Int×Int×Int×Int×Int×Int×lN×lM×lN×lE×lE×lM×lE×lE×lM×lN×lE×lE×Unit)) N (λv b=>let e:=b.2.2.2.2.1;let s:=b.2.2.2.2.2.2.2.2.1;let t:=b.2.2.2.2.2.2.2.2.2.2.2.2.2.1;let h:=b.2.2.2.1;let r:=b.2.2.2.2.2.2.2.2.2.2.2.2.2.2.1;let q:=b.2.2.2.2.2.2.2.2.2.2.2.2.2.2.2.1;let p:=ix s a zh;let u:=up s a ({p with Dirty:=(up p.Dirty c false)}:Mon);let i:=ix s b.2.1 zh;let n:=ix i.Tables h zc7;let m:=(ix i.Guests h zu).Live; (cond (ilt h b.2.2.1) (oN (inb h<|ln i.Tables)<|oN (inb h<|ln i.Guests)<|oN (zgI n m b.1)<|oN (inb h<|ln i.Tables)<|share (up s b.2.1 ({i with Tables:=(up i.Tables h<|zlo n m b.1)}:Mon)) λl=>oN (cond (cond (cond (ieq a a) true false) (cond (cond (ieq a a) true false) (cond (cond (ieq a a) true false) (cond (cond (ieq a a) true false) (cond (cond (ieq a a) true false) (cond (ieq a a) (cond (cond (ieq c c) (ieq a a) false) (cond (cond (ieq a a) true false) (cond (cond (ieq a a) true false) (cond (cond (ieq a a) true false) (cond (ieq a a) (cond (cond (ieq c c) (ieq a a) false) (cond (cond (ieq c c) (ieq a a) false) true false) false) false) false) false) false) false) false) false) false) false) false) false) true false)<|v (b.1,b.2.1,b.2.2.1,zN .i64 h 1,e,b.2.2.2.2.2.1,b.2.2.2.2.2.2.1,b.2.2.2.2.2.2.2.1,l,b.2.2.2.2.2.2.2.2.2.1,b.2.2.2.2.2.2.2.2.2.2.1,b.2.2.2.2.2.2.2.2.2.2.2.1,b.2.2.2.2.2.2.2.2.2.2.2.2.1,t,r,q,b.2.2.2.2.2.2.2.2.2.2.2.2.2.2.2.2.1,b.2.2.2.2.2.2.2.2.2.2.2.2.2.2.2.2.2.1,b.2.2.2.2.2.2.2.2.2.2.2.2.2.2.2.2.2.2.1,b.2.2.2.2.2.2.2.2.2.2.2.2.2.2.2.2.2.2.2.1,()))<|cond (ine e<|-1) (oN (zdL r e)<|oN (zdL q e)<|oN (inb c<|ln p.Dirty)<|share u λl=>some [aH (⟨t,l,zgk r e,zgk q e⟩:Host),aB true])<|oN (inb c<|ln p.Dirty)<|share u λl=>some [aH (⟨t,l,r,q⟩:Host),aB true])) (c,a,ln (ix k a zh).Guests,0,j.Page,j.Rights,j.Page,j.Rights,k,f.Memory,f.Mons,f.Buffer,f.IoBuffer,d.Memory,d.Buffer,d.IoBuffer,[],[],[],[],()))<|oN (inb c<|ln g.Dirty)<|share (up d.Mons a ({g with Dirty:=(up g.Dirty c false)}:Mon)) λk=>some [aH ({d with Mons:=k}:Host),aB true])
def zZU:=zq [(142,0,{n:=71,tm:=[(0,.lp 0 0),(2,ti),(7,.lp 1 0),(8,.ep 0 [] 0),(20,ti),(21,ti)],lo:=[(0,[.sl 5 [],.sl 0 [],.sl 6 [],.sl 7 []]),(1,[ti,ti]),(2,[.sl 1 [],.sl 2 [],.sl 3 [],.sl 4 []]),(3,[.sl 8 [],.sl 9 [],.sl 10 [],.sl 11 []]),(4,[ti,ti])],ro:=[(0,.mon,true),(1,.sl .int,false),(2,.mon,false),(3,.entry,false),(4,.entry,false),(5,.sl .int,true),(6,.entry,true),(7,.entry,true),(8,.sl .int,true),(9,.mon,true),(10,.entry,true),(11,.entry,true)],sk:=[(0,0,0,.sl 1 []),(0,0,1,.sl 2 []),(0,0,2,.sl 3 []),(0,0,3,.sl 4 []),(0,3,0,.lp 2 0),(0,6,0,.lp 3 0),(0,10,0,.lp 4 0),(0,12,0,.sl 5 []),(0,12,2,.sl 6 []),(0,12,3,.sl 7 [])]})]
theorem zY2 (a:Host)(d c:Int)(z:zfn a d c=true):∃N,zRr N a d c=some [aH<|zku a d c,aB<|zwL a d c]:=by
 have s:=zD.1 z;have l:=(zO a).1 s;refine zbX λN p=>?_;unfold zRr zku zwL zqi oN nB;conv=>zeta
 refine must (zbu s) (must rfl ?_);rw[show zeA a d c=zb5 a d c from rfl];cases B:zb5 a d c;{rfl}
 .have P:=zzX B;have r:zf8 (ix a.Mons d zh):=l.2.1.2 _ (zbQ P.hm _);obtain⟨k,rfl,q⟩:=zeN (n:=a.Mons.length) P.hm;have u:inb c (ln (ix a.Mons (k:Int) zh).Dirty)=true:=(by rw[ln,P.hd];exact P.hp);have v:inb c (ln (ix a.Mons (k:Int) zh).Outer)=true:=(by rw[ln,P.ho];exact P.hp);have y:=(zcu r.2.2.2.2.2.1).1;refine zb4 rfl ?_;rw[P.hs];refine must P.hm (must v ?_);cases h:ieq (ix (ix a.Mons (k:Int) zh).Outer c zW).Page (-1)
  .have hpg2:ine (ix (ix a.Mons (k:Int) zh).Outer c zW).Page (-1)=true:=(by rw[zje];exact congrArg not h);refine must hpg2 (must v ?_);simp only[share];refine must (by simp only[ln,zgN];exact P.hm) ?_
   simp only[zdS,cT,zk];refine zrU (ix a.Mons (k:Int) zh).Guests.length (λi (t:List Mon)=>(c,(k:Int),ln (ix (up a.Mons (k:Int)<|grd (ix a.Mons (k:Int) zh) c) (k:Int) zh).Guests,(i:Int),(ix (ix a.Mons (k:Int) zh).Outer c zW).Page,(ix (ix a.Mons (k:Int) zh).Outer c zW).Rights,(ix (ix a.Mons (k:Int) zh).Outer c zW).Page,(ix (ix a.Mons (k:Int) zh).Outer c zW).Rights,t,a.Memory,a.Mons,a.Buffer,a.IoBuffer,a.Memory,a.Buffer,a.IoBuffer,[],[],[],[],())) _
    (λi t=>t=up a.Mons (k:Int) (zjZ (grd (ix a.Mons (k:Int) zh) c) c i)) (λ_ _=>some [AV.agg<|zbh<|zcD (zow a (k:Int) c) (k:Int) c ⟨(ix (ix a.Mons (k:Int) zh).Outer c zW).Page,1⟩,AV.one<|.b true]) (λi t rec f m C=>?_) (λt rec m=>?_) _ 0 (up a.Mons (k:Int)<|grd (ix a.Mons (k:Int) zh) c) rfl (jW _) ?_
   .subst m;have g:i<(ix a.Mons (k:Int) zh).Tables.length:=(by rw[P.ht];exact f);have e:i<(zml (ix a.Mons (k:Int) zh).Guests c i (ix a.Mons (k:Int) zh).Tables).length:=by rw[zpQ];exact g
    have A:zgI (ix (zml (ix a.Mons (k:Int) zh).Guests c i (ix a.Mons (k:Int) zh).Tables) (i:Int) zc7) (ix (ix a.Mons (k:Int) zh).Guests (i:Int) zu).Live c=true :=
     zbu ⟨by rw[zbb e];exact(ztu _ _ _ _ (by omega) r.2.2.2.2.2).2 _ (jA e),by rw[zbb f];exact(r.2.2.2.1.2 _<|jA f).2.2.1⟩
    simp only[zed q,zrv,zjZ,grd,zbn f,zU e,zU f,A,cT,share,zX g y];have j:=C _ rfl;simp only[zed q,zjZ,grd]at j;exact j
   {subst m;have w:zdL a.Buffer (ix (ix a.Mons (k:Int) zh).Outer c zW).Page=true:=zbu l.2.2.1;have x:zdL a.IoBuffer (ix (ix a.Mons (k:Int) zh).Outer c zW).Page=true:=zbu l.2.2.2;unfold zcD zow zN8;simp only[zed q,zrv,zjZ,grd,zbe,hpg2,w,x,u,P.ht,share,cT,cF]};{exact p (by rw[<- P.ht];omega)}
  {refine zb4 (by rw[zje];exact congrArg not h) (must u ?_);rfl}
theorem zSY:vV 46 zHm:=kF3 zzq zl zn zd6 zZU zY2
def z4a:zbd:=[(358,zHo),(46,zHm)]++z1l
theorem z4b:zQ z4a:=zf zS9 (zf zSY zzq)
def z4c:zbd:=z4a
theorem zgA:zQ z4c:=z4b
def zoB (o i t:Int):Int:=bif zey i t then 1 else (cond (zey o t) 2 0)
@[simp] abbrev zo1 (o i t:Int):Bool:=true
@[simp] abbrev zlI (o i t:Int):Int:=zoB o i t
def zpm:Run:=rF3 dI dI dI λb c d=>(zo1 b c d,[aI<|zlI b c d])
def zGC (N:Nat)(b c a:Int):OA:=
 (oN (zgV c a)<|cond (zga c a) (some [aI 1])<|oN (zgV b a)<|cond (zga b a) (some [aI 2])<|some [aI 0])
theorem zA1 (a b c:Int)(d:zbE big [aI a,aI b,aI c])(e:zo1 a b c=true):∃N,zGC N a b c=some [aI<|zlI a b c]:=by refine⟨0,?_⟩;unfold zGC oN;refine must rfl (br (λ_=>?_) λ_=>must rfl (br (λ_=>?_) λ_=>?_));all_goals first|rfl|(simp only [*,zlI,zoB,cT,cF]<;>rfl)|simp_all[Ty.cells,zlI,zoB]
theorem zL3:vV 388 zpm:=hF3 zgA zl zn zd6 (zq []) zA1
theorem zLC:vV 171 zpm:=hF3 zgA zl zn zd6 (zq []) zA1
theorem has3 (p:Int):hasB p 3=zi p 0 2:=by unfold hasB zi ige ile;by_cases a:0<=p<;>by_cases b:p<3;{rw [qK (p:=0<=p/\p<3) ⟨a,b⟩,qK (p:=p≥0) a,qK (p:=p<=2) (by omega)];rfl};{rw [qH (p:=0<=p/\p<3) (by omega),qH (p:=p<=2) (by omega)];simp};{rw [qH (p:=0<=p/\p<3) (by omega),qH (p:=p≥0) (by omega)];simp};{rw [qH (p:=0<=p/\p<3) (by omega),qH (p:=p≥0) (by omega)];simp}
theorem has2 (p:Int):hasB p 2=zi p 0 1:=by unfold hasB zi ige ile;by_cases a:0<=p<;>by_cases b:p<2;{rw [qK (p:=0<=p/\p<2) ⟨a,b⟩,qK (p:=p≥0) a,qK (p:=p<=1) (by omega)];rfl};{rw [qH (p:=0<=p/\p<2) (by omega),qH (p:=p<=1) (by omega)];simp};{rw [qH (p:=0<=p/\p<2) (by omega),qH (p:=p≥0) (by omega)];simp};{rw [qH (p:=0<=p/\p<2) (by omega),qH (p:=p≥0) (by omega)];simp}
def zfa (m g:Int):Int:=bif zi m 0 2 then (cond (zi g 0 1) (zN .i64 (zN .i64 1 g)<|zry .i64 m 2) 0) else 0
@[simp] abbrev zij (m g:Int):Bool:=true
@[simp] abbrev zlv (m g:Int):Int:=zfa m g
def zsI:Run:=rF2 dI dI λb c=>(zij b c,[aI<|zlv b c])
def zRJ (N:Nat)(a b:Int):OA:=
 (oN (zJ a 0 2)<|cond (nB<|zi a 0 2) (some [aI 0])<|oN (zJ b 0 1)<|cond (nB<|zi b 0 1) (some [aI 0])<|some [aI<|zN .i64 (zN .i64 1 b)<|zry .i64 a 2])
theorem zZi (a b:Int)(c:zij a b=true):∃N,zRJ N a b=some [aI<|zlv a b]:=by refine⟨0,?_⟩;unfold zRJ oN nB;refine must rfl (brN (λ_=>?_) λ_=>must rfl (brN (λ_=>?_) λ_=>?_));all_goals first|rfl|(simp only [*,zlv,zfa,cT,cF]<;>rfl)|simp_all[Ty.cells,zlv,zfa]
theorem zTg:vV 369 zsI:=kF2 zgA zl zn zd6 (zq []) zZi
def zRy (N:Nat)(a b:Int):OA:=
 (oN (zbj a 3)<|cond (nB<|zca a 3) (some [aI 0])<|oN (zbj b 2)<|cond (nB<|zca b 2) (some [aI 0])<|some [aI<|zN .i64 (zN .i64 1 b)<|zry .i64 a 2])
theorem zY9 (a b:Int)(c:zij a b=true):∃N,zRy N a b=some [aI<|zlv a b]:=by refine⟨0,?_⟩;unfold zRy oN nB;refine must rfl (brN (λ_=>?_) λ_=>must rfl (brN (λ_=>?_) λ_=>?_));all_goals first|rfl|(simp only [*,zlv,zfa,has3,has2,cT,cF]<;>rfl)|simp_all[Ty.cells,zlv,zfa,has3,has2]
theorem zS6:vV 123 zsI:=kF2 zgA zl zn zd6 (zq []) zY9
def zmq (k:Kept)(p:Int):Bool:=bif zeg k p then ix k.Known p false else false
def zeX (k:Kept)(p:Int):Slot:=bif zmq k p then ix k.Slots p zW else noSlot
@[simp] abbrev zka (k:Kept)(p:Int):Slot:=zeX k p
@[simp] abbrev zp2 (k:Kept)(p:Int):Bool:=zmq k p
def zSG:Run:=rF2 (dT .kept) dI λb c=>(zc1 b c,[aT .slot<|zka b c,aB<|zp2 b c])
def zZ6 (N:Nat)(a:Kept)(b:Int):OA:=
 let c:=ix a.Slots b zW; (oN (zc1 a b)<|cond (nB<|zkV a b) (oN zbN<|some [.agg [.i .i64 zbi.Page,.i .i64 zbi.Rights],aB false])<|oN (inb b<|ln a.Known)<|cond (nB<|ix a.Known b false) (oN zbN<|some [.agg [.i .i64 zbi.Page,.i .i64 zbi.Rights],aB false])<|oN (inb b<|ln a.Slots)<|some [.agg [.i .i64 c.Page,.i .i64 c.Rights],aB true])
theorem z4M (a:Kept)(b:Int)(f:zc1 a b=true):∃N,zZ6 N a b=some [aT .slot<|zka a b,aB<|zp2 a b]:=by
 have g:=zD.1 f;refine⟨0,?_⟩;unfold zZ6 zka zp2 zeX zmq oN nB;conv=>zeta
 refine must (zbu g) ?_;rw[show zkV a b=zeg a b from rfl];cases c:zeg a b;{rfl};{unfold zeg at c;obtain⟨d,e⟩:=zdB.1 c;simp only[zA d,zA e,cT];cases ix a.Known b false<;>rfl}
theorem zYZ:vV 391 zSG:=kF2 zgA zl zn zd6 (zq []) z4M
@[simp] abbrev zyn (k:Kept)(p:Int):Bool:=true
def zSD:Run:=rF2 (dT .kept) dI λb c=>(zyn b c,[aT .slot<|zka b c,aB<|zp2 b c])
def zZ2 (N:Nat)(a:Kept)(b:Int):OA:=
 let c:=ix a.Slots b zW; (oN (zbj b<|ln a.Known)<|cond (nB<|zca b<|ln a.Known) (oN zbN<|some [.agg [.i .i64 zbi.Page,.i .i64 zbi.Rights],aB false])<|oN (zbj b<|ln a.Slots)<|cond (nB<|zca b<|ln a.Slots) (oN zbN<|some [.agg [.i .i64 zbi.Page,.i .i64 zbi.Rights],aB false])<|oN (inb b<|ln a.Known)<|cond (nB<|ix a.Known b false) (oN zbN<|some [.agg [.i .i64 zbi.Page,.i .i64 zbi.Rights],aB false])<|oN (inb b<|ln a.Slots)<|some [.agg [.i .i64 c.Page,.i .i64 c.Rights],aB true])
theorem z4I (a:Kept)(b:Int)(e:zyn a b=true):∃N,zZ2 N a b=some [aT .slot<|zka a b,aB<|zp2 a b]:=by
 refine⟨0,?_⟩;unfold zZ2 zka zp2 zeX zmq zeg oN nB;conv=>zeta
 rw[show zca b (ln a.Known)=hasB b (ln a.Known) from rfl,show zca b (ln a.Slots)=hasB b (ln a.Slots) from rfl];cases c:hasB b (ln a.Known);{rfl};{cases d:hasB b (ln a.Slots);{rfl};{simp only [zbj,zA c,zA d,cT];cases ix a.Known b false<;>rfl}}
theorem zYV:vV 85 zSD:=kF2 zgA zl zn zd6 (zq []) z4I
def filled (k:Kept)(a b:List Slot)(p:Int):Kept:=bif zeg k p then (cond (hasB p<|ln a) ⟨up k.Known p true,up k.Slots p<|zbD (ix a p zW) b⟩ k) else k
@[simp] theorem z2R {k:Kept}{a b:List Slot}{p:Int}(h:SmK k):SmK (filled k a b p):=by unfold filled;cases zeg k p;{exact h};{cases hasB p (ln a);{exact h};{exact⟨by simpa using h.1,by simpa using h.2⟩}}
@[simp] abbrev zvR (k:Kept)(i o:List Slot)(p:Int):Bool:=pc (SmK k)
@[simp] abbrev zvQ (k:Kept)(i o:List Slot)(p:Int):Kept:=filled k i o p
def zuz:Run:=rF4 (dT .kept) (dS .slot) (dS .slot) dI λb c d e=>(zvR b c d e,[aT .kept<|zvQ b c d e])
def zU1 (N:Nat)(d:Kept)(c e:lS)(a:Int):OA:=
 let b:=zeI d; (oN (zh1 d)<|oN (zc1 b a)<|cond (zkV b a) (cond (ilt a<|ln c) (oN (inb a<|ln b.Known)<|share (up b.Known a true) λf=>oN (inb a<|ln c)<|oN (zeV (ix c a zW) e)<|oN (inb a<|ln b.Slots)<|share (up b.Slots a<|zff (ix c a zW) e) λg=>some [aT .kept (⟨f,g⟩:Kept)])<|some [aT .kept b])<|some [aT .kept b])
theorem z19 (b:Kept)(c d:List Slot)(a:Int)(j:zvR b c d a=true):∃N,zU1 N b c d a=some [aT .kept<|zvQ b c d a]:=by
 have g:=zD.1 j;refine⟨0,?_⟩;unfold zU1 zvQ filled oN;conv=>zeta
 refine must (zbu<|(zya _).2 g) (must (zbu g) ?_);rw[show zkV (zeI b) a=zeg b a from rfl];cases f:zeg b a;{rfl};{unfold zeg at f;obtain⟨e,h⟩:=zdB.1 f;rw[has_lt e (m:=ln c)];cases i:hasB a (ln c);{rfl};{simp only [cT,zeI,zA e,zA h,zA i,share,zeV];rfl}}
theorem zV1:vV 392 zuz:=kF4 zgA zl zn zd6 (zq []) z19
def zUZ (N:Nat)(c:Kept)(d e:lS)(a:Int):OA:=
 let b:=zdm c; (oN (zel c)<|oN (zbj a<|ln c.Known)<|cond (zca a<|ln c.Known) (oN (zbj a<|ln c.Slots)<|cond (zca a<|ln c.Slots) (oN (zbj a<|ln d)<|cond (zca a<|ln d) (oN (inb a<|ln b.Known)<|share (up b.Known a true) λf=>oN (inb a<|ln d)<|oN (zeV (ix d a zW) e)<|oN (inb a<|ln b.Slots)<|share (up b.Slots a<|zff (ix d a zW) e) λg=>some [aT .kept (⟨f,g⟩:Kept)])<|some [aT .kept b])<|some [aT .kept b])<|some [aT .kept b])
theorem z14 (b:Kept)(c d:List Slot)(a:Int)(h:zvR b c d a=true):∃N,zUZ N b c d a=some [aT .kept<|zvQ b c d a]:=by
 have i:=zD.1 h;refine⟨0,?_⟩;unfold zUZ zvQ filled zeg oN;conv=>zeta
 refine must (zbu i) ?_;simp only[zca,zbj,zdm,cT];cases e:hasB a (ln b.Known);{rfl};{cases f:hasB a (ln b.Slots);{rfl};{cases g:hasB a (ln c);{rfl};{simp only [cT,zA e,zA f,zA g,share,zeV];rfl}}}
theorem zVV:vV 273 zuz:=kF4 zgA zl zn zd6 (zq []) z14
theorem zIf {a b:Type}(p:a->Bool)(r:a->Option b)(K:Unit->Option b):∀(l:List a) (i:Nat),goL (λ_ x (_:Unit) k=>bif p x then r x else k ()) K l i ()=match l.find? p with|some x=>r x|none=>K ()
 |[],_=>rfl
 |x::l,i=>by simp only[goL];cases h:p x;{rw [List.find?_cons_of_neg (by simp[h])];exact zIf p r K l (i+1)};{rw [List.find?_cons_of_pos h];rfl}
def zzv (b:List Entry)(t p:Int):Option Entry:=b.find? λe=>bif ieq e.Tag t then ieq e.Page p else false
@[simp] abbrev zix (b:List Entry)(t p:Int):Bool:=true
@[simp] abbrev zhq (b:List Entry)(t p:Int):Entry:=(zzv b t p).getD ⟨0,0,0,0⟩
@[simp] abbrev zgw (b:List Entry)(t p:Int):Bool:=(zzv b t p).isSome
def zmQ:Run:=rF3 (dS .entry) dI dI λb c d=>(zix b c d,[aT .entry<|zhq b c d,aB<|zgw b c d])
def zAI (N:Nat)(f:lE)(g h:Int):OA:=
 (iter (σ:=(Int×Int×Int×Int×Int×Int×Int×lE×Unit)) N (λj a=>let c:=a.2.2.2.2.2.2.2.1;let d:=inb a.2.2.1<|ln c;let e:=j (a.1,a.2.1,zN .i64 a.2.2.1 1,a.2.2.2.1,a.2.2.2.2.1,a.2.2.2.2.2.1,a.2.2.2.2.2.2.1,c,());let b:=ix c a.2.2.1 zfy; (cond (ilt a.2.2.1<|ln c) (oN d<|cond (ieq b.Tag a.1) (oN d<|cond (ieq b.Page a.2.1) (oN d<|some [.agg [.i .i64 b.Tag,.i .i64 b.Page,.i .i64 b.Host,.i .i64 b.Rights],aB true]) e) e)<|some [.agg [.i .i64 0,.i .i64 0,.i .i64 0,.i .i64 0],aB false])) (g,h,0,0,0,0,0,f,()))
def zN0:=zq [(390,0,{n:=36,tm:=[(0,.sl 0 []),(1,ti),(2,ti),(6,.lp 0 0),(8,ti)],lo:=[(0,[ti,ti,ti,ti])],ro:=[(0,.entry,false)]})]
theorem zMV (a:List Entry)(c d:Int)(j:zbE big [aS .entry a,aI c,aI d])(l:zix a c d=true):∃N,zAI N a c d=some [aT .entry<|zhq a c d,aB<|zgw a c d]:=by
 have h:=len0 j;refine zbX λN g=>?_;unfold zAI oN;conv=>zeta
 refine(zY a (λi (t:Unit)=>(c,d,(i:Int),0,0,0,0,a,())) _ (λ_ (x:Entry) (_:Unit) k=>bif (cond (ieq x.Tag c) (ieq x.Page d) false) then (some [AV.agg<|Ty.cells .entry x,AV.one<|.b true]) else k ()) (λ(t:Unit)=>some [.agg [.i .i64 0,.i .i64 0,.i .i64 0,.i .i64 0],.one<|.b false]) (λi f t rec=>?_) (λt rec=>?_) _ ()<|g h).trans ?_;{simp only [zbn f,zU f,zbb f,zX f h,cT];cases ieq a[i].Tag c<;>cases ieq a[i].Page d<;>rfl};{simp only [zbe,cF]};rw[zIf λe:Entry=>bif ieq e.Tag c then ieq e.Page d else false];unfold zhq zgw zzv;cases a.find? (λe:Entry=>bif ieq e.Tag c then ieq e.Page d else false)<;>rfl
theorem zFh:vV 390 zmQ:=hF3 zgA zl zn zd6 zN0 zMV
def zAp (N:Nat)(d:lE)(f g:Int):OA:=
 (iter (σ:=(Int×Int×Int×Int×Int×Int×Int×Int×lE×Unit)) N (λh a=>let c:=a.2.2.2.2.2.2.2.2.1;let e:=h (a.1,a.2.1,a.2.2.1,zN .i64 a.2.2.2.1 1,a.2.2.2.2.1,a.2.2.2.2.2.1,a.2.2.2.2.2.2.1,a.2.2.2.2.2.2.2.1,c,());let b:=ix c a.2.2.2.1 zfy; (cond (ilt a.2.2.2.1 a.2.2.1) (oN (inb a.2.2.2.1<|ln c)<|cond (ieq b.Tag a.1) (cond (ieq b.Page a.2.1) (some [.agg [.i .i64 b.Tag,.i .i64 b.Page,.i .i64 b.Host,.i .i64 b.Rights],aB true]) e) e)<|some [.agg [.i .i64 0,.i .i64 0,.i .i64 0,.i .i64 0],aB false])) (f,g,ln d,0,0,0,0,0,d,()))
def zNQ:=zq [(272,0,{n:=29,tm:=[(1,ti),(2,ti),(6,.lp 0 0),(10,.sl 0 []),(11,ti),(12,ti)],lo:=[(0,[ti,ti,ti,ti])],ro:=[(0,.entry,false)]})]
theorem zMC (a:List Entry)(c d:Int)(j:zbE big [aS .entry a,aI c,aI d])(l:zix a c d=true):∃N,zAp N a c d=some [aT .entry<|zhq a c d,aB<|zgw a c d]:=by
 have h:=len0 j;refine zbX λN g=>?_;unfold zAp oN;conv=>zeta
 refine(zY a (λi (t:Unit)=>(c,d,ln a,(i:Int),0,0,0,0,a,())) _ (λ_ (x:Entry) (_:Unit) k=>bif (cond (ieq x.Tag c) (ieq x.Page d) false) then (some [AV.agg<|Ty.cells .entry x,AV.one<|.b true]) else k ()) (λ(t:Unit)=>some [.agg [.i .i64 0,.i .i64 0,.i .i64 0,.i .i64 0],.one<|.b false]) (λi f t rec=>?_) (λt rec=>?_) _ ()<|g h).trans ?_;{simp only [zbn f,zU f,zbb f,zX f h,cT];cases ieq a[i].Tag c<;>cases ieq a[i].Page d<;>rfl};{simp only [zbe,cF]};rw[zIf λe:Entry=>bif ieq e.Tag c then ieq e.Page d else false];unfold zhq zgw zzv;cases a.find? (λe:Entry=>bif ieq e.Tag c then ieq e.Page d else false)<;>rfl
theorem zEX:vV 272 zmQ:=hF3 zgA zl zn zd6 zNQ zMC
def ztk (t p:Int)(e:Entry):Bool:=bif ine e.Tag t then true else ine e.Page p
def zdk (b:List Entry)(t p:Int):List Entry:=b.filter (ztk t p)
theorem zzw (b:List Entry)(t p:Int):(zdk b t p).length<=b.length:=uM _ _
@[simp] abbrev zeh (b:List Entry)(t p:Int):Bool:=pc (b.length<=1048576)
@[simp] abbrev zfN (b:List Entry)(t p:Int):List Entry:=zdk b t p
def zmS:Run:=rF3 (dS .entry) dI dI λb c d=>(zeh b c d,[aS .entry<|zfN b c d])
def zAK (N:Nat)(h:lE)(i j:Int):OA:=
 (iter (σ:=(Int×Int×Int×lE×lE×Unit)) N (λf a=>let b:=a.2.2.2.1;let c:=inb a.2.2.1<|ln b;let d:=ix b a.2.2.1 zfy;let e:=ap a.2.2.2.2.1 [d];let g:=f (a.1,a.2.1,zN .i64 a.2.2.1 1,b,e,()); (cond (ilt a.2.2.1<|ln b) (oN c<|cond (ine d.Tag a.1) (oN c<|oN (few<|ln e) g)<|oN c<|cond (ine d.Page a.2.1) (oN c<|oN (few<|ln e) g)<|f (a.1,a.2.1,zN .i64 a.2.2.1 1,b,a.2.2.2.2.1,()))<|some [aS .entry a.2.2.2.2.1])) (i,j,0,h,[],()))
def zN2:=zq [(368,0,{n:=40,tm:=[(0,.sl 0 []),(1,ti),(2,ti),(7,.sl 1 []),(8,ti)],lo:=[],ro:=[(0,.entry,false),(1,.entry,true)]})]
theorem zMX (a:List Entry)(b c:Int)(h:zeh a b c=true):∃N,zAK N a b c=some [aS .entry<|zfN a b c]:=by
 have j:=zD.1 h;have f:=zcu j;refine zbX λN e=>?_;unfold zAK oN;conv=>zeta
 refine(zY a (λi (t:lE)=>(b,c,(i:Int),a,t,())) _ (λ_ (x:Entry) (t:List Entry) g=>bif ztk b c x then (cond (few<|ln<|ap t [x]) (g<|ap t [x]) none) else g t) (λ(t:lE)=>some [.one<|.s .entry t]) (λi d t rec=>?_) (λt rec=>?_) _ ([])<|e f.1).trans ?_;{simp only [zbn d,zU d,zbb d,zX d f.1,cT];unfold ztk;cases ine a[i].Tag b<;>cases ine a[i].Page c<;>rfl};{simp only [zbe,cF]};exact znR (ztk b c) _ a 0 [] (by simpa using f.2)
theorem zFj:vV 368 zmS:=kF3 zgA zl zn zd6 zN2 zMX
def zAr (N:Nat)(e:lE)(h i:Int):OA:=
 (iter (σ:=(Int×Int×Int×Int×lE×lE×Unit)) N (λf a=>let b:=a.2.2.2.2.2.1;let c:=ix b a.2.1 zfy;let d:=ap a.2.2.2.2.1 [c];let g:=f (a.1,zN .i64 a.2.1 1,a.2.2.1,a.2.2.2.1,d,b,()); (cond (ilt a.2.1 a.1) (oN (inb a.2.1<|ln b)<|cond (ieq c.Tag a.2.2.1) (cond (nB<|ieq c.Page a.2.2.2.1) (oN (few<|ln d) g)<|f (a.1,zN .i64 a.2.1 1,a.2.2.1,a.2.2.2.1,a.2.2.2.2.1,b,()))<|oN (few<|ln d) g)<|some [aS .entry a.2.2.2.2.1])) (ln e,0,h,i,[],e,()))
def zNS:=zq [(237,0,{n:=25,tm:=[(1,.fn 238 [0,1]),(5,.sl 0 []),(9,.sl 1 []),(10,ti),(11,ti)],lo:=[(0,[ti]),(1,[ti])],ro:=[(0,.entry,true),(1,.entry,false)]})]
theorem zME (a:List Entry)(b c:Int)(h:zeh a b c=true):∃N,zAr N a b c=some [aS .entry<|zfN a b c]:=by
 have j:=zD.1 h;have f:=zcu j;refine zbX λN e=>?_;unfold zAr oN nB;conv=>zeta
 refine(zY a (λi (t:lE)=>(ln a,(i:Int),b,c,t,a,())) _ (λ_ (x:Entry) (t:List Entry) g=>bif ztk b c x then (cond (few<|ln<|ap t [x]) (g<|ap t [x]) none) else g t) (λ(t:lE)=>some [.one<|.s .entry t]) (λi d t rec=>?_) (λt rec=>?_) _ ([])<|e f.1).trans ?_;{simp only [zbn d,zU d,zbb d,zX d f.1,cT];unfold ztk;simp only[zje];cases ieq a[i].Tag b<;>cases ieq a[i].Page c<;>rfl};{simp only [zbe,cF]};exact znR (ztk b c) _ a 0 [] (by simpa using f.2)
theorem zEZ:vV 122 zmS:=kF3 zgA zl zn zd6 zNS zME
def z9t:zbd:=[(388,zpm),(171,zpm),(369,zsI),(123,zsI),(391,zSG),(85,zSD),(392,zuz),(273,zuz),(390,zmQ),(272,zmQ),(368,zmS),(122,zmS)]++z4c
theorem zvb:zQ z9t:=zf zL3 (zf zLC<|zf zTg<|zf zS6<|zf zYZ<|zf zYV<|zf zV1<|zf zVV<|zf zFh<|zf zEX<|zf zFj<|zf zEZ zgA)
def ztP (b:List Entry)(e:Entry):List Entry:=bif igt (ln<|ap (zdk b e.Tag e.Page) [e]) 6 then dp (ap (zdk b e.Tag e.Page) [e]) (wsub .i64 (ln<|ap (zdk b e.Tag e.Page) [e]) 6) else ap (zdk b e.Tag e.Page) [e]
theorem zz3 {b:List Entry}(e:Entry)(h:b.length<=1048576):(ztP b e).length<=1048576/\(ap (zdk b e.Tag e.Page) [e]).length<=1048577:=by have d:=zzw b e.Tag e.Page;have c:(ap (zdk b e.Tag e.Page) [e]).length<=1048577:=(by simp[ap];omega);refine⟨?_,c⟩;unfold ztP;cases a:igt (ln<|ap (zdk b e.Tag e.Page) [e]) 6;{have a:=qY a;simp only[ln]at a;simp only[cF];omega};{simp only [cT,dp,List.length_drop];have a:=qD a;have:wsub .i64 (ln<|ap (zdk b e.Tag e.Page) [e]) 6=ln (ap (zdk b e.Tag e.Page) [e])-6:=zuX (by simp only[ln] at *;omega) (by simp only[ln] at *;omega);rw[this];simp only[ln] at *;omega}
@[simp] abbrev zjJ (b:List Entry)(e:Entry):Bool:=pc (b.length<=1048576)
@[simp] abbrev ziM (b:List Entry)(e:Entry):List Entry:=ztP b e
def zoi:Run:=rF2 (dS .entry) (dT .entry) λb c=>(zjJ b c,[aS .entry<|ziM b c])
def zCv (N:Nat)(d:lE)(b:Entry):OA:=
 let a:=ap (zfN d b.Tag b.Page) [b];let c:=wsub .i64 (ln a) 6; (oN (zeh d b.Tag b.Page)<|oN (few<|ln a)<|cond (igt (ln a) 6) (oN (inr c (ln a)<|ln a)<|oN (few<|ln<|ap []<|dp a c)<|some [aS .entry<|ap []<|dp a c])<|some [aS .entry a])
theorem zQq (b:List Entry)(a:Entry)(h:zjJ b a=true):∃N,zCv N b a=some [aS .entry<|ziM b a]:=by
 have f:=zD.1 h;obtain⟨c,g⟩:=zz3 a f;refine⟨0,?_⟩;unfold zCv oN;conv=>zeta
 refine must (zbu f) (must (zfE<|jB g (by decide:1048577<=2147483648)) ?_);unfold ziM ztP at *;show _=some [AV.one<|.s .entry<|cond (igt (ln<|ap (zdk b a.Tag a.Page) [a]) 6) (dp (ap (zdk b a.Tag a.Page) [a])<|wsub .i64 (ln<|ap (zdk b a.Tag a.Page) [a]) 6)<|ap (zdk b a.Tag a.Page) [a]];cases d:igt (ln<|ap (zdk b a.Tag a.Page) [a]) 6;{rfl};{rw [d]at c;simp only[cT]at c;have d:=qD d;have e:wsub .i64 (ln<|ap (zdk b a.Tag a.Page) [a]) 6=ln (ap (zdk b a.Tag a.Page) [a])-6:=zuX (by simp only[ln] at *;omega) (by simp only[ln] at *;omega);refine must rfl (must (qK ?_)<|must ?_ ?_);{show 0<=wsub .i64 (ln<|ap (zdk b a.Tag a.Page) [a]) 6/\wsub .i64 (ln<|ap (zdk b a.Tag a.Page) [a]) 6<=ln (ap (zdk b a.Tag a.Page) [a])/\ln (ap (zdk b a.Tag a.Page) [a])<=ln (ap (zdk b a.Tag a.Page) [a]);rw[e];simp only[ln] at *;omega};{exact zpU c};{rw [zoJ];rfl}}
theorem zI1:vV 393 zoi:=kF2 zvb zl zn zd6 (zq []) zQq
def zBW (N:Nat)(c:lE)(a:Entry):OA:=
 let b:=ap (zfN c a.Tag a.Page) [a];let d:=imax 0<|wsub .i64 (ln b) 6; (oN (zeh c a.Tag a.Page)<|oN (few<|ln b)<|oN (inr d (ln b)<|ln b)<|some [aS .entry<|dp b d])
theorem zPV (b:List Entry)(a:Entry)(h:zjJ b a=true):∃N,zBW N b a=some [aS .entry<|ziM b a]:=by
 have g:=zD.1 h;obtain⟨_,f⟩:=zz3 a g;refine⟨0,?_⟩;unfold zBW ziM ztP oN;conv=>zeta
 simp only[zfN];generalize ap (zdk b a.Tag a.Page) [a]=l at f ⊢;refine must (zbu g) (must (zfE<|jB f (by decide:1048577<=2147483648)) ?_);have e:wsub .i64 (ln l) 6=ln l-6:=zuX (by simp only[ln] at *;omega) (by simp only[ln] at *;omega);rw[e];cases c:igt (ln l) 6;{have c:=qY c;have d:imax 0 (ln l-6)=0:=(by unfold imax;rw[if_neg (by omega)]);rw[d];exact must (qK (by simp only[ln];omega)) (by simp[dp])};{have c:=qD c;have d:imax 0 (ln l-6)=ln l-6:=(by unfold imax;rw[if_pos (by omega)]);rw[d];exact must (qK (by simp only[ln] at *;omega)) rfl}
theorem zIu:vV 274 zoi:=kF2 zvb zl zn zd6 (zq []) zPV
def zqh (l:List Slot)(p:Int):Option Nat:=l.findIdx? λs=>ieq s.Page p
def zkr (p:Int):List Mon->Nat->Int×Int
 |[],_=>(-1,-1)
 |m::l,i=>match zqh m.Outer p with|some k=>((i:Int),(k:Int))|none=>zkr p l (i+1)
def zbV (h:Host)(p:Int):Int×Int:=bif ilt p 0 then (-1,-1) else zkr p h.Mons 0
theorem zSd {a:Type}(p:Slot->Bool)(r:Nat->Option a)(K:Unit->Option a):∀(l:List Slot) (i:Nat),goL (λj x (_:Unit) k=>bif p x then r j else k ()) K l i ()=match l.findIdx? p with|some k=>r (i+k)|none=>K ()
 |[],_=>rfl
 |x::l,i=>by simp only[goL];rw[List.findIdx?_cons];cases h:p x;{simp only [cF,kG,if_false];rw[zSd p r K l<|i+1];cases l.findIdx? p with|none=>rfl|some k=>simp only[Option.map_some];congr 1;omega};{rfl}
theorem zOs {c:Type}(p:Int)(r:Int->Int->Option c):∀(l:List Mon) (i:Nat),goL (λi (x:Mon) (_:Unit) b=>goL (λj (y:Slot) (_:Unit) a=>bif ieq y.Page p then r (i:Int) (j:Int) else a ()) (λ_=>b ()) x.Outer 0 ()) (λ_=>r (-1) (-1)) l i ()=r (zkr p l i).1 (zkr p l i).2
 |[],_=>rfl
 |m::l,i=>by simp only[goL,zkr];rw[zSd (λs=>ieq s.Page p) λj=>r (i:Int) (j:Int)];unfold zqh;cases m.Outer.findIdx? (λs=>ieq s.Page p) with|none=>exact zOs p r l (i+1)|some k=>simp only[j8]
@[simp] abbrev zg5 (h:Host)(p:Int):Bool:=true
@[simp] abbrev zek (h:Host)(p:Int):Int:=(zbV h p).1
@[simp] abbrev zfw (h:Host)(p:Int):Int:=(zbV h p).2
def zk4:Run:=rF2 dH dI λb c=>(zg5 b c,[aI<|zek b c,aI<|zfw b c])
def zv4 (N:Nat)(f:Host)(g:Int):OA:=
 (cond (ilt g 0) (some [aI<|-1,aI<|-1])<|iter (σ:=(Int×Int×Int×lN×Unit)) N (λi b=>let c:=b.2.2.1; (cond (ilt c b.2.1) (oN (inb c<|ln b.2.2.2.1)<|iter (σ:=(Int×Int×Int×Int×Int×Int×Int×lN×Unit)) N (λj a=>let e:=a.2.2.2.2.2.2.2.1;let h:=(ix e a.2.2.2.2.1 zh).Outer;let d:=a.2.2.2.2.2.2.1; (cond (ilt d a.2.2.2.2.2.1) (oN (inb d<|ln h)<|cond (ieq (ix h d zW).Page a.1) (some [aI a.2.1,aI d])<|j (a.1,a.2.1,a.2.2.1,a.2.2.2.1,a.2.2.2.2.1,a.2.2.2.2.2.1,zN .i64 d 1,e,()))<|i (a.1,a.2.2.1,zN .i64 a.2.2.2.1 1,e,()))) (b.1,c,b.2.1,c,c,ln (ix b.2.2.2.1 c zh).Outer,0,b.2.2.2.1,()))<|some [aI<|-1,aI<|-1])) (g,ln f.Mons,0,f.Mons,()))
def zFS:=zq [(307,0,{n:=36,tm:=[(1,ti),(13,.sl 0 []),(14,ti),(15,ti)],lo:=[],ro:=[(0,.mon,false)]}),(307,2,{n:=36,tm:=[(1,ti),(6,ti),(13,.sl 0 []),(14,ti),(15,ti),(21,.sl 0 [0]),(22,ti),(23,ti)],lo:=[],ro:=[(0,.mon,false)]})]
theorem zFy (a:Host)(c:Int)(m:zbE big [aH a,aI c])(q:zg5 a c=true):∃N,zv4 N a c=some [aI<|zek a c,aI<|zfw a c]:=by
 have k:CVB big (.s .mon a.Mons):=(zcV m).1 _ (by simp[AV.cvs,zbh]);have h:=k.len;refine zbX λN e=>?_;unfold zv4 zek zfw zbV oN;conv=>zeta
 cases p:ilt c 0;{simp only [cF];refine(zY a.Mons (λi (t:Unit)=>(c,ln a.Mons,(i:Int),a.Mons,())) _ (λi (x:Mon) (_:Unit) n=>goL (λj (y:Slot) (_:Unit) b=>bif ieq y.Page c then some [AV.one<|.i .i64 (i:Int),AV.one<|.i .i64 (j:Int)] else b ()) (λ_=>n ()) x.Outer 0 ()) (λ(t:Unit)=>some [.one<|.i .i64<|-1,.one<|.i .i64<|-1]) (λi d t rec=>?_) (λt rec=>?_) _ ()<|e h).trans ?_;{simp only [zbn d,zU d,zbb d,zX d h,cT];have l:a.Mons[i].Outer.length<=big:=(k.inv.2 _ (jA d) (.s .slot _) (by simp[Ty.cells])).len;refine(zY a.Mons[i].Outer (λj (u:Unit)=>(c,(i:Int),ln a.Mons,(i:Int),(i:Int),ln a.Mons[i].Outer,(j:Int),a.Mons,())) _ (λj (y:Slot) (_:Unit) b=>bif ieq y.Page c then some [AV.one<|.i .i64 (i:Int),AV.one<|.i .i64 (j:Int)] else b ()) (λ(u:Unit)=>rec (c,ln a.Mons,((i+1:Nat):Int),a.Mons,())) (λj g u f=>?_) (λu f=>?_) _ ()<|e l).trans ?_;{simp only [zbn g,zU g,zbb g,zX g l,cT,zU d,zbb d,zX d h]};{simp only [zbe,cF,zU d,zbb d,zX d h]};rfl};{simp only [zbe,cF]};exact zOs c (λi j=>some [AV.one<|.i .i64 i,AV.one<|.i .i64 j]) a.Mons 0};{rfl}
theorem zBx:vV 307 zk4:=hF2 zvb zl zn zd6 zFS zFy
theorem z4x {a c b:Type}(r:Option b):∀(l:List a) (i:Nat) (t:c),goL (λ_ _ _ _=>r) (λ_=>r) l i t=r
 |[],_,_=>rfl
 |_::_,_,_=>rfl
def zwh (N:Nat)(d:Host)(f:Int):OA:=
 (iter (σ:=(Int×Int×lM×lN×lE×lE×Unit)) N (λg b=>cond (ilt b.2.1<|ln b.2.2.2.1) (cond (ige b.1 0) (iter (σ:=(Int×Int×Int×lM×lN×lE×lE×Unit)) N (λh a=>let c:=a.2.2.2.2.1;let e:=(ix c a.2.1 zh).Outer; (oN (inb a.2.1<|ln c)<|cond (ilt a.2.2.1<|ln e) (oN (inb a.2.1<|ln c)<|oN (inb a.2.2.1<|ln e)<|cond (ieq (ix e a.2.2.1 zW).Page a.1) (some [aI a.2.1,aI a.2.2.1])<|h (a.1,a.2.1,zN .i64 a.2.2.1 1,a.2.2.2.1,c,a.2.2.2.2.2.1,a.2.2.2.2.2.2.1,()))<|g (a.1,zN .i64 a.2.1 1,a.2.2.2.1,c,a.2.2.2.2.2.1,a.2.2.2.2.2.2.1,()))) (b.1,b.2.1,0,b.2.2.1,b.2.2.2.1,b.2.2.2.2.1,b.2.2.2.2.2.1,()))<|some [aI<|-1,aI<|-1])<|some [aI<|-1,aI<|-1]) (f,0,d.Memory,d.Mons,d.Buffer,d.IoBuffer,()))
def zFU:=zq [(396,0,{n:=44,tm:=[(1,ti),(2,.lp 0 0),(6,ti)],lo:=[(0,[.sl 0 [],.sl 1 [],.sl 2 [],.sl 3 []])],ro:=[(0,.sl .int,false),(1,.mon,false),(2,.entry,false),(3,.entry,false)]}),(396,2,{n:=44,tm:=[(1,ti),(2,.lp 0 0),(6,ti),(7,ti)],lo:=[(0,[.sl 0 [],.sl 1 [],.sl 2 [],.sl 3 []])],ro:=[(0,.sl .int,false),(1,.mon,false),(2,.entry,false),(3,.entry,false)]})]
theorem zFJ (a:Host)(b:Int)(p:zbE big [aH a,aI b])(r:zg5 a b=true):∃N,zwh N a b=some [aI<|zek a b,aI<|zfw a b]:=by
 have m:CVB big (.s .mon a.Mons):=(zcV p).1 _ (by simp[AV.cvs,zbh]);have l:=m.len;refine zbX λN e=>?_;unfold zwh zek zfw zbV oN;conv=>zeta
 refine(zY a.Mons (λi (t:Unit)=>(b,(i:Int),a.Memory,a.Mons,a.Buffer,a.IoBuffer,())) _ (λi (x:Mon) (_:Unit) q=>bif ige b 0 then goL (λj (y:Slot) (_:Unit) c=>bif ieq y.Page b then some [AV.one<|.i .i64 (i:Int),AV.one<|.i .i64 (j:Int)] else c ()) (λ_=>q ()) x.Outer 0 () else some [AV.one<|.i .i64<|-1,AV.one<|.i .i64<|-1]) (λ(t:Unit)=>some [.one<|.i .i64<|-1,.one<|.i .i64<|-1]) (λi d t rec=>?_) (λt rec=>?_) _ ()<|e l).trans ?_;{simp only [zbn d,zU d,zbb d,zX d l,cT];cases h:ige b 0;{rfl};have n:a.Mons[i].Outer.length<=big:=(m.inv.2 _ (jA d) (.s .slot _) (by simp[Ty.cells])).len;simp only[cT];refine(zY a.Mons[i].Outer (λj (_:Unit)=>(b,(i:Int),(j:Int),a.Memory,a.Mons,a.Buffer,a.IoBuffer,())) _ (λj (y:Slot) (_:Unit) c=>bif ieq y.Page b then some [AV.one<|.i .i64 (i:Int),AV.one<|.i .i64 (j:Int)] else c ()) (λ_=>rec (b,((i+1:Nat):Int),a.Memory,a.Mons,a.Buffer,a.IoBuffer,())) (λj g u f=>?_) (λu f=>?_) _ ()<|e n).trans ?_;{simp only [zbn g,zU g,zbb g,zX g n,cT,zU d,zbb d]};{simp only [zbe,cF,cT,zU d,zbb d,zX d l]};rfl};{simp only [zbe,cF]};cases h:ige b 0;{have k:ilt b 0=true:=(by have:=qY h;exact qK (by omega));rw[k];exact z4x _ _ _ _};{have k:ilt b 0=false:=(by have:=qD h;exact qH (by omega));rw[k];exact zOs b (λi j=>some [AV.one<|.i .i64 i,AV.one<|.i .i64 j]) a.Mons 0}
theorem zBH:vV 396 zk4:=hF2 zvb zl zn zd6 zFU zFJ
def z9u:zbd:=[(393,zoi),(274,zoi),(396,zk4),(307,zk4)]++z9t
theorem zvc:zQ z9u:=zf zI1 (zf zIu<|zf zBH<|zf zBx zvb)
def zcN (h:Host):List Int:=zxy (λi=>ilt (zbV h (i:Int)).1 0) h.Memory.length 0
@[simp] abbrev zhb (h:Host):Bool:=pc (h.Memory.length<=1048576)
@[simp] abbrev zdx (h:Host):List Int:=zcN h
def zqQ:Run:=rF1 dH λb=>(zhb b,[aS .int<|zdx b])
def zKu (N:Nat)(b:Host):OA:=
 (iter (σ:=(Int×(List Int)×lM×lN×lE×lE×Unit)) N (λc a=>let d:=(⟨a.2.2.1,a.2.2.2.1,a.2.2.2.2.1,a.2.2.2.2.2.1⟩:Host); (cond (ilt a.1<|ln a.2.2.1) (oN (zg5 d a.1)<|cond (ilt (zek d a.1) 0) (oN (few<|ln<|ap a.2.1 [a.1])<|c (zN .i64 a.1 1,ap a.2.1 [a.1],a.2.2.1,a.2.2.2.1,a.2.2.2.2.1,a.2.2.2.2.2.1,()))<|c (zN .i64 a.1 1,a.2.1,a.2.2.1,a.2.2.2.1,a.2.2.2.2.1,a.2.2.2.2.2.1,()))<|some [aS .int a.2.1])) (0,[],b.Memory,b.Mons,b.Buffer,b.IoBuffer,()))
def zYg:=zq [(395,0,{n:=28,tm:=[(1,.lp 0 0),(3,.sl 0 []),(4,ti)],lo:=[(0,[.sl 1 [],.sl 2 [],.sl 3 [],.sl 4 []])],ro:=[(0,.int,true),(1,.sl .int,false),(2,.mon,false),(3,.entry,false),(4,.entry,false)]})]
theorem zWD (a:Host)(f:zhb a=true):∃N,zKu N a=some [aS .int<|zdx a]:=by
 have g:=zD.1 f;have e:=zcu g;refine zbX λN d=>?_;unfold zKu oN;conv=>zeta
 refine(zY a.Memory (λi (t:(List Int))=>((i:Int),t,a.Memory,a.Mons,a.Buffer,a.IoBuffer,())) _ (λi (_:List Int) (t:List Int) b=>bif ilt (zbV a (i:Int)).1 0 then (cond (few<|ln<|ap t [(i:Int)]) (b<|ap t [(i:Int)]) none) else b t) (λ(t:(List Int))=>some [.one<|.s .int t]) (λi c t rec=>?_) (λt rec=>?_) _ ([])<|d e.1).trans ?_;{simp only [zbn c,zU c,zbb c,zX c e.1,cT]};{simp only [zbe,cF]};rw[zuM λi (t:List Int) b=>bif ilt (zbV a (i:Int)).1 0 then (cond (few<|ln<|ap t [(i:Int)]) (b<|ap t [(i:Int)]) none) else b t];exact zzE (λi=>ilt (zbV a (i:Int)).1 0) _ _ 0 [] (by simpa using e.2)
theorem zPb:vV 395 zqQ:=kF1 zvc zl zn zd6 zYg zWD
def zJ5 (N:Nat)(b:Host):OA:=
 (iter (σ:=(Int×Int×(List Int)×lM×lN×lE×lE×Unit)) N (λd a=>let c:=a.2.2.2.2.2.2.1;let e:=(⟨a.2.2.2.1,a.2.2.2.2.1,a.2.2.2.2.2.1,c⟩:Host); (cond (ilt a.2.1 a.1) (oN (zg5 e a.2.1)<|cond (ilt (zek e a.2.1) 0) (oN (few<|ln<|ap a.2.2.1 [a.2.1])<|d (a.1,zN .i64 a.2.1 1,ap a.2.2.1 [a.2.1],a.2.2.2.1,a.2.2.2.2.1,a.2.2.2.2.2.1,c,()))<|d (a.1,zN .i64 a.2.1 1,a.2.2.1,a.2.2.2.1,a.2.2.2.2.1,a.2.2.2.2.2.1,c,()))<|some [aS .int a.2.2.1])) (ln b.Memory,0,[],b.Memory,b.Mons,b.Buffer,b.IoBuffer,()))
def zX5:=zq [(249,0,{n:=28,tm:=[(1,.lp 0 0),(3,.sl 0 []),(10,ti),(11,ti)],lo:=[(0,[.sl 1 [],.sl 2 [],.sl 3 [],.sl 4 []])],ro:=[(0,.int,true),(1,.sl .int,false),(2,.mon,false),(3,.entry,false),(4,.entry,false)]})]
theorem zWf (a:Host)(f:zhb a=true):∃N,zJ5 N a=some [aS .int<|zdx a]:=by
 have g:=zD.1 f;have e:=zcu g;refine zbX λN d=>?_;unfold zJ5 oN;conv=>zeta
 refine(zY a.Memory (λi (t:(List Int))=>(ln a.Memory,(i:Int),t,a.Memory,a.Mons,a.Buffer,a.IoBuffer,())) _ (λi (_:List Int) (t:List Int) b=>bif ilt (zbV a (i:Int)).1 0 then (cond (few<|ln<|ap t [(i:Int)]) (b<|ap t [(i:Int)]) none) else b t) (λ(t:(List Int))=>some [.one<|.s .int t]) (λi c t rec=>?_) (λt rec=>?_) _ ([])<|d e.1).trans ?_;{simp only [zbn c,zU c,zbb c,zX c e.1,cT]};{simp only [zbe,cF]};rw[zuM λi (t:List Int) b=>bif ilt (zbV a (i:Int)).1 0 then (cond (few<|ln<|ap t [(i:Int)]) (b<|ap t [(i:Int)]) none) else b t];exact zzE (λi=>ilt (zbV a (i:Int)).1 0) _ _ 0 [] (by simpa using e.2)
theorem zOG:vV 249 zqQ:=kF1 zvc zl zn zd6 zX5 zWf
def zk0 (m:List (List Int))(p:Int)(c:List Int):List (List Int):=bif hasB p (ln m) then (cond (zcT c) (up m p c) m) else m
@[simp] abbrev zhd (m:List (List Int))(p:Int)(c:List Int):Bool:=pc (SmM m/\c.length<=1048576)
@[simp] abbrev zfZ (m:List (List Int))(p:Int)(c:List Int):List (List Int):=zk0 m p c
def zon:Run:=rF3 (dS<|.sl .int) dI (dS .int) λb c d=>(zhd b c d,[aS (.sl .int)<|zfZ b c d])
def zCz (N:Nat)(a:lM)(b:Int)(c:List Int):OA:=
 (oN (zh0 a)<|oN (zJ b 0<|wsub .i64 (ln a) 1)<|cond (zi b 0<|wsub .i64 (ln a) 1) (oN (zeo c)<|cond (zdM c) (oN (few<|ln<|ap [] c)<|oN (inb b<|ln<|zgb a)<|share (up (zgb a) b<|ap [] c) λd=>some [aS (.sl .int) d])<|some [aS (.sl .int)<|zgb a])<|some [aS (.sl .int)<|zgb a])
theorem zQv (b:List (List Int))(a:Int)(c:List Int)(g:zhd b a c=true):∃N,zCz N b a c=some [aS (.sl .int)<|zfZ b a c]:=by obtain⟨e,d⟩:=zD.1 g;refine⟨0,?_⟩;unfold zCz zfZ zk0 oN;refine must (zbu<|(zrN _).2 e) (must rfl ?_);rw[show zi a 0 (wsub .i64 (ln b) 1)=hasB a (ln b) from zsg e.1 a];cases f:hasB a (ln b);{rfl};{simp only [cT,zeo,zdM];cases h:zcT c;{rfl};{refine must rfl (must (zpU d)<|must (zA f) ?_);rw[zoJ];rfl}}
theorem zI7:vV 397 zon:=kF3 zvc zl zn zd6 (zq []) zQv
def zB3 (N:Nat)(a:lM)(b:Int)(c:List Int):OA:=
 (oN (zhP a)<|oN (zbj b<|ln a)<|cond (zca b<|ln a) (oN (zeo c)<|cond (zdM c) (oN (zeO c)<|oN (inb b<|ln<|zeF a)<|share (up (zeF a) b<|zeJ c) λd=>some [aS (.sl .int) d])<|some [aS (.sl .int)<|zeF a])<|some [aS (.sl .int)<|zeF a])
theorem zP2 (a:List (List Int))(b:Int)(c:List Int)(f:zhd a b c=true):∃N,zB3 N a b c=some [aS (.sl .int)<|zfZ a b c]:=by obtain⟨g,d⟩:=zD.1 f;refine⟨0,?_⟩;unfold zB3 zfZ zk0 oN;refine must (zbu g) (must rfl ?_);rw[show zca b (ln a)=hasB b (ln a) from rfl];cases e:hasB b (ln a);{rfl};{simp only [cT,zeo,zdM];cases h:zcT c;{rfl};{refine must rfl (must (zbu<|jB d (by decide)) (must (zA e) rfl))}}
theorem zID:vV 251 zon:=kF3 zvc zl zn zd6 (zq []) zP2
def zsr:zbd:=[(395,zqQ),(249,zqQ),(397,zon),(251,zon)]++z9u
theorem zjm:zQ zsr:=zf zPb (zf zOG<|zf zI7<|zf zID zvc)
abbrev mZ:Mon:=Ty.dflt .mon
abbrev sZ:Slot:=Ty.dflt .slot
def ShM (x:Mon):Prop:=x.Outer.length=8/\x.Out.length=8/\x.Dirty.length=8/\x.Tables.length=x.Guests.length
def Shape (h:Host):Prop:=SmH h/\∀x∈h.Mons,ShM x
theorem zkX {h:Host}{m:Int}{x:Mon}(a:Shape h)(c:zf8 x)(d:ShM x):Shape {h with Mons:=up h.Mons m x}:=by refine⟨⟨a.1.1,zkA a.1.2.1 c,a.1.2.2⟩,λy b=>?_⟩;rcases jD b with b|rfl;{exact a.2 y b};{exact d}
theorem zcW {h:Host}(b:Shape h){m:Int}(a:hasB m (ln h.Mons)=true):zf8 (ix h.Mons m mZ)/\ShM (ix h.Mons m mZ):=⟨b.1.2.1.2 _<|zbQ a _,b.2 _<|zbQ a _⟩
theorem zSK {h:Host}{b:List (List Int)}(a:Shape h)(c:SmM b):Shape {h with Memory:=b}:=⟨⟨c,a.1.2⟩,a.2⟩
theorem zt0 {h:Host}{m p:Int}{s:Slot}(e:hasB m (ln h.Mons)=true)(b:Shape h):Shape (zcD h m p s):=by refine⟨zHC e b.1,?_⟩;obtain⟨_,a⟩:=zcW b e;have d:∀y∈up h.Mons m {zjZ (ix h.Mons m mZ) p (ix h.Mons m mZ).Tables.length with Outer:=up (ix h.Mons m mZ).Outer p s},ShM y:=(by intro y c;rcases jD c with c|rfl;{exact b.2 y c};{exact⟨by simpa using a.1,a.2.1,a.2.2.1,by simpa [zjZ,zpQ] using a.2.2.2⟩});unfold zcD;cases ine (ix (ix h.Mons m mZ).Outer p sZ).Page (-1)<;>exact d
theorem zib (h:Host)(m p:Int)(s:Slot):(zcD h m p s).Mons=up h.Mons m {zjZ (ix h.Mons m mZ) p (ix h.Mons m mZ).Tables.length with Outer:=up (ix h.Mons m mZ).Outer p s}/\(zcD h m p s).Memory=h.Memory:=by unfold zcD;cases ine (ix (ix h.Mons m mZ).Outer p sZ).Page (-1)<;>exact⟨rfl,rfl⟩
theorem zf2 {h:Host}{m k:Int}{x:Mon}(a:hasB m (ln h.Mons)=true):hasB m (ln<|up h.Mons k x)=true:=by simpa [ln] using a
theorem zG4 {h:Host}{m k p:Int}{s:Slot}(a:hasB m (ln h.Mons)=true):hasB m (ln (zcD h k p s).Mons)=true:=by rw[(zib h k p s).1];exact zf2 a
theorem zez {b:Type}{l:List b}{p:Int}(h:l.length=8)(a:hasB p 8=true):hasB p (ln l)=true:=by rw[ln,h];exact a
def zzO (h:Host)(m p:Int)(s:Slot):Host :=
 bif ine s.Page (-1) then ⟨h.Memory,up h.Mons m<|zjZ (ix h.Mons m mZ) p (ix h.Mons m mZ).Guests.length,flushed h.Buffer s.Page,flushed h.IoBuffer s.Page⟩
 else ⟨h.Memory,up h.Mons m<|zjZ (ix h.Mons m mZ) p (ix h.Mons m mZ).Guests.length,h.Buffer,h.IoBuffer⟩
theorem zAa {h:Host}{k:Nat}{p:Int}{s:Slot}(a:k<h.Mons.length)(b:(ix h.Mons (k:Int) mZ).Tables.length=(ix h.Mons (k:Int) mZ).Guests.length) :
 zzO {h with Mons:=up h.Mons (k:Int) {ix h.Mons (k:Int) mZ with Outer:=up (ix h.Mons (k:Int) mZ).Outer p s}} (k:Int) p (ix (ix h.Mons (k:Int) mZ).Outer p sZ)=zcD h (k:Int) p s:=by
 unfold zcD zzO;simp only[zed a,zrv,zjZ,b]
def z1U {a:Type}(m p:Int)(i:Nat)(t:List Mon)(b:List Mon->Option a):Option a :=
 (cond (inb (i:Int)<|ln (ix t m mZ).Tables) (cond (inb (i:Int)<|ln (ix t m mZ).Guests) (cond (pc<|SmK (ix (ix t m mZ).Tables (i:Int) zc7)/\(ix (ix t m mZ).Guests (i:Int) zu).Live.length<=1048576) (cond (inb (i:Int)<|ln (ix t m mZ).Tables) (b<|up t m ({ (ix t m mZ) with Tables:=(up (ix t m mZ).Tables (i:Int)<|zlW (ix (ix t m mZ).Tables (i:Int) zc7) (ix (ix t m mZ).Guests (i:Int) zu).Live p)}:Mon)) none) none) none) none)
theorem z0o {j:Type}{mons:List Mon}{k:Nat}(d:k<mons.length)(p:Int)(c:zf8 (ix mons (k:Int) mZ))(f:(ix mons (k:Int) mZ).Tables.length=(ix mons (k:Int) mZ).Guests.length)(K:List Mon->Option j) :
 ∀(n i:Nat),i+n=(ix mons (k:Int) mZ).Guests.length->goN (λi t g=>z1U (k:Int) p i t g) K n i (up mons (k:Int)<|zjZ (ix mons (k:Int) mZ) p i)=K (up mons (k:Int)<|zjZ (ix mons (k:Int) mZ) p (ix mons (k:Int) mZ).Guests.length)
 | 0,i,h=>by have:i=(ix mons (k:Int) mZ).Guests.length:=(by omega);subst this;rfl
 |n+1,i,h=>by
  have b:i<(ix mons (k:Int) mZ).Guests.length:=(by omega);have a:i<(zml (ix mons (k:Int) mZ).Guests p i (ix mons (k:Int) mZ).Tables).length:=by rw[zpQ];omega
  have e:pc (SmK (ix (zml (ix mons (k:Int) mZ).Guests p i (ix mons (k:Int) mZ).Tables) (i:Int) zc7)/\(ix (ix mons (k:Int) mZ).Guests (i:Int) zu).Live.length<=1048576)=true :=
   zbu ⟨by rw[zbb a];exact(ztu _ _ _ _ (by omega) c.2.2.2.2.2).2 _ (jA a),by rw[zbb b];exact(c.2.2.2.1.2 _<|jA b).2.2.1⟩
  simp only[goN,z1U,zed d,zrv,zjZ,zU a,zU b,e,cT];exact z0o d p c f K n (i+1) (by omega)
@[simp] abbrev zfR (h:Host)(m p:Int)(s:Slot):Bool:=pc (Shape h/\hasB m (ln h.Mons)=true)
@[simp] abbrev zfS (h:Host)(m p:Int)(s:Slot):Host:=zzO h m p s
def zoC:List CV->List AV->Option (Bool×List CV×List AV)
 |[.s (.sl .int) b,.s .mon c,.s .entry d,.s .entry e],[.one<|.i .i64 f,.one<|.i .i64 g,.agg [.i .i64 h,.i .i64 j]]=>some (zfR (⟨b,c,d,e⟩:Host) f g (⟨h,j⟩:Slot),zbh<|zfS (⟨b,c,d,e⟩:Host) f g (⟨h,j⟩:Slot),[])
 |_,_=>none
def zrE (N:Nat)(c:Host)(i n:Int)(k:Slot):OA:=
 (oN (inb i<|ln c.Mons)<|iter (σ:=(Int×Int×Int×Int×Int×Int×lN×lM×lE×lE×Unit)) N (λp a=>let j:=a.2.2.2.2.2.2.2.1;let h:=a.2.2.2.2.2.2.1;let e:=a.2.2.2.2.1;let g:=a.2.2.2.2.2.2.2.2.1;let f:=a.2.2.2.2.2.2.2.2.2.1;let b:=a.2.2.2.1;let d:=ix h a.2.1 zh;let m:=ix d.Tables b zc7;let l:=(ix d.Guests b zu).Live; (cond (ilt b a.2.2.1) (oN (inb b<|ln d.Tables)<|oN (inb b<|ln d.Guests)<|oN (zgI m l a.1)<|oN (inb b<|ln d.Tables)<|share (up h a.2.1 ({d with Tables:=(up d.Tables b<|zlo m l a.1)}:Mon)) λq=>p (a.1,a.2.1,a.2.2.1,zN .i64 b 1,e,a.2.2.2.2.2.1,q,j,g,f,()))<|cond (ine e<|-1) (oN (zdL g e)<|oN (zdL f e)<|some [aH (⟨j,h,zgk g e,zgk f e⟩:Host)])<|some [aH (⟨j,h,g,f⟩:Host)])) (n,i,ln (ix c.Mons i zh).Guests,0,k.Page,k.Rights,c.Mons,c.Memory,c.Buffer,c.IoBuffer,()))
def zJT:=zq [(142,0,{n:=71,tm:=[(0,.lp 0 0),(2,ti),(7,.lp 1 0),(8,.ep 0 [] 0),(20,ti),(21,ti)],lo:=[(0,[.sl 1 [],.sl 0 [],.sl 2 [],.sl 3 []]),(1,[ti,ti])],ro:=[(0,.mon,true),(1,.sl .int,true),(2,.entry,true),(3,.entry,true)]})]
theorem zNb (N:Nat)(c:Host)(a b:Int)(d:Slot):zst (cQ zsr zqA zQJ zX0) zJT N 12 142 [true,true,true,true] (zbh c) [aI a,aI b,aT .slot d]=zrE N c a b d:=by kernel_rfl
theorem zJp (c:Host)(d b:Int)(a:Slot)(s:zbE big (.agg (zbh c)::[aI d,aI b,aT .slot a]))(r:zfR c d b a=true):∃N,zrE N c d b a=some (.agg (zbh<|zfS c d b a)::[]):=by
 obtain⟨h,g⟩:=zD.1 r;obtain⟨l,q⟩:=zcW h g;have hg:(ix c.Mons d mZ).Guests.length<=big:=(zcu l.2.2.2.1.1).1;refine zbX λN f=>?_;unfold zrE oN;conv=>zeta
 refine must (zA g) ?_;refine(zY ((ix c.Mons d zh).Guests) (λi (t:lN)=>(b,d,ln (ix c.Mons d zh).Guests,(i:Int),a.Page,a.Rights,t,c.Memory,c.Buffer,c.IoBuffer,())) _ (λi (x:Guest) (t:List Mon) j=>z1U d b i t j) (λ(t:lN)=>cond (ine a.Page<|-1) (cond (zdL c.Buffer a.Page) (cond (zdL c.IoBuffer a.Page) (some [.agg<|zbh (⟨c.Memory,t,zgk c.Buffer a.Page,zgk c.IoBuffer a.Page⟩:Host)]) none) none)<|some [.agg<|zbh (⟨c.Memory,t,c.Buffer,c.IoBuffer⟩:Host)]) (λi e t rec=>?_) (λt rec=>?_) _ (c.Mons)<|f hg).trans ?_;{simp only [zbn e,zU e,zbb e,zX e hg,cT];rfl};{simp only [zbe,cF]};obtain⟨k,rfl,m⟩:=zeN (n:=c.Mons.length) g;rw[zuM λi t j=>z1U (k:Int) b i t j];have p:c.Mons=up c.Mons (k:Int) (zjZ (ix c.Mons (k:Int) mZ) b 0):=(zET m _).symm;refine(congrArg _ p).trans ((z0o m b l q.2.2.2 _ _ 0<|j8 _).trans ?_);show (cond (ine a.Page<|-1) _ _)=some [AV.agg<|zbh<|zzO c (k:Int) b a];unfold zzO;cases ine a.Page (-1);{rfl};{exact must rfl (must (zbu h.1.2.2.1) (must (zbu h.1.2.2.2) rfl))}
theorem zDj:zec Tryz.prog 142 [true,true,true,true] zoC:=by refine zjd (zin zjm zl zn zd6) (zkm (by kernel_rfl)) ?_;intro g a b j i f h;have d:=zmZ f;unfold zoC at h;split at h;{obtain⟨e,rfl,rfl⟩:=zo4 h;obtain⟨N,c⟩:=zJp _ _ _ _ (by exact d) e;exact⟨rfl,_,N,12,(zNb N _ _ _ _ ).trans c⟩};{cases h}
def z2o:zeE:=[(142,[true,true,true,true],zoC)]++zQJ
theorem zQK:zdj z2o:=zfr zn (by
 intro x a;simp only[qG,qZ,or_false]at a;rcases a with rfl
 .exact zDj)
def zgt (h:Host)(m p:Int):Host:={h with Mons:=up h.Mons m {ix h.Mons m mZ with Out:=up (ix h.Mons m mZ).Out p (zcZ h.Memory (ix (ix h.Mons m mZ).Outer p sZ).Page)}}
def zeS (h:Host)(m p:Int):Host:=zcD (zgt h m p) m p noSlot
theorem zXM {m:List (List Int)}{p:Int}(h:SmM m):(zcZ m p).length<=1048576:=by unfold zcZ;cases a:hasB p (ln m);{exact(by decide:zAl.length<=1048576)};{exact h.2 _ (zbQ a _)}
theorem zxH {h:Host}{m p:Int}(c:Shape h)(d:hasB m (ln h.Mons)=true):Shape (zgt h m p):=by obtain⟨a,b⟩:=zcW c d;exact zkX c ⟨a.1,zNF a.2.1<|zXM c.1.1,a.2.2⟩ ⟨b.1,by simpa using b.2.1,b.2.2⟩
theorem zNA {h:Host}{m p:Int}(b:Shape h)(a:hasB m (ln h.Mons)=true):Shape (zeS h m p):=zt0 (zf2 a) (zxH b a)
@[simp] abbrev zky (h:Host)(m p:Int):Bool:=pc (Shape h/\hasB m (ln h.Mons)=true/\hasB p 8=true)
@[simp] abbrev znC (h:Host)(m p:Int):Host:=zeS h m p
def zvM:List AV->Option (Bool×List AV)
 |[.agg [.s (.sl .int) b,.s .mon c,.s .entry d,.s .entry e],.one<|.i .i64 f,.one<|.i .i64 g]=>some (zky (⟨b,c,d,e⟩:Host) f g,[aH<|znC (⟨b,c,d,e⟩:Host) f g])
 |_=>none
def zzd (N:Nat)(a:Host)(b c:Int):OA:=
 let d:=ix a.Mons b zh;let e:=(ix d.Outer c zW).Page; (oN (inb b<|ln a.Mons)<|oN (inb b<|ln a.Mons)<|oN (inb c<|ln d.Outer)<|oN (ziL a.Memory e)<|oN (inb c<|ln d.Out)<|share (up a.Mons b ({d with Out:=(up d.Out c<|zkR a.Memory e)}:Mon)) (λg=>let f:=({a with Mons:=g}:Host); (oN zbN<|oN (zgZ f b c zbi)<|some [aH<|zi3 f b c zbi])))
theorem zZp (N:Nat)(a:Host)(b c:Int):zEv (cQ zsr zqA z2o zX0) (zq []) N 12 383 [true,true,true,true,false,false] 1 1 [[0],[1],[2],[4],[7]] .mon [aH a,aI b,aI c]=zzd N a b c:=by kernel_rfl
theorem zWT (b:Host)(d c:Int)(m:zbE big [aH b,aI d,aI c])(j:zky b d c=true):∃N,zzd N b d c=some [aH<|znC b d c]:=by
 obtain⟨g,a,f⟩:=zD.1 j;obtain⟨l,e⟩:=zcW g a;obtain⟨k,rfl,h⟩:=zeN (n:=b.Mons.length) a;have i:=zxH (p:=c) g a;refine⟨0,?_⟩;unfold zzd oN;conv=>zeta
 refine must (zA a) (must (zA a)<|must (zA<|zez e.1 f)<|must (zbu<|(zrN _).2 g.1.1)<|must (zA<|zez e.2.1 f)<|shr (must rfl (must (zbu ⟨(zO _).2 i.1,zf2 a,?_,?_⟩) rfl)));{simp only [zed h];exact zez e.1 f};{simp only [zed h];exact uL e.2.2.2}
theorem zPy:zfB Tryz.prog 383 [true,true,true,true,false,false] (some (1,1,[[0],[1],[2],[4],[7]])) zvM:=by refine znT (kt:=.mon) (zin zjm zl zQK zd6) (zkm (by kernel_rfl)) (by kernel_rfl) ?_;intro a g f e h;have c:=zk8 e;unfold zvM at h;split at h;{obtain⟨d,rfl⟩:=zfo h;obtain⟨N,b⟩:=zWT _ _ _ (by exact c) d;exact⟨⟨_,rfl⟩,rfl,_,N,12,(zZp N _ _ _ ).trans b⟩};{cases h}
def zxC:List CV->List AV->Option (Bool×List CV×List AV)
 |[.s (.sl .int) b,.s .mon c,.s .entry d,.s .entry e],[.one<|.i .i64 f,.one<|.i .i64 g]=>some (zky (⟨b,c,d,e⟩:Host) f g,zbh<|znC (⟨b,c,d,e⟩:Host) f g,[])
 |_,_=>none
def zHO (N:Nat)(c:Host)(b a:Int):OA:=
 let d:=ix c.Mons b zh;let e:=ix d.Outer a zW; (oN (inb b<|ln c.Mons)<|oN (inb a<|ln d.Outer)<|oN (ziL c.Memory e.Page)<|oN (inb a<|ln d.Out)<|share (up c.Mons b ({d with Out:=(up d.Out a<|zkR c.Memory e.Page)}:Mon)) (λg=>let f:=ix g b zh; (oN zbN<|oN (inb a<|ln f.Outer)<|share (up g b ({f with Outer:=(up f.Outer a zbi)}:Mon)) (λi=>let h:=({c with Mons:=i}:Host); (oN (zfR h b a e)<|some [aH<|zfS h b a e])))))
theorem z5a (N:Nat)(c:Host)(a b:Int):zst (cQ zsr zqA z2o zX0) (zq []) N 12 67 [true,true,true,true] (zbh c) [aI a,aI b]=zHO N c a b:=by kernel_rfl
theorem z16 (c:Host)(e a:Int)(w:zbE big (.agg (zbh c)::[aI e,aI a]))(u:zky c e a=true):∃N,zHO N c e a=some (.agg (zbh<|znC c e a)::[]):=by
 obtain⟨l,b,j⟩:=zD.1 u;obtain⟨v,f⟩:=zcW l b;obtain⟨k,rfl,h⟩:=zeN (n:=c.Mons.length) b;have m:=zxH (p:=a) l b;have d:hasB (k:Int) (ln (zgt c (k:Int) a).Mons)=true:=zf2 b;have i:k<(zgt c (k:Int) a).Mons.length:=(by simpa [zgt] using h);have g:ix (zgt c (k:Int) a).Mons (k:Int) mZ={ix c.Mons (k:Int) mZ with Out:=up (ix c.Mons (k:Int) mZ).Out a (zcZ c.Memory (ix (ix c.Mons (k:Int) mZ).Outer a sZ).Page)}:=zed h _ _;have t:Shape {zgt c (k:Int) a with Mons:=up (zgt c (k:Int) a).Mons (k:Int) {ix (zgt c (k:Int) a).Mons (k:Int) mZ with Outer:=up (ix (zgt c (k:Int) a).Mons (k:Int) mZ).Outer a noSlot}}:=(by obtain⟨q,r⟩:=zcW m d;exact zkX m ⟨by simpa using q.1,q.2⟩ ⟨by simpa using r.1,r.2⟩);refine⟨0,?_⟩;unfold zHO oN;conv=>zeta
 refine must (zA b) (must (zA<|zez f.1 j)<|must (zbu<|(zrN _).2 l.1.1)<|must (zA<|zez f.2.1 j)<|shr (must rfl (must ?_<|shr<|must (zbu ⟨t,zf2 d⟩) ?_)));{rw [zed h];exact zA (zez f.1 j)};{have:=zAa (p:=a) (s:=noSlot) i (by rw[g];exact f.2.2.2);rw[g] at this;show some [AV.agg<|zbh<|zzO {zgt c (k:Int) a with Mons:=up (zgt c (k:Int) a).Mons (k:Int) {ix (zgt c (k:Int) a).Mons (k:Int) mZ with Outer:=up (ix (zgt c (k:Int) a).Mons (k:Int) mZ).Outer a noSlot}} (k:Int) a<|ix (ix c.Mons (k:Int) mZ).Outer a sZ]=_;rw[g];exact congrArg (λx=>some [AV.agg<|zbh x]) this}
theorem zVY:zec Tryz.prog 67 [true,true,true,true] zxC:=by refine zjd (zin zjm zl zQK zd6) (zkm (by kernel_rfl)) ?_;intro g a b j i f h;have d:=zmZ f;unfold zxC at h;split at h;{obtain⟨e,rfl,rfl⟩:=zo4 h;obtain⟨N,c⟩:=z16 _ _ _ (by exact d) e;exact⟨rfl,_,N,12,(z5a N _ _ _ ).trans c⟩};{cases h}
def z2p:zeE:=[(67,[true,true,true,true],zxC)]++z2o
theorem zQL:zdj z2p:=zfr zQK (by
 intro x a;simp only[qG,qZ,or_false]at a;rcases a with rfl
 .exact zVY)
def z2Y:zgP:=[(383,[true,true,true,true,false,false],some (1,1,[[0],[1],[2],[4],[7]]),zvM)]++zX0
theorem zQY:zfu z2Y:=zsd zd6 (by
 intro x a;simp only[qG,qZ,or_false]at a;rcases a with rfl
 .exact zPy)
def cz (l:List Slot):Nat:=l.countP λs=>ieq s.Page 0
def zH:List Mon->Nat
 |[]=>0
 |m::l=>cz m.Outer+zH l
def bit (u:List Bool):Nat:=bif ix u 0 false then 1 else 0
theorem zyd (s:Slot)(l:List Slot):cz (s::l)=cz l+bif ieq s.Page 0 then 1 else 0:=by unfold cz;rw[vB];cases ieq s.Page 0<;>rfl
theorem zbcv {u:List Bool}{p:Int}(c:0<=p)(a:p.toNat<u.length)(x:Bool):ix (up u p x) 0 false=bif ieq p 0 then x else ix u 0 false:=by unfold ix up;cases h:ieq p 0;{have:p≠0:=(by simpa [ieq] using h);have b:p.toNat≠0:=(by omega);simp[List.getD,jI,b]};{have:p=0:=(by simpa [ieq] using h);subst this;have a:0<u.length:=a;simp[List.getD,jI,a]}
theorem zEl:∀(l:List Slot) (u b:List Bool),(∀s∈l,s.Page<12)->u.length=12->zil l u=some b->cz l+bit u=bit b
 |[],u,b,_,_,h=>by cases h;simp[cz]
 |s::l,u,b,i,k,h=>by
  simp only[zil]at h;rw[zyd];cases c:ilt s.Page 0;{have c:=qY c;rw[show ilt s.Page 0=false from qH (by omega)]at h;simp only[cF]at h;cases d:ix u s.Page false;{rw [d]at h;simp only[cF]at h;have g:s.Page.toNat<u.length:=(by have:=i s (by simp);omega);have a:=zEl l _ b (λt j=>i t (by simp[j])) (by simpa using k) h;have e:bit (up u s.Page true)=bif ieq s.Page 0 then 1 else bit u:=(by unfold bit;rw[zbcv (by omega) g];cases ieq s.Page 0<;>rfl);rw[e] at a;cases f:ieq s.Page 0;{rw [f] at a;simp only[cF] at a ⊢;omega};{have n:s.Page=0:=(by simpa [ieq] using f);rw[n]at d;have:bit u=0:=(by unfold bit;rw[d];rfl);rw[f] at a;simp only[cT] at a ⊢;omega}};{rw [d]at h;cases h}};{have m:=qD c;rw[c]at h;simp only[cT]at h;have a:=zEl l u b (λt j=>i t (by simp[j])) k h;have:ieq s.Page 0=false:=(by simp[ieq];omega);rw[this];simpa using a}
theorem zV3:∀(l:List Mon) (u:List Bool),u.length=12->zjq l u=true->zH l+bit u<=1
 |[],u,_,_=>by unfold zH bit;cases ix u 0 false<;>simp
 |m::l,u,c,h=>by simp only[zjq]at h;cases b:ze4 m;{rw [b]at h;cases h};{rw [b]at h;simp only[cT]at h;cases a:zil m.Outer u with|none=>rw[a]at h;cases h|some d =>rw[a]at h;have e:=zEl _ _ _ (zEO<|zkM b) c a;have f:=zV3 l d ((zrx _ _ _ a).trans c) h;simp only[zH];omega}
theorem z4k:∀(l:List Slot) (b:Nat) (s:Slot),l[b]?=some s->s.Page=0->cz (l.set b noSlot)+1=cz l
 |[],b,s,h,_=>by simp at h
 |t::l,0,s,h,a=>by simp only[qI,qC]at h;subst h;rw[List.set_cons_zero,zyd,zyd];have:ieq t.Page 0=true:=(by simp[ieq,a]);rw[this];rfl
 |t::l,b+1,s,h,a=>by rw[List.set_cons_succ,zyd,zyd];have:=z4k l b s (by simpa using h) a;omega
theorem zYy:∀(l:List Mon) (a:Nat) (x y:Mon),l[a]?=some x->zH (l.set a y)+cz x.Outer=zH l+cz y.Outer
 |[],a,x,y,h=>by simp at h
 |m::l,0,x,y,h=>by simp only[qI,qC]at h;subst h;rw[List.set_cons_zero];simp only[zH];omega
 |m::l,a+1,x,y,h=>by rw[List.set_cons_succ];have:=zYy l a x y (by simpa using h);simp only[zH];omega
theorem z1E {l:List Slot}(h:cz l=0):zqh l 0=none:=by unfold zqh;rw[List.findIdx?_eq_none_iff];intro s a;have:=(vH.1 h) s a;simpa using this
theorem zNh:∀(l:List Mon) (i:Nat),zH l=0->zkr 0 l i=(-1,-1)
 |[],_,_=>rfl
 |m::l,i,h=>by simp only[zH]at h;simp only[zkr];rw[z1E (by omega)];exact zNh l (i+1) (by omega)
theorem z1F {l:List Slot}{k:Nat}(h:zqh l 0=some k):∃s,l[k]?=some s/\s.Page=0:=by unfold zqh at h;rw[u4]at h;obtain⟨a,b,_⟩:=h;exact⟨l[k],qB a,by simpa [ieq] using b⟩
theorem zHg:∀(l:List Mon) (i:Nat),zkr 0 l i=(-1,-1)\/∃a b x s,zkr 0 l i=(((i+a:Nat):Int),((b:Nat):Int))/\l[a]?=some x/\x.Outer[b]?=some s/\s.Page=0
 |[],_=>.inl rfl
 |m::l,i=>by
  simp only[zkr];cases h:zqh m.Outer 0 with
  |none=>rcases zHg l (i+1) with c|⟨a,b,x,s,c,d,f,g⟩;{exact .inl c};{refine .inr ⟨a+1,b,x,s,?_,by simpa using d,f,g⟩;have e:i+1+a=i+(a+1):=(by omega);rw[c,e]}
  |some k=>obtain⟨s,c,d⟩:=z1F h;exact .inr ⟨0,k,m,s,rfl,rfl,c,d⟩
def Fit (h:Host):Prop:=Shape h/\0<h.Memory.length/\zH h.Mons<=1
theorem zG2 {h:Host}(c:0<h.Memory.length)(b:ilt (zbV h 0).1 0=true):inb 0 (ln<|zcN h)=true:=by unfold zcN;obtain⟨n,a⟩:∃n,h.Memory.length=n+1:=⟨h.Memory.length-1,by omega⟩;rw[a];simp only[zxy];rw[show ilt (zbV h ((0:Nat):Int)).1 0=true from b];exact qK (by simp only[cT,ln,qU];omega)
theorem z1K {h:Host}(b:0<h.Memory.length)(a:ieq (ln<|zcN h) 0=true):ilt (zbV h 0).1 0=false:=by cases c:ilt (zbV h 0).1 0;{rfl};{have d:=qD (zG2 b c);have e:ln (zcN h)=0:=(by simpa [ieq] using a);omega}
def zd2 (h:Host):Host:=bif ieq (ln<|zcN h) 0 then zeS h (zbV h 0).1 (zbV h 0).2 else h
structure Room (h r:Host):Prop where
 shape:Shape r
 free:inb 0 (ln (zcN r))=true
 len:r.Mons.length=h.Mons.length
 outer:∀m,(ix r.Mons m mZ).Outer.length=8\/True
theorem z5i {h:Host}(i:Fit h)(f:ieq (ln<|zcN h) 0=true):∃(a b:Nat) (x:Mon) (s:Slot),zbV h 0=((a:Int),(b:Int))/\h.Mons[a]?=some x/\x.Outer[b]?=some s/\s.Page=0:=by have d:=z1K i.2.1 f;have e:zbV h 0=zkr 0 h.Mons 0:=rfl;rcases zHg h.Mons 0 with c|⟨a,b,x,s,c,g⟩;{rw [e,c]at d;cases d};{exact⟨a,b,x,s,by rw[e,c,j8],g⟩}
theorem zEI {h:Host}(d:Fit h)(e:ieq (ln<|zcN h) 0=true):hasB (zbV h 0).1 (ln h.Mons)=true/\hasB (zbV h 0).2 8=true:=by obtain⟨a,b,x,s,f,c,g,j⟩:=z5i d e;rw[f];have k:=(qA.1 c).1;have l:=(qA.1 g).1;have i:=d.1.2 x (qJ c);refine⟨qK (by simp only[ln];omega),qK ?_⟩;have:=i.1;show 0<=(b:Int)/\(b:Int)<8;omega
theorem room {h:Host}(d:Fit h):Room h (zd2 h):=by unfold zd2;cases g:ieq (ln<|zcN h) 0;{refine⟨d.1,qK ?_,rfl,λ_=>.inr trivial⟩;have:ln (zcN h)≠0:=(by simpa [ieq] using g);show 0<=(0:Int)/\(0:Int)<ln (zcN h);simp only[ln] at *;omega};{obtain⟨n,u⟩:=zEI d g;obtain⟨a,b,x,s,r,i,k,t⟩:=z5i d g;simp only[cT];rw[r]at n u ⊢;have m:=(qA.1 i).1;have B:=(qA.1 k).1;have j:ix h.Mons (a:Int) mZ=x:=(by rw[zbb m];exact(qA.1 i).2);have c:=(zib (zgt h (a:Int) (b:Int)) (a:Int) (b:Int) noSlot).1;have q:ix (zgt h (a:Int) (b:Int)).Mons (a:Int) mZ={x with Out:=up x.Out (b:Int) (zcZ h.Memory (ix x.Outer (b:Int) sZ).Page)}:=(by unfold zgt;rw[zed m,j]);obtain⟨y,l,v⟩:∃y,(zeS h (a:Int) (b:Int)).Mons=h.Mons.set a y/\y.Outer=x.Outer.set b noSlot:=(by unfold zeS;rw[c,q];unfold zgt;rw[zrv];exact⟨_,by simp[up];rfl,by simp[up]⟩);have w:zH (zeS h (a:Int) (b:Int)).Mons=0:=(by have p:=zYy h.Mons a x y i;have z:=z4k x.Outer b s k t;have A:=d.2.2;rw[l];rw[v] at p;omega);have f:(zeS h (a:Int) (b:Int)).Memory=h.Memory:=(zib (zgt h (a:Int) (b:Int)) (a:Int) (b:Int) noSlot).2;refine⟨zNA d.1 n,zG2 (by rw[f];exact d.2.1) ?_,by rw[l];simp,λ_=>.inr trivial⟩;have e:zbV (zeS h (a:Int) (b:Int)) 0=zkr 0 (zeS h (a:Int) (b:Int)).Mons 0:=rfl;rw[e,zNh _ _ w];rfl}
theorem zXN {m:List (List Int)}{p:Int}{c:List Int}(h:SmM m)(a:c.length<=1048576):SmM (zk0 m p c):=by unfold zk0;cases hasB p (ln m);{exact h};{cases zcT c;{exact h};{exact zNF h a}}
def landing (r:Host)(m p to:Int):Host:={r with Memory:=zk0 r.Memory to (ix (ix r.Mons m mZ).Out p []),Mons:=up r.Mons m {ix r.Mons m mZ with Out:=up (ix r.Mons m mZ).Out p []}}
def zgz (r:Host)(m p to:Int):Host:=zcD (landing r m p to) m p ⟨to,3⟩
def fetched (h:Host)(m p:Int):Host:=zgz (zd2 h) m p (ix (zcN<|zd2 h) 0 0)
theorem zXP {r:Host}{m p:Int}(e:Shape r)(c:hasB m (ln r.Mons)=true)(d:hasB p 8=true):(ix (ix r.Mons m mZ).Out p []).length<=1048576:=by obtain⟨a,b⟩:=zcW e c;exact a.2.1.2 _ (zbQ (zez b.2.1 d) _)
theorem ztZ {r:Host}{m p to:Int}(a:Shape r)(d:hasB m (ln r.Mons)=true)(e:hasB p 8=true):Shape (landing r m p to):=by obtain⟨b,c⟩:=zcW a d;exact zSK (h:={r with Mons:=up r.Mons m {ix r.Mons m mZ with Out:=up (ix r.Mons m mZ).Out p []}}) (zkX (x:={ix r.Mons m mZ with Out:=up (ix r.Mons m mZ).Out p []}) a ⟨b.1,zNF b.2.1 (by simp),b.2.2⟩ ⟨c.1,by simpa using c.2.1,c.2.2⟩) (zXN a.1.1<|zXP a d e)
theorem zUo {r:Host}{m p d:Int}(c:Shape r)(a:hasB m (ln r.Mons)=true)(b:hasB p 8=true):Shape (zgz r m p d):=zt0 (zf2 a) (ztZ c a b)
theorem zr5 {h:Host}(a:Fit h){m:Int}(b:hasB m (ln h.Mons)=true):hasB m (ln (zd2 h).Mons)=true:=by rw[ln,(room a).len];exact b
theorem zmw {h:Host}{m p:Int}(a:Fit h)(b:hasB m (ln h.Mons)=true)(c:hasB p 8=true):Shape (fetched h m p)/\hasB m (ln (fetched h m p).Mons)=true :=
 ⟨zUo (room a).shape (zr5 a b) c,zG4<|zf2<|zr5 a b⟩
@[simp] abbrev zlL (h:Host)(m p:Int):Bool:=pc (Fit h/\hasB m (ln h.Mons)=true/\hasB p 8=true)
@[simp] abbrev zmF (h:Host)(m p:Int):Host:=fetched h m p
def zxF:List AV->Option (Bool×List AV)
 |[.agg [.s (.sl .int) b,.s .mon c,.s .entry d,.s .entry e],.one<|.i .i64 f,.one<|.i .i64 g]=>some (zlL (⟨b,c,d,e⟩:Host) f g,[aH<|zmF (⟨b,c,d,e⟩:Host) f g])
 |_=>none
def zCC (N:Nat)(a:Host)(c b:Int):OA:=
 let h:=ix (zdx a) 0 0;let f:=ix a.Mons c zh;let d:=znC a (zek a 0)<|zfw a 0;let g:=ix (zdx d) 0 0;let e:=ix d.Mons c zh; (oN (zhb a)<|cond (ieq (ln<|zdx a) 0) (oN (zg5 a 0)<|oN (zky a (zek a 0)<|zfw a 0)<|oN (zhb d)<|oN (inb 0<|ln<|zdx d)<|oN (inb c<|ln d.Mons)<|oN (inb b<|ln e.Out)<|oN (zhd d.Memory g<|ix e.Out b [])<|oN (inb c<|ln d.Mons)<|oN (inb b<|ln e.Out)<|share (up d.Mons c ({e with Out:=(up e.Out b [])}:Mon)) (λi=>let j:=({d with Memory:=(zfZ d.Memory g<|ix e.Out b []),Mons:=i}:Host); (oN (zgZ j c b (⟨g,3⟩:Slot))<|some [aH<|zi3 j c b (⟨g,3⟩:Slot)])))<|oN (zhb a)<|oN (inb 0<|ln<|zdx a)<|oN (inb c<|ln a.Mons)<|oN (inb b<|ln f.Out)<|oN (zhd a.Memory h<|ix f.Out b [])<|oN (inb c<|ln a.Mons)<|oN (inb b<|ln f.Out)<|share (up a.Mons c ({f with Out:=(up f.Out b [])}:Mon)) (λi=>let k:=({a with Memory:=(zfZ a.Memory h<|ix f.Out b []),Mons:=i}:Host); (oN (zgZ k c b (⟨h,3⟩:Slot))<|some [aH<|zi3 k c b (⟨h,3⟩:Slot)])))
theorem z2h (N:Nat)(a:Host)(b c:Int):zEv (cQ zsr zqA z2p z2Y) (zq []) N 12 384 [true,true,true,true,false,false] 1 1 [[0],[1],[2],[4],[7]] .mon [aH a,aI b,aI c]=zCC N a b c:=by kernel_rfl
theorem zZl (c:Host)(b d:Int)(z:zbE big [aH c,aI b,aI d])(u:zlL c b d=true):∃N,zCC N c b d=some [aH<|zmF c b d]:=by
 obtain⟨h,v,i⟩:=zD.1 u;have e:∀r,Shape r->inb 0 (ln<|zcN r)=true->hasB b (ln r.Mons)=true->(cond (zhb r) (cond (inb 0<|ln<|zdx r) (cond (inb b<|ln r.Mons) (cond (inb d<|ln (ix r.Mons b zh).Out) (cond (zhd r.Memory (ix (zdx r) 0 0)<|ix (ix r.Mons b zh).Out d []) (cond (inb b<|ln r.Mons) (cond (inb d<|ln (ix r.Mons b zh).Out) (share (up r.Mons b ({ (ix r.Mons b zh) with Out:=(up (ix r.Mons b zh).Out d [])}:Mon)) λs=>cond (zgZ ({r with Memory:=(zfZ r.Memory (ix (zdx r) 0 0)<|ix (ix r.Mons b zh).Out d []),Mons:=s}:Host) b d (⟨ix (zdx r) 0 0,3⟩:Slot)) (some [AV.agg<|zbh<|zi3 ({r with Memory:=(zfZ r.Memory (ix (zdx r) 0 0)<|ix (ix r.Mons b zh).Out d []),Mons:=s}:Host) b d (⟨ix (zdx r) 0 0,3⟩:Slot)]) none) none) none) none) none) none) none) none)=some [AV.agg<|zbh<|zgz r b d<|ix (zcN r) 0 0]:=(by intro r j f a;obtain⟨y,l⟩:=zcW j a;have t:=ztZ (to:=ix (zcN r) 0 0) j a i;obtain⟨k,rfl,q⟩:=zeN (n:=r.Mons.length) a;refine must (zbu j.1.1.1) (must f<|must (zA a)<|must (zA<|zez l.2.1 i)<|must (zbu ⟨j.1.1,zXP j a i⟩)<|must (zA a)<|must (zA<|zez l.2.1 i)<|shr (must (zbu ⟨(zO _).2 t.1,zf2 a,?_,?_⟩) rfl));{simp only [zed q];exact zez l.1 i};{simp only [zed q];exact uL l.2.2.2});have g:=room h;have a:=zr5 h v;refine⟨0,?_⟩;unfold zCC zmF fetched oN;conv=>zeta
 refine must (zbu h.1.1.1.1) ?_;cases p:ieq (ln<|zdx c) 0;{have m:zd2 c=c:=(by unfold zd2;rw[show ieq (ln<|zcN c) 0=false from p];rfl);rw[m]at g a ⊢;exact e c g.shape g.free a};{obtain⟨w,x⟩:=zEI h p;have m:zd2 c=zeS c (zbV c 0).1 (zbV c 0).2:=(by unfold zd2;rw[show ieq (ln<|zcN c) 0=true from p];rfl);rw[m]at g a ⊢;exact must rfl (must rfl (must (zbu ⟨h.1,w,x⟩)<|e _ g.shape g.free a))}
theorem zTl:zfB Tryz.prog 384 [true,true,true,true,false,false] (some (1,1,[[0],[1],[2],[4],[7]])) zxF:=by refine znT (kt:=.mon) (zin zjm zl zQL zQY) (zkm (by kernel_rfl)) (by kernel_rfl) ?_;intro a g f e h;have c:=zk8 e;unfold zxF at h;split at h;{obtain⟨d,rfl⟩:=zfo h;obtain⟨N,b⟩:=zZl _ _ _ (by exact c) d;exact⟨⟨_,rfl⟩,rfl,_,N,12,(z2h N _ _ _ ).trans b⟩};{cases h}
@[simp] abbrev ztL (h:Host):Bool:=pc (Shape h/\hasB (zbV h 0).1 (ln h.Mons)=true/\hasB (zbV h 0).2 8=true)
@[simp] abbrev ztM (h:Host):Host:=zeS h (zbV h 0).1 (zbV h 0).2
def zpD:List CV->List AV->Option (Bool×List CV×List AV)
 |[.s (.sl .int) b,.s .mon c,.s .entry d,.s .entry e],[]=>some (ztL (⟨b,c,d,e⟩:Host),zbh<|ztM (⟨b,c,d,e⟩:Host),[])
 |_,_=>none
def ztE (N:Nat)(c:Host)  : OA :=
 (oN (zg5 c 0)<|oN (zky c (zek c 0)<|zfw c 0)<|some [aH<|znC c (zek c 0)<|zfw c 0])
theorem zQE (N:Nat)(c:Host)  : zst (cQ zsr zqA z2p z2Y) (zq []) N 12 250 [true,true,true,true] (zbh c) []=ztE N c:=by kernel_rfl
theorem zMN (c:Host)(d:zbE big (.agg (zbh c)::[]))(a:ztL c=true):∃N,ztE N c=some (.agg (zbh<|ztM c)::[]):=by have b:=zD.1 a;refine⟨0,?_⟩;unfold ztE oN;exact must rfl (must (zbu b) rfl)
theorem zE9:zec Tryz.prog 250 [true,true,true,true] zpD:=by refine zjd (zin zjm zl zQL zQY) (zkm (by kernel_rfl)) ?_;intro g a b j i f h;have d:=zmZ f;unfold zpD at h;split at h;{obtain⟨e,rfl,rfl⟩:=zo4 h;obtain⟨N,c⟩:=zMN _ (by exact d) e;exact⟨rfl,_,N,12,(zQE N _ ).trans c⟩};{cases h}
def z7Q:zeE:=[(250,[true,true,true,true],zpD)]++z2p
theorem z0E:zdj z7Q:=zfr zQL (by
 intro x a;simp only[qG,qZ,or_false]at a;rcases a with rfl
 .exact zE9)
def zX1:zgP:=[(384,[true,true,true,true,false,false],some (1,1,[[0],[1],[2],[4],[7]]),zxF)]++z2Y
theorem zER:zfu zX1:=zsd zQY (by
 intro x a;simp only[qG,qZ,or_false]at a;rcases a with rfl
 .exact zTl)
theorem z1c {r:Host}{m p to:Int}(d:Shape r)(b:hasB m (ln r.Mons)=true):zzO {landing r m p to with Mons:=up (landing r m p to).Mons m {ix (landing r m p to).Mons m mZ with Outer:=up (ix (landing r m p to).Mons m mZ).Outer p ⟨to,3⟩}} m p (ix (ix (landing r m p to).Mons m mZ).Outer p sZ)=zgz r m p to:=by obtain⟨e,c⟩:=zcW d b;obtain⟨k,rfl,a⟩:=zeN (n:=r.Mons.length) b;refine zAa (h:=landing r (k:Int) p to) (by simpa [landing] using a) ?_;unfold landing;simp only[zed a];exact c.2.2.2
theorem zZQ {r:Host}{m p to:Int}(f:Shape r)(b:hasB m (ln r.Mons)=true)(e:hasB p 8=true):Shape {landing r m p to with Mons:=up (landing r m p to).Mons m {ix (landing r m p to).Mons m mZ with Outer:=up (ix (landing r m p to).Mons m mZ).Outer p ⟨to,3⟩}}:=by have a:=ztZ (to:=to) f b e;obtain⟨c,d⟩:=zcW a (zf2 b);exact zkX a ⟨by simpa using c.1,c.2⟩ ⟨by simpa using d.1,d.2⟩
def zvF:List CV->List AV->Option (Bool×List CV×List AV)
 |[.s (.sl .int) b,.s .mon c,.s .entry d,.s .entry e],[.one<|.i .i64 f,.one<|.i .i64 g]=>some (zlL (⟨b,c,d,e⟩:Host) f g,zbh<|zmF (⟨b,c,d,e⟩:Host) f g,[])
 |_,_=>none
def zCa (N:Nat)(c:Host)(b a:Int):OA:=
 let m:=ix (zdx c) 0 0;let d:=ztM c;let l:=ix (zdx d) 0 0;let f:=ix c.Mons b zh;let e:=ix d.Mons b zh; (oN (zhb c)<|cond (ieq (ln<|zdx c) 0) (oN (ztL c)<|oN (inb b<|ln d.Mons)<|oN (zhb d)<|oN (inb 0<|ln<|zdx d)<|oN (inb a<|ln e.Out)<|oN (zhd d.Memory l<|ix e.Out a [])<|oN (inb a<|ln e.Out)<|share (up d.Mons b ({e with Out:=(up e.Out a [])}:Mon)) (λg=>let i:=ix g b zh;let q:=ix i.Outer a zW; (oN (inb a<|ln i.Outer)<|oN (inb a<|ln i.Outer)<|share (up g b ({i with Outer:=(up i.Outer a (⟨l,3⟩:Slot))}:Mon)) (λk=>let n:=({d with Memory:=(zfZ d.Memory l<|ix e.Out a []),Mons:=k}:Host); (oN (zfR n b a q)<|some [aH<|zfS n b a q])))))<|oN (inb b<|ln c.Mons)<|oN (zhb c)<|oN (inb 0<|ln<|zdx c)<|oN (inb a<|ln f.Out)<|oN (zhd c.Memory m<|ix f.Out a [])<|oN (inb a<|ln f.Out)<|share (up c.Mons b ({f with Out:=(up f.Out a [])}:Mon)) (λg=>let j:=ix g b zh;let h:=ix j.Outer a zW; (oN (inb a<|ln j.Outer)<|oN (inb a<|ln j.Outer)<|share (up g b ({j with Outer:=(up j.Outer a (⟨m,3⟩:Slot))}:Mon)) (λk=>let p:=({c with Memory:=(zfZ c.Memory m<|ix f.Out a []),Mons:=k}:Host); (oN (zfR p b a h)<|some [aH<|zfS p b a h])))))
theorem z2f (N:Nat)(c:Host)(a b:Int):zst (cQ zsr zqA z7Q zX1) (zq []) N 12 141 [true,true,true,true] (zbh c) [aI a,aI b]=zCa N c a b:=by kernel_rfl
theorem zZa (c:Host)(b d:Int)(F:zbE big (.agg (zbh c)::[aI b,aI d]))(w:zlL c b d=true):∃N,zCa N c b d=some (.agg (zbh<|zmF c b d)::[]):=by
 obtain⟨j,B,l⟩:=zD.1 w;have e:∀r,Shape r->inb 0 (ln<|zcN r)=true->hasB b (ln r.Mons)=true->(cond (inb b<|ln r.Mons) (cond (zhb r) (cond (inb 0<|ln<|zdx r) (cond (inb d<|ln (ix r.Mons b zh).Out) (cond (zhd r.Memory (ix (zdx r) 0 0)<|ix (ix r.Mons b zh).Out d []) (cond (inb d<|ln (ix r.Mons b zh).Out) (share (up r.Mons b ({ (ix r.Mons b zh) with Out:=(up (ix r.Mons b zh).Out d [])}:Mon)) λg=>cond (inb d<|ln (ix g b zh).Outer) (cond (inb d<|ln (ix g b zh).Outer) (share (up g b ({ (ix g b zh) with Outer:=(up (ix g b zh).Outer d (⟨ix (zdx r) 0 0,3⟩:Slot))}:Mon)) λu=>cond (zfR ({r with Memory:=(zfZ r.Memory (ix (zdx r) 0 0)<|ix (ix r.Mons b zh).Out d []),Mons:=u}:Host) b d<|ix (ix g b zh).Outer d zW) (some [AV.agg<|zbh<|zfS ({r with Memory:=(zfZ r.Memory (ix (zdx r) 0 0)<|ix (ix r.Mons b zh).Out d []),Mons:=u}:Host) b d<|ix (ix g b zh).Outer d zW]) none) none) none) none) none) none) none) none) none)=some [AV.agg<|zbh<|zgz r b d<|ix (zcN r) 0 0]:=(by intro r i f a;obtain⟨E,q⟩:=zcW i a;have v:=zZQ (to:=ix (zcN r) 0 0) i a l;have hE:=z1c (p:=d) (to:=ix (zcN r) 0 0) i a;obtain⟨k,rfl,A⟩:=zeN (n:=r.Mons.length) a;have z:∀(x y:Mon),hasB (k:Int) (ln<|up (up r.Mons (k:Int) x) (k:Int) y)=true:=λx y=>(by simpa [ln] using a);have t:inb d (ln (ix (up r.Mons (k:Int) {ix r.Mons (k:Int) mZ with Out:=up (ix r.Mons (k:Int) mZ).Out d []}) (k:Int) mZ).Outer)=true:=(by rw[zed A];exact zA (zez q.1 l));refine must (zA a) (must (zbu i.1.1.1)<|must f<|must (zA<|zez q.2.1 l)<|must (zbu ⟨i.1.1,zXP i a l⟩)<|must (zA<|zez q.2.1 l)<|shr<|must t<|must t<|shr<|must (zbu ⟨v,z _ _⟩) ?_);exact congrArg (λx=>some [AV.agg<|zbh x]) hE);have h:=room j;have a:=zr5 j B;refine⟨0,?_⟩;unfold zCa zmF fetched oN;conv=>zeta
 refine must (zbu j.1.1.1.1) ?_;cases s:ieq (ln<|zdx c) 0;{have m:zd2 c=c:=(by unfold zd2;rw[show ieq (ln<|zcN c) 0=false from s];rfl);rw[m]at h a ⊢;exact e c h.shape h.free a};{obtain⟨C,D⟩:=zEI j s;have m:zd2 c=zeS c (zbV c 0).1 (zbV c 0).2:=(by unfold zd2;rw[show ieq (ln<|zcN c) 0=true from s];rfl);rw[m]at h a ⊢;exact must rfl (must (zbu ⟨j.1,C,D⟩)<|e _ h.shape h.free a)}
theorem zS7:zec Tryz.prog 141 [true,true,true,true] zvF:=by refine zjd (zin zjm zl z0E zER) (zkm (by kernel_rfl)) ?_;intro g a b j i f h;have d:=zmZ f;unfold zvF at h;split at h;{obtain⟨e,rfl,rfl⟩:=zo4 h;obtain⟨N,c⟩:=zZa _ _ _ (by exact d) e;exact⟨rfl,_,N,12,(z2f N _ _ _ ).trans c⟩};{cases h}
def z2q:zeE:=[(141,[true,true,true,true],zvF)]++z7Q
theorem zQM:zdj z2q:=zfr z0E (by
 intro x a;simp only[qG,qZ,or_false]at a;rcases a with rfl
 .exact zS7)
def zbO (h:Host)(m p:Int):Host:={h with Mons:=up h.Mons m {ix h.Mons m mZ with Dirty:=up (ix h.Mons m mZ).Dirty p true}}
def opened (h:Host)(m p:Int):Host:=bif ieq (wand .i64 (ix (ix h.Mons m mZ).Outer p sZ).Rights 2) 0 then zcD h m p ⟨(ix (ix h.Mons m mZ).Outer p sZ).Page,3⟩ else h
def zl6 (h:Host)(m p n:Int):Host:=bif ieq (wand .i64 n 2) 0 then h else opened (zbO h m p) m p
def mended (h:Host)(m p n:Int):Host:=bif ieq (ix (ix h.Mons m mZ).Outer p sZ).Page (-1) then zl6 (fetched h m p) m p n else zl6 h m p n
theorem zbaV {r:Int}(a:0<=r)(b:r<=3):enough r 2 = !ieq (wand .i64 r 2) 0:=by have:r=0\/r=1\/r=2\/r=3:=(by omega);rcases this with rfl|rfl|rfl|rfl<;>rfl
structure SlotFit (s:Slot):Prop where
 no:zc5 s noSlot=ieq s.Page (-1)
 lo:0<=s.Rights
 hi:s.Rights<=3
theorem z2O {s:Slot}{n:Int}(h:zeT s n=true):SlotFit s:=by refine⟨zSM h,?_,?_⟩<;>unfold zeT at h<;>cases a:zc5 s noSlot;{rw [a]at h;simp only[cF,zdB]at h;have:=(zf7.1 h.2.2).1;omega};{unfold zc5 at a;rw[qE]at a;have:s.Rights=0:=qD a.2;omega};{rw [a]at h;simp only[cF,zdB]at h;have:=(zf7.1 h.2.2).2;omega};{unfold zc5 at a;rw[qE]at a;have:s.Rights=0:=qD a.2;omega}
theorem zpv {h:Host}{m p:Int}(c:Shape h)(d:hasB m (ln h.Mons)=true):Shape (zbO h m p):=by obtain⟨a,b⟩:=zcW c d;exact zkX c ⟨a.1,a.2.1,by simpa using a.2.2.1,a.2.2.2⟩ ⟨b.1,b.2.1,by simpa using b.2.2.1,b.2.2.2⟩
theorem zXF {h:Host}{m p:Int}(b:Shape h)(a:hasB m (ln h.Mons)=true):Shape (opened h m p)/\hasB m (ln (opened h m p).Mons)=true:=by unfold opened;cases ieq (wand .i64 (ix (ix h.Mons m mZ).Outer p sZ).Rights 2) 0;{exact⟨b,a⟩};{exact⟨zt0 a b,zG4 a⟩}
theorem zHA {h:Host}{m p n:Int}(b:Shape h)(a:hasB m (ln h.Mons)=true):Shape (zl6 h m p n)/\hasB m (ln (zl6 h m p n).Mons)=true:=by unfold zl6;cases ieq (wand .i64 n 2) 0;{exact zXF (zpv b a) (zf2 a)};{exact⟨b,a⟩}
theorem zvY {h:Host}{m p n:Int}(a:Fit h)(b:hasB m (ln h.Mons)=true)(e:hasB p 8=true):Shape (mended h m p n)/\hasB m (ln (mended h m p n).Mons)=true:=by unfold mended;cases ieq (ix (ix h.Mons m mZ).Outer p sZ).Page (-1);{exact zHA a.1 b};{obtain⟨c,d⟩:=zmw a b e;exact zHA c d}
theorem zVH {h:Host}{m p:Int}(c:Fit h)(g:hasB m (ln h.Mons)=true)(j:hasB p 8=true):(ix (ix (fetched h m p).Mons m mZ).Outer p sZ).Rights=3:=by have f:=room c;have a:=zr5 c g;obtain⟨r,e⟩:=zcW f.shape a;obtain⟨k,rfl,d⟩:=zeN (n:=(zd2 h).Mons.length) a;obtain⟨q,rfl,l⟩:=zeN (n:=8) j;unfold fetched zgz;rw[(zib _ _ _ _).1];have b:k<(landing (zd2 h) (k:Int) (q:Int)<|ix (zcN<|zd2 h) 0 0).Mons.length:=(by simpa [landing] using d);rw[zed b];have i:q<(ix (landing (zd2 h) (k:Int) (q:Int)<|ix (zcN<|zd2 h) 0 0).Mons (k:Int) mZ).Outer.length:=(by unfold landing;rw[zed d];show q<(ix (zd2 h).Mons (k:Int) mZ).Outer.length;rw[e.1];exact l);show (ix (up (ix (landing (zd2 h) (k:Int) (q:Int)<|ix (zcN<|zd2 h) 0 0).Mons (k:Int) mZ).Outer (q:Int) ⟨_,3⟩) (q:Int) sZ).Rights=3;rw[zed i]
def z3h (h:Host)(m p n:Int):Prop:=Fit h/\hasB m (ln h.Mons)=true/\hasB p 8=true/\(n=1\/n=2)/\SlotFit (ix (ix h.Mons m mZ).Outer p sZ)
@[simp] abbrev zgY (h:Host)(m p n:Int):Bool:=pc (z3h h m p n)
@[simp] abbrev zgK (h:Host)(m p n:Int):Host:=mended h m p n
def ztS:List AV->Option (Bool×List AV)
 |[.agg [.s (.sl .int) b,.s .mon c,.s .entry d,.s .entry e],.one<|.i .i64 f,.one<|.i .i64 g,.one<|.i .i64 h]=>some (zgY (⟨b,c,d,e⟩:Host) f g h,[aH<|zgK (⟨b,c,d,e⟩:Host) f g h])
 |_=>none
def zxn (N:Nat)(c:Host)(a b l:Int):OA:=
 let h:=zmF c a b;let k:=ix h.Mons a zh;let e:=ix c.Mons a zh;let p:=ix e.Outer b zW; (oN (inb a<|ln c.Mons)<|oN (inb b<|ln e.Outer)<|oN zbN<|cond (cond (ieq p.Page zbi.Page) (ieq p.Rights zbi.Rights) false) (oN (zlL c a b)<|cond (ieq (wand .i64 l 2) 0) (some [aH h])<|oN (inb a<|ln h.Mons)<|oN (inb b<|ln k.Dirty)<|share (up h.Mons a ({k with Dirty:=(up k.Dirty b true)}:Mon)) (λd=>let q:=(ix d a zh).Outer;let i:=({h with Mons:=d}:Host);let m:=ix q b zW;let r:=({m with Rights:=3}:Slot); (oN (inb a<|ln d)<|oN (inb b<|ln q)<|cond (ieq (wand .i64 m.Rights 2) 0) (oN (zgZ i a b r)<|some [aH<|zi3 i a b r])<|some [aH i])))<|cond (ieq (wand .i64 l 2) 0) (some [aH c])<|oN (inb a<|ln c.Mons)<|oN (inb b<|ln e.Dirty)<|share (up c.Mons a ({e with Dirty:=(up e.Dirty b true)}:Mon)) (λd=>let f:=(ix d a zh).Outer;let j:=({c with Mons:=d}:Host);let n:=ix f b zW;let g:=({n with Rights:=3}:Slot); (oN (inb a<|ln d)<|oN (inb b<|ln f)<|cond (ieq (wand .i64 n.Rights 2) 0) (oN (zgZ j a b g)<|some [aH<|zi3 j a b g])<|some [aH j])))
theorem zW7 (N:Nat)(a:Host)(b c d:Int):zEv (cQ zsr zqA z2q zX1) (zq []) N 12 371 [true,true,true,true,false,false,false] 1 1 [[0],[1],[2],[4],[7]] .mon [aH a,aI b,aI c,aI d]=zxn N a b c d:=by kernel_rfl
theorem zUh (d:Host)(b a h:Int)(C:zbE big [aH d,aI b,aI a,aI h])(z:zgY d b a h=true):∃N,zxn N d b a h=some [aH<|zgK d b a h]:=by
 obtain⟨l,j,i,D,A⟩:=zD.1 z;obtain⟨B,v⟩:=zcW l.1 j;have f:∀r,Shape r->hasB b (ln r.Mons)=true->(cond (ieq (wand .i64 h 2) 0) (some [AV.agg<|zbh r])<|cond (inb b<|ln r.Mons) (cond (inb a<|ln (ix r.Mons b zh).Dirty) (share (up r.Mons b ({ (ix r.Mons b zh) with Dirty:=(up (ix r.Mons b zh).Dirty a true)}:Mon)) λg=>cond (inb b<|ln g) (cond (inb a<|ln (ix g b zh).Outer) (cond (ieq (wand .i64 (ix (ix g b zh).Outer a zW).Rights 2) 0) (cond (zgZ ({r with Mons:=g}:Host) b a ({ (ix (ix g b zh).Outer a zW) with Rights:=3}:Slot)) (some [AV.agg<|zbh<|zi3 ({r with Mons:=g}:Host) b a ({ (ix (ix g b zh).Outer a zW) with Rights:=3}:Slot)]) none)<|some [AV.agg<|zbh ({r with Mons:=g}:Host)]) none) none) none) none)=some [AV.agg<|zbh<|zl6 r b a h]:=(by intro r u c;obtain⟨E,m⟩:=zcW u c;have y:=zpv (p:=a) u c;unfold zl6;cases w:ieq (wand .i64 h 2) 0;{obtain⟨k,rfl,t⟩:=zeN (n:=r.Mons.length) c;have q:ix (zbO r (k:Int) a).Mons (k:Int) mZ={ix r.Mons (k:Int) mZ with Dirty:=up (ix r.Mons (k:Int) mZ).Dirty a true}:=zed t _ _;refine zb4 rfl (must (zA c)<|must (zA<|zez m.2.2.1 i)<|shr<|must (zA<|zf2 c)<|must ?_ ?_);{rw [zed t];exact zA (zez m.1 i)};{unfold opened;show (cond (ieq (wand .i64 (ix (ix (zbO r (k:Int) a).Mons (k:Int) mZ).Outer a sZ).Rights 2) 0) _ _)=_;cases s:ieq (wand .i64 (ix (ix (zbO r (k:Int) a).Mons (k:Int) mZ).Outer a sZ).Rights 2) 0;{rfl};{refine must rfl (must (zbu ⟨(zO _).2 y.1,zf2 c,?_,?_⟩) rfl);{show hasB a (ln (ix (zbO r (k:Int) a).Mons (k:Int) mZ).Outer)=true;rw[q];exact zez m.1 i};{show (ix (zbO r (k:Int) a).Mons (k:Int) mZ).Tables.length<=(ix (zbO r (k:Int) a).Mons (k:Int) mZ).Guests.length;rw[q];exact uL m.2.2.2}}}};{rfl});refine⟨0,?_⟩;unfold zxn zgK mended oN;conv=>zeta
 refine must (zA j) (must (zA<|zez v.1 i) (must rfl ?_));have e:(cond (ieq (ix (ix d.Mons b mZ).Outer a sZ).Page zbi.Page) (ieq (ix (ix d.Mons b mZ).Outer a sZ).Rights zbi.Rights) false)=ieq (ix (ix d.Mons b mZ).Outer a sZ).Page (-1):=(by rw[<- A.no];unfold zc5 zbi;cases ieq (ix (ix d.Mons b mZ).Outer a sZ).Page noSlot.Page<;>rfl);rw[e];cases w:ieq (ix (ix d.Mons b mZ).Outer a sZ).Page (-1);{exact f d l.1 j};{obtain⟨s,x⟩:=zmw (p:=a) l j i;exact must rfl (must (zbu ⟨l,j,i⟩)<|f _ s x)}
theorem zMk:zfB Tryz.prog 371 [true,true,true,true,false,false,false] (some (1,1,[[0],[1],[2],[4],[7]])) ztS:=by refine znT (kt:=.mon) (zin zjm zl zQM zER) (zkm (by kernel_rfl)) (by kernel_rfl) ?_;intro a g f e h;have c:=zk8 e;unfold ztS at h;split at h;{obtain⟨d,rfl⟩:=zfo h;obtain⟨N,b⟩:=zUh _ _ _ _ (by exact c) d;exact⟨⟨_,rfl⟩,rfl,_,N,12,(zW7 N _ _ _ _ ).trans b⟩};{cases h}
def zxB:List CV->List AV->Option (Bool×List CV×List AV)
 |[.s (.sl .int) b,.s .mon c,.s .entry d,.s .entry e],[.one<|.i .i64 f,.one<|.i .i64 g,.one<|.i .i64 h]=>some (zgY (⟨b,c,d,e⟩:Host) f g h,zbh<|zgK (⟨b,c,d,e⟩:Host) f g h,[])
 |_,_=>none
def zHN (N:Nat)(c:Host)(b a k:Int):OA:=
 let e:=zmF c b a;let m:=ix e.Mons b zh;let h:=ix c.Mons b zh; (oN (inb b<|ln c.Mons)<|oN (inb a<|ln h.Outer)<|cond (ieq (ix h.Outer a zW).Page<|-1) (oN (zlL c b a)<|oN (zbj k 2)<|cond (nB<|zdi k 2) (some [aH e])<|oN (inb b<|ln e.Mons)<|oN (inb a<|ln m.Dirty)<|share (up e.Mons b ({m with Dirty:=(up m.Dirty a true)}:Mon)) (λd=>let i:=ix d b zh;let f:=ix i.Outer a zW; (oN (inb a<|ln i.Outer)<|oN (zbj f.Rights 2)<|cond (nB<|zdi f.Rights 2) (oN (inb a<|ln i.Outer)<|share (up d b ({i with Outer:=(up i.Outer a ({f with Rights:=3}:Slot))}:Mon)) (λl=>let n:=({e with Mons:=l}:Host); (oN (zfR n b a f)<|some [aH<|zfS n b a f])))<|some [aH ({e with Mons:=d}:Host)])))<|oN (zbj k 2)<|cond (nB<|zdi k 2) (some [aH c])<|oN (inb b<|ln c.Mons)<|oN (inb a<|ln h.Dirty)<|share (up c.Mons b ({h with Dirty:=(up h.Dirty a true)}:Mon)) (λd=>let j:=ix d b zh;let g:=ix j.Outer a zW; (oN (inb a<|ln j.Outer)<|oN (zbj g.Rights 2)<|cond (nB<|zdi g.Rights 2) (oN (inb a<|ln j.Outer)<|share (up d b ({j with Outer:=(up j.Outer a ({g with Rights:=3}:Slot))}:Mon)) (λl=>let p:=({c with Mons:=l}:Host); (oN (zfR p b a g)<|some [aH<|zfS p b a g])))<|some [aH ({c with Mons:=d}:Host)])))
theorem z4Z (N:Nat)(c:Host)(a b d:Int):zst (cQ zsr zqA z2q zX1) (zq []) N 12 134 [true,true,true,true] (zbh c) [aI a,aI b,aI d]=zHN N c a b d:=by kernel_rfl
theorem z15 (c:Host)(b a f:Int)(R:zbE big (.agg (zbh c)::[aI b,aI a,aI f]))(M:zgY c b a f=true):∃N,zHN N c b a f=some (.agg (zbh<|zgK c b a f)::[]):=by
 obtain⟨l,i,j,P,C⟩:=zD.1 M;obtain⟨Q,I⟩:=zcW l.1 i;have H:enough f 2 = !ieq (wand .i64 f 2) 0:=(by rcases P with rfl|rfl<;>rfl);have g:∀r,Shape r->hasB b (ln r.Mons)=true->enough (ix (ix r.Mons b mZ).Outer a sZ).Rights 2=(!ieq (wand .i64 (ix (ix r.Mons b mZ).Outer a sZ).Rights 2) 0)->(cond (zbj f 2) (cond (cond (zdi f 2) false true) (some [AV.agg<|zbh r])<|cond (inb b<|ln r.Mons) (cond (inb a<|ln (ix r.Mons b zh).Dirty) (share (up r.Mons b ({ (ix r.Mons b zh) with Dirty:=(up (ix r.Mons b zh).Dirty a true)}:Mon)) λe=>cond (inb a<|ln (ix e b zh).Outer) (cond (zbj (ix (ix e b zh).Outer a zW).Rights 2) (cond (cond (zdi (ix (ix e b zh).Outer a zW).Rights 2) false true) (cond (inb a<|ln (ix e b zh).Outer) (share (up e b ({ (ix e b zh) with Outer:=(up (ix e b zh).Outer a ({ (ix (ix e b zh).Outer a zW) with Rights:=3}:Slot))}:Mon)) λF=>cond (zfR ({r with Mons:=F}:Host) b a<|ix (ix e b zh).Outer a zW) (some [AV.agg<|zbh<|zfS ({r with Mons:=F}:Host) b a<|ix (ix e b zh).Outer a zW]) none) none)<|some [AV.agg<|zbh ({r with Mons:=e}:Host)]) none) none) none) none) none)=some [AV.agg<|zbh<|zl6 r b a f]:=(by intro r B d q;obtain⟨S,u⟩:=zcW B d;have w:=zpv (p:=a) B d;unfold zl6;simp only[zbj,zdi,H,cT];cases J:ieq (wand .i64 f 2) 0;{obtain⟨k,rfl,A⟩:=zeN (n:=r.Mons.length) d;have m:ix (zbO r (k:Int) a).Mons (k:Int) mZ={ix r.Mons (k:Int) mZ with Dirty:=up (ix r.Mons (k:Int) mZ).Dirty a true}:=zed A _ _;have t:k<(zbO r (k:Int) a).Mons.length:=(by simpa [zbO] using A);have z:inb a (ln (ix (zbO r (k:Int) a).Mons (k:Int) mZ).Outer)=true:=(by rw[m];exact zA (zez u.1 j));refine zb4 rfl (must (zA d)<|must (zA<|zez u.2.2.1 j)<|shr<|must z ?_);unfold opened;show (cond (cond (enough (ix (ix (zbO r (k:Int) a).Mons (k:Int) mZ).Outer a sZ).Rights 2) false true) _ _)=_;have G:(cond (enough (ix (ix (zbO r (k:Int) a).Mons (k:Int) mZ).Outer a sZ).Rights 2) false true)=ieq (wand .i64 (ix (ix (zbO r (k:Int) a).Mons (k:Int) mZ).Outer a sZ).Rights 2) 0:=(by rw[m];show (cond (enough (ix (ix r.Mons (k:Int) mZ).Outer a sZ).Rights 2) false true)=ieq (wand .i64 (ix (ix r.Mons (k:Int) mZ).Outer a sZ).Rights 2) 0;rw[q];cases ieq (wand .i64 (ix (ix r.Mons (k:Int) mZ).Outer a sZ).Rights 2) 0<;>rfl);rw[G];cases v:ieq (wand .i64 (ix (ix (zbO r (k:Int) a).Mons (k:Int) mZ).Outer a sZ).Rights 2) 0;{rfl};{have L:Shape {zbO r (k:Int) a with Mons:=up (zbO r (k:Int) a).Mons (k:Int) {ix (zbO r (k:Int) a).Mons (k:Int) mZ with Outer:=up (ix (zbO r (k:Int) a).Mons (k:Int) mZ).Outer a ⟨(ix (ix (zbO r (k:Int) a).Mons (k:Int) mZ).Outer a sZ).Page,3⟩}}:=(by obtain⟨D,E⟩:=zcW w (zf2 d);exact zkX w ⟨by simpa using D.1,D.2⟩ ⟨by simpa using E.1,E.2⟩);have O:∀(x y:Mon),hasB (k:Int) (ln<|up (up r.Mons (k:Int) x) (k:Int) y)=true:=λx y=>(by simpa [ln] using d);refine must rfl (must z<|shr<|must (zbu ⟨L,O _ _⟩) ?_);exact congrArg (λx=>some [AV.agg<|zbh x]) (zAa (h:=zbO r (k:Int) a) (p:=a) (s:=⟨(ix (ix (zbO r (k:Int) a).Mons (k:Int) mZ).Outer a sZ).Page,3⟩) t (by rw[m];exact u.2.2.2))}};{rfl});refine⟨0,?_⟩;unfold zHN zgK mended oN nB;conv=>zeta
 refine must (zA i) (must (zA<|zez I.1 j) ?_);cases J:ieq (ix (ix c.Mons b mZ).Outer a sZ).Page (-1);{exact g c l.1 i (zbaV C.lo C.hi)};{obtain⟨v,K⟩:=zmw (p:=a) l i j;exact must rfl (must (zbu ⟨l,i,j⟩)<|g _ v K (by rw[zVH l i j];rfl))}
theorem zVX:zec Tryz.prog 134 [true,true,true,true] zxB:=by refine zjd (zin zjm zl zQM zER) (zkm (by kernel_rfl)) ?_;intro g a b j i f h;have d:=zmZ f;unfold zxB at h;split at h;{obtain⟨e,rfl,rfl⟩:=zo4 h;obtain⟨N,c⟩:=z15 _ _ _ _ (by exact d) e;exact⟨rfl,_,N,12,(z4Z N _ _ _ _ ).trans c⟩};{cases h}
def z2s:zeE:=[(134,[true,true,true,true],zxB)]++z2q
theorem zbB:zdj z2s:=zfr zQM (by
 intro x a;simp only[qG,qZ,or_false]at a;rcases a with rfl
 .exact zVX)
def z2Z:zgP:=[(371,[true,true,true,true,false,false,false],some (1,1,[[0],[1],[2],[4],[7]]),ztS)]++zX1
theorem zy7:zfu z2Z:=zsd zER (by
 intro x a;simp only[qG,qZ,or_false]at a;rcases a with rfl
 .exact zMk)
theorem z1S {h:Host}(b:zbP h=true):h.Memory.length=12:=by unfold zbP at b;simp only[zdB]at b;have a:=b.1;unfold zkq at a;simp only[zdB]at a;have:ln h.Memory=12:=qD a.2;simp only[ln] at this;omega
theorem ziP {h:Host}(a:zbP h=true):∀x∈h.Mons,ze4 x=true:=by unfold zbP at a;simp only[zdB]at a;exact zzI _ _ a.2.2.2.2
theorem zJD {x:Mon}(a:ze4 x=true):ShM x:=by have e:=zp5 (zkM a);unfold ze4 at a;simp only[zdB]at a;have b:ln x.Tables=ln x.Guests:=qD a.2.1;have c:ln x.Out=8:=qD a.2.2.2.1;have d:ln x.Dirty=8:=qD a.2.2.2.2.1;simp only[ln] at *;exact⟨by omega,by omega,by omega,by omega⟩
theorem zfQ {h:Host}(b:SmH h)(a:zbP h=true):Fit h:=by refine⟨⟨b,λx c=>zJD (ziP a x c)⟩,by rw[z1S a];decide,?_⟩;unfold zbP at a;simp only[zdB]at a;have:=zV3 _ _ rfl a.2.2.2.2;omega
theorem zus {x:Mon}(b:ze4 x=true){p:Int}(c:hasB p 8=true):SlotFit (ix x.Outer p sZ):=by have a:=zkM b;unfold zds at a;simp only[zdB]at a;exact z2O (qL.1 a.1 _<|zbQ (zez (zJD b).1 c) _)
theorem zYR {h:Host}{m p:Int}(a:Fit h)(c:hasB m (ln h.Mons)=true):Fit (zbO h m p):=by refine⟨zpv a.1 c,a.2.1,?_⟩;obtain⟨k,rfl,b⟩:=zeN (n:=h.Mons.length) c;have:=zYy h.Mons k (ix h.Mons (k:Int) mZ) {ix h.Mons (k:Int) mZ with Dirty:=up (ix h.Mons (k:Int) mZ).Dirty p true} (by rw[zbb b];exact qB b);have d:=a.2.2;unfold zbO;simp only[up,kE];dsimp only at this;simp only[up] at this;omega
abbrev gZ:Guest:=Ty.dflt .guest
@[simp] abbrev zdg (h:Host)(m:Int):Bool:=pc (zdv h)
@[simp] abbrev zc3 (h:Host)(m:Int):Mon:=bif hasB m (ln h.Mons) then ix h.Mons m mZ else mZ
@[simp] abbrev znb (h:Host)(m:Int):Bool:=hasB m (ln h.Mons)
def zHn:Run:=rF2 dH dI λb c=>(zdg b c,[aT .mon<|zc3 b c,aB<|znb b c])
def zRu (N:Nat)(a:Host)(b:Int):OA:=
 let c:=ix a.Mons b zh; (oN (zbj b<|ln a.Mons)<|cond (nB<|zca b<|ln a.Mons) (some [aT .mon (⟨[],[],[],[],[],0,0,[],0⟩:Mon),aB false])<|oN (inb b<|ln a.Mons)<|oN (zmB c)<|some [aT .mon<|znc c,aB true])
theorem zY5 (a:Host)(b:Int)(d:zdg a b=true):∃N,zRu N a b=some [aT .mon<|zc3 a b,aB<|znb a b]:=by
 have e:=(zO a).1 (zD.1 d);refine⟨0,?_⟩;unfold zRu zc3 znb oN nB;conv=>zeta
 refine must rfl ?_;rw[show zca b (ln a.Mons)=hasB b (ln a.Mons) from rfl];cases c:hasB b (ln a.Mons);{rfl};{exact zb4 rfl (must (zA c) (must (zbu<|e.2.1.2 _<|zbQ c _) rfl))}
theorem zS2:vV 68 zHn:=kF2 zjm zl zbB zy7 (zq []) zY5
def zb8 (h:Host)(m g:Int):Bool:=bif zbP h then (cond (hasB m<|ln h.Mons) (hasB g<|ln (ix h.Mons m mZ).Guests) false) else false
@[simp] abbrev zdz (h:Host)(m g:Int):Bool:=pc (zdv h)
@[simp] abbrev zlz (h:Host)(m g:Int):Bool:=zb8 h m g
def zHr:Run:=rF3 dH dI dI λb c d=>(zdz b c d,[aB<|zlz b c d])
def zRO (N:Nat)(a:Host)(b c:Int):OA:=
 let d:=wsub .i64 (ln (ix a.Mons b zh).Guests) 1; (oN (zcj a)<|cond (zci a) (oN (zJ b 0<|wsub .i64 (ln a.Mons) 1)<|cond (zi b 0<|wsub .i64 (ln a.Mons) 1) (oN (inb b<|ln a.Mons)<|oN (zJ c 0 d)<|some [aB<|zi c 0 d]) oF) oF)
theorem zZn (a:Host)(b c:Int)(f:zdz a b c=true):∃N,zRO N a b c=some [aB<|zlz a b c]:=by
 have e:=(zO a).1 (zD.1 f);refine⟨0,?_⟩;unfold zRO zlz zb8 oN;conv=>zeta
 refine must rfl ?_;rw[show zci a=zbP a from rfl];cases g:zbP a;{rfl};{rw [show zi b 0 (wsub .i64 (ln a.Mons) 1)=hasB b (ln a.Mons) from zsg e.2.1.1 b];refine must rfl (must rfl ?_);cases d:hasB b (ln a.Mons);{rfl};{have hg:(ix a.Mons b mZ).Guests.length<=1048576:=(e.2.1.2 _<|zbQ d _).2.2.2.1.1;rw[show zi c 0 (wsub .i64 (ln (ix a.Mons b zh).Guests) 1)=hasB c (ln (ix a.Mons b mZ).Guests) from zsg hg c];exact must rfl (must (zA d) (must rfl rfl))}}
theorem zTn:vV 361 zHr:=kF3 zjm zl zbB zy7 (zq []) zZn
def zcU (h:Host)(m:Int):Nat->Nat->List (List Int)
 | 0,_=>[]
 |n+1,i=>zcl h m (i:Int)::zcU h m n (i+1)
theorem zzZ (h:Host)(m:Int):∀(n i:Nat),(zcU h m n i).length=n
 | 0,_=>rfl
 |n+1,i=>by simp[zcU,zzZ h m n]
def zB (h:Host)(m:Int):Bare:=bif hasB m (ln h.Mons) then ⟨zcU h m 8 0,(ix h.Mons m mZ).Guests,(ix h.Mons m mZ).Outs,(ix h.Mons m mZ).Pending⟩ else ⟨[],[],[],0⟩
theorem zSe {c:Type}(h:Host)(m:Int)(K:List (List Int)->Option c):∀(n i:Nat) (a:List (List Int)),a.length+n<=2147483648->
 goN (λi a b=>bif few (ln<|ap a [zcl h m (i:Int)]) then b (ap a [zcl h m (i:Int)]) else none) K n i a=K (a++zcU h m n i)
 | 0,_,a,_=>by simp[goN,zcU]
 |n+1,i,a,d=>by simp only[goN,zcU];rw[zfE (by simp[ap];omega),cT,zSe h m K n (i+1) _ (by simp[ap];omega)];simp[ap]
@[simp] abbrev zef (h:Host)(m:Int):Bare:=zB h m
def z9v:zbd:=[(68,zHn),(361,zHr)]++zsr
theorem zVx:zQ z9v:=zf zS2 (zf zTn zjm)
def zvI:Run:=rF2 dH dI λb c=>(zdg b c,[aT .bare<|zef b c])
def zKg (N:Nat)(b:Host)(c:Int):OA:=
 (oN (zdg b c)<|cond (nB<|znb b c) (some [aT .bare (⟨[],[],[],0⟩:Bare)])<|iter (σ:=(Int×Int×Int×Int×lM×lN×lE×lE×lM×lG×(List Int)×lM×lG×(List Int)×Unit)) N (λh a=>let g:=a.2.2.2.2.2.2.2.2.2.2.2.2.1;let f:=a.2.2.2.2.2.2.2.2.2.2.2.2.2.1;let d:=(⟨a.2.2.2.2.1,a.2.2.2.2.2.1,a.2.2.2.2.2.2.1,a.2.2.2.2.2.2.2.1⟩:Host);let e:=ap a.2.2.2.2.2.2.2.2.2.2.2.1 [zzM d a.1 a.2.1]; (cond (ilt a.2.1 8) (oN (zzN d a.1 a.2.1)<|oN (few<|ln e)<|h (a.1,zN .i64 a.2.1 1,a.2.2.1,a.2.2.2.1,a.2.2.2.2.1,a.2.2.2.2.2.1,a.2.2.2.2.2.2.1,a.2.2.2.2.2.2.2.1,a.2.2.2.2.2.2.2.2.1,a.2.2.2.2.2.2.2.2.2.1,a.2.2.2.2.2.2.2.2.2.2.1,e,g,f,()))<|some [aT .bare (⟨a.2.2.2.2.2.2.2.2.2.2.2.1,g,f,a.2.2.2.1⟩:Bare)])) (c,0,0,(zc3 b c).Pending,b.Memory,b.Mons,b.Buffer,b.IoBuffer,[],[],[],[],(zc3 b c).Guests,(zc3 b c).Outs,()))
def zYc:=zq [(84,0,{n:=39,tm:=[(1,ti),(2,.lp 0 0),(4,.lp 1 0),(7,.lp 2 0),(8,ti)],lo:=[(0,[.sl 0 [],.sl 1 [],.sl 2 [],.sl 3 []]),(1,[.sl 4 [],.sl 5 [],.sl 6 [],ti]),(2,[.sl 7 [],.sl 8 [],.sl 9 [],ti])],ro:=[(0,.sl .int,false),(1,.mon,false),(2,.entry,false),(3,.entry,false),(4,.sl .int,true),(5,.guest,true),(6,.int,true),(7,.sl .int,true),(8,.guest,true),(9,.int,true)]})]
theorem zWr (a:Host)(b:Int)(f:zdg a b=true):∃N,zKg N a b=some [aT .bare<|zef a b]:=by
 have e:=zD.1 f;refine zbX λN d=>?_;unfold zKg zef zB oN nB;conv=>zeta
 refine must (zbu e) ?_;rw[show znb a b=hasB b (ln a.Mons) from rfl];cases g:hasB b (ln a.Mons);{rfl};{refine zb4 rfl ?_;refine(zzP 8 (λi (t:lM)=>(b,(i:Int),0,(zc3 a b).Pending,a.Memory,a.Mons,a.Buffer,a.IoBuffer,[],[],[],t,(zc3 a b).Guests,(zc3 a b).Outs,())) _ (λi (c:List (List Int)) j=>bif few (ln<|ap c [zcl a b (i:Int)]) then j (ap c [zcl a b (i:Int)]) else none) (λ(t:lM)=>some [.agg<|Ty.cells .bare (⟨t,(zc3 a b).Guests,(zc3 a b).Outs,(zc3 a b).Pending⟩:Bare)]) (λi h t rec=>?_) (λt rec=>?_) _ ([])<|d (by decide)).trans ?_;{simp only [show ilt (i:Int) 8=true from qK (by omega),zX h (show 8<=big by decide),cT];exact must (zbu e) rfl};{simp only [show ilt ((8:Nat):Int) 8=false from qH (by omega),cF]};rw[zSe a b _ 8 0 [] (by decide)];simp only[zc3,g,cT,jL]}
theorem zyl:vV 84 zvI:=kF2 zVx zl zbB zy7 zYc zWr
theorem zZu:zcT zAl=true:=by decide
theorem zZ8 {p:Nat->Bool}:∀{n i q:Nat},zoy p n i=true->i<=q->q<i+n->p q=true
 | 0,i,q,_,a,b=>by omega
 |n+1,i,q,h,a,b=>by simp only[zoy,qE]at h;by_cases c:i=q;{subst c;exact h.1};{exact zZ8 h.2 (by omega) (by omega)}
theorem z5l {h:Host}{m:Int}(e:zbP h=true)(l:hasB m (ln h.Mons)=true){p:Int}(j:hasB p 8=true):zcT (zcl h m p)=true:=by have i:=ziP e _ (zbQ l mZ);have s:=zJD i;have f:h.Memory.all zcT=true:=(by unfold zbP at e;simp only[zdB]at e;have b:=e.1;unfold zkq at b;simp only[zdB]at b;exact b.1);unfold zcl;rw[l,j];simp only[cT];have t:zbK (ix h.Mons m mZ).Outer p=ix (ix h.Mons m mZ).Outer p sZ:=(by unfold zbK;rw[zez s.1 j];rfl);rw[t];have d:∀(g:List (List Int)) (q:Int),(hasB q (ln g)=true->zcT (ix g q [])=true)->zcT (zcZ g q)=true:=(by intro g q k;unfold zcZ;cases b:hasB q (ln g);{exact zZu};{exact k b});cases c:ine (ix (ix h.Mons m mZ).Outer p sZ).Page (-1);{refine d _ _ (λk=>?_);obtain⟨q,rfl,u⟩:=zeN (n:=8) j;have a:fits (ix h.Mons m mZ) q=true:=(by unfold ze4 at i;simp only[zdB]at i;exact zZ8 i.2.2.2.2.2.2.2.2.2.2 (by omega) (by omega));unfold fits zn3 at a;have r:zc5 (ix (ix h.Mons m mZ).Outer (q:Int) sZ) noSlot=true:=(by rw[(zus (ziP e _<|zbQ l mZ) j).no];rw[zje]at c;cases b:ieq (ix (ix h.Mons m mZ).Outer (q:Int) sZ).Page (-1);{rw [b]at c;cases c};{rfl});rw[r]at a;exact a};{exact d _ _ (λk=>qL.1 f _ (zbQ k _))}
theorem zSx {h:Host}{m:Int}(a:zbP h=true)(b:hasB m (ln h.Mons)=true):∀(n i:Nat),i+n<=8->(zcU h m n i).all zcT=true
 | 0,_,_=>rfl
 |n+1,i,c=>by simp only[zcU,k9,qE];exact⟨z5l a b<|qK (by omega),zSx a b n (i+1) (by omega)⟩
theorem zso {h:Host}{m:Int}(c:zbP h=true)(b:hasB m (ln h.Mons)=true):zbW (zB h m)=true:=by have a:=ziP c _ (zbQ b mZ);unfold ze4 at a;simp only[zdB]at a;unfold zB zbW zkq;rw[b];simp only[cT,a.2.2.2.2.2.2.2.2.2.1,zSx c b 8 0 (by decide),ln,zzZ];simp only[ln]at a;rw[a.1,a.2.2.2.2.2.1,a.2.2.2.2.2.2.1];rfl
def zo7:zbd:=[(84,zvI)]++z9v
theorem zjn:zQ zo7:=zf zyl zVx
def zfF (l:List Mon):List (List Guest):=l.map λx=>x.Guests
theorem zzG {l:List Mon}{m:Int}{x:Mon}(b:hasB m (ln l)=true)(c:x.Guests=(ix l m mZ).Guests):zfF (up l m x)=zfF l:=by obtain⟨k,rfl,a⟩:=zeN (n:=l.length) b;unfold zfF up;rw[List.map_set,kE,c,zbb a];have:=@vC _ (l.map λx=>x.Guests) k (by simpa using a);simpa using this
theorem zLo {l b:List Mon}(h:zfF b=zfF l)(m:Int):(ix b m mZ).Guests=(ix l m mZ).Guests:=by unfold zfF at h;have a:(b.map λx=>x.Guests)[m.toNat]?=(l.map λx=>x.Guests)[m.toNat]?:=(by rw[h]);rw[qN,qN]at a;unfold ix;simp only[kF];cases c:b[m.toNat]? <;> cases d:l[m.toNat]? <;> rw [c,d]at a<;>simp at a ⊢;exact a
theorem zzF {h:Host}{m p:Int}{s:Slot}(a:hasB m (ln h.Mons)=true):zfF (zcD h m p s).Mons=zfF h.Mons:=by rw[(zib h m p s).1];exact zzG a rfl
theorem zba2 {h:Host}{m p:Int}(a:hasB m (ln h.Mons)=true):zfF (zeS h m p).Mons=zfF h.Mons:=(zzF (h:=zgt h m p)<|zf2 a).trans (zzG a rfl)
theorem zba1 {h:Host}(b:Fit h):zfF (zd2 h).Mons=zfF h.Mons:=by unfold zd2;cases a:ieq (ln<|zcN h) 0;{rfl};{exact zba2 (zEI b a).1}
theorem z1P {h:Host}{m p:Int}(a:Fit h)(c:hasB m (ln h.Mons)=true):zfF (fetched h m p).Mons=zfF h.Mons:=by have b:=zr5 a c;exact((zzF (h:=landing (zd2 h) m p (ix (zcN<|zd2 h) 0 0))<|zf2 b).trans (zzG b rfl)).trans (zba1 a)
theorem zVQ {h:Host}{m p n:Int}(b:hasB m (ln h.Mons)=true):zfF (zl6 h m p n).Mons=zfF h.Mons:=by have a:zfF (zbO h m p).Mons=zfF h.Mons:=zzG b rfl;unfold zl6;cases ieq (wand .i64 n 2) 0;{unfold opened;cases ieq (wand .i64 (ix (ix (zbO h m p).Mons m mZ).Outer p sZ).Rights 2) 0;{exact a};{exact(zzF (h:=zbO h m p)<|zf2 b).trans a}};{rfl}
theorem z4A {h:Host}{m p n:Int}(b:Fit h)(a:hasB m (ln h.Mons)=true)(c:hasB p 8=true):zfF (mended h m p n).Mons=zfF h.Mons:=by unfold mended;cases ieq (ix (ix h.Mons m mZ).Outer p sZ).Page (-1);{exact zVQ a};{exact(zVQ (zmw b a c).2).trans (z1P b a)}
theorem zbco {l a:List Mon}(h:zfF a=zfF l):a.length=l.length:=by have:=congrArg List.length h;simpa [zfF] using this
abbrev kZ:Kept:=Ty.dflt .kept
theorem zbdv {x:Guest}(f:zex x=true){p n:Int}(d:zfK x.Live p n=true):hasB (zcx x.Live p n) 8=true:=by have g:zds x.Live 4 8=true:=(by unfold zex at f;simp only[qE]at f;exact f.2.2.2.2.1);unfold zcx;rw[d];simp only[cT];unfold zfK at d;cases a:ieq (zbK x.Live p).Page (-1);{unfold zbK at a ⊢;cases e:hasB p (ln x.Live);{rw [e]at a;cases a};{rw [e]at a;simp only[cT]at a ⊢;unfold zds at g;simp only[zdB]at g;have c:=qL.1 g.1 _ (zbQ e sZ);unfold zeT at c;cases b:zc5 (ix x.Live p sZ) noSlot;{rw [b]at c;simp only[cF,zdB]at c;have:=zf7.1 c.2.1;rw[show wsub .i64 8 1=7 from rfl] at this;show hasB (ix x.Live p sZ).Page 8=true;exact qK (by omega)};{unfold zc5 at b;rw[qE]at b;have:(ix x.Live p sZ).Page = -1:=qD b.1;rw[show ieq (ix x.Live p zW).Page (-1)=true from qK this]at a;cases a}}};{rw [a]at d;cases d}
def zcP (h:Host)(m g:Int):List Slot:=(ix (ix h.Mons m mZ).Guests g gZ).Live
def zcp (h:Host)(m g:Int):Kept:=ix (ix h.Mons m mZ).Tables g kZ
def zue (h:Host)(a:Bool):List Entry:=bif a then h.IoBuffer else h.Buffer
def zs7 (b:List Entry)(m g a:Int):Option Entry:=zzv b (zfa m g) a
def zj3 (b:List Entry)(m g a c:Int):Bool:=bif (zs7 b m g a).isSome then enough ((zs7 b m g a).getD ⟨0,0,0,0⟩).Rights c else false
def zfJ (h:Host)(m g a b:Int):Bool:=bif zmq (zcp h m g) a then (cond (ieq (zeX (zcp h m g) a).Page<|-1) true<|!enough (zeX (zcp h m g) a).Rights b) else true
def zcQ (h:Host)(m g a:Int):Host:={h with Mons:=up h.Mons m {ix h.Mons m mZ with Tables:=up (ix h.Mons m mZ).Tables g (filled (zcp h m g) (zcP h m g) (ix h.Mons m mZ).Outer a)}}
def zUJ (h:Host)(m g a:Int):Entry:=⟨zfa m g,a,(zeX (zcp h m g) a).Page,(zeX (zcp h m g) a).Rights⟩
def zwW (h:Host)(m g a:Int)(b:Bool):Host:=bif b then {h with IoBuffer:=ztP h.IoBuffer (zUJ h m g a)} else {h with Buffer:=ztP h.Buffer (zUJ h m g a)}
def zfU (h:Host)(m g a:Int)(b:Bool):Host×Int×Bool:=(zwW h m g a b,(zeX (zcp h m g) a).Page,true)
def zhQ (h:Host)(b:List Entry)(m g a c q:Int)(d:Bool):Host×Int×Bool :=
 bif zj3 b m g a c then (h,((zs7 b m g a).getD ⟨0,0,0,0⟩).Host,true)
 else (cond (zfJ h m g a c) (zfU (zcQ (mended h m q c) m g a) m g a d)<|zfU h m g a d)
def zhw (a:Int):Bool:=bif ieq a 1 then true else ieq a 2
def zbZ (h:Host)(m g page need:Int):Bool:=bif zb8 h m g then (cond (zhw need) (zfK (zcP h m g) page need) false) else false
def lookOf (h:Host)(b:List Entry)(m g page need:Int)(io:Bool):Host×Int×Bool :=
 bif zbZ h m g page need then zhQ (cond (ieq need 2) (zbO h m<|zcx (zcP h m g) page need) h) b m g page need (zcx (zcP h m g) page need) io else (h,-1,false)
structure Kp (h r:Host):Prop where
 shape:Shape r
 gs:zfF r.Mons=zfF h.Mons
theorem Kp.has {h r:Host}(k:Kp h r){m:Int}(a:hasB m (ln h.Mons)=true):hasB m (ln r.Mons)=true:=by rw[ln,zbco k.gs];exact a
theorem z2L {h:Host}{m g c:Int}(d:Shape h)(e:hasB m (ln h.Mons)=true)(hg:hasB g (ln (ix h.Mons m mZ).Guests)=true):Shape (zcQ h m g c):=by obtain⟨a,b⟩:=zcW d e;have f:hasB g (ln (ix h.Mons m mZ).Tables)=true:=(by rw[ln,b.2.2.2];exact hg);exact zkX d ⟨a.1,a.2.1,a.2.2.1,a.2.2.2.1,a.2.2.2.2.1,zuV a.2.2.2.2.2<|z2R<|a.2.2.2.2.2.2 _<|zbQ f _⟩ ⟨b.1,b.2.1,b.2.2.1,by simpa using b.2.2.2⟩
theorem z4H {h r:Host}{m g a:Int}{i:Bool}(k:Kp h r):Kp h (zwW r m g a i):=by obtain⟨⟨b,c,d,e⟩,f⟩:=k.shape;unfold zwW;cases i;{exact⟨⟨⟨b,c,(zz3 _ d).1,e⟩,f⟩,k.gs⟩};{exact⟨⟨⟨b,c,d,(zz3 _ e).1⟩,f⟩,k.gs⟩}
structure LookAt (h:Host) (m g q need:Int):Prop where
 fit:Fit h
 hm:hasB m (ln h.Mons)=true
 hg:hasB g (ln (ix h.Mons m mZ).Guests)=true
 hq:hasB q 8=true
 hn:need=1\/need=2
 hs:SlotFit (ix (ix h.Mons m mZ).Outer q sZ)
theorem LookAt.mend {h:Host}{m g q a:Int}(A:LookAt h m g q a):z3h h m q a:=⟨A.fit,A.hm,A.hq,A.hn,A.hs⟩
theorem LookAt.kp {h:Host}{m g q a:Int}(A:LookAt h m g q a):Kp h (mended h m q a):=⟨(zvY A.fit A.hm A.hq).1,z4A A.fit A.hm A.hq⟩
theorem LookAt.fill {h:Host}{m g q a:Int}(A:LookAt h m g q a)(b:Int):Kp h (zcQ (mended h m q a) m g b):=by have k:=A.kp;have hg:hasB g (ln (ix (mended h m q a).Mons m mZ).Guests)=true:=(by rw[zLo k.gs];exact A.hg);have e:zfF (zcQ (mended h m q a) m g b).Mons=zfF (mended h m q a).Mons:=zzG (k.has A.hm) rfl;exact⟨z2L k.shape (k.has A.hm) hg,e.trans k.gs⟩
theorem zV9 {h:Host}{b:List Entry}{m g page a q:Int}{io:Bool}(A:LookAt h m g q a):Kp h (zhQ h b m g page a q io).1:=by unfold zhQ;cases zj3 b m g page a;{cases zfJ h m g page a;{exact z4H ⟨A.fit.1,rfl⟩};{exact z4H (A.fill page)}};{exact⟨A.fit.1,rfl⟩}
theorem zdO {h:Host}{m g:Int}(a:zb8 h m g=true):zbP h=true/\hasB m (ln h.Mons)=true/\hasB g (ln (ix h.Mons m mZ).Guests)=true:=by unfold zb8 at a;simp only[zdB]at a;exact a
theorem z1Q {h:Host}{m g:Int}(e:zb8 h m g=true):zex (ix (ix h.Mons m mZ).Guests g gZ)=true:=by obtain⟨b,c,d⟩:=zdO e;have a:=ziP b _ (zbQ c mZ);unfold ze4 at a;simp only[zdB]at a;exact qL.1 a.2.2.2.2.2.2.2.2.2.1 _ (zbQ d _)
theorem zNa {n:Int}(h:zhw n=true):n=1\/n=2:=by unfold zhw at h;cases a:ieq n 1;{rw [a]at h;exact .inr (qD h)};{exact .inl (qD a)}
theorem zDM {h:Host}{m g page a:Int}(s:SmH h)(d:zbZ h m g page a=true) :
 LookAt h m g (zcx (zcP h m g) page a) a/\LookAt (zbO h m<|zcx (zcP h m g) page a) m g (zcx (zcP h m g) page a) a:=by
 unfold zbZ at d;simp only[zdB]at d;obtain⟨l,p,r⟩:=d;obtain⟨i,b,j⟩:=zdO l;have f:hasB (zcx (zcP h m g) page a) 8=true:=zbdv (z1Q l) r;have c:=zus (ziP i _<|zbQ b mZ) f;have q:=zfQ s i;refine⟨⟨q,b,j,f,zNa p,c⟩,⟨zYR q b,zf2 b,?_,f,zNa p,?_⟩⟩
 .have e:zfF (zbO h m<|zcx (zcP h m g) page a).Mons=zfF h.Mons:=zzG b rfl;rw[zLo e];exact j
 .obtain⟨k,rfl,hk⟩:=zeN (n:=h.Mons.length) b;unfold zbO;rw[zed hk];exact c
theorem zuO {h:Host}{b:List Entry}{m g page need:Int}{io:Bool}(a:SmH h)(f:zb8 h m g=true):Kp h (lookOf h b m g page need io).1:=by have d:=zfQ a (zdO f).1;unfold lookOf;cases c:zbZ h m g page need;{exact⟨d.1,rfl⟩};{obtain⟨A,B⟩:=zDM a c;simp only[cT];cases ieq need 2;{exact zV9 A};{have k:=zV9 (b:=b) (page:=page) (io:=io) B;have e:zfF (zbO h m<|zcx (zcP h m g) page need).Mons=zfF h.Mons:=zzG A.hm rfl;exact⟨k.shape,k.gs.trans e⟩}}
def zl8 (x:Host×Int×Bool):List AV:=[.agg<|zbh x.1,.one<|.i .i64 x.2.1,.one<|.b x.2.2]
theorem zjg {h:Host}{b:List Entry}{m g c a:Int}{e:Bool}(d:zbZ h m g c a=false):lookOf h b m g c a e=(h,-1,false):=by unfold lookOf;rw[d];rfl
theorem zp0 {h:Host}{m g b a:Int}(c:zb8 h m g=false):zbZ h m g b a=false:=by unfold zbZ;rw[c];rfl
theorem zOt {h:Host}{m g:Int}(a:zbP h=false):zb8 h m g=false:=by unfold zb8;rw[a];rfl
theorem zOu {h:Host}{m g:Int}(a:hasB m (ln h.Mons)=false):zb8 h m g=false:=by unfold zb8;rw[a];cases zbP h<;>rfl
theorem zOv {h:Host}{m g:Int}(a:hasB g (ln (ix h.Mons m mZ).Guests)=false):zb8 h m g=false:=by unfold zb8;rw[a];cases zbP h<;>cases hasB m (ln h.Mons)<;>rfl
theorem zOw {h:Host}{m g:Int}(a:zbP h=true)(b:hasB m (ln h.Mons)=true)(c:hasB g (ln (ix h.Mons m mZ).Guests)=true):zb8 h m g=true:=by unfold zb8;rw[a,b,c];rfl
structure LookF (r:Host) (m g:Int):Prop where
 hm:hasB m (ln r.Mons)=true
 hg:hasB g (ln (ix r.Mons m mZ).Guests)=true
 ht:hasB g (ln (ix r.Mons m mZ).Tables)=true
 hk:SmK (zcp r m g)
 hb:r.Buffer.length<=1048576
 hi:r.IoBuffer.length<=1048576
theorem zn1 {h r:Host}{m g:Int}(k:Kp h r)(b:hasB m (ln h.Mons)=true)(hg:hasB g (ln (ix h.Mons m mZ).Guests)=true):LookF r m g:=by obtain⟨d,e⟩:=zcW k.shape (k.has b);have a:hasB g (ln (ix r.Mons m mZ).Guests)=true:=(by rw[zLo k.gs];exact hg);have c:hasB g (ln (ix r.Mons m mZ).Tables)=true:=(by rw[ln,e.2.2.2];exact a);exact⟨k.has b,a,c,d.2.2.2.2.2.2 _<|zbQ c _,k.shape.1.2.2.1,k.shape.1.2.2.2⟩
@[simp] abbrev zmH (h:Host)(b:List Entry)(m g c a:Int)(d:Bool):Bool:=pc (zdv h)
@[simp] abbrev zg0 (h:Host)(b:List Entry)(m g page need:Int)(io:Bool):Host:=(lookOf h b m g page need io).1
@[simp] abbrev zmG (h:Host)(b:List Entry)(m g c a:Int)(d:Bool):Int:=(lookOf h b m g c a d).2.1
@[simp] abbrev zi4 (h:Host)(b:List Entry)(m g c a:Int)(d:Bool):Bool:=(lookOf h b m g c a d).2.2
def ztU:List AV->Option (Bool×List AV)
 |[.agg [.s (.sl .int) c,.s .mon d,.s .entry e,.s .entry f],.one<|.s .entry g,.one<|.i .i64 h,.one<|.i .i64 j,.one<|.i .i64 k,.one<|.i .i64 l,.one<|.b m]=>some (zmH (⟨c,d,e,f⟩:Host) g h j k l m,[aH<|zg0 (⟨c,d,e,f⟩:Host) g h j k l m,aI<|zmG (⟨c,d,e,f⟩:Host) g h j k l m,aB<|zi4 (⟨c,d,e,f⟩:Host) g h j k l m])
 |_=>none
abbrev zSS (b:lM)(c:lN)(d:lE)(e:lE)(a:Int)(g:Int)(f:Int):Mon :=
 (ix (zgK (⟨b,c,d,e⟩:Host) a g f).Mons a zh)
abbrev zST (a:Host)(b c:Int)(d e:Int):Int :=
 (zeL (ix (ix a.Mons b zh).Guests c zu).Live d e)
def zOd (N:Nat)(a:Int)(b:lM)(c:lN)(d:lE)(e:lE):OA:=
 (some [aH (⟨b,c,d,e⟩:Host),aI a,aB true])
def zrG (N:Nat)(l:Int)(m:Bool)(n:Int)(c:Int)(d:Int)(k:lM)(e:lN)(a:lE)(b:lE)(f:lM)(g:lN)(h:lE)(i:lE):OA:=
 let q:=(⟨n,l,c,d⟩:Entry); (share (λ(j:(Int×Int×lM×lN×lE×lE×lM×lN×lE×lE×Unit))=>zOd N j.1 j.2.2.1 j.2.2.2.1 j.2.2.2.2.1 j.2.2.2.2.2.1) λp=>cond m (oN (zjJ b q)<|p (c,d,k,e,a,ziM b q,f,g,h,i,()))<|oN (zjJ a q)<|p (c,d,k,e,ziM a q,b,f,g,h,i,()))
def ztF (N:Nat)(d:lM)(e:lN)(f:lE)(g:lE)(b:Int)(i:Int)(h:Int)(a:Int)(c:Int)(y:(Int×Bool×Int×Int×Int×Int×Int×Int×Int×lM×lN×lE×lE×lM×lN×lE×lE×Unit)->OA)(r:Bool)(s:Int)(t:Int)(u:Int)(v:Int)(k:Int)(l:lM)(m:lN)(n:lE)(p:lE):OA:=
 let D:=(⟨d,e,f,g⟩:Host);let w:=zgK D b i h;let x:=inb b<|ln w.Mons;let j:=zSS d e f g b i h;let C:=ix j.Tables a zc7;let A:=(ix j.Guests a zu).Live; (oN (zgY D b i h)<|oN x<|oN x<|oN (inb a<|ln j.Tables)<|oN x<|oN (inb a<|ln j.Guests)<|oN x<|oN (zvR C A j.Outer c)<|oN (inb a<|ln j.Tables)<|share (up w.Mons b ({j with Tables:=(up j.Tables a<|zvQ C A j.Outer c)}:Mon)) (λq=>let B:=(ix q b zh).Tables;let z:=ix B a zc7; (oN (inb b<|ln q)<|oN (inb a<|ln B)<|oN (zc1 z c)<|y (c,r,s,t,u,v,k,(zka z c).Page,(zka z c).Rights,w.Memory,q,w.Buffer,w.IoBuffer,l,m,n,p,()))))
def znK (N:Nat)(d:Int)(e:Int)(c:Int)(n:Int)(p:Bool)(v:Int)(q:Int)(r:Int)(s:Int)(t:Int)(f:Int)(g:lM)(b:lN)(h:lE)(i:lE)(j:lM)(k:lN)(l:lE)(m:lE):OA:=
 let z:=(ix b d zh).Tables;let x:=ix z e zc7;let w:=zka x c; (oN (inb d<|ln b)<|oN (inb e<|ln z)<|oN (zc1 x c)<|share (λ(a:(Int×Bool×Int×Int×Int×Int×Int×Int×Int×lM×lN×lE×lE×lM×lN×lE×lE×Unit))=>zrG N a.1 a.2.1 a.2.2.1 a.2.2.2.2.2.2.2.1 a.2.2.2.2.2.2.2.2.1 a.2.2.2.2.2.2.2.2.2.1 a.2.2.2.2.2.2.2.2.2.2.1 a.2.2.2.2.2.2.2.2.2.2.2.1 a.2.2.2.2.2.2.2.2.2.2.2.2.1 a.2.2.2.2.2.2.2.2.2.2.2.2.2.1 a.2.2.2.2.2.2.2.2.2.2.2.2.2.2.1 a.2.2.2.2.2.2.2.2.2.2.2.2.2.2.2.1 a.2.2.2.2.2.2.2.2.2.2.2.2.2.2.2.2.1) (λu=>let y:=ztF N g b h i d v n e c u p q r s t f j k l m; (cond (nB<|zp2 x c) y<|cond (ieq w.Page<|-1) y<|oN (zbj w.Rights n)<|cond (nB<|zdi w.Rights n) y<|u (c,p,q,r,s,t,f,w.Page,w.Rights,g,b,h,i,j,k,l,m,()))))
def ztG (N:Nat)(g:Int)(a:Host)(h e f:Int)(l:lE)(n:Bool):OA:=
 let i:=zlv g h;let k:=zST a g h e f;let m:=ix a.Mons g zh;let s:=(ix m.Guests h zu).Live;let d:=zhq l i e;let j:=d.Rights; (oN (inb g<|ln a.Mons)<|oN (inb h<|ln m.Guests)<|oN (zfL s e f)<|cond (nB<|zdZ s e f) (some [aH a,aI<|-1,aB false])<|oN (zij g h)<|cond (ieq f 2) (oN (inb g<|ln a.Mons)<|oN (inb k<|ln m.Dirty)<|share (up a.Mons g ({m with Dirty:=(up m.Dirty k true)}:Mon)) λp=>oN (zix l i e)<|share (λ(c:(Int×Int×Int×Int×Bool×Int×Int×Int×Int×Int×Int×lM×lN×lE×lE×lM×lN×lE×lE×Unit))=>znK N c.1 c.2.1 c.2.2.1 c.2.2.2.1 c.2.2.2.2.1 c.2.2.2.2.2.1 c.2.2.2.2.2.2.1 c.2.2.2.2.2.2.2.1 c.2.2.2.2.2.2.2.2.1 c.2.2.2.2.2.2.2.2.2.1 c.2.2.2.2.2.2.2.2.2.2.1 c.2.2.2.2.2.2.2.2.2.2.2.1 c.2.2.2.2.2.2.2.2.2.2.2.2.1 c.2.2.2.2.2.2.2.2.2.2.2.2.2.1 c.2.2.2.2.2.2.2.2.2.2.2.2.2.2.1 c.2.2.2.2.2.2.2.2.2.2.2.2.2.2.2.1 c.2.2.2.2.2.2.2.2.2.2.2.2.2.2.2.2.1 c.2.2.2.2.2.2.2.2.2.2.2.2.2.2.2.2.2.1 c.2.2.2.2.2.2.2.2.2.2.2.2.2.2.2.2.2.2.1) λr=>cond (zgw l i e) (oN (zbj j f)<|cond (zdi j f) (some [aH ({a with Mons:=p}:Host),aI d.Host,aB true])<|r (g,h,e,f,n,k,i,d.Tag,d.Page,d.Host,j,a.Memory,p,a.Buffer,a.IoBuffer,[],[],[],[],()))<|r (g,h,e,f,n,k,i,d.Tag,d.Page,d.Host,j,a.Memory,p,a.Buffer,a.IoBuffer,[],[],[],[],()))<|oN (zix l i e)<|share (λ(b:(Int×Int×Int×Int×Bool×Int×Int×Int×Int×Int×Int×lM×lN×lE×lE×lM×lN×lE×lE×Unit))=>znK N b.1 b.2.1 b.2.2.1 b.2.2.2.1 b.2.2.2.2.1 b.2.2.2.2.2.1 b.2.2.2.2.2.2.1 b.2.2.2.2.2.2.2.1 b.2.2.2.2.2.2.2.2.1 b.2.2.2.2.2.2.2.2.2.1 b.2.2.2.2.2.2.2.2.2.2.1 b.2.2.2.2.2.2.2.2.2.2.2.1 b.2.2.2.2.2.2.2.2.2.2.2.2.1 b.2.2.2.2.2.2.2.2.2.2.2.2.2.1 b.2.2.2.2.2.2.2.2.2.2.2.2.2.2.1 b.2.2.2.2.2.2.2.2.2.2.2.2.2.2.2.1 b.2.2.2.2.2.2.2.2.2.2.2.2.2.2.2.2.1 b.2.2.2.2.2.2.2.2.2.2.2.2.2.2.2.2.2.1 b.2.2.2.2.2.2.2.2.2.2.2.2.2.2.2.2.2.2.1) λq=>cond (zgw l i e) (oN (zbj j f)<|cond (zdi j f) (some [aH a,aI d.Host,aB true])<|q (g,h,e,f,n,k,i,d.Tag,d.Page,d.Host,j,a.Memory,a.Mons,a.Buffer,a.IoBuffer,[],[],[],[],()))<|q (g,h,e,f,n,k,i,d.Tag,d.Page,d.Host,j,a.Memory,a.Mons,a.Buffer,a.IoBuffer,[],[],[],[],()))
def zsh (N:Nat)(a:Host)(g:lE)(b c:Int)(h d:Int)(i:Bool):OA:=
 let f:=ztG N b a c h d g i;let e:=wsub .i64 (ln (ix a.Mons b zh).Guests) 1; (oN (zcj a)<|cond (nB<|zci a) (some [aH a,aI<|-1,aB false])<|oN (zJ b 0<|wsub .i64 (ln a.Mons) 1)<|cond (nB<|zi b 0<|wsub .i64 (ln a.Mons) 1) (some [aH a,aI<|-1,aB false])<|oN (inb b<|ln a.Mons)<|oN (zJ c 0 e)<|cond (nB<|zi c 0 e) (some [aH a,aI<|-1,aB false])<|cond (ine d 1) (cond (ine d 2) (some [aH a,aI<|-1,aB false]) f) f)
def zt2:=zq [(372,999999,{n:=0,tm:=[],lo:=[],ro:=[]}),(372,1007023,{n:=210,tm:=[(2,ti),(3,ti),(4,ti),(5,ti),(6,.b),(7,.lp 0 0),(14,.lp 1 0),(17,ti),(19,ti),(20,.lp 2 0)],lo:=[(0,[.sl 0 [],.sl 1 [],.sl 2 [],.sl 3 []]),(1,[.sl 4 [],.sl 5 [],.sl 6 [],.sl 7 []]),(2,[ti,ti,ti,ti])],ro:=[(0,.sl .int,true),(1,.mon,true),(2,.entry,true),(3,.entry,true),(4,.sl .int,true),(5,.mon,true),(6,.entry,true),(7,.entry,true)],kr:=1}),(372,1009011,{n:=210,tm:=[(4,ti),(6,.b),(7,.lp 0 0),(14,.lp 1 0),(19,ti),(20,.lp 2 0),(22,.lp 3 0)],lo:=[(0,[.sl 0 [],.sl 1 [],.sl 2 [],.sl 3 []]),(1,[.sl 4 [],.sl 5 [],.sl 6 [],.sl 7 []]),(2,[ti,ti,ti,ti]),(3,[ti,ti])],ro:=[(0,.sl .int,true),(1,.mon,true),(2,.entry,true),(3,.entry,true),(4,.sl .int,true),(5,.mon,true),(6,.entry,true),(7,.entry,true)],kr:=1}),(372,1005003,{n:=210,tm:=[(7,.lp 0 0),(14,.lp 1 0),(22,.lp 2 0)],lo:=[(0,[.sl 0 [],.sl 1 [],.sl 2 [],.sl 3 []]),(1,[.sl 4 [],.sl 5 [],.sl 6 [],.sl 7 []]),(2,[ti,ti])],ro:=[(0,.sl .int,true),(1,.mon,true),(2,.entry,true),(3,.entry,true),(4,.sl .int,true),(5,.mon,true),(6,.entry,true),(7,.entry,true)],kr:=1})]
theorem zQF (N:Nat)(a:Host)(b c:Int)(d e:Int)(f:Bool):zUK (cQ zo7 zqA z2s z2Z) zt2 N 12 372 [true,true,true,true,false,false,false,false,false,false] [(4,2)] 1 1 [[0],[1],[2],[4],[7]] .mon [aH a,aS .entry a.Buffer,aI b,aI c,aI d,aI e,aB f]=zsh N a a.Buffer b c d e f:=by kernel_rfl
theorem zQG (N:Nat)(a:Host)(b c:Int)(d e:Int)(f:Bool):zUK (cQ zo7 zqA z2s z2Z) zt2 N 12 372 [true,true,true,true,false,false,false,false,false,false] [(4,3)] 1 1 [[0],[1],[2],[4],[7]] .mon [aH a,aS .entry a.IoBuffer,aI b,aI c,aI d,aI e,aB f]=zsh N a a.IoBuffer b c d e f:=by kernel_rfl
theorem zEw {N:Nat}{r:Host}{m g a:Int}{b:Bool}{z1 z2 z3 z4}(c:r.Buffer.length<=1048576)(d:r.IoBuffer.length<=1048576) :
 zrG N a b (zfa m g) (zeX (zcp r m g) a).Page (zeX (zcp r m g) a).Rights r.Memory r.Mons r.Buffer r.IoBuffer z1 z2 z3 z4=some (zl8<|zfU r m g a b):=by
 unfold zrG oN
 conv=>zeta
 refine shr ?_;cases b
 .exact zb4 rfl (must (zbu c) rfl)
 .exact must rfl (must (zbu d) rfl)
theorem zVI {N:Nat}{r:Host}{m g a b q:Int}{c:Bool}{R:OA}{r11}{u6 u7 u8 u9 u10 z1 z2 z3 z4}(A:LookAt r m g q b)(d:r11 (a,c,u6,u7,u8,u9,u10,(zeX (zcp (zcQ (mended r m q b) m g a) m g) a).Page,(zeX (zcp (zcQ (mended r m q b) m g a) m g) a).Rights,(zcQ (mended r m q b) m g a).Memory,(zcQ (mended r m q b) m g a).Mons,(zcQ (mended r m q b) m g a).Buffer,(zcQ (mended r m q b) m g a).IoBuffer,z1,z2,z3,z4,())=R) :
 ztF N r.Memory r.Mons r.Buffer r.IoBuffer m q b g a r11 c u6 u7 u8 u9 u10 z1 z2 z3 z4=R:=by
 have M:=zn1 A.kp A.hm A.hg;have F:=zn1 (A.fill a) A.hm A.hg;unfold ztF oN
 conv=>zeta
 exact must (zbu A.mend) (must (zA M.hm)<|must (zA M.hm)<|must (zA M.ht)<|must (zA M.hm)<|must (zA M.hg)<|must (zA M.hm)<|must (zbu M.hk)<|must (zA M.ht)<|shr<|must (zA F.hm)<|must (zA F.ht)<|must (zbu F.hk) d)
theorem z0Q {r:Host}{m g a b:Int}(h:zmq (zcp r m g) a=false):zfJ r m g a b=true:=by unfold zfJ;rw[h];rfl
theorem z0R {r:Host}{m g a b:Int}(h:ieq (zeX (zcp r m g) a).Page (-1)=true):zfJ r m g a b=true:=by unfold zfJ;rw[h];cases zmq (zcp r m g) a<;>rfl
theorem z0S {r:Host}{m g a b:Int}(h:enough (zeX (zcp r m g) a).Rights b=false):zfJ r m g a b=true:=by unfold zfJ;rw[h];cases zmq (zcp r m g) a<;>cases ieq (zeX (zcp r m g) a).Page (-1)<;>rfl
theorem z0T {r:Host}{m g a b:Int}(c:zmq (zcp r m g) a=true)(d:ieq (zeX (zcp r m g) a).Page (-1)=false)(e:enough (zeX (zcp r m g) a).Rights b=true):zfJ r m g a b=false:=by unfold zfJ;rw[c,d,e];rfl
theorem zuP {r:Host}{m g a b q:Int}{c:Bool}(h:zfJ r m g a b=true):(cond (zfJ r m g a b) (zfU (zcQ (mended r m q b) m g a) m g a c)<|zfU r m g a c)=zfU (zcQ (mended r m q b) m g a) m g a c:=by rw[h];rfl
theorem z0u {r:Host}{m g a b q:Int}{c:Bool}(h:zfJ r m g a b=false):(cond (zfJ r m g a b) (zfU (zcQ (mended r m q b) m g a) m g a c)<|zfU r m g a c)=zfU r m g a c:=by rw[h];rfl
theorem zEx {N:Nat}{r:Host}{m g a b q:Int}{f:Bool}{u7 u8 u9 u10 z1 z2 z3 z4}(A:LookAt r m g q b) :
 znK N m g a b f q (zfa m g) u7 u8 u9 u10 r.Memory r.Mons r.Buffer r.IoBuffer z1 z2 z3 z4=some (zl8<|cond (zfJ r m g a b) (zfU (zcQ (mended r m q b) m g a) m g a f)<|zfU r m g a f):=by
 have M:=zn1 ⟨A.fit.1,rfl⟩ A.hm A.hg;have F:=zn1 (A.fill a) A.hm A.hg;unfold znK oN nB
 conv=>zeta
 refine must (zA M.hm) (must (zA M.ht)<|must (zbu M.hk)<|shr<|brN (λc=>?_) λc=>br (λd=>?_) λd=>must rfl (brN (λe=>?_) λe=>?_))
 .rw [zuP<|z0Q c];exact zVI A (zEw (r:=zcQ (mended r m q b) m g a) (m:=m) (g:=g) F.hb F.hi)
 .rw [zuP<|z0R d];exact zVI A (zEw (r:=zcQ (mended r m q b) m g a) (m:=m) (g:=g) F.hb F.hi)
 .rw [zuP<|z0S e];exact zVI A (zEw (r:=zcQ (mended r m q b) m g a) (m:=m) (g:=g) F.hb F.hi)
 .rw [z0u<|z0T c d e];exact zEw (r:=r) (m:=m) (g:=g) M.hb M.hi
theorem zEA {b:List Entry}{m g a c:Int}(h:(zs7 b m g a).isSome=false):zj3 b m g a c=false:=by unfold zj3;rw[h];rfl
theorem zpW {b:List Entry}{m g a c:Int}{x:Bool}(d:(zs7 b m g a).isSome=true)(h:enough ((zs7 b m g a).getD ⟨0,0,0,0⟩).Rights c=x):zj3 b m g a c=x:=by unfold zj3;rw[d,h];rfl
theorem zpZ {r:Host}{b:List Entry}{m g a c q:Int}{d:Bool}(h:zj3 b m g a c=false):zhQ r b m g a c q d=bif zfJ r m g a c then zfU (zcQ (mended r m q c) m g a) m g a d else zfU r m g a d:=by unfold zhQ;rw[h];rfl
theorem zEE {r:Host}{b:List Entry}{m g a c q:Int}{d:Bool}(h:zj3 b m g a c=true):zhQ r b m g a c q d=(r,((zs7 b m g a).getD ⟨0,0,0,0⟩).Host,true):=by unfold zhQ;rw[h];rfl
theorem zJB {h:Host}{b:List Entry}{m g c a:Int}{d:Bool}(e:zbZ h m g c a=true):lookOf h b m g c a d=zhQ (cond (ieq a 2) (zbO h m<|zcx (zcP h m g) c a) h) b m g c a (zcx (zcP h m g) c a) d:=by unfold lookOf;rw[e];rfl
theorem z4o {N:Nat}{r:Host}{b:List Entry}{m g c a:Int}{f:Bool}(p:SmH r)(hg:zb8 r m g=true)(k:zhw a=true) :
 ztG N m r g c a b f=some (zl8 (lookOf r b m g c a f)):=by
 obtain⟨q,h,l⟩:=zdO hg;unfold ztG oN nB
 conv=>zeta
 refine must (zA h) (must (zA l) (must rfl (brN (fun j=>?_) (fun j=>must rfl ?_))))
 .have:zbZ r m g c a=false:=by
   unfold zbZ;rw[hg,k,show zfK (zcP r m g) c a=false from j];rfl
  rw[zjg this];rfl
 .have hl:zbZ r m g c a=true:=by
   unfold zbZ;rw[hg,k,show zfK (zcP r m g) c a=true from j];rfl
  obtain⟨A,B⟩:=zDM p hl;rw[zJB hl];have n:hasB (zcx (zcP r m g) c a) (ln (ix r.Mons m mZ).Dirty)=true:=zez (zcW A.fit.1 h).2.2.2.1 A.hq;refine br (fun i=>?_) (fun i=>?_)
  .rw [i]
   show _=some (zl8 (zhQ (zbO r m (zcx (zcP r m g) c a)) b m g c a (zcx (zcP r m g) c a) f))
   refine must (zA h) (must (zA n) (shr (must rfl (shr (br (fun d=>must rfl (br (fun e=>?_) (fun e=>?_))) (fun d=>?_))))))
   .rw [zEE (zpW d e)];rfl
   .rw [zpZ (zpW d e)];exact zEx (r:=zbO r m (zcx (zcP r m g) c a)) B
   .rw [zpZ (zEA d)];exact zEx (r:=zbO r m (zcx (zcP r m g) c a)) B
  .rw [i]
   show _=some (zl8 (zhQ r b m g c a (zcx (zcP r m g) c a) f))
   refine must rfl (shr (br (fun d=>must rfl (br (fun e=>?_) (fun e=>?_))) (fun d=>?_)))
   .rw [zEE (zpW d e)];rfl
   .rw [zpZ (zpW d e)];exact zEx A
   .rw [zpZ (zEA d)];exact zEx A
theorem zUj (a:Host)(f:List Entry)(b c:Int)(e d:Int)(g:Bool)(t:zbE big [aH a,aS .entry f,aI b,aI c,aI e,aI d,aB g])(r:zmH a f b c e d g=true):∃N,zsh N a f b c e d g=some [aH<|zg0 a f b c e d g,aI<|zmG a f b c e d g,aB<|zi4 a f b c e d g]:=by
 have j:=(zO a).1 (zD.1 r);refine⟨0,?_⟩;show _=some (zl8<|lookOf a f b c e d g);unfold zsh oN nB;conv=>zeta
 refine must rfl (brN (λk=>?_) λk=>must rfl ?_);{rw [zjg<|zp0<|zOt k];rfl};rw[show zi b 0 (wsub .i64 (ln a.Mons) 1)=hasB b (ln a.Mons) from zsg j.2.1.1 b];refine brN (λi=>?_) (λi=>must (zA i) (must rfl ?_));{rw [zjg<|zp0<|zOu i];rfl};have s:(ix a.Mons b mZ).Guests.length<=1048576:=(j.2.1.2 _<|zbQ i _).2.2.2.1.1;rw[show zi c 0 (wsub .i64 (ln (ix a.Mons b zh).Guests) 1)=hasB c (ln (ix a.Mons b mZ).Guests) from zsg s c];refine brN (λl=>?_) (λl=>?_);{rw [zjg<|zp0<|zOv l];rfl};have hg:=zOw k i l;have p:∀{n:Int},zhw n=false->zbZ a b c e n=false:=λ{n} h=>(by unfold zbZ;rw[hg,h];rfl);rw[zje,zje];cases m:ieq d 1;{cases q:ieq d 2;{have:zhw d=false:=(by unfold zhw;rw[m,q];rfl);rw[zjg<|p this];rfl};{exact z4o j hg (by unfold zhw;rw[m,q];rfl)}};{exact z4o j hg (by unfold zhw;rw[m];rfl)}
theorem zMm:zfB Tryz.prog 372 [true,true,true,true,false,false,false,false,false,false] (some (1,1,[[0],[1],[2],[4],[7]])) ztU:=by refine zOx (kt:=.mon) (zin zjn zl zbB zy7) (zkm (by kernel_rfl)) ?_;intro p s x f i w v h;have t:=zk8 v;have g:p=[(4,2)]\/p=[(4,3)]:=(by rw[show zkh 372=[[(4,2)],[(4,3)]] from by kernel_rfl]at f;simpa using f);unfold ztU at h;split at h;{rename_i a b c d r j k l m n;obtain⟨u,rfl⟩:=zfo h;obtain⟨N,q⟩:=zUj (⟨a,b,c,d⟩:Host) r j k l m n t u;refine⟨⟨_,rfl⟩,rfl,zt2,N,12,?_⟩;rcases g with rfl|rfl;{have e:=i 4 2 (by simp);simp only[zF,kD,AV.cvs] at e;cases e;exact(zQF N (⟨a,b,c,d⟩:Host) j k l m n).trans q};{have e:=i 4 3 (by simp);simp only[zF,kD,AV.cvs] at e;cases e;exact(zQG N (⟨a,b,c,d⟩:Host) j k l m n).trans q}};{cases h}
def z8t:zgP:=[(372,[true,true,true,true,false,false,false,false,false,false],some (1,1,[[0],[1],[2],[4],[7]]),ztU)]++z2Z
theorem zir:zfu z8t:=zsd zy7 (by
 intro x a;simp only[qG,qZ,or_false]at a;rcases a with rfl
 .exact zMm)
def gOf (h:Host)(m g:Int):Guest:=ix (ix h.Mons m mZ).Guests g gZ
def zht (h:Host)(m g:Int)(x:Guest):Host:={h with Mons:=up h.Mons m {ix h.Mons m mZ with Guests:=up (ix h.Mons m mZ).Guests g x}}
def zjR (h:Host)(m g:Int)(x:Guest)(w:Bool):Host×Int×Bool:=lookOf h h.Buffer m g (zbp<|address x) (zcq w) false
def ziz (L:Host×Int×Bool)(m g:Int)(x:Guest)(w:Bool):Host :=
 bif L.2.2 then (cond w (zht {L.1 with Memory:=zbU L.1.Memory L.2.1 (zee<|address x) x.A} m g<|zcg x)<|zht L.1 m g<|loaded x<|cellAt L.1.Memory L.2.1<|zee<|address x)
 else zht L.1 m g (stopped x<|zs6 (zbp<|address x) w)
def owned (h:Host)(m:Int):Host:=bif ilt (ix h.Mons m mZ).Own 1000000000 then {h with Mons:=up h.Mons m {ix h.Mons m mZ with Own:=zN .i64 (ix h.Mons m mZ).Own 1}} else h
def zjw (h:Host)(m n:Int):Host:=bif ilt (ln (ix h.Mons m mZ).Outs) 40 then {h with Mons:=up h.Mons m {ix h.Mons m mZ with Outs:=ap (ix h.Mons m mZ).Outs [n]}} else h
def zfA (h:Host)(m:Int)(x:Guest)(w:Int):Host:=bif (cond (ine w 6) (ieq (zoB (ix h.Mons m mZ).Traps x.Ctl.Traps<|zgM w) 2) false) then owned h m else h
def zh3 (h:Host)(m:Int)(x:Guest)(w:Int):Host:=bif (cond (zis x.Ctl.Traps w) (ieq w 5) false) then zjw h m (zcF x.Prog x.Pc).X else h
def zmm (h:Host)(m g:Int)(x:Guest)(w:Int):Host:=zht (zh3 (zfA h m x w) m x w) m g (zgO x x.Ctl.Traps w)
def zNH (h:Host)(m g:Int)(x:Guest)(w:Int):Host×Bool :=
 bif ieq w 0 then (h,false) else (bif ieq w 1 then (zht h m g<|interrupted x,true) else (bif ieq w 2 then (zht h m g<|plainly x,true) else
  (cond (cond (ieq w 3) true<|ieq w 4) (ziz (zjR h m g x<|ieq w 4) m g x<|ieq w 4,true) (zmm h m g x w,true))))
def zcH (h:Host)(m g:Int):Host×Bool:=bif zb8 h m g then zNH h m g (gOf h m g) (zL<|gOf h m g) else (h,false)
def zft (x:Host×Bool):List AV:=[.agg<|zbh x.1,.one<|.b x.2]
theorem zmx {h:Host}{m g:Int}(b:SmH h)(a:hasB m (ln h.Mons)=true)(hg:hasB g (ln (ix h.Mons m mZ).Guests)=true):SmG (gOf h m g):=(b.2.1.2 _<|zbQ a _).2.2.2.1.2 _ (zbQ hg _)
theorem z2M {h:Host}{m g:Int}{x:Guest}(c:Shape h)(d:hasB m (ln h.Mons)=true)(e:SmG x):Shape (zht h m g x):=by obtain⟨a,b⟩:=zcW c d;exact zkX c ⟨a.1,a.2.1,a.2.2.1,zEP a.2.2.2.1 e,a.2.2.2.2⟩ ⟨b.1,b.2.1,b.2.2.1,by simpa using b.2.2.2⟩
theorem zbcC (o i t:Int):ieq (zoB o i t) 1=zey i t:=by unfold zoB;cases zey i t;{cases zey o t<;>rfl};{rfl}
theorem zbcD {o i t:Int}(h:zey i t=true):ieq (zoB o i t) 2=false:=by unfold zoB;rw[h];rfl
theorem zqB {h:Host}{m:Int}(b:hasB m (ln h.Mons)=true)(x:Mon):ix (up h.Mons m x) m mZ=x:=by obtain⟨k,rfl,a⟩:=zeN (n:=h.Mons.length) b;exact zed a _ _
@[simp] abbrev zcA (h:Host)(m g:Int):Host:=(zcH h m g).1
@[simp] abbrev zcJ (h:Host)(m g:Int):Bool:=(zcH h m g).2
theorem zUL {a:Type}{l:List a}{x:a}(h:ilt (ln l) 40=true):few (ln<|ap l [x])=true:=by have:=qD h;simp only[ln] at this;exact zfE (by simp[ap];omega)
theorem z0W {h:Host}{m:Int}{x:Guest}{w:Int}(a:(cond (zis x.Ctl.Traps w) (ieq w 5) false)=false):zh3 h m x w=h:=by unfold zh3;rw[a];rfl
theorem zSO {h:Host}{m:Int}{x:Guest}{w:Int}(a:ilt (ln (ix h.Mons m mZ).Outs) 40=false):zh3 h m x w=h:=by unfold zh3 zjw;rw[a];cases (cond (zis x.Ctl.Traps w) (ieq w 5) false)<;>rfl
theorem zX2 {h:Host}{m:Int}{x:Guest}{w:Int}(a:zis x.Ctl.Traps w=true)(b:ieq w 5=true)(c:ilt (ln (ix h.Mons m mZ).Outs) 40=true):zh3 h m x w={h with Mons:=up h.Mons m {ix h.Mons m mZ with Outs:=ap (ix h.Mons m mZ).Outs [(zcF x.Prog x.Pc).X]}}:=by unfold zh3 zjw;rw[a,b,c];rfl
theorem zNN {h:Host}{m:Int}{x:Guest}{w:Int}(a:zis x.Ctl.Traps w=false):zh3 h m x w=h:=z0W (by rw[a];rfl)
theorem zEh {h:Host}{m:Int}{x:Guest}{w:Int}(a:ieq w 5=false):zh3 h m x w=h:=z0W (by rw[a];cases zis x.Ctl.Traps w<;>rfl)
theorem zMs (a:Int):(cond (ieq a a) true false)=true:=by rw[zdS];rfl
theorem zke {h:Host}{m g:Int}(a:zb8 h m g=false):zcH h m g=(h,false):=by unfold zcH;rw[a];rfl
theorem zkY {h:Host}{m g:Int}(a:zb8 h m g=true):zcH h m g=zNH h m g (gOf h m g) (zL<|gOf h m g):=by unfold zcH;rw[a];rfl
theorem zoz {a b:Bool}(h:(cond a b false)=true):a=true/\b=true:=by cases a;{cases h};{exact⟨rfl,h⟩}
theorem zk2 {a b:Bool}(c:a=true)(d:b=true):(cond a b false)=true:=by rw[c];exact d
theorem z0Z {h:Host}{m:Int}{x:Guest}{w:Int}(b:ine w 6=true)(a:ieq (zoB (ix h.Mons m mZ).Traps x.Ctl.Traps<|zgM w) 2=true)(c:ilt (ix h.Mons m mZ).Own 1000000000=true):zfA h m x w={h with Mons:=up h.Mons m {ix h.Mons m mZ with Own:=zN .i64 (ix h.Mons m mZ).Own 1}}:=by unfold zfA owned;rw[b,a,c];rfl
theorem z0X {h:Host}{m:Int}{x:Guest}{w:Int}(a:ieq (zoB (ix h.Mons m mZ).Traps x.Ctl.Traps<|zgM w) 2=false):zfA h m x w=h:=by unfold zfA;rw[a];cases ine w 6<;>rfl
theorem z0Y {h:Host}{m:Int}{x:Guest}{w:Int}(a:ilt (ix h.Mons m mZ).Own 1000000000=false):zfA h m x w=h:=by unfold zfA owned;rw[a];cases (cond (ine w 6) (ieq (zoB (ix h.Mons m mZ).Traps x.Ctl.Traps<|zgM w) 2) false)<;>rfl
theorem zbbE {h:Host}{m:Int}{x:Guest}:zfA h m x 6=h:=rfl
theorem zpR {h a:Host}{m g:Int}{x:Guest}{w:Int}(e:zfA h m x w=a):zmm h m g x w=zht (zh3 a m x w) m g (zgO x x.Ctl.Traps w):=by unfold zmm;rw[e]
theorem z8u (x:Guest):ieq (zL x) 0=true\/ieq (zL x) 1=true\/ieq (zL x) 2=true\/ieq (zL x) 3=true\/ieq (zL x) 4=true\/ieq (zL x) 5=true\/ieq (zL x) 6=true\/ieq (zL x) 7=true:=by cases a:ieq (zL x) 0;{cases b:ieq (zL x) 1;{cases c:ieq (zL x) 2;{cases d:ieq (zL x) 3;{cases e:ieq (zL x) 4;{cases f:ieq (zL x) 5;{cases g:ieq (zL x) 6;{exact .inr (.inr<|.inr<|.inr<|.inr<|.inr<|.inr<|zUU x a b c d e f g)};{exact .inr (.inr<|.inr<|.inr<|.inr<|.inr (.inl rfl))}};{exact .inr (.inr<|.inr<|.inr<|.inr (.inl rfl))}};{exact .inr (.inr<|.inr<|.inr (.inl rfl))}};{exact .inr (.inr<|.inr (.inl rfl))}};{exact .inr (.inr (.inl rfl))}};{exact .inr (.inl rfl)}};{exact .inl rfl}
abbrev zBk (x:Guest):Bool:=bif zbx x then ieq (zL x) 0 else false
def zq5:List AV->Option (Bool×List AV)
 |[.agg [.s .ins c,.i .i64 d,.i .i64 e,.s .slot f,.s .slot g,.i .i64 h,.i .i64 j,.b k,.i .i64 l,.i .i64 m,.i .i64 n,.b o,.i .i64 p,.b q,.s .int r]]=>some (zBk (⟨c,d,e,f,g,⟨h,j,k⟩,l,⟨m,n,o,p⟩,q,r⟩:Guest),[.one<|.i .i64 0])
 |_=>none
theorem zFo:vV 201 zq5:=by refine⟨zcO.1,λw b g j a h=>?_⟩;unfold zq5 at h;split at h;{obtain⟨f,rfl⟩:=zfo h;obtain⟨d,e⟩:=zoz f;exact zcO.2 w _ g _ a (congr (congrArg (λc v=>some (c,[AV.one<|CV.i .i64 v])) d) (qD e))};{cases h}
def zbaC:zbd:=[(201,zq5)]++zo7
theorem z1p:zQ zbaC:=zf zFo zjn
@[simp] abbrev zw6 (h:Host)(m g:Int):Bool:=bif zdz h m g then ieq (zL<|gOf h m g) 0 else false
def zFK:Run:=rF3 dH dI dI λb c d=>(zw6 b c d,[aH<|zcA b c d,aB<|zcJ b c d])
def zv8 (N:Nat)(d:Host)(b c:Int):OA:=
 let a:=zk d;let e:=(ix a.Mons b zh).Guests; (oN (zM d)<|oN (zdz a b c)<|cond (nB<|zlz a b c) (some [aH a,aB false])<|oN (inb b<|ln a.Mons)<|oN (inb c<|ln e)<|oN (zBk<|ix e c zu)<|some [aH a,aB false])
abbrev zBl (x:Guest):Bool:=bif zbx x then ieq (zL x) 1 else false
def zq6:List AV->Option (Bool×List AV)
 |[.agg [.s .ins c,.i .i64 d,.i .i64 e,.s .slot f,.s .slot g,.i .i64 h,.i .i64 j,.b k,.i .i64 l,.i .i64 m,.i .i64 n,.b o,.i .i64 p,.b q,.s .int r]]=>some (zBl (⟨c,d,e,f,g,⟨h,j,k⟩,l,⟨m,n,o,p⟩,q,r⟩:Guest),[.one<|.i .i64 1])
 |_=>none
theorem zFp:vV 201 zq6:=by refine⟨zcO.1,λw b g j a h=>?_⟩;unfold zq6 at h;split at h;{obtain⟨f,rfl⟩:=zfo h;obtain⟨d,e⟩:=zoz f;exact zcO.2 w _ g _ a (congr (congrArg (λc v=>some (c,[AV.one<|CV.i .i64 v])) d) (qD e))};{cases h}
def zbaD:zbd:=[(201,zq6)]++zo7
theorem z1q:zQ zbaD:=zf zFp zjn
@[simp] abbrev zw7 (h:Host)(m g:Int):Bool:=bif zdz h m g then ieq (zL<|gOf h m g) 1 else false
def zFL:Run:=rF3 dH dI dI λb c d=>(zw7 b c d,[aH<|zcA b c d,aB<|zcJ b c d])
def zv9 (N:Nat)(f:Host)(b c:Int):OA:=
 let a:=zk f;let d:=ix a.Mons b zh;let e:=ix d.Guests c zu; (oN (zM f)<|oN (zdz a b c)<|cond (nB<|zlz a b c) (some [aH a,aB false])<|oN (inb b<|ln a.Mons)<|oN (inb c<|ln d.Guests)<|oN (zBl e)<|oN (inb b<|ln a.Mons)<|oN (zK e)<|oN (inb c<|ln d.Guests)<|share (up a.Mons b ({d with Guests:=(up d.Guests c<|zfg e)}:Mon)) λg=>some [aH ({a with Mons:=g}:Host),aB true])
abbrev zBm (x:Guest):Bool:=bif zbx x then ieq (zL x) 2 else false
def zq7:List AV->Option (Bool×List AV)
 |[.agg [.s .ins c,.i .i64 d,.i .i64 e,.s .slot f,.s .slot g,.i .i64 h,.i .i64 j,.b k,.i .i64 l,.i .i64 m,.i .i64 n,.b o,.i .i64 p,.b q,.s .int r]]=>some (zBm (⟨c,d,e,f,g,⟨h,j,k⟩,l,⟨m,n,o,p⟩,q,r⟩:Guest),[.one<|.i .i64 2])
 |_=>none
theorem zFq:vV 201 zq7:=by refine⟨zcO.1,λw b g j a h=>?_⟩;unfold zq7 at h;split at h;{obtain⟨f,rfl⟩:=zfo h;obtain⟨d,e⟩:=zoz f;exact zcO.2 w _ g _ a (congr (congrArg (λc v=>some (c,[AV.one<|CV.i .i64 v])) d) (qD e))};{cases h}
def zbaE:zbd:=[(201,zq7)]++zo7
theorem z1r:zQ zbaE:=zf zFq zjn
@[simp] abbrev zw8 (h:Host)(m g:Int):Bool:=bif zdz h m g then ieq (zL<|gOf h m g) 2 else false
def zFM:Run:=rF3 dH dI dI λb c d=>(zw8 b c d,[aH<|zcA b c d,aB<|zcJ b c d])
def zwa (N:Nat)(f:Host)(b c:Int):OA:=
 let a:=zk f;let d:=ix a.Mons b zh;let e:=ix d.Guests c zu; (oN (zM f)<|oN (zdz a b c)<|cond (nB<|zlz a b c) (some [aH a,aB false])<|oN (inb b<|ln a.Mons)<|oN (inb c<|ln d.Guests)<|oN (zBm e)<|oN (inb b<|ln a.Mons)<|oN (zK e)<|oN (inb c<|ln d.Guests)<|share (up a.Mons b ({d with Guests:=(up d.Guests c<|zh8 e)}:Mon)) λg=>some [aH ({a with Mons:=g}:Host),aB true])
abbrev zBn (x:Guest):Bool:=bif zbx x then ieq (zL x) 3 else false
def zq8:List AV->Option (Bool×List AV)
 |[.agg [.s .ins c,.i .i64 d,.i .i64 e,.s .slot f,.s .slot g,.i .i64 h,.i .i64 j,.b k,.i .i64 l,.i .i64 m,.i .i64 n,.b o,.i .i64 p,.b q,.s .int r]]=>some (zBn (⟨c,d,e,f,g,⟨h,j,k⟩,l,⟨m,n,o,p⟩,q,r⟩:Guest),[.one<|.i .i64 3])
 |_=>none
theorem zFr:vV 201 zq8:=by refine⟨zcO.1,λw b g j a h=>?_⟩;unfold zq8 at h;split at h;{obtain⟨f,rfl⟩:=zfo h;obtain⟨d,e⟩:=zoz f;exact zcO.2 w _ g _ a (congr (congrArg (λc v=>some (c,[AV.one<|CV.i .i64 v])) d) (qD e))};{cases h}
def zbaF:zbd:=[(201,zq8)]++zo7
theorem z1s:zQ zbaF:=zf zFr zjn
@[simp] abbrev zw9 (h:Host)(m g:Int):Bool:=bif zdz h m g then ieq (zL<|gOf h m g) 3 else false
def zFN:Run:=rF3 dH dI dI λb c d=>(zw9 b c d,[aH<|zcA b c d,aB<|zcJ b c d])
def zwb (N:Nat)(m:Host)(a b:Int):OA:=
 let c:=zk m;let n:=(ix c.Mons a zh).Guests;let h:=ix n b zu;let f:=zhp h;let g:=zbw f;let l:=zmG c c.Buffer a b g (zcR false) false;let d:=zg0 c c.Buffer a b g (zcR false) false;let e:=ix d.Mons a zh;let j:=ix e.Guests b zu;let i:=({h with Prog:=j.Prog,Written:=j.Written,Live:=j.Live,Seen:=j.Seen}:Guest); (oN (zM m)<|oN (zdz c a b)<|cond (nB<|zlz c a b) (some [aH c,aB false])<|oN (inb a<|ln c.Mons)<|oN (inb b<|ln n)<|oN (zBn h)<|oN (zbx h)<|oN (zbs f)<|oN (ziK false)<|oN (zmH c c.Buffer a b g (zcR false) false)<|cond (nB<|zi4 c c.Buffer a b g (zcR false) false) (oN (inb a<|ln d.Mons)<|oN (zbs f)<|oN (zgv g false)<|oN (zcn i<|zeW g false)<|oN (inb b<|ln e.Guests)<|share (up d.Mons a ({e with Guests:=(up e.Guests b<|zcz i<|zeW g false)}:Mon)) λk=>some [aH ({d with Mons:=k}:Host),aB true])<|oN (inb a<|ln d.Mons)<|oN (zbs f)<|oN (zeK d.Memory l<|zcv f)<|oN (zkv i<|zf6 d.Memory l<|zcv f)<|oN (inb b<|ln e.Guests)<|share (up d.Mons a ({e with Guests:=(up e.Guests b<|zjI i<|zf6 d.Memory l<|zcv f)}:Mon)) λk=>some [aH ({d with Mons:=k}:Host),aB true])
abbrev zBo (x:Guest):Bool:=bif zbx x then ieq (zL x) 4 else false
def zq9:List AV->Option (Bool×List AV)
 |[.agg [.s .ins c,.i .i64 d,.i .i64 e,.s .slot f,.s .slot g,.i .i64 h,.i .i64 j,.b k,.i .i64 l,.i .i64 m,.i .i64 n,.b o,.i .i64 p,.b q,.s .int r]]=>some (zBo (⟨c,d,e,f,g,⟨h,j,k⟩,l,⟨m,n,o,p⟩,q,r⟩:Guest),[.one<|.i .i64 4])
 |_=>none
theorem zFs:vV 201 zq9:=by refine⟨zcO.1,λw b g j a h=>?_⟩;unfold zq9 at h;split at h;{obtain⟨f,rfl⟩:=zfo h;obtain⟨d,e⟩:=zoz f;exact zcO.2 w _ g _ a (congr (congrArg (λc v=>some (c,[AV.one<|CV.i .i64 v])) d) (qD e))};{cases h}
def zbaG:zbd:=[(201,zq9)]++zo7
theorem z1t:zQ zbaG:=zf zFs zjn
@[simp] abbrev zxa (h:Host)(m g:Int):Bool:=bif zdz h m g then ieq (zL<|gOf h m g) 4 else false
def zFO:Run:=rF3 dH dI dI λb c d=>(zxa b c d,[aH<|zcA b c d,aB<|zcJ b c d])
def zwc (N:Nat)(l:Host)(a b:Int):OA:=
 let c:=zk l;let n:=(ix c.Mons a zh).Guests;let g:=ix n b zu;let h:=zhp g;let f:=zbw h;let m:=zmG c c.Buffer a b f (zcR true) false;let d:=zg0 c c.Buffer a b f (zcR true) false;let e:=ix d.Mons a zh;let j:=ix e.Guests b zu;let i:=({g with Prog:=j.Prog,Written:=j.Written,Live:=j.Live,Seen:=j.Seen}:Guest); (oN (zM l)<|oN (zdz c a b)<|cond (nB<|zlz c a b) (some [aH c,aB false])<|oN (inb a<|ln c.Mons)<|oN (inb b<|ln n)<|oN (zBo g)<|oN (zbx g)<|oN (zbs h)<|oN (ziK true)<|oN (zmH c c.Buffer a b f (zcR true) false)<|cond (nB<|zi4 c c.Buffer a b f (zcR true) false) (oN (inb a<|ln d.Mons)<|oN (zbs h)<|oN (zgv f true)<|oN (zcn i<|zeW f true)<|oN (inb b<|ln e.Guests)<|share (up d.Mons a ({e with Guests:=(up e.Guests b<|zcz i<|zeW f true)}:Mon)) λk=>some [aH ({d with Mons:=k}:Host),aB true])<|oN (zbs h)<|oN (zdf d.Memory m (zcv h) g.A)<|oN (inb a<|ln d.Mons)<|oN (zK i)<|oN (inb b<|ln e.Guests)<|share (up d.Mons a ({e with Guests:=(up e.Guests b<|zb7 i)}:Mon)) λk=>some [aH ({d with Memory:=(zdG d.Memory m (zcv h) g.A),Mons:=k}:Host),aB true])
abbrev zBp (x:Guest):Bool:=bif zbx x then ieq (zL x) 5 else false
def zra:List AV->Option (Bool×List AV)
 |[.agg [.s .ins c,.i .i64 d,.i .i64 e,.s .slot f,.s .slot g,.i .i64 h,.i .i64 j,.b k,.i .i64 l,.i .i64 m,.i .i64 n,.b o,.i .i64 p,.b q,.s .int r]]=>some (zBp (⟨c,d,e,f,g,⟨h,j,k⟩,l,⟨m,n,o,p⟩,q,r⟩:Guest),[.one<|.i .i64 5])
 |_=>none
theorem zFt:vV 201 zra:=by refine⟨zcO.1,λw b g j a h=>?_⟩;unfold zra at h;split at h;{obtain⟨f,rfl⟩:=zfo h;obtain⟨d,e⟩:=zoz f;exact zcO.2 w _ g _ a (congr (congrArg (λc v=>some (c,[AV.one<|CV.i .i64 v])) d) (qD e))};{cases h}
def zbaH:zbd:=[(201,zra)]++zo7
theorem z1u:zQ zbaH:=zf zFt zjn
@[simp] abbrev zxb (h:Host)(m g:Int):Bool:=bif zdz h m g then ieq (zL<|gOf h m g) 5 else false
def zFP:Run:=rF3 dH dI dI λb c d=>(zxb b c d,[aH<|zcA b c d,aB<|zcJ b c d])
def zwd (N:Nat)(x:Host)(a e:Int):OA:=
 let d:=zk x;let f:=inb a<|ln d.Mons;let g:=ix d.Mons a zh;let j:=inb e<|ln g.Guests;let c:=ix g.Guests e zu;let w:=ap g.Outs [(zd5 c.Prog c.Pc).X];let s:=up d.Mons a ({g with Outs:=w}:Mon);let h:=c.Ctl.Traps;let v:=up d.Mons a ({g with Guests:=(up g.Guests e<|zcK c h 5)}:Mon); (oN (zM x)<|oN (zdz d a e)<|cond (nB<|zlz d a e) (some [aH d,aB false])<|oN f<|oN j<|oN (zBp c)<|oN f<|oN (zo1 g.Traps h 1)<|cond (ieq (zlI g.Traps h 1) 2) (oN f<|cond (ilt g.Own 1000000000) (oN f<|oN f<|share (up d.Mons a ({g with Own:=(zN .i64 g.Own 1)}:Mon)) (λb=>let k:=inb a<|ln b;let l:=ix b a zh;let q:=ix l.Guests e zu;let t:=ap l.Outs [(zd5 q.Prog c.Pc).X];let u:=({c with Prog:=q.Prog,Written:=q.Written,Live:=q.Live,Seen:=q.Seen}:Guest);let r:=up b a ({l with Guests:=(up l.Guests e<|zcK u h 5)}:Mon); (oN (zeu u h 5)<|cond (zdX u h 5) (oN k<|cond (ilt (ln l.Outs) 40) (oN k<|oN (zdV q.Prog c.Pc)<|oN (few<|ln t)<|oN k<|oN (cond (ieq a a) true false)<|share (up b a ({l with Outs:=t}:Mon)) (λi=>let m:=ix i a zh; (oN (inb a<|ln i)<|oN (inb e<|ln m.Guests)<|share (up i a ({m with Guests:=(up m.Guests e<|zcK u h 5)}:Mon)) λy=>some [aH ({d with Mons:=y}:Host),aB true])))<|oN k<|oN (inb e<|ln l.Guests)<|share r λi=>some [aH ({d with Mons:=i}:Host),aB true])<|oN k<|oN (inb e<|ln l.Guests)<|share r λi=>some [aH ({d with Mons:=i}:Host),aB true])))<|oN (zeu c h 5)<|cond (zdX c h 5) (oN f<|cond (ilt (ln g.Outs) 40) (oN f<|oN (zdV c.Prog c.Pc)<|oN (few<|ln w)<|oN f<|oN (cond (ieq a a) true false)<|share s (λb=>let n:=ix b a zh; (oN (inb a<|ln b)<|oN (inb e<|ln n.Guests)<|share (up b a ({n with Guests:=(up n.Guests e<|zcK c h 5)}:Mon)) λi=>some [aH ({d with Mons:=i}:Host),aB true])))<|oN f<|oN j<|share v λb=>some [aH ({d with Mons:=b}:Host),aB true])<|oN f<|oN j<|share v λb=>some [aH ({d with Mons:=b}:Host),aB true])<|oN (zeu c h 5)<|cond (zdX c h 5) (oN f<|cond (ilt (ln g.Outs) 40) (oN f<|oN (zdV c.Prog c.Pc)<|oN (few<|ln w)<|oN f<|oN (cond (ieq a a) true false)<|share s (λb=>let p:=ix b a zh; (oN (inb a<|ln b)<|oN (inb e<|ln p.Guests)<|share (up b a ({p with Guests:=(up p.Guests e<|zcK c h 5)}:Mon)) λi=>some [aH ({d with Mons:=i}:Host),aB true])))<|oN f<|oN j<|share v λb=>some [aH ({d with Mons:=b}:Host),aB true])<|oN f<|oN j<|share v λb=>some [aH ({d with Mons:=b}:Host),aB true])
abbrev zBq (x:Guest):Bool:=bif zbx x then ieq (zL x) 6 else false
def zrb:List AV->Option (Bool×List AV)
 |[.agg [.s .ins c,.i .i64 d,.i .i64 e,.s .slot f,.s .slot g,.i .i64 h,.i .i64 j,.b k,.i .i64 l,.i .i64 m,.i .i64 n,.b o,.i .i64 p,.b q,.s .int r]]=>some (zBq (⟨c,d,e,f,g,⟨h,j,k⟩,l,⟨m,n,o,p⟩,q,r⟩:Guest),[.one<|.i .i64 6])
 |_=>none
theorem zFu:vV 201 zrb:=by refine⟨zcO.1,λw b g j a h=>?_⟩;unfold zrb at h;split at h;{obtain⟨f,rfl⟩:=zfo h;obtain⟨d,e⟩:=zoz f;exact zcO.2 w _ g _ a (congr (congrArg (λc v=>some (c,[AV.one<|CV.i .i64 v])) d) (qD e))};{cases h}
def zbaI:zbd:=[(201,zrb)]++zo7
theorem z1v:zQ zbaI:=zf zFu zjn
@[simp] abbrev zxc (h:Host)(m g:Int):Bool:=bif zdz h m g then ieq (zL<|gOf h m g) 6 else false
def zFQ:Run:=rF3 dH dI dI λb c d=>(zxc b c d,[aH<|zcA b c d,aB<|zcJ b c d])
def zwe (N:Nat)(i:Host)(c d:Int):OA:=
 let a:=zk i;let g:=inb c<|ln a.Mons;let e:=ix a.Mons c zh;let h:=inb d<|ln e.Guests;let b:=ix e.Guests d zu;let j:=up a.Mons c ({e with Guests:=(up e.Guests d<|zcK b b.Ctl.Traps 6)}:Mon); (oN (zM i)<|oN (zdz a c d)<|cond (nB<|zlz a c d) (some [aH a,aB false])<|oN g<|oN h<|oN (zBq b)<|oN (zeu b b.Ctl.Traps 6)<|cond (zdX b b.Ctl.Traps 6) (oN g<|oN h<|share j λf=>some [aH ({a with Mons:=f}:Host),aB true])<|oN g<|oN h<|share j λf=>some [aH ({a with Mons:=f}:Host),aB true])
abbrev zBr (x:Guest):Bool:=bif zbx x then ieq (zL x) 7 else false
def zrd:List AV->Option (Bool×List AV)
 |[.agg [.s .ins c,.i .i64 d,.i .i64 e,.s .slot f,.s .slot g,.i .i64 h,.i .i64 j,.b k,.i .i64 l,.i .i64 m,.i .i64 n,.b o,.i .i64 p,.b q,.s .int r]]=>some (zBr (⟨c,d,e,f,g,⟨h,j,k⟩,l,⟨m,n,o,p⟩,q,r⟩:Guest),[.one<|.i .i64 7])
 |_=>none
theorem zFv:vV 201 zrd:=by refine⟨zcO.1,λw b g j a h=>?_⟩;unfold zrd at h;split at h;{obtain⟨f,rfl⟩:=zfo h;obtain⟨d,e⟩:=zoz f;exact zcO.2 w _ g _ a (congr (congrArg (λc v=>some (c,[AV.one<|CV.i .i64 v])) d) (qD e))};{cases h}
def zbaJ:zbd:=[(201,zrd)]++zo7
theorem z1w:zQ zbaJ:=zf zFv zjn
@[simp] abbrev zxd (h:Host)(m g:Int):Bool:=bif zdz h m g then ieq (zL<|gOf h m g) 7 else false
def zFR:Run:=rF3 dH dI dI λb c d=>(zxd b c d,[aH<|zcA b c d,aB<|zcJ b c d])
def zwf (N:Nat)(q:Host)(c e:Int):OA:=
 let a:=zk q;let g:=inb c<|ln a.Mons;let f:=ix a.Mons c zh;let k:=inb e<|ln f.Guests;let h:=ix f.Guests e zu;let d:=h.Ctl.Traps;let l:=up a.Mons c ({f with Guests:=(up f.Guests e<|zcK h d 7)}:Mon); (oN (zM q)<|oN (zdz a c e)<|cond (nB<|zlz a c e) (some [aH a,aB false])<|oN g<|oN k<|oN (zBr h)<|oN g<|oN (zo1 f.Traps d 2)<|cond (ieq (zlI f.Traps d 2) 2) (oN g<|cond (ilt f.Own 1000000000) (oN g<|oN g<|share (up a.Mons c ({f with Own:=(zN .i64 f.Own 1)}:Mon)) (λb=>let j:=ix b c zh;let m:=ix j.Guests e zu;let p:=({h with Prog:=m.Prog,Written:=m.Written,Live:=m.Live,Seen:=m.Seen}:Guest);let i:=up b c ({j with Guests:=(up j.Guests e<|zcK p d 7)}:Mon); (oN (zeu p d 7)<|cond (zdX p d 7) (oN (inb c<|ln b)<|oN (inb e<|ln j.Guests)<|share i λn=>some [aH ({a with Mons:=n}:Host),aB true])<|oN (inb c<|ln b)<|oN (inb e<|ln j.Guests)<|share i λn=>some [aH ({a with Mons:=n}:Host),aB true])))<|oN (zeu h d 7)<|cond (zdX h d 7) (oN g<|oN k<|share l λb=>some [aH ({a with Mons:=b}:Host),aB true])<|oN g<|oN k<|share l λb=>some [aH ({a with Mons:=b}:Host),aB true])<|oN (zeu h d 7)<|cond (zdX h d 7) (oN g<|oN k<|share l λb=>some [aH ({a with Mons:=b}:Host),aB true])<|oN g<|oN k<|share l λb=>some [aH ({a with Mons:=b}:Host),aB true])
theorem zFA (a:Host)(b c:Int)(e:zw6 a b c=true):∃N,zv8 N a b c=some [aH<|zcA a b c,aB<|zcJ a b c]:=by
 obtain⟨e,i⟩:=zoz e;have f:=(zO a).1 (zD.1 e);refine⟨0,?_⟩;show _=some (zft<|zcH a b c);unfold zv8 oN nB;conv=>zeta
 refine must (zbu<|(zO _).2 f) (must (zbu<|(zO _).2 f)<|brN (λd=>?_) λd=>?_);{rw [zke d];rfl};obtain⟨k,g,h⟩:=zdO d;have l:=zmx f g h;have j:zL (gOf a b c)=0:=qD i;rw[zkY d,j];refine must (zA g) (must (zA h)<|must (zk2 rfl i) ?_);rfl
theorem zrC:vV 319 zFK:=kF3 z1p zl zbB zir (zq []) zFA
theorem zFB (a:Host)(b c:Int)(g:zw7 a b c=true):∃N,zv9 N a b c=some [aH<|zcA a b c,aB<|zcJ a b c]:=by
 obtain⟨g,i⟩:=zoz g;have h:=(zO a).1 (zD.1 g);refine⟨0,?_⟩;show _=some (zft<|zcH a b c);unfold zv9 oN nB;conv=>zeta
 refine must (zbu<|(zO _).2 h) (must (zbu<|(zO _).2 h)<|brN (λd=>?_) λd=>?_);{rw [zke d];rfl};obtain⟨l,e,f⟩:=zdO d;have k:=zmx h e f;have j:zL (gOf a b c)=1:=qD i;rw[zkY d,j];refine must (zA e) (must (zA f)<|must (zk2 rfl i) ?_);show _=some (zft (zht a b c<|interrupted<|gOf a b c,true));exact must (zA e) (must (zbu k) (must (zA f) rfl))
theorem zBz:vV 319 zFL:=kF3 z1q zl zbB zir (zq []) zFB
theorem zFC (a:Host)(b c:Int)(g:zw8 a b c=true):∃N,zwa N a b c=some [aH<|zcA a b c,aB<|zcJ a b c]:=by
 obtain⟨g,i⟩:=zoz g;have h:=(zO a).1 (zD.1 g);refine⟨0,?_⟩;show _=some (zft<|zcH a b c);unfold zwa oN nB;conv=>zeta
 refine must (zbu<|(zO _).2 h) (must (zbu<|(zO _).2 h)<|brN (λd=>?_) λd=>?_);{rw [zke d];rfl};obtain⟨l,e,f⟩:=zdO d;have k:=zmx h e f;have j:zL (gOf a b c)=2:=qD i;rw[zkY d,j];refine must (zA e) (must (zA f)<|must (zk2 rfl i) ?_);show _=some (zft (zht a b c<|plainly<|gOf a b c,true));exact must (zA e) (must (zbu k) (must (zA f) rfl))
theorem zBA:vV 319 zFM:=kF3 z1r zl zbB zir (zq []) zFC
theorem zFD (a:Host)(c d:Int)(j:zw9 a c d=true):∃N,zwb N a c d=some [aH<|zcA a c d,aB<|zcJ a c d]:=by
 obtain⟨j,m⟩:=zoz j;have f:=(zO a).1 (zD.1 j);refine⟨0,?_⟩;show _=some (zft<|zcH a c d);unfold zwb oN nB;conv=>zeta
 refine must (zbu<|(zO _).2 f) (must (zbu<|(zO _).2 f)<|brN (λe=>?_) λe=>?_);{rw [zke e];rfl};obtain⟨r,g,i⟩:=zdO e;have n:=zmx f g i;have q:zL (gOf a c d)=3:=qD m;rw[zkY e,q];refine must (zA g) (must (zA i)<|must (zk2 rfl m) ?_);show _=some (zft (ziz (zjR a c d (gOf a c d) false) c d (gOf a c d) false,true));have k:=zuO (b:=a.Buffer) (page:=zbp (address<|gOf a c d)) (need:=zcq false) (io:=false) f e;have F:=zn1 k g i;have p:(ix (ix (zg0 (zk a) (zk a).Buffer c d (zbw<|zhp<|ix (ix (zk a).Mons c zh).Guests d zu) (zcR false) false).Mons c zh).Guests d zu)=(ix (ix (zk a).Mons c zh).Guests d zu):=congrArg (λl=>ix l d gZ) (zLo k.gs c);rw[p];unfold ziz;refine must rfl (must rfl (must rfl (must (zbu<|(zO _).2 f)<|brN (λh=>?_) λh=>?_)));{rw [show (zjR a c d (gOf a c d) false).2.2=false from h];exact must (zA F.hm) (must rfl (must rfl (must (zbu n) (must (zA F.hg) rfl))))};{rw [show (zjR a c d (gOf a c d) false).2.2=true from h];exact must (zA F.hm) (must rfl (must rfl (must (zbu n) (must (zA F.hg) rfl))))}
theorem zBB:vV 319 zFN:=kF3 z1s zl zbB zir (zq []) zFD
theorem zFE (a:Host)(c d:Int)(j:zxa a c d=true):∃N,zwc N a c d=some [aH<|zcA a c d,aB<|zcJ a c d]:=by
 obtain⟨j,m⟩:=zoz j;have f:=(zO a).1 (zD.1 j);refine⟨0,?_⟩;show _=some (zft<|zcH a c d);unfold zwc oN nB;conv=>zeta
 refine must (zbu<|(zO _).2 f) (must (zbu<|(zO _).2 f)<|brN (λe=>?_) λe=>?_);{rw [zke e];rfl};obtain⟨r,g,i⟩:=zdO e;have n:=zmx f g i;have q:zL (gOf a c d)=4:=qD m;rw[zkY e,q];refine must (zA g) (must (zA i)<|must (zk2 rfl m) ?_);show _=some (zft (ziz (zjR a c d (gOf a c d) true) c d (gOf a c d) true,true));have k:=zuO (b:=a.Buffer) (page:=zbp (address<|gOf a c d)) (need:=zcq true) (io:=false) f e;have F:=zn1 k g i;have p:(ix (ix (zg0 (zk a) (zk a).Buffer c d (zbw<|zhp<|ix (ix (zk a).Mons c zh).Guests d zu) (zcR true) false).Mons c zh).Guests d zu)=(ix (ix (zk a).Mons c zh).Guests d zu):=congrArg (λl=>ix l d gZ) (zLo k.gs c);rw[p];unfold ziz;refine must rfl (must rfl (must rfl (must (zbu<|(zO _).2 f)<|brN (λh=>?_) λh=>?_)));{rw [show (zjR a c d (gOf a c d) true).2.2=false from h];exact must (zA F.hm) (must rfl (must rfl (must (zbu n) (must (zA F.hg) rfl))))};{rw [show (zjR a c d (gOf a c d) true).2.2=true from h];exact must rfl (must (zbu k.shape.1.1)<|must (zA F.hm)<|must (zbu n) (must (zA F.hg) rfl))}
theorem zBC:vV 319 zFO:=kF3 z1t zl zbB zir (zq []) zFE
theorem z9G {c:Host}{a d:Int}(k:SmG (gOf c a d))(f:hasB a (ln c.Mons)=true)(i:hasB d (ln (ix c.Mons a mZ).Guests)=true) :
 (cond (zeu (ix (ix (zk c).Mons a zh).Guests d zu) (ix (ix (zk c).Mons a zh).Guests d zu).Ctl.Traps 5) (cond (zdX (ix (ix (zk c).Mons a zh).Guests d zu) (ix (ix (zk c).Mons a zh).Guests d zu).Ctl.Traps 5) (cond (inb a<|ln (zk c).Mons) (cond (ilt (ln (ix (zk c).Mons a zh).Outs) 40) (cond (inb a<|ln (zk c).Mons) (cond (zdV (ix (ix (zk c).Mons a zh).Guests d zu).Prog (ix (ix (zk c).Mons a zh).Guests d zu).Pc) (cond (few<|ln<|ap (ix (zk c).Mons a zh).Outs [(zd5 (ix (ix (zk c).Mons a zh).Guests d zu).Prog (ix (ix (zk c).Mons a zh).Guests d zu).Pc).X]) (cond (inb a<|ln (zk c).Mons) (cond (cond (ieq a a) true false) (share (up (zk c).Mons a ({ (ix (zk c).Mons a zh) with Outs:=(ap (ix (zk c).Mons a zh).Outs [(zd5 (ix (ix (zk c).Mons a zh).Guests d zu).Prog (ix (ix (zk c).Mons a zh).Guests d zu).Pc).X])}:Mon)) λe=>cond (inb a<|ln e) (cond (inb d<|ln (ix e a zh).Guests) (share (up e a ({ (ix e a zh) with Guests:=(up (ix e a zh).Guests d<|zcK (ix (ix (zk c).Mons a zh).Guests d zu) (ix (ix (zk c).Mons a zh).Guests d zu).Ctl.Traps 5)}:Mon)) λl=>some [.agg<|zbh ({ (zk c) with Mons:=l}:Host),.one<|.b true]) none) none) none) none) none) none) none)<|cond (inb a<|ln (zk c).Mons) (cond (inb d<|ln (ix (zk c).Mons a zh).Guests) (share (up (zk c).Mons a ({ (ix (zk c).Mons a zh) with Guests:=(up (ix (zk c).Mons a zh).Guests d<|zcK (ix (ix (zk c).Mons a zh).Guests d zu) (ix (ix (zk c).Mons a zh).Guests d zu).Ctl.Traps 5)}:Mon)) λe=>some [.agg<|zbh ({ (zk c) with Mons:=e}:Host),.one<|.b true]) none) none) none)<|cond (inb a<|ln (zk c).Mons) (cond (inb d<|ln (ix (zk c).Mons a zh).Guests) (share (up (zk c).Mons a ({ (ix (zk c).Mons a zh) with Guests:=(up (ix (zk c).Mons a zh).Guests d<|zcK (ix (ix (zk c).Mons a zh).Guests d zu) (ix (ix (zk c).Mons a zh).Guests d zu).Ctl.Traps 5)}:Mon)) λe=>some [.agg<|zbh ({ (zk c) with Mons:=e}:Host),.one<|.b true]) none) none) none)=some (zft (zht (zh3 c a (gOf c a d) 5) a d<|zgO (gOf c a d) (gOf c a d).Ctl.Traps 5,true)):=by
 refine must (zbu k) (br (λj=>must (zA f) (br (λg=>?_) λg=>?_)) λj=>?_)
 .rw [zX2 (h:=c) (m:=a) (x:=gOf c a d) (w:=5) j rfl g];refine must (zA f) (must rfl (must (zUL g)<|must (zA f)<|must (zMs _)<|shr<|must (zA<|zf2 f) (must ?_ rfl)));rw[zqB f];exact zA i
 .rw [zSO (h:=c) (m:=a) (x:=gOf c a d) (w:=5) g];exact must (zA f) (must (zA i) rfl)
 .rw [zNN (h:=c) (m:=a) (x:=gOf c a d) (w:=5) j];exact must (zA f) (must (zA i) rfl)
theorem zbdd {f:Host}{d:List Mon}{a c:Int}(n:SmG (gOf f a c))(i:hasB a (ln d)=true)(k:hasB c (ln (ix d a mZ).Guests)=true)(e:(ix (ix d a zh).Guests c zu)=gOf f a c) :
 (cond (zeu ({ (ix (ix (zk f).Mons a zh).Guests c zu) with Prog:=(ix (ix d a zh).Guests c zu).Prog,Written:=(ix (ix d a zh).Guests c zu).Written,Live:=(ix (ix d a zh).Guests c zu).Live,Seen:=(ix (ix d a zh).Guests c zu).Seen}:Guest) (ix (ix (zk f).Mons a zh).Guests c zu).Ctl.Traps 5) (cond (zdX ({ (ix (ix (zk f).Mons a zh).Guests c zu) with Prog:=(ix (ix d a zh).Guests c zu).Prog,Written:=(ix (ix d a zh).Guests c zu).Written,Live:=(ix (ix d a zh).Guests c zu).Live,Seen:=(ix (ix d a zh).Guests c zu).Seen}:Guest) (ix (ix (zk f).Mons a zh).Guests c zu).Ctl.Traps 5) (cond (inb a<|ln d) (cond (ilt (ln (ix d a zh).Outs) 40) (cond (inb a<|ln d) (cond (zdV (ix (ix d a zh).Guests c zu).Prog (ix (ix (zk f).Mons a zh).Guests c zu).Pc) (cond (few<|ln<|ap (ix d a zh).Outs [(zd5 (ix (ix d a zh).Guests c zu).Prog (ix (ix (zk f).Mons a zh).Guests c zu).Pc).X]) (cond (inb a<|ln d) (cond (cond (ieq a a) true false) (share (up d a ({ (ix d a zh) with Outs:=(ap (ix d a zh).Outs [(zd5 (ix (ix d a zh).Guests c zu).Prog (ix (ix (zk f).Mons a zh).Guests c zu).Pc).X])}:Mon)) λg=>cond (inb a<|ln g) (cond (inb c<|ln (ix g a zh).Guests) (share (up g a ({ (ix g a zh) with Guests:=(up (ix g a zh).Guests c<|zcK ({ (ix (ix (zk f).Mons a zh).Guests c zu) with Prog:=(ix (ix d a zh).Guests c zu).Prog,Written:=(ix (ix d a zh).Guests c zu).Written,Live:=(ix (ix d a zh).Guests c zu).Live,Seen:=(ix (ix d a zh).Guests c zu).Seen}:Guest) (ix (ix (zk f).Mons a zh).Guests c zu).Ctl.Traps 5)}:Mon)) λp=>some [.agg<|zbh ({ (zk f) with Mons:=p}:Host),.one<|.b true]) none) none) none) none) none) none) none)<|cond (inb a<|ln d) (cond (inb c<|ln (ix d a zh).Guests) (share (up d a ({ (ix d a zh) with Guests:=(up (ix d a zh).Guests c<|zcK ({ (ix (ix (zk f).Mons a zh).Guests c zu) with Prog:=(ix (ix d a zh).Guests c zu).Prog,Written:=(ix (ix d a zh).Guests c zu).Written,Live:=(ix (ix d a zh).Guests c zu).Live,Seen:=(ix (ix d a zh).Guests c zu).Seen}:Guest) (ix (ix (zk f).Mons a zh).Guests c zu).Ctl.Traps 5)}:Mon)) λg=>some [.agg<|zbh ({ (zk f) with Mons:=g}:Host),.one<|.b true]) none) none) none)<|cond (inb a<|ln d) (cond (inb c<|ln (ix d a zh).Guests) (share (up d a ({ (ix d a zh) with Guests:=(up (ix d a zh).Guests c<|zcK ({ (ix (ix (zk f).Mons a zh).Guests c zu) with Prog:=(ix (ix d a zh).Guests c zu).Prog,Written:=(ix (ix d a zh).Guests c zu).Written,Live:=(ix (ix d a zh).Guests c zu).Live,Seen:=(ix (ix d a zh).Guests c zu).Seen}:Guest) (ix (ix (zk f).Mons a zh).Guests c zu).Ctl.Traps 5)}:Mon)) λg=>some [.agg<|zbh ({ (zk f) with Mons:=g}:Host),.one<|.b true]) none) none) none)=some (zft (zht (zh3 {f with Mons:=d} a (gOf f a c) 5) a c<|zgO (gOf f a c) (gOf f a c).Ctl.Traps 5,true)):=by
 rw[e];refine must (zbu n) (br (λl=>must (zA i) (br (λj=>?_) λj=>?_)) λl=>?_)
 .rw [zX2 (h:={f with Mons:=d}) (m:=a) (x:=gOf f a c) (w:=5) l rfl j];refine must (zA i) (must rfl (must (zUL j)<|must (zA i)<|must (zMs _)<|shr<|must (zA<|zf2 (h:={f with Mons:=d}) i) (must ?_ rfl)));rw[zqB (h:={f with Mons:=d}) i];exact zA k
 .rw [zSO (h:={f with Mons:=d}) (m:=a) (x:=gOf f a c) (w:=5) j];exact must (zA i) (must (zA k) rfl)
 .rw [zNN (h:={f with Mons:=d}) (m:=a) (x:=gOf f a c) (w:=5) l];exact must (zA i) (must (zA k) rfl)
theorem zFF (b:Host)(a c:Int)(j:zxb b a c=true):∃N,zwd N b a c=some [aH<|zcA b a c,aB<|zcJ b a c]:=by
 obtain⟨j,p⟩:=zoz j;have k:=(zO b).1 (zD.1 j);refine⟨0,?_⟩;show _=some (zft<|zcH b a c);unfold zwd oN nB;conv=>zeta
 refine must (zbu<|(zO _).2 k) (must (zbu<|(zO _).2 k)<|brN (λf=>?_) λf=>?_);{rw [zke f];rfl};obtain⟨r,d,e⟩:=zdO f;have l:=zmx k d e;have q:zL (gOf b a c)=5:=qD p;rw[zkY f,q];refine must (zA d) (must (zA e)<|must (zk2 rfl p) ?_);show _=some (zft (zmm b a c (gOf b a c) 5,true));refine must (zA d) (must rfl (br (λg=>must (zA d) (br (λi=>must (zA d) (must (zA d)<|shr ?_)) λi=>?_)) λg=>?_));{rw [zpR (z0Z (h:=b) (m:=a) (x:=gOf b a c) (w:=5) rfl g i)];have n:=zqB d {ix b.Mons a mZ with Own:=zN .i64 (ix b.Mons a mZ).Own 1};refine zbdd l (zf2 d) ?_ ?_;{show hasB c (ln (ix (up b.Mons a _) a mZ).Guests)=true;rw[n];exact e};{show ix (ix (up b.Mons a _) a mZ).Guests c gZ=_;rw[n];rfl}};{rw [zpR<|z0Y (h:=b) (m:=a) (x:=gOf b a c) (w:=5) i];exact z9G l d e};{rw [zpR<|z0X (h:=b) (m:=a) (x:=gOf b a c) (w:=5) g];exact z9G l d e}
theorem zBD:vV 319 zFP:=kF3 z1u zl zbB zir (zq []) zFF
theorem zFG (a:Host)(b c:Int)(g:zxc a b c=true):∃N,zwe N a b c=some [aH<|zcA a b c,aB<|zcJ a b c]:=by
 obtain⟨g,j⟩:=zoz g;have i:=(zO a).1 (zD.1 g);refine⟨0,?_⟩;show _=some (zft<|zcH a b c);unfold zwe oN nB;conv=>zeta
 refine must (zbu<|(zO _).2 i) (must (zbu<|(zO _).2 i)<|brN (λf=>?_) λf=>?_);{rw [zke f];rfl};obtain⟨p,d,e⟩:=zdO f;have n:=zmx i d e;have l:zL (gOf a b c)=6:=qD j;rw[zkY f,l];refine must (zA d) (must (zA e)<|must (zk2 rfl j) ?_);show _=some (zft (zmm a b c (gOf a b c) 6,true));rw[zpR<|zbbE (h:=a) (m:=b) (x:=gOf a b c),zEh (w:=6) rfl];exact must (zbu n) (br (λk=>must (zA d) (must (zA e) rfl)) λk=>must (zA d) (must (zA e) rfl))
theorem zBE:vV 319 zFQ:=kF3 z1v zl zbB zir (zq []) zFG
theorem z9H {a:Host}{c d:Int}(i:SmG (gOf a c d))(f:hasB c (ln a.Mons)=true)(g:hasB d (ln (ix a.Mons c mZ).Guests)=true) :
 (cond (zeu (ix (ix (zk a).Mons c zh).Guests d zu) (ix (ix (zk a).Mons c zh).Guests d zu).Ctl.Traps 7) (cond (zdX (ix (ix (zk a).Mons c zh).Guests d zu) (ix (ix (zk a).Mons c zh).Guests d zu).Ctl.Traps 7) (cond (inb c<|ln (zk a).Mons) (cond (inb d<|ln (ix (zk a).Mons c zh).Guests) (share (up (zk a).Mons c ({ (ix (zk a).Mons c zh) with Guests:=(up (ix (zk a).Mons c zh).Guests d<|zcK (ix (ix (zk a).Mons c zh).Guests d zu) (ix (ix (zk a).Mons c zh).Guests d zu).Ctl.Traps 7)}:Mon)) λe=>some [.agg<|zbh ({ (zk a) with Mons:=e}:Host),.one<|.b true]) none) none)<|cond (inb c<|ln (zk a).Mons) (cond (inb d<|ln (ix (zk a).Mons c zh).Guests) (share (up (zk a).Mons c ({ (ix (zk a).Mons c zh) with Guests:=(up (ix (zk a).Mons c zh).Guests d<|zcK (ix (ix (zk a).Mons c zh).Guests d zu) (ix (ix (zk a).Mons c zh).Guests d zu).Ctl.Traps 7)}:Mon)) λe=>some [.agg<|zbh ({ (zk a) with Mons:=e}:Host),.one<|.b true]) none) none) none)=some (zft (zht a c d<|zgO (gOf a c d) (gOf a c d).Ctl.Traps 7,true)):=
 must (zbu i) (br (λh=>must (zA f) (must (zA g) rfl)) λh=>must (zA f) (must (zA g) rfl))
theorem zbde {f:Host}{d:List Mon}{a c:Int}(k:SmG (gOf f a c))(h:hasB a (ln d)=true)(i:hasB c (ln (ix d a mZ).Guests)=true)(e:(ix (ix d a zh).Guests c zu)=gOf f a c) :
 (cond (zeu ({ (ix (ix (zk f).Mons a zh).Guests c zu) with Prog:=(ix (ix d a zh).Guests c zu).Prog,Written:=(ix (ix d a zh).Guests c zu).Written,Live:=(ix (ix d a zh).Guests c zu).Live,Seen:=(ix (ix d a zh).Guests c zu).Seen}:Guest) (ix (ix (zk f).Mons a zh).Guests c zu).Ctl.Traps 7) (cond (zdX ({ (ix (ix (zk f).Mons a zh).Guests c zu) with Prog:=(ix (ix d a zh).Guests c zu).Prog,Written:=(ix (ix d a zh).Guests c zu).Written,Live:=(ix (ix d a zh).Guests c zu).Live,Seen:=(ix (ix d a zh).Guests c zu).Seen}:Guest) (ix (ix (zk f).Mons a zh).Guests c zu).Ctl.Traps 7) (cond (inb a<|ln d) (cond (inb c<|ln (ix d a zh).Guests) (share (up d a ({ (ix d a zh) with Guests:=(up (ix d a zh).Guests c<|zcK ({ (ix (ix (zk f).Mons a zh).Guests c zu) with Prog:=(ix (ix d a zh).Guests c zu).Prog,Written:=(ix (ix d a zh).Guests c zu).Written,Live:=(ix (ix d a zh).Guests c zu).Live,Seen:=(ix (ix d a zh).Guests c zu).Seen}:Guest) (ix (ix (zk f).Mons a zh).Guests c zu).Ctl.Traps 7)}:Mon)) λg=>some [.agg<|zbh ({ (zk f) with Mons:=g}:Host),.one<|.b true]) none) none)<|cond (inb a<|ln d) (cond (inb c<|ln (ix d a zh).Guests) (share (up d a ({ (ix d a zh) with Guests:=(up (ix d a zh).Guests c<|zcK ({ (ix (ix (zk f).Mons a zh).Guests c zu) with Prog:=(ix (ix d a zh).Guests c zu).Prog,Written:=(ix (ix d a zh).Guests c zu).Written,Live:=(ix (ix d a zh).Guests c zu).Live,Seen:=(ix (ix d a zh).Guests c zu).Seen}:Guest) (ix (ix (zk f).Mons a zh).Guests c zu).Ctl.Traps 7)}:Mon)) λg=>some [.agg<|zbh ({ (zk f) with Mons:=g}:Host),.one<|.b true]) none) none) none)=some (zft (zht {f with Mons:=d} a c<|zgO (gOf f a c) (gOf f a c).Ctl.Traps 7,true)):=by
 rw[e];exact must (zbu k) (br (λj=>must (zA h) (must (zA i) rfl)) λj=>must (zA h) (must (zA i) rfl))
theorem zFH (b:Host)(a c:Int)(j:zxd b a c=true):∃N,zwf N b a c=some [aH<|zcA b a c,aB<|zcJ b a c]:=by
 obtain⟨j,p⟩:=zoz j;have k:=(zO b).1 (zD.1 j);refine⟨0,?_⟩;show _=some (zft<|zcH b a c);unfold zwf oN nB;conv=>zeta
 refine must (zbu<|(zO _).2 k) (must (zbu<|(zO _).2 k)<|brN (λf=>?_) λf=>?_);{rw [zke f];rfl};obtain⟨r,d,e⟩:=zdO f;have l:=zmx k d e;have q:zL (gOf b a c)=7:=qD p;rw[zkY f,q];refine must (zA d) (must (zA e)<|must (zk2 rfl p) ?_);show _=some (zft (zmm b a c (gOf b a c) 7,true));refine must (zA d) (must rfl (br (λg=>must (zA d) (br (λi=>must (zA d) (must (zA d)<|shr ?_)) λi=>?_)) λg=>?_));{rw [zpR (z0Z (h:=b) (m:=a) (x:=gOf b a c) (w:=7) rfl g i),zEh (w:=7) rfl];have n:=zqB d {ix b.Mons a mZ with Own:=zN .i64 (ix b.Mons a mZ).Own 1};refine zbde l (zf2 d) ?_ ?_;{show hasB c (ln (ix (up b.Mons a _) a mZ).Guests)=true;rw[n];exact e};{show ix (ix (up b.Mons a _) a mZ).Guests c gZ=_;rw[n];rfl}};{rw [zpR<|z0Y (h:=b) (m:=a) (x:=gOf b a c) (w:=7) i,zEh (w:=7) rfl];exact z9H l d e};{rw [zpR<|z0X (h:=b) (m:=a) (x:=gOf b a c) (w:=7) g,zEh (w:=7) rfl];exact z9H l d e}
theorem zBF:vV 319 zFR:=kF3 z1w zl zbB zir (zq []) zFH
def zr7:List AV->Option (Bool×List AV)
 |[.agg [.s (.sl .int) b,.s .mon c,.s .entry d,.s .entry e],.one<|.i .i64 f,.one<|.i .i64 g]=>some (zdz (⟨b,c,d,e⟩:Host) f g,[aH<|zcA (⟨b,c,d,e⟩:Host) f g,aB<|zcJ (⟨b,c,d,e⟩:Host) f g])
 |_=>none
theorem zIZ:vV 319 zr7:=by refine⟨zrC.1,λw m l n g h=>?_⟩;unfold zr7 at h;split at h;{rename_i a b d f i j;obtain⟨k,rfl⟩:=zfo h;rcases z8u (gOf (⟨a,b,d,f⟩:Host) i j) with e|e|e|e|e|e|e|e;{exact zrC.2 w _ l _ g (congrArg (λc=>some (c,zft<|zcH (⟨a,b,d,f⟩:Host) i j))<|zk2 k e)};{exact zBz.2 w _ l _ g (congrArg (λc=>some (c,zft<|zcH (⟨a,b,d,f⟩:Host) i j))<|zk2 k e)};{exact zBA.2 w _ l _ g (congrArg (λc=>some (c,zft<|zcH (⟨a,b,d,f⟩:Host) i j))<|zk2 k e)};{exact zBB.2 w _ l _ g (congrArg (λc=>some (c,zft<|zcH (⟨a,b,d,f⟩:Host) i j))<|zk2 k e)};{exact zBC.2 w _ l _ g (congrArg (λc=>some (c,zft<|zcH (⟨a,b,d,f⟩:Host) i j))<|zk2 k e)};{exact zBD.2 w _ l _ g (congrArg (λc=>some (c,zft<|zcH (⟨a,b,d,f⟩:Host) i j))<|zk2 k e)};{exact zBE.2 w _ l _ g (congrArg (λc=>some (c,zft<|zcH (⟨a,b,d,f⟩:Host) i j))<|zk2 k e)};{exact zBF.2 w _ l _ g (congrArg (λc=>some (c,zft<|zcH (⟨a,b,d,f⟩:Host) i j))<|zk2 k e)}};{cases h}
end
end Go.Proofs.YtgjpbkhaaiffkaaGreat.E
