/- What is proved here: a part of the proof that the statement of this claim holds (several texts of wip/, laid together). -/
import Derived.Test.YtdlfljbgoopanaaGreatV3
namespace Go.Proofs.YtdlfljbgoopanaaGreat.E
open Go
set_option linter.defProp false
set_option linter.constructorNameAsVariable false
set_option linter.unusedVariables false
set_option maxRecDepth 100000
set_option linter.unusedSimpArgs false
set_option linter.unusedSectionVars false
noncomputable section
def hE (h:Host):(⟨h.Memory,h.Mons,h.Buffer,h.IoBuffer⟩:Host)=h:=rfl
def idxs {a:Type}(p:a->Bool):List a->Nat->LI
 |[],_=>[]
 |x::l,i=>bif p x then (i:Int)::idxs p l (i+1) else idxs p l (i+1)
def zvD {a:Type}(p:a->Bool):∀(l:List a) (i:Nat),(idxs p l i).length<=l.length
 |[],_=>qV _
 |x::l,i=>by have:=zvD p l (i+1);simp only[idxs];cases p x<;>simp<;>omega
def zpt {b c:Type}(p:b->Bool)(K:LI->Option c):∀(l:List b) (i:Nat) (a:LI),a.length+l.length<=2147483648->
 goL (λi x a k=>bif p x then (cond (few<|ln<|ap a [(i:Int)]) (k<|ap a [(i:Int)]) none) else k a) K l i a=K (a++idxs p l i)
 |[],i,a,_=>by simp[goL,idxs]
 |x::l,i,a,h=>by simp only[jB]at h;simp only[goL,idxs];cases p x;{simp only [cF];exact zpt p K l (i+1) a (by omega)};{simp only [cT];rw[ziA (by simp[ap];omega),cT,zpt p K l (i+1) _ (by simp[ap];omega)];simp[ap]}
def zxT (p:Nat->Bool):Nat->Nat->LI
 | 0,_=>[]
 |n+1,i=>bif p i then (i:Int)::zxT p n (i+1) else zxT p n (i+1)
def zz8 {b:Type}(p:Nat->Bool)(K:LI->Option b):∀(n i:Nat) (a:LI),a.length+n<=2147483648->
 goN (λi a k=>bif p i then (cond (few<|ln<|ap a [(i:Int)]) (k<|ap a [(i:Int)]) none) else k a) K n i a=K (a++zxT p n i)
 | 0,i,a,_=>by simp[goN,zxT]
 |n+1,i,a,h=>by simp only[goN,zxT];cases p i;{simp only [cF];exact zz8 p K n (i+1) a (by omega)};{simp only [cT];rw[ziA (by simp[ap];omega),cT,zz8 p K n (i+1) _ (by simp[ap];omega)];simp[ap]}
def z6F {h:Host}(d:zc8 h)(m:Int):∀c∈Ty.cells .mon (zAs h m),CVB sm c:=by unfold zAs;cases b:hasB m (ln h.Mons);{have e:∀{t:Ty},CVB sm (.s t []):=λ{t}=>.s t [] (jX _) (λx f=>by cases f);intro c a;simp only[cF,Ty.cells,Ty.dflt,qG,qN,or_false]at a;rcases a with rfl|rfl|rfl|rfl|rfl|rfl|rfl|rfl|rfl;all_goals first|exact e|exact .i _ _};{exact d.mons.inv.2 _ (zbO b _)}
def zs7 (h:Host)(m:Int):List Bool:=(zAs h m).Dirty
def zRe {h:Host}(a:zc8 h)(m:Int):CVB sm (.s .bool<|zs7 h m):=z6F a m (.s .bool (zAs h m).Dirty) (by simp[Ty.cells])
def zgW (h:Host)(_:Int):Bool:=pc (zc8 h)
def zkn (h:Host)(m:Int):List Bool:=zs7 h m
def zvV:Run:=rF2 dH dI λb c=>(zgW b c,[aS .bool<|zkn b c])
def zJS (N:Nat)(a:Host)(b:Int):OA:=
 let c:=ap [] (ix a.Mons b zh).Dirty; (oN (zbg b<|ln a.Mons)<|cond (nB<|zcb b<|ln a.Mons) (some [aS .bool []])<|oN (inb b<|ln a.Mons)<|oN (few<|ln c)<|some [aS .bool c])
def zVc (b:Host)(a:Int)(e:zgW b a=true):∃N,zJS N b a=some [aS .bool<|zkn b a]:=by
 have c:=zRe (zM.1 e) a;refine⟨0,?_⟩;unfold zJS zkn zcb oN nB;conv=>zeta
 unfold zs7 zAs at *;cases d:hasB a (ln b.Mons);{rfl};{rw [d,cT]at c;have f:=zoC c;simp only[zbg,cT,cF,zB d,zmN,f]}
def zyJ:vO 30 zvV:=kF2 zEF zbo zA zq (zo []) zVc
def zjM (h:Host)(m:Int):LI:=idxs (λb=>b) (zs7 h m) 0
abbrev zqZ (l:List Slot)(_:Int):Bool:=pc (l.length<=2147483648)
abbrev zhB (l:List Slot)(p:Int):LI:=idxs (λ(s:Slot)=>ieq s.Page p) l 0
def zqM:Run:=rF2 (dS .slot) dI λb c=>(zqZ b c,[aS .int<|zhB b c])
def zKw (N:Nat)(c:lS)(d:Int):OA:=
 (iter (σ:=(Int×Int×lS×LI×Unit)) N (λb a=>cond (ilt a.2.1<|ln a.2.2.1) (oN (inb a.2.1<|ln a.2.2.1)<|cond (ieq (ix a.2.2.1 a.2.1 zV).Page a.1) (oN (few<|ln<|ap a.2.2.2.1 [a.2.1])<|b (a.1,zQ .i64 a.2.1 1,a.2.2.1,ap a.2.2.2.1 [a.2.1],()))<|b (a.1,zQ .i64 a.2.1 1,a.2.2.1,a.2.2.2.1,()))<|some [aS .int a.2.2.2.1]) (d,0,c,[],()))
def zXp:=zo [(396,0,{n:=26,tm:=[(0,.sl 0 []),(1,ti),(5,.sl 1 []),(6,ti)],lo:=[],ro:=[(0,.slot,false),(1,.int,true)]})]
def zVM (b:List Slot)(a:Int)(g:zbX big [aS .slot b,aI a])(h:zqZ b a=true):∃N,zKw N b a=some [aS .int<|zhB b a]:=by have e:=len0 g;have j:=zM.1 h;refine zcy λN d=>?_;unfold zKw oN;refine(zbq b (λi (t:LI)=>(a,(i:Int),b,t,())) _ (λi (x:Slot) (t:LI) f=>bif ieq x.Page a then (cond (few<|ln<|ap t [(i:Int)]) (f<|ap t [(i:Int)]) none) else f t) (λ(t:LI)=>some [.one<|.s .int t]) (λi c t rec=>?_) (λt rec=>?_) _ ([])<|d e).trans ?_;{simp only [zbL c,zbn c,zbv c,zbi c e,cT]};{simp only [zbD,cF]};exact zpt (λ(s:Slot)=>ieq s.Page a) _ _ 0 [] (by simpa using j)
def zOQ:vO 396 zqM:=hF2 zEF zbo zA zq zXp zVM
def zJ9 (N:Nat)(d:lS)(f:Int):OA:=
 (iter (σ:=(Int×Int×Int×LI×lS×Unit)) N (λe a=>let c:=a.2.2.2.2.1;let b:=a.2.2.1; (cond (ilt b a.2.1) (oN (inb b<|ln c)<|cond (ieq (ix c b zV).Page a.1) (oN (few<|ln<|ap a.2.2.2.1 [b])<|e (a.1,a.2.1,zQ .i64 b 1,ap a.2.2.2.1 [b],c,()))<|e (a.1,a.2.1,zQ .i64 b 1,a.2.2.2.1,c,()))<|some [aS .int a.2.2.2.1])) (f,ln d,0,[],d,()))
def zXf:=zo [(299,0,{n:=26,tm:=[(1,ti),(5,.sl 0 []),(9,.sl 1 []),(10,ti),(11,ti)],lo:=[],ro:=[(0,.int,true),(1,.slot,false)]})]
def zVu (a:List Slot)(b:Int)(g:zbX big [aS .slot a,aI b])(h:zqZ a b=true):∃N,zJ9 N a b=some [aS .int<|zhB a b]:=by
 have e:=len0 g;have j:=zM.1 h;refine zcy λN d=>?_;unfold zJ9 oN;conv=>zeta
 refine(zbq a (λi (t:LI)=>(b,ln a,(i:Int),t,a,())) _ (λi (x:Slot) (t:LI) f=>bif ieq x.Page b then (cond (few<|ln<|ap t [(i:Int)]) (f<|ap t [(i:Int)]) none) else f t) (λ(t:LI)=>some [.one<|.s .int t]) (λi c t rec=>?_) (λt rec=>?_) _ ([])<|d e).trans ?_;{simp only [zbL c,zbn c,zbv c,zbi c e,cT]};{simp only [zbD,cF]};exact zpt (λ(s:Slot)=>ieq s.Page b) _ _ 0 [] (by simpa using j)
def zOr:vO 299 zqM:=hF2 zEF zbo zA zq zXf zVu
def z8d:zbf:=[(30,zvV),(396,zqM),(299,zqM)]++ctrW
def zHT:zU z8d:=zi zyJ (zi zOQ<|zi zOr zEF)
def zpO (h:Host)(m:Int):LI:=zjM h m
def ztT:Run:=rF2 dH dI λb c=>(zgW b c,[aS .int<|zpO b c])
def zF5 (N:Nat)(b:Host)(c:Int):OA:=
 (oN (zgW b c)<|iter (σ:=(Int×Int×LI×lB×Unit)) N (λd a=>cond (ilt a.2.1 a.1) (oN (inb a.2.1<|ln a.2.2.2.1)<|cond (ix a.2.2.2.1 a.2.1 false) (oN (few<|ln<|ap a.2.2.1 [a.2.1])<|d (a.1,zQ .i64 a.2.1 1,ap a.2.2.1 [a.2.1],a.2.2.2.1,()))<|d (a.1,zQ .i64 a.2.1 1,a.2.2.1,a.2.2.2.1,()))<|some [aS .int a.2.2.1]) (ln<|zkn b c,0,[],zkn b c,()))
def zTt:=zo [(29,0,{n:=25,tm:=[(5,.sl 0 []),(11,.sl 1 []),(12,ti),(13,ti)],lo:=[],ro:=[(0,.int,true),(1,.bool,true)]})]
def zSv (c:Host)(a:Int)(j:zgW c a=true):∃N,zF5 N c a=some [aS .int<|zpO c a]:=by have g:=zM.1 j;have k:CVB sm (.s .bool<|zkn c a):=zRe g a;have f:=zda k.len;refine zcy λN e=>?_;unfold zF5 oN;rw[show zgW c a=true from zbh g,cT];refine(zbq (zkn c a) (λi (t:LI)=>(ln<|zkn c a,(i:Int),t,zkn c a,())) _ (λi (x:Bool) (t:LI) h=>bif x then (cond (few<|ln<|ap t [(i:Int)]) (h<|ap t [(i:Int)]) none) else h t) (λ(t:LI)=>some [.one<|.s .int t]) (λi d t rec=>?_) (λt rec=>?_) _ ([])<|e f.1).trans ?_;{simp only [zbL d,zbn d,zbv d,zbi d f.1,cT]};{simp only [zbD,cF]};exact zpt (λb=>b) _ _ 0 [] (by simpa using f.2)
def zwP:vO 29 ztT:=kF2 zHT zbo zA zq zTt zSv
def zEQ {a:Type}(p:a->Bool):List a->Nat->Int
 |[],_=>-1
 |x::l,i=>bif p x then (i:Int) else zEQ p l (i+1)
def zZx {a b:Type}(p:a->Bool)(f:Int->Option b):∀(l:List a) (i:Nat),goL (λi x (_:Unit) k=>bif p x then f (i:Int) else k ()) (λ_=>f (-1)) l i ()=f (zEQ p l i)
 |[],_=>rfl
 |x::l,i=>by simp only[goL,zEQ];cases p x;{exact zZx p f l (i+1)};{rfl}
def zRj {a:Type}(p:a->Bool):∀(l:List a) (i:Nat),ige (zEQ p l i) 0=l.any p
 |[],_=>rfl
 |x::l,i=>by simp only[zEQ,List.any_cons];cases p x;{simp only [cF,Bool.false_or];exact zRj p l (i+1)};{simp only [cT,Bool.true_or,ige];exact qJ (by omega)}
def zdw (_:LI)(_:Int):Bool:=true
def zgE (l:LI)(v:Int):Int:=zEQ (λx=>ieq v x) l 0
def zkF:Run:=rF2 (dS .int) dI λb c=>(zdw b c,[aI<|zgE b c])
def zlo (N:Nat)(b:LI)(c:Int):OA:=
 (iter (σ:=(Int×Int×Int×LI×Unit)) N (λd a=>cond (ilt a.2.2.1 a.2.1) (oN (inb a.2.2.1<|ln a.2.2.2.1)<|cond (ieq a.1<|ix a.2.2.2.1 a.2.2.1 0) (some [aI a.2.2.1])<|d (a.1,a.2.1,zQ .i64 a.2.2.1 1,a.2.2.2.1,()))<|some [aI<|-1]) (c,ln b,0,b,()))
def zrx:=zo [(171,0,{n:=19,tm:=[(0,.sl 0 []),(1,ti),(7,ti),(8,ti)],lo:=[],ro:=[(0,.int,false)]})]
def zrv (a:LI)(b:Int)(f:zbX big [aS .int a,aI b])(h:zdw a b=true):∃N,zlo N a b=some [aI<|zgE a b]:=by have e:=len0 f;refine zcy λN d=>?_;unfold zlo oN;refine(zbq a (λi (t:Unit)=>(b,ln a,(i:Int),a,())) _ (λi (x:Int) (_:Unit) g=>bif ieq b x then some [AV.one<|.i .i64 (i:Int)] else g ()) (λ(t:Unit)=>some [.one<|.i .i64<|-1]) (λi c t rec=>?_) (λt rec=>?_) _ ()<|d e).trans ?_;{simp only [zbL c,zbn c,zbv c,zbi c e,cT]};{simp only [zbD,cF]};exact zZx (λx=>ieq b x) (λn=>some [AV.one<|.i .i64 n]) a 0
def zp1:vO 171 zkF:=hF2 zHT zbo zA zq zrx zrv
def z8e:zbf:=[(29,ztT),(171,zkF)]++z8d
def zUq:zU z8e:=zi zwP (zi zp1 zHT)
def zIf (l:LI)(v:Int):Bool:=l.any λx=>ieq v x
def zfO (l:LI)(v:Int):Bool:=zIf l v
def zjo:Run:=rF2 (dS .int) dI λb c=>(zdw b c,[aB<|zfO b c])
def zjX (N:Nat)(a:LI)(b:Int):OA:=
 (oN (zdw a b)<|some [aB<|ige (zgE a b) 0])
def zpx (a:LI)(b:Int)(c:zdw a b=true):∃N,zjX N a b=some [aB<|zfO a b]:=by refine⟨0,?_⟩;unfold zjX zgE oN;rw[zRj];rfl
def zot:vO 87 zjo:=kF2 zUq zbo zA zq (zo []) zpx
def z8f:zbf:=[(87,zjo)]++z8e
def zHU:zU z8f:=zi zot zUq
def zEU (h:Host)(m:Int)(a:LI):Bool:=a.all (zIf<|zjM h m)
def zso (h:Host)(_:Int)(_:LI):Bool:=pc (zc8 h)
def zj2 (h:Host)(m:Int)(a:LI):Bool:=zEU h m a
def ztU:Run:=rF3 dH dI (dS .int) λb c d=>(zso b c d,[aB<|zj2 b c d])
def zGd (N:Nat)(b:Host)(c:Int)(d:LI):OA:=
 (oN (zgW b c)<|iter (σ:=(Int×Int×LI×LI×Unit)) N (λe a=>cond (ilt a.2.1 a.1) (oN (inb a.2.1<|ln a.2.2.2.1)<|oN (zdw a.2.2.1<|ix a.2.2.2.1 a.2.1 0)<|cond (nB<|zfO a.2.2.1<|ix a.2.2.2.1 a.2.1 0) oF<|e (a.1,zQ .i64 a.2.1 1,a.2.2.1,a.2.2.2.1,())) oT) (ln d,0,zpO b c,d,()))
def zTu:=zo [(28,0,{n:=24,tm:=[(7,.sl 0 []),(13,.sl 1 []),(14,ti),(15,ti)],lo:=[],ro:=[(0,.int,true),(1,.int,false)]})]
def zSD (a:Host)(c:Int)(d:LI)(h:zbX big [aH a,aI c,aS .int d])(j:zso a c d=true):∃N,zGd N a c d=some [aB<|zj2 a c d]:=by have k:=zM.1 j;have g:=((zdp (zdp (zdp h).2).2).1 _ (qF.2 rfl)).len;refine zcy λN f=>?_;unfold zGd oN nB;rw[show zgW a c=true from zbh k,cT];refine(zbq d (λi (t:Unit)=>(ln d,(i:Int),zpO a c,d,())) _ (λ_ (x:Int) (_:Unit) l=>bif zIf (zjM a c) x then l () else oF) (λ(t:Unit)=>some [.one<|.b true]) (λi e t rec=>?_) (λt rec=>?_) _ ()<|f g).trans ?_;{simp only [zbL e,zbn e,zbv e,zbi e g,cT];simp only[zdw,zfO,cT];show (cond (cond (zIf (zjM a c) d[i]) false true) _ _)=_;cases zIf (zjM a c) d[i]<;>rfl};{simp only [zbD,cF]};rw[zhu];unfold zj2 zEU;cases d.all (zIf<|zjM a c)<;>rfl
def zwQ:vO 28 ztU:=hF3 zHU zbo zA zq zTu zSD
def zjP (x y:Int):ine x y = !ieq x y:=rfl
def zeI (l:LI):Bool:=pc (l.length<=2147483648)
abbrev zeF (l:LI):LI:=l
def zzf:Run:=rF1 (dS .int) λb=>(zeI b,[aS .int<|zeF b])
def zCw (N:Nat)(a:LI):OA:=
 (oN (few<|ln<|ap [] a)<|some [aS .int<|ap [] a])
def zPv (a:LI)(b:zeI a=true):∃N,zCw N a=some [aS .int<|zeF a]:=by refine⟨0,?_⟩;unfold zCw oN;rw[zmN,ziA<|zM.1 b,cT]
def zIz:vO 205 zzf:=kF1 zHU zbo zA zq (zo []) zPv
def z8g:zbf:=[(28,ztU),(205,zzf)]++z8f
def zHV:zU z8g:=zi zwQ (zi zIz zHU)
def zAU:LI:=rp 4 0
def zc1 (m:List LI)(p:Int):LI:=bif hasB p (ln m) then ix m p [] else zAU
def ziL (m:List LI)(_:Int):Bool:=pc (CVB sm<|.s (.sl .int) m)
def zks (m:List LI)(p:Int):LI:=zc1 m p
def z4B {m:List LI}{p:Int}(b:CVB sm (.s (.sl .int) m))(a:hasB p (ln m)=true):(ix m p []).length<=2147483648 :=
 (zda (b.inv.2 _ (zbO a ([]:LI)) (.s .int _) (qF.2 rfl)).len).2
def zqF:Run:=rF2 (dS<|.sl .int) dI λb c=>(ziL b c,[aS .int<|zks b c])
def zKn (N:Nat)(a:lM)(b:Int):OA:=
 (oN (zN b 0<|wsub .i64 (ln a) 1)<|cond (nB<|zl b 0<|wsub .i64 (ln a) 1) (oN (cond (few 4) (ieq 4 4) false)<|some [aS .int<|rp 4 0])<|oN (inb b<|ln a)<|oN (few<|ln<|ap []<|ix a b [])<|some [aS .int<|ap []<|ix a b []])
def zVF (b:List LI)(a:Int)(f:ziL b a=true):∃N,zKn N b a=some [aS .int<|zks b a]:=by have d:=zM.1 f;refine⟨0,?_⟩;unfold zKn zks zc1 oN nB;have e:zl a 0 (wsub .i64 (ln b) 1)=hasB a (ln b):=zMk (zda d.len).1 a;rw[e];cases c:hasB a (ln b);{rfl};{simp only [zN,cT,cF,zB c,zmN,ziA<|z4B d c]}
def zOH:vO 174 zqF:=kF2 zHV zbo zA zq (zo []) zVF
def zJZ (N:Nat)(a:lM)(b:Int):OA:=
 (oN (zbg b<|ln a)<|cond (nB<|zcb b<|ln a) (oN (cond (few 4) (ieq 4 4) false)<|some [aS .int<|rp 4 0])<|oN (inb b<|ln a)<|oN (zeI<|ix a b [])<|some [aS .int<|zeF<|ix a b []])
def zVj (a:List LI)(b:Int)(d:ziL a b=true):∃N,zJZ N a b=some [aS .int<|zks a b]:=by have e:=zM.1 d;refine⟨0,?_⟩;unfold zJZ zks zc1 zcb oN nB;cases c:hasB b (ln a);{rfl};{simp only [zbg,cT,cF,zB c,show zeI (ix a b [])=true from zbh (z4B e c),zeF]}
def zOf:vO 173 zqF:=kF2 zHV zbo zA zq (zo []) zVj
def z8h:zbf:=[(174,zqF),(173,zqF)]++z8g
def zUr:zU z8h:=zi zOH (zi zOf zHV)
def zdf (h:Host)(m p:Int):LI :=
 bif hasB m (ln h.Mons) then (cond (hasB p 8) (cond (ine (zbJ (ix h.Mons m zh).Outer p).Page<|-1) (zc1 h.Memory (zbJ (ix h.Mons m zh).Outer p).Page)<|zc1 (ix h.Mons m zh).Out p) zAU) else zAU
def zAg (h:Host)(_ _:Int):Bool:=pc (zc8 h)
def zAf (h:Host)(m p:Int):LI:=zdf h m p
def zD3:Run:=rF3 dH dI dI λb c d=>(zAg b c d,[aS .int<|zAf b c d])
def zJ1 (N:Nat)(a:Host)(c b:Int):OA:=
 let d:=ix a.Mons c zh;let e:=(zfn d.Outer b).Page; (oN (zbg c<|ln a.Mons)<|cond (nB<|zcb c<|ln a.Mons) (oN (cond (few 4) (ieq 4 4) false)<|some [aS .int<|rp 4 0])<|oN (zbg b 8)<|cond (nB<|zcb b 8) (oN (cond (few 4) (ieq 4 4) false)<|some [aS .int<|rp 4 0])<|oN (inb c<|ln a.Mons)<|oN (zhQ d.Outer b)<|cond (ine e<|-1) (oN (ziL a.Memory e)<|some [aS .int<|zks a.Memory e])<|oN (ziL d.Out b)<|some [aS .int<|zks d.Out b])
def zVm (a:Host)(b c:Int)(f:zAg a b c=true):∃N,zJ1 N a b c=some [aS .int<|zAf a b c]:=by
 have e:=zM.1 f;refine⟨0,?_⟩;unfold zJ1 zAf zdf zcb oN nB;conv=>zeta
 cases d:hasB b (ln a.Mons);{rfl};{cases h:hasB c 8;{rfl};{have g:CVB sm (.s (.sl .int) (ix a.Mons b zh).Out):=e.mons.inv.2 _ (zbO d zh) (.s (.sl .int) _) (by simp[Ty.cells]);simp only[zbg,cT,cF,zB d,zhQ,zfn,show ∀p,ziL a.Memory p=true from λp=>zbh e.mem,show ∀p,ziL (ix a.Mons b zh).Out p=true from λp=>zbh g,zks];cases ine (zbJ (ix a.Mons b zh).Outer c).Page (-1)<;>rfl}}
def zOh:vO 92 zD3:=kF3 zUr zbo zA zq (zo []) zVm
def z8i:zbf:=[(92,zD3)]++z8h
def z5Q:zU z8i:=zi zOh zUr
def z8j:zbf:=z8i
def z5R:zU z8j:=z5Q
def ctrV:zbf:=z8j
def zbaa:∀f a,zy ctrV f=some a->Holds Tryz.prog f a:=z5R
def ctrU:zbf:=ctrV
def zd1:zU ctrU:=zbaa
def zql:ziF:=z6C
def zn:zgR zql:=zbo
def canRun (g:Guest):Bool:=bif (ieq g.Exit.Kind 0&&(ieq g.Exit.Page 0&&(zxM g.Exit.Write false&&ieq g.Exit.N 0))) then !g.Halted else false
def zuE (_:Guest):Bool:=true
abbrev zpB (g:Guest):Bool:=canRun g
def zqy:Run:=rF1 (dT .guest) λb=>(zuE b,[aB<|zpB b])
def zKd (N:Nat)(a:Guest):OA:=
 (cond (cond (ieq a.Exit.Kind 0) (cond (ieq a.Exit.Page 0) (cond (zxM a.Exit.Write false) (ieq a.Exit.N 0) false) false) false) (some [aB<|nB a.Halted]) oF)
def zDG (a:Guest)(b:zbX big [aT .guest a])(c:zuE a=true):∃N,zKd N a=some [aB<|zpB a]:=by refine⟨0,?_⟩;unfold zKd zpB canRun nB;cases ieq a.Exit.Kind 0<;>cases ieq a.Exit.Page 0<;>cases zxM a.Exit.Write false<;>cases ieq a.Exit.N 0<;>simp
def zOx:vO 364 zqy:=hF1 zuR zbo zA zq (zo []) zDG
def zN3:vO 211 zqy:=hF1 zuR zbo zA zq (zo []) zDG
def must {d:Type}{c:Bool}{a b r:Option d}(h:c=true)(k:a=r):(cond c a b)=r:=by rw[h];exact k
def mu {d:Type}{c:Bool}{a b r:Option d}(k:a=r)(h:c=true:=by first|assumption|(simp_all<;>omega)):(cond c a b)=r:=must h k
def zcj {d:Type}{c:Bool}{a b r:Option d}(h:c=false)(k:b=r):(cond c a b)=r:=by rw[h];exact k
def br {f:Type}{c:Bool}{a b r:Option f}(d:c=true->a=r)(e:c=false->b=r):(cond c a b)=r:=by cases c;{exact e rfl};{exact d rfl}
def brN {f:Type}{c:Bool}{a b r:Option f}(d:c=false->a=r)(e:c=true->b=r):(cond (cond c false true) a b)=r:=by cases c;{exact d rfl};{exact e rfl}
def shr {a b:Type}{x:a}{f:a->Option b}{r:Option b}(h:f x=r):share x f=r:=h
def zki {e:Type}{c p:Bool}{a b:Option e}(d:c=true):(cond c (cond (cond p false true) a b) none)=bif p then b else a:=by rw[d];cases p<;>rfl
attribute [simp] zM
@[simp] def zbap {a:Type}(l:List a):(few (ln l)=true)↔l.length<=2147483648:=by unfold few ln;rw[decide_eq_true_iff];omega
@[simp] def zbdi {a:Type}(l m:List a):(ap l m).length=l.length+m.length:=by simp[ap]
attribute [simp] zmN zgA
@[simp] def z8P (n:Nat)(k:IntKind)(x:Int):CVB n (.i k x)↔True:=⟨λ_=>trivial,λ_=>.i k x⟩
@[simp] def zbdm (n:Nat)(x:Bool):CVB n (.b x)↔True:=⟨λ_=>trivial,λ_=>.b x⟩
def znI {n:Nat}{t:Ty}(l:List t.den):CVB n (.s t l)↔l.length<=n/\∀x∈l,∀c∈t.cells x,CVB n c:=⟨λh=>h.inv,λh=>.s t l h.1 h.2⟩
@[simp] def zZl (n:Nat)(l:LI):CVB n (.s .int l)↔l.length<=n:=by rw[znI];simp[Ty.cells]
@[simp] def zbbH (n:Nat)(l:LI):CVB n (.s .u8 l)↔l.length<=n:=by rw[znI];simp[Ty.cells]
@[simp] def z5Z (n:Nat)(l:List Bool):CVB n (.s .bool l)↔l.length<=n:=by rw[znI];simp[Ty.cells]
@[simp] def z6b (n:Nat)(l:List Slot):CVB n (.s .slot l)↔l.length<=n:=by rw[znI];simp[Ty.cells]
@[simp] def zbac (n:Nat)(l:List Ins):CVB n (.s .ins l)↔l.length<=n:=by rw[znI];simp[Ty.cells]
@[simp] def z3k (n:Nat)(l:List Entry):CVB n (.s .entry l)↔l.length<=n:=by rw[znI];simp[Ty.cells]
@[simp] def zbab (n:Nat)(l:List GAct):CVB n (.s .act l)↔l.length<=n:=by rw[znI];simp[Ty.cells]
@[simp] def z6c (n:Nat)(l:List Told):CVB n (.s .told l)↔l.length<=n:=by rw[znI];simp[Ty.cells]
def SmM (m:List LI):Prop:=m.length<=1048576/\∀x∈m,x.length<=1048576
def SmG (g:Guest):Prop:=g.Prog.length<=1048576/\g.Written.length<=1048576/\g.Live.length<=1048576/\g.Seen.length<=1048576
def zmK (l:List Guest):Prop:=l.length<=1048576/\∀x∈l,SmG x
def SmB (b:Bare):Prop:=SmM b.Memory/\zmK b.Guests/\b.Outs.length<=1048576
def z0e (l:List Bare):Prop:=l.length<=1048576/\∀x∈l,SmB x
def z7q:sm=1048576:=rfl
@[simp] def z0H (l:LI):CVB sm (.s .int l)↔l.length<=1048576:=zZl sm l
@[simp] def zbcT (l:LI):CVB sm (.s .u8 l)↔l.length<=1048576:=zbbH sm l
@[simp] def zXM (l:List Bool):CVB sm (.s .bool l)↔l.length<=1048576:=z5Z sm l
@[simp] def zXN (l:List Slot):CVB sm (.s .slot l)↔l.length<=1048576:=z6b sm l
@[simp] def zbcw (l:List Ins):CVB sm (.s .ins l)↔l.length<=1048576:=zbac sm l
@[simp] def zUB (l:List Entry):CVB sm (.s .entry l)↔l.length<=1048576:=z3k sm l
@[simp] def zbcv (l:List GAct):CVB sm (.s .act l)↔l.length<=1048576:=zbab sm l
@[simp] def zbcg (l:List Told):CVB sm (.s .told l)↔l.length<=1048576:=z6c sm l
@[simp] def zrK (l:List LI):CVB sm (.s (.sl .int) l)↔SmM l:=by rw[znI];simp[Ty.cells,SmM,z7q]
@[simp] def z9O (g:Guest):(∀c∈Ty.cells .guest g,CVB sm c)↔SmG g:=by simp[Ty.cells,SmG,z7q]
@[simp] def zwA (l:List Guest):CVB sm (.s .guest l)↔zmK l:=by rw[znI];simp only[z9O];rfl
@[simp] def z9N (b:Bare):(∀c∈Ty.cells .bare b,CVB sm c)↔SmB b:=by simp only[Ty.cells,qG,qN,or_false,vK,forall_eq,zrK,zwA,zZl,z8P,and_true];rfl
@[simp] def zbcX (l:List Bare):CVB sm (.s .bare l)↔z0e l:=by rw[znI];simp only[z9N];rfl
@[simp] def zbdl (a:List Ins)(b c:Int)(d e:List Slot)(f:Ctl)(g:Int)(h:GExit)(i:Bool)(j:LI):SmG ⟨a,b,c,d,e,f,g,h,i,j⟩↔a.length<=1048576/\d.length<=1048576/\e.length<=1048576/\j.length<=1048576:=Iff.rfl
@[simp] def zbdk (m:List LI)(g:List Guest)(o:LI)(p:Int):SmB ⟨m,g,o,p⟩↔SmM m/\zmK g/\o.length<=1048576:=Iff.rfl
def zNl {m:List LI}{i:Int}{x:LI}(h:SmM m)(b:x.length<=1048576):SmM (up m i x):=by refine⟨by simpa using h.1,λy a=>?_⟩;rcases qZ a with a|rfl;{exact h.2 y a};{exact b}
def zE4 {m:List Guest}{i:Int}{x:Guest}(h:zmK m)(b:SmG x):zmK (up m i x):=by refine⟨by simpa using h.1,λy a=>?_⟩;rcases qZ a with a|rfl;{exact h.2 y a};{exact b}
def zbaZ {m:List Bare}{i:Int}{x:Bare}(h:z0e m)(b:SmB x):z0e (up m i x):=by refine⟨by simpa using h.1,λy a=>?_⟩;rcases qZ a with a|rfl;{exact h.2 y a};{exact b}
def zWT {l:List Guest}{i:Int}(h:zmK l)(a:hasB i (ln l)=true)(d:Guest):SmG (ix l i d):=h.2 _ (zbO a d)
def zbcb {l:List LI}{i:Int}(h:SmM l)(a:hasB i (ln l)=true)(d:LI):(ix l i d).length<=1048576:=h.2 _ (zbO a d)
@[simp] def zbcO:SmG zx:=⟨by decide,by decide,by decide,by decide⟩
@[simp] def zTW (x a b:Int):zl x a b=zl x a b:=rfl
@[simp] def zU5 (i n:Int):inb i n=hasB i n:=rfl
attribute [simp] zcb
@[simp] def zsb {a:Type}{l:List a}(h:l.length<=1048576)(i:Int):zl i 0 (wsub .i64 (ln l) 1)=hasB i (ln l):=zRp (zda h).1 i
def zJP {a:Type}{l:List a}(h:l.length<=big)(i:Int):zl i 0 (wsub .i64 (ln l) 1)=hasB i (ln l):=zRp h i
def zfW {x a b:Int}:(zl x a b=true)↔a<=x/\x<=b:=by unfold zl ige ile;simp only[qE,decide_eq_true_iff]
def zbaw (a b:Int):ilt a b = !ige a b:=by unfold ilt ige;by_cases h:a<b;{rw [qJ h,qH (by omega)];rfl};{rw [qH h,qJ (by omega)];rfl}
attribute [simp] zbl zbl zhP zhP zib zib zdr zdr zfn zfn zpB zpB zbS zbS
attribute [simp] zfZ zdT zhW zeF
attribute [simp] zhT zes zhj zeI
def zbj (a:Int):Int:=bif ilt a 0 then -1 else zXA .i64 a 4
def zd7 (a:Int):Int:=bif ilt a 0 then -1 else zru a 4
@[simp] abbrev zbP (a:Int):Bool:=true
@[simp] abbrev zby (a:Int):Int:=zbj a
def znY:Run:=rF1 dI λb=>(zbP b,[aI<|zby b])
def zCB (N:Nat)(a:Int):OA:=
 (cond (ilt a 0) (some [aI<|-1])<|oN (ine 4 0)<|some [aI<|zXA .i64 a 4])
def zyT (a:Int)(b:zbX big [aI a])(c:zbP a=true):∃N,zCB N a=some [aI<|zby a]:=by refine⟨0,?_⟩;unfold zCB oN;refine br (λ_=>?_) (λ_=>must rfl ?_);all_goals first|rfl|(simp only [*,zby,zbj,cT,cF]<;>rfl)|simp_all[Ty.cells,zby,zbj]
def zID:vO 354 znY:=hF1 zd1 zn zA zq (zo []) zyT
def zIh:vO 133 znY:=hF1 zd1 zn zA zq (zo []) zyT
@[simp] abbrev zc5 (a:Int):Int:=zd7 a
def znX:Run:=rF1 dI λb=>(zbP b,[aI<|zc5 b])
def zCA (N:Nat)(a:Int):OA:=
 (cond (ilt a 0) (some [aI<|-1])<|oN (ine 4 0)<|some [aI<|zru a 4])
def zyS (a:Int)(b:zbX big [aI a])(c:zbP a=true):∃N,zCA N a=some [aI<|zc5 a]:=by refine⟨0,?_⟩;unfold zCA oN;refine br (λ_=>?_) (λ_=>must rfl ?_);all_goals first|rfl|(simp only [*,zc5,zd7,cT,cF]<;>rfl)|simp_all[Ty.cells,zc5,zd7]
def zIC:vO 355 znX:=hF1 zd1 zn zA zq (zo []) zyS
def zIg:vO 138 znX:=hF1 zd1 zn zA zq (zo []) zyS
def zcq (w:Bool):Int:=bif w then 2 else 1
@[simp] abbrev zlR (w:Bool):Bool:=true
@[simp] abbrev zdI (w:Bool):Int:=zcq w
def zqE:Run:=rF1 dB λb=>(zlR b,[aI<|zdI b])
def zKm (N:Nat)(a:Bool):OA:=
 (cond a (some [aI 2])<|some [aI 1])
def zDJ (a:Bool)(b:zbX big [aB a])(c:zlR a=true):∃N,zKm N a=some [aI<|zdI a]:=by refine⟨0,?_⟩;unfold zKm;refine br (λ_=>?_) (λ_=>?_);all_goals first|rfl|(simp only [*,zdI,zcq,cT,cF]<;>rfl)|simp_all[Ty.cells,zdI,zcq]
def zOG:vO 371 zqE:=hF1 zd1 zn zA zq (zo []) zDJ
def zOd:vO 134 zqE:=hF1 zd1 zn zA zq (zo []) zDJ
def zta (p:Int)(w:Bool):GExit:=⟨1,p,w,0⟩
def zvi (n:Int):GExit:=⟨2,0,false,n⟩
def zy2 (n:Int):GExit:=⟨3,0,false,n⟩
@[simp] abbrev zhf (p:Int)(w:Bool):Bool:=true
@[simp] abbrev ze5 (p:Int)(w:Bool):GExit:=zta p w
def zj8:Run:=rF2 dI dB λb c=>(zhf b c,[.agg<|zgB<|ze5 b c])
def zA8 (N:Nat)(a:Int)(c:Bool):OA:=
 (some [.agg [.i .i64 1,.i .i64 a,.b c,.i .i64 0]])
def zwY (a:Int)(b:Bool)(c:zbX big [aI a,aB b])(d:zhf a b=true):∃N,zA8 N a b=some [.agg<|zgB<|ze5 a b]:=by refine⟨0,?_⟩;unfold zA8;first|rfl|(simp only [*,ze5,cT,cF]<;>rfl)|simp_all[Ty.cells,ze5]
def zt9:vO 312 zj8:=hF2 zd1 zn zA zq (zo []) zwY
def zFb:vO 136 zj8:=hF2 zd1 zn zA zq (zo []) zwY
@[simp] abbrev zfm (n:Int):Bool:=true
@[simp] abbrev zff (n:Int):GExit:=zvi n
def zk4:Run:=rF1 dI λb=>(zfm b,[.agg<|zgB<|zff b])
def zCE (N:Nat)(a:Int):OA:=
 (some [.agg [.i .i64 2,.i .i64 0,.b false,.i .i64 a]])
def zyU (a:Int)(b:zbX big [aI a])(c:zfm a=true):∃N,zCE N a=some [.agg<|zgB<|zff a]:=by refine⟨0,?_⟩;unfold zCE;first|rfl|(simp only [*,zff,cT,cF]<;>rfl)|simp_all[Ty.cells,zff]
def zvx:vO 313 zk4:=hF1 zd1 zn zA zq (zo []) zyU
def zIj:vO 229 zk4:=hF1 zd1 zn zA zq (zo []) zyU
@[simp] abbrev zgv (n:Int):GExit:=zy2 n
def zl9:Run:=rF1 dI λb=>(zfm b,[.agg<|zgB<|zgv b])
def zGC (N:Nat)(a:Int):OA:=
 (some [.agg [.i .i64 3,.i .i64 0,.b false,.i .i64 a]])
def zBl (a:Int)(b:zbX big [aI a])(c:zfm a=true):∃N,zGC N a=some [.agg<|zgB<|zgv a]:=by refine⟨0,?_⟩;unfold zGC;first|rfl|(simp only [*,zgv,cT,cF]<;>rfl)|simp_all[Ty.cells,zgv]
def zwW:vO 314 zl9:=hF1 zd1 zn zA zq (zo []) zBl
def zLs:vO 306 zl9:=hF1 zd1 zn zA zq (zo []) zBl
def zev (t x:Int):Bool:=bif zl t 0 3 then (cond (zl x 1 2) (ine (wand .i64 t x) 0) false) else false
def z9D (x:Int):zl x 1 2=(ieq x 1||ieq x 2):=by have h:(zl x 1 2=true)↔(ieq x 1||ieq x 2)=true:=(by rw[zfW];simp only[ieq,jW,qL];omega);cases a:zl x 1 2<;>cases b:(ieq x 1||ieq x 2)<;>simp_all
@[simp] abbrev zgJ (t x:Int):Bool:=true
@[simp] abbrev zfY (t x:Int):Bool:=zev t x
def zo6:Run:=rF2 dI dI λb c=>(zgJ b c,[aB<|zfY b c])
def zGu (N:Nat)(a b:Int):OA:=
 (oN (zN a 0 3)<|cond (zl a 0 3) (oN (zN b 1 2)<|cond (zl b 1 2) (some [aB<|ine (wand .i64 a b) 0]) oF) oF)
def zSS (a b:Int)(c:zgJ a b=true):∃N,zGu N a b=some [aB<|zfY a b]:=by refine⟨0,?_⟩;unfold zGu oN;refine must rfl (br (λ_=>must rfl (br (λ_=>?_) λ_=>?_)) λ_=>?_);all_goals first|rfl|(simp only [*,zfY,zev,cT,cF]<;>rfl)|simp_all[Ty.cells,zfY,zev]
def zLG:vO 394 zo6:=kF2 zd1 zn zA zq (zo []) zSS
def zF7 (N:Nat)(a b:Int):OA:=
 let c:=aB<|ine (wand .i64 a b) 0; (oN (zN a 0 3)<|cond (zl a 0 3) (cond (ieq b 1) (some [c])<|cond (ieq b 2) (some [c]) oF) oF)
def zSx (a b:Int)(c:zgJ a b=true):∃N,zF7 N a b=some [aB<|zfY a b]:=by
 refine⟨0,?_⟩;unfold zF7 oN;conv=>zeta
 refine must rfl (br (λ_=>br (λ_=>?_) λ_=>br (λ_=>?_) λ_=>?_) λ_=>?_);all_goals first|rfl|(simp only [*,zfY,zev,z9D,cT,cF]<;>rfl)|simp_all[Ty.cells,zfY,zev,z9D]
def zLm:vO 230 zo6:=kF2 zd1 zn zA zq (zo []) zSx
def zef (p:Int):Bool:=zl p 0 255
@[simp] abbrev zcn (p:Int):Bool:=true
@[simp] abbrev zeS (p:Int):Bool:=zef p
def zqI:Run:=rF1 dI λb=>(zcn b,[aB<|zeS b])
def zKq (N:Nat)(a:Int):OA:=
 (oN (zN a 0 255)<|some [aB<|zl a 0 255])
def zDL (a:Int)(b:zbX big [aI a])(c:zcn a=true):∃N,zKq N a=some [aB<|zeS a]:=by refine⟨0,?_⟩;unfold zKq oN;refine must rfl ?_;first|rfl|(simp only [*,zeS,zef,cT,cF]<;>rfl)|simp_all[Ty.cells,zeS,zef]
def zOK:vO 193 zqI:=hF1 zd1 zn zA zq (zo []) zDL
def zOj:vO 188 zqI:=hF1 zd1 zn zA zq (zo []) zDL
def zcL (l:List Ins)(p:Int):Ins:=bif hasB p (ln l) then ix l p zAT else ⟨7,0⟩
@[simp] abbrev zeg (l:List Ins)(p:Int):Bool:=true
@[simp] abbrev zeb (l:List Ins)(p:Int):Ins:=zcL l p
def zsx:Run:=rF2 (dS .ins) dI λb c=>(zeg b c,[aT .ins<|zeb b c])
def zQI (N:Nat)(a:lI)(b:Int):OA:=
 (oN (zN b 0<|wsub .i64 (ln a) 1)<|cond (nB<|zl b 0<|wsub .i64 (ln a) 1) (some [.agg [.i .i64 7,.i .i64 0]])<|oN (inb b<|ln a)<|some [.agg [.i .i64 (ix a b zAT).Op,.i .i64 (ix a b zAT).X]])
def zYh (a:List Ins)(b:Int)(c:zbX big [aS .ins a,aI b])(e:zeg a b=true):∃N,zQI N a b=some [aT .ins<|zeb a b]:=by have d:=((zdp c).1 _ (qF.2 rfl)).len;have f:=zJP d;refine⟨0,?_⟩;unfold zQI oN nB;refine must rfl (brN (λ_=>?_) λ_=>mu ?_);all_goals first|rfl|(simp only [*,zeb,zcL,cT,cF]<;>rfl)|simp_all[Ty.cells,zeb,zcL]
def zSe:vO 366 zsx:=hF2 zd1 zn zA zq (zo []) zYh
def zQx (N:Nat)(a:lI)(b:Int):OA:=
 (oN (zbg b<|ln a)<|cond (nB<|zcb b<|ln a) (some [.agg [.i .i64 7,.i .i64 0]])<|oN (inb b<|ln a)<|some [.agg [.i .i64 (ix a b zAT).Op,.i .i64 (ix a b zAT).X]])
def zX7 (a:List Ins)(b:Int)(c:zeg a b=true):∃N,zQx N a b=some [aT .ins<|zeb a b]:=by refine⟨0,?_⟩;unfold zQx oN nB;refine must rfl (brN (λ_=>?_) λ_=>mu ?_);all_goals first|rfl|(simp only [*,zeb,zcL,cT,cF]<;>rfl)|simp_all[Ty.cells,zeb,zcL]
def zR1:vO 213 zsx:=kF2 zd1 zn zA zq (zo []) zX7
def zgc (w:Int):Int:=bif ieq w 5 then 1 else 2
@[simp] abbrev zqk (w:Int):Bool:=true
@[simp] abbrev zjk (w:Int):Int:=zgc w
def zD7:Run:=rF1 dI λb=>(zqk b,[aI<|zjk b])
def zKb (N:Nat)(a:Int):OA:=
 (cond (ieq a 5) (some [aI 1])<|some [aI 2])
def zVw (a:Int)(b:zqk a=true):∃N,zKb N a=some [aI<|zjk a]:=by refine⟨0,?_⟩;unfold zKb;refine br (λ_=>?_) (λ_=>?_);all_goals first|rfl|(simp only [*,zjk,zgc,cT,cF]<;>rfl)|simp_all[Ty.cells,zjk,zgc]
def zOu:vO 219 zD7:=kF1 zd1 zn zA zq (zo []) zVw
def zeO (s:Slot)(n:Int):Bool:=bif zdv s noSlot then true else (cond (igt n 0) (cond (zl s.Page 0<|wsub .i64 n 1) (zl s.Rights 1 3) false) false)
@[simp] abbrev zlT (s:Slot)(n:Int):Bool:=true
@[simp] abbrev zjw (s:Slot)(n:Int):Bool:=zeO s n
def zqL:Run:=rF2 (dT .slot) dI λb c=>(zlT b c,[aB<|zjw b c])
def zKt (N:Nat)(a:Slot)(b:Int):OA:=
 (oN zbS<|cond (cond (ieq a.Page zbl.Page) (ieq a.Rights zbl.Rights) false) oT<|oN (zN a.Page 0<|wsub .i64 b 1)<|cond (zl a.Page 0<|wsub .i64 b 1) (cond (igt b 0) (oN (zN a.Rights 1 3)<|some [aB<|zl a.Rights 1 3]) oF) oF)
def zVK (a:Slot)(b:Int)(c:zlT a b=true):∃N,zKt N a b=some [aB<|zjw a b]:=by refine⟨0,?_⟩;unfold zKt oN;refine must rfl (br (λ_=>?_) λ_=>must rfl (br (λ_=>br (λ_=>must rfl ?_) λ_=>?_) λ_=>?_));all_goals first|rfl|(simp only [*,zjw,zeO,zdv,cT,cF]<;>rfl)|simp_all[Ty.cells,zjw,zeO,zdv]
def zON:vO 265 zqL:=kF2 zd1 zn zA zq (zo []) zVK
def zJ7 (N:Nat)(a:Slot)(b:Int):OA:=
 (oN zbS<|cond (cond (ieq a.Page zbl.Page) (ieq a.Rights zbl.Rights) false) oT<|cond (igt b 0) (oN (zN a.Page 0<|wsub .i64 b 1)<|cond (zl a.Page 0<|wsub .i64 b 1) (oN (zN a.Rights 1 3)<|some [aB<|zl a.Rights 1 3]) oF) oF)
def zVs (a:Slot)(b:Int)(c:zlT a b=true):∃N,zJ7 N a b=some [aB<|zjw a b]:=by refine⟨0,?_⟩;unfold zJ7 oN;refine must rfl (br (λ_=>?_) λ_=>br (λ_=>must rfl (br (λ_=>must rfl ?_) λ_=>?_)) λ_=>?_);all_goals first|rfl|(simp only [*,zjw,zeO,zdv,cT,cF]<;>rfl)|simp_all[Ty.cells,zjw,zeO,zdv]
def zOo:vO 233 zqL:=kF2 zd1 zn zA zq (zo []) zVs
@[simp] abbrev zhd (l:List Slot):Bool:=pc (l.length<=2147483648)
@[simp] abbrev ze1 (l:List Slot):List Slot:=l
def zxf:Run:=rF1 (dS .slot) λb=>(zhd b,[aS .slot<|ze1 b])
def zA5 (N:Nat)(a:lS):OA:=
 (oN (few<|ln<|ap [] a)<|some [aS .slot<|ap [] a])
def zMw (a:List Slot)(b:zhd a=true):∃N,zA5 N a=some [aS .slot<|ze1 a]:=by have c:=zM.1 b;refine⟨0,?_⟩;unfold zA5 oN;refine mu ?_;first|rfl|(simp only [*,ze1,cT,cF]<;>rfl)|simp_all[Ty.cells,ze1]
def zFk:vO 206 zxf:=kF1 zd1 zn zA zq (zo []) zMw
@[simp] abbrev zvC (l:List Ins):Bool:=pc (l.length<=2147483648)
@[simp] abbrev zqj (l:List Ins):List Ins:=l
def zzh:Run:=rF1 (dS .ins) λb=>(zvC b,[aS .ins<|zqj b])
def zCy (N:Nat)(a:lI):OA:=
 (oN (few<|ln<|ap [] a)<|some [aS .ins<|ap [] a])
def zPx (a:List Ins)(b:zvC a=true):∃N,zCy N a=some [aS .ins<|zqj a]:=by have c:=zM.1 b;refine⟨0,?_⟩;unfold zCy oN;refine mu ?_;first|rfl|(simp only [*,zqj,cT,cF]<;>rfl)|simp_all[Ty.cells,zqj]
def zIB:vO 305 zzh:=kF1 zd1 zn zA zq (zo []) zPx
def zhk (m:List LI)(p c:Int):Bool:=bif hasB p (ln m) then hasB c (ln<|ix m p []) else false
def cellAt (m:List LI)(p c:Int):Int:=bif zhk m p c then ix (ix m p []) c 0 else 0
def zbT (m:List LI)(p c v:Int):List LI:=bif zhk m p c then (cond (zl v 0 99) (up m p<|up (ix m p []) c v) m) else m
def zAq (m:List LI)(p c:Int):(zhk m p c=true)↔hasB p (ln m)=true/\hasB c (ln<|ix m p [])=true:=by unfold zhk;cases hasB p (ln m)<;>simp
def zbbG {n:Nat}{m:List LI}(h:CVB n (.s (.sl .int) m)):m.length<=n/\∀p:Int,hasB p (ln m)=true->(ix m p []).length<=n :=
 ⟨h.len,λp a=>(h.inv.2 _ (zbO a []) _ (qF.2 rfl)).len⟩
@[simp] abbrev zfM (m:List LI)(p c:Int):Bool:=true
@[simp] abbrev zr5 (m:List LI)(p c:Int):Bool:=zhk m p c
def zD9:Run:=rF3 (dS<|.sl .int) dI dI λb c d=>(zfM b c d,[aB<|zr5 b c d])
def zKz (N:Nat)(a:lM)(b c:Int):OA:=
 let d:=wsub .i64 (ln<|ix a b []) 1; (oN (zN b 0<|wsub .i64 (ln a) 1)<|cond (zl b 0<|wsub .i64 (ln a) 1) (oN (inb b<|ln a)<|oN (zN c 0 d)<|some [aB<|zl c 0 d]) oF)
def zVN (a:List LI)(b c:Int)(e:zbX big [aS (.sl .int) a,aI b,aI c])(g:zfM a b c=true):∃N,zKz N a b c=some [aB<|zr5 a b c]:=by
 have d:=zbbG ((zdp e).1 _ (qF.2 rfl));have j:=zJP d.1;have f:∀p i:Int,hasB p (ln a)=true->zl i 0 (wsub .i64 (ln<|ix a p []) 1)=hasB i (ln<|ix a p []):=λp i h=>zJP (d.2 p h) i;refine⟨0,?_⟩;unfold zKz oN;conv=>zeta
 refine must rfl (br (λ_=>mu (must rfl ?_)) λ_=>?_);all_goals first|rfl|(simp only [*,zr5,zhk,cT,cF]<;>rfl)|simp_all[Ty.cells,zr5,zhk]
def zOT:vO 382 zD9:=hF3 zd1 zn zA zq (zo []) zVN
@[simp] abbrev zgV (m:List LI)(p c:Int):Int:=cellAt m p c
def zqr:Run:=rF3 (dS<|.sl .int) dI dI λb c d=>(zfM b c d,[aI<|zgV b c d])
def zJR (N:Nat)(a:lM)(b c:Int):OA:=
 let d:=ix a b []; (oN (zbg b<|ln a)<|cond (nB<|zcb b<|ln a) (some [aI 0])<|oN (inb b<|ln a)<|oN (zbg c<|ln d)<|cond (nB<|zcb c<|ln d) (some [aI 0])<|oN (inb b<|ln a)<|oN (inb c<|ln d)<|some [aI<|ix d c 0])
def zVb (a:List LI)(b c:Int)(d:zfM a b c=true):∃N,zJR N a b c=some [aI<|zgV a b c]:=by
 refine⟨0,?_⟩;unfold zJR oN nB;conv=>zeta
 refine must rfl (brN (λ_=>?_) λ_=>mu (must rfl (brN (λ_=>?_) λ_=>mu (mu ?_))));all_goals first|rfl|(simp only [*,zgV,cellAt,zhk,cT,cF]<;>rfl)|simp_all[Ty.cells,zgV,cellAt,zhk]
def zN4:vO 141 zqr:=kF3 zd1 zn zA zq (zo []) zVb
def z0x:zbf:=[(364,zqy),(211,zqy),(354,znY),(133,znY),(355,znX),(138,znX),(371,zqE),(134,zqE),(312,zj8),(136,zj8),(313,zk4),(229,zk4),(314,zl9),(306,zl9),(394,zo6),(230,zo6),(193,zqI),(188,zqI),(366,zsx),(213,zsx),(219,zD7),(265,zqL),(233,zqL),(206,zxf),(305,zzh),(382,zD9),(141,zqr)]++ctrU
def zhq:zU z0x:=zi zOx (zi zN3<|zi zID<|zi zIh<|zi zIC<|zi zIg<|zi zOG<|zi zOd<|zi zt9<|zi zFb<|zi zvx<|zi zIj<|zi zwW<|zi zLs<|zi zLG<|zi zLm<|zi zOK<|zi zOj<|zi zSe<|zi zR1<|zi zOu<|zi zON<|zi zOo<|zi zFk<|zi zIB<|zi zOT<|zi zN4 zd1)
def zKe (N:Nat)(a:lM)(b c:Int):OA:=
 (oN (zfM a b c)<|cond (nB<|zr5 a b c) (some [aI 0])<|oN (inb b<|ln a)<|oN (inb c<|ln<|ix a b [])<|some [aI<|ix (ix a b []) c 0])
def zVy (a:List LI)(b c:Int)(d:zfM a b c=true):∃N,zKe N a b c=some [aI<|zgV a b c]:=by have e:=(zAq a b c).1;refine⟨0,?_⟩;unfold zKe oN nB;refine must rfl (brN (λ_=>?_) λ_=>mu (mu ?_));all_goals first|rfl|(simp only [*,zgV,cellAt,cT,cF]<;>rfl)|simp_all[Ty.cells,zgV,cellAt]
def zOy:vO 356 zqr:=kF3 zhq zn zA zq (zo []) zVy
def zdN (t:List Slot)(n p:Int):Bool:=bif t.all (λs=>zeO s p) then ieq (ln t) n else false
@[simp] abbrev zku (t:List Slot)(n p:Int):Bool:=true
@[simp] abbrev zfo (t:List Slot)(n p:Int):Bool:=zdN t n p
def zpf:Run:=rF3 (dS .slot) dI dI λb c d=>(zku b c d,[aB<|zfo b c d])
def zGI (N:Nat)(d:lS)(e f:Int):OA:=
 (iter (σ:=(Int×Int×Int×lS×Unit)) N (λg a=>let b:=a.2.2.2.1;let c:=ix b a.2.2.1 zV; (cond (ilt a.2.2.1<|ln b) (oN (inb a.2.2.1<|ln b)<|oN (zlT c a.2.1)<|cond (nB<|zjw c a.2.1) oF<|g (a.1,a.2.1,zQ .i64 a.2.2.1 1,b,()))<|some [aB<|ieq (ln b) a.1])) (e,f,0,d,()))
def zTz:=zo [(191,0,{n:=25,tm:=[(0,.sl 0 []),(1,ti),(2,ti),(7,ti)],lo:=[],ro:=[(0,.slot,false)]})]
def zS5 (a:List Slot)(d c:Int)(j:zbX big [aS .slot a,aI d,aI c])(l:zku a d c=true):∃N,zGI N a d c=some [aB<|zfo a d c]:=by
 have h:(_:List _).length<=big:=((zdp j).1 _ (qF.2 rfl)).len;refine zcy λN g=>?_;unfold zGI oN nB;conv=>zeta
 refine(zbq a (λi (t:Unit)=>(d,c,(i:Int),a,())) _ (λ_ x (_:Unit) k=>bif (λs=>zeO s c) x then k () else oF) (λ(t:Unit)=>some [.one<|.b<|ieq (ln a) d]) (λi e t rec=>?_) (λt rec=>?_) _ ()<|g h).trans ?_;{simp only [zbL e,zbn e,zbv e,zbi e h,cT];exact zki rfl};{simp only [zbD,cF]};rw[zhu λs=>zeO s c];refine br (λf=>?_) (λf=>?_);{first|rfl|(simp only [f,zfo,zdN,cT,cF]<;>rfl)|(simp_all [Ty.cells,zfo,zdN];done)};{first|rfl|(simp only [f,zfo,zdN,cT,cF]<;>rfl)|(simp_all [Ty.cells,zfo,zdN];done)}
def zLT:vO 191 zpf:=hF3 zhq zn zA zq zTz zS5
def zGi (N:Nat)(c:lS)(e f:Int):OA:=
 (iter (σ:=(Int×Int×Int×Int×lS×Unit)) N (λg a=>let b:=a.2.2.2.2.1;let d:=ix b a.2.2.2.1 zV; (cond (ilt a.2.2.2.1 a.2.2.1) (oN (inb a.2.2.2.1<|ln b)<|oN (zlT d a.2.1)<|cond (nB<|zjw d a.2.1) oF<|g (a.1,a.2.1,a.2.2.1,zQ .i64 a.2.2.2.1 1,b,()))<|some [aB<|ieq (ln b) a.1])) (e,f,ln c,0,c,()))
def zTv:=zo [(187,0,{n:=24,tm:=[(0,.sl 0 []),(1,ti),(2,ti),(9,.sl 0 []),(10,ti),(11,ti)],lo:=[],ro:=[(0,.slot,false)]})]
def zSI (a:List Slot)(d c:Int)(j:zbX big [aS .slot a,aI d,aI c])(l:zku a d c=true):∃N,zGi N a d c=some [aB<|zfo a d c]:=by
 have h:(_:List _).length<=big:=((zdp j).1 _ (qF.2 rfl)).len;refine zcy λN g=>?_;unfold zGi oN nB;conv=>zeta
 refine(zbq a (λi (t:Unit)=>(d,c,ln a,(i:Int),a,())) _ (λ_ x (_:Unit) k=>bif (λs=>zeO s c) x then k () else oF) (λ(t:Unit)=>some [.one<|.b<|ieq (ln a) d]) (λi e t rec=>?_) (λt rec=>?_) _ ()<|g h).trans ?_;{simp only [zbL e,zbn e,zbv e,zbi e h,cT];exact zki rfl};{simp only [zbD,cF]};rw[zhu λs=>zeO s c];refine br (λf=>?_) (λf=>?_);{first|rfl|(simp only [f,zfo,zdN,cT,cF]<;>rfl)|(simp_all [Ty.cells,zfo,zdN];done)};{first|rfl|(simp only [f,zfo,zdN,cT,cF]<;>rfl)|(simp_all [Ty.cells,zfo,zdN];done)}
def zLy:vO 187 zpf:=hF3 zhq zn zA zq zTv zSI
def zc2 (c:LI):Bool:=bif c.all (λx=>zl x 0 99) then ieq (ln c) 4 else false
@[simp] abbrev zeh (c:LI):Bool:=true
@[simp] abbrev zdJ (c:LI):Bool:=zc2 c
def zqH:Run:=rF1 (dS .int) λb=>(zeh b,[aB<|zdJ b])
def zKp (N:Nat)(b:LI):OA:=
 (iter (σ:=(Int×LI×Unit)) N (λc a=>cond (ilt a.1<|ln a.2.1) (oN (inb a.1<|ln a.2.1)<|oN (zN (ix a.2.1 a.1 0) 0 99)<|cond (nB<|zl (ix a.2.1 a.1 0) 0 99) oF<|c (zQ .i64 a.1 1,a.2.1,()))<|some [aB<|ieq (ln a.2.1) 4]) (0,b,()))
def zXm:=zo [(190,0,{n:=19,tm:=[(0,.sl 0 []),(3,ti)],lo:=[],ro:=[(0,.int,false)]})]
def zVH (a:LI)(g:zbX big [aS .int a])(j:zeh a=true):∃N,zKp N a=some [aB<|zdJ a]:=by have f:(_:List _).length<=big:=((zdp g).1 _ (qF.2 rfl)).len;refine zcy λN e=>?_;unfold zKp oN nB;refine(zbq a (λi (t:Unit)=>((i:Int),a,())) _ (λ_ x (_:Unit) h=>bif (λx=>zl x 0 99) x then h () else oF) (λ(t:Unit)=>some [.one<|.b<|ieq (ln a) 4]) (λi c t rec=>?_) (λt rec=>?_) _ ()<|e f).trans ?_;{simp only [zbL c,zbn c,zbv c,zbi c f,cT];exact zki rfl};{simp only [zbD,cF]};rw[zhu λx=>zl x 0 99];refine br (λd=>?_) (λd=>?_);{first|rfl|(simp only [d,zdJ,zc2,cT,cF]<;>rfl)|(simp_all [Ty.cells,zdJ,zc2];done)};{first|rfl|(simp only [d,zdJ,zc2,cT,cF]<;>rfl)|(simp_all [Ty.cells,zdJ,zc2];done)}
def zOJ:vO 190 zqH:=hF1 zhq zn zA zq zXm zVH
def zJ2 (N:Nat)(b:LI):OA:=
 (iter (σ:=(Int×Int×LI×Unit)) N (λc a=>cond (ilt a.2.1 a.1) (oN (inb a.2.1<|ln a.2.2.1)<|oN (zN (ix a.2.2.1 a.2.1 0) 0 99)<|cond (nB<|zl (ix a.2.2.1 a.2.1 0) 0 99) oF<|c (a.1,zQ .i64 a.2.1 1,a.2.2.1,()))<|some [aB<|ieq (ln a.2.2.1) 4]) (ln b,0,b,()))
def zXc:=zo [(186,0,{n:=18,tm:=[(0,.sl 0 []),(5,.sl 0 []),(6,ti),(7,ti)],lo:=[],ro:=[(0,.int,false)]})]
def zVn (a:LI)(g:zbX big [aS .int a])(j:zeh a=true):∃N,zJ2 N a=some [aB<|zdJ a]:=by have f:(_:List _).length<=big:=((zdp g).1 _ (qF.2 rfl)).len;refine zcy λN e=>?_;unfold zJ2 oN nB;refine(zbq a (λi (t:Unit)=>(ln a,(i:Int),a,())) _ (λ_ x (_:Unit) h=>bif (λx=>zl x 0 99) x then h () else oF) (λ(t:Unit)=>some [.one<|.b<|ieq (ln a) 4]) (λi c t rec=>?_) (λt rec=>?_) _ ()<|e f).trans ?_;{simp only [zbL c,zbn c,zbv c,zbi c f,cT];exact zki rfl};{simp only [zbD,cF]};rw[zhu λx=>zl x 0 99];refine br (λd=>?_) (λd=>?_);{first|rfl|(simp only [d,zdJ,zc2,cT,cF]<;>rfl)|(simp_all [Ty.cells,zdJ,zc2];done)};{first|rfl|(simp only [d,zdJ,zc2,cT,cF]<;>rfl)|(simp_all [Ty.cells,zdJ,zc2];done)}
def zOi:vO 186 zqH:=hF1 zhq zn zA zq zXc zVn
def zfh (i:Ins):Bool:=bif (ieq i.Op 1||ieq i.Op 2||ieq i.Op 5||ieq i.Op 6) then zl i.X 0 99 else (cond (ieq i.Op 3||ieq i.Op 4) (zl i.X 0 15)<|cond (ieq i.Op 7) (ieq i.X 0)<|cond (ieq i.Op 8) (zl i.X 0 11) false)
@[simp] abbrev zxr (i:Ins):Bool:=true
@[simp] abbrev zu1 (i:Ins):Bool:=zfh i
def zsy:Run:=rF1 (dT .ins) λb=>(zxr b,[aB<|zu1 b])
def zQJ (N:Nat)(a:Ins):OA:=
 let b:=ieq a.Op 4;let l:=zN a.X 0 99;let k:=aB<|zl a.X 0 99;let j:=ieq a.Op 8;let i:=ieq a.Op 7;let h:=ieq a.Op 3;let g:=zN a.X 0 11;let f:=zN a.X 0 15;let e:=aB<|ieq a.X 0;let d:=aB<|zl a.X 0 11;let c:=aB<|zl a.X 0 15; (cond (ieq a.Op 1) (cond (ieq a.Op 1) (oN l<|some [k])<|cond h (cond h (oN f<|some [c])<|cond i (some [e])<|cond j (oN g<|some [d]) oF)<|cond b (oN f<|some [c])<|cond i (some [e])<|cond j (oN g<|some [d]) oF)<|cond (ieq a.Op 2) (cond (ieq a.Op 2) (oN l<|some [k])<|cond h (cond h (oN f<|some [c])<|cond i (some [e])<|cond j (oN g<|some [d]) oF)<|cond b (oN f<|some [c])<|cond i (some [e])<|cond j (oN g<|some [d]) oF)<|cond (ieq a.Op 5) (cond (ieq a.Op 5) (oN l<|some [k])<|cond h (cond h (oN f<|some [c])<|cond i (some [e])<|cond j (oN g<|some [d]) oF)<|cond b (oN f<|some [c])<|cond i (some [e])<|cond j (oN g<|some [d]) oF)<|cond (ieq a.Op 6) (oN l<|some [k])<|cond h (cond h (oN f<|some [c])<|cond i (some [e])<|cond j (oN g<|some [d]) oF)<|cond b (oN f<|some [c])<|cond i (some [e])<|cond j (oN g<|some [d]) oF)
def zHb (a:Ins)(b:zbX big [aT .ins a])(c:zxr a=true):∃N,zQJ N a=some [aB<|zu1 a]:=by
 refine⟨0,?_⟩;unfold zQJ oN;conv=>zeta
 refine br (λ_=>br (λ_=>must rfl ?_) λ_=>br (λ_=>br (λ_=>must rfl ?_) λ_=>br (λ_=>?_) λ_=>br (λ_=>must rfl ?_) λ_=>?_) λ_=>br (λ_=>must rfl ?_) λ_=>br (λ_=>?_) λ_=>br (λ_=>must rfl ?_) λ_=>?_) (λ_=>br (λ_=>br (λ_=>must rfl ?_) λ_=>br (λ_=>br (λ_=>must rfl ?_) λ_=>br (λ_=>?_) λ_=>br (λ_=>must rfl ?_) λ_=>?_) λ_=>br (λ_=>must rfl ?_) λ_=>br (λ_=>?_) λ_=>br (λ_=>must rfl ?_) λ_=>?_) λ_=>br (λ_=>br (λ_=>must rfl ?_) λ_=>br (λ_=>br (λ_=>must rfl ?_) λ_=>br (λ_=>?_) λ_=>br (λ_=>must rfl ?_) λ_=>?_) λ_=>br (λ_=>must rfl ?_) λ_=>br (λ_=>?_) λ_=>br (λ_=>must rfl ?_) λ_=>?_) λ_=>br (λ_=>must rfl ?_) λ_=>br (λ_=>br (λ_=>must rfl ?_) λ_=>br (λ_=>?_) λ_=>br (λ_=>must rfl ?_) λ_=>?_) λ_=>br (λ_=>must rfl ?_) λ_=>br (λ_=>?_) λ_=>br (λ_=>must rfl ?_) λ_=>?_);all_goals first|rfl|(simp only [*,zu1,zfh,cT,cF]<;>rfl)|simp_all[Ty.cells,zu1,zfh]
def zSf:vO 316 zsy:=hF1 zhq zn zA zq (zo []) zHb
def zR2:vO 315 zsy:=hF1 zhq zn zA zq (zo []) zHb
def zj1 (e:GExit):Bool:=bif (ieq e.Kind 0||ieq e.Kind 4) then (ieq e.Page 0&&(!e.Write&&ieq e.N 0)) else (cond (ieq e.Kind 1) (zl e.Page 0 3&&ieq e.N 0)<|cond (ieq e.Kind 2||ieq e.Kind 3) (zl e.N 0 99&&(ieq e.Page 0 && !e.Write)) false)
@[simp] def zbdj (x:Bool):zxM x false = !x:=by cases x<;>rfl
attribute [simp] zAh
@[simp] abbrev zuF (e:GExit):Bool:=true
@[simp] abbrev znf (e:GExit):Bool:=zj1 e
def zqA:Run:=rF1 dE λb=>(zuF b,[aB<|znf b])
def zKg (N:Nat)(a:GExit):OA:=
 let f:=zl a.N 0 99;let e:=zN a.N 0 99;let d:=ieq a.Kind 2;let b:=ieq a.Page 0;let c:=aB<|nB a.Write;let g:=aB<|cond (ieq a.Kind a.Kind) (cond b (cond (zxM a.Write false) (ieq a.N 0) false) false) false; (cond (ieq a.Kind 0) (cond (ieq a.Kind 0) (some [g])<|cond (ieq a.Kind 1) (oN (zN a.Page 0 3)<|cond (zl a.Page 0 3) (some [aB<|ieq a.N 0]) oF)<|cond d (cond d (oN e<|cond f (cond b (some [c]) oF) oF) oF)<|cond (ieq a.Kind 3) (oN e<|cond f (cond b (some [c]) oF) oF) oF)<|cond (ieq a.Kind 4) (some [g])<|cond (ieq a.Kind 1) (oN (zN a.Page 0 3)<|cond (zl a.Page 0 3) (some [aB<|ieq a.N 0]) oF)<|cond d (cond d (oN e<|cond f (cond b (some [c]) oF) oF) oF)<|cond (ieq a.Kind 3) (oN e<|cond f (cond b (some [c]) oF) oF) oF)
def zVz (a:GExit)(b:zuF a=true):∃N,zKg N a=some [aB<|znf a]:=by
 refine⟨0,?_⟩;unfold zKg oN nB;conv=>zeta
 refine br (λ_=>br (λ_=>?_) λ_=>br (λ_=>must rfl (br (λ_=>?_) λ_=>?_)) λ_=>br (λ_=>br (λ_=>must rfl (br (λ_=>br (λ_=>?_) λ_=>?_) λ_=>?_)) λ_=>?_) λ_=>br (λ_=>must rfl (br (λ_=>br (λ_=>?_) λ_=>?_) λ_=>?_)) λ_=>?_) (λ_=>br (λ_=>?_) λ_=>br (λ_=>must rfl (br (λ_=>?_) λ_=>?_)) λ_=>br (λ_=>br (λ_=>must rfl (br (λ_=>br (λ_=>?_) λ_=>?_) λ_=>?_)) λ_=>?_) λ_=>br (λ_=>must rfl (br (λ_=>br (λ_=>?_) λ_=>?_) λ_=>?_)) λ_=>?_);all_goals first|rfl|(simp only [*,znf,zj1,cT,cF]<;>rfl)|simp_all[Ty.cells,znf,zj1]
def zOA:vO 268 zqA:=kF1 zhq zn zA zq (zo []) zVz
def zJU (N:Nat)(a:GExit):OA:=
 let g:=zl a.N 0 99;let f:=zN a.N 0 99;let e:=ieq a.Kind 2;let d:=aB<|ieq a.N 0;let b:=ieq a.Page 0;let c:=aB<|nB a.Write; (cond (ieq a.Kind 0) (cond (ieq a.Kind 0) (cond b (cond (nB a.Write) (some [d]) oF) oF)<|cond (ieq a.Kind 1) (oN (zN a.Page 0 3)<|cond (zl a.Page 0 3) (some [d]) oF)<|cond e (cond e (oN f<|cond g (cond b (some [c]) oF) oF) oF)<|cond (ieq a.Kind 3) (oN f<|cond g (cond b (some [c]) oF) oF) oF)<|cond (ieq a.Kind 4) (cond b (cond (nB a.Write) (some [d]) oF) oF)<|cond (ieq a.Kind 1) (oN (zN a.Page 0 3)<|cond (zl a.Page 0 3) (some [d]) oF)<|cond e (cond e (oN f<|cond g (cond b (some [c]) oF) oF) oF)<|cond (ieq a.Kind 3) (oN f<|cond g (cond b (some [c]) oF) oF) oF)
def zVe (a:GExit)(b:zuF a=true):∃N,zJU N a=some [aB<|znf a]:=by
 refine⟨0,?_⟩;unfold zJU oN nB;conv=>zeta
 refine br (λ_=>br (λ_=>br (λ_=>brN (λ_=>?_) λ_=>?_) λ_=>?_) λ_=>br (λ_=>must rfl (br (λ_=>?_) λ_=>?_)) λ_=>br (λ_=>br (λ_=>must rfl (br (λ_=>br (λ_=>?_) λ_=>?_) λ_=>?_)) λ_=>?_) λ_=>br (λ_=>must rfl (br (λ_=>br (λ_=>?_) λ_=>?_) λ_=>?_)) λ_=>?_) (λ_=>br (λ_=>br (λ_=>brN (λ_=>?_) λ_=>?_) λ_=>?_) λ_=>br (λ_=>must rfl (br (λ_=>?_) λ_=>?_)) λ_=>br (λ_=>br (λ_=>must rfl (br (λ_=>br (λ_=>?_) λ_=>?_) λ_=>?_)) λ_=>?_) λ_=>br (λ_=>must rfl (br (λ_=>br (λ_=>?_) λ_=>?_) λ_=>?_)) λ_=>?_);all_goals first|rfl|(simp only [*,znf,zj1,cT,cF]<;>rfl)|simp_all[Ty.cells,znf,zj1]
def zN7:vO 264 zqA:=kF1 zhq zn zA zq (zo []) zVe
def zwx (c:Ctl):LI:=(cond (zl c.Traps 0 3) [] [1])++((cond (zl c.Post 0 255) [] [2])++((cond (ine c.Post 0) (cond c.Open [] [3]) [])++(cond (ieq c.Traps 2) (cond (ine c.Post 0) [4] []) [])))
@[simp] def zbdg {a:Type}(x:a)(l m:List a):ap (x::l) m=x::ap l m:=rfl
@[simp] abbrev zfu (c:Ctl):Bool:=true
@[simp] abbrev zoK (c:Ctl):LI:=zwx c
def zmC:Run:=rF1 dC λb=>(zfu b,[aS .int<|zoK b])
def zA7 (N:Nat)(b:Ctl):OA:=
 let e:=aS .int [];let k:=ap (ap [] [2]) [4];let j:=ap (ap [] [1]) [4];let i:=aS .int<|ap [] [2];let h:=aS .int<|ap [] [1];let g:=ap (ap [] [2]) [3];let f:=ap (ap [] [1]) [3];let c:=ieq b.Traps 2;let a:=ine b.Post 0;let d:=ap (ap [] [1]) [2];let l:=aS .int d; (oN (zN b.Traps 0 3)<|cond (nB<|zl b.Traps 0 3) (oN (few<|ln<|ap [] [1])<|oN (zN b.Post 0 255)<|cond (nB<|zl b.Post 0 255) (oN (few<|ln d)<|cond a (cond (nB b.Open) (oN (few<|ln<|ap d [3])<|cond c (cond a (oN (few<|ln<|ap (ap d [3]) [4])<|some [aS .int<|ap (ap d [3]) [4]])<|some [aS .int<|ap d [3]])<|some [aS .int<|ap d [3]])<|cond c (cond a (oN (few<|ln<|ap d [4])<|some [aS .int<|ap d [4]])<|some [l])<|some [l])<|cond c (cond a (oN (few<|ln<|ap d [4])<|some [aS .int<|ap d [4]])<|some [l])<|some [l])<|cond a (cond (nB b.Open) (oN (few<|ln f)<|cond c (cond a (oN (few<|ln<|ap f [4])<|some [aS .int<|ap f [4]])<|some [aS .int f])<|some [aS .int f])<|cond c (cond a (oN (few<|ln j)<|some [aS .int j])<|some [h])<|some [h])<|cond c (cond a (oN (few<|ln j)<|some [aS .int j])<|some [h])<|some [h])<|oN (zN b.Post 0 255)<|cond (nB<|zl b.Post 0 255) (oN (few<|ln<|ap [] [2])<|cond a (cond (nB b.Open) (oN (few<|ln g)<|cond c (cond a (oN (few<|ln<|ap g [4])<|some [aS .int<|ap g [4]])<|some [aS .int g])<|some [aS .int g])<|cond c (cond a (oN (few<|ln k)<|some [aS .int k])<|some [i])<|some [i])<|cond c (cond a (oN (few<|ln k)<|some [aS .int k])<|some [i])<|some [i])<|cond a (cond (nB b.Open) (oN (few<|ln<|ap [] [3])<|cond c (cond a (oN (few<|ln<|ap (ap [] [3]) [4])<|some [aS .int<|ap (ap [] [3]) [4]])<|some [aS .int<|ap [] [3]])<|some [aS .int<|ap [] [3]])<|cond c (cond a (oN (few<|ln<|ap [] [4])<|some [aS .int<|ap [] [4]])<|some [e])<|some [e])<|cond c (cond a (oN (few<|ln<|ap [] [4])<|some [aS .int<|ap [] [4]])<|some [e])<|some [e])
def zwX (a:Ctl)(b:zbX big [.agg<|zos a])(c:zfu a=true):∃N,zA7 N a=some [aS .int<|zoK a]:=by
 refine⟨0,?_⟩;unfold zA7 oN nB;conv=>zeta
 refine must rfl (brN (λ_=>mu (must rfl (brN (λ_=>mu (br (λ_=>brN (λ_=>mu (br (λ_=>br (λ_=>mu ?_) λ_=>?_) λ_=>?_)) λ_=>br (λ_=>br (λ_=>mu ?_) λ_=>?_) λ_=>?_) λ_=>br (λ_=>br (λ_=>mu ?_) λ_=>?_) λ_=>?_)) λ_=>br (λ_=>brN (λ_=>mu (br (λ_=>br (λ_=>mu ?_) λ_=>?_) λ_=>?_)) λ_=>br (λ_=>br (λ_=>mu ?_) λ_=>?_) λ_=>?_) λ_=>br (λ_=>br (λ_=>mu ?_) λ_=>?_) λ_=>?_))) λ_=>must rfl (brN (λ_=>mu (br (λ_=>brN (λ_=>mu (br (λ_=>br (λ_=>mu ?_) λ_=>?_) λ_=>?_)) λ_=>br (λ_=>br (λ_=>mu ?_) λ_=>?_) λ_=>?_) λ_=>br (λ_=>br (λ_=>mu ?_) λ_=>?_) λ_=>?_)) λ_=>br (λ_=>brN (λ_=>mu (br (λ_=>br (λ_=>mu ?_) λ_=>?_) λ_=>?_)) λ_=>br (λ_=>br (λ_=>mu ?_) λ_=>?_) λ_=>?_) λ_=>br (λ_=>br (λ_=>mu ?_) λ_=>?_) λ_=>?_));all_goals first|rfl|(simp only [*,zoK,zwx,cT,cF]<;>rfl)|simp_all[Ty.cells,zoK,zwx]
def zFm:vO 317 zmC:=hF1 zhq zn zA zq (zo []) zwX
def zFa:vO 307 zmC:=hF1 zhq zn zA zq (zo []) zwX
def len8tab:ByteArray:=⟨⟨[0,1,2,2,3,3,3,3,4,4,4,4,4,4,4,4,5,5,5,5,5,5,5,5,5,5,5,5,5,5,5,5,6,6,6,6,6,6,6,6,6,6,6,6,6,6,6,6,6,6,6,6,6,6,6,6,6,6,6,6,6,6,6,6,7,7,7,7,7,7,7,7,7,7,7,7,7,7,7,7,7,7,7,7,7,7,7,7,7,7,7,7,7,7,7,7,7,7,7,7,7,7,7,7,7,7,7,7,7,7,7,7,7,7,7,7,7,7,7,7,7,7,7,7,7,7,7,7,8,8,8,8,8,8,8,8,8,8,8,8,8,8,8,8,8,8,8,8,8,8,8,8,8,8,8,8,8,8,8,8,8,8,8,8,8,8,8,8,8,8,8,8,8,8,8,8,8,8,8,8,8,8,8,8,8,8,8,8,8,8,8,8,8,8,8,8,8,8,8,8,8,8,8,8,8,8,8,8,8,8,8,8,8,8,8,8,8,8,8,8,8,8,8,8,8,8,8,8,8,8,8,8,8,8,8,8,8,8,8,8,8,8,8,8,8,8,8,8,8,8,8,8,8,8,8,8]⟩⟩
def ziG (p n:Int):Bool:=ieq (wand .i64 (zln .i64 p n) 1) 1
def scan (p:Int):Int:=bif ziG p 7 then 7 else (cond (ziG p 6) 6<|cond (ziG p 5) 5<|cond (ziG p 4) 4<|cond (ziG p 3) 3<|cond (ziG p 2) 2<|cond (ziG p 1) 1<|cond (ziG p 0) 0<|-1)
def z7f:∀n:Fin 256,zQ .i64 0 (wcv .i64<|byteAt len8tab<|wcv .u8 (n.val:Int))=scan (n.val:Int)+1:=by decide +kernel
def zWP:∀n:Fin 256,-1<=scan (n.val:Int)/\scan (n.val:Int)<=7/\(0<=scan (n.val:Int)->wsub .i64 (n.val:Int) (zmx .i64 1<|scan (n.val:Int))=zAS .i64 (n.val:Int) (zmx .i64 1<|scan (n.val:Int))):=by decide +kernel
def zDT {P:Int->Prop}(h:∀n:Fin 256,P (n.val:Int)){x:Int}(a:0<=x)(b:x<=255):P x:=by have:=h ⟨x.toNat,by omega⟩;have e:((x.toNat:Nat):Int)=x:=(by omega);simpa [e] using this
def zoy (x:Int):Bool:=pc (0<=x/\x<=255)
def zkh (x:Int):Int:=scan x+1
def zjF:LW
 |[.one<|.i .u64 b]=>some (zoy b,[aI<|zkh b])
 |_=>none
def zop (N:Nat)(a:Int):OA:=
 let d:=zln .u64 a 16;let b:=zln .u64 a 32;let c:=zln .u64 b 16; (cond (ige a 4294967296) (oN (ile 0 32)<|cond (ige b 65536) (oN (ile 0 16)<|cond (ige c 256) (oN (ile 0 8)<|oN (inb (wcv .u8<|zln .u64 c 8) 256)<|some [aI<|zQ .i64 (zQ .i64 (zQ .i64 32 16) 8)<|wcv .i64<|byteAt len8tab<|wcv .u8<|zln .u64 c 8])<|oN (inb (wcv .u8 c) 256)<|some [aI<|zQ .i64 (zQ .i64 32 16)<|wcv .i64<|byteAt len8tab<|wcv .u8 c])<|cond (ige b 256) (oN (ile 0 8)<|oN (inb (wcv .u8<|zln .u64 b 8) 256)<|some [aI<|zQ .i64 (zQ .i64 32 8)<|wcv .i64<|byteAt len8tab<|wcv .u8<|zln .u64 b 8])<|oN (inb (wcv .u8 b) 256)<|some [aI<|zQ .i64 32<|wcv .i64<|byteAt len8tab<|wcv .u8 b])<|cond (ige a 65536) (oN (ile 0 16)<|cond (ige d 256) (oN (ile 0 8)<|oN (inb (wcv .u8<|zln .u64 d 8) 256)<|some [aI<|zQ .i64 (zQ .i64 (zQ .i64 0 16) 8)<|wcv .i64<|byteAt len8tab<|wcv .u8<|zln .u64 d 8])<|oN (inb (wcv .u8 d) 256)<|some [aI<|zQ .i64 (zQ .i64 0 16)<|wcv .i64<|byteAt len8tab<|wcv .u8 d])<|cond (ige a 256) (oN (ile 0 8)<|oN (inb (wcv .u8<|zln .u64 a 8) 256)<|some [aI<|zQ .i64 (zQ .i64 0 8)<|wcv .i64<|byteAt len8tab<|wcv .u8<|zln .u64 a 8])<|oN (inb (wcv .u8 a) 256)<|some [aI<|zQ .i64 0<|wcv .i64<|byteAt len8tab<|wcv .u8 a])
def zDS (N:Nat)(a:Int):evalFn (cQ z0x zql zJq zW5) (zo []) N 12 197 [.one<|.i .u64 a]=zop N a:=by kernel_rfl
def zCb (a:Int)(g:zbX big [.one<|.i .u64 a])(f:zoy a=true):∃N,zop N a=some [aI<|zkh a]:=by
 obtain⟨b,c⟩:=zM.1 f;refine⟨0,?_⟩;unfold zop oN;conv=>zeta
 refine zcj (qH (by omega)) ?_;refine zcj (qH (by omega)) ?_;refine zcj (qH (by omega)) ?_;have e:inb (wcv .u8 a) 256=true:=zDT (P:=λx=>inb (wcv .u8 x) 256=true) (by decide +kernel) b c;refine must e ?_;have d:=zDT (P:=λx=>zQ .i64 0 (wcv .i64<|byteAt len8tab<|wcv .u8 x)=scan x+1) z7f b c;rw[d];rfl
def zpN:vO 197 zjF:=zUT zhq zn zA zq (zkJ (by kernel_rfl)) λa d b h=>by unfold zjF at h;split at h;{obtain⟨c,rfl⟩:=ze9 h;exact(zCb _ b c).elim λN e=>⟨zo [],N,(zDS N _).trans e⟩};{cases h}
def z8z:zbf:=[(356,zqr),(191,zpf),(187,zpf),(190,zqH),(186,zqH),(316,zsy),(315,zsy),(268,zqA),(264,zqA),(317,zmC),(307,zmC),(197,zjF)]++z0x
def zhr:zU z8z:=zi zOy (zi zLT<|zi zLy<|zi zOJ<|zi zOi<|zi zSf<|zi zR2<|zi zOA<|zi zN7<|zi zFm<|zi zFa<|zi zpN zhq)
def zj5 (m:List LI)(n:Int):Bool:=bif m.all zc2 then ieq (ln m) n else false
@[simp] abbrev zka (m:List LI)(n:Int):Bool:=true
@[simp] abbrev zgu (m:List LI)(n:Int):Bool:=zj5 m n
def zsz:Run:=rF2 (dS<|.sl .int) dI λb c=>(zka b c,[aB<|zgu b c])
def zQK (N:Nat)(c:lM)(d:Int):OA:=
 (iter (σ:=(Int×Int×lM×Unit)) N (λe a=>let b:=a.2.2.1; (cond (ilt a.2.1<|ln b) (oN (inb a.2.1<|ln b)<|oN (zeh<|ix b a.2.1 [])<|cond (nB<|zdJ<|ix b a.2.1 []) oF<|e (a.1,zQ .i64 a.2.1 1,b,()))<|some [aB<|ieq (ln b) a.1])) (d,0,c,()))
def zY3:=zo [(108,0,{n:=22,tm:=[(0,.sl 0 []),(1,ti),(5,ti)],lo:=[],ro:=[(0,.sl .int,false)]})]
def zYi (a:List LI)(c:Int)(h:zbX big [aS (.sl .int) a,aI c])(k:zka a c=true):∃N,zQK N a c=some [aB<|zgu a c]:=by
 have g:(_:List _).length<=big:=((zdp h).1 _ (qF.2 rfl)).len;refine zcy λN f=>?_;unfold zQK oN nB;conv=>zeta
 refine(zbq a (λi (t:Unit)=>(c,(i:Int),a,())) _ (λ_ x (_:Unit) j=>bif (zc2) x then j () else oF) (λ(t:Unit)=>some [.one<|.b<|ieq (ln a) c]) (λi d t rec=>?_) (λt rec=>?_) _ ()<|f g).trans ?_;{simp only [zbL d,zbn d,zbv d,zbi d g,cT];exact zki rfl};{simp only [zbD,cF]};rw[zhu<|zc2];refine br (λe=>?_) (λe=>?_);{first|rfl|(simp only [e,zgu,zj5,cT,cF]<;>rfl)|(simp_all [Ty.cells,zgu,zj5];done)};{first|rfl|(simp only [e,zgu,zj5,cT,cF]<;>rfl)|(simp_all [Ty.cells,zgu,zj5];done)}
def zSg:vO 108 zsz:=hF2 zhr zn zA zq zY3 zYi
def zQy (N:Nat)(c:lM)(d:Int):OA:=
 (iter (σ:=(Int×Int×Int×lM×Unit)) N (λe a=>let b:=a.2.2.2.1; (cond (ilt a.2.2.1 a.2.1) (oN (inb a.2.2.1<|ln b)<|oN (zeh<|ix b a.2.2.1 [])<|cond (nB<|zdJ<|ix b a.2.2.1 []) oF<|e (a.1,a.2.1,zQ .i64 a.2.2.1 1,b,()))<|some [aB<|ieq (ln b) a.1])) (d,ln c,0,c,()))
def zY1:=zo [(105,0,{n:=21,tm:=[(0,.sl 0 []),(1,ti),(7,.sl 0 []),(8,ti),(9,ti)],lo:=[],ro:=[(0,.sl .int,false)]})]
def zX8 (a:List LI)(c:Int)(h:zbX big [aS (.sl .int) a,aI c])(k:zka a c=true):∃N,zQy N a c=some [aB<|zgu a c]:=by
 have g:(_:List _).length<=big:=((zdp h).1 _ (qF.2 rfl)).len;refine zcy λN f=>?_;unfold zQy oN nB;conv=>zeta
 refine(zbq a (λi (t:Unit)=>(c,ln a,(i:Int),a,())) _ (λ_ x (_:Unit) j=>bif (zc2) x then j () else oF) (λ(t:Unit)=>some [.one<|.b<|ieq (ln a) c]) (λi d t rec=>?_) (λt rec=>?_) _ ()<|f g).trans ?_;{simp only [zbL d,zbn d,zbv d,zbi d g,cT];exact zki rfl};{simp only [zbD,cF]};rw[zhu<|zc2];refine br (λe=>?_) (λe=>?_);{first|rfl|(simp only [e,zgu,zj5,cT,cF]<;>rfl)|(simp_all [Ty.cells,zgu,zj5];done)};{first|rfl|(simp only [e,zgu,zj5,cT,cF]<;>rfl)|(simp_all [Ty.cells,zgu,zj5];done)}
def zR3:vO 105 zsz:=hF2 zhr zn zA zq zY1 zX8
def zd5 (p:List Ins):Bool:=bif p.all zfh then zl (ln p) 1 12 else false
@[simp] abbrev zuH (p:List Ins):Bool:=true
@[simp] abbrev ziy (p:List Ins):Bool:=zd5 p
def zqJ:Run:=rF1 (dS .ins) λb=>(zuH b,[aB<|ziy b])
def zKr (N:Nat)(c:lI):OA:=
 (iter (σ:=(Int×lI×Unit)) N (λd a=>let b:=ix a.2.1 a.1 zAT; (cond (ilt a.1<|ln a.2.1) (oN (inb a.1<|ln a.2.1)<|oN (zxr b)<|cond (nB<|zu1 b) oF<|d (zQ .i64 a.1 1,a.2.1,()))<|oN (zN (ln a.2.1) 1 12)<|some [aB<|zl (ln a.2.1) 1 12])) (0,c,()))
def zXn:=zo [(266,0,{n:=19,tm:=[(0,.sl 0 []),(3,ti)],lo:=[],ro:=[(0,.ins,false)]})]
def zVI (a:List Ins)(g:zbX big [aS .ins a])(j:zuH a=true):∃N,zKr N a=some [aB<|ziy a]:=by
 have f:(_:List _).length<=big:=((zdp g).1 _ (qF.2 rfl)).len;refine zcy λN e=>?_;unfold zKr oN nB;conv=>zeta
 refine(zbq a (λi (t:Unit)=>((i:Int),a,())) _ (λ_ x (_:Unit) h=>bif (zfh) x then h () else oF) (λ(t:Unit)=>cond (zN (ln a) 1 12) (some [.one<|.b<|zl (ln a) 1 12]) none) (λi c t rec=>?_) (λt rec=>?_) _ ()<|e f).trans ?_;{simp only [zbL c,zbn c,zbv c,zbi c f,cT];exact zki rfl};{simp only [zbD,cF]};rw[zhu<|zfh];refine br (λd=>?_) (λd=>?_);{refine must rfl ?_;first|rfl|(simp only [d,ziy,zd5,cT,cF]<;>rfl)|(simp_all [Ty.cells,ziy,zd5];done)};{first|rfl|(simp only [d,ziy,zd5,cT,cF]<;>rfl)|(simp_all [Ty.cells,ziy,zd5];done)}
def zOL:vO 266 zqJ:=hF1 zhr zn zA zq zXn zVI
def zJ3 (N:Nat)(b:lI):OA:=
 (iter (σ:=(Int×Int×lI×Unit)) N (λd a=>let c:=ix a.2.2.1 a.2.1 zAT; (cond (ilt a.2.1 a.1) (oN (inb a.2.1<|ln a.2.2.1)<|oN (zxr c)<|cond (nB<|zu1 c) oF<|d (a.1,zQ .i64 a.2.1 1,a.2.2.1,()))<|oN (zN (ln a.2.2.1) 1 12)<|some [aB<|zl (ln a.2.2.1) 1 12])) (ln b,0,b,()))
def zXd:=zo [(263,0,{n:=18,tm:=[(0,.sl 0 []),(5,.sl 0 []),(6,ti),(7,ti)],lo:=[],ro:=[(0,.ins,false)]})]
def zVo (a:List Ins)(g:zbX big [aS .ins a])(j:zuH a=true):∃N,zJ3 N a=some [aB<|ziy a]:=by
 have f:(_:List _).length<=big:=((zdp g).1 _ (qF.2 rfl)).len;refine zcy λN e=>?_;unfold zJ3 oN nB;conv=>zeta
 refine(zbq a (λi (t:Unit)=>(ln a,(i:Int),a,())) _ (λ_ x (_:Unit) h=>bif (zfh) x then h () else oF) (λ(t:Unit)=>cond (zN (ln a) 1 12) (some [.one<|.b<|zl (ln a) 1 12]) none) (λi c t rec=>?_) (λt rec=>?_) _ ()<|e f).trans ?_;{simp only [zbL c,zbn c,zbv c,zbi c f,cT];exact zki rfl};{simp only [zbD,cF]};rw[zhu<|zfh];refine br (λd=>?_) (λd=>?_);{refine must rfl ?_;first|rfl|(simp only [d,ziy,zd5,cT,cF]<;>rfl)|(simp_all [Ty.cells,ziy,zd5];done)};{first|rfl|(simp only [d,ziy,zd5,cT,cF]<;>rfl)|(simp_all [Ty.cells,ziy,zd5];done)}
def zOk:vO 263 zqJ:=hF1 zhr zn zA zq zXd zVo
def znG (c:Ctl):Bool:=ieq (ln<|zwx c) 0
@[simp] abbrev zoa (c:Ctl):Bool:=znG c
def zsv:Run:=rF1 dC λb=>(zfu b,[aB<|zoa b])
def zQG (N:Nat)(a:Ctl):OA:=
 (oN (zfu a)<|some [aB<|ieq (ln<|zoK a) 0])
def zHa (a:Ctl)(b:zbX big [.agg<|zos a])(c:zfu a=true):∃N,zQG N a=some [aB<|zoa a]:=by refine⟨0,?_⟩;unfold zQG oN;refine must rfl ?_;first|rfl|(simp only [*,zoa,znG,cT,cF]<;>rfl)|simp_all[Ty.cells,zoa,znG]
def zSc:vO 267 zsv:=hF1 zhr zn zA zq (zo []) zHa
def zRZ:vO 244 zsv:=hF1 zhr zn zA zq (zo []) zHa
def zeB (p:Int):Int:=bif zef p then scan p else -1
def zQu {x:Int}(a:0<=x)(b:x<=255):wcv .u64 x=x:=zDT (P:=λx=>wcv .u64 x=x) (by decide +kernel) a b
@[simp] abbrev zit (p:Int):Int:=zeB p
def zqu:Run:=rF1 dI λb=>(zcn b,[aI<|zit b])
def zJ8 (N:Nat)(a:Int):OA:=
 (oN (zcn a)<|cond (nB<|zeS a) (some [aI<|-1])<|oN (zoy<|wcv .u64 a)<|some [aI<|wsub .i64 (zkh<|wcv .u64 a) 1])
def zVt (a:Int)(d:zcn a=true):∃N,zJ8 N a=some [aI<|zit a]:=by refine⟨0,?_⟩;unfold zJ8 oN nB;refine must rfl ?_;cases h:zef a;{refine must (by simp[h]) ?_;simp[zeB,h]};{obtain⟨b,c⟩:=zfW.1 h;have r:=zDT (P:=λx=>-1<=scan x/\scan x<=7/\(0<=scan x->wsub .i64 x (zmx .i64 1<|scan x)=zAS .i64 x (zmx .i64 1<|scan x))) zWP b c;refine zcj (by simp[h]) ?_;rw[zQu b c];refine must (zbh ⟨b,c⟩) ?_;have e:wsub .i64 (zkh a) 1=scan a:=(by unfold zkh;rw[zsc (by omega) (by omega)];omega);rw[e];simp[zeB,h]}
def zOq:vO 301 zqu:=kF1 zhr zn zA zq (zo []) zVt
def zKv (N:Nat)(b:Int):OA:=
 (iter (σ:=(Int×Int×Unit)) N (λc a=>cond (ige a.2.1 0) (oN (zcn a.1)<|cond (zeS a.1) (oN (ile 0<|wcv .u64 a.2.1)<|cond (ieq (wand .i64 (zln .i64 a.1<|wcv .u64 a.2.1) 1) 1) (some [aI a.2.1])<|c (a.1,wsub .i64 a.2.1 1,()))<|some [aI<|-1])<|some [aI<|-1]) (b,7,()))
def zXo:=zo [(393,0,{n:=19,tm:=[(0,ti),(3,ti)],lo:=[],ro:=[]})]
def zVL (a:Int)(C:zcn a=true):∃N,zKv N a=some [aI<|zit a]:=by refine⟨10,?_⟩;unfold zKv oN;cases h:zef a;{rw [ze7];refine must rfl ?_;refine must rfl ?_;refine zcj h ?_;simp[zeB,h]};{have c:zeS a=true:=h;rw[ze7];refine must rfl (must rfl (must c (must rfl (br (λr=>?_) λr=>?_))));{have A:ziG a 7=true:=r;simp[zeB,h,scan,A]};have b:ziG a 7=false:=r;show iter 9 _ (a,6,())=_;rw[ze7];refine must rfl (must rfl (must c (must rfl (br (λq=>?_) λq=>?_))));{have z:ziG a 6=true:=q;simp[zeB,h,scan,z,b]};have d:ziG a 6=false:=q;show iter 8 _ (a,5,())=_;rw[ze7];refine must rfl (must rfl (must c (must rfl (br (λp=>?_) λp=>?_))));{have y:ziG a 5=true:=p;simp[zeB,h,scan,y,b,d]};have e:ziG a 5=false:=p;show iter 7 _ (a,4,())=_;rw[ze7];refine must rfl (must rfl (must c (must rfl (br (λn=>?_) λn=>?_))));{have x:ziG a 4=true:=n;simp[zeB,h,scan,x,b,d,e]};have f:ziG a 4=false:=n;show iter 6 _ (a,3,())=_;rw[ze7];refine must rfl (must rfl (must c (must rfl (br (λm=>?_) λm=>?_))));{have w:ziG a 3=true:=m;simp[zeB,h,scan,w,b,d,e,f]};have g:ziG a 3=false:=m;show iter 5 _ (a,2,())=_;rw[ze7];refine must rfl (must rfl (must c (must rfl (br (λl=>?_) λl=>?_))));{have v:ziG a 2=true:=l;simp[zeB,h,scan,v,b,d,e,f,g]};have i:ziG a 2=false:=l;show iter 4 _ (a,1,())=_;rw[ze7];refine must rfl (must rfl (must c (must rfl (br (λk=>?_) λk=>?_))));{have u:ziG a 1=true:=k;simp[zeB,h,scan,u,b,d,e,f,g,i]};have s:ziG a 1=false:=k;show iter 3 _ (a,0,())=_;rw[ze7];refine must rfl (must rfl (must c (must rfl (br (λj=>?_) λj=>?_))));{have t:ziG a 0=true:=j;simp[zeB,h,scan,t,b,d,e,f,g,i,s]};have B:ziG a 0=false:=j;show iter 2 _ (a,-1,())=_;rw[ze7];refine zcj rfl ?_;simp[zeB,h,scan,b,d,e,f,g,i,s,B]}
def zOP:vO 393 zqu:=kF1 zhr zn zA zq zXo zVL
def zb0 {c:Cur}{i k:Int}(h:zbk c)(a:0<=i):zbk ⟨c.b,i,k⟩:=⟨a,h.2⟩
def zZN {c:Cur}(h:zbk c){l:LI}(a:l≠[]):zbt c l∈l:=(zzo<|zgs h a).2.2 (kR.2 a)
def zgS {c:Cur}(h:zbk c){n:Int}(a:0<n):0<=zu c n/\zu c n<n:=(zjy<|zbF h n).2.2 a
def zMi {o x:Int}(h:(o=1\/o=2\/o=5\/o=6)/\0<=x/\x<=99\/(o=3\/o=4)/\0<=x/\x<=15\/o=8/\0<=x/\x<=11):zfh ⟨o,x⟩=true:=by have w:∀{a b:Int},a<=x->x<=b->zl x a b=true:=λc d=>(by simp only[zl,ige,ile,qE,qY];exact⟨c,d⟩);rcases h with⟨h|h|h|h,c,d⟩|⟨h|h,c,d⟩|⟨h,c,d⟩<;>subst h<;>exact w c d
def zzC (N:Nat)(c:Cur)  : OA :=
 let d:=zbt c [1,2,3,3,3,4,4,4,5,6,8];let a:=({ (zba c [1,2,3,3,3,4,4,4,5,6,8]) with b:=c.b}:Cur); (share (oN (zD a 16)<|some [.agg [.s .u8 c.b,.i .i64 (zf a 16).i,.i .i64 (zf a 16).h],.agg [.i .i64 d,.i .i64<|zu a 16]]) λf=>share (cond (ieq d 8) (oN (zD a 4)<|some [.agg [.s .u8 c.b,.i .i64 (zf a 4).i,.i .i64 (zf a 4).h],.agg [.i .i64 d,.i .i64<|zu a 4]])<|oN (zD a 100)<|some [.agg [.s .u8 c.b,.i .i64 (zf a 100).i,.i .i64 (zf a 100).h],.agg [.i .i64 d,.i .i64<|zu a 100]]) λe=>oN (zbB c [1,2,3,3,3,4,4,4,5,6,8])<|cond (ieq d 3) (cond (ieq d 3) f e)<|cond (ieq d 4) f e)
def zsK (c:Cur)(s:Cur)(a:Ins):Prop:=(∃N,zzC N c=some (AV.agg (zcl s)::[aT .ins a]))/\(s.b=c.b/\0<=s.i)/\(zfh a=true)
def zlW (c:Cur)  : Bool:=wC (zsK c)
def zhV (c:Cur)  : Cur:=wS (zsK c)
def zhC (c:Cur)  : Ins:=wV (zsK c)
def zM6 {c:Cur}(h:zlW c=true):zsK c (zhV c) (zhC c):=wG h
def zAD (c:Cur)  : 0<=(zhV c).i:=wP λh=>h.2.1.2
def z1M (c:Cur)(h:∃N,Ends (wE (λa=>aT .ins a) c.b λa=>zfh a=true)<|zzC N c):zlW c=true:=wI (λ_ _ h=>h) h
def zBp:zeR:=rP0 λc=>(zlW c,zhV c,[aT .ins<|zhC c])
def zOV:zcc Tryz.prog 262 [false,true,true] zBp:=hP0 zhp zbo zWb zq (zo []) (λ_ h=>(zM6 h).1)
def zTN {c:Cur}(h:zbk c):zlW c=true:=by
 refine z1M c ⟨0,?_⟩;have p:([1,2,3,3,3,4,4,4,5,6,8]:LI)≠[]:=(by simp);have q:=zZN h p;have f:zbk {zba c [1,2,3,3,3,4,4,4,5,6,8] with b:=c.b}:=zb0 h (zcu _ _);have t:=zgS f (n:=16) (by omega);have w:=zgS f (n:=4) (by omega);have m:=zgS f (n:=100) (by omega);unfold zzC oN;conv=>zeta
 generalize zbt c [1,2,3,3,3,4,4,4,5,6,8]=o at q;simp only[qG,qN,or_false]at q;have j:∀{n:Int},ieq o n=false->o≠n:=λh e=>(by subst e;simp[ieq]at h);have k:∀{n:Int},ieq o n=true->o=n:=λh=>by simpa [ieq] using h
 have L:∀(n:Int),0<n->(zfh ⟨o,zu {zba c [1,2,3,3,3,4,4,4,5,6,8] with b:=c.b} n⟩=true)->Ends (λa=>∃s r,a=(AV.agg (zcl s)::[aT .ins r])/\(s.b=c.b/\0<=s.i)/\zfh r=true)
  (cond (zD {zba c [1,2,3,3,3,4,4,4,5,6,8] with b:=c.b} n) (some (AV.agg [.s .u8 c.b,.i .i64 (zf {zba c [1,2,3,3,3,4,4,4,5,6,8] with b:=c.b} n).i,.i .i64 (zf {zba c [1,2,3,3,3,4,4,4,5,6,8] with b:=c.b} n).h]::[.agg [.i .i64 o,.i .i64<|zu {zba c [1,2,3,3,3,4,4,4,5,6,8] with b:=c.b} n]])) none):=
  λn x u=>zI (zbF f n) (zbU (aT .ins) (v:=⟨o,zu _ n⟩) (zJ _ _) u)
 refine zI (zgs h p) (zbK (λg=>zbK (λ_=>L 16 (by omega) (zMi ?_)) λd=>absurd (k g) (j d)) λg=>zbK (λd=>L 16 (by omega) (zMi ?_)) λd=>zbK (λl=>L 4 (by omega) (zMi ?_)) λl=>L 100 (by omega) (zMi ?_));{have:=k g;omega};{have:=k d;omega};{have:=k l;omega};{have:=j g;have:=j d;have:=j l;omega}
def z9b:zdj:=[(262,[false,true,true],zBp)]++z9a
def zWc:zco z9b:=zcZ zWb (by
 intro x a;simp only[qG,qN,or_false]at a;rcases a with rfl
 .exact zOV)
def zjd {x y:Int}(a:0<=x)(b:x<=1000000)(c:0<=y)(d:y<=1000000):zQ .i64 x y=x+y:=zp0 (by omega) (by omega)
def zl3 {a:Type}{l:List a}(h:ln l<=1000000):few (ln l)=true:=qJ ⟨by unfold ln;omega,by omega⟩
def ziK {a:Type}(l:List a)(x:a):ln (ap l [x])=ln l+1:=by simp[ln,ap]
def zxE (N:Nat)(c:Cur)  : OA :=
 (iter (σ:=(Int×Int×Int×lI×LI×Unit)) N (λj d=>let e:=d.2.2.2.1;let f:=d.2.2.2.2.1;let g:=(⟨f,d.2.1,d.2.2.1⟩:Cur);let a:=({ (zf g 7) with b:=f}:Cur); (oN (zD g 7)<|cond (ilt d.1<|zQ .i64 2<|zu g 7) (oN (zlW a)<|oN (few<|ln<|ap e [zhC a])<|j (zQ .i64 d.1 1,(zhV a).i,(zhV a).h,ap e [zhC a],f,()))<|oN (zdG a 3)<|cond (zdS a 3) (oN (few<|ln<|ap e [(⟨7,0⟩:Ins)])<|some [.agg [.s .u8 f,.i .i64 (zW a 3).i,.i .i64 (zW a 3).h],aS .ins<|ap e [(⟨7,0⟩:Ins)]])<|oN (few<|ln<|ap e [(⟨8,0⟩:Ins)])<|some [.agg [.s .u8 f,.i .i64 (zW a 3).i,.i .i64 (zW a 3).h],aS .ins<|ap e [(⟨8,0⟩:Ins)]])) (0,c.i,c.h,[],c.b,()))
def zTC:=zo [(259,0,{n:=29,tm:=[(0,.lp 0 0),(3,.sl 0 []),(4,ti)],lo:=[(0,[.sl 1 [],ti,ti])],ro:=[(0,.ins,true),(1,.u8,false)]})]
def zra (c:Cur)(s:Cur)(a:List Ins):Prop:=(∃N,zxE N c=some (AV.agg (zcl s)::[aS .ins a]))/\(s.b=c.b/\0<=s.i)/\(zd5 a=true)
def ziX (c:Cur)  : Bool:=wC (zra c)
def zbb (c:Cur)  : Cur:=wS (zra c)
def zcv (c:Cur)  : List Ins:=wV (zra c)
def zsL {c:Cur}(h:ziX c=true):zra c (zbb c) (zcv c):=wG h
def zky (c:Cur)  : 0<=(zbb c).i:=wP λh=>h.2.1.2
def zYF (c:Cur)(h:∃N,Ends (wE (λa=>aS .ins a) c.b λa=>zd5 a=true)<|zxE N c):ziX c=true:=wI (λ_ _ h=>h) h
def zy7:zeR:=rP0 λc=>(ziX c,zbb c,[aS .ins<|zcv c])
def zL1:zcc Tryz.prog 259 [false,true,true] zy7:=hP0 zhp zbo zWc zq zTC (λ_ h=>(zsL h).1)
def zDY {c:Cur}(h:zbk c):ziX c=true:=by
 refine zYF c ⟨9,?_⟩;unfold zxE oN;conv=>zeta
 refine zl2 (λn s=>s.1+(n:Int)=8/\0<=s.1/\0<=s.2.1/\(∀x∈s.2.2.2.1,zfh x=true)/\ln s.2.2.2.1=s.1/\s.2.2.2.2.1=c.b) ?_ 9 8 _ ⟨rfl,kL 0,h.1,by simp,rfl,rfl⟩ (by omega);rintro n ⟨t,i,k,l,b,u⟩ rec ⟨B,g,v,j,w,z⟩ f;dsimp only at B g v j w z ⊢;subst z;have a:zbk ⟨c.b,i,k⟩:=zb0 h v;have d:=zgS a (n:=7) (by omega);have A:=zjd (x:=2) (by omega) (by omega) d.1 (by omega);have m:zbk {zf ⟨c.b,i,k⟩ 7 with b:=c.b}:=zb0 h (zJ _ _);have e:∀(y:Ins),zfh y=true->2<=t->zd5 (ap l [y])=true:=(by intro y C D;unfold zd5;rw[ziK,w];have:(ap l [y]).all zfh=true:=(by simp only[ap,List.all_append,kX,List.all_nil,vD,qE];exact⟨qM.2 j,C⟩);rw[this,cT];simp only[zl,ige,ile,qE,qY];omega);refine zI (zbF a 7) (zbK (λp=>?_) λp=>?_);{have r:t<zQ .i64 2 (zu ⟨c.b,i,k⟩ 7):=qD p;rw[A]at r;refine zI (zTN m) (zI (zl3 (by rw[ziK];omega))<|f (n-1) _ (by omega) ⟨?_,?_,zAD _,?_,?_,rfl⟩);{show zQ .i64 t 1+_=8;rw[zjd g (by omega) (by omega) (by omega)];omega};{show 0<=zQ .i64 t 1;rw[zjd g (by omega) (by omega) (by omega)];omega};{intro x d;rcases jN.1 d with d|d;{exact j x d};{rw [qF.1 d];exact(zM6<|zTN m).2.2}};{show ln (ap l [_])=zQ .i64 t 1;rw[ziK,zjd g (by omega) (by omega) (by omega)];omega}};{have q:¬ t<zQ .i64 2 (zu ⟨c.b,i,k⟩ 7):=qX p;rw[A]at q;refine zI (zk0 m 3) (zbK (λ_=>zI (zl3 (by rw[ziK];omega)) (zbU (aS .ins) (zcT _ _) (e _ rfl (by omega)))) λ_=>zI (zl3 (by rw[ziK];omega)) (zbU (aS .ins) (zcT _ _) (e _ rfl (by omega))))}
def z9c:zdj:=[(259,[false,true,true],zy7)]++z9b
def zWd:zco z9c:=zcZ zWc (by
 intro x a;simp only[qG,qN,or_false]at a;rcases a with rfl
 .exact zL1)
def zXx {f:Type}{c:Cur}(h:zbk c){P:f->Prop}{fc:Cur->Bool}{fs:Cur->Cur}{fv:Cur->f}(C:∀{c:Cur},zbk c->fc c=true)(D:∀c,0<=(fs c).i)(hg:∀{c:Cur},zbk c->P (fv c)){G:Ans->Prop}{R:Cur->List f->Ans}(B:∀s l,s.b=c.b->0<=s.i->1<=l.length->l.length<=2->(∀x∈l,P x)->G (R s l)){F:(Int×Int×Int×List f×LI×Unit->OA)->Int×Int×Int×List f×LI×Unit->OA}(A:∀rec t i k l,F rec (t,i,k,l,c.b,())=bif zD ⟨c.b,i,k⟩ 2 then (bif ilt t (zQ .i64 1 (zu ⟨c.b,i,k⟩ 2)) then (bif fc { zf ⟨c.b,i,k⟩ 2 with b:=c.b } then (bif few (ln (ap l [fv { zf ⟨c.b,i,k⟩ 2 with b:=c.b }])) then
        rec (zQ .i64 t 1,(fs {zf ⟨c.b,i,k⟩ 2 with b:=c.b}).i,(fs {zf ⟨c.b,i,k⟩ 2 with b:=c.b}).h,ap l [fv {zf ⟨c.b,i,k⟩ 2 with b:=c.b}],c.b,()) else none) else none) else some (R ⟨c.b,(zf ⟨c.b,i,k⟩ 2).i,(zf ⟨c.b,i,k⟩ 2).h⟩ l)) else none) :
 Ends G (iter 3 F (0,c.i,c.h,[],c.b,())):=by
 refine zl2 (fun n s=>s.1+(n:Int)=2/\0<=s.1/\0<=s.2.1/\(∀x∈s.2.2.2.1,P x)/\ln s.2.2.2.1=s.1/\s.2.2.2.2.1=c.b) ?_ 3 2 _ ⟨rfl,kL 0,h.1,by simp,rfl,rfl⟩ (by omega)
 rintro n ⟨t,i,k,l,b,u⟩ rec ⟨z,m,p,g,q,r⟩ e
 dsimp only at z m p g q r
 subst r;rw[A];have a:zbk ⟨c.b,i,k⟩:=zb0 h p;have d:=zgS a (n:=2) (by omega)
 have w:=zjd (x:=1) (by omega) (by omega) d.1 (by omega)
 have v:zbk {zf ⟨c.b,i,k⟩ 2 with b:=c.b}:=zb0 h (zJ _ _);refine zI (zbF a 2) (zbK (fun j=>?_) (fun j=>?_))
 .have hlt:t<zQ .i64 1 (zu ⟨c.b,i,k⟩ 2):=qD j;rw[w]at hlt;have E:=zjd (y:=1) m (by omega) (by omega) (by omega)
  refine zI (C v) (zI (zl3 (by rw[ziK];omega)) (e (n-1) _ (by omega) ⟨?_,?_,D _,?_,?_,rfl⟩))
  .show zQ .i64 t 1+_=2
   omega
  .show 0<=zQ .i64 t 1
   omega
  .intro x d;rcases jN.1 d with d|d
   .exact g x d
   .rw [qF.1 d];exact hg v
  .show ln (ap l [_])=zQ .i64 t 1
   rw[ziK];omega
 .have hge:¬ t<zQ .i64 1 (zu ⟨c.b,i,k⟩ 2):=qX j;rw[w]at hge;unfold ln at q;exact zvo (B _ l rfl (zJ _ _) (by omega) (by omega) g)
def zvd (N:Nat)(c:Cur)  : OA :=
 (iter (σ:=(Int×Int×Int×lP×LI×Unit)) N (λg a=>let f:=a.2.2.2.2.1;let e:=(⟨f,a.2.1,a.2.2.1⟩:Cur);let d:=({ (zf e 2) with b:=f}:Cur); (oN (zD e 2)<|cond (ilt a.1<|zQ .i64 1<|zu e 2) (oN (ziX d)<|oN (few<|ln<|ap a.2.2.2.1 [zcv d])<|g (zQ .i64 a.1 1,(zbb d).i,(zbb d).h,ap a.2.2.2.1 [zcv d],f,()))<|some [.agg [.s .u8 f,.i .i64 (zf e 2).i,.i .i64 (zf e 2).h],aS (.sl .ins) a.2.2.2.1])) (0,c.i,c.h,[],c.b,()))
def zQo:=zo [(203,0,{n:=19,tm:=[(0,.lp 0 0),(3,.sl 0 []),(4,ti)],lo:=[(0,[.sl 1 [],ti,ti])],ro:=[(0,.sl .ins,true),(1,.u8,false)]})]
def zpo (c:Cur)(s:Cur)(a:List (List Ins)):Prop:=(∃N,zvd N c=some (AV.agg (zcl s)::[aS (.sl .ins) a]))/\(s.b=c.b/\0<=s.i)/\(1<=a.length/\a.length<=2/\∀x∈a,zd5 x=true)
def zli (c:Cur)  : Bool:=wC (zpo c)
def zlj (c:Cur)  : Cur:=wS (zpo c)
def zrk (c:Cur)  : List (List Ins):=wV (zpo c)
def zEh {c:Cur}(h:zli c=true):zpo c (zlj c) (zrk c):=wG h
def zWL (c:Cur)  : 0<=(zlj c).i:=wP λh=>h.2.1.2
def zWK (c:Cur)(h:∃N,Ends (wE (λa=>aS (.sl .ins) a) c.b λa=>1<=a.length/\a.length<=2/\∀x∈a,zd5 x=true)<|zvd N c):zli c=true:=wI (λ_ _ h=>h) h
def zxb:zeR:=rP0 λc=>(zli c,zlj c,[aS (.sl .ins)<|zrk c])
def zIX:zcc Tryz.prog 203 [false,true,true] zxb:=hP0 zhp zbo zWd zq zQo (λ_ h=>(zEh h).1)
def zZP {c:Cur}(h:zbk c):zli c=true:=by
 refine zWK c ⟨3,?_⟩;unfold zvd oN;conv=>zeta
 exact zXx h (P:=λx=>zd5 x=true) (fc:=ziX) (fs:=zbb) (fv:=zcv) (R:=λs l=>AV.agg (zcl s)::[aS (.sl .ins) l]) zDY zky (λh=>(zsL<|zDY h).2.2) (λs l d e a b f=>⟨s,l,rfl,⟨d,e⟩,a,b,f⟩) (λrec t i k l=>rfl)
def z9d:zdj:=[(203,[false,true,true],zxb)]++z9c
def zWe:zco z9d:=zcZ zWd (by
 intro x a;simp only[qG,qN,or_false]at a;rcases a with rfl
 .exact zIX)
def zzH (N:Nat)(c:Cur)  : OA :=
 (iter (σ:=(Int×Int×Int×lQ×LI×Unit)) N (λg a=>let f:=a.2.2.2.2.1;let e:=(⟨f,a.2.1,a.2.2.1⟩:Cur);let d:=({ (zf e 2) with b:=f}:Cur); (oN (zD e 2)<|cond (ilt a.1<|zQ .i64 1<|zu e 2) (oN (zli d)<|oN (few<|ln<|ap a.2.2.2.1 [zrk d])<|g (zQ .i64 a.1 1,(zlj d).i,(zlj d).h,ap a.2.2.2.1 [zrk d],f,()))<|some [.agg [.s .u8 f,.i .i64 (zf e 2).i,.i .i64 (zf e 2).h],aS (.sl<|.sl .ins) a.2.2.2.1])) (0,c.i,c.h,[],c.b,()))
def zXs:=zo [(122,0,{n:=19,tm:=[(0,.lp 0 0),(3,.sl 0 []),(4,ti)],lo:=[(0,[.sl 1 [],ti,ti])],ro:=[(0,.sl<|.sl .ins,true),(1,.u8,false)]})]
def zsQ (c:Cur)(s:Cur)(a:List (List<|List Ins)):Prop:=(∃N,zzH N c=some (AV.agg (zcl s)::[aS (.sl<|.sl .ins) a]))/\(s.b=c.b/\0<=s.i)/\(1<=a.length/\a.length<=2/\∀p∈a,1<=p.length/\p.length<=2/\∀x∈p,zd5 x=true)
def zrl (c:Cur)  : Bool:=wC (zsQ c)
def zoj (c:Cur)  : Cur:=wS (zsQ c)
def zv6 (c:Cur)  : List (List<|List Ins):=wV (zsQ c)
def zM8 {c:Cur}(h:zrl c=true):zsQ c (zoj c) (zv6 c):=wG h
def z1Y (c:Cur)  : 0<=(zoj c).i:=wP λh=>h.2.1.2
def z1X (c:Cur)(h:∃N,Ends (wE (λa=>aS (.sl<|.sl .ins) a) c.b λa=>1<=a.length/\a.length<=2/\∀p∈a,1<=p.length/\p.length<=2/\∀x∈p,zd5 x=true)<|zzH N c):zrl c=true:=wI (λ_ _ h=>h) h
def zBu:zeR:=rP0 λc=>(zrl c,zoj c,[aS (.sl<|.sl .ins)<|zv6 c])
def zO0:zcc Tryz.prog 122 [false,true,true] zBu:=hP0 zhp zbo zWe zq zXs (λ_ h=>(zM8 h).1)
def z7D {c:Cur}(h:zbk c):zrl c=true:=by
 refine z1X c ⟨3,?_⟩;unfold zzH oN;conv=>zeta
 exact zXx h (P:=λp=>1<=p.length/\p.length<=2/\∀x∈p,zd5 x=true) (fc:=zli) (fs:=zlj) (fv:=zrk) (R:=λs l=>AV.agg (zcl s)::[aS (.sl<|.sl .ins) l]) zZP zWL (λh=>(zEh<|zZP h).2.2) (λs l d e a b f=>⟨s,l,rfl,⟨d,e⟩,a,b,f⟩) (λrec t i k l=>rfl)
def z9e:zdj:=[(122,[false,true,true],zBu)]++z9d
def zWf:zco z9e:=zcZ zWe (by
 intro x a;simp only[qG,qN,or_false]at a;rcases a with rfl
 .exact zO0)
def zEI {c:Type}{G:c->Prop}{x:Bool}{a b:Option c}(k:Ends G a)(h:x=true:=by first
 |exact zbF (by first|assumption|exact zb0 (by assumption) (zJ _ _)|exact zb0 (by assumption) (zcT _ _)|exact zb0 (by assumption) (zcu _ _)) _
 |exact zk0 (by first|assumption|exact zb0 (by assumption) (zJ _ _)|exact zb0 (by assumption) (zcT _ _)) _
 |exact zgs (by first|assumption|exact zb0 (by assumption) (zJ _ _)) (by simp)):Ends G (cond x a b):=zI h k
def zzE (N:Nat)(c:Cur)  : OA :=
 let f:=zu c 4;let j:=({ (zf c 4) with b:=c.b}:Cur);let e:=zdS j 4;let d:=zW j 4;let a:=({d with b:=c.b}:Cur);let g:=({ (zW a 2) with b:=c.b}:Cur); (oN (zD c 4)<|oN (zdG j 4)<|cond (nB e) (cond (ine f 2) (oN (zdG a 2)<|cond (zdS a 2) (oN (zD g 256)<|some [.agg [.s .u8 c.b,.i .i64 (zf g 256).i,.i .i64 (zf g 256).h],.agg [.i .i64 f,.i .i64<|zu g 256,.b<|nB e]])<|some [.agg [.s .u8 c.b,.i .i64 (zW a 2).i,.i .i64 (zW a 2).h],.agg [.i .i64 f,.i .i64 0,.b<|nB e]])<|some [.agg [.s .u8 c.b,.i .i64 d.i,.i .i64 d.h],.agg [.i .i64 f,.i .i64 0,.b<|nB e]])<|some [.agg [.s .u8 c.b,.i .i64 d.i,.i .i64 d.h],.agg [.i .i64 f,.i .i64 0,.b<|nB e]])
def zsN (c:Cur)(s:Cur)(a:Ctl):Prop:=(∃N,zzE N c=some (AV.agg (zcl s)::[.agg<|zos a]))/\(s.b=c.b/\0<=s.i)/\(True)
def zlX (c:Cur)  : Bool:=wC (zsN c)
def zcR (c:Cur)  : Cur:=wS (zsN c)
def zc7 (c:Cur)  : Ctl:=wV (zsN c)
def z1Q {c:Cur}(h:zlX c=true):zsN c (zcR c) (zc7 c):=wG h
def zAF (c:Cur)  : 0<=(zcR c).i:=wP λh=>h.2.1.2
def z1R (c:Cur)(h:∃N,Ends (wE (λa=>.agg (zos a)) c.b λa=>True)<|zzE N c):zlX c=true:=wI (λ_ _ h=>h) h
def zBr:zeR:=rP0 λc=>(zlX c,zcR c,[.agg<|zos<|zc7 c])
def zOX:zcc Tryz.prog 125 [false,true,true] zBr:=hP0 zhp zbo zWf zq (zo []) (λ_ h=>(z1Q h).1)
def z0t {c:Cur}(h:zbk c):zlX c=true:=by
 refine z1R c ⟨0,?_⟩;unfold zzE oN nB;conv=>zeta
 refine zEI (zEI<|zbK (λ_=>zbK (λ_=>zEI (zbK (λ_=>zEI (?_)) λ_=>?_)) λ_=>?_) λ_=>?_);all_goals exact zbU (λx=>AV.agg (zos x)) (v:=⟨_,_,_⟩) (by first|exact zJ _ _|exact zcT _ _) trivial
def z9f:zdj:=[(125,[false,true,true],zBr)]++z9e
def zJs:zco z9f:=zcZ zWf (by
 intro x a;simp only[qG,qN,or_false]at a;rcases a with rfl
 .exact zOX)
def ze0 {c:Type}{G:c->Prop}{x:Bool}{a b:Option c}(k:Ends G a)(h:x=true:=by first
 |exact zbF (by first|assumption|exact zb0 (by assumption) (zJ _ _)|exact zb0 (by assumption) (zcu _ _)) _
 |exact zgs (by first|assumption|exact zb0 (by assumption) (zJ _ _)) (by simp)
 |exact z0t (zb0 (by assumption)<|zJ _ _)):Ends G (cond x a b):=zI h k
def zzK (N:Nat)(c:Cur)  : OA :=
 let m:=({ (zf c 2) with b:=c.b}:Cur);let g:=zu c 2;let f:=zu m 2;let u:=({ (zf m 2) with b:=c.b}:Cur);let e:=zf u 24;let d:=zu u 24;let a:=({e with b:=c.b}:Cur);let j:=zf a 8;let l:=({ (zf a 4) with b:=c.b}:Cur);let k:=({j with b:=c.b}:Cur);let t:=({ (zf a 16) with b:=c.b}:Cur);let r:=({ (zba a [16,17]) with b:=c.b}:Cur);let q:=({ (zba a [13,13,14,15]) with b:=c.b}:Cur);let p:=({ (zf k 4) with b:=c.b}:Cur);let n:=({ (zf l 8) with b:=c.b}:Cur); (share (oN (zbB a [13,13,14,15])<|oN (zD q 8)<|some [.agg [.s .u8 c.b,.i .i64 (zf q 8).i,.i .i64 (zf q 8).h],.agg [.i .i64<|zbt a [13,13,14,15],.i .i64 g,.i .i64 f,.i .i64<|zu q 8,.i .i64 0,.i .i64 0]]) λA=>share (cond (ieq d 16) (oN (zbB a [16,17])<|oN (zD r 4)<|some [.agg [.s .u8 c.b,.i .i64 (zf r 4).i,.i .i64 (zf r 4).h],.agg [.i .i64<|zbt a [16,17],.i .i64 g,.i .i64 f,.i .i64<|zu r 4,.i .i64 0,.i .i64 0]])<|some [.agg [.s .u8 c.b,.i .i64 e.i,.i .i64 e.h],.agg [.i .i64 1,.i .i64 g,.i .i64 f,.i .i64 0,.i .i64 0,.i .i64 0]]) λz=>share (oN (zD a 4)<|oN (zD l 8)<|oN (zbB n [3,3,1,2])<|some [.agg [.s .u8 c.b,.i .i64 (zba n [3,3,1,2]).i,.i .i64 (zba n [3,3,1,2]).h],.agg [.i .i64 2,.i .i64 g,.i .i64 f,.i .i64<|zu a 4,.i .i64<|zu l 8,.i .i64<|zbt n [3,3,1,2]]]) λy=>share (oN (zD a 4)<|some [.agg [.s .u8 c.b,.i .i64 (zf a 4).i,.i .i64 (zf a 4).h],.agg [.i .i64 3,.i .i64 g,.i .i64 f,.i .i64<|zu a 4,.i .i64 0,.i .i64 0]]) λx=>share (cond (ieq d 7) (oN (zD a 8)<|some [.agg [.s .u8 c.b,.i .i64 j.i,.i .i64 j.h],.agg [.i .i64 6,.i .i64 g,.i .i64 f,.i .i64<|zu a 8,.i .i64 0,.i .i64 0]])<|cond (ieq d 8) (oN (zlX a)<|cond ((zc7 a).Open) (some [.agg [.s .u8 c.b,.i .i64 (zcR a).i,.i .i64 (zcR a).h],.agg [.i .i64 7,.i .i64 g,.i .i64 f,.i .i64 (zc7 a).Traps,.i .i64 (zc7 a).Post,.i .i64 1]])<|some [.agg [.s .u8 c.b,.i .i64 (zcR a).i,.i .i64 (zcR a).h],.agg [.i .i64 7,.i .i64 g,.i .i64 f,.i .i64 (zc7 a).Traps,.i .i64 (zc7 a).Post,.i .i64 0]])<|cond (ieq d 9) (oN (zD a 8)<|oN (zD k 4)<|oN (zD p 100)<|some [.agg [.s .u8 c.b,.i .i64 (zf p 100).i,.i .i64 (zf p 100).h],.agg [.i .i64 8,.i .i64 g,.i .i64 f,.i .i64<|zu a 8,.i .i64<|zu k 4,.i .i64<|zu p 100]])<|cond (ieq d 10) (oN (zD a 8)<|some [.agg [.s .u8 c.b,.i .i64 j.i,.i .i64 j.h],.agg [.i .i64 9,.i .i64 g,.i .i64 f,.i .i64<|zu a 8,.i .i64 0,.i .i64 0]])<|cond (ieq d 11) (some [.agg [.s .u8 c.b,.i .i64 e.i,.i .i64 e.h],.agg [.i .i64 10,.i .i64 g,.i .i64 f,.i .i64 0,.i .i64 0,.i .i64 0]])<|cond (ieq d 12) (oN (zD a 16)<|oN (zD t 100)<|some [.agg [.s .u8 c.b,.i .i64 (zf t 100).i,.i .i64 (zf t 100).h],.agg [.i .i64 11,.i .i64 g,.i .i64 f,.i .i64<|zu a 16,.i .i64<|zu t 100,.i .i64 0]])<|cond (ieq d 13) (oN (zD a 16)<|some [.agg [.s .u8 c.b,.i .i64 (zf a 16).i,.i .i64 (zf a 16).h],.agg [.i .i64 12,.i .i64 g,.i .i64 f,.i .i64<|zu a 16,.i .i64 0,.i .i64 0]])<|cond (ieq d 14) (cond (ieq d 14) A z)<|cond (ieq d 15) A z) λv=>share (cond (ieq d 4) (oN (zD a 100)<|some [.agg [.s .u8 c.b,.i .i64 (zf a 100).i,.i .i64 (zf a 100).h],.agg [.i .i64 4,.i .i64 g,.i .i64 f,.i .i64<|zu a 100,.i .i64 0,.i .i64 0]])<|cond (ieq d 5) (cond (ieq d 5) (some [.agg [.s .u8 c.b,.i .i64 e.i,.i .i64 e.h],.agg [.i .i64 5,.i .i64 g,.i .i64 f,.i .i64 0,.i .i64 0,.i .i64 0]]) v)<|cond (ieq d 6) (some [.agg [.s .u8 c.b,.i .i64 e.i,.i .i64 e.h],.agg [.i .i64 5,.i .i64 g,.i .i64 f,.i .i64 0,.i .i64 0,.i .i64 0]]) v) λw=>share (cond (ieq d 2) (cond (ieq d 2) x w)<|cond (ieq d 3) x w) λB=>oN (zD c 2)<|oN (zD m 2)<|oN (zD u 24)<|cond (ieq d 0) (cond (ieq d 0) y B)<|cond (ieq d 1) y B)
def zsS (c:Cur)(s:Cur)(a:GAct):Prop:=(∃N,zzK N c=some (AV.agg (zcl s)::[aT .act a]))/\(s.b=c.b/\0<=s.i)/\(True)
def zhX (c:Cur)  : Bool:=wC (zsS c)
def zfg (c:Cur)  : Cur:=wS (zsS c)
def zjC (c:Cur)  : GAct:=wV (zsS c)
def z15 {c:Cur}(h:zhX c=true):zsS c (zfg c) (zjC c):=wG h
def zNa (c:Cur)  : 0<=(zfg c).i:=wP λh=>h.2.1.2
def z16 (c:Cur)(h:∃N,Ends (wE (λa=>aT .act a) c.b λa=>True)<|zzK N c):zhX c=true:=wI (λ_ _ h=>h) h
def zBw:zeR:=rP0 λc=>(zhX c,zfg c,[aT .act<|zjC c])
def zO5:zcc Tryz.prog 66 [false,true,true] zBw:=hP0 zhp zbo zJs zq (zo []) (λ_ h=>(z15 h).1)
def z7C {c:Cur}(h:zbk c):zhX c=true:=by
 refine z16 c ⟨0,?_⟩;unfold zzK oN;conv=>zeta
 refine zps (ze0<|ze0<|?_) (λ_ g=>zps (zbK (λ_=>ze0 (ze0<|?_)) λ_=>?_) λ_ f=>zps (ze0<|ze0<|ze0<|?_) λ_ e=>zps (ze0<|?_) λ_ d=>zps (zbK (λ_=>ze0 (?_)) λ_=>zbK (λ_=>ze0 (zbK (λ_=>?_) λ_=>?_)) λ_=>zbK (λ_=>ze0 (ze0<|ze0<|?_)) λ_=>zbK (λ_=>ze0 (?_)) λ_=>zbK (λ_=>?_) λ_=>zbK (λ_=>ze0 (ze0<|?_)) λ_=>zbK (λ_=>ze0 (?_)) λ_=>zbK (λ_=>zbK (λ_=>g) λ_=>f) λ_=>zbK (λ_=>g) λ_=>f) λ_ a=>zps (zbK (λ_=>ze0 (?_)) λ_=>zbK (λ_=>zbK (λ_=>?_) λ_=>a) λ_=>zbK (λ_=>?_) λ_=>a) λ_ b=>zps (zbK (λ_=>zbK (λ_=>d) λ_=>b) λ_=>zbK (λ_=>d) λ_=>b) λ_ i=>ze0 (ze0<|ze0<|zbK (λ_=>zbK (λ_=>e) λ_=>i) λ_=>zbK (λ_=>e) λ_=>i));all_goals exact zbU (aT .act) (v:=⟨_,_,_,_,_,_⟩) (by first|exact zJ _ _|exact zcu _ _|exact zAF _) trivial
def zmJ (N:Nat)  : OA :=
 (iter (σ:=(Int×lA×Unit)) N (λe c=>cond (ilt c.1 2) (iter (σ:=(Int×Int×lA×Unit)) N (λf b=>cond (ilt b.2.1 2) (iter (σ:=(Int×Int×Int×lA×Unit)) N (λg a=>let d:=ap a.2.2.2.1 [(⟨2,a.1,a.2.1,a.2.2.1,zQ .i64 a.2.2.1<|znw .i64 3 a.2.1,3⟩:GAct),(⟨3,a.1,a.2.1,a.2.2.1,0,0⟩:GAct)]; (cond (ilt a.2.2.1 3) (oN (few<|ln d)<|g (a.1,a.2.1,zQ .i64 a.2.2.1 1,d,()))<|f (a.1,zQ .i64 a.2.1 1,a.2.2.2.1,()))) (b.1,b.2.1,0,b.2.2.1,()))<|e (zQ .i64 b.1 1,b.2.2.1,())) (c.1,0,c.2.1,()))<|some [aS .act c.2.1]) (0,[],()))
def zQp:=zo [(204,0,{n:=34,tm:=[(1,.sl 0 []),(2,ti)],lo:=[],ro:=[(0,.act,true)]}),(204,2,{n:=34,tm:=[(1,.sl 0 []),(2,ti),(3,ti)],lo:=[],ro:=[(0,.act,true)]}),(204,4,{n:=34,tm:=[(1,.sl 0 []),(2,ti),(3,ti),(4,ti)],lo:=[],ro:=[(0,.act,true)]})]
def zt1  (a:List GAct):Prop:=(∃N,zmJ N=some [aS .act a])/\(a.length<=45)
def zll  : Bool:=uC (T:=List GAct) (λr=>zt1 r)
def zWO  : List GAct:=uV (λr=>zt1 r)
def zuL  : List GAct:=(zWO)
def zEi  (h:zll=true):zt1 zuL:=uG h
def zWN  (h:∃N,Ends (λa=>∃b,a=[aS .act b]/\(b.length<=45))<|zmJ N):zll=true:=by obtain⟨N,a,e,b,rfl,h⟩:=h;exact zbh ⟨b,⟨N,e⟩,h⟩
def zzk:Run:=rF0 (zll,[aS .act zuL])
def zPN  (a:zll=true):∃N,zmJ N  = some [aS .act zuL]:=by exact(zEi a).1
def zIY:vO 204 zzk:=kF0 zhp zbo zJs zq zQp zPN
def z2I:List GAct:=match zmJ 10 with
 |some [.one<|.s .act l]=>l
 |_=>[]
def zZg:zll=true:=zWN ⟨10,_,(by kernel_rfl:zmJ 10=some [aS .act z2I]),z2I,rfl,Nat.le_of_ble_eq_true (by kernel_rfl)⟩
def z9g:zdj:=[(66,[false,true,true],zBw)]++z9f
def zWg:zco z9g:=zcZ zJs (by
 intro x a;simp only[qG,qN,or_false]at a;rcases a with rfl
 .exact zO5)
def zbbA:zbf:=[(204,zzk)]++z0u
def z2M:zU zbbA:=zi zIY zhp
def zRr {c:Cur}(h:zbk c){m:Int}(e:0<=m)(J:m<=1000){G:Ans->Prop}{R:Cur->List GAct->Ans}(D:∀s l,s.b=c.b->0<=s.i->ln l<=45+m->G (R s l)){F:(Int×Int×Int×Int×List GAct×LI×Unit->OA)->Int×Int×Int×Int×List GAct×LI×Unit->OA}(C:∀rec t i k l,F rec (m,t,i,k,l,c.b,())=bif zD ⟨c.b,i,k⟩ (zQ .i64 m 1) then (bif ilt t (zu ⟨c.b,i,k⟩ (zQ .i64 m 1)) then (bif zhX { zf ⟨c.b,i,k⟩ (zQ .i64 m 1) with b:=c.b } then (bif few (ln (ap l [zjC { zf ⟨c.b,i,k⟩ (zQ .i64 m 1) with b:=c.b }])) then
        rec (m,zQ .i64 t 1,(zfg {zf ⟨c.b,i,k⟩ (zQ .i64 m 1) with b:=c.b}).i,(zfg {zf ⟨c.b,i,k⟩ (zQ .i64 m 1) with b:=c.b}).h,ap l [zjC {zf ⟨c.b,i,k⟩ (zQ .i64 m 1) with b:=c.b}],c.b,()) else none) else none) else some (R ⟨c.b,(zf ⟨c.b,i,k⟩ (zQ .i64 m 1)).i,(zf ⟨c.b,i,k⟩ (zQ .i64 m 1)).h⟩ l)) else none){w I:Int}(f:0<=w){g:List GAct}(E:g.length<=45):Ends G (iter 1002 F (m,0,w,I,g,c.b,())):=by
 refine zl2 (fun n s=>s.1=m/\s.2.1+(n:Int)=1000/\0<=s.2.1/\0<=s.2.2.1/\(ln s.2.2.2.2.1<=45+s.2.1/\s.2.1<=m)/\s.2.2.2.2.2.1=c.b) ?_ 1002 1000 _ ⟨rfl,rfl,kL 0,f,⟨by unfold ln;show ((g.length:Nat):Int)<=45+0;omega,e⟩,rfl⟩ (by omega)
 rintro n ⟨q,t,i,k,l,b,u⟩ rec ⟨e,z,j,p,⟨A,H⟩,r⟩ d
 dsimp only at e z j p A r H
 subst r;subst e;rw[C];have a:zbk ⟨c.b,i,k⟩:=zb0 h p;have L:=zjd (x:=q) (y:=1) (by omega) (by omega) (by omega) (by omega)
 have M:=zgS a (n:=zQ .i64 q 1) (by omega)
 have B:zbk {zf ⟨c.b,i,k⟩ (zQ .i64 q 1) with b:=c.b}:=zb0 h (zJ _ _);refine zI (zbF a _) (zbK (fun v=>?_) (fun v=>?_))
 .have hlt:t<zu ⟨c.b,i,k⟩ (zQ .i64 q 1):=qD v;have K:=zjd (y:=1) j (by omega) (by omega) (by omega)
  refine zI (z7C B) (zI (zl3 (by rw[ziK];omega)) (d (n-1) _ (by omega) ⟨rfl,?_,?_,zNa _,⟨?_,?_⟩,rfl⟩))
  .show zQ .i64 t 1+_=1000
   omega
  .show 0<=zQ .i64 t 1
   omega
  .show ln (ap l [_])<=45+zQ .i64 t 1
   rw[ziK];omega
  .show zQ .i64 t 1<=q
   omega
 .refine zvo (D _ l rfl (zJ _ _) ?_);omega
def zxL (N:Nat)(c:Cur)(p:Int):OA:=
 (oN (zdG c 5)<|cond (nB<|zdS c 5) (oN zll<|iter (σ:=(Int×Int×Int×Int×lA×LI×Unit)) N (λn a=>let l:=a.2.2.2.2.2.1;let f:=zQ .i64 a.1 1;let d:=(⟨l,a.2.2.1,a.2.2.2.1⟩:Cur);let j:=({ (zf d f) with b:=l}:Cur);let q:=ap a.2.2.2.2.1 [zjC j]; (oN (zD d f)<|cond (ilt a.2.1<|zu d f) (oN (zhX j)<|oN (few<|ln q)<|n (a.1,zQ .i64 a.2.1 1,(zfg j).i,(zfg j).h,q,l,()))<|some [.agg [.s .u8 l,.i .i64 (zf d f).i,.i .i64 (zf d f).h],aS .act a.2.2.2.2.1])) (p,0,(zW c 5).i,(zW c 5).h,zuL,c.b,()))<|iter (σ:=(Int×Int×Int×Int×lA×LI×Unit)) N (λn a=>let m:=a.2.2.2.2.2.1;let g:=zQ .i64 a.1 1;let e:=(⟨m,a.2.2.1,a.2.2.2.1⟩:Cur);let k:=({ (zf e g) with b:=m}:Cur);let r:=ap a.2.2.2.2.1 [zjC k]; (oN (zD e g)<|cond (ilt a.2.1<|zu e g) (oN (zhX k)<|oN (few<|ln r)<|n (a.1,zQ .i64 a.2.1 1,(zfg k).i,(zfg k).h,r,m,()))<|some [.agg [.s .u8 m,.i .i64 (zf e g).i,.i .i64 (zf e g).h],aS .act a.2.2.2.2.1])) (p,0,(zW c 5).i,(zW c 5).h,[],c.b,()))
def zTF:=zo [(123,0,{n:=26,tm:=[(0,.lp 0 0),(1,ti),(5,.sl 0 []),(6,ti)],lo:=[(0,[.sl 1 [],ti,ti])],ro:=[(0,.act,true),(1,.u8,false)]})]
def zro (c:Cur)(a:Int)(s:Cur)(d:List GAct):Prop:=(∃N,zxL N c a=some (AV.agg (zcl s)::[aS .act d]))/\(s.b=c.b/\0<=s.i)/\(ln d<=45+a)
def zoU (c:Cur)(a:Int):Bool:=wC (zro c a)
def zoV (c:Cur)(a:Int):Cur:=wS (zro c a)
def ztu (c:Cur)(a:Int):List GAct:=wV (zro c a)
def zHr {c:Cur}{a:Int}(h:zoU c a=true):zro c a (zoV c a) (ztu c a):=wG h
def zYO (c:Cur)(a:Int):0<=(zoV c a).i:=wP λh=>h.2.1.2
def zYN (c:Cur)(a:Int)(h:∃N,Ends (wE (λd=>aS .act d) c.b λd=>ln d<=45+a)<|zxL N c a):zoU c a=true:=wI (λ_ _ h=>h) h
def zzb:zeR:=rP1 dI λc b=>(zoU c b,zoV c b,[aS .act<|ztu c b])
def zMe:zcc Tryz.prog 123 [false,true,true] zzb:=hP1 z2M zbo zWg zq zTF (λ_ _ h=>(zHr h).1)
def z2A {c:Cur}(h:zbk c){m:Int}(e:0<=m)(f:m<=1000):zoU c m=true:=by
 refine zYN c m ⟨1002,?_⟩;unfold zxL oN nB;conv=>zeta
 have g:=zEi zZg;exact zI (zk0 h 5) (zbK (λ_=>zI zZg (zRr h e f (R:=λs l=>AV.agg (zcl s)::[aS .act l]) (λs l a b d=>⟨s,l,rfl,⟨a,b⟩,d⟩) (λrec t i k l=>rfl) (zcT _ _) g.2)) λ_=>zRr h e f (R:=λs l=>AV.agg (zcl s)::[aS .act l]) (λs l a b d=>⟨s,l,rfl,⟨a,b⟩,d⟩) (λrec t i k l=>rfl) (zcT _ _) (jX _))
def z9h:zdj:=[(123,[false,true,true],zzb)]++z9g
def zWh:zco z9h:=zcZ zWg (by
 intro x a;simp only[qG,qN,or_false]at a;rcases a with rfl
 .exact zMe)
@[simp] abbrev zhG (l:List LI):Bool:=pc (SmM l)
@[simp] abbrev zeC (l:List LI):List LI:=l
def zBz:Run:=rF1 (dS<|.sl .int) λb=>(zhG b,[aS (.sl .int)<|zeC b])
def zGk (N:Nat)(c:lM):OA:=
 (iter (σ:=(Int×Int×lM×lM×Unit)) N (λd a=>let b:=ix a.2.2.2.1 a.2.1 []; (cond (ilt a.2.1 a.1) (oN (inb a.2.1<|ln a.2.2.2.1)<|oN (zeI b)<|oN (few<|ln<|ap a.2.2.1 [zeF b])<|d (a.1,zQ .i64 a.2.1 1,ap a.2.2.1 [zeF b],a.2.2.2.1,()))<|some [aS (.sl .int) a.2.2.1])) (ln c,0,[],c,()))
def zTw:=zo [(126,0,{n:=20,tm:=[(3,.sl 0 []),(7,.sl 1 []),(8,ti),(9,ti)],lo:=[],ro:=[(0,.sl .int,true),(1,.sl .int,false)]})]
def zSK (a:List LI)(g:zhG a=true):∃N,zGk N a=some [aS (.sl .int)<|zeC a]:=by
 have f:=zM.1 g;have e:=zda f.1;refine zcy λN d=>?_;unfold zGk oN;conv=>zeta
 refine(zbq a (λi (t:lM)=>(ln a,(i:Int),t,a,())) _ (λ_ x b j=>bif zeI x then (cond (few<|ln<|ap b [zeF x]) (j<|ap b [zeF x]) none) else none) (λ(t:lM)=>some [.one<|.s (.sl .int) t]) (λi c t rec=>?_) (λt rec=>?_) _ ([])<|d e.1).trans ?_;{simp only [zbL c,zbn c,zbv c,zbi c e.1,cT]};{simp only [zbD,cF]};exact zly zeI zeF _ a 0 [] (λx h=>⟨by exact zbh (qU (f.2 x h) (by decide)),rfl⟩) (by simpa using e.2)
def zLA:vO 126 zBz:=kF1 zhr zn zA zq zTw zSK
@[simp] abbrev zO (g:Guest):Bool:=pc (SmG g)
@[simp] abbrev zdc (g:Guest):Guest:=g
def zxe:Run:=rF1 (dT .guest) λb=>(zO b,[aT .guest<|zdc b])
def zA4 (N:Nat)(a:Guest):OA:=
 (oN (zvC a.Prog)<|oN (zhd a.Written)<|oN (zhd a.Live)<|oN (zeI a.Seen)<|some [aT .guest ({a with Prog:=(zqj a.Prog),Written:=(ze1 a.Written),Live:=(ze1 a.Live),Seen:=(zeF a.Seen)}:Guest)])
def zMv (a:Guest)(b:zO a=true):∃N,zA4 N a=some [aT .guest<|zdc a]:=by have c:=zM.1 b;obtain⟨h,i,j,k⟩:=c;have d:a.Prog.length<=2147483648:=(by omega);have e:a.Written.length<=2147483648:=(by omega);have f:a.Live.length<=2147483648:=(by omega);have g:a.Seen.length<=2147483648:=(by omega);refine⟨0,?_⟩;unfold zA4 oN;refine mu (mu<|mu<|mu ?_);first|rfl|(simp only [*,zdc,cT,cF]<;>rfl)|simp_all[Ty.cells,zdc]
def zFj:vO 215 zxe:=kF1 zhr zn zA zq (zo []) zMv
def zfs (t:List Slot)(p n:Int):Bool:=bif ieq (zbJ t p).Page (-1) then false else (cond (enough (zbJ t p).Rights n) (zl n 1 3) false)
def zcH (t:List Slot)(p n:Int):Int:=bif zfs t p n then (zbJ t p).Page else -1
def z6W {r:Int}(h:zep r=true):0<=r/\r<=3:=zfW.1 h
def z0O {a n:Int}(h:enough a n=true):zl n 1 3 = !ieq n 0:=by unfold enough at h;cases b:zep a;{rw [b]at h;cases h};{cases c:zep n;{rw [b,c]at h;cases h};{have:=z6W c;have e:(zl n 1 3=true)↔(!ieq n 0)=true:=(by rw[zfW];simp[ieq];omega);cases d:zl n 1 3<;>cases f:(!ieq n 0)<;>simp_all}}
@[simp] abbrev ziu (t:List Slot)(p n:Int):Bool:=true
@[simp] abbrev zft (t:List Slot)(p n:Int):Int:=zcH t p n
@[simp] abbrev zeX (t:List Slot)(p n:Int):Bool:=zfs t p n
def zmB:Run:=rF3 (dS .slot) dI dI λb c d=>(ziu b c d,[aI<|zft b c d,aB<|zeX b c d])
def zA2 (N:Nat)(c:lS)(d a:Int):OA:=
 let b:=zfn c d; (oN (zhQ c d)<|cond (ieq b.Page<|-1) (some [aI<|-1,aB false])<|oN (zbg b.Rights a)<|cond (nB<|zdr b.Rights a) (some [aI<|-1,aB false])<|oN (zN a 1 3)<|cond (nB<|zl a 1 3) (some [aI<|-1,aB false])<|some [aI b.Page,aB true])
def zMt (a:List Slot)(b c:Int)(d:ziu a b c=true):∃N,zA2 N a b c=some [aI<|zft a b c,aB<|zeX a b c]:=by
 refine⟨0,?_⟩;unfold zA2 oN nB;conv=>zeta
 refine must rfl (br (λ_=>?_) λ_=>must rfl (brN (λ_=>?_) λ_=>must rfl (brN (λ_=>?_) λ_=>?_)));all_goals first|rfl|(simp only [*,zft,zeX,zcH,zfs,cT,cF]<;>rfl)|simp_all[Ty.cells,zft,zeX,zcH,zfs]
def zFh:vO 228 zmB:=kF3 zhr zn zA zq (zo []) zMt
def zBe (N:Nat)(c:lS)(d b:Int):OA:=
 let a:=zfn c d; (oN (zhQ c d)<|cond (ieq a.Page<|-1) (some [aI<|-1,aB false])<|oN (zbg a.Rights b)<|cond (nB<|zdr a.Rights b) (some [aI<|-1,aB false])<|cond (ieq b 0) (some [aI<|-1,aB false])<|some [aI a.Page,aB true])
def zMF (a:List Slot)(b c:Int)(d:ziu a b c=true):∃N,zBe N a b c=some [aI<|zft a b c,aB<|zeX a b c]:=by
 have e:=@z0O (zbJ a b).Rights c;refine⟨0,?_⟩;unfold zBe oN nB;conv=>zeta
 refine must rfl (br (λ_=>?_) λ_=>must rfl (brN (λ_=>?_) λ_=>br (λ_=>?_) λ_=>?_));all_goals first|rfl|(simp only [*,zft,zeX,zcH,zfs,cT,cF]<;>rfl)|simp_all[Ty.cells,zft,zeX,zcH,zfs]
def zFs:vO 385 zmB:=kF3 zhr zn zA zq (zo []) zMF
def z8A:zbf:=[(197,zjF),(126,zBz),(215,zxe),(385,zmB),(228,zmB),(108,zsz),(105,zsz),(266,zqJ),(263,zqJ),(267,zsv),(244,zsv),(393,zqu),(301,zqu)]++z8z
def zhs:zU z8A:=zi zpN (zi zLA<|zi zFj<|zi zFs<|zi zFh<|zi zSg<|zi zR3<|zi zOL<|zi zOk<|zi zSc<|zi zRZ<|zi zOP<|zi zOq zhr)
@[simp] abbrev zei (m:List LI)(p c v:Int):Bool:=pc (SmM m)
@[simp] abbrev zeG (m:List LI)(p c v:Int):List LI:=zbT m p c v
def zn7:Run:=rF4 (dS<|.sl .int) dI dI dI λb c d e=>(zei b c d e,[aS (.sl .int)<|zeG b c d e])
def zCO (N:Nat)(c:lM)(a d e:Int):OA:=
 let b:=zfZ c; (oN (zhT c)<|oN (zfM c a d)<|cond (zr5 c a d) (oN (zN e 0 99)<|cond (zl e 0 99) (oN (inb a<|ln b)<|oN (inb d<|ln<|ix b a [])<|share (up b a<|up (ix b a []) d e) λf=>some [aS (.sl .int) f])<|some [aS (.sl .int) b])<|some [aS (.sl .int) b])
def zPK (a:List LI)(b c d:Int)(e:zei a b c d=true):∃N,zCO N a b c d=some [aS (.sl .int)<|zeG a b c d]:=by
 have g:=zM.1 e;have f:=(zAq a b c).1;refine⟨0,?_⟩;unfold zCO oN;conv=>zeta
 refine mu (must rfl (br (λ_=>must rfl (br (λ_=>mu (mu<|shr ?_)) λ_=>?_)) λ_=>?_));all_goals first|rfl|(simp only [*,zeG,zbT,cT,cF]<;>rfl)|simp_all[Ty.cells,zeG,zbT]
def zIP:vO 350 zn7:=kF4 zhs zn zA zq (zo []) zPK
def zCr (N:Nat)(a:lM)(b c d:Int):OA:=
 let e:=aS (.sl .int)<|zeC a; (oN (zhG a)<|oN (zbg b<|ln a)<|cond (zcb b<|ln a) (oN (inb b<|ln a)<|oN (zbg c<|ln<|ix a b [])<|cond (zcb c<|ln<|ix a b []) (oN (zN d 0 99)<|cond (zl d 0 99) (oN (inb b<|ln<|zeC a)<|oN (inb c<|ln<|ix (zeC a) b [])<|share (up (zeC a) b<|up (ix (zeC a) b []) c d) λf=>some [aS (.sl .int) f])<|some [e])<|some [e])<|some [e])
def zPq (a:List LI)(b c d:Int)(e:zei a b c d=true):∃N,zCr N a b c d=some [aS (.sl .int)<|zeG a b c d]:=by
 have f:=zM.1 e;refine⟨0,?_⟩;unfold zCr oN;conv=>zeta
 refine mu (must rfl (br (λ_=>mu (must rfl (br (λ_=>must rfl (br (λ_=>mu (mu<|shr ?_)) λ_=>?_)) λ_=>?_))) λ_=>?_));all_goals first|rfl|(simp only [*,zeG,zbT,zhk,cT,cF]<;>rfl)|simp_all[Ty.cells,zeG,zbT,zhk]
def zIu:vO 137 zn7:=kF4 zhs zn zA zq (zo []) zPq
def zkD (g:Guest):Bool:=bif canRun g then (cond g.Ctl.Open (ige (zeB g.Pending) 0) false) else false
@[simp] abbrev zbx (g:Guest):Bool:=true
@[simp] abbrev zlU (g:Guest):Bool:=zkD g
def zn6:Run:=rF1 (dT .guest) λb=>(zbx b,[aB<|zlU b])
def zCN (N:Nat)(a:Guest):OA:=
 (oN (zuE a)<|cond (zpB a) (cond a.Ctl.Open (oN (zcn a.Pending)<|some [aB<|ige (zit a.Pending) 0]) oF) oF)
def zyW (a:Guest)(b:zbX big [aT .guest a])(c:zbx a=true):∃N,zCN N a=some [aB<|zlU a]:=by refine⟨0,?_⟩;unfold zCN oN;refine must rfl (br (λ_=>br (λ_=>must rfl ?_) λ_=>?_) λ_=>?_);all_goals first|rfl|(simp only [*,zlU,zkD,cT,cF]<;>rfl)|simp_all[Ty.cells,zlU,zkD]
def zIO:vO 365 zn6:=hF1 zhs zn zA zq (zo []) zyW
def zIt:vO 212 zn6:=hF1 zhs zn zA zq (zo []) zyW
def zhv (p:Int):Int:=bif ilt (zeB p) 0 then p else wsub .i64 p (zmx .i64 1<|zeB p)
def zm1 (p:Int):Int:=bif ilt (zeB p) 0 then -1 else zeB p
def zRR {p:Int}(h:ilt (zeB p) 0=false):wcv .u64 (zeB p)=zeB p/\ile 0 (zeB p)=true/\zAS .i64 p (zmx .i64 1<|zeB p)=wsub .i64 p (zmx .i64 1<|zeB p):=by unfold zeB at *;cases a:zef p;{rw [a]at h;cases h};{simp only [a,cT]at h ⊢;obtain⟨c,d⟩:=zfW.1 a;have r:=zDT (P:=λx=>-1<=scan x/\scan x<=7/\(0<=scan x->wsub .i64 x (zmx .i64 1<|scan x)=zAS .i64 x (zmx .i64 1<|scan x))) zWP c d;have b:0<=scan p:=(by unfold ilt at h;have:=qX h;omega);exact⟨zQu b (by omega),qJ b,(r.2.2 b).symm⟩}
@[simp] abbrev zf8 (p:Int):Int:=zhv p
@[simp] abbrev zf9 (p:Int):Int:=zm1 p
@[simp] abbrev zhR (p:Int):Bool:=!ilt (zeB p) 0
def zpg:Run:=rF1 dI λb=>(zcn b,[aI<|zf8 b,aI<|zf9 b,aB<|zhR b])
def zGJ (N:Nat)(a:Int):OA:=
 (oN (zcn a)<|cond (ilt (zit a) 0) (some [aI a,aI<|-1,aB false])<|oN (ile 0<|wcv .u64<|zit a)<|some [aI<|wsub .i64 a<|zmx .i64 1<|wcv .u64<|zit a,aI<|zit a,aB true])
def zS6 (a:Int)(b:zcn a=true):∃N,zGJ N a=some [aI<|zf8 a,aI<|zf9 a,aB<|zhR a]:=by have c:=@zRR a;refine⟨0,?_⟩;unfold zGJ oN;refine must rfl (br (λ_=>?_) λ_=>mu ?_);all_goals first|rfl|(simp only [*,zf8,zf9,zhR,zhv,zm1,cT,cF]<;>rfl)|simp_all[Ty.cells,zf8,zf9,zhR,zhv,zm1]
def zLU:vO 367 zpg:=kF1 zhs zn zA zq (zo []) zS6
def zGj (N:Nat)(a:Int):OA:=
 (oN (zcn a)<|cond (ilt (zit a) 0) (some [aI a,aI<|-1,aB false])<|oN (ile 0<|zit a)<|some [aI<|zAS .i64 a<|zmx .i64 1<|zit a,aI<|zit a,aB true])
def zSJ (a:Int)(b:zcn a=true):∃N,zGj N a=some [aI<|zf8 a,aI<|zf9 a,aB<|zhR a]:=by have c:=@zRR a;refine⟨0,?_⟩;unfold zGj oN;refine must rfl (br (λ_=>?_) λ_=>mu ?_);all_goals first|rfl|(simp only [*,zf8,zf9,zhR,zhv,zm1,cT,cF]<;>rfl)|simp_all[Ty.cells,zf8,zf9,zhR,zhv,zm1]
def zLz:vO 247 zpg:=kF1 zhs zn zA zq (zo []) zSJ
def saw (g:Guest)(n:Int):Guest:=bif ilt (ln g.Seen) 40 then {g with Seen:=ap g.Seen [n]} else g
@[simp] def zP7 {g:Guest}(n:Int)(h:SmG g):SmG (saw g n):=by unfold saw;cases a:ilt (ln g.Seen) 40;{exact h};{have:=qD a;refine⟨h.1,h.2.1,h.2.2.1,?_⟩;simp[ln] at *;omega}
@[simp] abbrev zu3 (g:Guest)(n:Int):Bool:=pc (SmG g)
@[simp] abbrev zqY (g:Guest)(n:Int):Guest:=saw g n
def zxh:Run:=rF2 (dT .guest) dI λb c=>(zu3 b c,[aT .guest<|zqY b c])
def zZe (N:Nat)(a:Guest)(b:Int):OA:=
 (oN (zes a)<|cond (ilt (ln (zdT a).Seen) 40) (oN (few<|ln<|ap (zdT a).Seen [b])<|some [aT .guest ({ (zdT a) with Seen:=(ap (zdT a).Seen [b])}:Guest)])<|some [aT .guest<|zdT a])
def z3T (a:Guest)(b:Int)(c:zu3 a b=true):∃N,zZe N a b=some [aT .guest<|zqY a b]:=by have d:=zM.1 c;have e:a.Seen.length<=1048576:=d.2.2.2;refine⟨0,?_⟩;unfold zZe oN;refine mu (br (λ_=>mu ?_) λ_=>?_);all_goals first|rfl|(simp only [*,zqY,saw,cT,cF]<;>rfl)|simp_all[Ty.cells,zqY,saw]
def zX4:vO 368 zxh:=kF2 zhs zn zA zq (zo []) z3T
def zZa (N:Nat)(a:Guest)(b:Int):OA:=
 (oN (zO a)<|cond (ilt (ln a.Seen) 40) (oN (few<|ln<|ap (zdc a).Seen [b])<|some [aT .guest ({ (zdc a) with Seen:=(ap (zdc a).Seen [b])}:Guest)])<|some [aT .guest<|zdc a])
def z3P (a:Guest)(b:Int)(c:zu3 a b=true):∃N,zZa N a b=some [aT .guest<|zqY a b]:=by have d:=zM.1 c;have e:a.Seen.length<=1048576:=d.2.2.2;refine⟨0,?_⟩;unfold zZa oN;refine mu (br (λ_=>mu ?_) λ_=>?_);all_goals first|rfl|(simp only [*,zqY,saw,cT,cF]<;>rfl)|simp_all[Ty.cells,zqY,saw]
def zX0:vO 217 zxh:=kF2 zhs zn zA zq (zo []) z3P
def stopped (g:Guest)(e:GExit):Guest:={g with Exit:=e}
@[simp] def zYY {g:Guest}(e:GExit)(h:SmG g):SmG (stopped g e):=h
@[simp] abbrev zcI (g:Guest)(e:GExit):Bool:=pc (SmG g)
@[simp] abbrev zcM (g:Guest)(e:GExit):Guest:=stopped g e
def zpe:Run:=rF2 (dT .guest) dE λb c=>(zcI b c,[aT .guest<|zcM b c])
def zGH (N:Nat)(a:Guest)(b:GExit):OA:=
 (oN (zes a)<|some [aT .guest ({ (zdT a) with Exit:=b}:Guest)])
def zS4 (a:Guest)(b:GExit)(c:zcI a b=true):∃N,zGH N a b=some [aT .guest<|zcM a b]:=by have d:=zM.1 c;refine⟨0,?_⟩;unfold zGH oN;refine mu ?_;first|rfl|(simp only [*,zcM,stopped,cT,cF]<;>rfl)|simp_all[Ty.cells,zcM,stopped]
def zLS:vO 372 zpe:=kF2 zhs zn zA zq (zo []) zS4
def zGh (N:Nat)(a:Guest)(b:GExit):OA:=
 (oN (zO a)<|some [aT .guest ({ (zdc a) with Exit:=b}:Guest)])
def zSH (a:Guest)(b:GExit)(c:zcI a b=true):∃N,zGh N a b=some [aT .guest<|zcM a b]:=by have d:=zM.1 c;refine⟨0,?_⟩;unfold zGh oN;refine mu ?_;first|rfl|(simp only [*,zcM,stopped,cT,cF]<;>rfl)|simp_all[Ty.cells,zcM,stopped]
def zLx:vO 135 zpe:=kF2 zhs zn zA zq (zo []) zSH
def zci (g:Guest):Guest:=bif ige g.Pc 12 then {g with Pc:=12} else {g with Pc:=zQ .i64 g.Pc 1}
@[simp] def zlv {g:Guest}(h:SmG g):SmG (zci g):=by unfold zci;cases ige g.Pc 12<;>exact h
@[simp] abbrev zck (g:Guest):Guest:=zci g
def ziS:Run:=rF1 (dT .guest) λb=>(zO b,[aT .guest<|zck b])
def zQM (N:Nat)(a:Guest):OA:=
 (oN (zes a)<|cond (ige (zdT a).Pc 12) (some [aT .guest ({ (zdT a) with Pc:=12}:Guest)])<|some [aT .guest ({ (zdT a) with Pc:=(zQ .i64 (zdT a).Pc 1)}:Guest)])
def zYk (a:Guest)(b:zO a=true):∃N,zQM N a=some [aT .guest<|zck a]:=by have c:=zM.1 b;refine⟨0,?_⟩;unfold zQM oN;refine mu (br (λ_=>?_) λ_=>?_);all_goals first|rfl|(simp only [*,zck,zci,cT,cF]<;>rfl)|simp_all[Ty.cells,zck,zci]
def zSi:vO 369 ziS:=kF1 zhs zn zA zq (zo []) zYk
def zQB (N:Nat)(a:Guest):OA:=
 (oN (zO a)<|cond (ige a.Pc 12) (some [aT .guest ({ (zdc a) with Pc:=12}:Guest)])<|some [aT .guest ({ (zdc a) with Pc:=(zQ .i64 a.Pc 1)}:Guest)])
def zYb (a:Guest)(b:zO a=true):∃N,zQB N a=some [aT .guest<|zck a]:=by have c:=zM.1 b;refine⟨0,?_⟩;unfold zQB oN;refine mu (br (λ_=>?_) λ_=>?_);all_goals first|rfl|(simp only [*,zck,zci,cT,cF]<;>rfl)|simp_all[Ty.cells,zck,zci]
def zR6:vO 216 ziS:=kF1 zhs zn zA zq (zo []) zYb
def z8B:zbf:=[(350,zn7),(137,zn7),(365,zn6),(212,zn6),(367,zpg),(247,zpg),(368,zxh),(217,zxh),(372,zpe),(135,zpe),(369,ziS),(216,ziS)]++z8A
def zfT:zU z8B:=zi zIP (zi zIu<|zi zIO<|zi zIt<|zi zLU<|zi zLz<|zi zX4<|zi zX0<|zi zLS<|zi zLx<|zi zSi<|zi zR6 zhs)
def interrupted (g:Guest):Guest:=bif zkD g then saw {g with Pending:=zhv g.Pending} (zQ .i64 100<|zm1 g.Pending) else g
@[simp] def zZU {g:Guest}(h:SmG g):SmG (interrupted g):=by unfold interrupted;cases zkD g;{exact h};{exact zP7 (g:={g with Pending:=zhv g.Pending}) _ h}
@[simp] abbrev zfw (g:Guest):Guest:=interrupted g
def zkM:Run:=rF1 (dT .guest) λb=>(zO b,[aT .guest<|zfw b])
def zwq (N:Nat)(a:Guest):OA:=
 let c:=zQ .i64 100<|zf9 a.Pending;let b:=({a with Pending:=(zf8 a.Pending)}:Guest); (oN (zbx a)<|cond (nB<|zlU a) (oN (zes a)<|some [aT .guest<|zdT a])<|oN (zcn a.Pending)<|oN (zu3 b c)<|some [aT .guest<|zqY b c])
def zFP (a:Guest)(b:zO a=true):∃N,zwq N a=some [aT .guest<|zfw a]:=by
 have c:=zM.1 b;have d:_/\_/\_/\_:=c;refine⟨0,?_⟩;unfold zwq oN nB;conv=>zeta
 refine must rfl (brN (λ_=>mu ?_) λ_=>must rfl (mu ?_));all_goals first|rfl|(simp only [*,zfw,interrupted,cT,cF]<;>rfl)|simp_all[Ty.cells,zfw,interrupted]
def zB7:vO 333 zkM:=kF1 zfT zn zA zq (zo []) zFP
def zwf (N:Nat)(a:Guest):OA:=
 let c:=zQ .i64 100<|zf9 a.Pending;let b:=({a with Pending:=(zf8 a.Pending)}:Guest); (oN (zbx a)<|cond (nB<|zlU a) (oN (zO a)<|some [aT .guest<|zdc a])<|oN (zcn a.Pending)<|oN (zu3 b c)<|some [aT .guest<|zqY b c])
def zFF (a:Guest)(b:zO a=true):∃N,zwf N a=some [aT .guest<|zfw a]:=by
 have c:=zM.1 b;have d:_/\_/\_/\_:=c;refine⟨0,?_⟩;unfold zwf oN nB;conv=>zeta
 refine must rfl (brN (λ_=>mu ?_) λ_=>must rfl (mu ?_));all_goals first|rfl|(simp only [*,zfw,interrupted,cT,cF]<;>rfl)|simp_all[Ty.cells,zfw,interrupted]
def zBX:vO 226 zkM:=kF1 zfT zn zA zq (zo []) zFF
def zy1 (o:Int):Int:=bif ieq o 3 then 3 else (cond (ieq o 4) 4<|cond (ieq o 5) 5<|cond (ieq o 6) 6<|cond (ieq o 7) 7 2)
def zL (g:Guest):Int:=bif canRun g then (cond (zkD g) 1<|zy1 (zcL g.Prog g.Pc).Op) else 0
@[simp] abbrev ziz (g:Guest):Int:=zL g
def zqN:Run:=rF1 (dT .guest) λb=>(zbx b,[aI<|ziz b])
def zKx (N:Nat)(a:Guest):OA:=
 let b:=(zeb a.Prog a.Pc).Op; (oN (zuE a)<|cond (nB<|zpB a) (some [aI 0])<|oN (zbx a)<|cond (zlU a) (some [aI 1])<|oN (zeg a.Prog a.Pc)<|cond (ieq b 3) (some [aI 3])<|cond (ieq b 4) (some [aI 4])<|cond (ieq b 5) (some [aI 5])<|cond (ieq b 6) (some [aI 6])<|cond (ieq b 7) (some [aI 7])<|some [aI 2])
def zDN (a:Guest)(b:zbX big [aT .guest a])(c:zbx a=true):∃N,zKx N a=some [aI<|ziz a]:=by
 refine⟨0,?_⟩;unfold zKx oN nB;conv=>zeta
 refine must rfl (brN (λ_=>?_) λ_=>must rfl (br (λ_=>?_) λ_=>must rfl (br (λ_=>?_) λ_=>br (λ_=>?_) λ_=>br (λ_=>?_) λ_=>br (λ_=>?_) λ_=>br (λ_=>?_) λ_=>?_)));all_goals first|rfl|(simp only [*,ziz,zL,zy1,cT,cF]<;>rfl)|simp_all[Ty.cells,ziz,zL,zy1]
def zcW:vO 332 zqN:=hF1 zfT zn zA zq (zo []) zDN
def zOs:vO 130 zqN:=hF1 zfT zn zA zq (zo []) zDN
def held (g:Guest):Guest:=zci {g with Halted:=true}
@[simp] def zWS {g:Guest}(h:SmG g):SmG (held g):=zlv (g:={g with Halted:=true}) h
@[simp] abbrev zjq (g:Guest):Guest:=held g
def zuD:Run:=rF1 (dT .guest) λb=>(zO b,[aT .guest<|zjq b])
def zT3 (N:Nat)(b:Guest):OA:=
 let a:=({b with Halted:=true}:Guest); (oN (zO a)<|some [aT .guest<|zck a])
def zMD (a:Guest)(d:zbX big [aT .guest a])(b:zO a=true):∃N,zT3 N a=some [aT .guest<|zjq a]:=by
 have c:=zM.1 b;have e:_/\_/\_/\_:=c;refine⟨0,?_⟩;unfold zT3 oN;conv=>zeta
 refine mu ?_;first|rfl|(simp only [*,zjq,held,cT,cF]<;>rfl)|simp_all[Ty.cells,zjq,held]
def zU1:vO 380 zuD:=hF1 zfT zn zA zq (zo []) zMD
def zUW:vO 221 zuD:=hF1 zfT zn zA zq (zo []) zMD
def zKu (N:Nat)(a:Guest):OA:=
 (oN (zO a)<|some [aT .guest<|zck a])
def zDM (a:Guest)(c:zbX big [aT .guest a])(b:zO a=true):∃N,zKu N a=some [aT .guest<|zck a]:=by have d:=zM.1 b;refine⟨0,?_⟩;unfold zKu oN;refine mu ?_;first|rfl|(simp only [*,zck,cT,cF]<;>rfl)|simp_all[Ty.cells,zck]
def zOO:vO 373 ziS:=hF1 zfT zn zA zq (zo []) zDM
def zOp:vO 139 ziS:=hF1 zfT zn zA zq (zo []) zDM
def loaded (g:Guest)(v:Int):Guest:=zci (saw {g with A:=v} v)
@[simp] def zNj {g:Guest}(v:Int)(h:SmG g):SmG (loaded g v):=zlv (zP7 (g:={g with A:=v}) v h)
@[simp] abbrev zoc (g:Guest)(v:Int):Bool:=pc (SmG g)
@[simp] abbrev zlP (g:Guest)(v:Int):Guest:=loaded g v
def zqD:Run:=rF2 (dT .guest) dI λb c=>(zoc b c,[aT .guest<|zlP b c])
def zKk (N:Nat)(c:Guest)(a:Int):OA:=
 let b:=({c with A:=a}:Guest); (oN (zu3 b a)<|oN (zO<|zqY b a)<|some [aT .guest<|zck<|zqY b a])
def zDI (b:Guest)(a:Int)(e:zbX big [aT .guest b,aI a])(d:zoc b a=true):∃N,zKk N b a=some [aT .guest<|zlP b a]:=by
 have c:=zM.1 d;have h:_/\_/\_/\_:=c;have f:SmG (saw {b with A:=a} a):=zP7 (g:={b with A:=a}) a c;refine⟨0,?_⟩;unfold zKk oN;conv=>zeta
 refine mu (mu ?_);first|rfl|(simp only [*,zlP,loaded,cT,cF]<;>rfl)|simp_all[Ty.cells,zlP,loaded]
def zOE:vO 374 zqD:=hF2 zfT zn zA zq (zo []) zDI
def zOb:vO 140 zqD:=hF2 zfT zn zA zq (zo []) zDI
def zsa (g:Guest)(w:Int):Guest:=bif ieq w 5 then stopped g (zy2 (zcL g.Prog g.Pc).X) else stopped g ⟨4,0,false,0⟩
@[simp] def zbch {g:Guest}(w:Int)(h:SmG g):SmG (zsa g w):=by unfold zsa;cases ieq w 5<;>exact h
@[simp] abbrev zoD (g:Guest)(w:Int):Bool:=pc (SmG g)
@[simp] abbrev zlq (g:Guest)(w:Int):Guest:=zsa g w
def zBB:Run:=rF2 (dT .guest) dI λb c=>(zoD b c,[aT .guest<|zlq b c])
def zGn (N:Nat)(a:Guest)(c:Int):OA:=
 let b:=(zeb a.Prog a.Pc).X; (cond (ieq c 5) (oN (zeg a.Prog a.Pc)<|oN (zfm b)<|oN (zcI a<|zgv b)<|some [aT .guest<|zcM a<|zgv b])<|oN (zcI a (⟨4,0,false,0⟩:GExit))<|some [aT .guest<|zcM a (⟨4,0,false,0⟩:GExit)])
def zSN (a:Guest)(b:Int)(c:zoD a b=true):∃N,zGn N a b=some [aT .guest<|zlq a b]:=by
 have d:=zM.1 c;refine⟨0,?_⟩;unfold zGn oN;conv=>zeta
 refine br (λ_=>must rfl (must rfl (mu ?_))) (λ_=>mu ?_);all_goals first|rfl|(simp only [*,zlq,zsa,cT,cF]<;>rfl)|simp_all[Ty.cells,zlq,zsa]
def zLD:vO 220 zBB:=kF2 zfT zn zA zq (zo []) zSN
def zeu (g:Guest):Bool:=zd5 g.Prog&&(zl g.A 0 99&&(zl g.Pc 0 12&&(zdN g.Written 4 8&&(zdN g.Live 4 8&&(znG g.Ctl&&(zef g.Pending&&(zj1 g.Exit&&ile (ln g.Seen) 40)))))))
@[simp] abbrev ziT (g:Guest):Bool:=zeu g
def zo5:Run:=rF1 (dT .guest) λb=>(zbx b,[aB<|ziT b])
def zGt (N:Nat)(a:Guest):OA:=
 (oN (zuH a.Prog)<|cond (ziy a.Prog) (oN (zN a.A 0 99)<|cond (zl a.A 0 99) (oN (zN a.Pc 0 12)<|cond (zl a.Pc 0 12) (oN (zku a.Written 4 8)<|cond (zfo a.Written 4 8) (oN (zku a.Live 4 8)<|cond (zfo a.Live 4 8) (oN (zfu a.Ctl)<|cond (zoa a.Ctl) (oN (zcn a.Pending)<|cond (zeS a.Pending) (oN (zuF a.Exit)<|cond (znf a.Exit) (some [aB<|ile (ln a.Seen) 40]) oF) oF) oF) oF) oF) oF) oF) oF)
def zBk (a:Guest)(b:zbX big [aT .guest a])(c:zbx a=true):∃N,zGt N a=some [aB<|ziT a]:=by refine⟨0,?_⟩;unfold zGt oN;refine must rfl (br (λ_=>must rfl (br (λ_=>must rfl (br (λ_=>must rfl (br (λ_=>must rfl (br (λ_=>must rfl (br (λ_=>must rfl (br (λ_=>must rfl (br (λ_=>?_) λ_=>?_)) λ_=>?_)) λ_=>?_)) λ_=>?_)) λ_=>?_)) λ_=>?_)) λ_=>?_)) λ_=>?_);all_goals first|rfl|(simp only [*,ziT,zeu,cT,cF]<;>rfl)|simp_all[Ty.cells,ziT,zeu]
def zLF:vO 192 zo5:=hF1 zfT zn zA zq (zo []) zBk
def zLl:vO 189 zo5:=hF1 zfT zn zA zq (zo []) zBk
@[simp] abbrev zdg (l:List Guest):Bool:=pc (zmK l)
@[simp] abbrev zdX (l:List Guest):List Guest:=l
def zvW:Run:=rF1 (dS .guest) λb=>(zdg b,[aS .guest<|zdX b])
def zyn (N:Nat)(c:lG):OA:=
 (iter (σ:=(Int×Int×lG×lG×Unit)) N (λd a=>let b:=ix a.2.2.2.1 a.2.1 zx; (cond (ilt a.2.1 a.1) (oN (inb a.2.1<|ln a.2.2.2.1)<|oN (zO b)<|oN (few<|ln<|ap a.2.2.1 [zdc b])<|d (a.1,zQ .i64 a.2.1 1,ap a.2.2.1 [zdc b],a.2.2.2.1,()))<|some [aS .guest a.2.2.1])) (ln c,0,[],c,()))
def zJK:=zo [(207,0,{n:=20,tm:=[(3,.sl 0 []),(7,.sl 1 []),(8,ti),(9,ti)],lo:=[],ro:=[(0,.guest,true),(1,.guest,false)]})]
def zI9 (a:List Guest)(g:zdg a=true):∃N,zyn N a=some [aS .guest<|zdX a]:=by
 have f:=zM.1 g;have e:=zda f.1;refine zcy λN d=>?_;unfold zyn oN;conv=>zeta
 refine(zbq a (λi (t:lG)=>(ln a,(i:Int),t,a,())) _ (λ_ x b j=>bif zO x then (cond (few<|ln<|ap b [zdc x]) (j<|ap b [zdc x]) none) else none) (λ(t:lG)=>some [.one<|.s .guest t]) (λi c t rec=>?_) (λt rec=>?_) _ ([])<|d e.1).trans ?_;{simp only [zbL c,zbn c,zbv c,zbi c e.1,cT]};{simp only [zbD,cF]};exact zly zO zdc _ a 0 [] (λx h=>⟨by exact zbh (f.2 x h),rfl⟩) (by simpa using e.2)
def zDq:vO 207 zvW:=kF1 zfT zn zA zq zJK zI9
def gAt (b:Bare)(i:Int):Guest:=bif hasB i (ln b.Guests) then ix b.Guests i zx else Ty.dflt .guest
@[simp] def zgx {b:Bare}(i:Int)(h:SmB b):SmG (gAt b i):=by unfold gAt;cases a:hasB i (ln b.Guests);{exact zbcO};{exact zWT h.2.1 a _}
@[simp] abbrev zem (b:Bare)(i:Int):Bool:=pc (SmB b)
@[simp] abbrev zek (b:Bare)(i:Int):Guest:=gAt b i
@[simp] abbrev zel (b:Bare)(i:Int):Bool:=hasB i (ln b.Guests)
def zBy:Run:=rF2 (dT .bare) dI λb c=>(zem b c,[aT .guest<|zek b c,aB<|zel b c])
def zF6 (N:Nat)(a:Bare)(b:Int):OA:=
 let c:=ix a.Guests b zx; (oN (zbg b<|ln a.Guests)<|cond (nB<|zcb b<|ln a.Guests) (some [aT .guest (⟨[],0,0,[],[],⟨0,0,false⟩,0,⟨0,0,false,0⟩,false,[]⟩:Guest),aB false])<|oN (inb b<|ln a.Guests)<|oN (zO c)<|some [aT .guest<|zdc c,aB true])
def zSw (a:Bare)(b:Int)(d:zem a b=true):∃N,zF6 N a b=some [aT .guest<|zek a b,aB<|zel a b]:=by
 have c:=zM.1 d;have e:a.Guests.length<=1048576:=c.2.1.1;have f:hasB b (ln a.Guests)=true->SmG (ix a.Guests b zx):=λh=>zWT c.2.1 h _;refine⟨0,?_⟩;unfold zF6 oN nB;conv=>zeta
 refine must rfl (brN (λ_=>?_) λ_=>mu (mu ?_));all_goals first|rfl|(simp only [*,zek,zel,gAt,Ty.dflt,cT,cF]<;>rfl)|simp_all[Ty.cells,zek,zel,gAt,Ty.dflt]
def zLk:vO 222 zBy:=kF2 zfT zn zA zq (zo []) zSw
def z8C:zbf:=[(333,zkM),(226,zkM),(332,zqN),(130,zqN),(380,zuD),(221,zuD),(373,ziS),(139,ziS),(374,zqD),(140,zqD),(220,zBB),(192,zo5),(189,zo5),(207,zvW),(222,zBy)]++z8B
def zkk:zU z8C:=zi zB7 (zi zBX<|zi zcW<|zi zOs<|zi zU1<|zi zUW<|zi zOO<|zi zOp<|zi zOE<|zi zOb<|zi zLD<|zi zLF<|zi zLl<|zi zDq<|zi zLk zfT)
def plainly (g:Guest):Guest:=bif ine (zL g) 2 then g else (cond (zl g.A 0 99) (cond (zl (zcL g.Prog g.Pc).X 0 99) (cond (ieq (zcL g.Prog g.Pc).Op 1) {zci g with A:=(zcL g.Prog g.Pc).X}<|cond (ieq (zcL g.Prog g.Pc).Op 2) {zci g with A:=zru (zQ .i64 g.A (zcL g.Prog g.Pc).X) 100}<|cond (ieq (zcL g.Prog g.Pc).Op 8) (cond (ieq g.A 0) {zci g with Pc:=(zcL g.Prog g.Pc).X}<|zci g)<|zci g)<|zci g)<|zci g)
@[simp] def zbcG (g:Guest):(zci g).Prog=g.Prog:=by unfold zci;cases ige g.Pc 12<;>rfl
@[simp] def zbdh (g:Guest):(zci g).A=g.A:=by unfold zci;cases ige g.Pc 12<;>rfl
@[simp] def zba8 (g:Guest):(zci g).Written=g.Written:=by unfold zci;cases ige g.Pc 12<;>rfl
@[simp] def zbcF (g:Guest):(zci g).Live=g.Live:=by unfold zci;cases ige g.Pc 12<;>rfl
@[simp] def zbcU (g:Guest):(zci g).Ctl=g.Ctl:=by unfold zci;cases ige g.Pc 12<;>rfl
@[simp] def zba7 (g:Guest):(zci g).Pending=g.Pending:=by unfold zci;cases ige g.Pc 12<;>rfl
@[simp] def zbcE (g:Guest):(zci g).Exit=g.Exit:=by unfold zci;cases ige g.Pc 12<;>rfl
@[simp] def zbbY (g:Guest):(zci g).Halted=g.Halted:=by unfold zci;cases ige g.Pc 12<;>rfl
@[simp] def zbcH (g:Guest):(zci g).Seen=g.Seen:=by unfold zci;cases ige g.Pc 12<;>rfl
@[simp] def zbcV (g:Guest)(x:Int):(zci {g with A:=x}).Pc=(zci g).Pc:=by unfold zci;cases ige g.Pc 12<;>rfl
@[simp] def zHw {g:Guest}(h:SmG g):SmG (plainly g):=by have a:=zlv h;unfold plainly;cases ine (zL g) 2;{cases zl g.A 0 99;{exact a};{cases zl (zcL g.Prog g.Pc).X 0 99;{exact a};{cases ieq (zcL g.Prog g.Pc).Op 1;{cases ieq (zcL g.Prog g.Pc).Op 2;{cases ieq (zcL g.Prog g.Pc).Op 8;{exact a};{cases ieq g.A 0<;>exact a}};{exact a}};{exact a}}}};{exact h}
@[simp] abbrev ziP (g:Guest):Guest:=plainly g
def zo3:Run:=rF1 (dT .guest) λb=>(zO b,[aT .guest<|ziP b])
def zGf (N:Nat)(a:Guest):OA:=
 let c:=aT .guest<|zck a;let b:=zeb a.Prog a.Pc; (oN (zbx a)<|cond (ine (ziz a) 2) (oN (zO a)<|some [aT .guest<|zdc a])<|oN (zeg a.Prog a.Pc)<|oN (zO a)<|oN (zN a.A 0 99)<|cond (nB<|zl a.A 0 99) (some [c])<|oN (zN b.X 0 99)<|cond (nB<|zl b.X 0 99) (some [c])<|cond (ieq b.Op 1) (some [aT .guest ({ (zck a) with A:=b.X}:Guest)])<|cond (ieq b.Op 2) (oN (ine 100 0)<|some [aT .guest ({ (zck a) with A:=(zru (zQ .i64 a.A b.X) 100)}:Guest)])<|cond (ieq b.Op 8) (cond (ieq a.A 0) (some [aT .guest ({ (zck a) with Pc:=b.X}:Guest)])<|some [c])<|some [c])
def zSF (a:Guest)(b:zO a=true):∃N,zGf N a=some [aT .guest<|ziP a]:=by
 have c:=zM.1 b;refine⟨0,?_⟩;unfold zGf oN nB;conv=>zeta
 refine must rfl (br (λ_=>mu ?_) λ_=>must rfl (mu (must rfl (brN (λ_=>?_) λ_=>must rfl (brN (λ_=>?_) λ_=>br (λ_=>?_) λ_=>br (λ_=>must rfl ?_) λ_=>br (λ_=>br (λ_=>?_) λ_=>?_) λ_=>?_)))));all_goals first|rfl|(simp only [*,ziP,plainly,cT,cF]<;>rfl)|simp_all[Ty.cells,ziP,plainly]
def zLv:vO 227 zo3:=kF1 zkk zn zA zq (zo []) zSF
def zGF (N:Nat)(a:Guest):OA:=
 let i:=ieq a.A 0;let c:=zO a;let b:=aT .guest<|zck a;let d:=zeb a.Prog a.Pc;let j:=({a with A:=d.X}:Guest);let h:=ieq d.Op 8;let e:=zl d.X 0 99;let g:=aT .guest ({ (zdT a) with Pc:=d.X}:Guest);let f:=({a with A:=(zru (zQ .i64 a.A d.X) 100)}:Guest); (oN (zbx a)<|cond (ine (ziz a) 2) (oN (zes a)<|some [aT .guest<|zdT a])<|oN (zeg a.Prog a.Pc)<|oN (zN a.A 0 99)<|cond (zl a.A 0 99) (oN (zN d.X 0 99)<|cond e (cond (ieq d.Op 1) (oN (zO j)<|some [aT .guest<|zck j])<|cond e (cond (ieq d.Op 2) (oN (ine 100 0)<|oN (zO f)<|some [aT .guest<|zck f])<|cond e (cond h (cond i (oN (zes a)<|some [g])<|oN c<|some [b])<|oN c<|some [b])<|oN c<|some [b])<|cond e (cond h (cond i (oN (zes a)<|some [g])<|oN c<|some [b])<|oN c<|some [b])<|oN c<|some [b])<|cond e (cond (ieq d.Op 2) (oN (ine 100 0)<|oN (zO f)<|some [aT .guest<|zck f])<|cond e (cond h (cond i (oN (zes a)<|some [g])<|oN c<|some [b])<|oN c<|some [b])<|oN c<|some [b])<|cond e (cond h (cond i (oN (zes a)<|some [g])<|oN c<|some [b])<|oN c<|some [b])<|oN c<|some [b])<|oN c<|some [b])
def zS2 (a:Guest)(b:zO a=true):∃N,zGF N a=some [aT .guest<|ziP a]:=by
 have c:=zM.1 b;have d:_/\_/\_/\_:=c;refine⟨0,?_⟩;unfold zGF oN;conv=>zeta
 refine must rfl (br (λ_=>mu ?_) λ_=>must rfl (must rfl (br (λ_=>must rfl (br (λ_=>br (λ_=>mu ?_) λ_=>br (λ_=>br (λ_=>must rfl (mu ?_)) λ_=>br (λ_=>br (λ_=>br (λ_=>mu ?_) λ_=>mu ?_) λ_=>mu ?_) λ_=>mu ?_) λ_=>br (λ_=>br (λ_=>br (λ_=>mu ?_) λ_=>mu ?_) λ_=>mu ?_) λ_=>mu ?_) λ_=>br (λ_=>br (λ_=>must rfl (mu ?_)) λ_=>br (λ_=>br (λ_=>br (λ_=>mu ?_) λ_=>mu ?_) λ_=>mu ?_) λ_=>mu ?_) λ_=>br (λ_=>br (λ_=>br (λ_=>mu ?_) λ_=>mu ?_) λ_=>mu ?_) λ_=>mu ?_)) λ_=>mu ?_)));all_goals first|rfl|(simp only [*,ziP,plainly,cT,cF]<;>rfl)|simp_all[Ty.cells,ziP,plainly]
def zLQ:vO 334 zo3:=kF1 zkk zn zA zq (zo []) zS2
def address (g:Guest):Int:=bif ine (zL g) 3 then (cond (ine (zL g) 4) (-1)<|(zcL g.Prog g.Pc).X) else (zcL g.Prog g.Pc).X
@[simp] abbrev zia (g:Guest):Int:=address g
def zo4:Run:=rF1 (dT .guest) λb=>(zbx b,[aI<|zia b])
def zGo (N:Nat)(a:Guest):OA:=
 (oN (zbx a)<|cond (ine (ziz a) 3) (cond (ine (ziz a) 4) (some [aI<|-1])<|oN (zeg a.Prog a.Pc)<|some [aI (zeb a.Prog a.Pc).X])<|oN (zeg a.Prog a.Pc)<|some [aI (zeb a.Prog a.Pc).X])
def zBj (a:Guest)(b:zbX big [aT .guest a])(c:zbx a=true):∃N,zGo N a=some [aI<|zia a]:=by refine⟨0,?_⟩;unfold zGo oN;refine must rfl (br (λ_=>br (λ_=>?_) λ_=>must rfl ?_) λ_=>must rfl ?_);all_goals first|rfl|(simp only [*,zia,address,cT,cF]<;>rfl)|simp_all[Ty.cells,zia,address]
def zLE:vO 370 zo4:=hF1 zkk zn zA zq (zo []) zBj
def zLj:vO 131 zo4:=hF1 zkk zn zA zq (zo []) zBj
def zgD (g:Guest)(t w:Int):Guest:=bif ieq w 6 then stopped g (zvi (zcL g.Prog g.Pc).X) else (cond (ieq w 5&&zev t 1) (stopped g<|zy2 (zcL g.Prog g.Pc).X)<|cond (ieq w 7&&zev t 2) (stopped g ⟨4,0,false,0⟩)<|cond (ieq w 7) (held g)<|zci g)
def zhY (t w:Int):Bool:=bif ieq w 6 then false else (cond (ieq w 5&&zev t 1) false<|cond (ieq w 7&&zev t 2) false true)
@[simp] def zEl {g:Guest}(t w:Int)(h:SmG g):SmG (zgD g t w):=by unfold zgD;cases ieq w 6;{cases (ieq w 5&&zev t 1);{cases (ieq w 7&&zev t 2);{cases ieq w 7;{exact zlv h};{exact zWS h}};{exact h}};{exact h}};{exact h}
@[simp] abbrev ze6 (g:Guest)(t w:Int):Bool:=pc (SmG g)
@[simp] abbrev zcU (g:Guest)(t w:Int):Guest:=zgD g t w
@[simp] abbrev zet (g:Guest)(t w:Int):Bool:=zhY t w
def zBI:Run:=rF3 (dT .guest) dI dI λb c d=>(ze6 b c d,[aT .guest<|zcU b c d,aB<|zet b c d])
def zGO (N:Nat)(a:Guest)(c b:Int):OA:=
 let g:=aT .guest<|zck a;let f:=aT .guest<|zjq a;let e:=(⟨4,0,false,0⟩:GExit);let d:=(zeb a.Prog a.Pc).X; (oN (zeg a.Prog a.Pc)<|cond (ieq b 6) (oN (zfm d)<|oN (zcI a<|zff d)<|some [aT .guest<|zcM a<|zff d,aB false])<|cond (ieq b 5) (oN (zgJ c 1)<|cond (zfY c 1) (oN (zfm d)<|oN (zcI a<|zgv d)<|some [aT .guest<|zcM a<|zgv d,aB false])<|cond (ieq b 7) (oN (zgJ c 2)<|cond (zfY c 2) (oN (zcI a e)<|some [aT .guest<|zcM a e,aB false])<|cond (ieq b 7) (oN (zO a)<|some [f,aB true])<|oN (zO a)<|some [g,aB true])<|cond (ieq b 7) (oN (zO a)<|some [f,aB true])<|oN (zO a)<|some [g,aB true])<|cond (ieq b 7) (oN (zgJ c 2)<|cond (zfY c 2) (oN (zcI a e)<|some [aT .guest<|zcM a e,aB false])<|cond (ieq b 7) (oN (zO a)<|some [f,aB true])<|oN (zO a)<|some [g,aB true])<|cond (ieq b 7) (oN (zO a)<|some [f,aB true])<|oN (zO a)<|some [g,aB true])
def zTb (a:Guest)(b c:Int)(d:ze6 a b c=true):∃N,zGO N a b c=some [aT .guest<|zcU a b c,aB<|zet a b c]:=by
 have e:=zM.1 d;refine⟨0,?_⟩;unfold zGO oN;conv=>zeta
 refine must rfl (br (λ_=>must rfl (mu ?_)) λ_=>br (λ_=>must rfl (br (λ_=>must rfl (mu ?_)) λ_=>br (λ_=>must rfl (br (λ_=>mu ?_) λ_=>br (λ_=>mu ?_) λ_=>mu ?_)) λ_=>br (λ_=>mu ?_) λ_=>mu ?_)) λ_=>br (λ_=>must rfl (br (λ_=>mu ?_) λ_=>br (λ_=>mu ?_) λ_=>mu ?_)) λ_=>br (λ_=>mu ?_) λ_=>mu ?_);all_goals first|rfl|(simp only [*,zcU,zet,zgD,zhY,cT,cF]<;>rfl)|simp_all[Ty.cells,zcU,zet,zgD,zhY]
def zL6:vO 376 zBI:=kF3 zkk zn zA zq (zo []) zTb
def zbZ (b:Bare):Bool:=bif b.Guests.all zeu then (zj5 b.Memory 8&&(zl (ln b.Guests) 1 2&&(ile (ln b.Outs) 40&&zef b.Pending))) else false
@[simp] abbrev zdC (b:Bare):Bool:=true
@[simp] abbrev zb9 (b:Bare):Bool:=zbZ b
def zqx:Run:=rF1 (dT .bare) λb=>(zdC b,[aB<|zb9 b])
def zKc (N:Nat)(c:Bare):OA:=
 (iter (σ:=(Int×Int×lM×lG×LI×Unit)) N (λd a=>let b:=a.2.2.2.1; (cond (ilt a.1<|ln b) (oN (inb a.1<|ln b)<|oN (zbx<|ix b a.1 zx)<|cond (nB<|ziT<|ix b a.1 zx) oF<|d (zQ .i64 a.1 1,a.2.1,a.2.2.1,b,a.2.2.2.2.1,()))<|oN (zka a.2.2.1 8)<|cond (zgu a.2.2.1 8) (oN (zN (ln b) 1 2)<|cond (zl (ln b) 1 2) (cond (ile (ln a.2.2.2.2.1) 40) (oN (zcn a.2.1)<|some [aB<|zeS a.2.1]) oF) oF) oF)) (0,c.Pending,c.Memory,c.Guests,c.Outs,()))
def zXh:=zo [(383,0,{n:=38,tm:=[(1,.lp 0 0),(3,ti)],lo:=[(0,[.sl 0 [],.sl 1 [],.sl 2 [],ti])],ro:=[(0,.sl .int,false),(1,.guest,false),(2,.int,false)]})]
def zVx (a:Bare)(k:zbX big [aT .bare a])(m:zdC a=true):∃N,zKc N a=some [aB<|zb9 a]:=by
 have j:(_:List _).length<=big:=((zdp k).1 (.s .guest a.Guests) (by simp[AV.cvs,Ty.cells])).len;refine zcy λN h=>?_;unfold zKc oN nB;conv=>zeta
 refine(zbq a.Guests (λi (t:Unit)=>((i:Int),a.Pending,a.Memory,a.Guests,a.Outs,())) _ (λ_ x (_:Unit) l=>bif (zeu) x then l () else oF) (λ(t:Unit)=>cond (zka a.Memory 8) (cond (zgu a.Memory 8) (cond (zN (ln a.Guests) 1 2) (cond (zl (ln a.Guests) 1 2) (cond (ile (ln a.Outs) 40) (cond (zcn a.Pending) (some [.one<|.b<|zeS a.Pending]) none) oF) oF) none) oF) none) (λi f t rec=>?_) (λt rec=>?_) _ ()<|h j).trans ?_;{simp only [zbL f,zbn f,zbv f,zbi f j,cT];exact zki rfl};{simp only [zbD,cF]};rw[zhu<|zeu];refine br (λc=>?_) (λc=>?_);{refine must rfl ?_;refine br (λd=>?_) (λd=>?_);{refine must rfl ?_;refine br (λe=>?_) (λe=>?_);{refine br (λg=>?_) (λg=>?_);{refine must rfl ?_;first|rfl|(simp only [c,d,e,g,zb9,zbZ,cT,cF]<;>rfl)|(simp_all [Ty.cells,zb9,zbZ];done)};{first|rfl|(simp only [c,d,e,g,zb9,zbZ,cT,cF]<;>rfl)|(simp_all [Ty.cells,zb9,zbZ];done)}};{first|rfl|(simp only [c,d,e,zb9,zbZ,cT,cF]<;>rfl)|(simp_all [Ty.cells,zb9,zbZ];done)}};{first|rfl|(simp only [c,d,zb9,zbZ,cT,cF]<;>rfl)|(simp_all [Ty.cells,zb9,zbZ];done)}};{first|rfl|(simp only [c,zb9,zbZ,cT,cF]<;>rfl)|(simp_all [Ty.cells,zb9,zbZ];done)}
def zOw:vO 383 zqx:=hF1 zkk zn zA zq zXh zVx
def zJQ (N:Nat)(b:Bare):OA:=
 (iter (σ:=(Int×Int×Int×lG×lM×LI×Unit)) N (λe a=>let c:=a.2.2.2.1;let d:=ix c a.2.1 zx; (cond (ilt a.2.1 a.1) (oN (inb a.2.1<|ln c)<|oN (zbx d)<|cond (nB<|ziT d) oF<|e (a.1,zQ .i64 a.2.1 1,a.2.2.1,c,a.2.2.2.2.1,a.2.2.2.2.2.1,()))<|oN (zka a.2.2.2.2.1 8)<|cond (zgu a.2.2.2.2.1 8) (oN (zN (ln c) 1 2)<|cond (zl (ln c) 1 2) (cond (ile (ln a.2.2.2.2.2.1) 40) (oN (zcn a.2.2.1)<|some [aB<|zeS a.2.2.1]) oF) oF) oF)) (ln b.Guests,0,b.Pending,b.Guests,b.Memory,b.Outs,()))
def zW9:=zo [(223,0,{n:=36,tm:=[(1,.lp 0 0),(6,.sl 0 []),(7,ti),(8,ti)],lo:=[(0,[.sl 1 [],.sl 0 [],.sl 2 [],ti])],ro:=[(0,.guest,false),(1,.sl .int,false),(2,.int,false)]})]
def zVa (a:Bare)(k:zbX big [aT .bare a])(m:zdC a=true):∃N,zJQ N a=some [aB<|zb9 a]:=by
 have j:(_:List _).length<=big:=((zdp k).1 (.s .guest a.Guests) (by simp[AV.cvs,Ty.cells])).len;refine zcy λN h=>?_;unfold zJQ oN nB;conv=>zeta
 refine(zbq a.Guests (λi (t:Unit)=>(ln a.Guests,(i:Int),a.Pending,a.Guests,a.Memory,a.Outs,())) _ (λ_ x (_:Unit) l=>bif (zeu) x then l () else oF) (λ(t:Unit)=>cond (zka a.Memory 8) (cond (zgu a.Memory 8) (cond (zN (ln a.Guests) 1 2) (cond (zl (ln a.Guests) 1 2) (cond (ile (ln a.Outs) 40) (cond (zcn a.Pending) (some [.one<|.b<|zeS a.Pending]) none) oF) oF) none) oF) none) (λi f t rec=>?_) (λt rec=>?_) _ ()<|h j).trans ?_;{simp only [zbL f,zbn f,zbv f,zbi f j,cT];exact zki rfl};{simp only [zbD,cF]};rw[zhu<|zeu];refine br (λc=>?_) (λc=>?_);{refine must rfl ?_;refine br (λd=>?_) (λd=>?_);{refine must rfl ?_;refine br (λe=>?_) (λe=>?_);{refine br (λg=>?_) (λg=>?_);{refine must rfl ?_;first|rfl|(simp only [c,d,e,g,zb9,zbZ,cT,cF]<;>rfl)|(simp_all [Ty.cells,zb9,zbZ];done)};{first|rfl|(simp only [c,d,e,g,zb9,zbZ,cT,cF]<;>rfl)|(simp_all [Ty.cells,zb9,zbZ];done)}};{first|rfl|(simp only [c,d,e,zb9,zbZ,cT,cF]<;>rfl)|(simp_all [Ty.cells,zb9,zbZ];done)}};{first|rfl|(simp only [c,d,zb9,zbZ,cT,cF]<;>rfl)|(simp_all [Ty.cells,zb9,zbZ];done)}};{first|rfl|(simp only [c,zb9,zbZ,cT,cF]<;>rfl)|(simp_all [Ty.cells,zb9,zbZ];done)}
def zN2:vO 223 zqx:=hF1 zkk zn zA zq zW9 zVa
@[simp] abbrev zbp (b:Bare):Bool:=pc (SmB b)
@[simp] abbrev zY (b:Bare):Bare:=b
def znW:Run:=rF1 (dT .bare) λb=>(zbp b,[aT .bare<|zY b])
def zCu (N:Nat)(a:Bare):OA:=
 (oN (zhG a.Memory)<|oN (zdg a.Guests)<|oN (zeI a.Outs)<|some [aT .bare (⟨zeC a.Memory,zdX a.Guests,zeF a.Outs,a.Pending⟩:Bare)])
def zPt (a:Bare)(b:zbp a=true):∃N,zCu N a=some [aT .bare<|zY a]:=by have c:=zM.1 b;have d:_/\_/\_:=c;refine⟨0,?_⟩;unfold zCu oN;refine mu (mu<|mu ?_);first|rfl|(simp only [*,zY,cT,cF]<;>rfl)|simp_all[Ty.cells,zY]
def zIx:vO 224 znW:=kF1 zkk zn zA zq (zo []) zPt
def zGN (N:Nat)(a:Bare):OA:=
 (oN (zhT a.Memory)<|oN (zhj a.Guests)<|oN (few<|ln<|ap [] a.Outs)<|some [aT .bare (⟨zfZ a.Memory,zhW a.Guests,ap [] a.Outs,a.Pending⟩:Bare)])
def zTa (a:Bare)(b:zbp a=true):∃N,zGN N a=some [aT .bare<|zY a]:=by have c:=zM.1 b;have d:_/\_/\_:=c;refine⟨0,?_⟩;unfold zGN oN;refine mu (mu<|mu ?_);first|rfl|(simp only [*,zY,cT,cF]<;>rfl)|simp_all[Ty.cells,zY]
def zL5:vO 377 znW:=kF1 zkk zn zA zq (zo []) zTa
def z8D:zbf:=[(334,zo3),(227,zo3),(370,zo4),(131,zo4),(376,zBI),(383,zqx),(223,zqx),(224,znW),(377,znW)]++z8C
def zH0:zU z8D:=zi zLQ (zi zLv<|zi zLE<|zi zLj<|zi zL6<|zi zOw<|zi zN2<|zi zIx<|zi zL5 zkk)
def zeK (b:Bare)(i:Int)(x:Guest):Bare:={b with Guests:=up b.Guests i x}
def zeP (b:Bare)(i:Int)(x:Guest):Bare:=bif hasB i (ln b.Guests) then zeK b i x else b
def zk3 (b:Bare)(n:Int):Bare:=bif ilt (ln b.Outs) 40 then {b with Outs:=ap b.Outs [n]} else b
@[simp] def zpD {b:Bare}{i:Int}{x:Guest}(h:SmB b)(a:SmG x):SmB (zeK b i x):=⟨h.1,zE4 h.2.1 a,h.2.2⟩
@[simp] def zNi {b:Bare}{n:Int}(h:SmB b):SmB (zk3 b n):=by unfold zk3;cases a:ilt (ln b.Outs) 40;{exact h};{have:=qD a;refine⟨h.1,h.2.1,?_⟩;simp[ln] at *;omega}
@[simp] def zbda (b:Bare)(n:Int):(zk3 b n).Guests=b.Guests:=by unfold zk3;cases ilt (ln b.Outs) 40<;>rfl
@[simp] def zwd {m:List LI}{p c v:Int}(h:SmM m):SmM (zbT m p c v):=by unfold zbT;cases a:zhk m p c;{exact h};{cases b:zl v 0 99;{exact h};{exact zNl h (by simpa using zbcb h ((zAq m p c).1 a).1 [])}}
@[simp] abbrev zbI (b:Bare)(i:Int)(x:Guest):Bool:=pc (SmB b/\SmG x)
@[simp] abbrev zcO (b:Bare)(i:Int)(x:Guest):Bare:=zeP b i x
def zxd:Run:=rF3 (dT .bare) dI (dT .guest) λb c d=>(zbI b c d,[aT .bare<|zcO b c d])
def zA3 (N:Nat)(a:Bare)(b:Int)(c:Guest):OA:=
 (oN (zbp a)<|oN (zbg b<|ln a.Guests)<|cond (zcb b<|ln a.Guests) (oN (zO c)<|oN (inb b<|ln (zY a).Guests)<|share (up (zY a).Guests b<|zdc c) λd=>some [aT .bare ({ (zY a) with Guests:=d}:Bare)])<|some [aT .bare<|zY a])
def zMu (a:Bare)(b:Int)(c:Guest)(d:zbI a b c=true):∃N,zA3 N a b c=some [aT .bare<|zcO a b c]:=by have e:=zM.1 d;refine⟨0,?_⟩;unfold zA3 oN;refine mu (must rfl (br (λ_=>mu (mu<|shr ?_)) λ_=>?_));all_goals first|rfl|(simp only [*,zcO,zeP,zeK,cT,cF]<;>rfl)|simp_all[Ty.cells,zcO,zeP,zeK]
def zFi:vO 225 zxd:=kF3 zH0 zn zA zq (zo []) zMu
@[simp] abbrev zeE (b:Bare)(n:Int):Bool:=pc (SmB b)
@[simp] abbrev zrP (b:Bare)(n:Int):Bare:=zk3 b n
def zD4:Run:=rF2 (dT .bare) dI λb c=>(zeE b c,[aT .bare<|zrP b c])
def zJ4 (N:Nat)(a:Bare)(b:Int):OA:=
 (oN (zbp a)<|cond (ilt (ln a.Outs) 40) (oN (few<|ln<|ap (zY a).Outs [b])<|some [aT .bare ({ (zY a) with Outs:=(ap (zY a).Outs [b])}:Bare)])<|some [aT .bare<|zY a])
def zVp (a:Bare)(b:Int)(c:zeE a b=true):∃N,zJ4 N a b=some [aT .bare<|zrP a b]:=by have d:=zM.1 c;have e:a.Outs.length<=1048576:=d.2.2;refine⟨0,?_⟩;unfold zJ4 oN;refine mu (br (λ_=>mu ?_) λ_=>?_);all_goals first|rfl|(simp only [*,zrP,zk3,cT,cF]<;>rfl)|simp_all[Ty.cells,zrP,zk3]
def zOl:vO 231 zD4:=kF2 zH0 zn zA zq (zo []) zVp
def z0y:zbf:=[(225,zxd),(231,zD4)]++z8D
def zrJ:zU z0y:=zi zFi (zi zOl zH0)
def zmw (b:Bare)(g:Int)(x:Guest)(w:Bool):Bare :=
 bif zfs x.Live (zbj<|address x) (zcq w) then
  (bif w then zeK {b with Memory:=zbT b.Memory (zcH x.Live (zbj<|address x)<|zcq w) (zd7<|address x) x.A} g (zci x)
  else zeK b g (loaded x<|cellAt b.Memory (zcH x.Live (zbj<|address x)<|zcq w)<|zd7<|address x))
 else zeK b g (stopped x<|zta (zbj<|address x) w)
def zr8 (b:Bare)(g:Int)(x:Guest)(w:Int):Bare :=
 zeK (cond (cond (zhY x.Ctl.Traps w) (ieq w 5) false) (zk3 b (zcL x.Prog x.Pc).X) b) g (zgD x x.Ctl.Traps w)
def stepped (b:Bare)(g:Int)(x:Guest)(w:Int):Bare :=
 bif ieq w 1 then zeK b g (interrupted x) else (cond (ieq w 2) (zeK b g<|plainly x)<|cond (ieq w 3) (zmw b g x false)<|cond (ieq w 4) (zmw b g x true)<|zr8 b g x w)
def tr1 (x:Guest)(t w:Int):ieq w 6=true->zgD x t w=stopped x (zvi (zcL x.Prog x.Pc).X)/\zhY t w=false:=by intro h;simp[zgD,zhY,h]
def tr2 (x:Guest)(t w:Int):ieq w 6=false->(ieq w 5=false->ieq w 6=false->ieq w 7=true)->zev t (zgc w)=true->zgD x t w=zsa x w/\zhY t w=false:=by intro b c h;unfold zgD zhY zsa zgc at *;cases a:ieq w 5<;>simp_all
def tr3 (x:Guest)(t w:Int):ieq w 6=false->ieq w 7=false->zev t (zgc w)=false->ieq w 5=true->zgD x t w=zci x/\zhY t w=true:=by intro b c h a;unfold zgD zhY zgc at *;simp_all
def tr4 (x:Guest)(t w:Int):ieq w 6=false->(ieq w 5=false->ieq w 6=false->ieq w 7=true)->zev t (zgc w)=false->ieq w 5=false->zgD x t w=held x:=by intro b c h a;unfold zgD zgc at *;simp_all
def zij (b:Bare)(g:Int):Bool:=bif hasB g (ln b.Guests) then (cond (zbZ b) (!ieq (zL<|gAt b g) 0) false) else false
def zfQ (b:Bare)(g:Int):Bare:=bif zij b g then stepped b g (gAt b g) (zL<|gAt b g) else b
@[simp] def zZT {b:Bare}{g:Int}{x:Guest}{w:Bool}(h:SmB b)(a:SmG x):SmB (zmw b g x w):=by unfold zmw;cases zfs x.Live (zbj<|address x) (zcq w);{exact zpD h a};{cases w;{exact zpD h (zNj _ a)};{exact⟨zwd h.1,zE4 h.2.1<|zlv a,h.2.2⟩}}
@[simp] def zbaY {b:Bare}{g:Int}{x:Guest}{w:Int}(h:SmB b)(a:SmG x):SmB (zr8 b g x w):=by unfold zr8;cases (cond (zhY x.Ctl.Traps w) (ieq w 5) false);{exact zpD h (zEl _ _ a)};{exact zpD (zNi h) (zEl _ _ a)}
@[simp] def zYX {b:Bare}{g:Int}{x:Guest}{w:Int}(h:SmB b)(a:SmG x):SmB (stepped b g x w):=by unfold stepped;cases ieq w 1;{cases ieq w 2;{cases ieq w 3;{cases ieq w 4;{exact zbaY h a};{exact zZT h a}};{exact zZT h a}};{exact zpD h (zHw a)}};{exact zpD h (zZU a)}
@[simp] def zbdd {b:Bare}{g:Int}(h:SmB b):SmB (zfQ b g):=by unfold zfQ;cases zij b g;{exact h};{exact zYX h (zgx g h)}
def z2t (x:Guest):ieq (zL x) 0=false->ieq (zL x) 1=false->ieq (zL x) 2=false->ieq (zL x) 3=false->ieq (zL x) 4=false->ieq (zL x) 5=false->ieq (zL x) 6=false->ieq (zL x) 7=true:=by unfold zL zy1;cases canRun x;{intro h;cases h};{cases zkD x;{simp only [cT,cF];generalize (zcL x.Prog x.Pc).Op=o;cases ieq o 3<;>cases ieq o 4<;>cases ieq o 5<;>cases ieq o 6<;>cases ieq o 7<;>simp [ieq]};{intro _ h;cases h}}
def zO7 {x:Int}{a b:Int}(h:ieq x a=true)(c:ieq a b=false):ieq x b=false:=by have:x=a:=(by simpa [ieq] using h);rw[this];exact c
@[simp] abbrev zcF (b:Bare)(g:Int):Bool:=pc (SmB b)
@[simp] abbrev zkV (b:Bare)(g:Int):Bare:=zfQ b g
@[simp] abbrev zqg (b:Bare)(g:Int):Bool:=zij b g
def zr0:Run:=rF2 (dT .bare) dI λb c=>(zcF b c,[aT .bare<|zkV b c,aB<|zqg b c])
def zCg (N:Nat)(b:Bare)(c:Int):OA:=
 let g:=b.Memory;let l:=aT .bare<|zY b;let a:=zek b c;let k:=a.Ctl.Traps;let t:=aT .bare<|zcO b c<|zjq a;let d:=ziz a;let r:=aT .bare<|zcO b c<|zlq a d;let i:=zia a;let f:=zc5 i;let e:=zby i;let h:=ieq d 4;let w:=ze5 e h;let p:=aT .bare<|zcO b c<|zcM a w;let j:=(zeb a.Prog a.Pc).X;let u:=zbI (zrP b j) c<|zck a;let n:=aT .bare<|zcO (zrP b j) c<|zck a;let x:=zcM a<|zff j;let m:=zft a.Live e<|zdI h;let v:=zgV g m f;let q:=aT .bare<|zcO b c<|zlP a v;let y:=({b with Memory:=(zeG g m f a.A)}:Bare);let s:=aT .bare<|zcO y c<|zck a; (oN (zem b c)<|oN (zbx a)<|oN (zdC b)<|cond (nB<|zb9 b) (oN (zbp b)<|some [l,aB false])<|cond (nB<|zel b c) (oN (zbp b)<|some [l,aB false])<|cond (ieq d 0) (oN (zbp b)<|some [l,aB false])<|oN (zbx a)<|oN (zeg a.Prog a.Pc)<|cond (ieq d 1) (oN (zO a)<|oN (zbI b c<|zfw a)<|some [aT .bare<|zcO b c<|zfw a,aB true])<|cond (ieq d 2) (oN (zO a)<|oN (zbI b c<|ziP a)<|some [aT .bare<|zcO b c<|ziP a,aB true])<|cond (ieq d 3) (cond (ieq d 3) (oN (zbP i)<|oN (zlR h)<|oN (ziu a.Live e<|zdI h)<|cond (nB<|zeX a.Live e<|zdI h) (oN (zbP i)<|oN (zhf e h)<|oN (zcI a w)<|oN (zbI b c<|zcM a w)<|some [p,aB true])<|cond h (oN (zbP i)<|oN (zei g m f a.A)<|oN (zO a)<|oN (zbI y c<|zck a)<|some [s,aB true])<|oN (zbP i)<|oN (zfM g m f)<|oN (zoc a v)<|oN (zbI b c<|zlP a v)<|some [q,aB true])<|cond (ieq d 6) (oN (zfm j)<|oN (zcI a<|zff j)<|oN (zbI b c x)<|some [aT .bare<|zcO b c x,aB true])<|oN (zqk d)<|oN (zgJ k<|zjk d)<|cond (zfY k<|zjk d) (oN (zoD a d)<|oN (zbI b c<|zlq a d)<|some [r,aB true])<|cond (ieq d 5) (oN (zeE b j)<|oN (zO a)<|oN u<|some [n,aB true])<|oN (zO a)<|oN (zbI b c<|zjq a)<|some [t,aB true])<|cond h (oN (zbP i)<|oN (zlR h)<|oN (ziu a.Live e<|zdI h)<|cond (nB<|zeX a.Live e<|zdI h) (oN (zbP i)<|oN (zhf e h)<|oN (zcI a w)<|oN (zbI b c<|zcM a w)<|some [p,aB true])<|cond h (oN (zbP i)<|oN (zei g m f a.A)<|oN (zO a)<|oN (zbI y c<|zck a)<|some [s,aB true])<|oN (zbP i)<|oN (zfM g m f)<|oN (zoc a v)<|oN (zbI b c<|zlP a v)<|some [q,aB true])<|cond (ieq d 6) (oN (zfm j)<|oN (zcI a<|zff j)<|oN (zbI b c x)<|some [aT .bare<|zcO b c x,aB true])<|oN (zqk d)<|oN (zgJ k<|zjk d)<|cond (zfY k<|zjk d) (oN (zoD a d)<|oN (zbI b c<|zlq a d)<|some [r,aB true])<|cond (ieq d 5) (oN (zeE b j)<|oN (zO a)<|oN u<|some [n,aB true])<|oN (zO a)<|oN (zbI b c<|zjq a)<|some [t,aB true])
def zPf (a:Bare)(b:Int)(f:zcF a b=true):∃N,zCg N a b=some [aT .bare<|zkV a b,aB<|zqg a b]:=by
 have c:=zM.1 f;have j:=zgx b c;have k:_/\_/\_:=c;have hg:a.Guests.length<=1048576:=c.2.1.1;have g:=z2t (gAt a b);have d:ieq (zL<|gAt a b) 3=true->ieq (zL<|gAt a b) 4=false:=λh=>zO7 h rfl;have e:ieq (zL<|gAt a b) 5=true->ieq (zL<|gAt a b) 7=false:=λh=>zO7 h rfl;have l:=tr1 (gAt a b) (gAt a b).Ctl.Traps (zL<|gAt a b);have m:=tr2 (gAt a b) (gAt a b).Ctl.Traps (zL<|gAt a b);have p:=tr3 (gAt a b) (gAt a b).Ctl.Traps (zL<|gAt a b);have q:=tr4 (gAt a b) (gAt a b).Ctl.Traps (zL<|gAt a b);have i:∀n,SmB (zk3 a n):=λn=>zNi c;refine⟨0,?_⟩;unfold zCg oN nB;conv=>zeta
 refine mu (must rfl (must rfl (brN (λ_=>mu ?_) λ_=>brN (λ_=>mu ?_) λ_=>br (λ_=>mu ?_) λ_=>must rfl (must rfl (br (λ_=>mu (mu ?_)) λ_=>br (λ_=>mu (mu ?_)) λ_=>br (λ_=>br (λ_=>must rfl (must rfl (must rfl (brN (λ_=>must rfl (must rfl (mu<|mu ?_))) λ_=>br (λ_=>must rfl (mu<|mu<|mu ?_)) λ_=>must rfl (must rfl (mu<|mu ?_)))))) λ_=>br (λ_=>must rfl (mu<|mu ?_)) λ_=>must rfl (must rfl (br (λ_=>mu (mu ?_)) λ_=>br (λ_=>mu (mu<|mu ?_)) λ_=>mu (mu ?_)))) λ_=>br (λ_=>must rfl (must rfl (must rfl (brN (λ_=>must rfl (must rfl (mu<|mu ?_))) λ_=>br (λ_=>must rfl (mu<|mu<|mu ?_)) λ_=>must rfl (must rfl (mu<|mu ?_)))))) λ_=>br (λ_=>must rfl (mu<|mu ?_)) λ_=>must rfl (must rfl (br (λ_=>mu (mu ?_)) λ_=>br (λ_=>mu (mu<|mu ?_)) λ_=>mu (mu ?_))))))));all_goals first|rfl|(simp only [*,zkV,zqg,zfQ,zij,stepped,zmw,zr8,zeP,zcq,cT,cF]<;>rfl)|simp_all[Ty.cells,zkV,zqg,zfQ,zij,stepped,zmw,zr8,zeP,zcq]
def zvu:vO 143 zr0:=kF2 zrJ zn zA zq (zo []) zPf
def SmK (k:Kept):Prop:=k.Known.length<=1048576/\k.Slots.length<=1048576
def zCU (l:List Kept):Prop:=l.length<=1048576/\∀x∈l,SmK x
def zfz (m:Mon):Prop:=m.Outer.length<=1048576/\SmM m.Out/\m.Dirty.length<=1048576/\zmK m.Guests/\m.Outs.length<=1048576/\zCU m.Tables
def zp6 (l:List Mon):Prop:=l.length<=1048576/\∀x∈l,zfz x
def SmH (h:Host):Prop:=SmM h.Memory/\zp6 h.Mons/\h.Buffer.length<=1048576/\h.IoBuffer.length<=1048576
@[simp] def zyy (k:Kept):(∀c∈Ty.cells .kept k,CVB sm c)↔SmK k:=by simp[Ty.cells,SmK,z7q]
@[simp] def z6a (l:List Kept):CVB sm (.s .kept l)↔zCU l:=by rw[znI];simp only[zyy];rfl
@[simp] def zZi (m:Mon):(∀c∈Ty.cells .mon m,CVB sm c)↔zfz m:=by simp only[Ty.cells,qG,qN,or_false,vK,forall_eq,zrK,zwA,z6a,z0H,zXN,zXM,z8P,and_true,true_and];rfl
@[simp] def zbad (l:List Mon):CVB sm (.s .mon l)↔zp6 l:=by rw[znI];simp only[zZi];rfl
@[simp] def zS (h:Host):zc8 h↔SmH h:=by unfold zc8;simp only[zbd,qG,qN,or_false,vK,forall_eq,zrK,zbad,zUB];rfl
def zbs {p:Prop}(h:p):pc p=true:=zbh h
def zu4 {l:List Kept}{i:Int}{x:Kept}(h:zCU l)(b:SmK x):zCU (up l i x):=by refine⟨by simpa using h.1,λy a=>?_⟩;rcases qZ a with a|rfl;{exact h.2 y a};{exact b}
def zkf {l:List Mon}{i:Int}{x:Mon}(h:zp6 l)(b:zfz x):zp6 (up l i x):=by refine⟨by simpa using h.1,λy a=>?_⟩;rcases qZ a with a|rfl;{exact h.2 y a};{exact b}
def zpK {a:Type}{l:List a}(h:l.length<=1048576):few (ln<|ap [] l)=true:=by rw[zmN,zbap];omega
@[simp] abbrev zT (h:Host):Bool:=pc (zc8 h)
@[simp] abbrev zk (h:Host):Host:=h
def zph:Run:=rF1 dH λb=>(zT b,[aH<|zk b])
def zGP (N:Nat)(b:Host):OA:=
 (oN (zhT b.Memory)<|oN (few<|ln<|ap [] b.Buffer)<|oN (few<|ln<|ap [] b.IoBuffer)<|iter (σ:=(Int×lM×lN×lE×lE×lM×lN×lE×lE×lM×lN×lE×lE×Unit)) N (λf a=>let e:=a.2.2.2.2.2.2.2.2.2.2.2.2.1;let d:=ix a.2.2.1 a.1 zh;let c:=ap a.2.2.2.2.2.2.2.2.2.2.1 [zr6 d]; (cond (ilt a.1<|ln a.2.2.1) (oN (inb a.1<|ln a.2.2.1)<|oN (zrn d)<|oN (few<|ln c)<|f (zQ .i64 a.1 1,a.2.1,a.2.2.1,a.2.2.2.1,a.2.2.2.2.1,a.2.2.2.2.2.1,a.2.2.2.2.2.2.1,a.2.2.2.2.2.2.2.1,a.2.2.2.2.2.2.2.2.1,a.2.2.2.2.2.2.2.2.2.1,c,a.2.2.2.2.2.2.2.2.2.2.2.1,e,()))<|some [aH (⟨a.2.2.2.2.2.2.2.2.2.1,a.2.2.2.2.2.2.2.2.2.2.1,a.2.2.2.2.2.2.2.2.2.2.2.1,e⟩:Host)])) (0,b.Memory,b.Mons,b.Buffer,b.IoBuffer,[],[],[],[],zfZ b.Memory,[],ap [] b.Buffer,ap [] b.IoBuffer,()))
def zTD:=zo [(284,0,{n:=36,tm:=[(1,.lp 0 0),(2,.lp 1 0),(3,.lp 2 0),(4,ti)],lo:=[(0,[.sl 0 [],.sl 1 [],.sl 2 [],.sl 3 []]),(1,[.sl 4 [],.sl 5 [],.sl 6 [],.sl 7 []]),(2,[.sl 8 [],.sl 9 [],.sl 10 [],.sl 11 []])],ro:=[(0,.sl .int,false),(1,.mon,false),(2,.entry,false),(3,.entry,false),(4,.sl .int,true),(5,.mon,true),(6,.entry,true),(7,.entry,true),(8,.sl .int,true),(9,.mon,true),(10,.entry,true),(11,.entry,true)]})]
def zTc (a:Host)(k:zT a=true):∃N,zGP N a=some [aH<|zk a]:=by
 obtain⟨g,f,h,j⟩:=(zS a).1 (zM.1 k);have e:=zda f.1;refine zcy λN d=>?_;unfold zGP oN;conv=>zeta
 refine must (zbs<|(zrK _).2 g) (must (zpK h)<|must (zpK j) ?_);refine(zbq a.Mons (λi (t:lN)=>((i:Int),a.Memory,a.Mons,a.Buffer,a.IoBuffer,[],[],[],[],zfZ a.Memory,t,ap [] a.Buffer,ap [] a.IoBuffer,())) _ (λ_ x b m=>bif zrn x then (cond (few<|ln<|ap b [zr6 x]) (m<|ap b [zr6 x]) none) else none) (λ(t:lN)=>some [.agg<|zbd (⟨zfZ a.Memory,t,ap [] a.Buffer,ap [] a.IoBuffer⟩:Host)]) (λi c t rec=>?_) (λt rec=>?_) _ ([])<|d e.1).trans ?_;{simp only [zbL c,zbn c,zbv c,zbi c e.1,cT]};{simp only [zbD,cF]};exact zly zrn zr6 _ a.Mons 0 [] (λx l=>⟨zbs<|(zZi x).2 (f.2 x l),rfl⟩) (by simpa using e.2)
def zL7:vO 284 zph:=kF1 zrJ zn zA zq zTD zTc
@[simp] abbrev zee (k:Kept):Bool:=pc (SmK k)
@[simp] abbrev zdl (k:Kept):Kept:=k
def zzg:Run:=rF1 (dT .kept) λb=>(zee b,[aT .kept<|zdl b])
def zCx (N:Nat)(a:Kept):OA:=
 (oN (few<|ln<|ap [] a.Known)<|oN (zhd a.Slots)<|some [aT .kept (⟨ap [] a.Known,ze1 a.Slots⟩:Kept)])
def zPw (a:Kept)(b:zee a=true):∃N,zCx N a=some [aT .kept<|zdl a]:=by have c:=zM.1 b;obtain⟨f,g⟩:=c;have d:a.Known.length<=2147483648:=(by omega);have e:a.Slots.length<=2147483648:=(by omega);refine⟨0,?_⟩;unfold zCx oN;refine mu (mu ?_);first|rfl|(simp only [*,zdl,cT,cF]<;>rfl)|simp_all[Ty.cells,zdl]
def zIA:vO 208 zzg:=kF1 zrJ zn zA zq (zo []) zPw
def z8r:zbf:=[(284,zph),(208,zzg)]++z0y
def zUw:zU z8r:=zi zL7 (zi zIA zrJ)
@[simp] abbrev zmp (m:Mon):Bool:=pc (zfz m)
@[simp] abbrev zmZ (m:Mon):Mon:=m
def zBA:Run:=rF1 (dT .mon) λb=>(zmp b,[aT .mon<|zmZ b])
def zGl (N:Nat)(b:Mon):OA:=
 (oN (zhd b.Outer)<|oN (zhG b.Out)<|oN (few<|ln<|ap [] b.Dirty)<|oN (zdg b.Guests)<|oN (zeI b.Outs)<|iter (σ:=(Int×Int×Int×Int×Int×Int×Int×Int×lK×lK×lS×lM×lB×lG×LI×lS×lM×lB×lG×LI×lK×Unit)) N (λi a=>let h:=a.2.2.2.2.2.2.2.2.2.2.2.2.1;let g:=a.2.2.2.2.2.2.2.2.2.2.2.2.2.1;let f:=a.2.2.2.2.2.2.2.2.2.2.2.2.2.2.1;let e:=a.2.2.2.2.2.2.2.2.1;let d:=a.2.2.2.2.2.2.2.2.2.1;let c:=ix d a.2.1 zeL; (cond (ilt a.2.1 a.1) (oN (inb a.2.1<|ln d)<|oN (zee c)<|oN (few<|ln<|ap e [zdl c])<|i (a.1,zQ .i64 a.2.1 1,a.2.2.1,a.2.2.2.1,a.2.2.2.2.1,a.2.2.2.2.2.1,a.2.2.2.2.2.2.1,a.2.2.2.2.2.2.2.1,ap e [zdl c],d,a.2.2.2.2.2.2.2.2.2.2.1,a.2.2.2.2.2.2.2.2.2.2.2.1,h,g,f,a.2.2.2.2.2.2.2.2.2.2.2.2.2.2.2.1,a.2.2.2.2.2.2.2.2.2.2.2.2.2.2.2.2.1,a.2.2.2.2.2.2.2.2.2.2.2.2.2.2.2.2.2.1,a.2.2.2.2.2.2.2.2.2.2.2.2.2.2.2.2.2.2.1,a.2.2.2.2.2.2.2.2.2.2.2.2.2.2.2.2.2.2.2.1,a.2.2.2.2.2.2.2.2.2.2.2.2.2.2.2.2.2.2.2.2.1,()))<|some [aT .mon (⟨a.2.2.2.2.2.2.2.2.2.2.1,a.2.2.2.2.2.2.2.2.2.2.2.1,h,g,f,a.2.2.1,a.2.2.2.1,e,a.2.2.2.2.1⟩:Mon)])) (ln b.Tables,0,b.Pending,b.Traps,b.Own,0,0,0,[],b.Tables,ze1 b.Outer,zeC b.Out,ap [] b.Dirty,zdX b.Guests,zeF b.Outs,[],[],[],[],[],[],()))
def zTx:=zo [(127,0,{n:=44,tm:=[(1,.lp 0 0),(2,.lp 1 0),(3,.sl 0 []),(29,.sl 1 []),(30,ti),(31,ti)],lo:=[(0,[.sl 2 [],.sl 3 [],.sl 4 [],.sl 5 [],.sl 6 [],ti,ti,.sl 1 [],ti]),(1,[.sl 7 [],.sl 8 [],.sl 9 [],.sl 10 [],.sl 11 [],ti,ti,.sl 12 [],ti])],ro:=[(0,.kept,true),(1,.kept,false),(2,.slot,true),(3,.sl .int,true),(4,.bool,true),(5,.guest,true),(6,.int,true),(7,.slot,true),(8,.sl .int,true),(9,.bool,true),(10,.guest,true),(11,.int,true),(12,.kept,true)]})]
def zSL (a:Mon)(p:zmp a=true):∃N,zGl N a=some [aT .mon<|zmZ a]:=by
 obtain⟨s,l,m,n,u,f⟩:=zM.1 p;have e:=zda f.1;refine zcy λN d=>?_;unfold zGl oN;conv=>zeta
 have g:zhd a.Outer=true:=(by simp;omega);have h:zhG a.Out=true:=(by simp;exact l);have j:zdg a.Guests=true:=(by simp;exact n);have k:zeI a.Outs=true:=(by simp;omega);refine must g (must h<|must (zpK m)<|must j<|must k ?_);refine(zbq a.Tables (λi (t:lK)=>(ln a.Tables,(i:Int),a.Pending,a.Traps,a.Own,0,0,0,t,a.Tables,ze1 a.Outer,zeC a.Out,ap [] a.Dirty,zdX a.Guests,zeF a.Outs,[],[],[],[],[],[],())) _ (λ_ x b r=>bif zee x then (cond (few<|ln<|ap b [zdl x]) (r<|ap b [zdl x]) none) else none) (λ(t:lK)=>some [.agg<|Ty.cells .mon (⟨ze1 a.Outer,zeC a.Out,ap [] a.Dirty,zdX a.Guests,zeF a.Outs,a.Pending,a.Traps,t,a.Own⟩:Mon)]) (λi c t rec=>?_) (λt rec=>?_) _ ([])<|d e.1).trans ?_;{simp only [zbL c,zbn c,zbv c,zbi c e.1,cT]};{simp only [zbD,cF]};exact zly zee zdl _ a.Tables 0 [] (λx q=>⟨zbs<|f.2 x q,rfl⟩) (by simpa using e.2)
def zLB:vO 127 zBA:=kF1 zUw zn zA zq zTx zSL
def z8s:zbf:=[(127,zBA)]++z8r
def zzU:zU z8s:=zi zLB zUw
def zCv (N:Nat)(b:Host):OA:=
 (oN (zhG b.Memory)<|oN (few<|ln<|ap [] b.Buffer)<|oN (few<|ln<|ap [] b.IoBuffer)<|iter (σ:=(Int×Int×lN×lM×lN×lE×lE×lM×lN×lE×lE×Unit)) N (λe a=>let d:=ix a.2.2.1 a.2.1 zh;let c:=ap a.2.2.2.2.2.2.2.2.1 [zmZ d]; (cond (ilt a.2.1 a.1) (oN (inb a.2.1<|ln a.2.2.1)<|oN (zmp d)<|oN (few<|ln c)<|e (a.1,zQ .i64 a.2.1 1,a.2.2.1,a.2.2.2.1,a.2.2.2.2.1,a.2.2.2.2.2.1,a.2.2.2.2.2.2.1,a.2.2.2.2.2.2.2.1,c,a.2.2.2.2.2.2.2.2.2.1,a.2.2.2.2.2.2.2.2.2.2.1,()))<|some [aH (⟨a.2.2.2.2.2.2.2.1,a.2.2.2.2.2.2.2.2.1,a.2.2.2.2.2.2.2.2.2.1,a.2.2.2.2.2.2.2.2.2.2.1⟩:Host)])) (ln b.Mons,0,b.Mons,[],[],[],[],zeC b.Memory,[],ap [] b.Buffer,ap [] b.IoBuffer,()))
def zQf:=zo [(68,0,{n:=34,tm:=[(2,.lp 0 0),(3,.lp 1 0),(19,.sl 0 []),(20,ti),(21,ti)],lo:=[(0,[.sl 1 [],.sl 2 [],.sl 3 [],.sl 4 []]),(1,[.sl 5 [],.sl 6 [],.sl 7 [],.sl 8 []])],ro:=[(0,.mon,false),(1,.sl .int,true),(2,.mon,true),(3,.entry,true),(4,.entry,true),(5,.sl .int,true),(6,.mon,true),(7,.entry,true),(8,.entry,true)]})]
def zPu (a:Host)(l:zT a=true):∃N,zCv N a=some [aH<|zk a]:=by
 obtain⟨h,f,j,k⟩:=(zS a).1 (zM.1 l);have e:=zda f.1;refine zcy λN d=>?_;unfold zCv oN;conv=>zeta
 have g:zhG a.Memory=true:=(by simp;exact h);refine must g (must (zpK j)<|must (zpK k) ?_);refine(zbq a.Mons (λi (t:lN)=>(ln a.Mons,(i:Int),a.Mons,[],[],[],[],zeC a.Memory,t,ap [] a.Buffer,ap [] a.IoBuffer,())) _ (λ_ x b n=>bif zmp x then (cond (few<|ln<|ap b [zmZ x]) (n<|ap b [zmZ x]) none) else none) (λ(t:lN)=>some [.agg<|zbd (⟨zeC a.Memory,t,ap [] a.Buffer,ap [] a.IoBuffer⟩:Host)]) (λi c t rec=>?_) (λt rec=>?_) _ ([])<|d e.1).trans ?_;{simp only [zbL c,zbn c,zbv c,zbi c e.1,cT]};{simp only [zbD,cF]};exact zly zmp zmZ _ a.Mons 0 [] (λx m=>⟨zbs<|f.2 x m,rfl⟩) (by simpa using e.2)
def zIy:vO 68 zph:=kF1 zzU zn zA zq zQf zPu
def allI {a:Type}(p:Nat->a->Bool):List a->Nat->Bool
 |[],_=>true
 |x::l,i=>p i x&&allI p l (i+1)
def zIa {a b:Type}(p:Nat->a->Bool)(r:Option b)(K:Unit->Option b):∀(l:List a) (i:Nat),goL (λi x (_:Unit) k=>bif p i x then k () else r) K l i ()=bif allI p l i then K () else r
 |[],_=>rfl
 |x::l,i=>by simp only[goL,allI];cases p i x;{rfl};{simp only [cT,u0];exact zIa p r K l (i+1)}
def zQT {a:Type}(q:a->Bool)(l:List a)(d:a):∀(n i:Nat),i+n<=l.length->zp7 (λj=>q (ix l (j:Int) d)) n i=((l.drop i).take n).all q
 | 0,i,_=>by simp[zp7]
 |n+1,i,h=>by have b:i<l.length:=(by omega);rw[kY b,List.take_succ_cons,kX,<- zQT q l d n (i+1) (by omega)];simp only[zp7,zbv b]
def sameKey (a b:Entry):Bool:=bif ieq a.Tag b.Tag then ieq a.Page b.Page else false
def alone (l:List Entry)(i:Nat)(x:Entry):Bool:=(l.take i).all λy=>!sameKey x y
def zgT (l:List Entry):Bool:=bif allI (alone l) l 0 then ile (ln l) 6 else false
def z6p {a:Type}{l:List a}{i:Nat}(h:i<=l.length):inr 0 (i:Int) (ln l)=true:=qJ (by simp only[ln];omega)
@[simp] abbrev zjj (l:List Entry):Bool:=true
@[simp] abbrev ziJ (l:List Entry):Bool:=zgT l
def znV:Run:=rF1 (dS .entry) λb=>(zjj b,[aB<|ziJ b])
def zCh (N:Nat)(g:lE):OA:=
 (iter (σ:=(Int×Int×lE×Unit)) N (λi b=>let c:=b.2.2.1;let e:=ix c b.2.1 zhb; (cond (ilt b.2.1 b.1) (oN (inb b.2.1<|ln c)<|oN (inr 0 b.2.1<|ln c)<|iter (σ:=(Int×Int×Int×Int×Int×Int×Int×Int×lE×lE×Unit)) N (λj a=>let d:=a.2.2.2.1;let f:=a.2.2.2.2.2.2.2.2.2.1;let h:=j (a.1,a.2.1,a.2.2.1,zQ .i64 d 1,a.2.2.2.2.1,a.2.2.2.2.2.1,a.2.2.2.2.2.2.1,a.2.2.2.2.2.2.2.1,a.2.2.2.2.2.2.2.2.1,f,()); (cond (ilt d a.2.2.1) (oN (inb d<|ln f)<|cond (ieq a.2.2.2.2.1 (ix f d zhb).Tag) (cond (ieq a.2.2.2.2.2.1 (ix f d zhb).Page) oF h) h)<|i (a.1,zQ .i64 a.2.1 1,a.2.2.2.2.2.2.2.2.1,()))) (b.1,b.2.1,ln<|tk c b.2.1,0,e.Tag,e.Page,e.Host,e.Rights,c,tk c b.2.1,()))<|some [aB<|ile (ln c) 6])) (ln g,0,g,()))
def zQc:=zo [(106,0,{n:=39,tm:=[(0,.sl 0 []),(7,.sl 0 []),(8,ti),(9,ti)],lo:=[],ro:=[(0,.entry,false)]}),(106,2,{n:=39,tm:=[(0,.sl 0 []),(4,.lp 0 0),(7,.sl 0 []),(8,ti),(9,ti),(16,.sl 1 []),(17,ti),(18,ti)],lo:=[(0,[ti,ti,ti,ti])],ro:=[(0,.entry,false),(1,.entry,false)]})]
def zPg (a:List Entry)(l:zbX big [aS .entry a])(m:zjj a=true):∃N,zCh N a=some [aB<|ziJ a]:=by
 have e:=len0 l;refine zcy λN d=>?_;unfold zCh oN;conv=>zeta
 refine(zbq a (λi (t:Unit)=>(ln a,(i:Int),a,())) _ (λi (x:Entry) (_:Unit) h=>bif alone a i x then h () else oF) (λ(t:Unit)=>some [.one<|.b<|ile (ln a) 6]) (λi c t rec=>?_) (λt rec=>?_) _ ()<|d e).trans ?_;{simp only [zbL c,zbn c,zbv c,zbi c e,cT];rw[z6p<|Nat.le_of_lt c,cT];have k:(tk a (i:Int)).length<=big:=qU (by simp[tk];omega) e;refine(zbq (tk a (i:Int)) (λj (u:Unit)=>(ln a,(i:Int),ln<|tk a (i:Int),(j:Int),a[i].Tag,a[i].Page,a[i].Host,a[i].Rights,a,tk a (i:Int),())) _ (λ_ (y:Entry) (_:Unit) h=>bif !sameKey a[i] y then h () else oF) (λ(u:Unit)=>rec (ln a,((i+1:Nat):Int),a,())) (λj g u f=>?_) (λu f=>?_) _ ()<|d k).trans ?_;{simp only [zbL g,zbn g,zbv g,zbi g k,cT,zbi c e];unfold sameKey;cases ieq a[i].Tag (tk a (i:Int))[j].Tag<;>cases ieq a[i].Page (tk a (i:Int))[j].Page<;>rfl};{simp only [zbD,cF,zbi c e]};rw[zhu λy=>!sameKey a[i] y];rfl};{simp only [zbD,cF]};rw[zIa<|alone a];unfold ziJ zgT;cases allI (alone a) a 0<;>rfl
def zIi:vO 106 znV:=hF1 zzU zn zA zq zQc zPg
def zCD (N:Nat)(f:lE):OA:=
 (iter (σ:=(Int×lE×Unit)) N (λg c=>cond (ilt c.1<|ln c.2.1) (iter (σ:=(Int×Int×lE×Unit)) N (λh a=>let b:=a.2.2.1;let e:=ix b a.2.1 zhb;let d:=h (a.1,zQ .i64 a.2.1 1,b,()); (cond (ilt a.2.1 a.1) (oN (inb a.1<|ln b)<|oN (inb a.2.1<|ln b)<|cond (ieq (ix b a.1 zhb).Tag e.Tag) (oN (inb a.1<|ln b)<|oN (inb a.2.1<|ln b)<|cond (ieq (ix b a.1 zhb).Page e.Page) oF d) d)<|g (zQ .i64 a.1 1,b,()))) (c.1,0,c.2.1,()))<|some [aB<|ile (ln c.2.1) 6]) (0,f,()))
def zQh:=zo [(109,0,{n:=43,tm:=[(0,.sl 0 []),(3,ti)],lo:=[],ro:=[(0,.entry,false)]}),(109,2,{n:=43,tm:=[(0,.sl 0 []),(3,ti),(4,ti)],lo:=[],ro:=[(0,.entry,false)]})]
def zPz (a:List Entry)(k:zbX big [aS .entry a])(l:zjj a=true):∃N,zCD N a=some [aB<|ziJ a]:=by
 have g:=len0 k;refine zcy λN d=>?_;unfold zCD oN;conv=>zeta
 refine(zbq a (λi (t:Unit)=>((i:Int),a,())) _ (λi (x:Entry) (_:Unit) h=>bif alone a i x then h () else oF) (λ(t:Unit)=>some [.one<|.b<|ile (ln a) 6]) (λi c t rec=>?_) (λt rec=>?_) _ ()<|d g).trans ?_;{simp only [zbL c,zbn c,zbv c,zbi c g,cT];refine(zvF i (λ(j:Nat) (_:Unit)=>((i:Int),(j:Int),a,())) _ (λj (_:Unit) h=>bif !sameKey a[i] (ix a (j:Int) zhb) then h () else oF) (λ_=>rec (((i+1:Nat):Int),a,())) (λj m u f=>?_) (λu f=>?_) _ ()<|d (by omega)).trans ?_;{have e:j<a.length:=(by omega);simp only[show ilt (j:Int) (i:Int)=true from qJ (by omega),zbn c,zbn e,zbv c,zbi e g,cT];unfold sameKey;cases ieq a[i].Tag (ix a (j:Int) zhb).Tag<;>cases ieq a[i].Page (ix a (j:Int) zhb).Page<;>rfl};{simp only [show ilt (i:Int) (i:Int)=false from qH (by omega),zbi c g,cF]};rw[zER λj=>!sameKey a[i] (ix a (j:Int) zhb),zQT (λy=>!sameKey a[i] y) a _ i 0 (by omega)];rfl};{simp only [zbD,cF]};rw[zIa<|alone a];unfold ziJ zgT;cases allI (alone a) a 0<;>rfl
def zIE:vO 109 znV:=hF1 zzU zn zA zq zQh zPz
def z8t:zbf:=[(68,zph),(109,znV),(106,znV)]++z8s
def zHX:zU z8t:=zi zIy (zi zIE<|zi zIi zzU)
def zO8 (a b:Int):igt a b = !ile a b:=by unfold igt ile;by_cases h:a<=b;{rw [qJ h,qH (by omega)];rfl};{rw [qH h,qJ (by omega)];rfl}
def stB {c M:Bool}{E:OA}(h:c=true->E=some [AV.one<|.b M]):(cond (cond c false true) (some [AV.one<|.b false]) E)=some [AV.one<|.b<|cond c M false]:=by cases c;{rfl};{exact h rfl}
def stI {a b:Int}{M:Bool}{E:OA}(h:ieq a b=true->E=some [AV.one<|.b M]):(cond (ine a b) (some [AV.one<|.b false]) E)=some [AV.one<|.b<|cond (ieq a b) M false]:=by rw[zjP];cases c:ieq a b;{rfl};{exact h c}
def stG {a b:Int}{M:Bool}{E:OA}(h:ile a b=true->E=some [AV.one<|.b M]):(cond (igt a b) (some [AV.one<|.b false]) E)=some [AV.one<|.b<|cond (ile a b) M false]:=by rw[zO8];cases c:ile a b;{rfl};{exact h c}
def znS (s:Slot)(p:LI):Bool:=bif zdv s noSlot then zc2 p else (cond (enough s.Rights 1) (ile (ln p) 0) false)
def fits (m:Mon)(j:Nat):Bool:=znS (ix m.Outer (j:Int) zV) (ix m.Out (j:Int) [])
def zfI (m:Mon):Bool:=bif zl (ln m.Guests) 1 2 then (cond (ieq (ln m.Tables)<|ln m.Guests) (cond (zdN m.Outer 8 12) (cond (ieq (ln m.Out) 8) (cond (ieq (ln m.Dirty) 8) (cond (ile (ln m.Outs) 40) (cond (zef m.Pending) (cond (zl m.Traps 0 3) (cond (zl m.Own 0 1000000000) (cond (m.Guests.all zeu) (zp7 (fits m) 8 0) false) false) false) false) false) false) false) false) false) else false
def ztx {t:List Slot}{n p:Int}(h:zdN t n p=true):ln t=n:=by unfold zdN at h;cases a:t.all (λs=>zeO s p);{rw [a]at h;cases h};{rw [a]at h;exact qD h}
@[simp] abbrev zj3 (m:Mon):Bool:=true
@[simp] abbrev zkY (m:Mon):Bool:=zfI m
def zst:Run:=rF1 (dT .mon) λb=>(zj3 b,[aB<|zkY b])
def zQA (N:Nat)(a:Mon):OA:=
 let h:=ln a.Guests; (oN (zN h 1 2)<|cond (nB<|zl h 1 2) oF<|cond (ine (ln a.Tables) h) oF<|oN (zku a.Outer 8 12)<|cond (nB<|zfo a.Outer 8 12) oF<|cond (ine (ln a.Out) 8) oF<|cond (ine (ln a.Dirty) 8) oF<|cond (igt (ln a.Outs) 40) oF<|oN (zcn a.Pending)<|cond (nB<|zeS a.Pending) oF<|oN (zN a.Traps 0 3)<|cond (nB<|zl a.Traps 0 3) oF<|oN (zN a.Own 0 1000000000)<|cond (nB<|zl a.Own 0 1000000000) oF<|iter (σ:=(Int×Int×Int×Int×Int×lG×lS×lM×lB×LI×lK×Unit)) N (λl b=>let i:=b.2.2.2.2.2.2.1;let g:=b.2.2.2.2.2.1;let k:=ix g b.2.1 zx; (cond (ilt b.2.1 b.1) (oN (inb b.2.1<|ln g)<|oN (zbx k)<|cond (nB<|ziT k) oF<|l (b.1,zQ .i64 b.2.1 1,b.2.2.1,b.2.2.2.1,b.2.2.2.2.1,g,i,b.2.2.2.2.2.2.2.1,b.2.2.2.2.2.2.2.2.1,b.2.2.2.2.2.2.2.2.2.1,b.2.2.2.2.2.2.2.2.2.2.1,()))<|iter (σ:=(Int×Int×Int×Int×Int×lS×lM×lB×lG×LI×lK×Unit)) N (λm c=>let d:=c.2.1;let e:=c.2.2.2.2.2.2.1;let f:=ix c.2.2.2.2.2.1 d zV;let j:=m (c.1,zQ .i64 d 1,c.2.2.1,c.2.2.2.1,c.2.2.2.2.1,c.2.2.2.2.2.1,e,c.2.2.2.2.2.2.2.1,c.2.2.2.2.2.2.2.2.1,c.2.2.2.2.2.2.2.2.2.1,c.2.2.2.2.2.2.2.2.2.2.1,()); (cond (ilt d c.1) (oN (inb d<|ln c.2.2.2.2.2.1)<|oN zbS<|cond (cond (ieq f.Page zbl.Page) (ieq f.Rights zbl.Rights) false) (oN (inb d<|ln e)<|oN (zeh<|ix e d [])<|cond (nB<|zdJ<|ix e d []) oF j)<|oN (zbg f.Rights 1)<|cond (nB<|zdr f.Rights 1) oF<|oN (inb d<|ln e)<|cond (igt (ln<|ix e d []) 0) oF j) oT)) (ln i,0,b.2.2.1,b.2.2.2.1,b.2.2.2.2.1,i,b.2.2.2.2.2.2.2.1,b.2.2.2.2.2.2.2.2.1,g,b.2.2.2.2.2.2.2.2.2.1,b.2.2.2.2.2.2.2.2.2.2.1,()))) (h,0,a.Pending,a.Traps,a.Own,a.Guests,a.Outer,a.Out,a.Dirty,a.Outs,a.Tables,()))
def zY2:=zo [(107,0,{n:=106,tm:=[(1,.lp 0 0),(64,.sl 0 []),(65,ti),(66,ti)],lo:=[(0,[.sl 1 [],.sl 2 [],.sl 3 [],.sl 0 [],.sl 4 [],ti,ti,.sl 5 [],ti])],ro:=[(0,.guest,false),(1,.slot,false),(2,.sl .int,false),(3,.bool,false),(4,.int,false),(5,.kept,false)]}),(107,2,{n:=106,tm:=[(1,.lp 0 0),(75,.sl 0 []),(76,ti),(77,ti)],lo:=[(0,[.sl 0 [],.sl 1 [],.sl 2 [],.sl 3 [],.sl 4 [],ti,ti,.sl 5 [],ti])],ro:=[(0,.slot,false),(1,.sl .int,false),(2,.bool,false),(3,.guest,false),(4,.int,false),(5,.kept,false)]})]
def zYa (a:Mon)(l:zbX big [aT .mon a])(E:zj3 a=true):∃N,zQA N a=some [aB<|zkY a]:=by
 have hg:a.Guests.length<=big:=((zdp l).1 (.s .guest a.Guests) (by simp[AV.cvs,Ty.cells])).len;have m:a.Outer.length<=big:=((zdp l).1 (.s .slot a.Outer) (by simp[AV.cvs,Ty.cells])).len;refine zcy λN d=>?_;unfold zQA zkY zfI oN nB;conv=>zeta
 refine must rfl (stB λw=>stI λy=>must rfl (stB λr=>stI λv=>stI λz=>stG λA=>must rfl (stB λB=>must rfl (stB λC=>must rfl (stB λD=>?_)))));have p:=ztx r;have q:ln a.Out=8:=qD v;simp only[ln] at p q;refine(zbq a.Guests (λi (t:Unit)=>(ln a.Guests,(i:Int),a.Pending,a.Traps,a.Own,a.Guests,a.Outer,a.Out,a.Dirty,a.Outs,a.Tables,())) _ (λ_ (x:Guest) (_:Unit) g=>bif zeu x then g () else oF) (λ(t:Unit)=>iter (σ:=(Int×Int×Int×Int×Int×lS×lM×lB×lG×LI×lK×Unit)) N (λn c=>cond (ilt c.2.1 c.1) (cond (inb c.2.1<|ln c.2.2.2.2.2.1) (cond zbS (cond (cond (ieq (ix c.2.2.2.2.2.1 c.2.1 zV).Page zbl.Page) (ieq (ix c.2.2.2.2.2.1 c.2.1 zV).Rights zbl.Rights) false) (cond (inb c.2.1<|ln c.2.2.2.2.2.2.1) (cond (zeh<|ix c.2.2.2.2.2.2.1 c.2.1 []) (cond (cond (zdJ<|ix c.2.2.2.2.2.2.1 c.2.1 []) false true) oF<|n (c.1,zQ .i64 c.2.1 1,c.2.2.1,c.2.2.2.1,c.2.2.2.2.1,c.2.2.2.2.2.1,c.2.2.2.2.2.2.1,c.2.2.2.2.2.2.2.1,c.2.2.2.2.2.2.2.2.1,c.2.2.2.2.2.2.2.2.2.1,c.2.2.2.2.2.2.2.2.2.2.1,())) none) none)<|cond (zbg (ix c.2.2.2.2.2.1 c.2.1 zV).Rights 1) (cond (cond (zdr (ix c.2.2.2.2.2.1 c.2.1 zV).Rights 1) false true) oF<|cond (inb c.2.1<|ln c.2.2.2.2.2.2.1) (cond (igt (ln<|ix c.2.2.2.2.2.2.1 c.2.1 []) 0) oF<|n (c.1,zQ .i64 c.2.1 1,c.2.2.1,c.2.2.2.1,c.2.2.2.2.1,c.2.2.2.2.2.1,c.2.2.2.2.2.2.1,c.2.2.2.2.2.2.2.1,c.2.2.2.2.2.2.2.2.1,c.2.2.2.2.2.2.2.2.2.1,c.2.2.2.2.2.2.2.2.2.2.1,())) none) none) none) none)<|some [.one<|.b true]) (ln a.Outer,0,a.Pending,a.Traps,a.Own,a.Outer,a.Out,a.Dirty,a.Guests,a.Outs,a.Tables,())) (λi h t rec=>?_) (λt rec=>?_) _ ()<|d hg).trans ?_;{simp only [zbL h,zbn h,zbv h,zbi h hg,cT];simp only[zbx,ziT,cT];cases zeu a.Guests[i]<;>rfl};{simp only [zbD,cF]};rw[zhu zeu];cases a.Guests.all zeu;{rfl};simp only[cT];refine(zbq a.Outer (λj (u:Unit)=>(ln a.Outer,(j:Int),a.Pending,a.Traps,a.Own,a.Outer,a.Out,a.Dirty,a.Guests,a.Outs,a.Tables,())) _ (λj (_:Slot) (_:Unit) g=>bif fits a j then g () else oF) (λ(u:Unit)=>some [.one<|.b true]) (λj e u f=>?_) (λu f=>?_) _ ()<|d m).trans ?_;{simp only [zbL e,zbn e,zbv e,zbi e m,cT];have k:j<a.Out.length:=(by omega);simp only[zbS,zbl,zeh,zdJ,zbg,zdr,zbn k,zO8,cT];unfold fits znS;simp only[zbv e,zdv];cases ieq a.Outer[j].Page noSlot.Page<;>cases ieq a.Outer[j].Rights noSlot.Rights<;>cases enough a.Outer[j].Rights 1<;>cases ile (ln<|ix a.Out (j:Int) []) 0<;>cases zc2 (ix a.Out (j:Int) [])<;>rfl};{simp only [zbD,cF]};rw[zyG λj (_:Unit) g=>bif fits a j then g () else oF,zER<|fits a,show a.Outer.length=8 by omega];cases zp7 (fits a) 8 0<;>rfl
def zR5:vO 107 zst:=hF1 zHX zn zA zq zY2 zYa
def zQL (N:Nat)(c:Mon):OA:=
 (oN (zN (ln c.Guests) 1 2)<|cond (nB<|zl (ln c.Guests) 1 2) oF<|cond (ine (ln c.Tables)<|ln c.Guests) oF<|oN (zku c.Outer 8 12)<|cond (nB<|zfo c.Outer 8 12) oF<|cond (ine (ln c.Out) 8) oF<|cond (ine (ln c.Dirty) 8) oF<|iter (σ:=(Int×Int×Int×Int×lS×lM×lB×lG×LI×lK×Unit)) N (λl b=>let d:=b.2.2.2.2.2.2.2.1; (cond (ilt b.1<|ln d) (oN (inb b.1<|ln d)<|oN (zbx<|ix d b.1 zx)<|cond (nB<|ziT<|ix d b.1 zx) oF<|l (zQ .i64 b.1 1,b.2.1,b.2.2.1,b.2.2.2.1,b.2.2.2.2.1,b.2.2.2.2.2.1,b.2.2.2.2.2.2.1,d,b.2.2.2.2.2.2.2.2.1,b.2.2.2.2.2.2.2.2.2.1,()))<|iter (σ:=(Int×Int×Int×Int×lS×lM×lB×lG×LI×lK×Unit)) N (λm a=>let h:=a.2.2.2.2.1;let i:=inb a.1<|ln a.2.2.2.2.2.1;let e:=ix a.2.2.2.2.2.1 a.1 [];let g:=ix h a.1 zV;let k:=ieq g.Rights zbl.Rights;let j:=ieq g.Page zbl.Page;let f:=m (zQ .i64 a.1 1,a.2.1,a.2.2.1,a.2.2.2.1,h,a.2.2.2.2.2.1,a.2.2.2.2.2.2.1,a.2.2.2.2.2.2.2.1,a.2.2.2.2.2.2.2.2.1,a.2.2.2.2.2.2.2.2.2.1,()); (cond (ilt a.1 8) (oN (inb a.1<|ln h)<|oN zbS<|cond (nB<|cond j k false) (oN i<|cond (igt (ln e) 0) oF<|oN (inb a.1<|ln h)<|oN (zbg g.Rights 1)<|cond (nB<|zdr g.Rights 1) oF<|cond (nB<|nB<|cond j k false) (oN i<|oN (zeh e)<|cond (nB<|zdJ e) oF f) f)<|cond (nB<|nB<|cond j k false) (oN i<|oN (zeh e)<|cond (nB<|zdJ e) oF f) f)<|cond (ile (ln a.2.2.2.2.2.2.2.2.1) 40) (oN (zcn a.2.1)<|cond (zeS a.2.1) (oN (zN a.2.2.1 0 3)<|cond (zl a.2.2.1 0 3) (oN (zN a.2.2.2.1 0 1000000000)<|some [aB<|zl a.2.2.2.1 0 1000000000]) oF) oF) oF)) (0,b.2.1,b.2.2.1,b.2.2.2.1,b.2.2.2.2.1,b.2.2.2.2.2.1,b.2.2.2.2.2.2.1,d,b.2.2.2.2.2.2.2.2.1,b.2.2.2.2.2.2.2.2.2.1,()))) (0,c.Pending,c.Traps,c.Own,c.Outer,c.Out,c.Dirty,c.Guests,c.Outs,c.Tables,()))
def zY4:=zo [(110,0,{n:=115,tm:=[(1,.lp 0 0),(3,ti)],lo:=[(0,[.sl 0 [],.sl 1 [],.sl 2 [],.sl 3 [],.sl 4 [],ti,ti,.sl 5 [],ti])],ro:=[(0,.slot,false),(1,.sl .int,false),(2,.bool,false),(3,.guest,false),(4,.int,false),(5,.kept,false)]}),(110,2,{n:=115,tm:=[(1,.lp 0 0),(4,ti)],lo:=[(0,[.sl 0 [],.sl 1 [],.sl 2 [],.sl 3 [],.sl 4 [],ti,ti,.sl 5 [],ti])],ro:=[(0,.slot,false),(1,.sl .int,false),(2,.bool,false),(3,.guest,false),(4,.int,false),(5,.kept,false)]})]
def zYj (c:Mon)(r:zbX big [aT .mon c])(A:zj3 c=true):∃N,zQL N c=some [aB<|zkY c]:=by
 have hg:c.Guests.length<=big:=((zdp r).1 (.s .guest c.Guests) (by simp[AV.cvs,Ty.cells])).len;refine zcy λN d=>?_;unfold zQL zkY zfI oN nB;conv=>zeta
 refine must rfl (stB λw=>stI λy=>must rfl (stB λp=>stI λq=>stI λz=>?_));have m:=ztx p;have n:ln c.Out=8:=qD q;simp only[ln] at m n;refine(zbq c.Guests (λi (t:Unit)=>((i:Int),c.Pending,c.Traps,c.Own,c.Outer,c.Out,c.Dirty,c.Guests,c.Outs,c.Tables,())) _ (λ_ (x:Guest) (_:Unit) l=>bif zeu x then l () else oF) (λ(t:Unit)=>iter (σ:=(Int×Int×Int×Int×lS×lM×lB×lG×LI×lK×Unit)) N (λh a=>cond (ilt a.1 8) (cond (inb a.1<|ln a.2.2.2.2.1) (cond zbS (cond (cond (cond (ieq (ix a.2.2.2.2.1 a.1 zV).Page zbl.Page) (ieq (ix a.2.2.2.2.1 a.1 zV).Rights zbl.Rights) false) false true) (cond (inb a.1<|ln a.2.2.2.2.2.1) (cond (igt (ln<|ix a.2.2.2.2.2.1 a.1 []) 0) oF<|cond (inb a.1<|ln a.2.2.2.2.1) (cond (zbg (ix a.2.2.2.2.1 a.1 zV).Rights 1) (cond (cond (zdr (ix a.2.2.2.2.1 a.1 zV).Rights 1) false true) oF<|cond (cond (cond (cond (ieq (ix a.2.2.2.2.1 a.1 zV).Page zbl.Page) (ieq (ix a.2.2.2.2.1 a.1 zV).Rights zbl.Rights) false) false true) false true) (cond (inb a.1<|ln a.2.2.2.2.2.1) (cond (zeh<|ix a.2.2.2.2.2.1 a.1 []) (cond (cond (zdJ<|ix a.2.2.2.2.2.1 a.1 []) false true) oF<|h (zQ .i64 a.1 1,a.2.1,a.2.2.1,a.2.2.2.1,a.2.2.2.2.1,a.2.2.2.2.2.1,a.2.2.2.2.2.2.1,a.2.2.2.2.2.2.2.1,a.2.2.2.2.2.2.2.2.1,a.2.2.2.2.2.2.2.2.2.1,())) none) none)<|h (zQ .i64 a.1 1,a.2.1,a.2.2.1,a.2.2.2.1,a.2.2.2.2.1,a.2.2.2.2.2.1,a.2.2.2.2.2.2.1,a.2.2.2.2.2.2.2.1,a.2.2.2.2.2.2.2.2.1,a.2.2.2.2.2.2.2.2.2.1,())) none) none) none)<|cond (cond (cond (cond (ieq (ix a.2.2.2.2.1 a.1 zV).Page zbl.Page) (ieq (ix a.2.2.2.2.1 a.1 zV).Rights zbl.Rights) false) false true) false true) (cond (inb a.1<|ln a.2.2.2.2.2.1) (cond (zeh<|ix a.2.2.2.2.2.1 a.1 []) (cond (cond (zdJ<|ix a.2.2.2.2.2.1 a.1 []) false true) oF<|h (zQ .i64 a.1 1,a.2.1,a.2.2.1,a.2.2.2.1,a.2.2.2.2.1,a.2.2.2.2.2.1,a.2.2.2.2.2.2.1,a.2.2.2.2.2.2.2.1,a.2.2.2.2.2.2.2.2.1,a.2.2.2.2.2.2.2.2.2.1,())) none) none)<|h (zQ .i64 a.1 1,a.2.1,a.2.2.1,a.2.2.2.1,a.2.2.2.2.1,a.2.2.2.2.2.1,a.2.2.2.2.2.2.1,a.2.2.2.2.2.2.2.1,a.2.2.2.2.2.2.2.2.1,a.2.2.2.2.2.2.2.2.2.1,())) none) none)<|cond (ile (ln a.2.2.2.2.2.2.2.2.1) 40) (cond (zcn a.2.1) (cond (zeS a.2.1) (cond (zN a.2.2.1 0 3) (cond (zl a.2.2.1 0 3) (cond (zN a.2.2.2.1 0 1000000000) (some [.one<|.b<|zl a.2.2.2.1 0 1000000000]) none) oF) none) oF) none) oF) (0,c.Pending,c.Traps,c.Own,c.Outer,c.Out,c.Dirty,c.Guests,c.Outs,c.Tables,())) (λi g t rec=>?_) (λt rec=>?_) _ ()<|d hg).trans ?_;{simp only [zbL g,zbn g,zbv g,zbi g hg,cT];simp only[zbx,ziT,cT];cases zeu c.Guests[i]<;>rfl};{simp only [zbD,cF]};rw[zhu zeu];cases B:c.Guests.all zeu;{simp only [cF];cases ile (ln c.Outs) 40<;>cases zef c.Pending<;>cases zl c.Traps 0 3<;>cases zl c.Own 0 1000000000<;>rfl};simp only[cT];refine(zvF 8 (λj (u:Unit)=>((j:Int),c.Pending,c.Traps,c.Own,c.Outer,c.Out,c.Dirty,c.Guests,c.Outs,c.Tables,())) _ (λj (_:Unit) l=>bif fits c j then l () else oF) (λ(u:Unit)=>cond (ile (ln c.Outs) 40) (cond (zcn c.Pending) (cond (zeS c.Pending) (cond (zN c.Traps 0 3) (cond (zl c.Traps 0 3) (cond (zN c.Own 0 1000000000) (some [.one<|.b<|zl c.Own 0 1000000000]) none) oF) none) oF) none) oF) (λj v u f=>?_) (λu f=>?_) _ ()<|d (by decide)).trans ?_;{simp only [show ilt (j:Int) 8=true from qJ (by omega),zbi v (show 8<=big by decide),cT];have e:j<c.Outer.length:=(by omega);have k:j<c.Out.length:=(by omega);simp only[zbS,zbl,zeh,zdJ,zbg,zdr,zbn e,zbn k,zO8,cT];unfold fits znS;simp only[zbv e,zdv];cases ieq c.Outer[j].Page noSlot.Page<;>cases ieq c.Outer[j].Rights noSlot.Rights<;>cases enough c.Outer[j].Rights 1<;>cases ile (ln<|ix c.Out (j:Int) []) 0<;>cases zc2 (ix c.Out (j:Int) [])<;>rfl};{simp only [show ilt ((8:Nat):Int) 8=false from qH (by omega),cF];rfl};rw[zER<|fits c];simp only[zcn,zeS,zN,zTW,cT];cases zp7 (fits c) 8 0<;>cases ile (ln c.Outs) 40<;>cases zef c.Pending<;>cases zl c.Traps 0 3<;>cases zl c.Own 0 1000000000<;>rfl
def zSh:vO 110 zst:=hF1 zHX zn zA zq zY4 zYj
def z8u:zbf:=[(110,zst),(107,zst)]++z8t
def zHY:zU z8u:=zi zSh (zi zR5 zHX)
def ziE:List Slot->List Bool->Option (List Bool)
 |[],u=>some u
 |s::l,u=>bif ilt s.Page 0 then ziE l u else (cond (ix u s.Page false) none<|ziE l<|up u s.Page true)
def zkT:List Mon->List Bool->Bool
 |[],_=>true
 |m::l,u=>bif zfI m then (match ziE m.Outer u with|some a=>zkT l a|none=>false) else false
def zbQ (h:Host):Bool:=bif zj5 h.Memory 12 then (cond (zl (ln h.Mons) 1 3) (cond (zgT h.Buffer) (cond (zgT h.IoBuffer) (zkT h.Mons<|rp 12 false) false) false) false) else false
def zrr:∀(l:List Slot) (u a:List Bool),ziE l u=some a->a.length=u.length
 |[],u,a,h=>by cases h;rfl
 |s::l,u,a,h=>by simp only[ziE]at h;cases b:ilt s.Page 0;{rw [b]at h;cases c:ix u s.Page false;{rw [c]at h;simpa using zrr l _ a h};{rw [c]at h;cases h}};{rw [b]at h;exact zrr l u a h}
def zE3 {t:List Slot}{n:Int}(h:zdN t n 12=true):∀s∈t,s.Page<12:=by intro s d;unfold zdN at h;cases b:t.all (λs=>zeO s 12);{rw [b]at h;cases h};{have:=qM.1 b s d;unfold zeO at this;cases a:zdv s noSlot;{rw [a] at this;simp only[cF,show igt 12 0=true from rfl,cT] at this;cases c:zl s.Page 0 (wsub .i64 12 1);{rw [c] at this;cases this};{have:=(zfW.1 c).2;rw[show wsub .i64 12 1=11 from rfl] at this;omega}};{unfold zdv at a;rw[qE]at a;have a:s.Page = -1:=qD a.1;omega}}
def zXz {s:Slot}{u:List Bool}(h:s.Page<12)(b:u.length=12)(a:ilt s.Page 0=false):inb s.Page (ln u)=true:=by have:=qX a;exact qJ (by simp only[ln];omega)
def zvh {a:Type}(r:Option a)(y:Slot)(u:List Bool)(b:List Bool->Option a):Option a:=bif ilt y.Page 0 then b u else (cond (inb y.Page<|ln u) (cond (ix u y.Page false) r<|cond (inb y.Page<|ln u) (share (up u y.Page true) λc=>b c) none) none)
def zz7 {c:Type}(r:Option c)(K:List Bool->Option c):∀(l:List Slot) (i:Nat) (u:List Bool),(∀s∈l,s.Page<12)->u.length=12->
 goL (λ_ y u g=>zvh r y u g) K l i u=match ziE l u with|some f=>K f|none=>r
 |[],_,_,_,_=>rfl
 |s::l,i,u,h,b=>by simp only[goL,ziE,zvh];cases d:ilt s.Page 0;{have e:=zXz (h s (by simp)) b d;rw[e];cases ix u s.Page false;{simp only [cF,cT,share];exact zz7 r K l (i+1) _ (λs a=>h s (by simp[a])) (by simpa using b)};{rfl}};{simp only [cT];exact zz7 r K l (i+1) u (λs a=>h s (by simp[a])) b}
def z0j {b:Type}(r:Option b)(m:Mon)(u:List Bool)(a:List Bool->Option b):Option b:=bif zfI m then goL (λ_ y u a=>zvh r y u a) a m.Outer 0 u else r
def zdZ {c x:Bool}:((cond c x false)=true)↔c=true/\x=true:=by cases c<;>simp
def zoG {m:Mon}(h:zfI m=true):zdN m.Outer 8 12=true:=by unfold zfI at h;simp only[zdZ]at h;exact h.2.2.1
def zUO {K:Bool->OA}(k:List Bool->OA)(a:∀u,k u=K true):∀(l:List Mon) (i:Nat) (u:List Bool),u.length=12->
 goL (λ_ m u g=>z0j (K false) m u g) k l i u=K (zkT l u)
 |[],_,u,_=>a u
 |m::l,i,u,b=>by simp only[goL,zkT,z0j];cases c:zfI m;{rfl};{simp only [cT];have e:=zoG c;rw[zz7 _ _ _ _ _ (zE3 e) b];cases d:ziE m.Outer u with|none=>rfl|some f=>exact zUO k a l (i+1) f ((zrr _ _ _ d).trans b)}
@[simp] abbrev zcm (h:Host):Bool:=true
@[simp] abbrev zch (h:Host):Bool:=zbQ h
def zqs:Run:=rF1 dH λb=>(zcm b,[aB<|zch b])
def zJX (N:Nat)(c:Host):OA:=
 (oN (zka c.Memory 12)<|cond (nB<|zgu c.Memory 12) oF<|oN (zN (ln c.Mons) 1 3)<|cond (nB<|zl (ln c.Mons) 1 3) oF<|oN (zjj c.Buffer)<|cond (nB<|ziJ c.Buffer) oF<|oN (zjj c.IoBuffer)<|cond (nB<|ziJ c.IoBuffer) oF<|oN (cond (few 12) (ieq 12 12) false)<|iter (σ:=(Int×Int×lB×lN×Unit)) N (λk b=>let h:=ix b.2.2.2.1 b.2.1 zh; (cond (ilt b.2.1 b.1) (oN (inb b.2.1<|ln b.2.2.2.1)<|oN (zj3 h)<|cond (nB<|zkY h) oF<|iter (σ:=(Int×Int×Int×Int×Int×lB×lN×Unit)) N (λi a=>let f:=a.2.2.2.2.1;let g:=a.2.2.2.2.2.2.1;let j:=(ix g a.2.2.1 zh).Outer;let d:=a.2.2.2.2.2.1;let e:=(ix j f zV).Page; (cond (ilt f a.2.2.2.1) (oN (inb f<|ln j)<|cond (ilt e 0) (i (a.1,a.2.1,a.2.2.1,a.2.2.2.1,zQ .i64 f 1,d,g,()))<|oN (inb e<|ln d)<|cond (ix d e false) oF<|oN (inb e<|ln d)<|share (up d e true) λl=>i (a.1,a.2.1,a.2.2.1,a.2.2.2.1,zQ .i64 f 1,l,g,()))<|k (a.1,zQ .i64 a.2.1 1,d,g,()))) (b.1,b.2.1,b.2.1,ln h.Outer,0,b.2.2.1,b.2.2.2.1,())) oT)) (ln c.Mons,0,rp 12 false,c.Mons,()))
def zXb:=zo [(43,0,{n:=63,tm:=[(3,.sl 0 []),(33,.sl 1 []),(34,ti),(35,ti)],lo:=[],ro:=[(0,.bool,true),(1,.mon,false)]}),(43,2,{n:=63,tm:=[(3,.sl 0 []),(33,.sl 1 []),(34,ti),(35,ti),(43,.sl 1 [0]),(44,ti),(45,ti)],lo:=[],ro:=[(0,.bool,true),(1,.mon,false)]})]
def zVh (a:Host)(n:zbX big [aH a])(w:zcm a=true):∃N,zJX N a=some [aB<|zch a]:=by
 have l:CVB big (.s .mon a.Mons):=(zdp n).1 _ (by simp[AV.cvs,zbd]);have g:=l.len;refine zcy λN d=>?_;unfold zJX zch zbQ oN nB;conv=>zeta
 refine must rfl (stB λp=>must rfl (stB λq=>must rfl (stB λr=>must rfl (stB λv=>must rfl ?_))));refine(zbq a.Mons (λi (t:lB)=>(ln a.Mons,(i:Int),t,a.Mons,())) _ (λ_ (x:Mon) (u:List Bool) h=>z0j (oF) x u h) (λ(t:lB)=>some [.one<|.b true]) (λi c t rec=>?_) (λt rec=>?_) _ (rp 12 false)<|d g).trans ?_;{simp only [zbL c,zbn c,zbv c,zbi c g,cT];unfold z0j;cases k:zfI a.Mons[i];{simp only [zj3,zkY,k,cT,cF]};simp only[zj3,zkY,k,cT,cF];have m:a.Mons[i].Outer.length<=big:=(l.inv.2 _ (jI c) (.s .slot _) (by simp[Ty.cells])).len;refine(zbq a.Mons[i].Outer (λj (u:lB)=>(ln a.Mons,(i:Int),(i:Int),ln a.Mons[i].Outer,(j:Int),u,a.Mons,())) _ (λ_ (y:Slot) (u:List Bool) h=>zvh (oF) y u h) (λ(u:lB)=>rec (ln a.Mons,((i+1:Nat):Int),u,a.Mons,())) (λj f u e=>?_) (λu e=>?_) _ (t)<|d m).trans ?_;{simp only [zbL f,zbn f,zbv f,zbi f m,cT,zbn c,zbv c,zbi c g];rfl};{simp only [zbD,cF,zbn c,zbv c,zbi c g]};rfl};{simp only [zbD,cF]};exact zUO (K:=λb=>some [AV.one<|.b b]) _ (λ_=>rfl) _ _ _ rfl
def zOa:vO 43 zqs:=hF1 zHY zn zA zq zXb zVh
def zId {e:Type}(r:Option e)(k:List Bool->Option e)(m:Mon):∀(n i:Nat) (u:List Bool),(∀s∈m.Outer,s.Page<12)->u.length=12->i+n=m.Outer.length->
 goN (λj u d=>bif inb (j:Int) (ln m.Outer) then zvh r (ix m.Outer (j:Int) zV) u d else none) k n i u=goL (λ_ y u d=>zvh r y u d) k (m.Outer.drop i) i u
 | 0,i,u,_,_,h=>by have:i=m.Outer.length:=(by omega);subst this;simp[goN,goL]
 |n+1,i,u,b,c,h=>by have a:i<m.Outer.length:=(by omega);rw[kY a];simp only[goN,goL,zbn a,zbv a,cT,zvh];cases f:ilt m.Outer[i].Page 0;{rw [zXz (b _<|jI a) c f];cases ix u m.Outer[i].Page false;{simp only [cF,cT,share];exact zId r k m n (i+1) _ b (by simpa using c) (by omega)};{rfl}};{simp only [cT];exact zId r k m n (i+1) u b c (by omega)}
def zKj (N:Nat)(b:Host):OA:=
 (oN (zka b.Memory 12)<|cond (nB<|zgu b.Memory 12) oF<|oN (zN (ln b.Mons) 1 3)<|cond (nB<|zl (ln b.Mons) 1 3) oF<|oN (zjj b.Buffer)<|cond (nB<|ziJ b.Buffer) oF<|oN (zjj b.IoBuffer)<|cond (nB<|ziJ b.IoBuffer) oF<|oN (cond (few 12) (ieq 12 12) false)<|iter (σ:=(Int×lB×lM×lN×lE×lE×Unit)) N (λq c=>let n:=ix c.2.2.2.1 c.1 zh; (cond (ilt c.1<|ln c.2.2.2.1) (oN (inb c.1<|ln c.2.2.2.1)<|oN (zj3 n)<|cond (nB<|zkY n) oF<|iter (σ:=(Int×Int×lB×lM×lN×lE×lE×Unit)) N (λi a=>let k:=zQ .i64 a.2.1 1;let h:=a.2.2.2.2.2.1;let g:=a.2.2.2.2.2.2.1;let f:=a.2.2.1;let e:=a.2.2.2.2.1;let p:=(ix e a.1 zh).Outer;let m:=i (a.1,k,f,a.2.2.2.1,e,h,g,());let d:=(ix p a.2.1 zV).Page;let l:=inb d<|ln f; (cond (ilt a.2.1 8) (oN (inb a.1<|ln e)<|oN (inb a.2.1<|ln p)<|cond (ige d 0) (oN l<|cond (ix f d false) oF<|cond (ige d 0) (oN l<|share (up f d true) λj=>i (a.1,k,j,a.2.2.2.1,e,h,g,())) m)<|cond (ige d 0) (oN l<|share (up f d true) λj=>i (a.1,k,j,a.2.2.2.1,e,h,g,())) m)<|q (zQ .i64 a.1 1,f,a.2.2.2.1,e,h,g,()))) (c.1,0,c.2.1,c.2.2.1,c.2.2.2.1,c.2.2.2.2.1,c.2.2.2.2.2.1,())) oT)) (0,rp 12 false,b.Memory,b.Mons,b.Buffer,b.IoBuffer,()))
def zXj:=zo [(44,0,{n:=72,tm:=[(1,.lp 0 0),(3,.sl 0 []),(4,ti)],lo:=[(0,[.sl 1 [],.sl 2 [],.sl 3 [],.sl 4 []])],ro:=[(0,.bool,true),(1,.sl .int,false),(2,.mon,false),(3,.entry,false),(4,.entry,false)]}),(44,2,{n:=72,tm:=[(1,.lp 0 0),(3,.sl 0 []),(4,ti),(5,ti)],lo:=[(0,[.sl 1 [],.sl 2 [],.sl 3 [],.sl 4 []])],ro:=[(0,.bool,true),(1,.sl .int,false),(2,.mon,false),(3,.entry,false),(4,.entry,false)]})]
def zVC (a:Host)(y:zbX big [aH a])(F:zcm a=true):∃N,zKj N a=some [aB<|zch a]:=by
 have A:CVB big (.s .mon a.Mons):=(zdp y).1 _ (by simp[AV.cvs,zbd]);have h:=A.len;refine zcy λN f=>?_;unfold zKj zch zbQ oN nB;conv=>zeta
 refine must rfl (stB λD=>must rfl (stB λq=>must rfl (stB λr=>must rfl (stB λE=>must rfl ?_))));refine(zbq a.Mons (λi (t:lB)=>((i:Int),t,a.Memory,a.Mons,a.Buffer,a.IoBuffer,())) _ (λ_ (x:Mon) (u:List Bool) d=>bif zfI x then goN (λj u d=>bif inb (j:Int) (ln x.Outer) then zvh (oF) (ix x.Outer (j:Int) zV) u d else none) d 8 0 u else oF) (λ(t:lB)=>some [.one<|.b true]) (λi c t rec=>?_) (λt rec=>?_) _ (rp 12 false)<|f h).trans ?_;{simp only [zbL c,zbn c,zbv c,zbi c h,cT];cases v:zfI a.Mons[i];{simp only [zj3,zkY,v,cT,cF]};simp only[zj3,zkY,v,cT,cF];refine(zvF 8 (λj (u:lB)=>((i:Int),(j:Int),u,a.Memory,a.Mons,a.Buffer,a.IoBuffer,())) _ (λj (u:List Bool) d=>bif inb (j:Int) (ln a.Mons[i].Outer) then zvh (oF) (ix a.Mons[i].Outer (j:Int) zV) u d else none) (λ(u:lB)=>rec (((i+1:Nat):Int),u,a.Memory,a.Mons,a.Buffer,a.IoBuffer,())) (λj z u g=>?_) (λu g=>?_) _ (t)<|f (by decide)).trans ?_;{simp only [show ilt (j:Int) 8=true from qJ (by omega),zbi z (show 8<=big by decide),cT,zbn c,zbv c,zbi c h];unfold zvh;have e:ige (ix a.Mons[i].Outer (j:Int) zV).Page 0 = !ilt (ix a.Mons[i].Outer (j:Int) zV).Page 0:=(by rw[zbaw,Bool.not_not]);simp only[e];cases ilt (ix a.Mons[i].Outer (j:Int) zV).Page 0<;>cases inb (j:Int) (ln a.Mons[i].Outer)<;>cases inb (ix a.Mons[i].Outer (j:Int) zV).Page (ln u)<;>cases ix u (ix a.Mons[i].Outer (j:Int) zV).Page false<;>rfl};{simp only [show ilt ((8:Nat):Int) 8=false from qH (by omega),cF,zbn c,zbv c,zbi c h]};rfl};{simp only [zbD,cF]};have p:∀(l:List Mon) (i:Nat) (u:List Bool),u.length=12->goL (λ_ (x:Mon) (u:List Bool) d=>bif zfI x then goN (λj u d=>bif inb (j:Int) (ln x.Outer) then zvh (oF) (ix x.Outer (j:Int) zV) u d else none) d 8 0 u else oF) (λ_=>oT) l i u=some [AV.one<|.b<|zkT l u]:=(by intro l;induction l with|nil=>intro i u _;rfl|cons m l B=>intro i u n;simp only[goL,zkT];cases q:zfI m;{rfl};{have k:=zoG q;have w:0+8=m.Outer.length:=(by have:=ztx k;simp only[ln] at this;omega);simp only[cT];rw[zId _ _ m 8 0 u (zE3 k) n w,List.drop_zero,zz7 _ _ _ _ _ (zE3 k) n];cases r:ziE m.Outer u with|none=>rfl|some C=>exact B (i+1) C ((zrr _ _ _ r).trans n)});exact p _ _ _ rfl
def zOD:vO 44 zqs:=hF1 zHY zn zA zq zXj zVC
def z8v:zbf:=[(44,zqs),(43,zqs)]++z8u
def zzV:zU z8v:=zi zOD (zi zOa zHY)
def z06 {h:Host}(a:zbQ h=true):(h.Mons.length:Int)<=3:=by unfold zbQ at a;simp only[zdZ]at a;exact(zfW.1 a.2.1).2
def zb1 (h:Host)(m:Int):Bool:=bif zbQ h then hasB m (ln h.Mons) else false
def zb3 (h:Host)(m p:Int):Bool:=bif zbQ h then (cond (hasB m<|ln h.Mons) (hasB p 8) false) else false
def zQv {h:Host}(a:zbQ h=true)(m:Int):zl m 0 (wsub .i64 (ln h.Mons) 1)=hasB m (ln h.Mons):=zsb (by have:=z06 a;omega) m
def win7 (p:Int):zl p 0 7=hasB p 8:=by unfold zl ige ile hasB;by_cases a:0<=p<;>by_cases b:p<8;{rw [qJ (p:=p≥0) (by omega),qJ (p:=p<=7) (by omega),qJ (p:=0<=p/\p<8) ⟨a,b⟩];rfl};{rw [qH (p:=p<=7) (by omega),qH (p:=0<=p/\p<8) (by omega)];simp};{rw [qH (p:=p≥0) (by omega),qH (p:=0<=p/\p<8) (by omega)];simp};{rw [qH (p:=p≥0) (by omega),qH (p:=0<=p/\p<8) (by omega)];simp}
@[simp] abbrev zg5 (h:Host)(m:Int):Bool:=true
@[simp] abbrev zfp (h:Host)(m:Int):Bool:=zb1 h m
def zEc:Run:=rF2 dH dI λb c=>(zg5 b c,[aB<|zfp b c])
def zKC (N:Nat)(a:Host)(b:Int):OA:=
 (oN (zcm a)<|cond (zch a) (oN (zN b 0<|wsub .i64 (ln a.Mons) 1)<|some [aB<|zl b 0<|wsub .i64 (ln a.Mons) 1]) oF)
def zVR (a:Host)(b:Int)(d:zg5 a b=true):∃N,zKC N a b=some [aB<|zfp a b]:=by refine⟨0,?_⟩;unfold zKC zfp zb1 oN;cases c:zbQ a;{simp only [zcm,zch,c,cT,cF]};{simp only [zcm,zch,c,cT,zN,zTW,zQv c]}
def zO4:vO 337 zEc:=kF2 zzV zn zA zq (zo []) zVR
@[simp] abbrev ziZ (h:Host)(m p:Int):Bool:=true
@[simp] abbrev zdV (h:Host)(m p:Int):Bool:=zb3 h m p
def zsD:Run:=rF3 dH dI dI λb c d=>(ziZ b c d,[aB<|zdV b c d])
def zQR (N:Nat)(a:Host)(b c:Int):OA:=
 (oN (zcm a)<|cond (zch a) (oN (zN b 0<|wsub .i64 (ln a.Mons) 1)<|cond (zl b 0<|wsub .i64 (ln a.Mons) 1) (oN (zN c 0 7)<|some [aB<|zl c 0 7]) oF) oF)
def zYp (a:Host)(b c:Int)(e:ziZ a b c=true):∃N,zQR N a b c=some [aB<|zdV a b c]:=by refine⟨0,?_⟩;unfold zQR zdV zb3 oN;cases d:zbQ a;{simp only [zcm,zch,d,cT,cF]};{simp only [zcm,zch,d,cT,zN,zTW,zQv d,win7];cases hasB b (ln a.Mons)<;>rfl}
def zSo:vO 348 zsD:=kF3 zzV zn zA zq (zo []) zYp
def zGm (N:Nat)(a:Host)(b c:Int):OA:=
 (oN (zcm a)<|cond (zch a) (oN (zbg b<|ln a.Mons)<|cond (zcb b<|ln a.Mons) (oN (zbg c 8)<|some [aB<|zcb c 8]) oF) oF)
def zSM (a:Host)(b c:Int)(e:ziZ a b c=true):∃N,zGm N a b c=some [aB<|zdV a b c]:=by refine⟨0,?_⟩;unfold zGm zdV zb3 oN;cases d:zbQ a;{simp only [zcm,zch,d,cT,cF]};{simp only [zcm,zch,d,cT,zbg,zcb];cases hasB b (ln a.Mons)<;>rfl}
def zLC:vO 128 zsD:=kF3 zzV zn zA zq (zo []) zSM
def z8w:zbf:=[(337,zEc),(348,zsD),(128,zsD)]++z8v
def zUx:zU z8w:=zi zO4 (zi zSo<|zi zLC zzV)
def zd9 (k:Kept)(p:Int):Bool:=bif hasB p (ln k.Known) then hasB p (ln k.Slots) else false
def zce (k:Kept)(p:Int):Kept:=bif zd9 k p then ⟨up k.Known p false,up k.Slots p noSlot⟩ else k
@[simp] def zon {k:Kept}{p:Int}(h:SmK k):SmK (zce k p):=by unfold zce;cases zd9 k p;{exact h};{exact⟨by simpa using h.1,by simpa using h.2⟩}
def has_lt {p:Int}{n m:Int}(h:hasB p n=true):ilt p m=hasB p m:=by have h:=qD h;unfold ilt hasB;by_cases a:p<m;{rw [qJ a,qJ ⟨h.1,a⟩]};{rw [qH a,qH (by omega)]}
@[simp] abbrev zc6 (k:Kept)(p:Int):Bool:=pc (SmK k)
@[simp] abbrev zkx (k:Kept)(p:Int):Bool:=zd9 k p
def zEa:Run:=rF2 (dT .kept) dI λb c=>(zc6 b c,[aB<|zkx b c])
def zKA (N:Nat)(a:Kept)(b:Int):OA:=
 (oN (zN b 0<|wsub .i64 (ln a.Known) 1)<|cond (zl b 0<|wsub .i64 (ln a.Known) 1) (some [aB<|ilt b<|ln a.Slots]) oF)
def zVO (a:Kept)(b:Int)(c:zc6 a b=true):∃N,zKA N a b=some [aB<|zkx a b]:=by have e:=zM.1 c;refine⟨0,?_⟩;unfold zKA zkx zd9 oN;simp only[zN,zTW,zsb e.1,cT];cases d:hasB b (ln a.Known);{rfl};{simp only [cT,has_lt d]}
def zOU:vO 120 zEa:=kF2 zUx zn zA zq (zo []) zVO
def z8x:zbf:=[(120,zEa)]++z8w
def zHZ:zU z8x:=zi zOU zUx
@[simp] abbrev zeJ (k:Kept)(p:Int):Kept:=zce k p
def zqB:Run:=rF2 (dT .kept) dI λb c=>(zc6 b c,[aT .kept<|zeJ b c])
def zKh (N:Nat)(c:Kept)(b:Int):OA:=
 let a:=zeD c; (oN (zhU c)<|oN (zc6 a b)<|cond (zkx a b) (oN (inb b<|ln a.Known)<|share (up a.Known b false) λd=>oN zbS<|oN (inb b<|ln a.Slots)<|share (up a.Slots b zbl) λe=>some [aT .kept (⟨d,e⟩:Kept)])<|some [aT .kept a])
def zVA (a:Kept)(b:Int)(g:zc6 a b=true):∃N,zKh N a b=some [aT .kept<|zeJ a b]:=by
 have d:=zM.1 g;refine⟨0,?_⟩;unfold zKh zeJ oN;conv=>zeta
 refine must (zbs<|(zyy _).2 d) (must (zbs d) ?_);unfold zce;cases c:zd9 a b;{simp only [zkx,zeD,c,cF]};{simp only [zkx,zeD,c,cT];unfold zd9 at c;obtain⟨e,f⟩:=zdZ.1 c;simp only[zU5,e,f,cT,share,zbS]}
def zOB:vO 342 zqB:=kF2 zHZ zn zA zq (zo []) zVA
def zJV (N:Nat)(b:Kept)(a:Int):OA:=
 let c:=zdl b; (oN (zee b)<|oN (zbg a<|ln b.Known)<|cond (zcb a<|ln b.Known) (oN (zbg a<|ln b.Slots)<|cond (zcb a<|ln b.Slots) (oN (inb a<|ln c.Known)<|share (up c.Known a false) λd=>oN zbS<|oN (inb a<|ln c.Slots)<|share (up c.Slots a zbl) λe=>some [aT .kept (⟨d,e⟩:Kept)])<|some [aT .kept c])<|some [aT .kept c])
def zVf (a:Kept)(b:Int)(c:zc6 a b=true):∃N,zJV N a b=some [aT .kept<|zeJ a b]:=by
 have d:=zM.1 c;refine⟨0,?_⟩;unfold zJV zeJ oN;conv=>zeta
 refine must (zbs d) (must rfl ?_);unfold zce zd9;simp only[zcb,zbg,zdl,zU5,share,zbS,cT];cases hasB b (ln a.Known);{rfl};{cases hasB b (ln a.Slots)<;>rfl}
def zN8:vO 149 zqB:=kF2 zHZ zn zA zq (zo []) zVf
def z8y:zbf:=[(342,zqB),(149,zqB)]++z8x
def zvk:zU z8y:=zi zOB (zi zN8 zHZ)
def zfX (k:Kept)(l:LI):Kept:=l.foldl zce k
def zZX:∀(l:LI) {k:Kept},SmK k->SmK (zfX k l)
 |[],_,h=>h
 |p::l,k,h=>zZX l (zon (p:=p) h)
def zz6 {b:Type}(K:List Bool×List Slot->Option b):∀(l:LI) (i:Nat) (k:Kept),SmK k->
 goL (λ_ x (t:List Bool×List Slot) a=>bif pc (SmK ⟨t.1,t.2⟩) then a ((zce ⟨t.1,t.2⟩ x).Known,(zce ⟨t.1,t.2⟩ x).Slots) else none) K l i (k.Known,k.Slots)=K ((zfX k l).Known,(zfX k l).Slots)
 |[],_,_,_=>rfl
 |x::l,i,k,h=>by have e:pc (SmK ⟨k.Known,k.Slots⟩)=true:=zbs h;simp only[goL,e,cT];exact zz6 K l (i+1) (zce k x) (zon h)
def zrt (l:List Slot)(p:Int):LI:=idxs (λ(s:Slot)=>ieq s.Page p) l 0
def zgd (k:Kept)(l:List Slot)(p:Int):Kept:=zfX k (zrt l p)
def z7p {k:Kept}(l:List Slot)(p:Int)(h:SmK k):SmK (zgd k l p):=zZX _ h
@[simp] abbrev zgt (k:Kept)(l:List Slot)(p:Int):Bool:=pc (SmK k/\l.length<=1048576)
@[simp] abbrev zk7 (k:Kept)(l:List Slot)(p:Int):Kept:=zgd k l p
def zlL:Run:=rF3 (dT .kept) (dS .slot) dI λb c d=>(zgt b c d,[aT .kept<|zk7 b c d])
def zys (N:Nat)(c:Kept)(e:lS)(f:Int):OA:=
 (oN (zhU c)<|oN (zqZ e f)<|iter (σ:=(Int×LI×lB×lS×lB×lS×Unit)) N (λg a=>let d:=ix a.2.1 a.1 0;let b:=(⟨a.2.2.1,a.2.2.2.1⟩:Kept); (cond (ilt a.1<|ln a.2.1) (oN (inb a.1<|ln a.2.1)<|oN (zc6 b d)<|g (zQ .i64 a.1 1,a.2.1,(zeJ b d).Known,(zeJ b d).Slots,a.2.2.2.2.1,a.2.2.2.2.2.1,()))<|some [aT .kept b])) (0,zhB e f,(zeD c).Known,(zeD c).Slots,[],[],()))
def zJM:=zo [(391,0,{n:=27,tm:=[(3,.lp 0 0),(6,.lp 1 0),(7,.sl 0 []),(8,ti)],lo:=[(0,[.sl 1 [],.sl 2 []]),(1,[.sl 3 [],.sl 4 []])],ro:=[(0,.int,true),(1,.bool,true),(2,.slot,true),(3,.bool,true),(4,.slot,true)]})]
def zJe (b:Kept)(a:List Slot)(c:Int)(j:zgt b a c=true):∃N,zys N b a c=some [aT .kept<|zk7 b a c]:=by
 obtain⟨h,f⟩:=zM.1 j;have g:(zhB a c).length<=big:=qU (zvD _ a 0) (zda f).1;refine zcy λN e=>?_;unfold zys oN;conv=>zeta
 refine must (zbs<|(zyy _).2 h) (must (zbs (by omega)) ?_);refine(zbq (zhB a c) (λi (t:lB×lS)=>((i:Int),zhB a c,t.1,t.2,[],[],())) _ (λ_ (x:Int) (t:List Bool×List Slot) k=>bif pc (SmK ⟨t.1,t.2⟩) then k ((zce ⟨t.1,t.2⟩ x).Known,(zce ⟨t.1,t.2⟩ x).Slots) else none) (λ(t:lB×lS)=>some [.agg<|Ty.cells .kept (⟨t.1,t.2⟩:Kept)]) (λi d t rec=>?_) (λt rec=>?_) _ ((zeD b).Known,(zeD b).Slots)<|e g).trans ?_;{simp only [zbL d,zbn d,zbv d,zbi d g,cT]};{simp only [zbD,cF]};exact zz6 _ _ 0 b h
def zDt:vO 391 zlL:=kF3 zvk zn zA zq zJM zJe
def zyj (N:Nat)(c:Kept)(d:lS)(e:Int):OA:=
 (oN (zee c)<|oN (zqZ d e)<|iter (σ:=(Int×Int×LI×lB×lS×lB×lS×Unit)) N (λg a=>let f:=ix a.2.2.1 a.2.1 0;let b:=(⟨a.2.2.2.2.2.1,a.2.2.2.2.2.2.1⟩:Kept); (cond (ilt a.2.1 a.1) (oN (inb a.2.1<|ln a.2.2.1)<|oN (zc6 b f)<|g (a.1,zQ .i64 a.2.1 1,a.2.2.1,a.2.2.2.1,a.2.2.2.2.1,(zeJ b f).Known,(zeJ b f).Slots,()))<|some [aT .kept b])) (ln<|zhB d e,0,zhB d e,[],[],(zdl c).Known,(zdl c).Slots,()))
def zJJ:=zo [(209,0,{n:=25,tm:=[(6,.lp 0 0),(7,.lp 1 0),(14,.sl 0 []),(15,ti),(16,ti)],lo:=[(0,[.sl 1 [],.sl 2 []]),(1,[.sl 3 [],.sl 4 []])],ro:=[(0,.int,true),(1,.bool,true),(2,.slot,true),(3,.bool,true),(4,.slot,true)]})]
def zI5 (c:Kept)(a:List Slot)(b:Int)(j:zgt c a b=true):∃N,zyj N c a b=some [aT .kept<|zk7 c a b]:=by
 obtain⟨h,f⟩:=zM.1 j;have g:(zhB a b).length<=big:=qU (zvD _ a 0) (zda f).1;refine zcy λN e=>?_;unfold zyj oN;conv=>zeta
 refine must (zbs h) (must (zbs (by omega)) ?_);refine(zbq (zhB a b) (λi (t:lB×lS)=>(ln<|zhB a b,(i:Int),zhB a b,[],[],t.1,t.2,())) _ (λ_ (x:Int) (t:List Bool×List Slot) k=>bif pc (SmK ⟨t.1,t.2⟩) then k ((zce ⟨t.1,t.2⟩ x).Known,(zce ⟨t.1,t.2⟩ x).Slots) else none) (λ(t:lB×lS)=>some [.agg<|Ty.cells .kept (⟨t.1,t.2⟩:Kept)]) (λi d t rec=>?_) (λt rec=>?_) _ ((zdl c).Known,(zdl c).Slots)<|e g).trans ?_;{simp only [zbL d,zbn d,zbv d,zbi d g,cT]};{simp only [zbD,cF]};exact zz6 _ _ 0 c h
def zDm:vO 209 zlL:=kF3 zvk zn zA zq zJJ zI5
def flushed (l:List Entry)(p:Int):List Entry:=l.filter λe=>!ieq e.Host p
def zG1 (l:List Entry)(p:Int):(flushed l p).length<=l.length:=uB _ _
def znK {b e:Type}(p:b->Bool)(K:List b->Option e):∀(l:List b) (i:Nat) (a:List b),a.length+l.length<=2147483648->
 goL (λ_ x a d=>bif p x then (cond (few<|ln<|ap a [x]) (d<|ap a [x]) none) else d a) K l i a=K (a++l.filter p)
 |[],i,a,_=>by simp[goL]
 |x::l,i,a,h=>by simp only[jB]at h;simp only[goL];cases c:p x;{rw [cF,znK p K l (i+1) a (by omega),List.filter_cons_of_neg (by simp[c])]};{rw [cT,ziA (by simp[ap];omega),cT,znK p K l (i+1) _ (by simp[ap];omega),List.filter_cons_of_pos c];simp[ap]}
@[simp] abbrev zdH (l:List Entry)(p:Int):Bool:=pc (l.length<=1048576)
@[simp] abbrev zf5 (l:List Entry)(p:Int):List Entry:=flushed l p
def zmE:Run:=rF2 (dS .entry) dI λb c=>(zdH b c,[aS .entry<|zf5 b c])
def zBa (N:Nat)(e:lE)(f:Int):OA:=
 (iter (σ:=(Int×Int×lE×lE×Unit)) N (λd a=>let b:=a.2.2.1;let c:=ix b a.2.1 zhb; (cond (ilt a.2.1<|ln b) (oN (inb a.2.1<|ln b)<|cond (ine c.Host a.1) (oN (inb a.2.1<|ln b)<|oN (few<|ln<|ap a.2.2.2.1 [c])<|d (a.1,zQ .i64 a.2.1 1,b,ap a.2.2.2.1 [c],()))<|d (a.1,zQ .i64 a.2.1 1,b,a.2.2.2.1,()))<|some [aS .entry a.2.2.2.1])) (f,0,e,[],()))
def zNz:=zo [(392,0,{n:=29,tm:=[(0,.sl 0 []),(1,ti),(5,.sl 1 []),(6,ti)],lo:=[],ro:=[(0,.entry,false),(1,.entry,true)]})]
def zMA (a:List Entry)(b:Int)(h:zdH a b=true):∃N,zBa N a b=some [aS .entry<|zf5 a b]:=by
 have j:=zM.1 h;have f:=zda j;refine zcy λN d=>?_;unfold zBa oN;conv=>zeta
 refine(zbq a (λi (t:lE)=>(b,(i:Int),a,t,())) _ (λ_ (x:Entry) (t:List Entry) g=>bif !ieq x.Host b then (cond (few<|ln<|ap t [x]) (g<|ap t [x]) none) else g t) (λ(t:lE)=>some [.one<|.s .entry t]) (λi c t rec=>?_) (λt rec=>?_) _ ([])<|d f.1).trans ?_;{simp only [zbL c,zbn c,zbv c,zbi c f.1,cT];rfl};{simp only [zbD,cF]};exact znK (λe=>!ieq e.Host b) _ a 0 [] (by simpa using f.2)
def zFo:vO 392 zmE:=kF2 zvk zn zA zq zNz zMA
def zAY (N:Nat)(d:lE)(f:Int):OA:=
 (iter (σ:=(Int×Int×Int×lE×lE×Unit)) N (λe a=>let b:=a.2.2.2.2.1;let c:=ix b a.2.1 zhb; (cond (ilt a.2.1 a.1) (oN (inb a.2.1<|ln b)<|cond (nB<|ieq c.Host a.2.2.1) (oN (few<|ln<|ap a.2.2.2.1 [c])<|e (a.1,zQ .i64 a.2.1 1,a.2.2.1,ap a.2.2.2.1 [c],b,()))<|e (a.1,zQ .i64 a.2.1 1,a.2.2.1,a.2.2.2.1,b,()))<|some [aS .entry a.2.2.2.1])) (ln d,0,f,[],d,()))
def zNv:=zo [(237,0,{n:=25,tm:=[(1,.fn 300 [0]),(5,.sl 0 []),(9,.sl 1 []),(10,ti),(11,ti)],lo:=[(0,[ti])],ro:=[(0,.entry,true),(1,.entry,false)]})]
def zMp (a:List Entry)(b:Int)(h:zdH a b=true):∃N,zAY N a b=some [aS .entry<|zf5 a b]:=by
 have j:=zM.1 h;have f:=zda j;refine zcy λN d=>?_;unfold zAY oN nB;conv=>zeta
 refine(zbq a (λi (t:lE)=>(ln a,(i:Int),b,t,a,())) _ (λ_ (x:Entry) (t:List Entry) g=>bif !ieq x.Host b then (cond (few<|ln<|ap t [x]) (g<|ap t [x]) none) else g t) (λ(t:lE)=>some [.one<|.s .entry t]) (λi c t rec=>?_) (λt rec=>?_) _ ([])<|d f.1).trans ?_;{simp only [zbL c,zbn c,zbv c,zbi c f.1,cT];cases ieq a[i].Host b<;>rfl};{simp only [zbD,cF]};exact znK (λe=>!ieq e.Host b) _ a 0 [] (by simpa using f.2)
def zFd:vO 210 zmE:=kF2 zvk zn zA zq zNv zMp
def z0w:zbf:=[(391,zlL),(209,zlL),(392,zmE),(210,zmE)]++z8y
def zzW:zU z0w:=zi zDt (zi zDm<|zi zFo<|zi zFd zvk)
def zjJ (b:List Guest)(p:Int):Nat->List Kept->List Kept
 | 0,a=>a
 |n+1,a=>up (zjJ b p n a) (n:Int) (zgd (ix (zjJ b p n a) (n:Int) zeL) (ix b (n:Int) zx).Live p)
def zpF (b:List Guest)(p:Int):∀(n:Nat) (a:List Kept),(zjJ b p n a).length=a.length
 | 0,_=>rfl
 |n+1,a=>by simp only[zjJ,zgA];exact zpF b p n a
def ztv (b:List Guest)(p:Int):∀(n:Nat) (a:List Kept),n<=a.length->zCU a->zCU (zjJ b p n a)
 | 0,_,_,h=>h
 |n+1,a,e,h=>by have d:=ztv b p n a (by omega) h;have c:n<(zjJ b p n a).length:=(by rw[zpF];omega);exact zu4 d (z7p _ _ (by rw[zbv c];exact d.2 _ (jI c)))
def zjD (x:Mon)(p:Int)(n:Nat):Mon:={x with Tables:=zjJ x.Guests p n x.Tables}
def z4X {x:Mon}{p:Int}{n:Nat}(a:n<=x.Tables.length)(h:zfz x):zfz (zjD x p n):=⟨h.1,h.2.1,h.2.2.1,h.2.2.2.1,h.2.2.2.2.1,ztv _ _ _ _ a h.2.2.2.2.2⟩
def zcx (h:Host)(m p:Int)(s:Slot):Host :=
 bif ine (ix (ix h.Mons m zh).Outer p zV).Page (-1)
 then ⟨h.Memory,up h.Mons m {zjD (ix h.Mons m zh) p (ix h.Mons m zh).Tables.length with Outer:=up (ix h.Mons m zh).Outer p s},flushed h.Buffer (ix (ix h.Mons m zh).Outer p zV).Page,flushed h.IoBuffer (ix (ix h.Mons m zh).Outer p zV).Page⟩
 else ⟨h.Memory,up h.Mons m {zjD (ix h.Mons m zh) p (ix h.Mons m zh).Tables.length with Outer:=up (ix h.Mons m zh).Outer p s},h.Buffer,h.IoBuffer⟩
def zbba (h:Host)(m p:Int):Prop:=hasB m (ln h.Mons)=true/\hasB p (ln (ix h.Mons m zh).Outer)=true/\(ix h.Mons m zh).Tables.length<=(ix h.Mons m zh).Guests.length
@[simp] abbrev zgO (h:Host)(m p:Int)(s:Slot):Bool:=pc (zc8 h/\zbba h m p)
@[simp] abbrev zi0 (h:Host)(m p:Int)(s:Slot):Host:=zcx h m p s
def ztX:LW
 |[.agg [.s (.sl .int) b,.s .mon c,.s .entry d,.s .entry e],.one<|.i .i64 f,.one<|.i .i64 g,.agg [.i .i64 h,.i .i64 j]]=>some (zgO (⟨b,c,d,e⟩:Host) f g (⟨h,j⟩:Slot),[aH<|zi0 (⟨b,c,d,e⟩:Host) f g (⟨h,j⟩:Slot)])
 |_=>none
def zxJ (N:Nat)(p:Host)(g z:Int)(B:Slot):OA:=
 let v:=ix p.Mons g zh; (oN (inb g<|ln p.Mons)<|oN (inb z<|ln v.Outer)<|iter (σ:=(Int×Int×Int×Int×Int×Int×Int×Int×Int×Int×Int×Int×Int×Int×Int×lM×lN×lE×lE×lM×lN×lE×lE×Unit)) N (λD a=>let d:=a.2.2.1;let m:=a.2.2.2.2.2.2.2.2.2.2.2.1;let l:=a.2.2.2.2.2.2.2.2.2.2.2.2.1;let k:=a.2.2.2.2.2.2.2.2.2.2.2.2.2.2.1;let j:=a.2.2.2.2.2.2.2.2.2.2.2.2.2.2.2.1;let f:=a.2.2.2.2.2.2.2.1;let e:=a.2.2.2.2.2.2.2.2.1;let c:=a.2.2.2.1;let w:=a.2.2.2.2.2.2.2.2.2.2.1;let y:=a.2.2.2.2.2.2.2.2.2.2.2.2.2.2.2.2.2.1;let x:=a.2.2.2.2.2.2.2.2.2.2.2.2.2.2.2.2.2.2.1;let n:=a.2.2.2.2.2.2.1;let r:=a.2.2.2.2.2.2.2.2.2.1;let i:=a.2.2.2.2.2.2.2.2.2.2.2.2.2.1;let q:=a.2.2.2.2.2.2.2.2.2.2.2.2.2.2.2.2.1;let u:=(ix q r zh).Guests;let t:=(ix u c zx).Live;let h:=ix q n zh;let s:=(ix q i zh).Tables;let C:=up q n ({h with Outer:=(up h.Outer a.2.1 (⟨a.2.2.2.2.1,a.2.2.2.2.2.1⟩:Slot))}:Mon); (cond (ilt c<|ln s) (oN (inb c<|ln s)<|oN (inb c<|ln u)<|oN (zgt (ix s c zeL) t a.2.1)<|oN (inb c<|ln s)<|share (up q i ({ (ix q i zh) with Tables:=(up s c<|zk7 (ix s c zeL) t a.2.1)}:Mon)) λb=>D (a.1,a.2.1,d,zQ .i64 c 1,a.2.2.2.2.1,a.2.2.2.2.2.1,n,f,e,r,w,m,l,i,k,j,b,y,x,a.2.2.2.2.2.2.2.2.2.2.2.2.2.2.2.2.2.2.2.1,a.2.2.2.2.2.2.2.2.2.2.2.2.2.2.2.2.2.2.2.2.1,a.2.2.2.2.2.2.2.2.2.2.2.2.2.2.2.2.2.2.2.2.2.1,a.2.2.2.2.2.2.2.2.2.2.2.2.2.2.2.2.2.2.2.2.2.2.1,()))<|cond (ine d<|-1) (oN (zdH y d)<|oN (zdH x d)<|oN (inb a.2.1<|ln h.Outer)<|share C λb=>oN (inb a.1<|ln b)<|oN (cond (cond (cond (cond (cond (cond (ieq i a.1) true false) (cond (ieq w a.1) true false) false) (cond (ieq r a.1) true false) false) (cond (ieq e a.1) true false) false) (cond (ieq f a.1) true false) false) (cond (ieq n a.1) true false) false)<|share (up b a.1 ({ (ix b n zh) with Out:=(ix b f zh).Out,Dirty:=(ix b e zh).Dirty,Guests:=(ix b r zh).Guests,Outs:=(ix b w zh).Outs,Pending:=m,Traps:=l,Tables:=(ix b i zh).Tables,Own:=k}:Mon)) λA=>some [aH (⟨j,A,zf5 y d,zf5 x d⟩:Host)])<|oN (inb a.2.1<|ln h.Outer)<|share C λb=>oN (inb a.1<|ln b)<|oN (cond (cond (cond (cond (cond (cond (ieq i a.1) true false) (cond (ieq w a.1) true false) false) (cond (ieq r a.1) true false) false) (cond (ieq e a.1) true false) false) (cond (ieq f a.1) true false) false) (cond (ieq n a.1) true false) false)<|share (up b a.1 ({ (ix b n zh) with Out:=(ix b f zh).Out,Dirty:=(ix b e zh).Dirty,Guests:=(ix b r zh).Guests,Outs:=(ix b w zh).Outs,Pending:=m,Traps:=l,Tables:=(ix b i zh).Tables,Own:=k}:Mon)) λA=>some [aH (⟨j,A,y,x⟩:Host)])) (g,z,(ix v.Outer z zV).Page,0,B.Page,B.Rights,g,g,g,g,g,v.Pending,v.Traps,g,v.Own,p.Memory,p.Mons,p.Buffer,p.IoBuffer,[],[],[],[],()))
def zTE:=zo [(362,0,{n:=70,tm:=[(1,ti),(2,ti),(4,.lp 0 0),(7,.lp 1 0),(8,.lp 2 0),(9,.lp 3 0),(10,ti),(11,ti)],lo:=[(0,[.sl 0 [],.sl 1 [],.sl 2 [],.sl 3 []]),(1,[ti,ti]),(2,[.sl 4 [],.sl 5 [],.sl 6 [],.sl 7 []]),(3,[.sl 1 [0],.sl 1 [1],.sl 1 [2],.sl 1 [3],.sl 1 [4],ti,ti,.sl 1 [7],ti])],ro:=[(0,.sl .int,true),(1,.mon,true),(2,.entry,true),(3,.entry,true),(4,.sl .int,true),(5,.mon,true),(6,.entry,true),(7,.entry,true)]})]
def zV4 (N:Nat)(a:Host)(b c:Int)(d:Slot):zEK (cQ z0w zql zJq zW5) zTE N 12 362 [true,true,true,true,false,false,false,false] 1 1 [[0],[1],[2],[4],[7]] .mon [aH a,aI b,aI c,aT .slot d]=zxJ N a b c d:=by kernel_rfl
def zTe (a:Host)(f b:Int)(d:Slot)(D:zbX big [aH a,aI f,aI b,aT .slot d])(y:zgO a f b d=true):∃N,zxJ N a f b d=some [aH<|zi0 a f b d]:=by
 obtain⟨B,g,s,C⟩:=zM.1 y;have l:=(zS a).1 B;have r:zfz (ix a.Mons f zh):=l.2.1.2 _ (zbO g _);obtain⟨k,rfl,q⟩:=zeH (n:=a.Mons.length) g;have x:=(zda r.2.2.2.2.2.1).1;refine zcy λN p=>?_;unfold zxJ oN;conv=>zeta
 refine must g (must s ?_);refine zrR (ix a.Mons (k:Int) zh).Tables.length (λi (t:List Mon)=>((k:Int),b,(ix (ix a.Mons (k:Int) zh).Outer b zV).Page,(i:Int),d.Page,d.Rights,(k:Int),(k:Int),(k:Int),(k:Int),(k:Int),(ix a.Mons (k:Int) zh).Pending,(ix a.Mons (k:Int) zh).Traps,(k:Int),(ix a.Mons (k:Int) zh).Own,a.Memory,t,a.Buffer,a.IoBuffer,[],[],[],[],())) _
  (λi t=>t=up a.Mons (k:Int) (zjD (ix a.Mons (k:Int) zh) b i)) (λ_ _=>some [AV.agg<|zbd<|zcx a (k:Int) b d]) (λi t rec u m A=>?_) (λt rec m=>?_) _ 0 a.Mons ?_ (jX _) ?_
 .subst m;have c:i<(zjJ (ix a.Mons (k:Int) zh).Guests b i (ix a.Mons (k:Int) zh).Tables).length:=(by rw[zpF];exact u);have e:i<(ix a.Mons (k:Int) zh).Guests.length:=by omega
  have z:zgt (ix (zjJ (ix a.Mons (k:Int) zh).Guests b i (ix a.Mons (k:Int) zh).Tables) (i:Int) zeL) (ix (ix a.Mons (k:Int) zh).Guests (i:Int) zx).Live b=true :=
   zbs ⟨by rw[zbv c];exact(ztv _ _ _ _ (by omega) r.2.2.2.2.2).2 _ (jI c),by rw[zbv e];exact(r.2.2.2.1.2 _<|jI e).2.2.1⟩
  simp only[zd6 q,zrq,zjD,zbL c,zbn c,zbn e,z,cT,share,zbi u x];exact A _ rfl
 {subst m;simp only[zd6 q,zrq,zgA,zjD,ln,zpF,zAh,show ilt (((ix a.Mons (k:Int) zh).Tables.length:Nat):Int) (((ix a.Mons (k:Int) zh).Tables.length:Nat):Int)=false from qH (by omega),cT,cF,share];have h:inb (k:Int) ((a.Mons.length:Nat):Int)=true:=g;have j:inb b (((ix a.Mons (k:Int) zh).Outer.length:Nat):Int)=true:=s;have v:zdH a.Buffer (ix (ix a.Mons (k:Int) zh).Outer b zV).Page=true:=zbs l.2.2.1;have w:zdH a.IoBuffer (ix (ix a.Mons (k:Int) zh).Outer b zV).Page=true:=zbs l.2.2.2;simp only[h,j,v,w,cT];unfold zcx;cases ine (ix (ix a.Mons (k:Int) zh).Outer b zV).Page (-1)<;>rfl};{exact(zE8 q _).symm};{exact p (by omega)}
def zMa:zfj Tryz.prog 362 [true,true,true,true,false,false,false,false] (some (1,1,[[0],[1],[2],[4],[7]])) ztX:=by refine znM (kt:=.mon) (zil zzW zn zA zq) (zkJ (by kernel_rfl)) (by kernel_rfl) ?_;intro a g f e h;have c:=zkP e;unfold ztX at h;split at h;{obtain⟨d,rfl⟩:=ze9 h;obtain⟨N,b⟩:=zTe _ _ _ _ (by exact c) d;exact⟨⟨_,rfl⟩,rfl,_,N,12,(zV4 N _ _ _ _ ).trans b⟩};{cases h}
def zW6:zgF:=[(362,[true,true,true,true,false,false,false,false],some (1,1,[[0],[1],[2],[4],[7]]),ztX)]++zW5
def zdW:zfc zW6:=zr9 zq (by
 intro x a;simp only[qG,qN,or_false]at a;rcases a with rfl
 .exact zMa)
def zoX (x:Mon)(p:Int):Mon:={x with Dirty:=up x.Dirty p false}
def grd (x:Mon)(p:Int):Mon:={x with Outer:=up x.Outer p ⟨(ix x.Outer p zV).Page,1⟩}
def zgz (h:Host)(m p:Int):Host:={h with Mons:=up h.Mons m (zoX (ix h.Mons m zh) p)}
def zeW (h:Host)(m p:Int):Host:=bif zb3 h m p then (cond (zdv (ix (ix h.Mons m zh).Outer p zV) noSlot) (zgz h m p)<|zcx (zgz h m p) m p ⟨(ix (ix h.Mons m zh).Outer p zV).Page,1⟩) else h
def zAb:∀(l:List Mon) (u:List Bool),zkT l u=true->∀x∈l,zfI x=true
 |[],_,_,x,a=>by cases a
 |m::l,u,h,x,a=>by
  simp only[zkT]at h;cases b:zfI m;{rw [b]at h;cases h}
  .rw [b]at h;simp only[cT]at h;cases c:ziE m.Outer u with
   |none=>rw[c]at h;cases h
   |some d =>rw[c]at h;rcases qG.1 a with rfl|a;{exact b};{exact zAb l d h x a}
structure PageAt (h:Host) (m p:Int):Prop where
 hm:hasB m (ln h.Mons)=true
 hp:hasB p 8=true
 ok:zfI (ix h.Mons m zh)=true
 ho:(ix h.Mons m zh).Outer.length=8
 hd:(ix h.Mons m zh).Dirty.length=8
 ht:(ix h.Mons m zh).Tables.length=(ix h.Mons m zh).Guests.length
 hs:zdv (ix (ix h.Mons m zh).Outer p zV) noSlot=ieq (ix (ix h.Mons m zh).Outer p zV).Page (-1)
def zRO {s:Slot}{n:Int}(h:zeO s n=true):zdv s noSlot=ieq s.Page (-1):=by unfold zeO at h;cases a:zdv s noSlot;{rw [a]at h;cases d:ieq s.Page (-1);{rfl};{have e:s.Page = -1:=qD d;cases b:igt n 0;{rw [b]at h;cases h};{cases c:zl s.Page 0 (wsub .i64 n 1);{rw [b,c]at h;cases h};{have:=(zfW.1 c).1;omega}}}};{unfold zdv at a;rw[qE]at a;exact a.1.symm}
def zAv {h:Host}{m p:Int}(d:zb3 h m p=true):PageAt h m p:=by unfold zb3 at d;simp only[zdZ]at d;obtain⟨c,f,g⟩:=d;unfold zbQ at c;simp only[zdZ]at c;have b:=zAb _ _ c.2.2.2.2 _ (zbO f zh);have a:=b;unfold zfI at a;simp only[zdZ]at a;have i:(ix h.Mons m zh).Outer.length=8:=(by have:=ztx a.2.2.1;simp only[ln] at this;omega);refine⟨f,g,b,i,?_,?_,?_⟩;{have:ln (ix h.Mons m zh).Dirty=8:=qD a.2.2.2.2.1;simp only[ln] at this;omega};{have:ln (ix h.Mons m zh).Tables=ln (ix h.Mons m zh).Guests:=qD a.2.1;simp only[ln] at this;omega};{have e:=a.2.2.1;unfold zdN at e;simp only[zdZ]at e;have j:hasB p (ln (ix h.Mons m zh).Outer)=true:=(by rw[ln,i];exact g);exact zRO (qM.1 e.1 _<|zbO j _)}
def zWX {x:Mon}{p:Int}(h:zfz x):zfz (zoX x p):=⟨h.1,h.2.1,by simpa [zoX] using h.2.2.1,h.2.2.2⟩
def zAN {h:Host}{m p:Int}(b:hasB m (ln h.Mons)=true)(a:SmH h):SmH (zgz h m p):=⟨a.1,zkf a.2.1<|zWX<|a.2.1.2 _<|zbO b _,a.2.2⟩
def zHx {h:Host}{m p:Int}{s:Slot}(d:hasB m (ln h.Mons)=true)(a:SmH h):SmH (zcx h m p s):=by have c:=a.2.1.2 _ (zbO d zh);have e:=z4X (p:=p) (qV _) c;have b:zp6 (up h.Mons m {zjD (ix h.Mons m zh) p (ix h.Mons m zh).Tables.length with Outer:=up (ix h.Mons m zh).Outer p s}):=zkf a.2.1 ⟨by simpa using c.1,e.2⟩;unfold zcx;cases ine (ix (ix h.Mons m zh).Outer p zV).Page (-1);{exact⟨a.1,b,a.2.2⟩};{exact⟨a.1,b,qU (zG1 _ _) a.2.2.1,qU (zG1 _ _) a.2.2.2⟩}
def zAQ {h:Host}{m p:Int}(a:hasB m (ln h.Mons)=true):hasB m (ln (zgz h m p).Mons)=true:=by unfold zgz;simpa [ln] using a
def zEn {h:Host}{m p:Int}(a:SmH h):SmH (zeW h m p):=by unfold zeW;cases b:zb3 h m p;{exact a};{have P:=zAv b;cases zdv (ix (ix h.Mons m zh).Outer p zV) noSlot;{exact zHx (zAQ P.hm) (zAN P.hm a)};{exact zAN P.hm a}}
@[simp] abbrev ze8 (h:Host)(m p:Int):Bool:=pc (zc8 h)
@[simp] abbrev zj9 (h:Host)(m p:Int):Host:=zeW h m p
def zsw:Run:=rF3 dH dI dI λb c d=>(ze8 b c d,[aH<|zj9 b c d,aB<|zdV b c d])
def zQH (N:Nat)(h:Host)(a b:Int):OA:=
 let c:=zk h;let g:=ix c.Mons a zh; (oN (zT h)<|oN (ziZ c a b)<|cond (nB<|zdV c a b) (some [aH c,aB false])<|oN (inb a<|ln c.Mons)<|oN (inb b<|ln g.Dirty)<|share (up c.Mons a ({g with Dirty:=(up g.Dirty b false)}:Mon)) (λd=>let i:=(ix d a zh).Outer;let f:=({c with Mons:=d}:Host);let e:=ix i b zV;let j:=({e with Rights:=1}:Slot); (oN (inb a<|ln d)<|oN (inb b<|ln i)<|oN zbS<|cond (cond (ieq e.Page zbl.Page) (ieq e.Rights zbl.Rights) false) (some [aH f,aB true])<|oN (zgO f a b j)<|some [aH<|zi0 f a b j,aB true])))
def zYg (a:Host)(c b:Int)(j:ze8 a c b=true):∃N,zQH N a c b=some [aH<|zj9 a c b,aB<|zdV a c b]:=by
 have g:=zM.1 j;have i:=(zS a).1 g;refine⟨0,?_⟩;unfold zQH zj9 zdV zeW oN nB;conv=>zeta
 refine must (zbs g) (must rfl ?_);cases f:zb3 a c b;{simp only [zdV,zk,f,cF,cT]};{have P:=zAv f;obtain⟨k,rfl,d⟩:=zeH (n:=a.Mons.length) P.hm;simp only[zdV,zk,f,cT,cF];have l:inb b (ln (ix a.Mons (k:Int) zh).Dirty)=true:=(by rw[ln,P.hd];exact P.hp);have h:inb b (ln (ix a.Mons (k:Int) zh).Outer)=true:=(by rw[ln,P.ho];exact P.hp);refine must P.hm (must l ?_);simp only[share,zd6 d,h,cT,zbS,zbl];refine must (zAQ (p:=b) P.hm) ?_;have e:∀s:Slot,zdv s noSlot=bif ieq s.Page noSlot.Page then ieq s.Rights noSlot.Rights else false:=λs=>(by unfold zdv;cases ieq s.Page noSlot.Page<;>rfl);rw[<- e];cases zdv (ix (ix a.Mons (k:Int) zh).Outer b zV) noSlot;{refine zcj rfl (must (zbs ⟨(zS _).2 (zAN P.hm i),zAQ (p:=b) P.hm,?_,?_⟩) rfl);{simp only [zd6 d];exact h};{simp only [zd6 d];exact k6 P.ht}};{rfl}}
def zSd:vO 328 zsw:=kF3 zzW zn zA zdW (zo []) zYg
def zQw (N:Nat)(f:Host)(a c:Int):OA:=
 let d:=zk f;let g:=ix d.Mons a zh;let j:=ix g.Outer c zV; (oN (zT f)<|oN (ziZ f a c)<|cond (nB<|zdV f a c) (some [aH d,aB false])<|oN (inb a<|ln d.Mons)<|oN (inb c<|ln g.Outer)<|cond (ine j.Page<|-1) (oN (inb c<|ln g.Outer)<|share (up d.Mons a ({g with Outer:=(up g.Outer c ({j with Rights:=1}:Slot))}:Mon)) λk=>oN (inb a<|ln k)<|oN (cond (cond (cond (ieq a a) true false) (cond (cond (ieq a a) true false) (cond (cond (ieq a a) true false) (cond (cond (ieq a a) true false) (cond (cond (ieq a a) true false) (cond (ieq a a) (cond (cond (ieq c c) (ieq a a) false) (cond (cond (ieq a a) true false) (cond (cond (ieq a a) true false) (cond (cond (ieq a a) true false) (cond (ieq a a) (cond (cond (ieq c c) (ieq a a) false) (cond (cond (ieq c c) (ieq a a) false) true false) false) false) false) false) false) false) false) false) false) false) false) false) true false)<|iter (σ:=(Int×Int×Int×Int×Int×Int×Int×Int×lN×lM×lN×lE×lE×lM×lE×lE×lM×lN×lE×lE×Unit)) N (λv b=>let e:=b.2.2.2.2.1;let s:=b.2.2.2.2.2.2.2.2.1;let t:=b.2.2.2.2.2.2.2.2.2.2.2.2.2.1;let h:=b.2.2.2.1;let r:=b.2.2.2.2.2.2.2.2.2.2.2.2.2.2.1;let q:=b.2.2.2.2.2.2.2.2.2.2.2.2.2.2.2.1;let p:=ix s a zh;let u:=up s a ({p with Dirty:=(up p.Dirty c false)}:Mon);let i:=ix s b.2.1 zh;let n:=ix i.Tables h zeL;let m:=(ix i.Guests h zx).Live; (cond (ilt h b.2.2.1) (oN (inb h<|ln i.Tables)<|oN (inb h<|ln i.Guests)<|oN (zgt n m b.1)<|oN (inb h<|ln i.Tables)<|share (up s b.2.1 ({i with Tables:=(up i.Tables h<|zk7 n m b.1)}:Mon)) λl=>oN (cond (cond (cond (ieq a a) true false) (cond (cond (ieq a a) true false) (cond (cond (ieq a a) true false) (cond (cond (ieq a a) true false) (cond (cond (ieq a a) true false) (cond (ieq a a) (cond (cond (ieq c c) (ieq a a) false) (cond (cond (ieq a a) true false) (cond (cond (ieq a a) true false) (cond (cond (ieq a a) true false) (cond (ieq a a) (cond (cond (ieq c c) (ieq a a) false) (cond (cond (ieq c c) (ieq a a) false) true false) false) false) false) false) false) false) false) false) false) false) false) false) true false)<|v (b.1,b.2.1,b.2.2.1,zQ .i64 h 1,e,b.2.2.2.2.2.1,b.2.2.2.2.2.2.1,b.2.2.2.2.2.2.2.1,l,b.2.2.2.2.2.2.2.2.2.1,b.2.2.2.2.2.2.2.2.2.2.1,b.2.2.2.2.2.2.2.2.2.2.2.1,b.2.2.2.2.2.2.2.2.2.2.2.2.1,t,r,q,b.2.2.2.2.2.2.2.2.2.2.2.2.2.2.2.2.1,b.2.2.2.2.2.2.2.2.2.2.2.2.2.2.2.2.2.1,b.2.2.2.2.2.2.2.2.2.2.2.2.2.2.2.2.2.2.1,b.2.2.2.2.2.2.2.2.2.2.2.2.2.2.2.2.2.2.2.1,()))<|cond (ine e<|-1) (oN (zdH r e)<|oN (zdH q e)<|oN (inb c<|ln p.Dirty)<|share u λl=>some [aH (⟨t,l,zf5 r e,zf5 q e⟩:Host),aB true])<|oN (inb c<|ln p.Dirty)<|share u λl=>some [aH (⟨t,l,r,q⟩:Host),aB true])) (c,a,ln (ix k a zh).Guests,0,j.Page,j.Rights,j.Page,j.Rights,k,f.Memory,f.Mons,f.Buffer,f.IoBuffer,d.Memory,d.Buffer,d.IoBuffer,[],[],[],[],()))<|oN (inb c<|ln g.Dirty)<|share (up d.Mons a ({g with Dirty:=(up g.Dirty c false)}:Mon)) λk=>some [aH ({d with Mons:=k}:Host),aB true])
def zY0:=zo [(129,0,{n:=71,tm:=[(0,.lp 0 0),(2,ti),(7,.lp 1 0),(8,.ep 0 [] 0),(20,ti),(21,ti)],lo:=[(0,[.sl 5 [],.sl 0 [],.sl 6 [],.sl 7 []]),(1,[ti,ti]),(2,[.sl 1 [],.sl 2 [],.sl 3 [],.sl 4 []]),(3,[.sl 8 [],.sl 9 [],.sl 10 [],.sl 11 []]),(4,[ti,ti])],ro:=[(0,.mon,true),(1,.sl .int,false),(2,.mon,false),(3,.entry,false),(4,.entry,false),(5,.sl .int,true),(6,.entry,true),(7,.entry,true),(8,.sl .int,true),(9,.mon,true),(10,.entry,true),(11,.entry,true)],sk:=[(0,0,0,.sl 1 []),(0,0,1,.sl 2 []),(0,0,2,.sl 3 []),(0,0,3,.sl 4 []),(0,3,0,.lp 2 0),(0,6,0,.lp 3 0),(0,10,0,.lp 4 0),(0,12,0,.sl 5 []),(0,12,2,.sl 6 []),(0,12,3,.sl 7 [])]})]
def zX6 (a:Host)(d c:Int)(z:ze8 a d c=true):∃N,zQw N a d c=some [aH<|zj9 a d c,aB<|zdV a d c]:=by
 have s:=zM.1 z;have l:=(zS a).1 s;refine zcy λN p=>?_;unfold zQw zj9 zdV zeW oN nB;conv=>zeta
 refine must (zbs s) (must rfl ?_);cases B:zb3 a d c;{rfl}
 .have P:=zAv B;have r:zfz (ix a.Mons d zh):=l.2.1.2 _ (zbO P.hm _);obtain⟨k,rfl,q⟩:=zeH (n:=a.Mons.length) P.hm;have u:inb c (ln (ix a.Mons (k:Int) zh).Dirty)=true:=(by rw[ln,P.hd];exact P.hp);have v:inb c (ln (ix a.Mons (k:Int) zh).Outer)=true:=(by rw[ln,P.ho];exact P.hp);have y:=(zda r.2.2.2.2.2.1).1;refine zcj rfl ?_;rw[P.hs];refine must P.hm (must v ?_);cases h:ieq (ix (ix a.Mons (k:Int) zh).Outer c zV).Page (-1)
  .have hpg2:ine (ix (ix a.Mons (k:Int) zh).Outer c zV).Page (-1)=true:=(by rw[zjP];exact congrArg not h);refine must hpg2 (must v ?_);simp only[share];refine must (by simp only[ln,zgA];exact P.hm) ?_
   simp only[zAh,cT,zk];refine zrR (ix a.Mons (k:Int) zh).Guests.length (λi (t:List Mon)=>(c,(k:Int),ln (ix (up a.Mons (k:Int)<|grd (ix a.Mons (k:Int) zh) c) (k:Int) zh).Guests,(i:Int),(ix (ix a.Mons (k:Int) zh).Outer c zV).Page,(ix (ix a.Mons (k:Int) zh).Outer c zV).Rights,(ix (ix a.Mons (k:Int) zh).Outer c zV).Page,(ix (ix a.Mons (k:Int) zh).Outer c zV).Rights,t,a.Memory,a.Mons,a.Buffer,a.IoBuffer,a.Memory,a.Buffer,a.IoBuffer,[],[],[],[],())) _
    (λi t=>t=up a.Mons (k:Int) (zjD (grd (ix a.Mons (k:Int) zh) c) c i)) (λ_ _=>some [AV.agg<|zbd<|zcx (zgz a (k:Int) c) (k:Int) c ⟨(ix (ix a.Mons (k:Int) zh).Outer c zV).Page,1⟩,AV.one<|.b true]) (λi t rec f m C=>?_) (λt rec m=>?_) _ 0 (up a.Mons (k:Int)<|grd (ix a.Mons (k:Int) zh) c) rfl (jX _) ?_
   .subst m;have g:i<(ix a.Mons (k:Int) zh).Tables.length:=(by rw[P.ht];exact f);have e:i<(zjJ (ix a.Mons (k:Int) zh).Guests c i (ix a.Mons (k:Int) zh).Tables).length:=by rw[zpF];exact g
    have A:zgt (ix (zjJ (ix a.Mons (k:Int) zh).Guests c i (ix a.Mons (k:Int) zh).Tables) (i:Int) zeL) (ix (ix a.Mons (k:Int) zh).Guests (i:Int) zx).Live c=true :=
     zbs ⟨by rw[zbv e];exact(ztv _ _ _ _ (by omega) r.2.2.2.2.2).2 _ (jI e),by rw[zbv f];exact(r.2.2.2.1.2 _<|jI f).2.2.1⟩
    simp only[zd6 q,zrq,zjD,grd,zbL f,zbn e,zbn f,A,cT,share,zbi g y];have j:=C _ rfl;simp only[zd6 q,zjD,grd]at j;exact j
   {subst m;have w:zdH a.Buffer (ix (ix a.Mons (k:Int) zh).Outer c zV).Page=true:=zbs l.2.2.1;have x:zdH a.IoBuffer (ix (ix a.Mons (k:Int) zh).Outer c zV).Page=true:=zbs l.2.2.2;unfold zcx zgz zoX;simp only[zd6 q,zrq,zjD,grd,zbD,hpg2,w,x,u,P.ht,share,cT,cF]};{exact p (by rw[<- P.ht];omega)}
  {refine zcj (by rw[zjP];exact congrArg not h) (must u ?_);rfl}
def zR0:vO 69 zsw:=kF3 zzW zn zA zdW zY0 zX6
def z3h:zbf:=[(328,zsw),(69,zsw)]++z0w
def zRb:zU z3h:=zi zSd (zi zR0 zzW)
def zho (m:Int):Nat->Nat->Host->Host
 | 0,_,h=>h
 |n+1,i,h=>zho m n (i+1) (zeW h m (i:Int))
def zRP (m:Int):∀(n i:Nat) (h:Host),SmH h->SmH (zho m n i h)
 | 0,_,_,h=>h
 |n+1,i,h,a=>zRP m n (i+1) _ (zEn a)
def cleaned (h:Host)(m:Int):Host:=bif zb1 h m then zho m 8 0 h else h
def zRm {c:Type}(m:Int)(K:List LI×List Mon×List Entry×List Entry->Option c):∀(n i:Nat) (h:Host),SmH h->
 goN (λi (t:List LI×List Mon×List Entry×List Entry) b=>bif pc (zc8 ⟨t.1,t.2.1,t.2.2.1,t.2.2.2⟩) then b ((zeW ⟨t.1,t.2.1,t.2.2.1,t.2.2.2⟩ m (i:Int)).Memory,(zeW ⟨t.1,t.2.1,t.2.2.1,t.2.2.2⟩ m (i:Int)).Mons,(zeW ⟨t.1,t.2.1,t.2.2.1,t.2.2.2⟩ m (i:Int)).Buffer,(zeW ⟨t.1,t.2.1,t.2.2.1,t.2.2.2⟩ m (i:Int)).IoBuffer) else none) K n i (h.Memory,h.Mons,h.Buffer,h.IoBuffer)
  = K ((zho m n i h).Memory,(zho m n i h).Mons,(zho m n i h).Buffer,(zho m n i h).IoBuffer)
 | 0,_,_,_=>rfl
 |n+1,i,h,a=>by have e:pc (zc8 ⟨h.Memory,h.Mons,h.Buffer,h.IoBuffer⟩)=true:=zbs ((zS h).2 a);simp only[goN,e,cT];exact zRm m K n (i+1) (zeW h m (i:Int)) (zEn a)
@[simp] abbrev zcd (h:Host)(m:Int):Bool:=pc (zc8 h)
@[simp] abbrev zqh (h:Host)(m:Int):Host:=cleaned h m
def zr1:Run:=rF2 dH dI λb c=>(zcd b c,[aH<|zqh b c,aB<|zfp b c])
def zCi (N:Nat)(b:Host)(e:Int):OA:=
 let c:=zk b; (oN (zT b)<|oN (zcm b)<|cond (nB<|zch b) (some [aH c,aB false])<|oN (zbg e<|ln b.Mons)<|cond (nB<|zcb e<|ln b.Mons) (some [aH c,aB false])<|iter (σ:=(Int×Int×lM×lN×lE×lE×lM×lN×lE×lE×Unit)) N (λg a=>let f:=(⟨a.2.2.2.2.2.2.1,a.2.2.2.2.2.2.2.1,a.2.2.2.2.2.2.2.2.1,a.2.2.2.2.2.2.2.2.2.1⟩:Host);let d:=zj9 f a.1 a.2.1; (cond (ilt a.2.1 8) (oN (ze8 f a.1 a.2.1)<|g (a.1,zQ .i64 a.2.1 1,a.2.2.1,a.2.2.2.1,a.2.2.2.2.1,a.2.2.2.2.2.1,d.Memory,d.Mons,d.Buffer,d.IoBuffer,()))<|some [aH f,aB true])) (e,0,[],[],[],[],c.Memory,c.Mons,c.Buffer,c.IoBuffer,()))
def zQd:=zo [(26,0,{n:=34,tm:=[(1,ti),(4,.lp 0 0),(6,.lp 1 0),(7,ti)],lo:=[(0,[.sl 0 [],.sl 1 [],.sl 2 [],.sl 3 []]),(1,[.sl 4 [],.sl 5 [],.sl 6 [],.sl 7 []])],ro:=[(0,.sl .int,true),(1,.mon,true),(2,.entry,true),(3,.entry,true),(4,.sl .int,true),(5,.mon,true),(6,.entry,true),(7,.entry,true)]})]
def zPh (a:Host)(c:Int)(f:zcd a c=true):∃N,zCi N a c=some [aH<|zqh a c,aB<|zfp a c]:=by
 have e:=zM.1 f;refine zcy λN d=>?_;unfold zCi zqh zfp cleaned zb1 oN nB;conv=>zeta
 refine must (zbs e) (must rfl ?_);rw[show zch a=zbQ a from rfl];cases h:zbQ a;{rfl};refine zcj rfl (must rfl ?_);rw[show zcb c (ln a.Mons)=hasB c (ln a.Mons) from rfl];cases h:hasB c (ln a.Mons);{rfl};refine zcj rfl ?_;refine(zvF 8 (λi (t:lM×lN×lE×lE)=>(c,(i:Int),[],[],[],[],t.1,t.2.1,t.2.2.1,t.2.2.2,())) _ (λi (t:List LI×List Mon×List Entry×List Entry) j=>bif pc (zc8 ⟨t.1,t.2.1,t.2.2.1,t.2.2.2⟩) then j ((zeW ⟨t.1,t.2.1,t.2.2.1,t.2.2.2⟩ c (i:Int)).Memory,(zeW ⟨t.1,t.2.1,t.2.2.1,t.2.2.2⟩ c (i:Int)).Mons,(zeW ⟨t.1,t.2.1,t.2.2.1,t.2.2.2⟩ c (i:Int)).Buffer,(zeW ⟨t.1,t.2.1,t.2.2.1,t.2.2.2⟩ c (i:Int)).IoBuffer) else none) (λ(t:lM×lN×lE×lE)=>some [.agg<|zbd (⟨t.1,t.2.1,t.2.2.1,t.2.2.2⟩:Host),.one<|.b true]) (λi g t rec=>?_) (λt rec=>?_) _ ((zk a).Memory,(zk a).Mons,(zk a).Buffer,(zk a).IoBuffer)<|d (by decide)).trans ?_;{simp only [show ilt (i:Int) 8=true from qJ (by omega),zbi g (show 8<=big by decide),cT]};{simp only [show ilt ((8:Nat):Int) 8=false from qH (by omega),cF]};refine(zRm c _ 8 0 a<|(zS a).1 e).trans ?_;generalize zho c 8 0 a=x;rfl
def zvv:vO 26 zr1:=kF2 zRb zn zA zdW zQd zPh
def z3i:zbf:=[(26,zr1)]++z3h
def zgl:zU z3i:=zi zvv zRb
end
end Go.Proofs.YtdlfljbgoopanaaGreat.E
