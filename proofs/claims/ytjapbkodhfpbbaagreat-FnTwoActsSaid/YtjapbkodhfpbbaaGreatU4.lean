/- What is proved here: a part of the proof that the statement of this claim holds (several texts of wip/, laid together). -/
import Derived.Test.YtjapbkodhfpbbaaGreatU3
namespace Go.Proofs.YtjapbkodhfpbbaaGreat.E
open Go
set_option linter.defProp false
set_option linter.constructorNameAsVariable false
set_option linter.unusedVariables false
set_option maxRecDepth 100000
set_option linter.unusedSimpArgs false
set_option linter.unusedSectionVars false
noncomputable section
def noSlot:Slot:=⟨-1,0⟩
def zbW:Bool:=true
abbrev zbl:Slot:=noSlot
def zm2:Run:=rF0 (zbW,[aT .slot zbl])
def z0T (N:Nat)  : OA :=
 (some [.agg [.i .i64<|-1,.i .i64 0]])
def zDX  (a:zbS big []) (b:zbW=true):∃N,z0T N  = some [aT .slot zbl]:=by exact⟨0,rfl⟩
def zyJ:vR 258 zm2:=hF0 zuV zbe zx zo (zq []) zDX
def zOG:vR 266 zm2:=hF0 zuV zbe zx zo (zq []) zDX
def zOX:vR 51 zsx:=hF3 zuV zbe zx zo (zq []) zHr
def z8M:zbb:=[(258,zm2),(266,zm2),(51,zsx)]++ctrY
def zH7:zU z8M:=zi zyJ (zi zOG<|zi zOX zuV)
def zeq (r:Int):Bool:=ige r 0&&ile r 3
def zk1 (_:Int):Bool:=true
abbrev zhL (r:Int):Bool:=zeq r
def znT:Run:=rF1 dI λb=>(zk1 b,[aB<|zhL b])
def zUD (N:Nat)(a:Int):OA:=
 (oN (zM a 0 3)<|some [aB<|zk a 0 3])
def zyU (a:Int)(b:zbS big [aI a])(c:zk1 a=true):∃N,zUD N a=some [aB<|zhL a]:=by exact⟨0,rfl⟩
def zI3:vR 362 znT:=hF1 zH7 zbe zx zo (zq []) zyU
def zIH:vR 367 znT:=hF1 zH7 zbe zx zo (zq []) zyU
def z8N:zbb:=[(362,znT),(367,znT)]++z8M
def zpg:zU z8N:=zi zI3 (zi zIH zH7)
def zfh (a b:Int):Int:=bif zeq a then (cond (zeq b) (wand .i64 a b) 0) else 0
abbrev zh4 (a b:Int):Int:=zfh a b
def zlD:Run:=rF2 dI dI λb c=>(zbm b c,[aI<|zh4 b c])
def zyt (N:Nat)(a b:Int):OA:=
 (oN (zk1 a)<|cond (nB<|zhL a) (some [aI 0])<|oN (zk1 b)<|cond (nB<|zhL b) (some [aI 0])<|some [aI<|wand .i64 a b])
def zvI (a b:Int)(c:zbS big [aI a,aI b])(d:zbm a b=true):∃N,zyt N a b=some [aI<|zh4 a b]:=by refine⟨0,?_⟩;unfold zyt zh4 zfh zhL oN nB;cases zeq a<;>cases zeq b<;>rfl
def zDE:vR 269 zlD:=hF2 zpg zbe zx zo (zq []) zvI
def zDx:vR 267 zlD:=hF2 zpg zbe zx zo (zq []) zvI
def enough (a b:Int):Bool:=bif zeq a then (cond (zeq b) (ieq (wand .i64 a b) b) false) else false
abbrev zdv (a b:Int):Bool:=enough a b
def zqo:Run:=rF2 dI dI λb c=>(zbm b c,[aB<|zdv b c])
def zKz (N:Nat)(b a:Int):OA:=
 (oN (zk1 b)<|cond (zhL b) (oN (zk1 a)<|cond (zhL a) (some [aB<|ieq (wand .i64 b a) a]) oF) oF)
def zDU (a b:Int)(c:zbS big [aI a,aI b])(d:zbm a b=true):∃N,zKz N a b=some [aB<|zdv a b]:=by refine⟨0,?_⟩;unfold zKz zdv enough zhL oN;cases zeq a<;>cases zeq b<;>rfl
def zO1:vR 259 zqo:=hF2 zpg zbe zx zo (zq []) zDU
def zOx:vR 268 zqo:=hF2 zpg zbe zx zo (zq []) zDU
def zbK (t:List Slot)(p:Int):Slot:=bif hasB p (ln t) then ix t p zV else noSlot
def zgi (_:List Slot)(_:Int):Bool:=true
abbrev zeX (t:List Slot)(p:Int):Slot:=zbK t p
def zqA:Run:=rF2 (dS .slot) dI λb c=>(zgi b c,[aT .slot<|zeX b c])
def zKO (N:Nat)(a:lS)(b:Int):OA:=
 (oN (zM b 0<|wsub .i64 (ln a) 1)<|cond (nB<|zk b 0<|wsub .i64 (ln a) 1) (oN zbW<|some [.agg [.i .i64 zbl.Page,.i .i64 zbl.Rights]])<|oN (inb b<|ln a)<|some [.agg [.i .i64 (ix a b zV).Page,.i .i64 (ix a b zV).Rights]])
def zWu (b:List Slot)(a:Int)(c:zbS big [aS .slot b,aI a])(g:zgi b a=true):∃N,zKO N b a=some [aT .slot<|zeX b a]:=by have f:=len0 c;refine⟨0,?_⟩;unfold zKO zeX zbK oN nB;have e:zk a 0 (wsub .i64 (ln b) 1)=hasB a (ln b):=zAj f a;rw[e];cases d:hasB a (ln b);{rfl};{rw [zC d];rfl}
def zPf:vR 130 zqA:=hF2 zpg zbe zx zo (zq []) zWu
def zKp (N:Nat)(a:lS)(b:Int):OA:=
 (oN (zbm b<|ln a)<|cond (nB<|zcj b<|ln a) (oN zbW<|some [.agg [.i .i64 zbl.Page,.i .i64 zbl.Rights]])<|oN (inb b<|ln a)<|some [.agg [.i .i64 (ix a b zV).Page,.i .i64 (ix a b zV).Rights]])
def zWa (a:List Slot)(b:Int)(d:zgi a b=true):∃N,zKp N a b=some [aT .slot<|zeX a b]:=by refine⟨0,?_⟩;unfold zKp zeX zbK zcj oN nB;cases c:hasB b (ln a);{rfl};{rw [zC c];rfl}
def zOP:vR 125 zqA:=kF2 zpg zbe zx zo (zq []) zWa
def z8O:zbb:=[(269,zlD),(267,zlD),(259,zqo),(268,zqo),(130,zqA),(125,zqA)]++z8N
def zH8:zU z8O:=zi zDE (zi zDx<|zi zO1<|zi zOx<|zi zPf<|zi zOP zpg)
def zdO (a b:Slot):Bool:=ieq a.Page b.Page&&ieq a.Rights b.Rights
def below' (a b:Slot):Bool:=bif zdO a noSlot then true else (cond (ieq a.Page b.Page) (enough b.Rights a.Rights) false)
def zbJ (s:Slot)(a:List Slot):Slot :=
 bif ieq s.Page (-1) then noSlot else (cond (ieq (zbK a s.Page).Page<|-1) noSlot<|cond (ieq (zfh s.Rights (zbK a s.Page).Rights) 0) noSlot ⟨(zbK a s.Page).Page,zfh s.Rights (zbK a s.Page).Rights⟩)
def zii (_:Slot)(_:List Slot):Bool:=true
def zl4 (s:Slot)(a:List Slot):Slot:=zbJ s a
def zkB:Run:=rF2 (dT .slot) (dS .slot) λb c=>(zii b c,[aT .slot<|zl4 b c])
def zwk (N:Nat)(a:Slot)(c:lS):OA:=
 let b:=zeX c a.Page; (oN (zgi c a.Page)<|oN (zbm a.Rights b.Rights)<|cond (ieq a.Page<|-1) (oN zbW<|some [.agg [.i .i64 zbl.Page,.i .i64 zbl.Rights]])<|cond (ieq b.Page<|-1) (oN zbW<|some [.agg [.i .i64 zbl.Page,.i .i64 zbl.Rights]])<|cond (ieq (zh4 a.Rights b.Rights) 0) (oN zbW<|some [.agg [.i .i64 zbl.Page,.i .i64 zbl.Rights]])<|some [.agg [.i .i64 b.Page,.i .i64<|zh4 a.Rights b.Rights]])
def zug (a:Slot)(b:List Slot)(c:zbS big [aT .slot a,aS .slot b])(d:zii a b=true):∃N,zwk N a b=some [aT .slot<|zl4 a b]:=by
 refine⟨0,?_⟩;unfold zwk zl4 zbJ zeX zh4 oN;conv=>zeta
 cases ieq a.Page (-1)<;>cases ieq (zbK b a.Page).Page (-1)<;>cases ieq (zfh a.Rights (zbK b a.Page).Rights) 0<;>rfl
def zB7:vR 129 zkB:=hF2 zH8 zbe zx zo (zq []) zug
def zB4:vR 124 zkB:=hF2 zH8 zbe zx zo (zq []) zug
def zeA (x:Int):Int:=bif (ige x 1&&ile x 6) then zYm .i64 (wsub .i64 x 1) 2 else -1
def zfu (x:Int):Int:=bif (ige x 1&&ile x 6) then zrp (wsub .i64 x 1) 2 else -1
def z8P:zbb:=[(129,zkB),(124,zkB)]++z8O
def z6B:zU z8P:=zi zB7 (zi zB4 zH8)
def zbbf {a b:Type}{l:List a}{m:List b}(h:ine (ln l) (ln m)=false):l.length=m.length:=by have:(ln l==ln m)=true:=(by simpa [ine,bne] using h);have:=eq_of_beq this;simp only[ln] at this;omega
def z8Q:zbb:=z8P
def z6C:zU z8Q:=z6B
def zdR (h:Host)(e:Entry):Bool :=
 bif hasB (zeA e.Tag) (ln h.Mons) then (bif hasB (zfu e.Tag) (ln (ix h.Mons (zeA e.Tag) zh).Guests) then
  below' ⟨e.Host,e.Rights⟩ (zbJ (zbK (ix (ix h.Mons (zeA e.Tag) zh).Guests (zfu e.Tag) zA).Live e.Page) (ix h.Mons (zeA e.Tag) zh).Outer) else false) else false
def z8R:zbb:=z8Q
def z6D:zU z8R:=z6C
def ctrW:zbb:=z8R
def zOg:∀f a,zu ctrW f=some a->Holds Tryz.prog f a:=z6D
def hE (h:Host):(⟨h.Memory,h.Mons,h.Buffer,h.IoBuffer⟩:Host)=h:=rfl
def idxs {a:Type}(p:a->Bool):List a->Nat->LI
 |[],_=>[]
 |x::l,i=>bif p x then (i:Int)::idxs p l (i+1) else idxs p l (i+1)
def zvF {a:Type}(p:a->Bool):∀(l:List a) (i:Nat),(idxs p l i).length<=l.length
 |[],_=>qV _
 |x::l,i=>by have:=zvF p l (i+1);simp only[idxs];cases p x<;>simp<;>omega
def zrJ {b c:Type}(p:b->Bool)(K:LI->Option c):∀(l:List b) (i:Nat) (a:LI),a.length+l.length<=2147483648->
 goL (λi x a k=>bif p x then (cond (few<|ln<|ap a [(i:Int)]) (k<|ap a [(i:Int)]) none) else k a) K l i a=K (a++idxs p l i)
 |[],i,a,_=>by simp[goL,idxs]
 |x::l,i,a,h=>by simp only[jB]at h;simp only[goL,idxs];cases p x;{simp only [cF];exact zrJ p K l (i+1) a (by omega)};{simp only [cT];rw[zhW (by simp[ap];omega),cT,zrJ p K l (i+1) _ (by simp[ap];omega)];simp[ap]}
def zxU (p:Nat->Bool):Nat->Nat->LI
 | 0,_=>[]
 |n+1,i=>bif p i then (i:Int)::zxU p n (i+1) else zxU p n (i+1)
def zAa {b:Type}(p:Nat->Bool)(K:LI->Option b):∀(n i:Nat) (a:LI),a.length+n<=2147483648->
 goN (λi a k=>bif p i then (cond (few<|ln<|ap a [(i:Int)]) (k<|ap a [(i:Int)]) none) else k a) K n i a=K (a++zxU p n i)
 | 0,i,a,_=>by simp[goN,zxU]
 |n+1,i,a,h=>by simp only[goN,zxU];cases p i;{simp only [cF];exact zAa p K n (i+1) a (by omega)};{simp only [cT];rw[zhW (by simp[ap];omega),cT,zAa p K n (i+1) _ (by simp[ap];omega)];simp[ap]}
abbrev zqU (l:List Slot)(_:Int):Bool:=pc (l.length<=2147483648)
abbrev zhy (l:List Slot)(p:Int):LI:=idxs (λ(s:Slot)=>ieq s.Page p) l 0
def zqC:Run:=rF2 (dS .slot) dI λb c=>(zqU b c,[aS .int<|zhy b c])
def zKS (N:Nat)(c:lS)(d:Int):OA:=
 (iter (σ:=(Int×Int×lS×LI×Unit)) N (λb a=>cond (ilt a.2.1<|ln a.2.2.1) (oN (inb a.2.1<|ln a.2.2.1)<|cond (ieq (ix a.2.2.1 a.2.1 zV).Page a.1) (oN (few<|ln<|ap a.2.2.2.1 [a.2.1])<|b (a.1,zQ .i64 a.2.1 1,a.2.2.1,ap a.2.2.2.1 [a.2.1],()))<|b (a.1,zQ .i64 a.2.1 1,a.2.2.1,a.2.2.2.1,()))<|some [aS .int a.2.2.2.1]) (d,0,c,[],()))
def zX9:=zq [(414,0,{n:=26,tm:=[(0,.sl 0 []),(1,ti),(5,.sl 1 []),(6,ti)],lo:=[],ro:=[(0,.slot,false),(1,.int,true)]})]
def zWx (b:List Slot)(a:Int)(g:zbS big [aS .slot b,aI a])(h:zqU b a=true):∃N,zKS N b a=some [aS .int<|zhy b a]:=by have e:=len0 g;have j:=zK.1 h;refine zcw λN d=>?_;unfold zKS oN;refine(zbp b (λi (t:LI)=>(a,(i:Int),b,t,())) _ (λi (x:Slot) (t:LI) f=>bif ieq x.Page a then (cond (few<|ln<|ap t [(i:Int)]) (f<|ap t [(i:Int)]) none) else f t) (λ(t:LI)=>some [.one<|.s .int t]) (λi c t rec=>?_) (λt rec=>?_) _ ([])<|d e).trans ?_;{simp only [zbF c,zbk c,zbt c,zbh c e,cT]};{simp only [zbx,cF]};exact zrJ (λ(s:Slot)=>ieq s.Page a) _ _ 0 [] (by simpa using j)
def zPj:vR 414 zqC:=hF2 zOg zbe zx zo zX9 zWx
def zKs (N:Nat)(d:lS)(f:Int):OA:=
 (iter (σ:=(Int×Int×Int×LI×lS×Unit)) N (λe a=>let c:=a.2.2.2.2.1;let b:=a.2.2.1; (cond (ilt b a.2.1) (oN (inb b<|ln c)<|cond (ieq (ix c b zV).Page a.1) (oN (few<|ln<|ap a.2.2.2.1 [b])<|e (a.1,a.2.1,zQ .i64 b 1,ap a.2.2.2.1 [b],c,()))<|e (a.1,a.2.1,zQ .i64 b 1,a.2.2.2.1,c,()))<|some [aS .int a.2.2.2.1])) (f,ln d,0,[],d,()))
def zXY:=zq [(384,0,{n:=26,tm:=[(1,ti),(5,.sl 0 []),(9,.sl 1 []),(10,ti),(11,ti)],lo:=[],ro:=[(0,.int,true),(1,.slot,false)]})]
def zWd (a:List Slot)(b:Int)(g:zbS big [aS .slot a,aI b])(h:zqU a b=true):∃N,zKs N a b=some [aS .int<|zhy a b]:=by
 have e:=len0 g;have j:=zK.1 h;refine zcw λN d=>?_;unfold zKs oN;conv=>zeta
 refine(zbp a (λi (t:LI)=>(b,ln a,(i:Int),t,a,())) _ (λi (x:Slot) (t:LI) f=>bif ieq x.Page b then (cond (few<|ln<|ap t [(i:Int)]) (f<|ap t [(i:Int)]) none) else f t) (λ(t:LI)=>some [.one<|.s .int t]) (λi c t rec=>?_) (λt rec=>?_) _ ([])<|d e).trans ?_;{simp only [zbF c,zbk c,zbt c,zbh c e,cT]};{simp only [zbx,cF]};exact zrJ (λ(s:Slot)=>ieq s.Page b) _ _ 0 [] (by simpa using j)
def zOT:vR 384 zqC:=hF2 zOg zbe zx zo zXY zWd
def z8S:zbb:=[(414,zqC),(384,zqC)]++ctrW
def z6E:zU z8S:=zi zPj (zi zOT zOg)
def z8T:zbb:=z8S
def z6F:zU z8T:=z6E
def z8U:zbb:=z8T
def zH9:zU z8U:=z6F
def all2 {a:Type}(b:a->a->Bool):List a->List a->Bool
 |[],[]=>true
 |x::l,y::m=>b x y&&all2 b l m
 |_,_=>false
def zUH {a:Type}(b:a->a->Bool):∀(l m:List a),l.length≠m.length->all2 b l m=false
 |[],[],h=>absurd rfl h
 |[],_::_,_=>rfl
 |_::_,[],_=>rfl
 |x::l,y::m,h=>by simp only[all2,zUH b l m (by simpa using h),Bool.and_false]
def zVv {c g:Type}(e:c->c->Bool)(d:c)(b:List c)(r:Option g)(K:Unit->Option g):∀(a:List c) (i:Nat),a.length+i=b.length->
 goL (λi x (_:Unit) k=>bif e x (ix b (i:Int) d) then k () else r) K a i ()=bif all2 e a (b.drop i) then K () else r
 |[],i,h=>by have:b.drop i=[]:=List.drop_eq_nil_of_le (by simp at h;omega);rw[this];rfl
 |x::a,i,h=>by simp only[jB]at h;have f:i<b.length:=(by omega);rw[kM f];simp only[goL,all2,zbt f];cases e x b[i];{rfl};{simp only [cT,uK];exact zVv e d b r K a (i+1) (by omega)}
def zbcB {a b:Type}{l:List a}{m:List b}(h:ine (ln l) (ln m)=true):l.length≠m.length:=by intro e;simp only[ine,ln,e,bne_self_eq_false]at h;cases h
def zi1 (x y:Int):ine x y = !ieq x y:=rfl
def eqI (a b:LI):Bool:=all2 ieq a b
def ziO (_ _:LI):Bool:=true
def zj4 (a b:LI):Bool:=eqI a b
def ztW:Run:=rF2 (dS .int) (dS .int) λb c=>(ziO b c,[aB<|zj4 b c])
def zGZ (N:Nat)(b c:LI):OA:=
 (cond (ine (ln b)<|ln c) oF<|iter (σ:=(Int×LI×LI×Unit)) N (λd a=>cond (ilt a.1<|ln a.2.1) (oN (inb a.1<|ln a.2.1)<|oN (inb a.1<|ln a.2.2.1)<|cond (ine (ix a.2.1 a.1 0)<|ix a.2.2.1 a.1 0) oF<|d (zQ .i64 a.1 1,a.2.1,a.2.2.1,())) oT) (0,b,c,()))
def zT9:=zq [(330,0,{n:=26,tm:=[(0,.sl 0 []),(1,.sl 1 []),(5,ti)],lo:=[],ro:=[(0,.int,false),(1,.int,false)]})]
def zTG (c a:LI)(j:zbS big [aS .int c,aS .int a])(m:ziO c a=true):∃N,zGZ N c a=some [aB<|zj4 c a]:=by have h:=len0 j;refine zcw λN f=>?_;unfold zGZ zj4 eqI oN;cases g:ine (ln c) (ln a);{have e:=zbbf g;rw[cF];refine(zbp c (λi (t:Unit)=>((i:Int),c,a,())) _ (λi (x:Int) (_:Unit) k=>bif ieq x (ix a (i:Int) 0) then k () else oF) (λ(t:Unit)=>some [.one<|.b true]) (λi d t rec=>?_) (λt rec=>?_) _ ()<|f h).trans ?_;{simp only [zbF d,zbk d,zbt d,zbh d h,cT];simp only[zbk (l:=a) (i:=i)<|e ▸ d,cT,zi1];cases ieq c[i] (ix a (↑i) 0)<;>rfl};{simp only [zbx,cF]};rw[zVv ieq 0 a _ _ c 0 (by simpa using e),vF];cases all2 ieq c a<;>rfl};{rw [zUH _ _ _<|zbcB g];rfl}
def zwX:vR 330 ztW:=hF2 zH9 zbe zx zo zT9 zTG
def zeJ (l:LI):Bool:=pc (l.length<=2147483648)
abbrev zeG (l:LI):LI:=l
def zze:Run:=rF1 (dS .int) λb=>(zeJ b,[aS .int<|zeG b])
def zCD (N:Nat)(a:LI):OA:=
 (oN (few<|ln<|ap [] a)<|some [aS .int<|ap [] a])
def zPX (a:LI)(b:zeJ a=true):∃N,zCD N a=some [aS .int<|zeG a]:=by refine⟨0,?_⟩;unfold zCD oN;rw[zoo,zhW<|zK.1 b,cT]
def zIP:vR 228 zze:=kF1 zH9 zbe zx zo (zq []) zPX
def z8V:zbb:=[(330,ztW),(228,zze)]++z8U
def zIa:zU z8V:=zi zwX (zi zIP zH9)
def zAU:LI:=rp 4 0
def zc5 (m:List LI)(p:Int):LI:=bif hasB p (ln m) then ix m p [] else zAU
def zfL (m:List LI)(_:Int):Bool:=pc (CVB sm<|.s (.sl .int) m)
def zhx (m:List LI)(p:Int):LI:=zc5 m p
def z5n {m:List LI}{p:Int}(b:CVB sm (.s (.sl .int) m))(a:hasB p (ln m)=true):(ix m p []).length<=2147483648 :=
 (zcR (b.inv.2 _ (zbM a ([]:LI)) (.s .int _) (qF.2 rfl)).len).2
def zqv:Run:=rF2 (dS<|.sl .int) dI λb c=>(zfL b c,[aS .int<|zhx b c])
def zKH (N:Nat)(a:lM)(b:Int):OA:=
 (oN (zM b 0<|wsub .i64 (ln a) 1)<|cond (nB<|zk b 0<|wsub .i64 (ln a) 1) (oN (cond (few 4) (ieq 4 4) false)<|some [aS .int<|rp 4 0])<|oN (inb b<|ln a)<|oN (few<|ln<|ap []<|ix a b [])<|some [aS .int<|ap []<|ix a b []])
def zWo (b:List LI)(a:Int)(f:zfL b a=true):∃N,zKH N b a=some [aS .int<|zhx b a]:=by have d:=zK.1 f;refine⟨0,?_⟩;unfold zKH zhx zc5 oN nB;have e:zk a 0 (wsub .i64 (ln b) 1)=hasB a (ln b):=zAj (zcR d.len).1 a;rw[e];cases c:hasB a (ln b);{rfl};{simp only [zM,cT,cF,zC c,zoo,zhW<|z5n d c]}
def zO9:vR 387 zqv:=kF2 zIa zbe zx zo (zq []) zWo
def zKi (N:Nat)(a:lM)(b:Int):OA:=
 (oN (zbm b<|ln a)<|cond (nB<|zcj b<|ln a) (oN (cond (few 4) (ieq 4 4) false)<|some [aS .int<|rp 4 0])<|oN (inb b<|ln a)<|oN (zeJ<|ix a b [])<|some [aS .int<|zeG<|ix a b []])
def zV3 (a:List LI)(b:Int)(d:zfL a b=true):∃N,zKi N a b=some [aS .int<|zhx a b]:=by have e:=zK.1 d;refine⟨0,?_⟩;unfold zKi zhx zc5 zcj oN nB;cases c:hasB b (ln a);{rfl};{simp only [zbm,cT,cF,zC c,show zeJ (ix a b [])=true from zbg (z5n e c),zeG]}
def zOH:vR 321 zqv:=kF2 zIa zbe zx zo (zq []) zV3
def z8W:zbb:=[(387,zqv),(321,zqv)]++z8V
def zIb:zU z8W:=zi zO9 (zi zOH zIa)
def zc1 (h:Host)(m p:Int):LI :=
 bif hasB m (ln h.Mons) then (cond (hasB p 8) (cond (ine (zbK (ix h.Mons m zh).Outer p).Page<|-1) (zc5 h.Memory (zbK (ix h.Mons m zh).Outer p).Page)<|zc5 (ix h.Mons m zh).Out p) zAU) else zAU
def has8 (p:Int):zk p 0 7=hasB p 8:=by unfold zk ige ile hasB;by_cases a:0<=p<;>by_cases b:p<8;{rw [qK (p:=p≥0) (by omega),qK (p:=p<=7) (by omega),qK (p:=0<=p/\p<8) ⟨a,b⟩];rfl};{rw [qH (p:=p<=7) (by omega),qH (p:=0<=p/\p<8) (by omega)];simp};{rw [qH (p:=p≥0) (by omega),qH (p:=0<=p/\p<8) (by omega)];simp};{rw [qH (p:=p≥0) (by omega),qH (p:=0<=p/\p<8) (by omega)];simp}
def zqQ (h:Host)(_ _:Int):Bool:=pc (zdz h)
def zpq (h:Host)(m p:Int):LI:=zc1 h m p
def zm3:Run:=rF3 dH dI dI λb c d=>(zqQ b c d,[aS .int<|zpq b c d])
def zKJ (N:Nat)(a:Host)(c b:Int):OA:=
 let d:=ix a.Mons c zh;let e:=(zeX d.Outer b).Page; (oN (zM c 0<|wsub .i64 (ln a.Mons) 1)<|cond (nB<|zk c 0<|wsub .i64 (ln a.Mons) 1) (oN (cond (few 4) (ieq 4 4) false)<|some [aS .int<|rp 4 0])<|oN (zM b 0 7)<|cond (nB<|zk b 0 7) (oN (cond (few 4) (ieq 4 4) false)<|some [aS .int<|rp 4 0])<|oN (inb c<|ln a.Mons)<|oN (zgi d.Outer b)<|cond (ine e<|-1) (oN (zfL a.Memory e)<|some [aS .int<|zhx a.Memory e])<|oN (zfL d.Out b)<|some [aS .int<|zhx d.Out b])
def zWq (a:Host)(b c:Int)(g:zqQ a b c=true):∃N,zKJ N a b c=some [aS .int<|zpq a b c]:=by
 have d:=zK.1 g;refine⟨0,?_⟩;unfold zKJ zpq zc1 oN nB;conv=>zeta
 have e:zk b 0 (wsub .i64 (ln a.Mons) 1)=hasB b (ln a.Mons):=zAj (zcR d.mons.len).1 b;rw[e,has8];cases f:hasB b (ln a.Mons);{rfl};{cases i:hasB c 8;{rfl};{have h:CVB sm (.s (.sl .int) (ix a.Mons b zh).Out):=d.mons.inv.2 _ (zbM f zh) (.s (.sl .int) _) (by simp[Ty.cells]);simp only[zM,cT,cF,zC f,zgi,zeX,show ∀p,zfL a.Memory p=true from λp=>zbg d.mem,show ∀p,zfL (ix a.Mons b zh).Out p=true from λp=>zbg h,zhx];cases ine (zbK (ix a.Mons b zh).Outer c).Page (-1)<;>rfl}}
def zyK:vR 331 zm3:=kF3 zIb zbe zx zo (zq []) zWq
def zKk (N:Nat)(a:Host)(c b:Int):OA:=
 let d:=ix a.Mons c zh;let e:=(zeX d.Outer b).Page; (oN (zbm c<|ln a.Mons)<|cond (nB<|zcj c<|ln a.Mons) (oN (cond (few 4) (ieq 4 4) false)<|some [aS .int<|rp 4 0])<|oN (zbm b 8)<|cond (nB<|zcj b 8) (oN (cond (few 4) (ieq 4 4) false)<|some [aS .int<|rp 4 0])<|oN (inb c<|ln a.Mons)<|oN (zgi d.Outer b)<|cond (ine e<|-1) (oN (zfL a.Memory e)<|some [aS .int<|zhx a.Memory e])<|oN (zfL d.Out b)<|some [aS .int<|zhx d.Out b])
def zV5 (a:Host)(b c:Int)(f:zqQ a b c=true):∃N,zKk N a b c=some [aS .int<|zpq a b c]:=by
 have e:=zK.1 f;refine⟨0,?_⟩;unfold zKk zpq zc1 zcj oN nB;conv=>zeta
 cases d:hasB b (ln a.Mons);{rfl};{cases h:hasB c 8;{rfl};{have g:CVB sm (.s (.sl .int) (ix a.Mons b zh).Out):=e.mons.inv.2 _ (zbM d zh) (.s (.sl .int) _) (by simp[Ty.cells]);simp only[zbm,cT,cF,zC d,zgi,zeX,show ∀p,zfL a.Memory p=true from λp=>zbg e.mem,show ∀p,zfL (ix a.Mons b zh).Out p=true from λp=>zbg g,zhx];cases ine (zbK (ix a.Mons b zh).Outer c).Page (-1)<;>rfl}}
def zOJ:vR 303 zm3:=kF3 zIb zbe zx zo (zq []) zV5
def z8X:zbb:=[(331,zm3),(303,zm3)]++z8W
def z6G:zU z8X:=zi zyK (zi zOJ zIb)
def z8Y:zbb:=z8X
def z6H:zU z8Y:=z6G
def ctrV:zbb:=z8Y
def zbaW:∀f a,zu ctrV f=some a->Holds Tryz.prog f a:=z6H
def ctrU:zbb:=ctrV
def zd4:zU ctrU:=zbaW
def zp8:zix:=z7r
def zn:zgN zp8:=zbe
def canRun (g:Guest):Bool:=bif (ieq g.Exit.Kind 0&&(ieq g.Exit.Page 0&&(zkG g.Exit.Write false&&ieq g.Exit.N 0))) then !g.Halted else false
def zuH (_:Guest):Bool:=true
abbrev zpo (g:Guest):Bool:=canRun g
def zqn:Run:=rF1 (dT .guest) λb=>(zuH b,[aB<|zpo b])
def zKw (N:Nat)(a:Guest):OA:=
 (cond (cond (ieq a.Exit.Kind 0) (cond (ieq a.Exit.Page 0) (cond (zkG a.Exit.Write false) (ieq a.Exit.N 0) false) false) false) (some [aB<|nB a.Halted]) oF)
def zDT (a:Guest)(b:zbS big [aT .guest a])(c:zuH a=true):∃N,zKw N a=some [aB<|zpo a]:=by refine⟨0,?_⟩;unfold zKw zpo canRun nB;cases ieq a.Exit.Kind 0<;>cases ieq a.Exit.Page 0<;>cases zkG a.Exit.Write false<;>cases ieq a.Exit.N 0<;>simp
def zOZ:vR 338 zqn:=hF1 zuV zbe zx zo (zq []) zDT
def zOv:vR 283 zqn:=hF1 zuV zbe zx zo (zq []) zDT
def must {d:Type}{c:Bool}{a b r:Option d}(h:c=true)(k:a=r):(cond c a b)=r:=by rw[h];exact k
def mu {d:Type}{c:Bool}{a b r:Option d}(k:a=r)(h:c=true:=by first|assumption|(simp_all<;>omega)):(cond c a b)=r:=must h k
def zcf {d:Type}{c:Bool}{a b r:Option d}(h:c=false)(k:b=r):(cond c a b)=r:=by rw[h];exact k
def br {f:Type}{c:Bool}{a b r:Option f}(d:c=true->a=r)(e:c=false->b=r):(cond c a b)=r:=by cases c;{exact e rfl};{exact d rfl}
def brN {f:Type}{c:Bool}{a b r:Option f}(d:c=false->a=r)(e:c=true->b=r):(cond (cond c false true) a b)=r:=by cases c;{exact d rfl};{exact e rfl}
def shr {a b:Type}{x:a}{f:a->Option b}{r:Option b}(h:f x=r):share x f=r:=h
def zkc {e:Type}{c p:Bool}{a b:Option e}(d:c=true):(cond c (cond (cond p false true) a b) none)=bif p then b else a:=by rw[d];cases p<;>rfl
attribute [simp] zK
@[simp] def zba7 {a:Type}(l:List a):(few (ln l)=true)↔l.length<=2147483648:=by unfold few ln;rw[decide_eq_true_iff];omega
@[simp] def zbd6 {a:Type}(l m:List a):(ap l m).length=l.length+m.length:=by simp[ap]
attribute [simp] zoo zgy
@[simp] def z9J (n:Nat)(k:IntKind)(x:Int):CVB n (.i k x)↔True:=⟨λ_=>trivial,λ_=>.i k x⟩
@[simp] def zbea (n:Nat)(x:Bool):CVB n (.b x)↔True:=⟨λ_=>trivial,λ_=>.b x⟩
def znv {n:Nat}{t:Ty}(l:List t.den):CVB n (.s t l)↔l.length<=n/\∀x∈l,∀c∈t.cells x,CVB n c:=⟨λh=>h.inv,λh=>.s t l h.1 h.2⟩
@[simp] def zZ2 (n:Nat)(l:LI):CVB n (.s .int l)↔l.length<=n:=by rw[znv];simp[Ty.cells]
@[simp] def zbcr (n:Nat)(l:LI):CVB n (.s .u8 l)↔l.length<=n:=by rw[znv];simp[Ty.cells]
@[simp] def z6Q (n:Nat)(l:List Bool):CVB n (.s .bool l)↔l.length<=n:=by rw[znv];simp[Ty.cells]
@[simp] def z6S (n:Nat)(l:List Slot):CVB n (.s .slot l)↔l.length<=n:=by rw[znv];simp[Ty.cells]
@[simp] def zbaY (n:Nat)(l:List Ins):CVB n (.s .ins l)↔l.length<=n:=by rw[znv];simp[Ty.cells]
@[simp] def z3Y (n:Nat)(l:List Entry):CVB n (.s .entry l)↔l.length<=n:=by rw[znv];simp[Ty.cells]
@[simp] def zbaX (n:Nat)(l:List GAct):CVB n (.s .act l)↔l.length<=n:=by rw[znv];simp[Ty.cells]
@[simp] def z6T (n:Nat)(l:List Told):CVB n (.s .told l)↔l.length<=n:=by rw[znv];simp[Ty.cells]
def SmM (m:List LI):Prop:=m.length<=1048576/\∀x∈m,x.length<=1048576
def SmG (g:Guest):Prop:=g.Prog.length<=1048576/\g.Written.length<=1048576/\g.Live.length<=1048576/\g.Seen.length<=1048576
def zmE (l:List Guest):Prop:=l.length<=1048576/\∀x∈l,SmG x
def SmB (b:Bare):Prop:=SmM b.Memory/\zmE b.Guests/\b.Outs.length<=1048576
def z0U (l:List Bare):Prop:=l.length<=1048576/\∀x∈l,SmB x
def z8e:sm=1048576:=rfl
@[simp] def z1l (l:LI):CVB sm (.s .int l)↔l.length<=1048576:=zZ2 sm l
@[simp] def zbdI (l:LI):CVB sm (.s .u8 l)↔l.length<=1048576:=zbcr sm l
@[simp] def zYw (l:List Bool):CVB sm (.s .bool l)↔l.length<=1048576:=z6Q sm l
@[simp] def zYx (l:List Slot):CVB sm (.s .slot l)↔l.length<=1048576:=z6S sm l
@[simp] def zbdk (l:List Ins):CVB sm (.s .ins l)↔l.length<=1048576:=zbaY sm l
@[simp] def zVh (l:List Entry):CVB sm (.s .entry l)↔l.length<=1048576:=z3Y sm l
@[simp] def zbdj (l:List GAct):CVB sm (.s .act l)↔l.length<=1048576:=zbaX sm l
@[simp] def zbc2 (l:List Told):CVB sm (.s .told l)↔l.length<=1048576:=z6T sm l
@[simp] def zrE (l:List LI):CVB sm (.s (.sl .int) l)↔SmM l:=by rw[znv];simp[Ty.cells,SmM,z8e]
@[simp] def zbaC (g:Guest):(∀c∈Ty.cells .guest g,CVB sm c)↔SmG g:=by simp[Ty.cells,SmG,z8e]
@[simp] def zwC (l:List Guest):CVB sm (.s .guest l)↔zmE l:=by rw[znv];simp only[zbaC];rfl
@[simp] def zbaB (b:Bare):(∀c∈Ty.cells .bare b,CVB sm c)↔SmB b:=by simp only[Ty.cells,qG,qO,or_false,vN,forall_eq,zrE,zwC,zZ2,z9J,and_true];rfl
@[simp] def zbdM (l:List Bare):CVB sm (.s .bare l)↔z0U l:=by rw[znv];simp only[zbaB];rfl
@[simp] def zbd9 (a:List Ins)(b c:Int)(d e:List Slot)(f:Ctl)(g:Int)(h:GExit)(i:Bool)(j:LI):SmG ⟨a,b,c,d,e,f,g,h,i,j⟩↔a.length<=1048576/\d.length<=1048576/\e.length<=1048576/\j.length<=1048576:=Iff.rfl
@[simp] def zbd8 (m:List LI)(g:List Guest)(o:LI)(p:Int):SmB ⟨m,g,o,p⟩↔SmM m/\zmE g/\o.length<=1048576:=Iff.rfl
def zNI {m:List LI}{i:Int}{x:LI}(h:SmM m)(b:x.length<=1048576):SmM (up m i x):=by refine⟨by simpa using h.1,λy a=>?_⟩;rcases qZ a with a|rfl;{exact h.2 y a};{exact b}
def zFg {m:List Guest}{i:Int}{x:Guest}(h:zmE m)(b:SmG x):zmE (up m i x):=by refine⟨by simpa using h.1,λy a=>?_⟩;rcases qZ a with a|rfl;{exact h.2 y a};{exact b}
def zbbI {m:List Bare}{i:Int}{x:Bare}(h:z0U m)(b:SmB x):z0U (up m i x):=by refine⟨by simpa using h.1,λy a=>?_⟩;rcases qZ a with a|rfl;{exact h.2 y a};{exact b}
def zXC {l:List Guest}{i:Int}(h:zmE l)(a:hasB i (ln l)=true)(d:Guest):SmG (ix l i d):=h.2 _ (zbM a d)
def zbcX {l:List LI}{i:Int}(h:SmM l)(a:hasB i (ln l)=true)(d:LI):(ix l i d).length<=1048576:=h.2 _ (zbM a d)
@[simp] def zbdC:SmG zA:=⟨by decide,by decide,by decide,by decide⟩
@[simp] def zUv (x a b:Int):zk x a b=zk x a b:=rfl
@[simp] def zVP (i n:Int):inb i n=hasB i n:=rfl
attribute [simp] zcj
@[simp] def zr5 {a:Type}{l:List a}(h:l.length<=1048576)(i:Int):zk i 0 (wsub .i64 (ln l) 1)=hasB i (ln l):=zDR (zcR h).1 i
def zJ9 {a:Type}{l:List a}(h:l.length<=big)(i:Int):zk i 0 (wsub .i64 (ln l) 1)=hasB i (ln l):=zDR h i
def zfX {x a b:Int}:(zk x a b=true)↔a<=x/\x<=b:=by unfold zk ige ile;simp only[qE,decide_eq_true_iff]
def zbbe (a b:Int):ilt a b = !ige a b:=by unfold ilt ige;by_cases h:a<b;{rw [qK h,qH (by omega)];rfl};{rw [qH h,qK (by omega)];rfl}
attribute [simp] zbl zbl zhL zhL zh4 zh4 zdv zdv zeX zeX zpo zpo zbW zbW
attribute [simp] zf0 zdX zhR zeG
attribute [simp] zhO zet zhh zeJ
def zbn (a:Int):Int:=bif ilt a 0 then -1 else zYm .i64 a 4
def zd9 (a:Int):Int:=bif ilt a 0 then -1 else zrp a 4
@[simp] abbrev zbQ (a:Int):Bool:=true
@[simp] abbrev zbA (a:Int):Int:=zbn a
def znN:Run:=rF1 dI λb=>(zbQ b,[aI<|zbA b])
def zCI (N:Nat)(a:Int):OA:=
 (cond (ilt a 0) (some [aI<|-1])<|oN (ine 4 0)<|some [aI<|zYm .i64 a 4])
def zyS (a:Int)(b:zbS big [aI a])(c:zbQ a=true):∃N,zCI N a=some [aI<|zbA a]:=by refine⟨0,?_⟩;unfold zCI oN;refine br (λ_=>?_) (λ_=>must rfl ?_);all_goals first|rfl|(simp only [*,zbA,zbn,cT,cF]<;>rfl)|simp_all[Ty.cells,zbA,zbn]
def zIT:vR 219 znN:=hF1 zd4 zn zx zo (zq []) zyS
def zIx:vR 151 znN:=hF1 zd4 zn zx zo (zq []) zyS
@[simp] abbrev zc7 (a:Int):Int:=zd9 a
def znM:Run:=rF1 dI λb=>(zbQ b,[aI<|zc7 b])
def zCH (N:Nat)(a:Int):OA:=
 (cond (ilt a 0) (some [aI<|-1])<|oN (ine 4 0)<|some [aI<|zrp a 4])
def zyR (a:Int)(b:zbS big [aI a])(c:zbQ a=true):∃N,zCH N a=some [aI<|zc7 a]:=by refine⟨0,?_⟩;unfold zCH oN;refine br (λ_=>?_) (λ_=>must rfl ?_);all_goals first|rfl|(simp only [*,zc7,zd9,cT,cF]<;>rfl)|simp_all[Ty.cells,zc7,zd9]
def zIS:vR 220 znM:=hF1 zd4 zn zx zo (zq []) zyR
def zIw:vR 156 znM:=hF1 zd4 zn zx zo (zq []) zyR
def zcx (w:Bool):Int:=bif w then 2 else 1
@[simp] abbrev zlK (w:Bool):Bool:=true
@[simp] abbrev zdK (w:Bool):Int:=zcx w
def zqu:Run:=rF1 dB λb=>(zlK b,[aI<|zdK b])
def zKG (N:Nat)(a:Bool):OA:=
 (cond a (some [aI 2])<|some [aI 1])
def zDW (a:Bool)(b:zbS big [aB a])(c:zlK a=true):∃N,zKG N a=some [aI<|zdK a]:=by refine⟨0,?_⟩;unfold zKG;refine br (λ_=>?_) (λ_=>?_);all_goals first|rfl|(simp only [*,zdK,zcx,cT,cF]<;>rfl)|simp_all[Ty.cells,zdK,zcx]
def zO8:vR 234 zqu:=hF1 zd4 zn zx zo (zq []) zDW
def zOF:vR 152 zqu:=hF1 zd4 zn zx zo (zq []) zDW
def zs7 (p:Int)(w:Bool):GExit:=⟨1,p,w,0⟩
def zvl (n:Int):GExit:=⟨2,0,false,n⟩
def zy1 (n:Int):GExit:=⟨3,0,false,n⟩
@[simp] abbrev zhd (p:Int)(w:Bool):Bool:=true
@[simp] abbrev ze9 (p:Int)(w:Bool):GExit:=zs7 p w
def zjZ:Run:=rF2 dI dB λb c=>(zhd b c,[.agg<|zgz<|ze9 b c])
def zA9 (N:Nat)(a:Int)(c:Bool):OA:=
 (some [.agg [.i .i64 1,.i .i64 a,.b c,.i .i64 0]])
def zw0 (a:Int)(b:Bool)(c:zbS big [aI a,aB b])(d:zhd a b=true):∃N,zA9 N a b=some [.agg<|zgz<|ze9 a b]:=by refine⟨0,?_⟩;unfold zA9;first|rfl|(simp only [*,ze9,cT,cF]<;>rfl)|simp_all[Ty.cells,ze9]
def zuf:vR 236 zjZ:=hF2 zd4 zn zx zo (zq []) zw0
def zFl:vR 154 zjZ:=hF2 zd4 zn zx zo (zq []) zw0
@[simp] abbrev zfr (n:Int):Bool:=true
@[simp] abbrev zfj (n:Int):GExit:=zvl n
def zkT:Run:=rF1 dI λb=>(zfr b,[.agg<|zgz<|zfj b])
def zCL (N:Nat)(a:Int):OA:=
 (some [.agg [.i .i64 2,.i .i64 0,.b false,.i .i64 a]])
def zyT (a:Int)(b:zbS big [aI a])(c:zfr a=true):∃N,zCL N a=some [.agg<|zgz<|zfj a]:=by refine⟨0,?_⟩;unfold zCL;first|rfl|(simp only [*,zfj,cT,cF]<;>rfl)|simp_all[Ty.cells,zfj]
def zvz:vR 351 zkT:=hF1 zd4 zn zx zo (zq []) zyT
def zIz:vR 300 zkT:=hF1 zd4 zn zx zo (zq []) zyT
@[simp] abbrev zgu (n:Int):GExit:=zy1 n
def zl2:Run:=rF1 dI λb=>(zfr b,[.agg<|zgz<|zgu b])
def zGP (N:Nat)(a:Int):OA:=
 (some [.agg [.i .i64 3,.i .i64 0,.b false,.i .i64 a]])
def zBs (a:Int)(b:zbS big [aI a])(c:zfr a=true):∃N,zGP N a=some [.agg<|zgz<|zgu a]:=by refine⟨0,?_⟩;unfold zGP;first|rfl|(simp only [*,zgu,cT,cF]<;>rfl)|simp_all[Ty.cells,zgu]
def zwW:vR 353 zl2:=hF1 zd4 zn zx zo (zq []) zBs
def zLL:vR 380 zl2:=hF1 zd4 zn zx zo (zq []) zBs
def zew (t x:Int):Bool:=bif zk t 0 3 then (cond (zk x 1 2) (ine (wand .i64 t x) 0) false) else false
def zbar (x:Int):zk x 1 2=(ieq x 1||ieq x 2):=by have h:(zk x 1 2=true)↔(ieq x 1||ieq x 2)=true:=(by rw[zfX];simp only[ieq,jW,qL];omega);cases a:zk x 1 2<;>cases b:(ieq x 1||ieq x 2)<;>simp_all
@[simp] abbrev zgF (t x:Int):Bool:=true
@[simp] abbrev zfZ (t x:Int):Bool:=zew t x
def zoU:Run:=rF2 dI dI λb c=>(zgF b c,[aB<|zfZ b c])
def zGH (N:Nat)(a b:Int):OA:=
 (oN (zM a 0 3)<|cond (zk a 0 3) (oN (zM b 1 2)<|cond (zk b 1 2) (some [aB<|ine (wand .i64 a b) 0]) oF) oF)
def zTq (a b:Int)(c:zgF a b=true):∃N,zGH N a b=some [aB<|zfZ a b]:=by refine⟨0,?_⟩;unfold zGH oN;refine must rfl (br (λ_=>must rfl (br (λ_=>?_) λ_=>?_)) λ_=>?_);all_goals first|rfl|(simp only [*,zfZ,zew,cT,cF]<;>rfl)|simp_all[Ty.cells,zfZ,zew]
def zLZ:vR 352 zoU:=kF2 zd4 zn zx zo (zq []) zTq
def zGl (N:Nat)(a b:Int):OA:=
 let c:=aB<|ine (wand .i64 a b) 0; (oN (zM a 0 3)<|cond (zk a 0 3) (cond (ieq b 1) (some [c])<|cond (ieq b 2) (some [c]) oF) oF)
def zS6 (a b:Int)(c:zgF a b=true):∃N,zGl N a b=some [aB<|zfZ a b]:=by
 refine⟨0,?_⟩;unfold zGl oN;conv=>zeta
 refine must rfl (br (λ_=>br (λ_=>?_) λ_=>br (λ_=>?_) λ_=>?_) λ_=>?_);all_goals first|rfl|(simp only [*,zfZ,zew,zbar,cT,cF]<;>rfl)|simp_all[Ty.cells,zfZ,zew,zbar]
def zLF:vR 301 zoU:=kF2 zd4 zn zx zo (zq []) zS6
def zeh (p:Int):Bool:=zk p 0 255
@[simp] abbrev zcm (p:Int):Bool:=true
@[simp] abbrev zeW (p:Int):Bool:=zeh p
def zqy:Run:=rF1 dI λb=>(zcm b,[aB<|zeW b])
def zKL (N:Nat)(a:Int):OA:=
 (oN (zM a 0 255)<|some [aB<|zk a 0 255])
def zDY (a:Int)(b:zbS big [aI a])(c:zcm a=true):∃N,zKL N a=some [aB<|zeW a]:=by refine⟨0,?_⟩;unfold zKL oN;refine must rfl ?_;first|rfl|(simp only [*,zeW,zeh,cT,cF]<;>rfl)|simp_all[Ty.cells,zeW,zeh]
def zPc:vR 260 zqy:=hF1 zd4 zn zx zo (zq []) zDY
def zOL:vR 365 zqy:=hF1 zd4 zn zx zo (zq []) zDY
def zcL (l:List Ins)(p:Int):Ins:=bif hasB p (ln l) then ix l p zsV else ⟨7,0⟩
@[simp] abbrev zei (l:List Ins)(p:Int):Bool:=true
@[simp] abbrev zec (l:List Ins)(p:Int):Ins:=zcL l p
def zss:Run:=rF2 (dS .ins) dI λb c=>(zei b c,[aT .ins<|zec b c])
def zRj (N:Nat)(a:lI)(b:Int):OA:=
 (oN (zM b 0<|wsub .i64 (ln a) 1)<|cond (nB<|zk b 0<|wsub .i64 (ln a) 1) (some [.agg [.i .i64 7,.i .i64 0]])<|oN (inb b<|ln a)<|some [.agg [.i .i64 (ix a b zsV).Op,.i .i64 (ix a b zsV).X]])
def zYZ (a:List Ins)(b:Int)(c:zbS big [aS .ins a,aI b])(e:zei a b=true):∃N,zRj N a b=some [aT .ins<|zec a b]:=by have d:=((zd1 c).1 _ (qF.2 rfl)).len;have f:=zJ9 d;refine⟨0,?_⟩;unfold zRj oN nB;refine must rfl (brN (λ_=>?_) λ_=>mu ?_);all_goals first|rfl|(simp only [*,zec,zcL,cT,cF]<;>rfl)|simp_all[Ty.cells,zec,zcL]
def zSN:vR 241 zss:=hF2 zd4 zn zx zo (zq []) zYZ
def zQ8 (N:Nat)(a:lI)(b:Int):OA:=
 (oN (zbm b<|ln a)<|cond (nB<|zcj b<|ln a) (some [.agg [.i .i64 7,.i .i64 0]])<|oN (inb b<|ln a)<|some [.agg [.i .i64 (ix a b zsV).Op,.i .i64 (ix a b zsV).X]])
def zYP (a:List Ins)(b:Int)(c:zei a b=true):∃N,zQ8 N a b=some [aT .ins<|zec a b]:=by refine⟨0,?_⟩;unfold zQ8 oN nB;refine must rfl (brN (λ_=>?_) λ_=>mu ?_);all_goals first|rfl|(simp only [*,zec,zcL,cT,cF]<;>rfl)|simp_all[Ty.cells,zec,zcL]
def zSA:vR 285 zss:=kF2 zd4 zn zx zo (zq []) zYP
def zgx (w:Int):Int:=bif ieq w 5 then 1 else 2
@[simp] abbrev zp7 (w:Int):Bool:=true
@[simp] abbrev zi9 (w:Int):Int:=zgx w
def zEk:Run:=rF1 dI λb=>(zp7 b,[aI<|zi9 b])
def zKu (N:Nat)(a:Int):OA:=
 (cond (ieq a 5) (some [aI 1])<|some [aI 2])
def zWf (a:Int)(b:zp7 a=true):∃N,zKu N a=some [aI<|zi9 a]:=by refine⟨0,?_⟩;unfold zKu;refine br (λ_=>?_) (λ_=>?_);all_goals first|rfl|(simp only [*,zi9,zgx,cT,cF]<;>rfl)|simp_all[Ty.cells,zi9,zgx]
def zOW:vR 291 zEk:=kF1 zd4 zn zx zo (zq []) zWf
def zeT (s:Slot)(n:Int):Bool:=bif zdO s noSlot then true else (cond (igt n 0) (cond (zk s.Page 0<|wsub .i64 n 1) (zk s.Rights 1 3) false) false)
@[simp] abbrev zlM (s:Slot)(n:Int):Bool:=true
@[simp] abbrev zjm (s:Slot)(n:Int):Bool:=zeT s n
def zqB:Run:=rF2 (dT .slot) dI λb c=>(zlM b c,[aB<|zjm b c])
def zKP (N:Nat)(a:Slot)(b:Int):OA:=
 (oN zbW<|cond (cond (ieq a.Page zbl.Page) (ieq a.Rights zbl.Rights) false) oT<|oN (zM a.Page 0<|wsub .i64 b 1)<|cond (zk a.Page 0<|wsub .i64 b 1) (cond (igt b 0) (oN (zM a.Rights 1 3)<|some [aB<|zk a.Rights 1 3]) oF) oF)
def zWv (a:Slot)(b:Int)(c:zlM a b=true):∃N,zKP N a b=some [aB<|zjm a b]:=by refine⟨0,?_⟩;unfold zKP oN;refine must rfl (br (λ_=>?_) λ_=>must rfl (br (λ_=>br (λ_=>must rfl ?_) λ_=>?_) λ_=>?_));all_goals first|rfl|(simp only [*,zjm,zeT,zdO,cT,cF]<;>rfl)|simp_all[Ty.cells,zjm,zeT,zdO]
def zPg:vR 243 zqB:=kF2 zd4 zn zx zo (zq []) zWv
def zKq (N:Nat)(a:Slot)(b:Int):OA:=
 (oN zbW<|cond (cond (ieq a.Page zbl.Page) (ieq a.Rights zbl.Rights) false) oT<|cond (igt b 0) (oN (zM a.Page 0<|wsub .i64 b 1)<|cond (zk a.Page 0<|wsub .i64 b 1) (oN (zM a.Rights 1 3)<|some [aB<|zk a.Rights 1 3]) oF) oF)
def zWb (a:Slot)(b:Int)(c:zlM a b=true):∃N,zKq N a b=some [aB<|zjm a b]:=by refine⟨0,?_⟩;unfold zKq oN;refine must rfl (br (λ_=>?_) λ_=>br (λ_=>must rfl (br (λ_=>must rfl ?_) λ_=>?_)) λ_=>?_);all_goals first|rfl|(simp only [*,zjm,zeT,zdO,cT,cF]<;>rfl)|simp_all[Ty.cells,zjm,zeT,zdO]
def zOQ:vR 305 zqB:=kF2 zd4 zn zx zo (zq []) zWb
@[simp] abbrev zhb (l:List Slot):Bool:=pc (l.length<=2147483648)
@[simp] abbrev ze5 (l:List Slot):List Slot:=l
def zxf:Run:=rF1 (dS .slot) λb=>(zhb b,[aS .slot<|ze5 b])
def zA5 (N:Nat)(a:lS):OA:=
 (oN (few<|ln<|ap [] a)<|some [aS .slot<|ap [] a])
def zMO (a:List Slot)(b:zhb a=true):∃N,zA5 N a=some [aS .slot<|ze5 a]:=by have c:=zK.1 b;refine⟨0,?_⟩;unfold zA5 oN;refine mu ?_;first|rfl|(simp only [*,ze5,cT,cF]<;>rfl)|simp_all[Ty.cells,ze5]
def zFu:vR 327 zxf:=kF1 zd4 zn zx zo (zq []) zMO
@[simp] abbrev zvE (l:List Ins):Bool:=pc (l.length<=2147483648)
@[simp] abbrev zp6 (l:List Ins):List Ins:=l
def zzg:Run:=rF1 (dS .ins) λb=>(zvE b,[aS .ins<|zp6 b])
def zCF (N:Nat)(a:lI):OA:=
 (oN (few<|ln<|ap [] a)<|some [aS .ins<|ap [] a])
def zPZ (a:List Ins)(b:zvE a=true):∃N,zCF N a=some [aS .ins<|zp6 a]:=by have c:=zK.1 b;refine⟨0,?_⟩;unfold zCF oN;refine mu ?_;first|rfl|(simp only [*,zp6,cT,cF]<;>rfl)|simp_all[Ty.cells,zp6]
def zIR:vR 379 zzg:=kF1 zd4 zn zx zo (zq []) zPZ
def zhj (m:List LI)(p c:Int):Bool:=bif hasB p (ln m) then hasB c (ln<|ix m p []) else false
def cellAt (m:List LI)(p c:Int):Int:=bif zhj m p c then ix (ix m p []) c 0 else 0
def zbX (m:List LI)(p c v:Int):List LI:=bif zhj m p c then (cond (zk v 0 99) (up m p<|up (ix m p []) c v) m) else m
def zAp (m:List LI)(p c:Int):(zhj m p c=true)↔hasB p (ln m)=true/\hasB c (ln<|ix m p [])=true:=by unfold zhj;cases hasB p (ln m)<;>simp
def zbcq {n:Nat}{m:List LI}(h:CVB n (.s (.sl .int) m)):m.length<=n/\∀p:Int,hasB p (ln m)=true->(ix m p []).length<=n :=
 ⟨h.len,λp a=>(h.inv.2 _ (zbM a []) _ (qF.2 rfl)).len⟩
@[simp] abbrev zfO (m:List LI)(p c:Int):Bool:=true
@[simp] abbrev zr0 (m:List LI)(p c:Int):Bool:=zhj m p c
def zEm:Run:=rF3 (dS<|.sl .int) dI dI λb c d=>(zfO b c d,[aB<|zr0 b c d])
def zKU (N:Nat)(a:lM)(b c:Int):OA:=
 let d:=wsub .i64 (ln<|ix a b []) 1; (oN (zM b 0<|wsub .i64 (ln a) 1)<|cond (zk b 0<|wsub .i64 (ln a) 1) (oN (inb b<|ln a)<|oN (zM c 0 d)<|some [aB<|zk c 0 d]) oF)
def zWy (a:List LI)(b c:Int)(e:zbS big [aS (.sl .int) a,aI b,aI c])(g:zfO a b c=true):∃N,zKU N a b c=some [aB<|zr0 a b c]:=by
 have d:=zbcq ((zd1 e).1 _ (qF.2 rfl));have j:=zJ9 d.1;have f:∀p i:Int,hasB p (ln a)=true->zk i 0 (wsub .i64 (ln<|ix a p []) 1)=hasB i (ln<|ix a p []):=λp i h=>zJ9 (d.2 p h) i;refine⟨0,?_⟩;unfold zKU oN;conv=>zeta
 refine must rfl (br (λ_=>mu (must rfl ?_)) λ_=>?_);all_goals first|rfl|(simp only [*,zr0,zhj,cT,cF]<;>rfl)|simp_all[Ty.cells,zr0,zhj]
def zPm:vR 344 zEm:=hF3 zd4 zn zx zo (zq []) zWy
@[simp] abbrev zgQ (m:List LI)(p c:Int):Int:=cellAt m p c
def zqg:Run:=rF3 (dS<|.sl .int) dI dI λb c d=>(zfO b c d,[aI<|zgQ b c d])
def zKb (N:Nat)(a:lM)(b c:Int):OA:=
 let d:=ix a b []; (oN (zbm b<|ln a)<|cond (nB<|zcj b<|ln a) (some [aI 0])<|oN (inb b<|ln a)<|oN (zbm c<|ln d)<|cond (nB<|zcj c<|ln d) (some [aI 0])<|oN (inb b<|ln a)<|oN (inb c<|ln d)<|some [aI<|ix d c 0])
def zVV (a:List LI)(b c:Int)(d:zfO a b c=true):∃N,zKb N a b c=some [aI<|zgQ a b c]:=by
 refine⟨0,?_⟩;unfold zKb oN nB;conv=>zeta
 refine must rfl (brN (λ_=>?_) λ_=>mu (must rfl (brN (λ_=>?_) λ_=>mu (mu ?_))));all_goals first|rfl|(simp only [*,zgQ,cellAt,zhj,cT,cF]<;>rfl)|simp_all[Ty.cells,zgQ,cellAt,zhj]
def zOw:vR 159 zqg:=kF3 zd4 zn zx zo (zq []) zVV
def z1b:zbb:=[(338,zqn),(283,zqn),(219,znN),(151,znN),(220,znM),(156,znM),(234,zqu),(152,zqu),(236,zjZ),(154,zjZ),(351,zkT),(300,zkT),(353,zl2),(380,zl2),(352,zoU),(301,zoU),(260,zqy),(365,zqy),(241,zss),(285,zss),(291,zEk),(243,zqB),(305,zqB),(327,zxf),(379,zzg),(344,zEm),(159,zqg)]++ctrU
def zhn:zU z1b:=zi zOZ (zi zOv<|zi zIT<|zi zIx<|zi zIS<|zi zIw<|zi zO8<|zi zOF<|zi zuf<|zi zFl<|zi zvz<|zi zIz<|zi zwW<|zi zLL<|zi zLZ<|zi zLF<|zi zPc<|zi zOL<|zi zSN<|zi zSA<|zi zOW<|zi zPg<|zi zOQ<|zi zFu<|zi zIR<|zi zPm<|zi zOw zd4)
def zKx (N:Nat)(a:lM)(b c:Int):OA:=
 (oN (zfO a b c)<|cond (nB<|zr0 a b c) (some [aI 0])<|oN (inb b<|ln a)<|oN (inb c<|ln<|ix a b [])<|some [aI<|ix (ix a b []) c 0])
def zWh (a:List LI)(b c:Int)(d:zfO a b c=true):∃N,zKx N a b c=some [aI<|zgQ a b c]:=by have e:=(zAp a b c).1;refine⟨0,?_⟩;unfold zKx oN nB;refine must rfl (brN (λ_=>?_) λ_=>mu (mu ?_));all_goals first|rfl|(simp only [*,zgQ,cellAt,cT,cF]<;>rfl)|simp_all[Ty.cells,zgQ,cellAt]
def zO0:vR 221 zqg:=kF3 zhn zn zx zo (zq []) zWh
def zdQ (t:List Slot)(n p:Int):Bool:=bif t.all (λs=>zeT s p) then ieq (ln t) n else false
@[simp] abbrev zkm (t:List Slot)(n p:Int):Bool:=true
@[simp] abbrev zfs (t:List Slot)(n p:Int):Bool:=zdQ t n p
def zo3:Run:=rF3 (dS .slot) dI dI λb c d=>(zkm b c d,[aB<|zfs b c d])
def zGW (N:Nat)(d:lS)(e f:Int):OA:=
 (iter (σ:=(Int×Int×Int×lS×Unit)) N (λg a=>let b:=a.2.2.2.1;let c:=ix b a.2.2.1 zV; (cond (ilt a.2.2.1<|ln b) (oN (inb a.2.2.1<|ln b)<|oN (zlM c a.2.1)<|cond (nB<|zjm c a.2.1) oF<|g (a.1,a.2.1,zQ .i64 a.2.2.1 1,b,()))<|some [aB<|ieq (ln b) a.1])) (e,f,0,d,()))
def zT7:=zq [(256,0,{n:=25,tm:=[(0,.sl 0 []),(1,ti),(2,ti),(7,ti)],lo:=[],ro:=[(0,.slot,false)]})]
def zTD (a:List Slot)(d c:Int)(j:zbS big [aS .slot a,aI d,aI c])(l:zkm a d c=true):∃N,zGW N a d c=some [aB<|zfs a d c]:=by
 have h:(_:List _).length<=big:=((zd1 j).1 _ (qF.2 rfl)).len;refine zcw λN g=>?_;unfold zGW oN nB;conv=>zeta
 refine(zbp a (λi (t:Unit)=>(d,c,(i:Int),a,())) _ (λ_ x (_:Unit) k=>bif (λs=>zeT s c) x then k () else oF) (λ(t:Unit)=>some [.one<|.b<|ieq (ln a) d]) (λi e t rec=>?_) (λt rec=>?_) _ ()<|g h).trans ?_;{simp only [zbF e,zbk e,zbt e,zbh e h,cT];exact zkc rfl};{simp only [zbx,cF]};rw[zie λs=>zeT s c];refine br (λf=>?_) (λf=>?_);{first|rfl|(simp only [f,zfs,zdQ,cT,cF]<;>rfl)|(simp_all [Ty.cells,zfs,zdQ];done)};{first|rfl|(simp only [f,zfs,zdQ,cT,cF]<;>rfl)|(simp_all [Ty.cells,zfs,zdQ];done)}
def zMc:vR 256 zo3:=hF3 zhn zn zx zo zT7 zTD
def zGv (N:Nat)(c:lS)(e f:Int):OA:=
 (iter (σ:=(Int×Int×Int×Int×lS×Unit)) N (λg a=>let b:=a.2.2.2.2.1;let d:=ix b a.2.2.2.1 zV; (cond (ilt a.2.2.2.1 a.2.2.1) (oN (inb a.2.2.2.1<|ln b)<|oN (zlM d a.2.1)<|cond (nB<|zjm d a.2.1) oF<|g (a.1,a.2.1,a.2.2.1,zQ .i64 a.2.2.2.1 1,b,()))<|some [aB<|ieq (ln b) a.1])) (e,f,ln c,0,c,()))
def zT2:=zq [(364,0,{n:=24,tm:=[(0,.sl 0 []),(1,ti),(2,ti),(9,.sl 0 []),(10,ti),(11,ti)],lo:=[],ro:=[(0,.slot,false)]})]
def zTg (a:List Slot)(d c:Int)(j:zbS big [aS .slot a,aI d,aI c])(l:zkm a d c=true):∃N,zGv N a d c=some [aB<|zfs a d c]:=by
 have h:(_:List _).length<=big:=((zd1 j).1 _ (qF.2 rfl)).len;refine zcw λN g=>?_;unfold zGv oN nB;conv=>zeta
 refine(zbp a (λi (t:Unit)=>(d,c,ln a,(i:Int),a,())) _ (λ_ x (_:Unit) k=>bif (λs=>zeT s c) x then k () else oF) (λ(t:Unit)=>some [.one<|.b<|ieq (ln a) d]) (λi e t rec=>?_) (λt rec=>?_) _ ()<|g h).trans ?_;{simp only [zbF e,zbk e,zbt e,zbh e h,cT];exact zkc rfl};{simp only [zbx,cF]};rw[zie λs=>zeT s c];refine br (λf=>?_) (λf=>?_);{first|rfl|(simp only [f,zfs,zdQ,cT,cF]<;>rfl)|(simp_all [Ty.cells,zfs,zdQ];done)};{first|rfl|(simp only [f,zfs,zdQ,cT,cF]<;>rfl)|(simp_all [Ty.cells,zfs,zdQ];done)}
def zLR:vR 364 zo3:=hF3 zhn zn zx zo zT2 zTg
def zc2 (c:LI):Bool:=bif c.all (λx=>zk x 0 99) then ieq (ln c) 4 else false
@[simp] abbrev zej (c:LI):Bool:=true
@[simp] abbrev zdL (c:LI):Bool:=zc2 c
def zqx:Run:=rF1 (dS .int) λb=>(zej b,[aB<|zdL b])
def zKK (N:Nat)(b:LI):OA:=
 (iter (σ:=(Int×LI×Unit)) N (λc a=>cond (ilt a.1<|ln a.2.1) (oN (inb a.1<|ln a.2.1)<|oN (zM (ix a.2.1 a.1 0) 0 99)<|cond (nB<|zk (ix a.2.1 a.1 0) 0 99) oF<|c (zQ .i64 a.1 1,a.2.1,()))<|some [aB<|ieq (ln a.2.1) 4]) (0,b,()))
def zX5:=zq [(255,0,{n:=19,tm:=[(0,.sl 0 []),(3,ti)],lo:=[],ro:=[(0,.int,false)]})]
def zWr (a:LI)(g:zbS big [aS .int a])(j:zej a=true):∃N,zKK N a=some [aB<|zdL a]:=by have f:(_:List _).length<=big:=((zd1 g).1 _ (qF.2 rfl)).len;refine zcw λN e=>?_;unfold zKK oN nB;refine(zbp a (λi (t:Unit)=>((i:Int),a,())) _ (λ_ x (_:Unit) h=>bif (λx=>zk x 0 99) x then h () else oF) (λ(t:Unit)=>some [.one<|.b<|ieq (ln a) 4]) (λi c t rec=>?_) (λt rec=>?_) _ ()<|e f).trans ?_;{simp only [zbF c,zbk c,zbt c,zbh c f,cT];exact zkc rfl};{simp only [zbx,cF]};rw[zie λx=>zk x 0 99];refine br (λd=>?_) (λd=>?_);{first|rfl|(simp only [d,zdL,zc2,cT,cF]<;>rfl)|(simp_all [Ty.cells,zdL,zc2];done)};{first|rfl|(simp only [d,zdL,zc2,cT,cF]<;>rfl)|(simp_all [Ty.cells,zdL,zc2];done)}
def zPb:vR 255 zqx:=hF1 zhn zn zx zo zX5 zWr
def zKl (N:Nat)(b:LI):OA:=
 (iter (σ:=(Int×Int×LI×Unit)) N (λc a=>cond (ilt a.2.1 a.1) (oN (inb a.2.1<|ln a.2.2.1)<|oN (zM (ix a.2.2.1 a.2.1 0) 0 99)<|cond (nB<|zk (ix a.2.2.1 a.2.1 0) 0 99) oF<|c (a.1,zQ .i64 a.2.1 1,a.2.2.1,()))<|some [aB<|ieq (ln a.2.2.1) 4]) (ln b,0,b,()))
def zXV:=zq [(363,0,{n:=18,tm:=[(0,.sl 0 []),(5,.sl 0 []),(6,ti),(7,ti)],lo:=[],ro:=[(0,.int,false)]})]
def zV6 (a:LI)(g:zbS big [aS .int a])(j:zej a=true):∃N,zKl N a=some [aB<|zdL a]:=by have f:(_:List _).length<=big:=((zd1 g).1 _ (qF.2 rfl)).len;refine zcw λN e=>?_;unfold zKl oN nB;refine(zbp a (λi (t:Unit)=>(ln a,(i:Int),a,())) _ (λ_ x (_:Unit) h=>bif (λx=>zk x 0 99) x then h () else oF) (λ(t:Unit)=>some [.one<|.b<|ieq (ln a) 4]) (λi c t rec=>?_) (λt rec=>?_) _ ()<|e f).trans ?_;{simp only [zbF c,zbk c,zbt c,zbh c f,cT];exact zkc rfl};{simp only [zbx,cF]};rw[zie λx=>zk x 0 99];refine br (λd=>?_) (λd=>?_);{first|rfl|(simp only [d,zdL,zc2,cT,cF]<;>rfl)|(simp_all [Ty.cells,zdL,zc2];done)};{first|rfl|(simp only [d,zdL,zc2,cT,cF]<;>rfl)|(simp_all [Ty.cells,zdL,zc2];done)}
def zOK:vR 363 zqx:=hF1 zhn zn zx zo zXV zV6
def zfk (i:Ins):Bool:=bif (ieq i.Op 1||ieq i.Op 2||ieq i.Op 5||ieq i.Op 6) then zk i.X 0 99 else (cond (ieq i.Op 3||ieq i.Op 4) (zk i.X 0 15)<|cond (ieq i.Op 7) (ieq i.X 0)<|cond (ieq i.Op 8) (zk i.X 0 11) false)
@[simp] abbrev zxv (i:Ins):Bool:=true
@[simp] abbrev zu4 (i:Ins):Bool:=zfk i
def zst:Run:=rF1 (dT .ins) λb=>(zxv b,[aB<|zu4 b])
def zRk (N:Nat)(a:Ins):OA:=
 let b:=ieq a.Op 4;let l:=zM a.X 0 99;let k:=aB<|zk a.X 0 99;let j:=ieq a.Op 8;let i:=ieq a.Op 7;let h:=ieq a.Op 3;let g:=zM a.X 0 11;let f:=zM a.X 0 15;let e:=aB<|ieq a.X 0;let d:=aB<|zk a.X 0 11;let c:=aB<|zk a.X 0 15; (cond (ieq a.Op 1) (cond (ieq a.Op 1) (oN l<|some [k])<|cond h (cond h (oN f<|some [c])<|cond i (some [e])<|cond j (oN g<|some [d]) oF)<|cond b (oN f<|some [c])<|cond i (some [e])<|cond j (oN g<|some [d]) oF)<|cond (ieq a.Op 2) (cond (ieq a.Op 2) (oN l<|some [k])<|cond h (cond h (oN f<|some [c])<|cond i (some [e])<|cond j (oN g<|some [d]) oF)<|cond b (oN f<|some [c])<|cond i (some [e])<|cond j (oN g<|some [d]) oF)<|cond (ieq a.Op 5) (cond (ieq a.Op 5) (oN l<|some [k])<|cond h (cond h (oN f<|some [c])<|cond i (some [e])<|cond j (oN g<|some [d]) oF)<|cond b (oN f<|some [c])<|cond i (some [e])<|cond j (oN g<|some [d]) oF)<|cond (ieq a.Op 6) (oN l<|some [k])<|cond h (cond h (oN f<|some [c])<|cond i (some [e])<|cond j (oN g<|some [d]) oF)<|cond b (oN f<|some [c])<|cond i (some [e])<|cond j (oN g<|some [d]) oF)
def zHq (a:Ins)(b:zbS big [aT .ins a])(c:zxv a=true):∃N,zRk N a=some [aB<|zu4 a]:=by
 refine⟨0,?_⟩;unfold zRk oN;conv=>zeta
 refine br (λ_=>br (λ_=>must rfl ?_) λ_=>br (λ_=>br (λ_=>must rfl ?_) λ_=>br (λ_=>?_) λ_=>br (λ_=>must rfl ?_) λ_=>?_) λ_=>br (λ_=>must rfl ?_) λ_=>br (λ_=>?_) λ_=>br (λ_=>must rfl ?_) λ_=>?_) (λ_=>br (λ_=>br (λ_=>must rfl ?_) λ_=>br (λ_=>br (λ_=>must rfl ?_) λ_=>br (λ_=>?_) λ_=>br (λ_=>must rfl ?_) λ_=>?_) λ_=>br (λ_=>must rfl ?_) λ_=>br (λ_=>?_) λ_=>br (λ_=>must rfl ?_) λ_=>?_) λ_=>br (λ_=>br (λ_=>must rfl ?_) λ_=>br (λ_=>br (λ_=>must rfl ?_) λ_=>br (λ_=>?_) λ_=>br (λ_=>must rfl ?_) λ_=>?_) λ_=>br (λ_=>must rfl ?_) λ_=>br (λ_=>?_) λ_=>br (λ_=>must rfl ?_) λ_=>?_) λ_=>br (λ_=>must rfl ?_) λ_=>br (λ_=>br (λ_=>must rfl ?_) λ_=>br (λ_=>?_) λ_=>br (λ_=>must rfl ?_) λ_=>?_) λ_=>br (λ_=>must rfl ?_) λ_=>br (λ_=>?_) λ_=>br (λ_=>must rfl ?_) λ_=>?_);all_goals first|rfl|(simp only [*,zu4,zfk,cT,cF]<;>rfl)|simp_all[Ty.cells,zu4,zfk]
def zSO:vR 397 zst:=hF1 zhn zn zx zo (zq []) zHq
def zSB:vR 415 zst:=hF1 zhn zn zx zo (zq []) zHq
def zjS (e:GExit):Bool:=bif (ieq e.Kind 0||ieq e.Kind 4) then (ieq e.Page 0&&(!e.Write&&ieq e.N 0)) else (cond (ieq e.Kind 1) (zk e.Page 0 3&&ieq e.N 0)<|cond (ieq e.Kind 2||ieq e.Kind 3) (zk e.N 0 99&&(ieq e.Page 0 && !e.Write)) false)
@[simp] def zbd7 (x:Bool):zkG x false = !x:=by cases x<;>rfl
attribute [simp] zgS
@[simp] abbrev zuI (e:GExit):Bool:=true
@[simp] abbrev zm5 (e:GExit):Bool:=zjS e
def zqp:Run:=rF1 dE λb=>(zuI b,[aB<|zm5 b])
def zKA (N:Nat)(a:GExit):OA:=
 let f:=zk a.N 0 99;let e:=zM a.N 0 99;let d:=ieq a.Kind 2;let b:=ieq a.Page 0;let c:=aB<|nB a.Write;let g:=aB<|cond (ieq a.Kind a.Kind) (cond b (cond (zkG a.Write false) (ieq a.N 0) false) false) false; (cond (ieq a.Kind 0) (cond (ieq a.Kind 0) (some [g])<|cond (ieq a.Kind 1) (oN (zM a.Page 0 3)<|cond (zk a.Page 0 3) (some [aB<|ieq a.N 0]) oF)<|cond d (cond d (oN e<|cond f (cond b (some [c]) oF) oF) oF)<|cond (ieq a.Kind 3) (oN e<|cond f (cond b (some [c]) oF) oF) oF)<|cond (ieq a.Kind 4) (some [g])<|cond (ieq a.Kind 1) (oN (zM a.Page 0 3)<|cond (zk a.Page 0 3) (some [aB<|ieq a.N 0]) oF)<|cond d (cond d (oN e<|cond f (cond b (some [c]) oF) oF) oF)<|cond (ieq a.Kind 3) (oN e<|cond f (cond b (some [c]) oF) oF) oF)
def zWi (a:GExit)(b:zuI a=true):∃N,zKA N a=some [aB<|zm5 a]:=by
 refine⟨0,?_⟩;unfold zKA oN nB;conv=>zeta
 refine br (λ_=>br (λ_=>?_) λ_=>br (λ_=>must rfl (br (λ_=>?_) λ_=>?_)) λ_=>br (λ_=>br (λ_=>must rfl (br (λ_=>br (λ_=>?_) λ_=>?_) λ_=>?_)) λ_=>?_) λ_=>br (λ_=>must rfl (br (λ_=>br (λ_=>?_) λ_=>?_) λ_=>?_)) λ_=>?_) (λ_=>br (λ_=>?_) λ_=>br (λ_=>must rfl (br (λ_=>?_) λ_=>?_)) λ_=>br (λ_=>br (λ_=>must rfl (br (λ_=>br (λ_=>?_) λ_=>?_) λ_=>?_)) λ_=>?_) λ_=>br (λ_=>must rfl (br (λ_=>br (λ_=>?_) λ_=>?_) λ_=>?_)) λ_=>?_);all_goals first|rfl|(simp only [*,zm5,zjS,cT,cF]<;>rfl)|simp_all[Ty.cells,zm5,zjS]
def zO2:vR 361 zqp:=kF1 zhn zn zx zo (zq []) zWi
def zKd (N:Nat)(a:GExit):OA:=
 let g:=zk a.N 0 99;let f:=zM a.N 0 99;let e:=ieq a.Kind 2;let d:=aB<|ieq a.N 0;let b:=ieq a.Page 0;let c:=aB<|nB a.Write; (cond (ieq a.Kind 0) (cond (ieq a.Kind 0) (cond b (cond (nB a.Write) (some [d]) oF) oF)<|cond (ieq a.Kind 1) (oN (zM a.Page 0 3)<|cond (zk a.Page 0 3) (some [d]) oF)<|cond e (cond e (oN f<|cond g (cond b (some [c]) oF) oF) oF)<|cond (ieq a.Kind 3) (oN f<|cond g (cond b (some [c]) oF) oF) oF)<|cond (ieq a.Kind 4) (cond b (cond (nB a.Write) (some [d]) oF) oF)<|cond (ieq a.Kind 1) (oN (zM a.Page 0 3)<|cond (zk a.Page 0 3) (some [d]) oF)<|cond e (cond e (oN f<|cond g (cond b (some [c]) oF) oF) oF)<|cond (ieq a.Kind 3) (oN f<|cond g (cond b (some [c]) oF) oF) oF)
def zVX (a:GExit)(b:zuI a=true):∃N,zKd N a=some [aB<|zm5 a]:=by
 refine⟨0,?_⟩;unfold zKd oN nB;conv=>zeta
 refine br (λ_=>br (λ_=>br (λ_=>brN (λ_=>?_) λ_=>?_) λ_=>?_) λ_=>br (λ_=>must rfl (br (λ_=>?_) λ_=>?_)) λ_=>br (λ_=>br (λ_=>must rfl (br (λ_=>br (λ_=>?_) λ_=>?_) λ_=>?_)) λ_=>?_) λ_=>br (λ_=>must rfl (br (λ_=>br (λ_=>?_) λ_=>?_) λ_=>?_)) λ_=>?_) (λ_=>br (λ_=>br (λ_=>brN (λ_=>?_) λ_=>?_) λ_=>?_) λ_=>br (λ_=>must rfl (br (λ_=>?_) λ_=>?_)) λ_=>br (λ_=>br (λ_=>must rfl (br (λ_=>br (λ_=>?_) λ_=>?_) λ_=>?_)) λ_=>?_) λ_=>br (λ_=>must rfl (br (λ_=>br (λ_=>?_) λ_=>?_) λ_=>?_)) λ_=>?_);all_goals first|rfl|(simp only [*,zm5,zjS,cT,cF]<;>rfl)|simp_all[Ty.cells,zm5,zjS]
def zOz:vR 399 zqp:=kF1 zhn zn zx zo (zq []) zVX
def zwA (c:Ctl):LI:=(cond (zk c.Traps 0 3) [] [1])++((cond (zk c.Post 0 255) [] [2])++((cond (ine c.Post 0) (cond c.Open [] [3]) [])++(cond (ieq c.Traps 2) (cond (ine c.Post 0) [4] []) [])))
@[simp] def zbd4 {a:Type}(x:a)(l m:List a):ap (x::l) m=x::ap l m:=rfl
@[simp] abbrev zfx (c:Ctl):Bool:=true
@[simp] abbrev zoz (c:Ctl):LI:=zwA c
def zmw:Run:=rF1 dC λb=>(zfx b,[aS .int<|zoz b])
def zA8 (N:Nat)(b:Ctl):OA:=
 let e:=aS .int [];let k:=ap (ap [] [2]) [4];let j:=ap (ap [] [1]) [4];let i:=aS .int<|ap [] [2];let h:=aS .int<|ap [] [1];let g:=ap (ap [] [2]) [3];let f:=ap (ap [] [1]) [3];let c:=ieq b.Traps 2;let a:=ine b.Post 0;let d:=ap (ap [] [1]) [2];let l:=aS .int d; (oN (zM b.Traps 0 3)<|cond (nB<|zk b.Traps 0 3) (oN (few<|ln<|ap [] [1])<|oN (zM b.Post 0 255)<|cond (nB<|zk b.Post 0 255) (oN (few<|ln d)<|cond a (cond (nB b.Open) (oN (few<|ln<|ap d [3])<|cond c (cond a (oN (few<|ln<|ap (ap d [3]) [4])<|some [aS .int<|ap (ap d [3]) [4]])<|some [aS .int<|ap d [3]])<|some [aS .int<|ap d [3]])<|cond c (cond a (oN (few<|ln<|ap d [4])<|some [aS .int<|ap d [4]])<|some [l])<|some [l])<|cond c (cond a (oN (few<|ln<|ap d [4])<|some [aS .int<|ap d [4]])<|some [l])<|some [l])<|cond a (cond (nB b.Open) (oN (few<|ln f)<|cond c (cond a (oN (few<|ln<|ap f [4])<|some [aS .int<|ap f [4]])<|some [aS .int f])<|some [aS .int f])<|cond c (cond a (oN (few<|ln j)<|some [aS .int j])<|some [h])<|some [h])<|cond c (cond a (oN (few<|ln j)<|some [aS .int j])<|some [h])<|some [h])<|oN (zM b.Post 0 255)<|cond (nB<|zk b.Post 0 255) (oN (few<|ln<|ap [] [2])<|cond a (cond (nB b.Open) (oN (few<|ln g)<|cond c (cond a (oN (few<|ln<|ap g [4])<|some [aS .int<|ap g [4]])<|some [aS .int g])<|some [aS .int g])<|cond c (cond a (oN (few<|ln k)<|some [aS .int k])<|some [i])<|some [i])<|cond c (cond a (oN (few<|ln k)<|some [aS .int k])<|some [i])<|some [i])<|cond a (cond (nB b.Open) (oN (few<|ln<|ap [] [3])<|cond c (cond a (oN (few<|ln<|ap (ap [] [3]) [4])<|some [aS .int<|ap (ap [] [3]) [4]])<|some [aS .int<|ap [] [3]])<|some [aS .int<|ap [] [3]])<|cond c (cond a (oN (few<|ln<|ap [] [4])<|some [aS .int<|ap [] [4]])<|some [e])<|some [e])<|cond c (cond a (oN (few<|ln<|ap [] [4])<|some [aS .int<|ap [] [4]])<|some [e])<|some [e])
def zwZ (a:Ctl)(b:zbS big [.agg<|zoh a])(c:zfx a=true):∃N,zA8 N a=some [aS .int<|zoz a]:=by
 refine⟨0,?_⟩;unfold zA8 oN nB;conv=>zeta
 refine must rfl (brN (λ_=>mu (must rfl (brN (λ_=>mu (br (λ_=>brN (λ_=>mu (br (λ_=>br (λ_=>mu ?_) λ_=>?_) λ_=>?_)) λ_=>br (λ_=>br (λ_=>mu ?_) λ_=>?_) λ_=>?_) λ_=>br (λ_=>br (λ_=>mu ?_) λ_=>?_) λ_=>?_)) λ_=>br (λ_=>brN (λ_=>mu (br (λ_=>br (λ_=>mu ?_) λ_=>?_) λ_=>?_)) λ_=>br (λ_=>br (λ_=>mu ?_) λ_=>?_) λ_=>?_) λ_=>br (λ_=>br (λ_=>mu ?_) λ_=>?_) λ_=>?_))) λ_=>must rfl (brN (λ_=>mu (br (λ_=>brN (λ_=>mu (br (λ_=>br (λ_=>mu ?_) λ_=>?_) λ_=>?_)) λ_=>br (λ_=>br (λ_=>mu ?_) λ_=>?_) λ_=>?_) λ_=>br (λ_=>br (λ_=>mu ?_) λ_=>?_) λ_=>?_)) λ_=>br (λ_=>brN (λ_=>mu (br (λ_=>br (λ_=>mu ?_) λ_=>?_) λ_=>?_)) λ_=>br (λ_=>br (λ_=>mu ?_) λ_=>?_) λ_=>?_) λ_=>br (λ_=>br (λ_=>mu ?_) λ_=>?_) λ_=>?_));all_goals first|rfl|(simp only [*,zoz,zwA,cT,cF]<;>rfl)|simp_all[Ty.cells,zoz,zwA]
def zFx:vR 354 zmw:=hF1 zhn zn zx zo (zq []) zwZ
def zFk:vR 381 zmw:=hF1 zhn zn zx zo (zq []) zwZ
def len8tab:ByteArray:=⟨⟨[0,1,2,2,3,3,3,3,4,4,4,4,4,4,4,4,5,5,5,5,5,5,5,5,5,5,5,5,5,5,5,5,6,6,6,6,6,6,6,6,6,6,6,6,6,6,6,6,6,6,6,6,6,6,6,6,6,6,6,6,6,6,6,6,7,7,7,7,7,7,7,7,7,7,7,7,7,7,7,7,7,7,7,7,7,7,7,7,7,7,7,7,7,7,7,7,7,7,7,7,7,7,7,7,7,7,7,7,7,7,7,7,7,7,7,7,7,7,7,7,7,7,7,7,7,7,7,7,8,8,8,8,8,8,8,8,8,8,8,8,8,8,8,8,8,8,8,8,8,8,8,8,8,8,8,8,8,8,8,8,8,8,8,8,8,8,8,8,8,8,8,8,8,8,8,8,8,8,8,8,8,8,8,8,8,8,8,8,8,8,8,8,8,8,8,8,8,8,8,8,8,8,8,8,8,8,8,8,8,8,8,8,8,8,8,8,8,8,8,8,8,8,8,8,8,8,8,8,8,8,8,8,8,8,8,8,8,8,8,8,8,8,8,8,8,8,8,8,8,8,8,8,8,8,8,8]⟩⟩
def ziy (p n:Int):Bool:=ieq (wand .i64 (zlc .i64 p n) 1) 1
def scan (p:Int):Int:=bif ziy p 7 then 7 else (cond (ziy p 6) 6<|cond (ziy p 5) 5<|cond (ziy p 4) 4<|cond (ziy p 3) 3<|cond (ziy p 2) 2<|cond (ziy p 1) 1<|cond (ziy p 0) 0<|-1)
def z7T:∀n:Fin 256,zQ .i64 0 (wcv .i64<|byteAt len8tab<|wcv .u8 (n.val:Int))=scan (n.val:Int)+1:=by decide +kernel
def zXx:∀n:Fin 256,-1<=scan (n.val:Int)/\scan (n.val:Int)<=7/\(0<=scan (n.val:Int)->wsub .i64 (n.val:Int) (zms .i64 1<|scan (n.val:Int))=zAT .i64 (n.val:Int) (zms .i64 1<|scan (n.val:Int))):=by decide +kernel
def zD8 {P:Int->Prop}(h:∀n:Fin 256,P (n.val:Int)){x:Int}(a:0<=x)(b:x<=255):P x:=by have:=h ⟨x.toNat,by omega⟩;have e:((x.toNat:Nat):Int)=x:=(by omega);simpa [e] using this
def zok (x:Int):Bool:=pc (0<=x/\x<=255)
def zkb (x:Int):Int:=scan x+1
def zjz:LW
 |[.one<|.i .u64 b]=>some (zok b,[aI<|zkb b])
 |_=>none
def zoe (N:Nat)(a:Int):OA:=
 let d:=zlc .u64 a 16;let b:=zlc .u64 a 32;let c:=zlc .u64 b 16; (cond (ige a 4294967296) (oN (ile 0 32)<|cond (ige b 65536) (oN (ile 0 16)<|cond (ige c 256) (oN (ile 0 8)<|oN (inb (wcv .u8<|zlc .u64 c 8) 256)<|some [aI<|zQ .i64 (zQ .i64 (zQ .i64 32 16) 8)<|wcv .i64<|byteAt len8tab<|wcv .u8<|zlc .u64 c 8])<|oN (inb (wcv .u8 c) 256)<|some [aI<|zQ .i64 (zQ .i64 32 16)<|wcv .i64<|byteAt len8tab<|wcv .u8 c])<|cond (ige b 256) (oN (ile 0 8)<|oN (inb (wcv .u8<|zlc .u64 b 8) 256)<|some [aI<|zQ .i64 (zQ .i64 32 8)<|wcv .i64<|byteAt len8tab<|wcv .u8<|zlc .u64 b 8])<|oN (inb (wcv .u8 b) 256)<|some [aI<|zQ .i64 32<|wcv .i64<|byteAt len8tab<|wcv .u8 b])<|cond (ige a 65536) (oN (ile 0 16)<|cond (ige d 256) (oN (ile 0 8)<|oN (inb (wcv .u8<|zlc .u64 d 8) 256)<|some [aI<|zQ .i64 (zQ .i64 (zQ .i64 0 16) 8)<|wcv .i64<|byteAt len8tab<|wcv .u8<|zlc .u64 d 8])<|oN (inb (wcv .u8 d) 256)<|some [aI<|zQ .i64 (zQ .i64 0 16)<|wcv .i64<|byteAt len8tab<|wcv .u8 d])<|cond (ige a 256) (oN (ile 0 8)<|oN (inb (wcv .u8<|zlc .u64 a 8) 256)<|some [aI<|zQ .i64 (zQ .i64 0 8)<|wcv .i64<|byteAt len8tab<|wcv .u8<|zlc .u64 a 8])<|oN (inb (wcv .u8 a) 256)<|some [aI<|zQ .i64 0<|wcv .i64<|byteAt len8tab<|wcv .u8 a])
def zD7 (N:Nat)(a:Int):evalFn (cQ z1b zp8 zJJ zXO) (zq []) N 12 369 [.one<|.i .u64 a]=zoe N a:=by kernel_rfl
def zCk (a:Int)(g:zbS big [.one<|.i .u64 a])(f:zok a=true):∃N,zoe N a=some [aI<|zkb a]:=by
 obtain⟨b,c⟩:=zK.1 f;refine⟨0,?_⟩;unfold zoe oN;conv=>zeta
 refine zcf (qH (by omega)) ?_;refine zcf (qH (by omega)) ?_;refine zcf (qH (by omega)) ?_;have e:inb (wcv .u8 a) 256=true:=zD8 (P:=λx=>inb (wcv .u8 x) 256=true) (by decide +kernel) b c;refine must e ?_;have d:=zD8 (P:=λx=>zQ .i64 0 (wcv .i64<|byteAt len8tab<|wcv .u8 x)=scan x+1) z7T b c;rw[d];rfl
def zpC:vR 369 zjz:=zVD zhn zn zx zo (zkz (by kernel_rfl)) λa d b h=>by unfold zjz at h;split at h;{obtain⟨c,rfl⟩:=zfd h;exact(zCk _ b c).elim λN e=>⟨zq [],N,(zD7 N _).trans e⟩};{cases h}
def z9l:zbb:=[(221,zqg),(256,zo3),(364,zo3),(255,zqx),(363,zqx),(397,zst),(415,zst),(361,zqp),(399,zqp),(354,zmw),(381,zmw),(369,zjz)]++z1b
def zho:zU z9l:=zi zO0 (zi zMc<|zi zLR<|zi zPb<|zi zOK<|zi zSO<|zi zSB<|zi zO2<|zi zOz<|zi zFx<|zi zFk<|zi zpC zhn)
def zjW (m:List LI)(n:Int):Bool:=bif m.all zc2 then ieq (ln m) n else false
@[simp] abbrev zj1 (m:List LI)(n:Int):Bool:=true
@[simp] abbrev zgs (m:List LI)(n:Int):Bool:=zjW m n
def zsu:Run:=rF2 (dS<|.sl .int) dI λb c=>(zj1 b c,[aB<|zgs b c])
def zRl (N:Nat)(c:lM)(d:Int):OA:=
 (iter (σ:=(Int×Int×lM×Unit)) N (λe a=>let b:=a.2.2.1; (cond (ilt a.2.1<|ln b) (oN (inb a.2.1<|ln b)<|oN (zej<|ix b a.2.1 [])<|cond (nB<|zdL<|ix b a.2.1 []) oF<|e (a.1,zQ .i64 a.2.1 1,b,()))<|some [aB<|ieq (ln b) a.1])) (d,0,c,()))
def zZL:=zq [(111,0,{n:=22,tm:=[(0,.sl 0 []),(1,ti),(5,ti)],lo:=[],ro:=[(0,.sl .int,false)]})]
def zY0 (a:List LI)(c:Int)(h:zbS big [aS (.sl .int) a,aI c])(k:zj1 a c=true):∃N,zRl N a c=some [aB<|zgs a c]:=by
 have g:(_:List _).length<=big:=((zd1 h).1 _ (qF.2 rfl)).len;refine zcw λN f=>?_;unfold zRl oN nB;conv=>zeta
 refine(zbp a (λi (t:Unit)=>(c,(i:Int),a,())) _ (λ_ x (_:Unit) j=>bif (zc2) x then j () else oF) (λ(t:Unit)=>some [.one<|.b<|ieq (ln a) c]) (λi d t rec=>?_) (λt rec=>?_) _ ()<|f g).trans ?_;{simp only [zbF d,zbk d,zbt d,zbh d g,cT];exact zkc rfl};{simp only [zbx,cF]};rw[zie<|zc2];refine br (λe=>?_) (λe=>?_);{first|rfl|(simp only [e,zgs,zjW,cT,cF]<;>rfl)|(simp_all [Ty.cells,zgs,zjW];done)};{first|rfl|(simp only [e,zgs,zjW,cT,cF]<;>rfl)|(simp_all [Ty.cells,zgs,zjW];done)}
def zSP:vR 111 zsu:=hF2 zho zn zx zo zZL zY0
def zQ9 (N:Nat)(c:lM)(d:Int):OA:=
 (iter (σ:=(Int×Int×Int×lM×Unit)) N (λe a=>let b:=a.2.2.2.1; (cond (ilt a.2.2.1 a.2.1) (oN (inb a.2.2.1<|ln b)<|oN (zej<|ix b a.2.2.1 [])<|cond (nB<|zdL<|ix b a.2.2.1 []) oF<|e (a.1,a.2.1,zQ .i64 a.2.2.1 1,b,()))<|some [aB<|ieq (ln b) a.1])) (d,ln c,0,c,()))
def zZJ:=zq [(263,0,{n:=21,tm:=[(0,.sl 0 []),(1,ti),(7,.sl 0 []),(8,ti),(9,ti)],lo:=[],ro:=[(0,.sl .int,false)]})]
def zYQ (a:List LI)(c:Int)(h:zbS big [aS (.sl .int) a,aI c])(k:zj1 a c=true):∃N,zQ9 N a c=some [aB<|zgs a c]:=by
 have g:(_:List _).length<=big:=((zd1 h).1 _ (qF.2 rfl)).len;refine zcw λN f=>?_;unfold zQ9 oN nB;conv=>zeta
 refine(zbp a (λi (t:Unit)=>(c,ln a,(i:Int),a,())) _ (λ_ x (_:Unit) j=>bif (zc2) x then j () else oF) (λ(t:Unit)=>some [.one<|.b<|ieq (ln a) c]) (λi d t rec=>?_) (λt rec=>?_) _ ()<|f g).trans ?_;{simp only [zbF d,zbk d,zbt d,zbh d g,cT];exact zkc rfl};{simp only [zbx,cF]};rw[zie<|zc2];refine br (λe=>?_) (λe=>?_);{first|rfl|(simp only [e,zgs,zjW,cT,cF]<;>rfl)|(simp_all [Ty.cells,zgs,zjW];done)};{first|rfl|(simp only [e,zgs,zjW,cT,cF]<;>rfl)|(simp_all [Ty.cells,zgs,zjW];done)}
def zSC:vR 263 zsu:=hF2 zho zn zx zo zZJ zYQ
def zd7 (p:List Ins):Bool:=bif p.all zfk then zk (ln p) 1 12 else false
@[simp] abbrev zuK (p:List Ins):Bool:=true
@[simp] abbrev zis (p:List Ins):Bool:=zd7 p
def zqz:Run:=rF1 (dS .ins) λb=>(zuK b,[aB<|zis b])
def zKM (N:Nat)(c:lI):OA:=
 (iter (σ:=(Int×lI×Unit)) N (λd a=>let b:=ix a.2.1 a.1 zsV; (cond (ilt a.1<|ln a.2.1) (oN (inb a.1<|ln a.2.1)<|oN (zxv b)<|cond (nB<|zu4 b) oF<|d (zQ .i64 a.1 1,a.2.1,()))<|oN (zM (ln a.2.1) 1 12)<|some [aB<|zk (ln a.2.1) 1 12])) (0,c,()))
def zX6:=zq [(360,0,{n:=19,tm:=[(0,.sl 0 []),(3,ti)],lo:=[],ro:=[(0,.ins,false)]})]
def zWs (a:List Ins)(g:zbS big [aS .ins a])(j:zuK a=true):∃N,zKM N a=some [aB<|zis a]:=by
 have f:(_:List _).length<=big:=((zd1 g).1 _ (qF.2 rfl)).len;refine zcw λN e=>?_;unfold zKM oN nB;conv=>zeta
 refine(zbp a (λi (t:Unit)=>((i:Int),a,())) _ (λ_ x (_:Unit) h=>bif (zfk) x then h () else oF) (λ(t:Unit)=>cond (zM (ln a) 1 12) (some [.one<|.b<|zk (ln a) 1 12]) none) (λi c t rec=>?_) (λt rec=>?_) _ ()<|e f).trans ?_;{simp only [zbF c,zbk c,zbt c,zbh c f,cT];exact zkc rfl};{simp only [zbx,cF]};rw[zie<|zfk];refine br (λd=>?_) (λd=>?_);{refine must rfl ?_;first|rfl|(simp only [d,zis,zd7,cT,cF]<;>rfl)|(simp_all [Ty.cells,zis,zd7];done)};{first|rfl|(simp only [d,zis,zd7,cT,cF]<;>rfl)|(simp_all [Ty.cells,zis,zd7];done)}
def zPd:vR 360 zqz:=hF1 zho zn zx zo zX6 zWs
def zKm (N:Nat)(b:lI):OA:=
 (iter (σ:=(Int×Int×lI×Unit)) N (λd a=>let c:=ix a.2.2.1 a.2.1 zsV; (cond (ilt a.2.1 a.1) (oN (inb a.2.1<|ln a.2.2.1)<|oN (zxv c)<|cond (nB<|zu4 c) oF<|d (a.1,zQ .i64 a.2.1 1,a.2.2.1,()))<|oN (zM (ln a.2.2.1) 1 12)<|some [aB<|zk (ln a.2.2.1) 1 12])) (ln b,0,b,()))
def zXW:=zq [(398,0,{n:=18,tm:=[(0,.sl 0 []),(5,.sl 0 []),(6,ti),(7,ti)],lo:=[],ro:=[(0,.ins,false)]})]
def zV7 (a:List Ins)(g:zbS big [aS .ins a])(j:zuK a=true):∃N,zKm N a=some [aB<|zis a]:=by
 have f:(_:List _).length<=big:=((zd1 g).1 _ (qF.2 rfl)).len;refine zcw λN e=>?_;unfold zKm oN nB;conv=>zeta
 refine(zbp a (λi (t:Unit)=>(ln a,(i:Int),a,())) _ (λ_ x (_:Unit) h=>bif (zfk) x then h () else oF) (λ(t:Unit)=>cond (zM (ln a) 1 12) (some [.one<|.b<|zk (ln a) 1 12]) none) (λi c t rec=>?_) (λt rec=>?_) _ ()<|e f).trans ?_;{simp only [zbF c,zbk c,zbt c,zbh c f,cT];exact zkc rfl};{simp only [zbx,cF]};rw[zie<|zfk];refine br (λd=>?_) (λd=>?_);{refine must rfl ?_;first|rfl|(simp only [d,zis,zd7,cT,cF]<;>rfl)|(simp_all [Ty.cells,zis,zd7];done)};{first|rfl|(simp only [d,zis,zd7,cT,cF]<;>rfl)|(simp_all [Ty.cells,zis,zd7];done)}
def zOM:vR 398 zqz:=hF1 zho zn zx zo zXW zV7
def znt (c:Ctl):Bool:=ieq (ln<|zwA c) 0
@[simp] abbrev znZ (c:Ctl):Bool:=znt c
def zsr:Run:=rF1 dC λb=>(zfx b,[aB<|znZ b])
def zRh (N:Nat)(a:Ctl):OA:=
 (oN (zfx a)<|some [aB<|ieq (ln<|zoz a) 0])
def zHp (a:Ctl)(b:zbS big [.agg<|zoh a])(c:zfx a=true):∃N,zRh N a=some [aB<|znZ a]:=by refine⟨0,?_⟩;unfold zRh oN;refine must rfl ?_;first|rfl|(simp only [*,znZ,znt,cT,cF]<;>rfl)|simp_all[Ty.cells,znZ,znt]
def zSL:vR 248 zsr:=hF1 zho zn zx zo (zq []) zHp
def zSy:vR 317 zsr:=hF1 zho zn zx zo (zq []) zHp
def zeB (p:Int):Int:=bif zeh p then scan p else -1
def zQ5 {x:Int}(a:0<=x)(b:x<=255):wcv .u64 x=x:=zD8 (P:=λx=>wcv .u64 x=x) (by decide +kernel) a b
@[simp] abbrev zim (p:Int):Int:=zeB p
def zqj:Run:=rF1 dI λb=>(zcm b,[aI<|zim b])
def zKr (N:Nat)(a:Int):OA:=
 (oN (zcm a)<|cond (nB<|zeW a) (some [aI<|-1])<|oN (zok<|wcv .u64 a)<|some [aI<|wsub .i64 (zkb<|wcv .u64 a) 1])
def zWc (a:Int)(d:zcm a=true):∃N,zKr N a=some [aI<|zim a]:=by refine⟨0,?_⟩;unfold zKr oN nB;refine must rfl ?_;cases h:zeh a;{refine must (by simp[h]) ?_;simp[zeB,h]};{obtain⟨b,c⟩:=zfX.1 h;have r:=zD8 (P:=λx=>-1<=scan x/\scan x<=7/\(0<=scan x->wsub .i64 x (zms .i64 1<|scan x)=zAT .i64 x (zms .i64 1<|scan x))) zXx b c;refine zcf (by simp[h]) ?_;rw[zQ5 b c];refine must (zbg ⟨b,c⟩) ?_;have e:wsub .i64 (zkb a) 1=scan a:=(by unfold zkb;rw[zr6 (by omega) (by omega)];omega);rw[e];simp[zeB,h]}
def zOS:vR 375 zqj:=kF1 zho zn zx zo (zq []) zWc
def zKR (N:Nat)(b:Int):OA:=
 (iter (σ:=(Int×Int×Unit)) N (λc a=>cond (ige a.2.1 0) (oN (zcm a.1)<|cond (zeW a.1) (oN (ile 0<|wcv .u64 a.2.1)<|cond (ieq (wand .i64 (zlc .i64 a.1<|wcv .u64 a.2.1) 1) 1) (some [aI a.2.1])<|c (a.1,wsub .i64 a.2.1 1,()))<|some [aI<|-1])<|some [aI<|-1]) (b,7,()))
def zX8:=zq [(356,0,{n:=19,tm:=[(0,ti),(3,ti)],lo:=[],ro:=[]})]
def zWw (a:Int)(C:zcm a=true):∃N,zKR N a=some [aI<|zim a]:=by refine⟨10,?_⟩;unfold zKR oN;cases h:zeh a;{rw [zeD];refine must rfl ?_;refine must rfl ?_;refine zcf h ?_;simp[zeB,h]};{have c:zeW a=true:=h;rw[zeD];refine must rfl (must rfl (must c (must rfl (br (λr=>?_) λr=>?_))));{have A:ziy a 7=true:=r;simp[zeB,h,scan,A]};have b:ziy a 7=false:=r;show iter 9 _ (a,6,())=_;rw[zeD];refine must rfl (must rfl (must c (must rfl (br (λq=>?_) λq=>?_))));{have z:ziy a 6=true:=q;simp[zeB,h,scan,z,b]};have d:ziy a 6=false:=q;show iter 8 _ (a,5,())=_;rw[zeD];refine must rfl (must rfl (must c (must rfl (br (λp=>?_) λp=>?_))));{have y:ziy a 5=true:=p;simp[zeB,h,scan,y,b,d]};have e:ziy a 5=false:=p;show iter 7 _ (a,4,())=_;rw[zeD];refine must rfl (must rfl (must c (must rfl (br (λn=>?_) λn=>?_))));{have x:ziy a 4=true:=n;simp[zeB,h,scan,x,b,d,e]};have f:ziy a 4=false:=n;show iter 6 _ (a,3,())=_;rw[zeD];refine must rfl (must rfl (must c (must rfl (br (λm=>?_) λm=>?_))));{have w:ziy a 3=true:=m;simp[zeB,h,scan,w,b,d,e,f]};have g:ziy a 3=false:=m;show iter 5 _ (a,2,())=_;rw[zeD];refine must rfl (must rfl (must c (must rfl (br (λl=>?_) λl=>?_))));{have v:ziy a 2=true:=l;simp[zeB,h,scan,v,b,d,e,f,g]};have i:ziy a 2=false:=l;show iter 4 _ (a,1,())=_;rw[zeD];refine must rfl (must rfl (must c (must rfl (br (λk=>?_) λk=>?_))));{have u:ziy a 1=true:=k;simp[zeB,h,scan,u,b,d,e,f,g,i]};have s:ziy a 1=false:=k;show iter 3 _ (a,0,())=_;rw[zeD];refine must rfl (must rfl (must c (must rfl (br (λj=>?_) λj=>?_))));{have t:ziy a 0=true:=j;simp[zeB,h,scan,t,b,d,e,f,g,i,s]};have B:ziy a 0=false:=j;show iter 2 _ (a,-1,())=_;rw[zeD];refine zcf rfl ?_;simp[zeB,h,scan,b,d,e,f,g,i,s,B]}
def zPi:vR 356 zqj:=kF1 zho zn zx zo zX8 zWw
def zbV {c:Cur}{i k:Int}(h:zbj c)(a:0<=i):zbj ⟨c.b,i,k⟩:=⟨a,h.2⟩
def z0t {c:Cur}(h:zbj c){l:LI}(a:l≠[]):zbr c l∈l:=(zzr<|zfR h a).2.2 (kT.2 a)
def zhm {c:Cur}(h:zbj c){n:Int}(a:0<n):0<=zy c n/\zy c n<n:=(zjo<|zbG h n).2.2 a
def zMB {o x:Int}(h:(o=1\/o=2\/o=5\/o=6)/\0<=x/\x<=99\/(o=3\/o=4)/\0<=x/\x<=15\/o=8/\0<=x/\x<=11):zfk ⟨o,x⟩=true:=by have w:∀{a b:Int},a<=x->x<=b->zk x a b=true:=λc d=>(by simp only[zk,ige,ile,qE,qY];exact⟨c,d⟩);rcases h with⟨h|h|h|h,c,d⟩|⟨h|h,c,d⟩|⟨h,c,d⟩<;>subst h<;>exact w c d
def zzD (N:Nat)(c:Cur)  : OA :=
 let d:=zbr c [1,2,3,3,3,4,4,4,5,6,8];let a:=({ (zZ c [1,2,3,3,3,4,4,4,5,6,8]) with b:=c.b}:Cur); (share (oN (zD a 16)<|some [.agg [.s .u8 c.b,.i .i64 (zf a 16).i,.i .i64 (zf a 16).h],.agg [.i .i64 d,.i .i64<|zy a 16]]) λf=>share (cond (ieq d 8) (oN (zD a 4)<|some [.agg [.s .u8 c.b,.i .i64 (zf a 4).i,.i .i64 (zf a 4).h],.agg [.i .i64 d,.i .i64<|zy a 4]])<|oN (zD a 100)<|some [.agg [.s .u8 c.b,.i .i64 (zf a 100).i,.i .i64 (zf a 100).h],.agg [.i .i64 d,.i .i64<|zy a 100]]) λe=>oN (zby c [1,2,3,3,3,4,4,4,5,6,8])<|cond (ieq d 3) (cond (ieq d 3) f e)<|cond (ieq d 4) f e)
def zsH (c:Cur)(s:Cur)(a:Ins):Prop:=(∃N,zzD N c=some (AV.agg (zcg s)::[aT .ins a]))/\(s.b=c.b/\0<=s.i)/\(zfk a=true)
def zlP (c:Cur)  : Bool:=wC (zsH c)
def zhQ (c:Cur)  : Cur:=wS (zsH c)
def zhz (c:Cur)  : Ins:=wV (zsH c)
def zNu {c:Cur}(h:zlP c=true):zsH c (zhQ c) (zhz c):=wG h
def zAC (c:Cur)  : 0<=(zhQ c).i:=wP λh=>h.2.1.2
def z2v (c:Cur)(h:∃N,Ends (wE (λa=>aT .ins a) c.b λa=>zfk a=true)<|zzD N c):zlP c=true:=wI (λ_ _ h=>h) h
def zBw:zeR:=rP0 λc=>(zlP c,zhQ c,[aT .ins<|zhz c])
def zPo:zb7 Tryz.prog 374 [false,true,true] zBw:=hP0 zg4 zbe zWU zo (zq []) (λ_ h=>(zNu h).1)
def zUm {c:Cur}(h:zbj c):zlP c=true:=by
 refine z2v c ⟨0,?_⟩;have p:([1,2,3,3,3,4,4,4,5,6,8]:LI)≠[]:=(by simp);have q:=z0t h p;have f:zbj {zZ c [1,2,3,3,3,4,4,4,5,6,8] with b:=c.b}:=zbV h (zcb _ _);have t:=zhm f (n:=16) (by omega);have w:=zhm f (n:=4) (by omega);have m:=zhm f (n:=100) (by omega);unfold zzD oN;conv=>zeta
 generalize zbr c [1,2,3,3,3,4,4,4,5,6,8]=o at q;simp only[qG,qO,or_false]at q;have j:∀{n:Int},ieq o n=false->o≠n:=λh e=>(by subst e;simp[ieq]at h);have k:∀{n:Int},ieq o n=true->o=n:=λh=>by simpa [ieq] using h
 have L:∀(n:Int),0<n->(zfk ⟨o,zy {zZ c [1,2,3,3,3,4,4,4,5,6,8] with b:=c.b} n⟩=true)->Ends (λa=>∃s r,a=(AV.agg (zcg s)::[aT .ins r])/\(s.b=c.b/\0<=s.i)/\zfk r=true)
  (cond (zD {zZ c [1,2,3,3,3,4,4,4,5,6,8] with b:=c.b} n) (some (AV.agg [.s .u8 c.b,.i .i64 (zf {zZ c [1,2,3,3,3,4,4,4,5,6,8] with b:=c.b} n).i,.i .i64 (zf {zZ c [1,2,3,3,3,4,4,4,5,6,8] with b:=c.b} n).h]::[.agg [.i .i64 o,.i .i64<|zy {zZ c [1,2,3,3,3,4,4,4,5,6,8] with b:=c.b} n]])) none):=
  λn x u=>zG (zbG f n) (zbN (aT .ins) (v:=⟨o,zy _ n⟩) (zI _ _) u)
 refine zG (zfR h p) (zbI (λg=>zbI (λ_=>L 16 (by omega) (zMB ?_)) λd=>absurd (k g) (j d)) λg=>zbI (λd=>L 16 (by omega) (zMB ?_)) λd=>zbI (λl=>L 4 (by omega) (zMB ?_)) λl=>L 100 (by omega) (zMB ?_));{have:=k g;omega};{have:=k d;omega};{have:=k l;omega};{have:=j g;have:=j d;have:=j l;omega}
def z9X:zdn:=[(374,[false,true,true],zBw)]++z9W
def zWV:zco z9X:=zcZ zWU (by
 intro x a;simp only[qG,qO,or_false]at a;rcases a with rfl
 .exact zPo)
def zi4 {x y:Int}(a:0<=x)(b:x<=1000000)(c:0<=y)(d:y<=1000000):zQ .i64 x y=x+y:=zu7 (by omega) (by omega)
def zmL {a:Type}{l:List a}(h:ln l<=1000000):few (ln l)=true:=qK ⟨by unfold ln;omega,by omega⟩
def zjw {a:Type}(l:List a)(x:a):ln (ap l [x])=ln l+1:=by simp[ln,ap]
def zxG (N:Nat)(c:Cur)  : OA :=
 (iter (σ:=(Int×Int×Int×lI×LI×Unit)) N (λj d=>let e:=d.2.2.2.1;let f:=d.2.2.2.2.1;let g:=(⟨f,d.2.1,d.2.2.1⟩:Cur);let a:=({ (zf g 7) with b:=f}:Cur); (oN (zD g 7)<|cond (ilt d.1<|zQ .i64 2<|zy g 7) (oN (zlP a)<|oN (few<|ln<|ap e [zhz a])<|j (zQ .i64 d.1 1,(zhQ a).i,(zhQ a).h,ap e [zhz a],f,()))<|oN (zdI a 3)<|cond (zdW a 3) (oN (few<|ln<|ap e [(⟨7,0⟩:Ins)])<|some [.agg [.s .u8 f,.i .i64 (zW a 3).i,.i .i64 (zW a 3).h],aS .ins<|ap e [(⟨7,0⟩:Ins)]])<|oN (few<|ln<|ap e [(⟨8,0⟩:Ins)])<|some [.agg [.s .u8 f,.i .i64 (zW a 3).i,.i .i64 (zW a 3).h],aS .ins<|ap e [(⟨8,0⟩:Ins)]])) (0,c.i,c.h,[],c.b,()))
def zUb:=zq [(348,0,{n:=29,tm:=[(0,.lp 0 0),(3,.sl 0 []),(4,ti)],lo:=[(0,[.sl 1 [],ti,ti])],ro:=[(0,.ins,true),(1,.u8,false)]})]
def zq5 (c:Cur)(s:Cur)(a:List Ins):Prop:=(∃N,zxG N c=some (AV.agg (zcg s)::[aS .ins a]))/\(s.b=c.b/\0<=s.i)/\(zd7 a=true)
def ziP (c:Cur)  : Bool:=wC (zq5 c)
def zbd (c:Cur)  : Cur:=wS (zq5 c)
def zcu (c:Cur)  : List Ins:=wV (zq5 c)
def zsI {c:Cur}(h:ziP c=true):zq5 c (zbd c) (zcu c):=wG h
def zkq (c:Cur)  : 0<=(zbd c).i:=wP λh=>h.2.1.2
def zZo (c:Cur)(h:∃N,Ends (wE (λa=>aS .ins a) c.b λa=>zd7 a=true)<|zxG N c):ziP c=true:=wI (λ_ _ h=>h) h
def zy6:zeR:=rP0 λc=>(ziP c,zbd c,[aS .ins<|zcu c])
def zMk:zb7 Tryz.prog 348 [false,true,true] zy6:=hP0 zg4 zbe zWV zo zUb (λ_ h=>(zsI h).1)
def zEc {c:Cur}(h:zbj c):ziP c=true:=by
 refine zZo c ⟨9,?_⟩;unfold zxG oN;conv=>zeta
 refine zor (λn s=>s.1+(n:Int)=8/\0<=s.1/\0<=s.2.1/\(∀x∈s.2.2.2.1,zfk x=true)/\ln s.2.2.2.1=s.1/\s.2.2.2.2.1=c.b) ?_ 9 8 _ ⟨rfl,kN 0,h.1,by simp,rfl,rfl⟩ (by omega);rintro n ⟨t,i,k,l,b,u⟩ rec ⟨B,g,v,j,w,z⟩ f;dsimp only at B g v j w z ⊢;subst z;have a:zbj ⟨c.b,i,k⟩:=zbV h v;have d:=zhm a (n:=7) (by omega);have A:=zi4 (x:=2) (by omega) (by omega) d.1 (by omega);have m:zbj {zf ⟨c.b,i,k⟩ 7 with b:=c.b}:=zbV h (zI _ _);have e:∀(y:Ins),zfk y=true->2<=t->zd7 (ap l [y])=true:=(by intro y C D;unfold zd7;rw[zjw,w];have:(ap l [y]).all zfk=true:=(by simp only[ap,List.all_append,k6,List.all_nil,vI,qE];exact⟨qM.2 j,C⟩);rw[this,cT];simp only[zk,ige,ile,qE,qY];omega);refine zG (zbG a 7) (zbI (λp=>?_) λp=>?_);{have r:t<zQ .i64 2 (zy ⟨c.b,i,k⟩ 7):=qD p;rw[A]at r;refine zG (zUm m) (zG (zmL (by rw[zjw];omega))<|f (n-1) _ (by omega) ⟨?_,?_,zAC _,?_,?_,rfl⟩);{show zQ .i64 t 1+_=8;rw[zi4 g (by omega) (by omega) (by omega)];omega};{show 0<=zQ .i64 t 1;rw[zi4 g (by omega) (by omega) (by omega)];omega};{intro x d;rcases jO.1 d with d|d;{exact j x d};{rw [qF.1 d];exact(zNu<|zUm m).2.2}};{show ln (ap l [_])=zQ .i64 t 1;rw[zjw,zi4 g (by omega) (by omega) (by omega)];omega}};{have q:¬ t<zQ .i64 2 (zy ⟨c.b,i,k⟩ 7):=qW p;rw[A]at q;refine zG (zkQ m 3) (zbI (λ_=>zG (zmL (by rw[zjw];omega)) (zbN (aS .ins) (zcS _ _) (e _ rfl (by omega)))) λ_=>zG (zmL (by rw[zjw];omega)) (zbN (aS .ins) (zcS _ _) (e _ rfl (by omega))))}
def z9Y:zdn:=[(348,[false,true,true],zy6)]++z9X
def zWW:zco z9Y:=zcZ zWV (by
 intro x a;simp only[qG,qO,or_false]at a;rcases a with rfl
 .exact zMk)
def zYi {f:Type}{c:Cur}(h:zbj c){P:f->Prop}{fc:Cur->Bool}{fs:Cur->Cur}{fv:Cur->f}(C:∀{c:Cur},zbj c->fc c=true)(D:∀c,0<=(fs c).i)(hg:∀{c:Cur},zbj c->P (fv c)){G:Ans->Prop}{R:Cur->List f->Ans}(B:∀s l,s.b=c.b->0<=s.i->1<=l.length->l.length<=2->(∀x∈l,P x)->G (R s l)){F:(Int×Int×Int×List f×LI×Unit->OA)->Int×Int×Int×List f×LI×Unit->OA}(A:∀rec t i k l,F rec (t,i,k,l,c.b,())=bif zD ⟨c.b,i,k⟩ 2 then (bif ilt t (zQ .i64 1 (zy ⟨c.b,i,k⟩ 2)) then (bif fc { zf ⟨c.b,i,k⟩ 2 with b:=c.b } then (bif few (ln (ap l [fv { zf ⟨c.b,i,k⟩ 2 with b:=c.b }])) then
        rec (zQ .i64 t 1,(fs {zf ⟨c.b,i,k⟩ 2 with b:=c.b}).i,(fs {zf ⟨c.b,i,k⟩ 2 with b:=c.b}).h,ap l [fv {zf ⟨c.b,i,k⟩ 2 with b:=c.b}],c.b,()) else none) else none) else some (R ⟨c.b,(zf ⟨c.b,i,k⟩ 2).i,(zf ⟨c.b,i,k⟩ 2).h⟩ l)) else none) :
 Ends G (iter 3 F (0,c.i,c.h,[],c.b,())):=by
 refine zor (fun n s=>s.1+(n:Int)=2/\0<=s.1/\0<=s.2.1/\(∀x∈s.2.2.2.1,P x)/\ln s.2.2.2.1=s.1/\s.2.2.2.2.1=c.b) ?_ 3 2 _ ⟨rfl,kN 0,h.1,by simp,rfl,rfl⟩ (by omega)
 rintro n ⟨t,i,k,l,b,u⟩ rec ⟨z,m,p,g,q,r⟩ e
 dsimp only at z m p g q r
 subst r;rw[A];have a:zbj ⟨c.b,i,k⟩:=zbV h p;have d:=zhm a (n:=2) (by omega)
 have w:=zi4 (x:=1) (by omega) (by omega) d.1 (by omega)
 have v:zbj {zf ⟨c.b,i,k⟩ 2 with b:=c.b}:=zbV h (zI _ _);refine zG (zbG a 2) (zbI (fun j=>?_) (fun j=>?_))
 .have hlt:t<zQ .i64 1 (zy ⟨c.b,i,k⟩ 2):=qD j;rw[w]at hlt;have E:=zi4 (y:=1) m (by omega) (by omega) (by omega)
  refine zG (C v) (zG (zmL (by rw[zjw];omega)) (e (n-1) _ (by omega) ⟨?_,?_,D _,?_,?_,rfl⟩))
  .show zQ .i64 t 1+_=2
   omega
  .show 0<=zQ .i64 t 1
   omega
  .intro x d;rcases jO.1 d with d|d
   .exact g x d
   .rw [qF.1 d];exact hg v
  .show ln (ap l [_])=zQ .i64 t 1
   rw[zjw];omega
 .have hge:¬ t<zQ .i64 1 (zy ⟨c.b,i,k⟩ 2):=qW j;rw[w]at hge;unfold ln at q;exact zpY (B _ l rfl (zI _ _) (by omega) (by omega) g)
def zvg (N:Nat)(c:Cur)  : OA :=
 (iter (σ:=(Int×Int×Int×lP×LI×Unit)) N (λg a=>let f:=a.2.2.2.2.1;let e:=(⟨f,a.2.1,a.2.2.1⟩:Cur);let d:=({ (zf e 2) with b:=f}:Cur); (oN (zD e 2)<|cond (ilt a.1<|zQ .i64 1<|zy e 2) (oN (ziP d)<|oN (few<|ln<|ap a.2.2.2.1 [zcu d])<|g (zQ .i64 a.1 1,(zbd d).i,(zbd d).h,ap a.2.2.2.1 [zcu d],f,()))<|some [.agg [.s .u8 f,.i .i64 (zf e 2).i,.i .i64 (zf e 2).h],aS (.sl .ins) a.2.2.2.1])) (0,c.i,c.h,[],c.b,()))
def zQZ:=zq [(274,0,{n:=19,tm:=[(0,.lp 0 0),(3,.sl 0 []),(4,ti)],lo:=[(0,[.sl 1 [],ti,ti])],ro:=[(0,.sl .ins,true),(1,.u8,false)]})]
def zpd (c:Cur)(s:Cur)(a:List (List Ins)):Prop:=(∃N,zvg N c=some (AV.agg (zcg s)::[aS (.sl .ins) a]))/\(s.b=c.b/\0<=s.i)/\(1<=a.length/\a.length<=2/\∀x∈a,zd7 x=true)
def zk7 (c:Cur)  : Bool:=wC (zpd c)
def zk8 (c:Cur)  : Cur:=wS (zpd c)
def zrf (c:Cur)  : List (List Ins):=wV (zpd c)
def zEv {c:Cur}(h:zk7 c=true):zpd c (zk8 c) (zrf c):=wG h
def zXu (c:Cur)  : 0<=(zk8 c).i:=wP λh=>h.2.1.2
def zXt (c:Cur)(h:∃N,Ends (wE (λa=>aS (.sl .ins) a) c.b λa=>1<=a.length/\a.length<=2/\∀x∈a,zd7 x=true)<|zvg N c):zk7 c=true:=wI (λ_ _ h=>h) h
def zxb:zeR:=rP0 λc=>(zk7 c,zk8 c,[aS (.sl .ins)<|zrf c])
def zJh:zb7 Tryz.prog 274 [false,true,true] zxb:=hP0 zg4 zbe zWW zo zQZ (λ_ h=>(zEv h).1)
def z0v {c:Cur}(h:zbj c):zk7 c=true:=by
 refine zXt c ⟨3,?_⟩;unfold zvg oN;conv=>zeta
 exact zYi h (P:=λx=>zd7 x=true) (fc:=ziP) (fs:=zbd) (fv:=zcu) (R:=λs l=>AV.agg (zcg s)::[aS (.sl .ins) l]) zEc zkq (λh=>(zsI<|zEc h).2.2) (λs l d e a b f=>⟨s,l,rfl,⟨d,e⟩,a,b,f⟩) (λrec t i k l=>rfl)
def z9Z:zdn:=[(274,[false,true,true],zxb)]++z9Y
def zWX:zco z9Z:=zcZ zWW (by
 intro x a;simp only[qG,qO,or_false]at a;rcases a with rfl
 .exact zJh)
def zzI (N:Nat)(c:Cur)  : OA :=
 (iter (σ:=(Int×Int×Int×lQ×LI×Unit)) N (λg a=>let f:=a.2.2.2.2.1;let e:=(⟨f,a.2.1,a.2.2.1⟩:Cur);let d:=({ (zf e 2) with b:=f}:Cur); (oN (zD e 2)<|cond (ilt a.1<|zQ .i64 1<|zy e 2) (oN (zk7 d)<|oN (few<|ln<|ap a.2.2.2.1 [zrf d])<|g (zQ .i64 a.1 1,(zk8 d).i,(zk8 d).h,ap a.2.2.2.1 [zrf d],f,()))<|some [.agg [.s .u8 f,.i .i64 (zf e 2).i,.i .i64 (zf e 2).h],aS (.sl<|.sl .ins) a.2.2.2.1])) (0,c.i,c.h,[],c.b,()))
def zYc:=zq [(138,0,{n:=19,tm:=[(0,.lp 0 0),(3,.sl 0 []),(4,ti)],lo:=[(0,[.sl 1 [],ti,ti])],ro:=[(0,.sl<|.sl .ins,true),(1,.u8,false)]})]
def zsN (c:Cur)(s:Cur)(a:List (List<|List Ins)):Prop:=(∃N,zzI N c=some (AV.agg (zcg s)::[aS (.sl<|.sl .ins) a]))/\(s.b=c.b/\0<=s.i)/\(1<=a.length/\a.length<=2/\∀p∈a,1<=p.length/\p.length<=2/\∀x∈p,zd7 x=true)
def zrg (c:Cur)  : Bool:=wC (zsN c)
def zn7 (c:Cur)  : Cur:=wS (zsN c)
def zv9 (c:Cur)  : List (List<|List Ins):=wV (zsN c)
def zNw {c:Cur}(h:zrg c=true):zsN c (zn7 c) (zv9 c):=wG h
def z2H (c:Cur)  : 0<=(zn7 c).i:=wP λh=>h.2.1.2
def z2G (c:Cur)(h:∃N,Ends (wE (λa=>aS (.sl<|.sl .ins) a) c.b λa=>1<=a.length/\a.length<=2/\∀p∈a,1<=p.length/\p.length<=2/\∀x∈p,zd7 x=true)<|zzI N c):zrg c=true:=wI (λ_ _ h=>h) h
def zBB:zeR:=rP0 λc=>(zrg c,zn7 c,[aS (.sl<|.sl .ins)<|zv9 c])
def zPt:zb7 Tryz.prog 138 [false,true,true] zBB:=hP0 zg4 zbe zWX zo zYc (λ_ h=>(zNw h).1)
def z8s {c:Cur}(h:zbj c):zrg c=true:=by
 refine z2G c ⟨3,?_⟩;unfold zzI oN;conv=>zeta
 exact zYi h (P:=λp=>1<=p.length/\p.length<=2/\∀x∈p,zd7 x=true) (fc:=zk7) (fs:=zk8) (fv:=zrf) (R:=λs l=>AV.agg (zcg s)::[aS (.sl<|.sl .ins) l]) z0v zXu (λh=>(zEv<|z0v h).2.2) (λs l d e a b f=>⟨s,l,rfl,⟨d,e⟩,a,b,f⟩) (λrec t i k l=>rfl)
def z90:zdn:=[(138,[false,true,true],zBB)]++z9Z
def zWY:zco z90:=zcZ zWX (by
 intro x a;simp only[qG,qO,or_false]at a;rcases a with rfl
 .exact zPt)
def zEV {c:Type}{G:c->Prop}{x:Bool}{a b:Option c}(k:Ends G a)(h:x=true:=by first
 |exact zbG (by first|assumption|exact zbV (by assumption) (zI _ _)|exact zbV (by assumption) (zcS _ _)|exact zbV (by assumption) (zcb _ _)) _
 |exact zkQ (by first|assumption|exact zbV (by assumption) (zI _ _)|exact zbV (by assumption) (zcS _ _)) _
 |exact zfR (by first|assumption|exact zbV (by assumption) (zI _ _)) (by simp)):Ends G (cond x a b):=zG h k
def zzF (N:Nat)(c:Cur)  : OA :=
 let f:=zy c 4;let j:=({ (zf c 4) with b:=c.b}:Cur);let e:=zdW j 4;let d:=zW j 4;let a:=({d with b:=c.b}:Cur);let g:=({ (zW a 2) with b:=c.b}:Cur); (oN (zD c 4)<|oN (zdI j 4)<|cond (nB e) (cond (ine f 2) (oN (zdI a 2)<|cond (zdW a 2) (oN (zD g 256)<|some [.agg [.s .u8 c.b,.i .i64 (zf g 256).i,.i .i64 (zf g 256).h],.agg [.i .i64 f,.i .i64<|zy g 256,.b<|nB e]])<|some [.agg [.s .u8 c.b,.i .i64 (zW a 2).i,.i .i64 (zW a 2).h],.agg [.i .i64 f,.i .i64 0,.b<|nB e]])<|some [.agg [.s .u8 c.b,.i .i64 d.i,.i .i64 d.h],.agg [.i .i64 f,.i .i64 0,.b<|nB e]])<|some [.agg [.s .u8 c.b,.i .i64 d.i,.i .i64 d.h],.agg [.i .i64 f,.i .i64 0,.b<|nB e]])
def zsK (c:Cur)(s:Cur)(a:Ctl):Prop:=(∃N,zzF N c=some (AV.agg (zcg s)::[.agg<|zoh a]))/\(s.b=c.b/\0<=s.i)/\(True)
def zlQ (c:Cur)  : Bool:=wC (zsK c)
def zcQ (c:Cur)  : Cur:=wS (zsK c)
def zc9 (c:Cur)  : Ctl:=wV (zsK c)
def z2z {c:Cur}(h:zlQ c=true):zsK c (zcQ c) (zc9 c):=wG h
def zAE (c:Cur)  : 0<=(zcQ c).i:=wP λh=>h.2.1.2
def z2A (c:Cur)(h:∃N,Ends (wE (λa=>.agg (zoh a)) c.b λa=>True)<|zzF N c):zlQ c=true:=wI (λ_ _ h=>h) h
def zBy:zeR:=rP0 λc=>(zlQ c,zcQ c,[.agg<|zoh<|zc9 c])
def zPq:zb7 Tryz.prog 282 [false,true,true] zBy:=hP0 zg4 zbe zWY zo (zq []) (λ_ h=>(z2z h).1)
def z08 {c:Cur}(h:zbj c):zlQ c=true:=by
 refine z2A c ⟨0,?_⟩;unfold zzF oN nB;conv=>zeta
 refine zEV (zEV<|zbI (λ_=>zbI (λ_=>zEV (zbI (λ_=>zEV (?_)) λ_=>?_)) λ_=>?_) λ_=>?_);all_goals exact zbN (λx=>AV.agg (zoh x)) (v:=⟨_,_,_⟩) (by first|exact zI _ _|exact zcS _ _) trivial
def z92:zdn:=[(282,[false,true,true],zBy)]++z90
def zJL:zco z92:=zcZ zWY (by
 intro x a;simp only[qG,qO,or_false]at a;rcases a with rfl
 .exact zPq)
def ze4 {c:Type}{G:c->Prop}{x:Bool}{a b:Option c}(k:Ends G a)(h:x=true:=by first
 |exact zbG (by first|assumption|exact zbV (by assumption) (zI _ _)|exact zbV (by assumption) (zcb _ _)) _
 |exact zfR (by first|assumption|exact zbV (by assumption) (zI _ _)) (by simp)
 |exact z08 (zbV (by assumption)<|zI _ _)):Ends G (cond x a b):=zG h k
def zzL (N:Nat)(c:Cur)  : OA :=
 let m:=({ (zf c 2) with b:=c.b}:Cur);let g:=zy c 2;let f:=zy m 2;let u:=({ (zf m 2) with b:=c.b}:Cur);let e:=zf u 24;let d:=zy u 24;let a:=({e with b:=c.b}:Cur);let j:=zf a 8;let l:=({ (zf a 4) with b:=c.b}:Cur);let k:=({j with b:=c.b}:Cur);let t:=({ (zf a 16) with b:=c.b}:Cur);let r:=({ (zZ a [16,17]) with b:=c.b}:Cur);let q:=({ (zZ a [13,13,14,15]) with b:=c.b}:Cur);let p:=({ (zf k 4) with b:=c.b}:Cur);let n:=({ (zf l 8) with b:=c.b}:Cur); (share (oN (zby a [13,13,14,15])<|oN (zD q 8)<|some [.agg [.s .u8 c.b,.i .i64 (zf q 8).i,.i .i64 (zf q 8).h],.agg [.i .i64<|zbr a [13,13,14,15],.i .i64 g,.i .i64 f,.i .i64<|zy q 8,.i .i64 0,.i .i64 0]]) λA=>share (cond (ieq d 16) (oN (zby a [16,17])<|oN (zD r 4)<|some [.agg [.s .u8 c.b,.i .i64 (zf r 4).i,.i .i64 (zf r 4).h],.agg [.i .i64<|zbr a [16,17],.i .i64 g,.i .i64 f,.i .i64<|zy r 4,.i .i64 0,.i .i64 0]])<|some [.agg [.s .u8 c.b,.i .i64 e.i,.i .i64 e.h],.agg [.i .i64 1,.i .i64 g,.i .i64 f,.i .i64 0,.i .i64 0,.i .i64 0]]) λz=>share (oN (zD a 4)<|oN (zD l 8)<|oN (zby n [3,3,1,2])<|some [.agg [.s .u8 c.b,.i .i64 (zZ n [3,3,1,2]).i,.i .i64 (zZ n [3,3,1,2]).h],.agg [.i .i64 2,.i .i64 g,.i .i64 f,.i .i64<|zy a 4,.i .i64<|zy l 8,.i .i64<|zbr n [3,3,1,2]]]) λy=>share (oN (zD a 4)<|some [.agg [.s .u8 c.b,.i .i64 (zf a 4).i,.i .i64 (zf a 4).h],.agg [.i .i64 3,.i .i64 g,.i .i64 f,.i .i64<|zy a 4,.i .i64 0,.i .i64 0]]) λx=>share (cond (ieq d 7) (oN (zD a 8)<|some [.agg [.s .u8 c.b,.i .i64 j.i,.i .i64 j.h],.agg [.i .i64 6,.i .i64 g,.i .i64 f,.i .i64<|zy a 8,.i .i64 0,.i .i64 0]])<|cond (ieq d 8) (oN (zlQ a)<|cond ((zc9 a).Open) (some [.agg [.s .u8 c.b,.i .i64 (zcQ a).i,.i .i64 (zcQ a).h],.agg [.i .i64 7,.i .i64 g,.i .i64 f,.i .i64 (zc9 a).Traps,.i .i64 (zc9 a).Post,.i .i64 1]])<|some [.agg [.s .u8 c.b,.i .i64 (zcQ a).i,.i .i64 (zcQ a).h],.agg [.i .i64 7,.i .i64 g,.i .i64 f,.i .i64 (zc9 a).Traps,.i .i64 (zc9 a).Post,.i .i64 0]])<|cond (ieq d 9) (oN (zD a 8)<|oN (zD k 4)<|oN (zD p 100)<|some [.agg [.s .u8 c.b,.i .i64 (zf p 100).i,.i .i64 (zf p 100).h],.agg [.i .i64 8,.i .i64 g,.i .i64 f,.i .i64<|zy a 8,.i .i64<|zy k 4,.i .i64<|zy p 100]])<|cond (ieq d 10) (oN (zD a 8)<|some [.agg [.s .u8 c.b,.i .i64 j.i,.i .i64 j.h],.agg [.i .i64 9,.i .i64 g,.i .i64 f,.i .i64<|zy a 8,.i .i64 0,.i .i64 0]])<|cond (ieq d 11) (some [.agg [.s .u8 c.b,.i .i64 e.i,.i .i64 e.h],.agg [.i .i64 10,.i .i64 g,.i .i64 f,.i .i64 0,.i .i64 0,.i .i64 0]])<|cond (ieq d 12) (oN (zD a 16)<|oN (zD t 100)<|some [.agg [.s .u8 c.b,.i .i64 (zf t 100).i,.i .i64 (zf t 100).h],.agg [.i .i64 11,.i .i64 g,.i .i64 f,.i .i64<|zy a 16,.i .i64<|zy t 100,.i .i64 0]])<|cond (ieq d 13) (oN (zD a 16)<|some [.agg [.s .u8 c.b,.i .i64 (zf a 16).i,.i .i64 (zf a 16).h],.agg [.i .i64 12,.i .i64 g,.i .i64 f,.i .i64<|zy a 16,.i .i64 0,.i .i64 0]])<|cond (ieq d 14) (cond (ieq d 14) A z)<|cond (ieq d 15) A z) λv=>share (cond (ieq d 4) (oN (zD a 100)<|some [.agg [.s .u8 c.b,.i .i64 (zf a 100).i,.i .i64 (zf a 100).h],.agg [.i .i64 4,.i .i64 g,.i .i64 f,.i .i64<|zy a 100,.i .i64 0,.i .i64 0]])<|cond (ieq d 5) (cond (ieq d 5) (some [.agg [.s .u8 c.b,.i .i64 e.i,.i .i64 e.h],.agg [.i .i64 5,.i .i64 g,.i .i64 f,.i .i64 0,.i .i64 0,.i .i64 0]]) v)<|cond (ieq d 6) (some [.agg [.s .u8 c.b,.i .i64 e.i,.i .i64 e.h],.agg [.i .i64 5,.i .i64 g,.i .i64 f,.i .i64 0,.i .i64 0,.i .i64 0]]) v) λw=>share (cond (ieq d 2) (cond (ieq d 2) x w)<|cond (ieq d 3) x w) λB=>oN (zD c 2)<|oN (zD m 2)<|oN (zD u 24)<|cond (ieq d 0) (cond (ieq d 0) y B)<|cond (ieq d 1) y B)
def zsP (c:Cur)(s:Cur)(a:GAct):Prop:=(∃N,zzL N c=some (AV.agg (zcg s)::[aT .act a]))/\(s.b=c.b/\0<=s.i)/\(True)
def zj8 (c:Cur)  : Bool:=wC (zsP c)
def zdr (c:Cur)  : Cur:=wS (zsP c)
def zdc (c:Cur)  : GAct:=wV (zsP c)
def z2K {c:Cur}(h:zj8 c=true):zsP c (zdr c) (zdc c):=wG h
def zNy (c:Cur)  : 0<=(zdr c).i:=wP λh=>h.2.1.2
def z2L (c:Cur)(h:∃N,Ends (wE (λa=>aT .act a) c.b λa=>True)<|zzL N c):zj8 c=true:=wI (λ_ _ h=>h) h
def zBD:zeR:=rP0 λc=>(zj8 c,zdr c,[aT .act<|zdc c])
def zPy:zb7 Tryz.prog 146 [false,true,true] zBD:=hP0 zg4 zbe zJL zo (zq []) (λ_ h=>(z2K h).1)
def z8r {c:Cur}(h:zbj c):zj8 c=true:=by
 refine z2L c ⟨0,?_⟩;unfold zzL oN;conv=>zeta
 refine zph (ze4<|ze4<|?_) (λ_ g=>zph (zbI (λ_=>ze4 (ze4<|?_)) λ_=>?_) λ_ f=>zph (ze4<|ze4<|ze4<|?_) λ_ e=>zph (ze4<|?_) λ_ d=>zph (zbI (λ_=>ze4 (?_)) λ_=>zbI (λ_=>ze4 (zbI (λ_=>?_) λ_=>?_)) λ_=>zbI (λ_=>ze4 (ze4<|ze4<|?_)) λ_=>zbI (λ_=>ze4 (?_)) λ_=>zbI (λ_=>?_) λ_=>zbI (λ_=>ze4 (ze4<|?_)) λ_=>zbI (λ_=>ze4 (?_)) λ_=>zbI (λ_=>zbI (λ_=>g) λ_=>f) λ_=>zbI (λ_=>g) λ_=>f) λ_ a=>zph (zbI (λ_=>ze4 (?_)) λ_=>zbI (λ_=>zbI (λ_=>?_) λ_=>a) λ_=>zbI (λ_=>?_) λ_=>a) λ_ b=>zph (zbI (λ_=>zbI (λ_=>d) λ_=>b) λ_=>zbI (λ_=>d) λ_=>b) λ_ i=>ze4 (ze4<|ze4<|zbI (λ_=>zbI (λ_=>e) λ_=>i) λ_=>zbI (λ_=>e) λ_=>i));all_goals exact zbN (aT .act) (v:=⟨_,_,_,_,_,_⟩) (by first|exact zI _ _|exact zcb _ _|exact zAE _) trivial
def zmD (N:Nat)  : OA :=
 (iter (σ:=(Int×lA×Unit)) N (λe c=>cond (ilt c.1 2) (iter (σ:=(Int×Int×lA×Unit)) N (λf b=>cond (ilt b.2.1 2) (iter (σ:=(Int×Int×Int×lA×Unit)) N (λg a=>let d:=ap a.2.2.2.1 [(⟨2,a.1,a.2.1,a.2.2.1,zQ .i64 a.2.2.1<|znj .i64 3 a.2.1,3⟩:GAct),(⟨3,a.1,a.2.1,a.2.2.1,0,0⟩:GAct)]; (cond (ilt a.2.2.1 3) (oN (few<|ln d)<|g (a.1,a.2.1,zQ .i64 a.2.2.1 1,d,()))<|f (a.1,zQ .i64 a.2.1 1,a.2.2.2.1,()))) (b.1,b.2.1,0,b.2.2.1,()))<|e (zQ .i64 b.1 1,b.2.2.1,())) (c.1,0,c.2.1,()))<|some [aS .act c.2.1]) (0,[],()))
def zQ0:=zq [(275,0,{n:=34,tm:=[(1,.sl 0 []),(2,ti)],lo:=[],ro:=[(0,.act,true)]}),(275,2,{n:=34,tm:=[(1,.sl 0 []),(2,ti),(3,ti)],lo:=[],ro:=[(0,.act,true)]}),(275,4,{n:=34,tm:=[(1,.sl 0 []),(2,ti),(3,ti),(4,ti)],lo:=[],ro:=[(0,.act,true)]})]
def zt2  (a:List GAct):Prop:=(∃N,zmD N=some [aS .act a])/\(a.length<=45)
def zla  : Bool:=uC (T:=List GAct) (λr=>zt2 r)
def zXw  : List GAct:=uV (λr=>zt2 r)
def zuQ  : List GAct:=(zXw)
def zEw  (h:zla=true):zt2 zuQ:=uG h
def zXv  (h:∃N,Ends (λa=>∃b,a=[aS .act b]/\(b.length<=45))<|zmD N):zla=true:=by obtain⟨N,a,e,b,rfl,h⟩:=h;exact zbg ⟨b,⟨N,e⟩,h⟩
def zzn:Run:=rF0 (zla,[aS .act zuQ])
def zQj  (a:zla=true):∃N,zmD N  = some [aS .act zuQ]:=by exact(zEw a).1
def zJi:vR 275 zzn:=kF0 zg4 zbe zJL zo zQ0 zQj
def z3v:List GAct:=match zmD 10 with
 |some [.one<|.s .act l]=>l
 |_=>[]
def zZX:zla=true:=zXv ⟨10,_,(by kernel_rfl:zmD 10=some [aS .act z3v]),z3v,rfl,Nat.le_of_ble_eq_true (by kernel_rfl)⟩
def z94:zdn:=[(146,[false,true,true],zBD)]++z92
def zWZ:zco z94:=zcZ zJL (by
 intro x a;simp only[qG,qO,or_false]at a;rcases a with rfl
 .exact zPy)
def zbck:zbb:=[(275,zzn)]++zUY
def z3z:zU zbck:=zi zJi zg4
def zRY {c:Cur}(h:zbj c){m:Int}(e:0<=m)(J:m<=1000){G:Ans->Prop}{R:Cur->List GAct->Ans}(D:∀s l,s.b=c.b->0<=s.i->ln l<=45+m->G (R s l)){F:(Int×Int×Int×Int×List GAct×LI×Unit->OA)->Int×Int×Int×Int×List GAct×LI×Unit->OA}(C:∀rec t i k l,F rec (m,t,i,k,l,c.b,())=bif zD ⟨c.b,i,k⟩ (zQ .i64 m 1) then (bif ilt t (zy ⟨c.b,i,k⟩ (zQ .i64 m 1)) then (bif zj8 { zf ⟨c.b,i,k⟩ (zQ .i64 m 1) with b:=c.b } then (bif few (ln (ap l [zdc { zf ⟨c.b,i,k⟩ (zQ .i64 m 1) with b:=c.b }])) then
        rec (m,zQ .i64 t 1,(zdr {zf ⟨c.b,i,k⟩ (zQ .i64 m 1) with b:=c.b}).i,(zdr {zf ⟨c.b,i,k⟩ (zQ .i64 m 1) with b:=c.b}).h,ap l [zdc {zf ⟨c.b,i,k⟩ (zQ .i64 m 1) with b:=c.b}],c.b,()) else none) else none) else some (R ⟨c.b,(zf ⟨c.b,i,k⟩ (zQ .i64 m 1)).i,(zf ⟨c.b,i,k⟩ (zQ .i64 m 1)).h⟩ l)) else none){w I:Int}(f:0<=w){g:List GAct}(E:g.length<=45):Ends G (iter 1002 F (m,0,w,I,g,c.b,())):=by
 refine zor (fun n s=>s.1=m/\s.2.1+(n:Int)=1000/\0<=s.2.1/\0<=s.2.2.1/\(ln s.2.2.2.2.1<=45+s.2.1/\s.2.1<=m)/\s.2.2.2.2.2.1=c.b) ?_ 1002 1000 _ ⟨rfl,rfl,kN 0,f,⟨by unfold ln;show ((g.length:Nat):Int)<=45+0;omega,e⟩,rfl⟩ (by omega)
 rintro n ⟨q,t,i,k,l,b,u⟩ rec ⟨e,z,j,p,⟨A,H⟩,r⟩ d
 dsimp only at e z j p A r H
 subst r;subst e;rw[C];have a:zbj ⟨c.b,i,k⟩:=zbV h p;have L:=zi4 (x:=q) (y:=1) (by omega) (by omega) (by omega) (by omega)
 have M:=zhm a (n:=zQ .i64 q 1) (by omega)
 have B:zbj {zf ⟨c.b,i,k⟩ (zQ .i64 q 1) with b:=c.b}:=zbV h (zI _ _);refine zG (zbG a _) (zbI (fun v=>?_) (fun v=>?_))
 .have hlt:t<zy ⟨c.b,i,k⟩ (zQ .i64 q 1):=qD v;have K:=zi4 (y:=1) j (by omega) (by omega) (by omega)
  refine zG (z8r B) (zG (zmL (by rw[zjw];omega)) (d (n-1) _ (by omega) ⟨rfl,?_,?_,zNy _,⟨?_,?_⟩,rfl⟩))
  .show zQ .i64 t 1+_=1000
   omega
  .show 0<=zQ .i64 t 1
   omega
  .show ln (ap l [_])<=45+zQ .i64 t 1
   rw[zjw];omega
  .show zQ .i64 t 1<=q
   omega
 .refine zpY (D _ l rfl (zI _ _) ?_);omega
def zxN (N:Nat)(c:Cur)(p:Int):OA:=
 (oN (zdI c 5)<|cond (nB<|zdW c 5) (oN zla<|iter (σ:=(Int×Int×Int×Int×lA×LI×Unit)) N (λn a=>let l:=a.2.2.2.2.2.1;let f:=zQ .i64 a.1 1;let d:=(⟨l,a.2.2.1,a.2.2.2.1⟩:Cur);let j:=({ (zf d f) with b:=l}:Cur);let q:=ap a.2.2.2.2.1 [zdc j]; (oN (zD d f)<|cond (ilt a.2.1<|zy d f) (oN (zj8 j)<|oN (few<|ln q)<|n (a.1,zQ .i64 a.2.1 1,(zdr j).i,(zdr j).h,q,l,()))<|some [.agg [.s .u8 l,.i .i64 (zf d f).i,.i .i64 (zf d f).h],aS .act a.2.2.2.2.1])) (p,0,(zW c 5).i,(zW c 5).h,zuQ,c.b,()))<|iter (σ:=(Int×Int×Int×Int×lA×LI×Unit)) N (λn a=>let m:=a.2.2.2.2.2.1;let g:=zQ .i64 a.1 1;let e:=(⟨m,a.2.2.1,a.2.2.2.1⟩:Cur);let k:=({ (zf e g) with b:=m}:Cur);let r:=ap a.2.2.2.2.1 [zdc k]; (oN (zD e g)<|cond (ilt a.2.1<|zy e g) (oN (zj8 k)<|oN (few<|ln r)<|n (a.1,zQ .i64 a.2.1 1,(zdr k).i,(zdr k).h,r,m,()))<|some [.agg [.s .u8 m,.i .i64 (zf e g).i,.i .i64 (zf e g).h],aS .act a.2.2.2.2.1])) (p,0,(zW c 5).i,(zW c 5).h,[],c.b,()))
def zUe:=zq [(139,0,{n:=26,tm:=[(0,.lp 0 0),(1,ti),(5,.sl 0 []),(6,ti)],lo:=[(0,[.sl 1 [],ti,ti])],ro:=[(0,.act,true),(1,.u8,false)]})]
def zrj (c:Cur)(a:Int)(s:Cur)(d:List GAct):Prop:=(∃N,zxN N c a=some (AV.agg (zcg s)::[aS .act d]))/\(s.b=c.b/\0<=s.i)/\(ln d<=45+a)
def zoK (c:Cur)(a:Int):Bool:=wC (zrj c a)
def zoL (c:Cur)(a:Int):Cur:=wS (zrj c a)
def ztw (c:Cur)(a:Int):List GAct:=wV (zrj c a)
def zHI {c:Cur}{a:Int}(h:zoK c a=true):zrj c a (zoL c a) (ztw c a):=wG h
def zZx (c:Cur)(a:Int):0<=(zoL c a).i:=wP λh=>h.2.1.2
def zZw (c:Cur)(a:Int)(h:∃N,Ends (wE (λd=>aS .act d) c.b λd=>ln d<=45+a)<|zxN N c a):zoK c a=true:=wI (λ_ _ h=>h) h
def zza:zeR:=rP1 dI λc b=>(zoK c b,zoL c b,[aS .act<|ztw c b])
def zMx:zb7 Tryz.prog 139 [false,true,true] zza:=hP1 z3z zbe zWZ zo zUe (λ_ _ h=>(zHI h).1)
def z3n {c:Cur}(h:zbj c){m:Int}(e:0<=m)(f:m<=1000):zoK c m=true:=by
 refine zZw c m ⟨1002,?_⟩;unfold zxN oN nB;conv=>zeta
 have g:=zEw zZX;exact zG (zkQ h 5) (zbI (λ_=>zG zZX (zRY h e f (R:=λs l=>AV.agg (zcg s)::[aS .act l]) (λs l a b d=>⟨s,l,rfl,⟨a,b⟩,d⟩) (λrec t i k l=>rfl) (zcS _ _) g.2)) λ_=>zRY h e f (R:=λs l=>AV.agg (zcg s)::[aS .act l]) (λs l a b d=>⟨s,l,rfl,⟨a,b⟩,d⟩) (λrec t i k l=>rfl) (zcS _ _) (jX _))
def z95:zdn:=[(139,[false,true,true],zza)]++z94
def zW0:zco z95:=zcZ zWZ (by
 intro x a;simp only[qG,qO,or_false]at a;rcases a with rfl
 .exact zMx)
@[simp] abbrev zhC (l:List LI):Bool:=pc (SmM l)
@[simp] abbrev zeC (l:List LI):List LI:=l
def zBG:Run:=rF1 (dS<|.sl .int) λb=>(zhC b,[aS (.sl .int)<|zeC b])
def zGx (N:Nat)(c:lM):OA:=
 (iter (σ:=(Int×Int×lM×lM×Unit)) N (λd a=>let b:=ix a.2.2.2.1 a.2.1 []; (cond (ilt a.2.1 a.1) (oN (inb a.2.1<|ln a.2.2.2.1)<|oN (zeJ b)<|oN (few<|ln<|ap a.2.2.1 [zeG b])<|d (a.1,zQ .i64 a.2.1 1,ap a.2.2.1 [zeG b],a.2.2.2.1,()))<|some [aS (.sl .int) a.2.2.1])) (ln c,0,[],c,()))
def zT3:=zq [(192,0,{n:=20,tm:=[(3,.sl 0 []),(7,.sl 1 []),(8,ti),(9,ti)],lo:=[],ro:=[(0,.sl .int,true),(1,.sl .int,false)]})]
def zTi (a:List LI)(g:zhC a=true):∃N,zGx N a=some [aS (.sl .int)<|zeC a]:=by
 have f:=zK.1 g;have e:=zcR f.1;refine zcw λN d=>?_;unfold zGx oN;conv=>zeta
 refine(zbp a (λi (t:lM)=>(ln a,(i:Int),t,a,())) _ (λ_ x b j=>bif zeJ x then (cond (few<|ln<|ap b [zeG x]) (j<|ap b [zeG x]) none) else none) (λ(t:lM)=>some [.one<|.s (.sl .int) t]) (λi c t rec=>?_) (λt rec=>?_) _ ([])<|d e.1).trans ?_;{simp only [zbF c,zbk c,zbt c,zbh c e.1,cT]};{simp only [zbx,cF]};exact zln zeJ zeG _ a 0 [] (λx h=>⟨by exact zbg (qS (f.2 x h) (by decide)),rfl⟩) (by simpa using e.2)
def zLT:vR 192 zBG:=kF1 zho zn zx zo zT3 zTi
@[simp] abbrev zO (g:Guest):Bool:=pc (SmG g)
@[simp] abbrev zdd (g:Guest):Guest:=g
def zxe:Run:=rF1 (dT .guest) λb=>(zO b,[aT .guest<|zdd b])
def zA4 (N:Nat)(a:Guest):OA:=
 (oN (zvE a.Prog)<|oN (zhb a.Written)<|oN (zhb a.Live)<|oN (zeJ a.Seen)<|some [aT .guest ({a with Prog:=(zp6 a.Prog),Written:=(ze5 a.Written),Live:=(ze5 a.Live),Seen:=(zeG a.Seen)}:Guest)])
def zMN (a:Guest)(b:zO a=true):∃N,zA4 N a=some [aT .guest<|zdd a]:=by have c:=zK.1 b;obtain⟨h,i,j,k⟩:=c;have d:a.Prog.length<=2147483648:=(by omega);have e:a.Written.length<=2147483648:=(by omega);have f:a.Live.length<=2147483648:=(by omega);have g:a.Seen.length<=2147483648:=(by omega);refine⟨0,?_⟩;unfold zA4 oN;refine mu (mu<|mu<|mu ?_);first|rfl|(simp only [*,zdd,cT,cF]<;>rfl)|simp_all[Ty.cells,zdd]
def zFt:vR 287 zxe:=kF1 zho zn zx zo (zq []) zMN
def zfv (t:List Slot)(p n:Int):Bool:=bif ieq (zbK t p).Page (-1) then false else (cond (enough (zbK t p).Rights n) (zk n 1 3) false)
def zcI (t:List Slot)(p n:Int):Int:=bif zfv t p n then (zbK t p).Page else -1
def z7K {r:Int}(h:zeq r=true):0<=r/\r<=3:=zfX.1 h
def z1r {a n:Int}(h:enough a n=true):zk n 1 3 = !ieq n 0:=by unfold enough at h;cases b:zeq a;{rw [b]at h;cases h};{cases c:zeq n;{rw [b,c]at h;cases h};{have:=z7K c;have e:(zk n 1 3=true)↔(!ieq n 0)=true:=(by rw[zfX];simp[ieq];omega);cases d:zk n 1 3<;>cases f:(!ieq n 0)<;>simp_all}}
@[simp] abbrev zin (t:List Slot)(p n:Int):Bool:=true
@[simp] abbrev zfw (t:List Slot)(p n:Int):Int:=zcI t p n
@[simp] abbrev ze1 (t:List Slot)(p n:Int):Bool:=zfv t p n
def zmv:Run:=rF3 (dS .slot) dI dI λb c d=>(zin b c d,[aI<|zfw b c d,aB<|ze1 b c d])
def zA2 (N:Nat)(c:lS)(d a:Int):OA:=
 let b:=zeX c d; (oN (zgi c d)<|cond (ieq b.Page<|-1) (some [aI<|-1,aB false])<|oN (zbm b.Rights a)<|cond (nB<|zdv b.Rights a) (some [aI<|-1,aB false])<|oN (zM a 1 3)<|cond (nB<|zk a 1 3) (some [aI<|-1,aB false])<|some [aI b.Page,aB true])
def zML (a:List Slot)(b c:Int)(d:zin a b c=true):∃N,zA2 N a b c=some [aI<|zfw a b c,aB<|ze1 a b c]:=by
 refine⟨0,?_⟩;unfold zA2 oN nB;conv=>zeta
 refine must rfl (br (λ_=>?_) λ_=>must rfl (brN (λ_=>?_) λ_=>must rfl (brN (λ_=>?_) λ_=>?_)));all_goals first|rfl|(simp only [*,zfw,ze1,zcI,zfv,cT,cF]<;>rfl)|simp_all[Ty.cells,zfw,ze1,zcI,zfv]
def zFr:vR 299 zmv:=kF3 zho zn zx zo (zq []) zML
def zBh (N:Nat)(c:lS)(d b:Int):OA:=
 let a:=zeX c d; (oN (zgi c d)<|cond (ieq a.Page<|-1) (some [aI<|-1,aB false])<|oN (zbm a.Rights b)<|cond (nB<|zdv a.Rights b) (some [aI<|-1,aB false])<|cond (ieq b 0) (some [aI<|-1,aB false])<|some [aI a.Page,aB true])
def zM0 (a:List Slot)(b c:Int)(d:zin a b c=true):∃N,zBh N a b c=some [aI<|zfw a b c,aB<|ze1 a b c]:=by
 have e:=@z1r (zbK a b).Rights c;refine⟨0,?_⟩;unfold zBh oN nB;conv=>zeta
 refine must rfl (br (λ_=>?_) λ_=>must rfl (brN (λ_=>?_) λ_=>br (λ_=>?_) λ_=>?_));all_goals first|rfl|(simp only [*,zfw,ze1,zcI,zfv,cT,cF]<;>rfl)|simp_all[Ty.cells,zfw,ze1,zcI,zfv]
def zFF:vR 233 zmv:=kF3 zho zn zx zo (zq []) zM0
def z9m:zbb:=[(369,zjz),(192,zBG),(287,zxe),(233,zmv),(299,zmv),(111,zsu),(263,zsu),(360,zqz),(398,zqz),(248,zsr),(317,zsr),(356,zqj),(375,zqj)]++z9l
def zhp:zU z9m:=zi zpC (zi zLT<|zi zFt<|zi zFF<|zi zFr<|zi zSP<|zi zSC<|zi zPd<|zi zOM<|zi zSL<|zi zSy<|zi zPi<|zi zOS zho)
@[simp] abbrev zek (m:List LI)(p c v:Int):Bool:=pc (SmM m)
@[simp] abbrev zeH (m:List LI)(p c v:Int):List LI:=zbX m p c v
def znW:Run:=rF4 (dS<|.sl .int) dI dI dI λb c d e=>(zek b c d e,[aS (.sl .int)<|zeH b c d e])
def zCZ (N:Nat)(c:lM)(a d e:Int):OA:=
 let b:=zf0 c; (oN (zhO c)<|oN (zfO c a d)<|cond (zr0 c a d) (oN (zM e 0 99)<|cond (zk e 0 99) (oN (inb a<|ln b)<|oN (inb d<|ln<|ix b a [])<|share (up b a<|up (ix b a []) d e) λf=>some [aS (.sl .int) f])<|some [aS (.sl .int) b])<|some [aS (.sl .int) b])
def zQg (a:List LI)(b c d:Int)(e:zek a b c d=true):∃N,zCZ N a b c d=some [aS (.sl .int)<|zeH a b c d]:=by
 have g:=zK.1 e;have f:=(zAp a b c).1;refine⟨0,?_⟩;unfold zCZ oN;conv=>zeta
 refine mu (must rfl (br (λ_=>must rfl (br (λ_=>mu (mu<|shr ?_)) λ_=>?_)) λ_=>?_));all_goals first|rfl|(simp only [*,zeH,zbX,cT,cF]<;>rfl)|simp_all[Ty.cells,zeH,zbX]
def zI9:vR 217 znW:=kF4 zhp zn zx zo (zq []) zQg
def zCy (N:Nat)(a:lM)(b c d:Int):OA:=
 let e:=aS (.sl .int)<|zeC a; (oN (zhC a)<|oN (zbm b<|ln a)<|cond (zcj b<|ln a) (oN (inb b<|ln a)<|oN (zbm c<|ln<|ix a b [])<|cond (zcj c<|ln<|ix a b []) (oN (zM d 0 99)<|cond (zk d 0 99) (oN (inb b<|ln<|zeC a)<|oN (inb c<|ln<|ix (zeC a) b [])<|share (up (zeC a) b<|up (ix (zeC a) b []) c d) λf=>some [aS (.sl .int) f])<|some [e])<|some [e])<|some [e])
def zPS (a:List LI)(b c d:Int)(e:zek a b c d=true):∃N,zCy N a b c d=some [aS (.sl .int)<|zeH a b c d]:=by
 have f:=zK.1 e;refine⟨0,?_⟩;unfold zCy oN;conv=>zeta
 refine mu (must rfl (br (λ_=>mu (must rfl (br (λ_=>must rfl (br (λ_=>mu (mu<|shr ?_)) λ_=>?_)) λ_=>?_))) λ_=>?_));all_goals first|rfl|(simp only [*,zeH,zbX,zhj,cT,cF]<;>rfl)|simp_all[Ty.cells,zeH,zbX,zhj]
def zIK:vR 155 znW:=kF4 zhp zn zx zo (zq []) zPS
def zkv (g:Guest):Bool:=bif canRun g then (cond g.Ctl.Open (ige (zeB g.Pending) 0) false) else false
@[simp] abbrev zbz (g:Guest):Bool:=true
@[simp] abbrev zlN (g:Guest):Bool:=zkv g
def znV:Run:=rF1 (dT .guest) λb=>(zbz b,[aB<|zlN b])
def zCY (N:Nat)(a:Guest):OA:=
 (oN (zuH a)<|cond (zpo a) (cond a.Ctl.Open (oN (zcm a.Pending)<|some [aB<|ige (zim a.Pending) 0]) oF) oF)
def zyV (a:Guest)(b:zbS big [aT .guest a])(c:zbz a=true):∃N,zCY N a=some [aB<|zlN a]:=by refine⟨0,?_⟩;unfold zCY oN;refine must rfl (br (λ_=>br (λ_=>must rfl ?_) λ_=>?_) λ_=>?_);all_goals first|rfl|(simp only [*,zlN,zkv,cT,cF]<;>rfl)|simp_all[Ty.cells,zlN,zkv]
def zI8:vR 339 znV:=hF1 zhp zn zx zo (zq []) zyV
def zIJ:vR 284 znV:=hF1 zhp zn zx zo (zq []) zyV
def zhr (p:Int):Int:=bif ilt (zeB p) 0 then p else wsub .i64 p (zms .i64 1<|zeB p)
def zmT (p:Int):Int:=bif ilt (zeB p) 0 then -1 else zeB p
def zSq {p:Int}(h:ilt (zeB p) 0=false):wcv .u64 (zeB p)=zeB p/\ile 0 (zeB p)=true/\zAT .i64 p (zms .i64 1<|zeB p)=wsub .i64 p (zms .i64 1<|zeB p):=by unfold zeB at *;cases a:zeh p;{rw [a]at h;cases h};{simp only [a,cT]at h ⊢;obtain⟨c,d⟩:=zfX.1 a;have r:=zD8 (P:=λx=>-1<=scan x/\scan x<=7/\(0<=scan x->wsub .i64 x (zms .i64 1<|scan x)=zAT .i64 x (zms .i64 1<|scan x))) zXx c d;have b:0<=scan p:=(by unfold ilt at h;have:=qW h;omega);exact⟨zQ5 b (by omega),qK b,(r.2.2 b).symm⟩}
@[simp] abbrev zf9 (p:Int):Int:=zhr p
@[simp] abbrev zga (p:Int):Int:=zmT p
@[simp] abbrev zhM (p:Int):Bool:=!ilt (zeB p) 0
def zo4:Run:=rF1 dI λb=>(zcm b,[aI<|zf9 b,aI<|zga b,aB<|zhM b])
def zGX (N:Nat)(a:Int):OA:=
 (oN (zcm a)<|cond (ilt (zim a) 0) (some [aI a,aI<|-1,aB false])<|oN (ile 0<|wcv .u64<|zim a)<|some [aI<|wsub .i64 a<|zms .i64 1<|wcv .u64<|zim a,aI<|zim a,aB true])
def zTE (a:Int)(b:zcm a=true):∃N,zGX N a=some [aI<|zf9 a,aI<|zga a,aB<|zhM a]:=by have c:=@zSq a;refine⟨0,?_⟩;unfold zGX oN;refine must rfl (br (λ_=>?_) λ_=>mu ?_);all_goals first|rfl|(simp only [*,zf9,zga,zhM,zhr,zmT,cT,cF]<;>rfl)|simp_all[Ty.cells,zf9,zga,zhM,zhr,zmT]
def zMd:vR 250 zo4:=kF1 zhp zn zx zo (zq []) zTE
def zGw (N:Nat)(a:Int):OA:=
 (oN (zcm a)<|cond (ilt (zim a) 0) (some [aI a,aI<|-1,aB false])<|oN (ile 0<|zim a)<|some [aI<|zAT .i64 a<|zms .i64 1<|zim a,aI<|zim a,aB true])
def zTh (a:Int)(b:zcm a=true):∃N,zGw N a=some [aI<|zf9 a,aI<|zga a,aB<|zhM a]:=by have c:=@zSq a;refine⟨0,?_⟩;unfold zGw oN;refine must rfl (br (λ_=>?_) λ_=>mu ?_);all_goals first|rfl|(simp only [*,zf9,zga,zhM,zhr,zmT,cT,cF]<;>rfl)|simp_all[Ty.cells,zf9,zga,zhM,zhr,zmT]
def zLS:vR 320 zo4:=kF1 zhp zn zx zo (zq []) zTh
def saw (g:Guest)(n:Int):Guest:=bif ilt (ln g.Seen) 40 then {g with Seen:=ap g.Seen [n]} else g
@[simp] def zQG {g:Guest}(n:Int)(h:SmG g):SmG (saw g n):=by unfold saw;cases a:ilt (ln g.Seen) 40;{exact h};{have:=qD a;refine⟨h.1,h.2.1,h.2.2.1,?_⟩;simp[ln] at *;omega}
@[simp] abbrev zu5 (g:Guest)(n:Int):Bool:=pc (SmG g)
@[simp] abbrev zqT (g:Guest)(n:Int):Guest:=saw g n
def zxk:Run:=rF2 (dT .guest) dI λb c=>(zu5 b c,[aT .guest<|zqT b c])
def zZV (N:Nat)(a:Guest)(b:Int):OA:=
 (oN (zet a)<|cond (ilt (ln (zdX a).Seen) 40) (oN (few<|ln<|ap (zdX a).Seen [b])<|some [aT .guest ({ (zdX a) with Seen:=(ap (zdX a).Seen [b])}:Guest)])<|some [aT .guest<|zdX a])
def z4E (a:Guest)(b:Int)(c:zu5 a b=true):∃N,zZV N a b=some [aT .guest<|zqT a b]:=by have d:=zK.1 c;have e:a.Seen.length<=1048576:=d.2.2.2;refine⟨0,?_⟩;unfold zZV oN;refine mu (br (λ_=>mu ?_) λ_=>?_);all_goals first|rfl|(simp only [*,zqT,saw,cT,cF]<;>rfl)|simp_all[Ty.cells,zqT,saw]
def zYM:vR 341 zxk:=kF2 zhp zn zx zo (zq []) z4E
def zZR (N:Nat)(a:Guest)(b:Int):OA:=
 (oN (zO a)<|cond (ilt (ln a.Seen) 40) (oN (few<|ln<|ap (zdd a).Seen [b])<|some [aT .guest ({ (zdd a) with Seen:=(ap (zdd a).Seen [b])}:Guest)])<|some [aT .guest<|zdd a])
def z4A (a:Guest)(b:Int)(c:zu5 a b=true):∃N,zZR N a b=some [aT .guest<|zqT a b]:=by have d:=zK.1 c;have e:a.Seen.length<=1048576:=d.2.2.2;refine⟨0,?_⟩;unfold zZR oN;refine mu (br (λ_=>mu ?_) λ_=>?_);all_goals first|rfl|(simp only [*,zqT,saw,cT,cF]<;>rfl)|simp_all[Ty.cells,zqT,saw]
def zYI:vR 289 zxk:=kF2 zhp zn zx zo (zq []) z4A
def stopped (g:Guest)(e:GExit):Guest:={g with Exit:=e}
@[simp] def zZH {g:Guest}(e:GExit)(h:SmG g):SmG (stopped g e):=h
@[simp] abbrev zcF (g:Guest)(e:GExit):Bool:=pc (SmG g)
@[simp] abbrev zcG (g:Guest)(e:GExit):Guest:=stopped g e
def zo2:Run:=rF2 (dT .guest) dE λb c=>(zcF b c,[aT .guest<|zcG b c])
def zGV (N:Nat)(a:Guest)(b:GExit):OA:=
 (oN (zet a)<|some [aT .guest ({ (zdX a) with Exit:=b}:Guest)])
def zTC (a:Guest)(b:GExit)(c:zcF a b=true):∃N,zGV N a b=some [aT .guest<|zcG a b]:=by have d:=zK.1 c;refine⟨0,?_⟩;unfold zGV oN;refine mu ?_;first|rfl|(simp only [*,zcG,stopped,cT,cF]<;>rfl)|simp_all[Ty.cells,zcG,stopped]
def zMb:vR 235 zo2:=kF2 zhp zn zx zo (zq []) zTC
def zGu (N:Nat)(a:Guest)(b:GExit):OA:=
 (oN (zO a)<|some [aT .guest ({ (zdd a) with Exit:=b}:Guest)])
def zTf (a:Guest)(b:GExit)(c:zcF a b=true):∃N,zGu N a b=some [aT .guest<|zcG a b]:=by have d:=zK.1 c;refine⟨0,?_⟩;unfold zGu oN;refine mu ?_;first|rfl|(simp only [*,zcG,stopped,cT,cF]<;>rfl)|simp_all[Ty.cells,zcG,stopped]
def zLQ:vR 153 zo2:=kF2 zhp zn zx zo (zq []) zTf
def zci (g:Guest):Guest:=bif ige g.Pc 12 then {g with Pc:=12} else {g with Pc:=zQ .i64 g.Pc 1}
@[simp] def zlk {g:Guest}(h:SmG g):SmG (zci g):=by unfold zci;cases ige g.Pc 12<;>exact h
@[simp] abbrev zch (g:Guest):Guest:=zci g
def ziI:Run:=rF1 (dT .guest) λb=>(zO b,[aT .guest<|zch b])
def zRo (N:Nat)(a:Guest):OA:=
 (oN (zet a)<|cond (ige (zdX a).Pc 12) (some [aT .guest ({ (zdX a) with Pc:=12}:Guest)])<|some [aT .guest ({ (zdX a) with Pc:=(zQ .i64 (zdX a).Pc 1)}:Guest)])
def zY3 (a:Guest)(b:zO a=true):∃N,zRo N a=some [aT .guest<|zch a]:=by have c:=zK.1 b;refine⟨0,?_⟩;unfold zRo oN;refine mu (br (λ_=>?_) λ_=>?_);all_goals first|rfl|(simp only [*,zch,zci,cT,cF]<;>rfl)|simp_all[Ty.cells,zch,zci]
def zSR:vR 245 ziI:=kF1 zhp zn zx zo (zq []) zY3
def zRc (N:Nat)(a:Guest):OA:=
 (oN (zO a)<|cond (ige a.Pc 12) (some [aT .guest ({ (zdd a) with Pc:=12}:Guest)])<|some [aT .guest ({ (zdd a) with Pc:=(zQ .i64 a.Pc 1)}:Guest)])
def zYT (a:Guest)(b:zO a=true):∃N,zRc N a=some [aT .guest<|zch a]:=by have c:=zK.1 b;refine⟨0,?_⟩;unfold zRc oN;refine mu (br (λ_=>?_) λ_=>?_);all_goals first|rfl|(simp only [*,zch,zci,cT,cF]<;>rfl)|simp_all[Ty.cells,zch,zci]
def zSF:vR 288 ziI:=kF1 zhp zn zx zo (zq []) zYT
def z9n:zbb:=[(217,znW),(155,znW),(339,znV),(284,znV),(250,zo4),(320,zo4),(341,zxk),(289,zxk),(235,zo2),(153,zo2),(245,ziI),(288,ziI)]++z9m
def zfU:zU z9n:=zi zI9 (zi zIK<|zi zI8<|zi zIJ<|zi zMd<|zi zLS<|zi zYM<|zi zYI<|zi zMb<|zi zLQ<|zi zSR<|zi zSF zhp)
def interrupted (g:Guest):Guest:=bif zkv g then saw {g with Pending:=zhr g.Pending} (zQ .i64 100<|zmT g.Pending) else g
@[simp] def z0B {g:Guest}(h:SmG g):SmG (interrupted g):=by unfold interrupted;cases zkv g;{exact h};{exact zQG (g:={g with Pending:=zhr g.Pending}) _ h}
@[simp] abbrev zfz (g:Guest):Guest:=interrupted g
def zkC:Run:=rF1 (dT .guest) λb=>(zO b,[aT .guest<|zfz b])
def zwu (N:Nat)(a:Guest):OA:=
 let c:=zQ .i64 100<|zga a.Pending;let b:=({a with Pending:=(zf9 a.Pending)}:Guest); (oN (zbz a)<|cond (nB<|zlN a) (oN (zet a)<|some [aT .guest<|zdX a])<|oN (zcm a.Pending)<|oN (zu5 b c)<|some [aT .guest<|zqT b c])
def zF3 (a:Guest)(b:zO a=true):∃N,zwu N a=some [aT .guest<|zfz a]:=by
 have c:=zK.1 b;have d:_/\_/\_/\_:=c;refine⟨0,?_⟩;unfold zwu oN nB;conv=>zeta
 refine must rfl (brN (λ_=>mu ?_) λ_=>must rfl (mu ?_));all_goals first|rfl|(simp only [*,zfz,interrupted,cT,cF]<;>rfl)|simp_all[Ty.cells,zfz,interrupted]
def zCg:vR 205 zkC:=kF1 zfU zn zx zo (zq []) zF3
def zwi (N:Nat)(a:Guest):OA:=
 let c:=zQ .i64 100<|zga a.Pending;let b:=({a with Pending:=(zf9 a.Pending)}:Guest); (oN (zbz a)<|cond (nB<|zlN a) (oN (zO a)<|some [aT .guest<|zdd a])<|oN (zcm a.Pending)<|oN (zu5 b c)<|some [aT .guest<|zqT b c])
def zFS (a:Guest)(b:zO a=true):∃N,zwi N a=some [aT .guest<|zfz a]:=by
 have c:=zK.1 b;have d:_/\_/\_/\_:=c;refine⟨0,?_⟩;unfold zwi oN nB;conv=>zeta
 refine must rfl (brN (λ_=>mu ?_) λ_=>must rfl (mu ?_));all_goals first|rfl|(simp only [*,zfz,interrupted,cT,cF]<;>rfl)|simp_all[Ty.cells,zfz,interrupted]
def zB5:vR 297 zkC:=kF1 zfU zn zx zo (zq []) zFS
def zy0 (o:Int):Int:=bif ieq o 3 then 3 else (cond (ieq o 4) 4<|cond (ieq o 5) 5<|cond (ieq o 6) 6<|cond (ieq o 7) 7 2)
def zN (g:Guest):Int:=bif canRun g then (cond (zkv g) 1<|zy0 (zcL g.Prog g.Pc).Op) else 0
@[simp] abbrev zit (g:Guest):Int:=zN g
def zqD:Run:=rF1 (dT .guest) λb=>(zbz b,[aI<|zit b])
def zKT (N:Nat)(a:Guest):OA:=
 let b:=(zec a.Prog a.Pc).Op; (oN (zuH a)<|cond (nB<|zpo a) (some [aI 0])<|oN (zbz a)<|cond (zlN a) (some [aI 1])<|oN (zei a.Prog a.Pc)<|cond (ieq b 3) (some [aI 3])<|cond (ieq b 4) (some [aI 4])<|cond (ieq b 5) (some [aI 5])<|cond (ieq b 6) (some [aI 6])<|cond (ieq b 7) (some [aI 7])<|some [aI 2])
def zD0 (a:Guest)(b:zbS big [aT .guest a])(c:zbz a=true):∃N,zKT N a=some [aI<|zit a]:=by
 refine⟨0,?_⟩;unfold zKT oN nB;conv=>zeta
 refine must rfl (brN (λ_=>?_) λ_=>must rfl (br (λ_=>?_) λ_=>must rfl (br (λ_=>?_) λ_=>br (λ_=>?_) λ_=>br (λ_=>?_) λ_=>br (λ_=>?_) λ_=>br (λ_=>?_) λ_=>?_)));all_goals first|rfl|(simp only [*,zit,zN,zy0,cT,cF]<;>rfl)|simp_all[Ty.cells,zit,zN,zy0]
def zcV:vR 204 zqD:=hF1 zfU zn zx zo (zq []) zD0
def zOU:vR 148 zqD:=hF1 zfU zn zx zo (zq []) zD0
def held (g:Guest):Guest:=zci {g with Halted:=true}
@[simp] def zXB {g:Guest}(h:SmG g):SmG (held g):=zlk (g:={g with Halted:=true}) h
@[simp] abbrev zjg (g:Guest):Guest:=held g
def zuG:Run:=rF1 (dT .guest) λb=>(zO b,[aT .guest<|zjg b])
def zUC (N:Nat)(b:Guest):OA:=
 let a:=({b with Halted:=true}:Guest); (oN (zO a)<|some [aT .guest<|zch a])
def zMW (a:Guest)(d:zbS big [aT .guest a])(b:zO a=true):∃N,zUC N a=some [aT .guest<|zjg a]:=by
 have c:=zK.1 b;have e:_/\_/\_/\_:=c;refine⟨0,?_⟩;unfold zUC oN;conv=>zeta
 refine mu ?_;first|rfl|(simp only [*,zjg,held,cT,cF]<;>rfl)|simp_all[Ty.cells,zjg,held]
def zVL:vR 246 zuG:=hF1 zfU zn zx zo (zq []) zMW
def zVG:vR 293 zuG:=hF1 zfU zn zx zo (zq []) zMW
def zKQ (N:Nat)(a:Guest):OA:=
 (oN (zO a)<|some [aT .guest<|zch a])
def zDZ (a:Guest)(c:zbS big [aT .guest a])(b:zO a=true):∃N,zKQ N a=some [aT .guest<|zch a]:=by have d:=zK.1 b;refine⟨0,?_⟩;unfold zKQ oN;refine mu ?_;first|rfl|(simp only [*,zch,cT,cF]<;>rfl)|simp_all[Ty.cells,zch]
def zPh:vR 237 ziI:=hF1 zfU zn zx zo (zq []) zDZ
def zOR:vR 157 ziI:=hF1 zfU zn zx zo (zq []) zDZ
def loaded (g:Guest)(v:Int):Guest:=zci (saw {g with A:=v} v)
@[simp] def zNG {g:Guest}(v:Int)(h:SmG g):SmG (loaded g v):=zlk (zQG (g:={g with A:=v}) v h)
@[simp] abbrev zn0 (g:Guest)(v:Int):Bool:=pc (SmG g)
@[simp] abbrev zlI (g:Guest)(v:Int):Guest:=loaded g v
def zqs:Run:=rF2 (dT .guest) dI λb c=>(zn0 b c,[aT .guest<|zlI b c])
def zKE (N:Nat)(c:Guest)(a:Int):OA:=
 let b:=({c with A:=a}:Guest); (oN (zu5 b a)<|oN (zO<|zqT b a)<|some [aT .guest<|zch<|zqT b a])
def zDV (b:Guest)(a:Int)(e:zbS big [aT .guest b,aI a])(d:zn0 b a=true):∃N,zKE N b a=some [aT .guest<|zlI b a]:=by
 have c:=zK.1 d;have h:_/\_/\_/\_:=c;have f:SmG (saw {b with A:=a} a):=zQG (g:={b with A:=a}) a c;refine⟨0,?_⟩;unfold zKE oN;conv=>zeta
 refine mu (mu ?_);first|rfl|(simp only [*,zlI,loaded,cT,cF]<;>rfl)|simp_all[Ty.cells,zlI,loaded]
def zO6:vR 238 zqs:=hF2 zfU zn zx zo (zq []) zDV
def zOD:vR 158 zqs:=hF2 zfU zn zx zo (zq []) zDV
def zr4 (g:Guest)(w:Int):Guest:=bif ieq w 5 then stopped g (zy1 (zcL g.Prog g.Pc).X) else stopped g ⟨4,0,false,0⟩
@[simp] def zbc3 {g:Guest}(w:Int)(h:SmG g):SmG (zr4 g w):=by unfold zr4;cases ieq w 5<;>exact h
@[simp] abbrev zos (g:Guest)(w:Int):Bool:=pc (SmG g)
@[simp] abbrev zlf (g:Guest)(w:Int):Guest:=zr4 g w
def zBI:Run:=rF2 (dT .guest) dI λb c=>(zos b c,[aT .guest<|zlf b c])
def zGA (N:Nat)(a:Guest)(c:Int):OA:=
 let b:=(zec a.Prog a.Pc).X; (cond (ieq c 5) (oN (zei a.Prog a.Pc)<|oN (zfr b)<|oN (zcF a<|zgu b)<|some [aT .guest<|zcG a<|zgu b])<|oN (zcF a (⟨4,0,false,0⟩:GExit))<|some [aT .guest<|zcG a (⟨4,0,false,0⟩:GExit)])
def zTl (a:Guest)(b:Int)(c:zos a b=true):∃N,zGA N a b=some [aT .guest<|zlf a b]:=by
 have d:=zK.1 c;refine⟨0,?_⟩;unfold zGA oN;conv=>zeta
 refine br (λ_=>must rfl (must rfl (mu ?_))) (λ_=>mu ?_);all_goals first|rfl|(simp only [*,zlf,zr4,cT,cF]<;>rfl)|simp_all[Ty.cells,zlf,zr4]
def zLW:vR 292 zBI:=kF2 zfU zn zx zo (zq []) zTl
def zev (g:Guest):Bool:=zd7 g.Prog&&(zk g.A 0 99&&(zk g.Pc 0 12&&(zdQ g.Written 4 8&&(zdQ g.Live 4 8&&(znt g.Ctl&&(zeh g.Pending&&(zjS g.Exit&&ile (ln g.Seen) 40)))))))
@[simp] abbrev ziJ (g:Guest):Bool:=zev g
def zoT:Run:=rF1 (dT .guest) λb=>(zbz b,[aB<|ziJ b])
def zGG (N:Nat)(a:Guest):OA:=
 (oN (zuK a.Prog)<|cond (zis a.Prog) (oN (zM a.A 0 99)<|cond (zk a.A 0 99) (oN (zM a.Pc 0 12)<|cond (zk a.Pc 0 12) (oN (zkm a.Written 4 8)<|cond (zfs a.Written 4 8) (oN (zkm a.Live 4 8)<|cond (zfs a.Live 4 8) (oN (zfx a.Ctl)<|cond (znZ a.Ctl) (oN (zcm a.Pending)<|cond (zeW a.Pending) (oN (zuI a.Exit)<|cond (zm5 a.Exit) (some [aB<|ile (ln a.Seen) 40]) oF) oF) oF) oF) oF) oF) oF) oF)
def zBq (a:Guest)(b:zbS big [aT .guest a])(c:zbz a=true):∃N,zGG N a=some [aB<|ziJ a]:=by refine⟨0,?_⟩;unfold zGG oN;refine must rfl (br (λ_=>must rfl (br (λ_=>must rfl (br (λ_=>must rfl (br (λ_=>must rfl (br (λ_=>must rfl (br (λ_=>must rfl (br (λ_=>must rfl (br (λ_=>?_) λ_=>?_)) λ_=>?_)) λ_=>?_)) λ_=>?_)) λ_=>?_)) λ_=>?_)) λ_=>?_)) λ_=>?_);all_goals first|rfl|(simp only [*,ziJ,zev,cT,cF]<;>rfl)|simp_all[Ty.cells,ziJ,zev]
def zLY:vR 257 zoT:=hF1 zfU zn zx zo (zq []) zBq
def zLE:vR 366 zoT:=hF1 zfU zn zx zo (zq []) zBq
@[simp] abbrev zdk (l:List Guest):Bool:=pc (zmE l)
@[simp] abbrev zdZ (l:List Guest):List Guest:=l
def zvW:Run:=rF1 (dS .guest) λb=>(zdk b,[aS .guest<|zdZ b])
def zyp (N:Nat)(c:lG):OA:=
 (iter (σ:=(Int×Int×lG×lG×Unit)) N (λd a=>let b:=ix a.2.2.2.1 a.2.1 zA; (cond (ilt a.2.1 a.1) (oN (inb a.2.1<|ln a.2.2.2.1)<|oN (zO b)<|oN (few<|ln<|ap a.2.2.1 [zdd b])<|d (a.1,zQ .i64 a.2.1 1,ap a.2.2.1 [zdd b],a.2.2.2.1,()))<|some [aS .guest a.2.2.1])) (ln c,0,[],c,()))
def zJ3:=zq [(227,0,{n:=20,tm:=[(3,.sl 0 []),(7,.sl 1 []),(8,ti),(9,ti)],lo:=[],ro:=[(0,.guest,true),(1,.guest,false)]})]
def zJu (a:List Guest)(g:zdk a=true):∃N,zyp N a=some [aS .guest<|zdZ a]:=by
 have f:=zK.1 g;have e:=zcR f.1;refine zcw λN d=>?_;unfold zyp oN;conv=>zeta
 refine(zbp a (λi (t:lG)=>(ln a,(i:Int),t,a,())) _ (λ_ x b j=>bif zO x then (cond (few<|ln<|ap b [zdd x]) (j<|ap b [zdd x]) none) else none) (λ(t:lG)=>some [.one<|.s .guest t]) (λi c t rec=>?_) (λt rec=>?_) _ ([])<|d e.1).trans ?_;{simp only [zbF c,zbk c,zbt c,zbh c e.1,cT]};{simp only [zbx,cF]};exact zln zO zdd _ a 0 [] (λx h=>⟨by exact zbg (f.2 x h),rfl⟩) (by simpa using e.2)
def zDC:vR 227 zvW:=kF1 zfU zn zx zo zJ3 zJu
def gAt (b:Bare)(i:Int):Guest:=bif hasB i (ln b.Guests) then ix b.Guests i zA else Ty.dflt .guest
@[simp] def zgw {b:Bare}(i:Int)(h:SmB b):SmG (gAt b i):=by unfold gAt;cases a:hasB i (ln b.Guests);{exact zbdC};{exact zXC h.2.1 a _}
@[simp] abbrev zeo (b:Bare)(i:Int):Bool:=pc (SmB b)
@[simp] abbrev zem (b:Bare)(i:Int):Guest:=gAt b i
@[simp] abbrev zen (b:Bare)(i:Int):Bool:=hasB i (ln b.Guests)
def zBF:Run:=rF2 (dT .bare) dI λb c=>(zeo b c,[aT .guest<|zem b c,aB<|zen b c])
def zGk (N:Nat)(a:Bare)(b:Int):OA:=
 let c:=ix a.Guests b zA; (oN (zbm b<|ln a.Guests)<|cond (nB<|zcj b<|ln a.Guests) (some [aT .guest (⟨[],0,0,[],[],⟨0,0,false⟩,0,⟨0,0,false,0⟩,false,[]⟩:Guest),aB false])<|oN (inb b<|ln a.Guests)<|oN (zO c)<|some [aT .guest<|zdd c,aB true])
def zS5 (a:Bare)(b:Int)(d:zeo a b=true):∃N,zGk N a b=some [aT .guest<|zem a b,aB<|zen a b]:=by
 have c:=zK.1 d;have e:a.Guests.length<=1048576:=c.2.1.1;have f:hasB b (ln a.Guests)=true->SmG (ix a.Guests b zA):=λh=>zXC c.2.1 h _;refine⟨0,?_⟩;unfold zGk oN nB;conv=>zeta
 refine must rfl (brN (λ_=>?_) λ_=>mu (mu ?_));all_goals first|rfl|(simp only [*,zem,zen,gAt,Ty.dflt,cT,cF]<;>rfl)|simp_all[Ty.cells,zem,zen,gAt,Ty.dflt]
def zLD:vR 294 zBF:=kF2 zfU zn zx zo (zq []) zS5
def z9o:zbb:=[(205,zkC),(297,zkC),(204,zqD),(148,zqD),(246,zuG),(293,zuG),(237,ziI),(157,ziI),(238,zqs),(158,zqs),(292,zBI),(257,zoT),(366,zoT),(227,zvW),(294,zBF)]++z9n
def zke:zU z9o:=zi zCg (zi zB5<|zi zcV<|zi zOU<|zi zVL<|zi zVG<|zi zPh<|zi zOR<|zi zO6<|zi zOD<|zi zLW<|zi zLY<|zi zLE<|zi zDC<|zi zLD zfU)
def plainly (g:Guest):Guest:=bif ine (zN g) 2 then g else (cond (zk g.A 0 99) (cond (zk (zcL g.Prog g.Pc).X 0 99) (cond (ieq (zcL g.Prog g.Pc).Op 1) {zci g with A:=(zcL g.Prog g.Pc).X}<|cond (ieq (zcL g.Prog g.Pc).Op 2) {zci g with A:=zrp (zQ .i64 g.A (zcL g.Prog g.Pc).X) 100}<|cond (ieq (zcL g.Prog g.Pc).Op 8) (cond (ieq g.A 0) {zci g with Pc:=(zcL g.Prog g.Pc).X}<|zci g)<|zci g)<|zci g)<|zci g)
@[simp] def zbdu (g:Guest):(zci g).Prog=g.Prog:=by unfold zci;cases ige g.Pc 12<;>rfl
@[simp] def zbd5 (g:Guest):(zci g).A=g.A:=by unfold zci;cases ige g.Pc 12<;>rfl
@[simp] def zbbS (g:Guest):(zci g).Written=g.Written:=by unfold zci;cases ige g.Pc 12<;>rfl
@[simp] def zbdt (g:Guest):(zci g).Live=g.Live:=by unfold zci;cases ige g.Pc 12<;>rfl
@[simp] def zbdJ (g:Guest):(zci g).Ctl=g.Ctl:=by unfold zci;cases ige g.Pc 12<;>rfl
@[simp] def zbbR (g:Guest):(zci g).Pending=g.Pending:=by unfold zci;cases ige g.Pc 12<;>rfl
@[simp] def zbds (g:Guest):(zci g).Exit=g.Exit:=by unfold zci;cases ige g.Pc 12<;>rfl
@[simp] def zbcK (g:Guest):(zci g).Halted=g.Halted:=by unfold zci;cases ige g.Pc 12<;>rfl
@[simp] def zbdv (g:Guest):(zci g).Seen=g.Seen:=by unfold zci;cases ige g.Pc 12<;>rfl
@[simp] def zbdK (g:Guest)(x:Int):(zci {g with A:=x}).Pc=(zci g).Pc:=by unfold zci;cases ige g.Pc 12<;>rfl
@[simp] def zHM {g:Guest}(h:SmG g):SmG (plainly g):=by have a:=zlk h;unfold plainly;cases ine (zN g) 2;{cases zk g.A 0 99;{exact a};{cases zk (zcL g.Prog g.Pc).X 0 99;{exact a};{cases ieq (zcL g.Prog g.Pc).Op 1;{cases ieq (zcL g.Prog g.Pc).Op 2;{cases ieq (zcL g.Prog g.Pc).Op 8;{exact a};{cases ieq g.A 0<;>exact a}};{exact a}};{exact a}}}};{exact h}
@[simp] abbrev ziF (g:Guest):Guest:=plainly g
def zoR:Run:=rF1 (dT .guest) λb=>(zO b,[aT .guest<|ziF b])
def zGs (N:Nat)(a:Guest):OA:=
 let c:=aT .guest<|zch a;let b:=zec a.Prog a.Pc; (oN (zbz a)<|cond (ine (zit a) 2) (oN (zO a)<|some [aT .guest<|zdd a])<|oN (zei a.Prog a.Pc)<|oN (zO a)<|oN (zM a.A 0 99)<|cond (nB<|zk a.A 0 99) (some [c])<|oN (zM b.X 0 99)<|cond (nB<|zk b.X 0 99) (some [c])<|cond (ieq b.Op 1) (some [aT .guest ({ (zch a) with A:=b.X}:Guest)])<|cond (ieq b.Op 2) (oN (ine 100 0)<|some [aT .guest ({ (zch a) with A:=(zrp (zQ .i64 a.A b.X) 100)}:Guest)])<|cond (ieq b.Op 8) (cond (ieq a.A 0) (some [aT .guest ({ (zch a) with Pc:=b.X}:Guest)])<|some [c])<|some [c])
def zTd (a:Guest)(b:zO a=true):∃N,zGs N a=some [aT .guest<|ziF a]:=by
 have c:=zK.1 b;refine⟨0,?_⟩;unfold zGs oN nB;conv=>zeta
 refine must rfl (br (λ_=>mu ?_) λ_=>must rfl (mu (must rfl (brN (λ_=>?_) λ_=>must rfl (brN (λ_=>?_) λ_=>br (λ_=>?_) λ_=>br (λ_=>must rfl ?_) λ_=>br (λ_=>br (λ_=>?_) λ_=>?_) λ_=>?_)))));all_goals first|rfl|(simp only [*,ziF,plainly,cT,cF]<;>rfl)|simp_all[Ty.cells,ziF,plainly]
def zLO:vR 298 zoR:=kF1 zke zn zx zo (zq []) zTd
def zGS (N:Nat)(a:Guest):OA:=
 let i:=ieq a.A 0;let c:=zO a;let b:=aT .guest<|zch a;let d:=zec a.Prog a.Pc;let j:=({a with A:=d.X}:Guest);let h:=ieq d.Op 8;let e:=zk d.X 0 99;let g:=aT .guest ({ (zdX a) with Pc:=d.X}:Guest);let f:=({a with A:=(zrp (zQ .i64 a.A d.X) 100)}:Guest); (oN (zbz a)<|cond (ine (zit a) 2) (oN (zet a)<|some [aT .guest<|zdX a])<|oN (zei a.Prog a.Pc)<|oN (zM a.A 0 99)<|cond (zk a.A 0 99) (oN (zM d.X 0 99)<|cond e (cond (ieq d.Op 1) (oN (zO j)<|some [aT .guest<|zch j])<|cond e (cond (ieq d.Op 2) (oN (ine 100 0)<|oN (zO f)<|some [aT .guest<|zch f])<|cond e (cond h (cond i (oN (zet a)<|some [g])<|oN c<|some [b])<|oN c<|some [b])<|oN c<|some [b])<|cond e (cond h (cond i (oN (zet a)<|some [g])<|oN c<|some [b])<|oN c<|some [b])<|oN c<|some [b])<|cond e (cond (ieq d.Op 2) (oN (ine 100 0)<|oN (zO f)<|some [aT .guest<|zch f])<|cond e (cond h (cond i (oN (zet a)<|some [g])<|oN c<|some [b])<|oN c<|some [b])<|oN c<|some [b])<|cond e (cond h (cond i (oN (zet a)<|some [g])<|oN c<|some [b])<|oN c<|some [b])<|oN c<|some [b])<|oN c<|some [b])
def zTz (a:Guest)(b:zO a=true):∃N,zGS N a=some [aT .guest<|ziF a]:=by
 have c:=zK.1 b;have d:_/\_/\_/\_:=c;refine⟨0,?_⟩;unfold zGS oN;conv=>zeta
 refine must rfl (br (λ_=>mu ?_) λ_=>must rfl (must rfl (br (λ_=>must rfl (br (λ_=>br (λ_=>mu ?_) λ_=>br (λ_=>br (λ_=>must rfl (mu ?_)) λ_=>br (λ_=>br (λ_=>br (λ_=>mu ?_) λ_=>mu ?_) λ_=>mu ?_) λ_=>mu ?_) λ_=>br (λ_=>br (λ_=>br (λ_=>mu ?_) λ_=>mu ?_) λ_=>mu ?_) λ_=>mu ?_) λ_=>br (λ_=>br (λ_=>must rfl (mu ?_)) λ_=>br (λ_=>br (λ_=>br (λ_=>mu ?_) λ_=>mu ?_) λ_=>mu ?_) λ_=>mu ?_) λ_=>br (λ_=>br (λ_=>br (λ_=>mu ?_) λ_=>mu ?_) λ_=>mu ?_) λ_=>mu ?_)) λ_=>mu ?_)));all_goals first|rfl|(simp only [*,ziF,plainly,cT,cF]<;>rfl)|simp_all[Ty.cells,ziF,plainly]
def zL8:vR 206 zoR:=kF1 zke zn zx zo (zq []) zTz
def address (g:Guest):Int:=bif ine (zN g) 3 then (cond (ine (zN g) 4) (-1)<|(zcL g.Prog g.Pc).X) else (zcL g.Prog g.Pc).X
@[simp] abbrev zh3 (g:Guest):Int:=address g
def zoS:Run:=rF1 (dT .guest) λb=>(zbz b,[aI<|zh3 b])
def zGB (N:Nat)(a:Guest):OA:=
 (oN (zbz a)<|cond (ine (zit a) 3) (cond (ine (zit a) 4) (some [aI<|-1])<|oN (zei a.Prog a.Pc)<|some [aI (zec a.Prog a.Pc).X])<|oN (zei a.Prog a.Pc)<|some [aI (zec a.Prog a.Pc).X])
def zBp (a:Guest)(b:zbS big [aT .guest a])(c:zbz a=true):∃N,zGB N a=some [aI<|zh3 a]:=by refine⟨0,?_⟩;unfold zGB oN;refine must rfl (br (λ_=>br (λ_=>?_) λ_=>must rfl ?_) λ_=>must rfl ?_);all_goals first|rfl|(simp only [*,zh3,address,cT,cF]<;>rfl)|simp_all[Ty.cells,zh3,address]
def zLX:vR 232 zoS:=hF1 zke zn zx zo (zq []) zBp
def zLC:vR 149 zoS:=hF1 zke zn zx zo (zq []) zBp
def zgA (g:Guest)(t w:Int):Guest:=bif ieq w 6 then stopped g (zvl (zcL g.Prog g.Pc).X) else (cond (ieq w 5&&zew t 1) (stopped g<|zy1 (zcL g.Prog g.Pc).X)<|cond (ieq w 7&&zew t 2) (stopped g ⟨4,0,false,0⟩)<|cond (ieq w 7) (held g)<|zci g)
def zil (t w:Int):Bool:=bif ieq w 6 then false else (cond (ieq w 5&&zew t 1) false<|cond (ieq w 7&&zew t 2) false true)
@[simp] def zEz {g:Guest}(t w:Int)(h:SmG g):SmG (zgA g t w):=by unfold zgA;cases ieq w 6;{cases (ieq w 5&&zew t 1);{cases (ieq w 7&&zew t 2);{cases ieq w 7;{exact zlk h};{exact zXB h}};{exact h}};{exact h}};{exact h}
@[simp] abbrev zfa (g:Guest)(t w:Int):Bool:=pc (SmG g)
@[simp] abbrev zcT (g:Guest)(t w:Int):Guest:=zgA g t w
@[simp] abbrev zeu (g:Guest)(t w:Int):Bool:=zil t w
def zBP:Run:=rF3 (dT .guest) dI dI λb c d=>(zfa b c d,[aT .guest<|zcT b c d,aB<|zeu b c d])
def zG3 (N:Nat)(a:Guest)(c b:Int):OA:=
 let g:=aT .guest<|zch a;let f:=aT .guest<|zjg a;let e:=(⟨4,0,false,0⟩:GExit);let d:=(zec a.Prog a.Pc).X; (oN (zei a.Prog a.Pc)<|cond (ieq b 6) (oN (zfr d)<|oN (zcF a<|zfj d)<|some [aT .guest<|zcG a<|zfj d,aB false])<|cond (ieq b 5) (oN (zgF c 1)<|cond (zfZ c 1) (oN (zfr d)<|oN (zcF a<|zgu d)<|some [aT .guest<|zcG a<|zgu d,aB false])<|cond (ieq b 7) (oN (zgF c 2)<|cond (zfZ c 2) (oN (zcF a e)<|some [aT .guest<|zcG a e,aB false])<|cond (ieq b 7) (oN (zO a)<|some [f,aB true])<|oN (zO a)<|some [g,aB true])<|cond (ieq b 7) (oN (zO a)<|some [f,aB true])<|oN (zO a)<|some [g,aB true])<|cond (ieq b 7) (oN (zgF c 2)<|cond (zfZ c 2) (oN (zcF a e)<|some [aT .guest<|zcG a e,aB false])<|cond (ieq b 7) (oN (zO a)<|some [f,aB true])<|oN (zO a)<|some [g,aB true])<|cond (ieq b 7) (oN (zO a)<|some [f,aB true])<|oN (zO a)<|some [g,aB true])
def zTK (a:Guest)(b c:Int)(d:zfa a b c=true):∃N,zG3 N a b c=some [aT .guest<|zcT a b c,aB<|zeu a b c]:=by
 have e:=zK.1 d;refine⟨0,?_⟩;unfold zG3 oN;conv=>zeta
 refine must rfl (br (λ_=>must rfl (mu ?_)) λ_=>br (λ_=>must rfl (br (λ_=>must rfl (mu ?_)) λ_=>br (λ_=>must rfl (br (λ_=>mu ?_) λ_=>br (λ_=>mu ?_) λ_=>mu ?_)) λ_=>br (λ_=>mu ?_) λ_=>mu ?_)) λ_=>br (λ_=>must rfl (br (λ_=>mu ?_) λ_=>br (λ_=>mu ?_) λ_=>mu ?_)) λ_=>br (λ_=>mu ?_) λ_=>mu ?_);all_goals first|rfl|(simp only [*,zcT,zeu,zgA,zil,cT,cF]<;>rfl)|simp_all[Ty.cells,zcT,zeu,zgA,zil]
def zMp:vR 239 zBP:=kF3 zke zn zx zo (zq []) zTK
def zb0 (b:Bare):Bool:=bif b.Guests.all zev then (zjW b.Memory 8&&(zk (ln b.Guests) 1 2&&(ile (ln b.Outs) 40&&zeh b.Pending))) else false
@[simp] abbrev zdD (b:Bare):Bool:=true
@[simp] abbrev zb9 (b:Bare):Bool:=zb0 b
def zqm:Run:=rF1 (dT .bare) λb=>(zdD b,[aB<|zb9 b])
def zKv (N:Nat)(c:Bare):OA:=
 (iter (σ:=(Int×Int×lM×lG×LI×Unit)) N (λd a=>let b:=a.2.2.2.1; (cond (ilt a.1<|ln b) (oN (inb a.1<|ln b)<|oN (zbz<|ix b a.1 zA)<|cond (nB<|ziJ<|ix b a.1 zA) oF<|d (zQ .i64 a.1 1,a.2.1,a.2.2.1,b,a.2.2.2.2.1,()))<|oN (zj1 a.2.2.1 8)<|cond (zgs a.2.2.1 8) (oN (zM (ln b) 1 2)<|cond (zk (ln b) 1 2) (cond (ile (ln a.2.2.2.2.1) 40) (oN (zcm a.2.1)<|some [aB<|zeW a.2.1]) oF) oF) oF)) (0,c.Pending,c.Memory,c.Guests,c.Outs,()))
def zX0:=zq [(231,0,{n:=38,tm:=[(1,.lp 0 0),(3,ti)],lo:=[(0,[.sl 0 [],.sl 1 [],.sl 2 [],ti])],ro:=[(0,.sl .int,false),(1,.guest,false),(2,.int,false)]})]
def zWg (a:Bare)(k:zbS big [aT .bare a])(m:zdD a=true):∃N,zKv N a=some [aB<|zb9 a]:=by
 have j:(_:List _).length<=big:=((zd1 k).1 (.s .guest a.Guests) (by simp[AV.cvs,Ty.cells])).len;refine zcw λN h=>?_;unfold zKv oN nB;conv=>zeta
 refine(zbp a.Guests (λi (t:Unit)=>((i:Int),a.Pending,a.Memory,a.Guests,a.Outs,())) _ (λ_ x (_:Unit) l=>bif (zev) x then l () else oF) (λ(t:Unit)=>cond (zj1 a.Memory 8) (cond (zgs a.Memory 8) (cond (zM (ln a.Guests) 1 2) (cond (zk (ln a.Guests) 1 2) (cond (ile (ln a.Outs) 40) (cond (zcm a.Pending) (some [.one<|.b<|zeW a.Pending]) none) oF) oF) none) oF) none) (λi f t rec=>?_) (λt rec=>?_) _ ()<|h j).trans ?_;{simp only [zbF f,zbk f,zbt f,zbh f j,cT];exact zkc rfl};{simp only [zbx,cF]};rw[zie<|zev];refine br (λc=>?_) (λc=>?_);{refine must rfl ?_;refine br (λd=>?_) (λd=>?_);{refine must rfl ?_;refine br (λe=>?_) (λe=>?_);{refine br (λg=>?_) (λg=>?_);{refine must rfl ?_;first|rfl|(simp only [c,d,e,g,zb9,zb0,cT,cF]<;>rfl)|(simp_all [Ty.cells,zb9,zb0];done)};{first|rfl|(simp only [c,d,e,g,zb9,zb0,cT,cF]<;>rfl)|(simp_all [Ty.cells,zb9,zb0];done)}};{first|rfl|(simp only [c,d,e,zb9,zb0,cT,cF]<;>rfl)|(simp_all [Ty.cells,zb9,zb0];done)}};{first|rfl|(simp only [c,d,zb9,zb0,cT,cF]<;>rfl)|(simp_all [Ty.cells,zb9,zb0];done)}};{first|rfl|(simp only [c,zb9,zb0,cT,cF]<;>rfl)|(simp_all [Ty.cells,zb9,zb0];done)}
def zOY:vR 231 zqm:=hF1 zke zn zx zo zX0 zWg
def zKa (N:Nat)(b:Bare):OA:=
 (iter (σ:=(Int×Int×Int×lG×lM×LI×Unit)) N (λe a=>let c:=a.2.2.2.1;let d:=ix c a.2.1 zA; (cond (ilt a.2.1 a.1) (oN (inb a.2.1<|ln c)<|oN (zbz d)<|cond (nB<|ziJ d) oF<|e (a.1,zQ .i64 a.2.1 1,a.2.2.1,c,a.2.2.2.2.1,a.2.2.2.2.2.1,()))<|oN (zj1 a.2.2.2.2.1 8)<|cond (zgs a.2.2.2.2.1 8) (oN (zM (ln c) 1 2)<|cond (zk (ln c) 1 2) (cond (ile (ln a.2.2.2.2.2.1) 40) (oN (zcm a.2.2.1)<|some [aB<|zeW a.2.2.1]) oF) oF) oF)) (ln b.Guests,0,b.Pending,b.Guests,b.Memory,b.Outs,()))
def zXS:=zq [(295,0,{n:=36,tm:=[(1,.lp 0 0),(6,.sl 0 []),(7,ti),(8,ti)],lo:=[(0,[.sl 1 [],.sl 0 [],.sl 2 [],ti])],ro:=[(0,.guest,false),(1,.sl .int,false),(2,.int,false)]})]
def zVU (a:Bare)(k:zbS big [aT .bare a])(m:zdD a=true):∃N,zKa N a=some [aB<|zb9 a]:=by
 have j:(_:List _).length<=big:=((zd1 k).1 (.s .guest a.Guests) (by simp[AV.cvs,Ty.cells])).len;refine zcw λN h=>?_;unfold zKa oN nB;conv=>zeta
 refine(zbp a.Guests (λi (t:Unit)=>(ln a.Guests,(i:Int),a.Pending,a.Guests,a.Memory,a.Outs,())) _ (λ_ x (_:Unit) l=>bif (zev) x then l () else oF) (λ(t:Unit)=>cond (zj1 a.Memory 8) (cond (zgs a.Memory 8) (cond (zM (ln a.Guests) 1 2) (cond (zk (ln a.Guests) 1 2) (cond (ile (ln a.Outs) 40) (cond (zcm a.Pending) (some [.one<|.b<|zeW a.Pending]) none) oF) oF) none) oF) none) (λi f t rec=>?_) (λt rec=>?_) _ ()<|h j).trans ?_;{simp only [zbF f,zbk f,zbt f,zbh f j,cT];exact zkc rfl};{simp only [zbx,cF]};rw[zie<|zev];refine br (λc=>?_) (λc=>?_);{refine must rfl ?_;refine br (λd=>?_) (λd=>?_);{refine must rfl ?_;refine br (λe=>?_) (λe=>?_);{refine br (λg=>?_) (λg=>?_);{refine must rfl ?_;first|rfl|(simp only [c,d,e,g,zb9,zb0,cT,cF]<;>rfl)|(simp_all [Ty.cells,zb9,zb0];done)};{first|rfl|(simp only [c,d,e,g,zb9,zb0,cT,cF]<;>rfl)|(simp_all [Ty.cells,zb9,zb0];done)}};{first|rfl|(simp only [c,d,e,zb9,zb0,cT,cF]<;>rfl)|(simp_all [Ty.cells,zb9,zb0];done)}};{first|rfl|(simp only [c,d,zb9,zb0,cT,cF]<;>rfl)|(simp_all [Ty.cells,zb9,zb0];done)}};{first|rfl|(simp only [c,zb9,zb0,cT,cF]<;>rfl)|(simp_all [Ty.cells,zb9,zb0];done)}
def zOu:vR 295 zqm:=hF1 zke zn zx zo zXS zVU
@[simp] abbrev zbo (b:Bare):Bool:=pc (SmB b)
@[simp] abbrev zY (b:Bare):Bare:=b
def znL:Run:=rF1 (dT .bare) λb=>(zbo b,[aT .bare<|zY b])
def zCB (N:Nat)(a:Bare):OA:=
 (oN (zhC a.Memory)<|oN (zdk a.Guests)<|oN (zeJ a.Outs)<|some [aT .bare (⟨zeC a.Memory,zdZ a.Guests,zeG a.Outs,a.Pending⟩:Bare)])
def zPV (a:Bare)(b:zbo a=true):∃N,zCB N a=some [aT .bare<|zY a]:=by have c:=zK.1 b;have d:_/\_/\_:=c;refine⟨0,?_⟩;unfold zCB oN;refine mu (mu<|mu ?_);first|rfl|(simp only [*,zY,cT,cF]<;>rfl)|simp_all[Ty.cells,zY]
def zIN:vR 92 znL:=kF1 zke zn zx zo (zq []) zPV
def zG2 (N:Nat)(a:Bare):OA:=
 (oN (zhO a.Memory)<|oN (zhh a.Guests)<|oN (few<|ln<|ap [] a.Outs)<|some [aT .bare (⟨zf0 a.Memory,zhR a.Guests,ap [] a.Outs,a.Pending⟩:Bare)])
def zTJ (a:Bare)(b:zbo a=true):∃N,zG2 N a=some [aT .bare<|zY a]:=by have c:=zK.1 b;have d:_/\_/\_:=c;refine⟨0,?_⟩;unfold zG2 oN;refine mu (mu<|mu ?_);first|rfl|(simp only [*,zY,cT,cF]<;>rfl)|simp_all[Ty.cells,zY]
def zMo:vR 229 znL:=kF1 zke zn zx zo (zq []) zTJ
def z9p:zbb:=[(206,zoR),(298,zoR),(232,zoS),(149,zoS),(239,zBP),(231,zqm),(295,zqm),(92,znL),(229,znL)]++z9o
def zIg:zU z9p:=zi zL8 (zi zLO<|zi zLX<|zi zLC<|zi zMp<|zi zOY<|zi zOu<|zi zIN<|zi zMo zke)
def zeN (b:Bare)(i:Int)(x:Guest):Bare:={b with Guests:=up b.Guests i x}
def zeU (b:Bare)(i:Int)(x:Guest):Bare:=bif hasB i (ln b.Guests) then zeN b i x else b
def zkS (b:Bare)(n:Int):Bare:=bif ilt (ln b.Outs) 40 then {b with Outs:=ap b.Outs [n]} else b
@[simp] def zpt {b:Bare}{i:Int}{x:Guest}(h:SmB b)(a:SmG x):SmB (zeN b i x):=⟨h.1,zFg h.2.1 a,h.2.2⟩
@[simp] def zNF {b:Bare}{n:Int}(h:SmB b):SmB (zkS b n):=by unfold zkS;cases a:ilt (ln b.Outs) 40;{exact h};{have:=qD a;refine⟨h.1,h.2.1,?_⟩;simp[ln] at *;omega}
@[simp] def zbdZ (b:Bare)(n:Int):(zkS b n).Guests=b.Guests:=by unfold zkS;cases ilt (ln b.Outs) 40<;>rfl
@[simp] def zwg {m:List LI}{p c v:Int}(h:SmM m):SmM (zbX m p c v):=by unfold zbX;cases a:zhj m p c;{exact h};{cases b:zk v 0 99;{exact h};{exact zNI h (by simpa using zbcX h ((zAp m p c).1 a).1 [])}}
@[simp] abbrev zbL (b:Bare)(i:Int)(x:Guest):Bool:=pc (SmB b/\SmG x)
@[simp] abbrev zcO (b:Bare)(i:Int)(x:Guest):Bare:=zeU b i x
def zxd:Run:=rF3 (dT .bare) dI (dT .guest) λb c d=>(zbL b c d,[aT .bare<|zcO b c d])
def zA3 (N:Nat)(a:Bare)(b:Int)(c:Guest):OA:=
 (oN (zbo a)<|oN (zbm b<|ln a.Guests)<|cond (zcj b<|ln a.Guests) (oN (zO c)<|oN (inb b<|ln (zY a).Guests)<|share (up (zY a).Guests b<|zdd c) λd=>some [aT .bare ({ (zY a) with Guests:=d}:Bare)])<|some [aT .bare<|zY a])
def zMM (a:Bare)(b:Int)(c:Guest)(d:zbL a b c=true):∃N,zA3 N a b c=some [aT .bare<|zcO a b c]:=by have e:=zK.1 d;refine⟨0,?_⟩;unfold zA3 oN;refine mu (must rfl (br (λ_=>mu (mu<|shr ?_)) λ_=>?_));all_goals first|rfl|(simp only [*,zcO,zeU,zeN,cT,cF]<;>rfl)|simp_all[Ty.cells,zcO,zeU,zeN]
def zFs:vR 296 zxd:=kF3 zIg zn zx zo (zq []) zMM
@[simp] abbrev zeF (b:Bare)(n:Int):Bool:=pc (SmB b)
@[simp] abbrev zrK (b:Bare)(n:Int):Bare:=zkS b n
def zEi:Run:=rF2 (dT .bare) dI λb c=>(zeF b c,[aT .bare<|zrK b c])
def zKn (N:Nat)(a:Bare)(b:Int):OA:=
 (oN (zbo a)<|cond (ilt (ln a.Outs) 40) (oN (few<|ln<|ap (zY a).Outs [b])<|some [aT .bare ({ (zY a) with Outs:=(ap (zY a).Outs [b])}:Bare)])<|some [aT .bare<|zY a])
def zV8 (a:Bare)(b:Int)(c:zeF a b=true):∃N,zKn N a b=some [aT .bare<|zrK a b]:=by have d:=zK.1 c;have e:a.Outs.length<=1048576:=d.2.2;refine⟨0,?_⟩;unfold zKn oN;refine mu (br (λ_=>mu ?_) λ_=>?_);all_goals first|rfl|(simp only [*,zrK,zkS,cT,cF]<;>rfl)|simp_all[Ty.cells,zrK,zkS]
def zON:vR 302 zEi:=kF2 zIg zn zx zo (zq []) zV8
def z1c:zbb:=[(296,zxd),(302,zEi)]++z9p
def zrD:zU z1c:=zi zFs (zi zON zIg)
def zmr (b:Bare)(g:Int)(x:Guest)(w:Bool):Bare :=
 bif zfv x.Live (zbn<|address x) (zcx w) then
  (bif w then zeN {b with Memory:=zbX b.Memory (zcI x.Live (zbn<|address x)<|zcx w) (zd9<|address x) x.A} g (zci x)
  else zeN b g (loaded x<|cellAt b.Memory (zcI x.Live (zbn<|address x)<|zcx w)<|zd9<|address x))
 else zeN b g (stopped x<|zs7 (zbn<|address x) w)
def zr2 (b:Bare)(g:Int)(x:Guest)(w:Int):Bare :=
 zeN (cond (cond (zil x.Ctl.Traps w) (ieq w 5) false) (zkS b (zcL x.Prog x.Pc).X) b) g (zgA x x.Ctl.Traps w)
def stepped (b:Bare)(g:Int)(x:Guest)(w:Int):Bare :=
 bif ieq w 1 then zeN b g (interrupted x) else (cond (ieq w 2) (zeN b g<|plainly x)<|cond (ieq w 3) (zmr b g x false)<|cond (ieq w 4) (zmr b g x true)<|zr2 b g x w)
def tr1 (x:Guest)(t w:Int):ieq w 6=true->zgA x t w=stopped x (zvl (zcL x.Prog x.Pc).X)/\zil t w=false:=by intro h;simp[zgA,zil,h]
def tr2 (x:Guest)(t w:Int):ieq w 6=false->(ieq w 5=false->ieq w 6=false->ieq w 7=true)->zew t (zgx w)=true->zgA x t w=zr4 x w/\zil t w=false:=by intro b c h;unfold zgA zil zr4 zgx at *;cases a:ieq w 5<;>simp_all
def tr3 (x:Guest)(t w:Int):ieq w 6=false->ieq w 7=false->zew t (zgx w)=false->ieq w 5=true->zgA x t w=zci x/\zil t w=true:=by intro b c h a;unfold zgA zil zgx at *;simp_all
def tr4 (x:Guest)(t w:Int):ieq w 6=false->(ieq w 5=false->ieq w 6=false->ieq w 7=true)->zew t (zgx w)=false->ieq w 5=false->zgA x t w=held x:=by intro b c h a;unfold zgA zgx at *;simp_all
def zib (b:Bare)(g:Int):Bool:=bif hasB g (ln b.Guests) then (cond (zb0 b) (!ieq (zN<|gAt b g) 0) false) else false
def zfS (b:Bare)(g:Int):Bare:=bif zib b g then stepped b g (gAt b g) (zN<|gAt b g) else b
@[simp] def z0A {b:Bare}{g:Int}{x:Guest}{w:Bool}(h:SmB b)(a:SmG x):SmB (zmr b g x w):=by unfold zmr;cases zfv x.Live (zbn<|address x) (zcx w);{exact zpt h a};{cases w;{exact zpt h (zNG _ a)};{exact⟨zwg h.1,zFg h.2.1<|zlk a,h.2.2⟩}}
@[simp] def zbbH {b:Bare}{g:Int}{x:Guest}{w:Int}(h:SmB b)(a:SmG x):SmB (zr2 b g x w):=by unfold zr2;cases (cond (zil x.Ctl.Traps w) (ieq w 5) false);{exact zpt h (zEz _ _ a)};{exact zpt (zNF h) (zEz _ _ a)}
@[simp] def zZG {b:Bare}{g:Int}{x:Guest}{w:Int}(h:SmB b)(a:SmG x):SmB (stepped b g x w):=by unfold stepped;cases ieq w 1;{cases ieq w 2;{cases ieq w 3;{cases ieq w 4;{exact zbbH h a};{exact z0A h a}};{exact z0A h a}};{exact zpt h (zHM a)}};{exact zpt h (z0B a)}
@[simp] def zbd2 {b:Bare}{g:Int}(h:SmB b):SmB (zfS b g):=by unfold zfS;cases zib b g;{exact h};{exact zZG h (zgw g h)}
def z3g (x:Guest):ieq (zN x) 0=false->ieq (zN x) 1=false->ieq (zN x) 2=false->ieq (zN x) 3=false->ieq (zN x) 4=false->ieq (zN x) 5=false->ieq (zN x) 6=false->ieq (zN x) 7=true:=by unfold zN zy0;cases canRun x;{intro h;cases h};{cases zkv x;{simp only [cT,cF];generalize (zcL x.Prog x.Pc).Op=o;cases ieq o 3<;>cases ieq o 4<;>cases ieq o 5<;>cases ieq o 6<;>cases ieq o 7<;>simp [ieq]};{intro _ h;cases h}}
def zPA {x:Int}{a b:Int}(h:ieq x a=true)(c:ieq a b=false):ieq x b=false:=by have:x=a:=(by simpa [ieq] using h);rw[this];exact c
@[simp] abbrev zcD (b:Bare)(g:Int):Bool:=pc (SmB b)
@[simp] abbrev zkL (b:Bare)(g:Int):Bare:=zfS b g
@[simp] abbrev zp4 (b:Bare)(g:Int):Bool:=zib b g
def zrW:Run:=rF2 (dT .bare) dI λb c=>(zcD b c,[aT .bare<|zkL b c,aB<|zp4 b c])
def zCo (N:Nat)(b:Bare)(c:Int):OA:=
 let g:=b.Memory;let l:=aT .bare<|zY b;let a:=zem b c;let k:=a.Ctl.Traps;let t:=aT .bare<|zcO b c<|zjg a;let d:=zit a;let r:=aT .bare<|zcO b c<|zlf a d;let i:=zh3 a;let f:=zc7 i;let e:=zbA i;let h:=ieq d 4;let w:=ze9 e h;let p:=aT .bare<|zcO b c<|zcG a w;let j:=(zec a.Prog a.Pc).X;let u:=zbL (zrK b j) c<|zch a;let n:=aT .bare<|zcO (zrK b j) c<|zch a;let x:=zcG a<|zfj j;let m:=zfw a.Live e<|zdK h;let v:=zgQ g m f;let q:=aT .bare<|zcO b c<|zlI a v;let y:=({b with Memory:=(zeH g m f a.A)}:Bare);let s:=aT .bare<|zcO y c<|zch a; (oN (zeo b c)<|oN (zbz a)<|oN (zdD b)<|cond (nB<|zb9 b) (oN (zbo b)<|some [l,aB false])<|cond (nB<|zen b c) (oN (zbo b)<|some [l,aB false])<|cond (ieq d 0) (oN (zbo b)<|some [l,aB false])<|oN (zbz a)<|oN (zei a.Prog a.Pc)<|cond (ieq d 1) (oN (zO a)<|oN (zbL b c<|zfz a)<|some [aT .bare<|zcO b c<|zfz a,aB true])<|cond (ieq d 2) (oN (zO a)<|oN (zbL b c<|ziF a)<|some [aT .bare<|zcO b c<|ziF a,aB true])<|cond (ieq d 3) (cond (ieq d 3) (oN (zbQ i)<|oN (zlK h)<|oN (zin a.Live e<|zdK h)<|cond (nB<|ze1 a.Live e<|zdK h) (oN (zbQ i)<|oN (zhd e h)<|oN (zcF a w)<|oN (zbL b c<|zcG a w)<|some [p,aB true])<|cond h (oN (zbQ i)<|oN (zek g m f a.A)<|oN (zO a)<|oN (zbL y c<|zch a)<|some [s,aB true])<|oN (zbQ i)<|oN (zfO g m f)<|oN (zn0 a v)<|oN (zbL b c<|zlI a v)<|some [q,aB true])<|cond (ieq d 6) (oN (zfr j)<|oN (zcF a<|zfj j)<|oN (zbL b c x)<|some [aT .bare<|zcO b c x,aB true])<|oN (zp7 d)<|oN (zgF k<|zi9 d)<|cond (zfZ k<|zi9 d) (oN (zos a d)<|oN (zbL b c<|zlf a d)<|some [r,aB true])<|cond (ieq d 5) (oN (zeF b j)<|oN (zO a)<|oN u<|some [n,aB true])<|oN (zO a)<|oN (zbL b c<|zjg a)<|some [t,aB true])<|cond h (oN (zbQ i)<|oN (zlK h)<|oN (zin a.Live e<|zdK h)<|cond (nB<|ze1 a.Live e<|zdK h) (oN (zbQ i)<|oN (zhd e h)<|oN (zcF a w)<|oN (zbL b c<|zcG a w)<|some [p,aB true])<|cond h (oN (zbQ i)<|oN (zek g m f a.A)<|oN (zO a)<|oN (zbL y c<|zch a)<|some [s,aB true])<|oN (zbQ i)<|oN (zfO g m f)<|oN (zn0 a v)<|oN (zbL b c<|zlI a v)<|some [q,aB true])<|cond (ieq d 6) (oN (zfr j)<|oN (zcF a<|zfj j)<|oN (zbL b c x)<|some [aT .bare<|zcO b c x,aB true])<|oN (zp7 d)<|oN (zgF k<|zi9 d)<|cond (zfZ k<|zi9 d) (oN (zos a d)<|oN (zbL b c<|zlf a d)<|some [r,aB true])<|cond (ieq d 5) (oN (zeF b j)<|oN (zO a)<|oN u<|some [n,aB true])<|oN (zO a)<|oN (zbL b c<|zjg a)<|some [t,aB true])
def zPI (a:Bare)(b:Int)(f:zcD a b=true):∃N,zCo N a b=some [aT .bare<|zkL a b,aB<|zp4 a b]:=by
 have c:=zK.1 f;have j:=zgw b c;have k:_/\_/\_:=c;have hg:a.Guests.length<=1048576:=c.2.1.1;have g:=z3g (gAt a b);have d:ieq (zN<|gAt a b) 3=true->ieq (zN<|gAt a b) 4=false:=λh=>zPA h rfl;have e:ieq (zN<|gAt a b) 5=true->ieq (zN<|gAt a b) 7=false:=λh=>zPA h rfl;have l:=tr1 (gAt a b) (gAt a b).Ctl.Traps (zN<|gAt a b);have m:=tr2 (gAt a b) (gAt a b).Ctl.Traps (zN<|gAt a b);have p:=tr3 (gAt a b) (gAt a b).Ctl.Traps (zN<|gAt a b);have q:=tr4 (gAt a b) (gAt a b).Ctl.Traps (zN<|gAt a b);have i:∀n,SmB (zkS a n):=λn=>zNF c;refine⟨0,?_⟩;unfold zCo oN nB;conv=>zeta
 refine mu (must rfl (must rfl (brN (λ_=>mu ?_) λ_=>brN (λ_=>mu ?_) λ_=>br (λ_=>mu ?_) λ_=>must rfl (must rfl (br (λ_=>mu (mu ?_)) λ_=>br (λ_=>mu (mu ?_)) λ_=>br (λ_=>br (λ_=>must rfl (must rfl (must rfl (brN (λ_=>must rfl (must rfl (mu<|mu ?_))) λ_=>br (λ_=>must rfl (mu<|mu<|mu ?_)) λ_=>must rfl (must rfl (mu<|mu ?_)))))) λ_=>br (λ_=>must rfl (mu<|mu ?_)) λ_=>must rfl (must rfl (br (λ_=>mu (mu ?_)) λ_=>br (λ_=>mu (mu<|mu ?_)) λ_=>mu (mu ?_)))) λ_=>br (λ_=>must rfl (must rfl (must rfl (brN (λ_=>must rfl (must rfl (mu<|mu ?_))) λ_=>br (λ_=>must rfl (mu<|mu<|mu ?_)) λ_=>must rfl (must rfl (mu<|mu ?_)))))) λ_=>br (λ_=>must rfl (mu<|mu ?_)) λ_=>must rfl (must rfl (br (λ_=>mu (mu ?_)) λ_=>br (λ_=>mu (mu<|mu ?_)) λ_=>mu (mu ?_))))))));all_goals first|rfl|(simp only [*,zkL,zp4,zfS,zib,stepped,zmr,zr2,zeU,zcx,cT,cF]<;>rfl)|simp_all[Ty.cells,zkL,zp4,zfS,zib,stepped,zmr,zr2,zeU,zcx]
def zvx:vR 161 zrW:=kF2 zrD zn zx zo (zq []) zPI
def SmK (k:Kept):Prop:=k.Known.length<=1048576/\k.Slots.length<=1048576
def zC5 (l:List Kept):Prop:=l.length<=1048576/\∀x∈l,SmK x
def zfC (m:Mon):Prop:=m.Outer.length<=1048576/\SmM m.Out/\m.Dirty.length<=1048576/\zmE m.Guests/\m.Outs.length<=1048576/\zC5 m.Tables
def zpR (l:List Mon):Prop:=l.length<=1048576/\∀x∈l,zfC x
def SmH (h:Host):Prop:=SmM h.Memory/\zpR h.Mons/\h.Buffer.length<=1048576/\h.IoBuffer.length<=1048576
@[simp] def zyz (k:Kept):(∀c∈Ty.cells .kept k,CVB sm c)↔SmK k:=by simp[Ty.cells,SmK,z8e]
@[simp] def z6R (l:List Kept):CVB sm (.s .kept l)↔zC5 l:=by rw[znv];simp only[zyz];rfl
@[simp] def zZZ (m:Mon):(∀c∈Ty.cells .mon m,CVB sm c)↔zfC m:=by simp only[Ty.cells,qG,qO,or_false,vN,forall_eq,zrE,zwC,z6R,z1l,zYx,zYw,z9J,and_true,true_and];rfl
@[simp] def zbaZ (l:List Mon):CVB sm (.s .mon l)↔zpR l:=by rw[znv];simp only[zZZ];rfl
@[simp] def zS (h:Host):zdz h↔SmH h:=by unfold zdz;simp only[zbi,qG,qO,or_false,vN,forall_eq,zrE,zbaZ,zVh];rfl
def zbs {p:Prop}(h:p):pc p=true:=zbg h
def zu6 {l:List Kept}{i:Int}{x:Kept}(h:zC5 l)(b:SmK x):zC5 (up l i x):=by refine⟨by simpa using h.1,λy a=>?_⟩;rcases qZ a with a|rfl;{exact h.2 y a};{exact b}
def zj9 {l:List Mon}{i:Int}{x:Mon}(h:zpR l)(b:zfC x):zpR (up l i x):=by refine⟨by simpa using h.1,λy a=>?_⟩;rcases qZ a with a|rfl;{exact h.2 y a};{exact b}
def zpz {a:Type}{l:List a}(h:l.length<=1048576):few (ln<|ap [] l)=true:=by rw[zoo,zba7];omega
@[simp] abbrev zT (h:Host):Bool:=pc (zdz h)
@[simp] abbrev zl (h:Host):Host:=h
def zo5:Run:=rF1 dH λb=>(zT b,[aH<|zl b])
def zG4 (N:Nat)(b:Host):OA:=
 (oN (zhO b.Memory)<|oN (few<|ln<|ap [] b.Buffer)<|oN (few<|ln<|ap [] b.IoBuffer)<|iter (σ:=(Int×lM×lN×lE×lE×lM×lN×lE×lE×lM×lN×lE×lE×Unit)) N (λf a=>let e:=a.2.2.2.2.2.2.2.2.2.2.2.2.1;let d:=ix a.2.2.1 a.1 zh;let c:=ap a.2.2.2.2.2.2.2.2.2.2.1 [zpr d]; (cond (ilt a.1<|ln a.2.2.1) (oN (inb a.1<|ln a.2.2.1)<|oN (zlR d)<|oN (few<|ln c)<|f (zQ .i64 a.1 1,a.2.1,a.2.2.1,a.2.2.2.1,a.2.2.2.2.1,a.2.2.2.2.2.1,a.2.2.2.2.2.2.1,a.2.2.2.2.2.2.2.1,a.2.2.2.2.2.2.2.2.1,a.2.2.2.2.2.2.2.2.2.1,c,a.2.2.2.2.2.2.2.2.2.2.2.1,e,()))<|some [aH (⟨a.2.2.2.2.2.2.2.2.2.1,a.2.2.2.2.2.2.2.2.2.2.1,a.2.2.2.2.2.2.2.2.2.2.2.1,e⟩:Host)])) (0,b.Memory,b.Mons,b.Buffer,b.IoBuffer,[],[],[],[],zf0 b.Memory,[],ap [] b.Buffer,ap [] b.IoBuffer,()))
def zUc:=zq [(73,0,{n:=36,tm:=[(1,.lp 0 0),(2,.lp 1 0),(3,.lp 2 0),(4,ti)],lo:=[(0,[.sl 0 [],.sl 1 [],.sl 2 [],.sl 3 []]),(1,[.sl 4 [],.sl 5 [],.sl 6 [],.sl 7 []]),(2,[.sl 8 [],.sl 9 [],.sl 10 [],.sl 11 []])],ro:=[(0,.sl .int,false),(1,.mon,false),(2,.entry,false),(3,.entry,false),(4,.sl .int,true),(5,.mon,true),(6,.entry,true),(7,.entry,true),(8,.sl .int,true),(9,.mon,true),(10,.entry,true),(11,.entry,true)]})]
def zTL (a:Host)(k:zT a=true):∃N,zG4 N a=some [aH<|zl a]:=by
 obtain⟨g,f,h,j⟩:=(zS a).1 (zK.1 k);have e:=zcR f.1;refine zcw λN d=>?_;unfold zG4 oN;conv=>zeta
 refine must (zbs<|(zrE _).2 g) (must (zpz h)<|must (zpz j) ?_);refine(zbp a.Mons (λi (t:lN)=>((i:Int),a.Memory,a.Mons,a.Buffer,a.IoBuffer,[],[],[],[],zf0 a.Memory,t,ap [] a.Buffer,ap [] a.IoBuffer,())) _ (λ_ x b m=>bif zlR x then (cond (few<|ln<|ap b [zpr x]) (m<|ap b [zpr x]) none) else none) (λ(t:lN)=>some [.agg<|zbi (⟨zf0 a.Memory,t,ap [] a.Buffer,ap [] a.IoBuffer⟩:Host)]) (λi c t rec=>?_) (λt rec=>?_) _ ([])<|d e.1).trans ?_;{simp only [zbF c,zbk c,zbt c,zbh c e.1,cT]};{simp only [zbx,cF]};exact zln zlR zpr _ a.Mons 0 [] (λx l=>⟨zbs<|(zZZ x).2 (f.2 x l),rfl⟩) (by simpa using e.2)
def zMq:vR 73 zo5:=kF1 zrD zn zx zo zUc zTL
@[simp] abbrev zef (k:Kept):Bool:=pc (SmK k)
@[simp] abbrev zdo (k:Kept):Kept:=k
def zzf:Run:=rF1 (dT .kept) λb=>(zef b,[aT .kept<|zdo b])
def zCE (N:Nat)(a:Kept):OA:=
 (oN (few<|ln<|ap [] a.Known)<|oN (zhb a.Slots)<|some [aT .kept (⟨ap [] a.Known,ze5 a.Slots⟩:Kept)])
def zPY (a:Kept)(b:zef a=true):∃N,zCE N a=some [aT .kept<|zdo a]:=by have c:=zK.1 b;obtain⟨f,g⟩:=c;have d:a.Known.length<=2147483648:=(by omega);have e:a.Slots.length<=2147483648:=(by omega);refine⟨0,?_⟩;unfold zCE oN;refine mu (mu ?_);first|rfl|(simp only [*,zdo,cT,cF]<;>rfl)|simp_all[Ty.cells,zdo]
def zIQ:vR 309 zzf:=kF1 zrD zn zx zo (zq []) zPY
def z9d:zbb:=[(73,zo5),(309,zzf)]++z1c
def zU6:zU z9d:=zi zMq (zi zIQ zrD)
@[simp] abbrev zmj (m:Mon):Bool:=pc (zfC m)
@[simp] abbrev zmR (m:Mon):Mon:=m
def zBH:Run:=rF1 (dT .mon) λb=>(zmj b,[aT .mon<|zmR b])
def zGy (N:Nat)(b:Mon):OA:=
 (oN (zhb b.Outer)<|oN (zhC b.Out)<|oN (few<|ln<|ap [] b.Dirty)<|oN (zdk b.Guests)<|oN (zeJ b.Outs)<|iter (σ:=(Int×Int×Int×Int×Int×Int×Int×Int×lK×lK×lS×lM×lB×lG×LI×lS×lM×lB×lG×LI×lK×Unit)) N (λi a=>let h:=a.2.2.2.2.2.2.2.2.2.2.2.2.1;let g:=a.2.2.2.2.2.2.2.2.2.2.2.2.2.1;let f:=a.2.2.2.2.2.2.2.2.2.2.2.2.2.2.1;let e:=a.2.2.2.2.2.2.2.2.1;let d:=a.2.2.2.2.2.2.2.2.2.1;let c:=ix d a.2.1 zeO; (cond (ilt a.2.1 a.1) (oN (inb a.2.1<|ln d)<|oN (zef c)<|oN (few<|ln<|ap e [zdo c])<|i (a.1,zQ .i64 a.2.1 1,a.2.2.1,a.2.2.2.1,a.2.2.2.2.1,a.2.2.2.2.2.1,a.2.2.2.2.2.2.1,a.2.2.2.2.2.2.2.1,ap e [zdo c],d,a.2.2.2.2.2.2.2.2.2.2.1,a.2.2.2.2.2.2.2.2.2.2.2.1,h,g,f,a.2.2.2.2.2.2.2.2.2.2.2.2.2.2.2.1,a.2.2.2.2.2.2.2.2.2.2.2.2.2.2.2.2.1,a.2.2.2.2.2.2.2.2.2.2.2.2.2.2.2.2.2.1,a.2.2.2.2.2.2.2.2.2.2.2.2.2.2.2.2.2.2.1,a.2.2.2.2.2.2.2.2.2.2.2.2.2.2.2.2.2.2.2.1,a.2.2.2.2.2.2.2.2.2.2.2.2.2.2.2.2.2.2.2.2.1,()))<|some [aT .mon (⟨a.2.2.2.2.2.2.2.2.2.2.1,a.2.2.2.2.2.2.2.2.2.2.2.1,h,g,f,a.2.2.1,a.2.2.2.1,e,a.2.2.2.2.1⟩:Mon)])) (ln b.Tables,0,b.Pending,b.Traps,b.Own,0,0,0,[],b.Tables,ze5 b.Outer,zeC b.Out,ap [] b.Dirty,zdZ b.Guests,zeG b.Outs,[],[],[],[],[],[],()))
def zT4:=zq [(193,0,{n:=44,tm:=[(1,.lp 0 0),(2,.lp 1 0),(3,.sl 0 []),(29,.sl 1 []),(30,ti),(31,ti)],lo:=[(0,[.sl 2 [],.sl 3 [],.sl 4 [],.sl 5 [],.sl 6 [],ti,ti,.sl 1 [],ti]),(1,[.sl 7 [],.sl 8 [],.sl 9 [],.sl 10 [],.sl 11 [],ti,ti,.sl 12 [],ti])],ro:=[(0,.kept,true),(1,.kept,false),(2,.slot,true),(3,.sl .int,true),(4,.bool,true),(5,.guest,true),(6,.int,true),(7,.slot,true),(8,.sl .int,true),(9,.bool,true),(10,.guest,true),(11,.int,true),(12,.kept,true)]})]
def zTj (a:Mon)(p:zmj a=true):∃N,zGy N a=some [aT .mon<|zmR a]:=by
 obtain⟨s,l,m,n,u,f⟩:=zK.1 p;have e:=zcR f.1;refine zcw λN d=>?_;unfold zGy oN;conv=>zeta
 have g:zhb a.Outer=true:=(by simp;omega);have h:zhC a.Out=true:=(by simp;exact l);have j:zdk a.Guests=true:=(by simp;exact n);have k:zeJ a.Outs=true:=(by simp;omega);refine must g (must h<|must (zpz m)<|must j<|must k ?_);refine(zbp a.Tables (λi (t:lK)=>(ln a.Tables,(i:Int),a.Pending,a.Traps,a.Own,0,0,0,t,a.Tables,ze5 a.Outer,zeC a.Out,ap [] a.Dirty,zdZ a.Guests,zeG a.Outs,[],[],[],[],[],[],())) _ (λ_ x b r=>bif zef x then (cond (few<|ln<|ap b [zdo x]) (r<|ap b [zdo x]) none) else none) (λ(t:lK)=>some [.agg<|Ty.cells .mon (⟨ze5 a.Outer,zeC a.Out,ap [] a.Dirty,zdZ a.Guests,zeG a.Outs,a.Pending,a.Traps,t,a.Own⟩:Mon)]) (λi c t rec=>?_) (λt rec=>?_) _ ([])<|d e.1).trans ?_;{simp only [zbF c,zbk c,zbt c,zbh c e.1,cT]};{simp only [zbx,cF]};exact zln zef zdo _ a.Tables 0 [] (λx q=>⟨zbs<|f.2 x q,rfl⟩) (by simpa using e.2)
def zLU:vR 193 zBH:=kF1 zU6 zn zx zo zT4 zTj
def z9e:zbb:=[(193,zBH)]++z9d
def zzV:zU z9e:=zi zLU zU6
def zCC (N:Nat)(b:Host):OA:=
 (oN (zhC b.Memory)<|oN (few<|ln<|ap [] b.Buffer)<|oN (few<|ln<|ap [] b.IoBuffer)<|iter (σ:=(Int×Int×lN×lM×lN×lE×lE×lM×lN×lE×lE×Unit)) N (λe a=>let d:=ix a.2.2.1 a.2.1 zh;let c:=ap a.2.2.2.2.2.2.2.2.1 [zmR d]; (cond (ilt a.2.1 a.1) (oN (inb a.2.1<|ln a.2.2.1)<|oN (zmj d)<|oN (few<|ln c)<|e (a.1,zQ .i64 a.2.1 1,a.2.2.1,a.2.2.2.1,a.2.2.2.2.1,a.2.2.2.2.2.1,a.2.2.2.2.2.2.1,a.2.2.2.2.2.2.2.1,c,a.2.2.2.2.2.2.2.2.2.1,a.2.2.2.2.2.2.2.2.2.2.1,()))<|some [aH (⟨a.2.2.2.2.2.2.2.1,a.2.2.2.2.2.2.2.2.1,a.2.2.2.2.2.2.2.2.2.1,a.2.2.2.2.2.2.2.2.2.2.1⟩:Host)])) (ln b.Mons,0,b.Mons,[],[],[],[],zeC b.Memory,[],ap [] b.Buffer,ap [] b.IoBuffer,()))
def zQO:=zq [(69,0,{n:=34,tm:=[(2,.lp 0 0),(3,.lp 1 0),(19,.sl 0 []),(20,ti),(21,ti)],lo:=[(0,[.sl 1 [],.sl 2 [],.sl 3 [],.sl 4 []]),(1,[.sl 5 [],.sl 6 [],.sl 7 [],.sl 8 []])],ro:=[(0,.mon,false),(1,.sl .int,true),(2,.mon,true),(3,.entry,true),(4,.entry,true),(5,.sl .int,true),(6,.mon,true),(7,.entry,true),(8,.entry,true)]})]
def zPW (a:Host)(l:zT a=true):∃N,zCC N a=some [aH<|zl a]:=by
 obtain⟨h,f,j,k⟩:=(zS a).1 (zK.1 l);have e:=zcR f.1;refine zcw λN d=>?_;unfold zCC oN;conv=>zeta
 have g:zhC a.Memory=true:=(by simp;exact h);refine must g (must (zpz j)<|must (zpz k) ?_);refine(zbp a.Mons (λi (t:lN)=>(ln a.Mons,(i:Int),a.Mons,[],[],[],[],zeC a.Memory,t,ap [] a.Buffer,ap [] a.IoBuffer,())) _ (λ_ x b n=>bif zmj x then (cond (few<|ln<|ap b [zmR x]) (n<|ap b [zmR x]) none) else none) (λ(t:lN)=>some [.agg<|zbi (⟨zeC a.Memory,t,ap [] a.Buffer,ap [] a.IoBuffer⟩:Host)]) (λi c t rec=>?_) (λt rec=>?_) _ ([])<|d e.1).trans ?_;{simp only [zbF c,zbk c,zbt c,zbh c e.1,cT]};{simp only [zbx,cF]};exact zln zmj zmR _ a.Mons 0 [] (λx m=>⟨zbs<|f.2 x m,rfl⟩) (by simpa using e.2)
def zIO:vR 69 zo5:=kF1 zzV zn zx zo zQO zPW
def allI {a:Type}(p:Nat->a->Bool):List a->Nat->Bool
 |[],_=>true
 |x::l,i=>p i x&&allI p l (i+1)
def zIr {a b:Type}(p:Nat->a->Bool)(r:Option b)(K:Unit->Option b):∀(l:List a) (i:Nat),goL (λi x (_:Unit) k=>bif p i x then k () else r) K l i ()=bif allI p l i then K () else r
 |[],_=>rfl
 |x::l,i=>by simp only[goL,allI];cases p i x;{rfl};{simp only [cT,uK];exact zIr p r K l (i+1)}
def zRv {a:Type}(q:a->Bool)(l:List a)(d:a):∀(n i:Nat),i+n<=l.length->zpS (λj=>q (ix l (j:Int) d)) n i=((l.drop i).take n).all q
 | 0,i,_=>by simp[zpS]
 |n+1,i,h=>by have b:i<l.length:=(by omega);rw[kM b,List.take_succ_cons,k6,<- zRv q l d n (i+1) (by omega)];simp only[zpS,zbt b]
def sameKey (a b:Entry):Bool:=bif ieq a.Tag b.Tag then ieq a.Page b.Page else false
def alone (l:List Entry)(i:Nat)(x:Entry):Bool:=(l.take i).all λy=>!sameKey x y
def zgO (l:List Entry):Bool:=bif allI (alone l) l 0 then ile (ln l) 6 else false
def z7e {a:Type}{l:List a}{i:Nat}(h:i<=l.length):inr 0 (i:Int) (ln l)=true:=qK (by simp only[ln];omega)
@[simp] abbrev zi8 (l:List Entry):Bool:=true
@[simp] abbrev ziB (l:List Entry):Bool:=zgO l
def znK:Run:=rF1 (dS .entry) λb=>(zi8 b,[aB<|ziB b])
def zCp (N:Nat)(g:lE):OA:=
 (iter (σ:=(Int×Int×lE×Unit)) N (λi b=>let c:=b.2.2.1;let e:=ix c b.2.1 zg8; (cond (ilt b.2.1 b.1) (oN (inb b.2.1<|ln c)<|oN (inr 0 b.2.1<|ln c)<|iter (σ:=(Int×Int×Int×Int×Int×Int×Int×Int×lE×lE×Unit)) N (λj a=>let d:=a.2.2.2.1;let f:=a.2.2.2.2.2.2.2.2.2.1;let h:=j (a.1,a.2.1,a.2.2.1,zQ .i64 d 1,a.2.2.2.2.1,a.2.2.2.2.2.1,a.2.2.2.2.2.2.1,a.2.2.2.2.2.2.2.1,a.2.2.2.2.2.2.2.2.1,f,()); (cond (ilt d a.2.2.1) (oN (inb d<|ln f)<|cond (ieq a.2.2.2.2.1 (ix f d zg8).Tag) (cond (ieq a.2.2.2.2.2.1 (ix f d zg8).Page) oF h) h)<|i (a.1,zQ .i64 a.2.1 1,a.2.2.2.2.2.2.2.2.1,()))) (b.1,b.2.1,ln<|tk c b.2.1,0,e.Tag,e.Page,e.Host,e.Rights,c,tk c b.2.1,()))<|some [aB<|ile (ln c) 6])) (ln g,0,g,()))
def zQM:=zq [(264,0,{n:=39,tm:=[(0,.sl 0 []),(7,.sl 0 []),(8,ti),(9,ti)],lo:=[],ro:=[(0,.entry,false)]}),(264,2,{n:=39,tm:=[(0,.sl 0 []),(4,.lp 0 0),(7,.sl 0 []),(8,ti),(9,ti),(16,.sl 1 []),(17,ti),(18,ti)],lo:=[(0,[ti,ti,ti,ti])],ro:=[(0,.entry,false),(1,.entry,false)]})]
def zPJ (a:List Entry)(l:zbS big [aS .entry a])(m:zi8 a=true):∃N,zCp N a=some [aB<|ziB a]:=by
 have e:=len0 l;refine zcw λN d=>?_;unfold zCp oN;conv=>zeta
 refine(zbp a (λi (t:Unit)=>(ln a,(i:Int),a,())) _ (λi (x:Entry) (_:Unit) h=>bif alone a i x then h () else oF) (λ(t:Unit)=>some [.one<|.b<|ile (ln a) 6]) (λi c t rec=>?_) (λt rec=>?_) _ ()<|d e).trans ?_;{simp only [zbF c,zbk c,zbt c,zbh c e,cT];rw[z7e<|Nat.le_of_lt c,cT];have k:(tk a (i:Int)).length<=big:=qS (by simp[tk];omega) e;refine(zbp (tk a (i:Int)) (λj (u:Unit)=>(ln a,(i:Int),ln<|tk a (i:Int),(j:Int),a[i].Tag,a[i].Page,a[i].Host,a[i].Rights,a,tk a (i:Int),())) _ (λ_ (y:Entry) (_:Unit) h=>bif !sameKey a[i] y then h () else oF) (λ(u:Unit)=>rec (ln a,((i+1:Nat):Int),a,())) (λj g u f=>?_) (λu f=>?_) _ ()<|d k).trans ?_;{simp only [zbF g,zbk g,zbt g,zbh g k,cT,zbh c e];unfold sameKey;cases ieq a[i].Tag (tk a (i:Int))[j].Tag<;>cases ieq a[i].Page (tk a (i:Int))[j].Page<;>rfl};{simp only [zbx,cF,zbh c e]};rw[zie λy=>!sameKey a[i] y];rfl};{simp only [zbx,cF]};rw[zIr<|alone a];unfold ziB zgO;cases allI (alone a) a 0<;>rfl
def zIy:vR 264 znK:=hF1 zzV zn zx zo zQM zPJ
def zCK (N:Nat)(f:lE):OA:=
 (iter (σ:=(Int×lE×Unit)) N (λg c=>cond (ilt c.1<|ln c.2.1) (iter (σ:=(Int×Int×lE×Unit)) N (λh a=>let b:=a.2.2.1;let e:=ix b a.2.1 zg8;let d:=h (a.1,zQ .i64 a.2.1 1,b,()); (cond (ilt a.2.1 a.1) (oN (inb a.1<|ln b)<|oN (inb a.2.1<|ln b)<|cond (ieq (ix b a.1 zg8).Tag e.Tag) (oN (inb a.1<|ln b)<|oN (inb a.2.1<|ln b)<|cond (ieq (ix b a.1 zg8).Page e.Page) oF d) d)<|g (zQ .i64 a.1 1,b,()))) (c.1,0,c.2.1,()))<|some [aB<|ile (ln c.2.1) 6]) (0,f,()))
def zQQ:=zq [(112,0,{n:=43,tm:=[(0,.sl 0 []),(3,ti)],lo:=[],ro:=[(0,.entry,false)]}),(112,2,{n:=43,tm:=[(0,.sl 0 []),(3,ti),(4,ti)],lo:=[],ro:=[(0,.entry,false)]})]
def zP1 (a:List Entry)(k:zbS big [aS .entry a])(l:zi8 a=true):∃N,zCK N a=some [aB<|ziB a]:=by
 have g:=len0 k;refine zcw λN d=>?_;unfold zCK oN;conv=>zeta
 refine(zbp a (λi (t:Unit)=>((i:Int),a,())) _ (λi (x:Entry) (_:Unit) h=>bif alone a i x then h () else oF) (λ(t:Unit)=>some [.one<|.b<|ile (ln a) 6]) (λi c t rec=>?_) (λt rec=>?_) _ ()<|d g).trans ?_;{simp only [zbF c,zbk c,zbt c,zbh c g,cT];refine(zvG i (λ(j:Nat) (_:Unit)=>((i:Int),(j:Int),a,())) _ (λj (_:Unit) h=>bif !sameKey a[i] (ix a (j:Int) zg8) then h () else oF) (λ_=>rec (((i+1:Nat):Int),a,())) (λj m u f=>?_) (λu f=>?_) _ ()<|d (by omega)).trans ?_;{have e:j<a.length:=(by omega);simp only[show ilt (j:Int) (i:Int)=true from qK (by omega),zbk c,zbk e,zbt c,zbh e g,cT];unfold sameKey;cases ieq a[i].Tag (ix a (j:Int) zg8).Tag<;>cases ieq a[i].Page (ix a (j:Int) zg8).Page<;>rfl};{simp only [show ilt (i:Int) (i:Int)=false from qH (by omega),zbh c g,cF]};rw[zE4 λj=>!sameKey a[i] (ix a (j:Int) zg8),zRv (λy=>!sameKey a[i] y) a _ i 0 (by omega)];rfl};{simp only [zbx,cF]};rw[zIr<|alone a];unfold ziB zgO;cases allI (alone a) a 0<;>rfl
def zIU:vR 112 znK:=hF1 zzV zn zx zo zQQ zP1
def z9f:zbb:=[(69,zo5),(112,znK),(264,znK)]++z9e
def zId:zU z9f:=zi zIO (zi zIU<|zi zIy zzV)
def zPB (a b:Int):igt a b = !ile a b:=by unfold igt ile;by_cases h:a<=b;{rw [qK h,qH (by omega)];rfl};{rw [qH h,qK (by omega)];rfl}
def stB {c M:Bool}{E:OA}(h:c=true->E=some [AV.one<|.b M]):(cond (cond c false true) (some [AV.one<|.b false]) E)=some [AV.one<|.b<|cond c M false]:=by cases c;{rfl};{exact h rfl}
def stI {a b:Int}{M:Bool}{E:OA}(h:ieq a b=true->E=some [AV.one<|.b M]):(cond (ine a b) (some [AV.one<|.b false]) E)=some [AV.one<|.b<|cond (ieq a b) M false]:=by rw[zi1];cases c:ieq a b;{rfl};{exact h c}
def stG {a b:Int}{M:Bool}{E:OA}(h:ile a b=true->E=some [AV.one<|.b M]):(cond (igt a b) (some [AV.one<|.b false]) E)=some [AV.one<|.b<|cond (ile a b) M false]:=by rw[zPB];cases c:ile a b;{rfl};{exact h c}
def znG (s:Slot)(p:LI):Bool:=bif zdO s noSlot then zc2 p else (cond (enough s.Rights 1) (ile (ln p) 0) false)
def fits (m:Mon)(j:Nat):Bool:=znG (ix m.Outer (j:Int) zV) (ix m.Out (j:Int) [])
def zfK (m:Mon):Bool:=bif zk (ln m.Guests) 1 2 then (cond (ieq (ln m.Tables)<|ln m.Guests) (cond (zdQ m.Outer 8 12) (cond (ieq (ln m.Out) 8) (cond (ieq (ln m.Dirty) 8) (cond (ile (ln m.Outs) 40) (cond (zeh m.Pending) (cond (zk m.Traps 0 3) (cond (zk m.Own 0 1000000000) (cond (m.Guests.all zev) (zpS (fits m) 8 0) false) false) false) false) false) false) false) false) false) else false
def ztz {t:List Slot}{n p:Int}(h:zdQ t n p=true):ln t=n:=by unfold zdQ at h;cases a:t.all (λs=>zeT s p);{rw [a]at h;cases h};{rw [a]at h;exact qD h}
@[simp] abbrev zjU (m:Mon):Bool:=true
@[simp] abbrev zkO (m:Mon):Bool:=zfK m
def zsp:Run:=rF1 (dT .mon) λb=>(zjU b,[aB<|zkO b])
def zRb (N:Nat)(a:Mon):OA:=
 let h:=ln a.Guests; (oN (zM h 1 2)<|cond (nB<|zk h 1 2) oF<|cond (ine (ln a.Tables) h) oF<|oN (zkm a.Outer 8 12)<|cond (nB<|zfs a.Outer 8 12) oF<|cond (ine (ln a.Out) 8) oF<|cond (ine (ln a.Dirty) 8) oF<|cond (igt (ln a.Outs) 40) oF<|oN (zcm a.Pending)<|cond (nB<|zeW a.Pending) oF<|oN (zM a.Traps 0 3)<|cond (nB<|zk a.Traps 0 3) oF<|oN (zM a.Own 0 1000000000)<|cond (nB<|zk a.Own 0 1000000000) oF<|iter (σ:=(Int×Int×Int×Int×Int×lG×lS×lM×lB×LI×lK×Unit)) N (λl b=>let i:=b.2.2.2.2.2.2.1;let g:=b.2.2.2.2.2.1;let k:=ix g b.2.1 zA; (cond (ilt b.2.1 b.1) (oN (inb b.2.1<|ln g)<|oN (zbz k)<|cond (nB<|ziJ k) oF<|l (b.1,zQ .i64 b.2.1 1,b.2.2.1,b.2.2.2.1,b.2.2.2.2.1,g,i,b.2.2.2.2.2.2.2.1,b.2.2.2.2.2.2.2.2.1,b.2.2.2.2.2.2.2.2.2.1,b.2.2.2.2.2.2.2.2.2.2.1,()))<|iter (σ:=(Int×Int×Int×Int×Int×lS×lM×lB×lG×LI×lK×Unit)) N (λm c=>let d:=c.2.1;let e:=c.2.2.2.2.2.2.1;let f:=ix c.2.2.2.2.2.1 d zV;let j:=m (c.1,zQ .i64 d 1,c.2.2.1,c.2.2.2.1,c.2.2.2.2.1,c.2.2.2.2.2.1,e,c.2.2.2.2.2.2.2.1,c.2.2.2.2.2.2.2.2.1,c.2.2.2.2.2.2.2.2.2.1,c.2.2.2.2.2.2.2.2.2.2.1,()); (cond (ilt d c.1) (oN (inb d<|ln c.2.2.2.2.2.1)<|oN zbW<|cond (cond (ieq f.Page zbl.Page) (ieq f.Rights zbl.Rights) false) (oN (inb d<|ln e)<|oN (zej<|ix e d [])<|cond (nB<|zdL<|ix e d []) oF j)<|oN (zbm f.Rights 1)<|cond (nB<|zdv f.Rights 1) oF<|oN (inb d<|ln e)<|cond (igt (ln<|ix e d []) 0) oF j) oT)) (ln i,0,b.2.2.1,b.2.2.2.1,b.2.2.2.2.1,i,b.2.2.2.2.2.2.2.1,b.2.2.2.2.2.2.2.2.1,g,b.2.2.2.2.2.2.2.2.2.1,b.2.2.2.2.2.2.2.2.2.2.1,()))) (h,0,a.Pending,a.Traps,a.Own,a.Guests,a.Outer,a.Out,a.Dirty,a.Outs,a.Tables,()))
def zZK:=zq [(265,0,{n:=106,tm:=[(1,.lp 0 0),(64,.sl 0 []),(65,ti),(66,ti)],lo:=[(0,[.sl 1 [],.sl 2 [],.sl 3 [],.sl 0 [],.sl 4 [],ti,ti,.sl 5 [],ti])],ro:=[(0,.guest,false),(1,.slot,false),(2,.sl .int,false),(3,.bool,false),(4,.int,false),(5,.kept,false)]}),(265,2,{n:=106,tm:=[(1,.lp 0 0),(75,.sl 0 []),(76,ti),(77,ti)],lo:=[(0,[.sl 0 [],.sl 1 [],.sl 2 [],.sl 3 [],.sl 4 [],ti,ti,.sl 5 [],ti])],ro:=[(0,.slot,false),(1,.sl .int,false),(2,.bool,false),(3,.guest,false),(4,.int,false),(5,.kept,false)]})]
def zYS (a:Mon)(l:zbS big [aT .mon a])(E:zjU a=true):∃N,zRb N a=some [aB<|zkO a]:=by
 have hg:a.Guests.length<=big:=((zd1 l).1 (.s .guest a.Guests) (by simp[AV.cvs,Ty.cells])).len;have m:a.Outer.length<=big:=((zd1 l).1 (.s .slot a.Outer) (by simp[AV.cvs,Ty.cells])).len;refine zcw λN d=>?_;unfold zRb zkO zfK oN nB;conv=>zeta
 refine must rfl (stB λw=>stI λy=>must rfl (stB λr=>stI λv=>stI λz=>stG λA=>must rfl (stB λB=>must rfl (stB λC=>must rfl (stB λD=>?_)))));have p:=ztz r;have q:ln a.Out=8:=qD v;simp only[ln] at p q;refine(zbp a.Guests (λi (t:Unit)=>(ln a.Guests,(i:Int),a.Pending,a.Traps,a.Own,a.Guests,a.Outer,a.Out,a.Dirty,a.Outs,a.Tables,())) _ (λ_ (x:Guest) (_:Unit) g=>bif zev x then g () else oF) (λ(t:Unit)=>iter (σ:=(Int×Int×Int×Int×Int×lS×lM×lB×lG×LI×lK×Unit)) N (λn c=>cond (ilt c.2.1 c.1) (cond (inb c.2.1<|ln c.2.2.2.2.2.1) (cond zbW (cond (cond (ieq (ix c.2.2.2.2.2.1 c.2.1 zV).Page zbl.Page) (ieq (ix c.2.2.2.2.2.1 c.2.1 zV).Rights zbl.Rights) false) (cond (inb c.2.1<|ln c.2.2.2.2.2.2.1) (cond (zej<|ix c.2.2.2.2.2.2.1 c.2.1 []) (cond (cond (zdL<|ix c.2.2.2.2.2.2.1 c.2.1 []) false true) oF<|n (c.1,zQ .i64 c.2.1 1,c.2.2.1,c.2.2.2.1,c.2.2.2.2.1,c.2.2.2.2.2.1,c.2.2.2.2.2.2.1,c.2.2.2.2.2.2.2.1,c.2.2.2.2.2.2.2.2.1,c.2.2.2.2.2.2.2.2.2.1,c.2.2.2.2.2.2.2.2.2.2.1,())) none) none)<|cond (zbm (ix c.2.2.2.2.2.1 c.2.1 zV).Rights 1) (cond (cond (zdv (ix c.2.2.2.2.2.1 c.2.1 zV).Rights 1) false true) oF<|cond (inb c.2.1<|ln c.2.2.2.2.2.2.1) (cond (igt (ln<|ix c.2.2.2.2.2.2.1 c.2.1 []) 0) oF<|n (c.1,zQ .i64 c.2.1 1,c.2.2.1,c.2.2.2.1,c.2.2.2.2.1,c.2.2.2.2.2.1,c.2.2.2.2.2.2.1,c.2.2.2.2.2.2.2.1,c.2.2.2.2.2.2.2.2.1,c.2.2.2.2.2.2.2.2.2.1,c.2.2.2.2.2.2.2.2.2.2.1,())) none) none) none) none)<|some [.one<|.b true]) (ln a.Outer,0,a.Pending,a.Traps,a.Own,a.Outer,a.Out,a.Dirty,a.Guests,a.Outs,a.Tables,())) (λi h t rec=>?_) (λt rec=>?_) _ ()<|d hg).trans ?_;{simp only [zbF h,zbk h,zbt h,zbh h hg,cT];simp only[zbz,ziJ,cT];cases zev a.Guests[i]<;>rfl};{simp only [zbx,cF]};rw[zie zev];cases a.Guests.all zev;{rfl};simp only[cT];refine(zbp a.Outer (λj (u:Unit)=>(ln a.Outer,(j:Int),a.Pending,a.Traps,a.Own,a.Outer,a.Out,a.Dirty,a.Guests,a.Outs,a.Tables,())) _ (λj (_:Slot) (_:Unit) g=>bif fits a j then g () else oF) (λ(u:Unit)=>some [.one<|.b true]) (λj e u f=>?_) (λu f=>?_) _ ()<|d m).trans ?_;{simp only [zbF e,zbk e,zbt e,zbh e m,cT];have k:j<a.Out.length:=(by omega);simp only[zbW,zbl,zej,zdL,zbm,zdv,zbk k,zPB,cT];unfold fits znG;simp only[zbt e,zdO];cases ieq a.Outer[j].Page noSlot.Page<;>cases ieq a.Outer[j].Rights noSlot.Rights<;>cases enough a.Outer[j].Rights 1<;>cases ile (ln<|ix a.Out (j:Int) []) 0<;>cases zc2 (ix a.Out (j:Int) [])<;>rfl};{simp only [zbx,cF]};rw[zyF λj (_:Unit) g=>bif fits a j then g () else oF,zE4<|fits a,show a.Outer.length=8 by omega];cases zpS (fits a) 8 0<;>rfl
def zSE:vR 265 zsp:=hF1 zId zn zx zo zZK zYS
def zRn (N:Nat)(c:Mon):OA:=
 (oN (zM (ln c.Guests) 1 2)<|cond (nB<|zk (ln c.Guests) 1 2) oF<|cond (ine (ln c.Tables)<|ln c.Guests) oF<|oN (zkm c.Outer 8 12)<|cond (nB<|zfs c.Outer 8 12) oF<|cond (ine (ln c.Out) 8) oF<|cond (ine (ln c.Dirty) 8) oF<|iter (σ:=(Int×Int×Int×Int×lS×lM×lB×lG×LI×lK×Unit)) N (λl b=>let d:=b.2.2.2.2.2.2.2.1; (cond (ilt b.1<|ln d) (oN (inb b.1<|ln d)<|oN (zbz<|ix d b.1 zA)<|cond (nB<|ziJ<|ix d b.1 zA) oF<|l (zQ .i64 b.1 1,b.2.1,b.2.2.1,b.2.2.2.1,b.2.2.2.2.1,b.2.2.2.2.2.1,b.2.2.2.2.2.2.1,d,b.2.2.2.2.2.2.2.2.1,b.2.2.2.2.2.2.2.2.2.1,()))<|iter (σ:=(Int×Int×Int×Int×lS×lM×lB×lG×LI×lK×Unit)) N (λm a=>let h:=a.2.2.2.2.1;let i:=inb a.1<|ln a.2.2.2.2.2.1;let e:=ix a.2.2.2.2.2.1 a.1 [];let g:=ix h a.1 zV;let k:=ieq g.Rights zbl.Rights;let j:=ieq g.Page zbl.Page;let f:=m (zQ .i64 a.1 1,a.2.1,a.2.2.1,a.2.2.2.1,h,a.2.2.2.2.2.1,a.2.2.2.2.2.2.1,a.2.2.2.2.2.2.2.1,a.2.2.2.2.2.2.2.2.1,a.2.2.2.2.2.2.2.2.2.1,()); (cond (ilt a.1 8) (oN (inb a.1<|ln h)<|oN zbW<|cond (nB<|cond j k false) (oN i<|cond (igt (ln e) 0) oF<|oN (inb a.1<|ln h)<|oN (zbm g.Rights 1)<|cond (nB<|zdv g.Rights 1) oF<|cond (nB<|nB<|cond j k false) (oN i<|oN (zej e)<|cond (nB<|zdL e) oF f) f)<|cond (nB<|nB<|cond j k false) (oN i<|oN (zej e)<|cond (nB<|zdL e) oF f) f)<|cond (ile (ln a.2.2.2.2.2.2.2.2.1) 40) (oN (zcm a.2.1)<|cond (zeW a.2.1) (oN (zM a.2.2.1 0 3)<|cond (zk a.2.2.1 0 3) (oN (zM a.2.2.2.1 0 1000000000)<|some [aB<|zk a.2.2.2.1 0 1000000000]) oF) oF) oF)) (0,b.2.1,b.2.2.1,b.2.2.2.1,b.2.2.2.2.1,b.2.2.2.2.2.1,b.2.2.2.2.2.2.1,d,b.2.2.2.2.2.2.2.2.1,b.2.2.2.2.2.2.2.2.2.1,()))) (0,c.Pending,c.Traps,c.Own,c.Outer,c.Out,c.Dirty,c.Guests,c.Outs,c.Tables,()))
def zZM:=zq [(113,0,{n:=115,tm:=[(1,.lp 0 0),(3,ti)],lo:=[(0,[.sl 0 [],.sl 1 [],.sl 2 [],.sl 3 [],.sl 4 [],ti,ti,.sl 5 [],ti])],ro:=[(0,.slot,false),(1,.sl .int,false),(2,.bool,false),(3,.guest,false),(4,.int,false),(5,.kept,false)]}),(113,2,{n:=115,tm:=[(1,.lp 0 0),(4,ti)],lo:=[(0,[.sl 0 [],.sl 1 [],.sl 2 [],.sl 3 [],.sl 4 [],ti,ti,.sl 5 [],ti])],ro:=[(0,.slot,false),(1,.sl .int,false),(2,.bool,false),(3,.guest,false),(4,.int,false),(5,.kept,false)]})]
def zY2 (c:Mon)(r:zbS big [aT .mon c])(A:zjU c=true):∃N,zRn N c=some [aB<|zkO c]:=by
 have hg:c.Guests.length<=big:=((zd1 r).1 (.s .guest c.Guests) (by simp[AV.cvs,Ty.cells])).len;refine zcw λN d=>?_;unfold zRn zkO zfK oN nB;conv=>zeta
 refine must rfl (stB λw=>stI λy=>must rfl (stB λp=>stI λq=>stI λz=>?_));have m:=ztz p;have n:ln c.Out=8:=qD q;simp only[ln] at m n;refine(zbp c.Guests (λi (t:Unit)=>((i:Int),c.Pending,c.Traps,c.Own,c.Outer,c.Out,c.Dirty,c.Guests,c.Outs,c.Tables,())) _ (λ_ (x:Guest) (_:Unit) l=>bif zev x then l () else oF) (λ(t:Unit)=>iter (σ:=(Int×Int×Int×Int×lS×lM×lB×lG×LI×lK×Unit)) N (λh a=>cond (ilt a.1 8) (cond (inb a.1<|ln a.2.2.2.2.1) (cond zbW (cond (cond (cond (ieq (ix a.2.2.2.2.1 a.1 zV).Page zbl.Page) (ieq (ix a.2.2.2.2.1 a.1 zV).Rights zbl.Rights) false) false true) (cond (inb a.1<|ln a.2.2.2.2.2.1) (cond (igt (ln<|ix a.2.2.2.2.2.1 a.1 []) 0) oF<|cond (inb a.1<|ln a.2.2.2.2.1) (cond (zbm (ix a.2.2.2.2.1 a.1 zV).Rights 1) (cond (cond (zdv (ix a.2.2.2.2.1 a.1 zV).Rights 1) false true) oF<|cond (cond (cond (cond (ieq (ix a.2.2.2.2.1 a.1 zV).Page zbl.Page) (ieq (ix a.2.2.2.2.1 a.1 zV).Rights zbl.Rights) false) false true) false true) (cond (inb a.1<|ln a.2.2.2.2.2.1) (cond (zej<|ix a.2.2.2.2.2.1 a.1 []) (cond (cond (zdL<|ix a.2.2.2.2.2.1 a.1 []) false true) oF<|h (zQ .i64 a.1 1,a.2.1,a.2.2.1,a.2.2.2.1,a.2.2.2.2.1,a.2.2.2.2.2.1,a.2.2.2.2.2.2.1,a.2.2.2.2.2.2.2.1,a.2.2.2.2.2.2.2.2.1,a.2.2.2.2.2.2.2.2.2.1,())) none) none)<|h (zQ .i64 a.1 1,a.2.1,a.2.2.1,a.2.2.2.1,a.2.2.2.2.1,a.2.2.2.2.2.1,a.2.2.2.2.2.2.1,a.2.2.2.2.2.2.2.1,a.2.2.2.2.2.2.2.2.1,a.2.2.2.2.2.2.2.2.2.1,())) none) none) none)<|cond (cond (cond (cond (ieq (ix a.2.2.2.2.1 a.1 zV).Page zbl.Page) (ieq (ix a.2.2.2.2.1 a.1 zV).Rights zbl.Rights) false) false true) false true) (cond (inb a.1<|ln a.2.2.2.2.2.1) (cond (zej<|ix a.2.2.2.2.2.1 a.1 []) (cond (cond (zdL<|ix a.2.2.2.2.2.1 a.1 []) false true) oF<|h (zQ .i64 a.1 1,a.2.1,a.2.2.1,a.2.2.2.1,a.2.2.2.2.1,a.2.2.2.2.2.1,a.2.2.2.2.2.2.1,a.2.2.2.2.2.2.2.1,a.2.2.2.2.2.2.2.2.1,a.2.2.2.2.2.2.2.2.2.1,())) none) none)<|h (zQ .i64 a.1 1,a.2.1,a.2.2.1,a.2.2.2.1,a.2.2.2.2.1,a.2.2.2.2.2.1,a.2.2.2.2.2.2.1,a.2.2.2.2.2.2.2.1,a.2.2.2.2.2.2.2.2.1,a.2.2.2.2.2.2.2.2.2.1,())) none) none)<|cond (ile (ln a.2.2.2.2.2.2.2.2.1) 40) (cond (zcm a.2.1) (cond (zeW a.2.1) (cond (zM a.2.2.1 0 3) (cond (zk a.2.2.1 0 3) (cond (zM a.2.2.2.1 0 1000000000) (some [.one<|.b<|zk a.2.2.2.1 0 1000000000]) none) oF) none) oF) none) oF) (0,c.Pending,c.Traps,c.Own,c.Outer,c.Out,c.Dirty,c.Guests,c.Outs,c.Tables,())) (λi g t rec=>?_) (λt rec=>?_) _ ()<|d hg).trans ?_;{simp only [zbF g,zbk g,zbt g,zbh g hg,cT];simp only[zbz,ziJ,cT];cases zev c.Guests[i]<;>rfl};{simp only [zbx,cF]};rw[zie zev];cases B:c.Guests.all zev;{simp only [cF];cases ile (ln c.Outs) 40<;>cases zeh c.Pending<;>cases zk c.Traps 0 3<;>cases zk c.Own 0 1000000000<;>rfl};simp only[cT];refine(zvG 8 (λj (u:Unit)=>((j:Int),c.Pending,c.Traps,c.Own,c.Outer,c.Out,c.Dirty,c.Guests,c.Outs,c.Tables,())) _ (λj (_:Unit) l=>bif fits c j then l () else oF) (λ(u:Unit)=>cond (ile (ln c.Outs) 40) (cond (zcm c.Pending) (cond (zeW c.Pending) (cond (zM c.Traps 0 3) (cond (zk c.Traps 0 3) (cond (zM c.Own 0 1000000000) (some [.one<|.b<|zk c.Own 0 1000000000]) none) oF) none) oF) none) oF) (λj v u f=>?_) (λu f=>?_) _ ()<|d (by decide)).trans ?_;{simp only [show ilt (j:Int) 8=true from qK (by omega),zbh v (show 8<=big by decide),cT];have e:j<c.Outer.length:=(by omega);have k:j<c.Out.length:=(by omega);simp only[zbW,zbl,zej,zdL,zbm,zdv,zbk e,zbk k,zPB,cT];unfold fits znG;simp only[zbt e,zdO];cases ieq c.Outer[j].Page noSlot.Page<;>cases ieq c.Outer[j].Rights noSlot.Rights<;>cases enough c.Outer[j].Rights 1<;>cases ile (ln<|ix c.Out (j:Int) []) 0<;>cases zc2 (ix c.Out (j:Int) [])<;>rfl};{simp only [show ilt ((8:Nat):Int) 8=false from qH (by omega),cF];rfl};rw[zE4<|fits c];simp only[zcm,zeW,zM,zUv,cT];cases zpS (fits c) 8 0<;>cases ile (ln c.Outs) 40<;>cases zeh c.Pending<;>cases zk c.Traps 0 3<;>cases zk c.Own 0 1000000000<;>rfl
def zSQ:vR 113 zsp:=hF1 zId zn zx zo zZM zY2
def z9g:zbb:=[(113,zsp),(265,zsp)]++z9f
def zIe:zU z9g:=zi zSQ (zi zSE zId)
def ziw:List Slot->List Bool->Option (List Bool)
 |[],u=>some u
 |s::l,u=>bif ilt s.Page 0 then ziw l u else (cond (ix u s.Page false) none<|ziw l<|up u s.Page true)
def zkJ:List Mon->List Bool->Bool
 |[],_=>true
 |m::l,u=>bif zfK m then (match ziw m.Outer u with|some a=>zkJ l a|none=>false) else false
def zb2 (h:Host):Bool:=bif zjW h.Memory 12 then (cond (zk (ln h.Mons) 1 3) (cond (zgO h.Buffer) (cond (zgO h.IoBuffer) (zkJ h.Mons<|rp 12 false) false) false) false) else false
def zro:∀(l:List Slot) (u a:List Bool),ziw l u=some a->a.length=u.length
 |[],u,a,h=>by cases h;rfl
 |s::l,u,a,h=>by simp only[ziw]at h;cases b:ilt s.Page 0;{rw [b]at h;cases c:ix u s.Page false;{rw [c]at h;simpa using zro l _ a h};{rw [c]at h;cases h}};{rw [b]at h;exact zro l u a h}
def zFf {t:List Slot}{n:Int}(h:zdQ t n 12=true):∀s∈t,s.Page<12:=by intro s d;unfold zdQ at h;cases b:t.all (λs=>zeT s 12);{rw [b]at h;cases h};{have:=qM.1 b s d;unfold zeT at this;cases a:zdO s noSlot;{rw [a] at this;simp only[cF,show igt 12 0=true from rfl,cT] at this;cases c:zk s.Page 0 (wsub .i64 12 1);{rw [c] at this;cases this};{have:=(zfX.1 c).2;rw[show wsub .i64 12 1=11 from rfl] at this;omega}};{unfold zdO at a;rw[qE]at a;have a:s.Page = -1:=qD a.1;omega}}
def zYk {s:Slot}{u:List Bool}(h:s.Page<12)(b:u.length=12)(a:ilt s.Page 0=false):inb s.Page (ln u)=true:=by have:=qW a;exact qK (by simp only[ln];omega)
def zvk {a:Type}(r:Option a)(y:Slot)(u:List Bool)(b:List Bool->Option a):Option a:=bif ilt y.Page 0 then b u else (cond (inb y.Page<|ln u) (cond (ix u y.Page false) r<|cond (inb y.Page<|ln u) (share (up u y.Page true) λc=>b c) none) none)
def zz9 {c:Type}(r:Option c)(K:List Bool->Option c):∀(l:List Slot) (i:Nat) (u:List Bool),(∀s∈l,s.Page<12)->u.length=12->
 goL (λ_ y u g=>zvk r y u g) K l i u=match ziw l u with|some f=>K f|none=>r
 |[],_,_,_,_=>rfl
 |s::l,i,u,h,b=>by simp only[goL,ziw,zvk];cases d:ilt s.Page 0;{have e:=zYk (h s (by simp)) b d;rw[e];cases ix u s.Page false;{simp only [cF,cT,share];exact zz9 r K l (i+1) _ (λs a=>h s (by simp[a])) (by simpa using b)};{rfl}};{simp only [cT];exact zz9 r K l (i+1) u (λs a=>h s (by simp[a])) b}
def z00 {b:Type}(r:Option b)(m:Mon)(u:List Bool)(a:List Bool->Option b):Option b:=bif zfK m then goL (λ_ y u a=>zvk r y u a) a m.Outer 0 u else r
def zd2 {c x:Bool}:((cond c x false)=true)↔c=true/\x=true:=by cases c<;>simp
def zov {m:Mon}(h:zfK m=true):zdQ m.Outer 8 12=true:=by unfold zfK at h;simp only[zd2]at h;exact h.2.2.1
def zVx {K:Bool->OA}(k:List Bool->OA)(a:∀u,k u=K true):∀(l:List Mon) (i:Nat) (u:List Bool),u.length=12->
 goL (λ_ m u g=>z00 (K false) m u g) k l i u=K (zkJ l u)
 |[],_,u,_=>a u
 |m::l,i,u,b=>by simp only[goL,zkJ,z00];cases c:zfK m;{rfl};{simp only [cT];have e:=zov c;rw[zz9 _ _ _ _ _ (zFf e) b];cases d:ziw m.Outer u with|none=>rfl|some f=>exact zVx k a l (i+1) f ((zro _ _ _ d).trans b)}
@[simp] abbrev zct (h:Host):Bool:=true
@[simp] abbrev zcn (h:Host):Bool:=zb2 h
def zqh:Run:=rF1 dH λb=>(zct b,[aB<|zcn b])
def zKg (N:Nat)(c:Host):OA:=
 (oN (zj1 c.Memory 12)<|cond (nB<|zgs c.Memory 12) oF<|oN (zM (ln c.Mons) 1 3)<|cond (nB<|zk (ln c.Mons) 1 3) oF<|oN (zi8 c.Buffer)<|cond (nB<|ziB c.Buffer) oF<|oN (zi8 c.IoBuffer)<|cond (nB<|ziB c.IoBuffer) oF<|oN (cond (few 12) (ieq 12 12) false)<|iter (σ:=(Int×Int×lB×lN×Unit)) N (λk b=>let h:=ix b.2.2.2.1 b.2.1 zh; (cond (ilt b.2.1 b.1) (oN (inb b.2.1<|ln b.2.2.2.1)<|oN (zjU h)<|cond (nB<|zkO h) oF<|iter (σ:=(Int×Int×Int×Int×Int×lB×lN×Unit)) N (λi a=>let f:=a.2.2.2.2.1;let g:=a.2.2.2.2.2.2.1;let j:=(ix g a.2.2.1 zh).Outer;let d:=a.2.2.2.2.2.1;let e:=(ix j f zV).Page; (cond (ilt f a.2.2.2.1) (oN (inb f<|ln j)<|cond (ilt e 0) (i (a.1,a.2.1,a.2.2.1,a.2.2.2.1,zQ .i64 f 1,d,g,()))<|oN (inb e<|ln d)<|cond (ix d e false) oF<|oN (inb e<|ln d)<|share (up d e true) λl=>i (a.1,a.2.1,a.2.2.1,a.2.2.2.1,zQ .i64 f 1,l,g,()))<|k (a.1,zQ .i64 a.2.1 1,d,g,()))) (b.1,b.2.1,b.2.1,ln h.Outer,0,b.2.2.1,b.2.2.2.1,())) oT)) (ln c.Mons,0,rp 12 false,c.Mons,()))
def zXU:=zq [(119,0,{n:=63,tm:=[(3,.sl 0 []),(33,.sl 1 []),(34,ti),(35,ti)],lo:=[],ro:=[(0,.bool,true),(1,.mon,false)]}),(119,2,{n:=63,tm:=[(3,.sl 0 []),(33,.sl 1 []),(34,ti),(35,ti),(43,.sl 1 [0]),(44,ti),(45,ti)],lo:=[],ro:=[(0,.bool,true),(1,.mon,false)]})]
def zV1 (a:Host)(n:zbS big [aH a])(w:zct a=true):∃N,zKg N a=some [aB<|zcn a]:=by
 have l:CVB big (.s .mon a.Mons):=(zd1 n).1 _ (by simp[AV.cvs,zbi]);have g:=l.len;refine zcw λN d=>?_;unfold zKg zcn zb2 oN nB;conv=>zeta
 refine must rfl (stB λp=>must rfl (stB λq=>must rfl (stB λr=>must rfl (stB λv=>must rfl ?_))));refine(zbp a.Mons (λi (t:lB)=>(ln a.Mons,(i:Int),t,a.Mons,())) _ (λ_ (x:Mon) (u:List Bool) h=>z00 (oF) x u h) (λ(t:lB)=>some [.one<|.b true]) (λi c t rec=>?_) (λt rec=>?_) _ (rp 12 false)<|d g).trans ?_;{simp only [zbF c,zbk c,zbt c,zbh c g,cT];unfold z00;cases k:zfK a.Mons[i];{simp only [zjU,zkO,k,cT,cF]};simp only[zjU,zkO,k,cT,cF];have m:a.Mons[i].Outer.length<=big:=(l.inv.2 _ (jJ c) (.s .slot _) (by simp[Ty.cells])).len;refine(zbp a.Mons[i].Outer (λj (u:lB)=>(ln a.Mons,(i:Int),(i:Int),ln a.Mons[i].Outer,(j:Int),u,a.Mons,())) _ (λ_ (y:Slot) (u:List Bool) h=>zvk (oF) y u h) (λ(u:lB)=>rec (ln a.Mons,((i+1:Nat):Int),u,a.Mons,())) (λj f u e=>?_) (λu e=>?_) _ (t)<|d m).trans ?_;{simp only [zbF f,zbk f,zbt f,zbh f m,cT,zbk c,zbt c,zbh c g];rfl};{simp only [zbx,cF,zbk c,zbt c,zbh c g]};rfl};{simp only [zbx,cF]};exact zVx (K:=λb=>some [AV.one<|.b b]) _ (λ_=>rfl) _ _ _ rfl
def zOC:vR 119 zqh:=hF1 zIe zn zx zo zXU zV1
def zIu {e:Type}(r:Option e)(k:List Bool->Option e)(m:Mon):∀(n i:Nat) (u:List Bool),(∀s∈m.Outer,s.Page<12)->u.length=12->i+n=m.Outer.length->
 goN (λj u d=>bif inb (j:Int) (ln m.Outer) then zvk r (ix m.Outer (j:Int) zV) u d else none) k n i u=goL (λ_ y u d=>zvk r y u d) k (m.Outer.drop i) i u
 | 0,i,u,_,_,h=>by have:i=m.Outer.length:=(by omega);subst this;simp[goN,goL]
 |n+1,i,u,b,c,h=>by have a:i<m.Outer.length:=(by omega);rw[kM a];simp only[goN,goL,zbk a,zbt a,cT,zvk];cases f:ilt m.Outer[i].Page 0;{rw [zYk (b _<|jJ a) c f];cases ix u m.Outer[i].Page false;{simp only [cF,cT,share];exact zIu r k m n (i+1) _ b (by simpa using c) (by omega)};{rfl}};{simp only [cT];exact zIu r k m n (i+1) u b c (by omega)}
def zKD (N:Nat)(b:Host):OA:=
 (oN (zj1 b.Memory 12)<|cond (nB<|zgs b.Memory 12) oF<|oN (zM (ln b.Mons) 1 3)<|cond (nB<|zk (ln b.Mons) 1 3) oF<|oN (zi8 b.Buffer)<|cond (nB<|ziB b.Buffer) oF<|oN (zi8 b.IoBuffer)<|cond (nB<|ziB b.IoBuffer) oF<|oN (cond (few 12) (ieq 12 12) false)<|iter (σ:=(Int×lB×lM×lN×lE×lE×Unit)) N (λq c=>let n:=ix c.2.2.2.1 c.1 zh; (cond (ilt c.1<|ln c.2.2.2.1) (oN (inb c.1<|ln c.2.2.2.1)<|oN (zjU n)<|cond (nB<|zkO n) oF<|iter (σ:=(Int×Int×lB×lM×lN×lE×lE×Unit)) N (λi a=>let k:=zQ .i64 a.2.1 1;let h:=a.2.2.2.2.2.1;let g:=a.2.2.2.2.2.2.1;let f:=a.2.2.1;let e:=a.2.2.2.2.1;let p:=(ix e a.1 zh).Outer;let m:=i (a.1,k,f,a.2.2.2.1,e,h,g,());let d:=(ix p a.2.1 zV).Page;let l:=inb d<|ln f; (cond (ilt a.2.1 8) (oN (inb a.1<|ln e)<|oN (inb a.2.1<|ln p)<|cond (ige d 0) (oN l<|cond (ix f d false) oF<|cond (ige d 0) (oN l<|share (up f d true) λj=>i (a.1,k,j,a.2.2.2.1,e,h,g,())) m)<|cond (ige d 0) (oN l<|share (up f d true) λj=>i (a.1,k,j,a.2.2.2.1,e,h,g,())) m)<|q (zQ .i64 a.1 1,f,a.2.2.2.1,e,h,g,()))) (c.1,0,c.2.1,c.2.2.1,c.2.2.2.1,c.2.2.2.2.1,c.2.2.2.2.2.1,())) oT)) (0,rp 12 false,b.Memory,b.Mons,b.Buffer,b.IoBuffer,()))
def zX2:=zq [(26,0,{n:=72,tm:=[(1,.lp 0 0),(3,.sl 0 []),(4,ti)],lo:=[(0,[.sl 1 [],.sl 2 [],.sl 3 [],.sl 4 []])],ro:=[(0,.bool,true),(1,.sl .int,false),(2,.mon,false),(3,.entry,false),(4,.entry,false)]}),(26,2,{n:=72,tm:=[(1,.lp 0 0),(3,.sl 0 []),(4,ti),(5,ti)],lo:=[(0,[.sl 1 [],.sl 2 [],.sl 3 [],.sl 4 []])],ro:=[(0,.bool,true),(1,.sl .int,false),(2,.mon,false),(3,.entry,false),(4,.entry,false)]})]
def zWl (a:Host)(y:zbS big [aH a])(F:zct a=true):∃N,zKD N a=some [aB<|zcn a]:=by
 have A:CVB big (.s .mon a.Mons):=(zd1 y).1 _ (by simp[AV.cvs,zbi]);have h:=A.len;refine zcw λN f=>?_;unfold zKD zcn zb2 oN nB;conv=>zeta
 refine must rfl (stB λD=>must rfl (stB λq=>must rfl (stB λr=>must rfl (stB λE=>must rfl ?_))));refine(zbp a.Mons (λi (t:lB)=>((i:Int),t,a.Memory,a.Mons,a.Buffer,a.IoBuffer,())) _ (λ_ (x:Mon) (u:List Bool) d=>bif zfK x then goN (λj u d=>bif inb (j:Int) (ln x.Outer) then zvk (oF) (ix x.Outer (j:Int) zV) u d else none) d 8 0 u else oF) (λ(t:lB)=>some [.one<|.b true]) (λi c t rec=>?_) (λt rec=>?_) _ (rp 12 false)<|f h).trans ?_;{simp only [zbF c,zbk c,zbt c,zbh c h,cT];cases v:zfK a.Mons[i];{simp only [zjU,zkO,v,cT,cF]};simp only[zjU,zkO,v,cT,cF];refine(zvG 8 (λj (u:lB)=>((i:Int),(j:Int),u,a.Memory,a.Mons,a.Buffer,a.IoBuffer,())) _ (λj (u:List Bool) d=>bif inb (j:Int) (ln a.Mons[i].Outer) then zvk (oF) (ix a.Mons[i].Outer (j:Int) zV) u d else none) (λ(u:lB)=>rec (((i+1:Nat):Int),u,a.Memory,a.Mons,a.Buffer,a.IoBuffer,())) (λj z u g=>?_) (λu g=>?_) _ (t)<|f (by decide)).trans ?_;{simp only [show ilt (j:Int) 8=true from qK (by omega),zbh z (show 8<=big by decide),cT,zbk c,zbt c,zbh c h];unfold zvk;have e:ige (ix a.Mons[i].Outer (j:Int) zV).Page 0 = !ilt (ix a.Mons[i].Outer (j:Int) zV).Page 0:=(by rw[zbbe,Bool.not_not]);simp only[e];cases ilt (ix a.Mons[i].Outer (j:Int) zV).Page 0<;>cases inb (j:Int) (ln a.Mons[i].Outer)<;>cases inb (ix a.Mons[i].Outer (j:Int) zV).Page (ln u)<;>cases ix u (ix a.Mons[i].Outer (j:Int) zV).Page false<;>rfl};{simp only [show ilt ((8:Nat):Int) 8=false from qH (by omega),cF,zbk c,zbt c,zbh c h]};rfl};{simp only [zbx,cF]};have p:∀(l:List Mon) (i:Nat) (u:List Bool),u.length=12->goL (λ_ (x:Mon) (u:List Bool) d=>bif zfK x then goN (λj u d=>bif inb (j:Int) (ln x.Outer) then zvk (oF) (ix x.Outer (j:Int) zV) u d else none) d 8 0 u else oF) (λ_=>oT) l i u=some [AV.one<|.b<|zkJ l u]:=(by intro l;induction l with|nil=>intro i u _;rfl|cons m l B=>intro i u n;simp only[goL,zkJ];cases q:zfK m;{rfl};{have k:=zov q;have w:0+8=m.Outer.length:=(by have:=ztz k;simp only[ln] at this;omega);simp only[cT];rw[zIu _ _ m 8 0 u (zFf k) n w,vF,zz9 _ _ _ _ _ (zFf k) n];cases r:ziw m.Outer u with|none=>rfl|some C=>exact B (i+1) C ((zro _ _ _ r).trans n)});exact p _ _ _ rfl
def zO5:vR 26 zqh:=hF1 zIe zn zx zo zX2 zWl
def z9h:zbb:=[(26,zqh),(119,zqh)]++z9g
def zzW:zU z9h:=zi zO5 (zi zOC zIe)
def z1J {h:Host}(a:zb2 h=true):(h.Mons.length:Int)<=3:=by unfold zb2 at a;simp only[zd2]at a;exact(zfX.1 a.2.1).2
def zcl (h:Host)(m:Int):Bool:=bif zb2 h then hasB m (ln h.Mons) else false
def zb8 (h:Host)(m p:Int):Bool:=bif zb2 h then (cond (hasB m<|ln h.Mons) (hasB p 8) false) else false
def zQ6 {h:Host}(a:zb2 h=true)(m:Int):zk m 0 (wsub .i64 (ln h.Mons) 1)=hasB m (ln h.Mons):=zr5 (by have:=z1J a;omega) m
@[simp] abbrev zg3 (h:Host)(m:Int):Bool:=true
@[simp] abbrev zg2 (h:Host)(m:Int):Bool:=zcl h m
def zEp:Run:=rF2 dH dI λb c=>(zg3 b c,[aB<|zg2 b c])
def zKX (N:Nat)(a:Host)(b:Int):OA:=
 (oN (zct a)<|cond (zcn a) (oN (zM b 0<|wsub .i64 (ln a.Mons) 1)<|some [aB<|zk b 0<|wsub .i64 (ln a.Mons) 1]) oF)
def zWC (a:Host)(b:Int)(d:zg3 a b=true):∃N,zKX N a b=some [aB<|zg2 a b]:=by refine⟨0,?_⟩;unfold zKX zg2 zcl oN;cases c:zb2 a;{simp only [zct,zcn,c,cT,cF]};{simp only [zct,zcn,c,cT,zM,zUv,zQ6 c]}
def zPx:vR 209 zEp:=kF2 zzW zn zx zo (zq []) zWC
@[simp] abbrev ziR (h:Host)(m p:Int):Bool:=true
@[simp] abbrev zey (h:Host)(m p:Int):Bool:=zb8 h m p
def zsy:Run:=rF3 dH dI dI λb c d=>(ziR b c d,[aB<|zey b c d])
def zRt (N:Nat)(a:Host)(b c:Int):OA:=
 (oN (zct a)<|cond (zcn a) (oN (zM b 0<|wsub .i64 (ln a.Mons) 1)<|cond (zk b 0<|wsub .i64 (ln a.Mons) 1) (oN (zM c 0 7)<|some [aB<|zk c 0 7]) oF) oF)
def zY8 (a:Host)(b c:Int)(e:ziR a b c=true):∃N,zRt N a b c=some [aB<|zey a b c]:=by refine⟨0,?_⟩;unfold zRt zey zb8 oN;cases d:zb2 a;{simp only [zct,zcn,d,cT,cF]};{simp only [zct,zcn,d,cT,zM,zUv,zQ6 d,has8];cases hasB b (ln a.Mons)<;>rfl}
def zSY:vR 215 zsy:=kF3 zzW zn zx zo (zq []) zY8
def zGz (N:Nat)(a:Host)(b c:Int):OA:=
 (oN (zct a)<|cond (zcn a) (oN (zbm b<|ln a.Mons)<|cond (zcj b<|ln a.Mons) (oN (zbm c 8)<|some [aB<|zcj c 8]) oF) oF)
def zTk (a:Host)(b c:Int)(e:ziR a b c=true):∃N,zGz N a b c=some [aB<|zey a b c]:=by refine⟨0,?_⟩;unfold zGz zey zb8 oN;cases d:zb2 a;{simp only [zct,zcn,d,cT,cF]};{simp only [zct,zcn,d,cT,zbm,zcj];cases hasB b (ln a.Mons)<;>rfl}
def zLV:vR 187 zsy:=kF3 zzW zn zx zo (zq []) zTk
def z9i:zbb:=[(209,zEp),(215,zsy),(187,zsy)]++z9h
def zU7:zU z9i:=zi zPx (zi zSY<|zi zLV zzW)
def zea (k:Kept)(p:Int):Bool:=bif hasB p (ln k.Known) then hasB p (ln k.Slots) else false
def zce (k:Kept)(p:Int):Kept:=bif zea k p then ⟨up k.Known p false,up k.Slots p noSlot⟩ else k
@[simp] def zob {k:Kept}{p:Int}(h:SmK k):SmK (zce k p):=by unfold zce;cases zea k p;{exact h};{exact⟨by simpa using h.1,by simpa using h.2⟩}
def has_lt {p:Int}{n m:Int}(h:hasB p n=true):ilt p m=hasB p m:=by have h:=qD h;unfold ilt hasB;by_cases a:p<m;{rw [qK a,qK ⟨h.1,a⟩]};{rw [qH a,qH (by omega)]}
@[simp] abbrev zc8 (k:Kept)(p:Int):Bool:=pc (SmK k)
@[simp] abbrev zkp (k:Kept)(p:Int):Bool:=zea k p
def zEn:Run:=rF2 (dT .kept) dI λb c=>(zc8 b c,[aB<|zkp b c])
def zKV (N:Nat)(a:Kept)(b:Int):OA:=
 (oN (zM b 0<|wsub .i64 (ln a.Known) 1)<|cond (zk b 0<|wsub .i64 (ln a.Known) 1) (some [aB<|ilt b<|ln a.Slots]) oF)
def zWz (a:Kept)(b:Int)(c:zc8 a b=true):∃N,zKV N a b=some [aB<|zkp a b]:=by have e:=zK.1 c;refine⟨0,?_⟩;unfold zKV zkp zea oN;simp only[zM,zUv,zr5 e.1,cT];cases d:hasB b (ln a.Known);{rfl};{simp only [cT,has_lt d]}
def zPn:vR 272 zEn:=kF2 zU7 zn zx zo (zq []) zWz
def z9j:zbb:=[(272,zEn)]++z9i
def zIf:zU z9j:=zi zPn zU7
@[simp] abbrev zeL (k:Kept)(p:Int):Kept:=zce k p
def zqq:Run:=rF2 (dT .kept) dI λb c=>(zc8 b c,[aT .kept<|zeL b c])
def zKB (N:Nat)(c:Kept)(b:Int):OA:=
 let a:=zeE c; (oN (zhP c)<|oN (zc8 a b)<|cond (zkp a b) (oN (inb b<|ln a.Known)<|share (up a.Known b false) λd=>oN zbW<|oN (inb b<|ln a.Slots)<|share (up a.Slots b zbl) λe=>some [aT .kept (⟨d,e⟩:Kept)])<|some [aT .kept a])
def zWj (a:Kept)(b:Int)(g:zc8 a b=true):∃N,zKB N a b=some [aT .kept<|zeL a b]:=by
 have d:=zK.1 g;refine⟨0,?_⟩;unfold zKB zeL oN;conv=>zeta
 refine must (zbs<|(zyz _).2 d) (must (zbs d) ?_);unfold zce;cases c:zea a b;{simp only [zkp,zeE,c,cF]};{simp only [zkp,zeE,c,cT];unfold zea at c;obtain⟨e,f⟩:=zd2.1 c;simp only[zVP,e,f,cT,share,zbW]}
def zO3:vR 212 zqq:=kF2 zIf zn zx zo (zq []) zWj
def zKe (N:Nat)(b:Kept)(a:Int):OA:=
 let c:=zdo b; (oN (zef b)<|oN (zbm a<|ln b.Known)<|cond (zcj a<|ln b.Known) (oN (zbm a<|ln b.Slots)<|cond (zcj a<|ln b.Slots) (oN (inb a<|ln c.Known)<|share (up c.Known a false) λd=>oN zbW<|oN (inb a<|ln c.Slots)<|share (up c.Slots a zbl) λe=>some [aT .kept (⟨d,e⟩:Kept)])<|some [aT .kept c])<|some [aT .kept c])
def zVY (a:Kept)(b:Int)(c:zc8 a b=true):∃N,zKe N a b=some [aT .kept<|zeL a b]:=by
 have d:=zK.1 c;refine⟨0,?_⟩;unfold zKe zeL oN;conv=>zeta
 refine must (zbs d) (must rfl ?_);unfold zce zea;simp only[zcj,zbm,zdo,zVP,share,zbW,cT];cases hasB b (ln a.Known);{rfl};{cases hasB b (ln a.Slots)<;>rfl}
def zOA:vR 168 zqq:=kF2 zIf zn zx zo (zq []) zVY
def z9k:zbb:=[(212,zqq),(168,zqq)]++z9j
def zvn:zU z9k:=zi zO3 (zi zOA zIf)
def zfY (k:Kept)(l:LI):Kept:=l.foldl zce k
def z0E:∀(l:LI) {k:Kept},SmK k->SmK (zfY k l)
 |[],_,h=>h
 |p::l,k,h=>z0E l (zob (p:=p) h)
def zz8 {b:Type}(K:List Bool×List Slot->Option b):∀(l:LI) (i:Nat) (k:Kept),SmK k->
 goL (λ_ x (t:List Bool×List Slot) a=>bif pc (SmK ⟨t.1,t.2⟩) then a ((zce ⟨t.1,t.2⟩ x).Known,(zce ⟨t.1,t.2⟩ x).Slots) else none) K l i (k.Known,k.Slots)=K ((zfY k l).Known,(zfY k l).Slots)
 |[],_,_,_=>rfl
 |x::l,i,k,h=>by have e:pc (SmK ⟨k.Known,k.Slots⟩)=true:=zbs h;simp only[goL,e,cT];exact zz8 K l (i+1) (zce k x) (zob h)
def zEK (l:List Slot)(p:Int):LI:=idxs (λ(s:Slot)=>ieq s.Page p) l 0
def zlq (k:Kept)(l:List Slot)(p:Int):Kept:=zfY k (zEK l p)
def z8d {k:Kept}(l:List Slot)(p:Int)(h:SmK k):SmK (zlq k l p):=z0E _ h
@[simp] abbrev zgr (k:Kept)(l:List Slot)(p:Int):Bool:=pc (SmK k/\l.length<=1048576)
@[simp] abbrev zkW (k:Kept)(l:List Slot)(p:Int):Kept:=zlq k l p
def zlE:Run:=rF3 (dT .kept) (dS .slot) dI λb c d=>(zgr b c d,[aT .kept<|zkW b c d])
def zyu (N:Nat)(c:Kept)(e:lS)(f:Int):OA:=
 (oN (zhP c)<|oN (zqU e f)<|iter (σ:=(Int×LI×lB×lS×lB×lS×Unit)) N (λg a=>let d:=ix a.2.1 a.1 0;let b:=(⟨a.2.2.1,a.2.2.2.1⟩:Kept); (cond (ilt a.1<|ln a.2.1) (oN (inb a.1<|ln a.2.1)<|oN (zc8 b d)<|g (zQ .i64 a.1 1,a.2.1,(zeL b d).Known,(zeL b d).Slots,a.2.2.2.2.1,a.2.2.2.2.2.1,()))<|some [aT .kept b])) (0,zhy e f,(zeE c).Known,(zeE c).Slots,[],[],()))
def zJ5:=zq [(391,0,{n:=27,tm:=[(3,.lp 0 0),(6,.lp 1 0),(7,.sl 0 []),(8,ti)],lo:=[(0,[.sl 1 [],.sl 2 []]),(1,[.sl 3 [],.sl 4 []])],ro:=[(0,.int,true),(1,.bool,true),(2,.slot,true),(3,.bool,true),(4,.slot,true)]})]
def zJz (b:Kept)(a:List Slot)(c:Int)(j:zgr b a c=true):∃N,zyu N b a c=some [aT .kept<|zkW b a c]:=by
 obtain⟨h,f⟩:=zK.1 j;have g:(zhy a c).length<=big:=qS (zvF _ a 0) (zcR f).1;refine zcw λN e=>?_;unfold zyu oN;conv=>zeta
 refine must (zbs<|(zyz _).2 h) (must (zbs (by omega)) ?_);refine(zbp (zhy a c) (λi (t:lB×lS)=>((i:Int),zhy a c,t.1,t.2,[],[],())) _ (λ_ (x:Int) (t:List Bool×List Slot) k=>bif pc (SmK ⟨t.1,t.2⟩) then k ((zce ⟨t.1,t.2⟩ x).Known,(zce ⟨t.1,t.2⟩ x).Slots) else none) (λ(t:lB×lS)=>some [.agg<|Ty.cells .kept (⟨t.1,t.2⟩:Kept)]) (λi d t rec=>?_) (λt rec=>?_) _ ((zeE b).Known,(zeE b).Slots)<|e g).trans ?_;{simp only [zbF d,zbk d,zbt d,zbh d g,cT]};{simp only [zbx,cF]};exact zz8 _ _ 0 b h
def zDF:vR 391 zlE:=kF3 zvn zn zx zo zJ5 zJz
def zyl (N:Nat)(c:Kept)(d:lS)(e:Int):OA:=
 (oN (zef c)<|oN (zqU d e)<|iter (σ:=(Int×Int×LI×lB×lS×lB×lS×Unit)) N (λg a=>let f:=ix a.2.2.1 a.2.1 0;let b:=(⟨a.2.2.2.2.2.1,a.2.2.2.2.2.2.1⟩:Kept); (cond (ilt a.2.1 a.1) (oN (inb a.2.1<|ln a.2.2.1)<|oN (zc8 b f)<|g (a.1,zQ .i64 a.2.1 1,a.2.2.1,a.2.2.2.1,a.2.2.2.2.1,(zeL b f).Known,(zeL b f).Slots,()))<|some [aT .kept b])) (ln<|zhy d e,0,zhy d e,[],[],(zdo c).Known,(zdo c).Slots,()))
def zJ2:=zq [(325,0,{n:=25,tm:=[(6,.lp 0 0),(7,.lp 1 0),(14,.sl 0 []),(15,ti),(16,ti)],lo:=[(0,[.sl 1 [],.sl 2 []]),(1,[.sl 3 [],.sl 4 []])],ro:=[(0,.int,true),(1,.bool,true),(2,.slot,true),(3,.bool,true),(4,.slot,true)]})]
def zJq (c:Kept)(a:List Slot)(b:Int)(j:zgr c a b=true):∃N,zyl N c a b=some [aT .kept<|zkW c a b]:=by
 obtain⟨h,f⟩:=zK.1 j;have g:(zhy a b).length<=big:=qS (zvF _ a 0) (zcR f).1;refine zcw λN e=>?_;unfold zyl oN;conv=>zeta
 refine must (zbs h) (must (zbs (by omega)) ?_);refine(zbp (zhy a b) (λi (t:lB×lS)=>(ln<|zhy a b,(i:Int),zhy a b,[],[],t.1,t.2,())) _ (λ_ (x:Int) (t:List Bool×List Slot) k=>bif pc (SmK ⟨t.1,t.2⟩) then k ((zce ⟨t.1,t.2⟩ x).Known,(zce ⟨t.1,t.2⟩ x).Slots) else none) (λ(t:lB×lS)=>some [.agg<|Ty.cells .kept (⟨t.1,t.2⟩:Kept)]) (λi d t rec=>?_) (λt rec=>?_) _ ((zdo c).Known,(zdo c).Slots)<|e g).trans ?_;{simp only [zbF d,zbk d,zbt d,zbh d g,cT]};{simp only [zbx,cF]};exact zz8 _ _ 0 c h
def zDy:vR 325 zlE:=kF3 zvn zn zx zo zJ2 zJq
def flushed (l:List Entry)(p:Int):List Entry:=l.filter λe=>!ieq e.Host p
def zHf (l:List Entry)(p:Int):(flushed l p).length<=l.length:=uD _ _
def znx {b e:Type}(p:b->Bool)(K:List b->Option e):∀(l:List b) (i:Nat) (a:List b),a.length+l.length<=2147483648->
 goL (λ_ x a d=>bif p x then (cond (few<|ln<|ap a [x]) (d<|ap a [x]) none) else d a) K l i a=K (a++l.filter p)
 |[],i,a,_=>by simp[goL]
 |x::l,i,a,h=>by simp only[jB]at h;simp only[goL];cases c:p x;{rw [cF,znx p K l (i+1) a (by omega),List.filter_cons_of_neg (by simp[c])]};{rw [cT,zhW (by simp[ap];omega),cT,znx p K l (i+1) _ (by simp[ap];omega),List.filter_cons_of_pos c];simp[ap]}
@[simp] abbrev zdJ (l:List Entry)(p:Int):Bool:=pc (l.length<=1048576)
@[simp] abbrev zf7 (l:List Entry)(p:Int):List Entry:=flushed l p
def zmy:Run:=rF2 (dS .entry) dI λb c=>(zdJ b c,[aS .entry<|zf7 b c])
def zBb (N:Nat)(e:lE)(f:Int):OA:=
 (iter (σ:=(Int×Int×lE×lE×Unit)) N (λd a=>let b:=a.2.2.1;let c:=ix b a.2.1 zg8; (cond (ilt a.2.1<|ln b) (oN (inb a.2.1<|ln b)<|cond (ine c.Host a.1) (oN (inb a.2.1<|ln b)<|oN (few<|ln<|ap a.2.2.2.1 [c])<|d (a.1,zQ .i64 a.2.1 1,b,ap a.2.2.2.1 [c],()))<|d (a.1,zQ .i64 a.2.1 1,b,a.2.2.2.1,()))<|some [aS .entry a.2.2.2.1])) (f,0,e,[],()))
def zNY:=zq [(392,0,{n:=29,tm:=[(0,.sl 0 []),(1,ti),(5,.sl 1 []),(6,ti)],lo:=[],ro:=[(0,.entry,false),(1,.entry,true)]})]
def zMT (a:List Entry)(b:Int)(h:zdJ a b=true):∃N,zBb N a b=some [aS .entry<|zf7 a b]:=by
 have j:=zK.1 h;have f:=zcR j;refine zcw λN d=>?_;unfold zBb oN;conv=>zeta
 refine(zbp a (λi (t:lE)=>(b,(i:Int),a,t,())) _ (λ_ (x:Entry) (t:List Entry) g=>bif !ieq x.Host b then (cond (few<|ln<|ap t [x]) (g<|ap t [x]) none) else g t) (λ(t:lE)=>some [.one<|.s .entry t]) (λi c t rec=>?_) (λt rec=>?_) _ ([])<|d f.1).trans ?_;{simp only [zbF c,zbk c,zbt c,zbh c f.1,cT];rfl};{simp only [zbx,cF]};exact znx (λe=>!ieq e.Host b) _ a 0 [] (by simpa using f.2)
def zFz:vR 392 zmy:=kF2 zvn zn zx zo zNY zMT
def zAY (N:Nat)(d:lE)(f:Int):OA:=
 (iter (σ:=(Int×Int×Int×lE×lE×Unit)) N (λe a=>let b:=a.2.2.2.2.1;let c:=ix b a.2.1 zg8; (cond (ilt a.2.1 a.1) (oN (inb a.2.1<|ln b)<|cond (nB<|ieq c.Host a.2.2.1) (oN (few<|ln<|ap a.2.2.2.1 [c])<|e (a.1,zQ .i64 a.2.1 1,a.2.2.1,ap a.2.2.2.1 [c],b,()))<|e (a.1,zQ .i64 a.2.1 1,a.2.2.1,a.2.2.2.1,b,()))<|some [aS .entry a.2.2.2.1])) (ln d,0,f,[],d,()))
def zNT:=zq [(310,0,{n:=25,tm:=[(1,.fn 385 [0]),(5,.sl 0 []),(9,.sl 1 []),(10,ti),(11,ti)],lo:=[(0,[ti])],ro:=[(0,.entry,true),(1,.entry,false)]})]
def zMH (a:List Entry)(b:Int)(h:zdJ a b=true):∃N,zAY N a b=some [aS .entry<|zf7 a b]:=by
 have j:=zK.1 h;have f:=zcR j;refine zcw λN d=>?_;unfold zAY oN nB;conv=>zeta
 refine(zbp a (λi (t:lE)=>(ln a,(i:Int),b,t,a,())) _ (λ_ (x:Entry) (t:List Entry) g=>bif !ieq x.Host b then (cond (few<|ln<|ap t [x]) (g<|ap t [x]) none) else g t) (λ(t:lE)=>some [.one<|.s .entry t]) (λi c t rec=>?_) (λt rec=>?_) _ ([])<|d f.1).trans ?_;{simp only [zbF c,zbk c,zbt c,zbh c f.1,cT];cases ieq a[i].Host b<;>rfl};{simp only [zbx,cF]};exact znx (λe=>!ieq e.Host b) _ a 0 [] (by simpa using f.2)
def zFn:vR 326 zmy:=kF2 zvn zn zx zo zNT zMH
def z1a:zbb:=[(391,zlE),(325,zlE),(392,zmy),(326,zmy)]++z9k
def zzX:zU z1a:=zi zDF (zi zDy<|zi zFz<|zi zFn zvn)
def zlT (b:List Guest)(p:Int):Nat->List Kept->List Kept
 | 0,a=>a
 |n+1,a=>up (zlT b p n a) (n:Int) (zlq (ix (zlT b p n a) (n:Int) zeO) (ix b (n:Int) zA).Live p)
def zpv (b:List Guest)(p:Int):∀(n:Nat) (a:List Kept),(zlT b p n a).length=a.length
 | 0,_=>rfl
 |n+1,a=>by simp only[zlT,zgy];exact zpv b p n a
def zty (b:List Guest)(p:Int):∀(n:Nat) (a:List Kept),n<=a.length->zC5 a->zC5 (zlT b p n a)
 | 0,_,_,h=>h
 |n+1,a,e,h=>by have d:=zty b p n a (by omega) h;have c:n<(zlT b p n a).length:=(by rw[zpv];omega);exact zu6 d (z8d _ _ (by rw[zbt c];exact d.2 _ (jJ c)))
def zjD (x:Mon)(p:Int)(n:Nat):Mon:={x with Tables:=zlT x.Guests p n x.Tables}
def z5M {x:Mon}{p:Int}{n:Nat}(a:n<=x.Tables.length)(h:zfC x):zfC (zjD x p n):=⟨h.1,h.2.1,h.2.2.1,h.2.2.2.1,h.2.2.2.2.1,zty _ _ _ _ a h.2.2.2.2.2⟩
def zcJ (h:Host)(m p:Int)(s:Slot):Host :=
 bif ine (ix (ix h.Mons m zh).Outer p zV).Page (-1)
 then ⟨h.Memory,up h.Mons m {zjD (ix h.Mons m zh) p (ix h.Mons m zh).Tables.length with Outer:=up (ix h.Mons m zh).Outer p s},flushed h.Buffer (ix (ix h.Mons m zh).Outer p zV).Page,flushed h.IoBuffer (ix (ix h.Mons m zh).Outer p zV).Page⟩
 else ⟨h.Memory,up h.Mons m {zjD (ix h.Mons m zh) p (ix h.Mons m zh).Tables.length with Outer:=up (ix h.Mons m zh).Outer p s},h.Buffer,h.IoBuffer⟩
def zbbU (h:Host)(m p:Int):Prop:=hasB m (ln h.Mons)=true/\hasB p (ln (ix h.Mons m zh).Outer)=true/\(ix h.Mons m zh).Tables.length<=(ix h.Mons m zh).Guests.length
@[simp] abbrev zgK (h:Host)(m p:Int)(s:Slot):Bool:=pc (zdz h/\zbbU h m p)
@[simp] abbrev ziS (h:Host)(m p:Int)(s:Slot):Host:=zcJ h m p s
def ztY:LW
 |[.agg [.s (.sl .int) b,.s .mon c,.s .entry d,.s .entry e],.one<|.i .i64 f,.one<|.i .i64 g,.agg [.i .i64 h,.i .i64 j]]=>some (zgK (⟨b,c,d,e⟩:Host) f g (⟨h,j⟩:Slot),[aH<|ziS (⟨b,c,d,e⟩:Host) f g (⟨h,j⟩:Slot)])
 |_=>none
def zxL (N:Nat)(p:Host)(g z:Int)(B:Slot):OA:=
 let v:=ix p.Mons g zh; (oN (inb g<|ln p.Mons)<|oN (inb z<|ln v.Outer)<|iter (σ:=(Int×Int×Int×Int×Int×Int×Int×Int×Int×Int×Int×Int×Int×Int×Int×lM×lN×lE×lE×lM×lN×lE×lE×Unit)) N (λD a=>let d:=a.2.2.1;let m:=a.2.2.2.2.2.2.2.2.2.2.2.1;let l:=a.2.2.2.2.2.2.2.2.2.2.2.2.1;let k:=a.2.2.2.2.2.2.2.2.2.2.2.2.2.2.1;let j:=a.2.2.2.2.2.2.2.2.2.2.2.2.2.2.2.1;let f:=a.2.2.2.2.2.2.2.1;let e:=a.2.2.2.2.2.2.2.2.1;let c:=a.2.2.2.1;let w:=a.2.2.2.2.2.2.2.2.2.2.1;let y:=a.2.2.2.2.2.2.2.2.2.2.2.2.2.2.2.2.2.1;let x:=a.2.2.2.2.2.2.2.2.2.2.2.2.2.2.2.2.2.2.1;let n:=a.2.2.2.2.2.2.1;let r:=a.2.2.2.2.2.2.2.2.2.1;let i:=a.2.2.2.2.2.2.2.2.2.2.2.2.2.1;let q:=a.2.2.2.2.2.2.2.2.2.2.2.2.2.2.2.2.1;let u:=(ix q r zh).Guests;let t:=(ix u c zA).Live;let h:=ix q n zh;let s:=(ix q i zh).Tables;let C:=up q n ({h with Outer:=(up h.Outer a.2.1 (⟨a.2.2.2.2.1,a.2.2.2.2.2.1⟩:Slot))}:Mon); (cond (ilt c<|ln s) (oN (inb c<|ln s)<|oN (inb c<|ln u)<|oN (zgr (ix s c zeO) t a.2.1)<|oN (inb c<|ln s)<|share (up q i ({ (ix q i zh) with Tables:=(up s c<|zkW (ix s c zeO) t a.2.1)}:Mon)) λb=>D (a.1,a.2.1,d,zQ .i64 c 1,a.2.2.2.2.1,a.2.2.2.2.2.1,n,f,e,r,w,m,l,i,k,j,b,y,x,a.2.2.2.2.2.2.2.2.2.2.2.2.2.2.2.2.2.2.2.1,a.2.2.2.2.2.2.2.2.2.2.2.2.2.2.2.2.2.2.2.2.1,a.2.2.2.2.2.2.2.2.2.2.2.2.2.2.2.2.2.2.2.2.2.1,a.2.2.2.2.2.2.2.2.2.2.2.2.2.2.2.2.2.2.2.2.2.2.1,()))<|cond (ine d<|-1) (oN (zdJ y d)<|oN (zdJ x d)<|oN (inb a.2.1<|ln h.Outer)<|share C λb=>oN (inb a.1<|ln b)<|oN (cond (cond (cond (cond (cond (cond (ieq i a.1) true false) (cond (ieq w a.1) true false) false) (cond (ieq r a.1) true false) false) (cond (ieq e a.1) true false) false) (cond (ieq f a.1) true false) false) (cond (ieq n a.1) true false) false)<|share (up b a.1 ({ (ix b n zh) with Out:=(ix b f zh).Out,Dirty:=(ix b e zh).Dirty,Guests:=(ix b r zh).Guests,Outs:=(ix b w zh).Outs,Pending:=m,Traps:=l,Tables:=(ix b i zh).Tables,Own:=k}:Mon)) λA=>some [aH (⟨j,A,zf7 y d,zf7 x d⟩:Host)])<|oN (inb a.2.1<|ln h.Outer)<|share C λb=>oN (inb a.1<|ln b)<|oN (cond (cond (cond (cond (cond (cond (ieq i a.1) true false) (cond (ieq w a.1) true false) false) (cond (ieq r a.1) true false) false) (cond (ieq e a.1) true false) false) (cond (ieq f a.1) true false) false) (cond (ieq n a.1) true false) false)<|share (up b a.1 ({ (ix b n zh) with Out:=(ix b f zh).Out,Dirty:=(ix b e zh).Dirty,Guests:=(ix b r zh).Guests,Outs:=(ix b w zh).Outs,Pending:=m,Traps:=l,Tables:=(ix b i zh).Tables,Own:=k}:Mon)) λA=>some [aH (⟨j,A,y,x⟩:Host)])) (g,z,(ix v.Outer z zV).Page,0,B.Page,B.Rights,g,g,g,g,g,v.Pending,v.Traps,g,v.Own,p.Memory,p.Mons,p.Buffer,p.IoBuffer,[],[],[],[],()))
def zUd:=zq [(336,0,{n:=70,tm:=[(1,ti),(2,ti),(4,.lp 0 0),(7,.lp 1 0),(8,.lp 2 0),(9,.lp 3 0),(10,ti),(11,ti)],lo:=[(0,[.sl 0 [],.sl 1 [],.sl 2 [],.sl 3 []]),(1,[ti,ti]),(2,[.sl 4 [],.sl 5 [],.sl 6 [],.sl 7 []]),(3,[.sl 1 [0],.sl 1 [1],.sl 1 [2],.sl 1 [3],.sl 1 [4],ti,ti,.sl 1 [7],ti])],ro:=[(0,.sl .int,true),(1,.mon,true),(2,.entry,true),(3,.entry,true),(4,.sl .int,true),(5,.mon,true),(6,.entry,true),(7,.entry,true)]})]
def zWN (N:Nat)(a:Host)(b c:Int)(d:Slot):zEY (cQ z1a zp8 zJJ zXO) zUd N 12 336 [true,true,true,true,false,false,false,false] 1 1 [[0],[1],[2],[4],[7]] .mon [aH a,aI b,aI c,aT .slot d]=zxL N a b c d:=by kernel_rfl
def zTN (a:Host)(f b:Int)(d:Slot)(D:zbS big [aH a,aI f,aI b,aT .slot d])(y:zgK a f b d=true):∃N,zxL N a f b d=some [aH<|ziS a f b d]:=by
 obtain⟨B,g,s,C⟩:=zK.1 y;have l:=(zS a).1 B;have r:zfC (ix a.Mons f zh):=l.2.1.2 _ (zbM g _);obtain⟨k,rfl,q⟩:=zeI (n:=a.Mons.length) g;have x:=(zcR r.2.2.2.2.2.1).1;refine zcw λN p=>?_;unfold zxL oN;conv=>zeta
 refine must g (must s ?_);refine zrM (ix a.Mons (k:Int) zh).Tables.length (λi (t:List Mon)=>((k:Int),b,(ix (ix a.Mons (k:Int) zh).Outer b zV).Page,(i:Int),d.Page,d.Rights,(k:Int),(k:Int),(k:Int),(k:Int),(k:Int),(ix a.Mons (k:Int) zh).Pending,(ix a.Mons (k:Int) zh).Traps,(k:Int),(ix a.Mons (k:Int) zh).Own,a.Memory,t,a.Buffer,a.IoBuffer,[],[],[],[],())) _
  (λi t=>t=up a.Mons (k:Int) (zjD (ix a.Mons (k:Int) zh) b i)) (λ_ _=>some [AV.agg<|zbi<|zcJ a (k:Int) b d]) (λi t rec u m A=>?_) (λt rec m=>?_) _ 0 a.Mons ?_ (jX _) ?_
 .subst m;have c:i<(zlT (ix a.Mons (k:Int) zh).Guests b i (ix a.Mons (k:Int) zh).Tables).length:=(by rw[zpv];exact u);have e:i<(ix a.Mons (k:Int) zh).Guests.length:=by omega
  have z:zgr (ix (zlT (ix a.Mons (k:Int) zh).Guests b i (ix a.Mons (k:Int) zh).Tables) (i:Int) zeO) (ix (ix a.Mons (k:Int) zh).Guests (i:Int) zA).Live b=true :=
   zbs ⟨by rw[zbt c];exact(zty _ _ _ _ (by omega) r.2.2.2.2.2).2 _ (jJ c),by rw[zbt e];exact(r.2.2.2.1.2 _<|jJ e).2.2.1⟩
  simp only[zd8 q,zrn,zjD,zbF c,zbk c,zbk e,z,cT,share,zbh u x];exact A _ rfl
 {subst m;simp only[zd8 q,zrn,zgy,zjD,ln,zpv,zgS,show ilt (((ix a.Mons (k:Int) zh).Tables.length:Nat):Int) (((ix a.Mons (k:Int) zh).Tables.length:Nat):Int)=false from qH (by omega),cT,cF,share];have h:inb (k:Int) ((a.Mons.length:Nat):Int)=true:=g;have j:inb b (((ix a.Mons (k:Int) zh).Outer.length:Nat):Int)=true:=s;have v:zdJ a.Buffer (ix (ix a.Mons (k:Int) zh).Outer b zV).Page=true:=zbs l.2.2.1;have w:zdJ a.IoBuffer (ix (ix a.Mons (k:Int) zh).Outer b zV).Page=true:=zbs l.2.2.2;simp only[h,j,v,w,cT];unfold zcJ;cases ine (ix (ix a.Mons (k:Int) zh).Outer b zV).Page (-1)<;>rfl};{exact(zFj q _).symm};{exact p (by omega)}
def zMt:zfn Tryz.prog 336 [true,true,true,true,false,false,false,false] (some (1,1,[[0],[1],[2],[4],[7]])) ztY:=by refine znz (kt:=.mon) (zid zzX zn zx zo) (zkz (by kernel_rfl)) (by kernel_rfl) ?_;intro a g f e h;have c:=zkF e;unfold ztY at h;split at h;{obtain⟨d,rfl⟩:=zfd h;obtain⟨N,b⟩:=zTN _ _ _ _ (by exact c) d;exact⟨⟨_,rfl⟩,rfl,_,N,12,(zWN N _ _ _ _ ).trans b⟩};{cases h}
def zXP:zgB:=[(336,[true,true,true,true,false,false,false,false],some (1,1,[[0],[1],[2],[4],[7]]),ztY)]++zXO
def zd5:zfg zXP:=zr3 zo (by
 intro x a;simp only[qG,qO,or_false]at a;rcases a with rfl
 .exact zMt)
def zN5 (x:Mon)(p:Int):Mon:={x with Dirty:=up x.Dirty p false}
def grd (x:Mon)(p:Int):Mon:={x with Outer:=up x.Outer p ⟨(ix x.Outer p zV).Page,1⟩}
def zod (h:Host)(m p:Int):Host:={h with Mons:=up h.Mons m (zN5 (ix h.Mons m zh) p)}
def zp2 (h:Host)(m p:Int):Host:=bif zb8 h m p then (cond (zdO (ix (ix h.Mons m zh).Outer p zV) noSlot) (zod h m p)<|zcJ (zod h m p) m p ⟨(ix (ix h.Mons m zh).Outer p zV).Page,1⟩) else h
def zAd:∀(l:List Mon) (u:List Bool),zkJ l u=true->∀x∈l,zfK x=true
 |[],_,_,x,a=>by cases a
 |m::l,u,h,x,a=>by
  simp only[zkJ]at h;cases b:zfK m;{rw [b]at h;cases h}
  .rw [b]at h;simp only[cT]at h;cases c:ziw m.Outer u with
   |none=>rw[c]at h;cases h
   |some d =>rw[c]at h;rcases qG.1 a with rfl|a;{exact b};{exact zAd l d h x a}
structure PageAt (h:Host) (m p:Int):Prop where
 hm:hasB m (ln h.Mons)=true
 hp:hasB p 8=true
 ok:zfK (ix h.Mons m zh)=true
 ho:(ix h.Mons m zh).Outer.length=8
 hd:(ix h.Mons m zh).Dirty.length=8
 ht:(ix h.Mons m zh).Tables.length=(ix h.Mons m zh).Guests.length
 hs:zdO (ix (ix h.Mons m zh).Outer p zV) noSlot=ieq (ix (ix h.Mons m zh).Outer p zV).Page (-1)
def zSn {s:Slot}{n:Int}(h:zeT s n=true):zdO s noSlot=ieq s.Page (-1):=by unfold zeT at h;cases a:zdO s noSlot;{rw [a]at h;cases d:ieq s.Page (-1);{rfl};{have e:s.Page = -1:=qD d;cases b:igt n 0;{rw [b]at h;cases h};{cases c:zk s.Page 0 (wsub .i64 n 1);{rw [b,c]at h;cases h};{have:=(zfX.1 c).1;omega}}}};{unfold zdO at a;rw[qE]at a;exact a.1.symm}
def zAs {h:Host}{m p:Int}(d:zb8 h m p=true):PageAt h m p:=by unfold zb8 at d;simp only[zd2]at d;obtain⟨c,f,g⟩:=d;unfold zb2 at c;simp only[zd2]at c;have b:=zAd _ _ c.2.2.2.2 _ (zbM f zh);have a:=b;unfold zfK at a;simp only[zd2]at a;have i:(ix h.Mons m zh).Outer.length=8:=(by have:=ztz a.2.2.1;simp only[ln] at this;omega);refine⟨f,g,b,i,?_,?_,?_⟩;{have:ln (ix h.Mons m zh).Dirty=8:=qD a.2.2.2.2.1;simp only[ln] at this;omega};{have:ln (ix h.Mons m zh).Tables=ln (ix h.Mons m zh).Guests:=qD a.2.1;simp only[ln] at this;omega};{have e:=a.2.2.1;unfold zdQ at e;simp only[zd2]at e;have j:hasB p (ln (ix h.Mons m zh).Outer)=true:=(by rw[ln,i];exact g);exact zSn (qM.1 e.1 _<|zbM j _)}
def zXG {x:Mon}{p:Int}(h:zfC x):zfC (zN5 x p):=⟨h.1,h.2.1,by simpa [zN5] using h.2.2.1,h.2.2.2⟩
def zAO {h:Host}{m p:Int}(b:hasB m (ln h.Mons)=true)(a:SmH h):SmH (zod h m p):=⟨a.1,zj9 a.2.1<|zXG<|a.2.1.2 _<|zbM b _,a.2.2⟩
def zHN {h:Host}{m p:Int}{s:Slot}(d:hasB m (ln h.Mons)=true)(a:SmH h):SmH (zcJ h m p s):=by have c:=a.2.1.2 _ (zbM d zh);have e:=z5M (p:=p) (qV _) c;have b:zpR (up h.Mons m {zjD (ix h.Mons m zh) p (ix h.Mons m zh).Tables.length with Outer:=up (ix h.Mons m zh).Outer p s}):=zj9 a.2.1 ⟨by simpa using c.1,e.2⟩;unfold zcJ;cases ine (ix (ix h.Mons m zh).Outer p zV).Page (-1);{exact⟨a.1,b,a.2.2⟩};{exact⟨a.1,b,qS (zHf _ _) a.2.2.1,qS (zHf _ _) a.2.2.2⟩}
def zAR {h:Host}{m p:Int}(a:hasB m (ln h.Mons)=true):hasB m (ln (zod h m p).Mons)=true:=by unfold zod;simpa [ln] using a
def z5I {h:Host}{m p:Int}(a:SmH h):SmH (zp2 h m p):=by unfold zp2;cases b:zb8 h m p;{exact a};{have P:=zAs b;cases zdO (ix (ix h.Mons m zh).Outer p zV) noSlot;{exact zHN (zAR P.hm) (zAO P.hm a)};{exact zAO P.hm a}}
@[simp] abbrev zfc (h:Host)(m p:Int):Bool:=pc (zdz h)
@[simp] abbrev zj0 (h:Host)(m p:Int):Host:=zp2 h m p
def zHD:Run:=rF3 dH dI dI λb c d=>(zfc b c d,[aH<|zj0 b c d,aB<|zey b c d])
def zRi (N:Nat)(h:Host)(a b:Int):OA:=
 let c:=zl h;let g:=ix c.Mons a zh; (oN (zT h)<|oN (ziR c a b)<|cond (nB<|zey c a b) (some [aH c,aB false])<|oN (inb a<|ln c.Mons)<|oN (inb b<|ln g.Dirty)<|share (up c.Mons a ({g with Dirty:=(up g.Dirty b false)}:Mon)) (λd=>let i:=(ix d a zh).Outer;let f:=({c with Mons:=d}:Host);let e:=ix i b zV;let j:=({e with Rights:=1}:Slot); (oN (inb a<|ln d)<|oN (inb b<|ln i)<|oN zbW<|cond (cond (ieq e.Page zbl.Page) (ieq e.Rights zbl.Rights) false) (some [aH f,aB true])<|oN (zgK f a b j)<|some [aH<|ziS f a b j,aB true])))
def zYY (a:Host)(c b:Int)(j:zfc a c b=true):∃N,zRi N a c b=some [aH<|zj0 a c b,aB<|zey a c b]:=by
 have g:=zK.1 j;have i:=(zS a).1 g;refine⟨0,?_⟩;unfold zRi zj0 zey zp2 oN nB;conv=>zeta
 refine must (zbs g) (must rfl ?_);cases f:zb8 a c b;{simp only [zey,zl,f,cF,cT]};{have P:=zAs f;obtain⟨k,rfl,d⟩:=zeI (n:=a.Mons.length) P.hm;simp only[zey,zl,f,cT,cF];have l:inb b (ln (ix a.Mons (k:Int) zh).Dirty)=true:=(by rw[ln,P.hd];exact P.hp);have h:inb b (ln (ix a.Mons (k:Int) zh).Outer)=true:=(by rw[ln,P.ho];exact P.hp);refine must P.hm (must l ?_);simp only[share,zd8 d,h,cT,zbW,zbl];refine must (zAR (p:=b) P.hm) ?_;have e:∀s:Slot,zdO s noSlot=bif ieq s.Page noSlot.Page then ieq s.Rights noSlot.Rights else false:=λs=>(by unfold zdO;cases ieq s.Page noSlot.Page<;>rfl);rw[<- e];cases zdO (ix (ix a.Mons (k:Int) zh).Outer b zV) noSlot;{refine zcf rfl (must (zbs ⟨(zS _).2 (zAO P.hm i),zAR (p:=b) P.hm,?_,?_⟩) rfl);{simp only [zd8 d];exact h};{simp only [zd8 d];exact k8 P.ht}};{rfl}}
def zSM:vR 200 zHD:=kF3 zzX zn zx zd5 (zq []) zYY
@[simp] abbrev zwY (h:Host)(m p:Int):Bool:=zb8 h m p
def zHA:Run:=rF3 dH dI dI λb c d=>(zfc b c d,[aH<|zj0 b c d,aB<|zwY b c d])
def zQ7 (N:Nat)(f:Host)(a c:Int):OA:=
 let d:=zl f;let g:=ix d.Mons a zh;let j:=ix g.Outer c zV; (oN (zT f)<|oN (ziR f a c)<|cond (nB<|zey f a c) (some [aH d,aB false])<|oN (inb a<|ln d.Mons)<|oN (inb c<|ln g.Outer)<|cond (ine j.Page<|-1) (oN (inb c<|ln g.Outer)<|share (up d.Mons a ({g with Outer:=(up g.Outer c ({j with Rights:=1}:Slot))}:Mon)) λk=>oN (inb a<|ln k)<|oN (cond (cond (cond (ieq a a) true false) (cond (cond (ieq a a) true false) (cond (cond (ieq a a) true false) (cond (cond (ieq a a) true false) (cond (cond (ieq a a) true false) (cond (ieq a a) (cond (cond (ieq c c) (ieq a a) false) (cond (cond (ieq a a) true false) (cond (cond (ieq a a) true false) (cond (cond (ieq a a) true false) (cond (ieq a a) (cond (cond (ieq c c) (ieq a a) false) (cond (cond (ieq c c) (ieq a a) false) true false) false) false) false) false) false) false) false) false) false) false) false) false) true false)<|iter (σ:=(Int×Int×Int×Int×Int×Int×Int×Int×lN×lM×lN×lE×lE×lM×lE×lE×lM×lN×lE×lE×Unit)) N (λv b=>let e:=b.2.2.2.2.1;let s:=b.2.2.2.2.2.2.2.2.1;let t:=b.2.2.2.2.2.2.2.2.2.2.2.2.2.1;let h:=b.2.2.2.1;let r:=b.2.2.2.2.2.2.2.2.2.2.2.2.2.2.1;let q:=b.2.2.2.2.2.2.2.2.2.2.2.2.2.2.2.1;let p:=ix s a zh;let u:=up s a ({p with Dirty:=(up p.Dirty c false)}:Mon);let i:=ix s b.2.1 zh;let n:=ix i.Tables h zeO;let m:=(ix i.Guests h zA).Live; (cond (ilt h b.2.2.1) (oN (inb h<|ln i.Tables)<|oN (inb h<|ln i.Guests)<|oN (zgr n m b.1)<|oN (inb h<|ln i.Tables)<|share (up s b.2.1 ({i with Tables:=(up i.Tables h<|zkW n m b.1)}:Mon)) λl=>oN (cond (cond (cond (ieq a a) true false) (cond (cond (ieq a a) true false) (cond (cond (ieq a a) true false) (cond (cond (ieq a a) true false) (cond (cond (ieq a a) true false) (cond (ieq a a) (cond (cond (ieq c c) (ieq a a) false) (cond (cond (ieq a a) true false) (cond (cond (ieq a a) true false) (cond (cond (ieq a a) true false) (cond (ieq a a) (cond (cond (ieq c c) (ieq a a) false) (cond (cond (ieq c c) (ieq a a) false) true false) false) false) false) false) false) false) false) false) false) false) false) false) true false)<|v (b.1,b.2.1,b.2.2.1,zQ .i64 h 1,e,b.2.2.2.2.2.1,b.2.2.2.2.2.2.1,b.2.2.2.2.2.2.2.1,l,b.2.2.2.2.2.2.2.2.2.1,b.2.2.2.2.2.2.2.2.2.2.1,b.2.2.2.2.2.2.2.2.2.2.2.1,b.2.2.2.2.2.2.2.2.2.2.2.2.1,t,r,q,b.2.2.2.2.2.2.2.2.2.2.2.2.2.2.2.2.1,b.2.2.2.2.2.2.2.2.2.2.2.2.2.2.2.2.2.1,b.2.2.2.2.2.2.2.2.2.2.2.2.2.2.2.2.2.2.1,b.2.2.2.2.2.2.2.2.2.2.2.2.2.2.2.2.2.2.2.1,()))<|cond (ine e<|-1) (oN (zdJ r e)<|oN (zdJ q e)<|oN (inb c<|ln p.Dirty)<|share u λl=>some [aH (⟨t,l,zf7 r e,zf7 q e⟩:Host),aB true])<|oN (inb c<|ln p.Dirty)<|share u λl=>some [aH (⟨t,l,r,q⟩:Host),aB true])) (c,a,ln (ix k a zh).Guests,0,j.Page,j.Rights,j.Page,j.Rights,k,f.Memory,f.Mons,f.Buffer,f.IoBuffer,d.Memory,d.Buffer,d.IoBuffer,[],[],[],[],()))<|oN (inb c<|ln g.Dirty)<|share (up d.Mons a ({g with Dirty:=(up g.Dirty c false)}:Mon)) λk=>some [aH ({d with Mons:=k}:Host),aB true])
def zZI:=zq [(190,0,{n:=71,tm:=[(0,.lp 0 0),(2,ti),(7,.lp 1 0),(8,.ep 0 [] 0),(20,ti),(21,ti)],lo:=[(0,[.sl 5 [],.sl 0 [],.sl 6 [],.sl 7 []]),(1,[ti,ti]),(2,[.sl 1 [],.sl 2 [],.sl 3 [],.sl 4 []]),(3,[.sl 8 [],.sl 9 [],.sl 10 [],.sl 11 []]),(4,[ti,ti])],ro:=[(0,.mon,true),(1,.sl .int,false),(2,.mon,false),(3,.entry,false),(4,.entry,false),(5,.sl .int,true),(6,.entry,true),(7,.entry,true),(8,.sl .int,true),(9,.mon,true),(10,.entry,true),(11,.entry,true)],sk:=[(0,0,0,.sl 1 []),(0,0,1,.sl 2 []),(0,0,2,.sl 3 []),(0,0,3,.sl 4 []),(0,3,0,.lp 2 0),(0,6,0,.lp 3 0),(0,10,0,.lp 4 0),(0,12,0,.sl 5 []),(0,12,2,.sl 6 []),(0,12,3,.sl 7 [])]})]
def zYO (a:Host)(d c:Int)(z:zfc a d c=true):∃N,zQ7 N a d c=some [aH<|zj0 a d c,aB<|zwY a d c]:=by
 have s:=zK.1 z;have l:=(zS a).1 s;refine zcw λN p=>?_;unfold zQ7 zj0 zwY zp2 oN nB;conv=>zeta
 refine must (zbs s) (must rfl ?_);rw[show zey a d c=zb8 a d c from rfl];cases B:zb8 a d c;{rfl}
 .have P:=zAs B;have r:zfC (ix a.Mons d zh):=l.2.1.2 _ (zbM P.hm _);obtain⟨k,rfl,q⟩:=zeI (n:=a.Mons.length) P.hm;have u:inb c (ln (ix a.Mons (k:Int) zh).Dirty)=true:=(by rw[ln,P.hd];exact P.hp);have v:inb c (ln (ix a.Mons (k:Int) zh).Outer)=true:=(by rw[ln,P.ho];exact P.hp);have y:=(zcR r.2.2.2.2.2.1).1;refine zcf rfl ?_;rw[P.hs];refine must P.hm (must v ?_);cases h:ieq (ix (ix a.Mons (k:Int) zh).Outer c zV).Page (-1)
  .have hpg2:ine (ix (ix a.Mons (k:Int) zh).Outer c zV).Page (-1)=true:=(by rw[zi1];exact congrArg not h);refine must hpg2 (must v ?_);simp only[share];refine must (by simp only[ln,zgy];exact P.hm) ?_
   simp only[zgS,cT,zl];refine zrM (ix a.Mons (k:Int) zh).Guests.length (λi (t:List Mon)=>(c,(k:Int),ln (ix (up a.Mons (k:Int)<|grd (ix a.Mons (k:Int) zh) c) (k:Int) zh).Guests,(i:Int),(ix (ix a.Mons (k:Int) zh).Outer c zV).Page,(ix (ix a.Mons (k:Int) zh).Outer c zV).Rights,(ix (ix a.Mons (k:Int) zh).Outer c zV).Page,(ix (ix a.Mons (k:Int) zh).Outer c zV).Rights,t,a.Memory,a.Mons,a.Buffer,a.IoBuffer,a.Memory,a.Buffer,a.IoBuffer,[],[],[],[],())) _
    (λi t=>t=up a.Mons (k:Int) (zjD (grd (ix a.Mons (k:Int) zh) c) c i)) (λ_ _=>some [AV.agg<|zbi<|zcJ (zod a (k:Int) c) (k:Int) c ⟨(ix (ix a.Mons (k:Int) zh).Outer c zV).Page,1⟩,AV.one<|.b true]) (λi t rec f m C=>?_) (λt rec m=>?_) _ 0 (up a.Mons (k:Int)<|grd (ix a.Mons (k:Int) zh) c) rfl (jX _) ?_
   .subst m;have g:i<(ix a.Mons (k:Int) zh).Tables.length:=(by rw[P.ht];exact f);have e:i<(zlT (ix a.Mons (k:Int) zh).Guests c i (ix a.Mons (k:Int) zh).Tables).length:=by rw[zpv];exact g
    have A:zgr (ix (zlT (ix a.Mons (k:Int) zh).Guests c i (ix a.Mons (k:Int) zh).Tables) (i:Int) zeO) (ix (ix a.Mons (k:Int) zh).Guests (i:Int) zA).Live c=true :=
     zbs ⟨by rw[zbt e];exact(zty _ _ _ _ (by omega) r.2.2.2.2.2).2 _ (jJ e),by rw[zbt f];exact(r.2.2.2.1.2 _<|jJ f).2.2.1⟩
    simp only[zd8 q,zrn,zjD,grd,zbF f,zbk e,zbk f,A,cT,share,zbh g y];have j:=C _ rfl;simp only[zd8 q,zjD,grd]at j;exact j
   {subst m;have w:zdJ a.Buffer (ix (ix a.Mons (k:Int) zh).Outer c zV).Page=true:=zbs l.2.2.1;have x:zdJ a.IoBuffer (ix (ix a.Mons (k:Int) zh).Outer c zV).Page=true:=zbs l.2.2.2;unfold zcJ zod zN5;simp only[zd8 q,zrn,zjD,grd,zbx,hpg2,w,x,u,P.ht,share,cT,cF]};{exact p (by rw[<- P.ht];omega)}
  {refine zcf (by rw[zi1];exact congrArg not h) (must u ?_);rfl}
def zSz:vR 66 zHA:=kF3 zzX zn zx zd5 zZI zYO
def z3U:zbb:=[(200,zHD),(66,zHA)]++z1a
def z3V:zU z3U:=zi zSM (zi zSz zzX)
def z3W:zbb:=z3U
def zgn:zU z3W:=z3V
end
end Go.Proofs.YtjapbkodhfpbbaaGreat.E
