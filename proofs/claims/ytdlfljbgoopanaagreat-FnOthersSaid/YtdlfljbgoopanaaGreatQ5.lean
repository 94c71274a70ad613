/- What is proved here: a part of the proof that the statement of this claim holds (several texts of wip/, laid together). -/
import Derived.Test.YtdlfljbgoopanaaGreatQ4
namespace Go.Proofs.YtdlfljbgoopanaaGreat.E
open Go
set_option linter.constructorNameAsVariable false
set_option linter.unusedVariables false
set_option maxRecDepth 100000
set_option linter.unusedSimpArgs false
set_option linter.unusedSectionVars false
noncomputable section
def zoc (o i t:Int):Int:=bif zet i t then 1 else (cond (zet o t) 2 0)
@[simp] abbrev zoy (o i t:Int):Bool:=true
@[simp] abbrev zk6 (o i t:Int):Int:=zoc o i t
def zoT:Run:=rF3 dI dI dI λb c d=>(zoy b c d,[aI<|zk6 b c d])
def zGn (N:Nat)(b c a:Int):OA:=
 (oN (zgC c a)<|cond (zfV c a) (some [aI 1])<|oN (zgC b a)<|cond (zfV b a) (some [aI 2])<|some [aI 0])
theorem zA5 (a b c:Int)(d:zbR big [aI a,aI b,aI c])(e:zoy a b c=true):∃N,zGn N a b c=some [aI<|zk6 a b c]:=by refine⟨0,?_⟩;unfold zGn oN;refine must rfl (br (λ_=>?_) λ_=>must rfl (br (λ_=>?_) λ_=>?_));all_goals first|rfl|(simp only [*,zk6,zoc,cT,cF]<;>rfl)|simp_all[Ty.cells,zk6,zoc]
theorem zLA:vP 375 zoT:=hF3 zgi zn zx zd2 (zq []) zA5
theorem zLf:vP 218 zoT:=hF3 zgi zn zx zd2 (zq []) zA5
theorem has3 (p:Int):hasB p 3=zl p 0 2:=by unfold hasB zl ige ile;by_cases a:0<=p<;>by_cases b:p<3;{rw [qJ (p:=0<=p/\p<3) ⟨a,b⟩,qJ (p:=p≥0) a,qJ (p:=p<=2) (by omega)];rfl};{rw [qH (p:=0<=p/\p<3) (by omega),qH (p:=p<=2) (by omega)];simp};{rw [qH (p:=0<=p/\p<3) (by omega),qH (p:=p≥0) (by omega)];simp};{rw [qH (p:=0<=p/\p<3) (by omega),qH (p:=p≥0) (by omega)];simp}
theorem has2 (p:Int):hasB p 2=zl p 0 1:=by unfold hasB zl ige ile;by_cases a:0<=p<;>by_cases b:p<2;{rw [qJ (p:=0<=p/\p<2) ⟨a,b⟩,qJ (p:=p≥0) a,qJ (p:=p<=1) (by omega)];rfl};{rw [qH (p:=0<=p/\p<2) (by omega),qH (p:=p<=1) (by omega)];simp};{rw [qH (p:=0<=p/\p<2) (by omega),qH (p:=p≥0) (by omega)];simp};{rw [qH (p:=0<=p/\p<2) (by omega),qH (p:=p≥0) (by omega)];simp}
def zeW (m g:Int):Int:=bif zl m 0 2 then (cond (zl g 0 1) (zQ .i64 (zQ .i64 1 g)<|znd .i64 m 2) 0) else 0
@[simp] abbrev zh2 (m g:Int):Bool:=true
@[simp] abbrev zkS (m g:Int):Int:=zeW m g
def zso:Run:=rF2 dI dI λb c=>(zh2 b c,[aI<|zkS b c])
def zQS (N:Nat)(a b:Int):OA:=
 (oN (zM a 0 2)<|cond (nB<|zl a 0 2) (some [aI 0])<|oN (zM b 0 1)<|cond (nB<|zl b 0 1) (some [aI 0])<|some [aI<|zQ .i64 (zQ .i64 1 b)<|znd .i64 a 2])
theorem zYl (a b:Int)(c:zh2 a b=true):∃N,zQS N a b=some [aI<|zkS a b]:=by refine⟨0,?_⟩;unfold zQS oN nB;refine must rfl (brN (λ_=>?_) λ_=>must rfl (brN (λ_=>?_) λ_=>?_));all_goals first|rfl|(simp only [*,zkS,zeW,cT,cF]<;>rfl)|simp_all[Ty.cells,zkS,zeW]
theorem zSl:vP 343 zso:=kF2 zgi zn zx zd2 (zq []) zYl
def zQG (N:Nat)(a b:Int):OA:=
 (oN (zbl a 3)<|cond (nB<|zch a 3) (some [aI 0])<|oN (zbl b 2)<|cond (nB<|zch b 2) (some [aI 0])<|some [aI<|zQ .i64 (zQ .i64 1 b)<|znd .i64 a 2])
theorem zYb (a b:Int)(c:zh2 a b=true):∃N,zQG N a b=some [aI<|zkS a b]:=by refine⟨0,?_⟩;unfold zQG oN nB;refine must rfl (brN (λ_=>?_) λ_=>must rfl (brN (λ_=>?_) λ_=>?_));all_goals first|rfl|(simp only [*,zkS,zeW,has3,has2,cT,cF]<;>rfl)|simp_all[Ty.cells,zkS,zeW,has3,has2]
theorem zR9:vP 151 zso:=kF2 zgi zn zx zd2 (zq []) zYb
def zlN (k:Kept)(p:Int):Bool:=bif zd8 k p then ix k.Known p false else false
def zeN (k:Kept)(p:Int):Slot:=bif zlN k p then ix k.Slots p zV else noSlot
@[simp] abbrev zjE (k:Kept)(p:Int):Slot:=zeN k p
@[simp] abbrev zpA (k:Kept)(p:Int):Bool:=zlN k p
def zRK:Run:=rF2 (dT .kept) dI λb c=>(zc8 b c,[aT .slot<|zjE b c,aB<|zpA b c])
def zZb (N:Nat)(a:Kept)(b:Int):OA:=
 let c:=ix a.Slots b zV; (oN (zc8 a b)<|cond (nB<|zkg a b) (oN zbV<|some [.agg [.i .i64 zbk.Page,.i .i64 zbk.Rights],aB false])<|oN (inb b<|ln a.Known)<|cond (nB<|ix a.Known b false) (oN zbV<|some [.agg [.i .i64 zbk.Page,.i .i64 zbk.Rights],aB false])<|oN (inb b<|ln a.Slots)<|some [.agg [.i .i64 c.Page,.i .i64 c.Rights],aB true])
theorem z3K (a:Kept)(b:Int)(f:zc8 a b=true):∃N,zZb N a b=some [aT .slot<|zjE a b,aB<|zpA a b]:=by
 have g:=zK.1 f;refine⟨0,?_⟩;unfold zZb zjE zpA zeN zlN oN nB;conv=>zeta
 refine must (zbs g) ?_;rw[show zkg a b=zd8 a b from rfl];cases c:zd8 a b;{rfl};{unfold zd8 at c;obtain⟨d,e⟩:=zdZ.1 c;simp only[zB d,zB e,cT];cases ix a.Known b false<;>rfl}
theorem zX1:vP 62 zRK:=kF2 zgi zn zx zd2 (zq []) z3K
@[simp] abbrev zyu (k:Kept)(p:Int):Bool:=true
def zRH:Run:=rF2 (dT .kept) dI λb c=>(zyu b c,[aT .slot<|zjE b c,aB<|zpA b c])
def zY7 (N:Nat)(a:Kept)(b:Int):OA:=
 let c:=ix a.Slots b zV; (oN (zbl b<|ln a.Known)<|cond (nB<|zch b<|ln a.Known) (oN zbV<|some [.agg [.i .i64 zbk.Page,.i .i64 zbk.Rights],aB false])<|oN (zbl b<|ln a.Slots)<|cond (nB<|zch b<|ln a.Slots) (oN zbV<|some [.agg [.i .i64 zbk.Page,.i .i64 zbk.Rights],aB false])<|oN (inb b<|ln a.Known)<|cond (nB<|ix a.Known b false) (oN zbV<|some [.agg [.i .i64 zbk.Page,.i .i64 zbk.Rights],aB false])<|oN (inb b<|ln a.Slots)<|some [.agg [.i .i64 c.Page,.i .i64 c.Rights],aB true])
theorem z3G (a:Kept)(b:Int)(e:zyu a b=true):∃N,zY7 N a b=some [aT .slot<|zjE a b,aB<|zpA a b]:=by
 refine⟨0,?_⟩;unfold zY7 zjE zpA zeN zlN zd8 oN nB;conv=>zeta
 rw[show zch b (ln a.Known)=hasB b (ln a.Known) from rfl,show zch b (ln a.Slots)=hasB b (ln a.Slots) from rfl];cases c:hasB b (ln a.Known);{rfl};{cases d:hasB b (ln a.Slots);{rfl};{simp only [zbl,zB c,zB d,cT];cases ix a.Known b false<;>rfl}}
theorem zXX:vP 59 zRH:=kF2 zgi zn zx zd2 (zq []) z3G
def filled (k:Kept)(a b:List Slot)(p:Int):Kept:=bif zd8 k p then (cond (hasB p<|ln a) ⟨up k.Known p true,up k.Slots p<|zbH (ix a p zV) b⟩ k) else k
@[simp] theorem z2a {k:Kept}{a b:List Slot}{p:Int}(h:SmK k):SmK (filled k a b p):=by unfold filled;cases zd8 k p;{exact h};{cases hasB p (ln a);{exact h};{exact⟨by simpa using h.1,by simpa using h.2⟩}}
@[simp] abbrev zvJ (k:Kept)(i o:List Slot)(p:Int):Bool:=pc (SmK k)
@[simp] abbrev zvI (k:Kept)(i o:List Slot)(p:Int):Kept:=filled k i o p
def zup:Run:=rF4 (dT .kept) (dS .slot) (dS .slot) dI λb c d e=>(zvJ b c d e,[aT .kept<|zvI b c d e])
def zT0 (N:Nat)(d:Kept)(c e:lS)(a:Int):OA:=
 let b:=zeB d; (oN (zhJ d)<|oN (zc8 b a)<|cond (zkg b a) (cond (ilt a<|ln c) (oN (inb a<|ln b.Known)<|share (up b.Known a true) λf=>oN (inb a<|ln c)<|oN (zia (ix c a zV) e)<|oN (inb a<|ln b.Slots)<|share (up b.Slots a<|zlU (ix c a zV) e) λg=>some [aT .kept (⟨f,g⟩:Kept)])<|some [aT .kept b])<|some [aT .kept b])
theorem z1d (b:Kept)(c d:List Slot)(a:Int)(j:zvJ b c d a=true):∃N,zT0 N b c d a=some [aT .kept<|zvI b c d a]:=by
 have g:=zK.1 j;refine⟨0,?_⟩;unfold zT0 zvI filled oN;conv=>zeta
 refine must (zbs<|(zyf _).2 g) (must (zbs g) ?_);rw[show zkg (zeB b) a=zd8 b a from rfl];cases f:zd8 b a;{rfl};{unfold zd8 at f;obtain⟨e,h⟩:=zdZ.1 f;rw[has_lt e (m:=ln c)];cases i:hasB a (ln c);{rfl};{simp only [cT,zeB,zB e,zB h,zB i,share,zia];rfl}}
theorem zUX:vP 387 zup:=kF4 zgi zn zx zd2 (zq []) z1d
def zTY (N:Nat)(c:Kept)(d e:lS)(a:Int):OA:=
 let b:=zdl c; (oN (zed c)<|oN (zbl a<|ln c.Known)<|cond (zch a<|ln c.Known) (oN (zbl a<|ln c.Slots)<|cond (zch a<|ln c.Slots) (oN (zbl a<|ln d)<|cond (zch a<|ln d) (oN (inb a<|ln b.Known)<|share (up b.Known a true) λf=>oN (inb a<|ln d)<|oN (zia (ix d a zV) e)<|oN (inb a<|ln b.Slots)<|share (up b.Slots a<|zlU (ix d a zV) e) λg=>some [aT .kept (⟨f,g⟩:Kept)])<|some [aT .kept b])<|some [aT .kept b])<|some [aT .kept b])
theorem z09 (b:Kept)(c d:List Slot)(a:Int)(h:zvJ b c d a=true):∃N,zTY N b c d a=some [aT .kept<|zvI b c d a]:=by
 have i:=zK.1 h;refine⟨0,?_⟩;unfold zTY zvI filled zd8 oN;conv=>zeta
 refine must (zbs i) ?_;simp only[zch,zbl,zdl,cT];cases e:hasB a (ln b.Known);{rfl};{cases f:hasB a (ln b.Slots);{rfl};{cases g:hasB a (ln c);{rfl};{simp only [cT,zB e,zB f,zB g,share,zia];rfl}}}
theorem zUS:vP 303 zup:=kF4 zgi zn zx zd2 (zq []) z09
theorem zHR {a b:Type}(p:a->Bool)(r:a->Option b)(K:Unit->Option b):∀(l:List a) (i:Nat),goL (λ_ x (_:Unit) k=>bif p x then r x else k ()) K l i ()=match l.find? p with|some x=>r x|none=>K ()
 |[],_=>rfl
 |x::l,i=>by simp only[goL];cases h:p x;{rw [List.find?_cons_of_neg (by simp[h])];exact zHR p r K l (i+1)};{rw [List.find?_cons_of_pos h];rfl}
def zzI (b:List Entry)(t p:Int):Option Entry:=b.find? λe=>bif ieq e.Tag t then ieq e.Page p else false
@[simp] abbrev zim (b:List Entry)(t p:Int):Bool:=true
@[simp] abbrev zg7 (b:List Entry)(t p:Int):Entry:=(zzI b t p).getD ⟨0,0,0,0⟩
@[simp] abbrev zgc (b:List Entry)(t p:Int):Bool:=(zzI b t p).isSome
def zmm:Run:=rF3 (dS .entry) dI dI λb c d=>(zim b c d,[aT .entry<|zg7 b c d,aB<|zgc b c d])
def zAQ (N:Nat)(f:lE)(g h:Int):OA:=
 (iter (σ:=(Int×Int×Int×Int×Int×Int×Int×lE×Unit)) N (λj a=>let c:=a.2.2.2.2.2.2.2.1;let d:=inb a.2.2.1<|ln c;let e:=j (a.1,a.2.1,zQ .i64 a.2.2.1 1,a.2.2.2.1,a.2.2.2.2.1,a.2.2.2.2.2.1,a.2.2.2.2.2.2.1,c,());let b:=ix c a.2.2.1 zg1; (cond (ilt a.2.2.1<|ln c) (oN d<|cond (ieq b.Tag a.1) (oN d<|cond (ieq b.Page a.2.1) (oN d<|some [.agg [.i .i64 b.Tag,.i .i64 b.Page,.i .i64 b.Host,.i .i64 b.Rights],aB true]) e) e)<|some [.agg [.i .i64 0,.i .i64 0,.i .i64 0,.i .i64 0],aB false])) (g,h,0,0,0,0,0,f,()))
def zNs:=zq [(386,0,{n:=36,tm:=[(0,.sl 0 []),(1,ti),(2,ti),(6,.lp 0 0),(8,ti)],lo:=[(0,[ti,ti,ti,ti])],ro:=[(0,.entry,false)]})]
theorem zMn (a:List Entry)(c d:Int)(j:zbR big [aS .entry a,aI c,aI d])(l:zim a c d=true):∃N,zAQ N a c d=some [aT .entry<|zg7 a c d,aB<|zgc a c d]:=by
 have h:=len0 j;refine zcE λN g=>?_;unfold zAQ oN;conv=>zeta
 refine(zbq a (λi (t:Unit)=>(c,d,(i:Int),0,0,0,0,a,())) _ (λ_ (x:Entry) (_:Unit) k=>bif (cond (ieq x.Tag c) (ieq x.Page d) false) then (some [AV.agg<|Ty.cells .entry x,AV.one<|.b true]) else k ()) (λ(t:Unit)=>some [.agg [.i .i64 0,.i .i64 0,.i .i64 0,.i .i64 0],.one<|.b false]) (λi f t rec=>?_) (λt rec=>?_) _ ()<|g h).trans ?_;{simp only [zbI f,zbm f,zbu f,zbj f h,cT];cases ieq a[i].Tag c<;>cases ieq a[i].Page d<;>rfl};{simp only [zbz,cF]};rw[zHR λe:Entry=>bif ieq e.Tag c then ieq e.Page d else false];unfold zg7 zgc zzI;cases a.find? (λe:Entry=>bif ieq e.Tag c then ieq e.Page d else false)<;>rfl
theorem zE7:vP 386 zmm:=hF3 zgi zn zx zd2 zNs zMn
def zAB (N:Nat)(d:lE)(f g:Int):OA:=
 (iter (σ:=(Int×Int×Int×Int×Int×Int×Int×Int×lE×Unit)) N (λh a=>let c:=a.2.2.2.2.2.2.2.2.1;let e:=h (a.1,a.2.1,a.2.2.1,zQ .i64 a.2.2.2.1 1,a.2.2.2.2.1,a.2.2.2.2.2.1,a.2.2.2.2.2.2.1,a.2.2.2.2.2.2.2.1,c,());let b:=ix c a.2.2.2.1 zg1; (cond (ilt a.2.2.2.1 a.2.2.1) (oN (inb a.2.2.2.1<|ln c)<|cond (ieq b.Tag a.1) (cond (ieq b.Page a.2.1) (some [.agg [.i .i64 b.Tag,.i .i64 b.Page,.i .i64 b.Host,.i .i64 b.Rights],aB true]) e) e)<|some [.agg [.i .i64 0,.i .i64 0,.i .i64 0,.i .i64 0],aB false])) (f,g,ln d,0,0,0,0,0,d,()))
def zNm:=zq [(302,0,{n:=29,tm:=[(1,ti),(2,ti),(6,.lp 0 0),(10,.sl 0 []),(11,ti),(12,ti)],lo:=[(0,[ti,ti,ti,ti])],ro:=[(0,.entry,false)]})]
theorem zL9 (a:List Entry)(c d:Int)(j:zbR big [aS .entry a,aI c,aI d])(l:zim a c d=true):∃N,zAB N a c d=some [aT .entry<|zg7 a c d,aB<|zgc a c d]:=by
 have h:=len0 j;refine zcE λN g=>?_;unfold zAB oN;conv=>zeta
 refine(zbq a (λi (t:Unit)=>(c,d,ln a,(i:Int),0,0,0,0,a,())) _ (λ_ (x:Entry) (_:Unit) k=>bif (cond (ieq x.Tag c) (ieq x.Page d) false) then (some [AV.agg<|Ty.cells .entry x,AV.one<|.b true]) else k ()) (λ(t:Unit)=>some [.agg [.i .i64 0,.i .i64 0,.i .i64 0,.i .i64 0],.one<|.b false]) (λi f t rec=>?_) (λt rec=>?_) _ ()<|g h).trans ?_;{simp only [zbI f,zbm f,zbu f,zbj f h,cT];cases ieq a[i].Tag c<;>cases ieq a[i].Page d<;>rfl};{simp only [zbz,cF]};rw[zHR λe:Entry=>bif ieq e.Tag c then ieq e.Page d else false];unfold zg7 zgc zzI;cases a.find? (λe:Entry=>bif ieq e.Tag c then ieq e.Page d else false)<;>rfl
theorem zET:vP 302 zmm:=hF3 zgi zn zx zd2 zNm zL9
def zs9 (t p:Int)(e:Entry):Bool:=bif ine e.Tag t then true else ine e.Page p
def zdg (b:List Entry)(t p:Int):List Entry:=b.filter (zs9 t p)
theorem zzJ (b:List Entry)(t p:Int):(zdg b t p).length<=b.length:=uD _ _
@[simp] abbrev zd9 (b:List Entry)(t p:Int):Bool:=pc (b.length<=1048576)
@[simp] abbrev zft (b:List Entry)(t p:Int):List Entry:=zdg b t p
def zmo:Run:=rF3 (dS .entry) dI dI λb c d=>(zd9 b c d,[aS .entry<|zft b c d])
def zAS (N:Nat)(h:lE)(i j:Int):OA:=
 (iter (σ:=(Int×Int×Int×lE×lE×Unit)) N (λf a=>let b:=a.2.2.2.1;let c:=inb a.2.2.1<|ln b;let d:=ix b a.2.2.1 zg1;let e:=ap a.2.2.2.2.1 [d];let g:=f (a.1,a.2.1,zQ .i64 a.2.2.1 1,b,e,()); (cond (ilt a.2.2.1<|ln b) (oN c<|cond (ine d.Tag a.1) (oN c<|oN (few<|ln e) g)<|oN c<|cond (ine d.Page a.2.1) (oN c<|oN (few<|ln e) g)<|f (a.1,a.2.1,zQ .i64 a.2.2.1 1,b,a.2.2.2.2.1,()))<|some [aS .entry a.2.2.2.2.1])) (i,j,0,h,[],()))
def zNu:=zq [(185,0,{n:=40,tm:=[(0,.sl 0 []),(1,ti),(2,ti),(7,.sl 1 []),(8,ti)],lo:=[],ro:=[(0,.entry,false),(1,.entry,true)]})]
theorem zMp (a:List Entry)(b c:Int)(h:zd9 a b c=true):∃N,zAS N a b c=some [aS .entry<|zft a b c]:=by
 have j:=zK.1 h;have f:=zda j;refine zcE λN e=>?_;unfold zAS oN;conv=>zeta
 refine(zbq a (λi (t:lE)=>(b,c,(i:Int),a,t,())) _ (λ_ (x:Entry) (t:List Entry) g=>bif zs9 b c x then (cond (few<|ln<|ap t [x]) (g<|ap t [x]) none) else g t) (λ(t:lE)=>some [.one<|.s .entry t]) (λi d t rec=>?_) (λt rec=>?_) _ ([])<|e f.1).trans ?_;{simp only [zbI d,zbm d,zbu d,zbj d f.1,cT];unfold zs9;cases ine a[i].Tag b<;>cases ine a[i].Page c<;>rfl};{simp only [zbz,cF]};exact znr (zs9 b c) _ a 0 [] (by simpa using f.2)
theorem zE9:vP 185 zmo:=kF3 zgi zn zx zd2 zNu zMp
def zAD (N:Nat)(e:lE)(h i:Int):OA:=
 (iter (σ:=(Int×Int×Int×Int×lE×lE×Unit)) N (λf a=>let b:=a.2.2.2.2.2.1;let c:=ix b a.2.1 zg1;let d:=ap a.2.2.2.2.1 [c];let g:=f (a.1,zQ .i64 a.2.1 1,a.2.2.1,a.2.2.2.1,d,b,()); (cond (ilt a.2.1 a.1) (oN (inb a.2.1<|ln b)<|cond (ieq c.Tag a.2.2.1) (cond (nB<|ieq c.Page a.2.2.2.1) (oN (few<|ln d) g)<|f (a.1,zQ .i64 a.2.1 1,a.2.2.1,a.2.2.2.1,a.2.2.2.2.1,b,()))<|oN (few<|ln d) g)<|some [aS .entry a.2.2.2.2.1])) (ln e,0,h,i,[],e,()))
def zNo:=zq [(237,0,{n:=25,tm:=[(1,.fn 238 [0,1]),(5,.sl 0 []),(9,.sl 1 []),(10,ti),(11,ti)],lo:=[(0,[ti]),(1,[ti])],ro:=[(0,.entry,true),(1,.entry,false)]})]
theorem zMb (a:List Entry)(b c:Int)(h:zd9 a b c=true):∃N,zAD N a b c=some [aS .entry<|zft a b c]:=by
 have j:=zK.1 h;have f:=zda j;refine zcE λN e=>?_;unfold zAD oN nB;conv=>zeta
 refine(zbq a (λi (t:lE)=>(ln a,(i:Int),b,c,t,a,())) _ (λ_ (x:Entry) (t:List Entry) g=>bif zs9 b c x then (cond (few<|ln<|ap t [x]) (g<|ap t [x]) none) else g t) (λ(t:lE)=>some [.one<|.s .entry t]) (λi d t rec=>?_) (λt rec=>?_) _ ([])<|e f.1).trans ?_;{simp only [zbI d,zbm d,zbu d,zbj d f.1,cT];unfold zs9;simp only[zjA];cases ieq a[i].Tag b<;>cases ieq a[i].Page c<;>rfl};{simp only [zbz,cF]};exact znr (zs9 b c) _ a 0 [] (by simpa using f.2)
theorem zEV:vP 150 zmo:=kF3 zgi zn zx zd2 zNo zMb
def z8C:zba:=[(375,zoT),(218,zoT),(343,zso),(151,zso),(62,zRK),(59,zRH),(387,zup),(303,zup),(386,zmm),(302,zmm),(185,zmo),(150,zmo)]++z3a
theorem zu5:zT z8C:=zi zLA (zi zLf<|zi zSl<|zi zR9<|zi zX1<|zi zXX<|zi zUX<|zi zUS<|zi zE7<|zi zET<|zi zE9<|zi zEV zgi)
def zqa (b:List Entry)(e:Entry):List Entry:=bif igt (ln<|ap (zdg b e.Tag e.Page) [e]) 6 then dp (ap (zdg b e.Tag e.Page) [e]) (wsub .i64 (ln<|ap (zdg b e.Tag e.Page) [e]) 6) else ap (zdg b e.Tag e.Page) [e]
theorem zvC {b:List Entry}(e:Entry)(h:b.length<=1048576):(zqa b e).length<=1048576/\(ap (zdg b e.Tag e.Page) [e]).length<=1048577:=by have d:=zzJ b e.Tag e.Page;have c:(ap (zdg b e.Tag e.Page) [e]).length<=1048577:=(by simp[ap];omega);refine⟨?_,c⟩;unfold zqa;cases a:igt (ln<|ap (zdg b e.Tag e.Page) [e]) 6;{have a:=qW a;simp only[ln]at a;simp only[cF];omega};{simp only [cT,dp,vM];have a:=qD a;have:wsub .i64 (ln<|ap (zdg b e.Tag e.Page) [e]) 6=ln (ap (zdg b e.Tag e.Page) [e])-6:=zrX (by simp only[ln] at *;omega) (by simp only[ln] at *;omega);rw[this];simp only[ln] at *;omega}
@[simp] abbrev zh0 (b:List Entry)(e:Entry):Bool:=pc (b.length<=1048576)
@[simp] abbrev zhE (b:List Entry)(e:Entry):List Entry:=zqa b e
def zkJ:Run:=rF2 (dS .entry) (dT .entry) λb c=>(zh0 b c,[aS .entry<|zhE b c])
def zCu (N:Nat)(d:lE)(b:Entry):OA:=
 let a:=ap (zft d b.Tag b.Page) [b];let c:=wsub .i64 (ln a) 6; (oN (zd9 d b.Tag b.Page)<|oN (few<|ln a)<|cond (igt (ln a) 6) (oN (inr c (ln a)<|ln a)<|oN (few<|ln<|ap []<|dp a c)<|some [aS .entry<|ap []<|dp a c])<|some [aS .entry a])
theorem zPH (b:List Entry)(a:Entry)(h:zh0 b a=true):∃N,zCu N b a=some [aS .entry<|zhE b a]:=by
 have f:=zK.1 h;obtain⟨c,g⟩:=zvC a f;refine⟨0,?_⟩;unfold zCu oN;conv=>zeta
 refine must (zbs f) (must (zir<|qU g (by decide:1048577<=2147483648)) ?_);unfold zhE zqa at *;show _=some [AV.one<|.s .entry<|cond (igt (ln<|ap (zdg b a.Tag a.Page) [a]) 6) (dp (ap (zdg b a.Tag a.Page) [a])<|wsub .i64 (ln<|ap (zdg b a.Tag a.Page) [a]) 6)<|ap (zdg b a.Tag a.Page) [a]];cases d:igt (ln<|ap (zdg b a.Tag a.Page) [a]) 6;{rfl};{rw [d]at c;simp only[cT]at c;have d:=qD d;have e:wsub .i64 (ln<|ap (zdg b a.Tag a.Page) [a]) 6=ln (ap (zdg b a.Tag a.Page) [a])-6:=zrX (by simp only[ln] at *;omega) (by simp only[ln] at *;omega);refine must rfl (must (qJ ?_)<|must ?_ ?_);{show 0<=wsub .i64 (ln<|ap (zdg b a.Tag a.Page) [a]) 6/\wsub .i64 (ln<|ap (zdg b a.Tag a.Page) [a]) 6<=ln (ap (zdg b a.Tag a.Page) [a])/\ln (ap (zdg b a.Tag a.Page) [a])<=ln (ap (zdg b a.Tag a.Page) [a]);rw[e];simp only[ln] at *;omega};{exact zps c};{rw [zoh];rfl}}
theorem zvh:vP 103 zkJ:=kF2 zu5 zn zx zd2 (zq []) zPH
def zB5 (N:Nat)(c:lE)(a:Entry):OA:=
 let b:=ap (zft c a.Tag a.Page) [a];let d:=imax 0<|wsub .i64 (ln b) 6; (oN (zd9 c a.Tag a.Page)<|oN (few<|ln b)<|oN (inr d (ln b)<|ln b)<|some [aS .entry<|dp b d])
theorem zPl (b:List Entry)(a:Entry)(h:zh0 b a=true):∃N,zB5 N b a=some [aS .entry<|zhE b a]:=by
 have g:=zK.1 h;obtain⟨_,f⟩:=zvC a g;refine⟨0,?_⟩;unfold zB5 zhE zqa oN;conv=>zeta
 simp only[zft];generalize ap (zdg b a.Tag a.Page) [a]=l at f ⊢;refine must (zbs g) (must (zir<|qU f (by decide:1048577<=2147483648)) ?_);have e:wsub .i64 (ln l) 6=ln l-6:=zrX (by simp only[ln] at *;omega) (by simp only[ln] at *;omega);rw[e];cases c:igt (ln l) 6;{have c:=qW c;have d:imax 0 (ln l-6)=0:=(by unfold imax;rw[if_neg (by omega)]);rw[d];exact must (qJ (by simp only[ln];omega)) (by simp[dp])};{have c:=qD c;have d:imax 0 (ln l-6)=ln l-6:=(by unfold imax;rw[if_pos (by omega)]);rw[d];exact must (qJ (by simp only[ln] at *;omega)) rfl}
theorem zH5:vP 304 zkJ:=kF2 zu5 zn zx zd2 (zq []) zPl
def zpU (l:List Slot)(p:Int):Option Nat:=l.findIdx? λs=>ieq s.Page p
def zjQ (p:Int):List Mon->Nat->Int×Int
 |[],_=>(-1,-1)
 |m::l,i=>match zpU m.Outer p with|some k=>((i:Int),(k:Int))|none=>zjQ p l (i+1)
def zbX (h:Host)(p:Int):Int×Int:=bif ilt p 0 then (-1,-1) else zjQ p h.Mons 0
theorem zRn {a:Type}(p:Slot->Bool)(r:Nat->Option a)(K:Unit->Option a):∀(l:List Slot) (i:Nat),goL (λj x (_:Unit) k=>bif p x then r j else k ()) K l i ()=match l.findIdx? p with|some k=>r (i+k)|none=>K ()
 |[],_=>rfl
 |x::l,i=>by simp only[goL];rw[List.findIdx?_cons];cases h:p x;{simp only [cF,kD,if_false];rw[zRn p r K l<|i+1];cases l.findIdx? p with|none=>rfl|some k=>simp only[Option.map_some];congr 1;omega};{rfl}
theorem zNT {c:Type}(p:Int)(r:Int->Int->Option c):∀(l:List Mon) (i:Nat),goL (λi (x:Mon) (_:Unit) b=>goL (λj (y:Slot) (_:Unit) a=>bif ieq y.Page p then r (i:Int) (j:Int) else a ()) (λ_=>b ()) x.Outer 0 ()) (λ_=>r (-1) (-1)) l i ()=r (zjQ p l i).1 (zjQ p l i).2
 |[],_=>rfl
 |m::l,i=>by simp only[goL,zjQ];rw[zRn (λs=>ieq s.Page p) λj=>r (i:Int) (j:Int)];unfold zpU;cases m.Outer.findIdx? (λs=>ieq s.Page p) with|none=>exact zNT p r l (i+1)|some k=>simp only[j5]
@[simp] abbrev zgO (h:Host)(p:Int):Bool:=true
@[simp] abbrev zec (h:Host)(p:Int):Int:=(zbX h p).1
@[simp] abbrev zfc (h:Host)(p:Int):Int:=(zbX h p).2
def zkr:Run:=rF2 dH dI λb c=>(zgO b c,[aI<|zec b c,aI<|zfc b c])
def zvZ (N:Nat)(f:Host)(g:Int):OA:=
 (cond (ilt g 0) (some [aI<|-1,aI<|-1])<|iter (σ:=(Int×Int×Int×lN×Unit)) N (λi b=>let c:=b.2.2.1; (cond (ilt c b.2.1) (oN (inb c<|ln b.2.2.2.1)<|iter (σ:=(Int×Int×Int×Int×Int×Int×Int×lN×Unit)) N (λj a=>let e:=a.2.2.2.2.2.2.2.1;let h:=(ix e a.2.2.2.2.1 zh).Outer;let d:=a.2.2.2.2.2.2.1; (cond (ilt d a.2.2.2.2.2.1) (oN (inb d<|ln h)<|cond (ieq (ix h d zV).Page a.1) (some [aI a.2.1,aI d])<|j (a.1,a.2.1,a.2.2.1,a.2.2.2.1,a.2.2.2.2.1,a.2.2.2.2.2.1,zQ .i64 d 1,e,()))<|i (a.1,a.2.2.1,zQ .i64 a.2.2.2.1 1,e,()))) (b.1,c,b.2.1,c,c,ln (ix b.2.2.2.1 c zh).Outer,0,b.2.2.2.1,()))<|some [aI<|-1,aI<|-1])) (g,ln f.Mons,0,f.Mons,()))
def zFL:=zq [(309,0,{n:=36,tm:=[(1,ti),(13,.sl 0 []),(14,ti),(15,ti)],lo:=[],ro:=[(0,.mon,false)]}),(309,2,{n:=36,tm:=[(1,ti),(6,ti),(13,.sl 0 []),(14,ti),(15,ti),(21,.sl 0 [0]),(22,ti),(23,ti)],lo:=[],ro:=[(0,.mon,false)]})]
theorem zFq (a:Host)(c:Int)(m:zbR big [aH a,aI c])(q:zgO a c=true):∃N,zvZ N a c=some [aI<|zec a c,aI<|zfc a c]:=by
 have k:CVB big (.s .mon a.Mons):=(zdY m).1 _ (by simp[AV.cvs,zbf]);have h:=k.len;refine zcE λN e=>?_;unfold zvZ zec zfc zbX oN;conv=>zeta
 cases p:ilt c 0;{simp only [cF];refine(zbq a.Mons (λi (t:Unit)=>(c,ln a.Mons,(i:Int),a.Mons,())) _ (λi (x:Mon) (_:Unit) n=>goL (λj (y:Slot) (_:Unit) b=>bif ieq y.Page c then some [AV.one<|.i .i64 (i:Int),AV.one<|.i .i64 (j:Int)] else b ()) (λ_=>n ()) x.Outer 0 ()) (λ(t:Unit)=>some [.one<|.i .i64<|-1,.one<|.i .i64<|-1]) (λi d t rec=>?_) (λt rec=>?_) _ ()<|e h).trans ?_;{simp only [zbI d,zbm d,zbu d,zbj d h,cT];have l:a.Mons[i].Outer.length<=big:=(k.inv.2 _ (jI d) (.s .slot _) (by simp[Ty.cells])).len;refine(zbq a.Mons[i].Outer (λj (u:Unit)=>(c,(i:Int),ln a.Mons,(i:Int),(i:Int),ln a.Mons[i].Outer,(j:Int),a.Mons,())) _ (λj (y:Slot) (_:Unit) b=>bif ieq y.Page c then some [AV.one<|.i .i64 (i:Int),AV.one<|.i .i64 (j:Int)] else b ()) (λ(u:Unit)=>rec (c,ln a.Mons,((i+1:Nat):Int),a.Mons,())) (λj g u f=>?_) (λu f=>?_) _ ()<|e l).trans ?_;{simp only [zbI g,zbm g,zbu g,zbj g l,cT,zbm d,zbu d,zbj d h]};{simp only [zbz,cF,zbm d,zbu d,zbj d h]};rfl};{simp only [zbz,cF]};exact zNT c (λi j=>some [AV.one<|.i .i64 i,AV.one<|.i .i64 j]) a.Mons 0};{rfl}
theorem zBH:vP 309 zkr:=hF2 zu5 zn zx zd2 zFL zFq
theorem z3u {a c b:Type}(r:Option b):∀(l:List a) (i:Nat) (t:c),goL (λ_ _ _ _=>r) (λ_=>r) l i t=r
 |[],_,_=>rfl
 |_::_,_,_=>rfl
def zwa (N:Nat)(d:Host)(f:Int):OA:=
 (iter (σ:=(Int×Int×lM×lN×lE×lE×Unit)) N (λg b=>cond (ilt b.2.1<|ln b.2.2.2.1) (cond (ige b.1 0) (iter (σ:=(Int×Int×Int×lM×lN×lE×lE×Unit)) N (λh a=>let c:=a.2.2.2.2.1;let e:=(ix c a.2.1 zh).Outer; (oN (inb a.2.1<|ln c)<|cond (ilt a.2.2.1<|ln e) (oN (inb a.2.1<|ln c)<|oN (inb a.2.2.1<|ln e)<|cond (ieq (ix e a.2.2.1 zV).Page a.1) (some [aI a.2.1,aI a.2.2.1])<|h (a.1,a.2.1,zQ .i64 a.2.2.1 1,a.2.2.2.1,c,a.2.2.2.2.2.1,a.2.2.2.2.2.2.1,()))<|g (a.1,zQ .i64 a.2.1 1,a.2.2.2.1,c,a.2.2.2.2.2.1,a.2.2.2.2.2.2.1,()))) (b.1,b.2.1,0,b.2.2.1,b.2.2.2.1,b.2.2.2.2.1,b.2.2.2.2.2.1,()))<|some [aI<|-1,aI<|-1])<|some [aI<|-1,aI<|-1]) (f,0,d.Memory,d.Mons,d.Buffer,d.IoBuffer,()))
def zFN:=zq [(389,0,{n:=44,tm:=[(1,ti),(2,.lp 0 0),(6,ti)],lo:=[(0,[.sl 0 [],.sl 1 [],.sl 2 [],.sl 3 []])],ro:=[(0,.sl .int,false),(1,.mon,false),(2,.entry,false),(3,.entry,false)]}),(389,2,{n:=44,tm:=[(1,ti),(2,.lp 0 0),(6,ti),(7,ti)],lo:=[(0,[.sl 0 [],.sl 1 [],.sl 2 [],.sl 3 []])],ro:=[(0,.sl .int,false),(1,.mon,false),(2,.entry,false),(3,.entry,false)]})]
theorem zFB (a:Host)(b:Int)(p:zbR big [aH a,aI b])(r:zgO a b=true):∃N,zwa N a b=some [aI<|zec a b,aI<|zfc a b]:=by
 have m:CVB big (.s .mon a.Mons):=(zdY p).1 _ (by simp[AV.cvs,zbf]);have l:=m.len;refine zcE λN e=>?_;unfold zwa zec zfc zbX oN;conv=>zeta
 refine(zbq a.Mons (λi (t:Unit)=>(b,(i:Int),a.Memory,a.Mons,a.Buffer,a.IoBuffer,())) _ (λi (x:Mon) (_:Unit) q=>bif ige b 0 then goL (λj (y:Slot) (_:Unit) c=>bif ieq y.Page b then some [AV.one<|.i .i64 (i:Int),AV.one<|.i .i64 (j:Int)] else c ()) (λ_=>q ()) x.Outer 0 () else some [AV.one<|.i .i64<|-1,AV.one<|.i .i64<|-1]) (λ(t:Unit)=>some [.one<|.i .i64<|-1,.one<|.i .i64<|-1]) (λi d t rec=>?_) (λt rec=>?_) _ ()<|e l).trans ?_;{simp only [zbI d,zbm d,zbu d,zbj d l,cT];cases h:ige b 0;{rfl};have n:a.Mons[i].Outer.length<=big:=(m.inv.2 _ (jI d) (.s .slot _) (by simp[Ty.cells])).len;simp only[cT];refine(zbq a.Mons[i].Outer (λj (_:Unit)=>(b,(i:Int),(j:Int),a.Memory,a.Mons,a.Buffer,a.IoBuffer,())) _ (λj (y:Slot) (_:Unit) c=>bif ieq y.Page b then some [AV.one<|.i .i64 (i:Int),AV.one<|.i .i64 (j:Int)] else c ()) (λ_=>rec (b,((i+1:Nat):Int),a.Memory,a.Mons,a.Buffer,a.IoBuffer,())) (λj g u f=>?_) (λu f=>?_) _ ()<|e n).trans ?_;{simp only [zbI g,zbm g,zbu g,zbj g n,cT,zbm d,zbu d]};{simp only [zbz,cF,cT,zbm d,zbu d,zbj d l]};rfl};{simp only [zbz,cF]};cases h:ige b 0;{have k:ilt b 0=true:=(by have:=qW h;exact qJ (by omega));rw[k];exact z3u _ _ _ _};{have k:ilt b 0=false:=(by have:=qD h;exact qH (by omega));rw[k];exact zNT b (λi j=>some [AV.one<|.i .i64 i,AV.one<|.i .i64 j]) a.Mons 0}
theorem zBS:vP 389 zkr:=hF2 zu5 zn zx zd2 zFN zFB
def z8D:zba:=[(103,zkJ),(304,zkJ),(389,zkr),(309,zkr)]++z8C
theorem zu6:zT z8D:=zi zvh (zi zH5<|zi zBS<|zi zBH zu5)
def zcT (h:Host):List Int:=zxy (λi=>ilt (zbX h (i:Int)).1 0) h.Memory.length 0
@[simp] abbrev zgS (h:Host):Bool:=pc (h.Memory.length<=1048576)
@[simp] abbrev zds (h:Host):List Int:=zcT h
def zql:Run:=rF1 dH λb=>(zgS b,[aS .int<|zds b])
def zJ2 (N:Nat)(b:Host):OA:=
 (iter (σ:=(Int×(List Int)×lM×lN×lE×lE×Unit)) N (λc a=>let d:=(⟨a.2.2.1,a.2.2.2.1,a.2.2.2.2.1,a.2.2.2.2.2.1⟩:Host); (cond (ilt a.1<|ln a.2.2.1) (oN (zgO d a.1)<|cond (ilt (zec d a.1) 0) (oN (few<|ln<|ap a.2.1 [a.1])<|c (zQ .i64 a.1 1,ap a.2.1 [a.1],a.2.2.1,a.2.2.2.1,a.2.2.2.2.1,a.2.2.2.2.2.1,()))<|c (zQ .i64 a.1 1,a.2.1,a.2.2.1,a.2.2.2.1,a.2.2.2.2.1,a.2.2.2.2.2.1,()))<|some [aS .int a.2.1])) (0,[],b.Memory,b.Mons,b.Buffer,b.IoBuffer,()))
def zXg:=zq [(388,0,{n:=28,tm:=[(1,.lp 0 0),(3,.sl 0 []),(4,ti)],lo:=[(0,[.sl 1 [],.sl 2 [],.sl 3 [],.sl 4 []])],ro:=[(0,.int,true),(1,.sl .int,false),(2,.mon,false),(3,.entry,false),(4,.entry,false)]})]
theorem zVx (a:Host)(f:zgS a=true):∃N,zJ2 N a=some [aS .int<|zds a]:=by
 have g:=zK.1 f;have e:=zda g;refine zcE λN d=>?_;unfold zJ2 oN;conv=>zeta
 refine(zbq a.Memory (λi (t:(List Int))=>((i:Int),t,a.Memory,a.Mons,a.Buffer,a.IoBuffer,())) _ (λi (_:List Int) (t:List Int) b=>bif ilt (zbX a (i:Int)).1 0 then (cond (few<|ln<|ap t [(i:Int)]) (b<|ap t [(i:Int)]) none) else b t) (λ(t:(List Int))=>some [.one<|.s .int t]) (λi c t rec=>?_) (λt rec=>?_) _ ([])<|d e.1).trans ?_;{simp only [zbI c,zbm c,zbu c,zbj c e.1,cT]};{simp only [zbz,cF]};rw[zym λi (t:List Int) b=>bif ilt (zbX a (i:Int)).1 0 then (cond (few<|ln<|ap t [(i:Int)]) (b<|ap t [(i:Int)]) none) else b t];exact zzQ (λi=>ilt (zbX a (i:Int)).1 0) _ _ 0 [] (by simpa using e.2)
theorem zOz:vP 388 zql:=kF1 zu6 zn zx zd2 zXg zVx
def zJG (N:Nat)(b:Host):OA:=
 (iter (σ:=(Int×Int×(List Int)×lM×lN×lE×lE×Unit)) N (λd a=>let c:=a.2.2.2.2.2.2.1;let e:=(⟨a.2.2.2.1,a.2.2.2.2.1,a.2.2.2.2.2.1,c⟩:Host); (cond (ilt a.2.1 a.1) (oN (zgO e a.2.1)<|cond (ilt (zec e a.2.1) 0) (oN (few<|ln<|ap a.2.2.1 [a.2.1])<|d (a.1,zQ .i64 a.2.1 1,ap a.2.2.1 [a.2.1],a.2.2.2.1,a.2.2.2.2.1,a.2.2.2.2.2.1,c,()))<|d (a.1,zQ .i64 a.2.1 1,a.2.2.1,a.2.2.2.1,a.2.2.2.2.1,a.2.2.2.2.2.1,c,()))<|some [aS .int a.2.2.1])) (ln b.Memory,0,[],b.Memory,b.Mons,b.Buffer,b.IoBuffer,()))
def zW8:=zq [(248,0,{n:=28,tm:=[(1,.lp 0 0),(3,.sl 0 []),(10,ti),(11,ti)],lo:=[(0,[.sl 1 [],.sl 2 [],.sl 3 [],.sl 4 []])],ro:=[(0,.int,true),(1,.sl .int,false),(2,.mon,false),(3,.entry,false),(4,.entry,false)]})]
theorem zVc (a:Host)(f:zgS a=true):∃N,zJG N a=some [aS .int<|zds a]:=by
 have g:=zK.1 f;have e:=zda g;refine zcE λN d=>?_;unfold zJG oN;conv=>zeta
 refine(zbq a.Memory (λi (t:(List Int))=>(ln a.Memory,(i:Int),t,a.Memory,a.Mons,a.Buffer,a.IoBuffer,())) _ (λi (_:List Int) (t:List Int) b=>bif ilt (zbX a (i:Int)).1 0 then (cond (few<|ln<|ap t [(i:Int)]) (b<|ap t [(i:Int)]) none) else b t) (λ(t:(List Int))=>some [.one<|.s .int t]) (λi c t rec=>?_) (λt rec=>?_) _ ([])<|d e.1).trans ?_;{simp only [zbI c,zbm c,zbu c,zbj c e.1,cT]};{simp only [zbz,cF]};rw[zym λi (t:List Int) b=>bif ilt (zbX a (i:Int)).1 0 then (cond (few<|ln<|ap t [(i:Int)]) (b<|ap t [(i:Int)]) none) else b t];exact zzQ (λi=>ilt (zbX a (i:Int)).1 0) _ _ 0 [] (by simpa using e.2)
theorem zN7:vP 248 zql:=kF1 zu6 zn zx zd2 zW8 zVc
def zkn (m:List (List Int))(p:Int)(c:List Int):List (List Int):=bif hasB p (ln m) then (cond (zc1 c) (up m p c) m) else m
@[simp] abbrev zgT (m:List (List Int))(p:Int)(c:List Int):Bool:=pc (SmM m/\c.length<=1048576)
@[simp] abbrev zfI (m:List (List Int))(p:Int)(c:List Int):List (List Int):=zkn m p c
def znS:Run:=rF3 (dS<|.sl .int) dI (dS .int) λb c d=>(zgT b c d,[aS (.sl .int)<|zfI b c d])
def zCy (N:Nat)(a:lM)(b:Int)(c:List Int):OA:=
 (oN (zhI a)<|oN (zM b 0<|wsub .i64 (ln a) 1)<|cond (zl b 0<|wsub .i64 (ln a) 1) (oN (zeg c)<|cond (zdG c) (oN (few<|ln<|ap [] c)<|oN (inb b<|ln<|zfW a)<|share (up (zfW a) b<|ap [] c) λd=>some [aS (.sl .int) d])<|some [aS (.sl .int)<|zfW a])<|some [aS (.sl .int)<|zfW a])
theorem zPL (b:List (List Int))(a:Int)(c:List Int)(g:zgT b a c=true):∃N,zCy N b a c=some [aS (.sl .int)<|zfI b a c]:=by obtain⟨e,d⟩:=zK.1 g;refine⟨0,?_⟩;unfold zCy zfI zkn oN;refine must (zbs<|(zrv _).2 e) (must rfl ?_);rw[show zl a 0 (wsub .i64 (ln b) 1)=hasB a (ln b) from zrW e.1 a];cases f:hasB a (ln b);{rfl};{simp only [cT,zeg,zdG];cases h:zc1 c;{rfl};{refine must rfl (must (zps d)<|must (zB f) ?_);rw[zoh];rfl}}
theorem zIy:vP 390 znS:=kF3 zu6 zn zx zd2 (zq []) zPL
def zB8 (N:Nat)(a:lM)(b:Int)(c:List Int):OA:=
 (oN (zhv a)<|oN (zbl b<|ln a)<|cond (zch b<|ln a) (oN (zeg c)<|cond (zdG c) (oN (zeH c)<|oN (inb b<|ln<|zez a)<|share (up (zez a) b<|zeD c) λd=>some [aS (.sl .int) d])<|some [aS (.sl .int)<|zez a])<|some [aS (.sl .int)<|zez a])
theorem zPo (a:List (List Int))(b:Int)(c:List Int)(f:zgT a b c=true):∃N,zB8 N a b c=some [aS (.sl .int)<|zfI a b c]:=by obtain⟨g,d⟩:=zK.1 f;refine⟨0,?_⟩;unfold zB8 zfI zkn oN;refine must (zbs g) (must rfl ?_);rw[show zch b (ln a)=hasB b (ln a) from rfl];cases e:hasB b (ln a);{rfl};{simp only [cT,zeg,zdG];cases h:zc1 c;{rfl};{refine must rfl (must (zbs<|qU d (by decide)) (must (zB e) rfl))}}
theorem zIa:vP 250 znS:=kF3 zu6 zn zx zd2 (zq []) zPo
def zr7:zba:=[(388,zql),(248,zql),(390,znS),(250,znS)]++z8D
theorem zi0:zT zr7:=zi zOz (zi zN7<|zi zIy<|zi zIa zu6)
abbrev mZ:Mon:=Ty.dflt .mon
abbrev sZ:Slot:=Ty.dflt .slot
def ShM (x:Mon):Prop:=x.Outer.length=8/\x.Out.length=8/\x.Dirty.length=8/\x.Tables.length=x.Guests.length
def Shape (h:Host):Prop:=SmH h/\∀x∈h.Mons,ShM x
theorem zkk {h:Host}{m:Int}{x:Mon}(a:Shape h)(c:zfx x)(d:ShM x):Shape {h with Mons:=up h.Mons m x}:=by refine⟨⟨a.1.1,zj0 a.1.2.1 c,a.1.2.2⟩,λy b=>?_⟩;rcases qZ b with b|rfl;{exact a.2 y b};{exact d}
theorem zc3 {h:Host}(b:Shape h){m:Int}(a:hasB m (ln h.Mons)=true):zfx (ix h.Mons m mZ)/\ShM (ix h.Mons m mZ):=⟨b.1.2.1.2 _<|zbM a _,b.2 _<|zbM a _⟩
theorem zRM {h:Host}{b:List (List Int)}(a:Shape h)(c:SmM b):Shape {h with Memory:=b}:=⟨⟨c,a.1.2⟩,a.2⟩
theorem ztR {h:Host}{m p:Int}{s:Slot}(e:hasB m (ln h.Mons)=true)(b:Shape h):Shape (zcI h m p s):=by refine⟨zHe e b.1,?_⟩;obtain⟨_,a⟩:=zc3 b e;have d:∀y∈up h.Mons m {zjw (ix h.Mons m mZ) p (ix h.Mons m mZ).Tables.length with Outer:=up (ix h.Mons m mZ).Outer p s},ShM y:=(by intro y c;rcases qZ c with c|rfl;{exact b.2 y c};{exact⟨by simpa using a.1,a.2.1,a.2.2.1,by simpa [zjw,zpp] using a.2.2.2⟩});unfold zcI;cases ine (ix (ix h.Mons m mZ).Outer p sZ).Page (-1)<;>exact d
theorem zhT (h:Host)(m p:Int)(s:Slot):(zcI h m p s).Mons=up h.Mons m {zjw (ix h.Mons m mZ) p (ix h.Mons m mZ).Tables.length with Outer:=up (ix h.Mons m mZ).Outer p s}/\(zcI h m p s).Memory=h.Memory:=by unfold zcI;cases ine (ix (ix h.Mons m mZ).Outer p sZ).Page (-1)<;>exact⟨rfl,rfl⟩
theorem zfL {h:Host}{m k:Int}{x:Mon}(a:hasB m (ln h.Mons)=true):hasB m (ln<|up h.Mons k x)=true:=by simpa [ln] using a
theorem zGO {h:Host}{m k p:Int}{s:Slot}(a:hasB m (ln h.Mons)=true):hasB m (ln (zcI h k p s).Mons)=true:=by rw[(zhT h k p s).1];exact zfL a
theorem zeu {b:Type}{l:List b}{p:Int}(h:l.length=8)(a:hasB p 8=true):hasB p (ln l)=true:=by rw[ln,h];exact a
def zzX (h:Host)(m p:Int)(s:Slot):Host :=
 bif ine s.Page (-1) then ⟨h.Memory,up h.Mons m<|zjw (ix h.Mons m mZ) p (ix h.Mons m mZ).Guests.length,flushed h.Buffer s.Page,flushed h.IoBuffer s.Page⟩
 else ⟨h.Memory,up h.Mons m<|zjw (ix h.Mons m mZ) p (ix h.Mons m mZ).Guests.length,h.Buffer,h.IoBuffer⟩
theorem zAn {h:Host}{k:Nat}{p:Int}{s:Slot}(a:k<h.Mons.length)(b:(ix h.Mons (k:Int) mZ).Tables.length=(ix h.Mons (k:Int) mZ).Guests.length) :
 zzX {h with Mons:=up h.Mons (k:Int) {ix h.Mons (k:Int) mZ with Outer:=up (ix h.Mons (k:Int) mZ).Outer p s}} (k:Int) p (ix (ix h.Mons (k:Int) mZ).Outer p sZ)=zcI h (k:Int) p s:=by
 unfold zcI zzX;simp only[zd6 a,zrf,zjw,b]
def z0Z {a:Type}(m p:Int)(i:Nat)(t:List Mon)(b:List Mon->Option a):Option a :=
 (cond (inb (i:Int)<|ln (ix t m mZ).Tables) (cond (inb (i:Int)<|ln (ix t m mZ).Guests) (cond (pc<|SmK (ix (ix t m mZ).Tables (i:Int) zeL)/\(ix (ix t m mZ).Guests (i:Int) zy).Live.length<=1048576) (cond (inb (i:Int)<|ln (ix t m mZ).Tables) (b<|up t m ({ (ix t m mZ) with Tables:=(up (ix t m mZ).Tables (i:Int)<|zlf (ix (ix t m mZ).Tables (i:Int) zeL) (ix (ix t m mZ).Guests (i:Int) zy).Live p)}:Mon)) none) none) none) none)
theorem zZu {j:Type}{mons:List Mon}{k:Nat}(d:k<mons.length)(p:Int)(c:zfx (ix mons (k:Int) mZ))(f:(ix mons (k:Int) mZ).Tables.length=(ix mons (k:Int) mZ).Guests.length)(K:List Mon->Option j) :
 ∀(n i:Nat),i+n=(ix mons (k:Int) mZ).Guests.length->goN (λi t g=>z0Z (k:Int) p i t g) K n i (up mons (k:Int)<|zjw (ix mons (k:Int) mZ) p i)=K (up mons (k:Int)<|zjw (ix mons (k:Int) mZ) p (ix mons (k:Int) mZ).Guests.length)
 | 0,i,h=>by have:i=(ix mons (k:Int) mZ).Guests.length:=(by omega);subst this;rfl
 |n+1,i,h=>by
  have b:i<(ix mons (k:Int) mZ).Guests.length:=(by omega);have a:i<(zlI (ix mons (k:Int) mZ).Guests p i (ix mons (k:Int) mZ).Tables).length:=by rw[zpp];omega
  have e:pc (SmK (ix (zlI (ix mons (k:Int) mZ).Guests p i (ix mons (k:Int) mZ).Tables) (i:Int) zeL)/\(ix (ix mons (k:Int) mZ).Guests (i:Int) zy).Live.length<=1048576)=true :=
   zbs ⟨by rw[zbu a];exact(ztl _ _ _ _ (by omega) c.2.2.2.2.2).2 _ (jI a),by rw[zbu b];exact(c.2.2.2.1.2 _<|jI b).2.2.1⟩
  simp only[goN,z0Z,zd6 d,zrf,zjw,zbm a,zbm b,e,cT];exact zZu d p c f K n (i+1) (by omega)
@[simp] abbrev zfz (h:Host)(m p:Int)(s:Slot):Bool:=pc (Shape h/\hasB m (ln h.Mons)=true)
@[simp] abbrev zfA (h:Host)(m p:Int)(s:Slot):Host:=zzX h m p s
def zod:List CV->List AV->Option (Bool×List CV×List AV)
 |[.s (.sl .int) b,.s .mon c,.s .entry d,.s .entry e],[.one<|.i .i64 f,.one<|.i .i64 g,.agg [.i .i64 h,.i .i64 j]]=>some (zfz (⟨b,c,d,e⟩:Host) f g (⟨h,j⟩:Slot),zbf<|zfA (⟨b,c,d,e⟩:Host) f g (⟨h,j⟩:Slot),[])
 |_,_=>none
def zrk (N:Nat)(c:Host)(i n:Int)(k:Slot):OA:=
 (oN (inb i<|ln c.Mons)<|iter (σ:=(Int×Int×Int×Int×Int×Int×lN×lM×lE×lE×Unit)) N (λp a=>let j:=a.2.2.2.2.2.2.2.1;let h:=a.2.2.2.2.2.2.1;let e:=a.2.2.2.2.1;let g:=a.2.2.2.2.2.2.2.2.1;let f:=a.2.2.2.2.2.2.2.2.2.1;let b:=a.2.2.2.1;let d:=ix h a.2.1 zh;let m:=ix d.Tables b zeL;let l:=(ix d.Guests b zy).Live; (cond (ilt b a.2.2.1) (oN (inb b<|ln d.Tables)<|oN (inb b<|ln d.Guests)<|oN (zgn m l a.1)<|oN (inb b<|ln d.Tables)<|share (up h a.2.1 ({d with Tables:=(up d.Tables b<|zkL m l a.1)}:Mon)) λq=>p (a.1,a.2.1,a.2.2.1,zQ .i64 b 1,e,a.2.2.2.2.2.1,q,j,g,f,()))<|cond (ine e<|-1) (oN (zdE g e)<|oN (zdE f e)<|some [aH (⟨j,h,zf2 g e,zf2 f e⟩:Host)])<|some [aH (⟨j,h,g,f⟩:Host)])) (n,i,ln (ix c.Mons i zh).Guests,0,k.Page,k.Rights,c.Mons,c.Memory,c.Buffer,c.IoBuffer,()))
def zJu:=zq [(129,0,{n:=71,tm:=[(0,.lp 0 0),(2,ti),(7,.lp 1 0),(8,.ep 0 [] 0),(20,ti),(21,ti)],lo:=[(0,[.sl 1 [],.sl 0 [],.sl 2 [],.sl 3 []]),(1,[ti,ti])],ro:=[(0,.mon,true),(1,.sl .int,true),(2,.entry,true),(3,.entry,true)]})]
theorem zMA (N:Nat)(c:Host)(a b:Int)(d:Slot):zpS (cQ zr7 zp3 zI9 zW4) zJu N 12 129 [true,true,true,true] (zbf c) [aI a,aI b,aT .slot d]=zrk N c a b d:=by kernel_rfl
theorem zIT (c:Host)(d b:Int)(a:Slot)(s:zbR big (.agg (zbf c)::[aI d,aI b,aT .slot a]))(r:zfz c d b a=true):∃N,zrk N c d b a=some (.agg (zbf<|zfA c d b a)::[]):=by
 obtain⟨h,g⟩:=zK.1 r;obtain⟨l,q⟩:=zc3 h g;have hg:(ix c.Mons d mZ).Guests.length<=big:=(zda l.2.2.2.1.1).1;refine zcE λN f=>?_;unfold zrk oN;conv=>zeta
 refine must (zB g) ?_;refine(zbq ((ix c.Mons d zh).Guests) (λi (t:lN)=>(b,d,ln (ix c.Mons d zh).Guests,(i:Int),a.Page,a.Rights,t,c.Memory,c.Buffer,c.IoBuffer,())) _ (λi (x:Guest) (t:List Mon) j=>z0Z d b i t j) (λ(t:lN)=>cond (ine a.Page<|-1) (cond (zdE c.Buffer a.Page) (cond (zdE c.IoBuffer a.Page) (some [.agg<|zbf (⟨c.Memory,t,zf2 c.Buffer a.Page,zf2 c.IoBuffer a.Page⟩:Host)]) none) none)<|some [.agg<|zbf (⟨c.Memory,t,c.Buffer,c.IoBuffer⟩:Host)]) (λi e t rec=>?_) (λt rec=>?_) _ (c.Mons)<|f hg).trans ?_;{simp only [zbI e,zbm e,zbu e,zbj e hg,cT];rfl};{simp only [zbz,cF]};obtain⟨k,rfl,m⟩:=zeG (n:=c.Mons.length) g;rw[zym λi t j=>z0Z (k:Int) b i t j];have p:c.Mons=up c.Mons (k:Int) (zjw (ix c.Mons (k:Int) mZ) b 0):=(zEQ m _).symm;refine(congrArg _ p).trans ((zZu m b l q.2.2.2 _ _ 0<|j5 _).trans ?_);show (cond (ine a.Page<|-1) _ _)=some [AV.agg<|zbf<|zzX c (k:Int) b a];unfold zzX;cases ine a.Page (-1);{rfl};{exact must rfl (must (zbs h.1.2.2.1) (must (zbs h.1.2.2.2) rfl))}
theorem zDc:zb8 Tryz.prog 129 [true,true,true,true] zod:=by refine ziV (zh7 zi0 zn zx zd2) (zkq (by kernel_rfl)) ?_;intro g a b j i f h;have d:=zmv f;unfold zod at h;split at h;{obtain⟨e,rfl,rfl⟩:=zoF h;obtain⟨N,c⟩:=zIT _ _ _ _ (by exact d) e;exact⟨rfl,_,N,12,(zMA N _ _ _ _ ).trans c⟩};{cases h}
def z1p:zdk:=[(129,[true,true,true,true],zod)]++zI9
theorem zPX:zcn z1p:=zcY zx (by
 intro x a;simp only[qG,qN,or_false]at a;rcases a with rfl
 .exact zDc)
def zga (h:Host)(m p:Int):Host:={h with Mons:=up h.Mons m {ix h.Mons m mZ with Out:=up (ix h.Mons m mZ).Out p (zc5 h.Memory (ix (ix h.Mons m mZ).Outer p sZ).Page)}}
def zeJ (h:Host)(m p:Int):Host:=zcI (zga h m p) m p noSlot
theorem zWT {m:List (List Int)}{p:Int}(h:SmM m):(zc5 m p).length<=1048576:=by unfold zc5;cases a:hasB p (ln m);{exact(by decide:zAy.length<=1048576)};{exact h.2 _ (zbM a _)}
theorem zxO {h:Host}{m p:Int}(c:Shape h)(d:hasB m (ln h.Mons)=true):Shape (zga h m p):=by obtain⟨a,b⟩:=zc3 c d;exact zkk c ⟨a.1,zNb a.2.1<|zWT c.1.1,a.2.2⟩ ⟨b.1,by simpa using b.2.1,b.2.2⟩
theorem zM6 {h:Host}{m p:Int}(b:Shape h)(a:hasB m (ln h.Mons)=true):Shape (zeJ h m p):=ztR (zfL a) (zxO b a)
@[simp] abbrev zjY (h:Host)(m p:Int):Bool:=pc (Shape h/\hasB m (ln h.Mons)=true/\hasB p 8=true)
@[simp] abbrev zm9 (h:Host)(m p:Int):Host:=zeJ h m p
def zvH:List AV->Option (Bool×List AV)
 |[.agg [.s (.sl .int) b,.s .mon c,.s .entry d,.s .entry e],.one<|.i .i64 f,.one<|.i .i64 g]=>some (zjY (⟨b,c,d,e⟩:Host) f g,[aH<|zm9 (⟨b,c,d,e⟩:Host) f g])
 |_=>none
def zzq (N:Nat)(a:Host)(b c:Int):OA:=
 let d:=ix a.Mons b zh;let e:=(ix d.Outer c zV).Page; (oN (inb b<|ln a.Mons)<|oN (inb b<|ln a.Mons)<|oN (inb c<|ln d.Outer)<|oN (zfG a.Memory e)<|oN (inb c<|ln d.Out)<|share (up a.Mons b ({d with Out:=(up d.Out c<|zhq a.Memory e)}:Mon)) (λg=>let f:=({a with Mons:=g}:Host); (oN zbV<|oN (zgH f b c zbk)<|some [aH<|ziN f b c zbk])))
theorem zYq (N:Nat)(a:Host)(b c:Int):zEt (cQ zr7 zp3 z1p zW4) (zq []) N 12 360 [true,true,true,true,false,false] 1 1 [[0],[1],[2],[4],[7]] .mon [aH a,aI b,aI c]=zzq N a b c:=by kernel_rfl
theorem zVO (b:Host)(d c:Int)(m:zbR big [aH b,aI d,aI c])(j:zjY b d c=true):∃N,zzq N b d c=some [aH<|zm9 b d c]:=by
 obtain⟨g,a,f⟩:=zK.1 j;obtain⟨l,e⟩:=zc3 g a;obtain⟨k,rfl,h⟩:=zeG (n:=b.Mons.length) a;have i:=zxO (p:=c) g a;refine⟨0,?_⟩;unfold zzq oN;conv=>zeta
 refine must (zB a) (must (zB a)<|must (zB<|zeu e.1 f)<|must (zbs<|(zrv _).2 g.1.1)<|must (zB<|zeu e.2.1 f)<|shr (must rfl (must (zbs ⟨(zS _).2 i.1,zfL a,?_,?_⟩) rfl)));{simp only [zd6 h];exact zeu e.1 f};{simp only [zd6 h];exact k7 e.2.2.2}
theorem zO1:zfi Tryz.prog 360 [true,true,true,true,false,false] (some (1,1,[[0],[1],[2],[4],[7]])) zvH:=by refine znt (kt:=.mon) (zh7 zi0 zn zPX zd2) (zkq (by kernel_rfl)) (by kernel_rfl) ?_;intro a g f e h;have c:=zkv e;unfold zvH at h;split at h;{obtain⟨d,rfl⟩:=ze7 h;obtain⟨N,b⟩:=zVO _ _ _ (by exact c) d;exact⟨⟨_,rfl⟩,rfl,_,N,12,(zYq N _ _ _ ).trans b⟩};{cases h}
def zxC:List CV->List AV->Option (Bool×List CV×List AV)
 |[.s (.sl .int) b,.s .mon c,.s .entry d,.s .entry e],[.one<|.i .i64 f,.one<|.i .i64 g]=>some (zjY (⟨b,c,d,e⟩:Host) f g,zbf<|zm9 (⟨b,c,d,e⟩:Host) f g,[])
 |_,_=>none
def zHo (N:Nat)(c:Host)(b a:Int):OA:=
 let d:=ix c.Mons b zh;let e:=ix d.Outer a zV; (oN (inb b<|ln c.Mons)<|oN (inb a<|ln d.Outer)<|oN (zfG c.Memory e.Page)<|oN (inb a<|ln d.Out)<|share (up c.Mons b ({d with Out:=(up d.Out a<|zhq c.Memory e.Page)}:Mon)) (λg=>let f:=ix g b zh; (oN zbV<|oN (inb a<|ln f.Outer)<|share (up g b ({f with Outer:=(up f.Outer a zbk)}:Mon)) (λi=>let h:=({c with Mons:=i}:Host); (oN (zfz h b a e)<|some [aH<|zfA h b a e])))))
theorem z3X (N:Nat)(c:Host)(a b:Int):zpS (cQ zr7 zp3 z1p zW4) (zq []) N 12 168 [true,true,true,true] (zbf c) [aI a,aI b]=zHo N c a b:=by kernel_rfl
theorem z1b (c:Host)(e a:Int)(w:zbR big (.agg (zbf c)::[aI e,aI a]))(u:zjY c e a=true):∃N,zHo N c e a=some (.agg (zbf<|zm9 c e a)::[]):=by
 obtain⟨l,b,j⟩:=zK.1 u;obtain⟨v,f⟩:=zc3 l b;obtain⟨k,rfl,h⟩:=zeG (n:=c.Mons.length) b;have m:=zxO (p:=a) l b;have d:hasB (k:Int) (ln (zga c (k:Int) a).Mons)=true:=zfL b;have i:k<(zga c (k:Int) a).Mons.length:=(by simpa [zga] using h);have g:ix (zga c (k:Int) a).Mons (k:Int) mZ={ix c.Mons (k:Int) mZ with Out:=up (ix c.Mons (k:Int) mZ).Out a (zc5 c.Memory (ix (ix c.Mons (k:Int) mZ).Outer a sZ).Page)}:=zd6 h _ _;have t:Shape {zga c (k:Int) a with Mons:=up (zga c (k:Int) a).Mons (k:Int) {ix (zga c (k:Int) a).Mons (k:Int) mZ with Outer:=up (ix (zga c (k:Int) a).Mons (k:Int) mZ).Outer a noSlot}}:=(by obtain⟨q,r⟩:=zc3 m d;exact zkk m ⟨by simpa using q.1,q.2⟩ ⟨by simpa using r.1,r.2⟩);refine⟨0,?_⟩;unfold zHo oN;conv=>zeta
 refine must (zB b) (must (zB<|zeu f.1 j)<|must (zbs<|(zrv _).2 l.1.1)<|must (zB<|zeu f.2.1 j)<|shr (must rfl (must ?_<|shr<|must (zbs ⟨t,zfL d⟩) ?_)));{rw [zd6 h];exact zB (zeu f.1 j)};{have:=zAn (p:=a) (s:=noSlot) i (by rw[g];exact f.2.2.2);rw[g] at this;show some [AV.agg<|zbf<|zzX {zga c (k:Int) a with Mons:=up (zga c (k:Int) a).Mons (k:Int) {ix (zga c (k:Int) a).Mons (k:Int) mZ with Outer:=up (ix (zga c (k:Int) a).Mons (k:Int) mZ).Outer a noSlot}} (k:Int) a<|ix (ix c.Mons (k:Int) mZ).Outer a sZ]=_;rw[g];exact congrArg (λx=>some [AV.agg<|zbf x]) this}
theorem zUV:zb8 Tryz.prog 168 [true,true,true,true] zxC:=by refine ziV (zh7 zi0 zn zPX zd2) (zkq (by kernel_rfl)) ?_;intro g a b j i f h;have d:=zmv f;unfold zxC at h;split at h;{obtain⟨e,rfl,rfl⟩:=zoF h;obtain⟨N,c⟩:=z1b _ _ _ (by exact d) e;exact⟨rfl,_,N,12,(z3X N _ _ _ ).trans c⟩};{cases h}
def z1q:zdk:=[(168,[true,true,true,true],zxC)]++z1p
theorem zPY:zcn z1q:=zcY zPX (by
 intro x a;simp only[qG,qN,or_false]at a;rcases a with rfl
 .exact zUV)
def z2g:zgy:=[(360,[true,true,true,true,false,false],some (1,1,[[0],[1],[2],[4],[7]]),zvH)]++zW4
theorem zQc:zfa z2g:=zrT zd2 (by
 intro x a;simp only[qG,qN,or_false]at a;rcases a with rfl
 .exact zO1)
def cz (l:List Slot):Nat:=l.countP λs=>ieq s.Page 0
def zH:List Mon->Nat
 |[]=>0
 |m::l=>cz m.Outer+zH l
def bit (u:List Bool):Nat:=bif ix u 0 false then 1 else 0
theorem zyi (s:Slot)(l:List Slot):cz (s::l)=cz l+bif ieq s.Page 0 then 1 else 0:=by unfold cz;rw[vI];cases ieq s.Page 0<;>rfl
theorem zbbT {u:List Bool}{p:Int}(c:0<=p)(a:p.toNat<u.length)(x:Bool):ix (up u p x) 0 false=bif ieq p 0 then x else ix u 0 false:=by unfold ix up;cases h:ieq p 0;{have:p≠0:=(by simpa [ieq] using h);have b:p.toNat≠0:=(by omega);simp[List.getD,jC,b]};{have:p=0:=(by simpa [ieq] using h);subst this;have a:0<u.length:=a;simp[List.getD,jC,a]}
theorem zEg:∀(l:List Slot) (u b:List Bool),(∀s∈l,s.Page<12)->u.length=12->zit l u=some b->cz l+bit u=bit b
 |[],u,b,_,_,h=>by cases h;simp[cz]
 |s::l,u,b,i,k,h=>by
  simp only[zit]at h;rw[zyi];cases c:ilt s.Page 0;{have c:=qW c;rw[show ilt s.Page 0=false from qH (by omega)]at h;simp only[cF]at h;cases d:ix u s.Page false;{rw [d]at h;simp only[cF]at h;have g:s.Page.toNat<u.length:=(by have:=i s (by simp);omega);have a:=zEg l _ b (λt j=>i t (by simp[j])) (by simpa using k) h;have e:bit (up u s.Page true)=bif ieq s.Page 0 then 1 else bit u:=(by unfold bit;rw[zbbT (by omega) g];cases ieq s.Page 0<;>rfl);rw[e] at a;cases f:ieq s.Page 0;{rw [f] at a;simp only[cF] at a ⊢;omega};{have n:s.Page=0:=(by simpa [ieq] using f);rw[n]at d;have:bit u=0:=(by unfold bit;rw[d];rfl);rw[f] at a;simp only[cT] at a ⊢;omega}};{rw [d]at h;cases h}};{have m:=qD c;rw[c]at h;simp only[cT]at h;have a:=zEg l u b (λt j=>i t (by simp[j])) k h;have:ieq s.Page 0=false:=(by simp[ieq];omega);rw[this];simpa using a}
theorem zUZ:∀(l:List Mon) (u:List Bool),u.length=12->zky l u=true->zH l+bit u<=1
 |[],u,_,_=>by unfold zH bit;cases ix u 0 false<;>simp
 |m::l,u,c,h=>by simp only[zky]at h;cases b:zfF m;{rw [b]at h;cases h};{rw [b]at h;simp only[cT]at h;cases a:zit m.Outer u with|none=>rw[a]at h;cases h|some d =>rw[a]at h;have e:=zEg _ _ _ (zEL<|zop b) c a;have f:=zUZ l d ((zrg _ _ _ a).trans c) h;simp only[zH];omega}
theorem z3g:∀(l:List Slot) (b:Nat) (s:Slot),l[b]?=some s->s.Page=0->cz (l.set b noSlot)+1=cz l
 |[],b,s,h,_=>by simp at h
 |t::l,0,s,h,a=>by simp only[qI,qC]at h;subst h;rw[List.set_cons_zero,zyi,zyi];have:ieq t.Page 0=true:=(by simp[ieq,a]);rw[this];rfl
 |t::l,b+1,s,h,a=>by rw[List.set_cons_succ,zyi,zyi];have:=z3g l b s (by simpa using h) a;omega
theorem zXC:∀(l:List Mon) (a:Nat) (x y:Mon),l[a]?=some x->zH (l.set a y)+cz x.Outer=zH l+cz y.Outer
 |[],a,x,y,h=>by simp at h
 |m::l,0,x,y,h=>by simp only[qI,qC]at h;subst h;rw[List.set_cons_zero];simp only[zH];omega
 |m::l,a+1,x,y,h=>by rw[List.set_cons_succ];have:=zXC l a x y (by simpa using h);simp only[zH];omega
theorem z0I {l:List Slot}(h:cz l=0):zpU l 0=none:=by unfold zpU;rw[List.findIdx?_eq_none_iff];intro s a;have:=(vC.1 h) s a;simpa using this
theorem zMF:∀(l:List Mon) (i:Nat),zH l=0->zjQ 0 l i=(-1,-1)
 |[],_,_=>rfl
 |m::l,i,h=>by simp only[zH]at h;simp only[zjQ];rw[z0I (by omega)];exact zMF l (i+1) (by omega)
theorem z0J {l:List Slot}{k:Nat}(h:zpU l 0=some k):∃s,l[k]?=some s/\s.Page=0:=by unfold zpU at h;rw[u0]at h;obtain⟨a,b,_⟩:=h;exact⟨l[k],qB a,by simpa [ieq] using b⟩
theorem zGY:∀(l:List Mon) (i:Nat),zjQ 0 l i=(-1,-1)\/∃a b x s,zjQ 0 l i=(((i+a:Nat):Int),((b:Nat):Int))/\l[a]?=some x/\x.Outer[b]?=some s/\s.Page=0
 |[],_=>.inl rfl
 |m::l,i=>by
  simp only[zjQ];cases h:zpU m.Outer 0 with
  |none=>rcases zGY l (i+1) with c|⟨a,b,x,s,c,d,f,g⟩;{exact .inl c};{refine .inr ⟨a+1,b,x,s,?_,by simpa using d,f,g⟩;have e:i+1+a=i+(a+1):=(by omega);rw[c,e]}
  |some k=>obtain⟨s,c,d⟩:=z0J h;exact .inr ⟨0,k,m,s,rfl,rfl,c,d⟩
def Fit (h:Host):Prop:=Shape h/\0<h.Memory.length/\zH h.Mons<=1
theorem zGM {h:Host}(c:0<h.Memory.length)(b:ilt (zbX h 0).1 0=true):inb 0 (ln<|zcT h)=true:=by unfold zcT;obtain⟨n,a⟩:∃n,h.Memory.length=n+1:=⟨h.Memory.length-1,by omega⟩;rw[a];simp only[zxy];rw[show ilt (zbX h ((0:Nat):Int)).1 0=true from b];exact qJ (by simp only[cT,ln,jB];omega)
theorem z0O {h:Host}(b:0<h.Memory.length)(a:ieq (ln<|zcT h) 0=true):ilt (zbX h 0).1 0=false:=by cases c:ilt (zbX h 0).1 0;{rfl};{have d:=qD (zGM b c);have e:ln (zcT h)=0:=(by simpa [ieq] using a);omega}
def zdX (h:Host):Host:=bif ieq (ln<|zcT h) 0 then zeJ h (zbX h 0).1 (zbX h 0).2 else h
structure Room (h r:Host):Prop where
 shape:Shape r
 free:inb 0 (ln (zcT r))=true
 len:r.Mons.length=h.Mons.length
 outer:∀m,(ix r.Mons m mZ).Outer.length=8\/True
theorem z4f {h:Host}(i:Fit h)(f:ieq (ln<|zcT h) 0=true):∃(a b:Nat) (x:Mon) (s:Slot),zbX h 0=((a:Int),(b:Int))/\h.Mons[a]?=some x/\x.Outer[b]?=some s/\s.Page=0:=by have d:=z0O i.2.1 f;have e:zbX h 0=zjQ 0 h.Mons 0:=rfl;rcases zGY h.Mons 0 with c|⟨a,b,x,s,c,g⟩;{rw [e,c]at d;cases d};{exact⟨a,b,x,s,by rw[e,c,j5],g⟩}
theorem zEF {h:Host}(d:Fit h)(e:ieq (ln<|zcT h) 0=true):hasB (zbX h 0).1 (ln h.Mons)=true/\hasB (zbX h 0).2 8=true:=by obtain⟨a,b,x,s,f,c,g,j⟩:=z4f d e;rw[f];have k:=(qA.1 c).1;have l:=(qA.1 g).1;have i:=d.1.2 x (qK c);refine⟨qJ (by simp only[ln];omega),qJ ?_⟩;have:=i.1;show 0<=(b:Int)/\(b:Int)<8;omega
theorem room {h:Host}(d:Fit h):Room h (zdX h):=by unfold zdX;cases g:ieq (ln<|zcT h) 0;{refine⟨d.1,qJ ?_,rfl,λ_=>.inr trivial⟩;have:ln (zcT h)≠0:=(by simpa [ieq] using g);show 0<=(0:Int)/\(0:Int)<ln (zcT h);simp only[ln] at *;omega};{obtain⟨n,u⟩:=zEF d g;obtain⟨a,b,x,s,r,i,k,t⟩:=z4f d g;simp only[cT];rw[r]at n u ⊢;have m:=(qA.1 i).1;have B:=(qA.1 k).1;have j:ix h.Mons (a:Int) mZ=x:=(by rw[zbu m];exact(qA.1 i).2);have c:=(zhT (zga h (a:Int) (b:Int)) (a:Int) (b:Int) noSlot).1;have q:ix (zga h (a:Int) (b:Int)).Mons (a:Int) mZ={x with Out:=up x.Out (b:Int) (zc5 h.Memory (ix x.Outer (b:Int) sZ).Page)}:=(by unfold zga;rw[zd6 m,j]);obtain⟨y,l,v⟩:∃y,(zeJ h (a:Int) (b:Int)).Mons=h.Mons.set a y/\y.Outer=x.Outer.set b noSlot:=(by unfold zeJ;rw[c,q];unfold zga;rw[zrf];exact⟨_,by simp[up];rfl,by simp[up]⟩);have w:zH (zeJ h (a:Int) (b:Int)).Mons=0:=(by have p:=zXC h.Mons a x y i;have z:=z3g x.Outer b s k t;have A:=d.2.2;rw[l];rw[v] at p;omega);have f:(zeJ h (a:Int) (b:Int)).Memory=h.Memory:=(zhT (zga h (a:Int) (b:Int)) (a:Int) (b:Int) noSlot).2;refine⟨zM6 d.1 n,zGM (by rw[f];exact d.2.1) ?_,by rw[l];simp,λ_=>.inr trivial⟩;have e:zbX (zeJ h (a:Int) (b:Int)) 0=zjQ 0 (zeJ h (a:Int) (b:Int)).Mons 0:=rfl;rw[e,zMF _ _ w];rfl}
theorem zWU {m:List (List Int)}{p:Int}{c:List Int}(h:SmM m)(a:c.length<=1048576):SmM (zkn m p c):=by unfold zkn;cases hasB p (ln m);{exact h};{cases zc1 c;{exact h};{exact zNb h a}}
def landing (r:Host)(m p to:Int):Host:={r with Memory:=zkn r.Memory to (ix (ix r.Mons m mZ).Out p []),Mons:=up r.Mons m {ix r.Mons m mZ with Out:=up (ix r.Mons m mZ).Out p []}}
def zgh (r:Host)(m p to:Int):Host:=zcI (landing r m p to) m p ⟨to,3⟩
def fetched (h:Host)(m p:Int):Host:=zgh (zdX h) m p (ix (zcT<|zdX h) 0 0)
theorem zWW {r:Host}{m p:Int}(e:Shape r)(c:hasB m (ln r.Mons)=true)(d:hasB p 8=true):(ix (ix r.Mons m mZ).Out p []).length<=1048576:=by obtain⟨a,b⟩:=zc3 e c;exact a.2.1.2 _ (zbM (zeu b.2.1 d) _)
theorem ztQ {r:Host}{m p to:Int}(a:Shape r)(d:hasB m (ln r.Mons)=true)(e:hasB p 8=true):Shape (landing r m p to):=by obtain⟨b,c⟩:=zc3 a d;exact zRM (h:={r with Mons:=up r.Mons m {ix r.Mons m mZ with Out:=up (ix r.Mons m mZ).Out p []}}) (zkk (x:={ix r.Mons m mZ with Out:=up (ix r.Mons m mZ).Out p []}) a ⟨b.1,zNb b.2.1 (by simp),b.2.2⟩ ⟨c.1,by simpa using c.2.1,c.2.2⟩) (zWU a.1.1<|zWW a d e)
theorem zTr {r:Host}{m p d:Int}(c:Shape r)(a:hasB m (ln r.Mons)=true)(b:hasB p 8=true):Shape (zgh r m p d):=ztR (zfL a) (ztQ c a b)
theorem zrK {h:Host}(a:Fit h){m:Int}(b:hasB m (ln h.Mons)=true):hasB m (ln (zdX h).Mons)=true:=by rw[ln,(room a).len];exact b
theorem zl2 {h:Host}{m p:Int}(a:Fit h)(b:hasB m (ln h.Mons)=true)(c:hasB p 8=true):Shape (fetched h m p)/\hasB m (ln (fetched h m p).Mons)=true :=
 ⟨zTr (room a).shape (zrK a b) c,zGO<|zfL<|zrK a b⟩
@[simp] abbrev zk7 (h:Host)(m p:Int):Bool:=pc (Fit h/\hasB m (ln h.Mons)=true/\hasB p 8=true)
@[simp] abbrev zmd (h:Host)(m p:Int):Host:=fetched h m p
def zxF:List AV->Option (Bool×List AV)
 |[.agg [.s (.sl .int) b,.s .mon c,.s .entry d,.s .entry e],.one<|.i .i64 f,.one<|.i .i64 g]=>some (zk7 (⟨b,c,d,e⟩:Host) f g,[aH<|zmd (⟨b,c,d,e⟩:Host) f g])
 |_=>none
def zCB (N:Nat)(a:Host)(c b:Int):OA:=
 let h:=ix (zds a) 0 0;let f:=ix a.Mons c zh;let d:=zm9 a (zec a 0)<|zfc a 0;let g:=ix (zds d) 0 0;let e:=ix d.Mons c zh; (oN (zgS a)<|cond (ieq (ln<|zds a) 0) (oN (zgO a 0)<|oN (zjY a (zec a 0)<|zfc a 0)<|oN (zgS d)<|oN (inb 0<|ln<|zds d)<|oN (inb c<|ln d.Mons)<|oN (inb b<|ln e.Out)<|oN (zgT d.Memory g<|ix e.Out b [])<|oN (inb c<|ln d.Mons)<|oN (inb b<|ln e.Out)<|share (up d.Mons c ({e with Out:=(up e.Out b [])}:Mon)) (λi=>let j:=({d with Memory:=(zfI d.Memory g<|ix e.Out b []),Mons:=i}:Host); (oN (zgH j c b (⟨g,3⟩:Slot))<|some [aH<|ziN j c b (⟨g,3⟩:Slot)])))<|oN (zgS a)<|oN (inb 0<|ln<|zds a)<|oN (inb c<|ln a.Mons)<|oN (inb b<|ln f.Out)<|oN (zgT a.Memory h<|ix f.Out b [])<|oN (inb c<|ln a.Mons)<|oN (inb b<|ln f.Out)<|share (up a.Mons c ({f with Out:=(up f.Out b [])}:Mon)) (λi=>let k:=({a with Memory:=(zfI a.Memory h<|ix f.Out b []),Mons:=i}:Host); (oN (zgH k c b (⟨h,3⟩:Slot))<|some [aH<|ziN k c b (⟨h,3⟩:Slot)])))
theorem z1i (N:Nat)(a:Host)(b c:Int):zEt (cQ zr7 zp3 z1q z2g) (zq []) N 12 361 [true,true,true,true,false,false] 1 1 [[0],[1],[2],[4],[7]] .mon [aH a,aI b,aI c]=zCB N a b c:=by kernel_rfl
theorem zYn (c:Host)(b d:Int)(z:zbR big [aH c,aI b,aI d])(u:zk7 c b d=true):∃N,zCB N c b d=some [aH<|zmd c b d]:=by
 obtain⟨h,v,i⟩:=zK.1 u;have e:∀r,Shape r->inb 0 (ln<|zcT r)=true->hasB b (ln r.Mons)=true->(cond (zgS r) (cond (inb 0<|ln<|zds r) (cond (inb b<|ln r.Mons) (cond (inb d<|ln (ix r.Mons b zh).Out) (cond (zgT r.Memory (ix (zds r) 0 0)<|ix (ix r.Mons b zh).Out d []) (cond (inb b<|ln r.Mons) (cond (inb d<|ln (ix r.Mons b zh).Out) (share (up r.Mons b ({ (ix r.Mons b zh) with Out:=(up (ix r.Mons b zh).Out d [])}:Mon)) λs=>cond (zgH ({r with Memory:=(zfI r.Memory (ix (zds r) 0 0)<|ix (ix r.Mons b zh).Out d []),Mons:=s}:Host) b d (⟨ix (zds r) 0 0,3⟩:Slot)) (some [AV.agg<|zbf<|ziN ({r with Memory:=(zfI r.Memory (ix (zds r) 0 0)<|ix (ix r.Mons b zh).Out d []),Mons:=s}:Host) b d (⟨ix (zds r) 0 0,3⟩:Slot)]) none) none) none) none) none) none) none) none)=some [AV.agg<|zbf<|zgh r b d<|ix (zcT r) 0 0]:=(by intro r j f a;obtain⟨y,l⟩:=zc3 j a;have t:=ztQ (to:=ix (zcT r) 0 0) j a i;obtain⟨k,rfl,q⟩:=zeG (n:=r.Mons.length) a;refine must (zbs j.1.1.1) (must f<|must (zB a)<|must (zB<|zeu l.2.1 i)<|must (zbs ⟨j.1.1,zWW j a i⟩)<|must (zB a)<|must (zB<|zeu l.2.1 i)<|shr (must (zbs ⟨(zS _).2 t.1,zfL a,?_,?_⟩) rfl));{simp only [zd6 q];exact zeu l.1 i};{simp only [zd6 q];exact k7 l.2.2.2});have g:=room h;have a:=zrK h v;refine⟨0,?_⟩;unfold zCB zmd fetched oN;conv=>zeta
 refine must (zbs h.1.1.1.1) ?_;cases p:ieq (ln<|zds c) 0;{have m:zdX c=c:=(by unfold zdX;rw[show ieq (ln<|zcT c) 0=false from p];rfl);rw[m]at g a ⊢;exact e c g.shape g.free a};{obtain⟨w,x⟩:=zEF h p;have m:zdX c=zeJ c (zbX c 0).1 (zbX c 0).2:=(by unfold zdX;rw[show ieq (ln<|zcT c) 0=true from p];rfl);rw[m]at g a ⊢;exact must rfl (must rfl (must (zbs ⟨h.1,w,x⟩)<|e _ g.shape g.free a))}
theorem zSo:zfi Tryz.prog 361 [true,true,true,true,false,false] (some (1,1,[[0],[1],[2],[4],[7]])) zxF:=by refine znt (kt:=.mon) (zh7 zi0 zn zPY zQc) (zkq (by kernel_rfl)) (by kernel_rfl) ?_;intro a g f e h;have c:=zkv e;unfold zxF at h;split at h;{obtain⟨d,rfl⟩:=ze7 h;obtain⟨N,b⟩:=zYn _ _ _ (by exact c) d;exact⟨⟨_,rfl⟩,rfl,_,N,12,(z1i N _ _ _ ).trans b⟩};{cases h}
@[simp] abbrev ztC (h:Host):Bool:=pc (Shape h/\hasB (zbX h 0).1 (ln h.Mons)=true/\hasB (zbX h 0).2 8=true)
@[simp] abbrev ztD (h:Host):Host:=zeJ h (zbX h 0).1 (zbX h 0).2
def zpf:List CV->List AV->Option (Bool×List CV×List AV)
 |[.s (.sl .int) b,.s .mon c,.s .entry d,.s .entry e],[]=>some (ztC (⟨b,c,d,e⟩:Host),zbf<|ztD (⟨b,c,d,e⟩:Host),[])
 |_,_=>none
def ztt (N:Nat)(c:Host)  : OA :=
 (oN (zgO c 0)<|oN (zjY c (zec c 0)<|zfc c 0)<|some [aH<|zm9 c (zec c 0)<|zfc c 0])
theorem zPT (N:Nat)(c:Host)  : zpS (cQ zr7 zp3 z1q z2g) (zq []) N 12 249 [true,true,true,true] (zbf c) []=ztt N c:=by kernel_rfl
theorem zMi (c:Host)(d:zbR big (.agg (zbf c)::[]))(a:ztC c=true):∃N,ztt N c=some (.agg (zbf<|ztD c)::[]):=by have b:=zK.1 a;refine⟨0,?_⟩;unfold ztt oN;exact must rfl (must (zbs b) rfl)
theorem zE2:zb8 Tryz.prog 249 [true,true,true,true] zpf:=by refine ziV (zh7 zi0 zn zPY zQc) (zkq (by kernel_rfl)) ?_;intro g a b j i f h;have d:=zmv f;unfold zpf at h;split at h;{obtain⟨e,rfl,rfl⟩:=zoF h;obtain⟨N,c⟩:=zMi _ (by exact d) e;exact⟨rfl,_,N,12,(zPT N _ ).trans c⟩};{cases h}
def z6N:zdk:=[(249,[true,true,true,true],zpf)]++z1q
theorem zZI:zcn z6N:=zcY zPY (by
 intro x a;simp only[qG,qN,or_false]at a;rcases a with rfl
 .exact zE2)
def zW5:zgy:=[(361,[true,true,true,true,false,false],some (1,1,[[0],[1],[2],[4],[7]]),zxF)]++z2g
theorem zEO:zfa zW5:=zrT zQc (by
 intro x a;simp only[qG,qN,or_false]at a;rcases a with rfl
 .exact zSo)
theorem z0g {r:Host}{m p to:Int}(d:Shape r)(b:hasB m (ln r.Mons)=true):zzX {landing r m p to with Mons:=up (landing r m p to).Mons m {ix (landing r m p to).Mons m mZ with Outer:=up (ix (landing r m p to).Mons m mZ).Outer p ⟨to,3⟩}} m p (ix (ix (landing r m p to).Mons m mZ).Outer p sZ)=zgh r m p to:=by obtain⟨e,c⟩:=zc3 d b;obtain⟨k,rfl,a⟩:=zeG (n:=r.Mons.length) b;refine zAn (h:=landing r (k:Int) p to) (by simpa [landing] using a) ?_;unfold landing;simp only[zd6 a];exact c.2.2.2
theorem zYV {r:Host}{m p to:Int}(f:Shape r)(b:hasB m (ln r.Mons)=true)(e:hasB p 8=true):Shape {landing r m p to with Mons:=up (landing r m p to).Mons m {ix (landing r m p to).Mons m mZ with Outer:=up (ix (landing r m p to).Mons m mZ).Outer p ⟨to,3⟩}}:=by have a:=ztQ (to:=to) f b e;obtain⟨c,d⟩:=zc3 a (zfL b);exact zkk a ⟨by simpa using c.1,c.2⟩ ⟨by simpa using d.1,d.2⟩
def zvx:List CV->List AV->Option (Bool×List CV×List AV)
 |[.s (.sl .int) b,.s .mon c,.s .entry d,.s .entry e],[.one<|.i .i64 f,.one<|.i .i64 g]=>some (zk7 (⟨b,c,d,e⟩:Host) f g,zbf<|zmd (⟨b,c,d,e⟩:Host) f g,[])
 |_,_=>none
def zCf (N:Nat)(c:Host)(b a:Int):OA:=
 let m:=ix (zds c) 0 0;let d:=ztD c;let l:=ix (zds d) 0 0;let f:=ix c.Mons b zh;let e:=ix d.Mons b zh; (oN (zgS c)<|cond (ieq (ln<|zds c) 0) (oN (ztC c)<|oN (inb b<|ln d.Mons)<|oN (zgS d)<|oN (inb 0<|ln<|zds d)<|oN (inb a<|ln e.Out)<|oN (zgT d.Memory l<|ix e.Out a [])<|oN (inb a<|ln e.Out)<|share (up d.Mons b ({e with Out:=(up e.Out a [])}:Mon)) (λg=>let i:=ix g b zh;let q:=ix i.Outer a zV; (oN (inb a<|ln i.Outer)<|oN (inb a<|ln i.Outer)<|share (up g b ({i with Outer:=(up i.Outer a (⟨l,3⟩:Slot))}:Mon)) (λk=>let n:=({d with Memory:=(zfI d.Memory l<|ix e.Out a []),Mons:=k}:Host); (oN (zfz n b a q)<|some [aH<|zfA n b a q])))))<|oN (inb b<|ln c.Mons)<|oN (zgS c)<|oN (inb 0<|ln<|zds c)<|oN (inb a<|ln f.Out)<|oN (zgT c.Memory m<|ix f.Out a [])<|oN (inb a<|ln f.Out)<|share (up c.Mons b ({f with Out:=(up f.Out a [])}:Mon)) (λg=>let j:=ix g b zh;let h:=ix j.Outer a zV; (oN (inb a<|ln j.Outer)<|oN (inb a<|ln j.Outer)<|share (up g b ({j with Outer:=(up j.Outer a (⟨m,3⟩:Slot))}:Mon)) (λk=>let p:=({c with Memory:=(zfI c.Memory m<|ix f.Out a []),Mons:=k}:Host); (oN (zfz p b a h)<|some [aH<|zfA p b a h])))))
theorem z1h (N:Nat)(c:Host)(a b:Int):zpS (cQ zr7 zp3 z6N zW5) (zq []) N 12 169 [true,true,true,true] (zbf c) [aI a,aI b]=zCf N c a b:=by kernel_rfl
theorem zYc (c:Host)(b d:Int)(F:zbR big (.agg (zbf c)::[aI b,aI d]))(w:zk7 c b d=true):∃N,zCf N c b d=some (.agg (zbf<|zmd c b d)::[]):=by
 obtain⟨j,B,l⟩:=zK.1 w;have e:∀r,Shape r->inb 0 (ln<|zcT r)=true->hasB b (ln r.Mons)=true->(cond (inb b<|ln r.Mons) (cond (zgS r) (cond (inb 0<|ln<|zds r) (cond (inb d<|ln (ix r.Mons b zh).Out) (cond (zgT r.Memory (ix (zds r) 0 0)<|ix (ix r.Mons b zh).Out d []) (cond (inb d<|ln (ix r.Mons b zh).Out) (share (up r.Mons b ({ (ix r.Mons b zh) with Out:=(up (ix r.Mons b zh).Out d [])}:Mon)) λg=>cond (inb d<|ln (ix g b zh).Outer) (cond (inb d<|ln (ix g b zh).Outer) (share (up g b ({ (ix g b zh) with Outer:=(up (ix g b zh).Outer d (⟨ix (zds r) 0 0,3⟩:Slot))}:Mon)) λu=>cond (zfz ({r with Memory:=(zfI r.Memory (ix (zds r) 0 0)<|ix (ix r.Mons b zh).Out d []),Mons:=u}:Host) b d<|ix (ix g b zh).Outer d zV) (some [AV.agg<|zbf<|zfA ({r with Memory:=(zfI r.Memory (ix (zds r) 0 0)<|ix (ix r.Mons b zh).Out d []),Mons:=u}:Host) b d<|ix (ix g b zh).Outer d zV]) none) none) none) none) none) none) none) none) none)=some [AV.agg<|zbf<|zgh r b d<|ix (zcT r) 0 0]:=(by intro r i f a;obtain⟨E,q⟩:=zc3 i a;have v:=zYV (to:=ix (zcT r) 0 0) i a l;have hE:=z0g (p:=d) (to:=ix (zcT r) 0 0) i a;obtain⟨k,rfl,A⟩:=zeG (n:=r.Mons.length) a;have z:∀(x y:Mon),hasB (k:Int) (ln<|up (up r.Mons (k:Int) x) (k:Int) y)=true:=λx y=>(by simpa [ln] using a);have t:inb d (ln (ix (up r.Mons (k:Int) {ix r.Mons (k:Int) mZ with Out:=up (ix r.Mons (k:Int) mZ).Out d []}) (k:Int) mZ).Outer)=true:=(by rw[zd6 A];exact zB (zeu q.1 l));refine must (zB a) (must (zbs i.1.1.1)<|must f<|must (zB<|zeu q.2.1 l)<|must (zbs ⟨i.1.1,zWW i a l⟩)<|must (zB<|zeu q.2.1 l)<|shr<|must t<|must t<|shr<|must (zbs ⟨v,z _ _⟩) ?_);exact congrArg (λx=>some [AV.agg<|zbf x]) hE);have h:=room j;have a:=zrK j B;refine⟨0,?_⟩;unfold zCf zmd fetched oN;conv=>zeta
 refine must (zbs j.1.1.1.1) ?_;cases s:ieq (ln<|zds c) 0;{have m:zdX c=c:=(by unfold zdX;rw[show ieq (ln<|zcT c) 0=false from s];rfl);rw[m]at h a ⊢;exact e c h.shape h.free a};{obtain⟨C,D⟩:=zEF j s;have m:zdX c=zeJ c (zbX c 0).1 (zbX c 0).2:=(by unfold zdX;rw[show ieq (ln<|zcT c) 0=true from s];rfl);rw[m]at h a ⊢;exact must rfl (must (zbs ⟨j.1,C,D⟩)<|e _ h.shape h.free a)}
theorem zSa:zb8 Tryz.prog 169 [true,true,true,true] zvx:=by refine ziV (zh7 zi0 zn zZI zEO) (zkq (by kernel_rfl)) ?_;intro g a b j i f h;have d:=zmv f;unfold zvx at h;split at h;{obtain⟨e,rfl,rfl⟩:=zoF h;obtain⟨N,c⟩:=zYc _ _ _ (by exact d) e;exact⟨rfl,_,N,12,(z1h N _ _ _ ).trans c⟩};{cases h}
def z1r:zdk:=[(169,[true,true,true,true],zvx)]++z6N
theorem zPZ:zcn z1r:=zcY zZI (by
 intro x a;simp only[qG,qN,or_false]at a;rcases a with rfl
 .exact zSa)
def zbP (h:Host)(m p:Int):Host:={h with Mons:=up h.Mons m {ix h.Mons m mZ with Dirty:=up (ix h.Mons m mZ).Dirty p true}}
def opened (h:Host)(m p:Int):Host:=bif ieq (wand .i64 (ix (ix h.Mons m mZ).Outer p sZ).Rights 2) 0 then zcI h m p ⟨(ix (ix h.Mons m mZ).Outer p sZ).Page,3⟩ else h
def zlo (h:Host)(m p n:Int):Host:=bif ieq (wand .i64 n 2) 0 then h else opened (zbP h m p) m p
def mended (h:Host)(m p n:Int):Host:=bif ieq (ix (ix h.Mons m mZ).Outer p sZ).Page (-1) then zlo (fetched h m p) m p n else zlo h m p n
theorem zban {r:Int}(a:0<=r)(b:r<=3):enough r 2 = !ieq (wand .i64 r 2) 0:=by have:r=0\/r=1\/r=2\/r=3:=(by omega);rcases this with rfl|rfl|rfl|rfl<;>rfl
structure SlotFit (s:Slot):Prop where
 no:zdJ s noSlot=ieq s.Page (-1)
 lo:0<=s.Rights
 hi:s.Rights<=3
theorem z18 {s:Slot}{n:Int}(h:zeP s n=true):SlotFit s:=by refine⟨zRO h,?_,?_⟩<;>unfold zeP at h<;>cases a:zdJ s noSlot;{rw [a]at h;simp only[cF,zdZ]at h;have:=(zfT.1 h.2.2).1;omega};{unfold zdJ at a;rw[qE]at a;have:s.Rights=0:=qD a.2;omega};{rw [a]at h;simp only[cF,zdZ]at h;have:=(zfT.1 h.2.2).2;omega};{unfold zdJ at a;rw[qE]at a;have:s.Rights=0:=qD a.2;omega}
theorem zo7 {h:Host}{m p:Int}(c:Shape h)(d:hasB m (ln h.Mons)=true):Shape (zbP h m p):=by obtain⟨a,b⟩:=zc3 c d;exact zkk c ⟨a.1,a.2.1,by simpa using a.2.2.1,a.2.2.2⟩ ⟨b.1,b.2.1,by simpa using b.2.2.1,b.2.2.2⟩
theorem zWN {h:Host}{m p:Int}(b:Shape h)(a:hasB m (ln h.Mons)=true):Shape (opened h m p)/\hasB m (ln (opened h m p).Mons)=true:=by unfold opened;cases ieq (wand .i64 (ix (ix h.Mons m mZ).Outer p sZ).Rights 2) 0;{exact⟨b,a⟩};{exact⟨ztR a b,zGO a⟩}
theorem zHc {h:Host}{m p n:Int}(b:Shape h)(a:hasB m (ln h.Mons)=true):Shape (zlo h m p n)/\hasB m (ln (zlo h m p n).Mons)=true:=by unfold zlo;cases ieq (wand .i64 n 2) 0;{exact zWN (zo7 b a) (zfL a)};{exact⟨b,a⟩}
theorem zvS {h:Host}{m p n:Int}(a:Fit h)(b:hasB m (ln h.Mons)=true)(e:hasB p 8=true):Shape (mended h m p n)/\hasB m (ln (mended h m p n).Mons)=true:=by unfold mended;cases ieq (ix (ix h.Mons m mZ).Outer p sZ).Page (-1);{exact zHc a.1 b};{obtain⟨c,d⟩:=zl2 a b e;exact zHc c d}
theorem zUF {h:Host}{m p:Int}(c:Fit h)(g:hasB m (ln h.Mons)=true)(j:hasB p 8=true):(ix (ix (fetched h m p).Mons m mZ).Outer p sZ).Rights=3:=by have f:=room c;have a:=zrK c g;obtain⟨r,e⟩:=zc3 f.shape a;obtain⟨k,rfl,d⟩:=zeG (n:=(zdX h).Mons.length) a;obtain⟨q,rfl,l⟩:=zeG (n:=8) j;unfold fetched zgh;rw[(zhT _ _ _ _).1];have b:k<(landing (zdX h) (k:Int) (q:Int)<|ix (zcT<|zdX h) 0 0).Mons.length:=(by simpa [landing] using d);rw[zd6 b];have i:q<(ix (landing (zdX h) (k:Int) (q:Int)<|ix (zcT<|zdX h) 0 0).Mons (k:Int) mZ).Outer.length:=(by unfold landing;rw[zd6 d];show q<(ix (zdX h).Mons (k:Int) mZ).Outer.length;rw[e.1];exact l);show (ix (up (ix (landing (zdX h) (k:Int) (q:Int)<|ix (zcT<|zdX h) 0 0).Mons (k:Int) mZ).Outer (q:Int) ⟨_,3⟩) (q:Int) sZ).Rights=3;rw[zd6 i]
def z2q (h:Host)(m p n:Int):Prop:=Fit h/\hasB m (ln h.Mons)=true/\hasB p 8=true/\(n=1\/n=2)/\SlotFit (ix (ix h.Mons m mZ).Outer p sZ)
@[simp] abbrev zgG (h:Host)(m p n:Int):Bool:=pc (z2q h m p n)
@[simp] abbrev zgr (h:Host)(m p n:Int):Host:=mended h m p n
def ztI:List AV->Option (Bool×List AV)
 |[.agg [.s (.sl .int) b,.s .mon c,.s .entry d,.s .entry e],.one<|.i .i64 f,.one<|.i .i64 g,.one<|.i .i64 h]=>some (zgG (⟨b,c,d,e⟩:Host) f g h,[aH<|zgr (⟨b,c,d,e⟩:Host) f g h])
 |_=>none
def zxo (N:Nat)(c:Host)(a b l:Int):OA:=
 let h:=zmd c a b;let k:=ix h.Mons a zh;let e:=ix c.Mons a zh;let p:=ix e.Outer b zV; (oN (inb a<|ln c.Mons)<|oN (inb b<|ln e.Outer)<|oN zbV<|cond (cond (ieq p.Page zbk.Page) (ieq p.Rights zbk.Rights) false) (oN (zk7 c a b)<|cond (ieq (wand .i64 l 2) 0) (some [aH h])<|oN (inb a<|ln h.Mons)<|oN (inb b<|ln k.Dirty)<|share (up h.Mons a ({k with Dirty:=(up k.Dirty b true)}:Mon)) (λd=>let q:=(ix d a zh).Outer;let i:=({h with Mons:=d}:Host);let m:=ix q b zV;let r:=({m with Rights:=3}:Slot); (oN (inb a<|ln d)<|oN (inb b<|ln q)<|cond (ieq (wand .i64 m.Rights 2) 0) (oN (zgH i a b r)<|some [aH<|ziN i a b r])<|some [aH i])))<|cond (ieq (wand .i64 l 2) 0) (some [aH c])<|oN (inb a<|ln c.Mons)<|oN (inb b<|ln e.Dirty)<|share (up c.Mons a ({e with Dirty:=(up e.Dirty b true)}:Mon)) (λd=>let f:=(ix d a zh).Outer;let j:=({c with Mons:=d}:Host);let n:=ix f b zV;let g:=({n with Rights:=3}:Slot); (oN (inb a<|ln d)<|oN (inb b<|ln f)<|cond (ieq (wand .i64 n.Rights 2) 0) (oN (zgH j a b g)<|some [aH<|ziN j a b g])<|some [aH j])))
theorem zV1 (N:Nat)(a:Host)(b c d:Int):zEt (cQ zr7 zp3 z1r zW5) (zq []) N 12 349 [true,true,true,true,false,false,false] 1 1 [[0],[1],[2],[4],[7]] .mon [aH a,aI b,aI c,aI d]=zxo N a b c d:=by kernel_rfl
theorem zTc (d:Host)(b a h:Int)(C:zbR big [aH d,aI b,aI a,aI h])(z:zgG d b a h=true):∃N,zxo N d b a h=some [aH<|zgr d b a h]:=by
 obtain⟨l,j,i,D,A⟩:=zK.1 z;obtain⟨B,v⟩:=zc3 l.1 j;have f:∀r,Shape r->hasB b (ln r.Mons)=true->(cond (ieq (wand .i64 h 2) 0) (some [AV.agg<|zbf r])<|cond (inb b<|ln r.Mons) (cond (inb a<|ln (ix r.Mons b zh).Dirty) (share (up r.Mons b ({ (ix r.Mons b zh) with Dirty:=(up (ix r.Mons b zh).Dirty a true)}:Mon)) λg=>cond (inb b<|ln g) (cond (inb a<|ln (ix g b zh).Outer) (cond (ieq (wand .i64 (ix (ix g b zh).Outer a zV).Rights 2) 0) (cond (zgH ({r with Mons:=g}:Host) b a ({ (ix (ix g b zh).Outer a zV) with Rights:=3}:Slot)) (some [AV.agg<|zbf<|ziN ({r with Mons:=g}:Host) b a ({ (ix (ix g b zh).Outer a zV) with Rights:=3}:Slot)]) none)<|some [AV.agg<|zbf ({r with Mons:=g}:Host)]) none) none) none) none)=some [AV.agg<|zbf<|zlo r b a h]:=(by intro r u c;obtain⟨E,m⟩:=zc3 u c;have y:=zo7 (p:=a) u c;unfold zlo;cases w:ieq (wand .i64 h 2) 0;{obtain⟨k,rfl,t⟩:=zeG (n:=r.Mons.length) c;have q:ix (zbP r (k:Int) a).Mons (k:Int) mZ={ix r.Mons (k:Int) mZ with Dirty:=up (ix r.Mons (k:Int) mZ).Dirty a true}:=zd6 t _ _;refine zci rfl (must (zB c)<|must (zB<|zeu m.2.2.1 i)<|shr<|must (zB<|zfL c)<|must ?_ ?_);{rw [zd6 t];exact zB (zeu m.1 i)};{unfold opened;show (cond (ieq (wand .i64 (ix (ix (zbP r (k:Int) a).Mons (k:Int) mZ).Outer a sZ).Rights 2) 0) _ _)=_;cases s:ieq (wand .i64 (ix (ix (zbP r (k:Int) a).Mons (k:Int) mZ).Outer a sZ).Rights 2) 0;{rfl};{refine must rfl (must (zbs ⟨(zS _).2 y.1,zfL c,?_,?_⟩) rfl);{show hasB a (ln (ix (zbP r (k:Int) a).Mons (k:Int) mZ).Outer)=true;rw[q];exact zeu m.1 i};{show (ix (zbP r (k:Int) a).Mons (k:Int) mZ).Tables.length<=(ix (zbP r (k:Int) a).Mons (k:Int) mZ).Guests.length;rw[q];exact k7 m.2.2.2}}}};{rfl});refine⟨0,?_⟩;unfold zxo zgr mended oN;conv=>zeta
 refine must (zB j) (must (zB<|zeu v.1 i) (must rfl ?_));have e:(cond (ieq (ix (ix d.Mons b mZ).Outer a sZ).Page zbk.Page) (ieq (ix (ix d.Mons b mZ).Outer a sZ).Rights zbk.Rights) false)=ieq (ix (ix d.Mons b mZ).Outer a sZ).Page (-1):=(by rw[<- A.no];unfold zdJ zbk;cases ieq (ix (ix d.Mons b mZ).Outer a sZ).Page noSlot.Page<;>rfl);rw[e];cases w:ieq (ix (ix d.Mons b mZ).Outer a sZ).Page (-1);{exact f d l.1 j};{obtain⟨s,x⟩:=zl2 (p:=a) l j i;exact must rfl (must (zbs ⟨l,j,i⟩)<|f _ s x)}
theorem zLV:zfi Tryz.prog 349 [true,true,true,true,false,false,false] (some (1,1,[[0],[1],[2],[4],[7]])) ztI:=by refine znt (kt:=.mon) (zh7 zi0 zn zPZ zEO) (zkq (by kernel_rfl)) (by kernel_rfl) ?_;intro a g f e h;have c:=zkv e;unfold ztI at h;split at h;{obtain⟨d,rfl⟩:=ze7 h;obtain⟨N,b⟩:=zTc _ _ _ _ (by exact c) d;exact⟨⟨_,rfl⟩,rfl,_,N,12,(zV1 N _ _ _ _ ).trans b⟩};{cases h}
def zxB:List CV->List AV->Option (Bool×List CV×List AV)
 |[.s (.sl .int) b,.s .mon c,.s .entry d,.s .entry e],[.one<|.i .i64 f,.one<|.i .i64 g,.one<|.i .i64 h]=>some (zgG (⟨b,c,d,e⟩:Host) f g h,zbf<|zgr (⟨b,c,d,e⟩:Host) f g h,[])
 |_,_=>none
def zHn (N:Nat)(c:Host)(b a k:Int):OA:=
 let e:=zmd c b a;let m:=ix e.Mons b zh;let h:=ix c.Mons b zh; (oN (inb b<|ln c.Mons)<|oN (inb a<|ln h.Outer)<|cond (ieq (ix h.Outer a zV).Page<|-1) (oN (zk7 c b a)<|oN (zbl k 2)<|cond (nB<|zdr k 2) (some [aH e])<|oN (inb b<|ln e.Mons)<|oN (inb a<|ln m.Dirty)<|share (up e.Mons b ({m with Dirty:=(up m.Dirty a true)}:Mon)) (λd=>let i:=ix d b zh;let f:=ix i.Outer a zV; (oN (inb a<|ln i.Outer)<|oN (zbl f.Rights 2)<|cond (nB<|zdr f.Rights 2) (oN (inb a<|ln i.Outer)<|share (up d b ({i with Outer:=(up i.Outer a ({f with Rights:=3}:Slot))}:Mon)) (λl=>let n:=({e with Mons:=l}:Host); (oN (zfz n b a f)<|some [aH<|zfA n b a f])))<|some [aH ({e with Mons:=d}:Host)])))<|oN (zbl k 2)<|cond (nB<|zdr k 2) (some [aH c])<|oN (inb b<|ln c.Mons)<|oN (inb a<|ln h.Dirty)<|share (up c.Mons b ({h with Dirty:=(up h.Dirty a true)}:Mon)) (λd=>let j:=ix d b zh;let g:=ix j.Outer a zV; (oN (inb a<|ln j.Outer)<|oN (zbl g.Rights 2)<|cond (nB<|zdr g.Rights 2) (oN (inb a<|ln j.Outer)<|share (up d b ({j with Outer:=(up j.Outer a ({g with Rights:=3}:Slot))}:Mon)) (λl=>let p:=({c with Mons:=l}:Host); (oN (zfz p b a g)<|some [aH<|zfA p b a g])))<|some [aH ({c with Mons:=d}:Host)])))
theorem z3W (N:Nat)(c:Host)(a b d:Int):zpS (cQ zr7 zp3 z1r zW5) (zq []) N 12 162 [true,true,true,true] (zbf c) [aI a,aI b,aI d]=zHn N c a b d:=by kernel_rfl
theorem z1a (c:Host)(b a f:Int)(R:zbR big (.agg (zbf c)::[aI b,aI a,aI f]))(M:zgG c b a f=true):∃N,zHn N c b a f=some (.agg (zbf<|zgr c b a f)::[]):=by
 obtain⟨l,i,j,P,C⟩:=zK.1 M;obtain⟨Q,I⟩:=zc3 l.1 i;have H:enough f 2 = !ieq (wand .i64 f 2) 0:=(by rcases P with rfl|rfl<;>rfl);have g:∀r,Shape r->hasB b (ln r.Mons)=true->enough (ix (ix r.Mons b mZ).Outer a sZ).Rights 2=(!ieq (wand .i64 (ix (ix r.Mons b mZ).Outer a sZ).Rights 2) 0)->(cond (zbl f 2) (cond (cond (zdr f 2) false true) (some [AV.agg<|zbf r])<|cond (inb b<|ln r.Mons) (cond (inb a<|ln (ix r.Mons b zh).Dirty) (share (up r.Mons b ({ (ix r.Mons b zh) with Dirty:=(up (ix r.Mons b zh).Dirty a true)}:Mon)) λe=>cond (inb a<|ln (ix e b zh).Outer) (cond (zbl (ix (ix e b zh).Outer a zV).Rights 2) (cond (cond (zdr (ix (ix e b zh).Outer a zV).Rights 2) false true) (cond (inb a<|ln (ix e b zh).Outer) (share (up e b ({ (ix e b zh) with Outer:=(up (ix e b zh).Outer a ({ (ix (ix e b zh).Outer a zV) with Rights:=3}:Slot))}:Mon)) λF=>cond (zfz ({r with Mons:=F}:Host) b a<|ix (ix e b zh).Outer a zV) (some [AV.agg<|zbf<|zfA ({r with Mons:=F}:Host) b a<|ix (ix e b zh).Outer a zV]) none) none)<|some [AV.agg<|zbf ({r with Mons:=e}:Host)]) none) none) none) none) none)=some [AV.agg<|zbf<|zlo r b a f]:=(by intro r B d q;obtain⟨S,u⟩:=zc3 B d;have w:=zo7 (p:=a) B d;unfold zlo;simp only[zbl,zdr,H,cT];cases J:ieq (wand .i64 f 2) 0;{obtain⟨k,rfl,A⟩:=zeG (n:=r.Mons.length) d;have m:ix (zbP r (k:Int) a).Mons (k:Int) mZ={ix r.Mons (k:Int) mZ with Dirty:=up (ix r.Mons (k:Int) mZ).Dirty a true}:=zd6 A _ _;have t:k<(zbP r (k:Int) a).Mons.length:=(by simpa [zbP] using A);have z:inb a (ln (ix (zbP r (k:Int) a).Mons (k:Int) mZ).Outer)=true:=(by rw[m];exact zB (zeu u.1 j));refine zci rfl (must (zB d)<|must (zB<|zeu u.2.2.1 j)<|shr<|must z ?_);unfold opened;show (cond (cond (enough (ix (ix (zbP r (k:Int) a).Mons (k:Int) mZ).Outer a sZ).Rights 2) false true) _ _)=_;have G:(cond (enough (ix (ix (zbP r (k:Int) a).Mons (k:Int) mZ).Outer a sZ).Rights 2) false true)=ieq (wand .i64 (ix (ix (zbP r (k:Int) a).Mons (k:Int) mZ).Outer a sZ).Rights 2) 0:=(by rw[m];show (cond (enough (ix (ix r.Mons (k:Int) mZ).Outer a sZ).Rights 2) false true)=ieq (wand .i64 (ix (ix r.Mons (k:Int) mZ).Outer a sZ).Rights 2) 0;rw[q];cases ieq (wand .i64 (ix (ix r.Mons (k:Int) mZ).Outer a sZ).Rights 2) 0<;>rfl);rw[G];cases v:ieq (wand .i64 (ix (ix (zbP r (k:Int) a).Mons (k:Int) mZ).Outer a sZ).Rights 2) 0;{rfl};{have L:Shape {zbP r (k:Int) a with Mons:=up (zbP r (k:Int) a).Mons (k:Int) {ix (zbP r (k:Int) a).Mons (k:Int) mZ with Outer:=up (ix (zbP r (k:Int) a).Mons (k:Int) mZ).Outer a ⟨(ix (ix (zbP r (k:Int) a).Mons (k:Int) mZ).Outer a sZ).Page,3⟩}}:=(by obtain⟨D,E⟩:=zc3 w (zfL d);exact zkk w ⟨by simpa using D.1,D.2⟩ ⟨by simpa using E.1,E.2⟩);have O:∀(x y:Mon),hasB (k:Int) (ln<|up (up r.Mons (k:Int) x) (k:Int) y)=true:=λx y=>(by simpa [ln] using d);refine must rfl (must z<|shr<|must (zbs ⟨L,O _ _⟩) ?_);exact congrArg (λx=>some [AV.agg<|zbf x]) (zAn (h:=zbP r (k:Int) a) (p:=a) (s:=⟨(ix (ix (zbP r (k:Int) a).Mons (k:Int) mZ).Outer a sZ).Page,3⟩) t (by rw[m];exact u.2.2.2))}};{rfl});refine⟨0,?_⟩;unfold zHn zgr mended oN nB;conv=>zeta
 refine must (zB i) (must (zB<|zeu I.1 j) ?_);cases J:ieq (ix (ix c.Mons b mZ).Outer a sZ).Page (-1);{exact g c l.1 i (zban C.lo C.hi)};{obtain⟨v,K⟩:=zl2 (p:=a) l i j;exact must rfl (must (zbs ⟨l,i,j⟩)<|g _ v K (by rw[zUF l i j];rfl))}
theorem zUU:zb8 Tryz.prog 162 [true,true,true,true] zxB:=by refine ziV (zh7 zi0 zn zPZ zEO) (zkq (by kernel_rfl)) ?_;intro g a b j i f h;have d:=zmv f;unfold zxB at h;split at h;{obtain⟨e,rfl,rfl⟩:=zoF h;obtain⟨N,c⟩:=z1a _ _ _ _ (by exact d) e;exact⟨rfl,_,N,12,(z3W N _ _ _ _ ).trans c⟩};{cases h}
def z1t:zdk:=[(162,[true,true,true,true],zxB)]++z1r
theorem zbF:zcn z1t:=zcY zPZ (by
 intro x a;simp only[qG,qN,or_false]at a;rcases a with rfl
 .exact zUU)
def z2h:zgy:=[(349,[true,true,true,true,false,false,false],some (1,1,[[0],[1],[2],[4],[7]]),ztI)]++zW5
theorem zzd:zfa z2h:=zrT zEO (by
 intro x a;simp only[qG,qN,or_false]at a;rcases a with rfl
 .exact zLV)
theorem z0W {h:Host}(b:zb0 h=true):h.Memory.length=12:=by unfold zb0 at b;simp only[zdZ]at b;have a:=b.1;unfold zjP at a;simp only[zdZ]at a;have:ln h.Memory=12:=qD a.2;simp only[ln] at this;omega
theorem ziB {h:Host}(a:zb0 h=true):∀x∈h.Mons,zfF x=true:=by unfold zb0 at a;simp only[zdZ]at a;exact zzT _ _ a.2.2.2.2
theorem zI5 {x:Mon}(a:zfF x=true):ShM x:=by have e:=ztm (zop a);unfold zfF at a;simp only[zdZ]at a;have b:ln x.Tables=ln x.Guests:=qD a.2.1;have c:ln x.Out=8:=qD a.2.2.2.1;have d:ln x.Dirty=8:=qD a.2.2.2.2.1;simp only[ln] at *;exact⟨by omega,by omega,by omega,by omega⟩
theorem zfy {h:Host}(b:SmH h)(a:zb0 h=true):Fit h:=by refine⟨⟨b,λx c=>zI5 (ziB a x c)⟩,by rw[z0W a];decide,?_⟩;unfold zb0 at a;simp only[zdZ]at a;have:=zUZ _ _ rfl a.2.2.2.2;omega
theorem zuj {x:Mon}(b:zfF x=true){p:Int}(c:hasB p 8=true):SlotFit (ix x.Outer p sZ):=by have a:=zop b;unfold zdL at a;simp only[zdZ]at a;exact z18 (qM.1 a.1 _<|zbM (zeu (zI5 b).1 c) _)
theorem zXT {h:Host}{m p:Int}(a:Fit h)(c:hasB m (ln h.Mons)=true):Fit (zbP h m p):=by refine⟨zo7 a.1 c,a.2.1,?_⟩;obtain⟨k,rfl,b⟩:=zeG (n:=h.Mons.length) c;have:=zXC h.Mons k (ix h.Mons (k:Int) mZ) {ix h.Mons (k:Int) mZ with Dirty:=up (ix h.Mons (k:Int) mZ).Dirty p true} (by rw[zbu b];exact qB b);have d:=a.2.2;unfold zbP;simp only[up,kH];dsimp only at this;simp only[up] at this;omega
abbrev gZ:Guest:=Ty.dflt .guest
@[simp] abbrev zc2 (h:Host)(m:Int):Bool:=pc (zdP h)
@[simp] abbrev zdb (h:Host)(m:Int):Mon:=bif hasB m (ln h.Mons) then ix h.Mons m mZ else mZ
@[simp] abbrev zmI (h:Host)(m:Int):Bool:=hasB m (ln h.Mons)
def zG3:Run:=rF2 dH dI λb c=>(zc2 b c,[aT .mon<|zdb b c,aB<|zmI b c])
def zQC (N:Nat)(a:Host)(b:Int):OA:=
 let c:=ix a.Mons b zh; (oN (zbl b<|ln a.Mons)<|cond (nB<|zch b<|ln a.Mons) (some [aT .mon (⟨[],[],[],[],[],0,0,[],0⟩:Mon),aB false])<|oN (inb b<|ln a.Mons)<|oN (zl8 c)<|some [aT .mon<|zmJ c,aB true])
theorem zX7 (a:Host)(b:Int)(d:zc2 a b=true):∃N,zQC N a b=some [aT .mon<|zdb a b,aB<|zmI a b]:=by
 have e:=(zS a).1 (zK.1 d);refine⟨0,?_⟩;unfold zQC zdb zmI oN nB;conv=>zeta
 refine must rfl ?_;rw[show zch b (ln a.Mons)=hasB b (ln a.Mons) from rfl];cases c:hasB b (ln a.Mons);{rfl};{exact zci rfl (must (zB c) (must (zbs<|e.2.1.2 _<|zbM c _) rfl))}
theorem zR5:vP 91 zG3:=kF2 zi0 zn zbF zzd (zq []) zX7
def zcb (h:Host)(m g:Int):Bool:=bif zb0 h then (cond (hasB m<|ln h.Mons) (hasB g<|ln (ix h.Mons m mZ).Guests) false) else false
@[simp] abbrev zdu (h:Host)(m g:Int):Bool:=pc (zdP h)
@[simp] abbrev zkY (h:Host)(m g:Int):Bool:=zcb h m g
def zG6:Run:=rF3 dH dI dI λb c d=>(zdu b c d,[aB<|zkY b c d])
def zQW (N:Nat)(a:Host)(b c:Int):OA:=
 let d:=wsub .i64 (ln (ix a.Mons b zh).Guests) 1; (oN (zcs a)<|cond (zcm a) (oN (zM b 0<|wsub .i64 (ln a.Mons) 1)<|cond (zl b 0<|wsub .i64 (ln a.Mons) 1) (oN (inb b<|ln a.Mons)<|oN (zM c 0 d)<|some [aB<|zl c 0 d]) oF) oF)
theorem zYp (a:Host)(b c:Int)(f:zdu a b c=true):∃N,zQW N a b c=some [aB<|zkY a b c]:=by
 have e:=(zS a).1 (zK.1 f);refine⟨0,?_⟩;unfold zQW zkY zcb oN;conv=>zeta
 refine must rfl ?_;rw[show zcm a=zb0 a from rfl];cases g:zb0 a;{rfl};{rw [show zl b 0 (wsub .i64 (ln a.Mons) 1)=hasB b (ln a.Mons) from zrW e.2.1.1 b];refine must rfl (must rfl ?_);cases d:hasB b (ln a.Mons);{rfl};{have hg:(ix a.Mons b mZ).Guests.length<=1048576:=(e.2.1.2 _<|zbM d _).2.2.2.1.1;rw[show zl c 0 (wsub .i64 (ln (ix a.Mons b zh).Guests) 1)=hasB c (ln (ix a.Mons b mZ).Guests) from zrW hg c];exact must rfl (must (zB d) (must rfl rfl))}}
theorem zSq:vP 331 zG6:=kF3 zi0 zn zbF zzd (zq []) zYp
def zc6 (h:Host)(m:Int):Nat->Nat->List (List Int)
 | 0,_=>[]
 |n+1,i=>zc0 h m (i:Int)::zc6 h m n (i+1)
theorem zAa (h:Host)(m:Int):∀(n i:Nat),(zc6 h m n i).length=n
 | 0,_=>rfl
 |n+1,i=>by simp[zc6,zAa h m n]
def zC (h:Host)(m:Int):Bare:=bif hasB m (ln h.Mons) then ⟨zc6 h m 8 0,(ix h.Mons m mZ).Guests,(ix h.Mons m mZ).Outs,(ix h.Mons m mZ).Pending⟩ else ⟨[],[],[],0⟩
theorem zC4 {c:Type}(h:Host)(m:Int)(K:List (List Int)->Option c):∀(n i:Nat) (a:List (List Int)),a.length+n<=2147483648->
 goN (λi a b=>bif few (ln<|ap a [zc0 h m (i:Int)]) then b (ap a [zc0 h m (i:Int)]) else none) K n i a=K (a++zc6 h m n i)
 | 0,_,a,_=>by simp[goN,zc6]
 |n+1,i,a,d=>by simp only[goN,zc6];rw[zir (by simp[ap];omega),cT,zC4 h m K n (i+1) _ (by simp[ap];omega)];simp[ap]
@[simp] abbrev zc4 (h:Host)(m:Int):Bare:=zC h m
def z8E:zba:=[(91,zG3),(331,zG6)]++zr7
theorem zUv:zT z8E:=zi zR5 (zi zSq zi0)
def zmV:Run:=rF2 dH dI λb c=>(zc2 b c,[aT .bare<|zc4 b c])
def zJP (N:Nat)(b:Host)(c:Int):OA:=
 (oN (zc2 b c)<|cond (nB<|zmI b c) (some [aT .bare (⟨[],[],[],0⟩:Bare)])<|iter (σ:=(Int×Int×Int×Int×lM×lN×lE×lE×lM×lG×(List Int)×lM×lG×(List Int)×Unit)) N (λh a=>let g:=a.2.2.2.2.2.2.2.2.2.2.2.2.1;let f:=a.2.2.2.2.2.2.2.2.2.2.2.2.2.1;let d:=(⟨a.2.2.2.2.1,a.2.2.2.2.2.1,a.2.2.2.2.2.2.1,a.2.2.2.2.2.2.2.1⟩:Host);let e:=ap a.2.2.2.2.2.2.2.2.2.2.2.1 [zpk d a.1 a.2.1]; (cond (ilt a.2.1 8) (oN (zqK d a.1 a.2.1)<|oN (few<|ln e)<|h (a.1,zQ .i64 a.2.1 1,a.2.2.1,a.2.2.2.1,a.2.2.2.2.1,a.2.2.2.2.2.1,a.2.2.2.2.2.2.1,a.2.2.2.2.2.2.2.1,a.2.2.2.2.2.2.2.2.1,a.2.2.2.2.2.2.2.2.2.1,a.2.2.2.2.2.2.2.2.2.2.1,e,g,f,()))<|some [aT .bare (⟨a.2.2.2.2.2.2.2.2.2.2.2.1,g,f,a.2.2.2.1⟩:Bare)])) (c,0,0,(zdb b c).Pending,b.Memory,b.Mons,b.Buffer,b.IoBuffer,[],[],[],[],(zdb b c).Guests,(zdb b c).Outs,()))
def zXc:=zq [(33,0,{n:=39,tm:=[(1,ti),(2,.lp 0 0),(4,.lp 1 0),(7,.lp 2 0),(8,ti)],lo:=[(0,[.sl 0 [],.sl 1 [],.sl 2 [],.sl 3 []]),(1,[.sl 4 [],.sl 5 [],.sl 6 [],ti]),(2,[.sl 7 [],.sl 8 [],.sl 9 [],ti])],ro:=[(0,.sl .int,false),(1,.mon,false),(2,.entry,false),(3,.entry,false),(4,.sl .int,true),(5,.guest,true),(6,.int,true),(7,.sl .int,true),(8,.guest,true),(9,.int,true)]})]
theorem zVm (a:Host)(b:Int)(f:zc2 a b=true):∃N,zJP N a b=some [aT .bare<|zc4 a b]:=by
 have e:=zK.1 f;refine zcE λN d=>?_;unfold zJP zc4 zC oN nB;conv=>zeta
 refine must (zbs e) ?_;rw[show zmI a b=hasB b (ln a.Mons) from rfl];cases g:hasB b (ln a.Mons);{rfl};{refine zci rfl ?_;refine(zvn 8 (λi (t:lM)=>(b,(i:Int),0,(zdb a b).Pending,a.Memory,a.Mons,a.Buffer,a.IoBuffer,[],[],[],t,(zdb a b).Guests,(zdb a b).Outs,())) _ (λi (c:List (List Int)) j=>bif few (ln<|ap c [zc0 a b (i:Int)]) then j (ap c [zc0 a b (i:Int)]) else none) (λ(t:lM)=>some [.agg<|Ty.cells .bare (⟨t,(zdb a b).Guests,(zdb a b).Outs,(zdb a b).Pending⟩:Bare)]) (λi h t rec=>?_) (λt rec=>?_) _ ([])<|d (by decide)).trans ?_;{simp only [show ilt (i:Int) 8=true from qJ (by omega),zbj h (show 8<=big by decide),cT];exact must (zbs e) rfl};{simp only [show ilt ((8:Nat):Int) 8=false from qH (by omega),cF]};rw[zC4 a b _ 8 0 [] (by decide)];simp only[zdb,g,cT,jS]}
theorem zyp:vP 33 zmV:=kF2 zUv zn zbF zzd zXc zVm
theorem zYv:zc1 zAy=true:=by decide
theorem zZd {p:Nat->Bool}:∀{n i q:Nat},zpM p n i=true->i<=q->q<i+n->p q=true
 | 0,i,q,_,a,b=>by omega
 |n+1,i,q,h,a,b=>by simp only[zpM,qE]at h;by_cases c:i=q;{subst c;exact h.1};{exact zZd h.2 (by omega) (by omega)}
theorem z4j {h:Host}{m:Int}(e:zb0 h=true)(l:hasB m (ln h.Mons)=true){p:Int}(j:hasB p 8=true):zc1 (zc0 h m p)=true:=by have i:=ziB e _ (zbM l mZ);have s:=zI5 i;have f:h.Memory.all zc1=true:=(by unfold zb0 at e;simp only[zdZ]at e;have b:=e.1;unfold zjP at b;simp only[zdZ]at b;exact b.1);unfold zc0;rw[l,j];simp only[cT];have t:zbK (ix h.Mons m mZ).Outer p=ix (ix h.Mons m mZ).Outer p sZ:=(by unfold zbK;rw[zeu s.1 j];rfl);rw[t];have d:∀(g:List (List Int)) (q:Int),(hasB q (ln g)=true->zc1 (ix g q [])=true)->zc1 (zc5 g q)=true:=(by intro g q k;unfold zc5;cases b:hasB q (ln g);{exact zYv};{exact k b});cases c:ine (ix (ix h.Mons m mZ).Outer p sZ).Page (-1);{refine d _ _ (λk=>?_);obtain⟨q,rfl,u⟩:=zeG (n:=8) j;have a:fits (ix h.Mons m mZ) q=true:=(by unfold zfF at i;simp only[zdZ]at i;exact zZd i.2.2.2.2.2.2.2.2.2.2 (by omega) (by omega));unfold fits znB at a;have r:zdJ (ix (ix h.Mons m mZ).Outer (q:Int) sZ) noSlot=true:=(by rw[(zuj (ziB e _<|zbM l mZ) j).no];rw[zjA]at c;cases b:ieq (ix (ix h.Mons m mZ).Outer (q:Int) sZ).Page (-1);{rw [b]at c;cases c};{rfl});rw[r]at a;exact a};{exact d _ _ (λk=>qM.1 f _ (zbM k _))}
theorem zRB {h:Host}{m:Int}(a:zb0 h=true)(b:hasB m (ln h.Mons)=true):∀(n i:Nat),i+n<=8->(zc6 h m n i).all zc1=true
 | 0,_,_=>rfl
 |n+1,i,c=>by simp only[zc6,k5,qE];exact⟨z4j a b<|qJ (by omega),zRB a b n (i+1) (by omega)⟩
theorem zr4 {h:Host}{m:Int}(c:zb0 h=true)(b:hasB m (ln h.Mons)=true):zbY (zC h m)=true:=by have a:=ziB c _ (zbM b mZ);unfold zfF at a;simp only[zdZ]at a;unfold zC zbY zjP;rw[b];simp only[cT,a.2.2.2.2.2.2.2.2.2.1,zRB c b 8 0 (by decide),ln,zAa];simp only[ln]at a;rw[a.1,a.2.2.2.2.2.1,a.2.2.2.2.2.2.1];rfl
def zoG:zba:=[(33,zmV)]++z8E
theorem zi1:zT zoG:=zi zyp zUv
def zfk (l:List Mon):List (List Guest):=l.map λx=>x.Guests
theorem zzS {l:List Mon}{m:Int}{x:Mon}(b:hasB m (ln l)=true)(c:x.Guests=(ix l m mZ).Guests):zfk (up l m x)=zfk l:=by obtain⟨k,rfl,a⟩:=zeG (n:=l.length) b;unfold zfk up;rw[List.map_set,kH,c,zbu a];have:=@u3 _ (l.map λx=>x.Guests) k (by simpa using a);simpa using this
theorem zK2 {l b:List Mon}(h:zfk b=zfk l)(m:Int):(ix b m mZ).Guests=(ix l m mZ).Guests:=by unfold zfk at h;have a:(b.map λx=>x.Guests)[m.toNat]?=(l.map λx=>x.Guests)[m.toNat]?:=(by rw[h]);rw[qP,qP]at a;unfold ix;simp only[kA];cases c:b[m.toNat]? <;> cases d:l[m.toNat]? <;> rw [c,d]at a<;>simp at a ⊢;exact a
theorem zzR {h:Host}{m p:Int}{s:Slot}(a:hasB m (ln h.Mons)=true):zfk (zcI h m p s).Mons=zfk h.Mons:=by rw[(zhT h m p s).1];exact zzS a rfl
theorem zbau {h:Host}{m p:Int}(a:hasB m (ln h.Mons)=true):zfk (zeJ h m p).Mons=zfk h.Mons:=(zzR (h:=zga h m p)<|zfL a).trans (zzS a rfl)
theorem zbat {h:Host}(b:Fit h):zfk (zdX h).Mons=zfk h.Mons:=by unfold zdX;cases a:ieq (ln<|zcT h) 0;{rfl};{exact zbau (zEF b a).1}
theorem z0T {h:Host}{m p:Int}(a:Fit h)(c:hasB m (ln h.Mons)=true):zfk (fetched h m p).Mons=zfk h.Mons:=by have b:=zrK a c;exact((zzR (h:=landing (zdX h) m p (ix (zcT<|zdX h) 0 0))<|zfL b).trans (zzS b rfl)).trans (zbat a)
theorem zUN {h:Host}{m p n:Int}(b:hasB m (ln h.Mons)=true):zfk (zlo h m p n).Mons=zfk h.Mons:=by have a:zfk (zbP h m p).Mons=zfk h.Mons:=zzS b rfl;unfold zlo;cases ieq (wand .i64 n 2) 0;{unfold opened;cases ieq (wand .i64 (ix (ix (zbP h m p).Mons m mZ).Outer p sZ).Rights 2) 0;{exact a};{exact(zzR (h:=zbP h m p)<|zfL b).trans a}};{rfl}
theorem z3x {h:Host}{m p n:Int}(b:Fit h)(a:hasB m (ln h.Mons)=true)(c:hasB p 8=true):zfk (mended h m p n).Mons=zfk h.Mons:=by unfold mended;cases ieq (ix (ix h.Mons m mZ).Outer p sZ).Page (-1);{exact zUN a};{exact(zUN (zl2 b a c).2).trans (z0T b a)}
theorem zbbM {l a:List Mon}(h:zfk a=zfk l):a.length=l.length:=by have:=congrArg List.length h;simpa [zfk] using this
abbrev kZ:Kept:=Ty.dflt .kept
theorem zbcT {x:Guest}(f:zes x=true){p n:Int}(d:zfq x.Live p n=true):hasB (zcH x.Live p n) 8=true:=by have g:zdL x.Live 4 8=true:=(by unfold zes at f;simp only[qE]at f;exact f.2.2.2.2.1);unfold zcH;rw[d];simp only[cT];unfold zfq at d;cases a:ieq (zbK x.Live p).Page (-1);{unfold zbK at a ⊢;cases e:hasB p (ln x.Live);{rw [e]at a;cases a};{rw [e]at a;simp only[cT]at a ⊢;unfold zdL at g;simp only[zdZ]at g;have c:=qM.1 g.1 _ (zbM e sZ);unfold zeP at c;cases b:zdJ (ix x.Live p sZ) noSlot;{rw [b]at c;simp only[cF,zdZ]at c;have:=zfT.1 c.2.1;rw[show wsub .i64 8 1=7 from rfl] at this;show hasB (ix x.Live p sZ).Page 8=true;exact qJ (by omega)};{unfold zdJ at b;rw[qE]at b;have:(ix x.Live p sZ).Page = -1:=qD b.1;rw[show ieq (ix x.Live p zV).Page (-1)=true from qJ this]at a;cases a}}};{rw [a]at d;cases d}
def zcV (h:Host)(m g:Int):List Slot:=(ix (ix h.Mons m mZ).Guests g gZ).Live
def zco (h:Host)(m g:Int):Kept:=ix (ix h.Mons m mZ).Tables g kZ
def zt4 (h:Host)(a:Bool):List Entry:=bif a then h.IoBuffer else h.Buffer
def zsU (b:List Entry)(m g a:Int):Option Entry:=zzI b (zeW m g) a
def zjz (b:List Entry)(m g a c:Int):Bool:=bif (zsU b m g a).isSome then enough ((zsU b m g a).getD ⟨0,0,0,0⟩).Rights c else false
def zfo (h:Host)(m g a b:Int):Bool:=bif zlN (zco h m g) a then (cond (ieq (zeN (zco h m g) a).Page<|-1) true<|!enough (zeN (zco h m g) a).Rights b) else true
def zcW (h:Host)(m g a:Int):Host:={h with Mons:=up h.Mons m {ix h.Mons m mZ with Tables:=up (ix h.Mons m mZ).Tables g (filled (zco h m g) (zcV h m g) (ix h.Mons m mZ).Outer a)}}
def zTI (h:Host)(m g a:Int):Entry:=⟨zeW m g,a,(zeN (zco h m g) a).Page,(zeN (zco h m g) a).Rights⟩
def zwQ (h:Host)(m g a:Int)(b:Bool):Host:=bif b then {h with IoBuffer:=zqa h.IoBuffer (zTI h m g a)} else {h with Buffer:=zqa h.Buffer (zTI h m g a)}
def zfB (h:Host)(m g a:Int)(b:Bool):Host×Int×Bool:=(zwQ h m g a b,(zeN (zco h m g) a).Page,true)
def zhw (h:Host)(b:List Entry)(m g a c q:Int)(d:Bool):Host×Int×Bool :=
 bif zjz b m g a c then (h,((zsU b m g a).getD ⟨0,0,0,0⟩).Host,true)
 else (cond (zfo h m g a c) (zfB (zcW (mended h m q c) m g a) m g a d)<|zfB h m g a d)
def zhd (a:Int):Bool:=bif ieq a 1 then true else ieq a 2
def zb1 (h:Host)(m g page need:Int):Bool:=bif zcb h m g then (cond (zhd need) (zfq (zcV h m g) page need) false) else false
def lookOf (h:Host)(b:List Entry)(m g page need:Int)(io:Bool):Host×Int×Bool :=
 bif zb1 h m g page need then zhw (cond (ieq need 2) (zbP h m<|zcH (zcV h m g) page need) h) b m g page need (zcH (zcV h m g) page need) io else (h,-1,false)
structure Kp (h r:Host):Prop where
 shape:Shape r
 gs:zfk r.Mons=zfk h.Mons
theorem Kp.has {h r:Host}(k:Kp h r){m:Int}(a:hasB m (ln h.Mons)=true):hasB m (ln r.Mons)=true:=by rw[ln,zbbM k.gs];exact a
theorem z14 {h:Host}{m g c:Int}(d:Shape h)(e:hasB m (ln h.Mons)=true)(hg:hasB g (ln (ix h.Mons m mZ).Guests)=true):Shape (zcW h m g c):=by obtain⟨a,b⟩:=zc3 d e;have f:hasB g (ln (ix h.Mons m mZ).Tables)=true:=(by rw[ln,b.2.2.2];exact hg);exact zkk d ⟨a.1,a.2.1,a.2.2.1,a.2.2.2.1,a.2.2.2.2.1,zuN a.2.2.2.2.2<|z2a<|a.2.2.2.2.2.2 _<|zbM f _⟩ ⟨b.1,b.2.1,b.2.2.1,by simpa using b.2.2.2⟩
theorem z3F {h r:Host}{m g a:Int}{i:Bool}(k:Kp h r):Kp h (zwQ r m g a i):=by obtain⟨⟨b,c,d,e⟩,f⟩:=k.shape;unfold zwQ;cases i;{exact⟨⟨⟨b,c,(zvC _ d).1,e⟩,f⟩,k.gs⟩};{exact⟨⟨⟨b,c,d,(zvC _ e).1⟩,f⟩,k.gs⟩}
structure LookAt (h:Host) (m g q need:Int):Prop where
 fit:Fit h
 hm:hasB m (ln h.Mons)=true
 hg:hasB g (ln (ix h.Mons m mZ).Guests)=true
 hq:hasB q 8=true
 hn:need=1\/need=2
 hs:SlotFit (ix (ix h.Mons m mZ).Outer q sZ)
theorem LookAt.mend {h:Host}{m g q a:Int}(A:LookAt h m g q a):z2q h m q a:=⟨A.fit,A.hm,A.hq,A.hn,A.hs⟩
theorem LookAt.kp {h:Host}{m g q a:Int}(A:LookAt h m g q a):Kp h (mended h m q a):=⟨(zvS A.fit A.hm A.hq).1,z3x A.fit A.hm A.hq⟩
theorem LookAt.fill {h:Host}{m g q a:Int}(A:LookAt h m g q a)(b:Int):Kp h (zcW (mended h m q a) m g b):=by have k:=A.kp;have hg:hasB g (ln (ix (mended h m q a).Mons m mZ).Guests)=true:=(by rw[zK2 k.gs];exact A.hg);have e:zfk (zcW (mended h m q a) m g b).Mons=zfk (mended h m q a).Mons:=zzS (k.has A.hm) rfl;exact⟨z14 k.shape (k.has A.hm) hg,e.trans k.gs⟩
theorem zU5 {h:Host}{b:List Entry}{m g page a q:Int}{io:Bool}(A:LookAt h m g q a):Kp h (zhw h b m g page a q io).1:=by unfold zhw;cases zjz b m g page a;{cases zfo h m g page a;{exact z3F ⟨A.fit.1,rfl⟩};{exact z3F (A.fill page)}};{exact⟨A.fit.1,rfl⟩}
theorem zdH {h:Host}{m g:Int}(a:zcb h m g=true):zb0 h=true/\hasB m (ln h.Mons)=true/\hasB g (ln (ix h.Mons m mZ).Guests)=true:=by unfold zcb at a;simp only[zdZ]at a;exact a
theorem z0U {h:Host}{m g:Int}(e:zcb h m g=true):zes (ix (ix h.Mons m mZ).Guests g gZ)=true:=by obtain⟨b,c,d⟩:=zdH e;have a:=ziB b _ (zbM c mZ);unfold zfF at a;simp only[zdZ]at a;exact qM.1 a.2.2.2.2.2.2.2.2.2.1 _ (zbM d _)
theorem zMz {n:Int}(h:zhd n=true):n=1\/n=2:=by unfold zhd at h;cases a:ieq n 1;{rw [a]at h;exact .inr (qD h)};{exact .inl (qD a)}
theorem zDD {h:Host}{m g page a:Int}(s:SmH h)(d:zb1 h m g page a=true) :
 LookAt h m g (zcH (zcV h m g) page a) a/\LookAt (zbP h m<|zcH (zcV h m g) page a) m g (zcH (zcV h m g) page a) a:=by
 unfold zb1 at d;simp only[zdZ]at d;obtain⟨l,p,r⟩:=d;obtain⟨i,b,j⟩:=zdH l;have f:hasB (zcH (zcV h m g) page a) 8=true:=zbcT (z0U l) r;have c:=zuj (ziB i _<|zbM b mZ) f;have q:=zfy s i;refine⟨⟨q,b,j,f,zMz p,c⟩,⟨zXT q b,zfL b,?_,f,zMz p,?_⟩⟩
 .have e:zfk (zbP h m<|zcH (zcV h m g) page a).Mons=zfk h.Mons:=zzS b rfl;rw[zK2 e];exact j
 .obtain⟨k,rfl,hk⟩:=zeG (n:=h.Mons.length) b;unfold zbP;rw[zd6 hk];exact c
theorem zuH {h:Host}{b:List Entry}{m g page need:Int}{io:Bool}(a:SmH h)(f:zcb h m g=true):Kp h (lookOf h b m g page need io).1:=by have d:=zfy a (zdH f).1;unfold lookOf;cases c:zb1 h m g page need;{exact⟨d.1,rfl⟩};{obtain⟨A,B⟩:=zDD a c;simp only[cT];cases ieq need 2;{exact zU5 A};{have k:=zU5 (b:=b) (page:=page) (io:=io) B;have e:zfk (zbP h m<|zcH (zcV h m g) page need).Mons=zfk h.Mons:=zzS A.hm rfl;exact⟨k.shape,k.gs.trans e⟩}}
def zlq (x:Host×Int×Bool):List AV:=[.agg<|zbf x.1,.one<|.i .i64 x.2.1,.one<|.b x.2.2]
theorem ziW {h:Host}{b:List Entry}{m g c a:Int}{e:Bool}(d:zb1 h m g c a=false):lookOf h b m g c a e=(h,-1,false):=by unfold lookOf;rw[d];rfl
theorem zpy {h:Host}{m g b a:Int}(c:zcb h m g=false):zb1 h m g b a=false:=by unfold zb1;rw[c];rfl
theorem zNU {h:Host}{m g:Int}(a:zb0 h=false):zcb h m g=false:=by unfold zcb;rw[a];rfl
theorem zNV {h:Host}{m g:Int}(a:hasB m (ln h.Mons)=false):zcb h m g=false:=by unfold zcb;rw[a];cases zb0 h<;>rfl
theorem zNW {h:Host}{m g:Int}(a:hasB g (ln (ix h.Mons m mZ).Guests)=false):zcb h m g=false:=by unfold zcb;rw[a];cases zb0 h<;>cases hasB m (ln h.Mons)<;>rfl
theorem zNX {h:Host}{m g:Int}(a:zb0 h=true)(b:hasB m (ln h.Mons)=true)(c:hasB g (ln (ix h.Mons m mZ).Guests)=true):zcb h m g=true:=by unfold zcb;rw[a,b,c];rfl
structure LookF (r:Host) (m g:Int):Prop where
 hm:hasB m (ln r.Mons)=true
 hg:hasB g (ln (ix r.Mons m mZ).Guests)=true
 ht:hasB g (ln (ix r.Mons m mZ).Tables)=true
 hk:SmK (zco r m g)
 hb:r.Buffer.length<=1048576
 hi:r.IoBuffer.length<=1048576
theorem znz {h r:Host}{m g:Int}(k:Kp h r)(b:hasB m (ln h.Mons)=true)(hg:hasB g (ln (ix h.Mons m mZ).Guests)=true):LookF r m g:=by obtain⟨d,e⟩:=zc3 k.shape (k.has b);have a:hasB g (ln (ix r.Mons m mZ).Guests)=true:=(by rw[zK2 k.gs];exact hg);have c:hasB g (ln (ix r.Mons m mZ).Tables)=true:=(by rw[ln,e.2.2.2];exact a);exact⟨k.has b,a,c,d.2.2.2.2.2.2 _<|zbM c _,k.shape.1.2.2.1,k.shape.1.2.2.2⟩
@[simp] abbrev zmf (h:Host)(b:List Entry)(m g c a:Int)(d:Bool):Bool:=pc (zdP h)
@[simp] abbrev zgI (h:Host)(b:List Entry)(m g page need:Int)(io:Bool):Host:=(lookOf h b m g page need io).1
@[simp] abbrev zme (h:Host)(b:List Entry)(m g c a:Int)(d:Bool):Int:=(lookOf h b m g c a d).2.1
@[simp] abbrev ziO (h:Host)(b:List Entry)(m g c a:Int)(d:Bool):Bool:=(lookOf h b m g c a d).2.2
def ztK:List AV->Option (Bool×List AV)
 |[.agg [.s (.sl .int) c,.s .mon d,.s .entry e,.s .entry f],.one<|.s .entry g,.one<|.i .i64 h,.one<|.i .i64 j,.one<|.i .i64 k,.one<|.i .i64 l,.one<|.b m]=>some (zmf (⟨c,d,e,f⟩:Host) g h j k l m,[aH<|zgI (⟨c,d,e,f⟩:Host) g h j k l m,aI<|zme (⟨c,d,e,f⟩:Host) g h j k l m,aB<|ziO (⟨c,d,e,f⟩:Host) g h j k l m])
 |_=>none
abbrev zRU (b:lM)(c:lN)(d:lE)(e:lE)(a:Int)(g:Int)(f:Int):Mon :=
 (ix (zgr (⟨b,c,d,e⟩:Host) a g f).Mons a zh)
abbrev zRV (a:Host)(b c:Int)(d e:Int):Int :=
 (zfr (ix (ix a.Mons b zh).Guests c zy).Live d e)
def zNE (N:Nat)(a:Int)(b:lM)(c:lN)(d:lE)(e:lE):OA:=
 (some [aH (⟨b,c,d,e⟩:Host),aI a,aB true])
def zrn (N:Nat)(l:Int)(m:Bool)(n:Int)(c:Int)(d:Int)(k:lM)(e:lN)(a:lE)(b:lE)(f:lM)(g:lN)(h:lE)(i:lE):OA:=
 let q:=(⟨n,l,c,d⟩:Entry); (share (λ(j:(Int×Int×lM×lN×lE×lE×lM×lN×lE×lE×Unit))=>zNE N j.1 j.2.2.1 j.2.2.2.1 j.2.2.2.2.1 j.2.2.2.2.2.1) λp=>cond m (oN (zh0 b q)<|p (c,d,k,e,a,zhE b q,f,g,h,i,()))<|oN (zh0 a q)<|p (c,d,k,e,zhE a q,b,f,g,h,i,()))
def ztx (N:Nat)(d:lM)(e:lN)(f:lE)(g:lE)(b:Int)(i:Int)(h:Int)(a:Int)(c:Int)(y:(Int×Bool×Int×Int×Int×Int×Int×Int×Int×lM×lN×lE×lE×lM×lN×lE×lE×Unit)->OA)(r:Bool)(s:Int)(t:Int)(u:Int)(v:Int)(k:Int)(l:lM)(m:lN)(n:lE)(p:lE):OA:=
 let D:=(⟨d,e,f,g⟩:Host);let w:=zgr D b i h;let x:=inb b<|ln w.Mons;let j:=zRU d e f g b i h;let C:=ix j.Tables a zeL;let A:=(ix j.Guests a zy).Live; (oN (zgG D b i h)<|oN x<|oN x<|oN (inb a<|ln j.Tables)<|oN x<|oN (inb a<|ln j.Guests)<|oN x<|oN (zvJ C A j.Outer c)<|oN (inb a<|ln j.Tables)<|share (up w.Mons b ({j with Tables:=(up j.Tables a<|zvI C A j.Outer c)}:Mon)) (λq=>let B:=(ix q b zh).Tables;let z:=ix B a zeL; (oN (inb b<|ln q)<|oN (inb a<|ln B)<|oN (zc8 z c)<|y (c,r,s,t,u,v,k,(zjE z c).Page,(zjE z c).Rights,w.Memory,q,w.Buffer,w.IoBuffer,l,m,n,p,()))))
def znj (N:Nat)(d:Int)(e:Int)(c:Int)(n:Int)(p:Bool)(v:Int)(q:Int)(r:Int)(s:Int)(t:Int)(f:Int)(g:lM)(b:lN)(h:lE)(i:lE)(j:lM)(k:lN)(l:lE)(m:lE):OA:=
 let z:=(ix b d zh).Tables;let x:=ix z e zeL;let w:=zjE x c; (oN (inb d<|ln b)<|oN (inb e<|ln z)<|oN (zc8 x c)<|share (λ(a:(Int×Bool×Int×Int×Int×Int×Int×Int×Int×lM×lN×lE×lE×lM×lN×lE×lE×Unit))=>zrn N a.1 a.2.1 a.2.2.1 a.2.2.2.2.2.2.2.1 a.2.2.2.2.2.2.2.2.1 a.2.2.2.2.2.2.2.2.2.1 a.2.2.2.2.2.2.2.2.2.2.1 a.2.2.2.2.2.2.2.2.2.2.2.1 a.2.2.2.2.2.2.2.2.2.2.2.2.1 a.2.2.2.2.2.2.2.2.2.2.2.2.2.1 a.2.2.2.2.2.2.2.2.2.2.2.2.2.2.1 a.2.2.2.2.2.2.2.2.2.2.2.2.2.2.2.1 a.2.2.2.2.2.2.2.2.2.2.2.2.2.2.2.2.1) (λu=>let y:=ztx N g b h i d v n e c u p q r s t f j k l m; (cond (nB<|zpA x c) y<|cond (ieq w.Page<|-1) y<|oN (zbl w.Rights n)<|cond (nB<|zdr w.Rights n) y<|u (c,p,q,r,s,t,f,w.Page,w.Rights,g,b,h,i,j,k,l,m,()))))
def zty (N:Nat)(g:Int)(a:Host)(h e f:Int)(l:lE)(n:Bool):OA:=
 let i:=zkS g h;let k:=zRV a g h e f;let m:=ix a.Mons g zh;let s:=(ix m.Guests h zy).Live;let d:=zg7 l i e;let j:=d.Rights; (oN (inb g<|ln a.Mons)<|oN (inb h<|ln m.Guests)<|oN (zih s e f)<|cond (nB<|zeY s e f) (some [aH a,aI<|-1,aB false])<|oN (zh2 g h)<|cond (ieq f 2) (oN (inb g<|ln a.Mons)<|oN (inb k<|ln m.Dirty)<|share (up a.Mons g ({m with Dirty:=(up m.Dirty k true)}:Mon)) λp=>oN (zim l i e)<|share (λ(c:(Int×Int×Int×Int×Bool×Int×Int×Int×Int×Int×Int×lM×lN×lE×lE×lM×lN×lE×lE×Unit))=>znj N c.1 c.2.1 c.2.2.1 c.2.2.2.1 c.2.2.2.2.1 c.2.2.2.2.2.1 c.2.2.2.2.2.2.1 c.2.2.2.2.2.2.2.1 c.2.2.2.2.2.2.2.2.1 c.2.2.2.2.2.2.2.2.2.1 c.2.2.2.2.2.2.2.2.2.2.1 c.2.2.2.2.2.2.2.2.2.2.2.1 c.2.2.2.2.2.2.2.2.2.2.2.2.1 c.2.2.2.2.2.2.2.2.2.2.2.2.2.1 c.2.2.2.2.2.2.2.2.2.2.2.2.2.2.1 c.2.2.2.2.2.2.2.2.2.2.2.2.2.2.2.1 c.2.2.2.2.2.2.2.2.2.2.2.2.2.2.2.2.1 c.2.2.2.2.2.2.2.2.2.2.2.2.2.2.2.2.2.1 c.2.2.2.2.2.2.2.2.2.2.2.2.2.2.2.2.2.2.1) λr=>cond (zgc l i e) (oN (zbl j f)<|cond (zdr j f) (some [aH ({a with Mons:=p}:Host),aI d.Host,aB true])<|r (g,h,e,f,n,k,i,d.Tag,d.Page,d.Host,j,a.Memory,p,a.Buffer,a.IoBuffer,[],[],[],[],()))<|r (g,h,e,f,n,k,i,d.Tag,d.Page,d.Host,j,a.Memory,p,a.Buffer,a.IoBuffer,[],[],[],[],()))<|oN (zim l i e)<|share (λ(b:(Int×Int×Int×Int×Bool×Int×Int×Int×Int×Int×Int×lM×lN×lE×lE×lM×lN×lE×lE×Unit))=>znj N b.1 b.2.1 b.2.2.1 b.2.2.2.1 b.2.2.2.2.1 b.2.2.2.2.2.1 b.2.2.2.2.2.2.1 b.2.2.2.2.2.2.2.1 b.2.2.2.2.2.2.2.2.1 b.2.2.2.2.2.2.2.2.2.1 b.2.2.2.2.2.2.2.2.2.2.1 b.2.2.2.2.2.2.2.2.2.2.2.1 b.2.2.2.2.2.2.2.2.2.2.2.2.1 b.2.2.2.2.2.2.2.2.2.2.2.2.2.1 b.2.2.2.2.2.2.2.2.2.2.2.2.2.2.1 b.2.2.2.2.2.2.2.2.2.2.2.2.2.2.2.1 b.2.2.2.2.2.2.2.2.2.2.2.2.2.2.2.2.1 b.2.2.2.2.2.2.2.2.2.2.2.2.2.2.2.2.2.1 b.2.2.2.2.2.2.2.2.2.2.2.2.2.2.2.2.2.2.1) λq=>cond (zgc l i e) (oN (zbl j f)<|cond (zdr j f) (some [aH a,aI d.Host,aB true])<|q (g,h,e,f,n,k,i,d.Tag,d.Page,d.Host,j,a.Memory,a.Mons,a.Buffer,a.IoBuffer,[],[],[],[],()))<|q (g,h,e,f,n,k,i,d.Tag,d.Page,d.Host,j,a.Memory,a.Mons,a.Buffer,a.IoBuffer,[],[],[],[],()))
def zrY (N:Nat)(a:Host)(g:lE)(b c:Int)(h d:Int)(i:Bool):OA:=
 let f:=zty N b a c h d g i;let e:=wsub .i64 (ln (ix a.Mons b zh).Guests) 1; (oN (zcs a)<|cond (nB<|zcm a) (some [aH a,aI<|-1,aB false])<|oN (zM b 0<|wsub .i64 (ln a.Mons) 1)<|cond (nB<|zl b 0<|wsub .i64 (ln a.Mons) 1) (some [aH a,aI<|-1,aB false])<|oN (inb b<|ln a.Mons)<|oN (zM c 0 e)<|cond (nB<|zl c 0 e) (some [aH a,aI<|-1,aB false])<|cond (ine d 1) (cond (ine d 2) (some [aH a,aI<|-1,aB false]) f) f)
def ztT:=zq [(353,999999,{n:=0,tm:=[],lo:=[],ro:=[]}),(353,1007023,{n:=210,tm:=[(2,ti),(3,ti),(4,ti),(5,ti),(6,.b),(7,.lp 0 0),(14,.lp 1 0),(17,ti),(19,ti),(20,.lp 2 0)],lo:=[(0,[.sl 0 [],.sl 1 [],.sl 2 [],.sl 3 []]),(1,[.sl 4 [],.sl 5 [],.sl 6 [],.sl 7 []]),(2,[ti,ti,ti,ti])],ro:=[(0,.sl .int,true),(1,.mon,true),(2,.entry,true),(3,.entry,true),(4,.sl .int,true),(5,.mon,true),(6,.entry,true),(7,.entry,true)],kr:=1}),(353,1009011,{n:=210,tm:=[(4,ti),(6,.b),(7,.lp 0 0),(14,.lp 1 0),(19,ti),(20,.lp 2 0),(22,.lp 3 0)],lo:=[(0,[.sl 0 [],.sl 1 [],.sl 2 [],.sl 3 []]),(1,[.sl 4 [],.sl 5 [],.sl 6 [],.sl 7 []]),(2,[ti,ti,ti,ti]),(3,[ti,ti])],ro:=[(0,.sl .int,true),(1,.mon,true),(2,.entry,true),(3,.entry,true),(4,.sl .int,true),(5,.mon,true),(6,.entry,true),(7,.entry,true)],kr:=1}),(353,1005003,{n:=210,tm:=[(7,.lp 0 0),(14,.lp 1 0),(22,.lp 2 0)],lo:=[(0,[.sl 0 [],.sl 1 [],.sl 2 [],.sl 3 []]),(1,[.sl 4 [],.sl 5 [],.sl 6 [],.sl 7 []]),(2,[ti,ti])],ro:=[(0,.sl .int,true),(1,.mon,true),(2,.entry,true),(3,.entry,true),(4,.sl .int,true),(5,.mon,true),(6,.entry,true),(7,.entry,true)],kr:=1})]
theorem zPU (N:Nat)(a:Host)(b c:Int)(d e:Int)(f:Bool):zTJ (cQ zoG zp3 z1t z2h) ztT N 12 353 [true,true,true,true,false,false,false,false,false,false] [(4,2)] 1 1 [[0],[1],[2],[4],[7]] .mon [aH a,aS .entry a.Buffer,aI b,aI c,aI d,aI e,aB f]=zrY N a a.Buffer b c d e f:=by kernel_rfl
theorem zPV (N:Nat)(a:Host)(b c:Int)(d e:Int)(f:Bool):zTJ (cQ zoG zp3 z1t z2h) ztT N 12 353 [true,true,true,true,false,false,false,false,false,false] [(4,3)] 1 1 [[0],[1],[2],[4],[7]] .mon [aH a,aS .entry a.IoBuffer,aI b,aI c,aI d,aI e,aB f]=zrY N a a.IoBuffer b c d e f:=by kernel_rfl
theorem zEu {N:Nat}{r:Host}{m g a:Int}{b:Bool}{z1 z2 z3 z4}(c:r.Buffer.length<=1048576)(d:r.IoBuffer.length<=1048576) :
 zrn N a b (zeW m g) (zeN (zco r m g) a).Page (zeN (zco r m g) a).Rights r.Memory r.Mons r.Buffer r.IoBuffer z1 z2 z3 z4=some (zlq<|zfB r m g a b):=by
 unfold zrn oN
 conv=>zeta
 refine shr ?_;cases b
 .exact zci rfl (must (zbs c) rfl)
 .exact must rfl (must (zbs d) rfl)
theorem zUG {N:Nat}{r:Host}{m g a b q:Int}{c:Bool}{R:OA}{r11}{u6 u7 u8 u9 u10 z1 z2 z3 z4}(A:LookAt r m g q b)(d:r11 (a,c,u6,u7,u8,u9,u10,(zeN (zco (zcW (mended r m q b) m g a) m g) a).Page,(zeN (zco (zcW (mended r m q b) m g a) m g) a).Rights,(zcW (mended r m q b) m g a).Memory,(zcW (mended r m q b) m g a).Mons,(zcW (mended r m q b) m g a).Buffer,(zcW (mended r m q b) m g a).IoBuffer,z1,z2,z3,z4,())=R) :
 ztx N r.Memory r.Mons r.Buffer r.IoBuffer m q b g a r11 c u6 u7 u8 u9 u10 z1 z2 z3 z4=R:=by
 have M:=znz A.kp A.hm A.hg;have F:=znz (A.fill a) A.hm A.hg;unfold ztx oN
 conv=>zeta
 exact must (zbs A.mend) (must (zB M.hm)<|must (zB M.hm)<|must (zB M.ht)<|must (zB M.hm)<|must (zB M.hg)<|must (zB M.hm)<|must (zbs M.hk)<|must (zB M.ht)<|shr<|must (zB F.hm)<|must (zB F.ht)<|must (zbs F.hk) d)
theorem zZU {r:Host}{m g a b:Int}(h:zlN (zco r m g) a=false):zfo r m g a b=true:=by unfold zfo;rw[h];rfl
theorem zZV {r:Host}{m g a b:Int}(h:ieq (zeN (zco r m g) a).Page (-1)=true):zfo r m g a b=true:=by unfold zfo;rw[h];cases zlN (zco r m g) a<;>rfl
theorem zZW {r:Host}{m g a b:Int}(h:enough (zeN (zco r m g) a).Rights b=false):zfo r m g a b=true:=by unfold zfo;rw[h];cases zlN (zco r m g) a<;>cases ieq (zeN (zco r m g) a).Page (-1)<;>rfl
theorem zZX {r:Host}{m g a b:Int}(c:zlN (zco r m g) a=true)(d:ieq (zeN (zco r m g) a).Page (-1)=false)(e:enough (zeN (zco r m g) a).Rights b=true):zfo r m g a b=false:=by unfold zfo;rw[c,d,e];rfl
theorem zuI {r:Host}{m g a b q:Int}{c:Bool}(h:zfo r m g a b=true):(cond (zfo r m g a b) (zfB (zcW (mended r m q b) m g a) m g a c)<|zfB r m g a c)=zfB (zcW (mended r m q b) m g a) m g a c:=by rw[h];rfl
theorem zZz {r:Host}{m g a b q:Int}{c:Bool}(h:zfo r m g a b=false):(cond (zfo r m g a b) (zfB (zcW (mended r m q b) m g a) m g a c)<|zfB r m g a c)=zfB r m g a c:=by rw[h];rfl
theorem zEv {N:Nat}{r:Host}{m g a b q:Int}{f:Bool}{u7 u8 u9 u10 z1 z2 z3 z4}(A:LookAt r m g q b) :
 znj N m g a b f q (zeW m g) u7 u8 u9 u10 r.Memory r.Mons r.Buffer r.IoBuffer z1 z2 z3 z4=some (zlq<|cond (zfo r m g a b) (zfB (zcW (mended r m q b) m g a) m g a f)<|zfB r m g a f):=by
 have M:=znz ⟨A.fit.1,rfl⟩ A.hm A.hg;have F:=znz (A.fill a) A.hm A.hg;unfold znj oN nB
 conv=>zeta
 refine must (zB M.hm) (must (zB M.ht)<|must (zbs M.hk)<|shr<|brN (λc=>?_) λc=>br (λd=>?_) λd=>must rfl (brN (λe=>?_) λe=>?_))
 .rw [zuI<|zZU c];exact zUG A (zEu (r:=zcW (mended r m q b) m g a) (m:=m) (g:=g) F.hb F.hi)
 .rw [zuI<|zZV d];exact zUG A (zEu (r:=zcW (mended r m q b) m g a) (m:=m) (g:=g) F.hb F.hi)
 .rw [zuI<|zZW e];exact zUG A (zEu (r:=zcW (mended r m q b) m g a) (m:=m) (g:=g) F.hb F.hi)
 .rw [zZz<|zZX c d e];exact zEu (r:=r) (m:=m) (g:=g) M.hb M.hi
theorem zEy {b:List Entry}{m g a c:Int}(h:(zsU b m g a).isSome=false):zjz b m g a c=false:=by unfold zjz;rw[h];rfl
theorem zpu {b:List Entry}{m g a c:Int}{x:Bool}(d:(zsU b m g a).isSome=true)(h:enough ((zsU b m g a).getD ⟨0,0,0,0⟩).Rights c=x):zjz b m g a c=x:=by unfold zjz;rw[d,h];rfl
theorem zpx {r:Host}{b:List Entry}{m g a c q:Int}{d:Bool}(h:zjz b m g a c=false):zhw r b m g a c q d=bif zfo r m g a c then zfB (zcW (mended r m q c) m g a) m g a d else zfB r m g a d:=by unfold zhw;rw[h];rfl
theorem zEC {r:Host}{b:List Entry}{m g a c q:Int}{d:Bool}(h:zjz b m g a c=true):zhw r b m g a c q d=(r,((zsU b m g a).getD ⟨0,0,0,0⟩).Host,true):=by unfold zhw;rw[h];rfl
theorem zI4 {h:Host}{b:List Entry}{m g c a:Int}{d:Bool}(e:zb1 h m g c a=true):lookOf h b m g c a d=zhw (cond (ieq a 2) (zbP h m<|zcH (zcV h m g) c a) h) b m g c a (zcH (zcV h m g) c a) d:=by unfold lookOf;rw[e];rfl
theorem z3l {N:Nat}{r:Host}{b:List Entry}{m g c a:Int}{f:Bool}(p:SmH r)(hg:zcb r m g=true)(k:zhd a=true) :
 zty N m r g c a b f=some (zlq (lookOf r b m g c a f)):=by
 obtain⟨q,h,l⟩:=zdH hg;unfold zty oN nB
 conv=>zeta
 refine must (zB h) (must (zB l) (must rfl (brN (fun j=>?_) (fun j=>must rfl ?_))))
 .have:zb1 r m g c a=false:=by
   unfold zb1;rw[hg,k,show zfq (zcV r m g) c a=false from j];rfl
  rw[ziW this];rfl
 .have hl:zb1 r m g c a=true:=by
   unfold zb1;rw[hg,k,show zfq (zcV r m g) c a=true from j];rfl
  obtain⟨A,B⟩:=zDD p hl;rw[zI4 hl];have n:hasB (zcH (zcV r m g) c a) (ln (ix r.Mons m mZ).Dirty)=true:=zeu (zc3 A.fit.1 h).2.2.2.1 A.hq;refine br (fun i=>?_) (fun i=>?_)
  .rw [i]
   show _=some (zlq (zhw (zbP r m (zcH (zcV r m g) c a)) b m g c a (zcH (zcV r m g) c a) f))
   refine must (zB h) (must (zB n) (shr (must rfl (shr (br (fun d=>must rfl (br (fun e=>?_) (fun e=>?_))) (fun d=>?_))))))
   .rw [zEC (zpu d e)];rfl
   .rw [zpx (zpu d e)];exact zEv (r:=zbP r m (zcH (zcV r m g) c a)) B
   .rw [zpx (zEy d)];exact zEv (r:=zbP r m (zcH (zcV r m g) c a)) B
  .rw [i]
   show _=some (zlq (zhw r b m g c a (zcH (zcV r m g) c a) f))
   refine must rfl (shr (br (fun d=>must rfl (br (fun e=>?_) (fun e=>?_))) (fun d=>?_)))
   .rw [zEC (zpu d e)];rfl
   .rw [zpx (zpu d e)];exact zEv A
   .rw [zpx (zEy d)];exact zEv A
theorem zTe (a:Host)(f:List Entry)(b c:Int)(e d:Int)(g:Bool)(t:zbR big [aH a,aS .entry f,aI b,aI c,aI e,aI d,aB g])(r:zmf a f b c e d g=true):∃N,zrY N a f b c e d g=some [aH<|zgI a f b c e d g,aI<|zme a f b c e d g,aB<|ziO a f b c e d g]:=by
 have j:=(zS a).1 (zK.1 r);refine⟨0,?_⟩;show _=some (zlq<|lookOf a f b c e d g);unfold zrY oN nB;conv=>zeta
 refine must rfl (brN (λk=>?_) λk=>must rfl ?_);{rw [ziW<|zpy<|zNU k];rfl};rw[show zl b 0 (wsub .i64 (ln a.Mons) 1)=hasB b (ln a.Mons) from zrW j.2.1.1 b];refine brN (λi=>?_) (λi=>must (zB i) (must rfl ?_));{rw [ziW<|zpy<|zNV i];rfl};have s:(ix a.Mons b mZ).Guests.length<=1048576:=(j.2.1.2 _<|zbM i _).2.2.2.1.1;rw[show zl c 0 (wsub .i64 (ln (ix a.Mons b zh).Guests) 1)=hasB c (ln (ix a.Mons b mZ).Guests) from zrW s c];refine brN (λl=>?_) (λl=>?_);{rw [ziW<|zpy<|zNW l];rfl};have hg:=zNX k i l;have p:∀{n:Int},zhd n=false->zb1 a b c e n=false:=λ{n} h=>(by unfold zb1;rw[hg,h];rfl);rw[zjA,zjA];cases m:ieq d 1;{cases q:ieq d 2;{have:zhd d=false:=(by unfold zhd;rw[m,q];rfl);rw[ziW<|p this];rfl};{exact z3l j hg (by unfold zhd;rw[m,q];rfl)}};{exact z3l j hg (by unfold zhd;rw[m];rfl)}
theorem zLX:zfi Tryz.prog 353 [true,true,true,true,false,false,false,false,false,false] (some (1,1,[[0],[1],[2],[4],[7]])) ztK:=by refine zNY (kt:=.mon) (zh7 zi1 zn zbF zzd) (zkq (by kernel_rfl)) ?_;intro p s x f i w v h;have t:=zkv v;have g:p=[(4,2)]\/p=[(4,3)]:=(by rw[show zjI 353=[[(4,2)],[(4,3)]] from by kernel_rfl]at f;simpa using f);unfold ztK at h;split at h;{rename_i a b c d r j k l m n;obtain⟨u,rfl⟩:=ze7 h;obtain⟨N,q⟩:=zTe (⟨a,b,c,d⟩:Host) r j k l m n t u;refine⟨⟨_,rfl⟩,rfl,ztT,N,12,?_⟩;rcases g with rfl|rfl;{have e:=i 4 2 (by simp);simp only[zF,j9,AV.cvs] at e;cases e;exact(zPU N (⟨a,b,c,d⟩:Host) j k l m n).trans q};{have e:=i 4 3 (by simp);simp only[zF,j9,AV.cvs] at e;cases e;exact(zPV N (⟨a,b,c,d⟩:Host) j k l m n).trans q}};{cases h}
def z7u:zgy:=[(353,[true,true,true,true,false,false,false,false,false,false],some (1,1,[[0],[1],[2],[4],[7]]),ztK)]++z2h
theorem zid:zfa z7u:=zrT zzd (by
 intro x a;simp only[qG,qN,or_false]at a;rcases a with rfl
 .exact zLX)
def gOf (h:Host)(m g:Int):Guest:=ix (ix h.Mons m mZ).Guests g gZ
def zhb (h:Host)(m g:Int)(x:Guest):Host:={h with Mons:=up h.Mons m {ix h.Mons m mZ with Guests:=up (ix h.Mons m mZ).Guests g x}}
def zjq (h:Host)(m g:Int)(x:Guest)(w:Bool):Host×Int×Bool:=lookOf h h.Buffer m g (zbn<|address x) (zcv w) false
def ziq (L:Host×Int×Bool)(m g:Int)(x:Guest)(w:Bool):Host :=
 bif L.2.2 then (cond w (zhb {L.1 with Memory:=zbW L.1.Memory L.2.1 (zd7<|address x) x.A} m g<|zcg x)<|zhb L.1 m g<|loaded x<|cellAt L.1.Memory L.2.1<|zd7<|address x)
 else zhb L.1 m g (stopped x<|zsS (zbn<|address x) w)
def owned (h:Host)(m:Int):Host:=bif ilt (ix h.Mons m mZ).Own 1000000000 then {h with Mons:=up h.Mons m {ix h.Mons m mZ with Own:=zQ .i64 (ix h.Mons m mZ).Own 1}} else h
def zi7 (h:Host)(m n:Int):Host:=bif ilt (ln (ix h.Mons m mZ).Outs) 40 then {h with Mons:=up h.Mons m {ix h.Mons m mZ with Outs:=ap (ix h.Mons m mZ).Outs [n]}} else h
def zfh (h:Host)(m:Int)(x:Guest)(w:Int):Host:=bif (cond (ine w 6) (ieq (zoc (ix h.Mons m mZ).Traps x.Ctl.Traps<|zgu w) 2) false) then owned h m else h
def zhM (h:Host)(m:Int)(x:Guest)(w:Int):Host:=bif (cond (zie x.Ctl.Traps w) (ieq w 5) false) then zi7 h m (zcK x.Prog x.Pc).X else h
def zlJ (h:Host)(m g:Int)(x:Guest)(w:Int):Host:=zhb (zhM (zfh h m x w) m x w) m g (zgx x x.Ctl.Traps w)
def zNe (h:Host)(m g:Int)(x:Guest)(w:Int):Host×Bool :=
 bif ieq w 0 then (h,false) else (bif ieq w 1 then (zhb h m g<|interrupted x,true) else (bif ieq w 2 then (zhb h m g<|plainly x,true) else
  (cond (cond (ieq w 3) true<|ieq w 4) (ziq (zjq h m g x<|ieq w 4) m g x<|ieq w 4,true) (zlJ h m g x w,true))))
def zcM (h:Host)(m g:Int):Host×Bool:=bif zcb h m g then zNe h m g (gOf h m g) (zN<|gOf h m g) else (h,false)
def ze9 (x:Host×Bool):List AV:=[.agg<|zbf x.1,.one<|.b x.2]
theorem zl3 {h:Host}{m g:Int}(b:SmH h)(a:hasB m (ln h.Mons)=true)(hg:hasB g (ln (ix h.Mons m mZ).Guests)=true):SmG (gOf h m g):=(b.2.1.2 _<|zbM a _).2.2.2.1.2 _ (zbM hg _)
theorem z15 {h:Host}{m g:Int}{x:Guest}(c:Shape h)(d:hasB m (ln h.Mons)=true)(e:SmG x):Shape (zhb h m g x):=by obtain⟨a,b⟩:=zc3 c d;exact zkk c ⟨a.1,a.2.1,a.2.2.1,zEM a.2.2.2.1 e,a.2.2.2.2⟩ ⟨b.1,b.2.1,b.2.2.1,by simpa using b.2.2.2⟩
theorem zbb1 (o i t:Int):ieq (zoc o i t) 1=zet i t:=by unfold zoc;cases zet i t;{cases zet o t<;>rfl};{rfl}
theorem zbb2 {o i t:Int}(h:zet i t=true):ieq (zoc o i t) 2=false:=by unfold zoc;rw[h];rfl
theorem zp4 {h:Host}{m:Int}(b:hasB m (ln h.Mons)=true)(x:Mon):ix (up h.Mons m x) m mZ=x:=by obtain⟨k,rfl,a⟩:=zeG (n:=h.Mons.length) b;exact zd6 a _ _
@[simp] abbrev zcC (h:Host)(m g:Int):Host:=(zcM h m g).1
@[simp] abbrev zcO (h:Host)(m g:Int):Bool:=(zcM h m g).2
theorem zTK {a:Type}{l:List a}{x:a}(h:ilt (ln l) 40=true):few (ln<|ap l [x])=true:=by have:=qD h;simp only[ln] at this;exact zir (by simp[ap];omega)
theorem zZ0 {h:Host}{m:Int}{x:Guest}{w:Int}(a:(cond (zie x.Ctl.Traps w) (ieq w 5) false)=false):zhM h m x w=h:=by unfold zhM;rw[a];rfl
theorem zRQ {h:Host}{m:Int}{x:Guest}{w:Int}(a:ilt (ln (ix h.Mons m mZ).Outs) 40=false):zhM h m x w=h:=by unfold zhM zi7;rw[a];cases (cond (zie x.Ctl.Traps w) (ieq w 5) false)<;>rfl
theorem zW6 {h:Host}{m:Int}{x:Guest}{w:Int}(a:zie x.Ctl.Traps w=true)(b:ieq w 5=true)(c:ilt (ln (ix h.Mons m mZ).Outs) 40=true):zhM h m x w={h with Mons:=up h.Mons m {ix h.Mons m mZ with Outs:=ap (ix h.Mons m mZ).Outs [(zcK x.Prog x.Pc).X]}}:=by unfold zhM zi7;rw[a,b,c];rfl
theorem zNk {h:Host}{m:Int}{x:Guest}{w:Int}(a:zie x.Ctl.Traps w=false):zhM h m x w=h:=zZ0 (by rw[a];rfl)
theorem zEc {h:Host}{m:Int}{x:Guest}{w:Int}(a:ieq w 5=false):zhM h m x w=h:=zZ0 (by rw[a];cases zie x.Ctl.Traps w<;>rfl)
theorem zL2 (a:Int):(cond (ieq a a) true false)=true:=by rw[zii];rfl
theorem zjF {h:Host}{m g:Int}(a:zcb h m g=false):zcM h m g=(h,false):=by unfold zcM;rw[a];rfl
theorem zkl {h:Host}{m g:Int}(a:zcb h m g=true):zcM h m g=zNe h m g (gOf h m g) (zN<|gOf h m g):=by unfold zcM;rw[a];rfl
theorem zn9 {a b:Bool}(h:(cond a b false)=true):a=true/\b=true:=by cases a;{cases h};{exact⟨rfl,h⟩}
theorem zkp {a b:Bool}(c:a=true)(d:b=true):(cond a b false)=true:=by rw[c];exact d
theorem zZ3 {h:Host}{m:Int}{x:Guest}{w:Int}(b:ine w 6=true)(a:ieq (zoc (ix h.Mons m mZ).Traps x.Ctl.Traps<|zgu w) 2=true)(c:ilt (ix h.Mons m mZ).Own 1000000000=true):zfh h m x w={h with Mons:=up h.Mons m {ix h.Mons m mZ with Own:=zQ .i64 (ix h.Mons m mZ).Own 1}}:=by unfold zfh owned;rw[b,a,c];rfl
theorem zZ1 {h:Host}{m:Int}{x:Guest}{w:Int}(a:ieq (zoc (ix h.Mons m mZ).Traps x.Ctl.Traps<|zgu w) 2=false):zfh h m x w=h:=by unfold zfh;rw[a];cases ine w 6<;>rfl
theorem zZ2 {h:Host}{m:Int}{x:Guest}{w:Int}(a:ilt (ix h.Mons m mZ).Own 1000000000=false):zfh h m x w=h:=by unfold zfh owned;rw[a];cases (cond (ine w 6) (ieq (zoc (ix h.Mons m mZ).Traps x.Ctl.Traps<|zgu w) 2) false)<;>rfl
theorem zba3 {h:Host}{m:Int}{x:Guest}:zfh h m x 6=h:=rfl
theorem zpq {h a:Host}{m g:Int}{x:Guest}{w:Int}(e:zfh h m x w=a):zlJ h m g x w=zhb (zhM a m x w) m g (zgx x x.Ctl.Traps w):=by unfold zlJ;rw[e]
theorem z7v (x:Guest):ieq (zN x) 0=true\/ieq (zN x) 1=true\/ieq (zN x) 2=true\/ieq (zN x) 3=true\/ieq (zN x) 4=true\/ieq (zN x) 5=true\/ieq (zN x) 6=true\/ieq (zN x) 7=true:=by cases a:ieq (zN x) 0;{cases b:ieq (zN x) 1;{cases c:ieq (zN x) 2;{cases d:ieq (zN x) 3;{cases e:ieq (zN x) 4;{cases f:ieq (zN x) 5;{cases g:ieq (zN x) 6;{exact .inr (.inr<|.inr<|.inr<|.inr<|.inr<|.inr<|z2k x a b c d e f g)};{exact .inr (.inr<|.inr<|.inr<|.inr<|.inr (.inl rfl))}};{exact .inr (.inr<|.inr<|.inr<|.inr (.inl rfl))}};{exact .inr (.inr<|.inr<|.inr (.inl rfl))}};{exact .inr (.inr<|.inr (.inl rfl))}};{exact .inr (.inr (.inl rfl))}};{exact .inr (.inl rfl)}};{exact .inl rfl}
abbrev zBt (x:Guest):Bool:=bif zbx x then ieq (zN x) 0 else false
def zqy:List AV->Option (Bool×List AV)
 |[.agg [.s .ins c,.i .i64 d,.i .i64 e,.s .slot f,.s .slot g,.i .i64 h,.i .i64 j,.b k,.i .i64 l,.i .i64 m,.i .i64 n,.b o,.i .i64 p,.b q,.s .int r]]=>some (zBt (⟨c,d,e,f,g,⟨h,j,k⟩,l,⟨m,n,o,p⟩,q,r⟩:Guest),[.one<|.i .i64 0])
 |_=>none
theorem zFd:vP 332 zqy:=by refine⟨zcU.1,λw b g j a h=>?_⟩;unfold zqy at h;split at h;{obtain⟨f,rfl⟩:=ze7 h;obtain⟨d,e⟩:=zn9 f;exact zcU.2 w _ g _ a (congr (congrArg (λc v=>some (c,[AV.one<|CV.i .i64 v])) d) (qD e))};{cases h}
def z94:zba:=[(332,zqy)]++zoG
theorem z0s:zT z94:=zi zFd zi1
@[simp] abbrev zw1 (h:Host)(m g:Int):Bool:=bif zdu h m g then ieq (zN<|gOf h m g) 0 else false
def zFD:Run:=rF3 dH dI dI λb c d=>(zw1 b c d,[aH<|zcC b c d,aB<|zcO b c d])
def zv1 (N:Nat)(d:Host)(b c:Int):OA:=
 let a:=zk d;let e:=(ix a.Mons b zh).Guests; (oN (zU d)<|oN (zdu a b c)<|cond (nB<|zkY a b c) (some [aH a,aB false])<|oN (inb b<|ln a.Mons)<|oN (inb c<|ln e)<|oN (zBt<|ix e c zy)<|some [aH a,aB false])
abbrev zBu (x:Guest):Bool:=bif zbx x then ieq (zN x) 1 else false
def zqz:List AV->Option (Bool×List AV)
 |[.agg [.s .ins c,.i .i64 d,.i .i64 e,.s .slot f,.s .slot g,.i .i64 h,.i .i64 j,.b k,.i .i64 l,.i .i64 m,.i .i64 n,.b o,.i .i64 p,.b q,.s .int r]]=>some (zBu (⟨c,d,e,f,g,⟨h,j,k⟩,l,⟨m,n,o,p⟩,q,r⟩:Guest),[.one<|.i .i64 1])
 |_=>none
theorem zFe:vP 332 zqz:=by refine⟨zcU.1,λw b g j a h=>?_⟩;unfold zqz at h;split at h;{obtain⟨f,rfl⟩:=ze7 h;obtain⟨d,e⟩:=zn9 f;exact zcU.2 w _ g _ a (congr (congrArg (λc v=>some (c,[AV.one<|CV.i .i64 v])) d) (qD e))};{cases h}
def z95:zba:=[(332,zqz)]++zoG
theorem z0t:zT z95:=zi zFe zi1
@[simp] abbrev zw2 (h:Host)(m g:Int):Bool:=bif zdu h m g then ieq (zN<|gOf h m g) 1 else false
def zFE:Run:=rF3 dH dI dI λb c d=>(zw2 b c d,[aH<|zcC b c d,aB<|zcO b c d])
def zv2 (N:Nat)(f:Host)(b c:Int):OA:=
 let a:=zk f;let d:=ix a.Mons b zh;let e:=ix d.Guests c zy; (oN (zU f)<|oN (zdu a b c)<|cond (nB<|zkY a b c) (some [aH a,aB false])<|oN (inb b<|ln a.Mons)<|oN (inb c<|ln d.Guests)<|oN (zBu e)<|oN (inb b<|ln a.Mons)<|oN (zO e)<|oN (inb c<|ln d.Guests)<|share (up a.Mons b ({d with Guests:=(up d.Guests c<|zfu e)}:Mon)) λg=>some [aH ({a with Mons:=g}:Host),aB true])
abbrev zBv (x:Guest):Bool:=bif zbx x then ieq (zN x) 2 else false
def zqA:List AV->Option (Bool×List AV)
 |[.agg [.s .ins c,.i .i64 d,.i .i64 e,.s .slot f,.s .slot g,.i .i64 h,.i .i64 j,.b k,.i .i64 l,.i .i64 m,.i .i64 n,.b o,.i .i64 p,.b q,.s .int r]]=>some (zBv (⟨c,d,e,f,g,⟨h,j,k⟩,l,⟨m,n,o,p⟩,q,r⟩:Guest),[.one<|.i .i64 2])
 |_=>none
theorem zFf:vP 332 zqA:=by refine⟨zcU.1,λw b g j a h=>?_⟩;unfold zqA at h;split at h;{obtain⟨f,rfl⟩:=ze7 h;obtain⟨d,e⟩:=zn9 f;exact zcU.2 w _ g _ a (congr (congrArg (λc v=>some (c,[AV.one<|CV.i .i64 v])) d) (qD e))};{cases h}
def z96:zba:=[(332,zqA)]++zoG
theorem z0u:zT z96:=zi zFf zi1
@[simp] abbrev zw3 (h:Host)(m g:Int):Bool:=bif zdu h m g then ieq (zN<|gOf h m g) 2 else false
def zFF:Run:=rF3 dH dI dI λb c d=>(zw3 b c d,[aH<|zcC b c d,aB<|zcO b c d])
def zv3 (N:Nat)(f:Host)(b c:Int):OA:=
 let a:=zk f;let d:=ix a.Mons b zh;let e:=ix d.Guests c zy; (oN (zU f)<|oN (zdu a b c)<|cond (nB<|zkY a b c) (some [aH a,aB false])<|oN (inb b<|ln a.Mons)<|oN (inb c<|ln d.Guests)<|oN (zBv e)<|oN (inb b<|ln a.Mons)<|oN (zO e)<|oN (inb c<|ln d.Guests)<|share (up a.Mons b ({d with Guests:=(up d.Guests c<|ziC e)}:Mon)) λg=>some [aH ({a with Mons:=g}:Host),aB true])
abbrev zBw (x:Guest):Bool:=bif zbx x then ieq (zN x) 3 else false
def zqB:List AV->Option (Bool×List AV)
 |[.agg [.s .ins c,.i .i64 d,.i .i64 e,.s .slot f,.s .slot g,.i .i64 h,.i .i64 j,.b k,.i .i64 l,.i .i64 m,.i .i64 n,.b o,.i .i64 p,.b q,.s .int r]]=>some (zBw (⟨c,d,e,f,g,⟨h,j,k⟩,l,⟨m,n,o,p⟩,q,r⟩:Guest),[.one<|.i .i64 3])
 |_=>none
theorem zFg:vP 332 zqB:=by refine⟨zcU.1,λw b g j a h=>?_⟩;unfold zqB at h;split at h;{obtain⟨f,rfl⟩:=ze7 h;obtain⟨d,e⟩:=zn9 f;exact zcU.2 w _ g _ a (congr (congrArg (λc v=>some (c,[AV.one<|CV.i .i64 v])) d) (qD e))};{cases h}
def z97:zba:=[(332,zqB)]++zoG
theorem z0v:zT z97:=zi zFg zi1
@[simp] abbrev zw4 (h:Host)(m g:Int):Bool:=bif zdu h m g then ieq (zN<|gOf h m g) 3 else false
def zFG:Run:=rF3 dH dI dI λb c d=>(zw4 b c d,[aH<|zcC b c d,aB<|zcO b c d])
def zv4 (N:Nat)(m:Host)(a b:Int):OA:=
 let c:=zk m;let n:=(ix c.Mons a zh).Guests;let h:=ix n b zy;let f:=zhX h;let g:=zby f;let l:=zme c c.Buffer a b g (zdF false) false;let d:=zgI c c.Buffer a b g (zdF false) false;let e:=ix d.Mons a zh;let j:=ix e.Guests b zy;let i:=({h with Prog:=j.Prog,Written:=j.Written,Live:=j.Live,Seen:=j.Seen}:Guest); (oN (zU m)<|oN (zdu c a b)<|cond (nB<|zkY c a b) (some [aH c,aB false])<|oN (inb a<|ln c.Mons)<|oN (inb b<|ln n)<|oN (zBw h)<|oN (zbx h)<|oN (zbQ f)<|oN (zlz false)<|oN (zmf c c.Buffer a b g (zdF false) false)<|cond (nB<|ziO c c.Buffer a b g (zdF false) false) (oN (inb a<|ln d.Mons)<|oN (zbQ f)<|oN (zg6 g false)<|oN (zcD i<|ze5 g false)<|oN (inb b<|ln e.Guests)<|share (up d.Mons a ({e with Guests:=(up e.Guests b<|zcF i<|ze5 g false)}:Mon)) λk=>some [aH ({d with Mons:=k}:Host),aB true])<|oN (inb a<|ln d.Mons)<|oN (zbQ f)<|oN (zfJ d.Memory l<|zc7 f)<|oN (znV i<|zgN d.Memory l<|zc7 f)<|oN (inb b<|ln e.Guests)<|share (up d.Mons a ({e with Guests:=(up e.Guests b<|zlx i<|zgN d.Memory l<|zc7 f)}:Mon)) λk=>some [aH ({d with Mons:=k}:Host),aB true])
abbrev zBx (x:Guest):Bool:=bif zbx x then ieq (zN x) 4 else false
def zqC:List AV->Option (Bool×List AV)
 |[.agg [.s .ins c,.i .i64 d,.i .i64 e,.s .slot f,.s .slot g,.i .i64 h,.i .i64 j,.b k,.i .i64 l,.i .i64 m,.i .i64 n,.b o,.i .i64 p,.b q,.s .int r]]=>some (zBx (⟨c,d,e,f,g,⟨h,j,k⟩,l,⟨m,n,o,p⟩,q,r⟩:Guest),[.one<|.i .i64 4])
 |_=>none
theorem zFh:vP 332 zqC:=by refine⟨zcU.1,λw b g j a h=>?_⟩;unfold zqC at h;split at h;{obtain⟨f,rfl⟩:=ze7 h;obtain⟨d,e⟩:=zn9 f;exact zcU.2 w _ g _ a (congr (congrArg (λc v=>some (c,[AV.one<|CV.i .i64 v])) d) (qD e))};{cases h}
def z98:zba:=[(332,zqC)]++zoG
theorem z0w:zT z98:=zi zFh zi1
@[simp] abbrev zw5 (h:Host)(m g:Int):Bool:=bif zdu h m g then ieq (zN<|gOf h m g) 4 else false
def zFH:Run:=rF3 dH dI dI λb c d=>(zw5 b c d,[aH<|zcC b c d,aB<|zcO b c d])
def zv5 (N:Nat)(l:Host)(a b:Int):OA:=
 let c:=zk l;let n:=(ix c.Mons a zh).Guests;let g:=ix n b zy;let h:=zhX g;let f:=zby h;let m:=zme c c.Buffer a b f (zdF true) false;let d:=zgI c c.Buffer a b f (zdF true) false;let e:=ix d.Mons a zh;let j:=ix e.Guests b zy;let i:=({g with Prog:=j.Prog,Written:=j.Written,Live:=j.Live,Seen:=j.Seen}:Guest); (oN (zU l)<|oN (zdu c a b)<|cond (nB<|zkY c a b) (some [aH c,aB false])<|oN (inb a<|ln c.Mons)<|oN (inb b<|ln n)<|oN (zBx g)<|oN (zbx g)<|oN (zbQ h)<|oN (zlz true)<|oN (zmf c c.Buffer a b f (zdF true) false)<|cond (nB<|ziO c c.Buffer a b f (zdF true) false) (oN (inb a<|ln d.Mons)<|oN (zbQ h)<|oN (zg6 f true)<|oN (zcD i<|ze5 f true)<|oN (inb b<|ln e.Guests)<|share (up d.Mons a ({e with Guests:=(up e.Guests b<|zcF i<|ze5 f true)}:Mon)) λk=>some [aH ({d with Mons:=k}:Host),aB true])<|oN (zbQ h)<|oN (zeh d.Memory m (zc7 h) g.A)<|oN (inb a<|ln d.Mons)<|oN (zO i)<|oN (inb b<|ln e.Guests)<|share (up d.Mons a ({e with Guests:=(up e.Guests b<|zce i)}:Mon)) λk=>some [aH ({d with Memory:=(zeE d.Memory m (zc7 h) g.A),Mons:=k}:Host),aB true])
abbrev zBy (x:Guest):Bool:=bif zbx x then ieq (zN x) 5 else false
def zqD:List AV->Option (Bool×List AV)
 |[.agg [.s .ins c,.i .i64 d,.i .i64 e,.s .slot f,.s .slot g,.i .i64 h,.i .i64 j,.b k,.i .i64 l,.i .i64 m,.i .i64 n,.b o,.i .i64 p,.b q,.s .int r]]=>some (zBy (⟨c,d,e,f,g,⟨h,j,k⟩,l,⟨m,n,o,p⟩,q,r⟩:Guest),[.one<|.i .i64 5])
 |_=>none
theorem zFi:vP 332 zqD:=by refine⟨zcU.1,λw b g j a h=>?_⟩;unfold zqD at h;split at h;{obtain⟨f,rfl⟩:=ze7 h;obtain⟨d,e⟩:=zn9 f;exact zcU.2 w _ g _ a (congr (congrArg (λc v=>some (c,[AV.one<|CV.i .i64 v])) d) (qD e))};{cases h}
def z99:zba:=[(332,zqD)]++zoG
theorem z0x:zT z99:=zi zFi zi1
@[simp] abbrev zw6 (h:Host)(m g:Int):Bool:=bif zdu h m g then ieq (zN<|gOf h m g) 5 else false
def zFI:Run:=rF3 dH dI dI λb c d=>(zw6 b c d,[aH<|zcC b c d,aB<|zcO b c d])
def zv6 (N:Nat)(x:Host)(a e:Int):OA:=
 let d:=zk x;let f:=inb a<|ln d.Mons;let g:=ix d.Mons a zh;let j:=inb e<|ln g.Guests;let c:=ix g.Guests e zy;let w:=ap g.Outs [(zea c.Prog c.Pc).X];let s:=up d.Mons a ({g with Outs:=w}:Mon);let h:=c.Ctl.Traps;let v:=up d.Mons a ({g with Guests:=(up g.Guests e<|zcS c h 5)}:Mon); (oN (zU x)<|oN (zdu d a e)<|cond (nB<|zkY d a e) (some [aH d,aB false])<|oN f<|oN j<|oN (zBy c)<|oN f<|oN (zoy g.Traps h 1)<|cond (ieq (zk6 g.Traps h 1) 2) (oN f<|cond (ilt g.Own 1000000000) (oN f<|oN f<|share (up d.Mons a ({g with Own:=(zQ .i64 g.Own 1)}:Mon)) (λb=>let k:=inb a<|ln b;let l:=ix b a zh;let q:=ix l.Guests e zy;let t:=ap l.Outs [(zea q.Prog c.Pc).X];let u:=({c with Prog:=q.Prog,Written:=q.Written,Live:=q.Live,Seen:=q.Seen}:Guest);let r:=up b a ({l with Guests:=(up l.Guests e<|zcS u h 5)}:Mon); (oN (ze6 u h 5)<|cond (zer u h 5) (oN k<|cond (ilt (ln l.Outs) 40) (oN k<|oN (zef q.Prog c.Pc)<|oN (few<|ln t)<|oN k<|oN (cond (ieq a a) true false)<|share (up b a ({l with Outs:=t}:Mon)) (λi=>let m:=ix i a zh; (oN (inb a<|ln i)<|oN (inb e<|ln m.Guests)<|share (up i a ({m with Guests:=(up m.Guests e<|zcS u h 5)}:Mon)) λy=>some [aH ({d with Mons:=y}:Host),aB true])))<|oN k<|oN (inb e<|ln l.Guests)<|share r λi=>some [aH ({d with Mons:=i}:Host),aB true])<|oN k<|oN (inb e<|ln l.Guests)<|share r λi=>some [aH ({d with Mons:=i}:Host),aB true])))<|oN (ze6 c h 5)<|cond (zer c h 5) (oN f<|cond (ilt (ln g.Outs) 40) (oN f<|oN (zef c.Prog c.Pc)<|oN (few<|ln w)<|oN f<|oN (cond (ieq a a) true false)<|share s (λb=>let n:=ix b a zh; (oN (inb a<|ln b)<|oN (inb e<|ln n.Guests)<|share (up b a ({n with Guests:=(up n.Guests e<|zcS c h 5)}:Mon)) λi=>some [aH ({d with Mons:=i}:Host),aB true])))<|oN f<|oN j<|share v λb=>some [aH ({d with Mons:=b}:Host),aB true])<|oN f<|oN j<|share v λb=>some [aH ({d with Mons:=b}:Host),aB true])<|oN (ze6 c h 5)<|cond (zer c h 5) (oN f<|cond (ilt (ln g.Outs) 40) (oN f<|oN (zef c.Prog c.Pc)<|oN (few<|ln w)<|oN f<|oN (cond (ieq a a) true false)<|share s (λb=>let p:=ix b a zh; (oN (inb a<|ln b)<|oN (inb e<|ln p.Guests)<|share (up b a ({p with Guests:=(up p.Guests e<|zcS c h 5)}:Mon)) λi=>some [aH ({d with Mons:=i}:Host),aB true])))<|oN f<|oN j<|share v λb=>some [aH ({d with Mons:=b}:Host),aB true])<|oN f<|oN j<|share v λb=>some [aH ({d with Mons:=b}:Host),aB true])
abbrev zBz (x:Guest):Bool:=bif zbx x then ieq (zN x) 6 else false
def zqE:List AV->Option (Bool×List AV)
 |[.agg [.s .ins c,.i .i64 d,.i .i64 e,.s .slot f,.s .slot g,.i .i64 h,.i .i64 j,.b k,.i .i64 l,.i .i64 m,.i .i64 n,.b o,.i .i64 p,.b q,.s .int r]]=>some (zBz (⟨c,d,e,f,g,⟨h,j,k⟩,l,⟨m,n,o,p⟩,q,r⟩:Guest),[.one<|.i .i64 6])
 |_=>none
theorem zFj:vP 332 zqE:=by refine⟨zcU.1,λw b g j a h=>?_⟩;unfold zqE at h;split at h;{obtain⟨f,rfl⟩:=ze7 h;obtain⟨d,e⟩:=zn9 f;exact zcU.2 w _ g _ a (congr (congrArg (λc v=>some (c,[AV.one<|CV.i .i64 v])) d) (qD e))};{cases h}
def zbaa:zba:=[(332,zqE)]++zoG
theorem z0y:zT zbaa:=zi zFj zi1
@[simp] abbrev zw7 (h:Host)(m g:Int):Bool:=bif zdu h m g then ieq (zN<|gOf h m g) 6 else false
def zFJ:Run:=rF3 dH dI dI λb c d=>(zw7 b c d,[aH<|zcC b c d,aB<|zcO b c d])
def zv7 (N:Nat)(i:Host)(c d:Int):OA:=
 let a:=zk i;let g:=inb c<|ln a.Mons;let e:=ix a.Mons c zh;let h:=inb d<|ln e.Guests;let b:=ix e.Guests d zy;let j:=up a.Mons c ({e with Guests:=(up e.Guests d<|zcS b b.Ctl.Traps 6)}:Mon); (oN (zU i)<|oN (zdu a c d)<|cond (nB<|zkY a c d) (some [aH a,aB false])<|oN g<|oN h<|oN (zBz b)<|oN (ze6 b b.Ctl.Traps 6)<|cond (zer b b.Ctl.Traps 6) (oN g<|oN h<|share j λf=>some [aH ({a with Mons:=f}:Host),aB true])<|oN g<|oN h<|share j λf=>some [aH ({a with Mons:=f}:Host),aB true])
abbrev zBA (x:Guest):Bool:=bif zbx x then ieq (zN x) 7 else false
def zqF:List AV->Option (Bool×List AV)
 |[.agg [.s .ins c,.i .i64 d,.i .i64 e,.s .slot f,.s .slot g,.i .i64 h,.i .i64 j,.b k,.i .i64 l,.i .i64 m,.i .i64 n,.b o,.i .i64 p,.b q,.s .int r]]=>some (zBA (⟨c,d,e,f,g,⟨h,j,k⟩,l,⟨m,n,o,p⟩,q,r⟩:Guest),[.one<|.i .i64 7])
 |_=>none
theorem zFk:vP 332 zqF:=by refine⟨zcU.1,λw b g j a h=>?_⟩;unfold zqF at h;split at h;{obtain⟨f,rfl⟩:=ze7 h;obtain⟨d,e⟩:=zn9 f;exact zcU.2 w _ g _ a (congr (congrArg (λc v=>some (c,[AV.one<|CV.i .i64 v])) d) (qD e))};{cases h}
def zbab:zba:=[(332,zqF)]++zoG
theorem z0z:zT zbab:=zi zFk zi1
@[simp] abbrev zw8 (h:Host)(m g:Int):Bool:=bif zdu h m g then ieq (zN<|gOf h m g) 7 else false
def zFK:Run:=rF3 dH dI dI λb c d=>(zw8 b c d,[aH<|zcC b c d,aB<|zcO b c d])
def zv8 (N:Nat)(q:Host)(c e:Int):OA:=
 let a:=zk q;let g:=inb c<|ln a.Mons;let f:=ix a.Mons c zh;let k:=inb e<|ln f.Guests;let h:=ix f.Guests e zy;let d:=h.Ctl.Traps;let l:=up a.Mons c ({f with Guests:=(up f.Guests e<|zcS h d 7)}:Mon); (oN (zU q)<|oN (zdu a c e)<|cond (nB<|zkY a c e) (some [aH a,aB false])<|oN g<|oN k<|oN (zBA h)<|oN g<|oN (zoy f.Traps d 2)<|cond (ieq (zk6 f.Traps d 2) 2) (oN g<|cond (ilt f.Own 1000000000) (oN g<|oN g<|share (up a.Mons c ({f with Own:=(zQ .i64 f.Own 1)}:Mon)) (λb=>let j:=ix b c zh;let m:=ix j.Guests e zy;let p:=({h with Prog:=m.Prog,Written:=m.Written,Live:=m.Live,Seen:=m.Seen}:Guest);let i:=up b c ({j with Guests:=(up j.Guests e<|zcS p d 7)}:Mon); (oN (ze6 p d 7)<|cond (zer p d 7) (oN (inb c<|ln b)<|oN (inb e<|ln j.Guests)<|share i λn=>some [aH ({a with Mons:=n}:Host),aB true])<|oN (inb c<|ln b)<|oN (inb e<|ln j.Guests)<|share i λn=>some [aH ({a with Mons:=n}:Host),aB true])))<|oN (ze6 h d 7)<|cond (zer h d 7) (oN g<|oN k<|share l λb=>some [aH ({a with Mons:=b}:Host),aB true])<|oN g<|oN k<|share l λb=>some [aH ({a with Mons:=b}:Host),aB true])<|oN (ze6 h d 7)<|cond (zer h d 7) (oN g<|oN k<|share l λb=>some [aH ({a with Mons:=b}:Host),aB true])<|oN g<|oN k<|share l λb=>some [aH ({a with Mons:=b}:Host),aB true])
theorem zFs (a:Host)(b c:Int)(e:zw1 a b c=true):∃N,zv1 N a b c=some [aH<|zcC a b c,aB<|zcO a b c]:=by
 obtain⟨e,i⟩:=zn9 e;have f:=(zS a).1 (zK.1 e);refine⟨0,?_⟩;show _=some (ze9<|zcM a b c);unfold zv1 oN nB;conv=>zeta
 refine must (zbs<|(zS _).2 f) (must (zbs<|(zS _).2 f)<|brN (λd=>?_) λd=>?_);{rw [zjF d];rfl};obtain⟨k,g,h⟩:=zdH d;have l:=zl3 f g h;have j:zN (gOf a b c)=0:=qD i;rw[zkl d,j];refine must (zB g) (must (zB h)<|must (zkp rfl i) ?_);rfl
theorem zri:vP 286 zFD:=kF3 z0s zn zbF zid (zq []) zFs
theorem zFt (a:Host)(b c:Int)(g:zw2 a b c=true):∃N,zv2 N a b c=some [aH<|zcC a b c,aB<|zcO a b c]:=by
 obtain⟨g,i⟩:=zn9 g;have h:=(zS a).1 (zK.1 g);refine⟨0,?_⟩;show _=some (ze9<|zcM a b c);unfold zv2 oN nB;conv=>zeta
 refine must (zbs<|(zS _).2 h) (must (zbs<|(zS _).2 h)<|brN (λd=>?_) λd=>?_);{rw [zjF d];rfl};obtain⟨l,e,f⟩:=zdH d;have k:=zl3 h e f;have j:zN (gOf a b c)=1:=qD i;rw[zkl d,j];refine must (zB e) (must (zB f)<|must (zkp rfl i) ?_);show _=some (ze9 (zhb a b c<|interrupted<|gOf a b c,true));exact must (zB e) (must (zbs k) (must (zB f) rfl))
theorem zBK:vP 286 zFE:=kF3 z0t zn zbF zid (zq []) zFt
theorem zFu (a:Host)(b c:Int)(g:zw3 a b c=true):∃N,zv3 N a b c=some [aH<|zcC a b c,aB<|zcO a b c]:=by
 obtain⟨g,i⟩:=zn9 g;have h:=(zS a).1 (zK.1 g);refine⟨0,?_⟩;show _=some (ze9<|zcM a b c);unfold zv3 oN nB;conv=>zeta
 refine must (zbs<|(zS _).2 h) (must (zbs<|(zS _).2 h)<|brN (λd=>?_) λd=>?_);{rw [zjF d];rfl};obtain⟨l,e,f⟩:=zdH d;have k:=zl3 h e f;have j:zN (gOf a b c)=2:=qD i;rw[zkl d,j];refine must (zB e) (must (zB f)<|must (zkp rfl i) ?_);show _=some (ze9 (zhb a b c<|plainly<|gOf a b c,true));exact must (zB e) (must (zbs k) (must (zB f) rfl))
theorem zBL:vP 286 zFF:=kF3 z0u zn zbF zid (zq []) zFu
theorem zFv (a:Host)(c d:Int)(j:zw4 a c d=true):∃N,zv4 N a c d=some [aH<|zcC a c d,aB<|zcO a c d]:=by
 obtain⟨j,m⟩:=zn9 j;have f:=(zS a).1 (zK.1 j);refine⟨0,?_⟩;show _=some (ze9<|zcM a c d);unfold zv4 oN nB;conv=>zeta
 refine must (zbs<|(zS _).2 f) (must (zbs<|(zS _).2 f)<|brN (λe=>?_) λe=>?_);{rw [zjF e];rfl};obtain⟨r,g,i⟩:=zdH e;have n:=zl3 f g i;have q:zN (gOf a c d)=3:=qD m;rw[zkl e,q];refine must (zB g) (must (zB i)<|must (zkp rfl m) ?_);show _=some (ze9 (ziq (zjq a c d (gOf a c d) false) c d (gOf a c d) false,true));have k:=zuH (b:=a.Buffer) (page:=zbn (address<|gOf a c d)) (need:=zcv false) (io:=false) f e;have F:=znz k g i;have p:(ix (ix (zgI (zk a) (zk a).Buffer c d (zby<|zhX<|ix (ix (zk a).Mons c zh).Guests d zy) (zdF false) false).Mons c zh).Guests d zy)=(ix (ix (zk a).Mons c zh).Guests d zy):=congrArg (λl=>ix l d gZ) (zK2 k.gs c);rw[p];unfold ziq;refine must rfl (must rfl (must rfl (must (zbs<|(zS _).2 f)<|brN (λh=>?_) λh=>?_)));{rw [show (zjq a c d (gOf a c d) false).2.2=false from h];exact must (zB F.hm) (must rfl (must rfl (must (zbs n) (must (zB F.hg) rfl))))};{rw [show (zjq a c d (gOf a c d) false).2.2=true from h];exact must (zB F.hm) (must rfl (must rfl (must (zbs n) (must (zB F.hg) rfl))))}
theorem zBM:vP 286 zFG:=kF3 z0v zn zbF zid (zq []) zFv
theorem zFw (a:Host)(c d:Int)(j:zw5 a c d=true):∃N,zv5 N a c d=some [aH<|zcC a c d,aB<|zcO a c d]:=by
 obtain⟨j,m⟩:=zn9 j;have f:=(zS a).1 (zK.1 j);refine⟨0,?_⟩;show _=some (ze9<|zcM a c d);unfold zv5 oN nB;conv=>zeta
 refine must (zbs<|(zS _).2 f) (must (zbs<|(zS _).2 f)<|brN (λe=>?_) λe=>?_);{rw [zjF e];rfl};obtain⟨r,g,i⟩:=zdH e;have n:=zl3 f g i;have q:zN (gOf a c d)=4:=qD m;rw[zkl e,q];refine must (zB g) (must (zB i)<|must (zkp rfl m) ?_);show _=some (ze9 (ziq (zjq a c d (gOf a c d) true) c d (gOf a c d) true,true));have k:=zuH (b:=a.Buffer) (page:=zbn (address<|gOf a c d)) (need:=zcv true) (io:=false) f e;have F:=znz k g i;have p:(ix (ix (zgI (zk a) (zk a).Buffer c d (zby<|zhX<|ix (ix (zk a).Mons c zh).Guests d zy) (zdF true) false).Mons c zh).Guests d zy)=(ix (ix (zk a).Mons c zh).Guests d zy):=congrArg (λl=>ix l d gZ) (zK2 k.gs c);rw[p];unfold ziq;refine must rfl (must rfl (must rfl (must (zbs<|(zS _).2 f)<|brN (λh=>?_) λh=>?_)));{rw [show (zjq a c d (gOf a c d) true).2.2=false from h];exact must (zB F.hm) (must rfl (must rfl (must (zbs n) (must (zB F.hg) rfl))))};{rw [show (zjq a c d (gOf a c d) true).2.2=true from h];exact must rfl (must (zbs k.shape.1.1)<|must (zB F.hm)<|must (zbs n) (must (zB F.hg) rfl))}
theorem zBN:vP 286 zFH:=kF3 z0w zn zbF zid (zq []) zFw
theorem z8S {c:Host}{a d:Int}(k:SmG (gOf c a d))(f:hasB a (ln c.Mons)=true)(i:hasB d (ln (ix c.Mons a mZ).Guests)=true) :
 (cond (ze6 (ix (ix (zk c).Mons a zh).Guests d zy) (ix (ix (zk c).Mons a zh).Guests d zy).Ctl.Traps 5) (cond (zer (ix (ix (zk c).Mons a zh).Guests d zy) (ix (ix (zk c).Mons a zh).Guests d zy).Ctl.Traps 5) (cond (inb a<|ln (zk c).Mons) (cond (ilt (ln (ix (zk c).Mons a zh).Outs) 40) (cond (inb a<|ln (zk c).Mons) (cond (zef (ix (ix (zk c).Mons a zh).Guests d zy).Prog (ix (ix (zk c).Mons a zh).Guests d zy).Pc) (cond (few<|ln<|ap (ix (zk c).Mons a zh).Outs [(zea (ix (ix (zk c).Mons a zh).Guests d zy).Prog (ix (ix (zk c).Mons a zh).Guests d zy).Pc).X]) (cond (inb a<|ln (zk c).Mons) (cond (cond (ieq a a) true false) (share (up (zk c).Mons a ({ (ix (zk c).Mons a zh) with Outs:=(ap (ix (zk c).Mons a zh).Outs [(zea (ix (ix (zk c).Mons a zh).Guests d zy).Prog (ix (ix (zk c).Mons a zh).Guests d zy).Pc).X])}:Mon)) λe=>cond (inb a<|ln e) (cond (inb d<|ln (ix e a zh).Guests) (share (up e a ({ (ix e a zh) with Guests:=(up (ix e a zh).Guests d<|zcS (ix (ix (zk c).Mons a zh).Guests d zy) (ix (ix (zk c).Mons a zh).Guests d zy).Ctl.Traps 5)}:Mon)) λl=>some [.agg<|zbf ({ (zk c) with Mons:=l}:Host),.one<|.b true]) none) none) none) none) none) none) none)<|cond (inb a<|ln (zk c).Mons) (cond (inb d<|ln (ix (zk c).Mons a zh).Guests) (share (up (zk c).Mons a ({ (ix (zk c).Mons a zh) with Guests:=(up (ix (zk c).Mons a zh).Guests d<|zcS (ix (ix (zk c).Mons a zh).Guests d zy) (ix (ix (zk c).Mons a zh).Guests d zy).Ctl.Traps 5)}:Mon)) λe=>some [.agg<|zbf ({ (zk c) with Mons:=e}:Host),.one<|.b true]) none) none) none)<|cond (inb a<|ln (zk c).Mons) (cond (inb d<|ln (ix (zk c).Mons a zh).Guests) (share (up (zk c).Mons a ({ (ix (zk c).Mons a zh) with Guests:=(up (ix (zk c).Mons a zh).Guests d<|zcS (ix (ix (zk c).Mons a zh).Guests d zy) (ix (ix (zk c).Mons a zh).Guests d zy).Ctl.Traps 5)}:Mon)) λe=>some [.agg<|zbf ({ (zk c) with Mons:=e}:Host),.one<|.b true]) none) none) none)=some (ze9 (zhb (zhM c a (gOf c a d) 5) a d<|zgx (gOf c a d) (gOf c a d).Ctl.Traps 5,true)):=by
 refine must (zbs k) (br (λj=>must (zB f) (br (λg=>?_) λg=>?_)) λj=>?_)
 .rw [zW6 (h:=c) (m:=a) (x:=gOf c a d) (w:=5) j rfl g];refine must (zB f) (must rfl (must (zTK g)<|must (zB f)<|must (zL2 _)<|shr<|must (zB<|zfL f) (must ?_ rfl)));rw[zp4 f];exact zB i
 .rw [zRQ (h:=c) (m:=a) (x:=gOf c a d) (w:=5) g];exact must (zB f) (must (zB i) rfl)
 .rw [zNk (h:=c) (m:=a) (x:=gOf c a d) (w:=5) j];exact must (zB f) (must (zB i) rfl)
theorem zbcz {f:Host}{d:List Mon}{a c:Int}(n:SmG (gOf f a c))(i:hasB a (ln d)=true)(k:hasB c (ln (ix d a mZ).Guests)=true)(e:(ix (ix d a zh).Guests c zy)=gOf f a c) :
 (cond (ze6 ({ (ix (ix (zk f).Mons a zh).Guests c zy) with Prog:=(ix (ix d a zh).Guests c zy).Prog,Written:=(ix (ix d a zh).Guests c zy).Written,Live:=(ix (ix d a zh).Guests c zy).Live,Seen:=(ix (ix d a zh).Guests c zy).Seen}:Guest) (ix (ix (zk f).Mons a zh).Guests c zy).Ctl.Traps 5) (cond (zer ({ (ix (ix (zk f).Mons a zh).Guests c zy) with Prog:=(ix (ix d a zh).Guests c zy).Prog,Written:=(ix (ix d a zh).Guests c zy).Written,Live:=(ix (ix d a zh).Guests c zy).Live,Seen:=(ix (ix d a zh).Guests c zy).Seen}:Guest) (ix (ix (zk f).Mons a zh).Guests c zy).Ctl.Traps 5) (cond (inb a<|ln d) (cond (ilt (ln (ix d a zh).Outs) 40) (cond (inb a<|ln d) (cond (zef (ix (ix d a zh).Guests c zy).Prog (ix (ix (zk f).Mons a zh).Guests c zy).Pc) (cond (few<|ln<|ap (ix d a zh).Outs [(zea (ix (ix d a zh).Guests c zy).Prog (ix (ix (zk f).Mons a zh).Guests c zy).Pc).X]) (cond (inb a<|ln d) (cond (cond (ieq a a) true false) (share (up d a ({ (ix d a zh) with Outs:=(ap (ix d a zh).Outs [(zea (ix (ix d a zh).Guests c zy).Prog (ix (ix (zk f).Mons a zh).Guests c zy).Pc).X])}:Mon)) λg=>cond (inb a<|ln g) (cond (inb c<|ln (ix g a zh).Guests) (share (up g a ({ (ix g a zh) with Guests:=(up (ix g a zh).Guests c<|zcS ({ (ix (ix (zk f).Mons a zh).Guests c zy) with Prog:=(ix (ix d a zh).Guests c zy).Prog,Written:=(ix (ix d a zh).Guests c zy).Written,Live:=(ix (ix d a zh).Guests c zy).Live,Seen:=(ix (ix d a zh).Guests c zy).Seen}:Guest) (ix (ix (zk f).Mons a zh).Guests c zy).Ctl.Traps 5)}:Mon)) λp=>some [.agg<|zbf ({ (zk f) with Mons:=p}:Host),.one<|.b true]) none) none) none) none) none) none) none)<|cond (inb a<|ln d) (cond (inb c<|ln (ix d a zh).Guests) (share (up d a ({ (ix d a zh) with Guests:=(up (ix d a zh).Guests c<|zcS ({ (ix (ix (zk f).Mons a zh).Guests c zy) with Prog:=(ix (ix d a zh).Guests c zy).Prog,Written:=(ix (ix d a zh).Guests c zy).Written,Live:=(ix (ix d a zh).Guests c zy).Live,Seen:=(ix (ix d a zh).Guests c zy).Seen}:Guest) (ix (ix (zk f).Mons a zh).Guests c zy).Ctl.Traps 5)}:Mon)) λg=>some [.agg<|zbf ({ (zk f) with Mons:=g}:Host),.one<|.b true]) none) none) none)<|cond (inb a<|ln d) (cond (inb c<|ln (ix d a zh).Guests) (share (up d a ({ (ix d a zh) with Guests:=(up (ix d a zh).Guests c<|zcS ({ (ix (ix (zk f).Mons a zh).Guests c zy) with Prog:=(ix (ix d a zh).Guests c zy).Prog,Written:=(ix (ix d a zh).Guests c zy).Written,Live:=(ix (ix d a zh).Guests c zy).Live,Seen:=(ix (ix d a zh).Guests c zy).Seen}:Guest) (ix (ix (zk f).Mons a zh).Guests c zy).Ctl.Traps 5)}:Mon)) λg=>some [.agg<|zbf ({ (zk f) with Mons:=g}:Host),.one<|.b true]) none) none) none)=some (ze9 (zhb (zhM {f with Mons:=d} a (gOf f a c) 5) a c<|zgx (gOf f a c) (gOf f a c).Ctl.Traps 5,true)):=by
 rw[e];refine must (zbs n) (br (λl=>must (zB i) (br (λj=>?_) λj=>?_)) λl=>?_)
 .rw [zW6 (h:={f with Mons:=d}) (m:=a) (x:=gOf f a c) (w:=5) l rfl j];refine must (zB i) (must rfl (must (zTK j)<|must (zB i)<|must (zL2 _)<|shr<|must (zB<|zfL (h:={f with Mons:=d}) i) (must ?_ rfl)));rw[zp4 (h:={f with Mons:=d}) i];exact zB k
 .rw [zRQ (h:={f with Mons:=d}) (m:=a) (x:=gOf f a c) (w:=5) j];exact must (zB i) (must (zB k) rfl)
 .rw [zNk (h:={f with Mons:=d}) (m:=a) (x:=gOf f a c) (w:=5) l];exact must (zB i) (must (zB k) rfl)
theorem zFx (b:Host)(a c:Int)(j:zw6 b a c=true):∃N,zv6 N b a c=some [aH<|zcC b a c,aB<|zcO b a c]:=by
 obtain⟨j,p⟩:=zn9 j;have k:=(zS b).1 (zK.1 j);refine⟨0,?_⟩;show _=some (ze9<|zcM b a c);unfold zv6 oN nB;conv=>zeta
 refine must (zbs<|(zS _).2 k) (must (zbs<|(zS _).2 k)<|brN (λf=>?_) λf=>?_);{rw [zjF f];rfl};obtain⟨r,d,e⟩:=zdH f;have l:=zl3 k d e;have q:zN (gOf b a c)=5:=qD p;rw[zkl f,q];refine must (zB d) (must (zB e)<|must (zkp rfl p) ?_);show _=some (ze9 (zlJ b a c (gOf b a c) 5,true));refine must (zB d) (must rfl (br (λg=>must (zB d) (br (λi=>must (zB d) (must (zB d)<|shr ?_)) λi=>?_)) λg=>?_));{rw [zpq (zZ3 (h:=b) (m:=a) (x:=gOf b a c) (w:=5) rfl g i)];have n:=zp4 d {ix b.Mons a mZ with Own:=zQ .i64 (ix b.Mons a mZ).Own 1};refine zbcz l (zfL d) ?_ ?_;{show hasB c (ln (ix (up b.Mons a _) a mZ).Guests)=true;rw[n];exact e};{show ix (ix (up b.Mons a _) a mZ).Guests c gZ=_;rw[n];rfl}};{rw [zpq<|zZ2 (h:=b) (m:=a) (x:=gOf b a c) (w:=5) i];exact z8S l d e};{rw [zpq<|zZ1 (h:=b) (m:=a) (x:=gOf b a c) (w:=5) g];exact z8S l d e}
theorem zBO:vP 286 zFI:=kF3 z0x zn zbF zid (zq []) zFx
theorem zFy (a:Host)(b c:Int)(g:zw7 a b c=true):∃N,zv7 N a b c=some [aH<|zcC a b c,aB<|zcO a b c]:=by
 obtain⟨g,j⟩:=zn9 g;have i:=(zS a).1 (zK.1 g);refine⟨0,?_⟩;show _=some (ze9<|zcM a b c);unfold zv7 oN nB;conv=>zeta
 refine must (zbs<|(zS _).2 i) (must (zbs<|(zS _).2 i)<|brN (λf=>?_) λf=>?_);{rw [zjF f];rfl};obtain⟨p,d,e⟩:=zdH f;have n:=zl3 i d e;have l:zN (gOf a b c)=6:=qD j;rw[zkl f,l];refine must (zB d) (must (zB e)<|must (zkp rfl j) ?_);show _=some (ze9 (zlJ a b c (gOf a b c) 6,true));rw[zpq<|zba3 (h:=a) (m:=b) (x:=gOf a b c),zEc (w:=6) rfl];exact must (zbs n) (br (λk=>must (zB d) (must (zB e) rfl)) λk=>must (zB d) (must (zB e) rfl))
theorem zBP:vP 286 zFJ:=kF3 z0y zn zbF zid (zq []) zFy
theorem z8T {a:Host}{c d:Int}(i:SmG (gOf a c d))(f:hasB c (ln a.Mons)=true)(g:hasB d (ln (ix a.Mons c mZ).Guests)=true) :
 (cond (ze6 (ix (ix (zk a).Mons c zh).Guests d zy) (ix (ix (zk a).Mons c zh).Guests d zy).Ctl.Traps 7) (cond (zer (ix (ix (zk a).Mons c zh).Guests d zy) (ix (ix (zk a).Mons c zh).Guests d zy).Ctl.Traps 7) (cond (inb c<|ln (zk a).Mons) (cond (inb d<|ln (ix (zk a).Mons c zh).Guests) (share (up (zk a).Mons c ({ (ix (zk a).Mons c zh) with Guests:=(up (ix (zk a).Mons c zh).Guests d<|zcS (ix (ix (zk a).Mons c zh).Guests d zy) (ix (ix (zk a).Mons c zh).Guests d zy).Ctl.Traps 7)}:Mon)) λe=>some [.agg<|zbf ({ (zk a) with Mons:=e}:Host),.one<|.b true]) none) none)<|cond (inb c<|ln (zk a).Mons) (cond (inb d<|ln (ix (zk a).Mons c zh).Guests) (share (up (zk a).Mons c ({ (ix (zk a).Mons c zh) with Guests:=(up (ix (zk a).Mons c zh).Guests d<|zcS (ix (ix (zk a).Mons c zh).Guests d zy) (ix (ix (zk a).Mons c zh).Guests d zy).Ctl.Traps 7)}:Mon)) λe=>some [.agg<|zbf ({ (zk a) with Mons:=e}:Host),.one<|.b true]) none) none) none)=some (ze9 (zhb a c d<|zgx (gOf a c d) (gOf a c d).Ctl.Traps 7,true)):=
 must (zbs i) (br (λh=>must (zB f) (must (zB g) rfl)) λh=>must (zB f) (must (zB g) rfl))
theorem zbcA {f:Host}{d:List Mon}{a c:Int}(k:SmG (gOf f a c))(h:hasB a (ln d)=true)(i:hasB c (ln (ix d a mZ).Guests)=true)(e:(ix (ix d a zh).Guests c zy)=gOf f a c) :
 (cond (ze6 ({ (ix (ix (zk f).Mons a zh).Guests c zy) with Prog:=(ix (ix d a zh).Guests c zy).Prog,Written:=(ix (ix d a zh).Guests c zy).Written,Live:=(ix (ix d a zh).Guests c zy).Live,Seen:=(ix (ix d a zh).Guests c zy).Seen}:Guest) (ix (ix (zk f).Mons a zh).Guests c zy).Ctl.Traps 7) (cond (zer ({ (ix (ix (zk f).Mons a zh).Guests c zy) with Prog:=(ix (ix d a zh).Guests c zy).Prog,Written:=(ix (ix d a zh).Guests c zy).Written,Live:=(ix (ix d a zh).Guests c zy).Live,Seen:=(ix (ix d a zh).Guests c zy).Seen}:Guest) (ix (ix (zk f).Mons a zh).Guests c zy).Ctl.Traps 7) (cond (inb a<|ln d) (cond (inb c<|ln (ix d a zh).Guests) (share (up d a ({ (ix d a zh) with Guests:=(up (ix d a zh).Guests c<|zcS ({ (ix (ix (zk f).Mons a zh).Guests c zy) with Prog:=(ix (ix d a zh).Guests c zy).Prog,Written:=(ix (ix d a zh).Guests c zy).Written,Live:=(ix (ix d a zh).Guests c zy).Live,Seen:=(ix (ix d a zh).Guests c zy).Seen}:Guest) (ix (ix (zk f).Mons a zh).Guests c zy).Ctl.Traps 7)}:Mon)) λg=>some [.agg<|zbf ({ (zk f) with Mons:=g}:Host),.one<|.b true]) none) none)<|cond (inb a<|ln d) (cond (inb c<|ln (ix d a zh).Guests) (share (up d a ({ (ix d a zh) with Guests:=(up (ix d a zh).Guests c<|zcS ({ (ix (ix (zk f).Mons a zh).Guests c zy) with Prog:=(ix (ix d a zh).Guests c zy).Prog,Written:=(ix (ix d a zh).Guests c zy).Written,Live:=(ix (ix d a zh).Guests c zy).Live,Seen:=(ix (ix d a zh).Guests c zy).Seen}:Guest) (ix (ix (zk f).Mons a zh).Guests c zy).Ctl.Traps 7)}:Mon)) λg=>some [.agg<|zbf ({ (zk f) with Mons:=g}:Host),.one<|.b true]) none) none) none)=some (ze9 (zhb {f with Mons:=d} a c<|zgx (gOf f a c) (gOf f a c).Ctl.Traps 7,true)):=by
 rw[e];exact must (zbs k) (br (λj=>must (zB h) (must (zB i) rfl)) λj=>must (zB h) (must (zB i) rfl))
theorem zFz (b:Host)(a c:Int)(j:zw8 b a c=true):∃N,zv8 N b a c=some [aH<|zcC b a c,aB<|zcO b a c]:=by
 obtain⟨j,p⟩:=zn9 j;have k:=(zS b).1 (zK.1 j);refine⟨0,?_⟩;show _=some (ze9<|zcM b a c);unfold zv8 oN nB;conv=>zeta
 refine must (zbs<|(zS _).2 k) (must (zbs<|(zS _).2 k)<|brN (λf=>?_) λf=>?_);{rw [zjF f];rfl};obtain⟨r,d,e⟩:=zdH f;have l:=zl3 k d e;have q:zN (gOf b a c)=7:=qD p;rw[zkl f,q];refine must (zB d) (must (zB e)<|must (zkp rfl p) ?_);show _=some (ze9 (zlJ b a c (gOf b a c) 7,true));refine must (zB d) (must rfl (br (λg=>must (zB d) (br (λi=>must (zB d) (must (zB d)<|shr ?_)) λi=>?_)) λg=>?_));{rw [zpq (zZ3 (h:=b) (m:=a) (x:=gOf b a c) (w:=7) rfl g i),zEc (w:=7) rfl];have n:=zp4 d {ix b.Mons a mZ with Own:=zQ .i64 (ix b.Mons a mZ).Own 1};refine zbcA l (zfL d) ?_ ?_;{show hasB c (ln (ix (up b.Mons a _) a mZ).Guests)=true;rw[n];exact e};{show ix (ix (up b.Mons a _) a mZ).Guests c gZ=_;rw[n];rfl}};{rw [zpq<|zZ2 (h:=b) (m:=a) (x:=gOf b a c) (w:=7) i,zEc (w:=7) rfl];exact z8T l d e};{rw [zpq<|zZ1 (h:=b) (m:=a) (x:=gOf b a c) (w:=7) g,zEc (w:=7) rfl];exact z8T l d e}
theorem zBQ:vP 286 zFK:=kF3 z0z zn zbF zid (zq []) zFz
def zrN:List AV->Option (Bool×List AV)
 |[.agg [.s (.sl .int) b,.s .mon c,.s .entry d,.s .entry e],.one<|.i .i64 f,.one<|.i .i64 g]=>some (zdu (⟨b,c,d,e⟩:Host) f g,[aH<|zcC (⟨b,c,d,e⟩:Host) f g,aB<|zcO (⟨b,c,d,e⟩:Host) f g])
 |_=>none
theorem zIs:vP 286 zrN:=by refine⟨zri.1,λw m l n g h=>?_⟩;unfold zrN at h;split at h;{rename_i a b d f i j;obtain⟨k,rfl⟩:=ze7 h;rcases z7v (gOf (⟨a,b,d,f⟩:Host) i j) with e|e|e|e|e|e|e|e;{exact zri.2 w _ l _ g (congrArg (λc=>some (c,ze9<|zcM (⟨a,b,d,f⟩:Host) i j))<|zkp k e)};{exact zBK.2 w _ l _ g (congrArg (λc=>some (c,ze9<|zcM (⟨a,b,d,f⟩:Host) i j))<|zkp k e)};{exact zBL.2 w _ l _ g (congrArg (λc=>some (c,ze9<|zcM (⟨a,b,d,f⟩:Host) i j))<|zkp k e)};{exact zBM.2 w _ l _ g (congrArg (λc=>some (c,ze9<|zcM (⟨a,b,d,f⟩:Host) i j))<|zkp k e)};{exact zBN.2 w _ l _ g (congrArg (λc=>some (c,ze9<|zcM (⟨a,b,d,f⟩:Host) i j))<|zkp k e)};{exact zBO.2 w _ l _ g (congrArg (λc=>some (c,ze9<|zcM (⟨a,b,d,f⟩:Host) i j))<|zkp k e)};{exact zBP.2 w _ l _ g (congrArg (λc=>some (c,ze9<|zcM (⟨a,b,d,f⟩:Host) i j))<|zkp k e)};{exact zBQ.2 w _ l _ g (congrArg (λc=>some (c,ze9<|zcM (⟨a,b,d,f⟩:Host) i j))<|zkp k e)}};{cases h}
@[simp] abbrev zue (h:Host)(m g b a:Int)(c:Bool):Bool:=pc (zdP h)
@[simp] abbrev zt8 (h:Host)(m g b a:Int)(c:Bool):Host:=(lookOf h (zt4 h c) m g b a c).1
@[simp] abbrev zt9 (h:Host)(m g b a:Int)(c:Bool):Int:=(lookOf h (zt4 h c) m g b a c).2.1
@[simp] abbrev zua (h:Host)(m g b a:Int)(c:Bool):Bool:=(lookOf h (zt4 h c) m g b a c).2.2
def zDQ:Run:=rF6 dH dI dI dI dI dB λb c d e f g=>(zue b c d e f g,[aH<|zt8 b c d e f g,aI<|zt9 b c d e f g,aB<|zua b c d e f g])
abbrev zTW (b:lM)(c:lN)(d:lE)(e:lE)(a:Int)(g:Int)(f:Int):Mon :=
 (ix (zgr (⟨b,c,d,e⟩:Host) a g f).Mons a zh)
def ztn (N:Nat)(d:Int)(e:Int)(b:Int)(f:Int)(g:lM)(h:lN)(c:lE)(a:lE):OA:=
 let i:=(⟨e,d,b,f⟩:Entry); (oN (zh0 a i)<|some [aH (⟨g,h,c,zhE a i⟩:Host),aI b,aB true])
def zuP (N:Nat)(d:lM)(e:lN)(f:lE)(g:lE)(b:Int)(i:Int)(h:Int)(a:Int)(c:Int)(s:(Int×Int×Int×Int×lM×lN×lE×lE×lM×lN×lE×lE×Unit)->OA)(k:Int)(l:lM)(m:lN)(n:lE)(p:lE):OA:=
 let x:=(⟨d,e,f,g⟩:Host);let r:=zgr x b i h;let j:=zTW d e f g b i h;let w:=ix j.Tables a zeL;let u:=(ix j.Guests a zy).Live; (oN (zgG x b i h)<|oN (inb b<|ln r.Mons)<|oN (inb a<|ln j.Tables)<|oN (inb a<|ln j.Guests)<|oN (zvJ w u j.Outer c)<|oN (inb a<|ln j.Tables)<|share (up r.Mons b ({j with Tables:=(up j.Tables a<|zvI w u j.Outer c)}:Mon)) (λq=>let v:=(ix q b zh).Tables;let t:=ix v a zeL; (oN (inb a<|ln v)<|oN (zyu t c)<|s (c,k,(zjE t c).Page,(zjE t c).Rights,l,m,n,p,r.Memory,q,r.Buffer,r.IoBuffer,()))))
def zpG (N:Nat)(a:lN)(g:Int)(h:Int)(b:Int)(c:lM)(d:lE)(e:lE)(p:Int)(f:Int)(n:(Int×Int×Int×Int×lM×lN×lE×lE×lM×lN×lE×lE×Unit)->OA)(i:Int)(j:lM)(k:lN)(l:lE)(m:lE):OA:=
 let r:=zuP N c a d e g p f h b n i j k l m;let s:=ix (ix a g zh).Tables h zeL;let q:=zjE s b; (cond (nB<|zpA s b) r<|cond (ieq q.Page<|-1) r<|oN (zbl q.Rights f)<|cond (nB<|zdr q.Rights f) r<|n (b,i,q.Page,q.Rights,j,k,l,m,c,a,d,e,()))
def zto (N:Nat)(c:Int)(d:Int)(e:Int)(i:Int)(j:Int)(k:Int)(l:lM)(m:lN)(n:lE)(p:lE)(f:lM)(b:lN)(g:lE)(h:lE):OA:=
 let r:=(ix b c zh).Tables; (oN (inb c<|ln b)<|oN (inb d<|ln r)<|oN (zyu (ix r d zeL) e)<|share (λ(a:(Int×Int×Int×Int×lM×lN×lE×lE×lM×lN×lE×lE×Unit))=>ztn N a.1 a.2.1 a.2.2.1 a.2.2.2.1 a.2.2.2.2.2.2.2.2.1 a.2.2.2.2.2.2.2.2.2.1 a.2.2.2.2.2.2.2.2.2.2.1 a.2.2.2.2.2.2.2.2.2.2.2.1) λq=>zpG N b c d e f g h j i q k l m n p)
def ztp (N:Nat)(d:Int)(e:Int)(b:Int)(f:Int)(g:lM)(h:lN)(a:lE)(c:lE):OA:=
 let i:=(⟨e,d,b,f⟩:Entry); (oN (zh0 a i)<|some [aH (⟨g,h,zhE a i,c⟩:Host),aI b,aB true])
def ztq (N:Nat)(c:Int)(d:Int)(e:Int)(i:Int)(j:Int)(k:Int)(l:lM)(m:lN)(n:lE)(p:lE)(f:lM)(b:lN)(g:lE)(h:lE):OA:=
 let r:=(ix b c zh).Tables; (oN (inb c<|ln b)<|oN (inb d<|ln r)<|oN (zyu (ix r d zeL) e)<|share (λ(a:(Int×Int×Int×Int×lM×lN×lE×lE×lM×lN×lE×lE×Unit))=>ztp N a.1 a.2.1 a.2.2.1 a.2.2.2.1 a.2.2.2.2.2.2.2.2.1 a.2.2.2.2.2.2.2.2.2.1 a.2.2.2.2.2.2.2.2.2.2.1 a.2.2.2.2.2.2.2.2.2.2.2.1) λq=>zpG N b c d e f g h j i q k l m n p)
def ztr (N:Nat)(f:Int)(g:Int)(c:Int)(e:Int)(r:Bool)(j:Int)(k:lM)(l:lN)(m:lE)(n:lE)(h:lM)(i:lN)(a:lE)(b:lE):OA:=
 let u:=aH (⟨h,i,a,b⟩:Host);let p:=zkS f g;let t:=zg7 a p c;let s:=zg7 b p c; (cond r (oN (zh2 f g)<|share (λ(d:(Int×Int×Int×Int×Int×Int×lM×lN×lE×lE×lM×lN×lE×lE×Unit))=>zto N d.1 d.2.1 d.2.2.1 d.2.2.2.1 d.2.2.2.2.1 d.2.2.2.2.2.1 d.2.2.2.2.2.2.1 d.2.2.2.2.2.2.2.1 d.2.2.2.2.2.2.2.2.1 d.2.2.2.2.2.2.2.2.2.1 d.2.2.2.2.2.2.2.2.2.2.1 d.2.2.2.2.2.2.2.2.2.2.2.1 d.2.2.2.2.2.2.2.2.2.2.2.2.1 d.2.2.2.2.2.2.2.2.2.2.2.2.2.1) λq=>oN (zim b p c)<|cond (zgc b p c) (oN (zbl s.Rights e)<|cond (zdr s.Rights e) (some [u,aI s.Host,aB true])<|q (f,g,c,e,j,p,k,l,m,n,h,i,a,b,()))<|q (f,g,c,e,j,p,k,l,m,n,h,i,a,b,()))<|oN (zh2 f g)<|share (λ(d:(Int×Int×Int×Int×Int×Int×lM×lN×lE×lE×lM×lN×lE×lE×Unit))=>ztq N d.1 d.2.1 d.2.2.1 d.2.2.2.1 d.2.2.2.2.1 d.2.2.2.2.2.1 d.2.2.2.2.2.2.1 d.2.2.2.2.2.2.2.1 d.2.2.2.2.2.2.2.2.1 d.2.2.2.2.2.2.2.2.2.1 d.2.2.2.2.2.2.2.2.2.2.1 d.2.2.2.2.2.2.2.2.2.2.2.1 d.2.2.2.2.2.2.2.2.2.2.2.2.1 d.2.2.2.2.2.2.2.2.2.2.2.2.2.1) λq=>oN (zim a p c)<|cond (zgc a p c) (oN (zbl t.Rights e)<|cond (zdr t.Rights e) (some [u,aI t.Host,aB true])<|q (f,g,c,e,j,p,k,l,m,n,h,i,a,b,()))<|q (f,g,c,e,j,p,k,l,m,n,h,i,a,b,()))
def zts (N:Nat)(c:Int)(i:Int)(d:Int)(b:Int)(m:Bool)(n:lM)(p:lN)(j:lE)(k:lE)(e:lM)(a:lN)(f:lE)(g:lE)(l:lG):OA:=
 let s:=ix a c zh;let r:=(ix l i zy).Live;let q:=zfr r d b; (oN (inb i<|ln l)<|oN (zih r d b)<|cond (nB<|zeY r d b) (some [aH (⟨e,a,f,g⟩:Host),aI<|-1,aB false])<|share (λ(h:(Int×Int×Int×Int×Bool×Int×lM×lN×lE×lE×lM×lN×lE×lE×Unit))=>ztr N h.1 h.2.1 h.2.2.1 h.2.2.2.1 h.2.2.2.2.1 h.2.2.2.2.2.1 h.2.2.2.2.2.2.1 h.2.2.2.2.2.2.2.1 h.2.2.2.2.2.2.2.2.1 h.2.2.2.2.2.2.2.2.2.1 h.2.2.2.2.2.2.2.2.2.2.1 h.2.2.2.2.2.2.2.2.2.2.2.1 h.2.2.2.2.2.2.2.2.2.2.2.2.1 h.2.2.2.2.2.2.2.2.2.2.2.2.2.1) λt=>cond (ieq b 2) (oN (inb c<|ln a)<|oN (inb q<|ln s.Dirty)<|share (up a c ({s with Dirty:=(up s.Dirty q true)}:Mon)) λu=>t (c,i,d,b,m,q,n,p,j,k,e,u,f,g,()))<|t (c,i,d,b,m,q,n,p,j,k,e,a,f,g,()))
def zJU (N:Nat)(d:Host)(e f:Int)(h g:Int)(i:Bool):OA:=
 let c:=zk d;let a:=zdb d e; (oN (zU d)<|oN (zc2 d e)<|share (λ(b:(Int×Int×Int×Int×Bool×Int×Int×Int×lM×lN×lE×lE×lM×lN×lE×lE×lS×lM×lB×lG×(List Int)×lK×Unit))=>zts N b.1 b.2.1 b.2.2.1 b.2.2.2.1 b.2.2.2.2.1 b.2.2.2.2.2.2.2.2.1 b.2.2.2.2.2.2.2.2.2.1 b.2.2.2.2.2.2.2.2.2.2.1 b.2.2.2.2.2.2.2.2.2.2.2.1 b.2.2.2.2.2.2.2.2.2.2.2.2.1 b.2.2.2.2.2.2.2.2.2.2.2.2.2.1 b.2.2.2.2.2.2.2.2.2.2.2.2.2.2.1 b.2.2.2.2.2.2.2.2.2.2.2.2.2.2.2.1 b.2.2.2.2.2.2.2.2.2.2.2.2.2.2.2.2.2.2.2.1) λj=>oN (zcs d)<|cond (nB<|zcm d) (some [aH c,aI<|-1,aB false])<|cond (nB<|zmI d e) (some [aH c,aI<|-1,aB false])<|oN (zbl f<|ln a.Guests)<|cond (nB<|zch f<|ln a.Guests) (some [aH c,aI<|-1,aB false])<|cond (ine g 1) (cond (ine g 2) (some [aH c,aI<|-1,aB false])<|j (e,f,h,g,i,a.Pending,a.Traps,a.Own,[],[],[],[],c.Memory,c.Mons,c.Buffer,c.IoBuffer,a.Outer,a.Out,a.Dirty,a.Guests,a.Outs,a.Tables,()))<|j (e,f,h,g,i,a.Pending,a.Traps,a.Own,[],[],[],[],c.Memory,c.Mons,c.Buffer,c.IoBuffer,a.Outer,a.Out,a.Dirty,a.Guests,a.Outs,a.Tables,()))
def zXe:=zq [(214,999999,{n:=0,tm:=[],lo:=[],ro:=[]}),(214,1007055,{n:=200,tm:=[(1,ti),(2,ti),(3,ti),(4,ti),(5,.b),(12,.lp 0 0),(15,.lp 1 0),(16,.lp 2 0)],lo:=[(0,[.sl 0 [],.sl 1 [],.sl 2 [],.sl 3 []]),(1,[.sl 4 [],.sl 5 [],.sl 6 [],.sl 7 []]),(2,[.sl 8 [],.sl 9 [],.sl 10 [],.sl 11 [],.sl 12 [],ti,ti,.sl 13 [],ti])],ro:=[(0,.sl .int,true),(1,.mon,true),(2,.entry,true),(3,.entry,true),(4,.sl .int,true),(5,.mon,true),(6,.entry,true),(7,.entry,true),(8,.slot,true),(9,.sl .int,true),(10,.bool,true),(11,.guest,true),(12,.int,true),(13,.kept,true)]}),(214,1005039,{n:=200,tm:=[(1,ti),(2,ti),(3,ti),(4,ti),(5,.b),(12,.lp 0 0),(15,.lp 1 0),(18,ti)],lo:=[(0,[.sl 0 [],.sl 1 [],.sl 2 [],.sl 3 []]),(1,[.sl 4 [],.sl 5 [],.sl 6 [],.sl 7 []])],ro:=[(0,.sl .int,true),(1,.mon,true),(2,.entry,true),(3,.entry,true),(4,.sl .int,true),(5,.mon,true),(6,.entry,true),(7,.entry,true)]}),(214,1009019,{n:=200,tm:=[(1,ti),(2,ti),(3,ti),(4,ti),(12,.lp 0 0),(15,.lp 1 0),(18,ti),(20,.lp 1 3),(21,ti)],lo:=[(0,[.sl 0 [],.sl 1 [],.sl 2 [],.sl 3 []]),(1,[.sl 4 [],.sl 5 [],.sl 6 [],.sl 7 []])],ro:=[(0,.sl .int,true),(1,.mon,true),(2,.entry,true),(3,.entry,true),(4,.sl .int,true),(5,.mon,true),(6,.entry,true),(7,.entry,true)]}),(214,1011005,{n:=200,tm:=[(3,ti),(12,.lp 0 0),(15,.lp 1 0),(20,.lp 1 3),(21,ti),(24,.lp 2 0)],lo:=[(0,[.sl 0 [],.sl 1 [],.sl 2 [],.sl 3 []]),(1,[.sl 4 [],.sl 5 [],.sl 6 [],.sl 7 []]),(2,[ti,ti])],ro:=[(0,.sl .int,true),(1,.mon,true),(2,.entry,true),(3,.entry,true),(4,.sl .int,true),(5,.mon,true),(6,.entry,true),(7,.entry,true)]}),(214,1001009019,{n:=200,tm:=[(1,ti),(2,ti),(3,ti),(4,ti),(12,.lp 0 0),(15,.lp 1 0),(18,ti),(20,.lp 1 2),(21,ti)],lo:=[(0,[.sl 0 [],.sl 1 [],.sl 2 [],.sl 3 []]),(1,[.sl 4 [],.sl 5 [],.sl 6 [],.sl 7 []])],ro:=[(0,.sl .int,true),(1,.mon,true),(2,.entry,true),(3,.entry,true),(4,.sl .int,true),(5,.mon,true),(6,.entry,true),(7,.entry,true)]}),(214,1001011005,{n:=200,tm:=[(3,ti),(12,.lp 0 0),(15,.lp 1 0),(20,.lp 1 2),(21,ti),(24,.lp 2 0)],lo:=[(0,[.sl 0 [],.sl 1 [],.sl 2 [],.sl 3 []]),(1,[.sl 4 [],.sl 5 [],.sl 6 [],.sl 7 []]),(2,[ti,ti])],ro:=[(0,.sl .int,true),(1,.mon,true),(2,.entry,true),(3,.entry,true),(4,.sl .int,true),(5,.mon,true),(6,.entry,true),(7,.entry,true)]})]
theorem z8W {N:Nat}{r:Host}{m g a:Int}(b:r.IoBuffer.length<=1048576) :
 ztn N a (zeW m g) (zeN (zco r m g) a).Page (zeN (zco r m g) a).Rights r.Memory r.Mons r.Buffer r.IoBuffer=some (zlq<|zfB r m g a true):=by
 unfold ztn oN
 conv=>zeta
 exact must (zbs b) rfl
theorem z8Y {N:Nat}{r:Host}{m g a:Int}(b:r.Buffer.length<=1048576) :
 ztp N a (zeW m g) (zeN (zco r m g) a).Page (zeN (zco r m g) a).Rights r.Memory r.Mons r.Buffer r.IoBuffer=some (zlq<|zfB r m g a false):=by
 unfold ztp oN
 conv=>zeta
 exact must (zbs b) rfl
theorem z6t {N:Nat}{r:Host}{m g a b q:Int}{R:OA}{r10}{u5 u6 u7 u8 u9}(A:LookAt r m g q b)(c:r10 (a,u5,(zeN (zco (zcW (mended r m q b) m g a) m g) a).Page,(zeN (zco (zcW (mended r m q b) m g a) m g) a).Rights,u6,u7,u8,u9,(zcW (mended r m q b) m g a).Memory,(zcW (mended r m q b) m g a).Mons,(zcW (mended r m q b) m g a).Buffer,(zcW (mended r m q b) m g a).IoBuffer,())=R) :
 zuP N r.Memory r.Mons r.Buffer r.IoBuffer m q b g a r10 u5 u6 u7 u8 u9=R:=by
 have M:=znz A.kp A.hm A.hg;have F:=znz (A.fill a) A.hm A.hg;unfold zuP oN
 conv=>zeta
 exact must (zbs A.mend) (must (zB M.hm)<|must (zB M.ht)<|must (zB M.hg)<|must (zbs M.hk)<|must (zB M.ht)<|shr<|must (zB F.ht) (must rfl c))
theorem lk_3 {N:Nat}{r:Host}{m g a b q:Int}{c:Bool}{r10}{u5 u6 u7 u8 u9}(A:LookAt r m g q b)(h:r10 (a,u5,(zeN (zco (zcW (mended r m q b) m g a) m g) a).Page,(zeN (zco (zcW (mended r m q b) m g a) m g) a).Rights,u6,u7,u8,u9,(zcW (mended r m q b) m g a).Memory,(zcW (mended r m q b) m g a).Mons,(zcW (mended r m q b) m g a).Buffer,(zcW (mended r m q b) m g a).IoBuffer,())=some (zlq<|zfB (zcW (mended r m q b) m g a) m g a c))(i:r10 (a,u5,(zeN (zco r m g) a).Page,(zeN (zco r m g) a).Rights,u6,u7,u8,u9,r.Memory,r.Mons,r.Buffer,r.IoBuffer,())=some (zlq<|zfB r m g a c)) :
 zpG N r.Mons m g a r.Memory r.Buffer r.IoBuffer q b r10 u5 u6 u7 u8 u9=some (zlq<|cond (zfo r m g a b) (zfB (zcW (mended r m q b) m g a) m g a c)<|zfB r m g a c):=by
 unfold zpG oN nB
 conv=>zeta
 refine brN (λd=>?_) (λd=>br (λe=>?_) λe=>must rfl (brN (λf=>?_) λf=>?_))
 .rw [zuI<|zZU d];exact z6t A h
 .rw [zuI<|zZV e];exact z6t A h
 .rw [zuI<|zZW f];exact z6t A h
 .rw [zZz<|zZX d e f];exact i
theorem z8X {N:Nat}{r:Host}{m g a b q:Int}{u6 u7 u8 u9}(A:LookAt r m g q b) :
 zto N m g a b q (zeW m g) u6 u7 u8 u9 r.Memory r.Mons r.Buffer r.IoBuffer=some (zlq<|cond (zfo r m g a b) (zfB (zcW (mended r m q b) m g a) m g a true)<|zfB r m g a true):=by
 have M:=znz ⟨A.fit.1,rfl⟩ A.hm A.hg;have F:=znz (A.fill a) A.hm A.hg;unfold zto oN
 conv=>zeta
 exact must (zB M.hm) (must (zB M.ht) (must rfl (shr<|lk_3 A (z8W (r:=zcW (mended r m q b) m g a) (m:=m) (g:=g) F.hi)<|z8W (r:=r) (m:=m) (g:=g) M.hi)))
theorem z8Z {N:Nat}{r:Host}{m g a b q:Int}{u6 u7 u8 u9}(A:LookAt r m g q b) :
 ztq N m g a b q (zeW m g) u6 u7 u8 u9 r.Memory r.Mons r.Buffer r.IoBuffer=some (zlq<|cond (zfo r m g a b) (zfB (zcW (mended r m q b) m g a) m g a false)<|zfB r m g a false):=by
 have M:=znz ⟨A.fit.1,rfl⟩ A.hm A.hg;have F:=znz (A.fill a) A.hm A.hg;unfold ztq oN
 conv=>zeta
 exact must (zB M.hm) (must (zB M.ht) (must rfl (shr<|lk_3 A (z8Y (r:=zcW (mended r m q b) m g a) (m:=m) (g:=g) F.hb)<|z8Y (r:=r) (m:=m) (g:=g) M.hb)))
theorem z81 {N:Nat}{r:Host}{m g b a q:Int}{e:Bool}{u6 u7 u8 u9}(A:LookAt r m g q a) :
 ztr N m g b a e q u6 u7 u8 u9 r.Memory r.Mons r.Buffer r.IoBuffer=some (zlq<|zhw r (zt4 r e) m g b a q e):=by
 unfold ztr oN
 conv=>zeta
 cases e
 .show _=some (zlq<|zhw r r.Buffer m g b a q false)
  refine zci rfl (must rfl (shr (must rfl (br (λc=>must rfl (br (λd=>?_) λd=>?_)) λc=>?_))))
  .rw [zEC<|zpu c d];rfl
  .rw [zpx<|zpu c d];exact z8Z A
  .rw [zpx<|zEy c];exact z8Z A
 .show _=some (zlq<|zhw r r.IoBuffer m g b a q true)
  refine must rfl (must rfl (shr (must rfl (br (λc=>must rfl (br (λd=>?_) λd=>?_)) λc=>?_))))
  .rw [zEC<|zpu c d];rfl
  .rw [zpx<|zpu c d];exact z8X A
  .rw [zpx<|zEy c];exact z8X A
theorem zbcu (r:Host)(m q:Int)(a:Bool):zt4 (zbP r m q) a=zt4 r a:=by cases a<;>rfl
theorem z88 {N:Nat}{r:Host}{m g b a:Int}{c:Bool}{z1 z2 z3 z4}(k:SmH r)(hg:zcb r m g=true)(h:zhd a=true) :
 zts N m g b a c z1 z2 z3 z4 r.Memory r.Mons r.Buffer r.IoBuffer (ix r.Mons m mZ).Guests=some (zlq (lookOf r (zt4 r c) m g b a c)):=by
 obtain⟨l,f,i⟩:=zdH hg;unfold zts oN nB
 conv=>zeta
 refine must (zB i) (must rfl (brN (fun e=>?_) (fun e=>?_)))
 .have:zb1 r m g b a=false:=by
   unfold zb1;rw[hg,h,show zfq (zcV r m g) b a=false from e];rfl
  rw[ziW this];rfl
 .have hl:zb1 r m g b a=true:=by
   unfold zb1;rw[hg,h,show zfq (zcV r m g) b a=true from e];rfl
  obtain⟨A,B⟩:=zDD k hl;rw[zI4 hl];have j:hasB (zcH (zcV r m g) b a) (ln (ix r.Mons m mZ).Dirty)=true:=zeu (zc3 A.fit.1 f).2.2.2.1 A.hq;refine shr (br (fun d=>?_) (fun d=>?_))
  .rw [d]
   show _=some (zlq (zhw (zbP r m (zcH (zcV r m g) b a)) (zt4 r c) m g b a (zcH (zcV r m g) b a) c))
   rw[<- zbcu r m (zcH (zcV r m g) b a) c];exact must (zB f) (must (zB j) (shr (z81 (r:=zbP r m (zcH (zcV r m g) b a)) B)))
  .rw [d];exact z81 A
theorem zVr (a:Host)(b d:Int)(e c:Int)(f:Bool)(s:zue a b d e c f=true):∃N,zJU N a b d e c f=some [aH<|zt8 a b d e c f,aI<|zt9 a b d e c f,aB<|zua a b d e c f]:=by
 have i:=(zS a).1 (zK.1 s);refine⟨0,?_⟩;show _=some (zlq<|lookOf a (zt4 a f) b d e c f);unfold zJU oN nB;conv=>zeta
 refine must (zbs<|(zS _).2 i) (must (zbs<|(zS _).2 i)<|shr (must rfl (brN (λj=>?_) λj=>?_)));{rw [ziW<|zpy<|zNU j];rfl};refine brN (λg=>?_) (λg=>?_);{rw [ziW<|zpy<|zNV g];rfl};have q:zdb a b=ix a.Mons b mZ:=(by unfold zdb;rw[show hasB b (ln a.Mons)=true from g];rfl);rw[q];refine must rfl (brN (λk=>?_) λk=>?_);{rw [ziW<|zpy<|zNW k];rfl};have hg:=zNX j g k;have m:∀{n:Int},zhd n=false->zb1 a b d e n=false:=λ{n} h=>(by unfold zb1;rw[hg,h];rfl);rw[zjA,zjA];cases l:ieq c 1;{cases p:ieq c 2;{have:zhd c=false:=(by unfold zhd;rw[l,p];rfl);rw[ziW<|m this];rfl};{exact z88 (r:=a) i hg (by unfold zhd;rw[l,p];rfl)}};{exact z88 (r:=a) i hg (by unfold zhd;rw[l];rfl)}
theorem zOq:vP 214 zDQ:=kF6 zi1 zn zbF zid zXe zVr
def z8F:zba:=[(214,zDQ),(286,zrN)]++zoG
theorem zUw:zT z8F:=zi zOq (zi zIs zi1)
@[simp] abbrev zlk (h:Host)(m g b a:Int):Bool:=pc (zdP h)
@[simp] abbrev zt6 (h:Host)(m g page need:Int):Host:=(lookOf h h.Buffer m g page need false).1
@[simp] abbrev zt7 (h:Host)(m g page need:Int):Int:=(lookOf h h.Buffer m g page need false).2.1
@[simp] abbrev zzW (h:Host)(m g b a:Int):Bool:=(lookOf h h.Buffer m g b a false).2.2
def zDO:Run:=rF5 dH dI dI dI dI λb c d e f=>(zlk b c d e f,[aH<|zt6 b c d e f,aI<|zt7 b c d e f,aB<|zzW b c d e f])
def zJI (N:Nat)(a:Host)(b c:Int)(d e:Int):OA:=
 (oN (zue a b c d e false)<|some [aH<|zt8 a b c d e false,aI<|zt9 a b c d e false,aB<|zua a b c d e false])
theorem zVe (a:Host)(b c:Int)(d e:Int)(f:zlk a b c d e=true):∃N,zJI N a b c d e=some [aH<|zt6 a b c d e,aI<|zt7 a b c d e,aB<|zzW a b c d e]:=by refine⟨0,?_⟩;unfold zJI oN;exact must f rfl
theorem zOa:vP 132 zDO:=kF5 zUw zn zbF zid (zq []) zVe
def z8G:zba:=[(132,zDO)]++z8F
theorem z5S:zT z8G:=zi zOa zUw
def brought (n a b:Int):Int:=bif ilt n a then a else (cond (ilt b a) a<|zO7 n b)
@[simp] abbrev zsr (_ _ _:Int):Bool:=true
@[simp] abbrev ztd (n a b:Int):Int:=brought n a b
def ztH:Run:=rF3 dI dI dI λb c d=>(zsr b c d,[aI<|ztd b c d])
def zGc (N:Nat)(b a c:Int):OA:=
 (cond (ilt c a) (some [aI a])<|cond (ilt b a) (some [aI a])<|cond (igt b c) (some [aI c])<|some [aI b])
theorem zSQ (a b c:Int)(g:zsr a b c=true):∃N,zGc N a b c=some [aI<|ztd a b c]:=by refine⟨0,?_⟩;unfold zGc;unfold ztd brought zO7;cases d:ilt c b<;>cases e:ilt a b<;>cases f:igt a c<;>simp [igt] at * <;> omega
theorem zwz:vP 324 ztH:=kF3 zru zn zx zo (zq []) zSQ
structure RI (a:List Bare) (i:Nat) (l:List Bare):Prop where
 len:l.length=a.length
 sm:zZ9 l
 eq:∀k,i<=k->l[k]?=a[k]?
theorem RI.up {a l:List Bare}{i:Nat}(h:RI a i l)(x:Bare)(b:SmB x):RI a (i+1) (up l (i:Int) x):=
 ⟨by rw[zgv];exact h.len,zbaY h.sm b,λk c=>by rw[zbbL (by omega)];exact h.eq k (by omega)⟩
structure RJ (l:List Bare) (i:Nat) (l':List Bare):Prop where
 len:l'.length=l.length
 sm:SmB (ix l' (i:Int) zXB)
 up:∀x,E.up l' (i:Int) x=E.up l (i:Int) x
theorem RJ.next {l a:List Bare}{i:Nat}(h:RJ l i a)(b:i<l.length)(x:Bare)(c:SmB x):RJ l i (E.up a (i:Int) x):=
 ⟨by rw[zgv];exact h.len,by rw[zd6 (by rw[h.len];exact b)];exact c,λy=>by rw[zrf];exact h.up y⟩
def z3b:zba:=[(143,zrM)]++z8G
theorem zRf:zT z3b:=zi zve z5S
def zyT:Run:=rF3 dH dI dI λb c d=>(zdu b c d,[aH<|zcC b c d,aB<|zcO b c d])
abbrev ziR (a:Host)(b c:Int):Int :=
 (zhX<|ix (zdb a b).Guests c zy)
abbrev zdU (a:Host)(b c:Int):Int :=
 (zio<|ix (zdb a b).Guests c zy)
abbrev zxV (a:Host)(b c:Int):Host :=
 (zt6 a b c (zby<|ziR a b c)<|zdF<|ieq (zdU a b c) 4)
abbrev ziQ (a:Host)(b c:Int):Guest :=
 (ix (ix (zk a).Mons b zh).Guests c zy)
abbrev zne (c:lN)(a b:Int):Guest :=
 (ix (ix c a zh).Guests b zy)
abbrev zxW (a:Host)(b c:Int):Int :=
 (zt7 a b c (zby<|ziR a b c)<|zdF<|ieq (zdU a b c) 4)
def znf (N:Nat)(f:Host)(c d:Int):OA:=
 let j:=zxW f c d;let h:=ieq (zdU f c d) 4;let a:=ziR f c d;let b:=zxV f c d;let k:=inb c<|ln b.Mons;let e:=ix (zdb f c).Guests d zy;let g:=ix b.Mons c zh;let l:=inb d<|ln g.Guests; (oN (zbQ a)<|oN (zlz h)<|oN (zlk f c d (zby a)<|zdF h)<|cond (nB<|zzW f c d (zby a)<|zdF h) (oN (zbQ a)<|oN (zg6 (zby a) h)<|oN (zcD e<|ze5 (zby a) h)<|oN k<|oN l<|share (up b.Mons c ({g with Guests:=(up g.Guests d<|zcF e<|ze5 (zby a) h)}:Mon)) λi=>some [aH ({b with Mons:=i}:Host),aB true])<|cond h (oN (zbQ a)<|oN (zeh b.Memory j (zc7 a) e.A)<|oN (zO e)<|oN k<|oN l<|share (up b.Mons c ({g with Guests:=(up g.Guests d<|zce e)}:Mon)) λi=>some [aH ({b with Memory:=(zeE b.Memory j (zc7 a) e.A),Mons:=i}:Host),aB true])<|oN (zbQ a)<|oN (zfJ b.Memory j<|zc7 a)<|oN (znV e<|zgN b.Memory j<|zc7 a)<|oN k<|oN l<|share (up b.Mons c ({g with Guests:=(up g.Guests d<|zlx e<|zgN b.Memory j<|zc7 a)}:Mon)) λi=>some [aH ({b with Mons:=i}:Host),aB true])
def zng (N:Nat)(f:Host)(a b:Int)(d:lN):OA:=
 let c:=zne d a b;let e:=ix d a zh;let g:=({ (ziQ f a b) with Prog:=c.Prog,Written:=c.Written,Live:=c.Live,Seen:=c.Seen}:Guest); (oN (zO g)<|oN (inb b<|ln e.Guests)<|share (up d a ({e with Guests:=(up e.Guests b<|zce g)}:Mon)) λh=>some [aH ({ (zk f) with Mons:=h}:Host),aB true])
def znh (N:Nat)(e:Host)(a d:Int):OA:=
 let g:=(zk e).Mons;let c:=ziQ e a d;let b:=ix g a zh;let h:=ap b.Outs [(zea c.Prog c.Pc).X]; (cond (ieq (zdU e a d) 7) (oN (zO c)<|oN (inb d<|ln b.Guests)<|share (up g a ({b with Guests:=(up b.Guests d<|zja c)}:Mon)) λf=>some [aH ({ (zk e) with Mons:=f}:Host),aB true])<|cond (ilt (ln b.Outs) 40) (oN (zef c.Prog c.Pc)<|oN (few<|ln h)<|oN (cond (ieq a a) true false)<|share (up g a ({b with Outs:=h}:Mon)) λf=>zng N e a d f)<|oN (zO c)<|oN (inb d<|ln b.Guests)<|share (up g a ({b with Guests:=(up b.Guests d<|zce c)}:Mon)) λf=>some [aH ({ (zk e) with Mons:=f}:Host),aB true])
def zni (N:Nat)(a:Int)(g:Host)(b:Int):OA:=
 let f:=zk g;let j:=zdU g a b;let d:=ziQ g a b;let c:=ix f.Mons a zh;let l:=zk6 c.Traps d.Ctl.Traps<|zi4 j; (oN (inb a<|ln f.Mons)<|oN (inb b<|ln c.Guests)<|oN (zp0 j)<|oN (zoy c.Traps d.Ctl.Traps<|zi4 j)<|cond (ieq l 1) (oN (zok d j)<|oN (inb b<|ln c.Guests)<|share (up f.Mons a ({c with Guests:=(up c.Guests b<|zk3 d j)}:Mon)) λe=>some [aH ({f with Mons:=e}:Host),aB true])<|cond (ieq l 2) (cond (ilt c.Own 1000000000) (share (up f.Mons a ({c with Own:=(zQ .i64 c.Own 1)}:Mon)) (λe=>let i:=ix e a zh;let h:=zne e a b;let k:=ap i.Outs [(zea h.Prog d.Pc).X];let q:=({d with Prog:=h.Prog,Written:=h.Written,Live:=h.Live,Seen:=h.Seen}:Guest); (cond (ieq j 7) (oN (zO q)<|oN (inb b<|ln i.Guests)<|share (up e a ({i with Guests:=(up i.Guests b<|zja q)}:Mon)) λm=>some [aH ({f with Mons:=m}:Host),aB true])<|cond (ilt (ln i.Outs) 40) (oN (zef h.Prog d.Pc)<|oN (few<|ln k)<|oN (cond (ieq a a) true false)<|share (up e a ({i with Outs:=k}:Mon)) (λm=>let p:=ix m a zh;let n:=ix p.Guests b zy;let r:=({d with Prog:=n.Prog,Written:=n.Written,Live:=n.Live,Seen:=n.Seen}:Guest); (oN (zO r)<|oN (inb b<|ln p.Guests)<|share (up m a ({p with Guests:=(up p.Guests b<|zce r)}:Mon)) λs=>some [aH ({f with Mons:=s}:Host),aB true])))<|zng N g a b e)))<|znh N g a b)<|znh N g a b)
def zku (N:Nat)(a:Host)(b c:Int):OA:=
 (oN (zc2 a b)<|oN (zcB (zc4 a b) c)<|oN (inb b<|ln (zk a).Mons)<|share (up (zk a).Mons b ({ (ix (zk a).Mons b zh) with Guests:=(zkA (zc4 a b) c).Guests}:Mon)) λd=>some [aH ({ (zk a) with Mons:=d}:Host),aB true])
def zhe (N:Nat)(a:Host)(b c:Int):OA:=
 let d:=zdU a b c; (cond (ieq d 5) (cond (ieq d 5) (zni N b a c)<|zku N a b c)<|cond (ieq d 7) (zni N b a c)<|zku N a b c)
def zB2 (N:Nat)(a:Host)(c b:Int):OA:=
 let f:=aH<|zk a;let e:=zdU a c b;let d:=(zdb a c).Guests;let g:=ix d b zy; (oN (zU a)<|oN (zc2 a c)<|oN (zcs a)<|cond (nB<|zcm a) (some [f,aB false])<|cond (nB<|zmI a c) (some [f,aB false])<|oN (zbl b<|ln d)<|cond (nB<|zch b<|ln d) (some [f,aB false])<|oN (inb b<|ln d)<|oN (zbx g)<|cond (ieq e 0) (some [f,aB false])<|oN (inb b<|ln d)<|oN (zbx g)<|oN (zbx g)<|cond (ieq e 3) (cond (ieq e 3) (znf N a c b)<|zhe N a c b)<|cond (ieq e 4) (znf N a c b)<|zhe N a c b)
theorem zVY {h:Host}{m:Int}(a:hasB m (ln h.Mons)=true):zdb h m=ix h.Mons m mZ:=by unfold zdb;rw[a];rfl
theorem is_1 {N:Nat}{a:Host}{c d:Int}(l:SmH a)(p:zcb a c d=true) :
 znf N a c d=some (ze9 (ziq (zjq a c d (gOf a c d)<|ieq (zN<|gOf a c d) 4) c d (gOf a c d)<|ieq (zN<|gOf a c d) 4,true)):=by
 obtain⟨s,i,n⟩:=zdH p;have m:=zl3 l i n;have k:=zuH (b:=a.Buffer) (page:=zbn (address<|gOf a c d)) (need:=zcv (ieq (zN<|gOf a c d) 4)) (io:=false) l p;have F:=znz k i n;have g:=zVY i;have e:zdU a c d=zN (gOf a c d):=by show zio (ix (zdb a c).Guests d gZ)=_;rw[g];rfl
 have f:ziR a c d=address (gOf a c d):=by show zhX (ix (zdb a c).Guests d gZ)=_;rw[g];rfl
 have q:zxV a c d=(zjq a c d (gOf a c d)<|ieq (zN<|gOf a c d) 4).1:=by show zt6 a c d (zby<|ziR a c d) (zdF<|ieq (zdU a c d) 4)=_;rw[e,f];rfl
 have r:zxW a c d=(zjq a c d (gOf a c d)<|ieq (zN<|gOf a c d) 4).2.1:=by show zt7 a c d (zby<|ziR a c d) (zdF<|ieq (zdU a c d) 4)=_;rw[e,f];rfl
 unfold znf oN nB
 conv=>zeta
 rw[q,e,f,r,g];unfold ziq;refine must rfl (must rfl (must (zbs<|(zS _).2 l)<|brN (λh=>?_) λh=>?_))
 .rw [show (zjq a c d (gOf a c d)<|ieq (zN<|gOf a c d) 4).2.2=false from h]
  exact must rfl (must rfl (must (zbs m)<|must (zB F.hm) (must (zB F.hg) rfl)))
 .rw [show (zjq a c d (gOf a c d)<|ieq (zN<|gOf a c d) 4).2.2=true from h]
  refine br (λj=>?_) (λj=>?_)
  .have kk:=k.shape.1.1;rw[j] at F kk ⊢;exact must rfl (must (zbs kk)<|must (zbs m)<|must (zB F.hm) (must (zB F.hg) rfl))
  .rw [j] at F ⊢;exact must rfl (must rfl (must (zbs m)<|must (zB F.hm) (must (zB F.hg) rfl)))
theorem is_2 {N:Nat}{c:Host}{d:List Mon}{a b:Int}(g:SmG (gOf c a b))(f:hasB b (ln (ix d a mZ).Guests)=true)(e:zne d a b=ziQ c a b) :
 zng N c a b d=some (ze9 (zhb {c with Mons:=d} a b<|zcg<|gOf c a b,true)):=by
 unfold zng oN
 conv=>zeta
 rw[e];exact must (zbs g) (must (zB f) rfl)
def leftG (x:Guest)(w:Int):Guest:=bif ieq w 7 then held x else zcg x
def zz3 (h:Host)(m:Int)(x:Guest)(w:Int):Host:=bif ieq w 7 then h else zi7 h m (zcK x.Prog x.Pc).X
theorem zyF {h:Host}{m:Int}{x:Guest}{w:Int}(a:ieq w 7=true):leftG x w=held x/\zz3 h m x w=h:=by unfold leftG zz3;rw[a];exact⟨rfl,rfl⟩
theorem zoo {h:Host}{m:Int}{x:Guest}{w:Int}(a:ieq w 7=false):leftG x w=zcg x/\zz3 h m x w=zi7 h m (zcK x.Prog x.Pc).X:=by unfold leftG zz3;rw[a];exact⟨rfl,rfl⟩
theorem zZH {h:Host}{m n:Int}(a:ilt (ln (ix h.Mons m mZ).Outs) 40=true):zi7 h m n={h with Mons:=up h.Mons m {ix h.Mons m mZ with Outs:=ap (ix h.Mons m mZ).Outs [n]}}:=by unfold zi7;rw[a];rfl
theorem zZG {h:Host}{m n:Int}(a:ilt (ln (ix h.Mons m mZ).Outs) 40=false):zi7 h m n=h:=by unfold zi7;rw[a];rfl
theorem is_3 {N:Nat}{b:Host}{a c:Int}(k:SmH b)(g:hasB a (ln b.Mons)=true)(e:hasB c (ln (ix b.Mons a mZ).Guests)=true)(j:zdU b a c=zN (gOf b a c)) :
 znh N b a c=some (ze9 (zhb (zz3 b a (gOf b a c)<|zN<|gOf b a c) a c<|leftG (gOf b a c)<|zN<|gOf b a c,true)):=by
 have i:=zl3 k g e;unfold znh oN
 conv=>zeta
 rw[j];refine br (λd=>?_) (λd=>br (λf=>?_) λf=>?_)
 .rw [(zyF (x:=gOf b a c) (h:=b) (m:=a) d).1,(zyF (x:=gOf b a c) d).2];exact must (zbs i) (must (zB e) rfl)
 .rw [(zoo (x:=gOf b a c) (h:=b) (m:=a) d).1,(zoo (x:=gOf b a c) d).2,zZH f];refine must rfl (must (zTK f)<|must (zL2 _)<|shr<|is_2 i ?_ ?_)
  .rw [zp4 g];exact e
  .show ix (ix (up b.Mons a _) a mZ).Guests c gZ=_
   rw[zp4 g]
 .rw [(zoo (x:=gOf b a c) (h:=b) (m:=a) d).1,(zoo (x:=gOf b a c) d).2,zZG f];exact must (zbs i) (must (zB e) rfl)
theorem zbcd {h:Host}{m g:Int}{x:Guest}{w:Int}(d:ieq w 6=false)(c:ieq w 5=false->ieq w 6=false->ieq w 7=true)(e:zet x.Ctl.Traps (zgu w)=false):zlJ h m g x w=zhb (zz3 (zfh h m x w) m x w) m g (leftG x w):=by unfold zlJ;cases b:ieq w 7;{have a:ieq w 5=true:=(by cases a:ieq w 5;{have:=c a d;rw[b] at this;cases this};{rfl});obtain⟨f,i⟩:=tr3 x x.Ctl.Traps w d b e a;rw[(zoo (x:=x) (h:=zfh h m x w) (m:=m) b).1,(zoo (x:=x) b).2,f];unfold zhM;rw[i,a];rfl};{have a:ieq w 5=false:=(by have:w=7:=qD b;rw[this];rfl);rw[(zyF (x:=x) (h:=zfh h m x w) (m:=m) b).1,(zyF (x:=x) b).2,tr4 x x.Ctl.Traps w d c e a,zEc a]}
theorem is_p {f:Host}{d:List Mon}{a c:Int}(h:SmG (gOf f a c))(g:hasB c (ln (ix d a mZ).Guests)=true)(e:(ix (ix d a zh).Guests c zy)=gOf f a c) :
 (cond (zO ({ (ix (ix (zk f).Mons a zh).Guests c zy) with Prog:=(ix (ix d a zh).Guests c zy).Prog,Written:=(ix (ix d a zh).Guests c zy).Written,Live:=(ix (ix d a zh).Guests c zy).Live,Seen:=(ix (ix d a zh).Guests c zy).Seen}:Guest)) (cond (inb c<|ln (ix d a zh).Guests) (share (up d a ({ (ix d a zh) with Guests:=(up (ix d a zh).Guests c<|zce ({ (ix (ix (zk f).Mons a zh).Guests c zy) with Prog:=(ix (ix d a zh).Guests c zy).Prog,Written:=(ix (ix d a zh).Guests c zy).Written,Live:=(ix (ix d a zh).Guests c zy).Live,Seen:=(ix (ix d a zh).Guests c zy).Seen}:Guest))}:Mon)) λi=>some [.agg<|zbf ({ (zk f) with Mons:=i}:Host),.one<|.b true]) none) none)=some (ze9 (zhb {f with Mons:=d} a c<|zcg<|gOf f a c,true)):=by
 rw[e];exact must (zbs h) (must (zB g) rfl)
theorem is_o {f:Host}{d:List Mon}{a c:Int}(l:SmG (gOf f a c))(n:hasB a (ln d)=true)(k:hasB c (ln (ix d a mZ).Guests)=true)(e:(ix (ix d a zh).Guests c zy)=gOf f a c) :
 (cond (ieq (zN<|gOf f a c) 7) (cond (zO ({ (ix (ix (zk f).Mons a zh).Guests c zy) with Prog:=(ix (ix d a zh).Guests c zy).Prog,Written:=(ix (ix d a zh).Guests c zy).Written,Live:=(ix (ix d a zh).Guests c zy).Live,Seen:=(ix (ix d a zh).Guests c zy).Seen}:Guest)) (cond (inb c<|ln (ix d a zh).Guests) (share (up d a ({ (ix d a zh) with Guests:=(up (ix d a zh).Guests c<|zja ({ (ix (ix (zk f).Mons a zh).Guests c zy) with Prog:=(ix (ix d a zh).Guests c zy).Prog,Written:=(ix (ix d a zh).Guests c zy).Written,Live:=(ix (ix d a zh).Guests c zy).Live,Seen:=(ix (ix d a zh).Guests c zy).Seen}:Guest))}:Mon)) λg=>some [.agg<|zbf ({ (zk f) with Mons:=g}:Host),.one<|.b true]) none) none)<|cond (ilt (ln (ix d a zh).Outs) 40) (cond (zef (ix (ix d a zh).Guests c zy).Prog (ix (ix (zk f).Mons a zh).Guests c zy).Pc) (cond (few<|ln<|ap (ix d a zh).Outs [(zea (ix (ix d a zh).Guests c zy).Prog (ix (ix (zk f).Mons a zh).Guests c zy).Pc).X]) (cond (cond (ieq a a) true false) (share (up d a ({ (ix d a zh) with Outs:=(ap (ix d a zh).Outs [(zea (ix (ix d a zh).Guests c zy).Prog (ix (ix (zk f).Mons a zh).Guests c zy).Pc).X])}:Mon)) λg=>cond (zO ({ (ix (ix (zk f).Mons a zh).Guests c zy) with Prog:=(ix (ix g a zh).Guests c zy).Prog,Written:=(ix (ix g a zh).Guests c zy).Written,Live:=(ix (ix g a zh).Guests c zy).Live,Seen:=(ix (ix g a zh).Guests c zy).Seen}:Guest)) (cond (inb c<|ln (ix g a zh).Guests) (share (up g a ({ (ix g a zh) with Guests:=(up (ix g a zh).Guests c<|zce ({ (ix (ix (zk f).Mons a zh).Guests c zy) with Prog:=(ix (ix g a zh).Guests c zy).Prog,Written:=(ix (ix g a zh).Guests c zy).Written,Live:=(ix (ix g a zh).Guests c zy).Live,Seen:=(ix (ix g a zh).Guests c zy).Seen}:Guest))}:Mon)) λp=>some [.agg<|zbf ({ (zk f) with Mons:=p}:Host),.one<|.b true]) none) none) none) none) none)<|cond (zO ({ (ix (ix (zk f).Mons a zh).Guests c zy) with Prog:=(ix (ix d a zh).Guests c zy).Prog,Written:=(ix (ix d a zh).Guests c zy).Written,Live:=(ix (ix d a zh).Guests c zy).Live,Seen:=(ix (ix d a zh).Guests c zy).Seen}:Guest)) (cond (inb c<|ln (ix d a zh).Guests) (share (up d a ({ (ix d a zh) with Guests:=(up (ix d a zh).Guests c<|zce ({ (ix (ix (zk f).Mons a zh).Guests c zy) with Prog:=(ix (ix d a zh).Guests c zy).Prog,Written:=(ix (ix d a zh).Guests c zy).Written,Live:=(ix (ix d a zh).Guests c zy).Live,Seen:=(ix (ix d a zh).Guests c zy).Seen}:Guest))}:Mon)) λg=>some [.agg<|zbf ({ (zk f) with Mons:=g}:Host),.one<|.b true]) none) none)=some (ze9 (zhb (zz3 {f with Mons:=d} a (gOf f a c)<|zN<|gOf f a c) a c<|leftG (gOf f a c)<|zN<|gOf f a c,true)):=by
 rw[e];refine br (λi=>?_) (λi=>br (λj=>?_) λj=>?_)
 .rw [(zyF (x:=gOf f a c) (h:={f with Mons:=d}) (m:=a) i).1,(zyF (x:=gOf f a c) i).2];exact must (zbs l) (must (zB k) rfl)
 .rw [(zoo (x:=gOf f a c) (h:={f with Mons:=d}) (m:=a) i).1,(zoo (x:=gOf f a c) i).2,zZH (h:={f with Mons:=d}) j];refine must rfl (must (zTK j)<|must (zL2 _)<|shr<|is_p l ?_ ?_)
  .rw [zp4 (h:={f with Mons:=d}) n];exact k
  .show ix (ix (up d a _) a mZ).Guests c gZ=_
   rw[zp4 (h:={f with Mons:=d}) n];exact e
 .rw [(zoo (x:=gOf f a c) (h:={f with Mons:=d}) (m:=a) i).1,(zoo (x:=gOf f a c) i).2,zZG (h:={f with Mons:=d}) j];exact must (zbs l) (must (zB k) rfl)
theorem tf (b:Bool):b=false\/b=true:=by cases b<;>simp
theorem is_4 {N:Nat}{a:Host}{b c:Int}(r:SmH a)(d:hasB b (ln a.Mons)=true)(e:hasB c (ln (ix a.Mons b mZ).Guests)=true)(q:zdU a b c=zN (gOf a b c))(l:ieq (zN<|gOf a b c) 6=false)(f:ieq (zN<|gOf a b c) 5=false->ieq (zN<|gOf a b c) 6=false->ieq (zN<|gOf a b c) 7=true) :
 zni N b a c=some (ze9 (zlJ a b c (gOf a b c)<|zN<|gOf a b c,true)):=by
 have s:=zl3 r d e;have n:=is_3 (N:=N) r d e q;have g:ine (zN<|gOf a b c) 6=true:=by rw[zjA,l];rfl
 unfold zni oN
 conv=>zeta
 rw[q];refine must (zB d) (must (zB e) (must rfl (must rfl ?_)));rw[show ieq (zk6 (ix a.Mons b zh).Traps (ziQ a b c).Ctl.Traps<|zi4<|zN<|gOf a b c) 1=zet (gOf a b c).Ctl.Traps (zgu<|zN<|gOf a b c) from zbb1 _ _ _]
 refine br (λh=>?_) (λh=>?_)
 .obtain⟨e1,e2⟩:=tr2 (gOf a b c) (gOf a b c).Ctl.Traps _ l f h;have i:zfh a b (gOf a b c) (zN<|gOf a b c)=a:=by unfold zfh;rw[g,zbb2 h];rfl
  unfold zlJ;rw[i,zNk e2,e1];exact must (zbs s) (must (zB e) rfl)
 .rw [zbcd l f h];have i:zfh a b (gOf a b c) (zN<|gOf a b c)=bif ieq (zoc (ix a.Mons b mZ).Traps (gOf a b c).Ctl.Traps<|zgu<|zN<|gOf a b c) 2 then owned a b else a:=by unfold zfh;rw[g];rfl
  rw[i];refine br (λm=>?_) (λm=>?_)
  .rw [show ieq (zoc (ix a.Mons b mZ).Traps (gOf a b c).Ctl.Traps<|zgu<|zN<|gOf a b c) 2=true from m]
   simp only[cT];unfold owned;refine br (λk=>?_) (λk=>?_)
   rotate_left
   .rw [k];exact n
   rw[k];refine shr ?_;have p:=zp4 d {ix a.Mons b mZ with Own:=zQ .i64 (ix a.Mons b mZ).Own 1};have j:hasB b (ln<|up a.Mons b {ix a.Mons b mZ with Own:=zQ .i64 (ix a.Mons b mZ).Own 1})=true:=zfL d;have t:zne (up a.Mons b {ix a.Mons b mZ with Own:=zQ .i64 (ix a.Mons b mZ).Own 1}) b c=ziQ a b c:=by show ix (ix (up a.Mons b _) b mZ).Guests c gZ=_;rw[p]
   refine is_o s j ?_ t;rw[p];exact e
  .rw [show ieq (zoc (ix a.Mons b mZ).Traps (gOf a b c).Ctl.Traps<|zgu<|zN<|gOf a b c) 2=false from m]
   exact n
theorem z6p {N:Nat}{a:Host}{b c:Int}(r:SmH a)(q:zcb a b c=true)(m:ieq (zN<|gOf a b c) 0=false){y:Guest}{o:List Int}(s:(stepped (zC a b) c (gOf a b c)<|zN<|gOf a b c).Guests=up (ix a.Mons b mZ).Guests c y)(p:SmB (zC a b)) :
 zku N a b c=some (ze9 (zhb a b c y,true)):=by
 obtain⟨k,f,l⟩:=zdH q;have g:=zr4 k f;have i:(zC a b).Guests=(ix a.Mons b mZ).Guests:=by unfold zC;rw[f];rfl
 have e:hasB c (ln (zC a b).Guests)=true:=by rw[i];exact l
 have h:gAt (zC a b) c=gOf a b c:=by unfold gAt;rw[e,i];rfl
 have d:zh5 (zC a b) c=true:=by unfold zh5;rw[e,g,h,m];rfl
 have j:zfN (zC a b) c=stepped (zC a b) c (gOf a b c) (zN<|gOf a b c):=by unfold zfN;rw[d,h];rfl
 have n:(zkA (zc4 a b) c).Guests=up (ix a.Mons b mZ).Guests c y:=by show (zfN (zC a b) c).Guests=_;rw[j,s]
 unfold zku oN;rw[n];exact must (zbs<|(zS _).2 r) (must (zbs p) (must (zB f) rfl))
theorem zeV {h:Host}{m:Int}(g:SmH h)(f:hasB m (ln h.Mons)=true):SmB (zC h m):=by
 have b:=g.2.1.2 _ (zbM f mZ);have e:∀(d:List (List Int)) (q:Int),SmM d->(zc5 d q).length<=1048576:=λd q h=>zWT h;have c:∀p:Int,(zc0 h m p).length<=1048576:=by intro p;unfold zc0;cases hasB m (ln h.Mons);{exact(by decide:zAy.length<=1048576)};{cases hasB p 8;{exact(by decide:zAy.length<=1048576)};{simp only [cT];cases ine (zbK (ix h.Mons m zh).Outer p).Page (-1);{exact e _ _ b.2.1};{exact e _ _ g.1}}}
 have j:∀(n i:Nat),∀x∈zc6 h m n i,x.length<=1048576:=by
  intro n
  induction n with
  |zero=>intro i x a;cases a
  |succ n k=>intro i x a;rcases qG.1 a with rfl|a;{exact c _};{exact k (i+1) x a}
 unfold zC;rw[f];exact⟨⟨by show (zc6 h m 8 0).length<=1048576;rw[zAa];decide,j 8 0⟩,b.2.2.2.1,b.2.2.2.2.1⟩
theorem zxx (b:Bare)(g:Int)(x:Guest):(zeK b g x).Guests=up b.Guests g x:=rfl
theorem zPi (a:Host)(b c:Int)(q:zbR big [aH a,aI b,aI c])(B:zdu a b c=true):∃N,zB2 N a b c=some [aH (zcC a b c),aB (zcO a b c)]:=by
 have g:=(zS a).1 (zK.1 B);refine⟨0,?_⟩;show _=some (ze9 (zcM a b c));unfold zB2 oN nB;conv=>zeta
 refine must (zbs ((zS _).2 g)) (must (zbs ((zS _).2 g)) (must rfl (brN (fun u=>?_) (fun u=>brN (fun l=>?_) (fun l=>?_)))));{rw [zjF (zNU u)];rfl};{rw [zjF (zNV l)];rfl};have y:=zVY (h:=a) (m:=b) l;have n:zdU a b c=zN (gOf a b c):=(by show zio (ix (zdb a b).Guests c gZ)=_;rw[y];rfl);rw[y,n];refine must rfl (brN (fun p=>?_) (fun p=>?_));{rw [zjF (zNW p)];rfl};have j:=zNX u l p;have s:hasB b (ln a.Mons)=true:=l;have t:hasB c (ln (ix a.Mons b mZ).Guests)=true:=p;have q:=zeV g s;have r:(zC a b).Guests=(ix a.Mons b mZ).Guests:=(by unfold zC;rw[s];rfl);rw[zkl j];unfold zNe;refine must (zB t) (must rfl (br (fun d=>?_) (fun d=>must (zB t) (must rfl (must rfl (br (fun i=>must i ?_) (fun i=>br (fun k=>?_) (fun k=>?_))))))));{rw [d];rfl};{have e:zN (gOf a b c)=3:=qD i;have T:=is_1 (N:=0) g j;rw[T];rw[e];rfl};{have e:zN (gOf a b c)=4:=qD k;have T:=is_1 (N:=0) g j;rw[T];rw[e];rfl}
 .have fin:∀{R:Host×Bool},zhe 0 a b c=some (ze9 R)->R=(bif ieq (zN (gOf a b c)) 0 then (a,false) else (bif ieq (zN (gOf a b c)) 1 then (zhb a b c (interrupted (gOf a b c)),true) else (bif ieq (zN (gOf a b c)) 2 then (zhb a b c (plainly (gOf a b c)),true) else
   (cond (cond (ieq (zN (gOf a b c)) 3) true (ieq (zN (gOf a b c)) 4)) (ziq (zjq a b c (gOf a b c) (ieq (zN (gOf a b c)) 4)) b c (gOf a b c) (ieq (zN (gOf a b c)) 4),true) (zlJ a b c (gOf a b c) (zN (gOf a b c)),true)))))->zhe 0 a b c=_:=fun h e=>h.trans (congrArg (fun x=>some (ze9 x)) e)
  have w:ieq (zN (gOf a b c)) 5=false->ieq (zN (gOf a b c)) 7=false->zhe 0 a b c=zku 0 a b c:=by
   intro v A;unfold zhe;conv=>zeta
   rw[n];exact zci v (zci A rfl)
  rcases tf (ieq (zN (gOf a b c)) 1) with f|f
  .rcases tf (ieq (zN (gOf a b c)) 2) with w2|w2
   .rcases tf (ieq (zN (gOf a b c)) 6) with w6|w6
    .have h57:ieq (zN (gOf a b c)) 5=false->ieq (zN (gOf a b c)) 6=false->ieq (zN (gOf a b c)) 7=true:=fun v z=>z2k _ d f w2 i k v z;have T:=is_4 (N:=0) g s t n w6 h57;refine fin (R:=(zlJ a b c (gOf a b c) (zN (gOf a b c)),true)) ?_ (by rw[d,f,w2,i,k];rfl);unfold zhe;conv=>zeta
     rw[n];cases C:ieq (zN (gOf a b c)) 5;{exact zci rfl (must (h57 C w6) T)};{exact must rfl (must rfl T)}
    {have e:zN (gOf a b c)=6:=qD w6;refine fin (R:=(zhb a b c (zgx (gOf a b c) (gOf a b c).Ctl.Traps (zN (gOf a b c))),true)) ?_ ?_;{rw [w (by rw[e];rfl) (by rw[e];rfl)];refine z6p (o:=[]) g j d ?_ q;unfold stepped zrS;rw[f,w2,i,k,(tr1 (gOf a b c) (gOf a b c).Ctl.Traps _ w6).2];show (zeK (zC a b) c _).Guests=_;rw[zxx,r]};{rw [d,f,w2,i,k];unfold zlJ zfh;rw[zNk (tr1 (gOf a b c) (gOf a b c).Ctl.Traps _ w6).2,zjA,w6];rfl}}
   {have e:zN (gOf a b c)=2:=qD w2;refine fin (R:=(zhb a b c (plainly (gOf a b c)),true)) ?_ (by rw[d,f,w2];rfl);rw[w (by rw[e];rfl) (by rw[e];rfl)];refine z6p (o:=[]) g j d ?_ q;unfold stepped;rw[f,w2];show (zeK (zC a b) c _).Guests=_;rw[zxx,r]}
  {have e:zN (gOf a b c)=1:=qD f;refine fin (R:=(zhb a b c (interrupted (gOf a b c)),true)) ?_ (by rw[d,f];rfl);rw[w (by rw[e];rfl) (by rw[e];rfl)];refine z6p (o:=[]) g j d ?_ q;unfold stepped;rw[f];show (zeK (zC a b) c _).Guests=_;rw[zxx,r]}
theorem zH2:vP 70 zyT:=hF3 zRf zn zbF zid (zq []) zPi
def z8H:zba:=[(70,zyT)]++z3b
theorem z5T:zT z8H:=zi zH2 zRf
def z8I:zba:=[(324,ztH)]++z8H
theorem z5U:zT z8I:=zi zwz z5T
def cnt (l:List Mon):List Nat:=l.map λx=>x.Guests.length
theorem zbbp {l a:List Mon}(h:zfk a=zfk l):cnt a=cnt l:=by have e:∀l:List Mon,cnt l=(zfk l).map List.length:=λl=>(by simp[cnt,zfk]);rw[e,e,h]
theorem zUg {l:List Mon}{m:Int}{x:Mon}(b:hasB m (ln l)=true)(c:x.Guests.length=(ix l m mZ).Guests.length):cnt (up l m x)=cnt l:=by obtain⟨k,rfl,a⟩:=zeG (n:=l.length) b;unfold cnt up;rw[List.map_set,kH,c,zbu a];have:=@u3 _ (l.map λx=>x.Guests.length) k (by simpa using a);simpa using this
theorem z9T {l a:List Mon}(h:cnt a=cnt l):a.length=l.length:=by have:=congrArg List.length h;simpa [cnt] using this
theorem zbbq {l b:List Mon}(h:cnt b=cnt l)(m:Int):(ix b m mZ).Guests.length=(ix l m mZ).Guests.length:=by have a:(cnt b)[m.toNat]?=(cnt l)[m.toNat]?:=(by rw[h]);unfold cnt at a;rw[qP,qP]at a;unfold ix;simp only[kA];cases c:b[m.toNat]? <;> cases d:l[m.toNat]? <;> rw [c,d]at a<;>simp at a ⊢;exact a
theorem zbaE (h:Host)(m p:Int):(zeJ h m p).Memory=h.Memory:=(zhT (zga h m p) m p noSlot).2
theorem zbaD (h:Host):(zdX h).Memory=h.Memory:=by unfold zdX;cases ieq (ln<|zcT h) 0;{rfl};{exact zbaE _ _ _}
theorem zbaC (m:List (List Int))(p:Int)(c:List Int):(zkn m p c).length=m.length:=by unfold zkn;cases hasB p (ln m);{rfl};{cases zc1 c;{rfl};{simp}}
theorem zbaA (m:List (List Int))(p c v:Int):(zbW m p c v).length=m.length:=by unfold zbW;cases zhc m p c;{rfl};{cases zl v 0 99;{rfl};{simp}}
theorem z1g (h:Host)(m p:Int):(fetched h m p).Memory.length=h.Memory.length:=by unfold fetched zgh;rw[(zhT _ _ _ _).2];unfold landing;rw[zbaC,zbaD]
theorem zVX (h:Host)(m p n:Int):(zlo h m p n).Memory=h.Memory:=by unfold zlo;cases ieq (wand .i64 n 2) 0;{unfold opened;cases ieq (wand .i64 (ix (ix (zbP h m p).Mons m mZ).Outer p sZ).Rights 2) 0;{rfl};{exact(zhT _ _ _ _).2}};{rfl}
theorem z3S (h:Host)(m p n:Int):(mended h m p n).Memory.length=h.Memory.length:=by unfold mended;cases ieq (ix (ix h.Mons m mZ).Outer p sZ).Page (-1);{exact congrArg List.length (zVX _ _ _ _)};{exact(congrArg List.length<|zVX _ _ _ _).trans (z1g _ _ _)}
theorem z3T (h:Host)(m g p:Int)(a:Bool):(zwQ h m g p a).Memory=h.Memory:=by cases a<;>rfl
theorem z6D (h:Host)(b:List Entry)(m g c a q:Int)(d:Bool):(zhw h b m g c a q d).1.Memory.length=h.Memory.length:=by unfold zhw;cases zjz b m g c a;{cases zfo h m g c a;{exact congrArg List.length (z3T _ _ _ _ _)};{exact(congrArg List.length<|z3T _ _ _ _ _).trans (z3S h m q a)}};{rfl}
theorem zbaB (h:Host)(b:List Entry)(m g page need:Int)(io:Bool):(lookOf h b m g page need io).1.Memory.length=h.Memory.length:=by unfold lookOf;cases zb1 h m g page need;{rfl};{simp only [cT];rw[z6D];cases ieq need 2<;>rfl}
structure Keep (h r:Host):Prop where
 shape:Shape r
 cnt:cnt r.Mons=cnt h.Mons
 mem:r.Memory.length=h.Memory.length
theorem Keep.has {h r:Host}(k:Keep h r){m:Int}(a:hasB m (ln h.Mons)=true):hasB m (ln r.Mons)=true:=by rw[ln,z9T k.cnt];exact a
theorem Keep.hg {h r:Host}(k:Keep h r){m g:Int}(hg:hasB g (ln (ix h.Mons m mZ).Guests)=true):hasB g (ln (ix r.Mons m mZ).Guests)=true:=by rw[ln,zbbq k.cnt];exact hg
theorem Keep.trans {a b c:Host}(h:Keep a b)(k:Keep b c):Keep a c:=⟨k.shape,k.cnt.trans h.cnt,k.mem.trans h.mem⟩
theorem Keep.rfl' {h:Host}(a:Shape h):Keep h h:=⟨a,rfl,rfl⟩
theorem zpw {h:Host}{m g:Int}{x:Guest}(b:Shape h)(a:hasB m (ln h.Mons)=true)(c:SmG x):Keep h (zhb h m g x):=⟨z15 b a c,zUg a (by simp),rfl⟩
theorem zDp {h:Host}{b:List Entry}{m g page need:Int}{io:Bool}(c:SmH h)(a:zcb h m g=true):Keep h (lookOf h b m g page need io).1:=by have k:=zuH (b:=b) (page:=page) (need:=need) (io:=io) c a;exact⟨k.shape,zbbp k.gs,zbaB _ _ _ _ _ _ _⟩
theorem z3C {h:Host}{p c v:Int}(a:Shape h):Keep h {h with Memory:=zbW h.Memory p c v}:=⟨zRM a<|zvW a.1.1,rfl,zbaA _ _ _ _⟩
theorem z02 {h:Host}{m:Int}(a:Shape h)(b:hasB m (ln h.Mons)=true):Keep h (owned h m):=by obtain⟨c,d⟩:=zc3 a b;unfold owned;cases ilt (ix h.Mons m mZ).Own 1000000000;{exact Keep.rfl' a};{exact⟨zkk a c d,zUg b rfl,rfl⟩}
theorem z01 {h:Host}{m n:Int}(b:Shape h)(c:hasB m (ln h.Mons)=true):Keep h (zi7 h m n):=by obtain⟨a,d⟩:=zc3 b c;unfold zi7;cases e:ilt (ln (ix h.Mons m mZ).Outs) 40;{exact Keep.rfl' b};{have f:=qD e;simp only[ln]at f;refine⟨zkk b ⟨a.1,a.2.1,a.2.2.1,a.2.2.2.1,?_,a.2.2.2.2.2⟩ d,zUg c rfl,rfl⟩;simp[ap];omega}
theorem z3E {h:Host}{m g:Int}{x:Guest}{w:Int}(d:Shape h)(b:hasB m (ln h.Mons)=true)(e:SmG x):Keep h (zlJ h m g x w):=by have a:Keep h (zfh h m x w):=(by unfold zfh;cases (cond (ine w 6) (ieq (zoc (ix h.Mons m mZ).Traps x.Ctl.Traps<|zgu w) 2) false);{exact Keep.rfl' d};{exact z02 d b});have f:Keep (zfh h m x w) (zhM (zfh h m x w) m x w):=(by unfold zhM;cases (cond (zie x.Ctl.Traps w) (ieq w 5) false);{exact Keep.rfl' a.shape};{exact z01 a.shape (a.has b)});have c:=a.trans f;exact c.trans (zpw c.shape (c.has b)<|zD6 _ _ e)
theorem z3D {h:Host}{m g:Int}(f:SmH h)(e:zcb h m g=true):Keep h (zcM h m g).1:=by obtain⟨l,a,n⟩:=zdH e;have d:=zl3 f a n;have i:=(zfy f l).1;rw[zkl e];unfold zNe;cases ieq (zN<|gOf h m g) 0;{cases ieq (zN<|gOf h m g) 1;{cases ieq (zN<|gOf h m g) 2;{cases (cond (ieq (zN<|gOf h m g) 3) true<|ieq (zN<|gOf h m g) 4);{exact z3E i a d};{have k:=zDp (b:=h.Buffer) (page:=zbn (address<|gOf h m g)) (need:=zcv (ieq (zN<|gOf h m g) 4)) (io:=false) f e;show Keep h (ziq (zjq h m g (gOf h m g)<|ieq (zN<|gOf h m g) 4) m g (gOf h m g)<|ieq (zN<|gOf h m g) 4);unfold ziq;cases (zjq h m g (gOf h m g)<|ieq (zN<|gOf h m g) 4).2.2;{exact k.trans (zpw k.shape (k.has a) d)};{cases ieq (zN<|gOf h m g) 4;{have k:=zDp (b:=h.Buffer) (page:=zbn (address<|gOf h m g)) (need:=zcv false) (io:=false) f e;exact k.trans (zpw k.shape (k.has a)<|zM9 _ d)};{have k:=zDp (b:=h.Buffer) (page:=zbn (address<|gOf h m g)) (need:=zcv true) (io:=false) f e;have q:=z3C (p:=(zjq h m g (gOf h m g) true).2.1) (c:=zd7 (address<|gOf h m g)) (v:=(gOf h m g).A) k.shape;have j:=k.trans q;exact j.trans (zpw j.shape (j.has a)<|zk9 d)}}}};{exact zpw i a (zHd d)}};{exact zpw i a (zZQ d)}};{exact Keep.rfl' i}
structure Same (h r:Host):Prop where
 sm:SmH r
 cnt:cnt r.Mons=cnt h.Mons
 mem:r.Memory.length=h.Memory.length
 st:r=h\/Shape r
theorem Same.rfl' {h:Host}(a:SmH h):Same h h:=⟨a,rfl,rfl,.inl rfl⟩
theorem Same.trans {a b c:Host}(h:Same a b)(k:Same b c):Same a c:=⟨k.sm,k.cnt.trans h.cnt,k.mem.trans h.mem,by
 rcases k.st with e|e
 .rw [e];exact h.st
 .exact .inr e⟩
theorem z4E {h:Host}(m g:Int)(b:SmH h):Same h (zcM h m g).1:=by cases a:zcb h m g;{rw [zjF a];exact Same.rfl' b};{have k:=z3D b a;exact⟨k.shape.1,k.cnt,k.mem,.inr k.shape⟩}
end
end Go.Proofs.YtdlfljbgoopanaaGreat.E
