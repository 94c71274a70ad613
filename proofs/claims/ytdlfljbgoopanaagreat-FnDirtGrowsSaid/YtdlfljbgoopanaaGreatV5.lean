/- What is proved here: a part of the proof that the statement of this claim holds (several texts of wip/, laid together). -/
import Derived.Test.YtdlfljbgoopanaaGreatV4
namespace Go.Proofs.YtdlfljbgoopanaaGreat.E
open Go
set_option linter.defProp false
set_option linter.constructorNameAsVariable false
set_option linter.unusedVariables false
set_option maxRecDepth 100000
set_option linter.unusedSimpArgs false
set_option linter.unusedSectionVars false
noncomputable section
def zm4 (o i t:Int):Int:=bif zev i t then 1 else (cond (zev o t) 2 0)
@[simp] abbrev zoP (o i t:Int):Bool:=true
@[simp] abbrev zls (o i t:Int):Int:=zm4 o i t
def zpb:Run:=rF3 dI dI dI λb c d=>(zoP b c d,[aI<|zls b c d])
def zGD (N:Nat)(b c a:Int):OA:=
 (oN (zgJ c a)<|cond (zfY c a) (some [aI 1])<|oN (zgJ b a)<|cond (zfY b a) (some [aI 2])<|some [aI 0])
def zBm (a b c:Int)(d:zbX big [aI a,aI b,aI c])(e:zoP a b c=true):∃N,zGD N a b c=some [aI<|zls a b c]:=by refine⟨0,?_⟩;unfold zGD oN;refine must rfl (br (λ_=>?_) λ_=>must rfl (br (λ_=>?_) λ_=>?_));all_goals first|rfl|(simp only [*,zls,zm4,cT,cF]<;>rfl)|simp_all[Ty.cells,zls,zm4]
def zLO:vO 375 zpb:=hF3 zgl zn zA zdW (zo []) zBm
def zLt:vO 218 zpb:=hF3 zgl zn zA zdW (zo []) zBm
def has3 (p:Int):hasB p 3=zl p 0 2:=by unfold hasB zl ige ile;by_cases a:0<=p<;>by_cases b:p<3;{rw [qJ (p:=0<=p/\p<3) ⟨a,b⟩,qJ (p:=p≥0) a,qJ (p:=p<=2) (by omega)];rfl};{rw [qH (p:=0<=p/\p<3) (by omega),qH (p:=p<=2) (by omega)];simp};{rw [qH (p:=0<=p/\p<3) (by omega),qH (p:=p≥0) (by omega)];simp};{rw [qH (p:=0<=p/\p<3) (by omega),qH (p:=p≥0) (by omega)];simp}
def has2 (p:Int):hasB p 2=zl p 0 1:=by unfold hasB zl ige ile;by_cases a:0<=p<;>by_cases b:p<2;{rw [qJ (p:=0<=p/\p<2) ⟨a,b⟩,qJ (p:=p≥0) a,qJ (p:=p<=1) (by omega)];rfl};{rw [qH (p:=0<=p/\p<2) (by omega),qH (p:=p<=1) (by omega)];simp};{rw [qH (p:=0<=p/\p<2) (by omega),qH (p:=p≥0) (by omega)];simp};{rw [qH (p:=0<=p/\p<2) (by omega),qH (p:=p≥0) (by omega)];simp}
def zeU (m g:Int):Int:=bif zl m 0 2 then (cond (zl g 0 1) (zQ .i64 (zQ .i64 1 g)<|znw .i64 m 2) 0) else 0
@[simp] abbrev zif (m g:Int):Bool:=true
@[simp] abbrev zle (m g:Int):Int:=zeU m g
def zsB:Run:=rF2 dI dI λb c=>(zif b c,[aI<|zle b c])
def zQO (N:Nat)(a b:Int):OA:=
 (oN (zN a 0 2)<|cond (nB<|zl a 0 2) (some [aI 0])<|oN (zN b 0 1)<|cond (nB<|zl b 0 1) (some [aI 0])<|some [aI<|zQ .i64 (zQ .i64 1 b)<|znw .i64 a 2])
def zYm (a b:Int)(c:zif a b=true):∃N,zQO N a b=some [aI<|zle a b]:=by refine⟨0,?_⟩;unfold zQO oN nB;refine must rfl (brN (λ_=>?_) λ_=>must rfl (brN (λ_=>?_) λ_=>?_));all_goals first|rfl|(simp only [*,zle,zeU,cT,cF]<;>rfl)|simp_all[Ty.cells,zle,zeU]
def zSk:vO 343 zsB:=kF2 zgl zn zA zdW (zo []) zYm
def zQD (N:Nat)(a b:Int):OA:=
 (oN (zbg a 3)<|cond (nB<|zcb a 3) (some [aI 0])<|oN (zbg b 2)<|cond (nB<|zcb b 2) (some [aI 0])<|some [aI<|zQ .i64 (zQ .i64 1 b)<|znw .i64 a 2])
def zYd (a b:Int)(c:zif a b=true):∃N,zQD N a b=some [aI<|zle a b]:=by refine⟨0,?_⟩;unfold zQD oN nB;refine must rfl (brN (λ_=>?_) λ_=>must rfl (brN (λ_=>?_) λ_=>?_));all_goals first|rfl|(simp only [*,zle,zeU,has3,has2,cT,cF]<;>rfl)|simp_all[Ty.cells,zle,zeU,has3,has2]
def zR8:vO 151 zsB:=kF2 zgl zn zA zdW (zo []) zYd
def zl5 (k:Kept)(p:Int):Bool:=bif zd9 k p then ix k.Known p false else false
def zeN (k:Kept)(p:Int):Slot:=bif zl5 k p then ix k.Slots p zV else noSlot
@[simp] abbrev zjT (k:Kept)(p:Int):Slot:=zeN k p
@[simp] abbrev zpT (k:Kept)(p:Int):Bool:=zl5 k p
def zRK:Run:=rF2 (dT .kept) dI λb c=>(zc6 b c,[aT .slot<|zjT b c,aB<|zpT b c])
def zZd (N:Nat)(a:Kept)(b:Int):OA:=
 let c:=ix a.Slots b zV; (oN (zc6 a b)<|cond (nB<|zkx a b) (oN zbS<|some [.agg [.i .i64 zbl.Page,.i .i64 zbl.Rights],aB false])<|oN (inb b<|ln a.Known)<|cond (nB<|ix a.Known b false) (oN zbS<|some [.agg [.i .i64 zbl.Page,.i .i64 zbl.Rights],aB false])<|oN (inb b<|ln a.Slots)<|some [.agg [.i .i64 c.Page,.i .i64 c.Rights],aB true])
def z3S (a:Kept)(b:Int)(f:zc6 a b=true):∃N,zZd N a b=some [aT .slot<|zjT a b,aB<|zpT a b]:=by
 have g:=zM.1 f;refine⟨0,?_⟩;unfold zZd zjT zpT zeN zl5 oN nB;conv=>zeta
 refine must (zbs g) ?_;rw[show zkx a b=zd9 a b from rfl];cases c:zd9 a b;{rfl};{unfold zd9 at c;obtain⟨d,e⟩:=zdZ.1 c;simp only[zB d,zB e,cT];cases ix a.Known b false<;>rfl}
def zX3:vO 62 zRK:=kF2 zgl zn zA zdW (zo []) z3S
@[simp] abbrev zyO (k:Kept)(p:Int):Bool:=true
def zRH:Run:=rF2 (dT .kept) dI λb c=>(zyO b c,[aT .slot<|zjT b c,aB<|zpT b c])
def zY9 (N:Nat)(a:Kept)(b:Int):OA:=
 let c:=ix a.Slots b zV; (oN (zbg b<|ln a.Known)<|cond (nB<|zcb b<|ln a.Known) (oN zbS<|some [.agg [.i .i64 zbl.Page,.i .i64 zbl.Rights],aB false])<|oN (zbg b<|ln a.Slots)<|cond (nB<|zcb b<|ln a.Slots) (oN zbS<|some [.agg [.i .i64 zbl.Page,.i .i64 zbl.Rights],aB false])<|oN (inb b<|ln a.Known)<|cond (nB<|ix a.Known b false) (oN zbS<|some [.agg [.i .i64 zbl.Page,.i .i64 zbl.Rights],aB false])<|oN (inb b<|ln a.Slots)<|some [.agg [.i .i64 c.Page,.i .i64 c.Rights],aB true])
def z3O (a:Kept)(b:Int)(e:zyO a b=true):∃N,zY9 N a b=some [aT .slot<|zjT a b,aB<|zpT a b]:=by
 refine⟨0,?_⟩;unfold zY9 zjT zpT zeN zl5 zd9 oN nB;conv=>zeta
 rw[show zcb b (ln a.Known)=hasB b (ln a.Known) from rfl,show zcb b (ln a.Slots)=hasB b (ln a.Slots) from rfl];cases c:hasB b (ln a.Known);{rfl};{cases d:hasB b (ln a.Slots);{rfl};{simp only [zbg,zB c,zB d,cT];cases ix a.Known b false<;>rfl}}
def zXZ:vO 59 zRH:=kF2 zgl zn zA zdW (zo []) z3O
def filled (k:Kept)(a b:List Slot)(p:Int):Kept:=bif zd9 k p then (cond (hasB p<|ln a) ⟨up k.Known p true,up k.Slots p<|zbG (ix a p zV) b⟩ k) else k
@[simp] def z2j {k:Kept}{a b:List Slot}{p:Int}(h:SmK k):SmK (filled k a b p):=by unfold filled;cases zd9 k p;{exact h};{cases hasB p (ln a);{exact h};{exact⟨by simpa using h.1,by simpa using h.2⟩}}
@[simp] abbrev zv0 (k:Kept)(i o:List Slot)(p:Int):Bool:=pc (SmK k)
@[simp] abbrev zvZ (k:Kept)(i o:List Slot)(p:Int):Kept:=filled k i o p
def zuC:Run:=rF4 (dT .kept) (dS .slot) (dS .slot) dI λb c d e=>(zv0 b c d e,[aT .kept<|zvZ b c d e])
def zT2 (N:Nat)(d:Kept)(c e:lS)(a:Int):OA:=
 let b:=zeD d; (oN (zhU d)<|oN (zc6 b a)<|cond (zkx b a) (cond (ilt a<|ln c) (oN (inb a<|ln b.Known)<|share (up b.Known a true) λf=>oN (inb a<|ln c)<|oN (ziq (ix c a zV) e)<|oN (inb a<|ln b.Slots)<|share (up b.Slots a<|zmb (ix c a zV) e) λg=>some [aT .kept (⟨f,g⟩:Kept)])<|some [aT .kept b])<|some [aT .kept b])
def z1m (b:Kept)(c d:List Slot)(a:Int)(j:zv0 b c d a=true):∃N,zT2 N b c d a=some [aT .kept<|zvZ b c d a]:=by
 have g:=zM.1 j;refine⟨0,?_⟩;unfold zT2 zvZ filled oN;conv=>zeta
 refine must (zbs<|(zyy _).2 g) (must (zbs g) ?_);rw[show zkx (zeD b) a=zd9 b a from rfl];cases f:zd9 b a;{rfl};{unfold zd9 at f;obtain⟨e,h⟩:=zdZ.1 f;rw[has_lt e (m:=ln c)];cases i:hasB a (ln c);{rfl};{simp only [cT,zeD,zB e,zB h,zB i,share,ziq];rfl}}
def zU0:vO 387 zuC:=kF4 zgl zn zA zdW (zo []) z1m
def zT0 (N:Nat)(c:Kept)(d e:lS)(a:Int):OA:=
 let b:=zdl c; (oN (zee c)<|oN (zbg a<|ln c.Known)<|cond (zcb a<|ln c.Known) (oN (zbg a<|ln c.Slots)<|cond (zcb a<|ln c.Slots) (oN (zbg a<|ln d)<|cond (zcb a<|ln d) (oN (inb a<|ln b.Known)<|share (up b.Known a true) λf=>oN (inb a<|ln d)<|oN (ziq (ix d a zV) e)<|oN (inb a<|ln b.Slots)<|share (up b.Slots a<|zmb (ix d a zV) e) λg=>some [aT .kept (⟨f,g⟩:Kept)])<|some [aT .kept b])<|some [aT .kept b])<|some [aT .kept b])
def z1i (b:Kept)(c d:List Slot)(a:Int)(h:zv0 b c d a=true):∃N,zT0 N b c d a=some [aT .kept<|zvZ b c d a]:=by
 have i:=zM.1 h;refine⟨0,?_⟩;unfold zT0 zvZ filled zd9 oN;conv=>zeta
 refine must (zbs i) ?_;simp only[zcb,zbg,zdl,cT];cases e:hasB a (ln b.Known);{rfl};{cases f:hasB a (ln b.Slots);{rfl};{cases g:hasB a (ln c);{rfl};{simp only [cT,zB e,zB f,zB g,share,ziq];rfl}}}
def zUV:vO 303 zuC:=kF4 zgl zn zA zdW (zo []) z1i
def zIb {a b:Type}(p:a->Bool)(r:a->Option b)(K:Unit->Option b):∀(l:List a) (i:Nat),goL (λ_ x (_:Unit) k=>bif p x then r x else k ()) K l i ()=match l.find? p with|some x=>r x|none=>K ()
 |[],_=>rfl
 |x::l,i=>by simp only[goL];cases h:p x;{rw [List.find?_cons_of_neg (by simp[h])];exact zIb p r K l (i+1)};{rw [List.find?_cons_of_pos h];rfl}
def zz0 (b:List Entry)(t p:Int):Option Entry:=b.find? λe=>bif ieq e.Tag t then ieq e.Page p else false
@[simp] abbrev zix (b:List Entry)(t p:Int):Bool:=true
@[simp] abbrev zhg (b:List Entry)(t p:Int):Entry:=(zz0 b t p).getD ⟨0,0,0,0⟩
@[simp] abbrev zgg (b:List Entry)(t p:Int):Bool:=(zz0 b t p).isSome
def zmD:Run:=rF3 (dS .entry) dI dI λb c d=>(zix b c d,[aT .entry<|zhg b c d,aB<|zgg b c d])
def zA9 (N:Nat)(f:lE)(g h:Int):OA:=
 (iter (σ:=(Int×Int×Int×Int×Int×Int×Int×lE×Unit)) N (λj a=>let c:=a.2.2.2.2.2.2.2.1;let d:=inb a.2.2.1<|ln c;let e:=j (a.1,a.2.1,zQ .i64 a.2.2.1 1,a.2.2.2.1,a.2.2.2.2.1,a.2.2.2.2.2.1,a.2.2.2.2.2.2.1,c,());let b:=ix c a.2.2.1 zhb; (cond (ilt a.2.2.1<|ln c) (oN d<|cond (ieq b.Tag a.1) (oN d<|cond (ieq b.Page a.2.1) (oN d<|some [.agg [.i .i64 b.Tag,.i .i64 b.Page,.i .i64 b.Host,.i .i64 b.Rights],aB true]) e) e)<|some [.agg [.i .i64 0,.i .i64 0,.i .i64 0,.i .i64 0],aB false])) (g,h,0,0,0,0,0,f,()))
def zNy:=zo [(386,0,{n:=36,tm:=[(0,.sl 0 []),(1,ti),(2,ti),(6,.lp 0 0),(8,ti)],lo:=[(0,[ti,ti,ti,ti])],ro:=[(0,.entry,false)]})]
def zMz (a:List Entry)(c d:Int)(j:zbX big [aS .entry a,aI c,aI d])(l:zix a c d=true):∃N,zA9 N a c d=some [aT .entry<|zhg a c d,aB<|zgg a c d]:=by
 have h:=len0 j;refine zcy λN g=>?_;unfold zA9 oN;conv=>zeta
 refine(zbq a (λi (t:Unit)=>(c,d,(i:Int),0,0,0,0,a,())) _ (λ_ (x:Entry) (_:Unit) k=>bif (cond (ieq x.Tag c) (ieq x.Page d) false) then (some [AV.agg<|Ty.cells .entry x,AV.one<|.b true]) else k ()) (λ(t:Unit)=>some [.agg [.i .i64 0,.i .i64 0,.i .i64 0,.i .i64 0],.one<|.b false]) (λi f t rec=>?_) (λt rec=>?_) _ ()<|g h).trans ?_;{simp only [zbL f,zbn f,zbv f,zbi f h,cT];cases ieq a[i].Tag c<;>cases ieq a[i].Page d<;>rfl};{simp only [zbD,cF]};rw[zIb λe:Entry=>bif ieq e.Tag c then ieq e.Page d else false];unfold zhg zgg zz0;cases a.find? (λe:Entry=>bif ieq e.Tag c then ieq e.Page d else false)<;>rfl
def zFn:vO 386 zmD:=hF3 zgl zn zA zdW zNy zMz
def zAX (N:Nat)(d:lE)(f g:Int):OA:=
 (iter (σ:=(Int×Int×Int×Int×Int×Int×Int×Int×lE×Unit)) N (λh a=>let c:=a.2.2.2.2.2.2.2.2.1;let e:=h (a.1,a.2.1,a.2.2.1,zQ .i64 a.2.2.2.1 1,a.2.2.2.2.1,a.2.2.2.2.2.1,a.2.2.2.2.2.2.1,a.2.2.2.2.2.2.2.1,c,());let b:=ix c a.2.2.2.1 zhb; (cond (ilt a.2.2.2.1 a.2.2.1) (oN (inb a.2.2.2.1<|ln c)<|cond (ieq b.Tag a.1) (cond (ieq b.Page a.2.1) (some [.agg [.i .i64 b.Tag,.i .i64 b.Page,.i .i64 b.Host,.i .i64 b.Rights],aB true]) e) e)<|some [.agg [.i .i64 0,.i .i64 0,.i .i64 0,.i .i64 0],aB false])) (f,g,ln d,0,0,0,0,0,d,()))
def zNu:=zo [(302,0,{n:=29,tm:=[(1,ti),(2,ti),(6,.lp 0 0),(10,.sl 0 []),(11,ti),(12,ti)],lo:=[(0,[ti,ti,ti,ti])],ro:=[(0,.entry,false)]})]
def zMo (a:List Entry)(c d:Int)(j:zbX big [aS .entry a,aI c,aI d])(l:zix a c d=true):∃N,zAX N a c d=some [aT .entry<|zhg a c d,aB<|zgg a c d]:=by
 have h:=len0 j;refine zcy λN g=>?_;unfold zAX oN;conv=>zeta
 refine(zbq a (λi (t:Unit)=>(c,d,ln a,(i:Int),0,0,0,0,a,())) _ (λ_ (x:Entry) (_:Unit) k=>bif (cond (ieq x.Tag c) (ieq x.Page d) false) then (some [AV.agg<|Ty.cells .entry x,AV.one<|.b true]) else k ()) (λ(t:Unit)=>some [.agg [.i .i64 0,.i .i64 0,.i .i64 0,.i .i64 0],.one<|.b false]) (λi f t rec=>?_) (λt rec=>?_) _ ()<|g h).trans ?_;{simp only [zbL f,zbn f,zbv f,zbi f h,cT];cases ieq a[i].Tag c<;>cases ieq a[i].Page d<;>rfl};{simp only [zbD,cF]};rw[zIb λe:Entry=>bif ieq e.Tag c then ieq e.Page d else false];unfold zhg zgg zz0;cases a.find? (λe:Entry=>bif ieq e.Tag c then ieq e.Page d else false)<;>rfl
def zFc:vO 302 zmD:=hF3 zgl zn zA zdW zNu zMo
def ztn (t p:Int)(e:Entry):Bool:=bif ine e.Tag t then true else ine e.Page p
def zde (b:List Entry)(t p:Int):List Entry:=b.filter (ztn t p)
def zz1 (b:List Entry)(t p:Int):(zde b t p).length<=b.length:=uB _ _
@[simp] abbrev zea (b:List Entry)(t p:Int):Bool:=pc (b.length<=1048576)
@[simp] abbrev zfv (b:List Entry)(t p:Int):List Entry:=zde b t p
def zmF:Run:=rF3 (dS .entry) dI dI λb c d=>(zea b c d,[aS .entry<|zfv b c d])
def zBb (N:Nat)(h:lE)(i j:Int):OA:=
 (iter (σ:=(Int×Int×Int×lE×lE×Unit)) N (λf a=>let b:=a.2.2.2.1;let c:=inb a.2.2.1<|ln b;let d:=ix b a.2.2.1 zhb;let e:=ap a.2.2.2.2.1 [d];let g:=f (a.1,a.2.1,zQ .i64 a.2.2.1 1,b,e,()); (cond (ilt a.2.2.1<|ln b) (oN c<|cond (ine d.Tag a.1) (oN c<|oN (few<|ln e) g)<|oN c<|cond (ine d.Page a.2.1) (oN c<|oN (few<|ln e) g)<|f (a.1,a.2.1,zQ .i64 a.2.2.1 1,b,a.2.2.2.2.1,()))<|some [aS .entry a.2.2.2.2.1])) (i,j,0,h,[],()))
def zNA:=zo [(185,0,{n:=40,tm:=[(0,.sl 0 []),(1,ti),(2,ti),(7,.sl 1 []),(8,ti)],lo:=[],ro:=[(0,.entry,false),(1,.entry,true)]})]
def zMB (a:List Entry)(b c:Int)(h:zea a b c=true):∃N,zBb N a b c=some [aS .entry<|zfv a b c]:=by
 have j:=zM.1 h;have f:=zda j;refine zcy λN e=>?_;unfold zBb oN;conv=>zeta
 refine(zbq a (λi (t:lE)=>(b,c,(i:Int),a,t,())) _ (λ_ (x:Entry) (t:List Entry) g=>bif ztn b c x then (cond (few<|ln<|ap t [x]) (g<|ap t [x]) none) else g t) (λ(t:lE)=>some [.one<|.s .entry t]) (λi d t rec=>?_) (λt rec=>?_) _ ([])<|e f.1).trans ?_;{simp only [zbL d,zbn d,zbv d,zbi d f.1,cT];unfold ztn;cases ine a[i].Tag b<;>cases ine a[i].Page c<;>rfl};{simp only [zbD,cF]};exact znK (ztn b c) _ a 0 [] (by simpa using f.2)
def zFp:vO 185 zmF:=kF3 zgl zn zA zdW zNA zMB
def zAZ (N:Nat)(e:lE)(h i:Int):OA:=
 (iter (σ:=(Int×Int×Int×Int×lE×lE×Unit)) N (λf a=>let b:=a.2.2.2.2.2.1;let c:=ix b a.2.1 zhb;let d:=ap a.2.2.2.2.1 [c];let g:=f (a.1,zQ .i64 a.2.1 1,a.2.2.1,a.2.2.2.1,d,b,()); (cond (ilt a.2.1 a.1) (oN (inb a.2.1<|ln b)<|cond (ieq c.Tag a.2.2.1) (cond (nB<|ieq c.Page a.2.2.2.1) (oN (few<|ln d) g)<|f (a.1,zQ .i64 a.2.1 1,a.2.2.1,a.2.2.2.1,a.2.2.2.2.1,b,()))<|oN (few<|ln d) g)<|some [aS .entry a.2.2.2.2.1])) (ln e,0,h,i,[],e,()))
def zNw:=zo [(237,0,{n:=25,tm:=[(1,.fn 238 [0,1]),(5,.sl 0 []),(9,.sl 1 []),(10,ti),(11,ti)],lo:=[(0,[ti]),(1,[ti])],ro:=[(0,.entry,true),(1,.entry,false)]})]
def zMq (a:List Entry)(b c:Int)(h:zea a b c=true):∃N,zAZ N a b c=some [aS .entry<|zfv a b c]:=by
 have j:=zM.1 h;have f:=zda j;refine zcy λN e=>?_;unfold zAZ oN nB;conv=>zeta
 refine(zbq a (λi (t:lE)=>(ln a,(i:Int),b,c,t,a,())) _ (λ_ (x:Entry) (t:List Entry) g=>bif ztn b c x then (cond (few<|ln<|ap t [x]) (g<|ap t [x]) none) else g t) (λ(t:lE)=>some [.one<|.s .entry t]) (λi d t rec=>?_) (λt rec=>?_) _ ([])<|e f.1).trans ?_;{simp only [zbL d,zbn d,zbv d,zbi d f.1,cT];unfold ztn;simp only[zjP];cases ieq a[i].Tag b<;>cases ieq a[i].Page c<;>rfl};{simp only [zbD,cF]};exact znK (ztn b c) _ a 0 [] (by simpa using f.2)
def zFe:vO 150 zmF:=kF3 zgl zn zA zdW zNw zMq
def z8E:zbf:=[(375,zpb),(218,zpb),(343,zsB),(151,zsB),(62,zRK),(59,zRH),(387,zuC),(303,zuC),(386,zmD),(302,zmD),(185,zmF),(150,zmF)]++z3i
def zvl:zU z8E:=zi zLO (zi zLt<|zi zSk<|zi zR8<|zi zX3<|zi zXZ<|zi zU0<|zi zUV<|zi zFn<|zi zFc<|zi zFp<|zi zFe zgl)
def zqq (b:List Entry)(e:Entry):List Entry:=bif igt (ln<|ap (zde b e.Tag e.Page) [e]) 6 then dp (ap (zde b e.Tag e.Page) [e]) (wsub .i64 (ln<|ap (zde b e.Tag e.Page) [e]) 6) else ap (zde b e.Tag e.Page) [e]
def zvT {b:List Entry}(e:Entry)(h:b.length<=1048576):(zqq b e).length<=1048576/\(ap (zde b e.Tag e.Page) [e]).length<=1048577:=by have d:=zz1 b e.Tag e.Page;have c:(ap (zde b e.Tag e.Page) [e]).length<=1048577:=(by simp[ap];omega);refine⟨?_,c⟩;unfold zqq;cases a:igt (ln<|ap (zde b e.Tag e.Page) [e]) 6;{have a:=qX a;simp only[ln]at a;simp only[cF];omega};{simp only [cT,dp,vL];have a:=qD a;have:wsub .i64 (ln<|ap (zde b e.Tag e.Page) [e]) 6=ln (ap (zde b e.Tag e.Page) [e])-6:=zsc (by simp only[ln] at *;omega) (by simp only[ln] at *;omega);rw[this];simp only[ln] at *;omega}
@[simp] abbrev zid (b:List Entry)(e:Entry):Bool:=pc (b.length<=1048576)
@[simp] abbrev zhO (b:List Entry)(e:Entry):List Entry:=zqq b e
def zk5:Run:=rF2 (dS .entry) (dT .entry) λb c=>(zid b c,[aS .entry<|zhO b c])
def zCL (N:Nat)(d:lE)(b:Entry):OA:=
 let a:=ap (zfv d b.Tag b.Page) [b];let c:=wsub .i64 (ln a) 6; (oN (zea d b.Tag b.Page)<|oN (few<|ln a)<|cond (igt (ln a) 6) (oN (inr c (ln a)<|ln a)<|oN (few<|ln<|ap []<|dp a c)<|some [aS .entry<|ap []<|dp a c])<|some [aS .entry a])
def zPH (b:List Entry)(a:Entry)(h:zid b a=true):∃N,zCL N b a=some [aS .entry<|zhO b a]:=by
 have f:=zM.1 h;obtain⟨c,g⟩:=zvT a f;refine⟨0,?_⟩;unfold zCL oN;conv=>zeta
 refine must (zbs f) (must (ziA<|qU g (by decide:1048577<=2147483648)) ?_);unfold zhO zqq at *;show _=some [AV.one<|.s .entry<|cond (igt (ln<|ap (zde b a.Tag a.Page) [a]) 6) (dp (ap (zde b a.Tag a.Page) [a])<|wsub .i64 (ln<|ap (zde b a.Tag a.Page) [a]) 6)<|ap (zde b a.Tag a.Page) [a]];cases d:igt (ln<|ap (zde b a.Tag a.Page) [a]) 6;{rfl};{rw [d]at c;simp only[cT]at c;have d:=qD d;have e:wsub .i64 (ln<|ap (zde b a.Tag a.Page) [a]) 6=ln (ap (zde b a.Tag a.Page) [a])-6:=zsc (by simp only[ln] at *;omega) (by simp only[ln] at *;omega);refine must rfl (must (qJ ?_)<|must ?_ ?_);{show 0<=wsub .i64 (ln<|ap (zde b a.Tag a.Page) [a]) 6/\wsub .i64 (ln<|ap (zde b a.Tag a.Page) [a]) 6<=ln (ap (zde b a.Tag a.Page) [a])/\ln (ap (zde b a.Tag a.Page) [a])<=ln (ap (zde b a.Tag a.Page) [a]);rw[e];simp only[ln] at *;omega};{exact zpK c};{rw [zmN];rfl}}
def zvy:vO 103 zk5:=kF2 zvl zn zA zdW (zo []) zPH
def zCp (N:Nat)(c:lE)(a:Entry):OA:=
 let b:=ap (zfv c a.Tag a.Page) [a];let d:=imax 0<|wsub .i64 (ln b) 6; (oN (zea c a.Tag a.Page)<|oN (few<|ln b)<|oN (inr d (ln b)<|ln b)<|some [aS .entry<|dp b d])
def zPo (b:List Entry)(a:Entry)(h:zid b a=true):∃N,zCp N b a=some [aS .entry<|zhO b a]:=by
 have g:=zM.1 h;obtain⟨_,f⟩:=zvT a g;refine⟨0,?_⟩;unfold zCp zhO zqq oN;conv=>zeta
 simp only[zfv];generalize ap (zde b a.Tag a.Page) [a]=l at f ⊢;refine must (zbs g) (must (ziA<|qU f (by decide:1048577<=2147483648)) ?_);have e:wsub .i64 (ln l) 6=ln l-6:=zsc (by simp only[ln] at *;omega) (by simp only[ln] at *;omega);rw[e];cases c:igt (ln l) 6;{have c:=qX c;have d:imax 0 (ln l-6)=0:=(by unfold imax;rw[if_neg (by omega)]);rw[d];exact must (qJ (by simp only[ln];omega)) (by simp[dp])};{have c:=qD c;have d:imax 0 (ln l-6)=ln l-6:=(by unfold imax;rw[if_pos (by omega)]);rw[d];exact must (qJ (by simp only[ln] at *;omega)) rfl}
def zIq:vO 304 zk5:=kF2 zvl zn zA zdW (zo []) zPo
def zqe (l:List Slot)(p:Int):Option Nat:=l.findIdx? λs=>ieq s.Page p
def zj6 (p:Int):List Mon->Nat->Int×Int
 |[],_=>(-1,-1)
 |m::l,i=>match zqe m.Outer p with|some k=>((i:Int),(k:Int))|none=>zj6 p l (i+1)
def zbW (h:Host)(p:Int):Int×Int:=bif ilt p 0 then (-1,-1) else zj6 p h.Mons 0
def zRl {a:Type}(p:Slot->Bool)(r:Nat->Option a)(K:Unit->Option a):∀(l:List Slot) (i:Nat),goL (λj x (_:Unit) k=>bif p x then r j else k ()) K l i ()=match l.findIdx? p with|some k=>r (i+k)|none=>K ()
 |[],_=>rfl
 |x::l,i=>by simp only[goL];rw[List.findIdx?_cons];cases h:p x;{simp only [cF,kD,if_false];rw[zRl p r K l<|i+1];cases l.findIdx? p with|none=>rfl|some k=>simp only[Option.map_some];congr 1;omega};{rfl}
def zNV {c:Type}(p:Int)(r:Int->Int->Option c):∀(l:List Mon) (i:Nat),goL (λi (x:Mon) (_:Unit) b=>goL (λj (y:Slot) (_:Unit) a=>bif ieq y.Page p then r (i:Int) (j:Int) else a ()) (λ_=>b ()) x.Outer 0 ()) (λ_=>r (-1) (-1)) l i ()=r (zj6 p l i).1 (zj6 p l i).2
 |[],_=>rfl
 |m::l,i=>by simp only[goL,zj6];rw[zRl (λs=>ieq s.Page p) λj=>r (i:Int) (j:Int)];unfold zqe;cases m.Outer.findIdx? (λs=>ieq s.Page p) with|none=>exact zNV p r l (i+1)|some k=>simp only[j5]
@[simp] abbrev zgX (h:Host)(p:Int):Bool:=true
@[simp] abbrev zed (h:Host)(p:Int):Int:=(zbW h p).1
@[simp] abbrev zfe (h:Host)(p:Int):Int:=(zbW h p).2
def zkK:Run:=rF2 dH dI λb c=>(zgX b c,[aI<|zed b c,aI<|zfe b c])
def zwg (N:Nat)(f:Host)(g:Int):OA:=
 (cond (ilt g 0) (some [aI<|-1,aI<|-1])<|iter (σ:=(Int×Int×Int×lN×Unit)) N (λi b=>let c:=b.2.2.1; (cond (ilt c b.2.1) (oN (inb c<|ln b.2.2.2.1)<|iter (σ:=(Int×Int×Int×Int×Int×Int×Int×lN×Unit)) N (λj a=>let e:=a.2.2.2.2.2.2.2.1;let h:=(ix e a.2.2.2.2.1 zh).Outer;let d:=a.2.2.2.2.2.2.1; (cond (ilt d a.2.2.2.2.2.1) (oN (inb d<|ln h)<|cond (ieq (ix h d zV).Page a.1) (some [aI a.2.1,aI d])<|j (a.1,a.2.1,a.2.2.1,a.2.2.2.1,a.2.2.2.2.1,a.2.2.2.2.2.1,zQ .i64 d 1,e,()))<|i (a.1,a.2.2.1,zQ .i64 a.2.2.2.1 1,e,()))) (b.1,c,b.2.1,c,c,ln (ix b.2.2.2.1 c zh).Outer,0,b.2.2.2.1,()))<|some [aI<|-1,aI<|-1])) (g,ln f.Mons,0,f.Mons,()))
def zF0:=zo [(309,0,{n:=36,tm:=[(1,ti),(13,.sl 0 []),(14,ti),(15,ti)],lo:=[],ro:=[(0,.mon,false)]}),(309,2,{n:=36,tm:=[(1,ti),(6,ti),(13,.sl 0 []),(14,ti),(15,ti),(21,.sl 0 [0]),(22,ti),(23,ti)],lo:=[],ro:=[(0,.mon,false)]})]
def zFG (a:Host)(c:Int)(m:zbX big [aH a,aI c])(q:zgX a c=true):∃N,zwg N a c=some [aI<|zed a c,aI<|zfe a c]:=by
 have k:CVB big (.s .mon a.Mons):=(zdp m).1 _ (by simp[AV.cvs,zbd]);have h:=k.len;refine zcy λN e=>?_;unfold zwg zed zfe zbW oN;conv=>zeta
 cases p:ilt c 0;{simp only [cF];refine(zbq a.Mons (λi (t:Unit)=>(c,ln a.Mons,(i:Int),a.Mons,())) _ (λi (x:Mon) (_:Unit) n=>goL (λj (y:Slot) (_:Unit) b=>bif ieq y.Page c then some [AV.one<|.i .i64 (i:Int),AV.one<|.i .i64 (j:Int)] else b ()) (λ_=>n ()) x.Outer 0 ()) (λ(t:Unit)=>some [.one<|.i .i64<|-1,.one<|.i .i64<|-1]) (λi d t rec=>?_) (λt rec=>?_) _ ()<|e h).trans ?_;{simp only [zbL d,zbn d,zbv d,zbi d h,cT];have l:a.Mons[i].Outer.length<=big:=(k.inv.2 _ (jI d) (.s .slot _) (by simp[Ty.cells])).len;refine(zbq a.Mons[i].Outer (λj (u:Unit)=>(c,(i:Int),ln a.Mons,(i:Int),(i:Int),ln a.Mons[i].Outer,(j:Int),a.Mons,())) _ (λj (y:Slot) (_:Unit) b=>bif ieq y.Page c then some [AV.one<|.i .i64 (i:Int),AV.one<|.i .i64 (j:Int)] else b ()) (λ(u:Unit)=>rec (c,ln a.Mons,((i+1:Nat):Int),a.Mons,())) (λj g u f=>?_) (λu f=>?_) _ ()<|e l).trans ?_;{simp only [zbL g,zbn g,zbv g,zbi g l,cT,zbn d,zbv d,zbi d h]};{simp only [zbD,cF,zbn d,zbv d,zbi d h]};rfl};{simp only [zbD,cF]};exact zNV c (λi j=>some [AV.one<|.i .i64 i,AV.one<|.i .i64 j]) a.Mons 0};{rfl}
def zBY:vO 309 zkK:=hF2 zvl zn zA zdW zF0 zFG
def z3B {a c b:Type}(r:Option b):∀(l:List a) (i:Nat) (t:c),goL (λ_ _ _ _=>r) (λ_=>r) l i t=r
 |[],_,_=>rfl
 |_::_,_,_=>rfl
def zwr (N:Nat)(d:Host)(f:Int):OA:=
 (iter (σ:=(Int×Int×lM×lN×lE×lE×Unit)) N (λg b=>cond (ilt b.2.1<|ln b.2.2.2.1) (cond (ige b.1 0) (iter (σ:=(Int×Int×Int×lM×lN×lE×lE×Unit)) N (λh a=>let c:=a.2.2.2.2.1;let e:=(ix c a.2.1 zh).Outer; (oN (inb a.2.1<|ln c)<|cond (ilt a.2.2.1<|ln e) (oN (inb a.2.1<|ln c)<|oN (inb a.2.2.1<|ln e)<|cond (ieq (ix e a.2.2.1 zV).Page a.1) (some [aI a.2.1,aI a.2.2.1])<|h (a.1,a.2.1,zQ .i64 a.2.2.1 1,a.2.2.2.1,c,a.2.2.2.2.2.1,a.2.2.2.2.2.2.1,()))<|g (a.1,zQ .i64 a.2.1 1,a.2.2.2.1,c,a.2.2.2.2.2.1,a.2.2.2.2.2.2.1,()))) (b.1,b.2.1,0,b.2.2.1,b.2.2.2.1,b.2.2.2.2.1,b.2.2.2.2.2.1,()))<|some [aI<|-1,aI<|-1])<|some [aI<|-1,aI<|-1]) (f,0,d.Memory,d.Mons,d.Buffer,d.IoBuffer,()))
def zF1:=zo [(389,0,{n:=44,tm:=[(1,ti),(2,.lp 0 0),(6,ti)],lo:=[(0,[.sl 0 [],.sl 1 [],.sl 2 [],.sl 3 []])],ro:=[(0,.sl .int,false),(1,.mon,false),(2,.entry,false),(3,.entry,false)]}),(389,2,{n:=44,tm:=[(1,ti),(2,.lp 0 0),(6,ti),(7,ti)],lo:=[(0,[.sl 0 [],.sl 1 [],.sl 2 [],.sl 3 []])],ro:=[(0,.sl .int,false),(1,.mon,false),(2,.entry,false),(3,.entry,false)]})]
def zFQ (a:Host)(b:Int)(p:zbX big [aH a,aI b])(r:zgX a b=true):∃N,zwr N a b=some [aI<|zed a b,aI<|zfe a b]:=by
 have m:CVB big (.s .mon a.Mons):=(zdp p).1 _ (by simp[AV.cvs,zbd]);have l:=m.len;refine zcy λN e=>?_;unfold zwr zed zfe zbW oN;conv=>zeta
 refine(zbq a.Mons (λi (t:Unit)=>(b,(i:Int),a.Memory,a.Mons,a.Buffer,a.IoBuffer,())) _ (λi (x:Mon) (_:Unit) q=>bif ige b 0 then goL (λj (y:Slot) (_:Unit) c=>bif ieq y.Page b then some [AV.one<|.i .i64 (i:Int),AV.one<|.i .i64 (j:Int)] else c ()) (λ_=>q ()) x.Outer 0 () else some [AV.one<|.i .i64<|-1,AV.one<|.i .i64<|-1]) (λ(t:Unit)=>some [.one<|.i .i64<|-1,.one<|.i .i64<|-1]) (λi d t rec=>?_) (λt rec=>?_) _ ()<|e l).trans ?_;{simp only [zbL d,zbn d,zbv d,zbi d l,cT];cases h:ige b 0;{rfl};have n:a.Mons[i].Outer.length<=big:=(m.inv.2 _ (jI d) (.s .slot _) (by simp[Ty.cells])).len;simp only[cT];refine(zbq a.Mons[i].Outer (λj (_:Unit)=>(b,(i:Int),(j:Int),a.Memory,a.Mons,a.Buffer,a.IoBuffer,())) _ (λj (y:Slot) (_:Unit) c=>bif ieq y.Page b then some [AV.one<|.i .i64 (i:Int),AV.one<|.i .i64 (j:Int)] else c ()) (λ_=>rec (b,((i+1:Nat):Int),a.Memory,a.Mons,a.Buffer,a.IoBuffer,())) (λj g u f=>?_) (λu f=>?_) _ ()<|e n).trans ?_;{simp only [zbL g,zbn g,zbv g,zbi g n,cT,zbn d,zbv d]};{simp only [zbD,cF,cT,zbn d,zbv d,zbi d l]};rfl};{simp only [zbD,cF]};cases h:ige b 0;{have k:ilt b 0=true:=(by have:=qX h;exact qJ (by omega));rw[k];exact z3B _ _ _ _};{have k:ilt b 0=false:=(by have:=qD h;exact qH (by omega));rw[k];exact zNV b (λi j=>some [AV.one<|.i .i64 i,AV.one<|.i .i64 j]) a.Mons 0}
def zB8:vO 389 zkK:=hF2 zvl zn zA zdW zF1 zFQ
def z8F:zbf:=[(103,zk5),(304,zk5),(389,zkK),(309,zkK)]++z8E
def zvm:zU z8F:=zi zvy (zi zIq<|zi zB8<|zi zBY zvl)
def zcV (h:Host):LI:=zxT (λi=>ilt (zbW h (i:Int)).1 0) h.Memory.length 0
@[simp] abbrev zg1 (h:Host):Bool:=pc (h.Memory.length<=1048576)
@[simp] abbrev zds (h:Host):LI:=zcV h
def zqC:Run:=rF1 dH λb=>(zg1 b,[aS .int<|zds b])
def zKi (N:Nat)(b:Host):OA:=
 (iter (σ:=(Int×LI×lM×lN×lE×lE×Unit)) N (λc a=>let d:=(⟨a.2.2.1,a.2.2.2.1,a.2.2.2.2.1,a.2.2.2.2.2.1⟩:Host); (cond (ilt a.1<|ln a.2.2.1) (oN (zgX d a.1)<|cond (ilt (zed d a.1) 0) (oN (few<|ln<|ap a.2.1 [a.1])<|c (zQ .i64 a.1 1,ap a.2.1 [a.1],a.2.2.1,a.2.2.2.1,a.2.2.2.2.1,a.2.2.2.2.2.1,()))<|c (zQ .i64 a.1 1,a.2.1,a.2.2.1,a.2.2.2.1,a.2.2.2.2.1,a.2.2.2.2.2.1,()))<|some [aS .int a.2.1])) (0,[],b.Memory,b.Mons,b.Buffer,b.IoBuffer,()))
def zXi:=zo [(388,0,{n:=28,tm:=[(1,.lp 0 0),(3,.sl 0 []),(4,ti)],lo:=[(0,[.sl 1 [],.sl 2 [],.sl 3 [],.sl 4 []])],ro:=[(0,.int,true),(1,.sl .int,false),(2,.mon,false),(3,.entry,false),(4,.entry,false)]})]
def zVB (a:Host)(f:zg1 a=true):∃N,zKi N a=some [aS .int<|zds a]:=by
 have g:=zM.1 f;have e:=zda g;refine zcy λN d=>?_;unfold zKi oN;conv=>zeta
 refine(zbq a.Memory (λi (t:LI)=>((i:Int),t,a.Memory,a.Mons,a.Buffer,a.IoBuffer,())) _ (λi (_:LI) (t:LI) b=>bif ilt (zbW a (i:Int)).1 0 then (cond (few<|ln<|ap t [(i:Int)]) (b<|ap t [(i:Int)]) none) else b t) (λ(t:LI)=>some [.one<|.s .int t]) (λi c t rec=>?_) (λt rec=>?_) _ ([])<|d e.1).trans ?_;{simp only [zbL c,zbn c,zbv c,zbi c e.1,cT]};{simp only [zbD,cF]};rw[zyG λi (t:LI) b=>bif ilt (zbW a (i:Int)).1 0 then (cond (few<|ln<|ap t [(i:Int)]) (b<|ap t [(i:Int)]) none) else b t];exact zz8 (λi=>ilt (zbW a (i:Int)).1 0) _ _ 0 [] (by simpa using e.2)
def zOC:vO 388 zqC:=kF1 zvm zn zA zdW zXi zVB
def zJW (N:Nat)(b:Host):OA:=
 (iter (σ:=(Int×Int×LI×lM×lN×lE×lE×Unit)) N (λd a=>let c:=a.2.2.2.2.2.2.1;let e:=(⟨a.2.2.2.1,a.2.2.2.2.1,a.2.2.2.2.2.1,c⟩:Host); (cond (ilt a.2.1 a.1) (oN (zgX e a.2.1)<|cond (ilt (zed e a.2.1) 0) (oN (few<|ln<|ap a.2.2.1 [a.2.1])<|d (a.1,zQ .i64 a.2.1 1,ap a.2.2.1 [a.2.1],a.2.2.2.1,a.2.2.2.2.1,a.2.2.2.2.2.1,c,()))<|d (a.1,zQ .i64 a.2.1 1,a.2.2.1,a.2.2.2.1,a.2.2.2.2.1,a.2.2.2.2.2.1,c,()))<|some [aS .int a.2.2.1])) (ln b.Memory,0,[],b.Memory,b.Mons,b.Buffer,b.IoBuffer,()))
def zXa:=zo [(248,0,{n:=28,tm:=[(1,.lp 0 0),(3,.sl 0 []),(10,ti),(11,ti)],lo:=[(0,[.sl 1 [],.sl 2 [],.sl 3 [],.sl 4 []])],ro:=[(0,.int,true),(1,.sl .int,false),(2,.mon,false),(3,.entry,false),(4,.entry,false)]})]
def zVg (a:Host)(f:zg1 a=true):∃N,zJW N a=some [aS .int<|zds a]:=by
 have g:=zM.1 f;have e:=zda g;refine zcy λN d=>?_;unfold zJW oN;conv=>zeta
 refine(zbq a.Memory (λi (t:LI)=>(ln a.Memory,(i:Int),t,a.Memory,a.Mons,a.Buffer,a.IoBuffer,())) _ (λi (_:LI) (t:LI) b=>bif ilt (zbW a (i:Int)).1 0 then (cond (few<|ln<|ap t [(i:Int)]) (b<|ap t [(i:Int)]) none) else b t) (λ(t:LI)=>some [.one<|.s .int t]) (λi c t rec=>?_) (λt rec=>?_) _ ([])<|d e.1).trans ?_;{simp only [zbL c,zbn c,zbv c,zbi c e.1,cT]};{simp only [zbD,cF]};rw[zyG λi (t:LI) b=>bif ilt (zbW a (i:Int)).1 0 then (cond (few<|ln<|ap t [(i:Int)]) (b<|ap t [(i:Int)]) none) else b t];exact zz8 (λi=>ilt (zbW a (i:Int)).1 0) _ _ 0 [] (by simpa using e.2)
def zN9:vO 248 zqC:=kF1 zvm zn zA zdW zXa zVg
def zkE (m:List LI)(p:Int)(c:LI):List LI:=bif hasB p (ln m) then (cond (zc2 c) (up m p c) m) else m
@[simp] abbrev zg2 (m:List LI)(p:Int)(c:LI):Bool:=pc (SmM m/\c.length<=1048576)
@[simp] abbrev zfL (m:List LI)(p:Int)(c:LI):List LI:=zkE m p c
def zn8:Run:=rF3 (dS<|.sl .int) dI (dS .int) λb c d=>(zg2 b c d,[aS (.sl .int)<|zfL b c d])
def zCP (N:Nat)(a:lM)(b:Int)(c:LI):OA:=
 (oN (zhT a)<|oN (zN b 0<|wsub .i64 (ln a) 1)<|cond (zl b 0<|wsub .i64 (ln a) 1) (oN (zeh c)<|cond (zdJ c) (oN (few<|ln<|ap [] c)<|oN (inb b<|ln<|zfZ a)<|share (up (zfZ a) b<|ap [] c) λd=>some [aS (.sl .int) d])<|some [aS (.sl .int)<|zfZ a])<|some [aS (.sl .int)<|zfZ a])
def zPL (b:List LI)(a:Int)(c:LI)(g:zg2 b a c=true):∃N,zCP N b a c=some [aS (.sl .int)<|zfL b a c]:=by obtain⟨e,d⟩:=zM.1 g;refine⟨0,?_⟩;unfold zCP zfL zkE oN;refine must (zbs<|(zrK _).2 e) (must rfl ?_);rw[show zl a 0 (wsub .i64 (ln b) 1)=hasB a (ln b) from zsb e.1 a];cases f:hasB a (ln b);{rfl};{simp only [cT,zeh,zdJ];cases h:zc2 c;{rfl};{refine must rfl (must (zpK d)<|must (zB f) ?_);rw[zmN];rfl}}
def zIQ:vO 390 zn8:=kF3 zvm zn zA zdW (zo []) zPL
def zCs (N:Nat)(a:lM)(b:Int)(c:LI):OA:=
 (oN (zhG a)<|oN (zbg b<|ln a)<|cond (zcb b<|ln a) (oN (zeh c)<|cond (zdJ c) (oN (zeI c)<|oN (inb b<|ln<|zeC a)<|share (up (zeC a) b<|zeF c) λd=>some [aS (.sl .int) d])<|some [aS (.sl .int)<|zeC a])<|some [aS (.sl .int)<|zeC a])
def zPr (a:List LI)(b:Int)(c:LI)(f:zg2 a b c=true):∃N,zCs N a b c=some [aS (.sl .int)<|zfL a b c]:=by obtain⟨g,d⟩:=zM.1 f;refine⟨0,?_⟩;unfold zCs zfL zkE oN;refine must (zbs g) (must rfl ?_);rw[show zcb b (ln a)=hasB b (ln a) from rfl];cases e:hasB b (ln a);{rfl};{simp only [cT,zeh,zdJ];cases h:zc2 c;{rfl};{refine must rfl (must (zbs<|qU d (by decide)) (must (zB e) rfl))}}
def zIv:vO 250 zn8:=kF3 zvm zn zA zdW (zo []) zPr
def zsk:zbf:=[(388,zqC),(248,zqC),(390,zn8),(250,zn8)]++z8F
def zje:zU zsk:=zi zOC (zi zN9<|zi zIQ<|zi zIv zvm)
abbrev mZ:Mon:=Ty.dflt .mon
abbrev sZ:Slot:=Ty.dflt .slot
def ShM (x:Mon):Prop:=x.Outer.length=8/\x.Out.length=8/\x.Dirty.length=8/\x.Tables.length=x.Guests.length
def Shape (h:Host):Prop:=SmH h/\∀x∈h.Mons,ShM x
def zkB {h:Host}{m:Int}{x:Mon}(a:Shape h)(c:zfz x)(d:ShM x):Shape {h with Mons:=up h.Mons m x}:=by refine⟨⟨a.1.1,zkf a.1.2.1 c,a.1.2.2⟩,λy b=>?_⟩;rcases qZ b with b|rfl;{exact a.2 y b};{exact d}
def zc3 {h:Host}(b:Shape h){m:Int}(a:hasB m (ln h.Mons)=true):zfz (ix h.Mons m mZ)/\ShM (ix h.Mons m mZ):=⟨b.1.2.1.2 _<|zbO a _,b.2 _<|zbO a _⟩
def zRM {h:Host}{b:List LI}(a:Shape h)(c:SmM b):Shape {h with Memory:=b}:=⟨⟨c,a.1.2⟩,a.2⟩
def zt5 {h:Host}{m p:Int}{s:Slot}(e:hasB m (ln h.Mons)=true)(b:Shape h):Shape (zcx h m p s):=by refine⟨zHx e b.1,?_⟩;obtain⟨_,a⟩:=zc3 b e;have d:∀y∈up h.Mons m {zjD (ix h.Mons m mZ) p (ix h.Mons m mZ).Tables.length with Outer:=up (ix h.Mons m mZ).Outer p s},ShM y:=(by intro y c;rcases qZ c with c|rfl;{exact b.2 y c};{exact⟨by simpa using a.1,a.2.1,a.2.2.1,by simpa [zjD,zpF] using a.2.2.2⟩});unfold zcx;cases ine (ix (ix h.Mons m mZ).Outer p sZ).Page (-1)<;>exact d
def zh5 (h:Host)(m p:Int)(s:Slot):(zcx h m p s).Mons=up h.Mons m {zjD (ix h.Mons m mZ) p (ix h.Mons m mZ).Tables.length with Outer:=up (ix h.Mons m mZ).Outer p s}/\(zcx h m p s).Memory=h.Memory:=by unfold zcx;cases ine (ix (ix h.Mons m mZ).Outer p sZ).Page (-1)<;>exact⟨rfl,rfl⟩
def zfP {h:Host}{m k:Int}{x:Mon}(a:hasB m (ln h.Mons)=true):hasB m (ln<|up h.Mons k x)=true:=by simpa [ln] using a
def zG6 {h:Host}{m k p:Int}{s:Slot}(a:hasB m (ln h.Mons)=true):hasB m (ln (zcx h k p s).Mons)=true:=by rw[(zh5 h k p s).1];exact zfP a
def zew {b:Type}{l:List b}{p:Int}(h:l.length=8)(a:hasB p 8=true):hasB p (ln l)=true:=by rw[ln,h];exact a
def zAi (h:Host)(m p:Int)(s:Slot):Host :=
 bif ine s.Page (-1) then ⟨h.Memory,up h.Mons m<|zjD (ix h.Mons m mZ) p (ix h.Mons m mZ).Guests.length,flushed h.Buffer s.Page,flushed h.IoBuffer s.Page⟩
 else ⟨h.Memory,up h.Mons m<|zjD (ix h.Mons m mZ) p (ix h.Mons m mZ).Guests.length,h.Buffer,h.IoBuffer⟩
def zAI {h:Host}{k:Nat}{p:Int}{s:Slot}(a:k<h.Mons.length)(b:(ix h.Mons (k:Int) mZ).Tables.length=(ix h.Mons (k:Int) mZ).Guests.length) :
 zAi {h with Mons:=up h.Mons (k:Int) {ix h.Mons (k:Int) mZ with Outer:=up (ix h.Mons (k:Int) mZ).Outer p s}} (k:Int) p (ix (ix h.Mons (k:Int) mZ).Outer p sZ)=zcx h (k:Int) p s:=by
 unfold zcx zAi;simp only[zd6 a,zrq,zjD,b]
def z08 {a:Type}(m p:Int)(i:Nat)(t:List Mon)(b:List Mon->Option a):Option a :=
 (cond (inb (i:Int)<|ln (ix t m mZ).Tables) (cond (inb (i:Int)<|ln (ix t m mZ).Guests) (cond (pc<|SmK (ix (ix t m mZ).Tables (i:Int) zeL)/\(ix (ix t m mZ).Guests (i:Int) zx).Live.length<=1048576) (cond (inb (i:Int)<|ln (ix t m mZ).Tables) (b<|up t m ({ (ix t m mZ) with Tables:=(up (ix t m mZ).Tables (i:Int)<|zgd (ix (ix t m mZ).Tables (i:Int) zeL) (ix (ix t m mZ).Guests (i:Int) zx).Live p)}:Mon)) none) none) none) none)
def zZy {j:Type}{mons:List Mon}{k:Nat}(d:k<mons.length)(p:Int)(c:zfz (ix mons (k:Int) mZ))(f:(ix mons (k:Int) mZ).Tables.length=(ix mons (k:Int) mZ).Guests.length)(K:List Mon->Option j) :
 ∀(n i:Nat),i+n=(ix mons (k:Int) mZ).Guests.length->goN (λi t g=>z08 (k:Int) p i t g) K n i (up mons (k:Int)<|zjD (ix mons (k:Int) mZ) p i)=K (up mons (k:Int)<|zjD (ix mons (k:Int) mZ) p (ix mons (k:Int) mZ).Guests.length)
 | 0,i,h=>by have:i=(ix mons (k:Int) mZ).Guests.length:=(by omega);subst this;rfl
 |n+1,i,h=>by
  have b:i<(ix mons (k:Int) mZ).Guests.length:=(by omega);have a:i<(zjJ (ix mons (k:Int) mZ).Guests p i (ix mons (k:Int) mZ).Tables).length:=by rw[zpF];omega
  have e:pc (SmK (ix (zjJ (ix mons (k:Int) mZ).Guests p i (ix mons (k:Int) mZ).Tables) (i:Int) zeL)/\(ix (ix mons (k:Int) mZ).Guests (i:Int) zx).Live.length<=1048576)=true :=
   zbs ⟨by rw[zbv a];exact(ztv _ _ _ _ (by omega) c.2.2.2.2.2).2 _ (jI a),by rw[zbv b];exact(c.2.2.2.1.2 _<|jI b).2.2.1⟩
  simp only[goN,z08,zd6 d,zrq,zjD,zbn a,zbn b,e,cT];exact zZy d p c f K n (i+1) (by omega)
@[simp] abbrev zfC (h:Host)(m p:Int)(s:Slot):Bool:=pc (Shape h/\hasB m (ln h.Mons)=true)
@[simp] abbrev zfD (h:Host)(m p:Int)(s:Slot):Host:=zAi h m p s
def zou:LC->LA->Option (Bool×LC×LA)
 |[.s (.sl .int) b,.s .mon c,.s .entry d,.s .entry e],[.one<|.i .i64 f,.one<|.i .i64 g,.agg [.i .i64 h,.i .i64 j]]=>some (zfC (⟨b,c,d,e⟩:Host) f g (⟨h,j⟩:Slot),zbd<|zfD (⟨b,c,d,e⟩:Host) f g (⟨h,j⟩:Slot),[])
 |_,_=>none
def zrB (N:Nat)(c:Host)(i n:Int)(k:Slot):OA:=
 (oN (inb i<|ln c.Mons)<|iter (σ:=(Int×Int×Int×Int×Int×Int×lN×lM×lE×lE×Unit)) N (λp a=>let j:=a.2.2.2.2.2.2.2.1;let h:=a.2.2.2.2.2.2.1;let e:=a.2.2.2.2.1;let g:=a.2.2.2.2.2.2.2.2.1;let f:=a.2.2.2.2.2.2.2.2.2.1;let b:=a.2.2.2.1;let d:=ix h a.2.1 zh;let m:=ix d.Tables b zeL;let l:=(ix d.Guests b zx).Live; (cond (ilt b a.2.2.1) (oN (inb b<|ln d.Tables)<|oN (inb b<|ln d.Guests)<|oN (zgt m l a.1)<|oN (inb b<|ln d.Tables)<|share (up h a.2.1 ({d with Tables:=(up d.Tables b<|zk7 m l a.1)}:Mon)) λq=>p (a.1,a.2.1,a.2.2.1,zQ .i64 b 1,e,a.2.2.2.2.2.1,q,j,g,f,()))<|cond (ine e<|-1) (oN (zdH g e)<|oN (zdH f e)<|some [aH (⟨j,h,zf5 g e,zf5 f e⟩:Host)])<|some [aH (⟨j,h,g,f⟩:Host)])) (n,i,ln (ix c.Mons i zh).Guests,0,k.Page,k.Rights,c.Mons,c.Memory,c.Buffer,c.IoBuffer,()))
def zJL:=zo [(129,0,{n:=71,tm:=[(0,.lp 0 0),(2,ti),(7,.lp 1 0),(8,.ep 0 [] 0),(20,ti),(21,ti)],lo:=[(0,[.sl 1 [],.sl 0 [],.sl 2 [],.sl 3 []]),(1,[ti,ti])],ro:=[(0,.mon,true),(1,.sl .int,true),(2,.entry,true),(3,.entry,true)]})]
def zMM (N:Nat)(c:Host)(a b:Int)(d:Slot):zqd (cQ zsk zql zJq zW6) zJL N 12 129 [true,true,true,true] (zbd c) [aI a,aI b,aT .slot d]=zrB N c a b d:=by kernel_rfl
def zJa (c:Host)(d b:Int)(a:Slot)(s:zbX big (.agg (zbd c)::[aI d,aI b,aT .slot a]))(r:zfC c d b a=true):∃N,zrB N c d b a=some (.agg (zbd<|zfD c d b a)::[]):=by
 obtain⟨h,g⟩:=zM.1 r;obtain⟨l,q⟩:=zc3 h g;have hg:(ix c.Mons d mZ).Guests.length<=big:=(zda l.2.2.2.1.1).1;refine zcy λN f=>?_;unfold zrB oN;conv=>zeta
 refine must (zB g) ?_;refine(zbq ((ix c.Mons d zh).Guests) (λi (t:lN)=>(b,d,ln (ix c.Mons d zh).Guests,(i:Int),a.Page,a.Rights,t,c.Memory,c.Buffer,c.IoBuffer,())) _ (λi (x:Guest) (t:List Mon) j=>z08 d b i t j) (λ(t:lN)=>cond (ine a.Page<|-1) (cond (zdH c.Buffer a.Page) (cond (zdH c.IoBuffer a.Page) (some [.agg<|zbd (⟨c.Memory,t,zf5 c.Buffer a.Page,zf5 c.IoBuffer a.Page⟩:Host)]) none) none)<|some [.agg<|zbd (⟨c.Memory,t,c.Buffer,c.IoBuffer⟩:Host)]) (λi e t rec=>?_) (λt rec=>?_) _ (c.Mons)<|f hg).trans ?_;{simp only [zbL e,zbn e,zbv e,zbi e hg,cT];rfl};{simp only [zbD,cF]};obtain⟨k,rfl,m⟩:=zeH (n:=c.Mons.length) g;rw[zyG λi t j=>z08 (k:Int) b i t j];have p:c.Mons=up c.Mons (k:Int) (zjD (ix c.Mons (k:Int) mZ) b 0):=(zE8 m _).symm;refine(congrArg _ p).trans ((zZy m b l q.2.2.2 _ _ 0<|j5 _).trans ?_);show (cond (ine a.Page<|-1) _ _)=some [AV.agg<|zbd<|zAi c (k:Int) b a];unfold zAi;cases ine a.Page (-1);{rfl};{exact must rfl (must (zbs h.1.2.2.1) (must (zbs h.1.2.2.2) rfl))}
def zDr:zcc Tryz.prog 129 [true,true,true,true] zou:=by refine zi9 (zil zje zn zA zdW) (zkJ (by kernel_rfl)) ?_;intro g a b j i f h;have d:=zmM f;unfold zou at h;split at h;{obtain⟨e,rfl,rfl⟩:=zoW h;obtain⟨N,c⟩:=zJa _ _ _ _ (by exact d) e;exact⟨rfl,_,N,12,(zMM N _ _ _ _ ).trans c⟩};{cases h}
def z1y:zdj:=[(129,[true,true,true,true],zou)]++zJq
def zPW:zco z1y:=zcZ zA (by
 intro x a;simp only[qG,qN,or_false]at a;rcases a with rfl
 .exact zDr)
def zgf (h:Host)(m p:Int):Host:={h with Mons:=up h.Mons m {ix h.Mons m mZ with Out:=up (ix h.Mons m mZ).Out p (zc1 h.Memory (ix (ix h.Mons m mZ).Outer p sZ).Page)}}
def zex (h:Host)(m p:Int):Host:=zcx (zgf h m p) m p noSlot
def zWV {m:List LI}{p:Int}(h:SmM m):(zc1 m p).length<=1048576:=by unfold zc1;cases a:hasB p (ln m);{exact(by decide:zAU.length<=1048576)};{exact h.2 _ (zbO a _)}
def zx8 {h:Host}{m p:Int}(c:Shape h)(d:hasB m (ln h.Mons)=true):Shape (zgf h m p):=by obtain⟨a,b⟩:=zc3 c d;exact zkB c ⟨a.1,zNl a.2.1<|zWV c.1.1,a.2.2⟩ ⟨b.1,by simpa using b.2.1,b.2.2⟩
def zNg {h:Host}{m p:Int}(b:Shape h)(a:hasB m (ln h.Mons)=true):Shape (zex h m p):=zt5 (zfP a) (zx8 b a)
@[simp] abbrev zke (h:Host)(m p:Int):Bool:=pc (Shape h/\hasB m (ln h.Mons)=true/\hasB p 8=true)
@[simp] abbrev znr (h:Host)(m p:Int):Host:=zex h m p
def zvY:LW
 |[.agg [.s (.sl .int) b,.s .mon c,.s .entry d,.s .entry e],.one<|.i .i64 f,.one<|.i .i64 g]=>some (zke (⟨b,c,d,e⟩:Host) f g,[aH<|znr (⟨b,c,d,e⟩:Host) f g])
 |_=>none
def zzJ (N:Nat)(a:Host)(b c:Int):OA:=
 let d:=ix a.Mons b zh;let e:=(ix d.Outer c zV).Page; (oN (inb b<|ln a.Mons)<|oN (inb b<|ln a.Mons)<|oN (inb c<|ln d.Outer)<|oN (ziL a.Memory e)<|oN (inb c<|ln d.Out)<|share (up a.Mons b ({d with Out:=(up d.Out c<|zks a.Memory e)}:Mon)) (λg=>let f:=({a with Mons:=g}:Host); (oN zbS<|oN (zgO f b c zbl)<|some [aH<|zi0 f b c zbl])))
def zYr (N:Nat)(a:Host)(b c:Int):zEK (cQ zsk zql z1y zW6) (zo []) N 12 360 [true,true,true,true,false,false] 1 1 [[0],[1],[2],[4],[7]] .mon [aH a,aI b,aI c]=zzJ N a b c:=by kernel_rfl
def zVQ (b:Host)(d c:Int)(m:zbX big [aH b,aI d,aI c])(j:zke b d c=true):∃N,zzJ N b d c=some [aH<|znr b d c]:=by
 obtain⟨g,a,f⟩:=zM.1 j;obtain⟨l,e⟩:=zc3 g a;obtain⟨k,rfl,h⟩:=zeH (n:=b.Mons.length) a;have i:=zx8 (p:=c) g a;refine⟨0,?_⟩;unfold zzJ oN;conv=>zeta
 refine must (zB a) (must (zB a)<|must (zB<|zew e.1 f)<|must (zbs<|(zrK _).2 g.1.1)<|must (zB<|zew e.2.1 f)<|shr (must rfl (must (zbs ⟨(zS _).2 i.1,zfP a,?_,?_⟩) rfl)));{simp only [zd6 h];exact zew e.1 f};{simp only [zd6 h];exact k6 e.2.2.2}
def zO3:zfj Tryz.prog 360 [true,true,true,true,false,false] (some (1,1,[[0],[1],[2],[4],[7]])) zvY:=by refine znM (kt:=.mon) (zil zje zn zPW zdW) (zkJ (by kernel_rfl)) (by kernel_rfl) ?_;intro a g f e h;have c:=zkP e;unfold zvY at h;split at h;{obtain⟨d,rfl⟩:=ze9 h;obtain⟨N,b⟩:=zVQ _ _ _ (by exact c) d;exact⟨⟨_,rfl⟩,rfl,_,N,12,(zYr N _ _ _ ).trans b⟩};{cases h}
def zxX:LC->LA->Option (Bool×LC×LA)
 |[.s (.sl .int) b,.s .mon c,.s .entry d,.s .entry e],[.one<|.i .i64 f,.one<|.i .i64 g]=>some (zke (⟨b,c,d,e⟩:Host) f g,zbd<|znr (⟨b,c,d,e⟩:Host) f g,[])
 |_,_=>none
def zHH (N:Nat)(c:Host)(b a:Int):OA:=
 let d:=ix c.Mons b zh;let e:=ix d.Outer a zV; (oN (inb b<|ln c.Mons)<|oN (inb a<|ln d.Outer)<|oN (ziL c.Memory e.Page)<|oN (inb a<|ln d.Out)<|share (up c.Mons b ({d with Out:=(up d.Out a<|zks c.Memory e.Page)}:Mon)) (λg=>let f:=ix g b zh; (oN zbS<|oN (inb a<|ln f.Outer)<|share (up g b ({f with Outer:=(up f.Outer a zbl)}:Mon)) (λi=>let h:=({c with Mons:=i}:Host); (oN (zfC h b a e)<|some [aH<|zfD h b a e])))))
def z4f (N:Nat)(c:Host)(a b:Int):zqd (cQ zsk zql z1y zW6) (zo []) N 12 168 [true,true,true,true] (zbd c) [aI a,aI b]=zHH N c a b:=by kernel_rfl
def z1k (c:Host)(e a:Int)(w:zbX big (.agg (zbd c)::[aI e,aI a]))(u:zke c e a=true):∃N,zHH N c e a=some (.agg (zbd<|znr c e a)::[]):=by
 obtain⟨l,b,j⟩:=zM.1 u;obtain⟨v,f⟩:=zc3 l b;obtain⟨k,rfl,h⟩:=zeH (n:=c.Mons.length) b;have m:=zx8 (p:=a) l b;have d:hasB (k:Int) (ln (zgf c (k:Int) a).Mons)=true:=zfP b;have i:k<(zgf c (k:Int) a).Mons.length:=(by simpa [zgf] using h);have g:ix (zgf c (k:Int) a).Mons (k:Int) mZ={ix c.Mons (k:Int) mZ with Out:=up (ix c.Mons (k:Int) mZ).Out a (zc1 c.Memory (ix (ix c.Mons (k:Int) mZ).Outer a sZ).Page)}:=zd6 h _ _;have t:Shape {zgf c (k:Int) a with Mons:=up (zgf c (k:Int) a).Mons (k:Int) {ix (zgf c (k:Int) a).Mons (k:Int) mZ with Outer:=up (ix (zgf c (k:Int) a).Mons (k:Int) mZ).Outer a noSlot}}:=(by obtain⟨q,r⟩:=zc3 m d;exact zkB m ⟨by simpa using q.1,q.2⟩ ⟨by simpa using r.1,r.2⟩);refine⟨0,?_⟩;unfold zHH oN;conv=>zeta
 refine must (zB b) (must (zB<|zew f.1 j)<|must (zbs<|(zrK _).2 l.1.1)<|must (zB<|zew f.2.1 j)<|shr (must rfl (must ?_<|shr<|must (zbs ⟨t,zfP d⟩) ?_)));{rw [zd6 h];exact zB (zew f.1 j)};{have:=zAI (p:=a) (s:=noSlot) i (by rw[g];exact f.2.2.2);rw[g] at this;show some [AV.agg<|zbd<|zAi {zgf c (k:Int) a with Mons:=up (zgf c (k:Int) a).Mons (k:Int) {ix (zgf c (k:Int) a).Mons (k:Int) mZ with Outer:=up (ix (zgf c (k:Int) a).Mons (k:Int) mZ).Outer a noSlot}} (k:Int) a<|ix (ix c.Mons (k:Int) mZ).Outer a sZ]=_;rw[g];exact congrArg (λx=>some [AV.agg<|zbd x]) this}
def zUY:zcc Tryz.prog 168 [true,true,true,true] zxX:=by refine zi9 (zil zje zn zPW zdW) (zkJ (by kernel_rfl)) ?_;intro g a b j i f h;have d:=zmM f;unfold zxX at h;split at h;{obtain⟨e,rfl,rfl⟩:=zoW h;obtain⟨N,c⟩:=z1k _ _ _ (by exact d) e;exact⟨rfl,_,N,12,(z4f N _ _ _ ).trans c⟩};{cases h}
def z1z:zdj:=[(168,[true,true,true,true],zxX)]++z1y
def zPX:zco z1z:=zcZ zPW (by
 intro x a;simp only[qG,qN,or_false]at a;rcases a with rfl
 .exact zUY)
def z2p:zgF:=[(360,[true,true,true,true,false,false],some (1,1,[[0],[1],[2],[4],[7]]),zvY)]++zW6
def zQa:zfc z2p:=zr9 zdW (by
 intro x a;simp only[qG,qN,or_false]at a;rcases a with rfl
 .exact zO3)
def cz (l:List Slot):Nat:=l.countP λs=>ieq s.Page 0
def zH:List Mon->Nat
 |[]=>0
 |m::l=>cz m.Outer+zH l
def bit (u:List Bool):Nat:=bif ix u 0 false then 1 else 0
def zyB (s:Slot)(l:List Slot):cz (s::l)=cz l+bif ieq s.Page 0 then 1 else 0:=by unfold cz;rw[vG];cases ieq s.Page 0<;>rfl
def zbbT {u:List Bool}{p:Int}(c:0<=p)(a:p.toNat<u.length)(x:Bool):ix (up u p x) 0 false=bif ieq p 0 then x else ix u 0 false:=by unfold ix up;cases h:ieq p 0;{have:p≠0:=(by simpa [ieq] using h);have b:p.toNat≠0:=(by omega);simp[List.getD,jC,b]};{have:p=0:=(by simpa [ieq] using h);subst this;have a:0<u.length:=a;simp[List.getD,jC,a]}
def zEx:∀(l:List Slot) (u b:List Bool),(∀s∈l,s.Page<12)->u.length=12->ziE l u=some b->cz l+bit u=bit b
 |[],u,b,_,_,h=>by cases h;simp[cz]
 |s::l,u,b,i,k,h=>by
  simp only[ziE]at h;rw[zyB];cases c:ilt s.Page 0;{have c:=qX c;rw[show ilt s.Page 0=false from qH (by omega)]at h;simp only[cF]at h;cases d:ix u s.Page false;{rw [d]at h;simp only[cF]at h;have g:s.Page.toNat<u.length:=(by have:=i s (by simp);omega);have a:=zEx l _ b (λt j=>i t (by simp[j])) (by simpa using k) h;have e:bit (up u s.Page true)=bif ieq s.Page 0 then 1 else bit u:=(by unfold bit;rw[zbbT (by omega) g];cases ieq s.Page 0<;>rfl);rw[e] at a;cases f:ieq s.Page 0;{rw [f] at a;simp only[cF] at a ⊢;omega};{have n:s.Page=0:=(by simpa [ieq] using f);rw[n]at d;have:bit u=0:=(by unfold bit;rw[d];rfl);rw[f] at a;simp only[cT] at a ⊢;omega}};{rw [d]at h;cases h}};{have m:=qD c;rw[c]at h;simp only[cT]at h;have a:=zEx l u b (λt j=>i t (by simp[j])) k h;have:ieq s.Page 0=false:=(by simp[ieq];omega);rw[this];simpa using a}
def zU2:∀(l:List Mon) (u:List Bool),u.length=12->zkT l u=true->zH l+bit u<=1
 |[],u,_,_=>by unfold zH bit;cases ix u 0 false<;>simp
 |m::l,u,c,h=>by simp only[zkT]at h;cases b:zfI m;{rw [b]at h;cases h};{rw [b]at h;simp only[cT]at h;cases a:ziE m.Outer u with|none=>rw[a]at h;cases h|some d =>rw[a]at h;have e:=zEx _ _ _ (zE3<|zoG b) c a;have f:=zU2 l d ((zrr _ _ _ a).trans c) h;simp only[zH];omega}
def z3l:∀(l:List Slot) (b:Nat) (s:Slot),l[b]?=some s->s.Page=0->cz (l.set b noSlot)+1=cz l
 |[],b,s,h,_=>by simp at h
 |t::l,0,s,h,a=>by simp only[qI,qC]at h;subst h;rw[List.set_cons_zero,zyB,zyB];have:ieq t.Page 0=true:=(by simp[ieq,a]);rw[this];rfl
 |t::l,b+1,s,h,a=>by rw[List.set_cons_succ,zyB,zyB];have:=z3l l b s (by simpa using h) a;omega
def zXC:∀(l:List Mon) (a:Nat) (x y:Mon),l[a]?=some x->zH (l.set a y)+cz x.Outer=zH l+cz y.Outer
 |[],a,x,y,h=>by simp at h
 |m::l,0,x,y,h=>by simp only[qI,qC]at h;subst h;rw[List.set_cons_zero];simp only[zH];omega
 |m::l,a+1,x,y,h=>by rw[List.set_cons_succ];have:=zXC l a x y (by simpa using h);simp only[zH];omega
def z0R {l:List Slot}(h:cz l=0):zqe l 0=none:=by unfold zqe;rw[List.findIdx?_eq_none_iff];intro s a;have:=(vA.1 h) s a;simpa using this
def zMQ:∀(l:List Mon) (i:Nat),zH l=0->zj6 0 l i=(-1,-1)
 |[],_,_=>rfl
 |m::l,i,h=>by simp only[zH]at h;simp only[zj6];rw[z0R (by omega)];exact zMQ l (i+1) (by omega)
def z0S {l:List Slot}{k:Nat}(h:zqe l 0=some k):∃s,l[k]?=some s/\s.Page=0:=by unfold zqe at h;rw[uY]at h;obtain⟨a,b,_⟩:=h;exact⟨l[k],qB a,by simpa [ieq] using b⟩
def zHg:∀(l:List Mon) (i:Nat),zj6 0 l i=(-1,-1)\/∃a b x s,zj6 0 l i=(((i+a:Nat):Int),((b:Nat):Int))/\l[a]?=some x/\x.Outer[b]?=some s/\s.Page=0
 |[],_=>.inl rfl
 |m::l,i=>by
  simp only[zj6];cases h:zqe m.Outer 0 with
  |none=>rcases zHg l (i+1) with c|⟨a,b,x,s,c,d,f,g⟩;{exact .inl c};{refine .inr ⟨a+1,b,x,s,?_,by simpa using d,f,g⟩;have e:i+1+a=i+(a+1):=(by omega);rw[c,e]}
  |some k=>obtain⟨s,c,d⟩:=z0S h;exact .inr ⟨0,k,m,s,rfl,rfl,c,d⟩
def Fit (h:Host):Prop:=Shape h/\0<h.Memory.length/\zH h.Mons<=1
def zG4 {h:Host}(c:0<h.Memory.length)(b:ilt (zbW h 0).1 0=true):inb 0 (ln<|zcV h)=true:=by unfold zcV;obtain⟨n,a⟩:∃n,h.Memory.length=n+1:=⟨h.Memory.length-1,by omega⟩;rw[a];simp only[zxT];rw[show ilt (zbW h ((0:Nat):Int)).1 0=true from b];exact qJ (by simp only[cT,ln,jB];omega)
def z0X {h:Host}(b:0<h.Memory.length)(a:ieq (ln<|zcV h) 0=true):ilt (zbW h 0).1 0=false:=by cases c:ilt (zbW h 0).1 0;{rfl};{have d:=qD (zG4 b c);have e:ln (zcV h)=0:=(by simpa [ieq] using a);omega}
def zdY (h:Host):Host:=bif ieq (ln<|zcV h) 0 then zex h (zbW h 0).1 (zbW h 0).2 else h
structure Room (h r:Host):Prop where
 shape:Shape r
 free:inb 0 (ln (zcV r))=true
 len:r.Mons.length=h.Mons.length
 outer:∀m,(ix r.Mons m mZ).Outer.length=8\/True
def z4m {h:Host}(i:Fit h)(f:ieq (ln<|zcV h) 0=true):∃(a b:Nat) (x:Mon) (s:Slot),zbW h 0=((a:Int),(b:Int))/\h.Mons[a]?=some x/\x.Outer[b]?=some s/\s.Page=0:=by have d:=z0X i.2.1 f;have e:zbW h 0=zj6 0 h.Mons 0:=rfl;rcases zHg h.Mons 0 with c|⟨a,b,x,s,c,g⟩;{rw [e,c]at d;cases d};{exact⟨a,b,x,s,by rw[e,c,j5],g⟩}
def zEY {h:Host}(d:Fit h)(e:ieq (ln<|zcV h) 0=true):hasB (zbW h 0).1 (ln h.Mons)=true/\hasB (zbW h 0).2 8=true:=by obtain⟨a,b,x,s,f,c,g,j⟩:=z4m d e;rw[f];have k:=(qA.1 c).1;have l:=(qA.1 g).1;have i:=d.1.2 x (qK c);refine⟨qJ (by simp only[ln];omega),qJ ?_⟩;have:=i.1;show 0<=(b:Int)/\(b:Int)<8;omega
def room {h:Host}(d:Fit h):Room h (zdY h):=by unfold zdY;cases g:ieq (ln<|zcV h) 0;{refine⟨d.1,qJ ?_,rfl,λ_=>.inr trivial⟩;have:ln (zcV h)≠0:=(by simpa [ieq] using g);show 0<=(0:Int)/\(0:Int)<ln (zcV h);simp only[ln] at *;omega};{obtain⟨n,u⟩:=zEY d g;obtain⟨a,b,x,s,r,i,k,t⟩:=z4m d g;simp only[cT];rw[r]at n u ⊢;have m:=(qA.1 i).1;have B:=(qA.1 k).1;have j:ix h.Mons (a:Int) mZ=x:=(by rw[zbv m];exact(qA.1 i).2);have c:=(zh5 (zgf h (a:Int) (b:Int)) (a:Int) (b:Int) noSlot).1;have q:ix (zgf h (a:Int) (b:Int)).Mons (a:Int) mZ={x with Out:=up x.Out (b:Int) (zc1 h.Memory (ix x.Outer (b:Int) sZ).Page)}:=(by unfold zgf;rw[zd6 m,j]);obtain⟨y,l,v⟩:∃y,(zex h (a:Int) (b:Int)).Mons=h.Mons.set a y/\y.Outer=x.Outer.set b noSlot:=(by unfold zex;rw[c,q];unfold zgf;rw[zrq];exact⟨_,by simp[up];rfl,by simp[up]⟩);have w:zH (zex h (a:Int) (b:Int)).Mons=0:=(by have p:=zXC h.Mons a x y i;have z:=z3l x.Outer b s k t;have A:=d.2.2;rw[l];rw[v] at p;omega);have f:(zex h (a:Int) (b:Int)).Memory=h.Memory:=(zh5 (zgf h (a:Int) (b:Int)) (a:Int) (b:Int) noSlot).2;refine⟨zNg d.1 n,zG4 (by rw[f];exact d.2.1) ?_,by rw[l];simp,λ_=>.inr trivial⟩;have e:zbW (zex h (a:Int) (b:Int)) 0=zj6 0 (zex h (a:Int) (b:Int)).Mons 0:=rfl;rw[e,zMQ _ _ w];rfl}
def zWW {m:List LI}{p:Int}{c:LI}(h:SmM m)(a:c.length<=1048576):SmM (zkE m p c):=by unfold zkE;cases hasB p (ln m);{exact h};{cases zc2 c;{exact h};{exact zNl h a}}
def landing (r:Host)(m p to:Int):Host:={r with Memory:=zkE r.Memory to (ix (ix r.Mons m mZ).Out p []),Mons:=up r.Mons m {ix r.Mons m mZ with Out:=up (ix r.Mons m mZ).Out p []}}
def zgk (r:Host)(m p to:Int):Host:=zcx (landing r m p to) m p ⟨to,3⟩
def fetched (h:Host)(m p:Int):Host:=zgk (zdY h) m p (ix (zcV<|zdY h) 0 0)
def zWY {r:Host}{m p:Int}(e:Shape r)(c:hasB m (ln r.Mons)=true)(d:hasB p 8=true):(ix (ix r.Mons m mZ).Out p []).length<=1048576:=by obtain⟨a,b⟩:=zc3 e c;exact a.2.1.2 _ (zbO (zew b.2.1 d) _)
def zt4 {r:Host}{m p to:Int}(a:Shape r)(d:hasB m (ln r.Mons)=true)(e:hasB p 8=true):Shape (landing r m p to):=by obtain⟨b,c⟩:=zc3 a d;exact zRM (h:={r with Mons:=up r.Mons m {ix r.Mons m mZ with Out:=up (ix r.Mons m mZ).Out p []}}) (zkB (x:={ix r.Mons m mZ with Out:=up (ix r.Mons m mZ).Out p []}) a ⟨b.1,zNl b.2.1 (by simp),b.2.2⟩ ⟨c.1,by simpa using c.2.1,c.2.2⟩) (zWW a.1.1<|zWY a d e)
def zTr {r:Host}{m p d:Int}(c:Shape r)(a:hasB m (ln r.Mons)=true)(b:hasB p 8=true):Shape (zgk r m p d):=zt5 (zfP a) (zt4 c a b)
def zrY {h:Host}(a:Fit h){m:Int}(b:hasB m (ln h.Mons)=true):hasB m (ln (zdY h).Mons)=true:=by rw[ln,(room a).len];exact b
def zmj {h:Host}{m p:Int}(a:Fit h)(b:hasB m (ln h.Mons)=true)(c:hasB p 8=true):Shape (fetched h m p)/\hasB m (ln (fetched h m p).Mons)=true :=
 ⟨zTr (room a).shape (zrY a b) c,zG6<|zfP<|zrY a b⟩
@[simp] abbrev zlt (h:Host)(m p:Int):Bool:=pc (Fit h/\hasB m (ln h.Mons)=true/\hasB p 8=true)
@[simp] abbrev zmt (h:Host)(m p:Int):Host:=fetched h m p
def zxZ:LW
 |[.agg [.s (.sl .int) b,.s .mon c,.s .entry d,.s .entry e],.one<|.i .i64 f,.one<|.i .i64 g]=>some (zlt (⟨b,c,d,e⟩:Host) f g,[aH<|zmt (⟨b,c,d,e⟩:Host) f g])
 |_=>none
def zCS (N:Nat)(a:Host)(c b:Int):OA:=
 let h:=ix (zds a) 0 0;let f:=ix a.Mons c zh;let d:=znr a (zed a 0)<|zfe a 0;let g:=ix (zds d) 0 0;let e:=ix d.Mons c zh; (oN (zg1 a)<|cond (ieq (ln<|zds a) 0) (oN (zgX a 0)<|oN (zke a (zed a 0)<|zfe a 0)<|oN (zg1 d)<|oN (inb 0<|ln<|zds d)<|oN (inb c<|ln d.Mons)<|oN (inb b<|ln e.Out)<|oN (zg2 d.Memory g<|ix e.Out b [])<|oN (inb c<|ln d.Mons)<|oN (inb b<|ln e.Out)<|share (up d.Mons c ({e with Out:=(up e.Out b [])}:Mon)) (λi=>let j:=({d with Memory:=(zfL d.Memory g<|ix e.Out b []),Mons:=i}:Host); (oN (zgO j c b (⟨g,3⟩:Slot))<|some [aH<|zi0 j c b (⟨g,3⟩:Slot)])))<|oN (zg1 a)<|oN (inb 0<|ln<|zds a)<|oN (inb c<|ln a.Mons)<|oN (inb b<|ln f.Out)<|oN (zg2 a.Memory h<|ix f.Out b [])<|oN (inb c<|ln a.Mons)<|oN (inb b<|ln f.Out)<|share (up a.Mons c ({f with Out:=(up f.Out b [])}:Mon)) (λi=>let k:=({a with Memory:=(zfL a.Memory h<|ix f.Out b []),Mons:=i}:Host); (oN (zgO k c b (⟨h,3⟩:Slot))<|some [aH<|zi0 k c b (⟨h,3⟩:Slot)])))
def z1s (N:Nat)(a:Host)(b c:Int):zEK (cQ zsk zql z1z z2p) (zo []) N 12 361 [true,true,true,true,false,false] 1 1 [[0],[1],[2],[4],[7]] .mon [aH a,aI b,aI c]=zCS N a b c:=by kernel_rfl
def zYo (c:Host)(b d:Int)(z:zbX big [aH c,aI b,aI d])(u:zlt c b d=true):∃N,zCS N c b d=some [aH<|zmt c b d]:=by
 obtain⟨h,v,i⟩:=zM.1 u;have e:∀r,Shape r->inb 0 (ln<|zcV r)=true->hasB b (ln r.Mons)=true->(cond (zg1 r) (cond (inb 0<|ln<|zds r) (cond (inb b<|ln r.Mons) (cond (inb d<|ln (ix r.Mons b zh).Out) (cond (zg2 r.Memory (ix (zds r) 0 0)<|ix (ix r.Mons b zh).Out d []) (cond (inb b<|ln r.Mons) (cond (inb d<|ln (ix r.Mons b zh).Out) (share (up r.Mons b ({ (ix r.Mons b zh) with Out:=(up (ix r.Mons b zh).Out d [])}:Mon)) λs=>cond (zgO ({r with Memory:=(zfL r.Memory (ix (zds r) 0 0)<|ix (ix r.Mons b zh).Out d []),Mons:=s}:Host) b d (⟨ix (zds r) 0 0,3⟩:Slot)) (some [AV.agg<|zbd<|zi0 ({r with Memory:=(zfL r.Memory (ix (zds r) 0 0)<|ix (ix r.Mons b zh).Out d []),Mons:=s}:Host) b d (⟨ix (zds r) 0 0,3⟩:Slot)]) none) none) none) none) none) none) none) none)=some [AV.agg<|zbd<|zgk r b d<|ix (zcV r) 0 0]:=(by intro r j f a;obtain⟨y,l⟩:=zc3 j a;have t:=zt4 (to:=ix (zcV r) 0 0) j a i;obtain⟨k,rfl,q⟩:=zeH (n:=r.Mons.length) a;refine must (zbs j.1.1.1) (must f<|must (zB a)<|must (zB<|zew l.2.1 i)<|must (zbs ⟨j.1.1,zWY j a i⟩)<|must (zB a)<|must (zB<|zew l.2.1 i)<|shr (must (zbs ⟨(zS _).2 t.1,zfP a,?_,?_⟩) rfl));{simp only [zd6 q];exact zew l.1 i};{simp only [zd6 q];exact k6 l.2.2.2});have g:=room h;have a:=zrY h v;refine⟨0,?_⟩;unfold zCS zmt fetched oN;conv=>zeta
 refine must (zbs h.1.1.1.1) ?_;cases p:ieq (ln<|zds c) 0;{have m:zdY c=c:=(by unfold zdY;rw[show ieq (ln<|zcV c) 0=false from p];rfl);rw[m]at g a ⊢;exact e c g.shape g.free a};{obtain⟨w,x⟩:=zEY h p;have m:zdY c=zex c (zbW c 0).1 (zbW c 0).2:=(by unfold zdY;rw[show ieq (ln<|zcV c) 0=true from p];rfl);rw[m]at g a ⊢;exact must rfl (must rfl (must (zbs ⟨h.1,w,x⟩)<|e _ g.shape g.free a))}
def zSn:zfj Tryz.prog 361 [true,true,true,true,false,false] (some (1,1,[[0],[1],[2],[4],[7]])) zxZ:=by refine znM (kt:=.mon) (zil zje zn zPX zQa) (zkJ (by kernel_rfl)) (by kernel_rfl) ?_;intro a g f e h;have c:=zkP e;unfold zxZ at h;split at h;{obtain⟨d,rfl⟩:=ze9 h;obtain⟨N,b⟩:=zYo _ _ _ (by exact c) d;exact⟨⟨_,rfl⟩,rfl,_,N,12,(z1s N _ _ _ ).trans b⟩};{cases h}
@[simp] abbrev ztO (h:Host):Bool:=pc (Shape h/\hasB (zbW h 0).1 (ln h.Mons)=true/\hasB (zbW h 0).2 8=true)
@[simp] abbrev ztP (h:Host):Host:=zex h (zbW h 0).1 (zbW h 0).2
def zpy:LC->LA->Option (Bool×LC×LA)
 |[.s (.sl .int) b,.s .mon c,.s .entry d,.s .entry e],[]=>some (ztO (⟨b,c,d,e⟩:Host),zbd<|ztP (⟨b,c,d,e⟩:Host),[])
 |_,_=>none
def ztE (N:Nat)(c:Host)  : OA :=
 (oN (zgX c 0)<|oN (zke c (zed c 0)<|zfe c 0)<|some [aH<|znr c (zed c 0)<|zfe c 0])
def zPS (N:Nat)(c:Host)  : zqd (cQ zsk zql z1z z2p) (zo []) N 12 249 [true,true,true,true] (zbd c) []=ztE N c:=by kernel_rfl
def zMx (c:Host)(d:zbX big (.agg (zbd c)::[]))(a:ztO c=true):∃N,ztE N c=some (.agg (zbd<|ztP c)::[]):=by have b:=zM.1 a;refine⟨0,?_⟩;unfold ztE oN;exact must rfl (must (zbs b) rfl)
def zFl:zcc Tryz.prog 249 [true,true,true,true] zpy:=by refine zi9 (zil zje zn zPX zQa) (zkJ (by kernel_rfl)) ?_;intro g a b j i f h;have d:=zmM f;unfold zpy at h;split at h;{obtain⟨e,rfl,rfl⟩:=zoW h;obtain⟨N,c⟩:=zMx _ (by exact d) e;exact⟨rfl,_,N,12,(zPS N _ ).trans c⟩};{cases h}
def z6P:zdj:=[(249,[true,true,true,true],zpy)]++z1z
def zZM:zco z6P:=zcZ zPX (by
 intro x a;simp only[qG,qN,or_false]at a;rcases a with rfl
 .exact zFl)
def zW7:zgF:=[(361,[true,true,true,true,false,false],some (1,1,[[0],[1],[2],[4],[7]]),zxZ)]++z2p
def zE6:zfc zW7:=zr9 zQa (by
 intro x a;simp only[qG,qN,or_false]at a;rcases a with rfl
 .exact zSn)
def z0k {r:Host}{m p to:Int}(d:Shape r)(b:hasB m (ln r.Mons)=true):zAi {landing r m p to with Mons:=up (landing r m p to).Mons m {ix (landing r m p to).Mons m mZ with Outer:=up (ix (landing r m p to).Mons m mZ).Outer p ⟨to,3⟩}} m p (ix (ix (landing r m p to).Mons m mZ).Outer p sZ)=zgk r m p to:=by obtain⟨e,c⟩:=zc3 d b;obtain⟨k,rfl,a⟩:=zeH (n:=r.Mons.length) b;refine zAI (h:=landing r (k:Int) p to) (by simpa [landing] using a) ?_;unfold landing;simp only[zd6 a];exact c.2.2.2
def zYV {r:Host}{m p to:Int}(f:Shape r)(b:hasB m (ln r.Mons)=true)(e:hasB p 8=true):Shape {landing r m p to with Mons:=up (landing r m p to).Mons m {ix (landing r m p to).Mons m mZ with Outer:=up (ix (landing r m p to).Mons m mZ).Outer p ⟨to,3⟩}}:=by have a:=zt4 (to:=to) f b e;obtain⟨c,d⟩:=zc3 a (zfP b);exact zkB a ⟨by simpa using c.1,c.2⟩ ⟨by simpa using d.1,d.2⟩
def zvO:LC->LA->Option (Bool×LC×LA)
 |[.s (.sl .int) b,.s .mon c,.s .entry d,.s .entry e],[.one<|.i .i64 f,.one<|.i .i64 g]=>some (zlt (⟨b,c,d,e⟩:Host) f g,zbd<|zmt (⟨b,c,d,e⟩:Host) f g,[])
 |_,_=>none
def zCz (N:Nat)(c:Host)(b a:Int):OA:=
 let m:=ix (zds c) 0 0;let d:=ztP c;let l:=ix (zds d) 0 0;let f:=ix c.Mons b zh;let e:=ix d.Mons b zh; (oN (zg1 c)<|cond (ieq (ln<|zds c) 0) (oN (ztO c)<|oN (inb b<|ln d.Mons)<|oN (zg1 d)<|oN (inb 0<|ln<|zds d)<|oN (inb a<|ln e.Out)<|oN (zg2 d.Memory l<|ix e.Out a [])<|oN (inb a<|ln e.Out)<|share (up d.Mons b ({e with Out:=(up e.Out a [])}:Mon)) (λg=>let i:=ix g b zh;let q:=ix i.Outer a zV; (oN (inb a<|ln i.Outer)<|oN (inb a<|ln i.Outer)<|share (up g b ({i with Outer:=(up i.Outer a (⟨l,3⟩:Slot))}:Mon)) (λk=>let n:=({d with Memory:=(zfL d.Memory l<|ix e.Out a []),Mons:=k}:Host); (oN (zfC n b a q)<|some [aH<|zfD n b a q])))))<|oN (inb b<|ln c.Mons)<|oN (zg1 c)<|oN (inb 0<|ln<|zds c)<|oN (inb a<|ln f.Out)<|oN (zg2 c.Memory m<|ix f.Out a [])<|oN (inb a<|ln f.Out)<|share (up c.Mons b ({f with Out:=(up f.Out a [])}:Mon)) (λg=>let j:=ix g b zh;let h:=ix j.Outer a zV; (oN (inb a<|ln j.Outer)<|oN (inb a<|ln j.Outer)<|share (up g b ({j with Outer:=(up j.Outer a (⟨m,3⟩:Slot))}:Mon)) (λk=>let p:=({c with Memory:=(zfL c.Memory m<|ix f.Out a []),Mons:=k}:Host); (oN (zfC p b a h)<|some [aH<|zfD p b a h])))))
def z1r (N:Nat)(c:Host)(a b:Int):zqd (cQ zsk zql z6P zW7) (zo []) N 12 169 [true,true,true,true] (zbd c) [aI a,aI b]=zCz N c a b:=by kernel_rfl
def zYe (c:Host)(b d:Int)(F:zbX big (.agg (zbd c)::[aI b,aI d]))(w:zlt c b d=true):∃N,zCz N c b d=some (.agg (zbd<|zmt c b d)::[]):=by
 obtain⟨j,B,l⟩:=zM.1 w;have e:∀r,Shape r->inb 0 (ln<|zcV r)=true->hasB b (ln r.Mons)=true->(cond (inb b<|ln r.Mons) (cond (zg1 r) (cond (inb 0<|ln<|zds r) (cond (inb d<|ln (ix r.Mons b zh).Out) (cond (zg2 r.Memory (ix (zds r) 0 0)<|ix (ix r.Mons b zh).Out d []) (cond (inb d<|ln (ix r.Mons b zh).Out) (share (up r.Mons b ({ (ix r.Mons b zh) with Out:=(up (ix r.Mons b zh).Out d [])}:Mon)) λg=>cond (inb d<|ln (ix g b zh).Outer) (cond (inb d<|ln (ix g b zh).Outer) (share (up g b ({ (ix g b zh) with Outer:=(up (ix g b zh).Outer d (⟨ix (zds r) 0 0,3⟩:Slot))}:Mon)) λu=>cond (zfC ({r with Memory:=(zfL r.Memory (ix (zds r) 0 0)<|ix (ix r.Mons b zh).Out d []),Mons:=u}:Host) b d<|ix (ix g b zh).Outer d zV) (some [AV.agg<|zbd<|zfD ({r with Memory:=(zfL r.Memory (ix (zds r) 0 0)<|ix (ix r.Mons b zh).Out d []),Mons:=u}:Host) b d<|ix (ix g b zh).Outer d zV]) none) none) none) none) none) none) none) none) none)=some [AV.agg<|zbd<|zgk r b d<|ix (zcV r) 0 0]:=(by intro r i f a;obtain⟨E,q⟩:=zc3 i a;have v:=zYV (to:=ix (zcV r) 0 0) i a l;have hE:=z0k (p:=d) (to:=ix (zcV r) 0 0) i a;obtain⟨k,rfl,A⟩:=zeH (n:=r.Mons.length) a;have z:∀(x y:Mon),hasB (k:Int) (ln<|up (up r.Mons (k:Int) x) (k:Int) y)=true:=λx y=>(by simpa [ln] using a);have t:inb d (ln (ix (up r.Mons (k:Int) {ix r.Mons (k:Int) mZ with Out:=up (ix r.Mons (k:Int) mZ).Out d []}) (k:Int) mZ).Outer)=true:=(by rw[zd6 A];exact zB (zew q.1 l));refine must (zB a) (must (zbs i.1.1.1)<|must f<|must (zB<|zew q.2.1 l)<|must (zbs ⟨i.1.1,zWY i a l⟩)<|must (zB<|zew q.2.1 l)<|shr<|must t<|must t<|shr<|must (zbs ⟨v,z _ _⟩) ?_);exact congrArg (λx=>some [AV.agg<|zbd x]) hE);have h:=room j;have a:=zrY j B;refine⟨0,?_⟩;unfold zCz zmt fetched oN;conv=>zeta
 refine must (zbs j.1.1.1.1) ?_;cases s:ieq (ln<|zds c) 0;{have m:zdY c=c:=(by unfold zdY;rw[show ieq (ln<|zcV c) 0=false from s];rfl);rw[m]at h a ⊢;exact e c h.shape h.free a};{obtain⟨C,D⟩:=zEY j s;have m:zdY c=zex c (zbW c 0).1 (zbW c 0).2:=(by unfold zdY;rw[show ieq (ln<|zcV c) 0=true from s];rfl);rw[m]at h a ⊢;exact must rfl (must (zbs ⟨j.1,C,D⟩)<|e _ h.shape h.free a)}
def zR9:zcc Tryz.prog 169 [true,true,true,true] zvO:=by refine zi9 (zil zje zn zZM zE6) (zkJ (by kernel_rfl)) ?_;intro g a b j i f h;have d:=zmM f;unfold zvO at h;split at h;{obtain⟨e,rfl,rfl⟩:=zoW h;obtain⟨N,c⟩:=zYe _ _ _ (by exact d) e;exact⟨rfl,_,N,12,(z1r N _ _ _ ).trans c⟩};{cases h}
def z1A:zdj:=[(169,[true,true,true,true],zvO)]++z6P
def zPY:zco z1A:=zcZ zZM (by
 intro x a;simp only[qG,qN,or_false]at a;rcases a with rfl
 .exact zR9)
def zbN (h:Host)(m p:Int):Host:={h with Mons:=up h.Mons m {ix h.Mons m mZ with Dirty:=up (ix h.Mons m mZ).Dirty p true}}
def opened (h:Host)(m p:Int):Host:=bif ieq (wand .i64 (ix (ix h.Mons m mZ).Outer p sZ).Rights 2) 0 then zcx h m p ⟨(ix (ix h.Mons m mZ).Outer p sZ).Page,3⟩ else h
def zlG (h:Host)(m p n:Int):Host:=bif ieq (wand .i64 n 2) 0 then h else opened (zbN h m p) m p
def mended (h:Host)(m p n:Int):Host:=bif ieq (ix (ix h.Mons m mZ).Outer p sZ).Page (-1) then zlG (fetched h m p) m p n else zlG h m p n
def zbao {r:Int}(a:0<=r)(b:r<=3):enough r 2 = !ieq (wand .i64 r 2) 0:=by have:r=0\/r=1\/r=2\/r=3:=(by omega);rcases this with rfl|rfl|rfl|rfl<;>rfl
structure SlotFit (s:Slot):Prop where
 no:zdv s noSlot=ieq s.Page (-1)
 lo:0<=s.Rights
 hi:s.Rights<=3
def z2h {s:Slot}{n:Int}(h:zeO s n=true):SlotFit s:=by refine⟨zRO h,?_,?_⟩<;>unfold zeO at h<;>cases a:zdv s noSlot;{rw [a]at h;simp only[cF,zdZ]at h;have:=(zfW.1 h.2.2).1;omega};{unfold zdv at a;rw[qE]at a;have:s.Rights=0:=qD a.2;omega};{rw [a]at h;simp only[cF,zdZ]at h;have:=(zfW.1 h.2.2).2;omega};{unfold zdv at a;rw[qE]at a;have:s.Rights=0:=qD a.2;omega}
def zpp {h:Host}{m p:Int}(c:Shape h)(d:hasB m (ln h.Mons)=true):Shape (zbN h m p):=by obtain⟨a,b⟩:=zc3 c d;exact zkB c ⟨a.1,a.2.1,by simpa using a.2.2.1,a.2.2.2⟩ ⟨b.1,b.2.1,by simpa using b.2.2.1,b.2.2.2⟩
def zWQ {h:Host}{m p:Int}(b:Shape h)(a:hasB m (ln h.Mons)=true):Shape (opened h m p)/\hasB m (ln (opened h m p).Mons)=true:=by unfold opened;cases ieq (wand .i64 (ix (ix h.Mons m mZ).Outer p sZ).Rights 2) 0;{exact⟨b,a⟩};{exact⟨zt5 a b,zG6 a⟩}
def zHu {h:Host}{m p n:Int}(b:Shape h)(a:hasB m (ln h.Mons)=true):Shape (zlG h m p n)/\hasB m (ln (zlG h m p n).Mons)=true:=by unfold zlG;cases ieq (wand .i64 n 2) 0;{exact zWQ (zpp b a) (zfP a)};{exact⟨b,a⟩}
def zv9 {h:Host}{m p n:Int}(a:Fit h)(b:hasB m (ln h.Mons)=true)(e:hasB p 8=true):Shape (mended h m p n)/\hasB m (ln (mended h m p n).Mons)=true:=by unfold mended;cases ieq (ix (ix h.Mons m mZ).Outer p sZ).Page (-1);{exact zHu a.1 b};{obtain⟨c,d⟩:=zmj a b e;exact zHu c d}
def zUI {h:Host}{m p:Int}(c:Fit h)(g:hasB m (ln h.Mons)=true)(j:hasB p 8=true):(ix (ix (fetched h m p).Mons m mZ).Outer p sZ).Rights=3:=by have f:=room c;have a:=zrY c g;obtain⟨r,e⟩:=zc3 f.shape a;obtain⟨k,rfl,d⟩:=zeH (n:=(zdY h).Mons.length) a;obtain⟨q,rfl,l⟩:=zeH (n:=8) j;unfold fetched zgk;rw[(zh5 _ _ _ _).1];have b:k<(landing (zdY h) (k:Int) (q:Int)<|ix (zcV<|zdY h) 0 0).Mons.length:=(by simpa [landing] using d);rw[zd6 b];have i:q<(ix (landing (zdY h) (k:Int) (q:Int)<|ix (zcV<|zdY h) 0 0).Mons (k:Int) mZ).Outer.length:=(by unfold landing;rw[zd6 d];show q<(ix (zdY h).Mons (k:Int) mZ).Outer.length;rw[e.1];exact l);show (ix (up (ix (landing (zdY h) (k:Int) (q:Int)<|ix (zcV<|zdY h) 0 0).Mons (k:Int) mZ).Outer (q:Int) ⟨_,3⟩) (q:Int) sZ).Rights=3;rw[zd6 i]
def z2z (h:Host)(m p n:Int):Prop:=Fit h/\hasB m (ln h.Mons)=true/\hasB p 8=true/\(n=1\/n=2)/\SlotFit (ix (ix h.Mons m mZ).Outer p sZ)
@[simp] abbrev zgN (h:Host)(m p n:Int):Bool:=pc (z2z h m p n)
@[simp] abbrev zgw (h:Host)(m p n:Int):Host:=mended h m p n
def ztW:LW
 |[.agg [.s (.sl .int) b,.s .mon c,.s .entry d,.s .entry e],.one<|.i .i64 f,.one<|.i .i64 g,.one<|.i .i64 h]=>some (zgN (⟨b,c,d,e⟩:Host) f g h,[aH<|zgw (⟨b,c,d,e⟩:Host) f g h])
 |_=>none
def zxI (N:Nat)(c:Host)(a b l:Int):OA:=
 let h:=zmt c a b;let k:=ix h.Mons a zh;let e:=ix c.Mons a zh;let p:=ix e.Outer b zV; (oN (inb a<|ln c.Mons)<|oN (inb b<|ln e.Outer)<|oN zbS<|cond (cond (ieq p.Page zbl.Page) (ieq p.Rights zbl.Rights) false) (oN (zlt c a b)<|cond (ieq (wand .i64 l 2) 0) (some [aH h])<|oN (inb a<|ln h.Mons)<|oN (inb b<|ln k.Dirty)<|share (up h.Mons a ({k with Dirty:=(up k.Dirty b true)}:Mon)) (λd=>let q:=(ix d a zh).Outer;let i:=({h with Mons:=d}:Host);let m:=ix q b zV;let r:=({m with Rights:=3}:Slot); (oN (inb a<|ln d)<|oN (inb b<|ln q)<|cond (ieq (wand .i64 m.Rights 2) 0) (oN (zgO i a b r)<|some [aH<|zi0 i a b r])<|some [aH i])))<|cond (ieq (wand .i64 l 2) 0) (some [aH c])<|oN (inb a<|ln c.Mons)<|oN (inb b<|ln e.Dirty)<|share (up c.Mons a ({e with Dirty:=(up e.Dirty b true)}:Mon)) (λd=>let f:=(ix d a zh).Outer;let j:=({c with Mons:=d}:Host);let n:=ix f b zV;let g:=({n with Rights:=3}:Slot); (oN (inb a<|ln d)<|oN (inb b<|ln f)<|cond (ieq (wand .i64 n.Rights 2) 0) (oN (zgO j a b g)<|some [aH<|zi0 j a b g])<|some [aH j])))
def zV3 (N:Nat)(a:Host)(b c d:Int):zEK (cQ zsk zql z1A zW7) (zo []) N 12 349 [true,true,true,true,false,false,false] 1 1 [[0],[1],[2],[4],[7]] .mon [aH a,aI b,aI c,aI d]=zxI N a b c d:=by kernel_rfl
def zTd (d:Host)(b a h:Int)(C:zbX big [aH d,aI b,aI a,aI h])(z:zgN d b a h=true):∃N,zxI N d b a h=some [aH<|zgw d b a h]:=by
 obtain⟨l,j,i,D,A⟩:=zM.1 z;obtain⟨B,v⟩:=zc3 l.1 j;have f:∀r,Shape r->hasB b (ln r.Mons)=true->(cond (ieq (wand .i64 h 2) 0) (some [AV.agg<|zbd r])<|cond (inb b<|ln r.Mons) (cond (inb a<|ln (ix r.Mons b zh).Dirty) (share (up r.Mons b ({ (ix r.Mons b zh) with Dirty:=(up (ix r.Mons b zh).Dirty a true)}:Mon)) λg=>cond (inb b<|ln g) (cond (inb a<|ln (ix g b zh).Outer) (cond (ieq (wand .i64 (ix (ix g b zh).Outer a zV).Rights 2) 0) (cond (zgO ({r with Mons:=g}:Host) b a ({ (ix (ix g b zh).Outer a zV) with Rights:=3}:Slot)) (some [AV.agg<|zbd<|zi0 ({r with Mons:=g}:Host) b a ({ (ix (ix g b zh).Outer a zV) with Rights:=3}:Slot)]) none)<|some [AV.agg<|zbd ({r with Mons:=g}:Host)]) none) none) none) none)=some [AV.agg<|zbd<|zlG r b a h]:=(by intro r u c;obtain⟨E,m⟩:=zc3 u c;have y:=zpp (p:=a) u c;unfold zlG;cases w:ieq (wand .i64 h 2) 0;{obtain⟨k,rfl,t⟩:=zeH (n:=r.Mons.length) c;have q:ix (zbN r (k:Int) a).Mons (k:Int) mZ={ix r.Mons (k:Int) mZ with Dirty:=up (ix r.Mons (k:Int) mZ).Dirty a true}:=zd6 t _ _;refine zcj rfl (must (zB c)<|must (zB<|zew m.2.2.1 i)<|shr<|must (zB<|zfP c)<|must ?_ ?_);{rw [zd6 t];exact zB (zew m.1 i)};{unfold opened;show (cond (ieq (wand .i64 (ix (ix (zbN r (k:Int) a).Mons (k:Int) mZ).Outer a sZ).Rights 2) 0) _ _)=_;cases s:ieq (wand .i64 (ix (ix (zbN r (k:Int) a).Mons (k:Int) mZ).Outer a sZ).Rights 2) 0;{rfl};{refine must rfl (must (zbs ⟨(zS _).2 y.1,zfP c,?_,?_⟩) rfl);{show hasB a (ln (ix (zbN r (k:Int) a).Mons (k:Int) mZ).Outer)=true;rw[q];exact zew m.1 i};{show (ix (zbN r (k:Int) a).Mons (k:Int) mZ).Tables.length<=(ix (zbN r (k:Int) a).Mons (k:Int) mZ).Guests.length;rw[q];exact k6 m.2.2.2}}}};{rfl});refine⟨0,?_⟩;unfold zxI zgw mended oN;conv=>zeta
 refine must (zB j) (must (zB<|zew v.1 i) (must rfl ?_));have e:(cond (ieq (ix (ix d.Mons b mZ).Outer a sZ).Page zbl.Page) (ieq (ix (ix d.Mons b mZ).Outer a sZ).Rights zbl.Rights) false)=ieq (ix (ix d.Mons b mZ).Outer a sZ).Page (-1):=(by rw[<- A.no];unfold zdv zbl;cases ieq (ix (ix d.Mons b mZ).Outer a sZ).Page noSlot.Page<;>rfl);rw[e];cases w:ieq (ix (ix d.Mons b mZ).Outer a sZ).Page (-1);{exact f d l.1 j};{obtain⟨s,x⟩:=zmj (p:=a) l j i;exact must rfl (must (zbs ⟨l,j,i⟩)<|f _ s x)}
def zL9:zfj Tryz.prog 349 [true,true,true,true,false,false,false] (some (1,1,[[0],[1],[2],[4],[7]])) ztW:=by refine znM (kt:=.mon) (zil zje zn zPY zE6) (zkJ (by kernel_rfl)) (by kernel_rfl) ?_;intro a g f e h;have c:=zkP e;unfold ztW at h;split at h;{obtain⟨d,rfl⟩:=ze9 h;obtain⟨N,b⟩:=zTd _ _ _ _ (by exact c) d;exact⟨⟨_,rfl⟩,rfl,_,N,12,(zV3 N _ _ _ _ ).trans b⟩};{cases h}
def zxW:LC->LA->Option (Bool×LC×LA)
 |[.s (.sl .int) b,.s .mon c,.s .entry d,.s .entry e],[.one<|.i .i64 f,.one<|.i .i64 g,.one<|.i .i64 h]=>some (zgN (⟨b,c,d,e⟩:Host) f g h,zbd<|zgw (⟨b,c,d,e⟩:Host) f g h,[])
 |_,_=>none
def zHG (N:Nat)(c:Host)(b a k:Int):OA:=
 let e:=zmt c b a;let m:=ix e.Mons b zh;let h:=ix c.Mons b zh; (oN (inb b<|ln c.Mons)<|oN (inb a<|ln h.Outer)<|cond (ieq (ix h.Outer a zV).Page<|-1) (oN (zlt c b a)<|oN (zbg k 2)<|cond (nB<|zdr k 2) (some [aH e])<|oN (inb b<|ln e.Mons)<|oN (inb a<|ln m.Dirty)<|share (up e.Mons b ({m with Dirty:=(up m.Dirty a true)}:Mon)) (λd=>let i:=ix d b zh;let f:=ix i.Outer a zV; (oN (inb a<|ln i.Outer)<|oN (zbg f.Rights 2)<|cond (nB<|zdr f.Rights 2) (oN (inb a<|ln i.Outer)<|share (up d b ({i with Outer:=(up i.Outer a ({f with Rights:=3}:Slot))}:Mon)) (λl=>let n:=({e with Mons:=l}:Host); (oN (zfC n b a f)<|some [aH<|zfD n b a f])))<|some [aH ({e with Mons:=d}:Host)])))<|oN (zbg k 2)<|cond (nB<|zdr k 2) (some [aH c])<|oN (inb b<|ln c.Mons)<|oN (inb a<|ln h.Dirty)<|share (up c.Mons b ({h with Dirty:=(up h.Dirty a true)}:Mon)) (λd=>let j:=ix d b zh;let g:=ix j.Outer a zV; (oN (inb a<|ln j.Outer)<|oN (zbg g.Rights 2)<|cond (nB<|zdr g.Rights 2) (oN (inb a<|ln j.Outer)<|share (up d b ({j with Outer:=(up j.Outer a ({g with Rights:=3}:Slot))}:Mon)) (λl=>let p:=({c with Mons:=l}:Host); (oN (zfC p b a g)<|some [aH<|zfD p b a g])))<|some [aH ({c with Mons:=d}:Host)])))
def z4e (N:Nat)(c:Host)(a b d:Int):zqd (cQ zsk zql z1A zW7) (zo []) N 12 162 [true,true,true,true] (zbd c) [aI a,aI b,aI d]=zHG N c a b d:=by kernel_rfl
def z1j (c:Host)(b a f:Int)(R:zbX big (.agg (zbd c)::[aI b,aI a,aI f]))(M:zgN c b a f=true):∃N,zHG N c b a f=some (.agg (zbd<|zgw c b a f)::[]):=by
 obtain⟨l,i,j,P,C⟩:=zM.1 M;obtain⟨Q,I⟩:=zc3 l.1 i;have H:enough f 2 = !ieq (wand .i64 f 2) 0:=(by rcases P with rfl|rfl<;>rfl);have g:∀r,Shape r->hasB b (ln r.Mons)=true->enough (ix (ix r.Mons b mZ).Outer a sZ).Rights 2=(!ieq (wand .i64 (ix (ix r.Mons b mZ).Outer a sZ).Rights 2) 0)->(cond (zbg f 2) (cond (cond (zdr f 2) false true) (some [AV.agg<|zbd r])<|cond (inb b<|ln r.Mons) (cond (inb a<|ln (ix r.Mons b zh).Dirty) (share (up r.Mons b ({ (ix r.Mons b zh) with Dirty:=(up (ix r.Mons b zh).Dirty a true)}:Mon)) λe=>cond (inb a<|ln (ix e b zh).Outer) (cond (zbg (ix (ix e b zh).Outer a zV).Rights 2) (cond (cond (zdr (ix (ix e b zh).Outer a zV).Rights 2) false true) (cond (inb a<|ln (ix e b zh).Outer) (share (up e b ({ (ix e b zh) with Outer:=(up (ix e b zh).Outer a ({ (ix (ix e b zh).Outer a zV) with Rights:=3}:Slot))}:Mon)) λF=>cond (zfC ({r with Mons:=F}:Host) b a<|ix (ix e b zh).Outer a zV) (some [AV.agg<|zbd<|zfD ({r with Mons:=F}:Host) b a<|ix (ix e b zh).Outer a zV]) none) none)<|some [AV.agg<|zbd ({r with Mons:=e}:Host)]) none) none) none) none) none)=some [AV.agg<|zbd<|zlG r b a f]:=(by intro r B d q;obtain⟨S,u⟩:=zc3 B d;have w:=zpp (p:=a) B d;unfold zlG;simp only[zbg,zdr,H,cT];cases J:ieq (wand .i64 f 2) 0;{obtain⟨k,rfl,A⟩:=zeH (n:=r.Mons.length) d;have m:ix (zbN r (k:Int) a).Mons (k:Int) mZ={ix r.Mons (k:Int) mZ with Dirty:=up (ix r.Mons (k:Int) mZ).Dirty a true}:=zd6 A _ _;have t:k<(zbN r (k:Int) a).Mons.length:=(by simpa [zbN] using A);have z:inb a (ln (ix (zbN r (k:Int) a).Mons (k:Int) mZ).Outer)=true:=(by rw[m];exact zB (zew u.1 j));refine zcj rfl (must (zB d)<|must (zB<|zew u.2.2.1 j)<|shr<|must z ?_);unfold opened;show (cond (cond (enough (ix (ix (zbN r (k:Int) a).Mons (k:Int) mZ).Outer a sZ).Rights 2) false true) _ _)=_;have G:(cond (enough (ix (ix (zbN r (k:Int) a).Mons (k:Int) mZ).Outer a sZ).Rights 2) false true)=ieq (wand .i64 (ix (ix (zbN r (k:Int) a).Mons (k:Int) mZ).Outer a sZ).Rights 2) 0:=(by rw[m];show (cond (enough (ix (ix r.Mons (k:Int) mZ).Outer a sZ).Rights 2) false true)=ieq (wand .i64 (ix (ix r.Mons (k:Int) mZ).Outer a sZ).Rights 2) 0;rw[q];cases ieq (wand .i64 (ix (ix r.Mons (k:Int) mZ).Outer a sZ).Rights 2) 0<;>rfl);rw[G];cases v:ieq (wand .i64 (ix (ix (zbN r (k:Int) a).Mons (k:Int) mZ).Outer a sZ).Rights 2) 0;{rfl};{have L:Shape {zbN r (k:Int) a with Mons:=up (zbN r (k:Int) a).Mons (k:Int) {ix (zbN r (k:Int) a).Mons (k:Int) mZ with Outer:=up (ix (zbN r (k:Int) a).Mons (k:Int) mZ).Outer a ⟨(ix (ix (zbN r (k:Int) a).Mons (k:Int) mZ).Outer a sZ).Page,3⟩}}:=(by obtain⟨D,E⟩:=zc3 w (zfP d);exact zkB w ⟨by simpa using D.1,D.2⟩ ⟨by simpa using E.1,E.2⟩);have O:∀(x y:Mon),hasB (k:Int) (ln<|up (up r.Mons (k:Int) x) (k:Int) y)=true:=λx y=>(by simpa [ln] using d);refine must rfl (must z<|shr<|must (zbs ⟨L,O _ _⟩) ?_);exact congrArg (λx=>some [AV.agg<|zbd x]) (zAI (h:=zbN r (k:Int) a) (p:=a) (s:=⟨(ix (ix (zbN r (k:Int) a).Mons (k:Int) mZ).Outer a sZ).Page,3⟩) t (by rw[m];exact u.2.2.2))}};{rfl});refine⟨0,?_⟩;unfold zHG zgw mended oN nB;conv=>zeta
 refine must (zB i) (must (zB<|zew I.1 j) ?_);cases J:ieq (ix (ix c.Mons b mZ).Outer a sZ).Page (-1);{exact g c l.1 i (zbao C.lo C.hi)};{obtain⟨v,K⟩:=zmj (p:=a) l i j;exact must rfl (must (zbs ⟨l,i,j⟩)<|g _ v K (by rw[zUI l i j];rfl))}
def zUX:zcc Tryz.prog 162 [true,true,true,true] zxW:=by refine zi9 (zil zje zn zPY zE6) (zkJ (by kernel_rfl)) ?_;intro g a b j i f h;have d:=zmM f;unfold zxW at h;split at h;{obtain⟨e,rfl,rfl⟩:=zoW h;obtain⟨N,c⟩:=z1j _ _ _ _ (by exact d) e;exact⟨rfl,_,N,12,(z4e N _ _ _ _ ).trans c⟩};{cases h}
def z1C:zdj:=[(162,[true,true,true,true],zxW)]++z1A
def zbE:zco z1C:=zcZ zPY (by
 intro x a;simp only[qG,qN,or_false]at a;rcases a with rfl
 .exact zUX)
def z2q:zgF:=[(349,[true,true,true,true,false,false,false],some (1,1,[[0],[1],[2],[4],[7]]),ztW)]++zW7
def zzw:zfc z2q:=zr9 zE6 (by
 intro x a;simp only[qG,qN,or_false]at a;rcases a with rfl
 .exact zL9)
def z05 {h:Host}(b:zbQ h=true):h.Memory.length=12:=by unfold zbQ at b;simp only[zdZ]at b;have a:=b.1;unfold zj5 at a;simp only[zdZ]at a;have:ln h.Memory=12:=qD a.2;simp only[ln] at this;omega
def ziO {h:Host}(a:zbQ h=true):∀x∈h.Mons,zfI x=true:=by unfold zbQ at a;simp only[zdZ]at a;exact zAb _ _ a.2.2.2.2
def zJm {x:Mon}(a:zfI x=true):ShM x:=by have e:=ztx (zoG a);unfold zfI at a;simp only[zdZ]at a;have b:ln x.Tables=ln x.Guests:=qD a.2.1;have c:ln x.Out=8:=qD a.2.2.2.1;have d:ln x.Dirty=8:=qD a.2.2.2.2.1;simp only[ln] at *;exact⟨by omega,by omega,by omega,by omega⟩
def zfA {h:Host}(b:SmH h)(a:zbQ h=true):Fit h:=by refine⟨⟨b,λx c=>zJm (ziO a x c)⟩,by rw[z05 a];decide,?_⟩;unfold zbQ at a;simp only[zdZ]at a;have:=zU2 _ _ rfl a.2.2.2.2;omega
def zuw {x:Mon}(b:zfI x=true){p:Int}(c:hasB p 8=true):SlotFit (ix x.Outer p sZ):=by have a:=zoG b;unfold zdN at a;simp only[zdZ]at a;exact z2h (qM.1 a.1 _<|zbO (zew (zJm b).1 c) _)
def zXT {h:Host}{m p:Int}(a:Fit h)(c:hasB m (ln h.Mons)=true):Fit (zbN h m p):=by refine⟨zpp a.1 c,a.2.1,?_⟩;obtain⟨k,rfl,b⟩:=zeH (n:=h.Mons.length) c;have:=zXC h.Mons k (ix h.Mons (k:Int) mZ) {ix h.Mons (k:Int) mZ with Dirty:=up (ix h.Mons (k:Int) mZ).Dirty p true} (by rw[zbv b];exact qB b);have d:=a.2.2;unfold zbN;simp only[up,kG];dsimp only at this;simp only[up] at this;omega
abbrev gZ:Guest:=Ty.dflt .guest
@[simp] abbrev zc9 (h:Host)(m:Int):Mon:=bif hasB m (ln h.Mons) then ix h.Mons m mZ else mZ
@[simp] abbrev zmY (h:Host)(m:Int):Bool:=hasB m (ln h.Mons)
def zHl:Run:=rF2 dH dI λb c=>(zcd b c,[aT .mon<|zc9 b c,aB<|zmY b c])
def zQz (N:Nat)(a:Host)(b:Int):OA:=
 let c:=ix a.Mons b zh; (oN (zbg b<|ln a.Mons)<|cond (nB<|zcb b<|ln a.Mons) (some [aT .mon (⟨[],[],[],[],[],0,0,[],0⟩:Mon),aB false])<|oN (inb b<|ln a.Mons)<|oN (zmp c)<|some [aT .mon<|zmZ c,aB true])
def zX9 (a:Host)(b:Int)(d:zcd a b=true):∃N,zQz N a b=some [aT .mon<|zc9 a b,aB<|zmY a b]:=by
 have e:=(zS a).1 (zM.1 d);refine⟨0,?_⟩;unfold zQz zc9 zmY oN nB;conv=>zeta
 refine must rfl ?_;rw[show zcb b (ln a.Mons)=hasB b (ln a.Mons) from rfl];cases c:hasB b (ln a.Mons);{rfl};{exact zcj rfl (must (zB c) (must (zbs<|e.2.1.2 _<|zbO c _) rfl))}
def zR4:vO 91 zHl:=kF2 zje zn zbE zzw (zo []) zX9
def zb8 (h:Host)(m g:Int):Bool:=bif zbQ h then (cond (hasB m<|ln h.Mons) (hasB g<|ln (ix h.Mons m mZ).Guests) false) else false
@[simp] abbrev zdu (h:Host)(m g:Int):Bool:=pc (zc8 h)
@[simp] abbrev zlk (h:Host)(m g:Int):Bool:=zb8 h m g
def zHo:Run:=rF3 dH dI dI λb c d=>(zdu b c d,[aB<|zlk b c d])
def zQS (N:Nat)(a:Host)(b c:Int):OA:=
 let d:=wsub .i64 (ln (ix a.Mons b zh).Guests) 1; (oN (zcm a)<|cond (zch a) (oN (zN b 0<|wsub .i64 (ln a.Mons) 1)<|cond (zl b 0<|wsub .i64 (ln a.Mons) 1) (oN (inb b<|ln a.Mons)<|oN (zN c 0 d)<|some [aB<|zl c 0 d]) oF) oF)
def zYq (a:Host)(b c:Int)(f:zdu a b c=true):∃N,zQS N a b c=some [aB<|zlk a b c]:=by
 have e:=(zS a).1 (zM.1 f);refine⟨0,?_⟩;unfold zQS zlk zb8 oN;conv=>zeta
 refine must rfl ?_;rw[show zch a=zbQ a from rfl];cases g:zbQ a;{rfl};{rw [show zl b 0 (wsub .i64 (ln a.Mons) 1)=hasB b (ln a.Mons) from zsb e.2.1.1 b];refine must rfl (must rfl ?_);cases d:hasB b (ln a.Mons);{rfl};{have hg:(ix a.Mons b mZ).Guests.length<=1048576:=(e.2.1.2 _<|zbO d _).2.2.2.1.1;rw[show zl c 0 (wsub .i64 (ln (ix a.Mons b zh).Guests) 1)=hasB c (ln (ix a.Mons b mZ).Guests) from zsb hg c];exact must rfl (must (zB d) (must rfl rfl))}}
def zSp:vO 331 zHo:=kF3 zje zn zbE zzw (zo []) zYq
def zc4 (h:Host)(m:Int):Nat->Nat->List LI
 | 0,_=>[]
 |n+1,i=>zdf h m (i:Int)::zc4 h m n (i+1)
def zAx (h:Host)(m:Int):∀(n i:Nat),(zc4 h m n i).length=n
 | 0,_=>rfl
 |n+1,i=>by simp[zc4,zAx h m n]
def zC (h:Host)(m:Int):Bare:=bif hasB m (ln h.Mons) then ⟨zc4 h m 8 0,(ix h.Mons m mZ).Guests,(ix h.Mons m mZ).Outs,(ix h.Mons m mZ).Pending⟩ else ⟨[],[],[],0⟩
def zRn {c:Type}(h:Host)(m:Int)(K:List LI->Option c):∀(n i:Nat) (a:List LI),a.length+n<=2147483648->
 goN (λi a b=>bif few (ln<|ap a [zdf h m (i:Int)]) then b (ap a [zdf h m (i:Int)]) else none) K n i a=K (a++zc4 h m n i)
 | 0,_,a,_=>by simp[goN,zc4]
 |n+1,i,a,d=>by simp only[goN,zc4];rw[ziA (by simp[ap];omega),cT,zRn h m K n (i+1) _ (by simp[ap];omega)];simp[ap]
@[simp] abbrev zen (h:Host)(m:Int):Bare:=zC h m
def z8G:zbf:=[(91,zHl),(331,zHo)]++zsk
def zUy:zU z8G:=zi zR4 (zi zSp zje)
def zD5:Run:=rF2 dH dI λb c=>(zcd b c,[aT .bare<|zen b c])
def zJ5 (N:Nat)(b:Host)(c:Int):OA:=
 (oN (zcd b c)<|cond (nB<|zmY b c) (some [aT .bare (⟨[],[],[],0⟩:Bare)])<|iter (σ:=(Int×Int×Int×Int×lM×lN×lE×lE×lM×lG×LI×lM×lG×LI×Unit)) N (λh a=>let g:=a.2.2.2.2.2.2.2.2.2.2.2.2.1;let f:=a.2.2.2.2.2.2.2.2.2.2.2.2.2.1;let d:=(⟨a.2.2.2.2.1,a.2.2.2.2.2.1,a.2.2.2.2.2.2.1,a.2.2.2.2.2.2.2.1⟩:Host);let e:=ap a.2.2.2.2.2.2.2.2.2.2.2.1 [zAf d a.1 a.2.1]; (cond (ilt a.2.1 8) (oN (zAg d a.1 a.2.1)<|oN (few<|ln e)<|h (a.1,zQ .i64 a.2.1 1,a.2.2.1,a.2.2.2.1,a.2.2.2.2.1,a.2.2.2.2.2.1,a.2.2.2.2.2.2.1,a.2.2.2.2.2.2.2.1,a.2.2.2.2.2.2.2.2.1,a.2.2.2.2.2.2.2.2.2.1,a.2.2.2.2.2.2.2.2.2.2.1,e,g,f,()))<|some [aT .bare (⟨a.2.2.2.2.2.2.2.2.2.2.2.1,g,f,a.2.2.2.1⟩:Bare)])) (c,0,0,(zc9 b c).Pending,b.Memory,b.Mons,b.Buffer,b.IoBuffer,[],[],[],[],(zc9 b c).Guests,(zc9 b c).Outs,()))
def zXe:=zo [(33,0,{n:=39,tm:=[(1,ti),(2,.lp 0 0),(4,.lp 1 0),(7,.lp 2 0),(8,ti)],lo:=[(0,[.sl 0 [],.sl 1 [],.sl 2 [],.sl 3 []]),(1,[.sl 4 [],.sl 5 [],.sl 6 [],ti]),(2,[.sl 7 [],.sl 8 [],.sl 9 [],ti])],ro:=[(0,.sl .int,false),(1,.mon,false),(2,.entry,false),(3,.entry,false),(4,.sl .int,true),(5,.guest,true),(6,.int,true),(7,.sl .int,true),(8,.guest,true),(9,.int,true)]})]
def zVq (a:Host)(b:Int)(f:zcd a b=true):∃N,zJ5 N a b=some [aT .bare<|zen a b]:=by
 have e:=zM.1 f;refine zcy λN d=>?_;unfold zJ5 zen zC oN nB;conv=>zeta
 refine must (zbs e) ?_;rw[show zmY a b=hasB b (ln a.Mons) from rfl];cases g:hasB b (ln a.Mons);{rfl};{refine zcj rfl ?_;refine(zvF 8 (λi (t:lM)=>(b,(i:Int),0,(zc9 a b).Pending,a.Memory,a.Mons,a.Buffer,a.IoBuffer,[],[],[],t,(zc9 a b).Guests,(zc9 a b).Outs,())) _ (λi (c:List LI) j=>bif few (ln<|ap c [zdf a b (i:Int)]) then j (ap c [zdf a b (i:Int)]) else none) (λ(t:lM)=>some [.agg<|Ty.cells .bare (⟨t,(zc9 a b).Guests,(zc9 a b).Outs,(zc9 a b).Pending⟩:Bare)]) (λi h t rec=>?_) (λt rec=>?_) _ ([])<|d (by decide)).trans ?_;{simp only [show ilt (i:Int) 8=true from qJ (by omega),zbi h (show 8<=big by decide),cT];exact must (zbs e) rfl};{simp only [show ilt ((8:Nat):Int) 8=false from qH (by omega),cF]};rw[zRn a b _ 8 0 [] (by decide)];simp only[zc9,g,cT,jT]}
def zOm:vO 33 zD5:=kF2 zUy zn zbE zzw zXe zVq
def zYv:zc2 zAU=true:=by decide
def zZf {p:Nat->Bool}:∀{n i q:Nat},zp7 p n i=true->i<=q->q<i+n->p q=true
 | 0,i,q,_,a,b=>by omega
 |n+1,i,q,h,a,b=>by simp only[zp7,qE]at h;by_cases c:i=q;{subst c;exact h.1};{exact zZf h.2 (by omega) (by omega)}
def z4q {h:Host}{m:Int}(e:zbQ h=true)(l:hasB m (ln h.Mons)=true){p:Int}(j:hasB p 8=true):zc2 (zdf h m p)=true:=by have i:=ziO e _ (zbO l mZ);have s:=zJm i;have f:h.Memory.all zc2=true:=(by unfold zbQ at e;simp only[zdZ]at e;have b:=e.1;unfold zj5 at b;simp only[zdZ]at b;exact b.1);unfold zdf;rw[l,j];simp only[cT];have t:zbJ (ix h.Mons m mZ).Outer p=ix (ix h.Mons m mZ).Outer p sZ:=(by unfold zbJ;rw[zew s.1 j];rfl);rw[t];have d:∀(g:List LI) (q:Int),(hasB q (ln g)=true->zc2 (ix g q [])=true)->zc2 (zc1 g q)=true:=(by intro g q k;unfold zc1;cases b:hasB q (ln g);{exact zYv};{exact k b});cases c:ine (ix (ix h.Mons m mZ).Outer p sZ).Page (-1);{refine d _ _ (λk=>?_);obtain⟨q,rfl,u⟩:=zeH (n:=8) j;have a:fits (ix h.Mons m mZ) q=true:=(by unfold zfI at i;simp only[zdZ]at i;exact zZf i.2.2.2.2.2.2.2.2.2.2 (by omega) (by omega));unfold fits znS at a;have r:zdv (ix (ix h.Mons m mZ).Outer (q:Int) sZ) noSlot=true:=(by rw[(zuw (ziO e _<|zbO l mZ) j).no];rw[zjP]at c;cases b:ieq (ix (ix h.Mons m mZ).Outer (q:Int) sZ).Page (-1);{rw [b]at c;cases c};{rfl});rw[r]at a;exact a};{exact d _ _ (λk=>qM.1 f _ (zbO k _))}
def zRB {h:Host}{m:Int}(a:zbQ h=true)(b:hasB m (ln h.Mons)=true):∀(n i:Nat),i+n<=8->(zc4 h m n i).all zc2=true
 | 0,_,_=>rfl
 |n+1,i,c=>by simp only[zc4,kX,qE];exact⟨z4q a b<|qJ (by omega),zRB a b n (i+1) (by omega)⟩
def zsi {h:Host}{m:Int}(c:zbQ h=true)(b:hasB m (ln h.Mons)=true):zbZ (zC h m)=true:=by have a:=ziO c _ (zbO b mZ);unfold zfI at a;simp only[zdZ]at a;unfold zC zbZ zj5;rw[b];simp only[cT,a.2.2.2.2.2.2.2.2.2.1,zRB c b 8 0 (by decide),ln,zAx];simp only[ln]at a;rw[a.1,a.2.2.2.2.2.1,a.2.2.2.2.2.2.1];rfl
def zo0:zbf:=[(33,zD5)]++z8G
def zjf:zU zo0:=zi zOm zUy
def zfl (l:List Mon):List (List Guest):=l.map λx=>x.Guests
def zAa {l:List Mon}{m:Int}{x:Mon}(b:hasB m (ln l)=true)(c:x.Guests=(ix l m mZ).Guests):zfl (up l m x)=zfl l:=by obtain⟨k,rfl,a⟩:=zeH (n:=l.length) b;unfold zfl up;rw[List.map_set,kG,c,zbv a];have:=@u1 _ (l.map λx=>x.Guests) k (by simpa using a);simpa using this
def zLg {l b:List Mon}(h:zfl b=zfl l)(m:Int):(ix b m mZ).Guests=(ix l m mZ).Guests:=by unfold zfl at h;have a:(b.map λx=>x.Guests)[m.toNat]?=(l.map λx=>x.Guests)[m.toNat]?:=(by rw[h]);rw[qP,qP]at a;unfold ix;simp only[kA];cases c:b[m.toNat]? <;> cases d:l[m.toNat]? <;> rw [c,d]at a<;>simp at a ⊢;exact a
def zz9 {h:Host}{m p:Int}{s:Slot}(a:hasB m (ln h.Mons)=true):zfl (zcx h m p s).Mons=zfl h.Mons:=by rw[(zh5 h m p s).1];exact zAa a rfl
def zbav {h:Host}{m p:Int}(a:hasB m (ln h.Mons)=true):zfl (zex h m p).Mons=zfl h.Mons:=(zz9 (h:=zgf h m p)<|zfP a).trans (zAa a rfl)
def zbau {h:Host}(b:Fit h):zfl (zdY h).Mons=zfl h.Mons:=by unfold zdY;cases a:ieq (ln<|zcV h) 0;{rfl};{exact zbav (zEY b a).1}
def z02 {h:Host}{m p:Int}(a:Fit h)(c:hasB m (ln h.Mons)=true):zfl (fetched h m p).Mons=zfl h.Mons:=by have b:=zrY a c;exact((zz9 (h:=landing (zdY h) m p (ix (zcV<|zdY h) 0 0))<|zfP b).trans (zAa b rfl)).trans (zbau a)
def zUQ {h:Host}{m p n:Int}(b:hasB m (ln h.Mons)=true):zfl (zlG h m p n).Mons=zfl h.Mons:=by have a:zfl (zbN h m p).Mons=zfl h.Mons:=zAa b rfl;unfold zlG;cases ieq (wand .i64 n 2) 0;{unfold opened;cases ieq (wand .i64 (ix (ix (zbN h m p).Mons m mZ).Outer p sZ).Rights 2) 0;{exact a};{exact(zz9 (h:=zbN h m p)<|zfP b).trans a}};{rfl}
def z3E {h:Host}{m p n:Int}(b:Fit h)(a:hasB m (ln h.Mons)=true)(c:hasB p 8=true):zfl (mended h m p n).Mons=zfl h.Mons:=by unfold mended;cases ieq (ix (ix h.Mons m mZ).Outer p sZ).Page (-1);{exact zUQ a};{exact(zUQ (zmj b a c).2).trans (z02 b a)}
def zbbN {l a:List Mon}(h:zfl a=zfl l):a.length=l.length:=by have:=congrArg List.length h;simpa [zfl] using this
abbrev kZ:Kept:=Ty.dflt .kept
def zbcR {x:Guest}(f:zeu x=true){p n:Int}(d:zfs x.Live p n=true):hasB (zcH x.Live p n) 8=true:=by have g:zdN x.Live 4 8=true:=(by unfold zeu at f;simp only[qE]at f;exact f.2.2.2.2.1);unfold zcH;rw[d];simp only[cT];unfold zfs at d;cases a:ieq (zbJ x.Live p).Page (-1);{unfold zbJ at a ⊢;cases e:hasB p (ln x.Live);{rw [e]at a;cases a};{rw [e]at a;simp only[cT]at a ⊢;unfold zdN at g;simp only[zdZ]at g;have c:=qM.1 g.1 _ (zbO e sZ);unfold zeO at c;cases b:zdv (ix x.Live p sZ) noSlot;{rw [b]at c;simp only[cF,zdZ]at c;have:=zfW.1 c.2.1;rw[show wsub .i64 8 1=7 from rfl] at this;show hasB (ix x.Live p sZ).Page 8=true;exact qJ (by omega)};{unfold zdv at b;rw[qE]at b;have:(ix x.Live p sZ).Page = -1:=qD b.1;rw[show ieq (ix x.Live p zV).Page (-1)=true from qJ this]at a;cases a}}};{rw [a]at d;cases d}
def zcS (h:Host)(m g:Int):List Slot:=(ix (ix h.Mons m mZ).Guests g gZ).Live
def zcp (h:Host)(m g:Int):Kept:=ix (ix h.Mons m mZ).Tables g kZ
def zul (h:Host)(a:Bool):List Entry:=bif a then h.IoBuffer else h.Buffer
def ztb (b:List Entry)(m g a:Int):Option Entry:=zz0 b (zeU m g) a
def zjN (b:List Entry)(m g a c:Int):Bool:=bif (ztb b m g a).isSome then enough ((ztb b m g a).getD ⟨0,0,0,0⟩).Rights c else false
def zfq (h:Host)(m g a b:Int):Bool:=bif zl5 (zcp h m g) a then (cond (ieq (zeN (zcp h m g) a).Page<|-1) true<|!enough (zeN (zcp h m g) a).Rights b) else true
def zcX (h:Host)(m g a:Int):Host:={h with Mons:=up h.Mons m {ix h.Mons m mZ with Tables:=up (ix h.Mons m mZ).Tables g (filled (zcp h m g) (zcS h m g) (ix h.Mons m mZ).Outer a)}}
def zTK (h:Host)(m g a:Int):Entry:=⟨zeU m g,a,(zeN (zcp h m g) a).Page,(zeN (zcp h m g) a).Rights⟩
def zxc (h:Host)(m g a:Int)(b:Bool):Host:=bif b then {h with IoBuffer:=zqq h.IoBuffer (zTK h m g a)} else {h with Buffer:=zqq h.Buffer (zTK h m g a)}
def zfE (h:Host)(m g a:Int)(b:Bool):Host×Int×Bool:=(zxc h m g a b,(zeN (zcp h m g) a).Page,true)
def zhH (h:Host)(b:List Entry)(m g a c q:Int)(d:Bool):Host×Int×Bool :=
 bif zjN b m g a c then (h,((ztb b m g a).getD ⟨0,0,0,0⟩).Host,true)
 else (cond (zfq h m g a c) (zfE (zcX (mended h m q c) m g a) m g a d)<|zfE h m g a d)
def zhl (a:Int):Bool:=bif ieq a 1 then true else ieq a 2
def zbY (h:Host)(m g page need:Int):Bool:=bif zb8 h m g then (cond (zhl need) (zfs (zcS h m g) page need) false) else false
def lookOf (h:Host)(b:List Entry)(m g page need:Int)(io:Bool):Host×Int×Bool :=
 bif zbY h m g page need then zhH (cond (ieq need 2) (zbN h m<|zcH (zcS h m g) page need) h) b m g page need (zcH (zcS h m g) page need) io else (h,-1,false)
structure Kp (h r:Host):Prop where
 shape:Shape r
 gs:zfl r.Mons=zfl h.Mons
def Kp.has {h r:Host}(k:Kp h r){m:Int}(a:hasB m (ln h.Mons)=true):hasB m (ln r.Mons)=true:=by rw[ln,zbbN k.gs];exact a
def z2e {h:Host}{m g c:Int}(d:Shape h)(e:hasB m (ln h.Mons)=true)(hg:hasB g (ln (ix h.Mons m mZ).Guests)=true):Shape (zcX h m g c):=by obtain⟨a,b⟩:=zc3 d e;have f:hasB g (ln (ix h.Mons m mZ).Tables)=true:=(by rw[ln,b.2.2.2];exact hg);exact zkB d ⟨a.1,a.2.1,a.2.2.1,a.2.2.2.1,a.2.2.2.2.1,zu4 a.2.2.2.2.2<|z2j<|a.2.2.2.2.2.2 _<|zbO f _⟩ ⟨b.1,b.2.1,b.2.2.1,by simpa using b.2.2.2⟩
def z3N {h r:Host}{m g a:Int}{i:Bool}(k:Kp h r):Kp h (zxc r m g a i):=by obtain⟨⟨b,c,d,e⟩,f⟩:=k.shape;unfold zxc;cases i;{exact⟨⟨⟨b,c,(zvT _ d).1,e⟩,f⟩,k.gs⟩};{exact⟨⟨⟨b,c,d,(zvT _ e).1⟩,f⟩,k.gs⟩}
structure LookAt (h:Host) (m g q need:Int):Prop where
 fit:Fit h
 hm:hasB m (ln h.Mons)=true
 hg:hasB g (ln (ix h.Mons m mZ).Guests)=true
 hq:hasB q 8=true
 hn:need=1\/need=2
 hs:SlotFit (ix (ix h.Mons m mZ).Outer q sZ)
def LookAt.mend {h:Host}{m g q a:Int}(A:LookAt h m g q a):z2z h m q a:=⟨A.fit,A.hm,A.hq,A.hn,A.hs⟩
def LookAt.kp {h:Host}{m g q a:Int}(A:LookAt h m g q a):Kp h (mended h m q a):=⟨(zv9 A.fit A.hm A.hq).1,z3E A.fit A.hm A.hq⟩
def LookAt.fill {h:Host}{m g q a:Int}(A:LookAt h m g q a)(b:Int):Kp h (zcX (mended h m q a) m g b):=by have k:=A.kp;have hg:hasB g (ln (ix (mended h m q a).Mons m mZ).Guests)=true:=(by rw[zLg k.gs];exact A.hg);have e:zfl (zcX (mended h m q a) m g b).Mons=zfl (mended h m q a).Mons:=zAa (k.has A.hm) rfl;exact⟨z2e k.shape (k.has A.hm) hg,e.trans k.gs⟩
def zU8 {h:Host}{b:List Entry}{m g page a q:Int}{io:Bool}(A:LookAt h m g q a):Kp h (zhH h b m g page a q io).1:=by unfold zhH;cases zjN b m g page a;{cases zfq h m g page a;{exact z3N ⟨A.fit.1,rfl⟩};{exact z3N (A.fill page)}};{exact⟨A.fit.1,rfl⟩}
def zdK {h:Host}{m g:Int}(a:zb8 h m g=true):zbQ h=true/\hasB m (ln h.Mons)=true/\hasB g (ln (ix h.Mons m mZ).Guests)=true:=by unfold zb8 at a;simp only[zdZ]at a;exact a
def z03 {h:Host}{m g:Int}(e:zb8 h m g=true):zeu (ix (ix h.Mons m mZ).Guests g gZ)=true:=by obtain⟨b,c,d⟩:=zdK e;have a:=ziO b _ (zbO c mZ);unfold zfI at a;simp only[zdZ]at a;exact qM.1 a.2.2.2.2.2.2.2.2.2.1 _ (zbO d _)
def zML {n:Int}(h:zhl n=true):n=1\/n=2:=by unfold zhl at h;cases a:ieq n 1;{rw [a]at h;exact .inr (qD h)};{exact .inl (qD a)}
def zDQ {h:Host}{m g page a:Int}(s:SmH h)(d:zbY h m g page a=true) :
 LookAt h m g (zcH (zcS h m g) page a) a/\LookAt (zbN h m<|zcH (zcS h m g) page a) m g (zcH (zcS h m g) page a) a:=by
 unfold zbY at d;simp only[zdZ]at d;obtain⟨l,p,r⟩:=d;obtain⟨i,b,j⟩:=zdK l;have f:hasB (zcH (zcS h m g) page a) 8=true:=zbcR (z03 l) r;have c:=zuw (ziO i _<|zbO b mZ) f;have q:=zfA s i;refine⟨⟨q,b,j,f,zML p,c⟩,⟨zXT q b,zfP b,?_,f,zML p,?_⟩⟩
 .have e:zfl (zbN h m<|zcH (zcS h m g) page a).Mons=zfl h.Mons:=zAa b rfl;rw[zLg e];exact j
 .obtain⟨k,rfl,hk⟩:=zeH (n:=h.Mons.length) b;unfold zbN;rw[zd6 hk];exact c
def zuW {h:Host}{b:List Entry}{m g page need:Int}{io:Bool}(a:SmH h)(f:zb8 h m g=true):Kp h (lookOf h b m g page need io).1:=by have d:=zfA a (zdK f).1;unfold lookOf;cases c:zbY h m g page need;{exact⟨d.1,rfl⟩};{obtain⟨A,B⟩:=zDQ a c;simp only[cT];cases ieq need 2;{exact zU8 A};{have k:=zU8 (b:=b) (page:=page) (io:=io) B;have e:zfl (zbN h m<|zcH (zcS h m g) page need).Mons=zfl h.Mons:=zAa A.hm rfl;exact⟨k.shape,k.gs.trans e⟩}}
def zlI (x:Host×Int×Bool):LA:=[.agg<|zbd x.1,.one<|.i .i64 x.2.1,.one<|.b x.2.2]
def zja {h:Host}{b:List Entry}{m g c a:Int}{e:Bool}(d:zbY h m g c a=false):lookOf h b m g c a e=(h,-1,false):=by unfold lookOf;rw[d];rfl
def zpR {h:Host}{m g b a:Int}(c:zb8 h m g=false):zbY h m g b a=false:=by unfold zbY;rw[c];rfl
def zNW {h:Host}{m g:Int}(a:zbQ h=false):zb8 h m g=false:=by unfold zb8;rw[a];rfl
def zNX {h:Host}{m g:Int}(a:hasB m (ln h.Mons)=false):zb8 h m g=false:=by unfold zb8;rw[a];cases zbQ h<;>rfl
def zNY {h:Host}{m g:Int}(a:hasB g (ln (ix h.Mons m mZ).Guests)=false):zb8 h m g=false:=by unfold zb8;rw[a];cases zbQ h<;>cases hasB m (ln h.Mons)<;>rfl
def zNZ {h:Host}{m g:Int}(a:zbQ h=true)(b:hasB m (ln h.Mons)=true)(c:hasB g (ln (ix h.Mons m mZ).Guests)=true):zb8 h m g=true:=by unfold zb8;rw[a,b,c];rfl
structure LookF (r:Host) (m g:Int):Prop where
 hm:hasB m (ln r.Mons)=true
 hg:hasB g (ln (ix r.Mons m mZ).Guests)=true
 ht:hasB g (ln (ix r.Mons m mZ).Tables)=true
 hk:SmK (zcp r m g)
 hb:r.Buffer.length<=1048576
 hi:r.IoBuffer.length<=1048576
def znQ {h r:Host}{m g:Int}(k:Kp h r)(b:hasB m (ln h.Mons)=true)(hg:hasB g (ln (ix h.Mons m mZ).Guests)=true):LookF r m g:=by obtain⟨d,e⟩:=zc3 k.shape (k.has b);have a:hasB g (ln (ix r.Mons m mZ).Guests)=true:=(by rw[zLg k.gs];exact hg);have c:hasB g (ln (ix r.Mons m mZ).Tables)=true:=(by rw[ln,e.2.2.2];exact a);exact⟨k.has b,a,c,d.2.2.2.2.2.2 _<|zbO c _,k.shape.1.2.2.1,k.shape.1.2.2.2⟩
@[simp] abbrev zmv (h:Host)(b:List Entry)(m g c a:Int)(d:Bool):Bool:=pc (zc8 h)
@[simp] abbrev zgP (h:Host)(b:List Entry)(m g page need:Int)(io:Bool):Host:=(lookOf h b m g page need io).1
@[simp] abbrev zmu (h:Host)(b:List Entry)(m g c a:Int)(d:Bool):Int:=(lookOf h b m g c a d).2.1
@[simp] abbrev zi1 (h:Host)(b:List Entry)(m g c a:Int)(d:Bool):Bool:=(lookOf h b m g c a d).2.2
def ztY:LW
 |[.agg [.s (.sl .int) c,.s .mon d,.s .entry e,.s .entry f],.one<|.s .entry g,.one<|.i .i64 h,.one<|.i .i64 j,.one<|.i .i64 k,.one<|.i .i64 l,.one<|.b m]=>some (zmv (⟨c,d,e,f⟩:Host) g h j k l m,[aH<|zgP (⟨c,d,e,f⟩:Host) g h j k l m,aI<|zmu (⟨c,d,e,f⟩:Host) g h j k l m,aB<|zi1 (⟨c,d,e,f⟩:Host) g h j k l m])
 |_=>none
abbrev zRU (b:lM)(c:lN)(d:lE)(e:lE)(a:Int)(g:Int)(f:Int):Mon :=
 (ix (zgw (⟨b,c,d,e⟩:Host) a g f).Mons a zh)
abbrev zRV (a:Host)(b c:Int)(d e:Int):Int :=
 (zft (ix (ix a.Mons b zh).Guests c zx).Live d e)
def zNJ (N:Nat)(a:Int)(b:lM)(c:lN)(d:lE)(e:lE):OA:=
 (some [aH (⟨b,c,d,e⟩:Host),aI a,aB true])
def zrE (N:Nat)(l:Int)(m:Bool)(n:Int)(c:Int)(d:Int)(k:lM)(e:lN)(a:lE)(b:lE)(f:lM)(g:lN)(h:lE)(i:lE):OA:=
 let q:=(⟨n,l,c,d⟩:Entry); (share (λ(j:(Int×Int×lM×lN×lE×lE×lM×lN×lE×lE×Unit))=>zNJ N j.1 j.2.2.1 j.2.2.2.1 j.2.2.2.2.1 j.2.2.2.2.2.1) λp=>cond m (oN (zid b q)<|p (c,d,k,e,a,zhO b q,f,g,h,i,()))<|oN (zid a q)<|p (c,d,k,e,zhO a q,b,f,g,h,i,()))
def ztI (N:Nat)(d:lM)(e:lN)(f:lE)(g:lE)(b:Int)(i:Int)(h:Int)(a:Int)(c:Int)(y:(Int×Bool×Int×Int×Int×Int×Int×Int×Int×lM×lN×lE×lE×lM×lN×lE×lE×Unit)->OA)(r:Bool)(s:Int)(t:Int)(u:Int)(v:Int)(k:Int)(l:lM)(m:lN)(n:lE)(p:lE):OA:=
 let D:=(⟨d,e,f,g⟩:Host);let w:=zgw D b i h;let x:=inb b<|ln w.Mons;let j:=zRU d e f g b i h;let C:=ix j.Tables a zeL;let A:=(ix j.Guests a zx).Live; (oN (zgN D b i h)<|oN x<|oN x<|oN (inb a<|ln j.Tables)<|oN x<|oN (inb a<|ln j.Guests)<|oN x<|oN (zv0 C A j.Outer c)<|oN (inb a<|ln j.Tables)<|share (up w.Mons b ({j with Tables:=(up j.Tables a<|zvZ C A j.Outer c)}:Mon)) (λq=>let B:=(ix q b zh).Tables;let z:=ix B a zeL; (oN (inb b<|ln q)<|oN (inb a<|ln B)<|oN (zc6 z c)<|y (c,r,s,t,u,v,k,(zjT z c).Page,(zjT z c).Rights,w.Memory,q,w.Buffer,w.IoBuffer,l,m,n,p,()))))
def znC (N:Nat)(d:Int)(e:Int)(c:Int)(n:Int)(p:Bool)(v:Int)(q:Int)(r:Int)(s:Int)(t:Int)(f:Int)(g:lM)(b:lN)(h:lE)(i:lE)(j:lM)(k:lN)(l:lE)(m:lE):OA:=
 let z:=(ix b d zh).Tables;let x:=ix z e zeL;let w:=zjT x c; (oN (inb d<|ln b)<|oN (inb e<|ln z)<|oN (zc6 x c)<|share (λ(a:(Int×Bool×Int×Int×Int×Int×Int×Int×Int×lM×lN×lE×lE×lM×lN×lE×lE×Unit))=>zrE N a.1 a.2.1 a.2.2.1 a.2.2.2.2.2.2.2.1 a.2.2.2.2.2.2.2.2.1 a.2.2.2.2.2.2.2.2.2.1 a.2.2.2.2.2.2.2.2.2.2.1 a.2.2.2.2.2.2.2.2.2.2.2.1 a.2.2.2.2.2.2.2.2.2.2.2.2.1 a.2.2.2.2.2.2.2.2.2.2.2.2.2.1 a.2.2.2.2.2.2.2.2.2.2.2.2.2.2.1 a.2.2.2.2.2.2.2.2.2.2.2.2.2.2.2.1 a.2.2.2.2.2.2.2.2.2.2.2.2.2.2.2.2.1) (λu=>let y:=ztI N g b h i d v n e c u p q r s t f j k l m; (cond (nB<|zpT x c) y<|cond (ieq w.Page<|-1) y<|oN (zbg w.Rights n)<|cond (nB<|zdr w.Rights n) y<|u (c,p,q,r,s,t,f,w.Page,w.Rights,g,b,h,i,j,k,l,m,()))))
def ztJ (N:Nat)(g:Int)(a:Host)(h e f:Int)(l:lE)(n:Bool):OA:=
 let i:=zle g h;let k:=zRV a g h e f;let m:=ix a.Mons g zh;let s:=(ix m.Guests h zx).Live;let d:=zhg l i e;let j:=d.Rights; (oN (inb g<|ln a.Mons)<|oN (inb h<|ln m.Guests)<|oN (ziu s e f)<|cond (nB<|zeX s e f) (some [aH a,aI<|-1,aB false])<|oN (zif g h)<|cond (ieq f 2) (oN (inb g<|ln a.Mons)<|oN (inb k<|ln m.Dirty)<|share (up a.Mons g ({m with Dirty:=(up m.Dirty k true)}:Mon)) λp=>oN (zix l i e)<|share (λ(c:(Int×Int×Int×Int×Bool×Int×Int×Int×Int×Int×Int×lM×lN×lE×lE×lM×lN×lE×lE×Unit))=>znC N c.1 c.2.1 c.2.2.1 c.2.2.2.1 c.2.2.2.2.1 c.2.2.2.2.2.1 c.2.2.2.2.2.2.1 c.2.2.2.2.2.2.2.1 c.2.2.2.2.2.2.2.2.1 c.2.2.2.2.2.2.2.2.2.1 c.2.2.2.2.2.2.2.2.2.2.1 c.2.2.2.2.2.2.2.2.2.2.2.1 c.2.2.2.2.2.2.2.2.2.2.2.2.1 c.2.2.2.2.2.2.2.2.2.2.2.2.2.1 c.2.2.2.2.2.2.2.2.2.2.2.2.2.2.1 c.2.2.2.2.2.2.2.2.2.2.2.2.2.2.2.1 c.2.2.2.2.2.2.2.2.2.2.2.2.2.2.2.2.1 c.2.2.2.2.2.2.2.2.2.2.2.2.2.2.2.2.2.1 c.2.2.2.2.2.2.2.2.2.2.2.2.2.2.2.2.2.2.1) λr=>cond (zgg l i e) (oN (zbg j f)<|cond (zdr j f) (some [aH ({a with Mons:=p}:Host),aI d.Host,aB true])<|r (g,h,e,f,n,k,i,d.Tag,d.Page,d.Host,j,a.Memory,p,a.Buffer,a.IoBuffer,[],[],[],[],()))<|r (g,h,e,f,n,k,i,d.Tag,d.Page,d.Host,j,a.Memory,p,a.Buffer,a.IoBuffer,[],[],[],[],()))<|oN (zix l i e)<|share (λ(b:(Int×Int×Int×Int×Bool×Int×Int×Int×Int×Int×Int×lM×lN×lE×lE×lM×lN×lE×lE×Unit))=>znC N b.1 b.2.1 b.2.2.1 b.2.2.2.1 b.2.2.2.2.1 b.2.2.2.2.2.1 b.2.2.2.2.2.2.1 b.2.2.2.2.2.2.2.1 b.2.2.2.2.2.2.2.2.1 b.2.2.2.2.2.2.2.2.2.1 b.2.2.2.2.2.2.2.2.2.2.1 b.2.2.2.2.2.2.2.2.2.2.2.1 b.2.2.2.2.2.2.2.2.2.2.2.2.1 b.2.2.2.2.2.2.2.2.2.2.2.2.2.1 b.2.2.2.2.2.2.2.2.2.2.2.2.2.2.1 b.2.2.2.2.2.2.2.2.2.2.2.2.2.2.2.1 b.2.2.2.2.2.2.2.2.2.2.2.2.2.2.2.2.1 b.2.2.2.2.2.2.2.2.2.2.2.2.2.2.2.2.2.1 b.2.2.2.2.2.2.2.2.2.2.2.2.2.2.2.2.2.2.1) λq=>cond (zgg l i e) (oN (zbg j f)<|cond (zdr j f) (some [aH a,aI d.Host,aB true])<|q (g,h,e,f,n,k,i,d.Tag,d.Page,d.Host,j,a.Memory,a.Mons,a.Buffer,a.IoBuffer,[],[],[],[],()))<|q (g,h,e,f,n,k,i,d.Tag,d.Page,d.Host,j,a.Memory,a.Mons,a.Buffer,a.IoBuffer,[],[],[],[],()))
def zsd (N:Nat)(a:Host)(g:lE)(b c:Int)(h d:Int)(i:Bool):OA:=
 let f:=ztJ N b a c h d g i;let e:=wsub .i64 (ln (ix a.Mons b zh).Guests) 1; (oN (zcm a)<|cond (nB<|zch a) (some [aH a,aI<|-1,aB false])<|oN (zN b 0<|wsub .i64 (ln a.Mons) 1)<|cond (nB<|zl b 0<|wsub .i64 (ln a.Mons) 1) (some [aH a,aI<|-1,aB false])<|oN (inb b<|ln a.Mons)<|oN (zN c 0 e)<|cond (nB<|zl c 0 e) (some [aH a,aI<|-1,aB false])<|cond (ine d 1) (cond (ine d 2) (some [aH a,aI<|-1,aB false]) f) f)
def zt6:=zo [(353,999999,{n:=0,tm:=[],lo:=[],ro:=[]}),(353,1007023,{n:=210,tm:=[(2,ti),(3,ti),(4,ti),(5,ti),(6,.b),(7,.lp 0 0),(14,.lp 1 0),(17,ti),(19,ti),(20,.lp 2 0)],lo:=[(0,[.sl 0 [],.sl 1 [],.sl 2 [],.sl 3 []]),(1,[.sl 4 [],.sl 5 [],.sl 6 [],.sl 7 []]),(2,[ti,ti,ti,ti])],ro:=[(0,.sl .int,true),(1,.mon,true),(2,.entry,true),(3,.entry,true),(4,.sl .int,true),(5,.mon,true),(6,.entry,true),(7,.entry,true)],kr:=1}),(353,1009011,{n:=210,tm:=[(4,ti),(6,.b),(7,.lp 0 0),(14,.lp 1 0),(19,ti),(20,.lp 2 0),(22,.lp 3 0)],lo:=[(0,[.sl 0 [],.sl 1 [],.sl 2 [],.sl 3 []]),(1,[.sl 4 [],.sl 5 [],.sl 6 [],.sl 7 []]),(2,[ti,ti,ti,ti]),(3,[ti,ti])],ro:=[(0,.sl .int,true),(1,.mon,true),(2,.entry,true),(3,.entry,true),(4,.sl .int,true),(5,.mon,true),(6,.entry,true),(7,.entry,true)],kr:=1}),(353,1005003,{n:=210,tm:=[(7,.lp 0 0),(14,.lp 1 0),(22,.lp 2 0)],lo:=[(0,[.sl 0 [],.sl 1 [],.sl 2 [],.sl 3 []]),(1,[.sl 4 [],.sl 5 [],.sl 6 [],.sl 7 []]),(2,[ti,ti])],ro:=[(0,.sl .int,true),(1,.mon,true),(2,.entry,true),(3,.entry,true),(4,.sl .int,true),(5,.mon,true),(6,.entry,true),(7,.entry,true)],kr:=1})]
def zPT (N:Nat)(a:Host)(b c:Int)(d e:Int)(f:Bool):zTL (cQ zo0 zql z1C z2q) zt6 N 12 353 [true,true,true,true,false,false,false,false,false,false] [(4,2)] 1 1 [[0],[1],[2],[4],[7]] .mon [aH a,aS .entry a.Buffer,aI b,aI c,aI d,aI e,aB f]=zsd N a a.Buffer b c d e f:=by kernel_rfl
def zPU (N:Nat)(a:Host)(b c:Int)(d e:Int)(f:Bool):zTL (cQ zo0 zql z1C z2q) zt6 N 12 353 [true,true,true,true,false,false,false,false,false,false] [(4,3)] 1 1 [[0],[1],[2],[4],[7]] .mon [aH a,aS .entry a.IoBuffer,aI b,aI c,aI d,aI e,aB f]=zsd N a a.IoBuffer b c d e f:=by kernel_rfl
def zEL {N:Nat}{r:Host}{m g a:Int}{b:Bool}{z1 z2 z3 z4}(c:r.Buffer.length<=1048576)(d:r.IoBuffer.length<=1048576) :
 zrE N a b (zeU m g) (zeN (zcp r m g) a).Page (zeN (zcp r m g) a).Rights r.Memory r.Mons r.Buffer r.IoBuffer z1 z2 z3 z4=some (zlI<|zfE r m g a b):=by
 unfold zrE oN
 conv=>zeta
 refine shr ?_;cases b
 .exact zcj rfl (must (zbs c) rfl)
 .exact must rfl (must (zbs d) rfl)
def zUJ {N:Nat}{r:Host}{m g a b q:Int}{c:Bool}{R:OA}{r11}{u6 u7 u8 u9 u10 z1 z2 z3 z4}(A:LookAt r m g q b)(d:r11 (a,c,u6,u7,u8,u9,u10,(zeN (zcp (zcX (mended r m q b) m g a) m g) a).Page,(zeN (zcp (zcX (mended r m q b) m g a) m g) a).Rights,(zcX (mended r m q b) m g a).Memory,(zcX (mended r m q b) m g a).Mons,(zcX (mended r m q b) m g a).Buffer,(zcX (mended r m q b) m g a).IoBuffer,z1,z2,z3,z4,())=R) :
 ztI N r.Memory r.Mons r.Buffer r.IoBuffer m q b g a r11 c u6 u7 u8 u9 u10 z1 z2 z3 z4=R:=by
 have M:=znQ A.kp A.hm A.hg;have F:=znQ (A.fill a) A.hm A.hg;unfold ztI oN
 conv=>zeta
 exact must (zbs A.mend) (must (zB M.hm)<|must (zB M.hm)<|must (zB M.ht)<|must (zB M.hm)<|must (zB M.hg)<|must (zB M.hm)<|must (zbs M.hk)<|must (zB M.ht)<|shr<|must (zB F.hm)<|must (zB F.ht)<|must (zbs F.hk) d)
def zZY {r:Host}{m g a b:Int}(h:zl5 (zcp r m g) a=false):zfq r m g a b=true:=by unfold zfq;rw[h];rfl
def zZZ {r:Host}{m g a b:Int}(h:ieq (zeN (zcp r m g) a).Page (-1)=true):zfq r m g a b=true:=by unfold zfq;rw[h];cases zl5 (zcp r m g) a<;>rfl
def zZ0 {r:Host}{m g a b:Int}(h:enough (zeN (zcp r m g) a).Rights b=false):zfq r m g a b=true:=by unfold zfq;rw[h];cases zl5 (zcp r m g) a<;>cases ieq (zeN (zcp r m g) a).Page (-1)<;>rfl
def zZ1 {r:Host}{m g a b:Int}(c:zl5 (zcp r m g) a=true)(d:ieq (zeN (zcp r m g) a).Page (-1)=false)(e:enough (zeN (zcp r m g) a).Rights b=true):zfq r m g a b=false:=by unfold zfq;rw[c,d,e];rfl
def zuY {r:Host}{m g a b q:Int}{c:Bool}(h:zfq r m g a b=true):(cond (zfq r m g a b) (zfE (zcX (mended r m q b) m g a) m g a c)<|zfE r m g a c)=zfE (zcX (mended r m q b) m g a) m g a c:=by rw[h];rfl
def zZD {r:Host}{m g a b q:Int}{c:Bool}(h:zfq r m g a b=false):(cond (zfq r m g a b) (zfE (zcX (mended r m q b) m g a) m g a c)<|zfE r m g a c)=zfE r m g a c:=by rw[h];rfl
def zEM {N:Nat}{r:Host}{m g a b q:Int}{f:Bool}{u7 u8 u9 u10 z1 z2 z3 z4}(A:LookAt r m g q b) :
 znC N m g a b f q (zeU m g) u7 u8 u9 u10 r.Memory r.Mons r.Buffer r.IoBuffer z1 z2 z3 z4=some (zlI<|cond (zfq r m g a b) (zfE (zcX (mended r m q b) m g a) m g a f)<|zfE r m g a f):=by
 have M:=znQ ⟨A.fit.1,rfl⟩ A.hm A.hg;have F:=znQ (A.fill a) A.hm A.hg;unfold znC oN nB
 conv=>zeta
 refine must (zB M.hm) (must (zB M.ht)<|must (zbs M.hk)<|shr<|brN (λc=>?_) λc=>br (λd=>?_) λd=>must rfl (brN (λe=>?_) λe=>?_))
 .rw [zuY<|zZY c];exact zUJ A (zEL (r:=zcX (mended r m q b) m g a) (m:=m) (g:=g) F.hb F.hi)
 .rw [zuY<|zZZ d];exact zUJ A (zEL (r:=zcX (mended r m q b) m g a) (m:=m) (g:=g) F.hb F.hi)
 .rw [zuY<|zZ0 e];exact zUJ A (zEL (r:=zcX (mended r m q b) m g a) (m:=m) (g:=g) F.hb F.hi)
 .rw [zZD<|zZ1 c d e];exact zEL (r:=r) (m:=m) (g:=g) M.hb M.hi
def zEP {b:List Entry}{m g a c:Int}(h:(ztb b m g a).isSome=false):zjN b m g a c=false:=by unfold zjN;rw[h];rfl
def zpM {b:List Entry}{m g a c:Int}{x:Bool}(d:(ztb b m g a).isSome=true)(h:enough ((ztb b m g a).getD ⟨0,0,0,0⟩).Rights c=x):zjN b m g a c=x:=by unfold zjN;rw[d,h];rfl
def zpQ {r:Host}{b:List Entry}{m g a c q:Int}{d:Bool}(h:zjN b m g a c=false):zhH r b m g a c q d=bif zfq r m g a c then zfE (zcX (mended r m q c) m g a) m g a d else zfE r m g a d:=by unfold zhH;rw[h];rfl
def zEV {r:Host}{b:List Entry}{m g a c q:Int}{d:Bool}(h:zjN b m g a c=true):zhH r b m g a c q d=(r,((ztb b m g a).getD ⟨0,0,0,0⟩).Host,true):=by unfold zhH;rw[h];rfl
def zJk {h:Host}{b:List Entry}{m g c a:Int}{d:Bool}(e:zbY h m g c a=true):lookOf h b m g c a d=zhH (cond (ieq a 2) (zbN h m<|zcH (zcS h m g) c a) h) b m g c a (zcH (zcS h m g) c a) d:=by unfold lookOf;rw[e];rfl
def z3s {N:Nat}{r:Host}{b:List Entry}{m g c a:Int}{f:Bool}(p:SmH r)(hg:zb8 r m g=true)(k:zhl a=true) :
 ztJ N m r g c a b f=some (zlI (lookOf r b m g c a f)):=by
 obtain⟨q,h,l⟩:=zdK hg;unfold ztJ oN nB
 conv=>zeta
 refine must (zB h) (must (zB l) (must rfl (brN (fun j=>?_) (fun j=>must rfl ?_))))
 .have:zbY r m g c a=false:=by
   unfold zbY;rw[hg,k,show zfs (zcS r m g) c a=false from j];rfl
  rw[zja this];rfl
 .have hl:zbY r m g c a=true:=by
   unfold zbY;rw[hg,k,show zfs (zcS r m g) c a=true from j];rfl
  obtain⟨A,B⟩:=zDQ p hl;rw[zJk hl];have n:hasB (zcH (zcS r m g) c a) (ln (ix r.Mons m mZ).Dirty)=true:=zew (zc3 A.fit.1 h).2.2.2.1 A.hq;refine br (fun i=>?_) (fun i=>?_)
  .rw [i]
   show _=some (zlI (zhH (zbN r m (zcH (zcS r m g) c a)) b m g c a (zcH (zcS r m g) c a) f))
   refine must (zB h) (must (zB n) (shr (must rfl (shr (br (fun d=>must rfl (br (fun e=>?_) (fun e=>?_))) (fun d=>?_))))))
   .rw [zEV (zpM d e)];rfl
   .rw [zpQ (zpM d e)];exact zEM (r:=zbN r m (zcH (zcS r m g) c a)) B
   .rw [zpQ (zEP d)];exact zEM (r:=zbN r m (zcH (zcS r m g) c a)) B
  .rw [i]
   show _=some (zlI (zhH r b m g c a (zcH (zcS r m g) c a) f))
   refine must rfl (shr (br (fun d=>must rfl (br (fun e=>?_) (fun e=>?_))) (fun d=>?_)))
   .rw [zEV (zpM d e)];rfl
   .rw [zpQ (zpM d e)];exact zEM A
   .rw [zpQ (zEP d)];exact zEM A
def zTf (a:Host)(f:List Entry)(b c:Int)(e d:Int)(g:Bool)(t:zbX big [aH a,aS .entry f,aI b,aI c,aI e,aI d,aB g])(r:zmv a f b c e d g=true):∃N,zsd N a f b c e d g=some [aH<|zgP a f b c e d g,aI<|zmu a f b c e d g,aB<|zi1 a f b c e d g]:=by
 have j:=(zS a).1 (zM.1 r);refine⟨0,?_⟩;show _=some (zlI<|lookOf a f b c e d g);unfold zsd oN nB;conv=>zeta
 refine must rfl (brN (λk=>?_) λk=>must rfl ?_);{rw [zja<|zpR<|zNW k];rfl};rw[show zl b 0 (wsub .i64 (ln a.Mons) 1)=hasB b (ln a.Mons) from zsb j.2.1.1 b];refine brN (λi=>?_) (λi=>must (zB i) (must rfl ?_));{rw [zja<|zpR<|zNX i];rfl};have s:(ix a.Mons b mZ).Guests.length<=1048576:=(j.2.1.2 _<|zbO i _).2.2.2.1.1;rw[show zl c 0 (wsub .i64 (ln (ix a.Mons b zh).Guests) 1)=hasB c (ln (ix a.Mons b mZ).Guests) from zsb s c];refine brN (λl=>?_) (λl=>?_);{rw [zja<|zpR<|zNY l];rfl};have hg:=zNZ k i l;have p:∀{n:Int},zhl n=false->zbY a b c e n=false:=λ{n} h=>(by unfold zbY;rw[hg,h];rfl);rw[zjP,zjP];cases m:ieq d 1;{cases q:ieq d 2;{have:zhl d=false:=(by unfold zhl;rw[m,q];rfl);rw[zja<|p this];rfl};{exact z3s j hg (by unfold zhl;rw[m,q];rfl)}};{exact z3s j hg (by unfold zhl;rw[m];rfl)}
def zMb:zfj Tryz.prog 353 [true,true,true,true,false,false,false,false,false,false] (some (1,1,[[0],[1],[2],[4],[7]])) ztY:=by refine zN0 (kt:=.mon) (zil zjf zn zbE zzw) (zkJ (by kernel_rfl)) ?_;intro p s x f i w v h;have t:=zkP v;have g:p=[(4,2)]\/p=[(4,3)]:=(by rw[show zjY 353=[[(4,2)],[(4,3)]] from by kernel_rfl]at f;simpa using f);unfold ztY at h;split at h;{rename_i a b c d r j k l m n;obtain⟨u,rfl⟩:=ze9 h;obtain⟨N,q⟩:=zTf (⟨a,b,c,d⟩:Host) r j k l m n t u;refine⟨⟨_,rfl⟩,rfl,zt6,N,12,?_⟩;rcases g with rfl|rfl;{have e:=i 4 2 (by simp);simp only[zF,j9,AV.cvs] at e;cases e;exact(zPT N (⟨a,b,c,d⟩:Host) j k l m n).trans q};{have e:=i 4 3 (by simp);simp only[zF,j9,AV.cvs] at e;cases e;exact(zPU N (⟨a,b,c,d⟩:Host) j k l m n).trans q}};{cases h}
def z7w:zgF:=[(353,[true,true,true,true,false,false,false,false,false,false],some (1,1,[[0],[1],[2],[4],[7]]),ztY)]++z2q
def zis:zfc z7w:=zr9 zzw (by
 intro x a;simp only[qG,qN,or_false]at a;rcases a with rfl
 .exact zMb)
def gOf (h:Host)(m g:Int):Guest:=ix (ix h.Mons m mZ).Guests g gZ
def zg0 (h:Host)(m g:Int)(x:Guest):Host:={h with Mons:=up h.Mons m {ix h.Mons m mZ with Guests:=up (ix h.Mons m mZ).Guests g x}}
def zim (h:Host)(m g:Int)(x:Guest)(w:Bool):Host×Int×Bool:=lookOf h h.Buffer m g (zbj<|address x) (zcq w) false
def zg7 (L:Host×Int×Bool)(m g:Int)(x:Guest)(w:Bool):Host :=
 bif L.2.2 then (cond w (zg0 {L.1 with Memory:=zbT L.1.Memory L.2.1 (zd7<|address x) x.A} m g<|zci x)<|zg0 L.1 m g<|loaded x<|cellAt L.1.Memory L.2.1<|zd7<|address x)
 else zg0 L.1 m g (stopped x<|zta (zbj<|address x) w)
def owned (h:Host)(m:Int):Host:=bif ilt (ix h.Mons m mZ).Own 1000000000 then {h with Mons:=up h.Mons m {ix h.Mons m mZ with Own:=zQ .i64 (ix h.Mons m mZ).Own 1}} else h
def zhm (h:Host)(m n:Int):Host:=bif ilt (ln (ix h.Mons m mZ).Outs) 40 then {h with Mons:=up h.Mons m {ix h.Mons m mZ with Outs:=ap (ix h.Mons m mZ).Outs [n]}} else h
def zdP (h:Host)(m:Int)(x:Guest)(w:Int):Host:=bif (cond (ine w 6) (ieq (zm4 (ix h.Mons m mZ).Traps x.Ctl.Traps<|zgc w) 2) false) then owned h m else h
def zgC (h:Host)(m:Int)(x:Guest)(w:Int):Host:=bif (cond (zhY x.Ctl.Traps w) (ieq w 5) false) then zhm h m (zcL x.Prog x.Pc).X else h
def zkN (h:Host)(m g:Int)(x:Guest)(w:Int):Host:=zg0 (zgC (zdP h m x w) m x w) m g (zgD x x.Ctl.Traps w)
def zEp (h:Host)(m g:Int)(x:Guest)(w:Int):Host×Bool :=
 bif ieq w 0 then (h,false) else (bif ieq w 1 then (zg0 h m g<|interrupted x,true) else (bif ieq w 2 then (zg0 h m g<|plainly x,true) else
  (cond (cond (ieq w 3) true<|ieq w 4) (zg7 (zim h m g x<|ieq w 4) m g x<|ieq w 4,true) (zkN h m g x w,true))))
def zcz (h:Host)(m g:Int):Host×Bool:=bif zb8 h m g then zEp h m g (gOf h m g) (zL<|gOf h m g) else (h,false)
def zfb (x:Host×Bool):LA:=[.agg<|zbd x.1,.one<|.b x.2]
def zml {h:Host}{m g:Int}(b:SmH h)(a:hasB m (ln h.Mons)=true)(hg:hasB g (ln (ix h.Mons m mZ).Guests)=true):SmG (gOf h m g):=(b.2.1.2 _<|zbO a _).2.2.2.1.2 _ (zbO hg _)
def z2f {h:Host}{m g:Int}{x:Guest}(c:Shape h)(d:hasB m (ln h.Mons)=true)(e:SmG x):Shape (zg0 h m g x):=by obtain⟨a,b⟩:=zc3 c d;exact zkB c ⟨a.1,a.2.1,a.2.2.1,zE4 a.2.2.2.1 e,a.2.2.2.2⟩ ⟨b.1,b.2.1,b.2.2.1,by simpa using b.2.2.2⟩
def zbb1 (o i t:Int):ieq (zm4 o i t) 1=zev i t:=by unfold zm4;cases zev i t;{cases zev o t<;>rfl};{rfl}
def zbb2 {o i t:Int}(h:zev i t=true):ieq (zm4 o i t) 2=false:=by unfold zm4;rw[h];rfl
def zqm {h:Host}{m:Int}(b:hasB m (ln h.Mons)=true)(x:Mon):ix (up h.Mons m x) m mZ=x:=by obtain⟨k,rfl,a⟩:=zeH (n:=h.Mons.length) b;exact zd6 a _ _
@[simp] abbrev zcG (h:Host)(m g:Int):Host:=(zcz h m g).1
@[simp] abbrev zcP (h:Host)(m g:Int):Bool:=(zcz h m g).2
def zTM {a:Type}{l:List a}{x:a}(h:ilt (ln l) 40=true):few (ln<|ap l [x])=true:=by have:=qD h;simp only[ln] at this;exact ziA (by simp[ap];omega)
def zZ4 {h:Host}{m:Int}{x:Guest}{w:Int}(a:(cond (zhY x.Ctl.Traps w) (ieq w 5) false)=false):zgC h m x w=h:=by unfold zgC;rw[a];rfl
def zRQ {h:Host}{m:Int}{x:Guest}{w:Int}(a:ilt (ln (ix h.Mons m mZ).Outs) 40=false):zgC h m x w=h:=by unfold zgC zhm;rw[a];cases (cond (zhY x.Ctl.Traps w) (ieq w 5) false)<;>rfl
def zW8 {h:Host}{m:Int}{x:Guest}{w:Int}(a:zhY x.Ctl.Traps w=true)(b:ieq w 5=true)(c:ilt (ln (ix h.Mons m mZ).Outs) 40=true):zgC h m x w={h with Mons:=up h.Mons m {ix h.Mons m mZ with Outs:=ap (ix h.Mons m mZ).Outs [(zcL x.Prog x.Pc).X]}}:=by unfold zgC zhm;rw[a,b,c];rfl
def zNs {h:Host}{m:Int}{x:Guest}{w:Int}(a:zhY x.Ctl.Traps w=false):zgC h m x w=h:=zZ4 (by rw[a];rfl)
def zEt {h:Host}{m:Int}{x:Guest}{w:Int}(a:ieq w 5=false):zgC h m x w=h:=zZ4 (by rw[a];cases zhY x.Ctl.Traps w<;>rfl)
def zMg (a:Int):(cond (ieq a a) true false)=true:=by rw[zAh];rfl
def zjU {h:Host}{m g:Int}(a:zb8 h m g=false):zcz h m g=(h,false):=by unfold zcz;rw[a];rfl
def zkC {h:Host}{m g:Int}(a:zb8 h m g=true):zcz h m g=zEp h m g (gOf h m g) (zL<|gOf h m g):=by unfold zcz;rw[a];rfl
def zoq {a b:Bool}(h:(cond a b false)=true):a=true/\b=true:=by cases a;{cases h};{exact⟨rfl,h⟩}
def zkI {a b:Bool}(c:a=true)(d:b=true):(cond a b false)=true:=by rw[c];exact d
def zZ7 {h:Host}{m:Int}{x:Guest}{w:Int}(b:ine w 6=true)(a:ieq (zm4 (ix h.Mons m mZ).Traps x.Ctl.Traps<|zgc w) 2=true)(c:ilt (ix h.Mons m mZ).Own 1000000000=true):zdP h m x w={h with Mons:=up h.Mons m {ix h.Mons m mZ with Own:=zQ .i64 (ix h.Mons m mZ).Own 1}}:=by unfold zdP owned;rw[b,a,c];rfl
def zZ5 {h:Host}{m:Int}{x:Guest}{w:Int}(a:ieq (zm4 (ix h.Mons m mZ).Traps x.Ctl.Traps<|zgc w) 2=false):zdP h m x w=h:=by unfold zdP;rw[a];cases ine w 6<;>rfl
def zZ6 {h:Host}{m:Int}{x:Guest}{w:Int}(a:ilt (ix h.Mons m mZ).Own 1000000000=false):zdP h m x w=h:=by unfold zdP owned;rw[a];cases (cond (ine w 6) (ieq (zm4 (ix h.Mons m mZ).Traps x.Ctl.Traps<|zgc w) 2) false)<;>rfl
def zba4 {h:Host}{m:Int}{x:Guest}:zdP h m x 6=h:=rfl
def zpG {h a:Host}{m g:Int}{x:Guest}{w:Int}(e:zdP h m x w=a):zkN h m g x w=zg0 (zgC a m x w) m g (zgD x x.Ctl.Traps w):=by unfold zkN;rw[e]
def z7x (x:Guest):ieq (zL x) 0=true\/ieq (zL x) 1=true\/ieq (zL x) 2=true\/ieq (zL x) 3=true\/ieq (zL x) 4=true\/ieq (zL x) 5=true\/ieq (zL x) 6=true\/ieq (zL x) 7=true:=by cases a:ieq (zL x) 0;{cases b:ieq (zL x) 1;{cases c:ieq (zL x) 2;{cases d:ieq (zL x) 3;{cases e:ieq (zL x) 4;{cases f:ieq (zL x) 5;{cases g:ieq (zL x) 6;{exact .inr (.inr<|.inr<|.inr<|.inr<|.inr<|.inr<|z2t x a b c d e f g)};{exact .inr (.inr<|.inr<|.inr<|.inr<|.inr (.inl rfl))}};{exact .inr (.inr<|.inr<|.inr<|.inr (.inl rfl))}};{exact .inr (.inr<|.inr<|.inr (.inl rfl))}};{exact .inr (.inr<|.inr (.inl rfl))}};{exact .inr (.inr (.inl rfl))}};{exact .inr (.inl rfl)}};{exact .inl rfl}
abbrev zBK (x:Guest):Bool:=bif zbx x then ieq (zL x) 0 else false
def zqO:LW
 |[.agg [.s .ins c,.i .i64 d,.i .i64 e,.s .slot f,.s .slot g,.i .i64 h,.i .i64 j,.b k,.i .i64 l,.i .i64 m,.i .i64 n,.b o,.i .i64 p,.b q,.s .int r]]=>some (zBK (⟨c,d,e,f,g,⟨h,j,k⟩,l,⟨m,n,o,p⟩,q,r⟩:Guest),[.one<|.i .i64 0])
 |_=>none
def zFt:vO 332 zqO:=by refine⟨zcW.1,λw b g j a h=>?_⟩;unfold zqO at h;split at h;{obtain⟨f,rfl⟩:=ze9 h;obtain⟨d,e⟩:=zoq f;exact zcW.2 w _ g _ a (congr (congrArg (λc v=>some (c,[AV.one<|CV.i .i64 v])) d) (qD e))};{cases h}
def z90:zbf:=[(332,zqO)]++zo0
def z0z:zU z90:=zi zFt zjf
@[simp] abbrev zxj (h:Host)(m g:Int):Bool:=bif zdu h m g then ieq (zL<|gOf h m g) 0 else false
def zFR:Run:=rF3 dH dI dI λb c d=>(zxj b c d,[aH<|zcG b c d,aB<|zcP b c d])
def zwi (N:Nat)(d:Host)(b c:Int):OA:=
 let a:=zk d;let e:=(ix a.Mons b zh).Guests; (oN (zT d)<|oN (zdu a b c)<|cond (nB<|zlk a b c) (some [aH a,aB false])<|oN (inb b<|ln a.Mons)<|oN (inb c<|ln e)<|oN (zBK<|ix e c zx)<|some [aH a,aB false])
abbrev zBL (x:Guest):Bool:=bif zbx x then ieq (zL x) 1 else false
def zqP:LW
 |[.agg [.s .ins c,.i .i64 d,.i .i64 e,.s .slot f,.s .slot g,.i .i64 h,.i .i64 j,.b k,.i .i64 l,.i .i64 m,.i .i64 n,.b o,.i .i64 p,.b q,.s .int r]]=>some (zBL (⟨c,d,e,f,g,⟨h,j,k⟩,l,⟨m,n,o,p⟩,q,r⟩:Guest),[.one<|.i .i64 1])
 |_=>none
def zFu:vO 332 zqP:=by refine⟨zcW.1,λw b g j a h=>?_⟩;unfold zqP at h;split at h;{obtain⟨f,rfl⟩:=ze9 h;obtain⟨d,e⟩:=zoq f;exact zcW.2 w _ g _ a (congr (congrArg (λc v=>some (c,[AV.one<|CV.i .i64 v])) d) (qD e))};{cases h}
def z92:zbf:=[(332,zqP)]++zo0
def z0A:zU z92:=zi zFu zjf
@[simp] abbrev zxk (h:Host)(m g:Int):Bool:=bif zdu h m g then ieq (zL<|gOf h m g) 1 else false
def zFS:Run:=rF3 dH dI dI λb c d=>(zxk b c d,[aH<|zcG b c d,aB<|zcP b c d])
def zwj (N:Nat)(f:Host)(b c:Int):OA:=
 let a:=zk f;let d:=ix a.Mons b zh;let e:=ix d.Guests c zx; (oN (zT f)<|oN (zdu a b c)<|cond (nB<|zlk a b c) (some [aH a,aB false])<|oN (inb b<|ln a.Mons)<|oN (inb c<|ln d.Guests)<|oN (zBL e)<|oN (inb b<|ln a.Mons)<|oN (zO e)<|oN (inb c<|ln d.Guests)<|share (up a.Mons b ({d with Guests:=(up d.Guests c<|zfw e)}:Mon)) λg=>some [aH ({a with Mons:=g}:Host),aB true])
abbrev zBM (x:Guest):Bool:=bif zbx x then ieq (zL x) 2 else false
def zqQ:LW
 |[.agg [.s .ins c,.i .i64 d,.i .i64 e,.s .slot f,.s .slot g,.i .i64 h,.i .i64 j,.b k,.i .i64 l,.i .i64 m,.i .i64 n,.b o,.i .i64 p,.b q,.s .int r]]=>some (zBM (⟨c,d,e,f,g,⟨h,j,k⟩,l,⟨m,n,o,p⟩,q,r⟩:Guest),[.one<|.i .i64 2])
 |_=>none
def zFv:vO 332 zqQ:=by refine⟨zcW.1,λw b g j a h=>?_⟩;unfold zqQ at h;split at h;{obtain⟨f,rfl⟩:=ze9 h;obtain⟨d,e⟩:=zoq f;exact zcW.2 w _ g _ a (congr (congrArg (λc v=>some (c,[AV.one<|CV.i .i64 v])) d) (qD e))};{cases h}
def z94:zbf:=[(332,zqQ)]++zo0
def z0B:zU z94:=zi zFv zjf
@[simp] abbrev zxl (h:Host)(m g:Int):Bool:=bif zdu h m g then ieq (zL<|gOf h m g) 2 else false
def zFT:Run:=rF3 dH dI dI λb c d=>(zxl b c d,[aH<|zcG b c d,aB<|zcP b c d])
def zwk (N:Nat)(f:Host)(b c:Int):OA:=
 let a:=zk f;let d:=ix a.Mons b zh;let e:=ix d.Guests c zx; (oN (zT f)<|oN (zdu a b c)<|cond (nB<|zlk a b c) (some [aH a,aB false])<|oN (inb b<|ln a.Mons)<|oN (inb c<|ln d.Guests)<|oN (zBM e)<|oN (inb b<|ln a.Mons)<|oN (zO e)<|oN (inb c<|ln d.Guests)<|share (up a.Mons b ({d with Guests:=(up d.Guests c<|ziP e)}:Mon)) λg=>some [aH ({a with Mons:=g}:Host),aB true])
abbrev zBN (x:Guest):Bool:=bif zbx x then ieq (zL x) 3 else false
def zqR:LW
 |[.agg [.s .ins c,.i .i64 d,.i .i64 e,.s .slot f,.s .slot g,.i .i64 h,.i .i64 j,.b k,.i .i64 l,.i .i64 m,.i .i64 n,.b o,.i .i64 p,.b q,.s .int r]]=>some (zBN (⟨c,d,e,f,g,⟨h,j,k⟩,l,⟨m,n,o,p⟩,q,r⟩:Guest),[.one<|.i .i64 3])
 |_=>none
def zFw:vO 332 zqR:=by refine⟨zcW.1,λw b g j a h=>?_⟩;unfold zqR at h;split at h;{obtain⟨f,rfl⟩:=ze9 h;obtain⟨d,e⟩:=zoq f;exact zcW.2 w _ g _ a (congr (congrArg (λc v=>some (c,[AV.one<|CV.i .i64 v])) d) (qD e))};{cases h}
def z95:zbf:=[(332,zqR)]++zo0
def z0C:zU z95:=zi zFw zjf
@[simp] abbrev zxm (h:Host)(m g:Int):Bool:=bif zdu h m g then ieq (zL<|gOf h m g) 3 else false
def zFU:Run:=rF3 dH dI dI λb c d=>(zxm b c d,[aH<|zcG b c d,aB<|zcP b c d])
def zwl (N:Nat)(m:Host)(a b:Int):OA:=
 let c:=zk m;let n:=(ix c.Mons a zh).Guests;let h:=ix n b zx;let f:=zia h;let g:=zby f;let l:=zmu c c.Buffer a b g (zdI false) false;let d:=zgP c c.Buffer a b g (zdI false) false;let e:=ix d.Mons a zh;let j:=ix e.Guests b zx;let i:=({h with Prog:=j.Prog,Written:=j.Written,Live:=j.Live,Seen:=j.Seen}:Guest); (oN (zT m)<|oN (zdu c a b)<|cond (nB<|zlk c a b) (some [aH c,aB false])<|oN (inb a<|ln c.Mons)<|oN (inb b<|ln n)<|oN (zBN h)<|oN (zbx h)<|oN (zbP f)<|oN (zlR false)<|oN (zmv c c.Buffer a b g (zdI false) false)<|cond (nB<|zi1 c c.Buffer a b g (zdI false) false) (oN (inb a<|ln d.Mons)<|oN (zbP f)<|oN (zhf g false)<|oN (zcI i<|ze5 g false)<|oN (inb b<|ln e.Guests)<|share (up d.Mons a ({e with Guests:=(up e.Guests b<|zcM i<|ze5 g false)}:Mon)) λk=>some [aH ({d with Mons:=k}:Host),aB true])<|oN (inb a<|ln d.Mons)<|oN (zbP f)<|oN (zfM d.Memory l<|zc5 f)<|oN (zoc i<|zgV d.Memory l<|zc5 f)<|oN (inb b<|ln e.Guests)<|share (up d.Mons a ({e with Guests:=(up e.Guests b<|zlP i<|zgV d.Memory l<|zc5 f)}:Mon)) λk=>some [aH ({d with Mons:=k}:Host),aB true])
abbrev zBO (x:Guest):Bool:=bif zbx x then ieq (zL x) 4 else false
def zqS:LW
 |[.agg [.s .ins c,.i .i64 d,.i .i64 e,.s .slot f,.s .slot g,.i .i64 h,.i .i64 j,.b k,.i .i64 l,.i .i64 m,.i .i64 n,.b o,.i .i64 p,.b q,.s .int r]]=>some (zBO (⟨c,d,e,f,g,⟨h,j,k⟩,l,⟨m,n,o,p⟩,q,r⟩:Guest),[.one<|.i .i64 4])
 |_=>none
def zFx:vO 332 zqS:=by refine⟨zcW.1,λw b g j a h=>?_⟩;unfold zqS at h;split at h;{obtain⟨f,rfl⟩:=ze9 h;obtain⟨d,e⟩:=zoq f;exact zcW.2 w _ g _ a (congr (congrArg (λc v=>some (c,[AV.one<|CV.i .i64 v])) d) (qD e))};{cases h}
def z96:zbf:=[(332,zqS)]++zo0
def z0D:zU z96:=zi zFx zjf
@[simp] abbrev zxn (h:Host)(m g:Int):Bool:=bif zdu h m g then ieq (zL<|gOf h m g) 4 else false
def zFV:Run:=rF3 dH dI dI λb c d=>(zxn b c d,[aH<|zcG b c d,aB<|zcP b c d])
def zwm (N:Nat)(l:Host)(a b:Int):OA:=
 let c:=zk l;let n:=(ix c.Mons a zh).Guests;let g:=ix n b zx;let h:=zia g;let f:=zby h;let m:=zmu c c.Buffer a b f (zdI true) false;let d:=zgP c c.Buffer a b f (zdI true) false;let e:=ix d.Mons a zh;let j:=ix e.Guests b zx;let i:=({g with Prog:=j.Prog,Written:=j.Written,Live:=j.Live,Seen:=j.Seen}:Guest); (oN (zT l)<|oN (zdu c a b)<|cond (nB<|zlk c a b) (some [aH c,aB false])<|oN (inb a<|ln c.Mons)<|oN (inb b<|ln n)<|oN (zBO g)<|oN (zbx g)<|oN (zbP h)<|oN (zlR true)<|oN (zmv c c.Buffer a b f (zdI true) false)<|cond (nB<|zi1 c c.Buffer a b f (zdI true) false) (oN (inb a<|ln d.Mons)<|oN (zbP h)<|oN (zhf f true)<|oN (zcI i<|ze5 f true)<|oN (inb b<|ln e.Guests)<|share (up d.Mons a ({e with Guests:=(up e.Guests b<|zcM i<|ze5 f true)}:Mon)) λk=>some [aH ({d with Mons:=k}:Host),aB true])<|oN (zbP h)<|oN (zei d.Memory m (zc5 h) g.A)<|oN (inb a<|ln d.Mons)<|oN (zO i)<|oN (inb b<|ln e.Guests)<|share (up d.Mons a ({e with Guests:=(up e.Guests b<|zck i)}:Mon)) λk=>some [aH ({d with Memory:=(zeG d.Memory m (zc5 h) g.A),Mons:=k}:Host),aB true])
abbrev zBP (x:Guest):Bool:=bif zbx x then ieq (zL x) 5 else false
def zqT:LW
 |[.agg [.s .ins c,.i .i64 d,.i .i64 e,.s .slot f,.s .slot g,.i .i64 h,.i .i64 j,.b k,.i .i64 l,.i .i64 m,.i .i64 n,.b o,.i .i64 p,.b q,.s .int r]]=>some (zBP (⟨c,d,e,f,g,⟨h,j,k⟩,l,⟨m,n,o,p⟩,q,r⟩:Guest),[.one<|.i .i64 5])
 |_=>none
def zFy:vO 332 zqT:=by refine⟨zcW.1,λw b g j a h=>?_⟩;unfold zqT at h;split at h;{obtain⟨f,rfl⟩:=ze9 h;obtain⟨d,e⟩:=zoq f;exact zcW.2 w _ g _ a (congr (congrArg (λc v=>some (c,[AV.one<|CV.i .i64 v])) d) (qD e))};{cases h}
def z97:zbf:=[(332,zqT)]++zo0
def z0E:zU z97:=zi zFy zjf
@[simp] abbrev zxo (h:Host)(m g:Int):Bool:=bif zdu h m g then ieq (zL<|gOf h m g) 5 else false
def zFW:Run:=rF3 dH dI dI λb c d=>(zxo b c d,[aH<|zcG b c d,aB<|zcP b c d])
def zwn (N:Nat)(x:Host)(a e:Int):OA:=
 let d:=zk x;let f:=inb a<|ln d.Mons;let g:=ix d.Mons a zh;let j:=inb e<|ln g.Guests;let c:=ix g.Guests e zx;let w:=ap g.Outs [(zeb c.Prog c.Pc).X];let s:=up d.Mons a ({g with Outs:=w}:Mon);let h:=c.Ctl.Traps;let v:=up d.Mons a ({g with Guests:=(up g.Guests e<|zcU c h 5)}:Mon); (oN (zT x)<|oN (zdu d a e)<|cond (nB<|zlk d a e) (some [aH d,aB false])<|oN f<|oN j<|oN (zBP c)<|oN f<|oN (zoP g.Traps h 1)<|cond (ieq (zls g.Traps h 1) 2) (oN f<|cond (ilt g.Own 1000000000) (oN f<|oN f<|share (up d.Mons a ({g with Own:=(zQ .i64 g.Own 1)}:Mon)) (λb=>let k:=inb a<|ln b;let l:=ix b a zh;let q:=ix l.Guests e zx;let t:=ap l.Outs [(zeb q.Prog c.Pc).X];let u:=({c with Prog:=q.Prog,Written:=q.Written,Live:=q.Live,Seen:=q.Seen}:Guest);let r:=up b a ({l with Guests:=(up l.Guests e<|zcU u h 5)}:Mon); (oN (ze6 u h 5)<|cond (zet u h 5) (oN k<|cond (ilt (ln l.Outs) 40) (oN k<|oN (zeg q.Prog c.Pc)<|oN (few<|ln t)<|oN k<|oN (cond (ieq a a) true false)<|share (up b a ({l with Outs:=t}:Mon)) (λi=>let m:=ix i a zh; (oN (inb a<|ln i)<|oN (inb e<|ln m.Guests)<|share (up i a ({m with Guests:=(up m.Guests e<|zcU u h 5)}:Mon)) λy=>some [aH ({d with Mons:=y}:Host),aB true])))<|oN k<|oN (inb e<|ln l.Guests)<|share r λi=>some [aH ({d with Mons:=i}:Host),aB true])<|oN k<|oN (inb e<|ln l.Guests)<|share r λi=>some [aH ({d with Mons:=i}:Host),aB true])))<|oN (ze6 c h 5)<|cond (zet c h 5) (oN f<|cond (ilt (ln g.Outs) 40) (oN f<|oN (zeg c.Prog c.Pc)<|oN (few<|ln w)<|oN f<|oN (cond (ieq a a) true false)<|share s (λb=>let n:=ix b a zh; (oN (inb a<|ln b)<|oN (inb e<|ln n.Guests)<|share (up b a ({n with Guests:=(up n.Guests e<|zcU c h 5)}:Mon)) λi=>some [aH ({d with Mons:=i}:Host),aB true])))<|oN f<|oN j<|share v λb=>some [aH ({d with Mons:=b}:Host),aB true])<|oN f<|oN j<|share v λb=>some [aH ({d with Mons:=b}:Host),aB true])<|oN (ze6 c h 5)<|cond (zet c h 5) (oN f<|cond (ilt (ln g.Outs) 40) (oN f<|oN (zeg c.Prog c.Pc)<|oN (few<|ln w)<|oN f<|oN (cond (ieq a a) true false)<|share s (λb=>let p:=ix b a zh; (oN (inb a<|ln b)<|oN (inb e<|ln p.Guests)<|share (up b a ({p with Guests:=(up p.Guests e<|zcU c h 5)}:Mon)) λi=>some [aH ({d with Mons:=i}:Host),aB true])))<|oN f<|oN j<|share v λb=>some [aH ({d with Mons:=b}:Host),aB true])<|oN f<|oN j<|share v λb=>some [aH ({d with Mons:=b}:Host),aB true])
abbrev zBQ (x:Guest):Bool:=bif zbx x then ieq (zL x) 6 else false
def zqU:LW
 |[.agg [.s .ins c,.i .i64 d,.i .i64 e,.s .slot f,.s .slot g,.i .i64 h,.i .i64 j,.b k,.i .i64 l,.i .i64 m,.i .i64 n,.b o,.i .i64 p,.b q,.s .int r]]=>some (zBQ (⟨c,d,e,f,g,⟨h,j,k⟩,l,⟨m,n,o,p⟩,q,r⟩:Guest),[.one<|.i .i64 6])
 |_=>none
def zFz:vO 332 zqU:=by refine⟨zcW.1,λw b g j a h=>?_⟩;unfold zqU at h;split at h;{obtain⟨f,rfl⟩:=ze9 h;obtain⟨d,e⟩:=zoq f;exact zcW.2 w _ g _ a (congr (congrArg (λc v=>some (c,[AV.one<|CV.i .i64 v])) d) (qD e))};{cases h}
def z98:zbf:=[(332,zqU)]++zo0
def z0F:zU z98:=zi zFz zjf
@[simp] abbrev zxp (h:Host)(m g:Int):Bool:=bif zdu h m g then ieq (zL<|gOf h m g) 6 else false
def zFX:Run:=rF3 dH dI dI λb c d=>(zxp b c d,[aH<|zcG b c d,aB<|zcP b c d])
def zwo (N:Nat)(i:Host)(c d:Int):OA:=
 let a:=zk i;let g:=inb c<|ln a.Mons;let e:=ix a.Mons c zh;let h:=inb d<|ln e.Guests;let b:=ix e.Guests d zx;let j:=up a.Mons c ({e with Guests:=(up e.Guests d<|zcU b b.Ctl.Traps 6)}:Mon); (oN (zT i)<|oN (zdu a c d)<|cond (nB<|zlk a c d) (some [aH a,aB false])<|oN g<|oN h<|oN (zBQ b)<|oN (ze6 b b.Ctl.Traps 6)<|cond (zet b b.Ctl.Traps 6) (oN g<|oN h<|share j λf=>some [aH ({a with Mons:=f}:Host),aB true])<|oN g<|oN h<|share j λf=>some [aH ({a with Mons:=f}:Host),aB true])
abbrev zBR (x:Guest):Bool:=bif zbx x then ieq (zL x) 7 else false
def zqV:LW
 |[.agg [.s .ins c,.i .i64 d,.i .i64 e,.s .slot f,.s .slot g,.i .i64 h,.i .i64 j,.b k,.i .i64 l,.i .i64 m,.i .i64 n,.b o,.i .i64 p,.b q,.s .int r]]=>some (zBR (⟨c,d,e,f,g,⟨h,j,k⟩,l,⟨m,n,o,p⟩,q,r⟩:Guest),[.one<|.i .i64 7])
 |_=>none
def zFA:vO 332 zqV:=by refine⟨zcW.1,λw b g j a h=>?_⟩;unfold zqV at h;split at h;{obtain⟨f,rfl⟩:=ze9 h;obtain⟨d,e⟩:=zoq f;exact zcW.2 w _ g _ a (congr (congrArg (λc v=>some (c,[AV.one<|CV.i .i64 v])) d) (qD e))};{cases h}
def z99:zbf:=[(332,zqV)]++zo0
def z0G:zU z99:=zi zFA zjf
@[simp] abbrev zxq (h:Host)(m g:Int):Bool:=bif zdu h m g then ieq (zL<|gOf h m g) 7 else false
def zFY:Run:=rF3 dH dI dI λb c d=>(zxq b c d,[aH<|zcG b c d,aB<|zcP b c d])
def zwp (N:Nat)(q:Host)(c e:Int):OA:=
 let a:=zk q;let g:=inb c<|ln a.Mons;let f:=ix a.Mons c zh;let k:=inb e<|ln f.Guests;let h:=ix f.Guests e zx;let d:=h.Ctl.Traps;let l:=up a.Mons c ({f with Guests:=(up f.Guests e<|zcU h d 7)}:Mon); (oN (zT q)<|oN (zdu a c e)<|cond (nB<|zlk a c e) (some [aH a,aB false])<|oN g<|oN k<|oN (zBR h)<|oN g<|oN (zoP f.Traps d 2)<|cond (ieq (zls f.Traps d 2) 2) (oN g<|cond (ilt f.Own 1000000000) (oN g<|oN g<|share (up a.Mons c ({f with Own:=(zQ .i64 f.Own 1)}:Mon)) (λb=>let j:=ix b c zh;let m:=ix j.Guests e zx;let p:=({h with Prog:=m.Prog,Written:=m.Written,Live:=m.Live,Seen:=m.Seen}:Guest);let i:=up b c ({j with Guests:=(up j.Guests e<|zcU p d 7)}:Mon); (oN (ze6 p d 7)<|cond (zet p d 7) (oN (inb c<|ln b)<|oN (inb e<|ln j.Guests)<|share i λn=>some [aH ({a with Mons:=n}:Host),aB true])<|oN (inb c<|ln b)<|oN (inb e<|ln j.Guests)<|share i λn=>some [aH ({a with Mons:=n}:Host),aB true])))<|oN (ze6 h d 7)<|cond (zet h d 7) (oN g<|oN k<|share l λb=>some [aH ({a with Mons:=b}:Host),aB true])<|oN g<|oN k<|share l λb=>some [aH ({a with Mons:=b}:Host),aB true])<|oN (ze6 h d 7)<|cond (zet h d 7) (oN g<|oN k<|share l λb=>some [aH ({a with Mons:=b}:Host),aB true])<|oN g<|oN k<|share l λb=>some [aH ({a with Mons:=b}:Host),aB true])
def zFH (a:Host)(b c:Int)(e:zxj a b c=true):∃N,zwi N a b c=some [aH<|zcG a b c,aB<|zcP a b c]:=by
 obtain⟨e,i⟩:=zoq e;have f:=(zS a).1 (zM.1 e);refine⟨0,?_⟩;show _=some (zfb<|zcz a b c);unfold zwi oN nB;conv=>zeta
 refine must (zbs<|(zS _).2 f) (must (zbs<|(zS _).2 f)<|brN (λd=>?_) λd=>?_);{rw [zjU d];rfl};obtain⟨k,g,h⟩:=zdK d;have l:=zml f g h;have j:zL (gOf a b c)=0:=qD i;rw[zkC d,j];refine must (zB g) (must (zB h)<|must (zkI rfl i) ?_);rfl
def zry:vO 286 zFR:=kF3 z0z zn zbE zis (zo []) zFH
def zFI (a:Host)(b c:Int)(g:zxk a b c=true):∃N,zwj N a b c=some [aH<|zcG a b c,aB<|zcP a b c]:=by
 obtain⟨g,i⟩:=zoq g;have h:=(zS a).1 (zM.1 g);refine⟨0,?_⟩;show _=some (zfb<|zcz a b c);unfold zwj oN nB;conv=>zeta
 refine must (zbs<|(zS _).2 h) (must (zbs<|(zS _).2 h)<|brN (λd=>?_) λd=>?_);{rw [zjU d];rfl};obtain⟨l,e,f⟩:=zdK d;have k:=zml h e f;have j:zL (gOf a b c)=1:=qD i;rw[zkC d,j];refine must (zB e) (must (zB f)<|must (zkI rfl i) ?_);show _=some (zfb (zg0 a b c<|interrupted<|gOf a b c,true));exact must (zB e) (must (zbs k) (must (zB f) rfl))
def zB0:vO 286 zFS:=kF3 z0A zn zbE zis (zo []) zFI
def zFJ (a:Host)(b c:Int)(g:zxl a b c=true):∃N,zwk N a b c=some [aH<|zcG a b c,aB<|zcP a b c]:=by
 obtain⟨g,i⟩:=zoq g;have h:=(zS a).1 (zM.1 g);refine⟨0,?_⟩;show _=some (zfb<|zcz a b c);unfold zwk oN nB;conv=>zeta
 refine must (zbs<|(zS _).2 h) (must (zbs<|(zS _).2 h)<|brN (λd=>?_) λd=>?_);{rw [zjU d];rfl};obtain⟨l,e,f⟩:=zdK d;have k:=zml h e f;have j:zL (gOf a b c)=2:=qD i;rw[zkC d,j];refine must (zB e) (must (zB f)<|must (zkI rfl i) ?_);show _=some (zfb (zg0 a b c<|plainly<|gOf a b c,true));exact must (zB e) (must (zbs k) (must (zB f) rfl))
def zB1:vO 286 zFT:=kF3 z0B zn zbE zis (zo []) zFJ
def zFK (a:Host)(c d:Int)(j:zxm a c d=true):∃N,zwl N a c d=some [aH<|zcG a c d,aB<|zcP a c d]:=by
 obtain⟨j,m⟩:=zoq j;have f:=(zS a).1 (zM.1 j);refine⟨0,?_⟩;show _=some (zfb<|zcz a c d);unfold zwl oN nB;conv=>zeta
 refine must (zbs<|(zS _).2 f) (must (zbs<|(zS _).2 f)<|brN (λe=>?_) λe=>?_);{rw [zjU e];rfl};obtain⟨r,g,i⟩:=zdK e;have n:=zml f g i;have q:zL (gOf a c d)=3:=qD m;rw[zkC e,q];refine must (zB g) (must (zB i)<|must (zkI rfl m) ?_);show _=some (zfb (zg7 (zim a c d (gOf a c d) false) c d (gOf a c d) false,true));have k:=zuW (b:=a.Buffer) (page:=zbj (address<|gOf a c d)) (need:=zcq false) (io:=false) f e;have F:=znQ k g i;have p:(ix (ix (zgP (zk a) (zk a).Buffer c d (zby<|zia<|ix (ix (zk a).Mons c zh).Guests d zx) (zdI false) false).Mons c zh).Guests d zx)=(ix (ix (zk a).Mons c zh).Guests d zx):=congrArg (λl=>ix l d gZ) (zLg k.gs c);rw[p];unfold zg7;refine must rfl (must rfl (must rfl (must (zbs<|(zS _).2 f)<|brN (λh=>?_) λh=>?_)));{rw [show (zim a c d (gOf a c d) false).2.2=false from h];exact must (zB F.hm) (must rfl (must rfl (must (zbs n) (must (zB F.hg) rfl))))};{rw [show (zim a c d (gOf a c d) false).2.2=true from h];exact must (zB F.hm) (must rfl (must rfl (must (zbs n) (must (zB F.hg) rfl))))}
def zB2:vO 286 zFU:=kF3 z0C zn zbE zis (zo []) zFK
def zFL (a:Host)(c d:Int)(j:zxn a c d=true):∃N,zwm N a c d=some [aH<|zcG a c d,aB<|zcP a c d]:=by
 obtain⟨j,m⟩:=zoq j;have f:=(zS a).1 (zM.1 j);refine⟨0,?_⟩;show _=some (zfb<|zcz a c d);unfold zwm oN nB;conv=>zeta
 refine must (zbs<|(zS _).2 f) (must (zbs<|(zS _).2 f)<|brN (λe=>?_) λe=>?_);{rw [zjU e];rfl};obtain⟨r,g,i⟩:=zdK e;have n:=zml f g i;have q:zL (gOf a c d)=4:=qD m;rw[zkC e,q];refine must (zB g) (must (zB i)<|must (zkI rfl m) ?_);show _=some (zfb (zg7 (zim a c d (gOf a c d) true) c d (gOf a c d) true,true));have k:=zuW (b:=a.Buffer) (page:=zbj (address<|gOf a c d)) (need:=zcq true) (io:=false) f e;have F:=znQ k g i;have p:(ix (ix (zgP (zk a) (zk a).Buffer c d (zby<|zia<|ix (ix (zk a).Mons c zh).Guests d zx) (zdI true) false).Mons c zh).Guests d zx)=(ix (ix (zk a).Mons c zh).Guests d zx):=congrArg (λl=>ix l d gZ) (zLg k.gs c);rw[p];unfold zg7;refine must rfl (must rfl (must rfl (must (zbs<|(zS _).2 f)<|brN (λh=>?_) λh=>?_)));{rw [show (zim a c d (gOf a c d) true).2.2=false from h];exact must (zB F.hm) (must rfl (must rfl (must (zbs n) (must (zB F.hg) rfl))))};{rw [show (zim a c d (gOf a c d) true).2.2=true from h];exact must rfl (must (zbs k.shape.1.1)<|must (zB F.hm)<|must (zbs n) (must (zB F.hg) rfl))}
def zB3:vO 286 zFV:=kF3 z0D zn zbE zis (zo []) zFL
def z8Q {c:Host}{a d:Int}(k:SmG (gOf c a d))(f:hasB a (ln c.Mons)=true)(i:hasB d (ln (ix c.Mons a mZ).Guests)=true) :
 (cond (ze6 (ix (ix (zk c).Mons a zh).Guests d zx) (ix (ix (zk c).Mons a zh).Guests d zx).Ctl.Traps 5) (cond (zet (ix (ix (zk c).Mons a zh).Guests d zx) (ix (ix (zk c).Mons a zh).Guests d zx).Ctl.Traps 5) (cond (inb a<|ln (zk c).Mons) (cond (ilt (ln (ix (zk c).Mons a zh).Outs) 40) (cond (inb a<|ln (zk c).Mons) (cond (zeg (ix (ix (zk c).Mons a zh).Guests d zx).Prog (ix (ix (zk c).Mons a zh).Guests d zx).Pc) (cond (few<|ln<|ap (ix (zk c).Mons a zh).Outs [(zeb (ix (ix (zk c).Mons a zh).Guests d zx).Prog (ix (ix (zk c).Mons a zh).Guests d zx).Pc).X]) (cond (inb a<|ln (zk c).Mons) (cond (cond (ieq a a) true false) (share (up (zk c).Mons a ({ (ix (zk c).Mons a zh) with Outs:=(ap (ix (zk c).Mons a zh).Outs [(zeb (ix (ix (zk c).Mons a zh).Guests d zx).Prog (ix (ix (zk c).Mons a zh).Guests d zx).Pc).X])}:Mon)) λe=>cond (inb a<|ln e) (cond (inb d<|ln (ix e a zh).Guests) (share (up e a ({ (ix e a zh) with Guests:=(up (ix e a zh).Guests d<|zcU (ix (ix (zk c).Mons a zh).Guests d zx) (ix (ix (zk c).Mons a zh).Guests d zx).Ctl.Traps 5)}:Mon)) λl=>some [.agg<|zbd ({ (zk c) with Mons:=l}:Host),.one<|.b true]) none) none) none) none) none) none) none)<|cond (inb a<|ln (zk c).Mons) (cond (inb d<|ln (ix (zk c).Mons a zh).Guests) (share (up (zk c).Mons a ({ (ix (zk c).Mons a zh) with Guests:=(up (ix (zk c).Mons a zh).Guests d<|zcU (ix (ix (zk c).Mons a zh).Guests d zx) (ix (ix (zk c).Mons a zh).Guests d zx).Ctl.Traps 5)}:Mon)) λe=>some [.agg<|zbd ({ (zk c) with Mons:=e}:Host),.one<|.b true]) none) none) none)<|cond (inb a<|ln (zk c).Mons) (cond (inb d<|ln (ix (zk c).Mons a zh).Guests) (share (up (zk c).Mons a ({ (ix (zk c).Mons a zh) with Guests:=(up (ix (zk c).Mons a zh).Guests d<|zcU (ix (ix (zk c).Mons a zh).Guests d zx) (ix (ix (zk c).Mons a zh).Guests d zx).Ctl.Traps 5)}:Mon)) λe=>some [.agg<|zbd ({ (zk c) with Mons:=e}:Host),.one<|.b true]) none) none) none)=some (zfb (zg0 (zgC c a (gOf c a d) 5) a d<|zgD (gOf c a d) (gOf c a d).Ctl.Traps 5,true)):=by
 refine must (zbs k) (br (λj=>must (zB f) (br (λg=>?_) λg=>?_)) λj=>?_)
 .rw [zW8 (h:=c) (m:=a) (x:=gOf c a d) (w:=5) j rfl g];refine must (zB f) (must rfl (must (zTM g)<|must (zB f)<|must (zMg _)<|shr<|must (zB<|zfP f) (must ?_ rfl)));rw[zqm f];exact zB i
 .rw [zRQ (h:=c) (m:=a) (x:=gOf c a d) (w:=5) g];exact must (zB f) (must (zB i) rfl)
 .rw [zNs (h:=c) (m:=a) (x:=gOf c a d) (w:=5) j];exact must (zB f) (must (zB i) rfl)
def zbcx {f:Host}{d:List Mon}{a c:Int}(n:SmG (gOf f a c))(i:hasB a (ln d)=true)(k:hasB c (ln (ix d a mZ).Guests)=true)(e:(ix (ix d a zh).Guests c zx)=gOf f a c) :
 (cond (ze6 ({ (ix (ix (zk f).Mons a zh).Guests c zx) with Prog:=(ix (ix d a zh).Guests c zx).Prog,Written:=(ix (ix d a zh).Guests c zx).Written,Live:=(ix (ix d a zh).Guests c zx).Live,Seen:=(ix (ix d a zh).Guests c zx).Seen}:Guest) (ix (ix (zk f).Mons a zh).Guests c zx).Ctl.Traps 5) (cond (zet ({ (ix (ix (zk f).Mons a zh).Guests c zx) with Prog:=(ix (ix d a zh).Guests c zx).Prog,Written:=(ix (ix d a zh).Guests c zx).Written,Live:=(ix (ix d a zh).Guests c zx).Live,Seen:=(ix (ix d a zh).Guests c zx).Seen}:Guest) (ix (ix (zk f).Mons a zh).Guests c zx).Ctl.Traps 5) (cond (inb a<|ln d) (cond (ilt (ln (ix d a zh).Outs) 40) (cond (inb a<|ln d) (cond (zeg (ix (ix d a zh).Guests c zx).Prog (ix (ix (zk f).Mons a zh).Guests c zx).Pc) (cond (few<|ln<|ap (ix d a zh).Outs [(zeb (ix (ix d a zh).Guests c zx).Prog (ix (ix (zk f).Mons a zh).Guests c zx).Pc).X]) (cond (inb a<|ln d) (cond (cond (ieq a a) true false) (share (up d a ({ (ix d a zh) with Outs:=(ap (ix d a zh).Outs [(zeb (ix (ix d a zh).Guests c zx).Prog (ix (ix (zk f).Mons a zh).Guests c zx).Pc).X])}:Mon)) λg=>cond (inb a<|ln g) (cond (inb c<|ln (ix g a zh).Guests) (share (up g a ({ (ix g a zh) with Guests:=(up (ix g a zh).Guests c<|zcU ({ (ix (ix (zk f).Mons a zh).Guests c zx) with Prog:=(ix (ix d a zh).Guests c zx).Prog,Written:=(ix (ix d a zh).Guests c zx).Written,Live:=(ix (ix d a zh).Guests c zx).Live,Seen:=(ix (ix d a zh).Guests c zx).Seen}:Guest) (ix (ix (zk f).Mons a zh).Guests c zx).Ctl.Traps 5)}:Mon)) λp=>some [.agg<|zbd ({ (zk f) with Mons:=p}:Host),.one<|.b true]) none) none) none) none) none) none) none)<|cond (inb a<|ln d) (cond (inb c<|ln (ix d a zh).Guests) (share (up d a ({ (ix d a zh) with Guests:=(up (ix d a zh).Guests c<|zcU ({ (ix (ix (zk f).Mons a zh).Guests c zx) with Prog:=(ix (ix d a zh).Guests c zx).Prog,Written:=(ix (ix d a zh).Guests c zx).Written,Live:=(ix (ix d a zh).Guests c zx).Live,Seen:=(ix (ix d a zh).Guests c zx).Seen}:Guest) (ix (ix (zk f).Mons a zh).Guests c zx).Ctl.Traps 5)}:Mon)) λg=>some [.agg<|zbd ({ (zk f) with Mons:=g}:Host),.one<|.b true]) none) none) none)<|cond (inb a<|ln d) (cond (inb c<|ln (ix d a zh).Guests) (share (up d a ({ (ix d a zh) with Guests:=(up (ix d a zh).Guests c<|zcU ({ (ix (ix (zk f).Mons a zh).Guests c zx) with Prog:=(ix (ix d a zh).Guests c zx).Prog,Written:=(ix (ix d a zh).Guests c zx).Written,Live:=(ix (ix d a zh).Guests c zx).Live,Seen:=(ix (ix d a zh).Guests c zx).Seen}:Guest) (ix (ix (zk f).Mons a zh).Guests c zx).Ctl.Traps 5)}:Mon)) λg=>some [.agg<|zbd ({ (zk f) with Mons:=g}:Host),.one<|.b true]) none) none) none)=some (zfb (zg0 (zgC {f with Mons:=d} a (gOf f a c) 5) a c<|zgD (gOf f a c) (gOf f a c).Ctl.Traps 5,true)):=by
 rw[e];refine must (zbs n) (br (λl=>must (zB i) (br (λj=>?_) λj=>?_)) λl=>?_)
 .rw [zW8 (h:={f with Mons:=d}) (m:=a) (x:=gOf f a c) (w:=5) l rfl j];refine must (zB i) (must rfl (must (zTM j)<|must (zB i)<|must (zMg _)<|shr<|must (zB<|zfP (h:={f with Mons:=d}) i) (must ?_ rfl)));rw[zqm (h:={f with Mons:=d}) i];exact zB k
 .rw [zRQ (h:={f with Mons:=d}) (m:=a) (x:=gOf f a c) (w:=5) j];exact must (zB i) (must (zB k) rfl)
 .rw [zNs (h:={f with Mons:=d}) (m:=a) (x:=gOf f a c) (w:=5) l];exact must (zB i) (must (zB k) rfl)
def zFM (b:Host)(a c:Int)(j:zxo b a c=true):∃N,zwn N b a c=some [aH<|zcG b a c,aB<|zcP b a c]:=by
 obtain⟨j,p⟩:=zoq j;have k:=(zS b).1 (zM.1 j);refine⟨0,?_⟩;show _=some (zfb<|zcz b a c);unfold zwn oN nB;conv=>zeta
 refine must (zbs<|(zS _).2 k) (must (zbs<|(zS _).2 k)<|brN (λf=>?_) λf=>?_);{rw [zjU f];rfl};obtain⟨r,d,e⟩:=zdK f;have l:=zml k d e;have q:zL (gOf b a c)=5:=qD p;rw[zkC f,q];refine must (zB d) (must (zB e)<|must (zkI rfl p) ?_);show _=some (zfb (zkN b a c (gOf b a c) 5,true));refine must (zB d) (must rfl (br (λg=>must (zB d) (br (λi=>must (zB d) (must (zB d)<|shr ?_)) λi=>?_)) λg=>?_));{rw [zpG (zZ7 (h:=b) (m:=a) (x:=gOf b a c) (w:=5) rfl g i)];have n:=zqm d {ix b.Mons a mZ with Own:=zQ .i64 (ix b.Mons a mZ).Own 1};refine zbcx l (zfP d) ?_ ?_;{show hasB c (ln (ix (up b.Mons a _) a mZ).Guests)=true;rw[n];exact e};{show ix (ix (up b.Mons a _) a mZ).Guests c gZ=_;rw[n];rfl}};{rw [zpG<|zZ6 (h:=b) (m:=a) (x:=gOf b a c) (w:=5) i];exact z8Q l d e};{rw [zpG<|zZ5 (h:=b) (m:=a) (x:=gOf b a c) (w:=5) g];exact z8Q l d e}
def zB4:vO 286 zFW:=kF3 z0E zn zbE zis (zo []) zFM
def zFN (a:Host)(b c:Int)(g:zxp a b c=true):∃N,zwo N a b c=some [aH<|zcG a b c,aB<|zcP a b c]:=by
 obtain⟨g,j⟩:=zoq g;have i:=(zS a).1 (zM.1 g);refine⟨0,?_⟩;show _=some (zfb<|zcz a b c);unfold zwo oN nB;conv=>zeta
 refine must (zbs<|(zS _).2 i) (must (zbs<|(zS _).2 i)<|brN (λf=>?_) λf=>?_);{rw [zjU f];rfl};obtain⟨p,d,e⟩:=zdK f;have n:=zml i d e;have l:zL (gOf a b c)=6:=qD j;rw[zkC f,l];refine must (zB d) (must (zB e)<|must (zkI rfl j) ?_);show _=some (zfb (zkN a b c (gOf a b c) 6,true));rw[zpG<|zba4 (h:=a) (m:=b) (x:=gOf a b c),zEt (w:=6) rfl];exact must (zbs n) (br (λk=>must (zB d) (must (zB e) rfl)) λk=>must (zB d) (must (zB e) rfl))
def zB5:vO 286 zFX:=kF3 z0F zn zbE zis (zo []) zFN
def z8R {a:Host}{c d:Int}(i:SmG (gOf a c d))(f:hasB c (ln a.Mons)=true)(g:hasB d (ln (ix a.Mons c mZ).Guests)=true) :
 (cond (ze6 (ix (ix (zk a).Mons c zh).Guests d zx) (ix (ix (zk a).Mons c zh).Guests d zx).Ctl.Traps 7) (cond (zet (ix (ix (zk a).Mons c zh).Guests d zx) (ix (ix (zk a).Mons c zh).Guests d zx).Ctl.Traps 7) (cond (inb c<|ln (zk a).Mons) (cond (inb d<|ln (ix (zk a).Mons c zh).Guests) (share (up (zk a).Mons c ({ (ix (zk a).Mons c zh) with Guests:=(up (ix (zk a).Mons c zh).Guests d<|zcU (ix (ix (zk a).Mons c zh).Guests d zx) (ix (ix (zk a).Mons c zh).Guests d zx).Ctl.Traps 7)}:Mon)) λe=>some [.agg<|zbd ({ (zk a) with Mons:=e}:Host),.one<|.b true]) none) none)<|cond (inb c<|ln (zk a).Mons) (cond (inb d<|ln (ix (zk a).Mons c zh).Guests) (share (up (zk a).Mons c ({ (ix (zk a).Mons c zh) with Guests:=(up (ix (zk a).Mons c zh).Guests d<|zcU (ix (ix (zk a).Mons c zh).Guests d zx) (ix (ix (zk a).Mons c zh).Guests d zx).Ctl.Traps 7)}:Mon)) λe=>some [.agg<|zbd ({ (zk a) with Mons:=e}:Host),.one<|.b true]) none) none) none)=some (zfb (zg0 a c d<|zgD (gOf a c d) (gOf a c d).Ctl.Traps 7,true)):=
 must (zbs i) (br (λh=>must (zB f) (must (zB g) rfl)) λh=>must (zB f) (must (zB g) rfl))
def zbcy {f:Host}{d:List Mon}{a c:Int}(k:SmG (gOf f a c))(h:hasB a (ln d)=true)(i:hasB c (ln (ix d a mZ).Guests)=true)(e:(ix (ix d a zh).Guests c zx)=gOf f a c) :
 (cond (ze6 ({ (ix (ix (zk f).Mons a zh).Guests c zx) with Prog:=(ix (ix d a zh).Guests c zx).Prog,Written:=(ix (ix d a zh).Guests c zx).Written,Live:=(ix (ix d a zh).Guests c zx).Live,Seen:=(ix (ix d a zh).Guests c zx).Seen}:Guest) (ix (ix (zk f).Mons a zh).Guests c zx).Ctl.Traps 7) (cond (zet ({ (ix (ix (zk f).Mons a zh).Guests c zx) with Prog:=(ix (ix d a zh).Guests c zx).Prog,Written:=(ix (ix d a zh).Guests c zx).Written,Live:=(ix (ix d a zh).Guests c zx).Live,Seen:=(ix (ix d a zh).Guests c zx).Seen}:Guest) (ix (ix (zk f).Mons a zh).Guests c zx).Ctl.Traps 7) (cond (inb a<|ln d) (cond (inb c<|ln (ix d a zh).Guests) (share (up d a ({ (ix d a zh) with Guests:=(up (ix d a zh).Guests c<|zcU ({ (ix (ix (zk f).Mons a zh).Guests c zx) with Prog:=(ix (ix d a zh).Guests c zx).Prog,Written:=(ix (ix d a zh).Guests c zx).Written,Live:=(ix (ix d a zh).Guests c zx).Live,Seen:=(ix (ix d a zh).Guests c zx).Seen}:Guest) (ix (ix (zk f).Mons a zh).Guests c zx).Ctl.Traps 7)}:Mon)) λg=>some [.agg<|zbd ({ (zk f) with Mons:=g}:Host),.one<|.b true]) none) none)<|cond (inb a<|ln d) (cond (inb c<|ln (ix d a zh).Guests) (share (up d a ({ (ix d a zh) with Guests:=(up (ix d a zh).Guests c<|zcU ({ (ix (ix (zk f).Mons a zh).Guests c zx) with Prog:=(ix (ix d a zh).Guests c zx).Prog,Written:=(ix (ix d a zh).Guests c zx).Written,Live:=(ix (ix d a zh).Guests c zx).Live,Seen:=(ix (ix d a zh).Guests c zx).Seen}:Guest) (ix (ix (zk f).Mons a zh).Guests c zx).Ctl.Traps 7)}:Mon)) λg=>some [.agg<|zbd ({ (zk f) with Mons:=g}:Host),.one<|.b true]) none) none) none)=some (zfb (zg0 {f with Mons:=d} a c<|zgD (gOf f a c) (gOf f a c).Ctl.Traps 7,true)):=by
 rw[e];exact must (zbs k) (br (λj=>must (zB h) (must (zB i) rfl)) λj=>must (zB h) (must (zB i) rfl))
def zFO (b:Host)(a c:Int)(j:zxq b a c=true):∃N,zwp N b a c=some [aH<|zcG b a c,aB<|zcP b a c]:=by
 obtain⟨j,p⟩:=zoq j;have k:=(zS b).1 (zM.1 j);refine⟨0,?_⟩;show _=some (zfb<|zcz b a c);unfold zwp oN nB;conv=>zeta
 refine must (zbs<|(zS _).2 k) (must (zbs<|(zS _).2 k)<|brN (λf=>?_) λf=>?_);{rw [zjU f];rfl};obtain⟨r,d,e⟩:=zdK f;have l:=zml k d e;have q:zL (gOf b a c)=7:=qD p;rw[zkC f,q];refine must (zB d) (must (zB e)<|must (zkI rfl p) ?_);show _=some (zfb (zkN b a c (gOf b a c) 7,true));refine must (zB d) (must rfl (br (λg=>must (zB d) (br (λi=>must (zB d) (must (zB d)<|shr ?_)) λi=>?_)) λg=>?_));{rw [zpG (zZ7 (h:=b) (m:=a) (x:=gOf b a c) (w:=7) rfl g i),zEt (w:=7) rfl];have n:=zqm d {ix b.Mons a mZ with Own:=zQ .i64 (ix b.Mons a mZ).Own 1};refine zbcy l (zfP d) ?_ ?_;{show hasB c (ln (ix (up b.Mons a _) a mZ).Guests)=true;rw[n];exact e};{show ix (ix (up b.Mons a _) a mZ).Guests c gZ=_;rw[n];rfl}};{rw [zpG<|zZ6 (h:=b) (m:=a) (x:=gOf b a c) (w:=7) i,zEt (w:=7) rfl];exact z8R l d e};{rw [zpG<|zZ5 (h:=b) (m:=a) (x:=gOf b a c) (w:=7) g,zEt (w:=7) rfl];exact z8R l d e}
def zB6:vO 286 zFY:=kF3 z0G zn zbE zis (zo []) zFO
def zr2:LW
 |[.agg [.s (.sl .int) b,.s .mon c,.s .entry d,.s .entry e],.one<|.i .i64 f,.one<|.i .i64 g]=>some (zdu (⟨b,c,d,e⟩:Host) f g,[aH<|zcG (⟨b,c,d,e⟩:Host) f g,aB<|zcP (⟨b,c,d,e⟩:Host) f g])
 |_=>none
def zIK:vO 286 zr2:=by refine⟨zry.1,λw m l n g h=>?_⟩;unfold zr2 at h;split at h;{rename_i a b d f i j;obtain⟨k,rfl⟩:=ze9 h;rcases z7x (gOf (⟨a,b,d,f⟩:Host) i j) with e|e|e|e|e|e|e|e;{exact zry.2 w _ l _ g (congrArg (λc=>some (c,zfb<|zcz (⟨a,b,d,f⟩:Host) i j))<|zkI k e)};{exact zB0.2 w _ l _ g (congrArg (λc=>some (c,zfb<|zcz (⟨a,b,d,f⟩:Host) i j))<|zkI k e)};{exact zB1.2 w _ l _ g (congrArg (λc=>some (c,zfb<|zcz (⟨a,b,d,f⟩:Host) i j))<|zkI k e)};{exact zB2.2 w _ l _ g (congrArg (λc=>some (c,zfb<|zcz (⟨a,b,d,f⟩:Host) i j))<|zkI k e)};{exact zB3.2 w _ l _ g (congrArg (λc=>some (c,zfb<|zcz (⟨a,b,d,f⟩:Host) i j))<|zkI k e)};{exact zB4.2 w _ l _ g (congrArg (λc=>some (c,zfb<|zcz (⟨a,b,d,f⟩:Host) i j))<|zkI k e)};{exact zB5.2 w _ l _ g (congrArg (λc=>some (c,zfb<|zcz (⟨a,b,d,f⟩:Host) i j))<|zkI k e)};{exact zB6.2 w _ l _ g (congrArg (λc=>some (c,zfb<|zcz (⟨a,b,d,f⟩:Host) i j))<|zkI k e)}};{cases h}
@[simp] abbrev zus (h:Host)(m g b a:Int)(c:Bool):Bool:=pc (zc8 h)
@[simp] abbrev zup (h:Host)(m g b a:Int)(c:Bool):Host:=(lookOf h (zul h c) m g b a c).1
@[simp] abbrev zuq (h:Host)(m g b a:Int)(c:Bool):Int:=(lookOf h (zul h c) m g b a c).2.1
@[simp] abbrev zur (h:Host)(m g b a:Int)(c:Bool):Bool:=(lookOf h (zul h c) m g b a c).2.2
def zD6:Run:=rF6 dH dI dI dI dI dB λb c d e f g=>(zus b c d e f g,[aH<|zup b c d e f g,aI<|zuq b c d e f g,aB<|zur b c d e f g])
abbrev zTY (b:lM)(c:lN)(d:lE)(e:lE)(a:Int)(g:Int)(f:Int):Mon :=
 (ix (zgw (⟨b,c,d,e⟩:Host) a g f).Mons a zh)
def zty (N:Nat)(d:Int)(e:Int)(b:Int)(f:Int)(g:lM)(h:lN)(c:lE)(a:lE):OA:=
 let i:=(⟨e,d,b,f⟩:Entry); (oN (zid a i)<|some [aH (⟨g,h,c,zhO a i⟩:Host),aI b,aB true])
def zu6 (N:Nat)(d:lM)(e:lN)(f:lE)(g:lE)(b:Int)(i:Int)(h:Int)(a:Int)(c:Int)(s:(Int×Int×Int×Int×lM×lN×lE×lE×lM×lN×lE×lE×Unit)->OA)(k:Int)(l:lM)(m:lN)(n:lE)(p:lE):OA:=
 let x:=(⟨d,e,f,g⟩:Host);let r:=zgw x b i h;let j:=zTY d e f g b i h;let w:=ix j.Tables a zeL;let u:=(ix j.Guests a zx).Live; (oN (zgN x b i h)<|oN (inb b<|ln r.Mons)<|oN (inb a<|ln j.Tables)<|oN (inb a<|ln j.Guests)<|oN (zv0 w u j.Outer c)<|oN (inb a<|ln j.Tables)<|share (up r.Mons b ({j with Tables:=(up j.Tables a<|zvZ w u j.Outer c)}:Mon)) (λq=>let v:=(ix q b zh).Tables;let t:=ix v a zeL; (oN (inb a<|ln v)<|oN (zyO t c)<|s (c,k,(zjT t c).Page,(zjT t c).Rights,l,m,n,p,r.Memory,q,r.Buffer,r.IoBuffer,()))))
def zp2 (N:Nat)(a:lN)(g:Int)(h:Int)(b:Int)(c:lM)(d:lE)(e:lE)(p:Int)(f:Int)(n:(Int×Int×Int×Int×lM×lN×lE×lE×lM×lN×lE×lE×Unit)->OA)(i:Int)(j:lM)(k:lN)(l:lE)(m:lE):OA:=
 let r:=zu6 N c a d e g p f h b n i j k l m;let s:=ix (ix a g zh).Tables h zeL;let q:=zjT s b; (cond (nB<|zpT s b) r<|cond (ieq q.Page<|-1) r<|oN (zbg q.Rights f)<|cond (nB<|zdr q.Rights f) r<|n (b,i,q.Page,q.Rights,j,k,l,m,c,a,d,e,()))
def ztz (N:Nat)(c:Int)(d:Int)(e:Int)(i:Int)(j:Int)(k:Int)(l:lM)(m:lN)(n:lE)(p:lE)(f:lM)(b:lN)(g:lE)(h:lE):OA:=
 let r:=(ix b c zh).Tables; (oN (inb c<|ln b)<|oN (inb d<|ln r)<|oN (zyO (ix r d zeL) e)<|share (λ(a:(Int×Int×Int×Int×lM×lN×lE×lE×lM×lN×lE×lE×Unit))=>zty N a.1 a.2.1 a.2.2.1 a.2.2.2.1 a.2.2.2.2.2.2.2.2.1 a.2.2.2.2.2.2.2.2.2.1 a.2.2.2.2.2.2.2.2.2.2.1 a.2.2.2.2.2.2.2.2.2.2.2.1) λq=>zp2 N b c d e f g h j i q k l m n p)
def ztA (N:Nat)(d:Int)(e:Int)(b:Int)(f:Int)(g:lM)(h:lN)(a:lE)(c:lE):OA:=
 let i:=(⟨e,d,b,f⟩:Entry); (oN (zid a i)<|some [aH (⟨g,h,zhO a i,c⟩:Host),aI b,aB true])
def ztB (N:Nat)(c:Int)(d:Int)(e:Int)(i:Int)(j:Int)(k:Int)(l:lM)(m:lN)(n:lE)(p:lE)(f:lM)(b:lN)(g:lE)(h:lE):OA:=
 let r:=(ix b c zh).Tables; (oN (inb c<|ln b)<|oN (inb d<|ln r)<|oN (zyO (ix r d zeL) e)<|share (λ(a:(Int×Int×Int×Int×lM×lN×lE×lE×lM×lN×lE×lE×Unit))=>ztA N a.1 a.2.1 a.2.2.1 a.2.2.2.1 a.2.2.2.2.2.2.2.2.1 a.2.2.2.2.2.2.2.2.2.1 a.2.2.2.2.2.2.2.2.2.2.1 a.2.2.2.2.2.2.2.2.2.2.2.1) λq=>zp2 N b c d e f g h j i q k l m n p)
def ztC (N:Nat)(f:Int)(g:Int)(c:Int)(e:Int)(r:Bool)(j:Int)(k:lM)(l:lN)(m:lE)(n:lE)(h:lM)(i:lN)(a:lE)(b:lE):OA:=
 let u:=aH (⟨h,i,a,b⟩:Host);let p:=zle f g;let t:=zhg a p c;let s:=zhg b p c; (cond r (oN (zif f g)<|share (λ(d:(Int×Int×Int×Int×Int×Int×lM×lN×lE×lE×lM×lN×lE×lE×Unit))=>ztz N d.1 d.2.1 d.2.2.1 d.2.2.2.1 d.2.2.2.2.1 d.2.2.2.2.2.1 d.2.2.2.2.2.2.1 d.2.2.2.2.2.2.2.1 d.2.2.2.2.2.2.2.2.1 d.2.2.2.2.2.2.2.2.2.1 d.2.2.2.2.2.2.2.2.2.2.1 d.2.2.2.2.2.2.2.2.2.2.2.1 d.2.2.2.2.2.2.2.2.2.2.2.2.1 d.2.2.2.2.2.2.2.2.2.2.2.2.2.1) λq=>oN (zix b p c)<|cond (zgg b p c) (oN (zbg s.Rights e)<|cond (zdr s.Rights e) (some [u,aI s.Host,aB true])<|q (f,g,c,e,j,p,k,l,m,n,h,i,a,b,()))<|q (f,g,c,e,j,p,k,l,m,n,h,i,a,b,()))<|oN (zif f g)<|share (λ(d:(Int×Int×Int×Int×Int×Int×lM×lN×lE×lE×lM×lN×lE×lE×Unit))=>ztB N d.1 d.2.1 d.2.2.1 d.2.2.2.1 d.2.2.2.2.1 d.2.2.2.2.2.1 d.2.2.2.2.2.2.1 d.2.2.2.2.2.2.2.1 d.2.2.2.2.2.2.2.2.1 d.2.2.2.2.2.2.2.2.2.1 d.2.2.2.2.2.2.2.2.2.2.1 d.2.2.2.2.2.2.2.2.2.2.2.1 d.2.2.2.2.2.2.2.2.2.2.2.2.1 d.2.2.2.2.2.2.2.2.2.2.2.2.2.1) λq=>oN (zix a p c)<|cond (zgg a p c) (oN (zbg t.Rights e)<|cond (zdr t.Rights e) (some [u,aI t.Host,aB true])<|q (f,g,c,e,j,p,k,l,m,n,h,i,a,b,()))<|q (f,g,c,e,j,p,k,l,m,n,h,i,a,b,()))
def ztD (N:Nat)(c:Int)(i:Int)(d:Int)(b:Int)(m:Bool)(n:lM)(p:lN)(j:lE)(k:lE)(e:lM)(a:lN)(f:lE)(g:lE)(l:lG):OA:=
 let s:=ix a c zh;let r:=(ix l i zx).Live;let q:=zft r d b; (oN (inb i<|ln l)<|oN (ziu r d b)<|cond (nB<|zeX r d b) (some [aH (⟨e,a,f,g⟩:Host),aI<|-1,aB false])<|share (λ(h:(Int×Int×Int×Int×Bool×Int×lM×lN×lE×lE×lM×lN×lE×lE×Unit))=>ztC N h.1 h.2.1 h.2.2.1 h.2.2.2.1 h.2.2.2.2.1 h.2.2.2.2.2.1 h.2.2.2.2.2.2.1 h.2.2.2.2.2.2.2.1 h.2.2.2.2.2.2.2.2.1 h.2.2.2.2.2.2.2.2.2.1 h.2.2.2.2.2.2.2.2.2.2.1 h.2.2.2.2.2.2.2.2.2.2.2.1 h.2.2.2.2.2.2.2.2.2.2.2.2.1 h.2.2.2.2.2.2.2.2.2.2.2.2.2.1) λt=>cond (ieq b 2) (oN (inb c<|ln a)<|oN (inb q<|ln s.Dirty)<|share (up a c ({s with Dirty:=(up s.Dirty q true)}:Mon)) λu=>t (c,i,d,b,m,q,n,p,j,k,e,u,f,g,()))<|t (c,i,d,b,m,q,n,p,j,k,e,a,f,g,()))
def zKa (N:Nat)(d:Host)(e f:Int)(h g:Int)(i:Bool):OA:=
 let c:=zk d;let a:=zc9 d e; (oN (zT d)<|oN (zcd d e)<|share (λ(b:(Int×Int×Int×Int×Bool×Int×Int×Int×lM×lN×lE×lE×lM×lN×lE×lE×lS×lM×lB×lG×LI×lK×Unit))=>ztD N b.1 b.2.1 b.2.2.1 b.2.2.2.1 b.2.2.2.2.1 b.2.2.2.2.2.2.2.2.1 b.2.2.2.2.2.2.2.2.2.1 b.2.2.2.2.2.2.2.2.2.2.1 b.2.2.2.2.2.2.2.2.2.2.2.1 b.2.2.2.2.2.2.2.2.2.2.2.2.1 b.2.2.2.2.2.2.2.2.2.2.2.2.2.1 b.2.2.2.2.2.2.2.2.2.2.2.2.2.2.1 b.2.2.2.2.2.2.2.2.2.2.2.2.2.2.2.1 b.2.2.2.2.2.2.2.2.2.2.2.2.2.2.2.2.2.2.2.1) λj=>oN (zcm d)<|cond (nB<|zch d) (some [aH c,aI<|-1,aB false])<|cond (nB<|zmY d e) (some [aH c,aI<|-1,aB false])<|oN (zbg f<|ln a.Guests)<|cond (nB<|zcb f<|ln a.Guests) (some [aH c,aI<|-1,aB false])<|cond (ine g 1) (cond (ine g 2) (some [aH c,aI<|-1,aB false])<|j (e,f,h,g,i,a.Pending,a.Traps,a.Own,[],[],[],[],c.Memory,c.Mons,c.Buffer,c.IoBuffer,a.Outer,a.Out,a.Dirty,a.Guests,a.Outs,a.Tables,()))<|j (e,f,h,g,i,a.Pending,a.Traps,a.Own,[],[],[],[],c.Memory,c.Mons,c.Buffer,c.IoBuffer,a.Outer,a.Out,a.Dirty,a.Guests,a.Outs,a.Tables,()))
def zXg:=zo [(214,999999,{n:=0,tm:=[],lo:=[],ro:=[]}),(214,1007055,{n:=200,tm:=[(1,ti),(2,ti),(3,ti),(4,ti),(5,.b),(12,.lp 0 0),(15,.lp 1 0),(16,.lp 2 0)],lo:=[(0,[.sl 0 [],.sl 1 [],.sl 2 [],.sl 3 []]),(1,[.sl 4 [],.sl 5 [],.sl 6 [],.sl 7 []]),(2,[.sl 8 [],.sl 9 [],.sl 10 [],.sl 11 [],.sl 12 [],ti,ti,.sl 13 [],ti])],ro:=[(0,.sl .int,true),(1,.mon,true),(2,.entry,true),(3,.entry,true),(4,.sl .int,true),(5,.mon,true),(6,.entry,true),(7,.entry,true),(8,.slot,true),(9,.sl .int,true),(10,.bool,true),(11,.guest,true),(12,.int,true),(13,.kept,true)]}),(214,1005039,{n:=200,tm:=[(1,ti),(2,ti),(3,ti),(4,ti),(5,.b),(12,.lp 0 0),(15,.lp 1 0),(18,ti)],lo:=[(0,[.sl 0 [],.sl 1 [],.sl 2 [],.sl 3 []]),(1,[.sl 4 [],.sl 5 [],.sl 6 [],.sl 7 []])],ro:=[(0,.sl .int,true),(1,.mon,true),(2,.entry,true),(3,.entry,true),(4,.sl .int,true),(5,.mon,true),(6,.entry,true),(7,.entry,true)]}),(214,1009019,{n:=200,tm:=[(1,ti),(2,ti),(3,ti),(4,ti),(12,.lp 0 0),(15,.lp 1 0),(18,ti),(20,.lp 1 3),(21,ti)],lo:=[(0,[.sl 0 [],.sl 1 [],.sl 2 [],.sl 3 []]),(1,[.sl 4 [],.sl 5 [],.sl 6 [],.sl 7 []])],ro:=[(0,.sl .int,true),(1,.mon,true),(2,.entry,true),(3,.entry,true),(4,.sl .int,true),(5,.mon,true),(6,.entry,true),(7,.entry,true)]}),(214,1011005,{n:=200,tm:=[(3,ti),(12,.lp 0 0),(15,.lp 1 0),(20,.lp 1 3),(21,ti),(24,.lp 2 0)],lo:=[(0,[.sl 0 [],.sl 1 [],.sl 2 [],.sl 3 []]),(1,[.sl 4 [],.sl 5 [],.sl 6 [],.sl 7 []]),(2,[ti,ti])],ro:=[(0,.sl .int,true),(1,.mon,true),(2,.entry,true),(3,.entry,true),(4,.sl .int,true),(5,.mon,true),(6,.entry,true),(7,.entry,true)]}),(214,1001009019,{n:=200,tm:=[(1,ti),(2,ti),(3,ti),(4,ti),(12,.lp 0 0),(15,.lp 1 0),(18,ti),(20,.lp 1 2),(21,ti)],lo:=[(0,[.sl 0 [],.sl 1 [],.sl 2 [],.sl 3 []]),(1,[.sl 4 [],.sl 5 [],.sl 6 [],.sl 7 []])],ro:=[(0,.sl .int,true),(1,.mon,true),(2,.entry,true),(3,.entry,true),(4,.sl .int,true),(5,.mon,true),(6,.entry,true),(7,.entry,true)]}),(214,1001011005,{n:=200,tm:=[(3,ti),(12,.lp 0 0),(15,.lp 1 0),(20,.lp 1 2),(21,ti),(24,.lp 2 0)],lo:=[(0,[.sl 0 [],.sl 1 [],.sl 2 [],.sl 3 []]),(1,[.sl 4 [],.sl 5 [],.sl 6 [],.sl 7 []]),(2,[ti,ti])],ro:=[(0,.sl .int,true),(1,.mon,true),(2,.entry,true),(3,.entry,true),(4,.sl .int,true),(5,.mon,true),(6,.entry,true),(7,.entry,true)]})]
def z8U {N:Nat}{r:Host}{m g a:Int}(b:r.IoBuffer.length<=1048576) :
 zty N a (zeU m g) (zeN (zcp r m g) a).Page (zeN (zcp r m g) a).Rights r.Memory r.Mons r.Buffer r.IoBuffer=some (zlI<|zfE r m g a true):=by
 unfold zty oN
 conv=>zeta
 exact must (zbs b) rfl
def z8W {N:Nat}{r:Host}{m g a:Int}(b:r.Buffer.length<=1048576) :
 ztA N a (zeU m g) (zeN (zcp r m g) a).Page (zeN (zcp r m g) a).Rights r.Memory r.Mons r.Buffer r.IoBuffer=some (zlI<|zfE r m g a false):=by
 unfold ztA oN
 conv=>zeta
 exact must (zbs b) rfl
def z6u {N:Nat}{r:Host}{m g a b q:Int}{R:OA}{r10}{u5 u6 u7 u8 u9}(A:LookAt r m g q b)(c:r10 (a,u5,(zeN (zcp (zcX (mended r m q b) m g a) m g) a).Page,(zeN (zcp (zcX (mended r m q b) m g a) m g) a).Rights,u6,u7,u8,u9,(zcX (mended r m q b) m g a).Memory,(zcX (mended r m q b) m g a).Mons,(zcX (mended r m q b) m g a).Buffer,(zcX (mended r m q b) m g a).IoBuffer,())=R) :
 zu6 N r.Memory r.Mons r.Buffer r.IoBuffer m q b g a r10 u5 u6 u7 u8 u9=R:=by
 have M:=znQ A.kp A.hm A.hg;have F:=znQ (A.fill a) A.hm A.hg;unfold zu6 oN
 conv=>zeta
 exact must (zbs A.mend) (must (zB M.hm)<|must (zB M.ht)<|must (zB M.hg)<|must (zbs M.hk)<|must (zB M.ht)<|shr<|must (zB F.ht) (must rfl c))
def lk_3 {N:Nat}{r:Host}{m g a b q:Int}{c:Bool}{r10}{u5 u6 u7 u8 u9}(A:LookAt r m g q b)(h:r10 (a,u5,(zeN (zcp (zcX (mended r m q b) m g a) m g) a).Page,(zeN (zcp (zcX (mended r m q b) m g a) m g) a).Rights,u6,u7,u8,u9,(zcX (mended r m q b) m g a).Memory,(zcX (mended r m q b) m g a).Mons,(zcX (mended r m q b) m g a).Buffer,(zcX (mended r m q b) m g a).IoBuffer,())=some (zlI<|zfE (zcX (mended r m q b) m g a) m g a c))(i:r10 (a,u5,(zeN (zcp r m g) a).Page,(zeN (zcp r m g) a).Rights,u6,u7,u8,u9,r.Memory,r.Mons,r.Buffer,r.IoBuffer,())=some (zlI<|zfE r m g a c)) :
 zp2 N r.Mons m g a r.Memory r.Buffer r.IoBuffer q b r10 u5 u6 u7 u8 u9=some (zlI<|cond (zfq r m g a b) (zfE (zcX (mended r m q b) m g a) m g a c)<|zfE r m g a c):=by
 unfold zp2 oN nB
 conv=>zeta
 refine brN (λd=>?_) (λd=>br (λe=>?_) λe=>must rfl (brN (λf=>?_) λf=>?_))
 .rw [zuY<|zZY d];exact z6u A h
 .rw [zuY<|zZZ e];exact z6u A h
 .rw [zuY<|zZ0 f];exact z6u A h
 .rw [zZD<|zZ1 d e f];exact i
def z8V {N:Nat}{r:Host}{m g a b q:Int}{u6 u7 u8 u9}(A:LookAt r m g q b) :
 ztz N m g a b q (zeU m g) u6 u7 u8 u9 r.Memory r.Mons r.Buffer r.IoBuffer=some (zlI<|cond (zfq r m g a b) (zfE (zcX (mended r m q b) m g a) m g a true)<|zfE r m g a true):=by
 have M:=znQ ⟨A.fit.1,rfl⟩ A.hm A.hg;have F:=znQ (A.fill a) A.hm A.hg;unfold ztz oN
 conv=>zeta
 exact must (zB M.hm) (must (zB M.ht) (must rfl (shr<|lk_3 A (z8U (r:=zcX (mended r m q b) m g a) (m:=m) (g:=g) F.hi)<|z8U (r:=r) (m:=m) (g:=g) M.hi)))
def z8X {N:Nat}{r:Host}{m g a b q:Int}{u6 u7 u8 u9}(A:LookAt r m g q b) :
 ztB N m g a b q (zeU m g) u6 u7 u8 u9 r.Memory r.Mons r.Buffer r.IoBuffer=some (zlI<|cond (zfq r m g a b) (zfE (zcX (mended r m q b) m g a) m g a false)<|zfE r m g a false):=by
 have M:=znQ ⟨A.fit.1,rfl⟩ A.hm A.hg;have F:=znQ (A.fill a) A.hm A.hg;unfold ztB oN
 conv=>zeta
 exact must (zB M.hm) (must (zB M.ht) (must rfl (shr<|lk_3 A (z8W (r:=zcX (mended r m q b) m g a) (m:=m) (g:=g) F.hb)<|z8W (r:=r) (m:=m) (g:=g) M.hb)))
def z8Y {N:Nat}{r:Host}{m g b a q:Int}{e:Bool}{u6 u7 u8 u9}(A:LookAt r m g q a) :
 ztC N m g b a e q u6 u7 u8 u9 r.Memory r.Mons r.Buffer r.IoBuffer=some (zlI<|zhH r (zul r e) m g b a q e):=by
 unfold ztC oN
 conv=>zeta
 cases e
 .show _=some (zlI<|zhH r r.Buffer m g b a q false)
  refine zcj rfl (must rfl (shr (must rfl (br (λc=>must rfl (br (λd=>?_) λd=>?_)) λc=>?_))))
  .rw [zEV<|zpM c d];rfl
  .rw [zpQ<|zpM c d];exact z8X A
  .rw [zpQ<|zEP c];exact z8X A
 .show _=some (zlI<|zhH r r.IoBuffer m g b a q true)
  refine must rfl (must rfl (shr (must rfl (br (λc=>must rfl (br (λd=>?_) λd=>?_)) λc=>?_))))
  .rw [zEV<|zpM c d];rfl
  .rw [zpQ<|zpM c d];exact z8V A
  .rw [zpQ<|zEP c];exact z8V A
def zbct (r:Host)(m q:Int)(a:Bool):zul (zbN r m q) a=zul r a:=by cases a<;>rfl
def z8Z {N:Nat}{r:Host}{m g b a:Int}{c:Bool}{z1 z2 z3 z4}(k:SmH r)(hg:zb8 r m g=true)(h:zhl a=true) :
 ztD N m g b a c z1 z2 z3 z4 r.Memory r.Mons r.Buffer r.IoBuffer (ix r.Mons m mZ).Guests=some (zlI (lookOf r (zul r c) m g b a c)):=by
 obtain⟨l,f,i⟩:=zdK hg;unfold ztD oN nB
 conv=>zeta
 refine must (zB i) (must rfl (brN (fun e=>?_) (fun e=>?_)))
 .have:zbY r m g b a=false:=by
   unfold zbY;rw[hg,h,show zfs (zcS r m g) b a=false from e];rfl
  rw[zja this];rfl
 .have hl:zbY r m g b a=true:=by
   unfold zbY;rw[hg,h,show zfs (zcS r m g) b a=true from e];rfl
  obtain⟨A,B⟩:=zDQ k hl;rw[zJk hl];have j:hasB (zcH (zcS r m g) b a) (ln (ix r.Mons m mZ).Dirty)=true:=zew (zc3 A.fit.1 f).2.2.2.1 A.hq;refine shr (br (fun d=>?_) (fun d=>?_))
  .rw [d]
   show _=some (zlI (zhH (zbN r m (zcH (zcS r m g) b a)) (zul r c) m g b a (zcH (zcS r m g) b a) c))
   rw[<- zbct r m (zcH (zcS r m g) b a) c];exact must (zB f) (must (zB j) (shr (z8Y (r:=zbN r m (zcH (zcS r m g) b a)) B)))
  .rw [d];exact z8Y A
def zVv (a:Host)(b d:Int)(e c:Int)(f:Bool)(s:zus a b d e c f=true):∃N,zKa N a b d e c f=some [aH<|zup a b d e c f,aI<|zuq a b d e c f,aB<|zur a b d e c f]:=by
 have i:=(zS a).1 (zM.1 s);refine⟨0,?_⟩;show _=some (zlI<|lookOf a (zul a f) b d e c f);unfold zKa oN nB;conv=>zeta
 refine must (zbs<|(zS _).2 i) (must (zbs<|(zS _).2 i)<|shr (must rfl (brN (λj=>?_) λj=>?_)));{rw [zja<|zpR<|zNW j];rfl};refine brN (λg=>?_) (λg=>?_);{rw [zja<|zpR<|zNX g];rfl};have q:zc9 a b=ix a.Mons b mZ:=(by unfold zc9;rw[show hasB b (ln a.Mons)=true from g];rfl);rw[q];refine must rfl (brN (λk=>?_) λk=>?_);{rw [zja<|zpR<|zNY k];rfl};have hg:=zNZ j g k;have m:∀{n:Int},zhl n=false->zbY a b d e n=false:=λ{n} h=>(by unfold zbY;rw[hg,h];rfl);rw[zjP,zjP];cases l:ieq c 1;{cases p:ieq c 2;{have:zhl c=false:=(by unfold zhl;rw[l,p];rfl);rw[zja<|m this];rfl};{exact z8Z (r:=a) i hg (by unfold zhl;rw[l,p];rfl)}};{exact z8Z (r:=a) i hg (by unfold zhl;rw[l];rfl)}
def zOt:vO 214 zD6:=kF6 zjf zn zbE zis zXg zVv
def z8H:zbf:=[(214,zD6),(286,zr2)]++zo0
def zUz:zU z8H:=zi zOt (zi zIK zjf)
@[simp] abbrev zlD (h:Host)(m g b a:Int):Bool:=pc (zc8 h)
@[simp] abbrev zun (h:Host)(m g page need:Int):Host:=(lookOf h h.Buffer m g page need false).1
@[simp] abbrev zuo (h:Host)(m g page need:Int):Int:=(lookOf h h.Buffer m g page need false).2.1
@[simp] abbrev zAe (h:Host)(m g b a:Int):Bool:=(lookOf h h.Buffer m g b a false).2.2
def zD2:Run:=rF5 dH dI dI dI dI λb c d e f=>(zlD b c d e f,[aH<|zun b c d e f,aI<|zuo b c d e f,aB<|zAe b c d e f])
def zJY (N:Nat)(a:Host)(b c:Int)(d e:Int):OA:=
 (oN (zus a b c d e false)<|some [aH<|zup a b c d e false,aI<|zuq a b c d e false,aB<|zur a b c d e false])
def zVi (a:Host)(b c:Int)(d e:Int)(f:zlD a b c d e=true):∃N,zJY N a b c d e=some [aH<|zun a b c d e,aI<|zuo a b c d e,aB<|zAe a b c d e]:=by refine⟨0,?_⟩;unfold zJY oN;exact must f rfl
def zOc:vO 132 zD2:=kF5 zUz zn zbE zis (zo []) zVi
def z8I:zbf:=[(132,zD2)]++z8H
def z5W:zU z8I:=zi zOc zUz
def brought (n a b:Int):Int:=bif ilt n a then a else (cond (ilt b a) a<|zO9 n b)
@[simp] abbrev zsE (_ _ _:Int):Bool:=true
@[simp] abbrev ztr (n a b:Int):Int:=brought n a b
def ztV:Run:=rF3 dI dI dI λb c d=>(zsE b c d,[aI<|ztr b c d])
def zGs (N:Nat)(b a c:Int):OA:=
 (cond (ilt c a) (some [aI a])<|cond (ilt b a) (some [aI a])<|cond (igt b c) (some [aI c])<|some [aI b])
def zSR (a b c:Int)(g:zsE a b c=true):∃N,zGs N a b c=some [aI<|ztr a b c]:=by refine⟨0,?_⟩;unfold zGs;unfold ztr brought zO9;cases d:ilt c b<;>cases e:ilt a b<;>cases f:igt a c<;>simp [igt] at * <;> omega
def zwU:vO 324 ztV:=kF3 zrJ zn zA zq (zo []) zSR
structure RI (a:List Bare) (i:Nat) (l:List Bare):Prop where
 len:l.length=a.length
 sm:z0e l
 eq:∀k,i<=k->l[k]?=a[k]?
def RI.up {a l:List Bare}{i:Nat}(h:RI a i l)(x:Bare)(b:SmB x):RI a (i+1) (up l (i:Int) x):=
 ⟨by rw[zgA];exact h.len,zbaZ h.sm b,λk c=>by rw[zbbM (by omega)];exact h.eq k (by omega)⟩
structure RJ (l:List Bare) (i:Nat) (l':List Bare):Prop where
 len:l'.length=l.length
 sm:SmB (ix l' (i:Int) zXB)
 up:∀x,E.up l' (i:Int) x=E.up l (i:Int) x
def RJ.next {l a:List Bare}{i:Nat}(h:RJ l i a)(b:i<l.length)(x:Bare)(c:SmB x):RJ l i (E.up a (i:Int) x):=
 ⟨by rw[zgA];exact h.len,by rw[zd6 (by rw[h.len];exact b)];exact c,λy=>by rw[zrq];exact h.up y⟩
def z3j:zbf:=[(143,zr0)]++z8I
def zRc:zU z3j:=zi zvu z5W
def zzd:Run:=rF3 dH dI dI λb c d=>(zdu b c d,[aH<|zcG b c d,aB<|zcP b c d])
abbrev zi4 (a:Host)(b c:Int):Int :=
 (zia<|ix (zc9 a b).Guests c zx)
abbrev zdU (a:Host)(b c:Int):Int :=
 (ziz<|ix (zc9 a b).Guests c zx)
abbrev zye (a:Host)(b c:Int):Host :=
 (zun a b c (zby<|zi4 a b c)<|zdI<|ieq (zdU a b c) 4)
abbrev zi3 (a:Host)(b c:Int):Guest :=
 (ix (ix (zk a).Mons b zh).Guests c zx)
abbrev znx (c:lN)(a b:Int):Guest :=
 (ix (ix c a zh).Guests b zx)
abbrev zyf (a:Host)(b c:Int):Int :=
 (zuo a b c (zby<|zi4 a b c)<|zdI<|ieq (zdU a b c) 4)
def zny (N:Nat)(f:Host)(c d:Int):OA:=
 let j:=zyf f c d;let h:=ieq (zdU f c d) 4;let a:=zi4 f c d;let b:=zye f c d;let k:=inb c<|ln b.Mons;let e:=ix (zc9 f c).Guests d zx;let g:=ix b.Mons c zh;let l:=inb d<|ln g.Guests; (oN (zbP a)<|oN (zlR h)<|oN (zlD f c d (zby a)<|zdI h)<|cond (nB<|zAe f c d (zby a)<|zdI h) (oN (zbP a)<|oN (zhf (zby a) h)<|oN (zcI e<|ze5 (zby a) h)<|oN k<|oN l<|share (up b.Mons c ({g with Guests:=(up g.Guests d<|zcM e<|ze5 (zby a) h)}:Mon)) λi=>some [aH ({b with Mons:=i}:Host),aB true])<|cond h (oN (zbP a)<|oN (zei b.Memory j (zc5 a) e.A)<|oN (zO e)<|oN k<|oN l<|share (up b.Mons c ({g with Guests:=(up g.Guests d<|zck e)}:Mon)) λi=>some [aH ({b with Memory:=(zeG b.Memory j (zc5 a) e.A),Mons:=i}:Host),aB true])<|oN (zbP a)<|oN (zfM b.Memory j<|zc5 a)<|oN (zoc e<|zgV b.Memory j<|zc5 a)<|oN k<|oN l<|share (up b.Mons c ({g with Guests:=(up g.Guests d<|zlP e<|zgV b.Memory j<|zc5 a)}:Mon)) λi=>some [aH ({b with Mons:=i}:Host),aB true])
def znz (N:Nat)(f:Host)(a b:Int)(d:lN):OA:=
 let c:=znx d a b;let e:=ix d a zh;let g:=({ (zi3 f a b) with Prog:=c.Prog,Written:=c.Written,Live:=c.Live,Seen:=c.Seen}:Guest); (oN (zO g)<|oN (inb b<|ln e.Guests)<|share (up d a ({e with Guests:=(up e.Guests b<|zck g)}:Mon)) λh=>some [aH ({ (zk f) with Mons:=h}:Host),aB true])
def znA (N:Nat)(e:Host)(a d:Int):OA:=
 let g:=(zk e).Mons;let c:=zi3 e a d;let b:=ix g a zh;let h:=ap b.Outs [(zeb c.Prog c.Pc).X]; (cond (ieq (zdU e a d) 7) (oN (zO c)<|oN (inb d<|ln b.Guests)<|share (up g a ({b with Guests:=(up b.Guests d<|zjq c)}:Mon)) λf=>some [aH ({ (zk e) with Mons:=f}:Host),aB true])<|cond (ilt (ln b.Outs) 40) (oN (zeg c.Prog c.Pc)<|oN (few<|ln h)<|oN (cond (ieq a a) true false)<|share (up g a ({b with Outs:=h}:Mon)) λf=>znz N e a d f)<|oN (zO c)<|oN (inb d<|ln b.Guests)<|share (up g a ({b with Guests:=(up b.Guests d<|zck c)}:Mon)) λf=>some [aH ({ (zk e) with Mons:=f}:Host),aB true])
def znB (N:Nat)(a:Int)(g:Host)(b:Int):OA:=
 let f:=zk g;let j:=zdU g a b;let d:=zi3 g a b;let c:=ix f.Mons a zh;let l:=zls c.Traps d.Ctl.Traps<|zjk j; (oN (inb a<|ln f.Mons)<|oN (inb b<|ln c.Guests)<|oN (zqk j)<|oN (zoP c.Traps d.Ctl.Traps<|zjk j)<|cond (ieq l 1) (oN (zoD d j)<|oN (inb b<|ln c.Guests)<|share (up f.Mons a ({c with Guests:=(up c.Guests b<|zlq d j)}:Mon)) λe=>some [aH ({f with Mons:=e}:Host),aB true])<|cond (ieq l 2) (cond (ilt c.Own 1000000000) (share (up f.Mons a ({c with Own:=(zQ .i64 c.Own 1)}:Mon)) (λe=>let i:=ix e a zh;let h:=znx e a b;let k:=ap i.Outs [(zeb h.Prog d.Pc).X];let q:=({d with Prog:=h.Prog,Written:=h.Written,Live:=h.Live,Seen:=h.Seen}:Guest); (cond (ieq j 7) (oN (zO q)<|oN (inb b<|ln i.Guests)<|share (up e a ({i with Guests:=(up i.Guests b<|zjq q)}:Mon)) λm=>some [aH ({f with Mons:=m}:Host),aB true])<|cond (ilt (ln i.Outs) 40) (oN (zeg h.Prog d.Pc)<|oN (few<|ln k)<|oN (cond (ieq a a) true false)<|share (up e a ({i with Outs:=k}:Mon)) (λm=>let p:=ix m a zh;let n:=ix p.Guests b zx;let r:=({d with Prog:=n.Prog,Written:=n.Written,Live:=n.Live,Seen:=n.Seen}:Guest); (oN (zO r)<|oN (inb b<|ln p.Guests)<|share (up m a ({p with Guests:=(up p.Guests b<|zck r)}:Mon)) λs=>some [aH ({f with Mons:=s}:Host),aB true])))<|znz N g a b e)))<|znA N g a b)<|znA N g a b)
def zkO (N:Nat)(a:Host)(b c:Int):OA:=
 (oN (zcd a b)<|oN (zcF (zen a b) c)<|oN (inb b<|ln (zk a).Mons)<|share (up (zk a).Mons b ({ (ix (zk a).Mons b zh) with Guests:=(zkV (zen a b) c).Guests}:Mon)) λd=>some [aH ({ (zk a) with Mons:=d}:Host),aB true])
def zhn (N:Nat)(a:Host)(b c:Int):OA:=
 let d:=zdU a b c; (cond (ieq d 5) (cond (ieq d 5) (znB N b a c)<|zkO N a b c)<|cond (ieq d 7) (znB N b a c)<|zkO N a b c)
def zCm (N:Nat)(a:Host)(c b:Int):OA:=
 let f:=aH<|zk a;let e:=zdU a c b;let d:=(zc9 a c).Guests;let g:=ix d b zx; (oN (zT a)<|oN (zcd a c)<|oN (zcm a)<|cond (nB<|zch a) (some [f,aB false])<|cond (nB<|zmY a c) (some [f,aB false])<|oN (zbg b<|ln d)<|cond (nB<|zcb b<|ln d) (some [f,aB false])<|oN (inb b<|ln d)<|oN (zbx g)<|cond (ieq e 0) (some [f,aB false])<|oN (inb b<|ln d)<|oN (zbx g)<|oN (zbx g)<|cond (ieq e 3) (cond (ieq e 3) (zny N a c b)<|zhn N a c b)<|cond (ieq e 4) (zny N a c b)<|zhn N a c b)
def zV1 {h:Host}{m:Int}(a:hasB m (ln h.Mons)=true):zc9 h m=ix h.Mons m mZ:=by unfold zc9;rw[a];rfl
def is_1 {N:Nat}{a:Host}{c d:Int}(l:SmH a)(p:zb8 a c d=true) :
 zny N a c d=some (zfb (zg7 (zim a c d (gOf a c d)<|ieq (zL<|gOf a c d) 4) c d (gOf a c d)<|ieq (zL<|gOf a c d) 4,true)):=by
 obtain⟨s,i,n⟩:=zdK p;have m:=zml l i n;have k:=zuW (b:=a.Buffer) (page:=zbj (address<|gOf a c d)) (need:=zcq (ieq (zL<|gOf a c d) 4)) (io:=false) l p;have F:=znQ k i n;have g:=zV1 i;have e:zdU a c d=zL (gOf a c d):=by show ziz (ix (zc9 a c).Guests d gZ)=_;rw[g];rfl
 have f:zi4 a c d=address (gOf a c d):=by show zia (ix (zc9 a c).Guests d gZ)=_;rw[g];rfl
 have q:zye a c d=(zim a c d (gOf a c d)<|ieq (zL<|gOf a c d) 4).1:=by show zun a c d (zby<|zi4 a c d) (zdI<|ieq (zdU a c d) 4)=_;rw[e,f];rfl
 have r:zyf a c d=(zim a c d (gOf a c d)<|ieq (zL<|gOf a c d) 4).2.1:=by show zuo a c d (zby<|zi4 a c d) (zdI<|ieq (zdU a c d) 4)=_;rw[e,f];rfl
 unfold zny oN nB
 conv=>zeta
 rw[q,e,f,r,g];unfold zg7;refine must rfl (must rfl (must (zbs<|(zS _).2 l)<|brN (λh=>?_) λh=>?_))
 .rw [show (zim a c d (gOf a c d)<|ieq (zL<|gOf a c d) 4).2.2=false from h]
  exact must rfl (must rfl (must (zbs m)<|must (zB F.hm) (must (zB F.hg) rfl)))
 .rw [show (zim a c d (gOf a c d)<|ieq (zL<|gOf a c d) 4).2.2=true from h]
  refine br (λj=>?_) (λj=>?_)
  .have kk:=k.shape.1.1;rw[j] at F kk ⊢;exact must rfl (must (zbs kk)<|must (zbs m)<|must (zB F.hm) (must (zB F.hg) rfl))
  .rw [j] at F ⊢;exact must rfl (must rfl (must (zbs m)<|must (zB F.hm) (must (zB F.hg) rfl)))
def is_2 {N:Nat}{c:Host}{d:List Mon}{a b:Int}(g:SmG (gOf c a b))(f:hasB b (ln (ix d a mZ).Guests)=true)(e:znx d a b=zi3 c a b) :
 znz N c a b d=some (zfb (zg0 {c with Mons:=d} a b<|zci<|gOf c a b,true)):=by
 unfold znz oN
 conv=>zeta
 rw[e];exact must (zbs g) (must (zB f) rfl)
def leftG (x:Guest)(w:Int):Guest:=bif ieq w 7 then held x else zci x
def zAn (h:Host)(m:Int)(x:Guest)(w:Int):Host:=bif ieq w 7 then h else zhm h m (zcL x.Prog x.Pc).X
def zyZ {h:Host}{m:Int}{x:Guest}{w:Int}(a:ieq w 7=true):leftG x w=held x/\zAn h m x w=h:=by unfold leftG zAn;rw[a];exact⟨rfl,rfl⟩
def zoE {h:Host}{m:Int}{x:Guest}{w:Int}(a:ieq w 7=false):leftG x w=zci x/\zAn h m x w=zhm h m (zcL x.Prog x.Pc).X:=by unfold leftG zAn;rw[a];exact⟨rfl,rfl⟩
def zZL {h:Host}{m n:Int}(a:ilt (ln (ix h.Mons m mZ).Outs) 40=true):zhm h m n={h with Mons:=up h.Mons m {ix h.Mons m mZ with Outs:=ap (ix h.Mons m mZ).Outs [n]}}:=by unfold zhm;rw[a];rfl
def zZK {h:Host}{m n:Int}(a:ilt (ln (ix h.Mons m mZ).Outs) 40=false):zhm h m n=h:=by unfold zhm;rw[a];rfl
def is_3 {N:Nat}{b:Host}{a c:Int}(k:SmH b)(g:hasB a (ln b.Mons)=true)(e:hasB c (ln (ix b.Mons a mZ).Guests)=true)(j:zdU b a c=zL (gOf b a c)) :
 znA N b a c=some (zfb (zg0 (zAn b a (gOf b a c)<|zL<|gOf b a c) a c<|leftG (gOf b a c)<|zL<|gOf b a c,true)):=by
 have i:=zml k g e;unfold znA oN
 conv=>zeta
 rw[j];refine br (λd=>?_) (λd=>br (λf=>?_) λf=>?_)
 .rw [(zyZ (x:=gOf b a c) (h:=b) (m:=a) d).1,(zyZ (x:=gOf b a c) d).2];exact must (zbs i) (must (zB e) rfl)
 .rw [(zoE (x:=gOf b a c) (h:=b) (m:=a) d).1,(zoE (x:=gOf b a c) d).2,zZL f];refine must rfl (must (zTM f)<|must (zMg _)<|shr<|is_2 i ?_ ?_)
  .rw [zqm g];exact e
  .show ix (ix (up b.Mons a _) a mZ).Guests c gZ=_
   rw[zqm g]
 .rw [(zoE (x:=gOf b a c) (h:=b) (m:=a) d).1,(zoE (x:=gOf b a c) d).2,zZK f];exact must (zbs i) (must (zB e) rfl)
def zbcd {h:Host}{m g:Int}{x:Guest}{w:Int}(d:ieq w 6=false)(c:ieq w 5=false->ieq w 6=false->ieq w 7=true)(e:zev x.Ctl.Traps (zgc w)=false):zkN h m g x w=zg0 (zAn (zdP h m x w) m x w) m g (leftG x w):=by unfold zkN;cases b:ieq w 7;{have a:ieq w 5=true:=(by cases a:ieq w 5;{have:=c a d;rw[b] at this;cases this};{rfl});obtain⟨f,i⟩:=tr3 x x.Ctl.Traps w d b e a;rw[(zoE (x:=x) (h:=zdP h m x w) (m:=m) b).1,(zoE (x:=x) b).2,f];unfold zgC;rw[i,a];rfl};{have a:ieq w 5=false:=(by have:w=7:=qD b;rw[this];rfl);rw[(zyZ (x:=x) (h:=zdP h m x w) (m:=m) b).1,(zyZ (x:=x) b).2,tr4 x x.Ctl.Traps w d c e a,zEt a]}
def is_p {f:Host}{d:List Mon}{a c:Int}(h:SmG (gOf f a c))(g:hasB c (ln (ix d a mZ).Guests)=true)(e:(ix (ix d a zh).Guests c zx)=gOf f a c) :
 (cond (zO ({ (ix (ix (zk f).Mons a zh).Guests c zx) with Prog:=(ix (ix d a zh).Guests c zx).Prog,Written:=(ix (ix d a zh).Guests c zx).Written,Live:=(ix (ix d a zh).Guests c zx).Live,Seen:=(ix (ix d a zh).Guests c zx).Seen}:Guest)) (cond (inb c<|ln (ix d a zh).Guests) (share (up d a ({ (ix d a zh) with Guests:=(up (ix d a zh).Guests c<|zck ({ (ix (ix (zk f).Mons a zh).Guests c zx) with Prog:=(ix (ix d a zh).Guests c zx).Prog,Written:=(ix (ix d a zh).Guests c zx).Written,Live:=(ix (ix d a zh).Guests c zx).Live,Seen:=(ix (ix d a zh).Guests c zx).Seen}:Guest))}:Mon)) λi=>some [.agg<|zbd ({ (zk f) with Mons:=i}:Host),.one<|.b true]) none) none)=some (zfb (zg0 {f with Mons:=d} a c<|zci<|gOf f a c,true)):=by
 rw[e];exact must (zbs h) (must (zB g) rfl)
def is_o {f:Host}{d:List Mon}{a c:Int}(l:SmG (gOf f a c))(n:hasB a (ln d)=true)(k:hasB c (ln (ix d a mZ).Guests)=true)(e:(ix (ix d a zh).Guests c zx)=gOf f a c) :
 (cond (ieq (zL<|gOf f a c) 7) (cond (zO ({ (ix (ix (zk f).Mons a zh).Guests c zx) with Prog:=(ix (ix d a zh).Guests c zx).Prog,Written:=(ix (ix d a zh).Guests c zx).Written,Live:=(ix (ix d a zh).Guests c zx).Live,Seen:=(ix (ix d a zh).Guests c zx).Seen}:Guest)) (cond (inb c<|ln (ix d a zh).Guests) (share (up d a ({ (ix d a zh) with Guests:=(up (ix d a zh).Guests c<|zjq ({ (ix (ix (zk f).Mons a zh).Guests c zx) with Prog:=(ix (ix d a zh).Guests c zx).Prog,Written:=(ix (ix d a zh).Guests c zx).Written,Live:=(ix (ix d a zh).Guests c zx).Live,Seen:=(ix (ix d a zh).Guests c zx).Seen}:Guest))}:Mon)) λg=>some [.agg<|zbd ({ (zk f) with Mons:=g}:Host),.one<|.b true]) none) none)<|cond (ilt (ln (ix d a zh).Outs) 40) (cond (zeg (ix (ix d a zh).Guests c zx).Prog (ix (ix (zk f).Mons a zh).Guests c zx).Pc) (cond (few<|ln<|ap (ix d a zh).Outs [(zeb (ix (ix d a zh).Guests c zx).Prog (ix (ix (zk f).Mons a zh).Guests c zx).Pc).X]) (cond (cond (ieq a a) true false) (share (up d a ({ (ix d a zh) with Outs:=(ap (ix d a zh).Outs [(zeb (ix (ix d a zh).Guests c zx).Prog (ix (ix (zk f).Mons a zh).Guests c zx).Pc).X])}:Mon)) λg=>cond (zO ({ (ix (ix (zk f).Mons a zh).Guests c zx) with Prog:=(ix (ix g a zh).Guests c zx).Prog,Written:=(ix (ix g a zh).Guests c zx).Written,Live:=(ix (ix g a zh).Guests c zx).Live,Seen:=(ix (ix g a zh).Guests c zx).Seen}:Guest)) (cond (inb c<|ln (ix g a zh).Guests) (share (up g a ({ (ix g a zh) with Guests:=(up (ix g a zh).Guests c<|zck ({ (ix (ix (zk f).Mons a zh).Guests c zx) with Prog:=(ix (ix g a zh).Guests c zx).Prog,Written:=(ix (ix g a zh).Guests c zx).Written,Live:=(ix (ix g a zh).Guests c zx).Live,Seen:=(ix (ix g a zh).Guests c zx).Seen}:Guest))}:Mon)) λp=>some [.agg<|zbd ({ (zk f) with Mons:=p}:Host),.one<|.b true]) none) none) none) none) none)<|cond (zO ({ (ix (ix (zk f).Mons a zh).Guests c zx) with Prog:=(ix (ix d a zh).Guests c zx).Prog,Written:=(ix (ix d a zh).Guests c zx).Written,Live:=(ix (ix d a zh).Guests c zx).Live,Seen:=(ix (ix d a zh).Guests c zx).Seen}:Guest)) (cond (inb c<|ln (ix d a zh).Guests) (share (up d a ({ (ix d a zh) with Guests:=(up (ix d a zh).Guests c<|zck ({ (ix (ix (zk f).Mons a zh).Guests c zx) with Prog:=(ix (ix d a zh).Guests c zx).Prog,Written:=(ix (ix d a zh).Guests c zx).Written,Live:=(ix (ix d a zh).Guests c zx).Live,Seen:=(ix (ix d a zh).Guests c zx).Seen}:Guest))}:Mon)) λg=>some [.agg<|zbd ({ (zk f) with Mons:=g}:Host),.one<|.b true]) none) none)=some (zfb (zg0 (zAn {f with Mons:=d} a (gOf f a c)<|zL<|gOf f a c) a c<|leftG (gOf f a c)<|zL<|gOf f a c,true)):=by
 rw[e];refine br (λi=>?_) (λi=>br (λj=>?_) λj=>?_)
 .rw [(zyZ (x:=gOf f a c) (h:={f with Mons:=d}) (m:=a) i).1,(zyZ (x:=gOf f a c) i).2];exact must (zbs l) (must (zB k) rfl)
 .rw [(zoE (x:=gOf f a c) (h:={f with Mons:=d}) (m:=a) i).1,(zoE (x:=gOf f a c) i).2,zZL (h:={f with Mons:=d}) j];refine must rfl (must (zTM j)<|must (zMg _)<|shr<|is_p l ?_ ?_)
  .rw [zqm (h:={f with Mons:=d}) n];exact k
  .show ix (ix (up d a _) a mZ).Guests c gZ=_
   rw[zqm (h:={f with Mons:=d}) n];exact e
 .rw [(zoE (x:=gOf f a c) (h:={f with Mons:=d}) (m:=a) i).1,(zoE (x:=gOf f a c) i).2,zZK (h:={f with Mons:=d}) j];exact must (zbs l) (must (zB k) rfl)
def tf (b:Bool):b=false\/b=true:=by cases b<;>simp
def is_4 {N:Nat}{a:Host}{b c:Int}(r:SmH a)(d:hasB b (ln a.Mons)=true)(e:hasB c (ln (ix a.Mons b mZ).Guests)=true)(q:zdU a b c=zL (gOf a b c))(l:ieq (zL<|gOf a b c) 6=false)(f:ieq (zL<|gOf a b c) 5=false->ieq (zL<|gOf a b c) 6=false->ieq (zL<|gOf a b c) 7=true) :
 znB N b a c=some (zfb (zkN a b c (gOf a b c)<|zL<|gOf a b c,true)):=by
 have s:=zml r d e;have n:=is_3 (N:=N) r d e q;have g:ine (zL<|gOf a b c) 6=true:=by rw[zjP,l];rfl
 unfold znB oN
 conv=>zeta
 rw[q];refine must (zB d) (must (zB e) (must rfl (must rfl ?_)));rw[show ieq (zls (ix a.Mons b zh).Traps (zi3 a b c).Ctl.Traps<|zjk<|zL<|gOf a b c) 1=zev (gOf a b c).Ctl.Traps (zgc<|zL<|gOf a b c) from zbb1 _ _ _]
 refine br (λh=>?_) (λh=>?_)
 .obtain⟨e1,e2⟩:=tr2 (gOf a b c) (gOf a b c).Ctl.Traps _ l f h;have i:zdP a b (gOf a b c) (zL<|gOf a b c)=a:=by unfold zdP;rw[g,zbb2 h];rfl
  unfold zkN;rw[i,zNs e2,e1];exact must (zbs s) (must (zB e) rfl)
 .rw [zbcd l f h];have i:zdP a b (gOf a b c) (zL<|gOf a b c)=bif ieq (zm4 (ix a.Mons b mZ).Traps (gOf a b c).Ctl.Traps<|zgc<|zL<|gOf a b c) 2 then owned a b else a:=by unfold zdP;rw[g];rfl
  rw[i];refine br (λm=>?_) (λm=>?_)
  .rw [show ieq (zm4 (ix a.Mons b mZ).Traps (gOf a b c).Ctl.Traps<|zgc<|zL<|gOf a b c) 2=true from m]
   simp only[cT];unfold owned;refine br (λk=>?_) (λk=>?_)
   rotate_left
   .rw [k];exact n
   rw[k];refine shr ?_;have p:=zqm d {ix a.Mons b mZ with Own:=zQ .i64 (ix a.Mons b mZ).Own 1};have j:hasB b (ln<|up a.Mons b {ix a.Mons b mZ with Own:=zQ .i64 (ix a.Mons b mZ).Own 1})=true:=zfP d;have t:znx (up a.Mons b {ix a.Mons b mZ with Own:=zQ .i64 (ix a.Mons b mZ).Own 1}) b c=zi3 a b c:=by show ix (ix (up a.Mons b _) b mZ).Guests c gZ=_;rw[p]
   refine is_o s j ?_ t;rw[p];exact e
  .rw [show ieq (zm4 (ix a.Mons b mZ).Traps (gOf a b c).Ctl.Traps<|zgc<|zL<|gOf a b c) 2=false from m]
   exact n
def z6q {N:Nat}{a:Host}{b c:Int}(r:SmH a)(q:zb8 a b c=true)(m:ieq (zL<|gOf a b c) 0=false){y:Guest}{o:LI}(s:(stepped (zC a b) c (gOf a b c)<|zL<|gOf a b c).Guests=up (ix a.Mons b mZ).Guests c y)(p:SmB (zC a b)) :
 zkO N a b c=some (zfb (zg0 a b c y,true)):=by
 obtain⟨k,f,l⟩:=zdK q;have g:=zsi k f;have i:(zC a b).Guests=(ix a.Mons b mZ).Guests:=by unfold zC;rw[f];rfl
 have e:hasB c (ln (zC a b).Guests)=true:=by rw[i];exact l
 have h:gAt (zC a b) c=gOf a b c:=by unfold gAt;rw[e,i];rfl
 have d:zij (zC a b) c=true:=by unfold zij;rw[e,g,h,m];rfl
 have j:zfQ (zC a b) c=stepped (zC a b) c (gOf a b c) (zL<|gOf a b c):=by unfold zfQ;rw[d,h];rfl
 have n:(zkV (zen a b) c).Guests=up (ix a.Mons b mZ).Guests c y:=by show (zfQ (zC a b) c).Guests=_;rw[j,s]
 unfold zkO oN;rw[n];exact must (zbs<|(zS _).2 r) (must (zbs p) (must (zB f) rfl))
def zeT {h:Host}{m:Int}(g:SmH h)(f:hasB m (ln h.Mons)=true):SmB (zC h m):=by
 have b:=g.2.1.2 _ (zbO f mZ);have e:∀(d:List LI) (q:Int),SmM d->(zc1 d q).length<=1048576:=λd q h=>zWV h;have c:∀p:Int,(zdf h m p).length<=1048576:=by intro p;unfold zdf;cases hasB m (ln h.Mons);{exact(by decide:zAU.length<=1048576)};{cases hasB p 8;{exact(by decide:zAU.length<=1048576)};{simp only [cT];cases ine (zbJ (ix h.Mons m zh).Outer p).Page (-1);{exact e _ _ b.2.1};{exact e _ _ g.1}}}
 have j:∀(n i:Nat),∀x∈zc4 h m n i,x.length<=1048576:=by
  intro n
  induction n with
  |zero=>intro i x a;cases a
  |succ n k=>intro i x a;rcases qG.1 a with rfl|a;{exact c _};{exact k (i+1) x a}
 unfold zC;rw[f];exact⟨⟨by show (zc4 h m 8 0).length<=1048576;rw[zAx];decide,j 8 0⟩,b.2.2.2.1,b.2.2.2.2.1⟩
def zxS (b:Bare)(g:Int)(x:Guest):(zeK b g x).Guests=up b.Guests g x:=rfl
def zPl (a:Host)(b c:Int)(q:zbX big [aH a,aI b,aI c])(B:zdu a b c=true):∃N,zCm N a b c=some [aH (zcG a b c),aB (zcP a b c)]:=by
 have g:=(zS a).1 (zM.1 B);refine⟨0,?_⟩;show _=some (zfb (zcz a b c));unfold zCm oN nB;conv=>zeta
 refine must (zbs ((zS _).2 g)) (must (zbs ((zS _).2 g)) (must rfl (brN (fun u=>?_) (fun u=>brN (fun l=>?_) (fun l=>?_)))));{rw [zjU (zNW u)];rfl};{rw [zjU (zNX l)];rfl};have y:=zV1 (h:=a) (m:=b) l;have n:zdU a b c=zL (gOf a b c):=(by show ziz (ix (zc9 a b).Guests c gZ)=_;rw[y];rfl);rw[y,n];refine must rfl (brN (fun p=>?_) (fun p=>?_));{rw [zjU (zNY p)];rfl};have j:=zNZ u l p;have s:hasB b (ln a.Mons)=true:=l;have t:hasB c (ln (ix a.Mons b mZ).Guests)=true:=p;have q:=zeT g s;have r:(zC a b).Guests=(ix a.Mons b mZ).Guests:=(by unfold zC;rw[s];rfl);rw[zkC j];unfold zEp;refine must (zB t) (must rfl (br (fun d=>?_) (fun d=>must (zB t) (must rfl (must rfl (br (fun i=>must i ?_) (fun i=>br (fun k=>?_) (fun k=>?_))))))));{rw [d];rfl};{have e:zL (gOf a b c)=3:=qD i;have T:=is_1 (N:=0) g j;rw[T];rw[e];rfl};{have e:zL (gOf a b c)=4:=qD k;have T:=is_1 (N:=0) g j;rw[T];rw[e];rfl}
 .have fin:∀{R:Host×Bool},zhn 0 a b c=some (zfb R)->R=(bif ieq (zL (gOf a b c)) 0 then (a,false) else (bif ieq (zL (gOf a b c)) 1 then (zg0 a b c (interrupted (gOf a b c)),true) else (bif ieq (zL (gOf a b c)) 2 then (zg0 a b c (plainly (gOf a b c)),true) else
   (cond (cond (ieq (zL (gOf a b c)) 3) true (ieq (zL (gOf a b c)) 4)) (zg7 (zim a b c (gOf a b c) (ieq (zL (gOf a b c)) 4)) b c (gOf a b c) (ieq (zL (gOf a b c)) 4),true) (zkN a b c (gOf a b c) (zL (gOf a b c)),true)))))->zhn 0 a b c=_:=fun h e=>h.trans (congrArg (fun x=>some (zfb x)) e)
  have w:ieq (zL (gOf a b c)) 5=false->ieq (zL (gOf a b c)) 7=false->zhn 0 a b c=zkO 0 a b c:=by
   intro v A;unfold zhn;conv=>zeta
   rw[n];exact zcj v (zcj A rfl)
  rcases tf (ieq (zL (gOf a b c)) 1) with f|f
  .rcases tf (ieq (zL (gOf a b c)) 2) with w2|w2
   .rcases tf (ieq (zL (gOf a b c)) 6) with w6|w6
    .have h57:ieq (zL (gOf a b c)) 5=false->ieq (zL (gOf a b c)) 6=false->ieq (zL (gOf a b c)) 7=true:=fun v z=>z2t _ d f w2 i k v z;have T:=is_4 (N:=0) g s t n w6 h57;refine fin (R:=(zkN a b c (gOf a b c) (zL (gOf a b c)),true)) ?_ (by rw[d,f,w2,i,k];rfl);unfold zhn;conv=>zeta
     rw[n];cases C:ieq (zL (gOf a b c)) 5;{exact zcj rfl (must (h57 C w6) T)};{exact must rfl (must rfl T)}
    {have e:zL (gOf a b c)=6:=qD w6;refine fin (R:=(zg0 a b c (zgD (gOf a b c) (gOf a b c).Ctl.Traps (zL (gOf a b c))),true)) ?_ ?_;{rw [w (by rw[e];rfl) (by rw[e];rfl)];refine z6q (o:=[]) g j d ?_ q;unfold stepped zr8;rw[f,w2,i,k,(tr1 (gOf a b c) (gOf a b c).Ctl.Traps _ w6).2];show (zeK (zC a b) c _).Guests=_;rw[zxS,r]};{rw [d,f,w2,i,k];unfold zkN zdP;rw[zNs (tr1 (gOf a b c) (gOf a b c).Ctl.Traps _ w6).2,zjP,w6];rfl}}
   {have e:zL (gOf a b c)=2:=qD w2;refine fin (R:=(zg0 a b c (plainly (gOf a b c)),true)) ?_ (by rw[d,f,w2];rfl);rw[w (by rw[e];rfl) (by rw[e];rfl)];refine z6q (o:=[]) g j d ?_ q;unfold stepped;rw[f,w2];show (zeK (zC a b) c _).Guests=_;rw[zxS,r]}
  {have e:zL (gOf a b c)=1:=qD f;refine fin (R:=(zg0 a b c (interrupted (gOf a b c)),true)) ?_ (by rw[d,f];rfl);rw[w (by rw[e];rfl) (by rw[e];rfl)];refine z6q (o:=[]) g j d ?_ q;unfold stepped;rw[f];show (zeK (zC a b) c _).Guests=_;rw[zxS,r]}
def zIn:vO 70 zzd:=hF3 zRc zn zbE zis (zo []) zPl
def z8J:zbf:=[(70,zzd)]++z3j
def z5X:zU z8J:=zi zIn zRc
def z8K:zbf:=[(324,ztV)]++z8J
def z5Y:zU z8K:=zi zwU z5X
def cnt (l:List Mon):List Nat:=l.map λx=>x.Guests.length
def zbbq {l a:List Mon}(h:zfl a=zfl l):cnt a=cnt l:=by have e:∀l:List Mon,cnt l=(zfl l).map List.length:=λl=>(by simp[cnt,zfl]);rw[e,e,h]
def zUj {l:List Mon}{m:Int}{x:Mon}(b:hasB m (ln l)=true)(c:x.Guests.length=(ix l m mZ).Guests.length):cnt (up l m x)=cnt l:=by obtain⟨k,rfl,a⟩:=zeH (n:=l.length) b;unfold cnt up;rw[List.map_set,kG,c,zbv a];have:=@u1 _ (l.map λx=>x.Guests.length) k (by simpa using a);simpa using this
def z9R {l a:List Mon}(h:cnt a=cnt l):a.length=l.length:=by have:=congrArg List.length h;simpa [cnt] using this
def zbbr {l b:List Mon}(h:cnt b=cnt l)(m:Int):(ix b m mZ).Guests.length=(ix l m mZ).Guests.length:=by have a:(cnt b)[m.toNat]?=(cnt l)[m.toNat]?:=(by rw[h]);unfold cnt at a;rw[qP,qP]at a;unfold ix;simp only[kA];cases c:b[m.toNat]? <;> cases d:l[m.toNat]? <;> rw [c,d]at a<;>simp at a ⊢;exact a
def zbaF (h:Host)(m p:Int):(zex h m p).Memory=h.Memory:=(zh5 (zgf h m p) m p noSlot).2
def zbaE (h:Host):(zdY h).Memory=h.Memory:=by unfold zdY;cases ieq (ln<|zcV h) 0;{rfl};{exact zbaF _ _ _}
def zbaD (m:List LI)(p:Int)(c:LI):(zkE m p c).length=m.length:=by unfold zkE;cases hasB p (ln m);{rfl};{cases zc2 c;{rfl};{simp}}
def zbaB (m:List LI)(p c v:Int):(zbT m p c v).length=m.length:=by unfold zbT;cases zhk m p c;{rfl};{cases zl v 0 99;{rfl};{simp}}
def z1q (h:Host)(m p:Int):(fetched h m p).Memory.length=h.Memory.length:=by unfold fetched zgk;rw[(zh5 _ _ _ _).2];unfold landing;rw[zbaD,zbaE]
def zVZ (h:Host)(m p n:Int):(zlG h m p n).Memory=h.Memory:=by unfold zlG;cases ieq (wand .i64 n 2) 0;{unfold opened;cases ieq (wand .i64 (ix (ix (zbN h m p).Mons m mZ).Outer p sZ).Rights 2) 0;{rfl};{exact(zh5 _ _ _ _).2}};{rfl}
def z4a (h:Host)(m p n:Int):(mended h m p n).Memory.length=h.Memory.length:=by unfold mended;cases ieq (ix (ix h.Mons m mZ).Outer p sZ).Page (-1);{exact congrArg List.length (zVZ _ _ _ _)};{exact(congrArg List.length<|zVZ _ _ _ _).trans (z1q _ _ _)}
def z4b (h:Host)(m g p:Int)(a:Bool):(zxc h m g p a).Memory=h.Memory:=by cases a<;>rfl
def z6E (h:Host)(b:List Entry)(m g c a q:Int)(d:Bool):(zhH h b m g c a q d).1.Memory.length=h.Memory.length:=by unfold zhH;cases zjN b m g c a;{cases zfq h m g c a;{exact congrArg List.length (z4b _ _ _ _ _)};{exact(congrArg List.length<|z4b _ _ _ _ _).trans (z4a h m q a)}};{rfl}
def zbaC (h:Host)(b:List Entry)(m g page need:Int)(io:Bool):(lookOf h b m g page need io).1.Memory.length=h.Memory.length:=by unfold lookOf;cases zbY h m g page need;{rfl};{simp only [cT];rw[z6E];cases ieq need 2<;>rfl}
structure Keep (h r:Host):Prop where
 shape:Shape r
 cnt:cnt r.Mons=cnt h.Mons
 mem:r.Memory.length=h.Memory.length
def Keep.has {h r:Host}(k:Keep h r){m:Int}(a:hasB m (ln h.Mons)=true):hasB m (ln r.Mons)=true:=by rw[ln,z9R k.cnt];exact a
def Keep.hg {h r:Host}(k:Keep h r){m g:Int}(hg:hasB g (ln (ix h.Mons m mZ).Guests)=true):hasB g (ln (ix r.Mons m mZ).Guests)=true:=by rw[ln,zbbr k.cnt];exact hg
def Keep.trans {a b c:Host}(h:Keep a b)(k:Keep b c):Keep a c:=⟨k.shape,k.cnt.trans h.cnt,k.mem.trans h.mem⟩
def Keep.rfl' {h:Host}(a:Shape h):Keep h h:=⟨a,rfl,rfl⟩
def zpP {h:Host}{m g:Int}{x:Guest}(b:Shape h)(a:hasB m (ln h.Mons)=true)(c:SmG x):Keep h (zg0 h m g x):=⟨z2f b a c,zUj a (by simp),rfl⟩
def zDD {h:Host}{b:List Entry}{m g page need:Int}{io:Bool}(c:SmH h)(a:zb8 h m g=true):Keep h (lookOf h b m g page need io).1:=by have k:=zuW (b:=b) (page:=page) (need:=need) (io:=io) c a;exact⟨k.shape,zbbq k.gs,zbaC _ _ _ _ _ _ _⟩
def z3K {h:Host}{p c v:Int}(a:Shape h):Keep h {h with Memory:=zbT h.Memory p c v}:=⟨zRM a<|zwd a.1.1,rfl,zbaB _ _ _ _⟩
def z1b {h:Host}{m:Int}(a:Shape h)(b:hasB m (ln h.Mons)=true):Keep h (owned h m):=by obtain⟨c,d⟩:=zc3 a b;unfold owned;cases ilt (ix h.Mons m mZ).Own 1000000000;{exact Keep.rfl' a};{exact⟨zkB a c d,zUj b rfl,rfl⟩}
def z1a {h:Host}{m n:Int}(b:Shape h)(c:hasB m (ln h.Mons)=true):Keep h (zhm h m n):=by obtain⟨a,d⟩:=zc3 b c;unfold zhm;cases e:ilt (ln (ix h.Mons m mZ).Outs) 40;{exact Keep.rfl' b};{have f:=qD e;simp only[ln]at f;refine⟨zkB b ⟨a.1,a.2.1,a.2.2.1,a.2.2.2.1,?_,a.2.2.2.2.2⟩ d,zUj c rfl,rfl⟩;simp[ap];omega}
def z3M {h:Host}{m g:Int}{x:Guest}{w:Int}(d:Shape h)(b:hasB m (ln h.Mons)=true)(e:SmG x):Keep h (zkN h m g x w):=by have a:Keep h (zdP h m x w):=(by unfold zdP;cases (cond (ine w 6) (ieq (zm4 (ix h.Mons m mZ).Traps x.Ctl.Traps<|zgc w) 2) false);{exact Keep.rfl' d};{exact z1b d b});have f:Keep (zdP h m x w) (zgC (zdP h m x w) m x w):=(by unfold zgC;cases (cond (zhY x.Ctl.Traps w) (ieq w 5) false);{exact Keep.rfl' a.shape};{exact z1a a.shape (a.has b)});have c:=a.trans f;exact c.trans (zpP c.shape (c.has b)<|zEl _ _ e)
def z3L {h:Host}{m g:Int}(f:SmH h)(e:zb8 h m g=true):Keep h (zcz h m g).1:=by obtain⟨l,a,n⟩:=zdK e;have d:=zml f a n;have i:=(zfA f l).1;rw[zkC e];unfold zEp;cases ieq (zL<|gOf h m g) 0;{cases ieq (zL<|gOf h m g) 1;{cases ieq (zL<|gOf h m g) 2;{cases (cond (ieq (zL<|gOf h m g) 3) true<|ieq (zL<|gOf h m g) 4);{exact z3M i a d};{have k:=zDD (b:=h.Buffer) (page:=zbj (address<|gOf h m g)) (need:=zcq (ieq (zL<|gOf h m g) 4)) (io:=false) f e;show Keep h (zg7 (zim h m g (gOf h m g)<|ieq (zL<|gOf h m g) 4) m g (gOf h m g)<|ieq (zL<|gOf h m g) 4);unfold zg7;cases (zim h m g (gOf h m g)<|ieq (zL<|gOf h m g) 4).2.2;{exact k.trans (zpP k.shape (k.has a) d)};{cases ieq (zL<|gOf h m g) 4;{have k:=zDD (b:=h.Buffer) (page:=zbj (address<|gOf h m g)) (need:=zcq false) (io:=false) f e;exact k.trans (zpP k.shape (k.has a)<|zNj _ d)};{have k:=zDD (b:=h.Buffer) (page:=zbj (address<|gOf h m g)) (need:=zcq true) (io:=false) f e;have q:=z3K (p:=(zim h m g (gOf h m g) true).2.1) (c:=zd7 (address<|gOf h m g)) (v:=(gOf h m g).A) k.shape;have j:=k.trans q;exact j.trans (zpP j.shape (j.has a)<|zlv d)}}}};{exact zpP i a (zHw d)}};{exact zpP i a (zZU d)}};{exact Keep.rfl' i}
structure Same (h r:Host):Prop where
 sm:SmH r
 cnt:cnt r.Mons=cnt h.Mons
 mem:r.Memory.length=h.Memory.length
 st:r=h\/Shape r
def Same.rfl' {h:Host}(a:SmH h):Same h h:=⟨a,rfl,rfl,.inl rfl⟩
def Same.trans {a b c:Host}(h:Same a b)(k:Same b c):Same a c:=⟨k.sm,k.cnt.trans h.cnt,k.mem.trans h.mem,by
 rcases k.st with e|e
 .rw [e];exact h.st
 .exact .inr e⟩
def z4K {h:Host}(m g:Int)(b:SmH h):Same h (zcz h m g).1:=by cases a:zb8 h m g;{rw [zjU a];exact Same.rfl' b};{have k:=z3L b a;exact⟨k.shape.1,k.cnt,k.mem,.inr k.shape⟩}
end
end Go.Proofs.YtdlfljbgoopanaaGreat.E
