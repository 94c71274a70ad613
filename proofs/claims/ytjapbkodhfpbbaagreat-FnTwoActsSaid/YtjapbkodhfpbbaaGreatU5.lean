/- What is proved here: a part of the proof that the statement of this claim holds (several texts of wip/, laid together). -/
import Derived.Test.YtjapbkodhfpbbaaGreatU4
namespace Go.Proofs.YtjapbkodhfpbbaaGreat.E
open Go
set_option linter.defProp false
set_option linter.constructorNameAsVariable false
set_option linter.unusedVariables false
set_option maxRecDepth 100000
set_option linter.unusedSimpArgs false
set_option linter.unusedSectionVars false
noncomputable section
def zoi (o i t:Int):Int:=bif zew i t then 1 else (cond (zew o t) 2 0)
@[simp] abbrev zoE (o i t:Int):Bool:=true
@[simp] abbrev zlh (o i t:Int):Int:=zoi o i t
def zoZ:Run:=rF3 dI dI dI λb c d=>(zoE b c d,[aI<|zlh b c d])
def zGQ (N:Nat)(b c a:Int):OA:=
 (oN (zgF c a)<|cond (zfZ c a) (some [aI 1])<|oN (zgF b a)<|cond (zfZ b a) (some [aI 2])<|some [aI 0])
def zBt (a b c:Int)(d:zbS big [aI a,aI b,aI c])(e:zoE a b c=true):∃N,zGQ N a b c=some [aI<|zlh a b c]:=by refine⟨0,?_⟩;unfold zGQ oN;refine must rfl (br (λ_=>?_) λ_=>must rfl (br (λ_=>?_) λ_=>?_));all_goals first|rfl|(simp only [*,zlh,zoi,cT,cF]<;>rfl)|simp_all[Ty.cells,zlh,zoi]
def zL6:vR 342 zoZ:=hF3 zgn zn zx zd5 (zq []) zBt
def zLM:vR 290 zoZ:=hF3 zgn zn zx zd5 (zq []) zBt
def has3 (p:Int):hasB p 3=zk p 0 2:=by unfold hasB zk ige ile;by_cases a:0<=p<;>by_cases b:p<3;{rw [qK (p:=0<=p/\p<3) ⟨a,b⟩,qK (p:=p≥0) a,qK (p:=p<=2) (by omega)];rfl};{rw [qH (p:=0<=p/\p<3) (by omega),qH (p:=p<=2) (by omega)];simp};{rw [qH (p:=0<=p/\p<3) (by omega),qH (p:=p≥0) (by omega)];simp};{rw [qH (p:=0<=p/\p<3) (by omega),qH (p:=p≥0) (by omega)];simp}
def has2 (p:Int):hasB p 2=zk p 0 1:=by unfold hasB zk ige ile;by_cases a:0<=p<;>by_cases b:p<2;{rw [qK (p:=0<=p/\p<2) ⟨a,b⟩,qK (p:=p≥0) a,qK (p:=p<=1) (by omega)];rfl};{rw [qH (p:=0<=p/\p<2) (by omega),qH (p:=p<=1) (by omega)];simp};{rw [qH (p:=0<=p/\p<2) (by omega),qH (p:=p≥0) (by omega)];simp};{rw [qH (p:=0<=p/\p<2) (by omega),qH (p:=p≥0) (by omega)];simp}
def zeZ (m g:Int):Int:=bif zk m 0 2 then (cond (zk g 0 1) (zQ .i64 (zQ .i64 1 g)<|znj .i64 m 2) 0) else 0
@[simp] abbrev zh8 (m g:Int):Bool:=true
@[simp] abbrev zk3 (m g:Int):Int:=zeZ m g
def zsw:Run:=rF2 dI dI λb c=>(zh8 b c,[aI<|zk3 b c])
def zRq (N:Nat)(a b:Int):OA:=
 (oN (zM a 0 2)<|cond (nB<|zk a 0 2) (some [aI 0])<|oN (zM b 0 1)<|cond (nB<|zk b 0 1) (some [aI 0])<|some [aI<|zQ .i64 (zQ .i64 1 b)<|znj .i64 a 2])
def zY5 (a b:Int)(c:zh8 a b=true):∃N,zRq N a b=some [aI<|zk3 a b]:=by refine⟨0,?_⟩;unfold zRq oN nB;refine must rfl (brN (λ_=>?_) λ_=>must rfl (brN (λ_=>?_) λ_=>?_));all_goals first|rfl|(simp only [*,zk3,zeZ,cT,cF]<;>rfl)|simp_all[Ty.cells,zk3,zeZ]
def zST:vR 214 zsw:=kF2 zgn zn zx zd5 (zq []) zY5
def zRe (N:Nat)(a b:Int):OA:=
 (oN (zbm a 3)<|cond (nB<|zcj a 3) (some [aI 0])<|oN (zbm b 2)<|cond (nB<|zcj b 2) (some [aI 0])<|some [aI<|zQ .i64 (zQ .i64 1 b)<|znj .i64 a 2])
def zYV (a b:Int)(c:zh8 a b=true):∃N,zRe N a b=some [aI<|zk3 a b]:=by refine⟨0,?_⟩;unfold zRe oN nB;refine must rfl (brN (λ_=>?_) λ_=>must rfl (brN (λ_=>?_) λ_=>?_));all_goals first|rfl|(simp only [*,zk3,zeZ,has3,has2,cT,cF]<;>rfl)|simp_all[Ty.cells,zk3,zeZ,has3,has2]
def zSH:vR 170 zsw:=kF2 zgn zn zx zd5 (zq []) zYV
def zlY (k:Kept)(p:Int):Bool:=bif zea k p then ix k.Known p false else false
def zeS (k:Kept)(p:Int):Slot:=bif zlY k p then ix k.Slots p zV else noSlot
@[simp] abbrev zjL (k:Kept)(p:Int):Slot:=zeS k p
@[simp] abbrev zpH (k:Kept)(p:Int):Bool:=zlY k p
def zSh:Run:=rF2 (dT .kept) dI λb c=>(zc8 b c,[aT .slot<|zjL b c,aB<|zpH b c])
def zZU (N:Nat)(a:Kept)(b:Int):OA:=
 let c:=ix a.Slots b zV; (oN (zc8 a b)<|cond (nB<|zkp a b) (oN zbW<|some [.agg [.i .i64 zbl.Page,.i .i64 zbl.Rights],aB false])<|oN (inb b<|ln a.Known)<|cond (nB<|ix a.Known b false) (oN zbW<|some [.agg [.i .i64 zbl.Page,.i .i64 zbl.Rights],aB false])<|oN (inb b<|ln a.Slots)<|some [.agg [.i .i64 c.Page,.i .i64 c.Rights],aB true])
def z4D (a:Kept)(b:Int)(f:zc8 a b=true):∃N,zZU N a b=some [aT .slot<|zjL a b,aB<|zpH a b]:=by
 have g:=zK.1 f;refine⟨0,?_⟩;unfold zZU zjL zpH zeS zlY oN nB;conv=>zeta
 refine must (zbs g) ?_;rw[show zkp a b=zea a b from rfl];cases c:zea a b;{rfl};{unfold zea at c;obtain⟨d,e⟩:=zd2.1 c;simp only[zC d,zC e,cT];cases ix a.Known b false<;>rfl}
def zYL:vR 135 zSh:=kF2 zgn zn zx zd5 (zq []) z4D
@[simp] abbrev zyN (k:Kept)(p:Int):Bool:=true
def zSe:Run:=rF2 (dT .kept) dI λb c=>(zyN b c,[aT .slot<|zjL b c,aB<|zpH b c])
def zZQ (N:Nat)(a:Kept)(b:Int):OA:=
 let c:=ix a.Slots b zV; (oN (zbm b<|ln a.Known)<|cond (nB<|zcj b<|ln a.Known) (oN zbW<|some [.agg [.i .i64 zbl.Page,.i .i64 zbl.Rights],aB false])<|oN (zbm b<|ln a.Slots)<|cond (nB<|zcj b<|ln a.Slots) (oN zbW<|some [.agg [.i .i64 zbl.Page,.i .i64 zbl.Rights],aB false])<|oN (inb b<|ln a.Known)<|cond (nB<|ix a.Known b false) (oN zbW<|some [.agg [.i .i64 zbl.Page,.i .i64 zbl.Rights],aB false])<|oN (inb b<|ln a.Slots)<|some [.agg [.i .i64 c.Page,.i .i64 c.Rights],aB true])
def z4z (a:Kept)(b:Int)(e:zyN a b=true):∃N,zZQ N a b=some [aT .slot<|zjL a b,aB<|zpH a b]:=by
 refine⟨0,?_⟩;unfold zZQ zjL zpH zeS zlY zea oN nB;conv=>zeta
 rw[show zcj b (ln a.Known)=hasB b (ln a.Known) from rfl,show zcj b (ln a.Slots)=hasB b (ln a.Slots) from rfl];cases c:hasB b (ln a.Known);{rfl};{cases d:hasB b (ln a.Slots);{rfl};{simp only [zbm,zC c,zC d,cT];cases ix a.Known b false<;>rfl}}
def zYH:vR 132 zSe:=kF2 zgn zn zx zd5 (zq []) z4z
def filled (k:Kept)(a b:List Slot)(p:Int):Kept:=bif zea k p then (cond (hasB p<|ln a) ⟨up k.Known p true,up k.Slots p<|zbJ (ix a p zV) b⟩ k) else k
@[simp] def z2X {k:Kept}{a b:List Slot}{p:Int}(h:SmK k):SmK (filled k a b p):=by unfold filled;cases zea k p;{exact h};{cases hasB p (ln a);{exact h};{exact⟨by simpa using h.1,by simpa using h.2⟩}}
@[simp] abbrev zv0 (k:Kept)(i o:List Slot)(p:Int):Bool:=pc (SmK k)
@[simp] abbrev zvZ (k:Kept)(i o:List Slot)(p:Int):Kept:=filled k i o p
def zuF:Run:=rF4 (dT .kept) (dS .slot) (dS .slot) dI λb c d e=>(zv0 b c d e,[aT .kept<|zvZ b c d e])
def zUB (N:Nat)(d:Kept)(c e:lS)(a:Int):OA:=
 let b:=zeE d; (oN (zhP d)<|oN (zc8 b a)<|cond (zkp b a) (cond (ilt a<|ln c) (oN (inb a<|ln b.Known)<|share (up b.Known a true) λf=>oN (inb a<|ln c)<|oN (zii (ix c a zV) e)<|oN (inb a<|ln b.Slots)<|share (up b.Slots a<|zl4 (ix c a zV) e) λg=>some [aT .kept (⟨f,g⟩:Kept)])<|some [aT .kept b])<|some [aT .kept b])
def z1Z (b:Kept)(c d:List Slot)(a:Int)(j:zv0 b c d a=true):∃N,zUB N b c d a=some [aT .kept<|zvZ b c d a]:=by
 have g:=zK.1 j;refine⟨0,?_⟩;unfold zUB zvZ filled oN;conv=>zeta
 refine must (zbs<|(zyz _).2 g) (must (zbs g) ?_);rw[show zkp (zeE b) a=zea b a from rfl];cases f:zea b a;{rfl};{unfold zea at f;obtain⟨e,h⟩:=zd2.1 f;rw[has_lt e (m:=ln c)];cases i:hasB a (ln c);{rfl};{simp only [cT,zeE,zC e,zC h,zC i,share,zii];rfl}}
def zVK:vR 346 zuF:=kF4 zgn zn zx zd5 (zq []) z1Z
def zUz (N:Nat)(c:Kept)(d e:lS)(a:Int):OA:=
 let b:=zdo c; (oN (zef c)<|oN (zbm a<|ln c.Known)<|cond (zcj a<|ln c.Known) (oN (zbm a<|ln c.Slots)<|cond (zcj a<|ln c.Slots) (oN (zbm a<|ln d)<|cond (zcj a<|ln d) (oN (inb a<|ln b.Known)<|share (up b.Known a true) λf=>oN (inb a<|ln d)<|oN (zii (ix d a zV) e)<|oN (inb a<|ln b.Slots)<|share (up b.Slots a<|zl4 (ix d a zV) e) λg=>some [aT .kept (⟨f,g⟩:Kept)])<|some [aT .kept b])<|some [aT .kept b])<|some [aT .kept b])
def z1V (b:Kept)(c d:List Slot)(a:Int)(h:zv0 b c d a=true):∃N,zUz N b c d a=some [aT .kept<|zvZ b c d a]:=by
 have i:=zK.1 h;refine⟨0,?_⟩;unfold zUz zvZ filled zea oN;conv=>zeta
 refine must (zbs i) ?_;simp only[zcj,zbm,zdo,cT];cases e:hasB a (ln b.Known);{rfl};{cases f:hasB a (ln b.Slots);{rfl};{cases g:hasB a (ln c);{rfl};{simp only [cT,zC e,zC f,zC g,share,zii];rfl}}}
def zVF:vR 377 zuF:=kF4 zgn zn zx zd5 (zq []) z1V
def zIs {a b:Type}(p:a->Bool)(r:a->Option b)(K:Unit->Option b):∀(l:List a) (i:Nat),goL (λ_ x (_:Unit) k=>bif p x then r x else k ()) K l i ()=match l.find? p with|some x=>r x|none=>K ()
 |[],_=>rfl
 |x::l,i=>by simp only[goL];cases h:p x;{rw [List.find?_cons_of_neg (by simp[h])];exact zIs p r K l (i+1)};{rw [List.find?_cons_of_pos h];rfl}
def zz2 (b:List Entry)(t p:Int):Option Entry:=b.find? λe=>bif ieq e.Tag t then ieq e.Page p else false
@[simp] abbrev zir (b:List Entry)(t p:Int):Bool:=true
@[simp] abbrev zhe (b:List Entry)(t p:Int):Entry:=(zz2 b t p).getD ⟨0,0,0,0⟩
@[simp] abbrev zgh (b:List Entry)(t p:Int):Bool:=(zz2 b t p).isSome
def zmx:Run:=rF3 (dS .entry) dI dI λb c d=>(zir b c d,[aT .entry<|zhe b c d,aB<|zgh b c d])
def zBa (N:Nat)(f:lE)(g h:Int):OA:=
 (iter (σ:=(Int×Int×Int×Int×Int×Int×Int×lE×Unit)) N (λj a=>let c:=a.2.2.2.2.2.2.2.1;let d:=inb a.2.2.1<|ln c;let e:=j (a.1,a.2.1,zQ .i64 a.2.2.1 1,a.2.2.2.1,a.2.2.2.2.1,a.2.2.2.2.2.1,a.2.2.2.2.2.2.1,c,());let b:=ix c a.2.2.1 zg8; (cond (ilt a.2.2.1<|ln c) (oN d<|cond (ieq b.Tag a.1) (oN d<|cond (ieq b.Page a.2.1) (oN d<|some [.agg [.i .i64 b.Tag,.i .i64 b.Page,.i .i64 b.Host,.i .i64 b.Rights],aB true]) e) e)<|some [.agg [.i .i64 0,.i .i64 0,.i .i64 0,.i .i64 0],aB false])) (g,h,0,0,0,0,0,f,()))
def zNX:=zq [(345,0,{n:=36,tm:=[(0,.sl 0 []),(1,ti),(2,ti),(6,.lp 0 0),(8,ti)],lo:=[(0,[ti,ti,ti,ti])],ro:=[(0,.entry,false)]})]
def zMS (a:List Entry)(c d:Int)(j:zbS big [aS .entry a,aI c,aI d])(l:zir a c d=true):∃N,zBa N a c d=some [aT .entry<|zhe a c d,aB<|zgh a c d]:=by
 have h:=len0 j;refine zcw λN g=>?_;unfold zBa oN;conv=>zeta
 refine(zbp a (λi (t:Unit)=>(c,d,(i:Int),0,0,0,0,a,())) _ (λ_ (x:Entry) (_:Unit) k=>bif (cond (ieq x.Tag c) (ieq x.Page d) false) then (some [AV.agg<|Ty.cells .entry x,AV.one<|.b true]) else k ()) (λ(t:Unit)=>some [.agg [.i .i64 0,.i .i64 0,.i .i64 0,.i .i64 0],.one<|.b false]) (λi f t rec=>?_) (λt rec=>?_) _ ()<|g h).trans ?_;{simp only [zbF f,zbk f,zbt f,zbh f h,cT];cases ieq a[i].Tag c<;>cases ieq a[i].Page d<;>rfl};{simp only [zbx,cF]};rw[zIs λe:Entry=>bif ieq e.Tag c then ieq e.Page d else false];unfold zhe zgh zz2;cases a.find? (λe:Entry=>bif ieq e.Tag c then ieq e.Page d else false)<;>rfl
def zFy:vR 345 zmx:=hF3 zgn zn zx zd5 zNX zMS
def zAX (N:Nat)(d:lE)(f g:Int):OA:=
 (iter (σ:=(Int×Int×Int×Int×Int×Int×Int×Int×lE×Unit)) N (λh a=>let c:=a.2.2.2.2.2.2.2.2.1;let e:=h (a.1,a.2.1,a.2.2.1,zQ .i64 a.2.2.2.1 1,a.2.2.2.2.1,a.2.2.2.2.2.1,a.2.2.2.2.2.2.1,a.2.2.2.2.2.2.2.1,c,());let b:=ix c a.2.2.2.1 zg8; (cond (ilt a.2.2.2.1 a.2.2.1) (oN (inb a.2.2.2.1<|ln c)<|cond (ieq b.Tag a.1) (cond (ieq b.Page a.2.1) (some [.agg [.i .i64 b.Tag,.i .i64 b.Page,.i .i64 b.Host,.i .i64 b.Rights],aB true]) e) e)<|some [.agg [.i .i64 0,.i .i64 0,.i .i64 0,.i .i64 0],aB false])) (f,g,ln d,0,0,0,0,0,d,()))
def zNS:=zq [(376,0,{n:=29,tm:=[(1,ti),(2,ti),(6,.lp 0 0),(10,.sl 0 []),(11,ti),(12,ti)],lo:=[(0,[ti,ti,ti,ti])],ro:=[(0,.entry,false)]})]
def zMG (a:List Entry)(c d:Int)(j:zbS big [aS .entry a,aI c,aI d])(l:zir a c d=true):∃N,zAX N a c d=some [aT .entry<|zhe a c d,aB<|zgh a c d]:=by
 have h:=len0 j;refine zcw λN g=>?_;unfold zAX oN;conv=>zeta
 refine(zbp a (λi (t:Unit)=>(c,d,ln a,(i:Int),0,0,0,0,a,())) _ (λ_ (x:Entry) (_:Unit) k=>bif (cond (ieq x.Tag c) (ieq x.Page d) false) then (some [AV.agg<|Ty.cells .entry x,AV.one<|.b true]) else k ()) (λ(t:Unit)=>some [.agg [.i .i64 0,.i .i64 0,.i .i64 0,.i .i64 0],.one<|.b false]) (λi f t rec=>?_) (λt rec=>?_) _ ()<|g h).trans ?_;{simp only [zbF f,zbk f,zbt f,zbh f h,cT];cases ieq a[i].Tag c<;>cases ieq a[i].Page d<;>rfl};{simp only [zbx,cF]};rw[zIs λe:Entry=>bif ieq e.Tag c then ieq e.Page d else false];unfold zhe zgh zz2;cases a.find? (λe:Entry=>bif ieq e.Tag c then ieq e.Page d else false)<;>rfl
def zFm:vR 376 zmx:=hF3 zgn zn zx zd5 zNS zMG
def ztm (t p:Int)(e:Entry):Bool:=bif ine e.Tag t then true else ine e.Page p
def zdh (b:List Entry)(t p:Int):List Entry:=b.filter (ztm t p)
def zz3 (b:List Entry)(t p:Int):(zdh b t p).length<=b.length:=uD _ _
@[simp] abbrev zeb (b:List Entry)(t p:Int):Bool:=pc (b.length<=1048576)
@[simp] abbrev zfy (b:List Entry)(t p:Int):List Entry:=zdh b t p
def zmz:Run:=rF3 (dS .entry) dI dI λb c d=>(zeb b c d,[aS .entry<|zfy b c d])
def zBc (N:Nat)(h:lE)(i j:Int):OA:=
 (iter (σ:=(Int×Int×Int×lE×lE×Unit)) N (λf a=>let b:=a.2.2.2.1;let c:=inb a.2.2.1<|ln b;let d:=ix b a.2.2.1 zg8;let e:=ap a.2.2.2.2.1 [d];let g:=f (a.1,a.2.1,zQ .i64 a.2.2.1 1,b,e,()); (cond (ilt a.2.2.1<|ln b) (oN c<|cond (ine d.Tag a.1) (oN c<|oN (few<|ln e) g)<|oN c<|cond (ine d.Page a.2.1) (oN c<|oN (few<|ln e) g)<|f (a.1,a.2.1,zQ .i64 a.2.2.1 1,b,a.2.2.2.2.1,()))<|some [aS .entry a.2.2.2.2.1])) (i,j,0,h,[],()))
def zNZ:=zq [(213,0,{n:=40,tm:=[(0,.sl 0 []),(1,ti),(2,ti),(7,.sl 1 []),(8,ti)],lo:=[],ro:=[(0,.entry,false),(1,.entry,true)]})]
def zMU (a:List Entry)(b c:Int)(h:zeb a b c=true):∃N,zBc N a b c=some [aS .entry<|zfy a b c]:=by
 have j:=zK.1 h;have f:=zcR j;refine zcw λN e=>?_;unfold zBc oN;conv=>zeta
 refine(zbp a (λi (t:lE)=>(b,c,(i:Int),a,t,())) _ (λ_ (x:Entry) (t:List Entry) g=>bif ztm b c x then (cond (few<|ln<|ap t [x]) (g<|ap t [x]) none) else g t) (λ(t:lE)=>some [.one<|.s .entry t]) (λi d t rec=>?_) (λt rec=>?_) _ ([])<|e f.1).trans ?_;{simp only [zbF d,zbk d,zbt d,zbh d f.1,cT];unfold ztm;cases ine a[i].Tag b<;>cases ine a[i].Page c<;>rfl};{simp only [zbx,cF]};exact znx (ztm b c) _ a 0 [] (by simpa using f.2)
def zFA:vR 213 zmz:=kF3 zgn zn zx zd5 zNZ zMU
def zAZ (N:Nat)(e:lE)(h i:Int):OA:=
 (iter (σ:=(Int×Int×Int×Int×lE×lE×Unit)) N (λf a=>let b:=a.2.2.2.2.2.1;let c:=ix b a.2.1 zg8;let d:=ap a.2.2.2.2.1 [c];let g:=f (a.1,zQ .i64 a.2.1 1,a.2.2.1,a.2.2.2.1,d,b,()); (cond (ilt a.2.1 a.1) (oN (inb a.2.1<|ln b)<|cond (ieq c.Tag a.2.2.1) (cond (nB<|ieq c.Page a.2.2.2.1) (oN (few<|ln d) g)<|f (a.1,zQ .i64 a.2.1 1,a.2.2.1,a.2.2.2.1,a.2.2.2.2.1,b,()))<|oN (few<|ln d) g)<|some [aS .entry a.2.2.2.2.1])) (ln e,0,h,i,[],e,()))
def zNU:=zq [(310,0,{n:=25,tm:=[(1,.fn 311 [0,1]),(5,.sl 0 []),(9,.sl 1 []),(10,ti),(11,ti)],lo:=[(0,[ti]),(1,[ti])],ro:=[(0,.entry,true),(1,.entry,false)]})]
def zMI (a:List Entry)(b c:Int)(h:zeb a b c=true):∃N,zAZ N a b c=some [aS .entry<|zfy a b c]:=by
 have j:=zK.1 h;have f:=zcR j;refine zcw λN e=>?_;unfold zAZ oN nB;conv=>zeta
 refine(zbp a (λi (t:lE)=>(ln a,(i:Int),b,c,t,a,())) _ (λ_ (x:Entry) (t:List Entry) g=>bif ztm b c x then (cond (few<|ln<|ap t [x]) (g<|ap t [x]) none) else g t) (λ(t:lE)=>some [.one<|.s .entry t]) (λi d t rec=>?_) (λt rec=>?_) _ ([])<|e f.1).trans ?_;{simp only [zbF d,zbk d,zbt d,zbh d f.1,cT];unfold ztm;simp only[zi1];cases ieq a[i].Tag b<;>cases ieq a[i].Page c<;>rfl};{simp only [zbx,cF]};exact znx (ztm b c) _ a 0 [] (by simpa using f.2)
def zFo:vR 169 zmz:=kF3 zgn zn zx zd5 zNU zMI
def z9q:zbb:=[(342,zoZ),(290,zoZ),(214,zsw),(170,zsw),(135,zSh),(132,zSe),(346,zuF),(377,zuF),(345,zmx),(376,zmx),(213,zmz),(169,zmz)]++z3W
def zvo:zU z9q:=zi zL6 (zi zLM<|zi zST<|zi zSH<|zi zYL<|zi zYH<|zi zVK<|zi zVF<|zi zFy<|zi zFm<|zi zFA<|zi zFo zgn)
def zqf (b:List Entry)(e:Entry):List Entry:=bif igt (ln<|ap (zdh b e.Tag e.Page) [e]) 6 then dp (ap (zdh b e.Tag e.Page) [e]) (wsub .i64 (ln<|ap (zdh b e.Tag e.Page) [e]) 6) else ap (zdh b e.Tag e.Page) [e]
def zvU {b:List Entry}(e:Entry)(h:b.length<=1048576):(zqf b e).length<=1048576/\(ap (zdh b e.Tag e.Page) [e]).length<=1048577:=by have d:=zz3 b e.Tag e.Page;have c:(ap (zdh b e.Tag e.Page) [e]).length<=1048577:=(by simp[ap];omega);refine⟨?_,c⟩;unfold zqf;cases a:igt (ln<|ap (zdh b e.Tag e.Page) [e]) 6;{have a:=qW a;simp only[ln]at a;simp only[cF];omega};{simp only [cT,dp,vO];have a:=qD a;have:wsub .i64 (ln<|ap (zdh b e.Tag e.Page) [e]) 6=ln (ap (zdh b e.Tag e.Page) [e])-6:=zr6 (by simp only[ln] at *;omega) (by simp only[ln] at *;omega);rw[this];simp only[ln] at *;omega}
@[simp] abbrev zh6 (b:List Entry)(e:Entry):Bool:=pc (b.length<=1048576)
@[simp] abbrev zhK (b:List Entry)(e:Entry):List Entry:=zqf b e
def zkU:Run:=rF2 (dS .entry) (dT .entry) λb c=>(zh6 b c,[aS .entry<|zhK b c])
def zCT (N:Nat)(d:lE)(b:Entry):OA:=
 let a:=ap (zfy d b.Tag b.Page) [b];let c:=wsub .i64 (ln a) 6; (oN (zeb d b.Tag b.Page)<|oN (few<|ln a)<|cond (igt (ln a) 6) (oN (inr c (ln a)<|ln a)<|oN (few<|ln<|ap []<|dp a c)<|some [aS .entry<|ap []<|dp a c])<|some [aS .entry a])
def zQa (b:List Entry)(a:Entry)(h:zh6 b a=true):∃N,zCT N b a=some [aS .entry<|zhK b a]:=by
 have f:=zK.1 h;obtain⟨c,g⟩:=zvU a f;refine⟨0,?_⟩;unfold zCT oN;conv=>zeta
 refine must (zbs f) (must (zhW<|qS g (by decide:1048577<=2147483648)) ?_);unfold zhK zqf at *;show _=some [AV.one<|.s .entry<|cond (igt (ln<|ap (zdh b a.Tag a.Page) [a]) 6) (dp (ap (zdh b a.Tag a.Page) [a])<|wsub .i64 (ln<|ap (zdh b a.Tag a.Page) [a]) 6)<|ap (zdh b a.Tag a.Page) [a]];cases d:igt (ln<|ap (zdh b a.Tag a.Page) [a]) 6;{rfl};{rw [d]at c;simp only[cT]at c;have d:=qD d;have e:wsub .i64 (ln<|ap (zdh b a.Tag a.Page) [a]) 6=ln (ap (zdh b a.Tag a.Page) [a])-6:=zr6 (by simp only[ln] at *;omega) (by simp only[ln] at *;omega);refine must rfl (must (qK ?_)<|must ?_ ?_);{show 0<=wsub .i64 (ln<|ap (zdh b a.Tag a.Page) [a]) 6/\wsub .i64 (ln<|ap (zdh b a.Tag a.Page) [a]) 6<=ln (ap (zdh b a.Tag a.Page) [a])/\ln (ap (zdh b a.Tag a.Page) [a])<=ln (ap (zdh b a.Tag a.Page) [a]);rw[e];simp only[ln] at *;omega};{exact zpz c};{rw [zoo];rfl}}
def zvA:vR 261 zkU:=kF2 zvo zn zx zd5 (zq []) zQa
def zCw (N:Nat)(c:lE)(a:Entry):OA:=
 let b:=ap (zfy c a.Tag a.Page) [a];let d:=imax 0<|wsub .i64 (ln b) 6; (oN (zeb c a.Tag a.Page)<|oN (few<|ln b)<|oN (inr d (ln b)<|ln b)<|some [aS .entry<|dp b d])
def zPQ (b:List Entry)(a:Entry)(h:zh6 b a=true):∃N,zCw N b a=some [aS .entry<|zhK b a]:=by
 have g:=zK.1 h;obtain⟨_,f⟩:=zvU a g;refine⟨0,?_⟩;unfold zCw zhK zqf oN;conv=>zeta
 simp only[zfy];generalize ap (zdh b a.Tag a.Page) [a]=l at f ⊢;refine must (zbs g) (must (zhW<|qS f (by decide:1048577<=2147483648)) ?_);have e:wsub .i64 (ln l) 6=ln l-6:=zr6 (by simp only[ln] at *;omega) (by simp only[ln] at *;omega);rw[e];cases c:igt (ln l) 6;{have c:=qW c;have d:imax 0 (ln l-6)=0:=(by unfold imax;rw[if_neg (by omega)]);rw[d];exact must (qK (by simp only[ln];omega)) (by simp[dp])};{have c:=qD c;have d:imax 0 (ln l-6)=ln l-6:=(by unfold imax;rw[if_pos (by omega)]);rw[d];exact must (qK (by simp only[ln] at *;omega)) rfl}
def zIG:vR 378 zkU:=kF2 zvo zn zx zd5 (zq []) zPQ
def zp1 (l:List Slot)(p:Int):Option Nat:=l.findIdx? λs=>ieq s.Page p
def zjX (p:Int):List Mon->Nat->Int×Int
 |[],_=>(-1,-1)
 |m::l,i=>match zp1 m.Outer p with|some k=>((i:Int),(k:Int))|none=>zjX p l (i+1)
def zbY (h:Host)(p:Int):Int×Int:=bif ilt p 0 then (-1,-1) else zjX p h.Mons 0
def zRU {a:Type}(p:Slot->Bool)(r:Nat->Option a)(K:Unit->Option a):∀(l:List Slot) (i:Nat),goL (λj x (_:Unit) k=>bif p x then r j else k ()) K l i ()=match l.findIdx? p with|some k=>r (i+k)|none=>K ()
 |[],_=>rfl
 |x::l,i=>by simp only[goL];rw[List.findIdx?_cons];cases h:p x;{simp only [cF,kE,if_false];rw[zRU p r K l<|i+1];cases l.findIdx? p with|none=>rfl|some k=>simp only[Option.map_some];congr 1;omega};{rfl}
def zOn {c:Type}(p:Int)(r:Int->Int->Option c):∀(l:List Mon) (i:Nat),goL (λi (x:Mon) (_:Unit) b=>goL (λj (y:Slot) (_:Unit) a=>bif ieq y.Page p then r (i:Int) (j:Int) else a ()) (λ_=>b ()) x.Outer 0 ()) (λ_=>r (-1) (-1)) l i ()=r (zjX p l i).1 (zjX p l i).2
 |[],_=>rfl
 |m::l,i=>by simp only[goL,zjX];rw[zRU (λs=>ieq s.Page p) λj=>r (i:Int) (j:Int)];unfold zp1;cases m.Outer.findIdx? (λs=>ieq s.Page p) with|none=>exact zOn p r l (i+1)|some k=>simp only[j5]
@[simp] abbrev zgR (h:Host)(p:Int):Bool:=true
@[simp] abbrev zee (h:Host)(p:Int):Int:=(zbY h p).1
@[simp] abbrev zfi (h:Host)(p:Int):Int:=(zbY h p).2
def zkA:Run:=rF2 dH dI λb c=>(zgR b c,[aI<|zee b c,aI<|zfi b c])
def zwj (N:Nat)(f:Host)(g:Int):OA:=
 (cond (ilt g 0) (some [aI<|-1,aI<|-1])<|iter (σ:=(Int×Int×Int×lN×Unit)) N (λi b=>let c:=b.2.2.1; (cond (ilt c b.2.1) (oN (inb c<|ln b.2.2.2.1)<|iter (σ:=(Int×Int×Int×Int×Int×Int×Int×lN×Unit)) N (λj a=>let e:=a.2.2.2.2.2.2.2.1;let h:=(ix e a.2.2.2.2.1 zh).Outer;let d:=a.2.2.2.2.2.2.1; (cond (ilt d a.2.2.2.2.2.1) (oN (inb d<|ln h)<|cond (ieq (ix h d zV).Page a.1) (some [aI a.2.1,aI d])<|j (a.1,a.2.1,a.2.2.1,a.2.2.2.1,a.2.2.2.2.1,a.2.2.2.2.2.1,zQ .i64 d 1,e,()))<|i (a.1,a.2.2.1,zQ .i64 a.2.2.2.1 1,e,()))) (b.1,c,b.2.1,c,c,ln (ix b.2.2.2.1 c zh).Outer,0,b.2.2.2.1,()))<|some [aI<|-1,aI<|-1])) (g,ln f.Mons,0,f.Mons,()))
def zGe:=zq [(383,0,{n:=36,tm:=[(1,ti),(13,.sl 0 []),(14,ti),(15,ti)],lo:=[],ro:=[(0,.mon,false)]}),(383,2,{n:=36,tm:=[(1,ti),(6,ti),(13,.sl 0 []),(14,ti),(15,ti),(21,.sl 0 [0]),(22,ti),(23,ti)],lo:=[],ro:=[(0,.mon,false)]})]
def zFT (a:Host)(c:Int)(m:zbS big [aH a,aI c])(q:zgR a c=true):∃N,zwj N a c=some [aI<|zee a c,aI<|zfi a c]:=by
 have k:CVB big (.s .mon a.Mons):=(zd1 m).1 _ (by simp[AV.cvs,zbi]);have h:=k.len;refine zcw λN e=>?_;unfold zwj zee zfi zbY oN;conv=>zeta
 cases p:ilt c 0;{simp only [cF];refine(zbp a.Mons (λi (t:Unit)=>(c,ln a.Mons,(i:Int),a.Mons,())) _ (λi (x:Mon) (_:Unit) n=>goL (λj (y:Slot) (_:Unit) b=>bif ieq y.Page c then some [AV.one<|.i .i64 (i:Int),AV.one<|.i .i64 (j:Int)] else b ()) (λ_=>n ()) x.Outer 0 ()) (λ(t:Unit)=>some [.one<|.i .i64<|-1,.one<|.i .i64<|-1]) (λi d t rec=>?_) (λt rec=>?_) _ ()<|e h).trans ?_;{simp only [zbF d,zbk d,zbt d,zbh d h,cT];have l:a.Mons[i].Outer.length<=big:=(k.inv.2 _ (jJ d) (.s .slot _) (by simp[Ty.cells])).len;refine(zbp a.Mons[i].Outer (λj (u:Unit)=>(c,(i:Int),ln a.Mons,(i:Int),(i:Int),ln a.Mons[i].Outer,(j:Int),a.Mons,())) _ (λj (y:Slot) (_:Unit) b=>bif ieq y.Page c then some [AV.one<|.i .i64 (i:Int),AV.one<|.i .i64 (j:Int)] else b ()) (λ(u:Unit)=>rec (c,ln a.Mons,((i+1:Nat):Int),a.Mons,())) (λj g u f=>?_) (λu f=>?_) _ ()<|e l).trans ?_;{simp only [zbF g,zbk g,zbt g,zbh g l,cT,zbk d,zbt d,zbh d h]};{simp only [zbx,cF,zbk d,zbt d,zbh d h]};rfl};{simp only [zbx,cF]};exact zOn c (λi j=>some [AV.one<|.i .i64 i,AV.one<|.i .i64 j]) a.Mons 0};{rfl}
def zB6:vR 383 zkA:=hF2 zvo zn zx zd5 zGe zFT
def z4n {a c b:Type}(r:Option b):∀(l:List a) (i:Nat) (t:c),goL (λ_ _ _ _=>r) (λ_=>r) l i t=r
 |[],_,_=>rfl
 |_::_,_,_=>rfl
def zwv (N:Nat)(d:Host)(f:Int):OA:=
 (iter (σ:=(Int×Int×lM×lN×lE×lE×Unit)) N (λg b=>cond (ilt b.2.1<|ln b.2.2.2.1) (cond (ige b.1 0) (iter (σ:=(Int×Int×Int×lM×lN×lE×lE×Unit)) N (λh a=>let c:=a.2.2.2.2.1;let e:=(ix c a.2.1 zh).Outer; (oN (inb a.2.1<|ln c)<|cond (ilt a.2.2.1<|ln e) (oN (inb a.2.1<|ln c)<|oN (inb a.2.2.1<|ln e)<|cond (ieq (ix e a.2.2.1 zV).Page a.1) (some [aI a.2.1,aI a.2.2.1])<|h (a.1,a.2.1,zQ .i64 a.2.2.1 1,a.2.2.2.1,c,a.2.2.2.2.2.1,a.2.2.2.2.2.2.1,()))<|g (a.1,zQ .i64 a.2.1 1,a.2.2.2.1,c,a.2.2.2.2.2.1,a.2.2.2.2.2.2.1,()))) (b.1,b.2.1,0,b.2.2.1,b.2.2.2.1,b.2.2.2.2.1,b.2.2.2.2.2.1,()))<|some [aI<|-1,aI<|-1])<|some [aI<|-1,aI<|-1]) (f,0,d.Memory,d.Mons,d.Buffer,d.IoBuffer,()))
def zGg:=zq [(389,0,{n:=44,tm:=[(1,ti),(2,.lp 0 0),(6,ti)],lo:=[(0,[.sl 0 [],.sl 1 [],.sl 2 [],.sl 3 []])],ro:=[(0,.sl .int,false),(1,.mon,false),(2,.entry,false),(3,.entry,false)]}),(389,2,{n:=44,tm:=[(1,ti),(2,.lp 0 0),(6,ti),(7,ti)],lo:=[(0,[.sl 0 [],.sl 1 [],.sl 2 [],.sl 3 []])],ro:=[(0,.sl .int,false),(1,.mon,false),(2,.entry,false),(3,.entry,false)]})]
def zF4 (a:Host)(b:Int)(p:zbS big [aH a,aI b])(r:zgR a b=true):∃N,zwv N a b=some [aI<|zee a b,aI<|zfi a b]:=by
 have m:CVB big (.s .mon a.Mons):=(zd1 p).1 _ (by simp[AV.cvs,zbi]);have l:=m.len;refine zcw λN e=>?_;unfold zwv zee zfi zbY oN;conv=>zeta
 refine(zbp a.Mons (λi (t:Unit)=>(b,(i:Int),a.Memory,a.Mons,a.Buffer,a.IoBuffer,())) _ (λi (x:Mon) (_:Unit) q=>bif ige b 0 then goL (λj (y:Slot) (_:Unit) c=>bif ieq y.Page b then some [AV.one<|.i .i64 (i:Int),AV.one<|.i .i64 (j:Int)] else c ()) (λ_=>q ()) x.Outer 0 () else some [AV.one<|.i .i64<|-1,AV.one<|.i .i64<|-1]) (λ(t:Unit)=>some [.one<|.i .i64<|-1,.one<|.i .i64<|-1]) (λi d t rec=>?_) (λt rec=>?_) _ ()<|e l).trans ?_;{simp only [zbF d,zbk d,zbt d,zbh d l,cT];cases h:ige b 0;{rfl};have n:a.Mons[i].Outer.length<=big:=(m.inv.2 _ (jJ d) (.s .slot _) (by simp[Ty.cells])).len;simp only[cT];refine(zbp a.Mons[i].Outer (λj (_:Unit)=>(b,(i:Int),(j:Int),a.Memory,a.Mons,a.Buffer,a.IoBuffer,())) _ (λj (y:Slot) (_:Unit) c=>bif ieq y.Page b then some [AV.one<|.i .i64 (i:Int),AV.one<|.i .i64 (j:Int)] else c ()) (λ_=>rec (b,((i+1:Nat):Int),a.Memory,a.Mons,a.Buffer,a.IoBuffer,())) (λj g u f=>?_) (λu f=>?_) _ ()<|e n).trans ?_;{simp only [zbF g,zbk g,zbt g,zbh g n,cT,zbk d,zbt d]};{simp only [zbx,cF,cT,zbk d,zbt d,zbh d l]};rfl};{simp only [zbx,cF]};cases h:ige b 0;{have k:ilt b 0=true:=(by have:=qW h;exact qK (by omega));rw[k];exact z4n _ _ _ _};{have k:ilt b 0=false:=(by have:=qD h;exact qH (by omega));rw[k];exact zOn b (λi j=>some [AV.one<|.i .i64 i,AV.one<|.i .i64 j]) a.Mons 0}
def zCh:vR 389 zkA:=hF2 zvo zn zx zd5 zGg zF4
def z9r:zbb:=[(261,zkU),(378,zkU),(389,zkA),(383,zkA)]++z9q
def zvp:zU z9r:=zi zvA (zi zIG<|zi zCh<|zi zB6 zvo)
def zcU (h:Host):LI:=zxU (λi=>ilt (zbY h (i:Int)).1 0) h.Memory.length 0
@[simp] abbrev zgY (h:Host):Bool:=pc (h.Memory.length<=1048576)
@[simp] abbrev zdw (h:Host):LI:=zcU h
def zqr:Run:=rF1 dH λb=>(zgY b,[aS .int<|zdw b])
def zKC (N:Nat)(b:Host):OA:=
 (iter (σ:=(Int×LI×lM×lN×lE×lE×Unit)) N (λc a=>let d:=(⟨a.2.2.1,a.2.2.2.1,a.2.2.2.2.1,a.2.2.2.2.2.1⟩:Host); (cond (ilt a.1<|ln a.2.2.1) (oN (zgR d a.1)<|cond (ilt (zee d a.1) 0) (oN (few<|ln<|ap a.2.1 [a.1])<|c (zQ .i64 a.1 1,ap a.2.1 [a.1],a.2.2.1,a.2.2.2.1,a.2.2.2.2.1,a.2.2.2.2.2.1,()))<|c (zQ .i64 a.1 1,a.2.1,a.2.2.1,a.2.2.2.1,a.2.2.2.2.1,a.2.2.2.2.2.1,()))<|some [aS .int a.2.1])) (0,[],b.Memory,b.Mons,b.Buffer,b.IoBuffer,()))
def zX1:=zq [(388,0,{n:=28,tm:=[(1,.lp 0 0),(3,.sl 0 []),(4,ti)],lo:=[(0,[.sl 1 [],.sl 2 [],.sl 3 [],.sl 4 []])],ro:=[(0,.int,true),(1,.sl .int,false),(2,.mon,false),(3,.entry,false),(4,.entry,false)]})]
def zWk (a:Host)(f:zgY a=true):∃N,zKC N a=some [aS .int<|zdw a]:=by
 have g:=zK.1 f;have e:=zcR g;refine zcw λN d=>?_;unfold zKC oN;conv=>zeta
 refine(zbp a.Memory (λi (t:LI)=>((i:Int),t,a.Memory,a.Mons,a.Buffer,a.IoBuffer,())) _ (λi (_:LI) (t:LI) b=>bif ilt (zbY a (i:Int)).1 0 then (cond (few<|ln<|ap t [(i:Int)]) (b<|ap t [(i:Int)]) none) else b t) (λ(t:LI)=>some [.one<|.s .int t]) (λi c t rec=>?_) (λt rec=>?_) _ ([])<|d e.1).trans ?_;{simp only [zbF c,zbk c,zbt c,zbh c e.1,cT]};{simp only [zbx,cF]};rw[zyF λi (t:LI) b=>bif ilt (zbY a (i:Int)).1 0 then (cond (few<|ln<|ap t [(i:Int)]) (b<|ap t [(i:Int)]) none) else b t];exact zAa (λi=>ilt (zbY a (i:Int)).1 0) _ _ 0 [] (by simpa using e.2)
def zO4:vR 388 zqr:=kF1 zvp zn zx zd5 zX1 zWk
def zKf (N:Nat)(b:Host):OA:=
 (iter (σ:=(Int×Int×LI×lM×lN×lE×lE×Unit)) N (λd a=>let c:=a.2.2.2.2.2.2.1;let e:=(⟨a.2.2.2.1,a.2.2.2.2.1,a.2.2.2.2.2.1,c⟩:Host); (cond (ilt a.2.1 a.1) (oN (zgR e a.2.1)<|cond (ilt (zee e a.2.1) 0) (oN (few<|ln<|ap a.2.2.1 [a.2.1])<|d (a.1,zQ .i64 a.2.1 1,ap a.2.2.1 [a.2.1],a.2.2.2.1,a.2.2.2.2.1,a.2.2.2.2.2.1,c,()))<|d (a.1,zQ .i64 a.2.1 1,a.2.2.1,a.2.2.2.1,a.2.2.2.2.1,a.2.2.2.2.2.1,c,()))<|some [aS .int a.2.2.1])) (ln b.Memory,0,[],b.Memory,b.Mons,b.Buffer,b.IoBuffer,()))
def zXT:=zq [(322,0,{n:=28,tm:=[(1,.lp 0 0),(3,.sl 0 []),(10,ti),(11,ti)],lo:=[(0,[.sl 1 [],.sl 2 [],.sl 3 [],.sl 4 []])],ro:=[(0,.int,true),(1,.sl .int,false),(2,.mon,false),(3,.entry,false),(4,.entry,false)]})]
def zVZ (a:Host)(f:zgY a=true):∃N,zKf N a=some [aS .int<|zdw a]:=by
 have g:=zK.1 f;have e:=zcR g;refine zcw λN d=>?_;unfold zKf oN;conv=>zeta
 refine(zbp a.Memory (λi (t:LI)=>(ln a.Memory,(i:Int),t,a.Memory,a.Mons,a.Buffer,a.IoBuffer,())) _ (λi (_:LI) (t:LI) b=>bif ilt (zbY a (i:Int)).1 0 then (cond (few<|ln<|ap t [(i:Int)]) (b<|ap t [(i:Int)]) none) else b t) (λ(t:LI)=>some [.one<|.s .int t]) (λi c t rec=>?_) (λt rec=>?_) _ ([])<|d e.1).trans ?_;{simp only [zbF c,zbk c,zbt c,zbh c e.1,cT]};{simp only [zbx,cF]};rw[zyF λi (t:LI) b=>bif ilt (zbY a (i:Int)).1 0 then (cond (few<|ln<|ap t [(i:Int)]) (b<|ap t [(i:Int)]) none) else b t];exact zAa (λi=>ilt (zbY a (i:Int)).1 0) _ _ 0 [] (by simpa using e.2)
def zOB:vR 322 zqr:=kF1 zvp zn zx zd5 zXT zVZ
def zkw (m:List LI)(p:Int)(c:LI):List LI:=bif hasB p (ln m) then (cond (zc2 c) (up m p c) m) else m
@[simp] abbrev zgZ (m:List LI)(p:Int)(c:LI):Bool:=pc (SmM m/\c.length<=1048576)
@[simp] abbrev zfN (m:List LI)(p:Int)(c:LI):List LI:=zkw m p c
def znX:Run:=rF3 (dS<|.sl .int) dI (dS .int) λb c d=>(zgZ b c d,[aS (.sl .int)<|zfN b c d])
def zC0 (N:Nat)(a:lM)(b:Int)(c:LI):OA:=
 (oN (zhO a)<|oN (zM b 0<|wsub .i64 (ln a) 1)<|cond (zk b 0<|wsub .i64 (ln a) 1) (oN (zej c)<|cond (zdL c) (oN (few<|ln<|ap [] c)<|oN (inb b<|ln<|zf0 a)<|share (up (zf0 a) b<|ap [] c) λd=>some [aS (.sl .int) d])<|some [aS (.sl .int)<|zf0 a])<|some [aS (.sl .int)<|zf0 a])
def zQh (b:List LI)(a:Int)(c:LI)(g:zgZ b a c=true):∃N,zC0 N b a c=some [aS (.sl .int)<|zfN b a c]:=by obtain⟨e,d⟩:=zK.1 g;refine⟨0,?_⟩;unfold zC0 zfN zkw oN;refine must (zbs<|(zrE _).2 e) (must rfl ?_);rw[show zk a 0 (wsub .i64 (ln b) 1)=hasB a (ln b) from zr5 e.1 a];cases f:hasB a (ln b);{rfl};{simp only [cT,zej,zdL];cases h:zc2 c;{rfl};{refine must rfl (must (zpz d)<|must (zC f) ?_);rw[zoo];rfl}}
def zJa:vR 390 znX:=kF3 zvp zn zx zd5 (zq []) zQh
def zCz (N:Nat)(a:lM)(b:Int)(c:LI):OA:=
 (oN (zhC a)<|oN (zbm b<|ln a)<|cond (zcj b<|ln a) (oN (zej c)<|cond (zdL c) (oN (zeJ c)<|oN (inb b<|ln<|zeC a)<|share (up (zeC a) b<|zeG c) λd=>some [aS (.sl .int) d])<|some [aS (.sl .int)<|zeC a])<|some [aS (.sl .int)<|zeC a])
def zPT (a:List LI)(b:Int)(c:LI)(f:zgZ a b c=true):∃N,zCz N a b c=some [aS (.sl .int)<|zfN a b c]:=by obtain⟨g,d⟩:=zK.1 f;refine⟨0,?_⟩;unfold zCz zfN zkw oN;refine must (zbs g) (must rfl ?_);rw[show zcj b (ln a)=hasB b (ln a) from rfl];cases e:hasB b (ln a);{rfl};{simp only [cT,zej,zdL];cases h:zc2 c;{rfl};{refine must rfl (must (zbs<|qS d (by decide)) (must (zC e) rfl))}}
def zIL:vR 324 znX:=kF3 zvp zn zx zd5 (zq []) zPT
def zsg:zbb:=[(388,zqr),(322,zqr),(390,znX),(324,znX)]++z9r
def zi5:zU zsg:=zi zO4 (zi zOB<|zi zJa<|zi zIL zvp)
abbrev mZ:Mon:=Ty.dflt .mon
abbrev sZ:Slot:=Ty.dflt .slot
def ShM (x:Mon):Prop:=x.Outer.length=8/\x.Out.length=8/\x.Dirty.length=8/\x.Tables.length=x.Guests.length
def Shape (h:Host):Prop:=SmH h/\∀x∈h.Mons,ShM x
def zkt {h:Host}{m:Int}{x:Mon}(a:Shape h)(c:zfC x)(d:ShM x):Shape {h with Mons:=up h.Mons m x}:=by refine⟨⟨a.1.1,zj9 a.1.2.1 c,a.1.2.2⟩,λy b=>?_⟩;rcases qZ b with b|rfl;{exact a.2 y b};{exact d}
def zc4 {h:Host}(b:Shape h){m:Int}(a:hasB m (ln h.Mons)=true):zfC (ix h.Mons m mZ)/\ShM (ix h.Mons m mZ):=⟨b.1.2.1.2 _<|zbM a _,b.2 _<|zbM a _⟩
def zSl {h:Host}{b:List LI}(a:Shape h)(c:SmM b):Shape {h with Memory:=b}:=⟨⟨c,a.1.2⟩,a.2⟩
def zt6 {h:Host}{m p:Int}{s:Slot}(e:hasB m (ln h.Mons)=true)(b:Shape h):Shape (zcJ h m p s):=by refine⟨zHN e b.1,?_⟩;obtain⟨_,a⟩:=zc4 b e;have d:∀y∈up h.Mons m {zjD (ix h.Mons m mZ) p (ix h.Mons m mZ).Tables.length with Outer:=up (ix h.Mons m mZ).Outer p s},ShM y:=(by intro y c;rcases qZ c with c|rfl;{exact b.2 y c};{exact⟨by simpa using a.1,a.2.1,a.2.2.1,by simpa [zjD,zpv] using a.2.2.2⟩});unfold zcJ;cases ine (ix (ix h.Mons m mZ).Outer p sZ).Page (-1)<;>exact d
def zhZ (h:Host)(m p:Int)(s:Slot):(zcJ h m p s).Mons=up h.Mons m {zjD (ix h.Mons m mZ) p (ix h.Mons m mZ).Tables.length with Outer:=up (ix h.Mons m mZ).Outer p s}/\(zcJ h m p s).Memory=h.Memory:=by unfold zcJ;cases ine (ix (ix h.Mons m mZ).Outer p sZ).Page (-1)<;>exact⟨rfl,rfl⟩
def zfQ {h:Host}{m k:Int}{x:Mon}(a:hasB m (ln h.Mons)=true):hasB m (ln<|up h.Mons k x)=true:=by simpa [ln] using a
def zHl {h:Host}{m k p:Int}{s:Slot}(a:hasB m (ln h.Mons)=true):hasB m (ln (zcJ h k p s).Mons)=true:=by rw[(zhZ h k p s).1];exact zfQ a
def zex {b:Type}{l:List b}{p:Int}(h:l.length=8)(a:hasB p 8=true):hasB p (ln l)=true:=by rw[ln,h];exact a
def zAh (h:Host)(m p:Int)(s:Slot):Host :=
 bif ine s.Page (-1) then ⟨h.Memory,up h.Mons m<|zjD (ix h.Mons m mZ) p (ix h.Mons m mZ).Guests.length,flushed h.Buffer s.Page,flushed h.IoBuffer s.Page⟩
 else ⟨h.Memory,up h.Mons m<|zjD (ix h.Mons m mZ) p (ix h.Mons m mZ).Guests.length,h.Buffer,h.IoBuffer⟩
def zAJ {h:Host}{k:Nat}{p:Int}{s:Slot}(a:k<h.Mons.length)(b:(ix h.Mons (k:Int) mZ).Tables.length=(ix h.Mons (k:Int) mZ).Guests.length) :
 zAh {h with Mons:=up h.Mons (k:Int) {ix h.Mons (k:Int) mZ with Outer:=up (ix h.Mons (k:Int) mZ).Outer p s}} (k:Int) p (ix (ix h.Mons (k:Int) mZ).Outer p sZ)=zcJ h (k:Int) p s:=by
 unfold zcJ zAh;simp only[zd8 a,zrn,zjD,b]
def z1L {a:Type}(m p:Int)(i:Nat)(t:List Mon)(b:List Mon->Option a):Option a :=
 (cond (inb (i:Int)<|ln (ix t m mZ).Tables) (cond (inb (i:Int)<|ln (ix t m mZ).Guests) (cond (pc<|SmK (ix (ix t m mZ).Tables (i:Int) zeO)/\(ix (ix t m mZ).Guests (i:Int) zA).Live.length<=1048576) (cond (inb (i:Int)<|ln (ix t m mZ).Tables) (b<|up t m ({ (ix t m mZ) with Tables:=(up (ix t m mZ).Tables (i:Int)<|zlq (ix (ix t m mZ).Tables (i:Int) zeO) (ix (ix t m mZ).Guests (i:Int) zA).Live p)}:Mon)) none) none) none) none)
def z0d {j:Type}{mons:List Mon}{k:Nat}(d:k<mons.length)(p:Int)(c:zfC (ix mons (k:Int) mZ))(f:(ix mons (k:Int) mZ).Tables.length=(ix mons (k:Int) mZ).Guests.length)(K:List Mon->Option j) :
 ∀(n i:Nat),i+n=(ix mons (k:Int) mZ).Guests.length->goN (λi t g=>z1L (k:Int) p i t g) K n i (up mons (k:Int)<|zjD (ix mons (k:Int) mZ) p i)=K (up mons (k:Int)<|zjD (ix mons (k:Int) mZ) p (ix mons (k:Int) mZ).Guests.length)
 | 0,i,h=>by have:i=(ix mons (k:Int) mZ).Guests.length:=(by omega);subst this;rfl
 |n+1,i,h=>by
  have b:i<(ix mons (k:Int) mZ).Guests.length:=(by omega);have a:i<(zlT (ix mons (k:Int) mZ).Guests p i (ix mons (k:Int) mZ).Tables).length:=by rw[zpv];omega
  have e:pc (SmK (ix (zlT (ix mons (k:Int) mZ).Guests p i (ix mons (k:Int) mZ).Tables) (i:Int) zeO)/\(ix (ix mons (k:Int) mZ).Guests (i:Int) zA).Live.length<=1048576)=true :=
   zbs ⟨by rw[zbt a];exact(zty _ _ _ _ (by omega) c.2.2.2.2.2).2 _ (jJ a),by rw[zbt b];exact(c.2.2.2.1.2 _<|jJ b).2.2.1⟩
  simp only[goN,z1L,zd8 d,zrn,zjD,zbk a,zbk b,e,cT];exact z0d d p c f K n (i+1) (by omega)
@[simp] abbrev zfE (h:Host)(m p:Int)(s:Slot):Bool:=pc (Shape h/\hasB m (ln h.Mons)=true)
@[simp] abbrev zfF (h:Host)(m p:Int)(s:Slot):Host:=zAh h m p s
def zoj:LC->LA->Option (Bool×LC×LA)
 |[.s (.sl .int) b,.s .mon c,.s .entry d,.s .entry e],[.one<|.i .i64 f,.one<|.i .i64 g,.agg [.i .i64 h,.i .i64 j]]=>some (zfE (⟨b,c,d,e⟩:Host) f g (⟨h,j⟩:Slot),zbi<|zfF (⟨b,c,d,e⟩:Host) f g (⟨h,j⟩:Slot),[])
 |_,_=>none
def zru (N:Nat)(c:Host)(i n:Int)(k:Slot):OA:=
 (oN (inb i<|ln c.Mons)<|iter (σ:=(Int×Int×Int×Int×Int×Int×lN×lM×lE×lE×Unit)) N (λp a=>let j:=a.2.2.2.2.2.2.2.1;let h:=a.2.2.2.2.2.2.1;let e:=a.2.2.2.2.1;let g:=a.2.2.2.2.2.2.2.2.1;let f:=a.2.2.2.2.2.2.2.2.2.1;let b:=a.2.2.2.1;let d:=ix h a.2.1 zh;let m:=ix d.Tables b zeO;let l:=(ix d.Guests b zA).Live; (cond (ilt b a.2.2.1) (oN (inb b<|ln d.Tables)<|oN (inb b<|ln d.Guests)<|oN (zgr m l a.1)<|oN (inb b<|ln d.Tables)<|share (up h a.2.1 ({d with Tables:=(up d.Tables b<|zkW m l a.1)}:Mon)) λq=>p (a.1,a.2.1,a.2.2.1,zQ .i64 b 1,e,a.2.2.2.2.2.1,q,j,g,f,()))<|cond (ine e<|-1) (oN (zdJ g e)<|oN (zdJ f e)<|some [aH (⟨j,h,zf7 g e,zf7 f e⟩:Host)])<|some [aH (⟨j,h,g,f⟩:Host)])) (n,i,ln (ix c.Mons i zh).Guests,0,k.Page,k.Rights,c.Mons,c.Memory,c.Buffer,c.IoBuffer,()))
def zJ4:=zq [(190,0,{n:=71,tm:=[(0,.lp 0 0),(2,ti),(7,.lp 1 0),(8,.ep 0 [] 0),(20,ti),(21,ti)],lo:=[(0,[.sl 1 [],.sl 0 [],.sl 2 [],.sl 3 []]),(1,[ti,ti])],ro:=[(0,.mon,true),(1,.sl .int,true),(2,.entry,true),(3,.entry,true)]})]
def zM7 (N:Nat)(c:Host)(a b:Int)(d:Slot):zpZ (cQ zsg zp8 zJJ zXP) zJ4 N 12 190 [true,true,true,true] (zbi c) [aI a,aI b,aT .slot d]=zru N c a b d:=by kernel_rfl
def zJv (c:Host)(d b:Int)(a:Slot)(s:zbS big (.agg (zbi c)::[aI d,aI b,aT .slot a]))(r:zfE c d b a=true):∃N,zru N c d b a=some (.agg (zbi<|zfF c d b a)::[]):=by
 obtain⟨h,g⟩:=zK.1 r;obtain⟨l,q⟩:=zc4 h g;have hg:(ix c.Mons d mZ).Guests.length<=big:=(zcR l.2.2.2.1.1).1;refine zcw λN f=>?_;unfold zru oN;conv=>zeta
 refine must (zC g) ?_;refine(zbp ((ix c.Mons d zh).Guests) (λi (t:lN)=>(b,d,ln (ix c.Mons d zh).Guests,(i:Int),a.Page,a.Rights,t,c.Memory,c.Buffer,c.IoBuffer,())) _ (λi (x:Guest) (t:List Mon) j=>z1L d b i t j) (λ(t:lN)=>cond (ine a.Page<|-1) (cond (zdJ c.Buffer a.Page) (cond (zdJ c.IoBuffer a.Page) (some [.agg<|zbi (⟨c.Memory,t,zf7 c.Buffer a.Page,zf7 c.IoBuffer a.Page⟩:Host)]) none) none)<|some [.agg<|zbi (⟨c.Memory,t,c.Buffer,c.IoBuffer⟩:Host)]) (λi e t rec=>?_) (λt rec=>?_) _ (c.Mons)<|f hg).trans ?_;{simp only [zbF e,zbk e,zbt e,zbh e hg,cT];rfl};{simp only [zbx,cF]};obtain⟨k,rfl,m⟩:=zeI (n:=c.Mons.length) g;rw[zyF λi t j=>z1L (k:Int) b i t j];have p:c.Mons=up c.Mons (k:Int) (zjD (ix c.Mons (k:Int) mZ) b 0):=(zFj m _).symm;refine(congrArg _ p).trans ((z0d m b l q.2.2.2 _ _ 0<|j5 _).trans ?_);show (cond (ine a.Page<|-1) _ _)=some [AV.agg<|zbi<|zAh c (k:Int) b a];unfold zAh;cases ine a.Page (-1);{rfl};{exact must rfl (must (zbs h.1.2.2.1) (must (zbs h.1.2.2.2) rfl))}
def zDD:zb7 Tryz.prog 190 [true,true,true,true] zoj:=by refine zi0 (zid zi5 zn zx zd5) (zkz (by kernel_rfl)) ?_;intro g a b j i f h;have d:=zmG f;unfold zoj at h;split at h;{obtain⟨e,rfl,rfl⟩:=zoM h;obtain⟨N,c⟩:=zJv _ _ _ _ (by exact d) e;exact⟨rfl,_,N,12,(zM7 N _ _ _ _ ).trans c⟩};{cases h}
def z2g:zdn:=[(190,[true,true,true,true],zoj)]++zJJ
def zQv:zco z2g:=zcZ zx (by
 intro x a;simp only[qG,qO,or_false]at a;rcases a with rfl
 .exact zDD)
def zgf (h:Host)(m p:Int):Host:={h with Mons:=up h.Mons m {ix h.Mons m mZ with Out:=up (ix h.Mons m mZ).Out p (zc5 h.Memory (ix (ix h.Mons m mZ).Outer p sZ).Page)}}
def zeM (h:Host)(m p:Int):Host:=zcJ (zgf h m p) m p noSlot
def zXE {m:List LI}{p:Int}(h:SmM m):(zc5 m p).length<=1048576:=by unfold zc5;cases a:hasB p (ln m);{exact(by decide:zAU.length<=1048576)};{exact h.2 _ (zbM a _)}
def zx9 {h:Host}{m p:Int}(c:Shape h)(d:hasB m (ln h.Mons)=true):Shape (zgf h m p):=by obtain⟨a,b⟩:=zc4 c d;exact zkt c ⟨a.1,zNI a.2.1<|zXE c.1.1,a.2.2⟩ ⟨b.1,by simpa using b.2.1,b.2.2⟩
def zND {h:Host}{m p:Int}(b:Shape h)(a:hasB m (ln h.Mons)=true):Shape (zeM h m p):=zt6 (zfQ a) (zx9 b a)
@[simp] abbrev zj7 (h:Host)(m p:Int):Bool:=pc (Shape h/\hasB m (ln h.Mons)=true/\hasB p 8=true)
@[simp] abbrev znf (h:Host)(m p:Int):Host:=zeM h m p
def zvY:LW
 |[.agg [.s (.sl .int) b,.s .mon c,.s .entry d,.s .entry e],.one<|.i .i64 f,.one<|.i .i64 g]=>some (zj7 (⟨b,c,d,e⟩:Host) f g,[aH<|znf (⟨b,c,d,e⟩:Host) f g])
 |_=>none
def zzK (N:Nat)(a:Host)(b c:Int):OA:=
 let d:=ix a.Mons b zh;let e:=(ix d.Outer c zV).Page; (oN (inb b<|ln a.Mons)<|oN (inb b<|ln a.Mons)<|oN (inb c<|ln d.Outer)<|oN (zfL a.Memory e)<|oN (inb c<|ln d.Out)<|share (up a.Mons b ({d with Out:=(up d.Out c<|zhx a.Memory e)}:Mon)) (λg=>let f:=({a with Mons:=g}:Host); (oN zbW<|oN (zgK f b c zbl)<|some [aH<|ziS f b c zbl])))
def zZa (N:Nat)(a:Host)(b c:Int):zEY (cQ zsg zp8 z2g zXP) (zq []) N 12 334 [true,true,true,true,false,false] 1 1 [[0],[1],[2],[4],[7]] .mon [aH a,aI b,aI c]=zzK N a b c:=by kernel_rfl
def zWB (b:Host)(d c:Int)(m:zbS big [aH b,aI d,aI c])(j:zj7 b d c=true):∃N,zzK N b d c=some [aH<|znf b d c]:=by
 obtain⟨g,a,f⟩:=zK.1 j;obtain⟨l,e⟩:=zc4 g a;obtain⟨k,rfl,h⟩:=zeI (n:=b.Mons.length) a;have i:=zx9 (p:=c) g a;refine⟨0,?_⟩;unfold zzK oN;conv=>zeta
 refine must (zC a) (must (zC a)<|must (zC<|zex e.1 f)<|must (zbs<|(zrE _).2 g.1.1)<|must (zC<|zex e.2.1 f)<|shr (must rfl (must (zbs ⟨(zS _).2 i.1,zfQ a,?_,?_⟩) rfl)));{simp only [zd8 h];exact zex e.1 f};{simp only [zd8 h];exact k8 e.2.2.2}
def zPw:zfn Tryz.prog 334 [true,true,true,true,false,false] (some (1,1,[[0],[1],[2],[4],[7]])) zvY:=by refine znz (kt:=.mon) (zid zi5 zn zQv zd5) (zkz (by kernel_rfl)) (by kernel_rfl) ?_;intro a g f e h;have c:=zkF e;unfold zvY at h;split at h;{obtain⟨d,rfl⟩:=zfd h;obtain⟨N,b⟩:=zWB _ _ _ (by exact c) d;exact⟨⟨_,rfl⟩,rfl,_,N,12,(zZa N _ _ _ ).trans b⟩};{cases h}
def zxY:LC->LA->Option (Bool×LC×LA)
 |[.s (.sl .int) b,.s .mon c,.s .entry d,.s .entry e],[.one<|.i .i64 f,.one<|.i .i64 g]=>some (zj7 (⟨b,c,d,e⟩:Host) f g,zbi<|znf (⟨b,c,d,e⟩:Host) f g,[])
 |_,_=>none
def zHX (N:Nat)(c:Host)(b a:Int):OA:=
 let d:=ix c.Mons b zh;let e:=ix d.Outer a zV; (oN (inb b<|ln c.Mons)<|oN (inb a<|ln d.Outer)<|oN (zfL c.Memory e.Page)<|oN (inb a<|ln d.Out)<|share (up c.Mons b ({d with Out:=(up d.Out a<|zhx c.Memory e.Page)}:Mon)) (λg=>let f:=ix g b zh; (oN zbW<|oN (inb a<|ln f.Outer)<|share (up g b ({f with Outer:=(up f.Outer a zbl)}:Mon)) (λi=>let h:=({c with Mons:=i}:Host); (oN (zfE h b a e)<|some [aH<|zfF h b a e])))))
def z4Q (N:Nat)(c:Host)(a b:Int):zpZ (cQ zsg zp8 z2g zXP) (zq []) N 12 188 [true,true,true,true] (zbi c) [aI a,aI b]=zHX N c a b:=by kernel_rfl
def z1X (c:Host)(e a:Int)(w:zbS big (.agg (zbi c)::[aI e,aI a]))(u:zj7 c e a=true):∃N,zHX N c e a=some (.agg (zbi<|znf c e a)::[]):=by
 obtain⟨l,b,j⟩:=zK.1 u;obtain⟨v,f⟩:=zc4 l b;obtain⟨k,rfl,h⟩:=zeI (n:=c.Mons.length) b;have m:=zx9 (p:=a) l b;have d:hasB (k:Int) (ln (zgf c (k:Int) a).Mons)=true:=zfQ b;have i:k<(zgf c (k:Int) a).Mons.length:=(by simpa [zgf] using h);have g:ix (zgf c (k:Int) a).Mons (k:Int) mZ={ix c.Mons (k:Int) mZ with Out:=up (ix c.Mons (k:Int) mZ).Out a (zc5 c.Memory (ix (ix c.Mons (k:Int) mZ).Outer a sZ).Page)}:=zd8 h _ _;have t:Shape {zgf c (k:Int) a with Mons:=up (zgf c (k:Int) a).Mons (k:Int) {ix (zgf c (k:Int) a).Mons (k:Int) mZ with Outer:=up (ix (zgf c (k:Int) a).Mons (k:Int) mZ).Outer a noSlot}}:=(by obtain⟨q,r⟩:=zc4 m d;exact zkt m ⟨by simpa using q.1,q.2⟩ ⟨by simpa using r.1,r.2⟩);refine⟨0,?_⟩;unfold zHX oN;conv=>zeta
 refine must (zC b) (must (zC<|zex f.1 j)<|must (zbs<|(zrE _).2 l.1.1)<|must (zC<|zex f.2.1 j)<|shr (must rfl (must ?_<|shr<|must (zbs ⟨t,zfQ d⟩) ?_)));{rw [zd8 h];exact zC (zex f.1 j)};{have:=zAJ (p:=a) (s:=noSlot) i (by rw[g];exact f.2.2.2);rw[g] at this;show some [AV.agg<|zbi<|zAh {zgf c (k:Int) a with Mons:=up (zgf c (k:Int) a).Mons (k:Int) {ix (zgf c (k:Int) a).Mons (k:Int) mZ with Outer:=up (ix (zgf c (k:Int) a).Mons (k:Int) mZ).Outer a noSlot}} (k:Int) a<|ix (ix c.Mons (k:Int) mZ).Outer a sZ]=_;rw[g];exact congrArg (λx=>some [AV.agg<|zbi x]) this}
def zVI:zb7 Tryz.prog 188 [true,true,true,true] zxY:=by refine zi0 (zid zi5 zn zQv zd5) (zkz (by kernel_rfl)) ?_;intro g a b j i f h;have d:=zmG f;unfold zxY at h;split at h;{obtain⟨e,rfl,rfl⟩:=zoM h;obtain⟨N,c⟩:=z1X _ _ _ (by exact d) e;exact⟨rfl,_,N,12,(z4Q N _ _ _ ).trans c⟩};{cases h}
def z2h:zdn:=[(188,[true,true,true,true],zxY)]++z2g
def zQw:zco z2h:=zcZ zQv (by
 intro x a;simp only[qG,qO,or_false]at a;rcases a with rfl
 .exact zVI)
def z3c:zgB:=[(334,[true,true,true,true,false,false],some (1,1,[[0],[1],[2],[4],[7]]),zvY)]++zXP
def zQK:zfg z3c:=zr3 zd5 (by
 intro x a;simp only[qG,qO,or_false]at a;rcases a with rfl
 .exact zPw)
def cz (l:List Slot):Nat:=l.countP λs=>ieq s.Page 0
def zH:List Mon->Nat
 |[]=>0
 |m::l=>cz m.Outer+zH l
def bit (u:List Bool):Nat:=bif ix u 0 false then 1 else 0
def zyC (s:Slot)(l:List Slot):cz (s::l)=cz l+bif ieq s.Page 0 then 1 else 0:=by unfold cz;rw[vK];cases ieq s.Page 0<;>rfl
def zbcE {u:List Bool}{p:Int}(c:0<=p)(a:p.toNat<u.length)(x:Bool):ix (up u p x) 0 false=bif ieq p 0 then x else ix u 0 false:=by unfold ix up;cases h:ieq p 0;{have:p≠0:=(by simpa [ieq] using h);have b:p.toNat≠0:=(by omega);simp[List.getD,jD,b]};{have:p=0:=(by simpa [ieq] using h);subst this;have a:0<u.length:=a;simp[List.getD,jD,a]}
def zEJ:∀(l:List Slot) (u b:List Bool),(∀s∈l,s.Page<12)->u.length=12->ziw l u=some b->cz l+bit u=bit b
 |[],u,b,_,_,h=>by cases h;simp[cz]
 |s::l,u,b,i,k,h=>by
  simp only[ziw]at h;rw[zyC];cases c:ilt s.Page 0;{have c:=qW c;rw[show ilt s.Page 0=false from qH (by omega)]at h;simp only[cF]at h;cases d:ix u s.Page false;{rw [d]at h;simp only[cF]at h;have g:s.Page.toNat<u.length:=(by have:=i s (by simp);omega);have a:=zEJ l _ b (λt j=>i t (by simp[j])) (by simpa using k) h;have e:bit (up u s.Page true)=bif ieq s.Page 0 then 1 else bit u:=(by unfold bit;rw[zbcE (by omega) g];cases ieq s.Page 0<;>rfl);rw[e] at a;cases f:ieq s.Page 0;{rw [f] at a;simp only[cF] at a ⊢;omega};{have n:s.Page=0:=(by simpa [ieq] using f);rw[n]at d;have:bit u=0:=(by unfold bit;rw[d];rfl);rw[f] at a;simp only[cT] at a ⊢;omega}};{rw [d]at h;cases h}};{have m:=qD c;rw[c]at h;simp only[cT]at h;have a:=zEJ l u b (λt j=>i t (by simp[j])) k h;have:ieq s.Page 0=false:=(by simp[ieq];omega);rw[this];simpa using a}
def zVM:∀(l:List Mon) (u:List Bool),u.length=12->zkJ l u=true->zH l+bit u<=1
 |[],u,_,_=>by unfold zH bit;cases ix u 0 false<;>simp
 |m::l,u,c,h=>by simp only[zkJ]at h;cases b:zfK m;{rw [b]at h;cases h};{rw [b]at h;simp only[cT]at h;cases a:ziw m.Outer u with|none=>rw[a]at h;cases h|some d =>rw[a]at h;have e:=zEJ _ _ _ (zFf<|zov b) c a;have f:=zVM l d ((zro _ _ _ a).trans c) h;simp only[zH];omega}
def z3Z:∀(l:List Slot) (b:Nat) (s:Slot),l[b]?=some s->s.Page=0->cz (l.set b noSlot)+1=cz l
 |[],b,s,h,_=>by simp at h
 |t::l,0,s,h,a=>by simp only[qI,qC]at h;subst h;rw[List.set_cons_zero,zyC,zyC];have:ieq t.Page 0=true:=(by simp[ieq,a]);rw[this];rfl
 |t::l,b+1,s,h,a=>by rw[List.set_cons_succ,zyC,zyC];have:=z3Z l b s (by simpa using h) a;omega
def zYn:∀(l:List Mon) (a:Nat) (x y:Mon),l[a]?=some x->zH (l.set a y)+cz x.Outer=zH l+cz y.Outer
 |[],a,x,y,h=>by simp at h
 |m::l,0,x,y,h=>by simp only[qI,qC]at h;subst h;rw[List.set_cons_zero];simp only[zH];omega
 |m::l,a+1,x,y,h=>by rw[List.set_cons_succ];have:=zYn l a x y (by simpa using h);simp only[zH];omega
def z1u {l:List Slot}(h:cz l=0):zp1 l 0=none:=by unfold zp1;rw[List.findIdx?_eq_none_iff];intro s a;have:=(vE.1 h) s a;simpa using this
def zNc:∀(l:List Mon) (i:Nat),zH l=0->zjX 0 l i=(-1,-1)
 |[],_,_=>rfl
 |m::l,i,h=>by simp only[zH]at h;simp only[zjX];rw[z1u (by omega)];exact zNc l (i+1) (by omega)
def z1v {l:List Slot}{k:Nat}(h:zp1 l 0=some k):∃s,l[k]?=some s/\s.Page=0:=by unfold zp1 at h;rw[u1]at h;obtain⟨a,b,_⟩:=h;exact⟨l[k],qB a,by simpa [ieq] using b⟩
def zHv:∀(l:List Mon) (i:Nat),zjX 0 l i=(-1,-1)\/∃a b x s,zjX 0 l i=(((i+a:Nat):Int),((b:Nat):Int))/\l[a]?=some x/\x.Outer[b]?=some s/\s.Page=0
 |[],_=>.inl rfl
 |m::l,i=>by
  simp only[zjX];cases h:zp1 m.Outer 0 with
  |none=>rcases zHv l (i+1) with c|⟨a,b,x,s,c,d,f,g⟩;{exact .inl c};{refine .inr ⟨a+1,b,x,s,?_,by simpa using d,f,g⟩;have e:i+1+a=i+(a+1):=(by omega);rw[c,e]}
  |some k=>obtain⟨s,c,d⟩:=z1v h;exact .inr ⟨0,k,m,s,rfl,rfl,c,d⟩
def Fit (h:Host):Prop:=Shape h/\0<h.Memory.length/\zH h.Mons<=1
def zHi {h:Host}(c:0<h.Memory.length)(b:ilt (zbY h 0).1 0=true):inb 0 (ln<|zcU h)=true:=by unfold zcU;obtain⟨n,a⟩:∃n,h.Memory.length=n+1:=⟨h.Memory.length-1,by omega⟩;rw[a];simp only[zxU];rw[show ilt (zbY h ((0:Nat):Int)).1 0=true from b];exact qK (by simp only[cT,ln,jB];omega)
def z1A {h:Host}(b:0<h.Memory.length)(a:ieq (ln<|zcU h) 0=true):ilt (zbY h 0).1 0=false:=by cases c:ilt (zbY h 0).1 0;{rfl};{have d:=qD (zHi b c);have e:ln (zcU h)=0:=(by simpa [ieq] using a);omega}
def zd0 (h:Host):Host:=bif ieq (ln<|zcU h) 0 then zeM h (zbY h 0).1 (zbY h 0).2 else h
structure Room (h r:Host):Prop where
 shape:Shape r
 free:inb 0 (ln (zcU r))=true
 len:r.Mons.length=h.Mons.length
 outer:∀m,(ix r.Mons m mZ).Outer.length=8\/True
def z4Y {h:Host}(i:Fit h)(f:ieq (ln<|zcU h) 0=true):∃(a b:Nat) (x:Mon) (s:Slot),zbY h 0=((a:Int),(b:Int))/\h.Mons[a]?=some x/\x.Outer[b]?=some s/\s.Page=0:=by have d:=z1A i.2.1 f;have e:zbY h 0=zjX 0 h.Mons 0:=rfl;rcases zHv h.Mons 0 with c|⟨a,b,x,s,c,g⟩;{rw [e,c]at d;cases d};{exact⟨a,b,x,s,by rw[e,c,j5],g⟩}
def zE9 {h:Host}(d:Fit h)(e:ieq (ln<|zcU h) 0=true):hasB (zbY h 0).1 (ln h.Mons)=true/\hasB (zbY h 0).2 8=true:=by obtain⟨a,b,x,s,f,c,g,j⟩:=z4Y d e;rw[f];have k:=(qA.1 c).1;have l:=(qA.1 g).1;have i:=d.1.2 x (qJ c);refine⟨qK (by simp only[ln];omega),qK ?_⟩;have:=i.1;show 0<=(b:Int)/\(b:Int)<8;omega
def room {h:Host}(d:Fit h):Room h (zd0 h):=by unfold zd0;cases g:ieq (ln<|zcU h) 0;{refine⟨d.1,qK ?_,rfl,λ_=>.inr trivial⟩;have:ln (zcU h)≠0:=(by simpa [ieq] using g);show 0<=(0:Int)/\(0:Int)<ln (zcU h);simp only[ln] at *;omega};{obtain⟨n,u⟩:=zE9 d g;obtain⟨a,b,x,s,r,i,k,t⟩:=z4Y d g;simp only[cT];rw[r]at n u ⊢;have m:=(qA.1 i).1;have B:=(qA.1 k).1;have j:ix h.Mons (a:Int) mZ=x:=(by rw[zbt m];exact(qA.1 i).2);have c:=(zhZ (zgf h (a:Int) (b:Int)) (a:Int) (b:Int) noSlot).1;have q:ix (zgf h (a:Int) (b:Int)).Mons (a:Int) mZ={x with Out:=up x.Out (b:Int) (zc5 h.Memory (ix x.Outer (b:Int) sZ).Page)}:=(by unfold zgf;rw[zd8 m,j]);obtain⟨y,l,v⟩:∃y,(zeM h (a:Int) (b:Int)).Mons=h.Mons.set a y/\y.Outer=x.Outer.set b noSlot:=(by unfold zeM;rw[c,q];unfold zgf;rw[zrn];exact⟨_,by simp[up];rfl,by simp[up]⟩);have w:zH (zeM h (a:Int) (b:Int)).Mons=0:=(by have p:=zYn h.Mons a x y i;have z:=z3Z x.Outer b s k t;have A:=d.2.2;rw[l];rw[v] at p;omega);have f:(zeM h (a:Int) (b:Int)).Memory=h.Memory:=(zhZ (zgf h (a:Int) (b:Int)) (a:Int) (b:Int) noSlot).2;refine⟨zND d.1 n,zHi (by rw[f];exact d.2.1) ?_,by rw[l];simp,λ_=>.inr trivial⟩;have e:zbY (zeM h (a:Int) (b:Int)) 0=zjX 0 (zeM h (a:Int) (b:Int)).Mons 0:=rfl;rw[e,zNc _ _ w];rfl}
def zXF {m:List LI}{p:Int}{c:LI}(h:SmM m)(a:c.length<=1048576):SmM (zkw m p c):=by unfold zkw;cases hasB p (ln m);{exact h};{cases zc2 c;{exact h};{exact zNI h a}}
def landing (r:Host)(m p to:Int):Host:={r with Memory:=zkw r.Memory to (ix (ix r.Mons m mZ).Out p []),Mons:=up r.Mons m {ix r.Mons m mZ with Out:=up (ix r.Mons m mZ).Out p []}}
def zgm (r:Host)(m p to:Int):Host:=zcJ (landing r m p to) m p ⟨to,3⟩
def fetched (h:Host)(m p:Int):Host:=zgm (zd0 h) m p (ix (zcU<|zd0 h) 0 0)
def zXH {r:Host}{m p:Int}(e:Shape r)(c:hasB m (ln r.Mons)=true)(d:hasB p 8=true):(ix (ix r.Mons m mZ).Out p []).length<=1048576:=by obtain⟨a,b⟩:=zc4 e c;exact a.2.1.2 _ (zbM (zex b.2.1 d) _)
def zt5 {r:Host}{m p to:Int}(a:Shape r)(d:hasB m (ln r.Mons)=true)(e:hasB p 8=true):Shape (landing r m p to):=by obtain⟨b,c⟩:=zc4 a d;exact zSl (h:={r with Mons:=up r.Mons m {ix r.Mons m mZ with Out:=up (ix r.Mons m mZ).Out p []}}) (zkt (x:={ix r.Mons m mZ with Out:=up (ix r.Mons m mZ).Out p []}) a ⟨b.1,zNI b.2.1 (by simp),b.2.2⟩ ⟨c.1,by simpa using c.2.1,c.2.2⟩) (zXF a.1.1<|zXH a d e)
def zT0 {r:Host}{m p d:Int}(c:Shape r)(a:hasB m (ln r.Mons)=true)(b:hasB p 8=true):Shape (zgm r m p d):=zt6 (zfQ a) (zt5 c a b)
def zrU {h:Host}(a:Fit h){m:Int}(b:hasB m (ln h.Mons)=true):hasB m (ln (zd0 h).Mons)=true:=by rw[ln,(room a).len];exact b
def zmd {h:Host}{m p:Int}(a:Fit h)(b:hasB m (ln h.Mons)=true)(c:hasB p 8=true):Shape (fetched h m p)/\hasB m (ln (fetched h m p).Mons)=true :=
 ⟨zT0 (room a).shape (zrU a b) c,zHl<|zfQ<|zrU a b⟩
@[simp] abbrev zli (h:Host)(m p:Int):Bool:=pc (Fit h/\hasB m (ln h.Mons)=true/\hasB p 8=true)
@[simp] abbrev zmo (h:Host)(m p:Int):Host:=fetched h m p
def zx1:LW
 |[.agg [.s (.sl .int) b,.s .mon c,.s .entry d,.s .entry e],.one<|.i .i64 f,.one<|.i .i64 g]=>some (zli (⟨b,c,d,e⟩:Host) f g,[aH<|zmo (⟨b,c,d,e⟩:Host) f g])
 |_=>none
def zC3 (N:Nat)(a:Host)(c b:Int):OA:=
 let h:=ix (zdw a) 0 0;let f:=ix a.Mons c zh;let d:=znf a (zee a 0)<|zfi a 0;let g:=ix (zdw d) 0 0;let e:=ix d.Mons c zh; (oN (zgY a)<|cond (ieq (ln<|zdw a) 0) (oN (zgR a 0)<|oN (zj7 a (zee a 0)<|zfi a 0)<|oN (zgY d)<|oN (inb 0<|ln<|zdw d)<|oN (inb c<|ln d.Mons)<|oN (inb b<|ln e.Out)<|oN (zgZ d.Memory g<|ix e.Out b [])<|oN (inb c<|ln d.Mons)<|oN (inb b<|ln e.Out)<|share (up d.Mons c ({e with Out:=(up e.Out b [])}:Mon)) (λi=>let j:=({d with Memory:=(zfN d.Memory g<|ix e.Out b []),Mons:=i}:Host); (oN (zgK j c b (⟨g,3⟩:Slot))<|some [aH<|ziS j c b (⟨g,3⟩:Slot)])))<|oN (zgY a)<|oN (inb 0<|ln<|zdw a)<|oN (inb c<|ln a.Mons)<|oN (inb b<|ln f.Out)<|oN (zgZ a.Memory h<|ix f.Out b [])<|oN (inb c<|ln a.Mons)<|oN (inb b<|ln f.Out)<|share (up a.Mons c ({f with Out:=(up f.Out b [])}:Mon)) (λi=>let k:=({a with Memory:=(zfN a.Memory h<|ix f.Out b []),Mons:=i}:Host); (oN (zgK k c b (⟨h,3⟩:Slot))<|some [aH<|ziS k c b (⟨h,3⟩:Slot)])))
def z19 (N:Nat)(a:Host)(b c:Int):zEY (cQ zsg zp8 z2h z3c) (zq []) N 12 335 [true,true,true,true,false,false] 1 1 [[0],[1],[2],[4],[7]] .mon [aH a,aI b,aI c]=zC3 N a b c:=by kernel_rfl
def zY7 (c:Host)(b d:Int)(z:zbS big [aH c,aI b,aI d])(u:zli c b d=true):∃N,zC3 N c b d=some [aH<|zmo c b d]:=by
 obtain⟨h,v,i⟩:=zK.1 u;have e:∀r,Shape r->inb 0 (ln<|zcU r)=true->hasB b (ln r.Mons)=true->(cond (zgY r) (cond (inb 0<|ln<|zdw r) (cond (inb b<|ln r.Mons) (cond (inb d<|ln (ix r.Mons b zh).Out) (cond (zgZ r.Memory (ix (zdw r) 0 0)<|ix (ix r.Mons b zh).Out d []) (cond (inb b<|ln r.Mons) (cond (inb d<|ln (ix r.Mons b zh).Out) (share (up r.Mons b ({ (ix r.Mons b zh) with Out:=(up (ix r.Mons b zh).Out d [])}:Mon)) λs=>cond (zgK ({r with Memory:=(zfN r.Memory (ix (zdw r) 0 0)<|ix (ix r.Mons b zh).Out d []),Mons:=s}:Host) b d (⟨ix (zdw r) 0 0,3⟩:Slot)) (some [AV.agg<|zbi<|ziS ({r with Memory:=(zfN r.Memory (ix (zdw r) 0 0)<|ix (ix r.Mons b zh).Out d []),Mons:=s}:Host) b d (⟨ix (zdw r) 0 0,3⟩:Slot)]) none) none) none) none) none) none) none) none)=some [AV.agg<|zbi<|zgm r b d<|ix (zcU r) 0 0]:=(by intro r j f a;obtain⟨y,l⟩:=zc4 j a;have t:=zt5 (to:=ix (zcU r) 0 0) j a i;obtain⟨k,rfl,q⟩:=zeI (n:=r.Mons.length) a;refine must (zbs j.1.1.1) (must f<|must (zC a)<|must (zC<|zex l.2.1 i)<|must (zbs ⟨j.1.1,zXH j a i⟩)<|must (zC a)<|must (zC<|zex l.2.1 i)<|shr (must (zbs ⟨(zS _).2 t.1,zfQ a,?_,?_⟩) rfl));{simp only [zd8 q];exact zex l.1 i};{simp only [zd8 q];exact k8 l.2.2.2});have g:=room h;have a:=zrU h v;refine⟨0,?_⟩;unfold zC3 zmo fetched oN;conv=>zeta
 refine must (zbs h.1.1.1.1) ?_;cases p:ieq (ln<|zdw c) 0;{have m:zd0 c=c:=(by unfold zd0;rw[show ieq (ln<|zcU c) 0=false from p];rfl);rw[m]at g a ⊢;exact e c g.shape g.free a};{obtain⟨w,x⟩:=zE9 h p;have m:zd0 c=zeM c (zbY c 0).1 (zbY c 0).2:=(by unfold zd0;rw[show ieq (ln<|zcU c) 0=true from p];rfl);rw[m]at g a ⊢;exact must rfl (must rfl (must (zbs ⟨h.1,w,x⟩)<|e _ g.shape g.free a))}
def zSX:zfn Tryz.prog 335 [true,true,true,true,false,false] (some (1,1,[[0],[1],[2],[4],[7]])) zx1:=by refine znz (kt:=.mon) (zid zi5 zn zQw zQK) (zkz (by kernel_rfl)) (by kernel_rfl) ?_;intro a g f e h;have c:=zkF e;unfold zx1 at h;split at h;{obtain⟨d,rfl⟩:=zfd h;obtain⟨N,b⟩:=zY7 _ _ _ (by exact c) d;exact⟨⟨_,rfl⟩,rfl,_,N,12,(z19 N _ _ _ ).trans b⟩};{cases h}
@[simp] abbrev ztQ (h:Host):Bool:=pc (Shape h/\hasB (zbY h 0).1 (ln h.Mons)=true/\hasB (zbY h 0).2 8=true)
@[simp] abbrev ztR (h:Host):Host:=zeM h (zbY h 0).1 (zbY h 0).2
def zpl:LC->LA->Option (Bool×LC×LA)
 |[.s (.sl .int) b,.s .mon c,.s .entry d,.s .entry e],[]=>some (ztQ (⟨b,c,d,e⟩:Host),zbi<|ztR (⟨b,c,d,e⟩:Host),[])
 |_,_=>none
def ztG (N:Nat)(c:Host)  : OA :=
 (oN (zgR c 0)<|oN (zj7 c (zee c 0)<|zfi c 0)<|some [aH<|znf c (zee c 0)<|zfi c 0])
def zQp (N:Nat)(c:Host)  : zpZ (cQ zsg zp8 z2h z3c) (zq []) N 12 323 [true,true,true,true] (zbi c) []=ztG N c:=by kernel_rfl
def zMP (c:Host)(d:zbS big (.agg (zbi c)::[]))(a:ztQ c=true):∃N,ztG N c=some (.agg (zbi<|ztR c)::[]):=by have b:=zK.1 a;refine⟨0,?_⟩;unfold ztG oN;exact must rfl (must (zbs b) rfl)
def zFv:zb7 Tryz.prog 323 [true,true,true,true] zpl:=by refine zi0 (zid zi5 zn zQw zQK) (zkz (by kernel_rfl)) ?_;intro g a b j i f h;have d:=zmG f;unfold zpl at h;split at h;{obtain⟨e,rfl,rfl⟩:=zoM h;obtain⟨N,c⟩:=zMP _ (by exact d) e;exact⟨rfl,_,N,12,(zQp N _ ).trans c⟩};{cases h}
def z7D:zdn:=[(323,[true,true,true,true],zpl)]++z2h
def z0s:zco z7D:=zcZ zQw (by
 intro x a;simp only[qG,qO,or_false]at a;rcases a with rfl
 .exact zFv)
def zXQ:zgB:=[(335,[true,true,true,true,false,false],some (1,1,[[0],[1],[2],[4],[7]]),zx1)]++z3c
def zFh:zfg zXQ:=zr3 zQK (by
 intro x a;simp only[qG,qO,or_false]at a;rcases a with rfl
 .exact zSX)
def z01 {r:Host}{m p to:Int}(d:Shape r)(b:hasB m (ln r.Mons)=true):zAh {landing r m p to with Mons:=up (landing r m p to).Mons m {ix (landing r m p to).Mons m mZ with Outer:=up (ix (landing r m p to).Mons m mZ).Outer p ⟨to,3⟩}} m p (ix (ix (landing r m p to).Mons m mZ).Outer p sZ)=zgm r m p to:=by obtain⟨e,c⟩:=zc4 d b;obtain⟨k,rfl,a⟩:=zeI (n:=r.Mons.length) b;refine zAJ (h:=landing r (k:Int) p to) (by simpa [landing] using a) ?_;unfold landing;simp only[zd8 a];exact c.2.2.2
def zZE {r:Host}{m p to:Int}(f:Shape r)(b:hasB m (ln r.Mons)=true)(e:hasB p 8=true):Shape {landing r m p to with Mons:=up (landing r m p to).Mons m {ix (landing r m p to).Mons m mZ with Outer:=up (ix (landing r m p to).Mons m mZ).Outer p ⟨to,3⟩}}:=by have a:=zt5 (to:=to) f b e;obtain⟨c,d⟩:=zc4 a (zfQ b);exact zkt a ⟨by simpa using c.1,c.2⟩ ⟨by simpa using d.1,d.2⟩
def zvP:LC->LA->Option (Bool×LC×LA)
 |[.s (.sl .int) b,.s .mon c,.s .entry d,.s .entry e],[.one<|.i .i64 f,.one<|.i .i64 g]=>some (zli (⟨b,c,d,e⟩:Host) f g,zbi<|zmo (⟨b,c,d,e⟩:Host) f g,[])
 |_,_=>none
def zCG (N:Nat)(c:Host)(b a:Int):OA:=
 let m:=ix (zdw c) 0 0;let d:=ztR c;let l:=ix (zdw d) 0 0;let f:=ix c.Mons b zh;let e:=ix d.Mons b zh; (oN (zgY c)<|cond (ieq (ln<|zdw c) 0) (oN (ztQ c)<|oN (inb b<|ln d.Mons)<|oN (zgY d)<|oN (inb 0<|ln<|zdw d)<|oN (inb a<|ln e.Out)<|oN (zgZ d.Memory l<|ix e.Out a [])<|oN (inb a<|ln e.Out)<|share (up d.Mons b ({e with Out:=(up e.Out a [])}:Mon)) (λg=>let i:=ix g b zh;let q:=ix i.Outer a zV; (oN (inb a<|ln i.Outer)<|oN (inb a<|ln i.Outer)<|share (up g b ({i with Outer:=(up i.Outer a (⟨l,3⟩:Slot))}:Mon)) (λk=>let n:=({d with Memory:=(zfN d.Memory l<|ix e.Out a []),Mons:=k}:Host); (oN (zfE n b a q)<|some [aH<|zfF n b a q])))))<|oN (inb b<|ln c.Mons)<|oN (zgY c)<|oN (inb 0<|ln<|zdw c)<|oN (inb a<|ln f.Out)<|oN (zgZ c.Memory m<|ix f.Out a [])<|oN (inb a<|ln f.Out)<|share (up c.Mons b ({f with Out:=(up f.Out a [])}:Mon)) (λg=>let j:=ix g b zh;let h:=ix j.Outer a zV; (oN (inb a<|ln j.Outer)<|oN (inb a<|ln j.Outer)<|share (up g b ({j with Outer:=(up j.Outer a (⟨m,3⟩:Slot))}:Mon)) (λk=>let p:=({c with Memory:=(zfN c.Memory m<|ix f.Out a []),Mons:=k}:Host); (oN (zfE p b a h)<|some [aH<|zfF p b a h])))))
def z18 (N:Nat)(c:Host)(a b:Int):zpZ (cQ zsg zp8 z7D zXQ) (zq []) N 12 189 [true,true,true,true] (zbi c) [aI a,aI b]=zCG N c a b:=by kernel_rfl
def zYW (c:Host)(b d:Int)(F:zbS big (.agg (zbi c)::[aI b,aI d]))(w:zli c b d=true):∃N,zCG N c b d=some (.agg (zbi<|zmo c b d)::[]):=by
 obtain⟨j,B,l⟩:=zK.1 w;have e:∀r,Shape r->inb 0 (ln<|zcU r)=true->hasB b (ln r.Mons)=true->(cond (inb b<|ln r.Mons) (cond (zgY r) (cond (inb 0<|ln<|zdw r) (cond (inb d<|ln (ix r.Mons b zh).Out) (cond (zgZ r.Memory (ix (zdw r) 0 0)<|ix (ix r.Mons b zh).Out d []) (cond (inb d<|ln (ix r.Mons b zh).Out) (share (up r.Mons b ({ (ix r.Mons b zh) with Out:=(up (ix r.Mons b zh).Out d [])}:Mon)) λg=>cond (inb d<|ln (ix g b zh).Outer) (cond (inb d<|ln (ix g b zh).Outer) (share (up g b ({ (ix g b zh) with Outer:=(up (ix g b zh).Outer d (⟨ix (zdw r) 0 0,3⟩:Slot))}:Mon)) λu=>cond (zfE ({r with Memory:=(zfN r.Memory (ix (zdw r) 0 0)<|ix (ix r.Mons b zh).Out d []),Mons:=u}:Host) b d<|ix (ix g b zh).Outer d zV) (some [AV.agg<|zbi<|zfF ({r with Memory:=(zfN r.Memory (ix (zdw r) 0 0)<|ix (ix r.Mons b zh).Out d []),Mons:=u}:Host) b d<|ix (ix g b zh).Outer d zV]) none) none) none) none) none) none) none) none) none)=some [AV.agg<|zbi<|zgm r b d<|ix (zcU r) 0 0]:=(by intro r i f a;obtain⟨E,q⟩:=zc4 i a;have v:=zZE (to:=ix (zcU r) 0 0) i a l;have hE:=z01 (p:=d) (to:=ix (zcU r) 0 0) i a;obtain⟨k,rfl,A⟩:=zeI (n:=r.Mons.length) a;have z:∀(x y:Mon),hasB (k:Int) (ln<|up (up r.Mons (k:Int) x) (k:Int) y)=true:=λx y=>(by simpa [ln] using a);have t:inb d (ln (ix (up r.Mons (k:Int) {ix r.Mons (k:Int) mZ with Out:=up (ix r.Mons (k:Int) mZ).Out d []}) (k:Int) mZ).Outer)=true:=(by rw[zd8 A];exact zC (zex q.1 l));refine must (zC a) (must (zbs i.1.1.1)<|must f<|must (zC<|zex q.2.1 l)<|must (zbs ⟨i.1.1,zXH i a l⟩)<|must (zC<|zex q.2.1 l)<|shr<|must t<|must t<|shr<|must (zbs ⟨v,z _ _⟩) ?_);exact congrArg (λx=>some [AV.agg<|zbi x]) hE);have h:=room j;have a:=zrU j B;refine⟨0,?_⟩;unfold zCG zmo fetched oN;conv=>zeta
 refine must (zbs j.1.1.1.1) ?_;cases s:ieq (ln<|zdw c) 0;{have m:zd0 c=c:=(by unfold zd0;rw[show ieq (ln<|zcU c) 0=false from s];rfl);rw[m]at h a ⊢;exact e c h.shape h.free a};{obtain⟨C,D⟩:=zE9 j s;have m:zd0 c=zeM c (zbY c 0).1 (zbY c 0).2:=(by unfold zd0;rw[show ieq (ln<|zcU c) 0=true from s];rfl);rw[m]at h a ⊢;exact must rfl (must (zbs ⟨j.1,C,D⟩)<|e _ h.shape h.free a)}
def zSI:zb7 Tryz.prog 189 [true,true,true,true] zvP:=by refine zi0 (zid zi5 zn z0s zFh) (zkz (by kernel_rfl)) ?_;intro g a b j i f h;have d:=zmG f;unfold zvP at h;split at h;{obtain⟨e,rfl,rfl⟩:=zoM h;obtain⟨N,c⟩:=zYW _ _ _ (by exact d) e;exact⟨rfl,_,N,12,(z18 N _ _ _ ).trans c⟩};{cases h}
def z2i:zdn:=[(189,[true,true,true,true],zvP)]++z7D
def zQx:zco z2i:=zcZ z0s (by
 intro x a;simp only[qG,qO,or_false]at a;rcases a with rfl
 .exact zSI)
def zbP (h:Host)(m p:Int):Host:={h with Mons:=up h.Mons m {ix h.Mons m mZ with Dirty:=up (ix h.Mons m mZ).Dirty p true}}
def opened (h:Host)(m p:Int):Host:=bif ieq (wand .i64 (ix (ix h.Mons m mZ).Outer p sZ).Rights 2) 0 then zcJ h m p ⟨(ix (ix h.Mons m mZ).Outer p sZ).Page,3⟩ else h
def zlz (h:Host)(m p n:Int):Host:=bif ieq (wand .i64 n 2) 0 then h else opened (zbP h m p) m p
def mended (h:Host)(m p n:Int):Host:=bif ieq (ix (ix h.Mons m mZ).Outer p sZ).Page (-1) then zlz (fetched h m p) m p n else zlz h m p n
def zba6 {r:Int}(a:0<=r)(b:r<=3):enough r 2 = !ieq (wand .i64 r 2) 0:=by have:r=0\/r=1\/r=2\/r=3:=(by omega);rcases this with rfl|rfl|rfl|rfl<;>rfl
structure SlotFit (s:Slot):Prop where
 no:zdO s noSlot=ieq s.Page (-1)
 lo:0<=s.Rights
 hi:s.Rights<=3
def z2V {s:Slot}{n:Int}(h:zeT s n=true):SlotFit s:=by refine⟨zSn h,?_,?_⟩<;>unfold zeT at h<;>cases a:zdO s noSlot;{rw [a]at h;simp only[cF,zd2]at h;have:=(zfX.1 h.2.2).1;omega};{unfold zdO at a;rw[qE]at a;have:s.Rights=0:=qD a.2;omega};{rw [a]at h;simp only[cF,zd2]at h;have:=(zfX.1 h.2.2).2;omega};{unfold zdO at a;rw[qE]at a;have:s.Rights=0:=qD a.2;omega}
def zpe {h:Host}{m p:Int}(c:Shape h)(d:hasB m (ln h.Mons)=true):Shape (zbP h m p):=by obtain⟨a,b⟩:=zc4 c d;exact zkt c ⟨a.1,a.2.1,by simpa using a.2.2.1,a.2.2.2⟩ ⟨b.1,b.2.1,by simpa using b.2.2.1,b.2.2.2⟩
def zXy {h:Host}{m p:Int}(b:Shape h)(a:hasB m (ln h.Mons)=true):Shape (opened h m p)/\hasB m (ln (opened h m p).Mons)=true:=by unfold opened;cases ieq (wand .i64 (ix (ix h.Mons m mZ).Outer p sZ).Rights 2) 0;{exact⟨b,a⟩};{exact⟨zt6 a b,zHl a⟩}
def zHL {h:Host}{m p n:Int}(b:Shape h)(a:hasB m (ln h.Mons)=true):Shape (zlz h m p n)/\hasB m (ln (zlz h m p n).Mons)=true:=by unfold zlz;cases ieq (wand .i64 n 2) 0;{exact zXy (zpe b a) (zfQ a)};{exact⟨b,a⟩}
def zwc {h:Host}{m p n:Int}(a:Fit h)(b:hasB m (ln h.Mons)=true)(e:hasB p 8=true):Shape (mended h m p n)/\hasB m (ln (mended h m p n).Mons)=true:=by unfold mended;cases ieq (ix (ix h.Mons m mZ).Outer p sZ).Page (-1);{exact zHL a.1 b};{obtain⟨c,d⟩:=zmd a b e;exact zHL c d}
def zVp {h:Host}{m p:Int}(c:Fit h)(g:hasB m (ln h.Mons)=true)(j:hasB p 8=true):(ix (ix (fetched h m p).Mons m mZ).Outer p sZ).Rights=3:=by have f:=room c;have a:=zrU c g;obtain⟨r,e⟩:=zc4 f.shape a;obtain⟨k,rfl,d⟩:=zeI (n:=(zd0 h).Mons.length) a;obtain⟨q,rfl,l⟩:=zeI (n:=8) j;unfold fetched zgm;rw[(zhZ _ _ _ _).1];have b:k<(landing (zd0 h) (k:Int) (q:Int)<|ix (zcU<|zd0 h) 0 0).Mons.length:=(by simpa [landing] using d);rw[zd8 b];have i:q<(ix (landing (zd0 h) (k:Int) (q:Int)<|ix (zcU<|zd0 h) 0 0).Mons (k:Int) mZ).Outer.length:=(by unfold landing;rw[zd8 d];show q<(ix (zd0 h).Mons (k:Int) mZ).Outer.length;rw[e.1];exact l);show (ix (up (ix (landing (zd0 h) (k:Int) (q:Int)<|ix (zcU<|zd0 h) 0 0).Mons (k:Int) mZ).Outer (q:Int) ⟨_,3⟩) (q:Int) sZ).Rights=3;rw[zd8 i]
def z3m (h:Host)(m p n:Int):Prop:=Fit h/\hasB m (ln h.Mons)=true/\hasB p 8=true/\(n=1\/n=2)/\SlotFit (ix (ix h.Mons m mZ).Outer p sZ)
@[simp] abbrev zgJ (h:Host)(m p n:Int):Bool:=pc (z3m h m p n)
@[simp] abbrev zgv (h:Host)(m p n:Int):Host:=mended h m p n
def ztX:LW
 |[.agg [.s (.sl .int) b,.s .mon c,.s .entry d,.s .entry e],.one<|.i .i64 f,.one<|.i .i64 g,.one<|.i .i64 h]=>some (zgJ (⟨b,c,d,e⟩:Host) f g h,[aH<|zgv (⟨b,c,d,e⟩:Host) f g h])
 |_=>none
def zxK (N:Nat)(c:Host)(a b l:Int):OA:=
 let h:=zmo c a b;let k:=ix h.Mons a zh;let e:=ix c.Mons a zh;let p:=ix e.Outer b zV; (oN (inb a<|ln c.Mons)<|oN (inb b<|ln e.Outer)<|oN zbW<|cond (cond (ieq p.Page zbl.Page) (ieq p.Rights zbl.Rights) false) (oN (zli c a b)<|cond (ieq (wand .i64 l 2) 0) (some [aH h])<|oN (inb a<|ln h.Mons)<|oN (inb b<|ln k.Dirty)<|share (up h.Mons a ({k with Dirty:=(up k.Dirty b true)}:Mon)) (λd=>let q:=(ix d a zh).Outer;let i:=({h with Mons:=d}:Host);let m:=ix q b zV;let r:=({m with Rights:=3}:Slot); (oN (inb a<|ln d)<|oN (inb b<|ln q)<|cond (ieq (wand .i64 m.Rights 2) 0) (oN (zgK i a b r)<|some [aH<|ziS i a b r])<|some [aH i])))<|cond (ieq (wand .i64 l 2) 0) (some [aH c])<|oN (inb a<|ln c.Mons)<|oN (inb b<|ln e.Dirty)<|share (up c.Mons a ({e with Dirty:=(up e.Dirty b true)}:Mon)) (λd=>let f:=(ix d a zh).Outer;let j:=({c with Mons:=d}:Host);let n:=ix f b zV;let g:=({n with Rights:=3}:Slot); (oN (inb a<|ln d)<|oN (inb b<|ln f)<|cond (ieq (wand .i64 n.Rights 2) 0) (oN (zgK j a b g)<|some [aH<|ziS j a b g])<|some [aH j])))
def zWM (N:Nat)(a:Host)(b c d:Int):zEY (cQ zsg zp8 z2i zXQ) (zq []) N 12 216 [true,true,true,true,false,false,false] 1 1 [[0],[1],[2],[4],[7]] .mon [aH a,aI b,aI c,aI d]=zxK N a b c d:=by kernel_rfl
def zTM (d:Host)(b a h:Int)(C:zbS big [aH d,aI b,aI a,aI h])(z:zgJ d b a h=true):∃N,zxK N d b a h=some [aH<|zgv d b a h]:=by
 obtain⟨l,j,i,D,A⟩:=zK.1 z;obtain⟨B,v⟩:=zc4 l.1 j;have f:∀r,Shape r->hasB b (ln r.Mons)=true->(cond (ieq (wand .i64 h 2) 0) (some [AV.agg<|zbi r])<|cond (inb b<|ln r.Mons) (cond (inb a<|ln (ix r.Mons b zh).Dirty) (share (up r.Mons b ({ (ix r.Mons b zh) with Dirty:=(up (ix r.Mons b zh).Dirty a true)}:Mon)) λg=>cond (inb b<|ln g) (cond (inb a<|ln (ix g b zh).Outer) (cond (ieq (wand .i64 (ix (ix g b zh).Outer a zV).Rights 2) 0) (cond (zgK ({r with Mons:=g}:Host) b a ({ (ix (ix g b zh).Outer a zV) with Rights:=3}:Slot)) (some [AV.agg<|zbi<|ziS ({r with Mons:=g}:Host) b a ({ (ix (ix g b zh).Outer a zV) with Rights:=3}:Slot)]) none)<|some [AV.agg<|zbi ({r with Mons:=g}:Host)]) none) none) none) none)=some [AV.agg<|zbi<|zlz r b a h]:=(by intro r u c;obtain⟨E,m⟩:=zc4 u c;have y:=zpe (p:=a) u c;unfold zlz;cases w:ieq (wand .i64 h 2) 0;{obtain⟨k,rfl,t⟩:=zeI (n:=r.Mons.length) c;have q:ix (zbP r (k:Int) a).Mons (k:Int) mZ={ix r.Mons (k:Int) mZ with Dirty:=up (ix r.Mons (k:Int) mZ).Dirty a true}:=zd8 t _ _;refine zcf rfl (must (zC c)<|must (zC<|zex m.2.2.1 i)<|shr<|must (zC<|zfQ c)<|must ?_ ?_);{rw [zd8 t];exact zC (zex m.1 i)};{unfold opened;show (cond (ieq (wand .i64 (ix (ix (zbP r (k:Int) a).Mons (k:Int) mZ).Outer a sZ).Rights 2) 0) _ _)=_;cases s:ieq (wand .i64 (ix (ix (zbP r (k:Int) a).Mons (k:Int) mZ).Outer a sZ).Rights 2) 0;{rfl};{refine must rfl (must (zbs ⟨(zS _).2 y.1,zfQ c,?_,?_⟩) rfl);{show hasB a (ln (ix (zbP r (k:Int) a).Mons (k:Int) mZ).Outer)=true;rw[q];exact zex m.1 i};{show (ix (zbP r (k:Int) a).Mons (k:Int) mZ).Tables.length<=(ix (zbP r (k:Int) a).Mons (k:Int) mZ).Guests.length;rw[q];exact k8 m.2.2.2}}}};{rfl});refine⟨0,?_⟩;unfold zxK zgv mended oN;conv=>zeta
 refine must (zC j) (must (zC<|zex v.1 i) (must rfl ?_));have e:(cond (ieq (ix (ix d.Mons b mZ).Outer a sZ).Page zbl.Page) (ieq (ix (ix d.Mons b mZ).Outer a sZ).Rights zbl.Rights) false)=ieq (ix (ix d.Mons b mZ).Outer a sZ).Page (-1):=(by rw[<- A.no];unfold zdO zbl;cases ieq (ix (ix d.Mons b mZ).Outer a sZ).Page noSlot.Page<;>rfl);rw[e];cases w:ieq (ix (ix d.Mons b mZ).Outer a sZ).Page (-1);{exact f d l.1 j};{obtain⟨s,x⟩:=zmd (p:=a) l j i;exact must rfl (must (zbs ⟨l,j,i⟩)<|f _ s x)}
def zMs:zfn Tryz.prog 216 [true,true,true,true,false,false,false] (some (1,1,[[0],[1],[2],[4],[7]])) ztX:=by refine znz (kt:=.mon) (zid zi5 zn zQx zFh) (zkz (by kernel_rfl)) (by kernel_rfl) ?_;intro a g f e h;have c:=zkF e;unfold ztX at h;split at h;{obtain⟨d,rfl⟩:=zfd h;obtain⟨N,b⟩:=zTM _ _ _ _ (by exact c) d;exact⟨⟨_,rfl⟩,rfl,_,N,12,(zWM N _ _ _ _ ).trans b⟩};{cases h}
def zxX:LC->LA->Option (Bool×LC×LA)
 |[.s (.sl .int) b,.s .mon c,.s .entry d,.s .entry e],[.one<|.i .i64 f,.one<|.i .i64 g,.one<|.i .i64 h]=>some (zgJ (⟨b,c,d,e⟩:Host) f g h,zbi<|zgv (⟨b,c,d,e⟩:Host) f g h,[])
 |_,_=>none
def zHW (N:Nat)(c:Host)(b a k:Int):OA:=
 let e:=zmo c b a;let m:=ix e.Mons b zh;let h:=ix c.Mons b zh; (oN (inb b<|ln c.Mons)<|oN (inb a<|ln h.Outer)<|cond (ieq (ix h.Outer a zV).Page<|-1) (oN (zli c b a)<|oN (zbm k 2)<|cond (nB<|zdv k 2) (some [aH e])<|oN (inb b<|ln e.Mons)<|oN (inb a<|ln m.Dirty)<|share (up e.Mons b ({m with Dirty:=(up m.Dirty a true)}:Mon)) (λd=>let i:=ix d b zh;let f:=ix i.Outer a zV; (oN (inb a<|ln i.Outer)<|oN (zbm f.Rights 2)<|cond (nB<|zdv f.Rights 2) (oN (inb a<|ln i.Outer)<|share (up d b ({i with Outer:=(up i.Outer a ({f with Rights:=3}:Slot))}:Mon)) (λl=>let n:=({e with Mons:=l}:Host); (oN (zfE n b a f)<|some [aH<|zfF n b a f])))<|some [aH ({e with Mons:=d}:Host)])))<|oN (zbm k 2)<|cond (nB<|zdv k 2) (some [aH c])<|oN (inb b<|ln c.Mons)<|oN (inb a<|ln h.Dirty)<|share (up c.Mons b ({h with Dirty:=(up h.Dirty a true)}:Mon)) (λd=>let j:=ix d b zh;let g:=ix j.Outer a zV; (oN (inb a<|ln j.Outer)<|oN (zbm g.Rights 2)<|cond (nB<|zdv g.Rights 2) (oN (inb a<|ln j.Outer)<|share (up d b ({j with Outer:=(up j.Outer a ({g with Rights:=3}:Slot))}:Mon)) (λl=>let p:=({c with Mons:=l}:Host); (oN (zfE p b a g)<|some [aH<|zfF p b a g])))<|some [aH ({c with Mons:=d}:Host)])))
def z4P (N:Nat)(c:Host)(a b d:Int):zpZ (cQ zsg zp8 z2i zXQ) (zq []) N 12 181 [true,true,true,true] (zbi c) [aI a,aI b,aI d]=zHW N c a b d:=by kernel_rfl
def z1W (c:Host)(b a f:Int)(R:zbS big (.agg (zbi c)::[aI b,aI a,aI f]))(M:zgJ c b a f=true):∃N,zHW N c b a f=some (.agg (zbi<|zgv c b a f)::[]):=by
 obtain⟨l,i,j,P,C⟩:=zK.1 M;obtain⟨Q,I⟩:=zc4 l.1 i;have H:enough f 2 = !ieq (wand .i64 f 2) 0:=(by rcases P with rfl|rfl<;>rfl);have g:∀r,Shape r->hasB b (ln r.Mons)=true->enough (ix (ix r.Mons b mZ).Outer a sZ).Rights 2=(!ieq (wand .i64 (ix (ix r.Mons b mZ).Outer a sZ).Rights 2) 0)->(cond (zbm f 2) (cond (cond (zdv f 2) false true) (some [AV.agg<|zbi r])<|cond (inb b<|ln r.Mons) (cond (inb a<|ln (ix r.Mons b zh).Dirty) (share (up r.Mons b ({ (ix r.Mons b zh) with Dirty:=(up (ix r.Mons b zh).Dirty a true)}:Mon)) λe=>cond (inb a<|ln (ix e b zh).Outer) (cond (zbm (ix (ix e b zh).Outer a zV).Rights 2) (cond (cond (zdv (ix (ix e b zh).Outer a zV).Rights 2) false true) (cond (inb a<|ln (ix e b zh).Outer) (share (up e b ({ (ix e b zh) with Outer:=(up (ix e b zh).Outer a ({ (ix (ix e b zh).Outer a zV) with Rights:=3}:Slot))}:Mon)) λF=>cond (zfE ({r with Mons:=F}:Host) b a<|ix (ix e b zh).Outer a zV) (some [AV.agg<|zbi<|zfF ({r with Mons:=F}:Host) b a<|ix (ix e b zh).Outer a zV]) none) none)<|some [AV.agg<|zbi ({r with Mons:=e}:Host)]) none) none) none) none) none)=some [AV.agg<|zbi<|zlz r b a f]:=(by intro r B d q;obtain⟨S,u⟩:=zc4 B d;have w:=zpe (p:=a) B d;unfold zlz;simp only[zbm,zdv,H,cT];cases J:ieq (wand .i64 f 2) 0;{obtain⟨k,rfl,A⟩:=zeI (n:=r.Mons.length) d;have m:ix (zbP r (k:Int) a).Mons (k:Int) mZ={ix r.Mons (k:Int) mZ with Dirty:=up (ix r.Mons (k:Int) mZ).Dirty a true}:=zd8 A _ _;have t:k<(zbP r (k:Int) a).Mons.length:=(by simpa [zbP] using A);have z:inb a (ln (ix (zbP r (k:Int) a).Mons (k:Int) mZ).Outer)=true:=(by rw[m];exact zC (zex u.1 j));refine zcf rfl (must (zC d)<|must (zC<|zex u.2.2.1 j)<|shr<|must z ?_);unfold opened;show (cond (cond (enough (ix (ix (zbP r (k:Int) a).Mons (k:Int) mZ).Outer a sZ).Rights 2) false true) _ _)=_;have G:(cond (enough (ix (ix (zbP r (k:Int) a).Mons (k:Int) mZ).Outer a sZ).Rights 2) false true)=ieq (wand .i64 (ix (ix (zbP r (k:Int) a).Mons (k:Int) mZ).Outer a sZ).Rights 2) 0:=(by rw[m];show (cond (enough (ix (ix r.Mons (k:Int) mZ).Outer a sZ).Rights 2) false true)=ieq (wand .i64 (ix (ix r.Mons (k:Int) mZ).Outer a sZ).Rights 2) 0;rw[q];cases ieq (wand .i64 (ix (ix r.Mons (k:Int) mZ).Outer a sZ).Rights 2) 0<;>rfl);rw[G];cases v:ieq (wand .i64 (ix (ix (zbP r (k:Int) a).Mons (k:Int) mZ).Outer a sZ).Rights 2) 0;{rfl};{have L:Shape {zbP r (k:Int) a with Mons:=up (zbP r (k:Int) a).Mons (k:Int) {ix (zbP r (k:Int) a).Mons (k:Int) mZ with Outer:=up (ix (zbP r (k:Int) a).Mons (k:Int) mZ).Outer a ⟨(ix (ix (zbP r (k:Int) a).Mons (k:Int) mZ).Outer a sZ).Page,3⟩}}:=(by obtain⟨D,E⟩:=zc4 w (zfQ d);exact zkt w ⟨by simpa using D.1,D.2⟩ ⟨by simpa using E.1,E.2⟩);have O:∀(x y:Mon),hasB (k:Int) (ln<|up (up r.Mons (k:Int) x) (k:Int) y)=true:=λx y=>(by simpa [ln] using d);refine must rfl (must z<|shr<|must (zbs ⟨L,O _ _⟩) ?_);exact congrArg (λx=>some [AV.agg<|zbi x]) (zAJ (h:=zbP r (k:Int) a) (p:=a) (s:=⟨(ix (ix (zbP r (k:Int) a).Mons (k:Int) mZ).Outer a sZ).Page,3⟩) t (by rw[m];exact u.2.2.2))}};{rfl});refine⟨0,?_⟩;unfold zHW zgv mended oN nB;conv=>zeta
 refine must (zC i) (must (zC<|zex I.1 j) ?_);cases J:ieq (ix (ix c.Mons b mZ).Outer a sZ).Page (-1);{exact g c l.1 i (zba6 C.lo C.hi)};{obtain⟨v,K⟩:=zmd (p:=a) l i j;exact must rfl (must (zbs ⟨l,i,j⟩)<|g _ v K (by rw[zVp l i j];rfl))}
def zVH:zb7 Tryz.prog 181 [true,true,true,true] zxX:=by refine zi0 (zid zi5 zn zQx zFh) (zkz (by kernel_rfl)) ?_;intro g a b j i f h;have d:=zmG f;unfold zxX at h;split at h;{obtain⟨e,rfl,rfl⟩:=zoM h;obtain⟨N,c⟩:=z1W _ _ _ _ (by exact d) e;exact⟨rfl,_,N,12,(z4P N _ _ _ _ ).trans c⟩};{cases h}
def z2k:zdn:=[(181,[true,true,true,true],zxX)]++z2i
def zbH:zco z2k:=zcZ zQx (by
 intro x a;simp only[qG,qO,or_false]at a;rcases a with rfl
 .exact zVH)
def z3d:zgB:=[(216,[true,true,true,true,false,false,false],some (1,1,[[0],[1],[2],[4],[7]]),ztX)]++zXQ
def zzx:zfg z3d:=zr3 zFh (by
 intro x a;simp only[qG,qO,or_false]at a;rcases a with rfl
 .exact zMs)
def z1I {h:Host}(b:zb2 h=true):h.Memory.length=12:=by unfold zb2 at b;simp only[zd2]at b;have a:=b.1;unfold zjW at a;simp only[zd2]at a;have:ln h.Memory=12:=qD a.2;simp only[ln] at this;omega
def ziE {h:Host}(a:zb2 h=true):∀x∈h.Mons,zfK x=true:=by unfold zb2 at a;simp only[zd2]at a;exact zAd _ _ a.2.2.2.2
def zJG {x:Mon}(a:zfK x=true):ShM x:=by have e:=ztz (zov a);unfold zfK at a;simp only[zd2]at a;have b:ln x.Tables=ln x.Guests:=qD a.2.1;have c:ln x.Out=8:=qD a.2.2.2.1;have d:ln x.Dirty=8:=qD a.2.2.2.2.1;simp only[ln] at *;exact⟨by omega,by omega,by omega,by omega⟩
def zfD {h:Host}(b:SmH h)(a:zb2 h=true):Fit h:=by refine⟨⟨b,λx c=>zJG (ziE a x c)⟩,by rw[z1I a];decide,?_⟩;unfold zb2 at a;simp only[zd2]at a;have:=zVM _ _ rfl a.2.2.2.2;omega
def zuz {x:Mon}(b:zfK x=true){p:Int}(c:hasB p 8=true):SlotFit (ix x.Outer p sZ):=by have a:=zov b;unfold zdQ at a;simp only[zd2]at a;exact z2V (qM.1 a.1 _<|zbM (zex (zJG b).1 c) _)
def zYD {h:Host}{m p:Int}(a:Fit h)(c:hasB m (ln h.Mons)=true):Fit (zbP h m p):=by refine⟨zpe a.1 c,a.2.1,?_⟩;obtain⟨k,rfl,b⟩:=zeI (n:=h.Mons.length) c;have:=zYn h.Mons k (ix h.Mons (k:Int) mZ) {ix h.Mons (k:Int) mZ with Dirty:=up (ix h.Mons (k:Int) mZ).Dirty p true} (by rw[zbt b];exact qB b);have d:=a.2.2;unfold zbP;simp only[up,kH];dsimp only at this;simp only[up] at this;omega
abbrev gZ:Guest:=Ty.dflt .guest
@[simp] abbrev zc3 (h:Host)(m:Int):Bool:=pc (zdz h)
@[simp] abbrev zda (h:Host)(m:Int):Mon:=bif hasB m (ln h.Mons) then ix h.Mons m mZ else mZ
@[simp] abbrev zmQ (h:Host)(m:Int):Bool:=hasB m (ln h.Mons)
def zHB:Run:=rF2 dH dI λb c=>(zc3 b c,[aT .mon<|zda b c,aB<|zmQ b c])
def zRa (N:Nat)(a:Host)(b:Int):OA:=
 let c:=ix a.Mons b zh; (oN (zbm b<|ln a.Mons)<|cond (nB<|zcj b<|ln a.Mons) (some [aT .mon (⟨[],[],[],[],[],0,0,[],0⟩:Mon),aB false])<|oN (inb b<|ln a.Mons)<|oN (zmj c)<|some [aT .mon<|zmR c,aB true])
def zYR (a:Host)(b:Int)(d:zc3 a b=true):∃N,zRa N a b=some [aT .mon<|zda a b,aB<|zmQ a b]:=by
 have e:=(zS a).1 (zK.1 d);refine⟨0,?_⟩;unfold zRa zda zmQ oN nB;conv=>zeta
 refine must rfl ?_;rw[show zcj b (ln a.Mons)=hasB b (ln a.Mons) from rfl];cases c:hasB b (ln a.Mons);{rfl};{exact zcf rfl (must (zC c) (must (zbs<|e.2.1.2 _<|zbM c _) rfl))}
def zSD:vR 147 zHB:=kF2 zi5 zn zbH zzx (zq []) zYR
def zcc (h:Host)(m g:Int):Bool:=bif zb2 h then (cond (hasB m<|ln h.Mons) (hasB g<|ln (ix h.Mons m mZ).Guests) false) else false
@[simp] abbrev zdx (h:Host)(m g:Int):Bool:=pc (zdz h)
@[simp] abbrev zk9 (h:Host)(m g:Int):Bool:=zcc h m g
def zHF:Run:=rF3 dH dI dI λb c d=>(zdx b c d,[aB<|zk9 b c d])
def zRu (N:Nat)(a:Host)(b c:Int):OA:=
 let d:=wsub .i64 (ln (ix a.Mons b zh).Guests) 1; (oN (zct a)<|cond (zcn a) (oN (zM b 0<|wsub .i64 (ln a.Mons) 1)<|cond (zk b 0<|wsub .i64 (ln a.Mons) 1) (oN (inb b<|ln a.Mons)<|oN (zM c 0 d)<|some [aB<|zk c 0 d]) oF) oF)
def zY9 (a:Host)(b c:Int)(f:zdx a b c=true):∃N,zRu N a b c=some [aB<|zk9 a b c]:=by
 have e:=(zS a).1 (zK.1 f);refine⟨0,?_⟩;unfold zRu zk9 zcc oN;conv=>zeta
 refine must rfl ?_;rw[show zcn a=zb2 a from rfl];cases g:zb2 a;{rfl};{rw [show zk b 0 (wsub .i64 (ln a.Mons) 1)=hasB b (ln a.Mons) from zr5 e.2.1.1 b];refine must rfl (must rfl ?_);cases d:hasB b (ln a.Mons);{rfl};{have hg:(ix a.Mons b mZ).Guests.length<=1048576:=(e.2.1.2 _<|zbM d _).2.2.2.1.1;rw[show zk c 0 (wsub .i64 (ln (ix a.Mons b zh).Guests) 1)=hasB c (ln (ix a.Mons b mZ).Guests) from zr5 hg c];exact must rfl (must (zC d) (must rfl rfl))}}
def zSZ:vR 203 zHF:=kF3 zi5 zn zbH zzx (zq []) zY9
def zc6 (h:Host)(m:Int):Nat->Nat->List LI
 | 0,_=>[]
 |n+1,i=>zc1 h m (i:Int)::zc6 h m n (i+1)
def zAu (h:Host)(m:Int):∀(n i:Nat),(zc6 h m n i).length=n
 | 0,_=>rfl
 |n+1,i=>by simp[zc6,zAu h m n]
def zB (h:Host)(m:Int):Bare:=bif hasB m (ln h.Mons) then ⟨zc6 h m 8 0,(ix h.Mons m mZ).Guests,(ix h.Mons m mZ).Outs,(ix h.Mons m mZ).Pending⟩ else ⟨[],[],[],0⟩
def zDv {c:Type}(h:Host)(m:Int)(K:List LI->Option c):∀(n i:Nat) (a:List LI),a.length+n<=2147483648->
 goN (λi a b=>bif few (ln<|ap a [zc1 h m (i:Int)]) then b (ap a [zc1 h m (i:Int)]) else none) K n i a=K (a++zc6 h m n i)
 | 0,_,a,_=>by simp[goN,zc6]
 |n+1,i,a,d=>by simp only[goN,zc6];rw[zhW (by simp[ap];omega),cT,zDv h m K n (i+1) _ (by simp[ap];omega)];simp[ap]
@[simp] abbrev zdj (h:Host)(m:Int):Bare:=zB h m
def z9s:zbb:=[(147,zHB),(203,zHF)]++zsg
def zU8:zU z9s:=zi zSD (zi zSZ zi5)
def zqi:Run:=rF2 dH dI λb c=>(zc3 b c,[aT .bare<|zdj b c])
def zKo (N:Nat)(b:Host)(c:Int):OA:=
 (oN (zc3 b c)<|cond (nB<|zmQ b c) (some [aT .bare (⟨[],[],[],0⟩:Bare)])<|iter (σ:=(Int×Int×Int×Int×lM×lN×lE×lE×lM×lG×LI×lM×lG×LI×Unit)) N (λh a=>let g:=a.2.2.2.2.2.2.2.2.2.2.2.2.1;let f:=a.2.2.2.2.2.2.2.2.2.2.2.2.2.1;let d:=(⟨a.2.2.2.2.1,a.2.2.2.2.2.1,a.2.2.2.2.2.2.1,a.2.2.2.2.2.2.2.1⟩:Host);let e:=ap a.2.2.2.2.2.2.2.2.2.2.2.1 [zpq d a.1 a.2.1]; (cond (ilt a.2.1 8) (oN (zqQ d a.1 a.2.1)<|oN (few<|ln e)<|h (a.1,zQ .i64 a.2.1 1,a.2.2.1,a.2.2.2.1,a.2.2.2.2.1,a.2.2.2.2.2.1,a.2.2.2.2.2.2.1,a.2.2.2.2.2.2.2.1,a.2.2.2.2.2.2.2.2.1,a.2.2.2.2.2.2.2.2.2.1,a.2.2.2.2.2.2.2.2.2.2.1,e,g,f,()))<|some [aT .bare (⟨a.2.2.2.2.2.2.2.2.2.2.2.1,g,f,a.2.2.2.1⟩:Bare)])) (c,0,0,(zda b c).Pending,b.Memory,b.Mons,b.Buffer,b.IoBuffer,[],[],[],[],(zda b c).Guests,(zda b c).Outs,()))
def zXX:=zq [(162,0,{n:=39,tm:=[(1,ti),(2,.lp 0 0),(4,.lp 1 0),(7,.lp 2 0),(8,ti)],lo:=[(0,[.sl 0 [],.sl 1 [],.sl 2 [],.sl 3 []]),(1,[.sl 4 [],.sl 5 [],.sl 6 [],ti]),(2,[.sl 7 [],.sl 8 [],.sl 9 [],ti])],ro:=[(0,.sl .int,false),(1,.mon,false),(2,.entry,false),(3,.entry,false),(4,.sl .int,true),(5,.guest,true),(6,.int,true),(7,.sl .int,true),(8,.guest,true),(9,.int,true)]})]
def zV9 (a:Host)(b:Int)(f:zc3 a b=true):∃N,zKo N a b=some [aT .bare<|zdj a b]:=by
 have e:=zK.1 f;refine zcw λN d=>?_;unfold zKo zdj zB oN nB;conv=>zeta
 refine must (zbs e) ?_;rw[show zmQ a b=hasB b (ln a.Mons) from rfl];cases g:hasB b (ln a.Mons);{rfl};{refine zcf rfl ?_;refine(zvG 8 (λi (t:lM)=>(b,(i:Int),0,(zda a b).Pending,a.Memory,a.Mons,a.Buffer,a.IoBuffer,[],[],[],t,(zda a b).Guests,(zda a b).Outs,())) _ (λi (c:List LI) j=>bif few (ln<|ap c [zc1 a b (i:Int)]) then j (ap c [zc1 a b (i:Int)]) else none) (λ(t:lM)=>some [.agg<|Ty.cells .bare (⟨t,(zda a b).Guests,(zda a b).Outs,(zda a b).Pending⟩:Bare)]) (λi h t rec=>?_) (λt rec=>?_) _ ([])<|d (by decide)).trans ?_;{simp only [show ilt (i:Int) 8=true from qK (by omega),zbh h (show 8<=big by decide),cT];exact must (zbs e) rfl};{simp only [show ilt ((8:Nat):Int) 8=false from qH (by omega),cF]};rw[zDv a b _ 8 0 [] (by decide)];simp only[zda,g,cT,jS]}
def zOO:vR 162 zqi:=kF2 zU8 zn zbH zzx zXX zV9
def zZe:zc2 zAU=true:=by decide
def zZW {p:Nat->Bool}:∀{n i q:Nat},zpS p n i=true->i<=q->q<i+n->p q=true
 | 0,i,q,_,a,b=>by omega
 |n+1,i,q,h,a,b=>by simp only[zpS,qE]at h;by_cases c:i=q;{subst c;exact h.1};{exact zZW h.2 (by omega) (by omega)}
def z5c {h:Host}{m:Int}(e:zb2 h=true)(l:hasB m (ln h.Mons)=true){p:Int}(j:hasB p 8=true):zc2 (zc1 h m p)=true:=by have i:=ziE e _ (zbM l mZ);have s:=zJG i;have f:h.Memory.all zc2=true:=(by unfold zb2 at e;simp only[zd2]at e;have b:=e.1;unfold zjW at b;simp only[zd2]at b;exact b.1);unfold zc1;rw[l,j];simp only[cT];have t:zbK (ix h.Mons m mZ).Outer p=ix (ix h.Mons m mZ).Outer p sZ:=(by unfold zbK;rw[zex s.1 j];rfl);rw[t];have d:∀(g:List LI) (q:Int),(hasB q (ln g)=true->zc2 (ix g q [])=true)->zc2 (zc5 g q)=true:=(by intro g q k;unfold zc5;cases b:hasB q (ln g);{exact zZe};{exact k b});cases c:ine (ix (ix h.Mons m mZ).Outer p sZ).Page (-1);{refine d _ _ (λk=>?_);obtain⟨q,rfl,u⟩:=zeI (n:=8) j;have a:fits (ix h.Mons m mZ) q=true:=(by unfold zfK at i;simp only[zd2]at i;exact zZW i.2.2.2.2.2.2.2.2.2.2 (by omega) (by omega));unfold fits znG at a;have r:zdO (ix (ix h.Mons m mZ).Outer (q:Int) sZ) noSlot=true:=(by rw[(zuz (ziE e _<|zbM l mZ) j).no];rw[zi1]at c;cases b:ieq (ix (ix h.Mons m mZ).Outer (q:Int) sZ).Page (-1);{rw [b]at c;cases c};{rfl});rw[r]at a;exact a};{exact d _ _ (λk=>qM.1 f _ (zbM k _))}
def zR8 {h:Host}{m:Int}(a:zb2 h=true)(b:hasB m (ln h.Mons)=true):∀(n i:Nat),i+n<=8->(zc6 h m n i).all zc2=true
 | 0,_,_=>rfl
 |n+1,i,c=>by simp only[zc6,k6,qE];exact⟨z5c a b<|qK (by omega),zR8 a b n (i+1) (by omega)⟩
def zsd {h:Host}{m:Int}(c:zb2 h=true)(b:hasB m (ln h.Mons)=true):zb0 (zB h m)=true:=by have a:=ziE c _ (zbM b mZ);unfold zfK at a;simp only[zd2]at a;unfold zB zb0 zjW;rw[b];simp only[cT,a.2.2.2.2.2.2.2.2.2.1,zR8 c b 8 0 (by decide),ln,zAu];simp only[ln]at a;rw[a.1,a.2.2.2.2.2.1,a.2.2.2.2.2.2.1];rfl
def zoO:zbb:=[(162,zqi)]++z9s
def zi6:zU zoO:=zi zOO zU8
def zfq (l:List Mon):List (List Guest):=l.map λx=>x.Guests
def zAc {l:List Mon}{m:Int}{x:Mon}(b:hasB m (ln l)=true)(c:x.Guests=(ix l m mZ).Guests):zfq (up l m x)=zfq l:=by obtain⟨k,rfl,a⟩:=zeI (n:=l.length) b;unfold zfq up;rw[List.map_set,kH,c,zbt a];have:=@u4 _ (l.map λx=>x.Guests) k (by simpa using a);simpa using this
def zLz {l b:List Mon}(h:zfq b=zfq l)(m:Int):(ix b m mZ).Guests=(ix l m mZ).Guests:=by unfold zfq at h;have a:(b.map λx=>x.Guests)[m.toNat]?=(l.map λx=>x.Guests)[m.toNat]?:=(by rw[h]);rw[qQ,qQ]at a;unfold ix;simp only[kC];cases c:b[m.toNat]? <;> cases d:l[m.toNat]? <;> rw [c,d]at a<;>simp at a ⊢;exact a
def zAb {h:Host}{m p:Int}{s:Slot}(a:hasB m (ln h.Mons)=true):zfq (zcJ h m p s).Mons=zfq h.Mons:=by rw[(zhZ h m p s).1];exact zAc a rfl
def zbbd {h:Host}{m p:Int}(a:hasB m (ln h.Mons)=true):zfq (zeM h m p).Mons=zfq h.Mons:=(zAb (h:=zgf h m p)<|zfQ a).trans (zAc a rfl)
def zbbc {h:Host}(b:Fit h):zfq (zd0 h).Mons=zfq h.Mons:=by unfold zd0;cases a:ieq (ln<|zcU h) 0;{rfl};{exact zbbd (zE9 b a).1}
def z1F {h:Host}{m p:Int}(a:Fit h)(c:hasB m (ln h.Mons)=true):zfq (fetched h m p).Mons=zfq h.Mons:=by have b:=zrU a c;exact((zAb (h:=landing (zd0 h) m p (ix (zcU<|zd0 h) 0 0))<|zfQ b).trans (zAc b rfl)).trans (zbbc a)
def zVA {h:Host}{m p n:Int}(b:hasB m (ln h.Mons)=true):zfq (zlz h m p n).Mons=zfq h.Mons:=by have a:zfq (zbP h m p).Mons=zfq h.Mons:=zAc b rfl;unfold zlz;cases ieq (wand .i64 n 2) 0;{unfold opened;cases ieq (wand .i64 (ix (ix (zbP h m p).Mons m mZ).Outer p sZ).Rights 2) 0;{exact a};{exact(zAb (h:=zbP h m p)<|zfQ b).trans a}};{rfl}
def z4q {h:Host}{m p n:Int}(b:Fit h)(a:hasB m (ln h.Mons)=true)(c:hasB p 8=true):zfq (mended h m p n).Mons=zfq h.Mons:=by unfold mended;cases ieq (ix (ix h.Mons m mZ).Outer p sZ).Page (-1);{exact zVA a};{exact(zVA (zmd b a c).2).trans (z1F b a)}
def zbcw {l a:List Mon}(h:zfq a=zfq l):a.length=l.length:=by have:=congrArg List.length h;simpa [zfq] using this
abbrev kZ:Kept:=Ty.dflt .kept
def zbdF {x:Guest}(f:zev x=true){p n:Int}(d:zfv x.Live p n=true):hasB (zcI x.Live p n) 8=true:=by have g:zdQ x.Live 4 8=true:=(by unfold zev at f;simp only[qE]at f;exact f.2.2.2.2.1);unfold zcI;rw[d];simp only[cT];unfold zfv at d;cases a:ieq (zbK x.Live p).Page (-1);{unfold zbK at a ⊢;cases e:hasB p (ln x.Live);{rw [e]at a;cases a};{rw [e]at a;simp only[cT]at a ⊢;unfold zdQ at g;simp only[zd2]at g;have c:=qM.1 g.1 _ (zbM e sZ);unfold zeT at c;cases b:zdO (ix x.Live p sZ) noSlot;{rw [b]at c;simp only[cF,zd2]at c;have:=zfX.1 c.2.1;rw[show wsub .i64 8 1=7 from rfl] at this;show hasB (ix x.Live p sZ).Page 8=true;exact qK (by omega)};{unfold zdO at b;rw[qE]at b;have:(ix x.Live p sZ).Page = -1:=qD b.1;rw[show ieq (ix x.Live p zV).Page (-1)=true from qK this]at a;cases a}}};{rw [a]at d;cases d}
def zcW (h:Host)(m g:Int):List Slot:=(ix (ix h.Mons m mZ).Guests g gZ).Live
def zcp (h:Host)(m g:Int):Kept:=ix (ix h.Mons m mZ).Tables g kZ
def zuo (h:Host)(a:Bool):List Entry:=bif a then h.IoBuffer else h.Buffer
def zs8 (b:List Entry)(m g a:Int):Option Entry:=zz2 b (zeZ m g) a
def zjG (b:List Entry)(m g a c:Int):Bool:=bif (zs8 b m g a).isSome then enough ((zs8 b m g a).getD ⟨0,0,0,0⟩).Rights c else false
def zft (h:Host)(m g a b:Int):Bool:=bif zlY (zcp h m g) a then (cond (ieq (zeS (zcp h m g) a).Page<|-1) true<|!enough (zeS (zcp h m g) a).Rights b) else true
def zcX (h:Host)(m g a:Int):Host:={h with Mons:=up h.Mons m {ix h.Mons m mZ with Tables:=up (ix h.Mons m mZ).Tables g (filled (zcp h m g) (zcW h m g) (ix h.Mons m mZ).Outer a)}}
def zUj (h:Host)(m g a:Int):Entry:=⟨zeZ m g,a,(zeS (zcp h m g) a).Page,(zeS (zcp h m g) a).Rights⟩
def zxc (h:Host)(m g a:Int)(b:Bool):Host:=bif b then {h with IoBuffer:=zqf h.IoBuffer (zUj h m g a)} else {h with Buffer:=zqf h.Buffer (zUj h m g a)}
def zfG (h:Host)(m g a:Int)(b:Bool):Host×Int×Bool:=(zxc h m g a b,(zeS (zcp h m g) a).Page,true)
def zhD (h:Host)(b:List Entry)(m g a c q:Int)(d:Bool):Host×Int×Bool :=
 bif zjG b m g a c then (h,((zs8 b m g a).getD ⟨0,0,0,0⟩).Host,true)
 else (cond (zft h m g a c) (zfG (zcX (mended h m q c) m g a) m g a d)<|zfG h m g a d)
def zhk (a:Int):Bool:=bif ieq a 1 then true else ieq a 2
def zb3 (h:Host)(m g page need:Int):Bool:=bif zcc h m g then (cond (zhk need) (zfv (zcW h m g) page need) false) else false
def lookOf (h:Host)(b:List Entry)(m g page need:Int)(io:Bool):Host×Int×Bool :=
 bif zb3 h m g page need then zhD (cond (ieq need 2) (zbP h m<|zcI (zcW h m g) page need) h) b m g page need (zcI (zcW h m g) page need) io else (h,-1,false)
structure Kp (h r:Host):Prop where
 shape:Shape r
 gs:zfq r.Mons=zfq h.Mons
def Kp.has {h r:Host}(k:Kp h r){m:Int}(a:hasB m (ln h.Mons)=true):hasB m (ln r.Mons)=true:=by rw[ln,zbcw k.gs];exact a
def z2S {h:Host}{m g c:Int}(d:Shape h)(e:hasB m (ln h.Mons)=true)(hg:hasB g (ln (ix h.Mons m mZ).Guests)=true):Shape (zcX h m g c):=by obtain⟨a,b⟩:=zc4 d e;have f:hasB g (ln (ix h.Mons m mZ).Tables)=true:=(by rw[ln,b.2.2.2];exact hg);exact zkt d ⟨a.1,a.2.1,a.2.2.1,a.2.2.2.1,a.2.2.2.2.1,zu6 a.2.2.2.2.2<|z2X<|a.2.2.2.2.2.2 _<|zbM f _⟩ ⟨b.1,b.2.1,b.2.2.1,by simpa using b.2.2.2⟩
def z4y {h r:Host}{m g a:Int}{i:Bool}(k:Kp h r):Kp h (zxc r m g a i):=by obtain⟨⟨b,c,d,e⟩,f⟩:=k.shape;unfold zxc;cases i;{exact⟨⟨⟨b,c,(zvU _ d).1,e⟩,f⟩,k.gs⟩};{exact⟨⟨⟨b,c,d,(zvU _ e).1⟩,f⟩,k.gs⟩}
structure LookAt (h:Host) (m g q need:Int):Prop where
 fit:Fit h
 hm:hasB m (ln h.Mons)=true
 hg:hasB g (ln (ix h.Mons m mZ).Guests)=true
 hq:hasB q 8=true
 hn:need=1\/need=2
 hs:SlotFit (ix (ix h.Mons m mZ).Outer q sZ)
def LookAt.mend {h:Host}{m g q a:Int}(A:LookAt h m g q a):z3m h m q a:=⟨A.fit,A.hm,A.hq,A.hn,A.hs⟩
def LookAt.kp {h:Host}{m g q a:Int}(A:LookAt h m g q a):Kp h (mended h m q a):=⟨(zwc A.fit A.hm A.hq).1,z4q A.fit A.hm A.hq⟩
def LookAt.fill {h:Host}{m g q a:Int}(A:LookAt h m g q a)(b:Int):Kp h (zcX (mended h m q a) m g b):=by have k:=A.kp;have hg:hasB g (ln (ix (mended h m q a).Mons m mZ).Guests)=true:=(by rw[zLz k.gs];exact A.hg);have e:zfq (zcX (mended h m q a) m g b).Mons=zfq (mended h m q a).Mons:=zAc (k.has A.hm) rfl;exact⟨z2S k.shape (k.has A.hm) hg,e.trans k.gs⟩
def zVS {h:Host}{b:List Entry}{m g page a q:Int}{io:Bool}(A:LookAt h m g q a):Kp h (zhD h b m g page a q io).1:=by unfold zhD;cases zjG b m g page a;{cases zft h m g page a;{exact z4y ⟨A.fit.1,rfl⟩};{exact z4y (A.fill page)}};{exact⟨A.fit.1,rfl⟩}
def zdM {h:Host}{m g:Int}(a:zcc h m g=true):zb2 h=true/\hasB m (ln h.Mons)=true/\hasB g (ln (ix h.Mons m mZ).Guests)=true:=by unfold zcc at a;simp only[zd2]at a;exact a
def z1G {h:Host}{m g:Int}(e:zcc h m g=true):zev (ix (ix h.Mons m mZ).Guests g gZ)=true:=by obtain⟨b,c,d⟩:=zdM e;have a:=ziE b _ (zbM c mZ);unfold zfK at a;simp only[zd2]at a;exact qM.1 a.2.2.2.2.2.2.2.2.2.1 _ (zbM d _)
def zM6 {n:Int}(h:zhk n=true):n=1\/n=2:=by unfold zhk at h;cases a:ieq n 1;{rw [a]at h;exact .inr (qD h)};{exact .inl (qD a)}
def zD4 {h:Host}{m g page a:Int}(s:SmH h)(d:zb3 h m g page a=true) :
 LookAt h m g (zcI (zcW h m g) page a) a/\LookAt (zbP h m<|zcI (zcW h m g) page a) m g (zcI (zcW h m g) page a) a:=by
 unfold zb3 at d;simp only[zd2]at d;obtain⟨l,p,r⟩:=d;obtain⟨i,b,j⟩:=zdM l;have f:hasB (zcI (zcW h m g) page a) 8=true:=zbdF (z1G l) r;have c:=zuz (ziE i _<|zbM b mZ) f;have q:=zfD s i;refine⟨⟨q,b,j,f,zM6 p,c⟩,⟨zYD q b,zfQ b,?_,f,zM6 p,?_⟩⟩
 .have e:zfq (zbP h m<|zcI (zcW h m g) page a).Mons=zfq h.Mons:=zAc b rfl;rw[zLz e];exact j
 .obtain⟨k,rfl,hk⟩:=zeI (n:=h.Mons.length) b;unfold zbP;rw[zd8 hk];exact c
def zuZ {h:Host}{b:List Entry}{m g page need:Int}{io:Bool}(a:SmH h)(f:zcc h m g=true):Kp h (lookOf h b m g page need io).1:=by have d:=zfD a (zdM f).1;unfold lookOf;cases c:zb3 h m g page need;{exact⟨d.1,rfl⟩};{obtain⟨A,B⟩:=zD4 a c;simp only[cT];cases ieq need 2;{exact zVS A};{have k:=zVS (b:=b) (page:=page) (io:=io) B;have e:zfq (zbP h m<|zcI (zcW h m g) page need).Mons=zfq h.Mons:=zAc A.hm rfl;exact⟨k.shape,k.gs.trans e⟩}}
def zlB (x:Host×Int×Bool):LA:=[.agg<|zbi x.1,.one<|.i .i64 x.2.1,.one<|.b x.2.2]
def zi2 {h:Host}{b:List Entry}{m g c a:Int}{e:Bool}(d:zb3 h m g c a=false):lookOf h b m g c a e=(h,-1,false):=by unfold lookOf;rw[d];rfl
def zpF {h:Host}{m g b a:Int}(c:zcc h m g=false):zb3 h m g b a=false:=by unfold zb3;rw[c];rfl
def zOo {h:Host}{m g:Int}(a:zb2 h=false):zcc h m g=false:=by unfold zcc;rw[a];rfl
def zOp {h:Host}{m g:Int}(a:hasB m (ln h.Mons)=false):zcc h m g=false:=by unfold zcc;rw[a];cases zb2 h<;>rfl
def zOq {h:Host}{m g:Int}(a:hasB g (ln (ix h.Mons m mZ).Guests)=false):zcc h m g=false:=by unfold zcc;rw[a];cases zb2 h<;>cases hasB m (ln h.Mons)<;>rfl
def zOr {h:Host}{m g:Int}(a:zb2 h=true)(b:hasB m (ln h.Mons)=true)(c:hasB g (ln (ix h.Mons m mZ).Guests)=true):zcc h m g=true:=by unfold zcc;rw[a,b,c];rfl
structure LookF (r:Host) (m g:Int):Prop where
 hm:hasB m (ln r.Mons)=true
 hg:hasB g (ln (ix r.Mons m mZ).Guests)=true
 ht:hasB g (ln (ix r.Mons m mZ).Tables)=true
 hk:SmK (zcp r m g)
 hb:r.Buffer.length<=1048576
 hi:r.IoBuffer.length<=1048576
def znE {h r:Host}{m g:Int}(k:Kp h r)(b:hasB m (ln h.Mons)=true)(hg:hasB g (ln (ix h.Mons m mZ).Guests)=true):LookF r m g:=by obtain⟨d,e⟩:=zc4 k.shape (k.has b);have a:hasB g (ln (ix r.Mons m mZ).Guests)=true:=(by rw[zLz k.gs];exact hg);have c:hasB g (ln (ix r.Mons m mZ).Tables)=true:=(by rw[ln,e.2.2.2];exact a);exact⟨k.has b,a,c,d.2.2.2.2.2.2 _<|zbM c _,k.shape.1.2.2.1,k.shape.1.2.2.2⟩
@[simp] abbrev zmq (h:Host)(b:List Entry)(m g c a:Int)(d:Bool):Bool:=pc (zdz h)
@[simp] abbrev zgL (h:Host)(b:List Entry)(m g page need:Int)(io:Bool):Host:=(lookOf h b m g page need io).1
@[simp] abbrev zmp (h:Host)(b:List Entry)(m g c a:Int)(d:Bool):Int:=(lookOf h b m g c a d).2.1
@[simp] abbrev ziT (h:Host)(b:List Entry)(m g c a:Int)(d:Bool):Bool:=(lookOf h b m g c a d).2.2
def ztZ:LW
 |[.agg [.s (.sl .int) c,.s .mon d,.s .entry e,.s .entry f],.one<|.s .entry g,.one<|.i .i64 h,.one<|.i .i64 j,.one<|.i .i64 k,.one<|.i .i64 l,.one<|.b m]=>some (zmq (⟨c,d,e,f⟩:Host) g h j k l m,[aH<|zgL (⟨c,d,e,f⟩:Host) g h j k l m,aI<|zmp (⟨c,d,e,f⟩:Host) g h j k l m,aB<|ziT (⟨c,d,e,f⟩:Host) g h j k l m])
 |_=>none
abbrev zSt (b:lM)(c:lN)(d:lE)(e:lE)(a:Int)(g:Int)(f:Int):Mon :=
 (ix (zgv (⟨b,c,d,e⟩:Host) a g f).Mons a zh)
abbrev zSu (a:Host)(b c:Int)(d e:Int):Int :=
 (zfw (ix (ix a.Mons b zh).Guests c zA).Live d e)
def zOa (N:Nat)(a:Int)(b:lM)(c:lN)(d:lE)(e:lE):OA:=
 (some [aH (⟨b,c,d,e⟩:Host),aI a,aB true])
def zry (N:Nat)(l:Int)(m:Bool)(n:Int)(c:Int)(d:Int)(k:lM)(e:lN)(a:lE)(b:lE)(f:lM)(g:lN)(h:lE)(i:lE):OA:=
 let q:=(⟨n,l,c,d⟩:Entry); (share (λ(j:(Int×Int×lM×lN×lE×lE×lM×lN×lE×lE×Unit))=>zOa N j.1 j.2.2.1 j.2.2.2.1 j.2.2.2.2.1 j.2.2.2.2.2.1) λp=>cond m (oN (zh6 b q)<|p (c,d,k,e,a,zhK b q,f,g,h,i,()))<|oN (zh6 a q)<|p (c,d,k,e,zhK a q,b,f,g,h,i,()))
def ztK (N:Nat)(d:lM)(e:lN)(f:lE)(g:lE)(b:Int)(i:Int)(h:Int)(a:Int)(c:Int)(y:(Int×Bool×Int×Int×Int×Int×Int×Int×Int×lM×lN×lE×lE×lM×lN×lE×lE×Unit)->OA)(r:Bool)(s:Int)(t:Int)(u:Int)(v:Int)(k:Int)(l:lM)(m:lN)(n:lE)(p:lE):OA:=
 let D:=(⟨d,e,f,g⟩:Host);let w:=zgv D b i h;let x:=inb b<|ln w.Mons;let j:=zSt d e f g b i h;let C:=ix j.Tables a zeO;let A:=(ix j.Guests a zA).Live; (oN (zgJ D b i h)<|oN x<|oN x<|oN (inb a<|ln j.Tables)<|oN x<|oN (inb a<|ln j.Guests)<|oN x<|oN (zv0 C A j.Outer c)<|oN (inb a<|ln j.Tables)<|share (up w.Mons b ({j with Tables:=(up j.Tables a<|zvZ C A j.Outer c)}:Mon)) (λq=>let B:=(ix q b zh).Tables;let z:=ix B a zeO; (oN (inb b<|ln q)<|oN (inb a<|ln B)<|oN (zc8 z c)<|y (c,r,s,t,u,v,k,(zjL z c).Page,(zjL z c).Rights,w.Memory,q,w.Buffer,w.IoBuffer,l,m,n,p,()))))
def znp (N:Nat)(d:Int)(e:Int)(c:Int)(n:Int)(p:Bool)(v:Int)(q:Int)(r:Int)(s:Int)(t:Int)(f:Int)(g:lM)(b:lN)(h:lE)(i:lE)(j:lM)(k:lN)(l:lE)(m:lE):OA:=
 let z:=(ix b d zh).Tables;let x:=ix z e zeO;let w:=zjL x c; (oN (inb d<|ln b)<|oN (inb e<|ln z)<|oN (zc8 x c)<|share (λ(a:(Int×Bool×Int×Int×Int×Int×Int×Int×Int×lM×lN×lE×lE×lM×lN×lE×lE×Unit))=>zry N a.1 a.2.1 a.2.2.1 a.2.2.2.2.2.2.2.1 a.2.2.2.2.2.2.2.2.1 a.2.2.2.2.2.2.2.2.2.1 a.2.2.2.2.2.2.2.2.2.2.1 a.2.2.2.2.2.2.2.2.2.2.2.1 a.2.2.2.2.2.2.2.2.2.2.2.2.1 a.2.2.2.2.2.2.2.2.2.2.2.2.2.1 a.2.2.2.2.2.2.2.2.2.2.2.2.2.2.1 a.2.2.2.2.2.2.2.2.2.2.2.2.2.2.2.1 a.2.2.2.2.2.2.2.2.2.2.2.2.2.2.2.2.1) (λu=>let y:=ztK N g b h i d v n e c u p q r s t f j k l m; (cond (nB<|zpH x c) y<|cond (ieq w.Page<|-1) y<|oN (zbm w.Rights n)<|cond (nB<|zdv w.Rights n) y<|u (c,p,q,r,s,t,f,w.Page,w.Rights,g,b,h,i,j,k,l,m,()))))
def ztL (N:Nat)(g:Int)(a:Host)(h e f:Int)(l:lE)(n:Bool):OA:=
 let i:=zk3 g h;let k:=zSu a g h e f;let m:=ix a.Mons g zh;let s:=(ix m.Guests h zA).Live;let d:=zhe l i e;let j:=d.Rights; (oN (inb g<|ln a.Mons)<|oN (inb h<|ln m.Guests)<|oN (zin s e f)<|cond (nB<|ze1 s e f) (some [aH a,aI<|-1,aB false])<|oN (zh8 g h)<|cond (ieq f 2) (oN (inb g<|ln a.Mons)<|oN (inb k<|ln m.Dirty)<|share (up a.Mons g ({m with Dirty:=(up m.Dirty k true)}:Mon)) λp=>oN (zir l i e)<|share (λ(c:(Int×Int×Int×Int×Bool×Int×Int×Int×Int×Int×Int×lM×lN×lE×lE×lM×lN×lE×lE×Unit))=>znp N c.1 c.2.1 c.2.2.1 c.2.2.2.1 c.2.2.2.2.1 c.2.2.2.2.2.1 c.2.2.2.2.2.2.1 c.2.2.2.2.2.2.2.1 c.2.2.2.2.2.2.2.2.1 c.2.2.2.2.2.2.2.2.2.1 c.2.2.2.2.2.2.2.2.2.2.1 c.2.2.2.2.2.2.2.2.2.2.2.1 c.2.2.2.2.2.2.2.2.2.2.2.2.1 c.2.2.2.2.2.2.2.2.2.2.2.2.2.1 c.2.2.2.2.2.2.2.2.2.2.2.2.2.2.1 c.2.2.2.2.2.2.2.2.2.2.2.2.2.2.2.1 c.2.2.2.2.2.2.2.2.2.2.2.2.2.2.2.2.1 c.2.2.2.2.2.2.2.2.2.2.2.2.2.2.2.2.2.1 c.2.2.2.2.2.2.2.2.2.2.2.2.2.2.2.2.2.2.1) λr=>cond (zgh l i e) (oN (zbm j f)<|cond (zdv j f) (some [aH ({a with Mons:=p}:Host),aI d.Host,aB true])<|r (g,h,e,f,n,k,i,d.Tag,d.Page,d.Host,j,a.Memory,p,a.Buffer,a.IoBuffer,[],[],[],[],()))<|r (g,h,e,f,n,k,i,d.Tag,d.Page,d.Host,j,a.Memory,p,a.Buffer,a.IoBuffer,[],[],[],[],()))<|oN (zir l i e)<|share (λ(b:(Int×Int×Int×Int×Bool×Int×Int×Int×Int×Int×Int×lM×lN×lE×lE×lM×lN×lE×lE×Unit))=>znp N b.1 b.2.1 b.2.2.1 b.2.2.2.1 b.2.2.2.2.1 b.2.2.2.2.2.1 b.2.2.2.2.2.2.1 b.2.2.2.2.2.2.2.1 b.2.2.2.2.2.2.2.2.1 b.2.2.2.2.2.2.2.2.2.1 b.2.2.2.2.2.2.2.2.2.2.1 b.2.2.2.2.2.2.2.2.2.2.2.1 b.2.2.2.2.2.2.2.2.2.2.2.2.1 b.2.2.2.2.2.2.2.2.2.2.2.2.2.1 b.2.2.2.2.2.2.2.2.2.2.2.2.2.2.1 b.2.2.2.2.2.2.2.2.2.2.2.2.2.2.2.1 b.2.2.2.2.2.2.2.2.2.2.2.2.2.2.2.2.1 b.2.2.2.2.2.2.2.2.2.2.2.2.2.2.2.2.2.1 b.2.2.2.2.2.2.2.2.2.2.2.2.2.2.2.2.2.2.1) λq=>cond (zgh l i e) (oN (zbm j f)<|cond (zdv j f) (some [aH a,aI d.Host,aB true])<|q (g,h,e,f,n,k,i,d.Tag,d.Page,d.Host,j,a.Memory,a.Mons,a.Buffer,a.IoBuffer,[],[],[],[],()))<|q (g,h,e,f,n,k,i,d.Tag,d.Page,d.Host,j,a.Memory,a.Mons,a.Buffer,a.IoBuffer,[],[],[],[],()))
def zr7 (N:Nat)(a:Host)(g:lE)(b c:Int)(h d:Int)(i:Bool):OA:=
 let f:=ztL N b a c h d g i;let e:=wsub .i64 (ln (ix a.Mons b zh).Guests) 1; (oN (zct a)<|cond (nB<|zcn a) (some [aH a,aI<|-1,aB false])<|oN (zM b 0<|wsub .i64 (ln a.Mons) 1)<|cond (nB<|zk b 0<|wsub .i64 (ln a.Mons) 1) (some [aH a,aI<|-1,aB false])<|oN (inb b<|ln a.Mons)<|oN (zM c 0 e)<|cond (nB<|zk c 0 e) (some [aH a,aI<|-1,aB false])<|cond (ine d 1) (cond (ine d 2) (some [aH a,aI<|-1,aB false]) f) f)
def zt8:=zq [(218,999999,{n:=0,tm:=[],lo:=[],ro:=[]}),(218,1007023,{n:=210,tm:=[(2,ti),(3,ti),(4,ti),(5,ti),(6,.b),(7,.lp 0 0),(14,.lp 1 0),(17,ti),(19,ti),(20,.lp 2 0)],lo:=[(0,[.sl 0 [],.sl 1 [],.sl 2 [],.sl 3 []]),(1,[.sl 4 [],.sl 5 [],.sl 6 [],.sl 7 []]),(2,[ti,ti,ti,ti])],ro:=[(0,.sl .int,true),(1,.mon,true),(2,.entry,true),(3,.entry,true),(4,.sl .int,true),(5,.mon,true),(6,.entry,true),(7,.entry,true)],kr:=1}),(218,1009011,{n:=210,tm:=[(4,ti),(6,.b),(7,.lp 0 0),(14,.lp 1 0),(19,ti),(20,.lp 2 0),(22,.lp 3 0)],lo:=[(0,[.sl 0 [],.sl 1 [],.sl 2 [],.sl 3 []]),(1,[.sl 4 [],.sl 5 [],.sl 6 [],.sl 7 []]),(2,[ti,ti,ti,ti]),(3,[ti,ti])],ro:=[(0,.sl .int,true),(1,.mon,true),(2,.entry,true),(3,.entry,true),(4,.sl .int,true),(5,.mon,true),(6,.entry,true),(7,.entry,true)],kr:=1}),(218,1005003,{n:=210,tm:=[(7,.lp 0 0),(14,.lp 1 0),(22,.lp 2 0)],lo:=[(0,[.sl 0 [],.sl 1 [],.sl 2 [],.sl 3 []]),(1,[.sl 4 [],.sl 5 [],.sl 6 [],.sl 7 []]),(2,[ti,ti])],ro:=[(0,.sl .int,true),(1,.mon,true),(2,.entry,true),(3,.entry,true),(4,.sl .int,true),(5,.mon,true),(6,.entry,true),(7,.entry,true)],kr:=1})]
def zQr (N:Nat)(a:Host)(b c:Int)(d e:Int)(f:Bool):zUk (cQ zoO zp8 z2k z3d) zt8 N 12 218 [true,true,true,true,false,false,false,false,false,false] [(4,2)] 1 1 [[0],[1],[2],[4],[7]] .mon [aH a,aS .entry a.Buffer,aI b,aI c,aI d,aI e,aB f]=zr7 N a a.Buffer b c d e f:=by kernel_rfl
def zQs (N:Nat)(a:Host)(b c:Int)(d e:Int)(f:Bool):zUk (cQ zoO zp8 z2k z3d) zt8 N 12 218 [true,true,true,true,false,false,false,false,false,false] [(4,3)] 1 1 [[0],[1],[2],[4],[7]] .mon [aH a,aS .entry a.IoBuffer,aI b,aI c,aI d,aI e,aB f]=zr7 N a a.IoBuffer b c d e f:=by kernel_rfl
def zEZ {N:Nat}{r:Host}{m g a:Int}{b:Bool}{z1 z2 z3 z4}(c:r.Buffer.length<=1048576)(d:r.IoBuffer.length<=1048576) :
 zry N a b (zeZ m g) (zeS (zcp r m g) a).Page (zeS (zcp r m g) a).Rights r.Memory r.Mons r.Buffer r.IoBuffer z1 z2 z3 z4=some (zlB<|zfG r m g a b):=by
 unfold zry oN
 conv=>zeta
 refine shr ?_;cases b
 .exact zcf rfl (must (zbs c) rfl)
 .exact must rfl (must (zbs d) rfl)
def zVq {N:Nat}{r:Host}{m g a b q:Int}{c:Bool}{R:OA}{r11}{u6 u7 u8 u9 u10 z1 z2 z3 z4}(A:LookAt r m g q b)(d:r11 (a,c,u6,u7,u8,u9,u10,(zeS (zcp (zcX (mended r m q b) m g a) m g) a).Page,(zeS (zcp (zcX (mended r m q b) m g a) m g) a).Rights,(zcX (mended r m q b) m g a).Memory,(zcX (mended r m q b) m g a).Mons,(zcX (mended r m q b) m g a).Buffer,(zcX (mended r m q b) m g a).IoBuffer,z1,z2,z3,z4,())=R) :
 ztK N r.Memory r.Mons r.Buffer r.IoBuffer m q b g a r11 c u6 u7 u8 u9 u10 z1 z2 z3 z4=R:=by
 have M:=znE A.kp A.hm A.hg;have F:=znE (A.fill a) A.hm A.hg;unfold ztK oN
 conv=>zeta
 exact must (zbs A.mend) (must (zC M.hm)<|must (zC M.hm)<|must (zC M.ht)<|must (zC M.hm)<|must (zC M.hg)<|must (zC M.hm)<|must (zbs M.hk)<|must (zC M.ht)<|shr<|must (zC F.hm)<|must (zC F.ht)<|must (zbs F.hk) d)
def z0F {r:Host}{m g a b:Int}(h:zlY (zcp r m g) a=false):zft r m g a b=true:=by unfold zft;rw[h];rfl
def z0G {r:Host}{m g a b:Int}(h:ieq (zeS (zcp r m g) a).Page (-1)=true):zft r m g a b=true:=by unfold zft;rw[h];cases zlY (zcp r m g) a<;>rfl
def z0H {r:Host}{m g a b:Int}(h:enough (zeS (zcp r m g) a).Rights b=false):zft r m g a b=true:=by unfold zft;rw[h];cases zlY (zcp r m g) a<;>cases ieq (zeS (zcp r m g) a).Page (-1)<;>rfl
def z0I {r:Host}{m g a b:Int}(c:zlY (zcp r m g) a=true)(d:ieq (zeS (zcp r m g) a).Page (-1)=false)(e:enough (zeS (zcp r m g) a).Rights b=true):zft r m g a b=false:=by unfold zft;rw[c,d,e];rfl
def zu0 {r:Host}{m g a b q:Int}{c:Bool}(h:zft r m g a b=true):(cond (zft r m g a b) (zfG (zcX (mended r m q b) m g a) m g a c)<|zfG r m g a c)=zfG (zcX (mended r m q b) m g a) m g a c:=by rw[h];rfl
def z0j {r:Host}{m g a b q:Int}{c:Bool}(h:zft r m g a b=false):(cond (zft r m g a b) (zfG (zcX (mended r m q b) m g a) m g a c)<|zfG r m g a c)=zfG r m g a c:=by rw[h];rfl
def zE0 {N:Nat}{r:Host}{m g a b q:Int}{f:Bool}{u7 u8 u9 u10 z1 z2 z3 z4}(A:LookAt r m g q b) :
 znp N m g a b f q (zeZ m g) u7 u8 u9 u10 r.Memory r.Mons r.Buffer r.IoBuffer z1 z2 z3 z4=some (zlB<|cond (zft r m g a b) (zfG (zcX (mended r m q b) m g a) m g a f)<|zfG r m g a f):=by
 have M:=znE ⟨A.fit.1,rfl⟩ A.hm A.hg;have F:=znE (A.fill a) A.hm A.hg;unfold znp oN nB
 conv=>zeta
 refine must (zC M.hm) (must (zC M.ht)<|must (zbs M.hk)<|shr<|brN (λc=>?_) λc=>br (λd=>?_) λd=>must rfl (brN (λe=>?_) λe=>?_))
 .rw [zu0<|z0F c];exact zVq A (zEZ (r:=zcX (mended r m q b) m g a) (m:=m) (g:=g) F.hb F.hi)
 .rw [zu0<|z0G d];exact zVq A (zEZ (r:=zcX (mended r m q b) m g a) (m:=m) (g:=g) F.hb F.hi)
 .rw [zu0<|z0H e];exact zVq A (zEZ (r:=zcX (mended r m q b) m g a) (m:=m) (g:=g) F.hb F.hi)
 .rw [z0j<|z0I c d e];exact zEZ (r:=r) (m:=m) (g:=g) M.hb M.hi
def zE3 {b:List Entry}{m g a c:Int}(h:(zs8 b m g a).isSome=false):zjG b m g a c=false:=by unfold zjG;rw[h];rfl
def zpB {b:List Entry}{m g a c:Int}{x:Bool}(d:(zs8 b m g a).isSome=true)(h:enough ((zs8 b m g a).getD ⟨0,0,0,0⟩).Rights c=x):zjG b m g a c=x:=by unfold zjG;rw[d,h];rfl
def zpE {r:Host}{b:List Entry}{m g a c q:Int}{d:Bool}(h:zjG b m g a c=false):zhD r b m g a c q d=bif zft r m g a c then zfG (zcX (mended r m q c) m g a) m g a d else zfG r m g a d:=by unfold zhD;rw[h];rfl
def zE6 {r:Host}{b:List Entry}{m g a c q:Int}{d:Bool}(h:zjG b m g a c=true):zhD r b m g a c q d=(r,((zs8 b m g a).getD ⟨0,0,0,0⟩).Host,true):=by unfold zhD;rw[h];rfl
def zJF {h:Host}{b:List Entry}{m g c a:Int}{d:Bool}(e:zb3 h m g c a=true):lookOf h b m g c a d=zhD (cond (ieq a 2) (zbP h m<|zcI (zcW h m g) c a) h) b m g c a (zcI (zcW h m g) c a) d:=by unfold lookOf;rw[e];rfl
def z4e {N:Nat}{r:Host}{b:List Entry}{m g c a:Int}{f:Bool}(p:SmH r)(hg:zcc r m g=true)(k:zhk a=true) :
 ztL N m r g c a b f=some (zlB (lookOf r b m g c a f)):=by
 obtain⟨q,h,l⟩:=zdM hg;unfold ztL oN nB
 conv=>zeta
 refine must (zC h) (must (zC l) (must rfl (brN (fun j=>?_) (fun j=>must rfl ?_))))
 .have:zb3 r m g c a=false:=by
   unfold zb3;rw[hg,k,show zfv (zcW r m g) c a=false from j];rfl
  rw[zi2 this];rfl
 .have hl:zb3 r m g c a=true:=by
   unfold zb3;rw[hg,k,show zfv (zcW r m g) c a=true from j];rfl
  obtain⟨A,B⟩:=zD4 p hl;rw[zJF hl];have n:hasB (zcI (zcW r m g) c a) (ln (ix r.Mons m mZ).Dirty)=true:=zex (zc4 A.fit.1 h).2.2.2.1 A.hq;refine br (fun i=>?_) (fun i=>?_)
  .rw [i]
   show _=some (zlB (zhD (zbP r m (zcI (zcW r m g) c a)) b m g c a (zcI (zcW r m g) c a) f))
   refine must (zC h) (must (zC n) (shr (must rfl (shr (br (fun d=>must rfl (br (fun e=>?_) (fun e=>?_))) (fun d=>?_))))))
   .rw [zE6 (zpB d e)];rfl
   .rw [zpE (zpB d e)];exact zE0 (r:=zbP r m (zcI (zcW r m g) c a)) B
   .rw [zpE (zE3 d)];exact zE0 (r:=zbP r m (zcI (zcW r m g) c a)) B
  .rw [i]
   show _=some (zlB (zhD r b m g c a (zcI (zcW r m g) c a) f))
   refine must rfl (shr (br (fun d=>must rfl (br (fun e=>?_) (fun e=>?_))) (fun d=>?_)))
   .rw [zE6 (zpB d e)];rfl
   .rw [zpE (zpB d e)];exact zE0 A
   .rw [zpE (zE3 d)];exact zE0 A
def zTO (a:Host)(f:List Entry)(b c:Int)(e d:Int)(g:Bool)(t:zbS big [aH a,aS .entry f,aI b,aI c,aI e,aI d,aB g])(r:zmq a f b c e d g=true):∃N,zr7 N a f b c e d g=some [aH<|zgL a f b c e d g,aI<|zmp a f b c e d g,aB<|ziT a f b c e d g]:=by
 have j:=(zS a).1 (zK.1 r);refine⟨0,?_⟩;show _=some (zlB<|lookOf a f b c e d g);unfold zr7 oN nB;conv=>zeta
 refine must rfl (brN (λk=>?_) λk=>must rfl ?_);{rw [zi2<|zpF<|zOo k];rfl};rw[show zk b 0 (wsub .i64 (ln a.Mons) 1)=hasB b (ln a.Mons) from zr5 j.2.1.1 b];refine brN (λi=>?_) (λi=>must (zC i) (must rfl ?_));{rw [zi2<|zpF<|zOp i];rfl};have s:(ix a.Mons b mZ).Guests.length<=1048576:=(j.2.1.2 _<|zbM i _).2.2.2.1.1;rw[show zk c 0 (wsub .i64 (ln (ix a.Mons b zh).Guests) 1)=hasB c (ln (ix a.Mons b mZ).Guests) from zr5 s c];refine brN (λl=>?_) (λl=>?_);{rw [zi2<|zpF<|zOq l];rfl};have hg:=zOr k i l;have p:∀{n:Int},zhk n=false->zb3 a b c e n=false:=λ{n} h=>(by unfold zb3;rw[hg,h];rfl);rw[zi1,zi1];cases m:ieq d 1;{cases q:ieq d 2;{have:zhk d=false:=(by unfold zhk;rw[m,q];rfl);rw[zi2<|p this];rfl};{exact z4e j hg (by unfold zhk;rw[m,q];rfl)}};{exact z4e j hg (by unfold zhk;rw[m];rfl)}
def zMu:zfn Tryz.prog 218 [true,true,true,true,false,false,false,false,false,false] (some (1,1,[[0],[1],[2],[4],[7]])) ztZ:=by refine zOs (kt:=.mon) (zid zi6 zn zbH zzx) (zkz (by kernel_rfl)) ?_;intro p s x f i w v h;have t:=zkF v;have g:p=[(4,2)]\/p=[(4,3)]:=(by rw[show zjP 218=[[(4,2)],[(4,3)]] from by kernel_rfl]at f;simpa using f);unfold ztZ at h;split at h;{rename_i a b c d r j k l m n;obtain⟨u,rfl⟩:=zfd h;obtain⟨N,q⟩:=zTO (⟨a,b,c,d⟩:Host) r j k l m n t u;refine⟨⟨_,rfl⟩,rfl,zt8,N,12,?_⟩;rcases g with rfl|rfl;{have e:=i 4 2 (by simp);simp only[zF,kA,AV.cvs] at e;cases e;exact(zQr N (⟨a,b,c,d⟩:Host) j k l m n).trans q};{have e:=i 4 3 (by simp);simp only[zF,kA,AV.cvs] at e;cases e;exact(zQs N (⟨a,b,c,d⟩:Host) j k l m n).trans q}};{cases h}
def z8k:zgB:=[(218,[true,true,true,true,false,false,false,false,false,false],some (1,1,[[0],[1],[2],[4],[7]]),ztZ)]++z3d
def zik:zfg z8k:=zr3 zzx (by
 intro x a;simp only[qG,qO,or_false]at a;rcases a with rfl
 .exact zMu)
def gOf (h:Host)(m g:Int):Guest:=ix (ix h.Mons m mZ).Guests g gZ
def zhi (h:Host)(m g:Int)(x:Guest):Host:={h with Mons:=up h.Mons m {ix h.Mons m mZ with Guests:=up (ix h.Mons m mZ).Guests g x}}
def zjx (h:Host)(m g:Int)(x:Guest)(w:Bool):Host×Int×Bool:=lookOf h h.Buffer m g (zbn<|address x) (zcx w) false
def ziu (L:Host×Int×Bool)(m g:Int)(x:Guest)(w:Bool):Host :=
 bif L.2.2 then (cond w (zhi {L.1 with Memory:=zbX L.1.Memory L.2.1 (zd9<|address x) x.A} m g<|zci x)<|zhi L.1 m g<|loaded x<|cellAt L.1.Memory L.2.1<|zd9<|address x)
 else zhi L.1 m g (stopped x<|zs7 (zbn<|address x) w)
def owned (h:Host)(m:Int):Host:=bif ilt (ix h.Mons m mZ).Own 1000000000 then {h with Mons:=up h.Mons m {ix h.Mons m mZ with Own:=zQ .i64 (ix h.Mons m mZ).Own 1}} else h
def zjd (h:Host)(m n:Int):Host:=bif ilt (ln (ix h.Mons m mZ).Outs) 40 then {h with Mons:=up h.Mons m {ix h.Mons m mZ with Outs:=ap (ix h.Mons m mZ).Outs [n]}} else h
def zfm (h:Host)(m:Int)(x:Guest)(w:Int):Host:=bif (cond (ine w 6) (ieq (zoi (ix h.Mons m mZ).Traps x.Ctl.Traps<|zgx w) 2) false) then owned h m else h
def zhS (h:Host)(m:Int)(x:Guest)(w:Int):Host:=bif (cond (zil x.Ctl.Traps w) (ieq w 5) false) then zjd h m (zcL x.Prog x.Pc).X else h
def zlU (h:Host)(m g:Int)(x:Guest)(w:Int):Host:=zhi (zhS (zfm h m x w) m x w) m g (zgA x x.Ctl.Traps w)
def zNK (h:Host)(m g:Int)(x:Guest)(w:Int):Host×Bool :=
 bif ieq w 0 then (h,false) else (bif ieq w 1 then (zhi h m g<|interrupted x,true) else (bif ieq w 2 then (zhi h m g<|plainly x,true) else
  (cond (cond (ieq w 3) true<|ieq w 4) (ziu (zjx h m g x<|ieq w 4) m g x<|ieq w 4,true) (zlU h m g x w,true))))
def zcN (h:Host)(m g:Int):Host×Bool:=bif zcc h m g then zNK h m g (gOf h m g) (zN<|gOf h m g) else (h,false)
def zff (x:Host×Bool):LA:=[.agg<|zbi x.1,.one<|.b x.2]
def zme {h:Host}{m g:Int}(b:SmH h)(a:hasB m (ln h.Mons)=true)(hg:hasB g (ln (ix h.Mons m mZ).Guests)=true):SmG (gOf h m g):=(b.2.1.2 _<|zbM a _).2.2.2.1.2 _ (zbM hg _)
def z2T {h:Host}{m g:Int}{x:Guest}(c:Shape h)(d:hasB m (ln h.Mons)=true)(e:SmG x):Shape (zhi h m g x):=by obtain⟨a,b⟩:=zc4 c d;exact zkt c ⟨a.1,a.2.1,a.2.2.1,zFg a.2.2.2.1 e,a.2.2.2.2⟩ ⟨b.1,b.2.1,b.2.2.1,by simpa using b.2.2.2⟩
def zbcN (o i t:Int):ieq (zoi o i t) 1=zew i t:=by unfold zoi;cases zew i t;{cases zew o t<;>rfl};{rfl}
def zbcO {o i t:Int}(h:zew i t=true):ieq (zoi o i t) 2=false:=by unfold zoi;rw[h];rfl
def zp9 {h:Host}{m:Int}(b:hasB m (ln h.Mons)=true)(x:Mon):ix (up h.Mons m x) m mZ=x:=by obtain⟨k,rfl,a⟩:=zeI (n:=h.Mons.length) b;exact zd8 a _ _
@[simp] abbrev zcE (h:Host)(m g:Int):Host:=(zcN h m g).1
@[simp] abbrev zcP (h:Host)(m g:Int):Bool:=(zcN h m g).2
def zUl {a:Type}{l:List a}{x:a}(h:ilt (ln l) 40=true):few (ln<|ap l [x])=true:=by have:=qD h;simp only[ln] at this;exact zhW (by simp[ap];omega)
def z0L {h:Host}{m:Int}{x:Guest}{w:Int}(a:(cond (zil x.Ctl.Traps w) (ieq w 5) false)=false):zhS h m x w=h:=by unfold zhS;rw[a];rfl
def zSp {h:Host}{m:Int}{x:Guest}{w:Int}(a:ilt (ln (ix h.Mons m mZ).Outs) 40=false):zhS h m x w=h:=by unfold zhS zjd;rw[a];cases (cond (zil x.Ctl.Traps w) (ieq w 5) false)<;>rfl
def zXR {h:Host}{m:Int}{x:Guest}{w:Int}(a:zil x.Ctl.Traps w=true)(b:ieq w 5=true)(c:ilt (ln (ix h.Mons m mZ).Outs) 40=true):zhS h m x w={h with Mons:=up h.Mons m {ix h.Mons m mZ with Outs:=ap (ix h.Mons m mZ).Outs [(zcL x.Prog x.Pc).X]}}:=by unfold zhS zjd;rw[a,b,c];rfl
def zNQ {h:Host}{m:Int}{x:Guest}{w:Int}(a:zil x.Ctl.Traps w=false):zhS h m x w=h:=z0L (by rw[a];rfl)
def zEF {h:Host}{m:Int}{x:Guest}{w:Int}(a:ieq w 5=false):zhS h m x w=h:=z0L (by rw[a];cases zil x.Ctl.Traps w<;>rfl)
def zMz (a:Int):(cond (ieq a a) true false)=true:=by rw[zgS];rfl
def zjM {h:Host}{m g:Int}(a:zcc h m g=false):zcN h m g=(h,false):=by unfold zcN;rw[a];rfl
def zku {h:Host}{m g:Int}(a:zcc h m g=true):zcN h m g=zNK h m g (gOf h m g) (zN<|gOf h m g):=by unfold zcN;rw[a];rfl
def zof {a b:Bool}(h:(cond a b false)=true):a=true/\b=true:=by cases a;{cases h};{exact⟨rfl,h⟩}
def zky {a b:Bool}(c:a=true)(d:b=true):(cond a b false)=true:=by rw[c];exact d
def z0O {h:Host}{m:Int}{x:Guest}{w:Int}(b:ine w 6=true)(a:ieq (zoi (ix h.Mons m mZ).Traps x.Ctl.Traps<|zgx w) 2=true)(c:ilt (ix h.Mons m mZ).Own 1000000000=true):zfm h m x w={h with Mons:=up h.Mons m {ix h.Mons m mZ with Own:=zQ .i64 (ix h.Mons m mZ).Own 1}}:=by unfold zfm owned;rw[b,a,c];rfl
def z0M {h:Host}{m:Int}{x:Guest}{w:Int}(a:ieq (zoi (ix h.Mons m mZ).Traps x.Ctl.Traps<|zgx w) 2=false):zfm h m x w=h:=by unfold zfm;rw[a];cases ine w 6<;>rfl
def z0N {h:Host}{m:Int}{x:Guest}{w:Int}(a:ilt (ix h.Mons m mZ).Own 1000000000=false):zfm h m x w=h:=by unfold zfm owned;rw[a];cases (cond (ine w 6) (ieq (zoi (ix h.Mons m mZ).Traps x.Ctl.Traps<|zgx w) 2) false)<;>rfl
def zbbN {h:Host}{m:Int}{x:Guest}:zfm h m x 6=h:=rfl
def zpw {h a:Host}{m g:Int}{x:Guest}{w:Int}(e:zfm h m x w=a):zlU h m g x w=zhi (zhS a m x w) m g (zgA x x.Ctl.Traps w):=by unfold zlU;rw[e]
def z8m (x:Guest):ieq (zN x) 0=true\/ieq (zN x) 1=true\/ieq (zN x) 2=true\/ieq (zN x) 3=true\/ieq (zN x) 4=true\/ieq (zN x) 5=true\/ieq (zN x) 6=true\/ieq (zN x) 7=true:=by cases a:ieq (zN x) 0;{cases b:ieq (zN x) 1;{cases c:ieq (zN x) 2;{cases d:ieq (zN x) 3;{cases e:ieq (zN x) 4;{cases f:ieq (zN x) 5;{cases g:ieq (zN x) 6;{exact .inr (.inr<|.inr<|.inr<|.inr<|.inr<|.inr<|z3g x a b c d e f g)};{exact .inr (.inr<|.inr<|.inr<|.inr<|.inr (.inl rfl))}};{exact .inr (.inr<|.inr<|.inr<|.inr (.inl rfl))}};{exact .inr (.inr<|.inr<|.inr (.inl rfl))}};{exact .inr (.inr<|.inr (.inl rfl))}};{exact .inr (.inr (.inl rfl))}};{exact .inr (.inl rfl)}};{exact .inl rfl}
abbrev zBR (x:Guest):Bool:=bif zbz x then ieq (zN x) 0 else false
def zqE:LW
 |[.agg [.s .ins c,.i .i64 d,.i .i64 e,.s .slot f,.s .slot g,.i .i64 h,.i .i64 j,.b k,.i .i64 l,.i .i64 m,.i .i64 n,.b o,.i .i64 p,.b q,.s .int r]]=>some (zBR (⟨c,d,e,f,g,⟨h,j,k⟩,l,⟨m,n,o,p⟩,q,r⟩:Guest),[.one<|.i .i64 0])
 |_=>none
def zFG:vR 204 zqE:=by refine⟨zcV.1,λw b g j a h=>?_⟩;unfold zqE at h;split at h;{obtain⟨f,rfl⟩:=zfd h;obtain⟨d,e⟩:=zof f;exact zcV.2 w _ g _ a (congr (congrArg (λc v=>some (c,[AV.one<|CV.i .i64 v])) d) (qD e))};{cases h}
def zbaO:zbb:=[(204,zqE)]++zoO
def z1d:zU zbaO:=zi zFG zi6
@[simp] abbrev zxn (h:Host)(m g:Int):Bool:=bif zdx h m g then ieq (zN<|gOf h m g) 0 else false
def zF5:Run:=rF3 dH dI dI λb c d=>(zxn b c d,[aH<|zcE b c d,aB<|zcP b c d])
def zwl (N:Nat)(d:Host)(b c:Int):OA:=
 let a:=zl d;let e:=(ix a.Mons b zh).Guests; (oN (zT d)<|oN (zdx a b c)<|cond (nB<|zk9 a b c) (some [aH a,aB false])<|oN (inb b<|ln a.Mons)<|oN (inb c<|ln e)<|oN (zBR<|ix e c zA)<|some [aH a,aB false])
abbrev zBS (x:Guest):Bool:=bif zbz x then ieq (zN x) 1 else false
def zqF:LW
 |[.agg [.s .ins c,.i .i64 d,.i .i64 e,.s .slot f,.s .slot g,.i .i64 h,.i .i64 j,.b k,.i .i64 l,.i .i64 m,.i .i64 n,.b o,.i .i64 p,.b q,.s .int r]]=>some (zBS (⟨c,d,e,f,g,⟨h,j,k⟩,l,⟨m,n,o,p⟩,q,r⟩:Guest),[.one<|.i .i64 1])
 |_=>none
def zFH:vR 204 zqF:=by refine⟨zcV.1,λw b g j a h=>?_⟩;unfold zqF at h;split at h;{obtain⟨f,rfl⟩:=zfd h;obtain⟨d,e⟩:=zof f;exact zcV.2 w _ g _ a (congr (congrArg (λc v=>some (c,[AV.one<|CV.i .i64 v])) d) (qD e))};{cases h}
def zbaP:zbb:=[(204,zqF)]++zoO
def z1e:zU zbaP:=zi zFH zi6
@[simp] abbrev zxo (h:Host)(m g:Int):Bool:=bif zdx h m g then ieq (zN<|gOf h m g) 1 else false
def zF6:Run:=rF3 dH dI dI λb c d=>(zxo b c d,[aH<|zcE b c d,aB<|zcP b c d])
def zwm (N:Nat)(f:Host)(b c:Int):OA:=
 let a:=zl f;let d:=ix a.Mons b zh;let e:=ix d.Guests c zA; (oN (zT f)<|oN (zdx a b c)<|cond (nB<|zk9 a b c) (some [aH a,aB false])<|oN (inb b<|ln a.Mons)<|oN (inb c<|ln d.Guests)<|oN (zBS e)<|oN (inb b<|ln a.Mons)<|oN (zO e)<|oN (inb c<|ln d.Guests)<|share (up a.Mons b ({d with Guests:=(up d.Guests c<|zfz e)}:Mon)) λg=>some [aH ({a with Mons:=g}:Host),aB true])
abbrev zBT (x:Guest):Bool:=bif zbz x then ieq (zN x) 2 else false
def zqG:LW
 |[.agg [.s .ins c,.i .i64 d,.i .i64 e,.s .slot f,.s .slot g,.i .i64 h,.i .i64 j,.b k,.i .i64 l,.i .i64 m,.i .i64 n,.b o,.i .i64 p,.b q,.s .int r]]=>some (zBT (⟨c,d,e,f,g,⟨h,j,k⟩,l,⟨m,n,o,p⟩,q,r⟩:Guest),[.one<|.i .i64 2])
 |_=>none
def zFI:vR 204 zqG:=by refine⟨zcV.1,λw b g j a h=>?_⟩;unfold zqG at h;split at h;{obtain⟨f,rfl⟩:=zfd h;obtain⟨d,e⟩:=zof f;exact zcV.2 w _ g _ a (congr (congrArg (λc v=>some (c,[AV.one<|CV.i .i64 v])) d) (qD e))};{cases h}
def zbaQ:zbb:=[(204,zqG)]++zoO
def z1f:zU zbaQ:=zi zFI zi6
@[simp] abbrev zxp (h:Host)(m g:Int):Bool:=bif zdx h m g then ieq (zN<|gOf h m g) 2 else false
def zF7:Run:=rF3 dH dI dI λb c d=>(zxp b c d,[aH<|zcE b c d,aB<|zcP b c d])
def zwn (N:Nat)(f:Host)(b c:Int):OA:=
 let a:=zl f;let d:=ix a.Mons b zh;let e:=ix d.Guests c zA; (oN (zT f)<|oN (zdx a b c)<|cond (nB<|zk9 a b c) (some [aH a,aB false])<|oN (inb b<|ln a.Mons)<|oN (inb c<|ln d.Guests)<|oN (zBT e)<|oN (inb b<|ln a.Mons)<|oN (zO e)<|oN (inb c<|ln d.Guests)<|share (up a.Mons b ({d with Guests:=(up d.Guests c<|ziF e)}:Mon)) λg=>some [aH ({a with Mons:=g}:Host),aB true])
abbrev zBU (x:Guest):Bool:=bif zbz x then ieq (zN x) 3 else false
def zqH:LW
 |[.agg [.s .ins c,.i .i64 d,.i .i64 e,.s .slot f,.s .slot g,.i .i64 h,.i .i64 j,.b k,.i .i64 l,.i .i64 m,.i .i64 n,.b o,.i .i64 p,.b q,.s .int r]]=>some (zBU (⟨c,d,e,f,g,⟨h,j,k⟩,l,⟨m,n,o,p⟩,q,r⟩:Guest),[.one<|.i .i64 3])
 |_=>none
def zFJ:vR 204 zqH:=by refine⟨zcV.1,λw b g j a h=>?_⟩;unfold zqH at h;split at h;{obtain⟨f,rfl⟩:=zfd h;obtain⟨d,e⟩:=zof f;exact zcV.2 w _ g _ a (congr (congrArg (λc v=>some (c,[AV.one<|CV.i .i64 v])) d) (qD e))};{cases h}
def zbaR:zbb:=[(204,zqH)]++zoO
def z1g:zU zbaR:=zi zFJ zi6
@[simp] abbrev zxq (h:Host)(m g:Int):Bool:=bif zdx h m g then ieq (zN<|gOf h m g) 3 else false
def zF8:Run:=rF3 dH dI dI λb c d=>(zxq b c d,[aH<|zcE b c d,aB<|zcP b c d])
def zwo (N:Nat)(m:Host)(a b:Int):OA:=
 let c:=zl m;let n:=(ix c.Mons a zh).Guests;let h:=ix n b zA;let f:=zh3 h;let g:=zbA f;let l:=zmp c c.Buffer a b g (zdK false) false;let d:=zgL c c.Buffer a b g (zdK false) false;let e:=ix d.Mons a zh;let j:=ix e.Guests b zA;let i:=({h with Prog:=j.Prog,Written:=j.Written,Live:=j.Live,Seen:=j.Seen}:Guest); (oN (zT m)<|oN (zdx c a b)<|cond (nB<|zk9 c a b) (some [aH c,aB false])<|oN (inb a<|ln c.Mons)<|oN (inb b<|ln n)<|oN (zBU h)<|oN (zbz h)<|oN (zbQ f)<|oN (zlK false)<|oN (zmq c c.Buffer a b g (zdK false) false)<|cond (nB<|ziT c c.Buffer a b g (zdK false) false) (oN (inb a<|ln d.Mons)<|oN (zbQ f)<|oN (zhd g false)<|oN (zcF i<|ze9 g false)<|oN (inb b<|ln e.Guests)<|share (up d.Mons a ({e with Guests:=(up e.Guests b<|zcG i<|ze9 g false)}:Mon)) λk=>some [aH ({d with Mons:=k}:Host),aB true])<|oN (inb a<|ln d.Mons)<|oN (zbQ f)<|oN (zfO d.Memory l<|zc7 f)<|oN (zn0 i<|zgQ d.Memory l<|zc7 f)<|oN (inb b<|ln e.Guests)<|share (up d.Mons a ({e with Guests:=(up e.Guests b<|zlI i<|zgQ d.Memory l<|zc7 f)}:Mon)) λk=>some [aH ({d with Mons:=k}:Host),aB true])
abbrev zBV (x:Guest):Bool:=bif zbz x then ieq (zN x) 4 else false
def zqI:LW
 |[.agg [.s .ins c,.i .i64 d,.i .i64 e,.s .slot f,.s .slot g,.i .i64 h,.i .i64 j,.b k,.i .i64 l,.i .i64 m,.i .i64 n,.b o,.i .i64 p,.b q,.s .int r]]=>some (zBV (⟨c,d,e,f,g,⟨h,j,k⟩,l,⟨m,n,o,p⟩,q,r⟩:Guest),[.one<|.i .i64 4])
 |_=>none
def zFK:vR 204 zqI:=by refine⟨zcV.1,λw b g j a h=>?_⟩;unfold zqI at h;split at h;{obtain⟨f,rfl⟩:=zfd h;obtain⟨d,e⟩:=zof f;exact zcV.2 w _ g _ a (congr (congrArg (λc v=>some (c,[AV.one<|CV.i .i64 v])) d) (qD e))};{cases h}
def zbaS:zbb:=[(204,zqI)]++zoO
def z1h:zU zbaS:=zi zFK zi6
@[simp] abbrev zxr (h:Host)(m g:Int):Bool:=bif zdx h m g then ieq (zN<|gOf h m g) 4 else false
def zF9:Run:=rF3 dH dI dI λb c d=>(zxr b c d,[aH<|zcE b c d,aB<|zcP b c d])
def zwp (N:Nat)(l:Host)(a b:Int):OA:=
 let c:=zl l;let n:=(ix c.Mons a zh).Guests;let g:=ix n b zA;let h:=zh3 g;let f:=zbA h;let m:=zmp c c.Buffer a b f (zdK true) false;let d:=zgL c c.Buffer a b f (zdK true) false;let e:=ix d.Mons a zh;let j:=ix e.Guests b zA;let i:=({g with Prog:=j.Prog,Written:=j.Written,Live:=j.Live,Seen:=j.Seen}:Guest); (oN (zT l)<|oN (zdx c a b)<|cond (nB<|zk9 c a b) (some [aH c,aB false])<|oN (inb a<|ln c.Mons)<|oN (inb b<|ln n)<|oN (zBV g)<|oN (zbz g)<|oN (zbQ h)<|oN (zlK true)<|oN (zmq c c.Buffer a b f (zdK true) false)<|cond (nB<|ziT c c.Buffer a b f (zdK true) false) (oN (inb a<|ln d.Mons)<|oN (zbQ h)<|oN (zhd f true)<|oN (zcF i<|ze9 f true)<|oN (inb b<|ln e.Guests)<|share (up d.Mons a ({e with Guests:=(up e.Guests b<|zcG i<|ze9 f true)}:Mon)) λk=>some [aH ({d with Mons:=k}:Host),aB true])<|oN (zbQ h)<|oN (zek d.Memory m (zc7 h) g.A)<|oN (inb a<|ln d.Mons)<|oN (zO i)<|oN (inb b<|ln e.Guests)<|share (up d.Mons a ({e with Guests:=(up e.Guests b<|zch i)}:Mon)) λk=>some [aH ({d with Memory:=(zeH d.Memory m (zc7 h) g.A),Mons:=k}:Host),aB true])
abbrev zBW (x:Guest):Bool:=bif zbz x then ieq (zN x) 5 else false
def zqJ:LW
 |[.agg [.s .ins c,.i .i64 d,.i .i64 e,.s .slot f,.s .slot g,.i .i64 h,.i .i64 j,.b k,.i .i64 l,.i .i64 m,.i .i64 n,.b o,.i .i64 p,.b q,.s .int r]]=>some (zBW (⟨c,d,e,f,g,⟨h,j,k⟩,l,⟨m,n,o,p⟩,q,r⟩:Guest),[.one<|.i .i64 5])
 |_=>none
def zFL:vR 204 zqJ:=by refine⟨zcV.1,λw b g j a h=>?_⟩;unfold zqJ at h;split at h;{obtain⟨f,rfl⟩:=zfd h;obtain⟨d,e⟩:=zof f;exact zcV.2 w _ g _ a (congr (congrArg (λc v=>some (c,[AV.one<|CV.i .i64 v])) d) (qD e))};{cases h}
def zbaT:zbb:=[(204,zqJ)]++zoO
def z1i:zU zbaT:=zi zFL zi6
@[simp] abbrev zxs (h:Host)(m g:Int):Bool:=bif zdx h m g then ieq (zN<|gOf h m g) 5 else false
def zGa:Run:=rF3 dH dI dI λb c d=>(zxs b c d,[aH<|zcE b c d,aB<|zcP b c d])
def zwq (N:Nat)(x:Host)(a e:Int):OA:=
 let d:=zl x;let f:=inb a<|ln d.Mons;let g:=ix d.Mons a zh;let j:=inb e<|ln g.Guests;let c:=ix g.Guests e zA;let w:=ap g.Outs [(zec c.Prog c.Pc).X];let s:=up d.Mons a ({g with Outs:=w}:Mon);let h:=c.Ctl.Traps;let v:=up d.Mons a ({g with Guests:=(up g.Guests e<|zcT c h 5)}:Mon); (oN (zT x)<|oN (zdx d a e)<|cond (nB<|zk9 d a e) (some [aH d,aB false])<|oN f<|oN j<|oN (zBW c)<|oN f<|oN (zoE g.Traps h 1)<|cond (ieq (zlh g.Traps h 1) 2) (oN f<|cond (ilt g.Own 1000000000) (oN f<|oN f<|share (up d.Mons a ({g with Own:=(zQ .i64 g.Own 1)}:Mon)) (λb=>let k:=inb a<|ln b;let l:=ix b a zh;let q:=ix l.Guests e zA;let t:=ap l.Outs [(zec q.Prog c.Pc).X];let u:=({c with Prog:=q.Prog,Written:=q.Written,Live:=q.Live,Seen:=q.Seen}:Guest);let r:=up b a ({l with Guests:=(up l.Guests e<|zcT u h 5)}:Mon); (oN (zfa u h 5)<|cond (zeu u h 5) (oN k<|cond (ilt (ln l.Outs) 40) (oN k<|oN (zei q.Prog c.Pc)<|oN (few<|ln t)<|oN k<|oN (cond (ieq a a) true false)<|share (up b a ({l with Outs:=t}:Mon)) (λi=>let m:=ix i a zh; (oN (inb a<|ln i)<|oN (inb e<|ln m.Guests)<|share (up i a ({m with Guests:=(up m.Guests e<|zcT u h 5)}:Mon)) λy=>some [aH ({d with Mons:=y}:Host),aB true])))<|oN k<|oN (inb e<|ln l.Guests)<|share r λi=>some [aH ({d with Mons:=i}:Host),aB true])<|oN k<|oN (inb e<|ln l.Guests)<|share r λi=>some [aH ({d with Mons:=i}:Host),aB true])))<|oN (zfa c h 5)<|cond (zeu c h 5) (oN f<|cond (ilt (ln g.Outs) 40) (oN f<|oN (zei c.Prog c.Pc)<|oN (few<|ln w)<|oN f<|oN (cond (ieq a a) true false)<|share s (λb=>let n:=ix b a zh; (oN (inb a<|ln b)<|oN (inb e<|ln n.Guests)<|share (up b a ({n with Guests:=(up n.Guests e<|zcT c h 5)}:Mon)) λi=>some [aH ({d with Mons:=i}:Host),aB true])))<|oN f<|oN j<|share v λb=>some [aH ({d with Mons:=b}:Host),aB true])<|oN f<|oN j<|share v λb=>some [aH ({d with Mons:=b}:Host),aB true])<|oN (zfa c h 5)<|cond (zeu c h 5) (oN f<|cond (ilt (ln g.Outs) 40) (oN f<|oN (zei c.Prog c.Pc)<|oN (few<|ln w)<|oN f<|oN (cond (ieq a a) true false)<|share s (λb=>let p:=ix b a zh; (oN (inb a<|ln b)<|oN (inb e<|ln p.Guests)<|share (up b a ({p with Guests:=(up p.Guests e<|zcT c h 5)}:Mon)) λi=>some [aH ({d with Mons:=i}:Host),aB true])))<|oN f<|oN j<|share v λb=>some [aH ({d with Mons:=b}:Host),aB true])<|oN f<|oN j<|share v λb=>some [aH ({d with Mons:=b}:Host),aB true])
abbrev zBX (x:Guest):Bool:=bif zbz x then ieq (zN x) 6 else false
def zqK:LW
 |[.agg [.s .ins c,.i .i64 d,.i .i64 e,.s .slot f,.s .slot g,.i .i64 h,.i .i64 j,.b k,.i .i64 l,.i .i64 m,.i .i64 n,.b o,.i .i64 p,.b q,.s .int r]]=>some (zBX (⟨c,d,e,f,g,⟨h,j,k⟩,l,⟨m,n,o,p⟩,q,r⟩:Guest),[.one<|.i .i64 6])
 |_=>none
def zFM:vR 204 zqK:=by refine⟨zcV.1,λw b g j a h=>?_⟩;unfold zqK at h;split at h;{obtain⟨f,rfl⟩:=zfd h;obtain⟨d,e⟩:=zof f;exact zcV.2 w _ g _ a (congr (congrArg (λc v=>some (c,[AV.one<|CV.i .i64 v])) d) (qD e))};{cases h}
def zbaU:zbb:=[(204,zqK)]++zoO
def z1j:zU zbaU:=zi zFM zi6
@[simp] abbrev zxt (h:Host)(m g:Int):Bool:=bif zdx h m g then ieq (zN<|gOf h m g) 6 else false
def zGb:Run:=rF3 dH dI dI λb c d=>(zxt b c d,[aH<|zcE b c d,aB<|zcP b c d])
def zwr (N:Nat)(i:Host)(c d:Int):OA:=
 let a:=zl i;let g:=inb c<|ln a.Mons;let e:=ix a.Mons c zh;let h:=inb d<|ln e.Guests;let b:=ix e.Guests d zA;let j:=up a.Mons c ({e with Guests:=(up e.Guests d<|zcT b b.Ctl.Traps 6)}:Mon); (oN (zT i)<|oN (zdx a c d)<|cond (nB<|zk9 a c d) (some [aH a,aB false])<|oN g<|oN h<|oN (zBX b)<|oN (zfa b b.Ctl.Traps 6)<|cond (zeu b b.Ctl.Traps 6) (oN g<|oN h<|share j λf=>some [aH ({a with Mons:=f}:Host),aB true])<|oN g<|oN h<|share j λf=>some [aH ({a with Mons:=f}:Host),aB true])
abbrev zBY (x:Guest):Bool:=bif zbz x then ieq (zN x) 7 else false
def zqL:LW
 |[.agg [.s .ins c,.i .i64 d,.i .i64 e,.s .slot f,.s .slot g,.i .i64 h,.i .i64 j,.b k,.i .i64 l,.i .i64 m,.i .i64 n,.b o,.i .i64 p,.b q,.s .int r]]=>some (zBY (⟨c,d,e,f,g,⟨h,j,k⟩,l,⟨m,n,o,p⟩,q,r⟩:Guest),[.one<|.i .i64 7])
 |_=>none
def zFN:vR 204 zqL:=by refine⟨zcV.1,λw b g j a h=>?_⟩;unfold zqL at h;split at h;{obtain⟨f,rfl⟩:=zfd h;obtain⟨d,e⟩:=zof f;exact zcV.2 w _ g _ a (congr (congrArg (λc v=>some (c,[AV.one<|CV.i .i64 v])) d) (qD e))};{cases h}
def zbaV:zbb:=[(204,zqL)]++zoO
def z1k:zU zbaV:=zi zFN zi6
@[simp] abbrev zxu (h:Host)(m g:Int):Bool:=bif zdx h m g then ieq (zN<|gOf h m g) 7 else false
def zGc:Run:=rF3 dH dI dI λb c d=>(zxu b c d,[aH<|zcE b c d,aB<|zcP b c d])
def zwt (N:Nat)(q:Host)(c e:Int):OA:=
 let a:=zl q;let g:=inb c<|ln a.Mons;let f:=ix a.Mons c zh;let k:=inb e<|ln f.Guests;let h:=ix f.Guests e zA;let d:=h.Ctl.Traps;let l:=up a.Mons c ({f with Guests:=(up f.Guests e<|zcT h d 7)}:Mon); (oN (zT q)<|oN (zdx a c e)<|cond (nB<|zk9 a c e) (some [aH a,aB false])<|oN g<|oN k<|oN (zBY h)<|oN g<|oN (zoE f.Traps d 2)<|cond (ieq (zlh f.Traps d 2) 2) (oN g<|cond (ilt f.Own 1000000000) (oN g<|oN g<|share (up a.Mons c ({f with Own:=(zQ .i64 f.Own 1)}:Mon)) (λb=>let j:=ix b c zh;let m:=ix j.Guests e zA;let p:=({h with Prog:=m.Prog,Written:=m.Written,Live:=m.Live,Seen:=m.Seen}:Guest);let i:=up b c ({j with Guests:=(up j.Guests e<|zcT p d 7)}:Mon); (oN (zfa p d 7)<|cond (zeu p d 7) (oN (inb c<|ln b)<|oN (inb e<|ln j.Guests)<|share i λn=>some [aH ({a with Mons:=n}:Host),aB true])<|oN (inb c<|ln b)<|oN (inb e<|ln j.Guests)<|share i λn=>some [aH ({a with Mons:=n}:Host),aB true])))<|oN (zfa h d 7)<|cond (zeu h d 7) (oN g<|oN k<|share l λb=>some [aH ({a with Mons:=b}:Host),aB true])<|oN g<|oN k<|share l λb=>some [aH ({a with Mons:=b}:Host),aB true])<|oN (zfa h d 7)<|cond (zeu h d 7) (oN g<|oN k<|share l λb=>some [aH ({a with Mons:=b}:Host),aB true])<|oN g<|oN k<|share l λb=>some [aH ({a with Mons:=b}:Host),aB true])
def zFV (a:Host)(b c:Int)(e:zxn a b c=true):∃N,zwl N a b c=some [aH<|zcE a b c,aB<|zcP a b c]:=by
 obtain⟨e,i⟩:=zof e;have f:=(zS a).1 (zK.1 e);refine⟨0,?_⟩;show _=some (zff<|zcN a b c);unfold zwl oN nB;conv=>zeta
 refine must (zbs<|(zS _).2 f) (must (zbs<|(zS _).2 f)<|brN (λd=>?_) λd=>?_);{rw [zjM d];rfl};obtain⟨k,g,h⟩:=zdM d;have l:=zme f g h;have j:zN (gOf a b c)=0:=qD i;rw[zku d,j];refine must (zC g) (must (zC h)<|must (zky rfl i) ?_);rfl
def zrq:vR 75 zF5:=kF3 z1d zn zbH zik (zq []) zFV
def zFW (a:Host)(b c:Int)(g:zxo a b c=true):∃N,zwm N a b c=some [aH<|zcE a b c,aB<|zcP a b c]:=by
 obtain⟨g,i⟩:=zof g;have h:=(zS a).1 (zK.1 g);refine⟨0,?_⟩;show _=some (zff<|zcN a b c);unfold zwm oN nB;conv=>zeta
 refine must (zbs<|(zS _).2 h) (must (zbs<|(zS _).2 h)<|brN (λd=>?_) λd=>?_);{rw [zjM d];rfl};obtain⟨l,e,f⟩:=zdM d;have k:=zme h e f;have j:zN (gOf a b c)=1:=qD i;rw[zku d,j];refine must (zC e) (must (zC f)<|must (zky rfl i) ?_);show _=some (zff (zhi a b c<|interrupted<|gOf a b c,true));exact must (zC e) (must (zbs k) (must (zC f) rfl))
def zB9:vR 75 zF6:=kF3 z1e zn zbH zik (zq []) zFW
def zFX (a:Host)(b c:Int)(g:zxp a b c=true):∃N,zwn N a b c=some [aH<|zcE a b c,aB<|zcP a b c]:=by
 obtain⟨g,i⟩:=zof g;have h:=(zS a).1 (zK.1 g);refine⟨0,?_⟩;show _=some (zff<|zcN a b c);unfold zwn oN nB;conv=>zeta
 refine must (zbs<|(zS _).2 h) (must (zbs<|(zS _).2 h)<|brN (λd=>?_) λd=>?_);{rw [zjM d];rfl};obtain⟨l,e,f⟩:=zdM d;have k:=zme h e f;have j:zN (gOf a b c)=2:=qD i;rw[zku d,j];refine must (zC e) (must (zC f)<|must (zky rfl i) ?_);show _=some (zff (zhi a b c<|plainly<|gOf a b c,true));exact must (zC e) (must (zbs k) (must (zC f) rfl))
def zCa:vR 75 zF7:=kF3 z1f zn zbH zik (zq []) zFX
def zFY (a:Host)(c d:Int)(j:zxq a c d=true):∃N,zwo N a c d=some [aH<|zcE a c d,aB<|zcP a c d]:=by
 obtain⟨j,m⟩:=zof j;have f:=(zS a).1 (zK.1 j);refine⟨0,?_⟩;show _=some (zff<|zcN a c d);unfold zwo oN nB;conv=>zeta
 refine must (zbs<|(zS _).2 f) (must (zbs<|(zS _).2 f)<|brN (λe=>?_) λe=>?_);{rw [zjM e];rfl};obtain⟨r,g,i⟩:=zdM e;have n:=zme f g i;have q:zN (gOf a c d)=3:=qD m;rw[zku e,q];refine must (zC g) (must (zC i)<|must (zky rfl m) ?_);show _=some (zff (ziu (zjx a c d (gOf a c d) false) c d (gOf a c d) false,true));have k:=zuZ (b:=a.Buffer) (page:=zbn (address<|gOf a c d)) (need:=zcx false) (io:=false) f e;have F:=znE k g i;have p:(ix (ix (zgL (zl a) (zl a).Buffer c d (zbA<|zh3<|ix (ix (zl a).Mons c zh).Guests d zA) (zdK false) false).Mons c zh).Guests d zA)=(ix (ix (zl a).Mons c zh).Guests d zA):=congrArg (λl=>ix l d gZ) (zLz k.gs c);rw[p];unfold ziu;refine must rfl (must rfl (must rfl (must (zbs<|(zS _).2 f)<|brN (λh=>?_) λh=>?_)));{rw [show (zjx a c d (gOf a c d) false).2.2=false from h];exact must (zC F.hm) (must rfl (must rfl (must (zbs n) (must (zC F.hg) rfl))))};{rw [show (zjx a c d (gOf a c d) false).2.2=true from h];exact must (zC F.hm) (must rfl (must rfl (must (zbs n) (must (zC F.hg) rfl))))}
def zCb:vR 75 zF8:=kF3 z1g zn zbH zik (zq []) zFY
def zFZ (a:Host)(c d:Int)(j:zxr a c d=true):∃N,zwp N a c d=some [aH<|zcE a c d,aB<|zcP a c d]:=by
 obtain⟨j,m⟩:=zof j;have f:=(zS a).1 (zK.1 j);refine⟨0,?_⟩;show _=some (zff<|zcN a c d);unfold zwp oN nB;conv=>zeta
 refine must (zbs<|(zS _).2 f) (must (zbs<|(zS _).2 f)<|brN (λe=>?_) λe=>?_);{rw [zjM e];rfl};obtain⟨r,g,i⟩:=zdM e;have n:=zme f g i;have q:zN (gOf a c d)=4:=qD m;rw[zku e,q];refine must (zC g) (must (zC i)<|must (zky rfl m) ?_);show _=some (zff (ziu (zjx a c d (gOf a c d) true) c d (gOf a c d) true,true));have k:=zuZ (b:=a.Buffer) (page:=zbn (address<|gOf a c d)) (need:=zcx true) (io:=false) f e;have F:=znE k g i;have p:(ix (ix (zgL (zl a) (zl a).Buffer c d (zbA<|zh3<|ix (ix (zl a).Mons c zh).Guests d zA) (zdK true) false).Mons c zh).Guests d zA)=(ix (ix (zl a).Mons c zh).Guests d zA):=congrArg (λl=>ix l d gZ) (zLz k.gs c);rw[p];unfold ziu;refine must rfl (must rfl (must rfl (must (zbs<|(zS _).2 f)<|brN (λh=>?_) λh=>?_)));{rw [show (zjx a c d (gOf a c d) true).2.2=false from h];exact must (zC F.hm) (must rfl (must rfl (must (zbs n) (must (zC F.hg) rfl))))};{rw [show (zjx a c d (gOf a c d) true).2.2=true from h];exact must rfl (must (zbs k.shape.1.1)<|must (zC F.hm)<|must (zbs n) (must (zC F.hg) rfl))}
def zCc:vR 75 zF9:=kF3 z1h zn zbH zik (zq []) zFZ
def z9K {c:Host}{a d:Int}(k:SmG (gOf c a d))(f:hasB a (ln c.Mons)=true)(i:hasB d (ln (ix c.Mons a mZ).Guests)=true) :
 (cond (zfa (ix (ix (zl c).Mons a zh).Guests d zA) (ix (ix (zl c).Mons a zh).Guests d zA).Ctl.Traps 5) (cond (zeu (ix (ix (zl c).Mons a zh).Guests d zA) (ix (ix (zl c).Mons a zh).Guests d zA).Ctl.Traps 5) (cond (inb a<|ln (zl c).Mons) (cond (ilt (ln (ix (zl c).Mons a zh).Outs) 40) (cond (inb a<|ln (zl c).Mons) (cond (zei (ix (ix (zl c).Mons a zh).Guests d zA).Prog (ix (ix (zl c).Mons a zh).Guests d zA).Pc) (cond (few<|ln<|ap (ix (zl c).Mons a zh).Outs [(zec (ix (ix (zl c).Mons a zh).Guests d zA).Prog (ix (ix (zl c).Mons a zh).Guests d zA).Pc).X]) (cond (inb a<|ln (zl c).Mons) (cond (cond (ieq a a) true false) (share (up (zl c).Mons a ({ (ix (zl c).Mons a zh) with Outs:=(ap (ix (zl c).Mons a zh).Outs [(zec (ix (ix (zl c).Mons a zh).Guests d zA).Prog (ix (ix (zl c).Mons a zh).Guests d zA).Pc).X])}:Mon)) λe=>cond (inb a<|ln e) (cond (inb d<|ln (ix e a zh).Guests) (share (up e a ({ (ix e a zh) with Guests:=(up (ix e a zh).Guests d<|zcT (ix (ix (zl c).Mons a zh).Guests d zA) (ix (ix (zl c).Mons a zh).Guests d zA).Ctl.Traps 5)}:Mon)) λl=>some [.agg<|zbi ({ (zl c) with Mons:=l}:Host),.one<|.b true]) none) none) none) none) none) none) none)<|cond (inb a<|ln (zl c).Mons) (cond (inb d<|ln (ix (zl c).Mons a zh).Guests) (share (up (zl c).Mons a ({ (ix (zl c).Mons a zh) with Guests:=(up (ix (zl c).Mons a zh).Guests d<|zcT (ix (ix (zl c).Mons a zh).Guests d zA) (ix (ix (zl c).Mons a zh).Guests d zA).Ctl.Traps 5)}:Mon)) λe=>some [.agg<|zbi ({ (zl c) with Mons:=e}:Host),.one<|.b true]) none) none) none)<|cond (inb a<|ln (zl c).Mons) (cond (inb d<|ln (ix (zl c).Mons a zh).Guests) (share (up (zl c).Mons a ({ (ix (zl c).Mons a zh) with Guests:=(up (ix (zl c).Mons a zh).Guests d<|zcT (ix (ix (zl c).Mons a zh).Guests d zA) (ix (ix (zl c).Mons a zh).Guests d zA).Ctl.Traps 5)}:Mon)) λe=>some [.agg<|zbi ({ (zl c) with Mons:=e}:Host),.one<|.b true]) none) none) none)=some (zff (zhi (zhS c a (gOf c a d) 5) a d<|zgA (gOf c a d) (gOf c a d).Ctl.Traps 5,true)):=by
 refine must (zbs k) (br (λj=>must (zC f) (br (λg=>?_) λg=>?_)) λj=>?_)
 .rw [zXR (h:=c) (m:=a) (x:=gOf c a d) (w:=5) j rfl g];refine must (zC f) (must rfl (must (zUl g)<|must (zC f)<|must (zMz _)<|shr<|must (zC<|zfQ f) (must ?_ rfl)));rw[zp9 f];exact zC i
 .rw [zSp (h:=c) (m:=a) (x:=gOf c a d) (w:=5) g];exact must (zC f) (must (zC i) rfl)
 .rw [zNQ (h:=c) (m:=a) (x:=gOf c a d) (w:=5) j];exact must (zC f) (must (zC i) rfl)
def zbdl {f:Host}{d:List Mon}{a c:Int}(n:SmG (gOf f a c))(i:hasB a (ln d)=true)(k:hasB c (ln (ix d a mZ).Guests)=true)(e:(ix (ix d a zh).Guests c zA)=gOf f a c) :
 (cond (zfa ({ (ix (ix (zl f).Mons a zh).Guests c zA) with Prog:=(ix (ix d a zh).Guests c zA).Prog,Written:=(ix (ix d a zh).Guests c zA).Written,Live:=(ix (ix d a zh).Guests c zA).Live,Seen:=(ix (ix d a zh).Guests c zA).Seen}:Guest) (ix (ix (zl f).Mons a zh).Guests c zA).Ctl.Traps 5) (cond (zeu ({ (ix (ix (zl f).Mons a zh).Guests c zA) with Prog:=(ix (ix d a zh).Guests c zA).Prog,Written:=(ix (ix d a zh).Guests c zA).Written,Live:=(ix (ix d a zh).Guests c zA).Live,Seen:=(ix (ix d a zh).Guests c zA).Seen}:Guest) (ix (ix (zl f).Mons a zh).Guests c zA).Ctl.Traps 5) (cond (inb a<|ln d) (cond (ilt (ln (ix d a zh).Outs) 40) (cond (inb a<|ln d) (cond (zei (ix (ix d a zh).Guests c zA).Prog (ix (ix (zl f).Mons a zh).Guests c zA).Pc) (cond (few<|ln<|ap (ix d a zh).Outs [(zec (ix (ix d a zh).Guests c zA).Prog (ix (ix (zl f).Mons a zh).Guests c zA).Pc).X]) (cond (inb a<|ln d) (cond (cond (ieq a a) true false) (share (up d a ({ (ix d a zh) with Outs:=(ap (ix d a zh).Outs [(zec (ix (ix d a zh).Guests c zA).Prog (ix (ix (zl f).Mons a zh).Guests c zA).Pc).X])}:Mon)) λg=>cond (inb a<|ln g) (cond (inb c<|ln (ix g a zh).Guests) (share (up g a ({ (ix g a zh) with Guests:=(up (ix g a zh).Guests c<|zcT ({ (ix (ix (zl f).Mons a zh).Guests c zA) with Prog:=(ix (ix d a zh).Guests c zA).Prog,Written:=(ix (ix d a zh).Guests c zA).Written,Live:=(ix (ix d a zh).Guests c zA).Live,Seen:=(ix (ix d a zh).Guests c zA).Seen}:Guest) (ix (ix (zl f).Mons a zh).Guests c zA).Ctl.Traps 5)}:Mon)) λp=>some [.agg<|zbi ({ (zl f) with Mons:=p}:Host),.one<|.b true]) none) none) none) none) none) none) none)<|cond (inb a<|ln d) (cond (inb c<|ln (ix d a zh).Guests) (share (up d a ({ (ix d a zh) with Guests:=(up (ix d a zh).Guests c<|zcT ({ (ix (ix (zl f).Mons a zh).Guests c zA) with Prog:=(ix (ix d a zh).Guests c zA).Prog,Written:=(ix (ix d a zh).Guests c zA).Written,Live:=(ix (ix d a zh).Guests c zA).Live,Seen:=(ix (ix d a zh).Guests c zA).Seen}:Guest) (ix (ix (zl f).Mons a zh).Guests c zA).Ctl.Traps 5)}:Mon)) λg=>some [.agg<|zbi ({ (zl f) with Mons:=g}:Host),.one<|.b true]) none) none) none)<|cond (inb a<|ln d) (cond (inb c<|ln (ix d a zh).Guests) (share (up d a ({ (ix d a zh) with Guests:=(up (ix d a zh).Guests c<|zcT ({ (ix (ix (zl f).Mons a zh).Guests c zA) with Prog:=(ix (ix d a zh).Guests c zA).Prog,Written:=(ix (ix d a zh).Guests c zA).Written,Live:=(ix (ix d a zh).Guests c zA).Live,Seen:=(ix (ix d a zh).Guests c zA).Seen}:Guest) (ix (ix (zl f).Mons a zh).Guests c zA).Ctl.Traps 5)}:Mon)) λg=>some [.agg<|zbi ({ (zl f) with Mons:=g}:Host),.one<|.b true]) none) none) none)=some (zff (zhi (zhS {f with Mons:=d} a (gOf f a c) 5) a c<|zgA (gOf f a c) (gOf f a c).Ctl.Traps 5,true)):=by
 rw[e];refine must (zbs n) (br (λl=>must (zC i) (br (λj=>?_) λj=>?_)) λl=>?_)
 .rw [zXR (h:={f with Mons:=d}) (m:=a) (x:=gOf f a c) (w:=5) l rfl j];refine must (zC i) (must rfl (must (zUl j)<|must (zC i)<|must (zMz _)<|shr<|must (zC<|zfQ (h:={f with Mons:=d}) i) (must ?_ rfl)));rw[zp9 (h:={f with Mons:=d}) i];exact zC k
 .rw [zSp (h:={f with Mons:=d}) (m:=a) (x:=gOf f a c) (w:=5) j];exact must (zC i) (must (zC k) rfl)
 .rw [zNQ (h:={f with Mons:=d}) (m:=a) (x:=gOf f a c) (w:=5) l];exact must (zC i) (must (zC k) rfl)
def zF0 (b:Host)(a c:Int)(j:zxs b a c=true):∃N,zwq N b a c=some [aH<|zcE b a c,aB<|zcP b a c]:=by
 obtain⟨j,p⟩:=zof j;have k:=(zS b).1 (zK.1 j);refine⟨0,?_⟩;show _=some (zff<|zcN b a c);unfold zwq oN nB;conv=>zeta
 refine must (zbs<|(zS _).2 k) (must (zbs<|(zS _).2 k)<|brN (λf=>?_) λf=>?_);{rw [zjM f];rfl};obtain⟨r,d,e⟩:=zdM f;have l:=zme k d e;have q:zN (gOf b a c)=5:=qD p;rw[zku f,q];refine must (zC d) (must (zC e)<|must (zky rfl p) ?_);show _=some (zff (zlU b a c (gOf b a c) 5,true));refine must (zC d) (must rfl (br (λg=>must (zC d) (br (λi=>must (zC d) (must (zC d)<|shr ?_)) λi=>?_)) λg=>?_));{rw [zpw (z0O (h:=b) (m:=a) (x:=gOf b a c) (w:=5) rfl g i)];have n:=zp9 d {ix b.Mons a mZ with Own:=zQ .i64 (ix b.Mons a mZ).Own 1};refine zbdl l (zfQ d) ?_ ?_;{show hasB c (ln (ix (up b.Mons a _) a mZ).Guests)=true;rw[n];exact e};{show ix (ix (up b.Mons a _) a mZ).Guests c gZ=_;rw[n];rfl}};{rw [zpw<|z0N (h:=b) (m:=a) (x:=gOf b a c) (w:=5) i];exact z9K l d e};{rw [zpw<|z0M (h:=b) (m:=a) (x:=gOf b a c) (w:=5) g];exact z9K l d e}
def zCd:vR 75 zGa:=kF3 z1i zn zbH zik (zq []) zF0
def zF1 (a:Host)(b c:Int)(g:zxt a b c=true):∃N,zwr N a b c=some [aH<|zcE a b c,aB<|zcP a b c]:=by
 obtain⟨g,j⟩:=zof g;have i:=(zS a).1 (zK.1 g);refine⟨0,?_⟩;show _=some (zff<|zcN a b c);unfold zwr oN nB;conv=>zeta
 refine must (zbs<|(zS _).2 i) (must (zbs<|(zS _).2 i)<|brN (λf=>?_) λf=>?_);{rw [zjM f];rfl};obtain⟨p,d,e⟩:=zdM f;have n:=zme i d e;have l:zN (gOf a b c)=6:=qD j;rw[zku f,l];refine must (zC d) (must (zC e)<|must (zky rfl j) ?_);show _=some (zff (zlU a b c (gOf a b c) 6,true));rw[zpw<|zbbN (h:=a) (m:=b) (x:=gOf a b c),zEF (w:=6) rfl];exact must (zbs n) (br (λk=>must (zC d) (must (zC e) rfl)) λk=>must (zC d) (must (zC e) rfl))
def zCe:vR 75 zGb:=kF3 z1j zn zbH zik (zq []) zF1
def z9L {a:Host}{c d:Int}(i:SmG (gOf a c d))(f:hasB c (ln a.Mons)=true)(g:hasB d (ln (ix a.Mons c mZ).Guests)=true) :
 (cond (zfa (ix (ix (zl a).Mons c zh).Guests d zA) (ix (ix (zl a).Mons c zh).Guests d zA).Ctl.Traps 7) (cond (zeu (ix (ix (zl a).Mons c zh).Guests d zA) (ix (ix (zl a).Mons c zh).Guests d zA).Ctl.Traps 7) (cond (inb c<|ln (zl a).Mons) (cond (inb d<|ln (ix (zl a).Mons c zh).Guests) (share (up (zl a).Mons c ({ (ix (zl a).Mons c zh) with Guests:=(up (ix (zl a).Mons c zh).Guests d<|zcT (ix (ix (zl a).Mons c zh).Guests d zA) (ix (ix (zl a).Mons c zh).Guests d zA).Ctl.Traps 7)}:Mon)) λe=>some [.agg<|zbi ({ (zl a) with Mons:=e}:Host),.one<|.b true]) none) none)<|cond (inb c<|ln (zl a).Mons) (cond (inb d<|ln (ix (zl a).Mons c zh).Guests) (share (up (zl a).Mons c ({ (ix (zl a).Mons c zh) with Guests:=(up (ix (zl a).Mons c zh).Guests d<|zcT (ix (ix (zl a).Mons c zh).Guests d zA) (ix (ix (zl a).Mons c zh).Guests d zA).Ctl.Traps 7)}:Mon)) λe=>some [.agg<|zbi ({ (zl a) with Mons:=e}:Host),.one<|.b true]) none) none) none)=some (zff (zhi a c d<|zgA (gOf a c d) (gOf a c d).Ctl.Traps 7,true)):=
 must (zbs i) (br (λh=>must (zC f) (must (zC g) rfl)) λh=>must (zC f) (must (zC g) rfl))
def zbdm {f:Host}{d:List Mon}{a c:Int}(k:SmG (gOf f a c))(h:hasB a (ln d)=true)(i:hasB c (ln (ix d a mZ).Guests)=true)(e:(ix (ix d a zh).Guests c zA)=gOf f a c) :
 (cond (zfa ({ (ix (ix (zl f).Mons a zh).Guests c zA) with Prog:=(ix (ix d a zh).Guests c zA).Prog,Written:=(ix (ix d a zh).Guests c zA).Written,Live:=(ix (ix d a zh).Guests c zA).Live,Seen:=(ix (ix d a zh).Guests c zA).Seen}:Guest) (ix (ix (zl f).Mons a zh).Guests c zA).Ctl.Traps 7) (cond (zeu ({ (ix (ix (zl f).Mons a zh).Guests c zA) with Prog:=(ix (ix d a zh).Guests c zA).Prog,Written:=(ix (ix d a zh).Guests c zA).Written,Live:=(ix (ix d a zh).Guests c zA).Live,Seen:=(ix (ix d a zh).Guests c zA).Seen}:Guest) (ix (ix (zl f).Mons a zh).Guests c zA).Ctl.Traps 7) (cond (inb a<|ln d) (cond (inb c<|ln (ix d a zh).Guests) (share (up d a ({ (ix d a zh) with Guests:=(up (ix d a zh).Guests c<|zcT ({ (ix (ix (zl f).Mons a zh).Guests c zA) with Prog:=(ix (ix d a zh).Guests c zA).Prog,Written:=(ix (ix d a zh).Guests c zA).Written,Live:=(ix (ix d a zh).Guests c zA).Live,Seen:=(ix (ix d a zh).Guests c zA).Seen}:Guest) (ix (ix (zl f).Mons a zh).Guests c zA).Ctl.Traps 7)}:Mon)) λg=>some [.agg<|zbi ({ (zl f) with Mons:=g}:Host),.one<|.b true]) none) none)<|cond (inb a<|ln d) (cond (inb c<|ln (ix d a zh).Guests) (share (up d a ({ (ix d a zh) with Guests:=(up (ix d a zh).Guests c<|zcT ({ (ix (ix (zl f).Mons a zh).Guests c zA) with Prog:=(ix (ix d a zh).Guests c zA).Prog,Written:=(ix (ix d a zh).Guests c zA).Written,Live:=(ix (ix d a zh).Guests c zA).Live,Seen:=(ix (ix d a zh).Guests c zA).Seen}:Guest) (ix (ix (zl f).Mons a zh).Guests c zA).Ctl.Traps 7)}:Mon)) λg=>some [.agg<|zbi ({ (zl f) with Mons:=g}:Host),.one<|.b true]) none) none) none)=some (zff (zhi {f with Mons:=d} a c<|zgA (gOf f a c) (gOf f a c).Ctl.Traps 7,true)):=by
 rw[e];exact must (zbs k) (br (λj=>must (zC h) (must (zC i) rfl)) λj=>must (zC h) (must (zC i) rfl))
def zF2 (b:Host)(a c:Int)(j:zxu b a c=true):∃N,zwt N b a c=some [aH<|zcE b a c,aB<|zcP b a c]:=by
 obtain⟨j,p⟩:=zof j;have k:=(zS b).1 (zK.1 j);refine⟨0,?_⟩;show _=some (zff<|zcN b a c);unfold zwt oN nB;conv=>zeta
 refine must (zbs<|(zS _).2 k) (must (zbs<|(zS _).2 k)<|brN (λf=>?_) λf=>?_);{rw [zjM f];rfl};obtain⟨r,d,e⟩:=zdM f;have l:=zme k d e;have q:zN (gOf b a c)=7:=qD p;rw[zku f,q];refine must (zC d) (must (zC e)<|must (zky rfl p) ?_);show _=some (zff (zlU b a c (gOf b a c) 7,true));refine must (zC d) (must rfl (br (λg=>must (zC d) (br (λi=>must (zC d) (must (zC d)<|shr ?_)) λi=>?_)) λg=>?_));{rw [zpw (z0O (h:=b) (m:=a) (x:=gOf b a c) (w:=7) rfl g i),zEF (w:=7) rfl];have n:=zp9 d {ix b.Mons a mZ with Own:=zQ .i64 (ix b.Mons a mZ).Own 1};refine zbdm l (zfQ d) ?_ ?_;{show hasB c (ln (ix (up b.Mons a _) a mZ).Guests)=true;rw[n];exact e};{show ix (ix (up b.Mons a _) a mZ).Guests c gZ=_;rw[n];rfl}};{rw [zpw<|z0N (h:=b) (m:=a) (x:=gOf b a c) (w:=7) i,zEF (w:=7) rfl];exact z9L l d e};{rw [zpw<|z0M (h:=b) (m:=a) (x:=gOf b a c) (w:=7) g,zEF (w:=7) rfl];exact z9L l d e}
def zCf:vR 75 zGc:=kF3 z1k zn zbH zik (zq []) zF2
def zrX:LW
 |[.agg [.s (.sl .int) b,.s .mon c,.s .entry d,.s .entry e],.one<|.i .i64 f,.one<|.i .i64 g]=>some (zdx (⟨b,c,d,e⟩:Host) f g,[aH<|zcE (⟨b,c,d,e⟩:Host) f g,aB<|zcP (⟨b,c,d,e⟩:Host) f g])
 |_=>none
def zI0:vR 75 zrX:=by refine⟨zrq.1,λw m l n g h=>?_⟩;unfold zrX at h;split at h;{rename_i a b d f i j;obtain⟨k,rfl⟩:=zfd h;rcases z8m (gOf (⟨a,b,d,f⟩:Host) i j) with e|e|e|e|e|e|e|e;{exact zrq.2 w _ l _ g (congrArg (λc=>some (c,zff<|zcN (⟨a,b,d,f⟩:Host) i j))<|zky k e)};{exact zB9.2 w _ l _ g (congrArg (λc=>some (c,zff<|zcN (⟨a,b,d,f⟩:Host) i j))<|zky k e)};{exact zCa.2 w _ l _ g (congrArg (λc=>some (c,zff<|zcN (⟨a,b,d,f⟩:Host) i j))<|zky k e)};{exact zCb.2 w _ l _ g (congrArg (λc=>some (c,zff<|zcN (⟨a,b,d,f⟩:Host) i j))<|zky k e)};{exact zCc.2 w _ l _ g (congrArg (λc=>some (c,zff<|zcN (⟨a,b,d,f⟩:Host) i j))<|zky k e)};{exact zCd.2 w _ l _ g (congrArg (λc=>some (c,zff<|zcN (⟨a,b,d,f⟩:Host) i j))<|zky k e)};{exact zCe.2 w _ l _ g (congrArg (λc=>some (c,zff<|zcN (⟨a,b,d,f⟩:Host) i j))<|zky k e)};{exact zCf.2 w _ l _ g (congrArg (λc=>some (c,zff<|zcN (⟨a,b,d,f⟩:Host) i j))<|zky k e)}};{cases h}
@[simp] abbrev zuv (h:Host)(m g b a:Int)(c:Bool):Bool:=pc (zdz h)
@[simp] abbrev zus (h:Host)(m g b a:Int)(c:Bool):Host:=(lookOf h (zuo h c) m g b a c).1
@[simp] abbrev zut (h:Host)(m g b a:Int)(c:Bool):Int:=(lookOf h (zuo h c) m g b a c).2.1
@[simp] abbrev zuu (h:Host)(m g b a:Int)(c:Bool):Bool:=(lookOf h (zuo h c) m g b a c).2.2
def zEj:Run:=rF6 dH dI dI dI dI dB λb c d e f g=>(zuv b c d e f g,[aH<|zus b c d e f g,aI<|zut b c d e f g,aB<|zuu b c d e f g])
abbrev zUx (b:lM)(c:lN)(d:lE)(e:lE)(a:Int)(g:Int)(f:Int):Mon :=
 (ix (zgv (⟨b,c,d,e⟩:Host) a g f).Mons a zh)
def ztA (N:Nat)(d:Int)(e:Int)(b:Int)(f:Int)(g:lM)(h:lN)(c:lE)(a:lE):OA:=
 let i:=(⟨e,d,b,f⟩:Entry); (oN (zh6 a i)<|some [aH (⟨g,h,c,zhK a i⟩:Host),aI b,aB true])
def zu9 (N:Nat)(d:lM)(e:lN)(f:lE)(g:lE)(b:Int)(i:Int)(h:Int)(a:Int)(c:Int)(s:(Int×Int×Int×Int×lM×lN×lE×lE×lM×lN×lE×lE×Unit)->OA)(k:Int)(l:lM)(m:lN)(n:lE)(p:lE):OA:=
 let x:=(⟨d,e,f,g⟩:Host);let r:=zgv x b i h;let j:=zUx d e f g b i h;let w:=ix j.Tables a zeO;let u:=(ix j.Guests a zA).Live; (oN (zgJ x b i h)<|oN (inb b<|ln r.Mons)<|oN (inb a<|ln j.Tables)<|oN (inb a<|ln j.Guests)<|oN (zv0 w u j.Outer c)<|oN (inb a<|ln j.Tables)<|share (up r.Mons b ({j with Tables:=(up j.Tables a<|zvZ w u j.Outer c)}:Mon)) (λq=>let v:=(ix q b zh).Tables;let t:=ix v a zeO; (oN (inb a<|ln v)<|oN (zyN t c)<|s (c,k,(zjL t c).Page,(zjL t c).Rights,l,m,n,p,r.Memory,q,r.Buffer,r.IoBuffer,()))))
def zpN (N:Nat)(a:lN)(g:Int)(h:Int)(b:Int)(c:lM)(d:lE)(e:lE)(p:Int)(f:Int)(n:(Int×Int×Int×Int×lM×lN×lE×lE×lM×lN×lE×lE×Unit)->OA)(i:Int)(j:lM)(k:lN)(l:lE)(m:lE):OA:=
 let r:=zu9 N c a d e g p f h b n i j k l m;let s:=ix (ix a g zh).Tables h zeO;let q:=zjL s b; (cond (nB<|zpH s b) r<|cond (ieq q.Page<|-1) r<|oN (zbm q.Rights f)<|cond (nB<|zdv q.Rights f) r<|n (b,i,q.Page,q.Rights,j,k,l,m,c,a,d,e,()))
def ztB (N:Nat)(c:Int)(d:Int)(e:Int)(i:Int)(j:Int)(k:Int)(l:lM)(m:lN)(n:lE)(p:lE)(f:lM)(b:lN)(g:lE)(h:lE):OA:=
 let r:=(ix b c zh).Tables; (oN (inb c<|ln b)<|oN (inb d<|ln r)<|oN (zyN (ix r d zeO) e)<|share (λ(a:(Int×Int×Int×Int×lM×lN×lE×lE×lM×lN×lE×lE×Unit))=>ztA N a.1 a.2.1 a.2.2.1 a.2.2.2.1 a.2.2.2.2.2.2.2.2.1 a.2.2.2.2.2.2.2.2.2.1 a.2.2.2.2.2.2.2.2.2.2.1 a.2.2.2.2.2.2.2.2.2.2.2.1) λq=>zpN N b c d e f g h j i q k l m n p)
def ztC (N:Nat)(d:Int)(e:Int)(b:Int)(f:Int)(g:lM)(h:lN)(a:lE)(c:lE):OA:=
 let i:=(⟨e,d,b,f⟩:Entry); (oN (zh6 a i)<|some [aH (⟨g,h,zhK a i,c⟩:Host),aI b,aB true])
def ztD (N:Nat)(c:Int)(d:Int)(e:Int)(i:Int)(j:Int)(k:Int)(l:lM)(m:lN)(n:lE)(p:lE)(f:lM)(b:lN)(g:lE)(h:lE):OA:=
 let r:=(ix b c zh).Tables; (oN (inb c<|ln b)<|oN (inb d<|ln r)<|oN (zyN (ix r d zeO) e)<|share (λ(a:(Int×Int×Int×Int×lM×lN×lE×lE×lM×lN×lE×lE×Unit))=>ztC N a.1 a.2.1 a.2.2.1 a.2.2.2.1 a.2.2.2.2.2.2.2.2.1 a.2.2.2.2.2.2.2.2.2.1 a.2.2.2.2.2.2.2.2.2.2.1 a.2.2.2.2.2.2.2.2.2.2.2.1) λq=>zpN N b c d e f g h j i q k l m n p)
def ztE (N:Nat)(f:Int)(g:Int)(c:Int)(e:Int)(r:Bool)(j:Int)(k:lM)(l:lN)(m:lE)(n:lE)(h:lM)(i:lN)(a:lE)(b:lE):OA:=
 let u:=aH (⟨h,i,a,b⟩:Host);let p:=zk3 f g;let t:=zhe a p c;let s:=zhe b p c; (cond r (oN (zh8 f g)<|share (λ(d:(Int×Int×Int×Int×Int×Int×lM×lN×lE×lE×lM×lN×lE×lE×Unit))=>ztB N d.1 d.2.1 d.2.2.1 d.2.2.2.1 d.2.2.2.2.1 d.2.2.2.2.2.1 d.2.2.2.2.2.2.1 d.2.2.2.2.2.2.2.1 d.2.2.2.2.2.2.2.2.1 d.2.2.2.2.2.2.2.2.2.1 d.2.2.2.2.2.2.2.2.2.2.1 d.2.2.2.2.2.2.2.2.2.2.2.1 d.2.2.2.2.2.2.2.2.2.2.2.2.1 d.2.2.2.2.2.2.2.2.2.2.2.2.2.1) λq=>oN (zir b p c)<|cond (zgh b p c) (oN (zbm s.Rights e)<|cond (zdv s.Rights e) (some [u,aI s.Host,aB true])<|q (f,g,c,e,j,p,k,l,m,n,h,i,a,b,()))<|q (f,g,c,e,j,p,k,l,m,n,h,i,a,b,()))<|oN (zh8 f g)<|share (λ(d:(Int×Int×Int×Int×Int×Int×lM×lN×lE×lE×lM×lN×lE×lE×Unit))=>ztD N d.1 d.2.1 d.2.2.1 d.2.2.2.1 d.2.2.2.2.1 d.2.2.2.2.2.1 d.2.2.2.2.2.2.1 d.2.2.2.2.2.2.2.1 d.2.2.2.2.2.2.2.2.1 d.2.2.2.2.2.2.2.2.2.1 d.2.2.2.2.2.2.2.2.2.2.1 d.2.2.2.2.2.2.2.2.2.2.2.1 d.2.2.2.2.2.2.2.2.2.2.2.2.1 d.2.2.2.2.2.2.2.2.2.2.2.2.2.1) λq=>oN (zir a p c)<|cond (zgh a p c) (oN (zbm t.Rights e)<|cond (zdv t.Rights e) (some [u,aI t.Host,aB true])<|q (f,g,c,e,j,p,k,l,m,n,h,i,a,b,()))<|q (f,g,c,e,j,p,k,l,m,n,h,i,a,b,()))
def ztF (N:Nat)(c:Int)(i:Int)(d:Int)(b:Int)(m:Bool)(n:lM)(p:lN)(j:lE)(k:lE)(e:lM)(a:lN)(f:lE)(g:lE)(l:lG):OA:=
 let s:=ix a c zh;let r:=(ix l i zA).Live;let q:=zfw r d b; (oN (inb i<|ln l)<|oN (zin r d b)<|cond (nB<|ze1 r d b) (some [aH (⟨e,a,f,g⟩:Host),aI<|-1,aB false])<|share (λ(h:(Int×Int×Int×Int×Bool×Int×lM×lN×lE×lE×lM×lN×lE×lE×Unit))=>ztE N h.1 h.2.1 h.2.2.1 h.2.2.2.1 h.2.2.2.2.1 h.2.2.2.2.2.1 h.2.2.2.2.2.2.1 h.2.2.2.2.2.2.2.1 h.2.2.2.2.2.2.2.2.1 h.2.2.2.2.2.2.2.2.2.1 h.2.2.2.2.2.2.2.2.2.2.1 h.2.2.2.2.2.2.2.2.2.2.2.1 h.2.2.2.2.2.2.2.2.2.2.2.2.1 h.2.2.2.2.2.2.2.2.2.2.2.2.2.1) λt=>cond (ieq b 2) (oN (inb c<|ln a)<|oN (inb q<|ln s.Dirty)<|share (up a c ({s with Dirty:=(up s.Dirty q true)}:Mon)) λu=>t (c,i,d,b,m,q,n,p,j,k,e,u,f,g,()))<|t (c,i,d,b,m,q,n,p,j,k,e,a,f,g,()))
def zKt (N:Nat)(d:Host)(e f:Int)(h g:Int)(i:Bool):OA:=
 let c:=zl d;let a:=zda d e; (oN (zT d)<|oN (zc3 d e)<|share (λ(b:(Int×Int×Int×Int×Bool×Int×Int×Int×lM×lN×lE×lE×lM×lN×lE×lE×lS×lM×lB×lG×LI×lK×Unit))=>ztF N b.1 b.2.1 b.2.2.1 b.2.2.2.1 b.2.2.2.2.1 b.2.2.2.2.2.2.2.2.1 b.2.2.2.2.2.2.2.2.2.1 b.2.2.2.2.2.2.2.2.2.2.1 b.2.2.2.2.2.2.2.2.2.2.2.1 b.2.2.2.2.2.2.2.2.2.2.2.2.1 b.2.2.2.2.2.2.2.2.2.2.2.2.2.1 b.2.2.2.2.2.2.2.2.2.2.2.2.2.2.1 b.2.2.2.2.2.2.2.2.2.2.2.2.2.2.2.1 b.2.2.2.2.2.2.2.2.2.2.2.2.2.2.2.2.2.2.2.1) λj=>oN (zct d)<|cond (nB<|zcn d) (some [aH c,aI<|-1,aB false])<|cond (nB<|zmQ d e) (some [aH c,aI<|-1,aB false])<|oN (zbm f<|ln a.Guests)<|cond (nB<|zcj f<|ln a.Guests) (some [aH c,aI<|-1,aB false])<|cond (ine g 1) (cond (ine g 2) (some [aH c,aI<|-1,aB false])<|j (e,f,h,g,i,a.Pending,a.Traps,a.Own,[],[],[],[],c.Memory,c.Mons,c.Buffer,c.IoBuffer,a.Outer,a.Out,a.Dirty,a.Guests,a.Outs,a.Tables,()))<|j (e,f,h,g,i,a.Pending,a.Traps,a.Own,[],[],[],[],c.Memory,c.Mons,c.Buffer,c.IoBuffer,a.Outer,a.Out,a.Dirty,a.Guests,a.Outs,a.Tables,()))
def zXZ:=zq [(286,999999,{n:=0,tm:=[],lo:=[],ro:=[]}),(286,1007055,{n:=200,tm:=[(1,ti),(2,ti),(3,ti),(4,ti),(5,.b),(12,.lp 0 0),(15,.lp 1 0),(16,.lp 2 0)],lo:=[(0,[.sl 0 [],.sl 1 [],.sl 2 [],.sl 3 []]),(1,[.sl 4 [],.sl 5 [],.sl 6 [],.sl 7 []]),(2,[.sl 8 [],.sl 9 [],.sl 10 [],.sl 11 [],.sl 12 [],ti,ti,.sl 13 [],ti])],ro:=[(0,.sl .int,true),(1,.mon,true),(2,.entry,true),(3,.entry,true),(4,.sl .int,true),(5,.mon,true),(6,.entry,true),(7,.entry,true),(8,.slot,true),(9,.sl .int,true),(10,.bool,true),(11,.guest,true),(12,.int,true),(13,.kept,true)]}),(286,1005039,{n:=200,tm:=[(1,ti),(2,ti),(3,ti),(4,ti),(5,.b),(12,.lp 0 0),(15,.lp 1 0),(18,ti)],lo:=[(0,[.sl 0 [],.sl 1 [],.sl 2 [],.sl 3 []]),(1,[.sl 4 [],.sl 5 [],.sl 6 [],.sl 7 []])],ro:=[(0,.sl .int,true),(1,.mon,true),(2,.entry,true),(3,.entry,true),(4,.sl .int,true),(5,.mon,true),(6,.entry,true),(7,.entry,true)]}),(286,1009019,{n:=200,tm:=[(1,ti),(2,ti),(3,ti),(4,ti),(12,.lp 0 0),(15,.lp 1 0),(18,ti),(20,.lp 1 3),(21,ti)],lo:=[(0,[.sl 0 [],.sl 1 [],.sl 2 [],.sl 3 []]),(1,[.sl 4 [],.sl 5 [],.sl 6 [],.sl 7 []])],ro:=[(0,.sl .int,true),(1,.mon,true),(2,.entry,true),(3,.entry,true),(4,.sl .int,true),(5,.mon,true),(6,.entry,true),(7,.entry,true)]}),(286,1011005,{n:=200,tm:=[(3,ti),(12,.lp 0 0),(15,.lp 1 0),(20,.lp 1 3),(21,ti),(24,.lp 2 0)],lo:=[(0,[.sl 0 [],.sl 1 [],.sl 2 [],.sl 3 []]),(1,[.sl 4 [],.sl 5 [],.sl 6 [],.sl 7 []]),(2,[ti,ti])],ro:=[(0,.sl .int,true),(1,.mon,true),(2,.entry,true),(3,.entry,true),(4,.sl .int,true),(5,.mon,true),(6,.entry,true),(7,.entry,true)]}),(286,1001009019,{n:=200,tm:=[(1,ti),(2,ti),(3,ti),(4,ti),(12,.lp 0 0),(15,.lp 1 0),(18,ti),(20,.lp 1 2),(21,ti)],lo:=[(0,[.sl 0 [],.sl 1 [],.sl 2 [],.sl 3 []]),(1,[.sl 4 [],.sl 5 [],.sl 6 [],.sl 7 []])],ro:=[(0,.sl .int,true),(1,.mon,true),(2,.entry,true),(3,.entry,true),(4,.sl .int,true),(5,.mon,true),(6,.entry,true),(7,.entry,true)]}),(286,1001011005,{n:=200,tm:=[(3,ti),(12,.lp 0 0),(15,.lp 1 0),(20,.lp 1 2),(21,ti),(24,.lp 2 0)],lo:=[(0,[.sl 0 [],.sl 1 [],.sl 2 [],.sl 3 []]),(1,[.sl 4 [],.sl 5 [],.sl 6 [],.sl 7 []]),(2,[ti,ti])],ro:=[(0,.sl .int,true),(1,.mon,true),(2,.entry,true),(3,.entry,true),(4,.sl .int,true),(5,.mon,true),(6,.entry,true),(7,.entry,true)]})]
def z9O {N:Nat}{r:Host}{m g a:Int}(b:r.IoBuffer.length<=1048576) :
 ztA N a (zeZ m g) (zeS (zcp r m g) a).Page (zeS (zcp r m g) a).Rights r.Memory r.Mons r.Buffer r.IoBuffer=some (zlB<|zfG r m g a true):=by
 unfold ztA oN
 conv=>zeta
 exact must (zbs b) rfl
def z9Q {N:Nat}{r:Host}{m g a:Int}(b:r.Buffer.length<=1048576) :
 ztC N a (zeZ m g) (zeS (zcp r m g) a).Page (zeS (zcp r m g) a).Rights r.Memory r.Mons r.Buffer r.IoBuffer=some (zlB<|zfG r m g a false):=by
 unfold ztC oN
 conv=>zeta
 exact must (zbs b) rfl
def z7j {N:Nat}{r:Host}{m g a b q:Int}{R:OA}{r10}{u5 u6 u7 u8 u9}(A:LookAt r m g q b)(c:r10 (a,u5,(zeS (zcp (zcX (mended r m q b) m g a) m g) a).Page,(zeS (zcp (zcX (mended r m q b) m g a) m g) a).Rights,u6,u7,u8,u9,(zcX (mended r m q b) m g a).Memory,(zcX (mended r m q b) m g a).Mons,(zcX (mended r m q b) m g a).Buffer,(zcX (mended r m q b) m g a).IoBuffer,())=R) :
 zu9 N r.Memory r.Mons r.Buffer r.IoBuffer m q b g a r10 u5 u6 u7 u8 u9=R:=by
 have M:=znE A.kp A.hm A.hg;have F:=znE (A.fill a) A.hm A.hg;unfold zu9 oN
 conv=>zeta
 exact must (zbs A.mend) (must (zC M.hm)<|must (zC M.ht)<|must (zC M.hg)<|must (zbs M.hk)<|must (zC M.ht)<|shr<|must (zC F.ht) (must rfl c))
def lk_3 {N:Nat}{r:Host}{m g a b q:Int}{c:Bool}{r10}{u5 u6 u7 u8 u9}(A:LookAt r m g q b)(h:r10 (a,u5,(zeS (zcp (zcX (mended r m q b) m g a) m g) a).Page,(zeS (zcp (zcX (mended r m q b) m g a) m g) a).Rights,u6,u7,u8,u9,(zcX (mended r m q b) m g a).Memory,(zcX (mended r m q b) m g a).Mons,(zcX (mended r m q b) m g a).Buffer,(zcX (mended r m q b) m g a).IoBuffer,())=some (zlB<|zfG (zcX (mended r m q b) m g a) m g a c))(i:r10 (a,u5,(zeS (zcp r m g) a).Page,(zeS (zcp r m g) a).Rights,u6,u7,u8,u9,r.Memory,r.Mons,r.Buffer,r.IoBuffer,())=some (zlB<|zfG r m g a c)) :
 zpN N r.Mons m g a r.Memory r.Buffer r.IoBuffer q b r10 u5 u6 u7 u8 u9=some (zlB<|cond (zft r m g a b) (zfG (zcX (mended r m q b) m g a) m g a c)<|zfG r m g a c):=by
 unfold zpN oN nB
 conv=>zeta
 refine brN (λd=>?_) (λd=>br (λe=>?_) λe=>must rfl (brN (λf=>?_) λf=>?_))
 .rw [zu0<|z0F d];exact z7j A h
 .rw [zu0<|z0G e];exact z7j A h
 .rw [zu0<|z0H f];exact z7j A h
 .rw [z0j<|z0I d e f];exact i
def z9P {N:Nat}{r:Host}{m g a b q:Int}{u6 u7 u8 u9}(A:LookAt r m g q b) :
 ztB N m g a b q (zeZ m g) u6 u7 u8 u9 r.Memory r.Mons r.Buffer r.IoBuffer=some (zlB<|cond (zft r m g a b) (zfG (zcX (mended r m q b) m g a) m g a true)<|zfG r m g a true):=by
 have M:=znE ⟨A.fit.1,rfl⟩ A.hm A.hg;have F:=znE (A.fill a) A.hm A.hg;unfold ztB oN
 conv=>zeta
 exact must (zC M.hm) (must (zC M.ht) (must rfl (shr<|lk_3 A (z9O (r:=zcX (mended r m q b) m g a) (m:=m) (g:=g) F.hi)<|z9O (r:=r) (m:=m) (g:=g) M.hi)))
def z9R {N:Nat}{r:Host}{m g a b q:Int}{u6 u7 u8 u9}(A:LookAt r m g q b) :
 ztD N m g a b q (zeZ m g) u6 u7 u8 u9 r.Memory r.Mons r.Buffer r.IoBuffer=some (zlB<|cond (zft r m g a b) (zfG (zcX (mended r m q b) m g a) m g a false)<|zfG r m g a false):=by
 have M:=znE ⟨A.fit.1,rfl⟩ A.hm A.hg;have F:=znE (A.fill a) A.hm A.hg;unfold ztD oN
 conv=>zeta
 exact must (zC M.hm) (must (zC M.ht) (must rfl (shr<|lk_3 A (z9Q (r:=zcX (mended r m q b) m g a) (m:=m) (g:=g) F.hb)<|z9Q (r:=r) (m:=m) (g:=g) M.hb)))
def z9S {N:Nat}{r:Host}{m g b a q:Int}{e:Bool}{u6 u7 u8 u9}(A:LookAt r m g q a) :
 ztE N m g b a e q u6 u7 u8 u9 r.Memory r.Mons r.Buffer r.IoBuffer=some (zlB<|zhD r (zuo r e) m g b a q e):=by
 unfold ztE oN
 conv=>zeta
 cases e
 .show _=some (zlB<|zhD r r.Buffer m g b a q false)
  refine zcf rfl (must rfl (shr (must rfl (br (λc=>must rfl (br (λd=>?_) λd=>?_)) λc=>?_))))
  .rw [zE6<|zpB c d];rfl
  .rw [zpE<|zpB c d];exact z9R A
  .rw [zpE<|zE3 c];exact z9R A
 .show _=some (zlB<|zhD r r.IoBuffer m g b a q true)
  refine must rfl (must rfl (shr (must rfl (br (λc=>must rfl (br (λd=>?_) λd=>?_)) λc=>?_))))
  .rw [zE6<|zpB c d];rfl
  .rw [zpE<|zpB c d];exact z9P A
  .rw [zpE<|zE3 c];exact z9P A
def zbdg (r:Host)(m q:Int)(a:Bool):zuo (zbP r m q) a=zuo r a:=by cases a<;>rfl
def z9T {N:Nat}{r:Host}{m g b a:Int}{c:Bool}{z1 z2 z3 z4}(k:SmH r)(hg:zcc r m g=true)(h:zhk a=true) :
 ztF N m g b a c z1 z2 z3 z4 r.Memory r.Mons r.Buffer r.IoBuffer (ix r.Mons m mZ).Guests=some (zlB (lookOf r (zuo r c) m g b a c)):=by
 obtain⟨l,f,i⟩:=zdM hg;unfold ztF oN nB
 conv=>zeta
 refine must (zC i) (must rfl (brN (fun e=>?_) (fun e=>?_)))
 .have:zb3 r m g b a=false:=by
   unfold zb3;rw[hg,h,show zfv (zcW r m g) b a=false from e];rfl
  rw[zi2 this];rfl
 .have hl:zb3 r m g b a=true:=by
   unfold zb3;rw[hg,h,show zfv (zcW r m g) b a=true from e];rfl
  obtain⟨A,B⟩:=zD4 k hl;rw[zJF hl];have j:hasB (zcI (zcW r m g) b a) (ln (ix r.Mons m mZ).Dirty)=true:=zex (zc4 A.fit.1 f).2.2.2.1 A.hq;refine shr (br (fun d=>?_) (fun d=>?_))
  .rw [d]
   show _=some (zlB (zhD (zbP r m (zcI (zcW r m g) b a)) (zuo r c) m g b a (zcI (zcW r m g) b a) c))
   rw[<- zbdg r m (zcI (zcW r m g) b a) c];exact must (zC f) (must (zC j) (shr (z9S (r:=zbP r m (zcI (zcW r m g) b a)) B)))
  .rw [d];exact z9S A
def zWe (a:Host)(b d:Int)(e c:Int)(f:Bool)(s:zuv a b d e c f=true):∃N,zKt N a b d e c f=some [aH<|zus a b d e c f,aI<|zut a b d e c f,aB<|zuu a b d e c f]:=by
 have i:=(zS a).1 (zK.1 s);refine⟨0,?_⟩;show _=some (zlB<|lookOf a (zuo a f) b d e c f);unfold zKt oN nB;conv=>zeta
 refine must (zbs<|(zS _).2 i) (must (zbs<|(zS _).2 i)<|shr (must rfl (brN (λj=>?_) λj=>?_)));{rw [zi2<|zpF<|zOo j];rfl};refine brN (λg=>?_) (λg=>?_);{rw [zi2<|zpF<|zOp g];rfl};have q:zda a b=ix a.Mons b mZ:=(by unfold zda;rw[show hasB b (ln a.Mons)=true from g];rfl);rw[q];refine must rfl (brN (λk=>?_) λk=>?_);{rw [zi2<|zpF<|zOq k];rfl};have hg:=zOr j g k;have m:∀{n:Int},zhk n=false->zb3 a b d e n=false:=λ{n} h=>(by unfold zb3;rw[hg,h];rfl);rw[zi1,zi1];cases l:ieq c 1;{cases p:ieq c 2;{have:zhk c=false:=(by unfold zhk;rw[l,p];rfl);rw[zi2<|m this];rfl};{exact z9T (r:=a) i hg (by unfold zhk;rw[l,p];rfl)}};{exact z9T (r:=a) i hg (by unfold zhk;rw[l];rfl)}
def zOV:vR 286 zEj:=kF6 zi6 zn zbH zik zXZ zWe
def z9t:zbb:=[(286,zEj),(75,zrX)]++zoO
def zU9:zU z9t:=zi zOV (zi zI0 zi6)
@[simp] abbrev zlw (h:Host)(m g b a:Int):Bool:=pc (zdz h)
@[simp] abbrev zuq (h:Host)(m g page need:Int):Host:=(lookOf h h.Buffer m g page need false).1
@[simp] abbrev zur (h:Host)(m g page need:Int):Int:=(lookOf h h.Buffer m g page need false).2.1
@[simp] abbrev zAg (h:Host)(m g b a:Int):Bool:=(lookOf h h.Buffer m g b a false).2.2
def zEh:Run:=rF5 dH dI dI dI dI λb c d e f=>(zlw b c d e f,[aH<|zuq b c d e f,aI<|zur b c d e f,aB<|zAg b c d e f])
def zKh (N:Nat)(a:Host)(b c:Int)(d e:Int):OA:=
 (oN (zuv a b c d e false)<|some [aH<|zus a b c d e false,aI<|zut a b c d e false,aB<|zuu a b c d e false])
def zV2 (a:Host)(b c:Int)(d e:Int)(f:zlw a b c d e=true):∃N,zKh N a b c d e=some [aH<|zuq a b c d e,aI<|zur a b c d e,aB<|zAg a b c d e]:=by refine⟨0,?_⟩;unfold zKh oN;exact must f rfl
def zOE:vR 150 zEh:=kF5 zU9 zn zbH zik (zq []) zV2
def z9u:zbb:=[(150,zEh)]++z9t
def z6L:zU z9u:=zi zOE zU9
def brought (n a b:Int):Int:=bif ilt n a then a else (cond (ilt b a) a<|zPC n b)
@[simp] abbrev zsA (_ _ _:Int):Bool:=true
@[simp] abbrev ztq (n a b:Int):Int:=brought n a b
def ztV:Run:=rF3 dI dI dI λb c d=>(zsA b c d,[aI<|ztq b c d])
def zGF (N:Nat)(b a c:Int):OA:=
 (cond (ilt c a) (some [aI a])<|cond (ilt b a) (some [aI a])<|cond (igt b c) (some [aI c])<|some [aI b])
def zTp (a b c:Int)(g:zsA a b c=true):∃N,zGF N a b c=some [aI<|ztq a b c]:=by refine⟨0,?_⟩;unfold zGF;unfold ztq brought zPC;cases d:ilt c b<;>cases e:ilt a b<;>cases f:igt a c<;>simp [igt] at * <;> omega
def zwT:vR 393 ztV:=kF3 zrD zn zx zo (zq []) zTp
structure RI (a:List Bare) (i:Nat) (l:List Bare):Prop where
 len:l.length=a.length
 sm:z0U l
 eq:∀k,i<=k->l[k]?=a[k]?
def RI.up {a l:List Bare}{i:Nat}(h:RI a i l)(x:Bare)(b:SmB x):RI a (i+1) (up l (i:Int) x):=
 ⟨by rw[zgy];exact h.len,zbbI h.sm b,λk c=>by rw[zbcv (by omega)];exact h.eq k (by omega)⟩
structure RJ (l:List Bare) (i:Nat) (l':List Bare):Prop where
 len:l'.length=l.length
 sm:SmB (ix l' (i:Int) zmf)
 up:∀x,E.up l' (i:Int) x=E.up l (i:Int) x
def RJ.next {l a:List Bare}{i:Nat}(h:RJ l i a)(b:i<l.length)(x:Bare)(c:SmB x):RJ l i (E.up a (i:Int) x):=
 ⟨by rw[zgy];exact h.len,by rw[zd8 (by rw[h.len];exact b)];exact c,λy=>by rw[zrn];exact h.up y⟩
def z3X:zbb:=[(161,zrW)]++z9u
def zRN:zU z3X:=zi zvx z6L
def zzc:Run:=rF3 dH dI dI λb c d=>(zdx b c d,[aH<|zcE b c d,aB<|zcP b c d])
abbrev ziW (a:Host)(b c:Int):Int :=
 (zh3<|ix (zda a b).Guests c zA)
abbrev zdY (a:Host)(b c:Int):Int :=
 (zit<|ix (zda a b).Guests c zA)
abbrev zyg (a:Host)(b c:Int):Host :=
 (zuq a b c (zbA<|ziW a b c)<|zdK<|ieq (zdY a b c) 4)
abbrev ziV (a:Host)(b c:Int):Guest :=
 (ix (ix (zl a).Mons b zh).Guests c zA)
abbrev znk (c:lN)(a b:Int):Guest :=
 (ix (ix c a zh).Guests b zA)
abbrev zyh (a:Host)(b c:Int):Int :=
 (zur a b c (zbA<|ziW a b c)<|zdK<|ieq (zdY a b c) 4)
def znl (N:Nat)(f:Host)(c d:Int):OA:=
 let j:=zyh f c d;let h:=ieq (zdY f c d) 4;let a:=ziW f c d;let b:=zyg f c d;let k:=inb c<|ln b.Mons;let e:=ix (zda f c).Guests d zA;let g:=ix b.Mons c zh;let l:=inb d<|ln g.Guests; (oN (zbQ a)<|oN (zlK h)<|oN (zlw f c d (zbA a)<|zdK h)<|cond (nB<|zAg f c d (zbA a)<|zdK h) (oN (zbQ a)<|oN (zhd (zbA a) h)<|oN (zcF e<|ze9 (zbA a) h)<|oN k<|oN l<|share (up b.Mons c ({g with Guests:=(up g.Guests d<|zcG e<|ze9 (zbA a) h)}:Mon)) λi=>some [aH ({b with Mons:=i}:Host),aB true])<|cond h (oN (zbQ a)<|oN (zek b.Memory j (zc7 a) e.A)<|oN (zO e)<|oN k<|oN l<|share (up b.Mons c ({g with Guests:=(up g.Guests d<|zch e)}:Mon)) λi=>some [aH ({b with Memory:=(zeH b.Memory j (zc7 a) e.A),Mons:=i}:Host),aB true])<|oN (zbQ a)<|oN (zfO b.Memory j<|zc7 a)<|oN (zn0 e<|zgQ b.Memory j<|zc7 a)<|oN k<|oN l<|share (up b.Mons c ({g with Guests:=(up g.Guests d<|zlI e<|zgQ b.Memory j<|zc7 a)}:Mon)) λi=>some [aH ({b with Mons:=i}:Host),aB true])
def znm (N:Nat)(f:Host)(a b:Int)(d:lN):OA:=
 let c:=znk d a b;let e:=ix d a zh;let g:=({ (ziV f a b) with Prog:=c.Prog,Written:=c.Written,Live:=c.Live,Seen:=c.Seen}:Guest); (oN (zO g)<|oN (inb b<|ln e.Guests)<|share (up d a ({e with Guests:=(up e.Guests b<|zch g)}:Mon)) λh=>some [aH ({ (zl f) with Mons:=h}:Host),aB true])
def znn (N:Nat)(e:Host)(a d:Int):OA:=
 let g:=(zl e).Mons;let c:=ziV e a d;let b:=ix g a zh;let h:=ap b.Outs [(zec c.Prog c.Pc).X]; (cond (ieq (zdY e a d) 7) (oN (zO c)<|oN (inb d<|ln b.Guests)<|share (up g a ({b with Guests:=(up b.Guests d<|zjg c)}:Mon)) λf=>some [aH ({ (zl e) with Mons:=f}:Host),aB true])<|cond (ilt (ln b.Outs) 40) (oN (zei c.Prog c.Pc)<|oN (few<|ln h)<|oN (cond (ieq a a) true false)<|share (up g a ({b with Outs:=h}:Mon)) λf=>znm N e a d f)<|oN (zO c)<|oN (inb d<|ln b.Guests)<|share (up g a ({b with Guests:=(up b.Guests d<|zch c)}:Mon)) λf=>some [aH ({ (zl e) with Mons:=f}:Host),aB true])
def zno (N:Nat)(a:Int)(g:Host)(b:Int):OA:=
 let f:=zl g;let j:=zdY g a b;let d:=ziV g a b;let c:=ix f.Mons a zh;let l:=zlh c.Traps d.Ctl.Traps<|zi9 j; (oN (inb a<|ln f.Mons)<|oN (inb b<|ln c.Guests)<|oN (zp7 j)<|oN (zoE c.Traps d.Ctl.Traps<|zi9 j)<|cond (ieq l 1) (oN (zos d j)<|oN (inb b<|ln c.Guests)<|share (up f.Mons a ({c with Guests:=(up c.Guests b<|zlf d j)}:Mon)) λe=>some [aH ({f with Mons:=e}:Host),aB true])<|cond (ieq l 2) (cond (ilt c.Own 1000000000) (share (up f.Mons a ({c with Own:=(zQ .i64 c.Own 1)}:Mon)) (λe=>let i:=ix e a zh;let h:=znk e a b;let k:=ap i.Outs [(zec h.Prog d.Pc).X];let q:=({d with Prog:=h.Prog,Written:=h.Written,Live:=h.Live,Seen:=h.Seen}:Guest); (cond (ieq j 7) (oN (zO q)<|oN (inb b<|ln i.Guests)<|share (up e a ({i with Guests:=(up i.Guests b<|zjg q)}:Mon)) λm=>some [aH ({f with Mons:=m}:Host),aB true])<|cond (ilt (ln i.Outs) 40) (oN (zei h.Prog d.Pc)<|oN (few<|ln k)<|oN (cond (ieq a a) true false)<|share (up e a ({i with Outs:=k}:Mon)) (λm=>let p:=ix m a zh;let n:=ix p.Guests b zA;let r:=({d with Prog:=n.Prog,Written:=n.Written,Live:=n.Live,Seen:=n.Seen}:Guest); (oN (zO r)<|oN (inb b<|ln p.Guests)<|share (up m a ({p with Guests:=(up p.Guests b<|zch r)}:Mon)) λs=>some [aH ({f with Mons:=s}:Host),aB true])))<|znm N g a b e)))<|znn N g a b)<|znn N g a b)
def zkE (N:Nat)(a:Host)(b c:Int):OA:=
 (oN (zc3 a b)<|oN (zcD (zdj a b) c)<|oN (inb b<|ln (zl a).Mons)<|share (up (zl a).Mons b ({ (ix (zl a).Mons b zh) with Guests:=(zkL (zdj a b) c).Guests}:Mon)) λd=>some [aH ({ (zl a) with Mons:=d}:Host),aB true])
def zhl (N:Nat)(a:Host)(b c:Int):OA:=
 let d:=zdY a b c; (cond (ieq d 5) (cond (ieq d 5) (zno N b a c)<|zkE N a b c)<|cond (ieq d 7) (zno N b a c)<|zkE N a b c)
def zCt (N:Nat)(a:Host)(c b:Int):OA:=
 let f:=aH<|zl a;let e:=zdY a c b;let d:=(zda a c).Guests;let g:=ix d b zA; (oN (zT a)<|oN (zc3 a c)<|oN (zct a)<|cond (nB<|zcn a) (some [f,aB false])<|cond (nB<|zmQ a c) (some [f,aB false])<|oN (zbm b<|ln d)<|cond (nB<|zcj b<|ln d) (some [f,aB false])<|oN (inb b<|ln d)<|oN (zbz g)<|cond (ieq e 0) (some [f,aB false])<|oN (inb b<|ln d)<|oN (zbz g)<|oN (zbz g)<|cond (ieq e 3) (cond (ieq e 3) (znl N a c b)<|zhl N a c b)<|cond (ieq e 4) (znl N a c b)<|zhl N a c b)
def zWK {h:Host}{m:Int}(a:hasB m (ln h.Mons)=true):zda h m=ix h.Mons m mZ:=by unfold zda;rw[a];rfl
def is_1 {N:Nat}{a:Host}{c d:Int}(l:SmH a)(p:zcc a c d=true) :
 znl N a c d=some (zff (ziu (zjx a c d (gOf a c d)<|ieq (zN<|gOf a c d) 4) c d (gOf a c d)<|ieq (zN<|gOf a c d) 4,true)):=by
 obtain⟨s,i,n⟩:=zdM p;have m:=zme l i n;have k:=zuZ (b:=a.Buffer) (page:=zbn (address<|gOf a c d)) (need:=zcx (ieq (zN<|gOf a c d) 4)) (io:=false) l p;have F:=znE k i n;have g:=zWK i;have e:zdY a c d=zN (gOf a c d):=by show zit (ix (zda a c).Guests d gZ)=_;rw[g];rfl
 have f:ziW a c d=address (gOf a c d):=by show zh3 (ix (zda a c).Guests d gZ)=_;rw[g];rfl
 have q:zyg a c d=(zjx a c d (gOf a c d)<|ieq (zN<|gOf a c d) 4).1:=by show zuq a c d (zbA<|ziW a c d) (zdK<|ieq (zdY a c d) 4)=_;rw[e,f];rfl
 have r:zyh a c d=(zjx a c d (gOf a c d)<|ieq (zN<|gOf a c d) 4).2.1:=by show zur a c d (zbA<|ziW a c d) (zdK<|ieq (zdY a c d) 4)=_;rw[e,f];rfl
 unfold znl oN nB
 conv=>zeta
 rw[q,e,f,r,g];unfold ziu;refine must rfl (must rfl (must (zbs<|(zS _).2 l)<|brN (λh=>?_) λh=>?_))
 .rw [show (zjx a c d (gOf a c d)<|ieq (zN<|gOf a c d) 4).2.2=false from h]
  exact must rfl (must rfl (must (zbs m)<|must (zC F.hm) (must (zC F.hg) rfl)))
 .rw [show (zjx a c d (gOf a c d)<|ieq (zN<|gOf a c d) 4).2.2=true from h]
  refine br (λj=>?_) (λj=>?_)
  .have kk:=k.shape.1.1;rw[j] at F kk ⊢;exact must rfl (must (zbs kk)<|must (zbs m)<|must (zC F.hm) (must (zC F.hg) rfl))
  .rw [j] at F ⊢;exact must rfl (must rfl (must (zbs m)<|must (zC F.hm) (must (zC F.hg) rfl)))
def is_2 {N:Nat}{c:Host}{d:List Mon}{a b:Int}(g:SmG (gOf c a b))(f:hasB b (ln (ix d a mZ).Guests)=true)(e:znk d a b=ziV c a b) :
 znm N c a b d=some (zff (zhi {c with Mons:=d} a b<|zci<|gOf c a b,true)):=by
 unfold znm oN
 conv=>zeta
 rw[e];exact must (zbs g) (must (zC f) rfl)
def leftG (x:Guest)(w:Int):Guest:=bif ieq w 7 then held x else zci x
def zAn (h:Host)(m:Int)(x:Guest)(w:Int):Host:=bif ieq w 7 then h else zjd h m (zcL x.Prog x.Pc).X
def zyY {h:Host}{m:Int}{x:Guest}{w:Int}(a:ieq w 7=true):leftG x w=held x/\zAn h m x w=h:=by unfold leftG zAn;rw[a];exact⟨rfl,rfl⟩
def zou {h:Host}{m:Int}{x:Guest}{w:Int}(a:ieq w 7=false):leftG x w=zci x/\zAn h m x w=zjd h m (zcL x.Prog x.Pc).X:=by unfold leftG zAn;rw[a];exact⟨rfl,rfl⟩
def z0r {h:Host}{m n:Int}(a:ilt (ln (ix h.Mons m mZ).Outs) 40=true):zjd h m n={h with Mons:=up h.Mons m {ix h.Mons m mZ with Outs:=ap (ix h.Mons m mZ).Outs [n]}}:=by unfold zjd;rw[a];rfl
def z0q {h:Host}{m n:Int}(a:ilt (ln (ix h.Mons m mZ).Outs) 40=false):zjd h m n=h:=by unfold zjd;rw[a];rfl
def is_3 {N:Nat}{b:Host}{a c:Int}(k:SmH b)(g:hasB a (ln b.Mons)=true)(e:hasB c (ln (ix b.Mons a mZ).Guests)=true)(j:zdY b a c=zN (gOf b a c)) :
 znn N b a c=some (zff (zhi (zAn b a (gOf b a c)<|zN<|gOf b a c) a c<|leftG (gOf b a c)<|zN<|gOf b a c,true)):=by
 have i:=zme k g e;unfold znn oN
 conv=>zeta
 rw[j];refine br (λd=>?_) (λd=>br (λf=>?_) λf=>?_)
 .rw [(zyY (x:=gOf b a c) (h:=b) (m:=a) d).1,(zyY (x:=gOf b a c) d).2];exact must (zbs i) (must (zC e) rfl)
 .rw [(zou (x:=gOf b a c) (h:=b) (m:=a) d).1,(zou (x:=gOf b a c) d).2,z0r f];refine must rfl (must (zUl f)<|must (zMz _)<|shr<|is_2 i ?_ ?_)
  .rw [zp9 g];exact e
  .show ix (ix (up b.Mons a _) a mZ).Guests c gZ=_
   rw[zp9 g]
 .rw [(zou (x:=gOf b a c) (h:=b) (m:=a) d).1,(zou (x:=gOf b a c) d).2,z0q f];exact must (zbs i) (must (zC e) rfl)
def zbcZ {h:Host}{m g:Int}{x:Guest}{w:Int}(d:ieq w 6=false)(c:ieq w 5=false->ieq w 6=false->ieq w 7=true)(e:zew x.Ctl.Traps (zgx w)=false):zlU h m g x w=zhi (zAn (zfm h m x w) m x w) m g (leftG x w):=by unfold zlU;cases b:ieq w 7;{have a:ieq w 5=true:=(by cases a:ieq w 5;{have:=c a d;rw[b] at this;cases this};{rfl});obtain⟨f,i⟩:=tr3 x x.Ctl.Traps w d b e a;rw[(zou (x:=x) (h:=zfm h m x w) (m:=m) b).1,(zou (x:=x) b).2,f];unfold zhS;rw[i,a];rfl};{have a:ieq w 5=false:=(by have:w=7:=qD b;rw[this];rfl);rw[(zyY (x:=x) (h:=zfm h m x w) (m:=m) b).1,(zyY (x:=x) b).2,tr4 x x.Ctl.Traps w d c e a,zEF a]}
def is_p {f:Host}{d:List Mon}{a c:Int}(h:SmG (gOf f a c))(g:hasB c (ln (ix d a mZ).Guests)=true)(e:(ix (ix d a zh).Guests c zA)=gOf f a c) :
 (cond (zO ({ (ix (ix (zl f).Mons a zh).Guests c zA) with Prog:=(ix (ix d a zh).Guests c zA).Prog,Written:=(ix (ix d a zh).Guests c zA).Written,Live:=(ix (ix d a zh).Guests c zA).Live,Seen:=(ix (ix d a zh).Guests c zA).Seen}:Guest)) (cond (inb c<|ln (ix d a zh).Guests) (share (up d a ({ (ix d a zh) with Guests:=(up (ix d a zh).Guests c<|zch ({ (ix (ix (zl f).Mons a zh).Guests c zA) with Prog:=(ix (ix d a zh).Guests c zA).Prog,Written:=(ix (ix d a zh).Guests c zA).Written,Live:=(ix (ix d a zh).Guests c zA).Live,Seen:=(ix (ix d a zh).Guests c zA).Seen}:Guest))}:Mon)) λi=>some [.agg<|zbi ({ (zl f) with Mons:=i}:Host),.one<|.b true]) none) none)=some (zff (zhi {f with Mons:=d} a c<|zci<|gOf f a c,true)):=by
 rw[e];exact must (zbs h) (must (zC g) rfl)
def is_o {f:Host}{d:List Mon}{a c:Int}(l:SmG (gOf f a c))(n:hasB a (ln d)=true)(k:hasB c (ln (ix d a mZ).Guests)=true)(e:(ix (ix d a zh).Guests c zA)=gOf f a c) :
 (cond (ieq (zN<|gOf f a c) 7) (cond (zO ({ (ix (ix (zl f).Mons a zh).Guests c zA) with Prog:=(ix (ix d a zh).Guests c zA).Prog,Written:=(ix (ix d a zh).Guests c zA).Written,Live:=(ix (ix d a zh).Guests c zA).Live,Seen:=(ix (ix d a zh).Guests c zA).Seen}:Guest)) (cond (inb c<|ln (ix d a zh).Guests) (share (up d a ({ (ix d a zh) with Guests:=(up (ix d a zh).Guests c<|zjg ({ (ix (ix (zl f).Mons a zh).Guests c zA) with Prog:=(ix (ix d a zh).Guests c zA).Prog,Written:=(ix (ix d a zh).Guests c zA).Written,Live:=(ix (ix d a zh).Guests c zA).Live,Seen:=(ix (ix d a zh).Guests c zA).Seen}:Guest))}:Mon)) λg=>some [.agg<|zbi ({ (zl f) with Mons:=g}:Host),.one<|.b true]) none) none)<|cond (ilt (ln (ix d a zh).Outs) 40) (cond (zei (ix (ix d a zh).Guests c zA).Prog (ix (ix (zl f).Mons a zh).Guests c zA).Pc) (cond (few<|ln<|ap (ix d a zh).Outs [(zec (ix (ix d a zh).Guests c zA).Prog (ix (ix (zl f).Mons a zh).Guests c zA).Pc).X]) (cond (cond (ieq a a) true false) (share (up d a ({ (ix d a zh) with Outs:=(ap (ix d a zh).Outs [(zec (ix (ix d a zh).Guests c zA).Prog (ix (ix (zl f).Mons a zh).Guests c zA).Pc).X])}:Mon)) λg=>cond (zO ({ (ix (ix (zl f).Mons a zh).Guests c zA) with Prog:=(ix (ix g a zh).Guests c zA).Prog,Written:=(ix (ix g a zh).Guests c zA).Written,Live:=(ix (ix g a zh).Guests c zA).Live,Seen:=(ix (ix g a zh).Guests c zA).Seen}:Guest)) (cond (inb c<|ln (ix g a zh).Guests) (share (up g a ({ (ix g a zh) with Guests:=(up (ix g a zh).Guests c<|zch ({ (ix (ix (zl f).Mons a zh).Guests c zA) with Prog:=(ix (ix g a zh).Guests c zA).Prog,Written:=(ix (ix g a zh).Guests c zA).Written,Live:=(ix (ix g a zh).Guests c zA).Live,Seen:=(ix (ix g a zh).Guests c zA).Seen}:Guest))}:Mon)) λp=>some [.agg<|zbi ({ (zl f) with Mons:=p}:Host),.one<|.b true]) none) none) none) none) none)<|cond (zO ({ (ix (ix (zl f).Mons a zh).Guests c zA) with Prog:=(ix (ix d a zh).Guests c zA).Prog,Written:=(ix (ix d a zh).Guests c zA).Written,Live:=(ix (ix d a zh).Guests c zA).Live,Seen:=(ix (ix d a zh).Guests c zA).Seen}:Guest)) (cond (inb c<|ln (ix d a zh).Guests) (share (up d a ({ (ix d a zh) with Guests:=(up (ix d a zh).Guests c<|zch ({ (ix (ix (zl f).Mons a zh).Guests c zA) with Prog:=(ix (ix d a zh).Guests c zA).Prog,Written:=(ix (ix d a zh).Guests c zA).Written,Live:=(ix (ix d a zh).Guests c zA).Live,Seen:=(ix (ix d a zh).Guests c zA).Seen}:Guest))}:Mon)) λg=>some [.agg<|zbi ({ (zl f) with Mons:=g}:Host),.one<|.b true]) none) none)=some (zff (zhi (zAn {f with Mons:=d} a (gOf f a c)<|zN<|gOf f a c) a c<|leftG (gOf f a c)<|zN<|gOf f a c,true)):=by
 rw[e];refine br (λi=>?_) (λi=>br (λj=>?_) λj=>?_)
 .rw [(zyY (x:=gOf f a c) (h:={f with Mons:=d}) (m:=a) i).1,(zyY (x:=gOf f a c) i).2];exact must (zbs l) (must (zC k) rfl)
 .rw [(zou (x:=gOf f a c) (h:={f with Mons:=d}) (m:=a) i).1,(zou (x:=gOf f a c) i).2,z0r (h:={f with Mons:=d}) j];refine must rfl (must (zUl j)<|must (zMz _)<|shr<|is_p l ?_ ?_)
  .rw [zp9 (h:={f with Mons:=d}) n];exact k
  .show ix (ix (up d a _) a mZ).Guests c gZ=_
   rw[zp9 (h:={f with Mons:=d}) n];exact e
 .rw [(zou (x:=gOf f a c) (h:={f with Mons:=d}) (m:=a) i).1,(zou (x:=gOf f a c) i).2,z0q (h:={f with Mons:=d}) j];exact must (zbs l) (must (zC k) rfl)
def tf (b:Bool):b=false\/b=true:=by cases b<;>simp
def is_4 {N:Nat}{a:Host}{b c:Int}(r:SmH a)(d:hasB b (ln a.Mons)=true)(e:hasB c (ln (ix a.Mons b mZ).Guests)=true)(q:zdY a b c=zN (gOf a b c))(l:ieq (zN<|gOf a b c) 6=false)(f:ieq (zN<|gOf a b c) 5=false->ieq (zN<|gOf a b c) 6=false->ieq (zN<|gOf a b c) 7=true) :
 zno N b a c=some (zff (zlU a b c (gOf a b c)<|zN<|gOf a b c,true)):=by
 have s:=zme r d e;have n:=is_3 (N:=N) r d e q;have g:ine (zN<|gOf a b c) 6=true:=by rw[zi1,l];rfl
 unfold zno oN
 conv=>zeta
 rw[q];refine must (zC d) (must (zC e) (must rfl (must rfl ?_)));rw[show ieq (zlh (ix a.Mons b zh).Traps (ziV a b c).Ctl.Traps<|zi9<|zN<|gOf a b c) 1=zew (gOf a b c).Ctl.Traps (zgx<|zN<|gOf a b c) from zbcN _ _ _]
 refine br (λh=>?_) (λh=>?_)
 .obtain⟨e1,e2⟩:=tr2 (gOf a b c) (gOf a b c).Ctl.Traps _ l f h;have i:zfm a b (gOf a b c) (zN<|gOf a b c)=a:=by unfold zfm;rw[g,zbcO h];rfl
  unfold zlU;rw[i,zNQ e2,e1];exact must (zbs s) (must (zC e) rfl)
 .rw [zbcZ l f h];have i:zfm a b (gOf a b c) (zN<|gOf a b c)=bif ieq (zoi (ix a.Mons b mZ).Traps (gOf a b c).Ctl.Traps<|zgx<|zN<|gOf a b c) 2 then owned a b else a:=by unfold zfm;rw[g];rfl
  rw[i];refine br (λm=>?_) (λm=>?_)
  .rw [show ieq (zoi (ix a.Mons b mZ).Traps (gOf a b c).Ctl.Traps<|zgx<|zN<|gOf a b c) 2=true from m]
   simp only[cT];unfold owned;refine br (λk=>?_) (λk=>?_)
   rotate_left
   .rw [k];exact n
   rw[k];refine shr ?_;have p:=zp9 d {ix a.Mons b mZ with Own:=zQ .i64 (ix a.Mons b mZ).Own 1};have j:hasB b (ln<|up a.Mons b {ix a.Mons b mZ with Own:=zQ .i64 (ix a.Mons b mZ).Own 1})=true:=zfQ d;have t:znk (up a.Mons b {ix a.Mons b mZ with Own:=zQ .i64 (ix a.Mons b mZ).Own 1}) b c=ziV a b c:=by show ix (ix (up a.Mons b _) b mZ).Guests c gZ=_;rw[p]
   refine is_o s j ?_ t;rw[p];exact e
  .rw [show ieq (zoi (ix a.Mons b mZ).Traps (gOf a b c).Ctl.Traps<|zgx<|zN<|gOf a b c) 2=false from m]
   exact n
def z7f {N:Nat}{a:Host}{b c:Int}(r:SmH a)(q:zcc a b c=true)(m:ieq (zN<|gOf a b c) 0=false){y:Guest}{o:LI}(s:(stepped (zB a b) c (gOf a b c)<|zN<|gOf a b c).Guests=up (ix a.Mons b mZ).Guests c y)(p:SmB (zB a b)) :
 zkE N a b c=some (zff (zhi a b c y,true)):=by
 obtain⟨k,f,l⟩:=zdM q;have g:=zsd k f;have i:(zB a b).Guests=(ix a.Mons b mZ).Guests:=by unfold zB;rw[f];rfl
 have e:hasB c (ln (zB a b).Guests)=true:=by rw[i];exact l
 have h:gAt (zB a b) c=gOf a b c:=by unfold gAt;rw[e,i];rfl
 have d:zib (zB a b) c=true:=by unfold zib;rw[e,g,h,m];rfl
 have j:zfS (zB a b) c=stepped (zB a b) c (gOf a b c) (zN<|gOf a b c):=by unfold zfS;rw[d,h];rfl
 have n:(zkL (zdj a b) c).Guests=up (ix a.Mons b mZ).Guests c y:=by show (zfS (zB a b) c).Guests=_;rw[j,s]
 unfold zkE oN;rw[n];exact must (zbs<|(zS _).2 r) (must (zbs p) (must (zC f) rfl))
def zeY {h:Host}{m:Int}(g:SmH h)(f:hasB m (ln h.Mons)=true):SmB (zB h m):=by
 have b:=g.2.1.2 _ (zbM f mZ);have e:∀(d:List LI) (q:Int),SmM d->(zc5 d q).length<=1048576:=λd q h=>zXE h;have c:∀p:Int,(zc1 h m p).length<=1048576:=by intro p;unfold zc1;cases hasB m (ln h.Mons);{exact(by decide:zAU.length<=1048576)};{cases hasB p 8;{exact(by decide:zAU.length<=1048576)};{simp only [cT];cases ine (zbK (ix h.Mons m zh).Outer p).Page (-1);{exact e _ _ b.2.1};{exact e _ _ g.1}}}
 have j:∀(n i:Nat),∀x∈zc6 h m n i,x.length<=1048576:=by
  intro n
  induction n with
  |zero=>intro i x a;cases a
  |succ n k=>intro i x a;rcases qG.1 a with rfl|a;{exact c _};{exact k (i+1) x a}
 unfold zB;rw[f];exact⟨⟨by show (zc6 h m 8 0).length<=1048576;rw[zAu];decide,j 8 0⟩,b.2.2.2.1,b.2.2.2.2.1⟩
def zxT (b:Bare)(g:Int)(x:Guest):(zeN b g x).Guests=up b.Guests g x:=rfl
def zPN (a:Host)(b c:Int)(q:zbS big [aH a,aI b,aI c])(B:zdx a b c=true):∃N,zCt N a b c=some [aH (zcE a b c),aB (zcP a b c)]:=by
 have g:=(zS a).1 (zK.1 B);refine⟨0,?_⟩;show _=some (zff (zcN a b c));unfold zCt oN nB;conv=>zeta
 refine must (zbs ((zS _).2 g)) (must (zbs ((zS _).2 g)) (must rfl (brN (fun u=>?_) (fun u=>brN (fun l=>?_) (fun l=>?_)))));{rw [zjM (zOo u)];rfl};{rw [zjM (zOp l)];rfl};have y:=zWK (h:=a) (m:=b) l;have n:zdY a b c=zN (gOf a b c):=(by show zit (ix (zda a b).Guests c gZ)=_;rw[y];rfl);rw[y,n];refine must rfl (brN (fun p=>?_) (fun p=>?_));{rw [zjM (zOq p)];rfl};have j:=zOr u l p;have s:hasB b (ln a.Mons)=true:=l;have t:hasB c (ln (ix a.Mons b mZ).Guests)=true:=p;have q:=zeY g s;have r:(zB a b).Guests=(ix a.Mons b mZ).Guests:=(by unfold zB;rw[s];rfl);rw[zku j];unfold zNK;refine must (zC t) (must rfl (br (fun d=>?_) (fun d=>must (zC t) (must rfl (must rfl (br (fun i=>must i ?_) (fun i=>br (fun k=>?_) (fun k=>?_))))))));{rw [d];rfl};{have e:zN (gOf a b c)=3:=qD i;have T:=is_1 (N:=0) g j;rw[T];rw[e];rfl};{have e:zN (gOf a b c)=4:=qD k;have T:=is_1 (N:=0) g j;rw[T];rw[e];rfl}
 .have fin:∀{R:Host×Bool},zhl 0 a b c=some (zff R)->R=(bif ieq (zN (gOf a b c)) 0 then (a,false) else (bif ieq (zN (gOf a b c)) 1 then (zhi a b c (interrupted (gOf a b c)),true) else (bif ieq (zN (gOf a b c)) 2 then (zhi a b c (plainly (gOf a b c)),true) else
   (cond (cond (ieq (zN (gOf a b c)) 3) true (ieq (zN (gOf a b c)) 4)) (ziu (zjx a b c (gOf a b c) (ieq (zN (gOf a b c)) 4)) b c (gOf a b c) (ieq (zN (gOf a b c)) 4),true) (zlU a b c (gOf a b c) (zN (gOf a b c)),true)))))->zhl 0 a b c=_:=fun h e=>h.trans (congrArg (fun x=>some (zff x)) e)
  have w:ieq (zN (gOf a b c)) 5=false->ieq (zN (gOf a b c)) 7=false->zhl 0 a b c=zkE 0 a b c:=by
   intro v A;unfold zhl;conv=>zeta
   rw[n];exact zcf v (zcf A rfl)
  rcases tf (ieq (zN (gOf a b c)) 1) with f|f
  .rcases tf (ieq (zN (gOf a b c)) 2) with w2|w2
   .rcases tf (ieq (zN (gOf a b c)) 6) with w6|w6
    .have h57:ieq (zN (gOf a b c)) 5=false->ieq (zN (gOf a b c)) 6=false->ieq (zN (gOf a b c)) 7=true:=fun v z=>z3g _ d f w2 i k v z;have T:=is_4 (N:=0) g s t n w6 h57;refine fin (R:=(zlU a b c (gOf a b c) (zN (gOf a b c)),true)) ?_ (by rw[d,f,w2,i,k];rfl);unfold zhl;conv=>zeta
     rw[n];cases C:ieq (zN (gOf a b c)) 5;{exact zcf rfl (must (h57 C w6) T)};{exact must rfl (must rfl T)}
    {have e:zN (gOf a b c)=6:=qD w6;refine fin (R:=(zhi a b c (zgA (gOf a b c) (gOf a b c).Ctl.Traps (zN (gOf a b c))),true)) ?_ ?_;{rw [w (by rw[e];rfl) (by rw[e];rfl)];refine z7f (o:=[]) g j d ?_ q;unfold stepped zr2;rw[f,w2,i,k,(tr1 (gOf a b c) (gOf a b c).Ctl.Traps _ w6).2];show (zeN (zB a b) c _).Guests=_;rw[zxT,r]};{rw [d,f,w2,i,k];unfold zlU zfm;rw[zNQ (tr1 (gOf a b c) (gOf a b c).Ctl.Traps _ w6).2,zi1,w6];rfl}}
   {have e:zN (gOf a b c)=2:=qD w2;refine fin (R:=(zhi a b c (plainly (gOf a b c)),true)) ?_ (by rw[d,f,w2];rfl);rw[w (by rw[e];rfl) (by rw[e];rfl)];refine z7f (o:=[]) g j d ?_ q;unfold stepped;rw[f,w2];show (zeN (zB a b) c _).Guests=_;rw[zxT,r]}
  {have e:zN (gOf a b c)=1:=qD f;refine fin (R:=(zhi a b c (interrupted (gOf a b c)),true)) ?_ (by rw[d,f];rfl);rw[w (by rw[e];rfl) (by rw[e];rfl)];refine z7f (o:=[]) g j d ?_ q;unfold stepped;rw[f];show (zeN (zB a b) c _).Guests=_;rw[zxT,r]}
def zID:vR 52 zzc:=hF3 zRN zn zbH zik (zq []) zPN
def z9v:zbb:=[(52,zzc)]++z3X
def z6M:zU z9v:=zi zID zRN
def z9w:zbb:=[(393,ztV)]++z9v
def z6N:zU z9w:=zi zwT z6M
def cnt (l:List Mon):List Nat:=l.map λx=>x.Guests.length
def zbca {l a:List Mon}(h:zfq a=zfq l):cnt a=cnt l:=by have e:∀l:List Mon,cnt l=(zfq l).map List.length:=λl=>(by simp[cnt,zfq]);rw[e,e,h]
def zUT {l:List Mon}{m:Int}{x:Mon}(b:hasB m (ln l)=true)(c:x.Guests.length=(ix l m mZ).Guests.length):cnt (up l m x)=cnt l:=by obtain⟨k,rfl,a⟩:=zeI (n:=l.length) b;unfold cnt up;rw[List.map_set,kH,c,zbt a];have:=@u4 _ (l.map λx=>x.Guests.length) k (by simpa using a);simpa using this
def zbaF {l a:List Mon}(h:cnt a=cnt l):a.length=l.length:=by have:=congrArg List.length h;simpa [cnt] using this
def zbcb {l b:List Mon}(h:cnt b=cnt l)(m:Int):(ix b m mZ).Guests.length=(ix l m mZ).Guests.length:=by have a:(cnt b)[m.toNat]?=(cnt l)[m.toNat]?:=(by rw[h]);unfold cnt at a;rw[qQ,qQ]at a;unfold ix;simp only[kC];cases c:b[m.toNat]? <;> cases d:l[m.toNat]? <;> rw [c,d]at a<;>simp at a ⊢;exact a
def zbbo (h:Host)(m p:Int):(zeM h m p).Memory=h.Memory:=(zhZ (zgf h m p) m p noSlot).2
def zbbn (h:Host):(zd0 h).Memory=h.Memory:=by unfold zd0;cases ieq (ln<|zcU h) 0;{rfl};{exact zbbo _ _ _}
def zbbm (m:List LI)(p:Int)(c:LI):(zkw m p c).length=m.length:=by unfold zkw;cases hasB p (ln m);{rfl};{cases zc2 c;{rfl};{simp}}
def zbbk (m:List LI)(p c v:Int):(zbX m p c v).length=m.length:=by unfold zbX;cases zhj m p c;{rfl};{cases zk v 0 99;{rfl};{simp}}
def z16 (h:Host)(m p:Int):(fetched h m p).Memory.length=h.Memory.length:=by unfold fetched zgm;rw[(zhZ _ _ _ _).2];unfold landing;rw[zbbm,zbbn]
def zWJ (h:Host)(m p n:Int):(zlz h m p n).Memory=h.Memory:=by unfold zlz;cases ieq (wand .i64 n 2) 0;{unfold opened;cases ieq (wand .i64 (ix (ix (zbP h m p).Mons m mZ).Outer p sZ).Rights 2) 0;{rfl};{exact(zhZ _ _ _ _).2}};{rfl}
def z4L (h:Host)(m p n:Int):(mended h m p n).Memory.length=h.Memory.length:=by unfold mended;cases ieq (ix (ix h.Mons m mZ).Outer p sZ).Page (-1);{exact congrArg List.length (zWJ _ _ _ _)};{exact(congrArg List.length<|zWJ _ _ _ _).trans (z16 _ _ _)}
def z4M (h:Host)(m g p:Int)(a:Bool):(zxc h m g p a).Memory=h.Memory:=by cases a<;>rfl
def z7t (h:Host)(b:List Entry)(m g c a q:Int)(d:Bool):(zhD h b m g c a q d).1.Memory.length=h.Memory.length:=by unfold zhD;cases zjG b m g c a;{cases zft h m g c a;{exact congrArg List.length (z4M _ _ _ _ _)};{exact(congrArg List.length<|z4M _ _ _ _ _).trans (z4L h m q a)}};{rfl}
def zbbl (h:Host)(b:List Entry)(m g page need:Int)(io:Bool):(lookOf h b m g page need io).1.Memory.length=h.Memory.length:=by unfold lookOf;cases zb3 h m g page need;{rfl};{simp only [cT];rw[z7t];cases ieq need 2<;>rfl}
structure Keep (h r:Host):Prop where
 shape:Shape r
 cnt:cnt r.Mons=cnt h.Mons
 mem:r.Memory.length=h.Memory.length
def Keep.has {h r:Host}(k:Keep h r){m:Int}(a:hasB m (ln h.Mons)=true):hasB m (ln r.Mons)=true:=by rw[ln,zbaF k.cnt];exact a
def Keep.hg {h r:Host}(k:Keep h r){m g:Int}(hg:hasB g (ln (ix h.Mons m mZ).Guests)=true):hasB g (ln (ix r.Mons m mZ).Guests)=true:=by rw[ln,zbcb k.cnt];exact hg
def Keep.trans {a b c:Host}(h:Keep a b)(k:Keep b c):Keep a c:=⟨k.shape,k.cnt.trans h.cnt,k.mem.trans h.mem⟩
def Keep.rfl' {h:Host}(a:Shape h):Keep h h:=⟨a,rfl,rfl⟩
def zpD {h:Host}{m g:Int}{x:Guest}(b:Shape h)(a:hasB m (ln h.Mons)=true)(c:SmG x):Keep h (zhi h m g x):=⟨z2T b a c,zUT a (by simp),rfl⟩
def zDP {h:Host}{b:List Entry}{m g page need:Int}{io:Bool}(c:SmH h)(a:zcc h m g=true):Keep h (lookOf h b m g page need io).1:=by have k:=zuZ (b:=b) (page:=page) (need:=need) (io:=io) c a;exact⟨k.shape,zbca k.gs,zbbl _ _ _ _ _ _ _⟩
def z4v {h:Host}{p c v:Int}(a:Shape h):Keep h {h with Memory:=zbX h.Memory p c v}:=⟨zSl a<|zwg a.1.1,rfl,zbbk _ _ _ _⟩
def z1O {h:Host}{m:Int}(a:Shape h)(b:hasB m (ln h.Mons)=true):Keep h (owned h m):=by obtain⟨c,d⟩:=zc4 a b;unfold owned;cases ilt (ix h.Mons m mZ).Own 1000000000;{exact Keep.rfl' a};{exact⟨zkt a c d,zUT b rfl,rfl⟩}
def z1N {h:Host}{m n:Int}(b:Shape h)(c:hasB m (ln h.Mons)=true):Keep h (zjd h m n):=by obtain⟨a,d⟩:=zc4 b c;unfold zjd;cases e:ilt (ln (ix h.Mons m mZ).Outs) 40;{exact Keep.rfl' b};{have f:=qD e;simp only[ln]at f;refine⟨zkt b ⟨a.1,a.2.1,a.2.2.1,a.2.2.2.1,?_,a.2.2.2.2.2⟩ d,zUT c rfl,rfl⟩;simp[ap];omega}
def z4x {h:Host}{m g:Int}{x:Guest}{w:Int}(d:Shape h)(b:hasB m (ln h.Mons)=true)(e:SmG x):Keep h (zlU h m g x w):=by have a:Keep h (zfm h m x w):=(by unfold zfm;cases (cond (ine w 6) (ieq (zoi (ix h.Mons m mZ).Traps x.Ctl.Traps<|zgx w) 2) false);{exact Keep.rfl' d};{exact z1O d b});have f:Keep (zfm h m x w) (zhS (zfm h m x w) m x w):=(by unfold zhS;cases (cond (zil x.Ctl.Traps w) (ieq w 5) false);{exact Keep.rfl' a.shape};{exact z1N a.shape (a.has b)});have c:=a.trans f;exact c.trans (zpD c.shape (c.has b)<|zEz _ _ e)
def z4w {h:Host}{m g:Int}(f:SmH h)(e:zcc h m g=true):Keep h (zcN h m g).1:=by obtain⟨l,a,n⟩:=zdM e;have d:=zme f a n;have i:=(zfD f l).1;rw[zku e];unfold zNK;cases ieq (zN<|gOf h m g) 0;{cases ieq (zN<|gOf h m g) 1;{cases ieq (zN<|gOf h m g) 2;{cases (cond (ieq (zN<|gOf h m g) 3) true<|ieq (zN<|gOf h m g) 4);{exact z4x i a d};{have k:=zDP (b:=h.Buffer) (page:=zbn (address<|gOf h m g)) (need:=zcx (ieq (zN<|gOf h m g) 4)) (io:=false) f e;show Keep h (ziu (zjx h m g (gOf h m g)<|ieq (zN<|gOf h m g) 4) m g (gOf h m g)<|ieq (zN<|gOf h m g) 4);unfold ziu;cases (zjx h m g (gOf h m g)<|ieq (zN<|gOf h m g) 4).2.2;{exact k.trans (zpD k.shape (k.has a) d)};{cases ieq (zN<|gOf h m g) 4;{have k:=zDP (b:=h.Buffer) (page:=zbn (address<|gOf h m g)) (need:=zcx false) (io:=false) f e;exact k.trans (zpD k.shape (k.has a)<|zNG _ d)};{have k:=zDP (b:=h.Buffer) (page:=zbn (address<|gOf h m g)) (need:=zcx true) (io:=false) f e;have q:=z4v (p:=(zjx h m g (gOf h m g) true).2.1) (c:=zd9 (address<|gOf h m g)) (v:=(gOf h m g).A) k.shape;have j:=k.trans q;exact j.trans (zpD j.shape (j.has a)<|zlk d)}}}};{exact zpD i a (zHM d)}};{exact zpD i a (z0B d)}};{exact Keep.rfl' i}
structure Same (h r:Host):Prop where
 sm:SmH r
 cnt:cnt r.Mons=cnt h.Mons
 mem:r.Memory.length=h.Memory.length
 st:r=h\/Shape r
def Same.rfl' {h:Host}(a:SmH h):Same h h:=⟨a,rfl,rfl,.inl rfl⟩
def Same.trans {a b c:Host}(h:Same a b)(k:Same b c):Same a c:=⟨k.sm,k.cnt.trans h.cnt,k.mem.trans h.mem,by
 rcases k.st with e|e
 .rw [e];exact h.st
 .exact .inr e⟩
def z5y {h:Host}(m g:Int)(b:SmH h):Same h (zcN h m g).1:=by cases a:zcc h m g;{rw [zjM a];exact Same.rfl' b};{have k:=z4w b a;exact⟨k.shape.1,k.cnt,k.mem,.inr k.shape⟩}
end
end Go.Proofs.YtjapbkodhfpbbaaGreat.E
