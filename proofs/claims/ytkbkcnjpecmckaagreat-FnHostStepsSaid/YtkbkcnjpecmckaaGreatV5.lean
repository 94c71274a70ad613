/- What is proved here: a part of the proof that the statement of this claim holds (several texts of wip/, laid together). -/
import Derived.Test.YtkbkcnjpecmckaaGreatV4
import Derived.Shelf.Bits.Mul64
import Derived.Ground.NamesProg
import Derived.Laws.CopyOwn
import Derived.Deep.RegionLaw
namespace Go.Proofs.YtkbkcnjpecmckaaGreat.E
open Go
set_option linter.defProp false
set_option linter.constructorNameAsVariable false
set_option linter.unusedVariables false
set_option maxRecDepth 100000
set_option linter.unusedSimpArgs false
set_option linter.unusedSectionVars false
noncomputable section
def znG (o i t:Int):Int:=bif zd5 i t then 1 else (cond (zd5 o t) 2 0)
@[simp] abbrev zoa (o i t:Int):Bool:=true
@[simp] abbrev zkC (o i t:Int):Int:=znG o i t
def zot:Run:=rF3 dI dI dI λb c d=>(zoa b c d,[aI<|zkC b c d])
def zHx (N:Nat)(b c a:Int):OA:=
 (oN (zf6 c a)<|cond (zfp c a) (some [aI 1])<|oN (zf6 b a)<|cond (zfp b a) (some [aI 2])<|some [aI 0])
def zB3 (a b c:Int)(d:zbL big [aI a,aI b,aI c])(e:zoa a b c=true):∃N,zHx N a b c=some [aI<|zkC a b c]:=by refine⟨0,?_⟩;unfold zHx oN;refine must rfl (br (λ_=>?_) λ_=>must rfl (br (λ_=>?_) λ_=>?_));all_goals first|rfl|(simp only [*,zkC,znG,cT,cF]<;>rfl)|simp_all[Ty.cells,zkC,znG]
def zMC:vM 257 zot:=hF3 zfO zA zo zdQ (zq []) zB3
def zMk:vM 236 zot:=hF3 zfO zA zo zdQ (zq []) zB3
def has3 (p:Int):hasB p 3=zk p 0 2:=by unfold hasB zk ige ile;by_cases a:0<=p<;>by_cases b:p<3;{rw [qI (p:=0<=p/\p<3) ⟨a,b⟩,qI (p:=p≥0) a,qI (p:=p<=2) (by omega)];rfl};{rw [qJ (p:=0<=p/\p<3) (by omega),qJ (p:=p<=2) (by omega)];simp};{rw [qJ (p:=0<=p/\p<3) (by omega),qJ (p:=p≥0) (by omega)];simp};{rw [qJ (p:=0<=p/\p<3) (by omega),qJ (p:=p≥0) (by omega)];simp}
def has2 (p:Int):hasB p 2=zk p 0 1:=by unfold hasB zk ige ile;by_cases a:0<=p<;>by_cases b:p<2;{rw [qI (p:=0<=p/\p<2) ⟨a,b⟩,qI (p:=p≥0) a,qI (p:=p<=1) (by omega)];rfl};{rw [qJ (p:=0<=p/\p<2) (by omega),qJ (p:=p<=1) (by omega)];simp};{rw [qJ (p:=0<=p/\p<2) (by omega),qJ (p:=p≥0) (by omega)];simp};{rw [qJ (p:=0<=p/\p<2) (by omega),qJ (p:=p≥0) (by omega)];simp}
def zes (m g:Int):Int:=bif zk m 0 2 then (cond (zk g 0 1) (zM .i64 (zM .i64 1 g)<|zmL .i64 m 2) 0) else 0
@[simp] abbrev zh9 (m g:Int):Bool:=true
@[simp] abbrev zlG (m g:Int):Int:=zes m g
def zst:Run:=rF2 dI dI λb c=>(zh9 b c,[aI<|zlG b c])
def zRU (N:Nat)(a b:Int):OA:=
 (oN (zL a 0 2)<|cond (nB<|zk a 0 2) (some [aI 0])<|oN (zL b 0 1)<|cond (nB<|zk b 0 1) (some [aI 0])<|some [aI<|zM .i64 (zM .i64 1 b)<|zmL .i64 a 2])
def zZy (a b:Int)(c:zh9 a b=true):∃N,zRU N a b=some [aI<|zlG a b]:=by refine⟨0,?_⟩;unfold zRU oN nB;refine must rfl (brN (λ_=>?_) λ_=>must rfl (brN (λ_=>?_) λ_=>?_));all_goals first|rfl|(simp only [*,zlG,zes,cT,cF]<;>rfl)|simp_all[Ty.cells,zlG,zes]
def zTv:vM 315 zst:=kF2 zfO zA zo zdQ (zq []) zZy
def zRG (N:Nat)(a b:Int):OA:=
 (oN (zby a 3)<|cond (nB<|zdk a 3) (some [aI 0])<|oN (zby b 2)<|cond (nB<|zdk b 2) (some [aI 0])<|some [aI<|zM .i64 (zM .i64 1 b)<|zmL .i64 a 2])
def zZl (a b:Int)(c:zh9 a b=true):∃N,zRG N a b=some [aI<|zlG a b]:=by refine⟨0,?_⟩;unfold zRG oN nB;refine must rfl (brN (λ_=>?_) λ_=>must rfl (brN (λ_=>?_) λ_=>?_));all_goals first|rfl|(simp only [*,zlG,zes,has3,has2,cT,cF]<;>rfl)|simp_all[Ty.cells,zlG,zes,has3,has2]
def zTh:vM 307 zst:=kF2 zfO zA zo zdQ (zq []) zZl
def zli (k:Kept)(p:Int):Bool:=bif zdM k p then ix k.Known p false else false
def zel (k:Kept)(p:Int):Slot:=bif zli k p then ix k.Slots p zX else noSlot
@[simp] abbrev zi8 (k:Kept)(p:Int):Slot:=zel k p
@[simp] abbrev zpm (k:Kept)(p:Int):Bool:=zli k p
def zSU:Run:=rF2 (dT .kept) dI λb c=>(zdY b c,[aT .slot<|zi8 b c,aB<|zpm b c])
def z0k (N:Nat)(a:Kept)(b:Int):OA:=
 let c:=ix a.Slots b zX; (oN (zdY a b)<|cond (nB<|zjI a b) (oN zbI<|some [.agg [.i .i64 zbc.Page,.i .i64 zbc.Rights],aB false])<|oN (inb b<|ln a.Known)<|cond (nB<|ix a.Known b false) (oN zbI<|some [.agg [.i .i64 zbc.Page,.i .i64 zbc.Rights],aB false])<|oN (inb b<|ln a.Slots)<|some [.agg [.i .i64 c.Page,.i .i64 c.Rights],aB true])
def z5t (a:Kept)(b:Int)(f:zdY a b=true):∃N,z0k N a b=some [aT .slot<|zi8 a b,aB<|zpm a b]:=by
 have g:=zO.1 f;refine⟨0,?_⟩;unfold z0k zi8 zpm zel zli oN nB;conv=>zeta
 refine must (zbq g) ?_;rw[show zjI a b=zdM a b from rfl];cases c:zdM a b;{rfl};{unfold zdM at c;obtain⟨d,e⟩:=zdu.1 c;simp only[zB d,zB e,cT];cases ix a.Known b false<;>rfl}
def zZb:vM 317 zSU:=kF2 zfO zA zo zdQ (zq []) z5t
@[simp] abbrev zzf (k:Kept)(p:Int):Bool:=true
def zSR:Run:=rF2 (dT .kept) dI λb c=>(zzf b c,[aT .slot<|zi8 b c,aB<|zpm b c])
def z0g (N:Nat)(a:Kept)(b:Int):OA:=
 let c:=ix a.Slots b zX; (oN (zby b<|ln a.Known)<|cond (nB<|zdk b<|ln a.Known) (oN zbI<|some [.agg [.i .i64 zbc.Page,.i .i64 zbc.Rights],aB false])<|oN (zby b<|ln a.Slots)<|cond (nB<|zdk b<|ln a.Slots) (oN zbI<|some [.agg [.i .i64 zbc.Page,.i .i64 zbc.Rights],aB false])<|oN (inb b<|ln a.Known)<|cond (nB<|ix a.Known b false) (oN zbI<|some [.agg [.i .i64 zbc.Page,.i .i64 zbc.Rights],aB false])<|oN (inb b<|ln a.Slots)<|some [.agg [.i .i64 c.Page,.i .i64 c.Rights],aB true])
def z5p (a:Kept)(b:Int)(e:zzf a b=true):∃N,z0g N a b=some [aT .slot<|zi8 a b,aB<|zpm a b]:=by
 refine⟨0,?_⟩;unfold z0g zi8 zpm zel zli zdM oN nB;conv=>zeta
 rw[show zdk b (ln a.Known)=hasB b (ln a.Known) from rfl,show zdk b (ln a.Slots)=hasB b (ln a.Slots) from rfl];cases c:hasB b (ln a.Known);{rfl};{cases d:hasB b (ln a.Slots);{rfl};{simp only [zby,zB c,zB d,cT];cases ix a.Known b false<;>rfl}}
def zY7:vM 309 zSR:=kF2 zfO zA zo zdQ (zq []) z5p
def filled (k:Kept)(a b:List Slot)(p:Int):Kept:=bif zdM k p then (cond (hasB p<|ln a) ⟨up k.Known p true,up k.Slots p<|zbx (ix a p zX) b⟩ k) else k
@[simp] def z3C {k:Kept}{a b:List Slot}{p:Int}(h:SmK k):SmK (filled k a b p):=by unfold filled;cases zdM k p;{exact h};{cases hasB p (ln a);{exact h};{exact⟨by simpa using h.1,by simpa using h.2⟩}}
@[simp] abbrev zv6 (k:Kept)(i o:List Slot)(p:Int):Bool:=pc (SmK k)
@[simp] abbrev zv5 (k:Kept)(i o:List Slot)(p:Int):Kept:=filled k i o p
def zuB:Run:=rF4 (dT .kept) (dS .slot) (dS .slot) dI λb c d e=>(zv6 b c d e,[aT .kept<|zv5 b c d e])
def zU4 (N:Nat)(d:Kept)(c e:lS)(a:Int):OA:=
 let b:=zea d; (oN (zha d)<|oN (zdY b a)<|cond (zjI b a) (cond (ilt a<|ln c) (oN (inb a<|ln b.Known)<|share (up b.Known a true) λf=>oN (inb a<|ln c)<|oN (zej (ix c a zX) e)<|oN (inb a<|ln b.Slots)<|share (up b.Slots a<|zev (ix c a zX) e) λg=>some [aT .kept (⟨f,g⟩:Kept)])<|some [aT .kept b])<|some [aT .kept b])
def z2D (b:Kept)(c d:List Slot)(a:Int)(j:zv6 b c d a=true):∃N,zU4 N b c d a=some [aT .kept<|zv5 b c d a]:=by
 have g:=zO.1 j;refine⟨0,?_⟩;unfold zU4 zv5 filled oN;conv=>zeta
 refine must (zbq<|(zyW _).2 g) (must (zbq g) ?_);rw[show zjI (zea b) a=zdM b a from rfl];cases f:zdM b a;{rfl};{unfold zdM at f;obtain⟨e,h⟩:=zdu.1 f;rw[has_lt e (m:=ln c)];cases i:hasB a (ln c);{rfl};{simp only [cT,zea,zB e,zB h,zB i,share,zej];rfl}}
def zV7:vM 318 zuB:=kF4 zfO zA zo zdQ (zq []) z2D
def zU2 (N:Nat)(c:Kept)(d e:lS)(a:Int):OA:=
 let b:=zdT c; (oN (zeY c)<|oN (zby a<|ln c.Known)<|cond (zdk a<|ln c.Known) (oN (zby a<|ln c.Slots)<|cond (zdk a<|ln c.Slots) (oN (zby a<|ln d)<|cond (zdk a<|ln d) (oN (inb a<|ln b.Known)<|share (up b.Known a true) λf=>oN (inb a<|ln d)<|oN (zej (ix d a zX) e)<|oN (inb a<|ln b.Slots)<|share (up b.Slots a<|zev (ix d a zX) e) λg=>some [aT .kept (⟨f,g⟩:Kept)])<|some [aT .kept b])<|some [aT .kept b])<|some [aT .kept b])
def z2z (b:Kept)(c d:List Slot)(a:Int)(h:zv6 b c d a=true):∃N,zU2 N b c d a=some [aT .kept<|zv5 b c d a]:=by
 have i:=zO.1 h;refine⟨0,?_⟩;unfold zU2 zv5 filled zdM oN;conv=>zeta
 refine must (zbq i) ?_;simp only[zdk,zby,zdT,cT];cases e:hasB a (ln b.Known);{rfl};{cases f:hasB a (ln b.Slots);{rfl};{cases g:hasB a (ln c);{rfl};{simp only [cT,zB e,zB f,zB g,share,zej];rfl}}}
def zV2:vM 310 zuB:=kF4 zfO zA zo zdQ (zq []) z2z
def zI9 {a b:Type}(p:a->Bool)(r:a->Option b)(K:Unit->Option b):∀(l:List a) (i:Nat),goL (λ_ x (_:Unit) k=>bif p x then r x else k ()) K l i ()=match l.find? p with|some x=>r x|none=>K ()
 |[],_=>rfl
 |x::l,i=>by simp only[goL];cases h:p x;{rw [List.find?_cons_of_neg (by simp[h])];exact zI9 p r K l (i+1)};{rw [List.find?_cons_of_pos h];rfl}
def zAD (b:List Entry)(t p:Int):Option Entry:=b.find? λe=>bif ieq e.Tag t then ieq e.Page p else false
@[simp] abbrev zhH (b:List Entry)(t p:Int):Bool:=true
@[simp] abbrev zgE (b:List Entry)(t p:Int):Entry:=(zAD b t p).getD ⟨0,0,0,0⟩
@[simp] abbrev zfG (b:List Entry)(t p:Int):Bool:=(zAD b t p).isSome
def zlU:Run:=rF3 (dS .entry) dI dI λb c d=>(zhH b c d,[aT .entry<|zgE b c d,aB<|zfG b c d])
def zBO (N:Nat)(f:lE)(g h:Int):OA:=
 (iter (σ:=(Int×Int×Int×Int×Int×Int×Int×lE×Unit)) N (λj a=>let c:=a.2.2.2.2.2.2.2.1;let d:=inb a.2.2.1<|ln c;let e:=j (a.1,a.2.1,zM .i64 a.2.2.1 1,a.2.2.2.1,a.2.2.2.2.1,a.2.2.2.2.2.1,a.2.2.2.2.2.2.1,c,());let b:=ix c a.2.2.1 zeR; (cond (ilt a.2.2.1<|ln c) (oN d<|cond (ieq b.Tag a.1) (oN d<|cond (ieq b.Page a.2.1) (oN d<|some [.agg [.i .i64 b.Tag,.i .i64 b.Page,.i .i64 b.Host,.i .i64 b.Rights],aB true]) e) e)<|some [.agg [.i .i64 0,.i .i64 0,.i .i64 0,.i .i64 0],aB false])) (g,h,0,0,0,0,0,f,()))
def zOy:=zq [(316,0,{n:=36,tm:=[(0,.sl 0 []),(1,ti),(2,ti),(6,.lp 0 0),(8,ti)],lo:=[(0,[ti,ti,ti,ti])],ro:=[(0,.entry,false)]})]
def zNq (a:List Entry)(c d:Int)(j:zbL big [aS .entry a,aI c,aI d])(l:zhH a c d=true):∃N,zBO N a c d=some [aT .entry<|zgE a c d,aB<|zfG a c d]:=by
 have h:=len0 j;refine zcg λN g=>?_;unfold zBO oN;conv=>zeta
 refine(zbj a (λi (t:Unit)=>(c,d,(i:Int),0,0,0,0,a,())) _ (λ_ (x:Entry) (_:Unit) k=>bif (cond (ieq x.Tag c) (ieq x.Page d) false) then (some [AV.agg<|Ty.cells .entry x,AV.one<|.b true]) else k ()) (λ(t:Unit)=>some [.agg [.i .i64 0,.i .i64 0,.i .i64 0,.i .i64 0],.one<|.b false]) (λi f t rec=>?_) (λt rec=>?_) _ ()<|g h).trans ?_;{simp only [zbr f,zZ f,zbk f,zba f h,cT];cases ieq a[i].Tag c<;>cases ieq a[i].Page d<;>rfl};{simp only [zbl,cF]};rw[zI9 λe:Entry=>bif ieq e.Tag c then ieq e.Page d else false];unfold zgE zfG zAD;cases a.find? (λe:Entry=>bif ieq e.Tag c then ieq e.Page d else false)<;>rfl
def zGp:vM 316 zlU:=hF3 zfO zA zo zdQ zOy zNq
def zBy (N:Nat)(d:lE)(f g:Int):OA:=
 (iter (σ:=(Int×Int×Int×Int×Int×Int×Int×Int×lE×Unit)) N (λh a=>let c:=a.2.2.2.2.2.2.2.2.1;let e:=h (a.1,a.2.1,a.2.2.1,zM .i64 a.2.2.2.1 1,a.2.2.2.2.1,a.2.2.2.2.2.1,a.2.2.2.2.2.2.1,a.2.2.2.2.2.2.2.1,c,());let b:=ix c a.2.2.2.1 zeR; (cond (ilt a.2.2.2.1 a.2.2.1) (oN (inb a.2.2.2.1<|ln c)<|cond (ieq b.Tag a.1) (cond (ieq b.Page a.2.1) (some [.agg [.i .i64 b.Tag,.i .i64 b.Page,.i .i64 b.Host,.i .i64 b.Rights],aB true]) e) e)<|some [.agg [.i .i64 0,.i .i64 0,.i .i64 0,.i .i64 0],aB false])) (f,g,ln d,0,0,0,0,0,d,()))
def zOq:=zq [(308,0,{n:=29,tm:=[(1,ti),(2,ti),(6,.lp 0 0),(10,.sl 0 []),(11,ti),(12,ti)],lo:=[(0,[ti,ti,ti,ti])],ro:=[(0,.entry,false)]})]
def zNb (a:List Entry)(c d:Int)(j:zbL big [aS .entry a,aI c,aI d])(l:zhH a c d=true):∃N,zBy N a c d=some [aT .entry<|zgE a c d,aB<|zfG a c d]:=by
 have h:=len0 j;refine zcg λN g=>?_;unfold zBy oN;conv=>zeta
 refine(zbj a (λi (t:Unit)=>(c,d,ln a,(i:Int),0,0,0,0,a,())) _ (λ_ (x:Entry) (_:Unit) k=>bif (cond (ieq x.Tag c) (ieq x.Page d) false) then (some [AV.agg<|Ty.cells .entry x,AV.one<|.b true]) else k ()) (λ(t:Unit)=>some [.agg [.i .i64 0,.i .i64 0,.i .i64 0,.i .i64 0],.one<|.b false]) (λi f t rec=>?_) (λt rec=>?_) _ ()<|g h).trans ?_;{simp only [zbr f,zZ f,zbk f,zba f h,cT];cases ieq a[i].Tag c<;>cases ieq a[i].Page d<;>rfl};{simp only [zbl,cF]};rw[zI9 λe:Entry=>bif ieq e.Tag c then ieq e.Page d else false];unfold zgE zfG zAD;cases a.find? (λe:Entry=>bif ieq e.Tag c then ieq e.Page d else false)<;>rfl
def zGc:vM 308 zlU:=hF3 zfO zA zo zdQ zOq zNb
def ztk (t p:Int)(e:Entry):Bool:=bif ine e.Tag t then true else ine e.Page p
def zcY (b:List Entry)(t p:Int):List Entry:=b.filter (ztk t p)
def zAE (b:List Entry)(t p:Int):(zcY b t p).length<=b.length:=k9 _ _
@[simp] abbrev zfH (b:List Entry)(t p:Int):Bool:=pc (b.length<=1048576)
@[simp] abbrev zh6 (b:List Entry)(t p:Int):List Entry:=zcY b t p
def zlW:Run:=rF3 (dS .entry) dI dI λb c d=>(zfH b c d,[aS .entry<|zh6 b c d])
def zBQ (N:Nat)(h:lE)(i j:Int):OA:=
 (iter (σ:=(Int×Int×Int×lE×lE×Unit)) N (λf a=>let b:=a.2.2.2.1;let c:=inb a.2.2.1<|ln b;let d:=ix b a.2.2.1 zeR;let e:=ap a.2.2.2.2.1 [d];let g:=f (a.1,a.2.1,zM .i64 a.2.2.1 1,b,e,()); (cond (ilt a.2.2.1<|ln b) (oN c<|cond (ine d.Tag a.1) (oN c<|oN (few<|ln e) g)<|oN c<|cond (ine d.Page a.2.1) (oN c<|oN (few<|ln e) g)<|f (a.1,a.2.1,zM .i64 a.2.2.1 1,b,a.2.2.2.2.1,()))<|some [aS .entry a.2.2.2.2.1])) (i,j,0,h,[],()))
def zOA:=zq [(328,0,{n:=40,tm:=[(0,.sl 0 []),(1,ti),(2,ti),(7,.sl 1 []),(8,ti)],lo:=[],ro:=[(0,.entry,false),(1,.entry,true)]})]
def zNs (a:List Entry)(b c:Int)(h:zfH a b c=true):∃N,zBQ N a b c=some [aS .entry<|zh6 a b c]:=by
 have j:=zO.1 h;have f:=zcJ j;refine zcg λN e=>?_;unfold zBQ oN;conv=>zeta
 refine(zbj a (λi (t:lE)=>(b,c,(i:Int),a,t,())) _ (λ_ (x:Entry) (t:List Entry) g=>bif ztk b c x then (cond (few<|ln<|ap t [x]) (g<|ap t [x]) none) else g t) (λ(t:lE)=>some [.one<|.s .entry t]) (λi d t rec=>?_) (λt rec=>?_) _ ([])<|e f.1).trans ?_;{simp only [zbr d,zZ d,zbk d,zba d f.1,cT];unfold ztk;cases ine a[i].Tag b<;>cases ine a[i].Page c<;>rfl};{simp only [zbl,cF]};exact zm0 (ztk b c) _ a 0 [] (by simpa using f.2)
def zGr:vM 328 zlW:=kF3 zfO zA zo zdQ zOA zNs
def zBA (N:Nat)(e:lE)(h i:Int):OA:=
 (iter (σ:=(Int×Int×Int×Int×lE×lE×Unit)) N (λf a=>let b:=a.2.2.2.2.2.1;let c:=ix b a.2.1 zeR;let d:=ap a.2.2.2.2.1 [c];let g:=f (a.1,zM .i64 a.2.1 1,a.2.2.1,a.2.2.2.1,d,b,()); (cond (ilt a.2.1 a.1) (oN (inb a.2.1<|ln b)<|cond (ieq c.Tag a.2.2.1) (cond (nB<|ieq c.Page a.2.2.2.1) (oN (few<|ln d) g)<|f (a.1,zM .i64 a.2.1 1,a.2.2.1,a.2.2.2.1,a.2.2.2.2.1,b,()))<|oN (few<|ln d) g)<|some [aS .entry a.2.2.2.2.1])) (ln e,0,h,i,[],e,()))
def zOs:=zq [(349,0,{n:=25,tm:=[(1,.fn 374 [0,1]),(5,.sl 0 []),(9,.sl 1 []),(10,ti),(11,ti)],lo:=[(0,[ti]),(1,[ti])],ro:=[(0,.entry,true),(1,.entry,false)]})]
def zNd (a:List Entry)(b c:Int)(h:zfH a b c=true):∃N,zBA N a b c=some [aS .entry<|zh6 a b c]:=by
 have j:=zO.1 h;have f:=zcJ j;refine zcg λN e=>?_;unfold zBA oN nB;conv=>zeta
 refine(zbj a (λi (t:lE)=>(ln a,(i:Int),b,c,t,a,())) _ (λ_ (x:Entry) (t:List Entry) g=>bif ztk b c x then (cond (few<|ln<|ap t [x]) (g<|ap t [x]) none) else g t) (λ(t:lE)=>some [.one<|.s .entry t]) (λi d t rec=>?_) (λt rec=>?_) _ ([])<|e f.1).trans ?_;{simp only [zbr d,zZ d,zbk d,zba d f.1,cT];unfold ztk;simp only[zm3];cases ieq a[i].Tag b<;>cases ieq a[i].Page c<;>rfl};{simp only [zbl,cF]};exact zm0 (ztk b c) _ a 0 [] (by simpa using f.2)
def zGe:vM 354 zlW:=kF3 zfO zA zo zdQ zOs zNd
def zbaa:zY:=[(257,zot),(236,zot),(315,zst),(307,zst),(317,zSU),(309,zSR),(318,zuB),(310,zuB),(316,zlU),(308,zlU),(328,zlW),(354,zlW)]++z4D
def zvl:zS zbaa:=zh zMC (zh zMk<|zh zTv<|zh zTh<|zh zZb<|zh zY7<|zh zV7<|zh zV2<|zh zGp<|zh zGc<|zh zGr<|zh zGe zfO)
def zp3 (b:List Entry)(e:Entry):List Entry:=bif igt (ln<|ap (zcY b e.Tag e.Page) [e]) 6 then dp (ap (zcY b e.Tag e.Page) [e]) (wsub .i64 (ln<|ap (zcY b e.Tag e.Page) [e]) 6) else ap (zcY b e.Tag e.Page) [e]
def zvT {b:List Entry}(e:Entry)(h:b.length<=1048576):(zp3 b e).length<=1048576/\(ap (zcY b e.Tag e.Page) [e]).length<=1048577:=by have d:=zAE b e.Tag e.Page;have c:(ap (zcY b e.Tag e.Page) [e]).length<=1048577:=(by simp[ap];omega);refine⟨?_,c⟩;unfold zp3;cases a:igt (ln<|ap (zcY b e.Tag e.Page) [e]) 6;{have a:=jP a;simp only[ln]at a;simp only[cF];omega};{simp only [cT,dp,vJ];have a:=qD a;have:wsub .i64 (ln<|ap (zcY b e.Tag e.Page) [e]) 6=ln (ap (zcY b e.Tag e.Page) [e])-6:=zr4 (by simp only[ln] at *;omega) (by simp only[ln] at *;omega);rw[this];simp only[ln] at *;omega}
@[simp] abbrev zho (b:List Entry)(e:Entry):Bool:=pc (b.length<=1048576)
@[simp] abbrev zg6 (b:List Entry)(e:Entry):List Entry:=zp3 b e
def zkn:Run:=rF2 (dS .entry) (dT .entry) λb c=>(zho b c,[aS .entry<|zg6 b c])
def zDx (N:Nat)(d:lE)(b:Entry):OA:=
 let a:=ap (zh6 d b.Tag b.Page) [b];let c:=wsub .i64 (ln a) 6; (oN (zfH d b.Tag b.Page)<|oN (few<|ln a)<|cond (igt (ln a) 6) (oN (inr c (ln a)<|ln a)<|oN (few<|ln<|ap []<|dp a c)<|some [aS .entry<|ap []<|dp a c])<|some [aS .entry a])
def zQF (b:List Entry)(a:Entry)(h:zho b a=true):∃N,zDx N b a=some [aS .entry<|zg6 b a]:=by
 have f:=zO.1 h;obtain⟨c,g⟩:=zvT a f;refine⟨0,?_⟩;unfold zDx oN;conv=>zeta
 refine must (zbq f) (must (zfP<|qU g (by decide:1048577<=2147483648)) ?_);unfold zg6 zp3 at *;show _=some [AV.one<|.s .entry<|cond (igt (ln<|ap (zcY b a.Tag a.Page) [a]) 6) (dp (ap (zcY b a.Tag a.Page) [a])<|wsub .i64 (ln<|ap (zcY b a.Tag a.Page) [a]) 6)<|ap (zcY b a.Tag a.Page) [a]];cases d:igt (ln<|ap (zcY b a.Tag a.Page) [a]) 6;{rfl};{rw [d]at c;simp only[cT]at c;have d:=qD d;have e:wsub .i64 (ln<|ap (zcY b a.Tag a.Page) [a]) 6=ln (ap (zcY b a.Tag a.Page) [a])-6:=zr4 (by simp only[ln] at *;omega) (by simp only[ln] at *;omega);refine must rfl (must (qI ?_)<|must ?_ ?_);{show 0<=wsub .i64 (ln<|ap (zcY b a.Tag a.Page) [a]) 6/\wsub .i64 (ln<|ap (zcY b a.Tag a.Page) [a]) 6<=ln (ap (zcY b a.Tag a.Page) [a])/\ln (ap (zcY b a.Tag a.Page) [a])<=ln (ap (zcY b a.Tag a.Page) [a]);rw[e];simp only[ln] at *;omega};{exact zpc c};{rw [znP];rfl}}
def zvB:vM 284 zkn:=kF2 zvl zA zo zdQ (zq []) zQF
def zC4 (N:Nat)(c:lE)(a:Entry):OA:=
 let b:=ap (zh6 c a.Tag a.Page) [a];let d:=imax 0<|wsub .i64 (ln b) 6; (oN (zfH c a.Tag a.Page)<|oN (few<|ln b)<|oN (inr d (ln b)<|ln b)<|some [aS .entry<|dp b d])
def zQg (b:List Entry)(a:Entry)(h:zho b a=true):∃N,zC4 N b a=some [aS .entry<|zg6 b a]:=by
 have g:=zO.1 h;obtain⟨_,f⟩:=zvT a g;refine⟨0,?_⟩;unfold zC4 zg6 zp3 oN;conv=>zeta
 simp only[zh6];generalize ap (zcY b a.Tag a.Page) [a]=l at f ⊢;refine must (zbq g) (must (zfP<|qU f (by decide:1048577<=2147483648)) ?_);have e:wsub .i64 (ln l) 6=ln l-6:=zr4 (by simp only[ln] at *;omega) (by simp only[ln] at *;omega);rw[e];cases c:igt (ln l) 6;{have c:=jP c;have d:imax 0 (ln l-6)=0:=(by unfold imax;rw[if_neg (by omega)]);rw[d];exact must (qI (by simp only[ln];omega)) (by simp[dp])};{have c:=qD c;have d:imax 0 (ln l-6)=ln l-6:=(by unfold imax;rw[if_pos (by omega)]);rw[d];exact must (qI (by simp only[ln] at *;omega)) rfl}
def zJg:vM 311 zkn:=kF2 zvl zA zo zdQ (zq []) zQg
def zpI (l:List Slot)(p:Int):Option Nat:=l.findIdx? λs=>ieq s.Page p
def zjm (p:Int):List Mon->Nat->Int×Int
 |[],_=>(-1,-1)
 |m::l,i=>match zpI m.Outer p with|some k=>((i:Int),(k:Int))|none=>zjm p l (i+1)
def zbR (h:Host)(p:Int):Int×Int:=bif ilt p 0 then (-1,-1) else zjm p h.Mons 0
def zSu {a:Type}(p:Slot->Bool)(r:Nat->Option a)(K:Unit->Option a):∀(l:List Slot) (i:Nat),goL (λj x (_:Unit) k=>bif p x then r j else k ()) K l i ()=match l.findIdx? p with|some k=>r (i+k)|none=>K ()
 |[],_=>rfl
 |x::l,i=>by simp only[goL];rw[List.findIdx?_cons];cases h:p x;{simp only [cF,kD,if_false];rw[zSu p r K l<|i+1];cases l.findIdx? p with|none=>rfl|some k=>simp only[Option.map_some];congr 1;omega};{rfl}
def zOX {c:Type}(p:Int)(r:Int->Int->Option c):∀(l:List Mon) (i:Nat),goL (λi (x:Mon) (_:Unit) b=>goL (λj (y:Slot) (_:Unit) a=>bif ieq y.Page p then r (i:Int) (j:Int) else a ()) (λ_=>b ()) x.Outer 0 ()) (λ_=>r (-1) (-1)) l i ()=r (zjm p l i).1 (zjm p l i).2
 |[],_=>rfl
 |m::l,i=>by simp only[goL,zjm];rw[zSu (λs=>ieq s.Page p) λj=>r (i:Int) (j:Int)];unfold zpI;cases m.Outer.findIdx? (λs=>ieq s.Page p) with|none=>exact zOX p r l (i+1)|some k=>simp only[jX]
@[simp] abbrev zgm (h:Host)(p:Int):Bool:=true
@[simp] abbrev zdS (h:Host)(p:Int):Int:=(zbR h p).1
@[simp] abbrev zeM (h:Host)(p:Int):Int:=(zbR h p).2
def zjU:Run:=rF2 dH dI λb c=>(zgm b c,[aI<|zdS b c,aI<|zeM b c])
def zwr (N:Nat)(f:Host)(g:Int):OA:=
 (cond (ilt g 0) (some [aI<|-1,aI<|-1])<|iter (σ:=(Int×Int×Int×lN×Unit)) N (λi b=>let c:=b.2.2.1; (cond (ilt c b.2.1) (oN (inb c<|ln b.2.2.2.1)<|iter (σ:=(Int×Int×Int×Int×Int×Int×Int×lN×Unit)) N (λj a=>let e:=a.2.2.2.2.2.2.2.1;let h:=(ix e a.2.2.2.2.1 zi).Outer;let d:=a.2.2.2.2.2.2.1; (cond (ilt d a.2.2.2.2.2.1) (oN (inb d<|ln h)<|cond (ieq (ix h d zX).Page a.1) (some [aI a.2.1,aI d])<|j (a.1,a.2.1,a.2.2.1,a.2.2.2.1,a.2.2.2.2.1,a.2.2.2.2.2.1,zM .i64 d 1,e,()))<|i (a.1,a.2.2.1,zM .i64 a.2.2.2.1 1,e,()))) (b.1,c,b.2.1,c,c,ln (ix b.2.2.2.1 c zi).Outer,0,b.2.2.2.1,()))<|some [aI<|-1,aI<|-1])) (g,ln f.Mons,0,f.Mons,()))
def zG4:=zq [(345,0,{n:=36,tm:=[(1,ti),(13,.sl 0 []),(14,ti),(15,ti)],lo:=[],ro:=[(0,.mon,false)]}),(345,2,{n:=36,tm:=[(1,ti),(6,ti),(13,.sl 0 []),(14,ti),(15,ti),(21,.sl 0 [0]),(22,ti),(23,ti)],lo:=[],ro:=[(0,.mon,false)]})]
def zGJ (a:Host)(c:Int)(m:zbL big [aH a,aI c])(q:zgm a c=true):∃N,zwr N a c=some [aI<|zdS a c,aI<|zeM a c]:=by
 have k:CVB big (.s .mon a.Mons):=(zcK m).1 _ (by simp[AV.cvs,zbn]);have h:=k.len;refine zcg λN e=>?_;unfold zwr zdS zeM zbR oN;conv=>zeta
 cases p:ilt c 0;{simp only [cF];refine(zbj a.Mons (λi (t:Unit)=>(c,ln a.Mons,(i:Int),a.Mons,())) _ (λi (x:Mon) (_:Unit) n=>goL (λj (y:Slot) (_:Unit) b=>bif ieq y.Page c then some [AV.one<|.i .i64 (i:Int),AV.one<|.i .i64 (j:Int)] else b ()) (λ_=>n ()) x.Outer 0 ()) (λ(t:Unit)=>some [.one<|.i .i64<|-1,.one<|.i .i64<|-1]) (λi d t rec=>?_) (λt rec=>?_) _ ()<|e h).trans ?_;{simp only [zbr d,zZ d,zbk d,zba d h,cT];have l:a.Mons[i].Outer.length<=big:=(k.inv.2 _ (jG d) (.s .slot _) (by simp[Ty.cells])).len;refine(zbj a.Mons[i].Outer (λj (u:Unit)=>(c,(i:Int),ln a.Mons,(i:Int),(i:Int),ln a.Mons[i].Outer,(j:Int),a.Mons,())) _ (λj (y:Slot) (_:Unit) b=>bif ieq y.Page c then some [AV.one<|.i .i64 (i:Int),AV.one<|.i .i64 (j:Int)] else b ()) (λ(u:Unit)=>rec (c,ln a.Mons,((i+1:Nat):Int),a.Mons,())) (λj g u f=>?_) (λu f=>?_) _ ()<|e l).trans ?_;{simp only [zbr g,zZ g,zbk g,zba g l,cT,zZ d,zbk d,zba d h]};{simp only [zbl,cF,zZ d,zbk d,zba d h]};rfl};{simp only [zbl,cF]};exact zOX c (λi j=>some [AV.one<|.i .i64 i,AV.one<|.i .i64 j]) a.Mons 0};{rfl}
def zCL:vM 345 zjU:=hF2 zvl zA zo zdQ zG4 zGJ
def z5c {a c b:Type}(r:Option b):∀(l:List a) (i:Nat) (t:c),goL (λ_ _ _ _=>r) (λ_=>r) l i t=r
 |[],_,_=>rfl
 |_::_,_,_=>rfl
def zwD (N:Nat)(d:Host)(f:Int):OA:=
 (iter (σ:=(Int×Int×lM×lN×lE×lE×Unit)) N (λg b=>cond (ilt b.2.1<|ln b.2.2.2.1) (cond (ige b.1 0) (iter (σ:=(Int×Int×Int×lM×lN×lE×lE×Unit)) N (λh a=>let c:=a.2.2.2.2.1;let e:=(ix c a.2.1 zi).Outer; (oN (inb a.2.1<|ln c)<|cond (ilt a.2.2.1<|ln e) (oN (inb a.2.1<|ln c)<|oN (inb a.2.2.1<|ln e)<|cond (ieq (ix e a.2.2.1 zX).Page a.1) (some [aI a.2.1,aI a.2.2.1])<|h (a.1,a.2.1,zM .i64 a.2.2.1 1,a.2.2.2.1,c,a.2.2.2.2.2.1,a.2.2.2.2.2.2.1,()))<|g (a.1,zM .i64 a.2.1 1,a.2.2.2.1,c,a.2.2.2.2.2.1,a.2.2.2.2.2.2.1,()))) (b.1,b.2.1,0,b.2.2.1,b.2.2.2.1,b.2.2.2.2.1,b.2.2.2.2.2.1,()))<|some [aI<|-1,aI<|-1])<|some [aI<|-1,aI<|-1]) (f,0,d.Memory,d.Mons,d.Buffer,d.IoBuffer,()))
def zG5:=zq [(301,0,{n:=44,tm:=[(1,ti),(2,.lp 0 0),(6,ti)],lo:=[(0,[.sl 0 [],.sl 1 [],.sl 2 [],.sl 3 []])],ro:=[(0,.sl .int,false),(1,.mon,false),(2,.entry,false),(3,.entry,false)]}),(301,2,{n:=44,tm:=[(1,ti),(2,.lp 0 0),(6,ti),(7,ti)],lo:=[(0,[.sl 0 [],.sl 1 [],.sl 2 [],.sl 3 []])],ro:=[(0,.sl .int,false),(1,.mon,false),(2,.entry,false),(3,.entry,false)]})]
def zGT (a:Host)(b:Int)(p:zbL big [aH a,aI b])(r:zgm a b=true):∃N,zwD N a b=some [aI<|zdS a b,aI<|zeM a b]:=by
 have m:CVB big (.s .mon a.Mons):=(zcK p).1 _ (by simp[AV.cvs,zbn]);have l:=m.len;refine zcg λN e=>?_;unfold zwD zdS zeM zbR oN;conv=>zeta
 refine(zbj a.Mons (λi (t:Unit)=>(b,(i:Int),a.Memory,a.Mons,a.Buffer,a.IoBuffer,())) _ (λi (x:Mon) (_:Unit) q=>bif ige b 0 then goL (λj (y:Slot) (_:Unit) c=>bif ieq y.Page b then some [AV.one<|.i .i64 (i:Int),AV.one<|.i .i64 (j:Int)] else c ()) (λ_=>q ()) x.Outer 0 () else some [AV.one<|.i .i64<|-1,AV.one<|.i .i64<|-1]) (λ(t:Unit)=>some [.one<|.i .i64<|-1,.one<|.i .i64<|-1]) (λi d t rec=>?_) (λt rec=>?_) _ ()<|e l).trans ?_;{simp only [zbr d,zZ d,zbk d,zba d l,cT];cases h:ige b 0;{rfl};have n:a.Mons[i].Outer.length<=big:=(m.inv.2 _ (jG d) (.s .slot _) (by simp[Ty.cells])).len;simp only[cT];refine(zbj a.Mons[i].Outer (λj (_:Unit)=>(b,(i:Int),(j:Int),a.Memory,a.Mons,a.Buffer,a.IoBuffer,())) _ (λj (y:Slot) (_:Unit) c=>bif ieq y.Page b then some [AV.one<|.i .i64 (i:Int),AV.one<|.i .i64 (j:Int)] else c ()) (λ_=>rec (b,((i+1:Nat):Int),a.Memory,a.Mons,a.Buffer,a.IoBuffer,())) (λj g u f=>?_) (λu f=>?_) _ ()<|e n).trans ?_;{simp only [zbr g,zZ g,zbk g,zba g n,cT,zZ d,zbk d]};{simp only [zbl,cF,cT,zZ d,zbk d,zba d l]};rfl};{simp only [zbl,cF]};cases h:ige b 0;{have k:ilt b 0=true:=(by have:=jP h;exact qI (by omega));rw[k];exact z5c _ _ _ _};{have k:ilt b 0=false:=(by have:=qD h;exact qJ (by omega));rw[k];exact zOX b (λi j=>some [AV.one<|.i .i64 i,AV.one<|.i .i64 j]) a.Mons 0}
def zCV:vM 301 zjU:=hF2 zvl zA zo zdQ zG5 zGT
def zbab:zY:=[(284,zkn),(311,zkn),(301,zjU),(345,zjU)]++zbaa
def zvm:zS zbab:=zh zvB (zh zJg<|zh zCV<|zh zCL zvl)
def zcx (h:Host):LI:=zyc (λi=>ilt (zbR h (i:Int)).1 0) h.Memory.length 0
@[simp] abbrev zgp (h:Host):Bool:=pc (h.Memory.length<=1048576)
@[simp] abbrev zc5 (h:Host):LI:=zcx h
def zqf:Run:=rF1 dH λb=>(zgp b,[aS .int<|zc5 b])
def zLg (N:Nat)(b:Host):OA:=
 (iter (σ:=(Int×LI×lM×lN×lE×lE×Unit)) N (λc a=>let d:=(⟨a.2.2.1,a.2.2.2.1,a.2.2.2.2.1,a.2.2.2.2.2.1⟩:Host); (cond (ilt a.1<|ln a.2.2.1) (oN (zgm d a.1)<|cond (ilt (zdS d a.1) 0) (oN (few<|ln<|ap a.2.1 [a.1])<|c (zM .i64 a.1 1,ap a.2.1 [a.1],a.2.2.1,a.2.2.2.1,a.2.2.2.2.1,a.2.2.2.2.2.1,()))<|c (zM .i64 a.1 1,a.2.1,a.2.2.1,a.2.2.2.1,a.2.2.2.2.1,a.2.2.2.2.2.1,()))<|some [aS .int a.2.1])) (0,[],b.Memory,b.Mons,b.Buffer,b.IoBuffer,()))
def zYo:=zq [(300,0,{n:=28,tm:=[(1,.lp 0 0),(3,.sl 0 []),(4,ti)],lo:=[(0,[.sl 1 [],.sl 2 [],.sl 3 [],.sl 4 []])],ro:=[(0,.int,true),(1,.sl .int,false),(2,.mon,false),(3,.entry,false),(4,.entry,false)]})]
def zWG (a:Host)(f:zgp a=true):∃N,zLg N a=some [aS .int<|zc5 a]:=by
 have g:=zO.1 f;have e:=zcJ g;refine zcg λN d=>?_;unfold zLg oN;conv=>zeta
 refine(zbj a.Memory (λi (t:LI)=>((i:Int),t,a.Memory,a.Mons,a.Buffer,a.IoBuffer,())) _ (λi (_:LI) (t:LI) b=>bif ilt (zbR a (i:Int)).1 0 then (cond (few<|ln<|ap t [(i:Int)]) (b<|ap t [(i:Int)]) none) else b t) (λ(t:LI)=>some [.one<|.s .int t]) (λi c t rec=>?_) (λt rec=>?_) _ ([])<|d e.1).trans ?_;{simp only [zbr c,zZ c,zbk c,zba c e.1,cT]};{simp only [zbl,cF]};rw[zuU λi (t:LI) b=>bif ilt (zbR a (i:Int)).1 0 then (cond (few<|ln<|ap t [(i:Int)]) (b<|ap t [(i:Int)]) none) else b t];exact zAL (λi=>ilt (zbR a (i:Int)).1 0) _ _ 0 [] (by simpa using e.2)
def zPz:vM 300 zqf:=kF1 zvm zA zo zdQ zYo zWG
def zKU (N:Nat)(b:Host):OA:=
 (iter (σ:=(Int×Int×LI×lM×lN×lE×lE×Unit)) N (λd a=>let c:=a.2.2.2.2.2.2.1;let e:=(⟨a.2.2.2.1,a.2.2.2.2.1,a.2.2.2.2.2.1,c⟩:Host); (cond (ilt a.2.1 a.1) (oN (zgm e a.2.1)<|cond (ilt (zdS e a.2.1) 0) (oN (few<|ln<|ap a.2.2.1 [a.2.1])<|d (a.1,zM .i64 a.2.1 1,ap a.2.2.1 [a.2.1],a.2.2.2.1,a.2.2.2.2.1,a.2.2.2.2.2.1,c,()))<|d (a.1,zM .i64 a.2.1 1,a.2.2.1,a.2.2.2.1,a.2.2.2.2.1,a.2.2.2.2.2.1,c,()))<|some [aS .int a.2.2.1])) (ln b.Memory,0,[],b.Memory,b.Mons,b.Buffer,b.IoBuffer,()))
def zYg:=zq [(295,0,{n:=28,tm:=[(1,.lp 0 0),(3,.sl 0 []),(10,ti),(11,ti)],lo:=[(0,[.sl 1 [],.sl 2 [],.sl 3 [],.sl 4 []])],ro:=[(0,.int,true),(1,.sl .int,false),(2,.mon,false),(3,.entry,false),(4,.entry,false)]})]
def zWn (a:Host)(f:zgp a=true):∃N,zKU N a=some [aS .int<|zc5 a]:=by
 have g:=zO.1 f;have e:=zcJ g;refine zcg λN d=>?_;unfold zKU oN;conv=>zeta
 refine(zbj a.Memory (λi (t:LI)=>(ln a.Memory,(i:Int),t,a.Memory,a.Mons,a.Buffer,a.IoBuffer,())) _ (λi (_:LI) (t:LI) b=>bif ilt (zbR a (i:Int)).1 0 then (cond (few<|ln<|ap t [(i:Int)]) (b<|ap t [(i:Int)]) none) else b t) (λ(t:LI)=>some [.one<|.s .int t]) (λi c t rec=>?_) (λt rec=>?_) _ ([])<|d e.1).trans ?_;{simp only [zbr c,zZ c,zbk c,zba c e.1,cT]};{simp only [zbl,cF]};rw[zuU λi (t:LI) b=>bif ilt (zbR a (i:Int)).1 0 then (cond (few<|ln<|ap t [(i:Int)]) (b<|ap t [(i:Int)]) none) else b t];exact zAL (λi=>ilt (zbR a (i:Int)).1 0) _ _ 0 [] (by simpa using e.2)
def zO9:vM 295 zqf:=kF1 zvm zA zo zdQ zYg zWn
def zjQ (m:List LI)(p:Int)(c:LI):List LI:=bif hasB p (ln m) then (cond (zcI c) (up m p c) m) else m
@[simp] abbrev zgq (m:List LI)(p:Int)(c:LI):Bool:=pc (SmM m/\c.length<=1048576)
@[simp] abbrev zfi (m:List LI)(p:Int)(c:LI):List LI:=zjQ m p c
def znk:Run:=rF3 (dS<|.sl .int) dI (dS .int) λb c d=>(zgq b c d,[aS (.sl .int)<|zfi b c d])
def zDE (N:Nat)(a:lM)(b:Int)(c:LI):OA:=
 (oN (zg9 a)<|oN (zL b 0<|wsub .i64 (ln a) 1)<|cond (zk b 0<|wsub .i64 (ln a) 1) (oN (zdV c)<|cond (zdf c) (oN (few<|ln<|ap [] c)<|oN (inb b<|ln<|zfq a)<|share (up (zfq a) b<|ap [] c) λd=>some [aS (.sl .int) d])<|some [aS (.sl .int)<|zfq a])<|some [aS (.sl .int)<|zfq a])
def zQM (b:List LI)(a:Int)(c:LI)(g:zgq b a c=true):∃N,zDE N b a c=some [aS (.sl .int)<|zfi b a c]:=by obtain⟨e,d⟩:=zO.1 g;refine⟨0,?_⟩;unfold zDE zfi zjQ oN;refine must (zbq<|(zrt _).2 e) (must rfl ?_);rw[show zk a 0 (wsub .i64 (ln b) 1)=hasB a (ln b) from zr3 e.1 a];cases f:hasB a (ln b);{rfl};{simp only [cT,zdV,zdf];cases h:zcI c;{rfl};{refine must rfl (must (zpc d)<|must (zB f) ?_);rw[znP];rfl}}
def zJJ:vM 303 znk:=kF3 zvm zA zo zdQ (zq []) zQM
def zC7 (N:Nat)(a:lM)(b:Int)(c:LI):OA:=
 (oN (zgZ a)<|oN (zby b<|ln a)<|cond (zdk b<|ln a) (oN (zdV c)<|cond (zdf c) (oN (zee c)<|oN (inb b<|ln<|zd8 a)<|share (up (zd8 a) b<|zec c) λd=>some [aS (.sl .int) d])<|some [aS (.sl .int)<|zd8 a])<|some [aS (.sl .int)<|zd8 a])
def zQj (a:List LI)(b:Int)(c:LI)(f:zgq a b c=true):∃N,zC7 N a b c=some [aS (.sl .int)<|zfi a b c]:=by obtain⟨g,d⟩:=zO.1 f;refine⟨0,?_⟩;unfold zC7 zfi zjQ oN;refine must (zbq g) (must rfl ?_);rw[show zdk b (ln a)=hasB b (ln a) from rfl];cases e:hasB b (ln a);{rfl};{simp only [cT,zdV,zdf];cases h:zcI c;{rfl};{refine must rfl (must (zbq<|qU d (by decide)) (must (zB e) rfl))}}
def zJk:vM 297 znk:=kF3 zvm zA zo zdQ (zq []) zQj
def zsc:zY:=[(300,zqf),(295,zqf),(303,znk),(297,znk)]++zbab
def ziv:zS zsc:=zh zPz (zh zO9<|zh zJJ<|zh zJk zvm)
abbrev mZ:Mon:=Ty.dflt .mon
abbrev sZ:Slot:=Ty.dflt .slot
def ShM (x:Mon):Prop:=x.Outer.length=8/\x.Out.length=8/\x.Dirty.length=8/\x.Tables.length=x.Guests.length
def Shape (h:Host):Prop:=SmH h/\∀x∈h.Mons,ShM x
def zjN {h:Host}{m:Int}{x:Mon}(a:Shape h)(c:zgf x)(d:ShM x):Shape {h with Mons:=up h.Mons m x}:=by refine⟨⟨a.1.1,zkF a.1.2.1 c,a.1.2.2⟩,λy b=>?_⟩;rcases qX b with b|rfl;{exact a.2 y b};{exact d}
def zcL {h:Host}(b:Shape h){m:Int}(a:hasB m (ln h.Mons)=true):zgf (ix h.Mons m mZ)/\ShM (ix h.Mons m mZ):=⟨b.1.2.1.2 _<|zbK a _,b.2 _<|zbK a _⟩
def zSX {h:Host}{b:List LI}(a:Shape h)(c:SmM b):Shape {h with Memory:=b}:=⟨⟨c,a.1.2⟩,a.2⟩
def zt6 {h:Host}{m p:Int}{s:Slot}(e:hasB m (ln h.Mons)=true)(b:Shape h):Shape (zcC h m p s):=by refine⟨zIx e b.1,?_⟩;obtain⟨_,a⟩:=zcL b e;have d:∀y∈up h.Mons m {zlL (ix h.Mons m mZ) p (ix h.Mons m mZ).Tables.length with Outer:=up (ix h.Mons m mZ).Outer p s},ShM y:=(by intro y c;rcases qX c with c|rfl;{exact b.2 y c};{exact⟨by simpa using a.1,a.2.1,a.2.2.1,by simpa [zlL,zrY] using a.2.2.2⟩});unfold zcC;cases ine (ix (ix h.Mons m mZ).Outer p sZ).Page (-1)<;>exact d
def zhj (h:Host)(m p:Int)(s:Slot):(zcC h m p s).Mons=up h.Mons m {zlL (ix h.Mons m mZ) p (ix h.Mons m mZ).Tables.length with Outer:=up (ix h.Mons m mZ).Outer p s}/\(zcC h m p s).Memory=h.Memory:=by unfold zcC;cases ine (ix (ix h.Mons m mZ).Outer p sZ).Page (-1)<;>exact⟨rfl,rfl⟩
def zfk {h:Host}{m k:Int}{x:Mon}(a:hasB m (ln h.Mons)=true):hasB m (ln<|up h.Mons k x)=true:=by simpa [ln] using a
def zHX {h:Host}{m k p:Int}{s:Slot}(a:hasB m (ln h.Mons)=true):hasB m (ln (zcC h k p s).Mons)=true:=by rw[(zhj h k p s).1];exact zfk a
def zd6 {b:Type}{l:List b}{p:Int}(h:l.length=8)(a:hasB p 8=true):hasB p (ln l)=true:=by rw[ln,h];exact a
def zA0 (h:Host)(m p:Int)(s:Slot):Host :=
 bif ine s.Page (-1) then ⟨h.Memory,up h.Mons m<|zlL (ix h.Mons m mZ) p (ix h.Mons m mZ).Guests.length,flushed h.Buffer s.Page,flushed h.IoBuffer s.Page⟩
 else ⟨h.Memory,up h.Mons m<|zlL (ix h.Mons m mZ) p (ix h.Mons m mZ).Guests.length,h.Buffer,h.IoBuffer⟩
def zBo {h:Host}{k:Nat}{p:Int}{s:Slot}(a:k<h.Mons.length)(b:(ix h.Mons (k:Int) mZ).Tables.length=(ix h.Mons (k:Int) mZ).Guests.length) :
 zA0 {h with Mons:=up h.Mons (k:Int) {ix h.Mons (k:Int) mZ with Outer:=up (ix h.Mons (k:Int) mZ).Outer p s}} (k:Int) p (ix (ix h.Mons (k:Int) mZ).Outer p sZ)=zcC h (k:Int) p s:=by
 unfold zcC zA0;simp only[zez a,zxQ,zlL,b]
def z2p {a:Type}(m p:Int)(i:Nat)(t:List Mon)(b:List Mon->Option a):Option a :=
 (cond (inb (i:Int)<|ln (ix t m mZ).Tables) (cond (inb (i:Int)<|ln (ix t m mZ).Guests) (cond (pc<|SmK (ix (ix t m mZ).Tables (i:Int) zdz)/\(ix (ix t m mZ).Guests (i:Int) zu).Live.length<=1048576) (cond (inb (i:Int)<|ln (ix t m mZ).Tables) (b<|up t m ({ (ix t m mZ) with Tables:=(up (ix t m mZ).Tables (i:Int)<|zkM (ix (ix t m mZ).Tables (i:Int) zdz) (ix (ix t m mZ).Guests (i:Int) zu).Live p)}:Mon)) none) none) none) none)
def z0D {j:Type}{mons:List Mon}{k:Nat}(d:k<mons.length)(p:Int)(c:zgf (ix mons (k:Int) mZ))(f:(ix mons (k:Int) mZ).Tables.length=(ix mons (k:Int) mZ).Guests.length)(K:List Mon->Option j) :
 ∀(n i:Nat),i+n=(ix mons (k:Int) mZ).Guests.length->goN (λi t g=>z2p (k:Int) p i t g) K n i (up mons (k:Int)<|zlL (ix mons (k:Int) mZ) p i)=K (up mons (k:Int)<|zlL (ix mons (k:Int) mZ) p (ix mons (k:Int) mZ).Guests.length)
 | 0,i,h=>by have:i=(ix mons (k:Int) mZ).Guests.length:=(by omega);subst this;rfl
 |n+1,i,h=>by
  have b:i<(ix mons (k:Int) mZ).Guests.length:=(by omega);have a:i<(zmJ (ix mons (k:Int) mZ).Guests p i (ix mons (k:Int) mZ).Tables).length:=by rw[zrY];omega
  have e:pc (SmK (ix (zmJ (ix mons (k:Int) mZ).Guests p i (ix mons (k:Int) mZ).Tables) (i:Int) zdz)/\(ix (ix mons (k:Int) mZ).Guests (i:Int) zu).Live.length<=1048576)=true :=
   zbq ⟨by rw[zbk a];exact(zxO _ _ _ _ (by omega) c.2.2.2.2.2).2 _ (jG a),by rw[zbk b];exact(c.2.2.2.1.2 _<|jG b).2.2.1⟩
  simp only[goN,z2p,zez d,zxQ,zlL,zZ a,zZ b,e,cT];exact z0D d p c f K n (i+1) (by omega)
@[simp] abbrev zfd (h:Host)(m p:Int)(s:Slot):Bool:=pc (Shape h/\hasB m (ln h.Mons)=true)
@[simp] abbrev zfe (h:Host)(m p:Int)(s:Slot):Host:=zA0 h m p s
def znH:LC->LA->Option (Bool×LC×LA)
 |[.s (.sl .int) b,.s .mon c,.s .entry d,.s .entry e],[.one<|.i .i64 f,.one<|.i .i64 g,.agg [.i .i64 h,.i .i64 j]]=>some (zfd (⟨b,c,d,e⟩:Host) f g (⟨h,j⟩:Slot),zbn<|zfe (⟨b,c,d,e⟩:Host) f g (⟨h,j⟩:Slot),[])
 |_,_=>none
def zrj (N:Nat)(c:Host)(i n:Int)(k:Slot):OA:=
 (oN (inb i<|ln c.Mons)<|iter (σ:=(Int×Int×Int×Int×Int×Int×lN×lM×lE×lE×Unit)) N (λp a=>let j:=a.2.2.2.2.2.2.2.1;let h:=a.2.2.2.2.2.2.1;let e:=a.2.2.2.2.1;let g:=a.2.2.2.2.2.2.2.2.1;let f:=a.2.2.2.2.2.2.2.2.2.1;let b:=a.2.2.2.1;let d:=ix h a.2.1 zi;let m:=ix d.Tables b zdz;let l:=(ix d.Guests b zu).Live; (cond (ilt b a.2.2.1) (oN (inb b<|ln d.Tables)<|oN (inb b<|ln d.Guests)<|oN (zit m l a.1)<|oN (inb b<|ln d.Tables)<|share (up h a.2.1 ({d with Tables:=(up d.Tables b<|zmx m l a.1)}:Mon)) λq=>p (a.1,a.2.1,a.2.2.1,zM .i64 b 1,e,a.2.2.2.2.2.1,q,j,g,f,()))<|cond (ine e<|-1) (oN (zew g e)<|oN (zew f e)<|some [aH (⟨j,h,zg3 g e,zg3 f e⟩:Host)])<|some [aH (⟨j,h,g,f⟩:Host)])) (n,i,ln (ix c.Mons i zi).Guests,0,k.Page,k.Rights,c.Mons,c.Memory,c.Buffer,c.IoBuffer,()))
def zKG:=zq [(226,0,{n:=71,tm:=[(0,.lp 0 0),(2,ti),(7,.lp 1 0),(8,.ep 0 [] 0),(20,ti),(21,ti)],lo:=[(0,[.sl 1 [],.sl 0 [],.sl 2 [],.sl 3 []]),(1,[ti,ti])],ro:=[(0,.mon,true),(1,.sl .int,true),(2,.entry,true),(3,.entry,true)]})]
def zNC (N:Nat)(c:Host)(a b:Int)(d:Slot):zpG (cQ zsc zpX zKi zYc) zKG N 12 226 [true,true,true,true] (zbn c) [aI a,aI b,aT .slot d]=zrj N c a b d:=by kernel_rfl
def zJY (c:Host)(d b:Int)(a:Slot)(s:zbL big (.agg (zbn c)::[aI d,aI b,aT .slot a]))(r:zfd c d b a=true):∃N,zrj N c d b a=some (.agg (zbn<|zfe c d b a)::[]):=by
 obtain⟨h,g⟩:=zO.1 r;obtain⟨l,q⟩:=zcL h g;have hg:(ix c.Mons d mZ).Guests.length<=big:=(zcJ l.2.2.2.1.1).1;refine zcg λN f=>?_;unfold zrj oN;conv=>zeta
 refine must (zB g) ?_;refine(zbj ((ix c.Mons d zi).Guests) (λi (t:lN)=>(b,d,ln (ix c.Mons d zi).Guests,(i:Int),a.Page,a.Rights,t,c.Memory,c.Buffer,c.IoBuffer,())) _ (λi (x:Guest) (t:List Mon) j=>z2p d b i t j) (λ(t:lN)=>cond (ine a.Page<|-1) (cond (zew c.Buffer a.Page) (cond (zew c.IoBuffer a.Page) (some [.agg<|zbn (⟨c.Memory,t,zg3 c.Buffer a.Page,zg3 c.IoBuffer a.Page⟩:Host)]) none) none)<|some [.agg<|zbn (⟨c.Memory,t,c.Buffer,c.IoBuffer⟩:Host)]) (λi e t rec=>?_) (λt rec=>?_) _ (c.Mons)<|f hg).trans ?_;{simp only [zbr e,zZ e,zbk e,zba e hg,cT];rfl};{simp only [zbl,cF]};obtain⟨k,rfl,m⟩:=zeo (n:=c.Mons.length) g;rw[zuU λi t j=>z2p (k:Int) b i t j];have p:c.Mons=up c.Mons (k:Int) (zlL (ix c.Mons (k:Int) mZ) b 0):=(zRt m _).symm;refine(congrArg _ p).trans ((z0D m b l q.2.2.2 _ _ 0<|jX _).trans ?_);show (cond (ine a.Page<|-1) _ _)=some [AV.agg<|zbn<|zA0 c (k:Int) b a];unfold zA0;cases ine a.Page (-1);{rfl};{exact must rfl (must (zbq h.1.2.2.1) (must (zbq h.1.2.2.2) rfl))}
def zEh:zbW Tryz.prog 226 [true,true,true,true] znH:=by refine zim (zhv ziv zA zo zdQ) (zjT (by kernel_rfl)) ?_;intro g a b j i f h;have d:=zl2 f;unfold znH at h;split at h;{obtain⟨e,rfl,rfl⟩:=zoj h;obtain⟨N,c⟩:=zJY _ _ _ _ (by exact d) e;exact⟨rfl,_,N,12,(zNC N _ _ _ _ ).trans c⟩};{cases h}
def z2P:zc3:=[(226,[true,true,true,true],znH)]++zKi
def zQY:zcd z2P:=zcP zo (by
 intro x a;simp only[qG,qO,or_false]at a;rcases a with rfl
 .exact zEh)
def zfE (h:Host)(m p:Int):Host:={h with Mons:=up h.Mons m {ix h.Mons m mZ with Out:=up (ix h.Mons m mZ).Out p (zcN h.Memory (ix (ix h.Mons m mZ).Outer p sZ).Page)}}
def zef (h:Host)(m p:Int):Host:=zcC (zfE h m p) m p noSlot
def zX0 {m:List LI}{p:Int}(h:SmM m):(zcN m p).length<=1048576:=by unfold zcN;cases a:hasB p (ln m);{exact(by decide:zBw.length<=1048576)};{exact h.2 _ (zbK a _)}
def zyv {h:Host}{m p:Int}(c:Shape h)(d:hasB m (ln h.Mons)=true):Shape (zfE h m p):=by obtain⟨a,b⟩:=zcL c d;exact zjN c ⟨a.1,zOe a.2.1<|zX0 c.1.1,a.2.2⟩ ⟨b.1,by simpa using b.2.1,b.2.2⟩
def zN4 {h:Host}{m p:Int}(b:Shape h)(a:hasB m (ln h.Mons)=true):Shape (zef h m p):=zt6 (zfk a) (zyv b a)
@[simp] abbrev zk8 (h:Host)(m p:Int):Bool:=pc (Shape h/\hasB m (ln h.Mons)=true/\hasB p 8=true)
@[simp] abbrev zo1 (h:Host)(m p:Int):Host:=zef h m p
def zv2:LW
 |[.agg [.s (.sl .int) b,.s .mon c,.s .entry d,.s .entry e],.one<|.i .i64 f,.one<|.i .i64 g]=>some (zk8 (⟨b,c,d,e⟩:Host) f g,[aH<|zo1 (⟨b,c,d,e⟩:Host) f g])
 |_=>none
def zAm (N:Nat)(a:Host)(b c:Int):OA:=
 let d:=ix a.Mons b zi;let e:=(ix d.Outer c zX).Page; (oN (inb b<|ln a.Mons)<|oN (inb b<|ln a.Mons)<|oN (inb c<|ln d.Outer)<|oN (zfg a.Memory e)<|oN (inb c<|ln d.Out)<|share (up a.Mons b ({d with Out:=(up d.Out c<|zgS a.Memory e)}:Mon)) (λg=>let f:=({a with Mons:=g}:Host); (oN zbI<|oN (zgb f b c zbc)<|some [aH<|zie f b c zbc])))
def zZD (N:Nat)(a:Host)(b c:Int):zFP (cQ zsc zpX z2P zYc) (zq []) N 12 302 [true,true,true,true,false,false] 1 1 [[0],[1],[2],[4],[7]] .mon [aH a,aI b,aI c]=zAm N a b c:=by kernel_rfl
def zW0 (b:Host)(d c:Int)(m:zbL big [aH b,aI d,aI c])(j:zk8 b d c=true):∃N,zAm N b d c=some [aH<|zo1 b d c]:=by
 obtain⟨g,a,f⟩:=zO.1 j;obtain⟨l,e⟩:=zcL g a;obtain⟨k,rfl,h⟩:=zeo (n:=b.Mons.length) a;have i:=zyv (p:=c) g a;refine⟨0,?_⟩;unfold zAm oN;conv=>zeta
 refine must (zB a) (must (zB a)<|must (zB<|zd6 e.1 f)<|must (zbq<|(zrt _).2 g.1.1)<|must (zB<|zd6 e.2.1 f)<|shr (must rfl (must (zbq ⟨(zT _).2 i.1,zfk a,?_,?_⟩) rfl)));{simp only [zez h];exact zd6 e.1 f};{simp only [zez h];exact kX e.2.2.2}
def zP3:zeU Tryz.prog 302 [true,true,true,true,false,false] (some (1,1,[[0],[1],[2],[4],[7]])) zv2:=by refine zm2 (kt:=.mon) (zhv ziv zA zQY zdQ) (zjT (by kernel_rfl)) (by kernel_rfl) ?_;intro a g f e h;have c:=zjZ e;unfold zv2 at h;split at h;{obtain⟨d,rfl⟩:=zeF h;obtain⟨N,b⟩:=zW0 _ _ _ (by exact c) d;exact⟨⟨_,rfl⟩,rfl,_,N,12,(zZD N _ _ _ ).trans b⟩};{cases h}
def zyg:LC->LA->Option (Bool×LC×LA)
 |[.s (.sl .int) b,.s .mon c,.s .entry d,.s .entry e],[.one<|.i .i64 f,.one<|.i .i64 g]=>some (zk8 (⟨b,c,d,e⟩:Host) f g,zbn<|zo1 (⟨b,c,d,e⟩:Host) f g,[])
 |_,_=>none
def zIH (N:Nat)(c:Host)(b a:Int):OA:=
 let d:=ix c.Mons b zi;let e:=ix d.Outer a zX; (oN (inb b<|ln c.Mons)<|oN (inb a<|ln d.Outer)<|oN (zfg c.Memory e.Page)<|oN (inb a<|ln d.Out)<|share (up c.Mons b ({d with Out:=(up d.Out a<|zgS c.Memory e.Page)}:Mon)) (λg=>let f:=ix g b zi; (oN zbI<|oN (inb a<|ln f.Outer)<|share (up g b ({f with Outer:=(up f.Outer a zbc)}:Mon)) (λi=>let h:=({c with Mons:=i}:Host); (oN (zfd h b a e)<|some [aH<|zfe h b a e])))))
def z5H (N:Nat)(c:Host)(a b:Int):zpG (cQ zsc zpX z2P zYc) (zq []) N 12 346 [true,true,true,true] (zbn c) [aI a,aI b]=zIH N c a b:=by kernel_rfl
def z2B (c:Host)(e a:Int)(w:zbL big (.agg (zbn c)::[aI e,aI a]))(u:zk8 c e a=true):∃N,zIH N c e a=some (.agg (zbn<|zo1 c e a)::[]):=by
 obtain⟨l,b,j⟩:=zO.1 u;obtain⟨v,f⟩:=zcL l b;obtain⟨k,rfl,h⟩:=zeo (n:=c.Mons.length) b;have m:=zyv (p:=a) l b;have d:hasB (k:Int) (ln (zfE c (k:Int) a).Mons)=true:=zfk b;have i:k<(zfE c (k:Int) a).Mons.length:=(by simpa [zfE] using h);have g:ix (zfE c (k:Int) a).Mons (k:Int) mZ={ix c.Mons (k:Int) mZ with Out:=up (ix c.Mons (k:Int) mZ).Out a (zcN c.Memory (ix (ix c.Mons (k:Int) mZ).Outer a sZ).Page)}:=zez h _ _;have t:Shape {zfE c (k:Int) a with Mons:=up (zfE c (k:Int) a).Mons (k:Int) {ix (zfE c (k:Int) a).Mons (k:Int) mZ with Outer:=up (ix (zfE c (k:Int) a).Mons (k:Int) mZ).Outer a noSlot}}:=(by obtain⟨q,r⟩:=zcL m d;exact zjN m ⟨by simpa using q.1,q.2⟩ ⟨by simpa using r.1,r.2⟩);refine⟨0,?_⟩;unfold zIH oN;conv=>zeta
 refine must (zB b) (must (zB<|zd6 f.1 j)<|must (zbq<|(zrt _).2 l.1.1)<|must (zB<|zd6 f.2.1 j)<|shr (must rfl (must ?_<|shr<|must (zbq ⟨t,zfk d⟩) ?_)));{rw [zez h];exact zB (zd6 f.1 j)};{have:=zBo (p:=a) (s:=noSlot) i (by rw[g];exact f.2.2.2);rw[g] at this;show some [AV.agg<|zbn<|zA0 {zfE c (k:Int) a with Mons:=up (zfE c (k:Int) a).Mons (k:Int) {ix (zfE c (k:Int) a).Mons (k:Int) mZ with Outer:=up (ix (zfE c (k:Int) a).Mons (k:Int) mZ).Outer a noSlot}} (k:Int) a<|ix (ix c.Mons (k:Int) mZ).Outer a sZ]=_;rw[g];exact congrArg (λx=>some [AV.agg<|zbn x]) this}
def zV5:zbW Tryz.prog 346 [true,true,true,true] zyg:=by refine zim (zhv ziv zA zQY zdQ) (zjT (by kernel_rfl)) ?_;intro g a b j i f h;have d:=zl2 f;unfold zyg at h;split at h;{obtain⟨e,rfl,rfl⟩:=zoj h;obtain⟨N,c⟩:=z2B _ _ _ (by exact d) e;exact⟨rfl,_,N,12,(z5H N _ _ _ ).trans c⟩};{cases h}
def z2Q:zc3:=[(346,[true,true,true,true],zyg)]++z2P
def zQZ:zcd z2Q:=zcP zQY (by
 intro x a;simp only[qG,qO,or_false]at a;rcases a with rfl
 .exact zV5)
def z3I:zfZ:=[(302,[true,true,true,true,false,false],some (1,1,[[0],[1],[2],[4],[7]]),zv2)]++zYc
def zRb:zeK z3I:=zrZ zdQ (by
 intro x a;simp only[qG,qO,or_false]at a;rcases a with rfl
 .exact zP3)
def cz (l:List Slot):Nat:=l.countP λs=>ieq s.Page 0
def zH:List Mon->Nat
 |[]=>0
 |m::l=>cz m.Outer+zH l
def bit (u:List Bool):Nat:=bif ix u 0 false then 1 else 0
def zyZ (s:Slot)(l:List Slot):cz (s::l)=cz l+bif ieq s.Page 0 then 1 else 0:=by unfold cz;rw[vF];cases ieq s.Page 0<;>rfl
def zbdg {u:List Bool}{p:Int}(c:0<=p)(a:p.toNat<u.length)(x:Bool):ix (up u p x) 0 false=bif ieq p 0 then x else ix u 0 false:=by unfold ix up;cases h:ieq p 0;{have:p≠0:=(by simpa [ieq] using h);have b:p.toNat≠0:=(by omega);simp[List.getD,q9,b]};{have:p=0:=(by simpa [ieq] using h);subst this;have a:0<u.length:=a;simp[List.getD,q9,a]}
def zFC:∀(l:List Slot) (u b:List Bool),(∀s∈l,s.Page<12)->u.length=12->zht l u=some b->cz l+bit u=bit b
 |[],u,b,_,_,h=>by cases h;simp[cz]
 |s::l,u,b,i,k,h=>by
  simp only[zht]at h;rw[zyZ];cases c:ilt s.Page 0;{have c:=jP c;rw[show ilt s.Page 0=false from qJ (by omega)]at h;simp only[cF]at h;cases d:ix u s.Page false;{rw [d]at h;simp only[cF]at h;have g:s.Page.toNat<u.length:=(by have:=i s (by simp);omega);have a:=zFC l _ b (λt j=>i t (by simp[j])) (by simpa using k) h;have e:bit (up u s.Page true)=bif ieq s.Page 0 then 1 else bit u:=(by unfold bit;rw[zbdg (by omega) g];cases ieq s.Page 0<;>rfl);rw[e] at a;cases f:ieq s.Page 0;{rw [f] at a;simp only[cF] at a ⊢;omega};{have n:s.Page=0:=(by simpa [ieq] using f);rw[n]at d;have:bit u=0:=(by unfold bit;rw[d];rfl);rw[f] at a;simp only[cT] at a ⊢;omega}};{rw [d]at h;cases h}};{have m:=qD c;rw[c]at h;simp only[cT]at h;have a:=zFC l u b (λt j=>i t (by simp[j])) k h;have:ieq s.Page 0=false:=(by simp[ieq];omega);rw[this];simpa using a}
def zV9:∀(l:List Mon) (u:List Bool),u.length=12->ziA l u=true->zH l+bit u<=1
 |[],u,_,_=>by unfold zH bit;cases ix u 0 false<;>simp
 |m::l,u,c,h=>by simp only[ziA]at h;cases b:zeq m;{rw [b]at h;cases h};{rw [b]at h;simp only[cT]at h;cases a:zht m.Outer u with|none=>rw[a]at h;cases h|some d =>rw[a]at h;have e:=zFC _ _ _ (zF5<|zlD b) c a;have f:=zV9 l d ((zre _ _ _ a).trans c) h;simp only[zH];omega}
def z4M:∀(l:List Slot) (b:Nat) (s:Slot),l[b]?=some s->s.Page=0->cz (l.set b noSlot)+1=cz l
 |[],b,s,h,_=>by simp at h
 |t::l,0,s,h,a=>by simp only[qH,qC]at h;subst h;rw[List.set_cons_zero,zyZ,zyZ];have:ieq t.Page 0=true:=(by simp[ieq,a]);rw[this];rfl
 |t::l,b+1,s,h,a=>by rw[List.set_cons_succ,zyZ,zyZ];have:=z4M l b s (by simpa using h) a;omega
def zYK:∀(l:List Mon) (a:Nat) (x y:Mon),l[a]?=some x->zH (l.set a y)+cz x.Outer=zH l+cz y.Outer
 |[],a,x,y,h=>by simp at h
 |m::l,0,x,y,h=>by simp only[qH,qC]at h;subst h;rw[List.set_cons_zero];simp only[zH];omega
 |m::l,a+1,x,y,h=>by rw[List.set_cons_succ];have:=zYK l a x y (by simpa using h);simp only[zH];omega
def z16 {l:List Slot}(h:cz l=0):zpI l 0=none:=by unfold zpI;rw[List.findIdx?_eq_none_iff];intro s a;have:=(u4.1 h) s a;simpa using this
def zNI:∀(l:List Mon) (i:Nat),zH l=0->zjm 0 l i=(-1,-1)
 |[],_,_=>rfl
 |m::l,i,h=>by simp only[zH]at h;simp only[zjm];rw[z16 (by omega)];exact zNI l (i+1) (by omega)
def z18 {l:List Slot}{k:Nat}(h:zpI l 0=some k):∃s,l[k]?=some s/\s.Page=0:=by unfold zpI at h;rw[uX]at h;obtain⟨a,b,_⟩:=h;exact⟨l[k],qB a,by simpa [ieq] using b⟩
def zH7:∀(l:List Mon) (i:Nat),zjm 0 l i=(-1,-1)\/∃a b x s,zjm 0 l i=(((i+a:Nat):Int),((b:Nat):Int))/\l[a]?=some x/\x.Outer[b]?=some s/\s.Page=0
 |[],_=>.inl rfl
 |m::l,i=>by
  simp only[zjm];cases h:zpI m.Outer 0 with
  |none=>rcases zH7 l (i+1) with c|⟨a,b,x,s,c,d,f,g⟩;{exact .inl c};{refine .inr ⟨a+1,b,x,s,?_,by simpa using d,f,g⟩;have e:i+1+a=i+(a+1):=(by omega);rw[c,e]}
  |some k=>obtain⟨s,c,d⟩:=z18 h;exact .inr ⟨0,k,m,s,rfl,rfl,c,d⟩
def Fit (h:Host):Prop:=Shape h/\0<h.Memory.length/\zH h.Mons<=1
def zHW {h:Host}(c:0<h.Memory.length)(b:ilt (zbR h 0).1 0=true):inb 0 (ln<|zcx h)=true:=by unfold zcx;obtain⟨n,a⟩:∃n,h.Memory.length=n+1:=⟨h.Memory.length-1,by omega⟩;rw[a];simp only[zyc];rw[show ilt (zbR h ((0:Nat):Int)).1 0=true from b];exact qI (by simp only[cT,ln,qV];omega)
def z2e {h:Host}(b:0<h.Memory.length)(a:ieq (ln<|zcx h) 0=true):ilt (zbR h 0).1 0=false:=by cases c:ilt (zbR h 0).1 0;{rfl};{have d:=qD (zHW b c);have e:ln (zcx h)=0:=(by simpa [ieq] using a);omega}
def zdw (h:Host):Host:=bif ieq (ln<|zcx h) 0 then zef h (zbR h 0).1 (zbR h 0).2 else h
structure Room (h r:Host):Prop where
 shape:Shape r
 free:inb 0 (ln (zcx r))=true
 len:r.Mons.length=h.Mons.length
 outer:∀m,(ix r.Mons m mZ).Outer.length=8\/True
def z5O {h:Host}(i:Fit h)(f:ieq (ln<|zcx h) 0=true):∃(a b:Nat) (x:Mon) (s:Slot),zbR h 0=((a:Int),(b:Int))/\h.Mons[a]?=some x/\x.Outer[b]?=some s/\s.Page=0:=by have d:=z2e i.2.1 f;have e:zbR h 0=zjm 0 h.Mons 0:=rfl;rcases zH7 h.Mons 0 with c|⟨a,b,x,s,c,g⟩;{rw [e,c]at d;cases d};{exact⟨a,b,x,s,by rw[e,c,jX],g⟩}
def zF1 {h:Host}(d:Fit h)(e:ieq (ln<|zcx h) 0=true):hasB (zbR h 0).1 (ln h.Mons)=true/\hasB (zbR h 0).2 8=true:=by obtain⟨a,b,x,s,f,c,g,j⟩:=z5O d e;rw[f];have k:=(qA.1 c).1;have l:=(qA.1 g).1;have i:=d.1.2 x (qK c);refine⟨qI (by simp only[ln];omega),qI ?_⟩;have:=i.1;show 0<=(b:Int)/\(b:Int)<8;omega
def room {h:Host}(d:Fit h):Room h (zdw h):=by unfold zdw;cases g:ieq (ln<|zcx h) 0;{refine⟨d.1,qI ?_,rfl,λ_=>.inr trivial⟩;have:ln (zcx h)≠0:=(by simpa [ieq] using g);show 0<=(0:Int)/\(0:Int)<ln (zcx h);simp only[ln] at *;omega};{obtain⟨n,u⟩:=zF1 d g;obtain⟨a,b,x,s,r,i,k,t⟩:=z5O d g;simp only[cT];rw[r]at n u ⊢;have m:=(qA.1 i).1;have B:=(qA.1 k).1;have j:ix h.Mons (a:Int) mZ=x:=(by rw[zbk m];exact(qA.1 i).2);have c:=(zhj (zfE h (a:Int) (b:Int)) (a:Int) (b:Int) noSlot).1;have q:ix (zfE h (a:Int) (b:Int)).Mons (a:Int) mZ={x with Out:=up x.Out (b:Int) (zcN h.Memory (ix x.Outer (b:Int) sZ).Page)}:=(by unfold zfE;rw[zez m,j]);obtain⟨y,l,v⟩:∃y,(zef h (a:Int) (b:Int)).Mons=h.Mons.set a y/\y.Outer=x.Outer.set b noSlot:=(by unfold zef;rw[c,q];unfold zfE;rw[zxQ];exact⟨_,by simp[up];rfl,by simp[up]⟩);have w:zH (zef h (a:Int) (b:Int)).Mons=0:=(by have p:=zYK h.Mons a x y i;have z:=z4M x.Outer b s k t;have A:=d.2.2;rw[l];rw[v] at p;omega);have f:(zef h (a:Int) (b:Int)).Memory=h.Memory:=(zhj (zfE h (a:Int) (b:Int)) (a:Int) (b:Int) noSlot).2;refine⟨zN4 d.1 n,zHW (by rw[f];exact d.2.1) ?_,by rw[l];simp,λ_=>.inr trivial⟩;have e:zbR (zef h (a:Int) (b:Int)) 0=zjm 0 (zef h (a:Int) (b:Int)).Mons 0:=rfl;rw[e,zNI _ _ w];rfl}
def zX1 {m:List LI}{p:Int}{c:LI}(h:SmM m)(a:c.length<=1048576):SmM (zjQ m p c):=by unfold zjQ;cases hasB p (ln m);{exact h};{cases zcI c;{exact h};{exact zOe h a}}
def landing (r:Host)(m p to:Int):Host:={r with Memory:=zjQ r.Memory to (ix (ix r.Mons m mZ).Out p []),Mons:=up r.Mons m {ix r.Mons m mZ with Out:=up (ix r.Mons m mZ).Out p []}}
def zfM (r:Host)(m p to:Int):Host:=zcC (landing r m p to) m p ⟨to,3⟩
def fetched (h:Host)(m p:Int):Host:=zfM (zdw h) m p (ix (zcx<|zdw h) 0 0)
def zX3 {r:Host}{m p:Int}(e:Shape r)(c:hasB m (ln r.Mons)=true)(d:hasB p 8=true):(ix (ix r.Mons m mZ).Out p []).length<=1048576:=by obtain⟨a,b⟩:=zcL e c;exact a.2.1.2 _ (zbK (zd6 b.2.1 d) _)
def zt5 {r:Host}{m p to:Int}(a:Shape r)(d:hasB m (ln r.Mons)=true)(e:hasB p 8=true):Shape (landing r m p to):=by obtain⟨b,c⟩:=zcL a d;exact zSX (h:={r with Mons:=up r.Mons m {ix r.Mons m mZ with Out:=up (ix r.Mons m mZ).Out p []}}) (zjN (x:={ix r.Mons m mZ with Out:=up (ix r.Mons m mZ).Out p []}) a ⟨b.1,zOe b.2.1 (by simp),b.2.2⟩ ⟨c.1,by simpa using c.2.1,c.2.2⟩) (zX1 a.1.1<|zX3 a d e)
def zUu {r:Host}{m p d:Int}(c:Shape r)(a:hasB m (ln r.Mons)=true)(b:hasB p 8=true):Shape (zfM r m p d):=zt6 (zfk a) (zt5 c a b)
def zrJ {h:Host}(a:Fit h){m:Int}(b:hasB m (ln h.Mons)=true):hasB m (ln (zdw h).Mons)=true:=by rw[ln,(room a).len];exact b
def zlu {h:Host}{m p:Int}(a:Fit h)(b:hasB m (ln h.Mons)=true)(c:hasB p 8=true):Shape (fetched h m p)/\hasB m (ln (fetched h m p).Mons)=true :=
 ⟨zUu (room a).shape (zrJ a b) c,zHX<|zfk<|zrJ a b⟩
@[simp] abbrev zmE (h:Host)(m p:Int):Bool:=pc (Fit h/\hasB m (ln h.Mons)=true/\hasB p 8=true)
@[simp] abbrev zny (h:Host)(m p:Int):Host:=fetched h m p
def zyi:LW
 |[.agg [.s (.sl .int) b,.s .mon c,.s .entry d,.s .entry e],.one<|.i .i64 f,.one<|.i .i64 g]=>some (zmE (⟨b,c,d,e⟩:Host) f g,[aH<|zny (⟨b,c,d,e⟩:Host) f g])
 |_=>none
def zDI (N:Nat)(a:Host)(c b:Int):OA:=
 let h:=ix (zc5 a) 0 0;let f:=ix a.Mons c zi;let d:=zo1 a (zdS a 0)<|zeM a 0;let g:=ix (zc5 d) 0 0;let e:=ix d.Mons c zi; (oN (zgp a)<|cond (ieq (ln<|zc5 a) 0) (oN (zgm a 0)<|oN (zk8 a (zdS a 0)<|zeM a 0)<|oN (zgp d)<|oN (inb 0<|ln<|zc5 d)<|oN (inb c<|ln d.Mons)<|oN (inb b<|ln e.Out)<|oN (zgq d.Memory g<|ix e.Out b [])<|oN (inb c<|ln d.Mons)<|oN (inb b<|ln e.Out)<|share (up d.Mons c ({e with Out:=(up e.Out b [])}:Mon)) (λi=>let j:=({d with Memory:=(zfi d.Memory g<|ix e.Out b []),Mons:=i}:Host); (oN (zgb j c b (⟨g,3⟩:Slot))<|some [aH<|zie j c b (⟨g,3⟩:Slot)])))<|oN (zgp a)<|oN (inb 0<|ln<|zc5 a)<|oN (inb c<|ln a.Mons)<|oN (inb b<|ln f.Out)<|oN (zgq a.Memory h<|ix f.Out b [])<|oN (inb c<|ln a.Mons)<|oN (inb b<|ln f.Out)<|share (up a.Mons c ({f with Out:=(up f.Out b [])}:Mon)) (λi=>let k:=({a with Memory:=(zfi a.Memory h<|ix f.Out b []),Mons:=i}:Host); (oN (zgb k c b (⟨h,3⟩:Slot))<|some [aH<|zie k c b (⟨h,3⟩:Slot)])))
def z2I (N:Nat)(a:Host)(b c:Int):zFP (cQ zsc zpX z2Q z3I) (zq []) N 12 227 [true,true,true,true,false,false] 1 1 [[0],[1],[2],[4],[7]] .mon [aH a,aI b,aI c]=zDI N a b c:=by kernel_rfl
def zZA (c:Host)(b d:Int)(z:zbL big [aH c,aI b,aI d])(u:zmE c b d=true):∃N,zDI N c b d=some [aH<|zny c b d]:=by
 obtain⟨h,v,i⟩:=zO.1 u;have e:∀r,Shape r->inb 0 (ln<|zcx r)=true->hasB b (ln r.Mons)=true->(cond (zgp r) (cond (inb 0<|ln<|zc5 r) (cond (inb b<|ln r.Mons) (cond (inb d<|ln (ix r.Mons b zi).Out) (cond (zgq r.Memory (ix (zc5 r) 0 0)<|ix (ix r.Mons b zi).Out d []) (cond (inb b<|ln r.Mons) (cond (inb d<|ln (ix r.Mons b zi).Out) (share (up r.Mons b ({ (ix r.Mons b zi) with Out:=(up (ix r.Mons b zi).Out d [])}:Mon)) λs=>cond (zgb ({r with Memory:=(zfi r.Memory (ix (zc5 r) 0 0)<|ix (ix r.Mons b zi).Out d []),Mons:=s}:Host) b d (⟨ix (zc5 r) 0 0,3⟩:Slot)) (some [AV.agg<|zbn<|zie ({r with Memory:=(zfi r.Memory (ix (zc5 r) 0 0)<|ix (ix r.Mons b zi).Out d []),Mons:=s}:Host) b d (⟨ix (zc5 r) 0 0,3⟩:Slot)]) none) none) none) none) none) none) none) none)=some [AV.agg<|zbn<|zfM r b d<|ix (zcx r) 0 0]:=(by intro r j f a;obtain⟨y,l⟩:=zcL j a;have t:=zt5 (to:=ix (zcx r) 0 0) j a i;obtain⟨k,rfl,q⟩:=zeo (n:=r.Mons.length) a;refine must (zbq j.1.1.1) (must f<|must (zB a)<|must (zB<|zd6 l.2.1 i)<|must (zbq ⟨j.1.1,zX3 j a i⟩)<|must (zB a)<|must (zB<|zd6 l.2.1 i)<|shr (must (zbq ⟨(zT _).2 t.1,zfk a,?_,?_⟩) rfl));{simp only [zez q];exact zd6 l.1 i};{simp only [zez q];exact kX l.2.2.2});have g:=room h;have a:=zrJ h v;refine⟨0,?_⟩;unfold zDI zny fetched oN;conv=>zeta
 refine must (zbq h.1.1.1.1) ?_;cases p:ieq (ln<|zc5 c) 0;{have m:zdw c=c:=(by unfold zdw;rw[show ieq (ln<|zcx c) 0=false from p];rfl);rw[m]at g a ⊢;exact e c g.shape g.free a};{obtain⟨w,x⟩:=zF1 h p;have m:zdw c=zef c (zbR c 0).1 (zbR c 0).2:=(by unfold zdw;rw[show ieq (ln<|zcx c) 0=true from p];rfl);rw[m]at g a ⊢;exact must rfl (must rfl (must (zbq ⟨h.1,w,x⟩)<|e _ g.shape g.free a))}
def zTA:zeU Tryz.prog 227 [true,true,true,true,false,false] (some (1,1,[[0],[1],[2],[4],[7]])) zyi:=by refine zm2 (kt:=.mon) (zhv ziv zA zQZ zRb) (zjT (by kernel_rfl)) (by kernel_rfl) ?_;intro a g f e h;have c:=zjZ e;unfold zyi at h;split at h;{obtain⟨d,rfl⟩:=zeF h;obtain⟨N,b⟩:=zZA _ _ _ (by exact c) d;exact⟨⟨_,rfl⟩,rfl,_,N,12,(z2I N _ _ _ ).trans b⟩};{cases h}
@[simp] abbrev ztM (h:Host):Bool:=pc (Shape h/\hasB (zbR h 0).1 (ln h.Mons)=true/\hasB (zbR h 0).2 8=true)
@[simp] abbrev ztN (h:Host):Host:=zef h (zbR h 0).1 (zbR h 0).2
def zoS:LC->LA->Option (Bool×LC×LA)
 |[.s (.sl .int) b,.s .mon c,.s .entry d,.s .entry e],[]=>some (ztM (⟨b,c,d,e⟩:Host),zbn<|ztN (⟨b,c,d,e⟩:Host),[])
 |_,_=>none
def ztD (N:Nat)(c:Host)  : OA :=
 (oN (zgm c 0)<|oN (zk8 c (zdS c 0)<|zeM c 0)<|some [aH<|zo1 c (zdS c 0)<|zeM c 0])
def zQU (N:Nat)(c:Host)  : zpG (cQ zsc zpX z2Q z3I) (zq []) N 12 296 [true,true,true,true] (zbn c) []=ztD N c:=by kernel_rfl
def zNj (c:Host)(d:zbL big (.agg (zbn c)::[]))(a:ztM c=true):∃N,ztD N c=some (.agg (zbn<|ztN c)::[]):=by have b:=zO.1 a;refine⟨0,?_⟩;unfold ztD oN;exact must rfl (must (zbq b) rfl)
def zGk:zbW Tryz.prog 296 [true,true,true,true] zoS:=by refine zim (zhv ziv zA zQZ zRb) (zjT (by kernel_rfl)) ?_;intro g a b j i f h;have d:=zl2 f;unfold zoS at h;split at h;{obtain⟨e,rfl,rfl⟩:=zoj h;obtain⟨N,c⟩:=zNj _ (by exact d) e;exact⟨rfl,_,N,12,(zQU N _ ).trans c⟩};{cases h}
def z8w:zc3:=[(296,[true,true,true,true],zoS)]++z2Q
def z0T:zcd z8w:=zcP zQZ (by
 intro x a;simp only[qG,qO,or_false]at a;rcases a with rfl
 .exact zGk)
def zYd:zfZ:=[(227,[true,true,true,true,false,false],some (1,1,[[0],[1],[2],[4],[7]]),zyi)]++z3I
def zF7:zeK zYd:=zrZ zRb (by
 intro x a;simp only[qG,qO,or_false]at a;rcases a with rfl
 .exact zTA)
def z1A {r:Host}{m p to:Int}(d:Shape r)(b:hasB m (ln r.Mons)=true):zA0 {landing r m p to with Mons:=up (landing r m p to).Mons m {ix (landing r m p to).Mons m mZ with Outer:=up (ix (landing r m p to).Mons m mZ).Outer p ⟨to,3⟩}} m p (ix (ix (landing r m p to).Mons m mZ).Outer p sZ)=zfM r m p to:=by obtain⟨e,c⟩:=zcL d b;obtain⟨k,rfl,a⟩:=zeo (n:=r.Mons.length) b;refine zBo (h:=landing r (k:Int) p to) (by simpa [landing] using a) ?_;unfold landing;simp only[zez a];exact c.2.2.2
def zZ6 {r:Host}{m p to:Int}(f:Shape r)(b:hasB m (ln r.Mons)=true)(e:hasB p 8=true):Shape {landing r m p to with Mons:=up (landing r m p to).Mons m {ix (landing r m p to).Mons m mZ with Outer:=up (ix (landing r m p to).Mons m mZ).Outer p ⟨to,3⟩}}:=by have a:=zt5 (to:=to) f b e;obtain⟨c,d⟩:=zcL a (zfk b);exact zjN a ⟨by simpa using c.1,c.2⟩ ⟨by simpa using d.1,d.2⟩
def zvP:LC->LA->Option (Bool×LC×LA)
 |[.s (.sl .int) b,.s .mon c,.s .entry d,.s .entry e],[.one<|.i .i64 f,.one<|.i .i64 g]=>some (zmE (⟨b,c,d,e⟩:Host) f g,zbn<|zny (⟨b,c,d,e⟩:Host) f g,[])
 |_,_=>none
def zDd (N:Nat)(c:Host)(b a:Int):OA:=
 let m:=ix (zc5 c) 0 0;let d:=ztN c;let l:=ix (zc5 d) 0 0;let f:=ix c.Mons b zi;let e:=ix d.Mons b zi; (oN (zgp c)<|cond (ieq (ln<|zc5 c) 0) (oN (ztM c)<|oN (inb b<|ln d.Mons)<|oN (zgp d)<|oN (inb 0<|ln<|zc5 d)<|oN (inb a<|ln e.Out)<|oN (zgq d.Memory l<|ix e.Out a [])<|oN (inb a<|ln e.Out)<|share (up d.Mons b ({e with Out:=(up e.Out a [])}:Mon)) (λg=>let i:=ix g b zi;let q:=ix i.Outer a zX; (oN (inb a<|ln i.Outer)<|oN (inb a<|ln i.Outer)<|share (up g b ({i with Outer:=(up i.Outer a (⟨l,3⟩:Slot))}:Mon)) (λk=>let n:=({d with Memory:=(zfi d.Memory l<|ix e.Out a []),Mons:=k}:Host); (oN (zfd n b a q)<|some [aH<|zfe n b a q])))))<|oN (inb b<|ln c.Mons)<|oN (zgp c)<|oN (inb 0<|ln<|zc5 c)<|oN (inb a<|ln f.Out)<|oN (zgq c.Memory m<|ix f.Out a [])<|oN (inb a<|ln f.Out)<|share (up c.Mons b ({f with Out:=(up f.Out a [])}:Mon)) (λg=>let j:=ix g b zi;let h:=ix j.Outer a zX; (oN (inb a<|ln j.Outer)<|oN (inb a<|ln j.Outer)<|share (up g b ({j with Outer:=(up j.Outer a (⟨m,3⟩:Slot))}:Mon)) (λk=>let p:=({c with Memory:=(zfi c.Memory m<|ix f.Out a []),Mons:=k}:Host); (oN (zfd p b a h)<|some [aH<|zfe p b a h])))))
def z2H (N:Nat)(c:Host)(a b:Int):zpG (cQ zsc zpX z8w zYd) (zq []) N 12 225 [true,true,true,true] (zbn c) [aI a,aI b]=zDd N c a b:=by kernel_rfl
def zZm (c:Host)(b d:Int)(F:zbL big (.agg (zbn c)::[aI b,aI d]))(w:zmE c b d=true):∃N,zDd N c b d=some (.agg (zbn<|zny c b d)::[]):=by
 obtain⟨j,B,l⟩:=zO.1 w;have e:∀r,Shape r->inb 0 (ln<|zcx r)=true->hasB b (ln r.Mons)=true->(cond (inb b<|ln r.Mons) (cond (zgp r) (cond (inb 0<|ln<|zc5 r) (cond (inb d<|ln (ix r.Mons b zi).Out) (cond (zgq r.Memory (ix (zc5 r) 0 0)<|ix (ix r.Mons b zi).Out d []) (cond (inb d<|ln (ix r.Mons b zi).Out) (share (up r.Mons b ({ (ix r.Mons b zi) with Out:=(up (ix r.Mons b zi).Out d [])}:Mon)) λg=>cond (inb d<|ln (ix g b zi).Outer) (cond (inb d<|ln (ix g b zi).Outer) (share (up g b ({ (ix g b zi) with Outer:=(up (ix g b zi).Outer d (⟨ix (zc5 r) 0 0,3⟩:Slot))}:Mon)) λu=>cond (zfd ({r with Memory:=(zfi r.Memory (ix (zc5 r) 0 0)<|ix (ix r.Mons b zi).Out d []),Mons:=u}:Host) b d<|ix (ix g b zi).Outer d zX) (some [AV.agg<|zbn<|zfe ({r with Memory:=(zfi r.Memory (ix (zc5 r) 0 0)<|ix (ix r.Mons b zi).Out d []),Mons:=u}:Host) b d<|ix (ix g b zi).Outer d zX]) none) none) none) none) none) none) none) none) none)=some [AV.agg<|zbn<|zfM r b d<|ix (zcx r) 0 0]:=(by intro r i f a;obtain⟨E,q⟩:=zcL i a;have v:=zZ6 (to:=ix (zcx r) 0 0) i a l;have hE:=z1A (p:=d) (to:=ix (zcx r) 0 0) i a;obtain⟨k,rfl,A⟩:=zeo (n:=r.Mons.length) a;have z:∀(x y:Mon),hasB (k:Int) (ln<|up (up r.Mons (k:Int) x) (k:Int) y)=true:=λx y=>(by simpa [ln] using a);have t:inb d (ln (ix (up r.Mons (k:Int) {ix r.Mons (k:Int) mZ with Out:=up (ix r.Mons (k:Int) mZ).Out d []}) (k:Int) mZ).Outer)=true:=(by rw[zez A];exact zB (zd6 q.1 l));refine must (zB a) (must (zbq i.1.1.1)<|must f<|must (zB<|zd6 q.2.1 l)<|must (zbq ⟨i.1.1,zX3 i a l⟩)<|must (zB<|zd6 q.2.1 l)<|shr<|must t<|must t<|shr<|must (zbq ⟨v,z _ _⟩) ?_);exact congrArg (λx=>some [AV.agg<|zbn x]) hE);have h:=room j;have a:=zrJ j B;refine⟨0,?_⟩;unfold zDd zny fetched oN;conv=>zeta
 refine must (zbq j.1.1.1.1) ?_;cases s:ieq (ln<|zc5 c) 0;{have m:zdw c=c:=(by unfold zdw;rw[show ieq (ln<|zcx c) 0=false from s];rfl);rw[m]at h a ⊢;exact e c h.shape h.free a};{obtain⟨C,D⟩:=zF1 j s;have m:zdw c=zef c (zbR c 0).1 (zbR c 0).2:=(by unfold zdw;rw[show ieq (ln<|zcx c) 0=true from s];rfl);rw[m]at h a ⊢;exact must rfl (must (zbq ⟨j.1,C,D⟩)<|e _ h.shape h.free a)}
def zTi:zbW Tryz.prog 225 [true,true,true,true] zvP:=by refine zim (zhv ziv zA z0T zF7) (zjT (by kernel_rfl)) ?_;intro g a b j i f h;have d:=zl2 f;unfold zvP at h;split at h;{obtain⟨e,rfl,rfl⟩:=zoj h;obtain⟨N,c⟩:=zZm _ _ _ (by exact d) e;exact⟨rfl,_,N,12,(z2H N _ _ _ ).trans c⟩};{cases h}
def z2R:zc3:=[(225,[true,true,true,true],zvP)]++z8w
def zQ0:zcd z2R:=zcP z0T (by
 intro x a;simp only[qG,qO,or_false]at a;rcases a with rfl
 .exact zTi)
def zbN (h:Host)(m p:Int):Host:={h with Mons:=up h.Mons m {ix h.Mons m mZ with Dirty:=up (ix h.Mons m mZ).Dirty p true}}
def opened (h:Host)(m p:Int):Host:=bif ieq (wand .i64 (ix (ix h.Mons m mZ).Outer p sZ).Rights 2) 0 then zcC h m p ⟨(ix (ix h.Mons m mZ).Outer p sZ).Page,3⟩ else h
def zkS (h:Host)(m p n:Int):Host:=bif ieq (wand .i64 n 2) 0 then h else opened (zbN h m p) m p
def mended (h:Host)(m p n:Int):Host:=bif ieq (ix (ix h.Mons m mZ).Outer p sZ).Page (-1) then zkS (fetched h m p) m p n else zkS h m p n
def zbbL {r:Int}(a:0<=r)(b:r<=3):enough r 2 = !ieq (wand .i64 r 2) 0:=by have:r=0\/r=1\/r=2\/r=3:=(by omega);rcases this with rfl|rfl|rfl|rfl<;>rfl
structure SlotFit (s:Slot):Prop where
 no:zc1 s noSlot=ieq s.Page (-1)
 lo:0<=s.Rights
 hi:s.Rights<=3
def z3A {s:Slot}{n:Int}(h:zen s n=true):SlotFit s:=by refine⟨zSZ h,?_,?_⟩<;>unfold zen at h<;>cases a:zc1 s noSlot;{rw [a]at h;simp only[cF,zdu]at h;have:=(zfL.1 h.2.2).1;omega};{unfold zc1 at a;rw[qE]at a;have:s.Rights=0:=qD a.2;omega};{rw [a]at h;simp only[cF,zdu]at h;have:=(zfL.1 h.2.2).2;omega};{unfold zc1 at a;rw[qE]at a;have:s.Rights=0:=qD a.2;omega}
def zoF {h:Host}{m p:Int}(c:Shape h)(d:hasB m (ln h.Mons)=true):Shape (zbN h m p):=by obtain⟨a,b⟩:=zcL c d;exact zjN c ⟨a.1,a.2.1,by simpa using a.2.2.1,a.2.2.2⟩ ⟨b.1,b.2.1,by simpa using b.2.2.1,b.2.2.2⟩
def zXV {h:Host}{m p:Int}(b:Shape h)(a:hasB m (ln h.Mons)=true):Shape (opened h m p)/\hasB m (ln (opened h m p).Mons)=true:=by unfold opened;cases ieq (wand .i64 (ix (ix h.Mons m mZ).Outer p sZ).Rights 2) 0;{exact⟨b,a⟩};{exact⟨zt6 a b,zHX a⟩}
def zIv {h:Host}{m p n:Int}(b:Shape h)(a:hasB m (ln h.Mons)=true):Shape (zkS h m p n)/\hasB m (ln (zkS h m p n).Mons)=true:=by unfold zkS;cases ieq (wand .i64 n 2) 0;{exact zXV (zoF b a) (zfk a)};{exact⟨b,a⟩}
def zwl {h:Host}{m p n:Int}(a:Fit h)(b:hasB m (ln h.Mons)=true)(e:hasB p 8=true):Shape (mended h m p n)/\hasB m (ln (mended h m p n).Mons)=true:=by unfold mended;cases ieq (ix (ix h.Mons m mZ).Outer p sZ).Page (-1);{exact zIv a.1 b};{obtain⟨c,d⟩:=zlu a b e;exact zIv c d}
def zVN {h:Host}{m p:Int}(c:Fit h)(g:hasB m (ln h.Mons)=true)(j:hasB p 8=true):(ix (ix (fetched h m p).Mons m mZ).Outer p sZ).Rights=3:=by have f:=room c;have a:=zrJ c g;obtain⟨r,e⟩:=zcL f.shape a;obtain⟨k,rfl,d⟩:=zeo (n:=(zdw h).Mons.length) a;obtain⟨q,rfl,l⟩:=zeo (n:=8) j;unfold fetched zfM;rw[(zhj _ _ _ _).1];have b:k<(landing (zdw h) (k:Int) (q:Int)<|ix (zcx<|zdw h) 0 0).Mons.length:=(by simpa [landing] using d);rw[zez b];have i:q<(ix (landing (zdw h) (k:Int) (q:Int)<|ix (zcx<|zdw h) 0 0).Mons (k:Int) mZ).Outer.length:=(by unfold landing;rw[zez d];show q<(ix (zdw h).Mons (k:Int) mZ).Outer.length;rw[e.1];exact l);show (ix (up (ix (landing (zdw h) (k:Int) (q:Int)<|ix (zcx<|zdw h) 0 0).Mons (k:Int) mZ).Outer (q:Int) ⟨_,3⟩) (q:Int) sZ).Rights=3;rw[zez i]
def z3O (h:Host)(m p n:Int):Prop:=Fit h/\hasB m (ln h.Mons)=true/\hasB p 8=true/\(n=1\/n=2)/\SlotFit (ix (ix h.Mons m mZ).Outer p sZ)
@[simp] abbrev zid (h:Host)(m p n:Int):Bool:=pc (z3O h m p n)
@[simp] abbrev zhs (h:Host)(m p n:Int):Host:=mended h m p n
def ztX:LW
 |[.agg [.s (.sl .int) b,.s .mon c,.s .entry d,.s .entry e],.one<|.i .i64 f,.one<|.i .i64 g,.one<|.i .i64 h]=>some (zid (⟨b,c,d,e⟩:Host) f g h,[aH<|zhs (⟨b,c,d,e⟩:Host) f g h])
 |_=>none
def zxZ (N:Nat)(c:Host)(a b l:Int):OA:=
 let h:=zny c a b;let k:=ix h.Mons a zi;let e:=ix c.Mons a zi;let p:=ix e.Outer b zX; (oN (inb a<|ln c.Mons)<|oN (inb b<|ln e.Outer)<|oN zbI<|cond (cond (ieq p.Page zbc.Page) (ieq p.Rights zbc.Rights) false) (oN (zmE c a b)<|cond (ieq (wand .i64 l 2) 0) (some [aH h])<|oN (inb a<|ln h.Mons)<|oN (inb b<|ln k.Dirty)<|share (up h.Mons a ({k with Dirty:=(up k.Dirty b true)}:Mon)) (λd=>let q:=(ix d a zi).Outer;let i:=({h with Mons:=d}:Host);let m:=ix q b zX;let r:=({m with Rights:=3}:Slot); (oN (inb a<|ln d)<|oN (inb b<|ln q)<|cond (ieq (wand .i64 m.Rights 2) 0) (oN (zgb i a b r)<|some [aH<|zie i a b r])<|some [aH i])))<|cond (ieq (wand .i64 l 2) 0) (some [aH c])<|oN (inb a<|ln c.Mons)<|oN (inb b<|ln e.Dirty)<|share (up c.Mons a ({e with Dirty:=(up e.Dirty b true)}:Mon)) (λd=>let f:=(ix d a zi).Outer;let j:=({c with Mons:=d}:Host);let n:=ix f b zX;let g:=({n with Rights:=3}:Slot); (oN (inb a<|ln d)<|oN (inb b<|ln f)<|cond (ieq (wand .i64 n.Rights 2) 0) (oN (zgb j a b g)<|some [aH<|zie j a b g])<|some [aH j])))
def zXa (N:Nat)(a:Host)(b c d:Int):zFP (cQ zsc zpX z2R zYd) (zq []) N 12 125 [true,true,true,true,false,false,false] 1 1 [[0],[1],[2],[4],[7]] .mon [aH a,aI b,aI c,aI d]=zxZ N a b c d:=by kernel_rfl
def zUf (d:Host)(b a h:Int)(C:zbL big [aH d,aI b,aI a,aI h])(z:zid d b a h=true):∃N,zxZ N d b a h=some [aH<|zhs d b a h]:=by
 obtain⟨l,j,i,D,A⟩:=zO.1 z;obtain⟨B,v⟩:=zcL l.1 j;have f:∀r,Shape r->hasB b (ln r.Mons)=true->(cond (ieq (wand .i64 h 2) 0) (some [AV.agg<|zbn r])<|cond (inb b<|ln r.Mons) (cond (inb a<|ln (ix r.Mons b zi).Dirty) (share (up r.Mons b ({ (ix r.Mons b zi) with Dirty:=(up (ix r.Mons b zi).Dirty a true)}:Mon)) λg=>cond (inb b<|ln g) (cond (inb a<|ln (ix g b zi).Outer) (cond (ieq (wand .i64 (ix (ix g b zi).Outer a zX).Rights 2) 0) (cond (zgb ({r with Mons:=g}:Host) b a ({ (ix (ix g b zi).Outer a zX) with Rights:=3}:Slot)) (some [AV.agg<|zbn<|zie ({r with Mons:=g}:Host) b a ({ (ix (ix g b zi).Outer a zX) with Rights:=3}:Slot)]) none)<|some [AV.agg<|zbn ({r with Mons:=g}:Host)]) none) none) none) none)=some [AV.agg<|zbn<|zkS r b a h]:=(by intro r u c;obtain⟨E,m⟩:=zcL u c;have y:=zoF (p:=a) u c;unfold zkS;cases w:ieq (wand .i64 h 2) 0;{obtain⟨k,rfl,t⟩:=zeo (n:=r.Mons.length) c;have q:ix (zbN r (k:Int) a).Mons (k:Int) mZ={ix r.Mons (k:Int) mZ with Dirty:=up (ix r.Mons (k:Int) mZ).Dirty a true}:=zez t _ _;refine zda rfl (must (zB c)<|must (zB<|zd6 m.2.2.1 i)<|shr<|must (zB<|zfk c)<|must ?_ ?_);{rw [zez t];exact zB (zd6 m.1 i)};{unfold opened;show (cond (ieq (wand .i64 (ix (ix (zbN r (k:Int) a).Mons (k:Int) mZ).Outer a sZ).Rights 2) 0) _ _)=_;cases s:ieq (wand .i64 (ix (ix (zbN r (k:Int) a).Mons (k:Int) mZ).Outer a sZ).Rights 2) 0;{rfl};{refine must rfl (must (zbq ⟨(zT _).2 y.1,zfk c,?_,?_⟩) rfl);{show hasB a (ln (ix (zbN r (k:Int) a).Mons (k:Int) mZ).Outer)=true;rw[q];exact zd6 m.1 i};{show (ix (zbN r (k:Int) a).Mons (k:Int) mZ).Tables.length<=(ix (zbN r (k:Int) a).Mons (k:Int) mZ).Guests.length;rw[q];exact kX m.2.2.2}}}};{rfl});refine⟨0,?_⟩;unfold zxZ zhs mended oN;conv=>zeta
 refine must (zB j) (must (zB<|zd6 v.1 i) (must rfl ?_));have e:(cond (ieq (ix (ix d.Mons b mZ).Outer a sZ).Page zbc.Page) (ieq (ix (ix d.Mons b mZ).Outer a sZ).Rights zbc.Rights) false)=ieq (ix (ix d.Mons b mZ).Outer a sZ).Page (-1):=(by rw[<- A.no];unfold zc1 zbc;cases ieq (ix (ix d.Mons b mZ).Outer a sZ).Page noSlot.Page<;>rfl);rw[e];cases w:ieq (ix (ix d.Mons b mZ).Outer a sZ).Page (-1);{exact f d l.1 j};{obtain⟨s,x⟩:=zlu (p:=a) l j i;exact must rfl (must (zbq ⟨l,j,i⟩)<|f _ s x)}
def zMX:zeU Tryz.prog 125 [true,true,true,true,false,false,false] (some (1,1,[[0],[1],[2],[4],[7]])) ztX:=by refine zm2 (kt:=.mon) (zhv ziv zA zQ0 zF7) (zjT (by kernel_rfl)) (by kernel_rfl) ?_;intro a g f e h;have c:=zjZ e;unfold ztX at h;split at h;{obtain⟨d,rfl⟩:=zeF h;obtain⟨N,b⟩:=zUf _ _ _ _ (by exact c) d;exact⟨⟨_,rfl⟩,rfl,_,N,12,(zXa N _ _ _ _ ).trans b⟩};{cases h}
def zyf:LC->LA->Option (Bool×LC×LA)
 |[.s (.sl .int) b,.s .mon c,.s .entry d,.s .entry e],[.one<|.i .i64 f,.one<|.i .i64 g,.one<|.i .i64 h]=>some (zid (⟨b,c,d,e⟩:Host) f g h,zbn<|zhs (⟨b,c,d,e⟩:Host) f g h,[])
 |_,_=>none
def zIG (N:Nat)(c:Host)(b a k:Int):OA:=
 let e:=zny c b a;let m:=ix e.Mons b zi;let h:=ix c.Mons b zi; (oN (inb b<|ln c.Mons)<|oN (inb a<|ln h.Outer)<|cond (ieq (ix h.Outer a zX).Page<|-1) (oN (zmE c b a)<|oN (zby k 2)<|cond (nB<|zcZ k 2) (some [aH e])<|oN (inb b<|ln e.Mons)<|oN (inb a<|ln m.Dirty)<|share (up e.Mons b ({m with Dirty:=(up m.Dirty a true)}:Mon)) (λd=>let i:=ix d b zi;let f:=ix i.Outer a zX; (oN (inb a<|ln i.Outer)<|oN (zby f.Rights 2)<|cond (nB<|zcZ f.Rights 2) (oN (inb a<|ln i.Outer)<|share (up d b ({i with Outer:=(up i.Outer a ({f with Rights:=3}:Slot))}:Mon)) (λl=>let n:=({e with Mons:=l}:Host); (oN (zfd n b a f)<|some [aH<|zfe n b a f])))<|some [aH ({e with Mons:=d}:Host)])))<|oN (zby k 2)<|cond (nB<|zcZ k 2) (some [aH c])<|oN (inb b<|ln c.Mons)<|oN (inb a<|ln h.Dirty)<|share (up c.Mons b ({h with Dirty:=(up h.Dirty a true)}:Mon)) (λd=>let j:=ix d b zi;let g:=ix j.Outer a zX; (oN (inb a<|ln j.Outer)<|oN (zby g.Rights 2)<|cond (nB<|zcZ g.Rights 2) (oN (inb a<|ln j.Outer)<|share (up d b ({j with Outer:=(up j.Outer a ({g with Rights:=3}:Slot))}:Mon)) (λl=>let p:=({c with Mons:=l}:Host); (oN (zfd p b a g)<|some [aH<|zfe p b a g])))<|some [aH ({c with Mons:=d}:Host)])))
def z5G (N:Nat)(c:Host)(a b d:Int):zpG (cQ zsc zpX z2R zYd) (zq []) N 12 123 [true,true,true,true] (zbn c) [aI a,aI b,aI d]=zIG N c a b d:=by kernel_rfl
def z2A (c:Host)(b a f:Int)(R:zbL big (.agg (zbn c)::[aI b,aI a,aI f]))(M:zid c b a f=true):∃N,zIG N c b a f=some (.agg (zbn<|zhs c b a f)::[]):=by
 obtain⟨l,i,j,P,C⟩:=zO.1 M;obtain⟨Q,I⟩:=zcL l.1 i;have H:enough f 2 = !ieq (wand .i64 f 2) 0:=(by rcases P with rfl|rfl<;>rfl);have g:∀r,Shape r->hasB b (ln r.Mons)=true->enough (ix (ix r.Mons b mZ).Outer a sZ).Rights 2=(!ieq (wand .i64 (ix (ix r.Mons b mZ).Outer a sZ).Rights 2) 0)->(cond (zby f 2) (cond (cond (zcZ f 2) false true) (some [AV.agg<|zbn r])<|cond (inb b<|ln r.Mons) (cond (inb a<|ln (ix r.Mons b zi).Dirty) (share (up r.Mons b ({ (ix r.Mons b zi) with Dirty:=(up (ix r.Mons b zi).Dirty a true)}:Mon)) λe=>cond (inb a<|ln (ix e b zi).Outer) (cond (zby (ix (ix e b zi).Outer a zX).Rights 2) (cond (cond (zcZ (ix (ix e b zi).Outer a zX).Rights 2) false true) (cond (inb a<|ln (ix e b zi).Outer) (share (up e b ({ (ix e b zi) with Outer:=(up (ix e b zi).Outer a ({ (ix (ix e b zi).Outer a zX) with Rights:=3}:Slot))}:Mon)) λF=>cond (zfd ({r with Mons:=F}:Host) b a<|ix (ix e b zi).Outer a zX) (some [AV.agg<|zbn<|zfe ({r with Mons:=F}:Host) b a<|ix (ix e b zi).Outer a zX]) none) none)<|some [AV.agg<|zbn ({r with Mons:=e}:Host)]) none) none) none) none) none)=some [AV.agg<|zbn<|zkS r b a f]:=(by intro r B d q;obtain⟨S,u⟩:=zcL B d;have w:=zoF (p:=a) B d;unfold zkS;simp only[zby,zcZ,H,cT];cases J:ieq (wand .i64 f 2) 0;{obtain⟨k,rfl,A⟩:=zeo (n:=r.Mons.length) d;have m:ix (zbN r (k:Int) a).Mons (k:Int) mZ={ix r.Mons (k:Int) mZ with Dirty:=up (ix r.Mons (k:Int) mZ).Dirty a true}:=zez A _ _;have t:k<(zbN r (k:Int) a).Mons.length:=(by simpa [zbN] using A);have z:inb a (ln (ix (zbN r (k:Int) a).Mons (k:Int) mZ).Outer)=true:=(by rw[m];exact zB (zd6 u.1 j));refine zda rfl (must (zB d)<|must (zB<|zd6 u.2.2.1 j)<|shr<|must z ?_);unfold opened;show (cond (cond (enough (ix (ix (zbN r (k:Int) a).Mons (k:Int) mZ).Outer a sZ).Rights 2) false true) _ _)=_;have G:(cond (enough (ix (ix (zbN r (k:Int) a).Mons (k:Int) mZ).Outer a sZ).Rights 2) false true)=ieq (wand .i64 (ix (ix (zbN r (k:Int) a).Mons (k:Int) mZ).Outer a sZ).Rights 2) 0:=(by rw[m];show (cond (enough (ix (ix r.Mons (k:Int) mZ).Outer a sZ).Rights 2) false true)=ieq (wand .i64 (ix (ix r.Mons (k:Int) mZ).Outer a sZ).Rights 2) 0;rw[q];cases ieq (wand .i64 (ix (ix r.Mons (k:Int) mZ).Outer a sZ).Rights 2) 0<;>rfl);rw[G];cases v:ieq (wand .i64 (ix (ix (zbN r (k:Int) a).Mons (k:Int) mZ).Outer a sZ).Rights 2) 0;{rfl};{have L:Shape {zbN r (k:Int) a with Mons:=up (zbN r (k:Int) a).Mons (k:Int) {ix (zbN r (k:Int) a).Mons (k:Int) mZ with Outer:=up (ix (zbN r (k:Int) a).Mons (k:Int) mZ).Outer a ⟨(ix (ix (zbN r (k:Int) a).Mons (k:Int) mZ).Outer a sZ).Page,3⟩}}:=(by obtain⟨D,E⟩:=zcL w (zfk d);exact zjN w ⟨by simpa using D.1,D.2⟩ ⟨by simpa using E.1,E.2⟩);have O:∀(x y:Mon),hasB (k:Int) (ln<|up (up r.Mons (k:Int) x) (k:Int) y)=true:=λx y=>(by simpa [ln] using d);refine must rfl (must z<|shr<|must (zbq ⟨L,O _ _⟩) ?_);exact congrArg (λx=>some [AV.agg<|zbn x]) (zBo (h:=zbN r (k:Int) a) (p:=a) (s:=⟨(ix (ix (zbN r (k:Int) a).Mons (k:Int) mZ).Outer a sZ).Page,3⟩) t (by rw[m];exact u.2.2.2))}};{rfl});refine⟨0,?_⟩;unfold zIG zhs mended oN nB;conv=>zeta
 refine must (zB i) (must (zB<|zd6 I.1 j) ?_);cases J:ieq (ix (ix c.Mons b mZ).Outer a sZ).Page (-1);{exact g c l.1 i (zbbL C.lo C.hi)};{obtain⟨v,K⟩:=zlu (p:=a) l i j;exact must rfl (must (zbq ⟨l,i,j⟩)<|g _ v K (by rw[zVN l i j];rfl))}
def zV4:zbW Tryz.prog 123 [true,true,true,true] zyf:=by refine zim (zhv ziv zA zQ0 zF7) (zjT (by kernel_rfl)) ?_;intro g a b j i f h;have d:=zl2 f;unfold zyf at h;split at h;{obtain⟨e,rfl,rfl⟩:=zoj h;obtain⟨N,c⟩:=z2A _ _ _ _ (by exact d) e;exact⟨rfl,_,N,12,(z5G N _ _ _ _ ).trans c⟩};{cases h}
def z2S:zc3:=[(123,[true,true,true,true],zyf)]++z2R
def zcf:zcd z2S:=zcP zQ0 (by
 intro x a;simp only[qG,qO,or_false]at a;rcases a with rfl
 .exact zV4)
def z3J:zfZ:=[(125,[true,true,true,true,false,false,false],some (1,1,[[0],[1],[2],[4],[7]]),ztX)]++zYd
def zAa:zeK z3J:=zrZ zF7 (by
 intro x a;simp only[qG,qO,or_false]at a;rcases a with rfl
 .exact zMX)
def z2m {h:Host}(b:zb2 h=true):h.Memory.length=12:=by unfold zb2 at b;simp only[zdu]at b;have a:=b.1;unfold zjl at a;simp only[zdu]at a;have:ln h.Memory=12:=qD a.2;simp only[ln] at this;omega
def zh2 {h:Host}(a:zb2 h=true):∀x∈h.Mons,zeq x=true:=by unfold zb2 at a;simp only[zdu]at a;exact zAQ _ _ a.2.2.2.2
def zKd {x:Mon}(a:zeq x=true):ShM x:=by have e:=zps (zlD a);unfold zeq at a;simp only[zdu]at a;have b:ln x.Tables=ln x.Guests:=qD a.2.1;have c:ln x.Out=8:=qD a.2.2.2.1;have d:ln x.Dirty=8:=qD a.2.2.2.2.1;simp only[ln] at *;exact⟨by omega,by omega,by omega,by omega⟩
def zgj {h:Host}(b:SmH h)(a:zb2 h=true):Fit h:=by refine⟨⟨b,λx c=>zKd (zh2 a x c)⟩,by rw[z2m a];decide,?_⟩;unfold zb2 at a;simp only[zdu]at a;have:=zV9 _ _ rfl a.2.2.2.2;omega
def zuv {x:Mon}(b:zeq x=true){p:Int}(c:hasB p 8=true):SlotFit (ix x.Outer p sZ):=by have a:=zlD b;unfold zdj at a;simp only[zdu]at a;exact z3A (qM.1 a.1 _<|zbK (zd6 (zKd b).1 c) _)
def zY3 {h:Host}{m p:Int}(a:Fit h)(c:hasB m (ln h.Mons)=true):Fit (zbN h m p):=by refine⟨zoF a.1 c,a.2.1,?_⟩;obtain⟨k,rfl,b⟩:=zeo (n:=h.Mons.length) c;have:=zYK h.Mons k (ix h.Mons (k:Int) mZ) {ix h.Mons (k:Int) mZ with Dirty:=up (ix h.Mons (k:Int) mZ).Dirty p true} (by rw[zbk b];exact qB b);have d:=a.2.2;unfold zbN;simp only[up,kF];dsimp only at this;simp only[up] at this;omega
abbrev gZ:Guest:=Ty.dflt .guest
@[simp] abbrev zdo (h:Host)(m:Int):Bool:=pc (zdm h)
@[simp] abbrev zcA (h:Host)(m:Int):Mon:=bif hasB m (ln h.Mons) then ix h.Mons m mZ else mZ
@[simp] abbrev zma (h:Host)(m:Int):Bool:=hasB m (ln h.Mons)
def zyh:Run:=rF2 dH dI λb c=>(zdo b c,[aT .mon<|zcA b c,aB<|zma b c])
def zRC (N:Nat)(a:Host)(b:Int):OA:=
 let c:=ix a.Mons b zi; (oN (zby b<|ln a.Mons)<|cond (nB<|zdk b<|ln a.Mons) (some [aT .mon (⟨[],[],[],[],[],0,0,[],0⟩:Mon),aB false])<|oN (inb b<|ln a.Mons)<|oN (zlB c)<|some [aT .mon<|zmb c,aB true])
def zZh (a:Host)(b:Int)(d:zdo a b=true):∃N,zRC N a b=some [aT .mon<|zcA a b,aB<|zma a b]:=by
 have e:=(zT a).1 (zO.1 d);refine⟨0,?_⟩;unfold zRC zcA zma oN nB;conv=>zeta
 refine must rfl ?_;rw[show zdk b (ln a.Mons)=hasB b (ln a.Mons) from rfl];cases c:hasB b (ln a.Mons);{rfl};{exact zda rfl (must (zB c) (must (zbq<|e.2.1.2 _<|zbK c _) rfl))}
def zBY:vM 17 zyh:=kF2 ziv zA zcf zAa (zq []) zZh
def zbZ (h:Host)(m g:Int):Bool:=bif zb2 h then (cond (hasB m<|ln h.Mons) (hasB g<|ln (ix h.Mons m mZ).Guests) false) else false
@[simp] abbrev zcn (h:Host)(m g:Int):Bool:=pc (zdm h)
@[simp] abbrev zkw (h:Host)(m g:Int):Bool:=zbZ h m g
def zIl:Run:=rF3 dH dI dI λb c d=>(zcn b c d,[aB<|zkw b c d])
def zRY (N:Nat)(a:Host)(b c:Int):OA:=
 let d:=wsub .i64 (ln (ix a.Mons b zi).Guests) 1; (oN (zeb a)<|cond (zdZ a) (oN (zL b 0<|wsub .i64 (ln a.Mons) 1)<|cond (zk b 0<|wsub .i64 (ln a.Mons) 1) (oN (inb b<|ln a.Mons)<|oN (zL c 0 d)<|some [aB<|zk c 0 d]) oF) oF)
def zZC (a:Host)(b c:Int)(f:zcn a b c=true):∃N,zRY N a b c=some [aB<|zkw a b c]:=by
 have e:=(zT a).1 (zO.1 f);refine⟨0,?_⟩;unfold zRY zkw zbZ oN;conv=>zeta
 refine must rfl ?_;rw[show zdZ a=zb2 a from rfl];cases g:zb2 a;{rfl};{rw [show zk b 0 (wsub .i64 (ln a.Mons) 1)=hasB b (ln a.Mons) from zr3 e.2.1.1 b];refine must rfl (must rfl ?_);cases d:hasB b (ln a.Mons);{rfl};{have hg:(ix a.Mons b mZ).Guests.length<=1048576:=(e.2.1.2 _<|zbK d _).2.2.2.1.1;rw[show zk c 0 (wsub .i64 (ln (ix a.Mons b zi).Guests) 1)=hasB c (ln (ix a.Mons b mZ).Guests) from zr3 hg c];exact must rfl (must (zB d) (must rfl rfl))}}
def zTC:vM 142 zIl:=kF3 ziv zA zcf zAa (zq []) zZC
def zcO (h:Host)(m:Int):Nat->Nat->List LI
 | 0,_=>[]
 |n+1,i=>zcH h m (i:Int)::zcO h m n (i+1)
def zBb (h:Host)(m:Int):∀(n i:Nat),(zcO h m n i).length=n
 | 0,_=>rfl
 |n+1,i=>by simp[zcO,zBb h m n]
def zK (h:Host)(m:Int):Bare:=bif hasB m (ln h.Mons) then ⟨zcO h m 8 0,(ix h.Mons m mZ).Guests,(ix h.Mons m mZ).Outs,(ix h.Mons m mZ).Pending⟩ else ⟨[],[],[],0⟩
def zEb {c:Type}(h:Host)(m:Int)(K:List LI->Option c):∀(n i:Nat) (a:List LI),a.length+n<=2147483648->
 goN (λi a b=>bif few (ln<|ap a [zcH h m (i:Int)]) then b (ap a [zcH h m (i:Int)]) else none) K n i a=K (a++zcO h m n i)
 | 0,_,a,_=>by simp[goN,zcO]
 |n+1,i,a,d=>by simp only[goN,zcO];rw[zfP (by simp[ap];omega),cT,zEb h m K n (i+1) _ (by simp[ap];omega)];simp[ap]
@[simp] abbrev ziD (h:Host)(m:Int):Bare:=zK h m
def zbac:zY:=[(17,zyh),(142,zIl)]++zsc
def zVB:zS zbac:=zh zBY (zh zTC ziv)
def zp4:Run:=rF2 dH dI λb c=>(zdo b c,[aT .bare<|ziD b c])
def zK3 (N:Nat)(b:Host)(c:Int):OA:=
 (oN (zdo b c)<|cond (nB<|zma b c) (some [aT .bare (⟨[],[],[],0⟩:Bare)])<|iter (σ:=(Int×Int×Int×Int×lM×lN×lE×lE×lM×lG×LI×lM×lG×LI×Unit)) N (λh a=>let g:=a.2.2.2.2.2.2.2.2.2.2.2.2.1;let f:=a.2.2.2.2.2.2.2.2.2.2.2.2.2.1;let d:=(⟨a.2.2.2.2.1,a.2.2.2.2.2.1,a.2.2.2.2.2.2.1,a.2.2.2.2.2.2.2.1⟩:Host);let e:=ap a.2.2.2.2.2.2.2.2.2.2.2.1 [zoZ d a.1 a.2.1]; (cond (ilt a.2.1 8) (oN (zqH d a.1 a.2.1)<|oN (few<|ln e)<|h (a.1,zM .i64 a.2.1 1,a.2.2.1,a.2.2.2.1,a.2.2.2.2.1,a.2.2.2.2.2.1,a.2.2.2.2.2.2.1,a.2.2.2.2.2.2.2.1,a.2.2.2.2.2.2.2.2.1,a.2.2.2.2.2.2.2.2.2.1,a.2.2.2.2.2.2.2.2.2.2.1,e,g,f,()))<|some [aT .bare (⟨a.2.2.2.2.2.2.2.2.2.2.2.1,g,f,a.2.2.2.1⟩:Bare)])) (c,0,0,(zcA b c).Pending,b.Memory,b.Mons,b.Buffer,b.IoBuffer,[],[],[],[],(zcA b c).Guests,(zcA b c).Outs,()))
def zYk:=zq [(66,0,{n:=39,tm:=[(1,ti),(2,.lp 0 0),(4,.lp 1 0),(7,.lp 2 0),(8,ti)],lo:=[(0,[.sl 0 [],.sl 1 [],.sl 2 [],.sl 3 []]),(1,[.sl 4 [],.sl 5 [],.sl 6 [],ti]),(2,[.sl 7 [],.sl 8 [],.sl 9 [],ti])],ro:=[(0,.sl .int,false),(1,.mon,false),(2,.entry,false),(3,.entry,false),(4,.sl .int,true),(5,.guest,true),(6,.int,true),(7,.sl .int,true),(8,.guest,true),(9,.int,true)]})]
def zWv (a:Host)(b:Int)(f:zdo a b=true):∃N,zK3 N a b=some [aT .bare<|ziD a b]:=by
 have e:=zO.1 f;refine zcg λN d=>?_;unfold zK3 ziD zK oN nB;conv=>zeta
 refine must (zbq e) ?_;rw[show zma a b=hasB b (ln a.Mons) from rfl];cases g:hasB b (ln a.Mons);{rfl};{refine zda rfl ?_;refine(zvH 8 (λi (t:lM)=>(b,(i:Int),0,(zcA a b).Pending,a.Memory,a.Mons,a.Buffer,a.IoBuffer,[],[],[],t,(zcA a b).Guests,(zcA a b).Outs,())) _ (λi (c:List LI) j=>bif few (ln<|ap c [zcH a b (i:Int)]) then j (ap c [zcH a b (i:Int)]) else none) (λ(t:lM)=>some [.agg<|Ty.cells .bare (⟨t,(zcA a b).Guests,(zcA a b).Outs,(zcA a b).Pending⟩:Bare)]) (λi h t rec=>?_) (λt rec=>?_) _ ([])<|d (by decide)).trans ?_;{simp only [show ilt (i:Int) 8=true from qI (by omega),zba h (show 8<=big by decide),cT];exact must (zbq e) rfl};{simp only [show ilt ((8:Nat):Int) 8=false from qJ (by omega),cF]};rw[zEb a b _ 8 0 [] (by decide)];simp only[zcA,g,cT,jR]}
def zPl:vM 66 zp4:=kF2 zVB zA zcf zAa zYk zWv
def zZE:zcI zBw=true:=by decide
def z0m {p:Nat->Bool}:∀{n i q:Nat},znC p n i=true->i<=q->q<i+n->p q=true
 | 0,i,q,_,a,b=>by omega
 |n+1,i,q,h,a,b=>by simp only[znC,qE]at h;by_cases c:i=q;{subst c;exact h.1};{exact z0m h.2 (by omega) (by omega)}
def z5S {h:Host}{m:Int}(e:zb2 h=true)(l:hasB m (ln h.Mons)=true){p:Int}(j:hasB p 8=true):zcI (zcH h m p)=true:=by have i:=zh2 e _ (zbK l mZ);have s:=zKd i;have f:h.Memory.all zcI=true:=(by unfold zb2 at e;simp only[zdu]at e;have b:=e.1;unfold zjl at b;simp only[zdu]at b;exact b.1);unfold zcH;rw[l,j];simp only[cT];have t:zbE (ix h.Mons m mZ).Outer p=ix (ix h.Mons m mZ).Outer p sZ:=(by unfold zbE;rw[zd6 s.1 j];rfl);rw[t];have d:∀(g:List LI) (q:Int),(hasB q (ln g)=true->zcI (ix g q [])=true)->zcI (zcN g q)=true:=(by intro g q k;unfold zcN;cases b:hasB q (ln g);{exact zZE};{exact k b});cases c:ine (ix (ix h.Mons m mZ).Outer p sZ).Page (-1);{refine d _ _ (λk=>?_);obtain⟨q,rfl,u⟩:=zeo (n:=8) j;have a:fits (ix h.Mons m mZ) q=true:=(by unfold zeq at i;simp only[zdu]at i;exact z0m i.2.2.2.2.2.2.2.2.2.2 (by omega) (by omega));unfold fits zm8 at a;have r:zc1 (ix (ix h.Mons m mZ).Outer (q:Int) sZ) noSlot=true:=(by rw[(zuv (zh2 e _<|zbK l mZ) j).no];rw[zm3]at c;cases b:ieq (ix (ix h.Mons m mZ).Outer (q:Int) sZ).Page (-1);{rw [b]at c;cases c};{rfl});rw[r]at a;exact a};{exact d _ _ (λk=>qM.1 f _ (zbK k _))}
def zSL {h:Host}{m:Int}(a:zb2 h=true)(b:hasB m (ln h.Mons)=true):∀(n i:Nat),i+n<=8->(zcO h m n i).all zcI=true
 | 0,_,_=>rfl
 |n+1,i,c=>by simp only[zcO,kW,qE];exact⟨z5S a b<|qI (by omega),zSL a b n (i+1) (by omega)⟩
def zx4 {h:Host}{m:Int}(c:zb2 h=true)(b:hasB m (ln h.Mons)=true):zbY (zK h m)=true:=by have a:=zh2 c _ (zbK b mZ);unfold zeq at a;simp only[zdu]at a;unfold zK zbY zjl;rw[b];simp only[cT,a.2.2.2.2.2.2.2.2.2.1,zSL c b 8 0 (by decide),ln,zBb];simp only[ln]at a;rw[a.1,a.2.2.2.2.2.1,a.2.2.2.2.2.2.1];rfl
def zol:zY:=[(66,zp4)]++zbac
def ziw:zS zol:=zh zPl zVB
def zeW (l:List Mon):List (List Guest):=l.map λx=>x.Guests
def zAN {l:List Mon}{m:Int}{x:Mon}(b:hasB m (ln l)=true)(c:x.Guests=(ix l m mZ).Guests):zeW (up l m x)=zeW l:=by obtain⟨k,rfl,a⟩:=zeo (n:=l.length) b;unfold zeW up;rw[List.map_set,kF,c,zbk a];have:=@u1 _ (l.map λx=>x.Guests) k (by simpa using a);simpa using this
def zMc {l b:List Mon}(h:zeW b=zeW l)(m:Int):(ix b m mZ).Guests=(ix l m mZ).Guests:=by unfold zeW at h;have a:(b.map λx=>x.Guests)[m.toNat]?=(l.map λx=>x.Guests)[m.toNat]?:=(by rw[h]);rw[qP,qP]at a;unfold ix;simp only[j9];cases c:b[m.toNat]? <;> cases d:l[m.toNat]? <;> rw [c,d]at a<;>simp at a ⊢;exact a
def zAM {h:Host}{m p:Int}{s:Slot}(a:hasB m (ln h.Mons)=true):zeW (zcC h m p s).Mons=zeW h.Mons:=by rw[(zhj h m p s).1];exact zAN a rfl
def zbbS {h:Host}{m p:Int}(a:hasB m (ln h.Mons)=true):zeW (zef h m p).Mons=zeW h.Mons:=(zAM (h:=zfE h m p)<|zfk a).trans (zAN a rfl)
def zbbR {h:Host}(b:Fit h):zeW (zdw h).Mons=zeW h.Mons:=by unfold zdw;cases a:ieq (ln<|zcx h) 0;{rfl};{exact zbbS (zF1 b a).1}
def z2j {h:Host}{m p:Int}(a:Fit h)(c:hasB m (ln h.Mons)=true):zeW (fetched h m p).Mons=zeW h.Mons:=by have b:=zrJ a c;exact((zAM (h:=landing (zdw h) m p (ix (zcx<|zdw h) 0 0))<|zfk b).trans (zAN b rfl)).trans (zbbR a)
def zVX {h:Host}{m p n:Int}(b:hasB m (ln h.Mons)=true):zeW (zkS h m p n).Mons=zeW h.Mons:=by have a:zeW (zbN h m p).Mons=zeW h.Mons:=zAN b rfl;unfold zkS;cases ieq (wand .i64 n 2) 0;{unfold opened;cases ieq (wand .i64 (ix (ix (zbN h m p).Mons m mZ).Outer p sZ).Rights 2) 0;{exact a};{exact(zAM (h:=zbN h m p)<|zfk b).trans a}};{rfl}
def z5f {h:Host}{m p n:Int}(b:Fit h)(a:hasB m (ln h.Mons)=true)(c:hasB p 8=true):zeW (mended h m p n).Mons=zeW h.Mons:=by unfold mended;cases ieq (ix (ix h.Mons m mZ).Outer p sZ).Page (-1);{exact zVX a};{exact(zVX (zlu b a c).2).trans (z2j b a)}
def zbc8 {l a:List Mon}(h:zeW a=zeW l):a.length=l.length:=by have:=congrArg List.length h;simpa [zeW] using this
abbrev kZ:Kept:=Ty.dflt .kept
def zbed {x:Guest}(f:zd4 x=true){p n:Int}(d:ze6 x.Live p n=true):hasB (zco x.Live p n) 8=true:=by have g:zdj x.Live 4 8=true:=(by unfold zd4 at f;simp only[qE]at f;exact f.2.2.2.2.1);unfold zco;rw[d];simp only[cT];unfold ze6 at d;cases a:ieq (zbE x.Live p).Page (-1);{unfold zbE at a ⊢;cases e:hasB p (ln x.Live);{rw [e]at a;cases a};{rw [e]at a;simp only[cT]at a ⊢;unfold zdj at g;simp only[zdu]at g;have c:=qM.1 g.1 _ (zbK e sZ);unfold zen at c;cases b:zc1 (ix x.Live p sZ) noSlot;{rw [b]at c;simp only[cF,zdu]at c;have:=zfL.1 c.2.1;rw[show wsub .i64 8 1=7 from rfl] at this;show hasB (ix x.Live p sZ).Page 8=true;exact qI (by omega)};{unfold zc1 at b;rw[qE]at b;have:(ix x.Live p sZ).Page = -1:=qD b.1;rw[show ieq (ix x.Live p zX).Page (-1)=true from qI this]at a;cases a}}};{rw [a]at d;cases d}
def zcB (h:Host)(m g:Int):List Slot:=(ix (ix h.Mons m mZ).Guests g gZ).Live
def zcb (h:Host)(m g:Int):Kept:=ix (ix h.Mons m mZ).Tables g kZ
def zun (h:Host)(a:Bool):List Entry:=bif a then h.IoBuffer else h.Buffer
def zta (b:List Entry)(m g a:Int):Option Entry:=zAD b (zes m g) a
def zi5 (b:List Entry)(m g a c:Int):Bool:=bif (zta b m g a).isSome then enough ((zta b m g a).getD ⟨0,0,0,0⟩).Rights c else false
def ze5 (h:Host)(m g a b:Int):Bool:=bif zli (zcb h m g) a then (cond (ieq (zel (zcb h m g) a).Page<|-1) true<|!enough (zel (zcb h m g) a).Rights b) else true
def zcD (h:Host)(m g a:Int):Host:={h with Mons:=up h.Mons m {ix h.Mons m mZ with Tables:=up (ix h.Mons m mZ).Tables g (filled (zcb h m g) (zcB h m g) (ix h.Mons m mZ).Outer a)}}
def zUL (h:Host)(m g a:Int):Entry:=⟨zes m g,a,(zel (zcb h m g) a).Page,(zel (zcb h m g) a).Rights⟩
def zxk (h:Host)(m g a:Int)(b:Bool):Host:=bif b then {h with IoBuffer:=zp3 h.IoBuffer (zUL h m g a)} else {h with Buffer:=zp3 h.Buffer (zUL h m g a)}
def zff (h:Host)(m g a:Int)(b:Bool):Host×Int×Bool:=(zxk h m g a b,(zel (zcb h m g) a).Page,true)
def zg0 (h:Host)(b:List Entry)(m g a c q:Int)(d:Bool):Host×Int×Bool :=
 bif zi5 b m g a c then (h,((zta b m g a).getD ⟨0,0,0,0⟩).Host,true)
 else (cond (ze5 h m g a c) (zff (zcD (mended h m q c) m g a) m g a d)<|zff h m g a d)
def zgK (a:Int):Bool:=bif ieq a 1 then true else ieq a 2
def zb5 (h:Host)(m g page need:Int):Bool:=bif zbZ h m g then (cond (zgK need) (ze6 (zcB h m g) page need) false) else false
def lookOf (h:Host)(b:List Entry)(m g page need:Int)(io:Bool):Host×Int×Bool :=
 bif zb5 h m g page need then zg0 (cond (ieq need 2) (zbN h m<|zco (zcB h m g) page need) h) b m g page need (zco (zcB h m g) page need) io else (h,-1,false)
structure Kp (h r:Host):Prop where
 shape:Shape r
 gs:zeW r.Mons=zeW h.Mons
def Kp.has {h r:Host}(k:Kp h r){m:Int}(a:hasB m (ln h.Mons)=true):hasB m (ln r.Mons)=true:=by rw[ln,zbc8 k.gs];exact a
def z3x {h:Host}{m g c:Int}(d:Shape h)(e:hasB m (ln h.Mons)=true)(hg:hasB g (ln (ix h.Mons m mZ).Guests)=true):Shape (zcD h m g c):=by obtain⟨a,b⟩:=zcL d e;have f:hasB g (ln (ix h.Mons m mZ).Tables)=true:=(by rw[ln,b.2.2.2];exact hg);exact zjN d ⟨a.1,a.2.1,a.2.2.1,a.2.2.2.1,a.2.2.2.2.1,zz6 a.2.2.2.2.2<|z3C<|a.2.2.2.2.2.2 _<|zbK f _⟩ ⟨b.1,b.2.1,b.2.2.1,by simpa using b.2.2.2⟩
def z5o {h r:Host}{m g a:Int}{i:Bool}(k:Kp h r):Kp h (zxk r m g a i):=by obtain⟨⟨b,c,d,e⟩,f⟩:=k.shape;unfold zxk;cases i;{exact⟨⟨⟨b,c,(zvT _ d).1,e⟩,f⟩,k.gs⟩};{exact⟨⟨⟨b,c,d,(zvT _ e).1⟩,f⟩,k.gs⟩}
structure LookAt (h:Host) (m g q need:Int):Prop where
 fit:Fit h
 hm:hasB m (ln h.Mons)=true
 hg:hasB g (ln (ix h.Mons m mZ).Guests)=true
 hq:hasB q 8=true
 hn:need=1\/need=2
 hs:SlotFit (ix (ix h.Mons m mZ).Outer q sZ)
def LookAt.mend {h:Host}{m g q a:Int}(A:LookAt h m g q a):z3O h m q a:=⟨A.fit,A.hm,A.hq,A.hn,A.hs⟩
def LookAt.kp {h:Host}{m g q a:Int}(A:LookAt h m g q a):Kp h (mended h m q a):=⟨(zwl A.fit A.hm A.hq).1,z5f A.fit A.hm A.hq⟩
def LookAt.fill {h:Host}{m g q a:Int}(A:LookAt h m g q a)(b:Int):Kp h (zcD (mended h m q a) m g b):=by have k:=A.kp;have hg:hasB g (ln (ix (mended h m q a).Mons m mZ).Guests)=true:=(by rw[zMc k.gs];exact A.hg);have e:zeW (zcD (mended h m q a) m g b).Mons=zeW (mended h m q a).Mons:=zAN (k.has A.hm) rfl;exact⟨z3x k.shape (k.has A.hm) hg,e.trans k.gs⟩
def zWf {h:Host}{b:List Entry}{m g page a q:Int}{io:Bool}(A:LookAt h m g q a):Kp h (zg0 h b m g page a q io).1:=by unfold zg0;cases zi5 b m g page a;{cases ze5 h m g page a;{exact z5o ⟨A.fit.1,rfl⟩};{exact z5o (A.fill page)}};{exact⟨A.fit.1,rfl⟩}
def zdh {h:Host}{m g:Int}(a:zbZ h m g=true):zb2 h=true/\hasB m (ln h.Mons)=true/\hasB g (ln (ix h.Mons m mZ).Guests)=true:=by unfold zbZ at a;simp only[zdu]at a;exact a
def z2k {h:Host}{m g:Int}(e:zbZ h m g=true):zd4 (ix (ix h.Mons m mZ).Guests g gZ)=true:=by obtain⟨b,c,d⟩:=zdh e;have a:=zh2 b _ (zbK c mZ);unfold zeq at a;simp only[zdu]at a;exact qM.1 a.2.2.2.2.2.2.2.2.2.1 _ (zbK d _)
def zNB {n:Int}(h:zgK n=true):n=1\/n=2:=by unfold zgK at h;cases a:ieq n 1;{rw [a]at h;exact .inr (qD h)};{exact .inl (qD a)}
def zEP {h:Host}{m g page a:Int}(s:SmH h)(d:zb5 h m g page a=true) :
 LookAt h m g (zco (zcB h m g) page a) a/\LookAt (zbN h m<|zco (zcB h m g) page a) m g (zco (zcB h m g) page a) a:=by
 unfold zb5 at d;simp only[zdu]at d;obtain⟨l,p,r⟩:=d;obtain⟨i,b,j⟩:=zdh l;have f:hasB (zco (zcB h m g) page a) 8=true:=zbed (z2k l) r;have c:=zuv (zh2 i _<|zbK b mZ) f;have q:=zgj s i;refine⟨⟨q,b,j,f,zNB p,c⟩,⟨zY3 q b,zfk b,?_,f,zNB p,?_⟩⟩
 .have e:zeW (zbN h m<|zco (zcB h m g) page a).Mons=zeW h.Mons:=zAN b rfl;rw[zMc e];exact j
 .obtain⟨k,rfl,hk⟩:=zeo (n:=h.Mons.length) b;unfold zbN;rw[zez hk];exact c
def zuX {h:Host}{b:List Entry}{m g page need:Int}{io:Bool}(a:SmH h)(f:zbZ h m g=true):Kp h (lookOf h b m g page need io).1:=by have d:=zgj a (zdh f).1;unfold lookOf;cases c:zb5 h m g page need;{exact⟨d.1,rfl⟩};{obtain⟨A,B⟩:=zEP a c;simp only[cT];cases ieq need 2;{exact zWf A};{have k:=zWf (b:=b) (page:=page) (io:=io) B;have e:zeW (zbN h m<|zco (zcB h m g) page need).Mons=zeW h.Mons:=zAN A.hm rfl;exact⟨k.shape,k.gs.trans e⟩}}
def zkU (x:Host×Int×Bool):LA:=[.agg<|zbn x.1,.one<|.i .i64 x.2.1,.one<|.b x.2.2]
def zio {h:Host}{b:List Entry}{m g c a:Int}{e:Bool}(d:zb5 h m g c a=false):lookOf h b m g c a e=(h,-1,false):=by unfold lookOf;rw[d];rfl
def zpi {h:Host}{m g b a:Int}(c:zbZ h m g=false):zb5 h m g b a=false:=by unfold zb5;rw[c];rfl
def zOY {h:Host}{m g:Int}(a:zb2 h=false):zbZ h m g=false:=by unfold zbZ;rw[a];rfl
def zOZ {h:Host}{m g:Int}(a:hasB m (ln h.Mons)=false):zbZ h m g=false:=by unfold zbZ;rw[a];cases zb2 h<;>rfl
def zO0 {h:Host}{m g:Int}(a:hasB g (ln (ix h.Mons m mZ).Guests)=false):zbZ h m g=false:=by unfold zbZ;rw[a];cases zb2 h<;>cases hasB m (ln h.Mons)<;>rfl
def zO1 {h:Host}{m g:Int}(a:zb2 h=true)(b:hasB m (ln h.Mons)=true)(c:hasB g (ln (ix h.Mons m mZ).Guests)=true):zbZ h m g=true:=by unfold zbZ;rw[a,b,c];rfl
structure LookF (r:Host) (m g:Int):Prop where
 hm:hasB m (ln r.Mons)=true
 hg:hasB g (ln (ix r.Mons m mZ).Guests)=true
 ht:hasB g (ln (ix r.Mons m mZ).Tables)=true
 hk:SmK (zcb r m g)
 hb:r.Buffer.length<=1048576
 hi:r.IoBuffer.length<=1048576
def zm6 {h r:Host}{m g:Int}(k:Kp h r)(b:hasB m (ln h.Mons)=true)(hg:hasB g (ln (ix h.Mons m mZ).Guests)=true):LookF r m g:=by obtain⟨d,e⟩:=zcL k.shape (k.has b);have a:hasB g (ln (ix r.Mons m mZ).Guests)=true:=(by rw[zMc k.gs];exact hg);have c:hasB g (ln (ix r.Mons m mZ).Tables)=true:=(by rw[ln,e.2.2.2];exact a);exact⟨k.has b,a,c,d.2.2.2.2.2.2 _<|zbK c _,k.shape.1.2.2.1,k.shape.1.2.2.2⟩
@[simp] abbrev zlJ (h:Host)(b:List Entry)(m g c a:Int)(d:Bool):Bool:=pc (zdm h)
@[simp] abbrev zgc (h:Host)(b:List Entry)(m g page need:Int)(io:Bool):Host:=(lookOf h b m g page need io).1
@[simp] abbrev zlI (h:Host)(b:List Entry)(m g c a:Int)(d:Bool):Int:=(lookOf h b m g c a d).2.1
@[simp] abbrev zif (h:Host)(b:List Entry)(m g c a:Int)(d:Bool):Bool:=(lookOf h b m g c a d).2.2
def ztZ:LW
 |[.agg [.s (.sl .int) c,.s .mon d,.s .entry e,.s .entry f],.one<|.s .entry g,.one<|.i .i64 h,.one<|.i .i64 j,.one<|.i .i64 k,.one<|.i .i64 l,.one<|.b m]=>some (zlJ (⟨c,d,e,f⟩:Host) g h j k l m,[aH<|zgc (⟨c,d,e,f⟩:Host) g h j k l m,aI<|zlI (⟨c,d,e,f⟩:Host) g h j k l m,aB<|zif (⟨c,d,e,f⟩:Host) g h j k l m])
 |_=>none
abbrev zS6 (b:lM)(c:lN)(d:lE)(e:lE)(a:Int)(g:Int)(f:Int):Mon :=
 (ix (zhs (⟨b,c,d,e⟩:Host) a g f).Mons a zi)
abbrev zS7 (a:Host)(b c:Int)(d e:Int):Int :=
 (zeu (ix (ix a.Mons b zi).Guests c zu).Live d e)
def zOI (N:Nat)(a:Int)(b:lM)(c:lN)(d:lE)(e:lE):OA:=
 (some [aH (⟨b,c,d,e⟩:Host),aI a,aB true])
def zrm (N:Nat)(l:Int)(m:Bool)(n:Int)(c:Int)(d:Int)(k:lM)(e:lN)(a:lE)(b:lE)(f:lM)(g:lN)(h:lE)(i:lE):OA:=
 let q:=(⟨n,l,c,d⟩:Entry); (share (λ(j:(Int×Int×lM×lN×lE×lE×lM×lN×lE×lE×Unit))=>zOI N j.1 j.2.2.1 j.2.2.2.1 j.2.2.2.2.1 j.2.2.2.2.2.1) λp=>cond m (oN (zho b q)<|p (c,d,k,e,a,zg6 b q,f,g,h,i,()))<|oN (zho a q)<|p (c,d,k,e,zg6 a q,b,f,g,h,i,()))
def ztH (N:Nat)(d:lM)(e:lN)(f:lE)(g:lE)(b:Int)(i:Int)(h:Int)(a:Int)(c:Int)(y:(Int×Bool×Int×Int×Int×Int×Int×Int×Int×lM×lN×lE×lE×lM×lN×lE×lE×Unit)->OA)(r:Bool)(s:Int)(t:Int)(u:Int)(v:Int)(k:Int)(l:lM)(m:lN)(n:lE)(p:lE):OA:=
 let D:=(⟨d,e,f,g⟩:Host);let w:=zhs D b i h;let x:=inb b<|ln w.Mons;let j:=zS6 d e f g b i h;let C:=ix j.Tables a zdz;let A:=(ix j.Guests a zu).Live; (oN (zid D b i h)<|oN x<|oN x<|oN (inb a<|ln j.Tables)<|oN x<|oN (inb a<|ln j.Guests)<|oN x<|oN (zv6 C A j.Outer c)<|oN (inb a<|ln j.Tables)<|share (up w.Mons b ({j with Tables:=(up j.Tables a<|zv5 C A j.Outer c)}:Mon)) (λq=>let B:=(ix q b zi).Tables;let z:=ix B a zdz; (oN (inb b<|ln q)<|oN (inb a<|ln B)<|oN (zdY z c)<|y (c,r,s,t,u,v,k,(zi8 z c).Page,(zi8 z c).Rights,w.Memory,q,w.Buffer,w.IoBuffer,l,m,n,p,()))))
def zmS (N:Nat)(d:Int)(e:Int)(c:Int)(n:Int)(p:Bool)(v:Int)(q:Int)(r:Int)(s:Int)(t:Int)(f:Int)(g:lM)(b:lN)(h:lE)(i:lE)(j:lM)(k:lN)(l:lE)(m:lE):OA:=
 let z:=(ix b d zi).Tables;let x:=ix z e zdz;let w:=zi8 x c; (oN (inb d<|ln b)<|oN (inb e<|ln z)<|oN (zdY x c)<|share (λ(a:(Int×Bool×Int×Int×Int×Int×Int×Int×Int×lM×lN×lE×lE×lM×lN×lE×lE×Unit))=>zrm N a.1 a.2.1 a.2.2.1 a.2.2.2.2.2.2.2.1 a.2.2.2.2.2.2.2.2.1 a.2.2.2.2.2.2.2.2.2.1 a.2.2.2.2.2.2.2.2.2.2.1 a.2.2.2.2.2.2.2.2.2.2.2.1 a.2.2.2.2.2.2.2.2.2.2.2.2.1 a.2.2.2.2.2.2.2.2.2.2.2.2.2.1 a.2.2.2.2.2.2.2.2.2.2.2.2.2.2.1 a.2.2.2.2.2.2.2.2.2.2.2.2.2.2.2.1 a.2.2.2.2.2.2.2.2.2.2.2.2.2.2.2.2.1) (λu=>let y:=ztH N g b h i d v n e c u p q r s t f j k l m; (cond (nB<|zpm x c) y<|cond (ieq w.Page<|-1) y<|oN (zby w.Rights n)<|cond (nB<|zcZ w.Rights n) y<|u (c,p,q,r,s,t,f,w.Page,w.Rights,g,b,h,i,j,k,l,m,()))))
def ztI (N:Nat)(g:Int)(a:Host)(h e f:Int)(l:lE)(n:Bool):OA:=
 let i:=zlG g h;let k:=zS7 a g h e f;let m:=ix a.Mons g zi;let s:=(ix m.Guests h zu).Live;let d:=zgE l i e;let j:=d.Rights; (oN (inb g<|ln a.Mons)<|oN (inb h<|ln m.Guests)<|oN (zfB s e f)<|cond (nB<|zdL s e f) (some [aH a,aI<|-1,aB false])<|oN (zh9 g h)<|cond (ieq f 2) (oN (inb g<|ln a.Mons)<|oN (inb k<|ln m.Dirty)<|share (up a.Mons g ({m with Dirty:=(up m.Dirty k true)}:Mon)) λp=>oN (zhH l i e)<|share (λ(c:(Int×Int×Int×Int×Bool×Int×Int×Int×Int×Int×Int×lM×lN×lE×lE×lM×lN×lE×lE×Unit))=>zmS N c.1 c.2.1 c.2.2.1 c.2.2.2.1 c.2.2.2.2.1 c.2.2.2.2.2.1 c.2.2.2.2.2.2.1 c.2.2.2.2.2.2.2.1 c.2.2.2.2.2.2.2.2.1 c.2.2.2.2.2.2.2.2.2.1 c.2.2.2.2.2.2.2.2.2.2.1 c.2.2.2.2.2.2.2.2.2.2.2.1 c.2.2.2.2.2.2.2.2.2.2.2.2.1 c.2.2.2.2.2.2.2.2.2.2.2.2.2.1 c.2.2.2.2.2.2.2.2.2.2.2.2.2.2.1 c.2.2.2.2.2.2.2.2.2.2.2.2.2.2.2.1 c.2.2.2.2.2.2.2.2.2.2.2.2.2.2.2.2.1 c.2.2.2.2.2.2.2.2.2.2.2.2.2.2.2.2.2.1 c.2.2.2.2.2.2.2.2.2.2.2.2.2.2.2.2.2.2.1) λr=>cond (zfG l i e) (oN (zby j f)<|cond (zcZ j f) (some [aH ({a with Mons:=p}:Host),aI d.Host,aB true])<|r (g,h,e,f,n,k,i,d.Tag,d.Page,d.Host,j,a.Memory,p,a.Buffer,a.IoBuffer,[],[],[],[],()))<|r (g,h,e,f,n,k,i,d.Tag,d.Page,d.Host,j,a.Memory,p,a.Buffer,a.IoBuffer,[],[],[],[],()))<|oN (zhH l i e)<|share (λ(b:(Int×Int×Int×Int×Bool×Int×Int×Int×Int×Int×Int×lM×lN×lE×lE×lM×lN×lE×lE×Unit))=>zmS N b.1 b.2.1 b.2.2.1 b.2.2.2.1 b.2.2.2.2.1 b.2.2.2.2.2.1 b.2.2.2.2.2.2.1 b.2.2.2.2.2.2.2.1 b.2.2.2.2.2.2.2.2.1 b.2.2.2.2.2.2.2.2.2.1 b.2.2.2.2.2.2.2.2.2.2.1 b.2.2.2.2.2.2.2.2.2.2.2.1 b.2.2.2.2.2.2.2.2.2.2.2.2.1 b.2.2.2.2.2.2.2.2.2.2.2.2.2.1 b.2.2.2.2.2.2.2.2.2.2.2.2.2.2.1 b.2.2.2.2.2.2.2.2.2.2.2.2.2.2.2.1 b.2.2.2.2.2.2.2.2.2.2.2.2.2.2.2.2.1 b.2.2.2.2.2.2.2.2.2.2.2.2.2.2.2.2.2.1 b.2.2.2.2.2.2.2.2.2.2.2.2.2.2.2.2.2.2.1) λq=>cond (zfG l i e) (oN (zby j f)<|cond (zcZ j f) (some [aH a,aI d.Host,aB true])<|q (g,h,e,f,n,k,i,d.Tag,d.Page,d.Host,j,a.Memory,a.Mons,a.Buffer,a.IoBuffer,[],[],[],[],()))<|q (g,h,e,f,n,k,i,d.Tag,d.Page,d.Host,j,a.Memory,a.Mons,a.Buffer,a.IoBuffer,[],[],[],[],()))
def zr5 (N:Nat)(a:Host)(g:lE)(b c:Int)(h d:Int)(i:Bool):OA:=
 let f:=ztI N b a c h d g i;let e:=wsub .i64 (ln (ix a.Mons b zi).Guests) 1; (oN (zeb a)<|cond (nB<|zdZ a) (some [aH a,aI<|-1,aB false])<|oN (zL b 0<|wsub .i64 (ln a.Mons) 1)<|cond (nB<|zk b 0<|wsub .i64 (ln a.Mons) 1) (some [aH a,aI<|-1,aB false])<|oN (inb b<|ln a.Mons)<|oN (zL c 0 e)<|cond (nB<|zk c 0 e) (some [aH a,aI<|-1,aB false])<|cond (ine d 1) (cond (ine d 2) (some [aH a,aI<|-1,aB false]) f) f)
def zt8:=zq [(256,999999,{n:=0,tm:=[],lo:=[],ro:=[]}),(256,1007023,{n:=210,tm:=[(2,ti),(3,ti),(4,ti),(5,ti),(6,.b),(7,.lp 0 0),(14,.lp 1 0),(17,ti),(19,ti),(20,.lp 2 0)],lo:=[(0,[.sl 0 [],.sl 1 [],.sl 2 [],.sl 3 []]),(1,[.sl 4 [],.sl 5 [],.sl 6 [],.sl 7 []]),(2,[ti,ti,ti,ti])],ro:=[(0,.sl .int,true),(1,.mon,true),(2,.entry,true),(3,.entry,true),(4,.sl .int,true),(5,.mon,true),(6,.entry,true),(7,.entry,true)],kr:=1}),(256,1009011,{n:=210,tm:=[(4,ti),(6,.b),(7,.lp 0 0),(14,.lp 1 0),(19,ti),(20,.lp 2 0),(22,.lp 3 0)],lo:=[(0,[.sl 0 [],.sl 1 [],.sl 2 [],.sl 3 []]),(1,[.sl 4 [],.sl 5 [],.sl 6 [],.sl 7 []]),(2,[ti,ti,ti,ti]),(3,[ti,ti])],ro:=[(0,.sl .int,true),(1,.mon,true),(2,.entry,true),(3,.entry,true),(4,.sl .int,true),(5,.mon,true),(6,.entry,true),(7,.entry,true)],kr:=1}),(256,1005003,{n:=210,tm:=[(7,.lp 0 0),(14,.lp 1 0),(22,.lp 2 0)],lo:=[(0,[.sl 0 [],.sl 1 [],.sl 2 [],.sl 3 []]),(1,[.sl 4 [],.sl 5 [],.sl 6 [],.sl 7 []]),(2,[ti,ti])],ro:=[(0,.sl .int,true),(1,.mon,true),(2,.entry,true),(3,.entry,true),(4,.sl .int,true),(5,.mon,true),(6,.entry,true),(7,.entry,true)],kr:=1})]
def zQV (N:Nat)(a:Host)(b c:Int)(d e:Int)(f:Bool):zUM (cQ zol zpX z2S z3J) zt8 N 12 256 [true,true,true,true,false,false,false,false,false,false] [(4,2)] 1 1 [[0],[1],[2],[4],[7]] .mon [aH a,aS .entry a.Buffer,aI b,aI c,aI d,aI e,aB f]=zr5 N a a.Buffer b c d e f:=by kernel_rfl
def zQW (N:Nat)(a:Host)(b c:Int)(d e:Int)(f:Bool):zUM (cQ zol zpX z2S z3J) zt8 N 12 256 [true,true,true,true,false,false,false,false,false,false] [(4,3)] 1 1 [[0],[1],[2],[4],[7]] .mon [aH a,aS .entry a.IoBuffer,aI b,aI c,aI d,aI e,aB f]=zr5 N a a.IoBuffer b c d e f:=by kernel_rfl
def zFQ {N:Nat}{r:Host}{m g a:Int}{b:Bool}{z1 z2 z3 z4}(c:r.Buffer.length<=1048576)(d:r.IoBuffer.length<=1048576) :
 zrm N a b (zes m g) (zel (zcb r m g) a).Page (zel (zcb r m g) a).Rights r.Memory r.Mons r.Buffer r.IoBuffer z1 z2 z3 z4=some (zkU<|zff r m g a b):=by
 unfold zrm oN
 conv=>zeta
 refine shr ?_;cases b
 .exact zda rfl (must (zbq c) rfl)
 .exact must rfl (must (zbq d) rfl)
def zVO {N:Nat}{r:Host}{m g a b q:Int}{c:Bool}{R:OA}{r11}{u6 u7 u8 u9 u10 z1 z2 z3 z4}(A:LookAt r m g q b)(d:r11 (a,c,u6,u7,u8,u9,u10,(zel (zcb (zcD (mended r m q b) m g a) m g) a).Page,(zel (zcb (zcD (mended r m q b) m g a) m g) a).Rights,(zcD (mended r m q b) m g a).Memory,(zcD (mended r m q b) m g a).Mons,(zcD (mended r m q b) m g a).Buffer,(zcD (mended r m q b) m g a).IoBuffer,z1,z2,z3,z4,())=R) :
 ztH N r.Memory r.Mons r.Buffer r.IoBuffer m q b g a r11 c u6 u7 u8 u9 u10 z1 z2 z3 z4=R:=by
 have M:=zm6 A.kp A.hm A.hg;have F:=zm6 (A.fill a) A.hm A.hg;unfold ztH oN
 conv=>zeta
 exact must (zbq A.mend) (must (zB M.hm)<|must (zB M.hm)<|must (zB M.ht)<|must (zB M.hm)<|must (zB M.hg)<|must (zB M.hm)<|must (zbq M.hk)<|must (zB M.ht)<|shr<|must (zB F.hm)<|must (zB F.ht)<|must (zbq F.hk) d)
def z1a {r:Host}{m g a b:Int}(h:zli (zcb r m g) a=false):ze5 r m g a b=true:=by unfold ze5;rw[h];rfl
def z1b {r:Host}{m g a b:Int}(h:ieq (zel (zcb r m g) a).Page (-1)=true):ze5 r m g a b=true:=by unfold ze5;rw[h];cases zli (zcb r m g) a<;>rfl
def z1c {r:Host}{m g a b:Int}(h:enough (zel (zcb r m g) a).Rights b=false):ze5 r m g a b=true:=by unfold ze5;rw[h];cases zli (zcb r m g) a<;>cases ieq (zel (zcb r m g) a).Page (-1)<;>rfl
def z1d {r:Host}{m g a b:Int}(c:zli (zcb r m g) a=true)(d:ieq (zel (zcb r m g) a).Page (-1)=false)(e:enough (zel (zcb r m g) a).Rights b=true):ze5 r m g a b=false:=by unfold ze5;rw[c,d,e];rfl
def zuY {r:Host}{m g a b q:Int}{c:Bool}(h:ze5 r m g a b=true):(cond (ze5 r m g a b) (zff (zcD (mended r m q b) m g a) m g a c)<|zff r m g a c)=zff (zcD (mended r m q b) m g a) m g a c:=by rw[h];rfl
def z0K {r:Host}{m g a b q:Int}{c:Bool}(h:ze5 r m g a b=false):(cond (ze5 r m g a b) (zff (zcD (mended r m q b) m g a) m g a c)<|zff r m g a c)=zff r m g a c:=by rw[h];rfl
def zFR {N:Nat}{r:Host}{m g a b q:Int}{f:Bool}{u7 u8 u9 u10 z1 z2 z3 z4}(A:LookAt r m g q b) :
 zmS N m g a b f q (zes m g) u7 u8 u9 u10 r.Memory r.Mons r.Buffer r.IoBuffer z1 z2 z3 z4=some (zkU<|cond (ze5 r m g a b) (zff (zcD (mended r m q b) m g a) m g a f)<|zff r m g a f):=by
 have M:=zm6 ⟨A.fit.1,rfl⟩ A.hm A.hg;have F:=zm6 (A.fill a) A.hm A.hg;unfold zmS oN nB
 conv=>zeta
 refine must (zB M.hm) (must (zB M.ht)<|must (zbq M.hk)<|shr<|brN (λc=>?_) λc=>br (λd=>?_) λd=>must rfl (brN (λe=>?_) λe=>?_))
 .rw [zuY<|z1a c];exact zVO A (zFQ (r:=zcD (mended r m q b) m g a) (m:=m) (g:=g) F.hb F.hi)
 .rw [zuY<|z1b d];exact zVO A (zFQ (r:=zcD (mended r m q b) m g a) (m:=m) (g:=g) F.hb F.hi)
 .rw [zuY<|z1c e];exact zVO A (zFQ (r:=zcD (mended r m q b) m g a) (m:=m) (g:=g) F.hb F.hi)
 .rw [z0K<|z1d c d e];exact zFQ (r:=r) (m:=m) (g:=g) M.hb M.hi
def zFU {b:List Entry}{m g a c:Int}(h:(zta b m g a).isSome=false):zi5 b m g a c=false:=by unfold zi5;rw[h];rfl
def zpe {b:List Entry}{m g a c:Int}{x:Bool}(d:(zta b m g a).isSome=true)(h:enough ((zta b m g a).getD ⟨0,0,0,0⟩).Rights c=x):zi5 b m g a c=x:=by unfold zi5;rw[d,h];rfl
def zph {r:Host}{b:List Entry}{m g a c q:Int}{d:Bool}(h:zi5 b m g a c=false):zg0 r b m g a c q d=bif ze5 r m g a c then zff (zcD (mended r m q c) m g a) m g a d else zff r m g a d:=by unfold zg0;rw[h];rfl
def zFY {r:Host}{b:List Entry}{m g a c q:Int}{d:Bool}(h:zi5 b m g a c=true):zg0 r b m g a c q d=(r,((zta b m g a).getD ⟨0,0,0,0⟩).Host,true):=by unfold zg0;rw[h];rfl
def zKc {h:Host}{b:List Entry}{m g c a:Int}{d:Bool}(e:zb5 h m g c a=true):lookOf h b m g c a d=zg0 (cond (ieq a 2) (zbN h m<|zco (zcB h m g) c a) h) b m g c a (zco (zcB h m g) c a) d:=by unfold lookOf;rw[e];rfl
def z4R {N:Nat}{r:Host}{b:List Entry}{m g c a:Int}{f:Bool}(p:SmH r)(hg:zbZ r m g=true)(k:zgK a=true) :
 ztI N m r g c a b f=some (zkU (lookOf r b m g c a f)):=by
 obtain⟨q,h,l⟩:=zdh hg;unfold ztI oN nB
 conv=>zeta
 refine must (zB h) (must (zB l) (must rfl (brN (fun j=>?_) (fun j=>must rfl ?_))))
 .have:zb5 r m g c a=false:=by
   unfold zb5;rw[hg,k,show ze6 (zcB r m g) c a=false from j];rfl
  rw[zio this];rfl
 .have hl:zb5 r m g c a=true:=by
   unfold zb5;rw[hg,k,show ze6 (zcB r m g) c a=true from j];rfl
  obtain⟨A,B⟩:=zEP p hl;rw[zKc hl];have n:hasB (zco (zcB r m g) c a) (ln (ix r.Mons m mZ).Dirty)=true:=zd6 (zcL A.fit.1 h).2.2.2.1 A.hq;refine br (fun i=>?_) (fun i=>?_)
  .rw [i]
   show _=some (zkU (zg0 (zbN r m (zco (zcB r m g) c a)) b m g c a (zco (zcB r m g) c a) f))
   refine must (zB h) (must (zB n) (shr (must rfl (shr (br (fun d=>must rfl (br (fun e=>?_) (fun e=>?_))) (fun d=>?_))))))
   .rw [zFY (zpe d e)];rfl
   .rw [zph (zpe d e)];exact zFR (r:=zbN r m (zco (zcB r m g) c a)) B
   .rw [zph (zFU d)];exact zFR (r:=zbN r m (zco (zcB r m g) c a)) B
  .rw [i]
   show _=some (zkU (zg0 r b m g c a (zco (zcB r m g) c a) f))
   refine must rfl (shr (br (fun d=>must rfl (br (fun e=>?_) (fun e=>?_))) (fun d=>?_)))
   .rw [zFY (zpe d e)];rfl
   .rw [zph (zpe d e)];exact zFR A
   .rw [zph (zFU d)];exact zFR A
def zUh (a:Host)(f:List Entry)(b c:Int)(e d:Int)(g:Bool)(t:zbL big [aH a,aS .entry f,aI b,aI c,aI e,aI d,aB g])(r:zlJ a f b c e d g=true):∃N,zr5 N a f b c e d g=some [aH<|zgc a f b c e d g,aI<|zlI a f b c e d g,aB<|zif a f b c e d g]:=by
 have j:=(zT a).1 (zO.1 r);refine⟨0,?_⟩;show _=some (zkU<|lookOf a f b c e d g);unfold zr5 oN nB;conv=>zeta
 refine must rfl (brN (λk=>?_) λk=>must rfl ?_);{rw [zio<|zpi<|zOY k];rfl};rw[show zk b 0 (wsub .i64 (ln a.Mons) 1)=hasB b (ln a.Mons) from zr3 j.2.1.1 b];refine brN (λi=>?_) (λi=>must (zB i) (must rfl ?_));{rw [zio<|zpi<|zOZ i];rfl};have s:(ix a.Mons b mZ).Guests.length<=1048576:=(j.2.1.2 _<|zbK i _).2.2.2.1.1;rw[show zk c 0 (wsub .i64 (ln (ix a.Mons b zi).Guests) 1)=hasB c (ln (ix a.Mons b mZ).Guests) from zr3 s c];refine brN (λl=>?_) (λl=>?_);{rw [zio<|zpi<|zO0 l];rfl};have hg:=zO1 k i l;have p:∀{n:Int},zgK n=false->zb5 a b c e n=false:=λ{n} h=>(by unfold zb5;rw[hg,h];rfl);rw[zm3,zm3];cases m:ieq d 1;{cases q:ieq d 2;{have:zgK d=false:=(by unfold zgK;rw[m,q];rfl);rw[zio<|p this];rfl};{exact z4R j hg (by unfold zgK;rw[m,q];rfl)}};{exact z4R j hg (by unfold zgK;rw[m];rfl)}
def zMZ:zeU Tryz.prog 256 [true,true,true,true,false,false,false,false,false,false] (some (1,1,[[0],[1],[2],[4],[7]])) ztZ:=by refine zO2 (kt:=.mon) (zhv ziw zA zcf zAa) (zjT (by kernel_rfl)) ?_;intro p s x f i w v h;have t:=zjZ v;have g:p=[(4,2)]\/p=[(4,3)]:=(by rw[show zjf 256=[[(4,2)],[(4,3)]] from by kernel_rfl]at f;simpa using f);unfold ztZ at h;split at h;{rename_i a b c d r j k l m n;obtain⟨u,rfl⟩:=zeF h;obtain⟨N,q⟩:=zUh (⟨a,b,c,d⟩:Host) r j k l m n t u;refine⟨⟨_,rfl⟩,rfl,zt8,N,12,?_⟩;rcases g with rfl|rfl;{have e:=i 4 2 (by simp);simp only[zF,j8,AV.cvs] at e;cases e;exact(zQV N (⟨a,b,c,d⟩:Host) j k l m n).trans q};{have e:=i 4 3 (by simp);simp only[zF,j8,AV.cvs] at e;cases e;exact(zQW N (⟨a,b,c,d⟩:Host) j k l m n).trans q}};{cases h}
def z9b:zfZ:=[(256,[true,true,true,true,false,false,false,false,false,false],some (1,1,[[0],[1],[2],[4],[7]]),ztZ)]++z3J
def zhy:zeK z9b:=zrZ zAa (by
 intro x a;simp only[qG,qO,or_false]at a;rcases a with rfl
 .exact zMZ)
def gOf (h:Host)(m g:Int):Guest:=ix (ix h.Mons m mZ).Guests g gZ
def zgH (h:Host)(m g:Int)(x:Guest):Host:={h with Mons:=up h.Mons m {ix h.Mons m mZ with Guests:=up (ix h.Mons m mZ).Guests g x}}
def ziZ (h:Host)(m g:Int)(x:Guest)(w:Bool):Host×Int×Bool:=lookOf h h.Buffer m g (zbo<|address x) (zcc w) false
def zhL (L:Host×Int×Bool)(m g:Int)(x:Guest)(w:Bool):Host :=
 bif L.2.2 then (cond w (zgH {L.1 with Memory:=zbQ L.1.Memory L.2.1 (zdJ<|address x) x.A} m g<|zca x)<|zgH L.1 m g<|loaded x<|cellAt L.1.Memory L.2.1<|zdJ<|address x)
 else zgH L.1 m g (stopped x<|zs8 (zbo<|address x) w)
def owned (h:Host)(m:Int):Host:=bif ilt (ix h.Mons m mZ).Own 1000000000 then {h with Mons:=up h.Mons m {ix h.Mons m mZ with Own:=zM .i64 (ix h.Mons m mZ).Own 1}} else h
def ziG (h:Host)(m n:Int):Host:=bif ilt (ln (ix h.Mons m mZ).Outs) 40 then {h with Mons:=up h.Mons m {ix h.Mons m mZ with Outs:=ap (ix h.Mons m mZ).Outs [n]}} else h
def zeT (h:Host)(m:Int)(x:Guest)(w:Int):Host:=bif (cond (ine w 6) (ieq (znG (ix h.Mons m mZ).Traps x.Ctl.Traps<|zfX w) 2) false) then owned h m else h
def zhe (h:Host)(m:Int)(x:Guest)(w:Int):Host:=bif (cond (zhz x.Ctl.Traps w) (ieq w 5) false) then ziG h m (zcp x.Prog x.Pc).X else h
def zlc (h:Host)(m g:Int)(x:Guest)(w:Int):Host:=zgH (zhe (zeT h m x w) m x w) m g (zfY x x.Ctl.Traps w)
def zOh (h:Host)(m g:Int)(x:Guest)(w:Int):Host×Bool :=
 bif ieq w 0 then (h,false) else (bif ieq w 1 then (zgH h m g<|interrupted x,true) else (bif ieq w 2 then (zgH h m g<|plainly x,true) else
  (cond (cond (ieq w 3) true<|ieq w 4) (zhL (ziZ h m g x<|ieq w 4) m g x<|ieq w 4,true) (zlc h m g x w,true))))
def zbv (h:Host)(m g:Int):Host×Bool:=bif zbZ h m g then zOh h m g (gOf h m g) (zN<|gOf h m g) else (h,false)
def zeI (x:Host×Bool):LA:=[.agg<|zbn x.1,.one<|.b x.2]
def zlv {h:Host}{m g:Int}(b:SmH h)(a:hasB m (ln h.Mons)=true)(hg:hasB g (ln (ix h.Mons m mZ).Guests)=true):SmG (gOf h m g):=(b.2.1.2 _<|zbK a _).2.2.2.1.2 _ (zbK hg _)
def z3y {h:Host}{m g:Int}{x:Guest}(c:Shape h)(d:hasB m (ln h.Mons)=true)(e:SmG x):Shape (zgH h m g x):=by obtain⟨a,b⟩:=zcL c d;exact zjN c ⟨a.1,a.2.1,a.2.2.1,zF6 a.2.2.2.1 e,a.2.2.2.2⟩ ⟨b.1,b.2.1,b.2.2.1,by simpa using b.2.2.2⟩
def zbdo (o i t:Int):ieq (znG o i t) 1=zd5 i t:=by unfold znG;cases zd5 i t;{cases zd5 o t<;>rfl};{rfl}
def zbdp {o i t:Int}(h:zd5 i t=true):ieq (znG o i t) 2=false:=by unfold znG;rw[h];rfl
def zpY {h:Host}{m:Int}(b:hasB m (ln h.Mons)=true)(x:Mon):ix (up h.Mons m x) m mZ=x:=by obtain⟨k,rfl,a⟩:=zeo (n:=h.Mons.length) b;exact zez a _ _
@[simp] abbrev zb3 (h:Host)(m g:Int):Host:=(zbv h m g).1
@[simp] abbrev zbT (h:Host)(m g:Int):Bool:=(zbv h m g).2
def zUN {a:Type}{l:List a}{x:a}(h:ilt (ln l) 40=true):few (ln<|ap l [x])=true:=by have:=qD h;simp only[ln] at this;exact zfP (by simp[ap];omega)
def z1g {h:Host}{m:Int}{x:Guest}{w:Int}(a:(cond (zhz x.Ctl.Traps w) (ieq w 5) false)=false):zhe h m x w=h:=by unfold zhe;rw[a];rfl
def zS1 {h:Host}{m:Int}{x:Guest}{w:Int}(a:ilt (ln (ix h.Mons m mZ).Outs) 40=false):zhe h m x w=h:=by unfold zhe ziG;rw[a];cases (cond (zhz x.Ctl.Traps w) (ieq w 5) false)<;>rfl
def zYe {h:Host}{m:Int}{x:Guest}{w:Int}(a:zhz x.Ctl.Traps w=true)(b:ieq w 5=true)(c:ilt (ln (ix h.Mons m mZ).Outs) 40=true):zhe h m x w={h with Mons:=up h.Mons m {ix h.Mons m mZ with Outs:=ap (ix h.Mons m mZ).Outs [(zcp x.Prog x.Pc).X]}}:=by unfold zhe ziG;rw[a,b,c];rfl
def zOo {h:Host}{m:Int}{x:Guest}{w:Int}(a:zhz x.Ctl.Traps w=false):zhe h m x w=h:=z1g (by rw[a];rfl)
def zFx {h:Host}{m:Int}{x:Guest}{w:Int}(a:ieq w 5=false):zhe h m x w=h:=z1g (by rw[a];cases zhz x.Ctl.Traps w<;>rfl)
def zM5 (a:Int):(cond (ieq a a) true false)=true:=by rw[zeZ];rfl
def zjc {h:Host}{m g:Int}(a:zbZ h m g=false):zbv h m g=(h,false):=by unfold zbv;rw[a];rfl
def zjO {h:Host}{m g:Int}(a:zbZ h m g=true):zbv h m g=zOh h m g (gOf h m g) (zN<|gOf h m g):=by unfold zbv;rw[a];rfl
def znD {a b:Bool}(h:(cond a b false)=true):a=true/\b=true:=by cases a;{cases h};{exact⟨rfl,h⟩}
def zjS {a b:Bool}(c:a=true)(d:b=true):(cond a b false)=true:=by rw[c];exact d
def z1j {h:Host}{m:Int}{x:Guest}{w:Int}(b:ine w 6=true)(a:ieq (znG (ix h.Mons m mZ).Traps x.Ctl.Traps<|zfX w) 2=true)(c:ilt (ix h.Mons m mZ).Own 1000000000=true):zeT h m x w={h with Mons:=up h.Mons m {ix h.Mons m mZ with Own:=zM .i64 (ix h.Mons m mZ).Own 1}}:=by unfold zeT owned;rw[b,a,c];rfl
def z1h {h:Host}{m:Int}{x:Guest}{w:Int}(a:ieq (znG (ix h.Mons m mZ).Traps x.Ctl.Traps<|zfX w) 2=false):zeT h m x w=h:=by unfold zeT;rw[a];cases ine w 6<;>rfl
def z1i {h:Host}{m:Int}{x:Guest}{w:Int}(a:ilt (ix h.Mons m mZ).Own 1000000000=false):zeT h m x w=h:=by unfold zeT owned;rw[a];cases (cond (ine w 6) (ieq (znG (ix h.Mons m mZ).Traps x.Ctl.Traps<|zfX w) 2) false)<;>rfl
def zbcw {h:Host}{m:Int}{x:Guest}:zeT h m x 6=h:=rfl
def zo7 {h a:Host}{m g:Int}{x:Guest}{w:Int}(e:zeT h m x w=a):zlc h m g x w=zgH (zhe a m x w) m g (zfY x x.Ctl.Traps w):=by unfold zlc;rw[e]
def z9d (x:Guest):ieq (zN x) 0=true\/ieq (zN x) 1=true\/ieq (zN x) 2=true\/ieq (zN x) 3=true\/ieq (zN x) 4=true\/ieq (zN x) 5=true\/ieq (zN x) 6=true\/ieq (zN x) 7=true:=by cases a:ieq (zN x) 0;{cases b:ieq (zN x) 1;{cases c:ieq (zN x) 2;{cases d:ieq (zN x) 3;{cases e:ieq (zN x) 4;{cases f:ieq (zN x) 5;{cases g:ieq (zN x) 6;{exact .inr (.inr<|.inr<|.inr<|.inr<|.inr<|.inr<|zUY x a b c d e f g)};{exact .inr (.inr<|.inr<|.inr<|.inr<|.inr (.inl rfl))}};{exact .inr (.inr<|.inr<|.inr<|.inr (.inl rfl))}};{exact .inr (.inr<|.inr<|.inr (.inl rfl))}};{exact .inr (.inr<|.inr (.inl rfl))}};{exact .inr (.inr (.inl rfl))}};{exact .inr (.inl rfl)}};{exact .inl rfl}
abbrev zCw (x:Guest):Bool:=bif zbp x then ieq (zN x) 0 else false
def zqr:LW
 |[.agg [.s .ins c,.i .i64 d,.i .i64 e,.s .slot f,.s .slot g,.i .i64 h,.i .i64 j,.b k,.i .i64 l,.i .i64 m,.i .i64 n,.b o,.i .i64 p,.b q,.s .int r]]=>some (zCw (⟨c,d,e,f,g,⟨h,j,k⟩,l,⟨m,n,o,p⟩,q,r⟩:Guest),[.one<|.i .i64 0])
 |_=>none
def zGw:vM 143 zqr:=by refine⟨zcz.1,λw b g j a h=>?_⟩;unfold zqr at h;split at h;{obtain⟨f,rfl⟩:=zeF h;obtain⟨d,e⟩:=znD f;exact zcz.2 w _ g _ a (congr (congrArg (λc v=>some (c,[AV.one<|CV.i .i64 v])) d) (qD e))};{cases h}
def zbbt:zY:=[(143,zqr)]++zol
def z1M:zS zbbt:=zh zGw ziw
@[simp] abbrev zxz (h:Host)(m g:Int):Bool:=bif zcn h m g then ieq (zN<|gOf h m g) 0 else false
def zGV:Run:=rF3 dH dI dI λb c d=>(zxz b c d,[aH<|zb3 b c d,aB<|zbT b c d])
def zwu (N:Nat)(d:Host)(b c:Int):OA:=
 let a:=zl d;let e:=(ix a.Mons b zi).Guests; (oN (zbt d)<|oN (zcn a b c)<|cond (nB<|zkw a b c) (some [aH a,aB false])<|oN (inb b<|ln a.Mons)<|oN (inb c<|ln e)<|oN (zCw<|ix e c zu)<|some [aH a,aB false])
abbrev zCx (x:Guest):Bool:=bif zbp x then ieq (zN x) 1 else false
def zqs:LW
 |[.agg [.s .ins c,.i .i64 d,.i .i64 e,.s .slot f,.s .slot g,.i .i64 h,.i .i64 j,.b k,.i .i64 l,.i .i64 m,.i .i64 n,.b o,.i .i64 p,.b q,.s .int r]]=>some (zCx (⟨c,d,e,f,g,⟨h,j,k⟩,l,⟨m,n,o,p⟩,q,r⟩:Guest),[.one<|.i .i64 1])
 |_=>none
def zGx:vM 143 zqs:=by refine⟨zcz.1,λw b g j a h=>?_⟩;unfold zqs at h;split at h;{obtain⟨f,rfl⟩:=zeF h;obtain⟨d,e⟩:=znD f;exact zcz.2 w _ g _ a (congr (congrArg (λc v=>some (c,[AV.one<|CV.i .i64 v])) d) (qD e))};{cases h}
def zbbu:zY:=[(143,zqs)]++zol
def z1N:zS zbbu:=zh zGx ziw
@[simp] abbrev zxA (h:Host)(m g:Int):Bool:=bif zcn h m g then ieq (zN<|gOf h m g) 1 else false
def zGW:Run:=rF3 dH dI dI λb c d=>(zxA b c d,[aH<|zb3 b c d,aB<|zbT b c d])
def zwv (N:Nat)(f:Host)(b c:Int):OA:=
 let a:=zl f;let d:=ix a.Mons b zi;let e:=ix d.Guests c zu; (oN (zbt f)<|oN (zcn a b c)<|cond (nB<|zkw a b c) (some [aH a,aB false])<|oN (inb b<|ln a.Mons)<|oN (inb c<|ln d.Guests)<|oN (zCx e)<|oN (inb b<|ln a.Mons)<|oN (zQ e)<|oN (inb c<|ln d.Guests)<|share (up a.Mons b ({d with Guests:=(up d.Guests c<|zex e)}:Mon)) λg=>some [aH ({a with Mons:=g}:Host),aB true])
abbrev zCy (x:Guest):Bool:=bif zbp x then ieq (zN x) 2 else false
def zqu:LW
 |[.agg [.s .ins c,.i .i64 d,.i .i64 e,.s .slot f,.s .slot g,.i .i64 h,.i .i64 j,.b k,.i .i64 l,.i .i64 m,.i .i64 n,.b o,.i .i64 p,.b q,.s .int r]]=>some (zCy (⟨c,d,e,f,g,⟨h,j,k⟩,l,⟨m,n,o,p⟩,q,r⟩:Guest),[.one<|.i .i64 2])
 |_=>none
def zGy:vM 143 zqu:=by refine⟨zcz.1,λw b g j a h=>?_⟩;unfold zqu at h;split at h;{obtain⟨f,rfl⟩:=zeF h;obtain⟨d,e⟩:=znD f;exact zcz.2 w _ g _ a (congr (congrArg (λc v=>some (c,[AV.one<|CV.i .i64 v])) d) (qD e))};{cases h}
def zbbv:zY:=[(143,zqu)]++zol
def z1O:zS zbbv:=zh zGy ziw
@[simp] abbrev zxB (h:Host)(m g:Int):Bool:=bif zcn h m g then ieq (zN<|gOf h m g) 2 else false
def zGX:Run:=rF3 dH dI dI λb c d=>(zxB b c d,[aH<|zb3 b c d,aB<|zbT b c d])
def zww (N:Nat)(f:Host)(b c:Int):OA:=
 let a:=zl f;let d:=ix a.Mons b zi;let e:=ix d.Guests c zu; (oN (zbt f)<|oN (zcn a b c)<|cond (nB<|zkw a b c) (some [aH a,aB false])<|oN (inb b<|ln a.Mons)<|oN (inb c<|ln d.Guests)<|oN (zCy e)<|oN (inb b<|ln a.Mons)<|oN (zQ e)<|oN (inb c<|ln d.Guests)<|share (up a.Mons b ({d with Guests:=(up d.Guests c<|zhi e)}:Mon)) λg=>some [aH ({a with Mons:=g}:Host),aB true])
abbrev zCz (x:Guest):Bool:=bif zbp x then ieq (zN x) 3 else false
def zqv:LW
 |[.agg [.s .ins c,.i .i64 d,.i .i64 e,.s .slot f,.s .slot g,.i .i64 h,.i .i64 j,.b k,.i .i64 l,.i .i64 m,.i .i64 n,.b o,.i .i64 p,.b q,.s .int r]]=>some (zCz (⟨c,d,e,f,g,⟨h,j,k⟩,l,⟨m,n,o,p⟩,q,r⟩:Guest),[.one<|.i .i64 3])
 |_=>none
def zGz:vM 143 zqv:=by refine⟨zcz.1,λw b g j a h=>?_⟩;unfold zqv at h;split at h;{obtain⟨f,rfl⟩:=zeF h;obtain⟨d,e⟩:=znD f;exact zcz.2 w _ g _ a (congr (congrArg (λc v=>some (c,[AV.one<|CV.i .i64 v])) d) (qD e))};{cases h}
def zbbw:zY:=[(143,zqv)]++zol
def z1P:zS zbbw:=zh zGz ziw
@[simp] abbrev zxC (h:Host)(m g:Int):Bool:=bif zcn h m g then ieq (zN<|gOf h m g) 3 else false
def zGY:Run:=rF3 dH dI dI λb c d=>(zxC b c d,[aH<|zb3 b c d,aB<|zbT b c d])
def zwx (N:Nat)(m:Host)(a b:Int):OA:=
 let c:=zl m;let n:=(ix c.Mons a zi).Guests;let h:=ix n b zu;let f:=zgC h;let g:=zb0 f;let l:=zlI c c.Buffer a b g (zcF false) false;let d:=zgc c c.Buffer a b g (zcF false) false;let e:=ix d.Mons a zi;let j:=ix e.Guests b zu;let i:=({h with Prog:=j.Prog,Written:=j.Written,Live:=j.Live,Seen:=j.Seen}:Guest); (oN (zbt m)<|oN (zcn c a b)<|cond (nB<|zkw c a b) (some [aH c,aB false])<|oN (inb a<|ln c.Mons)<|oN (inb b<|ln n)<|oN (zCz h)<|oN (zbp h)<|oN (zbz f)<|oN (zhX false)<|oN (zlJ c c.Buffer a b g (zcF false) false)<|cond (nB<|zif c c.Buffer a b g (zcF false) false) (oN (inb a<|ln d.Mons)<|oN (zbz f)<|oN (zfa g false)<|oN (zcv i<|zdF g false)<|oN (inb b<|ln e.Guests)<|share (up d.Mons a ({e with Guests:=(up e.Guests b<|zcr i<|zdF g false)}:Mon)) λk=>some [aH ({d with Mons:=k}:Host),aB true])<|oN (inb a<|ln d.Mons)<|oN (zbz f)<|oN (zeQ d.Memory l<|zdc f)<|oN (zjr i<|zgl d.Memory l<|zdc f)<|oN (inb b<|ln e.Guests)<|share (up d.Mons a ({e with Guests:=(up e.Guests b<|ziR i<|zgl d.Memory l<|zdc f)}:Mon)) λk=>some [aH ({d with Mons:=k}:Host),aB true])
abbrev zCA (x:Guest):Bool:=bif zbp x then ieq (zN x) 4 else false
def zqw:LW
 |[.agg [.s .ins c,.i .i64 d,.i .i64 e,.s .slot f,.s .slot g,.i .i64 h,.i .i64 j,.b k,.i .i64 l,.i .i64 m,.i .i64 n,.b o,.i .i64 p,.b q,.s .int r]]=>some (zCA (⟨c,d,e,f,g,⟨h,j,k⟩,l,⟨m,n,o,p⟩,q,r⟩:Guest),[.one<|.i .i64 4])
 |_=>none
def zGA:vM 143 zqw:=by refine⟨zcz.1,λw b g j a h=>?_⟩;unfold zqw at h;split at h;{obtain⟨f,rfl⟩:=zeF h;obtain⟨d,e⟩:=znD f;exact zcz.2 w _ g _ a (congr (congrArg (λc v=>some (c,[AV.one<|CV.i .i64 v])) d) (qD e))};{cases h}
def zbbx:zY:=[(143,zqw)]++zol
def z1Q:zS zbbx:=zh zGA ziw
@[simp] abbrev zxD (h:Host)(m g:Int):Bool:=bif zcn h m g then ieq (zN<|gOf h m g) 4 else false
def zGZ:Run:=rF3 dH dI dI λb c d=>(zxD b c d,[aH<|zb3 b c d,aB<|zbT b c d])
def zwy (N:Nat)(l:Host)(a b:Int):OA:=
 let c:=zl l;let n:=(ix c.Mons a zi).Guests;let g:=ix n b zu;let h:=zgC g;let f:=zb0 h;let m:=zlI c c.Buffer a b f (zcF true) false;let d:=zgc c c.Buffer a b f (zcF true) false;let e:=ix d.Mons a zi;let j:=ix e.Guests b zu;let i:=({g with Prog:=j.Prog,Written:=j.Written,Live:=j.Live,Seen:=j.Seen}:Guest); (oN (zbt l)<|oN (zcn c a b)<|cond (nB<|zkw c a b) (some [aH c,aB false])<|oN (inb a<|ln c.Mons)<|oN (inb b<|ln n)<|oN (zCA g)<|oN (zbp g)<|oN (zbz h)<|oN (zhX true)<|oN (zlJ c c.Buffer a b f (zcF true) false)<|cond (nB<|zif c c.Buffer a b f (zcF true) false) (oN (inb a<|ln d.Mons)<|oN (zbz h)<|oN (zfa f true)<|oN (zcv i<|zdF f true)<|oN (inb b<|ln e.Guests)<|share (up d.Mons a ({e with Guests:=(up e.Guests b<|zcr i<|zdF f true)}:Mon)) λk=>some [aH ({d with Mons:=k}:Host),aB true])<|oN (zbz h)<|oN (zey d.Memory m (zdc h) g.A)<|oN (inb a<|ln d.Mons)<|oN (zQ i)<|oN (inb b<|ln e.Guests)<|share (up d.Mons a ({e with Guests:=(up e.Guests b<|zci i)}:Mon)) λk=>some [aH ({d with Memory:=(zeP d.Memory m (zdc h) g.A),Mons:=k}:Host),aB true])
abbrev zCB (x:Guest):Bool:=bif zbp x then ieq (zN x) 5 else false
def zqx:LW
 |[.agg [.s .ins c,.i .i64 d,.i .i64 e,.s .slot f,.s .slot g,.i .i64 h,.i .i64 j,.b k,.i .i64 l,.i .i64 m,.i .i64 n,.b o,.i .i64 p,.b q,.s .int r]]=>some (zCB (⟨c,d,e,f,g,⟨h,j,k⟩,l,⟨m,n,o,p⟩,q,r⟩:Guest),[.one<|.i .i64 5])
 |_=>none
def zGB:vM 143 zqx:=by refine⟨zcz.1,λw b g j a h=>?_⟩;unfold zqx at h;split at h;{obtain⟨f,rfl⟩:=zeF h;obtain⟨d,e⟩:=znD f;exact zcz.2 w _ g _ a (congr (congrArg (λc v=>some (c,[AV.one<|CV.i .i64 v])) d) (qD e))};{cases h}
def zbby:zY:=[(143,zqx)]++zol
def z1R:zS zbby:=zh zGB ziw
@[simp] abbrev zxE (h:Host)(m g:Int):Bool:=bif zcn h m g then ieq (zN<|gOf h m g) 5 else false
def zG0:Run:=rF3 dH dI dI λb c d=>(zxE b c d,[aH<|zb3 b c d,aB<|zbT b c d])
def zwz (N:Nat)(x:Host)(a e:Int):OA:=
 let d:=zl x;let f:=inb a<|ln d.Mons;let g:=ix d.Mons a zi;let j:=inb e<|ln g.Guests;let c:=ix g.Guests e zu;let w:=ap g.Outs [(zdD c.Prog c.Pc).X];let s:=up d.Mons a ({g with Outs:=w}:Mon);let h:=c.Ctl.Traps;let v:=up d.Mons a ({g with Guests:=(up g.Guests e<|zcq c h 5)}:Mon); (oN (zbt x)<|oN (zcn d a e)<|cond (nB<|zkw d a e) (some [aH d,aB false])<|oN f<|oN j<|oN (zCB c)<|oN f<|oN (zoa g.Traps h 1)<|cond (ieq (zkC g.Traps h 1) 2) (oN f<|cond (ilt g.Own 1000000000) (oN f<|oN f<|share (up d.Mons a ({g with Own:=(zM .i64 g.Own 1)}:Mon)) (λb=>let k:=inb a<|ln b;let l:=ix b a zi;let q:=ix l.Guests e zu;let t:=ap l.Outs [(zdD q.Prog c.Pc).X];let u:=({c with Prog:=q.Prog,Written:=q.Written,Live:=q.Live,Seen:=q.Seen}:Guest);let r:=up b a ({l with Guests:=(up l.Guests e<|zcq u h 5)}:Mon); (oN (zd2 u h 5)<|cond (zdr u h 5) (oN k<|cond (ilt (ln l.Outs) 40) (oN k<|oN (zdp q.Prog c.Pc)<|oN (few<|ln t)<|oN k<|oN (cond (ieq a a) true false)<|share (up b a ({l with Outs:=t}:Mon)) (λi=>let m:=ix i a zi; (oN (inb a<|ln i)<|oN (inb e<|ln m.Guests)<|share (up i a ({m with Guests:=(up m.Guests e<|zcq u h 5)}:Mon)) λy=>some [aH ({d with Mons:=y}:Host),aB true])))<|oN k<|oN (inb e<|ln l.Guests)<|share r λi=>some [aH ({d with Mons:=i}:Host),aB true])<|oN k<|oN (inb e<|ln l.Guests)<|share r λi=>some [aH ({d with Mons:=i}:Host),aB true])))<|oN (zd2 c h 5)<|cond (zdr c h 5) (oN f<|cond (ilt (ln g.Outs) 40) (oN f<|oN (zdp c.Prog c.Pc)<|oN (few<|ln w)<|oN f<|oN (cond (ieq a a) true false)<|share s (λb=>let n:=ix b a zi; (oN (inb a<|ln b)<|oN (inb e<|ln n.Guests)<|share (up b a ({n with Guests:=(up n.Guests e<|zcq c h 5)}:Mon)) λi=>some [aH ({d with Mons:=i}:Host),aB true])))<|oN f<|oN j<|share v λb=>some [aH ({d with Mons:=b}:Host),aB true])<|oN f<|oN j<|share v λb=>some [aH ({d with Mons:=b}:Host),aB true])<|oN (zd2 c h 5)<|cond (zdr c h 5) (oN f<|cond (ilt (ln g.Outs) 40) (oN f<|oN (zdp c.Prog c.Pc)<|oN (few<|ln w)<|oN f<|oN (cond (ieq a a) true false)<|share s (λb=>let p:=ix b a zi; (oN (inb a<|ln b)<|oN (inb e<|ln p.Guests)<|share (up b a ({p with Guests:=(up p.Guests e<|zcq c h 5)}:Mon)) λi=>some [aH ({d with Mons:=i}:Host),aB true])))<|oN f<|oN j<|share v λb=>some [aH ({d with Mons:=b}:Host),aB true])<|oN f<|oN j<|share v λb=>some [aH ({d with Mons:=b}:Host),aB true])
abbrev zCC (x:Guest):Bool:=bif zbp x then ieq (zN x) 6 else false
def zqy:LW
 |[.agg [.s .ins c,.i .i64 d,.i .i64 e,.s .slot f,.s .slot g,.i .i64 h,.i .i64 j,.b k,.i .i64 l,.i .i64 m,.i .i64 n,.b o,.i .i64 p,.b q,.s .int r]]=>some (zCC (⟨c,d,e,f,g,⟨h,j,k⟩,l,⟨m,n,o,p⟩,q,r⟩:Guest),[.one<|.i .i64 6])
 |_=>none
def zGC:vM 143 zqy:=by refine⟨zcz.1,λw b g j a h=>?_⟩;unfold zqy at h;split at h;{obtain⟨f,rfl⟩:=zeF h;obtain⟨d,e⟩:=znD f;exact zcz.2 w _ g _ a (congr (congrArg (λc v=>some (c,[AV.one<|CV.i .i64 v])) d) (qD e))};{cases h}
def zbbz:zY:=[(143,zqy)]++zol
def z1S:zS zbbz:=zh zGC ziw
@[simp] abbrev zxF (h:Host)(m g:Int):Bool:=bif zcn h m g then ieq (zN<|gOf h m g) 6 else false
def zG1:Run:=rF3 dH dI dI λb c d=>(zxF b c d,[aH<|zb3 b c d,aB<|zbT b c d])
def zwA (N:Nat)(i:Host)(c d:Int):OA:=
 let a:=zl i;let g:=inb c<|ln a.Mons;let e:=ix a.Mons c zi;let h:=inb d<|ln e.Guests;let b:=ix e.Guests d zu;let j:=up a.Mons c ({e with Guests:=(up e.Guests d<|zcq b b.Ctl.Traps 6)}:Mon); (oN (zbt i)<|oN (zcn a c d)<|cond (nB<|zkw a c d) (some [aH a,aB false])<|oN g<|oN h<|oN (zCC b)<|oN (zd2 b b.Ctl.Traps 6)<|cond (zdr b b.Ctl.Traps 6) (oN g<|oN h<|share j λf=>some [aH ({a with Mons:=f}:Host),aB true])<|oN g<|oN h<|share j λf=>some [aH ({a with Mons:=f}:Host),aB true])
abbrev zCD (x:Guest):Bool:=bif zbp x then ieq (zN x) 7 else false
def zqz:LW
 |[.agg [.s .ins c,.i .i64 d,.i .i64 e,.s .slot f,.s .slot g,.i .i64 h,.i .i64 j,.b k,.i .i64 l,.i .i64 m,.i .i64 n,.b o,.i .i64 p,.b q,.s .int r]]=>some (zCD (⟨c,d,e,f,g,⟨h,j,k⟩,l,⟨m,n,o,p⟩,q,r⟩:Guest),[.one<|.i .i64 7])
 |_=>none
def zGD:vM 143 zqz:=by refine⟨zcz.1,λw b g j a h=>?_⟩;unfold zqz at h;split at h;{obtain⟨f,rfl⟩:=zeF h;obtain⟨d,e⟩:=znD f;exact zcz.2 w _ g _ a (congr (congrArg (λc v=>some (c,[AV.one<|CV.i .i64 v])) d) (qD e))};{cases h}
def zbbA:zY:=[(143,zqz)]++zol
def z1T:zS zbbA:=zh zGD ziw
@[simp] abbrev zxG (h:Host)(m g:Int):Bool:=bif zcn h m g then ieq (zN<|gOf h m g) 7 else false
def zG2:Run:=rF3 dH dI dI λb c d=>(zxG b c d,[aH<|zb3 b c d,aB<|zbT b c d])
def zwB (N:Nat)(q:Host)(c e:Int):OA:=
 let a:=zl q;let g:=inb c<|ln a.Mons;let f:=ix a.Mons c zi;let k:=inb e<|ln f.Guests;let h:=ix f.Guests e zu;let d:=h.Ctl.Traps;let l:=up a.Mons c ({f with Guests:=(up f.Guests e<|zcq h d 7)}:Mon); (oN (zbt q)<|oN (zcn a c e)<|cond (nB<|zkw a c e) (some [aH a,aB false])<|oN g<|oN k<|oN (zCD h)<|oN g<|oN (zoa f.Traps d 2)<|cond (ieq (zkC f.Traps d 2) 2) (oN g<|cond (ilt f.Own 1000000000) (oN g<|oN g<|share (up a.Mons c ({f with Own:=(zM .i64 f.Own 1)}:Mon)) (λb=>let j:=ix b c zi;let m:=ix j.Guests e zu;let p:=({h with Prog:=m.Prog,Written:=m.Written,Live:=m.Live,Seen:=m.Seen}:Guest);let i:=up b c ({j with Guests:=(up j.Guests e<|zcq p d 7)}:Mon); (oN (zd2 p d 7)<|cond (zdr p d 7) (oN (inb c<|ln b)<|oN (inb e<|ln j.Guests)<|share i λn=>some [aH ({a with Mons:=n}:Host),aB true])<|oN (inb c<|ln b)<|oN (inb e<|ln j.Guests)<|share i λn=>some [aH ({a with Mons:=n}:Host),aB true])))<|oN (zd2 h d 7)<|cond (zdr h d 7) (oN g<|oN k<|share l λb=>some [aH ({a with Mons:=b}:Host),aB true])<|oN g<|oN k<|share l λb=>some [aH ({a with Mons:=b}:Host),aB true])<|oN (zd2 h d 7)<|cond (zdr h d 7) (oN g<|oN k<|share l λb=>some [aH ({a with Mons:=b}:Host),aB true])<|oN g<|oN k<|share l λb=>some [aH ({a with Mons:=b}:Host),aB true])
def zGK (a:Host)(b c:Int)(e:zxz a b c=true):∃N,zwu N a b c=some [aH<|zb3 a b c,aB<|zbT a b c]:=by
 obtain⟨e,i⟩:=znD e;have f:=(zT a).1 (zO.1 e);refine⟨0,?_⟩;show _=some (zeI<|zbv a b c);unfold zwu oN nB;conv=>zeta
 refine must (zbq<|(zT _).2 f) (must (zbq<|(zT _).2 f)<|brN (λd=>?_) λd=>?_);{rw [zjc d];rfl};obtain⟨k,g,h⟩:=zdh d;have l:=zlv f g h;have j:zN (gOf a b c)=0:=qD i;rw[zjO d,j];refine must (zB g) (must (zB h)<|must (zjS rfl i) ?_);rfl
def zrf:vM 38 zGV:=kF3 z1M zA zcf zhy (zq []) zGK
def zGL (a:Host)(b c:Int)(g:zxA a b c=true):∃N,zwv N a b c=some [aH<|zb3 a b c,aB<|zbT a b c]:=by
 obtain⟨g,i⟩:=znD g;have h:=(zT a).1 (zO.1 g);refine⟨0,?_⟩;show _=some (zeI<|zbv a b c);unfold zwv oN nB;conv=>zeta
 refine must (zbq<|(zT _).2 h) (must (zbq<|(zT _).2 h)<|brN (λd=>?_) λd=>?_);{rw [zjc d];rfl};obtain⟨l,e,f⟩:=zdh d;have k:=zlv h e f;have j:zN (gOf a b c)=1:=qD i;rw[zjO d,j];refine must (zB e) (must (zB f)<|must (zjS rfl i) ?_);show _=some (zeI (zgH a b c<|interrupted<|gOf a b c,true));exact must (zB e) (must (zbq k) (must (zB f) rfl))
def zCN:vM 38 zGW:=kF3 z1N zA zcf zhy (zq []) zGL
def zGM (a:Host)(b c:Int)(g:zxB a b c=true):∃N,zww N a b c=some [aH<|zb3 a b c,aB<|zbT a b c]:=by
 obtain⟨g,i⟩:=znD g;have h:=(zT a).1 (zO.1 g);refine⟨0,?_⟩;show _=some (zeI<|zbv a b c);unfold zww oN nB;conv=>zeta
 refine must (zbq<|(zT _).2 h) (must (zbq<|(zT _).2 h)<|brN (λd=>?_) λd=>?_);{rw [zjc d];rfl};obtain⟨l,e,f⟩:=zdh d;have k:=zlv h e f;have j:zN (gOf a b c)=2:=qD i;rw[zjO d,j];refine must (zB e) (must (zB f)<|must (zjS rfl i) ?_);show _=some (zeI (zgH a b c<|plainly<|gOf a b c,true));exact must (zB e) (must (zbq k) (must (zB f) rfl))
def zCO:vM 38 zGX:=kF3 z1O zA zcf zhy (zq []) zGM
def zGN (a:Host)(c d:Int)(j:zxC a c d=true):∃N,zwx N a c d=some [aH<|zb3 a c d,aB<|zbT a c d]:=by
 obtain⟨j,m⟩:=znD j;have f:=(zT a).1 (zO.1 j);refine⟨0,?_⟩;show _=some (zeI<|zbv a c d);unfold zwx oN nB;conv=>zeta
 refine must (zbq<|(zT _).2 f) (must (zbq<|(zT _).2 f)<|brN (λe=>?_) λe=>?_);{rw [zjc e];rfl};obtain⟨r,g,i⟩:=zdh e;have n:=zlv f g i;have q:zN (gOf a c d)=3:=qD m;rw[zjO e,q];refine must (zB g) (must (zB i)<|must (zjS rfl m) ?_);show _=some (zeI (zhL (ziZ a c d (gOf a c d) false) c d (gOf a c d) false,true));have k:=zuX (b:=a.Buffer) (page:=zbo (address<|gOf a c d)) (need:=zcc false) (io:=false) f e;have F:=zm6 k g i;have p:(ix (ix (zgc (zl a) (zl a).Buffer c d (zb0<|zgC<|ix (ix (zl a).Mons c zi).Guests d zu) (zcF false) false).Mons c zi).Guests d zu)=(ix (ix (zl a).Mons c zi).Guests d zu):=congrArg (λl=>ix l d gZ) (zMc k.gs c);rw[p];unfold zhL;refine must rfl (must rfl (must rfl (must (zbq<|(zT _).2 f)<|brN (λh=>?_) λh=>?_)));{rw [show (ziZ a c d (gOf a c d) false).2.2=false from h];exact must (zB F.hm) (must rfl (must rfl (must (zbq n) (must (zB F.hg) rfl))))};{rw [show (ziZ a c d (gOf a c d) false).2.2=true from h];exact must (zB F.hm) (must rfl (must rfl (must (zbq n) (must (zB F.hg) rfl))))}
def zCP:vM 38 zGY:=kF3 z1P zA zcf zhy (zq []) zGN
def zGO (a:Host)(c d:Int)(j:zxD a c d=true):∃N,zwy N a c d=some [aH<|zb3 a c d,aB<|zbT a c d]:=by
 obtain⟨j,m⟩:=znD j;have f:=(zT a).1 (zO.1 j);refine⟨0,?_⟩;show _=some (zeI<|zbv a c d);unfold zwy oN nB;conv=>zeta
 refine must (zbq<|(zT _).2 f) (must (zbq<|(zT _).2 f)<|brN (λe=>?_) λe=>?_);{rw [zjc e];rfl};obtain⟨r,g,i⟩:=zdh e;have n:=zlv f g i;have q:zN (gOf a c d)=4:=qD m;rw[zjO e,q];refine must (zB g) (must (zB i)<|must (zjS rfl m) ?_);show _=some (zeI (zhL (ziZ a c d (gOf a c d) true) c d (gOf a c d) true,true));have k:=zuX (b:=a.Buffer) (page:=zbo (address<|gOf a c d)) (need:=zcc true) (io:=false) f e;have F:=zm6 k g i;have p:(ix (ix (zgc (zl a) (zl a).Buffer c d (zb0<|zgC<|ix (ix (zl a).Mons c zi).Guests d zu) (zcF true) false).Mons c zi).Guests d zu)=(ix (ix (zl a).Mons c zi).Guests d zu):=congrArg (λl=>ix l d gZ) (zMc k.gs c);rw[p];unfold zhL;refine must rfl (must rfl (must rfl (must (zbq<|(zT _).2 f)<|brN (λh=>?_) λh=>?_)));{rw [show (ziZ a c d (gOf a c d) true).2.2=false from h];exact must (zB F.hm) (must rfl (must rfl (must (zbq n) (must (zB F.hg) rfl))))};{rw [show (ziZ a c d (gOf a c d) true).2.2=true from h];exact must rfl (must (zbq k.shape.1.1)<|must (zB F.hm)<|must (zbq n) (must (zB F.hg) rfl))}
def zCQ:vM 38 zGZ:=kF3 z1Q zA zcf zhy (zq []) zGO
def zbaq {c:Host}{a d:Int}(k:SmG (gOf c a d))(f:hasB a (ln c.Mons)=true)(i:hasB d (ln (ix c.Mons a mZ).Guests)=true) :
 (cond (zd2 (ix (ix (zl c).Mons a zi).Guests d zu) (ix (ix (zl c).Mons a zi).Guests d zu).Ctl.Traps 5) (cond (zdr (ix (ix (zl c).Mons a zi).Guests d zu) (ix (ix (zl c).Mons a zi).Guests d zu).Ctl.Traps 5) (cond (inb a<|ln (zl c).Mons) (cond (ilt (ln (ix (zl c).Mons a zi).Outs) 40) (cond (inb a<|ln (zl c).Mons) (cond (zdp (ix (ix (zl c).Mons a zi).Guests d zu).Prog (ix (ix (zl c).Mons a zi).Guests d zu).Pc) (cond (few<|ln<|ap (ix (zl c).Mons a zi).Outs [(zdD (ix (ix (zl c).Mons a zi).Guests d zu).Prog (ix (ix (zl c).Mons a zi).Guests d zu).Pc).X]) (cond (inb a<|ln (zl c).Mons) (cond (cond (ieq a a) true false) (share (up (zl c).Mons a ({ (ix (zl c).Mons a zi) with Outs:=(ap (ix (zl c).Mons a zi).Outs [(zdD (ix (ix (zl c).Mons a zi).Guests d zu).Prog (ix (ix (zl c).Mons a zi).Guests d zu).Pc).X])}:Mon)) λe=>cond (inb a<|ln e) (cond (inb d<|ln (ix e a zi).Guests) (share (up e a ({ (ix e a zi) with Guests:=(up (ix e a zi).Guests d<|zcq (ix (ix (zl c).Mons a zi).Guests d zu) (ix (ix (zl c).Mons a zi).Guests d zu).Ctl.Traps 5)}:Mon)) λl=>some [.agg<|zbn ({ (zl c) with Mons:=l}:Host),.one<|.b true]) none) none) none) none) none) none) none)<|cond (inb a<|ln (zl c).Mons) (cond (inb d<|ln (ix (zl c).Mons a zi).Guests) (share (up (zl c).Mons a ({ (ix (zl c).Mons a zi) with Guests:=(up (ix (zl c).Mons a zi).Guests d<|zcq (ix (ix (zl c).Mons a zi).Guests d zu) (ix (ix (zl c).Mons a zi).Guests d zu).Ctl.Traps 5)}:Mon)) λe=>some [.agg<|zbn ({ (zl c) with Mons:=e}:Host),.one<|.b true]) none) none) none)<|cond (inb a<|ln (zl c).Mons) (cond (inb d<|ln (ix (zl c).Mons a zi).Guests) (share (up (zl c).Mons a ({ (ix (zl c).Mons a zi) with Guests:=(up (ix (zl c).Mons a zi).Guests d<|zcq (ix (ix (zl c).Mons a zi).Guests d zu) (ix (ix (zl c).Mons a zi).Guests d zu).Ctl.Traps 5)}:Mon)) λe=>some [.agg<|zbn ({ (zl c) with Mons:=e}:Host),.one<|.b true]) none) none) none)=some (zeI (zgH (zhe c a (gOf c a d) 5) a d<|zfY (gOf c a d) (gOf c a d).Ctl.Traps 5,true)):=by
 refine must (zbq k) (br (λj=>must (zB f) (br (λg=>?_) λg=>?_)) λj=>?_)
 .rw [zYe (h:=c) (m:=a) (x:=gOf c a d) (w:=5) j rfl g];refine must (zB f) (must rfl (must (zUN g)<|must (zB f)<|must (zM5 _)<|shr<|must (zB<|zfk f) (must ?_ rfl)));rw[zpY f];exact zB i
 .rw [zS1 (h:=c) (m:=a) (x:=gOf c a d) (w:=5) g];exact must (zB f) (must (zB i) rfl)
 .rw [zOo (h:=c) (m:=a) (x:=gOf c a d) (w:=5) j];exact must (zB f) (must (zB i) rfl)
def zbdU {f:Host}{d:List Mon}{a c:Int}(n:SmG (gOf f a c))(i:hasB a (ln d)=true)(k:hasB c (ln (ix d a mZ).Guests)=true)(e:(ix (ix d a zi).Guests c zu)=gOf f a c) :
 (cond (zd2 ({ (ix (ix (zl f).Mons a zi).Guests c zu) with Prog:=(ix (ix d a zi).Guests c zu).Prog,Written:=(ix (ix d a zi).Guests c zu).Written,Live:=(ix (ix d a zi).Guests c zu).Live,Seen:=(ix (ix d a zi).Guests c zu).Seen}:Guest) (ix (ix (zl f).Mons a zi).Guests c zu).Ctl.Traps 5) (cond (zdr ({ (ix (ix (zl f).Mons a zi).Guests c zu) with Prog:=(ix (ix d a zi).Guests c zu).Prog,Written:=(ix (ix d a zi).Guests c zu).Written,Live:=(ix (ix d a zi).Guests c zu).Live,Seen:=(ix (ix d a zi).Guests c zu).Seen}:Guest) (ix (ix (zl f).Mons a zi).Guests c zu).Ctl.Traps 5) (cond (inb a<|ln d) (cond (ilt (ln (ix d a zi).Outs) 40) (cond (inb a<|ln d) (cond (zdp (ix (ix d a zi).Guests c zu).Prog (ix (ix (zl f).Mons a zi).Guests c zu).Pc) (cond (few<|ln<|ap (ix d a zi).Outs [(zdD (ix (ix d a zi).Guests c zu).Prog (ix (ix (zl f).Mons a zi).Guests c zu).Pc).X]) (cond (inb a<|ln d) (cond (cond (ieq a a) true false) (share (up d a ({ (ix d a zi) with Outs:=(ap (ix d a zi).Outs [(zdD (ix (ix d a zi).Guests c zu).Prog (ix (ix (zl f).Mons a zi).Guests c zu).Pc).X])}:Mon)) λg=>cond (inb a<|ln g) (cond (inb c<|ln (ix g a zi).Guests) (share (up g a ({ (ix g a zi) with Guests:=(up (ix g a zi).Guests c<|zcq ({ (ix (ix (zl f).Mons a zi).Guests c zu) with Prog:=(ix (ix d a zi).Guests c zu).Prog,Written:=(ix (ix d a zi).Guests c zu).Written,Live:=(ix (ix d a zi).Guests c zu).Live,Seen:=(ix (ix d a zi).Guests c zu).Seen}:Guest) (ix (ix (zl f).Mons a zi).Guests c zu).Ctl.Traps 5)}:Mon)) λp=>some [.agg<|zbn ({ (zl f) with Mons:=p}:Host),.one<|.b true]) none) none) none) none) none) none) none)<|cond (inb a<|ln d) (cond (inb c<|ln (ix d a zi).Guests) (share (up d a ({ (ix d a zi) with Guests:=(up (ix d a zi).Guests c<|zcq ({ (ix (ix (zl f).Mons a zi).Guests c zu) with Prog:=(ix (ix d a zi).Guests c zu).Prog,Written:=(ix (ix d a zi).Guests c zu).Written,Live:=(ix (ix d a zi).Guests c zu).Live,Seen:=(ix (ix d a zi).Guests c zu).Seen}:Guest) (ix (ix (zl f).Mons a zi).Guests c zu).Ctl.Traps 5)}:Mon)) λg=>some [.agg<|zbn ({ (zl f) with Mons:=g}:Host),.one<|.b true]) none) none) none)<|cond (inb a<|ln d) (cond (inb c<|ln (ix d a zi).Guests) (share (up d a ({ (ix d a zi) with Guests:=(up (ix d a zi).Guests c<|zcq ({ (ix (ix (zl f).Mons a zi).Guests c zu) with Prog:=(ix (ix d a zi).Guests c zu).Prog,Written:=(ix (ix d a zi).Guests c zu).Written,Live:=(ix (ix d a zi).Guests c zu).Live,Seen:=(ix (ix d a zi).Guests c zu).Seen}:Guest) (ix (ix (zl f).Mons a zi).Guests c zu).Ctl.Traps 5)}:Mon)) λg=>some [.agg<|zbn ({ (zl f) with Mons:=g}:Host),.one<|.b true]) none) none) none)=some (zeI (zgH (zhe {f with Mons:=d} a (gOf f a c) 5) a c<|zfY (gOf f a c) (gOf f a c).Ctl.Traps 5,true)):=by
 rw[e];refine must (zbq n) (br (λl=>must (zB i) (br (λj=>?_) λj=>?_)) λl=>?_)
 .rw [zYe (h:={f with Mons:=d}) (m:=a) (x:=gOf f a c) (w:=5) l rfl j];refine must (zB i) (must rfl (must (zUN j)<|must (zB i)<|must (zM5 _)<|shr<|must (zB<|zfk (h:={f with Mons:=d}) i) (must ?_ rfl)));rw[zpY (h:={f with Mons:=d}) i];exact zB k
 .rw [zS1 (h:={f with Mons:=d}) (m:=a) (x:=gOf f a c) (w:=5) j];exact must (zB i) (must (zB k) rfl)
 .rw [zOo (h:={f with Mons:=d}) (m:=a) (x:=gOf f a c) (w:=5) l];exact must (zB i) (must (zB k) rfl)
def zGP (b:Host)(a c:Int)(j:zxE b a c=true):∃N,zwz N b a c=some [aH<|zb3 b a c,aB<|zbT b a c]:=by
 obtain⟨j,p⟩:=znD j;have k:=(zT b).1 (zO.1 j);refine⟨0,?_⟩;show _=some (zeI<|zbv b a c);unfold zwz oN nB;conv=>zeta
 refine must (zbq<|(zT _).2 k) (must (zbq<|(zT _).2 k)<|brN (λf=>?_) λf=>?_);{rw [zjc f];rfl};obtain⟨r,d,e⟩:=zdh f;have l:=zlv k d e;have q:zN (gOf b a c)=5:=qD p;rw[zjO f,q];refine must (zB d) (must (zB e)<|must (zjS rfl p) ?_);show _=some (zeI (zlc b a c (gOf b a c) 5,true));refine must (zB d) (must rfl (br (λg=>must (zB d) (br (λi=>must (zB d) (must (zB d)<|shr ?_)) λi=>?_)) λg=>?_));{rw [zo7 (z1j (h:=b) (m:=a) (x:=gOf b a c) (w:=5) rfl g i)];have n:=zpY d {ix b.Mons a mZ with Own:=zM .i64 (ix b.Mons a mZ).Own 1};refine zbdU l (zfk d) ?_ ?_;{show hasB c (ln (ix (up b.Mons a _) a mZ).Guests)=true;rw[n];exact e};{show ix (ix (up b.Mons a _) a mZ).Guests c gZ=_;rw[n];rfl}};{rw [zo7<|z1i (h:=b) (m:=a) (x:=gOf b a c) (w:=5) i];exact zbaq l d e};{rw [zo7<|z1h (h:=b) (m:=a) (x:=gOf b a c) (w:=5) g];exact zbaq l d e}
def zCR:vM 38 zG0:=kF3 z1R zA zcf zhy (zq []) zGP
def zGQ (a:Host)(b c:Int)(g:zxF a b c=true):∃N,zwA N a b c=some [aH<|zb3 a b c,aB<|zbT a b c]:=by
 obtain⟨g,j⟩:=znD g;have i:=(zT a).1 (zO.1 g);refine⟨0,?_⟩;show _=some (zeI<|zbv a b c);unfold zwA oN nB;conv=>zeta
 refine must (zbq<|(zT _).2 i) (must (zbq<|(zT _).2 i)<|brN (λf=>?_) λf=>?_);{rw [zjc f];rfl};obtain⟨p,d,e⟩:=zdh f;have n:=zlv i d e;have l:zN (gOf a b c)=6:=qD j;rw[zjO f,l];refine must (zB d) (must (zB e)<|must (zjS rfl j) ?_);show _=some (zeI (zlc a b c (gOf a b c) 6,true));rw[zo7<|zbcw (h:=a) (m:=b) (x:=gOf a b c),zFx (w:=6) rfl];exact must (zbq n) (br (λk=>must (zB d) (must (zB e) rfl)) λk=>must (zB d) (must (zB e) rfl))
def zCS:vM 38 zG1:=kF3 z1S zA zcf zhy (zq []) zGQ
def zbar {a:Host}{c d:Int}(i:SmG (gOf a c d))(f:hasB c (ln a.Mons)=true)(g:hasB d (ln (ix a.Mons c mZ).Guests)=true) :
 (cond (zd2 (ix (ix (zl a).Mons c zi).Guests d zu) (ix (ix (zl a).Mons c zi).Guests d zu).Ctl.Traps 7) (cond (zdr (ix (ix (zl a).Mons c zi).Guests d zu) (ix (ix (zl a).Mons c zi).Guests d zu).Ctl.Traps 7) (cond (inb c<|ln (zl a).Mons) (cond (inb d<|ln (ix (zl a).Mons c zi).Guests) (share (up (zl a).Mons c ({ (ix (zl a).Mons c zi) with Guests:=(up (ix (zl a).Mons c zi).Guests d<|zcq (ix (ix (zl a).Mons c zi).Guests d zu) (ix (ix (zl a).Mons c zi).Guests d zu).Ctl.Traps 7)}:Mon)) λe=>some [.agg<|zbn ({ (zl a) with Mons:=e}:Host),.one<|.b true]) none) none)<|cond (inb c<|ln (zl a).Mons) (cond (inb d<|ln (ix (zl a).Mons c zi).Guests) (share (up (zl a).Mons c ({ (ix (zl a).Mons c zi) with Guests:=(up (ix (zl a).Mons c zi).Guests d<|zcq (ix (ix (zl a).Mons c zi).Guests d zu) (ix (ix (zl a).Mons c zi).Guests d zu).Ctl.Traps 7)}:Mon)) λe=>some [.agg<|zbn ({ (zl a) with Mons:=e}:Host),.one<|.b true]) none) none) none)=some (zeI (zgH a c d<|zfY (gOf a c d) (gOf a c d).Ctl.Traps 7,true)):=
 must (zbq i) (br (λh=>must (zB f) (must (zB g) rfl)) λh=>must (zB f) (must (zB g) rfl))
def zbdV {f:Host}{d:List Mon}{a c:Int}(k:SmG (gOf f a c))(h:hasB a (ln d)=true)(i:hasB c (ln (ix d a mZ).Guests)=true)(e:(ix (ix d a zi).Guests c zu)=gOf f a c) :
 (cond (zd2 ({ (ix (ix (zl f).Mons a zi).Guests c zu) with Prog:=(ix (ix d a zi).Guests c zu).Prog,Written:=(ix (ix d a zi).Guests c zu).Written,Live:=(ix (ix d a zi).Guests c zu).Live,Seen:=(ix (ix d a zi).Guests c zu).Seen}:Guest) (ix (ix (zl f).Mons a zi).Guests c zu).Ctl.Traps 7) (cond (zdr ({ (ix (ix (zl f).Mons a zi).Guests c zu) with Prog:=(ix (ix d a zi).Guests c zu).Prog,Written:=(ix (ix d a zi).Guests c zu).Written,Live:=(ix (ix d a zi).Guests c zu).Live,Seen:=(ix (ix d a zi).Guests c zu).Seen}:Guest) (ix (ix (zl f).Mons a zi).Guests c zu).Ctl.Traps 7) (cond (inb a<|ln d) (cond (inb c<|ln (ix d a zi).Guests) (share (up d a ({ (ix d a zi) with Guests:=(up (ix d a zi).Guests c<|zcq ({ (ix (ix (zl f).Mons a zi).Guests c zu) with Prog:=(ix (ix d a zi).Guests c zu).Prog,Written:=(ix (ix d a zi).Guests c zu).Written,Live:=(ix (ix d a zi).Guests c zu).Live,Seen:=(ix (ix d a zi).Guests c zu).Seen}:Guest) (ix (ix (zl f).Mons a zi).Guests c zu).Ctl.Traps 7)}:Mon)) λg=>some [.agg<|zbn ({ (zl f) with Mons:=g}:Host),.one<|.b true]) none) none)<|cond (inb a<|ln d) (cond (inb c<|ln (ix d a zi).Guests) (share (up d a ({ (ix d a zi) with Guests:=(up (ix d a zi).Guests c<|zcq ({ (ix (ix (zl f).Mons a zi).Guests c zu) with Prog:=(ix (ix d a zi).Guests c zu).Prog,Written:=(ix (ix d a zi).Guests c zu).Written,Live:=(ix (ix d a zi).Guests c zu).Live,Seen:=(ix (ix d a zi).Guests c zu).Seen}:Guest) (ix (ix (zl f).Mons a zi).Guests c zu).Ctl.Traps 7)}:Mon)) λg=>some [.agg<|zbn ({ (zl f) with Mons:=g}:Host),.one<|.b true]) none) none) none)=some (zeI (zgH {f with Mons:=d} a c<|zfY (gOf f a c) (gOf f a c).Ctl.Traps 7,true)):=by
 rw[e];exact must (zbq k) (br (λj=>must (zB h) (must (zB i) rfl)) λj=>must (zB h) (must (zB i) rfl))
def zGR (b:Host)(a c:Int)(j:zxG b a c=true):∃N,zwB N b a c=some [aH<|zb3 b a c,aB<|zbT b a c]:=by
 obtain⟨j,p⟩:=znD j;have k:=(zT b).1 (zO.1 j);refine⟨0,?_⟩;show _=some (zeI<|zbv b a c);unfold zwB oN nB;conv=>zeta
 refine must (zbq<|(zT _).2 k) (must (zbq<|(zT _).2 k)<|brN (λf=>?_) λf=>?_);{rw [zjc f];rfl};obtain⟨r,d,e⟩:=zdh f;have l:=zlv k d e;have q:zN (gOf b a c)=7:=qD p;rw[zjO f,q];refine must (zB d) (must (zB e)<|must (zjS rfl p) ?_);show _=some (zeI (zlc b a c (gOf b a c) 7,true));refine must (zB d) (must rfl (br (λg=>must (zB d) (br (λi=>must (zB d) (must (zB d)<|shr ?_)) λi=>?_)) λg=>?_));{rw [zo7 (z1j (h:=b) (m:=a) (x:=gOf b a c) (w:=7) rfl g i),zFx (w:=7) rfl];have n:=zpY d {ix b.Mons a mZ with Own:=zM .i64 (ix b.Mons a mZ).Own 1};refine zbdV l (zfk d) ?_ ?_;{show hasB c (ln (ix (up b.Mons a _) a mZ).Guests)=true;rw[n];exact e};{show ix (ix (up b.Mons a _) a mZ).Guests c gZ=_;rw[n];rfl}};{rw [zo7<|z1i (h:=b) (m:=a) (x:=gOf b a c) (w:=7) i,zFx (w:=7) rfl];exact zbar l d e};{rw [zo7<|z1h (h:=b) (m:=a) (x:=gOf b a c) (w:=7) g,zFx (w:=7) rfl];exact zbar l d e}
def zCT:vM 38 zG2:=kF3 z1T zA zcf zhy (zq []) zGR
def zkl:LW
 |[.agg [.s (.sl .int) b,.s .mon c,.s .entry d,.s .entry e],.one<|.i .i64 f,.one<|.i .i64 g]=>some (zcn (⟨b,c,d,e⟩:Host) f g,[aH<|zb3 (⟨b,c,d,e⟩:Host) f g,aB<|zbT (⟨b,c,d,e⟩:Host) f g])
 |_=>none
def zoO:vM 38 zkl:=by refine⟨zrf.1,λw m l n g h=>?_⟩;unfold zkl at h;split at h;{rename_i a b d f i j;obtain⟨k,rfl⟩:=zeF h;rcases z9d (gOf (⟨a,b,d,f⟩:Host) i j) with e|e|e|e|e|e|e|e;{exact zrf.2 w _ l _ g (congrArg (λc=>some (c,zeI<|zbv (⟨a,b,d,f⟩:Host) i j))<|zjS k e)};{exact zCN.2 w _ l _ g (congrArg (λc=>some (c,zeI<|zbv (⟨a,b,d,f⟩:Host) i j))<|zjS k e)};{exact zCO.2 w _ l _ g (congrArg (λc=>some (c,zeI<|zbv (⟨a,b,d,f⟩:Host) i j))<|zjS k e)};{exact zCP.2 w _ l _ g (congrArg (λc=>some (c,zeI<|zbv (⟨a,b,d,f⟩:Host) i j))<|zjS k e)};{exact zCQ.2 w _ l _ g (congrArg (λc=>some (c,zeI<|zbv (⟨a,b,d,f⟩:Host) i j))<|zjS k e)};{exact zCR.2 w _ l _ g (congrArg (λc=>some (c,zeI<|zbv (⟨a,b,d,f⟩:Host) i j))<|zjS k e)};{exact zCS.2 w _ l _ g (congrArg (λc=>some (c,zeI<|zbv (⟨a,b,d,f⟩:Host) i j))<|zjS k e)};{exact zCT.2 w _ l _ g (congrArg (λc=>some (c,zeI<|zbv (⟨a,b,d,f⟩:Host) i j))<|zjS k e)}};{cases h}
@[simp] abbrev zAY (h:Host)(m g b a:Int)(c:Bool):Bool:=pc (zdm h)
@[simp] abbrev zAV (h:Host)(m g b a:Int)(c:Bool):Host:=(lookOf h (zun h c) m g b a c).1
@[simp] abbrev zAW (h:Host)(m g b a:Int)(c:Bool):Int:=(lookOf h (zun h c) m g b a c).2.1
@[simp] abbrev zAX (h:Host)(m g b a:Int)(c:Bool):Bool:=(lookOf h (zun h c) m g b a c).2.2
def zE5:Run:=rF6 dH dI dI dI dI dB λb c d e f g=>(zAY b c d e f g,[aH<|zAV b c d e f g,aI<|zAW b c d e f g,aB<|zAX b c d e f g])
abbrev zU1 (b:lM)(c:lN)(d:lE)(e:lE)(a:Int)(g:Int)(f:Int):Mon :=
 (ix (zhs (⟨b,c,d,e⟩:Host) a g f).Mons a zi)
def ztx (N:Nat)(d:Int)(e:Int)(b:Int)(f:Int)(g:lM)(h:lN)(c:lE)(a:lE):OA:=
 let i:=(⟨e,d,b,f⟩:Entry); (oN (zho a i)<|some [aH (⟨g,h,c,zg6 a i⟩:Host),aI b,aB true])
def zu6 (N:Nat)(d:lM)(e:lN)(f:lE)(g:lE)(b:Int)(i:Int)(h:Int)(a:Int)(c:Int)(s:(Int×Int×Int×Int×lM×lN×lE×lE×lM×lN×lE×lE×Unit)->OA)(k:Int)(l:lM)(m:lN)(n:lE)(p:lE):OA:=
 let x:=(⟨d,e,f,g⟩:Host);let r:=zhs x b i h;let j:=zU1 d e f g b i h;let w:=ix j.Tables a zdz;let u:=(ix j.Guests a zu).Live; (oN (zid x b i h)<|oN (inb b<|ln r.Mons)<|oN (inb a<|ln j.Tables)<|oN (inb a<|ln j.Guests)<|oN (zv6 w u j.Outer c)<|oN (inb a<|ln j.Tables)<|share (up r.Mons b ({j with Tables:=(up j.Tables a<|zv5 w u j.Outer c)}:Mon)) (λq=>let v:=(ix q b zi).Tables;let t:=ix v a zdz; (oN (inb a<|ln v)<|oN (zzf t c)<|s (c,k,(zi8 t c).Page,(zi8 t c).Rights,l,m,n,p,r.Memory,q,r.Buffer,r.IoBuffer,()))))
def zpv (N:Nat)(a:lN)(g:Int)(h:Int)(b:Int)(c:lM)(d:lE)(e:lE)(p:Int)(f:Int)(n:(Int×Int×Int×Int×lM×lN×lE×lE×lM×lN×lE×lE×Unit)->OA)(i:Int)(j:lM)(k:lN)(l:lE)(m:lE):OA:=
 let r:=zu6 N c a d e g p f h b n i j k l m;let s:=ix (ix a g zi).Tables h zdz;let q:=zi8 s b; (cond (nB<|zpm s b) r<|cond (ieq q.Page<|-1) r<|oN (zby q.Rights f)<|cond (nB<|zcZ q.Rights f) r<|n (b,i,q.Page,q.Rights,j,k,l,m,c,a,d,e,()))
def zty (N:Nat)(c:Int)(d:Int)(e:Int)(i:Int)(j:Int)(k:Int)(l:lM)(m:lN)(n:lE)(p:lE)(f:lM)(b:lN)(g:lE)(h:lE):OA:=
 let r:=(ix b c zi).Tables; (oN (inb c<|ln b)<|oN (inb d<|ln r)<|oN (zzf (ix r d zdz) e)<|share (λ(a:(Int×Int×Int×Int×lM×lN×lE×lE×lM×lN×lE×lE×Unit))=>ztx N a.1 a.2.1 a.2.2.1 a.2.2.2.1 a.2.2.2.2.2.2.2.2.1 a.2.2.2.2.2.2.2.2.2.1 a.2.2.2.2.2.2.2.2.2.2.1 a.2.2.2.2.2.2.2.2.2.2.2.1) λq=>zpv N b c d e f g h j i q k l m n p)
def ztz (N:Nat)(d:Int)(e:Int)(b:Int)(f:Int)(g:lM)(h:lN)(a:lE)(c:lE):OA:=
 let i:=(⟨e,d,b,f⟩:Entry); (oN (zho a i)<|some [aH (⟨g,h,zg6 a i,c⟩:Host),aI b,aB true])
def ztA (N:Nat)(c:Int)(d:Int)(e:Int)(i:Int)(j:Int)(k:Int)(l:lM)(m:lN)(n:lE)(p:lE)(f:lM)(b:lN)(g:lE)(h:lE):OA:=
 let r:=(ix b c zi).Tables; (oN (inb c<|ln b)<|oN (inb d<|ln r)<|oN (zzf (ix r d zdz) e)<|share (λ(a:(Int×Int×Int×Int×lM×lN×lE×lE×lM×lN×lE×lE×Unit))=>ztz N a.1 a.2.1 a.2.2.1 a.2.2.2.1 a.2.2.2.2.2.2.2.2.1 a.2.2.2.2.2.2.2.2.2.1 a.2.2.2.2.2.2.2.2.2.2.1 a.2.2.2.2.2.2.2.2.2.2.2.1) λq=>zpv N b c d e f g h j i q k l m n p)
def ztB (N:Nat)(f:Int)(g:Int)(c:Int)(e:Int)(r:Bool)(j:Int)(k:lM)(l:lN)(m:lE)(n:lE)(h:lM)(i:lN)(a:lE)(b:lE):OA:=
 let u:=aH (⟨h,i,a,b⟩:Host);let p:=zlG f g;let t:=zgE a p c;let s:=zgE b p c; (cond r (oN (zh9 f g)<|share (λ(d:(Int×Int×Int×Int×Int×Int×lM×lN×lE×lE×lM×lN×lE×lE×Unit))=>zty N d.1 d.2.1 d.2.2.1 d.2.2.2.1 d.2.2.2.2.1 d.2.2.2.2.2.1 d.2.2.2.2.2.2.1 d.2.2.2.2.2.2.2.1 d.2.2.2.2.2.2.2.2.1 d.2.2.2.2.2.2.2.2.2.1 d.2.2.2.2.2.2.2.2.2.2.1 d.2.2.2.2.2.2.2.2.2.2.2.1 d.2.2.2.2.2.2.2.2.2.2.2.2.1 d.2.2.2.2.2.2.2.2.2.2.2.2.2.1) λq=>oN (zhH b p c)<|cond (zfG b p c) (oN (zby s.Rights e)<|cond (zcZ s.Rights e) (some [u,aI s.Host,aB true])<|q (f,g,c,e,j,p,k,l,m,n,h,i,a,b,()))<|q (f,g,c,e,j,p,k,l,m,n,h,i,a,b,()))<|oN (zh9 f g)<|share (λ(d:(Int×Int×Int×Int×Int×Int×lM×lN×lE×lE×lM×lN×lE×lE×Unit))=>ztA N d.1 d.2.1 d.2.2.1 d.2.2.2.1 d.2.2.2.2.1 d.2.2.2.2.2.1 d.2.2.2.2.2.2.1 d.2.2.2.2.2.2.2.1 d.2.2.2.2.2.2.2.2.1 d.2.2.2.2.2.2.2.2.2.1 d.2.2.2.2.2.2.2.2.2.2.1 d.2.2.2.2.2.2.2.2.2.2.2.1 d.2.2.2.2.2.2.2.2.2.2.2.2.1 d.2.2.2.2.2.2.2.2.2.2.2.2.2.1) λq=>oN (zhH a p c)<|cond (zfG a p c) (oN (zby t.Rights e)<|cond (zcZ t.Rights e) (some [u,aI t.Host,aB true])<|q (f,g,c,e,j,p,k,l,m,n,h,i,a,b,()))<|q (f,g,c,e,j,p,k,l,m,n,h,i,a,b,()))
def ztC (N:Nat)(c:Int)(i:Int)(d:Int)(b:Int)(m:Bool)(n:lM)(p:lN)(j:lE)(k:lE)(e:lM)(a:lN)(f:lE)(g:lE)(l:lG):OA:=
 let s:=ix a c zi;let r:=(ix l i zu).Live;let q:=zeu r d b; (oN (inb i<|ln l)<|oN (zfB r d b)<|cond (nB<|zdL r d b) (some [aH (⟨e,a,f,g⟩:Host),aI<|-1,aB false])<|share (λ(h:(Int×Int×Int×Int×Bool×Int×lM×lN×lE×lE×lM×lN×lE×lE×Unit))=>ztB N h.1 h.2.1 h.2.2.1 h.2.2.2.1 h.2.2.2.2.1 h.2.2.2.2.2.1 h.2.2.2.2.2.2.1 h.2.2.2.2.2.2.2.1 h.2.2.2.2.2.2.2.2.1 h.2.2.2.2.2.2.2.2.2.1 h.2.2.2.2.2.2.2.2.2.2.1 h.2.2.2.2.2.2.2.2.2.2.2.1 h.2.2.2.2.2.2.2.2.2.2.2.2.1 h.2.2.2.2.2.2.2.2.2.2.2.2.2.1) λt=>cond (ieq b 2) (oN (inb c<|ln a)<|oN (inb q<|ln s.Dirty)<|share (up a c ({s with Dirty:=(up s.Dirty q true)}:Mon)) λu=>t (c,i,d,b,m,q,n,p,j,k,e,u,f,g,()))<|t (c,i,d,b,m,q,n,p,j,k,e,a,f,g,()))
def zK8 (N:Nat)(d:Host)(e f:Int)(h g:Int)(i:Bool):OA:=
 let c:=zl d;let a:=zcA d e; (oN (zbt d)<|oN (zdo d e)<|share (λ(b:(Int×Int×Int×Int×Bool×Int×Int×Int×lM×lN×lE×lE×lM×lN×lE×lE×lS×lM×lB×lG×LI×lK×Unit))=>ztC N b.1 b.2.1 b.2.2.1 b.2.2.2.1 b.2.2.2.2.1 b.2.2.2.2.2.2.2.2.1 b.2.2.2.2.2.2.2.2.2.1 b.2.2.2.2.2.2.2.2.2.2.1 b.2.2.2.2.2.2.2.2.2.2.2.1 b.2.2.2.2.2.2.2.2.2.2.2.2.1 b.2.2.2.2.2.2.2.2.2.2.2.2.2.1 b.2.2.2.2.2.2.2.2.2.2.2.2.2.2.1 b.2.2.2.2.2.2.2.2.2.2.2.2.2.2.2.1 b.2.2.2.2.2.2.2.2.2.2.2.2.2.2.2.2.2.2.2.1) λj=>oN (zeb d)<|cond (nB<|zdZ d) (some [aH c,aI<|-1,aB false])<|cond (nB<|zma d e) (some [aH c,aI<|-1,aB false])<|oN (zby f<|ln a.Guests)<|cond (nB<|zdk f<|ln a.Guests) (some [aH c,aI<|-1,aB false])<|cond (ine g 1) (cond (ine g 2) (some [aH c,aI<|-1,aB false])<|j (e,f,h,g,i,a.Pending,a.Traps,a.Own,[],[],[],[],c.Memory,c.Mons,c.Buffer,c.IoBuffer,a.Outer,a.Out,a.Dirty,a.Guests,a.Outs,a.Tables,()))<|j (e,f,h,g,i,a.Pending,a.Traps,a.Own,[],[],[],[],c.Memory,c.Mons,c.Buffer,c.IoBuffer,a.Outer,a.Out,a.Dirty,a.Guests,a.Outs,a.Tables,()))
def zYm:=zq [(232,999999,{n:=0,tm:=[],lo:=[],ro:=[]}),(232,1007055,{n:=200,tm:=[(1,ti),(2,ti),(3,ti),(4,ti),(5,.b),(12,.lp 0 0),(15,.lp 1 0),(16,.lp 2 0)],lo:=[(0,[.sl 0 [],.sl 1 [],.sl 2 [],.sl 3 []]),(1,[.sl 4 [],.sl 5 [],.sl 6 [],.sl 7 []]),(2,[.sl 8 [],.sl 9 [],.sl 10 [],.sl 11 [],.sl 12 [],ti,ti,.sl 13 [],ti])],ro:=[(0,.sl .int,true),(1,.mon,true),(2,.entry,true),(3,.entry,true),(4,.sl .int,true),(5,.mon,true),(6,.entry,true),(7,.entry,true),(8,.slot,true),(9,.sl .int,true),(10,.bool,true),(11,.guest,true),(12,.int,true),(13,.kept,true)]}),(232,1005039,{n:=200,tm:=[(1,ti),(2,ti),(3,ti),(4,ti),(5,.b),(12,.lp 0 0),(15,.lp 1 0),(18,ti)],lo:=[(0,[.sl 0 [],.sl 1 [],.sl 2 [],.sl 3 []]),(1,[.sl 4 [],.sl 5 [],.sl 6 [],.sl 7 []])],ro:=[(0,.sl .int,true),(1,.mon,true),(2,.entry,true),(3,.entry,true),(4,.sl .int,true),(5,.mon,true),(6,.entry,true),(7,.entry,true)]}),(232,1009019,{n:=200,tm:=[(1,ti),(2,ti),(3,ti),(4,ti),(12,.lp 0 0),(15,.lp 1 0),(18,ti),(20,.lp 1 3),(21,ti)],lo:=[(0,[.sl 0 [],.sl 1 [],.sl 2 [],.sl 3 []]),(1,[.sl 4 [],.sl 5 [],.sl 6 [],.sl 7 []])],ro:=[(0,.sl .int,true),(1,.mon,true),(2,.entry,true),(3,.entry,true),(4,.sl .int,true),(5,.mon,true),(6,.entry,true),(7,.entry,true)]}),(232,1011005,{n:=200,tm:=[(3,ti),(12,.lp 0 0),(15,.lp 1 0),(20,.lp 1 3),(21,ti),(24,.lp 2 0)],lo:=[(0,[.sl 0 [],.sl 1 [],.sl 2 [],.sl 3 []]),(1,[.sl 4 [],.sl 5 [],.sl 6 [],.sl 7 []]),(2,[ti,ti])],ro:=[(0,.sl .int,true),(1,.mon,true),(2,.entry,true),(3,.entry,true),(4,.sl .int,true),(5,.mon,true),(6,.entry,true),(7,.entry,true)]}),(232,1001009019,{n:=200,tm:=[(1,ti),(2,ti),(3,ti),(4,ti),(12,.lp 0 0),(15,.lp 1 0),(18,ti),(20,.lp 1 2),(21,ti)],lo:=[(0,[.sl 0 [],.sl 1 [],.sl 2 [],.sl 3 []]),(1,[.sl 4 [],.sl 5 [],.sl 6 [],.sl 7 []])],ro:=[(0,.sl .int,true),(1,.mon,true),(2,.entry,true),(3,.entry,true),(4,.sl .int,true),(5,.mon,true),(6,.entry,true),(7,.entry,true)]}),(232,1001011005,{n:=200,tm:=[(3,ti),(12,.lp 0 0),(15,.lp 1 0),(20,.lp 1 2),(21,ti),(24,.lp 2 0)],lo:=[(0,[.sl 0 [],.sl 1 [],.sl 2 [],.sl 3 []]),(1,[.sl 4 [],.sl 5 [],.sl 6 [],.sl 7 []]),(2,[ti,ti])],ro:=[(0,.sl .int,true),(1,.mon,true),(2,.entry,true),(3,.entry,true),(4,.sl .int,true),(5,.mon,true),(6,.entry,true),(7,.entry,true)]})]
def zbau {N:Nat}{r:Host}{m g a:Int}(b:r.IoBuffer.length<=1048576) :
 ztx N a (zes m g) (zel (zcb r m g) a).Page (zel (zcb r m g) a).Rights r.Memory r.Mons r.Buffer r.IoBuffer=some (zkU<|zff r m g a true):=by
 unfold ztx oN
 conv=>zeta
 exact must (zbq b) rfl
def zbaw {N:Nat}{r:Host}{m g a:Int}(b:r.Buffer.length<=1048576) :
 ztz N a (zes m g) (zel (zcb r m g) a).Page (zel (zcb r m g) a).Rights r.Memory r.Mons r.Buffer r.IoBuffer=some (zkU<|zff r m g a false):=by
 unfold ztz oN
 conv=>zeta
 exact must (zbq b) rfl
def z8f {N:Nat}{r:Host}{m g a b q:Int}{R:OA}{r10}{u5 u6 u7 u8 u9}(A:LookAt r m g q b)(c:r10 (a,u5,(zel (zcb (zcD (mended r m q b) m g a) m g) a).Page,(zel (zcb (zcD (mended r m q b) m g a) m g) a).Rights,u6,u7,u8,u9,(zcD (mended r m q b) m g a).Memory,(zcD (mended r m q b) m g a).Mons,(zcD (mended r m q b) m g a).Buffer,(zcD (mended r m q b) m g a).IoBuffer,())=R) :
 zu6 N r.Memory r.Mons r.Buffer r.IoBuffer m q b g a r10 u5 u6 u7 u8 u9=R:=by
 have M:=zm6 A.kp A.hm A.hg;have F:=zm6 (A.fill a) A.hm A.hg;unfold zu6 oN
 conv=>zeta
 exact must (zbq A.mend) (must (zB M.hm)<|must (zB M.ht)<|must (zB M.hg)<|must (zbq M.hk)<|must (zB M.ht)<|shr<|must (zB F.ht) (must rfl c))
def lk_3 {N:Nat}{r:Host}{m g a b q:Int}{c:Bool}{r10}{u5 u6 u7 u8 u9}(A:LookAt r m g q b)(h:r10 (a,u5,(zel (zcb (zcD (mended r m q b) m g a) m g) a).Page,(zel (zcb (zcD (mended r m q b) m g a) m g) a).Rights,u6,u7,u8,u9,(zcD (mended r m q b) m g a).Memory,(zcD (mended r m q b) m g a).Mons,(zcD (mended r m q b) m g a).Buffer,(zcD (mended r m q b) m g a).IoBuffer,())=some (zkU<|zff (zcD (mended r m q b) m g a) m g a c))(i:r10 (a,u5,(zel (zcb r m g) a).Page,(zel (zcb r m g) a).Rights,u6,u7,u8,u9,r.Memory,r.Mons,r.Buffer,r.IoBuffer,())=some (zkU<|zff r m g a c)) :
 zpv N r.Mons m g a r.Memory r.Buffer r.IoBuffer q b r10 u5 u6 u7 u8 u9=some (zkU<|cond (ze5 r m g a b) (zff (zcD (mended r m q b) m g a) m g a c)<|zff r m g a c):=by
 unfold zpv oN nB
 conv=>zeta
 refine brN (λd=>?_) (λd=>br (λe=>?_) λe=>must rfl (brN (λf=>?_) λf=>?_))
 .rw [zuY<|z1a d];exact z8f A h
 .rw [zuY<|z1b e];exact z8f A h
 .rw [zuY<|z1c f];exact z8f A h
 .rw [z0K<|z1d d e f];exact i
def zbav {N:Nat}{r:Host}{m g a b q:Int}{u6 u7 u8 u9}(A:LookAt r m g q b) :
 zty N m g a b q (zes m g) u6 u7 u8 u9 r.Memory r.Mons r.Buffer r.IoBuffer=some (zkU<|cond (ze5 r m g a b) (zff (zcD (mended r m q b) m g a) m g a true)<|zff r m g a true):=by
 have M:=zm6 ⟨A.fit.1,rfl⟩ A.hm A.hg;have F:=zm6 (A.fill a) A.hm A.hg;unfold zty oN
 conv=>zeta
 exact must (zB M.hm) (must (zB M.ht) (must rfl (shr<|lk_3 A (zbau (r:=zcD (mended r m q b) m g a) (m:=m) (g:=g) F.hi)<|zbau (r:=r) (m:=m) (g:=g) M.hi)))
def zbax {N:Nat}{r:Host}{m g a b q:Int}{u6 u7 u8 u9}(A:LookAt r m g q b) :
 ztA N m g a b q (zes m g) u6 u7 u8 u9 r.Memory r.Mons r.Buffer r.IoBuffer=some (zkU<|cond (ze5 r m g a b) (zff (zcD (mended r m q b) m g a) m g a false)<|zff r m g a false):=by
 have M:=zm6 ⟨A.fit.1,rfl⟩ A.hm A.hg;have F:=zm6 (A.fill a) A.hm A.hg;unfold ztA oN
 conv=>zeta
 exact must (zB M.hm) (must (zB M.ht) (must rfl (shr<|lk_3 A (zbaw (r:=zcD (mended r m q b) m g a) (m:=m) (g:=g) F.hb)<|zbaw (r:=r) (m:=m) (g:=g) M.hb)))
def zbay {N:Nat}{r:Host}{m g b a q:Int}{e:Bool}{u6 u7 u8 u9}(A:LookAt r m g q a) :
 ztB N m g b a e q u6 u7 u8 u9 r.Memory r.Mons r.Buffer r.IoBuffer=some (zkU<|zg0 r (zun r e) m g b a q e):=by
 unfold ztB oN
 conv=>zeta
 cases e
 .show _=some (zkU<|zg0 r r.Buffer m g b a q false)
  refine zda rfl (must rfl (shr (must rfl (br (λc=>must rfl (br (λd=>?_) λd=>?_)) λc=>?_))))
  .rw [zFY<|zpe c d];rfl
  .rw [zph<|zpe c d];exact zbax A
  .rw [zph<|zFU c];exact zbax A
 .show _=some (zkU<|zg0 r r.IoBuffer m g b a q true)
  refine must rfl (must rfl (shr (must rfl (br (λc=>must rfl (br (λd=>?_) λd=>?_)) λc=>?_))))
  .rw [zFY<|zpe c d];rfl
  .rw [zph<|zpe c d];exact zbav A
  .rw [zph<|zFU c];exact zbav A
def zbdM (r:Host)(m q:Int)(a:Bool):zun (zbN r m q) a=zun r a:=by cases a<;>rfl
def zbaz {N:Nat}{r:Host}{m g b a:Int}{c:Bool}{z1 z2 z3 z4}(k:SmH r)(hg:zbZ r m g=true)(h:zgK a=true) :
 ztC N m g b a c z1 z2 z3 z4 r.Memory r.Mons r.Buffer r.IoBuffer (ix r.Mons m mZ).Guests=some (zkU (lookOf r (zun r c) m g b a c)):=by
 obtain⟨l,f,i⟩:=zdh hg;unfold ztC oN nB
 conv=>zeta
 refine must (zB i) (must rfl (brN (fun e=>?_) (fun e=>?_)))
 .have:zb5 r m g b a=false:=by
   unfold zb5;rw[hg,h,show ze6 (zcB r m g) b a=false from e];rfl
  rw[zio this];rfl
 .have hl:zb5 r m g b a=true:=by
   unfold zb5;rw[hg,h,show ze6 (zcB r m g) b a=true from e];rfl
  obtain⟨A,B⟩:=zEP k hl;rw[zKc hl];have j:hasB (zco (zcB r m g) b a) (ln (ix r.Mons m mZ).Dirty)=true:=zd6 (zcL A.fit.1 f).2.2.2.1 A.hq;refine shr (br (fun d=>?_) (fun d=>?_))
  .rw [d]
   show _=some (zkU (zg0 (zbN r m (zco (zcB r m g) b a)) (zun r c) m g b a (zco (zcB r m g) b a) c))
   rw[<- zbdM r m (zco (zcB r m g) b a) c];exact must (zB f) (must (zB j) (shr (zbay (r:=zbN r m (zco (zcB r m g) b a)) B)))
  .rw [d];exact zbay A
def zWA (a:Host)(b d:Int)(e c:Int)(f:Bool)(s:zAY a b d e c f=true):∃N,zK8 N a b d e c f=some [aH<|zAV a b d e c f,aI<|zAW a b d e c f,aB<|zAX a b d e c f]:=by
 have i:=(zT a).1 (zO.1 s);refine⟨0,?_⟩;show _=some (zkU<|lookOf a (zun a f) b d e c f);unfold zK8 oN nB;conv=>zeta
 refine must (zbq<|(zT _).2 i) (must (zbq<|(zT _).2 i)<|shr (must rfl (brN (λj=>?_) λj=>?_)));{rw [zio<|zpi<|zOY j];rfl};refine brN (λg=>?_) (λg=>?_);{rw [zio<|zpi<|zOZ g];rfl};have q:zcA a b=ix a.Mons b mZ:=(by unfold zcA;rw[show hasB b (ln a.Mons)=true from g];rfl);rw[q];refine must rfl (brN (λk=>?_) λk=>?_);{rw [zio<|zpi<|zO0 k];rfl};have hg:=zO1 j g k;have m:∀{n:Int},zgK n=false->zb5 a b d e n=false:=λ{n} h=>(by unfold zb5;rw[hg,h];rfl);rw[zm3,zm3];cases l:ieq c 1;{cases p:ieq c 2;{have:zgK c=false:=(by unfold zgK;rw[l,p];rfl);rw[zio<|m this];rfl};{exact zbaz (r:=a) i hg (by unfold zgK;rw[l,p];rfl)}};{exact zbaz (r:=a) i hg (by unfold zgK;rw[l];rfl)}
def zPs:vM 232 zE5:=kF6 ziw zA zcf zhy zYm zWA
def zbad:zY:=[(232,zE5),(38,zkl)]++zol
def zVC:zS zbad:=zh zPs (zh zoO ziw)
@[simp] abbrev zAU (h:Host)(m g b a:Int):Bool:=pc (zdm h)
@[simp] abbrev zup (h:Host)(m g page need:Int):Host:=(lookOf h h.Buffer m g page need false).1
@[simp] abbrev zuq (h:Host)(m g page need:Int):Int:=(lookOf h h.Buffer m g page need false).2.1
@[simp] abbrev zAT (h:Host)(m g b a:Int):Bool:=(lookOf h h.Buffer m g b a false).2.2
def zE4:Run:=rF5 dH dI dI dI dI λb c d e f=>(zAU b c d e f,[aH<|zup b c d e f,aI<|zuq b c d e f,aB<|zAT b c d e f])
def zKW (N:Nat)(a:Host)(b c:Int)(d e:Int):OA:=
 (oN (zAY a b c d e false)<|some [aH<|zAV a b c d e false,aI<|zAW a b c d e false,aB<|zAX a b c d e false])
def zWp (a:Host)(b c:Int)(d e:Int)(f:zAU a b c d e=true):∃N,zKW N a b c d e=some [aH<|zup a b c d e,aI<|zuq a b c d e,aB<|zAT a b c d e]:=by refine⟨0,?_⟩;unfold zKW oN;exact must f rfl
def zPc:vM 130 zE4:=kF5 zVC zA zcf zhy (zq []) zWp
def zbae:zY:=[(130,zE4)]++zbad
def z7B:zS zbae:=zh zPc zVC
def brought (n a b:Int):Int:=bif ilt n a then a else (cond (ilt b a) a<|zP9 n b)
@[simp] abbrev zsx (_ _ _:Int):Bool:=true
@[simp] abbrev ztq (n a b:Int):Int:=brought n a b
def ztU:Run:=rF3 dI dI dI λb c d=>(zsx b c d,[aI<|ztq b c d])
def zHl (N:Nat)(b a c:Int):OA:=
 (cond (ilt c a) (some [aI a])<|cond (ilt b a) (some [aI a])<|cond (igt b c) (some [aI c])<|some [aI b])
def zTS (a b c:Int)(g:zsx a b c=true):∃N,zHl N a b c=some [aI<|ztq a b c]:=by refine⟨0,?_⟩;unfold zHl;unfold ztq brought zP9;cases d:ilt c b<;>cases e:ilt a b<;>cases f:igt a c<;>simp [igt] at * <;> omega
def zw0:vM 186 ztU:=kF3 zoJ zA zo zn (zq []) zTS
structure RI (a:List Bare) (i:Nat) (l:List Bare):Prop where
 len:l.length=a.length
 sm:z1t l
 eq:∀k,i<=k->l[k]?=a[k]?
def RI.up {a l:List Bare}{i:Nat}(h:RI a i l)(x:Bare)(b:SmB x):RI a (i+1) (up l (i:Int) x):=
 ⟨by rw[zhR];exact h.len,zbcq h.sm b,λk c=>by rw[zbc7 (by omega)];exact h.eq k (by omega)⟩
structure RJ (l:List Bare) (i:Nat) (l':List Bare):Prop where
 len:l'.length=l.length
 sm:SmB (ix l' (i:Int) zYJ)
 up:∀x,E.up l' (i:Int) x=E.up l (i:Int) x
def RJ.next {l a:List Bare}{i:Nat}(h:RJ l i a)(b:i<l.length)(x:Bare)(c:SmB x):RJ l i (E.up a (i:Int) x):=
 ⟨by rw[zhR];exact h.len,by rw[zez (by rw[h.len];exact b)];exact c,λy=>by rw[zxQ];exact h.up y⟩
def z4E:zY:=[(141,zir)]++zbae
def zSk:zS z4E:=zh zvu z7B
def znc:Run:=rF3 dH dI dI λb c d=>(zcn b c d,[aH<|zb3 b c d,aB<|zbT b c d])
abbrev zij (a:Host)(b c:Int):Int :=
 (zgC<|ix (zcA a b).Guests c zu)
abbrev zds (a:Host)(b c:Int):Int :=
 (zgU<|ix (zcA a b).Guests c zu)
abbrev zyD (a:Host)(b c:Int):Host :=
 (zup a b c (zb0<|zij a b c)<|zcF<|ieq (zds a b c) 4)
abbrev zii (a:Host)(b c:Int):Guest :=
 (ix (ix (zl a).Mons b zi).Guests c zu)
abbrev zmN (c:lN)(a b:Int):Guest :=
 (ix (ix c a zi).Guests b zu)
abbrev zyE (a:Host)(b c:Int):Int :=
 (zuq a b c (zb0<|zij a b c)<|zcF<|ieq (zds a b c) 4)
def zmO (N:Nat)(f:Host)(c d:Int):OA:=
 let j:=zyE f c d;let h:=ieq (zds f c d) 4;let a:=zij f c d;let b:=zyD f c d;let k:=inb c<|ln b.Mons;let e:=ix (zcA f c).Guests d zu;let g:=ix b.Mons c zi;let l:=inb d<|ln g.Guests; (oN (zbz a)<|oN (zhX h)<|oN (zAU f c d (zb0 a)<|zcF h)<|cond (nB<|zAT f c d (zb0 a)<|zcF h) (oN (zbz a)<|oN (zfa (zb0 a) h)<|oN (zcv e<|zdF (zb0 a) h)<|oN k<|oN l<|share (up b.Mons c ({g with Guests:=(up g.Guests d<|zcr e<|zdF (zb0 a) h)}:Mon)) λi=>some [aH ({b with Mons:=i}:Host),aB true])<|cond h (oN (zbz a)<|oN (zey b.Memory j (zdc a) e.A)<|oN (zQ e)<|oN k<|oN l<|share (up b.Mons c ({g with Guests:=(up g.Guests d<|zci e)}:Mon)) λi=>some [aH ({b with Memory:=(zeP b.Memory j (zdc a) e.A),Mons:=i}:Host),aB true])<|oN (zbz a)<|oN (zeQ b.Memory j<|zdc a)<|oN (zjr e<|zgl b.Memory j<|zdc a)<|oN k<|oN l<|share (up b.Mons c ({g with Guests:=(up g.Guests d<|ziR e<|zgl b.Memory j<|zdc a)}:Mon)) λi=>some [aH ({b with Mons:=i}:Host),aB true])
def zmP (N:Nat)(f:Host)(a b:Int)(d:lN):OA:=
 let c:=zmN d a b;let e:=ix d a zi;let g:=({ (zii f a b) with Prog:=c.Prog,Written:=c.Written,Live:=c.Live,Seen:=c.Seen}:Guest); (oN (zQ g)<|oN (inb b<|ln e.Guests)<|share (up d a ({e with Guests:=(up e.Guests b<|zci g)}:Mon)) λh=>some [aH ({ (zl f) with Mons:=h}:Host),aB true])
def zmQ (N:Nat)(e:Host)(a d:Int):OA:=
 let g:=(zl e).Mons;let c:=zii e a d;let b:=ix g a zi;let h:=ap b.Outs [(zdD c.Prog c.Pc).X]; (cond (ieq (zds e a d) 7) (oN (zQ c)<|oN (inb d<|ln b.Guests)<|share (up g a ({b with Guests:=(up b.Guests d<|zln c)}:Mon)) λf=>some [aH ({ (zl e) with Mons:=f}:Host),aB true])<|cond (ilt (ln b.Outs) 40) (oN (zdp c.Prog c.Pc)<|oN (few<|ln h)<|oN (cond (ieq a a) true false)<|share (up g a ({b with Outs:=h}:Mon)) λf=>zmP N e a d f)<|oN (zQ c)<|oN (inb d<|ln b.Guests)<|share (up g a ({b with Guests:=(up b.Guests d<|zci c)}:Mon)) λf=>some [aH ({ (zl e) with Mons:=f}:Host),aB true])
def zmR (N:Nat)(a:Int)(g:Host)(b:Int):OA:=
 let f:=zl g;let j:=zds g a b;let d:=zii g a b;let c:=ix f.Mons a zi;let l:=zkC c.Traps d.Ctl.Traps<|ziE j; (oN (inb a<|ln f.Mons)<|oN (inb b<|ln c.Guests)<|oN (zpM j)<|oN (zoa c.Traps d.Ctl.Traps<|ziE j)<|cond (ieq l 1) (oN (znR d j)<|oN (inb b<|ln c.Guests)<|share (up f.Mons a ({c with Guests:=(up c.Guests b<|zkA d j)}:Mon)) λe=>some [aH ({f with Mons:=e}:Host),aB true])<|cond (ieq l 2) (cond (ilt c.Own 1000000000) (share (up f.Mons a ({c with Own:=(zM .i64 c.Own 1)}:Mon)) (λe=>let i:=ix e a zi;let h:=zmN e a b;let k:=ap i.Outs [(zdD h.Prog d.Pc).X];let q:=({d with Prog:=h.Prog,Written:=h.Written,Live:=h.Live,Seen:=h.Seen}:Guest); (cond (ieq j 7) (oN (zQ q)<|oN (inb b<|ln i.Guests)<|share (up e a ({i with Guests:=(up i.Guests b<|zln q)}:Mon)) λm=>some [aH ({f with Mons:=m}:Host),aB true])<|cond (ilt (ln i.Outs) 40) (oN (zdp h.Prog d.Pc)<|oN (few<|ln k)<|oN (cond (ieq a a) true false)<|share (up e a ({i with Outs:=k}:Mon)) (λm=>let p:=ix m a zi;let n:=ix p.Guests b zu;let r:=({d with Prog:=n.Prog,Written:=n.Written,Live:=n.Live,Seen:=n.Seen}:Guest); (oN (zQ r)<|oN (inb b<|ln p.Guests)<|share (up m a ({p with Guests:=(up p.Guests b<|zci r)}:Mon)) λs=>some [aH ({f with Mons:=s}:Host),aB true])))<|zmP N g a b e)))<|zmQ N g a b)<|zmQ N g a b)
def zjX (N:Nat)(a:Host)(b c:Int):OA:=
 (oN (zdo a b)<|oN (zc4 (ziD a b) c)<|oN (inb b<|ln (zl a).Mons)<|share (up (zl a).Mons b ({ (ix (zl a).Mons b zi) with Guests:=(zeX (ziD a b) c).Guests}:Mon)) λd=>some [aH ({ (zl a) with Mons:=d}:Host),aB true])
def zgL (N:Nat)(a:Host)(b c:Int):OA:=
 let d:=zds a b c; (cond (ieq d 5) (cond (ieq d 5) (zmR N b a c)<|zjX N a b c)<|cond (ieq d 7) (zmR N b a c)<|zjX N a b c)
def zC3 (N:Nat)(a:Host)(c b:Int):OA:=
 let f:=aH<|zl a;let e:=zds a c b;let d:=(zcA a c).Guests;let g:=ix d b zu; (oN (zbt a)<|oN (zdo a c)<|oN (zeb a)<|cond (nB<|zdZ a) (some [f,aB false])<|cond (nB<|zma a c) (some [f,aB false])<|oN (zby b<|ln d)<|cond (nB<|zdk b<|ln d) (some [f,aB false])<|oN (inb b<|ln d)<|oN (zbp g)<|cond (ieq e 0) (some [f,aB false])<|oN (inb b<|ln d)<|oN (zbp g)<|oN (zbp g)<|cond (ieq e 3) (cond (ieq e 3) (zmO N a c b)<|zgL N a c b)<|cond (ieq e 4) (zmO N a c b)<|zgL N a c b)
def zW8 {h:Host}{m:Int}(a:hasB m (ln h.Mons)=true):zcA h m=ix h.Mons m mZ:=by unfold zcA;rw[a];rfl
def is_1 {N:Nat}{a:Host}{c d:Int}(l:SmH a)(p:zbZ a c d=true) :
 zmO N a c d=some (zeI (zhL (ziZ a c d (gOf a c d)<|ieq (zN<|gOf a c d) 4) c d (gOf a c d)<|ieq (zN<|gOf a c d) 4,true)):=by
 obtain⟨s,i,n⟩:=zdh p;have m:=zlv l i n;have k:=zuX (b:=a.Buffer) (page:=zbo (address<|gOf a c d)) (need:=zcc (ieq (zN<|gOf a c d) 4)) (io:=false) l p;have F:=zm6 k i n;have g:=zW8 i;have e:zds a c d=zN (gOf a c d):=by show zgU (ix (zcA a c).Guests d gZ)=_;rw[g];rfl
 have f:zij a c d=address (gOf a c d):=by show zgC (ix (zcA a c).Guests d gZ)=_;rw[g];rfl
 have q:zyD a c d=(ziZ a c d (gOf a c d)<|ieq (zN<|gOf a c d) 4).1:=by show zup a c d (zb0<|zij a c d) (zcF<|ieq (zds a c d) 4)=_;rw[e,f];rfl
 have r:zyE a c d=(ziZ a c d (gOf a c d)<|ieq (zN<|gOf a c d) 4).2.1:=by show zuq a c d (zb0<|zij a c d) (zcF<|ieq (zds a c d) 4)=_;rw[e,f];rfl
 unfold zmO oN nB
 conv=>zeta
 rw[q,e,f,r,g];unfold zhL;refine must rfl (must rfl (must (zbq<|(zT _).2 l)<|brN (λh=>?_) λh=>?_))
 .rw [show (ziZ a c d (gOf a c d)<|ieq (zN<|gOf a c d) 4).2.2=false from h]
  exact must rfl (must rfl (must (zbq m)<|must (zB F.hm) (must (zB F.hg) rfl)))
 .rw [show (ziZ a c d (gOf a c d)<|ieq (zN<|gOf a c d) 4).2.2=true from h]
  refine br (λj=>?_) (λj=>?_)
  .have kk:=k.shape.1.1;rw[j] at F kk ⊢;exact must rfl (must (zbq kk)<|must (zbq m)<|must (zB F.hm) (must (zB F.hg) rfl))
  .rw [j] at F ⊢;exact must rfl (must rfl (must (zbq m)<|must (zB F.hm) (must (zB F.hg) rfl)))
def is_2 {N:Nat}{c:Host}{d:List Mon}{a b:Int}(g:SmG (gOf c a b))(f:hasB b (ln (ix d a mZ).Guests)=true)(e:zmN d a b=zii c a b) :
 zmP N c a b d=some (zeI (zgH {c with Mons:=d} a b<|zca<|gOf c a b,true)):=by
 unfold zmP oN
 conv=>zeta
 rw[e];exact must (zbq g) (must (zB f) rfl)
def leftG (x:Guest)(w:Int):Guest:=bif ieq w 7 then held x else zca x
def zA4 (h:Host)(m:Int)(x:Guest)(w:Int):Host:=bif ieq w 7 then h else ziG h m (zcp x.Prog x.Pc).X
def zzp {h:Host}{m:Int}{x:Guest}{w:Int}(a:ieq w 7=true):leftG x w=held x/\zA4 h m x w=h:=by unfold leftG zA4;rw[a];exact⟨rfl,rfl⟩
def znU {h:Host}{m:Int}{x:Guest}{w:Int}(a:ieq w 7=false):leftG x w=zca x/\zA4 h m x w=ziG h m (zcp x.Prog x.Pc).X:=by unfold leftG zA4;rw[a];exact⟨rfl,rfl⟩
def z0S {h:Host}{m n:Int}(a:ilt (ln (ix h.Mons m mZ).Outs) 40=true):ziG h m n={h with Mons:=up h.Mons m {ix h.Mons m mZ with Outs:=ap (ix h.Mons m mZ).Outs [n]}}:=by unfold ziG;rw[a];rfl
def z0R {h:Host}{m n:Int}(a:ilt (ln (ix h.Mons m mZ).Outs) 40=false):ziG h m n=h:=by unfold ziG;rw[a];rfl
def is_3 {N:Nat}{b:Host}{a c:Int}(k:SmH b)(g:hasB a (ln b.Mons)=true)(e:hasB c (ln (ix b.Mons a mZ).Guests)=true)(j:zds b a c=zN (gOf b a c)) :
 zmQ N b a c=some (zeI (zgH (zA4 b a (gOf b a c)<|zN<|gOf b a c) a c<|leftG (gOf b a c)<|zN<|gOf b a c,true)):=by
 have i:=zlv k g e;unfold zmQ oN
 conv=>zeta
 rw[j];refine br (λd=>?_) (λd=>br (λf=>?_) λf=>?_)
 .rw [(zzp (x:=gOf b a c) (h:=b) (m:=a) d).1,(zzp (x:=gOf b a c) d).2];exact must (zbq i) (must (zB e) rfl)
 .rw [(znU (x:=gOf b a c) (h:=b) (m:=a) d).1,(znU (x:=gOf b a c) d).2,z0S f];refine must rfl (must (zUN f)<|must (zM5 _)<|shr<|is_2 i ?_ ?_)
  .rw [zpY g];exact e
  .show ix (ix (up b.Mons a _) a mZ).Guests c gZ=_
   rw[zpY g]
 .rw [(znU (x:=gOf b a c) (h:=b) (m:=a) d).1,(znU (x:=gOf b a c) d).2,z0R f];exact must (zbq i) (must (zB e) rfl)
def zbdC {h:Host}{m g:Int}{x:Guest}{w:Int}(d:ieq w 6=false)(c:ieq w 5=false->ieq w 6=false->ieq w 7=true)(e:zd5 x.Ctl.Traps (zfX w)=false):zlc h m g x w=zgH (zA4 (zeT h m x w) m x w) m g (leftG x w):=by unfold zlc;cases b:ieq w 7;{have a:ieq w 5=true:=(by cases a:ieq w 5;{have:=c a d;rw[b] at this;cases this};{rfl});obtain⟨f,i⟩:=tr3 x x.Ctl.Traps w d b e a;rw[(znU (x:=x) (h:=zeT h m x w) (m:=m) b).1,(znU (x:=x) b).2,f];unfold zhe;rw[i,a];rfl};{have a:ieq w 5=false:=(by have:w=7:=qD b;rw[this];rfl);rw[(zzp (x:=x) (h:=zeT h m x w) (m:=m) b).1,(zzp (x:=x) b).2,tr4 x x.Ctl.Traps w d c e a,zFx a]}
def is_p {f:Host}{d:List Mon}{a c:Int}(h:SmG (gOf f a c))(g:hasB c (ln (ix d a mZ).Guests)=true)(e:(ix (ix d a zi).Guests c zu)=gOf f a c) :
 (cond (zQ ({ (ix (ix (zl f).Mons a zi).Guests c zu) with Prog:=(ix (ix d a zi).Guests c zu).Prog,Written:=(ix (ix d a zi).Guests c zu).Written,Live:=(ix (ix d a zi).Guests c zu).Live,Seen:=(ix (ix d a zi).Guests c zu).Seen}:Guest)) (cond (inb c<|ln (ix d a zi).Guests) (share (up d a ({ (ix d a zi) with Guests:=(up (ix d a zi).Guests c<|zci ({ (ix (ix (zl f).Mons a zi).Guests c zu) with Prog:=(ix (ix d a zi).Guests c zu).Prog,Written:=(ix (ix d a zi).Guests c zu).Written,Live:=(ix (ix d a zi).Guests c zu).Live,Seen:=(ix (ix d a zi).Guests c zu).Seen}:Guest))}:Mon)) λi=>some [.agg<|zbn ({ (zl f) with Mons:=i}:Host),.one<|.b true]) none) none)=some (zeI (zgH {f with Mons:=d} a c<|zca<|gOf f a c,true)):=by
 rw[e];exact must (zbq h) (must (zB g) rfl)
def is_o {f:Host}{d:List Mon}{a c:Int}(l:SmG (gOf f a c))(n:hasB a (ln d)=true)(k:hasB c (ln (ix d a mZ).Guests)=true)(e:(ix (ix d a zi).Guests c zu)=gOf f a c) :
 (cond (ieq (zN<|gOf f a c) 7) (cond (zQ ({ (ix (ix (zl f).Mons a zi).Guests c zu) with Prog:=(ix (ix d a zi).Guests c zu).Prog,Written:=(ix (ix d a zi).Guests c zu).Written,Live:=(ix (ix d a zi).Guests c zu).Live,Seen:=(ix (ix d a zi).Guests c zu).Seen}:Guest)) (cond (inb c<|ln (ix d a zi).Guests) (share (up d a ({ (ix d a zi) with Guests:=(up (ix d a zi).Guests c<|zln ({ (ix (ix (zl f).Mons a zi).Guests c zu) with Prog:=(ix (ix d a zi).Guests c zu).Prog,Written:=(ix (ix d a zi).Guests c zu).Written,Live:=(ix (ix d a zi).Guests c zu).Live,Seen:=(ix (ix d a zi).Guests c zu).Seen}:Guest))}:Mon)) λg=>some [.agg<|zbn ({ (zl f) with Mons:=g}:Host),.one<|.b true]) none) none)<|cond (ilt (ln (ix d a zi).Outs) 40) (cond (zdp (ix (ix d a zi).Guests c zu).Prog (ix (ix (zl f).Mons a zi).Guests c zu).Pc) (cond (few<|ln<|ap (ix d a zi).Outs [(zdD (ix (ix d a zi).Guests c zu).Prog (ix (ix (zl f).Mons a zi).Guests c zu).Pc).X]) (cond (cond (ieq a a) true false) (share (up d a ({ (ix d a zi) with Outs:=(ap (ix d a zi).Outs [(zdD (ix (ix d a zi).Guests c zu).Prog (ix (ix (zl f).Mons a zi).Guests c zu).Pc).X])}:Mon)) λg=>cond (zQ ({ (ix (ix (zl f).Mons a zi).Guests c zu) with Prog:=(ix (ix g a zi).Guests c zu).Prog,Written:=(ix (ix g a zi).Guests c zu).Written,Live:=(ix (ix g a zi).Guests c zu).Live,Seen:=(ix (ix g a zi).Guests c zu).Seen}:Guest)) (cond (inb c<|ln (ix g a zi).Guests) (share (up g a ({ (ix g a zi) with Guests:=(up (ix g a zi).Guests c<|zci ({ (ix (ix (zl f).Mons a zi).Guests c zu) with Prog:=(ix (ix g a zi).Guests c zu).Prog,Written:=(ix (ix g a zi).Guests c zu).Written,Live:=(ix (ix g a zi).Guests c zu).Live,Seen:=(ix (ix g a zi).Guests c zu).Seen}:Guest))}:Mon)) λp=>some [.agg<|zbn ({ (zl f) with Mons:=p}:Host),.one<|.b true]) none) none) none) none) none)<|cond (zQ ({ (ix (ix (zl f).Mons a zi).Guests c zu) with Prog:=(ix (ix d a zi).Guests c zu).Prog,Written:=(ix (ix d a zi).Guests c zu).Written,Live:=(ix (ix d a zi).Guests c zu).Live,Seen:=(ix (ix d a zi).Guests c zu).Seen}:Guest)) (cond (inb c<|ln (ix d a zi).Guests) (share (up d a ({ (ix d a zi) with Guests:=(up (ix d a zi).Guests c<|zci ({ (ix (ix (zl f).Mons a zi).Guests c zu) with Prog:=(ix (ix d a zi).Guests c zu).Prog,Written:=(ix (ix d a zi).Guests c zu).Written,Live:=(ix (ix d a zi).Guests c zu).Live,Seen:=(ix (ix d a zi).Guests c zu).Seen}:Guest))}:Mon)) λg=>some [.agg<|zbn ({ (zl f) with Mons:=g}:Host),.one<|.b true]) none) none)=some (zeI (zgH (zA4 {f with Mons:=d} a (gOf f a c)<|zN<|gOf f a c) a c<|leftG (gOf f a c)<|zN<|gOf f a c,true)):=by
 rw[e];refine br (λi=>?_) (λi=>br (λj=>?_) λj=>?_)
 .rw [(zzp (x:=gOf f a c) (h:={f with Mons:=d}) (m:=a) i).1,(zzp (x:=gOf f a c) i).2];exact must (zbq l) (must (zB k) rfl)
 .rw [(znU (x:=gOf f a c) (h:={f with Mons:=d}) (m:=a) i).1,(znU (x:=gOf f a c) i).2,z0S (h:={f with Mons:=d}) j];refine must rfl (must (zUN j)<|must (zM5 _)<|shr<|is_p l ?_ ?_)
  .rw [zpY (h:={f with Mons:=d}) n];exact k
  .show ix (ix (up d a _) a mZ).Guests c gZ=_
   rw[zpY (h:={f with Mons:=d}) n];exact e
 .rw [(znU (x:=gOf f a c) (h:={f with Mons:=d}) (m:=a) i).1,(znU (x:=gOf f a c) i).2,z0R (h:={f with Mons:=d}) j];exact must (zbq l) (must (zB k) rfl)
def tf (b:Bool):b=false\/b=true:=by cases b<;>simp
def is_4 {N:Nat}{a:Host}{b c:Int}(r:SmH a)(d:hasB b (ln a.Mons)=true)(e:hasB c (ln (ix a.Mons b mZ).Guests)=true)(q:zds a b c=zN (gOf a b c))(l:ieq (zN<|gOf a b c) 6=false)(f:ieq (zN<|gOf a b c) 5=false->ieq (zN<|gOf a b c) 6=false->ieq (zN<|gOf a b c) 7=true) :
 zmR N b a c=some (zeI (zlc a b c (gOf a b c)<|zN<|gOf a b c,true)):=by
 have s:=zlv r d e;have n:=is_3 (N:=N) r d e q;have g:ine (zN<|gOf a b c) 6=true:=by rw[zm3,l];rfl
 unfold zmR oN
 conv=>zeta
 rw[q];refine must (zB d) (must (zB e) (must rfl (must rfl ?_)));rw[show ieq (zkC (ix a.Mons b zi).Traps (zii a b c).Ctl.Traps<|ziE<|zN<|gOf a b c) 1=zd5 (gOf a b c).Ctl.Traps (zfX<|zN<|gOf a b c) from zbdo _ _ _]
 refine br (λh=>?_) (λh=>?_)
 .obtain⟨e1,e2⟩:=tr2 (gOf a b c) (gOf a b c).Ctl.Traps _ l f h;have i:zeT a b (gOf a b c) (zN<|gOf a b c)=a:=by unfold zeT;rw[g,zbdp h];rfl
  unfold zlc;rw[i,zOo e2,e1];exact must (zbq s) (must (zB e) rfl)
 .rw [zbdC l f h];have i:zeT a b (gOf a b c) (zN<|gOf a b c)=bif ieq (znG (ix a.Mons b mZ).Traps (gOf a b c).Ctl.Traps<|zfX<|zN<|gOf a b c) 2 then owned a b else a:=by unfold zeT;rw[g];rfl
  rw[i];refine br (λm=>?_) (λm=>?_)
  .rw [show ieq (znG (ix a.Mons b mZ).Traps (gOf a b c).Ctl.Traps<|zfX<|zN<|gOf a b c) 2=true from m]
   simp only[cT];unfold owned;refine br (λk=>?_) (λk=>?_)
   rotate_left
   .rw [k];exact n
   rw[k];refine shr ?_;have p:=zpY d {ix a.Mons b mZ with Own:=zM .i64 (ix a.Mons b mZ).Own 1};have j:hasB b (ln<|up a.Mons b {ix a.Mons b mZ with Own:=zM .i64 (ix a.Mons b mZ).Own 1})=true:=zfk d;have t:zmN (up a.Mons b {ix a.Mons b mZ with Own:=zM .i64 (ix a.Mons b mZ).Own 1}) b c=zii a b c:=by show ix (ix (up a.Mons b _) b mZ).Guests c gZ=_;rw[p]
   refine is_o s j ?_ t;rw[p];exact e
  .rw [show ieq (znG (ix a.Mons b mZ).Traps (gOf a b c).Ctl.Traps<|zfX<|zN<|gOf a b c) 2=false from m]
   exact n
def z8a {N:Nat}{a:Host}{b c:Int}(r:SmH a)(q:zbZ a b c=true)(m:ieq (zN<|gOf a b c) 0=false){y:Guest}{o:LI}(s:(stepped (zK a b) c (gOf a b c)<|zN<|gOf a b c).Guests=up (ix a.Mons b mZ).Guests c y)(p:SmB (zK a b)) :
 zjX N a b c=some (zeI (zgH a b c y,true)):=by
 obtain⟨k,f,l⟩:=zdh q;have g:=zx4 k f;have i:(zK a b).Guests=(ix a.Mons b mZ).Guests:=by unfold zK;rw[f];rfl
 have e:hasB c (ln (zK a b).Guests)=true:=by rw[i];exact l
 have h:gAt (zK a b) c=gOf a b c:=by unfold gAt;rw[e,i];rfl
 have d:zfN (zK a b) c=true:=by unfold zfN;rw[e,g,h,m];rfl
 have j:zeG (zK a b) c=stepped (zK a b) c (gOf a b c) (zN<|gOf a b c):=by unfold zeG;rw[d,h];rfl
 have n:(zeX (ziD a b) c).Guests=up (ix a.Mons b mZ).Guests c y:=by show (zeG (zK a b) c).Guests=_;rw[j,s]
 unfold zjX oN;rw[n];exact must (zbq<|(zT _).2 r) (must (zbq p) (must (zB f) rfl))
def zBp {h:Host}{m:Int}(g:SmH h)(f:hasB m (ln h.Mons)=true):SmB (zK h m):=by
 have b:=g.2.1.2 _ (zbK f mZ);have e:∀(d:List LI) (q:Int),SmM d->(zcN d q).length<=1048576:=λd q h=>zX0 h;have c:∀p:Int,(zcH h m p).length<=1048576:=by intro p;unfold zcH;cases hasB m (ln h.Mons);{exact(by decide:zBw.length<=1048576)};{cases hasB p 8;{exact(by decide:zBw.length<=1048576)};{simp only [cT];cases ine (zbE (ix h.Mons m zi).Outer p).Page (-1);{exact e _ _ b.2.1};{exact e _ _ g.1}}}
 have j:∀(n i:Nat),∀x∈zcO h m n i,x.length<=1048576:=by
  intro n
  induction n with
  |zero=>intro i x a;cases a
  |succ n k=>intro i x a;rcases qG.1 a with rfl|a;{exact c _};{exact k (i+1) x a}
 unfold zK;rw[f];exact⟨⟨by show (zcO h m 8 0).length<=1048576;rw[zBb];decide,j 8 0⟩,b.2.2.2.1,b.2.2.2.2.1⟩
def zya (b:Bare)(g:Int)(x:Guest):(zd3 b g x).Guests=up b.Guests g x:=rfl
def zQf (a:Host)(b c:Int)(q:zbL big [aH a,aI b,aI c])(B:zcn a b c=true):∃N,zC3 N a b c=some [aH (zb3 a b c),aB (zbT a b c)]:=by
 have g:=(zT a).1 (zO.1 B);refine⟨0,?_⟩;show _=some (zeI (zbv a b c));unfold zC3 oN nB;conv=>zeta
 refine must (zbq ((zT _).2 g)) (must (zbq ((zT _).2 g)) (must rfl (brN (fun u=>?_) (fun u=>brN (fun l=>?_) (fun l=>?_)))));{rw [zjc (zOY u)];rfl};{rw [zjc (zOZ l)];rfl};have y:=zW8 (h:=a) (m:=b) l;have n:zds a b c=zN (gOf a b c):=(by show zgU (ix (zcA a b).Guests c gZ)=_;rw[y];rfl);rw[y,n];refine must rfl (brN (fun p=>?_) (fun p=>?_));{rw [zjc (zO0 p)];rfl};have j:=zO1 u l p;have s:hasB b (ln a.Mons)=true:=l;have t:hasB c (ln (ix a.Mons b mZ).Guests)=true:=p;have q:=zBp g s;have r:(zK a b).Guests=(ix a.Mons b mZ).Guests:=(by unfold zK;rw[s];rfl);rw[zjO j];unfold zOh;refine must (zB t) (must rfl (br (fun d=>?_) (fun d=>must (zB t) (must rfl (must rfl (br (fun i=>must i ?_) (fun i=>br (fun k=>?_) (fun k=>?_))))))));{rw [d];rfl};{have e:zN (gOf a b c)=3:=qD i;have T:=is_1 (N:=0) g j;rw[T];rw[e];rfl};{have e:zN (gOf a b c)=4:=qD k;have T:=is_1 (N:=0) g j;rw[T];rw[e];rfl}
 .have fin:∀{R:Host×Bool},zgL 0 a b c=some (zeI R)->R=(bif ieq (zN (gOf a b c)) 0 then (a,false) else (bif ieq (zN (gOf a b c)) 1 then (zgH a b c (interrupted (gOf a b c)),true) else (bif ieq (zN (gOf a b c)) 2 then (zgH a b c (plainly (gOf a b c)),true) else
   (cond (cond (ieq (zN (gOf a b c)) 3) true (ieq (zN (gOf a b c)) 4)) (zhL (ziZ a b c (gOf a b c) (ieq (zN (gOf a b c)) 4)) b c (gOf a b c) (ieq (zN (gOf a b c)) 4),true) (zlc a b c (gOf a b c) (zN (gOf a b c)),true)))))->zgL 0 a b c=_:=fun h e=>h.trans (congrArg (fun x=>some (zeI x)) e)
  have w:ieq (zN (gOf a b c)) 5=false->ieq (zN (gOf a b c)) 7=false->zgL 0 a b c=zjX 0 a b c:=by
   intro v A;unfold zgL;conv=>zeta
   rw[n];exact zda v (zda A rfl)
  rcases tf (ieq (zN (gOf a b c)) 1) with f|f
  .rcases tf (ieq (zN (gOf a b c)) 2) with w2|w2
   .rcases tf (ieq (zN (gOf a b c)) 6) with w6|w6
    .have h57:ieq (zN (gOf a b c)) 5=false->ieq (zN (gOf a b c)) 6=false->ieq (zN (gOf a b c)) 7=true:=fun v z=>zUY _ d f w2 i k v z;have T:=is_4 (N:=0) g s t n w6 h57;refine fin (R:=(zlc a b c (gOf a b c) (zN (gOf a b c)),true)) ?_ (by rw[d,f,w2,i,k];rfl);unfold zgL;conv=>zeta
     rw[n];cases C:ieq (zN (gOf a b c)) 5;{exact zda rfl (must (h57 C w6) T)};{exact must rfl (must rfl T)}
    {have e:zN (gOf a b c)=6:=qD w6;refine fin (R:=(zgH a b c (zfY (gOf a b c) (gOf a b c).Ctl.Traps (zN (gOf a b c))),true)) ?_ ?_;{rw [w (by rw[e];rfl) (by rw[e];rfl)];refine z8a (o:=[]) g j d ?_ q;unfold stepped znA;rw[f,w2,i,k,(tr1 (gOf a b c) (gOf a b c).Ctl.Traps _ w6).2];show (zd3 (zK a b) c _).Guests=_;rw[zya,r]};{rw [d,f,w2,i,k];unfold zlc zeT;rw[zOo (tr1 (gOf a b c) (gOf a b c).Ctl.Traps _ w6).2,zm3,w6];rfl}}
   {have e:zN (gOf a b c)=2:=qD w2;refine fin (R:=(zgH a b c (plainly (gOf a b c)),true)) ?_ (by rw[d,f,w2];rfl);rw[w (by rw[e];rfl) (by rw[e];rfl)];refine z8a (o:=[]) g j d ?_ q;unfold stepped;rw[f,w2];show (zd3 (zK a b) c _).Guests=_;rw[zya,r]}
  {have e:zN (gOf a b c)=1:=qD f;refine fin (R:=(zgH a b c (interrupted (gOf a b c)),true)) ?_ (by rw[d,f];rfl);rw[w (by rw[e];rfl) (by rw[e];rfl)];refine z8a (o:=[]) g j d ?_ q;unfold stepped;rw[f];show (zd3 (zK a b) c _).Guests=_;rw[zya,r]}
def zoM:vM 37 znc:=hF3 zSk zA zcf zhy (zq []) zQf
def zbaf:zY:=[(37,znc)]++z4E
def z7C:zS zbaf:=zh zoM zSk
def zbag:zY:=[(186,ztU)]++zbaf
def z7D:zS zbag:=zh zw0 z7C
def cnt (l:List Mon):List Nat:=l.map λx=>x.Guests.length
def zbcJ {l a:List Mon}(h:zeW a=zeW l):cnt a=cnt l:=by have e:∀l:List Mon,cnt l=(zeW l).map List.length:=λl=>(by simp[cnt,zeW]);rw[e,e,h]
def zVm {l:List Mon}{m:Int}{x:Mon}(b:hasB m (ln l)=true)(c:x.Guests.length=(ix l m mZ).Guests.length):cnt (up l m x)=cnt l:=by obtain⟨k,rfl,a⟩:=zeo (n:=l.length) b;unfold cnt up;rw[List.map_set,kF,c,zbk a];have:=@u1 _ (l.map λx=>x.Guests.length) k (by simpa using a);simpa using this
def zbbk {l a:List Mon}(h:cnt a=cnt l):a.length=l.length:=by have:=congrArg List.length h;simpa [cnt] using this
def zbcK {l b:List Mon}(h:cnt b=cnt l)(m:Int):(ix b m mZ).Guests.length=(ix l m mZ).Guests.length:=by have a:(cnt b)[m.toNat]?=(cnt l)[m.toNat]?:=(by rw[h]);unfold cnt at a;rw[qP,qP]at a;unfold ix;simp only[j9];cases c:b[m.toNat]? <;> cases d:l[m.toNat]? <;> rw [c,d]at a<;>simp at a ⊢;exact a
def zbb5 (h:Host)(m p:Int):(zef h m p).Memory=h.Memory:=(zhj (zfE h m p) m p noSlot).2
def zbb4 (h:Host):(zdw h).Memory=h.Memory:=by unfold zdw;cases ieq (ln<|zcx h) 0;{rfl};{exact zbb5 _ _ _}
def zbb3 (m:List LI)(p:Int)(c:LI):(zjQ m p c).length=m.length:=by unfold zjQ;cases hasB p (ln m);{rfl};{cases zcI c;{rfl};{simp}}
def zbb1 (m:List LI)(p c v:Int):(zbQ m p c v).length=m.length:=by unfold zbQ;cases zgJ m p c;{rfl};{cases zk v 0 99;{rfl};{simp}}
def z2G (h:Host)(m p:Int):(fetched h m p).Memory.length=h.Memory.length:=by unfold fetched zfM;rw[(zhj _ _ _ _).2];unfold landing;rw[zbb3,zbb4]
def zW7 (h:Host)(m p n:Int):(zkS h m p n).Memory=h.Memory:=by unfold zkS;cases ieq (wand .i64 n 2) 0;{unfold opened;cases ieq (wand .i64 (ix (ix (zbN h m p).Mons m mZ).Outer p sZ).Rights 2) 0;{rfl};{exact(zhj _ _ _ _).2}};{rfl}
def z5C (h:Host)(m p n:Int):(mended h m p n).Memory.length=h.Memory.length:=by unfold mended;cases ieq (ix (ix h.Mons m mZ).Outer p sZ).Page (-1);{exact congrArg List.length (zW7 _ _ _ _)};{exact(congrArg List.length<|zW7 _ _ _ _).trans (z2G _ _ _)}
def z5D (h:Host)(m g p:Int)(a:Bool):(zxk h m g p a).Memory=h.Memory:=by cases a<;>rfl
def z8p (h:Host)(b:List Entry)(m g c a q:Int)(d:Bool):(zg0 h b m g c a q d).1.Memory.length=h.Memory.length:=by unfold zg0;cases zi5 b m g c a;{cases ze5 h m g c a;{exact congrArg List.length (z5D _ _ _ _ _)};{exact(congrArg List.length<|z5D _ _ _ _ _).trans (z5C h m q a)}};{rfl}
def zbb2 (h:Host)(b:List Entry)(m g page need:Int)(io:Bool):(lookOf h b m g page need io).1.Memory.length=h.Memory.length:=by unfold lookOf;cases zb5 h m g page need;{rfl};{simp only [cT];rw[z8p];cases ieq need 2<;>rfl}
structure Keep (h r:Host):Prop where
 shape:Shape r
 cnt:cnt r.Mons=cnt h.Mons
 mem:r.Memory.length=h.Memory.length
def Keep.has {h r:Host}(k:Keep h r){m:Int}(a:hasB m (ln h.Mons)=true):hasB m (ln r.Mons)=true:=by rw[ln,zbbk k.cnt];exact a
def Keep.hg {h r:Host}(k:Keep h r){m g:Int}(hg:hasB g (ln (ix h.Mons m mZ).Guests)=true):hasB g (ln (ix r.Mons m mZ).Guests)=true:=by rw[ln,zbcK k.cnt];exact hg
def Keep.trans {a b c:Host}(h:Keep a b)(k:Keep b c):Keep a c:=⟨k.shape,k.cnt.trans h.cnt,k.mem.trans h.mem⟩
def Keep.rfl' {h:Host}(a:Shape h):Keep h h:=⟨a,rfl,rfl⟩
def zpg {h:Host}{m g:Int}{x:Guest}(b:Shape h)(a:hasB m (ln h.Mons)=true)(c:SmG x):Keep h (zgH h m g x):=⟨z3y b a c,zVm a (by simp),rfl⟩
def zEx {h:Host}{b:List Entry}{m g page need:Int}{io:Bool}(c:SmH h)(a:zbZ h m g=true):Keep h (lookOf h b m g page need io).1:=by have k:=zuX (b:=b) (page:=page) (need:=need) (io:=io) c a;exact⟨k.shape,zbcJ k.gs,zbb2 _ _ _ _ _ _ _⟩
def z5l {h:Host}{p c v:Int}(a:Shape h):Keep h {h with Memory:=zbQ h.Memory p c v}:=⟨zSX a<|zBr a.1.1,rfl,zbb1 _ _ _ _⟩
def z2s {h:Host}{m:Int}(a:Shape h)(b:hasB m (ln h.Mons)=true):Keep h (owned h m):=by obtain⟨c,d⟩:=zcL a b;unfold owned;cases ilt (ix h.Mons m mZ).Own 1000000000;{exact Keep.rfl' a};{exact⟨zjN a c d,zVm b rfl,rfl⟩}
def z2r {h:Host}{m n:Int}(b:Shape h)(c:hasB m (ln h.Mons)=true):Keep h (ziG h m n):=by obtain⟨a,d⟩:=zcL b c;unfold ziG;cases e:ilt (ln (ix h.Mons m mZ).Outs) 40;{exact Keep.rfl' b};{have f:=qD e;simp only[ln]at f;refine⟨zjN b ⟨a.1,a.2.1,a.2.2.1,a.2.2.2.1,?_,a.2.2.2.2.2⟩ d,zVm c rfl,rfl⟩;simp[ap];omega}
def z5n {h:Host}{m g:Int}{x:Guest}{w:Int}(d:Shape h)(b:hasB m (ln h.Mons)=true)(e:SmG x):Keep h (zlc h m g x w):=by have a:Keep h (zeT h m x w):=(by unfold zeT;cases (cond (ine w 6) (ieq (znG (ix h.Mons m mZ).Traps x.Ctl.Traps<|zfX w) 2) false);{exact Keep.rfl' d};{exact z2s d b});have f:Keep (zeT h m x w) (zhe (zeT h m x w) m x w):=(by unfold zhe;cases (cond (zhz x.Ctl.Traps w) (ieq w 5) false);{exact Keep.rfl' a.shape};{exact z2r a.shape (a.has b)});have c:=a.trans f;exact c.trans (zpg c.shape (c.has b)<|zFp _ _ e)
def z5m {h:Host}{m g:Int}(f:SmH h)(e:zbZ h m g=true):Keep h (zbv h m g).1:=by obtain⟨l,a,n⟩:=zdh e;have d:=zlv f a n;have i:=(zgj f l).1;rw[zjO e];unfold zOh;cases ieq (zN<|gOf h m g) 0;{cases ieq (zN<|gOf h m g) 1;{cases ieq (zN<|gOf h m g) 2;{cases (cond (ieq (zN<|gOf h m g) 3) true<|ieq (zN<|gOf h m g) 4);{exact z5n i a d};{have k:=zEx (b:=h.Buffer) (page:=zbo (address<|gOf h m g)) (need:=zcc (ieq (zN<|gOf h m g) 4)) (io:=false) f e;show Keep h (zhL (ziZ h m g (gOf h m g)<|ieq (zN<|gOf h m g) 4) m g (gOf h m g)<|ieq (zN<|gOf h m g) 4);unfold zhL;cases (ziZ h m g (gOf h m g)<|ieq (zN<|gOf h m g) 4).2.2;{exact k.trans (zpg k.shape (k.has a) d)};{cases ieq (zN<|gOf h m g) 4;{have k:=zEx (b:=h.Buffer) (page:=zbo (address<|gOf h m g)) (need:=zcc false) (io:=false) f e;exact k.trans (zpg k.shape (k.has a)<|zOc _ d)};{have k:=zEx (b:=h.Buffer) (page:=zbo (address<|gOf h m g)) (need:=zcc true) (io:=false) f e;have q:=z5l (p:=(ziZ h m g (gOf h m g) true).2.1) (c:=zdJ (address<|gOf h m g)) (v:=(gOf h m g).A) k.shape;have j:=k.trans q;exact j.trans (zpg j.shape (j.has a)<|zmI d)}}}};{exact zpg i a (zIw d)}};{exact zpg i a (z06 d)}};{exact Keep.rfl' i}
structure Same (h r:Host):Prop where
 sm:SmH r
 cnt:cnt r.Mons=cnt h.Mons
 mem:r.Memory.length=h.Memory.length
 st:r=h\/Shape r
def Same.rfl' {h:Host}(a:SmH h):Same h h:=⟨a,rfl,rfl,.inl rfl⟩
def Same.trans {a b c:Host}(h:Same a b)(k:Same b c):Same a c:=⟨k.sm,k.cnt.trans h.cnt,k.mem.trans h.mem,by
 rcases k.st with e|e
 .rw [e];exact h.st
 .exact .inr e⟩
def zFl {h:Host}(m g:Int)(b:SmH h):Same h (zbv h m g).1:=by cases a:zbZ h m g;{rw [zjc a];exact Same.rfl' b};{have k:=z5m b a;exact⟨k.shape.1,k.cnt,k.mem,.inr k.shape⟩}
def zbah:zY:=[(141,zir),(52,zir),(186,ztU)]++z1L
def zvn:zS zbah:=zh zvu (zh zvz<|zh zw0 zoJ)
def zVg {a b:Bool}(h:(a=true)↔(b=true)):a=b:=by cases a<;>cases b<;>simp_all
@[simp] def zbdE (x:Int):zk x 0 3=hasB x 4:=zVg (by rw[zfL];unfold hasB;rw[decide_eq_true_iff];omega)
@[simp] def z6I (x:Int):zk x 0 7=hasB x 8:=zVg (by rw[zfL];unfold hasB;rw[decide_eq_true_iff];omega)
def ze7 (t:List Slot)(p:Int)(s:Slot):List Slot:=bif hasB p (ln t) then up t p s else t
@[simp] def zbdF (t:List Slot)(p:Int)(s:Slot):(ze7 t p s).length=t.length:=by unfold ze7;cases hasB p (ln t)<;>simp
@[simp] abbrev zqM (t:List Slot)(p:Int)(s:Slot):Bool:=pc (t.length<=1048576)
@[simp] abbrev znq (t:List Slot)(p:Int)(s:Slot):List Slot:=ze7 t p s
def zzX:Run:=rF3 (dS .slot) dI (dT .slot) λb c d=>(zqM b c d,[aS .slot<|znq b c d])
def zDF (N:Nat)(a:lS)(b:Int)(c:Slot):OA:=
 (oN (few<|ln<|ap [] a)<|oN (zL b 0<|wsub .i64 (ln a) 1)<|cond (zk b 0<|wsub .i64 (ln a) 1) (oN (inb b<|ln<|ap [] a)<|share (up (ap [] a) b c) λd=>some [aS .slot d])<|some [aS .slot<|ap [] a])
def zQN (a:List Slot)(b:Int)(c:Slot)(d:zqM a b c=true):∃N,zDF N a b c=some [aS .slot<|znq a b c]:=by have e:=zO.1 d;refine⟨0,?_⟩;unfold zDF oN;refine mu (must rfl (br (λ_=>mu (shr ?_)) λ_=>?_));all_goals first|rfl|(simp only [*,znq,ze7,cT,cF]<;>rfl)|simp_all[Ty.cells,znq,ze7]
def zJK:vM 376 zzX:=kF3 zvn zA zo zn (zq []) zQN
def ziI (p n:Int):Bool:=bif zdU p then zk n 0 7 else false
def zuz (p n:Int):Int:=bif ziI p n then wor .i64 p (zmM .i64 1 n) else p
def cv7 {n:Int}(h:hasB n 8=true):wcv .u64 n=n/\ile 0 n=true:=by have:=qD h;exact⟨zRx (by omega) (by omega),qI (by omega)⟩
@[simp] abbrev zlF (p n:Int):Bool:=true
@[simp] abbrev zh8 (p n:Int):Int:=zuz p n
@[simp] abbrev zob (p n:Int):Bool:=ziI p n
def zCp:Run:=rF2 dI dI λb c=>(zlF b c,[aI<|zh8 b c,aB<|zob b c])
def zHA (N:Nat)(a b:Int):OA:=
 (oN (zcj a)<|cond (nB<|zeJ a) (some [aI a,aB false])<|oN (zL b 0 7)<|cond (nB<|zk b 0 7) (some [aI a,aB false])<|oN (ile 0<|wcv .u64 b)<|some [aI<|wor .i64 a<|zmM .i64 1<|wcv .u64 b,aB true])
def zT5 (b a:Int)(c:zlF b a=true):∃N,zHA N b a=some [aI<|zh8 b a,aB<|zob b a]:=by have d:=@cv7 a;refine⟨0,?_⟩;unfold zHA oN nB;refine must rfl (brN (λ_=>?_) λ_=>must rfl (brN (λ_=>?_) λ_=>mu ?_));all_goals first|rfl|(simp only [*,zh8,zob,zuz,ziI,cT,cF]<;>rfl)|simp_all[Ty.cells,zh8,zob,zuz,ziI]
def zMF:vM 377 zCp:=kF2 zvn zA zo zn (zq []) zT5
def posts (c:Ctl)(n:Int):Bool:=bif zmV c then (cond (zk n 0 7) (ieq (wand .i64 (zld .i64 c.Post n) 1) 1) false) else false
@[simp] abbrev zFg (c:Ctl)(n:Int):Bool:=true
@[simp] abbrev zz2 (c:Ctl)(n:Int):Bool:=posts c n
def zIi:Run:=rF2 dC dI λb c=>(zFg b c,[aB<|zz2 b c])
def zRT (N:Nat)(b:Ctl)(a:Int):OA:=
 (oN (zgD b)<|cond (zrO b) (oN (zL a 0 7)<|cond (zk a 0 7) (oN (ile 0<|wcv .u64 a)<|some [aB<|ieq (wand .i64 (zld .i64 b.Post<|wcv .u64 a) 1) 1]) oF) oF)
def zZx (b:Ctl)(a:Int)(c:zFg b a=true):∃N,zRT N b a=some [aB<|zz2 b a]:=by have d:=@cv7 a;refine⟨0,?_⟩;unfold zRT oN;refine must rfl (br (λ_=>must rfl (br (λ_=>mu ?_) λ_=>?_)) λ_=>?_);all_goals first|rfl|(simp only [*,zz2,posts,cT,cF]<;>rfl)|simp_all[Ty.cells,zz2,posts]
def zTu:vM 379 zIi:=kF2 zvn zA zo zn (zq []) zZx
def zct (b:Bare)(g:Int):Bool:=bif zbY b then hasB g (ln b.Guests) else false
def zeh {b:Bare}{g:Int}:(zct b g=true)↔zbY b=true/\hasB g (ln b.Guests)=true:=by unfold zct;cases zbY b<;>simp
@[simp] abbrev zlH (b:Bare)(g:Int):Bool:=zct b g
def zIj:Run:=rF2 (dT .bare) dI λb c=>(zc4 b c,[aB<|zlH b c])
def zRW (N:Nat)(a:Bare)(b:Int):OA:=
 (oN (zjo a)<|cond (zcU a) (oN (zL b 0<|wsub .i64 (ln a.Guests) 1)<|some [aB<|zk b 0<|wsub .i64 (ln a.Guests) 1]) oF)
def zZz (a:Bare)(b:Int)(c:zc4 a b=true):∃N,zRW N a b=some [aB<|zlH a b]:=by have d:=zO.1 c;have e:a.Guests.length<=1048576:=d.2.1.1;refine⟨0,?_⟩;unfold zRW oN;refine must rfl (br (λ_=>must rfl ?_) λ_=>?_);all_goals first|rfl|(simp only [*,zlH,zct,cT,cF]<;>rfl)|simp_all[Ty.cells,zlH,zct]
def zTy:vM 375 zIj:=kF2 zvn zA zo zn (zq []) zZz
def zbai:zY:=[(376,zzX),(377,zCp),(379,zIi),(375,zIj)]++zbah
def zl5:zS zbai:=zh zJK (zh zMF<|zh zTu<|zh zTy zvn)
def z9c {b:Type}{l:List b}{i:Int}{d:b}(h:hasB i (ln l)=true):up l i (ix l i d)=l:=by obtain⟨k,rfl,a⟩:=zeo (n:=l.length) h;unfold up;rw[zbk a,kF];exact u1 a
def zvq {b:Bare}{g:Int}(h:hasB g (ln b.Guests)=true):gAt b g=ix b.Guests g zu:=by unfold gAt;rw[h];rfl
def z6o {b:Bare}{g:Int}(h:hasB g (ln b.Guests)=true):zd3 b g (gAt b g)=b:=by unfold zd3;rw[zvq h,z9c h]
def chg (b:Bare)(g:Int)(c:Bool)(x:Guest):Bare:=bif (cond (zct b g) c false) then zd3 b g x else b
def zcu (b:Bare)(g:Int)(c:Bool):Bool:=bif zct b g then c else false
def zyu (p:Int)(s:Slot):Bool:=bif hasB p 4 then zen s 8 else false
def zFm (x:Guest)(p:Int)(s:Slot):Guest:={x with Written:=ze7 x.Written p s}
def zet (x:Guest)(p:Int):Guest:={x with Live:=ze7 x.Live p (zbE x.Written p)}
def zmj:GExit:=⟨0,0,false,0⟩
def zx3 (x:Guest)(v:Int):Bool:=bif zk v 0 99 then (cond (ieq x.Exit.Kind 2) true<|ieq x.Exit.Kind 3) else false
def zAo (x:Guest)(v:Int):Guest:=zca (stopped (cond (ieq x.Exit.Kind 2) {x with A:=v} x) zmj)
def zE1 (x:Guest):Bool:=bif ieq x.Exit.Kind 1 then true else ieq x.Exit.Kind 4
def zBe (x:Guest):Guest:=bif ieq x.Exit.Kind 1 then stopped x zmj else held (stopped x zmj)
def zpN (x:Guest)(n:Int):Guest:={x with Pending:=zuz x.Pending n}
def zOP (x:Guest)(c:Ctl):Guest:={x with Ctl:=c}
def zbbV {x:Guest}{n:Int}(h:ziI x.Pending n=false):zpN x n=x:=by unfold zpN zuz;rw[h];rfl
def z8R {x:Guest}(p:Int)(s:Slot)(h:SmG x):SmG (zFm x p s):=⟨h.1,by simpa [zFm] using h.2.1,h.2.2.1,h.2.2.2⟩
def zOa {x:Guest}(p:Int)(h:SmG x):SmG (zet x p):=⟨h.1,h.2.1,by simpa [zet] using h.2.2.1,h.2.2.2⟩
def z8P {x:Guest}(v:Int)(h:SmG x):SmG (zAo x v):=by unfold zAo;cases ieq x.Exit.Kind 2<;>exact zmI h
def z8Q {x:Guest}(h:SmG x):SmG (zBe x):=by unfold zBe;cases ieq x.Exit.Kind 1;{exact zXZ (g:=stopped x zmj) h};{exact h}
def zrX {b:Bare}{g:Int}{c:Bool}{x:Guest}(h:SmB b)(a:SmG x):SmB (chg b g c x):=by unfold chg;cases (cond (zct b g) c false);{exact h};{exact zo4 h a}
@[simp] abbrev zsw (b:Bare)(g p:Int)(s:Slot):Bool:=pc (SmB b)
@[simp] abbrev ze9 (b:Bare)(g p:Int)(s:Slot):Bare:=chg b g (zyu p s) (zFm (gAt b g) p s)
@[simp] abbrev zf5 (b:Bare)(g p:Int)(s:Slot):Bool:=zcu b g (zyu p s)
def ztT:Run:=rF4 (dT .bare) dI dI (dT .slot) λb c d e=>(zsw b c d e,[aT .bare<|ze9 b c d e,aB<|zf5 b c d e])
def zHk (N:Nat)(f:Bare)(b c:Int)(d:Slot):OA:=
 let a:=zbu f;let e:=ix a.Guests b zu; (oN (zcl f)<|oN (zc4 a b)<|cond (nB<|zlH a b) (some [aT .bare a,aB false])<|oN (zL c 0 3)<|cond (nB<|zk c 0 3) (some [aT .bare a,aB false])<|oN (znp d 8)<|cond (nB<|zjE d 8) (some [aT .bare a,aB false])<|oN (inb b<|ln a.Guests)<|oN (zqM e.Written c d)<|oN (inb b<|ln a.Guests)<|share (up a.Guests b ({e with Written:=(znq e.Written c d)}:Guest)) λg=>some [aT .bare ({a with Guests:=g}:Bare),aB true])
def zTR (b:Bare)(a c:Int)(d:Slot)(e:zsw b a c d=true):∃N,zHk N b a c d=some [aT .bare<|ze9 b a c d,aB<|zf5 b a c d]:=by
 have f:=zO.1 e;have g:=zjv a f;have k:zct b a=true->hasB a (ln b.Guests)=true:=λh=>(zeh.1 h).2;have i:zct b a=true->gAt b a=ix b.Guests a zu:=λh=>zvq (zeh.1 h).2;have j:=g.2.1;refine⟨0,?_⟩;unfold zHk oN nB;conv=>zeta
 refine mu (mu<|brN (λ_=>?_) λ_=>must rfl (brN (λ_=>?_) λ_=>must rfl (brN (λ_=>?_) λ_=>mu (mu<|mu<|shr ?_))));all_goals first|rfl|(simp only [*,ze9,zf5,chg,zcu,zyu,zFm,zd3,cT,cF]<;>rfl)|simp_all[Ty.cells,ze9,zf5,chg,zcu,zyu,zFm,zd3]
def zwZ:vM 361 ztT:=kF4 zl5 zA zo zn (zq []) zTR
@[simp] abbrev zt1 (b:Bare)(g p:Int):Bool:=pc (SmB b)
@[simp] abbrev zfF (b:Bare)(g p:Int):Bare:=chg b g (hasB p 4) (zet (gAt b g) p)
@[simp] abbrev zi9 (b:Bare)(g p:Int):Bool:=zcu b g (hasB p 4)
def zqa:Run:=rF3 (dT .bare) dI dI λb c d=>(zt1 b c d,[aT .bare<|zfF b c d,aB<|zi9 b c d])
def zBL (N:Nat)(f:Bare)(d b:Int):OA:=
 let a:=zbu f;let e:=inb d<|ln a.Guests;let c:=ix a.Guests d zu; (oN (zcl f)<|oN (zc4 a d)<|cond (nB<|zlH a d) (some [aT .bare a,aB false])<|oN (zL b 0 3)<|cond (nB<|zk b 0 3) (some [aT .bare a,aB false])<|oN e<|oN e<|oN (zfh c.Written b)<|oN (zqM c.Live b<|zer c.Written b)<|oN e<|share (up a.Guests d ({c with Live:=(znq c.Live b<|zer c.Written b)}:Guest)) λg=>some [aT .bare ({a with Guests:=g}:Bare),aB true])
def zNp (b:Bare)(a c:Int)(d:zt1 b a c=true):∃N,zBL N b a c=some [aT .bare<|zfF b a c,aB<|zi9 b a c]:=by
 have e:=zO.1 d;have f:=zjv a e;have j:zct b a=true->hasB a (ln b.Guests)=true:=λh=>(zeh.1 h).2;have g:zct b a=true->gAt b a=ix b.Guests a zu:=λh=>zvq (zeh.1 h).2;have i:=f.2.2.1;refine⟨0,?_⟩;unfold zBL oN nB;conv=>zeta
 refine mu (mu<|brN (λ_=>?_) λ_=>must rfl (brN (λ_=>?_) λ_=>mu (mu (must rfl (mu<|mu<|shr ?_)))));all_goals first|rfl|(simp only [*,zfF,zi9,chg,zcu,zet,zd3,cT,cF]<;>rfl)|simp_all[Ty.cells,zfF,zi9,chg,zcu,zet,zd3]
def zue:vM 364 zqa:=kF3 zl5 zA zo zn (zq []) zNp
@[simp] abbrev znl (b:Bare)(g v:Int):Bool:=pc (SmB b)
@[simp] abbrev zdN (b:Bare)(g v:Int):Bare:=chg b g (zx3 (gAt b g) v) (zAo (gAt b g) v)
@[simp] abbrev zeB (b:Bare)(g v:Int):Bool:=zcu b g (zx3 (gAt b g) v)
def zoU:Run:=rF3 (dT .bare) dI dI λb c d=>(znl b c d,[aT .bare<|zdN b c d,aB<|zeB b c d])
def zyK (N:Nat)(i:Bare)(b e:Int):OA:=
 let a:=zbu i;let h:=inb b<|ln a.Guests;let d:=(⟨0,0,false,0⟩:GExit);let c:=ix a.Guests b zu;let g:=({c with A:=e}:Guest); (oN (zcl i)<|oN (zc4 a b)<|cond (nB<|zlH a b) (some [aT .bare a,aB false])<|oN (zL e 0 99)<|cond (nB<|zk e 0 99) (some [aT .bare a,aB false])<|oN h<|cond (ieq c.Exit.Kind 2) (oN (zcv g d)<|oN (zQ<|zcr g d)<|oN h<|share (up a.Guests b<|zci<|zcr g d) λf=>some [aT .bare ({a with Guests:=f}:Bare),aB true])<|cond (ieq c.Exit.Kind 3) (oN (zcv c d)<|oN (zQ<|zcr c d)<|oN h<|share (up a.Guests b<|zci<|zcr c d) λf=>some [aT .bare ({a with Guests:=f}:Bare),aB true])<|some [aT .bare a,aB false])
def zJ1 (b:Bare)(a c:Int)(d:znl b a c=true):∃N,zyK N b a c=some [aT .bare<|zdN b a c,aB<|zeB b a c]:=by
 have e:=zO.1 d;have f:=zjv a e;have j:zct b a=true->hasB a (ln b.Guests)=true:=λh=>(zeh.1 h).2;have g:zct b a=true->gAt b a=ix b.Guests a zu:=λh=>zvq (zeh.1 h).2;have i:_/\_/\_/\_:=f;refine⟨0,?_⟩;unfold zyK oN nB;conv=>zeta
 refine mu (mu<|brN (λ_=>?_) λ_=>must rfl (brN (λ_=>?_) λ_=>mu (br (λ_=>mu (mu<|mu<|shr ?_)) λ_=>br (λ_=>mu (mu<|mu<|shr ?_)) λ_=>?_)));all_goals first|rfl|(simp only [*,zdN,zeB,chg,zcu,zx3,zAo,zmj,zd3,SmG,stopped,cT,cF]<;>rfl)|simp_all[Ty.cells,zdN,zeB,chg,zcu,zx3,zAo,zmj,zd3,SmG,stopped]
def ztd:vM 365 zoU:=kF3 zl5 zA zo zn (zq []) zJ1
@[simp] abbrev zdP (b:Bare)(g:Int):Bare:=chg b g (zE1<|gAt b g) (zBe<|gAt b g)
@[simp] abbrev zeD (b:Bare)(g:Int):Bool:=zcu b g (zE1<|gAt b g)
def zoW:Run:=rF2 (dT .bare) dI λb c=>(zc4 b c,[aT .bare<|zdP b c,aB<|zeD b c])
def zyM (N:Nat)(g:Bare)(c:Int):OA:=
 let a:=zbu g;let f:=inb c<|ln a.Guests;let d:=(⟨0,0,false,0⟩:GExit);let b:=ix a.Guests c zu; (oN (zcl g)<|oN (zc4 a c)<|cond (nB<|zlH a c) (some [aT .bare a,aB false])<|oN f<|cond (ieq b.Exit.Kind 1) (oN (zcv b d)<|oN f<|share (up a.Guests c<|zcr b d) λe=>some [aT .bare ({a with Guests:=e}:Bare),aB true])<|cond (ieq b.Exit.Kind 4) (oN (zcv b d)<|oN (zQ<|zcr b d)<|oN f<|share (up a.Guests c<|zln<|zcr b d) λe=>some [aT .bare ({a with Guests:=e}:Bare),aB true])<|some [aT .bare a,aB false])
def zJ3 (b:Bare)(a:Int)(c:zc4 b a=true):∃N,zyM N b a=some [aT .bare<|zdP b a,aB<|zeD b a]:=by
 have d:=zO.1 c;have e:=zjv a d;have i:zct b a=true->hasB a (ln b.Guests)=true:=λh=>(zeh.1 h).2;have f:zct b a=true->gAt b a=ix b.Guests a zu:=λh=>zvq (zeh.1 h).2;have g:_/\_/\_/\_:=e;refine⟨0,?_⟩;unfold zyM oN nB;conv=>zeta
 refine mu (mu<|brN (λ_=>?_) λ_=>mu (br (λ_=>mu (mu<|shr ?_)) λ_=>br (λ_=>mu (mu<|mu<|shr ?_)) λ_=>?_));all_goals first|rfl|(simp only [*,zdP,zeD,chg,zcu,zE1,zBe,zmj,zd3,SmG,stopped,cT,cF]<;>rfl)|simp_all[Ty.cells,zdP,zeD,chg,zcu,zE1,zBe,zmj,zd3,SmG,stopped]
def ztf:vM 366 zoW:=kF2 zl5 zA zo zn (zq []) zJ3
def zbcG {b:Bare}{g:Int}{c:Bool}{x:Guest}(h:zct b g=false):chg b g c x=b:=by unfold chg;rw[h];rfl
def zbbi {b:Bare}{g n:Int}(h:zct b g=true):chg b g (ziI (gAt b g).Pending n) (zpN (gAt b g) n)=zd3 b g (zpN (gAt b g) n):=by unfold chg;rw[h];cases a:ziI (gAt b g).Pending n;{rw [zbbV a,z6o (zeh.1 h).2];rfl};{rfl}
@[simp] abbrev znm (b:Bare)(g n:Int):Bool:=pc (SmB b)
@[simp] abbrev zdO (b:Bare)(g n:Int):Bare:=chg b g (ziI (gAt b g).Pending n) (zpN (gAt b g) n)
@[simp] abbrev zeC (b:Bare)(g n:Int):Bool:=zcu b g (ziI (gAt b g).Pending n)
def zoV:Run:=rF3 (dT .bare) dI dI λb c d=>(znm b c d,[aT .bare<|zdO b c d,aB<|zeC b c d])
def zyL (N:Nat)(e:Bare)(b d:Int):OA:=
 let a:=zbu e;let c:=ix a.Guests b zu; (oN (zcl e)<|oN (zc4 a b)<|cond (nB<|zlH a b) (some [aT .bare a,aB false])<|oN (inb b<|ln a.Guests)<|oN (zlF c.Pending d)<|oN (inb b<|ln a.Guests)<|share (up a.Guests b ({c with Pending:=(zh8 c.Pending d)}:Guest)) λf=>some [aT .bare ({a with Guests:=f}:Bare),aB<|zob c.Pending d])
def zJ2 (a:Bare)(b c:Int)(d:znm a b c=true):∃N,zyL N a b c=some [aT .bare<|zdO a b c,aB<|zeC a b c]:=by
 have i:=zO.1 d;have j:zct a b=true->hasB b (ln a.Guests)=true:=λh=>(zeh.1 h).2;have f:zct a b=true->gAt a b=ix a.Guests b zu:=λh=>zvq (zeh.1 h).2;have g:=@zbbi a b c;have e:=@zbcG a b (ziI (gAt a b).Pending c) (zpN (gAt a b) c);refine⟨0,?_⟩;unfold zyL oN nB;conv=>zeta
 refine mu (mu<|brN (λ_=>?_) λ_=>mu (must rfl (mu<|shr ?_)));all_goals first|rfl|(simp only [*,zdO,zeC,zcu,zd3,zpN,cT,cF]<;>rfl)|simp_all[Ty.cells,zdO,zeC,zcu,zd3,zpN]
def zte:vM 367 zoV:=kF3 zl5 zA zo zn (zq []) zJ2
@[simp] abbrev zsv (b:Bare)(g:Int)(c:Ctl):Bool:=pc (SmB b)
@[simp] abbrev ze8 (b:Bare)(g:Int)(c:Ctl):Bare:=chg b g (zmV c) (zOP (gAt b g) c)
@[simp] abbrev zf4 (b:Bare)(g:Int)(c:Ctl):Bool:=zcu b g (zmV c)
def ztS:Run:=rF3 (dT .bare) dI dC λb c d=>(zsv b c d,[aT .bare<|ze8 b c d,aB<|zf4 b c d])
def zHj (N:Nat)(d:Bare)(b:Int)(c:Ctl):OA:=
 let a:=zbu d; (oN (zcl d)<|oN (zc4 a b)<|cond (nB<|zlH a b) (some [aT .bare a,aB false])<|oN (zgD c)<|cond (nB<|zrO c) (some [aT .bare a,aB false])<|oN (inb b<|ln a.Guests)<|share (up a.Guests b ({ (ix a.Guests b zu) with Ctl:=c}:Guest)) λe=>some [aT .bare ({a with Guests:=e}:Bare),aB true])
def zTQ (a:Bare)(b:Int)(c:Ctl)(d:zsv a b c=true):∃N,zHj N a b c=some [aT .bare<|ze8 a b c,aB<|zf4 a b c]:=by
 have f:=zO.1 d;have g:zct a b=true->hasB b (ln a.Guests)=true:=λh=>(zeh.1 h).2;have e:zct a b=true->gAt a b=ix a.Guests b zu:=λh=>zvq (zeh.1 h).2;refine⟨0,?_⟩;unfold zHj oN nB;conv=>zeta
 refine mu (mu<|brN (λ_=>?_) λ_=>must rfl (brN (λ_=>?_) λ_=>mu (shr ?_)));all_goals first|rfl|(simp only [*,ze8,zf4,chg,zcu,zOP,zd3,cT,cF]<;>rfl)|simp_all[Ty.cells,ze8,zf4,chg,zcu,zOP,zd3]
def zwY:vM 368 ztS:=kF3 zl5 zA zo zn (zq []) zTQ
def zbaX (p c v:Int):Bool:=bif hasB p 8 then (cond (hasB c 4) (zk v 0 99) false) else false
def zzt (b:Bare)(p c v:Int):Bool:=bif zbY b then zbaX p c v else false
def zUQ (b:Bare)(p c v:Int):Bare:=bif zzt b p c v then {b with Memory:=zbQ b.Memory p c v} else b
def zoG (b:Bare):Bare:=bif zbY b then {b with Pending:=zi6 b.Pending} else b
def zvf (b:Bare):Int:=bif zbY b then zpO b.Pending else -1
def zok (b:Bare):Bool:=bif zbY b then !ilt (zeg b.Pending) 0 else false
def zpF (b:Bare)(g a n:Int):Bool:=bif zct b g then (cond (zk a 0 15) (ze6 (gAt b g).Live (zbo a) n) false) else false
def zFM (b:Bare)(g a n:Int):Int:=zco (gAt b g).Live (zbo a) n
def zAC (b:Bare)(g a v:Int):Bool:=bif zpF b g a 2 then zk v 0 99 else false
def z1Y (b:Bare)(g a v:Int):Bare:=bif zAC b g a v then {b with Memory:=zbQ b.Memory (zFM b g a 2) (zdJ a) v} else b
def zUU (b:Bare)(g a:Int):Int:=bif zpF b g a 1 then cellAt b.Memory (zFM b g a 1) (zdJ a) else 0
@[simp] abbrev zfw (b:Bare):Bare:=zoG b
@[simp] abbrev zg1 (b:Bare):Int:=zvf b
@[simp] abbrev zg2 (b:Bare):Bool:=zok b
def ztR:Run:=rF1 (dT .bare) λb=>(zcl b,[aT .bare<|zfw b,aI<|zg1 b,aB<|zg2 b])
def zHi (N:Nat)(b:Bare):OA:=
 let a:=zbu b; (oN (zcl b)<|oN (zjo a)<|cond (nB<|zcU a) (some [aT .bare a,aI<|-1,aB false])<|oN (zcj a.Pending)<|some [aT .bare ({a with Pending:=(zf7 a.Pending)}:Bare),aI<|zf8 a.Pending,aB<|zia a.Pending])
def zTP (a:Bare)(b:zcl a=true):∃N,zHi N a=some [aT .bare<|zfw a,aI<|zg1 a,aB<|zg2 a]:=by
 have c:=zO.1 b;refine⟨0,?_⟩;unfold zHi oN nB;conv=>zeta
 refine mu (must rfl (brN (λ_=>?_) λ_=>must rfl ?_));all_goals first|rfl|(simp only [*,zfw,zg1,zg2,zoG,zvf,zok,zi6,zpO,cT,cF]<;>rfl)|simp_all[Ty.cells,zfw,zg1,zg2,zoG,zvf,zok,zi6,zpO]
def zwX:vM 370 ztR:=kF1 zl5 zA zo zn (zq []) zTP
def zbaj:zY:=zbai
def zVD:zS zbaj:=zl5
def ze0 (l:List Guest)(n:Int):LI:=idxs (λ(x:Guest)=>posts x.Ctl n) l 0
def zWb {d:Type}(p:d->Bool):∀(l:List d) (i:Nat),∀k∈idxs p l i,(i:Int)<=k/\k<(i:Int)+l.length
 |[],_,k,a=>by cases a
 |x::l,i,k,a=>by have c:=zWb p l (i+1);simp only[qV];unfold idxs at a;cases b:p x;{rw [b]at a;have:=c k a;omega};{rw [b]at a;rcases qG.1 a with rfl|a;{omega};{have:=c k a;omega}}
@[simp] abbrev znn (b:Bare)(n:Int):LI:=ze0 b.Guests n
def zzT:Run:=rF2 (dT .bare) dI λb c=>(zeO b c,[aS .int<|znn b c])
def zDw (N:Nat)(c:Bare)(f:Int):OA:=
 (iter (σ:=(Int×Int×Int×LI×lM×lG×LI×Unit)) N (λd a=>let b:=a.2.2.2.2.2.1;let e:=(ix b a.2.1 zu).Ctl; (cond (ilt a.2.1<|ln b) (oN (inb a.2.1<|ln b)<|oN (zFg e a.1)<|cond (zz2 e a.1) (oN (few<|ln<|ap a.2.2.2.1 [a.2.1])<|d (a.1,zM .i64 a.2.1 1,a.2.2.1,ap a.2.2.2.1 [a.2.1],a.2.2.2.2.1,b,a.2.2.2.2.2.2.1,()))<|d (a.1,zM .i64 a.2.1 1,a.2.2.1,a.2.2.2.1,a.2.2.2.2.1,b,a.2.2.2.2.2.2.1,()))<|some [aS .int a.2.2.2.1])) (f,0,c.Pending,[],c.Memory,c.Guests,c.Outs,()))
def zRl:=zq [(378,0,{n:=28,tm:=[(1,ti),(2,.lp 0 0),(5,.sl 0 []),(6,ti)],lo:=[(0,[.sl 1 [],.sl 2 [],.sl 3 [],ti])],ro:=[(0,.int,true),(1,.sl .int,false),(2,.guest,false),(3,.int,false)]})]
def zQE (a:Bare)(b:Int)(g:zeO a b=true):∃N,zDw N a b=some [aS .int<|znn a b]:=by
 have h:=zO.1 g;have e:=zcJ h.2.1.1;refine zcg λN d=>?_;unfold zDw oN;conv=>zeta
 refine(zbj a.Guests (λi (t:LI)=>(b,(i:Int),a.Pending,t,a.Memory,a.Guests,a.Outs,())) _ (λi (x:Guest) (t:LI) f=>bif posts x.Ctl b then (cond (few<|ln<|ap t [(i:Int)]) (f<|ap t [(i:Int)]) none) else f t) (λ(t:LI)=>some [.one<|.s .int t]) (λi c t rec=>?_) (λt rec=>?_) _ ([])<|d e.1).trans ?_;{simp only [zbr c,zZ c,zbk c,zba c e.1,cT]};{simp only [zbl,cF]};exact zvs (λ(x:Guest)=>posts x.Ctl b) _ a.Guests 0 [] (by simpa using e.2)
def zJC:vM 378 zzT:=kF2 zVD zA zo zn zRl zQE
def zbak:zY:=[(378,zzT)]++zbaj
def zVE:zS zbak:=zh zJC zVD
def zF3 (n:Int)(l:List Guest)(k:Int):List Guest:=up l k (zpN (ix l k zu) n)
def zm9 (n:Int)(a:LI)(l:List Guest):List Guest:=a.foldl (zF3 n) l
def zEX (n:Int)(l:List Guest)(k:Int):(zF3 n l k).length=l.length:=zhR _ _ _
def z3B {n:Int}{l:List Guest}{k:Int}(a:hasB k (ln l)=true)(h:zl0 l):zl0 (zF3 n l k):=zF6 h (zOb h a _)
def zFq {n:Int}:∀(a:LI) {l:List Guest},(∀k∈a,hasB k (ln l)=true)->zl0 l->zl0 (zm9 n a l)/\(zm9 n a l).length=l.length
 |[],_,_,h=>⟨h,rfl⟩
 |k::a,l,b,h=>by have e:=z3B (n:=n) (b k (by simp)) h;obtain⟨c,d⟩:=zFq (n:=n) a (l:=zF3 n l k) (λj f=>by rw[ln,zEX];exact b j (by simp[f])) e;exact⟨c,d.trans<|zEX _ _ _⟩
def zVV {e:Type}(n:Int)(K:List Guest->Option e):∀(a:LI) (i:Nat) (l:List Guest),(∀k∈a,hasB k (ln l)=true)->
 goL (λ_ k (t:List Guest) d=>bif inb k (ln t) then (cond (inb k<|ln t) (d<|up t k<|zpN (ix t k zu) n) none) else none) K a i l=K (zm9 n a l)
 |[],_,_,_=>rfl
 |k::a,i,l,h=>by have c:inb k (ln l)=true:=h k (by simp);simp only[goL,c,cT];exact zVV n K a (i+1) (zF3 n l k) (λj b=>by rw[ln,zEX];exact h j (by simp[b]))
def zF4 (b:Bare)(n:Int):Bare:=bif ieq (ln<|ze0 b.Guests n) 0 then {b with Pending:=zuz b.Pending n} else {b with Guests:=zm9 n (ze0 b.Guests n) b.Guests}
def zgw (b:Bare)(n:Int):Bool:=bif zbY b then hasB n 8 else false
def zlQ (b:Bare)(n:Int):Bare:=bif zgw b n then zF4 b n else b
def zNP {b:Bare}{n:Int}:∀k∈ze0 b.Guests n,hasB k (ln b.Guests)=true:=λk a=>by have:=zWb _ _ _ k a;exact qI (by simp only[ln];omega)
def z2U {b:Bare}{n:Int}(h:ieq (ln<|ze0 b.Guests n) 0=true):zm9 n (ze0 b.Guests n) b.Guests=b.Guests:=by have a:((ze0 b.Guests n).length:Int)=0:=qD h;have:ze0 b.Guests n=[]:=uR.1 (by omega);rw[this];rfl
def z2T {b:Bare}{n:Int}:(cond (ieq (ln<|ze0 b.Guests n) 0) (some [AV.agg<|Ty.cells .bare ⟨b.Memory,zm9 n (ze0 b.Guests n) b.Guests,b.Outs,zuz b.Pending n⟩,AV.one<|.b true])<|some [AV.agg<|Ty.cells .bare ⟨b.Memory,zm9 n (ze0 b.Guests n) b.Guests,b.Outs,b.Pending⟩,AV.one<|.b true])=some [AV.agg<|Ty.cells .bare<|zF4 b n,AV.one<|.b true]:=by unfold zF4;cases h:ieq (ln<|ze0 b.Guests n) 0;{rfl};{simp only [cT,z2U h]}
@[simp] abbrev zfx (b:Bare)(n:Int):Bare:=zlQ b n
@[simp] abbrev zhm (b:Bare)(n:Int):Bool:=zgw b n
def zrL:Run:=rF2 (dT .bare) dI λb c=>(zeO b c,[aT .bare<|zfx b c,aB<|zhm b c])
def zDn (N:Nat)(i:Bare)(e:Int):OA:=
 let b:=zbu i; (oN (zcl i)<|oN (zjo b)<|cond (nB<|zcU b) (some [aT .bare b,aB false])<|oN (zL e 0 7)<|cond (nB<|zk e 0 7) (some [aT .bare b,aB false])<|oN (zeO b e)<|iter (σ:=(Int×Int×Int×Int×LI×lM×lG×LI×lM×lG×LI×Unit)) N (λj a=>let h:=a.2.2.2.2.2.2.2.1;let d:=a.2.2.2.2.1;let c:=a.2.2.2.2.2.2.1;let f:=ix d a.2.1 0;let g:=ix c f zu; (cond (ilt a.2.1<|ln d) (oN (inb a.2.1<|ln d)<|oN (inb a.2.1<|ln d)<|oN (inb f<|ln c)<|oN (zlF g.Pending a.1)<|oN (inb f<|ln c)<|j (a.1,zM .i64 a.2.1 1,a.2.2.1,a.2.2.2.1,d,a.2.2.2.2.2.1,up c f ({g with Pending:=(zh8 g.Pending a.1)}:Guest),h,a.2.2.2.2.2.2.2.2.1,a.2.2.2.2.2.2.2.2.2.1,a.2.2.2.2.2.2.2.2.2.2.1,()))<|cond (ieq (ln d) 0) (oN (zlF a.2.2.1 a.1)<|some [aT .bare (⟨a.2.2.2.2.2.1,c,h,zh8 a.2.2.1 a.1⟩:Bare),aB true])<|some [aT .bare (⟨a.2.2.2.2.2.1,c,h,a.2.2.1⟩:Bare),aB true])) (e,0,b.Pending,0,znn b e,b.Memory,b.Guests,b.Outs,[],[],[],()))
def zRi:=zq [(369,0,{n:=62,tm:=[(1,ti),(2,.lp 0 0),(4,.lp 1 0),(6,.sl 0 []),(7,ti)],lo:=[(0,[.sl 1 [],.sl 2 [],.sl 3 [],ti]),(1,[.sl 4 [],.sl 5 [],.sl 6 [],ti])],ro:=[(0,.int,true),(1,.sl .int,true),(2,.guest,true),(3,.int,true),(4,.sl .int,true),(5,.guest,true),(6,.int,true)]})]
def zQw (a:Bare)(c:Int)(l:zeO a c=true):∃N,zDn N a c=some [aT .bare<|zfx a c,aB<|zhm a c]:=by
 have h:=zO.1 l;have j:(ze0 a.Guests c).length<=big:=qU (zAZ _ _ _) (zcJ h.2.1.1).1;refine zcg λN g=>?_;unfold zDn zfx zhm zlQ zgw oN nB;conv=>zeta
 refine must (zbd h) (must rfl (brN (λe=>?_) λe=>must rfl (brN (λd=>?_) λd=>must (zbd h) ?_)));{simp only [show zbY a=false from e,cF]};{simp only [show zbY a=true from e,show hasB c 8=false from by first|exact d|exact(z6I c).symm.trans d,cT,cF]};simp only[show zbY a=true from e,show hasB c 8=true from by first|exact d|exact(z6I c).symm.trans d,cT];refine(zbj (znn (zbu a) c) (λi (t:lG)=>(c,(i:Int),(zbu a).Pending,0,znn (zbu a) c,(zbu a).Memory,t,(zbu a).Outs,[],[],[],())) _ (λ_ k (t:List Guest) m=>bif inb k (ln t) then (cond (inb k<|ln t) (m<|up t k<|zpN (ix t k zu) c) none) else none) (λ(t:lG)=>cond (ieq (ln<|znn (zbu a) c) 0) (cond (zlF (zbu a).Pending c) (some [.agg<|Ty.cells .bare (⟨(zbu a).Memory,t,(zbu a).Outs,zh8 (zbu a).Pending c⟩:Bare),.one<|.b true]) none)<|some [.agg<|Ty.cells .bare (⟨(zbu a).Memory,t,(zbu a).Outs,(zbu a).Pending⟩:Bare),.one<|.b true]) (λi f t rec=>?_) (λt rec=>?_) _ ((zbu a).Guests)<|g j).trans ?_;{simp only [zbr f,zZ f,zbk f,zba f j,cT];rfl};{simp only [zbl,cF];rfl};exact(zVV c _ _ 0 _ zNP).trans z2T
def zvy:vM 369 zrL:=kF2 zVE zA zo zn zRi zQw
end
end Go.Proofs.YtkbkcnjpecmckaaGreat.E
namespace Go.Proofs
open Go Go.Shelf
end Go.Proofs
namespace Go.Proofs.YtkbkcnjpecmckaaGreat.E
open Go
set_option linter.defProp false
set_option linter.constructorNameAsVariable false
set_option linter.unusedVariables false
set_option maxRecDepth 100000
set_option linter.unusedSimpArgs false
set_option linter.unusedSectionVars false
noncomputable section
section
open Go Go.RowKit Go.Proofs
section
variable {P:Program}
end
end
def z4b:zY:=[(361,ztT),(364,zqa),(365,zoU),(366,zoW),(367,zoV),(368,ztS),(370,ztR),(369,zrL)]++zbak
def zDV:zS z4b:=zh zwZ (zh zue<|zh ztd<|zh ztf<|zh zte<|zh zwY<|zh zwX<|zh zvy zVE)
def z6C {n:Int}(h:(ieq n 4||ieq n 8)=true):n=4\/n=8:=by rcases kB _ _ ▸ h with h|h;{exact .inl (qD h)};{exact .inr (qD h)}
def z5A {n:Int}(h:(ieq n 8||ieq n 12)=true):n=8\/n=12:=by rcases kB _ _ ▸ h with h|h;{exact .inl (qD h)};{exact .inr (qD h)}
@[simp] abbrev zkq (n:Int):Bool:=ieq n 4||ieq n 8
@[simp] abbrev zhY (n:Int):List Slot:=List.replicate n.toNat ⟨-1,0⟩
def zrM:Run:=rF1 dI λb=>(zkq b,[aS .slot<|zhY b])
def zU7 (N:Nat)(b:Int):OA:=
 (oN (zsx b 0 24)<|iter (σ:=(Int×lS×Unit)) N (λc a=>cond (igt a.1 0) (oN zbI<|oN (few<|ln<|ap a.2.1 [zbc])<|c (wsub .i64 a.1 1,ap a.2.1 [zbc],()))<|some [aS .slot a.2.1]) (ztq b 0 24,[],()))
def zRn:=zq [(86,0,{n:=17,tm:=[(3,.sl 0 []),(4,ti)],lo:=[],ro:=[(0,.slot,true)]})]
def zQJ (a:Int)(b:zkq a=true):∃N,zU7 N a=some [aS .slot<|zhY a]:=by refine⟨30,?_⟩;have h:a=4\/a=8:=z6C b;rcases h with rfl|rfl<;>(change _=_;kernel_rfl)
def zvD:vM 86 zrM:=kF1 zDV zA zo zn zRn zQJ
@[simp] abbrev zqG (n:Int):Bool:=ieq n 8||ieq n 12
@[simp] abbrev zk1 (n:Int):List LI:=List.replicate n.toNat [0,0,0,0]
def zv0:Run:=rF1 dI λb=>(zqG b,[aS (.sl .int)<|zk1 b])
def z1p (N:Nat)(b:Int):OA:=
 (oN (zsx b 0 24)<|iter (σ:=(Int×lM×Unit)) N (λc a=>cond (igt a.1 0) (oN (cond (few 4) (ieq 4 4) false)<|oN (few<|ln<|ap a.2.1 [rp 4 0])<|c (wsub .i64 a.1 1,ap a.2.1 [rp 4 0],()))<|some [aS (.sl .int) a.2.1]) (ztq b 0 24,[],()))
def zYr:=zq [(82,0,{n:=17,tm:=[(3,.sl 0 []),(4,ti)],lo:=[],ro:=[(0,.sl .int,true)]})]
def zWJ (a:Int)(b:zqG a=true):∃N,z1p N a=some [aS (.sl .int)<|zk1 a]:=by refine⟨30,?_⟩;have h:a=8\/a=12:=z5A b;rcases h with rfl|rfl<;>(change _=_;kernel_rfl)
def zzc:vM 82 zv0:=kF1 zDV zA zo zn zYr zWJ
def z4c:zY:=[(86,zrM),(82,zv0)]++z4b
def zR8:zS z4c:=zh zvD (zh zzc zDV)
def zmH:List Slot:=List.replicate 4 ⟨-1,0⟩
def zfJ (p:List Ins):Guest:=⟨p,0,0,zmH,zmH,⟨0,0,false⟩,0,⟨0,0,false,0⟩,false,[]⟩
@[simp] abbrev zko (p:List Ins):Bool:=pc (p.length<=1048576)
@[simp] abbrev zcE (p:List Ins):Guest:=zfJ p
def zng:Run:=rF1 (dS .ins) λb=>(zko b,[aT .guest<|zcE b])
def zDr (N:Nat)(a:lI):OA:=
 (oN (few<|ln<|ap [] a)<|oN (zkq 4)<|oN (zkq 4)<|some [aT .guest (⟨ap [] a,0,0,zhY 4,zhY 4,⟨0,0,false⟩,0,⟨0,0,false,0⟩,false,[]⟩:Guest)])
def zQz (a:List Ins)(b:zko a=true):∃N,zDr N a=some [aT .guest<|zcE a]:=by have c:=zO.1 b;refine⟨0,?_⟩;unfold zDr oN;refine mu (must rfl (must rfl ?_));first|rfl|(simp only [*,zcE,zfJ,zmH,cT,cF]<;>rfl)|simp_all[Ty.cells,zcE,zfJ,zmH]
def zoN:vM 87 zng:=kF1 zR8 zA zo zn (zq []) zQz
def zbcS:zY:=[(87,zng)]++z4c
def zDW:zS zbcS:=zh zoN zR8
def zQT:List LI:=List.replicate 8 [0,0,0,0]
def SmPs (a:List (List Ins)):Prop:=a.length<=1048576/\∀p∈a,p.length<=1048576
def zSC {d c j:Type}(m:Nat)(f:d->c)(K:List c->Option j):∀(l:List d) (i:Nat) (a:List c),a.length+l.length<=2147483648->
 goL (λ(i:Nat) x a k=>bif ilt (i:Int) (m:Int) then (cond (few<|ln<|ap a [f x]) (k<|ap a [f x]) none) else K a) K l i a=K (a++(l.take<|m-i).map f)
 |[],i,a,_=>by simp[goL]
 |x::l,i,a,g=>by simp only[qV]at g;have e:few (ln<|ap a [f x])=true:=zfP (by simp[ap];omega);by_cases h:i<m;{have b:ilt (i:Int) (m:Int)=true:=qI (by omega);simp only[goL,b,e,cT];rw[zSC m f K l (i+1) (ap a [f x]) (by simp[ap];omega)];rw[show m-i=m-(i+1)+1 by omega];simp[ap]};{have b:ilt (i:Int) (m:Int)=false:=qJ (by omega);simp only[goL,b,cF];rw[show m-i=0 by omega];simp}
@[simp] abbrev zpl (a:GAct):Bool:=true
@[simp] abbrev zz0 (a:GAct):Bool:=zk a.Kind 1 17
def zId:Run:=rF1 (dT .act) λb=>(zpl b,[aB<|zz0 b])
def zRH (N:Nat)(a:GAct):OA:=
 (oN (zL a.Kind 1 17)<|some [aB<|zk a.Kind 1 17])
def zZn (a:GAct)(b:zpl a=true):∃N,zRH N a=some [aB<|zz0 a]:=by refine⟨0,?_⟩;unfold zRH oN;refine must rfl ?_;first|rfl|(simp only [*,zz0,cT,cF]<;>rfl)|simp_all[Ty.cells,zz0]
def zTj:vM 329 zId:=kF1 zDW zA zo zn (zq []) zZn
@[simp] abbrev zyn (k:Int):Bool:=true
@[simp] abbrev ztr (k:Int):Bool:=zk k 13 17
def zCm:Run:=rF1 dI λb=>(zyn b,[aB<|ztr b])
def zHv (N:Nat)(a:Int):OA:=
 (oN (zL a 13 17)<|some [aB<|zk a 13 17])
def zT1 (a:Int)(b:zyn a=true):∃N,zHv N a=some [aB<|ztr a]:=by refine⟨0,?_⟩;unfold zHv oN;refine must rfl ?_;first|rfl|(simp only [*,ztr,cT,cF]<;>rfl)|simp_all[Ty.cells,ztr]
def zMA:vM 330 zCm:=kF1 zDW zA zo zn (zq []) zT1
@[simp] abbrev zrN (a:GAct):Ctl:=⟨a.X,a.Y,ieq a.Z 1⟩
def zIf:Run:=rF1 (dT .act) λb=>(zpl b,[.agg<|znF<|zrN b])
def zRJ (N:Nat)(a:GAct):OA:=
 (some [.agg [.i .i64 a.X,.i .i64 a.Y,.b<|ieq a.Z 1]])
def zZp (a:GAct)(b:zpl a=true):∃N,zRJ N a=some [.agg<|znF<|zrN a]:=by refine⟨0,?_⟩;unfold zRJ;first|rfl|(simp only [*,zrN,cT,cF]<;>rfl)|simp_all[Ty.cells,zrN]
def zTl:vM 338 zIf:=kF1 zDW zA zo zn (zq []) zZp
end
end Go.Proofs.YtkbkcnjpecmckaaGreat.E
