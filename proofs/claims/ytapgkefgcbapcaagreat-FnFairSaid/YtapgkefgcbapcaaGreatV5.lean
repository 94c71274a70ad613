/- What is proved here: a part of the proof of the claim. -/
import Derived.Test.YtapgkefgcbapcaaGreatV4
namespace Go.Proofs.YtapgkefgcbapcaaGreat.E
open Go
set_option linter.defProp false
set_option linter.constructorNameAsVariable false
set_option linter.unusedVariables false
set_option maxRecDepth 100000
set_option linter.unusedSimpArgs false
set_option linter.unusedSectionVars false
noncomputable section
def zn7 (o i t:Int):Int:=bif zed i t then 1 else (cond (zed o t) 2 0)
@[simp] abbrev zov (o i t:Int):Bool:=true
@[simp] abbrev zk7 (o i t:Int):Int:=zn7 o i t
def zoO:Run:=rF3 dI dI dI λb c d=>(zov b c d,[aI<|zk7 b c d])
def zIi (N:Nat)(b c a:Int):OA:=
 (oN (zgi c a)<|cond (zfH c a) (some [aI 1])<|oN (zgi b a)<|cond (zfH b a) (some [aI 2])<|some [aI 0])
def zCO (a b c:Int)(d:zbE big [aI a,aI b,aI c])(e:zov a b c=true):∃N,zIi N a b c=some [aI<|zk7 a b c]:=by refine⟨0,?_⟩;unfold zIi oN;refine i0 rfl (br (λ_=>?_) λ_=>i0 rfl (br (λ_=>?_) λ_=>?_));all_goals first|rfl|(simp only [*,zk7,zn7,cT,cF]<;>rfl)|simp_all[Ty.cells,zk7,zn7]
def zNy:vU 405 zoO:=hF3 zf3 zA zu zdX (zq []) zCO
def zNd:vU 401 zoO:=hF3 zf3 zA zu zdX (zq []) zCO
def has3 (p:Int):j0 p 3=zk p 0 2:=by unfold j0 zk ige ile;by_cases a:0<=p<;>by_cases b:p<3;{rw [qH (p:=0<=p/\p<3) ⟨a,b⟩,qH (p:=p≥0) a,qH (p:=p<=2) (by omega)];rfl};{rw [qI (p:=0<=p/\p<3) (by omega),qI (p:=p<=2) (by omega)];simp};{rw [qI (p:=0<=p/\p<3) (by omega),qI (p:=p≥0) (by omega)];simp};{rw [qI (p:=0<=p/\p<3) (by omega),qI (p:=p≥0) (by omega)];simp}
def has2 (p:Int):j0 p 2=zk p 0 1:=by unfold j0 zk ige ile;by_cases a:0<=p<;>by_cases b:p<2;{rw [qH (p:=0<=p/\p<2) ⟨a,b⟩,qH (p:=p≥0) a,qH (p:=p<=1) (by omega)];rfl};{rw [qI (p:=0<=p/\p<2) (by omega),qI (p:=p<=1) (by omega)];simp};{rw [qI (p:=0<=p/\p<2) (by omega),qI (p:=p≥0) (by omega)];simp};{rw [qI (p:=0<=p/\p<2) (by omega),qI (p:=p≥0) (by omega)];simp}
def zeD (m g:Int):Int:=bif zk m 0 2 then (cond (zk g 0 1) (zI .i64 (zI .i64 1 g)<|zk3 .i64 m 2) 0) else 0
@[simp] abbrev ziA (m g:Int):Bool:=true
@[simp] abbrev zl7 (m g:Int):Int:=zeD m g
def zsP:Run:=rF2 dI dI λb c=>(ziA b c,[aI<|zl7 b c])
def zTc (N:Nat)(a b:Int):OA:=
 (oN (zO a 0 2)<|cond (nB<|zk a 0 2) (some [aI 0])<|oN (zO b 0 1)<|cond (nB<|zk b 0 1) (some [aI 0])<|some [aI<|zI .i64 (zI .i64 1 b)<|zk3 .i64 a 2])
def z1k (a b:Int)(c:ziA a b=true):∃N,zTc N a b=some [aI<|zl7 a b]:=by refine⟨0,?_⟩;unfold zTc oN nB;refine i0 rfl (brN (λ_=>?_) λ_=>i0 rfl (brN (λ_=>?_) λ_=>?_));all_goals first|rfl|(simp only [*,zl7,zeD,cT,cF]<;>rfl)|simp_all[Ty.cells,zl7,zeD]
def zUP:vU 336 zsP:=kF2 zf3 zA zu zdX (zq []) z1k
def zSZ (N:Nat)(a b:Int):OA:=
 (oN (zbH a 3)<|cond (nB<|zdG a 3) (some [aI 0])<|oN (zbH b 2)<|cond (nB<|zdG b 2) (some [aI 0])<|some [aI<|zI .i64 (zI .i64 1 b)<|zk3 .i64 a 2])
def z08 (a b:Int)(c:ziA a b=true):∃N,zSZ N a b=some [aI<|zl7 a b]:=by refine⟨0,?_⟩;unfold zSZ oN nB;refine i0 rfl (brN (λ_=>?_) λ_=>i0 rfl (brN (λ_=>?_) λ_=>?_));all_goals first|rfl|(simp only [*,zl7,zeD,has3,has2,cT,cF]<;>rfl)|simp_all[Ty.cells,zl7,zeD,has3,has2]
def zUC:vU 307 zsP:=kF2 zf3 zA zu zdX (zq []) z08
def zlH (k:az)(p:Int):Bool:=bif zdS k p then ix k.ay p false else false
def zew (k:az)(p:Int):k0:=bif zlH k p then ix k.aA p zba else C0
@[simp] abbrev zjs (k:az)(p:Int):k0:=zew k p
@[simp] abbrev zpC (k:az)(p:Int):Bool:=zlH k p
def zUb:Run:=rF2 (dT .kept) dI λb c=>(zd5 b c,[aT .slot<|zjs b c,aB<|zpC b c])
def z2f (N:Nat)(a:az)(b:Int):OA:=
 let c:=ix a.aA b zba; (oN (zd5 a b)<|cond (nB<|zkc a b) (oN zbR<|some [.agg [.i .i64 zbm.af,.i .i64 zbm.aj],aB false])<|oN (inb b<|ln a.ay)<|cond (nB<|ix a.ay b false) (oN zbR<|some [.agg [.i .i64 zbm.af,.i .i64 zbm.aj],aB false])<|oN (inb b<|ln a.aA)<|some [.agg [.i .i64 c.af,.i .i64 c.aj],aB true])
def z7w (a:az)(b:Int)(f:zd5 a b=true):∃N,z2f N a b=some [aT .slot<|zjs a b,aB<|zpC a b]:=by
 have g:=zM.1 f;refine⟨0,?_⟩;unfold z2f zjs zpC zew zlH oN nB;conv=>zeta
 refine i0 (zbr g) ?_;rw[show zkc a b=zdS a b from rfl];cases c:zdS a b;{rfl};{unfold zdS at c;obtain⟨d,e⟩:=zdH.1 c;simp only[zF d,zF e,cT];cases ix a.ay b false<;>rfl}
def z0Z:vU 233 zUb:=kF2 zf3 zA zu zdX (zq []) z7w
@[simp] abbrev zzC (k:az)(p:Int):Bool:=true
def zT8:Run:=rF2 (dT .kept) dI λb c=>(zzC b c,[aT .slot<|zjs b c,aB<|zpC b c])
def z2a (N:Nat)(a:az)(b:Int):OA:=
 let c:=ix a.aA b zba; (oN (zbH b<|ln a.ay)<|cond (nB<|zdG b<|ln a.ay) (oN zbR<|some [.agg [.i .i64 zbm.af,.i .i64 zbm.aj],aB false])<|oN (zbH b<|ln a.aA)<|cond (nB<|zdG b<|ln a.aA) (oN zbR<|some [.agg [.i .i64 zbm.af,.i .i64 zbm.aj],aB false])<|oN (inb b<|ln a.ay)<|cond (nB<|ix a.ay b false) (oN zbR<|some [.agg [.i .i64 zbm.af,.i .i64 zbm.aj],aB false])<|oN (inb b<|ln a.aA)<|some [.agg [.i .i64 c.af,.i .i64 c.aj],aB true])
def z7s (a:az)(b:Int)(e:zzC a b=true):∃N,z2a N a b=some [aT .slot<|zjs a b,aB<|zpC a b]:=by
 refine⟨0,?_⟩;unfold z2a zjs zpC zew zlH zdS oN nB;conv=>zeta
 rw[show zdG b (ln a.ay)=j0 b (ln a.ay) from rfl,show zdG b (ln a.aA)=j0 b (ln a.aA) from rfl];cases c:j0 b (ln a.ay);{rfl};{cases d:j0 b (ln a.aA);{rfl};{simp only [zbH,zF c,zF d,cT];cases ix a.ay b false<;>rfl}}
def z0V:vU 231 zT8:=kF2 zf3 zA zu zdX (zq []) z7s
def filled (k:az)(a b:List k0)(p:Int):az:=bif zdS k p then (cond (j0 p<|ln a) ⟨up k.ay p true,up k.aA p<|zbI (ix a p zba) b⟩ k) else k
@[simp] def z5K {k:az}{a b:List k0}{p:Int}(h:SmK k):SmK (filled k a b p):=by unfold filled;cases zdS k p;{exact h};{cases j0 p (ln a);{exact h};{exact⟨by simpa using h.1,by simpa using h.2⟩}}
@[simp] abbrev zwt (k:az)(i o:List k0)(p:Int):Bool:=pc (SmK k)
@[simp] abbrev zwr (k:az)(i o:List k0)(p:Int):az:=filled k i o p
def zu3:Run:=rF4 (dT .kept) (dS .slot) (dS .slot) dI λb c d e=>(zwt b c d e,[aT .kept<|zwr b c d e])
def zWB (N:Nat)(d:az)(c e:lS)(a:Int):OA:=
 let b:=zej d; (oN (zhx d)<|oN (zd5 b a)<|cond (zkc b a) (cond (ilt a<|ln c) (oN (inb a<|ln b.ay)<|p0 (up b.ay a true) λf=>oN (inb a<|ln c)<|oN (zhV (ix c a zba) e)<|oN (inb a<|ln b.aA)<|p0 (up b.aA a<|zlK (ix c a zba) e) λg=>some [aT .kept (⟨f,g⟩:az)])<|some [aT .kept b])<|some [aT .kept b])
def z4K (b:az)(c d:List k0)(a:Int)(j:zwt b c d a=true):∃N,zWB N b c d a=some [aT .kept<|zwr b c d a]:=by
 have g:=zM.1 j;refine⟨0,?_⟩;unfold zWB zwr filled oN;conv=>zeta
 refine i0 (zbr<|(zzh _).2 g) (i0 (zbr g) ?_);rw[show zkc (zej b) a=zdS b a from rfl];cases f:zdS b a;{rfl};{unfold zdS at f;obtain⟨e,h⟩:=zdH.1 f;rw[has_lt e (m:=ln c)];cases i:j0 a (ln c);{rfl};{simp only [cT,zej,zF e,zF h,zF i,p0,zhV];rfl}}
def zXP:vU 434 zu3:=kF4 zf3 zA zu zdX (zq []) z4K
def zWz (N:Nat)(c:az)(d e:lS)(a:Int):OA:=
 let b:=zd0 c; (oN (ze8 c)<|oN (zbH a<|ln c.ay)<|cond (zdG a<|ln c.ay) (oN (zbH a<|ln c.aA)<|cond (zdG a<|ln c.aA) (oN (zbH a<|ln d)<|cond (zdG a<|ln d) (oN (inb a<|ln b.ay)<|p0 (up b.ay a true) λf=>oN (inb a<|ln d)<|oN (zhV (ix d a zba) e)<|oN (inb a<|ln b.aA)<|p0 (up b.aA a<|zlK (ix d a zba) e) λg=>some [aT .kept (⟨f,g⟩:az)])<|some [aT .kept b])<|some [aT .kept b])<|some [aT .kept b])
def z4G (b:az)(c d:List k0)(a:Int)(h:zwt b c d a=true):∃N,zWz N b c d a=some [aT .kept<|zwr b c d a]:=by
 have i:=zM.1 h;refine⟨0,?_⟩;unfold zWz zwr filled zdS oN;conv=>zeta
 refine i0 (zbr i) ?_;simp only[zdG,zbH,zd0,cT];cases e:j0 a (ln b.ay);{rfl};{cases f:j0 a (ln b.aA);{rfl};{cases g:j0 a (ln c);{rfl};{simp only [cT,zF e,zF f,zF g,p0,zhV];rfl}}}
def zXK:vU 460 zu3:=kF4 zf3 zA zu zdX (zq []) z4G
def zJX {a b:Type}(p:a->Bool)(r:a->Option b)(K:Unit->Option b):∀(l:List a) (i:Nat),goL (λ_ x (_:Unit) k=>bif p x then r x else k ()) K l i ()=match l.find? p with|some x=>r x|none=>K ()
 |[],_=>rfl
 |x::l,i=>by simp only[goL];cases h:p x;{rw [List.find?_cons_of_neg (by simp[h])];exact zJX p r K l (i+1)};{rw [List.find?_cons_of_pos h];rfl}
def zA9 (b:List ar)(t p:Int):Option ar:=b.find? λe=>bif ieq e.Tag t then ieq e.af p else false
@[simp] abbrev zh6 (b:List ar)(t p:Int):Bool:=true
@[simp] abbrev zgY (b:List ar)(t p:Int):ar:=(zA9 b t p).getD ⟨0,0,0,0⟩
@[simp] abbrev zfW (b:List ar)(t p:Int):Bool:=(zA9 b t p).isSome
def zmq:Run:=rF3 (dS .entry) dI dI λb c d=>(zh6 b c d,[aT .entry<|zgY b c d,aB<|zfW b c d])
def zCw (N:Nat)(f:lE)(g h:Int):OA:=
 (r0 (σ:=(Int×Int×Int×Int×Int×Int×Int×lE×Unit)) N (λj a=>let f:=a.2.2.2.2;let c:=f.2.2.2.1;let d:=inb a.2.2.1<|ln c;let e:=j (a.1,a.2.1,zI .i64 a.2.2.1 1,a.2.2.2.1,f.1,f.2.1,f.2.2.1,c,());let b:=ix c a.2.2.1 zfz; (cond (ilt a.2.2.1<|ln c) (oN d<|cond (ieq b.Tag a.1) (oN d<|cond (ieq b.af a.2.1) (oN d<|some [.agg [.i .i64 b.Tag,.i .i64 b.af,.i .i64 b.ad,.i .i64 b.aj],aB true]) e) e)<|some [.agg [.i .i64 0,.i .i64 0,.i .i64 0,.i .i64 0],aB false])) (g,h,0,0,0,0,0,f,()))
def zPP:=zq [(433,0,{n:=36,tm:=[(0,.sl 0 []),(1,ti),(2,ti),(6,.lp 0 0),(8,ti)],lo:=[(0,[ti,ti,ti,ti])],ro:=[(0,.entry,false)]})]
def zOu (a:List ar)(c d:Int)(j:zbE big [aS .entry a,aI c,aI d])(l:zh6 a c d=true):∃N,zCw N a c d=some [aT .entry<|zgY a c d,aB<|zfW a c d]:=by
 have h:=len0 j;refine zb2 λN g=>?_;unfold zCw oN;conv=>zeta
 refine(zbl a (λi (t:Unit)=>(c,d,(i:Int),0,0,0,0,a,())) _ (λ_ (x:ar) (_:Unit) k=>bif (cond (ieq x.Tag c) (ieq x.af d) false) then (some [AV.agg<|Ty.cells .entry x,AV.one<|.b true]) else k ()) (λ(t:Unit)=>some [.agg [.i .i64 0,.i .i64 0,.i .i64 0,.i .i64 0],.one<|.b false]) (λi f t rec=>?_) (λt rec=>?_) _ ()<|g h).trans ?_;{simp only [zbo f,zX f,zbh f,zY f h,cT];cases ieq a[i].Tag c<;>cases ieq a[i].af d<;>rfl};{simp only [zbj,cF]};rw[zJX λe:ar=>bif ieq e.Tag c then ieq e.af d else false];unfold zgY zfW zA9;cases a.find? (λe:ar=>bif ieq e.Tag c then ieq e.af d else false)<;>rfl
def zG1:vU 433 zmq:=hF3 zf3 zA zu zdX zPP zOu
def zCd (N:Nat)(d:lE)(f g:Int):OA:=
 (r0 (σ:=(Int×Int×Int×Int×Int×Int×Int×Int×lE×Unit)) N (λh a=>let d:=a.2.2.2.2;let c:=d.2.2.2.2.1;let e:=h (a.1,a.2.1,a.2.2.1,zI .i64 a.2.2.2.1 1,d.1,d.2.1,d.2.2.1,d.2.2.2.1,c,());let b:=ix c a.2.2.2.1 zfz; (cond (ilt a.2.2.2.1 a.2.2.1) (oN (inb a.2.2.2.1<|ln c)<|cond (ieq b.Tag a.1) (cond (ieq b.af a.2.1) (some [.agg [.i .i64 b.Tag,.i .i64 b.af,.i .i64 b.ad,.i .i64 b.aj],aB true]) e) e)<|some [.agg [.i .i64 0,.i .i64 0,.i .i64 0,.i .i64 0],aB false])) (f,g,ln d,0,0,0,0,0,d,()))
def zPD:=zq [(459,0,{n:=29,tm:=[(1,ti),(2,ti),(6,.lp 0 0),(10,.sl 0 []),(11,ti),(12,ti)],lo:=[(0,[ti,ti,ti,ti])],ro:=[(0,.entry,false)]})]
def zOb (a:List ar)(c d:Int)(j:zbE big [aS .entry a,aI c,aI d])(l:zh6 a c d=true):∃N,zCd N a c d=some [aT .entry<|zgY a c d,aB<|zfW a c d]:=by
 have h:=len0 j;refine zb2 λN g=>?_;unfold zCd oN;conv=>zeta
 refine(zbl a (λi (t:Unit)=>(c,d,ln a,(i:Int),0,0,0,0,a,())) _ (λ_ (x:ar) (_:Unit) k=>bif (cond (ieq x.Tag c) (ieq x.af d) false) then (some [AV.agg<|Ty.cells .entry x,AV.one<|.b true]) else k ()) (λ(t:Unit)=>some [.agg [.i .i64 0,.i .i64 0,.i .i64 0,.i .i64 0],.one<|.b false]) (λi f t rec=>?_) (λt rec=>?_) _ ()<|g h).trans ?_;{simp only [zbo f,zX f,zbh f,zY f h,cT];cases ieq a[i].Tag c<;>cases ieq a[i].af d<;>rfl};{simp only [zbj,cF]};rw[zJX λe:ar=>bif ieq e.Tag c then ieq e.af d else false];unfold zgY zfW zA9;cases a.find? (λe:ar=>bif ieq e.Tag c then ieq e.af d else false)<;>rfl
def zGM:vU 459 zmq:=hF3 zf3 zA zu zdX zPD zOb
def ztE (t p:Int)(e:ar):Bool:=bif ine e.Tag t then true else ine e.af p
def zc2 (b:List ar)(t p:Int):List ar:=b.filter (ztE t p)
def zBa (b:List ar)(t p:Int):(zc2 b t p).length<=b.length:=uJ _ _
@[simp] abbrev zfX (b:List ar)(t p:Int):Bool:=pc (b.length<=1048576)
@[simp] abbrev ziw (b:List ar)(t p:Int):List ar:=zc2 b t p
def zms:Run:=rF3 (dS .entry) dI dI λb c d=>(zfX b c d,[aS .entry<|ziw b c d])
def zCy (N:Nat)(h:lE)(i j:Int):OA:=
 (r0 (σ:=(Int×Int×Int×lE×lE×Unit)) N (λf a=>let b:=a.2.2.2.1;let c:=inb a.2.2.1<|ln b;let d:=ix b a.2.2.1 zfz;let e:=ap a.2.2.2.2.1 [d];let g:=f (a.1,a.2.1,zI .i64 a.2.2.1 1,b,e,()); (cond (ilt a.2.2.1<|ln b) (oN c<|cond (ine d.Tag a.1) (oN c<|oN (few<|ln e) g)<|oN c<|cond (ine d.af a.2.1) (oN c<|oN (few<|ln e) g)<|f (a.1,a.2.1,zI .i64 a.2.2.1 1,b,a.2.2.2.2.1,()))<|some [aS .entry a.2.2.2.2.1])) (i,j,0,h,[],()))
def zPR:=zq [(335,0,{n:=40,tm:=[(0,.sl 0 []),(1,ti),(2,ti),(7,.sl 1 []),(8,ti)],lo:=[],ro:=[(0,.entry,false),(1,.entry,true)]})]
def zOw (a:List ar)(b c:Int)(h:zfX a b c=true):∃N,zCy N a b c=some [aS .entry<|ziw a b c]:=by
 have j:=zM.1 h;have f:=zcc j;refine zb2 λN e=>?_;unfold zCy oN;conv=>zeta
 refine(zbl a (λi (t:lE)=>(b,c,(i:Int),a,t,())) _ (λ_ (x:ar) (t:List ar) g=>bif ztE b c x then (cond (few<|ln<|ap t [x]) (g<|ap t [x]) none) else g t) (λ(t:lE)=>some [.one<|.s .entry t]) (λi d t rec=>?_) (λt rec=>?_) _ ([])<|e f.1).trans ?_;{simp only [zbo d,zX d,zbh d,zY d f.1,cT];unfold ztE;cases ine a[i].Tag b<;>cases ine a[i].af c<;>rfl};{simp only [zbj,cF]};exact znr (ztE b c) _ a 0 [] (by simpa using f.2)
def zG3:vU 335 zms:=kF3 zf3 zA zu zdX zPR zOw
def zCf (N:Nat)(e:lE)(h i:Int):OA:=
 (r0 (σ:=(Int×Int×Int×Int×lE×lE×Unit)) N (λf a=>let e:=a.2.2.2.2;let b:=e.2.1;let c:=ix b a.2.1 zfz;let d:=ap e.1 [c];let g:=f (a.1,zI .i64 a.2.1 1,a.2.2.1,a.2.2.2.1,d,b,()); (cond (ilt a.2.1 a.1) (oN (inb a.2.1<|ln b)<|cond (ieq c.Tag a.2.2.1) (cond (nB<|ieq c.af a.2.2.2.1) (oN (few<|ln d) g)<|f (a.1,zI .i64 a.2.1 1,a.2.2.1,a.2.2.2.1,e.1,b,()))<|oN (few<|ln d) g)<|some [aS .entry e.1])) (ln e,0,h,i,[],e,()))
def zPF:=zq [(418,0,{n:=25,tm:=[(1,.fn 419 [0,1]),(5,.sl 0 []),(9,.sl 1 []),(10,ti),(11,ti)],lo:=[(0,[ti]),(1,[ti])],ro:=[(0,.entry,true),(1,.entry,false)]})]
def zOd (a:List ar)(b c:Int)(h:zfX a b c=true):∃N,zCf N a b c=some [aS .entry<|ziw a b c]:=by
 have j:=zM.1 h;have f:=zcc j;refine zb2 λN e=>?_;unfold zCf oN nB;conv=>zeta
 refine(zbl a (λi (t:lE)=>(ln a,(i:Int),b,c,t,a,())) _ (λ_ (x:ar) (t:List ar) g=>bif ztE b c x then (cond (few<|ln<|ap t [x]) (g<|ap t [x]) none) else g t) (λ(t:lE)=>some [.one<|.s .entry t]) (λi d t rec=>?_) (λt rec=>?_) _ ([])<|e f.1).trans ?_;{simp only [zbo d,zX d,zbh d,zY d f.1,cT];unfold ztE;simp only[zl1];cases ieq a[i].Tag b<;>cases ieq a[i].af c<;>rfl};{simp only [zbj,cF]};exact znr (ztE b c) _ a 0 [] (by simpa using f.2)
def zGO:vU 306 zms:=kF3 zf3 zA zu zdX zPF zOd
def zbbU:zZ:=[(405,zoO),(401,zoO),(336,zsP),(307,zsP),(233,zUb),(231,zT8),(434,zu3),(460,zu3),(433,zmq),(459,zmq),(335,zms),(306,zms)]++z6I
def zvJ:zS zbbU:=zh zNy (zh zNd<|zh zUP<|zh zUC<|zh z0Z<|zh z0V<|zh zXP<|zh zXK<|zh zG1<|zh zGM<|zh zG3<|zh zGO zf3)
def zql (b:List ar)(e:ar):List ar:=bif igt (ln<|ap (zc2 b e.Tag e.af) [e]) 6 then dp (ap (zc2 b e.Tag e.af) [e]) (wsub .i64 (ln<|ap (zc2 b e.Tag e.af) [e]) 6) else ap (zc2 b e.Tag e.af) [e]
def zwh {b:List ar}(e:ar)(h:b.length<=1048576):(zql b e).length<=1048576/\(ap (zc2 b e.Tag e.af) [e]).length<=1048577:=by have d:=zBa b e.Tag e.af;have c:(ap (zc2 b e.Tag e.af) [e]).length<=1048577:=(by simp[ap];omega);refine⟨?_,c⟩;unfold zql;cases a:igt (ln<|ap (zc2 b e.Tag e.af) [e]) 6;{have a:=jQ a;simp only[ln]at a;simp only[cF];omega};{simp only [cT,dp,vP];have a:=qD a;have:wsub .i64 (ln<|ap (zc2 b e.Tag e.af) [e]) 6=ln (ap (zc2 b e.Tag e.af) [e])-6:=zpJ (by simp only[ln] at *;omega) (by simp only[ln] at *;omega);rw[this];simp only[ln] at *;omega}
@[simp] abbrev zhJ (b:List ar)(e:ar):Bool:=pc (b.length<=1048576)
@[simp] abbrev zhs (b:List ar)(e:ar):List ar:=zql b e
def zkR:Run:=rF2 (dS .entry) (dT .entry) λb c=>(zhJ b c,[aS .entry<|zhs b c])
def zEk (N:Nat)(d:lE)(b:ar):OA:=
 let a:=ap (ziw d b.Tag b.af) [b];let c:=wsub .i64 (ln a) 6; (oN (zfX d b.Tag b.af)<|oN (few<|ln a)<|cond (igt (ln a) 6) (oN (inr c (ln a)<|ln a)<|oN (few<|ln<|ap []<|dp a c)<|some [aS .entry<|ap []<|dp a c])<|some [aS .entry a])
def zRX (b:List ar)(a:ar)(h:zhJ b a=true):∃N,zEk N b a=some [aS .entry<|zhs b a]:=by
 have f:=zM.1 h;obtain⟨c,g⟩:=zwh a f;refine⟨0,?_⟩;unfold zEk oN;conv=>zeta
 refine i0 (zbr f) (i0 (zgv<|qT g (by decide:1048577<=2147483648)) ?_);unfold zhs zql at *;show _=some [AV.one<|.s .entry<|cond (igt (ln<|ap (zc2 b a.Tag a.af) [a]) 6) (dp (ap (zc2 b a.Tag a.af) [a])<|wsub .i64 (ln<|ap (zc2 b a.Tag a.af) [a]) 6)<|ap (zc2 b a.Tag a.af) [a]];cases d:igt (ln<|ap (zc2 b a.Tag a.af) [a]) 6;{rfl};{rw [d]at c;simp only[cT]at c;have d:=qD d;have e:wsub .i64 (ln<|ap (zc2 b a.Tag a.af) [a]) 6=ln (ap (zc2 b a.Tag a.af) [a])-6:=zpJ (by simp only[ln] at *;omega) (by simp only[ln] at *;omega);refine i0 rfl (i0 (qH ?_)<|i0 ?_ ?_);{show 0<=wsub .i64 (ln<|ap (zc2 b a.Tag a.af) [a]) 6/\wsub .i64 (ln<|ap (zc2 b a.Tag a.af) [a]) 6<=ln (ap (zc2 b a.Tag a.af) [a])/\ln (ap (zc2 b a.Tag a.af) [a])<=ln (ap (zc2 b a.Tag a.af) [a]);rw[e];simp only[ln] at *;omega};{exact zps c};{rw [zoc];rfl}}
def zvW:vU 384 zkR:=kF2 zvJ zA zu zdX (zq []) zRX
def zDT (N:Nat)(c:lE)(a:ar):OA:=
 let b:=ap (ziw c a.Tag a.af) [a];let d:=imax 0<|wsub .i64 (ln b) 6; (oN (zfX c a.Tag a.af)<|oN (few<|ln b)<|oN (inr d (ln b)<|ln b)<|some [aS .entry<|dp b d])
def zRx (b:List ar)(a:ar)(h:zhJ b a=true):∃N,zDT N b a=some [aS .entry<|zhs b a]:=by
 have g:=zM.1 h;obtain⟨_,f⟩:=zwh a g;refine⟨0,?_⟩;unfold zDT zhs zql oN;conv=>zeta
 simp only[ziw];generalize ap (zc2 b a.Tag a.af) [a]=l at f ⊢;refine i0 (zbr g) (i0 (zgv<|qT f (by decide:1048577<=2147483648)) ?_);have e:wsub .i64 (ln l) 6=ln l-6:=zpJ (by simp only[ln] at *;omega) (by simp only[ln] at *;omega);rw[e];cases c:igt (ln l) 6;{have c:=jQ c;have d:imax 0 (ln l-6)=0:=(by unfold imax;rw[if_neg (by omega)]);rw[d];exact i0 (qH (by simp only[ln];omega)) (by simp[dp])};{have c:=qD c;have d:imax 0 (ln l-6)=ln l-6:=(by unfold imax;rw[if_pos (by omega)]);rw[d];exact i0 (qH (by simp only[ln] at *;omega)) rfl}
def zJ5:vU 461 zkR:=kF2 zvJ zA zu zdX (zq []) zRx
def zp2 (l:List k0)(p:Int):Option Nat:=l.findIdx? λs=>ieq s.af p
def zjI (p:Int):List Mon->Nat->Int×Int
 |[],_=>(-1,-1)
 |m::l,i=>match zp2 m.ae p with|some k=>((i:Int),(k:Int))|none=>zjI p l (i+1)
def zbT (h:ad)(p:Int):Int×Int:=bif ilt p 0 then (-1,-1) else zjI p h.aa 0
def zTK {a:Type}(p:k0->Bool)(r:Nat->Option a)(K:Unit->Option a):∀(l:List k0) (i:Nat),goL (λj x (_:Unit) k=>bif p x then r j else k ()) K l i ()=match l.findIdx? p with|some k=>r (i+k)|none=>K ()
 |[],_=>rfl
 |x::l,i=>by simp only[goL];rw[List.findIdx?_cons];cases h:p x;{simp only [cF,kN,if_false];rw[zTK p r K l<|i+1];cases l.findIdx? p with|none=>rfl|some k=>simp only[Option.map_some];congr 1;omega};{rfl}
def zQf {c:Type}(p:Int)(r:Int->Int->Option c):∀(l:List Mon) (i:Nat),goL (λi (x:Mon) (_:Unit) b=>goL (λj (y:k0) (_:Unit) a=>bif ieq y.af p then r (i:Int) (j:Int) else a ()) (λ_=>b ()) x.ae 0 ()) (λ_=>r (-1) (-1)) l i ()=r (zjI p l i).1 (zjI p l i).2
 |[],_=>rfl
 |m::l,i=>by simp only[goL,zjI];rw[zTK (λs=>ieq s.af p) λj=>r (i:Int) (j:Int)];unfold zp2;cases m.ae.findIdx? (λs=>ieq s.af p) with|none=>exact zQf p r l (i+1)|some k=>simp only[j6]
@[simp] abbrev zgA (h:ad)(p:Int):Bool:=true
@[simp] abbrev zdZ (h:ad)(p:Int):Int:=(zbT h p).1
@[simp] abbrev zeU (h:ad)(p:Int):Int:=(zbT h p).2
def zkq:Run:=rF2 dH dI λb c=>(zgA b c,[aI<|zdZ b c,aI<|zeU b c])
def zwL (N:Nat)(f:ad)(g:Int):OA:=
 (cond (ilt g 0) (some [aI<|-1,aI<|-1])<|r0 (σ:=(Int×Int×Int×lN×Unit)) N (λi b=>let c:=b.2.2.1; (cond (ilt c b.2.1) (oN (inb c<|ln b.2.2.2.1)<|r0 (σ:=(Int×Int×Int×Int×Int×Int×Int×lN×Unit)) N (λj a=>let b:=a.2.2.2.2;let e:=b.2.2.2.1;let h:=(ix e b.1 zi).ae;let d:=b.2.2.1; (cond (ilt d b.2.1) (oN (inb d<|ln h)<|cond (ieq (ix h d zba).af a.1) (some [aI a.2.1,aI d])<|j (a.1,a.2.1,a.2.2.1,a.2.2.2.1,b.1,b.2.1,zI .i64 d 1,e,()))<|i (a.1,a.2.2.1,zI .i64 a.2.2.2.1 1,e,()))) (b.1,c,b.2.1,c,c,ln (ix b.2.2.2.1 c zi).ae,0,b.2.2.2.1,()))<|some [aI<|-1,aI<|-1])) (g,ln f.aa,0,f.aa,()))
def zHL:=zq [(465,0,{n:=36,tm:=[(1,ti),(13,.sl 0 []),(14,ti),(15,ti)],lo:=[],ro:=[(0,.mon,false)]}),(465,2,{n:=36,tm:=[(1,ti),(6,ti),(13,.sl 0 []),(14,ti),(15,ti),(21,.sl 0 [0]),(22,ti),(23,ti)],lo:=[],ro:=[(0,.mon,false)]})]
def zHm (a:ad)(c:Int)(m:zbE big [aH a,aI c])(q:zgA a c=true):∃N,zwL N a c=some [aI<|zdZ a c,aI<|zeU a c]:=by
 have k:CVB big (.s .mon a.aa):=(zdy m).1 _ (by simp[AV.cvs,zbt]);have h:=k.len;refine zb2 λN e=>?_;unfold zwL zdZ zeU zbT oN;conv=>zeta
 cases p:ilt c 0;{simp only [cF];refine(zbl a.aa (λi (t:Unit)=>(c,ln a.aa,(i:Int),a.aa,())) _ (λi (x:Mon) (_:Unit) n=>goL (λj (y:k0) (_:Unit) b=>bif ieq y.af c then some [AV.one<|.i .i64 (i:Int),AV.one<|.i .i64 (j:Int)] else b ()) (λ_=>n ()) x.ae 0 ()) (λ(t:Unit)=>some [.one<|.i .i64<|-1,.one<|.i .i64<|-1]) (λi d t rec=>?_) (λt rec=>?_) _ ()<|e h).trans ?_;{simp only [zbo d,zX d,zbh d,zY d h,cT];have l:a.aa[i].ae.length<=big:=(k.inv.2 _ (jE d) (.s .slot _) (by simp[Ty.cells])).len;refine(zbl a.aa[i].ae (λj (u:Unit)=>(c,(i:Int),ln a.aa,(i:Int),(i:Int),ln a.aa[i].ae,(j:Int),a.aa,())) _ (λj (y:k0) (_:Unit) b=>bif ieq y.af c then some [AV.one<|.i .i64 (i:Int),AV.one<|.i .i64 (j:Int)] else b ()) (λ(u:Unit)=>rec (c,ln a.aa,((i+1:Nat):Int),a.aa,())) (λj g u f=>?_) (λu f=>?_) _ ()<|e l).trans ?_;{simp only [zbo g,zX g,zbh g,zY g l,cT,zX d,zbh d,zY d h]};{simp only [zbj,cF,zX d,zbh d,zY d h]};rfl};{simp only [zbj,cF]};exact zQf c (λi j=>some [AV.one<|.i .i64 i,AV.one<|.i .i64 j]) a.aa 0};{rfl}
def zDx:vU 465 zkq:=hF2 zvJ zA zu zdX zHL zHm
def z7h {a c b:Type}(r:Option b):∀(l:List a) (i:Nat) (t:c),goL (λ_ _ _ _=>r) (λ_=>r) l i t=r
 |[],_,_=>rfl
 |_::_,_,_=>rfl
def zwW (N:Nat)(d:ad)(f:Int):OA:=
 (r0 (σ:=(Int×Int×lM×lN×lE×lE×Unit)) N (λg b=>cond (ilt b.2.1<|ln b.2.2.2.1) (cond (ige b.1 0) (r0 (σ:=(Int×Int×Int×lM×lN×lE×lE×Unit)) N (λh a=>let b:=a.2.2.2.2;let c:=b.1;let e:=(ix c a.2.1 zi).ae; (oN (inb a.2.1<|ln c)<|cond (ilt a.2.2.1<|ln e) (oN (inb a.2.1<|ln c)<|oN (inb a.2.2.1<|ln e)<|cond (ieq (ix e a.2.2.1 zba).af a.1) (some [aI a.2.1,aI a.2.2.1])<|h (a.1,a.2.1,zI .i64 a.2.2.1 1,a.2.2.2.1,c,b.2.1,b.2.2.1,()))<|g (a.1,zI .i64 a.2.1 1,a.2.2.2.1,c,b.2.1,b.2.2.1,()))) (b.1,b.2.1,0,b.2.2.1,b.2.2.2.1,b.2.2.2.2.1,b.2.2.2.2.2.1,()))<|some [aI<|-1,aI<|-1])<|some [aI<|-1,aI<|-1]) (f,0,d.ag,d.aa,d.ao,d.ak,()))
def zHN:=zq [(443,0,{n:=44,tm:=[(1,ti),(2,.lp 0 0),(6,ti)],lo:=[(0,[.sl 0 [],.sl 1 [],.sl 2 [],.sl 3 []])],ro:=[(0,.sl .int,false),(1,.mon,false),(2,.entry,false),(3,.entry,false)]}),(443,2,{n:=44,tm:=[(1,ti),(2,.lp 0 0),(6,ti),(7,ti)],lo:=[(0,[.sl 0 [],.sl 1 [],.sl 2 [],.sl 3 []])],ro:=[(0,.sl .int,false),(1,.mon,false),(2,.entry,false),(3,.entry,false)]})]
def zHy (a:ad)(b:Int)(p:zbE big [aH a,aI b])(r:zgA a b=true):∃N,zwW N a b=some [aI<|zdZ a b,aI<|zeU a b]:=by
 have m:CVB big (.s .mon a.aa):=(zdy p).1 _ (by simp[AV.cvs,zbt]);have l:=m.len;refine zb2 λN e=>?_;unfold zwW zdZ zeU zbT oN;conv=>zeta
 refine(zbl a.aa (λi (t:Unit)=>(b,(i:Int),a.ag,a.aa,a.ao,a.ak,())) _ (λi (x:Mon) (_:Unit) q=>bif ige b 0 then goL (λj (y:k0) (_:Unit) c=>bif ieq y.af b then some [AV.one<|.i .i64 (i:Int),AV.one<|.i .i64 (j:Int)] else c ()) (λ_=>q ()) x.ae 0 () else some [AV.one<|.i .i64<|-1,AV.one<|.i .i64<|-1]) (λ(t:Unit)=>some [.one<|.i .i64<|-1,.one<|.i .i64<|-1]) (λi d t rec=>?_) (λt rec=>?_) _ ()<|e l).trans ?_;{simp only [zbo d,zX d,zbh d,zY d l,cT];cases h:ige b 0;{rfl};have n:a.aa[i].ae.length<=big:=(m.inv.2 _ (jE d) (.s .slot _) (by simp[Ty.cells])).len;simp only[cT];refine(zbl a.aa[i].ae (λj (_:Unit)=>(b,(i:Int),(j:Int),a.ag,a.aa,a.ao,a.ak,())) _ (λj (y:k0) (_:Unit) c=>bif ieq y.af b then some [AV.one<|.i .i64 (i:Int),AV.one<|.i .i64 (j:Int)] else c ()) (λ_=>rec (b,((i+1:Nat):Int),a.ag,a.aa,a.ao,a.ak,())) (λj g u f=>?_) (λu f=>?_) _ ()<|e n).trans ?_;{simp only [zbo g,zX g,zbh g,zY g n,cT,zX d,zbh d]};{simp only [zbj,cF,cT,zX d,zbh d,zY d l]};rfl};{simp only [zbj,cF]};cases h:ige b 0;{have k:ilt b 0=true:=(by have:=jQ h;exact qH (by omega));rw[k];exact z7h _ _ _ _};{have k:ilt b 0=false:=(by have:=qD h;exact qI (by omega));rw[k];exact zQf b (λi j=>some [AV.one<|.i .i64 i,AV.one<|.i .i64 j]) a.aa 0}
def zDJ:vU 443 zkq:=hF2 zvJ zA zu zdX zHN zHy
def zbbV:zZ:=[(384,zkR),(461,zkR),(443,zkq),(465,zkq)]++zbbU
def zvK:zS zbbV:=zh zvW (zh zJ5<|zh zDJ<|zh zDx zvJ)
def zcD (h:ad):LI:=zyx (λi=>ilt (zbT h (i:Int)).1 0) h.ag.length 0
@[simp] abbrev zgD (h:ad):Bool:=pc (h.ag.length<=1048576)
@[simp] abbrev zdb (h:ad):LI:=zcD h
def zqz:Run:=rF1 dH λb=>(zgD b,[aS .int<|zdb b])
def zL7 (N:Nat)(b:ad):OA:=
 (r0 (σ:=(Int×LI×lM×lN×lE×lE×Unit)) N (λc a=>let b:=a.2.2.2.2;let d:=(⟨a.2.2.1,a.2.2.2.1,b.1,b.2.1⟩:ad); (cond (ilt a.1<|ln a.2.2.1) (oN (zgA d a.1)<|cond (ilt (zdZ d a.1) 0) (oN (few<|ln<|ap a.2.1 [a.1])<|c (zI .i64 a.1 1,ap a.2.1 [a.1],a.2.2.1,a.2.2.2.1,b.1,b.2.1,()))<|c (zI .i64 a.1 1,a.2.1,a.2.2.1,a.2.2.2.1,b.1,b.2.1,()))<|some [aS .int a.2.1])) (0,[],b.ag,b.aa,b.ao,b.ak,()))
def z0c:=zq [(442,0,{n:=28,tm:=[(1,.lp 0 0),(3,.sl 0 []),(4,ti)],lo:=[(0,[.sl 1 [],.sl 2 [],.sl 3 [],.sl 4 []])],ro:=[(0,.int,true),(1,.sl .int,false),(2,.mon,false),(3,.entry,false),(4,.entry,false)]})]
def zYn (a:ad)(f:zgD a=true):∃N,zL7 N a=some [aS .int<|zdb a]:=by
 have g:=zM.1 f;have e:=zcc g;refine zb2 λN d=>?_;unfold zL7 oN;conv=>zeta
 refine(zbl a.ag (λi (t:LI)=>((i:Int),t,a.ag,a.aa,a.ao,a.ak,())) _ (λi (_:LI) (t:LI) b=>bif ilt (zbT a (i:Int)).1 0 then (cond (few<|ln<|ap t [(i:Int)]) (b<|ap t [(i:Int)]) none) else b t) (λ(t:LI)=>some [.one<|.s .int t]) (λi c t rec=>?_) (λt rec=>?_) _ ([])<|d e.1).trans ?_;{simp only [zbo c,zX c,zbh c,zY c e.1,cT]};{simp only [zbj,cF]};rw[zzn λi (t:LI) b=>bif ilt (zbT a (i:Int)).1 0 then (cond (few<|ln<|ap t [(i:Int)]) (b<|ap t [(i:Int)]) none) else b t];exact zBi (λi=>ilt (zbT a (i:Int)).1 0) _ _ 0 [] (by simpa using e.2)
def zQT:vU 442 zqz:=kF1 zvK zA zu zdX z0c zYn
def zLM (N:Nat)(b:ad):OA:=
 (r0 (σ:=(Int×Int×LI×lM×lN×lE×lE×Unit)) N (λd a=>let b:=a.2.2.2.2;let c:=b.2.2.1;let e:=(⟨a.2.2.2.1,b.1,b.2.1,c⟩:ad); (cond (ilt a.2.1 a.1) (oN (zgA e a.2.1)<|cond (ilt (zdZ e a.2.1) 0) (oN (few<|ln<|ap a.2.2.1 [a.2.1])<|d (a.1,zI .i64 a.2.1 1,ap a.2.2.1 [a.2.1],a.2.2.2.1,b.1,b.2.1,c,()))<|d (a.1,zI .i64 a.2.1 1,a.2.2.1,a.2.2.2.1,b.1,b.2.1,c,()))<|some [aS .int a.2.2.1])) (ln b.ag,0,[],b.ag,b.aa,b.ao,b.ak,()))
def zZ4:=zq [(427,0,{n:=28,tm:=[(1,.lp 0 0),(3,.sl 0 []),(10,ti),(11,ti)],lo:=[(0,[.sl 1 [],.sl 2 [],.sl 3 [],.sl 4 []])],ro:=[(0,.int,true),(1,.sl .int,false),(2,.mon,false),(3,.entry,false),(4,.entry,false)]})]
def zX4 (a:ad)(f:zgD a=true):∃N,zLM N a=some [aS .int<|zdb a]:=by
 have g:=zM.1 f;have e:=zcc g;refine zb2 λN d=>?_;unfold zLM oN;conv=>zeta
 refine(zbl a.ag (λi (t:LI)=>(ln a.ag,(i:Int),t,a.ag,a.aa,a.ao,a.ak,())) _ (λi (_:LI) (t:LI) b=>bif ilt (zbT a (i:Int)).1 0 then (cond (few<|ln<|ap t [(i:Int)]) (b<|ap t [(i:Int)]) none) else b t) (λ(t:LI)=>some [.one<|.s .int t]) (λi c t rec=>?_) (λt rec=>?_) _ ([])<|d e.1).trans ?_;{simp only [zbo c,zX c,zbh c,zY c e.1,cT]};{simp only [zbj,cF]};rw[zzn λi (t:LI) b=>bif ilt (zbT a (i:Int)).1 0 then (cond (few<|ln<|ap t [(i:Int)]) (b<|ap t [(i:Int)]) none) else b t];exact zBi (λi=>ilt (zbT a (i:Int)).1 0) _ _ 0 [] (by simpa using e.2)
def zQs:vU 427 zqz:=kF1 zvK zA zu zdX zZ4 zX4
def zkl (m:List LI)(p:Int)(c:LI):List LI:=bif j0 p (ln m) then (cond (zcN c) (up m p c) m) else m
@[simp] abbrev zgF (m:List LI)(p:Int)(c:LI):Bool:=pc (SmM m/\c.length<=1048576)
@[simp] abbrev zfy (m:List LI)(p:Int)(c:LI):List LI:=zkl m p c
def znL:Run:=rF3 (dS<|.sl .int) dI (dS .int) λb c d=>(zgF b c d,[aS (.sl .int)<|zfy b c d])
def zEp (N:Nat)(a:lM)(b:Int)(c:LI):OA:=
 (oN (zhw a)<|oN (zO b 0<|wsub .i64 (ln a) 1)<|cond (zk b 0<|wsub .i64 (ln a) 1) (oN (zd3 c)<|cond (zdl c) (oN (few<|ln<|ap [] c)<|oN (inb b<|ln<|zfI a)<|p0 (up (zfI a) b<|ap [] c) λd=>some [aS (.sl .int) d])<|some [aS (.sl .int)<|zfI a])<|some [aS (.sl .int)<|zfI a])
def zR3 (b:List LI)(a:Int)(c:LI)(g:zgF b a c=true):∃N,zEp N b a c=some [aS (.sl .int)<|zfy b a c]:=by obtain⟨e,d⟩:=zM.1 g;refine⟨0,?_⟩;unfold zEp zfy zkl oN;refine i0 (zbr<|(zrQ _).2 e) (i0 rfl ?_);rw[show zk a 0 (wsub .i64 (ln b) 1)=j0 a (ln b) from zso e.1 a];cases f:j0 a (ln b);{rfl};{simp only [cT,zd3,zdl];cases h:zcN c;{rfl};{refine i0 rfl (i0 (zps d)<|i0 (zF f) ?_);rw[zoc];rfl}}
def zKE:vU 444 znL:=kF3 zvK zA zu zdX (zq []) zR3
def zDV (N:Nat)(a:lM)(b:Int)(c:LI):OA:=
 (oN (zhl a)<|oN (zbH b<|ln a)<|cond (zdG b<|ln a) (oN (zd3 c)<|cond (zdl c) (oN (zeq c)<|oN (inb b<|ln<|zeh a)<|p0 (up (zeh a) b<|zel c) λd=>some [aS (.sl .int) d])<|some [aS (.sl .int)<|zeh a])<|some [aS (.sl .int)<|zeh a])
def zRz (a:List LI)(b:Int)(c:LI)(f:zgF a b c=true):∃N,zDV N a b c=some [aS (.sl .int)<|zfy a b c]:=by obtain⟨g,d⟩:=zM.1 f;refine⟨0,?_⟩;unfold zDV zfy zkl oN;refine i0 (zbr g) (i0 rfl ?_);rw[show zdG b (ln a)=j0 b (ln a) from rfl];cases e:j0 b (ln a);{rfl};{simp only [cT,zd3,zdl];cases h:zcN c;{rfl};{refine i0 rfl (i0 (zbr<|qT d (by decide)) (i0 (zF e) rfl))}}
def zJ9:vU 429 znL:=kF3 zvK zA zu zdX (zq []) zRz
def zsw:zZ:=[(442,zqz),(427,zqz),(444,znL),(429,znL)]++zbbV
def ziT:zS zsw:=zh zQT (zh zQs<|zh zKE<|zh zJ9 zvK)
abbrev mZ:Mon:=Ty.dflt .mon
abbrev sZ:k0:=Ty.dflt .slot
def ShM (x:Mon):Prop:=x.ae.length=8/\x.Out.length=8/\x.aw.length=8/\x.am.length=x.ac.length
def Shape (h:ad):Prop:=SmH h/\∀x∈h.aa,ShM x
def zkj {h:ad}{m:Int}{x:Mon}(a:Shape h)(c:zgs x)(d:ShM x):Shape {h with aa:=up h.aa m x}:=by refine⟨⟨a.1.1,zk9 a.1.2.1 c,a.1.2.2⟩,λy b=>?_⟩;rcases qZ b with b|rfl;{exact a.2 y b};{exact d}
def zcO {h:ad}(b:Shape h){m:Int}(a:j0 m (ln h.aa)=true):zgs (ix h.aa m mZ)/\ShM (ix h.aa m mZ):=⟨b.1.2.1.2 _<|zbN a _,b.2 _<|zbN a _⟩
def zUf {h:ad}{b:List LI}(a:Shape h)(c:SmM b):Shape {h with ag:=b}:=⟨⟨c,a.1.2⟩,a.2⟩
def zus {h:ad}{m p:Int}{s:k0}(e:j0 m (ln h.aa)=true)(b:Shape h):Shape (zcH h m p s):=by refine⟨zJi e b.1,?_⟩;obtain⟨_,a⟩:=zcO b e;have d:∀y∈up h.aa m {zme (ix h.aa m mZ) p (ix h.aa m mZ).am.length with ae:=up (ix h.aa m mZ).ae p s},ShM y:=(by intro y c;rcases qZ c with c|rfl;{exact b.2 y c};{exact⟨by simpa using a.1,a.2.1,a.2.2.1,by simpa [zme,zsj] using a.2.2.2⟩});unfold zcH;cases ine (ix (ix h.aa m mZ).ae p sZ).af (-1)<;>exact d
def zhE (h:ad)(m p:Int)(s:k0):(zcH h m p s).aa=up h.aa m {zme (ix h.aa m mZ) p (ix h.aa m mZ).am.length with ae:=up (ix h.aa m mZ).ae p s}/\(zcH h m p s).ag=h.ag:=by unfold zcH;cases ine (ix (ix h.aa m mZ).ae p sZ).af (-1)<;>exact⟨rfl,rfl⟩
def zfA {h:ad}{m k:Int}{x:Mon}(a:j0 m (ln h.aa)=true):j0 m (ln<|up h.aa k x)=true:=by simpa [ln] using a
def zII {h:ad}{m k p:Int}{s:k0}(a:j0 m (ln h.aa)=true):j0 m (ln (zcH h k p s).aa)=true:=by rw[(zhE h k p s).1];exact zfA a
def zee {b:Type}{l:List b}{p:Int}(h:l.length=8)(a:j0 p 8=true):j0 p (ln l)=true:=by rw[ln,h];exact a
def zBv (h:ad)(m p:Int)(s:k0):ad :=
 bif ine s.af (-1) then ⟨h.ag,up h.aa m<|zme (ix h.aa m mZ) p (ix h.aa m mZ).ac.length,flushed h.ao s.af,flushed h.ak s.af⟩
 else ⟨h.ag,up h.aa m<|zme (ix h.aa m mZ) p (ix h.aa m mZ).ac.length,h.ao,h.ak⟩
def zB1 {h:ad}{k:Nat}{p:Int}{s:k0}(a:k<h.aa.length)(b:(ix h.aa (k:Int) mZ).am.length=(ix h.aa (k:Int) mZ).ac.length) :
 zBv {h with aa:=up h.aa (k:Int) {ix h.aa (k:Int) mZ with ae:=up (ix h.aa (k:Int) mZ).ae p s}} (k:Int) p (ix (ix h.aa (k:Int) mZ).ae p sZ)=zcH h (k:Int) p s:=by
 unfold zcH zBv;simp only[zev a,zx8,zme,b]
def z4w {a:Type}(m p:Int)(i:Nat)(t:List Mon)(b:List Mon->Option a):Option a :=
 (cond (inb (i:Int)<|ln (ix t m mZ).am) (cond (inb (i:Int)<|ln (ix t m mZ).ac) (cond (pc<|SmK (ix (ix t m mZ).am (i:Int) ze0)/\(ix (ix t m mZ).ac (i:Int) zy).av.length<=1048576) (cond (inb (i:Int)<|ln (ix t m mZ).am) (b<|up t m ({ (ix t m mZ) with am:=(up (ix t m mZ).am (i:Int)<|zle (ix (ix t m mZ).am (i:Int) ze0) (ix (ix t m mZ).ac (i:Int) zy).av p)}:Mon)) none) none) none) none)
def z2A {j:Type}{mons:List Mon}{k:Nat}(d:k<mons.length)(p:Int)(c:zgs (ix mons (k:Int) mZ))(f:(ix mons (k:Int) mZ).am.length=(ix mons (k:Int) mZ).ac.length)(K:List Mon->Option j) :
 ∀(n i:Nat),i+n=(ix mons (k:Int) mZ).ac.length->goN (λi t g=>z4w (k:Int) p i t g) K n i (up mons (k:Int)<|zme (ix mons (k:Int) mZ) p i)=K (up mons (k:Int)<|zme (ix mons (k:Int) mZ) p (ix mons (k:Int) mZ).ac.length)
 | 0,i,h=>by have:i=(ix mons (k:Int) mZ).ac.length:=(by omega);subst this;rfl
 |n+1,i,h=>by
  have b:i<(ix mons (k:Int) mZ).ac.length:=(by omega);have a:i<(znc (ix mons (k:Int) mZ).ac p i (ix mons (k:Int) mZ).am).length:=by rw[zsj];omega
  have e:pc (SmK (ix (znc (ix mons (k:Int) mZ).ac p i (ix mons (k:Int) mZ).am) (i:Int) ze0)/\(ix (ix mons (k:Int) mZ).ac (i:Int) zy).av.length<=1048576)=true :=
   zbr ⟨by rw[zbh a];exact(zx6 _ _ _ _ (by omega) c.2.2.2.2.2).2 _ (jE a),by rw[zbh b];exact(c.2.2.2.1.2 _<|jE b).2.2.1⟩
  simp only[goN,z4w,zev d,zx8,zme,zX a,zX b,e,cT];exact z2A d p c f K n (i+1) (by omega)
@[simp] abbrev zfs (h:ad)(m p:Int)(s:k0):Bool:=pc (Shape h/\j0 m (ln h.aa)=true)
@[simp] abbrev zft (h:ad)(m p:Int)(s:k0):ad:=zBv h m p s
def zn8:LC->LA->Option (Bool×LC×LA)
 |[.s (.sl .int) b,.s .mon c,.s .entry d,.s .entry e],[.one<|.i .i64 f,.one<|.i .i64 g,.agg [.i .i64 h,.i .i64 j]]=>some (zfs (⟨b,c,d,e⟩:ad) f g (⟨h,j⟩:k0),zbt<|zft (⟨b,c,d,e⟩:ad) f g (⟨h,j⟩:k0),[])
 |_,_=>none
def zrI (N:Nat)(c:ad)(i n:Int)(k:k0):OA:=
 (oN (inb i<|ln c.aa)<|r0 (σ:=(Int×Int×Int×Int×Int×Int×lN×lM×lE×lE×Unit)) N (λp a=>let c:=a.2.2.2.2;let j:=c.2.2.2.1;let h:=c.2.2.1;let e:=c.1;let g:=c.2.2.2.2.1;let f:=c.2.2.2.2.2.1;let b:=a.2.2.2.1;let d:=ix h a.2.1 zi;let m:=ix d.am b ze0;let l:=(ix d.ac b zy).av; (cond (ilt b a.2.2.1) (oN (inb b<|ln d.am)<|oN (inb b<|ln d.ac)<|oN (ziP m l a.1)<|oN (inb b<|ln d.am)<|p0 (up h a.2.1 ({d with am:=(up d.am b<|zm0 m l a.1)}:Mon)) λq=>p (a.1,a.2.1,a.2.2.1,zI .i64 b 1,e,c.2.1,q,j,g,f,()))<|cond (ine e<|-1) (oN (zeH g e)<|oN (zeH f e)<|some [aH (⟨j,h,zhp g e,zhp f e⟩:ad)])<|some [aH (⟨j,h,g,f⟩:ad)])) (n,i,ln (ix c.aa i zi).ac,0,k.af,k.aj,c.aa,c.ag,c.ao,c.ak,()))
def zLz:=zq [(325,0,{n:=71,tm:=[(0,.lp 0 0),(2,ti),(7,.lp 1 0),(8,.ep 0 [] 0),(20,ti),(21,ti)],lo:=[(0,[.sl 1 [],.sl 0 [],.sl 2 [],.sl 3 []]),(1,[ti,ti])],ro:=[(0,.mon,true),(1,.sl .int,true),(2,.entry,true),(3,.entry,true)]})]
def zOI (N:Nat)(c:ad)(a b:Int)(d:k0):zp0 (cQ zsw zqg zLd zZ0) zLz N 12 325 [true,true,true,true] (zbt c) [aI a,aI b,aT .slot d]=zrI N c a b d:=by kernel_rfl
def zKU (c:ad)(d b:Int)(a:k0)(s:zbE big (.agg (zbt c)::[aI d,aI b,aT .slot a]))(r:zfs c d b a=true):∃N,zrI N c d b a=some (.agg (zbt<|zft c d b a)::[]):=by
 obtain⟨h,g⟩:=zM.1 r;obtain⟨l,q⟩:=zcO h g;have hg:(ix c.aa d mZ).ac.length<=big:=(zcc l.2.2.2.1.1).1;refine zb2 λN f=>?_;unfold zrI oN;conv=>zeta
 refine i0 (zF g) ?_;refine(zbl ((ix c.aa d zi).ac) (λi (t:lN)=>(b,d,ln (ix c.aa d zi).ac,(i:Int),a.af,a.aj,t,c.ag,c.ao,c.ak,())) _ (λi (x:ah) (t:List Mon) j=>z4w d b i t j) (λ(t:lN)=>cond (ine a.af<|-1) (cond (zeH c.ao a.af) (cond (zeH c.ak a.af) (some [.agg<|zbt (⟨c.ag,t,zhp c.ao a.af,zhp c.ak a.af⟩:ad)]) none) none)<|some [.agg<|zbt (⟨c.ag,t,c.ao,c.ak⟩:ad)]) (λi e t rec=>?_) (λt rec=>?_) _ (c.aa)<|f hg).trans ?_;{simp only [zbo e,zX e,zbh e,zY e hg,cT];rfl};{simp only [zbj,cF]};obtain⟨k,rfl,m⟩:=zez (n:=c.aa.length) g;rw[zzn λi t j=>z4w (k:Int) b i t j];have p:c.aa=up c.aa (k:Int) (zme (ix c.aa (k:Int) mZ) b 0):=(zAz m _).symm;refine(congrArg _ p).trans ((z2A m b l q.2.2.2 _ _ 0<|j6 _).trans ?_);show (cond (ine a.af<|-1) _ _)=some [AV.agg<|zbt<|zBv c (k:Int) b a];unfold zBv;cases ine a.af (-1);{rfl};{exact i0 rfl (i0 (zbr h.1.2.2.1) (i0 (zbr h.1.2.2.2) rfl))}
def zE3:zbX Tryz.prog 325 [true,true,true,true] zn8:=by refine ziM (zhP ziT zA zu zdX) (zkp (by kernel_rfl)) ?_;intro g a b j i f h;have d:=zmz f;unfold zn8 at h;split at h;{obtain⟨e,rfl,rfl⟩:=zoB h;obtain⟨N,c⟩:=zKU _ _ _ _ (by exact d) e;exact⟨rfl,_,N,12,(zOI N _ _ _ _ ).trans c⟩};{cases h}
def z4V:zcW:=[(325,[true,true,true,true],zn8)]++zLd
def zSg:zb7 z4V:=zcq zu (by
 intro x a;simp only[qG,qM,or_false]at a;rcases a with rfl
 .exact zE3)
def zfU (h:ad)(m p:Int):ad:={h with aa:=up h.aa m {ix h.aa m mZ with Out:=up (ix h.aa m mZ).Out p (zcQ h.ag (ix (ix h.aa m mZ).ae p sZ).af)}}
def zer (h:ad)(m p:Int):ad:=zcH (zfU h m p) m p C0
def zZM {m:List LI}{p:Int}(h:SmM m):(zcQ m p).length<=1048576:=by unfold zcQ;cases a:j0 p (ln m);{exact(by decide:zB9.length<=1048576)};{exact h.2 _ (zbN a _)}
def zyT {h:ad}{m p:Int}(c:Shape h)(d:j0 m (ln h.aa)=true):Shape (zfU h m p):=by obtain⟨a,b⟩:=zcO c d;exact zkj c ⟨a.1,zPr a.2.1<|zZM c.1.1,a.2.2⟩ ⟨b.1,by simpa using b.2.1,b.2.2⟩
def zPf {h:ad}{m p:Int}(b:Shape h)(a:j0 m (ln h.aa)=true):Shape (zer h m p):=zus (zfA a) (zyT b a)
@[simp] abbrev zlA (h:ad)(m p:Int):Bool:=pc (Shape h/\j0 m (ln h.aa)=true/\j0 p 8=true)
@[simp] abbrev zpl (h:ad)(m p:Int):ad:=zer h m p
def zwq:LW
 |[.agg [.s (.sl .int) b,.s .mon c,.s .entry d,.s .entry e],.one<|.i .i64 f,.one<|.i .i64 g]=>some (zlA (⟨b,c,d,e⟩:ad) f g,[aH<|zpl (⟨b,c,d,e⟩:ad) f g])
 |_=>none
def zAL (N:Nat)(a:ad)(b c:Int):OA:=
 let d:=ix a.aa b zi;let e:=(ix d.ae c zba).af; (oN (inb b<|ln a.aa)<|oN (inb b<|ln a.aa)<|oN (inb c<|ln d.ae)<|oN (zfx a.ag e)<|oN (inb c<|ln d.Out)<|p0 (up a.aa b ({d with Out:=(up d.Out c<|zhc a.ag e)}:Mon)) (λg=>let f:=({a with aa:=g}:ad); (oN zbR<|oN (zgo f b c zbm)<|some [aH<|ziE f b c zbm])))
def z1r (N:Nat)(a:ad)(b c:Int):zGq (cQ zsw zqg z4V zZ0) (zq []) N 12 432 [true,true,true,true,false,false] 1 1 [[0],[1],[2],[4],[7]] .mon [aH a,aI b,aI c]=zAL N a b c:=by kernel_rfl
def zYF (b:ad)(d c:Int)(m:zbE big [aH b,aI d,aI c])(j:zlA b d c=true):∃N,zAL N b d c=some [aH<|zpl b d c]:=by
 obtain⟨g,a,f⟩:=zM.1 j;obtain⟨l,e⟩:=zcO g a;obtain⟨k,rfl,h⟩:=zez (n:=b.aa.length) a;have i:=zyT (p:=c) g a;refine⟨0,?_⟩;unfold zAL oN;conv=>zeta
 refine i0 (zF a) (i0 (zF a)<|i0 (zF<|zee e.1 f)<|i0 (zbr<|(zrQ _).2 g.1.1)<|i0 (zF<|zee e.2.1 f)<|shr (i0 rfl (i0 (zbr ⟨(zT _).2 i.1,zfA a,?_,?_⟩) rfl)));{simp only [zev h];exact zee e.1 f};{simp only [zev h];exact uD e.2.2.2}
def zRm:ze3 Tryz.prog 432 [true,true,true,true,false,false] (some (1,1,[[0],[1],[2],[4],[7]])) zwq:=by refine znt (kt:=.mon) (zhP ziT zA zSg zdX) (zkp (by kernel_rfl)) (by kernel_rfl) ?_;intro a g f e h;have c:=zkv e;unfold zwq at h;split at h;{obtain⟨d,rfl⟩:=zeP h;obtain⟨N,b⟩:=zYF _ _ _ (by exact c) d;exact⟨⟨_,rfl⟩,rfl,_,N,12,(z1r N _ _ _ ).trans b⟩};{cases h}
def zyB:LC->LA->Option (Bool×LC×LA)
 |[.s (.sl .int) b,.s .mon c,.s .entry d,.s .entry e],[.one<|.i .i64 f,.one<|.i .i64 g]=>some (zlA (⟨b,c,d,e⟩:ad) f g,zbt<|zpl (⟨b,c,d,e⟩:ad) f g,[])
 |_,_=>none
def zJt (N:Nat)(c:ad)(b a:Int):OA:=
 let d:=ix c.aa b zi;let e:=ix d.ae a zba; (oN (inb b<|ln c.aa)<|oN (inb a<|ln d.ae)<|oN (zfx c.ag e.af)<|oN (inb a<|ln d.Out)<|p0 (up c.aa b ({d with Out:=(up d.Out a<|zhc c.ag e.af)}:Mon)) (λg=>let f:=ix g b zi; (oN zbR<|oN (inb a<|ln f.ae)<|p0 (up g b ({f with ae:=(up f.ae a zbm)}:Mon)) (λi=>let h:=({c with aa:=i}:ad); (oN (zfs h b a e)<|some [aH<|zft h b a e])))))
def z7K (N:Nat)(c:ad)(a b:Int):zp0 (cQ zsw zqg z4V zZ0) (zq []) N 12 323 [true,true,true,true] (zbt c) [aI a,aI b]=zJt N c a b:=by kernel_rfl
def z4I (c:ad)(e a:Int)(w:zbE big (.agg (zbt c)::[aI e,aI a]))(u:zlA c e a=true):∃N,zJt N c e a=some (.agg (zbt<|zpl c e a)::[]):=by
 obtain⟨l,b,j⟩:=zM.1 u;obtain⟨v,f⟩:=zcO l b;obtain⟨k,rfl,h⟩:=zez (n:=c.aa.length) b;have m:=zyT (p:=a) l b;have d:j0 (k:Int) (ln (zfU c (k:Int) a).aa)=true:=zfA b;have i:k<(zfU c (k:Int) a).aa.length:=(by simpa [zfU] using h);have g:ix (zfU c (k:Int) a).aa (k:Int) mZ={ix c.aa (k:Int) mZ with Out:=up (ix c.aa (k:Int) mZ).Out a (zcQ c.ag (ix (ix c.aa (k:Int) mZ).ae a sZ).af)}:=zev h _ _;have t:Shape {zfU c (k:Int) a with aa:=up (zfU c (k:Int) a).aa (k:Int) {ix (zfU c (k:Int) a).aa (k:Int) mZ with ae:=up (ix (zfU c (k:Int) a).aa (k:Int) mZ).ae a C0}}:=(by obtain⟨q,r⟩:=zcO m d;exact zkj m ⟨by simpa using q.1,q.2⟩ ⟨by simpa using r.1,r.2⟩);refine⟨0,?_⟩;unfold zJt oN;conv=>zeta
 refine i0 (zF b) (i0 (zF<|zee f.1 j)<|i0 (zbr<|(zrQ _).2 l.1.1)<|i0 (zF<|zee f.2.1 j)<|shr (i0 rfl (i0 ?_<|shr<|i0 (zbr ⟨t,zfA d⟩) ?_)));{rw [zev h];exact zF (zee f.1 j)};{have:=zB1 (p:=a) (s:=C0) i (by rw[g];exact f.2.2.2);rw[g] at this;show some [AV.agg<|zbt<|zBv {zfU c (k:Int) a with aa:=up (zfU c (k:Int) a).aa (k:Int) {ix (zfU c (k:Int) a).aa (k:Int) mZ with ae:=up (ix (zfU c (k:Int) a).aa (k:Int) mZ).ae a C0}} (k:Int) a<|ix (ix c.aa (k:Int) mZ).ae a sZ]=_;rw[g];exact congrArg (λx=>some [AV.agg<|zbt x]) this}
def zXN:zbX Tryz.prog 323 [true,true,true,true] zyB:=by refine ziM (zhP ziT zA zSg zdX) (zkp (by kernel_rfl)) ?_;intro g a b j i f h;have d:=zmz f;unfold zyB at h;split at h;{obtain⟨e,rfl,rfl⟩:=zoB h;obtain⟨N,c⟩:=z4I _ _ _ (by exact d) e;exact⟨rfl,_,N,12,(z7K N _ _ _ ).trans c⟩};{cases h}
def z4W:zcW:=[(323,[true,true,true,true],zyB)]++z4V
def zSh:zb7 z4W:=zcq zSg (by
 intro x a;simp only[qG,qM,or_false]at a;rcases a with rfl
 .exact zXN)
def z5P:zgd:=[(432,[true,true,true,true,false,false],some (1,1,[[0],[1],[2],[4],[7]]),zwq)]++zZ0
def zSu:zeS z5P:=zsk zdX (by
 intro x a;simp only[qG,qM,or_false]at a;rcases a with rfl
 .exact zRm)
def cz (l:List k0):Nat:=l.countP λs=>ieq s.af 0
def zH:List Mon->Nat
 |[]=>0
 |m::l=>cz m.ae+zH l
def bit (u:List Bool):Nat:=bif ix u 0 false then 1 else 0
def zzk (s:k0)(l:List k0):cz (s::l)=cz l+bif ieq s.af 0 then 1 else 0:=by unfold cz;rw[vN];cases ieq s.af 0<;>rfl
def zbeZ {u:List Bool}{p:Int}(c:0<=p)(a:p.toNat<u.length)(x:Bool):ix (up u p x) 0 false=bif ieq p 0 then x else ix u 0 false:=by unfold ix up;cases h:ieq p 0;{have:p≠0:=(by simpa [ieq] using h);have b:p.toNat≠0:=(by omega);simp[List.getD,q0,b]};{have:p=0:=(by simpa [ieq] using h);subst this;have a:0<u.length:=a;simp[List.getD,q0,a]}
def zGd:∀(l:List k0) (u b:List Bool),(∀s∈l,s.af<12)->u.length=12->zie l u=some b->cz l+bit u=bit b
 |[],u,b,_,_,h=>by cases h;simp[cz]
 |s::l,u,b,i,k,h=>by
  simp only[zie]at h;rw[zzk];cases c:ilt s.af 0;{have c:=jQ c;rw[show ilt s.af 0=false from qI (by omega)]at h;simp only[cF]at h;cases d:ix u s.af false;{rw [d]at h;simp only[cF]at h;have g:s.af.toNat<u.length:=(by have:=i s (by simp);omega);have a:=zGd l _ b (λt j=>i t (by simp[j])) (by simpa using k) h;have e:bit (up u s.af true)=bif ieq s.af 0 then 1 else bit u:=(by unfold bit;rw[zbeZ (by omega) g];cases ieq s.af 0<;>rfl);rw[e] at a;cases f:ieq s.af 0;{rw [f] at a;simp only[cF] at a ⊢;omega};{have n:s.af=0:=(by simpa [ieq] using f);rw[n]at d;have:bit u=0:=(by unfold bit;rw[d];rfl);rw[f] at a;simp only[cT] at a ⊢;omega}};{rw [d]at h;cases h}};{have m:=qD c;rw[c]at h;simp only[cT]at h;have a:=zGd l u b (λt j=>i t (by simp[j])) k h;have:ieq s.af 0=false:=(by simp[ieq];omega);rw[this];simpa using a}
def zXR:∀(l:List Mon) (u:List Bool),u.length=12->zkB l u=true->zH l+bit u<=1
 |[],u,_,_=>by unfold zH bit;cases ix u 0 false<;>simp
 |m::l,u,c,h=>by simp only[zkB]at h;cases b:zfw m;{rw [b]at h;cases h};{rw [b]at h;simp only[cT]at h;cases a:zie m.ae u with|none=>rw[a]at h;cases h|some d =>rw[a]at h;have e:=zGd _ _ _ (zGG<|zon b) c a;have f:=zXR l d ((zrC _ _ _ a).trans c) h;simp only[zH];omega}
def z6Q:∀(l:List k0) (b:Nat) (s:k0),l[b]?=some s->s.af=0->cz (l.set b C0)+1=cz l
 |[],b,s,h,_=>by simp at h
 |t::l,0,s,h,a=>by simp only[qJ,qC]at h;subst h;rw[List.set_cons_zero,zzk,zzk];have:ieq t.af 0=true:=(by simp[ieq,a]);rw[this];rfl
 |t::l,b+1,s,h,a=>by rw[List.set_cons_succ,zzk,zzk];have:=z6Q l b s (by simpa using h) a;omega
def z0y:∀(l:List Mon) (a:Nat) (x y:Mon),l[a]?=some x->zH (l.set a y)+cz x.ae=zH l+cz y.ae
 |[],a,x,y,h=>by simp at h
 |m::l,0,x,y,h=>by simp only[qJ,qC]at h;subst h;rw[List.set_cons_zero];simp only[zH];omega
 |m::l,a+1,x,y,h=>by rw[List.set_cons_succ];have:=z0y l a x y (by simpa using h);simp only[zH];omega
def z4f {l:List k0}(h:cz l=0):zp2 l 0=none:=by unfold zp2;rw[List.findIdx?_eq_none_iff];intro s a;have:=(vH.1 h) s a;simpa using this
def zOO:∀(l:List Mon) (i:Nat),zH l=0->zjI 0 l i=(-1,-1)
 |[],_,_=>rfl
 |m::l,i,h=>by simp only[zH]at h;simp only[zjI];rw[z4f (by omega)];exact zOO l (i+1) (by omega)
def z4g {l:List k0}{k:Nat}(h:zp2 l 0=some k):∃s,l[k]?=some s/\s.af=0:=by unfold zp2 at h;rw[vB]at h;obtain⟨a,b,_⟩:=h;exact⟨l[k],qB a,by simpa [ieq] using b⟩
def zIR:∀(l:List Mon) (i:Nat),zjI 0 l i=(-1,-1)\/∃a b x s,zjI 0 l i=(((i+a:Nat):Int),((b:Nat):Int))/\l[a]?=some x/\x.ae[b]?=some s/\s.af=0
 |[],_=>.inl rfl
 |m::l,i=>by
  simp only[zjI];cases h:zp2 m.ae 0 with
  |none=>rcases zIR l (i+1) with c|⟨a,b,x,s,c,d,f,g⟩;{exact .inl c};{refine .inr ⟨a+1,b,x,s,?_,by simpa using d,f,g⟩;have e:i+1+a=i+(a+1):=(by omega);rw[c,e]}
  |some k=>obtain⟨s,c,d⟩:=z4g h;exact .inr ⟨0,k,m,s,rfl,rfl,c,d⟩
def Fit (h:ad):Prop:=Shape h/\0<h.ag.length/\zH h.aa<=1
def zIH {h:ad}(c:0<h.ag.length)(b:ilt (zbT h 0).1 0=true):inb 0 (ln<|zcD h)=true:=by unfold zcD;obtain⟨n,a⟩:∃n,h.ag.length=n+1:=⟨h.ag.length-1,by omega⟩;rw[a];simp only[zyx];rw[show ilt (zbT h ((0:Nat):Int)).1 0=true from b];exact qH (by simp only[cT,ln,qU];omega)
def z4l {h:ad}(b:0<h.ag.length)(a:ieq (ln<|zcD h) 0=true):ilt (zbT h 0).1 0=false:=by cases c:ilt (zbT h 0).1 0;{rfl};{have d:=qD (zIH b c);have e:ln (zcD h)=0:=(by simpa [ieq] using a);omega}
def zdD (h:ad):ad:=bif ieq (ln<|zcD h) 0 then zer h (zbT h 0).1 (zbT h 0).2 else h
structure Room (h r:ad):Prop where
 shape:Shape r
 free:inb 0 (ln (zcD r))=true
 len:r.aa.length=h.aa.length
 outer:∀m,(ix r.aa m mZ).ae.length=8\/True
def z7R {h:ad}(i:Fit h)(f:ieq (ln<|zcD h) 0=true):∃(a b:Nat) (x:Mon) (s:k0),zbT h 0=((a:Int),(b:Int))/\h.aa[a]?=some x/\x.ae[b]?=some s/\s.af=0:=by have d:=z4l i.2.1 f;have e:zbT h 0=zjI 0 h.aa 0:=rfl;rcases zIR h.aa 0 with c|⟨a,b,x,s,c,g⟩;{rw [e,c]at d;cases d};{exact⟨a,b,x,s,by rw[e,c,j6],g⟩}
def zGB {h:ad}(d:Fit h)(e:ieq (ln<|zcD h) 0=true):j0 (zbT h 0).1 (ln h.aa)=true/\j0 (zbT h 0).2 8=true:=by obtain⟨a,b,x,s,f,c,g,j⟩:=z7R d e;rw[f];have k:=(qA.1 c).1;have l:=(qA.1 g).1;have i:=d.1.2 x (qK c);refine⟨qH (by simp only[ln];omega),qH ?_⟩;have:=i.1;show 0<=(b:Int)/\(b:Int)<8;omega
def room {h:ad}(d:Fit h):Room h (zdD h):=by unfold zdD;cases g:ieq (ln<|zcD h) 0;{refine⟨d.1,qH ?_,rfl,λ_=>.inr trivial⟩;have:ln (zcD h)≠0:=(by simpa [ieq] using g);show 0<=(0:Int)/\(0:Int)<ln (zcD h);simp only[ln] at *;omega};{obtain⟨n,u⟩:=zGB d g;obtain⟨a,b,x,s,r,i,k,t⟩:=z7R d g;simp only[cT];rw[r]at n u ⊢;have m:=(qA.1 i).1;have B:=(qA.1 k).1;have j:ix h.aa (a:Int) mZ=x:=(by rw[zbh m];exact(qA.1 i).2);have c:=(zhE (zfU h (a:Int) (b:Int)) (a:Int) (b:Int) C0).1;have q:ix (zfU h (a:Int) (b:Int)).aa (a:Int) mZ={x with Out:=up x.Out (b:Int) (zcQ h.ag (ix x.ae (b:Int) sZ).af)}:=(by unfold zfU;rw[zev m,j]);obtain⟨y,l,v⟩:∃y,(zer h (a:Int) (b:Int)).aa=h.aa.set a y/\y.ae=x.ae.set b C0:=(by unfold zer;rw[c,q];unfold zfU;rw[zx8];exact⟨_,by simp[up];rfl,by simp[up]⟩);have w:zH (zer h (a:Int) (b:Int)).aa=0:=(by have p:=z0y h.aa a x y i;have z:=z6Q x.ae b s k t;have A:=d.2.2;rw[l];rw[v] at p;omega);have f:(zer h (a:Int) (b:Int)).ag=h.ag:=(zhE (zfU h (a:Int) (b:Int)) (a:Int) (b:Int) C0).2;refine⟨zPf d.1 n,zIH (by rw[f];exact d.2.1) ?_,by rw[l];simp,λ_=>.inr trivial⟩;have e:zbT (zer h (a:Int) (b:Int)) 0=zjI 0 (zer h (a:Int) (b:Int)).aa 0:=rfl;rw[e,zOO _ _ w];rfl}
def zZN {m:List LI}{p:Int}{c:LI}(h:SmM m)(a:c.length<=1048576):SmM (zkl m p c):=by unfold zkl;cases j0 p (ln m);{exact h};{cases zcN c;{exact h};{exact zPr h a}}
def landing (r:ad)(m p to:Int):ad:={r with ag:=zkl r.ag to (ix (ix r.aa m mZ).Out p []),aa:=up r.aa m {ix r.aa m mZ with Out:=up (ix r.aa m mZ).Out p []}}
def zf2 (r:ad)(m p to:Int):ad:=zcH (landing r m p to) m p ⟨to,3⟩
def fetched (h:ad)(m p:Int):ad:=zf2 (zdD h) m p (ix (zcD<|zdD h) 0 0)
def zZP {r:ad}{m p:Int}(e:Shape r)(c:j0 m (ln r.aa)=true)(d:j0 p 8=true):(ix (ix r.aa m mZ).Out p []).length<=1048576:=by obtain⟨a,b⟩:=zcO e c;exact a.2.1.2 _ (zbN (zee b.2.1 d) _)
def zur {r:ad}{m p to:Int}(a:Shape r)(d:j0 m (ln r.aa)=true)(e:j0 p 8=true):Shape (landing r m p to):=by obtain⟨b,c⟩:=zcO a d;exact zUf (h:={r with aa:=up r.aa m {ix r.aa m mZ with Out:=up (ix r.aa m mZ).Out p []}}) (zkj (x:={ix r.aa m mZ with Out:=up (ix r.aa m mZ).Out p []}) a ⟨b.1,zPr b.2.1 (by simp),b.2.2⟩ ⟨c.1,by simpa using c.2.1,c.2.2⟩) (zZN a.1.1<|zZP a d e)
def zVS {r:ad}{m p d:Int}(c:Shape r)(a:j0 m (ln r.aa)=true)(b:j0 p 8=true):Shape (zf2 r m p d):=zus (zfA a) (zur c a b)
def zr5 {h:ad}(a:Fit h){m:Int}(b:j0 m (ln h.aa)=true):j0 m (ln (zdD h).aa)=true:=by rw[ln,(room a).len];exact b
def zlS {h:ad}{m p:Int}(a:Fit h)(b:j0 m (ln h.aa)=true)(c:j0 p 8=true):Shape (fetched h m p)/\j0 m (ln (fetched h m p).aa)=true :=
 ⟨zVS (room a).shape (zr5 a b) c,zII<|zfA<|zr5 a b⟩
@[simp] abbrev zm7 (h:ad)(m p:Int):Bool:=pc (Fit h/\j0 m (ln h.aa)=true/\j0 p 8=true)
@[simp] abbrev znZ (h:ad)(m p:Int):ad:=fetched h m p
def zyE:LW
 |[.agg [.s (.sl .int) b,.s .mon c,.s .entry d,.s .entry e],.one<|.i .i64 f,.one<|.i .i64 g]=>some (zm7 (⟨b,c,d,e⟩:ad) f g,[aH<|znZ (⟨b,c,d,e⟩:ad) f g])
 |_=>none
def zEs (N:Nat)(a:ad)(c b:Int):OA:=
 let h:=ix (zdb a) 0 0;let f:=ix a.aa c zi;let d:=zpl a (zdZ a 0)<|zeU a 0;let g:=ix (zdb d) 0 0;let e:=ix d.aa c zi; (oN (zgD a)<|cond (ieq (ln<|zdb a) 0) (oN (zgA a 0)<|oN (zlA a (zdZ a 0)<|zeU a 0)<|oN (zgD d)<|oN (inb 0<|ln<|zdb d)<|oN (inb c<|ln d.aa)<|oN (inb b<|ln e.Out)<|oN (zgF d.ag g<|ix e.Out b [])<|oN (inb c<|ln d.aa)<|oN (inb b<|ln e.Out)<|p0 (up d.aa c ({e with Out:=(up e.Out b [])}:Mon)) (λi=>let j:=({d with ag:=(zfy d.ag g<|ix e.Out b []),aa:=i}:ad); (oN (zgo j c b (⟨g,3⟩:k0))<|some [aH<|ziE j c b (⟨g,3⟩:k0)])))<|oN (zgD a)<|oN (inb 0<|ln<|zdb a)<|oN (inb c<|ln a.aa)<|oN (inb b<|ln f.Out)<|oN (zgF a.ag h<|ix f.Out b [])<|oN (inb c<|ln a.aa)<|oN (inb b<|ln f.Out)<|p0 (up a.aa c ({f with Out:=(up f.Out b [])}:Mon)) (λi=>let k:=({a with ag:=(zfy a.ag h<|ix f.Out b []),aa:=i}:ad); (oN (zgo k c b (⟨h,3⟩:k0))<|some [aH<|ziE k c b (⟨h,3⟩:k0)])))
def z4P (N:Nat)(a:ad)(b c:Int):zGq (cQ zsw zqg z4W z5P) (zq []) N 12 361 [true,true,true,true,false,false] 1 1 [[0],[1],[2],[4],[7]] .mon [aH a,aI b,aI c]=zEs N a b c:=by kernel_rfl
def z1m (c:ad)(b d:Int)(z:zbE big [aH c,aI b,aI d])(u:zm7 c b d=true):∃N,zEs N c b d=some [aH<|znZ c b d]:=by
 obtain⟨h,v,i⟩:=zM.1 u;have e:∀r,Shape r->inb 0 (ln<|zcD r)=true->j0 b (ln r.aa)=true->(cond (zgD r) (cond (inb 0<|ln<|zdb r) (cond (inb b<|ln r.aa) (cond (inb d<|ln (ix r.aa b zi).Out) (cond (zgF r.ag (ix (zdb r) 0 0)<|ix (ix r.aa b zi).Out d []) (cond (inb b<|ln r.aa) (cond (inb d<|ln (ix r.aa b zi).Out) (p0 (up r.aa b ({ (ix r.aa b zi) with Out:=(up (ix r.aa b zi).Out d [])}:Mon)) λs=>cond (zgo ({r with ag:=(zfy r.ag (ix (zdb r) 0 0)<|ix (ix r.aa b zi).Out d []),aa:=s}:ad) b d (⟨ix (zdb r) 0 0,3⟩:k0)) (some [AV.agg<|zbt<|ziE ({r with ag:=(zfy r.ag (ix (zdb r) 0 0)<|ix (ix r.aa b zi).Out d []),aa:=s}:ad) b d (⟨ix (zdb r) 0 0,3⟩:k0)]) none) none) none) none) none) none) none) none)=some [AV.agg<|zbt<|zf2 r b d<|ix (zcD r) 0 0]:=(by intro r j f a;obtain⟨y,l⟩:=zcO j a;have t:=zur (to:=ix (zcD r) 0 0) j a i;obtain⟨k,rfl,q⟩:=zez (n:=r.aa.length) a;refine i0 (zbr j.1.1.1) (i0 f<|i0 (zF a)<|i0 (zF<|zee l.2.1 i)<|i0 (zbr ⟨j.1.1,zZP j a i⟩)<|i0 (zF a)<|i0 (zF<|zee l.2.1 i)<|shr (i0 (zbr ⟨(zT _).2 t.1,zfA a,?_,?_⟩) rfl));{simp only [zev q];exact zee l.1 i};{simp only [zev q];exact uD l.2.2.2});have g:=room h;have a:=zr5 h v;refine⟨0,?_⟩;unfold zEs znZ fetched oN;conv=>zeta
 refine i0 (zbr h.1.1.1.1) ?_;cases p:ieq (ln<|zdb c) 0;{have m:zdD c=c:=(by unfold zdD;rw[show ieq (ln<|zcD c) 0=false from p];rfl);rw[m]at g a ⊢;exact e c g.shape g.free a};{obtain⟨w,x⟩:=zGB h p;have m:zdD c=zer c (zbT c 0).1 (zbT c 0).2:=(by unfold zdD;rw[show ieq (ln<|zcD c) 0=true from p];rfl);rw[m]at g a ⊢;exact i0 rfl (i0 rfl (i0 (zbr ⟨h.1,w,x⟩)<|e _ g.shape g.free a))}
def zUS:ze3 Tryz.prog 361 [true,true,true,true,false,false] (some (1,1,[[0],[1],[2],[4],[7]])) zyE:=by refine znt (kt:=.mon) (zhP ziT zA zSh zSu) (zkp (by kernel_rfl)) (by kernel_rfl) ?_;intro a g f e h;have c:=zkv e;unfold zyE at h;split at h;{obtain⟨d,rfl⟩:=zeP h;obtain⟨N,b⟩:=z1m _ _ _ (by exact c) d;exact⟨⟨_,rfl⟩,rfl,_,N,12,(z4P N _ _ _ ).trans b⟩};{cases h}
@[simp] abbrev zt3 (h:ad):Bool:=pc (Shape h/\j0 (zbT h 0).1 (ln h.aa)=true/\j0 (zbT h 0).2 8=true)
@[simp] abbrev zt4 (h:ad):ad:=zer h (zbT h 0).1 (zbT h 0).2
def zpc:LC->LA->Option (Bool×LC×LA)
 |[.s (.sl .int) b,.s .mon c,.s .entry d,.s .entry e],[]=>some (zt3 (⟨b,c,d,e⟩:ad),zbt<|zt4 (⟨b,c,d,e⟩:ad),[])
 |_,_=>none
def ztV (N:Nat)(c:ad)  : OA :=
 (oN (zgA c 0)<|oN (zlA c (zdZ c 0)<|zeU c 0)<|some [aH<|zpl c (zdZ c 0)<|zeU c 0])
def zSc (N:Nat)(c:ad)  : zp0 (cQ zsw zqg z4W z5P) (zq []) N 12 428 [true,true,true,true] (zbt c) []=ztV N c:=by kernel_rfl
def zOj (c:ad)(d:zbE big (.agg (zbt c)::[]))(a:zt3 c=true):∃N,ztV N c=some (.agg (zbt<|zt4 c)::[]):=by have b:=zM.1 a;refine⟨0,?_⟩;unfold ztV oN;exact i0 rfl (i0 (zbr b) rfl)
def zGU:zbX Tryz.prog 428 [true,true,true,true] zpc:=by refine ziM (zhP ziT zA zSh zSu) (zkp (by kernel_rfl)) ?_;intro g a b j i f h;have d:=zmz f;unfold zpc at h;split at h;{obtain⟨e,rfl,rfl⟩:=zoB h;obtain⟨N,c⟩:=zOj _ (by exact d) e;exact⟨rfl,_,N,12,(zSc N _ ).trans c⟩};{cases h}
def pctC:zcW:=[(428,[true,true,true,true],zpc)]++z4W
def z2P:zb7 pctC:=zcq zSh (by
 intro x a;simp only[qG,qM,or_false]at a;rcases a with rfl
 .exact zGU)
def zZ1:zgd:=[(361,[true,true,true,true,false,false],some (1,1,[[0],[1],[2],[4],[7]]),zyE)]++z5P
def zGI:zeS zZ1:=zsk zSu (by
 intro x a;simp only[qG,qM,or_false]at a;rcases a with rfl
 .exact zUS)
def z3E {r:ad}{m p to:Int}(d:Shape r)(b:j0 m (ln r.aa)=true):zBv {landing r m p to with aa:=up (landing r m p to).aa m {ix (landing r m p to).aa m mZ with ae:=up (ix (landing r m p to).aa m mZ).ae p ⟨to,3⟩}} m p (ix (ix (landing r m p to).aa m mZ).ae p sZ)=zf2 r m p to:=by obtain⟨e,c⟩:=zcO d b;obtain⟨k,rfl,a⟩:=zez (n:=r.aa.length) b;refine zB1 (h:=landing r (k:Int) p to) (by simpa [landing] using a) ?_;unfold landing;simp only[zev a];exact c.2.2.2
def z1U {r:ad}{m p to:Int}(f:Shape r)(b:j0 m (ln r.aa)=true)(e:j0 p 8=true):Shape {landing r m p to with aa:=up (landing r m p to).aa m {ix (landing r m p to).aa m mZ with ae:=up (ix (landing r m p to).aa m mZ).ae p ⟨to,3⟩}}:=by have a:=zur (to:=to) f b e;obtain⟨c,d⟩:=zcO a (zfA b);exact zkj a ⟨by simpa using c.1,c.2⟩ ⟨by simpa using d.1,d.2⟩
def zwc:LC->LA->Option (Bool×LC×LA)
 |[.s (.sl .int) b,.s .mon c,.s .entry d,.s .entry e],[.one<|.i .i64 f,.one<|.i .i64 g]=>some (zm7 (⟨b,c,d,e⟩:ad) f g,zbt<|znZ (⟨b,c,d,e⟩:ad) f g,[])
 |_,_=>none
def zD1 (N:Nat)(c:ad)(b a:Int):OA:=
 let m:=ix (zdb c) 0 0;let d:=zt4 c;let l:=ix (zdb d) 0 0;let f:=ix c.aa b zi;let e:=ix d.aa b zi; (oN (zgD c)<|cond (ieq (ln<|zdb c) 0) (oN (zt3 c)<|oN (inb b<|ln d.aa)<|oN (zgD d)<|oN (inb 0<|ln<|zdb d)<|oN (inb a<|ln e.Out)<|oN (zgF d.ag l<|ix e.Out a [])<|oN (inb a<|ln e.Out)<|p0 (up d.aa b ({e with Out:=(up e.Out a [])}:Mon)) (λg=>let i:=ix g b zi;let q:=ix i.ae a zba; (oN (inb a<|ln i.ae)<|oN (inb a<|ln i.ae)<|p0 (up g b ({i with ae:=(up i.ae a (⟨l,3⟩:k0))}:Mon)) (λk=>let n:=({d with ag:=(zfy d.ag l<|ix e.Out a []),aa:=k}:ad); (oN (zfs n b a q)<|some [aH<|zft n b a q])))))<|oN (inb b<|ln c.aa)<|oN (zgD c)<|oN (inb 0<|ln<|zdb c)<|oN (inb a<|ln f.Out)<|oN (zgF c.ag m<|ix f.Out a [])<|oN (inb a<|ln f.Out)<|p0 (up c.aa b ({f with Out:=(up f.Out a [])}:Mon)) (λg=>let j:=ix g b zi;let h:=ix j.ae a zba; (oN (inb a<|ln j.ae)<|oN (inb a<|ln j.ae)<|p0 (up g b ({j with ae:=(up j.ae a (⟨m,3⟩:k0))}:Mon)) (λk=>let p:=({c with ag:=(zfy c.ag m<|ix f.Out a []),aa:=k}:ad); (oN (zfs p b a h)<|some [aH<|zft p b a h])))))
def z4O (N:Nat)(c:ad)(a b:Int):zp0 (cQ zsw zqg pctC zZ1) (zq []) N 12 324 [true,true,true,true] (zbt c) [aI a,aI b]=zD1 N c a b:=by kernel_rfl
def z09 (c:ad)(b d:Int)(F:zbE big (.agg (zbt c)::[aI b,aI d]))(w:zm7 c b d=true):∃N,zD1 N c b d=some (.agg (zbt<|znZ c b d)::[]):=by
 obtain⟨j,B,l⟩:=zM.1 w;have e:∀r,Shape r->inb 0 (ln<|zcD r)=true->j0 b (ln r.aa)=true->(cond (inb b<|ln r.aa) (cond (zgD r) (cond (inb 0<|ln<|zdb r) (cond (inb d<|ln (ix r.aa b zi).Out) (cond (zgF r.ag (ix (zdb r) 0 0)<|ix (ix r.aa b zi).Out d []) (cond (inb d<|ln (ix r.aa b zi).Out) (p0 (up r.aa b ({ (ix r.aa b zi) with Out:=(up (ix r.aa b zi).Out d [])}:Mon)) λg=>cond (inb d<|ln (ix g b zi).ae) (cond (inb d<|ln (ix g b zi).ae) (p0 (up g b ({ (ix g b zi) with ae:=(up (ix g b zi).ae d (⟨ix (zdb r) 0 0,3⟩:k0))}:Mon)) λu=>cond (zfs ({r with ag:=(zfy r.ag (ix (zdb r) 0 0)<|ix (ix r.aa b zi).Out d []),aa:=u}:ad) b d<|ix (ix g b zi).ae d zba) (some [AV.agg<|zbt<|zft ({r with ag:=(zfy r.ag (ix (zdb r) 0 0)<|ix (ix r.aa b zi).Out d []),aa:=u}:ad) b d<|ix (ix g b zi).ae d zba]) none) none) none) none) none) none) none) none) none)=some [AV.agg<|zbt<|zf2 r b d<|ix (zcD r) 0 0]:=(by intro r i f a;obtain⟨E,q⟩:=zcO i a;have v:=z1U (to:=ix (zcD r) 0 0) i a l;have hE:=z3E (p:=d) (to:=ix (zcD r) 0 0) i a;obtain⟨k,rfl,A⟩:=zez (n:=r.aa.length) a;have z:∀(x y:Mon),j0 (k:Int) (ln<|up (up r.aa (k:Int) x) (k:Int) y)=true:=λx y=>(by simpa [ln] using a);have t:inb d (ln (ix (up r.aa (k:Int) {ix r.aa (k:Int) mZ with Out:=up (ix r.aa (k:Int) mZ).Out d []}) (k:Int) mZ).ae)=true:=(by rw[zev A];exact zF (zee q.1 l));refine i0 (zF a) (i0 (zbr i.1.1.1)<|i0 f<|i0 (zF<|zee q.2.1 l)<|i0 (zbr ⟨i.1.1,zZP i a l⟩)<|i0 (zF<|zee q.2.1 l)<|shr<|i0 t<|i0 t<|shr<|i0 (zbr ⟨v,z _ _⟩) ?_);exact congrArg (λx=>some [AV.agg<|zbt x]) hE);have h:=room j;have a:=zr5 j B;refine⟨0,?_⟩;unfold zD1 znZ fetched oN;conv=>zeta
 refine i0 (zbr j.1.1.1.1) ?_;cases s:ieq (ln<|zdb c) 0;{have m:zdD c=c:=(by unfold zdD;rw[show ieq (ln<|zcD c) 0=false from s];rfl);rw[m]at h a ⊢;exact e c h.shape h.free a};{obtain⟨C,D⟩:=zGB j s;have m:zdD c=zer c (zbT c 0).1 (zbT c 0).2:=(by unfold zdD;rw[show ieq (ln<|zcD c) 0=true from s];rfl);rw[m]at h a ⊢;exact i0 rfl (i0 (zbr ⟨j.1,C,D⟩)<|e _ h.shape h.free a)}
def zUD:zbX Tryz.prog 324 [true,true,true,true] zwc:=by refine ziM (zhP ziT zA z2P zGI) (zkp (by kernel_rfl)) ?_;intro g a b j i f h;have d:=zmz f;unfold zwc at h;split at h;{obtain⟨e,rfl,rfl⟩:=zoB h;obtain⟨N,c⟩:=z09 _ _ _ (by exact d) e;exact⟨rfl,_,N,12,(z4O N _ _ _ ).trans c⟩};{cases h}
def z4X:zcW:=[(324,[true,true,true,true],zwc)]++pctC
def zSi:zb7 z4X:=zcq z2P (by
 intro x a;simp only[qG,qM,or_false]at a;rcases a with rfl
 .exact zUD)
def zbO (h:ad)(m p:Int):ad:={h with aa:=up h.aa m {ix h.aa m mZ with aw:=up (ix h.aa m mZ).aw p true}}
def opened (h:ad)(m p:Int):ad:=bif ieq (wand .i64 (ix (ix h.aa m mZ).ae p sZ).aj 2) 0 then zcH h m p ⟨(ix (ix h.aa m mZ).ae p sZ).af,3⟩ else h
def zlm (h:ad)(m p n:Int):ad:=bif ieq (wand .i64 n 2) 0 then h else opened (zbO h m p) m p
def A0 (h:ad)(m p n:Int):ad:=bif ieq (ix (ix h.aa m mZ).ae p sZ).af (-1) then zlm (fetched h m p) m p n else zlm h m p n
def zbdA {r:Int}(a:0<=r)(b:r<=3):enough r 2 = !ieq (wand .i64 r 2) 0:=by have:r=0\/r=1\/r=2\/r=3:=(by omega);rcases this with rfl|rfl|rfl|rfl<;>rfl
structure SlotFit (s:k0):Prop where
 no:zdr s C0=ieq s.af (-1)
 lo:0<=s.aj
 hi:s.aj<=3
def z5I {s:k0}{n:Int}(h:zey s n=true):SlotFit s:=by refine⟨zUh h,?_,?_⟩<;>unfold zey at h<;>cases a:zdr s C0;{rw [a]at h;simp only[cF,zdH]at h;have:=(zf1.1 h.2.2).1;omega};{unfold zdr at a;rw[qE]at a;have:s.aj=0:=qD a.2;omega};{rw [a]at h;simp only[cF,zdH]at h;have:=(zf1.1 h.2.2).2;omega};{unfold zdr at a;rw[qE]at a;have:s.aj=0:=qD a.2;omega}
def zo1 {h:ad}{m p:Int}(c:Shape h)(d:j0 m (ln h.aa)=true):Shape (zbO h m p):=by obtain⟨a,b⟩:=zcO c d;exact zkj c ⟨a.1,a.2.1,by simpa using a.2.2.1,a.2.2.2⟩ ⟨b.1,b.2.1,by simpa using b.2.2.1,b.2.2.2⟩
def zZG {h:ad}{m p:Int}(b:Shape h)(a:j0 m (ln h.aa)=true):Shape (opened h m p)/\j0 m (ln (opened h m p).aa)=true:=by unfold opened;cases ieq (wand .i64 (ix (ix h.aa m mZ).ae p sZ).aj 2) 0;{exact⟨b,a⟩};{exact⟨zus a b,zII a⟩}
def zJg {h:ad}{m p n:Int}(b:Shape h)(a:j0 m (ln h.aa)=true):Shape (zlm h m p n)/\j0 m (ln (zlm h m p n).aa)=true:=by unfold zlm;cases ieq (wand .i64 n 2) 0;{exact zZG (zo1 b a) (zfA a)};{exact⟨b,a⟩}
def zwF {h:ad}{m p n:Int}(a:Fit h)(b:j0 m (ln h.aa)=true)(e:j0 p 8=true):Shape (A0 h m p n)/\j0 m (ln (A0 h m p n).aa)=true:=by unfold A0;cases ieq (ix (ix h.aa m mZ).ae p sZ).af (-1);{exact zJg a.1 b};{obtain⟨c,d⟩:=zlS a b e;exact zJg c d}
def zXt {h:ad}{m p:Int}(c:Fit h)(g:j0 m (ln h.aa)=true)(j:j0 p 8=true):(ix (ix (fetched h m p).aa m mZ).ae p sZ).aj=3:=by have f:=room c;have a:=zr5 c g;obtain⟨r,e⟩:=zcO f.shape a;obtain⟨k,rfl,d⟩:=zez (n:=(zdD h).aa.length) a;obtain⟨q,rfl,l⟩:=zez (n:=8) j;unfold fetched zf2;rw[(zhE _ _ _ _).1];have b:k<(landing (zdD h) (k:Int) (q:Int)<|ix (zcD<|zdD h) 0 0).aa.length:=(by simpa [landing] using d);rw[zev b];have i:q<(ix (landing (zdD h) (k:Int) (q:Int)<|ix (zcD<|zdD h) 0 0).aa (k:Int) mZ).ae.length:=(by unfold landing;rw[zev d];show q<(ix (zdD h).aa (k:Int) mZ).ae.length;rw[e.1];exact l);show (ix (up (ix (landing (zdD h) (k:Int) (q:Int)<|ix (zcD<|zdD h) 0 0).aa (k:Int) mZ).ae (q:Int) ⟨_,3⟩) (q:Int) sZ).aj=3;rw[zev i]
def zWG (h:ad)(m p n:Int):Prop:=Fit h/\j0 m (ln h.aa)=true/\j0 p 8=true/\(n=1\/n=2\/n=3)/\SlotFit (ix (ix h.aa m mZ).ae p sZ)
@[simp] abbrev zki (h:ad)(m p n:Int):Bool:=pc (zWG h m p n)
@[simp] abbrev zhN (h:ad)(m p n:Int):ad:=A0 h m p n
def zui:LW
 |[.agg [.s (.sl .int) b,.s .mon c,.s .entry d,.s .entry e],.one<|.i .i64 f,.one<|.i .i64 g,.one<|.i .i64 h]=>some (zki (⟨b,c,d,e⟩:ad) f g h,[aH<|zhN (⟨b,c,d,e⟩:ad) f g h])
 |_=>none
def zyi (N:Nat)(c:ad)(a b l:Int):OA:=
 let h:=znZ c a b;let k:=ix h.aa a zi;let e:=ix c.aa a zi;let p:=ix e.ae b zba; (oN (inb a<|ln c.aa)<|oN (inb b<|ln e.ae)<|oN zbR<|cond (cond (ieq p.af zbm.af) (ieq p.aj zbm.aj) false) (oN (zm7 c a b)<|cond (ieq (wand .i64 l 2) 0) (some [aH h])<|oN (inb a<|ln h.aa)<|oN (inb b<|ln k.aw)<|p0 (up h.aa a ({k with aw:=(up k.aw b true)}:Mon)) (λd=>let q:=(ix d a zi).ae;let i:=({h with aa:=d}:ad);let m:=ix q b zba;let r:=({m with aj:=3}:k0); (oN (inb a<|ln d)<|oN (inb b<|ln q)<|cond (ieq (wand .i64 m.aj 2) 0) (oN (zgo i a b r)<|some [aH<|ziE i a b r])<|some [aH i])))<|cond (ieq (wand .i64 l 2) 0) (some [aH c])<|oN (inb a<|ln c.aa)<|oN (inb b<|ln e.aw)<|p0 (up c.aa a ({e with aw:=(up e.aw b true)}:Mon)) (λd=>let f:=(ix d a zi).ae;let j:=({c with aa:=d}:ad);let n:=ix f b zba;let g:=({n with aj:=3}:k0); (oN (inb a<|ln d)<|oN (inb b<|ln f)<|cond (ieq (wand .i64 n.aj 2) 0) (oN (zgo j a b g)<|some [aH<|ziE j a b g])<|some [aH j])))
def zYQ (N:Nat)(a:ad)(b c d:Int):zGq (cQ zsw zqg z4X zZ1) (zq []) N 12 183 [true,true,true,true,false,false,false] 1 1 [[0],[1],[2],[4],[7]] .mon [aH a,aI b,aI c,aI d]=zyi N a b c d:=by kernel_rfl
def zVE (d:ad)(b a h:Int)(C:zbE big [aH d,aI b,aI a,aI h])(z:zki d b a h=true):∃N,zyi N d b a h=some [aH<|zhN d b a h]:=by
 obtain⟨l,j,i,D,A⟩:=zM.1 z;obtain⟨B,v⟩:=zcO l.1 j;have f:∀r,Shape r->j0 b (ln r.aa)=true->(cond (ieq (wand .i64 h 2) 0) (some [AV.agg<|zbt r])<|cond (inb b<|ln r.aa) (cond (inb a<|ln (ix r.aa b zi).aw) (p0 (up r.aa b ({ (ix r.aa b zi) with aw:=(up (ix r.aa b zi).aw a true)}:Mon)) λg=>cond (inb b<|ln g) (cond (inb a<|ln (ix g b zi).ae) (cond (ieq (wand .i64 (ix (ix g b zi).ae a zba).aj 2) 0) (cond (zgo ({r with aa:=g}:ad) b a ({ (ix (ix g b zi).ae a zba) with aj:=3}:k0)) (some [AV.agg<|zbt<|ziE ({r with aa:=g}:ad) b a ({ (ix (ix g b zi).ae a zba) with aj:=3}:k0)]) none)<|some [AV.agg<|zbt ({r with aa:=g}:ad)]) none) none) none) none)=some [AV.agg<|zbt<|zlm r b a h]:=(by intro r u c;obtain⟨E,m⟩:=zcO u c;have y:=zo1 (p:=a) u c;unfold zlm;cases w:ieq (wand .i64 h 2) 0;{obtain⟨k,rfl,t⟩:=zez (n:=r.aa.length) c;have q:ix (zbO r (k:Int) a).aa (k:Int) mZ={ix r.aa (k:Int) mZ with aw:=up (ix r.aa (k:Int) mZ).aw a true}:=zev t _ _;refine zcB rfl (i0 (zF c)<|i0 (zF<|zee m.2.2.1 i)<|shr<|i0 (zF<|zfA c)<|i0 ?_ ?_);{rw [zev t];exact zF (zee m.1 i)};{unfold opened;show (cond (ieq (wand .i64 (ix (ix (zbO r (k:Int) a).aa (k:Int) mZ).ae a sZ).aj 2) 0) _ _)=_;cases s:ieq (wand .i64 (ix (ix (zbO r (k:Int) a).aa (k:Int) mZ).ae a sZ).aj 2) 0;{rfl};{refine i0 rfl (i0 (zbr ⟨(zT _).2 y.1,zfA c,?_,?_⟩) rfl);{show j0 a (ln (ix (zbO r (k:Int) a).aa (k:Int) mZ).ae)=true;rw[q];exact zee m.1 i};{show (ix (zbO r (k:Int) a).aa (k:Int) mZ).am.length<=(ix (zbO r (k:Int) a).aa (k:Int) mZ).ac.length;rw[q];exact uD m.2.2.2}}}};{rfl});refine⟨0,?_⟩;unfold zyi zhN A0 oN;conv=>zeta
 refine i0 (zF j) (i0 (zF<|zee v.1 i) (i0 rfl ?_));have e:(cond (ieq (ix (ix d.aa b mZ).ae a sZ).af zbm.af) (ieq (ix (ix d.aa b mZ).ae a sZ).aj zbm.aj) false)=ieq (ix (ix d.aa b mZ).ae a sZ).af (-1):=(by rw[<- A.no];unfold zdr zbm;cases ieq (ix (ix d.aa b mZ).ae a sZ).af C0.af<;>rfl);rw[e];cases w:ieq (ix (ix d.aa b mZ).ae a sZ).af (-1);{exact f d l.1 j};{obtain⟨s,x⟩:=zlS (p:=a) l j i;exact i0 rfl (i0 (zbr ⟨l,j,i⟩)<|f _ s x)}
def zNW:ze3 Tryz.prog 183 [true,true,true,true,false,false,false] (some (1,1,[[0],[1],[2],[4],[7]])) zui:=by refine znt (kt:=.mon) (zhP ziT zA zSi zGI) (zkp (by kernel_rfl)) (by kernel_rfl) ?_;intro a g f e h;have c:=zkv e;unfold zui at h;split at h;{obtain⟨d,rfl⟩:=zeP h;obtain⟨N,b⟩:=zVE _ _ _ _ (by exact c) d;exact⟨⟨_,rfl⟩,rfl,_,N,12,(zYQ N _ _ _ _ ).trans b⟩};{cases h}
def zyA:LC->LA->Option (Bool×LC×LA)
 |[.s (.sl .int) b,.s .mon c,.s .entry d,.s .entry e],[.one<|.i .i64 f,.one<|.i .i64 g,.one<|.i .i64 h]=>some (zki (⟨b,c,d,e⟩:ad) f g h,zbt<|zhN (⟨b,c,d,e⟩:ad) f g h,[])
 |_,_=>none
def zJs (N:Nat)(c:ad)(b a k:Int):OA:=
 let e:=znZ c b a;let m:=ix e.aa b zi;let h:=ix c.aa b zi; (oN (inb b<|ln c.aa)<|oN (inb a<|ln h.ae)<|cond (ieq (ix h.ae a zba).af<|-1) (oN (zm7 c b a)<|oN (zbH k 2)<|cond (nB<|zda k 2) (some [aH e])<|oN (inb b<|ln e.aa)<|oN (inb a<|ln m.aw)<|p0 (up e.aa b ({m with aw:=(up m.aw a true)}:Mon)) (λd=>let i:=ix d b zi;let f:=ix i.ae a zba; (oN (inb a<|ln i.ae)<|oN (zbH f.aj 2)<|cond (nB<|zda f.aj 2) (oN (inb a<|ln i.ae)<|p0 (up d b ({i with ae:=(up i.ae a ({f with aj:=3}:k0))}:Mon)) (λl=>let n:=({e with aa:=l}:ad); (oN (zfs n b a f)<|some [aH<|zft n b a f])))<|some [aH ({e with aa:=d}:ad)])))<|oN (zbH k 2)<|cond (nB<|zda k 2) (some [aH c])<|oN (inb b<|ln c.aa)<|oN (inb a<|ln h.aw)<|p0 (up c.aa b ({h with aw:=(up h.aw a true)}:Mon)) (λd=>let j:=ix d b zi;let g:=ix j.ae a zba; (oN (inb a<|ln j.ae)<|oN (zbH g.aj 2)<|cond (nB<|zda g.aj 2) (oN (inb a<|ln j.ae)<|p0 (up d b ({j with ae:=(up j.ae a ({g with aj:=3}:k0))}:Mon)) (λl=>let p:=({c with aa:=l}:ad); (oN (zfs p b a g)<|some [aH<|zft p b a g])))<|some [aH ({c with aa:=d}:ad)])))
def z7J (N:Nat)(c:ad)(a b d:Int):zp0 (cQ zsw zqg z4X zZ1) (zq []) N 12 181 [true,true,true,true] (zbt c) [aI a,aI b,aI d]=zJs N c a b d:=by kernel_rfl
def z4H (c:ad)(b a f:Int)(R:zbE big (.agg (zbt c)::[aI b,aI a,aI f]))(M:zki c b a f=true):∃N,zJs N c b a f=some (.agg (zbt<|zhN c b a f)::[]):=by
 obtain⟨l,i,j,P,C⟩:=zM.1 M;obtain⟨Q,I⟩:=zcO l.1 i;have H:enough f 2 = !ieq (wand .i64 f 2) 0:=(by rcases P with rfl|rfl|rfl<;>rfl);have g:∀r,Shape r->j0 b (ln r.aa)=true->enough (ix (ix r.aa b mZ).ae a sZ).aj 2=(!ieq (wand .i64 (ix (ix r.aa b mZ).ae a sZ).aj 2) 0)->(cond (zbH f 2) (cond (cond (zda f 2) false true) (some [AV.agg<|zbt r])<|cond (inb b<|ln r.aa) (cond (inb a<|ln (ix r.aa b zi).aw) (p0 (up r.aa b ({ (ix r.aa b zi) with aw:=(up (ix r.aa b zi).aw a true)}:Mon)) λe=>cond (inb a<|ln (ix e b zi).ae) (cond (zbH (ix (ix e b zi).ae a zba).aj 2) (cond (cond (zda (ix (ix e b zi).ae a zba).aj 2) false true) (cond (inb a<|ln (ix e b zi).ae) (p0 (up e b ({ (ix e b zi) with ae:=(up (ix e b zi).ae a ({ (ix (ix e b zi).ae a zba) with aj:=3}:k0))}:Mon)) λF=>cond (zfs ({r with aa:=F}:ad) b a<|ix (ix e b zi).ae a zba) (some [AV.agg<|zbt<|zft ({r with aa:=F}:ad) b a<|ix (ix e b zi).ae a zba]) none) none)<|some [AV.agg<|zbt ({r with aa:=e}:ad)]) none) none) none) none) none)=some [AV.agg<|zbt<|zlm r b a f]:=(by intro r B d q;obtain⟨S,u⟩:=zcO B d;have w:=zo1 (p:=a) B d;unfold zlm;simp only[zbH,zda,H,cT];cases J:ieq (wand .i64 f 2) 0;{obtain⟨k,rfl,A⟩:=zez (n:=r.aa.length) d;have m:ix (zbO r (k:Int) a).aa (k:Int) mZ={ix r.aa (k:Int) mZ with aw:=up (ix r.aa (k:Int) mZ).aw a true}:=zev A _ _;have t:k<(zbO r (k:Int) a).aa.length:=(by simpa [zbO] using A);have z:inb a (ln (ix (zbO r (k:Int) a).aa (k:Int) mZ).ae)=true:=(by rw[m];exact zF (zee u.1 j));refine zcB rfl (i0 (zF d)<|i0 (zF<|zee u.2.2.1 j)<|shr<|i0 z ?_);unfold opened;show (cond (cond (enough (ix (ix (zbO r (k:Int) a).aa (k:Int) mZ).ae a sZ).aj 2) false true) _ _)=_;have G:(cond (enough (ix (ix (zbO r (k:Int) a).aa (k:Int) mZ).ae a sZ).aj 2) false true)=ieq (wand .i64 (ix (ix (zbO r (k:Int) a).aa (k:Int) mZ).ae a sZ).aj 2) 0:=(by rw[m];show (cond (enough (ix (ix r.aa (k:Int) mZ).ae a sZ).aj 2) false true)=ieq (wand .i64 (ix (ix r.aa (k:Int) mZ).ae a sZ).aj 2) 0;rw[q];cases ieq (wand .i64 (ix (ix r.aa (k:Int) mZ).ae a sZ).aj 2) 0<;>rfl);rw[G];cases v:ieq (wand .i64 (ix (ix (zbO r (k:Int) a).aa (k:Int) mZ).ae a sZ).aj 2) 0;{rfl};{have L:Shape {zbO r (k:Int) a with aa:=up (zbO r (k:Int) a).aa (k:Int) {ix (zbO r (k:Int) a).aa (k:Int) mZ with ae:=up (ix (zbO r (k:Int) a).aa (k:Int) mZ).ae a ⟨(ix (ix (zbO r (k:Int) a).aa (k:Int) mZ).ae a sZ).af,3⟩}}:=(by obtain⟨D,E⟩:=zcO w (zfA d);exact zkj w ⟨by simpa using D.1,D.2⟩ ⟨by simpa using E.1,E.2⟩);have O:∀(x y:Mon),j0 (k:Int) (ln<|up (up r.aa (k:Int) x) (k:Int) y)=true:=λx y=>(by simpa [ln] using d);refine i0 rfl (i0 z<|shr<|i0 (zbr ⟨L,O _ _⟩) ?_);exact congrArg (λx=>some [AV.agg<|zbt x]) (zB1 (h:=zbO r (k:Int) a) (p:=a) (s:=⟨(ix (ix (zbO r (k:Int) a).aa (k:Int) mZ).ae a sZ).af,3⟩) t (by rw[m];exact u.2.2.2))}};{rfl});refine⟨0,?_⟩;unfold zJs zhN A0 oN nB;conv=>zeta
 refine i0 (zF i) (i0 (zF<|zee I.1 j) ?_);cases J:ieq (ix (ix c.aa b mZ).ae a sZ).af (-1);{exact g c l.1 i (zbdA C.lo C.hi)};{obtain⟨v,K⟩:=zlS (p:=a) l i j;exact i0 rfl (i0 (zbr ⟨l,i,j⟩)<|g _ v K (by rw[zXt l i j];rfl))}
def zXM:zbX Tryz.prog 181 [true,true,true,true] zyA:=by refine ziM (zhP ziT zA zSi zGI) (zkp (by kernel_rfl)) ?_;intro g a b j i f h;have d:=zmz f;unfold zyA at h;split at h;{obtain⟨e,rfl,rfl⟩:=zoB h;obtain⟨N,c⟩:=z4H _ _ _ _ (by exact d) e;exact⟨rfl,_,N,12,(z7J N _ _ _ _ ).trans c⟩};{cases h}
def z4Z:zcW:=[(181,[true,true,true,true],zyA)]++z4X
def zb9:zb7 z4Z:=zcq zSi (by
 intro x a;simp only[qG,qM,or_false]at a;rcases a with rfl
 .exact zXM)
def z5Q:zgd:=[(183,[true,true,true,true,false,false,false],some (1,1,[[0],[1],[2],[4],[7]]),zui)]++zZ1
def zAx:zeS z5Q:=zsk zGI (by
 intro x a;simp only[qG,qM,or_false]at a;rcases a with rfl
 .exact zNW)
def z4t {h:ad}(b:zcr h=true):h.ag.length=12:=by unfold zcr at b;simp only[zdH]at b;have a:=b.1;unfold zjG at a;simp only[zdH]at a;have:ln h.ag=12:=qD a.2;simp only[ln] at this;omega
def zir {h:ad}(a:zcr h=true):∀x∈h.aa,zfw x=true:=by unfold zcr at a;simp only[zdH]at a;exact zBl _ _ a.2.2.2.2
def zK9 {x:Mon}(a:zfw x=true):ShM x:=by have e:=ztO (zon a);unfold zfw at a;simp only[zdH]at a;have b:ln x.am=ln x.ac:=qD a.2.1;have c:ln x.Out=8:=qD a.2.2.2.1;have d:ln x.aw=8:=qD a.2.2.2.2.1;simp only[ln] at *;exact⟨by omega,by omega,by omega,by omega⟩
def zgw {h:ad}(b:SmH h)(a:zcr h=true):Fit h:=by refine⟨⟨b,λx c=>zK9 (zir a x c)⟩,by rw[z4t a];decide,?_⟩;unfold zcr at a;simp only[zdH]at a;have:=zXR _ _ rfl a.2.2.2.2;omega
def zuW {x:Mon}(b:zfw x=true){p:Int}(c:j0 p 8=true):SlotFit (ix x.ae p sZ):=by have a:=zon b;unfold zdv at a;simp only[zdH]at a;exact z5I (qN.1 a.1 _<|zbN (zee (zK9 b).1 c) _)
def z0R {h:ad}{m p:Int}(a:Fit h)(c:j0 m (ln h.aa)=true):Fit (zbO h m p):=by refine⟨zo1 a.1 c,a.2.1,?_⟩;obtain⟨k,rfl,b⟩:=zez (n:=h.aa.length) c;have:=z0y h.aa k (ix h.aa (k:Int) mZ) {ix h.aa (k:Int) mZ with aw:=up (ix h.aa (k:Int) mZ).aw p true} (by rw[zbh b];exact qB b);have d:=a.2.2;unfold zbO;simp only[up,kO];dsimp only at this;simp only[up] at this;omega
abbrev gZ:ah:=Ty.dflt .guest
@[simp] abbrev zfG (h:ad)(m:Int):Bool:=pc (zdx h)
@[simp] abbrev zcT (h:ad)(m:Int):Mon:=bif j0 m (ln h.aa) then ix h.aa m mZ else mZ
@[simp] abbrev zmF (h:ad)(m:Int):Bool:=j0 m (ln h.aa)
def zIW:Run:=rF2 dH dI λb c=>(zfG b c,[aT .mon<|zcT b c,aB<|zmF b c])
def zSV (N:Nat)(a:ad)(b:Int):OA:=
 let c:=ix a.aa b zi; (oN (zbH b<|ln a.aa)<|cond (nB<|zdG b<|ln a.aa) (some [aT .mon (⟨[],[],[],[],[],0,0,[],0⟩:Mon),aB false])<|oN (inb b<|ln a.aa)<|oN (zl0 c)<|some [aT .mon<|zmG c,aB true])
def z04 (a:ad)(b:Int)(d:zfG a b=true):∃N,zSV N a b=some [aT .mon<|zcT a b,aB<|zmF a b]:=by
 have e:=(zT a).1 (zM.1 d);refine⟨0,?_⟩;unfold zSV zcT zmF oN nB;conv=>zeta
 refine i0 rfl ?_;rw[show zdG b (ln a.aa)=j0 b (ln a.aa) from rfl];cases c:j0 b (ln a.aa);{rfl};{exact zcB rfl (i0 (zF c) (i0 (zbr<|e.2.1.2 _<|zbN c _) rfl))}
def zUy:vU 72 zIW:=kF2 ziT zA zb9 zAx (zq []) z04
def zbW (h:ad)(m g:Int):Bool:=bif zcr h then (cond (j0 m<|ln h.aa) (j0 g<|ln (ix h.aa m mZ).ac) false) else false
@[simp] abbrev zc4 (h:ad)(m g:Int):Bool:=pc (zdx h)
@[simp] abbrev zk0 (h:ad)(m g:Int):Bool:=zbW h m g
def zI5:Run:=rF3 dH dI dI λb c d=>(zc4 b c d,[aB<|zk0 b c d])
def zTg (N:Nat)(a:ad)(b c:Int):OA:=
 let d:=wsub .i64 (ln (ix a.aa b zi).ac) 1; (oN (zeC a)<|cond (zeB a) (oN (zO b 0<|wsub .i64 (ln a.aa) 1)<|cond (zk b 0<|wsub .i64 (ln a.aa) 1) (oN (inb b<|ln a.aa)<|oN (zO c 0 d)<|some [aB<|zk c 0 d]) oF) oF)
def z1p (a:ad)(b c:Int)(f:zc4 a b c=true):∃N,zTg N a b c=some [aB<|zk0 a b c]:=by
 have e:=(zT a).1 (zM.1 f);refine⟨0,?_⟩;unfold zTg zk0 zbW oN;conv=>zeta
 refine i0 rfl ?_;rw[show zeB a=zcr a from rfl];cases g:zcr a;{rfl};{rw [show zk b 0 (wsub .i64 (ln a.aa) 1)=j0 b (ln a.aa) from zso e.2.1.1 b];refine i0 rfl (i0 rfl ?_);cases d:j0 b (ln a.aa);{rfl};{have hg:(ix a.aa b mZ).ac.length<=1048576:=(e.2.1.2 _<|zbN d _).2.2.2.1.1;rw[show zk c 0 (wsub .i64 (ln (ix a.aa b zi).ac) 1)=j0 c (ln (ix a.aa b mZ).ac) from zso hg c];exact i0 rfl (i0 (zF d) (i0 rfl rfl))}}
def zUU:vU 258 zI5:=kF3 ziT zA zb9 zAx (zq []) z1p
def zcR (h:ad)(m:Int):Nat->Nat->List LI
 | 0,_=>[]
 |n+1,i=>zcM h m (i:Int)::zcR h m n (i+1)
def zBI (h:ad)(m:Int):∀(n i:Nat),(zcR h m n i).length=n
 | 0,_=>rfl
 |n+1,i=>by simp[zcR,zBI h m n]
def zD (h:ad)(m:Int):ai:=bif j0 m (ln h.aa) then ⟨zcR h m 8 0,(ix h.aa m mZ).ac,(ix h.aa m mZ).Outs,(ix h.aa m mZ).an⟩ else ⟨[],[],[],0⟩
def zEX {c:Type}(h:ad)(m:Int)(K:List LI->Option c):∀(n i:Nat) (a:List LI),a.length+n<=2147483648->
 goN (λi a b=>bif few (ln<|ap a [zcM h m (i:Int)]) then b (ap a [zcM h m (i:Int)]) else none) K n i a=K (a++zcR h m n i)
 | 0,_,a,_=>by simp[goN,zcR]
 |n+1,i,a,d=>by simp only[goN,zcR];rw[zgv (by simp[ap];omega),cT,zEX h m K n (i+1) _ (by simp[ap];omega)];simp[ap]
@[simp] abbrev zh1 (h:ad)(m:Int):ai:=zD h m
def zbbW:zZ:=[(72,zIW),(258,zI5)]++zsw
def zXd:zS zbbW:=zh zUy (zh zUU ziT)
def zqn:Run:=rF2 dH dI λb c=>(zfG b c,[aT .bare<|zh1 b c])
def zLU (N:Nat)(b:ad)(c:Int):OA:=
 (oN (zfG b c)<|cond (nB<|zmF b c) (some [aT .bare (⟨[],[],[],0⟩:ai)])<|r0 (σ:=(Int×Int×Int×Int×lM×lN×lE×lE×lM×lG×LI×lM×lG×LI×Unit)) N (λh a=>let b:=a.2.2.2.2.2;let c:=b.2.2.2.2;let g:=c.2.2.2.1;let f:=c.2.2.2.2.1;let d:=(⟨a.2.2.2.2.1,b.1,b.2.1,b.2.2.1⟩:ad);let e:=ap c.2.2.1 [zpj d a.1 a.2.1]; (cond (ilt a.2.1 8) (oN (zq3 d a.1 a.2.1)<|oN (few<|ln e)<|h (a.1,zI .i64 a.2.1 1,a.2.2.1,a.2.2.2.1,a.2.2.2.2.1,b.1,b.2.1,b.2.2.1,b.2.2.2.1,c.1,c.2.1,e,g,f,()))<|some [aT .bare (⟨c.2.2.1,g,f,a.2.2.2.1⟩:ai)])) (c,0,0,(zcT b c).an,b.ag,b.aa,b.ao,b.ak,[],[],[],[],(zcT b c).ac,(zcT b c).Outs,()))
def zZ8:=zq [(54,0,{n:=39,tm:=[(1,ti),(2,.lp 0 0),(4,.lp 1 0),(7,.lp 2 0),(8,ti)],lo:=[(0,[.sl 0 [],.sl 1 [],.sl 2 [],.sl 3 []]),(1,[.sl 4 [],.sl 5 [],.sl 6 [],ti]),(2,[.sl 7 [],.sl 8 [],.sl 9 [],ti])],ro:=[(0,.sl .int,false),(1,.mon,false),(2,.entry,false),(3,.entry,false),(4,.sl .int,true),(5,.guest,true),(6,.int,true),(7,.sl .int,true),(8,.guest,true),(9,.int,true)]})]
def zYc (a:ad)(b:Int)(f:zfG a b=true):∃N,zLU N a b=some [aT .bare<|zh1 a b]:=by
 have e:=zM.1 f;refine zb2 λN d=>?_;unfold zLU zh1 zD oN nB;conv=>zeta
 refine i0 (zbr e) ?_;rw[show zmF a b=j0 b (ln a.aa) from rfl];cases g:j0 b (ln a.aa);{rfl};{refine zcB rfl ?_;refine(zv1 8 (λi (t:lM)=>(b,(i:Int),0,(zcT a b).an,a.ag,a.aa,a.ao,a.ak,[],[],[],t,(zcT a b).ac,(zcT a b).Outs,())) _ (λi (c:List LI) j=>bif few (ln<|ap c [zcM a b (i:Int)]) then j (ap c [zcM a b (i:Int)]) else none) (λ(t:lM)=>some [.agg<|Ty.cells .bare (⟨t,(zcT a b).ac,(zcT a b).Outs,(zcT a b).an⟩:ai)]) (λi h t rec=>?_) (λt rec=>?_) _ ([])<|d (by decide)).trans ?_;{simp only [show ilt (i:Int) 8=true from qH (by omega),zY h (show 8<=big by decide),cT];exact i0 (zbr e) rfl};{simp only [show ilt ((8:Nat):Int) 8=false from qI (by omega),cF]};rw[zEX a b _ 8 0 [] (by decide)];simp only[zcT,g,cT,jW]}
def zQE:vU 54 zqn:=kF2 zXd zA zb9 zAx zZ8 zYc
def z1s:zcN zB9=true:=by decide
def z2h {p:Nat->Bool}:∀{n i q:Nat},zpQ p n i=true->i<=q->q<i+n->p q=true
 | 0,i,q,_,a,b=>by omega
 |n+1,i,q,h,a,b=>by simp only[zpQ,qE]at h;by_cases c:i=q;{subst c;exact h.1};{exact z2h h.2 (by omega) (by omega)}
def z7V {h:ad}{m:Int}(e:zcr h=true)(l:j0 m (ln h.aa)=true){p:Int}(j:j0 p 8=true):zcN (zcM h m p)=true:=by have i:=zir e _ (zbN l mZ);have s:=zK9 i;have f:h.ag.all zcN=true:=(by unfold zcr at e;simp only[zdH]at e;have b:=e.1;unfold zjG at b;simp only[zdH]at b;exact b.1);unfold zcM;rw[l,j];simp only[cT];have t:zbK (ix h.aa m mZ).ae p=ix (ix h.aa m mZ).ae p sZ:=(by unfold zbK;rw[zee s.1 j];rfl);rw[t];have d:∀(g:List LI) (q:Int),(j0 q (ln g)=true->zcN (ix g q [])=true)->zcN (zcQ g q)=true:=(by intro g q k;unfold zcQ;cases b:j0 q (ln g);{exact z1s};{exact k b});cases c:ine (ix (ix h.aa m mZ).ae p sZ).af (-1);{refine d _ _ (λk=>?_);obtain⟨q,rfl,u⟩:=zez (n:=8) j;have a:fits (ix h.aa m mZ) q=true:=(by unfold zfw at i;simp only[zdH]at i;exact z2h i.2.2.2.2.2.2.2.2.2.2 (by omega) (by omega));unfold fits zny at a;have r:zdr (ix (ix h.aa m mZ).ae (q:Int) sZ) C0=true:=(by rw[(zuW (zir e _<|zbN l mZ) j).no];rw[zl1]at c;cases b:ieq (ix (ix h.aa m mZ).ae (q:Int) sZ).af (-1);{rw [b]at c;cases c};{rfl});rw[r]at a;exact a};{exact d _ _ (λk=>qN.1 f _ (zbN k _))}
def zT0 {h:ad}{m:Int}(a:zcr h=true)(b:j0 m (ln h.aa)=true):∀(n i:Nat),i+n<=8->(zcR h m n i).all zcN=true
 | 0,_,_=>rfl
 |n+1,i,c=>by simp only[zcR,k9,qE];exact⟨z7V a b<|qH (by omega),zT0 a b n (i+1) (by omega)⟩
def zyn {h:ad}{m:Int}(c:zcr h=true)(b:j0 m (ln h.aa)=true):zb0 (zD h m)=true:=by have a:=zir c _ (zbN b mZ);unfold zfw at a;simp only[zdH]at a;unfold zD zb0 zjG;rw[b];simp only[cT,a.2.2.2.2.2.2.2.2.2.1,zT0 c b 8 0 (by decide),ln,zBI];simp only[ln]at a;rw[a.1,a.2.2.2.2.2.1,a.2.2.2.2.2.2.1];rfl
def zoE:zZ:=[(54,zqn)]++zbbW
def ziU:zS zoE:=zh zQE zXd
def ze6 (l:List Mon):List (List ah):=l.map λx=>x.ac
def zBk {l:List Mon}{m:Int}{x:Mon}(b:j0 m (ln l)=true)(c:x.ac=(ix l m mZ).ac):ze6 (up l m x)=ze6 l:=by obtain⟨k,rfl,a⟩:=zez (n:=l.length) b;unfold ze6 up;rw[List.map_set,kO,c,zbh a];have:=@vF _ (l.map λx=>x.ac) k (by simpa using a);simpa using this
def zM2 {l b:List Mon}(h:ze6 b=ze6 l)(m:Int):(ix b m mZ).ac=(ix l m mZ).ac:=by unfold ze6 at h;have a:(b.map λx=>x.ac)[m.toNat]?=(l.map λx=>x.ac)[m.toNat]?:=(by rw[h]);rw[qP,qP]at a;unfold ix;simp only[kI];cases c:b[m.toNat]? <;> cases d:l[m.toNat]? <;> rw [c,d]at a<;>simp at a ⊢;exact a
def zBj {h:ad}{m p:Int}{s:k0}(a:j0 m (ln h.aa)=true):ze6 (zcH h m p s).aa=ze6 h.aa:=by rw[(zhE h m p s).1];exact zBk a rfl
def zbdH {h:ad}{m p:Int}(a:j0 m (ln h.aa)=true):ze6 (zer h m p).aa=ze6 h.aa:=(zBj (h:=zfU h m p)<|zfA a).trans (zBk a rfl)
def zbdG {h:ad}(b:Fit h):ze6 (zdD h).aa=ze6 h.aa:=by unfold zdD;cases a:ieq (ln<|zcD h) 0;{rfl};{exact zbdH (zGB b a).1}
def z4q {h:ad}{m p:Int}(a:Fit h)(c:j0 m (ln h.aa)=true):ze6 (fetched h m p).aa=ze6 h.aa:=by have b:=zr5 a c;exact((zBj (h:=landing (zdD h) m p (ix (zcD<|zdD h) 0 0))<|zfA b).trans (zBk b rfl)).trans (zbdG a)
def zXG {h:ad}{m p n:Int}(b:j0 m (ln h.aa)=true):ze6 (zlm h m p n).aa=ze6 h.aa:=by have a:ze6 (zbO h m p).aa=ze6 h.aa:=zBk b rfl;unfold zlm;cases ieq (wand .i64 n 2) 0;{unfold opened;cases ieq (wand .i64 (ix (ix (zbO h m p).aa m mZ).ae p sZ).aj 2) 0;{exact a};{exact(zBj (h:=zbO h m p)<|zfA b).trans a}};{rfl}
def z7k {h:ad}{m p n:Int}(b:Fit h)(a:j0 m (ln h.aa)=true)(c:j0 p 8=true):ze6 (A0 h m p n).aa=ze6 h.aa:=by unfold A0;cases ieq (ix (ix h.aa m mZ).ae p sZ).af (-1);{exact zXG a};{exact(zXG (zlS b a c).2).trans (z4q b a)}
def zbeR {l a:List Mon}(h:ze6 a=ze6 l):a.length=l.length:=by have:=congrArg List.length h;simpa [ze6] using this
abbrev kZ:az:=Ty.dflt .kept
def zbfV {x:ah}(f:zec x=true){p n:Int}(d:zfk x.av p n=true):j0 (zct x.av p n) 8=true:=by have g:zdv x.av 4 8=true:=(by unfold zec at f;simp only[qE]at f;exact f.2.2.2.2.1);unfold zct;rw[d];simp only[cT];unfold zfk at d;cases a:ieq (zbK x.av p).af (-1);{unfold zbK at a ⊢;cases e:j0 p (ln x.av);{rw [e]at a;cases a};{rw [e]at a;simp only[cT]at a ⊢;unfold zdv at g;simp only[zdH]at g;have c:=qN.1 g.1 _ (zbN e sZ);unfold zey at c;cases b:zdr (ix x.av p sZ) C0;{rw [b]at c;simp only[cF,zdH]at c;have:=zf1.1 c.2.1;rw[show wsub .i64 8 1=7 from rfl] at this;show j0 (ix x.av p sZ).af 8=true;exact qH (by omega)};{unfold zdr at b;rw[qE]at b;have:(ix x.av p sZ).af = -1:=qD b.1;rw[show ieq (ix x.av p zba).af (-1)=true from qH this]at a;cases a}}};{rw [a]at d;cases d}
def zcG (h:ad)(m g:Int):List k0:=(ix (ix h.aa m mZ).ac g gZ).av
def zce (h:ad)(m g:Int):az:=ix (ix h.aa m mZ).am g kZ
def zuP (h:ad)(a:Bool):List ar:=bif a then h.ak else h.ao
def zts (b:List ar)(m g a:Int):Option ar:=zA9 b (zeD m g) a
def zjl (b:List ar)(m g a c:Int):Bool:=bif (zts b m g a).isSome then enough ((zts b m g a).getD ⟨0,0,0,0⟩).aj c else false
def zfi (h:ad)(m g a b:Int):Bool:=bif zlH (zce h m g) a then (cond (ieq (zew (zce h m g) a).af<|-1) true<|!enough (zew (zce h m g) a).aj b) else true
def zcI (h:ad)(m g a:Int):ad:={h with aa:=up h.aa m {ix h.aa m mZ with am:=up (ix h.aa m mZ).am g (filled (zce h m g) (zcG h m g) (ix h.aa m mZ).ae a)}}
def zWi (h:ad)(m g a:Int):ar:=⟨zeD m g,a,(zew (zce h m g) a).af,(zew (zce h m g) a).aj⟩
def zxz (h:ad)(m g a:Int)(b:Bool):ad:=bif b then {h with ak:=zql h.ak (zWi h m g a)} else {h with ao:=zql h.ao (zWi h m g a)}
def zfv (h:ad)(m g a:Int)(b:Bool):ad×Int×Bool:=(zxz h m g a b,(zew (zce h m g) a).af,true)
def zhm (h:ad)(b:List ar)(m g a c q:Int)(d:Bool):ad×Int×Bool :=
 bif zjl b m g a c then (h,((zts b m g a).getD ⟨0,0,0,0⟩).ad,true)
 else (cond (zfi h m g a c) (zfv (zcI (A0 h m q c) m g a) m g a d)<|zfv h m g a d)
def zg4 (a:Int):Bool:=bif ieq a 1 then true else ieq a 2
def zb8 (h:ad)(m g page need:Int):Bool:=bif zbW h m g then (cond (zg4 need) (zfk (zcG h m g) page need) false) else false
def lookOf (h:ad)(b:List ar)(m g page need:Int)(io:Bool):ad×Int×Bool :=
 bif zb8 h m g page need then zhm (cond (ieq need 2) (zbO h m<|zct (zcG h m g) page need) h) b m g page need (zct (zcG h m g) page need) io else (h,-1,false)
structure Kp (h r:ad):Prop where
 shape:Shape r
 gs:ze6 r.aa=ze6 h.aa
def Kp.has {h r:ad}(k:Kp h r){m:Int}(a:j0 m (ln h.aa)=true):j0 m (ln r.aa)=true:=by rw[ln,zbeR k.gs];exact a
def z5F {h:ad}{m g c:Int}(d:Shape h)(e:j0 m (ln h.aa)=true)(hg:j0 g (ln (ix h.aa m mZ).ac)=true):Shape (zcI h m g c):=by obtain⟨a,b⟩:=zcO d e;have f:j0 g (ln (ix h.aa m mZ).am)=true:=(by rw[ln,b.2.2.2];exact hg);exact zkj d ⟨a.1,a.2.1,a.2.2.1,a.2.2.2.1,a.2.2.2.2.1,zAs a.2.2.2.2.2<|z5K<|a.2.2.2.2.2.2 _<|zbN f _⟩ ⟨b.1,b.2.1,b.2.2.1,by simpa using b.2.2.2⟩
def z7r {h r:ad}{m g a:Int}{i:Bool}(k:Kp h r):Kp h (zxz r m g a i):=by obtain⟨⟨b,c,d,e⟩,f⟩:=k.shape;unfold zxz;cases i;{exact⟨⟨⟨b,c,(zwh _ d).1,e⟩,f⟩,k.gs⟩};{exact⟨⟨⟨b,c,d,(zwh _ e).1⟩,f⟩,k.gs⟩}
structure LookAt (h:ad) (m g q need:Int):Prop where
 fit:Fit h
 hm:j0 m (ln h.aa)=true
 hg:j0 g (ln (ix h.aa m mZ).ac)=true
 hq:j0 q 8=true
 hn:need=1\/need=2
 hs:SlotFit (ix (ix h.aa m mZ).ae q sZ)
def LookAt.mend {h:ad}{m g q a:Int}(A:LookAt h m g q a):zWG h m q a:=⟨A.fit,A.hm,A.hq,A.hn.elim .inl λh=>.inr (.inl h),A.hs⟩
def LookAt.kp {h:ad}{m g q a:Int}(A:LookAt h m g q a):Kp h (A0 h m q a):=⟨(zwF A.fit A.hm A.hq).1,z7k A.fit A.hm A.hq⟩
def LookAt.fill {h:ad}{m g q a:Int}(A:LookAt h m g q a)(b:Int):Kp h (zcI (A0 h m q a) m g b):=by have k:=A.kp;have hg:j0 g (ln (ix (A0 h m q a).aa m mZ).ac)=true:=(by rw[zM2 k.gs];exact A.hg);have e:ze6 (zcI (A0 h m q a) m g b).aa=ze6 (A0 h m q a).aa:=zBk (k.has A.hm) rfl;exact⟨z5F k.shape (k.has A.hm) hg,e.trans k.gs⟩
def zXX {h:ad}{b:List ar}{m g page a q:Int}{io:Bool}(A:LookAt h m g q a):Kp h (zhm h b m g page a q io).1:=by unfold zhm;cases zjl b m g page a;{cases zfi h m g page a;{exact z7r ⟨A.fit.1,rfl⟩};{exact z7r (A.fill page)}};{exact⟨A.fit.1,rfl⟩}
def zdq {h:ad}{m g:Int}(a:zbW h m g=true):zcr h=true/\j0 m (ln h.aa)=true/\j0 g (ln (ix h.aa m mZ).ac)=true:=by unfold zbW at a;simp only[zdH]at a;exact a
def z4r {h:ad}{m g:Int}(e:zbW h m g=true):zec (ix (ix h.aa m mZ).ac g gZ)=true:=by obtain⟨b,c,d⟩:=zdq e;have a:=zir b _ (zbN c mZ);unfold zfw at a;simp only[zdH]at a;exact qN.1 a.2.2.2.2.2.2.2.2.2.1 _ (zbN d _)
def zOH {n:Int}(h:zg4 n=true):n=1\/n=2:=by unfold zg4 at h;cases a:ieq n 1;{rw [a]at h;exact .inr (qD h)};{exact .inl (qD a)}
def zFy {h:ad}{m g page a:Int}(s:SmH h)(d:zb8 h m g page a=true) :
 LookAt h m g (zct (zcG h m g) page a) a/\LookAt (zbO h m<|zct (zcG h m g) page a) m g (zct (zcG h m g) page a) a:=by
 unfold zb8 at d;simp only[zdH]at d;obtain⟨l,p,r⟩:=d;obtain⟨i,b,j⟩:=zdq l;have f:j0 (zct (zcG h m g) page a) 8=true:=zbfV (z4r l) r;have c:=zuW (zir i _<|zbN b mZ) f;have q:=zgw s i;refine⟨⟨q,b,j,f,zOH p,c⟩,⟨z0R q b,zfA b,?_,f,zOH p,?_⟩⟩
 .have e:ze6 (zbO h m<|zct (zcG h m g) page a).aa=ze6 h.aa:=zBk b rfl;rw[zM2 e];exact j
 .obtain⟨k,rfl,hk⟩:=zez (n:=h.aa.length) b;unfold zbO;rw[zev hk];exact c
def zvo {h:ad}{b:List ar}{m g page need:Int}{io:Bool}(a:SmH h)(f:zbW h m g=true):Kp h (lookOf h b m g page need io).1:=by have d:=zgw a (zdq f).1;unfold lookOf;cases c:zb8 h m g page need;{exact⟨d.1,rfl⟩};{obtain⟨A,B⟩:=zFy a c;simp only[cT];cases ieq need 2;{exact zXX A};{have k:=zXX (b:=b) (page:=page) (io:=io) B;have e:ze6 (zbO h m<|zct (zcG h m g) page need).aa=ze6 h.aa:=zBk A.hm rfl;exact⟨k.shape,k.gs.trans e⟩}}
def zlo (x:ad×Int×Bool):LA:=[.agg<|zbt x.1,.one<|.i .i64 x.2.1,.one<|.b x.2.2]
def ziN {h:ad}{b:List ar}{m g c a:Int}{e:Bool}(d:zb8 h m g c a=false):lookOf h b m g c a e=(h,-1,false):=by unfold lookOf;rw[d];rfl
def zpz {h:ad}{m g b a:Int}(c:zbW h m g=false):zb8 h m g b a=false:=by unfold zb8;rw[c];rfl
def zQh {h:ad}{m g:Int}(a:zcr h=false):zbW h m g=false:=by unfold zbW;rw[a];rfl
def zQi {h:ad}{m g:Int}(a:j0 m (ln h.aa)=false):zbW h m g=false:=by unfold zbW;rw[a];cases zcr h<;>rfl
def zQj {h:ad}{m g:Int}(a:j0 g (ln (ix h.aa m mZ).ac)=false):zbW h m g=false:=by unfold zbW;rw[a];cases zcr h<;>cases j0 m (ln h.aa)<;>rfl
def zQk {h:ad}{m g:Int}(a:zcr h=true)(b:j0 m (ln h.aa)=true)(c:j0 g (ln (ix h.aa m mZ).ac)=true):zbW h m g=true:=by unfold zbW;rw[a,b,c];rfl
structure LookF (r:ad) (m g:Int):Prop where
 hm:j0 m (ln r.aa)=true
 hg:j0 g (ln (ix r.aa m mZ).ac)=true
 ht:j0 g (ln (ix r.aa m mZ).am)=true
 hk:SmK (zce r m g)
 hb:r.ao.length<=1048576
 hi:r.ak.length<=1048576
def znw {h r:ad}{m g:Int}(k:Kp h r)(b:j0 m (ln h.aa)=true)(hg:j0 g (ln (ix h.aa m mZ).ac)=true):LookF r m g:=by obtain⟨d,e⟩:=zcO k.shape (k.has b);have a:j0 g (ln (ix r.aa m mZ).ac)=true:=(by rw[zM2 k.gs];exact hg);have c:j0 g (ln (ix r.aa m mZ).am)=true:=(by rw[ln,e.2.2.2];exact a);exact⟨k.has b,a,c,d.2.2.2.2.2.2 _<|zbN c _,k.shape.1.2.2.1,k.shape.1.2.2.2⟩
@[simp] abbrev zmc (h:ad)(b:List ar)(m g c a:Int)(d:Bool):Bool:=pc (zdx h)
@[simp] abbrev zgp (h:ad)(b:List ar)(m g page need:Int)(io:Bool):ad:=(lookOf h b m g page need io).1
@[simp] abbrev zmb (h:ad)(b:List ar)(m g c a:Int)(d:Bool):Int:=(lookOf h b m g c a d).2.1
@[simp] abbrev ziF (h:ad)(b:List ar)(m g c a:Int)(d:Bool):Bool:=(lookOf h b m g c a d).2.2
def zuk:LW
 |[.agg [.s (.sl .int) c,.s .mon d,.s .entry e,.s .entry f],.one<|.s .entry g,.one<|.i .i64 h,.one<|.i .i64 j,.one<|.i .i64 k,.one<|.i .i64 l,.one<|.b m]=>some (zmc (⟨c,d,e,f⟩:ad) g h j k l m,[aH<|zgp (⟨c,d,e,f⟩:ad) g h j k l m,aI<|zmb (⟨c,d,e,f⟩:ad) g h j k l m,aB<|ziF (⟨c,d,e,f⟩:ad) g h j k l m])
 |_=>none
abbrev zUp (b:lM)(c:lN)(d:lE)(e:lE)(a:Int)(g:Int)(f:Int):Mon :=
 (ix (zhN (⟨b,c,d,e⟩:ad) a g f).aa a zi)
abbrev zUq (a:ad)(b c:Int)(d e:Int):Int :=
 (zeF (ix (ix a.aa b zi).ac c zy).av d e)
def zPZ (N:Nat)(a:Int)(b:lM)(c:lN)(d:lE)(e:lE):OA:=
 (some [aH (⟨b,c,d,e⟩:ad),aI a,aB true])
def zrL (N:Nat)(l:Int)(m:Bool)(n:Int)(c:Int)(d:Int)(k:lM)(e:lN)(a:lE)(b:lE)(f:lM)(g:lN)(h:lE)(i:lE):OA:=
 let q:=(⟨n,l,c,d⟩:ar); (p0 (λ(j:(Int×Int×lM×lN×lE×lE×lM×lN×lE×lE×Unit))=>zPZ N j.1 j.2.2.1 j.2.2.2.1 j.2.2.2.2.1 j.2.2.2.2.2.1) λp=>cond m (oN (zhJ b q)<|p (c,d,k,e,a,zhs b q,f,g,h,i,()))<|oN (zhJ a q)<|p (c,d,k,e,zhs a q,b,f,g,h,i,()))
def ztZ (N:Nat)(d:lM)(e:lN)(f:lE)(g:lE)(b:Int)(i:Int)(h:Int)(a:Int)(c:Int)(y:(Int×Bool×Int×Int×Int×Int×Int×Int×Int×lM×lN×lE×lE×lM×lN×lE×lE×Unit)->OA)(r:Bool)(s:Int)(t:Int)(u:Int)(v:Int)(k:Int)(l:lM)(m:lN)(n:lE)(p:lE):OA:=
 let D:=(⟨d,e,f,g⟩:ad);let w:=zhN D b i h;let x:=inb b<|ln w.aa;let j:=zUp d e f g b i h;let C:=ix j.am a ze0;let A:=(ix j.ac a zy).av; (oN (zki D b i h)<|oN x<|oN x<|oN (inb a<|ln j.am)<|oN x<|oN (inb a<|ln j.ac)<|oN x<|oN (zwt C A j.ae c)<|oN (inb a<|ln j.am)<|p0 (up w.aa b ({j with am:=(up j.am a<|zwr C A j.ae c)}:Mon)) (λq=>let B:=(ix q b zi).am;let z:=ix B a ze0; (oN (inb b<|ln q)<|oN (inb a<|ln B)<|oN (zd5 z c)<|y (c,r,s,t,u,v,k,(zjs z c).af,(zjs z c).aj,w.ag,q,w.ao,w.ak,l,m,n,p,()))))
def znm (N:Nat)(d:Int)(e:Int)(c:Int)(n:Int)(p:Bool)(v:Int)(q:Int)(r:Int)(s:Int)(t:Int)(f:Int)(g:lM)(b:lN)(h:lE)(i:lE)(j:lM)(k:lN)(l:lE)(m:lE):OA:=
 let z:=(ix b d zi).am;let x:=ix z e ze0;let w:=zjs x c; (oN (inb d<|ln b)<|oN (inb e<|ln z)<|oN (zd5 x c)<|p0 (λ(a:(Int×Bool×Int×Int×Int×Int×Int×Int×Int×lM×lN×lE×lE×lM×lN×lE×lE×Unit))=>zrL N a.1 a.2.1 a.2.2.1 a.2.2.2.2.2.2.2.1 a.2.2.2.2.2.2.2.2.1 a.2.2.2.2.2.2.2.2.2.1 a.2.2.2.2.2.2.2.2.2.2.1 a.2.2.2.2.2.2.2.2.2.2.2.1 a.2.2.2.2.2.2.2.2.2.2.2.2.1 a.2.2.2.2.2.2.2.2.2.2.2.2.2.1 a.2.2.2.2.2.2.2.2.2.2.2.2.2.2.1 a.2.2.2.2.2.2.2.2.2.2.2.2.2.2.2.1 a.2.2.2.2.2.2.2.2.2.2.2.2.2.2.2.2.1) (λu=>let y:=ztZ N g b h i d v n e c u p q r s t f j k l m; (cond (nB<|zpC x c) y<|cond (ieq w.af<|-1) y<|oN (zbH w.aj n)<|cond (nB<|zda w.aj n) y<|u (c,p,q,r,s,t,f,w.af,w.aj,g,b,h,i,j,k,l,m,()))))
def zt0 (N:Nat)(g:Int)(a:ad)(h e f:Int)(l:lE)(n:Bool):OA:=
 let i:=zl7 g h;let k:=zUq a g h e f;let m:=ix a.aa g zi;let s:=(ix m.ac h zy).av;let d:=zgY l i e;let j:=d.aj; (oN (inb g<|ln a.aa)<|oN (inb h<|ln m.ac)<|oN (zfT s e f)<|cond (nB<|zdR s e f) (some [aH a,aI<|-1,aB false])<|oN (ziA g h)<|cond (ieq f 2) (oN (inb g<|ln a.aa)<|oN (inb k<|ln m.aw)<|p0 (up a.aa g ({m with aw:=(up m.aw k true)}:Mon)) λp=>oN (zh6 l i e)<|p0 (λ(c:(Int×Int×Int×Int×Bool×Int×Int×Int×Int×Int×Int×lM×lN×lE×lE×lM×lN×lE×lE×Unit))=>znm N c.1 c.2.1 c.2.2.1 c.2.2.2.1 c.2.2.2.2.1 c.2.2.2.2.2.1 c.2.2.2.2.2.2.1 c.2.2.2.2.2.2.2.1 c.2.2.2.2.2.2.2.2.1 c.2.2.2.2.2.2.2.2.2.1 c.2.2.2.2.2.2.2.2.2.2.1 c.2.2.2.2.2.2.2.2.2.2.2.1 c.2.2.2.2.2.2.2.2.2.2.2.2.1 c.2.2.2.2.2.2.2.2.2.2.2.2.2.1 c.2.2.2.2.2.2.2.2.2.2.2.2.2.2.1 c.2.2.2.2.2.2.2.2.2.2.2.2.2.2.2.1 c.2.2.2.2.2.2.2.2.2.2.2.2.2.2.2.2.1 c.2.2.2.2.2.2.2.2.2.2.2.2.2.2.2.2.2.1 c.2.2.2.2.2.2.2.2.2.2.2.2.2.2.2.2.2.2.1) λr=>cond (zfW l i e) (oN (zbH j f)<|cond (zda j f) (some [aH ({a with aa:=p}:ad),aI d.ad,aB true])<|r (g,h,e,f,n,k,i,d.Tag,d.af,d.ad,j,a.ag,p,a.ao,a.ak,[],[],[],[],()))<|r (g,h,e,f,n,k,i,d.Tag,d.af,d.ad,j,a.ag,p,a.ao,a.ak,[],[],[],[],()))<|oN (zh6 l i e)<|p0 (λ(b:(Int×Int×Int×Int×Bool×Int×Int×Int×Int×Int×Int×lM×lN×lE×lE×lM×lN×lE×lE×Unit))=>znm N b.1 b.2.1 b.2.2.1 b.2.2.2.1 b.2.2.2.2.1 b.2.2.2.2.2.1 b.2.2.2.2.2.2.1 b.2.2.2.2.2.2.2.1 b.2.2.2.2.2.2.2.2.1 b.2.2.2.2.2.2.2.2.2.1 b.2.2.2.2.2.2.2.2.2.2.1 b.2.2.2.2.2.2.2.2.2.2.2.1 b.2.2.2.2.2.2.2.2.2.2.2.2.1 b.2.2.2.2.2.2.2.2.2.2.2.2.2.1 b.2.2.2.2.2.2.2.2.2.2.2.2.2.2.1 b.2.2.2.2.2.2.2.2.2.2.2.2.2.2.2.1 b.2.2.2.2.2.2.2.2.2.2.2.2.2.2.2.2.1 b.2.2.2.2.2.2.2.2.2.2.2.2.2.2.2.2.2.1 b.2.2.2.2.2.2.2.2.2.2.2.2.2.2.2.2.2.2.1) λq=>cond (zfW l i e) (oN (zbH j f)<|cond (zda j f) (some [aH a,aI d.ad,aB true])<|q (g,h,e,f,n,k,i,d.Tag,d.af,d.ad,j,a.ag,a.aa,a.ao,a.ak,[],[],[],[],()))<|q (g,h,e,f,n,k,i,d.Tag,d.af,d.ad,j,a.ag,a.aa,a.ao,a.ak,[],[],[],[],()))
def zsq (N:Nat)(a:ad)(g:lE)(b c:Int)(h d:Int)(i:Bool):OA:=
 let f:=zt0 N b a c h d g i;let e:=wsub .i64 (ln (ix a.aa b zi).ac) 1; (oN (zeC a)<|cond (nB<|zeB a) (some [aH a,aI<|-1,aB false])<|oN (zO b 0<|wsub .i64 (ln a.aa) 1)<|cond (nB<|zk b 0<|wsub .i64 (ln a.aa) 1) (some [aH a,aI<|-1,aB false])<|oN (inb b<|ln a.aa)<|oN (zO c 0 e)<|cond (nB<|zk c 0 e) (some [aH a,aI<|-1,aB false])<|cond (ine d 1) (cond (ine d 2) (some [aH a,aI<|-1,aB false]) f) f)
def zuu:=zq [(337,999999,{n:=0,tm:=[],lo:=[],ro:=[]}),(337,1007023,{n:=210,tm:=[(2,ti),(3,ti),(4,ti),(5,ti),(6,.b),(7,.lp 0 0),(14,.lp 1 0),(17,ti),(19,ti),(20,.lp 2 0)],lo:=[(0,[.sl 0 [],.sl 1 [],.sl 2 [],.sl 3 []]),(1,[.sl 4 [],.sl 5 [],.sl 6 [],.sl 7 []]),(2,[ti,ti,ti,ti])],ro:=[(0,.sl .int,true),(1,.mon,true),(2,.entry,true),(3,.entry,true),(4,.sl .int,true),(5,.mon,true),(6,.entry,true),(7,.entry,true)],kr:=1}),(337,1009011,{n:=210,tm:=[(4,ti),(6,.b),(7,.lp 0 0),(14,.lp 1 0),(19,ti),(20,.lp 2 0),(22,.lp 3 0)],lo:=[(0,[.sl 0 [],.sl 1 [],.sl 2 [],.sl 3 []]),(1,[.sl 4 [],.sl 5 [],.sl 6 [],.sl 7 []]),(2,[ti,ti,ti,ti]),(3,[ti,ti])],ro:=[(0,.sl .int,true),(1,.mon,true),(2,.entry,true),(3,.entry,true),(4,.sl .int,true),(5,.mon,true),(6,.entry,true),(7,.entry,true)],kr:=1}),(337,1005003,{n:=210,tm:=[(7,.lp 0 0),(14,.lp 1 0),(22,.lp 2 0)],lo:=[(0,[.sl 0 [],.sl 1 [],.sl 2 [],.sl 3 []]),(1,[.sl 4 [],.sl 5 [],.sl 6 [],.sl 7 []]),(2,[ti,ti])],ro:=[(0,.sl .int,true),(1,.mon,true),(2,.entry,true),(3,.entry,true),(4,.sl .int,true),(5,.mon,true),(6,.entry,true),(7,.entry,true)],kr:=1})]
def zSd (N:Nat)(a:ad)(b c:Int)(d e:Int)(f:Bool):zWj (cQ zoE zqg z4Z z5Q) zuu N 12 337 [true,true,true,true,false,false,false,false,false,false] [(4,2)] 1 1 [[0],[1],[2],[4],[7]] .mon [aH a,aS .entry a.ao,aI b,aI c,aI d,aI e,aB f]=zsq N a a.ao b c d e f:=by kernel_rfl
def zSe (N:Nat)(a:ad)(b c:Int)(d e:Int)(f:Bool):zWj (cQ zoE zqg z4Z z5Q) zuu N 12 337 [true,true,true,true,false,false,false,false,false,false] [(4,3)] 1 1 [[0],[1],[2],[4],[7]] .mon [aH a,aS .entry a.ak,aI b,aI c,aI d,aI e,aB f]=zsq N a a.ak b c d e f:=by kernel_rfl
def zGr {N:Nat}{r:ad}{m g a:Int}{b:Bool}{z1 z2 z3 z4}(c:r.ao.length<=1048576)(d:r.ak.length<=1048576) :
 zrL N a b (zeD m g) (zew (zce r m g) a).af (zew (zce r m g) a).aj r.ag r.aa r.ao r.ak z1 z2 z3 z4=some (zlo<|zfv r m g a b):=by
 unfold zrL oN
 conv=>zeta
 refine shr ?_;cases b
 .exact zcB rfl (i0 (zbr c) rfl)
 .exact i0 rfl (i0 (zbr d) rfl)
def zXu {N:Nat}{r:ad}{m g a b q:Int}{c:Bool}{R:OA}{r11}{u6 u7 u8 u9 u10 z1 z2 z3 z4}(A:LookAt r m g q b)(d:r11 (a,c,u6,u7,u8,u9,u10,(zew (zce (zcI (A0 r m q b) m g a) m g) a).af,(zew (zce (zcI (A0 r m q b) m g a) m g) a).aj,(zcI (A0 r m q b) m g a).ag,(zcI (A0 r m q b) m g a).aa,(zcI (A0 r m q b) m g a).ao,(zcI (A0 r m q b) m g a).ak,z1,z2,z3,z4,())=R) :
 ztZ N r.ag r.aa r.ao r.ak m q b g a r11 c u6 u7 u8 u9 u10 z1 z2 z3 z4=R:=by
 have M:=znw A.kp A.hm A.hg;have F:=znw (A.fill a) A.hm A.hg;unfold ztZ oN
 conv=>zeta
 exact i0 (zbr A.mend) (i0 (zF M.hm)<|i0 (zF M.hm)<|i0 (zF M.ht)<|i0 (zF M.hm)<|i0 (zF M.hg)<|i0 (zF M.hm)<|i0 (zbr M.hk)<|i0 (zF M.ht)<|shr<|i0 (zF F.hm)<|i0 (zF F.ht)<|i0 (zbr F.hk) d)
def z3j {r:ad}{m g a b:Int}(h:zlH (zce r m g) a=false):zfi r m g a b=true:=by unfold zfi;rw[h];rfl
def z3k {r:ad}{m g a b:Int}(h:ieq (zew (zce r m g) a).af (-1)=true):zfi r m g a b=true:=by unfold zfi;rw[h];cases zlH (zce r m g) a<;>rfl
def z3l {r:ad}{m g a b:Int}(h:enough (zew (zce r m g) a).aj b=false):zfi r m g a b=true:=by unfold zfi;rw[h];cases zlH (zce r m g) a<;>cases ieq (zew (zce r m g) a).af (-1)<;>rfl
def z3m {r:ad}{m g a b:Int}(c:zlH (zce r m g) a=true)(d:ieq (zew (zce r m g) a).af (-1)=false)(e:enough (zew (zce r m g) a).aj b=true):zfi r m g a b=false:=by unfold zfi;rw[c,d,e];rfl
def zvp {r:ad}{m g a b q:Int}{c:Bool}(h:zfi r m g a b=true):(cond (zfi r m g a b) (zfv (zcI (A0 r m q b) m g a) m g a c)<|zfv r m g a c)=zfv (zcI (A0 r m q b) m g a) m g a c:=by rw[h];rfl
def z2H {r:ad}{m g a b q:Int}{c:Bool}(h:zfi r m g a b=false):(cond (zfi r m g a b) (zfv (zcI (A0 r m q b) m g a) m g a c)<|zfv r m g a c)=zfv r m g a c:=by rw[h];rfl
def zGs {N:Nat}{r:ad}{m g a b q:Int}{f:Bool}{u7 u8 u9 u10 z1 z2 z3 z4}(A:LookAt r m g q b) :
 znm N m g a b f q (zeD m g) u7 u8 u9 u10 r.ag r.aa r.ao r.ak z1 z2 z3 z4=some (zlo<|cond (zfi r m g a b) (zfv (zcI (A0 r m q b) m g a) m g a f)<|zfv r m g a f):=by
 have M:=znw ⟨A.fit.1,rfl⟩ A.hm A.hg;have F:=znw (A.fill a) A.hm A.hg;unfold znm oN nB
 conv=>zeta
 refine i0 (zF M.hm) (i0 (zF M.ht)<|i0 (zbr M.hk)<|shr<|brN (λc=>?_) λc=>br (λd=>?_) λd=>i0 rfl (brN (λe=>?_) λe=>?_))
 .rw [zvp<|z3j c];exact zXu A (zGr (r:=zcI (A0 r m q b) m g a) (m:=m) (g:=g) F.hb F.hi)
 .rw [zvp<|z3k d];exact zXu A (zGr (r:=zcI (A0 r m q b) m g a) (m:=m) (g:=g) F.hb F.hi)
 .rw [zvp<|z3l e];exact zXu A (zGr (r:=zcI (A0 r m q b) m g a) (m:=m) (g:=g) F.hb F.hi)
 .rw [z2H<|z3m c d e];exact zGr (r:=r) (m:=m) (g:=g) M.hb M.hi
def zGv {b:List ar}{m g a c:Int}(h:(zts b m g a).isSome=false):zjl b m g a c=false:=by unfold zjl;rw[h];rfl
def zpu {b:List ar}{m g a c:Int}{x:Bool}(d:(zts b m g a).isSome=true)(h:enough ((zts b m g a).getD ⟨0,0,0,0⟩).aj c=x):zjl b m g a c=x:=by unfold zjl;rw[d,h];rfl
def zpy {r:ad}{b:List ar}{m g a c q:Int}{d:Bool}(h:zjl b m g a c=false):zhm r b m g a c q d=bif zfi r m g a c then zfv (zcI (A0 r m q c) m g a) m g a d else zfv r m g a d:=by unfold zhm;rw[h];rfl
def zGy {r:ad}{b:List ar}{m g a c q:Int}{d:Bool}(h:zjl b m g a c=true):zhm r b m g a c q d=(r,((zts b m g a).getD ⟨0,0,0,0⟩).ad,true):=by unfold zhm;rw[h];rfl
def zK8 {h:ad}{b:List ar}{m g c a:Int}{d:Bool}(e:zb8 h m g c a=true):lookOf h b m g c a d=zhm (cond (ieq a 2) (zbO h m<|zct (zcG h m g) c a) h) b m g c a (zct (zcG h m g) c a) d:=by unfold lookOf;rw[e];rfl
def z6W {N:Nat}{r:ad}{b:List ar}{m g c a:Int}{f:Bool}(p:SmH r)(hg:zbW r m g=true)(k:zg4 a=true) :
 zt0 N m r g c a b f=some (zlo (lookOf r b m g c a f)):=by
 obtain⟨q,h,l⟩:=zdq hg;unfold zt0 oN nB
 conv=>zeta
 refine i0 (zF h) (i0 (zF l) (i0 rfl (brN (fun j=>?_) (fun j=>i0 rfl ?_))))
 .have:zb8 r m g c a=false:=by
   unfold zb8;rw[hg,k,show zfk (zcG r m g) c a=false from j];rfl
  rw[ziN this];rfl
 .have hl:zb8 r m g c a=true:=by
   unfold zb8;rw[hg,k,show zfk (zcG r m g) c a=true from j];rfl
  obtain⟨A,B⟩:=zFy p hl;rw[zK8 hl];have n:j0 (zct (zcG r m g) c a) (ln (ix r.aa m mZ).aw)=true:=zee (zcO A.fit.1 h).2.2.2.1 A.hq;refine br (fun i=>?_) (fun i=>?_)
  .rw [i]
   show _=some (zlo (zhm (zbO r m (zct (zcG r m g) c a)) b m g c a (zct (zcG r m g) c a) f))
   refine i0 (zF h) (i0 (zF n) (shr (i0 rfl (shr (br (fun d=>i0 rfl (br (fun e=>?_) (fun e=>?_))) (fun d=>?_))))))
   .rw [zGy (zpu d e)];rfl
   .rw [zpy (zpu d e)];exact zGs (r:=zbO r m (zct (zcG r m g) c a)) B
   .rw [zpy (zGv d)];exact zGs (r:=zbO r m (zct (zcG r m g) c a)) B
  .rw [i]
   show _=some (zlo (zhm r b m g c a (zct (zcG r m g) c a) f))
   refine i0 rfl (shr (br (fun d=>i0 rfl (br (fun e=>?_) (fun e=>?_))) (fun d=>?_)))
   .rw [zGy (zpu d e)];rfl
   .rw [zpy (zpu d e)];exact zGs A
   .rw [zpy (zGv d)];exact zGs A
def zVG (a:ad)(f:List ar)(b c:Int)(e d:Int)(g:Bool)(t:zbE big [aH a,aS .entry f,aI b,aI c,aI e,aI d,aB g])(r:zmc a f b c e d g=true):∃N,zsq N a f b c e d g=some [aH<|zgp a f b c e d g,aI<|zmb a f b c e d g,aB<|ziF a f b c e d g]:=by
 have j:=(zT a).1 (zM.1 r);refine⟨0,?_⟩;show _=some (zlo<|lookOf a f b c e d g);unfold zsq oN nB;conv=>zeta
 refine i0 rfl (brN (λk=>?_) λk=>i0 rfl ?_);{rw [ziN<|zpz<|zQh k];rfl};rw[show zk b 0 (wsub .i64 (ln a.aa) 1)=j0 b (ln a.aa) from zso j.2.1.1 b];refine brN (λi=>?_) (λi=>i0 (zF i) (i0 rfl ?_));{rw [ziN<|zpz<|zQi i];rfl};have s:(ix a.aa b mZ).ac.length<=1048576:=(j.2.1.2 _<|zbN i _).2.2.2.1.1;rw[show zk c 0 (wsub .i64 (ln (ix a.aa b zi).ac) 1)=j0 c (ln (ix a.aa b mZ).ac) from zso s c];refine brN (λl=>?_) (λl=>?_);{rw [ziN<|zpz<|zQj l];rfl};have hg:=zQk k i l;have p:∀{n:Int},zg4 n=false->zb8 a b c e n=false:=λ{n} h=>(by unfold zb8;rw[hg,h];rfl);rw[zl1,zl1];cases m:ieq d 1;{cases q:ieq d 2;{have:zg4 d=false:=(by unfold zg4;rw[m,q];rfl);rw[ziN<|p this];rfl};{exact z6W j hg (by unfold zg4;rw[m,q];rfl)}};{exact z6W j hg (by unfold zg4;rw[m];rfl)}
def zNY:ze3 Tryz.prog 337 [true,true,true,true,false,false,false,false,false,false] (some (1,1,[[0],[1],[2],[4],[7]])) zuk:=by refine zQl (kt:=.mon) (zhP ziU zA zb9 zAx) (zkp (by kernel_rfl)) ?_;intro p s x f i w v h;have t:=zkv v;have g:p=[(4,2)]\/p=[(4,3)]:=(by rw[show zjy 337=[[(4,2)],[(4,3)]] from by kernel_rfl]at f;simpa using f);unfold zuk at h;split at h;{rename_i a b c d r j k l m n;obtain⟨u,rfl⟩:=zeP h;obtain⟨N,q⟩:=zVG (⟨a,b,c,d⟩:ad) r j k l m n t u;refine⟨⟨_,rfl⟩,rfl,zuu,N,12,?_⟩;rcases g with rfl|rfl;{have e:=i 4 2 (by simp);simp only[zJ,kE,AV.cvs] at e;cases e;exact(zSd N (⟨a,b,c,d⟩:ad) j k l m n).trans q};{have e:=i 4 3 (by simp);simp only[zJ,kE,AV.cvs] at e;cases e;exact(zSe N (⟨a,b,c,d⟩:ad) j k l m n).trans q}};{cases h}
def tctN:zgd:=[(337,[true,true,true,true,false,false,false,false,false,false],some (1,1,[[0],[1],[2],[4],[7]]),zuk)]++z5Q
def zfL:zeS tctN:=zsk zAx (by
 intro x a;simp only[qG,qM,or_false]at a;rcases a with rfl
 .exact zNY)
def gOf (h:ad)(m g:Int):ah:=ix (ix h.aa m mZ).ac g gZ
def zg1 (h:ad)(m g:Int)(x:ah):ad:={h with aa:=up h.aa m {ix h.aa m mZ with ac:=up (ix h.aa m mZ).ac g x}}
def zjf (h:ad)(m g:Int)(x:ah)(w:Bool):ad×Int×Bool:=lookOf h h.ao m g (zbs<|E0 x) (zcf w) false
def zia (L:ad×Int×Bool)(m g:Int)(x:ah)(w:Bool):ad :=
 bif L.2.2 then (cond w (zg1 {L.1 with ag:=zbS L.1.ag L.2.1 (zdO<|E0 x) x.A} m g<|zcb x)<|zg1 L.1 m g<|loaded x<|cellAt L.1.ag L.2.1<|zdO<|E0 x)
 else zg1 L.1 m g (stopped x<|ztq (zbs<|E0 x) w)
def owned (h:ad)(m:Int):ad:=bif ilt (ix h.aa m mZ).Own 1000000000 then {h with aa:=up h.aa m {ix h.aa m mZ with Own:=zI .i64 (ix h.aa m mZ).Own 1}} else h
def zi1 (h:ad)(m n:Int):ad:=bif ilt (ln (ix h.aa m mZ).Outs) 40 then {h with aa:=up h.aa m {ix h.aa m mZ with Outs:=ap (ix h.aa m mZ).Outs [n]}} else h
def ze2 (h:ad)(m:Int)(x:ah)(w:Int):ad:=bif (cond (ine w 6) (ieq (zn7 (ix h.aa m mZ).aq x.Ctl.aq<|zgb w) 2) false) then owned h m else h
def zhA (h:ad)(m:Int)(x:ah)(w:Int):ad:=bif (cond (zhZ x.Ctl.aq w) (ieq w 5) false) then zi1 h m (zcg x.au x.Pc).X else h
def zlD (h:ad)(m g:Int)(x:ah)(w:Int):ad:=zg1 (zhA (ze2 h m x w) m x w) m g (zgc x x.Ctl.aq w)
def zAt (h:ad)(m g:Int)(x:ah)(w:Int):ad×Bool :=
 bif ieq w 0 then (h,false) else (bif ieq w 1 then (zg1 h m g<|interrupted x,true) else (bif ieq w 2 then (zg1 h m g<|plainly x,true) else
  (cond (cond (ieq w 3) true<|ieq w 4) (zia (zjf h m g x<|ieq w 4) m g x<|ieq w 4,true) (zlD h m g x w,true))))
def zbz (h:ad)(m g:Int):ad×Bool:=bif zbW h m g then zAt h m g (gOf h m g) (zL<|gOf h m g) else (h,false)
def zeQ (x:ad×Bool):LA:=[.agg<|zbt x.1,.one<|.b x.2]
def zlT {h:ad}{m g:Int}(b:SmH h)(a:j0 m (ln h.aa)=true)(hg:j0 g (ln (ix h.aa m mZ).ac)=true):SmG (gOf h m g):=(b.2.1.2 _<|zbN a _).2.2.2.1.2 _ (zbN hg _)
def z5G {h:ad}{m g:Int}{x:ah}(c:Shape h)(d:j0 m (ln h.aa)=true)(e:SmG x):Shape (zg1 h m g x):=by obtain⟨a,b⟩:=zcO c d;exact zkj c ⟨a.1,a.2.1,a.2.2.1,zGH a.2.2.2.1 e,a.2.2.2.2⟩ ⟨b.1,b.2.1,b.2.2.1,by simpa using b.2.2.2⟩
def zbe8 (o i t:Int):ieq (zn7 o i t) 1=zed i t:=by unfold zn7;cases zed i t;{cases zed o t<;>rfl};{rfl}
def zbe9 {o i t:Int}(h:zed i t=true):ieq (zn7 o i t) 2=false:=by unfold zn7;rw[h];rfl
def zqh {h:ad}{m:Int}(b:j0 m (ln h.aa)=true)(x:Mon):ix (up h.aa m x) m mZ=x:=by obtain⟨k,rfl,a⟩:=zez (n:=h.aa.length) b;exact zev a _ _
@[simp] abbrev zcm (h:ad)(m g:Int):ad:=(zbz h m g).1
@[simp] abbrev zcn (h:ad)(m g:Int):Bool:=(zbz h m g).2
def zWk {a:Type}{l:List a}{x:a}(h:ilt (ln l) 40=true):few (ln<|ap l [x])=true:=by have:=qD h;simp only[ln] at this;exact zgv (by simp[ap];omega)
def z3p {h:ad}{m:Int}{x:ah}{w:Int}(a:(cond (zhZ x.Ctl.aq w) (ieq w 5) false)=false):zhA h m x w=h:=by unfold zhA;rw[a];rfl
def zUj {h:ad}{m:Int}{x:ah}{w:Int}(a:ilt (ln (ix h.aa m mZ).Outs) 40=false):zhA h m x w=h:=by unfold zhA zi1;rw[a];cases (cond (zhZ x.Ctl.aq w) (ieq w 5) false)<;>rfl
def zZ2 {h:ad}{m:Int}{x:ah}{w:Int}(a:zhZ x.Ctl.aq w=true)(b:ieq w 5=true)(c:ilt (ln (ix h.aa m mZ).Outs) 40=true):zhA h m x w={h with aa:=up h.aa m {ix h.aa m mZ with Outs:=ap (ix h.aa m mZ).Outs [(zcg x.au x.Pc).X]}}:=by unfold zhA zi1;rw[a,b,c];rfl
def zPz {h:ad}{m:Int}{x:ah}{w:Int}(a:zhZ x.Ctl.aq w=false):zhA h m x w=h:=z3p (by rw[a];rfl)
def zGa {h:ad}{m:Int}{x:ah}{w:Int}(a:ieq w 5=false):zhA h m x w=h:=z3p (by rw[a];cases zhZ x.Ctl.aq w<;>rfl)
def zN3 (a:Int):(cond (ieq a a) true false)=true:=by rw[zcP];rfl
def zjv {h:ad}{m g:Int}(a:zbW h m g=false):zbz h m g=(h,false):=by unfold zbz;rw[a];rfl
def zkk {h:ad}{m g:Int}(a:zbW h m g=true):zbz h m g=zAt h m g (gOf h m g) (zL<|gOf h m g):=by unfold zbz;rw[a];rfl
def zn4 {a b:Bool}(h:(cond a b false)=true):a=true/\b=true:=by cases a;{cases h};{exact⟨rfl,h⟩}
def zko {a b:Bool}(c:a=true)(d:b=true):(cond a b false)=true:=by rw[c];exact d
def z3s {h:ad}{m:Int}{x:ah}{w:Int}(b:ine w 6=true)(a:ieq (zn7 (ix h.aa m mZ).aq x.Ctl.aq<|zgb w) 2=true)(c:ilt (ix h.aa m mZ).Own 1000000000=true):ze2 h m x w={h with aa:=up h.aa m {ix h.aa m mZ with Own:=zI .i64 (ix h.aa m mZ).Own 1}}:=by unfold ze2 owned;rw[b,a,c];rfl
def z3q {h:ad}{m:Int}{x:ah}{w:Int}(a:ieq (zn7 (ix h.aa m mZ).aq x.Ctl.aq<|zgb w) 2=false):ze2 h m x w=h:=by unfold ze2;rw[a];cases ine w 6<;>rfl
def z3r {h:ad}{m:Int}{x:ah}{w:Int}(a:ilt (ix h.aa m mZ).Own 1000000000=false):ze2 h m x w=h:=by unfold ze2 owned;rw[a];cases (cond (ine w 6) (ieq (zn7 (ix h.aa m mZ).aq x.Ctl.aq<|zgb w) 2) false)<;>rfl
def zbei {h:ad}{m:Int}{x:ah}:ze2 h m x 6=h:=rfl
def zpp {h a:ad}{m g:Int}{x:ah}{w:Int}(e:ze2 h m x w=a):zlD h m g x w=zg1 (zhA a m x w) m g (zgc x x.Ctl.aq w):=by unfold zlD;rw[e]
def zbaV (x:ah):ieq (zL x) 0=true\/ieq (zL x) 1=true\/ieq (zL x) 2=true\/ieq (zL x) 3=true\/ieq (zL x) 4=true\/ieq (zL x) 5=true\/ieq (zL x) 6=true\/ieq (zL x) 7=true:=by cases a:ieq (zL x) 0;{cases b:ieq (zL x) 1;{cases c:ieq (zL x) 2;{cases d:ieq (zL x) 3;{cases e:ieq (zL x) 4;{cases f:ieq (zL x) 5;{cases g:ieq (zL x) 6;{exact .inr (.inr<|.inr<|.inr<|.inr<|.inr<|.inr<|zWv x a b c d e f g)};{exact .inr (.inr<|.inr<|.inr<|.inr<|.inr (.inl rfl))}};{exact .inr (.inr<|.inr<|.inr<|.inr (.inl rfl))}};{exact .inr (.inr<|.inr<|.inr (.inl rfl))}};{exact .inr (.inr<|.inr (.inl rfl))}};{exact .inr (.inr (.inl rfl))}};{exact .inr (.inl rfl)}};{exact .inl rfl}
abbrev zDj (x:ah):Bool:=bif zbu x then ieq (zL x) 0 else false
def zqL:LW
 |[.agg [.s .ins c,.i .i64 d,.i .i64 e,.s .slot f,.s .slot g,.i .i64 h,.i .i64 j,.b k,.i .i64 l,.i .i64 m,.i .i64 n,.b o,.i .i64 p,.b q,.s .int r]]=>some (zDj (⟨c,d,e,f,g,⟨h,j,k⟩,l,⟨m,n,o,p⟩,q,r⟩:ah),[.one<|.i .i64 0])
 |_=>none
def zG9:vU 259 zqL:=by refine⟨zcF.1,λw b g j a h=>?_⟩;unfold zqL at h;split at h;{obtain⟨f,rfl⟩:=zeP h;obtain⟨d,e⟩:=zn4 f;exact zcF.2 w _ g _ a (congr (congrArg (λc v=>some (c,[AV.one<|CV.i .i64 v])) d) (qD e))};{cases h}
def zbdh:zZ:=[(259,zqL)]++zoE
def z3O:zS zbdh:=zh zG9 ziU
@[simp] abbrev zxR (h:ad)(m g:Int):Bool:=bif zc4 h m g then ieq (zL<|gOf h m g) 0 else false
def zHz:Run:=rF3 dH dI dI λb c d=>(zxR b c d,[aH<|zcm b c d,aB<|zcn b c d])
def zwN (N:Nat)(d:ad)(b c:Int):OA:=
 let a:=zn d;let e:=(ix a.aa b zi).ac; (oN (zbn d)<|oN (zc4 a b c)<|cond (nB<|zk0 a b c) (some [aH a,aB false])<|oN (inb b<|ln a.aa)<|oN (inb c<|ln e)<|oN (zDj<|ix e c zy)<|some [aH a,aB false])
abbrev zDk (x:ah):Bool:=bif zbu x then ieq (zL x) 1 else false
def zqM:LW
 |[.agg [.s .ins c,.i .i64 d,.i .i64 e,.s .slot f,.s .slot g,.i .i64 h,.i .i64 j,.b k,.i .i64 l,.i .i64 m,.i .i64 n,.b o,.i .i64 p,.b q,.s .int r]]=>some (zDk (⟨c,d,e,f,g,⟨h,j,k⟩,l,⟨m,n,o,p⟩,q,r⟩:ah),[.one<|.i .i64 1])
 |_=>none
def zHa:vU 259 zqM:=by refine⟨zcF.1,λw b g j a h=>?_⟩;unfold zqM at h;split at h;{obtain⟨f,rfl⟩:=zeP h;obtain⟨d,e⟩:=zn4 f;exact zcF.2 w _ g _ a (congr (congrArg (λc v=>some (c,[AV.one<|CV.i .i64 v])) d) (qD e))};{cases h}
def zbdi:zZ:=[(259,zqM)]++zoE
def z3P:zS zbdi:=zh zHa ziU
@[simp] abbrev zxS (h:ad)(m g:Int):Bool:=bif zc4 h m g then ieq (zL<|gOf h m g) 1 else false
def zHA:Run:=rF3 dH dI dI λb c d=>(zxS b c d,[aH<|zcm b c d,aB<|zcn b c d])
def zwO (N:Nat)(f:ad)(b c:Int):OA:=
 let a:=zn f;let d:=ix a.aa b zi;let e:=ix d.ac c zy; (oN (zbn f)<|oN (zc4 a b c)<|cond (nB<|zk0 a b c) (some [aH a,aB false])<|oN (inb b<|ln a.aa)<|oN (inb c<|ln d.ac)<|oN (zDk e)<|oN (inb b<|ln a.aa)<|oN (zQ e)<|oN (inb c<|ln d.ac)<|p0 (up a.aa b ({d with ac:=(up d.ac c<|zeI e)}:Mon)) λg=>some [aH ({a with aa:=g}:ad),aB true])
abbrev zDl (x:ah):Bool:=bif zbu x then ieq (zL x) 2 else false
def zqN:LW
 |[.agg [.s .ins c,.i .i64 d,.i .i64 e,.s .slot f,.s .slot g,.i .i64 h,.i .i64 j,.b k,.i .i64 l,.i .i64 m,.i .i64 n,.b o,.i .i64 p,.b q,.s .int r]]=>some (zDl (⟨c,d,e,f,g,⟨h,j,k⟩,l,⟨m,n,o,p⟩,q,r⟩:ah),[.one<|.i .i64 2])
 |_=>none
def zHb:vU 259 zqN:=by refine⟨zcF.1,λw b g j a h=>?_⟩;unfold zqN at h;split at h;{obtain⟨f,rfl⟩:=zeP h;obtain⟨d,e⟩:=zn4 f;exact zcF.2 w _ g _ a (congr (congrArg (λc v=>some (c,[AV.one<|CV.i .i64 v])) d) (qD e))};{cases h}
def zbdj:zZ:=[(259,zqN)]++zoE
def z3Q:zS zbdj:=zh zHb ziU
@[simp] abbrev zxT (h:ad)(m g:Int):Bool:=bif zc4 h m g then ieq (zL<|gOf h m g) 2 else false
def zHB:Run:=rF3 dH dI dI λb c d=>(zxT b c d,[aH<|zcm b c d,aB<|zcn b c d])
def zwP (N:Nat)(f:ad)(b c:Int):OA:=
 let a:=zn f;let d:=ix a.aa b zi;let e:=ix d.ac c zy; (oN (zbn f)<|oN (zc4 a b c)<|cond (nB<|zk0 a b c) (some [aH a,aB false])<|oN (inb b<|ln a.aa)<|oN (inb c<|ln d.ac)<|oN (zDl e)<|oN (inb b<|ln a.aa)<|oN (zQ e)<|oN (inb c<|ln d.ac)<|p0 (up a.aa b ({d with ac:=(up d.ac c<|zhD e)}:Mon)) λg=>some [aH ({a with aa:=g}:ad),aB true])
abbrev zDm (x:ah):Bool:=bif zbu x then ieq (zL x) 3 else false
def zqO:LW
 |[.agg [.s .ins c,.i .i64 d,.i .i64 e,.s .slot f,.s .slot g,.i .i64 h,.i .i64 j,.b k,.i .i64 l,.i .i64 m,.i .i64 n,.b o,.i .i64 p,.b q,.s .int r]]=>some (zDm (⟨c,d,e,f,g,⟨h,j,k⟩,l,⟨m,n,o,p⟩,q,r⟩:ah),[.one<|.i .i64 3])
 |_=>none
def zHc:vU 259 zqO:=by refine⟨zcF.1,λw b g j a h=>?_⟩;unfold zqO at h;split at h;{obtain⟨f,rfl⟩:=zeP h;obtain⟨d,e⟩:=zn4 f;exact zcF.2 w _ g _ a (congr (congrArg (λc v=>some (c,[AV.one<|CV.i .i64 v])) d) (qD e))};{cases h}
def zbdk:zZ:=[(259,zqO)]++zoE
def z3R:zS zbdk:=zh zHc ziU
@[simp] abbrev zxU (h:ad)(m g:Int):Bool:=bif zc4 h m g then ieq (zL<|gOf h m g) 3 else false
def zHC:Run:=rF3 dH dI dI λb c d=>(zxU b c d,[aH<|zcm b c d,aB<|zcn b c d])
def zwQ (N:Nat)(m:ad)(a b:Int):OA:=
 let c:=zn m;let n:=(ix c.aa a zi).ac;let h:=ix n b zy;let f:=zgW h;let g:=zb3 f;let l:=zmb c c.ao a b g (zcK false) false;let d:=zgp c c.ao a b g (zcK false) false;let e:=ix d.aa a zi;let j:=ix e.ac b zy;let i:=({h with au:=j.au,ax:=j.ax,av:=j.av,aC:=j.aC}:ah); (oN (zbn m)<|oN (zc4 c a b)<|cond (nB<|zk0 c a b) (some [aH c,aB false])<|oN (inb a<|ln c.aa)<|oN (inb b<|ln n)<|oN (zDm h)<|oN (zbu h)<|oN (zbD f)<|oN (zil false)<|oN (zmc c c.ao a b g (zcK false) false)<|cond (nB<|ziF c c.ao a b g (zcK false) false) (oN (inb a<|ln d.aa)<|oN (zbD f)<|oN (zfo g false)<|oN (zcC i<|zdK g false)<|oN (inb b<|ln e.ac)<|p0 (up d.aa a ({e with ac:=(up e.ac b<|zcw i<|zdK g false)}:Mon)) λk=>some [aH ({d with aa:=k}:ad),aB true])<|oN (inb a<|ln d.aa)<|oN (zbD f)<|oN (zeY d.ag l<|zdg f)<|oN (zjR i<|zgz d.ag l<|zdg f)<|oN (inb b<|ln e.ac)<|p0 (up d.aa a ({e with ac:=(up e.ac b<|zi7 i<|zgz d.ag l<|zdg f)}:Mon)) λk=>some [aH ({d with aa:=k}:ad),aB true])
abbrev zDn (x:ah):Bool:=bif zbu x then ieq (zL x) 4 else false
def zqP:LW
 |[.agg [.s .ins c,.i .i64 d,.i .i64 e,.s .slot f,.s .slot g,.i .i64 h,.i .i64 j,.b k,.i .i64 l,.i .i64 m,.i .i64 n,.b o,.i .i64 p,.b q,.s .int r]]=>some (zDn (⟨c,d,e,f,g,⟨h,j,k⟩,l,⟨m,n,o,p⟩,q,r⟩:ah),[.one<|.i .i64 4])
 |_=>none
def zHd:vU 259 zqP:=by refine⟨zcF.1,λw b g j a h=>?_⟩;unfold zqP at h;split at h;{obtain⟨f,rfl⟩:=zeP h;obtain⟨d,e⟩:=zn4 f;exact zcF.2 w _ g _ a (congr (congrArg (λc v=>some (c,[AV.one<|CV.i .i64 v])) d) (qD e))};{cases h}
def zbdl:zZ:=[(259,zqP)]++zoE
def z3S:zS zbdl:=zh zHd ziU
@[simp] abbrev zxV (h:ad)(m g:Int):Bool:=bif zc4 h m g then ieq (zL<|gOf h m g) 4 else false
def zHD:Run:=rF3 dH dI dI λb c d=>(zxV b c d,[aH<|zcm b c d,aB<|zcn b c d])
def zwR (N:Nat)(l:ad)(a b:Int):OA:=
 let c:=zn l;let n:=(ix c.aa a zi).ac;let g:=ix n b zy;let h:=zgW g;let f:=zb3 h;let m:=zmb c c.ao a b f (zcK true) false;let d:=zgp c c.ao a b f (zcK true) false;let e:=ix d.aa a zi;let j:=ix e.ac b zy;let i:=({g with au:=j.au,ax:=j.ax,av:=j.av,aC:=j.aC}:ah); (oN (zbn l)<|oN (zc4 c a b)<|cond (nB<|zk0 c a b) (some [aH c,aB false])<|oN (inb a<|ln c.aa)<|oN (inb b<|ln n)<|oN (zDn g)<|oN (zbu g)<|oN (zbD h)<|oN (zil true)<|oN (zmc c c.ao a b f (zcK true) false)<|cond (nB<|ziF c c.ao a b f (zcK true) false) (oN (inb a<|ln d.aa)<|oN (zbD h)<|oN (zfo f true)<|oN (zcC i<|zdK f true)<|oN (inb b<|ln e.ac)<|p0 (up d.aa a ({e with ac:=(up e.ac b<|zcw i<|zdK f true)}:Mon)) λk=>some [aH ({d with aa:=k}:ad),aB true])<|oN (zbD h)<|oN (zff d.ag m (zdg h) g.A)<|oN (inb a<|ln d.aa)<|oN (zQ i)<|oN (inb b<|ln e.ac)<|p0 (up d.aa a ({e with ac:=(up e.ac b<|zck i)}:Mon)) λk=>some [aH ({d with ag:=(zeX d.ag m (zdg h) g.A),aa:=k}:ad),aB true])
abbrev zDo (x:ah):Bool:=bif zbu x then ieq (zL x) 5 else false
def zqQ:LW
 |[.agg [.s .ins c,.i .i64 d,.i .i64 e,.s .slot f,.s .slot g,.i .i64 h,.i .i64 j,.b k,.i .i64 l,.i .i64 m,.i .i64 n,.b o,.i .i64 p,.b q,.s .int r]]=>some (zDo (⟨c,d,e,f,g,⟨h,j,k⟩,l,⟨m,n,o,p⟩,q,r⟩:ah),[.one<|.i .i64 5])
 |_=>none
def zHe:vU 259 zqQ:=by refine⟨zcF.1,λw b g j a h=>?_⟩;unfold zqQ at h;split at h;{obtain⟨f,rfl⟩:=zeP h;obtain⟨d,e⟩:=zn4 f;exact zcF.2 w _ g _ a (congr (congrArg (λc v=>some (c,[AV.one<|CV.i .i64 v])) d) (qD e))};{cases h}
def zbdm:zZ:=[(259,zqQ)]++zoE
def z3T:zS zbdm:=zh zHe ziU
@[simp] abbrev zxW (h:ad)(m g:Int):Bool:=bif zc4 h m g then ieq (zL<|gOf h m g) 5 else false
def zHE:Run:=rF3 dH dI dI λb c d=>(zxW b c d,[aH<|zcm b c d,aB<|zcn b c d])
def zwS (N:Nat)(x:ad)(a e:Int):OA:=
 let d:=zn x;let f:=inb a<|ln d.aa;let g:=ix d.aa a zi;let j:=inb e<|ln g.ac;let c:=ix g.ac e zy;let w:=ap g.Outs [(zdJ c.au c.Pc).X];let s:=up d.aa a ({g with Outs:=w}:Mon);let h:=c.Ctl.aq;let v:=up d.aa a ({g with ac:=(up g.ac e<|zcv c h 5)}:Mon); (oN (zbn x)<|oN (zc4 d a e)<|cond (nB<|zk0 d a e) (some [aH d,aB false])<|oN f<|oN j<|oN (zDo c)<|oN f<|oN (zov g.aq h 1)<|cond (ieq (zk7 g.aq h 1) 2) (oN f<|cond (ilt g.Own 1000000000) (oN f<|oN f<|p0 (up d.aa a ({g with Own:=(zI .i64 g.Own 1)}:Mon)) (λb=>let k:=inb a<|ln b;let l:=ix b a zi;let q:=ix l.ac e zy;let t:=ap l.Outs [(zdJ q.au c.Pc).X];let u:=({c with au:=q.au,ax:=q.ax,av:=q.av,aC:=q.aC}:ah);let r:=up b a ({l with ac:=(up l.ac e<|zcv u h 5)}:Mon); (oN (zea u h 5)<|cond (zdB u h 5) (oN k<|cond (ilt (ln l.Outs) 40) (oN k<|oN (zdA q.au c.Pc)<|oN (few<|ln t)<|oN k<|oN (cond (ieq a a) true false)<|p0 (up b a ({l with Outs:=t}:Mon)) (λi=>let m:=ix i a zi; (oN (inb a<|ln i)<|oN (inb e<|ln m.ac)<|p0 (up i a ({m with ac:=(up m.ac e<|zcv u h 5)}:Mon)) λy=>some [aH ({d with aa:=y}:ad),aB true])))<|oN k<|oN (inb e<|ln l.ac)<|p0 r λi=>some [aH ({d with aa:=i}:ad),aB true])<|oN k<|oN (inb e<|ln l.ac)<|p0 r λi=>some [aH ({d with aa:=i}:ad),aB true])))<|oN (zea c h 5)<|cond (zdB c h 5) (oN f<|cond (ilt (ln g.Outs) 40) (oN f<|oN (zdA c.au c.Pc)<|oN (few<|ln w)<|oN f<|oN (cond (ieq a a) true false)<|p0 s (λb=>let n:=ix b a zi; (oN (inb a<|ln b)<|oN (inb e<|ln n.ac)<|p0 (up b a ({n with ac:=(up n.ac e<|zcv c h 5)}:Mon)) λi=>some [aH ({d with aa:=i}:ad),aB true])))<|oN f<|oN j<|p0 v λb=>some [aH ({d with aa:=b}:ad),aB true])<|oN f<|oN j<|p0 v λb=>some [aH ({d with aa:=b}:ad),aB true])<|oN (zea c h 5)<|cond (zdB c h 5) (oN f<|cond (ilt (ln g.Outs) 40) (oN f<|oN (zdA c.au c.Pc)<|oN (few<|ln w)<|oN f<|oN (cond (ieq a a) true false)<|p0 s (λb=>let p:=ix b a zi; (oN (inb a<|ln b)<|oN (inb e<|ln p.ac)<|p0 (up b a ({p with ac:=(up p.ac e<|zcv c h 5)}:Mon)) λi=>some [aH ({d with aa:=i}:ad),aB true])))<|oN f<|oN j<|p0 v λb=>some [aH ({d with aa:=b}:ad),aB true])<|oN f<|oN j<|p0 v λb=>some [aH ({d with aa:=b}:ad),aB true])
abbrev zDp (x:ah):Bool:=bif zbu x then ieq (zL x) 6 else false
def zqR:LW
 |[.agg [.s .ins c,.i .i64 d,.i .i64 e,.s .slot f,.s .slot g,.i .i64 h,.i .i64 j,.b k,.i .i64 l,.i .i64 m,.i .i64 n,.b o,.i .i64 p,.b q,.s .int r]]=>some (zDp (⟨c,d,e,f,g,⟨h,j,k⟩,l,⟨m,n,o,p⟩,q,r⟩:ah),[.one<|.i .i64 6])
 |_=>none
def zHf:vU 259 zqR:=by refine⟨zcF.1,λw b g j a h=>?_⟩;unfold zqR at h;split at h;{obtain⟨f,rfl⟩:=zeP h;obtain⟨d,e⟩:=zn4 f;exact zcF.2 w _ g _ a (congr (congrArg (λc v=>some (c,[AV.one<|CV.i .i64 v])) d) (qD e))};{cases h}
def zbdn:zZ:=[(259,zqR)]++zoE
def z3U:zS zbdn:=zh zHf ziU
@[simp] abbrev zxX (h:ad)(m g:Int):Bool:=bif zc4 h m g then ieq (zL<|gOf h m g) 6 else false
def zHF:Run:=rF3 dH dI dI λb c d=>(zxX b c d,[aH<|zcm b c d,aB<|zcn b c d])
def zwT (N:Nat)(i:ad)(c d:Int):OA:=
 let a:=zn i;let g:=inb c<|ln a.aa;let e:=ix a.aa c zi;let h:=inb d<|ln e.ac;let b:=ix e.ac d zy;let j:=up a.aa c ({e with ac:=(up e.ac d<|zcv b b.Ctl.aq 6)}:Mon); (oN (zbn i)<|oN (zc4 a c d)<|cond (nB<|zk0 a c d) (some [aH a,aB false])<|oN g<|oN h<|oN (zDp b)<|oN (zea b b.Ctl.aq 6)<|cond (zdB b b.Ctl.aq 6) (oN g<|oN h<|p0 j λf=>some [aH ({a with aa:=f}:ad),aB true])<|oN g<|oN h<|p0 j λf=>some [aH ({a with aa:=f}:ad),aB true])
abbrev zDq (x:ah):Bool:=bif zbu x then ieq (zL x) 7 else false
def zqS:LW
 |[.agg [.s .ins c,.i .i64 d,.i .i64 e,.s .slot f,.s .slot g,.i .i64 h,.i .i64 j,.b k,.i .i64 l,.i .i64 m,.i .i64 n,.b o,.i .i64 p,.b q,.s .int r]]=>some (zDq (⟨c,d,e,f,g,⟨h,j,k⟩,l,⟨m,n,o,p⟩,q,r⟩:ah),[.one<|.i .i64 7])
 |_=>none
def zHg:vU 259 zqS:=by refine⟨zcF.1,λw b g j a h=>?_⟩;unfold zqS at h;split at h;{obtain⟨f,rfl⟩:=zeP h;obtain⟨d,e⟩:=zn4 f;exact zcF.2 w _ g _ a (congr (congrArg (λc v=>some (c,[AV.one<|CV.i .i64 v])) d) (qD e))};{cases h}
def zbdo:zZ:=[(259,zqS)]++zoE
def z3V:zS zbdo:=zh zHg ziU
@[simp] abbrev zxY (h:ad)(m g:Int):Bool:=bif zc4 h m g then ieq (zL<|gOf h m g) 7 else false
def zHG:Run:=rF3 dH dI dI λb c d=>(zxY b c d,[aH<|zcm b c d,aB<|zcn b c d])
def zwU (N:Nat)(q:ad)(c e:Int):OA:=
 let a:=zn q;let g:=inb c<|ln a.aa;let f:=ix a.aa c zi;let k:=inb e<|ln f.ac;let h:=ix f.ac e zy;let d:=h.Ctl.aq;let l:=up a.aa c ({f with ac:=(up f.ac e<|zcv h d 7)}:Mon); (oN (zbn q)<|oN (zc4 a c e)<|cond (nB<|zk0 a c e) (some [aH a,aB false])<|oN g<|oN k<|oN (zDq h)<|oN g<|oN (zov f.aq d 2)<|cond (ieq (zk7 f.aq d 2) 2) (oN g<|cond (ilt f.Own 1000000000) (oN g<|oN g<|p0 (up a.aa c ({f with Own:=(zI .i64 f.Own 1)}:Mon)) (λb=>let j:=ix b c zi;let m:=ix j.ac e zy;let p:=({h with au:=m.au,ax:=m.ax,av:=m.av,aC:=m.aC}:ah);let i:=up b c ({j with ac:=(up j.ac e<|zcv p d 7)}:Mon); (oN (zea p d 7)<|cond (zdB p d 7) (oN (inb c<|ln b)<|oN (inb e<|ln j.ac)<|p0 i λn=>some [aH ({a with aa:=n}:ad),aB true])<|oN (inb c<|ln b)<|oN (inb e<|ln j.ac)<|p0 i λn=>some [aH ({a with aa:=n}:ad),aB true])))<|oN (zea h d 7)<|cond (zdB h d 7) (oN g<|oN k<|p0 l λb=>some [aH ({a with aa:=b}:ad),aB true])<|oN g<|oN k<|p0 l λb=>some [aH ({a with aa:=b}:ad),aB true])<|oN (zea h d 7)<|cond (zdB h d 7) (oN g<|oN k<|p0 l λb=>some [aH ({a with aa:=b}:ad),aB true])<|oN g<|oN k<|p0 l λb=>some [aH ({a with aa:=b}:ad),aB true])
def zHp (a:ad)(b c:Int)(e:zxR a b c=true):∃N,zwN N a b c=some [aH<|zcm a b c,aB<|zcn a b c]:=by
 obtain⟨e,i⟩:=zn4 e;have f:=(zT a).1 (zM.1 e);refine⟨0,?_⟩;show _=some (zeQ<|zbz a b c);unfold zwN oN nB;conv=>zeta
 refine i0 (zbr<|(zT _).2 f) (i0 (zbr<|(zT _).2 f)<|brN (λd=>?_) λd=>?_);{rw [zjv d];rfl};obtain⟨k,g,h⟩:=zdq d;have l:=zlT f g h;have j:zL (gOf a b c)=0:=qD i;rw[zkk d,j];refine i0 (zF g) (i0 (zF h)<|i0 (zko rfl i) ?_);rfl
def zrE:vU 108 zHz:=kF3 z3O zA zb9 zfL (zq []) zHp
def zHq (a:ad)(b c:Int)(g:zxS a b c=true):∃N,zwO N a b c=some [aH<|zcm a b c,aB<|zcn a b c]:=by
 obtain⟨g,i⟩:=zn4 g;have h:=(zT a).1 (zM.1 g);refine⟨0,?_⟩;show _=some (zeQ<|zbz a b c);unfold zwO oN nB;conv=>zeta
 refine i0 (zbr<|(zT _).2 h) (i0 (zbr<|(zT _).2 h)<|brN (λd=>?_) λd=>?_);{rw [zjv d];rfl};obtain⟨l,e,f⟩:=zdq d;have k:=zlT h e f;have j:zL (gOf a b c)=1:=qD i;rw[zkk d,j];refine i0 (zF e) (i0 (zF f)<|i0 (zko rfl i) ?_);show _=some (zeQ (zg1 a b c<|interrupted<|gOf a b c,true));exact i0 (zF e) (i0 (zbr k) (i0 (zF f) rfl))
def zDB:vU 108 zHA:=kF3 z3P zA zb9 zfL (zq []) zHq
def zHr (a:ad)(b c:Int)(g:zxT a b c=true):∃N,zwP N a b c=some [aH<|zcm a b c,aB<|zcn a b c]:=by
 obtain⟨g,i⟩:=zn4 g;have h:=(zT a).1 (zM.1 g);refine⟨0,?_⟩;show _=some (zeQ<|zbz a b c);unfold zwP oN nB;conv=>zeta
 refine i0 (zbr<|(zT _).2 h) (i0 (zbr<|(zT _).2 h)<|brN (λd=>?_) λd=>?_);{rw [zjv d];rfl};obtain⟨l,e,f⟩:=zdq d;have k:=zlT h e f;have j:zL (gOf a b c)=2:=qD i;rw[zkk d,j];refine i0 (zF e) (i0 (zF f)<|i0 (zko rfl i) ?_);show _=some (zeQ (zg1 a b c<|plainly<|gOf a b c,true));exact i0 (zF e) (i0 (zbr k) (i0 (zF f) rfl))
def zDC:vU 108 zHB:=kF3 z3Q zA zb9 zfL (zq []) zHr
def zHs (a:ad)(c d:Int)(j:zxU a c d=true):∃N,zwQ N a c d=some [aH<|zcm a c d,aB<|zcn a c d]:=by
 obtain⟨j,m⟩:=zn4 j;have f:=(zT a).1 (zM.1 j);refine⟨0,?_⟩;show _=some (zeQ<|zbz a c d);unfold zwQ oN nB;conv=>zeta
 refine i0 (zbr<|(zT _).2 f) (i0 (zbr<|(zT _).2 f)<|brN (λe=>?_) λe=>?_);{rw [zjv e];rfl};obtain⟨r,g,i⟩:=zdq e;have n:=zlT f g i;have q:zL (gOf a c d)=3:=qD m;rw[zkk e,q];refine i0 (zF g) (i0 (zF i)<|i0 (zko rfl m) ?_);show _=some (zeQ (zia (zjf a c d (gOf a c d) false) c d (gOf a c d) false,true));have k:=zvo (b:=a.ao) (page:=zbs (E0<|gOf a c d)) (need:=zcf false) (io:=false) f e;have F:=znw k g i;have p:(ix (ix (zgp (zn a) (zn a).ao c d (zb3<|zgW<|ix (ix (zn a).aa c zi).ac d zy) (zcK false) false).aa c zi).ac d zy)=(ix (ix (zn a).aa c zi).ac d zy):=congrArg (λl=>ix l d gZ) (zM2 k.gs c);rw[p];unfold zia;refine i0 rfl (i0 rfl (i0 rfl (i0 (zbr<|(zT _).2 f)<|brN (λh=>?_) λh=>?_)));{rw [show (zjf a c d (gOf a c d) false).2.2=false from h];exact i0 (zF F.hm) (i0 rfl (i0 rfl (i0 (zbr n) (i0 (zF F.hg) rfl))))};{rw [show (zjf a c d (gOf a c d) false).2.2=true from h];exact i0 (zF F.hm) (i0 rfl (i0 rfl (i0 (zbr n) (i0 (zF F.hg) rfl))))}
def zDD:vU 108 zHC:=kF3 z3R zA zb9 zfL (zq []) zHs
def zHt (a:ad)(c d:Int)(j:zxV a c d=true):∃N,zwR N a c d=some [aH<|zcm a c d,aB<|zcn a c d]:=by
 obtain⟨j,m⟩:=zn4 j;have f:=(zT a).1 (zM.1 j);refine⟨0,?_⟩;show _=some (zeQ<|zbz a c d);unfold zwR oN nB;conv=>zeta
 refine i0 (zbr<|(zT _).2 f) (i0 (zbr<|(zT _).2 f)<|brN (λe=>?_) λe=>?_);{rw [zjv e];rfl};obtain⟨r,g,i⟩:=zdq e;have n:=zlT f g i;have q:zL (gOf a c d)=4:=qD m;rw[zkk e,q];refine i0 (zF g) (i0 (zF i)<|i0 (zko rfl m) ?_);show _=some (zeQ (zia (zjf a c d (gOf a c d) true) c d (gOf a c d) true,true));have k:=zvo (b:=a.ao) (page:=zbs (E0<|gOf a c d)) (need:=zcf true) (io:=false) f e;have F:=znw k g i;have p:(ix (ix (zgp (zn a) (zn a).ao c d (zb3<|zgW<|ix (ix (zn a).aa c zi).ac d zy) (zcK true) false).aa c zi).ac d zy)=(ix (ix (zn a).aa c zi).ac d zy):=congrArg (λl=>ix l d gZ) (zM2 k.gs c);rw[p];unfold zia;refine i0 rfl (i0 rfl (i0 rfl (i0 (zbr<|(zT _).2 f)<|brN (λh=>?_) λh=>?_)));{rw [show (zjf a c d (gOf a c d) true).2.2=false from h];exact i0 (zF F.hm) (i0 rfl (i0 rfl (i0 (zbr n) (i0 (zF F.hg) rfl))))};{rw [show (zjf a c d (gOf a c d) true).2.2=true from h];exact i0 rfl (i0 (zbr k.shape.1.1)<|i0 (zF F.hm)<|i0 (zbr n) (i0 (zF F.hg) rfl))}
def zDE:vU 108 zHD:=kF3 z3S zA zb9 zfL (zq []) zHt
def zbcb {c:ad}{a d:Int}(k:SmG (gOf c a d))(f:j0 a (ln c.aa)=true)(i:j0 d (ln (ix c.aa a mZ).ac)=true) :
 (cond (zea (ix (ix (zn c).aa a zi).ac d zy) (ix (ix (zn c).aa a zi).ac d zy).Ctl.aq 5) (cond (zdB (ix (ix (zn c).aa a zi).ac d zy) (ix (ix (zn c).aa a zi).ac d zy).Ctl.aq 5) (cond (inb a<|ln (zn c).aa) (cond (ilt (ln (ix (zn c).aa a zi).Outs) 40) (cond (inb a<|ln (zn c).aa) (cond (zdA (ix (ix (zn c).aa a zi).ac d zy).au (ix (ix (zn c).aa a zi).ac d zy).Pc) (cond (few<|ln<|ap (ix (zn c).aa a zi).Outs [(zdJ (ix (ix (zn c).aa a zi).ac d zy).au (ix (ix (zn c).aa a zi).ac d zy).Pc).X]) (cond (inb a<|ln (zn c).aa) (cond (cond (ieq a a) true false) (p0 (up (zn c).aa a ({ (ix (zn c).aa a zi) with Outs:=(ap (ix (zn c).aa a zi).Outs [(zdJ (ix (ix (zn c).aa a zi).ac d zy).au (ix (ix (zn c).aa a zi).ac d zy).Pc).X])}:Mon)) λe=>cond (inb a<|ln e) (cond (inb d<|ln (ix e a zi).ac) (p0 (up e a ({ (ix e a zi) with ac:=(up (ix e a zi).ac d<|zcv (ix (ix (zn c).aa a zi).ac d zy) (ix (ix (zn c).aa a zi).ac d zy).Ctl.aq 5)}:Mon)) λl=>some [.agg<|zbt ({ (zn c) with aa:=l}:ad),.one<|.b true]) none) none) none) none) none) none) none)<|cond (inb a<|ln (zn c).aa) (cond (inb d<|ln (ix (zn c).aa a zi).ac) (p0 (up (zn c).aa a ({ (ix (zn c).aa a zi) with ac:=(up (ix (zn c).aa a zi).ac d<|zcv (ix (ix (zn c).aa a zi).ac d zy) (ix (ix (zn c).aa a zi).ac d zy).Ctl.aq 5)}:Mon)) λe=>some [.agg<|zbt ({ (zn c) with aa:=e}:ad),.one<|.b true]) none) none) none)<|cond (inb a<|ln (zn c).aa) (cond (inb d<|ln (ix (zn c).aa a zi).ac) (p0 (up (zn c).aa a ({ (ix (zn c).aa a zi) with ac:=(up (ix (zn c).aa a zi).ac d<|zcv (ix (ix (zn c).aa a zi).ac d zy) (ix (ix (zn c).aa a zi).ac d zy).Ctl.aq 5)}:Mon)) λe=>some [.agg<|zbt ({ (zn c) with aa:=e}:ad),.one<|.b true]) none) none) none)=some (zeQ (zg1 (zhA c a (gOf c a d) 5) a d<|zgc (gOf c a d) (gOf c a d).Ctl.aq 5,true)):=by
 refine i0 (zbr k) (br (λj=>i0 (zF f) (br (λg=>?_) λg=>?_)) λj=>?_)
 .rw [zZ2 (h:=c) (m:=a) (x:=gOf c a d) (w:=5) j rfl g];refine i0 (zF f) (i0 rfl (i0 (zWk g)<|i0 (zF f)<|i0 (zN3 _)<|shr<|i0 (zF<|zfA f) (i0 ?_ rfl)));rw[zqh f];exact zF i
 .rw [zUj (h:=c) (m:=a) (x:=gOf c a d) (w:=5) g];exact i0 (zF f) (i0 (zF i) rfl)
 .rw [zPz (h:=c) (m:=a) (x:=gOf c a d) (w:=5) j];exact i0 (zF f) (i0 (zF i) rfl)
def zbfC {f:ad}{d:List Mon}{a c:Int}(n:SmG (gOf f a c))(i:j0 a (ln d)=true)(k:j0 c (ln (ix d a mZ).ac)=true)(e:(ix (ix d a zi).ac c zy)=gOf f a c) :
 (cond (zea ({ (ix (ix (zn f).aa a zi).ac c zy) with au:=(ix (ix d a zi).ac c zy).au,ax:=(ix (ix d a zi).ac c zy).ax,av:=(ix (ix d a zi).ac c zy).av,aC:=(ix (ix d a zi).ac c zy).aC}:ah) (ix (ix (zn f).aa a zi).ac c zy).Ctl.aq 5) (cond (zdB ({ (ix (ix (zn f).aa a zi).ac c zy) with au:=(ix (ix d a zi).ac c zy).au,ax:=(ix (ix d a zi).ac c zy).ax,av:=(ix (ix d a zi).ac c zy).av,aC:=(ix (ix d a zi).ac c zy).aC}:ah) (ix (ix (zn f).aa a zi).ac c zy).Ctl.aq 5) (cond (inb a<|ln d) (cond (ilt (ln (ix d a zi).Outs) 40) (cond (inb a<|ln d) (cond (zdA (ix (ix d a zi).ac c zy).au (ix (ix (zn f).aa a zi).ac c zy).Pc) (cond (few<|ln<|ap (ix d a zi).Outs [(zdJ (ix (ix d a zi).ac c zy).au (ix (ix (zn f).aa a zi).ac c zy).Pc).X]) (cond (inb a<|ln d) (cond (cond (ieq a a) true false) (p0 (up d a ({ (ix d a zi) with Outs:=(ap (ix d a zi).Outs [(zdJ (ix (ix d a zi).ac c zy).au (ix (ix (zn f).aa a zi).ac c zy).Pc).X])}:Mon)) λg=>cond (inb a<|ln g) (cond (inb c<|ln (ix g a zi).ac) (p0 (up g a ({ (ix g a zi) with ac:=(up (ix g a zi).ac c<|zcv ({ (ix (ix (zn f).aa a zi).ac c zy) with au:=(ix (ix d a zi).ac c zy).au,ax:=(ix (ix d a zi).ac c zy).ax,av:=(ix (ix d a zi).ac c zy).av,aC:=(ix (ix d a zi).ac c zy).aC}:ah) (ix (ix (zn f).aa a zi).ac c zy).Ctl.aq 5)}:Mon)) λp=>some [.agg<|zbt ({ (zn f) with aa:=p}:ad),.one<|.b true]) none) none) none) none) none) none) none)<|cond (inb a<|ln d) (cond (inb c<|ln (ix d a zi).ac) (p0 (up d a ({ (ix d a zi) with ac:=(up (ix d a zi).ac c<|zcv ({ (ix (ix (zn f).aa a zi).ac c zy) with au:=(ix (ix d a zi).ac c zy).au,ax:=(ix (ix d a zi).ac c zy).ax,av:=(ix (ix d a zi).ac c zy).av,aC:=(ix (ix d a zi).ac c zy).aC}:ah) (ix (ix (zn f).aa a zi).ac c zy).Ctl.aq 5)}:Mon)) λg=>some [.agg<|zbt ({ (zn f) with aa:=g}:ad),.one<|.b true]) none) none) none)<|cond (inb a<|ln d) (cond (inb c<|ln (ix d a zi).ac) (p0 (up d a ({ (ix d a zi) with ac:=(up (ix d a zi).ac c<|zcv ({ (ix (ix (zn f).aa a zi).ac c zy) with au:=(ix (ix d a zi).ac c zy).au,ax:=(ix (ix d a zi).ac c zy).ax,av:=(ix (ix d a zi).ac c zy).av,aC:=(ix (ix d a zi).ac c zy).aC}:ah) (ix (ix (zn f).aa a zi).ac c zy).Ctl.aq 5)}:Mon)) λg=>some [.agg<|zbt ({ (zn f) with aa:=g}:ad),.one<|.b true]) none) none) none)=some (zeQ (zg1 (zhA {f with aa:=d} a (gOf f a c) 5) a c<|zgc (gOf f a c) (gOf f a c).Ctl.aq 5,true)):=by
 rw[e];refine i0 (zbr n) (br (λl=>i0 (zF i) (br (λj=>?_) λj=>?_)) λl=>?_)
 .rw [zZ2 (h:={f with aa:=d}) (m:=a) (x:=gOf f a c) (w:=5) l rfl j];refine i0 (zF i) (i0 rfl (i0 (zWk j)<|i0 (zF i)<|i0 (zN3 _)<|shr<|i0 (zF<|zfA (h:={f with aa:=d}) i) (i0 ?_ rfl)));rw[zqh (h:={f with aa:=d}) i];exact zF k
 .rw [zUj (h:={f with aa:=d}) (m:=a) (x:=gOf f a c) (w:=5) j];exact i0 (zF i) (i0 (zF k) rfl)
 .rw [zPz (h:={f with aa:=d}) (m:=a) (x:=gOf f a c) (w:=5) l];exact i0 (zF i) (i0 (zF k) rfl)
def zHu (b:ad)(a c:Int)(j:zxW b a c=true):∃N,zwS N b a c=some [aH<|zcm b a c,aB<|zcn b a c]:=by
 obtain⟨j,p⟩:=zn4 j;have k:=(zT b).1 (zM.1 j);refine⟨0,?_⟩;show _=some (zeQ<|zbz b a c);unfold zwS oN nB;conv=>zeta
 refine i0 (zbr<|(zT _).2 k) (i0 (zbr<|(zT _).2 k)<|brN (λf=>?_) λf=>?_);{rw [zjv f];rfl};obtain⟨r,d,e⟩:=zdq f;have l:=zlT k d e;have q:zL (gOf b a c)=5:=qD p;rw[zkk f,q];refine i0 (zF d) (i0 (zF e)<|i0 (zko rfl p) ?_);show _=some (zeQ (zlD b a c (gOf b a c) 5,true));refine i0 (zF d) (i0 rfl (br (λg=>i0 (zF d) (br (λi=>i0 (zF d) (i0 (zF d)<|shr ?_)) λi=>?_)) λg=>?_));{rw [zpp (z3s (h:=b) (m:=a) (x:=gOf b a c) (w:=5) rfl g i)];have n:=zqh d {ix b.aa a mZ with Own:=zI .i64 (ix b.aa a mZ).Own 1};refine zbfC l (zfA d) ?_ ?_;{show j0 c (ln (ix (up b.aa a _) a mZ).ac)=true;rw[n];exact e};{show ix (ix (up b.aa a _) a mZ).ac c gZ=_;rw[n];rfl}};{rw [zpp<|z3r (h:=b) (m:=a) (x:=gOf b a c) (w:=5) i];exact zbcb l d e};{rw [zpp<|z3q (h:=b) (m:=a) (x:=gOf b a c) (w:=5) g];exact zbcb l d e}
def zDF:vU 108 zHE:=kF3 z3T zA zb9 zfL (zq []) zHu
def zHv (a:ad)(b c:Int)(g:zxX a b c=true):∃N,zwT N a b c=some [aH<|zcm a b c,aB<|zcn a b c]:=by
 obtain⟨g,j⟩:=zn4 g;have i:=(zT a).1 (zM.1 g);refine⟨0,?_⟩;show _=some (zeQ<|zbz a b c);unfold zwT oN nB;conv=>zeta
 refine i0 (zbr<|(zT _).2 i) (i0 (zbr<|(zT _).2 i)<|brN (λf=>?_) λf=>?_);{rw [zjv f];rfl};obtain⟨p,d,e⟩:=zdq f;have n:=zlT i d e;have l:zL (gOf a b c)=6:=qD j;rw[zkk f,l];refine i0 (zF d) (i0 (zF e)<|i0 (zko rfl j) ?_);show _=some (zeQ (zlD a b c (gOf a b c) 6,true));rw[zpp<|zbei (h:=a) (m:=b) (x:=gOf a b c),zGa (w:=6) rfl];exact i0 (zbr n) (br (λk=>i0 (zF d) (i0 (zF e) rfl)) λk=>i0 (zF d) (i0 (zF e) rfl))
def zDG:vU 108 zHF:=kF3 z3U zA zb9 zfL (zq []) zHv
def zbcc {a:ad}{c d:Int}(i:SmG (gOf a c d))(f:j0 c (ln a.aa)=true)(g:j0 d (ln (ix a.aa c mZ).ac)=true) :
 (cond (zea (ix (ix (zn a).aa c zi).ac d zy) (ix (ix (zn a).aa c zi).ac d zy).Ctl.aq 7) (cond (zdB (ix (ix (zn a).aa c zi).ac d zy) (ix (ix (zn a).aa c zi).ac d zy).Ctl.aq 7) (cond (inb c<|ln (zn a).aa) (cond (inb d<|ln (ix (zn a).aa c zi).ac) (p0 (up (zn a).aa c ({ (ix (zn a).aa c zi) with ac:=(up (ix (zn a).aa c zi).ac d<|zcv (ix (ix (zn a).aa c zi).ac d zy) (ix (ix (zn a).aa c zi).ac d zy).Ctl.aq 7)}:Mon)) λe=>some [.agg<|zbt ({ (zn a) with aa:=e}:ad),.one<|.b true]) none) none)<|cond (inb c<|ln (zn a).aa) (cond (inb d<|ln (ix (zn a).aa c zi).ac) (p0 (up (zn a).aa c ({ (ix (zn a).aa c zi) with ac:=(up (ix (zn a).aa c zi).ac d<|zcv (ix (ix (zn a).aa c zi).ac d zy) (ix (ix (zn a).aa c zi).ac d zy).Ctl.aq 7)}:Mon)) λe=>some [.agg<|zbt ({ (zn a) with aa:=e}:ad),.one<|.b true]) none) none) none)=some (zeQ (zg1 a c d<|zgc (gOf a c d) (gOf a c d).Ctl.aq 7,true)):=
 i0 (zbr i) (br (λh=>i0 (zF f) (i0 (zF g) rfl)) λh=>i0 (zF f) (i0 (zF g) rfl))
def zbfD {f:ad}{d:List Mon}{a c:Int}(k:SmG (gOf f a c))(h:j0 a (ln d)=true)(i:j0 c (ln (ix d a mZ).ac)=true)(e:(ix (ix d a zi).ac c zy)=gOf f a c) :
 (cond (zea ({ (ix (ix (zn f).aa a zi).ac c zy) with au:=(ix (ix d a zi).ac c zy).au,ax:=(ix (ix d a zi).ac c zy).ax,av:=(ix (ix d a zi).ac c zy).av,aC:=(ix (ix d a zi).ac c zy).aC}:ah) (ix (ix (zn f).aa a zi).ac c zy).Ctl.aq 7) (cond (zdB ({ (ix (ix (zn f).aa a zi).ac c zy) with au:=(ix (ix d a zi).ac c zy).au,ax:=(ix (ix d a zi).ac c zy).ax,av:=(ix (ix d a zi).ac c zy).av,aC:=(ix (ix d a zi).ac c zy).aC}:ah) (ix (ix (zn f).aa a zi).ac c zy).Ctl.aq 7) (cond (inb a<|ln d) (cond (inb c<|ln (ix d a zi).ac) (p0 (up d a ({ (ix d a zi) with ac:=(up (ix d a zi).ac c<|zcv ({ (ix (ix (zn f).aa a zi).ac c zy) with au:=(ix (ix d a zi).ac c zy).au,ax:=(ix (ix d a zi).ac c zy).ax,av:=(ix (ix d a zi).ac c zy).av,aC:=(ix (ix d a zi).ac c zy).aC}:ah) (ix (ix (zn f).aa a zi).ac c zy).Ctl.aq 7)}:Mon)) λg=>some [.agg<|zbt ({ (zn f) with aa:=g}:ad),.one<|.b true]) none) none)<|cond (inb a<|ln d) (cond (inb c<|ln (ix d a zi).ac) (p0 (up d a ({ (ix d a zi) with ac:=(up (ix d a zi).ac c<|zcv ({ (ix (ix (zn f).aa a zi).ac c zy) with au:=(ix (ix d a zi).ac c zy).au,ax:=(ix (ix d a zi).ac c zy).ax,av:=(ix (ix d a zi).ac c zy).av,aC:=(ix (ix d a zi).ac c zy).aC}:ah) (ix (ix (zn f).aa a zi).ac c zy).Ctl.aq 7)}:Mon)) λg=>some [.agg<|zbt ({ (zn f) with aa:=g}:ad),.one<|.b true]) none) none) none)=some (zeQ (zg1 {f with aa:=d} a c<|zgc (gOf f a c) (gOf f a c).Ctl.aq 7,true)):=by
 rw[e];exact i0 (zbr k) (br (λj=>i0 (zF h) (i0 (zF i) rfl)) λj=>i0 (zF h) (i0 (zF i) rfl))
def zHw (b:ad)(a c:Int)(j:zxY b a c=true):∃N,zwU N b a c=some [aH<|zcm b a c,aB<|zcn b a c]:=by
 obtain⟨j,p⟩:=zn4 j;have k:=(zT b).1 (zM.1 j);refine⟨0,?_⟩;show _=some (zeQ<|zbz b a c);unfold zwU oN nB;conv=>zeta
 refine i0 (zbr<|(zT _).2 k) (i0 (zbr<|(zT _).2 k)<|brN (λf=>?_) λf=>?_);{rw [zjv f];rfl};obtain⟨r,d,e⟩:=zdq f;have l:=zlT k d e;have q:zL (gOf b a c)=7:=qD p;rw[zkk f,q];refine i0 (zF d) (i0 (zF e)<|i0 (zko rfl p) ?_);show _=some (zeQ (zlD b a c (gOf b a c) 7,true));refine i0 (zF d) (i0 rfl (br (λg=>i0 (zF d) (br (λi=>i0 (zF d) (i0 (zF d)<|shr ?_)) λi=>?_)) λg=>?_));{rw [zpp (z3s (h:=b) (m:=a) (x:=gOf b a c) (w:=7) rfl g i),zGa (w:=7) rfl];have n:=zqh d {ix b.aa a mZ with Own:=zI .i64 (ix b.aa a mZ).Own 1};refine zbfD l (zfA d) ?_ ?_;{show j0 c (ln (ix (up b.aa a _) a mZ).ac)=true;rw[n];exact e};{show ix (ix (up b.aa a _) a mZ).ac c gZ=_;rw[n];rfl}};{rw [zpp<|z3r (h:=b) (m:=a) (x:=gOf b a c) (w:=7) i,zGa (w:=7) rfl];exact zbcc l d e};{rw [zpp<|z3q (h:=b) (m:=a) (x:=gOf b a c) (w:=7) g,zGa (w:=7) rfl];exact zbcc l d e}
def zDH:vU 108 zHG:=kF3 z3V zA zb9 zfL (zq []) zHw
def zr7:LW
 |[.agg [.s (.sl .int) b,.s .mon c,.s .entry d,.s .entry e],.one<|.i .i64 f,.one<|.i .i64 g]=>some (zc4 (⟨b,c,d,e⟩:ad) f g,[aH<|zcm (⟨b,c,d,e⟩:ad) f g,aB<|zcn (⟨b,c,d,e⟩:ad) f g])
 |_=>none
def zKu:vU 108 zr7:=by refine⟨zrE.1,λw m l n g h=>?_⟩;unfold zr7 at h;split at h;{rename_i a b d f i j;obtain⟨k,rfl⟩:=zeP h;rcases zbaV (gOf (⟨a,b,d,f⟩:ad) i j) with e|e|e|e|e|e|e|e;{exact zrE.2 w _ l _ g (congrArg (λc=>some (c,zeQ<|zbz (⟨a,b,d,f⟩:ad) i j))<|zko k e)};{exact zDB.2 w _ l _ g (congrArg (λc=>some (c,zeQ<|zbz (⟨a,b,d,f⟩:ad) i j))<|zko k e)};{exact zDC.2 w _ l _ g (congrArg (λc=>some (c,zeQ<|zbz (⟨a,b,d,f⟩:ad) i j))<|zko k e)};{exact zDD.2 w _ l _ g (congrArg (λc=>some (c,zeQ<|zbz (⟨a,b,d,f⟩:ad) i j))<|zko k e)};{exact zDE.2 w _ l _ g (congrArg (λc=>some (c,zeQ<|zbz (⟨a,b,d,f⟩:ad) i j))<|zko k e)};{exact zDF.2 w _ l _ g (congrArg (λc=>some (c,zeQ<|zbz (⟨a,b,d,f⟩:ad) i j))<|zko k e)};{exact zDG.2 w _ l _ g (congrArg (λc=>some (c,zeQ<|zbz (⟨a,b,d,f⟩:ad) i j))<|zko k e)};{exact zDH.2 w _ l _ g (congrArg (λc=>some (c,zeQ<|zbz (⟨a,b,d,f⟩:ad) i j))<|zko k e)}};{cases h}
@[simp] abbrev zBt (h:ad)(m g b a:Int)(c:Bool):Bool:=pc (zdx h)
@[simp] abbrev zBq (h:ad)(m g b a:Int)(c:Bool):ad:=(lookOf h (zuP h c) m g b a c).1
@[simp] abbrev zBr (h:ad)(m g b a:Int)(c:Bool):Int:=(lookOf h (zuP h c) m g b a c).2.1
@[simp] abbrev zBs (h:ad)(m g b a:Int)(c:Bool):Bool:=(lookOf h (zuP h c) m g b a c).2.2
def zFM:Run:=rF6 dH dI dI dI dI dB λb c d e f g=>(zBt b c d e f g,[aH<|zBq b c d e f g,aI<|zBr b c d e f g,aB<|zBs b c d e f g])
abbrev zWy (b:lM)(c:lN)(d:lE)(e:lE)(a:Int)(g:Int)(f:Int):Mon :=
 (ix (zhN (⟨b,c,d,e⟩:ad) a g f).aa a zi)
def ztP (N:Nat)(d:Int)(e:Int)(b:Int)(f:Int)(g:lM)(h:lN)(c:lE)(a:lE):OA:=
 let i:=(⟨e,d,b,f⟩:ar); (oN (zhJ a i)<|some [aH (⟨g,h,c,zhs a i⟩:ad),aI b,aB true])
def zvv (N:Nat)(d:lM)(e:lN)(f:lE)(g:lE)(b:Int)(i:Int)(h:Int)(a:Int)(c:Int)(s:(Int×Int×Int×Int×lM×lN×lE×lE×lM×lN×lE×lE×Unit)->OA)(k:Int)(l:lM)(m:lN)(n:lE)(p:lE):OA:=
 let x:=(⟨d,e,f,g⟩:ad);let r:=zhN x b i h;let j:=zWy d e f g b i h;let w:=ix j.am a ze0;let u:=(ix j.ac a zy).av; (oN (zki x b i h)<|oN (inb b<|ln r.aa)<|oN (inb a<|ln j.am)<|oN (inb a<|ln j.ac)<|oN (zwt w u j.ae c)<|oN (inb a<|ln j.am)<|p0 (up r.aa b ({j with am:=(up j.am a<|zwr w u j.ae c)}:Mon)) (λq=>let v:=(ix q b zi).am;let t:=ix v a ze0; (oN (inb a<|ln v)<|oN (zzC t c)<|s (c,k,(zjs t c).af,(zjs t c).aj,l,m,n,p,r.ag,q,r.ao,r.ak,()))))
def zpK (N:Nat)(a:lN)(g:Int)(h:Int)(b:Int)(c:lM)(d:lE)(e:lE)(p:Int)(f:Int)(n:(Int×Int×Int×Int×lM×lN×lE×lE×lM×lN×lE×lE×Unit)->OA)(i:Int)(j:lM)(k:lN)(l:lE)(m:lE):OA:=
 let r:=zvv N c a d e g p f h b n i j k l m;let s:=ix (ix a g zi).am h ze0;let q:=zjs s b; (cond (nB<|zpC s b) r<|cond (ieq q.af<|-1) r<|oN (zbH q.aj f)<|cond (nB<|zda q.aj f) r<|n (b,i,q.af,q.aj,j,k,l,m,c,a,d,e,()))
def ztQ (N:Nat)(c:Int)(d:Int)(e:Int)(i:Int)(j:Int)(k:Int)(l:lM)(m:lN)(n:lE)(p:lE)(f:lM)(b:lN)(g:lE)(h:lE):OA:=
 let r:=(ix b c zi).am; (oN (inb c<|ln b)<|oN (inb d<|ln r)<|oN (zzC (ix r d ze0) e)<|p0 (λ(a:(Int×Int×Int×Int×lM×lN×lE×lE×lM×lN×lE×lE×Unit))=>ztP N a.1 a.2.1 a.2.2.1 a.2.2.2.1 a.2.2.2.2.2.2.2.2.1 a.2.2.2.2.2.2.2.2.2.1 a.2.2.2.2.2.2.2.2.2.2.1 a.2.2.2.2.2.2.2.2.2.2.2.1) λq=>zpK N b c d e f g h j i q k l m n p)
def ztR (N:Nat)(d:Int)(e:Int)(b:Int)(f:Int)(g:lM)(h:lN)(a:lE)(c:lE):OA:=
 let i:=(⟨e,d,b,f⟩:ar); (oN (zhJ a i)<|some [aH (⟨g,h,zhs a i,c⟩:ad),aI b,aB true])
def ztS (N:Nat)(c:Int)(d:Int)(e:Int)(i:Int)(j:Int)(k:Int)(l:lM)(m:lN)(n:lE)(p:lE)(f:lM)(b:lN)(g:lE)(h:lE):OA:=
 let r:=(ix b c zi).am; (oN (inb c<|ln b)<|oN (inb d<|ln r)<|oN (zzC (ix r d ze0) e)<|p0 (λ(a:(Int×Int×Int×Int×lM×lN×lE×lE×lM×lN×lE×lE×Unit))=>ztR N a.1 a.2.1 a.2.2.1 a.2.2.2.1 a.2.2.2.2.2.2.2.2.1 a.2.2.2.2.2.2.2.2.2.1 a.2.2.2.2.2.2.2.2.2.2.1 a.2.2.2.2.2.2.2.2.2.2.2.1) λq=>zpK N b c d e f g h j i q k l m n p)
def ztT (N:Nat)(f:Int)(g:Int)(c:Int)(e:Int)(r:Bool)(j:Int)(k:lM)(l:lN)(m:lE)(n:lE)(h:lM)(i:lN)(a:lE)(b:lE):OA:=
 let u:=aH (⟨h,i,a,b⟩:ad);let p:=zl7 f g;let t:=zgY a p c;let s:=zgY b p c; (cond r (oN (ziA f g)<|p0 (λ(d:(Int×Int×Int×Int×Int×Int×lM×lN×lE×lE×lM×lN×lE×lE×Unit))=>ztQ N d.1 d.2.1 d.2.2.1 d.2.2.2.1 d.2.2.2.2.1 d.2.2.2.2.2.1 d.2.2.2.2.2.2.1 d.2.2.2.2.2.2.2.1 d.2.2.2.2.2.2.2.2.1 d.2.2.2.2.2.2.2.2.2.1 d.2.2.2.2.2.2.2.2.2.2.1 d.2.2.2.2.2.2.2.2.2.2.2.1 d.2.2.2.2.2.2.2.2.2.2.2.2.1 d.2.2.2.2.2.2.2.2.2.2.2.2.2.1) λq=>oN (zh6 b p c)<|cond (zfW b p c) (oN (zbH s.aj e)<|cond (zda s.aj e) (some [u,aI s.ad,aB true])<|q (f,g,c,e,j,p,k,l,m,n,h,i,a,b,()))<|q (f,g,c,e,j,p,k,l,m,n,h,i,a,b,()))<|oN (ziA f g)<|p0 (λ(d:(Int×Int×Int×Int×Int×Int×lM×lN×lE×lE×lM×lN×lE×lE×Unit))=>ztS N d.1 d.2.1 d.2.2.1 d.2.2.2.1 d.2.2.2.2.1 d.2.2.2.2.2.1 d.2.2.2.2.2.2.1 d.2.2.2.2.2.2.2.1 d.2.2.2.2.2.2.2.2.1 d.2.2.2.2.2.2.2.2.2.1 d.2.2.2.2.2.2.2.2.2.2.1 d.2.2.2.2.2.2.2.2.2.2.2.1 d.2.2.2.2.2.2.2.2.2.2.2.2.1 d.2.2.2.2.2.2.2.2.2.2.2.2.2.1) λq=>oN (zh6 a p c)<|cond (zfW a p c) (oN (zbH t.aj e)<|cond (zda t.aj e) (some [u,aI t.ad,aB true])<|q (f,g,c,e,j,p,k,l,m,n,h,i,a,b,()))<|q (f,g,c,e,j,p,k,l,m,n,h,i,a,b,()))
def ztU (N:Nat)(c:Int)(i:Int)(d:Int)(b:Int)(m:Bool)(n:lM)(p:lN)(j:lE)(k:lE)(e:lM)(a:lN)(f:lE)(g:lE)(l:lG):OA:=
 let s:=ix a c zi;let r:=(ix l i zy).av;let q:=zeF r d b; (oN (inb i<|ln l)<|oN (zfT r d b)<|cond (nB<|zdR r d b) (some [aH (⟨e,a,f,g⟩:ad),aI<|-1,aB false])<|p0 (λ(h:(Int×Int×Int×Int×Bool×Int×lM×lN×lE×lE×lM×lN×lE×lE×Unit))=>ztT N h.1 h.2.1 h.2.2.1 h.2.2.2.1 h.2.2.2.2.1 h.2.2.2.2.2.1 h.2.2.2.2.2.2.1 h.2.2.2.2.2.2.2.1 h.2.2.2.2.2.2.2.2.1 h.2.2.2.2.2.2.2.2.2.1 h.2.2.2.2.2.2.2.2.2.2.1 h.2.2.2.2.2.2.2.2.2.2.2.1 h.2.2.2.2.2.2.2.2.2.2.2.2.1 h.2.2.2.2.2.2.2.2.2.2.2.2.2.1) λt=>cond (ieq b 2) (oN (inb c<|ln a)<|oN (inb q<|ln s.aw)<|p0 (up a c ({s with aw:=(up s.aw q true)}:Mon)) λu=>t (c,i,d,b,m,q,n,p,j,k,e,u,f,g,()))<|t (c,i,d,b,m,q,n,p,j,k,e,a,f,g,()))
def zLZ (N:Nat)(d:ad)(e f:Int)(h g:Int)(i:Bool):OA:=
 let c:=zn d;let a:=zcT d e; (oN (zbn d)<|oN (zfG d e)<|p0 (λ(b:(Int×Int×Int×Int×Bool×Int×Int×Int×lM×lN×lE×lE×lM×lN×lE×lE×lS×lM×lB×lG×LI×lK×Unit))=>ztU N b.1 b.2.1 b.2.2.1 b.2.2.2.1 b.2.2.2.2.1 b.2.2.2.2.2.2.2.2.1 b.2.2.2.2.2.2.2.2.2.1 b.2.2.2.2.2.2.2.2.2.2.1 b.2.2.2.2.2.2.2.2.2.2.2.1 b.2.2.2.2.2.2.2.2.2.2.2.2.1 b.2.2.2.2.2.2.2.2.2.2.2.2.2.1 b.2.2.2.2.2.2.2.2.2.2.2.2.2.2.1 b.2.2.2.2.2.2.2.2.2.2.2.2.2.2.2.1 b.2.2.2.2.2.2.2.2.2.2.2.2.2.2.2.2.2.2.2.1) λj=>oN (zeC d)<|cond (nB<|zeB d) (some [aH c,aI<|-1,aB false])<|cond (nB<|zmF d e) (some [aH c,aI<|-1,aB false])<|oN (zbH f<|ln a.ac)<|cond (nB<|zdG f<|ln a.ac) (some [aH c,aI<|-1,aB false])<|cond (ine g 1) (cond (ine g 2) (some [aH c,aI<|-1,aB false])<|j (e,f,h,g,i,a.an,a.aq,a.Own,[],[],[],[],c.ag,c.aa,c.ao,c.ak,a.ae,a.Out,a.aw,a.ac,a.Outs,a.am,()))<|j (e,f,h,g,i,a.an,a.aq,a.Own,[],[],[],[],c.ag,c.aa,c.ao,c.ak,a.ae,a.Out,a.aw,a.ac,a.Outs,a.am,()))
def z0a:=zq [(398,999999,{n:=0,tm:=[],lo:=[],ro:=[]}),(398,1007055,{n:=200,tm:=[(1,ti),(2,ti),(3,ti),(4,ti),(5,.b),(12,.lp 0 0),(15,.lp 1 0),(16,.lp 2 0)],lo:=[(0,[.sl 0 [],.sl 1 [],.sl 2 [],.sl 3 []]),(1,[.sl 4 [],.sl 5 [],.sl 6 [],.sl 7 []]),(2,[.sl 8 [],.sl 9 [],.sl 10 [],.sl 11 [],.sl 12 [],ti,ti,.sl 13 [],ti])],ro:=[(0,.sl .int,true),(1,.mon,true),(2,.entry,true),(3,.entry,true),(4,.sl .int,true),(5,.mon,true),(6,.entry,true),(7,.entry,true),(8,.slot,true),(9,.sl .int,true),(10,.bool,true),(11,.guest,true),(12,.int,true),(13,.kept,true)]}),(398,1005039,{n:=200,tm:=[(1,ti),(2,ti),(3,ti),(4,ti),(5,.b),(12,.lp 0 0),(15,.lp 1 0),(18,ti)],lo:=[(0,[.sl 0 [],.sl 1 [],.sl 2 [],.sl 3 []]),(1,[.sl 4 [],.sl 5 [],.sl 6 [],.sl 7 []])],ro:=[(0,.sl .int,true),(1,.mon,true),(2,.entry,true),(3,.entry,true),(4,.sl .int,true),(5,.mon,true),(6,.entry,true),(7,.entry,true)]}),(398,1009019,{n:=200,tm:=[(1,ti),(2,ti),(3,ti),(4,ti),(12,.lp 0 0),(15,.lp 1 0),(18,ti),(20,.lp 1 3),(21,ti)],lo:=[(0,[.sl 0 [],.sl 1 [],.sl 2 [],.sl 3 []]),(1,[.sl 4 [],.sl 5 [],.sl 6 [],.sl 7 []])],ro:=[(0,.sl .int,true),(1,.mon,true),(2,.entry,true),(3,.entry,true),(4,.sl .int,true),(5,.mon,true),(6,.entry,true),(7,.entry,true)]}),(398,1011005,{n:=200,tm:=[(3,ti),(12,.lp 0 0),(15,.lp 1 0),(20,.lp 1 3),(21,ti),(24,.lp 2 0)],lo:=[(0,[.sl 0 [],.sl 1 [],.sl 2 [],.sl 3 []]),(1,[.sl 4 [],.sl 5 [],.sl 6 [],.sl 7 []]),(2,[ti,ti])],ro:=[(0,.sl .int,true),(1,.mon,true),(2,.entry,true),(3,.entry,true),(4,.sl .int,true),(5,.mon,true),(6,.entry,true),(7,.entry,true)]}),(398,1001009019,{n:=200,tm:=[(1,ti),(2,ti),(3,ti),(4,ti),(12,.lp 0 0),(15,.lp 1 0),(18,ti),(20,.lp 1 2),(21,ti)],lo:=[(0,[.sl 0 [],.sl 1 [],.sl 2 [],.sl 3 []]),(1,[.sl 4 [],.sl 5 [],.sl 6 [],.sl 7 []])],ro:=[(0,.sl .int,true),(1,.mon,true),(2,.entry,true),(3,.entry,true),(4,.sl .int,true),(5,.mon,true),(6,.entry,true),(7,.entry,true)]}),(398,1001011005,{n:=200,tm:=[(3,ti),(12,.lp 0 0),(15,.lp 1 0),(20,.lp 1 2),(21,ti),(24,.lp 2 0)],lo:=[(0,[.sl 0 [],.sl 1 [],.sl 2 [],.sl 3 []]),(1,[.sl 4 [],.sl 5 [],.sl 6 [],.sl 7 []]),(2,[ti,ti])],ro:=[(0,.sl .int,true),(1,.mon,true),(2,.entry,true),(3,.entry,true),(4,.sl .int,true),(5,.mon,true),(6,.entry,true),(7,.entry,true)]})]
def zbcf {N:Nat}{r:ad}{m g a:Int}(b:r.ak.length<=1048576) :
 ztP N a (zeD m g) (zew (zce r m g) a).af (zew (zce r m g) a).aj r.ag r.aa r.ao r.ak=some (zlo<|zfv r m g a true):=by
 unfold ztP oN
 conv=>zeta
 exact i0 (zbr b) rfl
def zbch {N:Nat}{r:ad}{m g a:Int}(b:r.ao.length<=1048576) :
 ztR N a (zeD m g) (zew (zce r m g) a).af (zew (zce r m g) a).aj r.ag r.aa r.ao r.ak=some (zlo<|zfv r m g a false):=by
 unfold ztR oN
 conv=>zeta
 exact i0 (zbr b) rfl
def z9Z {N:Nat}{r:ad}{m g a b q:Int}{R:OA}{r10}{u5 u6 u7 u8 u9}(A:LookAt r m g q b)(c:r10 (a,u5,(zew (zce (zcI (A0 r m q b) m g a) m g) a).af,(zew (zce (zcI (A0 r m q b) m g a) m g) a).aj,u6,u7,u8,u9,(zcI (A0 r m q b) m g a).ag,(zcI (A0 r m q b) m g a).aa,(zcI (A0 r m q b) m g a).ao,(zcI (A0 r m q b) m g a).ak,())=R) :
 zvv N r.ag r.aa r.ao r.ak m q b g a r10 u5 u6 u7 u8 u9=R:=by
 have M:=znw A.kp A.hm A.hg;have F:=znw (A.fill a) A.hm A.hg;unfold zvv oN
 conv=>zeta
 exact i0 (zbr A.mend) (i0 (zF M.hm)<|i0 (zF M.ht)<|i0 (zF M.hg)<|i0 (zbr M.hk)<|i0 (zF M.ht)<|shr<|i0 (zF F.ht) (i0 rfl c))
def lk_3 {N:Nat}{r:ad}{m g a b q:Int}{c:Bool}{r10}{u5 u6 u7 u8 u9}(A:LookAt r m g q b)(h:r10 (a,u5,(zew (zce (zcI (A0 r m q b) m g a) m g) a).af,(zew (zce (zcI (A0 r m q b) m g a) m g) a).aj,u6,u7,u8,u9,(zcI (A0 r m q b) m g a).ag,(zcI (A0 r m q b) m g a).aa,(zcI (A0 r m q b) m g a).ao,(zcI (A0 r m q b) m g a).ak,())=some (zlo<|zfv (zcI (A0 r m q b) m g a) m g a c))(i:r10 (a,u5,(zew (zce r m g) a).af,(zew (zce r m g) a).aj,u6,u7,u8,u9,r.ag,r.aa,r.ao,r.ak,())=some (zlo<|zfv r m g a c)) :
 zpK N r.aa m g a r.ag r.ao r.ak q b r10 u5 u6 u7 u8 u9=some (zlo<|cond (zfi r m g a b) (zfv (zcI (A0 r m q b) m g a) m g a c)<|zfv r m g a c):=by
 unfold zpK oN nB
 conv=>zeta
 refine brN (λd=>?_) (λd=>br (λe=>?_) λe=>i0 rfl (brN (λf=>?_) λf=>?_))
 .rw [zvp<|z3j d];exact z9Z A h
 .rw [zvp<|z3k e];exact z9Z A h
 .rw [zvp<|z3l f];exact z9Z A h
 .rw [z2H<|z3m d e f];exact i
def zbcg {N:Nat}{r:ad}{m g a b q:Int}{u6 u7 u8 u9}(A:LookAt r m g q b) :
 ztQ N m g a b q (zeD m g) u6 u7 u8 u9 r.ag r.aa r.ao r.ak=some (zlo<|cond (zfi r m g a b) (zfv (zcI (A0 r m q b) m g a) m g a true)<|zfv r m g a true):=by
 have M:=znw ⟨A.fit.1,rfl⟩ A.hm A.hg;have F:=znw (A.fill a) A.hm A.hg;unfold ztQ oN
 conv=>zeta
 exact i0 (zF M.hm) (i0 (zF M.ht) (i0 rfl (shr<|lk_3 A (zbcf (r:=zcI (A0 r m q b) m g a) (m:=m) (g:=g) F.hi)<|zbcf (r:=r) (m:=m) (g:=g) M.hi)))
def zbci {N:Nat}{r:ad}{m g a b q:Int}{u6 u7 u8 u9}(A:LookAt r m g q b) :
 ztS N m g a b q (zeD m g) u6 u7 u8 u9 r.ag r.aa r.ao r.ak=some (zlo<|cond (zfi r m g a b) (zfv (zcI (A0 r m q b) m g a) m g a false)<|zfv r m g a false):=by
 have M:=znw ⟨A.fit.1,rfl⟩ A.hm A.hg;have F:=znw (A.fill a) A.hm A.hg;unfold ztS oN
 conv=>zeta
 exact i0 (zF M.hm) (i0 (zF M.ht) (i0 rfl (shr<|lk_3 A (zbch (r:=zcI (A0 r m q b) m g a) (m:=m) (g:=g) F.hb)<|zbch (r:=r) (m:=m) (g:=g) M.hb)))
def zbcj {N:Nat}{r:ad}{m g b a q:Int}{e:Bool}{u6 u7 u8 u9}(A:LookAt r m g q a) :
 ztT N m g b a e q u6 u7 u8 u9 r.ag r.aa r.ao r.ak=some (zlo<|zhm r (zuP r e) m g b a q e):=by
 unfold ztT oN
 conv=>zeta
 cases e
 .show _=some (zlo<|zhm r r.ao m g b a q false)
  refine zcB rfl (i0 rfl (shr (i0 rfl (br (λc=>i0 rfl (br (λd=>?_) λd=>?_)) λc=>?_))))
  .rw [zGy<|zpu c d];rfl
  .rw [zpy<|zpu c d];exact zbci A
  .rw [zpy<|zGv c];exact zbci A
 .show _=some (zlo<|zhm r r.ak m g b a q true)
  refine i0 rfl (i0 rfl (shr (i0 rfl (br (λc=>i0 rfl (br (λd=>?_) λd=>?_)) λc=>?_))))
  .rw [zGy<|zpu c d];rfl
  .rw [zpy<|zpu c d];exact zbcg A
  .rw [zpy<|zGv c];exact zbcg A
def zbfu (r:ad)(m q:Int)(a:Bool):zuP (zbO r m q) a=zuP r a:=by cases a<;>rfl
def zbck {N:Nat}{r:ad}{m g b a:Int}{c:Bool}{z1 z2 z3 z4}(k:SmH r)(hg:zbW r m g=true)(h:zg4 a=true) :
 ztU N m g b a c z1 z2 z3 z4 r.ag r.aa r.ao r.ak (ix r.aa m mZ).ac=some (zlo (lookOf r (zuP r c) m g b a c)):=by
 obtain⟨l,f,i⟩:=zdq hg;unfold ztU oN nB
 conv=>zeta
 refine i0 (zF i) (i0 rfl (brN (fun e=>?_) (fun e=>?_)))
 .have:zb8 r m g b a=false:=by
   unfold zb8;rw[hg,h,show zfk (zcG r m g) b a=false from e];rfl
  rw[ziN this];rfl
 .have hl:zb8 r m g b a=true:=by
   unfold zb8;rw[hg,h,show zfk (zcG r m g) b a=true from e];rfl
  obtain⟨A,B⟩:=zFy k hl;rw[zK8 hl];have j:j0 (zct (zcG r m g) b a) (ln (ix r.aa m mZ).aw)=true:=zee (zcO A.fit.1 f).2.2.2.1 A.hq;refine shr (br (fun d=>?_) (fun d=>?_))
  .rw [d]
   show _=some (zlo (zhm (zbO r m (zct (zcG r m g) b a)) (zuP r c) m g b a (zct (zcG r m g) b a) c))
   rw[<- zbfu r m (zct (zcG r m g) b a) c];exact i0 (zF f) (i0 (zF j) (shr (zbcj (r:=zbO r m (zct (zcG r m g) b a)) B)))
  .rw [d];exact zbcj A
def zYh (a:ad)(b d:Int)(e c:Int)(f:Bool)(s:zBt a b d e c f=true):∃N,zLZ N a b d e c f=some [aH<|zBq a b d e c f,aI<|zBr a b d e c f,aB<|zBs a b d e c f]:=by
 have i:=(zT a).1 (zM.1 s);refine⟨0,?_⟩;show _=some (zlo<|lookOf a (zuP a f) b d e c f);unfold zLZ oN nB;conv=>zeta
 refine i0 (zbr<|(zT _).2 i) (i0 (zbr<|(zT _).2 i)<|shr (i0 rfl (brN (λj=>?_) λj=>?_)));{rw [ziN<|zpz<|zQh j];rfl};refine brN (λg=>?_) (λg=>?_);{rw [ziN<|zpz<|zQi g];rfl};have q:zcT a b=ix a.aa b mZ:=(by unfold zcT;rw[show j0 b (ln a.aa)=true from g];rfl);rw[q];refine i0 rfl (brN (λk=>?_) λk=>?_);{rw [ziN<|zpz<|zQj k];rfl};have hg:=zQk j g k;have m:∀{n:Int},zg4 n=false->zb8 a b d e n=false:=λ{n} h=>(by unfold zb8;rw[hg,h];rfl);rw[zl1,zl1];cases l:ieq c 1;{cases p:ieq c 2;{have:zg4 c=false:=(by unfold zg4;rw[l,p];rfl);rw[ziN<|m this];rfl};{exact zbck (r:=a) i hg (by unfold zg4;rw[l,p];rfl)}};{exact zbck (r:=a) i hg (by unfold zg4;rw[l];rfl)}
def zQL:vU 398 zFM:=kF6 ziU zA zb9 zfL z0a zYh
def zbbX:zZ:=[(398,zFM),(108,zr7)]++zoE
def zXe:zS zbbX:=zh zQL (zh zKu ziU)
@[simp] abbrev zBp (h:ad)(m g b a:Int):Bool:=pc (zdx h)
@[simp] abbrev zuR (h:ad)(m g page need:Int):ad:=(lookOf h h.ao m g page need false).1
@[simp] abbrev zuS (h:ad)(m g page need:Int):Int:=(lookOf h h.ao m g page need false).2.1
@[simp] abbrev zBo (h:ad)(m g b a:Int):Bool:=(lookOf h h.ao m g b a false).2.2
def zFL:Run:=rF5 dH dI dI dI dI λb c d e f=>(zBp b c d e f,[aH<|zuR b c d e f,aI<|zuS b c d e f,aB<|zBo b c d e f])
def zLO (N:Nat)(a:ad)(b c:Int)(d e:Int):OA:=
 (oN (zBt a b c d e false)<|some [aH<|zBq a b c d e false,aI<|zBr a b c d e false,aB<|zBs a b c d e false])
def zX6 (a:ad)(b c:Int)(d e:Int)(f:zBp a b c d e=true):∃N,zLO N a b c d e=some [aH<|zuR a b c d e,aI<|zuS a b c d e,aB<|zBo a b c d e]:=by refine⟨0,?_⟩;unfold zLO oN;exact i0 f rfl
def zQv:vU 246 zFL:=kF5 zXe zA zb9 zfL (zq []) zX6
def zbbY:zZ:=[(246,zFL)]++zbbX
def z9C:zS zbbY:=zh zQv zXe
def brought (n a b:Int):Int:=bif ilt n a then a else (cond (ilt b a) a<|zFd n b)
@[simp] abbrev zis (_ _ _:Int):Bool:=true
@[simp] abbrev zgS (n a b:Int):Int:=brought n a b
def zgV:Run:=rF3 dI dI dI λb c d=>(zis b c d,[aI<|zgS b c d])
def zHP (N:Nat)(b a c:Int):OA:=
 (cond (ilt b a) (some [aI a])<|cond (ilt c a) (some [aI a])<|some [aI<|zFd b c])
def zUY (a b c:Int)(d:zis a b c=true):∃N,zHP N a b c=some [aI<|zgS a b c]:=by refine⟨0,?_⟩;unfold zHP;refine br (λ_=>?_) (λ_=>br (λ_=>?_) λ_=>?_);all_goals first|rfl|(simp only [*,zgS,brought,cT,cF]<;>rfl)|simp_all[Ty.cells,zgS,brought]
def zp4:vU 103 zgV:=kF3 ziS zA zu zl (zq []) zUY
def zH5 (N:Nat)(b a c:Int):OA:=
 (cond (ilt c a) (some [aI a])<|cond (ilt b a) (some [aI a])<|cond (igt b c) (some [aI c])<|some [aI b])
def zVd (a b c:Int)(g:zis a b c=true):∃N,zH5 N a b c=some [aI<|zgS a b c]:=by refine⟨0,?_⟩;unfold zH5;unfold zgS brought zFd;cases d:ilt c b<;>cases e:ilt a b<;>cases f:igt a c<;>simp [igt] at * <;> omega
def zp5:vU 110 zgV:=kF3 ziS zA zu zl (zq []) zVd
def zEC (n:Int):0<=brought n 0 40/\brought n 0 40<=40:=by unfold brought;cases a:ilt n 0;{have a:=jQ a;simp only[cF,show ilt 40 0=false from rfl,zFd];split<;>omega};{simp}
@[simp] abbrev zem (l:List ai):Bool:=pc (zpP l)
@[simp] abbrev zj4 (l:List ai):List ai:=l
def zml:Run:=rF1 (dS .bare) λb=>(zem b,[aS .bare<|zj4 b])
def zCi (N:Nat)(c:lR):OA:=
 (r0 (σ:=(Int×Int×lR×lR×Unit)) N (λd a=>let b:=ix a.2.2.2.1 a.2.1 zd6; (cond (ilt a.2.1 a.1) (oN (inb a.2.1<|ln a.2.2.2.1)<|oN (zbV b)<|oN (few<|ln<|ap a.2.2.1 [zbk b])<|d (a.1,zI .i64 a.2.1 1,ap a.2.2.1 [zbk b],a.2.2.2.1,()))<|some [aS .bare a.2.2.1])) (ln c,0,[],c,()))
def zPG:=zq [(104,0,{n:=20,tm:=[(3,.sl 0 []),(7,.sl 1 []),(8,ti),(9,ti)],lo:=[],ro:=[(0,.bare,true),(1,.bare,false)]})]
def zOg (a:List ai)(g:zem a=true):∃N,zCi N a=some [aS .bare<|zj4 a]:=by
 have f:=zM.1 g;have e:=zcc f.1;refine zb2 λN d=>?_;unfold zCi oN;conv=>zeta
 refine(zbl a (λi (t:lR)=>(ln a,(i:Int),t,a,())) _ (λ_ x b j=>bif zbV x then (cond (few<|ln<|ap b [zbk x]) (j<|ap b [zbk x]) none) else none) (λ(t:lR)=>some [.one<|.s .bare t]) (λi c t rec=>?_) (λt rec=>?_) _ ([])<|d e.1).trans ?_;{simp only [zbo c,zX c,zbh c,zY c e.1,cT]};{simp only [zbj,cF]};exact ziR zbV zbk _ a 0 [] (λx h=>⟨zbg<|f.2 x h,rfl⟩) (by simpa using e.2)
def zGR:vU 104 zml:=kF1 ziS zA zu zl zPG zOg
def zEt (N:Nat)(c:lR):OA:=
 (r0 (σ:=(Int×lR×lR×Unit)) N (λd a=>let b:=ix a.2.1 a.1 zd6; (cond (ilt a.1<|ln a.2.1) (oN (inb a.1<|ln a.2.1)<|oN (zbV b)<|oN (few<|ln<|ap a.2.2.1 [zbk b])<|d (zI .i64 a.1 1,a.2.1,ap a.2.2.1 [zbk b],()))<|some [aS .bare a.2.2.1])) (0,c,[],()))
def zSL:=zq [(112,0,{n:=21,tm:=[(0,.sl 0 []),(3,.sl 1 []),(4,ti)],lo:=[],ro:=[(0,.bare,false),(1,.bare,true)]})]
def zR5 (a:List ai)(g:zem a=true):∃N,zEt N a=some [aS .bare<|zj4 a]:=by
 have f:=zM.1 g;have e:=zcc f.1;refine zb2 λN d=>?_;unfold zEt oN;conv=>zeta
 refine(zbl a (λi (t:lR)=>((i:Int),a,t,())) _ (λ_ x b j=>bif zbV x then (cond (few<|ln<|ap b [zbk x]) (j<|ap b [zbk x]) none) else none) (λ(t:lR)=>some [.one<|.s .bare t]) (λi c t rec=>?_) (λt rec=>?_) _ ([])<|d e.1).trans ?_;{simp only [zbo c,zX c,zbh c,zY c e.1,cT]};{simp only [zbj,cF]};exact ziR zbV zbk _ a 0 [] (λx h=>⟨zbg<|f.2 x h,rfl⟩) (by simpa using e.2)
def zKM:vU 112 zml:=kF1 ziS zA zu zl zSL zR5
def zbbT:zZ:=[(111,zhb),(113,zhb),(104,zml),(112,zml),(103,zgV),(110,zgV)]++zWh
def zJP:zS zbbT:=zh zo8 (zh zvU<|zh zGR<|zh zKM<|zh zp4<|zh zp5 ziS)
def rb:Nat->Nat->ai->Int->ai×Int
 | 0,_,b,c=>(b,c)
 |m+1,j,b,c=>rb m (j+1) (zdj b (j:Int)) (cond (zen b (j:Int)) (zI .i64 c 1) c)
def zPl:∀(m j:Nat) (b:ai) (c:Int),SmB b->SmB (rb m j b c).1
 | 0,_,_,_,h=>h
 |m+1,j,b,c,h=>zPl m (j+1) _ _ (zLt h)
def rnd:List ai->Int->List ai×Int
 |[],c=>([],c)
 |b::l,c=>((rb b.ac.length 0 b c).1::(rnd l (rb b.ac.length 0 b c).2).1,(rnd l (rb b.ac.length 0 b c).2).2)
def z2V:∀(l:List ai) (c:Int),(rnd l c).1.length=l.length
 |[],_=>rfl
 |b::l,c=>by simp[rnd,z2V l]
def z3d:∀(l:List ai) (c:Int),(∀b∈l,SmB b)->∀b∈(rnd l c).1,SmB b
 |[],_,_,b,a=>by cases a
 |x::l,c,h,b,a=>by simp only[rnd,qG]at a;rcases a with rfl|a;{exact zPl _ _ _ _ (h x (by simp))};{exact z3d l _ (λy d=>h y (by simp[d])) b a}
def zbaF {l:List ai}(h:zpP l)(c:Int):zpP (rnd l c).1:=⟨by rw[z2V];exact h.1,z3d l c h.2⟩
structure RI (a:List ai) (i:Nat) (l:List ai):Prop where
 len:l.length=a.length
 sm:zpP l
 eq:∀k,i<=k->l[k]?=a[k]?
def RI.up {a l:List ai}{i:Nat}(h:RI a i l)(x:ai)(b:SmB x):RI a (i+1) (up l (i:Int) x):=
 ⟨by rw[zid];exact h.len,zbec h.sm b,λk c=>by rw[zbeQ (by omega)];exact h.eq k (by omega)⟩
structure RJ (l:List ai) (i:Nat) (l':List ai):Prop where
 len:l'.length=l.length
 sm:SmB (ix l' (i:Int) zd6)
 up:∀x,E.up l' (i:Int) x=E.up l (i:Int) x
def RJ.next {l a:List ai}{i:Nat}(h:RJ l i a)(b:i<l.length)(x:ai)(c:SmB x):RJ l i (E.up a (i:Int) x):=
 ⟨by rw[zid];exact h.len,by rw[zev (by rw[h.len];exact b)];exact c,λy=>by rw[zx8];exact h.up y⟩
def zBL (l:List ai)(i:Nat)(c:Int):OA:=some [AV.one<|.s .bare<|l.take i++(rnd (l.drop i) c).1,AV.one<|.i .i64 (rnd (l.drop i) c).2]
def zZj (l:List ai)(c:Int):zBL l l.length c=some [AV.one<|.s .bare l,AV.one<|.i .i64 c]:=by unfold zBL;simp[rnd]
def zT6 {l:List ai}{i:Nat}(a:i<l.length)(c:Int) :
 zBL (up l (i:Int) (rb l[i].ac.length 0 l[i] c).1) (i+1) (rb l[i].ac.length 0 l[i] c).2=zBL l i c:=by
 unfold zBL;rw[zbeh a,zbdv,kD a];simp[rnd]
@[simp] abbrev zgR (l:List ai):List ai:=(rnd l 0).1
@[simp] abbrev zjm (l:List ai):Int:=(rnd l 0).2
def zhT:Run:=rF1 (dS .bare) λb=>(zem b,[aS .bare<|zgR b,aI<|zjm b])
def zCb (N:Nat)(e:lR):OA:=
 (oN (zem e)<|r0 (σ:=(Int×Int×Int×lR×lR×Unit)) N (λj b=>cond (ilt b.2.2.1 b.2.1) (oN (inb b.2.2.1<|ln b.2.2.2.1)<|r0 (σ:=(Int×Int×Int×Int×Int×Int×lR×lR×Unit)) N (λh a=>let b:=a.2.2.2.2;let g:=b.2.2.1;let c:=b.2.1;let d:=b.2.2.2.1;let f:=ix d a.2.1 zd6; (cond (ilt c b.1) (oN (inb a.2.1<|ln d)<|oN (zc3 f c)<|oN (inb a.2.1<|ln d)<|p0 (up d a.2.1<|ze7 f c) λi=>cond (zgy f c) (h (zI .i64 a.1 1,a.2.1,a.2.2.1,a.2.2.2.1,b.1,zI .i64 c 1,g,i,()))<|h (a.1,a.2.1,a.2.2.1,a.2.2.2.1,b.1,zI .i64 c 1,g,i,()))<|j (a.1,a.2.2.1,zI .i64 a.2.2.2.1 1,g,d,()))) (b.1,b.2.2.1,b.2.1,b.2.2.1,ln (ix b.2.2.2.1 b.2.2.1 zd6).ac,0,b.2.2.2.1,b.2.2.2.2.1,()))<|some [aS .bare b.2.2.2.2.1,aI b.1]) (0,ln<|zj4 e,0,e,zj4 e,()))
def zPB:=zq [(21,0,{n:=46,tm:=[(0,.sl 0 []),(4,.sl 1 []),(5,ti),(13,ti),(14,ti)],lo:=[],ro:=[(0,.bare,false),(1,.bare,true)]}),(21,2,{n:=46,tm:=[(0,.sl 0 []),(4,.sl 1 []),(5,ti),(6,ti),(13,ti),(14,ti),(22,ti),(23,ti)],lo:=[],ro:=[(0,.bare,false),(1,.bare,true)]})]
def zN9 (f:List ai)(r:zbE big [aS .bare f])(x:zem f=true):∃N,zCb N f=some [aS .bare<|zgR f,aI<|zjm f]:=by
 have u:=zM.1 x;have w:=zcc u.1;refine zb2 λN n=>?_;unfold zCb oN;conv=>zeta
 refine i0 (zbg u) ?_;refine(zha f.length (λi (t:List ai×Int)=>(t.2,ln f,(i:Int),f,t.1,())) _ (λi t=>RI f i t.1) (λi t=>zBL t.1 i t.2) (λi t rec m k A=>?_) (λt rec k=>?_) N 0 (f,0) ⟨rfl,u,λ_ _=>rfl⟩ (jN _)<|n w.1).trans (by simp[zBL])
 .obtain⟨l,c⟩:=t;have a:i<l.length:=(by rw[k.len];exact m);have y:l[i]=f[i]:=(by have:=k.eq i (qW _);rw[qB a,qB m] at this;exact Option.some.inj this);have r:SmB l[i]:=k.sm.2 _ (jE a);have hg:l[i].ac.length<=big:=(zcc r.2.1.1).1;refine i0 (zbo m) (i0 (zX m) ?_);rw[show ix f (i:Int) zd6=l[i] from (zbh m _).trans y.symm]
  refine(zha l[i].ac.length (λj (t:List ai×Int)=>(t.2,(i:Int),ln f,(i:Int),ln l[i].ac,(j:Int),f,t.1,()))
   _ (λj t=>RJ l i t.1) (λj t=>rec ((rb (l[i].ac.length-j) j (ix t.1 (i:Int) zd6) t.2).2,ln f,((i+1:Nat):Int),f,up l (i:Int) (rb (l[i].ac.length-j) j (ix t.1 (i:Int) zd6) t.2).1,()))
   (λj t p v h s=>?_) (λt p h=>?_) N 0 (l,c) ⟨rfl,by rw[zbh a];exact r,λ_=>rfl⟩ (jN _) (n hg)).trans ?_
  {obtain⟨g,d⟩:=t;have b:i<g.length:=(by rw[h.len];exact a);refine i0 (zbo v) (i0 (zX b)<|i0 (zbg h.sm)<|i0 (zX b)<|shr ?_);have z:RJ l i (up g (i:Int)<|zdj (ix g (i:Int) zd6) (j:Int)):=h.next a _ (zLt h.sm);have e:l[i].ac.length-j=(l[i].ac.length-(j+1))+1:=(by omega);have q:=s (up g (i:Int)<|zdj (ix g (i:Int) zd6) (j:Int),bif zen (ix g (i:Int) zd6) (j:Int) then zI .i64 d 1 else d) z;simp only[zev b] at q;rw[e];simp only[rb,zY v hg];rw[<- q];show (cond (zen (ix g (i:Int) zd6) (j:Int)) _ _)=_;cases zen (ix g (i:Int) zd6) (j:Int)<;>rfl};{obtain⟨g,d⟩:=t;have b:i<g.length:=(by rw[h.len];exact a);refine zcB zbj ?_;simp only[kH,rb,zY m w.1];rw[<- h.up,zAz b]};{simp only [uZ,zbh a];exact(A (up l (i:Int) (rb l[i].ac.length 0 l[i] c).1,(rb l[i].ac.length 0 l[i] c).2)<|k.up _<|zPl _ _ _ _ r).trans (zT6 a c)}
 {obtain⟨l,c⟩:=t;refine zcB zbj ?_;rw[<- k.len,zZj]}
def zuv:vU 21 zhT:=hF1 zJP zA zu zl zPB zN9
def zCs (N:Nat)(f:lR):OA:=
 (oN (zem f)<|r0 (σ:=(Int×Int×lR×Unit)) N (λi b=>cond (ilt b.2.1<|ln b.2.2.1) (oN (inb b.2.1<|ln b.2.2.1)<|r0 (σ:=(Int×Int×Int×Int×lR×Unit)) N (λg a=>let c:=a.2.2.2.1;let d:=a.2.2.2.2.1;let e:=ix d a.2.1 zd6; (cond (ilt c a.2.2.1) (oN (inb a.2.1<|ln d)<|oN (zc3 e c)<|oN (inb a.2.1<|ln d)<|p0 (up d a.2.1<|ze7 e c) λh=>cond (zgy e c) (g (zI .i64 a.1 1,a.2.1,a.2.2.1,zI .i64 c 1,h,()))<|g (a.1,a.2.1,a.2.2.1,zI .i64 c 1,h,()))<|i (a.1,zI .i64 a.2.1 1,d,()))) (b.1,b.2.1,ln (ix b.2.2.1 b.2.1 zd6).ac,0,b.2.2.1,()))<|some [aS .bare b.2.2.1,aI b.1]) (0,0,zj4 f,()))
def zPN:=zq [(22,0,{n:=47,tm:=[(0,.sl 0 []),(4,ti),(5,ti)],lo:=[],ro:=[(0,.bare,true)]}),(22,2,{n:=47,tm:=[(0,.sl 0 []),(4,ti),(5,ti),(6,ti),(7,ti)],lo:=[],ro:=[(0,.bare,true)]})]
def zOs (g:List ai)(p:zbE big [aS .bare g])(x:zem g=true):∃N,zCs N g=some [aS .bare<|zgR g,aI<|zjm g]:=by
 have s:=zM.1 x;have w:=zcc s.1;refine zb2 λN m=>?_;unfold zCs oN;conv=>zeta
 refine i0 (zbg s) ?_;refine(zha g.length (λi (t:List ai×Int)=>(t.2,(i:Int),t.1,())) _ (λi t=>RI g i t.1) (λi t=>zBL t.1 i t.2) (λi t rec u k z=>?_) (λt rec k=>?_) N 0 (g,0) ⟨rfl,s,λ_ _=>rfl⟩ (jN _)<|m w.1).trans (by simp[zBL])
 .obtain⟨l,c⟩:=t;have a:i<l.length:=by rw[k.len];exact u
  have p:SmB l[i]:=k.sm.2 _ (jE a);have hg:l[i].ac.length<=big:=(zcc p.2.1.1).1;refine i0 (zbo a) (i0 (zX a) ?_);simp only[zbh a];refine(zha l[i].ac.length (λj (t:List ai×Int)=>(t.2,(i:Int),ln l[i].ac,(j:Int),t.1,()))
   _ (λj t=>RJ l i t.1) (λj t=>rec ((rb (l[i].ac.length-j) j (ix t.1 (i:Int) zd6) t.2).2,((i+1:Nat):Int),up l (i:Int) (rb (l[i].ac.length-j) j (ix t.1 (i:Int) zd6) t.2).1,()))
   (λj t n v h r=>?_) (λt n h=>?_) N 0 (l,c) ⟨rfl,by rw[zbh a];exact p,λ_=>rfl⟩ (jN _) (m hg)).trans ?_
  {obtain⟨f,d⟩:=t;have b:i<f.length:=(by rw[h.len];exact a);refine i0 (zbo v) (i0 (zX b)<|i0 (zbg h.sm)<|i0 (zX b)<|shr ?_);have y:RJ l i (up f (i:Int)<|zdj (ix f (i:Int) zd6) (j:Int)):=h.next a _ (zLt h.sm);have e:l[i].ac.length-j=(l[i].ac.length-(j+1))+1:=(by omega);have q:=r (up f (i:Int)<|zdj (ix f (i:Int) zd6) (j:Int),bif zen (ix f (i:Int) zd6) (j:Int) then zI .i64 d 1 else d) y;simp only[zev b] at q;rw[e];simp only[rb,zY v hg];rw[<- q];show (cond (zen (ix f (i:Int) zd6) (j:Int)) _ _)=_;cases zen (ix f (i:Int) zd6) (j:Int)<;>rfl};{obtain⟨f,d⟩:=t;have b:i<f.length:=(by rw[h.len];exact a);refine zcB zbj ?_;simp only[kH,rb,zY u w.1];rw[<- h.up,zAz b]};{simp only [uZ,zbh a];exact(z (up l (i:Int) (rb l[i].ac.length 0 l[i] c).1,(rb l[i].ac.length 0 l[i] c).2)<|k.up _<|zPl _ _ _ _ p).trans (zT6 a c)}
 {obtain⟨l,c⟩:=t;have e:(g.length:Nat)=l.length:=k.len.symm;rw[e];refine zcB zbj ?_;rw[zZj]}
def zuA:vU 22 zhT:=hF1 zJP zA zu zl zPN zOs
def zbfy:zZ:=[(21,zhT),(22,zhT)]++zbbT
def z9B:zS zbfy:=zh zuv (zh zuA zJP)
def zFA:Nat->List ai->Int->List ai×Int
 | 0,l,c=>(l,c)
 |n+1,l,c=>zFA n (rnd l 0).1 (zI .i64 c (rnd l 0).2)
def resN (n:Nat)(l:List ai)(c:Int):OA:=some [AV.one<|.s .bare (zFA n l c).1,AV.one<|.i .i64 (zFA n l c).2]
@[simp] abbrev zyw (l:List ai)(_:Int):Bool:=pc (zpP l)
@[simp] abbrev zsB (l:List ai)(r:Int):List ai:=(zFA (brought r 0 40).toNat l 0).1
@[simp] abbrev zyv (l:List ai)(r:Int):Int:=(zFA (brought r 0 40).toNat l 0).2
def zC0:Run:=rF2 (dS .bare) dI λb c=>(zyw b c,[aS .bare<|zsB b c,aI<|zyv b c])
def zHO (N:Nat)(b:lR)(c:Int):OA:=
 (oN (zem b)<|r0 (σ:=(Int×Int×Int×lR×Unit)) N (λd a=>oN (zis a.1 0 40)<|cond (ilt a.2.2.1<|zgS a.1 0 40) (oN (zem a.2.2.2.1)<|d (a.1,zI .i64 a.2.1<|zjm a.2.2.2.1,zI .i64 a.2.2.1 1,zgR a.2.2.2.1,()))<|some [aS .bare a.2.2.2.1,aI a.2.1]) (c,0,0,zj4 b,()))
def zVV:=zq [(14,0,{n:=30,tm:=[(1,ti),(6,.sl 0 []),(7,ti),(8,ti)],lo:=[],ro:=[(0,.bare,true)]})]
def zUX (b:List ai)(a:Int)(h:zbE big [aS .bare b,aI a])(j:zyw b a=true):∃N,zHO N b a=some [aS .bare<|zsB b a,aI<|zyv b a]:=by have g:=zM.1 j;have h:=zEC a;refine zb2 λN f=>?_;unfold zHO oN;refine i0 (zbg g) ?_;refine zha (brought a 0 40).toNat (λi (t:List ai×Int)=>(a,t.2,(i:Int),t.1,())) _ (λi t=>zpP t.1) (λi t=>resN ((brought a 0 40).toNat-i) t.1 t.2) (λi t rec k d m=>?_) (λt rec d=>?_) N 0 (b,0) g (jN _) (f (by rw[ziJ];omega));{obtain⟨l,c⟩:=t;refine i0 rfl (i0 (qH (by show (i:Int)<brought a 0 40;omega))<|i0 (zbg d) ?_);have e:(brought a 0 40).toNat-i=((brought a 0 40).toNat-(i+1))+1:=(by omega);simp only[zY k (by rw[ziJ];omega)];rw[e];exact m ((rnd l 0).1,zI .i64 c (rnd l 0).2) (zbaF d 0)};{obtain⟨l,c⟩:=t;refine i0 rfl (zcB (qI (by show ¬ (((brought a 0 40).toNat:Nat):Int)<brought a 0 40;omega)) ?_);simp[resN,zFA]}
def zM7:vU 14 zC0:=hF2 z9B zA zu zl zVV zUX
def z6J:zZ:=[(111,zhb)]++zbbY
def zTD:zS z6J:=zh zo8 z9C
def zz2:Run:=rF3 dH dI dI λb c d=>(zc4 b c d,[aH<|zcm b c d,aB<|zcn b c d])
abbrev ziI (a:ad)(b c:Int):Int :=
 (zgW<|ix (zcT a b).ac c zy)
abbrev zdC (a:ad)(b c:Int):Int :=
 (zhe<|ix (zcT a b).ac c zy)
abbrev zy2 (a:ad)(b c:Int):ad :=
 (zuR a b c (zb3<|ziI a b c)<|zcK<|ieq (zdC a b c) 4)
abbrev ziH (a:ad)(b c:Int):ah :=
 (ix (ix (zn a).aa b zi).ac c zy)
abbrev znf (c:lN)(a b:Int):ah :=
 (ix (ix c a zi).ac b zy)
abbrev zy3 (a:ad)(b c:Int):Int :=
 (zuS a b c (zb3<|ziI a b c)<|zcK<|ieq (zdC a b c) 4)
def zng (N:Nat)(f:ad)(c d:Int):OA:=
 let j:=zy3 f c d;let h:=ieq (zdC f c d) 4;let a:=ziI f c d;let b:=zy2 f c d;let k:=inb c<|ln b.aa;let e:=ix (zcT f c).ac d zy;let g:=ix b.aa c zi;let l:=inb d<|ln g.ac; (oN (zbD a)<|oN (zil h)<|oN (zBp f c d (zb3 a)<|zcK h)<|cond (nB<|zBo f c d (zb3 a)<|zcK h) (oN (zbD a)<|oN (zfo (zb3 a) h)<|oN (zcC e<|zdK (zb3 a) h)<|oN k<|oN l<|p0 (up b.aa c ({g with ac:=(up g.ac d<|zcw e<|zdK (zb3 a) h)}:Mon)) λi=>some [aH ({b with aa:=i}:ad),aB true])<|cond h (oN (zbD a)<|oN (zff b.ag j (zdg a) e.A)<|oN (zQ e)<|oN k<|oN l<|p0 (up b.aa c ({g with ac:=(up g.ac d<|zck e)}:Mon)) λi=>some [aH ({b with ag:=(zeX b.ag j (zdg a) e.A),aa:=i}:ad),aB true])<|oN (zbD a)<|oN (zeY b.ag j<|zdg a)<|oN (zjR e<|zgz b.ag j<|zdg a)<|oN k<|oN l<|p0 (up b.aa c ({g with ac:=(up g.ac d<|zi7 e<|zgz b.ag j<|zdg a)}:Mon)) λi=>some [aH ({b with aa:=i}:ad),aB true])
def znh (N:Nat)(f:ad)(a b:Int)(d:lN):OA:=
 let c:=znf d a b;let e:=ix d a zi;let g:=({ (ziH f a b) with au:=c.au,ax:=c.ax,av:=c.av,aC:=c.aC}:ah); (oN (zQ g)<|oN (inb b<|ln e.ac)<|p0 (up d a ({e with ac:=(up e.ac b<|zck g)}:Mon)) λh=>some [aH ({ (zn f) with aa:=h}:ad),aB true])
def zni (N:Nat)(e:ad)(a d:Int):OA:=
 let g:=(zn e).aa;let c:=ziH e a d;let b:=ix g a zi;let h:=ap b.Outs [(zdJ c.au c.Pc).X]; (cond (ieq (zdC e a d) 7) (oN (zQ c)<|oN (inb d<|ln b.ac)<|p0 (up g a ({b with ac:=(up b.ac d<|zlL c)}:Mon)) λf=>some [aH ({ (zn e) with aa:=f}:ad),aB true])<|cond (ilt (ln b.Outs) 40) (oN (zdA c.au c.Pc)<|oN (few<|ln h)<|oN (cond (ieq a a) true false)<|p0 (up g a ({b with Outs:=h}:Mon)) λf=>znh N e a d f)<|oN (zQ c)<|oN (inb d<|ln b.ac)<|p0 (up g a ({b with ac:=(up b.ac d<|zck c)}:Mon)) λf=>some [aH ({ (zn e) with aa:=f}:ad),aB true])
def znj (N:Nat)(a:Int)(g:ad)(b:Int):OA:=
 let f:=zn g;let j:=zdC g a b;let d:=ziH g a b;let c:=ix f.aa a zi;let l:=zk7 c.aq d.Ctl.aq<|ziZ j; (oN (inb a<|ln f.aa)<|oN (inb b<|ln c.ac)<|oN (zp7 j)<|oN (zov c.aq d.Ctl.aq<|ziZ j)<|cond (ieq l 1) (oN (zod d j)<|oN (inb b<|ln c.ac)<|p0 (up f.aa a ({c with ac:=(up c.ac b<|zk5 d j)}:Mon)) λe=>some [aH ({f with aa:=e}:ad),aB true])<|cond (ieq l 2) (cond (ilt c.Own 1000000000) (p0 (up f.aa a ({c with Own:=(zI .i64 c.Own 1)}:Mon)) (λe=>let i:=ix e a zi;let h:=znf e a b;let k:=ap i.Outs [(zdJ h.au d.Pc).X];let q:=({d with au:=h.au,ax:=h.ax,av:=h.av,aC:=h.aC}:ah); (cond (ieq j 7) (oN (zQ q)<|oN (inb b<|ln i.ac)<|p0 (up e a ({i with ac:=(up i.ac b<|zlL q)}:Mon)) λm=>some [aH ({f with aa:=m}:ad),aB true])<|cond (ilt (ln i.Outs) 40) (oN (zdA h.au d.Pc)<|oN (few<|ln k)<|oN (cond (ieq a a) true false)<|p0 (up e a ({i with Outs:=k}:Mon)) (λm=>let p:=ix m a zi;let n:=ix p.ac b zy;let r:=({d with au:=n.au,ax:=n.ax,av:=n.av,aC:=n.aC}:ah); (oN (zQ r)<|oN (inb b<|ln p.ac)<|p0 (up m a ({p with ac:=(up p.ac b<|zck r)}:Mon)) λs=>some [aH ({f with aa:=s}:ad),aB true])))<|znh N g a b e)))<|zni N g a b)<|zni N g a b)
def zkt (N:Nat)(a:ad)(b c:Int):OA:=
 (oN (zfG a b)<|oN (zc3 (zh1 a b) c)<|oN (inb b<|ln (zn a).aa)<|p0 (up (zn a).aa b ({ (ix (zn a).aa b zi) with ac:=(ze7 (zh1 a b) c).ac}:Mon)) λd=>some [aH ({ (zn a) with aa:=d}:ad),aB true])
def zg5 (N:Nat)(a:ad)(b c:Int):OA:=
 let d:=zdC a b c; (cond (ieq d 5) (cond (ieq d 5) (znj N b a c)<|zkt N a b c)<|cond (ieq d 7) (znj N b a c)<|zkt N a b c)
def zDS (N:Nat)(a:ad)(c b:Int):OA:=
 let f:=aH<|zn a;let e:=zdC a c b;let d:=(zcT a c).ac;let g:=ix d b zy; (oN (zbn a)<|oN (zfG a c)<|oN (zeC a)<|cond (nB<|zeB a) (some [f,aB false])<|cond (nB<|zmF a c) (some [f,aB false])<|oN (zbH b<|ln d)<|cond (nB<|zdG b<|ln d) (some [f,aB false])<|oN (inb b<|ln d)<|oN (zbu g)<|cond (ieq e 0) (some [f,aB false])<|oN (inb b<|ln d)<|oN (zbu g)<|oN (zbu g)<|cond (ieq e 3) (cond (ieq e 3) (zng N a c b)<|zg5 N a c b)<|cond (ieq e 4) (zng N a c b)<|zg5 N a c b)
def zYO {h:ad}{m:Int}(a:j0 m (ln h.aa)=true):zcT h m=ix h.aa m mZ:=by unfold zcT;rw[a];rfl
def is_1 {N:Nat}{a:ad}{c d:Int}(l:SmH a)(p:zbW a c d=true) :
 zng N a c d=some (zeQ (zia (zjf a c d (gOf a c d)<|ieq (zL<|gOf a c d) 4) c d (gOf a c d)<|ieq (zL<|gOf a c d) 4,true)):=by
 obtain⟨s,i,n⟩:=zdq p;have m:=zlT l i n;have k:=zvo (b:=a.ao) (page:=zbs (E0<|gOf a c d)) (need:=zcf (ieq (zL<|gOf a c d) 4)) (io:=false) l p;have F:=znw k i n;have g:=zYO i;have e:zdC a c d=zL (gOf a c d):=by show zhe (ix (zcT a c).ac d gZ)=_;rw[g];rfl
 have f:ziI a c d=E0 (gOf a c d):=by show zgW (ix (zcT a c).ac d gZ)=_;rw[g];rfl
 have q:zy2 a c d=(zjf a c d (gOf a c d)<|ieq (zL<|gOf a c d) 4).1:=by show zuR a c d (zb3<|ziI a c d) (zcK<|ieq (zdC a c d) 4)=_;rw[e,f];rfl
 have r:zy3 a c d=(zjf a c d (gOf a c d)<|ieq (zL<|gOf a c d) 4).2.1:=by show zuS a c d (zb3<|ziI a c d) (zcK<|ieq (zdC a c d) 4)=_;rw[e,f];rfl
 unfold zng oN nB
 conv=>zeta
 rw[q,e,f,r,g];unfold zia;refine i0 rfl (i0 rfl (i0 (zbr<|(zT _).2 l)<|brN (λh=>?_) λh=>?_))
 .rw [show (zjf a c d (gOf a c d)<|ieq (zL<|gOf a c d) 4).2.2=false from h]
  exact i0 rfl (i0 rfl (i0 (zbr m)<|i0 (zF F.hm) (i0 (zF F.hg) rfl)))
 .rw [show (zjf a c d (gOf a c d)<|ieq (zL<|gOf a c d) 4).2.2=true from h]
  refine br (λj=>?_) (λj=>?_)
  .have kk:=k.shape.1.1;rw[j] at F kk ⊢;exact i0 rfl (i0 (zbr kk)<|i0 (zbr m)<|i0 (zF F.hm) (i0 (zF F.hg) rfl))
  .rw [j] at F ⊢;exact i0 rfl (i0 rfl (i0 (zbr m)<|i0 (zF F.hm) (i0 (zF F.hg) rfl)))
def is_2 {N:Nat}{c:ad}{d:List Mon}{a b:Int}(g:SmG (gOf c a b))(f:j0 b (ln (ix d a mZ).ac)=true)(e:znf d a b=ziH c a b) :
 znh N c a b d=some (zeQ (zg1 {c with aa:=d} a b<|zcb<|gOf c a b,true)):=by
 unfold znh oN
 conv=>zeta
 rw[e];exact i0 (zbr g) (i0 (zF f) rfl)
def leftG (x:ah)(w:Int):ah:=bif ieq w 7 then held x else zcb x
def zBC (h:ad)(m:Int)(x:ah)(w:Int):ad:=bif ieq w 7 then h else zi1 h m (zcg x.au x.Pc).X
def zzM {h:ad}{m:Int}{x:ah}{w:Int}(a:ieq w 7=true):leftG x w=held x/\zBC h m x w=h:=by unfold leftG zBC;rw[a];exact⟨rfl,rfl⟩
def zof {h:ad}{m:Int}{x:ah}{w:Int}(a:ieq w 7=false):leftG x w=zcb x/\zBC h m x w=zi1 h m (zcg x.au x.Pc).X:=by unfold leftG zBC;rw[a];exact⟨rfl,rfl⟩
def z2O {h:ad}{m n:Int}(a:ilt (ln (ix h.aa m mZ).Outs) 40=true):zi1 h m n={h with aa:=up h.aa m {ix h.aa m mZ with Outs:=ap (ix h.aa m mZ).Outs [n]}}:=by unfold zi1;rw[a];rfl
def z2N {h:ad}{m n:Int}(a:ilt (ln (ix h.aa m mZ).Outs) 40=false):zi1 h m n=h:=by unfold zi1;rw[a];rfl
def is_3 {N:Nat}{b:ad}{a c:Int}(k:SmH b)(g:j0 a (ln b.aa)=true)(e:j0 c (ln (ix b.aa a mZ).ac)=true)(j:zdC b a c=zL (gOf b a c)) :
 zni N b a c=some (zeQ (zg1 (zBC b a (gOf b a c)<|zL<|gOf b a c) a c<|leftG (gOf b a c)<|zL<|gOf b a c,true)):=by
 have i:=zlT k g e;unfold zni oN
 conv=>zeta
 rw[j];refine br (λd=>?_) (λd=>br (λf=>?_) λf=>?_)
 .rw [(zzM (x:=gOf b a c) (h:=b) (m:=a) d).1,(zzM (x:=gOf b a c) d).2];exact i0 (zbr i) (i0 (zF e) rfl)
 .rw [(zof (x:=gOf b a c) (h:=b) (m:=a) d).1,(zof (x:=gOf b a c) d).2,z2O f];refine i0 rfl (i0 (zWk f)<|i0 (zN3 _)<|shr<|is_2 i ?_ ?_)
  .rw [zqh g];exact e
  .show ix (ix (up b.aa a _) a mZ).ac c gZ=_
   rw[zqh g]
 .rw [(zof (x:=gOf b a c) (h:=b) (m:=a) d).1,(zof (x:=gOf b a c) d).2,z2N f];exact i0 (zbr i) (i0 (zF e) rfl)
def zbfk {h:ad}{m g:Int}{x:ah}{w:Int}(d:ieq w 6=false)(c:ieq w 5=false->ieq w 6=false->ieq w 7=true)(e:zed x.Ctl.aq (zgb w)=false):zlD h m g x w=zg1 (zBC (ze2 h m x w) m x w) m g (leftG x w):=by unfold zlD;cases b:ieq w 7;{have a:ieq w 5=true:=(by cases a:ieq w 5;{have:=c a d;rw[b] at this;cases this};{rfl});obtain⟨f,i⟩:=tr3 x x.Ctl.aq w d b e a;rw[(zof (x:=x) (h:=ze2 h m x w) (m:=m) b).1,(zof (x:=x) b).2,f];unfold zhA;rw[i,a];rfl};{have a:ieq w 5=false:=(by have:w=7:=qD b;rw[this];rfl);rw[(zzM (x:=x) (h:=ze2 h m x w) (m:=m) b).1,(zzM (x:=x) b).2,tr4 x x.Ctl.aq w d c e a,zGa a]}
def is_p {f:ad}{d:List Mon}{a c:Int}(h:SmG (gOf f a c))(g:j0 c (ln (ix d a mZ).ac)=true)(e:(ix (ix d a zi).ac c zy)=gOf f a c) :
 (cond (zQ ({ (ix (ix (zn f).aa a zi).ac c zy) with au:=(ix (ix d a zi).ac c zy).au,ax:=(ix (ix d a zi).ac c zy).ax,av:=(ix (ix d a zi).ac c zy).av,aC:=(ix (ix d a zi).ac c zy).aC}:ah)) (cond (inb c<|ln (ix d a zi).ac) (p0 (up d a ({ (ix d a zi) with ac:=(up (ix d a zi).ac c<|zck ({ (ix (ix (zn f).aa a zi).ac c zy) with au:=(ix (ix d a zi).ac c zy).au,ax:=(ix (ix d a zi).ac c zy).ax,av:=(ix (ix d a zi).ac c zy).av,aC:=(ix (ix d a zi).ac c zy).aC}:ah))}:Mon)) λi=>some [.agg<|zbt ({ (zn f) with aa:=i}:ad),.one<|.b true]) none) none)=some (zeQ (zg1 {f with aa:=d} a c<|zcb<|gOf f a c,true)):=by
 rw[e];exact i0 (zbr h) (i0 (zF g) rfl)
def is_o {f:ad}{d:List Mon}{a c:Int}(l:SmG (gOf f a c))(n:j0 a (ln d)=true)(k:j0 c (ln (ix d a mZ).ac)=true)(e:(ix (ix d a zi).ac c zy)=gOf f a c) :
 (cond (ieq (zL<|gOf f a c) 7) (cond (zQ ({ (ix (ix (zn f).aa a zi).ac c zy) with au:=(ix (ix d a zi).ac c zy).au,ax:=(ix (ix d a zi).ac c zy).ax,av:=(ix (ix d a zi).ac c zy).av,aC:=(ix (ix d a zi).ac c zy).aC}:ah)) (cond (inb c<|ln (ix d a zi).ac) (p0 (up d a ({ (ix d a zi) with ac:=(up (ix d a zi).ac c<|zlL ({ (ix (ix (zn f).aa a zi).ac c zy) with au:=(ix (ix d a zi).ac c zy).au,ax:=(ix (ix d a zi).ac c zy).ax,av:=(ix (ix d a zi).ac c zy).av,aC:=(ix (ix d a zi).ac c zy).aC}:ah))}:Mon)) λg=>some [.agg<|zbt ({ (zn f) with aa:=g}:ad),.one<|.b true]) none) none)<|cond (ilt (ln (ix d a zi).Outs) 40) (cond (zdA (ix (ix d a zi).ac c zy).au (ix (ix (zn f).aa a zi).ac c zy).Pc) (cond (few<|ln<|ap (ix d a zi).Outs [(zdJ (ix (ix d a zi).ac c zy).au (ix (ix (zn f).aa a zi).ac c zy).Pc).X]) (cond (cond (ieq a a) true false) (p0 (up d a ({ (ix d a zi) with Outs:=(ap (ix d a zi).Outs [(zdJ (ix (ix d a zi).ac c zy).au (ix (ix (zn f).aa a zi).ac c zy).Pc).X])}:Mon)) λg=>cond (zQ ({ (ix (ix (zn f).aa a zi).ac c zy) with au:=(ix (ix g a zi).ac c zy).au,ax:=(ix (ix g a zi).ac c zy).ax,av:=(ix (ix g a zi).ac c zy).av,aC:=(ix (ix g a zi).ac c zy).aC}:ah)) (cond (inb c<|ln (ix g a zi).ac) (p0 (up g a ({ (ix g a zi) with ac:=(up (ix g a zi).ac c<|zck ({ (ix (ix (zn f).aa a zi).ac c zy) with au:=(ix (ix g a zi).ac c zy).au,ax:=(ix (ix g a zi).ac c zy).ax,av:=(ix (ix g a zi).ac c zy).av,aC:=(ix (ix g a zi).ac c zy).aC}:ah))}:Mon)) λp=>some [.agg<|zbt ({ (zn f) with aa:=p}:ad),.one<|.b true]) none) none) none) none) none)<|cond (zQ ({ (ix (ix (zn f).aa a zi).ac c zy) with au:=(ix (ix d a zi).ac c zy).au,ax:=(ix (ix d a zi).ac c zy).ax,av:=(ix (ix d a zi).ac c zy).av,aC:=(ix (ix d a zi).ac c zy).aC}:ah)) (cond (inb c<|ln (ix d a zi).ac) (p0 (up d a ({ (ix d a zi) with ac:=(up (ix d a zi).ac c<|zck ({ (ix (ix (zn f).aa a zi).ac c zy) with au:=(ix (ix d a zi).ac c zy).au,ax:=(ix (ix d a zi).ac c zy).ax,av:=(ix (ix d a zi).ac c zy).av,aC:=(ix (ix d a zi).ac c zy).aC}:ah))}:Mon)) λg=>some [.agg<|zbt ({ (zn f) with aa:=g}:ad),.one<|.b true]) none) none)=some (zeQ (zg1 (zBC {f with aa:=d} a (gOf f a c)<|zL<|gOf f a c) a c<|leftG (gOf f a c)<|zL<|gOf f a c,true)):=by
 rw[e];refine br (λi=>?_) (λi=>br (λj=>?_) λj=>?_)
 .rw [(zzM (x:=gOf f a c) (h:={f with aa:=d}) (m:=a) i).1,(zzM (x:=gOf f a c) i).2];exact i0 (zbr l) (i0 (zF k) rfl)
 .rw [(zof (x:=gOf f a c) (h:={f with aa:=d}) (m:=a) i).1,(zof (x:=gOf f a c) i).2,z2O (h:={f with aa:=d}) j];refine i0 rfl (i0 (zWk j)<|i0 (zN3 _)<|shr<|is_p l ?_ ?_)
  .rw [zqh (h:={f with aa:=d}) n];exact k
  .show ix (ix (up d a _) a mZ).ac c gZ=_
   rw[zqh (h:={f with aa:=d}) n];exact e
 .rw [(zof (x:=gOf f a c) (h:={f with aa:=d}) (m:=a) i).1,(zof (x:=gOf f a c) i).2,z2N (h:={f with aa:=d}) j];exact i0 (zbr l) (i0 (zF k) rfl)
def tf (b:Bool):b=false\/b=true:=by cases b<;>simp
def is_4 {N:Nat}{a:ad}{b c:Int}(r:SmH a)(d:j0 b (ln a.aa)=true)(e:j0 c (ln (ix a.aa b mZ).ac)=true)(q:zdC a b c=zL (gOf a b c))(l:ieq (zL<|gOf a b c) 6=false)(f:ieq (zL<|gOf a b c) 5=false->ieq (zL<|gOf a b c) 6=false->ieq (zL<|gOf a b c) 7=true) :
 znj N b a c=some (zeQ (zlD a b c (gOf a b c)<|zL<|gOf a b c,true)):=by
 have s:=zlT r d e;have n:=is_3 (N:=N) r d e q;have g:ine (zL<|gOf a b c) 6=true:=by rw[zl1,l];rfl
 unfold znj oN
 conv=>zeta
 rw[q];refine i0 (zF d) (i0 (zF e) (i0 rfl (i0 rfl ?_)));rw[show ieq (zk7 (ix a.aa b zi).aq (ziH a b c).Ctl.aq<|ziZ<|zL<|gOf a b c) 1=zed (gOf a b c).Ctl.aq (zgb<|zL<|gOf a b c) from zbe8 _ _ _]
 refine br (λh=>?_) (λh=>?_)
 .obtain⟨e1,e2⟩:=tr2 (gOf a b c) (gOf a b c).Ctl.aq _ l f h;have i:ze2 a b (gOf a b c) (zL<|gOf a b c)=a:=by unfold ze2;rw[g,zbe9 h];rfl
  unfold zlD;rw[i,zPz e2,e1];exact i0 (zbr s) (i0 (zF e) rfl)
 .rw [zbfk l f h];have i:ze2 a b (gOf a b c) (zL<|gOf a b c)=bif ieq (zn7 (ix a.aa b mZ).aq (gOf a b c).Ctl.aq<|zgb<|zL<|gOf a b c) 2 then owned a b else a:=by unfold ze2;rw[g];rfl
  rw[i];refine br (λm=>?_) (λm=>?_)
  .rw [show ieq (zn7 (ix a.aa b mZ).aq (gOf a b c).Ctl.aq<|zgb<|zL<|gOf a b c) 2=true from m]
   simp only[cT];unfold owned;refine br (λk=>?_) (λk=>?_)
   rotate_left
   .rw [k];exact n
   rw[k];refine shr ?_;have p:=zqh d {ix a.aa b mZ with Own:=zI .i64 (ix a.aa b mZ).Own 1};have j:j0 b (ln<|up a.aa b {ix a.aa b mZ with Own:=zI .i64 (ix a.aa b mZ).Own 1})=true:=zfA d;have t:znf (up a.aa b {ix a.aa b mZ with Own:=zI .i64 (ix a.aa b mZ).Own 1}) b c=ziH a b c:=by show ix (ix (up a.aa b _) b mZ).ac c gZ=_;rw[p]
   refine is_o s j ?_ t;rw[p];exact e
  .rw [show ieq (zn7 (ix a.aa b mZ).aq (gOf a b c).Ctl.aq<|zgb<|zL<|gOf a b c) 2=false from m]
   exact n
def z9V {N:Nat}{a:ad}{b c:Int}(r:SmH a)(q:zbW a b c=true)(m:ieq (zL<|gOf a b c) 0=false){y:ah}{o:LI}(s:(stepped (zD a b) c (gOf a b c)<|zL<|gOf a b c).ac=up (ix a.aa b mZ).ac c y)(p:SmB (zD a b)) :
 zkt N a b c=some (zeQ (zg1 a b c y,true)):=by
 obtain⟨k,f,l⟩:=zdq q;have g:=zyn k f;have i:(zD a b).ac=(ix a.aa b mZ).ac:=by unfold zD;rw[f];rfl
 have e:j0 c (ln (zD a b).ac)=true:=by rw[i];exact l
 have h:gAt (zD a b) c=gOf a b c:=by unfold gAt;rw[e,i];rfl
 have d:zen (zD a b) c=true:=by unfold zen;rw[e,g,h,m];rfl
 have j:zdj (zD a b) c=stepped (zD a b) c (gOf a b c) (zL<|gOf a b c):=by unfold zdj;rw[d,h];rfl
 have n:(ze7 (zh1 a b) c).ac=up (ix a.aa b mZ).ac c y:=by show (zdj (zD a b) c).ac=_;rw[j,s]
 unfold zkt oN;rw[n];exact i0 (zbr<|(zT _).2 r) (i0 (zbr p) (i0 (zF f) rfl))
def zB2 {h:ad}{m:Int}(g:SmH h)(f:j0 m (ln h.aa)=true):SmB (zD h m):=by
 have b:=g.2.1.2 _ (zbN f mZ);have e:∀(d:List LI) (q:Int),SmM d->(zcQ d q).length<=1048576:=λd q h=>zZM h;have c:∀p:Int,(zcM h m p).length<=1048576:=by intro p;unfold zcM;cases j0 m (ln h.aa);{exact(by decide:zB9.length<=1048576)};{cases j0 p 8;{exact(by decide:zB9.length<=1048576)};{simp only [cT];cases ine (zbK (ix h.aa m zi).ae p).af (-1);{exact e _ _ b.2.1};{exact e _ _ g.1}}}
 have j:∀(n i:Nat),∀x∈zcR h m n i,x.length<=1048576:=by
  intro n
  induction n with
  |zero=>intro i x a;cases a
  |succ n k=>intro i x a;rcases qG.1 a with rfl|a;{exact c _};{exact k (i+1) x a}
 unfold zD;rw[f];exact⟨⟨by show (zcR h m 8 0).length<=1048576;rw[zBI];decide,j 8 0⟩,b.2.2.2.1,b.2.2.2.2.1⟩
def zyu (b:ai)(g:Int)(x:ah):(zeb b g x).ac=up b.ac g x:=rfl
def zRw (a:ad)(b c:Int)(q:zbE big [aH a,aI b,aI c])(B:zc4 a b c=true):∃N,zDS N a b c=some [aH (zcm a b c),aB (zcn a b c)]:=by
 have g:=(zT a).1 (zM.1 B);refine⟨0,?_⟩;show _=some (zeQ (zbz a b c));unfold zDS oN nB;conv=>zeta
 refine i0 (zbr ((zT _).2 g)) (i0 (zbr ((zT _).2 g)) (i0 rfl (brN (fun u=>?_) (fun u=>brN (fun l=>?_) (fun l=>?_)))));{rw [zjv (zQh u)];rfl};{rw [zjv (zQi l)];rfl};have y:=zYO (h:=a) (m:=b) l;have n:zdC a b c=zL (gOf a b c):=(by show zhe (ix (zcT a b).ac c gZ)=_;rw[y];rfl);rw[y,n];refine i0 rfl (brN (fun p=>?_) (fun p=>?_));{rw [zjv (zQj p)];rfl};have j:=zQk u l p;have s:j0 b (ln a.aa)=true:=l;have t:j0 c (ln (ix a.aa b mZ).ac)=true:=p;have q:=zB2 g s;have r:(zD a b).ac=(ix a.aa b mZ).ac:=(by unfold zD;rw[s];rfl);rw[zkk j];unfold zAt;refine i0 (zF t) (i0 rfl (br (fun d=>?_) (fun d=>i0 (zF t) (i0 rfl (i0 rfl (br (fun i=>i0 i ?_) (fun i=>br (fun k=>?_) (fun k=>?_))))))));{rw [d];rfl};{have e:zL (gOf a b c)=3:=qD i;have T:=is_1 (N:=0) g j;rw[T];rw[e];rfl};{have e:zL (gOf a b c)=4:=qD k;have T:=is_1 (N:=0) g j;rw[T];rw[e];rfl}
 .have fin:∀{R:ad×Bool},zg5 0 a b c=some (zeQ R)->R=(bif ieq (zL (gOf a b c)) 0 then (a,false) else (bif ieq (zL (gOf a b c)) 1 then (zg1 a b c (interrupted (gOf a b c)),true) else (bif ieq (zL (gOf a b c)) 2 then (zg1 a b c (plainly (gOf a b c)),true) else
   (cond (cond (ieq (zL (gOf a b c)) 3) true (ieq (zL (gOf a b c)) 4)) (zia (zjf a b c (gOf a b c) (ieq (zL (gOf a b c)) 4)) b c (gOf a b c) (ieq (zL (gOf a b c)) 4),true) (zlD a b c (gOf a b c) (zL (gOf a b c)),true)))))->zg5 0 a b c=_:=fun h e=>h.trans (congrArg (fun x=>some (zeQ x)) e)
  have w:ieq (zL (gOf a b c)) 5=false->ieq (zL (gOf a b c)) 7=false->zg5 0 a b c=zkt 0 a b c:=by
   intro v A;unfold zg5;conv=>zeta
   rw[n];exact zcB v (zcB A rfl)
  rcases tf (ieq (zL (gOf a b c)) 1) with f|f
  .rcases tf (ieq (zL (gOf a b c)) 2) with w2|w2
   .rcases tf (ieq (zL (gOf a b c)) 6) with w6|w6
    .have h57:ieq (zL (gOf a b c)) 5=false->ieq (zL (gOf a b c)) 6=false->ieq (zL (gOf a b c)) 7=true:=fun v z=>zWv _ d f w2 i k v z;have T:=is_4 (N:=0) g s t n w6 h57;refine fin (R:=(zlD a b c (gOf a b c) (zL (gOf a b c)),true)) ?_ (by rw[d,f,w2,i,k];rfl);unfold zg5;conv=>zeta
     rw[n];cases C:ieq (zL (gOf a b c)) 5;{exact zcB rfl (i0 (h57 C w6) T)};{exact i0 rfl (i0 rfl T)}
    {have e:zL (gOf a b c)=6:=qD w6;refine fin (R:=(zg1 a b c (zgc (gOf a b c) (gOf a b c).Ctl.aq (zL (gOf a b c))),true)) ?_ ?_;{rw [w (by rw[e];rfl) (by rw[e];rfl)];refine z9V (o:=[]) g j d ?_ q;unfold stepped zn2;rw[f,w2,i,k,(tr1 (gOf a b c) (gOf a b c).Ctl.aq _ w6).2];show (zeb (zD a b) c _).ac=_;rw[zyu,r]};{rw [d,f,w2,i,k];unfold zlD ze2;rw[zPz (tr1 (gOf a b c) (gOf a b c).Ctl.aq _ w6).2,zl1,w6];rfl}}
   {have e:zL (gOf a b c)=2:=qD w2;refine fin (R:=(zg1 a b c (plainly (gOf a b c)),true)) ?_ (by rw[d,f,w2];rfl);rw[w (by rw[e];rfl) (by rw[e];rfl)];refine z9V (o:=[]) g j d ?_ q;unfold stepped;rw[f,w2];show (zeb (zD a b) c _).ac=_;rw[zyu,r]}
  {have e:zL (gOf a b c)=1:=qD f;refine fin (R:=(zg1 a b c (interrupted (gOf a b c)),true)) ?_ (by rw[d,f];rfl);rw[w (by rw[e];rfl) (by rw[e];rfl)];refine z9V (o:=[]) g j d ?_ q;unfold stepped;rw[f];show (zeb (zD a b) c _).ac=_;rw[zyu,r]}
def zJ4:vU 106 zz2:=hF3 zTD zA zb9 zfL (zq []) zRw
def zbbZ:zZ:=[(106,zz2)]++z6J
def z9D:zS zbbZ:=zh zJ4 zTD
def z3W:zZ:=[(103,zgV),(110,zgV)]++zbbZ
def zA2:zS z3W:=zh zp4 (zh zp5 z9D)
def cnt (l:List Mon):List Nat:=l.map λx=>x.ac.length
def zbew {l a:List Mon}(h:ze6 a=ze6 l):cnt a=cnt l:=by have e:∀l:List Mon,cnt l=(ze6 l).map List.length:=λl=>(by simp[cnt,ze6]);rw[e,e,h]
def zWY {l:List Mon}{m:Int}{x:Mon}(b:j0 m (ln l)=true)(c:x.ac.length=(ix l m mZ).ac.length):cnt (up l m x)=cnt l:=by obtain⟨k,rfl,a⟩:=zez (n:=l.length) b;unfold cnt up;rw[List.map_set,kO,c,zbh a];have:=@vF _ (l.map λx=>x.ac.length) k (by simpa using a);simpa using this
def zP5 {l a:List Mon}(h:cnt a=cnt l):a.length=l.length:=by have:=congrArg List.length h;simpa [cnt] using this
def z6g {l b:List Mon}(h:cnt b=cnt l)(m:Int):(ix b m mZ).ac.length=(ix l m mZ).ac.length:=by have a:(cnt b)[m.toNat]?=(cnt l)[m.toNat]?:=(by rw[h]);unfold cnt at a;rw[qP,qP]at a;unfold ix;simp only[kI];cases c:b[m.toNat]? <;> cases d:l[m.toNat]? <;> rw [c,d]at a<;>simp at a ⊢;exact a
def zbdT (h:ad)(m p:Int):(zer h m p).ag=h.ag:=(zhE (zfU h m p) m p C0).2
def zbdS (h:ad):(zdD h).ag=h.ag:=by unfold zdD;cases ieq (ln<|zcD h) 0;{rfl};{exact zbdT _ _ _}
def zbdR (m:List LI)(p:Int)(c:LI):(zkl m p c).length=m.length:=by unfold zkl;cases j0 p (ln m);{rfl};{cases zcN c;{rfl};{simp}}
def zbdP (m:List LI)(p c v:Int):(zbS m p c v).length=m.length:=by unfold zbS;cases zg3 m p c;{rfl};{cases zk v 0 99;{rfl};{simp}}
def z4N (h:ad)(m p:Int):(fetched h m p).ag.length=h.ag.length:=by unfold fetched zf2;rw[(zhE _ _ _ _).2];unfold landing;rw[zbdR,zbdS]
def zYN (h:ad)(m p n:Int):(zlm h m p n).ag=h.ag:=by unfold zlm;cases ieq (wand .i64 n 2) 0;{unfold opened;cases ieq (wand .i64 (ix (ix (zbO h m p).aa m mZ).ae p sZ).aj 2) 0;{rfl};{exact(zhE _ _ _ _).2}};{rfl}
def z7F (h:ad)(m p n:Int):(A0 h m p n).ag.length=h.ag.length:=by unfold A0;cases ieq (ix (ix h.aa m mZ).ae p sZ).af (-1);{exact congrArg List.length (zYN _ _ _ _)};{exact(congrArg List.length<|zYN _ _ _ _).trans (z4N _ _ _)}
def z7G (h:ad)(m g p:Int)(a:Bool):(zxz h m g p a).ag=h.ag:=by cases a<;>rfl
def zbab (h:ad)(b:List ar)(m g c a q:Int)(d:Bool):(zhm h b m g c a q d).1.ag.length=h.ag.length:=by unfold zhm;cases zjl b m g c a;{cases zfi h m g c a;{exact congrArg List.length (z7G _ _ _ _ _)};{exact(congrArg List.length<|z7G _ _ _ _ _).trans (z7F h m q a)}};{rfl}
def zbdQ (h:ad)(b:List ar)(m g page need:Int)(io:Bool):(lookOf h b m g page need io).1.ag.length=h.ag.length:=by unfold lookOf;cases zb8 h m g page need;{rfl};{simp only [cT];rw[zbab];cases ieq need 2<;>rfl}
structure Keep (h r:ad):Prop where
 shape:Shape r
 cnt:cnt r.aa=cnt h.aa
 mem:r.ag.length=h.ag.length
def Keep.has {h r:ad}(k:Keep h r){m:Int}(a:j0 m (ln h.aa)=true):j0 m (ln r.aa)=true:=by rw[ln,zP5 k.cnt];exact a
def Keep.hg {h r:ad}(k:Keep h r){m g:Int}(hg:j0 g (ln (ix h.aa m mZ).ac)=true):j0 g (ln (ix r.aa m mZ).ac)=true:=by rw[ln,z6g k.cnt];exact hg
def Keep.trans {a b c:ad}(h:Keep a b)(k:Keep b c):Keep a c:=⟨k.shape,k.cnt.trans h.cnt,k.mem.trans h.mem⟩
def Keep.rfl' {h:ad}(a:Shape h):Keep h h:=⟨a,rfl,rfl⟩
def zpx {h:ad}{m g:Int}{x:ah}(b:Shape h)(a:j0 m (ln h.aa)=true)(c:SmG x):Keep h (zg1 h m g x):=⟨z5G b a c,zWY a (by simp),rfl⟩
def zFj {h:ad}{b:List ar}{m g page need:Int}{io:Bool}(c:SmH h)(a:zbW h m g=true):Keep h (lookOf h b m g page need io).1:=by have k:=zvo (b:=b) (page:=page) (need:=need) (io:=io) c a;exact⟨k.shape,zbew k.gs,zbdQ _ _ _ _ _ _ _⟩
def z7o {h:ad}{p c v:Int}(a:Shape h):Keep h {h with ag:=zbS h.ag p c v}:=⟨zUf a<|zB4 a.1.1,rfl,zbdP _ _ _ _⟩
def z4z {h:ad}{m:Int}(a:Shape h)(b:j0 m (ln h.aa)=true):Keep h (owned h m):=by obtain⟨c,d⟩:=zcO a b;unfold owned;cases ilt (ix h.aa m mZ).Own 1000000000;{exact Keep.rfl' a};{exact⟨zkj a c d,zWY b rfl,rfl⟩}
def z4y {h:ad}{m n:Int}(b:Shape h)(c:j0 m (ln h.aa)=true):Keep h (zi1 h m n):=by obtain⟨a,d⟩:=zcO b c;unfold zi1;cases e:ilt (ln (ix h.aa m mZ).Outs) 40;{exact Keep.rfl' b};{have f:=qD e;simp only[ln]at f;refine⟨zkj b ⟨a.1,a.2.1,a.2.2.1,a.2.2.2.1,?_,a.2.2.2.2.2⟩ d,zWY c rfl,rfl⟩;simp[ap];omega}
def z7q {h:ad}{m g:Int}{x:ah}{w:Int}(d:Shape h)(b:j0 m (ln h.aa)=true)(e:SmG x):Keep h (zlD h m g x w):=by have a:Keep h (ze2 h m x w):=(by unfold ze2;cases (cond (ine w 6) (ieq (zn7 (ix h.aa m mZ).aq x.Ctl.aq<|zgb w) 2) false);{exact Keep.rfl' d};{exact z4z d b});have f:Keep (ze2 h m x w) (zhA (ze2 h m x w) m x w):=(by unfold zhA;cases (cond (zhZ x.Ctl.aq w) (ieq w 5) false);{exact Keep.rfl' a.shape};{exact z4y a.shape (a.has b)});have c:=a.trans f;exact c.trans (zpx c.shape (c.has b)<|zF4 _ _ e)
def z7p {h:ad}{m g:Int}(f:SmH h)(e:zbW h m g=true):Keep h (zbz h m g).1:=by obtain⟨l,a,n⟩:=zdq e;have d:=zlT f a n;have i:=(zgw f l).1;rw[zkk e];unfold zAt;cases ieq (zL<|gOf h m g) 0;{cases ieq (zL<|gOf h m g) 1;{cases ieq (zL<|gOf h m g) 2;{cases (cond (ieq (zL<|gOf h m g) 3) true<|ieq (zL<|gOf h m g) 4);{exact z7q i a d};{have k:=zFj (b:=h.ao) (page:=zbs (E0<|gOf h m g)) (need:=zcf (ieq (zL<|gOf h m g) 4)) (io:=false) f e;show Keep h (zia (zjf h m g (gOf h m g)<|ieq (zL<|gOf h m g) 4) m g (gOf h m g)<|ieq (zL<|gOf h m g) 4);unfold zia;cases (zjf h m g (gOf h m g)<|ieq (zL<|gOf h m g) 4).2.2;{exact k.trans (zpx k.shape (k.has a) d)};{cases ieq (zL<|gOf h m g) 4;{have k:=zFj (b:=h.ao) (page:=zbs (E0<|gOf h m g)) (need:=zcf false) (io:=false) f e;exact k.trans (zpx k.shape (k.has a)<|zPp _ d)};{have k:=zFj (b:=h.ao) (page:=zbs (E0<|gOf h m g)) (need:=zcf true) (io:=false) f e;have q:=z7o (p:=(zjf h m g (gOf h m g) true).2.1) (c:=zdO (E0<|gOf h m g)) (v:=(gOf h m g).A) k.shape;have j:=k.trans q;exact j.trans (zpx j.shape (j.has a)<|znb d)}}}};{exact zpx i a (zJh d)}};{exact zpx i a (z3e d)}};{exact Keep.rfl' i}
structure Same (h r:ad):Prop where
 sm:SmH r
 cnt:cnt r.aa=cnt h.aa
 mem:r.ag.length=h.ag.length
 st:r=h\/Shape r
def Same.rfl' {h:ad}(a:SmH h):Same h h:=⟨a,rfl,rfl,.inl rfl⟩
def Same.trans {a b c:ad}(h:Same a b)(k:Same b c):Same a c:=⟨k.sm,k.cnt.trans h.cnt,k.mem.trans h.mem,by
 rcases k.st with e|e
 .rw [e];exact h.st
 .exact .inr e⟩
def zUe {h:ad}(m g:Int)(b:SmH h):Same h (zbz h m g).1:=by cases a:zbW h m g;{rw [zjv a];exact Same.rfl' b};{have k:=z7p b a;exact⟨k.shape.1,k.cnt,k.mem,.inr k.shape⟩}
def tick (t:Int×ad)(m g:Int):Int×ad:=(cond ((zbz t.2 m g).2) (zI .i64 t.1 1) t.1,(zbz t.2 m g).1)
def zcz (m:Int):Nat->Nat->Int×ad->Int×ad
 | 0,_,t=>t
 |n+1,g,t=>zcz m n (g+1) (tick t m (g:Int))
def zep:List Nat->Nat->Int×ad->Int×ad
 |[],_,t=>t
 |c::l,m,t=>zep l (m+1) (zcz (m:Int) c 0 t)
def zci (h:ad):Int×ad:=zep (cnt h.aa) 0 (0,h)
def zx3 {t:Int×ad}(m g:Int)(a:SmH t.2):Same t.2 (tick t m g).2:=zUe m g a
def zBZ (m:Int):∀(n g:Nat) (t:Int×ad),SmH t.2->Same t.2 (zcz m n g t).2
 | 0,_,_,a=>Same.rfl' a
 |n+1,g,t,a=>(zx3 m (g:Int) a).trans (zBZ m n (g+1) _ (zx3 m (g:Int) a).sm)
def zUd:∀(l:List Nat) (m:Nat) (t:Int×ad),SmH t.2->Same t.2 (zep l m t).2
 |[],_,_,a=>Same.rfl' a
 |c::l,m,t,a=>(zBZ (m:Int) c 0 t a).trans (zUd l (m+1) _ (zBZ (m:Int) c 0 t a).sm)
def zvh {h:ad}(a:SmH h):Same h (zci h).2:=zUd _ 0 (0,h) a
def zyC (t:Int×ad):OA:=some [AV.agg<|zbt t.2,AV.one<|.i .i64 t.1]
@[simp] abbrev zdk (h:ad):ad:=(zci h).2
@[simp] abbrev zgT (h:ad):Int:=(zci h).1
def zhU:Run:=rF1 dH λb=>(zbn b,[aH<|zdk b,aI<|zgT b])
def zCc (N:Nat)(c:ad):OA:=
 (oN (zbn c)<|r0 (σ:=(Int×Int×Int×lM×lN×lE×lE×lM×lN×lE×lE×lM×lN×lE×lE×Unit)) N (λx b=>let c:=b.2.2.2.2.2.2.2;let o:=c.2.2.2.2;let m:=o.2.1;let l:=o.2.2.1;let k:=o.2.2.2.1; (cond (ilt b.2.2.1 b.2.1) (oN (inb b.2.2.1<|ln b.2.2.2.2.1)<|r0 (σ:=(Int×Int×Int×Int×Int×Int×lM×lN×lE×lE×lM×lN×lE×lE×lM×lN×lE×lE×Unit)) N (λv a=>let b:=a.2.2.2.2.2.2.2.2;let c:=b.2.2.2.2;let f:=a.2.2.2.2.2.2.1;let j:=c.2.2.1;let e:=a.2.2.2.2.2.2.2.1;let i:=c.2.2.2.1;let h:=c.2.2.2.2.1;let u:=b.1;let w:=c.2.2.2.2.2.1;let t:=b.2.1;let s:=b.2.2.1;let r:=b.2.2.2.1;let q:=c.1;let p:=c.2.1;let g:=a.2.2.2.2.2.1;let n:=(⟨j,i,h,w⟩:ad);let d:=zcm n a.2.1 g; (cond (ilt g a.2.2.2.2.1) (oN (zc4 n a.2.1 g)<|cond (zcn n a.2.1 g) (v (zI .i64 a.1 1,a.2.1,a.2.2.1,a.2.2.2.1,a.2.2.2.2.1,zI .i64 g 1,f,e,u,t,s,r,q,p,d.ag,d.aa,d.ao,d.ak,()))<|v (a.1,a.2.1,a.2.2.1,a.2.2.2.1,a.2.2.2.2.1,zI .i64 g 1,f,e,u,t,s,r,q,p,d.ag,d.aa,d.ao,d.ak,()))<|x (a.1,a.2.2.1,zI .i64 a.2.2.2.1 1,f,e,u,t,s,r,q,p,j,i,h,w,()))) (b.1,b.2.2.1,b.2.1,b.2.2.1,ln (ix b.2.2.2.2.1 b.2.2.1 zi).ac,0,b.2.2.2.1,b.2.2.2.2.1,b.2.2.2.2.2.1,b.2.2.2.2.2.2.1,c.1,c.2.1,c.2.2.1,c.2.2.2.1,o.1,m,l,k,()))<|some [aH (⟨o.1,m,l,k⟩:ad),aI b.1])) (0,ln c.aa,0,c.ag,c.aa,c.ao,c.ak,[],[],[],[],(zn c).ag,(zn c).aa,(zn c).ao,(zn c).ak,()))
def zPC:=zq [(16,0,{n:=43,tm:=[(1,.lp 0 0),(2,.lp 1 0),(4,.lp 2 0),(5,ti),(14,ti),(15,ti)],lo:=[(0,[.sl 0 [],.sl 1 [],.sl 2 [],.sl 3 []]),(1,[.sl 4 [],.sl 5 [],.sl 6 [],.sl 7 []]),(2,[.sl 8 [],.sl 9 [],.sl 10 [],.sl 11 []])],ro:=[(0,.sl .int,false),(1,.mon,false),(2,.entry,false),(3,.entry,false),(4,.sl .int,true),(5,.mon,true),(6,.entry,true),(7,.entry,true),(8,.sl .int,true),(9,.mon,true),(10,.entry,true),(11,.entry,true)]}),(16,2,{n:=43,tm:=[(1,.lp 0 0),(2,.lp 1 0),(4,.lp 2 0),(5,ti),(6,ti),(14,ti),(15,ti),(24,ti),(25,ti)],lo:=[(0,[.sl 0 [],.sl 1 [],.sl 2 [],.sl 3 []]),(1,[.sl 4 [],.sl 5 [],.sl 6 [],.sl 7 []]),(2,[.sl 8 [],.sl 9 [],.sl 10 [],.sl 11 []])],ro:=[(0,.sl .int,false),(1,.mon,false),(2,.entry,false),(3,.entry,false),(4,.sl .int,true),(5,.mon,true),(6,.entry,true),(7,.entry,true),(8,.sl .int,true),(9,.mon,true),(10,.entry,true),(11,.entry,true)]})]
def zWX {l:List Mon}{i:Nat}(b:i<l.length):(cnt l).drop i=(ix l (i:Int) mZ).ac.length::(cnt l).drop (i+1):=by have a:i<(cnt l).length:=(by simpa [cnt] using b);rw[kD a,zbh b];simp[cnt]
def cnt_end (l:List Mon):(cnt l).drop l.length=[]:=u4 (by simp[cnt])
def zOa (a:ad)(p:zbn a=true):∃N,zCc N a=some [aH<|zdk a,aI<|zgT a]:=by
 have g:=(zT a).1 (zM.1 p);have n:=zcc g.2.1.1;refine zb2 λN c=>?_;unfold zCc oN;conv=>zeta
 refine i0 (zbr<|(zT _).2 g) ?_;show _=zyC (zci a)
 refine(zha a.aa.length (λi (t:Int×ad)=>(t.1,ln a.aa,(i:Int),a.ag,a.aa,a.ao,a.ak,[],[],[],[],t.2.ag,t.2.aa,t.2.ao,t.2.ak,())) _
  (λ_ t=>SmH t.2) (λi t=>zyC (zep ((cnt a.aa).drop i) i t)) (λi t rec b l r=>?_) (λt rec l=>?_) N 0 (0,a) g (jN _) (c n.1)).trans rfl
 .have hg:(ix a.aa (i:Int) mZ).ac.length<=big:=by rw[zbh b];exact(zcc (g.2.1.2 _<|jE b).2.2.2.1.1).1
  refine i0 (zbo b) (i0 (zX b) ?_);rw[zWX b];refine(zha (ix a.aa (i:Int) mZ).ac.length (λj (t:Int×ad)=>(t.1,(i:Int),ln a.aa,(i:Int),ln (ix a.aa (i:Int) mZ).ac,(j:Int),a.ag,a.aa,a.ao,a.ak,[],[],[],[],t.2.ag,t.2.aa,t.2.ao,t.2.ak,())) _
   (λ_ t=>SmH t.2) (λj t=>zyC (zep ((cnt a.aa).drop (i+1)) (i+1)<|zcz (i:Int) ((ix a.aa (i:Int) mZ).ac.length-j) j t)) (λj t d m f k=>?_) (λt d f=>?_) N 0 t l (jN _) (c hg)).trans rfl
  {have e:(ix a.aa (i:Int) mZ).ac.length-j=((ix a.aa (i:Int) mZ).ac.length-(j+1))+1:=(by omega);have q:=k (tick t (i:Int) (j:Int)) (zx3 (i:Int) (j:Int) f).sm;refine i0 (zbo m) (i0 (zbr<|(zT _).2 f) ?_);rw[e];simp only[zcz,zY m hg];rw[<- q];unfold tick;refine br (λh=>?_) (λh=>?_);{rw [show (zbz t.2 (i:Int) (j:Int)).2=true from h];rfl};{rw [show (zbz t.2 (i:Int) (j:Int)).2=false from h];rfl}};{refine zcB zbj ?_;simp only[kH,zcz,zY b n.1];exact r t f}
 {refine zcB zbj ?_;rw[cnt_end];rfl}
def zuw:vU 16 zhU:=kF1 zA2 zA zb9 zfL zPC zOa
def zCu (N:Nat)(e:ad):OA:=
 (oN (zbn e)<|r0 (σ:=(Int×Int×lM×lN×lE×lE×lM×lN×lE×lE×Unit)) N (λm b=>let e:=b.2.2.2.2;let f:=b.2.2.2.1; (cond (ilt b.2.1<|ln f) (oN (inb b.2.1<|ln f)<|r0 (σ:=(Int×Int×Int×Int×lM×lN×lE×lE×lM×lN×lE×lE×Unit)) N (λl a=>let b:=a.2.2.2.2.2;let k:=b.2.2.2.1;let j:=b.2.2.2.2.1;let d:=a.2.2.2.1;let i:=b.2.2.2.2.2.1;let h:=b.2.2.2.2.2.2.1;let g:=(⟨a.2.2.2.2.1,b.1,b.2.1,b.2.2.1⟩:ad);let c:=zcm g a.2.1 d; (cond (ilt d a.2.2.1) (oN (zc4 g a.2.1 d)<|cond (zcn g a.2.1 d) (l (zI .i64 a.1 1,a.2.1,a.2.2.1,zI .i64 d 1,c.ag,c.aa,c.ao,c.ak,k,j,i,h,()))<|l (a.1,a.2.1,a.2.2.1,zI .i64 d 1,c.ag,c.aa,c.ao,c.ak,k,j,i,h,()))<|m (a.1,zI .i64 a.2.1 1,a.2.2.2.2.1,b.1,b.2.1,b.2.2.1,k,j,i,h,()))) (b.1,b.2.1,ln (ix f b.2.1 zi).ac,0,b.2.2.1,f,e.1,e.2.1,e.2.2.1,e.2.2.2.1,e.2.2.2.2.1,e.2.2.2.2.2.1,()))<|some [aH (⟨b.2.2.1,f,e.1,e.2.1⟩:ad),aI b.1])) (0,0,(zn e).ag,(zn e).aa,(zn e).ao,(zn e).ak,[],[],[],[],()))
def zPO:=zq [(17,0,{n:=42,tm:=[(1,.lp 0 0),(2,.lp 1 0),(4,ti),(5,ti)],lo:=[(0,[.sl 0 [],.sl 1 [],.sl 2 [],.sl 3 []]),(1,[.sl 4 [],.sl 5 [],.sl 6 [],.sl 7 []])],ro:=[(0,.sl .int,true),(1,.mon,true),(2,.entry,true),(3,.entry,true),(4,.sl .int,true),(5,.mon,true),(6,.entry,true),(7,.entry,true)]}),(17,2,{n:=42,tm:=[(1,.lp 0 0),(2,.lp 1 0),(4,ti),(5,ti),(6,ti),(7,ti)],lo:=[(0,[.sl 0 [],.sl 1 [],.sl 2 [],.sl 3 []]),(1,[.sl 4 [],.sl 5 [],.sl 6 [],.sl 7 []])],ro:=[(0,.sl .int,true),(1,.mon,true),(2,.entry,true),(3,.entry,true),(4,.sl .int,true),(5,.mon,true),(6,.entry,true),(7,.entry,true)]})]
def zOt (a:ad)(s:zbn a=true):∃N,zCu N a=some [aH<|zdk a,aI<|zgT a]:=by
 have m:=(zT a).1 (zM.1 s);have r:=zcc m.2.1.1;refine zb2 λN f=>?_;unfold zCu oN;conv=>zeta
 refine i0 (zbr<|(zT _).2 m) ?_;show _=zyC (zci a)
 refine(zha a.aa.length (λi (t:Int×ad)=>(t.1,(i:Int),t.2.ag,t.2.aa,t.2.ao,t.2.ak,[],[],[],[],())) _
  (λ_ t=>Same a t.2) (λi t=>zyC (zep ((cnt a.aa).drop i) i t)) (λi t rec g c v=>?_) (λt rec c=>?_) N 0 (0,a) (Same.rfl' m) (jN _) (f r.1)).trans rfl
 .have b:=zP5 c.cnt;have k:i<t.2.aa.length:=(by rw[b];exact g);have n:(ix t.2.aa (i:Int) mZ).ac.length=(ix a.aa (i:Int) mZ).ac.length:=z6g c.cnt _;have hg:(ix a.aa (i:Int) mZ).ac.length<=big:=(by rw[zbh g];exact(zcc (m.2.1.2 _<|jE g).2.2.2.1.1).1);refine i0 (zbo k) (i0 (zX k) ?_);rw[zWX g];show r0 N _ (t.1,(i:Int),((ix t.2.aa (i:Int) mZ).ac.length:Int),0,_)=_
  rw[n];refine(zha (ix a.aa (i:Int) mZ).ac.length (λj (t:Int×ad)=>(t.1,(i:Int),((ix a.aa (i:Int) mZ).ac.length:Int),(j:Int),t.2.ag,t.2.aa,t.2.ao,t.2.ak,[],[],[],[],())) _
   (λ_ t=>Same a t.2) (λj t=>zyC (zep ((cnt a.aa).drop (i+1)) (i+1)<|zcz (i:Int) ((ix a.aa (i:Int) mZ).ac.length-j) j t)) (λj t l u d p=>?_) (λt l d=>?_) N 0 t c (jN _) (f hg)).trans rfl
  {have e:(ix a.aa (i:Int) mZ).ac.length-j=((ix a.aa (i:Int) mZ).ac.length-(j+1))+1:=(by omega);have q:=p (tick t (i:Int) (j:Int)) (d.trans<|zx3 (i:Int) (j:Int) d.sm);refine i0 (qH (show (j:Int)<((ix a.aa (i:Int) mZ).ac.length:Int) by omega)) (i0 (zbr<|(zT _).2 d.sm) ?_);rw[e];simp only[zcz,zY u hg];rw[<- q];unfold tick;refine br (λh=>?_) (λh=>?_);{rw [show (zbz t.2 (i:Int) (j:Int)).2=true from h];rfl};{rw [show (zbz t.2 (i:Int) (j:Int)).2=false from h];rfl}};{refine zcB (qI (show ¬ (((ix a.aa (i:Int) mZ).ac.length:Int)<((ix a.aa (i:Int) mZ).ac.length:Int)) by omega)) ?_;simp only[kH,zcz,zY g r.1];exact v t d}
 {have b:=zP5 c.cnt;refine zcB ?_ ?_;{show ilt ((a.aa.length:Nat):Int) (ln t.2.aa)=false;rw[ln,b];exact qI (by omega)};{rw [cnt_end];rfl}}
def zuB:vU 17 zhU:=kF1 zA2 zA zb9 zfL zPO zOt
def zbeG:zZ:=[(16,zhU),(17,zhU)]++z3W
def zTC:zS zbeG:=zh zuw (zh zuB zA2)
def zfr:Nat->Int×ad->Int×ad
 | 0,t=>t
 |n+1,t=>zfr n (zI .i64 t.1 (zci t.2).1,(zci t.2).2)
def zZE:∀(n:Nat) (t:Int×ad),SmH t.2->Same t.2 (zfr n t).2
 | 0,_,a=>Same.rfl' a
 |n+1,t,a=>(zvh a).trans (zZE n (zI .i64 t.1 (zci t.2).1,(zci t.2).2) (zvh a).sm)
@[simp] abbrev zlZ (h:ad)(_:Int):Bool:=pc (zdx h)
@[simp] abbrev zhk (h:ad)(r:Int):ad:=(zfr (brought r 0 40).toNat (0,h)).2
@[simp] abbrev zlY (h:ad)(r:Int):Int:=(zfr (brought r 0 40).toNat (0,h)).1
def zoI:Run:=rF2 dH dI λb c=>(zlZ b c,[aH<|zhk b c,aI<|zlY b c])
def zHQ (N:Nat)(c:ad)(d:Int):OA:=
 (oN (zbn c)<|r0 (σ:=(Int×Int×Int×lM×lN×lE×lE×lM×lN×lE×lE×Unit)) N (λe a=>let c:=a.2.2.2.2.2;let b:=(⟨c.2.2.1,c.2.2.2.1,c.2.2.2.2.1,c.2.2.2.2.2.1⟩:ad); (oN (zis a.1 0 40)<|cond (ilt a.2.2.1<|zgS a.1 0 40) (oN (zbn b)<|e (a.1,zI .i64 a.2.1<|zgT b,zI .i64 a.2.2.1 1,a.2.2.2.1,a.2.2.2.2.1,c.1,c.2.1,(zdk b).ag,(zdk b).aa,(zdk b).ao,(zdk b).ak,()))<|some [aH b,aI a.2.1])) (d,0,0,[],[],[],[],(zn c).ag,(zn c).aa,(zn c).ao,(zn c).ak,()))
def zVW:=zq [(13,0,{n:=30,tm:=[(1,ti),(4,.lp 0 0),(6,.lp 1 0),(7,ti),(8,ti)],lo:=[(0,[.sl 0 [],.sl 1 [],.sl 2 [],.sl 3 []]),(1,[.sl 4 [],.sl 5 [],.sl 6 [],.sl 7 []])],ro:=[(0,.sl .int,true),(1,.mon,true),(2,.entry,true),(3,.entry,true),(4,.sl .int,true),(5,.mon,true),(6,.entry,true),(7,.entry,true)]})]
def zUZ (b:ad)(a:Int)(g:zbE big [aH b,aI a])(h:zlZ b a=true):∃N,zHQ N b a=some [aH<|zhk b a,aI<|zlY b a]:=by
 have f:=(zT b).1 (zM.1 h);have g:=zEC a;refine zb2 λN d=>?_;unfold zHQ oN;conv=>zeta
 refine i0 (zbr<|(zT _).2 f) ?_;show _=zyC (zfr (brought a 0 40).toNat (0,b));refine zha (brought a 0 40).toNat (λi (t:Int×ad)=>(a,t.1,(i:Int),[],[],[],[],t.2.ag,t.2.aa,t.2.ao,t.2.ak,())) _ (λ_ t=>SmH t.2) (λi t=>zyC (zfr ((brought a 0 40).toNat-i) t)) (λi t rec j c k=>?_) (λt rec c=>?_) N 0 (0,b) f (jN _) (d (by rw[ziJ];omega));{refine i0 rfl (i0 (qH (by show (i:Int)<brought a 0 40;omega))<|i0 (zbr<|(zT _).2 c) ?_);have e:(brought a 0 40).toNat-i=((brought a 0 40).toNat-(i+1))+1:=(by omega);simp only[zY j (by rw[ziJ];omega)];rw[e];exact k (zI .i64 t.1 (zci t.2).1,(zci t.2).2) (zvh c).sm};{refine i0 rfl (zcB (qI (by show ¬ (((brought a 0 40).toNat:Nat):Int)<brought a 0 40;omega)) ?_);simp only[kH,zfr];rfl}
def zM8:vU 13 zoI:=hF2 zTC zA zb9 zfL zVW zUZ
def zH6 (N:Nat)(c:ad)(d:Int):OA:=
 (oN (zbn c)<|oN (zis d 0 40)<|r0 (σ:=(Int×Int×lM×lN×lE×lE×lM×lN×lE×lE×Unit)) N (λe a=>let c:=a.2.2.2.2;let b:=(⟨a.2.2.1,a.2.2.2.1,c.1,c.2.1⟩:ad); (cond (igt a.2.1 0) (oN (zbn b)<|e (zI .i64 a.1<|zgT b,wsub .i64 a.2.1 1,(zdk b).ag,(zdk b).aa,(zdk b).ao,(zdk b).ak,c.2.2.1,c.2.2.2.1,c.2.2.2.2.1,c.2.2.2.2.2.1,()))<|some [aH b,aI a.1])) (0,zgS d 0 40,(zn c).ag,(zn c).aa,(zn c).ao,(zn c).ak,[],[],[],[],()))
def zV1:=zq [(19,0,{n:=27,tm:=[(2,.lp 0 0),(4,.lp 1 0),(6,ti),(7,ti)],lo:=[(0,[.sl 0 [],.sl 1 [],.sl 2 [],.sl 3 []]),(1,[.sl 4 [],.sl 5 [],.sl 6 [],.sl 7 []])],ro:=[(0,.sl .int,true),(1,.mon,true),(2,.entry,true),(3,.entry,true),(4,.sl .int,true),(5,.mon,true),(6,.entry,true),(7,.entry,true)]})]
def zVe (b:ad)(a:Int)(j:zbE big [aH b,aI a])(k:zlZ b a=true):∃N,zH6 N b a=some [aH<|zhk b a,aI<|zlY b a]:=by
 have f:=(zT b).1 (zM.1 k);have j:=zEC a;refine zb2 λN d=>?_;unfold zH6 oN;conv=>zeta
 refine i0 (zbr<|(zT _).2 f) (i0 rfl ?_);have g:zgS a 0 40=(((brought a 0 40).toNat-0:Nat):Int):=(by show brought a 0 40=_;omega);rw[g];show _=zyC (zfr (brought a 0 40).toNat (0,b));refine zha (brought a 0 40).toNat (λi (t:Int×ad)=>(t.1,(((brought a 0 40).toNat-i:Nat):Int),t.2.ag,t.2.aa,t.2.ao,t.2.ak,[],[],[],[],())) _ (λ_ t=>SmH t.2) (λi t=>zyC (zfr ((brought a 0 40).toNat-i) t)) (λi t rec m c l=>?_) (λt rec c=>?_) N 0 (0,b) f (jN _) (d (by rw[ziJ];omega));{refine i0 (qH (by show (((brought a 0 40).toNat-i:Nat):Int)>0;omega)) (i0 (zbr<|(zT _).2 c) ?_);have e:(brought a 0 40).toNat-i=((brought a 0 40).toNat-(i+1))+1:=(by omega);have h:wsub .i64 (((brought a 0 40).toNat-i:Nat):Int) 1=(((brought a 0 40).toNat-(i+1):Nat):Int):=(by rw[zpJ (by omega) (by omega)];omega);simp only[h];rw[e];exact l (zI .i64 t.1 (zci t.2).1,(zci t.2).2) (zvh c).sm};{refine zcB (qI (by show ¬ (((brought a 0 40).toNat-(brought a 0 40).toNat:Nat):Int)>0;omega)) ?_;simp only[kH,zfr];rfl}
def zNn:vU 19 zoI:=hF2 zTC zA zb9 zfL zV1 zVe
end
end Go.Proofs.YtapgkefgcbapcaaGreat.E
