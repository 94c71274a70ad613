/- What is proved here: a part of the proof of the claim. -/
import Derived.Test.YtapgkefgcbapcaaGreatY3
namespace Go.Proofs.YtapgkefgcbapcaaGreat.E
open Go
set_option linter.defProp false
set_option linter.constructorNameAsVariable false
set_option linter.unusedVariables false
set_option maxRecDepth 100000
set_option linter.unusedSimpArgs false
set_option linter.unusedSectionVars false
noncomputable section
def zN (_ _ _:Int):Bool:=true
def zk (x a b:Int):Bool:=ige x a&&ile x b
def znj:Run:=rF3 dI dI dI λb c d=>(zN b c d,[aB<|zk b c d])
def zPn (N:Nat)(a b c:Int):OA:=
 (cond (ige a b) (some [aB<|ile a c]) oF)
def zGv (a b c:Int)(d:zbT big [aI a,aI b,aI c])(e:zN a b c=true):∃N,zPn N a b c=some [aB<|zk a b c]:=by refine⟨0,?_⟩;unfold zPn zk;cases ige a b<;>rfl
def zAD:vR 121 znj:=hF3 ztC zQ zB zq (zx []) zGv
def zcH (_ _:Int):Bool:=true
abbrev zkf (i n:Int):Bool:=i0 i n
def zDm:Run:=rF2 dI dI λb c=>(zcH b c,[aB<|zkf b c])
def zXr (N:Nat)(a b:Int):OA:=
 (cond (ige a 0) (some [aB<|ilt a b]) oF)
def z19 (a b:Int)(c:zcH a b=true):∃N,zXr N a b=some [aB<|zkf a b]:=by refine⟨0,?_⟩;unfold zXr zkf;rw[<- has_eq];cases ige a 0<;>rfl
def zGr:vR 154 zDm:=kF2 ztC zQ zB zq (zx []) z19
def zvP {n:Nat}(c:n<=big)(i:Int):zk i 0 (wsub .i64 (n:Int) 1)=i0 i n:=by rw[zqr]at c;rw[zyK (by omega) (by omega)];unfold zk ige ile i0;by_cases a:0<=i<;>by_cases b:i<n;{rw [qK (p:=i≥0) (by omega),qK (p:=i<=(n:Int)-1) (by omega),qK (p:=0<=i/\i<(n:Int)) ⟨a,b⟩];rfl};{rw [qV (p:=i<=(n:Int)-1) (by omega),qV (p:=0<=i/\i<(n:Int)) (by omega)];simp};{rw [qV (p:=i≥0) (by omega),qV (p:=0<=i/\i<(n:Int)) (by omega)];simp};{rw [qV (p:=i≥0) (by omega),qV (p:=0<=i/\i<(n:Int)) (by omega)];simp}
def zgL (l:List LI):Bool:=pc (CVB sm<|.s (.sl .int) l)
abbrev ze7 (l:List LI):List LI:=l
def zA6:Run:=rF1 (dS<|.sl .int) λb=>(zgL b,[aS (.sl .int)<|ze7 b])
def zF4 (N:Nat)(c:lM):OA:=
 (r0 (σ:=(Int×lM×lM×Unit)) N (λd a=>let b:=ap []<|ix a.2.1 a.1 []; (cond (ilt a.1<|ln a.2.1) (oN (inb a.1<|ln a.2.1)<|oN (few<|ln b)<|oN (few<|ln<|ap a.2.2.1 [b])<|d (zK .i64 a.1 1,a.2.1,ap a.2.2.1 [b],()))<|some [aS (.sl .int) a.2.2.1])) (0,c,[],()))
def zRZ:=zx [(257,0,{n:=22,tm:=[(0,.sl 0 []),(3,.sl 1 []),(4,ti)],lo:=[],ro:=[(0,.sl .int,false),(1,.sl .int,true)]})]
def zRr (b:List LI)(f:zgL b=true):∃N,zF4 N b=some [aS (.sl .int)<|ze7 b]:=by
 have e:=zS.1 f;have d:=zcV e.len;refine⟨b.length+1,?_⟩;unfold zF4 oN;conv=>zeta
 refine(zbq b (λi a=>((i:Int),b,a,())) _ (λ_ x a k=>bif few (ln x) then (cond (few<|ln<|ap a [x]) (k<|ap a [x]) none) else none) (λa=>some [AV.one<|.s (.sl .int) a])
  (λi c t rec=>?_) (λt rec=>?_) _ [] (jO _)).trans (zj7 (λx=>few (ln x)) (λx=>x) _ b 0 [] (λx g=>⟨zfO (zcV (e.inv.2 x g _ (qD.2 rfl)).len).2,rfl⟩) (by simpa using d.2))
 {simp only [zbu c,zT c,zbi c,cT,zbj c d.1,zm5]};{simp only [zbh,cF]}
def zKF:vR 257 zA6:=kF1 ztC zQ zB zq zRZ zRr
abbrev zgM (k:ax):Bool:=pc (∀c∈Ty.cells .kept k,CVB sm c)
abbrev zdK (k:ax):ax:=k
def zA7:Run:=rF1 (dT .kept) λb=>(zgM b,[aT .kept<|zdK b])
def zF5 (N:Nat)(a:ax):OA:=
 (oN (few<|ln<|ap [] a.ay)<|oN (few<|ln<|ap [] a.aA)<|some [.agg [.s .bool<|ap [] a.ay,.s .slot<|ap [] a.aA]])
def zRs (a:ax)(d:zgM a=true):∃N,zF5 N a=some [aT .kept<|zdK a]:=by have h:=zS.1 d;have b:=zoX (h (.s .bool a.ay) (by simp[Ty.cells]));have c:=zoX (h (.s .slot a.aA) (by simp[Ty.cells]));refine⟨0,?_⟩;simp only[zF5,zm5,b,c,cT];rfl
def zKH:vR 360 zA7:=kF1 ztC zQ zB zq (zx []) zRs
def zdE (g:ah):Bool:=pc (∀c∈Ty.cells .guest g,CVB sm c)
abbrev zde (g:ah):ah:=g
def zA8:Run:=rF1 (dT .guest) λb=>(zdE b,[aT .guest<|zde b])
def zF6 (N:Nat)(a:ah):OA:=
 (oN (few<|ln<|ap [] a.aw)<|oN (few<|ln<|ap [] a.az)<|oN (few<|ln<|ap [] a.av)<|oN (few<|ln<|ap [] a.aC)<|some [.agg [.s .ins<|ap [] a.aw,.i .i64 a.A,.i .i64 a.Pc,.s .slot<|ap [] a.az,.s .slot<|ap [] a.av,.i .i64 a.Ctl.aq,.i .i64 a.Ctl.Post,.b a.Ctl.Open,.i .i64 a.ak,.i .i64 a.Exit.Kind,.i .i64 a.Exit.af,.b a.Exit.Write,.i .i64 a.Exit.N,.b a.aF,.s .int<|ap [] a.aC]])
def zRt (a:ah)(f:zdE a=true):∃N,zF6 N a=some [aT .guest<|zde a]:=by have h:=zS.1 f;have b:=zoX (h (.s .ins a.aw) (by simp[Ty.cells]));have c:=zoX (h (.s .slot a.az) (by simp[Ty.cells]));have d:=zoX (h (.s .slot a.av) (by simp[Ty.cells]));have e:=zoX (h (.s .int a.aC) (by simp[Ty.cells]));refine⟨0,?_⟩;simp only[zF6,zm5,b,c,d,e,cT];rfl
def zKL:vR 403 zA8:=kF1 ztC zQ zB zq (zx []) zRt
def z6k:zW:=[(121,znj),(154,zDm),(257,zA6),(360,zA7),(403,zA8)]++ctrX
def zSP:zL z6k:=zh zAD (zh zGr<|zh zKF<|zh zKH<|zh zKL ztC)
def zgh (l:List ah):Bool:=pc (CVB sm<|.s .guest l)
abbrev zgO (l:List ah):List ah:=l
def zwe:Run:=rF1 (dS .guest) λb=>(zgh b,[aS .guest<|zgO b])
def zAr (N:Nat)(c:lG):OA:=
 (r0 (σ:=(Int×lG×lG×Unit)) N (λd a=>let b:=ix a.2.1 a.1 zD; (cond (ilt a.1<|ln a.2.1) (oN (inb a.1<|ln a.2.1)<|oN (zdE b)<|oN (few<|ln<|ap a.2.2.1 [zde b])<|d (zK .i64 a.1 1,a.2.1,ap a.2.2.1 [zde b],()))<|some [aS .guest a.2.2.1])) (0,c,[],()))
def zMB:=zx [(370,0,{n:=21,tm:=[(0,.sl 0 []),(3,.sl 1 []),(4,ti)],lo:=[],ro:=[(0,.guest,false),(1,.guest,true)]})]
def zLo (b:List ah)(f:zgh b=true):∃N,zAr N b=some [aS .guest<|zgO b]:=by
 have e:=zS.1 f;have d:=zcV e.len;refine⟨b.length+1,?_⟩;unfold zAr oN;conv=>zeta
 refine(zbq b (λi a=>((i:Int),b,a,())) _ (λ_ x a k=>bif zdE x then (cond (few<|ln<|ap a [zde x]) (k<|ap a [zde x]) none) else none) (λa=>some [AV.one<|.s .guest a])
  (λi c t rec=>?_) (λt rec=>?_) _ [] (jO _)).trans (zj7 zdE zde _ b 0 [] (λx g=>⟨zY<|e.inv.2 x g,rfl⟩) (by simpa using d.2))
 {simp only [zbu c,zT c,zbi c,cT,zbj c d.1]};{simp only [zbh,cF]}
def zE4:vR 370 zwe:=kF1 zSP zQ zB zq zMB zLo
def z6l:zW:=[(370,zwe)]++z6k
def zSQ:zL z6l:=zh zE4 zSP
abbrev zhE (m:Mon):Bool:=pc (∀c∈Ty.cells .mon m,CVB sm c)
abbrev zmd (m:Mon):Mon:=m
def zuK:Run:=rF1 (dT .mon) λb=>(zhE b,[aT .mon<|zmd b])
def zJA (N:Nat)(b:Mon):OA:=
 (oN (few<|ln<|ap [] b.ae)<|oN (zgL b.Out)<|oN (few<|ln<|ap [] b.ar)<|oN (zgh b.ac)<|oN (few<|ln<|ap [] b.Outs)<|r0 (σ:=(Int×Int×Int×Int×Int×Int×Int×lK×lS×lM×lB×lG×LI×lK×lS×lM×lB×lG×LI×lK×Unit)) N (λf a=>let b:=a.2.2.2.2.2.2.2.2;let g:=b.2.2.2.2.2;let e:=b.2.2.2.2.1;let c:=g.1;let d:=ap a.2.2.2.2.2.2.2.1 [zdK<|ix c a.1 zex]; (cond (ilt a.1<|ln c) (oN (inb a.1<|ln c)<|oN (zgM<|ix c a.1 zex)<|oN (few<|ln d)<|f (zK .i64 a.1 1,a.2.1,a.2.2.1,a.2.2.2.1,a.2.2.2.2.1,a.2.2.2.2.2.1,a.2.2.2.2.2.2.1,d,b.1,b.2.1,b.2.2.1,b.2.2.2.1,e,c,g.2.1,g.2.2.1,g.2.2.2.1,g.2.2.2.2.1,g.2.2.2.2.2.1,g.2.2.2.2.2.2.1,()))<|some [.agg [.s .slot b.1,.s (.sl .int) b.2.1,.s .bool b.2.2.1,.s .guest b.2.2.2.1,.s .int e,.i .i64 a.2.1,.i .i64 a.2.2.1,.s .kept a.2.2.2.2.2.2.2.1,.i .i64 a.2.2.2.1]])) (0,b.ak,b.aq,b.Own,0,0,0,[],ap [] b.ae,ze7 b.Out,ap [] b.ar,zgO b.ac,ap [] b.Outs,b.ai,[],[],[],[],[],[],()))
def zVP:=zx [(201,0,{n:=48,tm:=[(1,.lp 0 0),(2,.lp 1 0),(3,.sl 0 []),(4,ti)],lo:=[(0,[.sl 1 [],.sl 2 [],.sl 3 [],.sl 4 [],.sl 5 [],ti,ti,.sl 6 [],ti]),(1,[.sl 7 [],.sl 8 [],.sl 9 [],.sl 10 [],.sl 11 [],ti,ti,.sl 12 [],ti])],ro:=[(0,.kept,true),(1,.slot,true),(2,.sl .int,true),(3,.bool,true),(4,.guest,true),(5,.int,true),(6,.kept,false),(7,.slot,true),(8,.sl .int,true),(9,.bool,true),(10,.guest,true),(11,.int,true),(12,.kept,true)]})]
def zUa (a:Mon)(n:zhE a=true):∃N,zJA N a=some [aT .mon<|zmd a]:=by
 have h:=zS.1 n;have f:=zoX (h (.s .slot a.ae) (by simp[Ty.cells]));have g:zgL a.Out=true:=zY (h (.s (.sl .int) a.Out) (by simp[Ty.cells]));have j:=zoX (h (.s .bool a.ar) (by simp[Ty.cells]));have l:zgh a.ac=true:=zY (h (.s .guest a.ac) (by simp[Ty.cells]));have m:=zoX (h (.s .int a.Outs) (by simp[Ty.cells]));have d:CVB sm (.s .kept a.ai):=h (.s .kept a.ai) (by simp[Ty.cells]);have e:=zcV d.len;refine⟨a.ai.length+1,?_⟩;unfold zJA oN;conv=>zeta
 simp only[zm5,f,g,j,l,m,cT];refine(zbq a.ai (λi b=>((i:Int),a.ak,a.aq,a.Own,0,0,0,b,a.ae,ze7 a.Out,a.ar,zgO a.ac,a.Outs,a.ai,[],[],[],[],[],[],())) _
  (λ_ x b k=>bif zgM x then (cond (few<|ln<|ap b [zdK x]) (k<|ap b [zdK x]) none) else none) (λb=>some [AV.agg<|Ty.cells .mon ⟨a.ae,a.Out,a.ar,a.ac,a.Outs,a.ak,a.aq,b,a.Own⟩])
  (λi c t rec=>?_) (λt rec=>?_) _ [] (jO _)).trans (zj7 zgM zdK _ a.ai 0 [] (λx p=>⟨zY<|d.inv.2 x p,rfl⟩) (by simpa using e.2))
 {simp only [zbu c,zT c,zbi c,cT,zbj c e.1]};{simp only [zbh,cF];rfl}
def zxR:vR 201 zuK:=kF1 zSQ zQ zB zq zVP zUa
def z6m:zW:=[(201,zuK)]++z6l
def zHg:zL z6m:=zh zxR zSQ
def zDA (h:ad)(_:Int):Bool:=pc (zdY h)
def zso (h:ad)(m:Int):Mon:=bif i0 m (ln h.aa) then ix h.aa m zi else Ty.dflt .mon
def zwt (h:ad)(m:Int):Bool:=i0 m (ln h.aa)
def zw0:Run:=rF2 dH dI λb c=>(zDA b c,[aT .mon<|zso b c,aB<|zwt b c])
def zPi (N:Nat)(b:ad)(c:Int):OA:=
 let d:=ix b.aa c zi;let a:=zmd d; (oN (zN c 0<|wsub .i64 (ln b.aa) 1)<|cond (nB<|zk c 0<|wsub .i64 (ln b.aa) 1) (some [.agg [.s .slot [],.s (.sl .int) [],.s .bool [],.s .guest [],.s .int [],.i .i64 0,.i .i64 0,.s .kept [],.i .i64 0],aB false])<|oN (inb c<|ln b.aa)<|oN (zhE d)<|some [.agg [.s .slot a.ae,.s (.sl .int) a.Out,.s .bool a.ar,.s .guest a.ac,.s .int a.Outs,.i .i64 a.ak,.i .i64 a.aq,.s .kept a.ai,.i .i64 a.Own],aB true])
def zWD (b:ad)(a:Int)(f:zDA b a=true):∃N,zPi N b a=some [aT .mon<|zso b a,aB<|zwt b a]:=by
 have h:=(zS.1 f).mons;refine⟨0,?_⟩;unfold zPi zso zwt oN nB;conv=>zeta
 have e:zk a 0 (wsub .i64 (ln b.aa) 1)=i0 a (ln b.aa):=zvP (zcV h.len).1 a;rw[e];cases c:i0 a (ln b.aa);{simp [zN,Ty.cells,Ty.dflt]};{have d:zhE (ix b.aa a zi)=true:=zY (h.inv.2 _<|zbE c _);simp only[zN,cT,vF,cF,zI c,d];rfl}
def zAB:vR 73 zw0:=kF2 zHg zQ zB zq (zx []) zWD
def mapped (l:List k0)(n:Int):Int:=match l with
 |[]=>n
 |s::l=>mapped l (cond (ine s.af<|-1) (zK .i64 n 1) n)
def zJ6 {a:Type}(K:Int->Option a):∀(l:List k0) (i:Nat) (n:Int),
 goL (λ_ (s:k0) (n:Int) k=>bif ine s.af (-1) then k (zK .i64 n 1) else k n) K l i n=K (mapped l n)
 |[],_,_=>rfl
 |s::l,i,n=>by simp only[goL,mapped];cases ine s.af (-1)<;>exact zJ6 K l _ _
def zzP (_:List k0):Bool:=true
def zzO (l:List k0):Int:=mapped l 0
def zuJ:Run:=rF1 (dS .slot) λb=>(zzP b,[aI<|zzO b])
def zJk (N:Nat)(c:lS):OA:=
 (r0 (σ:=(Int×Int×lS×Unit)) N (λb a=>cond (ilt a.2.1<|ln a.2.2.1) (oN (inb a.2.1<|ln a.2.2.1)<|cond (ine (ix a.2.2.1 a.2.1 zba).af<|-1) (b (zK .i64 a.1 1,zK .i64 a.2.1 1,a.2.2.1,()))<|b (a.1,zK .i64 a.2.1 1,a.2.2.1,()))<|some [aI a.1]) (0,0,c,()))
def zVF:=zx [(83,0,{n:=20,tm:=[(0,.sl 0 []),(3,ti),(4,ti)],lo:=[],ro:=[(0,.slot,false)]})]
def zTU (a:List k0)(c:zbT big [aS .slot a])(e:zzP a=true):∃N,zJk N a=some [aI<|zzO a]:=by
 have d:=len0 c;refine⟨a.length+1,?_⟩;unfold zJk oN;refine(zbq a (λi n=>(n,(i:Int),a,())) _ (λ_ (s:k0) (n:Int) k=>bif ine s.af (-1) then k (zK .i64 n 1) else k n) (λn=>some [AV.one<|.i .i64 n])
  (λi b n rec=>?_) (λn rec=>?_) _ 0 (jO _)).trans (zJ6 _ a 0 0)
 {simp only [zbu b,zT b,zbi b,cT,zbj b d]};{simp only [zbh,cF]}
def zxM:vR 83 zuJ:=hF1 zHg zQ zB zq zVF zTU
def z6n:zW:=[(73,zw0),(83,zuJ)]++z6m
def z4d:zL z6n:=zh zAB (zh zxM zHg)
def z6o:zW:=z6n
def z4e:zL z6o:=z4d
def ctrY:zW:=z6o
def zxB:∀f a,zl ctrY f=some a->Holds Tryz.prog f a:=z4e
def A0:k0:=⟨-1,0⟩
def zbU:Bool:=true
abbrev zbl:k0:=A0
def zlX:Run:=rF0 (zbU,[aT .slot zbl])
def zYu (N:Nat)  : OA :=
 (some [.agg [.i .i64<|-1,.i .i64 0]])
def zC6  (a:zbT big []) (b:zbU=true):∃N,zYu N  = some [aT .slot zbl]:=by exact⟨0,rfl⟩
def zxP:vR 215 zlX:=hF0 zxB zQ zB zq (zx []) zC6
def zM4:vR 210 zlX:=hF0 zxB zQ zB zq (zx []) zC6
def zNb:vR 168 znj:=hF3 zxB zQ zB zq (zx []) zGv
def z6p:zW:=[(215,zlX),(210,zlX),(168,znj)]++ctrY
def zHh:zL z6p:=zh zxP (zh zM4<|zh zNb zxB)
def zdD (r:Int):Bool:=ige r 0&&ile r 3
def zjO (_:Int):Bool:=true
abbrev zgJ (r:Int):Bool:=zdD r
def zmI:Run:=rF1 dI λb=>(zjO b,[aB<|zgJ b])
def zSr (N:Nat)(a:Int):OA:=
 (oN (zN a 0 3)<|some [aB<|zk a 0 3])
def zxX (a:Int)(b:zbT big [aI a])(c:zjO a=true):∃N,zSr N a=some [aB<|zgJ a]:=by exact⟨0,rfl⟩
def zHW:vR 185 zmI:=hF1 zHh zQ zB zq (zx []) zxX
def zHA:vR 381 zmI:=hF1 zHh zQ zB zq (zx []) zxX
def z6q:zW:=[(185,zmI),(381,zmI)]++z6p
def ztZ:zL z6q:=zh zHW (zh zHA zHh)
def zet (a b:Int):Int:=bif zdD a then (cond (zdD b) (wand .i64 a b) 0) else 0
abbrev zid (a b:Int):Int:=zet a b
def zuE:Run:=rF2 dI dI λb c=>(zcH b c,[aI<|zid b c])
def zxs (N:Nat)(a b:Int):OA:=
 (oN (zjO a)<|cond (nB<|zgJ a) (some [aI 0])<|oN (zjO b)<|cond (nB<|zgJ b) (some [aI 0])<|some [aI<|wand .i64 a b])
def zIm (a b:Int)(c:zcH a b=true):∃N,zxs N a b=some [aI<|zid a b]:=by refine⟨0,?_⟩;unfold zxs zid zet zgJ oN nB;cases zdD a<;>cases zdD b<;>rfl
def zCO:vR 386 zuE:=kF2 ztZ zQ zB zq (zx []) zIm
def enough (a b:Int):Bool:=bif zdD a then (cond (zdD b) (ieq (wand .i64 a b) b) false) else false
abbrev zdr (a b:Int):Bool:=enough a b
def zpe:Run:=rF2 dI dI λb c=>(zcH b c,[aB<|zdr b c])
def zJe (N:Nat)(b a:Int):OA:=
 (oN (zjO b)<|cond (zgJ b) (oN (zjO a)<|cond (zgJ a) (some [aB<|ieq (wand .i64 b a) a]) oF) oF)
def zC5 (a b:Int)(c:zbT big [aI a,aI b])(d:zcH a b=true):∃N,zJe N a b=some [aB<|zdr a b]:=by refine⟨0,?_⟩;unfold zJe zdr enough zgJ oN;cases zdD a<;>cases zdD b<;>rfl
def zNf:vR 64 zpe:=hF2 ztZ zQ zB zq (zx []) zC5
def zM0:vR 212 zpe:=hF2 ztZ zQ zB zq (zx []) zC5
def zbG (t:List k0)(p:Int):k0:=bif i0 p (ln t) then ix t p zba else A0
def zpJ (_:List k0)(_:Int):Bool:=true
abbrev zko (t:List k0)(p:Int):k0:=zbG t p
def zDt:Run:=rF2 (dS .slot) dI λb c=>(zpJ b c,[aT .slot<|zko b c])
def zJs (N:Nat)(a:lS)(b:Int):OA:=
 (oN (zN b 0<|wsub .i64 (ln a) 1)<|cond (nB<|zk b 0<|wsub .i64 (ln a) 1) (oN zbU<|some [.agg [.i .i64 zbl.af,.i .i64 zbl.aj]])<|oN (inb b<|ln a)<|some [.agg [.i .i64 (ix a b zba).af,.i .i64 (ix a b zba).aj]])
def zT2 (b:List k0)(a:Int)(c:zbT big [aS .slot b,aI a])(g:zpJ b a=true):∃N,zJs N b a=some [aT .slot<|zko b a]:=by have f:=len0 c;refine⟨0,?_⟩;unfold zJs zko zbG oN nB;have e:zk a 0 (wsub .i64 (ln b) 1)=i0 a (ln b):=zKZ f a;rw[e];cases d:i0 a (ln b);{rfl};{rw [zI d];rfl}
def zNq:vR 173 zDt:=hF2 ztZ zQ zB zq (zx []) zT2
def z6r:zW:=[(386,zuE),(64,zpe),(212,zpe),(173,zDt)]++z6q
def zSR:zL z6r:=zh zCO (zh zNf<|zh zM0<|zh zNq ztZ)
def zc8 (a b:k0):Bool:=ieq a.af b.af&&ieq a.aj b.aj
def below' (a b:k0):Bool:=bif zc8 a A0 then true else (cond (ieq a.af b.af) (enough b.aj a.aj) false)
def zbC (s:k0)(a:List k0):k0 :=
 bif ieq s.af (-1) then A0 else (cond (ieq (zbG a s.af).af<|-1) A0<|cond (ieq (zet s.aj (zbG a s.af).aj) 0) A0 ⟨(zbG a s.af).af,zet s.aj (zbG a s.af).aj⟩)
def zlu (_:k0)(_:List k0):Bool:=true
def znL (s:k0)(a:List k0):k0:=zbC s a
def zs9:Run:=rF2 (dT .slot) (dS .slot) λb c=>(zlu b c,[aT .slot<|znL b c])
def zu6 (N:Nat)(a:k0)(c:lS):OA:=
 let b:=zko c a.af; (oN (zpJ c a.af)<|oN (zcH a.aj b.aj)<|cond (ieq a.af<|-1) (oN zbU<|some [.agg [.i .i64 zbl.af,.i .i64 zbl.aj]])<|cond (ieq b.af<|-1) (oN zbU<|some [.agg [.i .i64 zbl.af,.i .i64 zbl.aj]])<|cond (ieq (zid a.aj b.aj) 0) (oN zbU<|some [.agg [.i .i64 zbl.af,.i .i64 zbl.aj]])<|some [.agg [.i .i64 b.af,.i .i64<|zid a.aj b.aj]])
def zE6 (a:k0)(b:List k0)(c:zlu a b=true):∃N,zu6 N a b=some [aT .slot<|znL a b]:=by
 refine⟨0,?_⟩;unfold zu6 znL zbC zko zid oN;conv=>zeta
 cases ieq a.af (-1)<;>cases ieq (zbG b a.af).af (-1)<;>cases ieq (zet a.aj (zbG b a.af).aj) 0<;>rfl
def zBr:vR 229 zs9:=kF2 zSR zQ zB zq (zx []) zE6
def zdI (x:Int):Int:=bif (ige x 1&&ile x 6) then zVY .i64 (wsub .i64 x 1) 2 else -1
def zeM (x:Int):Int:=bif (ige x 1&&ile x 6) then zre (wsub .i64 x 1) 2 else -1
def z6s:zW:=[(229,zs9)]++z6r
def z4f:zL z6s:=zh zBr zSR
def z8U {a b:Type}{l:List a}{m:List b}(h:ine (ln l) (ln m)=false):l.length=m.length:=by have:(ln l==ln m)=true:=(by simpa [ine,bne] using h);have:=eq_of_beq this;simp only[ln] at this;omega
def z6t:zW:=z6s
def z4g:zL z6t:=z4f
def zdc (h:ad)(e:au):Bool :=
 bif i0 (zdI e.Tag) (ln h.aa) then (bif i0 (zeM e.Tag) (ln (ix h.aa (zdI e.Tag) zi).ac) then
  below' ⟨e.ad,e.aj⟩ (zbC (zbG (ix (ix h.aa (zdI e.Tag) zi).ac (zeM e.Tag) zD).av e.af) (ix h.aa (zdI e.Tag) zi).ae) else false) else false
def z6u:zW:=z6t
def z4h:zL z6u:=z4g
def ctrW:zW:=z6u
def zMR:∀f a,zl ctrW f=some a->Holds Tryz.prog f a:=z4h
def hE (h:ad):(⟨h.ag,h.aa,h.ao,h.an⟩:ad)=h:=rfl
def idxs {a:Type}(p:a->Bool):List a->Nat->LI
 |[],_=>[]
 |x::l,i=>bif p x then (i:Int)::idxs p l (i+1) else idxs p l (i+1)
def zzs {a:Type}(p:a->Bool):∀(l:List a) (i:Nat),(idxs p l i).length<=l.length
 |[],_=>qQ _
 |x::l,i=>by have:=zzs p l (i+1);simp only[idxs];cases p x<;>simp<;>omega
def zt9 {b c:Type}(p:b->Bool)(K:LI->Option c):∀(l:List b) (i:Nat) (a:LI),a.length+l.length<=2147483648->
 goL (λi x a k=>bif p x then (cond (few<|ln<|ap a [(i:Int)]) (k<|ap a [(i:Int)]) none) else k a) K l i a=K (a++idxs p l i)
 |[],i,a,_=>by simp[goL,idxs]
 |x::l,i,a,h=>by simp only[qW]at h;simp only[goL,idxs];cases p x;{simp only [cF];exact zt9 p K l (i+1) a (by omega)};{simp only [cT];rw[zfO (by simp[ap];omega),cT,zt9 p K l (i+1) _ (by simp[ap];omega)];simp[ap]}
def zwU (p:Nat->Bool):Nat->Nat->LI
 | 0,_=>[]
 |n+1,i=>bif p i then (i:Int)::zwU p n (i+1) else zwU p n (i+1)
def zzl {b:Type}(p:Nat->Bool)(K:LI->Option b):∀(n i:Nat) (a:LI),a.length+n<=2147483648->
 goN (λi a k=>bif p i then (cond (few<|ln<|ap a [(i:Int)]) (k<|ap a [(i:Int)]) none) else k a) K n i a=K (a++zwU p n i)
 | 0,i,a,_=>by simp[goN,zwU]
 |n+1,i,a,h=>by simp only[goN,zwU];cases p i;{simp only [cF];exact zzl p K n (i+1) a (by omega)};{simp only [cT];rw[zfO (by simp[ap];omega),cT,zzl p K n (i+1) _ (by simp[ap];omega)];simp[ap]}
abbrev zpK (l:List k0)(_:Int):Bool:=pc (l.length<=2147483648)
abbrev zgw (l:List k0)(p:Int):LI:=idxs (λ(s:k0)=>ieq s.af p) l 0
def zpo:Run:=rF2 (dS .slot) dI λb c=>(zpK b c,[aS .int<|zgw b c])
def zJw (N:Nat)(c:lS)(d:Int):OA:=
 (r0 (σ:=(Int×Int×lS×LI×Unit)) N (λb a=>cond (ilt a.2.1<|ln a.2.2.1) (oN (inb a.2.1<|ln a.2.2.1)<|cond (ieq (ix a.2.2.1 a.2.1 zba).af a.1) (oN (few<|ln<|ap a.2.2.2.1 [a.2.1])<|b (a.1,zK .i64 a.2.1 1,a.2.2.1,ap a.2.2.2.1 [a.2.1],()))<|b (a.1,zK .i64 a.2.1 1,a.2.2.1,a.2.2.2.1,()))<|some [aS .int a.2.2.2.1]) (d,0,c,[],()))
def zVL:=zx [(469,0,{n:=26,tm:=[(0,.sl 0 []),(1,ti),(5,.sl 1 []),(6,ti)],lo:=[],ro:=[(0,.slot,false),(1,.int,true)]})]
def zT6 (b:List k0)(a:Int)(g:zbT big [aS .slot b,aI a])(h:zpK b a=true):∃N,zJw N b a=some [aS .int<|zgw b a]:=by have e:=len0 g;have j:=zS.1 h;refine zcj λN d=>?_;unfold zJw oN;refine(zbq b (λi (t:LI)=>(a,(i:Int),b,t,())) _ (λi (x:k0) (t:LI) f=>bif ieq x.af a then (cond (few<|ln<|ap t [(i:Int)]) (f<|ap t [(i:Int)]) none) else f t) (λ(t:LI)=>some [.one<|.s .int t]) (λi c t rec=>?_) (λt rec=>?_) _ ([])<|d e).trans ?_;{simp only [zbu c,zT c,zbi c,zbj c e,cT]};{simp only [zbh,cF]};exact zt9 (λ(s:k0)=>ieq s.af a) _ _ 0 [] (by simpa using j)
def zNu:vR 469 zpo:=hF2 zMR zQ zB zq zVL zT6
def zJa (N:Nat)(d:lS)(f:Int):OA:=
 (r0 (σ:=(Int×Int×Int×LI×lS×Unit)) N (λe a=>let c:=a.2.2.2.2.1;let b:=a.2.2.1; (cond (ilt b a.2.1) (oN (inb b<|ln c)<|cond (ieq (ix c b zba).af a.1) (oN (few<|ln<|ap a.2.2.2.1 [b])<|e (a.1,a.2.1,zK .i64 b 1,ap a.2.2.2.1 [b],c,()))<|e (a.1,a.2.1,zK .i64 b 1,a.2.2.2.1,c,()))<|some [aS .int a.2.2.2.1])) (f,ln d,0,[],d,()))
def zVB:=zx [(466,0,{n:=26,tm:=[(1,ti),(5,.sl 0 []),(9,.sl 1 []),(10,ti),(11,ti)],lo:=[],ro:=[(0,.int,true),(1,.slot,false)]})]
def zTL (a:List k0)(b:Int)(g:zbT big [aS .slot a,aI b])(h:zpK a b=true):∃N,zJa N a b=some [aS .int<|zgw a b]:=by
 have e:=len0 g;have j:=zS.1 h;refine zcj λN d=>?_;unfold zJa oN;conv=>zeta
 refine(zbq a (λi (t:LI)=>(b,ln a,(i:Int),t,a,())) _ (λi (x:k0) (t:LI) f=>bif ieq x.af b then (cond (few<|ln<|ap t [(i:Int)]) (f<|ap t [(i:Int)]) none) else f t) (λ(t:LI)=>some [.one<|.s .int t]) (λi c t rec=>?_) (λt rec=>?_) _ ([])<|d e).trans ?_;{simp only [zbu c,zT c,zbi c,zbj c e,cT]};{simp only [zbh,cF]};exact zt9 (λ(s:k0)=>ieq s.af b) _ _ 0 [] (by simpa using j)
def zNa:vR 466 zpo:=hF2 zMR zQ zB zq zVB zTL
def z6v:zW:=[(469,zpo),(466,zpo)]++ctrW
def z4i:zL z6v:=zh zNu (zh zNa zMR)
def z6w:zW:=z6v
def z4j:zL z6w:=z4i
def z6x:zW:=z6w
def zHi:zL z6x:=z4j
def all2 {a:Type}(b:a->a->Bool):List a->List a->Bool
 |[],[]=>true
 |x::l,y::m=>b x y&&all2 b l m
 |_,_=>false
def zSw {a:Type}(b:a->a->Bool):∀(l m:List a),l.length≠m.length->all2 b l m=false
 |[],[],h=>absurd rfl h
 |[],_::_,_=>rfl
 |_::_,[],_=>rfl
 |x::l,y::m,h=>by simp only[all2,zSw b l m (by simpa using h),Bool.and_false]
def zTe {c g:Type}(e:c->c->Bool)(d:c)(b:List c)(r:Option g)(K:Unit->Option g):∀(a:List c) (i:Nat),a.length+i=b.length->
 goL (λi x (_:Unit) k=>bif e x (ix b (i:Int) d) then k () else r) K a i ()=bif all2 e a (b.drop i) then K () else r
 |[],i,h=>by have:b.drop i=[]:=k8 (by simp at h;omega);rw[this];rfl
 |x::a,i,h=>by simp only[qW]at h;have f:i<b.length:=(by omega);rw[kB f];simp only[goL,all2,zbi f];cases e x b[i];{rfl};{simp only [cT,uL];exact zTe e d b r K a (i+1) (by omega)}
def zbap {a b:Type}{l:List a}{m:List b}(h:ine (ln l) (ln m)=true):l.length≠m.length:=by intro e;simp only[ine,ln,e,bne_self_eq_false]at h;cases h
def zxT (x y:Int):ine x y = !ieq x y:=rfl
def eqI (a b:LI):Bool:=all2 ieq a b
def zcW (_ _:LI):Bool:=true
def zcO (a b:LI):Bool:=eqI a b
def zgk:Run:=rF2 (dS .int) (dS .int) λb c=>(zcW b c,[aB<|zcO b c])
def zjX (N:Nat)(b c:LI):OA:=
 (cond (ine (ln b)<|ln c) oF<|r0 (σ:=(Int×Int×LI×LI×Unit)) N (λd a=>cond (ilt a.2.1 a.1) (oN (inb a.2.1<|ln a.2.2.1)<|oN (inb a.2.1<|ln a.2.2.2.1)<|cond (ine (ix a.2.2.1 a.2.1 0)<|ix a.2.2.2.1 a.2.1 0) oF<|d (a.1,zK .i64 a.2.1 1,a.2.2.1,a.2.2.2.1,())) oT) (ln b,0,b,c,()))
def zqi:=zx [(359,0,{n:=26,tm:=[(0,.sl 0 []),(1,.sl 1 []),(12,ti),(13,ti)],lo:=[],ro:=[(0,.int,false),(1,.int,false)]})]
def zqh (a c:LI)(j:zbT big [aS .int a,aS .int c])(m:zcW a c=true):∃N,zjX N a c=some [aB<|zcO a c]:=by have h:=len0 j;refine zcj λN f=>?_;unfold zjX zcO eqI oN;cases g:ine (ln a) (ln c);{have e:=z8U g;rw[cF];refine(zbq a (λi (t:Unit)=>(ln a,(i:Int),a,c,())) _ (λi (x:Int) (_:Unit) k=>bif ieq x (ix c (i:Int) 0) then k () else oF) (λ(t:Unit)=>some [.one<|.b true]) (λi d t rec=>?_) (λt rec=>?_) _ ()<|f h).trans ?_;{simp only [zbu d,zT d,zbi d,zbj d h,cT];simp only[zT (l:=c) (i:=i)<|e ▸ d,cT,zxT];cases ieq a[i] (ix c (↑i) 0)<;>rfl};{simp only [zbh,cF]};rw[zTe ieq 0 c _ _ a 0 (by simpa using e),vB];cases all2 ieq a c<;>rfl};{rw [zSw _ _ _<|zbap g];rfl}
def zin:vR 359 zgk:=hF2 zHi zQ zB zq zqi zqh
def zei (l:LI):Bool:=pc (l.length<=2147483648)
abbrev zec (l:LI):LI:=l
def zyf:Run:=rF1 (dS .int) λb=>(zei b,[aS .int<|zec b])
def zBM (N:Nat)(a:LI):OA:=
 (oN (few<|ln<|ap [] a)<|some [aS .int<|ap [] a])
def zNV (a:LI)(b:zei a=true):∃N,zBM N a=some [aS .int<|zec a]:=by refine⟨0,?_⟩;unfold zBM oN;rw[zm5,zfO<|zS.1 b,cT]
def zHE:vR 344 zyf:=kF1 zHi zQ zB zq (zx []) zNV
def z6y:zW:=[(359,zgk),(344,zyf)]++z6x
def zHj:zL z6y:=zh zin (zh zHE zHi)
def zz6:LI:=rp 4 0
def zcx (m:List LI)(p:Int):LI:=bif i0 p (ln m) then ix m p [] else zz6
def zpG (m:List LI)(_:Int):Bool:=pc (CVB sm<|.s (.sl .int) m)
def zog (m:List LI)(p:Int):LI:=zcx m p
def z2M {m:List LI}{p:Int}(b:CVB sm (.s (.sl .int) m))(a:i0 p (ln m)=true):(ix m p []).length<=2147483648 :=
 (zcV (b.inv.2 _ (zbE a ([]:LI)) (.s .int _) (qD.2 rfl)).len).2
def zpj:Run:=rF2 (dS<|.sl .int) dI λb c=>(zpG b c,[aS .int<|zog b c])
def zJn (N:Nat)(a:lM)(b:Int):OA:=
 (oN (zN b 0<|wsub .i64 (ln a) 1)<|cond (nB<|zk b 0<|wsub .i64 (ln a) 1) (oN (cond (few 4) (ieq 4 4) false)<|some [aS .int<|rp 4 0])<|oN (inb b<|ln a)<|oN (few<|ln<|ap []<|ix a b [])<|some [aS .int<|ap []<|ix a b []])
def zTY (b:List LI)(a:Int)(f:zpG b a=true):∃N,zJn N b a=some [aS .int<|zog b a]:=by have d:=zS.1 f;refine⟨0,?_⟩;unfold zJn zog zcx oN nB;have e:zk a 0 (wsub .i64 (ln b) 1)=i0 a (ln b):=zKZ (zcV d.len).1 a;rw[e];cases c:i0 a (ln b);{rfl};{simp only [zN,cT,cF,zI c,zm5,zfO<|z2M d c]}
def zNl:vR 174 zpj:=kF2 zHj zQ zB zq (zx []) zTY
def zI6 (N:Nat)(a:lM)(b:Int):OA:=
 (oN (zcH b<|ln a)<|cond (nB<|zkf b<|ln a) (oN (cond (few 4) (ieq 4 4) false)<|some [aS .int<|rp 4 0])<|oN (inb b<|ln a)<|oN (zei<|ix a b [])<|some [aS .int<|zec<|ix a b []])
def zTH (a:List LI)(b:Int)(d:zpG a b=true):∃N,zI6 N a b=some [aS .int<|zog a b]:=by have e:=zS.1 d;refine⟨0,?_⟩;unfold zI6 zog zcx zkf oN nB;cases c:i0 b (ln a);{rfl};{simp only [zcH,cT,cF,zI c,show zei (ix a b [])=true from zY (z2M e c),zec]}
def zM5:vR 172 zpj:=kF2 zHj zQ zB zq (zx []) zTH
def z6z:zW:=[(174,zpj),(172,zpj)]++z6y
def z4k:zL z6z:=zh zNl (zh zM5 zHj)
def zdf (h:ad)(m p:Int):LI :=
 bif i0 m (ln h.aa) then (cond (i0 p 8) (cond (ine (zbG (ix h.aa m zi).ae p).af<|-1) (zcx h.ag (zbG (ix h.aa m zi).ae p).af)<|zcx (ix h.aa m zi).Out p) zz6) else zz6
def z6A:zW:=z6z
def z4l:zL z6A:=z4k
def z6B:zW:=z6A
def z4m:zL z6B:=z4l
def ctrV:zW:=z6B
def z8x:∀f a,zl ctrV f=some a->Holds Tryz.prog f a:=z4m
def ctrU:zW:=ctrV
def zf6:zL ctrU:=z8x
def zqD:zio:=z5a
def zC:zgS zqD:=zQ
def canRun (g:ah):Bool:=bif (ieq g.Exit.Kind 0&&(ieq g.Exit.af 0&&(zhh g.Exit.Write false&&ieq g.Exit.N 0))) then !g.aF else false
def ztr (_:ah):Bool:=true
abbrev zqT (g:ah):Bool:=canRun g
def zDo:Run:=rF1 (dT .guest) λb=>(ztr b,[aB<|zqT b])
def zJc (N:Nat)(a:ah):OA:=
 (cond (cond (ieq a.Exit.Kind 0) (cond (ieq a.Exit.af 0) (cond (zhh a.Exit.Write false) (ieq a.Exit.N 0) false) false) false) (some [aB<|nB a.aF]) oF)
def zTN (a:ah)(b:ztr a=true):∃N,zJc N a=some [aB<|zqT a]:=by refine⟨0,?_⟩;unfold zJc zqT canRun nB;cases ieq a.Exit.Kind 0<;>cases ieq a.Exit.af 0<;>cases zhh a.Exit.Write false<;>cases ieq a.Exit.N 0<;>simp
def zNd:vR 119 zDo:=kF1 zxB zQ zB zq (zx []) zTN
def j0 {d:Type}{c:Bool}{a b r:Option d}(h:c=true)(k:a=r):(cond c a b)=r:=by rw[h];exact k
def mu {d:Type}{c:Bool}{a b r:Option d}(k:a=r)(h:c=true:=by first|assumption|(simp_all<;>omega)):(cond c a b)=r:=j0 h k
def zb7 {d:Type}{c:Bool}{a b r:Option d}(h:c=false)(k:b=r):(cond c a b)=r:=by rw[h];exact k
def br {f:Type}{c:Bool}{a b r:Option f}(d:c=true->a=r)(e:c=false->b=r):(cond c a b)=r:=by cases c;{exact e rfl};{exact d rfl}
def brN {f:Type}{c:Bool}{a b r:Option f}(d:c=false->a=r)(e:c=true->b=r):(cond (cond c false true) a b)=r:=by cases c;{exact d rfl};{exact e rfl}
def shr {a b:Type}{x:a}{f:a->Option b}{r:Option b}(h:f x=r):p0 x f=r:=h
def zj6 {e:Type}{c p:Bool}{a b:Option e}(d:c=true):(cond c (cond (cond p false true) a b) none)=bif p then b else a:=by rw[d];cases p<;>rfl
attribute [simp] zS
@[simp] def z8I {a:Type}(l:List a):(few (ln l)=true)↔l.length<=2147483648:=by unfold few ln;rw[decide_eq_true_iff];omega
@[simp] def zbbD {a:Type}(l m:List a):(ap l m).length=l.length+m.length:=by simp[ap]
attribute [simp] zm5 zht
@[simp] def z7j (n:Nat)(k:IntKind)(x:Int):CVB n (.i k x)↔True:=⟨λ_=>trivial,λ_=>.i k x⟩
@[simp] def zbbH (n:Nat)(x:Bool):CVB n (.b x)↔True:=⟨λ_=>trivial,λ_=>.b x⟩
def zmr {n:Nat}{t:Ty}(l:List t.den):CVB n (.s t l)↔l.length<=n/\∀x∈l,∀c∈t.cells x,CVB n c:=⟨λh=>h.inv,λh=>.s t l h.1 h.2⟩
@[simp] def zXB (n:Nat)(l:LI):CVB n (.s .int l)↔l.length<=n:=by rw[zmr];simp[Ty.cells]
@[simp] def zbai (n:Nat)(l:LI):CVB n (.s .u8 l)↔l.length<=n:=by rw[zmr];simp[Ty.cells]
@[simp] def z4z (n:Nat)(l:List Bool):CVB n (.s .bool l)↔l.length<=n:=by rw[zmr];simp[Ty.cells]
@[simp] def z4B (n:Nat)(l:List k0):CVB n (.s .slot l)↔l.length<=n:=by rw[zmr];simp[Ty.cells]
@[simp] def z8z (n:Nat)(l:List Ins):CVB n (.s .ins l)↔l.length<=n:=by rw[zmr];simp[Ty.cells]
@[simp] def z1B (n:Nat)(l:List au):CVB n (.s .entry l)↔l.length<=n:=by rw[zmr];simp[Ty.cells]
@[simp] def z8y (n:Nat)(l:List GAct):CVB n (.s .act l)↔l.length<=n:=by rw[zmr];simp[Ty.cells]
@[simp] def z4C (n:Nat)(l:List aE):CVB n (.s .told l)↔l.length<=n:=by rw[zmr];simp[Ty.cells]
def SmM (m:List LI):Prop:=m.length<=1048576/\∀x∈m,x.length<=1048576
def SmG (g:ah):Prop:=g.aw.length<=1048576/\g.az.length<=1048576/\g.av.length<=1048576/\g.aC.length<=1048576
def zlz (l:List ah):Prop:=l.length<=1048576/\∀x∈l,SmG x
def SmB (b:am):Prop:=SmM b.ag/\zlz b.ac/\b.Outs.length<=1048576
def zYx (l:List am):Prop:=l.length<=1048576/\∀x∈l,SmB x
def z5J:sm=1048576:=rfl
@[simp] def zYX (l:LI):CVB sm (.s .int l)↔l.length<=1048576:=zXB sm l
@[simp] def zbbl (l:LI):CVB sm (.s .u8 l)↔l.length<=1048576:=zbai sm l
@[simp] def zWd (l:List Bool):CVB sm (.s .bool l)↔l.length<=1048576:=z4z sm l
@[simp] def zWe (l:List k0):CVB sm (.s .slot l)↔l.length<=1048576:=z4B sm l
@[simp] def zbaW (l:List Ins):CVB sm (.s .ins l)↔l.length<=1048576:=z8z sm l
@[simp] def zS0 (l:List au):CVB sm (.s .entry l)↔l.length<=1048576:=z1B sm l
@[simp] def zbaV (l:List GAct):CVB sm (.s .act l)↔l.length<=1048576:=z8y sm l
@[simp] def zbaP (l:List aE):CVB sm (.s .told l)↔l.length<=1048576:=z4C sm l
@[simp] def zqx (l:List LI):CVB sm (.s (.sl .int) l)↔SmM l:=by rw[zmr];simp[Ty.cells,SmM,z5J]
@[simp] def z8e (g:ah):(∀c∈Ty.cells .guest g,CVB sm c)↔SmG g:=by simp[Ty.cells,SmG,z5J]
@[simp] def zvu (l:List ah):CVB sm (.s .guest l)↔zlz l:=by rw[zmr];simp only[z8e];rfl
@[simp] def z8d (b:am):(∀c∈Ty.cells .bare b,CVB sm c)↔SmB b:=by simp only[Ty.cells,qG,qP,or_false,vN,forall_eq,zqx,zvu,zXB,z7j,and_true];rfl
@[simp] def zbbo (l:List am):CVB sm (.s .bare l)↔zYx l:=by rw[zmr];simp only[z8d];rfl
@[simp] def zbbG (a:List Ins)(b c:Int)(d e:List k0)(f:Ctl)(g:Int)(h:aD)(i:Bool)(j:LI):SmG ⟨a,b,c,d,e,f,g,h,i,j⟩↔a.length<=1048576/\d.length<=1048576/\e.length<=1048576/\j.length<=1048576:=Iff.rfl
@[simp] def zbbF (m:List LI)(g:List ah)(o:LI)(p:Int):SmB ⟨m,g,o,p⟩↔SmM m/\zlz g/\o.length<=1048576:=Iff.rfl
def zMf {m:List LI}{i:Int}{x:LI}(h:SmM m)(b:x.length<=1048576):SmM (up m i x):=by refine⟨by simpa using h.1,λy a=>?_⟩;rcases qY a with a|rfl;{exact h.2 y a};{exact b}
def zEs {m:List ah}{i:Int}{x:ah}(h:zlz m)(b:SmG x):zlz (up m i x):=by refine⟨by simpa using h.1,λy a=>?_⟩;rcases qY a with a|rfl;{exact h.2 y a};{exact b}
def z9z {m:List am}{i:Int}{x:am}(h:zYx m)(b:SmB x):zYx (up m i x):=by refine⟨by simpa using h.1,λy a=>?_⟩;rcases qY a with a|rfl;{exact h.2 y a};{exact b}
def z3f {l:List ah}{i:Int}(h:zlz l)(a:i0 i (ln l)=true)(d:ah):SmG (ix l i d):=h.2 _ (zbE a d)
def zbaJ {l:List LI}{i:Int}(h:SmM l)(a:i0 i (ln l)=true)(d:LI):(ix l i d).length<=1048576:=h.2 _ (zbE a d)
@[simp] def zbbe:SmG zD:=⟨by decide,by decide,by decide,by decide⟩
@[simp] def zSm (x a b:Int):zk x a b=zk x a b:=rfl
@[simp] def zTu (i n:Int):inb i n=i0 i n:=rfl
attribute [simp] zkf
@[simp] def zrd {a:Type}{l:List a}(h:l.length<=1048576)(i:Int):zk i 0 (wsub .i64 (ln l) 1)=i0 i (ln l):=zvP (zcV h).1 i
def zI0 {a:Type}{l:List a}(h:l.length<=big)(i:Int):zk i 0 (wsub .i64 (ln l) 1)=i0 i (ln l):=zvP h i
def zgA {x a b:Int}:(zk x a b=true)↔a<=x/\x<=b:=by unfold zk ige ile;simp only[qE,decide_eq_true_iff]
def z8T (a b:Int):ilt a b = !ige a b:=by unfold ilt ige;by_cases h:a<b;{rw [qK h,qV (by omega)];rfl};{rw [qV h,qK (by omega)];rfl}
attribute [simp] zbl zbl zgJ zgJ zid zdr zdr zko zqT zbU zbU
attribute [simp] ze7 zde zgO zec
attribute [simp] zgL zdE zgh zei
def zbk (a:Int):Int:=bif ilt a 0 then -1 else zVY .i64 a 4
def zdp (a:Int):Int:=bif ilt a 0 then -1 else zre a 4
@[simp] abbrev zdy (a:Int):Bool:=true
@[simp] abbrev zc3 (a:Int):Int:=zbk a
def zyl:Run:=rF1 dI λb=>(zdy b,[aI<|zc3 b])
def zBW (N:Nat)(a:Int):OA:=
 (cond (ilt a 0) (some [aI<|-1])<|oN (ine 4 0)<|some [aI<|zVY .i64 a 4])
def zN3 (a:Int)(b:zdy a=true):∃N,zBW N a=some [aI<|zc3 a]:=by refine⟨0,?_⟩;unfold zBW oN;refine br (λ_=>?_) (λ_=>j0 rfl ?_);all_goals first|rfl|(simp only [*,zc3,zbk,cT,cF]<;>rfl)|simp_all[Ty.cells,zc3,zbk]
def zHO:vR 283 zyl:=kF1 zf6 zC zB zq (zx []) zN3
@[simp] abbrev zeW (a:Int):Int:=zdp a
def zyk:Run:=rF1 dI λb=>(zdy b,[aI<|zeW b])
def zBV (N:Nat)(a:Int):OA:=
 (cond (ilt a 0) (some [aI<|-1])<|oN (ine 4 0)<|some [aI<|zre a 4])
def zN2 (a:Int)(b:zdy a=true):∃N,zBV N a=some [aI<|zeW a]:=by refine⟨0,?_⟩;unfold zBV oN;refine br (λ_=>?_) (λ_=>j0 rfl ?_);all_goals first|rfl|(simp only [*,zeW,zdp,cT,cF]<;>rfl)|simp_all[Ty.cells,zeW,zdp]
def zHN:vR 288 zyk:=kF1 zf6 zC zB zq (zx []) zN2
def zcd (w:Bool):Int:=bif w then 2 else 1
@[simp] abbrev ztt (w:Bool):Bool:=true
@[simp] abbrev zfZ (w:Bool):Int:=zcd w
def zDr:Run:=rF1 dB λb=>(ztt b,[aI<|zfZ b])
def zJm (N:Nat)(a:Bool):OA:=
 (cond a (some [aI 2])<|some [aI 1])
def zTX (a:Bool)(b:ztt a=true):∃N,zJm N a=some [aI<|zfZ a]:=by refine⟨0,?_⟩;unfold zJm;refine br (λ_=>?_) (λ_=>?_);all_goals first|rfl|(simp only [*,zfZ,zcd,cT,cF]<;>rfl)|simp_all[Ty.cells,zfZ,zcd]
def zNk:vR 284 zDr:=kF1 zf6 zC zB zq (zx []) zTX
def zr5 (p:Int)(w:Bool):aD:=⟨1,p,w,0⟩
def zy5 (n:Int):aD:=⟨2,0,false,n⟩
def zx2 (n:Int):aD:=⟨3,0,false,n⟩
@[simp] abbrev zkM (p:Int)(w:Bool):Bool:=true
@[simp] abbrev zfE (p:Int)(w:Bool):aD:=zr5 p w
def zpg:Run:=rF2 dI dB λb c=>(zkM b c,[.agg<|zgl<|zfE b c])
def zAk (N:Nat)(a:Int)(c:Bool):OA:=
 (some [.agg [.i .i64 1,.i .i64 a,.b c,.i .i64 0]])
def zLh (a:Int)(b:Bool)(c:zkM a b=true):∃N,zAk N a b=some [.agg<|zgl<|zfE a b]:=by refine⟨0,?_⟩;unfold zAk;first|rfl|(simp only [*,zfE,cT,cF]<;>rfl)|simp_all[Ty.cells,zfE]
def zs6:vR 286 zpg:=kF2 zf6 zC zB zq (zx []) zLh
@[simp] abbrev zg1 (n:Int):Bool:=true
@[simp] abbrev zfW (n:Int):aD:=zy5 n
def zqP:Run:=rF1 dI λb=>(zg1 b,[.agg<|zgl<|zfW b])
def zBZ (N:Nat)(a:Int):OA:=
 (some [.agg [.i .i64 2,.i .i64 0,.b false,.i .i64 a]])
def zN6 (a:Int)(b:zg1 a=true):∃N,zBZ N a=some [.agg<|zgl<|zfW a]:=by refine⟨0,?_⟩;unfold zBZ;first|rfl|(simp only [*,zfW,cT,cF]<;>rfl)|simp_all[Ty.cells,zfW]
def zui:vR 409 zqP:=kF1 zf6 zC zB zq (zx []) zN6
@[simp] abbrev zg2 (n:Int):aD:=zx2 n
def zsN:Run:=rF1 dI λb=>(zg1 b,[.agg<|zgl<|zg2 b])
def zFV (N:Nat)(a:Int):OA:=
 (some [.agg [.i .i64 3,.i .i64 0,.b false,.i .i64 a]])
def zRi (a:Int)(b:zg1 a=true):∃N,zFV N a=some [.agg<|zgl<|zg2 a]:=by refine⟨0,?_⟩;unfold zFV;first|rfl|(simp only [*,zg2,cT,cF]<;>rfl)|simp_all[Ty.cells,zg2]
def zvN:vR 411 zsN:=kF1 zf6 zC zB zq (zx []) zRi
def zhU (t x:Int):Bool:=bif zk t 0 3 then (cond (zk x 1 2) (ine (wand .i64 t x) 0) false) else false
@[simp] abbrev zjc (t x:Int):Bool:=true
@[simp] abbrev ziT (t x:Int):Bool:=zhU t x
def zAU:Run:=rF2 dI dI λb c=>(zjc b c,[aB<|ziT b c])
def zFN (N:Nat)(a b:Int):OA:=
 (oN (zN a 0 3)<|cond (zk a 0 3) (oN (zN b 1 2)<|cond (zk b 1 2) (some [aB<|ine (wand .i64 a b) 0]) oF) oF)
def zQ9 (a b:Int)(c:zjc a b=true):∃N,zFN N a b=some [aB<|ziT a b]:=by refine⟨0,?_⟩;unfold zFN oN;refine j0 rfl (br (λ_=>j0 rfl (br (λ_=>?_) λ_=>?_)) λ_=>?_);all_goals first|rfl|(simp only [*,ziT,zhU,cT,cF]<;>rfl)|simp_all[Ty.cells,ziT,zhU]
def zKl:vR 410 zAU:=kF2 zf6 zC zB zq (zx []) zQ9
def zdH (p:Int):Bool:=zk p 0 255
@[simp] abbrev zc4 (p:Int):Bool:=true
@[simp] abbrev zfp (p:Int):Bool:=zdH p
def zpl:Run:=rF1 dI λb=>(zc4 b,[aB<|zfp b])
def zJq (N:Nat)(a:Int):OA:=
 (oN (zN a 0 255)<|some [aB<|zk a 0 255])
def zC7 (a:Int)(b:zbT big [aI a])(c:zc4 a=true):∃N,zJq N a=some [aB<|zfp a]:=by refine⟨0,?_⟩;unfold zJq oN;refine j0 rfl ?_;first|rfl|(simp only [*,zfp,zdH,cT,cF]<;>rfl)|simp_all[Ty.cells,zfp,zdH]
def zNo:vR 217 zpl:=hF1 zf6 zC zB zq (zx []) zC7
def zM7:vR 208 zpl:=hF1 zf6 zC zB zq (zx []) zC7
def zcw (l:List Ins)(p:Int):Ins:=bif i0 p (ln l) then ix l p zqg else ⟨7,0⟩
@[simp] abbrev zgf (l:List Ins)(p:Int):Bool:=true
@[simp] abbrev zgu (l:List Ins)(p:Int):Ins:=zcw l p
def zGH:Run:=rF2 (dS .ins) dI λb c=>(zgf b c,[aT .ins<|zgu b c])
def zPf (N:Nat)(a:lI)(b:Int):OA:=
 (oN (zN b 0<|wsub .i64 (ln a) 1)<|cond (nB<|zk b 0<|wsub .i64 (ln a) 1) (some [.agg [.i .i64 7,.i .i64 0]])<|oN (inb b<|ln a)<|some [.agg [.i .i64 (ix a b zqg).Op,.i .i64 (ix a b zqg).X]])
def zWB (a:List Ins)(b:Int)(c:zbT big [aS .ins a,aI b])(e:zgf a b=true):∃N,zPf N a b=some [aT .ins<|zgu a b]:=by have d:=((zbp c).1 _ (qD.2 rfl)).len;have f:=zI0 d;refine⟨0,?_⟩;unfold zPf oN nB;refine j0 rfl (brN (λ_=>?_) λ_=>mu ?_);all_goals first|rfl|(simp only [*,zgu,zcw,cT,cF]<;>rfl)|simp_all[Ty.cells,zgu,zcw]
def zQI:vR 294 zGH:=hF2 zf6 zC zB zq (zx []) zWB
def zyH (w:Int):Int:=bif ieq w 5 then 1 else 2
def zd3 (s:k0)(n:Int):Bool:=bif zc8 s A0 then true else (cond (igt n 0) (cond (zk s.af 0<|wsub .i64 n 1) (zk s.aj 1 3) false) false)
@[simp] abbrev zmO (s:k0)(n:Int):Bool:=true
@[simp] abbrev zje (s:k0)(n:Int):Bool:=zd3 s n
def zpn:Run:=rF2 (dT .slot) dI λb c=>(zmO b c,[aB<|zje b c])
def zJt (N:Nat)(a:k0)(b:Int):OA:=
 (oN zbU<|cond (cond (ieq a.af zbl.af) (ieq a.aj zbl.aj) false) oT<|oN (zN a.af 0<|wsub .i64 b 1)<|cond (zk a.af 0<|wsub .i64 b 1) (cond (igt b 0) (oN (zN a.aj 1 3)<|some [aB<|zk a.aj 1 3]) oF) oF)
def zT3 (a:k0)(b:Int)(c:zmO a b=true):∃N,zJt N a b=some [aB<|zje a b]:=by refine⟨0,?_⟩;unfold zJt oN;refine j0 rfl (br (λ_=>?_) λ_=>j0 rfl (br (λ_=>br (λ_=>j0 rfl ?_) λ_=>?_) λ_=>?_));all_goals first|rfl|(simp only [*,zje,zd3,zc8,cT,cF]<;>rfl)|simp_all[Ty.cells,zje,zd3,zc8]
def zNr:vR 346 zpn:=kF2 zf6 zC zB zq (zx []) zT3
def zI9 (N:Nat)(a:k0)(b:Int):OA:=
 (oN zbU<|cond (cond (ieq a.af zbl.af) (ieq a.aj zbl.aj) false) oT<|cond (igt b 0) (oN (zN a.af 0<|wsub .i64 b 1)<|cond (zk a.af 0<|wsub .i64 b 1) (oN (zN a.aj 1 3)<|some [aB<|zk a.aj 1 3]) oF) oF)
def zTK (a:k0)(b:Int)(c:zmO a b=true):∃N,zI9 N a b=some [aB<|zje a b]:=by refine⟨0,?_⟩;unfold zI9 oN;refine j0 rfl (br (λ_=>?_) λ_=>br (λ_=>j0 rfl (br (λ_=>j0 rfl ?_) λ_=>?_)) λ_=>?_);all_goals first|rfl|(simp only [*,zje,zd3,zc8,cT,cF]<;>rfl)|simp_all[Ty.cells,zje,zd3,zc8]
def zM9:vR 377 zpn:=kF2 zf6 zC zB zq (zx []) zTK
@[simp] abbrev zhj (l:List k0):Bool:=pc (l.length<=2147483648)
@[simp] abbrev zfB (l:List k0):List k0:=l
def zv4:Run:=rF1 (dS .slot) λb=>(zhj b,[aS .slot<|zfB b])
def zAc (N:Nat)(a:lS):OA:=
 (oN (few<|ln<|ap [] a)<|some [aS .slot<|ap [] a])
def zK7 (a:List k0)(b:zhj a=true):∃N,zAc N a=some [aS .slot<|zfB a]:=by have c:=zS.1 b;refine⟨0,?_⟩;unfold zAc oN;refine mu ?_;first|rfl|(simp only [*,zfB,cT,cF]<;>rfl)|simp_all[Ty.cells,zfB]
def zED:vR 368 zv4:=kF1 zf6 zC zB zq (zx []) zK7
@[simp] abbrev zo3 (l:List Ins):Bool:=pc (l.length<=2147483648)
@[simp] abbrev zmw (l:List Ins):List Ins:=l
def zyh:Run:=rF1 (dS .ins) λb=>(zo3 b,[aS .ins<|zmw b])
def zBO (N:Nat)(a:lI):OA:=
 (oN (few<|ln<|ap [] a)<|some [aS .ins<|ap [] a])
def zNX (a:List Ins)(b:zo3 a=true):∃N,zBO N a=some [aS .ins<|zmw a]:=by have c:=zS.1 b;refine⟨0,?_⟩;unfold zBO oN;refine mu ?_;first|rfl|(simp only [*,zmw,cT,cF]<;>rfl)|simp_all[Ty.cells,zmw]
def zHG:vR 366 zyh:=kF1 zf6 zC zB zq (zx []) zNX
def ziJ (m:List LI)(p c:Int):Bool:=bif i0 p (ln m) then i0 c (ln<|ix m p []) else false
def cellAt (m:List LI)(p c:Int):Int:=bif ziJ m p c then ix (ix m p []) c 0 else 0
def zbN (m:List LI)(p c v:Int):List LI:=bif ziJ m p c then (cond (zk v 0 99) (up m p<|up (ix m p []) c v) m) else m
def zzA (m:List LI)(p c:Int):(ziJ m p c=true)↔i0 p (ln m)=true/\i0 c (ln<|ix m p [])=true:=by unfold ziJ;cases i0 p (ln m)<;>simp
def zbah {n:Nat}{m:List LI}(h:CVB n (.s (.sl .int) m)):m.length<=n/\∀p:Int,i0 p (ln m)=true->(ix m p []).length<=n :=
 ⟨h.len,λp a=>(h.inv.2 _ (zbE a []) _ (qD.2 rfl)).len⟩
@[simp] abbrev ziX (m:List LI)(p c:Int):Bool:=true
@[simp] abbrev zq2 (m:List LI)(p c:Int):Bool:=ziJ m p c
def zDw:Run:=rF3 (dS<|.sl .int) dI dI λb c d=>(ziX b c d,[aB<|zq2 b c d])
def zJy (N:Nat)(a:lM)(b c:Int):OA:=
 let d:=wsub .i64 (ln<|ix a b []) 1; (oN (zN b 0<|wsub .i64 (ln a) 1)<|cond (zk b 0<|wsub .i64 (ln a) 1) (oN (inb b<|ln a)<|oN (zN c 0 d)<|some [aB<|zk c 0 d]) oF)
def zT8 (a:List LI)(b c:Int)(e:zbT big [aS (.sl .int) a,aI b,aI c])(g:ziX a b c=true):∃N,zJy N a b c=some [aB<|zq2 a b c]:=by
 have d:=zbah ((zbp e).1 _ (qD.2 rfl));have j:=zI0 d.1;have f:∀p i:Int,i0 p (ln a)=true->zk i 0 (wsub .i64 (ln<|ix a p []) 1)=i0 i (ln<|ix a p []):=λp i h=>zI0 (d.2 p h) i;refine⟨0,?_⟩;unfold zJy oN;conv=>zeta
 refine j0 rfl (br (λ_=>mu (j0 rfl ?_)) λ_=>?_);all_goals first|rfl|(simp only [*,zq2,ziJ,cT,cF]<;>rfl)|simp_all[Ty.cells,zq2,ziJ]
def zNx:vR 408 zDw:=hF3 zf6 zC zB zq (zx []) zT8
def z6S:zW:=[(119,zDo),(283,zyl),(288,zyk),(284,zDr),(286,zpg),(409,zqP),(411,zsN),(410,zAU),(217,zpl),(208,zpl),(294,zGH),(346,zpn),(377,zpn),(368,zv4),(366,zyh),(408,zDw)]++ctrU
def zhi:zL z6S:=zh zNd (zh zHO<|zh zHN<|zh zNk<|zh zs6<|zh zui<|zh zvN<|zh zKl<|zh zNo<|zh zM7<|zh zQI<|zh zNr<|zh zM9<|zh zED<|zh zHG<|zh zNx zf6)
@[simp] abbrev zoc (m:List LI)(p c:Int):Int:=cellAt m p c
def zDp:Run:=rF3 (dS<|.sl .int) dI dI λb c d=>(ziX b c d,[aI<|zoc b c d])
def zJd (N:Nat)(a:lM)(b c:Int):OA:=
 (oN (ziX a b c)<|cond (nB<|zq2 a b c) (some [aI 0])<|oN (inb b<|ln a)<|oN (inb c<|ln<|ix a b [])<|some [aI<|ix (ix a b []) c 0])
def zTO (a:List LI)(b c:Int)(d:ziX a b c=true):∃N,zJd N a b c=some [aI<|zoc a b c]:=by have e:=(zzA a b c).1;refine⟨0,?_⟩;unfold zJd oN nB;refine j0 rfl (brN (λ_=>?_) λ_=>mu (mu ?_));all_goals first|rfl|(simp only [*,zoc,cellAt,cT,cF]<;>rfl)|simp_all[Ty.cells,zoc,cellAt]
def zNe:vR 291 zDp:=kF3 zhi zC zB zq (zx []) zTO
def zdb (t:List k0)(n p:Int):Bool:=bif t.all (λs=>zd3 s p) then ieq (ln t) n else false
@[simp] abbrev zjf (t:List k0)(n p:Int):Bool:=true
@[simp] abbrev zeI (t:List k0)(n p:Int):Bool:=zdb t n p
def znJ:Run:=rF3 (dS .slot) dI dI λb c d=>(zjf b c d,[aB<|zeI b c d])
def zF1 (N:Nat)(d:lS)(e f:Int):OA:=
 (r0 (σ:=(Int×Int×Int×lS×Unit)) N (λg a=>let b:=a.2.2.2.1;let c:=ix b a.2.2.1 zba; (cond (ilt a.2.2.1<|ln b) (oN (inb a.2.2.1<|ln b)<|oN (zmO c a.2.1)<|cond (nB<|zje c a.2.1) oF<|g (a.1,a.2.1,zK .i64 a.2.2.1 1,b,()))<|some [aB<|ieq (ln b) a.1])) (e,f,0,d,()))
def zRY:=zx [(213,0,{n:=25,tm:=[(0,.sl 0 []),(1,ti),(2,ti),(7,ti)],lo:=[],ro:=[(0,.slot,false)]})]
def zRo (a:List k0)(d c:Int)(j:zbT big [aS .slot a,aI d,aI c])(l:zjf a d c=true):∃N,zF1 N a d c=some [aB<|zeI a d c]:=by
 have h:(_:List _).length<=big:=((zbp j).1 _ (qD.2 rfl)).len;refine zcj λN g=>?_;unfold zF1 oN nB;conv=>zeta
 refine(zbq a (λi (t:Unit)=>(d,c,(i:Int),a,())) _ (λ_ x (_:Unit) k=>bif (λs=>zd3 s c) x then k () else oF) (λ(t:Unit)=>some [.one<|.b<|ieq (ln a) d]) (λi e t rec=>?_) (λt rec=>?_) _ ()<|g h).trans ?_;{simp only [zbu e,zT e,zbi e,zbj e h,cT];exact zj6 rfl};{simp only [zbh,cF]};rw[zhS λs=>zd3 s c];refine br (λf=>?_) (λf=>?_);{first|rfl|(simp only [f,zeI,zdb,cT,cF]<;>rfl)|(simp_all [Ty.cells,zeI,zdb];done)};{first|rfl|(simp only [f,zeI,zdb,cT,cF]<;>rfl)|(simp_all [Ty.cells,zeI,zdb];done)}
def zKx:vR 213 znJ:=hF3 zhi zC zB zq zRY zRo
def zFB (N:Nat)(c:lS)(e f:Int):OA:=
 (r0 (σ:=(Int×Int×Int×Int×lS×Unit)) N (λg a=>let b:=a.2.2.2.2.1;let d:=ix b a.2.2.2.1 zba; (cond (ilt a.2.2.2.1 a.2.2.1) (oN (inb a.2.2.2.1<|ln b)<|oN (zmO d a.2.1)<|cond (nB<|zje d a.2.1) oF<|g (a.1,a.2.1,a.2.2.1,zK .i64 a.2.2.2.1 1,b,()))<|some [aB<|ieq (ln b) a.1])) (e,f,ln c,0,c,()))
def zRT:=zx [(207,0,{n:=24,tm:=[(0,.sl 0 []),(1,ti),(2,ti),(9,.sl 0 []),(10,ti),(11,ti)],lo:=[],ro:=[(0,.slot,false)]})]
def zQY (a:List k0)(d c:Int)(j:zbT big [aS .slot a,aI d,aI c])(l:zjf a d c=true):∃N,zFB N a d c=some [aB<|zeI a d c]:=by
 have h:(_:List _).length<=big:=((zbp j).1 _ (qD.2 rfl)).len;refine zcj λN g=>?_;unfold zFB oN nB;conv=>zeta
 refine(zbq a (λi (t:Unit)=>(d,c,ln a,(i:Int),a,())) _ (λ_ x (_:Unit) k=>bif (λs=>zd3 s c) x then k () else oF) (λ(t:Unit)=>some [.one<|.b<|ieq (ln a) d]) (λi e t rec=>?_) (λt rec=>?_) _ ()<|g h).trans ?_;{simp only [zbu e,zT e,zbi e,zbj e h,cT];exact zj6 rfl};{simp only [zbh,cF]};rw[zhS λs=>zd3 s c];refine br (λf=>?_) (λf=>?_);{first|rfl|(simp only [f,zeI,zdb,cT,cF]<;>rfl)|(simp_all [Ty.cells,zeI,zdb];done)};{first|rfl|(simp only [f,zeI,zdb,cT,cF]<;>rfl)|(simp_all [Ty.cells,zeI,zdb];done)}
def zKf:vR 207 znJ:=hF3 zhi zC zB zq zRT zQY
def zcs (c:LI):Bool:=bif c.all (λx=>zk x 0 99) then ieq (ln c) 4 else false
@[simp] abbrev zdz (c:LI):Bool:=true
@[simp] abbrev zc6 (c:LI):Bool:=zcs c
def zpk:Run:=rF1 (dS .int) λb=>(zdz b,[aB<|zc6 b])
def zJp (N:Nat)(b:LI):OA:=
 (r0 (σ:=(Int×LI×Unit)) N (λc a=>cond (ilt a.1<|ln a.2.1) (oN (inb a.1<|ln a.2.1)<|oN (zN (ix a.2.1 a.1 0) 0 99)<|cond (nB<|zk (ix a.2.1 a.1 0) 0 99) oF<|c (zK .i64 a.1 1,a.2.1,()))<|some [aB<|ieq (ln a.2.1) 4]) (0,b,()))
def zVI:=zx [(216,0,{n:=19,tm:=[(0,.sl 0 []),(3,ti)],lo:=[],ro:=[(0,.int,false)]})]
def zT0 (a:LI)(g:zbT big [aS .int a])(j:zdz a=true):∃N,zJp N a=some [aB<|zc6 a]:=by have f:(_:List _).length<=big:=((zbp g).1 _ (qD.2 rfl)).len;refine zcj λN e=>?_;unfold zJp oN nB;refine(zbq a (λi (t:Unit)=>((i:Int),a,())) _ (λ_ x (_:Unit) h=>bif (λx=>zk x 0 99) x then h () else oF) (λ(t:Unit)=>some [.one<|.b<|ieq (ln a) 4]) (λi c t rec=>?_) (λt rec=>?_) _ ()<|e f).trans ?_;{simp only [zbu c,zT c,zbi c,zbj c f,cT];exact zj6 rfl};{simp only [zbh,cF]};rw[zhS λx=>zk x 0 99];refine br (λd=>?_) (λd=>?_);{first|rfl|(simp only [d,zc6,zcs,cT,cF]<;>rfl)|(simp_all [Ty.cells,zc6,zcs];done)};{first|rfl|(simp only [d,zc6,zcs,cT,cF]<;>rfl)|(simp_all [Ty.cells,zc6,zcs];done)}
def zNn:vR 216 zpk:=hF1 zhi zC zB zq zVI zT0
def zI7 (N:Nat)(b:LI):OA:=
 (r0 (σ:=(Int×Int×LI×Unit)) N (λc a=>cond (ilt a.2.1 a.1) (oN (inb a.2.1<|ln a.2.2.1)<|oN (zN (ix a.2.2.1 a.2.1 0) 0 99)<|cond (nB<|zk (ix a.2.2.1 a.2.1 0) 0 99) oF<|c (a.1,zK .i64 a.2.1 1,a.2.2.1,()))<|some [aB<|ieq (ln a.2.2.1) 4]) (ln b,0,b,()))
def zVz:=zx [(211,0,{n:=18,tm:=[(0,.sl 0 []),(5,.sl 0 []),(6,ti),(7,ti)],lo:=[],ro:=[(0,.int,false)]})]
def zTI (a:LI)(g:zbT big [aS .int a])(j:zdz a=true):∃N,zI7 N a=some [aB<|zc6 a]:=by have f:(_:List _).length<=big:=((zbp g).1 _ (qD.2 rfl)).len;refine zcj λN e=>?_;unfold zI7 oN nB;refine(zbq a (λi (t:Unit)=>(ln a,(i:Int),a,())) _ (λ_ x (_:Unit) h=>bif (λx=>zk x 0 99) x then h () else oF) (λ(t:Unit)=>some [.one<|.b<|ieq (ln a) 4]) (λi c t rec=>?_) (λt rec=>?_) _ ()<|e f).trans ?_;{simp only [zbu c,zT c,zbi c,zbj c f,cT];exact zj6 rfl};{simp only [zbh,cF]};rw[zhS λx=>zk x 0 99];refine br (λd=>?_) (λd=>?_);{first|rfl|(simp only [d,zc6,zcs,cT,cF]<;>rfl)|(simp_all [Ty.cells,zc6,zcs];done)};{first|rfl|(simp only [d,zc6,zcs,cT,cF]<;>rfl)|(simp_all [Ty.cells,zc6,zcs];done)}
def zM6:vR 211 zpk:=hF1 zhi zC zB zq zVz zTI
def zez (i:Ins):Bool:=bif (ieq i.Op 1||ieq i.Op 2||ieq i.Op 5||ieq i.Op 6) then zk i.X 0 99 else (cond (ieq i.Op 3||ieq i.Op 4) (zk i.X 0 15)<|cond (ieq i.Op 7) (ieq i.X 0)<|cond (ieq i.Op 8) (zk i.X 0 11) false)
@[simp] abbrev zwr (i:Ins):Bool:=true
@[simp] abbrev ztJ (i:Ins):Bool:=zez i
def zrz:Run:=rF1 (dT .ins) λb=>(zwr b,[aB<|ztJ b])
def zPg (N:Nat)(a:Ins):OA:=
 let b:=ieq a.Op 4;let l:=zN a.X 0 99;let k:=aB<|zk a.X 0 99;let j:=ieq a.Op 8;let i:=ieq a.Op 7;let h:=ieq a.Op 3;let g:=zN a.X 0 11;let f:=zN a.X 0 15;let e:=aB<|ieq a.X 0;let d:=aB<|zk a.X 0 11;let c:=aB<|zk a.X 0 15; (cond (ieq a.Op 1) (cond (ieq a.Op 1) (oN l<|some [k])<|cond h (cond h (oN f<|some [c])<|cond i (some [e])<|cond j (oN g<|some [d]) oF)<|cond b (oN f<|some [c])<|cond i (some [e])<|cond j (oN g<|some [d]) oF)<|cond (ieq a.Op 2) (cond (ieq a.Op 2) (oN l<|some [k])<|cond h (cond h (oN f<|some [c])<|cond i (some [e])<|cond j (oN g<|some [d]) oF)<|cond b (oN f<|some [c])<|cond i (some [e])<|cond j (oN g<|some [d]) oF)<|cond (ieq a.Op 5) (cond (ieq a.Op 5) (oN l<|some [k])<|cond h (cond h (oN f<|some [c])<|cond i (some [e])<|cond j (oN g<|some [d]) oF)<|cond b (oN f<|some [c])<|cond i (some [e])<|cond j (oN g<|some [d]) oF)<|cond (ieq a.Op 6) (oN l<|some [k])<|cond h (cond h (oN f<|some [c])<|cond i (some [e])<|cond j (oN g<|some [d]) oF)<|cond b (oN f<|some [c])<|cond i (some [e])<|cond j (oN g<|some [d]) oF)
def zGu (a:Ins)(b:zbT big [aT .ins a])(c:zwr a=true):∃N,zPg N a=some [aB<|ztJ a]:=by
 refine⟨0,?_⟩;unfold zPg oN;conv=>zeta
 refine br (λ_=>br (λ_=>j0 rfl ?_) λ_=>br (λ_=>br (λ_=>j0 rfl ?_) λ_=>br (λ_=>?_) λ_=>br (λ_=>j0 rfl ?_) λ_=>?_) λ_=>br (λ_=>j0 rfl ?_) λ_=>br (λ_=>?_) λ_=>br (λ_=>j0 rfl ?_) λ_=>?_) (λ_=>br (λ_=>br (λ_=>j0 rfl ?_) λ_=>br (λ_=>br (λ_=>j0 rfl ?_) λ_=>br (λ_=>?_) λ_=>br (λ_=>j0 rfl ?_) λ_=>?_) λ_=>br (λ_=>j0 rfl ?_) λ_=>br (λ_=>?_) λ_=>br (λ_=>j0 rfl ?_) λ_=>?_) λ_=>br (λ_=>br (λ_=>j0 rfl ?_) λ_=>br (λ_=>br (λ_=>j0 rfl ?_) λ_=>br (λ_=>?_) λ_=>br (λ_=>j0 rfl ?_) λ_=>?_) λ_=>br (λ_=>j0 rfl ?_) λ_=>br (λ_=>?_) λ_=>br (λ_=>j0 rfl ?_) λ_=>?_) λ_=>br (λ_=>j0 rfl ?_) λ_=>br (λ_=>br (λ_=>j0 rfl ?_) λ_=>br (λ_=>?_) λ_=>br (λ_=>j0 rfl ?_) λ_=>?_) λ_=>br (λ_=>j0 rfl ?_) λ_=>br (λ_=>?_) λ_=>br (λ_=>j0 rfl ?_) λ_=>?_);all_goals first|rfl|(simp only [*,ztJ,zez,cT,cF]<;>rfl)|simp_all[Ty.cells,ztJ,zez]
def zQJ:vR 453 zrz:=hF1 zhi zC zB zq (zx []) zGu
def zQB:vR 451 zrz:=hF1 zhi zC zB zq (zx []) zGu
def ziD (e:aD):Bool:=bif (ieq e.Kind 0||ieq e.Kind 4) then (ieq e.af 0&&(!e.Write&&ieq e.N 0)) else (cond (ieq e.Kind 1) (zk e.af 0 3&&ieq e.N 0)<|cond (ieq e.Kind 2||ieq e.Kind 3) (zk e.N 0 99&&(ieq e.af 0 && !e.Write)) false)
@[simp] def zbbE (x:Bool):zhh x false = !x:=by cases x<;>rfl
attribute [simp] zIc
@[simp] abbrev zts (e:aD):Bool:=true
@[simp] abbrev zlZ (e:aD):Bool:=ziD e
def zpf:Run:=rF1 dE λb=>(zts b,[aB<|zlZ b])
def zJf (N:Nat)(a:aD):OA:=
 let f:=zk a.N 0 99;let e:=zN a.N 0 99;let d:=ieq a.Kind 2;let b:=ieq a.af 0;let c:=aB<|nB a.Write;let g:=aB<|cond (ieq a.Kind a.Kind) (cond b (cond (zhh a.Write false) (ieq a.N 0) false) false) false; (cond (ieq a.Kind 0) (cond (ieq a.Kind 0) (some [g])<|cond (ieq a.Kind 1) (oN (zN a.af 0 3)<|cond (zk a.af 0 3) (some [aB<|ieq a.N 0]) oF)<|cond d (cond d (oN e<|cond f (cond b (some [c]) oF) oF) oF)<|cond (ieq a.Kind 3) (oN e<|cond f (cond b (some [c]) oF) oF) oF)<|cond (ieq a.Kind 4) (some [g])<|cond (ieq a.Kind 1) (oN (zN a.af 0 3)<|cond (zk a.af 0 3) (some [aB<|ieq a.N 0]) oF)<|cond d (cond d (oN e<|cond f (cond b (some [c]) oF) oF) oF)<|cond (ieq a.Kind 3) (oN e<|cond f (cond b (some [c]) oF) oF) oF)
def zTP (a:aD)(b:zts a=true):∃N,zJf N a=some [aB<|zlZ a]:=by
 refine⟨0,?_⟩;unfold zJf oN nB;conv=>zeta
 refine br (λ_=>br (λ_=>?_) λ_=>br (λ_=>j0 rfl (br (λ_=>?_) λ_=>?_)) λ_=>br (λ_=>br (λ_=>j0 rfl (br (λ_=>br (λ_=>?_) λ_=>?_) λ_=>?_)) λ_=>?_) λ_=>br (λ_=>j0 rfl (br (λ_=>br (λ_=>?_) λ_=>?_) λ_=>?_)) λ_=>?_) (λ_=>br (λ_=>?_) λ_=>br (λ_=>j0 rfl (br (λ_=>?_) λ_=>?_)) λ_=>br (λ_=>br (λ_=>j0 rfl (br (λ_=>br (λ_=>?_) λ_=>?_) λ_=>?_)) λ_=>?_) λ_=>br (λ_=>j0 rfl (br (λ_=>br (λ_=>?_) λ_=>?_) λ_=>?_)) λ_=>?_);all_goals first|rfl|(simp only [*,zlZ,ziD,cT,cF]<;>rfl)|simp_all[Ty.cells,zlZ,ziD]
def zNg:vR 383 zpf:=kF1 zhi zC zB zq (zx []) zTP
def zI1 (N:Nat)(a:aD):OA:=
 let g:=zk a.N 0 99;let f:=zN a.N 0 99;let e:=ieq a.Kind 2;let d:=aB<|ieq a.N 0;let b:=ieq a.af 0;let c:=aB<|nB a.Write; (cond (ieq a.Kind 0) (cond (ieq a.Kind 0) (cond b (cond (nB a.Write) (some [d]) oF) oF)<|cond (ieq a.Kind 1) (oN (zN a.af 0 3)<|cond (zk a.af 0 3) (some [d]) oF)<|cond e (cond e (oN f<|cond g (cond b (some [c]) oF) oF) oF)<|cond (ieq a.Kind 3) (oN f<|cond g (cond b (some [c]) oF) oF) oF)<|cond (ieq a.Kind 4) (cond b (cond (nB a.Write) (some [d]) oF) oF)<|cond (ieq a.Kind 1) (oN (zN a.af 0 3)<|cond (zk a.af 0 3) (some [d]) oF)<|cond e (cond e (oN f<|cond g (cond b (some [c]) oF) oF) oF)<|cond (ieq a.Kind 3) (oN f<|cond g (cond b (some [c]) oF) oF) oF)
def zTB (a:aD)(b:zts a=true):∃N,zI1 N a=some [aB<|zlZ a]:=by
 refine⟨0,?_⟩;unfold zI1 oN nB;conv=>zeta
 refine br (λ_=>br (λ_=>br (λ_=>brN (λ_=>?_) λ_=>?_) λ_=>?_) λ_=>br (λ_=>j0 rfl (br (λ_=>?_) λ_=>?_)) λ_=>br (λ_=>br (λ_=>j0 rfl (br (λ_=>br (λ_=>?_) λ_=>?_) λ_=>?_)) λ_=>?_) λ_=>br (λ_=>j0 rfl (br (λ_=>br (λ_=>?_) λ_=>?_) λ_=>?_)) λ_=>?_) (λ_=>br (λ_=>br (λ_=>brN (λ_=>?_) λ_=>?_) λ_=>?_) λ_=>br (λ_=>j0 rfl (br (λ_=>?_) λ_=>?_)) λ_=>br (λ_=>br (λ_=>j0 rfl (br (λ_=>br (λ_=>?_) λ_=>?_) λ_=>?_)) λ_=>?_) λ_=>br (λ_=>j0 rfl (br (λ_=>br (λ_=>?_) λ_=>?_) λ_=>?_)) λ_=>?_);all_goals first|rfl|(simp only [*,zlZ,ziD,cT,cF]<;>rfl)|simp_all[Ty.cells,zlZ,ziD]
def zM1:vR 380 zpf:=kF1 zhi zC zB zq (zx []) zTB
def zvp (c:Ctl):LI:=(cond (zk c.aq 0 3) [] [1])++((cond (zk c.Post 0 255) [] [2])++((cond (ine c.Post 0) (cond c.Open [] [3]) [])++(cond (ieq c.aq 2) (cond (ine c.Post 0) [4] []) [])))
@[simp] def zbbB {a:Type}(x:a)(l m:List a):ap (x::l) m=x::ap l m:=rfl
@[simp] abbrev zge (c:Ctl):Bool:=true
@[simp] abbrev znk (c:Ctl):LI:=zvp c
def zls:Run:=rF1 dC λb=>(zge b,[aS .int<|znk b])
def zAj (N:Nat)(b:Ctl):OA:=
 let e:=aS .int [];let k:=ap (ap [] [2]) [4];let j:=ap (ap [] [1]) [4];let i:=aS .int<|ap [] [2];let h:=aS .int<|ap [] [1];let g:=ap (ap [] [2]) [3];let f:=ap (ap [] [1]) [3];let c:=ieq b.aq 2;let a:=ine b.Post 0;let d:=ap (ap [] [1]) [2];let l:=aS .int d; (oN (zN b.aq 0 3)<|cond (nB<|zk b.aq 0 3) (oN (few<|ln<|ap [] [1])<|oN (zN b.Post 0 255)<|cond (nB<|zk b.Post 0 255) (oN (few<|ln d)<|cond a (cond (nB b.Open) (oN (few<|ln<|ap d [3])<|cond c (cond a (oN (few<|ln<|ap (ap d [3]) [4])<|some [aS .int<|ap (ap d [3]) [4]])<|some [aS .int<|ap d [3]])<|some [aS .int<|ap d [3]])<|cond c (cond a (oN (few<|ln<|ap d [4])<|some [aS .int<|ap d [4]])<|some [l])<|some [l])<|cond c (cond a (oN (few<|ln<|ap d [4])<|some [aS .int<|ap d [4]])<|some [l])<|some [l])<|cond a (cond (nB b.Open) (oN (few<|ln f)<|cond c (cond a (oN (few<|ln<|ap f [4])<|some [aS .int<|ap f [4]])<|some [aS .int f])<|some [aS .int f])<|cond c (cond a (oN (few<|ln j)<|some [aS .int j])<|some [h])<|some [h])<|cond c (cond a (oN (few<|ln j)<|some [aS .int j])<|some [h])<|some [h])<|oN (zN b.Post 0 255)<|cond (nB<|zk b.Post 0 255) (oN (few<|ln<|ap [] [2])<|cond a (cond (nB b.Open) (oN (few<|ln g)<|cond c (cond a (oN (few<|ln<|ap g [4])<|some [aS .int<|ap g [4]])<|some [aS .int g])<|some [aS .int g])<|cond c (cond a (oN (few<|ln k)<|some [aS .int k])<|some [i])<|some [i])<|cond c (cond a (oN (few<|ln k)<|some [aS .int k])<|some [i])<|some [i])<|cond a (cond (nB b.Open) (oN (few<|ln<|ap [] [3])<|cond c (cond a (oN (few<|ln<|ap (ap [] [3]) [4])<|some [aS .int<|ap (ap [] [3]) [4]])<|some [aS .int<|ap [] [3]])<|some [aS .int<|ap [] [3]])<|cond c (cond a (oN (few<|ln<|ap [] [4])<|some [aS .int<|ap [] [4]])<|some [e])<|some [e])<|cond c (cond a (oN (few<|ln<|ap [] [4])<|some [aS .int<|ap [] [4]])<|some [e])<|some [e])
def zvQ (a:Ctl)(b:zbT big [.agg<|zm0 a])(c:zge a=true):∃N,zAj N a=some [aS .int<|znk a]:=by
 refine⟨0,?_⟩;unfold zAj oN nB;conv=>zeta
 refine j0 rfl (brN (λ_=>mu (j0 rfl (brN (λ_=>mu (br (λ_=>brN (λ_=>mu (br (λ_=>br (λ_=>mu ?_) λ_=>?_) λ_=>?_)) λ_=>br (λ_=>br (λ_=>mu ?_) λ_=>?_) λ_=>?_) λ_=>br (λ_=>br (λ_=>mu ?_) λ_=>?_) λ_=>?_)) λ_=>br (λ_=>brN (λ_=>mu (br (λ_=>br (λ_=>mu ?_) λ_=>?_) λ_=>?_)) λ_=>br (λ_=>br (λ_=>mu ?_) λ_=>?_) λ_=>?_) λ_=>br (λ_=>br (λ_=>mu ?_) λ_=>?_) λ_=>?_))) λ_=>j0 rfl (brN (λ_=>mu (br (λ_=>brN (λ_=>mu (br (λ_=>br (λ_=>mu ?_) λ_=>?_) λ_=>?_)) λ_=>br (λ_=>br (λ_=>mu ?_) λ_=>?_) λ_=>?_) λ_=>br (λ_=>br (λ_=>mu ?_) λ_=>?_) λ_=>?_)) λ_=>br (λ_=>brN (λ_=>mu (br (λ_=>br (λ_=>mu ?_) λ_=>?_) λ_=>?_)) λ_=>br (λ_=>br (λ_=>mu ?_) λ_=>?_) λ_=>?_) λ_=>br (λ_=>br (λ_=>mu ?_) λ_=>?_) λ_=>?_));all_goals first|rfl|(simp only [*,znk,zvp,cT,cF]<;>rfl)|simp_all[Ty.cells,znk,zvp]
def zEK:vR 437 zls:=hF1 zhi zC zB zq (zx []) zvQ
def zEy:vR 452 zls:=hF1 zhi zC zB zq (zx []) zvQ
def zhv (p n:Int):Bool:=ieq (wand .i64 (zDT .i64 p n) 1) 1
def scan (p:Int):Int:=bif zhv p 7 then 7 else (cond (zhv p 6) 6<|cond (zhv p 5) 5<|cond (zhv p 4) 4<|cond (zhv p 3) 3<|cond (zhv p 2) 2<|cond (zhv p 1) 1<|cond (zhv p 0) 0<|-1)
def z5x:∀n:Fin 256,-1<=scan (n.val:Int)/\scan (n.val:Int)<=7/\(0<=scan (n.val:Int)->wsub .i64 (n.val:Int) (zqf .i64 1<|scan (n.val:Int))=zMF .i64 (n.val:Int) (zqf .i64 1<|scan (n.val:Int))):=by decide +kernel
def z2r {P:Int->Prop}(h:∀n:Fin 256,P (n.val:Int)){x:Int}(a:0<=x)(b:x<=255):P x:=by have:=h ⟨x.toNat,by omega⟩;have e:((x.toNat:Nat):Int)=x:=(by omega);simpa [e] using this
def z6T:zW:=[(291,zDp),(213,znJ),(207,znJ),(216,zpk),(211,zpk),(453,zrz),(451,zrz),(383,zpf),(380,zpf),(437,zls),(452,zls)]++z6S
def zh2:zL z6T:=zh zNe (zh zKx<|zh zKf<|zh zNn<|zh zM6<|zh zQJ<|zh zQB<|zh zNg<|zh zM1<|zh zEK<|zh zEy zhi)
def ziK (m:List LI)(n:Int):Bool:=bif m.all zcs then ieq (ln m) n else false
@[simp] abbrev zl2 (m:List LI)(n:Int):Bool:=true
@[simp] abbrev zgv (m:List LI)(n:Int):Bool:=ziK m n
def zrA:Run:=rF2 (dS<|.sl .int) dI λb c=>(zl2 b c,[aB<|zgv b c])
def zPh (N:Nat)(c:lM)(d:Int):OA:=
 (r0 (σ:=(Int×Int×lM×Unit)) N (λe a=>let b:=a.2.2.1; (cond (ilt a.2.1<|ln b) (oN (inb a.2.1<|ln b)<|oN (zdz<|ix b a.2.1 [])<|cond (nB<|zc6<|ix b a.2.1 []) oF<|e (a.1,zK .i64 a.2.1 1,b,()))<|some [aB<|ieq (ln b) a.1])) (d,0,c,()))
def zXm:=zx [(120,0,{n:=22,tm:=[(0,.sl 0 []),(1,ti),(5,ti)],lo:=[],ro:=[(0,.sl .int,false)]})]
def zWC (a:List LI)(c:Int)(h:zbT big [aS (.sl .int) a,aI c])(k:zl2 a c=true):∃N,zPh N a c=some [aB<|zgv a c]:=by
 have g:(_:List _).length<=big:=((zbp h).1 _ (qD.2 rfl)).len;refine zcj λN f=>?_;unfold zPh oN nB;conv=>zeta
 refine(zbq a (λi (t:Unit)=>(c,(i:Int),a,())) _ (λ_ x (_:Unit) j=>bif (zcs) x then j () else oF) (λ(t:Unit)=>some [.one<|.b<|ieq (ln a) c]) (λi d t rec=>?_) (λt rec=>?_) _ ()<|f g).trans ?_;{simp only [zbu d,zT d,zbi d,zbj d g,cT];exact zj6 rfl};{simp only [zbh,cF]};rw[zhS<|zcs];refine br (λe=>?_) (λe=>?_);{first|rfl|(simp only [e,zgv,ziK,cT,cF]<;>rfl)|(simp_all [Ty.cells,zgv,ziK];done)};{first|rfl|(simp only [e,zgv,ziK,cT,cF]<;>rfl)|(simp_all [Ty.cells,zgv,ziK];done)}
def zQK:vR 120 zrA:=hF2 zh2 zC zB zq zXm zWC
def zO8 (N:Nat)(c:lM)(d:Int):OA:=
 (r0 (σ:=(Int×Int×Int×lM×Unit)) N (λe a=>let b:=a.2.2.2.1; (cond (ilt a.2.2.1 a.2.1) (oN (inb a.2.2.1<|ln b)<|oN (zdz<|ix b a.2.2.1 [])<|cond (nB<|zc6<|ix b a.2.2.1 []) oF<|e (a.1,a.2.1,zK .i64 a.2.2.1 1,b,()))<|some [aB<|ieq (ln b) a.1])) (d,ln c,0,c,()))
def zXk:=zx [(218,0,{n:=21,tm:=[(0,.sl 0 []),(1,ti),(7,.sl 0 []),(8,ti),(9,ti)],lo:=[],ro:=[(0,.sl .int,false)]})]
def zWu (a:List LI)(c:Int)(h:zbT big [aS (.sl .int) a,aI c])(k:zl2 a c=true):∃N,zO8 N a c=some [aB<|zgv a c]:=by
 have g:(_:List _).length<=big:=((zbp h).1 _ (qD.2 rfl)).len;refine zcj λN f=>?_;unfold zO8 oN nB;conv=>zeta
 refine(zbq a (λi (t:Unit)=>(c,ln a,(i:Int),a,())) _ (λ_ x (_:Unit) j=>bif (zcs) x then j () else oF) (λ(t:Unit)=>some [.one<|.b<|ieq (ln a) c]) (λi d t rec=>?_) (λt rec=>?_) _ ()<|f g).trans ?_;{simp only [zbu d,zT d,zbi d,zbj d g,cT];exact zj6 rfl};{simp only [zbh,cF]};rw[zhS<|zcs];refine br (λe=>?_) (λe=>?_);{first|rfl|(simp only [e,zgv,ziK,cT,cF]<;>rfl)|(simp_all [Ty.cells,zgv,ziK];done)};{first|rfl|(simp only [e,zgv,ziK,cT,cF]<;>rfl)|(simp_all [Ty.cells,zgv,ziK];done)}
def zQC:vR 218 zrA:=hF2 zh2 zC zB zq zXk zWu
def zdg (p:List Ins):Bool:=bif p.all zez then zk (ln p) 1 12 else false
@[simp] abbrev ztw (p:List Ins):Bool:=true
@[simp] abbrev zhr (p:List Ins):Bool:=zdg p
def zpm:Run:=rF1 (dS .ins) λb=>(ztw b,[aB<|zhr b])
def zJr (N:Nat)(c:lI):OA:=
 (r0 (σ:=(Int×lI×Unit)) N (λd a=>let b:=ix a.2.1 a.1 zqg; (cond (ilt a.1<|ln a.2.1) (oN (inb a.1<|ln a.2.1)<|oN (zwr b)<|cond (nB<|ztJ b) oF<|d (zK .i64 a.1 1,a.2.1,()))<|oN (zN (ln a.2.1) 1 12)<|some [aB<|zk (ln a.2.1) 1 12])) (0,c,()))
def zVJ:=zx [(382,0,{n:=19,tm:=[(0,.sl 0 []),(3,ti)],lo:=[],ro:=[(0,.ins,false)]})]
def zT1 (a:List Ins)(g:zbT big [aS .ins a])(j:ztw a=true):∃N,zJr N a=some [aB<|zhr a]:=by
 have f:(_:List _).length<=big:=((zbp g).1 _ (qD.2 rfl)).len;refine zcj λN e=>?_;unfold zJr oN nB;conv=>zeta
 refine(zbq a (λi (t:Unit)=>((i:Int),a,())) _ (λ_ x (_:Unit) h=>bif (zez) x then h () else oF) (λ(t:Unit)=>cond (zN (ln a) 1 12) (some [.one<|.b<|zk (ln a) 1 12]) none) (λi c t rec=>?_) (λt rec=>?_) _ ()<|e f).trans ?_;{simp only [zbu c,zT c,zbi c,zbj c f,cT];exact zj6 rfl};{simp only [zbh,cF]};rw[zhS<|zez];refine br (λd=>?_) (λd=>?_);{refine j0 rfl ?_;first|rfl|(simp only [d,zhr,zdg,cT,cF]<;>rfl)|(simp_all [Ty.cells,zhr,zdg];done)};{first|rfl|(simp only [d,zhr,zdg,cT,cF]<;>rfl)|(simp_all [Ty.cells,zhr,zdg];done)}
def zNp:vR 382 zpm:=hF1 zh2 zC zB zq zVJ zT1
def zI8 (N:Nat)(b:lI):OA:=
 (r0 (σ:=(Int×Int×lI×Unit)) N (λd a=>let c:=ix a.2.2.1 a.2.1 zqg; (cond (ilt a.2.1 a.1) (oN (inb a.2.1<|ln a.2.2.1)<|oN (zwr c)<|cond (nB<|ztJ c) oF<|d (a.1,zK .i64 a.2.1 1,a.2.2.1,()))<|oN (zN (ln a.2.2.1) 1 12)<|some [aB<|zk (ln a.2.2.1) 1 12])) (ln b,0,b,()))
def zVA:=zx [(378,0,{n:=18,tm:=[(0,.sl 0 []),(5,.sl 0 []),(6,ti),(7,ti)],lo:=[],ro:=[(0,.ins,false)]})]
def zTJ (a:List Ins)(g:zbT big [aS .ins a])(j:ztw a=true):∃N,zI8 N a=some [aB<|zhr a]:=by
 have f:(_:List _).length<=big:=((zbp g).1 _ (qD.2 rfl)).len;refine zcj λN e=>?_;unfold zI8 oN nB;conv=>zeta
 refine(zbq a (λi (t:Unit)=>(ln a,(i:Int),a,())) _ (λ_ x (_:Unit) h=>bif (zez) x then h () else oF) (λ(t:Unit)=>cond (zN (ln a) 1 12) (some [.one<|.b<|zk (ln a) 1 12]) none) (λi c t rec=>?_) (λt rec=>?_) _ ()<|e f).trans ?_;{simp only [zbu c,zT c,zbi c,zbj c f,cT];exact zj6 rfl};{simp only [zbh,cF]};rw[zhS<|zez];refine br (λd=>?_) (λd=>?_);{refine j0 rfl ?_;first|rfl|(simp only [d,zhr,zdg,cT,cF]<;>rfl)|(simp_all [Ty.cells,zhr,zdg];done)};{first|rfl|(simp only [d,zhr,zdg,cT,cF]<;>rfl)|(simp_all [Ty.cells,zhr,zdg];done)}
def zM8:vR 378 zpm:=hF1 zh2 zC zB zq zVA zTJ
def zmp (c:Ctl):Bool:=ieq (ln<|zvp c) 0
@[simp] abbrev zqV (c:Ctl):Bool:=zmp c
def zry:Run:=rF1 dC λb=>(zge b,[aB<|zqV b])
def zPd (N:Nat)(a:Ctl):OA:=
 (oN (zge a)<|some [aB<|ieq (ln<|znk a) 0])
def zGt (a:Ctl)(b:zbT big [.agg<|zm0 a])(c:zge a=true):∃N,zPd N a=some [aB<|zqV a]:=by refine⟨0,?_⟩;unfold zPd oN;refine j0 rfl ?_;first|rfl|(simp only [*,zqV,zmp,cT,cF]<;>rfl)|simp_all[Ty.cells,zqV,zmp]
def zQG:vR 351 zry:=hF1 zh2 zC zB zq (zx []) zGt
def zQA:vR 379 zry:=hF1 zh2 zC zB zq (zx []) zGt
def zel (p:Int):Int:=bif zdH p then scan p else -1
def zYq {x:Int}(a:0<=x)(b:x<=255):wcv .u64 x=x:=z2r (P:=λx=>wcv .u64 x=x) (by decide +kernel) a b
@[simp] abbrev zoh (p:Int):Int:=zel p
def zDu:Run:=rF1 dI λb=>(zc4 b,[aI<|zoh b])
def zJv (N:Nat)(b:Int):OA:=
 (r0 (σ:=(Int×Int×Unit)) N (λc a=>cond (ige a.2.1 0) (oN (zc4 a.1)<|cond (zfp a.1) (oN (ile 0<|wcv .u64 a.2.1)<|cond (ieq (wand .i64 (zDT .i64 a.1<|wcv .u64 a.2.1) 1) 1) (some [aI a.2.1])<|c (a.1,wsub .i64 a.2.1 1,()))<|some [aI<|-1])<|some [aI<|-1]) (b,7,()))
def zVK:=zx [(439,0,{n:=19,tm:=[(0,ti),(3,ti)],lo:=[],ro:=[]})]
def zT5 (a:Int)(C:zc4 a=true):∃N,zJv N a=some [aI<|zoh a]:=by refine⟨10,?_⟩;unfold zJv oN;cases h:zdH a;{rw [zdJ];refine j0 rfl ?_;refine j0 rfl ?_;refine zb7 h ?_;simp[zel,h]};{have c:zfp a=true:=h;rw[zdJ];refine j0 rfl (j0 rfl (j0 c (j0 rfl (br (λr=>?_) λr=>?_))));{have A:zhv a 7=true:=r;simp[zel,h,scan,A]};have b:zhv a 7=false:=r;show r0 9 _ (a,6,())=_;rw[zdJ];refine j0 rfl (j0 rfl (j0 c (j0 rfl (br (λq=>?_) λq=>?_))));{have z:zhv a 6=true:=q;simp[zel,h,scan,z,b]};have d:zhv a 6=false:=q;show r0 8 _ (a,5,())=_;rw[zdJ];refine j0 rfl (j0 rfl (j0 c (j0 rfl (br (λp=>?_) λp=>?_))));{have y:zhv a 5=true:=p;simp[zel,h,scan,y,b,d]};have e:zhv a 5=false:=p;show r0 7 _ (a,4,())=_;rw[zdJ];refine j0 rfl (j0 rfl (j0 c (j0 rfl (br (λn=>?_) λn=>?_))));{have x:zhv a 4=true:=n;simp[zel,h,scan,x,b,d,e]};have f:zhv a 4=false:=n;show r0 6 _ (a,3,())=_;rw[zdJ];refine j0 rfl (j0 rfl (j0 c (j0 rfl (br (λm=>?_) λm=>?_))));{have w:zhv a 3=true:=m;simp[zel,h,scan,w,b,d,e,f]};have g:zhv a 3=false:=m;show r0 5 _ (a,2,())=_;rw[zdJ];refine j0 rfl (j0 rfl (j0 c (j0 rfl (br (λl=>?_) λl=>?_))));{have v:zhv a 2=true:=l;simp[zel,h,scan,v,b,d,e,f,g]};have i:zhv a 2=false:=l;show r0 4 _ (a,1,())=_;rw[zdJ];refine j0 rfl (j0 rfl (j0 c (j0 rfl (br (λk=>?_) λk=>?_))));{have u:zhv a 1=true:=k;simp[zel,h,scan,u,b,d,e,f,g,i]};have s:zhv a 1=false:=k;show r0 3 _ (a,0,())=_;rw[zdJ];refine j0 rfl (j0 rfl (j0 c (j0 rfl (br (λj=>?_) λj=>?_))));{have t:zhv a 0=true:=j;simp[zel,h,scan,t,b,d,e,f,g,i,s]};have B:zhv a 0=false:=j;show r0 2 _ (a,-1,())=_;rw[zdJ];refine zb7 rfl ?_;simp[zel,h,scan,b,d,e,f,g,i,s,B]}
def zNt:vR 439 zDu:=kF1 zh2 zC zB zq zVK zT5
def zbM {c:Cur}{i k:Int}(h:zbf c)(a:0<=i):zbf ⟨c.b,i,k⟩:=⟨a,h.2⟩
def zX1 {c:Cur}(h:zbf c){l:LI}(a:l≠[]):zbn c l∈l:=(zyB<|zfy h a).2.2 (kL.2 a)
def zgn {c:Cur}(h:zbf c){n:Int}(a:0<n):0<=zn c n/\zn c n<n:=(zif<|zbA h n).2.2 a
def zKX {o x:Int}(h:(o=1\/o=2\/o=5\/o=6)/\0<=x/\x<=99\/(o=3\/o=4)/\0<=x/\x<=15\/o=8/\0<=x/\x<=11):zez ⟨o,x⟩=true:=by have w:∀{a b:Int},a<=x->x<=b->zk x a b=true:=λc d=>(by simp only[zk,ige,ile,qE,q9];exact⟨c,d⟩);rcases h with⟨h|h|h|h,c,d⟩|⟨h|h,c,d⟩|⟨h,c,d⟩<;>subst h<;>exact w c d
def zyN (N:Nat)(c:Cur)  : OA :=
 let d:=zbn c [1,2,3,3,3,4,4,4,5,6,8];let a:=({ (zZ c [1,2,3,3,3,4,4,4,5,6,8]) with b:=c.b}:Cur); (p0 (oN (zA a 16)<|some [.agg [.s .u8 c.b,.i .i64 (zf a 16).i,.i .i64 (zf a 16).h],.agg [.i .i64 d,.i .i64<|zn a 16]]) λf=>p0 (cond (ieq d 8) (oN (zA a 4)<|some [.agg [.s .u8 c.b,.i .i64 (zf a 4).i,.i .i64 (zf a 4).h],.agg [.i .i64 d,.i .i64<|zn a 4]])<|oN (zA a 100)<|some [.agg [.s .u8 c.b,.i .i64 (zf a 100).i,.i .i64 (zf a 100).h],.agg [.i .i64 d,.i .i64<|zn a 100]]) λe=>oN (zbt c [1,2,3,3,3,4,4,4,5,6,8])<|cond (ieq d 3) (cond (ieq d 3) f e)<|cond (ieq d 4) f e)
def zrO (c:Cur)(s:Cur)(a:Ins):Prop:=(∃N,zyN N c=some (AV.agg (zbV s)::[aT .ins a]))/\(s.b=c.b/\0<=s.i)/\(zez a=true)
def zks (c:Cur)  : Bool:=wC (zrO c)
def zgN (c:Cur)  : Cur:=wS (zrO c)
def zgy (c:Cur)  : Ins:=wV (zrO c)
def zL1 {c:Cur}(h:zks c=true):zrO c (zgN c) (zgy c):=wG h
def zzS (c:Cur)  : 0<=(zgN c).i:=wP λh=>h.2.1.2
def zZ0 (c:Cur)(h:∃N,Ends (wE (λa=>aT .ins a) c.b λa=>zez a=true)<|zyN N c):zks c=true:=wI (λ_ _ h=>h) h
def zAI:zdX:=rP0 λc=>(zks c,zgN c,[aT .ins<|zgy c])
def zNz:zbR Tryz.prog 447 [false,true,true] zAI:=hP0 zd5 zQ zUw zq (zx []) (λ_ h=>(zL1 h).1)
def zSc {c:Cur}(h:zbf c):zks c=true:=by
 refine zZ0 c ⟨0,?_⟩;have p:([1,2,3,3,3,4,4,4,5,6,8]:LI)≠[]:=(by simp);have q:=zX1 h p;have f:zbf {zZ c [1,2,3,3,3,4,4,4,5,6,8] with b:=c.b}:=zbM h (zb0 _ _);have t:=zgn f (n:=16) (by omega);have w:=zgn f (n:=4) (by omega);have m:=zgn f (n:=100) (by omega);unfold zyN oN;conv=>zeta
 generalize zbn c [1,2,3,3,3,4,4,4,5,6,8]=o at q;simp only[qG,qP,or_false]at q;have j:∀{n:Int},ieq o n=false->o≠n:=λh e=>(by subst e;simp[ieq]at h);have k:∀{n:Int},ieq o n=true->o=n:=λh=>by simpa [ieq] using h
 have L:∀(n:Int),0<n->(zez ⟨o,zn {zZ c [1,2,3,3,3,4,4,4,5,6,8] with b:=c.b} n⟩=true)->Ends (λa=>∃s r,a=(AV.agg (zbV s)::[aT .ins r])/\(s.b=c.b/\0<=s.i)/\zez r=true)
  (cond (zA {zZ c [1,2,3,3,3,4,4,4,5,6,8] with b:=c.b} n) (some (AV.agg [.s .u8 c.b,.i .i64 (zf {zZ c [1,2,3,3,3,4,4,4,5,6,8] with b:=c.b} n).i,.i .i64 (zf {zZ c [1,2,3,3,3,4,4,4,5,6,8] with b:=c.b} n).h]::[.agg [.i .i64 o,.i .i64<|zn {zZ c [1,2,3,3,3,4,4,4,5,6,8] with b:=c.b} n]])) none):=
  λn x u=>zu (zbA f n) (zbJ (aT .ins) (v:=⟨o,zn _ n⟩) (zF _ _) u)
 refine zu (zfy h p) (zbz (λg=>zbz (λ_=>L 16 (by omega) (zKX ?_)) λd=>absurd (k g) (j d)) λg=>zbz (λd=>L 16 (by omega) (zKX ?_)) λd=>zbz (λl=>L 4 (by omega) (zKX ?_)) λl=>L 100 (by omega) (zKX ?_));{have:=k g;omega};{have:=k d;omega};{have:=k l;omega};{have:=j g;have:=j d;have:=j l;omega}
def z7s:zcY:=[(447,[false,true,true],zAI)]++z7r
def zUx:zb2 z7s:=zcq zUw (by
 intro x a;simp only[qG,qP,or_false]at a;rcases a with rfl
 .exact zNz)
def zh1 {x y:Int}(a:0<=x)(b:x<=1000000)(c:0<=y)(d:y<=1000000):zK .i64 x y=x+y:=zrb (by omega) (by omega)
def zjz {a:Type}{l:List a}(h:ln l<=1000000):few (ln l)=true:=qK ⟨by unfold ln;omega,by omega⟩
def zil {a:Type}(l:List a)(x:a):ln (ap l [x])=ln l+1:=by simp[ln,ap]
def zwG (N:Nat)(c:Cur)  : OA :=
 (r0 (σ:=(Int×Int×Int×lI×LI×Unit)) N (λj d=>let e:=d.2.2.2.1;let f:=d.2.2.2.2.1;let g:=(⟨f,d.2.1,d.2.2.1⟩:Cur);let a:=({ (zf g 7) with b:=f}:Cur); (oN (zA g 7)<|cond (ilt d.1<|zK .i64 2<|zn g 7) (oN (zks a)<|oN (few<|ln<|ap e [zgy a])<|j (zK .i64 d.1 1,(zgN a).i,(zgN a).h,ap e [zgy a],f,()))<|oN (zck a 3)<|cond (zcC a 3) (oN (few<|ln<|ap e [(⟨7,0⟩:Ins)])<|some [.agg [.s .u8 f,.i .i64 (zO a 3).i,.i .i64 (zO a 3).h],aS .ins<|ap e [(⟨7,0⟩:Ins)]])<|oN (few<|ln<|ap e [(⟨8,0⟩:Ins)])<|some [.agg [.s .u8 f,.i .i64 (zO a 3).i,.i .i64 (zO a 3).h],aS .ins<|ap e [(⟨8,0⟩:Ins)]])) (0,c.i,c.h,[],c.b,()))
def zR1:=zx [(363,0,{n:=29,tm:=[(0,.lp 0 0),(3,.sl 0 []),(4,ti)],lo:=[(0,[.sl 1 [],ti,ti])],ro:=[(0,.ins,true),(1,.u8,false)]})]
def zpW (c:Cur)(s:Cur)(a:List Ins):Prop:=(∃N,zwG N c=some (AV.agg (zbV s)::[aS .ins a]))/\(s.b=c.b/\0<=s.i)/\(zdg a=true)
def zfG (c:Cur)  : Bool:=wC (zpW c)
def zbb (c:Cur)  : Cur:=wS (zpW c)
def zbY (c:Cur)  : List Ins:=wV (zpW c)
def znu {c:Cur}(h:zfG c=true):zpW c (zbb c) (zbY c):=wG h
def zhN (c:Cur)  : 0<=(zbb c).i:=wP λh=>h.2.1.2
def zW1 (c:Cur)(h:∃N,Ends (wE (λa=>aS .ins a) c.b λa=>zdg a=true)<|zwG N c):zfG c=true:=wI (λ_ _ h=>h) h
def zx9:zdX:=rP0 λc=>(zfG c,zbb c,[aS .ins<|zbY c])
def zKI:zbR Tryz.prog 363 [false,true,true] zx9:=hP0 zd5 zQ zUx zq zR1 (λ_ h=>(znu h).1)
def zuv {c:Cur}(h:zbf c):zfG c=true:=by
 refine zW1 c ⟨9,?_⟩;unfold zwG oN;conv=>zeta
 refine zlG (λn s=>s.1+(n:Int)=8/\0<=s.1/\0<=s.2.1/\(∀x∈s.2.2.2.1,zez x=true)/\ln s.2.2.2.1=s.1/\s.2.2.2.2.1=c.b) ?_ 9 8 _ ⟨rfl,kS 0,h.1,by simp,rfl,rfl⟩ (by omega);rintro n ⟨t,i,k,l,b,u⟩ rec ⟨B,g,v,j,w,z⟩ f;dsimp only at B g v j w z ⊢;subst z;have a:zbf ⟨c.b,i,k⟩:=zbM h v;have d:=zgn a (n:=7) (by omega);have A:=zh1 (x:=2) (by omega) (by omega) d.1 (by omega);have m:zbf {zf ⟨c.b,i,k⟩ 7 with b:=c.b}:=zbM h (zF _ _);have e:∀(y:Ins),zez y=true->2<=t->zdg (ap l [y])=true:=(by intro y C D;unfold zdg;rw[zil,w];have:(ap l [y]).all zez=true:=(by simp only[ap,List.all_append,kY,List.all_nil,vE,qE];exact⟨qN.2 j,C⟩);rw[this,cT];simp only[zk,ige,ile,qE,q9];omega);refine zu (zbA a 7) (zbz (λp=>?_) λp=>?_);{have r:t<zK .i64 2 (zn ⟨c.b,i,k⟩ 7):=qF p;rw[A]at r;refine zu (zSc m) (zu (zjz (by rw[zil];omega))<|f (n-1) _ (by omega) ⟨?_,?_,zzS _,?_,?_,rfl⟩);{show zK .i64 t 1+_=8;rw[zh1 g (by omega) (by omega) (by omega)];omega};{show 0<=zK .i64 t 1;rw[zh1 g (by omega) (by omega) (by omega)];omega};{intro x d;rcases jJ.1 d with d|d;{exact j x d};{rw [qD.1 d];exact(zL1<|zSc m).2.2}};{show ln (ap l [_])=zK .i64 t 1;rw[zil,zh1 g (by omega) (by omega) (by omega)];omega}};{have q:¬ t<zK .i64 2 (zn ⟨c.b,i,k⟩ 7):=jY p;rw[A]at q;refine zu (zh8 m 3) (zbz (λ_=>zu (zjz (by rw[zil];omega)) (zbJ (aS .ins) (zb5 _ _) (e _ rfl (by omega)))) λ_=>zu (zjz (by rw[zil];omega)) (zbJ (aS .ins) (zb5 _ _) (e _ rfl (by omega))))}
def z7t:zcY:=[(363,[false,true,true],zx9)]++z7s
def zUy:zb2 z7t:=zcq zUx (by
 intro x a;simp only[qG,qP,or_false]at a;rcases a with rfl
 .exact zKI)
def zVT {f:Type}{c:Cur}(h:zbf c){P:f->Prop}{fc:Cur->Bool}{fs:Cur->Cur}{fv:Cur->f}(C:∀{c:Cur},zbf c->fc c=true)(D:∀c,0<=(fs c).i)(hg:∀{c:Cur},zbf c->P (fv c)){G:Ans->Prop}{R:Cur->List f->Ans}(B:∀s l,s.b=c.b->0<=s.i->1<=l.length->l.length<=2->(∀x∈l,P x)->G (R s l)){F:(Int×Int×Int×List f×LI×Unit->OA)->Int×Int×Int×List f×LI×Unit->OA}(A:∀rec t i k l,F rec (t,i,k,l,c.b,())=bif zA ⟨c.b,i,k⟩ 2 then (bif ilt t (zK .i64 1 (zn ⟨c.b,i,k⟩ 2)) then (bif fc { zf ⟨c.b,i,k⟩ 2 with b:=c.b } then (bif few (ln (ap l [fv { zf ⟨c.b,i,k⟩ 2 with b:=c.b }])) then
        rec (zK .i64 t 1,(fs {zf ⟨c.b,i,k⟩ 2 with b:=c.b}).i,(fs {zf ⟨c.b,i,k⟩ 2 with b:=c.b}).h,ap l [fv {zf ⟨c.b,i,k⟩ 2 with b:=c.b}],c.b,()) else none) else none) else some (R ⟨c.b,(zf ⟨c.b,i,k⟩ 2).i,(zf ⟨c.b,i,k⟩ 2).h⟩ l)) else none) :
 Ends G (r0 3 F (0,c.i,c.h,[],c.b,())):=by
 refine zlG (fun n s=>s.1+(n:Int)=2/\0<=s.1/\0<=s.2.1/\(∀x∈s.2.2.2.1,P x)/\ln s.2.2.2.1=s.1/\s.2.2.2.2.1=c.b) ?_ 3 2 _ ⟨rfl,kS 0,h.1,by simp,rfl,rfl⟩ (by omega)
 rintro n ⟨t,i,k,l,b,u⟩ rec ⟨z,m,p,g,q,r⟩ e
 dsimp only at z m p g q r
 subst r;rw[A];have a:zbf ⟨c.b,i,k⟩:=zbM h p;have d:=zgn a (n:=2) (by omega)
 have w:=zh1 (x:=1) (by omega) (by omega) d.1 (by omega)
 have v:zbf {zf ⟨c.b,i,k⟩ 2 with b:=c.b}:=zbM h (zF _ _);refine zu (zbA a 2) (zbz (fun j=>?_) (fun j=>?_))
 .have hlt:t<zK .i64 1 (zn ⟨c.b,i,k⟩ 2):=qF j;rw[w]at hlt;have E:=zh1 (y:=1) m (by omega) (by omega) (by omega)
  refine zu (C v) (zu (zjz (by rw[zil];omega)) (e (n-1) _ (by omega) ⟨?_,?_,D _,?_,?_,rfl⟩))
  .show zK .i64 t 1+_=2
   omega
  .show 0<=zK .i64 t 1
   omega
  .intro x d;rcases jJ.1 d with d|d
   .exact g x d
   .rw [qD.1 d];exact hg v
  .show ln (ap l [_])=zK .i64 t 1
   rw[zil];omega
 .have hge:¬ t<zK .i64 1 (zn ⟨c.b,i,k⟩ 2):=jY j;rw[w]at hge;unfold ln at q;exact zt4 (B _ l rfl (zF _ _) (by omega) (by omega) g)
def ztT (N:Nat)(c:Cur)  : OA :=
 (r0 (σ:=(Int×Int×Int×lP×LI×Unit)) N (λg a=>let f:=a.2.2.2.2.1;let e:=(⟨f,a.2.1,a.2.2.1⟩:Cur);let d:=({ (zf e 2) with b:=f}:Cur); (oN (zA e 2)<|cond (ilt a.1<|zK .i64 1<|zn e 2) (oN (zfG d)<|oN (few<|ln<|ap a.2.2.2.1 [zbY d])<|g (zK .i64 a.1 1,(zbb d).i,(zbb d).h,ap a.2.2.2.1 [zbY d],f,()))<|some [.agg [.s .u8 f,.i .i64 (zf e 2).i,.i .i64 (zf e 2).h],aS (.sl .ins) a.2.2.2.1])) (0,c.i,c.h,[],c.b,()))
def zOY:=zx [(187,0,{n:=19,tm:=[(0,.lp 0 0),(3,.sl 0 []),(4,ti)],lo:=[(0,[.sl 1 [],ti,ti])],ro:=[(0,.sl .ins,true),(1,.u8,false)]})]
def znW (c:Cur)(s:Cur)(a:List (List Ins)):Prop:=(∃N,ztT N c=some (AV.agg (zbV s)::[aS (.sl .ins) a]))/\(s.b=c.b/\0<=s.i)/\(1<=a.length/\a.length<=2/\∀x∈a,zdg x=true)
def zdC (c:Cur)  : Bool:=wC (znW c)
def zek (c:Cur)  : Cur:=wS (znW c)
def zeY (c:Cur)  : List (List Ins):=wV (znW c)
def zp5 {c:Cur}(h:zdC c=true):znW c (zek c) (zeY c):=wG h
def zp6 (c:Cur)  : 0<=(zek c).i:=wP λh=>h.2.1.2
def zU5 (c:Cur)(h:∃N,Ends (wE (λa=>aS (.sl .ins) a) c.b λa=>1<=a.length/\a.length<=2/\∀x∈a,zdg x=true)<|ztT N c):zdC c=true:=wI (λ_ _ h=>h) h
def zv0:zdX:=rP0 λc=>(zdC c,zek c,[aS (.sl .ins)<|zeY c])
def zH7:zbR Tryz.prog 187 [false,true,true] zv0:=hP0 zd5 zQ zUy zq zOY (λ_ h=>(zp5 h).1)
def zoz {c:Cur}(h:zbf c):zdC c=true:=by
 refine zU5 c ⟨3,?_⟩;unfold ztT oN;conv=>zeta
 exact zVT h (P:=λx=>zdg x=true) (fc:=zfG) (fs:=zbb) (fv:=zbY) (R:=λs l=>AV.agg (zbV s)::[aS (.sl .ins) l]) zuv zhN (λh=>(znu<|zuv h).2.2) (λs l d e a b f=>⟨s,l,rfl,⟨d,e⟩,a,b,f⟩) (λrec t i k l=>rfl)
def z7u:zcY:=[(187,[false,true,true],zv0)]++z7t
def zUz:zb2 z7u:=zcq zUy (by
 intro x a;simp only[qG,qP,or_false]at a;rcases a with rfl
 .exact zH7)
def zyS (N:Nat)(c:Cur)  : OA :=
 (r0 (σ:=(Int×Int×Int×lQ×LI×Unit)) N (λg a=>let f:=a.2.2.2.2.1;let e:=(⟨f,a.2.1,a.2.2.1⟩:Cur);let d:=({ (zf e 2) with b:=f}:Cur); (oN (zA e 2)<|cond (ilt a.1<|zK .i64 1<|zn e 2) (oN (zdC d)<|oN (few<|ln<|ap a.2.2.2.1 [zeY d])<|g (zK .i64 a.1 1,(zek d).i,(zek d).h,ap a.2.2.2.1 [zeY d],f,()))<|some [.agg [.s .u8 f,.i .i64 (zf e 2).i,.i .i64 (zf e 2).h],aS (.sl<|.sl .ins) a.2.2.2.1])) (0,c.i,c.h,[],c.b,()))
def zVO:=zx [(186,0,{n:=19,tm:=[(0,.lp 0 0),(3,.sl 0 []),(4,ti)],lo:=[(0,[.sl 1 [],ti,ti])],ro:=[(0,.sl<|.sl .ins,true),(1,.u8,false)]})]
def zrT (c:Cur)(s:Cur)(a:List (List<|List Ins)):Prop:=(∃N,zyS N c=some (AV.agg (zbV s)::[aS (.sl<|.sl .ins) a]))/\(s.b=c.b/\0<=s.i)/\(1<=a.length/\a.length<=2/\∀p∈a,1<=p.length/\p.length<=2/\∀x∈p,zdg x=true)
def zkv (c:Cur)  : Bool:=wC (zrT c)
def zgP (c:Cur)  : Cur:=wS (zrT c)
def zku (c:Cur)  : List (List<|List Ins):=wV (zrT c)
def zzX {c:Cur}(h:zkv c=true):zrT c (zgP c) (zku c):=wG h
def zL3 (c:Cur)  : 0<=(zgP c).i:=wP λh=>h.2.1.2
def z0b (c:Cur)(h:∃N,Ends (wE (λa=>aS (.sl<|.sl .ins) a) c.b λa=>1<=a.length/\a.length<=2/\∀p∈a,1<=p.length/\p.length<=2/\∀x∈p,zdg x=true)<|zyS N c):zkv c=true:=wI (λ_ _ h=>h) h
def zAN:zdX:=rP0 λc=>(zkv c,zgP c,[aS (.sl<|.sl .ins)<|zku c])
def zNE:zbR Tryz.prog 186 [false,true,true] zAN:=hP0 zd5 zQ zUz zq zVO (λ_ h=>(zzX h).1)
def zR6 {c:Cur}(h:zbf c):zkv c=true:=by
 refine z0b c ⟨3,?_⟩;unfold zyS oN;conv=>zeta
 exact zVT h (P:=λp=>1<=p.length/\p.length<=2/\∀x∈p,zdg x=true) (fc:=zdC) (fs:=zek) (fv:=zeY) (R:=λs l=>AV.agg (zbV s)::[aS (.sl<|.sl .ins) l]) zoz zp6 (λh=>(zp5<|zoz h).2.2) (λs l d e a b f=>⟨s,l,rfl,⟨d,e⟩,a,b,f⟩) (λrec t i k l=>rfl)
def z7v:zcY:=[(186,[false,true,true],zAN)]++z7u
def zUA:zb2 z7v:=zcq zUz (by
 intro x a;simp only[qG,qP,or_false]at a;rcases a with rfl
 .exact zNE)
def zD2 {c:Type}{G:c->Prop}{x:Bool}{a b:Option c}(k:Ends G a)(h:x=true:=by first
 |exact zbA (by first|assumption|exact zbM (by assumption) (zF _ _)|exact zbM (by assumption) (zb5 _ _)|exact zbM (by assumption) (zb0 _ _)) _
 |exact zh8 (by first|assumption|exact zbM (by assumption) (zF _ _)|exact zbM (by assumption) (zb5 _ _)) _
 |exact zfy (by first|assumption|exact zbM (by assumption) (zF _ _)) (by simp)):Ends G (cond x a b):=zu h k
def zyP (N:Nat)(c:Cur)  : OA :=
 let f:=zn c 4;let j:=({ (zf c 4) with b:=c.b}:Cur);let e:=zcC j 4;let d:=zO j 4;let a:=({d with b:=c.b}:Cur);let g:=({ (zO a 2) with b:=c.b}:Cur); (oN (zA c 4)<|oN (zck j 4)<|cond (nB e) (cond (ine f 2) (oN (zck a 2)<|cond (zcC a 2) (oN (zA g 256)<|some [.agg [.s .u8 c.b,.i .i64 (zf g 256).i,.i .i64 (zf g 256).h],.agg [.i .i64 f,.i .i64<|zn g 256,.b<|nB e]])<|some [.agg [.s .u8 c.b,.i .i64 (zO a 2).i,.i .i64 (zO a 2).h],.agg [.i .i64 f,.i .i64 0,.b<|nB e]])<|some [.agg [.s .u8 c.b,.i .i64 d.i,.i .i64 d.h],.agg [.i .i64 f,.i .i64 0,.b<|nB e]])<|some [.agg [.s .u8 c.b,.i .i64 d.i,.i .i64 d.h],.agg [.i .i64 f,.i .i64 0,.b<|nB e]])
def zrQ (c:Cur)(s:Cur)(a:Ctl):Prop:=(∃N,zyP N c=some (AV.agg (zbV s)::[.agg<|zm0 a]))/\(s.b=c.b/\0<=s.i)/\(True)
def zkt (c:Cur)  : Bool:=wC (zrQ c)
def zcf (c:Cur)  : Cur:=wS (zrQ c)
def zcy (c:Cur)  : Ctl:=wV (zrQ c)
def zZ4 {c:Cur}(h:zkt c=true):zrQ c (zcf c) (zcy c):=wG h
def zzU (c:Cur)  : 0<=(zcf c).i:=wP λh=>h.2.1.2
def zZ5 (c:Cur)(h:∃N,Ends (wE (λa=>.agg (zm0 a)) c.b λa=>True)<|zyP N c):zkt c=true:=wI (λ_ _ h=>h) h
def zAK:zdX:=rP0 λc=>(zkt c,zcf c,[.agg<|zm0<|zcy c])
def zNB:zbR Tryz.prog 413 [false,true,true] zAK:=hP0 zd5 zQ zUA zq (zx []) (λ_ h=>(zZ4 h).1)
def zYL {c:Cur}(h:zbf c):zkt c=true:=by
 refine zZ5 c ⟨0,?_⟩;unfold zyP oN nB;conv=>zeta
 refine zD2 (zD2<|zbz (λ_=>zbz (λ_=>zD2 (zbz (λ_=>zD2 (?_)) λ_=>?_)) λ_=>?_) λ_=>?_);all_goals exact zbJ (λx=>AV.agg (zm0 x)) (v:=⟨_,_,_⟩) (by first|exact zF _ _|exact zb5 _ _) trivial
def z7w:zcY:=[(413,[false,true,true],zAK)]++z7v
def zIz:zb2 z7w:=zcq zUA (by
 intro x a;simp only[qG,qP,or_false]at a;rcases a with rfl
 .exact zNB)
def zen {c:Type}{G:c->Prop}{x:Bool}{a b:Option c}(k:Ends G a)(h:x=true:=by first
 |exact zbA (by first|assumption|exact zbM (by assumption) (zF _ _)|exact zbM (by assumption) (zb0 _ _)) _
 |exact zfy (by first|assumption|exact zbM (by assumption) (zF _ _)) (by simp)
 |exact zYL (zbM (by assumption)<|zF _ _)):Ends G (cond x a b):=zu h k
def zyV (N:Nat)(c:Cur)  : OA :=
 let m:=({ (zf c 2) with b:=c.b}:Cur);let g:=zn c 2;let f:=zn m 2;let u:=({ (zf m 2) with b:=c.b}:Cur);let e:=zf u 24;let d:=zn u 24;let a:=({e with b:=c.b}:Cur);let j:=zf a 8;let l:=({ (zf a 4) with b:=c.b}:Cur);let k:=({j with b:=c.b}:Cur);let t:=({ (zf a 16) with b:=c.b}:Cur);let r:=({ (zZ a [16,17]) with b:=c.b}:Cur);let q:=({ (zZ a [13,13,14,15]) with b:=c.b}:Cur);let p:=({ (zf k 4) with b:=c.b}:Cur);let n:=({ (zf l 8) with b:=c.b}:Cur); (p0 (oN (zbt a [13,13,14,15])<|oN (zA q 8)<|some [.agg [.s .u8 c.b,.i .i64 (zf q 8).i,.i .i64 (zf q 8).h],.agg [.i .i64<|zbn a [13,13,14,15],.i .i64 g,.i .i64 f,.i .i64<|zn q 8,.i .i64 0,.i .i64 0]]) λA=>p0 (cond (ieq d 16) (oN (zbt a [16,17])<|oN (zA r 4)<|some [.agg [.s .u8 c.b,.i .i64 (zf r 4).i,.i .i64 (zf r 4).h],.agg [.i .i64<|zbn a [16,17],.i .i64 g,.i .i64 f,.i .i64<|zn r 4,.i .i64 0,.i .i64 0]])<|some [.agg [.s .u8 c.b,.i .i64 e.i,.i .i64 e.h],.agg [.i .i64 1,.i .i64 g,.i .i64 f,.i .i64 0,.i .i64 0,.i .i64 0]]) λz=>p0 (oN (zA a 4)<|oN (zA l 8)<|oN (zbt n [3,3,1,2])<|some [.agg [.s .u8 c.b,.i .i64 (zZ n [3,3,1,2]).i,.i .i64 (zZ n [3,3,1,2]).h],.agg [.i .i64 2,.i .i64 g,.i .i64 f,.i .i64<|zn a 4,.i .i64<|zn l 8,.i .i64<|zbn n [3,3,1,2]]]) λy=>p0 (oN (zA a 4)<|some [.agg [.s .u8 c.b,.i .i64 (zf a 4).i,.i .i64 (zf a 4).h],.agg [.i .i64 3,.i .i64 g,.i .i64 f,.i .i64<|zn a 4,.i .i64 0,.i .i64 0]]) λx=>p0 (cond (ieq d 7) (oN (zA a 8)<|some [.agg [.s .u8 c.b,.i .i64 j.i,.i .i64 j.h],.agg [.i .i64 6,.i .i64 g,.i .i64 f,.i .i64<|zn a 8,.i .i64 0,.i .i64 0]])<|cond (ieq d 8) (oN (zkt a)<|cond ((zcy a).Open) (some [.agg [.s .u8 c.b,.i .i64 (zcf a).i,.i .i64 (zcf a).h],.agg [.i .i64 7,.i .i64 g,.i .i64 f,.i .i64 (zcy a).aq,.i .i64 (zcy a).Post,.i .i64 1]])<|some [.agg [.s .u8 c.b,.i .i64 (zcf a).i,.i .i64 (zcf a).h],.agg [.i .i64 7,.i .i64 g,.i .i64 f,.i .i64 (zcy a).aq,.i .i64 (zcy a).Post,.i .i64 0]])<|cond (ieq d 9) (oN (zA a 8)<|oN (zA k 4)<|oN (zA p 100)<|some [.agg [.s .u8 c.b,.i .i64 (zf p 100).i,.i .i64 (zf p 100).h],.agg [.i .i64 8,.i .i64 g,.i .i64 f,.i .i64<|zn a 8,.i .i64<|zn k 4,.i .i64<|zn p 100]])<|cond (ieq d 10) (oN (zA a 8)<|some [.agg [.s .u8 c.b,.i .i64 j.i,.i .i64 j.h],.agg [.i .i64 9,.i .i64 g,.i .i64 f,.i .i64<|zn a 8,.i .i64 0,.i .i64 0]])<|cond (ieq d 11) (some [.agg [.s .u8 c.b,.i .i64 e.i,.i .i64 e.h],.agg [.i .i64 10,.i .i64 g,.i .i64 f,.i .i64 0,.i .i64 0,.i .i64 0]])<|cond (ieq d 12) (oN (zA a 16)<|oN (zA t 100)<|some [.agg [.s .u8 c.b,.i .i64 (zf t 100).i,.i .i64 (zf t 100).h],.agg [.i .i64 11,.i .i64 g,.i .i64 f,.i .i64<|zn a 16,.i .i64<|zn t 100,.i .i64 0]])<|cond (ieq d 13) (oN (zA a 16)<|some [.agg [.s .u8 c.b,.i .i64 (zf a 16).i,.i .i64 (zf a 16).h],.agg [.i .i64 12,.i .i64 g,.i .i64 f,.i .i64<|zn a 16,.i .i64 0,.i .i64 0]])<|cond (ieq d 14) (cond (ieq d 14) A z)<|cond (ieq d 15) A z) λv=>p0 (cond (ieq d 4) (oN (zA a 100)<|some [.agg [.s .u8 c.b,.i .i64 (zf a 100).i,.i .i64 (zf a 100).h],.agg [.i .i64 4,.i .i64 g,.i .i64 f,.i .i64<|zn a 100,.i .i64 0,.i .i64 0]])<|cond (ieq d 5) (cond (ieq d 5) (some [.agg [.s .u8 c.b,.i .i64 e.i,.i .i64 e.h],.agg [.i .i64 5,.i .i64 g,.i .i64 f,.i .i64 0,.i .i64 0,.i .i64 0]]) v)<|cond (ieq d 6) (some [.agg [.s .u8 c.b,.i .i64 e.i,.i .i64 e.h],.agg [.i .i64 5,.i .i64 g,.i .i64 f,.i .i64 0,.i .i64 0,.i .i64 0]]) v) λw=>p0 (cond (ieq d 2) (cond (ieq d 2) x w)<|cond (ieq d 3) x w) λB=>oN (zA c 2)<|oN (zA m 2)<|oN (zA u 24)<|cond (ieq d 0) (cond (ieq d 0) y B)<|cond (ieq d 1) y B)
def zrV (c:Cur)(s:Cur)(a:GAct):Prop:=(∃N,zyV N c=some (AV.agg (zbV s)::[aT .act a]))/\(s.b=c.b/\0<=s.i)/\(True)
def zi2 (c:Cur)  : Bool:=wC (zrV c)
def zgQ (c:Cur)  : Cur:=wS (zrV c)
def zok (c:Cur)  : GAct:=wV (zrV c)
def z0d {c:Cur}(h:zi2 c=true):zrV c (zgQ c) (zok c):=wG h
def z0f (c:Cur)  : 0<=(zgQ c).i:=wP λh=>h.2.1.2
def z0e (c:Cur)(h:∃N,Ends (wE (λa=>aT .act a) c.b λa=>True)<|zyV N c):zi2 c=true:=wI (λ_ _ h=>h) h
def zAP:zdX:=rP0 λc=>(zi2 c,zgQ c,[aT .act<|zok c])
def zNI:zbR Tryz.prog 299 [false,true,true] zAP:=hP0 zd5 zQ zIz zq (zx []) (λ_ h=>(z0d h).1)
def zbaS {c:Cur}(h:zbf c):zi2 c=true:=by
 refine z0e c ⟨0,?_⟩;unfold zyV oN;conv=>zeta
 refine zn2 (zen<|zen<|?_) (λ_ g=>zn2 (zbz (λ_=>zen (zen<|?_)) λ_=>?_) λ_ f=>zn2 (zen<|zen<|zen<|?_) λ_ e=>zn2 (zen<|?_) λ_ d=>zn2 (zbz (λ_=>zen (?_)) λ_=>zbz (λ_=>zen (zbz (λ_=>?_) λ_=>?_)) λ_=>zbz (λ_=>zen (zen<|zen<|?_)) λ_=>zbz (λ_=>zen (?_)) λ_=>zbz (λ_=>?_) λ_=>zbz (λ_=>zen (zen<|?_)) λ_=>zbz (λ_=>zen (?_)) λ_=>zbz (λ_=>zbz (λ_=>g) λ_=>f) λ_=>zbz (λ_=>g) λ_=>f) λ_ a=>zn2 (zbz (λ_=>zen (?_)) λ_=>zbz (λ_=>zbz (λ_=>?_) λ_=>a) λ_=>zbz (λ_=>?_) λ_=>a) λ_ b=>zn2 (zbz (λ_=>zbz (λ_=>d) λ_=>b) λ_=>zbz (λ_=>d) λ_=>b) λ_ i=>zen (zen<|zen<|zbz (λ_=>zbz (λ_=>e) λ_=>i) λ_=>zbz (λ_=>e) λ_=>i));all_goals exact zbJ (aT .act) (v:=⟨_,_,_,_,_,_⟩) (by first|exact zF _ _|exact zb0 _ _|exact zzU _) trivial
def zly (N:Nat)  : OA :=
 (r0 (σ:=(Int×lA×Unit)) N (λe c=>cond (ilt c.1 2) (r0 (σ:=(Int×Int×lA×Unit)) N (λf b=>cond (ilt b.2.1 2) (r0 (σ:=(Int×Int×Int×lA×Unit)) N (λg a=>let d:=ap a.2.2.2.1 [(⟨2,a.1,a.2.1,a.2.2.1,zK .i64 a.2.2.1<|zkC .i64 3 a.2.1,3⟩:GAct),(⟨3,a.1,a.2.1,a.2.2.1,0,0⟩:GAct)]; (cond (ilt a.2.2.1 3) (oN (few<|ln d)<|g (a.1,a.2.1,zK .i64 a.2.2.1 1,d,()))<|f (a.1,zK .i64 a.2.1 1,a.2.2.2.1,()))) (b.1,b.2.1,0,b.2.2.1,()))<|e (zK .i64 b.1 1,b.2.2.1,())) (c.1,0,c.2.1,()))<|some [aS .act c.2.1]) (0,[],()))
def zOZ:=zx [(390,0,{n:=34,tm:=[(1,.sl 0 []),(2,ti)],lo:=[],ro:=[(0,.act,true)]}),(390,2,{n:=34,tm:=[(1,.sl 0 []),(2,ti),(3,ti)],lo:=[],ro:=[(0,.act,true)]}),(390,4,{n:=34,tm:=[(1,.sl 0 []),(2,ti),(3,ti),(4,ti)],lo:=[],ro:=[(0,.act,true)]})]
def zsW  (a:List GAct):Prop:=(∃N,zly N=some [aS .act a])/\(a.length<=45)
def zjT  : Bool:=uC (T:=List GAct) (λr=>zsW r)
def zU8  : List GAct:=uV (λr=>zsW r)
def ztA  : List GAct:=(zU8)
def zDE  (h:zjT=true):zsW ztA:=uG h
def zU7  (h:∃N,Ends (λa=>∃b,a=[aS .act b]/\(b.length<=45))<|zly N):zjT=true:=by obtain⟨N,a,e,b,rfl,h⟩:=h;exact zY ⟨b,⟨N,e⟩,h⟩
def zyv:Run:=rF0 (zjT,[aS .act ztA])
def zOk  (a:zjT=true):∃N,zly N  = some [aS .act ztA]:=by exact(zDE a).1
def zH8:vR 390 zyv:=kF0 zd5 zQ zIz zq zOZ zOk
def z0O:List GAct:=match zly 10 with
 |some [.one<|.s .act l]=>l
 |_=>[]
def zXw:zjT=true:=zU7 ⟨10,_,(by kernel_rfl:zly 10=some [aS .act z0O]),z0O,rfl,Nat.le_of_ble_eq_true (by kernel_rfl)⟩
def z7x:zcY:=[(299,[false,true,true],zAP)]++z7w
def zUB:zb2 z7x:=zcq zIz (by
 intro x a;simp only[qG,qP,or_false]at a;rcases a with rfl
 .exact zNI)
def z98:zW:=[(390,zyv)]++zMQ
def z0S:zL z98:=zh zH8 zd5
def zPZ {c:Cur}(h:zbf c){m:Int}(e:0<=m)(J:m<=1000){G:Ans->Prop}{R:Cur->List GAct->Ans}(D:∀s l,s.b=c.b->0<=s.i->ln l<=45+m->G (R s l)){F:(Int×Int×Int×Int×List GAct×LI×Unit->OA)->Int×Int×Int×Int×List GAct×LI×Unit->OA}(C:∀rec t i k l,F rec (m,t,i,k,l,c.b,())=bif zA ⟨c.b,i,k⟩ (zK .i64 m 1) then (bif ilt t (zn ⟨c.b,i,k⟩ (zK .i64 m 1)) then (bif zi2 { zf ⟨c.b,i,k⟩ (zK .i64 m 1) with b:=c.b } then (bif few (ln (ap l [zok { zf ⟨c.b,i,k⟩ (zK .i64 m 1) with b:=c.b }])) then
        rec (m,zK .i64 t 1,(zgQ {zf ⟨c.b,i,k⟩ (zK .i64 m 1) with b:=c.b}).i,(zgQ {zf ⟨c.b,i,k⟩ (zK .i64 m 1) with b:=c.b}).h,ap l [zok {zf ⟨c.b,i,k⟩ (zK .i64 m 1) with b:=c.b}],c.b,()) else none) else none) else some (R ⟨c.b,(zf ⟨c.b,i,k⟩ (zK .i64 m 1)).i,(zf ⟨c.b,i,k⟩ (zK .i64 m 1)).h⟩ l)) else none){w I:Int}(f:0<=w){g:List GAct}(E:g.length<=45):Ends G (r0 1002 F (m,0,w,I,g,c.b,())):=by
 refine zlG (fun n s=>s.1=m/\s.2.1+(n:Int)=1000/\0<=s.2.1/\0<=s.2.2.1/\(ln s.2.2.2.2.1<=45+s.2.1/\s.2.1<=m)/\s.2.2.2.2.2.1=c.b) ?_ 1002 1000 _ ⟨rfl,rfl,kS 0,f,⟨by unfold ln;show ((g.length:Nat):Int)<=45+0;omega,e⟩,rfl⟩ (by omega)
 rintro n ⟨q,t,i,k,l,b,u⟩ rec ⟨e,z,j,p,⟨A,H⟩,r⟩ d
 dsimp only at e z j p A r H
 subst r;subst e;rw[C];have a:zbf ⟨c.b,i,k⟩:=zbM h p;have L:=zh1 (x:=q) (y:=1) (by omega) (by omega) (by omega) (by omega)
 have M:=zgn a (n:=zK .i64 q 1) (by omega)
 have B:zbf {zf ⟨c.b,i,k⟩ (zK .i64 q 1) with b:=c.b}:=zbM h (zF _ _);refine zu (zbA a _) (zbz (fun v=>?_) (fun v=>?_))
 .have hlt:t<zn ⟨c.b,i,k⟩ (zK .i64 q 1):=qF v;have K:=zh1 (y:=1) j (by omega) (by omega) (by omega)
  refine zu (zbaS B) (zu (zjz (by rw[zil];omega)) (d (n-1) _ (by omega) ⟨rfl,?_,?_,z0f _,⟨?_,?_⟩,rfl⟩))
  .show zK .i64 t 1+_=1000
   omega
  .show 0<=zK .i64 t 1
   omega
  .show ln (ap l [_])<=45+zK .i64 t 1
   rw[zil];omega
  .show zK .i64 t 1<=q
   omega
 .refine zt4 (D _ l rfl (zF _ _) ?_);omega
def zwN (N:Nat)(c:Cur)(p:Int):OA:=
 (oN (zck c 5)<|cond (nB<|zcC c 5) (oN zjT<|r0 (σ:=(Int×Int×Int×Int×lA×LI×Unit)) N (λn a=>let l:=a.2.2.2.2.2.1;let f:=zK .i64 a.1 1;let d:=(⟨l,a.2.2.1,a.2.2.2.1⟩:Cur);let j:=({ (zf d f) with b:=l}:Cur);let q:=ap a.2.2.2.2.1 [zok j]; (oN (zA d f)<|cond (ilt a.2.1<|zn d f) (oN (zi2 j)<|oN (few<|ln q)<|n (a.1,zK .i64 a.2.1 1,(zgQ j).i,(zgQ j).h,q,l,()))<|some [.agg [.s .u8 l,.i .i64 (zf d f).i,.i .i64 (zf d f).h],aS .act a.2.2.2.2.1])) (p,0,(zO c 5).i,(zO c 5).h,ztA,c.b,()))<|r0 (σ:=(Int×Int×Int×Int×lA×LI×Unit)) N (λn a=>let m:=a.2.2.2.2.2.1;let g:=zK .i64 a.1 1;let e:=(⟨m,a.2.2.1,a.2.2.2.1⟩:Cur);let k:=({ (zf e g) with b:=m}:Cur);let r:=ap a.2.2.2.2.1 [zok k]; (oN (zA e g)<|cond (ilt a.2.1<|zn e g) (oN (zi2 k)<|oN (few<|ln r)<|n (a.1,zK .i64 a.2.1 1,(zgQ k).i,(zgQ k).h,r,m,()))<|some [.agg [.s .u8 m,.i .i64 (zf e g).i,.i .i64 (zf e g).h],aS .act a.2.2.2.2.1])) (p,0,(zO c 5).i,(zO c 5).h,[],c.b,()))
def zR4:=zx [(236,0,{n:=26,tm:=[(0,.lp 0 0),(1,ti),(5,.sl 0 []),(6,ti)],lo:=[(0,[.sl 1 [],ti,ti])],ro:=[(0,.act,true),(1,.u8,false)]})]
def zp9 (c:Cur)(a:Int)(s:Cur)(d:List GAct):Prop:=(∃N,zwN N c a=some (AV.agg (zbV s)::[aS .act d]))/\(s.b=c.b/\0<=s.i)/\(ln d<=45+a)
def znx (c:Cur)(a:Int):Bool:=wC (zp9 c a)
def zny (c:Cur)(a:Int):Cur:=wS (zp9 c a)
def zsq (c:Cur)(a:Int):List GAct:=wV (zp9 c a)
def zGR {c:Cur}{a:Int}(h:znx c a=true):zp9 c a (zny c a) (zsq c a):=wG h
def zXa (c:Cur)(a:Int):0<=(zny c a).i:=wP λh=>h.2.1.2
def zW9 (c:Cur)(a:Int)(h:∃N,Ends (wE (λd=>aS .act d) c.b λd=>ln d<=45+a)<|zwN N c a):znx c a=true:=wI (λ_ _ h=>h) h
def zyd:zdX:=rP1 dI λc b=>(znx c b,zny c b,[aS .act<|zsq c b])
def zKU:zbR Tryz.prog 236 [false,true,true] zyd:=hP1 z0S zQ zUB zq zR4 (λ_ _ h=>(zGR h).1)
def z0G {c:Cur}(h:zbf c){m:Int}(e:0<=m)(f:m<=1000):znx c m=true:=by
 refine zW9 c m ⟨1002,?_⟩;unfold zwN oN nB;conv=>zeta
 have g:=zDE zXw;exact zu (zh8 h 5) (zbz (λ_=>zu zXw (zPZ h e f (R:=λs l=>AV.agg (zbV s)::[aS .act l]) (λs l a b d=>⟨s,l,rfl,⟨a,b⟩,d⟩) (λrec t i k l=>rfl) (zb5 _ _) g.2)) λ_=>zPZ h e f (R:=λs l=>AV.agg (zbV s)::[aS .act l]) (λs l a b d=>⟨s,l,rfl,⟨a,b⟩,d⟩) (λrec t i k l=>rfl) (zb5 _ _) (j7 _))
def z7y:zcY:=[(236,[false,true,true],zyd)]++z7x
def zUC:zb2 z7y:=zcq zUB (by
 intro x a;simp only[qG,qP,or_false]at a;rcases a with rfl
 .exact zKU)
@[simp] abbrev zi9 (l:List LI):Bool:=pc (SmM l)
@[simp] abbrev zgc (l:List LI):List LI:=l
def zAS:Run:=rF1 (dS<|.sl .int) λb=>(zi9 b,[aS (.sl .int)<|zgc b])
def zFD (N:Nat)(c:lM):OA:=
 (r0 (σ:=(Int×Int×lM×lM×Unit)) N (λd a=>let b:=ix a.2.2.2.1 a.2.1 []; (cond (ilt a.2.1 a.1) (oN (inb a.2.1<|ln a.2.2.2.1)<|oN (zei b)<|oN (few<|ln<|ap a.2.2.1 [zec b])<|d (a.1,zK .i64 a.2.1 1,ap a.2.2.1 [zec b],a.2.2.2.1,()))<|some [aS (.sl .int) a.2.2.1])) (ln c,0,[],c,()))
def zRU:=zx [(238,0,{n:=20,tm:=[(3,.sl 0 []),(7,.sl 1 []),(8,ti),(9,ti)],lo:=[],ro:=[(0,.sl .int,true),(1,.sl .int,false)]})]
def zQ0 (a:List LI)(g:zi9 a=true):∃N,zFD N a=some [aS (.sl .int)<|zgc a]:=by
 have f:=zS.1 g;have e:=zcV f.1;refine zcj λN d=>?_;unfold zFD oN;conv=>zeta
 refine(zbq a (λi (t:lM)=>(ln a,(i:Int),t,a,())) _ (λ_ x b j=>bif zei x then (cond (few<|ln<|ap b [zec x]) (j<|ap b [zec x]) none) else none) (λ(t:lM)=>some [.one<|.s (.sl .int) t]) (λi c t rec=>?_) (λt rec=>?_) _ ([])<|d e.1).trans ?_;{simp only [zbu c,zT c,zbi c,zbj c e.1,cT]};{simp only [zbh,cF]};exact zj7 zei zec _ a 0 [] (λx h=>⟨by exact zY (qU (f.2 x h) (by decide)),rfl⟩) (by simpa using e.2)
def zKh:vR 238 zAS:=kF1 zh2 zC zB zq zRU zQ0
@[simp] abbrev zbm (g:ah):Bool:=pc (SmG g)
@[simp] abbrev zgD (g:ah):ah:=g
def zv3:Run:=rF1 (dT .guest) λb=>(zbm b,[aT .guest<|zgD b])
def zAb (N:Nat)(a:ah):OA:=
 (oN (zo3 a.aw)<|oN (zhj a.az)<|oN (zhj a.av)<|oN (zei a.aC)<|some [aT .guest ({a with aw:=(zmw a.aw),az:=(zfB a.az),av:=(zfB a.av),aC:=(zec a.aC)}:ah)])
def zK6 (a:ah)(b:zbm a=true):∃N,zAb N a=some [aT .guest<|zgD a]:=by have c:=zS.1 b;obtain⟨h,i,j,k⟩:=c;have d:a.aw.length<=2147483648:=(by omega);have e:a.az.length<=2147483648:=(by omega);have f:a.av.length<=2147483648:=(by omega);have g:a.aC.length<=2147483648:=(by omega);refine⟨0,?_⟩;unfold zAb oN;refine mu (mu<|mu<|mu ?_);first|rfl|(simp only [*,zgD,cT,cF]<;>rfl)|simp_all[Ty.cells,zgD]
def zEC:vR 399 zv3:=kF1 zh2 zC zB zq (zx []) zK6
def zf5 (t:List k0)(p n:Int):Bool:=bif ieq (zbG t p).af (-1) then false else (cond (enough (zbG t p).aj n) (zk n 1 3) false)
def zcN (t:List k0)(p n:Int):Int:=bif zf5 t p n then (zbG t p).af else -1
def z5q {r:Int}(h:zdD r=true):0<=r/\r<=3:=zgA.1 h
def zY2 {a n:Int}(h:enough a n=true):zk n 1 3 = !ieq n 0:=by unfold enough at h;cases b:zdD a;{rw [b]at h;cases h};{cases c:zdD n;{rw [b,c]at h;cases h};{have:=z5q c;have e:(zk n 1 3=true)↔(!ieq n 0)=true:=(by rw[zgA];simp[ieq];omega);cases d:zk n 1 3<;>cases f:(!ieq n 0)<;>simp_all}}
@[simp] abbrev zsV (t:List k0)(p n:Int):Bool:=true
@[simp] abbrev zkP (t:List k0)(p n:Int):Int:=zcN t p n
@[simp] abbrev zkQ (t:List k0)(p n:Int):Bool:=zf5 t p n
def zwd:Run:=rF3 (dS .slot) dI dI λb c d=>(zsV b c d,[aI<|zkP b c d,aB<|zkQ b c d])
def zAq (N:Nat)(c:lS)(d b:Int):OA:=
 let a:=zko c d; (oN (zpJ c d)<|cond (ieq a.af<|-1) (some [aI<|-1,aB false])<|oN (zcH a.aj b)<|cond (nB<|zdr a.aj b) (some [aI<|-1,aB false])<|cond (ieq b 0) (some [aI<|-1,aB false])<|some [aI a.af,aB true])
def zLn (a:List k0)(b c:Int)(d:zsV a b c=true):∃N,zAq N a b c=some [aI<|zkP a b c,aB<|zkQ a b c]:=by
 have e:=@zY2 (zbG a b).aj c;refine⟨0,?_⟩;unfold zAq oN nB;conv=>zeta
 refine j0 rfl (br (λ_=>?_) λ_=>j0 rfl (brN (λ_=>?_) λ_=>br (λ_=>?_) λ_=>?_));all_goals first|rfl|(simp only [*,zkP,zkQ,zcN,zf5,cT,cF]<;>rfl)|simp_all[Ty.cells,zkP,zkQ,zcN,zf5]
def zES:vR 282 zwd:=kF3 zh2 zC zB zq (zx []) zLn
def z6U:zW:=[(238,zAS),(399,zv3),(282,zwd),(120,zrA),(218,zrA),(382,zpm),(378,zpm),(351,zry),(379,zry),(439,zDu)]++z6T
def zn1:zL z6U:=zh zKh (zh zEC<|zh zES<|zh zQK<|zh zQC<|zh zNp<|zh zM8<|zh zQG<|zh zQA<|zh zNt zh2)
@[simp] abbrev zl5 (m:List LI)(p c v:Int):Bool:=pc (SmM m)
@[simp] abbrev zkp (m:List LI)(p c v:Int):List LI:=zbN m p c v
def zyt:Run:=rF4 (dS<|.sl .int) dI dI dI λb c d e=>(zl5 b c d e,[aS (.sl .int)<|zkp b c d e])
def zB9 (N:Nat)(c:lM)(a d e:Int):OA:=
 let b:=ze7 c; (oN (zgL c)<|oN (ziX c a d)<|cond (zq2 c a d) (oN (zN e 0 99)<|cond (zk e 0 99) (oN (inb a<|ln b)<|oN (inb d<|ln<|ix b a [])<|p0 (up b a<|up (ix b a []) d e) λf=>some [aS (.sl .int) f])<|some [aS (.sl .int) b])<|some [aS (.sl .int) b])
def zOh (a:List LI)(b c d:Int)(e:zl5 a b c d=true):∃N,zB9 N a b c d=some [aS (.sl .int)<|zkp a b c d]:=by
 have g:=zS.1 e;have f:=(zzA a b c).1;refine⟨0,?_⟩;unfold zB9 oN;conv=>zeta
 refine mu (j0 rfl (br (λ_=>j0 rfl (br (λ_=>mu (mu<|shr ?_)) λ_=>?_)) λ_=>?_));all_goals first|rfl|(simp only [*,zkp,zbN,cT,cF]<;>rfl)|simp_all[Ty.cells,zkp,zbN]
def zHZ:vR 287 zyt:=kF4 zn1 zC zB zq (zx []) zOh
def zjn (g:ah):Bool:=bif canRun g then (cond g.Ctl.Open (ige (zel g.ak) 0) false) else false
@[simp] abbrev zbO (g:ah):Bool:=true
@[simp] abbrev zmP (g:ah):Bool:=zjn g
def zys:Run:=rF1 (dT .guest) λb=>(zbO b,[aB<|zmP b])
def zB8 (N:Nat)(a:ah):OA:=
 (oN (ztr a)<|cond (zqT a) (cond a.Ctl.Open (oN (zc4 a.ak)<|some [aB<|ige (zoh a.ak) 0]) oF) oF)
def zOg (a:ah)(b:zbO a=true):∃N,zB8 N a=some [aB<|zmP a]:=by refine⟨0,?_⟩;unfold zB8 oN;refine j0 rfl (br (λ_=>br (λ_=>j0 rfl ?_) λ_=>?_) λ_=>?_);all_goals first|rfl|(simp only [*,zmP,zjn,cT,cF]<;>rfl)|simp_all[Ty.cells,zmP,zjn]
def zHY:vR 402 zys:=kF1 zn1 zC zB zq (zx []) zOg
def zk4 (p:Int):Int:=bif ilt (zel p) 0 then p else wsub .i64 p (zqf .i64 1<|zel p)
def zun (p:Int):Int:=bif ilt (zel p) 0 then -1 else zel p
def z3u {p:Int}(h:ilt (zel p) 0=false):wcv .u64 (zel p)=zel p/\ile 0 (zel p)=true/\zMF .i64 p (zqf .i64 1<|zel p)=wsub .i64 p (zqf .i64 1<|zel p):=by unfold zel at *;cases a:zdH p;{rw [a]at h;cases h};{simp only [a,cT]at h ⊢;obtain⟨c,d⟩:=zgA.1 a;have r:=z2r (P:=λx=>-1<=scan x/\scan x<=7/\(0<=scan x->wsub .i64 x (zqf .i64 1<|scan x)=zMF .i64 x (zqf .i64 1<|scan x))) z5x c d;have b:0<=scan p:=(by unfold ilt at h;have:=jY h;omega);exact⟨zYq b (by omega),qK b,(r.2.2 b).symm⟩}
@[simp] abbrev zk9 (p:Int):Int:=zk4 p
@[simp] abbrev zla (p:Int):Int:=zun p
@[simp] abbrev znq (p:Int):Bool:=!ilt (zel p) 0
def zA5:Run:=rF1 dI λb=>(zc4 b,[aI<|zk9 b,aI<|zla b,aB<|znq b])
def zF2 (N:Nat)(a:Int):OA:=
 (oN (zc4 a)<|cond (ilt (zoh a) 0) (some [aI a,aI<|-1,aB false])<|oN (ile 0<|wcv .u64<|zoh a)<|some [aI<|wsub .i64 a<|zqf .i64 1<|wcv .u64<|zoh a,aI<|zoh a,aB true])
def zRp (a:Int)(b:zc4 a=true):∃N,zF2 N a=some [aI<|zk9 a,aI<|zla a,aB<|znq a]:=by have c:=@z3u a;refine⟨0,?_⟩;unfold zF2 oN;refine j0 rfl (br (λ_=>?_) λ_=>mu ?_);all_goals first|rfl|(simp only [*,zk9,zla,znq,zk4,zun,cT,cF]<;>rfl)|simp_all[Ty.cells,zk9,zla,znq,zk4,zun]
def zKz:vR 353 zA5:=kF1 zn1 zC zB zq (zx []) zRp
def saw (g:ah)(n:Int):ah:=bif ilt (ln g.aC) 40 then {g with aC:=ap g.aC [n]} else g
@[simp] def zOG {g:ah}(n:Int)(h:SmG g):SmG (saw g n):=by unfold saw;cases a:ilt (ln g.aC) 40;{exact h};{have:=qF a;refine⟨h.1,h.2.1,h.2.2.1,?_⟩;simp[ln] at *;omega}
@[simp] abbrev zEq (g:ah)(n:Int):Bool:=pc (SmG g)
@[simp] abbrev zzQ (g:ah)(n:Int):ah:=saw g n
def zQl:Run:=rF2 (dT .guest) dI λb c=>(zEq b c,[aT .guest<|zzQ b c])
def zXu (N:Nat)(a:ah)(b:Int):OA:=
 (oN (zdE a)<|cond (ilt (ln (zde a).aC) 40) (oN (few<|ln<|ap (zde a).aC [b])<|some [aT .guest ({ (zde a) with aC:=(ap (zde a).aC [b])}:ah)])<|some [aT .guest<|zde a])
def z2d (a:ah)(b:Int)(c:zEq a b=true):∃N,zXu N a b=some [aT .guest<|zzQ a b]:=by have d:=zS.1 c;have e:a.aC.length<=1048576:=d.2.2.2;refine⟨0,?_⟩;unfold zXu oN;refine mu (br (λ_=>mu ?_) λ_=>?_);all_goals first|rfl|(simp only [*,zzQ,saw,cT,cF]<;>rfl)|simp_all[Ty.cells,zzQ,saw]
def zWs:vR 404 zQl:=kF2 zn1 zC zB zq (zx []) z2d
def stopped (g:ah)(e:aD):ah:={g with Exit:=e}
@[simp] def zbaQ {g:ah}(e:aD)(h:SmG g):SmG (stopped g e):=h
@[simp] abbrev zeQ (g:ah)(e:aD):Bool:=pc (SmG g)
@[simp] abbrev zd2 (g:ah)(e:aD):ah:=stopped g e
def zA4:Run:=rF2 (dT .guest) dE λb c=>(zeQ b c,[aT .guest<|zd2 b c])
def zF0 (N:Nat)(a:ah)(b:aD):OA:=
 (oN (zdE a)<|some [aT .guest ({ (zde a) with Exit:=b}:ah)])
def zRn (a:ah)(b:aD)(c:zeQ a b=true):∃N,zF0 N a b=some [aT .guest<|zd2 a b]:=by have d:=zS.1 c;refine⟨0,?_⟩;unfold zF0 oN;refine mu ?_;first|rfl|(simp only [*,zd2,stopped,cT,cF]<;>rfl)|simp_all[Ty.cells,zd2,stopped]
def zKw:vR 285 zA4:=kF2 zn1 zC zB zq (zx []) zRn
def zch (g:ah):ah:=bif ige g.Pc 12 then {g with Pc:=12} else {g with Pc:=zK .i64 g.Pc 1}
@[simp] def zmh {g:ah}(h:SmG g):SmG (zch g):=by unfold zch;cases ige g.Pc 12<;>exact h
@[simp] abbrev ze8 (g:ah):ah:=zch g
def zrB:Run:=rF1 (dT .guest) λb=>(zbm b,[aT .guest<|ze8 b])
def zPk (N:Nat)(a:ah):OA:=
 (oN (zdE a)<|cond (ige (zde a).Pc 12) (some [aT .guest ({ (zde a) with Pc:=12}:ah)])<|some [aT .guest ({ (zde a) with Pc:=(zK .i64 (zde a).Pc 1)}:ah)])
def zWF (a:ah)(b:zbm a=true):∃N,zPk N a=some [aT .guest<|ze8 a]:=by have c:=zS.1 b;refine⟨0,?_⟩;unfold zPk oN;refine mu (br (λ_=>?_) λ_=>?_);all_goals first|rfl|(simp only [*,ze8,zch,cT,cF]<;>rfl)|simp_all[Ty.cells,ze8,zch]
def zQL:vR 348 zrB:=kF1 zn1 zC zB zq (zx []) zWF
def z6V:zW:=[(287,zyt),(402,zys),(353,zA5),(404,zQl),(285,zA4),(348,zrB)]++z6U
def zj9:zL z6V:=zh zHZ (zh zHY<|zh zKz<|zh zWs<|zh zKw<|zh zQL zn1)
def interrupted (g:ah):ah:=bif zjn g then saw {g with ak:=zk4 g.ak} (zK .i64 100<|zun g.ak) else g
@[simp] def zYc {g:ah}(h:SmG g):SmG (interrupted g):=by unfold interrupted;cases zjn g;{exact h};{exact zOG (g:={g with ak:=zk4 g.ak}) _ h}
@[simp] abbrev zkO (g:ah):ah:=interrupted g
def ztd:Run:=rF1 (dT .guest) λb=>(zbm b,[aT .guest<|zkO b])
def zvf (N:Nat)(a:ah):OA:=
 let c:=zK .i64 100<|zla a.ak;let b:=({a with ak:=(zk9 a.ak)}:ah); (oN (zbO a)<|cond (nB<|zmP a) (oN (zdE a)<|some [aT .guest<|zde a])<|oN (zc4 a.ak)<|oN (zEq b c)<|some [aT .guest<|zzQ b c])
def zFi (a:ah)(b:zbm a=true):∃N,zvf N a=some [aT .guest<|zkO a]:=by
 have c:=zS.1 b;have d:_/\_/\_/\_:=c;refine⟨0,?_⟩;unfold zvf oN nB;conv=>zeta
 refine j0 rfl (brN (λ_=>mu ?_) λ_=>j0 rfl (mu ?_));all_goals first|rfl|(simp only [*,zkO,interrupted,cT,cF]<;>rfl)|simp_all[Ty.cells,zkO,interrupted]
def zBC:vR 260 ztd:=kF1 zj9 zC zB zq (zx []) zFi
def zx1 (o:Int):Int:=bif ieq o 3 then 3 else (cond (ieq o 4) 4<|cond (ieq o 5) 5<|cond (ieq o 6) 6<|cond (ieq o 7) 7 2)
def zbe (g:ah):Int:=bif canRun g then (cond (zjn g) 1<|zx1 (zcw g.aw g.Pc).Op) else 0
@[simp] abbrev zoi (g:ah):Int:=zbe g
def zDv:Run:=rF1 (dT .guest) λb=>(zbO b,[aI<|zoi b])
def zJx (N:Nat)(a:ah):OA:=
 let b:=(zgu a.aw a.Pc).Op; (oN (ztr a)<|cond (nB<|zqT a) (some [aI 0])<|oN (zbO a)<|cond (zmP a) (some [aI 1])<|oN (zgf a.aw a.Pc)<|cond (ieq b 3) (some [aI 3])<|cond (ieq b 4) (some [aI 4])<|cond (ieq b 5) (some [aI 5])<|cond (ieq b 6) (some [aI 6])<|cond (ieq b 7) (some [aI 7])<|some [aI 2])
def zT7 (a:ah)(b:zbO a=true):∃N,zJx N a=some [aI<|zoi a]:=by
 refine⟨0,?_⟩;unfold zJx oN nB;conv=>zeta
 refine j0 rfl (brN (λ_=>?_) λ_=>j0 rfl (br (λ_=>?_) λ_=>j0 rfl (br (λ_=>?_) λ_=>br (λ_=>?_) λ_=>br (λ_=>?_) λ_=>br (λ_=>?_) λ_=>br (λ_=>?_) λ_=>?_)));all_goals first|rfl|(simp only [*,zoi,zbe,zx1,cT,cF]<;>rfl)|simp_all[Ty.cells,zoi,zbe,zx1]
def zco:vR 259 zDv:=kF1 zj9 zC zB zq (zx []) zT7
def held (g:ah):ah:=zch {g with aF:=true}
@[simp] def zVf {g:ah}(h:SmG g):SmG (held g):=zmh (g:={g with aF:=true}) h
@[simp] abbrev zyz (g:ah):ah:=held g
def zLR:Run:=rF1 (dT .guest) λb=>(zbm b,[aT .guest<|zyz b])
def zSq (N:Nat)(b:ah):OA:=
 let a:=({b with aF:=true}:ah); (oN (zbm a)<|some [aT .guest<|ze8 a])
def zZA (a:ah)(b:zbm a=true):∃N,zSq N a=some [aT .guest<|zyz a]:=by
 have c:=zS.1 b;have d:_/\_/\_/\_:=c;refine⟨0,?_⟩;unfold zSq oN;conv=>zeta
 refine mu ?_;first|rfl|(simp only [*,zyz,held,cT,cF]<;>rfl)|simp_all[Ty.cells,zyz,held]
def zTq:vR 349 zLR:=kF1 zj9 zC zB zq (zx []) zZA
def zJu (N:Nat)(a:ah):OA:=
 (oN (zbm a)<|some [aT .guest<|ze8 a])
def zT4 (a:ah)(b:zbm a=true):∃N,zJu N a=some [aT .guest<|ze8 a]:=by have c:=zS.1 b;refine⟨0,?_⟩;unfold zJu oN;refine mu ?_;first|rfl|(simp only [*,ze8,cT,cF]<;>rfl)|simp_all[Ty.cells,ze8]
def zNs:vR 289 zrB:=kF1 zj9 zC zB zq (zx []) zT4
def loaded (g:ah)(v:Int):ah:=zch (saw {g with A:=v} v)
@[simp] def zMd {g:ah}(v:Int)(h:SmG g):SmG (loaded g v):=zmh (zOG (g:={g with A:=v}) v h)
@[simp] abbrev zzN (g:ah)(v:Int):Bool:=pc (SmG g)
@[simp] abbrev zuS (g:ah)(v:Int):ah:=loaded g v
def zDq:Run:=rF2 (dT .guest) dI λb c=>(zzN b c,[aT .guest<|zuS b c])
def zJj (N:Nat)(c:ah)(a:Int):OA:=
 let b:=({c with A:=a}:ah); (oN (zEq b a)<|oN (zbm<|zzQ b a)<|some [aT .guest<|ze8<|zzQ b a])
def zTT (b:ah)(a:Int)(d:zzN b a=true):∃N,zJj N b a=some [aT .guest<|zuS b a]:=by
 have c:=zS.1 d;have f:_/\_/\_/\_:=c;have e:SmG (saw {b with A:=a} a):=zOG (g:={b with A:=a}) a c;refine⟨0,?_⟩;unfold zJj oN;conv=>zeta
 refine mu (mu ?_);first|rfl|(simp only [*,zuS,loaded,cT,cF]<;>rfl)|simp_all[Ty.cells,zuS,loaded]
def zNj:vR 290 zDq:=kF2 zj9 zC zB zq (zx []) zTT
def zYn (g:ah)(w:Int):ah:=bif ieq w 5 then stopped g (zx2 (zcw g.aw g.Pc).X) else stopped g ⟨4,0,false,0⟩
@[simp] def zbaR {g:ah}(w:Int)(h:SmG g):SmG (zYn g w):=by unfold zYn;cases ieq w 5<;>exact h
def zd6 (g:ah):Bool:=zdg g.aw&&(zk g.A 0 99&&(zk g.Pc 0 12&&(zdb g.az 4 8&&(zdb g.av 4 8&&(zmp g.Ctl&&(zdH g.ak&&(ziD g.Exit&&ile (ln g.aC) 40)))))))
@[simp] abbrev ziS (g:ah):Bool:=zd6 g
def znH:Run:=rF1 (dT .guest) λb=>(zbO b,[aB<|ziS b])
def zFM (N:Nat)(a:ah):OA:=
 (oN (ztw a.aw)<|cond (zhr a.aw) (oN (zN a.A 0 99)<|cond (zk a.A 0 99) (oN (zN a.Pc 0 12)<|cond (zk a.Pc 0 12) (oN (zjf a.az 4 8)<|cond (zeI a.az 4 8) (oN (zjf a.av 4 8)<|cond (zeI a.av 4 8) (oN (zge a.Ctl)<|cond (zqV a.Ctl) (oN (zc4 a.ak)<|cond (zfp a.ak) (oN (zts a.Exit)<|cond (zlZ a.Exit) (some [aB<|ile (ln a.aC) 40]) oF) oF) oF) oF) oF) oF) oF) oF)
def zAF (a:ah)(b:zbT big [aT .guest a])(c:zbO a=true):∃N,zFM N a=some [aB<|ziS a]:=by refine⟨0,?_⟩;unfold zFM oN;refine j0 rfl (br (λ_=>j0 rfl (br (λ_=>j0 rfl (br (λ_=>j0 rfl (br (λ_=>j0 rfl (br (λ_=>j0 rfl (br (λ_=>j0 rfl (br (λ_=>j0 rfl (br (λ_=>?_) λ_=>?_)) λ_=>?_)) λ_=>?_)) λ_=>?_)) λ_=>?_)) λ_=>?_)) λ_=>?_)) λ_=>?_);all_goals first|rfl|(simp only [*,ziS,zd6,cT,cF]<;>rfl)|simp_all[Ty.cells,ziS,zd6]
def zKk:vR 214 znH:=hF1 zj9 zC zB zq (zx []) zAF
def zKc:vR 209 znH:=hF1 zj9 zC zB zq (zx []) zAF
@[simp] abbrev zmv (l:List ah):Bool:=pc (zlz l)
@[simp] abbrev zlJ (l:List ah):List ah:=l
def zuC:Run:=rF1 (dS .guest) λb=>(zmv b,[aS .guest<|zlJ b])
def zxm (N:Nat)(c:lG):OA:=
 (r0 (σ:=(Int×Int×lG×lG×Unit)) N (λd a=>let b:=ix a.2.2.2.1 a.2.1 zD; (cond (ilt a.2.1 a.1) (oN (inb a.2.1<|ln a.2.2.2.1)<|oN (zbm b)<|oN (few<|ln<|ap a.2.2.1 [zgD b])<|d (a.1,zK .i64 a.2.1 1,ap a.2.2.1 [zgD b],a.2.2.2.1,()))<|some [aS .guest a.2.2.1])) (ln c,0,[],c,()))
def zIS:=zx [(343,0,{n:=20,tm:=[(3,.sl 0 []),(7,.sl 1 []),(8,ti),(9,ti)],lo:=[],ro:=[(0,.guest,true),(1,.guest,false)]})]
def zIf (a:List ah)(g:zmv a=true):∃N,zxm N a=some [aS .guest<|zlJ a]:=by
 have f:=zS.1 g;have e:=zcV f.1;refine zcj λN d=>?_;unfold zxm oN;conv=>zeta
 refine(zbq a (λi (t:lG)=>(ln a,(i:Int),t,a,())) _ (λ_ x b j=>bif zbm x then (cond (few<|ln<|ap b [zgD x]) (j<|ap b [zgD x]) none) else none) (λ(t:lG)=>some [.one<|.s .guest t]) (λi c t rec=>?_) (λt rec=>?_) _ ([])<|d e.1).trans ?_;{simp only [zbu c,zT c,zbi c,zbj c e.1,cT]};{simp only [zbh,cF]};exact zj7 zbm zgD _ a 0 [] (λx h=>⟨by exact zY (f.2 x h),rfl⟩) (by simpa using e.2)
def zCK:vR 343 zuC:=kF1 zj9 zC zB zq zIS zIf
def gAt (b:am)(i:Int):ah:=bif i0 i (ln b.ac) then ix b.ac i zD else Ty.dflt .guest
@[simp] def zkY {b:am}(i:Int)(h:SmB b):SmG (gAt b i):=by unfold gAt;cases a:i0 i (ln b.ac);{exact zbbe};{exact z3f h.2.1 a _}
def z6W:zW:=[(260,ztd),(259,zDv),(349,zLR),(289,zrB),(290,zDq),(214,znH),(209,znH),(343,zuC)]++z6V
def zqv:zL z6W:=zh zBC (zh zco<|zh zTq<|zh zNs<|zh zNj<|zh zKk<|zh zKc<|zh zCK zj9)
def plainly (g:ah):ah:=bif ine (zbe g) 2 then g else (cond (zk g.A 0 99) (cond (zk (zcw g.aw g.Pc).X 0 99) (cond (ieq (zcw g.aw g.Pc).Op 1) {zch g with A:=(zcw g.aw g.Pc).X}<|cond (ieq (zcw g.aw g.Pc).Op 2) {zch g with A:=zre (zK .i64 g.A (zcw g.aw g.Pc).X) 100}<|cond (ieq (zcw g.aw g.Pc).Op 8) (cond (ieq g.A 0) {zch g with Pc:=(zcw g.aw g.Pc).X}<|zch g)<|zch g)<|zch g)<|zch g)
@[simp] def zba6 (g:ah):(zch g).aw=g.aw:=by unfold zch;cases ige g.Pc 12<;>rfl
@[simp] def zbbC (g:ah):(zch g).A=g.A:=by unfold zch;cases ige g.Pc 12<;>rfl
@[simp] def z9N (g:ah):(zch g).az=g.az:=by unfold zch;cases ige g.Pc 12<;>rfl
@[simp] def zba5 (g:ah):(zch g).av=g.av:=by unfold zch;cases ige g.Pc 12<;>rfl
@[simp] def zbbm (g:ah):(zch g).Ctl=g.Ctl:=by unfold zch;cases ige g.Pc 12<;>rfl
@[simp] def z9M (g:ah):(zch g).ak=g.ak:=by unfold zch;cases ige g.Pc 12<;>rfl
@[simp] def zba4 (g:ah):(zch g).Exit=g.Exit:=by unfold zch;cases ige g.Pc 12<;>rfl
@[simp] def zbaw (g:ah):(zch g).aF=g.aF:=by unfold zch;cases ige g.Pc 12<;>rfl
@[simp] def zba7 (g:ah):(zch g).aC=g.aC:=by unfold zch;cases ige g.Pc 12<;>rfl
@[simp] def zbbn (g:ah)(x:Int):(zch {g with A:=x}).Pc=(zch g).Pc:=by unfold zch;cases ige g.Pc 12<;>rfl
@[simp] def zGV {g:ah}(h:SmG g):SmG (plainly g):=by have a:=zmh h;unfold plainly;cases ine (zbe g) 2;{cases zk g.A 0 99;{exact a};{cases zk (zcw g.aw g.Pc).X 0 99;{exact a};{cases ieq (zcw g.aw g.Pc).Op 1;{cases ieq (zcw g.aw g.Pc).Op 2;{cases ieq (zcw g.aw g.Pc).Op 8;{exact a};{cases ieq g.A 0<;>exact a}};{exact a}};{exact a}}}};{exact h}
@[simp] abbrev zsp (g:ah):ah:=plainly g
def zA2:Run:=rF1 (dT .guest) λb=>(zbm b,[aT .guest<|zsp b])
def zFY (N:Nat)(a:ah):OA:=
 let i:=ieq a.A 0;let c:=zbm a;let b:=aT .guest<|ze8 a;let d:=zgu a.aw a.Pc;let j:=({a with A:=d.X}:ah);let h:=ieq d.Op 8;let e:=zk d.X 0 99;let g:=aT .guest ({ (zde a) with Pc:=d.X}:ah);let f:=({a with A:=(zre (zK .i64 a.A d.X) 100)}:ah); (oN (zbO a)<|cond (ine (zoi a) 2) (oN (zdE a)<|some [aT .guest<|zde a])<|oN (zgf a.aw a.Pc)<|oN (zN a.A 0 99)<|cond (zk a.A 0 99) (oN (zN d.X 0 99)<|cond e (cond (ieq d.Op 1) (oN (zbm j)<|some [aT .guest<|ze8 j])<|cond e (cond (ieq d.Op 2) (oN (ine 100 0)<|oN (zbm f)<|some [aT .guest<|ze8 f])<|cond e (cond h (cond i (oN (zdE a)<|some [g])<|oN c<|some [b])<|oN c<|some [b])<|oN c<|some [b])<|cond e (cond h (cond i (oN (zdE a)<|some [g])<|oN c<|some [b])<|oN c<|some [b])<|oN c<|some [b])<|cond e (cond (ieq d.Op 2) (oN (ine 100 0)<|oN (zbm f)<|some [aT .guest<|ze8 f])<|cond e (cond h (cond i (oN (zdE a)<|some [g])<|oN c<|some [b])<|oN c<|some [b])<|oN c<|some [b])<|cond e (cond h (cond i (oN (zdE a)<|some [g])<|oN c<|some [b])<|oN c<|some [b])<|oN c<|some [b])<|oN c<|some [b])
def zRl (a:ah)(b:zbm a=true):∃N,zFY N a=some [aT .guest<|zsp a]:=by
 have c:=zS.1 b;have d:_/\_/\_/\_:=c;refine⟨0,?_⟩;unfold zFY oN;conv=>zeta
 refine j0 rfl (br (λ_=>mu ?_) λ_=>j0 rfl (j0 rfl (br (λ_=>j0 rfl (br (λ_=>br (λ_=>mu ?_) λ_=>br (λ_=>br (λ_=>j0 rfl (mu ?_)) λ_=>br (λ_=>br (λ_=>br (λ_=>mu ?_) λ_=>mu ?_) λ_=>mu ?_) λ_=>mu ?_) λ_=>br (λ_=>br (λ_=>br (λ_=>mu ?_) λ_=>mu ?_) λ_=>mu ?_) λ_=>mu ?_) λ_=>br (λ_=>br (λ_=>j0 rfl (mu ?_)) λ_=>br (λ_=>br (λ_=>br (λ_=>mu ?_) λ_=>mu ?_) λ_=>mu ?_) λ_=>mu ?_) λ_=>br (λ_=>br (λ_=>br (λ_=>mu ?_) λ_=>mu ?_) λ_=>mu ?_) λ_=>mu ?_)) λ_=>mu ?_)));all_goals first|rfl|(simp only [*,zsp,plainly,cT,cF]<;>rfl)|simp_all[Ty.cells,zsp,plainly]
def zKu:vR 261 zA2:=kF1 zqv zC zB zq (zx []) zRl
def E0 (g:ah):Int:=bif ine (zbe g) 3 then (cond (ine (zbe g) 4) (-1)<|(zcw g.aw g.Pc).X) else (zcw g.aw g.Pc).X
@[simp] abbrev zj1 (g:ah):Int:=E0 g
def zAT:Run:=rF1 (dT .guest) λb=>(zbO b,[aI<|zj1 b])
def zFH (N:Nat)(a:ah):OA:=
 (oN (zbO a)<|cond (ine (zoi a) 3) (cond (ine (zoi a) 4) (some [aI<|-1])<|oN (zgf a.aw a.Pc)<|some [aI (zgu a.aw a.Pc).X])<|oN (zgf a.aw a.Pc)<|some [aI (zgu a.aw a.Pc).X])
def zQ4 (a:ah)(b:zbO a=true):∃N,zFH N a=some [aI<|zj1 a]:=by refine⟨0,?_⟩;unfold zFH oN;refine j0 rfl (br (λ_=>br (λ_=>?_) λ_=>j0 rfl ?_) λ_=>j0 rfl ?_);all_goals first|rfl|(simp only [*,zj1,E0,cT,cF]<;>rfl)|simp_all[Ty.cells,zj1,E0]
def zKj:vR 281 zAT:=kF1 zqv zC zB zq (zx []) zQ4
def zkB (g:ah)(t w:Int):ah:=bif ieq w 6 then stopped g (zy5 (zcw g.aw g.Pc).X) else (cond (ieq w 5&&zhU t 1) (stopped g<|zx2 (zcw g.aw g.Pc).X)<|cond (ieq w 7&&zhU t 2) (stopped g ⟨4,0,false,0⟩)<|cond (ieq w 7) (held g)<|zch g)
def zlx (t w:Int):Bool:=bif ieq w 6 then false else (cond (ieq w 5&&zhU t 1) false<|cond (ieq w 7&&zhU t 2) false true)
@[simp] def zDJ {g:ah}(t w:Int)(h:SmG g):SmG (zkB g t w):=by unfold zkB;cases ieq w 6;{cases (ieq w 5&&zhU t 1);{cases (ieq w 7&&zhU t 2);{cases ieq w 7;{exact zmh h};{exact zVf h}};{exact h}};{exact h}};{exact h}
@[simp] abbrev zer (g:ah)(t w:Int):Bool:=pc (SmG g)
@[simp] abbrev zcl (g:ah)(t w:Int):ah:=zkB g t w
@[simp] abbrev zdF (g:ah)(t w:Int):Bool:=zlx t w
def zBa:Run:=rF3 (dT .guest) dI dI λb c d=>(zer b c d,[aT .guest<|zcl b c d,aB<|zdF b c d])
def zF8 (N:Nat)(a:ah)(c b:Int):OA:=
 let g:=aT .guest<|ze8 a;let f:=aT .guest<|zyz a;let e:=(⟨4,0,false,0⟩:aD);let d:=(zgu a.aw a.Pc).X; (oN (zgf a.aw a.Pc)<|cond (ieq b 6) (oN (zg1 d)<|oN (zeQ a<|zfW d)<|some [aT .guest<|zd2 a<|zfW d,aB false])<|cond (ieq b 5) (oN (zjc c 1)<|cond (ziT c 1) (oN (zg1 d)<|oN (zeQ a<|zg2 d)<|some [aT .guest<|zd2 a<|zg2 d,aB false])<|cond (ieq b 7) (oN (zjc c 2)<|cond (ziT c 2) (oN (zeQ a e)<|some [aT .guest<|zd2 a e,aB false])<|cond (ieq b 7) (oN (zbm a)<|some [f,aB true])<|oN (zbm a)<|some [g,aB true])<|cond (ieq b 7) (oN (zbm a)<|some [f,aB true])<|oN (zbm a)<|some [g,aB true])<|cond (ieq b 7) (oN (zjc c 2)<|cond (ziT c 2) (oN (zeQ a e)<|some [aT .guest<|zd2 a e,aB false])<|cond (ieq b 7) (oN (zbm a)<|some [f,aB true])<|oN (zbm a)<|some [g,aB true])<|cond (ieq b 7) (oN (zbm a)<|some [f,aB true])<|oN (zbm a)<|some [g,aB true])
def zRv (a:ah)(b c:Int)(d:zer a b c=true):∃N,zF8 N a b c=some [aT .guest<|zcl a b c,aB<|zdF a b c]:=by
 have e:=zS.1 d;refine⟨0,?_⟩;unfold zF8 oN;conv=>zeta
 refine j0 rfl (br (λ_=>j0 rfl (mu ?_)) λ_=>br (λ_=>j0 rfl (br (λ_=>j0 rfl (mu ?_)) λ_=>br (λ_=>j0 rfl (br (λ_=>mu ?_) λ_=>br (λ_=>mu ?_) λ_=>mu ?_)) λ_=>br (λ_=>mu ?_) λ_=>mu ?_)) λ_=>br (λ_=>j0 rfl (br (λ_=>mu ?_) λ_=>br (λ_=>mu ?_) λ_=>mu ?_)) λ_=>br (λ_=>mu ?_) λ_=>mu ?_);all_goals first|rfl|(simp only [*,zcl,zdF,zkB,zlx,cT,cF]<;>rfl)|simp_all[Ty.cells,zcl,zdF,zkB,zlx]
def zKN:vR 292 zBa:=kF3 zqv zC zB zq (zx []) zRv
def zcb (b:am):Bool:=bif b.ac.all zd6 then (ziK b.ag 8&&(zk (ln b.ac) 1 2&&(ile (ln b.Outs) 40&&zdH b.ak))) else false
@[simp] abbrev zpy (b:am):Bool:=true
@[simp] abbrev zfo (b:am):Bool:=zcb b
def zDn:Run:=rF1 (dT .bare) λb=>(zpy b,[aB<|zfo b])
def zJb (N:Nat)(c:am):OA:=
 (r0 (σ:=(Int×Int×lM×lG×LI×Unit)) N (λd a=>let b:=a.2.2.2.1; (cond (ilt a.1<|ln b) (oN (inb a.1<|ln b)<|oN (zbO<|ix b a.1 zD)<|cond (nB<|ziS<|ix b a.1 zD) oF<|d (zK .i64 a.1 1,a.2.1,a.2.2.1,b,a.2.2.2.2.1,()))<|oN (zl2 a.2.2.1 8)<|cond (zgv a.2.2.1 8) (oN (zN (ln b) 1 2)<|cond (zk (ln b) 1 2) (cond (ile (ln a.2.2.2.2.1) 40) (oN (zc4 a.2.1)<|some [aB<|zfp a.2.1]) oF) oF) oF)) (0,c.ak,c.ag,c.ac,c.Outs,()))
def zVC:=zx [(280,0,{n:=38,tm:=[(1,.lp 0 0),(3,ti)],lo:=[(0,[.sl 0 [],.sl 1 [],.sl 2 [],ti])],ro:=[(0,.sl .int,false),(1,.guest,false),(2,.int,false)]})]
def zTM (a:am)(k:zbT big [aT .bare a])(m:zpy a=true):∃N,zJb N a=some [aB<|zfo a]:=by
 have j:(_:List _).length<=big:=((zbp k).1 (.s .guest a.ac) (by simp[AV.cvs,Ty.cells])).len;refine zcj λN h=>?_;unfold zJb oN nB;conv=>zeta
 refine(zbq a.ac (λi (t:Unit)=>((i:Int),a.ak,a.ag,a.ac,a.Outs,())) _ (λ_ x (_:Unit) l=>bif (zd6) x then l () else oF) (λ(t:Unit)=>cond (zl2 a.ag 8) (cond (zgv a.ag 8) (cond (zN (ln a.ac) 1 2) (cond (zk (ln a.ac) 1 2) (cond (ile (ln a.Outs) 40) (cond (zc4 a.ak) (some [.one<|.b<|zfp a.ak]) none) oF) oF) none) oF) none) (λi f t rec=>?_) (λt rec=>?_) _ ()<|h j).trans ?_;{simp only [zbu f,zT f,zbi f,zbj f j,cT];exact zj6 rfl};{simp only [zbh,cF]};rw[zhS<|zd6];refine br (λc=>?_) (λc=>?_);{refine j0 rfl ?_;refine br (λd=>?_) (λd=>?_);{refine j0 rfl ?_;refine br (λe=>?_) (λe=>?_);{refine br (λg=>?_) (λg=>?_);{refine j0 rfl ?_;first|rfl|(simp only [c,d,e,g,zfo,zcb,cT,cF]<;>rfl)|(simp_all [Ty.cells,zfo,zcb];done)};{first|rfl|(simp only [c,d,e,g,zfo,zcb,cT,cF]<;>rfl)|(simp_all [Ty.cells,zfo,zcb];done)}};{first|rfl|(simp only [c,d,e,zfo,zcb,cT,cF]<;>rfl)|(simp_all [Ty.cells,zfo,zcb];done)}};{first|rfl|(simp only [c,d,zfo,zcb,cT,cF]<;>rfl)|(simp_all [Ty.cells,zfo,zcb];done)}};{first|rfl|(simp only [c,zfo,zcb,cT,cF]<;>rfl)|(simp_all [Ty.cells,zfo,zcb];done)}
def zNc:vR 280 zDn:=hF1 zqv zC zB zq zVC zTM
@[simp] abbrev zdW (b:am):Bool:=pc (SmB b)
@[simp] abbrev zcu (b:am):am:=b
def zA9:Run:=rF1 (dT .bare) λb=>(zdW b,[aT .bare<|zcu b])
def zF7 (N:Nat)(a:am):OA:=
 (oN (zgL a.ag)<|oN (zgh a.ac)<|oN (few<|ln<|ap [] a.Outs)<|some [aT .bare (⟨ze7 a.ag,zgO a.ac,ap [] a.Outs,a.ak⟩:am)])
def zRu (a:am)(b:zdW a=true):∃N,zF7 N a=some [aT .bare<|zcu a]:=by have c:=zS.1 b;have d:_/\_/\_:=c;refine⟨0,?_⟩;unfold zF7 oN;refine mu (mu<|mu ?_);first|rfl|(simp only [*,zcu,cT,cF]<;>rfl)|simp_all[Ty.cells,zcu]
def zKM:vR 278 zA9:=kF1 zqv zC zB zq (zx []) zRu
def z6X:zW:=[(261,zA2),(281,zAT),(292,zBa),(280,zDn),(278,zA9)]++z6W
def z4t:zL z6X:=zh zKu (zh zKj<|zh zKN<|zh zNc<|zh zKM zqv)
def zeZ (b:am)(i:Int)(x:ah):am:={b with ac:=up b.ac i x}
def zpa (b:am)(n:Int):am:=bif ilt (ln b.Outs) 40 then {b with Outs:=ap b.Outs [n]} else b
@[simp] def zom {b:am}{i:Int}{x:ah}(h:SmB b)(a:SmG x):SmB (zeZ b i x):=⟨h.1,zEs h.2.1 a,h.2.2⟩
@[simp] def z0p {b:am}{n:Int}(h:SmB b):SmB (zpa b n):=by unfold zpa;cases a:ilt (ln b.Outs) 40;{exact h};{have:=qF a;refine⟨h.1,h.2.1,?_⟩;simp[ln] at *;omega}
@[simp] def zbbw (b:am)(n:Int):(zpa b n).ac=b.ac:=by unfold zpa;cases ilt (ln b.Outs) 40<;>rfl
@[simp] def zz2 {m:List LI}{p c v:Int}(h:SmM m):SmM (zbN m p c v):=by unfold zbN;cases a:ziJ m p c;{exact h};{cases b:zk v 0 99;{exact h};{exact zMf h (by simpa using zbaJ h ((zzA m p c).1 a).1 [])}}
def zYO:zW:=z6X
def zqw:zL zYO:=z4t
def zoG (b:am)(g:Int)(x:ah)(w:Bool):am :=
 bif zf5 x.av (zbk<|E0 x) (zcd w) then
  (bif w then zeZ {b with ag:=zbN b.ag (zcN x.av (zbk<|E0 x)<|zcd w) (zdp<|E0 x) x.A} g (zch x)
  else zeZ b g (loaded x<|cellAt b.ag (zcN x.av (zbk<|E0 x)<|zcd w)<|zdp<|E0 x))
 else zeZ b g (stopped x<|zr5 (zbk<|E0 x) w)
def zEt (b:am)(g:Int)(x:ah)(w:Int):am :=
 zeZ (cond (cond (zlx x.Ctl.aq w) (ieq w 5) false) (zpa b (zcw x.aw x.Pc).X) b) g (zkB x x.Ctl.aq w)
def stepped (b:am)(g:Int)(x:ah)(w:Int):am :=
 bif ieq w 1 then zeZ b g (interrupted x) else (cond (ieq w 2) (zeZ b g<|plainly x)<|cond (ieq w 3) (zoG b g x false)<|cond (ieq w 4) (zoG b g x true)<|zEt b g x w)
def zmn (b:am)(g:Int):Bool:=bif i0 g (ln b.ac) then (cond (zcb b) (!ieq (zbe<|gAt b g) 0) false) else false
def zi4 (b:am)(g:Int):am:=bif zmn b g then stepped b g (gAt b g) (zbe<|gAt b g) else b
@[simp] def zYb {b:am}{g:Int}{x:ah}{w:Bool}(h:SmB b)(a:SmG x):SmB (zoG b g x w):=by unfold zoG;cases zf5 x.av (zbk<|E0 x) (zcd w);{exact zom h a};{cases w;{exact zom h (zMd _ a)};{exact⟨zz2 h.1,zEs h.2.1<|zmh a,h.2.2⟩}}
@[simp] def z9y {b:am}{g:Int}{x:ah}{w:Int}(h:SmB b)(a:SmG x):SmB (zEt b g x w):=by unfold zEt;cases (cond (zlx x.Ctl.aq w) (ieq w 5) false);{exact zom h (zDJ _ _ a)};{exact zom (z0p h) (zDJ _ _ a)}
@[simp] def zXj {b:am}{g:Int}{x:ah}{w:Int}(h:SmB b)(a:SmG x):SmB (stepped b g x w):=by unfold stepped;cases ieq w 1;{cases ieq w 2;{cases ieq w 3;{cases ieq w 4;{exact z9y h a};{exact zYb h a}};{exact zYb h a}};{exact zom h (zGV a)}};{exact zom h (zYc a)}
@[simp] def zbby {b:am}{g:Int}(h:SmB b):SmB (zi4 b g):=by unfold zi4;cases zmn b g;{exact h};{exact zXj h (zkY g h)}
def zbbi (x:ah):ieq (zbe x) 0=false->ieq (zbe x) 1=false->ieq (zbe x) 2=false->ieq (zbe x) 3=false->ieq (zbe x) 4=false->ieq (zbe x) 5=false->ieq (zbe x) 6=false->ieq (zbe x) 7=true:=by unfold zbe zx1;cases canRun x;{intro h;cases h};{cases zjn x;{simp only [cT,cF];generalize (zcw x.aw x.Pc).Op=o;cases ieq o 3<;>cases ieq o 4<;>cases ieq o 5<;>cases ieq o 6<;>cases ieq o 7<;>simp [ieq]};{intro _ h;cases h}}
def SmK (k:ax):Prop:=k.ay.length<=1048576/\k.aA.length<=1048576
def zCf (l:List ax):Prop:=l.length<=1048576/\∀x∈l,SmK x
def ze4 (m:Mon):Prop:=m.ae.length<=1048576/\SmM m.Out/\m.ar.length<=1048576/\zlz m.ac/\m.Outs.length<=1048576/\zCf m.ai
def zrZ (l:List Mon):Prop:=l.length<=1048576/\∀x∈l,ze4 x
def SmH (h:ad):Prop:=SmM h.ag/\zrZ h.aa/\h.ao.length<=1048576/\h.an.length<=1048576
@[simp] def zxy (k:ax):(∀c∈Ty.cells .kept k,CVB sm c)↔SmK k:=by simp[Ty.cells,SmK,z5J]
@[simp] def z4A (l:List ax):CVB sm (.s .kept l)↔zCf l:=by rw[zmr];simp only[zxy];rfl
@[simp] def zMM (m:Mon):(∀c∈Ty.cells .mon m,CVB sm c)↔ze4 m:=by simp only[Ty.cells,qG,qP,or_false,vN,forall_eq,zqx,zvu,z4A,zYX,zWe,zWd,z7j,and_true,true_and];rfl
@[simp] def z8A (l:List Mon):CVB sm (.s .mon l)↔zrZ l:=by rw[zmr];simp only[zMM];rfl
@[simp] def zbc (h:ad):zdY h↔SmH h:=by unfold zdY;simp only[zbo,qG,qP,or_false,vN,forall_eq,zqx,z8A,zS0];rfl
def zbL {p:Prop}(h:p):pc p=true:=zY h
def zyD {l:List ax}{i:Int}{x:ax}(h:zCf l)(b:SmK x):zCf (up l i x):=by refine⟨by simpa using h.1,λy a=>?_⟩;rcases qY a with a|rfl;{exact h.2 y a};{exact b}
def zj3 {l:List Mon}{i:Int}{x:Mon}(h:zrZ l)(b:ze4 x):zrZ (up l i x):=by refine⟨by simpa using h.1,λy a=>?_⟩;rcases qY a with a|rfl;{exact h.2 y a};{exact b}
def zot {a:Type}{l:List a}(h:l.length<=1048576):few (ln<|ap [] l)=true:=by rw[zm5,z8I];omega
@[simp] abbrev zby (h:ad):Bool:=pc (zdY h)
@[simp] abbrev zo (h:ad):ad:=h
def zho:Run:=rF1 dH λb=>(zby b,[aH<|zo b])
def zF9 (N:Nat)(b:ad):OA:=
 (oN (zgL b.ag)<|oN (few<|ln<|ap [] b.ao)<|oN (few<|ln<|ap [] b.an)<|r0 (σ:=(Int×lM×lN×lE×lE×lM×lN×lE×lE×lM×lN×lE×lE×Unit)) N (λf a=>let b:=a.2.2.2.2.2.2.2;let e:=b.2.2.2.2.2.1;let d:=ix a.2.2.1 a.1 zi;let c:=ap b.2.2.2.1 [zmd d]; (cond (ilt a.1<|ln a.2.2.1) (oN (inb a.1<|ln a.2.2.1)<|oN (zhE d)<|oN (few<|ln c)<|f (zK .i64 a.1 1,a.2.1,a.2.2.1,a.2.2.2.1,a.2.2.2.2.1,a.2.2.2.2.2.1,a.2.2.2.2.2.2.1,b.1,b.2.1,b.2.2.1,c,b.2.2.2.2.1,e,()))<|some [aH (⟨b.2.2.1,b.2.2.2.1,b.2.2.2.2.1,e⟩:ad)])) (0,b.ag,b.aa,b.ao,b.an,[],[],[],[],ze7 b.ag,[],ap [] b.ao,ap [] b.an,()))
def zR2:=zx [(107,0,{n:=36,tm:=[(1,.lp 0 0),(2,.lp 1 0),(3,.lp 2 0),(4,ti)],lo:=[(0,[.sl 0 [],.sl 1 [],.sl 2 [],.sl 3 []]),(1,[.sl 4 [],.sl 5 [],.sl 6 [],.sl 7 []]),(2,[.sl 8 [],.sl 9 [],.sl 10 [],.sl 11 []])],ro:=[(0,.sl .int,false),(1,.mon,false),(2,.entry,false),(3,.entry,false),(4,.sl .int,true),(5,.mon,true),(6,.entry,true),(7,.entry,true),(8,.sl .int,true),(9,.mon,true),(10,.entry,true),(11,.entry,true)]})]
def zRw (a:ad)(k:zby a=true):∃N,zF9 N a=some [aH<|zo a]:=by
 obtain⟨g,f,h,j⟩:=(zbc a).1 (zS.1 k);have e:=zcV f.1;refine zcj λN d=>?_;unfold zF9 oN;conv=>zeta
 refine j0 (zbL<|(zqx _).2 g) (j0 (zot h)<|j0 (zot j) ?_);refine(zbq a.aa (λi (t:lN)=>((i:Int),a.ag,a.aa,a.ao,a.an,[],[],[],[],ze7 a.ag,t,ap [] a.ao,ap [] a.an,())) _ (λ_ x b m=>bif zhE x then (cond (few<|ln<|ap b [zmd x]) (m<|ap b [zmd x]) none) else none) (λ(t:lN)=>some [.agg<|zbo (⟨ze7 a.ag,t,ap [] a.ao,ap [] a.an⟩:ad)]) (λi c t rec=>?_) (λt rec=>?_) _ ([])<|d e.1).trans ?_;{simp only [zbu c,zT c,zbi c,zbj c e.1,cT]};{simp only [zbh,cF]};exact zj7 zhE zmd _ a.aa 0 [] (λx l=>⟨zbL<|(zMM x).2 (f.2 x l),rfl⟩) (by simpa using e.2)
def zo2:vR 107 zho:=kF1 zqw zC zB zq zR2 zRw
@[simp] abbrev zfc (k:ax):Bool:=pc (SmK k)
@[simp] abbrev zed (k:ax):ax:=k
def zyg:Run:=rF1 (dT .kept) λb=>(zfc b,[aT .kept<|zed b])
def zBN (N:Nat)(a:ax):OA:=
 (oN (few<|ln<|ap [] a.ay)<|oN (zhj a.aA)<|some [aT .kept (⟨ap [] a.ay,zfB a.aA⟩:ax)])
def zNW (a:ax)(b:zfc a=true):∃N,zBN N a=some [aT .kept<|zed a]:=by have c:=zS.1 b;obtain⟨f,g⟩:=c;have d:a.ay.length<=2147483648:=(by omega);have e:a.aA.length<=2147483648:=(by omega);refine⟨0,?_⟩;unfold zBN oN;refine mu (mu ?_);first|rfl|(simp only [*,zed,cT,cF]<;>rfl)|simp_all[Ty.cells,zed]
def zHF:vR 369 zyg:=kF1 zqw zC zB zq (zx []) zNW
def z6J:zW:=[(107,zho),(369,zyg)]++zYO
def zSV:zL z6J:=zh zo2 (zh zHF zqw)
@[simp] abbrev zja (m:Mon):Bool:=pc (ze4 m)
@[simp] abbrev zjZ (m:Mon):Mon:=m
def zsI:Run:=rF1 (dT .mon) λb=>(zja b,[aT .mon<|zjZ b])
def zFE (N:Nat)(b:Mon):OA:=
 (oN (zhj b.ae)<|oN (zi9 b.Out)<|oN (few<|ln<|ap [] b.ar)<|oN (zmv b.ac)<|oN (zei b.Outs)<|r0 (σ:=(Int×Int×Int×Int×Int×Int×Int×Int×lK×lK×lS×lM×lB×lG×LI×lS×lM×lB×lG×LI×lK×Unit)) N (λi a=>let b:=a.2.2.2.2.2.2.2.2.2.2;let j:=b.2.2.2.2.2;let h:=b.2.2.1;let g:=b.2.2.2.1;let f:=b.2.2.2.2.1;let e:=a.2.2.2.2.2.2.2.2.1;let d:=a.2.2.2.2.2.2.2.2.2.1;let c:=ix d a.2.1 zex; (cond (ilt a.2.1 a.1) (oN (inb a.2.1<|ln d)<|oN (zfc c)<|oN (few<|ln<|ap e [zed c])<|i (a.1,zK .i64 a.2.1 1,a.2.2.1,a.2.2.2.1,a.2.2.2.2.1,a.2.2.2.2.2.1,a.2.2.2.2.2.2.1,a.2.2.2.2.2.2.2.1,ap e [zed c],d,b.1,b.2.1,h,g,f,j.1,j.2.1,j.2.2.1,j.2.2.2.1,j.2.2.2.2.1,j.2.2.2.2.2.1,()))<|some [aT .mon (⟨b.1,b.2.1,h,g,f,a.2.2.1,a.2.2.2.1,e,a.2.2.2.2.1⟩:Mon)])) (ln b.ai,0,b.ak,b.aq,b.Own,0,0,0,[],b.ai,zfB b.ae,zgc b.Out,ap [] b.ar,zlJ b.ac,zec b.Outs,[],[],[],[],[],[],()))
def zRV:=zx [(200,0,{n:=44,tm:=[(1,.lp 0 0),(2,.lp 1 0),(3,.sl 0 []),(29,.sl 1 []),(30,ti),(31,ti)],lo:=[(0,[.sl 2 [],.sl 3 [],.sl 4 [],.sl 5 [],.sl 6 [],ti,ti,.sl 1 [],ti]),(1,[.sl 7 [],.sl 8 [],.sl 9 [],.sl 10 [],.sl 11 [],ti,ti,.sl 12 [],ti])],ro:=[(0,.kept,true),(1,.kept,false),(2,.slot,true),(3,.sl .int,true),(4,.bool,true),(5,.guest,true),(6,.int,true),(7,.slot,true),(8,.sl .int,true),(9,.bool,true),(10,.guest,true),(11,.int,true),(12,.kept,true)]})]
def zQ1 (a:Mon)(p:zja a=true):∃N,zFE N a=some [aT .mon<|zjZ a]:=by
 obtain⟨s,l,m,n,u,f⟩:=zS.1 p;have e:=zcV f.1;refine zcj λN d=>?_;unfold zFE oN;conv=>zeta
 have g:zhj a.ae=true:=(by simp;omega);have h:zi9 a.Out=true:=(by simp;exact l);have j:zmv a.ac=true:=(by simp;exact n);have k:zei a.Outs=true:=(by simp;omega);refine j0 g (j0 h<|j0 (zot m)<|j0 j<|j0 k ?_);refine(zbq a.ai (λi (t:lK)=>(ln a.ai,(i:Int),a.ak,a.aq,a.Own,0,0,0,t,a.ai,zfB a.ae,zgc a.Out,ap [] a.ar,zlJ a.ac,zec a.Outs,[],[],[],[],[],[],())) _ (λ_ x b r=>bif zfc x then (cond (few<|ln<|ap b [zed x]) (r<|ap b [zed x]) none) else none) (λ(t:lK)=>some [.agg<|Ty.cells .mon (⟨zfB a.ae,zgc a.Out,ap [] a.ar,zlJ a.ac,zec a.Outs,a.ak,a.aq,t,a.Own⟩:Mon)]) (λi c t rec=>?_) (λt rec=>?_) _ ([])<|d e.1).trans ?_;{simp only [zbu c,zT c,zbi c,zbj c e.1,cT]};{simp only [zbh,cF]};exact zj7 zfc zed _ a.ai 0 [] (λx q=>⟨zbL<|f.2 x q,rfl⟩) (by simpa using e.2)
def zvF:vR 200 zsI:=kF1 zSV zC zB zq zRV zQ1
def z6K:zW:=[(200,zsI)]++z6J
def zy9:zL z6K:=zh zvF zSV
def zBL (N:Nat)(b:ad):OA:=
 (oN (zi9 b.ag)<|oN (few<|ln<|ap [] b.ao)<|oN (few<|ln<|ap [] b.an)<|r0 (σ:=(Int×Int×lN×lM×lN×lE×lE×lM×lN×lE×lE×Unit)) N (λe a=>let b:=a.2.2.2.2.2.2.2;let d:=ix a.2.2.1 a.2.1 zi;let c:=ap b.2.1 [zjZ d]; (cond (ilt a.2.1 a.1) (oN (inb a.2.1<|ln a.2.2.1)<|oN (zja d)<|oN (few<|ln c)<|e (a.1,zK .i64 a.2.1 1,a.2.2.1,a.2.2.2.1,a.2.2.2.2.1,a.2.2.2.2.2.1,a.2.2.2.2.2.2.1,b.1,c,b.2.2.1,b.2.2.2.1,()))<|some [aH (⟨b.1,b.2.1,b.2.2.1,b.2.2.2.1⟩:ad)])) (ln b.aa,0,b.aa,[],[],[],[],zgc b.ag,[],ap [] b.ao,ap [] b.an,()))
def zON:=zx [(102,0,{n:=34,tm:=[(2,.lp 0 0),(3,.lp 1 0),(19,.sl 0 []),(20,ti),(21,ti)],lo:=[(0,[.sl 1 [],.sl 2 [],.sl 3 [],.sl 4 []]),(1,[.sl 5 [],.sl 6 [],.sl 7 [],.sl 8 []])],ro:=[(0,.mon,false),(1,.sl .int,true),(2,.mon,true),(3,.entry,true),(4,.entry,true),(5,.sl .int,true),(6,.mon,true),(7,.entry,true),(8,.entry,true)]})]
def zNU (a:ad)(l:zby a=true):∃N,zBL N a=some [aH<|zo a]:=by
 obtain⟨h,f,j,k⟩:=(zbc a).1 (zS.1 l);have e:=zcV f.1;refine zcj λN d=>?_;unfold zBL oN;conv=>zeta
 have g:zi9 a.ag=true:=(by simp;exact h);refine j0 g (j0 (zot j)<|j0 (zot k) ?_);refine(zbq a.aa (λi (t:lN)=>(ln a.aa,(i:Int),a.aa,[],[],[],[],zgc a.ag,t,ap [] a.ao,ap [] a.an,())) _ (λ_ x b n=>bif zja x then (cond (few<|ln<|ap b [zjZ x]) (n<|ap b [zjZ x]) none) else none) (λ(t:lN)=>some [.agg<|zbo (⟨zgc a.ag,t,ap [] a.ao,ap [] a.an⟩:ad)]) (λi c t rec=>?_) (λt rec=>?_) _ ([])<|d e.1).trans ?_;{simp only [zbu c,zT c,zbi c,zbj c e.1,cT]};{simp only [zbh,cF]};exact zj7 zja zjZ _ a.aa 0 [] (λx m=>⟨zbL<|f.2 x m,rfl⟩) (by simpa using e.2)
def zug:vR 102 zho:=kF1 zy9 zC zB zq zON zNU
def allI {a:Type}(p:Nat->a->Bool):List a->Nat->Bool
 |[],_=>true
 |x::l,i=>p i x&&allI p l (i+1)
def zHw {a b:Type}(p:Nat->a->Bool)(r:Option b)(K:Unit->Option b):∀(l:List a) (i:Nat),goL (λi x (_:Unit) k=>bif p i x then k () else r) K l i ()=bif allI p l i then K () else r
 |[],_=>rfl
 |x::l,i=>by simp only[goL,allI];cases p i x;{rfl};{simp only [cT,uL];exact zHw p r K l (i+1)}
def zPr {a:Type}(q:a->Bool)(l:List a)(d:a):∀(n i:Nat),i+n<=l.length->zoN (λj=>q (ix l (j:Int) d)) n i=((l.drop i).take n).all q
 | 0,i,_=>by simp[zoN]
 |n+1,i,h=>by have b:i<l.length:=(by omega);rw[kB b,List.take_succ_cons,kY,<- zPr q l d n (i+1) (by omega)];simp only[zoN,zbi b]
def sameKey (a b:au):Bool:=bif ieq a.Tag b.Tag then ieq a.af b.af else false
def alone (l:List au)(i:Nat)(x:au):Bool:=(l.take i).all λy=>!sameKey x y
def zfM (l:List au):Bool:=bif allI (alone l) l 0 then ile (ln l) 6 else false
def z4O {a:Type}{l:List a}{i:Nat}(h:i<=l.length):inr 0 (i:Int) (ln l)=true:=qK (by simp only[ln];omega)
@[simp] abbrev zh6 (l:List au):Bool:=true
@[simp] abbrev zhw (l:List au):Bool:=zfM l
def zmE:Run:=rF1 (dS .entry) λb=>(zh6 b,[aB<|zhw b])
def zBG (N:Nat)(g:lE):OA:=
 (r0 (σ:=(Int×Int×lE×Unit)) N (λi b=>let c:=b.2.2.1;let e:=ix c b.2.1 zey; (cond (ilt b.2.1 b.1) (oN (inb b.2.1<|ln c)<|oN (inr 0 b.2.1<|ln c)<|r0 (σ:=(Int×Int×Int×Int×Int×Int×Int×Int×lE×lE×Unit)) N (λj a=>let b:=a.2.2.2.2;let d:=a.2.2.2.1;let f:=b.2.2.2.2.2.1;let h:=j (a.1,a.2.1,a.2.2.1,zK .i64 d 1,b.1,b.2.1,b.2.2.1,b.2.2.2.1,b.2.2.2.2.1,f,()); (cond (ilt d a.2.2.1) (oN (inb d<|ln f)<|cond (ieq b.1 (ix f d zey).Tag) (cond (ieq b.2.1 (ix f d zey).af) oF h) h)<|i (a.1,zK .i64 a.2.1 1,b.2.2.2.2.1,()))) (b.1,b.2.1,ln<|tk c b.2.1,0,e.Tag,e.af,e.ad,e.aj,c,tk c b.2.1,()))<|some [aB<|ile (ln c) 6])) (ln g,0,g,()))
def zOL:=zx [(219,0,{n:=39,tm:=[(0,.sl 0 []),(7,.sl 0 []),(8,ti),(9,ti)],lo:=[],ro:=[(0,.entry,false)]}),(219,2,{n:=39,tm:=[(0,.sl 0 []),(4,.lp 0 0),(7,.sl 0 []),(8,ti),(9,ti),(16,.sl 1 []),(17,ti),(18,ti)],lo:=[(0,[ti,ti,ti,ti])],ro:=[(0,.entry,false),(1,.entry,false)]})]
def zNP (a:List au)(l:zbT big [aS .entry a])(m:zh6 a=true):∃N,zBG N a=some [aB<|zhw a]:=by
 have e:=len0 l;refine zcj λN d=>?_;unfold zBG oN;conv=>zeta
 refine(zbq a (λi (t:Unit)=>(ln a,(i:Int),a,())) _ (λi (x:au) (_:Unit) h=>bif alone a i x then h () else oF) (λ(t:Unit)=>some [.one<|.b<|ile (ln a) 6]) (λi c t rec=>?_) (λt rec=>?_) _ ()<|d e).trans ?_;{simp only [zbu c,zT c,zbi c,zbj c e,cT];rw[z4O<|Nat.le_of_lt c,cT];have k:(tk a (i:Int)).length<=big:=qU (by simp[tk];omega) e;refine(zbq (tk a (i:Int)) (λj (u:Unit)=>(ln a,(i:Int),ln<|tk a (i:Int),(j:Int),a[i].Tag,a[i].af,a[i].ad,a[i].aj,a,tk a (i:Int),())) _ (λ_ (y:au) (_:Unit) h=>bif !sameKey a[i] y then h () else oF) (λ(u:Unit)=>rec (ln a,((i+1:Nat):Int),a,())) (λj g u f=>?_) (λu f=>?_) _ ()<|d k).trans ?_;{simp only [zbu g,zT g,zbi g,zbj g k,cT,zbj c e];unfold sameKey;cases ieq a[i].Tag (tk a (i:Int))[j].Tag<;>cases ieq a[i].af (tk a (i:Int))[j].af<;>rfl};{simp only [zbh,cF,zbj c e]};rw[zhS λy=>!sameKey a[i] y];rfl};{simp only [zbh,cF]};rw[zHw<|alone a];unfold zhw zfM;cases allI (alone a) a 0<;>rfl
def zHz:vR 219 zmE:=hF1 zy9 zC zB zq zOL zNP
def zBY (N:Nat)(f:lE):OA:=
 (r0 (σ:=(Int×lE×Unit)) N (λg c=>cond (ilt c.1<|ln c.2.1) (r0 (σ:=(Int×Int×lE×Unit)) N (λh a=>let b:=a.2.2.1;let e:=ix b a.2.1 zey;let d:=h (a.1,zK .i64 a.2.1 1,b,()); (cond (ilt a.2.1 a.1) (oN (inb a.1<|ln b)<|oN (inb a.2.1<|ln b)<|cond (ieq (ix b a.1 zey).Tag e.Tag) (oN (inb a.1<|ln b)<|oN (inb a.2.1<|ln b)<|cond (ieq (ix b a.1 zey).af e.af) oF d) d)<|g (zK .i64 a.1 1,b,()))) (c.1,0,c.2.1,()))<|some [aB<|ile (ln c.2.1) 6]) (0,f,()))
def zOS:=zx [(122,0,{n:=43,tm:=[(0,.sl 0 []),(3,ti)],lo:=[],ro:=[(0,.entry,false)]}),(122,2,{n:=43,tm:=[(0,.sl 0 []),(3,ti),(4,ti)],lo:=[],ro:=[(0,.entry,false)]})]
def zN5 (a:List au)(k:zbT big [aS .entry a])(l:zh6 a=true):∃N,zBY N a=some [aB<|zhw a]:=by
 have g:=len0 k;refine zcj λN d=>?_;unfold zBY oN;conv=>zeta
 refine(zbq a (λi (t:Unit)=>((i:Int),a,())) _ (λi (x:au) (_:Unit) h=>bif alone a i x then h () else oF) (λ(t:Unit)=>some [.one<|.b<|ile (ln a) 6]) (λi c t rec=>?_) (λt rec=>?_) _ ()<|d g).trans ?_;{simp only [zbu c,zT c,zbi c,zbj c g,cT];refine(zId i (λ(j:Nat) (_:Unit)=>((i:Int),(j:Int),a,())) _ (λj (_:Unit) h=>bif !sameKey a[i] (ix a (j:Int) zey) then h () else oF) (λ_=>rec (((i+1:Nat):Int),a,())) (λj m u f=>?_) (λu f=>?_) _ ()<|d (by omega)).trans ?_;{have e:j<a.length:=(by omega);simp only[show ilt (j:Int) (i:Int)=true from qK (by omega),zT c,zT e,zbi c,zbj e g,cT];unfold sameKey;cases ieq a[i].Tag (ix a (j:Int) zey).Tag<;>cases ieq a[i].af (ix a (j:Int) zey).af<;>rfl};{simp only [show ilt (i:Int) (i:Int)=false from qV (by omega),zbj c g,cF]};rw[zEd λj=>!sameKey a[i] (ix a (j:Int) zey),zPr (λy=>!sameKey a[i] y) a _ i 0 (by omega)];rfl};{simp only [zbh,cF]};rw[zHw<|alone a];unfold zhw zfM;cases allI (alone a) a 0<;>rfl
def zHP:vR 122 zmE:=hF1 zy9 zC zB zq zOS zN5
def z6L:zW:=[(102,zho),(122,zmE),(219,zmE)]++z6K
def zHl:zL z6L:=zh zug (zh zHP<|zh zHz zy9)
def zNL (a b:Int):igt a b = !ile a b:=by unfold igt ile;by_cases h:a<=b;{rw [qK h,qV (by omega)];rfl};{rw [qV h,qK (by omega)];rfl}
def stB {c M:Bool}{E:OA}(h:c=true->E=some [AV.one<|.b M]):(cond (cond c false true) (some [AV.one<|.b false]) E)=some [AV.one<|.b<|cond c M false]:=by cases c;{rfl};{exact h rfl}
def stI {a b:Int}{M:Bool}{E:OA}(h:ieq a b=true->E=some [AV.one<|.b M]):(cond (ine a b) (some [AV.one<|.b false]) E)=some [AV.one<|.b<|cond (ieq a b) M false]:=by rw[zxT];cases c:ieq a b;{rfl};{exact h c}
def stG {a b:Int}{M:Bool}{E:OA}(h:ile a b=true->E=some [AV.one<|.b M]):(cond (igt a b) (some [AV.one<|.b false]) E)=some [AV.one<|.b<|cond (ile a b) M false]:=by rw[zNL];cases c:ile a b;{rfl};{exact h c}
def zmB (s:k0)(p:LI):Bool:=bif zc8 s A0 then zcs p else (cond (enough s.aj 1) (ile (ln p) 0) false)
def fits (m:Mon)(j:Nat):Bool:=zmB (ix m.ae (j:Int) zba) (ix m.Out (j:Int) [])
def zeV (m:Mon):Bool:=bif zk (ln m.ac) 1 2 then (cond (ieq (ln m.ai)<|ln m.ac) (cond (zdb m.ae 8 12) (cond (ieq (ln m.Out) 8) (cond (ieq (ln m.ar) 8) (cond (ile (ln m.Outs) 40) (cond (zdH m.ak) (cond (zk m.aq 0 3) (cond (zk m.Own 0 1000000000) (cond (m.ac.all zd6) (zoN (fits m) 8 0) false) false) false) false) false) false) false) false) false) else false
def zss {t:List k0}{n p:Int}(h:zdb t n p=true):ln t=n:=by unfold zdb at h;cases a:t.all (λs=>zd3 s p);{rw [a]at h;cases h};{rw [a]at h;exact qF h}
@[simp] abbrev zgU (m:Mon):Bool:=true
@[simp] abbrev zhW (m:Mon):Bool:=zeV m
def zk7:Run:=rF1 (dT .mon) λb=>(zgU b,[aB<|zhW b])
def zPa (N:Nat)(a:Mon):OA:=
 let h:=ln a.ac; (oN (zN h 1 2)<|cond (nB<|zk h 1 2) oF<|cond (ine (ln a.ai) h) oF<|oN (zjf a.ae 8 12)<|cond (nB<|zeI a.ae 8 12) oF<|cond (ine (ln a.Out) 8) oF<|cond (ine (ln a.ar) 8) oF<|cond (igt (ln a.Outs) 40) oF<|oN (zc4 a.ak)<|cond (nB<|zfp a.ak) oF<|oN (zN a.aq 0 3)<|cond (nB<|zk a.aq 0 3) oF<|oN (zN a.Own 0 1000000000)<|cond (nB<|zk a.Own 0 1000000000) oF<|r0 (σ:=(Int×Int×Int×Int×Int×lG×lS×lM×lB×LI×lK×Unit)) N (λl b=>let a:=b.2.2.2.2.2.2.2;let i:=b.2.2.2.2.2.2.1;let g:=b.2.2.2.2.2.1;let k:=ix g b.2.1 zD; (cond (ilt b.2.1 b.1) (oN (inb b.2.1<|ln g)<|oN (zbO k)<|cond (nB<|ziS k) oF<|l (b.1,zK .i64 b.2.1 1,b.2.2.1,b.2.2.2.1,b.2.2.2.2.1,g,i,a.1,a.2.1,a.2.2.1,a.2.2.2.1,()))<|r0 (σ:=(Int×Int×Int×Int×Int×lS×lM×lB×lG×LI×lK×Unit)) N (λm c=>let a:=c.2.2.2.2.2;let d:=c.2.1;let e:=a.2.1;let f:=ix a.1 d zba;let j:=m (c.1,zK .i64 d 1,c.2.2.1,c.2.2.2.1,c.2.2.2.2.1,a.1,e,a.2.2.1,a.2.2.2.1,a.2.2.2.2.1,a.2.2.2.2.2.1,()); (cond (ilt d c.1) (oN (inb d<|ln a.1)<|oN zbU<|cond (cond (ieq f.af zbl.af) (ieq f.aj zbl.aj) false) (oN (inb d<|ln e)<|oN (zdz<|ix e d [])<|cond (nB<|zc6<|ix e d []) oF j)<|oN (zcH f.aj 1)<|cond (nB<|zdr f.aj 1) oF<|oN (inb d<|ln e)<|cond (igt (ln<|ix e d []) 0) oF j) oT)) (ln i,0,b.2.2.1,b.2.2.2.1,b.2.2.2.2.1,i,a.1,a.2.1,g,a.2.2.1,a.2.2.2.1,()))) (h,0,a.ak,a.aq,a.Own,a.ac,a.ae,a.Out,a.ar,a.Outs,a.ai,()))
def zXl:=zx [(80,0,{n:=106,tm:=[(1,.lp 0 0),(64,.sl 0 []),(65,ti),(66,ti)],lo:=[(0,[.sl 1 [],.sl 2 [],.sl 3 [],.sl 0 [],.sl 4 [],ti,ti,.sl 5 [],ti])],ro:=[(0,.guest,false),(1,.slot,false),(2,.sl .int,false),(3,.bool,false),(4,.int,false),(5,.kept,false)]}),(80,2,{n:=106,tm:=[(1,.lp 0 0),(75,.sl 0 []),(76,ti),(77,ti)],lo:=[(0,[.sl 0 [],.sl 1 [],.sl 2 [],.sl 3 [],.sl 4 [],ti,ti,.sl 5 [],ti])],ro:=[(0,.slot,false),(1,.sl .int,false),(2,.bool,false),(3,.guest,false),(4,.int,false),(5,.kept,false)]})]
def zWw (a:Mon)(l:zbT big [aT .mon a])(E:zgU a=true):∃N,zPa N a=some [aB<|zhW a]:=by
 have hg:a.ac.length<=big:=((zbp l).1 (.s .guest a.ac) (by simp[AV.cvs,Ty.cells])).len;have m:a.ae.length<=big:=((zbp l).1 (.s .slot a.ae) (by simp[AV.cvs,Ty.cells])).len;refine zcj λN d=>?_;unfold zPa zhW zeV oN nB;conv=>zeta
 refine j0 rfl (stB λw=>stI λy=>j0 rfl (stB λr=>stI λv=>stI λz=>stG λA=>j0 rfl (stB λB=>j0 rfl (stB λC=>j0 rfl (stB λD=>?_)))));have p:=zss r;have q:ln a.Out=8:=qF v;simp only[ln] at p q;refine(zbq a.ac (λi (t:Unit)=>(ln a.ac,(i:Int),a.ak,a.aq,a.Own,a.ac,a.ae,a.Out,a.ar,a.Outs,a.ai,())) _ (λ_ (x:ah) (_:Unit) g=>bif zd6 x then g () else oF) (λ(t:Unit)=>r0 (σ:=(Int×Int×Int×Int×Int×lS×lM×lB×lG×LI×lK×Unit)) N (λn c=>cond (ilt c.2.1 c.1) (cond (inb c.2.1<|ln c.2.2.2.2.2.1) (cond zbU (cond (cond (ieq (ix c.2.2.2.2.2.1 c.2.1 zba).af zbl.af) (ieq (ix c.2.2.2.2.2.1 c.2.1 zba).aj zbl.aj) false) (cond (inb c.2.1<|ln c.2.2.2.2.2.2.1) (cond (zdz<|ix c.2.2.2.2.2.2.1 c.2.1 []) (cond (cond (zc6<|ix c.2.2.2.2.2.2.1 c.2.1 []) false true) oF<|n (c.1,zK .i64 c.2.1 1,c.2.2.1,c.2.2.2.1,c.2.2.2.2.1,c.2.2.2.2.2.1,c.2.2.2.2.2.2.1,c.2.2.2.2.2.2.2.1,c.2.2.2.2.2.2.2.2.1,c.2.2.2.2.2.2.2.2.2.1,c.2.2.2.2.2.2.2.2.2.2.1,())) none) none)<|cond (zcH (ix c.2.2.2.2.2.1 c.2.1 zba).aj 1) (cond (cond (zdr (ix c.2.2.2.2.2.1 c.2.1 zba).aj 1) false true) oF<|cond (inb c.2.1<|ln c.2.2.2.2.2.2.1) (cond (igt (ln<|ix c.2.2.2.2.2.2.1 c.2.1 []) 0) oF<|n (c.1,zK .i64 c.2.1 1,c.2.2.1,c.2.2.2.1,c.2.2.2.2.1,c.2.2.2.2.2.1,c.2.2.2.2.2.2.1,c.2.2.2.2.2.2.2.1,c.2.2.2.2.2.2.2.2.1,c.2.2.2.2.2.2.2.2.2.1,c.2.2.2.2.2.2.2.2.2.2.1,())) none) none) none) none)<|some [.one<|.b true]) (ln a.ae,0,a.ak,a.aq,a.Own,a.ae,a.Out,a.ar,a.ac,a.Outs,a.ai,())) (λi h t rec=>?_) (λt rec=>?_) _ ()<|d hg).trans ?_;{simp only [zbu h,zT h,zbi h,zbj h hg,cT];simp only[zbO,ziS,cT];cases zd6 a.ac[i]<;>rfl};{simp only [zbh,cF]};rw[zhS zd6];cases a.ac.all zd6;{rfl};simp only[cT];refine(zbq a.ae (λj (u:Unit)=>(ln a.ae,(j:Int),a.ak,a.aq,a.Own,a.ae,a.Out,a.ar,a.ac,a.Outs,a.ai,())) _ (λj (_:k0) (_:Unit) g=>bif fits a j then g () else oF) (λ(u:Unit)=>some [.one<|.b true]) (λj e u f=>?_) (λu f=>?_) _ ()<|d m).trans ?_;{simp only [zbu e,zT e,zbi e,zbj e m,cT];have k:j<a.Out.length:=(by omega);simp only[zbU,zbl,zdz,zc6,zcH,zdr,zT k,zNL,cT];unfold fits zmB;simp only[zbi e,zc8];cases ieq a.ae[j].af A0.af<;>cases ieq a.ae[j].aj A0.aj<;>cases enough a.ae[j].aj 1<;>cases ile (ln<|ix a.Out (j:Int) []) 0<;>cases zcs (ix a.Out (j:Int) [])<;>rfl};{simp only [zbh,cF]};rw[zxF λj (_:Unit) g=>bif fits a j then g () else oF,zEd<|fits a,show a.ae.length=8 by omega];cases zoN (fits a) 8 0<;>rfl
def zAz:vR 80 zk7:=hF1 zHl zC zB zq zXl zWw
def zPj (N:Nat)(c:Mon):OA:=
 (oN (zN (ln c.ac) 1 2)<|cond (nB<|zk (ln c.ac) 1 2) oF<|cond (ine (ln c.ai)<|ln c.ac) oF<|oN (zjf c.ae 8 12)<|cond (nB<|zeI c.ae 8 12) oF<|cond (ine (ln c.Out) 8) oF<|cond (ine (ln c.ar) 8) oF<|r0 (σ:=(Int×Int×Int×Int×lS×lM×lB×lG×LI×lK×Unit)) N (λl b=>let c:=b.2.2.2.2;let n:=c.2.2.2.2;let d:=c.2.2.2.1; (cond (ilt b.1<|ln d) (oN (inb b.1<|ln d)<|oN (zbO<|ix d b.1 zD)<|cond (nB<|ziS<|ix d b.1 zD) oF<|l (zK .i64 b.1 1,b.2.1,b.2.2.1,b.2.2.2.1,c.1,c.2.1,c.2.2.1,d,n.1,n.2.1,()))<|r0 (σ:=(Int×Int×Int×Int×lS×lM×lB×lG×LI×lK×Unit)) N (λm a=>let b:=a.2.2.2.2.2;let h:=a.2.2.2.2.1;let i:=inb a.1<|ln b.1;let e:=ix b.1 a.1 [];let g:=ix h a.1 zba;let k:=ieq g.aj zbl.aj;let j:=ieq g.af zbl.af;let f:=m (zK .i64 a.1 1,a.2.1,a.2.2.1,a.2.2.2.1,h,b.1,b.2.1,b.2.2.1,b.2.2.2.1,b.2.2.2.2.1,()); (cond (ilt a.1 8) (oN (inb a.1<|ln h)<|oN zbU<|cond (nB<|cond j k false) (oN i<|cond (igt (ln e) 0) oF<|oN (inb a.1<|ln h)<|oN (zcH g.aj 1)<|cond (nB<|zdr g.aj 1) oF<|cond (nB<|nB<|cond j k false) (oN i<|oN (zdz e)<|cond (nB<|zc6 e) oF f) f)<|cond (nB<|nB<|cond j k false) (oN i<|oN (zdz e)<|cond (nB<|zc6 e) oF f) f)<|cond (ile (ln b.2.2.2.1) 40) (oN (zc4 a.2.1)<|cond (zfp a.2.1) (oN (zN a.2.2.1 0 3)<|cond (zk a.2.2.1 0 3) (oN (zN a.2.2.2.1 0 1000000000)<|some [aB<|zk a.2.2.2.1 0 1000000000]) oF) oF) oF)) (0,b.2.1,b.2.2.1,b.2.2.2.1,c.1,c.2.1,c.2.2.1,d,n.1,n.2.1,()))) (0,c.ak,c.aq,c.Own,c.ae,c.Out,c.ar,c.ac,c.Outs,c.ai,()))
def zXn:=zx [(81,0,{n:=115,tm:=[(1,.lp 0 0),(3,ti)],lo:=[(0,[.sl 0 [],.sl 1 [],.sl 2 [],.sl 3 [],.sl 4 [],ti,ti,.sl 5 [],ti])],ro:=[(0,.slot,false),(1,.sl .int,false),(2,.bool,false),(3,.guest,false),(4,.int,false),(5,.kept,false)]}),(81,2,{n:=115,tm:=[(1,.lp 0 0),(4,ti)],lo:=[(0,[.sl 0 [],.sl 1 [],.sl 2 [],.sl 3 [],.sl 4 [],ti,ti,.sl 5 [],ti])],ro:=[(0,.slot,false),(1,.sl .int,false),(2,.bool,false),(3,.guest,false),(4,.int,false),(5,.kept,false)]})]
def zWE (c:Mon)(r:zbT big [aT .mon c])(A:zgU c=true):∃N,zPj N c=some [aB<|zhW c]:=by
 have hg:c.ac.length<=big:=((zbp r).1 (.s .guest c.ac) (by simp[AV.cvs,Ty.cells])).len;refine zcj λN d=>?_;unfold zPj zhW zeV oN nB;conv=>zeta
 refine j0 rfl (stB λw=>stI λy=>j0 rfl (stB λp=>stI λq=>stI λz=>?_));have m:=zss p;have n:ln c.Out=8:=qF q;simp only[ln] at m n;refine(zbq c.ac (λi (t:Unit)=>((i:Int),c.ak,c.aq,c.Own,c.ae,c.Out,c.ar,c.ac,c.Outs,c.ai,())) _ (λ_ (x:ah) (_:Unit) l=>bif zd6 x then l () else oF) (λ(t:Unit)=>r0 (σ:=(Int×Int×Int×Int×lS×lM×lB×lG×LI×lK×Unit)) N (λh a=>cond (ilt a.1 8) (cond (inb a.1<|ln a.2.2.2.2.1) (cond zbU (cond (cond (cond (ieq (ix a.2.2.2.2.1 a.1 zba).af zbl.af) (ieq (ix a.2.2.2.2.1 a.1 zba).aj zbl.aj) false) false true) (cond (inb a.1<|ln a.2.2.2.2.2.1) (cond (igt (ln<|ix a.2.2.2.2.2.1 a.1 []) 0) oF<|cond (inb a.1<|ln a.2.2.2.2.1) (cond (zcH (ix a.2.2.2.2.1 a.1 zba).aj 1) (cond (cond (zdr (ix a.2.2.2.2.1 a.1 zba).aj 1) false true) oF<|cond (cond (cond (cond (ieq (ix a.2.2.2.2.1 a.1 zba).af zbl.af) (ieq (ix a.2.2.2.2.1 a.1 zba).aj zbl.aj) false) false true) false true) (cond (inb a.1<|ln a.2.2.2.2.2.1) (cond (zdz<|ix a.2.2.2.2.2.1 a.1 []) (cond (cond (zc6<|ix a.2.2.2.2.2.1 a.1 []) false true) oF<|h (zK .i64 a.1 1,a.2.1,a.2.2.1,a.2.2.2.1,a.2.2.2.2.1,a.2.2.2.2.2.1,a.2.2.2.2.2.2.1,a.2.2.2.2.2.2.2.1,a.2.2.2.2.2.2.2.2.1,a.2.2.2.2.2.2.2.2.2.1,())) none) none)<|h (zK .i64 a.1 1,a.2.1,a.2.2.1,a.2.2.2.1,a.2.2.2.2.1,a.2.2.2.2.2.1,a.2.2.2.2.2.2.1,a.2.2.2.2.2.2.2.1,a.2.2.2.2.2.2.2.2.1,a.2.2.2.2.2.2.2.2.2.1,())) none) none) none)<|cond (cond (cond (cond (ieq (ix a.2.2.2.2.1 a.1 zba).af zbl.af) (ieq (ix a.2.2.2.2.1 a.1 zba).aj zbl.aj) false) false true) false true) (cond (inb a.1<|ln a.2.2.2.2.2.1) (cond (zdz<|ix a.2.2.2.2.2.1 a.1 []) (cond (cond (zc6<|ix a.2.2.2.2.2.1 a.1 []) false true) oF<|h (zK .i64 a.1 1,a.2.1,a.2.2.1,a.2.2.2.1,a.2.2.2.2.1,a.2.2.2.2.2.1,a.2.2.2.2.2.2.1,a.2.2.2.2.2.2.2.1,a.2.2.2.2.2.2.2.2.1,a.2.2.2.2.2.2.2.2.2.1,())) none) none)<|h (zK .i64 a.1 1,a.2.1,a.2.2.1,a.2.2.2.1,a.2.2.2.2.1,a.2.2.2.2.2.1,a.2.2.2.2.2.2.1,a.2.2.2.2.2.2.2.1,a.2.2.2.2.2.2.2.2.1,a.2.2.2.2.2.2.2.2.2.1,())) none) none)<|cond (ile (ln a.2.2.2.2.2.2.2.2.1) 40) (cond (zc4 a.2.1) (cond (zfp a.2.1) (cond (zN a.2.2.1 0 3) (cond (zk a.2.2.1 0 3) (cond (zN a.2.2.2.1 0 1000000000) (some [.one<|.b<|zk a.2.2.2.1 0 1000000000]) none) oF) none) oF) none) oF) (0,c.ak,c.aq,c.Own,c.ae,c.Out,c.ar,c.ac,c.Outs,c.ai,())) (λi g t rec=>?_) (λt rec=>?_) _ ()<|d hg).trans ?_;{simp only [zbu g,zT g,zbi g,zbj g hg,cT];simp only[zbO,ziS,cT];cases zd6 c.ac[i]<;>rfl};{simp only [zbh,cF]};rw[zhS zd6];cases B:c.ac.all zd6;{simp only [cF];cases ile (ln c.Outs) 40<;>cases zdH c.ak<;>cases zk c.aq 0 3<;>cases zk c.Own 0 1000000000<;>rfl};simp only[cT];refine(zId 8 (λj (u:Unit)=>((j:Int),c.ak,c.aq,c.Own,c.ae,c.Out,c.ar,c.ac,c.Outs,c.ai,())) _ (λj (_:Unit) l=>bif fits c j then l () else oF) (λ(u:Unit)=>cond (ile (ln c.Outs) 40) (cond (zc4 c.ak) (cond (zfp c.ak) (cond (zN c.aq 0 3) (cond (zk c.aq 0 3) (cond (zN c.Own 0 1000000000) (some [.one<|.b<|zk c.Own 0 1000000000]) none) oF) none) oF) none) oF) (λj v u f=>?_) (λu f=>?_) _ ()<|d (by decide)).trans ?_;{simp only [show ilt (j:Int) 8=true from qK (by omega),zbj v (show 8<=big by decide),cT];have e:j<c.ae.length:=(by omega);have k:j<c.Out.length:=(by omega);simp only[zbU,zbl,zdz,zc6,zcH,zdr,zT e,zT k,zNL,cT];unfold fits zmB;simp only[zbi e,zc8];cases ieq c.ae[j].af A0.af<;>cases ieq c.ae[j].aj A0.aj<;>cases enough c.ae[j].aj 1<;>cases ile (ln<|ix c.Out (j:Int) []) 0<;>cases zcs (ix c.Out (j:Int) [])<;>rfl};{simp only [show ilt ((8:Nat):Int) 8=false from qV (by omega),cF];rfl};rw[zEd<|fits c];simp only[zc4,zfp,zN,zSm,cT];cases zoN (fits c) 8 0<;>cases ile (ln c.Outs) 40<;>cases zdH c.ak<;>cases zk c.aq 0 3<;>cases zk c.Own 0 1000000000<;>rfl
def zAC:vR 81 zk7:=hF1 zHl zC zB zq zXn zWE
def z6M:zW:=[(81,zk7),(80,zk7)]++z6L
def zHm:zL z6M:=zh zAC (zh zAz zHl)
def zhu:List k0->List Bool->Option (List Bool)
 |[],u=>some u
 |s::l,u=>bif ilt s.af 0 then zhu l u else (cond (ix u s.af false) none<|zhu l<|up u s.af true)
def zjB:List Mon->List Bool->Bool
 |[],_=>true
 |m::l,u=>bif zeV m then (match zhu m.ae u with|some a=>zjB l a|none=>false) else false
def zcc (h:ad):Bool:=bif ziK h.ag 12 then (cond (zk (ln h.aa) 1 3) (cond (zfM h.ao) (cond (zfM h.an) (zjB h.aa<|rp 12 false) false) false) false) else false
def zqe:∀(l:List k0) (u a:List Bool),zhu l u=some a->a.length=u.length
 |[],u,a,h=>by cases h;rfl
 |s::l,u,a,h=>by simp only[zhu]at h;cases b:ilt s.af 0;{rw [b]at h;cases c:ix u s.af false;{rw [c]at h;simpa using zqe l _ a h};{rw [c]at h;cases h}};{rw [b]at h;exact zqe l u a h}
def zEr {t:List k0}{n:Int}(h:zdb t n 12=true):∀s∈t,s.af<12:=by intro s d;unfold zdb at h;cases b:t.all (λs=>zd3 s 12);{rw [b]at h;cases h};{have:=qN.1 b s d;unfold zd3 at this;cases a:zc8 s A0;{rw [a] at this;simp only[cF,show igt 12 0=true from rfl,cT] at this;cases c:zk s.af 0 (wsub .i64 12 1);{rw [c] at this;cases this};{have:=(zgA.1 c).2;rw[show wsub .i64 12 1=11 from rfl] at this;omega}};{unfold zc8 at a;rw[qE]at a;have a:s.af = -1:=qF a.1;omega}}
def zVV {s:k0}{u:List Bool}(h:s.af<12)(b:u.length=12)(a:ilt s.af 0=false):inb s.af (ln u)=true:=by have:=jY a;exact qK (by simp only[ln];omega)
def ztX {a:Type}(r:Option a)(y:k0)(u:List Bool)(b:List Bool->Option a):Option a:=bif ilt y.af 0 then b u else (cond (inb y.af<|ln u) (cond (ix u y.af false) r<|cond (inb y.af<|ln u) (p0 (up u y.af true) λc=>b c) none) none)
def zzk {c:Type}(r:Option c)(K:List Bool->Option c):∀(l:List k0) (i:Nat) (u:List Bool),(∀s∈l,s.af<12)->u.length=12->
 goL (λ_ y u g=>ztX r y u g) K l i u=match zhu l u with|some f=>K f|none=>r
 |[],_,_,_,_=>rfl
 |s::l,i,u,h,b=>by simp only[goL,zhu,ztX];cases d:ilt s.af 0;{have e:=zVV (h s (by simp)) b d;rw[e];cases ix u s.af false;{simp only [cF,cT,p0];exact zzk r K l (i+1) _ (λs a=>h s (by simp[a])) (by simpa using b)};{rfl}};{simp only [cT];exact zzk r K l (i+1) u (λs a=>h s (by simp[a])) b}
def zYE {b:Type}(r:Option b)(m:Mon)(u:List Bool)(a:List Bool->Option b):Option b:=bif zeV m then goL (λ_ y u a=>ztX r y u a) a m.ae 0 u else r
def zdj {c x:Bool}:((cond c x false)=true)↔c=true/\x=true:=by cases c<;>simp
def znf {m:Mon}(h:zeV m=true):zdb m.ae 8 12=true:=by unfold zeV at h;simp only[zdj]at h;exact h.2.2.1
def zTg {K:Bool->OA}(k:List Bool->OA)(a:∀u,k u=K true):∀(l:List Mon) (i:Nat) (u:List Bool),u.length=12->
 goL (λ_ m u g=>zYE (K false) m u g) k l i u=K (zjB l u)
 |[],_,u,_=>a u
 |m::l,i,u,b=>by simp only[goL,zjB,zYE];cases c:zeV m;{rfl};{simp only [cT];have e:=znf c;rw[zzk _ _ _ _ _ (zEr e) b];cases d:zhu m.ae u with|none=>rfl|some f=>exact zTg k a l (i+1) f ((zqe _ _ _ d).trans b)}
@[simp] abbrev zeb (h:ad):Bool:=true
@[simp] abbrev zea (h:ad):Bool:=zcc h
def zjL:Run:=rF1 dH λb=>(zeb b,[aB<|zea b])
def zI4 (N:Nat)(c:ad):OA:=
 (oN (zl2 c.ag 12)<|cond (nB<|zgv c.ag 12) oF<|oN (zN (ln c.aa) 1 3)<|cond (nB<|zk (ln c.aa) 1 3) oF<|oN (zh6 c.ao)<|cond (nB<|zhw c.ao) oF<|oN (zh6 c.an)<|cond (nB<|zhw c.an) oF<|oN (cond (few 12) (ieq 12 12) false)<|r0 (σ:=(Int×Int×lB×lN×Unit)) N (λk b=>let h:=ix b.2.2.2.1 b.2.1 zi; (cond (ilt b.2.1 b.1) (oN (inb b.2.1<|ln b.2.2.2.1)<|oN (zgU h)<|cond (nB<|zhW h) oF<|r0 (σ:=(Int×Int×Int×Int×Int×lB×lN×Unit)) N (λi a=>let f:=a.2.2.2.2.1;let g:=a.2.2.2.2.2.2.1;let j:=(ix g a.2.2.1 zi).ae;let d:=a.2.2.2.2.2.1;let e:=(ix j f zba).af; (cond (ilt f a.2.2.2.1) (oN (inb f<|ln j)<|cond (ilt e 0) (i (a.1,a.2.1,a.2.2.1,a.2.2.2.1,zK .i64 f 1,d,g,()))<|oN (inb e<|ln d)<|cond (ix d e false) oF<|oN (inb e<|ln d)<|p0 (up d e true) λl=>i (a.1,a.2.1,a.2.2.1,a.2.2.2.1,zK .i64 f 1,l,g,()))<|k (a.1,zK .i64 a.2.1 1,d,g,()))) (b.1,b.2.1,b.2.1,ln h.ae,0,b.2.2.1,b.2.2.2.1,())) oT)) (ln c.aa,0,rp 12 false,c.aa,()))
def zVw:=zx [(82,0,{n:=63,tm:=[(3,.sl 0 []),(33,.sl 1 []),(34,ti),(35,ti)],lo:=[],ro:=[(0,.bool,true),(1,.mon,false)]}),(82,2,{n:=63,tm:=[(3,.sl 0 []),(33,.sl 1 []),(34,ti),(35,ti),(43,.sl 1 [0]),(44,ti),(45,ti)],lo:=[],ro:=[(0,.bool,true),(1,.mon,false)]})]
def zTE (a:ad)(n:zbT big [aH a])(w:zeb a=true):∃N,zI4 N a=some [aB<|zea a]:=by
 have l:CVB big (.s .mon a.aa):=(zbp n).1 _ (by simp[AV.cvs,zbo]);have g:=l.len;refine zcj λN d=>?_;unfold zI4 zea zcc oN nB;conv=>zeta
 refine j0 rfl (stB λp=>j0 rfl (stB λq=>j0 rfl (stB λr=>j0 rfl (stB λv=>j0 rfl ?_))));refine(zbq a.aa (λi (t:lB)=>(ln a.aa,(i:Int),t,a.aa,())) _ (λ_ (x:Mon) (u:List Bool) h=>zYE (oF) x u h) (λ(t:lB)=>some [.one<|.b true]) (λi c t rec=>?_) (λt rec=>?_) _ (rp 12 false)<|d g).trans ?_;{simp only [zbu c,zT c,zbi c,zbj c g,cT];unfold zYE;cases k:zeV a.aa[i];{simp only [zgU,zhW,k,cT,cF]};simp only[zgU,zhW,k,cT,cF];have m:a.aa[i].ae.length<=big:=(l.inv.2 _ (jK c) (.s .slot _) (by simp[Ty.cells])).len;refine(zbq a.aa[i].ae (λj (u:lB)=>(ln a.aa,(i:Int),(i:Int),ln a.aa[i].ae,(j:Int),u,a.aa,())) _ (λ_ (y:k0) (u:List Bool) h=>ztX (oF) y u h) (λ(u:lB)=>rec (ln a.aa,((i+1:Nat):Int),u,a.aa,())) (λj f u e=>?_) (λu e=>?_) _ (t)<|d m).trans ?_;{simp only [zbu f,zT f,zbi f,zbj f m,cT,zT c,zbi c,zbj c g];rfl};{simp only [zbh,cF,zT c,zbi c,zbj c g]};rfl};{simp only [zbh,cF]};exact zTg (K:=λb=>some [AV.one<|.b b]) _ (λ_=>rfl) _ _ _ rfl
def zxI:vR 82 zjL:=hF1 zHm zC zB zq zVw zTE
def zHx {e:Type}(r:Option e)(k:List Bool->Option e)(m:Mon):∀(n i:Nat) (u:List Bool),(∀s∈m.ae,s.af<12)->u.length=12->i+n=m.ae.length->
 goN (λj u d=>bif inb (j:Int) (ln m.ae) then ztX r (ix m.ae (j:Int) zba) u d else none) k n i u=goL (λ_ y u d=>ztX r y u d) k (m.ae.drop i) i u
 | 0,i,u,_,_,h=>by have:i=m.ae.length:=(by omega);subst this;simp[goN,goL]
 |n+1,i,u,b,c,h=>by have a:i<m.ae.length:=(by omega);rw[kB a];simp only[goN,goL,zT a,zbi a,cT,ztX];cases f:ilt m.ae[i].af 0;{rw [zVV (b _<|jK a) c f];cases ix u m.ae[i].af false;{simp only [cF,cT,p0];exact zHx r k m n (i+1) _ b (by simpa using c) (by omega)};{rfl}};{simp only [cT];exact zHx r k m n (i+1) u b c (by omega)}
def zJi (N:Nat)(b:ad):OA:=
 (oN (zl2 b.ag 12)<|cond (nB<|zgv b.ag 12) oF<|oN (zN (ln b.aa) 1 3)<|cond (nB<|zk (ln b.aa) 1 3) oF<|oN (zh6 b.ao)<|cond (nB<|zhw b.ao) oF<|oN (zh6 b.an)<|cond (nB<|zhw b.an) oF<|oN (cond (few 12) (ieq 12 12) false)<|r0 (σ:=(Int×lB×lM×lN×lE×lE×Unit)) N (λq c=>let n:=ix c.2.2.2.1 c.1 zi; (cond (ilt c.1<|ln c.2.2.2.1) (oN (inb c.1<|ln c.2.2.2.1)<|oN (zgU n)<|cond (nB<|zhW n) oF<|r0 (σ:=(Int×Int×lB×lM×lN×lE×lE×Unit)) N (λi a=>let k:=zK .i64 a.2.1 1;let h:=a.2.2.2.2.2.1;let g:=a.2.2.2.2.2.2.1;let f:=a.2.2.1;let e:=a.2.2.2.2.1;let p:=(ix e a.1 zi).ae;let m:=i (a.1,k,f,a.2.2.2.1,e,h,g,());let d:=(ix p a.2.1 zba).af;let l:=inb d<|ln f; (cond (ilt a.2.1 8) (oN (inb a.1<|ln e)<|oN (inb a.2.1<|ln p)<|cond (ige d 0) (oN l<|cond (ix f d false) oF<|cond (ige d 0) (oN l<|p0 (up f d true) λj=>i (a.1,k,j,a.2.2.2.1,e,h,g,())) m)<|cond (ige d 0) (oN l<|p0 (up f d true) λj=>i (a.1,k,j,a.2.2.2.1,e,h,g,())) m)<|q (zK .i64 a.1 1,f,a.2.2.2.1,e,h,g,()))) (c.1,0,c.2.1,c.2.2.1,c.2.2.2.1,c.2.2.2.2.1,c.2.2.2.2.2.1,())) oT)) (0,rp 12 false,b.ag,b.aa,b.ao,b.an,()))
def zVE:=zx [(28,0,{n:=72,tm:=[(1,.lp 0 0),(3,.sl 0 []),(4,ti)],lo:=[(0,[.sl 1 [],.sl 2 [],.sl 3 [],.sl 4 []])],ro:=[(0,.bool,true),(1,.sl .int,false),(2,.mon,false),(3,.entry,false),(4,.entry,false)]}),(28,2,{n:=72,tm:=[(1,.lp 0 0),(3,.sl 0 []),(4,ti),(5,ti)],lo:=[(0,[.sl 1 [],.sl 2 [],.sl 3 [],.sl 4 []])],ro:=[(0,.bool,true),(1,.sl .int,false),(2,.mon,false),(3,.entry,false),(4,.entry,false)]})]
def zTS (a:ad)(y:zbT big [aH a])(F:zeb a=true):∃N,zJi N a=some [aB<|zea a]:=by
 have A:CVB big (.s .mon a.aa):=(zbp y).1 _ (by simp[AV.cvs,zbo]);have h:=A.len;refine zcj λN f=>?_;unfold zJi zea zcc oN nB;conv=>zeta
 refine j0 rfl (stB λD=>j0 rfl (stB λq=>j0 rfl (stB λr=>j0 rfl (stB λE=>j0 rfl ?_))));refine(zbq a.aa (λi (t:lB)=>((i:Int),t,a.ag,a.aa,a.ao,a.an,())) _ (λ_ (x:Mon) (u:List Bool) d=>bif zeV x then goN (λj u d=>bif inb (j:Int) (ln x.ae) then ztX (oF) (ix x.ae (j:Int) zba) u d else none) d 8 0 u else oF) (λ(t:lB)=>some [.one<|.b true]) (λi c t rec=>?_) (λt rec=>?_) _ (rp 12 false)<|f h).trans ?_;{simp only [zbu c,zT c,zbi c,zbj c h,cT];cases v:zeV a.aa[i];{simp only [zgU,zhW,v,cT,cF]};simp only[zgU,zhW,v,cT,cF];refine(zId 8 (λj (u:lB)=>((i:Int),(j:Int),u,a.ag,a.aa,a.ao,a.an,())) _ (λj (u:List Bool) d=>bif inb (j:Int) (ln a.aa[i].ae) then ztX (oF) (ix a.aa[i].ae (j:Int) zba) u d else none) (λ(u:lB)=>rec (((i+1:Nat):Int),u,a.ag,a.aa,a.ao,a.an,())) (λj z u g=>?_) (λu g=>?_) _ (t)<|f (by decide)).trans ?_;{simp only [show ilt (j:Int) 8=true from qK (by omega),zbj z (show 8<=big by decide),cT,zT c,zbi c,zbj c h];unfold ztX;have e:ige (ix a.aa[i].ae (j:Int) zba).af 0 = !ilt (ix a.aa[i].ae (j:Int) zba).af 0:=(by rw[z8T,Bool.not_not]);simp only[e];cases ilt (ix a.aa[i].ae (j:Int) zba).af 0<;>cases inb (j:Int) (ln a.aa[i].ae)<;>cases inb (ix a.aa[i].ae (j:Int) zba).af (ln u)<;>cases ix u (ix a.aa[i].ae (j:Int) zba).af false<;>rfl};{simp only [show ilt ((8:Nat):Int) 8=false from qV (by omega),cF,zT c,zbi c,zbj c h]};rfl};{simp only [zbh,cF]};have p:∀(l:List Mon) (i:Nat) (u:List Bool),u.length=12->goL (λ_ (x:Mon) (u:List Bool) d=>bif zeV x then goN (λj u d=>bif inb (j:Int) (ln x.ae) then ztX (oF) (ix x.ae (j:Int) zba) u d else none) d 8 0 u else oF) (λ_=>oT) l i u=some [AV.one<|.b<|zjB l u]:=(by intro l;induction l with|nil=>intro i u _;rfl|cons m l B=>intro i u n;simp only[goL,zjB];cases q:zeV m;{rfl};{have k:=znf q;have w:0+8=m.ae.length:=(by have:=zss k;simp only[ln] at this;omega);simp only[cT];rw[zHx _ _ m 8 0 u (zEr k) n w,vB,zzk _ _ _ _ _ (zEr k) n];cases r:zhu m.ae u with|none=>rfl|some C=>exact B (i+1) C ((zqe _ _ _ r).trans n)});exact p _ _ _ rfl
def zxL:vR 28 zjL:=hF1 zHm zC zB zq zVE zTS
def z6N:zW:=[(28,zjL),(82,zjL)]++z6M
def zHn:zL z6N:=zh zxL (zh zxI zHm)
def zZk {h:ad}(a:zcc h=true):(h.aa.length:Int)<=3:=by unfold zcc at a;simp only[zdj]at a;exact(zgA.1 a.2.1).2
def zc2 (h:ad)(m:Int):Bool:=bif zcc h then i0 m (ln h.aa) else false
def zcI (h:ad)(m p:Int):Bool:=bif zcc h then (cond (i0 m<|ln h.aa) (i0 p 8) false) else false
def zO6 {h:ad}(a:zcc h=true)(m:Int):zk m 0 (wsub .i64 (ln h.aa) 1)=i0 m (ln h.aa):=zrd (by have:=zZk a;omega) m
def win7 (p:Int):zk p 0 7=i0 p 8:=by unfold zk ige ile i0;by_cases a:0<=p<;>by_cases b:p<8;{rw [qK (p:=p≥0) (by omega),qK (p:=p<=7) (by omega),qK (p:=0<=p/\p<8) ⟨a,b⟩];rfl};{rw [qV (p:=p<=7) (by omega),qV (p:=0<=p/\p<8) (by omega)];simp};{rw [qV (p:=p≥0) (by omega),qV (p:=0<=p/\p<8) (by omega)];simp};{rw [qV (p:=p≥0) (by omega),qV (p:=0<=p/\p<8) (by omega)];simp}
@[simp] abbrev zf4 (h:ad)(m:Int):Bool:=true
@[simp] abbrev zf3 (h:ad)(m:Int):Bool:=zc2 h m
def zDy:Run:=rF2 dH dI λb c=>(zf4 b c,[aB<|zf3 b c])
def zJB (N:Nat)(a:ad)(b:Int):OA:=
 (oN (zeb a)<|cond (zea a) (oN (zN b 0<|wsub .i64 (ln a.aa) 1)<|some [aB<|zk b 0<|wsub .i64 (ln a.aa) 1]) oF)
def zUc (a:ad)(b:Int)(d:zf4 a b=true):∃N,zJB N a b=some [aB<|zf3 a b]:=by refine⟨0,?_⟩;unfold zJB zf3 zc2 oN;cases c:zcc a;{simp only [zeb,zea,c,cT,cF]};{simp only [zeb,zea,c,cT,zN,zSm,zO6 c]}
def zNH:vR 331 zDy:=kF2 zHn zC zB zq (zx []) zUc
@[simp] abbrev zoE (h:ad)(m p:Int):Bool:=true
@[simp] abbrev zga (h:ad)(m p:Int):Bool:=zcI h m p
def zGL:Run:=rF3 dH dI dI λb c d=>(zoE b c d,[aB<|zga b c d])
def zPp (N:Nat)(a:ad)(b c:Int):OA:=
 (oN (zeb a)<|cond (zea a) (oN (zN b 0<|wsub .i64 (ln a.aa) 1)<|cond (zk b 0<|wsub .i64 (ln a.aa) 1) (oN (zN c 0 7)<|some [aB<|zk c 0 7]) oF) oF)
def zWK (a:ad)(b c:Int)(e:zoE a b c=true):∃N,zPp N a b c=some [aB<|zga a b c]:=by refine⟨0,?_⟩;unfold zPp zga zcI oN;cases d:zcc a;{simp only [zeb,zea,d,cT,cF]};{simp only [zeb,zea,d,cT,zN,zSm,zO6 d,win7];cases i0 b (ln a.aa)<;>rfl}
def zQQ:vR 182 zGL:=kF3 zHn zC zB zq (zx []) zWK
def z6O:zW:=[(331,zDy),(182,zGL)]++z6N
def zSW:zL z6O:=zh zNH (zh zQQ zHn)
def zdQ (k:ax)(p:Int):Bool:=bif i0 p (ln k.ay) then i0 p (ln k.aA) else false
def zbW (k:ax)(p:Int):ax:=bif zdQ k p then ⟨up k.ay p false,up k.aA p A0⟩ else k
@[simp] def zqd {k:ax}{p:Int}(h:SmK k):SmK (zbW k p):=by unfold zbW;cases zdQ k p;{exact h};{exact⟨by simpa using h.1,by simpa using h.2⟩}
def has_lt {p:Int}{n m:Int}(h:i0 p n=true):ilt p m=i0 p m:=by have h:=qF h;unfold ilt i0;by_cases a:p<m;{rw [qK a,qK ⟨h.1,a⟩]};{rw [qV a,qV (by omega)]}
@[simp] abbrev zdB (k:ax)(p:Int):Bool:=pc (SmK k)
@[simp] abbrev zji (k:ax)(p:Int):Bool:=zdQ k p
def zDx:Run:=rF2 (dT .kept) dI λb c=>(zdB b c,[aB<|zji b c])
def zJz (N:Nat)(a:ax)(b:Int):OA:=
 (oN (zN b 0<|wsub .i64 (ln a.ay) 1)<|cond (zk b 0<|wsub .i64 (ln a.ay) 1) (some [aB<|ilt b<|ln a.aA]) oF)
def zT9 (a:ax)(b:Int)(c:zdB a b=true):∃N,zJz N a b=some [aB<|zji a b]:=by have e:=zS.1 c;refine⟨0,?_⟩;unfold zJz zji zdQ oN;simp only[zN,zSm,zrd e.1,cT];cases d:i0 b (ln a.ay);{rfl};{simp only [cT,has_lt d]}
def zNy:vR 389 zDx:=kF2 zSW zC zB zq (zx []) zT9
def z6P:zW:=[(389,zDx)]++z6O
def zHo:zL z6P:=zh zNy zSW
@[simp] abbrev zhq (k:ax)(p:Int):ax:=zbW k p
def zph:Run:=rF2 (dT .kept) dI λb c=>(zdB b c,[aT .kept<|zhq b c])
def zJg (N:Nat)(c:ax)(b:Int):OA:=
 let a:=zdK c; (oN (zgM c)<|oN (zdB a b)<|cond (zji a b) (oN (inb b<|ln a.ay)<|p0 (up a.ay b false) λd=>oN zbU<|oN (inb b<|ln a.aA)<|p0 (up a.aA b zbl) λe=>some [aT .kept (⟨d,e⟩:ax)])<|some [aT .kept a])
def zTQ (a:ax)(b:Int)(g:zdB a b=true):∃N,zJg N a b=some [aT .kept<|zhq a b]:=by
 have d:=zS.1 g;refine⟨0,?_⟩;unfold zJg zhq oN;conv=>zeta
 refine j0 (zbL<|(zxy _).2 d) (j0 (zbL d) ?_);unfold zbW;cases c:zdQ a b;{simp only [zji,zdK,c,cF]};{simp only [zji,zdK,c,cT];unfold zdQ at c;obtain⟨e,f⟩:=zdj.1 c;simp only[zTu,e,f,cT,p0,zbU]}
def zNh:vR 334 zph:=kF2 zHo zC zB zq (zx []) zTQ
def zI2 (N:Nat)(b:ax)(a:Int):OA:=
 let c:=zed b; (oN (zfc b)<|oN (zcH a<|ln b.ay)<|cond (zkf a<|ln b.ay) (oN (zcH a<|ln b.aA)<|cond (zkf a<|ln b.aA) (oN (inb a<|ln c.ay)<|p0 (up c.ay a false) λd=>oN zbU<|oN (inb a<|ln c.aA)<|p0 (up c.aA a zbl) λe=>some [aT .kept (⟨d,e⟩:ax)])<|some [aT .kept c])<|some [aT .kept c])
def zTC (a:ax)(b:Int)(c:zdB a b=true):∃N,zI2 N a b=some [aT .kept<|zhq a b]:=by
 have d:=zS.1 c;refine⟨0,?_⟩;unfold zI2 zhq oN;conv=>zeta
 refine j0 (zbL d) (j0 rfl ?_);unfold zbW zdQ;simp only[zkf,zcH,zed,zTu,p0,zbU,cT];cases i0 b (ln a.ay);{rfl};{cases i0 b (ln a.aA)<;>rfl}
def zM2:vR 305 zph:=kF2 zHo zC zB zq (zx []) zTC
def z6Q:zW:=[(334,zph),(305,zph)]++z6P
def zt0:zL z6Q:=zh zNh (zh zM2 zHo)
def ze5 (k:ax)(l:LI):ax:=l.foldl zbW k
def zYg:∀(l:LI) {k:ax},SmK k->SmK (ze5 k l)
 |[],_,h=>h
 |p::l,k,h=>zYg l (zqd (p:=p) h)
def zzj {b:Type}(K:List Bool×List k0->Option b):∀(l:LI) (i:Nat) (k:ax),SmK k->
 goL (λ_ x (t:List Bool×List k0) a=>bif pc (SmK ⟨t.1,t.2⟩) then a ((zbW ⟨t.1,t.2⟩ x).ay,(zbW ⟨t.1,t.2⟩ x).aA) else none) K l i (k.ay,k.aA)=K ((ze5 k l).ay,(ze5 k l).aA)
 |[],_,_,_=>rfl
 |x::l,i,k,h=>by have e:pc (SmK ⟨k.ay,k.aA⟩)=true:=zbL h;simp only[goL,e,cT];exact zzj K l (i+1) (zbW k x) (zqd h)
def zDS (l:List k0)(p:Int):LI:=idxs (λ(s:k0)=>ieq s.af p) l 0
def zkb (k:ax)(l:List k0)(p:Int):ax:=ze5 k (zDS l p)
def z5I {k:ax}(l:List k0)(p:Int)(h:SmK k):SmK (zkb k l p):=zYg _ h
@[simp] abbrev zh0 (k:ax)(l:List k0)(p:Int):Bool:=pc (SmK k/\l.length<=1048576)
@[simp] abbrev zl0 (k:ax)(l:List k0)(p:Int):ax:=zkb k l p
def zkm:Run:=rF3 (dT .kept) (dS .slot) dI λb c d=>(zh0 b c d,[aT .kept<|zl0 b c d])
def zxt (N:Nat)(c:ax)(e:lS)(f:Int):OA:=
 (oN (zgM c)<|oN (zpK e f)<|r0 (σ:=(Int×LI×lB×lS×lB×lS×Unit)) N (λg a=>let d:=ix a.2.1 a.1 0;let b:=(⟨a.2.2.1,a.2.2.2.1⟩:ax); (cond (ilt a.1<|ln a.2.1) (oN (inb a.1<|ln a.2.1)<|oN (zdB b d)<|g (zK .i64 a.1 1,a.2.1,(zhq b d).ay,(zhq b d).aA,a.2.2.2.2.1,a.2.2.2.2.2.1,()))<|some [aT .kept b])) (0,zgw e f,(zdK c).ay,(zdK c).aA,[],[],()))
def zIW:=zx [(445,0,{n:=27,tm:=[(3,.lp 0 0),(6,.lp 1 0),(7,.sl 0 []),(8,ti)],lo:=[(0,[.sl 1 [],.sl 2 []]),(1,[.sl 3 [],.sl 4 []])],ro:=[(0,.int,true),(1,.bool,true),(2,.slot,true),(3,.bool,true),(4,.slot,true)]})]
def zIo (b:ax)(a:List k0)(c:Int)(j:zh0 b a c=true):∃N,zxt N b a c=some [aT .kept<|zl0 b a c]:=by
 obtain⟨h,f⟩:=zS.1 j;have g:(zgw a c).length<=big:=qU (zzs _ a 0) (zcV f).1;refine zcj λN e=>?_;unfold zxt oN;conv=>zeta
 refine j0 (zbL<|(zxy _).2 h) (j0 (zbL (by omega)) ?_);refine(zbq (zgw a c) (λi (t:lB×lS)=>((i:Int),zgw a c,t.1,t.2,[],[],())) _ (λ_ (x:Int) (t:List Bool×List k0) k=>bif pc (SmK ⟨t.1,t.2⟩) then k ((zbW ⟨t.1,t.2⟩ x).ay,(zbW ⟨t.1,t.2⟩ x).aA) else none) (λ(t:lB×lS)=>some [.agg<|Ty.cells .kept (⟨t.1,t.2⟩:ax)]) (λi d t rec=>?_) (λt rec=>?_) _ ((zdK b).ay,(zdK b).aA)<|e g).trans ?_;{simp only [zbu d,zT d,zbi d,zbj d g,cT]};{simp only [zbh,cF]};exact zzj _ _ 0 b h
def zCQ:vR 445 zkm:=kF3 zt0 zC zB zq zIW zIo
def zxl (N:Nat)(c:ax)(d:lS)(e:Int):OA:=
 (oN (zfc c)<|oN (zpK d e)<|r0 (σ:=(Int×Int×LI×lB×lS×lB×lS×Unit)) N (λg a=>let f:=ix a.2.2.1 a.2.1 0;let b:=(⟨a.2.2.2.2.2.1,a.2.2.2.2.2.2.1⟩:ax); (cond (ilt a.2.1 a.1) (oN (inb a.2.1<|ln a.2.2.1)<|oN (zdB b f)<|g (a.1,zK .i64 a.2.1 1,a.2.2.1,a.2.2.2.1,a.2.2.2.2.1,(zhq b f).ay,(zhq b f).aA,()))<|some [aT .kept b])) (ln<|zgw d e,0,zgw d e,[],[],(zed c).ay,(zed c).aA,()))
def zIR:=zx [(430,0,{n:=25,tm:=[(6,.lp 0 0),(7,.lp 1 0),(14,.sl 0 []),(15,ti),(16,ti)],lo:=[(0,[.sl 1 [],.sl 2 []]),(1,[.sl 3 [],.sl 4 []])],ro:=[(0,.int,true),(1,.bool,true),(2,.slot,true),(3,.bool,true),(4,.slot,true)]})]
def zIe (c:ax)(a:List k0)(b:Int)(j:zh0 c a b=true):∃N,zxl N c a b=some [aT .kept<|zl0 c a b]:=by
 obtain⟨h,f⟩:=zS.1 j;have g:(zgw a b).length<=big:=qU (zzs _ a 0) (zcV f).1;refine zcj λN e=>?_;unfold zxl oN;conv=>zeta
 refine j0 (zbL h) (j0 (zbL (by omega)) ?_);refine(zbq (zgw a b) (λi (t:lB×lS)=>(ln<|zgw a b,(i:Int),zgw a b,[],[],t.1,t.2,())) _ (λ_ (x:Int) (t:List Bool×List k0) k=>bif pc (SmK ⟨t.1,t.2⟩) then k ((zbW ⟨t.1,t.2⟩ x).ay,(zbW ⟨t.1,t.2⟩ x).aA) else none) (λ(t:lB×lS)=>some [.agg<|Ty.cells .kept (⟨t.1,t.2⟩:ax)]) (λi d t rec=>?_) (λt rec=>?_) _ ((zed c).ay,(zed c).aA)<|e g).trans ?_;{simp only [zbu d,zT d,zbi d,zbj d g,cT]};{simp only [zbh,cF]};exact zzj _ _ 0 c h
def zCJ:vR 430 zkm:=kF3 zt0 zC zB zq zIR zIe
def flushed (l:List au)(p:Int):List au:=l.filter λe=>!ieq e.ad p
def zGk (l:List au)(p:Int):(flushed l p).length<=l.length:=uF _ _
def zoZ {b e:Type}(p:b->Bool)(K:List b->Option e):∀(l:List b) (i:Nat) (a:List b),a.length+l.length<=2147483648->
 goL (λ_ x a d=>bif p x then (cond (few<|ln<|ap a [x]) (d<|ap a [x]) none) else d a) K l i a=K (a++l.filter p)
 |[],i,a,_=>by simp[goL]
 |x::l,i,a,h=>by simp only[qW]at h;simp only[goL];cases c:p x;{rw [cF,zoZ p K l (i+1) a (by omega),List.filter_cons_of_neg (by simp[c])]};{rw [cT,zfO (by simp[ap];omega),cT,zoZ p K l (i+1) _ (by simp[ap];omega),List.filter_cons_of_pos c];simp[ap]}
@[simp] abbrev zej (l:List au)(p:Int):Bool:=pc (l.length<=1048576)
@[simp] abbrev zgI (l:List au)(p:Int):List au:=flushed l p
def zlt:Run:=rF2 (dS .entry) dI λb c=>(zej b c,[aS .entry<|zgI b c])
def zAm (N:Nat)(e:lE)(f:Int):OA:=
 (r0 (σ:=(Int×Int×lE×lE×Unit)) N (λd a=>let b:=a.2.2.1;let c:=ix b a.2.1 zey; (cond (ilt a.2.1<|ln b) (oN (inb a.2.1<|ln b)<|cond (ine c.ad a.1) (oN (inb a.2.1<|ln b)<|oN (few<|ln<|ap a.2.2.2.1 [c])<|d (a.1,zK .i64 a.2.1 1,b,ap a.2.2.2.1 [c],()))<|d (a.1,zK .i64 a.2.1 1,b,a.2.2.2.1,()))<|some [aS .entry a.2.2.2.1])) (f,0,e,[],()))
def zMx:=zx [(446,0,{n:=29,tm:=[(0,.sl 0 []),(1,ti),(5,.sl 1 []),(6,ti)],lo:=[],ro:=[(0,.entry,false),(1,.entry,true)]})]
def zLj (a:List au)(b:Int)(h:zej a b=true):∃N,zAm N a b=some [aS .entry<|zgI a b]:=by
 have j:=zS.1 h;have f:=zcV j;refine zcj λN d=>?_;unfold zAm oN;conv=>zeta
 refine(zbq a (λi (t:lE)=>(b,(i:Int),a,t,())) _ (λ_ (x:au) (t:List au) g=>bif !ieq x.ad b then (cond (few<|ln<|ap t [x]) (g<|ap t [x]) none) else g t) (λ(t:lE)=>some [.one<|.s .entry t]) (λi c t rec=>?_) (λt rec=>?_) _ ([])<|d f.1).trans ?_;{simp only [zbu c,zT c,zbi c,zbj c f.1,cT];rfl};{simp only [zbh,cF]};exact zoZ (λe=>!ieq e.ad b) _ a 0 [] (by simpa using f.2)
def zEO:vR 446 zlt:=kF2 zt0 zC zB zq zMx zLj
def zz8 (N:Nat)(d:lE)(f:Int):OA:=
 (r0 (σ:=(Int×Int×Int×lE×lE×Unit)) N (λe a=>let b:=a.2.2.2.2.1;let c:=ix b a.2.1 zey; (cond (ilt a.2.1 a.1) (oN (inb a.2.1<|ln b)<|cond (nB<|ieq c.ad a.2.2.1) (oN (few<|ln<|ap a.2.2.2.1 [c])<|e (a.1,zK .i64 a.2.1 1,a.2.2.1,ap a.2.2.2.1 [c],b,()))<|e (a.1,zK .i64 a.2.1 1,a.2.2.1,a.2.2.2.1,b,()))<|some [aS .entry a.2.2.2.1])) (ln d,0,f,[],d,()))
def zMp:=zx [(418,0,{n:=25,tm:=[(1,.fn 467 [0]),(5,.sl 0 []),(9,.sl 1 []),(10,ti),(11,ti)],lo:=[(0,[ti])],ro:=[(0,.entry,true),(1,.entry,false)]})]
def zK3 (a:List au)(b:Int)(h:zej a b=true):∃N,zz8 N a b=some [aS .entry<|zgI a b]:=by
 have j:=zS.1 h;have f:=zcV j;refine zcj λN d=>?_;unfold zz8 oN nB;conv=>zeta
 refine(zbq a (λi (t:lE)=>(ln a,(i:Int),b,t,a,())) _ (λ_ (x:au) (t:List au) g=>bif !ieq x.ad b then (cond (few<|ln<|ap t [x]) (g<|ap t [x]) none) else g t) (λ(t:lE)=>some [.one<|.s .entry t]) (λi c t rec=>?_) (λt rec=>?_) _ ([])<|d f.1).trans ?_;{simp only [zbu c,zT c,zbi c,zbj c f.1,cT];cases ieq a[i].ad b<;>rfl};{simp only [zbh,cF]};exact zoZ (λe=>!ieq e.ad b) _ a 0 [] (by simpa using f.2)
def zEz:vR 431 zlt:=kF2 zt0 zC zB zq zMp zK3
def zYN:zW:=[(445,zkm),(430,zkm),(446,zlt),(431,zlt)]++z6Q
def zHp:zL zYN:=zh zCQ (zh zCJ<|zh zEO<|zh zEz zt0)
def zmi (b:List ah)(p:Int):Nat->List ax->List ax
 | 0,a=>a
 |n+1,a=>up (zmi b p n a) (n:Int) (zkb (ix (zmi b p n a) (n:Int) zex) (ix b (n:Int) zD).av p)
def zq8 (b:List ah)(p:Int):∀(n:Nat) (a:List ax),(zmi b p n a).length=a.length
 | 0,_=>rfl
 |n+1,a=>by simp only[zmi,zht];exact zq8 b p n a
def zwy (b:List ah)(p:Int):∀(n:Nat) (a:List ax),n<=a.length->zCf a->zCf (zmi b p n a)
 | 0,_,_,h=>h
 |n+1,a,e,h=>by have d:=zwy b p n a (by omega) h;have c:n<(zmi b p n a).length:=(by rw[zq8];omega);exact zyD d (z5I _ _ (by rw[zbi c];exact d.2 _ (jK c)))
def zlg (x:Mon)(p:Int)(n:Nat):Mon:={x with ai:=zmi x.ac p n x.ai}
def z3l {x:Mon}{p:Int}{n:Nat}(a:n<=x.ai.length)(h:ze4 x):ze4 (zlg x p n):=⟨h.1,h.2.1,h.2.2.1,h.2.2.2.1,h.2.2.2.2.1,zwy _ _ _ _ a h.2.2.2.2.2⟩
def zcp (h:ad)(m p:Int)(s:k0):ad :=
 bif ine (ix (ix h.aa m zi).ae p zba).af (-1)
 then ⟨h.ag,up h.aa m {zlg (ix h.aa m zi) p (ix h.aa m zi).ai.length with ae:=up (ix h.aa m zi).ae p s},flushed h.ao (ix (ix h.aa m zi).ae p zba).af,flushed h.an (ix (ix h.aa m zi).ae p zba).af⟩
 else ⟨h.ag,up h.aa m {zlg (ix h.aa m zi) p (ix h.aa m zi).ai.length with ae:=up (ix h.aa m zi).ae p s},h.ao,h.an⟩
def z9P (h:ad)(m p:Int):Prop:=i0 m (ln h.aa)=true/\i0 p (ln (ix h.aa m zi).ae)=true/\(ix h.aa m zi).ai.length<=(ix h.aa m zi).ac.length
@[simp] abbrev zfI (h:ad)(m p:Int)(s:k0):Bool:=pc (zdY h/\z9P h m p)
@[simp] abbrev zhO (h:ad)(m p:Int)(s:k0):ad:=zcp h m p s
def zsP:LW
 |[.agg [.s (.sl .int) b,.s .mon c,.s .entry d,.s .entry e],.one<|.i .i64 f,.one<|.i .i64 g,.agg [.i .i64 h,.i .i64 j]]=>some (zfI (⟨b,c,d,e⟩:ad) f g (⟨h,j⟩:k0),[aH<|zhO (⟨b,c,d,e⟩:ad) f g (⟨h,j⟩:k0)])
 |_=>none
def zwL (N:Nat)(p:ad)(g z:Int)(B:k0):OA:=
 let v:=ix p.aa g zi; (oN (inb g<|ln p.aa)<|oN (inb z<|ln v.ae)<|r0 (σ:=(Int×Int×Int×Int×Int×Int×Int×Int×Int×Int×Int×Int×Int×Int×Int×lM×lN×lE×lE×lM×lN×lE×lE×Unit)) N (λD a=>let d:=a.2.2.1;let m:=a.2.2.2.2.2.2.2.2.2.2.2.1;let l:=a.2.2.2.2.2.2.2.2.2.2.2.2.1;let k:=a.2.2.2.2.2.2.2.2.2.2.2.2.2.2.1;let j:=a.2.2.2.2.2.2.2.2.2.2.2.2.2.2.2.1;let f:=a.2.2.2.2.2.2.2.1;let e:=a.2.2.2.2.2.2.2.2.1;let c:=a.2.2.2.1;let w:=a.2.2.2.2.2.2.2.2.2.2.1;let y:=a.2.2.2.2.2.2.2.2.2.2.2.2.2.2.2.2.2.1;let x:=a.2.2.2.2.2.2.2.2.2.2.2.2.2.2.2.2.2.2.1;let n:=a.2.2.2.2.2.2.1;let r:=a.2.2.2.2.2.2.2.2.2.1;let i:=a.2.2.2.2.2.2.2.2.2.2.2.2.2.1;let q:=a.2.2.2.2.2.2.2.2.2.2.2.2.2.2.2.2.1;let u:=(ix q r zi).ac;let t:=(ix u c zD).av;let h:=ix q n zi;let s:=(ix q i zi).ai;let C:=up q n ({h with ae:=(up h.ae a.2.1 (⟨a.2.2.2.2.1,a.2.2.2.2.2.1⟩:k0))}:Mon); (cond (ilt c<|ln s) (oN (inb c<|ln s)<|oN (inb c<|ln u)<|oN (zh0 (ix s c zex) t a.2.1)<|oN (inb c<|ln s)<|p0 (up q i ({ (ix q i zi) with ai:=(up s c<|zl0 (ix s c zex) t a.2.1)}:Mon)) λb=>D (a.1,a.2.1,d,zK .i64 c 1,a.2.2.2.2.1,a.2.2.2.2.2.1,n,f,e,r,w,m,l,i,k,j,b,y,x,a.2.2.2.2.2.2.2.2.2.2.2.2.2.2.2.2.2.2.2.1,a.2.2.2.2.2.2.2.2.2.2.2.2.2.2.2.2.2.2.2.2.1,a.2.2.2.2.2.2.2.2.2.2.2.2.2.2.2.2.2.2.2.2.2.1,a.2.2.2.2.2.2.2.2.2.2.2.2.2.2.2.2.2.2.2.2.2.2.1,()))<|cond (ine d<|-1) (oN (zej y d)<|oN (zej x d)<|oN (inb a.2.1<|ln h.ae)<|p0 C λb=>oN (inb a.1<|ln b)<|oN (cond (cond (cond (cond (cond (cond (ieq i a.1) true false) (cond (ieq w a.1) true false) false) (cond (ieq r a.1) true false) false) (cond (ieq e a.1) true false) false) (cond (ieq f a.1) true false) false) (cond (ieq n a.1) true false) false)<|p0 (up b a.1 ({ (ix b n zi) with Out:=(ix b f zi).Out,ar:=(ix b e zi).ar,ac:=(ix b r zi).ac,Outs:=(ix b w zi).Outs,ak:=m,aq:=l,ai:=(ix b i zi).ai,Own:=k}:Mon)) λA=>some [aH (⟨j,A,zgI y d,zgI x d⟩:ad)])<|oN (inb a.2.1<|ln h.ae)<|p0 C λb=>oN (inb a.1<|ln b)<|oN (cond (cond (cond (cond (cond (cond (ieq i a.1) true false) (cond (ieq w a.1) true false) false) (cond (ieq r a.1) true false) false) (cond (ieq e a.1) true false) false) (cond (ieq f a.1) true false) false) (cond (ieq n a.1) true false) false)<|p0 (up b a.1 ({ (ix b n zi) with Out:=(ix b f zi).Out,ar:=(ix b e zi).ar,ac:=(ix b r zi).ac,Outs:=(ix b w zi).Outs,ak:=m,aq:=l,ai:=(ix b i zi).ai,Own:=k}:Mon)) λA=>some [aH (⟨j,A,y,x⟩:ad)])) (g,z,(ix v.ae z zba).af,0,B.af,B.aj,g,g,g,g,g,v.ak,v.aq,g,v.Own,p.ag,p.aa,p.ao,p.an,[],[],[],[],()))
def zR3:=zx [(362,0,{n:=70,tm:=[(1,ti),(2,ti),(4,.lp 0 0),(7,.lp 1 0),(8,.lp 2 0),(9,.lp 3 0),(10,ti),(11,ti)],lo:=[(0,[.sl 0 [],.sl 1 [],.sl 2 [],.sl 3 []]),(1,[ti,ti]),(2,[.sl 4 [],.sl 5 [],.sl 6 [],.sl 7 []]),(3,[.sl 1 [0],.sl 1 [1],.sl 1 [2],.sl 1 [3],.sl 1 [4],ti,ti,.sl 1 [7],ti])],ro:=[(0,.sl .int,true),(1,.mon,true),(2,.entry,true),(3,.entry,true),(4,.sl .int,true),(5,.mon,true),(6,.entry,true),(7,.entry,true)]})]
def zUp (N:Nat)(a:ad)(b c:Int)(d:k0):zD5 (cQ zYN zqD zOv z0y) zR3 N 12 362 [true,true,true,true,false,false,false,false] 1 1 [[0],[1],[2],[4],[7]] .mon [aH a,aI b,aI c,aT .slot d]=zwL N a b c d:=by kernel_rfl
def zRy (a:ad)(f b:Int)(d:k0)(D:zbT big [aH a,aI f,aI b,aT .slot d])(y:zfI a f b d=true):∃N,zwL N a f b d=some [aH<|zhO a f b d]:=by
 obtain⟨B,g,s,C⟩:=zS.1 y;have l:=(zbc a).1 B;have r:ze4 (ix a.aa f zi):=l.2.1.2 _ (zbE g _);obtain⟨k,rfl,q⟩:=zd7 (n:=a.aa.length) g;have x:=(zcV r.2.2.2.2.2.1).1;refine zcj λN p=>?_;unfold zwL oN;conv=>zeta
 refine j0 g (j0 s ?_);refine zEf (ix a.aa (k:Int) zi).ai.length (λi (t:List Mon)=>((k:Int),b,(ix (ix a.aa (k:Int) zi).ae b zba).af,(i:Int),d.af,d.aj,(k:Int),(k:Int),(k:Int),(k:Int),(k:Int),(ix a.aa (k:Int) zi).ak,(ix a.aa (k:Int) zi).aq,(k:Int),(ix a.aa (k:Int) zi).Own,a.ag,t,a.ao,a.an,[],[],[],[],())) _
  (λi t=>t=up a.aa (k:Int) (zlg (ix a.aa (k:Int) zi) b i)) (λ_ _=>some [AV.agg<|zbo<|zcp a (k:Int) b d]) (λi t rec u m A=>?_) (λt rec m=>?_) _ 0 a.aa ?_ (j7 _) ?_
 .subst m;have c:i<(zmi (ix a.aa (k:Int) zi).ac b i (ix a.aa (k:Int) zi).ai).length:=(by rw[zq8];exact u);have e:i<(ix a.aa (k:Int) zi).ac.length:=by omega
  have z:zh0 (ix (zmi (ix a.aa (k:Int) zi).ac b i (ix a.aa (k:Int) zi).ai) (i:Int) zex) (ix (ix a.aa (k:Int) zi).ac (i:Int) zD).av b=true :=
   zbL ⟨by rw[zbi c];exact(zwy _ _ _ _ (by omega) r.2.2.2.2.2).2 _ (jK c),by rw[zbi e];exact(r.2.2.2.1.2 _<|jK e).2.2.1⟩
  simp only[zem q,zwB,zlg,zbu c,zT c,zT e,z,cT,p0,zbj u x];exact A _ rfl
 {subst m;simp only[zem q,zwB,zht,zlg,ln,zq8,zIc,show ilt (((ix a.aa (k:Int) zi).ai.length:Nat):Int) (((ix a.aa (k:Int) zi).ai.length:Nat):Int)=false from qV (by omega),cT,cF,p0];have h:inb (k:Int) ((a.aa.length:Nat):Int)=true:=g;have j:inb b (((ix a.aa (k:Int) zi).ae.length:Nat):Int)=true:=s;have v:zej a.ao (ix (ix a.aa (k:Int) zi).ae b zba).af=true:=zbL l.2.2.1;have w:zej a.an (ix (ix a.aa (k:Int) zi).ae b zba).af=true:=zbL l.2.2.2;simp only[h,j,v,w,cT];unfold zcp;cases ine (ix (ix a.aa (k:Int) zi).ae b zba).af (-1)<;>rfl};{exact(zO1 q _).symm};{exact p (by omega)}
def zKQ:zeA Tryz.prog 362 [true,true,true,true,false,false,false,false] (some (1,1,[[0],[1],[2],[4],[7]])) zsP:=by refine zmu (kt:=.mon) (zg7 zHp zC zB zq) (zjs (by kernel_rfl)) (by kernel_rfl) ?_;intro a g f e h;have c:=zjv e;unfold zsP at h;split at h;{obtain⟨d,rfl⟩:=zeK h;obtain⟨N,b⟩:=zRy _ _ _ _ (by exact c) d;exact⟨⟨_,rfl⟩,rfl,_,N,12,(zUp N _ _ _ _ ).trans b⟩};{cases h}
def zVs:zgj:=[(362,[true,true,true,true,false,false,false,false],some (1,1,[[0],[1],[2],[4],[7]]),zsP)]++z0y
def zfa:ze0 zVs:=zq9 zq (by
 intro x a;simp only[qG,qP,or_false]at a;rcases a with rfl
 .exact zKQ)
def zVU (x:Mon)(p:Int):Mon:={x with ar:=up x.ar p false}
def zra (h:ad)(m p:Int):ad:={h with aa:=up h.aa m (zVU (ix h.aa m zi) p)}
def zua (h:ad)(m p:Int):ad:=bif zcI h m p then (cond (zc8 (ix (ix h.aa m zi).ae p zba) A0) (zra h m p)<|zcp (zra h m p) m p ⟨(ix (ix h.aa m zi).ae p zba).af,1⟩) else h
def zzp:∀(l:List Mon) (u:List Bool),zjB l u=true->∀x∈l,zeV x=true
 |[],_,_,x,a=>by cases a
 |m::l,u,h,x,a=>by
  simp only[zjB]at h;cases b:zeV m;{rw [b]at h;cases h}
  .rw [b]at h;simp only[cT]at h;cases c:zhu m.ae u with
   |none=>rw[c]at h;cases h
   |some d =>rw[c]at h;rcases qG.1 a with rfl|a;{exact b};{exact zzp l d h x a}
structure PageAt (h:ad) (m p:Int):Prop where
 hm:i0 m (ln h.aa)=true
 hp:i0 p 8=true
 ok:zeV (ix h.aa m zi)=true
 ho:(ix h.aa m zi).ae.length=8
 hd:(ix h.aa m zi).ar.length=8
 ht:(ix h.aa m zi).ai.length=(ix h.aa m zi).ac.length
 hs:zc8 (ix (ix h.aa m zi).ae p zba) A0=ieq (ix (ix h.aa m zi).ae p zba).af (-1)
def zQp {s:k0}{n:Int}(h:zd3 s n=true):zc8 s A0=ieq s.af (-1):=by unfold zd3 at h;cases a:zc8 s A0;{rw [a]at h;cases d:ieq s.af (-1);{rfl};{have e:s.af = -1:=qF d;cases b:igt n 0;{rw [b]at h;cases h};{cases c:zk s.af 0 (wsub .i64 n 1);{rw [b,c]at h;cases h};{have:=(zgA.1 c).1;omega}}}};{unfold zc8 at a;rw[qE]at a;exact a.1.symm}
def zLD {h:ad}{m p:Int}(d:zcI h m p=true):PageAt h m p:=by unfold zcI at d;simp only[zdj]at d;obtain⟨c,f,g⟩:=d;unfold zcc at c;simp only[zdj]at c;have b:=zzp _ _ c.2.2.2.2 _ (zbE f zi);have a:=b;unfold zeV at a;simp only[zdj]at a;have i:(ix h.aa m zi).ae.length=8:=(by have:=zss a.2.2.1;simp only[ln] at this;omega);refine⟨f,g,b,i,?_,?_,?_⟩;{have:ln (ix h.aa m zi).ar=8:=qF a.2.2.2.2.1;simp only[ln] at this;omega};{have:ln (ix h.aa m zi).ai=ln (ix h.aa m zi).ac:=qF a.2.1;simp only[ln] at this;omega};{have e:=a.2.2.1;unfold zdb at e;simp only[zdj]at e;have j:i0 p (ln (ix h.aa m zi).ae)=true:=(by rw[ln,i];exact g);exact zQp (qN.1 e.1 _<|zbE j _)}
def zVi {x:Mon}{p:Int}(h:ze4 x):ze4 (zVU x p):=⟨h.1,h.2.1,by simpa [zVU] using h.2.2.1,h.2.2.2⟩
def zz1 {h:ad}{m p:Int}(b:i0 m (ln h.aa)=true)(a:SmH h):SmH (zra h m p):=⟨a.1,zj3 a.2.1<|zVi<|a.2.1.2 _<|zbE b _,a.2.2⟩
def zGW {h:ad}{m p:Int}{s:k0}(d:i0 m (ln h.aa)=true)(a:SmH h):SmH (zcp h m p s):=by have c:=a.2.1.2 _ (zbE d zi);have e:=z3l (p:=p) (qQ _) c;have b:zrZ (up h.aa m {zlg (ix h.aa m zi) p (ix h.aa m zi).ai.length with ae:=up (ix h.aa m zi).ae p s}):=zj3 a.2.1 ⟨by simpa using c.1,e.2⟩;unfold zcp;cases ine (ix (ix h.aa m zi).ae p zba).af (-1);{exact⟨a.1,b,a.2.2⟩};{exact⟨a.1,b,qU (zGk _ _) a.2.2.1,qU (zGk _ _) a.2.2.2⟩}
def zz4 {h:ad}{m p:Int}(a:i0 m (ln h.aa)=true):i0 m (ln (zra h m p).aa)=true:=by unfold zra;simpa [ln] using a
def z3h {h:ad}{m p:Int}(a:SmH h):SmH (zua h m p):=by unfold zua;cases b:zcI h m p;{exact a};{have P:=zLD b;cases zc8 (ix (ix h.aa m zi).ae p zba) A0;{exact zGW (zz4 P.hm) (zz1 P.hm a)};{exact zz1 P.hm a}}
@[simp] abbrev ziR (h:ad)(m p:Int):Bool:=pc (zdY h)
@[simp] abbrev zwi (h:ad)(m p:Int):ad:=zua h m p
def zGG:Run:=rF3 dH dI dI λb c d=>(ziR b c d,[aH<|zwi b c d,aB<|zga b c d])
def zPe (N:Nat)(h:ad)(a b:Int):OA:=
 let c:=zo h;let g:=ix c.aa a zi; (oN (zby h)<|oN (zoE c a b)<|cond (nB<|zga c a b) (some [aH c,aB false])<|oN (inb a<|ln c.aa)<|oN (inb b<|ln g.ar)<|p0 (up c.aa a ({g with ar:=(up g.ar b false)}:Mon)) (λd=>let i:=(ix d a zi).ae;let f:=({c with aa:=d}:ad);let e:=ix i b zba;let j:=({e with aj:=1}:k0); (oN (inb a<|ln d)<|oN (inb b<|ln i)<|oN zbU<|cond (cond (ieq e.af zbl.af) (ieq e.aj zbl.aj) false) (some [aH f,aB true])<|oN (zfI f a b j)<|some [aH<|zhO f a b j,aB true])))
def zWA (a:ad)(c b:Int)(j:ziR a c b=true):∃N,zPe N a c b=some [aH<|zwi a c b,aB<|zga a c b]:=by
 have g:=zS.1 j;have i:=(zbc a).1 g;refine⟨0,?_⟩;unfold zPe zwi zga zua oN nB;conv=>zeta
 refine j0 (zbL g) (j0 rfl ?_);cases f:zcI a c b;{simp only [zga,zo,f,cF,cT]};{have P:=zLD f;obtain⟨k,rfl,d⟩:=zd7 (n:=a.aa.length) P.hm;simp only[zga,zo,f,cT,cF];have l:inb b (ln (ix a.aa (k:Int) zi).ar)=true:=(by rw[ln,P.hd];exact P.hp);have h:inb b (ln (ix a.aa (k:Int) zi).ae)=true:=(by rw[ln,P.ho];exact P.hp);refine j0 P.hm (j0 l ?_);simp only[p0,zem d,h,cT,zbU,zbl];refine j0 (zz4 (p:=b) P.hm) ?_;have e:∀s:k0,zc8 s A0=bif ieq s.af A0.af then ieq s.aj A0.aj else false:=λs=>(by unfold zc8;cases ieq s.af A0.af<;>rfl);rw[<- e];cases zc8 (ix (ix a.aa (k:Int) zi).ae b zba) A0;{refine zb7 rfl (j0 (zbL ⟨(zbc _).2 (zz1 P.hm i),zz4 (p:=b) P.hm,?_,?_⟩) rfl);{simp only [zem d];exact h};{simp only [zem d];exact k6 P.ht}};{rfl}}
def zQH:vR 329 zGG:=kF3 zHp zC zB zfa (zx []) zWA
def z1o:zW:=[(329,zGG)]++zYN
def z1p:zL z1o:=zh zQH zHp
def z1q:zW:=z1o
def zlE:zL z1q:=z1p
def zzE (o i t:Int):Int:=bif zhU i t then 1 else (cond (zhU o t) 2 0)
@[simp] abbrev zrG (o i t:Int):Bool:=true
@[simp] abbrev zoC (o i t:Int):Int:=zzE o i t
def zA0:Run:=rF3 dI dI dI λb c d=>(zrG b c d,[aI<|zoC b c d])
def zFW (N:Nat)(b c a:Int):OA:=
 (oN (zjc c a)<|cond (ziT c a) (some [aI 1])<|oN (zjc b a)<|cond (ziT b a) (some [aI 2])<|some [aI 0])
def zRj (a b c:Int)(d:zrG a b c=true):∃N,zFW N a b c=some [aI<|zoC a b c]:=by refine⟨0,?_⟩;unfold zFW oN;refine j0 rfl (br (λ_=>?_) λ_=>j0 rfl (br (λ_=>?_) λ_=>?_));all_goals first|rfl|(simp only [*,zoC,zzE,cT,cF]<;>rfl)|simp_all[Ty.cells,zoC,zzE]
def zKs:vR 405 zA0:=kF3 zlE zC zB zfa (zx []) zRj
def zfl (m g:Int):Int:=bif zk m 0 2 then (cond (zk g 0 1) (zK .i64 (zK .i64 1 g)<|zkC .i64 m 2) 0) else 0
@[simp] abbrev zl4 (m g:Int):Bool:=true
@[simp] abbrev ztK (m g:Int):Int:=zfl m g
def zGJ:Run:=rF2 dI dI λb c=>(zl4 b c,[aI<|ztK b c])
def zPm (N:Nat)(a b:Int):OA:=
 (oN (zN a 0 2)<|cond (nB<|zk a 0 2) (some [aI 0])<|oN (zN b 0 1)<|cond (nB<|zk b 0 1) (some [aI 0])<|some [aI<|zK .i64 (zK .i64 1 b)<|zkC .i64 a 2])
def zWH (a b:Int)(c:zl4 a b=true):∃N,zPm N a b=some [aI<|ztK a b]:=by refine⟨0,?_⟩;unfold zPm oN nB;refine j0 rfl (brN (λ_=>?_) λ_=>j0 rfl (brN (λ_=>?_) λ_=>?_));all_goals first|rfl|(simp only [*,ztK,zfl,cT,cF]<;>rfl)|simp_all[Ty.cells,ztK,zfl]
def zQN:vR 336 zGJ:=kF2 zlE zC zB zfa (zx []) zWH
def zlK (k:ax)(p:Int):Bool:=bif zdQ k p then ix k.ay p false else false
def zfL (k:ax)(p:Int):k0:=bif zlK k p then ix k.aA p zba else A0
@[simp] abbrev ztI (k:ax)(p:Int):k0:=zfL k p
@[simp] abbrev zEp (k:ax)(p:Int):Bool:=zlK k p
def zQk:Run:=rF2 (dT .kept) dI λb c=>(zdB b c,[aT .slot<|ztI b c,aB<|zEp b c])
def zXt (N:Nat)(a:ax)(b:Int):OA:=
 let c:=ix a.aA b zba; (oN (zdB a b)<|cond (nB<|zji a b) (oN zbU<|some [.agg [.i .i64 zbl.af,.i .i64 zbl.aj],aB false])<|oN (inb b<|ln a.ay)<|cond (nB<|ix a.ay b false) (oN zbU<|some [.agg [.i .i64 zbl.af,.i .i64 zbl.aj],aB false])<|oN (inb b<|ln a.aA)<|some [.agg [.i .i64 c.af,.i .i64 c.aj],aB true])
def z2c (a:ax)(b:Int)(f:zdB a b=true):∃N,zXt N a b=some [aT .slot<|ztI a b,aB<|zEp a b]:=by
 have g:=zS.1 f;refine⟨0,?_⟩;unfold zXt ztI zEp zfL zlK oN nB;conv=>zeta
 refine j0 (zbL g) ?_;rw[show zji a b=zdQ a b from rfl];cases c:zdQ a b;{rfl};{unfold zdQ at c;obtain⟨d,e⟩:=zdj.1 c;simp only[zI d,zI e,cT];cases ix a.ay b false<;>rfl}
def zWr:vR 233 zQk:=kF2 zlE zC zB zfa (zx []) z2c
def filled (k:ax)(a b:List k0)(p:Int):ax:=bif zdQ k p then (cond (i0 p<|ln a) ⟨up k.ay p true,up k.aA p<|zbC (ix a p zba) b⟩ k) else k
@[simp] def z0r {k:ax}{a b:List k0}{p:Int}(h:SmK k):SmK (filled k a b p):=by unfold filled;cases zdQ k p;{exact h};{cases i0 p (ln a);{exact h};{exact⟨by simpa using h.1,by simpa using h.2⟩}}
@[simp] abbrev zIL (k:ax)(i o:List k0)(p:Int):Bool:=pc (SmK k)
@[simp] abbrev zLX (k:ax)(i o:List k0)(p:Int):ax:=filled k i o p
def zLQ:Run:=rF4 (dT .kept) (dS .slot) (dS .slot) dI λb c d e=>(zIL b c d e,[aT .kept<|zLX b c d e])
def zSp (N:Nat)(d:ax)(c e:lS)(a:Int):OA:=
 let b:=zdK d; (oN (zgM d)<|oN (zdB b a)<|cond (zji b a) (cond (ilt a<|ln c) (oN (inb a<|ln b.ay)<|p0 (up b.ay a true) λf=>oN (inb a<|ln c)<|oN (zlu (ix c a zba) e)<|oN (inb a<|ln b.aA)<|p0 (up b.aA a<|znL (ix c a zba) e) λg=>some [aT .kept (⟨f,g⟩:ax)])<|some [aT .kept b])<|some [aT .kept b])
def zZz (b:ax)(c d:List k0)(a:Int)(j:zIL b c d a=true):∃N,zSp N b c d a=some [aT .kept<|zLX b c d a]:=by
 have g:=zS.1 j;refine⟨0,?_⟩;unfold zSp zLX filled oN;conv=>zeta
 refine j0 (zbL<|(zxy _).2 g) (j0 (zbL g) ?_);rw[show zji (zdK b) a=zdQ b a from rfl];cases f:zdQ b a;{rfl};{unfold zdQ at f;obtain⟨e,h⟩:=zdj.1 f;rw[has_lt e (m:=ln c)];cases i:i0 a (ln c);{rfl};{simp only [cT,zdK,zI e,zI h,zI i,p0,zlu];rfl}}
def zTp:vR 434 zLQ:=kF4 zlE zC zB zfa (zx []) zZz
def zTf {a b:Type}(p:a->Bool)(r:a->Option b)(K:Unit->Option b):∀(l:List a) (i:Nat),goL (λ_ x (_:Unit) k=>bif p x then r x else k ()) K l i ()=match l.find? p with|some x=>r x|none=>K ()
 |[],_=>rfl
 |x::l,i=>by simp only[goL];cases h:p x;{rw [List.find?_cons_of_neg (by simp[h])];exact zTf p r K l (i+1)};{rw [List.find?_cons_of_pos h];rfl}
def zD7 (b:List au)(t p:Int):Option au:=b.find? λe=>bif ieq e.Tag t then ieq e.af p else false
@[simp] abbrev znO (b:List au)(t p:Int):Bool:=true
@[simp] abbrev znN (b:List au)(t p:Int):au:=(zD7 b t p).getD ⟨0,0,0,0⟩
@[simp] abbrev zkN (b:List au)(t p:Int):Bool:=(zD7 b t p).isSome
def zv9:Run:=rF3 (dS .entry) dI dI λb c d=>(znO b c d,[aT .entry<|znN b c d,aB<|zkN b c d])
def zAl (N:Nat)(f:lE)(g h:Int):OA:=
 (r0 (σ:=(Int×Int×Int×Int×Int×Int×Int×lE×Unit)) N (λj a=>let f:=a.2.2.2.2;let c:=f.2.2.2.1;let d:=inb a.2.2.1<|ln c;let e:=j (a.1,a.2.1,zK .i64 a.2.2.1 1,a.2.2.2.1,f.1,f.2.1,f.2.2.1,c,());let b:=ix c a.2.2.1 zey; (cond (ilt a.2.2.1<|ln c) (oN d<|cond (ieq b.Tag a.1) (oN d<|cond (ieq b.af a.2.1) (oN d<|some [.agg [.i .i64 b.Tag,.i .i64 b.af,.i .i64 b.ad,.i .i64 b.aj],aB true]) e) e)<|some [.agg [.i .i64 0,.i .i64 0,.i .i64 0,.i .i64 0],aB false])) (g,h,0,0,0,0,0,f,()))
def zMw:=zx [(433,0,{n:=36,tm:=[(0,.sl 0 []),(1,ti),(2,ti),(6,.lp 0 0),(8,ti)],lo:=[(0,[ti,ti,ti,ti])],ro:=[(0,.entry,false)]})]
def zLi (a:List au)(c d:Int)(j:zbT big [aS .entry a,aI c,aI d])(l:znO a c d=true):∃N,zAl N a c d=some [aT .entry<|znN a c d,aB<|zkN a c d]:=by
 have h:=len0 j;refine zcj λN g=>?_;unfold zAl oN;conv=>zeta
 refine(zbq a (λi (t:Unit)=>(c,d,(i:Int),0,0,0,0,a,())) _ (λ_ (x:au) (_:Unit) k=>bif (cond (ieq x.Tag c) (ieq x.af d) false) then (some [AV.agg<|Ty.cells .entry x,AV.one<|.b true]) else k ()) (λ(t:Unit)=>some [.agg [.i .i64 0,.i .i64 0,.i .i64 0,.i .i64 0],.one<|.b false]) (λi f t rec=>?_) (λt rec=>?_) _ ()<|g h).trans ?_;{simp only [zbu f,zT f,zbi f,zbj f h,cT];cases ieq a[i].Tag c<;>cases ieq a[i].af d<;>rfl};{simp only [zbh,cF]};rw[zTf λe:au=>bif ieq e.Tag c then ieq e.af d else false];unfold znN zkN zD7;cases a.find? (λe:au=>bif ieq e.Tag c then ieq e.af d else false)<;>rfl
def zEN:vR 433 zv9:=hF3 zlE zC zB zfa zMw zLi
def zDd (t p:Int)(e:au):Bool:=bif ine e.Tag t then true else ine e.af p
def zcP (b:List au)(t p:Int):List au:=b.filter (zDd t p)
def zze (b:List au)(t p:Int):(zcP b t p).length<=b.length:=uF _ _
@[simp] abbrev zhp (b:List au)(t p:Int):Bool:=pc (b.length<=1048576)
@[simp] abbrev znl (b:List au)(t p:Int):List au:=zcP b t p
def zwa:Run:=rF3 (dS .entry) dI dI λb c d=>(zhp b c d,[aS .entry<|znl b c d])
def zAn (N:Nat)(h:lE)(i j:Int):OA:=
 (r0 (σ:=(Int×Int×Int×lE×lE×Unit)) N (λf a=>let b:=a.2.2.2.1;let c:=inb a.2.2.1<|ln b;let d:=ix b a.2.2.1 zey;let e:=ap a.2.2.2.2.1 [d];let g:=f (a.1,a.2.1,zK .i64 a.2.2.1 1,b,e,()); (cond (ilt a.2.2.1<|ln b) (oN c<|cond (ine d.Tag a.1) (oN c<|oN (few<|ln e) g)<|oN c<|cond (ine d.af a.2.1) (oN c<|oN (few<|ln e) g)<|f (a.1,a.2.1,zK .i64 a.2.2.1 1,b,a.2.2.2.2.1,()))<|some [aS .entry a.2.2.2.2.1])) (i,j,0,h,[],()))
def zMy:=zx [(335,0,{n:=40,tm:=[(0,.sl 0 []),(1,ti),(2,ti),(7,.sl 1 []),(8,ti)],lo:=[],ro:=[(0,.entry,false),(1,.entry,true)]})]
def zLk (a:List au)(b c:Int)(h:zhp a b c=true):∃N,zAn N a b c=some [aS .entry<|znl a b c]:=by
 have j:=zS.1 h;have f:=zcV j;refine zcj λN e=>?_;unfold zAn oN;conv=>zeta
 refine(zbq a (λi (t:lE)=>(b,c,(i:Int),a,t,())) _ (λ_ (x:au) (t:List au) g=>bif zDd b c x then (cond (few<|ln<|ap t [x]) (g<|ap t [x]) none) else g t) (λ(t:lE)=>some [.one<|.s .entry t]) (λi d t rec=>?_) (λt rec=>?_) _ ([])<|e f.1).trans ?_;{simp only [zbu d,zT d,zbi d,zbj d f.1,cT];unfold zDd;cases ine a[i].Tag b<;>cases ine a[i].af c<;>rfl};{simp only [zbh,cF]};exact zoZ (zDd b c) _ a 0 [] (by simpa using f.2)
def zEP:vR 335 zwa:=kF3 zlE zC zB zfa zMy zLk
def z6Y:zW:=[(405,zA0),(336,zGJ),(233,zQk),(434,zLQ),(433,zv9),(335,zwa)]++z1q
def zza:zL z6Y:=zh zKs (zh zQN<|zh zWr<|zh zTp<|zh zEN<|zh zEP zlE)
def zqJ (b:List au)(e:au):List au:=bif igt (ln<|ap (zcP b e.Tag e.af) [e]) 6 then dp (ap (zcP b e.Tag e.af) [e]) (wsub .i64 (ln<|ap (zcP b e.Tag e.af) [e]) 6) else ap (zcP b e.Tag e.af) [e]
def zzJ {b:List au}(e:au)(h:b.length<=1048576):(zqJ b e).length<=1048576/\(ap (zcP b e.Tag e.af) [e]).length<=1048577:=by have d:=zze b e.Tag e.af;have c:(ap (zcP b e.Tag e.af) [e]).length<=1048577:=(by simp[ap];omega);refine⟨?_,c⟩;unfold zqJ;cases a:igt (ln<|ap (zcP b e.Tag e.af) [e]) 6;{have a:=jY a;simp only[ln]at a;simp only[cF];omega};{simp only [cT,dp,vO];have a:=qF a;have:wsub .i64 (ln<|ap (zcP b e.Tag e.af) [e]) 6=ln (ap (zcP b e.Tag e.af) [e])-6:=zyK (by simp only[ln] at *;omega) (by simp only[ln] at *;omega);rw[this];simp only[ln] at *;omega}
@[simp] abbrev zl3 (b:List au)(e:au):Bool:=pc (b.length<=1048576)
@[simp] abbrev zmN (b:List au)(e:au):List au:=zqJ b e
def zqR:Run:=rF2 (dS .entry) (dT .entry) λb c=>(zl3 b c,[aS .entry<|zmN b c])
def zB6 (N:Nat)(d:lE)(b:au):OA:=
 let a:=ap (znl d b.Tag b.af) [b];let c:=wsub .i64 (ln a) 6; (oN (zhp d b.Tag b.af)<|oN (few<|ln a)<|cond (igt (ln a) 6) (oN (inr c (ln a)<|ln a)<|oN (few<|ln<|ap []<|dp a c)<|some [aS .entry<|ap []<|dp a c])<|some [aS .entry a])
def zOd (b:List au)(a:au)(h:zl3 b a=true):∃N,zB6 N b a=some [aS .entry<|zmN b a]:=by
 have f:=zS.1 h;obtain⟨c,g⟩:=zzJ a f;refine⟨0,?_⟩;unfold zB6 oN;conv=>zeta
 refine j0 (zbL f) (j0 (zfO<|qU g (by decide:1048577<=2147483648)) ?_);unfold zmN zqJ at *;show _=some [AV.one<|.s .entry<|cond (igt (ln<|ap (zcP b a.Tag a.af) [a]) 6) (dp (ap (zcP b a.Tag a.af) [a])<|wsub .i64 (ln<|ap (zcP b a.Tag a.af) [a]) 6)<|ap (zcP b a.Tag a.af) [a]];cases d:igt (ln<|ap (zcP b a.Tag a.af) [a]) 6;{rfl};{rw [d]at c;simp only[cT]at c;have d:=qF d;have e:wsub .i64 (ln<|ap (zcP b a.Tag a.af) [a]) 6=ln (ap (zcP b a.Tag a.af) [a])-6:=zyK (by simp only[ln] at *;omega) (by simp only[ln] at *;omega);refine j0 rfl (j0 (qK ?_)<|j0 ?_ ?_);{show 0<=wsub .i64 (ln<|ap (zcP b a.Tag a.af) [a]) 6/\wsub .i64 (ln<|ap (zcP b a.Tag a.af) [a]) 6<=ln (ap (zcP b a.Tag a.af) [a])/\ln (ap (zcP b a.Tag a.af) [a])<=ln (ap (zcP b a.Tag a.af) [a]);rw[e];simp only[ln] at *;omega};{exact zot c};{rw [zm5];rfl}}
def zuj:vR 384 zqR:=kF2 zza zC zB zfa (zx []) zOd
def zoY (l:List k0)(p:Int):Option Nat:=l.findIdx? λs=>ieq s.af p
def ziL (p:Int):List Mon->Nat->Int×Int
 |[],_=>(-1,-1)
 |m::l,i=>match zoY m.ae p with|some k=>((i:Int),(k:Int))|none=>ziL p l (i+1)
def zbK (h:ad)(p:Int):Int×Int:=bif ilt p 0 then (-1,-1) else ziL p h.aa 0
def zPT {a:Type}(p:k0->Bool)(r:Nat->Option a)(K:Unit->Option a):∀(l:List k0) (i:Nat),goL (λj x (_:Unit) k=>bif p x then r j else k ()) K l i ()=match l.findIdx? p with|some k=>r (i+k)|none=>K ()
 |[],_=>rfl
 |x::l,i=>by simp only[goL];rw[List.findIdx?_cons];cases h:p x;{simp only [cF,kH,if_false];rw[zPT p r K l<|i+1];cases l.findIdx? p with|none=>rfl|some k=>simp only[Option.map_some];congr 1;omega};{rfl}
def zMX {c:Type}(p:Int)(r:Int->Int->Option c):∀(l:List Mon) (i:Nat),goL (λi (x:Mon) (_:Unit) b=>goL (λj (y:k0) (_:Unit) a=>bif ieq y.af p then r (i:Int) (j:Int) else a ()) (λ_=>b ()) x.ae 0 ()) (λ_=>r (-1) (-1)) l i ()=r (ziL p l i).1 (ziL p l i).2
 |[],_=>rfl
 |m::l,i=>by simp only[goL,ziL];rw[zPT (λs=>ieq s.af p) λj=>r (i:Int) (j:Int)];unfold zoY;cases m.ae.findIdx? (λs=>ieq s.af p) with|none=>exact zMX p r l (i+1)|some k=>simp only[j3]
@[simp] abbrev zfS (h:ad)(p:Int):Bool:=true
@[simp] abbrev zdw (h:ad)(p:Int):Int:=(zbK h p).1
@[simp] abbrev zeu (h:ad)(p:Int):Int:=(zbK h p).2
def zjt:Run:=rF2 dH dI λb c=>(zfS b c,[aI<|zdw b c,aI<|zeu b c])
def zu5 (N:Nat)(f:ad)(g:Int):OA:=
 (cond (ilt g 0) (some [aI<|-1,aI<|-1])<|r0 (σ:=(Int×Int×Int×lN×Unit)) N (λi b=>let c:=b.2.2.1; (cond (ilt c b.2.1) (oN (inb c<|ln b.2.2.2.1)<|r0 (σ:=(Int×Int×Int×Int×Int×Int×Int×lN×Unit)) N (λj a=>let b:=a.2.2.2.2;let e:=b.2.2.2.1;let h:=(ix e b.1 zi).ae;let d:=b.2.2.1; (cond (ilt d b.2.1) (oN (inb d<|ln h)<|cond (ieq (ix h d zba).af a.1) (some [aI a.2.1,aI d])<|j (a.1,a.2.1,a.2.2.1,a.2.2.2.1,b.1,b.2.1,zK .i64 d 1,e,()))<|i (a.1,a.2.2.1,zK .i64 a.2.2.2.1 1,e,()))) (b.1,c,b.2.1,c,c,ln (ix b.2.2.2.1 c zi).ae,0,b.2.2.2.1,()))<|some [aI<|-1,aI<|-1])) (g,ln f.aa,0,f.aa,()))
def zFt:=zx [(465,0,{n:=36,tm:=[(1,ti),(13,.sl 0 []),(14,ti),(15,ti)],lo:=[],ro:=[(0,.mon,false)]}),(465,2,{n:=36,tm:=[(1,ti),(6,ti),(13,.sl 0 []),(14,ti),(15,ti),(21,.sl 0 [0]),(22,ti),(23,ti)],lo:=[],ro:=[(0,.mon,false)]})]
def zE5 (a:ad)(c:Int)(m:zbT big [aH a,aI c])(q:zfS a c=true):∃N,zu5 N a c=some [aI<|zdw a c,aI<|zeu a c]:=by
 have k:CVB big (.s .mon a.aa):=(zbp m).1 _ (by simp[AV.cvs,zbo]);have h:=k.len;refine zcj λN e=>?_;unfold zu5 zdw zeu zbK oN;conv=>zeta
 cases p:ilt c 0;{simp only [cF];refine(zbq a.aa (λi (t:Unit)=>(c,ln a.aa,(i:Int),a.aa,())) _ (λi (x:Mon) (_:Unit) n=>goL (λj (y:k0) (_:Unit) b=>bif ieq y.af c then some [AV.one<|.i .i64 (i:Int),AV.one<|.i .i64 (j:Int)] else b ()) (λ_=>n ()) x.ae 0 ()) (λ(t:Unit)=>some [.one<|.i .i64<|-1,.one<|.i .i64<|-1]) (λi d t rec=>?_) (λt rec=>?_) _ ()<|e h).trans ?_;{simp only [zbu d,zT d,zbi d,zbj d h,cT];have l:a.aa[i].ae.length<=big:=(k.inv.2 _ (jK d) (.s .slot _) (by simp[Ty.cells])).len;refine(zbq a.aa[i].ae (λj (u:Unit)=>(c,(i:Int),ln a.aa,(i:Int),(i:Int),ln a.aa[i].ae,(j:Int),a.aa,())) _ (λj (y:k0) (_:Unit) b=>bif ieq y.af c then some [AV.one<|.i .i64 (i:Int),AV.one<|.i .i64 (j:Int)] else b ()) (λ(u:Unit)=>rec (c,ln a.aa,((i+1:Nat):Int),a.aa,())) (λj g u f=>?_) (λu f=>?_) _ ()<|e l).trans ?_;{simp only [zbu g,zT g,zbi g,zbj g l,cT,zT d,zbi d,zbj d h]};{simp only [zbh,cF,zT d,zbi d,zbj d h]};rfl};{simp only [zbh,cF]};exact zMX c (λi j=>some [AV.one<|.i .i64 i,AV.one<|.i .i64 j]) a.aa 0};{rfl}
def zBq:vR 465 zjt:=hF2 zza zC zB zfa zFt zE5
def z1S {a c b:Type}(r:Option b):∀(l:List a) (i:Nat) (t:c),goL (λ_ _ _ _=>r) (λ_=>r) l i t=r
 |[],_,_=>rfl
 |_::_,_,_=>rfl
def zvg (N:Nat)(d:ad)(f:Int):OA:=
 (r0 (σ:=(Int×Int×lM×lN×lE×lE×Unit)) N (λg b=>cond (ilt b.2.1<|ln b.2.2.2.1) (cond (ige b.1 0) (r0 (σ:=(Int×Int×Int×lM×lN×lE×lE×Unit)) N (λh a=>let b:=a.2.2.2.2;let c:=b.1;let e:=(ix c a.2.1 zi).ae; (oN (inb a.2.1<|ln c)<|cond (ilt a.2.2.1<|ln e) (oN (inb a.2.1<|ln c)<|oN (inb a.2.2.1<|ln e)<|cond (ieq (ix e a.2.2.1 zba).af a.1) (some [aI a.2.1,aI a.2.2.1])<|h (a.1,a.2.1,zK .i64 a.2.2.1 1,a.2.2.2.1,c,b.2.1,b.2.2.1,()))<|g (a.1,zK .i64 a.2.1 1,a.2.2.2.1,c,b.2.1,b.2.2.1,()))) (b.1,b.2.1,0,b.2.2.1,b.2.2.2.1,b.2.2.2.2.1,b.2.2.2.2.2.1,()))<|some [aI<|-1,aI<|-1])<|some [aI<|-1,aI<|-1]) (f,0,d.ag,d.aa,d.ao,d.an,()))
def zFx:=zx [(443,0,{n:=44,tm:=[(1,ti),(2,.lp 0 0),(6,ti)],lo:=[(0,[.sl 0 [],.sl 1 [],.sl 2 [],.sl 3 []])],ro:=[(0,.sl .int,false),(1,.mon,false),(2,.entry,false),(3,.entry,false)]}),(443,2,{n:=44,tm:=[(1,ti),(2,.lp 0 0),(6,ti),(7,ti)],lo:=[(0,[.sl 0 [],.sl 1 [],.sl 2 [],.sl 3 []])],ro:=[(0,.sl .int,false),(1,.mon,false),(2,.entry,false),(3,.entry,false)]})]
def zFj (a:ad)(b:Int)(p:zbT big [aH a,aI b])(r:zfS a b=true):∃N,zvg N a b=some [aI<|zdw a b,aI<|zeu a b]:=by
 have m:CVB big (.s .mon a.aa):=(zbp p).1 _ (by simp[AV.cvs,zbo]);have l:=m.len;refine zcj λN e=>?_;unfold zvg zdw zeu zbK oN;conv=>zeta
 refine(zbq a.aa (λi (t:Unit)=>(b,(i:Int),a.ag,a.aa,a.ao,a.an,())) _ (λi (x:Mon) (_:Unit) q=>bif ige b 0 then goL (λj (y:k0) (_:Unit) c=>bif ieq y.af b then some [AV.one<|.i .i64 (i:Int),AV.one<|.i .i64 (j:Int)] else c ()) (λ_=>q ()) x.ae 0 () else some [AV.one<|.i .i64<|-1,AV.one<|.i .i64<|-1]) (λ(t:Unit)=>some [.one<|.i .i64<|-1,.one<|.i .i64<|-1]) (λi d t rec=>?_) (λt rec=>?_) _ ()<|e l).trans ?_;{simp only [zbu d,zT d,zbi d,zbj d l,cT];cases h:ige b 0;{rfl};have n:a.aa[i].ae.length<=big:=(m.inv.2 _ (jK d) (.s .slot _) (by simp[Ty.cells])).len;simp only[cT];refine(zbq a.aa[i].ae (λj (_:Unit)=>(b,(i:Int),(j:Int),a.ag,a.aa,a.ao,a.an,())) _ (λj (y:k0) (_:Unit) c=>bif ieq y.af b then some [AV.one<|.i .i64 (i:Int),AV.one<|.i .i64 (j:Int)] else c ()) (λ_=>rec (b,((i+1:Nat):Int),a.ag,a.aa,a.ao,a.an,())) (λj g u f=>?_) (λu f=>?_) _ ()<|e n).trans ?_;{simp only [zbu g,zT g,zbi g,zbj g n,cT,zT d,zbi d]};{simp only [zbh,cF,cT,zT d,zbi d,zbj d l]};rfl};{simp only [zbh,cF]};cases h:ige b 0;{have k:ilt b 0=true:=(by have:=jY h;exact qK (by omega));rw[k];exact z1S _ _ _ _};{have k:ilt b 0=false:=(by have:=qF h;exact qV (by omega));rw[k];exact zMX b (λi j=>some [AV.one<|.i .i64 i,AV.one<|.i .i64 j]) a.aa 0}
def zBD:vR 443 zjt:=hF2 zza zC zB zfa zFx zFj
def z6Z:zW:=[(384,zqR),(443,zjt),(465,zjt)]++z6Y
def zt1:zL z6Z:=zh zuj (zh zBD<|zh zBq zza)
def zcm (h:ad):LI:=zwU (λi=>ilt (zbK h (i:Int)).1 0) h.ag.length 0
@[simp] abbrev zfX (h:ad):Bool:=pc (h.ag.length<=1048576)
@[simp] abbrev zcU (h:ad):LI:=zcm h
def zpi:Run:=rF1 dH λb=>(zfX b,[aS .int<|zcU b])
def zJh (N:Nat)(b:ad):OA:=
 (r0 (σ:=(Int×LI×lM×lN×lE×lE×Unit)) N (λc a=>let b:=a.2.2.2.2;let d:=(⟨a.2.2.1,a.2.2.2.1,b.1,b.2.1⟩:ad); (cond (ilt a.1<|ln a.2.2.1) (oN (zfS d a.1)<|cond (ilt (zdw d a.1) 0) (oN (few<|ln<|ap a.2.1 [a.1])<|c (zK .i64 a.1 1,ap a.2.1 [a.1],a.2.2.1,a.2.2.2.1,b.1,b.2.1,()))<|c (zK .i64 a.1 1,a.2.1,a.2.2.1,a.2.2.2.1,b.1,b.2.1,()))<|some [aS .int a.2.1])) (0,[],b.ag,b.aa,b.ao,b.an,()))
def zVD:=zx [(442,0,{n:=28,tm:=[(1,.lp 0 0),(3,.sl 0 []),(4,ti)],lo:=[(0,[.sl 1 [],.sl 2 [],.sl 3 [],.sl 4 []])],ro:=[(0,.int,true),(1,.sl .int,false),(2,.mon,false),(3,.entry,false),(4,.entry,false)]})]
def zTR (a:ad)(f:zfX a=true):∃N,zJh N a=some [aS .int<|zcU a]:=by
 have g:=zS.1 f;have e:=zcV g;refine zcj λN d=>?_;unfold zJh oN;conv=>zeta
 refine(zbq a.ag (λi (t:LI)=>((i:Int),t,a.ag,a.aa,a.ao,a.an,())) _ (λi (_:LI) (t:LI) b=>bif ilt (zbK a (i:Int)).1 0 then (cond (few<|ln<|ap t [(i:Int)]) (b<|ap t [(i:Int)]) none) else b t) (λ(t:LI)=>some [.one<|.s .int t]) (λi c t rec=>?_) (λt rec=>?_) _ ([])<|d e.1).trans ?_;{simp only [zbu c,zT c,zbi c,zbj c e.1,cT]};{simp only [zbh,cF]};rw[zxF λi (t:LI) b=>bif ilt (zbK a (i:Int)).1 0 then (cond (few<|ln<|ap t [(i:Int)]) (b<|ap t [(i:Int)]) none) else b t];exact zzl (λi=>ilt (zbK a (i:Int)).1 0) _ _ 0 [] (by simpa using e.2)
def zNi:vR 442 zpi:=kF1 zt1 zC zB zfa zVD zTR
def zI3 (N:Nat)(b:ad):OA:=
 (r0 (σ:=(Int×Int×LI×lM×lN×lE×lE×Unit)) N (λd a=>let b:=a.2.2.2.2;let c:=b.2.2.1;let e:=(⟨a.2.2.2.1,b.1,b.2.1,c⟩:ad); (cond (ilt a.2.1 a.1) (oN (zfS e a.2.1)<|cond (ilt (zdw e a.2.1) 0) (oN (few<|ln<|ap a.2.2.1 [a.2.1])<|d (a.1,zK .i64 a.2.1 1,ap a.2.2.1 [a.2.1],a.2.2.2.1,b.1,b.2.1,c,()))<|d (a.1,zK .i64 a.2.1 1,a.2.2.1,a.2.2.2.1,b.1,b.2.1,c,()))<|some [aS .int a.2.2.1])) (ln b.ag,0,[],b.ag,b.aa,b.ao,b.an,()))
def zVv:=zx [(427,0,{n:=28,tm:=[(1,.lp 0 0),(3,.sl 0 []),(10,ti),(11,ti)],lo:=[(0,[.sl 1 [],.sl 2 [],.sl 3 [],.sl 4 []])],ro:=[(0,.int,true),(1,.sl .int,false),(2,.mon,false),(3,.entry,false),(4,.entry,false)]})]
def zTD (a:ad)(f:zfX a=true):∃N,zI3 N a=some [aS .int<|zcU a]:=by
 have g:=zS.1 f;have e:=zcV g;refine zcj λN d=>?_;unfold zI3 oN;conv=>zeta
 refine(zbq a.ag (λi (t:LI)=>(ln a.ag,(i:Int),t,a.ag,a.aa,a.ao,a.an,())) _ (λi (_:LI) (t:LI) b=>bif ilt (zbK a (i:Int)).1 0 then (cond (few<|ln<|ap t [(i:Int)]) (b<|ap t [(i:Int)]) none) else b t) (λ(t:LI)=>some [.one<|.s .int t]) (λi c t rec=>?_) (λt rec=>?_) _ ([])<|d e.1).trans ?_;{simp only [zbu c,zT c,zbi c,zbj c e.1,cT]};{simp only [zbh,cF]};rw[zxF λi (t:LI) b=>bif ilt (zbK a (i:Int)).1 0 then (cond (few<|ln<|ap t [(i:Int)]) (b<|ap t [(i:Int)]) none) else b t];exact zzl (λi=>ilt (zbK a (i:Int)).1 0) _ _ 0 [] (by simpa using e.2)
def zM3:vR 427 zpi:=kF1 zt1 zC zB zfa zVv zTD
def zjo (m:List LI)(p:Int)(c:LI):List LI:=bif i0 p (ln m) then (cond (zcs c) (up m p c) m) else m
@[simp] abbrev zf0 (m:List LI)(p:Int)(c:LI):Bool:=pc (SmM m/\c.length<=1048576)
@[simp] abbrev zeX (m:List LI)(p:Int)(c:LI):List LI:=zjo m p c
def zmJ:Run:=rF3 (dS<|.sl .int) dI (dS .int) λb c d=>(zf0 b c d,[aS (.sl .int)<|zeX b c d])
def zCa (N:Nat)(a:lM)(b:Int)(c:LI):OA:=
 (oN (zgL a)<|oN (zN b 0<|wsub .i64 (ln a) 1)<|cond (zk b 0<|wsub .i64 (ln a) 1) (oN (zdz c)<|cond (zc6 c) (oN (few<|ln<|ap [] c)<|oN (inb b<|ln<|ze7 a)<|p0 (up (ze7 a) b<|ap [] c) λd=>some [aS (.sl .int) d])<|some [aS (.sl .int)<|ze7 a])<|some [aS (.sl .int)<|ze7 a])
def zOi (b:List LI)(a:Int)(c:LI)(g:zf0 b a c=true):∃N,zCa N b a c=some [aS (.sl .int)<|zeX b a c]:=by obtain⟨e,d⟩:=zS.1 g;refine⟨0,?_⟩;unfold zCa zeX zjo oN;refine j0 (zbL<|(zqx _).2 e) (j0 rfl ?_);rw[show zk a 0 (wsub .i64 (ln b) 1)=i0 a (ln b) from zrd e.1 a];cases f:i0 a (ln b);{rfl};{simp only [cT,zdz,zc6];cases h:zcs c;{rfl};{refine j0 rfl (j0 (zot d)<|j0 (zI f) ?_);rw[zm5];rfl}}
def zH0:vR 444 zmJ:=kF3 zt1 zC zB zfa (zx []) zOi
def zBK (N:Nat)(a:lM)(b:Int)(c:LI):OA:=
 (oN (zi9 a)<|oN (zcH b<|ln a)<|cond (zkf b<|ln a) (oN (zdz c)<|cond (zc6 c) (oN (zei c)<|oN (inb b<|ln<|zgc a)<|p0 (up (zgc a) b<|zec c) λd=>some [aS (.sl .int) d])<|some [aS (.sl .int)<|zgc a])<|some [aS (.sl .int)<|zgc a])
def zNT (a:List LI)(b:Int)(c:LI)(f:zf0 a b c=true):∃N,zBK N a b c=some [aS (.sl .int)<|zeX a b c]:=by obtain⟨g,d⟩:=zS.1 f;refine⟨0,?_⟩;unfold zBK zeX zjo oN;refine j0 (zbL g) (j0 rfl ?_);rw[show zkf b (ln a)=i0 b (ln a) from rfl];cases e:i0 b (ln a);{rfl};{simp only [cT,zdz,zc6];cases h:zcs c;{rfl};{refine j0 rfl (j0 (zbL<|qU d (by decide)) (j0 (zI e) rfl))}}
def zHD:vR 429 zmJ:=kF3 zt1 zC zB zfa (zx []) zNT
def zrl:zW:=[(442,zpi),(427,zpi),(444,zmJ),(429,zmJ)]++z6Z
def zh3:zL zrl:=zh zNi (zh zM3<|zh zH0<|zh zHD zt1)
end
end Go.Proofs.YtapgkefgcbapcaaGreat.E
