/- What is proved here: a part of the proof of the claim. -/
import Derived.Test.YtapgkefgcbapcaaGreatW3
namespace Go.Proofs.YtapgkefgcbapcaaGreat.E
open Go
set_option linter.defProp false
set_option linter.constructorNameAsVariable false
set_option linter.unusedVariables false
set_option maxRecDepth 100000
set_option linter.unusedSimpArgs false
set_option linter.unusedSectionVars false
noncomputable section
def zM (_ _ _:Int):Bool:=true
def zk (x a b:Int):Bool:=ige x a&&ile x b
def zmz:Run:=rF3 dI dI dI λb c d=>(zM b c d,[aB<|zk b c d])
def zN4 (N:Nat)(a b c:Int):OA:=
 (cond (ige a b) (some [aB<|ile a c]) oF)
def zFf (a b c:Int)(d:zbY big [aI a,aI b,aI c])(e:zM a b c=true):∃N,zN4 N a b c=some [aB<|zk a b c]:=by refine⟨0,?_⟩;unfold zN4 zk;cases ige a b<;>rfl
def zzx:vU 121 zmz:=hF3 zsU zZ zB zu (zy []) zFf
def zb0 (_ _:Int):Bool:=true
abbrev zfj (i n:Int):Bool:=i0 i n
def zCg:Run:=rF2 dI dI λb c=>(zb0 b c,[aB<|zfj b c])
def zWg (N:Nat)(a b:Int):OA:=
 (cond (ige a 0) (some [aB<|ilt a b]) oF)
def z0Q (a b:Int)(c:zb0 a b=true):∃N,zWg N a b=some [aB<|zfj a b]:=by refine⟨0,?_⟩;unfold zWg zfj;rw[<- has_eq];cases ige a 0<;>rfl
def zE7:vU 154 zCg:=kF2 zsU zZ zB zu (zy []) z0Q
def zBP {n:Nat}(c:n<=big)(i:Int):zk i 0 (wsub .i64 (n:Int) 1)=i0 i n:=by rw[zhP]at c;rw[zxT (by omega) (by omega)];unfold zk ige ile i0;by_cases a:0<=i<;>by_cases b:i<n;{rw [qL (p:=i≥0) (by omega),qL (p:=i<=(n:Int)-1) (by omega),qL (p:=0<=i/\i<(n:Int)) ⟨a,b⟩];rfl};{rw [qX (p:=i<=(n:Int)-1) (by omega),qX (p:=0<=i/\i<(n:Int)) (by omega)];simp};{rw [qX (p:=i≥0) (by omega),qX (p:=0<=i/\i<(n:Int)) (by omega)];simp};{rw [qX (p:=i≥0) (by omega),qX (p:=0<=i/\i<(n:Int)) (by omega)];simp}
def zgn (l:List LI):Bool:=pc (CVB sm<|.s (.sl .int) l)
abbrev zeP (l:List LI):List LI:=l
def zz2:Run:=rF1 (dS<|.sl .int) λb=>(zgn b,[aS (.sl .int)<|zeP b])
def zEI (N:Nat)(c:lM):OA:=
 (r0 (σ:=(Int×lM×lM×Unit)) N (λd a=>let b:=ap []<|ix a.2.1 a.1 []; (cond (ilt a.1<|ln a.2.1) (oN (inb a.1<|ln a.2.1)<|oN (few<|ln b)<|oN (few<|ln<|ap a.2.2.1 [b])<|d (zK .i64 a.1 1,a.2.1,ap a.2.2.1 [b],()))<|some [aS (.sl .int) a.2.2.1])) (0,c,[],()))
def zQB:=zy [(257,0,{n:=22,tm:=[(0,.sl 0 []),(3,.sl 1 []),(4,ti)],lo:=[],ro:=[(0,.sl .int,false),(1,.sl .int,true)]})]
def zP9 (b:List LI)(f:zgn b=true):∃N,zEI N b=some [aS (.sl .int)<|zeP b]:=by
 have e:=zS.1 f;have d:=zcY e.len;refine⟨b.length+1,?_⟩;unfold zEI oN;conv=>zeta
 refine(zbg b (λi a=>((i:Int),b,a,())) _ (λ_ x a k=>bif few (ln x) then (cond (few<|ln<|ap a [x]) (k<|ap a [x]) none) else none) (λa=>some [AV.one<|.s (.sl .int) a])
  (λi c t rec=>?_) (λt rec=>?_) _ [] (uP _)).trans (zpD (λx=>few (ln x)) (λx=>x) _ b 0 [] (λx g=>⟨zgZ (zcY (e.inv.2 x g _ (qF.2 rfl)).len).2,rfl⟩) (by simpa using d.2))
 {simp only [zbx c,zY c,zbi c,cT,zV c d.1,ze9]};{simp only [zbq,cF]}
def zJq:vU 257 zz2:=kF1 zsU zZ zB zu zQB zP9
abbrev zgo (k:ax):Bool:=pc (∀c∈Ty.cells .kept k,CVB sm c)
abbrev zdK (k:ax):ax:=k
def zz3:Run:=rF1 (dT .kept) λb=>(zgo b,[aT .kept<|zdK b])
def zEJ (N:Nat)(a:ax):OA:=
 (oN (few<|ln<|ap [] a.aw)<|oN (few<|ln<|ap [] a.au)<|some [.agg [.s .bool<|ap [] a.aw,.s .slot<|ap [] a.au]])
def zQa (a:ax)(d:zgo a=true):∃N,zEJ N a=some [aT .kept<|zdK a]:=by have h:=zS.1 d;have b:=zn9 (h (.s .bool a.aw) (by simp[Ty.cells]));have c:=zn9 (h (.s .slot a.au) (by simp[Ty.cells]));refine⟨0,?_⟩;simp only[zEJ,ze9,b,c,cT];rfl
def zJs:vU 360 zz3:=kF1 zsU zZ zB zu (zy []) zQa
def zdF (g:ah):Bool:=pc (∀c∈Ty.cells .guest g,CVB sm c)
abbrev zde (g:ah):ah:=g
def zz4:Run:=rF1 (dT .guest) λb=>(zdF b,[aT .guest<|zde b])
def zEK (N:Nat)(a:ah):OA:=
 (oN (few<|ln<|ap [] a.az)<|oN (few<|ln<|ap [] a.aA)<|oN (few<|ln<|ap [] a.ay)<|oN (few<|ln<|ap [] a.aC)<|some [.agg [.s .ins<|ap [] a.az,.i .i64 a.A,.i .i64 a.Pc,.s .slot<|ap [] a.aA,.s .slot<|ap [] a.ay,.i .i64 a.Ctl.ar,.i .i64 a.Ctl.Post,.b a.Ctl.Open,.i .i64 a.an,.i .i64 a.Exit.Kind,.i .i64 a.Exit.af,.b a.Exit.Write,.i .i64 a.Exit.N,.b a.aF,.s .int<|ap [] a.aC]])
def zQb (a:ah)(f:zdF a=true):∃N,zEK N a=some [aT .guest<|zde a]:=by have h:=zS.1 f;have b:=zn9 (h (.s .ins a.az) (by simp[Ty.cells]));have c:=zn9 (h (.s .slot a.aA) (by simp[Ty.cells]));have d:=zn9 (h (.s .slot a.ay) (by simp[Ty.cells]));have e:=zn9 (h (.s .int a.aC) (by simp[Ty.cells]));refine⟨0,?_⟩;simp only[zEK,ze9,b,c,d,e,cT];rfl
def zJw:vU 403 zz4:=kF1 zsU zZ zB zu (zy []) zQb
def z5g:zbf:=[(121,zmz),(154,zCg),(257,zz2),(360,zz3),(403,zz4)]++z9w
def zRv:zN z5g:=zi zzx (zi zE7<|zi zJq<|zi zJs<|zi zJw zsU)
def zfX (l:List ah):Bool:=pc (CVB sm<|.s .guest l)
abbrev zgq (l:List ah):List ah:=l
def zvm:Run:=rF1 (dS .guest) λb=>(zfX b,[aS .guest<|zgq b])
def zzs (N:Nat)(c:lG):OA:=
 (r0 (σ:=(Int×lG×lG×Unit)) N (λd a=>let b:=ix a.2.1 a.1 zI; (cond (ilt a.1<|ln a.2.1) (oN (inb a.1<|ln a.2.1)<|oN (zdF b)<|oN (few<|ln<|ap a.2.2.1 [zde b])<|d (zK .i64 a.1 1,a.2.1,ap a.2.2.1 [zde b],()))<|some [aS .guest a.2.2.1])) (0,c,[],()))
def zK8:=zy [(370,0,{n:=21,tm:=[(0,.sl 0 []),(3,.sl 1 []),(4,ti)],lo:=[],ro:=[(0,.guest,false),(1,.guest,true)]})]
def zJ2 (b:List ah)(f:zfX b=true):∃N,zzs N b=some [aS .guest<|zgq b]:=by
 have e:=zS.1 f;have d:=zcY e.len;refine⟨b.length+1,?_⟩;unfold zzs oN;conv=>zeta
 refine(zbg b (λi a=>((i:Int),b,a,())) _ (λ_ x a k=>bif zdF x then (cond (few<|ln<|ap a [zde x]) (k<|ap a [zde x]) none) else none) (λa=>some [AV.one<|.s .guest a])
  (λi c t rec=>?_) (λt rec=>?_) _ [] (uP _)).trans (zpD zdF zde _ b 0 [] (λx g=>⟨zbn<|e.inv.2 x g,rfl⟩) (by simpa using d.2))
 {simp only [zbx c,zY c,zbi c,cT,zV c d.1]};{simp only [zbq,cF]}
def zDU:vU 370 zvm:=kF1 zRv zZ zB zu zK8 zJ2
def z5h:zbf:=[(370,zvm)]++z5g
def zRw:zN z5h:=zi zDU zRv
abbrev zjT (m:Mon):Bool:=pc (∀c∈Ty.cells .mon m,CVB sm c)
abbrev znr (m:Mon):Mon:=m
def zCt:Run:=rF1 (dT .mon) λb=>(zjT b,[aT .mon<|znr b])
def zIl (N:Nat)(b:Mon):OA:=
 (oN (few<|ln<|ap [] b.ae)<|oN (zgn b.Out)<|oN (few<|ln<|ap [] b.av)<|oN (zfX b.ad)<|oN (few<|ln<|ap [] b.Outs)<|r0 (σ:=(Int×Int×Int×Int×Int×Int×Int×lK×lS×lM×lB×lG×LI×lK×lS×lM×lB×lG×LI×lK×Unit)) N (λf a=>let b:=a.2.2.2.2.2.2.2.2;let g:=b.2.2.2.2.2;let e:=b.2.2.2.2.1;let c:=g.1;let d:=ap a.2.2.2.2.2.2.2.1 [zdK<|ix c a.1 zdi]; (cond (ilt a.1<|ln c) (oN (inb a.1<|ln c)<|oN (zgo<|ix c a.1 zdi)<|oN (few<|ln d)<|f (zK .i64 a.1 1,a.2.1,a.2.2.1,a.2.2.2.1,a.2.2.2.2.1,a.2.2.2.2.2.1,a.2.2.2.2.2.2.1,d,b.1,b.2.1,b.2.2.1,b.2.2.2.1,e,c,g.2.1,g.2.2.1,g.2.2.2.1,g.2.2.2.2.1,g.2.2.2.2.2.1,g.2.2.2.2.2.2.1,()))<|some [.agg [.s .slot b.1,.s (.sl .int) b.2.1,.s .bool b.2.2.1,.s .guest b.2.2.2.1,.s .int e,.i .i64 a.2.1,.i .i64 a.2.2.1,.s .kept a.2.2.2.2.2.2.2.1,.i .i64 a.2.2.2.1]])) (0,b.an,b.ar,b.Own,0,0,0,[],ap [] b.ae,zeP b.Out,ap [] b.av,zgq b.ad,ap [] b.Outs,b.ai,[],[],[],[],[],[],()))
def zUC:=zy [(201,0,{n:=48,tm:=[(1,.lp 0 0),(2,.lp 1 0),(3,.sl 0 []),(4,ti)],lo:=[(0,[.sl 1 [],.sl 2 [],.sl 3 [],.sl 4 [],.sl 5 [],ti,ti,.sl 6 [],ti]),(1,[.sl 7 [],.sl 8 [],.sl 9 [],.sl 10 [],.sl 11 [],ti,ti,.sl 12 [],ti])],ro:=[(0,.kept,true),(1,.slot,true),(2,.sl .int,true),(3,.bool,true),(4,.guest,true),(5,.int,true),(6,.kept,false),(7,.slot,true),(8,.sl .int,true),(9,.bool,true),(10,.guest,true),(11,.int,true),(12,.kept,true)]})]
def zSV (a:Mon)(n:zjT a=true):∃N,zIl N a=some [aT .mon<|znr a]:=by
 have h:=zS.1 n;have f:=zn9 (h (.s .slot a.ae) (by simp[Ty.cells]));have g:zgn a.Out=true:=zbn (h (.s (.sl .int) a.Out) (by simp[Ty.cells]));have j:=zn9 (h (.s .bool a.av) (by simp[Ty.cells]));have l:zfX a.ad=true:=zbn (h (.s .guest a.ad) (by simp[Ty.cells]));have m:=zn9 (h (.s .int a.Outs) (by simp[Ty.cells]));have d:CVB sm (.s .kept a.ai):=h (.s .kept a.ai) (by simp[Ty.cells]);have e:=zcY d.len;refine⟨a.ai.length+1,?_⟩;unfold zIl oN;conv=>zeta
 simp only[ze9,f,g,j,l,m,cT];refine(zbg a.ai (λi b=>((i:Int),a.an,a.ar,a.Own,0,0,0,b,a.ae,zeP a.Out,a.av,zgq a.ad,a.Outs,a.ai,[],[],[],[],[],[],())) _
  (λ_ x b k=>bif zgo x then (cond (few<|ln<|ap b [zdK x]) (k<|ap b [zdK x]) none) else none) (λb=>some [AV.agg<|Ty.cells .mon ⟨a.ae,a.Out,a.av,a.ad,a.Outs,a.an,a.ar,b,a.Own⟩])
  (λi c t rec=>?_) (λt rec=>?_) _ [] (uP _)).trans (zpD zgo zdK _ a.ai 0 [] (λx p=>⟨zbn<|d.inv.2 x p,rfl⟩) (by simpa using e.2))
 {simp only [zbx c,zY c,zbi c,cT,zV c e.1]};{simp only [zbq,cF];rfl}
def zMm:vU 201 zCt:=kF1 zRw zZ zB zu zUC zSV
def z5i:zbf:=[(201,zCt)]++z5h
def zRx:zN z5i:=zi zMm zRw
def zgF (h:ac)(_:Int):Bool:=pc (zcv h)
def zbl (h:ac)(m:Int):Mon:=bif i0 m (ln h.aa) then ix h.aa m zh else Ty.dflt .mon
def znM (h:ac)(m:Int):Bool:=i0 m (ln h.aa)
def zv7:Run:=rF2 dH dI λb c=>(zgF b c,[aT .mon<|zbl b c,aB<|znM b c])
def zNY (N:Nat)(b:ac)(c:Int):OA:=
 let d:=ix b.aa c zh;let a:=znr d; (oN (zM c 0<|wsub .i64 (ln b.aa) 1)<|cond (nB<|zk c 0<|wsub .i64 (ln b.aa) 1) (some [.agg [.s .slot [],.s (.sl .int) [],.s .bool [],.s .guest [],.s .int [],.i .i64 0,.i .i64 0,.s .kept [],.i .i64 0],aB false])<|oN (inb c<|ln b.aa)<|oN (zjT d)<|some [.agg [.s .slot a.ae,.s (.sl .int) a.Out,.s .bool a.av,.s .guest a.ad,.s .int a.Outs,.i .i64 a.an,.i .i64 a.ar,.s .kept a.ai,.i .i64 a.Own],aB true])
def zVm (b:ac)(a:Int)(f:zgF b a=true):∃N,zNY N b a=some [aT .mon<|zbl b a,aB<|znM b a]:=by
 have h:=(zS.1 f).mons;refine⟨0,?_⟩;unfold zNY zbl znM oN nB;conv=>zeta
 have e:zk a 0 (wsub .i64 (ln b.aa) 1)=i0 a (ln b.aa):=zBP (zcY h.len).1 a;rw[e];cases c:i0 a (ln b.aa);{simp [zM,Ty.cells,Ty.dflt]};{have d:zjT (ix b.aa a zh)=true:=zbn (h.inv.2 _<|zbD c _);simp only[zM,cT,uA,cF,zF c,d];rfl}
def zzw:vU 73 zv7:=kF2 zRx zZ zB zu (zy []) zVm
def z5j:zbf:=[(73,zv7)]++z5i
def z2T:zN z5j:=zi zzw zRx
def z5k:zbf:=z5j
def z2U:zN z5k:=z2T
def z9x:zbf:=z5k
def zwL:∀f a,zl z9x f=some a->Holds Tryz.prog f a:=z2U
def C0:k0:=⟨-1,0⟩
def zbz:Bool:=true
abbrev zW:k0:=C0
def zle:Run:=rF0 (zbz,[aT .slot zW])
def zXr (N:Nat)  : OA :=
 (some [.agg [.i .i64<|-1,.i .i64 0]])
def zBW  (a:zbY big []) (b:zbz=true):∃N,zXr N  = some [aT .slot zW]:=by exact⟨0,rfl⟩
def zw0:vU 215 zle:=hF0 zwL zZ zB zu (zy []) zBW
def zLG:vU 210 zle:=hF0 zwL zZ zB zu (zy []) zBW
def zLO:vU 168 zmz:=hF3 zwL zZ zB zu (zy []) zFf
def z5m:zbf:=[(215,zle),(210,zle),(168,zmz)]++z9x
def zF3:zN z5m:=zi zw0 (zi zLG<|zi zLO zwL)
def zdE (r:Int):Bool:=ige r 0&&ile r 3
def zbZ (_:Int):Bool:=true
abbrev zgj (r:Int):Bool:=zdE r
def zlS:Run:=rF1 dI λb=>(zbZ b,[aB<|zgj b])
def zQ4 (N:Nat)(a:Int):OA:=
 (oN (zM a 0 3)<|some [aB<|zk a 0 3])
def zw6 (a:Int)(b:zbY big [aI a])(c:zbZ a=true):∃N,zQ4 N a=some [aB<|zgj a]:=by exact⟨0,rfl⟩
def zGE:vU 185 zlS:=hF1 zF3 zZ zB zu (zy []) zw6
def zGn:vU 381 zlS:=hF1 zF3 zZ zB zu (zy []) zw6
def z5n:zbf:=[(185,zlS),(381,zlS)]++z5m
def znc:zN z5n:=zi zGE (zi zGn zF3)
def zd0 (a b:Int):Int:=bif zdE a then (cond (zdE b) (wand .i64 a b) 0) else 0
abbrev zgD (a b:Int):Int:=zd0 a b
def zjJ:Run:=rF2 dI dI λb c=>(zb0 b c,[aI<|zgD b c])
def zwB (N:Nat)(a b:Int):OA:=
 (oN (zbZ a)<|cond (nB<|zgj a) (some [aI 0])<|oN (zbZ b)<|cond (nB<|zgj b) (some [aI 0])<|some [aI<|wand .i64 a b])
def ztI (a b:Int)(c:zbY big [aI a,aI b])(d:zb0 a b=true):∃N,zwB N a b=some [aI<|zgD a b]:=by refine⟨0,?_⟩;unfold zwB zgD zd0 zgj oN nB;cases zdE a<;>cases zdE b<;>rfl
def zBC:vU 386 zjJ:=hF2 znc zZ zB zu (zy []) ztI
def zBz:vU 385 zjJ:=hF2 znc zZ zB zu (zy []) ztI
def enough (a b:Int):Bool:=bif zdE a then (cond (zdE b) (ieq (wand .i64 a b) b) false) else false
abbrev zdh (a b:Int):Bool:=enough a b
def zor:Run:=rF2 dI dI λb c=>(zb0 b c,[aB<|zdh b c])
def zHY (N:Nat)(b a:Int):OA:=
 (oN (zbZ b)<|cond (zgj b) (oN (zbZ a)<|cond (zgj a) (some [aB<|ieq (wand .i64 b a) a]) oF) oF)
def zBU (a b:Int)(c:zbY big [aI a,aI b])(d:zb0 a b=true):∃N,zHY N a b=some [aB<|zdh a b]:=by refine⟨0,?_⟩;unfold zHY zdh enough zgj oN;cases zdE a<;>cases zdE b<;>rfl
def zLS:vU 64 zor:=hF2 znc zZ zB zu (zy []) zBU
def zLA:vU 212 zor:=hF2 znc zZ zB zu (zy []) zBU
def zbv (t:List k0)(p:Int):k0:=bif i0 p (ln t) then ix t p zQ else C0
def zgl (_:List k0)(_:Int):Bool:=true
abbrev zeM (t:List k0)(p:Int):k0:=zbv t p
def zoB:Run:=rF2 (dS .slot) dI λb c=>(zgl b c,[aT .slot<|zeM b c])
def zIc (N:Nat)(a:lS)(b:Int):OA:=
 (oN (zM b 0<|wsub .i64 (ln a) 1)<|cond (nB<|zk b 0<|wsub .i64 (ln a) 1) (oN zbz<|some [.agg [.i .i64 zW.af,.i .i64 zW.aj]])<|oN (inb b<|ln a)<|some [.agg [.i .i64 (ix a b zQ).af,.i .i64 (ix a b zQ).aj]])
def zSN (b:List k0)(a:Int)(c:zbY big [aS .slot b,aI a])(g:zgl b a=true):∃N,zIc N b a=some [aT .slot<|zeM b a]:=by have f:=len0 c;refine⟨0,?_⟩;unfold zIc zeM zbv oN nB;have e:zk a 0 (wsub .i64 (ln b) 1)=i0 a (ln b):=zsx f a;rw[e];cases d:i0 a (ln b);{rfl};{rw [zF d];rfl}
def zL6:vU 173 zoB:=hF2 znc zZ zB zu (zy []) zSN
def zHS (N:Nat)(a:lS)(b:Int):OA:=
 (oN (zb0 b<|ln a)<|cond (nB<|zfj b<|ln a) (oN zbz<|some [.agg [.i .i64 zW.af,.i .i64 zW.aj]])<|oN (inb b<|ln a)<|some [.agg [.i .i64 (ix a b zQ).af,.i .i64 (ix a b zQ).aj]])
def zSu (a:List k0)(b:Int)(d:zgl a b=true):∃N,zHS N a b=some [aT .slot<|zeM a b]:=by refine⟨0,?_⟩;unfold zHS zeM zbv zfj oN nB;cases c:i0 b (ln a);{rfl};{rw [zF c];rfl}
def zLL:vU 171 zoB:=kF2 znc zZ zB zu (zy []) zSu
def z5o:zbf:=[(386,zjJ),(385,zjJ),(64,zor),(212,zor),(173,zoB),(171,zoB)]++z5n
def zjv:zN z5o:=zi zBC (zi zBz<|zi zLS<|zi zLA<|zi zL6<|zi zLL znc)
def zcx (a b:k0):Bool:=ieq a.af b.af&&ieq a.aj b.aj
def below' (a b:k0):Bool:=bif zcx a C0 then true else (cond (ieq a.af b.af) (enough b.aj a.aj) false)
def znL (_ _:k0):Bool:=true
def zp7 (a b:k0):Bool:=below' a b
def zqK:Run:=rF2 (dT .slot) (dT .slot) λb c=>(znL b c,[aB<|zp7 b c])
def zNR (N:Nat)(a:k0)(b:k0):OA:=
 (oN zbz<|cond (cond (ieq a.af zW.af) (ieq a.aj zW.aj) false) oT<|cond (ieq a.af b.af) (oN (zb0 b.aj a.aj)<|some [aB<|zdh b.aj a.aj]) oF)
def zFc (a:k0)(b:k0)(c:zbY big [aT .slot a,aT .slot b])(d:znL a b=true):∃N,zNR N a b=some [aB<|zp7 a b]:=by refine⟨0,?_⟩;unfold zNR zp7 below' zcx zW oN;cases ieq a.af C0.af<;>cases ieq a.aj C0.aj<;>cases ieq a.af b.af<;>rfl
def zPt:vU 230 zqK:=hF2 zjv zZ zB zu (zy []) zFc
def zPl:vU 226 zqK:=hF2 zjv zZ zB zu (zy []) zFc
def zbj (s:k0)(a:List k0):k0 :=
 bif ieq s.af (-1) then C0 else (cond (ieq (zbv a s.af).af<|-1) C0<|cond (ieq (zd0 s.aj (zbv a s.af).aj) 0) C0 ⟨(zbv a s.af).af,zd0 s.aj (zbv a s.af).aj⟩)
def zdf (_:k0)(_:List k0):Bool:=true
def zcS (s:k0)(a:List k0):k0:=zbj s a
def ziL:Run:=rF2 (dT .slot) (dS .slot) λb c=>(zdf b c,[aT .slot<|zcS b c])
def zun (N:Nat)(a:k0)(c:lS):OA:=
 let b:=zeM c a.af; (oN (zgl c a.af)<|oN (zb0 a.aj b.aj)<|cond (ieq a.af<|-1) (oN zbz<|some [.agg [.i .i64 zW.af,.i .i64 zW.aj]])<|cond (ieq b.af<|-1) (oN zbz<|some [.agg [.i .i64 zW.af,.i .i64 zW.aj]])<|cond (ieq (zgD a.aj b.aj) 0) (oN zbz<|some [.agg [.i .i64 zW.af,.i .i64 zW.aj]])<|some [.agg [.i .i64 b.af,.i .i64<|zgD a.aj b.aj]])
def zsn (a:k0)(b:List k0)(c:zbY big [aT .slot a,aS .slot b])(d:zdf a b=true):∃N,zun N a b=some [aT .slot<|zcS a b]:=by
 refine⟨0,?_⟩;unfold zun zcS zbj zeM zgD oN;conv=>zeta
 cases ieq a.af (-1)<;>cases ieq (zbv b a.af).af (-1)<;>cases ieq (zd0 a.aj (zbv b a.af).aj) 0<;>rfl
def zAs:vU 229 ziL:=hF2 zjv zZ zB zu (zy []) zsn
def zAq:vU 225 ziL:=hF2 zjv zZ zB zu (zy []) zsn
def zb2 (x:Int):Int:=bif (ige x 1&&ile x 6) then zNM .i64 (wsub .i64 x 1) 2 else -1
def zc9 (x:Int):Int:=bif (ige x 1&&ile x 6) then zpu (wsub .i64 x 1) 2 else -1
def zga (x:Int):Int:=zb2 x
def zi1:Run:=rF1 dI λb=>(zbZ b,[aI<|zga b])
def zIf (N:Nat)(a:Int):OA:=
 (oN (zM a 1 6)<|cond (nB<|zk a 1 6) (some [aI<|-1])<|oN (ine 2 0)<|some [aI<|zNM .i64 (wsub .i64 a 1) 2])
def zBY (a:Int)(b:zbY big [aI a])(c:zbZ a=true):∃N,zIf N a=some [aI<|zga a]:=by refine⟨0,?_⟩;unfold zIf zga zb2 zk oN nB;cases ige a 1&&ile a 6<;>rfl
def zw1:vU 227 zi1:=hF1 zjv zZ zB zu (zy []) zBY
def zwY:vU 223 zi1:=hF1 zjv zZ zB zu (zy []) zBY
def zjO (x:Int):Int:=zc9 x
def zlU:Run:=rF1 dI λb=>(zbZ b,[aI<|zjO b])
def zA0 (N:Nat)(a:Int):OA:=
 (oN (zM a 1 6)<|cond (nB<|zk a 1 6) (some [aI<|-1])<|oN (ine 2 0)<|some [aI<|zpu (wsub .i64 a 1) 2])
def zw7 (a:Int)(b:zbY big [aI a])(c:zbZ a=true):∃N,zA0 N a=some [aI<|zjO a]:=by refine⟨0,?_⟩;unfold zA0 zjO zc9 zk oN nB;cases ige a 1&&ile a 6<;>rfl
def zGH:vU 228 zlU:=hF1 zjv zZ zB zu (zy []) zw7
def zGp:vU 224 zlU:=hF1 zjv zZ zB zu (zy []) zw7
def z5p:zbf:=[(230,zqK),(226,zqK),(229,ziL),(225,ziL),(227,zi1),(223,zi1),(228,zlU),(224,zlU)]++z5o
def zF4:zN z5p:=zi zPt (zi zPl<|zi zAs<|zi zAq<|zi zw1<|zi zwY<|zi zGH<|zi zGp zjv)
def zit (k:ax)(a b:List k0)(i:Nat):Bool :=
 zcx (ix k.au i zQ) (cond (ix k.aw i false) (zbj (ix a i zQ) b) C0)
def zh2 (k:ax)(a b:List k0):Bool :=
 bif ine (ln k.aw) (ln a) then false else (cond (ine (ln k.au)<|ln a) false<|zkU (zit k a b) a.length 0)
def zDc {a b:Type}{l:List a}{m:List b}(h:ine (ln l) (ln m)=false):l.length=m.length:=by have:(ln l==ln m)=true:=(by simpa [ine,bne] using h);have:=eq_of_beq this;simp only[ln] at this;omega
def zjM (_:ax)(_ _:List k0):Bool:=true
def zjL (k:ax)(a b:List k0):Bool:=zh2 k a b
def zow:Run:=rF3 (dT .kept) (dS .slot) (dS .slot) λb c d=>(zjM b c d,[aB<|zjL b c d])
def zH3 (N:Nat)(b:ax)(e h:lS):OA:=
 (cond (ine (ln b.aw)<|ln e) oF<|cond (ine (ln b.au)<|ln e) oF<|r0 (σ:=(Int×lS×lS×lB×lS×Unit)) N (λi a=>let d:=a.2.2.2.2.1;let f:=ix a.2.1 a.1 zQ;let g:=i (zK .i64 a.1 1,a.2.1,a.2.2.1,a.2.2.2.1,d,());let c:=ix d a.1 zQ; (cond (ilt a.1<|ln a.2.1) (oN zbz<|oN (inb a.1<|ln a.2.2.2.1)<|cond (ix a.2.2.2.1 a.1 false) (oN (inb a.1<|ln a.2.1)<|oN (zdf f a.2.2.1)<|oN (inb a.1<|ln d)<|cond (nB<|cond (ieq c.af (zcS f a.2.2.1).af) (ieq c.aj (zcS f a.2.2.1).aj) false) oF g)<|oN (inb a.1<|ln d)<|cond (nB<|cond (ieq c.af zW.af) (ieq c.aj zW.aj) false) oF g) oT)) (0,e,h,b.aw,b.au,()))
def zUs:=zy [(222,0,{n:=48,tm:=[(1,.sl 0 []),(2,.sl 1 []),(3,.lp 0 0),(7,ti)],lo:=[(0,[.sl 2 [],.sl 3 []])],ro:=[(0,.slot,false),(1,.slot,false),(2,.bool,false),(3,.slot,false)]})]
def zSE (a:ax)(c d:List k0)(p:zbY big [aT .kept a,aS .slot c,aS .slot d])(q:zjM a c d=true):∃N,zH3 N a c d=some [aB<|zjL a c d]:=by
 have h:=((zb8 (zb8 p).2).1 _ (qF.2 rfl)).len;refine zcd λN f=>?_;unfold zH3 zjL zh2 oN nB;conv=>zeta
 cases m:ine (ln a.aw) (ln c);{cases n:ine (ln a.au) (ln c);{have j:=zDc m;have k:=zDc n;simp only[cF];refine(zbg c (λi (t:Unit)=>((i:Int),c,d,a.aw,a.au,())) _ (λi _ (_:Unit) g=>bif zit a c d i then g () else oF) (λ(t:Unit)=>some [.one<|.b true]) (λi e t rec=>?_) (λt rec=>?_) _ ()<|f h).trans ?_;{simp only [zbx e,zY e,zbi e,zV e h,cT];simp only[zY (l:=a.aw) (i:=i)<|j ▸ e,zY (l:=a.au) (i:=i)<|k ▸ e,zbz,zdf,cT,zit,zcx,zcS,zW,zbi e];cases ix a.aw (↑i) false;{simp only [cF];cases ieq (ix a.au (↑i) zQ).af C0.af<;>cases ieq (ix a.au (↑i) zQ).aj C0.aj<;>rfl};{simp only [cT];generalize zbj c[i] d=z;cases ieq (ix a.au (↑i) zQ).af z.af<;>cases ieq (ix a.au (↑i) zQ).aj z.aj<;>rfl}};{simp only [zbq,cF]};rw[zpO λi t g=>bif zit a c d i then g () else oF,zsX];cases zkU (zit a c d) c.length 0<;>rfl};{rfl}};{rfl}
def zLX:vU 222 zow:=hF3 zF4 zZ zB zu zUs zSE
def zHO (N:Nat)(c:ax)(e h:lS):OA:=
 (cond (ine (ln c.aw)<|ln e) oF<|cond (ine (ln c.au)<|ln e) oF<|r0 (σ:=(Int×Int×lS×lS×lS×lB×Unit)) N (λi a=>let c:=a.2.2.2.2;let b:=a.2.1;let f:=ix a.2.2.1 b zQ;let g:=i (a.1,zK .i64 b 1,a.2.2.1,a.2.2.2.1,c.1,c.2.1,());let d:=ix c.1 b zQ; (cond (ilt b a.1) (oN (inb b<|ln c.1)<|oN zbz<|oN (inb b<|ln c.2.1)<|cond (ix c.2.1 b false) (oN (inb b<|ln a.2.2.1)<|oN (zdf f a.2.2.2.1)<|cond (nB<|cond (ieq d.af (zcS f a.2.2.2.1).af) (ieq d.aj (zcS f a.2.2.2.1).aj) false) oF g)<|cond (nB<|cond (ieq d.af zW.af) (ieq d.aj zW.aj) false) oF g) oT)) (ln c.au,0,e,h,c.au,c.aw,()))
def zUl:=zy [(221,0,{n:=48,tm:=[(1,.sl 0 []),(2,.sl 1 []),(3,.lp 0 0),(25,.sl 2 []),(26,ti),(27,ti)],lo:=[(0,[.sl 3 [],.sl 2 []])],ro:=[(0,.slot,false),(1,.slot,false),(2,.slot,false),(3,.bool,false)]})]
def zSq (a:ax)(c d:List k0)(p:zbY big [aT .kept a,aS .slot c,aS .slot d])(r:zjM a c d=true):∃N,zHO N a c d=some [aB<|zjL a c d]:=by
 have q:=((zb8 (zb8 p).2).1 _ (qF.2 rfl)).len;refine zcd λN h=>?_;unfold zHO zjL zh2 oN nB;conv=>zeta
 cases m:ine (ln a.aw) (ln c);{cases n:ine (ln a.au) (ln c);{have k:=zDc m;have g:=zDc n;have f:a.au.length<=big:=g ▸ q;simp only[cF];refine(zbg a.au (λi (t:Unit)=>(ln a.au,(i:Int),c,d,a.au,a.aw,())) _ (λi _ (_:Unit) j=>bif zit a c d i then j () else oF) (λ(t:Unit)=>some [.one<|.b true]) (λi e t rec=>?_) (λt rec=>?_) _ ()<|h f).trans ?_;{simp only [zbx e,zY e,zbi e,zV e f,cT];simp only[zY (l:=a.aw) (i:=i)<|k.trans g.symm ▸ e,zY (l:=c) (i:=i)<|g ▸ e,zbz,zdf,cT,zit,zcx,zcS,zW,zbi e];cases ix a.aw (↑i) false;{simp only [cF];cases ieq a.au[i].af C0.af<;>cases ieq a.au[i].aj C0.aj<;>rfl};{simp only [cT];generalize zbj (ix c (↑i) zQ) d=z;cases ieq a.au[i].af z.af<;>cases ieq a.au[i].aj z.aj<;>rfl}};{simp only [zbq,cF]};rw[zpO λi t j=>bif zit a c d i then j () else oF,zsX,g];cases zkU (zit a c d) c.length 0<;>rfl};{rfl}};{rfl}
def zLF:vU 221 zow:=hF3 zF4 zZ zB zu zUl zSq
def z5q:zbf:=[(222,zow),(221,zow)]++z5p
def ztl:zN z5q:=zi zLX (zi zLF zF4)
def zqn (a:List k0)(b:List ax):List ah->Nat->Bool
 |[],_=>true
 |g::l,i=>bif ilt (i:Int) (ln b) then (cond (zh2 (ix b (i:Int) zdi) g.ay a) (zqn a b l<|i+1) false) else true
def zyt {e:Type}(a:List k0)(b:List ax)(r c:Option e):∀(l:List ah) (i:Nat),
 goL (λi g (_:Unit) d=>bif ilt (i:Int) (ln b) then (cond (zh2 (ix b (i:Int) zdi) g.ay a) (d ()) r) else c) (λ_=>c) l i ()=bif zqn a b l i then c else r
 |[],_=>rfl
 |g::l,i=>by simp only[goL,zqn];cases ilt (i:Int) (ln b);{rfl};{cases zh2 (ix b (i:Int) zdi) g.ay a;{rfl};{exact zyt a b r c l (i+1)}}
def zWH {i:Nat}{a:Type}{l:List a}(h:ilt (i:Int) (ln l)=true):inb (i:Int) (ln l)=true:=by have:=qD h;exact qL ⟨by omega,this⟩
def tablesOf (m:Mon):Bool:=zqn m.ae m.ai m.ad 0
def zkD (h:ac):Bool:=h.aa.all tablesOf
def zfI (_:ac):Bool:=true
def zdx (h:ac):Bool:=zkD h
def zee:Run:=rF1 dH λb=>(zfI b,[aB<|zdx b])
def zuy (N:Nat)(e:ac):OA:=
 (r0 (σ:=(Int×lM×lN×lE×lE×Unit)) N (λn b=>let h:=ix b.2.2.1 b.1 zh; (cond (ilt b.1<|ln b.2.2.1) (oN (inb b.1<|ln b.2.2.1)<|r0 (σ:=(Int×Int×Int×Int×Int×Int×Int×Int×Int×Int×Int×lM×lN×lE×lE×Unit)) N (λp a=>let b:=a.2.2.2.2.2.2.2.2;let l:=b.2.2.2.2.2.1;let k:=b.2.2.2.2.2.2.1;let c:=a.2.1;let d:=b.2.2.2.2.1;let j:=(ix d a.2.2.1 zh).ae;let g:=(ix d a.2.2.2.2.2.1 zh).ad;let m:=(ix g c zI).ay;let i:=n (zK .i64 a.1 1,b.2.2.2.1,d,l,k,());let f:=(ix d b.2.1 zh).ai; (cond (ilt c<|ln g) (cond (ilt c<|ln f) (oN (inb c<|ln f)<|oN (inb c<|ln g)<|oN (zjM (ix f c zdi) m j)<|cond (nB<|zjL (ix f c zdi) m j) oF<|p (a.1,zK .i64 c 1,a.2.2.1,a.2.2.2.1,a.2.2.2.2.1,a.2.2.2.2.2.1,a.2.2.2.2.2.2.1,a.2.2.2.2.2.2.2.1,b.1,b.2.1,b.2.2.1,b.2.2.2.1,d,l,k,())) i) i)) (b.1,0,b.1,b.1,b.1,b.1,b.1,h.an,h.ar,b.1,h.Own,b.2.1,b.2.2.1,b.2.2.2.1,b.2.2.2.2.1,())) oT)) (0,e.ag,e.aa,e.am,e.ak,()))
def zEj:=zy [(92,0,{n:=47,tm:=[(1,.lp 0 0),(3,ti)],lo:=[(0,[.sl 0 [],.sl 1 [],.sl 2 [],.sl 3 []])],ro:=[(0,.sl .int,false),(1,.mon,false),(2,.entry,false),(3,.entry,false)]}),(92,2,{n:=47,tm:=[(1,.lp 0 0),(3,ti),(4,.lp 1 0),(5,ti)],lo:=[(0,[.sl 0 [],.sl 1 [],.sl 2 [],.sl 3 []]),(1,[.sl 1 [0],.sl 1 [1],.sl 1 [2],.sl 1 [3],.sl 1 [4],ti,ti,.sl 1 [7],ti])],ro:=[(0,.sl .int,false),(1,.mon,false),(2,.entry,false),(3,.entry,false)]})]
def zD7 (a:ac)(n:zbY big [aH a])(q:zfI a=true):∃N,zuy N a=some [aB<|zdx a]:=by
 have m:CVB big (.s .mon a.aa):=(zb8 n).1 _ (by simp[AV.cvs,zbo]);have k:=m.len;refine zcd λN d=>?_;unfold zuy oN nB;conv=>zeta
 refine(zbg a.aa (λi (t:Unit)=>((i:Int),a.ag,a.aa,a.am,a.ak,())) _ (λ_ (x:Mon) (_:Unit) l=>bif tablesOf x then l () else oF) (λ(t:Unit)=>some [.one<|.b true]) (λi c t rec=>?_) (λt rec=>?_) _ ()<|d k).trans ?_;{simp only [zbx c,zY c,zbi c,zV c k,cT];have e:a.aa[i].ad.length<=big:=(m.inv.2 _ (jB c) (.s .guest _) (by simp[Ty.cells])).len;refine(zbg a.aa[i].ad (λj (u:Unit)=>((i:Int),(j:Int),(i:Int),(i:Int),(i:Int),(i:Int),(i:Int),a.aa[i].an,a.aa[i].ar,(i:Int),a.aa[i].Own,a.ag,a.aa,a.am,a.ak,())) _ (λj (g:ah) (_:Unit) l=>bif ilt (j:Int) (ln a.aa[i].ai) then (cond (zh2 (ix a.aa[i].ai (j:Int) zdi) g.ay a.aa[i].ae) (l ())<|oF) else rec (((i+1:Nat):Int),a.ag,a.aa,a.am,a.ak,())) (λ(u:Unit)=>rec (((i+1:Nat):Int),a.ag,a.aa,a.am,a.ak,())) (λj h u f=>?_) (λu f=>?_) _ ()<|d e).trans ?_;{simp only [zbx h,zY h,zbi h,zV h e,cT,zY c,zbi c,zV c k];cases p:ilt (j:Int) (ln a.aa[i].ai);{rfl};{simp only [cT,zWH p,zjM,zjL];cases zh2 (ix a.aa[i].ai (↑j) zdi) a.aa[i].ad[j].ay a.aa[i].ae<;>rfl}};{simp only [zbq,cF,zY c,zbi c,zV c k]};exact zyt _ _ _ _ _ _};{simp only [zbq,cF]};rw[zfc];unfold zdx zkD;cases a.aa.all tablesOf<;>rfl
def zkF:vU 92 zee:=hF1 ztl zZ zB zu zEj zD7
def zum (N:Nat)(h:ac):OA:=
 (r0 (σ:=(Int×Int×lN×Unit)) N (λl c=>let b:=c.2.1;let g:=ix c.2.2.1 b zh; (cond (ilt b c.1) (oN (inb b<|ln c.2.2.1)<|r0 (σ:=(Int×Int×Int×Int×Int×Int×Int×Int×Int×Int×Int×Int×lN×Unit)) N (λm a=>let b:=a.2.2.2.2.2.2;let c:=b.2.2.2.2;let d:=c.2.2.1;let j:=(ix d a.2.2.2.1 zh).ae;let i:=l (a.2.1,zK .i64 a.2.2.1 1,d,());let f:=(ix d b.1 zh).ad;let k:=(ix f a.1 zI).ay;let e:=(ix d c.1 zh).ai; (cond (ilt a.1<|ln f) (cond (ilt a.1<|ln e) (oN (inb a.1<|ln e)<|oN (inb a.1<|ln f)<|oN (zjM (ix e a.1 zdi) k j)<|cond (nB<|zjL (ix e a.1 zdi) k j) oF<|m (zK .i64 a.1 1,a.2.1,a.2.2.1,a.2.2.2.1,a.2.2.2.2.1,a.2.2.2.2.2.1,b.1,b.2.1,b.2.2.1,b.2.2.2.1,c.1,c.2.1,d,())) i) i)) (0,c.1,b,b,b,b,b,b,g.an,g.ar,b,g.Own,c.2.2.1,())) oT)) (ln h.aa,0,h.aa,()))
def zEh:=zy [(91,0,{n:=43,tm:=[(7,.sl 0 []),(8,ti),(9,ti)],lo:=[],ro:=[(0,.mon,false)]}),(91,2,{n:=43,tm:=[(4,.lp 0 0),(5,ti),(7,.sl 0 []),(8,ti),(9,ti)],lo:=[(0,[.sl 0 [0],.sl 0 [1],.sl 0 [2],.sl 0 [3],.sl 0 [4],ti,ti,.sl 0 [7],ti])],ro:=[(0,.mon,false)]})]
def zDW (a:ac)(n:zbY big [aH a])(q:zfI a=true):∃N,zum N a=some [aB<|zdx a]:=by
 have m:CVB big (.s .mon a.aa):=(zb8 n).1 _ (by simp[AV.cvs,zbo]);have k:=m.len;refine zcd λN d=>?_;unfold zum oN nB;conv=>zeta
 refine(zbg a.aa (λi (t:Unit)=>(ln a.aa,(i:Int),a.aa,())) _ (λ_ (x:Mon) (_:Unit) l=>bif tablesOf x then l () else oF) (λ(t:Unit)=>some [.one<|.b true]) (λi c t rec=>?_) (λt rec=>?_) _ ()<|d k).trans ?_;{simp only [zbx c,zY c,zbi c,zV c k,cT];have e:a.aa[i].ad.length<=big:=(m.inv.2 _ (jB c) (.s .guest _) (by simp[Ty.cells])).len;refine(zbg a.aa[i].ad (λj (u:Unit)=>((j:Int),ln a.aa,(i:Int),(i:Int),(i:Int),(i:Int),(i:Int),(i:Int),a.aa[i].an,a.aa[i].ar,(i:Int),a.aa[i].Own,a.aa,())) _ (λj (g:ah) (_:Unit) l=>bif ilt (j:Int) (ln a.aa[i].ai) then (cond (zh2 (ix a.aa[i].ai (j:Int) zdi) g.ay a.aa[i].ae) (l ())<|oF) else rec (ln a.aa,((i+1:Nat):Int),a.aa,())) (λ(u:Unit)=>rec (ln a.aa,((i+1:Nat):Int),a.aa,())) (λj h u f=>?_) (λu f=>?_) _ ()<|d e).trans ?_;{simp only [zbx h,zY h,zbi h,zV h e,cT,zY c,zbi c,zV c k];cases p:ilt (j:Int) (ln a.aa[i].ai);{rfl};{simp only [cT,zWH p,zjM,zjL];cases zh2 (ix a.aa[i].ai (↑j) zdi) a.aa[i].ad[j].ay a.aa[i].ae<;>rfl}};{simp only [zbq,cF,zY c,zbi c,zV c k]};exact zyt _ _ _ _ _ _};{simp only [zbq,cF]};rw[zfc];unfold zdx zkD;cases a.aa.all tablesOf<;>rfl
def zkE:vU 91 zee:=hF1 ztl zZ zB zu zEh zDW
def zb3 (h:ac)(e:aq):Bool :=
 bif i0 (zb2 e.Tag) (ln h.aa) then (bif i0 (zc9 e.Tag) (ln (ix h.aa (zb2 e.Tag) zh).ad) then
  below' ⟨e.ac,e.aj⟩ (zbj (zbv (ix (ix h.aa (zb2 e.Tag) zh).ad (zc9 e.Tag) zI).ay e.af) (ix h.aa (zb2 e.Tag) zh).ae) else false) else false
def ziP (h:ac)(b:List aq):Bool:=b.all (zb3 h)
def zd4 (_:ac)(_:List aq):Bool:=true
def zcP (h:ac)(b:List aq):Bool:=ziP h b
def zdV:Run:=rF2 dH (dS .entry) λb c=>(zd4 b c,[aB<|zcP b c])
def zs9 (N:Nat)(f:ac)(m:lE):OA:=
 (r0 (σ:=(Int×lE×lM×lN×lE×lE×Unit)) N (λn a=>let e:=a.2.2.2.1;let d:=inb a.1<|ln a.2.1;let b:=ix a.2.1 a.1 zdl;let l:=(⟨b.ac,b.aj⟩:k0);let h:=zjO b.Tag;let g:=zga b.Tag;let i:=inb g<|ln e;let c:=ix e g zh;let k:=(ix c.ad h zI).ay;let j:=zeM k b.af; (cond (ilt a.1<|ln a.2.1) (oN d<|oN (zbZ b.Tag)<|oN d<|oN (zbZ b.Tag)<|oN (zM g 0<|wsub .i64 (ln e) 1)<|cond (nB<|zk g 0<|wsub .i64 (ln e) 1) oF<|oN i<|oN (zM h 0<|wsub .i64 (ln c.ad) 1)<|cond (nB<|zk h 0<|wsub .i64 (ln c.ad) 1) oF<|oN i<|oN (inb h<|ln c.ad)<|oN d<|oN (zgl k b.af)<|oN i<|oN (zdf j c.ae)<|oN d<|oN d<|oN (znL l<|zcS j c.ae)<|cond (nB<|zp7 l<|zcS j c.ae) oF<|n (zK .i64 a.1 1,a.2.1,a.2.2.1,e,a.2.2.2.2.1,a.2.2.2.2.2.1,())) oT)) (0,m,f.ag,f.aa,f.am,f.ak,()))
def zCM:=zy [(94,0,{n:=84,tm:=[(1,.sl 0 []),(2,.lp 0 0),(5,ti)],lo:=[(0,[.sl 1 [],.sl 2 [],.sl 3 [],.sl 4 []])],ro:=[(0,.entry,false),(1,.sl .int,false),(2,.mon,false),(3,.entry,false),(4,.entry,false)]})]
def zBV (a:ac)(b:List aq)(g:zbY big [aH a,aS .entry b])(p:zd4 a b=true):∃N,zs9 N a b=some [aB<|zcP a b]:=by
 have l:CVB big (.s .mon a.aa):=(zb8 g).1 _ (by simp[AV.cvs,zbo]);have j:=((zb8 (zb8 g).2).1 _ (qF.2 rfl)).len;refine⟨NN,?_⟩;unfold zs9 oN nB;conv=>zeta
 refine(zbg b (λi (_:Unit)=>((i:Int),b,a.ag,a.aa,a.am,a.ak,())) _ (λ_ (x:aq) (_:Unit) k=>bif zb3 a x then k () else oF) (λ_=>oT)
  (λi c t rec=>?_) (λt rec=>?_) _ () (z4Q j)).trans ?_
 {simp only [zbx c,zY c,zbi c,cT,zbZ,zga,zbZ,zjO,zM,zgl,zeM,zdf,zcS,znL,zp7,zV c j];unfold zb3;generalize b[i]=e;have m:zk (zb2 e.Tag) 0 (wsub .i64 (ln a.aa) 1)=i0 (zb2 e.Tag) (ln a.aa):=zsx l.len _;rw[m];cases h:i0 (zb2 e.Tag) (ln a.aa);{rfl};{have d:(ix a.aa (zb2 e.Tag) zh).ad.length<=big:=(l.inv.2 _ (zbD h zh) (.s .guest _) (by simp[Ty.cells])).len;have n:zk (zc9 e.Tag) 0 (wsub .i64 (ln (ix a.aa (zb2 e.Tag) zh).ad) 1)=i0 (zc9 e.Tag) (ln (ix a.aa (zb2 e.Tag) zh).ad):=zsx d _;rw[zF h,n];cases f:i0 (zc9 e.Tag) (ln (ix a.aa (zb2 e.Tag) zh).ad);{rfl};{rw [zF f];simp only[cT,uA,cF];cases below' ⟨e.ac,e.aj⟩ (zbj (zbv (ix (ix a.aa (zb2 e.Tag) zh).ad (zc9 e.Tag) zI).ay e.af) (ix a.aa (zb2 e.Tag) zh).ae)<;>rfl}}};{simp only [zbq,cF]};{rw [zfc];unfold zcP ziP;cases b.all (zb3 a)<;>rfl}
def zjC:vU 94 zdV:=hF2 ztl zZ zB zu zCM zBV
def zs8 (N:Nat)(e:ac)(j:lE):OA:=
 (r0 (σ:=(Int×Int×lE×lM×lN×lE×lE×Unit)) N (λm a=>let d:=a.2.2.2.2.1;let b:=ix a.2.2.1 a.2.1 zdl;let l:=(⟨b.ac,b.aj⟩:k0);let g:=zjO b.Tag;let f:=zga b.Tag;let h:=inb f<|ln d;let c:=ix d f zh;let k:=(ix c.ad g zI).ay;let i:=zeM k b.af; (cond (ilt a.2.1 a.1) (oN (inb a.2.1<|ln a.2.2.1)<|oN (zbZ b.Tag)<|oN (zbZ b.Tag)<|oN (zb0 f<|ln d)<|cond (nB<|zfj f<|ln d) oF<|oN h<|oN (zb0 g<|ln c.ad)<|cond (nB<|zfj g<|ln c.ad) oF<|oN h<|oN (inb g<|ln c.ad)<|oN (zgl k b.af)<|oN h<|oN (zdf i c.ae)<|oN (znL l<|zcS i c.ae)<|cond (nB<|zp7 l<|zcS i c.ae) oF<|m (a.1,zK .i64 a.2.1 1,a.2.2.1,a.2.2.2.1,d,a.2.2.2.2.2.1,a.2.2.2.2.2.2.1,())) oT)) (ln j,0,j,e.ag,e.aa,e.am,e.ak,()))
def zCL:=zy [(93,0,{n:=69,tm:=[(2,.lp 0 0),(10,.sl 0 []),(11,ti),(12,ti)],lo:=[(0,[.sl 1 [],.sl 2 [],.sl 3 [],.sl 4 []])],ro:=[(0,.entry,false),(1,.sl .int,false),(2,.mon,false),(3,.entry,false),(4,.entry,false)]})]
def zBS (a:ac)(b:List aq)(g:zbY big [aH a,aS .entry b])(j:zd4 a b=true):∃N,zs8 N a b=some [aB<|zcP a b]:=by
 have f:=((zb8 (zb8 g).2).1 _ (qF.2 rfl)).len;refine⟨NN,?_⟩;unfold zs8 oN nB;conv=>zeta
 refine(zbg b (λi (_:Unit)=>(ln b,(i:Int),b,a.ag,a.aa,a.am,a.ak,())) _ (λ_ (x:aq) (_:Unit) k=>bif zb3 a x then k () else oF) (λ_=>oT)
  (λi c t rec=>?_) (λt rec=>?_) _ () (z4Q f)).trans ?_
 {simp only [zbx c,zY c,zbi c,cT,zbZ,zga,zbZ,zjO,zb0,zfj,zgl,zeM,zdf,zcS,znL,zp7,zV c f];unfold zb3;generalize b[i]=e;cases h:i0 (zb2 e.Tag) (ln a.aa);{rfl};{rw [zF h];cases d:i0 (zc9 e.Tag) (ln (ix a.aa (zb2 e.Tag) zh).ad);{rfl};{rw [zF d];simp only[cT,uA,cF];cases below' ⟨e.ac,e.aj⟩ (zbj (zbv (ix (ix a.aa (zb2 e.Tag) zh).ad (zc9 e.Tag) zI).ay e.af) (ix a.aa (zb2 e.Tag) zh).ae)<;>rfl}}};{simp only [zbq,cF]};{rw [zfc];unfold zcP ziP;cases b.all (zb3 a)<;>rfl}
def zjB:vU 93 zdV:=hF2 ztl zZ zB zu zCL zBS
def z5r:zbf:=[(92,zee),(91,zee),(94,zdV),(93,zdV)]++z5q
def z2W:zN z5r:=zi zkF (zi zkE<|zi zjC<|zi zjB ztl)
def z9v:zbf:=z5r
def zLr:∀f a,zl z9v f=some a->Holds Tryz.prog f a:=z2W
def hE (h:ac):(⟨h.ag,h.aa,h.am,h.ak⟩:ac)=h:=rfl
def idxs {a:Type}(p:a->Bool):List a->Nat->LI
 |[],_=>[]
 |x::l,i=>bif p x then (i:Int)::idxs p l (i+1) else idxs p l (i+1)
def zyB {a:Type}(p:a->Bool):∀(l:List a) (i:Nat),(idxs p l i).length<=l.length
 |[],_=>qS _
 |x::l,i=>by have:=zyB p l (i+1);simp only[idxs];cases p x<;>simp<;>omega
def ztv {b c:Type}(p:b->Bool)(K:LI->Option c):∀(l:List b) (i:Nat) (a:LI),a.length+l.length<=2147483648->
 goL (λi x a k=>bif p x then (cond (few<|ln<|ap a [(i:Int)]) (k<|ap a [(i:Int)]) none) else k a) K l i a=K (a++idxs p l i)
 |[],i,a,_=>by simp[goL,idxs]
 |x::l,i,a,h=>by simp only[qY]at h;simp only[goL,idxs];cases p x;{simp only [cF];exact ztv p K l (i+1) a (by omega)};{simp only [cT];rw[zgZ (by simp[ap];omega),cT,ztv p K l (i+1) _ (by simp[ap];omega)];simp[ap]}
def zv0 (p:Nat->Bool):Nat->Nat->LI
 | 0,_=>[]
 |n+1,i=>bif p i then (i:Int)::zv0 p n (i+1) else zv0 p n (i+1)
def zyv {b:Type}(p:Nat->Bool)(K:LI->Option b):∀(n i:Nat) (a:LI),a.length+n<=2147483648->
 goN (λi a k=>bif p i then (cond (few<|ln<|ap a [(i:Int)]) (k<|ap a [(i:Int)]) none) else k a) K n i a=K (a++zv0 p n i)
 | 0,i,a,_=>by simp[goN,zv0]
 |n+1,i,a,h=>by simp only[goN,zv0];cases p i;{simp only [cF];exact zyv p K n (i+1) a (by omega)};{simp only [cT];rw[zgZ (by simp[ap];omega),cT,zyv p K n (i+1) _ (by simp[ap];omega)];simp[ap]}
def z3R {h:ac}(d:zcv h)(m:Int):∀c∈Ty.cells .mon (zQP h m),CVB sm c:=by unfold zQP;cases b:i0 m (ln h.aa);{have e:∀{t:Ty},CVB sm (.s t []):=λ{t}=>.s t [] (jU _) (λx f=>by cases f);intro c a;simp only[cF,Ty.cells,Ty.dflt,qG,qO,or_false]at a;rcases a with rfl|rfl|rfl|rfl|rfl|rfl|rfl|rfl|rfl;all_goals first|exact e|exact .i _ _};{exact d.mons.inv.2 _ (zbD b _)}
abbrev zoZ (l:List k0)(_:Int):Bool:=pc (l.length<=2147483648)
abbrev zgb (l:List k0)(p:Int):LI:=idxs (λ(s:k0)=>ieq s.af p) l 0
def zoD:Run:=rF2 (dS .slot) dI λb c=>(zoZ b c,[aS .int<|zgb b c])
def zIh (N:Nat)(c:lS)(d:Int):OA:=
 (r0 (σ:=(Int×Int×lS×LI×Unit)) N (λb a=>cond (ilt a.2.1<|ln a.2.2.1) (oN (inb a.2.1<|ln a.2.2.1)<|cond (ieq (ix a.2.2.1 a.2.1 zQ).af a.1) (oN (few<|ln<|ap a.2.2.2.1 [a.2.1])<|b (a.1,zK .i64 a.2.1 1,a.2.2.1,ap a.2.2.2.1 [a.2.1],()))<|b (a.1,zK .i64 a.2.1 1,a.2.2.1,a.2.2.2.1,()))<|some [aS .int a.2.2.2.1]) (d,0,c,[],()))
def zUy:=zy [(469,0,{n:=26,tm:=[(0,.sl 0 []),(1,ti),(5,.sl 1 []),(6,ti)],lo:=[],ro:=[(0,.slot,false),(1,.int,true)]})]
def zSR (b:List k0)(a:Int)(g:zbY big [aS .slot b,aI a])(h:zoZ b a=true):∃N,zIh N b a=some [aS .int<|zgb b a]:=by have e:=len0 g;have j:=zS.1 h;refine zcd λN d=>?_;unfold zIh oN;refine(zbg b (λi (t:LI)=>(a,(i:Int),b,t,())) _ (λi (x:k0) (t:LI) f=>bif ieq x.af a then (cond (few<|ln<|ap t [(i:Int)]) (f<|ap t [(i:Int)]) none) else f t) (λ(t:LI)=>some [.one<|.s .int t]) (λi c t rec=>?_) (λt rec=>?_) _ ([])<|d e).trans ?_;{simp only [zbx c,zY c,zbi c,zV c e,cT]};{simp only [zbq,cF]};exact ztv (λ(s:k0)=>ieq s.af a) _ _ 0 [] (by simpa using j)
def zMa:vU 469 zoD:=hF2 zLr zZ zB zu zUy zSR
def zHU (N:Nat)(d:lS)(f:Int):OA:=
 (r0 (σ:=(Int×Int×Int×LI×lS×Unit)) N (λe a=>let c:=a.2.2.2.2.1;let b:=a.2.2.1; (cond (ilt b a.2.1) (oN (inb b<|ln c)<|cond (ieq (ix c b zQ).af a.1) (oN (few<|ln<|ap a.2.2.2.1 [b])<|e (a.1,a.2.1,zK .i64 b 1,ap a.2.2.2.1 [b],c,()))<|e (a.1,a.2.1,zK .i64 b 1,a.2.2.2.1,c,()))<|some [aS .int a.2.2.2.1])) (f,ln d,0,[],d,()))
def zUo:=zy [(466,0,{n:=26,tm:=[(1,ti),(5,.sl 0 []),(9,.sl 1 []),(10,ti),(11,ti)],lo:=[],ro:=[(0,.int,true),(1,.slot,false)]})]
def zSw (a:List k0)(b:Int)(g:zbY big [aS .slot a,aI b])(h:zoZ a b=true):∃N,zHU N a b=some [aS .int<|zgb a b]:=by
 have e:=len0 g;have j:=zS.1 h;refine zcd λN d=>?_;unfold zHU oN;conv=>zeta
 refine(zbg a (λi (t:LI)=>(b,ln a,(i:Int),t,a,())) _ (λi (x:k0) (t:LI) f=>bif ieq x.af b then (cond (few<|ln<|ap t [(i:Int)]) (f<|ap t [(i:Int)]) none) else f t) (λ(t:LI)=>some [.one<|.s .int t]) (λi c t rec=>?_) (λt rec=>?_) _ ([])<|d e).trans ?_;{simp only [zbx c,zY c,zbi c,zV c e,cT]};{simp only [zbq,cF]};exact ztv (λ(s:k0)=>ieq s.af b) _ _ 0 [] (by simpa using j)
def zLN:vU 466 zoD:=hF2 zLr zZ zB zu zUo zSw
def z5s:zbf:=[(469,zoD),(466,zoD)]++z9v
def z2X:zN z5s:=zi zMa (zi zLN zLr)
def z5t:zbf:=z5s
def z2Y:zN z5t:=z2X
def z5u:zbf:=z5t
def zRy:zN z5u:=z2Y
def z3W {h:ac}(a:zcv h)(m:Int):CVB sm (.s .slot (zQP h m).ae):=z3R a m (.s .slot (zQP h m).ae) (by simp[Ty.cells])
def zDd (x y:Int):ine x y = !ieq x y:=rfl
def zfD (l:LI):Bool:=pc (l.length<=2147483648)
abbrev zfC (l:LI):LI:=l
def zxq:Run:=rF1 (dS .int) λb=>(zfD b,[aS .int<|zfC b])
def zAH (N:Nat)(a:LI):OA:=
 (oN (few<|ln<|ap [] a)<|some [aS .int<|ap [] a])
def zMB (a:LI)(b:zfD a=true):∃N,zAH N a=some [aS .int<|zfC a]:=by refine⟨0,?_⟩;unfold zAH oN;rw[ze9,zgZ<|zS.1 b,cT]
def zGr:vU 344 zxq:=kF1 zRy zZ zB zu (zy []) zMB
def z5v:zbf:=[(344,zxq)]++z5u
def zF5:zN z5v:=zi zGr zRy
def zzf:LI:=rp 4 0
def zcD (m:List LI)(p:Int):LI:=bif i0 p (ln m) then ix m p [] else zzf
def zoV (m:List LI)(_:Int):Bool:=pc (CVB sm<|.s (.sl .int) m)
def zno (m:List LI)(p:Int):LI:=zcD m p
def z1x {m:List LI}{p:Int}(b:CVB sm (.s (.sl .int) m))(a:i0 p (ln m)=true):(ix m p []).length<=2147483648 :=
 (zcY (b.inv.2 _ (zbD a ([]:LI)) (.s .int _) (qF.2 rfl)).len).2
def zox:Run:=rF2 (dS<|.sl .int) dI λb c=>(zoV b c,[aS .int<|zno b c])
def zH7 (N:Nat)(a:lM)(b:Int):OA:=
 (oN (zM b 0<|wsub .i64 (ln a) 1)<|cond (nB<|zk b 0<|wsub .i64 (ln a) 1) (oN (cond (few 4) (ieq 4 4) false)<|some [aS .int<|rp 4 0])<|oN (inb b<|ln a)<|oN (few<|ln<|ap []<|ix a b [])<|some [aS .int<|ap []<|ix a b []])
def zSJ (b:List LI)(a:Int)(f:zoV b a=true):∃N,zH7 N b a=some [aS .int<|zno b a]:=by have d:=zS.1 f;refine⟨0,?_⟩;unfold zH7 zno zcD oN nB;have e:zk a 0 (wsub .i64 (ln b) 1)=i0 a (ln b):=zsx (zcY d.len).1 a;rw[e];cases c:i0 a (ln b);{rfl};{simp only [zM,cT,cF,zF c,ze9,zgZ<|z1x d c]}
def zL1:vU 174 zox:=kF2 zF5 zZ zB zu (zy []) zSJ
def zHP (N:Nat)(a:lM)(b:Int):OA:=
 (oN (zb0 b<|ln a)<|cond (nB<|zfj b<|ln a) (oN (cond (few 4) (ieq 4 4) false)<|some [aS .int<|rp 4 0])<|oN (inb b<|ln a)<|oN (zfD<|ix a b [])<|some [aS .int<|zfC<|ix a b []])
def zSr (a:List LI)(b:Int)(d:zoV a b=true):∃N,zHP N a b=some [aS .int<|zno a b]:=by have e:=zS.1 d;refine⟨0,?_⟩;unfold zHP zno zcD zfj oN nB;cases c:i0 b (ln a);{rfl};{simp only [zb0,cT,cF,zF c,show zfD (ix a b [])=true from zbn (z1x e c),zfC]}
def zLH:vU 172 zox:=kF2 zF5 zZ zB zu (zy []) zSr
def z5w:zbf:=[(174,zox),(172,zox)]++z5v
def z2Z:zN z5w:=zi zL1 (zi zLH zF5)
def zdg (h:ac)(m p:Int):LI :=
 bif i0 m (ln h.aa) then (cond (i0 p 8) (cond (ine (zbv (ix h.aa m zh).ae p).af<|-1) (zcD h.ag (zbv (ix h.aa m zh).ae p).af)<|zcD (ix h.aa m zh).Out p) zzf) else zzf
def z5x:zbf:=z5w
def z3a:zN z5x:=z2Z
def z5y:zbf:=z5x
def z3b:zN z5y:=z3a
def z9u:zbf:=z5y
def z7C:∀f a,zl z9u f=some a->Holds Tryz.prog f a:=z3b
def z9t:zbf:=z9u
def zf2:zN z9t:=z7C
def zoh:zhM:=z3O
def zD:zgv zoh:=zZ
def canRun (g:ah):Bool:=bif (ieq g.Exit.Kind 0&&(ieq g.Exit.af 0&&(zmg g.Exit.Write false&&ieq g.Exit.N 0))) then !g.aF else false
def zsG (_:ah):Bool:=true
abbrev zp8 (g:ah):Bool:=canRun g
def zCj:Run:=rF1 (dT .guest) λb=>(zsG b,[aB<|zp8 b])
def zHW (N:Nat)(a:ah):OA:=
 (cond (cond (ieq a.Exit.Kind 0) (cond (ieq a.Exit.af 0) (cond (zmg a.Exit.Write false) (ieq a.Exit.N 0) false) false) false) (some [aB<|nB a.aF]) oF)
def zSy (a:ah)(b:zsG a=true):∃N,zHW N a=some [aB<|zp8 a]:=by refine⟨0,?_⟩;unfold zHW zp8 canRun nB;cases ieq a.Exit.Kind 0<;>cases ieq a.Exit.af 0<;>cases zmg a.Exit.Write false<;>cases ieq a.Exit.N 0<;>simp
def zLQ:vU 119 zCj:=kF1 zwL zZ zB zu (zy []) zSy
def j0 {d:Type}{c:Bool}{a b r:Option d}(h:c=true)(k:a=r):(cond c a b)=r:=by rw[h];exact k
def mu {d:Type}{c:Bool}{a b r:Option d}(k:a=r)(h:c=true:=by first|assumption|(simp_all<;>omega)):(cond c a b)=r:=j0 h k
def zek {d:Type}{c:Bool}{a b r:Option d}(h:c=false)(k:b=r):(cond c a b)=r:=by rw[h];exact k
def br {f:Type}{c:Bool}{a b r:Option f}(d:c=true->a=r)(e:c=false->b=r):(cond c a b)=r:=by cases c;{exact e rfl};{exact d rfl}
def brN {f:Type}{c:Bool}{a b r:Option f}(d:c=false->a=r)(e:c=true->b=r):(cond (cond c false true) a b)=r:=by cases c;{exact d rfl};{exact e rfl}
def shr {a b:Type}{x:a}{f:a->Option b}{r:Option b}(h:f x=r):p0 x f=r:=h
def zjs {e:Type}{c p:Bool}{a b:Option e}(d:c=true):(cond c (cond (cond p false true) a b) none)=bif p then b else a:=by rw[d];cases p<;>rfl
attribute [simp] zS
@[simp] def z7O {a:Type}(l:List a):(few (ln l)=true)↔l.length<=2147483648:=by unfold few ln;rw[decide_eq_true_iff];omega
@[simp] def zba2 {a:Type}(l m:List a):(ap l m).length=l.length+m.length:=by simp[ap]
attribute [simp] ze9 zg1
@[simp] def z6e (n:Nat)(k:IntKind)(x:Int):CVB n (.i k x)↔True:=⟨λ_=>trivial,λ_=>.i k x⟩
@[simp] def zba7 (n:Nat)(x:Bool):CVB n (.b x)↔True:=⟨λ_=>trivial,λ_=>.b x⟩
def zlD {n:Nat}{t:Ty}(l:List t.den):CVB n (.s t l)↔l.length<=n/\∀x∈l,∀c∈t.cells x,CVB n c:=⟨λh=>h.inv,λh=>.s t l h.1 h.2⟩
@[simp] def zWs (n:Nat)(l:LI):CVB n (.s .int l)↔l.length<=n:=by rw[zlD];simp[Ty.cells]
@[simp] def z9z (n:Nat)(l:LI):CVB n (.s .u8 l)↔l.length<=n:=by rw[zlD];simp[Ty.cells]
@[simp] def z3m (n:Nat)(l:List Bool):CVB n (.s .bool l)↔l.length<=n:=by rw[zlD];simp[Ty.cells]
@[simp] def z3o (n:Nat)(l:List k0):CVB n (.s .slot l)↔l.length<=n:=by rw[zlD];simp[Ty.cells]
@[simp] def z7E (n:Nat)(l:List Ins):CVB n (.s .ins l)↔l.length<=n:=by rw[zlD];simp[Ty.cells]
@[simp] def z0k (n:Nat)(l:List aq):CVB n (.s .entry l)↔l.length<=n:=by rw[zlD];simp[Ty.cells]
@[simp] def z7D (n:Nat)(l:List GAct):CVB n (.s .act l)↔l.length<=n:=by rw[zlD];simp[Ty.cells]
@[simp] def z3p (n:Nat)(l:List aE):CVB n (.s .told l)↔l.length<=n:=by rw[zlD];simp[Ty.cells]
def SmM (m:List LI):Prop:=m.length<=1048576/\∀x∈m,x.length<=1048576
def SmG (g:ah):Prop:=g.az.length<=1048576/\g.aA.length<=1048576/\g.ay.length<=1048576/\g.aC.length<=1048576
def zme (l:List ah):Prop:=l.length<=1048576/\∀x∈l,SmG x
def SmB (b:ao):Prop:=SmM b.ag/\zme b.ad/\b.Outs.length<=1048576
def zXt (l:List ao):Prop:=l.length<=1048576/\∀x∈l,SmB x
def z4C:sm=1048576:=rfl
@[simp] def zXV (l:LI):CVB sm (.s .int l)↔l.length<=1048576:=zWs sm l
@[simp] def zbaG (l:LI):CVB sm (.s .u8 l)↔l.length<=1048576:=z9z sm l
@[simp] def zUX (l:List Bool):CVB sm (.s .bool l)↔l.length<=1048576:=z3m sm l
@[simp] def zUY (l:List k0):CVB sm (.s .slot l)↔l.length<=1048576:=z3o sm l
@[simp] def zbaf (l:List Ins):CVB sm (.s .ins l)↔l.length<=1048576:=z7E sm l
@[simp] def zRI (l:List aq):CVB sm (.s .entry l)↔l.length<=1048576:=z0k sm l
@[simp] def zbae (l:List GAct):CVB sm (.s .act l)↔l.length<=1048576:=z7D sm l
@[simp] def z97 (l:List aE):CVB sm (.s .told l)↔l.length<=1048576:=z3p sm l
@[simp] def zpJ (l:List LI):CVB sm (.s (.sl .int) l)↔SmM l:=by rw[zlD];simp[Ty.cells,SmM,z4C]
@[simp] def z7i (g:ah):(∀c∈Ty.cells .guest g,CVB sm c)↔SmG g:=by simp[Ty.cells,SmG,z4C]
@[simp] def zuJ (l:List ah):CVB sm (.s .guest l)↔zme l:=by rw[zlD];simp only[z7i];rfl
@[simp] def z7h (b:ao):(∀c∈Ty.cells .bare b,CVB sm c)↔SmB b:=by simp only[Ty.cells,qG,qO,or_false,vP,forall_eq,zpJ,zuJ,zWs,z6e,and_true];rfl
@[simp] def zbaK (l:List ao):CVB sm (.s .bare l)↔zXt l:=by rw[zlD];simp only[z7h];rfl
@[simp] def zba5 (a:List Ins)(b c:Int)(d e:List k0)(f:Ctl)(g:Int)(h:aD)(i:Bool)(j:LI):SmG ⟨a,b,c,d,e,f,g,h,i,j⟩↔a.length<=1048576/\d.length<=1048576/\e.length<=1048576/\j.length<=1048576:=Iff.rfl
@[simp] def zba4 (m:List LI)(g:List ah)(o:LI)(p:Int):SmB ⟨m,g,o,p⟩↔SmM m/\zme g/\o.length<=1048576:=Iff.rfl
def zKP {m:List LI}{i:Int}{x:LI}(h:SmM m)(b:x.length<=1048576):SmM (up m i x):=by refine⟨by simpa using h.1,λy a=>?_⟩;rcases qZ a with a|rfl;{exact h.2 y a};{exact b}
def zDp {m:List ah}{i:Int}{x:ah}(h:zme m)(b:SmG x):zme (up m i x):=by refine⟨by simpa using h.1,λy a=>?_⟩;rcases qZ a with a|rfl;{exact h.2 y a};{exact b}
def z8H {m:List ao}{i:Int}{x:ao}(h:zXt m)(b:SmB x):zXt (up m i x):=by refine⟨by simpa using h.1,λy a=>?_⟩;rcases qZ a with a|rfl;{exact h.2 y a};{exact b}
def z1Q {l:List ah}{i:Int}(h:zme l)(a:i0 i (ln l)=true)(d:ah):SmG (ix l i d):=h.2 _ (zbD a d)
def z9Y {l:List LI}{i:Int}(h:SmM l)(a:i0 i (ln l)=true)(d:LI):(ix l i d).length<=1048576:=h.2 _ (zbD a d)
@[simp] def zbay:SmG zI:=⟨by decide,by decide,by decide,by decide⟩
@[simp] def zQY (x a b:Int):zk x a b=zk x a b:=rfl
@[simp] def zSe (i n:Int):inb i n=i0 i n:=rfl
attribute [simp] zfj
@[simp] def zqp {a:Type}{l:List a}(h:l.length<=1048576)(i:Int):zk i 0 (wsub .i64 (ln l) 1)=i0 i (ln l):=zBP (zcY h).1 i
def zHJ {a:Type}{l:List a}(h:l.length<=big)(i:Int):zk i 0 (wsub .i64 (ln l) 1)=i0 i (ln l):=zBP h i
def zfO {x a b:Int}:(zk x a b=true)↔a<=x/\x<=b:=by unfold zk ige ile;simp only[qE,decide_eq_true_iff]
def z7Z (a b:Int):ilt a b = !ige a b:=by unfold ilt ige;by_cases h:a<b;{rw [qL h,qX (by omega)];rfl};{rw [qX h,qL (by omega)];rfl}
attribute [simp] zW zW zgj zgj zgD zgD zdh zdh zeM zeM zp8 zbz zbz
attribute [simp] zeP zde zgq zfC
attribute [simp] zgn zdF zfX zfD
def zbm (a:Int):Int:=bif ilt a 0 then -1 else zNM .i64 a 4
def zdp (a:Int):Int:=bif ilt a 0 then -1 else zpu a 4
@[simp] abbrev zdB (a:Int):Bool:=true
@[simp] abbrev zc5 (a:Int):Int:=zbm a
def zxu:Run:=rF1 dI λb=>(zdB b,[aI<|zc5 b])
def zAM (N:Nat)(a:Int):OA:=
 (cond (ilt a 0) (some [aI<|-1])<|oN (ine 4 0)<|some [aI<|zNM .i64 a 4])
def zMF (a:Int)(b:zdB a=true):∃N,zAM N a=some [aI<|zc5 a]:=by refine⟨0,?_⟩;unfold zAM oN;refine br (λ_=>?_) (λ_=>j0 rfl ?_);all_goals first|rfl|(simp only [*,zc5,zbm,cT,cF]<;>rfl)|simp_all[Ty.cells,zc5,zbm]
def zGv:vU 283 zxu:=kF1 zf2 zD zB zu (zy []) zMF
@[simp] abbrev zeE (a:Int):Int:=zdp a
def zxt:Run:=rF1 dI λb=>(zdB b,[aI<|zeE b])
def zAL (N:Nat)(a:Int):OA:=
 (cond (ilt a 0) (some [aI<|-1])<|oN (ine 4 0)<|some [aI<|zpu a 4])
def zME (a:Int)(b:zdB a=true):∃N,zAL N a=some [aI<|zeE a]:=by refine⟨0,?_⟩;unfold zAL oN;refine br (λ_=>?_) (λ_=>j0 rfl ?_);all_goals first|rfl|(simp only [*,zeE,zdp,cT,cF]<;>rfl)|simp_all[Ty.cells,zeE,zdp]
def zGu:vU 288 zxt:=kF1 zf2 zD zB zu (zy []) zME
def zch (w:Bool):Int:=bif w then 2 else 1
@[simp] abbrev zsJ (w:Bool):Bool:=true
@[simp] abbrev zfH (w:Bool):Int:=zch w
def zCn:Run:=rF1 dB λb=>(zsJ b,[aI<|zfH b])
def zH6 (N:Nat)(a:Bool):OA:=
 (cond a (some [aI 2])<|some [aI 1])
def zSI (a:Bool)(b:zsJ a=true):∃N,zH6 N a=some [aI<|zfH a]:=by refine⟨0,?_⟩;unfold zH6;refine br (λ_=>?_) (λ_=>?_);all_goals first|rfl|(simp only [*,zfH,zch,cT,cF]<;>rfl)|simp_all[Ty.cells,zfH,zch]
def zL0:vU 284 zCn:=kF1 zf2 zD zB zu (zy []) zSI
def zrj (p:Int)(w:Bool):aD:=⟨1,p,w,0⟩
def zyd (n:Int):aD:=⟨2,0,false,n⟩
def zxc (n:Int):aD:=⟨3,0,false,n⟩
@[simp] abbrev zj8 (p:Int)(w:Bool):Bool:=true
@[simp] abbrev zfn (p:Int)(w:Bool):aD:=zrj p w
def zot:Run:=rF2 dI dB λb c=>(zj8 b c,[.agg<|zf0<|zfn b c])
def zzl (N:Nat)(a:Int)(c:Bool):OA:=
 (some [.agg [.i .i64 1,.i .i64 a,.b c,.i .i64 0]])
def zJV (a:Int)(b:Bool)(c:zj8 a b=true):∃N,zzl N a b=some [.agg<|zf0<|zfn a b]:=by refine⟨0,?_⟩;unfold zzl;first|rfl|(simp only [*,zfn,cT,cF]<;>rfl)|simp_all[Ty.cells,zfn]
def zsm:vU 286 zot:=kF2 zf2 zD zB zu (zy []) zJV
@[simp] abbrev zgE (n:Int):Bool:=true
@[simp] abbrev zfF (n:Int):aD:=zyd n
def zp2:Run:=rF1 dI λb=>(zgE b,[.agg<|zf0<|zfF b])
def zAP (N:Nat)(a:Int):OA:=
 (some [.agg [.i .i64 2,.i .i64 0,.b false,.i .i64 a]])
def zMI (a:Int)(b:zgE a=true):∃N,zAP N a=some [.agg<|zf0<|zfF a]:=by refine⟨0,?_⟩;unfold zAP;first|rfl|(simp only [*,zfF,cT,cF]<;>rfl)|simp_all[Ty.cells,zfF]
def ztx:vU 409 zp2:=kF1 zf2 zD zB zu (zy []) zMI
@[simp] abbrev zgG (n:Int):aD:=zxc n
def zr6:Run:=rF1 dI λb=>(zgE b,[.agg<|zf0<|zgG b])
def zEA (N:Nat)(a:Int):OA:=
 (some [.agg [.i .i64 3,.i .i64 0,.b false,.i .i64 a]])
def zP1 (a:Int)(b:zgE a=true):∃N,zEA N a=some [.agg<|zf0<|zgG a]:=by refine⟨0,?_⟩;unfold zEA;first|rfl|(simp only [*,zgG,cT,cF]<;>rfl)|simp_all[Ty.cells,zgG]
def zuX:vU 411 zr6:=kF1 zf2 zD zB zu (zy []) zP1
def zhl (t x:Int):Bool:=bif zk t 0 3 then (cond (zk x 1 2) (ine (wand .i64 t x) 0) false) else false
@[simp] abbrev ziv (t x:Int):Bool:=true
@[simp] abbrev zid (t x:Int):Bool:=zhl t x
def zzO:Run:=rF2 dI dI λb c=>(ziv b c,[aB<|zid b c])
def zEs (N:Nat)(a b:Int):OA:=
 (oN (zM a 0 3)<|cond (zk a 0 3) (oN (zM b 1 2)<|cond (zk b 1 2) (some [aB<|ine (wand .i64 a b) 0]) oF) oF)
def zPS (a b:Int)(c:ziv a b=true):∃N,zEs N a b=some [aB<|zid a b]:=by refine⟨0,?_⟩;unfold zEs oN;refine j0 rfl (br (λ_=>j0 rfl (br (λ_=>?_) λ_=>?_)) λ_=>?_);all_goals first|rfl|(simp only [*,zid,zhl,cT,cF]<;>rfl)|simp_all[Ty.cells,zid,zhl]
def zI7:vU 410 zzO:=kF2 zf2 zD zB zu (zy []) zPS
def zdI (p:Int):Bool:=zk p 0 255
@[simp] abbrev zc6 (p:Int):Bool:=true
@[simp] abbrev ze7 (p:Int):Bool:=zdI p
def zoz:Run:=rF1 dI λb=>(zc6 b,[aB<|ze7 b])
def zIa (N:Nat)(a:Int):OA:=
 (oN (zM a 0 255)<|some [aB<|zk a 0 255])
def zBX (a:Int)(b:zbY big [aI a])(c:zc6 a=true):∃N,zIa N a=some [aB<|ze7 a]:=by refine⟨0,?_⟩;unfold zIa oN;refine j0 rfl ?_;first|rfl|(simp only [*,ze7,zdI,cT,cF]<;>rfl)|simp_all[Ty.cells,ze7,zdI]
def zL4:vU 217 zoz:=hF1 zf2 zD zB zu (zy []) zBX
def zLJ:vU 208 zoz:=hF1 zf2 zD zB zu (zy []) zBX
def zcB (l:List Ins)(p:Int):Ins:=bif i0 p (ln l) then ix l p zLd else ⟨7,0⟩
@[simp] abbrev zfV (l:List Ins)(p:Int):Bool:=true
@[simp] abbrev zf8 (l:List Ins)(p:Int):Ins:=zcB l p
def zFr:Run:=rF2 (dS .ins) dI λb c=>(zfV b c,[aT .ins<|zf8 b c])
def zNV (N:Nat)(a:lI)(b:Int):OA:=
 (oN (zM b 0<|wsub .i64 (ln a) 1)<|cond (nB<|zk b 0<|wsub .i64 (ln a) 1) (some [.agg [.i .i64 7,.i .i64 0]])<|oN (inb b<|ln a)<|some [.agg [.i .i64 (ix a b zLd).Op,.i .i64 (ix a b zLd).X]])
def zVj (a:List Ins)(b:Int)(c:zbY big [aS .ins a,aI b])(e:zfV a b=true):∃N,zNV N a b=some [aT .ins<|zf8 a b]:=by have d:=((zb8 c).1 _ (qF.2 rfl)).len;have f:=zHJ d;refine⟨0,?_⟩;unfold zNV oN nB;refine j0 rfl (brN (λ_=>?_) λ_=>mu ?_);all_goals first|rfl|(simp only [*,zf8,zcB,cT,cF]<;>rfl)|simp_all[Ty.cells,zf8,zcB]
def zPx:vU 294 zFr:=hF2 zf2 zD zB zu (zy []) zVj
def zui (w:Int):Int:=bif ieq w 5 then 1 else 2
def zdO (s:k0)(n:Int):Bool:=bif zcx s C0 then true else (cond (igt n 0) (cond (zk s.af 0<|wsub .i64 n 1) (zk s.aj 1 3) false) false)
@[simp] abbrev zl1 (s:k0)(n:Int):Bool:=true
@[simp] abbrev ziw (s:k0)(n:Int):Bool:=zdO s n
def zoC:Run:=rF2 (dT .slot) dI λb c=>(zl1 b c,[aB<|ziw b c])
def zId (N:Nat)(a:k0)(b:Int):OA:=
 (oN zbz<|cond (cond (ieq a.af zW.af) (ieq a.aj zW.aj) false) oT<|oN (zM a.af 0<|wsub .i64 b 1)<|cond (zk a.af 0<|wsub .i64 b 1) (cond (igt b 0) (oN (zM a.aj 1 3)<|some [aB<|zk a.aj 1 3]) oF) oF)
def zSO (a:k0)(b:Int)(c:zl1 a b=true):∃N,zId N a b=some [aB<|ziw a b]:=by refine⟨0,?_⟩;unfold zId oN;refine j0 rfl (br (λ_=>?_) λ_=>j0 rfl (br (λ_=>br (λ_=>j0 rfl ?_) λ_=>?_) λ_=>?_));all_goals first|rfl|(simp only [*,ziw,zdO,zcx,cT,cF]<;>rfl)|simp_all[Ty.cells,ziw,zdO,zcx]
def zL7:vU 346 zoC:=kF2 zf2 zD zB zu (zy []) zSO
def zHT (N:Nat)(a:k0)(b:Int):OA:=
 (oN zbz<|cond (cond (ieq a.af zW.af) (ieq a.aj zW.aj) false) oT<|cond (igt b 0) (oN (zM a.af 0<|wsub .i64 b 1)<|cond (zk a.af 0<|wsub .i64 b 1) (oN (zM a.aj 1 3)<|some [aB<|zk a.aj 1 3]) oF) oF)
def zSv (a:k0)(b:Int)(c:zl1 a b=true):∃N,zHT N a b=some [aB<|ziw a b]:=by refine⟨0,?_⟩;unfold zHT oN;refine j0 rfl (br (λ_=>?_) λ_=>br (λ_=>j0 rfl (br (λ_=>j0 rfl ?_) λ_=>?_)) λ_=>?_);all_goals first|rfl|(simp only [*,ziw,zdO,zcx,cT,cF]<;>rfl)|simp_all[Ty.cells,ziw,zdO,zcx]
def zLM:vU 377 zoC:=kF2 zf2 zD zB zu (zy []) zSv
@[simp] abbrev zrV (l:List k0):Bool:=pc (l.length<=2147483648)
@[simp] abbrev zmo (l:List k0):List k0:=l
def zvd:Run:=rF1 (dS .slot) λb=>(zrV b,[aS .slot<|zmo b])
def zzi (N:Nat)(a:lS):OA:=
 (oN (few<|ln<|ap [] a)<|some [aS .slot<|ap [] a])
def zJQ (a:List k0)(b:zrV a=true):∃N,zzi N a=some [aS .slot<|zmo a]:=by have c:=zS.1 b;refine⟨0,?_⟩;unfold zzi oN;refine mu ?_;first|rfl|(simp only [*,zmo,cT,cF]<;>rfl)|simp_all[Ty.cells,zmo]
def zDy:vU 368 zvd:=kF1 zf2 zD zB zu (zy []) zJQ
def zh5 (m:List LI)(p c:Int):Bool:=bif i0 p (ln m) then i0 c (ln<|ix m p []) else false
def cellAt (m:List LI)(p c:Int):Int:=bif zh5 m p c then ix (ix m p []) c 0 else 0
def zbM (m:List LI)(p c v:Int):List LI:=bif zh5 m p c then (cond (zk v 0 99) (up m p<|up (ix m p []) c v) m) else m
def zyH (m:List LI)(p c:Int):(zh5 m p c=true)↔i0 p (ln m)=true/\i0 c (ln<|ix m p [])=true:=by unfold zh5;cases i0 p (ln m)<;>simp
def z9y {n:Nat}{m:List LI}(h:CVB n (.s (.sl .int) m)):m.length<=n/\∀p:Int,i0 p (ln m)=true->(ix m p []).length<=n :=
 ⟨h.len,λp a=>(h.inv.2 _ (zbD a []) _ (qF.2 rfl)).len⟩
@[simp] abbrev zif (m:List LI)(p c:Int):Bool:=true
@[simp] abbrev zqh (m:List LI)(p c:Int):Bool:=zh5 m p c
def zCr:Run:=rF3 (dS<|.sl .int) dI dI λb c d=>(zif b c d,[aB<|zqh b c d])
def zIj (N:Nat)(a:lM)(b c:Int):OA:=
 let d:=wsub .i64 (ln<|ix a b []) 1; (oN (zM b 0<|wsub .i64 (ln a) 1)<|cond (zk b 0<|wsub .i64 (ln a) 1) (oN (inb b<|ln a)<|oN (zM c 0 d)<|some [aB<|zk c 0 d]) oF)
def zST (a:List LI)(b c:Int)(e:zbY big [aS (.sl .int) a,aI b,aI c])(g:zif a b c=true):∃N,zIj N a b c=some [aB<|zqh a b c]:=by
 have d:=z9y ((zb8 e).1 _ (qF.2 rfl));have j:=zHJ d.1;have f:∀p i:Int,i0 p (ln a)=true->zk i 0 (wsub .i64 (ln<|ix a p []) 1)=i0 i (ln<|ix a p []):=λp i h=>zHJ (d.2 p h) i;refine⟨0,?_⟩;unfold zIj oN;conv=>zeta
 refine j0 rfl (br (λ_=>mu (j0 rfl ?_)) λ_=>?_);all_goals first|rfl|(simp only [*,zqh,zh5,cT,cF]<;>rfl)|simp_all[Ty.cells,zqh,zh5]
def zMd:vU 408 zCr:=hF3 zf2 zD zB zu (zy []) zST
def z5N:zbf:=[(119,zCj),(283,zxu),(288,zxt),(284,zCn),(286,zot),(409,zp2),(411,zr6),(410,zzO),(217,zoz),(208,zoz),(294,zFr),(346,zoC),(377,zoC),(368,zvd),(408,zCr)]++z9t
def zgP:zN z5N:=zi zLQ (zi zGv<|zi zGu<|zi zL0<|zi zsm<|zi ztx<|zi zuX<|zi zI7<|zi zL4<|zi zLJ<|zi zPx<|zi zL7<|zi zLM<|zi zDy<|zi zMd zf2)
@[simp] abbrev znn (m:List LI)(p c:Int):Int:=cellAt m p c
def zCk:Run:=rF3 (dS<|.sl .int) dI dI λb c d=>(zif b c d,[aI<|znn b c d])
def zHX (N:Nat)(a:lM)(b c:Int):OA:=
 (oN (zif a b c)<|cond (nB<|zqh a b c) (some [aI 0])<|oN (inb b<|ln a)<|oN (inb c<|ln<|ix a b [])<|some [aI<|ix (ix a b []) c 0])
def zSz (a:List LI)(b c:Int)(d:zif a b c=true):∃N,zHX N a b c=some [aI<|znn a b c]:=by have e:=(zyH a b c).1;refine⟨0,?_⟩;unfold zHX oN nB;refine j0 rfl (brN (λ_=>?_) λ_=>mu (mu ?_));all_goals first|rfl|(simp only [*,znn,cellAt,cT,cF]<;>rfl)|simp_all[Ty.cells,znn,cellAt]
def zLR:vU 291 zCk:=kF3 zgP zD zB zu (zy []) zSz
def zcT (t:List k0)(n p:Int):Bool:=bif t.all (λs=>zdO s p) then ieq (ln t) n else false
@[simp] abbrev zix (t:List k0)(n p:Int):Bool:=true
@[simp] abbrev zes (t:List k0)(n p:Int):Bool:=zcT t n p
def zmV:Run:=rF3 (dS .slot) dI dI λb c d=>(zix b c d,[aB<|zes b c d])
def zEG (N:Nat)(d:lS)(e f:Int):OA:=
 (r0 (σ:=(Int×Int×Int×lS×Unit)) N (λg a=>let b:=a.2.2.2.1;let c:=ix b a.2.2.1 zQ; (cond (ilt a.2.2.1<|ln b) (oN (inb a.2.2.1<|ln b)<|oN (zl1 c a.2.1)<|cond (nB<|ziw c a.2.1) oF<|g (a.1,a.2.1,zK .i64 a.2.2.1 1,b,()))<|some [aB<|ieq (ln b) a.1])) (e,f,0,d,()))
def zQA:=zy [(213,0,{n:=25,tm:=[(0,.sl 0 []),(1,ti),(2,ti),(7,ti)],lo:=[],ro:=[(0,.slot,false)]})]
def zP7 (a:List k0)(d c:Int)(j:zbY big [aS .slot a,aI d,aI c])(l:zix a d c=true):∃N,zEG N a d c=some [aB<|zes a d c]:=by
 have h:(_:List _).length<=big:=((zb8 j).1 _ (qF.2 rfl)).len;refine zcd λN g=>?_;unfold zEG oN nB;conv=>zeta
 refine(zbg a (λi (t:Unit)=>(d,c,(i:Int),a,())) _ (λ_ x (_:Unit) k=>bif (λs=>zdO s c) x then k () else oF) (λ(t:Unit)=>some [.one<|.b<|ieq (ln a) d]) (λi e t rec=>?_) (λt rec=>?_) _ ()<|g h).trans ?_;{simp only [zbx e,zY e,zbi e,zV e h,cT];exact zjs rfl};{simp only [zbq,cF]};rw[zfc λs=>zdO s c];refine br (λf=>?_) (λf=>?_);{first|rfl|(simp only [f,zes,zcT,cT,cF]<;>rfl)|(simp_all [Ty.cells,zes,zcT];done)};{first|rfl|(simp only [f,zes,zcT,cT,cF]<;>rfl)|(simp_all [Ty.cells,zes,zcT];done)}
def zJk:vU 213 zmV:=hF3 zgP zD zB zu zQA zP7
def zEk (N:Nat)(c:lS)(e f:Int):OA:=
 (r0 (σ:=(Int×Int×Int×Int×lS×Unit)) N (λg a=>let b:=a.2.2.2.2.1;let d:=ix b a.2.2.2.1 zQ; (cond (ilt a.2.2.2.1 a.2.2.1) (oN (inb a.2.2.2.1<|ln b)<|oN (zl1 d a.2.1)<|cond (nB<|ziw d a.2.1) oF<|g (a.1,a.2.1,a.2.2.1,zK .i64 a.2.2.2.1 1,b,()))<|some [aB<|ieq (ln b) a.1])) (e,f,ln c,0,c,()))
def zQx:=zy [(207,0,{n:=24,tm:=[(0,.sl 0 []),(1,ti),(2,ti),(9,.sl 0 []),(10,ti),(11,ti)],lo:=[],ro:=[(0,.slot,false)]})]
def zPL (a:List k0)(d c:Int)(j:zbY big [aS .slot a,aI d,aI c])(l:zix a d c=true):∃N,zEk N a d c=some [aB<|zes a d c]:=by
 have h:(_:List _).length<=big:=((zb8 j).1 _ (qF.2 rfl)).len;refine zcd λN g=>?_;unfold zEk oN nB;conv=>zeta
 refine(zbg a (λi (t:Unit)=>(d,c,ln a,(i:Int),a,())) _ (λ_ x (_:Unit) k=>bif (λs=>zdO s c) x then k () else oF) (λ(t:Unit)=>some [.one<|.b<|ieq (ln a) d]) (λi e t rec=>?_) (λt rec=>?_) _ ()<|g h).trans ?_;{simp only [zbx e,zY e,zbi e,zV e h,cT];exact zjs rfl};{simp only [zbq,cF]};rw[zfc λs=>zdO s c];refine br (λf=>?_) (λf=>?_);{first|rfl|(simp only [f,zes,zcT,cT,cF]<;>rfl)|(simp_all [Ty.cells,zes,zcT];done)};{first|rfl|(simp only [f,zes,zcT,cT,cF]<;>rfl)|(simp_all [Ty.cells,zes,zcT];done)}
def zI3:vU 207 zmV:=hF3 zgP zD zB zu zQx zPL
def zcw (c:LI):Bool:=bif c.all (λx=>zk x 0 99) then ieq (ln c) 4 else false
@[simp] abbrev zdC (c:LI):Bool:=true
@[simp] abbrev zc8 (c:LI):Bool:=zcw c
def zoy:Run:=rF1 (dS .int) λb=>(zdC b,[aB<|zc8 b])
def zH9 (N:Nat)(b:LI):OA:=
 (r0 (σ:=(Int×LI×Unit)) N (λc a=>cond (ilt a.1<|ln a.2.1) (oN (inb a.1<|ln a.2.1)<|oN (zM (ix a.2.1 a.1 0) 0 99)<|cond (nB<|zk (ix a.2.1 a.1 0) 0 99) oF<|c (zK .i64 a.1 1,a.2.1,()))<|some [aB<|ieq (ln a.2.1) 4]) (0,b,()))
def zUv:=zy [(216,0,{n:=19,tm:=[(0,.sl 0 []),(3,ti)],lo:=[],ro:=[(0,.int,false)]})]
def zSL (a:LI)(g:zbY big [aS .int a])(j:zdC a=true):∃N,zH9 N a=some [aB<|zc8 a]:=by have f:(_:List _).length<=big:=((zb8 g).1 _ (qF.2 rfl)).len;refine zcd λN e=>?_;unfold zH9 oN nB;refine(zbg a (λi (t:Unit)=>((i:Int),a,())) _ (λ_ x (_:Unit) h=>bif (λx=>zk x 0 99) x then h () else oF) (λ(t:Unit)=>some [.one<|.b<|ieq (ln a) 4]) (λi c t rec=>?_) (λt rec=>?_) _ ()<|e f).trans ?_;{simp only [zbx c,zY c,zbi c,zV c f,cT];exact zjs rfl};{simp only [zbq,cF]};rw[zfc λx=>zk x 0 99];refine br (λd=>?_) (λd=>?_);{first|rfl|(simp only [d,zc8,zcw,cT,cF]<;>rfl)|(simp_all [Ty.cells,zc8,zcw];done)};{first|rfl|(simp only [d,zc8,zcw,cT,cF]<;>rfl)|(simp_all [Ty.cells,zc8,zcw];done)}
def zL3:vU 216 zoy:=hF1 zgP zD zB zu zUv zSL
def zHQ (N:Nat)(b:LI):OA:=
 (r0 (σ:=(Int×Int×LI×Unit)) N (λc a=>cond (ilt a.2.1 a.1) (oN (inb a.2.1<|ln a.2.2.1)<|oN (zM (ix a.2.2.1 a.2.1 0) 0 99)<|cond (nB<|zk (ix a.2.2.1 a.2.1 0) 0 99) oF<|c (a.1,zK .i64 a.2.1 1,a.2.2.1,()))<|some [aB<|ieq (ln a.2.2.1) 4]) (ln b,0,b,()))
def zUm:=zy [(211,0,{n:=18,tm:=[(0,.sl 0 []),(5,.sl 0 []),(6,ti),(7,ti)],lo:=[],ro:=[(0,.int,false)]})]
def zSs (a:LI)(g:zbY big [aS .int a])(j:zdC a=true):∃N,zHQ N a=some [aB<|zc8 a]:=by have f:(_:List _).length<=big:=((zb8 g).1 _ (qF.2 rfl)).len;refine zcd λN e=>?_;unfold zHQ oN nB;refine(zbg a (λi (t:Unit)=>(ln a,(i:Int),a,())) _ (λ_ x (_:Unit) h=>bif (λx=>zk x 0 99) x then h () else oF) (λ(t:Unit)=>some [.one<|.b<|ieq (ln a) 4]) (λi c t rec=>?_) (λt rec=>?_) _ ()<|e f).trans ?_;{simp only [zbx c,zY c,zbi c,zV c f,cT];exact zjs rfl};{simp only [zbq,cF]};rw[zfc λx=>zk x 0 99];refine br (λd=>?_) (λd=>?_);{first|rfl|(simp only [d,zc8,zcw,cT,cF]<;>rfl)|(simp_all [Ty.cells,zc8,zcw];done)};{first|rfl|(simp only [d,zc8,zcw,cT,cF]<;>rfl)|(simp_all [Ty.cells,zc8,zcw];done)}
def zLI:vU 211 zoy:=hF1 zgP zD zB zu zUm zSs
def zem (i:Ins):Bool:=bif (ieq i.Op 1||ieq i.Op 2||ieq i.Op 5||ieq i.Op 6) then zk i.X 0 99 else (cond (ieq i.Op 3||ieq i.Op 4) (zk i.X 0 15)<|cond (ieq i.Op 7) (ieq i.X 0)<|cond (ieq i.Op 8) (zk i.X 0 11) false)
@[simp] abbrev zvw (i:Ins):Bool:=true
@[simp] abbrev zs4 (i:Ins):Bool:=zem i
def zqM:Run:=rF1 (dT .ins) λb=>(zvw b,[aB<|zs4 b])
def zNW (N:Nat)(a:Ins):OA:=
 let b:=ieq a.Op 4;let l:=zM a.X 0 99;let k:=aB<|zk a.X 0 99;let j:=ieq a.Op 8;let i:=ieq a.Op 7;let h:=ieq a.Op 3;let g:=zM a.X 0 11;let f:=zM a.X 0 15;let e:=aB<|ieq a.X 0;let d:=aB<|zk a.X 0 11;let c:=aB<|zk a.X 0 15; (cond (ieq a.Op 1) (cond (ieq a.Op 1) (oN l<|some [k])<|cond h (cond h (oN f<|some [c])<|cond i (some [e])<|cond j (oN g<|some [d]) oF)<|cond b (oN f<|some [c])<|cond i (some [e])<|cond j (oN g<|some [d]) oF)<|cond (ieq a.Op 2) (cond (ieq a.Op 2) (oN l<|some [k])<|cond h (cond h (oN f<|some [c])<|cond i (some [e])<|cond j (oN g<|some [d]) oF)<|cond b (oN f<|some [c])<|cond i (some [e])<|cond j (oN g<|some [d]) oF)<|cond (ieq a.Op 5) (cond (ieq a.Op 5) (oN l<|some [k])<|cond h (cond h (oN f<|some [c])<|cond i (some [e])<|cond j (oN g<|some [d]) oF)<|cond b (oN f<|some [c])<|cond i (some [e])<|cond j (oN g<|some [d]) oF)<|cond (ieq a.Op 6) (oN l<|some [k])<|cond h (cond h (oN f<|some [c])<|cond i (some [e])<|cond j (oN g<|some [d]) oF)<|cond b (oN f<|some [c])<|cond i (some [e])<|cond j (oN g<|some [d]) oF)
def zFe (a:Ins)(b:zbY big [aT .ins a])(c:zvw a=true):∃N,zNW N a=some [aB<|zs4 a]:=by
 refine⟨0,?_⟩;unfold zNW oN;conv=>zeta
 refine br (λ_=>br (λ_=>j0 rfl ?_) λ_=>br (λ_=>br (λ_=>j0 rfl ?_) λ_=>br (λ_=>?_) λ_=>br (λ_=>j0 rfl ?_) λ_=>?_) λ_=>br (λ_=>j0 rfl ?_) λ_=>br (λ_=>?_) λ_=>br (λ_=>j0 rfl ?_) λ_=>?_) (λ_=>br (λ_=>br (λ_=>j0 rfl ?_) λ_=>br (λ_=>br (λ_=>j0 rfl ?_) λ_=>br (λ_=>?_) λ_=>br (λ_=>j0 rfl ?_) λ_=>?_) λ_=>br (λ_=>j0 rfl ?_) λ_=>br (λ_=>?_) λ_=>br (λ_=>j0 rfl ?_) λ_=>?_) λ_=>br (λ_=>br (λ_=>j0 rfl ?_) λ_=>br (λ_=>br (λ_=>j0 rfl ?_) λ_=>br (λ_=>?_) λ_=>br (λ_=>j0 rfl ?_) λ_=>?_) λ_=>br (λ_=>j0 rfl ?_) λ_=>br (λ_=>?_) λ_=>br (λ_=>j0 rfl ?_) λ_=>?_) λ_=>br (λ_=>j0 rfl ?_) λ_=>br (λ_=>br (λ_=>j0 rfl ?_) λ_=>br (λ_=>?_) λ_=>br (λ_=>j0 rfl ?_) λ_=>?_) λ_=>br (λ_=>j0 rfl ?_) λ_=>br (λ_=>?_) λ_=>br (λ_=>j0 rfl ?_) λ_=>?_);all_goals first|rfl|(simp only [*,zs4,zem,cT,cF]<;>rfl)|simp_all[Ty.cells,zs4,zem]
def zPy:vU 453 zqM:=hF1 zgP zD zB zu (zy []) zFe
def zPn:vU 451 zqM:=hF1 zgP zD zB zu (zy []) zFe
def zhZ (e:aD):Bool:=bif (ieq e.Kind 0||ieq e.Kind 4) then (ieq e.af 0&&(!e.Write&&ieq e.N 0)) else (cond (ieq e.Kind 1) (zk e.af 0 3&&ieq e.N 0)<|cond (ieq e.Kind 2||ieq e.Kind 3) (zk e.N 0 99&&(ieq e.af 0 && !e.Write)) false)
@[simp] def zba3 (x:Bool):zmg x false = !x:=by cases x<;>rfl
attribute [simp] ztF
@[simp] abbrev zsH (e:aD):Bool:=true
@[simp] abbrev zlf (e:aD):Bool:=zhZ e
def zos:Run:=rF1 dE λb=>(zsH b,[aB<|zlf b])
def zHZ (N:Nat)(a:aD):OA:=
 let f:=zk a.N 0 99;let e:=zM a.N 0 99;let d:=ieq a.Kind 2;let b:=ieq a.af 0;let c:=aB<|nB a.Write;let g:=aB<|cond (ieq a.Kind a.Kind) (cond b (cond (zmg a.Write false) (ieq a.N 0) false) false) false; (cond (ieq a.Kind 0) (cond (ieq a.Kind 0) (some [g])<|cond (ieq a.Kind 1) (oN (zM a.af 0 3)<|cond (zk a.af 0 3) (some [aB<|ieq a.N 0]) oF)<|cond d (cond d (oN e<|cond f (cond b (some [c]) oF) oF) oF)<|cond (ieq a.Kind 3) (oN e<|cond f (cond b (some [c]) oF) oF) oF)<|cond (ieq a.Kind 4) (some [g])<|cond (ieq a.Kind 1) (oN (zM a.af 0 3)<|cond (zk a.af 0 3) (some [aB<|ieq a.N 0]) oF)<|cond d (cond d (oN e<|cond f (cond b (some [c]) oF) oF) oF)<|cond (ieq a.Kind 3) (oN e<|cond f (cond b (some [c]) oF) oF) oF)
def zSA (a:aD)(b:zsH a=true):∃N,zHZ N a=some [aB<|zlf a]:=by
 refine⟨0,?_⟩;unfold zHZ oN nB;conv=>zeta
 refine br (λ_=>br (λ_=>?_) λ_=>br (λ_=>j0 rfl (br (λ_=>?_) λ_=>?_)) λ_=>br (λ_=>br (λ_=>j0 rfl (br (λ_=>br (λ_=>?_) λ_=>?_) λ_=>?_)) λ_=>?_) λ_=>br (λ_=>j0 rfl (br (λ_=>br (λ_=>?_) λ_=>?_) λ_=>?_)) λ_=>?_) (λ_=>br (λ_=>?_) λ_=>br (λ_=>j0 rfl (br (λ_=>?_) λ_=>?_)) λ_=>br (λ_=>br (λ_=>j0 rfl (br (λ_=>br (λ_=>?_) λ_=>?_) λ_=>?_)) λ_=>?_) λ_=>br (λ_=>j0 rfl (br (λ_=>br (λ_=>?_) λ_=>?_) λ_=>?_)) λ_=>?_);all_goals first|rfl|(simp only [*,zlf,zhZ,cT,cF]<;>rfl)|simp_all[Ty.cells,zlf,zhZ]
def zLT:vU 383 zos:=kF1 zgP zD zB zu (zy []) zSA
def zHK (N:Nat)(a:aD):OA:=
 let g:=zk a.N 0 99;let f:=zM a.N 0 99;let e:=ieq a.Kind 2;let d:=aB<|ieq a.N 0;let b:=ieq a.af 0;let c:=aB<|nB a.Write; (cond (ieq a.Kind 0) (cond (ieq a.Kind 0) (cond b (cond (nB a.Write) (some [d]) oF) oF)<|cond (ieq a.Kind 1) (oN (zM a.af 0 3)<|cond (zk a.af 0 3) (some [d]) oF)<|cond e (cond e (oN f<|cond g (cond b (some [c]) oF) oF) oF)<|cond (ieq a.Kind 3) (oN f<|cond g (cond b (some [c]) oF) oF) oF)<|cond (ieq a.Kind 4) (cond b (cond (nB a.Write) (some [d]) oF) oF)<|cond (ieq a.Kind 1) (oN (zM a.af 0 3)<|cond (zk a.af 0 3) (some [d]) oF)<|cond e (cond e (oN f<|cond g (cond b (some [c]) oF) oF) oF)<|cond (ieq a.Kind 3) (oN f<|cond g (cond b (some [c]) oF) oF) oF)
def zSm (a:aD)(b:zsH a=true):∃N,zHK N a=some [aB<|zlf a]:=by
 refine⟨0,?_⟩;unfold zHK oN nB;conv=>zeta
 refine br (λ_=>br (λ_=>br (λ_=>brN (λ_=>?_) λ_=>?_) λ_=>?_) λ_=>br (λ_=>j0 rfl (br (λ_=>?_) λ_=>?_)) λ_=>br (λ_=>br (λ_=>j0 rfl (br (λ_=>br (λ_=>?_) λ_=>?_) λ_=>?_)) λ_=>?_) λ_=>br (λ_=>j0 rfl (br (λ_=>br (λ_=>?_) λ_=>?_) λ_=>?_)) λ_=>?_) (λ_=>br (λ_=>br (λ_=>brN (λ_=>?_) λ_=>?_) λ_=>?_) λ_=>br (λ_=>j0 rfl (br (λ_=>?_) λ_=>?_)) λ_=>br (λ_=>br (λ_=>j0 rfl (br (λ_=>br (λ_=>?_) λ_=>?_) λ_=>?_)) λ_=>?_) λ_=>br (λ_=>j0 rfl (br (λ_=>br (λ_=>?_) λ_=>?_) λ_=>?_)) λ_=>?_);all_goals first|rfl|(simp only [*,zlf,zhZ,cT,cF]<;>rfl)|simp_all[Ty.cells,zlf,zhZ]
def zLB:vU 380 zos:=kF1 zgP zD zB zu (zy []) zSm
def zuF (c:Ctl):LI:=(cond (zk c.ar 0 3) [] [1])++((cond (zk c.Post 0 255) [] [2])++((cond (ine c.Post 0) (cond c.Open [] [3]) [])++(cond (ieq c.ar 2) (cond (ine c.Post 0) [4] []) [])))
@[simp] def zba0 {a:Type}(x:a)(l m:List a):ap (x::l) m=x::ap l m:=rfl
@[simp] abbrev zfU (c:Ctl):Bool:=true
@[simp] abbrev zmA (c:Ctl):LI:=zuF c
def zkN:Run:=rF1 dC λb=>(zfU b,[aS .int<|zmA b])
def zzk (N:Nat)(b:Ctl):OA:=
 let e:=aS .int [];let k:=ap (ap [] [2]) [4];let j:=ap (ap [] [1]) [4];let i:=aS .int<|ap [] [2];let h:=aS .int<|ap [] [1];let g:=ap (ap [] [2]) [3];let f:=ap (ap [] [1]) [3];let c:=ieq b.ar 2;let a:=ine b.Post 0;let d:=ap (ap [] [1]) [2];let l:=aS .int d; (oN (zM b.ar 0 3)<|cond (nB<|zk b.ar 0 3) (oN (few<|ln<|ap [] [1])<|oN (zM b.Post 0 255)<|cond (nB<|zk b.Post 0 255) (oN (few<|ln d)<|cond a (cond (nB b.Open) (oN (few<|ln<|ap d [3])<|cond c (cond a (oN (few<|ln<|ap (ap d [3]) [4])<|some [aS .int<|ap (ap d [3]) [4]])<|some [aS .int<|ap d [3]])<|some [aS .int<|ap d [3]])<|cond c (cond a (oN (few<|ln<|ap d [4])<|some [aS .int<|ap d [4]])<|some [l])<|some [l])<|cond c (cond a (oN (few<|ln<|ap d [4])<|some [aS .int<|ap d [4]])<|some [l])<|some [l])<|cond a (cond (nB b.Open) (oN (few<|ln f)<|cond c (cond a (oN (few<|ln<|ap f [4])<|some [aS .int<|ap f [4]])<|some [aS .int f])<|some [aS .int f])<|cond c (cond a (oN (few<|ln j)<|some [aS .int j])<|some [h])<|some [h])<|cond c (cond a (oN (few<|ln j)<|some [aS .int j])<|some [h])<|some [h])<|oN (zM b.Post 0 255)<|cond (nB<|zk b.Post 0 255) (oN (few<|ln<|ap [] [2])<|cond a (cond (nB b.Open) (oN (few<|ln g)<|cond c (cond a (oN (few<|ln<|ap g [4])<|some [aS .int<|ap g [4]])<|some [aS .int g])<|some [aS .int g])<|cond c (cond a (oN (few<|ln k)<|some [aS .int k])<|some [i])<|some [i])<|cond c (cond a (oN (few<|ln k)<|some [aS .int k])<|some [i])<|some [i])<|cond a (cond (nB b.Open) (oN (few<|ln<|ap [] [3])<|cond c (cond a (oN (few<|ln<|ap (ap [] [3]) [4])<|some [aS .int<|ap (ap [] [3]) [4]])<|some [aS .int<|ap [] [3]])<|some [aS .int<|ap [] [3]])<|cond c (cond a (oN (few<|ln<|ap [] [4])<|some [aS .int<|ap [] [4]])<|some [e])<|some [e])<|cond c (cond a (oN (few<|ln<|ap [] [4])<|some [aS .int<|ap [] [4]])<|some [e])<|some [e])
def zuZ (a:Ctl)(b:zbY big [.agg<|zmi a])(c:zfU a=true):∃N,zzk N a=some [aS .int<|zmA a]:=by
 refine⟨0,?_⟩;unfold zzk oN nB;conv=>zeta
 refine j0 rfl (brN (λ_=>mu (j0 rfl (brN (λ_=>mu (br (λ_=>brN (λ_=>mu (br (λ_=>br (λ_=>mu ?_) λ_=>?_) λ_=>?_)) λ_=>br (λ_=>br (λ_=>mu ?_) λ_=>?_) λ_=>?_) λ_=>br (λ_=>br (λ_=>mu ?_) λ_=>?_) λ_=>?_)) λ_=>br (λ_=>brN (λ_=>mu (br (λ_=>br (λ_=>mu ?_) λ_=>?_) λ_=>?_)) λ_=>br (λ_=>br (λ_=>mu ?_) λ_=>?_) λ_=>?_) λ_=>br (λ_=>br (λ_=>mu ?_) λ_=>?_) λ_=>?_))) λ_=>j0 rfl (brN (λ_=>mu (br (λ_=>brN (λ_=>mu (br (λ_=>br (λ_=>mu ?_) λ_=>?_) λ_=>?_)) λ_=>br (λ_=>br (λ_=>mu ?_) λ_=>?_) λ_=>?_) λ_=>br (λ_=>br (λ_=>mu ?_) λ_=>?_) λ_=>?_)) λ_=>br (λ_=>brN (λ_=>mu (br (λ_=>br (λ_=>mu ?_) λ_=>?_) λ_=>?_)) λ_=>br (λ_=>br (λ_=>mu ?_) λ_=>?_) λ_=>?_) λ_=>br (λ_=>br (λ_=>mu ?_) λ_=>?_) λ_=>?_));all_goals first|rfl|(simp only [*,zmA,zuF,cT,cF]<;>rfl)|simp_all[Ty.cells,zmA,zuF]
def zDA:vU 437 zkN:=hF1 zgP zD zB zu (zy []) zuZ
def zDv:vU 452 zkN:=hF1 zgP zD zB zu (zy []) zuZ
def zg3 (p n:Int):Bool:=ieq (wand .i64 (zCQ .i64 p n) 1) 1
def scan (p:Int):Int:=bif zg3 p 7 then 7 else (cond (zg3 p 6) 6<|cond (zg3 p 5) 5<|cond (zg3 p 4) 4<|cond (zg3 p 3) 3<|cond (zg3 p 2) 2<|cond (zg3 p 1) 1<|cond (zg3 p 0) 0<|-1)
def z4p:∀n:Fin 256,-1<=scan (n.val:Int)/\scan (n.val:Int)<=7/\(0<=scan (n.val:Int)->wsub .i64 (n.val:Int) (zpv .i64 1<|scan (n.val:Int))=zLc .i64 (n.val:Int) (zpv .i64 1<|scan (n.val:Int))):=by decide +kernel
def z08 {P:Int->Prop}(h:∀n:Fin 256,P (n.val:Int)){x:Int}(a:0<=x)(b:x<=255):P x:=by have:=h ⟨x.toNat,by omega⟩;have e:((x.toNat:Nat):Int)=x:=(by omega);simpa [e] using this
def z5O:zbf:=[(291,zCk),(213,zmV),(207,zmV),(216,zoy),(211,zoy),(453,zqM),(451,zqM),(383,zos),(380,zos),(437,zkN),(452,zkN)]++z5N
def zin:zN z5O:=zi zLR (zi zJk<|zi zI3<|zi zL3<|zi zLI<|zi zPy<|zi zPn<|zi zLT<|zi zLB<|zi zDA<|zi zDv zgP)
def zh6 (m:List LI)(n:Int):Bool:=bif m.all zcw then ieq (ln m) n else false
@[simp] abbrev zlh (m:List LI)(n:Int):Bool:=true
@[simp] abbrev zf9 (m:List LI)(n:Int):Bool:=zh6 m n
def zqN:Run:=rF2 (dS<|.sl .int) dI λb c=>(zlh b c,[aB<|zf9 b c])
def zNX (N:Nat)(c:lM)(d:Int):OA:=
 (r0 (σ:=(Int×Int×lM×Unit)) N (λe a=>let b:=a.2.2.1; (cond (ilt a.2.1<|ln b) (oN (inb a.2.1<|ln b)<|oN (zdC<|ix b a.2.1 [])<|cond (nB<|zc8<|ix b a.2.1 []) oF<|e (a.1,zK .i64 a.2.1 1,b,()))<|some [aB<|ieq (ln b) a.1])) (d,0,c,()))
def zV9:=zy [(120,0,{n:=22,tm:=[(0,.sl 0 []),(1,ti),(5,ti)],lo:=[],ro:=[(0,.sl .int,false)]})]
def zVk (a:List LI)(c:Int)(h:zbY big [aS (.sl .int) a,aI c])(k:zlh a c=true):∃N,zNX N a c=some [aB<|zf9 a c]:=by
 have g:(_:List _).length<=big:=((zb8 h).1 _ (qF.2 rfl)).len;refine zcd λN f=>?_;unfold zNX oN nB;conv=>zeta
 refine(zbg a (λi (t:Unit)=>(c,(i:Int),a,())) _ (λ_ x (_:Unit) j=>bif (zcw) x then j () else oF) (λ(t:Unit)=>some [.one<|.b<|ieq (ln a) c]) (λi d t rec=>?_) (λt rec=>?_) _ ()<|f g).trans ?_;{simp only [zbx d,zY d,zbi d,zV d g,cT];exact zjs rfl};{simp only [zbq,cF]};rw[zfc<|zcw];refine br (λe=>?_) (λe=>?_);{first|rfl|(simp only [e,zf9,zh6,cT,cF]<;>rfl)|(simp_all [Ty.cells,zf9,zh6];done)};{first|rfl|(simp only [e,zf9,zh6,cT,cF]<;>rfl)|(simp_all [Ty.cells,zf9,zh6];done)}
def zPz:vU 120 zqN:=hF2 zin zD zB zu zV9 zVk
def zNN (N:Nat)(c:lM)(d:Int):OA:=
 (r0 (σ:=(Int×Int×Int×lM×Unit)) N (λe a=>let b:=a.2.2.2.1; (cond (ilt a.2.2.1 a.2.1) (oN (inb a.2.2.1<|ln b)<|oN (zdC<|ix b a.2.2.1 [])<|cond (nB<|zc8<|ix b a.2.2.1 []) oF<|e (a.1,a.2.1,zK .i64 a.2.2.1 1,b,()))<|some [aB<|ieq (ln b) a.1])) (d,ln c,0,c,()))
def zV6:=zy [(218,0,{n:=21,tm:=[(0,.sl 0 []),(1,ti),(7,.sl 0 []),(8,ti),(9,ti)],lo:=[],ro:=[(0,.sl .int,false)]})]
def zVc (a:List LI)(c:Int)(h:zbY big [aS (.sl .int) a,aI c])(k:zlh a c=true):∃N,zNN N a c=some [aB<|zf9 a c]:=by
 have g:(_:List _).length<=big:=((zb8 h).1 _ (qF.2 rfl)).len;refine zcd λN f=>?_;unfold zNN oN nB;conv=>zeta
 refine(zbg a (λi (t:Unit)=>(c,ln a,(i:Int),a,())) _ (λ_ x (_:Unit) j=>bif (zcw) x then j () else oF) (λ(t:Unit)=>some [.one<|.b<|ieq (ln a) c]) (λi d t rec=>?_) (λt rec=>?_) _ ()<|f g).trans ?_;{simp only [zbx d,zY d,zbi d,zV d g,cT];exact zjs rfl};{simp only [zbq,cF]};rw[zfc<|zcw];refine br (λe=>?_) (λe=>?_);{first|rfl|(simp only [e,zf9,zh6,cT,cF]<;>rfl)|(simp_all [Ty.cells,zf9,zh6];done)};{first|rfl|(simp only [e,zf9,zh6,cT,cF]<;>rfl)|(simp_all [Ty.cells,zf9,zh6];done)}
def zPo:vU 218 zqN:=hF2 zin zD zB zu zV6 zVc
def zdo (p:List Ins):Bool:=bif p.all zem then zk (ln p) 1 12 else false
@[simp] abbrev zsM (p:List Ins):Bool:=true
@[simp] abbrev zgV (p:List Ins):Bool:=zdo p
def zoA:Run:=rF1 (dS .ins) λb=>(zsM b,[aB<|zgV b])
def zIb (N:Nat)(c:lI):OA:=
 (r0 (σ:=(Int×lI×Unit)) N (λd a=>let b:=ix a.2.1 a.1 zLd; (cond (ilt a.1<|ln a.2.1) (oN (inb a.1<|ln a.2.1)<|oN (zvw b)<|cond (nB<|zs4 b) oF<|d (zK .i64 a.1 1,a.2.1,()))<|oN (zM (ln a.2.1) 1 12)<|some [aB<|zk (ln a.2.1) 1 12])) (0,c,()))
def zUw:=zy [(382,0,{n:=19,tm:=[(0,.sl 0 []),(3,ti)],lo:=[],ro:=[(0,.ins,false)]})]
def zSM (a:List Ins)(g:zbY big [aS .ins a])(j:zsM a=true):∃N,zIb N a=some [aB<|zgV a]:=by
 have f:(_:List _).length<=big:=((zb8 g).1 _ (qF.2 rfl)).len;refine zcd λN e=>?_;unfold zIb oN nB;conv=>zeta
 refine(zbg a (λi (t:Unit)=>((i:Int),a,())) _ (λ_ x (_:Unit) h=>bif (zem) x then h () else oF) (λ(t:Unit)=>cond (zM (ln a) 1 12) (some [.one<|.b<|zk (ln a) 1 12]) none) (λi c t rec=>?_) (λt rec=>?_) _ ()<|e f).trans ?_;{simp only [zbx c,zY c,zbi c,zV c f,cT];exact zjs rfl};{simp only [zbq,cF]};rw[zfc<|zem];refine br (λd=>?_) (λd=>?_);{refine j0 rfl ?_;first|rfl|(simp only [d,zgV,zdo,cT,cF]<;>rfl)|(simp_all [Ty.cells,zgV,zdo];done)};{first|rfl|(simp only [d,zgV,zdo,cT,cF]<;>rfl)|(simp_all [Ty.cells,zgV,zdo];done)}
def zL5:vU 382 zoA:=hF1 zin zD zB zu zUw zSM
def zHR (N:Nat)(b:lI):OA:=
 (r0 (σ:=(Int×Int×lI×Unit)) N (λd a=>let c:=ix a.2.2.1 a.2.1 zLd; (cond (ilt a.2.1 a.1) (oN (inb a.2.1<|ln a.2.2.1)<|oN (zvw c)<|cond (nB<|zs4 c) oF<|d (a.1,zK .i64 a.2.1 1,a.2.2.1,()))<|oN (zM (ln a.2.2.1) 1 12)<|some [aB<|zk (ln a.2.2.1) 1 12])) (ln b,0,b,()))
def zUn:=zy [(378,0,{n:=18,tm:=[(0,.sl 0 []),(5,.sl 0 []),(6,ti),(7,ti)],lo:=[],ro:=[(0,.ins,false)]})]
def zSt (a:List Ins)(g:zbY big [aS .ins a])(j:zsM a=true):∃N,zHR N a=some [aB<|zgV a]:=by
 have f:(_:List _).length<=big:=((zb8 g).1 _ (qF.2 rfl)).len;refine zcd λN e=>?_;unfold zHR oN nB;conv=>zeta
 refine(zbg a (λi (t:Unit)=>(ln a,(i:Int),a,())) _ (λ_ x (_:Unit) h=>bif (zem) x then h () else oF) (λ(t:Unit)=>cond (zM (ln a) 1 12) (some [.one<|.b<|zk (ln a) 1 12]) none) (λi c t rec=>?_) (λt rec=>?_) _ ()<|e f).trans ?_;{simp only [zbx c,zY c,zbi c,zV c f,cT];exact zjs rfl};{simp only [zbq,cF]};rw[zfc<|zem];refine br (λd=>?_) (λd=>?_);{refine j0 rfl ?_;first|rfl|(simp only [d,zgV,zdo,cT,cF]<;>rfl)|(simp_all [Ty.cells,zgV,zdo];done)};{first|rfl|(simp only [d,zgV,zdo,cT,cF]<;>rfl)|(simp_all [Ty.cells,zgV,zdo];done)}
def zLK:vU 378 zoA:=hF1 zin zD zB zu zUn zSt
def zlB (c:Ctl):Bool:=ieq (ln<|zuF c) 0
@[simp] abbrev zqa (c:Ctl):Bool:=zlB c
def zqL:Run:=rF1 dC λb=>(zfU b,[aB<|zqa b])
def zNT (N:Nat)(a:Ctl):OA:=
 (oN (zfU a)<|some [aB<|ieq (ln<|zmA a) 0])
def zFd (a:Ctl)(b:zbY big [.agg<|zmi a])(c:zfU a=true):∃N,zNT N a=some [aB<|zqa a]:=by refine⟨0,?_⟩;unfold zNT oN;refine j0 rfl ?_;first|rfl|(simp only [*,zqa,zlB,cT,cF]<;>rfl)|simp_all[Ty.cells,zqa,zlB]
def zPv:vU 351 zqL:=hF1 zin zD zB zu (zy []) zFd
def zPm:vU 379 zqL:=hF1 zin zD zB zu (zy []) zFd
def zd7 (p:Int):Int:=bif zdI p then scan p else -1
def zXo {x:Int}(a:0<=x)(b:x<=255):wcv .u64 x=x:=z08 (P:=λx=>wcv .u64 x=x) (by decide +kernel) a b
@[simp] abbrev znp (p:Int):Int:=zd7 p
def zCp:Run:=rF1 dI λb=>(zc6 b,[aI<|znp b])
def zIg (N:Nat)(b:Int):OA:=
 (r0 (σ:=(Int×Int×Unit)) N (λc a=>cond (ige a.2.1 0) (oN (zc6 a.1)<|cond (ze7 a.1) (oN (ile 0<|wcv .u64 a.2.1)<|cond (ieq (wand .i64 (zCQ .i64 a.1<|wcv .u64 a.2.1) 1) 1) (some [aI a.2.1])<|c (a.1,wsub .i64 a.2.1 1,()))<|some [aI<|-1])<|some [aI<|-1]) (b,7,()))
def zUx:=zy [(439,0,{n:=19,tm:=[(0,ti),(3,ti)],lo:=[],ro:=[]})]
def zSQ (a:Int)(C:zc6 a=true):∃N,zIg N a=some [aI<|znp a]:=by refine⟨10,?_⟩;unfold zIg oN;cases h:zdI a;{rw [zdJ];refine j0 rfl ?_;refine j0 rfl ?_;refine zek h ?_;simp[zd7,h]};{have c:ze7 a=true:=h;rw[zdJ];refine j0 rfl (j0 rfl (j0 c (j0 rfl (br (λr=>?_) λr=>?_))));{have A:zg3 a 7=true:=r;simp[zd7,h,scan,A]};have b:zg3 a 7=false:=r;show r0 9 _ (a,6,())=_;rw[zdJ];refine j0 rfl (j0 rfl (j0 c (j0 rfl (br (λq=>?_) λq=>?_))));{have z:zg3 a 6=true:=q;simp[zd7,h,scan,z,b]};have d:zg3 a 6=false:=q;show r0 8 _ (a,5,())=_;rw[zdJ];refine j0 rfl (j0 rfl (j0 c (j0 rfl (br (λp=>?_) λp=>?_))));{have y:zg3 a 5=true:=p;simp[zd7,h,scan,y,b,d]};have e:zg3 a 5=false:=p;show r0 7 _ (a,4,())=_;rw[zdJ];refine j0 rfl (j0 rfl (j0 c (j0 rfl (br (λn=>?_) λn=>?_))));{have x:zg3 a 4=true:=n;simp[zd7,h,scan,x,b,d,e]};have f:zg3 a 4=false:=n;show r0 6 _ (a,3,())=_;rw[zdJ];refine j0 rfl (j0 rfl (j0 c (j0 rfl (br (λm=>?_) λm=>?_))));{have w:zg3 a 3=true:=m;simp[zd7,h,scan,w,b,d,e,f]};have g:zg3 a 3=false:=m;show r0 5 _ (a,2,())=_;rw[zdJ];refine j0 rfl (j0 rfl (j0 c (j0 rfl (br (λl=>?_) λl=>?_))));{have v:zg3 a 2=true:=l;simp[zd7,h,scan,v,b,d,e,f,g]};have i:zg3 a 2=false:=l;show r0 4 _ (a,1,())=_;rw[zdJ];refine j0 rfl (j0 rfl (j0 c (j0 rfl (br (λk=>?_) λk=>?_))));{have u:zg3 a 1=true:=k;simp[zd7,h,scan,u,b,d,e,f,g,i]};have s:zg3 a 1=false:=k;show r0 3 _ (a,0,())=_;rw[zdJ];refine j0 rfl (j0 rfl (j0 c (j0 rfl (br (λj=>?_) λj=>?_))));{have t:zg3 a 0=true:=j;simp[zd7,h,scan,t,b,d,e,f,g,i,s]};have B:zg3 a 0=false:=j;show r0 2 _ (a,-1,())=_;rw[zdJ];refine zek rfl ?_;simp[zd7,h,scan,b,d,e,f,g,i,s,B]}
def zL9:vU 439 zCp:=kF1 zin zD zB zu zUx zSQ
def zbL {c:Cur}{i k:Int}(h:zbh c)(a:0<=i):zbh ⟨c.b,i,k⟩:=⟨a,h.2⟩
def zWX {c:Cur}(h:zbh c){l:LI}(a:l≠[]):zbp c l∈l:=(zxJ<|zfh h a).2.2 (kM.2 a)
def zf1 {c:Cur}(h:zbh c){n:Int}(a:0<n):0<=zn c n/\zn c n<n:=(zhC<|zbF h n).2.2 a
def zJL {o x:Int}(h:(o=1\/o=2\/o=5\/o=6)/\0<=x/\x<=99\/(o=3\/o=4)/\0<=x/\x<=15\/o=8/\0<=x/\x<=11):zem ⟨o,x⟩=true:=by have w:∀{a b:Int},a<=x->x<=b->zk x a b=true:=λc d=>(by simp only[zk,ige,ile,qE,jA];exact⟨c,d⟩);rcases h with⟨h|h|h|h,c,d⟩|⟨h|h,c,d⟩|⟨h,c,d⟩<;>subst h<;>exact w c d
def zxW (N:Nat)(c:Cur)  : OA :=
 let d:=zbp c [1,2,3,3,3,4,4,4,5,6,8];let a:=({ (zba c [1,2,3,3,3,4,4,4,5,6,8]) with b:=c.b}:Cur); (p0 (oN (zx a 16)<|some [.agg [.s .u8 c.b,.i .i64 (zf a 16).i,.i .i64 (zf a 16).h],.agg [.i .i64 d,.i .i64<|zn a 16]]) λf=>p0 (cond (ieq d 8) (oN (zx a 4)<|some [.agg [.s .u8 c.b,.i .i64 (zf a 4).i,.i .i64 (zf a 4).h],.agg [.i .i64 d,.i .i64<|zn a 4]])<|oN (zx a 100)<|some [.agg [.s .u8 c.b,.i .i64 (zf a 100).i,.i .i64 (zf a 100).h],.agg [.i .i64 d,.i .i64<|zn a 100]]) λe=>oN (zbu c [1,2,3,3,3,4,4,4,5,6,8])<|cond (ieq d 3) (cond (ieq d 3) f e)<|cond (ieq d 4) f e)
def zq2 (c:Cur)(s:Cur)(a:Ins):Prop:=(∃N,zxW N c=some (AV.agg (zbU s)::[aT .ins a]))/\(s.b=c.b/\0<=s.i)/\(zem a=true)
def zjR (c:Cur)  : Bool:=wC (zq2 c)
def zgp (c:Cur)  : Cur:=wS (zq2 c)
def zgc (c:Cur)  : Ins:=wV (zq2 c)
def zKx {c:Cur}(h:zjR c=true):zq2 c (zgp c) (zgc c):=wG h
def zy2 (c:Cur)  : 0<=(zgp c).i:=wP λh=>h.2.1.2
def zYV (c:Cur)(h:∃N,Ends (wE (λa=>aT .ins a) c.b λa=>zem a=true)<|zxW N c):zjR c=true:=wI (λ_ _ h=>h) h
def zzD:zdS:=rP0 λc=>(zjR c,zgp c,[aT .ins<|zgc c])
def zMf:zbQ Tryz.prog 447 [false,true,true] zzD:=hP0 zeB zZ zTi zu (zy []) (λ_ h=>(zKx h).1)
def zQN {c:Cur}(h:zbh c):zjR c=true:=by
 refine zYV c ⟨0,?_⟩;have p:([1,2,3,3,3,4,4,4,5,6,8]:LI)≠[]:=(by simp);have q:=zWX h p;have f:zbh {zba c [1,2,3,3,3,4,4,4,5,6,8] with b:=c.b}:=zbL h (zb1 _ _);have t:=zf1 f (n:=16) (by omega);have w:=zf1 f (n:=4) (by omega);have m:=zf1 f (n:=100) (by omega);unfold zxW oN;conv=>zeta
 generalize zbp c [1,2,3,3,3,4,4,4,5,6,8]=o at q;simp only[qG,qO,or_false]at q;have j:∀{n:Int},ieq o n=false->o≠n:=λh e=>(by subst e;simp[ieq]at h);have k:∀{n:Int},ieq o n=true->o=n:=λh=>by simpa [ieq] using h
 have L:∀(n:Int),0<n->(zem ⟨o,zn {zba c [1,2,3,3,3,4,4,4,5,6,8] with b:=c.b} n⟩=true)->Ends (λa=>∃s r,a=(AV.agg (zbU s)::[aT .ins r])/\(s.b=c.b/\0<=s.i)/\zem r=true)
  (cond (zx {zba c [1,2,3,3,3,4,4,4,5,6,8] with b:=c.b} n) (some (AV.agg [.s .u8 c.b,.i .i64 (zf {zba c [1,2,3,3,3,4,4,4,5,6,8] with b:=c.b} n).i,.i .i64 (zf {zba c [1,2,3,3,3,4,4,4,5,6,8] with b:=c.b} n).h]::[.agg [.i .i64 o,.i .i64<|zn {zba c [1,2,3,3,3,4,4,4,5,6,8] with b:=c.b} n]])) none):=
  λn x u=>zA (zbF f n) (zbJ (aT .ins) (v:=⟨o,zn _ n⟩) (zG _ _) u)
 refine zA (zfh h p) (zbC (λg=>zbC (λ_=>L 16 (by omega) (zJL ?_)) λd=>absurd (k g) (j d)) λg=>zbC (λd=>L 16 (by omega) (zJL ?_)) λd=>zbC (λl=>L 4 (by omega) (zJL ?_)) λl=>L 100 (by omega) (zJL ?_));{have:=k g;omega};{have:=k d;omega};{have:=k l;omega};{have:=j g;have:=j d;have:=j l;omega}
def z6n:zc0:=[(447,[false,true,true],zzD)]++z6m
def zTj:zb5 z6n:=zcu zTi (by
 intro x a;simp only[qG,qO,or_false]at a;rcases a with rfl
 .exact zMf)
def zhp {x y:Int}(a:0<=x)(b:x<=1000000)(c:0<=y)(d:y<=1000000):zK .i64 x y=x+y:=zmd (by omega) (by omega)
def zkZ {a:Type}{l:List a}(h:ln l<=1000000):few (ln l)=true:=qL ⟨by unfold ln;omega,by omega⟩
def zhL {a:Type}(l:List a)(x:a):ln (ap l [x])=ln l+1:=by simp[ln,ap]
def zvK (N:Nat)(c:Cur)  : OA :=
 (r0 (σ:=(Int×Int×Int×lI×LI×Unit)) N (λj d=>let e:=d.2.2.2.1;let f:=d.2.2.2.2.1;let g:=(⟨f,d.2.1,d.2.2.1⟩:Cur);let a:=({ (zf g 7) with b:=f}:Cur); (oN (zx g 7)<|cond (ilt d.1<|zK .i64 2<|zn g 7) (oN (zjR a)<|oN (few<|ln<|ap e [zgc a])<|j (zK .i64 d.1 1,(zgp a).i,(zgp a).h,ap e [zgc a],f,()))<|oN (zcJ a 3)<|cond (zcX a 3) (oN (few<|ln<|ap e [(⟨7,0⟩:Ins)])<|some [.agg [.s .u8 f,.i .i64 (zO a 3).i,.i .i64 (zO a 3).h],aS .ins<|ap e [(⟨7,0⟩:Ins)]])<|oN (few<|ln<|ap e [(⟨8,0⟩:Ins)])<|some [.agg [.s .u8 f,.i .i64 (zO a 3).i,.i .i64 (zO a 3).h],aS .ins<|ap e [(⟨8,0⟩:Ins)]])) (0,c.i,c.h,[],c.b,()))
def zQD:=zy [(363,0,{n:=29,tm:=[(0,.lp 0 0),(3,.sl 0 []),(4,ti)],lo:=[(0,[.sl 1 [],ti,ti])],ro:=[(0,.ins,true),(1,.u8,false)]})]
def zpc (c:Cur)(s:Cur)(a:List Ins):Prop:=(∃N,zvK N c=some (AV.agg (zbU s)::[aS .ins a]))/\(s.b=c.b/\0<=s.i)/\(zdo a=true)
def zhd (c:Cur)  : Bool:=wC (zpc c)
def zbb (c:Cur)  : Cur:=wS (zpc c)
def zb4 (c:Cur)  : List Ins:=wV (zpc c)
def zq3 {c:Cur}(h:zhd c=true):zpc c (zbb c) (zb4 c):=wG h
def ziB (c:Cur)  : 0<=(zbb c).i:=wP λh=>h.2.1.2
def zVK (c:Cur)(h:∃N,Ends (wE (λa=>aS .ins a) c.b λa=>zdo a=true)<|zvK N c):zhd c=true:=wI (λ_ _ h=>h) h
def zxj:zdS:=rP0 λc=>(zhd c,zbb c,[aS .ins<|zb4 c])
def zJt:zbQ Tryz.prog 363 [false,true,true] zxj:=hP0 zeB zZ zTj zu zQD (λ_ h=>(zq3 h).1)
def zCb {c:Cur}(h:zbh c):zhd c=true:=by
 refine zVK c ⟨9,?_⟩;unfold zvK oN;conv=>zeta
 refine ziO (λn s=>s.1+(n:Int)=8/\0<=s.1/\0<=s.2.1/\(∀x∈s.2.2.2.1,zem x=true)/\ln s.2.2.2.1=s.1/\s.2.2.2.2.1=c.b) ?_ 9 8 _ ⟨rfl,kN 0,h.1,by simp,rfl,rfl⟩ (by omega);rintro n ⟨t,i,k,l,b,u⟩ rec ⟨B,g,v,j,w,z⟩ f;dsimp only at B g v j w z ⊢;subst z;have a:zbh ⟨c.b,i,k⟩:=zbL h v;have d:=zf1 a (n:=7) (by omega);have A:=zhp (x:=2) (by omega) (by omega) d.1 (by omega);have m:zbh {zf ⟨c.b,i,k⟩ 7 with b:=c.b}:=zbL h (zG _ _);have e:∀(y:Ins),zem y=true->2<=t->zdo (ap l [y])=true:=(by intro y C D;unfold zdo;rw[zhL,w];have:(ap l [y]).all zem=true:=(by simp only[ap,List.all_append,k6,List.all_nil,vK,qE];exact⟨qM.2 j,C⟩);rw[this,cT];simp only[zk,ige,ile,qE,jA];omega);refine zA (zbF a 7) (zbC (λp=>?_) λp=>?_);{have r:t<zK .i64 2 (zn ⟨c.b,i,k⟩ 7):=qD p;rw[A]at r;refine zA (zQN m) (zA (zkZ (by rw[zhL];omega))<|f (n-1) _ (by omega) ⟨?_,?_,zy2 _,?_,?_,rfl⟩);{show zK .i64 t 1+_=8;rw[zhp g (by omega) (by omega) (by omega)];omega};{show 0<=zK .i64 t 1;rw[zhp g (by omega) (by omega) (by omega)];omega};{intro x d;rcases jH.1 d with d|d;{exact j x d};{rw [qF.1 d];exact(zKx<|zQN m).2.2}};{show ln (ap l [_])=zK .i64 t 1;rw[zhL,zhp g (by omega) (by omega) (by omega)];omega}};{have q:¬ t<zK .i64 2 (zn ⟨c.b,i,k⟩ 7):=jT p;rw[A]at q;refine zA (zh8 m 3) (zbC (λ_=>zA (zkZ (by rw[zhL];omega)) (zbJ (aS .ins) (zcj _ _) (e _ rfl (by omega)))) λ_=>zA (zkZ (by rw[zhL];omega)) (zbJ (aS .ins) (zcj _ _) (e _ rfl (by omega))))}
def z6o:zc0:=[(363,[false,true,true],zxj)]++z6n
def zTk:zb5 z6o:=zcu zTj (by
 intro x a;simp only[qG,qO,or_false]at a;rcases a with rfl
 .exact zJt)
def zUH {f:Type}{c:Cur}(h:zbh c){P:f->Prop}{fc:Cur->Bool}{fs:Cur->Cur}{fv:Cur->f}(C:∀{c:Cur},zbh c->fc c=true)(D:∀c,0<=(fs c).i)(hg:∀{c:Cur},zbh c->P (fv c)){G:Ans->Prop}{R:Cur->List f->Ans}(B:∀s l,s.b=c.b->0<=s.i->1<=l.length->l.length<=2->(∀x∈l,P x)->G (R s l)){F:(Int×Int×Int×List f×LI×Unit->OA)->Int×Int×Int×List f×LI×Unit->OA}(A:∀rec t i k l,F rec (t,i,k,l,c.b,())=bif zx ⟨c.b,i,k⟩ 2 then (bif ilt t (zK .i64 1 (zn ⟨c.b,i,k⟩ 2)) then (bif fc { zf ⟨c.b,i,k⟩ 2 with b:=c.b } then (bif few (ln (ap l [fv { zf ⟨c.b,i,k⟩ 2 with b:=c.b }])) then
        rec (zK .i64 t 1,(fs {zf ⟨c.b,i,k⟩ 2 with b:=c.b}).i,(fs {zf ⟨c.b,i,k⟩ 2 with b:=c.b}).h,ap l [fv {zf ⟨c.b,i,k⟩ 2 with b:=c.b}],c.b,()) else none) else none) else some (R ⟨c.b,(zf ⟨c.b,i,k⟩ 2).i,(zf ⟨c.b,i,k⟩ 2).h⟩ l)) else none) :
 Ends G (r0 3 F (0,c.i,c.h,[],c.b,())):=by
 refine ziO (fun n s=>s.1+(n:Int)=2/\0<=s.1/\0<=s.2.1/\(∀x∈s.2.2.2.1,P x)/\ln s.2.2.2.1=s.1/\s.2.2.2.2.1=c.b) ?_ 3 2 _ ⟨rfl,kN 0,h.1,by simp,rfl,rfl⟩ (by omega)
 rintro n ⟨t,i,k,l,b,u⟩ rec ⟨z,m,p,g,q,r⟩ e
 dsimp only at z m p g q r
 subst r;rw[A];have a:zbh ⟨c.b,i,k⟩:=zbL h p;have d:=zf1 a (n:=2) (by omega)
 have w:=zhp (x:=1) (by omega) (by omega) d.1 (by omega)
 have v:zbh {zf ⟨c.b,i,k⟩ 2 with b:=c.b}:=zbL h (zG _ _);refine zA (zbF a 2) (zbC (fun j=>?_) (fun j=>?_))
 .have hlt:t<zK .i64 1 (zn ⟨c.b,i,k⟩ 2):=qD j;rw[w]at hlt;have E:=zhp (y:=1) m (by omega) (by omega) (by omega)
  refine zA (C v) (zA (zkZ (by rw[zhL];omega)) (e (n-1) _ (by omega) ⟨?_,?_,D _,?_,?_,rfl⟩))
  .show zK .i64 t 1+_=2
   omega
  .show 0<=zK .i64 t 1
   omega
  .intro x d;rcases jH.1 d with d|d
   .exact g x d
   .rw [qF.1 d];exact hg v
  .show ln (ap l [_])=zK .i64 t 1
   rw[zhL];omega
 .have hge:¬ t<zK .i64 1 (zn ⟨c.b,i,k⟩ 2):=jT j;rw[w]at hge;unfold ln at q;exact zwO (B _ l rfl (zG _ _) (by omega) (by omega) g)
def ztg (N:Nat)(c:Cur)  : OA :=
 (r0 (σ:=(Int×Int×Int×lP×LI×Unit)) N (λg a=>let f:=a.2.2.2.2.1;let e:=(⟨f,a.2.1,a.2.2.1⟩:Cur);let d:=({ (zf e 2) with b:=f}:Cur); (oN (zx e 2)<|cond (ilt a.1<|zK .i64 1<|zn e 2) (oN (zhd d)<|oN (few<|ln<|ap a.2.2.2.1 [zb4 d])<|g (zK .i64 a.1 1,(zbb d).i,(zbb d).h,ap a.2.2.2.1 [zb4 d],f,()))<|some [.agg [.s .u8 f,.i .i64 (zf e 2).i,.i .i64 (zf e 2).h],aS (.sl .ins) a.2.2.2.1])) (0,c.i,c.h,[],c.b,()))
def zND:=zy [(187,0,{n:=19,tm:=[(0,.lp 0 0),(3,.sl 0 []),(4,ti)],lo:=[(0,[.sl 1 [],ti,ti])],ro:=[(0,.sl .ins,true),(1,.u8,false)]})]
def zm7 (c:Cur)(s:Cur)(a:List (List Ins)):Prop:=(∃N,ztg N c=some (AV.agg (zbU s)::[aS (.sl .ins) a]))/\(s.b=c.b/\0<=s.i)/\(1<=a.length/\a.length<=2/\∀x∈a,zdo x=true)
def zjb (c:Cur)  : Bool:=wC (zm7 c)
def zjc (c:Cur)  : Cur:=wS (zm7 c)
def zpl (c:Cur)  : List (List Ins):=wV (zm7 c)
def zCA {c:Cur}(h:zjb c=true):zm7 c (zjc c) (zpl c):=wG h
def zTU (c:Cur)  : 0<=(zjc c).i:=wP λh=>h.2.1.2
def zTT (c:Cur)(h:∃N,Ends (wE (λa=>aS (.sl .ins) a) c.b λa=>1<=a.length/\a.length<=2/\∀x∈a,zdo x=true)<|ztg N c):zjb c=true:=wI (λ_ _ h=>h) h
def zvb:zdS:=rP0 λc=>(zjb c,zjc c,[aS (.sl .ins)<|zpl c])
def zGR:zbQ Tryz.prog 187 [false,true,true] zvb:=hP0 zeB zZ zTk zu zND (λ_ h=>(zCA h).1)
def zWZ {c:Cur}(h:zbh c):zjb c=true:=by
 refine zTT c ⟨3,?_⟩;unfold ztg oN;conv=>zeta
 exact zUH h (P:=λx=>zdo x=true) (fc:=zhd) (fs:=zbb) (fv:=zb4) (R:=λs l=>AV.agg (zbU s)::[aS (.sl .ins) l]) zCb ziB (λh=>(zq3<|zCb h).2.2) (λs l d e a b f=>⟨s,l,rfl,⟨d,e⟩,a,b,f⟩) (λrec t i k l=>rfl)
def z6p:zc0:=[(187,[false,true,true],zvb)]++z6o
def zTl:zb5 z6p:=zcu zTk (by
 intro x a;simp only[qG,qO,or_false]at a;rcases a with rfl
 .exact zGR)
def zx1 (N:Nat)(c:Cur)  : OA :=
 (r0 (σ:=(Int×Int×Int×lQ×LI×Unit)) N (λg a=>let f:=a.2.2.2.2.1;let e:=(⟨f,a.2.1,a.2.2.1⟩:Cur);let d:=({ (zf e 2) with b:=f}:Cur); (oN (zx e 2)<|cond (ilt a.1<|zK .i64 1<|zn e 2) (oN (zjb d)<|oN (few<|ln<|ap a.2.2.2.1 [zpl d])<|g (zK .i64 a.1 1,(zjc d).i,(zjc d).h,ap a.2.2.2.1 [zpl d],f,()))<|some [.agg [.s .u8 f,.i .i64 (zf e 2).i,.i .i64 (zf e 2).h],aS (.sl<|.sl .ins) a.2.2.2.1])) (0,c.i,c.h,[],c.b,()))
def zUB:=zy [(186,0,{n:=19,tm:=[(0,.lp 0 0),(3,.sl 0 []),(4,ti)],lo:=[(0,[.sl 1 [],ti,ti])],ro:=[(0,.sl<|.sl .ins,true),(1,.u8,false)]})]
def zq8 (c:Cur)(s:Cur)(a:List (List<|List Ins)):Prop:=(∃N,zx1 N c=some (AV.agg (zbU s)::[aS (.sl<|.sl .ins) a]))/\(s.b=c.b/\0<=s.i)/\(1<=a.length/\a.length<=2/\∀p∈a,1<=p.length/\p.length<=2/\∀x∈p,zdo x=true)
def zpm (c:Cur)  : Bool:=wC (zq8 c)
def zl9 (c:Cur)  : Cur:=wS (zq8 c)
def zua (c:Cur)  : List (List<|List Ins):=wV (zq8 c)
def zKA {c:Cur}(h:zpm c=true):zq8 c (zl9 c) (zua c):=wG h
def zY7 (c:Cur)  : 0<=(zl9 c).i:=wP λh=>h.2.1.2
def zY6 (c:Cur)(h:∃N,Ends (wE (λa=>aS (.sl<|.sl .ins) a) c.b λa=>1<=a.length/\a.length<=2/\∀p∈a,1<=p.length/\p.length<=2/\∀x∈p,zdo x=true)<|zx1 N c):zpm c=true:=wI (λ_ _ h=>h) h
def zzI:zdS:=rP0 λc=>(zpm c,zl9 c,[aS (.sl<|.sl .ins)<|zua c])
def zMk:zbQ Tryz.prog 186 [false,true,true] zzI:=hP0 zeB zZ zTl zu zUB (λ_ h=>(zKA h).1)
def z4R {c:Cur}(h:zbh c):zpm c=true:=by
 refine zY6 c ⟨3,?_⟩;unfold zx1 oN;conv=>zeta
 exact zUH h (P:=λp=>1<=p.length/\p.length<=2/\∀x∈p,zdo x=true) (fc:=zjb) (fs:=zjc) (fv:=zpl) (R:=λs l=>AV.agg (zbU s)::[aS (.sl<|.sl .ins) l]) zWZ zTU (λh=>(zCA<|zWZ h).2.2) (λs l d e a b f=>⟨s,l,rfl,⟨d,e⟩,a,b,f⟩) (λrec t i k l=>rfl)
def z6q:zc0:=[(186,[false,true,true],zzI)]++z6p
def zTm:zb5 z6q:=zcu zTl (by
 intro x a;simp only[qG,qO,or_false]at a;rcases a with rfl
 .exact zMk)
def zC0 {c:Type}{G:c->Prop}{x:Bool}{a b:Option c}(k:Ends G a)(h:x=true:=by first
 |exact zbF (by first|assumption|exact zbL (by assumption) (zG _ _)|exact zbL (by assumption) (zcj _ _)|exact zbL (by assumption) (zb1 _ _)) _
 |exact zh8 (by first|assumption|exact zbL (by assumption) (zG _ _)|exact zbL (by assumption) (zcj _ _)) _
 |exact zfh (by first|assumption|exact zbL (by assumption) (zG _ _)) (by simp)):Ends G (cond x a b):=zA h k
def zxY (N:Nat)(c:Cur)  : OA :=
 let f:=zn c 4;let j:=({ (zf c 4) with b:=c.b}:Cur);let e:=zcX j 4;let d:=zO j 4;let a:=({d with b:=c.b}:Cur);let g:=({ (zO a 2) with b:=c.b}:Cur); (oN (zx c 4)<|oN (zcJ j 4)<|cond (nB e) (cond (ine f 2) (oN (zcJ a 2)<|cond (zcX a 2) (oN (zx g 256)<|some [.agg [.s .u8 c.b,.i .i64 (zf g 256).i,.i .i64 (zf g 256).h],.agg [.i .i64 f,.i .i64<|zn g 256,.b<|nB e]])<|some [.agg [.s .u8 c.b,.i .i64 (zO a 2).i,.i .i64 (zO a 2).h],.agg [.i .i64 f,.i .i64 0,.b<|nB e]])<|some [.agg [.s .u8 c.b,.i .i64 d.i,.i .i64 d.h],.agg [.i .i64 f,.i .i64 0,.b<|nB e]])<|some [.agg [.s .u8 c.b,.i .i64 d.i,.i .i64 d.h],.agg [.i .i64 f,.i .i64 0,.b<|nB e]])
def zq5 (c:Cur)(s:Cur)(a:Ctl):Prop:=(∃N,zxY N c=some (AV.agg (zbU s)::[.agg<|zmi a]))/\(s.b=c.b/\0<=s.i)/\(True)
def zjS (c:Cur)  : Bool:=wC (zq5 c)
def zcl (c:Cur)  : Cur:=wS (zq5 c)
def zcE (c:Cur)  : Ctl:=wV (zq5 c)
def zYZ {c:Cur}(h:zjS c=true):zq5 c (zcl c) (zcE c):=wG h
def zy4 (c:Cur)  : 0<=(zcl c).i:=wP λh=>h.2.1.2
def zY0 (c:Cur)(h:∃N,Ends (wE (λa=>.agg (zmi a)) c.b λa=>True)<|zxY N c):zjS c=true:=wI (λ_ _ h=>h) h
def zzF:zdS:=rP0 λc=>(zjS c,zcl c,[.agg<|zmi<|zcE c])
def zMh:zbQ Tryz.prog 413 [false,true,true] zzF:=hP0 zeB zZ zTm zu (zy []) (λ_ h=>(zYZ h).1)
def zXI {c:Cur}(h:zbh c):zjS c=true:=by
 refine zY0 c ⟨0,?_⟩;unfold zxY oN nB;conv=>zeta
 refine zC0 (zC0<|zbC (λ_=>zbC (λ_=>zC0 (zbC (λ_=>zC0 (?_)) λ_=>?_)) λ_=>?_) λ_=>?_);all_goals exact zbJ (λx=>AV.agg (zmi x)) (v:=⟨_,_,_⟩) (by first|exact zG _ _|exact zcj _ _) trivial
def z6r:zc0:=[(413,[false,true,true],zzF)]++z6q
def zHi:zb5 z6r:=zcu zTm (by
 intro x a;simp only[qG,qO,or_false]at a;rcases a with rfl
 .exact zMh)
def zd9 {c:Type}{G:c->Prop}{x:Bool}{a b:Option c}(k:Ends G a)(h:x=true:=by first
 |exact zbF (by first|assumption|exact zbL (by assumption) (zG _ _)|exact zbL (by assumption) (zb1 _ _)) _
 |exact zfh (by first|assumption|exact zbL (by assumption) (zG _ _)) (by simp)
 |exact zXI (zbL (by assumption)<|zG _ _)):Ends G (cond x a b):=zA h k
def zx4 (N:Nat)(c:Cur)  : OA :=
 let m:=({ (zf c 2) with b:=c.b}:Cur);let g:=zn c 2;let f:=zn m 2;let u:=({ (zf m 2) with b:=c.b}:Cur);let e:=zf u 24;let d:=zn u 24;let a:=({e with b:=c.b}:Cur);let j:=zf a 8;let l:=({ (zf a 4) with b:=c.b}:Cur);let k:=({j with b:=c.b}:Cur);let t:=({ (zf a 16) with b:=c.b}:Cur);let r:=({ (zba a [16,17]) with b:=c.b}:Cur);let q:=({ (zba a [13,13,14,15]) with b:=c.b}:Cur);let p:=({ (zf k 4) with b:=c.b}:Cur);let n:=({ (zf l 8) with b:=c.b}:Cur); (p0 (oN (zbu a [13,13,14,15])<|oN (zx q 8)<|some [.agg [.s .u8 c.b,.i .i64 (zf q 8).i,.i .i64 (zf q 8).h],.agg [.i .i64<|zbp a [13,13,14,15],.i .i64 g,.i .i64 f,.i .i64<|zn q 8,.i .i64 0,.i .i64 0]]) λA=>p0 (cond (ieq d 16) (oN (zbu a [16,17])<|oN (zx r 4)<|some [.agg [.s .u8 c.b,.i .i64 (zf r 4).i,.i .i64 (zf r 4).h],.agg [.i .i64<|zbp a [16,17],.i .i64 g,.i .i64 f,.i .i64<|zn r 4,.i .i64 0,.i .i64 0]])<|some [.agg [.s .u8 c.b,.i .i64 e.i,.i .i64 e.h],.agg [.i .i64 1,.i .i64 g,.i .i64 f,.i .i64 0,.i .i64 0,.i .i64 0]]) λz=>p0 (oN (zx a 4)<|oN (zx l 8)<|oN (zbu n [3,3,1,2])<|some [.agg [.s .u8 c.b,.i .i64 (zba n [3,3,1,2]).i,.i .i64 (zba n [3,3,1,2]).h],.agg [.i .i64 2,.i .i64 g,.i .i64 f,.i .i64<|zn a 4,.i .i64<|zn l 8,.i .i64<|zbp n [3,3,1,2]]]) λy=>p0 (oN (zx a 4)<|some [.agg [.s .u8 c.b,.i .i64 (zf a 4).i,.i .i64 (zf a 4).h],.agg [.i .i64 3,.i .i64 g,.i .i64 f,.i .i64<|zn a 4,.i .i64 0,.i .i64 0]]) λx=>p0 (cond (ieq d 7) (oN (zx a 8)<|some [.agg [.s .u8 c.b,.i .i64 j.i,.i .i64 j.h],.agg [.i .i64 6,.i .i64 g,.i .i64 f,.i .i64<|zn a 8,.i .i64 0,.i .i64 0]])<|cond (ieq d 8) (oN (zjS a)<|cond ((zcE a).Open) (some [.agg [.s .u8 c.b,.i .i64 (zcl a).i,.i .i64 (zcl a).h],.agg [.i .i64 7,.i .i64 g,.i .i64 f,.i .i64 (zcE a).ar,.i .i64 (zcE a).Post,.i .i64 1]])<|some [.agg [.s .u8 c.b,.i .i64 (zcl a).i,.i .i64 (zcl a).h],.agg [.i .i64 7,.i .i64 g,.i .i64 f,.i .i64 (zcE a).ar,.i .i64 (zcE a).Post,.i .i64 0]])<|cond (ieq d 9) (oN (zx a 8)<|oN (zx k 4)<|oN (zx p 100)<|some [.agg [.s .u8 c.b,.i .i64 (zf p 100).i,.i .i64 (zf p 100).h],.agg [.i .i64 8,.i .i64 g,.i .i64 f,.i .i64<|zn a 8,.i .i64<|zn k 4,.i .i64<|zn p 100]])<|cond (ieq d 10) (oN (zx a 8)<|some [.agg [.s .u8 c.b,.i .i64 j.i,.i .i64 j.h],.agg [.i .i64 9,.i .i64 g,.i .i64 f,.i .i64<|zn a 8,.i .i64 0,.i .i64 0]])<|cond (ieq d 11) (some [.agg [.s .u8 c.b,.i .i64 e.i,.i .i64 e.h],.agg [.i .i64 10,.i .i64 g,.i .i64 f,.i .i64 0,.i .i64 0,.i .i64 0]])<|cond (ieq d 12) (oN (zx a 16)<|oN (zx t 100)<|some [.agg [.s .u8 c.b,.i .i64 (zf t 100).i,.i .i64 (zf t 100).h],.agg [.i .i64 11,.i .i64 g,.i .i64 f,.i .i64<|zn a 16,.i .i64<|zn t 100,.i .i64 0]])<|cond (ieq d 13) (oN (zx a 16)<|some [.agg [.s .u8 c.b,.i .i64 (zf a 16).i,.i .i64 (zf a 16).h],.agg [.i .i64 12,.i .i64 g,.i .i64 f,.i .i64<|zn a 16,.i .i64 0,.i .i64 0]])<|cond (ieq d 14) (cond (ieq d 14) A z)<|cond (ieq d 15) A z) λv=>p0 (cond (ieq d 4) (oN (zx a 100)<|some [.agg [.s .u8 c.b,.i .i64 (zf a 100).i,.i .i64 (zf a 100).h],.agg [.i .i64 4,.i .i64 g,.i .i64 f,.i .i64<|zn a 100,.i .i64 0,.i .i64 0]])<|cond (ieq d 5) (cond (ieq d 5) (some [.agg [.s .u8 c.b,.i .i64 e.i,.i .i64 e.h],.agg [.i .i64 5,.i .i64 g,.i .i64 f,.i .i64 0,.i .i64 0,.i .i64 0]]) v)<|cond (ieq d 6) (some [.agg [.s .u8 c.b,.i .i64 e.i,.i .i64 e.h],.agg [.i .i64 5,.i .i64 g,.i .i64 f,.i .i64 0,.i .i64 0,.i .i64 0]]) v) λw=>p0 (cond (ieq d 2) (cond (ieq d 2) x w)<|cond (ieq d 3) x w) λB=>oN (zx c 2)<|oN (zx m 2)<|oN (zx u 24)<|cond (ieq d 0) (cond (ieq d 0) y B)<|cond (ieq d 1) y B)
def zra (c:Cur)(s:Cur)(a:GAct):Prop:=(∃N,zx4 N c=some (AV.agg (zbU s)::[aT .act a]))/\(s.b=c.b/\0<=s.i)/\(True)
def zij (c:Cur)  : Bool:=wC (zra c)
def zgs (c:Cur)  : Cur:=wS (zra c)
def znt (c:Cur)  : GAct:=wV (zra c)
def zY9 {c:Cur}(h:zij c=true):zra c (zgs c) (znt c):=wG h
def zZb (c:Cur)  : 0<=(zgs c).i:=wP λh=>h.2.1.2
def zZa (c:Cur)(h:∃N,Ends (wE (λa=>aT .act a) c.b λa=>True)<|zx4 N c):zij c=true:=wI (λ_ _ h=>h) h
def zzK:zdS:=rP0 λc=>(zij c,zgs c,[aT .act<|znt c])
def zMp:zbQ Tryz.prog 299 [false,true,true] zzK:=hP0 zeB zZ zHi zu (zy []) (λ_ h=>(zY9 h).1)
def zbaa {c:Cur}(h:zbh c):zij c=true:=by
 refine zZa c ⟨0,?_⟩;unfold zx4 oN;conv=>zeta
 refine zne (zd9<|zd9<|?_) (λ_ g=>zne (zbC (λ_=>zd9 (zd9<|?_)) λ_=>?_) λ_ f=>zne (zd9<|zd9<|zd9<|?_) λ_ e=>zne (zd9<|?_) λ_ d=>zne (zbC (λ_=>zd9 (?_)) λ_=>zbC (λ_=>zd9 (zbC (λ_=>?_) λ_=>?_)) λ_=>zbC (λ_=>zd9 (zd9<|zd9<|?_)) λ_=>zbC (λ_=>zd9 (?_)) λ_=>zbC (λ_=>?_) λ_=>zbC (λ_=>zd9 (zd9<|?_)) λ_=>zbC (λ_=>zd9 (?_)) λ_=>zbC (λ_=>zbC (λ_=>g) λ_=>f) λ_=>zbC (λ_=>g) λ_=>f) λ_ a=>zne (zbC (λ_=>zd9 (?_)) λ_=>zbC (λ_=>zbC (λ_=>?_) λ_=>a) λ_=>zbC (λ_=>?_) λ_=>a) λ_ b=>zne (zbC (λ_=>zbC (λ_=>d) λ_=>b) λ_=>zbC (λ_=>d) λ_=>b) λ_ i=>zd9 (zd9<|zd9<|zbC (λ_=>zbC (λ_=>e) λ_=>i) λ_=>zbC (λ_=>e) λ_=>i));all_goals exact zbJ (aT .act) (v:=⟨_,_,_,_,_,_⟩) (by first|exact zG _ _|exact zb1 _ _|exact zy4 _) trivial
def zkR (N:Nat)  : OA :=
 (r0 (σ:=(Int×lA×Unit)) N (λe c=>cond (ilt c.1 2) (r0 (σ:=(Int×Int×lA×Unit)) N (λf b=>cond (ilt b.2.1 2) (r0 (σ:=(Int×Int×Int×lA×Unit)) N (λg a=>let d:=ap a.2.2.2.1 [(⟨2,a.1,a.2.1,a.2.2.1,zK .i64 a.2.2.1<|zkJ .i64 3 a.2.1,3⟩:GAct),(⟨3,a.1,a.2.1,a.2.2.1,0,0⟩:GAct)]; (cond (ilt a.2.2.1 3) (oN (few<|ln d)<|g (a.1,a.2.1,zK .i64 a.2.2.1 1,d,()))<|f (a.1,zK .i64 a.2.1 1,a.2.2.2.1,()))) (b.1,b.2.1,0,b.2.2.1,()))<|e (zK .i64 b.1 1,b.2.2.1,())) (c.1,0,c.2.1,()))<|some [aS .act c.2.1]) (0,[],()))
def zNE:=zy [(390,0,{n:=34,tm:=[(1,.sl 0 []),(2,ti)],lo:=[],ro:=[(0,.act,true)]}),(390,2,{n:=34,tm:=[(1,.sl 0 []),(2,ti),(3,ti)],lo:=[],ro:=[(0,.act,true)]}),(390,4,{n:=34,tm:=[(1,.sl 0 []),(2,ti),(3,ti),(4,ti)],lo:=[],ro:=[(0,.act,true)]})]
def zsf  (a:List GAct):Prop:=(∃N,zkR N=some [aS .act a])/\(a.length<=45)
def zje  : Bool:=uC (T:=List GAct) (λr=>zsf r)
def zTX  : List GAct:=uV (λr=>zsf r)
def zsR  : List GAct:=(zTX)
def zCB  (h:zje=true):zsf zsR:=uG h
def zTW  (h:∃N,Ends (λa=>∃b,a=[aS .act b]/\(b.length<=45))<|zkR N):zje=true:=by obtain⟨N,a,e,b,rfl,h⟩:=h;exact zbn ⟨b,⟨N,e⟩,h⟩
def zxE:Run:=rF0 (zje,[aS .act zsR])
def zMZ  (a:zje=true):∃N,zkR N  = some [aS .act zsR]:=by exact(zCB a).1
def zGS:vU 390 zxE:=kF0 zeB zZ zHi zu zNE zMZ
def zZK:List GAct:=match zkR 10 with
 |some [.one<|.s .act l]=>l
 |_=>[]
def zWm:zje=true:=zTW ⟨10,_,(by kernel_rfl:zkR 10=some [aS .act zZK]),zZK,rfl,Nat.le_of_ble_eq_true (by kernel_rfl)⟩
def z6s:zc0:=[(299,[false,true,true],zzK)]++z6r
def zTn:zb5 z6s:=zcu zHi (by
 intro x a;simp only[qG,qO,or_false]at a;rcases a with rfl
 .exact zMp)
def z9r:zbf:=[(390,zxE)]++zLq
def zZS:zN z9r:=zi zGS zeB
def zOH {c:Cur}(h:zbh c){m:Int}(e:0<=m)(J:m<=1000){G:Ans->Prop}{R:Cur->List GAct->Ans}(D:∀s l,s.b=c.b->0<=s.i->ln l<=45+m->G (R s l)){F:(Int×Int×Int×Int×List GAct×LI×Unit->OA)->Int×Int×Int×Int×List GAct×LI×Unit->OA}(C:∀rec t i k l,F rec (m,t,i,k,l,c.b,())=bif zx ⟨c.b,i,k⟩ (zK .i64 m 1) then (bif ilt t (zn ⟨c.b,i,k⟩ (zK .i64 m 1)) then (bif zij { zf ⟨c.b,i,k⟩ (zK .i64 m 1) with b:=c.b } then (bif few (ln (ap l [znt { zf ⟨c.b,i,k⟩ (zK .i64 m 1) with b:=c.b }])) then
        rec (m,zK .i64 t 1,(zgs {zf ⟨c.b,i,k⟩ (zK .i64 m 1) with b:=c.b}).i,(zgs {zf ⟨c.b,i,k⟩ (zK .i64 m 1) with b:=c.b}).h,ap l [znt {zf ⟨c.b,i,k⟩ (zK .i64 m 1) with b:=c.b}],c.b,()) else none) else none) else some (R ⟨c.b,(zf ⟨c.b,i,k⟩ (zK .i64 m 1)).i,(zf ⟨c.b,i,k⟩ (zK .i64 m 1)).h⟩ l)) else none){w I:Int}(f:0<=w){g:List GAct}(E:g.length<=45):Ends G (r0 1002 F (m,0,w,I,g,c.b,())):=by
 refine ziO (fun n s=>s.1=m/\s.2.1+(n:Int)=1000/\0<=s.2.1/\0<=s.2.2.1/\(ln s.2.2.2.2.1<=45+s.2.1/\s.2.1<=m)/\s.2.2.2.2.2.1=c.b) ?_ 1002 1000 _ ⟨rfl,rfl,kN 0,f,⟨by unfold ln;show ((g.length:Nat):Int)<=45+0;omega,e⟩,rfl⟩ (by omega)
 rintro n ⟨q,t,i,k,l,b,u⟩ rec ⟨e,z,j,p,⟨A,H⟩,r⟩ d
 dsimp only at e z j p A r H
 subst r;subst e;rw[C];have a:zbh ⟨c.b,i,k⟩:=zbL h p;have L:=zhp (x:=q) (y:=1) (by omega) (by omega) (by omega) (by omega)
 have M:=zf1 a (n:=zK .i64 q 1) (by omega)
 have B:zbh {zf ⟨c.b,i,k⟩ (zK .i64 q 1) with b:=c.b}:=zbL h (zG _ _);refine zA (zbF a _) (zbC (fun v=>?_) (fun v=>?_))
 .have hlt:t<zn ⟨c.b,i,k⟩ (zK .i64 q 1):=qD v;have K:=zhp (y:=1) j (by omega) (by omega) (by omega)
  refine zA (zbaa B) (zA (zkZ (by rw[zhL];omega)) (d (n-1) _ (by omega) ⟨rfl,?_,?_,zZb _,⟨?_,?_⟩,rfl⟩))
  .show zK .i64 t 1+_=1000
   omega
  .show 0<=zK .i64 t 1
   omega
  .show ln (ap l [_])<=45+zK .i64 t 1
   rw[zhL];omega
  .show zK .i64 t 1<=q
   omega
 .refine zwO (D _ l rfl (zG _ _) ?_);omega
def zvR (N:Nat)(c:Cur)(p:Int):OA:=
 (oN (zcJ c 5)<|cond (nB<|zcX c 5) (oN zje<|r0 (σ:=(Int×Int×Int×Int×lA×LI×Unit)) N (λn a=>let l:=a.2.2.2.2.2.1;let f:=zK .i64 a.1 1;let d:=(⟨l,a.2.2.1,a.2.2.2.1⟩:Cur);let j:=({ (zf d f) with b:=l}:Cur);let q:=ap a.2.2.2.2.1 [znt j]; (oN (zx d f)<|cond (ilt a.2.1<|zn d f) (oN (zij j)<|oN (few<|ln q)<|n (a.1,zK .i64 a.2.1 1,(zgs j).i,(zgs j).h,q,l,()))<|some [.agg [.s .u8 l,.i .i64 (zf d f).i,.i .i64 (zf d f).h],aS .act a.2.2.2.2.1])) (p,0,(zO c 5).i,(zO c 5).h,zsR,c.b,()))<|r0 (σ:=(Int×Int×Int×Int×lA×LI×Unit)) N (λn a=>let m:=a.2.2.2.2.2.1;let g:=zK .i64 a.1 1;let e:=(⟨m,a.2.2.1,a.2.2.2.1⟩:Cur);let k:=({ (zf e g) with b:=m}:Cur);let r:=ap a.2.2.2.2.1 [znt k]; (oN (zx e g)<|cond (ilt a.2.1<|zn e g) (oN (zij k)<|oN (few<|ln r)<|n (a.1,zK .i64 a.2.1 1,(zgs k).i,(zgs k).h,r,m,()))<|some [.agg [.s .u8 m,.i .i64 (zf e g).i,.i .i64 (zf e g).h],aS .act a.2.2.2.2.1])) (p,0,(zO c 5).i,(zO c 5).h,[],c.b,()))
def zQG:=zy [(236,0,{n:=26,tm:=[(0,.lp 0 0),(1,ti),(5,.sl 0 []),(6,ti)],lo:=[(0,[.sl 1 [],ti,ti])],ro:=[(0,.act,true),(1,.u8,false)]})]
def zpp (c:Cur)(a:Int)(s:Cur)(d:List GAct):Prop:=(∃N,zvR N c a=some (AV.agg (zbU s)::[aS .act d]))/\(s.b=c.b/\0<=s.i)/\(ln d<=45+a)
def zmK (c:Cur)(a:Int):Bool:=wC (zpp c a)
def zmL (c:Cur)(a:Int):Cur:=wS (zpp c a)
def zrK (c:Cur)(a:Int):List GAct:=wV (zpp c a)
def zFB {c:Cur}{a:Int}(h:zmK c a=true):zpp c a (zmL c a) (zrK c a):=wG h
def zVT (c:Cur)(a:Int):0<=(zmL c a).i:=wP λh=>h.2.1.2
def zVS (c:Cur)(a:Int)(h:∃N,Ends (wE (λd=>aS .act d) c.b λd=>ln d<=45+a)<|zvR N c a):zmK c a=true:=wI (λ_ _ h=>h) h
def zxn:zdS:=rP1 dI λc b=>(zmK c b,zmL c b,[aS .act<|zrK c b])
def zJG:zbQ Tryz.prog 236 [false,true,true] zxn:=hP1 zZS zZ zTn zu zQG (λ_ _ h=>(zFB h).1)
def zZB {c:Cur}(h:zbh c){m:Int}(e:0<=m)(f:m<=1000):zmK c m=true:=by
 refine zVS c m ⟨1002,?_⟩;unfold zvR oN nB;conv=>zeta
 have g:=zCB zWm;exact zA (zh8 h 5) (zbC (λ_=>zA zWm (zOH h e f (R:=λs l=>AV.agg (zbU s)::[aS .act l]) (λs l a b d=>⟨s,l,rfl,⟨a,b⟩,d⟩) (λrec t i k l=>rfl) (zcj _ _) g.2)) λ_=>zOH h e f (R:=λs l=>AV.agg (zbU s)::[aS .act l]) (λs l a b d=>⟨s,l,rfl,⟨a,b⟩,d⟩) (λrec t i k l=>rfl) (zcj _ _) (jU _))
def z6t:zc0:=[(236,[false,true,true],zxn)]++z6s
def zTo:zb5 z6t:=zcu zTn (by
 intro x a;simp only[qG,qO,or_false]at a;rcases a with rfl
 .exact zJG)
@[simp] abbrev zvZ (l:List LI):Bool:=pc (SmM l)
@[simp] abbrev znE (l:List LI):List LI:=l
def zzM:Run:=rF1 (dS<|.sl .int) λb=>(zvZ b,[aS (.sl .int)<|znE b])
def zEl (N:Nat)(c:lM):OA:=
 (r0 (σ:=(Int×Int×lM×lM×Unit)) N (λd a=>let b:=ix a.2.2.2.1 a.2.1 []; (cond (ilt a.2.1 a.1) (oN (inb a.2.1<|ln a.2.2.2.1)<|oN (zfD b)<|oN (few<|ln<|ap a.2.2.1 [zfC b])<|d (a.1,zK .i64 a.2.1 1,ap a.2.2.1 [zfC b],a.2.2.2.1,()))<|some [aS (.sl .int) a.2.2.1])) (ln c,0,[],c,()))
def zQy:=zy [(238,0,{n:=20,tm:=[(3,.sl 0 []),(7,.sl 1 []),(8,ti),(9,ti)],lo:=[],ro:=[(0,.sl .int,true),(1,.sl .int,false)]})]
def zPM (a:List LI)(g:zvZ a=true):∃N,zEl N a=some [aS (.sl .int)<|znE a]:=by
 have f:=zS.1 g;have e:=zcY f.1;refine zcd λN d=>?_;unfold zEl oN;conv=>zeta
 refine(zbg a (λi (t:lM)=>(ln a,(i:Int),t,a,())) _ (λ_ x b j=>bif zfD x then (cond (few<|ln<|ap b [zfC x]) (j<|ap b [zfC x]) none) else none) (λ(t:lM)=>some [.one<|.s (.sl .int) t]) (λi c t rec=>?_) (λt rec=>?_) _ ([])<|d e.1).trans ?_;{simp only [zbx c,zY c,zbi c,zV c e.1,cT]};{simp only [zbq,cF]};exact zpD zfD zfC _ a 0 [] (λx h=>⟨by exact zbn (qU (f.2 x h) (by decide)),rfl⟩) (by simpa using e.2)
def zI4:vU 238 zzM:=kF1 zin zD zB zu zQy zPM
def zfN (t:List k0)(p n:Int):Bool:=bif ieq (zbv t p).af (-1) then false else (cond (enough (zbv t p).aj n) (zk n 1 3) false)
def zcO (t:List k0)(p n:Int):Int:=bif zfN t p n then (zbv t p).af else -1
def z4h {r:Int}(h:zdE r=true):0<=r/\r<=3:=zfO.1 h
def zX0 {a n:Int}(h:enough a n=true):zk n 1 3 = !ieq n 0:=by unfold enough at h;cases b:zdE a;{rw [b]at h;cases h};{cases c:zdE n;{rw [b,c]at h;cases h};{have:=z4h c;have e:(zk n 1 3=true)↔(!ieq n 0)=true:=(by rw[zfO];simp[ieq];omega);cases d:zk n 1 3<;>cases f:(!ieq n 0)<;>simp_all}}
@[simp] abbrev zse (t:List k0)(p n:Int):Bool:=true
@[simp] abbrev zkb (t:List k0)(p n:Int):Int:=zcO t p n
@[simp] abbrev zkc (t:List k0)(p n:Int):Bool:=zfN t p n
def zvl:Run:=rF3 (dS .slot) dI dI λb c d=>(zse b c d,[aI<|zkb b c d,aB<|zkc b c d])
def zzr (N:Nat)(c:lS)(d b:Int):OA:=
 let a:=zeM c d; (oN (zgl c d)<|cond (ieq a.af<|-1) (some [aI<|-1,aB false])<|oN (zb0 a.aj b)<|cond (nB<|zdh a.aj b) (some [aI<|-1,aB false])<|cond (ieq b 0) (some [aI<|-1,aB false])<|some [aI a.af,aB true])
def zJ1 (a:List k0)(b c:Int)(d:zse a b c=true):∃N,zzr N a b c=some [aI<|zkb a b c,aB<|zkc a b c]:=by
 have e:=@zX0 (zbv a b).aj c;refine⟨0,?_⟩;unfold zzr oN nB;conv=>zeta
 refine j0 rfl (br (λ_=>?_) λ_=>j0 rfl (brN (λ_=>?_) λ_=>br (λ_=>?_) λ_=>?_));all_goals first|rfl|(simp only [*,zkb,zkc,zcO,zfN,cT,cF]<;>rfl)|simp_all[Ty.cells,zkb,zkc,zcO,zfN]
def zDI:vU 282 zvl:=kF3 zin zD zB zu (zy []) zJ1
def z5P:zbf:=[(238,zzM),(282,zvl),(120,zqN),(218,zqN),(382,zoA),(378,zoA),(351,zqL),(379,zqL),(439,zCp)]++z5O
def znd:zN z5P:=zi zI4 (zi zDI<|zi zPz<|zi zPo<|zi zL5<|zi zLK<|zi zPv<|zi zPm<|zi zL9 zin)
@[simp] abbrev zlk (m:List LI)(p c v:Int):Bool:=pc (SmM m)
@[simp] abbrev zjP (m:List LI)(p c v:Int):List LI:=zbM m p c v
def zxC:Run:=rF4 (dS<|.sl .int) dI dI dI λb c d e=>(zlk b c d e,[aS (.sl .int)<|zjP b c d e])
def zA2 (N:Nat)(c:lM)(a d e:Int):OA:=
 let b:=zeP c; (oN (zgn c)<|oN (zif c a d)<|cond (zqh c a d) (oN (zM e 0 99)<|cond (zk e 0 99) (oN (inb a<|ln b)<|oN (inb d<|ln<|ix b a [])<|p0 (up b a<|up (ix b a []) d e) λf=>some [aS (.sl .int) f])<|some [aS (.sl .int) b])<|some [aS (.sl .int) b])
def zMW (a:List LI)(b c d:Int)(e:zlk a b c d=true):∃N,zA2 N a b c d=some [aS (.sl .int)<|zjP a b c d]:=by
 have g:=zS.1 e;have f:=(zyH a b c).1;refine⟨0,?_⟩;unfold zA2 oN;conv=>zeta
 refine mu (j0 rfl (br (λ_=>j0 rfl (br (λ_=>mu (mu<|shr ?_)) λ_=>?_)) λ_=>?_));all_goals first|rfl|(simp only [*,zjP,zbM,cT,cF]<;>rfl)|simp_all[Ty.cells,zjP,zbM]
def zGJ:vU 287 zxC:=kF4 znd zD zB zu (zy []) zMW
def ziF (g:ah):Bool:=bif canRun g then (cond g.Ctl.Open (ige (zd7 g.an) 0) false) else false
@[simp] abbrev zbN (g:ah):Bool:=true
@[simp] abbrev zl2 (g:ah):Bool:=ziF g
def zxB:Run:=rF1 (dT .guest) λb=>(zbN b,[aB<|zl2 b])
def zA1 (N:Nat)(a:ah):OA:=
 (oN (zsG a)<|cond (zp8 a) (cond a.Ctl.Open (oN (zc6 a.an)<|some [aB<|ige (znp a.an) 0]) oF) oF)
def zMV (a:ah)(b:zbN a=true):∃N,zA1 N a=some [aB<|zl2 a]:=by refine⟨0,?_⟩;unfold zA1 oN;refine j0 rfl (br (λ_=>br (λ_=>j0 rfl ?_) λ_=>?_) λ_=>?_);all_goals first|rfl|(simp only [*,zl2,ziF,cT,cF]<;>rfl)|simp_all[Ty.cells,zl2,ziF]
def zGI:vU 402 zxB:=kF1 znd zD zB zu (zy []) zMV
def zkp (p:Int):Int:=bif ilt (zd7 p) 0 then p else wsub .i64 p (zpv .i64 1<|zd7 p)
def ztG (p:Int):Int:=bif ilt (zd7 p) 0 then -1 else zd7 p
def z2d {p:Int}(h:ilt (zd7 p) 0=false):wcv .u64 (zd7 p)=zd7 p/\ile 0 (zd7 p)=true/\zLc .i64 p (zpv .i64 1<|zd7 p)=wsub .i64 p (zpv .i64 1<|zd7 p):=by unfold zd7 at *;cases a:zdI p;{rw [a]at h;cases h};{simp only [a,cT]at h ⊢;obtain⟨c,d⟩:=zfO.1 a;have r:=z08 (P:=λx=>-1<=scan x/\scan x<=7/\(0<=scan x->wsub .i64 x (zpv .i64 1<|scan x)=zLc .i64 x (zpv .i64 1<|scan x))) z4p c d;have b:0<=scan p:=(by unfold ilt at h;have:=jT h;omega);exact⟨zXo b (by omega),qL b,(r.2.2 b).symm⟩}
@[simp] abbrev zkw (p:Int):Int:=zkp p
@[simp] abbrev zkx (p:Int):Int:=ztG p
@[simp] abbrev zmF (p:Int):Bool:=!ilt (zd7 p) 0
def zz1:Run:=rF1 dI λb=>(zc6 b,[aI<|zkw b,aI<|zkx b,aB<|zmF b])
def zEH (N:Nat)(a:Int):OA:=
 (oN (zc6 a)<|cond (ilt (znp a) 0) (some [aI a,aI<|-1,aB false])<|oN (ile 0<|wcv .u64<|znp a)<|some [aI<|wsub .i64 a<|zpv .i64 1<|wcv .u64<|znp a,aI<|znp a,aB true])
def zP8 (a:Int)(b:zc6 a=true):∃N,zEH N a=some [aI<|zkw a,aI<|zkx a,aB<|zmF a]:=by have c:=@z2d a;refine⟨0,?_⟩;unfold zEH oN;refine j0 rfl (br (λ_=>?_) λ_=>mu ?_);all_goals first|rfl|(simp only [*,zkw,zkx,zmF,zkp,ztG,cT,cF]<;>rfl)|simp_all[Ty.cells,zkw,zkx,zmF,zkp,ztG]
def zJl:vU 353 zz1:=kF1 znd zD zB zu (zy []) zP8
def saw (g:ah)(n:Int):ah:=bif ilt (ln g.aC) 40 then {g with aC:=ap g.aC [n]} else g
@[simp] def zNk {g:ah}(n:Int)(h:SmG g):SmG (saw g n):=by unfold saw;cases a:ilt (ln g.aC) 40;{exact h};{have:=qD a;refine⟨h.1,h.2.1,h.2.2.1,?_⟩;simp[ln] at *;omega}
@[simp] abbrev zDn (g:ah)(n:Int):Bool:=pc (SmG g)
@[simp] abbrev zy0 (g:ah)(n:Int):ah:=saw g n
def zO3:Run:=rF2 (dT .guest) dI λb c=>(zDn b c,[aT .guest<|zy0 b c])
def zWj (N:Nat)(a:ah)(b:Int):OA:=
 (oN (zdF a)<|cond (ilt (ln (zde a).aC) 40) (oN (few<|ln<|ap (zde a).aC [b])<|some [aT .guest ({ (zde a) with aC:=(ap (zde a).aC [b])}:ah)])<|some [aT .guest<|zde a])
def z0T (a:ah)(b:Int)(c:zDn a b=true):∃N,zWj N a b=some [aT .guest<|zy0 a b]:=by have d:=zS.1 c;have e:a.aC.length<=1048576:=d.2.2.2;refine⟨0,?_⟩;unfold zWj oN;refine mu (br (λ_=>mu ?_) λ_=>?_);all_goals first|rfl|(simp only [*,zy0,saw,cT,cF]<;>rfl)|simp_all[Ty.cells,zy0,saw]
def zVa:vU 404 zO3:=kF2 znd zD zB zu (zy []) z0T
def stopped (g:ah)(e:aD):ah:={g with Exit:=e}
@[simp] def z98 {g:ah}(e:aD)(h:SmG g):SmG (stopped g e):=h
@[simp] abbrev zey (g:ah)(e:aD):Bool:=pc (SmG g)
@[simp] abbrev zdW (g:ah)(e:aD):ah:=stopped g e
def zz0:Run:=rF2 (dT .guest) dE λb c=>(zey b c,[aT .guest<|zdW b c])
def zEF (N:Nat)(a:ah)(b:aD):OA:=
 (oN (zdF a)<|some [aT .guest ({ (zde a) with Exit:=b}:ah)])
def zP6 (a:ah)(b:aD)(c:zey a b=true):∃N,zEF N a b=some [aT .guest<|zdW a b]:=by have d:=zS.1 c;refine⟨0,?_⟩;unfold zEF oN;refine mu ?_;first|rfl|(simp only [*,zdW,stopped,cT,cF]<;>rfl)|simp_all[Ty.cells,zdW,stopped]
def zJj:vU 285 zz0:=kF2 znd zD zB zu (zy []) zP6
def zcn (g:ah):ah:=bif ige g.Pc 12 then {g with Pc:=12} else {g with Pc:=zK .i64 g.Pc 1}
@[simp] def zlv {g:ah}(h:SmG g):SmG (zcn g):=by unfold zcn;cases ige g.Pc 12<;>exact h
@[simp] abbrev zb9 (g:ah):Bool:=pc (SmG g)
@[simp] abbrev zeR (g:ah):ah:=zcn g
def zqO:Run:=rF1 (dT .guest) λb=>(zb9 b,[aT .guest<|zeR b])
def zN0 (N:Nat)(a:ah):OA:=
 (oN (zdF a)<|cond (ige (zde a).Pc 12) (some [aT .guest ({ (zde a) with Pc:=12}:ah)])<|some [aT .guest ({ (zde a) with Pc:=(zK .i64 (zde a).Pc 1)}:ah)])
def zVo (a:ah)(b:zb9 a=true):∃N,zN0 N a=some [aT .guest<|zeR a]:=by have c:=zS.1 b;refine⟨0,?_⟩;unfold zN0 oN;refine mu (br (λ_=>?_) λ_=>?_);all_goals first|rfl|(simp only [*,zeR,zcn,cT,cF]<;>rfl)|simp_all[Ty.cells,zeR,zcn]
def zPB:vU 348 zqO:=kF1 znd zD zB zu (zy []) zVo
def z5Q:zbf:=[(287,zxC),(402,zxB),(353,zz1),(404,zO3),(285,zz0),(348,zqO)]++z5P
def zkX:zN z5Q:=zi zGJ (zi zGI<|zi zJl<|zi zVa<|zi zJj<|zi zPB znd)
def interrupted (g:ah):ah:=bif ziF g then saw {g with an:=zkp g.an} (zK .i64 100<|ztG g.an) else g
@[simp] def zW9 {g:ah}(h:SmG g):SmG (interrupted g):=by unfold interrupted;cases ziF g;{exact h};{exact zNk (g:={g with an:=zkp g.an}) _ h}
@[simp] abbrev zka (g:ah):ah:=interrupted g
def zsq:Run:=rF1 (dT .guest) λb=>(zb9 b,[aT .guest<|zka b])
def zuw (N:Nat)(a:ah):OA:=
 let c:=zK .i64 100<|zkx a.an;let b:=({a with an:=(zkw a.an)}:ah); (oN (zbN a)<|cond (nB<|zl2 a) (oN (zdF a)<|some [aT .guest<|zde a])<|oN (zc6 a.an)<|oN (zDn b c)<|some [aT .guest<|zy0 b c])
def zD5 (a:ah)(b:zb9 a=true):∃N,zuw N a=some [aT .guest<|zka a]:=by
 have c:=zS.1 b;have d:_/\_/\_/\_:=c;refine⟨0,?_⟩;unfold zuw oN nB;conv=>zeta
 refine j0 rfl (brN (λ_=>mu ?_) λ_=>j0 rfl (mu ?_));all_goals first|rfl|(simp only [*,zka,interrupted,cT,cF]<;>rfl)|simp_all[Ty.cells,zka,interrupted]
def zAA:vU 260 zsq:=kF1 zkX zD zB zu (zy []) zD5
def zxb (o:Int):Int:=bif ieq o 3 then 3 else (cond (ieq o 4) 4<|cond (ieq o 5) 5<|cond (ieq o 6) 6<|cond (ieq o 7) 7 2)
def zbc (g:ah):Int:=bif canRun g then (cond (ziF g) 1<|zxb (zcB g.az g.Pc).Op) else 0
@[simp] abbrev znq (g:ah):Int:=zbc g
def zCq:Run:=rF1 (dT .guest) λb=>(zbN b,[aI<|znq b])
def zIi (N:Nat)(a:ah):OA:=
 let b:=(zf8 a.az a.Pc).Op; (oN (zsG a)<|cond (nB<|zp8 a) (some [aI 0])<|oN (zbN a)<|cond (zl2 a) (some [aI 1])<|oN (zfV a.az a.Pc)<|cond (ieq b 3) (some [aI 3])<|cond (ieq b 4) (some [aI 4])<|cond (ieq b 5) (some [aI 5])<|cond (ieq b 6) (some [aI 6])<|cond (ieq b 7) (some [aI 7])<|some [aI 2])
def zSS (a:ah)(b:zbN a=true):∃N,zIi N a=some [aI<|znq a]:=by
 refine⟨0,?_⟩;unfold zIi oN nB;conv=>zeta
 refine j0 rfl (brN (λ_=>?_) λ_=>j0 rfl (br (λ_=>?_) λ_=>j0 rfl (br (λ_=>?_) λ_=>br (λ_=>?_) λ_=>br (λ_=>?_) λ_=>br (λ_=>?_) λ_=>br (λ_=>?_) λ_=>?_)));all_goals first|rfl|(simp only [*,znq,zbc,zxb,cT,cF]<;>rfl)|simp_all[Ty.cells,znq,zbc,zxb]
def zcr:vU 259 zCq:=kF1 zkX zD zB zu (zy []) zSS
def held (g:ah):ah:=zcn {g with aF:=true}
@[simp] def zT3 {g:ah}(h:SmG g):SmG (held g):=zlv (g:={g with aF:=true}) h
@[simp] abbrev zxH (g:ah):ah:=held g
def zKs:Run:=rF1 (dT .guest) λb=>(zb9 b,[aT .guest<|zxH b])
def zQ3 (N:Nat)(b:ah):OA:=
 let a:=({b with aF:=true}:ah); (oN (zb9 a)<|some [aT .guest<|zeR a])
def zYv (a:ah)(b:zb9 a=true):∃N,zQ3 N a=some [aT .guest<|zxH a]:=by
 have c:=zS.1 b;have d:_/\_/\_/\_:=c;refine⟨0,?_⟩;unfold zQ3 oN;conv=>zeta
 refine mu ?_;first|rfl|(simp only [*,zxH,held,cT,cF]<;>rfl)|simp_all[Ty.cells,zxH,held]
def zSa:vU 349 zKs:=kF1 zkX zD zB zu (zy []) zYv
def zIe (N:Nat)(a:ah):OA:=
 (oN (zb9 a)<|some [aT .guest<|zeR a])
def zSP (a:ah)(b:zb9 a=true):∃N,zIe N a=some [aT .guest<|zeR a]:=by have c:=zS.1 b;refine⟨0,?_⟩;unfold zIe oN;refine mu ?_;first|rfl|(simp only [*,zeR,cT,cF]<;>rfl)|simp_all[Ty.cells,zeR]
def zL8:vU 289 zqO:=kF1 zkX zD zB zu (zy []) zSP
def loaded (g:ah)(v:Int):ah:=zcn (saw {g with A:=v} v)
@[simp] def zKN {g:ah}(v:Int)(h:SmG g):SmG (loaded g v):=zlv (zNk (g:={g with A:=v}) v h)
@[simp] abbrev zyZ (g:ah)(v:Int):Bool:=pc (SmG g)
@[simp] abbrev zt5 (g:ah)(v:Int):ah:=loaded g v
def zCl:Run:=rF2 (dT .guest) dI λb c=>(zyZ b c,[aT .guest<|zt5 b c])
def zH4 (N:Nat)(c:ah)(a:Int):OA:=
 let b:=({c with A:=a}:ah); (oN (zDn b a)<|oN (zb9<|zy0 b a)<|some [aT .guest<|zeR<|zy0 b a])
def zSF (b:ah)(a:Int)(d:zyZ b a=true):∃N,zH4 N b a=some [aT .guest<|zt5 b a]:=by
 have c:=zS.1 d;have f:_/\_/\_/\_:=c;have e:SmG (saw {b with A:=a} a):=zNk (g:={b with A:=a}) a c;refine⟨0,?_⟩;unfold zH4 oN;conv=>zeta
 refine mu (mu ?_);first|rfl|(simp only [*,zt5,loaded,cT,cF]<;>rfl)|simp_all[Ty.cells,zt5,loaded]
def zLY:vU 290 zCl:=kF2 zkX zD zB zu (zy []) zSF
def zXk (g:ah)(w:Int):ah:=bif ieq w 5 then stopped g (zxc (zcB g.az g.Pc).X) else stopped g ⟨4,0,false,0⟩
@[simp] def z99 {g:ah}(w:Int)(h:SmG g):SmG (zXk g w):=by unfold zXk;cases ieq w 5<;>exact h
def zdX (g:ah):Bool:=zdo g.az&&(zk g.A 0 99&&(zk g.Pc 0 12&&(zcT g.aA 4 8&&(zcT g.ay 4 8&&(zlB g.Ctl&&(zdI g.an&&(zhZ g.Exit&&ile (ln g.aC) 40)))))))
@[simp] abbrev zic (g:ah):Bool:=zdX g
def zmU:Run:=rF1 (dT .guest) λb=>(zbN b,[aB<|zic b])
def zEr (N:Nat)(a:ah):OA:=
 (oN (zsM a.az)<|cond (zgV a.az) (oN (zM a.A 0 99)<|cond (zk a.A 0 99) (oN (zM a.Pc 0 12)<|cond (zk a.Pc 0 12) (oN (zix a.aA 4 8)<|cond (zes a.aA 4 8) (oN (zix a.ay 4 8)<|cond (zes a.ay 4 8) (oN (zfU a.Ctl)<|cond (zqa a.Ctl) (oN (zc6 a.an)<|cond (ze7 a.an) (oN (zsH a.Exit)<|cond (zlf a.Exit) (some [aB<|ile (ln a.aC) 40]) oF) oF) oF) oF) oF) oF) oF) oF)
def zzA (a:ah)(b:zbY big [aT .guest a])(c:zbN a=true):∃N,zEr N a=some [aB<|zic a]:=by refine⟨0,?_⟩;unfold zEr oN;refine j0 rfl (br (λ_=>j0 rfl (br (λ_=>j0 rfl (br (λ_=>j0 rfl (br (λ_=>j0 rfl (br (λ_=>j0 rfl (br (λ_=>j0 rfl (br (λ_=>j0 rfl (br (λ_=>?_) λ_=>?_)) λ_=>?_)) λ_=>?_)) λ_=>?_)) λ_=>?_)) λ_=>?_)) λ_=>?_)) λ_=>?_);all_goals first|rfl|(simp only [*,zic,zdX,cT,cF]<;>rfl)|simp_all[Ty.cells,zic,zdX]
def zI6:vU 214 zmU:=hF1 zkX zD zB zu (zy []) zzA
def zI2:vU 209 zmU:=hF1 zkX zD zB zu (zy []) zzA
def gAt (b:ao)(i:Int):ah:=bif i0 i (ln b.ad) then ix b.ad i zI else Ty.dflt .guest
@[simp] def zkj {b:ao}(i:Int)(h:SmB b):SmG (gAt b i):=by unfold gAt;cases a:i0 i (ln b.ad);{exact zbay};{exact z1Q h.2.1 a _}
def z5R:zbf:=[(260,zsq),(259,zCq),(349,zKs),(289,zqO),(290,zCl),(214,zmU),(209,zmU)]++z5Q
def zpI:zN z5R:=zi zAA (zi zcr<|zi zSa<|zi zL8<|zi zLY<|zi zI6<|zi zI2 zkX)
def plainly (g:ah):ah:=bif ine (zbc g) 2 then g else (cond (zk g.A 0 99) (cond (zk (zcB g.az g.Pc).X 0 99) (cond (ieq (zcB g.az g.Pc).Op 1) {zcn g with A:=(zcB g.az g.Pc).X}<|cond (ieq (zcB g.az g.Pc).Op 2) {zcn g with A:=zpu (zK .i64 g.A (zcB g.az g.Pc).X) 100}<|cond (ieq (zcB g.az g.Pc).Op 8) (cond (ieq g.A 0) {zcn g with Pc:=(zcB g.az g.Pc).X}<|zcn g)<|zcn g)<|zcn g)<|zcn g)
@[simp] def zbaq (g:ah):(zcn g).az=g.az:=by unfold zcn;cases ige g.Pc 12<;>rfl
@[simp] def zba1 (g:ah):(zcn g).A=g.A:=by unfold zcn;cases ige g.Pc 12<;>rfl
@[simp] def z8V (g:ah):(zcn g).aA=g.aA:=by unfold zcn;cases ige g.Pc 12<;>rfl
@[simp] def zbap (g:ah):(zcn g).ay=g.ay:=by unfold zcn;cases ige g.Pc 12<;>rfl
@[simp] def zbaH (g:ah):(zcn g).Ctl=g.Ctl:=by unfold zcn;cases ige g.Pc 12<;>rfl
@[simp] def z8U (g:ah):(zcn g).an=g.an:=by unfold zcn;cases ige g.Pc 12<;>rfl
@[simp] def zbao (g:ah):(zcn g).Exit=g.Exit:=by unfold zcn;cases ige g.Pc 12<;>rfl
@[simp] def z9M (g:ah):(zcn g).aF=g.aF:=by unfold zcn;cases ige g.Pc 12<;>rfl
@[simp] def zbar (g:ah):(zcn g).aC=g.aC:=by unfold zcn;cases ige g.Pc 12<;>rfl
@[simp] def zbaI (g:ah)(x:Int):(zcn {g with A:=x}).Pc=(zcn g).Pc:=by unfold zcn;cases ige g.Pc 12<;>rfl
@[simp] def zFF {g:ah}(h:SmG g):SmG (plainly g):=by have a:=zlv h;unfold plainly;cases ine (zbc g) 2;{cases zk g.A 0 99;{exact a};{cases zk (zcB g.az g.Pc).X 0 99;{exact a};{cases ieq (zcB g.az g.Pc).Op 1;{cases ieq (zcB g.az g.Pc).Op 2;{cases ieq (zcB g.az g.Pc).Op 8;{exact a};{cases ieq g.A 0<;>exact a}};{exact a}};{exact a}}}};{exact h}
@[simp] abbrev zrJ (g:ah):ah:=plainly g
def zzY:Run:=rF1 (dT .guest) λb=>(zb9 b,[aT .guest<|zrJ b])
def zED (N:Nat)(a:ah):OA:=
 let i:=ieq a.A 0;let c:=zb9 a;let b:=aT .guest<|zeR a;let d:=zf8 a.az a.Pc;let j:=({a with A:=d.X}:ah);let h:=ieq d.Op 8;let e:=zk d.X 0 99;let g:=aT .guest ({ (zde a) with Pc:=d.X}:ah);let f:=({a with A:=(zpu (zK .i64 a.A d.X) 100)}:ah); (oN (zbN a)<|cond (ine (znq a) 2) (oN (zdF a)<|some [aT .guest<|zde a])<|oN (zfV a.az a.Pc)<|oN (zM a.A 0 99)<|cond (zk a.A 0 99) (oN (zM d.X 0 99)<|cond e (cond (ieq d.Op 1) (oN (zb9 j)<|some [aT .guest<|zeR j])<|cond e (cond (ieq d.Op 2) (oN (ine 100 0)<|oN (zb9 f)<|some [aT .guest<|zeR f])<|cond e (cond h (cond i (oN (zdF a)<|some [g])<|oN c<|some [b])<|oN c<|some [b])<|oN c<|some [b])<|cond e (cond h (cond i (oN (zdF a)<|some [g])<|oN c<|some [b])<|oN c<|some [b])<|oN c<|some [b])<|cond e (cond (ieq d.Op 2) (oN (ine 100 0)<|oN (zb9 f)<|some [aT .guest<|zeR f])<|cond e (cond h (cond i (oN (zdF a)<|some [g])<|oN c<|some [b])<|oN c<|some [b])<|oN c<|some [b])<|cond e (cond h (cond i (oN (zdF a)<|some [g])<|oN c<|some [b])<|oN c<|some [b])<|oN c<|some [b])<|oN c<|some [b])
def zP4 (a:ah)(b:zb9 a=true):∃N,zED N a=some [aT .guest<|zrJ a]:=by
 have c:=zS.1 b;have d:_/\_/\_/\_:=c;refine⟨0,?_⟩;unfold zED oN;conv=>zeta
 refine j0 rfl (br (λ_=>mu ?_) λ_=>j0 rfl (j0 rfl (br (λ_=>j0 rfl (br (λ_=>br (λ_=>mu ?_) λ_=>br (λ_=>br (λ_=>j0 rfl (mu ?_)) λ_=>br (λ_=>br (λ_=>br (λ_=>mu ?_) λ_=>mu ?_) λ_=>mu ?_) λ_=>mu ?_) λ_=>br (λ_=>br (λ_=>br (λ_=>mu ?_) λ_=>mu ?_) λ_=>mu ?_) λ_=>mu ?_) λ_=>br (λ_=>br (λ_=>j0 rfl (mu ?_)) λ_=>br (λ_=>br (λ_=>br (λ_=>mu ?_) λ_=>mu ?_) λ_=>mu ?_) λ_=>mu ?_) λ_=>br (λ_=>br (λ_=>br (λ_=>mu ?_) λ_=>mu ?_) λ_=>mu ?_) λ_=>mu ?_)) λ_=>mu ?_)));all_goals first|rfl|(simp only [*,zrJ,plainly,cT,cF]<;>rfl)|simp_all[Ty.cells,zrJ,plainly]
def zJh:vU 261 zzY:=kF1 zpI zD zB zu (zy []) zP4
def F0 (g:ah):Int:=bif ine (zbc g) 3 then (cond (ine (zbc g) 4) (-1)<|(zcB g.az g.Pc).X) else (zcB g.az g.Pc).X
@[simp] abbrev zjl (g:ah):Int:=F0 g
def zzN:Run:=rF1 (dT .guest) λb=>(zbN b,[aI<|zjl b])
def zEm (N:Nat)(a:ah):OA:=
 (oN (zbN a)<|cond (ine (znq a) 3) (cond (ine (znq a) 4) (some [aI<|-1])<|oN (zfV a.az a.Pc)<|some [aI (zf8 a.az a.Pc).X])<|oN (zfV a.az a.Pc)<|some [aI (zf8 a.az a.Pc).X])
def zPN (a:ah)(b:zbN a=true):∃N,zEm N a=some [aI<|zjl a]:=by refine⟨0,?_⟩;unfold zEm oN;refine j0 rfl (br (λ_=>br (λ_=>?_) λ_=>j0 rfl ?_) λ_=>j0 rfl ?_);all_goals first|rfl|(simp only [*,zjl,F0,cT,cF]<;>rfl)|simp_all[Ty.cells,zjl,F0]
def zI5:vU 281 zzN:=kF1 zpI zD zB zu (zy []) zPN
def zjY (g:ah)(t w:Int):ah:=bif ieq w 6 then stopped g (zyd (zcB g.az g.Pc).X) else (cond (ieq w 5&&zhl t 1) (stopped g<|zxc (zcB g.az g.Pc).X)<|cond (ieq w 7&&zhl t 2) (stopped g ⟨4,0,false,0⟩)<|cond (ieq w 7) (held g)<|zcn g)
def zjZ (t w:Int):Bool:=bif ieq w 6 then false else (cond (ieq w 5&&zhl t 1) false<|cond (ieq w 7&&zhl t 2) false true)
@[simp] def zCF {g:ah}(t w:Int)(h:SmG g):SmG (zjY g t w):=by unfold zjY;cases ieq w 6;{cases (ieq w 5&&zhl t 1);{cases (ieq w 7&&zhl t 2);{cases ieq w 7;{exact zlv h};{exact zT3 h}};{exact h}};{exact h}};{exact h}
@[simp] abbrev zed (g:ah)(t w:Int):Bool:=pc (SmG g)
@[simp] abbrev zcp (g:ah)(t w:Int):ah:=zjY g t w
@[simp] abbrev zdG (g:ah)(t w:Int):Bool:=zjZ t w
def zz6:Run:=rF3 (dT .guest) dI dI λb c d=>(zed b c d,[aT .guest<|zcp b c d,aB<|zdG b c d])
def zEM (N:Nat)(a:ah)(c b:Int):OA:=
 let g:=aT .guest<|zeR a;let f:=aT .guest<|zxH a;let e:=(⟨4,0,false,0⟩:aD);let d:=(zf8 a.az a.Pc).X; (oN (zfV a.az a.Pc)<|cond (ieq b 6) (oN (zgE d)<|oN (zey a<|zfF d)<|some [aT .guest<|zdW a<|zfF d,aB false])<|cond (ieq b 5) (oN (ziv c 1)<|cond (zid c 1) (oN (zgE d)<|oN (zey a<|zgG d)<|some [aT .guest<|zdW a<|zgG d,aB false])<|cond (ieq b 7) (oN (ziv c 2)<|cond (zid c 2) (oN (zey a e)<|some [aT .guest<|zdW a e,aB false])<|cond (ieq b 7) (oN (zb9 a)<|some [f,aB true])<|oN (zb9 a)<|some [g,aB true])<|cond (ieq b 7) (oN (zb9 a)<|some [f,aB true])<|oN (zb9 a)<|some [g,aB true])<|cond (ieq b 7) (oN (ziv c 2)<|cond (zid c 2) (oN (zey a e)<|some [aT .guest<|zdW a e,aB false])<|cond (ieq b 7) (oN (zb9 a)<|some [f,aB true])<|oN (zb9 a)<|some [g,aB true])<|cond (ieq b 7) (oN (zb9 a)<|some [f,aB true])<|oN (zb9 a)<|some [g,aB true])
def zQd (a:ah)(b c:Int)(d:zed a b c=true):∃N,zEM N a b c=some [aT .guest<|zcp a b c,aB<|zdG a b c]:=by
 have e:=zS.1 d;refine⟨0,?_⟩;unfold zEM oN;conv=>zeta
 refine j0 rfl (br (λ_=>j0 rfl (mu ?_)) λ_=>br (λ_=>j0 rfl (br (λ_=>j0 rfl (mu ?_)) λ_=>br (λ_=>j0 rfl (br (λ_=>mu ?_) λ_=>br (λ_=>mu ?_) λ_=>mu ?_)) λ_=>br (λ_=>mu ?_) λ_=>mu ?_)) λ_=>br (λ_=>j0 rfl (br (λ_=>mu ?_) λ_=>br (λ_=>mu ?_) λ_=>mu ?_)) λ_=>br (λ_=>mu ?_) λ_=>mu ?_);all_goals first|rfl|(simp only [*,zcp,zdG,zjY,zjZ,cT,cF]<;>rfl)|simp_all[Ty.cells,zcp,zdG,zjY,zjZ]
def zJy:vU 292 zz6:=kF3 zpI zD zB zu (zy []) zQd
def zcf (b:ao):Bool:=bif b.ad.all zdX then (zh6 b.ag 8&&(zk (ln b.ad) 1 2&&(ile (ln b.Outs) 40&&zdI b.an))) else false
@[simp] abbrev zoN (b:ao):Bool:=true
@[simp] abbrev ze6 (b:ao):Bool:=zcf b
def zCi:Run:=rF1 (dT .bare) λb=>(zoN b,[aB<|ze6 b])
def zHV (N:Nat)(c:ao):OA:=
 (r0 (σ:=(Int×Int×lM×lG×LI×Unit)) N (λd a=>let b:=a.2.2.2.1; (cond (ilt a.1<|ln b) (oN (inb a.1<|ln b)<|oN (zbN<|ix b a.1 zI)<|cond (nB<|zic<|ix b a.1 zI) oF<|d (zK .i64 a.1 1,a.2.1,a.2.2.1,b,a.2.2.2.2.1,()))<|oN (zlh a.2.2.1 8)<|cond (zf9 a.2.2.1 8) (oN (zM (ln b) 1 2)<|cond (zk (ln b) 1 2) (cond (ile (ln a.2.2.2.2.1) 40) (oN (zc6 a.2.1)<|some [aB<|ze7 a.2.1]) oF) oF) oF)) (0,c.an,c.ag,c.ad,c.Outs,()))
def zUp:=zy [(280,0,{n:=38,tm:=[(1,.lp 0 0),(3,ti)],lo:=[(0,[.sl 0 [],.sl 1 [],.sl 2 [],ti])],ro:=[(0,.sl .int,false),(1,.guest,false),(2,.int,false)]})]
def zSx (a:ao)(k:zbY big [aT .bare a])(m:zoN a=true):∃N,zHV N a=some [aB<|ze6 a]:=by
 have j:(_:List _).length<=big:=((zb8 k).1 (.s .guest a.ad) (by simp[AV.cvs,Ty.cells])).len;refine zcd λN h=>?_;unfold zHV oN nB;conv=>zeta
 refine(zbg a.ad (λi (t:Unit)=>((i:Int),a.an,a.ag,a.ad,a.Outs,())) _ (λ_ x (_:Unit) l=>bif (zdX) x then l () else oF) (λ(t:Unit)=>cond (zlh a.ag 8) (cond (zf9 a.ag 8) (cond (zM (ln a.ad) 1 2) (cond (zk (ln a.ad) 1 2) (cond (ile (ln a.Outs) 40) (cond (zc6 a.an) (some [.one<|.b<|ze7 a.an]) none) oF) oF) none) oF) none) (λi f t rec=>?_) (λt rec=>?_) _ ()<|h j).trans ?_;{simp only [zbx f,zY f,zbi f,zV f j,cT];exact zjs rfl};{simp only [zbq,cF]};rw[zfc<|zdX];refine br (λc=>?_) (λc=>?_);{refine j0 rfl ?_;refine br (λd=>?_) (λd=>?_);{refine j0 rfl ?_;refine br (λe=>?_) (λe=>?_);{refine br (λg=>?_) (λg=>?_);{refine j0 rfl ?_;first|rfl|(simp only [c,d,e,g,ze6,zcf,cT,cF]<;>rfl)|(simp_all [Ty.cells,ze6,zcf];done)};{first|rfl|(simp only [c,d,e,g,ze6,zcf,cT,cF]<;>rfl)|(simp_all [Ty.cells,ze6,zcf];done)}};{first|rfl|(simp only [c,d,e,ze6,zcf,cT,cF]<;>rfl)|(simp_all [Ty.cells,ze6,zcf];done)}};{first|rfl|(simp only [c,d,ze6,zcf,cT,cF]<;>rfl)|(simp_all [Ty.cells,ze6,zcf];done)}};{first|rfl|(simp only [c,ze6,zcf,cT,cF]<;>rfl)|(simp_all [Ty.cells,ze6,zcf];done)}
def zLP:vU 280 zCi:=hF1 zpI zD zB zu zUp zSx
@[simp] abbrev zdR (b:ao):Bool:=pc (SmB b)
@[simp] abbrev zcz (b:ao):ao:=b
def zz5:Run:=rF1 (dT .bare) λb=>(zdR b,[aT .bare<|zcz b])
def zEL (N:Nat)(a:ao):OA:=
 (oN (zgn a.ag)<|oN (zfX a.ad)<|oN (few<|ln<|ap [] a.Outs)<|some [aT .bare (⟨zeP a.ag,zgq a.ad,ap [] a.Outs,a.an⟩:ao)])
def zQc (a:ao)(b:zdR a=true):∃N,zEL N a=some [aT .bare<|zcz a]:=by have c:=zS.1 b;have d:_/\_/\_:=c;refine⟨0,?_⟩;unfold zEL oN;refine mu (mu<|mu ?_);first|rfl|(simp only [*,zcz,cT,cF]<;>rfl)|simp_all[Ty.cells,zcz]
def zJx:vU 278 zz5:=kF1 zpI zD zB zu (zy []) zQc
def z5S:zbf:=[(261,zzY),(281,zzN),(292,zz6),(280,zCi),(278,zz5)]++z5R
def z3g:zN z5S:=zi zJh (zi zI5<|zi zJy<|zi zLP<|zi zJx zpI)
def zeH (b:ao)(i:Int)(x:ah):ao:={b with ad:=up b.ad i x}
def zol (b:ao)(n:Int):ao:=bif ilt (ln b.Outs) 40 then {b with Outs:=ap b.Outs [n]} else b
@[simp] def znw {b:ao}{i:Int}{x:ah}(h:SmB b)(a:SmG x):SmB (zeH b i x):=⟨h.1,zDp h.2.1 a,h.2.2⟩
@[simp] def zZm {b:ao}{n:Int}(h:SmB b):SmB (zol b n):=by unfold zol;cases a:ilt (ln b.Outs) 40;{exact h};{have:=qD a;refine⟨h.1,h.2.1,?_⟩;simp[ln] at *;omega}
@[simp] def zbaT (b:ao)(n:Int):(zol b n).ad=b.ad:=by unfold zol;cases ilt (ln b.Outs) 40<;>rfl
@[simp] def zza {m:List LI}{p c v:Int}(h:SmM m):SmM (zbM m p c v):=by unfold zbM;cases a:zh5 m p c;{exact h};{cases b:zk v 0 99;{exact h};{exact zKP h (by simpa using z9Y h ((zyH m p c).1 a).1 [])}}
def zXM:zbf:=z5S
def ztn:zN zXM:=z3g
def znS (b:ao)(g:Int)(x:ah)(w:Bool):ao :=
 bif zfN x.ay (zbm<|F0 x) (zch w) then
  (bif w then zeH {b with ag:=zbM b.ag (zcO x.ay (zbm<|F0 x)<|zch w) (zdp<|F0 x) x.A} g (zcn x)
  else zeH b g (loaded x<|cellAt b.ag (zcO x.ay (zbm<|F0 x)<|zch w)<|zdp<|F0 x))
 else zeH b g (stopped x<|zrj (zbm<|F0 x) w)
def zDq (b:ao)(g:Int)(x:ah)(w:Int):ao :=
 zeH (cond (cond (zjZ x.Ctl.ar w) (ieq w 5) false) (zol b (zcB x.az x.Pc).X) b) g (zjY x x.Ctl.ar w)
def stepped (b:ao)(g:Int)(x:ah)(w:Int):ao :=
 bif ieq w 1 then zeH b g (interrupted x) else (cond (ieq w 2) (zeH b g<|plainly x)<|cond (ieq w 3) (znS b g x false)<|cond (ieq w 4) (znS b g x true)<|zDq b g x w)
def zlz (b:ao)(g:Int):Bool:=bif i0 g (ln b.ad) then (cond (zcf b) (!ieq (zbc<|gAt b g) 0) false) else false
def zim (b:ao)(g:Int):ao:=bif zlz b g then stepped b g (gAt b g) (zbc<|gAt b g) else b
@[simp] def zW8 {b:ao}{g:Int}{x:ah}{w:Bool}(h:SmB b)(a:SmG x):SmB (znS b g x w):=by unfold znS;cases zfN x.ay (zbm<|F0 x) (zch w);{exact znw h a};{cases w;{exact znw h (zKN _ a)};{exact⟨zza h.1,zDp h.2.1<|zlv a,h.2.2⟩}}
@[simp] def z8G {b:ao}{g:Int}{x:ah}{w:Int}(h:SmB b)(a:SmG x):SmB (zDq b g x w):=by unfold zDq;cases (cond (zjZ x.Ctl.ar w) (ieq w 5) false);{exact znw h (zCF _ _ a)};{exact znw (zZm h) (zCF _ _ a)}
@[simp] def zV4 {b:ao}{g:Int}{x:ah}{w:Int}(h:SmB b)(a:SmG x):SmB (stepped b g x w):=by unfold stepped;cases ieq w 1;{cases ieq w 2;{cases ieq w 3;{cases ieq w 4;{exact z8G h a};{exact zW8 h a}};{exact zW8 h a}};{exact znw h (zFF a)}};{exact znw h (zW9 a)}
@[simp] def zbaW {b:ao}{g:Int}(h:SmB b):SmB (zim b g):=by unfold zim;cases zlz b g;{exact h};{exact zV4 h (zkj g h)}
def zbaC (x:ah):ieq (zbc x) 0=false->ieq (zbc x) 1=false->ieq (zbc x) 2=false->ieq (zbc x) 3=false->ieq (zbc x) 4=false->ieq (zbc x) 5=false->ieq (zbc x) 6=false->ieq (zbc x) 7=true:=by unfold zbc zxb;cases canRun x;{intro h;cases h};{cases ziF x;{simp only [cT,cF];generalize (zcB x.az x.Pc).Op=o;cases ieq o 3<;>cases ieq o 4<;>cases ieq o 5<;>cases ieq o 6<;>cases ieq o 7<;>simp [ieq]};{intro _ h;cases h}}
def SmK (k:ax):Prop:=k.aw.length<=1048576/\k.au.length<=1048576
def zA8 (l:List ax):Prop:=l.length<=1048576/\∀x∈l,SmK x
def zfZ (m:Mon):Prop:=m.ae.length<=1048576/\SmM m.Out/\m.av.length<=1048576/\zme m.ad/\m.Outs.length<=1048576/\zA8 m.ai
def zrf (l:List Mon):Prop:=l.length<=1048576/\∀x∈l,zfZ x
def SmH (h:ac):Prop:=SmM h.ag/\zrf h.aa/\h.am.length<=1048576/\h.ak.length<=1048576
@[simp] def zwI (k:ax):(∀c∈Ty.cells .kept k,CVB sm c)↔SmK k:=by simp[Ty.cells,SmK,z4C]
@[simp] def z3n (l:List ax):CVB sm (.s .kept l)↔zA8 l:=by rw[zlD];simp only[zwI];rfl
@[simp] def zWp (m:Mon):(∀c∈Ty.cells .mon m,CVB sm c)↔zfZ m:=by simp only[Ty.cells,qG,qO,or_false,vP,forall_eq,zpJ,zuJ,z3n,zXV,zUY,zUX,z6e,and_true,true_and];rfl
@[simp] def z7F (l:List Mon):CVB sm (.s .mon l)↔zrf l:=by rw[zlD];simp only[zWp];rfl
@[simp] def zbd (h:ac):zcv h↔SmH h:=by unfold zcv;simp only[zbo,qG,qO,or_false,vP,forall_eq,zpJ,z7F,zRI];rfl
def zbS {p:Prop}(h:p):pc p=true:=zbn h
def zxN {l:List ax}{i:Int}{x:ax}(h:zA8 l)(b:SmK x):zA8 (up l i x):=by refine⟨by simpa using h.1,λy a=>?_⟩;rcases qZ a with a|rfl;{exact h.2 y a};{exact b}
def zjn {l:List Mon}{i:Int}{x:Mon}(h:zrf l)(b:zfZ x):zrf (up l i x):=by refine⟨by simpa using h.1,λy a=>?_⟩;rcases qZ a with a|rfl;{exact h.2 y a};{exact b}
def zwP {a:Type}{l:List a}(h:l.length<=1048576):few (ln<|ap [] l)=true:=by rw[ze9,z7O];omega
@[simp] abbrev zby (h:ac):Bool:=pc (zcv h)
@[simp] abbrev zo (h:ac):ac:=h
def zz7:Run:=rF1 dH λb=>(zby b,[aH<|zo b])
def zEN (N:Nat)(b:ac):OA:=
 (oN (zgn b.ag)<|oN (few<|ln<|ap [] b.am)<|oN (few<|ln<|ap [] b.ak)<|r0 (σ:=(Int×lM×lN×lE×lE×lM×lN×lE×lE×lM×lN×lE×lE×Unit)) N (λf a=>let b:=a.2.2.2.2.2.2.2;let e:=b.2.2.2.2.2.1;let d:=ix a.2.2.1 a.1 zh;let c:=ap b.2.2.2.1 [znr d]; (cond (ilt a.1<|ln a.2.2.1) (oN (inb a.1<|ln a.2.2.1)<|oN (zjT d)<|oN (few<|ln c)<|f (zK .i64 a.1 1,a.2.1,a.2.2.1,a.2.2.2.1,a.2.2.2.2.1,a.2.2.2.2.2.1,a.2.2.2.2.2.2.1,b.1,b.2.1,b.2.2.1,c,b.2.2.2.2.1,e,()))<|some [aH (⟨b.2.2.1,b.2.2.2.1,b.2.2.2.2.1,e⟩:ac)])) (0,b.ag,b.aa,b.am,b.ak,[],[],[],[],zeP b.ag,[],ap [] b.am,ap [] b.ak,()))
def zQE:=zy [(107,0,{n:=36,tm:=[(1,.lp 0 0),(2,.lp 1 0),(3,.lp 2 0),(4,ti)],lo:=[(0,[.sl 0 [],.sl 1 [],.sl 2 [],.sl 3 []]),(1,[.sl 4 [],.sl 5 [],.sl 6 [],.sl 7 []]),(2,[.sl 8 [],.sl 9 [],.sl 10 [],.sl 11 []])],ro:=[(0,.sl .int,false),(1,.mon,false),(2,.entry,false),(3,.entry,false),(4,.sl .int,true),(5,.mon,true),(6,.entry,true),(7,.entry,true),(8,.sl .int,true),(9,.mon,true),(10,.entry,true),(11,.entry,true)]})]
def zQe (a:ac)(k:zby a=true):∃N,zEN N a=some [aH<|zo a]:=by
 obtain⟨g,f,h,j⟩:=(zbd a).1 (zS.1 k);have e:=zcY f.1;refine zcd λN d=>?_;unfold zEN oN;conv=>zeta
 refine j0 (zbS<|(zpJ _).2 g) (j0 (zwP h)<|j0 (zwP j) ?_);refine(zbg a.aa (λi (t:lN)=>((i:Int),a.ag,a.aa,a.am,a.ak,[],[],[],[],zeP a.ag,t,ap [] a.am,ap [] a.ak,())) _ (λ_ x b m=>bif zjT x then (cond (few<|ln<|ap b [znr x]) (m<|ap b [znr x]) none) else none) (λ(t:lN)=>some [.agg<|zbo (⟨zeP a.ag,t,ap [] a.am,ap [] a.ak⟩:ac)]) (λi c t rec=>?_) (λt rec=>?_) _ ([])<|d e.1).trans ?_;{simp only [zbx c,zY c,zbi c,zV c e.1,cT]};{simp only [zbq,cF]};exact zpD zjT znr _ a.aa 0 [] (λx l=>⟨zbS<|(zWp x).2 (f.2 x l),rfl⟩) (by simpa using e.2)
def zJz:vU 107 zz7:=kF1 ztn zD zB zu zQE zQe
@[simp] abbrev zhv (k:ax):Bool:=pc (SmK k)
@[simp] abbrev zgf (k:ax):ax:=k
def zxr:Run:=rF1 (dT .kept) λb=>(zhv b,[aT .kept<|zgf b])
def zAI (N:Nat)(a:ax):OA:=
 (oN (few<|ln<|ap [] a.aw)<|oN (zrV a.au)<|some [aT .kept (⟨ap [] a.aw,zmo a.au⟩:ax)])
def zMC (a:ax)(b:zhv a=true):∃N,zAI N a=some [aT .kept<|zgf a]:=by have c:=zS.1 b;obtain⟨f,g⟩:=c;have d:a.aw.length<=2147483648:=(by omega);have e:a.au.length<=2147483648:=(by omega);refine⟨0,?_⟩;unfold zAI oN;refine mu (mu ?_);first|rfl|(simp only [*,zgf,cT,cF]<;>rfl)|simp_all[Ty.cells,zgf]
def zGs:vU 369 zxr:=kF1 ztn zD zB zu (zy []) zMC
def z5G:zbf:=[(107,zz7),(369,zxr)]++zXM
def z3f:zN z5G:=zi zJz (zi zGs ztn)
def z5H:zbf:=z5G
def zF7:zN z5H:=z3f
def allI {a:Type}(p:Nat->a->Bool):List a->Nat->Bool
 |[],_=>true
 |x::l,i=>p i x&&allI p l (i+1)
def zGi {a b:Type}(p:Nat->a->Bool)(r:Option b)(K:Unit->Option b):∀(l:List a) (i:Nat),goL (λi x (_:Unit) k=>bif p i x then k () else r) K l i ()=bif allI p l i then K () else r
 |[],_=>rfl
 |x::l,i=>by simp only[goL,allI];cases p i x;{rfl};{simp only [cT,u3];exact zGi p r K l (i+1)}
def zN8 {a:Type}(q:a->Bool)(l:List a)(d:a):∀(n i:Nat),i+n<=l.length->zkU (λj=>q (ix l (j:Int) d)) n i=((l.drop i).take n).all q
 | 0,i,_=>by simp[zkU]
 |n+1,i,h=>by have b:i<l.length:=(by omega);rw[jO b,List.take_succ_cons,k6,<- zN8 q l d n (i+1) (by omega)];simp only[zkU,zbi b]
def sameKey (a b:aq):Bool:=bif ieq a.Tag b.Tag then ieq a.af b.af else false
def alone (l:List aq)(i:Nat)(x:aq):Bool:=(l.take i).all λy=>!sameKey x y
def zfw (l:List aq):Bool:=bif allI (alone l) l 0 then ile (ln l) 6 else false
def z3C {a:Type}{l:List a}{i:Nat}(h:i<=l.length):inr 0 (i:Int) (ln l)=true:=qL (by simp only[ln];omega)
@[simp] abbrev zhu (l:List aq):Bool:=true
@[simp] abbrev zg4 (l:List aq):Bool:=zfw l
def zlP:Run:=rF1 (dS .entry) λb=>(zhu b,[aB<|zg4 b])
def zAD (N:Nat)(g:lE):OA:=
 (r0 (σ:=(Int×Int×lE×Unit)) N (λi b=>let c:=b.2.2.1;let e:=ix c b.2.1 zdl; (cond (ilt b.2.1 b.1) (oN (inb b.2.1<|ln c)<|oN (inr 0 b.2.1<|ln c)<|r0 (σ:=(Int×Int×Int×Int×Int×Int×Int×Int×lE×lE×Unit)) N (λj a=>let b:=a.2.2.2.2;let d:=a.2.2.2.1;let f:=b.2.2.2.2.2.1;let h:=j (a.1,a.2.1,a.2.2.1,zK .i64 d 1,b.1,b.2.1,b.2.2.1,b.2.2.2.1,b.2.2.2.2.1,f,()); (cond (ilt d a.2.2.1) (oN (inb d<|ln f)<|cond (ieq b.1 (ix f d zdl).Tag) (cond (ieq b.2.1 (ix f d zdl).af) oF h) h)<|i (a.1,zK .i64 a.2.1 1,b.2.2.2.2.1,()))) (b.1,b.2.1,ln<|tk c b.2.1,0,e.Tag,e.af,e.ac,e.aj,c,tk c b.2.1,()))<|some [aB<|ile (ln c) 6])) (ln g,0,g,()))
def zNs:=zy [(219,0,{n:=39,tm:=[(0,.sl 0 []),(7,.sl 0 []),(8,ti),(9,ti)],lo:=[],ro:=[(0,.entry,false)]}),(219,2,{n:=39,tm:=[(0,.sl 0 []),(4,.lp 0 0),(7,.sl 0 []),(8,ti),(9,ti),(16,.sl 1 []),(17,ti),(18,ti)],lo:=[(0,[ti,ti,ti,ti])],ro:=[(0,.entry,false),(1,.entry,false)]})]
def zMx (a:List aq)(l:zbY big [aS .entry a])(m:zhu a=true):∃N,zAD N a=some [aB<|zg4 a]:=by
 have e:=len0 l;refine zcd λN d=>?_;unfold zAD oN;conv=>zeta
 refine(zbg a (λi (t:Unit)=>(ln a,(i:Int),a,())) _ (λi (x:aq) (_:Unit) h=>bif alone a i x then h () else oF) (λ(t:Unit)=>some [.one<|.b<|ile (ln a) 6]) (λi c t rec=>?_) (λt rec=>?_) _ ()<|d e).trans ?_;{simp only [zbx c,zY c,zbi c,zV c e,cT];rw[z3C<|Nat.le_of_lt c,cT];have k:(tk a (i:Int)).length<=big:=qU (by simp[tk];omega) e;refine(zbg (tk a (i:Int)) (λj (u:Unit)=>(ln a,(i:Int),ln<|tk a (i:Int),(j:Int),a[i].Tag,a[i].af,a[i].ac,a[i].aj,a,tk a (i:Int),())) _ (λ_ (y:aq) (_:Unit) h=>bif !sameKey a[i] y then h () else oF) (λ(u:Unit)=>rec (ln a,((i+1:Nat):Int),a,())) (λj g u f=>?_) (λu f=>?_) _ ()<|d k).trans ?_;{simp only [zbx g,zY g,zbi g,zV g k,cT,zV c e];unfold sameKey;cases ieq a[i].Tag (tk a (i:Int))[j].Tag<;>cases ieq a[i].af (tk a (i:Int))[j].af<;>rfl};{simp only [zbq,cF,zV c e]};rw[zfc λy=>!sameKey a[i] y];rfl};{simp only [zbq,cF]};rw[zGi<|alone a];unfold zg4 zfw;cases allI (alone a) a 0<;>rfl
def zGl:vU 219 zlP:=hF1 zF7 zD zB zu zNs zMx
def zAO (N:Nat)(f:lE):OA:=
 (r0 (σ:=(Int×lE×Unit)) N (λg c=>cond (ilt c.1<|ln c.2.1) (r0 (σ:=(Int×Int×lE×Unit)) N (λh a=>let b:=a.2.2.1;let e:=ix b a.2.1 zdl;let d:=h (a.1,zK .i64 a.2.1 1,b,()); (cond (ilt a.2.1 a.1) (oN (inb a.1<|ln b)<|oN (inb a.2.1<|ln b)<|cond (ieq (ix b a.1 zdl).Tag e.Tag) (oN (inb a.1<|ln b)<|oN (inb a.2.1<|ln b)<|cond (ieq (ix b a.1 zdl).af e.af) oF d) d)<|g (zK .i64 a.1 1,b,()))) (c.1,0,c.2.1,()))<|some [aB<|ile (ln c.2.1) 6]) (0,f,()))
def zNw:=zy [(122,0,{n:=43,tm:=[(0,.sl 0 []),(3,ti)],lo:=[],ro:=[(0,.entry,false)]}),(122,2,{n:=43,tm:=[(0,.sl 0 []),(3,ti),(4,ti)],lo:=[],ro:=[(0,.entry,false)]})]
def zMH (a:List aq)(k:zbY big [aS .entry a])(l:zhu a=true):∃N,zAO N a=some [aB<|zg4 a]:=by
 have g:=len0 k;refine zcd λN d=>?_;unfold zAO oN;conv=>zeta
 refine(zbg a (λi (t:Unit)=>((i:Int),a,())) _ (λi (x:aq) (_:Unit) h=>bif alone a i x then h () else oF) (λ(t:Unit)=>some [.one<|.b<|ile (ln a) 6]) (λi c t rec=>?_) (λt rec=>?_) _ ()<|d g).trans ?_;{simp only [zbx c,zY c,zbi c,zV c g,cT];refine(zGW i (λ(j:Nat) (_:Unit)=>((i:Int),(j:Int),a,())) _ (λj (_:Unit) h=>bif !sameKey a[i] (ix a (j:Int) zdl) then h () else oF) (λ_=>rec (((i+1:Nat):Int),a,())) (λj m u f=>?_) (λu f=>?_) _ ()<|d (by omega)).trans ?_;{have e:j<a.length:=(by omega);simp only[show ilt (j:Int) (i:Int)=true from qL (by omega),zY c,zY e,zbi c,zV e g,cT];unfold sameKey;cases ieq a[i].Tag (ix a (j:Int) zdl).Tag<;>cases ieq a[i].af (ix a (j:Int) zdl).af<;>rfl};{simp only [show ilt (i:Int) (i:Int)=false from qX (by omega),zV c g,cF]};rw[zsX λj=>!sameKey a[i] (ix a (j:Int) zdl),zN8 (λy=>!sameKey a[i] y) a _ i 0 (by omega)];rfl};{simp only [zbq,cF]};rw[zGi<|alone a];unfold zg4 zfw;cases allI (alone a) a 0<;>rfl
def zGw:vU 122 zlP:=hF1 zF7 zD zB zu zNw zMH
def z5I:zbf:=[(122,zlP),(219,zlP)]++z5H
def zF8:zN z5I:=zi zGw (zi zGl zF7)
def zMs (a b:Int):igt a b = !ile a b:=by unfold igt ile;by_cases h:a<=b;{rw [qL h,qX (by omega)];rfl};{rw [qX h,qL (by omega)];rfl}
def stB {c M:Bool}{E:OA}(h:c=true->E=some [AV.one<|.b M]):(cond (cond c false true) (some [AV.one<|.b false]) E)=some [AV.one<|.b<|cond c M false]:=by cases c;{rfl};{exact h rfl}
def stI {a b:Int}{M:Bool}{E:OA}(h:ieq a b=true->E=some [AV.one<|.b M]):(cond (ine a b) (some [AV.one<|.b false]) E)=some [AV.one<|.b<|cond (ieq a b) M false]:=by rw[zDd];cases c:ieq a b;{rfl};{exact h c}
def stG {a b:Int}{M:Bool}{E:OA}(h:ile a b=true->E=some [AV.one<|.b M]):(cond (igt a b) (some [AV.one<|.b false]) E)=some [AV.one<|.b<|cond (ile a b) M false]:=by rw[zMs];cases c:ile a b;{rfl};{exact h c}
def zlK (s:k0)(p:LI):Bool:=bif zcx s C0 then zcw p else (cond (enough s.aj 1) (ile (ln p) 0) false)
def fits (m:Mon)(j:Nat):Bool:=zlK (ix m.ae (j:Int) zQ) (ix m.Out (j:Int) [])
def zd1 (m:Mon):Bool:=bif zk (ln m.ad) 1 2 then (cond (ieq (ln m.ai)<|ln m.ad) (cond (zcT m.ae 8 12) (cond (ieq (ln m.Out) 8) (cond (ieq (ln m.av) 8) (cond (ile (ln m.Outs) 40) (cond (zdI m.an) (cond (zk m.ar 0 3) (cond (zk m.Own 0 1000000000) (cond (m.ad.all zdX) (zkU (fits m) 8 0) false) false) false) false) false) false) false) false) false) else false
def znT {t:List k0}{n p:Int}(h:zcT t n p=true):ln t=n:=by unfold zcT at h;cases a:t.all (λs=>zdO s p);{rw [a]at h;cases h};{rw [a]at h;exact qD h}
@[simp] abbrev zh1 (m:Mon):Bool:=true
@[simp] abbrev ziT (m:Mon):Bool:=zd1 m
def zqJ:Run:=rF1 (dT .mon) λb=>(zh1 b,[aB<|ziT b])
def zNO (N:Nat)(a:Mon):OA:=
 let h:=ln a.ad; (oN (zM h 1 2)<|cond (nB<|zk h 1 2) oF<|cond (ine (ln a.ai) h) oF<|oN (zix a.ae 8 12)<|cond (nB<|zes a.ae 8 12) oF<|cond (ine (ln a.Out) 8) oF<|cond (ine (ln a.av) 8) oF<|cond (igt (ln a.Outs) 40) oF<|oN (zc6 a.an)<|cond (nB<|ze7 a.an) oF<|oN (zM a.ar 0 3)<|cond (nB<|zk a.ar 0 3) oF<|oN (zM a.Own 0 1000000000)<|cond (nB<|zk a.Own 0 1000000000) oF<|r0 (σ:=(Int×Int×Int×Int×Int×lG×lS×lM×lB×LI×lK×Unit)) N (λl b=>let a:=b.2.2.2.2.2.2.2;let i:=b.2.2.2.2.2.2.1;let g:=b.2.2.2.2.2.1;let k:=ix g b.2.1 zI; (cond (ilt b.2.1 b.1) (oN (inb b.2.1<|ln g)<|oN (zbN k)<|cond (nB<|zic k) oF<|l (b.1,zK .i64 b.2.1 1,b.2.2.1,b.2.2.2.1,b.2.2.2.2.1,g,i,a.1,a.2.1,a.2.2.1,a.2.2.2.1,()))<|r0 (σ:=(Int×Int×Int×Int×Int×lS×lM×lB×lG×LI×lK×Unit)) N (λm c=>let a:=c.2.2.2.2.2;let d:=c.2.1;let e:=a.2.1;let f:=ix a.1 d zQ;let j:=m (c.1,zK .i64 d 1,c.2.2.1,c.2.2.2.1,c.2.2.2.2.1,a.1,e,a.2.2.1,a.2.2.2.1,a.2.2.2.2.1,a.2.2.2.2.2.1,()); (cond (ilt d c.1) (oN (inb d<|ln a.1)<|oN zbz<|cond (cond (ieq f.af zW.af) (ieq f.aj zW.aj) false) (oN (inb d<|ln e)<|oN (zdC<|ix e d [])<|cond (nB<|zc8<|ix e d []) oF j)<|oN (zb0 f.aj 1)<|cond (nB<|zdh f.aj 1) oF<|oN (inb d<|ln e)<|cond (igt (ln<|ix e d []) 0) oF j) oT)) (ln i,0,b.2.2.1,b.2.2.2.1,b.2.2.2.2.1,i,a.1,a.2.1,g,a.2.2.1,a.2.2.2.1,()))) (h,0,a.an,a.ar,a.Own,a.ad,a.ae,a.Out,a.av,a.Outs,a.ai,()))
def zV7:=zy [(80,0,{n:=106,tm:=[(1,.lp 0 0),(64,.sl 0 []),(65,ti),(66,ti)],lo:=[(0,[.sl 1 [],.sl 2 [],.sl 3 [],.sl 0 [],.sl 4 [],ti,ti,.sl 5 [],ti])],ro:=[(0,.guest,false),(1,.slot,false),(2,.sl .int,false),(3,.bool,false),(4,.int,false),(5,.kept,false)]}),(80,2,{n:=106,tm:=[(1,.lp 0 0),(75,.sl 0 []),(76,ti),(77,ti)],lo:=[(0,[.sl 0 [],.sl 1 [],.sl 2 [],.sl 3 [],.sl 4 [],ti,ti,.sl 5 [],ti])],ro:=[(0,.slot,false),(1,.sl .int,false),(2,.bool,false),(3,.guest,false),(4,.int,false),(5,.kept,false)]})]
def zVd (a:Mon)(l:zbY big [aT .mon a])(E:zh1 a=true):∃N,zNO N a=some [aB<|ziT a]:=by
 have hg:a.ad.length<=big:=((zb8 l).1 (.s .guest a.ad) (by simp[AV.cvs,Ty.cells])).len;have m:a.ae.length<=big:=((zb8 l).1 (.s .slot a.ae) (by simp[AV.cvs,Ty.cells])).len;refine zcd λN d=>?_;unfold zNO ziT zd1 oN nB;conv=>zeta
 refine j0 rfl (stB λw=>stI λy=>j0 rfl (stB λr=>stI λv=>stI λz=>stG λA=>j0 rfl (stB λB=>j0 rfl (stB λC=>j0 rfl (stB λD=>?_)))));have p:=znT r;have q:ln a.Out=8:=qD v;simp only[ln] at p q;refine(zbg a.ad (λi (t:Unit)=>(ln a.ad,(i:Int),a.an,a.ar,a.Own,a.ad,a.ae,a.Out,a.av,a.Outs,a.ai,())) _ (λ_ (x:ah) (_:Unit) g=>bif zdX x then g () else oF) (λ(t:Unit)=>r0 (σ:=(Int×Int×Int×Int×Int×lS×lM×lB×lG×LI×lK×Unit)) N (λn c=>cond (ilt c.2.1 c.1) (cond (inb c.2.1<|ln c.2.2.2.2.2.1) (cond zbz (cond (cond (ieq (ix c.2.2.2.2.2.1 c.2.1 zQ).af zW.af) (ieq (ix c.2.2.2.2.2.1 c.2.1 zQ).aj zW.aj) false) (cond (inb c.2.1<|ln c.2.2.2.2.2.2.1) (cond (zdC<|ix c.2.2.2.2.2.2.1 c.2.1 []) (cond (cond (zc8<|ix c.2.2.2.2.2.2.1 c.2.1 []) false true) oF<|n (c.1,zK .i64 c.2.1 1,c.2.2.1,c.2.2.2.1,c.2.2.2.2.1,c.2.2.2.2.2.1,c.2.2.2.2.2.2.1,c.2.2.2.2.2.2.2.1,c.2.2.2.2.2.2.2.2.1,c.2.2.2.2.2.2.2.2.2.1,c.2.2.2.2.2.2.2.2.2.2.1,())) none) none)<|cond (zb0 (ix c.2.2.2.2.2.1 c.2.1 zQ).aj 1) (cond (cond (zdh (ix c.2.2.2.2.2.1 c.2.1 zQ).aj 1) false true) oF<|cond (inb c.2.1<|ln c.2.2.2.2.2.2.1) (cond (igt (ln<|ix c.2.2.2.2.2.2.1 c.2.1 []) 0) oF<|n (c.1,zK .i64 c.2.1 1,c.2.2.1,c.2.2.2.1,c.2.2.2.2.1,c.2.2.2.2.2.1,c.2.2.2.2.2.2.1,c.2.2.2.2.2.2.2.1,c.2.2.2.2.2.2.2.2.1,c.2.2.2.2.2.2.2.2.2.1,c.2.2.2.2.2.2.2.2.2.2.1,())) none) none) none) none)<|some [.one<|.b true]) (ln a.ae,0,a.an,a.ar,a.Own,a.ae,a.Out,a.av,a.ad,a.Outs,a.ai,())) (λi h t rec=>?_) (λt rec=>?_) _ ()<|d hg).trans ?_;{simp only [zbx h,zY h,zbi h,zV h hg,cT];simp only[zbN,zic,cT];cases zdX a.ad[i]<;>rfl};{simp only [zbq,cF]};rw[zfc zdX];cases a.ad.all zdX;{rfl};simp only[cT];refine(zbg a.ae (λj (u:Unit)=>(ln a.ae,(j:Int),a.an,a.ar,a.Own,a.ae,a.Out,a.av,a.ad,a.Outs,a.ai,())) _ (λj (_:k0) (_:Unit) g=>bif fits a j then g () else oF) (λ(u:Unit)=>some [.one<|.b true]) (λj e u f=>?_) (λu f=>?_) _ ()<|d m).trans ?_;{simp only [zbx e,zY e,zbi e,zV e m,cT];have k:j<a.Out.length:=(by omega);simp only[zbz,zW,zdC,zc8,zb0,zdh,zY k,zMs,cT];unfold fits zlK;simp only[zbi e,zcx];cases ieq a.ae[j].af C0.af<;>cases ieq a.ae[j].aj C0.aj<;>cases enough a.ae[j].aj 1<;>cases ile (ln<|ix a.Out (j:Int) []) 0<;>cases zcw (ix a.Out (j:Int) [])<;>rfl};{simp only [zbq,cF]};rw[zpO λj (_:Unit) g=>bif fits a j then g () else oF,zsX<|fits a,show a.ae.length=8 by omega];cases zkU (fits a) 8 0<;>rfl
def zPp:vU 80 zqJ:=hF1 zF8 zD zB zu zV7 zVd
def zNZ (N:Nat)(c:Mon):OA:=
 (oN (zM (ln c.ad) 1 2)<|cond (nB<|zk (ln c.ad) 1 2) oF<|cond (ine (ln c.ai)<|ln c.ad) oF<|oN (zix c.ae 8 12)<|cond (nB<|zes c.ae 8 12) oF<|cond (ine (ln c.Out) 8) oF<|cond (ine (ln c.av) 8) oF<|r0 (σ:=(Int×Int×Int×Int×lS×lM×lB×lG×LI×lK×Unit)) N (λl b=>let c:=b.2.2.2.2;let n:=c.2.2.2.2;let d:=c.2.2.2.1; (cond (ilt b.1<|ln d) (oN (inb b.1<|ln d)<|oN (zbN<|ix d b.1 zI)<|cond (nB<|zic<|ix d b.1 zI) oF<|l (zK .i64 b.1 1,b.2.1,b.2.2.1,b.2.2.2.1,c.1,c.2.1,c.2.2.1,d,n.1,n.2.1,()))<|r0 (σ:=(Int×Int×Int×Int×lS×lM×lB×lG×LI×lK×Unit)) N (λm a=>let b:=a.2.2.2.2.2;let h:=a.2.2.2.2.1;let i:=inb a.1<|ln b.1;let e:=ix b.1 a.1 [];let g:=ix h a.1 zQ;let k:=ieq g.aj zW.aj;let j:=ieq g.af zW.af;let f:=m (zK .i64 a.1 1,a.2.1,a.2.2.1,a.2.2.2.1,h,b.1,b.2.1,b.2.2.1,b.2.2.2.1,b.2.2.2.2.1,()); (cond (ilt a.1 8) (oN (inb a.1<|ln h)<|oN zbz<|cond (nB<|cond j k false) (oN i<|cond (igt (ln e) 0) oF<|oN (inb a.1<|ln h)<|oN (zb0 g.aj 1)<|cond (nB<|zdh g.aj 1) oF<|cond (nB<|nB<|cond j k false) (oN i<|oN (zdC e)<|cond (nB<|zc8 e) oF f) f)<|cond (nB<|nB<|cond j k false) (oN i<|oN (zdC e)<|cond (nB<|zc8 e) oF f) f)<|cond (ile (ln b.2.2.2.1) 40) (oN (zc6 a.2.1)<|cond (ze7 a.2.1) (oN (zM a.2.2.1 0 3)<|cond (zk a.2.2.1 0 3) (oN (zM a.2.2.2.1 0 1000000000)<|some [aB<|zk a.2.2.2.1 0 1000000000]) oF) oF) oF)) (0,b.2.1,b.2.2.1,b.2.2.2.1,c.1,c.2.1,c.2.2.1,d,n.1,n.2.1,()))) (0,c.an,c.ar,c.Own,c.ae,c.Out,c.av,c.ad,c.Outs,c.ai,()))
def zWa:=zy [(81,0,{n:=115,tm:=[(1,.lp 0 0),(3,ti)],lo:=[(0,[.sl 0 [],.sl 1 [],.sl 2 [],.sl 3 [],.sl 4 [],ti,ti,.sl 5 [],ti])],ro:=[(0,.slot,false),(1,.sl .int,false),(2,.bool,false),(3,.guest,false),(4,.int,false),(5,.kept,false)]}),(81,2,{n:=115,tm:=[(1,.lp 0 0),(4,ti)],lo:=[(0,[.sl 0 [],.sl 1 [],.sl 2 [],.sl 3 [],.sl 4 [],ti,ti,.sl 5 [],ti])],ro:=[(0,.slot,false),(1,.sl .int,false),(2,.bool,false),(3,.guest,false),(4,.int,false),(5,.kept,false)]})]
def zVn (c:Mon)(r:zbY big [aT .mon c])(A:zh1 c=true):∃N,zNZ N c=some [aB<|ziT c]:=by
 have hg:c.ad.length<=big:=((zb8 r).1 (.s .guest c.ad) (by simp[AV.cvs,Ty.cells])).len;refine zcd λN d=>?_;unfold zNZ ziT zd1 oN nB;conv=>zeta
 refine j0 rfl (stB λw=>stI λy=>j0 rfl (stB λp=>stI λq=>stI λz=>?_));have m:=znT p;have n:ln c.Out=8:=qD q;simp only[ln] at m n;refine(zbg c.ad (λi (t:Unit)=>((i:Int),c.an,c.ar,c.Own,c.ae,c.Out,c.av,c.ad,c.Outs,c.ai,())) _ (λ_ (x:ah) (_:Unit) l=>bif zdX x then l () else oF) (λ(t:Unit)=>r0 (σ:=(Int×Int×Int×Int×lS×lM×lB×lG×LI×lK×Unit)) N (λh a=>cond (ilt a.1 8) (cond (inb a.1<|ln a.2.2.2.2.1) (cond zbz (cond (cond (cond (ieq (ix a.2.2.2.2.1 a.1 zQ).af zW.af) (ieq (ix a.2.2.2.2.1 a.1 zQ).aj zW.aj) false) false true) (cond (inb a.1<|ln a.2.2.2.2.2.1) (cond (igt (ln<|ix a.2.2.2.2.2.1 a.1 []) 0) oF<|cond (inb a.1<|ln a.2.2.2.2.1) (cond (zb0 (ix a.2.2.2.2.1 a.1 zQ).aj 1) (cond (cond (zdh (ix a.2.2.2.2.1 a.1 zQ).aj 1) false true) oF<|cond (cond (cond (cond (ieq (ix a.2.2.2.2.1 a.1 zQ).af zW.af) (ieq (ix a.2.2.2.2.1 a.1 zQ).aj zW.aj) false) false true) false true) (cond (inb a.1<|ln a.2.2.2.2.2.1) (cond (zdC<|ix a.2.2.2.2.2.1 a.1 []) (cond (cond (zc8<|ix a.2.2.2.2.2.1 a.1 []) false true) oF<|h (zK .i64 a.1 1,a.2.1,a.2.2.1,a.2.2.2.1,a.2.2.2.2.1,a.2.2.2.2.2.1,a.2.2.2.2.2.2.1,a.2.2.2.2.2.2.2.1,a.2.2.2.2.2.2.2.2.1,a.2.2.2.2.2.2.2.2.2.1,())) none) none)<|h (zK .i64 a.1 1,a.2.1,a.2.2.1,a.2.2.2.1,a.2.2.2.2.1,a.2.2.2.2.2.1,a.2.2.2.2.2.2.1,a.2.2.2.2.2.2.2.1,a.2.2.2.2.2.2.2.2.1,a.2.2.2.2.2.2.2.2.2.1,())) none) none) none)<|cond (cond (cond (cond (ieq (ix a.2.2.2.2.1 a.1 zQ).af zW.af) (ieq (ix a.2.2.2.2.1 a.1 zQ).aj zW.aj) false) false true) false true) (cond (inb a.1<|ln a.2.2.2.2.2.1) (cond (zdC<|ix a.2.2.2.2.2.1 a.1 []) (cond (cond (zc8<|ix a.2.2.2.2.2.1 a.1 []) false true) oF<|h (zK .i64 a.1 1,a.2.1,a.2.2.1,a.2.2.2.1,a.2.2.2.2.1,a.2.2.2.2.2.1,a.2.2.2.2.2.2.1,a.2.2.2.2.2.2.2.1,a.2.2.2.2.2.2.2.2.1,a.2.2.2.2.2.2.2.2.2.1,())) none) none)<|h (zK .i64 a.1 1,a.2.1,a.2.2.1,a.2.2.2.1,a.2.2.2.2.1,a.2.2.2.2.2.1,a.2.2.2.2.2.2.1,a.2.2.2.2.2.2.2.1,a.2.2.2.2.2.2.2.2.1,a.2.2.2.2.2.2.2.2.2.1,())) none) none)<|cond (ile (ln a.2.2.2.2.2.2.2.2.1) 40) (cond (zc6 a.2.1) (cond (ze7 a.2.1) (cond (zM a.2.2.1 0 3) (cond (zk a.2.2.1 0 3) (cond (zM a.2.2.2.1 0 1000000000) (some [.one<|.b<|zk a.2.2.2.1 0 1000000000]) none) oF) none) oF) none) oF) (0,c.an,c.ar,c.Own,c.ae,c.Out,c.av,c.ad,c.Outs,c.ai,())) (λi g t rec=>?_) (λt rec=>?_) _ ()<|d hg).trans ?_;{simp only [zbx g,zY g,zbi g,zV g hg,cT];simp only[zbN,zic,cT];cases zdX c.ad[i]<;>rfl};{simp only [zbq,cF]};rw[zfc zdX];cases B:c.ad.all zdX;{simp only [cF];cases ile (ln c.Outs) 40<;>cases zdI c.an<;>cases zk c.ar 0 3<;>cases zk c.Own 0 1000000000<;>rfl};simp only[cT];refine(zGW 8 (λj (u:Unit)=>((j:Int),c.an,c.ar,c.Own,c.ae,c.Out,c.av,c.ad,c.Outs,c.ai,())) _ (λj (_:Unit) l=>bif fits c j then l () else oF) (λ(u:Unit)=>cond (ile (ln c.Outs) 40) (cond (zc6 c.an) (cond (ze7 c.an) (cond (zM c.ar 0 3) (cond (zk c.ar 0 3) (cond (zM c.Own 0 1000000000) (some [.one<|.b<|zk c.Own 0 1000000000]) none) oF) none) oF) none) oF) (λj v u f=>?_) (λu f=>?_) _ ()<|d (by decide)).trans ?_;{simp only [show ilt (j:Int) 8=true from qL (by omega),zV v (show 8<=big by decide),cT];have e:j<c.ae.length:=(by omega);have k:j<c.Out.length:=(by omega);simp only[zbz,zW,zdC,zc8,zb0,zdh,zY e,zY k,zMs,cT];unfold fits zlK;simp only[zbi e,zcx];cases ieq c.ae[j].af C0.af<;>cases ieq c.ae[j].aj C0.aj<;>cases enough c.ae[j].aj 1<;>cases ile (ln<|ix c.Out (j:Int) []) 0<;>cases zcw (ix c.Out (j:Int) [])<;>rfl};{simp only [show ilt ((8:Nat):Int) 8=false from qX (by omega),cF];rfl};rw[zsX<|fits c];simp only[zc6,ze7,zM,zQY,cT];cases zkU (fits c) 8 0<;>cases ile (ln c.Outs) 40<;>cases zdI c.an<;>cases zk c.ar 0 3<;>cases zk c.Own 0 1000000000<;>rfl
def zPA:vU 81 zqJ:=hF1 zF8 zD zB zu zWa zVn
def z5J:zbf:=[(81,zqJ),(80,zqJ)]++z5I
def zF9:zN z5J:=zi zPA (zi zPp zF8)
def zgJ:List k0->List Bool->Option (List Bool)
 |[],u=>some u
 |s::l,u=>bif ilt s.af 0 then zgJ l u else (cond (ix u s.af false) none<|zgJ l<|up u s.af true)
def zht:List Mon->List Bool->Bool
 |[],_=>true
 |m::l,u=>bif zd1 m then (match zgJ m.ae u with|some a=>zht l a|none=>false) else false
def zbT (h:ac):Bool:=bif zh6 h.ag 12 then (cond (zk (ln h.aa) 1 3) (cond (zfw h.am) (cond (zfw h.ak) (zht h.aa<|rp 12 false) false) false) false) else false
def zpt:∀(l:List k0) (u a:List Bool),zgJ l u=some a->a.length=u.length
 |[],u,a,h=>by cases h;rfl
 |s::l,u,a,h=>by simp only[zgJ]at h;cases b:ilt s.af 0;{rw [b]at h;cases c:ix u s.af false;{rw [c]at h;simpa using zpt l _ a h};{rw [c]at h;cases h}};{rw [b]at h;exact zpt l u a h}
def zDo {t:List k0}{n:Int}(h:zcT t n 12=true):∀s∈t,s.af<12:=by intro s d;unfold zcT at h;cases b:t.all (λs=>zdO s 12);{rw [b]at h;cases h};{have:=qM.1 b s d;unfold zdO at this;cases a:zcx s C0;{rw [a] at this;simp only[cF,show igt 12 0=true from rfl,cT] at this;cases c:zk s.af 0 (wsub .i64 12 1);{rw [c] at this;cases this};{have:=(zfO.1 c).2;rw[show wsub .i64 12 1=11 from rfl] at this;omega}};{unfold zcx at a;rw[qE]at a;have a:s.af = -1:=qD a.1;omega}}
def zUJ {s:k0}{u:List Bool}(h:s.af<12)(b:u.length=12)(a:ilt s.af 0=false):inb s.af (ln u)=true:=by have:=jT a;exact qL (by simp only[ln];omega)
def ztk {a:Type}(r:Option a)(y:k0)(u:List Bool)(b:List Bool->Option a):Option a:=bif ilt y.af 0 then b u else (cond (inb y.af<|ln u) (cond (ix u y.af false) r<|cond (inb y.af<|ln u) (p0 (up u y.af true) λc=>b c) none) none)
def zyu {c:Type}(r:Option c)(K:List Bool->Option c):∀(l:List k0) (i:Nat) (u:List Bool),(∀s∈l,s.af<12)->u.length=12->
 goL (λ_ y u g=>ztk r y u g) K l i u=match zgJ l u with|some f=>K f|none=>r
 |[],_,_,_,_=>rfl
 |s::l,i,u,h,b=>by simp only[goL,zgJ,ztk];cases d:ilt s.af 0;{have e:=zUJ (h s (by simp)) b d;rw[e];cases ix u s.af false;{simp only [cF,cT,p0];exact zyu r K l (i+1) _ (λs a=>h s (by simp[a])) (by simpa using b)};{rfl}};{simp only [cT];exact zyu r K l (i+1) u (λs a=>h s (by simp[a])) b}
def zXB {b:Type}(r:Option b)(m:Mon)(u:List Bool)(a:List Bool->Option b):Option b:=bif zd1 m then goL (λ_ y u a=>ztk r y u a) a m.ae 0 u else r
def zc1 {c x:Bool}:((cond c x false)=true)↔c=true/\x=true:=by cases c<;>simp
def ziu {m:Mon}(h:zd1 m=true):zcT m.ae 8 12=true:=by unfold zd1 at h;simp only[zc1]at h;exact h.2.2.1
def zRY {K:Bool->OA}(k:List Bool->OA)(a:∀u,k u=K true):∀(l:List Mon) (i:Nat) (u:List Bool),u.length=12->
 goL (λ_ m u g=>zXB (K false) m u g) k l i u=K (zht l u)
 |[],_,u,_=>a u
 |m::l,i,u,b=>by simp only[goL,zht,zXB];cases c:zd1 m;{rfl};{simp only [cT];have e:=ziu c;rw[zyu _ _ _ _ _ (zDo e) b];cases d:zgJ m.ae u with|none=>rfl|some f=>exact zRY k a l (i+1) f ((zpt _ _ _ d).trans b)}
@[simp] abbrev zei (h:ac):Bool:=true
@[simp] abbrev zeg (h:ac):Bool:=zbT h
def zom:Run:=rF1 dH λb=>(zei b,[aB<|zeg b])
def zHN (N:Nat)(c:ac):OA:=
 (oN (zlh c.ag 12)<|cond (nB<|zf9 c.ag 12) oF<|oN (zM (ln c.aa) 1 3)<|cond (nB<|zk (ln c.aa) 1 3) oF<|oN (zhu c.am)<|cond (nB<|zg4 c.am) oF<|oN (zhu c.ak)<|cond (nB<|zg4 c.ak) oF<|oN (cond (few 12) (ieq 12 12) false)<|r0 (σ:=(Int×Int×lB×lN×Unit)) N (λk b=>let h:=ix b.2.2.2.1 b.2.1 zh; (cond (ilt b.2.1 b.1) (oN (inb b.2.1<|ln b.2.2.2.1)<|oN (zh1 h)<|cond (nB<|ziT h) oF<|r0 (σ:=(Int×Int×Int×Int×Int×lB×lN×Unit)) N (λi a=>let f:=a.2.2.2.2.1;let g:=a.2.2.2.2.2.2.1;let j:=(ix g a.2.2.1 zh).ae;let d:=a.2.2.2.2.2.1;let e:=(ix j f zQ).af; (cond (ilt f a.2.2.2.1) (oN (inb f<|ln j)<|cond (ilt e 0) (i (a.1,a.2.1,a.2.2.1,a.2.2.2.1,zK .i64 f 1,d,g,()))<|oN (inb e<|ln d)<|cond (ix d e false) oF<|oN (inb e<|ln d)<|p0 (up d e true) λl=>i (a.1,a.2.1,a.2.2.1,a.2.2.2.1,zK .i64 f 1,l,g,()))<|k (a.1,zK .i64 a.2.1 1,d,g,()))) (b.1,b.2.1,b.2.1,ln h.ae,0,b.2.2.1,b.2.2.2.1,())) oT)) (ln c.aa,0,rp 12 false,c.aa,()))
def zUk:=zy [(82,0,{n:=63,tm:=[(3,.sl 0 []),(33,.sl 1 []),(34,ti),(35,ti)],lo:=[],ro:=[(0,.bool,true),(1,.mon,false)]}),(82,2,{n:=63,tm:=[(3,.sl 0 []),(33,.sl 1 []),(34,ti),(35,ti),(43,.sl 1 [0]),(44,ti),(45,ti)],lo:=[],ro:=[(0,.bool,true),(1,.mon,false)]})]
def zSp (a:ac)(n:zbY big [aH a])(w:zei a=true):∃N,zHN N a=some [aB<|zeg a]:=by
 have l:CVB big (.s .mon a.aa):=(zb8 n).1 _ (by simp[AV.cvs,zbo]);have g:=l.len;refine zcd λN d=>?_;unfold zHN zeg zbT oN nB;conv=>zeta
 refine j0 rfl (stB λp=>j0 rfl (stB λq=>j0 rfl (stB λr=>j0 rfl (stB λv=>j0 rfl ?_))));refine(zbg a.aa (λi (t:lB)=>(ln a.aa,(i:Int),t,a.aa,())) _ (λ_ (x:Mon) (u:List Bool) h=>zXB (oF) x u h) (λ(t:lB)=>some [.one<|.b true]) (λi c t rec=>?_) (λt rec=>?_) _ (rp 12 false)<|d g).trans ?_;{simp only [zbx c,zY c,zbi c,zV c g,cT];unfold zXB;cases k:zd1 a.aa[i];{simp only [zh1,ziT,k,cT,cF]};simp only[zh1,ziT,k,cT,cF];have m:a.aa[i].ae.length<=big:=(l.inv.2 _ (jB c) (.s .slot _) (by simp[Ty.cells])).len;refine(zbg a.aa[i].ae (λj (u:lB)=>(ln a.aa,(i:Int),(i:Int),ln a.aa[i].ae,(j:Int),u,a.aa,())) _ (λ_ (y:k0) (u:List Bool) h=>ztk (oF) y u h) (λ(u:lB)=>rec (ln a.aa,((i+1:Nat):Int),u,a.aa,())) (λj f u e=>?_) (λu e=>?_) _ (t)<|d m).trans ?_;{simp only [zbx f,zY f,zbi f,zV f m,cT,zY c,zbi c,zV c g];rfl};{simp only [zbq,cF,zY c,zbi c,zV c g]};rfl};{simp only [zbq,cF]};exact zRY (K:=λb=>some [AV.one<|.b b]) _ (λ_=>rfl) _ _ _ rfl
def zLE:vU 82 zom:=hF1 zF9 zD zB zu zUk zSp
def zGj {e:Type}(r:Option e)(k:List Bool->Option e)(m:Mon):∀(n i:Nat) (u:List Bool),(∀s∈m.ae,s.af<12)->u.length=12->i+n=m.ae.length->
 goN (λj u d=>bif inb (j:Int) (ln m.ae) then ztk r (ix m.ae (j:Int) zQ) u d else none) k n i u=goL (λ_ y u d=>ztk r y u d) k (m.ae.drop i) i u
 | 0,i,u,_,_,h=>by have:i=m.ae.length:=(by omega);subst this;simp[goN,goL]
 |n+1,i,u,b,c,h=>by have a:i<m.ae.length:=(by omega);rw[jO a];simp only[goN,goL,zY a,zbi a,cT,ztk];cases f:ilt m.ae[i].af 0;{rw [zUJ (b _<|jB a) c f];cases ix u m.ae[i].af false;{simp only [cF,cT,p0];exact zGj r k m n (i+1) _ b (by simpa using c) (by omega)};{rfl}};{simp only [cT];exact zGj r k m n (i+1) u b c (by omega)}
def zH2 (N:Nat)(b:ac):OA:=
 (oN (zlh b.ag 12)<|cond (nB<|zf9 b.ag 12) oF<|oN (zM (ln b.aa) 1 3)<|cond (nB<|zk (ln b.aa) 1 3) oF<|oN (zhu b.am)<|cond (nB<|zg4 b.am) oF<|oN (zhu b.ak)<|cond (nB<|zg4 b.ak) oF<|oN (cond (few 12) (ieq 12 12) false)<|r0 (σ:=(Int×lB×lM×lN×lE×lE×Unit)) N (λq c=>let n:=ix c.2.2.2.1 c.1 zh; (cond (ilt c.1<|ln c.2.2.2.1) (oN (inb c.1<|ln c.2.2.2.1)<|oN (zh1 n)<|cond (nB<|ziT n) oF<|r0 (σ:=(Int×Int×lB×lM×lN×lE×lE×Unit)) N (λi a=>let k:=zK .i64 a.2.1 1;let h:=a.2.2.2.2.2.1;let g:=a.2.2.2.2.2.2.1;let f:=a.2.2.1;let e:=a.2.2.2.2.1;let p:=(ix e a.1 zh).ae;let m:=i (a.1,k,f,a.2.2.2.1,e,h,g,());let d:=(ix p a.2.1 zQ).af;let l:=inb d<|ln f; (cond (ilt a.2.1 8) (oN (inb a.1<|ln e)<|oN (inb a.2.1<|ln p)<|cond (ige d 0) (oN l<|cond (ix f d false) oF<|cond (ige d 0) (oN l<|p0 (up f d true) λj=>i (a.1,k,j,a.2.2.2.1,e,h,g,())) m)<|cond (ige d 0) (oN l<|p0 (up f d true) λj=>i (a.1,k,j,a.2.2.2.1,e,h,g,())) m)<|q (zK .i64 a.1 1,f,a.2.2.2.1,e,h,g,()))) (c.1,0,c.2.1,c.2.2.1,c.2.2.2.1,c.2.2.2.2.1,c.2.2.2.2.2.1,())) oT)) (0,rp 12 false,b.ag,b.aa,b.am,b.ak,()))
def zUr:=zy [(28,0,{n:=72,tm:=[(1,.lp 0 0),(3,.sl 0 []),(4,ti)],lo:=[(0,[.sl 1 [],.sl 2 [],.sl 3 [],.sl 4 []])],ro:=[(0,.bool,true),(1,.sl .int,false),(2,.mon,false),(3,.entry,false),(4,.entry,false)]}),(28,2,{n:=72,tm:=[(1,.lp 0 0),(3,.sl 0 []),(4,ti),(5,ti)],lo:=[(0,[.sl 1 [],.sl 2 [],.sl 3 [],.sl 4 []])],ro:=[(0,.bool,true),(1,.sl .int,false),(2,.mon,false),(3,.entry,false),(4,.entry,false)]})]
def zSD (a:ac)(y:zbY big [aH a])(F:zei a=true):∃N,zH2 N a=some [aB<|zeg a]:=by
 have A:CVB big (.s .mon a.aa):=(zb8 y).1 _ (by simp[AV.cvs,zbo]);have h:=A.len;refine zcd λN f=>?_;unfold zH2 zeg zbT oN nB;conv=>zeta
 refine j0 rfl (stB λD=>j0 rfl (stB λq=>j0 rfl (stB λr=>j0 rfl (stB λE=>j0 rfl ?_))));refine(zbg a.aa (λi (t:lB)=>((i:Int),t,a.ag,a.aa,a.am,a.ak,())) _ (λ_ (x:Mon) (u:List Bool) d=>bif zd1 x then goN (λj u d=>bif inb (j:Int) (ln x.ae) then ztk (oF) (ix x.ae (j:Int) zQ) u d else none) d 8 0 u else oF) (λ(t:lB)=>some [.one<|.b true]) (λi c t rec=>?_) (λt rec=>?_) _ (rp 12 false)<|f h).trans ?_;{simp only [zbx c,zY c,zbi c,zV c h,cT];cases v:zd1 a.aa[i];{simp only [zh1,ziT,v,cT,cF]};simp only[zh1,ziT,v,cT,cF];refine(zGW 8 (λj (u:lB)=>((i:Int),(j:Int),u,a.ag,a.aa,a.am,a.ak,())) _ (λj (u:List Bool) d=>bif inb (j:Int) (ln a.aa[i].ae) then ztk (oF) (ix a.aa[i].ae (j:Int) zQ) u d else none) (λ(u:lB)=>rec (((i+1:Nat):Int),u,a.ag,a.aa,a.am,a.ak,())) (λj z u g=>?_) (λu g=>?_) _ (t)<|f (by decide)).trans ?_;{simp only [show ilt (j:Int) 8=true from qL (by omega),zV z (show 8<=big by decide),cT,zY c,zbi c,zV c h];unfold ztk;have e:ige (ix a.aa[i].ae (j:Int) zQ).af 0 = !ilt (ix a.aa[i].ae (j:Int) zQ).af 0:=(by rw[z7Z,Bool.not_not]);simp only[e];cases ilt (ix a.aa[i].ae (j:Int) zQ).af 0<;>cases inb (j:Int) (ln a.aa[i].ae)<;>cases inb (ix a.aa[i].ae (j:Int) zQ).af (ln u)<;>cases ix u (ix a.aa[i].ae (j:Int) zQ).af false<;>rfl};{simp only [show ilt ((8:Nat):Int) 8=false from qX (by omega),cF,zY c,zbi c,zV c h]};rfl};{simp only [zbq,cF]};have p:∀(l:List Mon) (i:Nat) (u:List Bool),u.length=12->goL (λ_ (x:Mon) (u:List Bool) d=>bif zd1 x then goN (λj u d=>bif inb (j:Int) (ln x.ae) then ztk (oF) (ix x.ae (j:Int) zQ) u d else none) d 8 0 u else oF) (λ_=>oT) l i u=some [AV.one<|.b<|zht l u]:=(by intro l;induction l with|nil=>intro i u _;rfl|cons m l B=>intro i u n;simp only[goL,zht];cases q:zd1 m;{rfl};{have k:=ziu q;have w:0+8=m.ae.length:=(by have:=znT k;simp only[ln] at this;omega);simp only[cT];rw[zGj _ _ m 8 0 u (zDo k) n w,vH,zyu _ _ _ _ _ (zDo k) n];cases r:zgJ m.ae u with|none=>rfl|some C=>exact B (i+1) C ((zpt _ _ _ r).trans n)});exact p _ _ _ rfl
def zLW:vU 28 zom:=hF1 zF9 zD zB zu zUr zSD
def zXK:zbf:=[(28,zom),(82,zom)]++z5J
def zyi:zN zXK:=zi zLW (zi zLE zF9)
def zJI {h:ac}(a:zbT h=true):(h.aa.length:Int)<=3:=by unfold zbT at a;simp only[zc1]at a;exact(zfO.1 a.2.1).2
def zcQ (h:ac)(m:Int):Bool:=bif zbT h then i0 m (ln h.aa) else false
def zcs (h:ac)(m p:Int):Bool:=bif zbT h then (cond (i0 m<|ln h.aa) (i0 p 8) false) else false
def zNL {h:ac}(a:zbT h=true)(m:Int):zk m 0 (wsub .i64 (ln h.aa) 1)=i0 m (ln h.aa):=zqp (by have:=zJI a;omega) m
def win7 (p:Int):zk p 0 7=i0 p 8:=by unfold zk ige ile i0;by_cases a:0<=p<;>by_cases b:p<8;{rw [qL (p:=p≥0) (by omega),qL (p:=p<=7) (by omega),qL (p:=0<=p/\p<8) ⟨a,b⟩];rfl};{rw [qX (p:=p<=7) (by omega),qX (p:=0<=p/\p<8) (by omega)];simp};{rw [qX (p:=p≥0) (by omega),qX (p:=0<=p/\p<8) (by omega)];simp};{rw [qX (p:=p≥0) (by omega),qX (p:=0<=p/\p<8) (by omega)];simp}
@[simp] abbrev zfM (h:ac)(m:Int):Bool:=true
@[simp] abbrev zfL (h:ac)(m:Int):Bool:=zcQ h m
def zCu:Run:=rF2 dH dI λb c=>(zfM b c,[aB<|zfL b c])
def zIm (N:Nat)(a:ac)(b:Int):OA:=
 (oN (zei a)<|cond (zeg a) (oN (zM b 0<|wsub .i64 (ln a.aa) 1)<|some [aB<|zk b 0<|wsub .i64 (ln a.aa) 1]) oF)
def zSX (a:ac)(b:Int)(d:zfM a b=true):∃N,zIm N a b=some [aB<|zfL a b]:=by refine⟨0,?_⟩;unfold zIm zfL zcQ oN;cases c:zbT a;{simp only [zei,zeg,c,cT,cF]};{simp only [zei,zeg,c,cT,zM,zQY,zNL c]}
def zMo:vU 331 zCu:=kF2 zyi zD zB zu (zy []) zSX
@[simp] abbrev znQ (h:ac)(m p:Int):Bool:=true
@[simp] abbrev zfT (h:ac)(m p:Int):Bool:=zcs h m p
def zFv:Run:=rF3 dH dI dI λb c d=>(znQ b c d,[aB<|zfT b c d])
def zN6 (N:Nat)(a:ac)(b c:Int):OA:=
 (oN (zei a)<|cond (zeg a) (oN (zM b 0<|wsub .i64 (ln a.aa) 1)<|cond (zk b 0<|wsub .i64 (ln a.aa) 1) (oN (zM c 0 7)<|some [aB<|zk c 0 7]) oF) oF)
def zVu (a:ac)(b c:Int)(e:znQ a b c=true):∃N,zN6 N a b c=some [aB<|zfT a b c]:=by refine⟨0,?_⟩;unfold zN6 zfT zcs oN;cases d:zbT a;{simp only [zei,zeg,d,cT,cF]};{simp only [zei,zeg,d,cT,zM,zQY,zNL d,win7];cases i0 b (ln a.aa)<;>rfl}
def zPH:vU 182 zFv:=kF3 zyi zD zB zu (zy []) zVu
def z5K:zbf:=[(331,zCu),(182,zFv)]++zXK
def zRD:zN z5K:=zi zMo (zi zPH zyi)
def zds (k:ax)(p:Int):Bool:=bif i0 p (ln k.aw) then i0 p (ln k.au) else false
def zbW (k:ax)(p:Int):ax:=bif zds k p then ⟨up k.aw p false,up k.au p C0⟩ else k
@[simp] def zps {k:ax}{p:Int}(h:SmK k):SmK (zbW k p):=by unfold zbW;cases zds k p;{exact h};{exact⟨by simpa using h.1,by simpa using h.2⟩}
def has_lt {p:Int}{n m:Int}(h:i0 p n=true):ilt p m=i0 p m:=by have h:=qD h;unfold ilt i0;by_cases a:p<m;{rw [qL a,qL ⟨h.1,a⟩]};{rw [qX a,qX (by omega)]}
@[simp] abbrev zdc (k:ax)(p:Int):Bool:=pc (SmK k)
@[simp] abbrev ziA (k:ax)(p:Int):Bool:=zds k p
def zCs:Run:=rF2 (dT .kept) dI λb c=>(zdc b c,[aB<|ziA b c])
def zIk (N:Nat)(a:ax)(b:Int):OA:=
 (oN (zM b 0<|wsub .i64 (ln a.aw) 1)<|cond (zk b 0<|wsub .i64 (ln a.aw) 1) (some [aB<|ilt b<|ln a.au]) oF)
def zSU (a:ax)(b:Int)(c:zdc a b=true):∃N,zIk N a b=some [aB<|ziA a b]:=by have e:=zS.1 c;refine⟨0,?_⟩;unfold zIk ziA zds oN;simp only[zM,zQY,zqp e.1,cT];cases d:i0 b (ln a.aw);{rfl};{simp only [cT,has_lt d]}
def zMe:vU 389 zCs:=kF2 zRD zD zB zu (zy []) zSU
def z5L:zbf:=[(389,zCs)]++z5K
def zGa:zN z5L:=zi zMe zRD
@[simp] abbrev zgU (k:ax)(p:Int):ax:=zbW k p
def zou:Run:=rF2 (dT .kept) dI λb c=>(zdc b c,[aT .kept<|zgU b c])
def zH0 (N:Nat)(c:ax)(b:Int):OA:=
 let a:=zdK c; (oN (zgo c)<|oN (zdc a b)<|cond (ziA a b) (oN (inb b<|ln a.aw)<|p0 (up a.aw b false) λd=>oN zbz<|oN (inb b<|ln a.au)<|p0 (up a.au b zW) λe=>some [aT .kept (⟨d,e⟩:ax)])<|some [aT .kept a])
def zSB (a:ax)(b:Int)(g:zdc a b=true):∃N,zH0 N a b=some [aT .kept<|zgU a b]:=by
 have d:=zS.1 g;refine⟨0,?_⟩;unfold zH0 zgU oN;conv=>zeta
 refine j0 (zbS<|(zwI _).2 d) (j0 (zbS d) ?_);unfold zbW;cases c:zds a b;{simp only [ziA,zdK,c,cF]};{simp only [ziA,zdK,c,cT];unfold zds at c;obtain⟨e,f⟩:=zc1.1 c;simp only[zSe,e,f,cT,p0,zbz]}
def zLU:vU 334 zou:=kF2 zGa zD zB zu (zy []) zSB
def zHL (N:Nat)(b:ax)(a:Int):OA:=
 let c:=zgf b; (oN (zhv b)<|oN (zb0 a<|ln b.aw)<|cond (zfj a<|ln b.aw) (oN (zb0 a<|ln b.au)<|cond (zfj a<|ln b.au) (oN (inb a<|ln c.aw)<|p0 (up c.aw a false) λd=>oN zbz<|oN (inb a<|ln c.au)<|p0 (up c.au a zW) λe=>some [aT .kept (⟨d,e⟩:ax)])<|some [aT .kept c])<|some [aT .kept c])
def zSn (a:ax)(b:Int)(c:zdc a b=true):∃N,zHL N a b=some [aT .kept<|zgU a b]:=by
 have d:=zS.1 c;refine⟨0,?_⟩;unfold zHL zgU oN;conv=>zeta
 refine j0 (zbS d) (j0 rfl ?_);unfold zbW zds;simp only[zfj,zb0,zgf,zSe,p0,zbz,cT];cases i0 b (ln a.aw);{rfl};{cases i0 b (ln a.au)<;>rfl}
def zLC:vU 305 zou:=kF2 zGa zD zB zu (zy []) zSn
def z5M:zbf:=[(334,zou),(305,zou)]++z5L
def ztm:zN z5M:=zi zLU (zi zLC zGa)
def zeN (k:ax)(l:LI):ax:=l.foldl zbW k
def zXd:∀(l:LI) {k:ax},SmK k->SmK (zeN k l)
 |[],_,h=>h
 |p::l,k,h=>zXd l (zps (p:=p) h)
def zys {b:Type}(K:List Bool×List k0->Option b):∀(l:LI) (i:Nat) (k:ax),SmK k->
 goL (λ_ x (t:List Bool×List k0) a=>bif pc (SmK ⟨t.1,t.2⟩) then a ((zbW ⟨t.1,t.2⟩ x).aw,(zbW ⟨t.1,t.2⟩ x).au) else none) K l i (k.aw,k.au)=K ((zeN k l).aw,(zeN k l).au)
 |[],_,_,_=>rfl
 |x::l,i,k,h=>by have e:pc (SmK ⟨k.aw,k.au⟩)=true:=zbS h;simp only[goL,e,cT];exact zys K l (i+1) (zbW k x) (zps h)
def zCP (l:List k0)(p:Int):LI:=idxs (λ(s:k0)=>ieq s.af p) l 0
def zjx (k:ax)(l:List k0)(p:Int):ax:=zeN k (zCP l p)
def z4B {k:ax}(l:List k0)(p:Int)(h:SmK k):SmK (zjx k l p):=zXd _ h
@[simp] abbrev zho (k:ax)(l:List k0)(p:Int):Bool:=pc (SmK k/\l.length<=1048576)
@[simp] abbrev zlg (k:ax)(l:List k0)(p:Int):ax:=zjx k l p
def zjK:Run:=rF3 (dT .kept) (dS .slot) dI λb c d=>(zho b c d,[aT .kept<|zlg b c d])
def zwC (N:Nat)(c:ax)(e:lS)(f:Int):OA:=
 (oN (zgo c)<|oN (zoZ e f)<|r0 (σ:=(Int×LI×lB×lS×lB×lS×Unit)) N (λg a=>let d:=ix a.2.1 a.1 0;let b:=(⟨a.2.2.1,a.2.2.2.1⟩:ax); (cond (ilt a.1<|ln a.2.1) (oN (inb a.1<|ln a.2.1)<|oN (zdc b d)<|g (zK .i64 a.1 1,a.2.1,(zgU b d).aw,(zgU b d).au,a.2.2.2.2.1,a.2.2.2.2.2.1,()))<|some [aT .kept b])) (0,zgb e f,(zdK c).aw,(zdK c).au,[],[],()))
def zHE:=zy [(445,0,{n:=27,tm:=[(3,.lp 0 0),(6,.lp 1 0),(7,.sl 0 []),(8,ti)],lo:=[(0,[.sl 1 [],.sl 2 []]),(1,[.sl 3 [],.sl 4 []])],ro:=[(0,.int,true),(1,.bool,true),(2,.slot,true),(3,.bool,true),(4,.slot,true)]})]
def zG2 (b:ax)(a:List k0)(c:Int)(j:zho b a c=true):∃N,zwC N b a c=some [aT .kept<|zlg b a c]:=by
 obtain⟨h,f⟩:=zS.1 j;have g:(zgb a c).length<=big:=qU (zyB _ a 0) (zcY f).1;refine zcd λN e=>?_;unfold zwC oN;conv=>zeta
 refine j0 (zbS<|(zwI _).2 h) (j0 (zbS (by omega)) ?_);refine(zbg (zgb a c) (λi (t:lB×lS)=>((i:Int),zgb a c,t.1,t.2,[],[],())) _ (λ_ (x:Int) (t:List Bool×List k0) k=>bif pc (SmK ⟨t.1,t.2⟩) then k ((zbW ⟨t.1,t.2⟩ x).aw,(zbW ⟨t.1,t.2⟩ x).au) else none) (λ(t:lB×lS)=>some [.agg<|Ty.cells .kept (⟨t.1,t.2⟩:ax)]) (λi d t rec=>?_) (λt rec=>?_) _ ((zdK b).aw,(zdK b).au)<|e g).trans ?_;{simp only [zbx d,zY d,zbi d,zV d g,cT]};{simp only [zbq,cF]};exact zys _ _ 0 b h
def zBD:vU 445 zjK:=kF3 ztm zD zB zu zHE zG2
def zwx (N:Nat)(c:ax)(d:lS)(e:Int):OA:=
 (oN (zhv c)<|oN (zoZ d e)<|r0 (σ:=(Int×Int×LI×lB×lS×lB×lS×Unit)) N (λg a=>let f:=ix a.2.2.1 a.2.1 0;let b:=(⟨a.2.2.2.2.2.1,a.2.2.2.2.2.2.1⟩:ax); (cond (ilt a.2.1 a.1) (oN (inb a.2.1<|ln a.2.2.1)<|oN (zdc b f)<|g (a.1,zK .i64 a.2.1 1,a.2.2.1,a.2.2.2.1,a.2.2.2.2.1,(zgU b f).aw,(zgU b f).au,()))<|some [aT .kept b])) (ln<|zgb d e,0,zgb d e,[],[],(zgf c).aw,(zgf c).au,()))
def zHC:=zy [(430,0,{n:=25,tm:=[(6,.lp 0 0),(7,.lp 1 0),(14,.sl 0 []),(15,ti),(16,ti)],lo:=[(0,[.sl 1 [],.sl 2 []]),(1,[.sl 3 [],.sl 4 []])],ro:=[(0,.int,true),(1,.bool,true),(2,.slot,true),(3,.bool,true),(4,.slot,true)]})]
def zGX (c:ax)(a:List k0)(b:Int)(j:zho c a b=true):∃N,zwx N c a b=some [aT .kept<|zlg c a b]:=by
 obtain⟨h,f⟩:=zS.1 j;have g:(zgb a b).length<=big:=qU (zyB _ a 0) (zcY f).1;refine zcd λN e=>?_;unfold zwx oN;conv=>zeta
 refine j0 (zbS h) (j0 (zbS (by omega)) ?_);refine(zbg (zgb a b) (λi (t:lB×lS)=>(ln<|zgb a b,(i:Int),zgb a b,[],[],t.1,t.2,())) _ (λ_ (x:Int) (t:List Bool×List k0) k=>bif pc (SmK ⟨t.1,t.2⟩) then k ((zbW ⟨t.1,t.2⟩ x).aw,(zbW ⟨t.1,t.2⟩ x).au) else none) (λ(t:lB×lS)=>some [.agg<|Ty.cells .kept (⟨t.1,t.2⟩:ax)]) (λi d t rec=>?_) (λt rec=>?_) _ ((zgf c).aw,(zgf c).au)<|e g).trans ?_;{simp only [zbx d,zY d,zbi d,zV d g,cT]};{simp only [zbq,cF]};exact zys _ _ 0 c h
def zBA:vU 430 zjK:=kF3 ztm zD zB zu zHC zGX
def flushed (l:List aq)(p:Int):List aq:=l.filter λe=>!ieq e.ac p
def zEZ (l:List aq)(p:Int):(flushed l p).length<=l.length:=uK _ _
def zob {b e:Type}(p:b->Bool)(K:List b->Option e):∀(l:List b) (i:Nat) (a:List b),a.length+l.length<=2147483648->
 goL (λ_ x a d=>bif p x then (cond (few<|ln<|ap a [x]) (d<|ap a [x]) none) else d a) K l i a=K (a++l.filter p)
 |[],i,a,_=>by simp[goL]
 |x::l,i,a,h=>by simp only[qY]at h;simp only[goL];cases c:p x;{rw [cF,zob p K l (i+1) a (by omega),List.filter_cons_of_neg (by simp[c])]};{rw [cT,zgZ (by simp[ap];omega),cT,zob p K l (i+1) _ (by simp[ap];omega),List.filter_cons_of_pos c];simp[ap]}
@[simp] abbrev zd6 (l:List aq)(p:Int):Bool:=pc (l.length<=1048576)
@[simp] abbrev zgi (l:List aq)(p:Int):List aq:=flushed l p
def zkO:Run:=rF2 (dS .entry) dI λb c=>(zd6 b c,[aS .entry<|zgi b c])
def zzn (N:Nat)(e:lE)(f:Int):OA:=
 (r0 (σ:=(Int×Int×lE×lE×Unit)) N (λd a=>let b:=a.2.2.1;let c:=ix b a.2.1 zdl; (cond (ilt a.2.1<|ln b) (oN (inb a.2.1<|ln b)<|cond (ine c.ac a.1) (oN (inb a.2.1<|ln b)<|oN (few<|ln<|ap a.2.2.2.1 [c])<|d (a.1,zK .i64 a.2.1 1,b,ap a.2.2.2.1 [c],()))<|d (a.1,zK .i64 a.2.1 1,b,a.2.2.2.1,()))<|some [aS .entry a.2.2.2.1])) (f,0,e,[],()))
def zK4:=zy [(446,0,{n:=29,tm:=[(0,.sl 0 []),(1,ti),(5,.sl 1 []),(6,ti)],lo:=[],ro:=[(0,.entry,false),(1,.entry,true)]})]
def zJX (a:List aq)(b:Int)(h:zd6 a b=true):∃N,zzn N a b=some [aS .entry<|zgi a b]:=by
 have j:=zS.1 h;have f:=zcY j;refine zcd λN d=>?_;unfold zzn oN;conv=>zeta
 refine(zbg a (λi (t:lE)=>(b,(i:Int),a,t,())) _ (λ_ (x:aq) (t:List aq) g=>bif !ieq x.ac b then (cond (few<|ln<|ap t [x]) (g<|ap t [x]) none) else g t) (λ(t:lE)=>some [.one<|.s .entry t]) (λi c t rec=>?_) (λt rec=>?_) _ ([])<|d f.1).trans ?_;{simp only [zbx c,zY c,zbi c,zV c f.1,cT];rfl};{simp only [zbq,cF]};exact zob (λe=>!ieq e.ac b) _ a 0 [] (by simpa using f.2)
def zDE:vU 446 zkO:=kF2 ztm zD zB zu zK4 zJX
def zzh (N:Nat)(d:lE)(f:Int):OA:=
 (r0 (σ:=(Int×Int×Int×lE×lE×Unit)) N (λe a=>let b:=a.2.2.2.2.1;let c:=ix b a.2.1 zdl; (cond (ilt a.2.1 a.1) (oN (inb a.2.1<|ln b)<|cond (nB<|ieq c.ac a.2.2.1) (oN (few<|ln<|ap a.2.2.2.1 [c])<|e (a.1,zK .i64 a.2.1 1,a.2.2.1,ap a.2.2.2.1 [c],b,()))<|e (a.1,zK .i64 a.2.1 1,a.2.2.1,a.2.2.2.1,b,()))<|some [aS .entry a.2.2.2.1])) (ln d,0,f,[],d,()))
def zK2:=zy [(418,0,{n:=25,tm:=[(1,.fn 467 [0]),(5,.sl 0 []),(9,.sl 1 []),(10,ti),(11,ti)],lo:=[(0,[ti])],ro:=[(0,.entry,true),(1,.entry,false)]})]
def zJP (a:List aq)(b:Int)(h:zd6 a b=true):∃N,zzh N a b=some [aS .entry<|zgi a b]:=by
 have j:=zS.1 h;have f:=zcY j;refine zcd λN d=>?_;unfold zzh oN nB;conv=>zeta
 refine(zbg a (λi (t:lE)=>(ln a,(i:Int),b,t,a,())) _ (λ_ (x:aq) (t:List aq) g=>bif !ieq x.ac b then (cond (few<|ln<|ap t [x]) (g<|ap t [x]) none) else g t) (λ(t:lE)=>some [.one<|.s .entry t]) (λi c t rec=>?_) (λt rec=>?_) _ ([])<|d f.1).trans ?_;{simp only [zbx c,zY c,zbi c,zV c f.1,cT];cases ieq a[i].ac b<;>rfl};{simp only [zbq,cF]};exact zob (λe=>!ieq e.ac b) _ a 0 [] (by simpa using f.2)
def zDw:vU 431 zkO:=kF2 ztm zD zB zu zK2 zJP
def zXL:zbf:=[(445,zjK),(430,zjK),(446,zkO),(431,zkO)]++z5M
def zGb:zN zXL:=zi zBD (zi zBA<|zi zDE<|zi zDw ztm)
def zlw (b:List ah)(p:Int):Nat->List ax->List ax
 | 0,a=>a
 |n+1,a=>up (zlw b p n a) (n:Int) (zjx (ix (zlw b p n a) (n:Int) zdi) (ix b (n:Int) zI).ay p)
def zqm (b:List ah)(p:Int):∀(n:Nat) (a:List ax),(zlw b p n a).length=a.length
 | 0,_=>rfl
 |n+1,a=>by simp only[zlw,zg1];exact zqm b p n a
def zvD (b:List ah)(p:Int):∀(n:Nat) (a:List ax),n<=a.length->zA8 a->zA8 (zlw b p n a)
 | 0,_,_,h=>h
 |n+1,a,e,h=>by have d:=zvD b p n a (by omega) h;have c:n<(zlw b p n a).length:=(by rw[zqm];omega);exact zxN d (z4B _ _ (by rw[zbi c];exact d.2 _ (jB c)))
def zkI (x:Mon)(p:Int)(n:Nat):Mon:={x with ai:=zlw x.ad p n x.ai}
def z1W {x:Mon}{p:Int}{n:Nat}(a:n<=x.ai.length)(h:zfZ x):zfZ (zkI x p n):=⟨h.1,h.2.1,h.2.2.1,h.2.2.2.1,h.2.2.2.2.1,zvD _ _ _ _ a h.2.2.2.2.2⟩
def zcc (h:ac)(m p:Int)(s:k0):ac :=
 bif ine (ix (ix h.aa m zh).ae p zQ).af (-1)
 then ⟨h.ag,up h.aa m {zkI (ix h.aa m zh) p (ix h.aa m zh).ai.length with ae:=up (ix h.aa m zh).ae p s},flushed h.am (ix (ix h.aa m zh).ae p zQ).af,flushed h.ak (ix (ix h.aa m zh).ae p zQ).af⟩
 else ⟨h.ag,up h.aa m {zkI (ix h.aa m zh) p (ix h.aa m zh).ai.length with ae:=up (ix h.aa m zh).ae p s},h.am,h.ak⟩
def z8X (h:ac)(m p:Int):Prop:=i0 m (ln h.aa)=true/\i0 p (ln (ix h.aa m zh).ae)=true/\(ix h.aa m zh).ai.length<=(ix h.aa m zh).ad.length
@[simp] abbrev zfr (h:ac)(m p:Int)(s:k0):Bool:=pc (zcv h/\z8X h m p)
@[simp] abbrev zhf (h:ac)(m p:Int)(s:k0):ac:=zcc h m p s
def zr8:LW
 |[.agg [.s (.sl .int) b,.s .mon c,.s .entry d,.s .entry e],.one<|.i .i64 f,.one<|.i .i64 g,.agg [.i .i64 h,.i .i64 j]]=>some (zfr (⟨b,c,d,e⟩:ac) f g (⟨h,j⟩:k0),[aH<|zhf (⟨b,c,d,e⟩:ac) f g (⟨h,j⟩:k0)])
 |_=>none
def zvP (N:Nat)(p:ac)(g z:Int)(B:k0):OA:=
 let v:=ix p.aa g zh; (oN (inb g<|ln p.aa)<|oN (inb z<|ln v.ae)<|r0 (σ:=(Int×Int×Int×Int×Int×Int×Int×Int×Int×Int×Int×Int×Int×Int×Int×lM×lN×lE×lE×lM×lN×lE×lE×Unit)) N (λD a=>let d:=a.2.2.1;let m:=a.2.2.2.2.2.2.2.2.2.2.2.1;let l:=a.2.2.2.2.2.2.2.2.2.2.2.2.1;let k:=a.2.2.2.2.2.2.2.2.2.2.2.2.2.2.1;let j:=a.2.2.2.2.2.2.2.2.2.2.2.2.2.2.2.1;let f:=a.2.2.2.2.2.2.2.1;let e:=a.2.2.2.2.2.2.2.2.1;let c:=a.2.2.2.1;let w:=a.2.2.2.2.2.2.2.2.2.2.1;let y:=a.2.2.2.2.2.2.2.2.2.2.2.2.2.2.2.2.2.1;let x:=a.2.2.2.2.2.2.2.2.2.2.2.2.2.2.2.2.2.2.1;let n:=a.2.2.2.2.2.2.1;let r:=a.2.2.2.2.2.2.2.2.2.1;let i:=a.2.2.2.2.2.2.2.2.2.2.2.2.2.1;let q:=a.2.2.2.2.2.2.2.2.2.2.2.2.2.2.2.2.1;let u:=(ix q r zh).ad;let t:=(ix u c zI).ay;let h:=ix q n zh;let s:=(ix q i zh).ai;let C:=up q n ({h with ae:=(up h.ae a.2.1 (⟨a.2.2.2.2.1,a.2.2.2.2.2.1⟩:k0))}:Mon); (cond (ilt c<|ln s) (oN (inb c<|ln s)<|oN (inb c<|ln u)<|oN (zho (ix s c zdi) t a.2.1)<|oN (inb c<|ln s)<|p0 (up q i ({ (ix q i zh) with ai:=(up s c<|zlg (ix s c zdi) t a.2.1)}:Mon)) λb=>D (a.1,a.2.1,d,zK .i64 c 1,a.2.2.2.2.1,a.2.2.2.2.2.1,n,f,e,r,w,m,l,i,k,j,b,y,x,a.2.2.2.2.2.2.2.2.2.2.2.2.2.2.2.2.2.2.2.1,a.2.2.2.2.2.2.2.2.2.2.2.2.2.2.2.2.2.2.2.2.1,a.2.2.2.2.2.2.2.2.2.2.2.2.2.2.2.2.2.2.2.2.2.1,a.2.2.2.2.2.2.2.2.2.2.2.2.2.2.2.2.2.2.2.2.2.2.1,()))<|cond (ine d<|-1) (oN (zd6 y d)<|oN (zd6 x d)<|oN (inb a.2.1<|ln h.ae)<|p0 C λb=>oN (inb a.1<|ln b)<|oN (cond (cond (cond (cond (cond (cond (ieq i a.1) true false) (cond (ieq w a.1) true false) false) (cond (ieq r a.1) true false) false) (cond (ieq e a.1) true false) false) (cond (ieq f a.1) true false) false) (cond (ieq n a.1) true false) false)<|p0 (up b a.1 ({ (ix b n zh) with Out:=(ix b f zh).Out,av:=(ix b e zh).av,ad:=(ix b r zh).ad,Outs:=(ix b w zh).Outs,an:=m,ar:=l,ai:=(ix b i zh).ai,Own:=k}:Mon)) λA=>some [aH (⟨j,A,zgi y d,zgi x d⟩:ac)])<|oN (inb a.2.1<|ln h.ae)<|p0 C λb=>oN (inb a.1<|ln b)<|oN (cond (cond (cond (cond (cond (cond (ieq i a.1) true false) (cond (ieq w a.1) true false) false) (cond (ieq r a.1) true false) false) (cond (ieq e a.1) true false) false) (cond (ieq f a.1) true false) false) (cond (ieq n a.1) true false) false)<|p0 (up b a.1 ({ (ix b n zh) with Out:=(ix b f zh).Out,av:=(ix b e zh).av,ad:=(ix b r zh).ad,Outs:=(ix b w zh).Outs,an:=m,ar:=l,ai:=(ix b i zh).ai,Own:=k}:Mon)) λA=>some [aH (⟨j,A,y,x⟩:ac)])) (g,z,(ix v.ae z zQ).af,0,B.af,B.aj,g,g,g,g,g,v.an,v.ar,g,v.Own,p.ag,p.aa,p.am,p.ak,[],[],[],[],()))
def zQF:=zy [(362,0,{n:=70,tm:=[(1,ti),(2,ti),(4,.lp 0 0),(7,.lp 1 0),(8,.lp 2 0),(9,.lp 3 0),(10,ti),(11,ti)],lo:=[(0,[.sl 0 [],.sl 1 [],.sl 2 [],.sl 3 []]),(1,[ti,ti]),(2,[.sl 4 [],.sl 5 [],.sl 6 [],.sl 7 []]),(3,[.sl 1 [0],.sl 1 [1],.sl 1 [2],.sl 1 [3],.sl 1 [4],ti,ti,.sl 1 [7],ti])],ro:=[(0,.sl .int,true),(1,.mon,true),(2,.entry,true),(3,.entry,true),(4,.sl .int,true),(5,.mon,true),(6,.entry,true),(7,.entry,true)]})]
def zTb (N:Nat)(a:ac)(b c:Int)(d:k0):zC3 (cQ zXL zoh zHg zNp) zQF N 12 362 [true,true,true,true,false,false,false,false] 1 1 [[0],[1],[2],[4],[7]] .mon [aH a,aI b,aI c,aT .slot d]=zvP N a b c d:=by kernel_rfl
def zQg (a:ac)(f b:Int)(d:k0)(D:zbY big [aH a,aI f,aI b,aT .slot d])(y:zfr a f b d=true):∃N,zvP N a f b d=some [aH<|zhf a f b d]:=by
 obtain⟨B,g,s,C⟩:=zS.1 y;have l:=(zbd a).1 B;have r:zfZ (ix a.aa f zh):=l.2.1.2 _ (zbD g _);obtain⟨k,rfl,q⟩:=zdY (n:=a.aa.length) g;have x:=(zcY r.2.2.2.2.2.1).1;refine zcd λN p=>?_;unfold zvP oN;conv=>zeta
 refine j0 g (j0 s ?_);refine zpR (ix a.aa (k:Int) zh).ai.length (λi (t:List Mon)=>((k:Int),b,(ix (ix a.aa (k:Int) zh).ae b zQ).af,(i:Int),d.af,d.aj,(k:Int),(k:Int),(k:Int),(k:Int),(k:Int),(ix a.aa (k:Int) zh).an,(ix a.aa (k:Int) zh).ar,(k:Int),(ix a.aa (k:Int) zh).Own,a.ag,t,a.am,a.ak,[],[],[],[],())) _
  (λi t=>t=up a.aa (k:Int) (zkI (ix a.aa (k:Int) zh) b i)) (λ_ _=>some [AV.agg<|zbo<|zcc a (k:Int) b d]) (λi t rec u m A=>?_) (λt rec m=>?_) _ 0 a.aa ?_ (jU _) ?_
 .subst m;have c:i<(zlw (ix a.aa (k:Int) zh).ad b i (ix a.aa (k:Int) zh).ai).length:=(by rw[zqm];exact u);have e:i<(ix a.aa (k:Int) zh).ad.length:=by omega
  have z:zho (ix (zlw (ix a.aa (k:Int) zh).ad b i (ix a.aa (k:Int) zh).ai) (i:Int) zdi) (ix (ix a.aa (k:Int) zh).ad (i:Int) zI).ay b=true :=
   zbS ⟨by rw[zbi c];exact(zvD _ _ _ _ (by omega) r.2.2.2.2.2).2 _ (jB c),by rw[zbi e];exact(r.2.2.2.1.2 _<|jB e).2.2.1⟩
  simp only[zd8 q,zvF,zkI,zbx c,zY c,zY e,z,cT,p0,zV u x];exact A _ rfl
 {subst m;simp only[zd8 q,zvF,zg1,zkI,ln,zqm,ztF,show ilt (((ix a.aa (k:Int) zh).ai.length:Nat):Int) (((ix a.aa (k:Int) zh).ai.length:Nat):Int)=false from qX (by omega),cT,cF,p0];have h:inb (k:Int) ((a.aa.length:Nat):Int)=true:=g;have j:inb b (((ix a.aa (k:Int) zh).ae.length:Nat):Int)=true:=s;have v:zd6 a.am (ix (ix a.aa (k:Int) zh).ae b zQ).af=true:=zbS l.2.2.1;have w:zd6 a.ak (ix (ix a.aa (k:Int) zh).ae b zQ).af=true:=zbS l.2.2.2;simp only[h,j,v,w,cT];unfold zcc;cases ine (ix (ix a.aa (k:Int) zh).ae b zQ).af (-1)<;>rfl};{exact(zNG q _).symm};{exact p (by omega)}
def zJC:zdT Tryz.prog 362 [true,true,true,true,false,false,false,false] (some (1,1,[[0],[1],[2],[4],[7]])) zr8:=by refine zlG (kt:=.mon) (zf3 zGb zD zB zu) (zhJ (by kernel_rfl)) (by kernel_rfl) ?_;intro a g f e h;have c:=zhq e;unfold zr8 at h;split at h;{obtain⟨d,rfl⟩:=zef h;obtain⟨N,b⟩:=zQg _ _ _ _ (by exact c) d;exact⟨⟨_,rfl⟩,rfl,_,N,12,(zTb N _ _ _ _ ).trans b⟩};{cases h}
def zUg:zfu:=[(362,[true,true,true,true,false,false,false,false],some (1,1,[[0],[1],[2],[4],[7]]),zr8)]++zNp
def zeI:zen zUg:=zny zu (by
 intro x a;simp only[qG,qO,or_false]at a;rcases a with rfl
 .exact zJC)
def zUI (x:Mon)(p:Int):Mon:={x with av:=up x.av p false}
def znV (h:ac)(m p:Int):ac:={h with aa:=up h.aa m (zUI (ix h.aa m zh) p)}
def zoc (h:ac)(m p:Int):ac:=bif zcs h m p then (cond (zcx (ix (ix h.aa m zh).ae p zQ) C0) (znV h m p)<|zcc (znV h m p) m p ⟨(ix (ix h.aa m zh).ae p zQ).af,1⟩) else h
def zyz:∀(l:List Mon) (u:List Bool),zht l u=true->∀x∈l,zd1 x=true
 |[],_,_,x,a=>by cases a
 |m::l,u,h,x,a=>by
  simp only[zht]at h;cases b:zd1 m;{rw [b]at h;cases h}
  .rw [b]at h;simp only[cT]at h;cases c:zgJ m.ae u with
   |none=>rw[c]at h;cases h
   |some d =>rw[c]at h;rcases qG.1 a with rfl|a;{exact b};{exact zyz l d h x a}
structure PageAt (h:ac) (m p:Int):Prop where
 hm:i0 m (ln h.aa)=true
 hp:i0 p 8=true
 ok:zd1 (ix h.aa m zh)=true
 ho:(ix h.aa m zh).ae.length=8
 hd:(ix h.aa m zh).av.length=8
 ht:(ix h.aa m zh).ai.length=(ix h.aa m zh).ad.length
 hs:zcx (ix (ix h.aa m zh).ae p zQ) C0=ieq (ix (ix h.aa m zh).ae p zQ).af (-1)
def zO7 {s:k0}{n:Int}(h:zdO s n=true):zcx s C0=ieq s.af (-1):=by unfold zdO at h;cases a:zcx s C0;{rw [a]at h;cases d:ieq s.af (-1);{rfl};{have e:s.af = -1:=qD d;cases b:igt n 0;{rw [b]at h;cases h};{cases c:zk s.af 0 (wsub .i64 n 1);{rw [b,c]at h;cases h};{have:=(zfO.1 c).1;omega}}}};{unfold zcx at a;rw[qE]at a;exact a.1.symm}
def zKf {h:ac}{m p:Int}(d:zcs h m p=true):PageAt h m p:=by unfold zcs at d;simp only[zc1]at d;obtain⟨c,f,g⟩:=d;unfold zbT at c;simp only[zc1]at c;have b:=zyz _ _ c.2.2.2.2 _ (zbD f zh);have a:=b;unfold zd1 at a;simp only[zc1]at a;have i:(ix h.aa m zh).ae.length=8:=(by have:=znT a.2.2.1;simp only[ln] at this;omega);refine⟨f,g,b,i,?_,?_,?_⟩;{have:ln (ix h.aa m zh).av=8:=qD a.2.2.2.2.1;simp only[ln] at this;omega};{have:ln (ix h.aa m zh).ai=ln (ix h.aa m zh).ad:=qD a.2.1;simp only[ln] at this;omega};{have e:=a.2.2.1;unfold zcT at e;simp only[zc1]at e;have j:i0 p (ln (ix h.aa m zh).ae)=true:=(by rw[ln,i];exact g);exact zO7 (qM.1 e.1 _<|zbD j _)}
def zT6 {x:Mon}{p:Int}(h:zfZ x):zfZ (zUI x p):=⟨h.1,h.2.1,by simpa [zUI] using h.2.2.1,h.2.2.2⟩
def zy9 {h:ac}{m p:Int}(b:i0 m (ln h.aa)=true)(a:SmH h):SmH (znV h m p):=⟨a.1,zjn a.2.1<|zT6<|a.2.1.2 _<|zbD b _,a.2.2⟩
def zFG {h:ac}{m p:Int}{s:k0}(d:i0 m (ln h.aa)=true)(a:SmH h):SmH (zcc h m p s):=by have c:=a.2.1.2 _ (zbD d zh);have e:=z1W (p:=p) (qS _) c;have b:zrf (up h.aa m {zkI (ix h.aa m zh) p (ix h.aa m zh).ai.length with ae:=up (ix h.aa m zh).ae p s}):=zjn a.2.1 ⟨by simpa using c.1,e.2⟩;unfold zcc;cases ine (ix (ix h.aa m zh).ae p zQ).af (-1);{exact⟨a.1,b,a.2.2⟩};{exact⟨a.1,b,qU (zEZ _ _) a.2.2.1,qU (zEZ _ _) a.2.2.2⟩}
def zzd {h:ac}{m p:Int}(a:i0 m (ln h.aa)=true):i0 m (ln (znV h m p).aa)=true:=by unfold znV;simpa [ln] using a
def z1S {h:ac}{m p:Int}(a:SmH h):SmH (zoc h m p):=by unfold zoc;cases b:zcs h m p;{exact a};{have P:=zKf b;cases zcx (ix (ix h.aa m zh).ae p zQ) C0;{exact zFG (zzd P.hm) (zy9 P.hm a)};{exact zy9 P.hm a}}
@[simp] abbrev zib (h:ac)(m p:Int):Bool:=pc (zcv h)
@[simp] abbrev zvn (h:ac)(m p:Int):ac:=zoc h m p
def zFq:Run:=rF3 dH dI dI λb c d=>(zib b c d,[aH<|zvn b c d,aB<|zfT b c d])
def zNU (N:Nat)(h:ac)(a b:Int):OA:=
 let c:=zo h;let g:=ix c.aa a zh; (oN (zby h)<|oN (znQ c a b)<|cond (nB<|zfT c a b) (some [aH c,aB false])<|oN (inb a<|ln c.aa)<|oN (inb b<|ln g.av)<|p0 (up c.aa a ({g with av:=(up g.av b false)}:Mon)) (λd=>let i:=(ix d a zh).ae;let f:=({c with aa:=d}:ac);let e:=ix i b zQ;let j:=({e with aj:=1}:k0); (oN (inb a<|ln d)<|oN (inb b<|ln i)<|oN zbz<|cond (cond (ieq e.af zW.af) (ieq e.aj zW.aj) false) (some [aH f,aB true])<|oN (zfr f a b j)<|some [aH<|zhf f a b j,aB true])))
def zVi (a:ac)(c b:Int)(j:zib a c b=true):∃N,zNU N a c b=some [aH<|zvn a c b,aB<|zfT a c b]:=by
 have g:=zS.1 j;have i:=(zbd a).1 g;refine⟨0,?_⟩;unfold zNU zvn zfT zoc oN nB;conv=>zeta
 refine j0 (zbS g) (j0 rfl ?_);cases f:zcs a c b;{simp only [zfT,zo,f,cF,cT]};{have P:=zKf f;obtain⟨k,rfl,d⟩:=zdY (n:=a.aa.length) P.hm;simp only[zfT,zo,f,cT,cF];have l:inb b (ln (ix a.aa (k:Int) zh).av)=true:=(by rw[ln,P.hd];exact P.hp);have h:inb b (ln (ix a.aa (k:Int) zh).ae)=true:=(by rw[ln,P.ho];exact P.hp);refine j0 P.hm (j0 l ?_);simp only[p0,zd8 d,h,cT,zbz,zW];refine j0 (zzd (p:=b) P.hm) ?_;have e:∀s:k0,zcx s C0=bif ieq s.af C0.af then ieq s.aj C0.aj else false:=λs=>(by unfold zcx;cases ieq s.af C0.af<;>rfl);rw[<- e];cases zcx (ix (ix a.aa (k:Int) zh).ae b zQ) C0;{refine zek rfl (j0 (zbS ⟨(zbd _).2 (zy9 P.hm i),zzd (p:=b) P.hm,?_,?_⟩) rfl);{simp only [zd8 d];exact h};{simp only [zd8 d];exact k9 P.ht}};{rfl}}
def zPw:vU 329 zFq:=kF3 zGb zD zB zeI (zy []) zVi
def z0f:zbf:=[(329,zFq)]++zXL
def z0g:zN z0f:=zi zPw zGb
def z0h:zbf:=z0f
def zjj:zN z0h:=z0g
def zv3 (o i t:Int):Int:=bif zhl i t then 1 else (cond (zhl o t) 2 0)
@[simp] abbrev zqV (o i t:Int):Bool:=true
@[simp] abbrev znN (o i t:Int):Int:=zv3 o i t
def zzW:Run:=rF3 dI dI dI λb c d=>(zqV b c d,[aI<|znN b c d])
def zEB (N:Nat)(b c a:Int):OA:=
 (oN (ziv c a)<|cond (zid c a) (some [aI 1])<|oN (ziv b a)<|cond (zid b a) (some [aI 2])<|some [aI 0])
def zP2 (a b c:Int)(d:zqV a b c=true):∃N,zEB N a b c=some [aI<|znN a b c]:=by refine⟨0,?_⟩;unfold zEB oN;refine j0 rfl (br (λ_=>?_) λ_=>j0 rfl (br (λ_=>?_) λ_=>?_));all_goals first|rfl|(simp only [*,znN,zv3,cT,cF]<;>rfl)|simp_all[Ty.cells,znN,zv3]
def zJf:vU 405 zzW:=kF3 zjj zD zB zeI (zy []) zP2
def ze2 (m g:Int):Int:=bif zk m 0 2 then (cond (zk g 0 1) (zK .i64 (zK .i64 1 g)<|zkJ .i64 m 2) 0) else 0
@[simp] abbrev zlj (m g:Int):Bool:=true
@[simp] abbrev zs5 (m g:Int):Int:=ze2 m g
def zFt:Run:=rF2 dI dI λb c=>(zlj b c,[aI<|zs5 b c])
def zN3 (N:Nat)(a b:Int):OA:=
 (oN (zM a 0 2)<|cond (nB<|zk a 0 2) (some [aI 0])<|oN (zM b 0 1)<|cond (nB<|zk b 0 1) (some [aI 0])<|some [aI<|zK .i64 (zK .i64 1 b)<|zkJ .i64 a 2])
def zVr (a b:Int)(c:zlj a b=true):∃N,zN3 N a b=some [aI<|zs5 a b]:=by refine⟨0,?_⟩;unfold zN3 oN nB;refine j0 rfl (brN (λ_=>?_) λ_=>j0 rfl (brN (λ_=>?_) λ_=>?_));all_goals first|rfl|(simp only [*,zs5,ze2,cT,cF]<;>rfl)|simp_all[Ty.cells,zs5,ze2]
def zPE:vU 336 zFt:=kF2 zjj zD zB zeI (zy []) zVr
def zgy (k:ax)(p:Int):Bool:=bif zds k p then ix k.aw p false else false
def zeo (k:ax)(p:Int):k0:=bif zgy k p then ix k.au p zQ else C0
@[simp] abbrev zhn (k:ax)(p:Int):k0:=zeo k p
@[simp] abbrev zi2 (k:ax)(p:Int):Bool:=zgy k p
def zCh:Run:=rF2 (dT .kept) dI λb c=>(zdc b c,[aT .slot<|zhn b c,aB<|zi2 b c])
def zWi (N:Nat)(a:ax)(b:Int):OA:=
 let c:=ix a.au b zQ; (oN (zdc a b)<|cond (nB<|ziA a b) (oN zbz<|some [.agg [.i .i64 zW.af,.i .i64 zW.aj],aB false])<|oN (inb b<|ln a.aw)<|cond (nB<|ix a.aw b false) (oN zbz<|some [.agg [.i .i64 zW.af,.i .i64 zW.aj],aB false])<|oN (inb b<|ln a.au)<|some [.agg [.i .i64 c.af,.i .i64 c.aj],aB true])
def z0S (a:ax)(b:Int)(f:zdc a b=true):∃N,zWi N a b=some [aT .slot<|zhn a b,aB<|zi2 a b]:=by
 have g:=zS.1 f;refine⟨0,?_⟩;unfold zWi zhn zi2 zeo zgy oN nB;conv=>zeta
 refine j0 (zbS g) ?_;rw[show ziA a b=zds a b from rfl];cases c:zds a b;{rfl};{unfold zds at c;obtain⟨d,e⟩:=zc1.1 c;simp only[zF d,zF e,cT];cases ix a.aw b false<;>rfl}
def zE8:vU 233 zCh:=kF2 zjj zD zB zeI (zy []) z0S
@[simp] abbrev zDb (k:ax)(p:Int):Bool:=true
def zCf:Run:=rF2 (dT .kept) dI λb c=>(zDb b c,[aT .slot<|zhn b c,aB<|zi2 b c])
def zWf (N:Nat)(a:ax)(b:Int):OA:=
 let c:=ix a.au b zQ; (oN (zb0 b<|ln a.aw)<|cond (nB<|zfj b<|ln a.aw) (oN zbz<|some [.agg [.i .i64 zW.af,.i .i64 zW.aj],aB false])<|oN (zb0 b<|ln a.au)<|cond (nB<|zfj b<|ln a.au) (oN zbz<|some [.agg [.i .i64 zW.af,.i .i64 zW.aj],aB false])<|oN (inb b<|ln a.aw)<|cond (nB<|ix a.aw b false) (oN zbz<|some [.agg [.i .i64 zW.af,.i .i64 zW.aj],aB false])<|oN (inb b<|ln a.au)<|some [.agg [.i .i64 c.af,.i .i64 c.aj],aB true])
def z0P (a:ax)(b:Int)(e:zDb a b=true):∃N,zWf N a b=some [aT .slot<|zhn a b,aB<|zi2 a b]:=by
 refine⟨0,?_⟩;unfold zWf zhn zi2 zeo zgy zds oN nB;conv=>zeta
 rw[show zfj b (ln a.aw)=i0 b (ln a.aw) from rfl,show zfj b (ln a.au)=i0 b (ln a.au) from rfl];cases c:i0 b (ln a.aw);{rfl};{cases d:i0 b (ln a.au);{rfl};{simp only [zb0,zF c,zF d,cT];cases ix a.aw b false<;>rfl}}
def zE6:vU 231 zCf:=kF2 zjj zD zB zeI (zy []) z0P
def filled (k:ax)(a b:List k0)(p:Int):ax:=bif zds k p then (cond (i0 p<|ln a) ⟨up k.aw p true,up k.au p<|zbj (ix a p zQ) b⟩ k) else k
@[simp] def zZo {k:ax}{a b:List k0}{p:Int}(h:SmK k):SmK (filled k a b p):=by unfold filled;cases zds k p;{exact h};{cases i0 p (ln a);{exact h};{exact⟨by simpa using h.1,by simpa using h.2⟩}}
@[simp] abbrev zHv (k:ax)(i o:List k0)(p:Int):Bool:=pc (SmK k)
@[simp] abbrev zKt (k:ax)(i o:List k0)(p:Int):ax:=filled k i o p
def zKr:Run:=rF4 (dT .kept) (dS .slot) (dS .slot) dI λb c d e=>(zHv b c d e,[aT .kept<|zKt b c d e])
def zQ2 (N:Nat)(d:ax)(c e:lS)(a:Int):OA:=
 let b:=zdK d; (oN (zgo d)<|oN (zdc b a)<|cond (ziA b a) (cond (ilt a<|ln c) (oN (inb a<|ln b.aw)<|p0 (up b.aw a true) λf=>oN (inb a<|ln c)<|oN (zdf (ix c a zQ) e)<|oN (inb a<|ln b.au)<|p0 (up b.au a<|zcS (ix c a zQ) e) λg=>some [aT .kept (⟨f,g⟩:ax)])<|some [aT .kept b])<|some [aT .kept b])
def zYu (b:ax)(c d:List k0)(a:Int)(j:zHv b c d a=true):∃N,zQ2 N b c d a=some [aT .kept<|zKt b c d a]:=by
 have g:=zS.1 j;refine⟨0,?_⟩;unfold zQ2 zKt filled oN;conv=>zeta
 refine j0 (zbS<|(zwI _).2 g) (j0 (zbS g) ?_);rw[show ziA (zdK b) a=zds b a from rfl];cases f:zds b a;{rfl};{unfold zds at f;obtain⟨e,h⟩:=zc1.1 f;rw[has_lt e (m:=ln c)];cases i:i0 a (ln c);{rfl};{simp only [cT,zdK,zF e,zF h,zF i,p0,zdf];rfl}}
def zR9:vU 434 zKr:=kF4 zjj zD zB zeI (zy []) zYu
def zRX {a b:Type}(p:a->Bool)(r:a->Option b)(K:Unit->Option b):∀(l:List a) (i:Nat),goL (λ_ x (_:Unit) k=>bif p x then r x else k ()) K l i ()=match l.find? p with|some x=>r x|none=>K ()
 |[],_=>rfl
 |x::l,i=>by simp only[goL];cases h:p x;{rw [List.find?_cons_of_neg (by simp[h])];exact zRX p r K l (i+1)};{rw [List.find?_cons_of_pos h];rfl}
def zC5 (b:List aq)(t p:Int):Option aq:=b.find? λe=>bif ieq e.Tag t then ieq e.af p else false
@[simp] abbrev zmZ (b:List aq)(t p:Int):Bool:=true
@[simp] abbrev zmY (b:List aq)(t p:Int):aq:=(zC5 b t p).getD ⟨0,0,0,0⟩
@[simp] abbrev zj9 (b:List aq)(t p:Int):Bool:=(zC5 b t p).isSome
def zvh:Run:=rF3 (dS .entry) dI dI λb c d=>(zmZ b c d,[aT .entry<|zmY b c d,aB<|zj9 b c d])
def zzm (N:Nat)(f:lE)(g h:Int):OA:=
 (r0 (σ:=(Int×Int×Int×Int×Int×Int×Int×lE×Unit)) N (λj a=>let f:=a.2.2.2.2;let c:=f.2.2.2.1;let d:=inb a.2.2.1<|ln c;let e:=j (a.1,a.2.1,zK .i64 a.2.2.1 1,a.2.2.2.1,f.1,f.2.1,f.2.2.1,c,());let b:=ix c a.2.2.1 zdl; (cond (ilt a.2.2.1<|ln c) (oN d<|cond (ieq b.Tag a.1) (oN d<|cond (ieq b.af a.2.1) (oN d<|some [.agg [.i .i64 b.Tag,.i .i64 b.af,.i .i64 b.ac,.i .i64 b.aj],aB true]) e) e)<|some [.agg [.i .i64 0,.i .i64 0,.i .i64 0,.i .i64 0],aB false])) (g,h,0,0,0,0,0,f,()))
def zK3:=zy [(433,0,{n:=36,tm:=[(0,.sl 0 []),(1,ti),(2,ti),(6,.lp 0 0),(8,ti)],lo:=[(0,[ti,ti,ti,ti])],ro:=[(0,.entry,false)]})]
def zJW (a:List aq)(c d:Int)(j:zbY big [aS .entry a,aI c,aI d])(l:zmZ a c d=true):∃N,zzm N a c d=some [aT .entry<|zmY a c d,aB<|zj9 a c d]:=by
 have h:=len0 j;refine zcd λN g=>?_;unfold zzm oN;conv=>zeta
 refine(zbg a (λi (t:Unit)=>(c,d,(i:Int),0,0,0,0,a,())) _ (λ_ (x:aq) (_:Unit) k=>bif (cond (ieq x.Tag c) (ieq x.af d) false) then (some [AV.agg<|Ty.cells .entry x,AV.one<|.b true]) else k ()) (λ(t:Unit)=>some [.agg [.i .i64 0,.i .i64 0,.i .i64 0,.i .i64 0],.one<|.b false]) (λi f t rec=>?_) (λt rec=>?_) _ ()<|g h).trans ?_;{simp only [zbx f,zY f,zbi f,zV f h,cT];cases ieq a[i].Tag c<;>cases ieq a[i].af d<;>rfl};{simp only [zbq,cF]};rw[zRX λe:aq=>bif ieq e.Tag c then ieq e.af d else false];unfold zmY zj9 zC5;cases a.find? (λe:aq=>bif ieq e.Tag c then ieq e.af d else false)<;>rfl
def zDD:vU 433 zvh:=hF3 zjj zD zB zeI zK3 zJW
def zB4 (t p:Int)(e:aq):Bool:=bif ine e.Tag t then true else ine e.af p
def zcA (b:List aq)(t p:Int):List aq:=b.filter (zB4 t p)
def zyn (b:List aq)(t p:Int):(zcA b t p).length<=b.length:=uK _ _
@[simp] abbrev zgT (b:List aq)(t p:Int):Bool:=pc (b.length<=1048576)
@[simp] abbrev zmB (b:List aq)(t p:Int):List aq:=zcA b t p
def zvi:Run:=rF3 (dS .entry) dI dI λb c d=>(zgT b c d,[aS .entry<|zmB b c d])
def zzo (N:Nat)(h:lE)(i j:Int):OA:=
 (r0 (σ:=(Int×Int×Int×lE×lE×Unit)) N (λf a=>let b:=a.2.2.2.1;let c:=inb a.2.2.1<|ln b;let d:=ix b a.2.2.1 zdl;let e:=ap a.2.2.2.2.1 [d];let g:=f (a.1,a.2.1,zK .i64 a.2.2.1 1,b,e,()); (cond (ilt a.2.2.1<|ln b) (oN c<|cond (ine d.Tag a.1) (oN c<|oN (few<|ln e) g)<|oN c<|cond (ine d.af a.2.1) (oN c<|oN (few<|ln e) g)<|f (a.1,a.2.1,zK .i64 a.2.2.1 1,b,a.2.2.2.2.1,()))<|some [aS .entry a.2.2.2.2.1])) (i,j,0,h,[],()))
def zK5:=zy [(335,0,{n:=40,tm:=[(0,.sl 0 []),(1,ti),(2,ti),(7,.sl 1 []),(8,ti)],lo:=[],ro:=[(0,.entry,false),(1,.entry,true)]})]
def zJY (a:List aq)(b c:Int)(h:zgT a b c=true):∃N,zzo N a b c=some [aS .entry<|zmB a b c]:=by
 have j:=zS.1 h;have f:=zcY j;refine zcd λN e=>?_;unfold zzo oN;conv=>zeta
 refine(zbg a (λi (t:lE)=>(b,c,(i:Int),a,t,())) _ (λ_ (x:aq) (t:List aq) g=>bif zB4 b c x then (cond (few<|ln<|ap t [x]) (g<|ap t [x]) none) else g t) (λ(t:lE)=>some [.one<|.s .entry t]) (λi d t rec=>?_) (λt rec=>?_) _ ([])<|e f.1).trans ?_;{simp only [zbx d,zY d,zbi d,zV d f.1,cT];unfold zB4;cases ine a[i].Tag b<;>cases ine a[i].af c<;>rfl};{simp only [zbq,cF]};exact zob (zB4 b c) _ a 0 [] (by simpa using f.2)
def zDF:vU 335 zvi:=kF3 zjj zD zB zeI zK5 zJY
def z5T:zbf:=[(405,zzW),(336,zFt),(233,zCh),(231,zCf),(434,zKr),(433,zvh),(335,zvi)]++z0h
def zyj:zN z5T:=zi zJf (zi zPE<|zi zE8<|zi zE6<|zi zR9<|zi zDD<|zi zDF zjj)
def zni (b:List aq)(e:aq):List aq:=bif igt (ln<|ap (zcA b e.Tag e.af) [e]) 6 then dp (ap (zcA b e.Tag e.af) [e]) (wsub .i64 (ln<|ap (zcA b e.Tag e.af) [e]) 6) else ap (zcA b e.Tag e.af) [e]
def zyS {b:List aq}(e:aq)(h:b.length<=1048576):(zni b e).length<=1048576/\(ap (zcA b e.Tag e.af) [e]).length<=1048577:=by have d:=zyn b e.Tag e.af;have c:(ap (zcA b e.Tag e.af) [e]).length<=1048577:=(by simp[ap];omega);refine⟨?_,c⟩;unfold zni;cases a:igt (ln<|ap (zcA b e.Tag e.af) [e]) 6;{have a:=jT a;simp only[ln]at a;simp only[cF];omega};{simp only [cT,dp,vQ];have a:=qD a;have:wsub .i64 (ln<|ap (zcA b e.Tag e.af) [e]) 6=ln (ap (zcA b e.Tag e.af) [e])-6:=zxT (by simp only[ln] at *;omega) (by simp only[ln] at *;omega);rw[this];simp only[ln] at *;omega}
@[simp] abbrev zli (b:List aq)(e:aq):Bool:=pc (b.length<=1048576)
@[simp] abbrev zl0 (b:List aq)(e:aq):List aq:=zni b e
def zp5:Run:=rF2 (dS .entry) (dT .entry) λb c=>(zli b c,[aS .entry<|zl0 b c])
def zAX (N:Nat)(d:lE)(b:aq):OA:=
 let a:=ap (zmB d b.Tag b.af) [b];let c:=wsub .i64 (ln a) 6; (oN (zgT d b.Tag b.af)<|oN (few<|ln a)<|cond (igt (ln a) 6) (oN (inr c (ln a)<|ln a)<|oN (few<|ln<|ap []<|dp a c)<|some [aS .entry<|ap []<|dp a c])<|some [aS .entry a])
def zMR (b:List aq)(a:aq)(h:zli b a=true):∃N,zAX N b a=some [aS .entry<|zl0 b a]:=by
 have f:=zS.1 h;obtain⟨c,g⟩:=zyS a f;refine⟨0,?_⟩;unfold zAX oN;conv=>zeta
 refine j0 (zbS f) (j0 (zgZ<|qU g (by decide:1048577<=2147483648)) ?_);unfold zl0 zni at *;show _=some [AV.one<|.s .entry<|cond (igt (ln<|ap (zcA b a.Tag a.af) [a]) 6) (dp (ap (zcA b a.Tag a.af) [a])<|wsub .i64 (ln<|ap (zcA b a.Tag a.af) [a]) 6)<|ap (zcA b a.Tag a.af) [a]];cases d:igt (ln<|ap (zcA b a.Tag a.af) [a]) 6;{rfl};{rw [d]at c;simp only[cT]at c;have d:=qD d;have e:wsub .i64 (ln<|ap (zcA b a.Tag a.af) [a]) 6=ln (ap (zcA b a.Tag a.af) [a])-6:=zxT (by simp only[ln] at *;omega) (by simp only[ln] at *;omega);refine j0 rfl (j0 (qL ?_)<|j0 ?_ ?_);{show 0<=wsub .i64 (ln<|ap (zcA b a.Tag a.af) [a]) 6/\wsub .i64 (ln<|ap (zcA b a.Tag a.af) [a]) 6<=ln (ap (zcA b a.Tag a.af) [a])/\ln (ap (zcA b a.Tag a.af) [a])<=ln (ap (zcA b a.Tag a.af) [a]);rw[e];simp only[ln] at *;omega};{exact zwP c};{rw [ze9];rfl}}
def ztA:vU 384 zp5:=kF2 zyj zD zB zeI (zy []) zMR
def zoa (l:List k0)(p:Int):Option Nat:=l.findIdx? λs=>ieq s.af p
def zh9 (p:Int):List Mon->Nat->Int×Int
 |[],_=>(-1,-1)
 |m::l,i=>match zoa m.ae p with|some k=>((i:Int),(k:Int))|none=>zh9 p l (i+1)
def zbK (h:ac)(p:Int):Int×Int:=bif ilt p 0 then (-1,-1) else zh9 p h.aa 0
def zOD {a:Type}(p:k0->Bool)(r:Nat->Option a)(K:Unit->Option a):∀(l:List k0) (i:Nat),goL (λj x (_:Unit) k=>bif p x then r j else k ()) K l i ()=match l.findIdx? p with|some k=>r (i+k)|none=>K ()
 |[],_=>rfl
 |x::l,i=>by simp only[goL];rw[List.findIdx?_cons];cases h:p x;{simp only [cF,kF,if_false];rw[zOD p r K l<|i+1];cases l.findIdx? p with|none=>rfl|some k=>simp only[Option.map_some];congr 1;omega};{rfl}
def zLy {c:Type}(p:Int)(r:Int->Int->Option c):∀(l:List Mon) (i:Nat),goL (λi (x:Mon) (_:Unit) b=>goL (λj (y:k0) (_:Unit) a=>bif ieq y.af p then r (i:Int) (j:Int) else a ()) (λ_=>b ()) x.ae 0 ()) (λ_=>r (-1) (-1)) l i ()=r (zh9 p l i).1 (zh9 p l i).2
 |[],_=>rfl
 |m::l,i=>by simp only[goL,zh9];rw[zOD (λs=>ieq s.af p) λj=>r (i:Int) (j:Int)];unfold zoa;cases m.ae.findIdx? (λs=>ieq s.af p) with|none=>exact zLy p r l (i+1)|some k=>simp only[j4]
@[simp] abbrev zfB (h:ac)(p:Int):Bool:=true
@[simp] abbrev zdz (h:ac)(p:Int):Int:=(zbK h p).1
@[simp] abbrev zej (h:ac)(p:Int):Int:=(zbK h p).2
def ziK:Run:=rF2 dH dI λb c=>(zfB b c,[aI<|zdz b c,aI<|zej b c])
def zul (N:Nat)(f:ac)(g:Int):OA:=
 (cond (ilt g 0) (some [aI<|-1,aI<|-1])<|r0 (σ:=(Int×Int×Int×lN×Unit)) N (λi b=>let c:=b.2.2.1; (cond (ilt c b.2.1) (oN (inb c<|ln b.2.2.2.1)<|r0 (σ:=(Int×Int×Int×Int×Int×Int×Int×lN×Unit)) N (λj a=>let b:=a.2.2.2.2;let e:=b.2.2.2.1;let h:=(ix e b.1 zh).ae;let d:=b.2.2.1; (cond (ilt d b.2.1) (oN (inb d<|ln h)<|cond (ieq (ix h d zQ).af a.1) (some [aI a.2.1,aI d])<|j (a.1,a.2.1,a.2.2.1,a.2.2.2.1,b.1,b.2.1,zK .i64 d 1,e,()))<|i (a.1,a.2.2.1,zK .i64 a.2.2.2.1 1,e,()))) (b.1,c,b.2.1,c,c,ln (ix b.2.2.2.1 c zh).ae,0,b.2.2.2.1,()))<|some [aI<|-1,aI<|-1])) (g,ln f.aa,0,f.aa,()))
def zEg:=zy [(465,0,{n:=36,tm:=[(1,ti),(13,.sl 0 []),(14,ti),(15,ti)],lo:=[],ro:=[(0,.mon,false)]}),(465,2,{n:=36,tm:=[(1,ti),(6,ti),(13,.sl 0 []),(14,ti),(15,ti),(21,.sl 0 [0]),(22,ti),(23,ti)],lo:=[],ro:=[(0,.mon,false)]})]
def zDV (a:ac)(c:Int)(m:zbY big [aH a,aI c])(q:zfB a c=true):∃N,zul N a c=some [aI<|zdz a c,aI<|zej a c]:=by
 have k:CVB big (.s .mon a.aa):=(zb8 m).1 _ (by simp[AV.cvs,zbo]);have h:=k.len;refine zcd λN e=>?_;unfold zul zdz zej zbK oN;conv=>zeta
 cases p:ilt c 0;{simp only [cF];refine(zbg a.aa (λi (t:Unit)=>(c,ln a.aa,(i:Int),a.aa,())) _ (λi (x:Mon) (_:Unit) n=>goL (λj (y:k0) (_:Unit) b=>bif ieq y.af c then some [AV.one<|.i .i64 (i:Int),AV.one<|.i .i64 (j:Int)] else b ()) (λ_=>n ()) x.ae 0 ()) (λ(t:Unit)=>some [.one<|.i .i64<|-1,.one<|.i .i64<|-1]) (λi d t rec=>?_) (λt rec=>?_) _ ()<|e h).trans ?_;{simp only [zbx d,zY d,zbi d,zV d h,cT];have l:a.aa[i].ae.length<=big:=(k.inv.2 _ (jB d) (.s .slot _) (by simp[Ty.cells])).len;refine(zbg a.aa[i].ae (λj (u:Unit)=>(c,(i:Int),ln a.aa,(i:Int),(i:Int),ln a.aa[i].ae,(j:Int),a.aa,())) _ (λj (y:k0) (_:Unit) b=>bif ieq y.af c then some [AV.one<|.i .i64 (i:Int),AV.one<|.i .i64 (j:Int)] else b ()) (λ(u:Unit)=>rec (c,ln a.aa,((i+1:Nat):Int),a.aa,())) (λj g u f=>?_) (λu f=>?_) _ ()<|e l).trans ?_;{simp only [zbx g,zY g,zbi g,zV g l,cT,zY d,zbi d,zV d h]};{simp only [zbq,cF,zY d,zbi d,zV d h]};rfl};{simp only [zbq,cF]};exact zLy c (λi j=>some [AV.one<|.i .i64 i,AV.one<|.i .i64 j]) a.aa 0};{rfl}
def zAr:vU 465 ziK:=hF2 zyj zD zB zeI zEg zDV
def z0B {a c b:Type}(r:Option b):∀(l:List a) (i:Nat) (t:c),goL (λ_ _ _ _=>r) (λ_=>r) l i t=r
 |[],_,_=>rfl
 |_::_,_,_=>rfl
def zux (N:Nat)(d:ac)(f:Int):OA:=
 (r0 (σ:=(Int×Int×lM×lN×lE×lE×Unit)) N (λg b=>cond (ilt b.2.1<|ln b.2.2.2.1) (cond (ige b.1 0) (r0 (σ:=(Int×Int×Int×lM×lN×lE×lE×Unit)) N (λh a=>let b:=a.2.2.2.2;let c:=b.1;let e:=(ix c a.2.1 zh).ae; (oN (inb a.2.1<|ln c)<|cond (ilt a.2.2.1<|ln e) (oN (inb a.2.1<|ln c)<|oN (inb a.2.2.1<|ln e)<|cond (ieq (ix e a.2.2.1 zQ).af a.1) (some [aI a.2.1,aI a.2.2.1])<|h (a.1,a.2.1,zK .i64 a.2.2.1 1,a.2.2.2.1,c,b.2.1,b.2.2.1,()))<|g (a.1,zK .i64 a.2.1 1,a.2.2.2.1,c,b.2.1,b.2.2.1,()))) (b.1,b.2.1,0,b.2.2.1,b.2.2.2.1,b.2.2.2.2.1,b.2.2.2.2.2.1,()))<|some [aI<|-1,aI<|-1])<|some [aI<|-1,aI<|-1]) (f,0,d.ag,d.aa,d.am,d.ak,()))
def zEi:=zy [(443,0,{n:=44,tm:=[(1,ti),(2,.lp 0 0),(6,ti)],lo:=[(0,[.sl 0 [],.sl 1 [],.sl 2 [],.sl 3 []])],ro:=[(0,.sl .int,false),(1,.mon,false),(2,.entry,false),(3,.entry,false)]}),(443,2,{n:=44,tm:=[(1,ti),(2,.lp 0 0),(6,ti),(7,ti)],lo:=[(0,[.sl 0 [],.sl 1 [],.sl 2 [],.sl 3 []])],ro:=[(0,.sl .int,false),(1,.mon,false),(2,.entry,false),(3,.entry,false)]})]
def zD6 (a:ac)(b:Int)(p:zbY big [aH a,aI b])(r:zfB a b=true):∃N,zux N a b=some [aI<|zdz a b,aI<|zej a b]:=by
 have m:CVB big (.s .mon a.aa):=(zb8 p).1 _ (by simp[AV.cvs,zbo]);have l:=m.len;refine zcd λN e=>?_;unfold zux zdz zej zbK oN;conv=>zeta
 refine(zbg a.aa (λi (t:Unit)=>(b,(i:Int),a.ag,a.aa,a.am,a.ak,())) _ (λi (x:Mon) (_:Unit) q=>bif ige b 0 then goL (λj (y:k0) (_:Unit) c=>bif ieq y.af b then some [AV.one<|.i .i64 (i:Int),AV.one<|.i .i64 (j:Int)] else c ()) (λ_=>q ()) x.ae 0 () else some [AV.one<|.i .i64<|-1,AV.one<|.i .i64<|-1]) (λ(t:Unit)=>some [.one<|.i .i64<|-1,.one<|.i .i64<|-1]) (λi d t rec=>?_) (λt rec=>?_) _ ()<|e l).trans ?_;{simp only [zbx d,zY d,zbi d,zV d l,cT];cases h:ige b 0;{rfl};have n:a.aa[i].ae.length<=big:=(m.inv.2 _ (jB d) (.s .slot _) (by simp[Ty.cells])).len;simp only[cT];refine(zbg a.aa[i].ae (λj (_:Unit)=>(b,(i:Int),(j:Int),a.ag,a.aa,a.am,a.ak,())) _ (λj (y:k0) (_:Unit) c=>bif ieq y.af b then some [AV.one<|.i .i64 (i:Int),AV.one<|.i .i64 (j:Int)] else c ()) (λ_=>rec (b,((i+1:Nat):Int),a.ag,a.aa,a.am,a.ak,())) (λj g u f=>?_) (λu f=>?_) _ ()<|e n).trans ?_;{simp only [zbx g,zY g,zbi g,zV g n,cT,zY d,zbi d]};{simp only [zbq,cF,cT,zY d,zbi d,zV d l]};rfl};{simp only [zbq,cF]};cases h:ige b 0;{have k:ilt b 0=true:=(by have:=jT h;exact qL (by omega));rw[k];exact z0B _ _ _ _};{have k:ilt b 0=false:=(by have:=qD h;exact qX (by omega));rw[k];exact zLy b (λi j=>some [AV.one<|.i .i64 i,AV.one<|.i .i64 j]) a.aa 0}
def zAB:vU 443 ziK:=hF2 zyj zD zB zeI zEi zD6
def z5U:zbf:=[(384,zp5),(443,ziK),(465,ziK)]++z5T
def zto:zN z5U:=zi ztA (zi zAB<|zi zAr zyj)
def zcg (h:ac):LI:=zv0 (λi=>ilt (zbK h (i:Int)).1 0) h.ag.length 0
@[simp] abbrev zfG (h:ac):Bool:=pc (h.ag.length<=1048576)
@[simp] abbrev zcW (h:ac):LI:=zcg h
def zov:Run:=rF1 dH λb=>(zfG b,[aS .int<|zcW b])
def zH1 (N:Nat)(b:ac):OA:=
 (r0 (σ:=(Int×LI×lM×lN×lE×lE×Unit)) N (λc a=>let b:=a.2.2.2.2;let d:=(⟨a.2.2.1,a.2.2.2.1,b.1,b.2.1⟩:ac); (cond (ilt a.1<|ln a.2.2.1) (oN (zfB d a.1)<|cond (ilt (zdz d a.1) 0) (oN (few<|ln<|ap a.2.1 [a.1])<|c (zK .i64 a.1 1,ap a.2.1 [a.1],a.2.2.1,a.2.2.2.1,b.1,b.2.1,()))<|c (zK .i64 a.1 1,a.2.1,a.2.2.1,a.2.2.2.1,b.1,b.2.1,()))<|some [aS .int a.2.1])) (0,[],b.ag,b.aa,b.am,b.ak,()))
def zUq:=zy [(442,0,{n:=28,tm:=[(1,.lp 0 0),(3,.sl 0 []),(4,ti)],lo:=[(0,[.sl 1 [],.sl 2 [],.sl 3 [],.sl 4 []])],ro:=[(0,.int,true),(1,.sl .int,false),(2,.mon,false),(3,.entry,false),(4,.entry,false)]})]
def zSC (a:ac)(f:zfG a=true):∃N,zH1 N a=some [aS .int<|zcW a]:=by
 have g:=zS.1 f;have e:=zcY g;refine zcd λN d=>?_;unfold zH1 oN;conv=>zeta
 refine(zbg a.ag (λi (t:LI)=>((i:Int),t,a.ag,a.aa,a.am,a.ak,())) _ (λi (_:LI) (t:LI) b=>bif ilt (zbK a (i:Int)).1 0 then (cond (few<|ln<|ap t [(i:Int)]) (b<|ap t [(i:Int)]) none) else b t) (λ(t:LI)=>some [.one<|.s .int t]) (λi c t rec=>?_) (λt rec=>?_) _ ([])<|d e.1).trans ?_;{simp only [zbx c,zY c,zbi c,zV c e.1,cT]};{simp only [zbq,cF]};rw[zpO λi (t:LI) b=>bif ilt (zbK a (i:Int)).1 0 then (cond (few<|ln<|ap t [(i:Int)]) (b<|ap t [(i:Int)]) none) else b t];exact zyv (λi=>ilt (zbK a (i:Int)).1 0) _ _ 0 [] (by simpa using e.2)
def zLV:vU 442 zov:=kF1 zto zD zB zeI zUq zSC
def zHM (N:Nat)(b:ac):OA:=
 (r0 (σ:=(Int×Int×LI×lM×lN×lE×lE×Unit)) N (λd a=>let b:=a.2.2.2.2;let c:=b.2.2.1;let e:=(⟨a.2.2.2.1,b.1,b.2.1,c⟩:ac); (cond (ilt a.2.1 a.1) (oN (zfB e a.2.1)<|cond (ilt (zdz e a.2.1) 0) (oN (few<|ln<|ap a.2.2.1 [a.2.1])<|d (a.1,zK .i64 a.2.1 1,ap a.2.2.1 [a.2.1],a.2.2.2.1,b.1,b.2.1,c,()))<|d (a.1,zK .i64 a.2.1 1,a.2.2.1,a.2.2.2.1,b.1,b.2.1,c,()))<|some [aS .int a.2.2.1])) (ln b.ag,0,[],b.ag,b.aa,b.am,b.ak,()))
def zUj:=zy [(427,0,{n:=28,tm:=[(1,.lp 0 0),(3,.sl 0 []),(10,ti),(11,ti)],lo:=[(0,[.sl 1 [],.sl 2 [],.sl 3 [],.sl 4 []])],ro:=[(0,.int,true),(1,.sl .int,false),(2,.mon,false),(3,.entry,false),(4,.entry,false)]})]
def zSo (a:ac)(f:zfG a=true):∃N,zHM N a=some [aS .int<|zcW a]:=by
 have g:=zS.1 f;have e:=zcY g;refine zcd λN d=>?_;unfold zHM oN;conv=>zeta
 refine(zbg a.ag (λi (t:LI)=>(ln a.ag,(i:Int),t,a.ag,a.aa,a.am,a.ak,())) _ (λi (_:LI) (t:LI) b=>bif ilt (zbK a (i:Int)).1 0 then (cond (few<|ln<|ap t [(i:Int)]) (b<|ap t [(i:Int)]) none) else b t) (λ(t:LI)=>some [.one<|.s .int t]) (λi c t rec=>?_) (λt rec=>?_) _ ([])<|d e.1).trans ?_;{simp only [zbx c,zY c,zbi c,zV c e.1,cT]};{simp only [zbq,cF]};rw[zpO λi (t:LI) b=>bif ilt (zbK a (i:Int)).1 0 then (cond (few<|ln<|ap t [(i:Int)]) (b<|ap t [(i:Int)]) none) else b t];exact zyv (λi=>ilt (zbK a (i:Int)).1 0) _ _ 0 [] (by simpa using e.2)
def zLD:vU 427 zov:=kF1 zto zD zB zeI zUj zSo
def ziG (m:List LI)(p:Int)(c:LI):List LI:=bif i0 p (ln m) then (cond (zcw c) (up m p c) m) else m
@[simp] abbrev zfJ (m:List LI)(p:Int)(c:LI):Bool:=pc (SmM m/\c.length<=1048576)
@[simp] abbrev zeG (m:List LI)(p:Int)(c:LI):List LI:=ziG m p c
def zlV:Run:=rF3 (dS<|.sl .int) dI (dS .int) λb c d=>(zfJ b c d,[aS (.sl .int)<|zeG b c d])
def zA3 (N:Nat)(a:lM)(b:Int)(c:LI):OA:=
 (oN (zgn a)<|oN (zM b 0<|wsub .i64 (ln a) 1)<|cond (zk b 0<|wsub .i64 (ln a) 1) (oN (zdC c)<|cond (zc8 c) (oN (few<|ln<|ap [] c)<|oN (inb b<|ln<|zeP a)<|p0 (up (zeP a) b<|ap [] c) λd=>some [aS (.sl .int) d])<|some [aS (.sl .int)<|zeP a])<|some [aS (.sl .int)<|zeP a])
def zMX (b:List LI)(a:Int)(c:LI)(g:zfJ b a c=true):∃N,zA3 N b a c=some [aS (.sl .int)<|zeG b a c]:=by obtain⟨e,d⟩:=zS.1 g;refine⟨0,?_⟩;unfold zA3 zeG ziG oN;refine j0 (zbS<|(zpJ _).2 e) (j0 rfl ?_);rw[show zk a 0 (wsub .i64 (ln b) 1)=i0 a (ln b) from zqp e.1 a];cases f:i0 a (ln b);{rfl};{simp only [cT,zdC,zc8];cases h:zcw c;{rfl};{refine j0 rfl (j0 (zwP d)<|j0 (zF f) ?_);rw[ze9];rfl}}
def zGK:vU 444 zlV:=kF3 zto zD zB zeI (zy []) zMX
def zAG (N:Nat)(a:lM)(b:Int)(c:LI):OA:=
 (oN (zvZ a)<|oN (zb0 b<|ln a)<|cond (zfj b<|ln a) (oN (zdC c)<|cond (zc8 c) (oN (zfD c)<|oN (inb b<|ln<|znE a)<|p0 (up (znE a) b<|zfC c) λd=>some [aS (.sl .int) d])<|some [aS (.sl .int)<|znE a])<|some [aS (.sl .int)<|znE a])
def zMA (a:List LI)(b:Int)(c:LI)(f:zfJ a b c=true):∃N,zAG N a b c=some [aS (.sl .int)<|zeG a b c]:=by obtain⟨g,d⟩:=zS.1 f;refine⟨0,?_⟩;unfold zAG zeG ziG oN;refine j0 (zbS g) (j0 rfl ?_);rw[show zfj b (ln a)=i0 b (ln a) from rfl];cases e:i0 b (ln a);{rfl};{simp only [cT,zdC,zc8];cases h:zcw c;{rfl};{refine j0 rfl (j0 (zbS<|qU d (by decide)) (j0 (zF e) rfl))}}
def zGq:vU 429 zlV:=kF3 zto zD zB zeI (zy []) zMA
def zqy:zbf:=[(442,zov),(427,zov),(444,zlV),(429,zlV)]++z5U
def zio:zN zqy:=zi zLV (zi zLD<|zi zGK<|zi zGq zto)
end
end Go.Proofs.YtapgkefgcbapcaaGreat.E
