/- What is proved here: a part of the proof of the claim. -/
import Derived.Test.YtklhnfomjjnjjaaGreatV3
namespace Go.Proofs.YtklhnfomjjnjjaaGreat.E
open Go
set_option linter.defProp false
set_option linter.constructorNameAsVariable false
set_option linter.unusedVariables false
set_option maxRecDepth 100000
set_option linter.unusedSimpArgs false
set_option linter.unusedSectionVars false
noncomputable section
def zM (_ _ _:Int):Bool:=true
def zi (x a b:Int):Bool:=ige x a&&ile x b
def zjW:Run:=rF3 dI dI dI λb c d=>(zM b c d,[aB<|zi b c d])
def zNO (N:Nat)(a b c:Int):OA:=
 (cond (ige a b) (some [aB<|ile a c]) oF)
def zEV (a b c:Int)(d:zbV big [aI a,aI b,aI c])(e:zM a b c=true):∃N,zNO N a b c=some [aB<|zi a b c]:=by refine⟨0,?_⟩;unfold zNO zi;cases ige a b<;>rfl
def zze:vM 23 zjW:=hF3 zsq zT zA zq (zu []) zEV
def zcr (_ _:Int):Bool:=true
abbrev zj7 (i n:Int):Bool:=i0 i n
def zOK:Run:=rF2 dI dI λb c=>(zcr b c,[aB<|zj7 b c])
def zVN (N:Nat)(a b:Int):OA:=
 (cond (ige a 0) (some [aB<|ilt a b]) oF)
def z0h (a b:Int)(c:zcr a b=true):∃N,zVN N a b=some [aB<|zj7 a b]:=by refine⟨0,?_⟩;unfold zVN zj7;rw[<- has_eq];cases ige a 0<;>rfl
def zUK:vM 44 zOK:=kF2 zsq zT zA zq (zu []) z0h
def zBw {n:Nat}(c:n<=big)(i:Int):zi i 0 (wsub .i64 (n:Int) 1)=i0 i n:=by rw[zo7]at c;rw[zxx (by omega) (by omega)];unfold zi ige ile i0;by_cases a:0<=i<;>by_cases b:i<n;{rw [qK (p:=i≥0) (by omega),qK (p:=i<=(n:Int)-1) (by omega),qK (p:=0<=i/\i<(n:Int)) ⟨a,b⟩];rfl};{rw [qQ (p:=i<=(n:Int)-1) (by omega),qQ (p:=0<=i/\i<(n:Int)) (by omega)];simp};{rw [qQ (p:=i≥0) (by omega),qQ (p:=0<=i/\i<(n:Int)) (by omega)];simp};{rw [qQ (p:=i≥0) (by omega),qQ (p:=0<=i/\i<(n:Int)) (by omega)];simp}
def zgc (l:List LI):Bool:=pc (CVB sm<|.s (.sl .int) l)
abbrev zeJ (l:List LI):List LI:=l
def zzK:Run:=rF1 (dS<|.sl .int) λb=>(zgc b,[aS (.sl .int)<|zeJ b])
def zEu (N:Nat)(c:lM):OA:=
 (iter (σ:=(Int×lM×lM×Unit)) N (λd a=>let b:=ap []<|ix a.2.1 a.1 []; (cond (ilt a.1<|ln a.2.1) (oN (inb a.1<|ln a.2.1)<|oN (few<|ln b)<|oN (few<|ln<|ap a.2.2.1 [b])<|d (zO .i64 a.1 1,a.2.1,ap a.2.2.1 [b],()))<|some [aS (.sl .int) a.2.2.1])) (0,c,[],()))
def zQl:=zu [(48,0,{n:=22,tm:=[(0,.sl 0 []),(3,.sl 1 []),(4,ti)],lo:=[],ro:=[(0,.sl .int,false),(1,.sl .int,true)]})]
def zPP (b:List LI)(f:zgc b=true):∃N,zEu N b=some [aS (.sl .int)<|zeJ b]:=by
 have e:=zN.1 f;have d:=zcP e.len;refine⟨b.length+1,?_⟩;unfold zEu oN;conv=>zeta
 refine(zbo b (λi a=>((i:Int),b,a,())) _ (λ_ x a k=>bif few (ln x) then (cond (few<|ln<|ap a [x]) (k<|ap a [x]) none) else none) (λa=>some [AV.one<|.s (.sl .int) a])
  (λi c t rec=>?_) (λt rec=>?_) _ [] (jS _)).trans (zi3 (λx=>few (ln x)) (λx=>x) _ b 0 [] (λx g=>⟨zgI (zcP (e.inv.2 x g _ (qD.2 rfl)).len).2,rfl⟩) (by simpa using d.2))
 {simp only [zbx c,zbe c,zbl c,cT,zbg c d.1,zlT]};{simp only [zbp,cF]}
def zI8:vM 48 zzK:=kF1 zsq zT zA zq zQl zPP
abbrev zgd (k:ax):Bool:=pc (∀c∈Ty.cells .kept k,CVB sm c)
abbrev zdK (k:ax):ax:=k
def zzL:Run:=rF1 (dT .kept) λb=>(zgd b,[aT .kept<|zdK b])
def zEv (N:Nat)(a:ax):OA:=
 (oN (few<|ln<|ap [] a.ay)<|oN (few<|ln<|ap [] a.aA)<|some [.agg [.s .bool<|ap [] a.ay,.s .slot<|ap [] a.aA]])
def zPR (a:ax)(d:zgd a=true):∃N,zEv N a=some [aT .kept<|zdK a]:=by have h:=zN.1 d;have b:=znE (h (.s .bool a.ay) (by simp[Ty.cells]));have c:=znE (h (.s .slot a.aA) (by simp[Ty.cells]));refine⟨0,?_⟩;simp only[zEv,zlT,b,c,cT];rfl
def zJb:vM 87 zzL:=kF1 zsq zT zA zq (zu []) zPR
def zdF (g:ah):Bool:=pc (∀c∈Ty.cells .guest g,CVB sm c)
abbrev zc9 (g:ah):ah:=g
def zzM:Run:=rF1 (dT .guest) λb=>(zdF b,[aT .guest<|zc9 b])
def zEw (N:Nat)(a:ah):OA:=
 (oN (few<|ln<|ap [] a.aw)<|oN (few<|ln<|ap [] a.az)<|oN (few<|ln<|ap [] a.av)<|oN (few<|ln<|ap [] a.aC)<|some [.agg [.s .ins<|ap [] a.aw,.i .i64 a.A,.i .i64 a.Pc,.s .slot<|ap [] a.az,.s .slot<|ap [] a.av,.i .i64 a.Ctl.aq,.i .i64 a.Ctl.Post,.b a.Ctl.Open,.i .i64 a.ak,.i .i64 a.Exit.Kind,.i .i64 a.Exit.af,.b a.Exit.Write,.i .i64 a.Exit.N,.b a.aF,.s .int<|ap [] a.aC]])
def zPS (a:ah)(f:zdF a=true):∃N,zEw N a=some [aT .guest<|zc9 a]:=by have h:=zN.1 f;have b:=znE (h (.s .ins a.aw) (by simp[Ty.cells]));have c:=znE (h (.s .slot a.az) (by simp[Ty.cells]));have d:=znE (h (.s .slot a.av) (by simp[Ty.cells]));have e:=znE (h (.s .int a.aC) (by simp[Ty.cells]));refine⟨0,?_⟩;simp only[zEw,zlT,b,c,d,e,cT];rfl
def zJf:vM 134 zzM:=kF1 zsq zT zA zq (zu []) zPS
def z4a:zW:=[(23,zjW),(44,zOK),(48,zzK),(87,zzL),(134,zzM)]++z8s
def zRc:zL z4a:=zh zze (zh zUK<|zh zI8<|zh zJb<|zh zJf zsq)
def zfQ (l:List ah):Bool:=pc (CVB sm<|.s .guest l)
abbrev zgf (l:List ah):List ah:=l
def zuT:Run:=rF1 (dS .guest) λb=>(zfQ b,[aS .guest<|zgf b])
def zza (N:Nat)(c:lG):OA:=
 (iter (σ:=(Int×lG×lG×Unit)) N (λd a=>let b:=ix a.2.1 a.1 zF; (cond (ilt a.1<|ln a.2.1) (oN (inb a.1<|ln a.2.1)<|oN (zdF b)<|oN (few<|ln<|ap a.2.2.1 [zc9 b])<|d (zO .i64 a.1 1,a.2.1,ap a.2.2.1 [zc9 b],()))<|some [aS .guest a.2.2.1])) (0,c,[],()))
def zKZ:=zu [(86,0,{n:=21,tm:=[(0,.sl 0 []),(3,.sl 1 []),(4,ti)],lo:=[],ro:=[(0,.guest,false),(1,.guest,true)]})]
def zJQ (b:List ah)(f:zfQ b=true):∃N,zza N b=some [aS .guest<|zgf b]:=by
 have e:=zN.1 f;have d:=zcP e.len;refine⟨b.length+1,?_⟩;unfold zza oN;conv=>zeta
 refine(zbo b (λi a=>((i:Int),b,a,())) _ (λ_ x a k=>bif zdF x then (cond (few<|ln<|ap a [zc9 x]) (k<|ap a [zc9 x]) none) else none) (λa=>some [AV.one<|.s .guest a])
  (λi c t rec=>?_) (λt rec=>?_) _ [] (jS _)).trans (zi3 zdF zc9 _ b 0 [] (λx g=>⟨zbs<|e.inv.2 x g,rfl⟩) (by simpa using d.2))
 {simp only [zbx c,zbe c,zbl c,cT,zbg c d.1]};{simp only [zbp,cF]}
def zDD:vM 86 zuT:=kF1 zRc zT zA zq zKZ zJQ
def z4b:zW:=[(86,zuT)]++z4a
def zRd:zL z4b:=zh zDD zRc
abbrev zjq (m:Mon):Bool:=pc (∀c∈Ty.cells .mon m,CVB sm c)
abbrev zm0 (m:Mon):Mon:=m
def zB7:Run:=rF1 (dT .mon) λb=>(zjq b,[aT .mon<|zm0 b])
def zH0 (N:Nat)(b:Mon):OA:=
 (oN (few<|ln<|ap [] b.ae)<|oN (zgc b.Out)<|oN (few<|ln<|ap [] b.ar)<|oN (zfQ b.ad)<|oN (few<|ln<|ap [] b.Outs)<|iter (σ:=(Int×Int×Int×Int×Int×Int×Int×lK×lS×lM×lB×lG×LI×lK×lS×lM×lB×lG×LI×lK×Unit)) N (λf a=>let b:=a.2.2.2.2.2.2.2.2;let g:=b.2.2.2.2.2;let e:=b.2.2.2.2.1;let c:=g.1;let d:=ap a.2.2.2.2.2.2.2.1 [zdK<|ix c a.1 zfF]; (cond (ilt a.1<|ln c) (oN (inb a.1<|ln c)<|oN (zgd<|ix c a.1 zfF)<|oN (few<|ln d)<|f (zO .i64 a.1 1,a.2.1,a.2.2.1,a.2.2.2.1,a.2.2.2.2.1,a.2.2.2.2.2.1,a.2.2.2.2.2.2.1,d,b.1,b.2.1,b.2.2.1,b.2.2.2.1,e,c,g.2.1,g.2.2.1,g.2.2.2.1,g.2.2.2.2.1,g.2.2.2.2.2.1,g.2.2.2.2.2.2.1,()))<|some [.agg [.s .slot b.1,.s (.sl .int) b.2.1,.s .bool b.2.2.1,.s .guest b.2.2.2.1,.s .int e,.i .i64 a.2.1,.i .i64 a.2.2.1,.s .kept a.2.2.2.2.2.2.2.1,.i .i64 a.2.2.2.1]])) (0,b.ak,b.aq,b.Own,0,0,0,[],ap [] b.ae,zeJ b.Out,ap [] b.ar,zgf b.ad,ap [] b.Outs,b.aj,[],[],[],[],[],[],()))
def zUg:=zu [(49,0,{n:=48,tm:=[(1,.lp 0 0),(2,.lp 1 0),(3,.sl 0 []),(4,ti)],lo:=[(0,[.sl 1 [],.sl 2 [],.sl 3 [],.sl 4 [],.sl 5 [],ti,ti,.sl 6 [],ti]),(1,[.sl 7 [],.sl 8 [],.sl 9 [],.sl 10 [],.sl 11 [],ti,ti,.sl 12 [],ti])],ro:=[(0,.kept,true),(1,.slot,true),(2,.sl .int,true),(3,.bool,true),(4,.guest,true),(5,.int,true),(6,.kept,false),(7,.slot,true),(8,.sl .int,true),(9,.bool,true),(10,.guest,true),(11,.int,true),(12,.kept,true)]})]
def zSH (a:Mon)(n:zjq a=true):∃N,zH0 N a=some [aT .mon<|zm0 a]:=by
 have h:=zN.1 n;have f:=znE (h (.s .slot a.ae) (by simp[Ty.cells]));have g:zgc a.Out=true:=zbs (h (.s (.sl .int) a.Out) (by simp[Ty.cells]));have j:=znE (h (.s .bool a.ar) (by simp[Ty.cells]));have l:zfQ a.ad=true:=zbs (h (.s .guest a.ad) (by simp[Ty.cells]));have m:=znE (h (.s .int a.Outs) (by simp[Ty.cells]));have d:CVB sm (.s .kept a.aj):=h (.s .kept a.aj) (by simp[Ty.cells]);have e:=zcP d.len;refine⟨a.aj.length+1,?_⟩;unfold zH0 oN;conv=>zeta
 simp only[zlT,f,g,j,l,m,cT];refine(zbo a.aj (λi b=>((i:Int),a.ak,a.aq,a.Own,0,0,0,b,a.ae,zeJ a.Out,a.ar,zgf a.ad,a.Outs,a.aj,[],[],[],[],[],[],())) _
  (λ_ x b k=>bif zgd x then (cond (few<|ln<|ap b [zdK x]) (k<|ap b [zdK x]) none) else none) (λb=>some [AV.agg<|Ty.cells .mon ⟨a.ae,a.Out,a.ar,a.ad,a.Outs,a.ak,a.aq,b,a.Own⟩])
  (λi c t rec=>?_) (λt rec=>?_) _ [] (jS _)).trans (zi3 zgd zdK _ a.aj 0 [] (λx p=>⟨zbs<|d.inv.2 x p,rfl⟩) (by simpa using e.2))
 {simp only [zbx c,zbe c,zbl c,cT,zbg c e.1]};{simp only [zbp,cF];rfl}
def zL7:vM 49 zB7:=kF1 zRd zT zA zq zUg zSH
def z4c:zW:=[(49,zB7)]++z4b
def zRe:zL z4c:=zh zL7 zRd
def zu6 (h:ac)(_:Int):Bool:=pc (zcN h)
def zdz (h:ac)(m:Int):Mon:=bif i0 m (ln h.aa) then ix h.aa m zk else Ty.dflt .mon
def zq7 (h:ac)(m:Int):Bool:=i0 m (ln h.aa)
def zqd:Run:=rF2 dH dI λb c=>(zu6 b c,[aT .mon<|zdz b c,aB<|zq7 b c])
def zNJ (N:Nat)(b:ac)(c:Int):OA:=
 let d:=ix b.aa c zk;let a:=zm0 d; (oN (zM c 0<|wsub .i64 (ln b.aa) 1)<|cond (nB<|zi c 0<|wsub .i64 (ln b.aa) 1) (some [.agg [.s .slot [],.s (.sl .int) [],.s .bool [],.s .guest [],.s .int [],.i .i64 0,.i .i64 0,.s .kept [],.i .i64 0],aB false])<|oN (inb c<|ln b.aa)<|oN (zjq d)<|some [.agg [.s .slot a.ae,.s (.sl .int) a.Out,.s .bool a.ar,.s .guest a.ad,.s .int a.Outs,.i .i64 a.ak,.i .i64 a.aq,.s .kept a.aj,.i .i64 a.Own],aB true])
def zUX (b:ac)(a:Int)(f:zu6 b a=true):∃N,zNJ N b a=some [aT .mon<|zdz b a,aB<|zq7 b a]:=by
 have h:=(zN.1 f).mons;refine⟨0,?_⟩;unfold zNJ zdz zq7 oN nB;conv=>zeta
 have e:zi a 0 (wsub .i64 (ln b.aa) 1)=i0 a (ln b.aa):=zBw (zcP h.len).1 a;rw[e];cases c:i0 a (ln b.aa);{simp [zM,Ty.cells,Ty.dflt]};{have d:zjq (ix b.aa a zk)=true:=zbs (h.inv.2 _<|zbF c _);simp only[zM,cT,jN,cF,zI c,d];rfl}
def zrn:vM 30 zqd:=kF2 zRe zT zA zq (zu []) zUX
def z4d:zW:=[(30,zqd)]++z4c
def z1W:zL z4d:=zh zrn zRe
def z4e:zW:=z4d
def z1X:zL z4e:=z1W
def z8t:zW:=z4e
def zwg:∀f a,zl z8t f=some a->Holds Tryz.prog f a:=z1X
def z0:k0:=⟨-1,0⟩
def zbT:Bool:=true
abbrev zbi:k0:=z0
def zkM:Run:=rF0 (zbT,[aT .slot zbi])
def zWS (N:Nat)  : OA :=
 (some [.agg [.i .i64<|-1,.i .i64 0]])
def zBA  (a:zbV big []) (b:zbT=true):∃N,zWS N  = some [aT .slot zbi]:=by exact⟨0,rfl⟩
def zwt:vM 50 zkM:=hF0 zwg zT zA zq (zu []) zBA
def zLv:vM 127 zkM:=hF0 zwg zT zA zq (zu []) zBA
def zwo:vM 19 zjW:=hF3 zwg zT zA zq (zu []) zEV
def z4f:zW:=[(50,zkM),(127,zkM),(19,zjW)]++z8t
def zFG:zL z4f:=zh zwt (zh zLv<|zh zwo zwg)
def zdE (r:Int):Bool:=ige r 0&&ile r 3
def ziL (_:Int):Bool:=true
abbrev zga (r:Int):Bool:=zdE r
def zlu:Run:=rF1 dI λb=>(ziL b,[aB<|zga b])
def zQR (N:Nat)(a:Int):OA:=
 (oN (zM a 0 3)<|some [aB<|zi a 0 3])
def zwB (a:Int)(b:zbV big [aI a])(c:ziL a=true):∃N,zQR N a=some [aB<|zga a]:=by exact⟨0,rfl⟩
def zGk:vM 31 zlu:=hF1 zFG zT zA zq (zu []) zwB
def zFZ:vM 83 zlu:=hF1 zFG zT zA zq (zu []) zwB
def z4g:zW:=[(31,zlu),(83,zlu)]++z4f
def zsM:zL z4g:=zh zGk (zh zFZ zFG)
def zeg (a b:Int):Int:=bif zdE a then (cond (zdE b) (wand .i64 a b) 0) else 0
abbrev zhj (a b:Int):Int:=zeg a b
def zto:Run:=rF2 dI dI λb c=>(zcr b c,[aI<|zhj b c])
def zv7 (N:Nat)(a b:Int):OA:=
 (oN (ziL a)<|cond (nB<|zga a) (some [aI 0])<|oN (ziL b)<|cond (nB<|zga b) (some [aI 0])<|some [aI<|wand .i64 a b])
def zGL (a b:Int)(c:zcr a b=true):∃N,zv7 N a b=some [aI<|zhj a b]:=by refine⟨0,?_⟩;unfold zv7 zhj zeg zga oN nB;cases zdE a<;>cases zdE b<;>rfl
def zBj:vM 245 zto:=kF2 zsM zT zA zq (zu []) zGL
def enough (a b:Int):Bool:=bif zdE a then (cond (zdE b) (ieq (wand .i64 a b) b) false) else false
abbrev zdc (a b:Int):Bool:=enough a b
def zkL:Run:=rF2 dI dI λb c=>(zcr b c,[aB<|zdc b c])
def zHD (N:Nat)(b a:Int):OA:=
 (oN (ziL b)<|cond (zga b) (oN (ziL a)<|cond (zga a) (some [aB<|ieq (wand .i64 b a) a]) oF) oF)
def zBz (a b:Int)(c:zbV big [aI a,aI b])(d:zcr a b=true):∃N,zHD N a b=some [aB<|zdc a b]:=by refine⟨0,?_⟩;unfold zHD zdc enough zga oN;cases zdE a<;>cases zdE b<;>rfl
def zwp:vM 11 zkL:=hF2 zsM zT zA zq (zu []) zBz
def zLq:vM 46 zkL:=hF2 zsM zT zA zq (zu []) zBz
def zbC (t:List k0)(p:Int):k0:=bif i0 p (ln t) then ix t p zY else z0
def zjk (_:List k0)(_:Int):Bool:=true
abbrev zhm (t:List k0)(p:Int):k0:=zbC t p
def zB2:Run:=rF2 (dS .slot) dI λb c=>(zjk b c,[aT .slot<|zhm b c])
def zHS (N:Nat)(a:lS)(b:Int):OA:=
 (oN (zM b 0<|wsub .i64 (ln a) 1)<|cond (nB<|zi b 0<|wsub .i64 (ln a) 1) (oN zbT<|some [.agg [.i .i64 zbi.af,.i .i64 zbi.ai]])<|oN (inb b<|ln a)<|some [.agg [.i .i64 (ix a b zY).af,.i .i64 (ix a b zY).ai]])
def zSz (b:List k0)(a:Int)(c:zbV big [aS .slot b,aI a])(g:zjk b a=true):∃N,zHS N b a=some [aT .slot<|zhm b a]:=by have f:=len0 c;refine⟨0,?_⟩;unfold zHS zhm zbC oN nB;have e:zi a 0 (wsub .i64 (ln b) 1)=i0 a (ln b):=zyg f a;rw[e];cases d:i0 a (ln b);{rfl};{rw [zI d];rfl}
def zLR:vM 141 zB2:=hF2 zsM zT zA zq (zu []) zSz
def z4h:zW:=[(245,zto),(11,zkL),(46,zkL),(141,zB2)]++z4g
def zRf:zL z4h:=zh zBj (zh zwp<|zh zLq<|zh zLR zsM)
def zc1 (a b:k0):Bool:=ieq a.af b.af&&ieq a.ai b.ai
def below' (a b:k0):Bool:=bif zc1 a z0 then true else (cond (ieq a.af b.af) (enough b.ai a.ai) false)
def zby (s:k0)(a:List k0):k0 :=
 bif ieq s.af (-1) then z0 else (cond (ieq (zbC a s.af).af<|-1) z0<|cond (ieq (zeg s.ai (zbC a s.af).ai) 0) z0 ⟨(zbC a s.af).af,zeg s.ai (zbC a s.af).ai⟩)
def zkg (_:k0)(_:List k0):Bool:=true
def zmy (s:k0)(a:List k0):k0:=zby s a
def zrV:Run:=rF2 (dT .slot) (dS .slot) λb c=>(zkg b c,[aT .slot<|zmy b c])
def ztQ (N:Nat)(a:k0)(c:lS):OA:=
 let b:=zhm c a.af; (oN (zjk c a.af)<|oN (zcr a.ai b.ai)<|cond (ieq a.af<|-1) (oN zbT<|some [.agg [.i .i64 zbi.af,.i .i64 zbi.ai]])<|cond (ieq b.af<|-1) (oN zbT<|some [.agg [.i .i64 zbi.af,.i .i64 zbi.ai]])<|cond (ieq (zhj a.ai b.ai) 0) (oN zbT<|some [.agg [.i .i64 zbi.af,.i .i64 zbi.ai]])<|some [.agg [.i .i64 b.af,.i .i64<|zhj a.ai b.ai]])
def zDF (a:k0)(b:List k0)(c:zkg a b=true):∃N,ztQ N a b=some [aT .slot<|zmy a b]:=by
 refine⟨0,?_⟩;unfold ztQ zmy zby zhm zhj oN;conv=>zeta
 cases ieq a.af (-1)<;>cases ieq (zbC b a.af).af (-1)<;>cases ieq (zeg a.ai (zbC b a.af).ai) 0<;>rfl
def zz4:vM 244 zrV:=kF2 zRf zT zA zq (zu []) zDF
def zdI (x:Int):Int:=bif (ige x 1&&ile x 6) then zUo .i64 (wsub .i64 x 1) 2 else -1
def zep (x:Int):Int:=bif (ige x 1&&ile x 6) then zpO (wsub .i64 x 1) 2 else -1
def z4i:zW:=[(244,zrV)]++z4h
def z1Y:zL z4i:=zh zz4 zRf
def z6T {a b:Type}{l:List a}{m:List b}(h:ine (ln l) (ln m)=false):l.length=m.length:=by have:(ln l==ln m)=true:=(by simpa [ine,bne] using h);have:=eq_of_beq this;simp only[ln] at this;omega
def z4j:zW:=z4i
def z1Z:zL z4j:=z1Y
def zc5 (h:ac)(e:au):Bool :=
 bif i0 (zdI e.Tag) (ln h.aa) then (bif i0 (zep e.Tag) (ln (ix h.aa (zdI e.Tag) zk).ad) then
  below' ⟨e.ac,e.ai⟩ (zby (zbC (ix (ix h.aa (zdI e.Tag) zk).ad (zep e.Tag) zF).av e.af) (ix h.aa (zdI e.Tag) zk).ae) else false) else false
def z4k:zW:=z4j
def z14:zL z4k:=z1Z
def z8r:zW:=z4k
def zLe:∀f a,zl z8r f=some a->Holds Tryz.prog f a:=z14
def hE (h:ac):(⟨h.ag,h.aa,h.ao,h.an⟩:ac)=h:=rfl
def idxs {a:Type}(p:a->Bool):List a->Nat->LI
 |[],_=>[]
 |x::l,i=>bif p x then (i:Int)::idxs p l (i+1) else idxs p l (i+1)
def zyc {a:Type}(p:a->Bool):∀(l:List a) (i:Nat),(idxs p l i).length<=l.length
 |[],_=>qV _
 |x::l,i=>by have:=zyc p l (i+1);simp only[idxs];cases p x<;>simp<;>omega
def zsY {b c:Type}(p:b->Bool)(K:LI->Option c):∀(l:List b) (i:Nat) (a:LI),a.length+l.length<=2147483648->
 goL (λi x a k=>bif p x then (cond (few<|ln<|ap a [(i:Int)]) (k<|ap a [(i:Int)]) none) else k a) K l i a=K (a++idxs p l i)
 |[],i,a,_=>by simp[goL,idxs]
 |x::l,i,a,h=>by simp only[qZ]at h;simp only[goL,idxs];cases p x;{simp only [cF];exact zsY p K l (i+1) a (by omega)};{simp only [cT];rw[zgI (by simp[ap];omega),cT,zsY p K l (i+1) _ (by simp[ap];omega)];simp[ap]}
def zvB (p:Nat->Bool):Nat->Nat->LI
 | 0,_=>[]
 |n+1,i=>bif p i then (i:Int)::zvB p n (i+1) else zvB p n (i+1)
def zx6 {b:Type}(p:Nat->Bool)(K:LI->Option b):∀(n i:Nat) (a:LI),a.length+n<=2147483648->
 goN (λi a k=>bif p i then (cond (few<|ln<|ap a [(i:Int)]) (k<|ap a [(i:Int)]) none) else k a) K n i a=K (a++zvB p n i)
 | 0,i,a,_=>by simp[goN,zvB]
 |n+1,i,a,h=>by simp only[goN,zvB];cases p i;{simp only [cF];exact zx6 p K n (i+1) a (by omega)};{simp only [cT];rw[zgI (by simp[ap];omega),cT,zx6 p K n (i+1) _ (by simp[ap];omega)];simp[ap]}
abbrev zos (l:List k0)(_:Int):Bool:=pc (l.length<=2147483648)
abbrev zfZ (l:List k0)(p:Int):LI:=idxs (λ(s:k0)=>ieq s.af p) l 0
def zn8:Run:=rF2 (dS .slot) dI λb c=>(zos b c,[aS .int<|zfZ b c])
def zHW (N:Nat)(c:lS)(d:Int):OA:=
 (iter (σ:=(Int×Int×lS×LI×Unit)) N (λb a=>cond (ilt a.2.1<|ln a.2.2.1) (oN (inb a.2.1<|ln a.2.2.1)<|cond (ieq (ix a.2.2.1 a.2.1 zY).af a.1) (oN (few<|ln<|ap a.2.2.2.1 [a.2.1])<|b (a.1,zO .i64 a.2.1 1,a.2.2.1,ap a.2.2.2.1 [a.2.1],()))<|b (a.1,zO .i64 a.2.1 1,a.2.2.1,a.2.2.2.1,()))<|some [aS .int a.2.2.2.1]) (d,0,c,[],()))
def zUc:=zu [(136,0,{n:=26,tm:=[(0,.sl 0 []),(1,ti),(5,.sl 1 []),(6,ti)],lo:=[],ro:=[(0,.slot,false),(1,.int,true)]})]
def zSD (b:List k0)(a:Int)(g:zbV big [aS .slot b,aI a])(h:zos b a=true):∃N,zHW N b a=some [aS .int<|zfZ b a]:=by have e:=len0 g;have j:=zN.1 h;refine zct λN d=>?_;unfold zHW oN;refine(zbo b (λi (t:LI)=>(a,(i:Int),b,t,())) _ (λi (x:k0) (t:LI) f=>bif ieq x.af a then (cond (few<|ln<|ap t [(i:Int)]) (f<|ap t [(i:Int)]) none) else f t) (λ(t:LI)=>some [.one<|.s .int t]) (λi c t rec=>?_) (λt rec=>?_) _ ([])<|d e).trans ?_;{simp only [zbx c,zbe c,zbl c,zbg c e,cT]};{simp only [zbp,cF]};exact zsY (λ(s:k0)=>ieq s.af a) _ _ 0 [] (by simpa using j)
def zLV:vM 136 zn8:=hF2 zLe zT zA zq zUc zSD
def zHz (N:Nat)(d:lS)(f:Int):OA:=
 (iter (σ:=(Int×Int×Int×LI×lS×Unit)) N (λe a=>let c:=a.2.2.2.2.1;let b:=a.2.2.1; (cond (ilt b a.2.1) (oN (inb b<|ln c)<|cond (ieq (ix c b zY).af a.1) (oN (few<|ln<|ap a.2.2.2.1 [b])<|e (a.1,a.2.1,zO .i64 b 1,ap a.2.2.2.1 [b],c,()))<|e (a.1,a.2.1,zO .i64 b 1,a.2.2.2.1,c,()))<|some [aS .int a.2.2.2.1])) (f,ln d,0,[],d,()))
def zT2:=zu [(130,0,{n:=26,tm:=[(1,ti),(5,.sl 0 []),(9,.sl 1 []),(10,ti),(11,ti)],lo:=[],ro:=[(0,.int,true),(1,.slot,false)]})]
def zSh (a:List k0)(b:Int)(g:zbV big [aS .slot a,aI b])(h:zos a b=true):∃N,zHz N a b=some [aS .int<|zfZ a b]:=by
 have e:=len0 g;have j:=zN.1 h;refine zct λN d=>?_;unfold zHz oN;conv=>zeta
 refine(zbo a (λi (t:LI)=>(b,ln a,(i:Int),t,a,())) _ (λi (x:k0) (t:LI) f=>bif ieq x.af b then (cond (few<|ln<|ap t [(i:Int)]) (f<|ap t [(i:Int)]) none) else f t) (λ(t:LI)=>some [.one<|.s .int t]) (λi c t rec=>?_) (λt rec=>?_) _ ([])<|d e).trans ?_;{simp only [zbx c,zbe c,zbl c,zbg c e,cT]};{simp only [zbp,cF]};exact zsY (λ(s:k0)=>ieq s.af b) _ _ 0 [] (by simpa using j)
def zLB:vM 130 zn8:=hF2 zLe zT zA zq zT2 zSh
def z4l:zW:=[(136,zn8),(130,zn8)]++z8r
def z15:zL z4l:=zh zLV (zh zLB zLe)
def z4m:zW:=z4l
def z16:zL z4m:=z15
def z4n:zW:=z4m
def zFH:zL z4n:=z16
def all2 {a:Type}(b:a->a->Bool):List a->List a->Bool
 |[],[]=>true
 |x::l,y::m=>b x y&&all2 b l m
 |_,_=>false
def zQU {a:Type}(b:a->a->Bool):∀(l m:List a),l.length≠m.length->all2 b l m=false
 |[],[],h=>absurd rfl h
 |[],_::_,_=>rfl
 |_::_,[],_=>rfl
 |x::l,y::m,h=>by simp only[all2,zQU b l m (by simpa using h),Bool.and_false]
def zRJ {c g:Type}(e:c->c->Bool)(d:c)(b:List c)(r:Option g)(K:Unit->Option g):∀(a:List c) (i:Nat),a.length+i=b.length->
 goL (λi x (_:Unit) k=>bif e x (ix b (i:Int) d) then k () else r) K a i ()=bif all2 e a (b.drop i) then K () else r
 |[],i,h=>by have:b.drop i=[]:=List.drop_eq_nil_of_le (by simp at h;omega);rw[this];rfl
 |x::a,i,h=>by simp only[qZ]at h;have f:i<b.length:=(by omega);rw[kO f];simp only[goL,all2,zbl f];cases e x b[i];{rfl};{simp only [cT,uJ];exact zRJ e d b r K a (i+1) (by omega)}
def z8D {a b:Type}{l:List a}{m:List b}(h:ine (ln l) (ln m)=true):l.length≠m.length:=by intro e;simp only[ine,ln,e,bne_self_eq_false]at h;cases h
def zwy (x y:Int):ine x y = !ieq x y:=rfl
def eqI (a b:LI):Bool:=all2 ieq a b
def zc8 (_ _:LI):Bool:=true
def zhV (a b:LI):Bool:=eqI a b
def zrC:Run:=rF2 (dS .int) (dS .int) λb c=>(zc8 b c,[aB<|zhV b c])
def zpP (N:Nat)(b c:LI):OA:=
 (cond (ine (ln b)<|ln c) oF<|iter (σ:=(Int×LI×LI×Unit)) N (λd a=>cond (ilt a.1<|ln a.2.1) (oN (inb a.1<|ln a.2.1)<|oN (inb a.1<|ln a.2.2.1)<|cond (ine (ix a.2.1 a.1 0)<|ix a.2.2.1 a.1 0) oF<|d (zO .i64 a.1 1,a.2.1,a.2.2.1,())) oT) (0,b,c,()))
def zQm:=zu [(100,0,{n:=26,tm:=[(0,.sl 0 []),(1,.sl 1 []),(5,ti)],lo:=[],ro:=[(0,.int,false),(1,.int,false)]})]
def zPQ (c a:LI)(j:zbV big [aS .int c,aS .int a])(m:zc8 c a=true):∃N,zpP N c a=some [aB<|zhV c a]:=by have h:=len0 j;refine zct λN f=>?_;unfold zpP zhV eqI oN;cases g:ine (ln c) (ln a);{have e:=z6T g;rw[cF];refine(zbo c (λi (t:Unit)=>((i:Int),c,a,())) _ (λi (x:Int) (_:Unit) k=>bif ieq x (ix a (i:Int) 0) then k () else oF) (λ(t:Unit)=>some [.one<|.b true]) (λi d t rec=>?_) (λt rec=>?_) _ ()<|f h).trans ?_;{simp only [zbx d,zbe d,zbl d,zbg d h,cT];simp only[zbe (l:=a) (i:=i)<|e ▸ d,cT,zwy];cases ieq c[i] (ix a (↑i) 0)<;>rfl};{simp only [zbp,cF]};rw[zRJ ieq 0 a _ _ c 0 (by simpa using e),vB];cases all2 ieq c a<;>rfl};{rw [zQU _ _ _<|z8D g];rfl}
def zut:vM 100 zrC:=hF2 zFH zT zA zq zQm zPQ
def zd6 (l:LI):Bool:=pc (l.length<=2147483648)
abbrev zd3 (l:LI):LI:=l
def zwU:Run:=rF1 (dS .int) λb=>(zd6 b,[aS .int<|zd3 b])
def zAk (N:Nat)(a:LI):OA:=
 (oN (few<|ln<|ap [] a)<|some [aS .int<|ap [] a])
def zMj (a:LI)(b:zd6 a=true):∃N,zAk N a=some [aS .int<|zd3 a]:=by refine⟨0,?_⟩;unfold zAk oN;rw[zlT,zgI<|zN.1 b,cT]
def zF1:vM 73 zwU:=kF1 zFH zT zA zq (zu []) zMj
def z4o:zW:=[(100,zrC),(73,zwU)]++z4n
def zFI:zL z4o:=zh zut (zh zF1 zFH)
def zyQ:LI:=rp 4 0
def zcw (m:List LI)(p:Int):LI:=bif i0 p (ln m) then ix m p [] else zyQ
def zgQ (m:List LI)(_:Int):Bool:=pc (CVB sm<|.s (.sl .int) m)
def zib (m:List LI)(p:Int):LI:=zcw m p
def z0T {m:List LI}{p:Int}(b:CVB sm (.s (.sl .int) m))(a:i0 p (ln m)=true):(ix m p []).length<=2147483648 :=
 (zcP (b.inv.2 _ (zbF a ([]:LI)) (.s .int _) (qD.2 rfl)).len).2
def zn3:Run:=rF2 (dS<|.sl .int) dI λb c=>(zgQ b c,[aS .int<|zib b c])
def zHL (N:Nat)(a:lM)(b:Int):OA:=
 (oN (zM b 0<|wsub .i64 (ln a) 1)<|cond (nB<|zi b 0<|wsub .i64 (ln a) 1) (oN (cond (few 4) (ieq 4 4) false)<|some [aS .int<|rp 4 0])<|oN (inb b<|ln a)<|oN (few<|ln<|ap []<|ix a b [])<|some [aS .int<|ap []<|ix a b []])
def zSt (b:List LI)(a:Int)(f:zgQ b a=true):∃N,zHL N b a=some [aS .int<|zib b a]:=by have d:=zN.1 f;refine⟨0,?_⟩;unfold zHL zib zcw oN nB;have e:zi a 0 (wsub .i64 (ln b) 1)=i0 a (ln b):=zyg (zcP d.len).1 a;rw[e];cases c:i0 a (ln b);{rfl};{simp only [zM,cT,cF,zI c,zlT,zgI<|z0T d c]}
def zLL:vM 135 zn3:=kF2 zFI zT zA zq (zu []) zSt
def zHv (N:Nat)(a:lM)(b:Int):OA:=
 (oN (zcr b<|ln a)<|cond (nB<|zj7 b<|ln a) (oN (cond (few 4) (ieq 4 4) false)<|some [aS .int<|rp 4 0])<|oN (inb b<|ln a)<|oN (zd6<|ix a b [])<|some [aS .int<|zd3<|ix a b []])
def zSd (a:List LI)(b:Int)(d:zgQ a b=true):∃N,zHv N a b=some [aS .int<|zib a b]:=by have e:=zN.1 d;refine⟨0,?_⟩;unfold zHv zib zcw zj7 oN nB;cases c:i0 b (ln a);{rfl};{simp only [zcr,cT,cF,zI c,show zd6 (ix a b [])=true from zbs (z0T e c),zd3]}
def zLw:vM 161 zn3:=kF2 zFI zT zA zq (zu []) zSd
def z4p:zW:=[(135,zn3),(161,zn3)]++z4o
def zRg:zL z4p:=zh zLL (zh zLw zFI)
def zcC (h:ac)(m p:Int):LI :=
 bif i0 m (ln h.aa) then (cond (i0 p 8) (cond (ine (zbC (ix h.aa m zk).ae p).af<|-1) (zcw h.ag (zbC (ix h.aa m zk).ae p).af)<|zcw (ix h.aa m zk).Out p) zyQ) else zyQ
def z8B (p:Int):zi p 0 7=i0 p 8:=by unfold zi ige ile i0;by_cases a:0<=p<;>by_cases b:p<8;{rw [qK (p:=p≥0) (by omega),qK (p:=p<=7) (by omega),qK (p:=0<=p/\p<8) ⟨a,b⟩];rfl};{rw [qQ (p:=p<=7) (by omega),qQ (p:=0<=p/\p<8) (by omega)];simp};{rw [qQ (p:=p≥0) (by omega),qQ (p:=0<=p/\p<8) (by omega)];simp};{rw [qQ (p:=p≥0) (by omega),qQ (p:=0<=p/\p<8) (by omega)];simp}
def zyz (h:ac)(_ _:Int):Bool:=pc (zcN h)
def zyy (h:ac)(m p:Int):LI:=zcC h m p
def ztt:Run:=rF3 dH dI dI λb c d=>(zyz b c d,[aS .int<|zyy b c d])
def zHN (N:Nat)(a:ac)(c b:Int):OA:=
 let d:=ix a.aa c zk;let e:=(zhm d.ae b).af; (oN (zM c 0<|wsub .i64 (ln a.aa) 1)<|cond (nB<|zi c 0<|wsub .i64 (ln a.aa) 1) (oN (cond (few 4) (ieq 4 4) false)<|some [aS .int<|rp 4 0])<|oN (zM b 0 7)<|cond (nB<|zi b 0 7) (oN (cond (few 4) (ieq 4 4) false)<|some [aS .int<|rp 4 0])<|oN (inb c<|ln a.aa)<|oN (zjk d.ae b)<|cond (ine e<|-1) (oN (zgQ a.ag e)<|some [aS .int<|zib a.ag e])<|oN (zgQ d.Out b)<|some [aS .int<|zib d.Out b])
def zSv (a:ac)(b c:Int)(g:zyz a b c=true):∃N,zHN N a b c=some [aS .int<|zyy a b c]:=by
 have d:=zN.1 g;refine⟨0,?_⟩;unfold zHN zyy zcC oN nB;conv=>zeta
 have e:zi b 0 (wsub .i64 (ln a.aa) 1)=i0 b (ln a.aa):=zyg (zcP d.mons.len).1 b;rw[e,z8B];cases f:i0 b (ln a.aa);{rfl};{cases i:i0 c 8;{rfl};{have h:CVB sm (.s (.sl .int) (ix a.aa b zk).Out):=d.mons.inv.2 _ (zbF f zk) (.s (.sl .int) _) (by simp[Ty.cells]);simp only[zM,cT,cF,zI f,zjk,zhm,show ∀p,zgQ a.ag p=true from λp=>zbs d.mem,show ∀p,zgQ (ix a.aa b zk).Out p=true from λp=>zbs h,zib];cases ine (zbC (ix a.aa b zk).ae c).af (-1)<;>rfl}}
def zwu:vM 101 ztt:=kF3 zRg zT zA zq (zu []) zSv
def z4q:zW:=[(101,ztt)]++z4p
def z18:zL z4q:=zh zwu zRg
def z4r:zW:=z4q
def z19:zL z4r:=z18
def z8q:zW:=z4r
def z6w:∀f a,zl z8q f=some a->Holds Tryz.prog f a:=z19
def z8p:zW:=z8q
def zfG:zL z8p:=z6w
def zpi:zhv:=zSP
def zC:zgh zpi:=zT
def canRun (g:ah):Bool:=bif (ieq g.Exit.Kind 0&&(ieq g.Exit.af 0&&(ziu g.Exit.Write false&&ieq g.Exit.N 0))) then !g.aF else false
def zsa (_:ah):Bool:=true
abbrev zpz (g:ah):Bool:=canRun g
def zBV:Run:=rF1 (dT .guest) λb=>(zsa b,[aB<|zpz b])
def zHB (N:Nat)(a:ah):OA:=
 (cond (cond (ieq a.Exit.Kind 0) (cond (ieq a.Exit.af 0) (cond (ziu a.Exit.Write false) (ieq a.Exit.N 0) false) false) false) (some [aB<|nB a.aF]) oF)
def zSj (a:ah)(b:zsa a=true):∃N,zHB N a=some [aB<|zpz a]:=by refine⟨0,?_⟩;unfold zHB zpz canRun nB;cases ieq a.Exit.Kind 0<;>cases ieq a.Exit.af 0<;>cases ziu a.Exit.Write false<;>cases ieq a.Exit.N 0<;>simp
def zLD:vM 216 zBV:=kF1 zwg zT zA zq (zu []) zSj
def j0 {d:Type}{c:Bool}{a b r:Option d}(h:c=true)(k:a=r):(cond c a b)=r:=by rw[h];exact k
def mu {d:Type}{c:Bool}{a b r:Option d}(k:a=r)(h:c=true:=by first|assumption|(simp_all<;>omega)):(cond c a b)=r:=j0 h k
def zdM {d:Type}{c:Bool}{a b r:Option d}(h:c=false)(k:b=r):(cond c a b)=r:=by rw[h];exact k
def br {f:Type}{c:Bool}{a b r:Option f}(d:c=true->a=r)(e:c=false->b=r):(cond c a b)=r:=by cases c;{exact e rfl};{exact d rfl}
def brN {f:Type}{c:Bool}{a b r:Option f}(d:c=false->a=r)(e:c=true->b=r):(cond (cond c false true) a b)=r:=by cases c;{exact d rfl};{exact e rfl}
def shr {a b:Type}{x:a}{f:a->Option b}{r:Option b}(h:f x=r):p0 x f=r:=h
def zi2 {e:Type}{c p:Bool}{a b:Option e}(d:c=true):(cond c (cond (cond p false true) a b) none)=bif p then b else a:=by rw[d];cases p<;>rfl
attribute [simp] zN
@[simp] def z6H {a:Type}(l:List a):(few (ln l)=true)↔l.length<=2147483648:=by unfold few ln;rw[decide_eq_true_iff];omega
@[simp] def z96 {a:Type}(l m:List a):(ap l m).length=l.length+m.length:=by simp[ap]
attribute [simp] zlT zgK
@[simp] def z5d (n:Nat)(k:IntKind)(x:Int):CVB n (.i k x)↔True:=⟨λ_=>trivial,λ_=>.i k x⟩
@[simp] def zbaa (n:Nat)(x:Bool):CVB n (.b x)↔True:=⟨λ_=>trivial,λ_=>.b x⟩
def zlf {n:Nat}{t:Ty}(l:List t.den):CVB n (.s t l)↔l.length<=n/\∀x∈l,∀c∈t.cells x,CVB n c:=⟨λh=>h.inv,λh=>.s t l h.1 h.2⟩
@[simp] def zVX (n:Nat)(l:LI):CVB n (.s .int l)↔l.length<=n:=by rw[zlf];simp[Ty.cells]
@[simp] def z8v (n:Nat)(l:LI):CVB n (.s .u8 l)↔l.length<=n:=by rw[zlf];simp[Ty.cells]
@[simp] def z2k (n:Nat)(l:List Bool):CVB n (.s .bool l)↔l.length<=n:=by rw[zlf];simp[Ty.cells]
@[simp] def z2m (n:Nat)(l:List k0):CVB n (.s .slot l)↔l.length<=n:=by rw[zlf];simp[Ty.cells]
@[simp] def z6y (n:Nat)(l:List Ins):CVB n (.s .ins l)↔l.length<=n:=by rw[zlf];simp[Ty.cells]
@[simp] def zZK (n:Nat)(l:List au):CVB n (.s .entry l)↔l.length<=n:=by rw[zlf];simp[Ty.cells]
@[simp] def z6x (n:Nat)(l:List GAct):CVB n (.s .act l)↔l.length<=n:=by rw[zlf];simp[Ty.cells]
@[simp] def z2o (n:Nat)(l:List aE):CVB n (.s .told l)↔l.length<=n:=by rw[zlf];simp[Ty.cells]
def SmM (m:List LI):Prop:=m.length<=1048576/\∀x∈m,x.length<=1048576
def SmG (g:ah):Prop:=g.aw.length<=1048576/\g.az.length<=1048576/\g.av.length<=1048576/\g.aC.length<=1048576
def zkl (l:List ah):Prop:=l.length<=1048576/\∀x∈l,SmG x
def SmB (b:am):Prop:=SmM b.ag/\zkl b.ad/\b.Outs.length<=1048576
def zWU (l:List am):Prop:=l.length<=1048576/\∀x∈l,SmB x
def z3x:sm=1048576:=rfl
@[simp] def zXi (l:LI):CVB sm (.s .int l)↔l.length<=1048576:=zVX sm l
@[simp] def z9K (l:LI):CVB sm (.s .u8 l)↔l.length<=1048576:=z8v sm l
@[simp] def zUy (l:List Bool):CVB sm (.s .bool l)↔l.length<=1048576:=z2k sm l
@[simp] def zUz (l:List k0):CVB sm (.s .slot l)↔l.length<=1048576:=z2m sm l
@[simp] def z9l (l:List Ins):CVB sm (.s .ins l)↔l.length<=1048576:=z6y sm l
@[simp] def zRv (l:List au):CVB sm (.s .entry l)↔l.length<=1048576:=zZK sm l
@[simp] def z9k (l:List GAct):CVB sm (.s .act l)↔l.length<=1048576:=z6x sm l
@[simp] def z9d (l:List aE):CVB sm (.s .told l)↔l.length<=1048576:=z2o sm l
@[simp] def zpb (l:List LI):CVB sm (.s (.sl .int) l)↔SmM l:=by rw[zlf];simp[Ty.cells,SmM,z3x]
@[simp] def z6c (g:ah):(∀c∈Ty.cells .guest g,CVB sm c)↔SmG g:=by simp[Ty.cells,SmG,z3x]
@[simp] def zua (l:List ah):CVB sm (.s .guest l)↔zkl l:=by rw[zlf];simp only[z6c];rfl
@[simp] def z6b (b:am):(∀c∈Ty.cells .bare b,CVB sm c)↔SmB b:=by simp only[Ty.cells,qG,qO,or_false,vI,forall_eq,zpb,zua,zVX,z5d,and_true];rfl
@[simp] def z9O (l:List am):CVB sm (.s .bare l)↔zWU l:=by rw[zlf];simp only[z6b];rfl
@[simp] def z99 (a:List Ins)(b c:Int)(d e:List k0)(f:Ctl)(g:Int)(h:aD)(i:Bool)(j:LI):SmG ⟨a,b,c,d,e,f,g,h,i,j⟩↔a.length<=1048576/\d.length<=1048576/\e.length<=1048576/\j.length<=1048576:=Iff.rfl
@[simp] def z98 (m:List LI)(g:List ah)(o:LI)(p:Int):SmB ⟨m,g,o,p⟩↔SmM m/\zkl g/\o.length<=1048576:=Iff.rfl
def zKC {m:List LI}{i:Int}{x:LI}(h:SmM m)(b:x.length<=1048576):SmM (up m i x):=by refine⟨by simpa using h.1,λy a=>?_⟩;rcases qX a with a|rfl;{exact h.2 y a};{exact b}
def zC4 {m:List ah}{i:Int}{x:ah}(h:zkl m)(b:SmG x):zkl (up m i x):=by refine⟨by simpa using h.1,λy a=>?_⟩;rcases qX a with a|rfl;{exact h.2 y a};{exact b}
def z7D {m:List am}{i:Int}{x:am}(h:zWU m)(b:SmB x):zWU (up m i x):=by refine⟨by simpa using h.1,λy a=>?_⟩;rcases qX a with a|rfl;{exact h.2 y a};{exact b}
def z1b {l:List ah}{i:Int}(h:zkl l)(a:i0 i (ln l)=true)(d:ah):SmG (ix l i d):=h.2 _ (zbF a d)
def z8Z {l:List LI}{i:Int}(h:SmM l)(a:i0 i (ln l)=true)(d:LI):(ix l i d).length<=1048576:=h.2 _ (zbF a d)
@[simp] def z9C:SmG zF:=⟨by decide,by decide,by decide,by decide⟩
@[simp] def zQK (x a b:Int):zi x a b=zi x a b:=rfl
@[simp] def zR2 (i n:Int):inb i n=i0 i n:=rfl
attribute [simp] zj7
@[simp] def zpN {a:Type}{l:List a}(h:l.length<=1048576)(i:Int):zi i 0 (wsub .i64 (ln l) 1)=i0 i (ln l):=zBw (zcP h).1 i
def zHq {a:Type}{l:List a}(h:l.length<=big)(i:Int):zi i 0 (wsub .i64 (ln l) 1)=i0 i (ln l):=zBw h i
def zfE {x a b:Int}:(zi x a b=true)↔a<=x/\x<=b:=by unfold zi ige ile;simp only[qE,decide_eq_true_iff]
def z6S (a b:Int):ilt a b = !ige a b:=by unfold ilt ige;by_cases h:a<b;{rw [qK h,qQ (by omega)];rfl};{rw [qQ h,qK (by omega)];rfl}
attribute [simp] zbi zbi zga zga zhj zdc zdc zhm zpz zbT zbT
attribute [simp] zeJ zc9 zgf zd3
attribute [simp] zgc zdF zfQ zd6
def zbh (a:Int):Int:=bif ilt a 0 then -1 else zUo .i64 a 4
def zdl (a:Int):Int:=bif ilt a 0 then -1 else zpO a 4
@[simp] abbrev zdy (a:Int):Bool:=true
@[simp] abbrev zcW (a:Int):Int:=zbh a
def zw2:Run:=rF1 dI λb=>(zdy b,[aI<|zcW b])
def zAs (N:Nat)(a:Int):OA:=
 (cond (ilt a 0) (some [aI<|-1])<|oN (ine 4 0)<|some [aI<|zUo .i64 a 4])
def zMs (a:Int)(b:zdy a=true):∃N,zAs N a=some [aI<|zcW a]:=by refine⟨0,?_⟩;unfold zAs oN;refine br (λ_=>?_) (λ_=>j0 rfl ?_);all_goals first|rfl|(simp only [*,zcW,zbh,cT,cF]<;>rfl)|simp_all[Ty.cells,zcW,zbh]
def zGa:vM 212 zw2:=kF1 zfG zC zA zq (zu []) zMs
@[simp] abbrev zeA (a:Int):Int:=zdl a
def zw1:Run:=rF1 dI λb=>(zdy b,[aI<|zeA b])
def zAr (N:Nat)(a:Int):OA:=
 (cond (ilt a 0) (some [aI<|-1])<|oN (ine 4 0)<|some [aI<|zpO a 4])
def zMr (a:Int)(b:zdy a=true):∃N,zAr N a=some [aI<|zeA a]:=by refine⟨0,?_⟩;unfold zAr oN;refine br (λ_=>?_) (λ_=>j0 rfl ?_);all_goals first|rfl|(simp only [*,zeA,zdl,cT,cF]<;>rfl)|simp_all[Ty.cells,zeA,zdl]
def zF9:vM 213 zw1:=kF1 zfG zC zA zq (zu []) zMr
def zcb (w:Bool):Int:=bif w then 2 else 1
@[simp] abbrev zsd (w:Bool):Bool:=true
@[simp] abbrev zfy (w:Bool):Int:=zcb w
def zBZ:Run:=rF1 dB λb=>(zsd b,[aI<|zfy b])
def zHK (N:Nat)(a:Bool):OA:=
 (cond a (some [aI 2])<|some [aI 1])
def zSs (a:Bool)(b:zsd a=true):∃N,zHK N a=some [aI<|zfy a]:=by refine⟨0,?_⟩;unfold zHK;refine br (λ_=>?_) (λ_=>?_);all_goals first|rfl|(simp only [*,zfy,zcb,cT,cF]<;>rfl)|simp_all[Ty.cells,zfy,zcb]
def zLK:vM 223 zBZ:=kF1 zfG zC zA zq (zu []) zSs
def zqN (p:Int)(w:Bool):aD:=⟨1,p,w,0⟩
def zxO (n:Int):aD:=⟨2,0,false,n⟩
def zwG (n:Int):aD:=⟨3,0,false,n⟩
@[simp] abbrev zjD (p:Int)(w:Bool):Bool:=true
@[simp] abbrev zfg (p:Int)(w:Bool):aD:=zqN p w
def zn0:Run:=rF2 dI dB λb c=>(zjD b c,[.agg<|zfS<|zfg b c])
def zy2 (N:Nat)(a:Int)(c:Bool):OA:=
 (some [.agg [.i .i64 1,.i .i64 a,.b c,.i .i64 0]])
def zJH (a:Int)(b:Bool)(c:zjD a b=true):∃N,zy2 N a b=some [.agg<|zfS<|zfg a b]:=by refine⟨0,?_⟩;unfold zy2;first|rfl|(simp only [*,zfg,cT,cF]<;>rfl)|simp_all[Ty.cells,zfg]
def zrS:vM 182 zn0:=kF2 zfG zC zA zq (zu []) zJH
@[simp] abbrev zgo (n:Int):Bool:=true
@[simp] abbrev zfw (n:Int):aD:=zxO n
def zpv:Run:=rF1 dI λb=>(zgo b,[.agg<|zfS<|zfw b])
def zAv (N:Nat)(a:Int):OA:=
 (some [.agg [.i .i64 2,.i .i64 0,.b false,.i .i64 a]])
def zMv (a:Int)(b:zgo a=true):∃N,zAv N a=some [.agg<|zfS<|zfw a]:=by refine⟨0,?_⟩;unfold zAv;first|rfl|(simp only [*,zfw,cT,cF]<;>rfl)|simp_all[Ty.cells,zfw]
def zs5:vM 183 zpv:=kF1 zfG zC zA zq (zu []) zMv
@[simp] abbrev zgq (n:Int):aD:=zwG n
def zrB:Run:=rF1 dI λb=>(zgo b,[.agg<|zfS<|zgq b])
def zEl (N:Nat)(a:Int):OA:=
 (some [.agg [.i .i64 3,.i .i64 0,.b false,.i .i64 a]])
def zPG (a:Int)(b:zgo a=true):∃N,zEl N a=some [.agg<|zfS<|zgq a]:=by refine⟨0,?_⟩;unfold zEl;first|rfl|(simp only [*,zgq,cT,cF]<;>rfl)|simp_all[Ty.cells,zgq]
def zus:vM 184 zrB:=kF1 zfG zC zA zq (zu []) zPG
def zg7 (t x:Int):Bool:=bif zi t 0 3 then (cond (zi x 1 2) (ine (wand .i64 t x) 0) false) else false
@[simp] abbrev zh8 (t x:Int):Bool:=true
@[simp] abbrev zhS (t x:Int):Bool:=zg7 t x
def zzw:Run:=rF2 dI dI λb c=>(zh8 b c,[aB<|zhS b c])
def zEd (N:Nat)(a b:Int):OA:=
 (oN (zM a 0 3)<|cond (zi a 0 3) (oN (zM b 1 2)<|cond (zi b 1 2) (some [aB<|ine (wand .i64 a b) 0]) oF) oF)
def zPx (a b:Int)(c:zh8 a b=true):∃N,zEd N a b=some [aB<|zhS a b]:=by refine⟨0,?_⟩;unfold zEd oN;refine j0 rfl (br (λ_=>j0 rfl (br (λ_=>?_) λ_=>?_)) λ_=>?_);all_goals first|rfl|(simp only [*,zhS,zg7,cT,cF]<;>rfl)|simp_all[Ty.cells,zhS,zg7]
def zIP:vM 242 zzw:=kF2 zfG zC zA zq (zu []) zPx
def zdH (p:Int):Bool:=zi p 0 255
@[simp] abbrev zcX (p:Int):Bool:=true
@[simp] abbrev ze4 (p:Int):Bool:=zdH p
def zn5:Run:=rF1 dI λb=>(zcX b,[aB<|ze4 b])
def zHP (N:Nat)(a:Int):OA:=
 (oN (zM a 0 255)<|some [aB<|zi a 0 255])
def zBB (a:Int)(b:zbV big [aI a])(c:zcX a=true):∃N,zHP N a=some [aB<|ze4 a]:=by refine⟨0,?_⟩;unfold zHP oN;refine j0 rfl ?_;first|rfl|(simp only [*,ze4,zdH,cT,cF]<;>rfl)|simp_all[Ty.cells,ze4,zdH]
def zLO:vM 64 zn5:=hF1 zfG zC zA zq (zu []) zBB
def zLy:vM 125 zn5:=hF1 zfG zC zA zq (zu []) zBB
def zcv (l:List Ins)(p:Int):Ins:=bif i0 p (ln l) then ix l p zsn else ⟨7,0⟩
@[simp] abbrev zfO (l:List Ins)(p:Int):Bool:=true
@[simp] abbrev zfX (l:List Ins)(p:Int):Ins:=zcv l p
def zE7:Run:=rF2 (dS .ins) dI λb c=>(zfO b c,[aT .ins<|zfX b c])
def zNG (N:Nat)(a:lI)(b:Int):OA:=
 (oN (zM b 0<|wsub .i64 (ln a) 1)<|cond (nB<|zi b 0<|wsub .i64 (ln a) 1) (some [.agg [.i .i64 7,.i .i64 0]])<|oN (inb b<|ln a)<|some [.agg [.i .i64 (ix a b zsn).Op,.i .i64 (ix a b zsn).X]])
def zUV (a:List Ins)(b:Int)(c:zbV big [aS .ins a,aI b])(e:zfO a b=true):∃N,zNG N a b=some [aT .ins<|zfX a b]:=by have d:=((zdv c).1 _ (qD.2 rfl)).len;have f:=zHq d;refine⟨0,?_⟩;unfold zNG oN nB;refine j0 rfl (brN (λ_=>?_) λ_=>mu ?_);all_goals first|rfl|(simp only [*,zfX,zcv,cT,cF]<;>rfl)|simp_all[Ty.cells,zfX,zcv]
def zO9:vM 218 zE7:=hF2 zfG zC zA zq (zu []) zUV
def zxu (w:Int):Int:=bif ieq w 5 then 1 else 2
def zdX (s:k0)(n:Int):Bool:=bif zc1 s z0 then true else (cond (igt n 0) (cond (zi s.af 0<|wsub .i64 n 1) (zi s.ai 1 3) false) false)
@[simp] abbrev zlA (s:k0)(n:Int):Bool:=true
@[simp] abbrev zic (s:k0)(n:Int):Bool:=zdX s n
def zn7:Run:=rF2 (dT .slot) dI λb c=>(zlA b c,[aB<|zic b c])
def zHT (N:Nat)(a:k0)(b:Int):OA:=
 (oN zbT<|cond (cond (ieq a.af zbi.af) (ieq a.ai zbi.ai) false) oT<|oN (zM a.af 0<|wsub .i64 b 1)<|cond (zi a.af 0<|wsub .i64 b 1) (cond (igt b 0) (oN (zM a.ai 1 3)<|some [aB<|zi a.ai 1 3]) oF) oF)
def zSA (a:k0)(b:Int)(c:zlA a b=true):∃N,zHT N a b=some [aB<|zic a b]:=by refine⟨0,?_⟩;unfold zHT oN;refine j0 rfl (br (λ_=>?_) λ_=>j0 rfl (br (λ_=>br (λ_=>j0 rfl ?_) λ_=>?_) λ_=>?_));all_goals first|rfl|(simp only [*,zic,zdX,zc1,cT,cF]<;>rfl)|simp_all[Ty.cells,zic,zdX,zc1]
def zLS:vM 102 zn7:=kF2 zfG zC zA zq (zu []) zSA
def zHy (N:Nat)(a:k0)(b:Int):OA:=
 (oN zbT<|cond (cond (ieq a.af zbi.af) (ieq a.ai zbi.ai) false) oT<|cond (igt b 0) (oN (zM a.af 0<|wsub .i64 b 1)<|cond (zi a.af 0<|wsub .i64 b 1) (oN (zM a.ai 1 3)<|some [aB<|zi a.ai 1 3]) oF) oF)
def zSg (a:k0)(b:Int)(c:zlA a b=true):∃N,zHy N a b=some [aB<|zic a b]:=by refine⟨0,?_⟩;unfold zHy oN;refine j0 rfl (br (λ_=>?_) λ_=>br (λ_=>j0 rfl (br (λ_=>j0 rfl ?_) λ_=>?_)) λ_=>?_);all_goals first|rfl|(simp only [*,zic,zdX,zc1,cT,cF]<;>rfl)|simp_all[Ty.cells,zic,zdX,zc1]
def zLA:vM 157 zn7:=kF2 zfG zC zA zq (zu []) zSg
@[simp] abbrev zgC (l:List k0):Bool:=pc (l.length<=2147483648)
@[simp] abbrev zfd (l:List k0):List k0:=l
def zuJ:Run:=rF1 (dS .slot) λb=>(zgC b,[aS .slot<|zfd b])
def zyU (N:Nat)(a:lS):OA:=
 (oN (few<|ln<|ap [] a)<|some [aS .slot<|ap [] a])
def zJy (a:List k0)(b:zgC a=true):∃N,zyU N a=some [aS .slot<|zfd a]:=by have c:=zN.1 b;refine⟨0,?_⟩;unfold zyU oN;refine mu ?_;first|rfl|(simp only [*,zfd,cT,cF]<;>rfl)|simp_all[Ty.cells,zfd]
def zDb:vM 74 zuJ:=kF1 zfG zC zA zq (zu []) zJy
@[simp] abbrev zs9 (l:List Ins):Bool:=pc (l.length<=2147483648)
@[simp] abbrev znI (l:List Ins):List Ins:=l
def zwW:Run:=rF1 (dS .ins) λb=>(zs9 b,[aS .ins<|znI b])
def zAm (N:Nat)(a:lI):OA:=
 (oN (few<|ln<|ap [] a)<|some [aS .ins<|ap [] a])
def zMl (a:List Ins)(b:zs9 a=true):∃N,zAm N a=some [aS .ins<|znI a]:=by have c:=zN.1 b;refine⟨0,?_⟩;unfold zAm oN;refine mu ?_;first|rfl|(simp only [*,znI,cT,cF]<;>rfl)|simp_all[Ty.cells,znI]
def zF3:vM 156 zwW:=kF1 zfG zC zA zq (zu []) zMl
def zhN (m:List LI)(p c:Int):Bool:=bif i0 p (ln m) then i0 c (ln<|ix m p []) else false
def cellAt (m:List LI)(p c:Int):Int:=bif zhN m p c then ix (ix m p []) c 0 else 0
def zbM (m:List LI)(p c v:Int):List LI:=bif zhN m p c then (cond (zi v 0 99) (up m p<|up (ix m p []) c v) m) else m
def zyl (m:List LI)(p c:Int):(zhN m p c=true)↔i0 p (ln m)=true/\i0 c (ln<|ix m p [])=true:=by unfold zhN;cases i0 p (ln m)<;>simp
def z8u {n:Nat}{m:List LI}(h:CVB n (.s (.sl .int) m)):m.length<=n/\∀p:Int,i0 p (ln m)=true->(ix m p []).length<=n :=
 ⟨h.len,λp a=>(h.inv.2 _ (zbF a []) _ (qD.2 rfl)).len⟩
@[simp] abbrev zhU (m:List LI)(p c:Int):Bool:=true
@[simp] abbrev zpH (m:List LI)(p c:Int):Bool:=zhN m p c
def zB5:Run:=rF3 (dS<|.sl .int) dI dI λb c d=>(zhU b c d,[aB<|zpH b c d])
def zHY (N:Nat)(a:lM)(b c:Int):OA:=
 let d:=wsub .i64 (ln<|ix a b []) 1; (oN (zM b 0<|wsub .i64 (ln a) 1)<|cond (zi b 0<|wsub .i64 (ln a) 1) (oN (inb b<|ln a)<|oN (zM c 0 d)<|some [aB<|zi c 0 d]) oF)
def zSF (a:List LI)(b c:Int)(e:zbV big [aS (.sl .int) a,aI b,aI c])(g:zhU a b c=true):∃N,zHY N a b c=some [aB<|zpH a b c]:=by
 have d:=z8u ((zdv e).1 _ (qD.2 rfl));have j:=zHq d.1;have f:∀p i:Int,i0 p (ln a)=true->zi i 0 (wsub .i64 (ln<|ix a p []) 1)=i0 i (ln<|ix a p []):=λp i h=>zHq (d.2 p h) i;refine⟨0,?_⟩;unfold zHY oN;conv=>zeta
 refine j0 rfl (br (λ_=>mu (j0 rfl ?_)) λ_=>?_);all_goals first|rfl|(simp only [*,zpH,zhN,cT,cF]<;>rfl)|simp_all[Ty.cells,zpH,zhN]
def zLY:vM 234 zB5:=hF3 zfG zC zA zq (zu []) zSF
def z4F:zW:=[(216,zBV),(212,zw2),(213,zw1),(223,zBZ),(182,zn0),(183,zpv),(184,zrB),(242,zzw),(64,zn5),(125,zn5),(218,zE7),(102,zn7),(157,zn7),(74,zuJ),(156,zwW),(234,zB5)]++z8p
def zgB:zL z4F:=zh zLD (zh zGa<|zh zF9<|zh zLK<|zh zrS<|zh zs5<|zh zus<|zh zIP<|zh zLO<|zh zLy<|zh zO9<|zh zLS<|zh zLA<|zh zDb<|zh zF3<|zh zLY zfG)
@[simp] abbrev zmW (m:List LI)(p c:Int):Int:=cellAt m p c
def zBW:Run:=rF3 (dS<|.sl .int) dI dI λb c d=>(zhU b c d,[aI<|zmW b c d])
def zHC (N:Nat)(a:lM)(b c:Int):OA:=
 (oN (zhU a b c)<|cond (nB<|zpH a b c) (some [aI 0])<|oN (inb b<|ln a)<|oN (inb c<|ln<|ix a b [])<|some [aI<|ix (ix a b []) c 0])
def zSk (a:List LI)(b c:Int)(d:zhU a b c=true):∃N,zHC N a b c=some [aI<|zmW a b c]:=by have e:=(zyl a b c).1;refine⟨0,?_⟩;unfold zHC oN nB;refine j0 rfl (brN (λ_=>?_) λ_=>mu (mu ?_));all_goals first|rfl|(simp only [*,zmW,cellAt,cT,cF]<;>rfl)|simp_all[Ty.cells,zmW,cellAt]
def zLE:vM 214 zBW:=kF3 zgB zC zA zq (zu []) zSk
def zc4 (t:List k0)(n p:Int):Bool:=bif t.all (λs=>zdX s p) then ieq (ln t) n else false
@[simp] abbrev zid (t:List k0)(n p:Int):Bool:=true
@[simp] abbrev zen (t:List k0)(n p:Int):Bool:=zc4 t n p
def zmx:Run:=rF3 (dS .slot) dI dI λb c d=>(zid b c d,[aB<|zen b c d])
def zEs (N:Nat)(d:lS)(e f:Int):OA:=
 (iter (σ:=(Int×Int×Int×lS×Unit)) N (λg a=>let b:=a.2.2.2.1;let c:=ix b a.2.2.1 zY; (cond (ilt a.2.2.1<|ln b) (oN (inb a.2.2.1<|ln b)<|oN (zlA c a.2.1)<|cond (nB<|zic c a.2.1) oF<|g (a.1,a.2.1,zO .i64 a.2.2.1 1,b,()))<|some [aB<|ieq (ln b) a.1])) (e,f,0,d,()))
def zQk:=zu [(62,0,{n:=25,tm:=[(0,.sl 0 []),(1,ti),(2,ti),(7,ti)],lo:=[],ro:=[(0,.slot,false)]})]
def zPN (a:List k0)(d c:Int)(j:zbV big [aS .slot a,aI d,aI c])(l:zid a d c=true):∃N,zEs N a d c=some [aB<|zen a d c]:=by
 have h:(_:List _).length<=big:=((zdv j).1 _ (qD.2 rfl)).len;refine zct λN g=>?_;unfold zEs oN nB;conv=>zeta
 refine(zbo a (λi (t:Unit)=>(d,c,(i:Int),a,())) _ (λ_ x (_:Unit) k=>bif (λs=>zdX s c) x then k () else oF) (λ(t:Unit)=>some [.one<|.b<|ieq (ln a) d]) (λi e t rec=>?_) (λt rec=>?_) _ ()<|g h).trans ?_;{simp only [zbx e,zbe e,zbl e,zbg e h,cT];exact zi2 rfl};{simp only [zbp,cF]};rw[zg5 λs=>zdX s c];refine br (λf=>?_) (λf=>?_);{first|rfl|(simp only [f,zen,zc4,cT,cF]<;>rfl)|(simp_all [Ty.cells,zen,zc4];done)};{first|rfl|(simp only [f,zen,zc4,cT,cF]<;>rfl)|(simp_all [Ty.cells,zen,zc4];done)}
def zI2:vM 62 zmx:=hF3 zgB zC zA zq zQk zPN
def zD1 (N:Nat)(c:lS)(e f:Int):OA:=
 (iter (σ:=(Int×Int×Int×Int×lS×Unit)) N (λg a=>let b:=a.2.2.2.2.1;let d:=ix b a.2.2.2.1 zY; (cond (ilt a.2.2.2.1 a.2.2.1) (oN (inb a.2.2.2.1<|ln b)<|oN (zlA d a.2.1)<|cond (nB<|zic d a.2.1) oF<|g (a.1,a.2.1,a.2.2.1,zO .i64 a.2.2.2.1 1,b,()))<|some [aB<|ieq (ln b) a.1])) (e,f,ln c,0,c,()))
def zQf:=zu [(124,0,{n:=24,tm:=[(0,.sl 0 []),(1,ti),(2,ti),(9,.sl 0 []),(10,ti),(11,ti)],lo:=[],ro:=[(0,.slot,false)]})]
def zPm (a:List k0)(d c:Int)(j:zbV big [aS .slot a,aI d,aI c])(l:zid a d c=true):∃N,zD1 N a d c=some [aB<|zen a d c]:=by
 have h:(_:List _).length<=big:=((zdv j).1 _ (qD.2 rfl)).len;refine zct λN g=>?_;unfold zD1 oN nB;conv=>zeta
 refine(zbo a (λi (t:Unit)=>(d,c,ln a,(i:Int),a,())) _ (λ_ x (_:Unit) k=>bif (λs=>zdX s c) x then k () else oF) (λ(t:Unit)=>some [.one<|.b<|ieq (ln a) d]) (λi e t rec=>?_) (λt rec=>?_) _ ()<|g h).trans ?_;{simp only [zbx e,zbe e,zbl e,zbg e h,cT];exact zi2 rfl};{simp only [zbp,cF]};rw[zg5 λs=>zdX s c];refine br (λf=>?_) (λf=>?_);{first|rfl|(simp only [f,zen,zc4,cT,cF]<;>rfl)|(simp_all [Ty.cells,zen,zc4];done)};{first|rfl|(simp only [f,zen,zc4,cT,cF]<;>rfl)|(simp_all [Ty.cells,zen,zc4];done)}
def zII:vM 124 zmx:=hF3 zgB zC zA zq zQf zPm
def zcq (c:LI):Bool:=bif c.all (λx=>zi x 0 99) then ieq (ln c) 4 else false
@[simp] abbrev zdA (c:LI):Bool:=true
@[simp] abbrev zc0 (c:LI):Bool:=zcq c
def zn4:Run:=rF1 (dS .int) λb=>(zdA b,[aB<|zc0 b])
def zHO (N:Nat)(b:LI):OA:=
 (iter (σ:=(Int×LI×Unit)) N (λc a=>cond (ilt a.1<|ln a.2.1) (oN (inb a.1<|ln a.2.1)<|oN (zM (ix a.2.1 a.1 0) 0 99)<|cond (nB<|zi (ix a.2.1 a.1 0) 0 99) oF<|c (zO .i64 a.1 1,a.2.1,()))<|some [aB<|ieq (ln a.2.1) 4]) (0,b,()))
def zT8:=zu [(61,0,{n:=19,tm:=[(0,.sl 0 []),(3,ti)],lo:=[],ro:=[(0,.int,false)]})]
def zSw (a:LI)(g:zbV big [aS .int a])(j:zdA a=true):∃N,zHO N a=some [aB<|zc0 a]:=by have f:(_:List _).length<=big:=((zdv g).1 _ (qD.2 rfl)).len;refine zct λN e=>?_;unfold zHO oN nB;refine(zbo a (λi (t:Unit)=>((i:Int),a,())) _ (λ_ x (_:Unit) h=>bif (λx=>zi x 0 99) x then h () else oF) (λ(t:Unit)=>some [.one<|.b<|ieq (ln a) 4]) (λi c t rec=>?_) (λt rec=>?_) _ ()<|e f).trans ?_;{simp only [zbx c,zbe c,zbl c,zbg c f,cT];exact zi2 rfl};{simp only [zbp,cF]};rw[zg5 λx=>zi x 0 99];refine br (λd=>?_) (λd=>?_);{first|rfl|(simp only [d,zc0,zcq,cT,cF]<;>rfl)|(simp_all [Ty.cells,zc0,zcq];done)};{first|rfl|(simp only [d,zc0,zcq,cT,cF]<;>rfl)|(simp_all [Ty.cells,zc0,zcq];done)}
def zLN:vM 61 zn4:=hF1 zgB zC zA zq zT8 zSw
def zHw (N:Nat)(b:LI):OA:=
 (iter (σ:=(Int×Int×LI×Unit)) N (λc a=>cond (ilt a.2.1 a.1) (oN (inb a.2.1<|ln a.2.2.1)<|oN (zM (ix a.2.2.1 a.2.1 0) 0 99)<|cond (nB<|zi (ix a.2.2.1 a.2.1 0) 0 99) oF<|c (a.1,zO .i64 a.2.1 1,a.2.2.1,()))<|some [aB<|ieq (ln a.2.2.1) 4]) (ln b,0,b,()))
def zT0:=zu [(123,0,{n:=18,tm:=[(0,.sl 0 []),(5,.sl 0 []),(6,ti),(7,ti)],lo:=[],ro:=[(0,.int,false)]})]
def zSe (a:LI)(g:zbV big [aS .int a])(j:zdA a=true):∃N,zHw N a=some [aB<|zc0 a]:=by have f:(_:List _).length<=big:=((zdv g).1 _ (qD.2 rfl)).len;refine zct λN e=>?_;unfold zHw oN nB;refine(zbo a (λi (t:Unit)=>(ln a,(i:Int),a,())) _ (λ_ x (_:Unit) h=>bif (λx=>zi x 0 99) x then h () else oF) (λ(t:Unit)=>some [.one<|.b<|ieq (ln a) 4]) (λi c t rec=>?_) (λt rec=>?_) _ ()<|e f).trans ?_;{simp only [zbx c,zbe c,zbl c,zbg c f,cT];exact zi2 rfl};{simp only [zbp,cF]};rw[zg5 λx=>zi x 0 99];refine br (λd=>?_) (λd=>?_);{first|rfl|(simp only [d,zc0,zcq,cT,cF]<;>rfl)|(simp_all [Ty.cells,zc0,zcq];done)};{first|rfl|(simp only [d,zc0,zcq,cT,cF]<;>rfl)|(simp_all [Ty.cells,zc0,zcq];done)}
def zLx:vM 123 zn4:=hF1 zgB zC zA zq zT0 zSe
def zei (i:Ins):Bool:=bif (ieq i.Op 1||ieq i.Op 2||ieq i.Op 5||ieq i.Op 6) then zi i.X 0 99 else (cond (ieq i.Op 3||ieq i.Op 4) (zi i.X 0 15)<|cond (ieq i.Op 7) (ieq i.X 0)<|cond (ieq i.Op 8) (zi i.X 0 11) false)
@[simp] abbrev zu4 (i:Ins):Bool:=true
@[simp] abbrev zsw (i:Ins):Bool:=zei i
def zqb:Run:=rF1 (dT .ins) λb=>(zu4 b,[aB<|zsw b])
def zNH (N:Nat)(a:Ins):OA:=
 let b:=ieq a.Op 4;let l:=zM a.X 0 99;let k:=aB<|zi a.X 0 99;let j:=ieq a.Op 8;let i:=ieq a.Op 7;let h:=ieq a.Op 3;let g:=zM a.X 0 11;let f:=zM a.X 0 15;let e:=aB<|ieq a.X 0;let d:=aB<|zi a.X 0 11;let c:=aB<|zi a.X 0 15; (cond (ieq a.Op 1) (cond (ieq a.Op 1) (oN l<|some [k])<|cond h (cond h (oN f<|some [c])<|cond i (some [e])<|cond j (oN g<|some [d]) oF)<|cond b (oN f<|some [c])<|cond i (some [e])<|cond j (oN g<|some [d]) oF)<|cond (ieq a.Op 2) (cond (ieq a.Op 2) (oN l<|some [k])<|cond h (cond h (oN f<|some [c])<|cond i (some [e])<|cond j (oN g<|some [d]) oF)<|cond b (oN f<|some [c])<|cond i (some [e])<|cond j (oN g<|some [d]) oF)<|cond (ieq a.Op 5) (cond (ieq a.Op 5) (oN l<|some [k])<|cond h (cond h (oN f<|some [c])<|cond i (some [e])<|cond j (oN g<|some [d]) oF)<|cond b (oN f<|some [c])<|cond i (some [e])<|cond j (oN g<|some [d]) oF)<|cond (ieq a.Op 6) (oN l<|some [k])<|cond h (cond h (oN f<|some [c])<|cond i (some [e])<|cond j (oN g<|some [d]) oF)<|cond b (oN f<|some [c])<|cond i (some [e])<|cond j (oN g<|some [d]) oF)
def zEU (a:Ins)(b:zbV big [aT .ins a])(c:zu4 a=true):∃N,zNH N a=some [aB<|zsw a]:=by
 refine⟨0,?_⟩;unfold zNH oN;conv=>zeta
 refine br (λ_=>br (λ_=>j0 rfl ?_) λ_=>br (λ_=>br (λ_=>j0 rfl ?_) λ_=>br (λ_=>?_) λ_=>br (λ_=>j0 rfl ?_) λ_=>?_) λ_=>br (λ_=>j0 rfl ?_) λ_=>br (λ_=>?_) λ_=>br (λ_=>j0 rfl ?_) λ_=>?_) (λ_=>br (λ_=>br (λ_=>j0 rfl ?_) λ_=>br (λ_=>br (λ_=>j0 rfl ?_) λ_=>br (λ_=>?_) λ_=>br (λ_=>j0 rfl ?_) λ_=>?_) λ_=>br (λ_=>j0 rfl ?_) λ_=>br (λ_=>?_) λ_=>br (λ_=>j0 rfl ?_) λ_=>?_) λ_=>br (λ_=>br (λ_=>j0 rfl ?_) λ_=>br (λ_=>br (λ_=>j0 rfl ?_) λ_=>br (λ_=>?_) λ_=>br (λ_=>j0 rfl ?_) λ_=>?_) λ_=>br (λ_=>j0 rfl ?_) λ_=>br (λ_=>?_) λ_=>br (λ_=>j0 rfl ?_) λ_=>?_) λ_=>br (λ_=>j0 rfl ?_) λ_=>br (λ_=>br (λ_=>j0 rfl ?_) λ_=>br (λ_=>?_) λ_=>br (λ_=>j0 rfl ?_) λ_=>?_) λ_=>br (λ_=>j0 rfl ?_) λ_=>br (λ_=>?_) λ_=>br (λ_=>j0 rfl ?_) λ_=>?_);all_goals first|rfl|(simp only [*,zsw,zei,cT,cF]<;>rfl)|simp_all[Ty.cells,zsw,zei]
def zPa:vM 142 zqb:=hF1 zgB zC zA zq (zu []) zEU
def zO1:vM 185 zqb:=hF1 zgB zC zA zq (zu []) zEU
def zhI (e:aD):Bool:=bif (ieq e.Kind 0||ieq e.Kind 4) then (ieq e.af 0&&(!e.Write&&ieq e.N 0)) else (cond (ieq e.Kind 1) (zi e.af 0 3&&ieq e.N 0)<|cond (ieq e.Kind 2||ieq e.Kind 3) (zi e.N 0 99&&(ieq e.af 0 && !e.Write)) false)
@[simp] def z97 (x:Bool):ziu x false = !x:=by cases x<;>rfl
attribute [simp] zda
@[simp] abbrev zsb (e:aD):Bool:=true
@[simp] abbrev zkR (e:aD):Bool:=zhI e
def znZ:Run:=rF1 dE λb=>(zsb b,[aB<|zkR b])
def zHE (N:Nat)(a:aD):OA:=
 let f:=zi a.N 0 99;let e:=zM a.N 0 99;let d:=ieq a.Kind 2;let b:=ieq a.af 0;let c:=aB<|nB a.Write;let g:=aB<|cond (ieq a.Kind a.Kind) (cond b (cond (ziu a.Write false) (ieq a.N 0) false) false) false; (cond (ieq a.Kind 0) (cond (ieq a.Kind 0) (some [g])<|cond (ieq a.Kind 1) (oN (zM a.af 0 3)<|cond (zi a.af 0 3) (some [aB<|ieq a.N 0]) oF)<|cond d (cond d (oN e<|cond f (cond b (some [c]) oF) oF) oF)<|cond (ieq a.Kind 3) (oN e<|cond f (cond b (some [c]) oF) oF) oF)<|cond (ieq a.Kind 4) (some [g])<|cond (ieq a.Kind 1) (oN (zM a.af 0 3)<|cond (zi a.af 0 3) (some [aB<|ieq a.N 0]) oF)<|cond d (cond d (oN e<|cond f (cond b (some [c]) oF) oF) oF)<|cond (ieq a.Kind 3) (oN e<|cond f (cond b (some [c]) oF) oF) oF)
def zSl (a:aD)(b:zsb a=true):∃N,zHE N a=some [aB<|zkR a]:=by
 refine⟨0,?_⟩;unfold zHE oN nB;conv=>zeta
 refine br (λ_=>br (λ_=>?_) λ_=>br (λ_=>j0 rfl (br (λ_=>?_) λ_=>?_)) λ_=>br (λ_=>br (λ_=>j0 rfl (br (λ_=>br (λ_=>?_) λ_=>?_) λ_=>?_)) λ_=>?_) λ_=>br (λ_=>j0 rfl (br (λ_=>br (λ_=>?_) λ_=>?_) λ_=>?_)) λ_=>?_) (λ_=>br (λ_=>?_) λ_=>br (λ_=>j0 rfl (br (λ_=>?_) λ_=>?_)) λ_=>br (λ_=>br (λ_=>j0 rfl (br (λ_=>br (λ_=>?_) λ_=>?_) λ_=>?_)) λ_=>?_) λ_=>br (λ_=>j0 rfl (br (λ_=>br (λ_=>?_) λ_=>?_) λ_=>?_)) λ_=>?_);all_goals first|rfl|(simp only [*,zkR,zhI,cT,cF]<;>rfl)|simp_all[Ty.cells,zkR,zhI]
def zLF:vM 105 znZ:=kF1 zgB zC zA zq (zu []) zSl
def zHr (N:Nat)(a:aD):OA:=
 let g:=zi a.N 0 99;let f:=zM a.N 0 99;let e:=ieq a.Kind 2;let d:=aB<|ieq a.N 0;let b:=ieq a.af 0;let c:=aB<|nB a.Write; (cond (ieq a.Kind 0) (cond (ieq a.Kind 0) (cond b (cond (nB a.Write) (some [d]) oF) oF)<|cond (ieq a.Kind 1) (oN (zM a.af 0 3)<|cond (zi a.af 0 3) (some [d]) oF)<|cond e (cond e (oN f<|cond g (cond b (some [c]) oF) oF) oF)<|cond (ieq a.Kind 3) (oN f<|cond g (cond b (some [c]) oF) oF) oF)<|cond (ieq a.Kind 4) (cond b (cond (nB a.Write) (some [d]) oF) oF)<|cond (ieq a.Kind 1) (oN (zM a.af 0 3)<|cond (zi a.af 0 3) (some [d]) oF)<|cond e (cond e (oN f<|cond g (cond b (some [c]) oF) oF) oF)<|cond (ieq a.Kind 3) (oN f<|cond g (cond b (some [c]) oF) oF) oF)
def zR9 (a:aD)(b:zsb a=true):∃N,zHr N a=some [aB<|zkR a]:=by
 refine⟨0,?_⟩;unfold zHr oN nB;conv=>zeta
 refine br (λ_=>br (λ_=>br (λ_=>brN (λ_=>?_) λ_=>?_) λ_=>?_) λ_=>br (λ_=>j0 rfl (br (λ_=>?_) λ_=>?_)) λ_=>br (λ_=>br (λ_=>j0 rfl (br (λ_=>br (λ_=>?_) λ_=>?_) λ_=>?_)) λ_=>?_) λ_=>br (λ_=>j0 rfl (br (λ_=>br (λ_=>?_) λ_=>?_) λ_=>?_)) λ_=>?_) (λ_=>br (λ_=>br (λ_=>brN (λ_=>?_) λ_=>?_) λ_=>?_) λ_=>br (λ_=>j0 rfl (br (λ_=>?_) λ_=>?_)) λ_=>br (λ_=>br (λ_=>j0 rfl (br (λ_=>br (λ_=>?_) λ_=>?_) λ_=>?_)) λ_=>?_) λ_=>br (λ_=>j0 rfl (br (λ_=>br (λ_=>?_) λ_=>?_) λ_=>?_)) λ_=>?_);all_goals first|rfl|(simp only [*,zkR,zhI,cT,cF]<;>rfl)|simp_all[Ty.cells,zkR,zhI]
def zLr:vM 160 znZ:=kF1 zgB zC zA zq (zu []) zR9
def zt7 (c:Ctl):LI:=(cond (zi c.aq 0 3) [] [1])++((cond (zi c.Post 0 255) [] [2])++((cond (ine c.Post 0) (cond c.Open [] [3]) [])++(cond (ieq c.aq 2) (cond (ine c.Post 0) [4] []) [])))
@[simp] def z94 {a:Type}(x:a)(l m:List a):ap (x::l) m=x::ap l m:=rfl
@[simp] abbrev zfN (c:Ctl):Bool:=true
@[simp] abbrev zma (c:Ctl):LI:=zt7 c
def zke:Run:=rF1 dC λb=>(zfN b,[aS .int<|zma b])
def zy1 (N:Nat)(b:Ctl):OA:=
 let e:=aS .int [];let k:=ap (ap [] [2]) [4];let j:=ap (ap [] [1]) [4];let i:=aS .int<|ap [] [2];let h:=aS .int<|ap [] [1];let g:=ap (ap [] [2]) [3];let f:=ap (ap [] [1]) [3];let c:=ieq b.aq 2;let a:=ine b.Post 0;let d:=ap (ap [] [1]) [2];let l:=aS .int d; (oN (zM b.aq 0 3)<|cond (nB<|zi b.aq 0 3) (oN (few<|ln<|ap [] [1])<|oN (zM b.Post 0 255)<|cond (nB<|zi b.Post 0 255) (oN (few<|ln d)<|cond a (cond (nB b.Open) (oN (few<|ln<|ap d [3])<|cond c (cond a (oN (few<|ln<|ap (ap d [3]) [4])<|some [aS .int<|ap (ap d [3]) [4]])<|some [aS .int<|ap d [3]])<|some [aS .int<|ap d [3]])<|cond c (cond a (oN (few<|ln<|ap d [4])<|some [aS .int<|ap d [4]])<|some [l])<|some [l])<|cond c (cond a (oN (few<|ln<|ap d [4])<|some [aS .int<|ap d [4]])<|some [l])<|some [l])<|cond a (cond (nB b.Open) (oN (few<|ln f)<|cond c (cond a (oN (few<|ln<|ap f [4])<|some [aS .int<|ap f [4]])<|some [aS .int f])<|some [aS .int f])<|cond c (cond a (oN (few<|ln j)<|some [aS .int j])<|some [h])<|some [h])<|cond c (cond a (oN (few<|ln j)<|some [aS .int j])<|some [h])<|some [h])<|oN (zM b.Post 0 255)<|cond (nB<|zi b.Post 0 255) (oN (few<|ln<|ap [] [2])<|cond a (cond (nB b.Open) (oN (few<|ln g)<|cond c (cond a (oN (few<|ln<|ap g [4])<|some [aS .int<|ap g [4]])<|some [aS .int g])<|some [aS .int g])<|cond c (cond a (oN (few<|ln k)<|some [aS .int k])<|some [i])<|some [i])<|cond c (cond a (oN (few<|ln k)<|some [aS .int k])<|some [i])<|some [i])<|cond a (cond (nB b.Open) (oN (few<|ln<|ap [] [3])<|cond c (cond a (oN (few<|ln<|ap (ap [] [3]) [4])<|some [aS .int<|ap (ap [] [3]) [4]])<|some [aS .int<|ap [] [3]])<|some [aS .int<|ap [] [3]])<|cond c (cond a (oN (few<|ln<|ap [] [4])<|some [aS .int<|ap [] [4]])<|some [e])<|some [e])<|cond c (cond a (oN (few<|ln<|ap [] [4])<|some [aS .int<|ap [] [4]])<|some [e])<|some [e])
def zuw (a:Ctl)(b:zbV big [.agg<|zlP a])(c:zfN a=true):∃N,zy1 N a=some [aS .int<|zma a]:=by
 refine⟨0,?_⟩;unfold zy1 oN nB;conv=>zeta
 refine j0 rfl (brN (λ_=>mu (j0 rfl (brN (λ_=>mu (br (λ_=>brN (λ_=>mu (br (λ_=>br (λ_=>mu ?_) λ_=>?_) λ_=>?_)) λ_=>br (λ_=>br (λ_=>mu ?_) λ_=>?_) λ_=>?_) λ_=>br (λ_=>br (λ_=>mu ?_) λ_=>?_) λ_=>?_)) λ_=>br (λ_=>brN (λ_=>mu (br (λ_=>br (λ_=>mu ?_) λ_=>?_) λ_=>?_)) λ_=>br (λ_=>br (λ_=>mu ?_) λ_=>?_) λ_=>?_) λ_=>br (λ_=>br (λ_=>mu ?_) λ_=>?_) λ_=>?_))) λ_=>j0 rfl (brN (λ_=>mu (br (λ_=>brN (λ_=>mu (br (λ_=>br (λ_=>mu ?_) λ_=>?_) λ_=>?_)) λ_=>br (λ_=>br (λ_=>mu ?_) λ_=>?_) λ_=>?_) λ_=>br (λ_=>br (λ_=>mu ?_) λ_=>?_) λ_=>?_)) λ_=>br (λ_=>brN (λ_=>mu (br (λ_=>br (λ_=>mu ?_) λ_=>?_) λ_=>?_)) λ_=>br (λ_=>br (λ_=>mu ?_) λ_=>?_) λ_=>?_) λ_=>br (λ_=>br (λ_=>mu ?_) λ_=>?_) λ_=>?_));all_goals first|rfl|(simp only [*,zma,zt7,cT,cF]<;>rfl)|simp_all[Ty.cells,zma,zt7]
def zDj:vM 143 zke:=hF1 zgB zC zA zq (zu []) zuw
def zC8:vM 186 zke:=hF1 zgB zC zA zq (zu []) zuw
def zgM (p n:Int):Bool:=ieq (wand .i64 (zCu .i64 p n) 1) 1
def scan (p:Int):Int:=bif zgM p 7 then 7 else (cond (zgM p 6) 6<|cond (zgM p 5) 5<|cond (zgM p 4) 4<|cond (zgM p 3) 3<|cond (zgM p 2) 2<|cond (zgM p 1) 1<|cond (zgM p 0) 0<|-1)
def z3l:∀n:Fin 256,-1<=scan (n.val:Int)/\scan (n.val:Int)<=7/\(0<=scan (n.val:Int)->wsub .i64 (n.val:Int) (zoZ .i64 1<|scan (n.val:Int))=zK4 .i64 (n.val:Int) (zoZ .i64 1<|scan (n.val:Int))):=by decide +kernel
def z0y {P:Int->Prop}(h:∀n:Fin 256,P (n.val:Int)){x:Int}(a:0<=x)(b:x<=255):P x:=by have:=h ⟨x.toNat,by omega⟩;have e:((x.toNat:Nat):Int)=x:=(by omega);simpa [e] using this
def z4G:zW:=[(214,zBW),(62,zmx),(124,zmx),(61,zn4),(123,zn4),(142,zqb),(185,zqb),(105,znZ),(160,znZ),(143,zke),(186,zke)]++z4F
def zhc:zL z4G:=zh zLE (zh zI2<|zh zII<|zh zLN<|zh zLx<|zh zPa<|zh zO1<|zh zLF<|zh zLr<|zh zDj<|zh zC8 zgB)
def zhO (m:List LI)(n:Int):Bool:=bif m.all zcq then ieq (ln m) n else false
@[simp] abbrev zkT (m:List LI)(n:Int):Bool:=true
@[simp] abbrev zfY (m:List LI)(n:Int):Bool:=zhO m n
def zqc:Run:=rF2 (dS<|.sl .int) dI λb c=>(zkT b c,[aB<|zfY b c])
def zNI (N:Nat)(c:lM)(d:Int):OA:=
 (iter (σ:=(Int×Int×lM×Unit)) N (λe a=>let b:=a.2.2.1; (cond (ilt a.2.1<|ln b) (oN (inb a.2.1<|ln b)<|oN (zdA<|ix b a.2.1 [])<|cond (nB<|zc0<|ix b a.2.1 []) oF<|e (a.1,zO .i64 a.2.1 1,b,()))<|some [aB<|ieq (ln b) a.1])) (d,0,c,()))
def zVI:=zu [(34,0,{n:=22,tm:=[(0,.sl 0 []),(1,ti),(5,ti)],lo:=[],ro:=[(0,.sl .int,false)]})]
def zUW (a:List LI)(c:Int)(h:zbV big [aS (.sl .int) a,aI c])(k:zkT a c=true):∃N,zNI N a c=some [aB<|zfY a c]:=by
 have g:(_:List _).length<=big:=((zdv h).1 _ (qD.2 rfl)).len;refine zct λN f=>?_;unfold zNI oN nB;conv=>zeta
 refine(zbo a (λi (t:Unit)=>(c,(i:Int),a,())) _ (λ_ x (_:Unit) j=>bif (zcq) x then j () else oF) (λ(t:Unit)=>some [.one<|.b<|ieq (ln a) c]) (λi d t rec=>?_) (λt rec=>?_) _ ()<|f g).trans ?_;{simp only [zbx d,zbe d,zbl d,zbg d g,cT];exact zi2 rfl};{simp only [zbp,cF]};rw[zg5<|zcq];refine br (λe=>?_) (λe=>?_);{first|rfl|(simp only [e,zfY,zhO,cT,cF]<;>rfl)|(simp_all [Ty.cells,zfY,zhO];done)};{first|rfl|(simp only [e,zfY,zhO,cT,cF]<;>rfl)|(simp_all [Ty.cells,zfY,zhO];done)}
def zPb:vM 34 zqc:=hF2 zhc zC zA zq zVI zUW
def zNA (N:Nat)(c:lM)(d:Int):OA:=
 (iter (σ:=(Int×Int×Int×lM×Unit)) N (λe a=>let b:=a.2.2.2.1; (cond (ilt a.2.2.1 a.2.1) (oN (inb a.2.2.1<|ln b)<|oN (zdA<|ix b a.2.2.1 [])<|cond (nB<|zc0<|ix b a.2.2.1 []) oF<|e (a.1,a.2.1,zO .i64 a.2.2.1 1,b,()))<|some [aB<|ieq (ln b) a.1])) (d,ln c,0,c,()))
def zVG:=zu [(77,0,{n:=21,tm:=[(0,.sl 0 []),(1,ti),(7,.sl 0 []),(8,ti),(9,ti)],lo:=[],ro:=[(0,.sl .int,false)]})]
def zUP (a:List LI)(c:Int)(h:zbV big [aS (.sl .int) a,aI c])(k:zkT a c=true):∃N,zNA N a c=some [aB<|zfY a c]:=by
 have g:(_:List _).length<=big:=((zdv h).1 _ (qD.2 rfl)).len;refine zct λN f=>?_;unfold zNA oN nB;conv=>zeta
 refine(zbo a (λi (t:Unit)=>(c,ln a,(i:Int),a,())) _ (λ_ x (_:Unit) j=>bif (zcq) x then j () else oF) (λ(t:Unit)=>some [.one<|.b<|ieq (ln a) c]) (λi d t rec=>?_) (λt rec=>?_) _ ()<|f g).trans ?_;{simp only [zbx d,zbe d,zbl d,zbg d g,cT];exact zi2 rfl};{simp only [zbp,cF]};rw[zg5<|zcq];refine br (λe=>?_) (λe=>?_);{first|rfl|(simp only [e,zfY,zhO,cT,cF]<;>rfl)|(simp_all [Ty.cells,zfY,zhO];done)};{first|rfl|(simp only [e,zfY,zhO,cT,cF]<;>rfl)|(simp_all [Ty.cells,zfY,zhO];done)}
def zO2:vM 77 zqc:=hF2 zhc zC zA zq zVG zUP
def zdk (p:List Ins):Bool:=bif p.all zei then zi (ln p) 1 12 else false
@[simp] abbrev zsg (p:List Ins):Bool:=true
@[simp] abbrev zgG (p:List Ins):Bool:=zdk p
def zn6:Run:=rF1 (dS .ins) λb=>(zsg b,[aB<|zgG b])
def zHQ (N:Nat)(c:lI):OA:=
 (iter (σ:=(Int×lI×Unit)) N (λd a=>let b:=ix a.2.1 a.1 zsn; (cond (ilt a.1<|ln a.2.1) (oN (inb a.1<|ln a.2.1)<|oN (zu4 b)<|cond (nB<|zsw b) oF<|d (zO .i64 a.1 1,a.2.1,()))<|oN (zM (ln a.2.1) 1 12)<|some [aB<|zi (ln a.2.1) 1 12])) (0,c,()))
def zT9:=zu [(103,0,{n:=19,tm:=[(0,.sl 0 []),(3,ti)],lo:=[],ro:=[(0,.ins,false)]})]
def zSx (a:List Ins)(g:zbV big [aS .ins a])(j:zsg a=true):∃N,zHQ N a=some [aB<|zgG a]:=by
 have f:(_:List _).length<=big:=((zdv g).1 _ (qD.2 rfl)).len;refine zct λN e=>?_;unfold zHQ oN nB;conv=>zeta
 refine(zbo a (λi (t:Unit)=>((i:Int),a,())) _ (λ_ x (_:Unit) h=>bif (zei) x then h () else oF) (λ(t:Unit)=>cond (zM (ln a) 1 12) (some [.one<|.b<|zi (ln a) 1 12]) none) (λi c t rec=>?_) (λt rec=>?_) _ ()<|e f).trans ?_;{simp only [zbx c,zbe c,zbl c,zbg c f,cT];exact zi2 rfl};{simp only [zbp,cF]};rw[zg5<|zei];refine br (λd=>?_) (λd=>?_);{refine j0 rfl ?_;first|rfl|(simp only [d,zgG,zdk,cT,cF]<;>rfl)|(simp_all [Ty.cells,zgG,zdk];done)};{first|rfl|(simp only [d,zgG,zdk,cT,cF]<;>rfl)|(simp_all [Ty.cells,zgG,zdk];done)}
def zLP:vM 103 zn6:=hF1 zhc zC zA zq zT9 zSx
def zHx (N:Nat)(b:lI):OA:=
 (iter (σ:=(Int×Int×lI×Unit)) N (λd a=>let c:=ix a.2.2.1 a.2.1 zsn; (cond (ilt a.2.1 a.1) (oN (inb a.2.1<|ln a.2.2.1)<|oN (zu4 c)<|cond (nB<|zsw c) oF<|d (a.1,zO .i64 a.2.1 1,a.2.2.1,()))<|oN (zM (ln a.2.2.1) 1 12)<|some [aB<|zi (ln a.2.2.1) 1 12])) (ln b,0,b,()))
def zT1:=zu [(158,0,{n:=18,tm:=[(0,.sl 0 []),(5,.sl 0 []),(6,ti),(7,ti)],lo:=[],ro:=[(0,.ins,false)]})]
def zSf (a:List Ins)(g:zbV big [aS .ins a])(j:zsg a=true):∃N,zHx N a=some [aB<|zgG a]:=by
 have f:(_:List _).length<=big:=((zdv g).1 _ (qD.2 rfl)).len;refine zct λN e=>?_;unfold zHx oN nB;conv=>zeta
 refine(zbo a (λi (t:Unit)=>(ln a,(i:Int),a,())) _ (λ_ x (_:Unit) h=>bif (zei) x then h () else oF) (λ(t:Unit)=>cond (zM (ln a) 1 12) (some [.one<|.b<|zi (ln a) 1 12]) none) (λi c t rec=>?_) (λt rec=>?_) _ ()<|e f).trans ?_;{simp only [zbx c,zbe c,zbl c,zbg c f,cT];exact zi2 rfl};{simp only [zbp,cF]};rw[zg5<|zei];refine br (λd=>?_) (λd=>?_);{refine j0 rfl ?_;first|rfl|(simp only [d,zgG,zdk,cT,cF]<;>rfl)|(simp_all [Ty.cells,zgG,zdk];done)};{first|rfl|(simp only [d,zgG,zdk,cT,cF]<;>rfl)|(simp_all [Ty.cells,zgG,zdk];done)}
def zLz:vM 158 zn6:=hF1 zhc zC zA zq zT1 zSf
def zld (c:Ctl):Bool:=ieq (ln<|zt7 c) 0
@[simp] abbrev zpB (c:Ctl):Bool:=zld c
def zqa:Run:=rF1 dC λb=>(zfN b,[aB<|zpB b])
def zNE (N:Nat)(a:Ctl):OA:=
 (oN (zfN a)<|some [aB<|ieq (ln<|zma a) 0])
def zET (a:Ctl)(b:zbV big [.agg<|zlP a])(c:zfN a=true):∃N,zNE N a=some [aB<|zpB a]:=by refine⟨0,?_⟩;unfold zNE oN;refine j0 rfl ?_;first|rfl|(simp only [*,zpB,zld,cT,cF]<;>rfl)|simp_all[Ty.cells,zpB,zld]
def zO7:vM 104 zqa:=hF1 zhc zC zA zq (zu []) zET
def zO0:vM 159 zqa:=hF1 zhc zC zA zq (zu []) zET
def zd8 (p:Int):Int:=bif zdH p then scan p else -1
def zWP {x:Int}(a:0<=x)(b:x<=255):wcv .u64 x=x:=z0y (P:=λx=>wcv .u64 x=x) (by decide +kernel) a b
@[simp] abbrev zmY (p:Int):Int:=zd8 p
def zB3:Run:=rF1 dI λb=>(zcX b,[aI<|zmY b])
def zHV (N:Nat)(b:Int):OA:=
 (iter (σ:=(Int×Int×Unit)) N (λc a=>cond (ige a.2.1 0) (oN (zcX a.1)<|cond (ze4 a.1) (oN (ile 0<|wcv .u64 a.2.1)<|cond (ieq (wand .i64 (zCu .i64 a.1<|wcv .u64 a.2.1) 1) 1) (some [aI a.2.1])<|c (a.1,wsub .i64 a.2.1 1,()))<|some [aI<|-1])<|some [aI<|-1]) (b,7,()))
def zUb:=zu [(241,0,{n:=19,tm:=[(0,ti),(3,ti)],lo:=[],ro:=[]})]
def zSC (a:Int)(C:zcX a=true):∃N,zHV N a=some [aI<|zmY a]:=by refine⟨10,?_⟩;unfold zHV oN;cases h:zdH a;{rw [zdJ];refine j0 rfl ?_;refine j0 rfl ?_;refine zdM h ?_;simp[zd8,h]};{have c:ze4 a=true:=h;rw[zdJ];refine j0 rfl (j0 rfl (j0 c (j0 rfl (br (λr=>?_) λr=>?_))));{have A:zgM a 7=true:=r;simp[zd8,h,scan,A]};have b:zgM a 7=false:=r;show iter 9 _ (a,6,())=_;rw[zdJ];refine j0 rfl (j0 rfl (j0 c (j0 rfl (br (λq=>?_) λq=>?_))));{have z:zgM a 6=true:=q;simp[zd8,h,scan,z,b]};have d:zgM a 6=false:=q;show iter 8 _ (a,5,())=_;rw[zdJ];refine j0 rfl (j0 rfl (j0 c (j0 rfl (br (λp=>?_) λp=>?_))));{have y:zgM a 5=true:=p;simp[zd8,h,scan,y,b,d]};have e:zgM a 5=false:=p;show iter 7 _ (a,4,())=_;rw[zdJ];refine j0 rfl (j0 rfl (j0 c (j0 rfl (br (λn=>?_) λn=>?_))));{have x:zgM a 4=true:=n;simp[zd8,h,scan,x,b,d,e]};have f:zgM a 4=false:=n;show iter 6 _ (a,3,())=_;rw[zdJ];refine j0 rfl (j0 rfl (j0 c (j0 rfl (br (λm=>?_) λm=>?_))));{have w:zgM a 3=true:=m;simp[zd8,h,scan,w,b,d,e,f]};have g:zgM a 3=false:=m;show iter 5 _ (a,2,())=_;rw[zdJ];refine j0 rfl (j0 rfl (j0 c (j0 rfl (br (λl=>?_) λl=>?_))));{have v:zgM a 2=true:=l;simp[zd8,h,scan,v,b,d,e,f,g]};have i:zgM a 2=false:=l;show iter 4 _ (a,1,())=_;rw[zdJ];refine j0 rfl (j0 rfl (j0 c (j0 rfl (br (λk=>?_) λk=>?_))));{have u:zgM a 1=true:=k;simp[zd8,h,scan,u,b,d,e,f,g,i]};have s:zgM a 1=false:=k;show iter 3 _ (a,0,())=_;rw[zdJ];refine j0 rfl (j0 rfl (j0 c (j0 rfl (br (λj=>?_) λj=>?_))));{have t:zgM a 0=true:=j;simp[zd8,h,scan,t,b,d,e,f,g,i,s]};have B:zgM a 0=false:=j;show iter 2 _ (a,-1,())=_;rw[zdJ];refine zdM rfl ?_;simp[zd8,h,scan,b,d,e,f,g,i,s,B]}
def zLU:vM 241 zB3:=kF1 zhc zC zA zq zUb zSC
def zbL {c:Cur}{i k:Int}(h:zbd c)(a:0<=i):zbd ⟨c.b,i,k⟩:=⟨a,h.2⟩
def zWq {c:Cur}(h:zbd c){l:LI}(a:l≠[]):zbm c l∈l:=(zxl<|zeE h a).2.2 (kU.2 a)
def zfT {c:Cur}(h:zbd c){n:Int}(a:0<n):0<=zn c n/\zn c n<n:=(zhn<|zbB h n).2.2 a
def zJs {o x:Int}(h:(o=1\/o=2\/o=5\/o=6)/\0<=x/\x<=99\/(o=3\/o=4)/\0<=x/\x<=15\/o=8/\0<=x/\x<=11):zei ⟨o,x⟩=true:=by have w:∀{a b:Int},a<=x->x<=b->zi x a b=true:=λc d=>(by simp only[zi,ige,ile,qE,q0];exact⟨c,d⟩);rcases h with⟨h|h|h|h,c,d⟩|⟨h|h,c,d⟩|⟨h,c,d⟩<;>subst h<;>exact w c d
def zxA (N:Nat)(c:Cur)  : OA :=
 let d:=zbm c [1,2,3,3,3,4,4,4,5,6,8];let a:=({ (zba c [1,2,3,3,3,4,4,4,5,6,8]) with b:=c.b}:Cur); (p0 (oN (zB a 16)<|some [.agg [.s .u8 c.b,.i .i64 (zf a 16).i,.i .i64 (zf a 16).h],.agg [.i .i64 d,.i .i64<|zn a 16]]) λf=>p0 (cond (ieq d 8) (oN (zB a 4)<|some [.agg [.s .u8 c.b,.i .i64 (zf a 4).i,.i .i64 (zf a 4).h],.agg [.i .i64 d,.i .i64<|zn a 4]])<|oN (zB a 100)<|some [.agg [.s .u8 c.b,.i .i64 (zf a 100).i,.i .i64 (zf a 100).h],.agg [.i .i64 d,.i .i64<|zn a 100]]) λe=>oN (zbt c [1,2,3,3,3,4,4,4,5,6,8])<|cond (ieq d 3) (cond (ieq d 3) f e)<|cond (ieq d 4) f e)
def zqv (c:Cur)(s:Cur)(a:Ins):Prop:=(∃N,zxA N c=some (AV.agg (zbU s)::[aT .ins a]))/\(s.b=c.b/\0<=s.i)/\(zei a=true)
def zjn (c:Cur)  : Bool:=wC (zqv c)
def zge (c:Cur)  : Cur:=wS (zqv c)
def zf0 (c:Cur)  : Ins:=wV (zqv c)
def zKo {c:Cur}(h:zjn c=true):zqv c (zge c) (zf0 c):=wG h
def zyD (c:Cur)  : 0<=(zge c).i:=wP λh=>h.2.1.2
def zYk (c:Cur)(h:∃N,Ends (wE (λa=>aT .ins a) c.b λa=>zei a=true)<|zxA N c):zjn c=true:=wI (λ_ _ h=>h) h
def zzj:zdU:=rP0 λc=>(zjn c,zge c,[aT .ins<|zf0 c])
def zL0:zbR Tryz.prog 154 [false,true,true] zzj:=hP0 zdo zT zS1 zq (zu []) (λ_ h=>(zKo h).1)
def zQz {c:Cur}(h:zbd c):zjn c=true:=by
 refine zYk c ⟨0,?_⟩;have p:([1,2,3,3,3,4,4,4,5,6,8]:LI)≠[]:=(by simp);have q:=zWq h p;have f:zbd {zba c [1,2,3,3,3,4,4,4,5,6,8] with b:=c.b}:=zbL h (zbS _ _);have t:=zfT f (n:=16) (by omega);have w:=zfT f (n:=4) (by omega);have m:=zfT f (n:=100) (by omega);unfold zxA oN;conv=>zeta
 generalize zbm c [1,2,3,3,3,4,4,4,5,6,8]=o at q;simp only[qG,qO,or_false]at q;have j:∀{n:Int},ieq o n=false->o≠n:=λh e=>(by subst e;simp[ieq]at h);have k:∀{n:Int},ieq o n=true->o=n:=λh=>by simpa [ieq] using h
 have L:∀(n:Int),0<n->(zei ⟨o,zn {zba c [1,2,3,3,3,4,4,4,5,6,8] with b:=c.b} n⟩=true)->Ends (λa=>∃s r,a=(AV.agg (zbU s)::[aT .ins r])/\(s.b=c.b/\0<=s.i)/\zei r=true)
  (cond (zB {zba c [1,2,3,3,3,4,4,4,5,6,8] with b:=c.b} n) (some (AV.agg [.s .u8 c.b,.i .i64 (zf {zba c [1,2,3,3,3,4,4,4,5,6,8] with b:=c.b} n).i,.i .i64 (zf {zba c [1,2,3,3,3,4,4,4,5,6,8] with b:=c.b} n).h]::[.agg [.i .i64 o,.i .i64<|zn {zba c [1,2,3,3,3,4,4,4,5,6,8] with b:=c.b} n]])) none):=
  λn x u=>zy (zbB f n) (zbG (aT .ins) (v:=⟨o,zn _ n⟩) (zD _ _) u)
 refine zy (zeE h p) (zbE (λg=>zbE (λ_=>L 16 (by omega) (zJs ?_)) λd=>absurd (k g) (j d)) λg=>zbE (λd=>L 16 (by omega) (zJs ?_)) λd=>zbE (λl=>L 4 (by omega) (zJs ?_)) λl=>L 100 (by omega) (zJs ?_));{have:=k g;omega};{have:=k d;omega};{have:=k l;omega};{have:=j g;have:=j d;have:=j l;omega}
def z5o:zcQ:=[(154,[false,true,true],zzj)]++z5n
def zS2:zb2 z5o:=zcp zS1 (by
 intro x a;simp only[qG,qO,or_false]at a;rcases a with rfl
 .exact zL0)
def zha {x y:Int}(a:0<=x)(b:x<=1000000)(c:0<=y)(d:y<=1000000):zO .i64 x y=x+y:=zsy (by omega) (by omega)
def zks {a:Type}{l:List a}(h:ln l<=1000000):few (ln l)=true:=qK ⟨by unfold ln;omega,by omega⟩
def zht {a:Type}(l:List a)(x:a):ln (ap l [x])=ln l+1:=by simp[ln,ap]
def zvn (N:Nat)(c:Cur)  : OA :=
 (iter (σ:=(Int×Int×Int×lI×LI×Unit)) N (λj d=>let e:=d.2.2.2.1;let f:=d.2.2.2.2.1;let g:=(⟨f,d.2.1,d.2.2.1⟩:Cur);let a:=({ (zf g 7) with b:=f}:Cur); (oN (zB g 7)<|cond (ilt d.1<|zO .i64 2<|zn g 7) (oN (zjn a)<|oN (few<|ln<|ap e [zf0 a])<|j (zO .i64 d.1 1,(zge a).i,(zge a).h,ap e [zf0 a],f,()))<|oN (zcZ a 3)<|cond (zc7 a 3) (oN (few<|ln<|ap e [(⟨7,0⟩:Ins)])<|some [.agg [.s .u8 f,.i .i64 (zQ a 3).i,.i .i64 (zQ a 3).h],aS .ins<|ap e [(⟨7,0⟩:Ins)]])<|oN (few<|ln<|ap e [(⟨8,0⟩:Ins)])<|some [.agg [.s .u8 f,.i .i64 (zQ a 3).i,.i .i64 (zQ a 3).h],aS .ins<|ap e [(⟨8,0⟩:Ins)]])) (0,c.i,c.h,[],c.b,()))
def zQo:=zu [(150,0,{n:=29,tm:=[(0,.lp 0 0),(3,.sl 0 []),(4,ti)],lo:=[(0,[.sl 1 [],ti,ti])],ro:=[(0,.ins,true),(1,.u8,false)]})]
def zoG (c:Cur)(s:Cur)(a:List Ins):Prop:=(∃N,zvn N c=some (AV.agg (zbU s)::[aS .ins a]))/\(s.b=c.b/\0<=s.i)/\(zdk a=true)
def zgY (c:Cur)  : Bool:=wC (zoG c)
def zZ (c:Cur)  : Cur:=wS (zoG c)
def zb1 (c:Cur)  : List Ins:=wV (zoG c)
def zqw {c:Cur}(h:zgY c=true):zoG c (zZ c) (zb1 c):=wG h
def zii (c:Cur)  : 0<=(zZ c).i:=wP λh=>h.2.1.2
def zVm (c:Cur)(h:∃N,Ends (wE (λa=>aS .ins a) c.b λa=>zdk a=true)<|zvn N c):zgY c=true:=wI (λ_ _ h=>h) h
def zwO:zdU:=rP0 λc=>(zgY c,zZ c,[aS .ins<|zb1 c])
def zJc:zbR Tryz.prog 150 [false,true,true] zwO:=hP0 zdo zT zS2 zq zQo (λ_ h=>(zqw h).1)
def zBP {c:Cur}(h:zbd c):zgY c=true:=by
 refine zVm c ⟨9,?_⟩;unfold zvn oN;conv=>zeta
 refine zlV (λn s=>s.1+(n:Int)=8/\0<=s.1/\0<=s.2.1/\(∀x∈s.2.2.2.1,zei x=true)/\ln s.2.2.2.1=s.1/\s.2.2.2.2.1=c.b) ?_ 9 8 _ ⟨rfl,kP 0,h.1,by simp,rfl,rfl⟩ (by omega);rintro n ⟨t,i,k,l,b,u⟩ rec ⟨B,g,v,j,w,z⟩ f;dsimp only at B g v j w z ⊢;subst z;have a:zbd ⟨c.b,i,k⟩:=zbL h v;have d:=zfT a (n:=7) (by omega);have A:=zha (x:=2) (by omega) (by omega) d.1 (by omega);have m:zbd {zf ⟨c.b,i,k⟩ 7 with b:=c.b}:=zbL h (zD _ _);have e:∀(y:Ins),zei y=true->2<=t->zdk (ap l [y])=true:=(by intro y C D;unfold zdk;rw[zht,w];have:(ap l [y]).all zei=true:=(by simp only[ap,List.all_append,j9,List.all_nil,vE,qE];exact⟨qM.2 j,C⟩);rw[this,cT];simp only[zi,ige,ile,qE,q0];omega);refine zy (zbB a 7) (zbE (λp=>?_) λp=>?_);{have r:t<zO .i64 2 (zn ⟨c.b,i,k⟩ 7):=qF p;rw[A]at r;refine zy (zQz m) (zy (zks (by rw[zht];omega))<|f (n-1) _ (by omega) ⟨?_,?_,zyD _,?_,?_,rfl⟩);{show zO .i64 t 1+_=8;rw[zha g (by omega) (by omega) (by omega)];omega};{show 0<=zO .i64 t 1;rw[zha g (by omega) (by omega) (by omega)];omega};{intro x d;rcases jJ.1 d with d|d;{exact j x d};{rw [qD.1 d];exact(zKo<|zQz m).2.2}};{show ln (ap l [_])=zO .i64 t 1;rw[zht,zha g (by omega) (by omega) (by omega)];omega}};{have q:¬ t<zO .i64 2 (zn ⟨c.b,i,k⟩ 7):=jX p;rw[A]at q;refine zy (ziI m 3) (zbE (λ_=>zy (zks (by rw[zht];omega)) (zbG (aS .ins) (zch _ _) (e _ rfl (by omega)))) λ_=>zy (zks (by rw[zht];omega)) (zbG (aS .ins) (zch _ _) (e _ rfl (by omega))))}
def z5p:zcQ:=[(150,[false,true,true],zwO)]++z5o
def zS3:zb2 z5p:=zcp zS2 (by
 intro x a;simp only[qG,qO,or_false]at a;rcases a with rfl
 .exact zJc)
def zUk {f:Type}{c:Cur}(h:zbd c){P:f->Prop}{fc:Cur->Bool}{fs:Cur->Cur}{fv:Cur->f}(C:∀{c:Cur},zbd c->fc c=true)(D:∀c,0<=(fs c).i)(hg:∀{c:Cur},zbd c->P (fv c)){G:Ans->Prop}{R:Cur->List f->Ans}(B:∀s l,s.b=c.b->0<=s.i->1<=l.length->l.length<=2->(∀x∈l,P x)->G (R s l)){F:(Int×Int×Int×List f×LI×Unit->OA)->Int×Int×Int×List f×LI×Unit->OA}(A:∀rec t i k l,F rec (t,i,k,l,c.b,())=bif zB ⟨c.b,i,k⟩ 2 then (bif ilt t (zO .i64 1 (zn ⟨c.b,i,k⟩ 2)) then (bif fc { zf ⟨c.b,i,k⟩ 2 with b:=c.b } then (bif few (ln (ap l [fv { zf ⟨c.b,i,k⟩ 2 with b:=c.b }])) then
        rec (zO .i64 t 1,(fs {zf ⟨c.b,i,k⟩ 2 with b:=c.b}).i,(fs {zf ⟨c.b,i,k⟩ 2 with b:=c.b}).h,ap l [fv {zf ⟨c.b,i,k⟩ 2 with b:=c.b}],c.b,()) else none) else none) else some (R ⟨c.b,(zf ⟨c.b,i,k⟩ 2).i,(zf ⟨c.b,i,k⟩ 2).h⟩ l)) else none) :
 Ends G (iter 3 F (0,c.i,c.h,[],c.b,())):=by
 refine zlV (fun n s=>s.1+(n:Int)=2/\0<=s.1/\0<=s.2.1/\(∀x∈s.2.2.2.1,P x)/\ln s.2.2.2.1=s.1/\s.2.2.2.2.1=c.b) ?_ 3 2 _ ⟨rfl,kP 0,h.1,by simp,rfl,rfl⟩ (by omega)
 rintro n ⟨t,i,k,l,b,u⟩ rec ⟨z,m,p,g,q,r⟩ e
 dsimp only at z m p g q r
 subst r;rw[A];have a:zbd ⟨c.b,i,k⟩:=zbL h p;have d:=zfT a (n:=2) (by omega)
 have w:=zha (x:=1) (by omega) (by omega) d.1 (by omega)
 have v:zbd {zf ⟨c.b,i,k⟩ 2 with b:=c.b}:=zbL h (zD _ _);refine zy (zbB a 2) (zbE (fun j=>?_) (fun j=>?_))
 .have hlt:t<zO .i64 1 (zn ⟨c.b,i,k⟩ 2):=qF j;rw[w]at hlt;have E:=zha (y:=1) m (by omega) (by omega) (by omega)
  refine zy (C v) (zy (zks (by rw[zht];omega)) (e (n-1) _ (by omega) ⟨?_,?_,D _,?_,?_,rfl⟩))
  .show zO .i64 t 1+_=2
   omega
  .show 0<=zO .i64 t 1
   omega
  .intro x d;rcases jJ.1 d with d|d
   .exact g x d
   .rw [qD.1 d];exact hg v
  .show ln (ap l [_])=zO .i64 t 1
   rw[zht];omega
 .have hge:¬ t<zO .i64 1 (zn ⟨c.b,i,k⟩ 2):=jX j;rw[w]at hge;unfold ln at q;exact zsS (B _ l rfl (zD _ _) (by omega) (by omega) g)
def zsH (N:Nat)(c:Cur)  : OA :=
 (iter (σ:=(Int×Int×Int×lP×LI×Unit)) N (λg a=>let f:=a.2.2.2.2.1;let e:=(⟨f,a.2.1,a.2.2.1⟩:Cur);let d:=({ (zf e 2) with b:=f}:Cur); (oN (zB e 2)<|cond (ilt a.1<|zO .i64 1<|zn e 2) (oN (zgY d)<|oN (few<|ln<|ap a.2.2.2.1 [zb1 d])<|g (zO .i64 a.1 1,(zZ d).i,(zZ d).h,ap a.2.2.2.1 [zb1 d],f,()))<|some [.agg [.s .u8 f,.i .i64 (zf e 2).i,.i .i64 (zf e 2).h],aS (.sl .ins) a.2.2.2.1])) (0,c.i,c.h,[],c.b,()))
def zNs:=zu [(145,0,{n:=19,tm:=[(0,.lp 0 0),(3,.sl 0 []),(4,ti)],lo:=[(0,[.sl 1 [],ti,ti])],ro:=[(0,.sl .ins,true),(1,.u8,false)]})]
def zmI (c:Cur)(s:Cur)(a:List (List Ins)):Prop:=(∃N,zsH N c=some (AV.agg (zbU s)::[aS (.sl .ins) a]))/\(s.b=c.b/\0<=s.i)/\(1<=a.length/\a.length<=2/\∀x∈a,zdk x=true)
def ziQ (c:Cur)  : Bool:=wC (zmI c)
def ziR (c:Cur)  : Cur:=wS (zmI c)
def zoP (c:Cur)  : List (List Ins):=wV (zmI c)
def zCf {c:Cur}(h:ziQ c=true):zmI c (ziR c) (zoP c):=wG h
def zTB (c:Cur)  : 0<=(ziR c).i:=wP λh=>h.2.1.2
def zTA (c:Cur)(h:∃N,Ends (wE (λa=>aS (.sl .ins) a) c.b λa=>1<=a.length/\a.length<=2/\∀x∈a,zdk x=true)<|zsH N c):ziQ c=true:=wI (λ_ _ h=>h) h
def zuG:zdU:=rP0 λc=>(ziQ c,ziR c,[aS (.sl .ins)<|zoP c])
def zGy:zbR Tryz.prog 145 [false,true,true] zuG:=hP0 zdo zT zS3 zq zNs (λ_ h=>(zCf h).1)
def zWs {c:Cur}(h:zbd c):ziQ c=true:=by
 refine zTA c ⟨3,?_⟩;unfold zsH oN;conv=>zeta
 exact zUk h (P:=λx=>zdk x=true) (fc:=zgY) (fs:=zZ) (fv:=zb1) (R:=λs l=>AV.agg (zbU s)::[aS (.sl .ins) l]) zBP zii (λh=>(zqw<|zBP h).2.2) (λs l d e a b f=>⟨s,l,rfl,⟨d,e⟩,a,b,f⟩) (λrec t i k l=>rfl)
def z5q:zcQ:=[(145,[false,true,true],zuG)]++z5p
def zS4:zb2 z5q:=zcp zS3 (by
 intro x a;simp only[qG,qO,or_false]at a;rcases a with rfl
 .exact zGy)
def zxF (N:Nat)(c:Cur)  : OA :=
 (iter (σ:=(Int×Int×Int×lQ×LI×Unit)) N (λg a=>let f:=a.2.2.2.2.1;let e:=(⟨f,a.2.1,a.2.2.1⟩:Cur);let d:=({ (zf e 2) with b:=f}:Cur); (oN (zB e 2)<|cond (ilt a.1<|zO .i64 1<|zn e 2) (oN (ziQ d)<|oN (few<|ln<|ap a.2.2.2.1 [zoP d])<|g (zO .i64 a.1 1,(ziR d).i,(ziR d).h,ap a.2.2.2.1 [zoP d],f,()))<|some [.agg [.s .u8 f,.i .i64 (zf e 2).i,.i .i64 (zf e 2).h],aS (.sl<|.sl .ins) a.2.2.2.1])) (0,c.i,c.h,[],c.b,()))
def zUf:=zu [(107,0,{n:=19,tm:=[(0,.lp 0 0),(3,.sl 0 []),(4,ti)],lo:=[(0,[.sl 1 [],ti,ti])],ro:=[(0,.sl<|.sl .ins,true),(1,.u8,false)]})]
def zqB (c:Cur)(s:Cur)(a:List (List<|List Ins)):Prop:=(∃N,zxF N c=some (AV.agg (zbU s)::[aS (.sl<|.sl .ins) a]))/\(s.b=c.b/\0<=s.i)/\(1<=a.length/\a.length<=2/\∀p∈a,1<=p.length/\p.length<=2/\∀x∈p,zdk x=true)
def zoQ (c:Cur)  : Bool:=wC (zqB c)
def zlI (c:Cur)  : Cur:=wS (zqB c)
def ztI (c:Cur)  : List (List<|List Ins):=wV (zqB c)
def zKq {c:Cur}(h:zoQ c=true):zqB c (zlI c) (ztI c):=wG h
def zYw (c:Cur)  : 0<=(zlI c).i:=wP λh=>h.2.1.2
def zYv (c:Cur)(h:∃N,Ends (wE (λa=>aS (.sl<|.sl .ins) a) c.b λa=>1<=a.length/\a.length<=2/\∀p∈a,1<=p.length/\p.length<=2/\∀x∈p,zdk x=true)<|zxF N c):zoQ c=true:=wI (λ_ _ h=>h) h
def zzo:zdU:=rP0 λc=>(zoQ c,zlI c,[aS (.sl<|.sl .ins)<|ztI c])
def zL5:zbR Tryz.prog 107 [false,true,true] zzo:=hP0 zdo zT zS4 zq zUf (λ_ h=>(zKq h).1)
def z3L {c:Cur}(h:zbd c):zoQ c=true:=by
 refine zYv c ⟨3,?_⟩;unfold zxF oN;conv=>zeta
 exact zUk h (P:=λp=>1<=p.length/\p.length<=2/\∀x∈p,zdk x=true) (fc:=ziQ) (fs:=ziR) (fv:=zoP) (R:=λs l=>AV.agg (zbU s)::[aS (.sl<|.sl .ins) l]) zWs zTB (λh=>(zCf<|zWs h).2.2) (λs l d e a b f=>⟨s,l,rfl,⟨d,e⟩,a,b,f⟩) (λrec t i k l=>rfl)
def z5r:zcQ:=[(107,[false,true,true],zzo)]++z5q
def zS5:zb2 z5r:=zcp zS4 (by
 intro x a;simp only[qG,qO,or_false]at a;rcases a with rfl
 .exact zL5)
def zCF {c:Type}{G:c->Prop}{x:Bool}{a b:Option c}(k:Ends G a)(h:x=true:=by first
 |exact zbB (by first|assumption|exact zbL (by assumption) (zD _ _)|exact zbL (by assumption) (zch _ _)|exact zbL (by assumption) (zbS _ _)) _
 |exact ziI (by first|assumption|exact zbL (by assumption) (zD _ _)|exact zbL (by assumption) (zch _ _)) _
 |exact zeE (by first|assumption|exact zbL (by assumption) (zD _ _)) (by simp)):Ends G (cond x a b):=zy h k
def zxC (N:Nat)(c:Cur)  : OA :=
 let f:=zn c 4;let j:=({ (zf c 4) with b:=c.b}:Cur);let e:=zc7 j 4;let d:=zQ j 4;let a:=({d with b:=c.b}:Cur);let g:=({ (zQ a 2) with b:=c.b}:Cur); (oN (zB c 4)<|oN (zcZ j 4)<|cond (nB e) (cond (ine f 2) (oN (zcZ a 2)<|cond (zc7 a 2) (oN (zB g 256)<|some [.agg [.s .u8 c.b,.i .i64 (zf g 256).i,.i .i64 (zf g 256).h],.agg [.i .i64 f,.i .i64<|zn g 256,.b<|nB e]])<|some [.agg [.s .u8 c.b,.i .i64 (zQ a 2).i,.i .i64 (zQ a 2).h],.agg [.i .i64 f,.i .i64 0,.b<|nB e]])<|some [.agg [.s .u8 c.b,.i .i64 d.i,.i .i64 d.h],.agg [.i .i64 f,.i .i64 0,.b<|nB e]])<|some [.agg [.s .u8 c.b,.i .i64 d.i,.i .i64 d.h],.agg [.i .i64 f,.i .i64 0,.b<|nB e]])
def zqy (c:Cur)(s:Cur)(a:Ctl):Prop:=(∃N,zxC N c=some (AV.agg (zbU s)::[.agg<|zlP a]))/\(s.b=c.b/\0<=s.i)/\(True)
def zjo (c:Cur)  : Bool:=wC (zqy c)
def zcc (c:Cur)  : Cur:=wS (zqy c)
def zcy (c:Cur)  : Ctl:=wV (zqy c)
def zYo {c:Cur}(h:zjo c=true):zqy c (zcc c) (zcy c):=wG h
def zyF (c:Cur)  : 0<=(zcc c).i:=wP λh=>h.2.1.2
def zYp (c:Cur)(h:∃N,Ends (wE (λa=>.agg (zlP a)) c.b λa=>True)<|zxC N c):zjo c=true:=wI (λ_ _ h=>h) h
def zzl:zdU:=rP0 λc=>(zjo c,zcc c,[.agg<|zlP<|zcy c])
def zL2:zbR Tryz.prog 151 [false,true,true] zzl:=hP0 zdo zT zS5 zq (zu []) (λ_ h=>(zYo h).1)
def zW6 {c:Cur}(h:zbd c):zjo c=true:=by
 refine zYp c ⟨0,?_⟩;unfold zxC oN nB;conv=>zeta
 refine zCF (zCF<|zbE (λ_=>zbE (λ_=>zCF (zbE (λ_=>zCF (?_)) λ_=>?_)) λ_=>?_) λ_=>?_);all_goals exact zbG (λx=>AV.agg (zlP x)) (v:=⟨_,_,_⟩) (by first|exact zD _ _|exact zch _ _) trivial
def z5s:zcQ:=[(151,[false,true,true],zzl)]++z5r
def zGX:zb2 z5s:=zcp zS5 (by
 intro x a;simp only[qG,qO,or_false]at a;rcases a with rfl
 .exact zL2)
def zea {c:Type}{G:c->Prop}{x:Bool}{a b:Option c}(k:Ends G a)(h:x=true:=by first
 |exact zbB (by first|assumption|exact zbL (by assumption) (zD _ _)|exact zbL (by assumption) (zbS _ _)) _
 |exact zeE (by first|assumption|exact zbL (by assumption) (zD _ _)) (by simp)
 |exact zW6 (zbL (by assumption)<|zD _ _)):Ends G (cond x a b):=zy h k
def zxI (N:Nat)(c:Cur)  : OA :=
 let m:=({ (zf c 2) with b:=c.b}:Cur);let g:=zn c 2;let f:=zn m 2;let u:=({ (zf m 2) with b:=c.b}:Cur);let e:=zf u 24;let d:=zn u 24;let a:=({e with b:=c.b}:Cur);let j:=zf a 8;let l:=({ (zf a 4) with b:=c.b}:Cur);let k:=({j with b:=c.b}:Cur);let t:=({ (zf a 16) with b:=c.b}:Cur);let r:=({ (zba a [16,17]) with b:=c.b}:Cur);let q:=({ (zba a [13,13,14,15]) with b:=c.b}:Cur);let p:=({ (zf k 4) with b:=c.b}:Cur);let n:=({ (zf l 8) with b:=c.b}:Cur); (p0 (oN (zbt a [13,13,14,15])<|oN (zB q 8)<|some [.agg [.s .u8 c.b,.i .i64 (zf q 8).i,.i .i64 (zf q 8).h],.agg [.i .i64<|zbm a [13,13,14,15],.i .i64 g,.i .i64 f,.i .i64<|zn q 8,.i .i64 0,.i .i64 0]]) λA=>p0 (cond (ieq d 16) (oN (zbt a [16,17])<|oN (zB r 4)<|some [.agg [.s .u8 c.b,.i .i64 (zf r 4).i,.i .i64 (zf r 4).h],.agg [.i .i64<|zbm a [16,17],.i .i64 g,.i .i64 f,.i .i64<|zn r 4,.i .i64 0,.i .i64 0]])<|some [.agg [.s .u8 c.b,.i .i64 e.i,.i .i64 e.h],.agg [.i .i64 1,.i .i64 g,.i .i64 f,.i .i64 0,.i .i64 0,.i .i64 0]]) λz=>p0 (oN (zB a 4)<|oN (zB l 8)<|oN (zbt n [3,3,1,2])<|some [.agg [.s .u8 c.b,.i .i64 (zba n [3,3,1,2]).i,.i .i64 (zba n [3,3,1,2]).h],.agg [.i .i64 2,.i .i64 g,.i .i64 f,.i .i64<|zn a 4,.i .i64<|zn l 8,.i .i64<|zbm n [3,3,1,2]]]) λy=>p0 (oN (zB a 4)<|some [.agg [.s .u8 c.b,.i .i64 (zf a 4).i,.i .i64 (zf a 4).h],.agg [.i .i64 3,.i .i64 g,.i .i64 f,.i .i64<|zn a 4,.i .i64 0,.i .i64 0]]) λx=>p0 (cond (ieq d 7) (oN (zB a 8)<|some [.agg [.s .u8 c.b,.i .i64 j.i,.i .i64 j.h],.agg [.i .i64 6,.i .i64 g,.i .i64 f,.i .i64<|zn a 8,.i .i64 0,.i .i64 0]])<|cond (ieq d 8) (oN (zjo a)<|cond ((zcy a).Open) (some [.agg [.s .u8 c.b,.i .i64 (zcc a).i,.i .i64 (zcc a).h],.agg [.i .i64 7,.i .i64 g,.i .i64 f,.i .i64 (zcy a).aq,.i .i64 (zcy a).Post,.i .i64 1]])<|some [.agg [.s .u8 c.b,.i .i64 (zcc a).i,.i .i64 (zcc a).h],.agg [.i .i64 7,.i .i64 g,.i .i64 f,.i .i64 (zcy a).aq,.i .i64 (zcy a).Post,.i .i64 0]])<|cond (ieq d 9) (oN (zB a 8)<|oN (zB k 4)<|oN (zB p 100)<|some [.agg [.s .u8 c.b,.i .i64 (zf p 100).i,.i .i64 (zf p 100).h],.agg [.i .i64 8,.i .i64 g,.i .i64 f,.i .i64<|zn a 8,.i .i64<|zn k 4,.i .i64<|zn p 100]])<|cond (ieq d 10) (oN (zB a 8)<|some [.agg [.s .u8 c.b,.i .i64 j.i,.i .i64 j.h],.agg [.i .i64 9,.i .i64 g,.i .i64 f,.i .i64<|zn a 8,.i .i64 0,.i .i64 0]])<|cond (ieq d 11) (some [.agg [.s .u8 c.b,.i .i64 e.i,.i .i64 e.h],.agg [.i .i64 10,.i .i64 g,.i .i64 f,.i .i64 0,.i .i64 0,.i .i64 0]])<|cond (ieq d 12) (oN (zB a 16)<|oN (zB t 100)<|some [.agg [.s .u8 c.b,.i .i64 (zf t 100).i,.i .i64 (zf t 100).h],.agg [.i .i64 11,.i .i64 g,.i .i64 f,.i .i64<|zn a 16,.i .i64<|zn t 100,.i .i64 0]])<|cond (ieq d 13) (oN (zB a 16)<|some [.agg [.s .u8 c.b,.i .i64 (zf a 16).i,.i .i64 (zf a 16).h],.agg [.i .i64 12,.i .i64 g,.i .i64 f,.i .i64<|zn a 16,.i .i64 0,.i .i64 0]])<|cond (ieq d 14) (cond (ieq d 14) A z)<|cond (ieq d 15) A z) λv=>p0 (cond (ieq d 4) (oN (zB a 100)<|some [.agg [.s .u8 c.b,.i .i64 (zf a 100).i,.i .i64 (zf a 100).h],.agg [.i .i64 4,.i .i64 g,.i .i64 f,.i .i64<|zn a 100,.i .i64 0,.i .i64 0]])<|cond (ieq d 5) (cond (ieq d 5) (some [.agg [.s .u8 c.b,.i .i64 e.i,.i .i64 e.h],.agg [.i .i64 5,.i .i64 g,.i .i64 f,.i .i64 0,.i .i64 0,.i .i64 0]]) v)<|cond (ieq d 6) (some [.agg [.s .u8 c.b,.i .i64 e.i,.i .i64 e.h],.agg [.i .i64 5,.i .i64 g,.i .i64 f,.i .i64 0,.i .i64 0,.i .i64 0]]) v) λw=>p0 (cond (ieq d 2) (cond (ieq d 2) x w)<|cond (ieq d 3) x w) λB=>oN (zB c 2)<|oN (zB m 2)<|oN (zB u 24)<|cond (ieq d 0) (cond (ieq d 0) y B)<|cond (ieq d 1) y B)
def zqG (c:Cur)(s:Cur)(a:GAct):Prop:=(∃N,zxI N c=some (AV.agg (zbU s)::[aT .act a]))/\(s.b=c.b/\0<=s.i)/\(True)
def zjs (c:Cur)  : Bool:=wC (zqG c)
def zgS (c:Cur)  : Cur:=wS (zqG c)
def zpI (c:Cur)  : GAct:=wV (zqG c)
def zYz {c:Cur}(h:zjs c=true):zqG c (zgS c) (zpI c):=wG h
def zYB (c:Cur)  : 0<=(zgS c).i:=wP λh=>h.2.1.2
def zYA (c:Cur)(h:∃N,Ends (wE (λa=>aT .act a) c.b λa=>True)<|zxI N c):zjs c=true:=wI (λ_ _ h=>h) h
def zzq:zdU:=rP0 λc=>(zjs c,zgS c,[aT .act<|zpI c])
def zMa:zbR Tryz.prog 147 [false,true,true] zzq:=hP0 zdo zT zGX zq (zu []) (λ_ h=>(zYz h).1)
def z9g {c:Cur}(h:zbd c):zjs c=true:=by
 refine zYA c ⟨0,?_⟩;unfold zxI oN;conv=>zeta
 refine zmN (zea<|zea<|?_) (λ_ g=>zmN (zbE (λ_=>zea (zea<|?_)) λ_=>?_) λ_ f=>zmN (zea<|zea<|zea<|?_) λ_ e=>zmN (zea<|?_) λ_ d=>zmN (zbE (λ_=>zea (?_)) λ_=>zbE (λ_=>zea (zbE (λ_=>?_) λ_=>?_)) λ_=>zbE (λ_=>zea (zea<|zea<|?_)) λ_=>zbE (λ_=>zea (?_)) λ_=>zbE (λ_=>?_) λ_=>zbE (λ_=>zea (zea<|?_)) λ_=>zbE (λ_=>zea (?_)) λ_=>zbE (λ_=>zbE (λ_=>g) λ_=>f) λ_=>zbE (λ_=>g) λ_=>f) λ_ a=>zmN (zbE (λ_=>zea (?_)) λ_=>zbE (λ_=>zbE (λ_=>?_) λ_=>a) λ_=>zbE (λ_=>?_) λ_=>a) λ_ b=>zmN (zbE (λ_=>zbE (λ_=>d) λ_=>b) λ_=>zbE (λ_=>d) λ_=>b) λ_ i=>zea (zea<|zea<|zbE (λ_=>zbE (λ_=>e) λ_=>i) λ_=>zbE (λ_=>e) λ_=>i));all_goals exact zbG (aT .act) (v:=⟨_,_,_,_,_,_⟩) (by first|exact zD _ _|exact zbS _ _|exact zyF _) trivial
def zkk (N:Nat)  : OA :=
 (iter (σ:=(Int×lA×Unit)) N (λe c=>cond (ilt c.1 2) (iter (σ:=(Int×Int×lA×Unit)) N (λf b=>cond (ilt b.2.1 2) (iter (σ:=(Int×Int×Int×lA×Unit)) N (λg a=>let d:=ap a.2.2.2.1 [(⟨2,a.1,a.2.1,a.2.2.1,zO .i64 a.2.2.1<|zm8 .i64 3 a.2.1,3⟩:GAct),(⟨3,a.1,a.2.1,a.2.2.1,0,0⟩:GAct)]; (cond (ilt a.2.2.1 3) (oN (few<|ln d)<|g (a.1,a.2.1,zO .i64 a.2.2.1 1,d,()))<|f (a.1,zO .i64 a.2.1 1,a.2.2.2.1,()))) (b.1,b.2.1,0,b.2.2.1,()))<|e (zO .i64 b.1 1,b.2.2.1,())) (c.1,0,c.2.1,()))<|some [aS .act c.2.1]) (0,[],()))
def zNt:=zu [(146,0,{n:=34,tm:=[(1,.sl 0 []),(2,ti)],lo:=[],ro:=[(0,.act,true)]}),(146,2,{n:=34,tm:=[(1,.sl 0 []),(2,ti),(3,ti)],lo:=[],ro:=[(0,.act,true)]}),(146,4,{n:=34,tm:=[(1,.sl 0 []),(2,ti),(3,ti),(4,ti)],lo:=[],ro:=[(0,.act,true)]})]
def zrL  (a:List GAct):Prop:=(∃N,zkk N=some [aS .act a])/\(a.length<=45)
def ziT  : Bool:=uC (T:=List GAct) (λr=>zrL r)
def zTD  : List GAct:=uV (λr=>zrL r)
def zsm  : List GAct:=(zTD)
def zCg  (h:ziT=true):zrL zsm:=uG h
def zTC  (h:∃N,Ends (λa=>∃b,a=[aS .act b]/\(b.length<=45))<|zkk N):ziT=true:=by obtain⟨N,a,e,b,rfl,h⟩:=h;exact zbs ⟨b,⟨N,e⟩,h⟩
def zxg:Run:=rF0 (ziT,[aS .act zsm])
def zMO  (a:ziT=true):∃N,zkk N  = some [aS .act zsm]:=by exact(zCg a).1
def zGz:vM 146 zxg:=kF0 zdo zT zGX zq zNt zMO
def zY8:List GAct:=match zkk 10 with
 |some [.one<|.s .act l]=>l
 |_=>[]
def zVS:ziT=true:=zTC ⟨10,_,(by kernel_rfl:zkk 10=some [aS .act zY8]),zY8,rfl,Nat.le_of_ble_eq_true (by kernel_rfl)⟩
def z5t:zcQ:=[(147,[false,true,true],zzq)]++z5s
def zS6:zb2 z5t:=zcp zGX (by
 intro x a;simp only[qG,qO,or_false]at a;rcases a with rfl
 .exact zMa)
def z8l:zW:=[(146,zxg)]++zvz
def zZb:zL z8l:=zh zGz zdo
def zOu {c:Cur}(h:zbd c){m:Int}(e:0<=m)(J:m<=1000){G:Ans->Prop}{R:Cur->List GAct->Ans}(D:∀s l,s.b=c.b->0<=s.i->ln l<=45+m->G (R s l)){F:(Int×Int×Int×Int×List GAct×LI×Unit->OA)->Int×Int×Int×Int×List GAct×LI×Unit->OA}(C:∀rec t i k l,F rec (m,t,i,k,l,c.b,())=bif zB ⟨c.b,i,k⟩ (zO .i64 m 1) then (bif ilt t (zn ⟨c.b,i,k⟩ (zO .i64 m 1)) then (bif zjs { zf ⟨c.b,i,k⟩ (zO .i64 m 1) with b:=c.b } then (bif few (ln (ap l [zpI { zf ⟨c.b,i,k⟩ (zO .i64 m 1) with b:=c.b }])) then
        rec (m,zO .i64 t 1,(zgS {zf ⟨c.b,i,k⟩ (zO .i64 m 1) with b:=c.b}).i,(zgS {zf ⟨c.b,i,k⟩ (zO .i64 m 1) with b:=c.b}).h,ap l [zpI {zf ⟨c.b,i,k⟩ (zO .i64 m 1) with b:=c.b}],c.b,()) else none) else none) else some (R ⟨c.b,(zf ⟨c.b,i,k⟩ (zO .i64 m 1)).i,(zf ⟨c.b,i,k⟩ (zO .i64 m 1)).h⟩ l)) else none){w I:Int}(f:0<=w){g:List GAct}(E:g.length<=45):Ends G (iter 1002 F (m,0,w,I,g,c.b,())):=by
 refine zlV (fun n s=>s.1=m/\s.2.1+(n:Int)=1000/\0<=s.2.1/\0<=s.2.2.1/\(ln s.2.2.2.2.1<=45+s.2.1/\s.2.1<=m)/\s.2.2.2.2.2.1=c.b) ?_ 1002 1000 _ ⟨rfl,rfl,kP 0,f,⟨by unfold ln;show ((g.length:Nat):Int)<=45+0;omega,e⟩,rfl⟩ (by omega)
 rintro n ⟨q,t,i,k,l,b,u⟩ rec ⟨e,z,j,p,⟨A,H⟩,r⟩ d
 dsimp only at e z j p A r H
 subst r;subst e;rw[C];have a:zbd ⟨c.b,i,k⟩:=zbL h p;have L:=zha (x:=q) (y:=1) (by omega) (by omega) (by omega) (by omega)
 have M:=zfT a (n:=zO .i64 q 1) (by omega)
 have B:zbd {zf ⟨c.b,i,k⟩ (zO .i64 q 1) with b:=c.b}:=zbL h (zD _ _);refine zy (zbB a _) (zbE (fun v=>?_) (fun v=>?_))
 .have hlt:t<zn ⟨c.b,i,k⟩ (zO .i64 q 1):=qF v;have K:=zha (y:=1) j (by omega) (by omega) (by omega)
  refine zy (z9g B) (zy (zks (by rw[zht];omega)) (d (n-1) _ (by omega) ⟨rfl,?_,?_,zYB _,⟨?_,?_⟩,rfl⟩))
  .show zO .i64 t 1+_=1000
   omega
  .show 0<=zO .i64 t 1
   omega
  .show ln (ap l [_])<=45+zO .i64 t 1
   rw[zht];omega
  .show zO .i64 t 1<=q
   omega
 .refine zsS (D _ l rfl (zD _ _) ?_);omega
def zvu (N:Nat)(c:Cur)(p:Int):OA:=
 (oN (zcZ c 5)<|cond (nB<|zc7 c 5) (oN ziT<|iter (σ:=(Int×Int×Int×Int×lA×LI×Unit)) N (λn a=>let l:=a.2.2.2.2.2.1;let f:=zO .i64 a.1 1;let d:=(⟨l,a.2.2.1,a.2.2.2.1⟩:Cur);let j:=({ (zf d f) with b:=l}:Cur);let q:=ap a.2.2.2.2.1 [zpI j]; (oN (zB d f)<|cond (ilt a.2.1<|zn d f) (oN (zjs j)<|oN (few<|ln q)<|n (a.1,zO .i64 a.2.1 1,(zgS j).i,(zgS j).h,q,l,()))<|some [.agg [.s .u8 l,.i .i64 (zf d f).i,.i .i64 (zf d f).h],aS .act a.2.2.2.2.1])) (p,0,(zQ c 5).i,(zQ c 5).h,zsm,c.b,()))<|iter (σ:=(Int×Int×Int×Int×lA×LI×Unit)) N (λn a=>let m:=a.2.2.2.2.2.1;let g:=zO .i64 a.1 1;let e:=(⟨m,a.2.2.1,a.2.2.2.1⟩:Cur);let k:=({ (zf e g) with b:=m}:Cur);let r:=ap a.2.2.2.2.1 [zpI k]; (oN (zB e g)<|cond (ilt a.2.1<|zn e g) (oN (zjs k)<|oN (few<|ln r)<|n (a.1,zO .i64 a.2.1 1,(zgS k).i,(zgS k).h,r,m,()))<|some [.agg [.s .u8 m,.i .i64 (zf e g).i,.i .i64 (zf e g).h],aS .act a.2.2.2.2.1])) (p,0,(zQ c 5).i,(zQ c 5).h,[],c.b,()))
def zQs:=zu [(108,0,{n:=26,tm:=[(0,.lp 0 0),(1,ti),(5,.sl 0 []),(6,ti)],lo:=[(0,[.sl 1 [],ti,ti])],ro:=[(0,.act,true),(1,.u8,false)]})]
def zoS (c:Cur)(a:Int)(s:Cur)(d:List GAct):Prop:=(∃N,zvu N c a=some (AV.agg (zbU s)::[aS .act d]))/\(s.b=c.b/\0<=s.i)/\(ln d<=45+a)
def zmm (c:Cur)(a:Int):Bool:=wC (zoS c a)
def zmn (c:Cur)(a:Int):Cur:=wS (zoS c a)
def zra (c:Cur)(a:Int):List GAct:=wV (zoS c a)
def zFi {c:Cur}{a:Int}(h:zmm c a=true):zoS c a (zmn c a) (zra c a):=wG h
def zVw (c:Cur)(a:Int):0<=(zmn c a).i:=wP λh=>h.2.1.2
def zVv (c:Cur)(a:Int)(h:∃N,Ends (wE (λd=>aS .act d) c.b λd=>ln d<=45+a)<|zvu N c a):zmm c a=true:=wI (λ_ _ h=>h) h
def zwS:zdU:=rP1 dI λc b=>(zmm c b,zmn c b,[aS .act<|zra c b])
def zJp:zbR Tryz.prog 108 [false,true,true] zwS:=hP1 zZb zT zS6 zq zQs (λ_ _ h=>(zFi h).1)
def zY0 {c:Cur}(h:zbd c){m:Int}(e:0<=m)(f:m<=1000):zmm c m=true:=by
 refine zVv c m ⟨1002,?_⟩;unfold zvu oN nB;conv=>zeta
 have g:=zCg zVS;exact zy (ziI h 5) (zbE (λ_=>zy zVS (zOu h e f (R:=λs l=>AV.agg (zbU s)::[aS .act l]) (λs l a b d=>⟨s,l,rfl,⟨a,b⟩,d⟩) (λrec t i k l=>rfl) (zch _ _) g.2)) λ_=>zOu h e f (R:=λs l=>AV.agg (zbU s)::[aS .act l]) (λs l a b d=>⟨s,l,rfl,⟨a,b⟩,d⟩) (λrec t i k l=>rfl) (zch _ _) (j3 _))
def z5u:zcQ:=[(108,[false,true,true],zwS)]++z5t
def zS7:zb2 z5u:=zcp zS6 (by
 intro x a;simp only[qG,qO,or_false]at a;rcases a with rfl
 .exact zJp)
@[simp] abbrev zh5 (l:List LI):Bool:=pc (SmM l)
@[simp] abbrev zfL (l:List LI):List LI:=l
def zzr:Run:=rF1 (dS<|.sl .int) λb=>(zh5 b,[aS (.sl .int)<|zfL b])
def zD2 (N:Nat)(c:lM):OA:=
 (iter (σ:=(Int×Int×lM×lM×Unit)) N (λd a=>let b:=ix a.2.2.2.1 a.2.1 []; (cond (ilt a.2.1 a.1) (oN (inb a.2.1<|ln a.2.2.2.1)<|oN (zd6 b)<|oN (few<|ln<|ap a.2.2.1 [zd3 b])<|d (a.1,zO .i64 a.2.1 1,ap a.2.2.1 [zd3 b],a.2.2.2.1,()))<|some [aS (.sl .int) a.2.2.1])) (ln c,0,[],c,()))
def zQg:=zu [(41,0,{n:=20,tm:=[(3,.sl 0 []),(7,.sl 1 []),(8,ti),(9,ti)],lo:=[],ro:=[(0,.sl .int,true),(1,.sl .int,false)]})]
def zPn (a:List LI)(g:zh5 a=true):∃N,zD2 N a=some [aS (.sl .int)<|zfL a]:=by
 have f:=zN.1 g;have e:=zcP f.1;refine zct λN d=>?_;unfold zD2 oN;conv=>zeta
 refine(zbo a (λi (t:lM)=>(ln a,(i:Int),t,a,())) _ (λ_ x b j=>bif zd6 x then (cond (few<|ln<|ap b [zd3 x]) (j<|ap b [zd3 x]) none) else none) (λ(t:lM)=>some [.one<|.s (.sl .int) t]) (λi c t rec=>?_) (λt rec=>?_) _ ([])<|d e.1).trans ?_;{simp only [zbx c,zbe c,zbl c,zbg c e.1,cT]};{simp only [zbp,cF]};exact zi3 zd6 zd3 _ a 0 [] (λx h=>⟨by exact zbs (qS (f.2 x h) (by decide)),rfl⟩) (by simpa using e.2)
def zIJ:vM 41 zzr:=kF1 zhc zC zA zq zQg zPn
@[simp] abbrev zbj (g:ah):Bool:=pc (SmG g)
@[simp] abbrev zf5 (g:ah):ah:=g
def zuI:Run:=rF1 (dT .guest) λb=>(zbj b,[aT .guest<|zf5 b])
def zyT (N:Nat)(a:ah):OA:=
 (oN (zs9 a.aw)<|oN (zgC a.az)<|oN (zgC a.av)<|oN (zd6 a.aC)<|some [aT .guest ({a with aw:=(znI a.aw),az:=(zfd a.az),av:=(zfd a.av),aC:=(zd3 a.aC)}:ah)])
def zJx (a:ah)(b:zbj a=true):∃N,zyT N a=some [aT .guest<|zf5 a]:=by have c:=zN.1 b;obtain⟨h,i,j,k⟩:=c;have d:a.aw.length<=2147483648:=(by omega);have e:a.az.length<=2147483648:=(by omega);have f:a.av.length<=2147483648:=(by omega);have g:a.aC.length<=2147483648:=(by omega);refine⟨0,?_⟩;unfold zyT oN;refine mu (mu<|mu<|mu ?_);first|rfl|(simp only [*,zf5,cT,cF]<;>rfl)|simp_all[Ty.cells,zf5]
def zDa:vM 122 zuI:=kF1 zhc zC zA zq (zu []) zJx
def zfD (t:List k0)(p n:Int):Bool:=bif ieq (zbC t p).af (-1) then false else (cond (enough (zbC t p).ai n) (zi n 1 3) false)
def zcF (t:List k0)(p n:Int):Int:=bif zfD t p n then (zbC t p).af else -1
def z3c {r:Int}(h:zdE r=true):0<=r/\r<=3:=zfE.1 h
def zXn {a n:Int}(h:enough a n=true):zi n 1 3 = !ieq n 0:=by unfold enough at h;cases b:zdE a;{rw [b]at h;cases h};{cases c:zdE n;{rw [b,c]at h;cases h};{have:=z3c c;have e:(zi n 1 3=true)↔(!ieq n 0)=true:=(by rw[zfE];simp[ieq];omega);cases d:zi n 1 3<;>cases f:(!ieq n 0)<;>simp_all}}
@[simp] abbrev zrK (t:List k0)(p n:Int):Bool:=true
@[simp] abbrev zjG (t:List k0)(p n:Int):Int:=zcF t p n
@[simp] abbrev zjH (t:List k0)(p n:Int):Bool:=zfD t p n
def zuS:Run:=rF3 (dS .slot) dI dI λb c d=>(zrK b c d,[aI<|zjG b c d,aB<|zjH b c d])
def zy9 (N:Nat)(c:lS)(d b:Int):OA:=
 let a:=zhm c d; (oN (zjk c d)<|cond (ieq a.af<|-1) (some [aI<|-1,aB false])<|oN (zcr a.ai b)<|cond (nB<|zdc a.ai b) (some [aI<|-1,aB false])<|cond (ieq b 0) (some [aI<|-1,aB false])<|some [aI a.af,aB true])
def zJP (a:List k0)(b c:Int)(d:zrK a b c=true):∃N,zy9 N a b c=some [aI<|zjG a b c,aB<|zjH a b c]:=by
 have e:=@zXn (zbC a b).ai c;refine⟨0,?_⟩;unfold zy9 oN nB;conv=>zeta
 refine j0 rfl (br (λ_=>?_) λ_=>j0 rfl (brN (λ_=>?_) λ_=>br (λ_=>?_) λ_=>?_));all_goals first|rfl|(simp only [*,zjG,zjH,zcF,zfD,cT,cF]<;>rfl)|simp_all[Ty.cells,zjG,zjH,zcF,zfD]
def zDr:vM 237 zuS:=kF3 zhc zC zA zq (zu []) zJP
def z4H:zW:=[(41,zzr),(122,zuI),(237,zuS),(34,zqc),(77,zqc),(103,zn6),(158,zn6),(104,zqa),(159,zqa),(241,zB3)]++z4G
def zmM:zL z4H:=zh zIJ (zh zDa<|zh zDr<|zh zPb<|zh zO2<|zh zLP<|zh zLz<|zh zO7<|zh zO0<|zh zLU zhc)
@[simp] abbrev zkW (m:List LI)(p c v:Int):Bool:=pc (SmM m)
@[simp] abbrev zjl (m:List LI)(p c v:Int):List LI:=zbM m p c v
def zxe:Run:=rF4 (dS<|.sl .int) dI dI dI λb c d e=>(zkW b c d e,[aS (.sl .int)<|zjl b c d e])
def zAI (N:Nat)(c:lM)(a d e:Int):OA:=
 let b:=zeJ c; (oN (zgc c)<|oN (zhU c a d)<|cond (zpH c a d) (oN (zM e 0 99)<|cond (zi e 0 99) (oN (inb a<|ln b)<|oN (inb d<|ln<|ix b a [])<|p0 (up b a<|up (ix b a []) d e) λf=>some [aS (.sl .int) f])<|some [aS (.sl .int) b])<|some [aS (.sl .int) b])
def zML (a:List LI)(b c d:Int)(e:zkW a b c d=true):∃N,zAI N a b c d=some [aS (.sl .int)<|zjl a b c d]:=by
 have g:=zN.1 e;have f:=(zyl a b c).1;refine⟨0,?_⟩;unfold zAI oN;conv=>zeta
 refine mu (j0 rfl (br (λ_=>j0 rfl (br (λ_=>mu (mu<|shr ?_)) λ_=>?_)) λ_=>?_));all_goals first|rfl|(simp only [*,zjl,zbM,cT,cF]<;>rfl)|simp_all[Ty.cells,zjl,zbM]
def zGq:vM 208 zxe:=kF4 zmM zC zA zq (zu []) zML
def zim (g:ah):Bool:=bif canRun g then (cond g.Ctl.Open (ige (zd8 g.ak) 0) false) else false
@[simp] abbrev zbO (g:ah):Bool:=true
@[simp] abbrev zlB (g:ah):Bool:=zim g
def zxd:Run:=rF1 (dT .guest) λb=>(zbO b,[aB<|zlB b])
def zAH (N:Nat)(a:ah):OA:=
 (oN (zsa a)<|cond (zpz a) (cond a.Ctl.Open (oN (zcX a.ak)<|some [aB<|ige (zmY a.ak) 0]) oF) oF)
def zMK (a:ah)(b:zbO a=true):∃N,zAH N a=some [aB<|zlB a]:=by refine⟨0,?_⟩;unfold zAH oN;refine j0 rfl (br (λ_=>br (λ_=>j0 rfl ?_) λ_=>?_) λ_=>?_);all_goals first|rfl|(simp only [*,zlB,zim,cT,cF]<;>rfl)|simp_all[Ty.cells,zlB,zim]
def zGp:vM 217 zxd:=kF1 zmM zC zA zq (zu []) zMK
def zjS (p:Int):Int:=bif ilt (zd8 p) 0 then p else wsub .i64 p (zoZ .i64 1<|zd8 p)
def ztb (p:Int):Int:=bif ilt (zd8 p) 0 then -1 else zd8 p
def z1p {p:Int}(h:ilt (zd8 p) 0=false):wcv .u64 (zd8 p)=zd8 p/\ile 0 (zd8 p)=true/\zK4 .i64 p (zoZ .i64 1<|zd8 p)=wsub .i64 p (zoZ .i64 1<|zd8 p):=by unfold zd8 at *;cases a:zdH p;{rw [a]at h;cases h};{simp only [a,cT]at h ⊢;obtain⟨c,d⟩:=zfE.1 a;have r:=z0y (P:=λx=>-1<=scan x/\scan x<=7/\(0<=scan x->wsub .i64 x (zoZ .i64 1<|scan x)=zK4 .i64 x (zoZ .i64 1<|scan x))) z3l c d;have b:0<=scan p:=(by unfold ilt at h;have:=jX h;omega);exact⟨zWP b (by omega),qK b,(r.2.2 b).symm⟩}
@[simp] abbrev zjZ (p:Int):Int:=zjS p
@[simp] abbrev zj0 (p:Int):Int:=ztb p
@[simp] abbrev zmf (p:Int):Bool:=!ilt (zd8 p) 0
def zzJ:Run:=rF1 dI λb=>(zcX b,[aI<|zjZ b,aI<|zj0 b,aB<|zmf b])
def zEt (N:Nat)(a:Int):OA:=
 (oN (zcX a)<|cond (ilt (zmY a) 0) (some [aI a,aI<|-1,aB false])<|oN (ile 0<|wcv .u64<|zmY a)<|some [aI<|wsub .i64 a<|zoZ .i64 1<|wcv .u64<|zmY a,aI<|zmY a,aB true])
def zPO (a:Int)(b:zcX a=true):∃N,zEt N a=some [aI<|zjZ a,aI<|zj0 a,aB<|zmf a]:=by have c:=@z1p a;refine⟨0,?_⟩;unfold zEt oN;refine j0 rfl (br (λ_=>?_) λ_=>mu ?_);all_goals first|rfl|(simp only [*,zjZ,zj0,zmf,zjS,ztb,cT,cF]<;>rfl)|simp_all[Ty.cells,zjZ,zj0,zmf,zjS,ztb]
def zI3:vM 219 zzJ:=kF1 zmM zC zA zq (zu []) zPO
def saw (g:ah)(n:Int):ah:=bif ilt (ln g.aC) 40 then {g with aC:=ap g.aC [n]} else g
@[simp] def zM8 {g:ah}(n:Int)(h:SmG g):SmG (saw g n):=by unfold saw;cases a:ilt (ln g.aC) 40;{exact h};{have:=qF a;refine⟨h.1,h.2.1,h.2.2.1,?_⟩;simp[ln] at *;omega}
@[simp] abbrev zC1 (g:ah)(n:Int):Bool:=pc (SmG g)
@[simp] abbrev zyB (g:ah)(n:Int):ah:=saw g n
def zON:Run:=rF2 (dT .guest) dI λb c=>(zC1 b c,[aT .guest<|zyB b c])
def zVQ (N:Nat)(a:ah)(b:Int):OA:=
 (oN (zdF a)<|cond (ilt (ln (zc9 a).aC) 40) (oN (few<|ln<|ap (zc9 a).aC [b])<|some [aT .guest ({ (zc9 a) with aC:=(ap (zc9 a).aC [b])}:ah)])<|some [aT .guest<|zc9 a])
def z0k (a:ah)(b:Int)(c:zC1 a b=true):∃N,zVQ N a b=some [aT .guest<|zyB a b]:=by have d:=zN.1 c;have e:a.aC.length<=1048576:=d.2.2.2;refine⟨0,?_⟩;unfold zVQ oN;refine mu (br (λ_=>mu ?_) λ_=>?_);all_goals first|rfl|(simp only [*,zyB,saw,cT,cF]<;>rfl)|simp_all[Ty.cells,zyB,saw]
def zUN:vM 220 zON:=kF2 zmM zC zA zq (zu []) z0k
def stopped (g:ah)(e:aD):ah:={g with Exit:=e}
@[simp] def z9e {g:ah}(e:aD)(h:SmG g):SmG (stopped g e):=h
@[simp] abbrev zet (g:ah)(e:aD):Bool:=pc (SmG g)
@[simp] abbrev zdW (g:ah)(e:aD):ah:=stopped g e
def zzI:Run:=rF2 (dT .guest) dE λb c=>(zet b c,[aT .guest<|zdW b c])
def zEr (N:Nat)(a:ah)(b:aD):OA:=
 (oN (zdF a)<|some [aT .guest ({ (zc9 a) with Exit:=b}:ah)])
def zPM (a:ah)(b:aD)(c:zet a b=true):∃N,zEr N a b=some [aT .guest<|zdW a b]:=by have d:=zN.1 c;refine⟨0,?_⟩;unfold zEr oN;refine mu ?_;first|rfl|(simp only [*,zdW,stopped,cT,cF]<;>rfl)|simp_all[Ty.cells,zdW,stopped]
def zI1:vM 224 zzI:=kF2 zmM zC zA zq (zu []) zPM
def zcf (g:ah):ah:=bif ige g.Pc 12 then {g with Pc:=12} else {g with Pc:=zO .i64 g.Pc 1}
@[simp] def zk6 {g:ah}(h:SmG g):SmG (zcf g):=by unfold zcf;cases ige g.Pc 12<;>exact h
@[simp] abbrev zeM (g:ah):ah:=zcf g
def zqe:Run:=rF1 (dT .guest) λb=>(zbj b,[aT .guest<|zeM b])
def zNL (N:Nat)(a:ah):OA:=
 (oN (zdF a)<|cond (ige (zc9 a).Pc 12) (some [aT .guest ({ (zc9 a) with Pc:=12}:ah)])<|some [aT .guest ({ (zc9 a) with Pc:=(zO .i64 (zc9 a).Pc 1)}:ah)])
def zUZ (a:ah)(b:zbj a=true):∃N,zNL N a=some [aT .guest<|zeM a]:=by have c:=zN.1 b;refine⟨0,?_⟩;unfold zNL oN;refine mu (br (λ_=>?_) λ_=>?_);all_goals first|rfl|(simp only [*,zeM,zcf,cT,cF]<;>rfl)|simp_all[Ty.cells,zeM,zcf]
def zPd:vM 221 zqe:=kF1 zmM zC zA zq (zu []) zUZ
def z4I:zW:=[(208,zxe),(217,zxd),(219,zzJ),(220,zON),(224,zzI),(221,zqe)]++z4H
def zi5:zL z4I:=zh zGq (zh zGp<|zh zI3<|zh zUN<|zh zI1<|zh zPd zmM)
def interrupted (g:ah):ah:=bif zim g then saw {g with ak:=zjS g.ak} (zO .i64 100<|ztb g.ak) else g
@[simp] def zWC {g:ah}(h:SmG g):SmG (interrupted g):=by unfold interrupted;cases zim g;{exact h};{exact zM8 (g:={g with ak:=zjS g.ak}) _ h}
@[simp] abbrev zjF (g:ah):ah:=interrupted g
def zrW:Run:=rF1 (dT .guest) λb=>(zbj b,[aT .guest<|zjF b])
def ztZ (N:Nat)(a:ah):OA:=
 let c:=zO .i64 100<|zj0 a.ak;let b:=({a with ak:=(zjZ a.ak)}:ah); (oN (zbO a)<|cond (nB<|zlB a) (oN (zdF a)<|some [aT .guest<|zc9 a])<|oN (zcX a.ak)<|oN (zC1 b c)<|some [aT .guest<|zyB b c])
def zDO (a:ah)(b:zbj a=true):∃N,ztZ N a=some [aT .guest<|zjF a]:=by
 have c:=zN.1 b;have d:_/\_/\_/\_:=c;refine⟨0,?_⟩;unfold ztZ oN nB;conv=>zeta
 refine j0 rfl (brN (λ_=>mu ?_) λ_=>j0 rfl (mu ?_));all_goals first|rfl|(simp only [*,zjF,interrupted,cT,cF]<;>rfl)|simp_all[Ty.cells,zjF,interrupted]
def zAc:vM 194 zrW:=kF1 zi5 zC zA zq (zu []) zDO
def zwF (o:Int):Int:=bif ieq o 3 then 3 else (cond (ieq o 4) 4<|cond (ieq o 5) 5<|cond (ieq o 6) 6<|cond (ieq o 7) 7 2)
def zbc (g:ah):Int:=bif canRun g then (cond (zim g) 1<|zwF (zcv g.aw g.Pc).Op) else 0
@[simp] abbrev zmZ (g:ah):Int:=zbc g
def zB4:Run:=rF1 (dT .guest) λb=>(zbO b,[aI<|zmZ b])
def zHX (N:Nat)(a:ah):OA:=
 let b:=(zfX a.aw a.Pc).Op; (oN (zsa a)<|cond (nB<|zpz a) (some [aI 0])<|oN (zbO a)<|cond (zlB a) (some [aI 1])<|oN (zfO a.aw a.Pc)<|cond (ieq b 3) (some [aI 3])<|cond (ieq b 4) (some [aI 4])<|cond (ieq b 5) (some [aI 5])<|cond (ieq b 6) (some [aI 6])<|cond (ieq b 7) (some [aI 7])<|some [aI 2])
def zSE (a:ah)(b:zbO a=true):∃N,zHX N a=some [aI<|zmZ a]:=by
 refine⟨0,?_⟩;unfold zHX oN nB;conv=>zeta
 refine j0 rfl (brN (λ_=>?_) λ_=>j0 rfl (br (λ_=>?_) λ_=>j0 rfl (br (λ_=>?_) λ_=>br (λ_=>?_) λ_=>br (λ_=>?_) λ_=>br (λ_=>?_) λ_=>br (λ_=>?_) λ_=>?_)));all_goals first|rfl|(simp only [*,zmZ,zbc,zwF,cT,cF]<;>rfl)|simp_all[Ty.cells,zmZ,zbc,zwF]
def zcl:vM 193 zB4:=kF1 zi5 zC zA zq (zu []) zSE
def held (g:ah):ah:=zcf {g with aF:=true}
@[simp] def zTJ {g:ah}(h:SmG g):SmG (held g):=zk6 (g:={g with aF:=true}) h
@[simp] abbrev zxj (g:ah):ah:=held g
def zKj:Run:=rF1 (dT .guest) λb=>(zbj b,[aT .guest<|zxj b])
def zQP (N:Nat)(b:ah):OA:=
 let a:=({b with aF:=true}:ah); (oN (zbj a)<|some [aT .guest<|zeM a])
def zXV (a:ah)(b:zbj a=true):∃N,zQP N a=some [aT .guest<|zxj a]:=by
 have c:=zN.1 b;have d:_/\_/\_/\_:=c;refine⟨0,?_⟩;unfold zQP oN;conv=>zeta
 refine mu ?_;first|rfl|(simp only [*,zxj,held,cT,cF]<;>rfl)|simp_all[Ty.cells,zxj,held]
def zRX:vM 232 zKj:=kF1 zi5 zC zA zq (zu []) zXV
def zHU (N:Nat)(a:ah):OA:=
 (oN (zbj a)<|some [aT .guest<|zeM a])
def zSB (a:ah)(b:zbj a=true):∃N,zHU N a=some [aT .guest<|zeM a]:=by have c:=zN.1 b;refine⟨0,?_⟩;unfold zHU oN;refine mu ?_;first|rfl|(simp only [*,zeM,cT,cF]<;>rfl)|simp_all[Ty.cells,zeM]
def zLT:vM 225 zqe:=kF1 zi5 zC zA zq (zu []) zSB
def loaded (g:ah)(v:Int):ah:=zcf (saw {g with A:=v} v)
@[simp] def zKA {g:ah}(v:Int)(h:SmG g):SmG (loaded g v):=zk6 (zM8 (g:={g with A:=v}) v h)
@[simp] abbrev zyx (g:ah)(v:Int):Bool:=pc (SmG g)
@[simp] abbrev ztB (g:ah)(v:Int):ah:=loaded g v
def zBX:Run:=rF2 (dT .guest) dI λb c=>(zyx b c,[aT .guest<|ztB b c])
def zHI (N:Nat)(c:ah)(a:Int):OA:=
 let b:=({c with A:=a}:ah); (oN (zC1 b a)<|oN (zbj<|zyB b a)<|some [aT .guest<|zeM<|zyB b a])
def zSp (b:ah)(a:Int)(d:zyx b a=true):∃N,zHI N b a=some [aT .guest<|ztB b a]:=by
 have c:=zN.1 d;have f:_/\_/\_/\_:=c;have e:SmG (saw {b with A:=a} a):=zM8 (g:={b with A:=a}) a c;refine⟨0,?_⟩;unfold zHI oN;conv=>zeta
 refine mu (mu ?_);first|rfl|(simp only [*,ztB,loaded,cT,cF]<;>rfl)|simp_all[Ty.cells,ztB,loaded]
def zLI:vM 226 zBX:=kF2 zi5 zC zA zq (zu []) zSp
def zWM (g:ah)(w:Int):ah:=bif ieq w 5 then stopped g (zwG (zcv g.aw g.Pc).X) else stopped g ⟨4,0,false,0⟩
@[simp] def z9f {g:ah}(w:Int)(h:SmG g):SmG (zWM g w):=by unfold zWM;cases ieq w 5<;>exact h
def zdY (g:ah):Bool:=zdk g.aw&&(zi g.A 0 99&&(zi g.Pc 0 12&&(zc4 g.az 4 8&&(zc4 g.av 4 8&&(zld g.Ctl&&(zdH g.ak&&(zhI g.Exit&&ile (ln g.aC) 40)))))))
@[simp] abbrev zhR (g:ah):Bool:=zdY g
def zmw:Run:=rF1 (dT .guest) λb=>(zbO b,[aB<|zhR b])
def zEc (N:Nat)(a:ah):OA:=
 (oN (zsg a.aw)<|cond (zgG a.aw) (oN (zM a.A 0 99)<|cond (zi a.A 0 99) (oN (zM a.Pc 0 12)<|cond (zi a.Pc 0 12) (oN (zid a.az 4 8)<|cond (zen a.az 4 8) (oN (zid a.av 4 8)<|cond (zen a.av 4 8) (oN (zfN a.Ctl)<|cond (zpB a.Ctl) (oN (zcX a.ak)<|cond (ze4 a.ak) (oN (zsb a.Exit)<|cond (zkR a.Exit) (some [aB<|ile (ln a.aC) 40]) oF) oF) oF) oF) oF) oF) oF) oF)
def zzg (a:ah)(b:zbV big [aT .guest a])(c:zbO a=true):∃N,zEc N a=some [aB<|zhR a]:=by refine⟨0,?_⟩;unfold zEc oN;refine j0 rfl (br (λ_=>j0 rfl (br (λ_=>j0 rfl (br (λ_=>j0 rfl (br (λ_=>j0 rfl (br (λ_=>j0 rfl (br (λ_=>j0 rfl (br (λ_=>j0 rfl (br (λ_=>?_) λ_=>?_)) λ_=>?_)) λ_=>?_)) λ_=>?_)) λ_=>?_)) λ_=>?_)) λ_=>?_)) λ_=>?_);all_goals first|rfl|(simp only [*,zhR,zdY,cT,cF]<;>rfl)|simp_all[Ty.cells,zhR,zdY]
def zIO:vM 63 zmw:=hF1 zi5 zC zA zq (zu []) zzg
def zIH:vM 126 zmw:=hF1 zi5 zC zA zq (zu []) zzg
@[simp] abbrev zlj (l:List ah):Bool:=pc (zkl l)
@[simp] abbrev zkv (l:List ah):List ah:=l
def ztm:Run:=rF1 (dS .guest) λb=>(zlj b,[aS .guest<|zkv b])
def zv2 (N:Nat)(c:lG):OA:=
 (iter (σ:=(Int×Int×lG×lG×Unit)) N (λd a=>let b:=ix a.2.2.2.1 a.2.1 zF; (cond (ilt a.2.1 a.1) (oN (inb a.2.1<|ln a.2.2.2.1)<|oN (zbj b)<|oN (few<|ln<|ap a.2.2.1 [zf5 b])<|d (a.1,zO .i64 a.2.1 1,ap a.2.2.1 [zf5 b],a.2.2.2.1,()))<|some [aS .guest a.2.2.1])) (ln c,0,[],c,()))
def zHi:=zu [(75,0,{n:=20,tm:=[(3,.sl 0 []),(7,.sl 1 []),(8,ti),(9,ti)],lo:=[],ro:=[(0,.guest,true),(1,.guest,false)]})]
def zGE (a:List ah)(g:zlj a=true):∃N,zv2 N a=some [aS .guest<|zkv a]:=by
 have f:=zN.1 g;have e:=zcP f.1;refine zct λN d=>?_;unfold zv2 oN;conv=>zeta
 refine(zbo a (λi (t:lG)=>(ln a,(i:Int),t,a,())) _ (λ_ x b j=>bif zbj x then (cond (few<|ln<|ap b [zf5 x]) (j<|ap b [zf5 x]) none) else none) (λ(t:lG)=>some [.one<|.s .guest t]) (λi c t rec=>?_) (λt rec=>?_) _ ([])<|d e.1).trans ?_;{simp only [zbx c,zbe c,zbl c,zbg c e.1,cT]};{simp only [zbp,cF]};exact zi3 zbj zf5 _ a 0 [] (λx h=>⟨by exact zbs (f.2 x h),rfl⟩) (by simpa using e.2)
def zBf:vM 75 ztm:=kF1 zi5 zC zA zq zHi zGE
def gAt (b:am)(i:Int):ah:=bif i0 i (ln b.ad) then ix b.ad i zF else Ty.dflt .guest
@[simp] def zjP {b:am}(i:Int)(h:SmB b):SmG (gAt b i):=by unfold gAt;cases a:i0 i (ln b.ad);{exact z9C};{exact z1b h.2.1 a _}
def z4J:zW:=[(194,zrW),(193,zB4),(232,zKj),(225,zqe),(226,zBX),(63,zmw),(126,zmw),(75,ztm)]++z4I
def zpa:zL z4J:=zh zAc (zh zcl<|zh zRX<|zh zLT<|zh zLI<|zh zIO<|zh zIH<|zh zBf zi5)
def plainly (g:ah):ah:=bif ine (zbc g) 2 then g else (cond (zi g.A 0 99) (cond (zi (zcv g.aw g.Pc).X 0 99) (cond (ieq (zcv g.aw g.Pc).Op 1) {zcf g with A:=(zcv g.aw g.Pc).X}<|cond (ieq (zcv g.aw g.Pc).Op 2) {zcf g with A:=zpO (zO .i64 g.A (zcv g.aw g.Pc).X) 100}<|cond (ieq (zcv g.aw g.Pc).Op 8) (cond (ieq g.A 0) {zcf g with Pc:=(zcv g.aw g.Pc).X}<|zcf g)<|zcf g)<|zcf g)<|zcf g)
@[simp] def z9v (g:ah):(zcf g).aw=g.aw:=by unfold zcf;cases ige g.Pc 12<;>rfl
@[simp] def z95 (g:ah):(zcf g).A=g.A:=by unfold zcf;cases ige g.Pc 12<;>rfl
@[simp] def z7R (g:ah):(zcf g).az=g.az:=by unfold zcf;cases ige g.Pc 12<;>rfl
@[simp] def z9u (g:ah):(zcf g).av=g.av:=by unfold zcf;cases ige g.Pc 12<;>rfl
@[simp] def z9L (g:ah):(zcf g).Ctl=g.Ctl:=by unfold zcf;cases ige g.Pc 12<;>rfl
@[simp] def z7Q (g:ah):(zcf g).ak=g.ak:=by unfold zcf;cases ige g.Pc 12<;>rfl
@[simp] def z9t (g:ah):(zcf g).Exit=g.Exit:=by unfold zcf;cases ige g.Pc 12<;>rfl
@[simp] def z8K (g:ah):(zcf g).aF=g.aF:=by unfold zcf;cases ige g.Pc 12<;>rfl
@[simp] def z9w (g:ah):(zcf g).aC=g.aC:=by unfold zcf;cases ige g.Pc 12<;>rfl
@[simp] def z9M (g:ah)(x:Int):(zcf {g with A:=x}).Pc=(zcf g).Pc:=by unfold zcf;cases ige g.Pc 12<;>rfl
@[simp] def zFm {g:ah}(h:SmG g):SmG (plainly g):=by have a:=zk6 h;unfold plainly;cases ine (zbc g) 2;{cases zi g.A 0 99;{exact a};{cases zi (zcv g.aw g.Pc).X 0 99;{exact a};{cases ieq (zcv g.aw g.Pc).Op 1;{cases ieq (zcv g.aw g.Pc).Op 2;{cases ieq (zcv g.aw g.Pc).Op 8;{exact a};{cases ieq g.A 0<;>exact a}};{exact a}};{exact a}}}};{exact h}
@[simp] abbrev zq8 (g:ah):ah:=plainly g
def zzG:Run:=rF1 (dT .guest) λb=>(zbj b,[aT .guest<|zq8 b])
def zEo (N:Nat)(a:ah):OA:=
 let i:=ieq a.A 0;let c:=zbj a;let b:=aT .guest<|zeM a;let d:=zfX a.aw a.Pc;let j:=({a with A:=d.X}:ah);let h:=ieq d.Op 8;let e:=zi d.X 0 99;let g:=aT .guest ({ (zc9 a) with Pc:=d.X}:ah);let f:=({a with A:=(zpO (zO .i64 a.A d.X) 100)}:ah); (oN (zbO a)<|cond (ine (zmZ a) 2) (oN (zdF a)<|some [aT .guest<|zc9 a])<|oN (zfO a.aw a.Pc)<|oN (zM a.A 0 99)<|cond (zi a.A 0 99) (oN (zM d.X 0 99)<|cond e (cond (ieq d.Op 1) (oN (zbj j)<|some [aT .guest<|zeM j])<|cond e (cond (ieq d.Op 2) (oN (ine 100 0)<|oN (zbj f)<|some [aT .guest<|zeM f])<|cond e (cond h (cond i (oN (zdF a)<|some [g])<|oN c<|some [b])<|oN c<|some [b])<|oN c<|some [b])<|cond e (cond h (cond i (oN (zdF a)<|some [g])<|oN c<|some [b])<|oN c<|some [b])<|oN c<|some [b])<|cond e (cond (ieq d.Op 2) (oN (ine 100 0)<|oN (zbj f)<|some [aT .guest<|zeM f])<|cond e (cond h (cond i (oN (zdF a)<|some [g])<|oN c<|some [b])<|oN c<|some [b])<|oN c<|some [b])<|cond e (cond h (cond i (oN (zdF a)<|some [g])<|oN c<|some [b])<|oN c<|some [b])<|oN c<|some [b])<|oN c<|some [b])
def zPJ (a:ah)(b:zbj a=true):∃N,zEo N a=some [aT .guest<|zq8 a]:=by
 have c:=zN.1 b;have d:_/\_/\_/\_:=c;refine⟨0,?_⟩;unfold zEo oN;conv=>zeta
 refine j0 rfl (br (λ_=>mu ?_) λ_=>j0 rfl (j0 rfl (br (λ_=>j0 rfl (br (λ_=>br (λ_=>mu ?_) λ_=>br (λ_=>br (λ_=>j0 rfl (mu ?_)) λ_=>br (λ_=>br (λ_=>br (λ_=>mu ?_) λ_=>mu ?_) λ_=>mu ?_) λ_=>mu ?_) λ_=>br (λ_=>br (λ_=>br (λ_=>mu ?_) λ_=>mu ?_) λ_=>mu ?_) λ_=>mu ?_) λ_=>br (λ_=>br (λ_=>j0 rfl (mu ?_)) λ_=>br (λ_=>br (λ_=>br (λ_=>mu ?_) λ_=>mu ?_) λ_=>mu ?_) λ_=>mu ?_) λ_=>br (λ_=>br (λ_=>br (λ_=>mu ?_) λ_=>mu ?_) λ_=>mu ?_) λ_=>mu ?_)) λ_=>mu ?_)));all_goals first|rfl|(simp only [*,zq8,plainly,cT,cF]<;>rfl)|simp_all[Ty.cells,zq8,plainly]
def zIY:vM 195 zzG:=kF1 zpa zC zA zq (zu []) zPJ
def C0 (g:ah):Int:=bif ine (zbc g) 3 then (cond (ine (zbc g) 4) (-1)<|(zcv g.aw g.Pc).X) else (zcv g.aw g.Pc).X
@[simp] abbrev ziY (g:ah):Int:=C0 g
def zzv:Run:=rF1 (dT .guest) λb=>(zbO b,[aI<|ziY b])
def zD7 (N:Nat)(a:ah):OA:=
 (oN (zbO a)<|cond (ine (zmZ a) 3) (cond (ine (zmZ a) 4) (some [aI<|-1])<|oN (zfO a.aw a.Pc)<|some [aI (zfX a.aw a.Pc).X])<|oN (zfO a.aw a.Pc)<|some [aI (zfX a.aw a.Pc).X])
def zPs (a:ah)(b:zbO a=true):∃N,zD7 N a=some [aI<|ziY a]:=by refine⟨0,?_⟩;unfold zD7 oN;refine j0 rfl (br (λ_=>br (λ_=>?_) λ_=>j0 rfl ?_) λ_=>j0 rfl ?_);all_goals first|rfl|(simp only [*,ziY,C0,cT,cF]<;>rfl)|simp_all[Ty.cells,ziY,C0]
def zIN:vM 222 zzv:=kF1 zpa zC zA zq (zu []) zPs
def zjx (g:ah)(t w:Int):ah:=bif ieq w 6 then stopped g (zxO (zcv g.aw g.Pc).X) else (cond (ieq w 5&&zg7 t 1) (stopped g<|zwG (zcv g.aw g.Pc).X)<|cond (ieq w 7&&zg7 t 2) (stopped g ⟨4,0,false,0⟩)<|cond (ieq w 7) (held g)<|zcf g)
def zkj (t w:Int):Bool:=bif ieq w 6 then false else (cond (ieq w 5&&zg7 t 1) false<|cond (ieq w 7&&zg7 t 2) false true)
@[simp] def zCk {g:ah}(t w:Int)(h:SmG g):SmG (zjx g t w):=by unfold zjx;cases ieq w 6;{cases (ieq w 5&&zg7 t 1);{cases (ieq w 7&&zg7 t 2);{cases ieq w 7;{exact zk6 h};{exact zTJ h}};{exact h}};{exact h}};{exact h}
@[simp] abbrev zee (g:ah)(t w:Int):Bool:=pc (SmG g)
@[simp] abbrev zci (g:ah)(t w:Int):ah:=zjx g t w
@[simp] abbrev zdG (g:ah)(t w:Int):Bool:=zkj t w
def zzO:Run:=rF3 (dT .guest) dI dI λb c d=>(zee b c d,[aT .guest<|zci b c d,aB<|zdG b c d])
def zEy (N:Nat)(a:ah)(c b:Int):OA:=
 let g:=aT .guest<|zeM a;let f:=aT .guest<|zxj a;let e:=(⟨4,0,false,0⟩:aD);let d:=(zfX a.aw a.Pc).X; (oN (zfO a.aw a.Pc)<|cond (ieq b 6) (oN (zgo d)<|oN (zet a<|zfw d)<|some [aT .guest<|zdW a<|zfw d,aB false])<|cond (ieq b 5) (oN (zh8 c 1)<|cond (zhS c 1) (oN (zgo d)<|oN (zet a<|zgq d)<|some [aT .guest<|zdW a<|zgq d,aB false])<|cond (ieq b 7) (oN (zh8 c 2)<|cond (zhS c 2) (oN (zet a e)<|some [aT .guest<|zdW a e,aB false])<|cond (ieq b 7) (oN (zbj a)<|some [f,aB true])<|oN (zbj a)<|some [g,aB true])<|cond (ieq b 7) (oN (zbj a)<|some [f,aB true])<|oN (zbj a)<|some [g,aB true])<|cond (ieq b 7) (oN (zh8 c 2)<|cond (zhS c 2) (oN (zet a e)<|some [aT .guest<|zdW a e,aB false])<|cond (ieq b 7) (oN (zbj a)<|some [f,aB true])<|oN (zbj a)<|some [g,aB true])<|cond (ieq b 7) (oN (zbj a)<|some [f,aB true])<|oN (zbj a)<|some [g,aB true])
def zPU (a:ah)(b c:Int)(d:zee a b c=true):∃N,zEy N a b c=some [aT .guest<|zci a b c,aB<|zdG a b c]:=by
 have e:=zN.1 d;refine⟨0,?_⟩;unfold zEy oN;conv=>zeta
 refine j0 rfl (br (λ_=>j0 rfl (mu ?_)) λ_=>br (λ_=>j0 rfl (br (λ_=>j0 rfl (mu ?_)) λ_=>br (λ_=>j0 rfl (br (λ_=>mu ?_) λ_=>br (λ_=>mu ?_) λ_=>mu ?_)) λ_=>br (λ_=>mu ?_) λ_=>mu ?_)) λ_=>br (λ_=>j0 rfl (br (λ_=>mu ?_) λ_=>br (λ_=>mu ?_) λ_=>mu ?_)) λ_=>br (λ_=>mu ?_) λ_=>mu ?_);all_goals first|rfl|(simp only [*,zci,zdG,zjx,zkj,cT,cF]<;>rfl)|simp_all[Ty.cells,zci,zdG,zjx,zkj]
def zJh:vM 228 zzO:=kF3 zpa zC zA zq (zu []) zPU
def zca (b:am):Bool:=bif b.ad.all zdY then (zhO b.ag 8&&(zi (ln b.ad) 1 2&&(ile (ln b.Outs) 40&&zdH b.ak))) else false
@[simp] abbrev zoi (b:am):Bool:=true
@[simp] abbrev ze3 (b:am):Bool:=zca b
def zBU:Run:=rF1 (dT .bare) λb=>(zoi b,[aB<|ze3 b])
def zHA (N:Nat)(c:am):OA:=
 (iter (σ:=(Int×Int×lM×lG×LI×Unit)) N (λd a=>let b:=a.2.2.2.1; (cond (ilt a.1<|ln b) (oN (inb a.1<|ln b)<|oN (zbO<|ix b a.1 zF)<|cond (nB<|zhR<|ix b a.1 zF) oF<|d (zO .i64 a.1 1,a.2.1,a.2.2.1,b,a.2.2.2.2.1,()))<|oN (zkT a.2.2.1 8)<|cond (zfY a.2.2.1 8) (oN (zM (ln b) 1 2)<|cond (zi (ln b) 1 2) (cond (ile (ln a.2.2.2.2.1) 40) (oN (zcX a.2.1)<|some [aB<|ze4 a.2.1]) oF) oF) oF)) (0,c.ak,c.ag,c.ad,c.Outs,()))
def zT3:=zu [(235,0,{n:=38,tm:=[(1,.lp 0 0),(3,ti)],lo:=[(0,[.sl 0 [],.sl 1 [],.sl 2 [],ti])],ro:=[(0,.sl .int,false),(1,.guest,false),(2,.int,false)]})]
def zSi (a:am)(k:zbV big [aT .bare a])(m:zoi a=true):∃N,zHA N a=some [aB<|ze3 a]:=by
 have j:(_:List _).length<=big:=((zdv k).1 (.s .guest a.ad) (by simp[AV.cvs,Ty.cells])).len;refine zct λN h=>?_;unfold zHA oN nB;conv=>zeta
 refine(zbo a.ad (λi (t:Unit)=>((i:Int),a.ak,a.ag,a.ad,a.Outs,())) _ (λ_ x (_:Unit) l=>bif (zdY) x then l () else oF) (λ(t:Unit)=>cond (zkT a.ag 8) (cond (zfY a.ag 8) (cond (zM (ln a.ad) 1 2) (cond (zi (ln a.ad) 1 2) (cond (ile (ln a.Outs) 40) (cond (zcX a.ak) (some [.one<|.b<|ze4 a.ak]) none) oF) oF) none) oF) none) (λi f t rec=>?_) (λt rec=>?_) _ ()<|h j).trans ?_;{simp only [zbx f,zbe f,zbl f,zbg f j,cT];exact zi2 rfl};{simp only [zbp,cF]};rw[zg5<|zdY];refine br (λc=>?_) (λc=>?_);{refine j0 rfl ?_;refine br (λd=>?_) (λd=>?_);{refine j0 rfl ?_;refine br (λe=>?_) (λe=>?_);{refine br (λg=>?_) (λg=>?_);{refine j0 rfl ?_;first|rfl|(simp only [c,d,e,g,ze3,zca,cT,cF]<;>rfl)|(simp_all [Ty.cells,ze3,zca];done)};{first|rfl|(simp only [c,d,e,g,ze3,zca,cT,cF]<;>rfl)|(simp_all [Ty.cells,ze3,zca];done)}};{first|rfl|(simp only [c,d,e,ze3,zca,cT,cF]<;>rfl)|(simp_all [Ty.cells,ze3,zca];done)}};{first|rfl|(simp only [c,d,ze3,zca,cT,cF]<;>rfl)|(simp_all [Ty.cells,ze3,zca];done)}};{first|rfl|(simp only [c,ze3,zca,cT,cF]<;>rfl)|(simp_all [Ty.cells,ze3,zca];done)}
def zLC:vM 235 zBU:=hF1 zpa zC zA zq zT3 zSi
@[simp] abbrev zdT (b:am):Bool:=pc (SmB b)
@[simp] abbrev zcs (b:am):am:=b
def zzN:Run:=rF1 (dT .bare) λb=>(zdT b,[aT .bare<|zcs b])
def zEx (N:Nat)(a:am):OA:=
 (oN (zgc a.ag)<|oN (zfQ a.ad)<|oN (few<|ln<|ap [] a.Outs)<|some [aT .bare (⟨zeJ a.ag,zgf a.ad,ap [] a.Outs,a.ak⟩:am)])
def zPT (a:am)(b:zdT a=true):∃N,zEx N a=some [aT .bare<|zcs a]:=by have c:=zN.1 b;have d:_/\_/\_:=c;refine⟨0,?_⟩;unfold zEx oN;refine mu (mu<|mu ?_);first|rfl|(simp only [*,zcs,cT,cF]<;>rfl)|simp_all[Ty.cells,zcs]
def zJg:vM 229 zzN:=kF1 zpa zC zA zq (zu []) zPT
def z4K:zW:=[(195,zzG),(222,zzv),(228,zzO),(235,zBU),(229,zzN)]++z4J
def z2d:zL z4K:=zh zIY (zh zIN<|zh zJh<|zh zLC<|zh zJg zpa)
def zeC (b:am)(i:Int)(x:ah):am:={b with ad:=up b.ad i x}
def znV (b:am)(n:Int):am:=bif ilt (ln b.Outs) 40 then {b with Outs:=ap b.Outs [n]} else b
@[simp] def zm3 {b:am}{i:Int}{x:ah}(h:SmB b)(a:SmG x):SmB (zeC b i x):=⟨h.1,zC4 h.2.1 a,h.2.2⟩
@[simp] def zYK {b:am}{n:Int}(h:SmB b):SmB (znV b n):=by unfold znV;cases a:ilt (ln b.Outs) 40;{exact h};{have:=qF a;refine⟨h.1,h.2.1,?_⟩;simp[ln] at *;omega}
@[simp] def z9X (b:am)(n:Int):(znV b n).ad=b.ad:=by unfold znV;cases ilt (ln b.Outs) 40<;>rfl
@[simp] def zyM {m:List LI}{p c v:Int}(h:SmM m):SmM (zbM m p c v):=by unfold zbM;cases a:zhN m p c;{exact h};{cases b:zi v 0 99;{exact h};{exact zKC h (by simpa using z8Z h ((zyl m p c).1 a).1 [])}}
def zW9:zW:=z4K
def zsO:zL zW9:=z2d
def znm (b:am)(g:Int)(x:ah)(w:Bool):am :=
 bif zfD x.av (zbh<|C0 x) (zcb w) then
  (bif w then zeC {b with ag:=zbM b.ag (zcF x.av (zbh<|C0 x)<|zcb w) (zdl<|C0 x) x.A} g (zcf x)
  else zeC b g (loaded x<|cellAt b.ag (zcF x.av (zbh<|C0 x)<|zcb w)<|zdl<|C0 x))
 else zeC b g (stopped x<|zqN (zbh<|C0 x) w)
def zC5 (b:am)(g:Int)(x:ah)(w:Int):am :=
 zeC (cond (cond (zkj x.Ctl.aq w) (ieq w 5) false) (znV b (zcv x.aw x.Pc).X) b) g (zjx x x.Ctl.aq w)
def stepped (b:am)(g:Int)(x:ah)(w:Int):am :=
 bif ieq w 1 then zeC b g (interrupted x) else (cond (ieq w 2) (zeC b g<|plainly x)<|cond (ieq w 3) (znm b g x false)<|cond (ieq w 4) (znm b g x true)<|zC5 b g x w)
def zlb (b:am)(g:Int):Bool:=bif i0 g (ln b.ad) then (cond (zca b) (!ieq (zbc<|gAt b g) 0) false) else false
def zh0 (b:am)(g:Int):am:=bif zlb b g then stepped b g (gAt b g) (zbc<|gAt b g) else b
@[simp] def zWB {b:am}{g:Int}{x:ah}{w:Bool}(h:SmB b)(a:SmG x):SmB (znm b g x w):=by unfold znm;cases zfD x.av (zbh<|C0 x) (zcb w);{exact zm3 h a};{cases w;{exact zm3 h (zKA _ a)};{exact⟨zyM h.1,zC4 h.2.1<|zk6 a,h.2.2⟩}}
@[simp] def z7C {b:am}{g:Int}{x:ah}{w:Int}(h:SmB b)(a:SmG x):SmB (zC5 b g x w):=by unfold zC5;cases (cond (zkj x.Ctl.aq w) (ieq w 5) false);{exact zm3 h (zCk _ _ a)};{exact zm3 (zYK h) (zCk _ _ a)}
@[simp] def zVF {b:am}{g:Int}{x:ah}{w:Int}(h:SmB b)(a:SmG x):SmB (stepped b g x w):=by unfold stepped;cases ieq w 1;{cases ieq w 2;{cases ieq w 3;{cases ieq w 4;{exact z7C h a};{exact zWB h a}};{exact zWB h a}};{exact zm3 h (zFm a)}};{exact zm3 h (zWC a)}
@[simp] def z9Z {b:am}{g:Int}(h:SmB b):SmB (zh0 b g):=by unfold zh0;cases zlb b g;{exact h};{exact zVF h (zjP g h)}
def z9G (x:ah):ieq (zbc x) 0=false->ieq (zbc x) 1=false->ieq (zbc x) 2=false->ieq (zbc x) 3=false->ieq (zbc x) 4=false->ieq (zbc x) 5=false->ieq (zbc x) 6=false->ieq (zbc x) 7=true:=by unfold zbc zwF;cases canRun x;{intro h;cases h};{cases zim x;{simp only [cT,cF];generalize (zcv x.aw x.Pc).Op=o;cases ieq o 3<;>cases ieq o 4<;>cases ieq o 5<;>cases ieq o 6<;>cases ieq o 7<;>simp [ieq]};{intro _ h;cases h}}
def SmK (k:ax):Prop:=k.ay.length<=1048576/\k.aA.length<=1048576
def zAO (l:List ax):Prop:=l.length<=1048576/\∀x∈l,SmK x
def zfm (m:Mon):Prop:=m.ae.length<=1048576/\SmM m.Out/\m.ar.length<=1048576/\zkl m.ad/\m.Outs.length<=1048576/\zAO m.aj
def zqJ (l:List Mon):Prop:=l.length<=1048576/\∀x∈l,zfm x
def SmH (h:ac):Prop:=SmM h.ag/\zqJ h.aa/\h.ao.length<=1048576/\h.an.length<=1048576
@[simp] def zwd (k:ax):(∀c∈Ty.cells .kept k,CVB sm c)↔SmK k:=by simp[Ty.cells,SmK,z3x]
@[simp] def z2l (l:List ax):CVB sm (.s .kept l)↔zAO l:=by rw[zlf];simp only[zwd];rfl
@[simp] def zVU (m:Mon):(∀c∈Ty.cells .mon m,CVB sm c)↔zfm m:=by simp only[Ty.cells,qG,qO,or_false,vI,forall_eq,zpb,zua,z2l,zXi,zUz,zUy,z5d,and_true,true_and];rfl
@[simp] def z6z (l:List Mon):CVB sm (.s .mon l)↔zqJ l:=by rw[zlf];simp only[zVU];rfl
@[simp] def zU (h:ac):zcN h↔SmH h:=by unfold zcN;simp only[zbn,qG,qO,or_false,vI,forall_eq,zpb,z6z,zRv];rfl
def zbD {p:Prop}(h:p):pc p=true:=zbs h
def zxp {l:List ax}{i:Int}{x:ax}(h:zAO l)(b:SmK x):zAO (up l i x):=by refine⟨by simpa using h.1,λy a=>?_⟩;rcases qX a with a|rfl;{exact h.2 y a};{exact b}
def zi0 {l:List Mon}{i:Int}{x:Mon}(h:zqJ l)(b:zfm x):zqJ (up l i x):=by refine⟨by simpa using h.1,λy a=>?_⟩;rcases qX a with a|rfl;{exact h.2 y a};{exact b}
def zna {a:Type}{l:List a}(h:l.length<=1048576):few (ln<|ap [] l)=true:=by rw[zlT,z6H];omega
@[simp] abbrev zbu (h:ac):Bool:=pc (zcN h)
@[simp] abbrev zo (h:ac):ac:=h
def zhB:Run:=rF1 dH λb=>(zbu b,[aH<|zo b])
def zEz (N:Nat)(b:ac):OA:=
 (oN (zgc b.ag)<|oN (few<|ln<|ap [] b.ao)<|oN (few<|ln<|ap [] b.an)<|iter (σ:=(Int×lM×lN×lE×lE×lM×lN×lE×lE×lM×lN×lE×lE×Unit)) N (λf a=>let b:=a.2.2.2.2.2.2.2;let e:=b.2.2.2.2.2.1;let d:=ix a.2.2.1 a.1 zk;let c:=ap b.2.2.2.1 [zm0 d]; (cond (ilt a.1<|ln a.2.2.1) (oN (inb a.1<|ln a.2.2.1)<|oN (zjq d)<|oN (few<|ln c)<|f (zO .i64 a.1 1,a.2.1,a.2.2.1,a.2.2.2.1,a.2.2.2.2.1,a.2.2.2.2.2.1,a.2.2.2.2.2.2.1,b.1,b.2.1,b.2.2.1,c,b.2.2.2.2.1,e,()))<|some [aH (⟨b.2.2.1,b.2.2.2.1,b.2.2.2.2.1,e⟩:ac)])) (0,b.ag,b.aa,b.ao,b.an,[],[],[],[],zeJ b.ag,[],ap [] b.ao,ap [] b.an,()))
def zQp:=zu [(21,0,{n:=36,tm:=[(1,.lp 0 0),(2,.lp 1 0),(3,.lp 2 0),(4,ti)],lo:=[(0,[.sl 0 [],.sl 1 [],.sl 2 [],.sl 3 []]),(1,[.sl 4 [],.sl 5 [],.sl 6 [],.sl 7 []]),(2,[.sl 8 [],.sl 9 [],.sl 10 [],.sl 11 []])],ro:=[(0,.sl .int,false),(1,.mon,false),(2,.entry,false),(3,.entry,false),(4,.sl .int,true),(5,.mon,true),(6,.entry,true),(7,.entry,true),(8,.sl .int,true),(9,.mon,true),(10,.entry,true),(11,.entry,true)]})]
def zPV (a:ac)(k:zbu a=true):∃N,zEz N a=some [aH<|zo a]:=by
 obtain⟨g,f,h,j⟩:=(zU a).1 (zN.1 k);have e:=zcP f.1;refine zct λN d=>?_;unfold zEz oN;conv=>zeta
 refine j0 (zbD<|(zpb _).2 g) (j0 (zna h)<|j0 (zna j) ?_);refine(zbo a.aa (λi (t:lN)=>((i:Int),a.ag,a.aa,a.ao,a.an,[],[],[],[],zeJ a.ag,t,ap [] a.ao,ap [] a.an,())) _ (λ_ x b m=>bif zjq x then (cond (few<|ln<|ap b [zm0 x]) (m<|ap b [zm0 x]) none) else none) (λ(t:lN)=>some [.agg<|zbn (⟨zeJ a.ag,t,ap [] a.ao,ap [] a.an⟩:ac)]) (λi c t rec=>?_) (λt rec=>?_) _ ([])<|d e.1).trans ?_;{simp only [zbx c,zbe c,zbl c,zbg c e.1,cT]};{simp only [zbp,cF]};exact zi3 zjq zm0 _ a.aa 0 [] (λx l=>⟨zbD<|(zVU x).2 (f.2 x l),rfl⟩) (by simpa using e.2)
def zuu:vM 21 zhB:=kF1 zsO zC zA zq zQp zPV
@[simp] abbrev zeQ (k:ax):Bool:=pc (SmK k)
@[simp] abbrev zd4 (k:ax):ax:=k
def zwV:Run:=rF1 (dT .kept) λb=>(zeQ b,[aT .kept<|zd4 b])
def zAl (N:Nat)(a:ax):OA:=
 (oN (few<|ln<|ap [] a.ay)<|oN (zgC a.aA)<|some [aT .kept (⟨ap [] a.ay,zfd a.aA⟩:ax)])
def zMk (a:ax)(b:zeQ a=true):∃N,zAl N a=some [aT .kept<|zd4 a]:=by have c:=zN.1 b;obtain⟨f,g⟩:=c;have d:a.ay.length<=2147483648:=(by omega);have e:a.aA.length<=2147483648:=(by omega);refine⟨0,?_⟩;unfold zAl oN;refine mu (mu ?_);first|rfl|(simp only [*,zd4,cT,cF]<;>rfl)|simp_all[Ty.cells,zd4]
def zF2:vM 76 zwV:=kF1 zsO zC zA zq (zu []) zMk
def z4w:zW:=[(21,zhB),(76,zwV)]++zW9
def zRk:zL z4w:=zh zuu (zh zF2 zsO)
@[simp] abbrev zlW (m:Mon):Bool:=pc (zfm m)
@[simp] abbrev znc (m:Mon):Mon:=m
def zzs:Run:=rF1 (dT .mon) λb=>(zlW b,[aT .mon<|znc b])
def zD3 (N:Nat)(b:Mon):OA:=
 (oN (zgC b.ae)<|oN (zh5 b.Out)<|oN (few<|ln<|ap [] b.ar)<|oN (zlj b.ad)<|oN (zd6 b.Outs)<|iter (σ:=(Int×Int×Int×Int×Int×Int×Int×Int×lK×lK×lS×lM×lB×lG×LI×lS×lM×lB×lG×LI×lK×Unit)) N (λi a=>let b:=a.2.2.2.2.2.2.2.2.2.2;let j:=b.2.2.2.2.2;let h:=b.2.2.1;let g:=b.2.2.2.1;let f:=b.2.2.2.2.1;let e:=a.2.2.2.2.2.2.2.2.1;let d:=a.2.2.2.2.2.2.2.2.2.1;let c:=ix d a.2.1 zfF; (cond (ilt a.2.1 a.1) (oN (inb a.2.1<|ln d)<|oN (zeQ c)<|oN (few<|ln<|ap e [zd4 c])<|i (a.1,zO .i64 a.2.1 1,a.2.2.1,a.2.2.2.1,a.2.2.2.2.1,a.2.2.2.2.2.1,a.2.2.2.2.2.2.1,a.2.2.2.2.2.2.2.1,ap e [zd4 c],d,b.1,b.2.1,h,g,f,j.1,j.2.1,j.2.2.1,j.2.2.2.1,j.2.2.2.2.1,j.2.2.2.2.2.1,()))<|some [aT .mon (⟨b.1,b.2.1,h,g,f,a.2.2.1,a.2.2.2.1,e,a.2.2.2.2.1⟩:Mon)])) (ln b.aj,0,b.ak,b.aq,b.Own,0,0,0,[],b.aj,zfd b.ae,zfL b.Out,ap [] b.ar,zkv b.ad,zd3 b.Outs,[],[],[],[],[],[],()))
def zQh:=zu [(42,0,{n:=44,tm:=[(1,.lp 0 0),(2,.lp 1 0),(3,.sl 0 []),(29,.sl 1 []),(30,ti),(31,ti)],lo:=[(0,[.sl 2 [],.sl 3 [],.sl 4 [],.sl 5 [],.sl 6 [],ti,ti,.sl 1 [],ti]),(1,[.sl 7 [],.sl 8 [],.sl 9 [],.sl 10 [],.sl 11 [],ti,ti,.sl 12 [],ti])],ro:=[(0,.kept,true),(1,.kept,false),(2,.slot,true),(3,.sl .int,true),(4,.bool,true),(5,.guest,true),(6,.int,true),(7,.slot,true),(8,.sl .int,true),(9,.bool,true),(10,.guest,true),(11,.int,true),(12,.kept,true)]})]
def zPo (a:Mon)(p:zlW a=true):∃N,zD3 N a=some [aT .mon<|znc a]:=by
 obtain⟨s,l,m,n,u,f⟩:=zN.1 p;have e:=zcP f.1;refine zct λN d=>?_;unfold zD3 oN;conv=>zeta
 have g:zgC a.ae=true:=(by simp;omega);have h:zh5 a.Out=true:=(by simp;exact l);have j:zlj a.ad=true:=(by simp;exact n);have k:zd6 a.Outs=true:=(by simp;omega);refine j0 g (j0 h<|j0 (zna m)<|j0 j<|j0 k ?_);refine(zbo a.aj (λi (t:lK)=>(ln a.aj,(i:Int),a.ak,a.aq,a.Own,0,0,0,t,a.aj,zfd a.ae,zfL a.Out,ap [] a.ar,zkv a.ad,zd3 a.Outs,[],[],[],[],[],[],())) _ (λ_ x b r=>bif zeQ x then (cond (few<|ln<|ap b [zd4 x]) (r<|ap b [zd4 x]) none) else none) (λ(t:lK)=>some [.agg<|Ty.cells .mon (⟨zfd a.ae,zfL a.Out,ap [] a.ar,zkv a.ad,zd3 a.Outs,a.ak,a.aq,t,a.Own⟩:Mon)]) (λi c t rec=>?_) (λt rec=>?_) _ ([])<|d e.1).trans ?_;{simp only [zbx c,zbe c,zbl c,zbg c e.1,cT]};{simp only [zbp,cF]};exact zi3 zeQ zd4 _ a.aj 0 [] (λx q=>⟨zbD<|f.2 x q,rfl⟩) (by simpa using e.2)
def zIK:vM 42 zzs:=kF1 zRk zC zA zq zQh zPo
def z4x:zW:=[(42,zzs)]++z4w
def zxS:zL z4x:=zh zIK zRk
def zAj (N:Nat)(b:ac):OA:=
 (oN (zh5 b.ag)<|oN (few<|ln<|ap [] b.ao)<|oN (few<|ln<|ap [] b.an)<|iter (σ:=(Int×Int×lN×lM×lN×lE×lE×lM×lN×lE×lE×Unit)) N (λe a=>let b:=a.2.2.2.2.2.2.2;let d:=ix a.2.2.1 a.2.1 zk;let c:=ap b.2.1 [znc d]; (cond (ilt a.2.1 a.1) (oN (inb a.2.1<|ln a.2.2.1)<|oN (zlW d)<|oN (few<|ln c)<|e (a.1,zO .i64 a.2.1 1,a.2.2.1,a.2.2.2.1,a.2.2.2.2.1,a.2.2.2.2.2.1,a.2.2.2.2.2.2.1,b.1,c,b.2.2.1,b.2.2.2.1,()))<|some [aH (⟨b.1,b.2.1,b.2.2.1,b.2.2.2.1⟩:ac)])) (ln b.aa,0,b.aa,[],[],[],[],zfL b.ag,[],ap [] b.ao,ap [] b.an,()))
def zNe:=zu [(17,0,{n:=34,tm:=[(2,.lp 0 0),(3,.lp 1 0),(19,.sl 0 []),(20,ti),(21,ti)],lo:=[(0,[.sl 1 [],.sl 2 [],.sl 3 [],.sl 4 []]),(1,[.sl 5 [],.sl 6 [],.sl 7 [],.sl 8 []])],ro:=[(0,.mon,false),(1,.sl .int,true),(2,.mon,true),(3,.entry,true),(4,.entry,true),(5,.sl .int,true),(6,.mon,true),(7,.entry,true),(8,.entry,true)]})]
def zMi (a:ac)(l:zbu a=true):∃N,zAj N a=some [aH<|zo a]:=by
 obtain⟨h,f,j,k⟩:=(zU a).1 (zN.1 l);have e:=zcP f.1;refine zct λN d=>?_;unfold zAj oN;conv=>zeta
 have g:zh5 a.ag=true:=(by simp;exact h);refine j0 g (j0 (zna j)<|j0 (zna k) ?_);refine(zbo a.aa (λi (t:lN)=>(ln a.aa,(i:Int),a.aa,[],[],[],[],zfL a.ag,t,ap [] a.ao,ap [] a.an,())) _ (λ_ x b n=>bif zlW x then (cond (few<|ln<|ap b [znc x]) (n<|ap b [znc x]) none) else none) (λ(t:lN)=>some [.agg<|zbn (⟨zfL a.ag,t,ap [] a.ao,ap [] a.an⟩:ac)]) (λi c t rec=>?_) (λt rec=>?_) _ ([])<|d e.1).trans ?_;{simp only [zbx c,zbe c,zbl c,zbg c e.1,cT]};{simp only [zbp,cF]};exact zi3 zlW znc _ a.aa 0 [] (λx m=>⟨zbD<|f.2 x m,rfl⟩) (by simpa using e.2)
def zs3:vM 17 zhB:=kF1 zxS zC zA zq zNe zMi
def allI {a:Type}(p:Nat->a->Bool):List a->Nat->Bool
 |[],_=>true
 |x::l,i=>p i x&&allI p l (i+1)
def zFV {a b:Type}(p:Nat->a->Bool)(r:Option b)(K:Unit->Option b):∀(l:List a) (i:Nat),goL (λi x (_:Unit) k=>bif p i x then k () else r) K l i ()=bif allI p l i then K () else r
 |[],_=>rfl
 |x::l,i=>by simp only[goL,allI];cases p i x;{rfl};{simp only [cT,uJ];exact zFV p r K l (i+1)}
def zNS {a:Type}(q:a->Bool)(l:List a)(d:a):∀(n i:Nat),i+n<=l.length->znu (λj=>q (ix l (j:Int) d)) n i=((l.drop i).take n).all q
 | 0,i,_=>by simp[znu]
 |n+1,i,h=>by have b:i<l.length:=(by omega);rw[kO b,List.take_succ_cons,j9,<- zNS q l d n (i+1) (by omega)];simp only[znu,zbl b]
def sameKey (a b:au):Bool:=bif ieq a.Tag b.Tag then ieq a.af b.af else false
def alone (l:List au)(i:Nat)(x:au):Bool:=(l.take i).all λy=>!sameKey x y
def zfp (l:List au):Bool:=bif allI (alone l) l 0 then ile (ln l) 6 else false
def z2A {a:Type}{l:List a}{i:Nat}(h:i<=l.length):inr 0 (i:Int) (ln l)=true:=qK (by simp only[ln];omega)
@[simp] abbrev zhf (l:List au):Bool:=true
@[simp] abbrev zgO (l:List au):Bool:=zfp l
def zlr:Run:=rF1 (dS .entry) λb=>(zhf b,[aB<|zgO b])
def zAh (N:Nat)(g:lE):OA:=
 (iter (σ:=(Int×Int×lE×Unit)) N (λi b=>let c:=b.2.2.1;let e:=ix c b.2.1 zfb; (cond (ilt b.2.1 b.1) (oN (inb b.2.1<|ln c)<|oN (inr 0 b.2.1<|ln c)<|iter (σ:=(Int×Int×Int×Int×Int×Int×Int×Int×lE×lE×Unit)) N (λj a=>let b:=a.2.2.2.2;let d:=a.2.2.2.1;let f:=b.2.2.2.2.2.1;let h:=j (a.1,a.2.1,a.2.2.1,zO .i64 d 1,b.1,b.2.1,b.2.2.1,b.2.2.2.1,b.2.2.2.2.1,f,()); (cond (ilt d a.2.2.1) (oN (inb d<|ln f)<|cond (ieq b.1 (ix f d zfb).Tag) (cond (ieq b.2.1 (ix f d zfb).af) oF h) h)<|i (a.1,zO .i64 a.2.1 1,b.2.2.2.2.1,()))) (b.1,b.2.1,ln<|tk c b.2.1,0,e.Tag,e.af,e.ac,e.ai,c,tk c b.2.1,()))<|some [aB<|ile (ln c) 6])) (ln g,0,g,()))
def zNd:=zu [(78,0,{n:=39,tm:=[(0,.sl 0 []),(7,.sl 0 []),(8,ti),(9,ti)],lo:=[],ro:=[(0,.entry,false)]}),(78,2,{n:=39,tm:=[(0,.sl 0 []),(4,.lp 0 0),(7,.sl 0 []),(8,ti),(9,ti),(16,.sl 1 []),(17,ti),(18,ti)],lo:=[(0,[ti,ti,ti,ti])],ro:=[(0,.entry,false),(1,.entry,false)]})]
def zMg (a:List au)(l:zbV big [aS .entry a])(m:zhf a=true):∃N,zAh N a=some [aB<|zgO a]:=by
 have e:=len0 l;refine zct λN d=>?_;unfold zAh oN;conv=>zeta
 refine(zbo a (λi (t:Unit)=>(ln a,(i:Int),a,())) _ (λi (x:au) (_:Unit) h=>bif alone a i x then h () else oF) (λ(t:Unit)=>some [.one<|.b<|ile (ln a) 6]) (λi c t rec=>?_) (λt rec=>?_) _ ()<|d e).trans ?_;{simp only [zbx c,zbe c,zbl c,zbg c e,cT];rw[z2A<|Nat.le_of_lt c,cT];have k:(tk a (i:Int)).length<=big:=qS (by simp[tk];omega) e;refine(zbo (tk a (i:Int)) (λj (u:Unit)=>(ln a,(i:Int),ln<|tk a (i:Int),(j:Int),a[i].Tag,a[i].af,a[i].ac,a[i].ai,a,tk a (i:Int),())) _ (λ_ (y:au) (_:Unit) h=>bif !sameKey a[i] y then h () else oF) (λ(u:Unit)=>rec (ln a,((i+1:Nat):Int),a,())) (λj g u f=>?_) (λu f=>?_) _ ()<|d k).trans ?_;{simp only [zbx g,zbe g,zbl g,zbg g k,cT,zbg c e];unfold sameKey;cases ieq a[i].Tag (tk a (i:Int))[j].Tag<;>cases ieq a[i].af (tk a (i:Int))[j].af<;>rfl};{simp only [zbp,cF,zbg c e]};rw[zg5 λy=>!sameKey a[i] y];rfl};{simp only [zbp,cF]};rw[zFV<|alone a];unfold zgO zfp;cases allI (alone a) a 0<;>rfl
def zFY:vM 78 zlr:=hF1 zxS zC zA zq zNd zMg
def zAu (N:Nat)(f:lE):OA:=
 (iter (σ:=(Int×lE×Unit)) N (λg c=>cond (ilt c.1<|ln c.2.1) (iter (σ:=(Int×Int×lE×Unit)) N (λh a=>let b:=a.2.2.1;let e:=ix b a.2.1 zfb;let d:=h (a.1,zO .i64 a.2.1 1,b,()); (cond (ilt a.2.1 a.1) (oN (inb a.1<|ln b)<|oN (inb a.2.1<|ln b)<|cond (ieq (ix b a.1 zfb).Tag e.Tag) (oN (inb a.1<|ln b)<|oN (inb a.2.1<|ln b)<|cond (ieq (ix b a.1 zfb).af e.af) oF d) d)<|g (zO .i64 a.1 1,b,()))) (c.1,0,c.2.1,()))<|some [aB<|ile (ln c.2.1) 6]) (0,f,()))
def zNk:=zu [(35,0,{n:=43,tm:=[(0,.sl 0 []),(3,ti)],lo:=[],ro:=[(0,.entry,false)]}),(35,2,{n:=43,tm:=[(0,.sl 0 []),(3,ti),(4,ti)],lo:=[],ro:=[(0,.entry,false)]})]
def zMu (a:List au)(k:zbV big [aS .entry a])(l:zhf a=true):∃N,zAu N a=some [aB<|zgO a]:=by
 have g:=len0 k;refine zct λN d=>?_;unfold zAu oN;conv=>zeta
 refine(zbo a (λi (t:Unit)=>((i:Int),a,())) _ (λi (x:au) (_:Unit) h=>bif alone a i x then h () else oF) (λ(t:Unit)=>some [.one<|.b<|ile (ln a) 6]) (λi c t rec=>?_) (λt rec=>?_) _ ()<|d g).trans ?_;{simp only [zbx c,zbe c,zbl c,zbg c g,cT];refine(zye i (λ(j:Nat) (_:Unit)=>((i:Int),(j:Int),a,())) _ (λj (_:Unit) h=>bif !sameKey a[i] (ix a (j:Int) zfb) then h () else oF) (λ_=>rec (((i+1:Nat):Int),a,())) (λj m u f=>?_) (λu f=>?_) _ ()<|d (by omega)).trans ?_;{have e:j<a.length:=(by omega);simp only[show ilt (j:Int) (i:Int)=true from qK (by omega),zbe c,zbe e,zbl c,zbg e g,cT];unfold sameKey;cases ieq a[i].Tag (ix a (j:Int) zfb).Tag<;>cases ieq a[i].af (ix a (j:Int) zfb).af<;>rfl};{simp only [show ilt (i:Int) (i:Int)=false from qQ (by omega),zbg c g,cF]};rw[zCO λj=>!sameKey a[i] (ix a (j:Int) zfb),zNS (λy=>!sameKey a[i] y) a _ i 0 (by omega)];rfl};{simp only [zbp,cF]};rw[zFV<|alone a];unfold zgO zfp;cases allI (alone a) a 0<;>rfl
def zGb:vM 35 zlr:=hF1 zxS zC zA zq zNk zMu
def z4y:zW:=[(17,zhB),(35,zlr),(78,zlr)]++z4x
def zFL:zL z4y:=zh zs3 (zh zGb<|zh zFY zxS)
def zMb (a b:Int):igt a b = !ile a b:=by unfold igt ile;by_cases h:a<=b;{rw [qK h,qQ (by omega)];rfl};{rw [qQ h,qK (by omega)];rfl}
def stB {c M:Bool}{E:OA}(h:c=true->E=some [AV.one<|.b M]):(cond (cond c false true) (some [AV.one<|.b false]) E)=some [AV.one<|.b<|cond c M false]:=by cases c;{rfl};{exact h rfl}
def stI {a b:Int}{M:Bool}{E:OA}(h:ieq a b=true->E=some [AV.one<|.b M]):(cond (ine a b) (some [AV.one<|.b false]) E)=some [AV.one<|.b<|cond (ieq a b) M false]:=by rw[zwy];cases c:ieq a b;{rfl};{exact h c}
def stG {a b:Int}{M:Bool}{E:OA}(h:ile a b=true->E=some [AV.one<|.b M]):(cond (igt a b) (some [AV.one<|.b false]) E)=some [AV.one<|.b<|cond (ile a b) M false]:=by rw[zMb];cases c:ile a b;{rfl};{exact h c}
def zlo (s:k0)(p:LI):Bool:=bif zc1 s z0 then zcq p else (cond (enough s.ai 1) (ile (ln p) 0) false)
def fits (m:Mon)(j:Nat):Bool:=zlo (ix m.ae (j:Int) zY) (ix m.Out (j:Int) [])
def zez (m:Mon):Bool:=bif zi (ln m.ad) 1 2 then (cond (ieq (ln m.aj)<|ln m.ad) (cond (zc4 m.ae 8 12) (cond (ieq (ln m.Out) 8) (cond (ieq (ln m.ar) 8) (cond (ile (ln m.Outs) 40) (cond (zdH m.ak) (cond (zi m.aq 0 3) (cond (zi m.Own 0 1000000000) (cond (m.ad.all zdY) (znu (fits m) 8 0) false) false) false) false) false) false) false) false) false) else false
def zrd {t:List k0}{n p:Int}(h:zc4 t n p=true):ln t=n:=by unfold zc4 at h;cases a:t.all (λs=>zdX s p);{rw [a]at h;cases h};{rw [a]at h;exact qF h}
@[simp] abbrev zhJ (m:Mon):Bool:=true
@[simp] abbrev ziy (m:Mon):Bool:=zez m
def zp9:Run:=rF1 (dT .mon) λb=>(zhJ b,[aB<|ziy b])
def zNB (N:Nat)(a:Mon):OA:=
 let h:=ln a.ad; (oN (zM h 1 2)<|cond (nB<|zi h 1 2) oF<|cond (ine (ln a.aj) h) oF<|oN (zid a.ae 8 12)<|cond (nB<|zen a.ae 8 12) oF<|cond (ine (ln a.Out) 8) oF<|cond (ine (ln a.ar) 8) oF<|cond (igt (ln a.Outs) 40) oF<|oN (zcX a.ak)<|cond (nB<|ze4 a.ak) oF<|oN (zM a.aq 0 3)<|cond (nB<|zi a.aq 0 3) oF<|oN (zM a.Own 0 1000000000)<|cond (nB<|zi a.Own 0 1000000000) oF<|iter (σ:=(Int×Int×Int×Int×Int×lG×lS×lM×lB×LI×lK×Unit)) N (λl b=>let a:=b.2.2.2.2.2.2.2;let i:=b.2.2.2.2.2.2.1;let g:=b.2.2.2.2.2.1;let k:=ix g b.2.1 zF; (cond (ilt b.2.1 b.1) (oN (inb b.2.1<|ln g)<|oN (zbO k)<|cond (nB<|zhR k) oF<|l (b.1,zO .i64 b.2.1 1,b.2.2.1,b.2.2.2.1,b.2.2.2.2.1,g,i,a.1,a.2.1,a.2.2.1,a.2.2.2.1,()))<|iter (σ:=(Int×Int×Int×Int×Int×lS×lM×lB×lG×LI×lK×Unit)) N (λm c=>let a:=c.2.2.2.2.2;let d:=c.2.1;let e:=a.2.1;let f:=ix a.1 d zY;let j:=m (c.1,zO .i64 d 1,c.2.2.1,c.2.2.2.1,c.2.2.2.2.1,a.1,e,a.2.2.1,a.2.2.2.1,a.2.2.2.2.1,a.2.2.2.2.2.1,()); (cond (ilt d c.1) (oN (inb d<|ln a.1)<|oN zbT<|cond (cond (ieq f.af zbi.af) (ieq f.ai zbi.ai) false) (oN (inb d<|ln e)<|oN (zdA<|ix e d [])<|cond (nB<|zc0<|ix e d []) oF j)<|oN (zcr f.ai 1)<|cond (nB<|zdc f.ai 1) oF<|oN (inb d<|ln e)<|cond (igt (ln<|ix e d []) 0) oF j) oT)) (ln i,0,b.2.2.1,b.2.2.2.1,b.2.2.2.2.1,i,a.1,a.2.1,g,a.2.2.1,a.2.2.2.1,()))) (h,0,a.ak,a.aq,a.Own,a.ad,a.ae,a.Out,a.ar,a.Outs,a.aj,()))
def zVH:=zu [(79,0,{n:=106,tm:=[(1,.lp 0 0),(64,.sl 0 []),(65,ti),(66,ti)],lo:=[(0,[.sl 1 [],.sl 2 [],.sl 3 [],.sl 0 [],.sl 4 [],ti,ti,.sl 5 [],ti])],ro:=[(0,.guest,false),(1,.slot,false),(2,.sl .int,false),(3,.bool,false),(4,.int,false),(5,.kept,false)]}),(79,2,{n:=106,tm:=[(1,.lp 0 0),(75,.sl 0 []),(76,ti),(77,ti)],lo:=[(0,[.sl 0 [],.sl 1 [],.sl 2 [],.sl 3 [],.sl 4 [],ti,ti,.sl 5 [],ti])],ro:=[(0,.slot,false),(1,.sl .int,false),(2,.bool,false),(3,.guest,false),(4,.int,false),(5,.kept,false)]})]
def zUQ (a:Mon)(l:zbV big [aT .mon a])(E:zhJ a=true):∃N,zNB N a=some [aB<|ziy a]:=by
 have hg:a.ad.length<=big:=((zdv l).1 (.s .guest a.ad) (by simp[AV.cvs,Ty.cells])).len;have m:a.ae.length<=big:=((zdv l).1 (.s .slot a.ae) (by simp[AV.cvs,Ty.cells])).len;refine zct λN d=>?_;unfold zNB ziy zez oN nB;conv=>zeta
 refine j0 rfl (stB λw=>stI λy=>j0 rfl (stB λr=>stI λv=>stI λz=>stG λA=>j0 rfl (stB λB=>j0 rfl (stB λC=>j0 rfl (stB λD=>?_)))));have p:=zrd r;have q:ln a.Out=8:=qF v;simp only[ln] at p q;refine(zbo a.ad (λi (t:Unit)=>(ln a.ad,(i:Int),a.ak,a.aq,a.Own,a.ad,a.ae,a.Out,a.ar,a.Outs,a.aj,())) _ (λ_ (x:ah) (_:Unit) g=>bif zdY x then g () else oF) (λ(t:Unit)=>iter (σ:=(Int×Int×Int×Int×Int×lS×lM×lB×lG×LI×lK×Unit)) N (λn c=>cond (ilt c.2.1 c.1) (cond (inb c.2.1<|ln c.2.2.2.2.2.1) (cond zbT (cond (cond (ieq (ix c.2.2.2.2.2.1 c.2.1 zY).af zbi.af) (ieq (ix c.2.2.2.2.2.1 c.2.1 zY).ai zbi.ai) false) (cond (inb c.2.1<|ln c.2.2.2.2.2.2.1) (cond (zdA<|ix c.2.2.2.2.2.2.1 c.2.1 []) (cond (cond (zc0<|ix c.2.2.2.2.2.2.1 c.2.1 []) false true) oF<|n (c.1,zO .i64 c.2.1 1,c.2.2.1,c.2.2.2.1,c.2.2.2.2.1,c.2.2.2.2.2.1,c.2.2.2.2.2.2.1,c.2.2.2.2.2.2.2.1,c.2.2.2.2.2.2.2.2.1,c.2.2.2.2.2.2.2.2.2.1,c.2.2.2.2.2.2.2.2.2.2.1,())) none) none)<|cond (zcr (ix c.2.2.2.2.2.1 c.2.1 zY).ai 1) (cond (cond (zdc (ix c.2.2.2.2.2.1 c.2.1 zY).ai 1) false true) oF<|cond (inb c.2.1<|ln c.2.2.2.2.2.2.1) (cond (igt (ln<|ix c.2.2.2.2.2.2.1 c.2.1 []) 0) oF<|n (c.1,zO .i64 c.2.1 1,c.2.2.1,c.2.2.2.1,c.2.2.2.2.1,c.2.2.2.2.2.1,c.2.2.2.2.2.2.1,c.2.2.2.2.2.2.2.1,c.2.2.2.2.2.2.2.2.1,c.2.2.2.2.2.2.2.2.2.1,c.2.2.2.2.2.2.2.2.2.2.1,())) none) none) none) none)<|some [.one<|.b true]) (ln a.ae,0,a.ak,a.aq,a.Own,a.ae,a.Out,a.ar,a.ad,a.Outs,a.aj,())) (λi h t rec=>?_) (λt rec=>?_) _ ()<|d hg).trans ?_;{simp only [zbx h,zbe h,zbl h,zbg h hg,cT];simp only[zbO,zhR,cT];cases zdY a.ad[i]<;>rfl};{simp only [zbp,cF]};rw[zg5 zdY];cases a.ad.all zdY;{rfl};simp only[cT];refine(zbo a.ae (λj (u:Unit)=>(ln a.ae,(j:Int),a.ak,a.aq,a.Own,a.ae,a.Out,a.ar,a.ad,a.Outs,a.aj,())) _ (λj (_:k0) (_:Unit) g=>bif fits a j then g () else oF) (λ(u:Unit)=>some [.one<|.b true]) (λj e u f=>?_) (λu f=>?_) _ ()<|d m).trans ?_;{simp only [zbx e,zbe e,zbl e,zbg e m,cT];have k:j<a.Out.length:=(by omega);simp only[zbT,zbi,zdA,zc0,zcr,zdc,zbe k,zMb,cT];unfold fits zlo;simp only[zbl e,zc1];cases ieq a.ae[j].af z0.af<;>cases ieq a.ae[j].ai z0.ai<;>cases enough a.ae[j].ai 1<;>cases ile (ln<|ix a.Out (j:Int) []) 0<;>cases zcq (ix a.Out (j:Int) [])<;>rfl};{simp only [zbp,cF]};rw[zwl λj (_:Unit) g=>bif fits a j then g () else oF,zCO<|fits a,show a.ae.length=8 by omega];cases znu (fits a) 8 0<;>rfl
def zO3:vM 79 zp9:=hF1 zFL zC zA zq zVH zUQ
def zNK (N:Nat)(c:Mon):OA:=
 (oN (zM (ln c.ad) 1 2)<|cond (nB<|zi (ln c.ad) 1 2) oF<|cond (ine (ln c.aj)<|ln c.ad) oF<|oN (zid c.ae 8 12)<|cond (nB<|zen c.ae 8 12) oF<|cond (ine (ln c.Out) 8) oF<|cond (ine (ln c.ar) 8) oF<|iter (σ:=(Int×Int×Int×Int×lS×lM×lB×lG×LI×lK×Unit)) N (λl b=>let c:=b.2.2.2.2;let n:=c.2.2.2.2;let d:=c.2.2.2.1; (cond (ilt b.1<|ln d) (oN (inb b.1<|ln d)<|oN (zbO<|ix d b.1 zF)<|cond (nB<|zhR<|ix d b.1 zF) oF<|l (zO .i64 b.1 1,b.2.1,b.2.2.1,b.2.2.2.1,c.1,c.2.1,c.2.2.1,d,n.1,n.2.1,()))<|iter (σ:=(Int×Int×Int×Int×lS×lM×lB×lG×LI×lK×Unit)) N (λm a=>let b:=a.2.2.2.2.2;let h:=a.2.2.2.2.1;let i:=inb a.1<|ln b.1;let e:=ix b.1 a.1 [];let g:=ix h a.1 zY;let k:=ieq g.ai zbi.ai;let j:=ieq g.af zbi.af;let f:=m (zO .i64 a.1 1,a.2.1,a.2.2.1,a.2.2.2.1,h,b.1,b.2.1,b.2.2.1,b.2.2.2.1,b.2.2.2.2.1,()); (cond (ilt a.1 8) (oN (inb a.1<|ln h)<|oN zbT<|cond (nB<|cond j k false) (oN i<|cond (igt (ln e) 0) oF<|oN (inb a.1<|ln h)<|oN (zcr g.ai 1)<|cond (nB<|zdc g.ai 1) oF<|cond (nB<|nB<|cond j k false) (oN i<|oN (zdA e)<|cond (nB<|zc0 e) oF f) f)<|cond (nB<|nB<|cond j k false) (oN i<|oN (zdA e)<|cond (nB<|zc0 e) oF f) f)<|cond (ile (ln b.2.2.2.1) 40) (oN (zcX a.2.1)<|cond (ze4 a.2.1) (oN (zM a.2.2.1 0 3)<|cond (zi a.2.2.1 0 3) (oN (zM a.2.2.2.1 0 1000000000)<|some [aB<|zi a.2.2.2.1 0 1000000000]) oF) oF) oF)) (0,b.2.1,b.2.2.1,b.2.2.2.1,c.1,c.2.1,c.2.2.1,d,n.1,n.2.1,()))) (0,c.ak,c.aq,c.Own,c.ae,c.Out,c.ar,c.ad,c.Outs,c.aj,()))
def zVJ:=zu [(36,0,{n:=115,tm:=[(1,.lp 0 0),(3,ti)],lo:=[(0,[.sl 0 [],.sl 1 [],.sl 2 [],.sl 3 [],.sl 4 [],ti,ti,.sl 5 [],ti])],ro:=[(0,.slot,false),(1,.sl .int,false),(2,.bool,false),(3,.guest,false),(4,.int,false),(5,.kept,false)]}),(36,2,{n:=115,tm:=[(1,.lp 0 0),(4,ti)],lo:=[(0,[.sl 0 [],.sl 1 [],.sl 2 [],.sl 3 [],.sl 4 [],ti,ti,.sl 5 [],ti])],ro:=[(0,.slot,false),(1,.sl .int,false),(2,.bool,false),(3,.guest,false),(4,.int,false),(5,.kept,false)]})]
def zUY (c:Mon)(r:zbV big [aT .mon c])(A:zhJ c=true):∃N,zNK N c=some [aB<|ziy c]:=by
 have hg:c.ad.length<=big:=((zdv r).1 (.s .guest c.ad) (by simp[AV.cvs,Ty.cells])).len;refine zct λN d=>?_;unfold zNK ziy zez oN nB;conv=>zeta
 refine j0 rfl (stB λw=>stI λy=>j0 rfl (stB λp=>stI λq=>stI λz=>?_));have m:=zrd p;have n:ln c.Out=8:=qF q;simp only[ln] at m n;refine(zbo c.ad (λi (t:Unit)=>((i:Int),c.ak,c.aq,c.Own,c.ae,c.Out,c.ar,c.ad,c.Outs,c.aj,())) _ (λ_ (x:ah) (_:Unit) l=>bif zdY x then l () else oF) (λ(t:Unit)=>iter (σ:=(Int×Int×Int×Int×lS×lM×lB×lG×LI×lK×Unit)) N (λh a=>cond (ilt a.1 8) (cond (inb a.1<|ln a.2.2.2.2.1) (cond zbT (cond (cond (cond (ieq (ix a.2.2.2.2.1 a.1 zY).af zbi.af) (ieq (ix a.2.2.2.2.1 a.1 zY).ai zbi.ai) false) false true) (cond (inb a.1<|ln a.2.2.2.2.2.1) (cond (igt (ln<|ix a.2.2.2.2.2.1 a.1 []) 0) oF<|cond (inb a.1<|ln a.2.2.2.2.1) (cond (zcr (ix a.2.2.2.2.1 a.1 zY).ai 1) (cond (cond (zdc (ix a.2.2.2.2.1 a.1 zY).ai 1) false true) oF<|cond (cond (cond (cond (ieq (ix a.2.2.2.2.1 a.1 zY).af zbi.af) (ieq (ix a.2.2.2.2.1 a.1 zY).ai zbi.ai) false) false true) false true) (cond (inb a.1<|ln a.2.2.2.2.2.1) (cond (zdA<|ix a.2.2.2.2.2.1 a.1 []) (cond (cond (zc0<|ix a.2.2.2.2.2.1 a.1 []) false true) oF<|h (zO .i64 a.1 1,a.2.1,a.2.2.1,a.2.2.2.1,a.2.2.2.2.1,a.2.2.2.2.2.1,a.2.2.2.2.2.2.1,a.2.2.2.2.2.2.2.1,a.2.2.2.2.2.2.2.2.1,a.2.2.2.2.2.2.2.2.2.1,())) none) none)<|h (zO .i64 a.1 1,a.2.1,a.2.2.1,a.2.2.2.1,a.2.2.2.2.1,a.2.2.2.2.2.1,a.2.2.2.2.2.2.1,a.2.2.2.2.2.2.2.1,a.2.2.2.2.2.2.2.2.1,a.2.2.2.2.2.2.2.2.2.1,())) none) none) none)<|cond (cond (cond (cond (ieq (ix a.2.2.2.2.1 a.1 zY).af zbi.af) (ieq (ix a.2.2.2.2.1 a.1 zY).ai zbi.ai) false) false true) false true) (cond (inb a.1<|ln a.2.2.2.2.2.1) (cond (zdA<|ix a.2.2.2.2.2.1 a.1 []) (cond (cond (zc0<|ix a.2.2.2.2.2.1 a.1 []) false true) oF<|h (zO .i64 a.1 1,a.2.1,a.2.2.1,a.2.2.2.1,a.2.2.2.2.1,a.2.2.2.2.2.1,a.2.2.2.2.2.2.1,a.2.2.2.2.2.2.2.1,a.2.2.2.2.2.2.2.2.1,a.2.2.2.2.2.2.2.2.2.1,())) none) none)<|h (zO .i64 a.1 1,a.2.1,a.2.2.1,a.2.2.2.1,a.2.2.2.2.1,a.2.2.2.2.2.1,a.2.2.2.2.2.2.1,a.2.2.2.2.2.2.2.1,a.2.2.2.2.2.2.2.2.1,a.2.2.2.2.2.2.2.2.2.1,())) none) none)<|cond (ile (ln a.2.2.2.2.2.2.2.2.1) 40) (cond (zcX a.2.1) (cond (ze4 a.2.1) (cond (zM a.2.2.1 0 3) (cond (zi a.2.2.1 0 3) (cond (zM a.2.2.2.1 0 1000000000) (some [.one<|.b<|zi a.2.2.2.1 0 1000000000]) none) oF) none) oF) none) oF) (0,c.ak,c.aq,c.Own,c.ae,c.Out,c.ar,c.ad,c.Outs,c.aj,())) (λi g t rec=>?_) (λt rec=>?_) _ ()<|d hg).trans ?_;{simp only [zbx g,zbe g,zbl g,zbg g hg,cT];simp only[zbO,zhR,cT];cases zdY c.ad[i]<;>rfl};{simp only [zbp,cF]};rw[zg5 zdY];cases B:c.ad.all zdY;{simp only [cF];cases ile (ln c.Outs) 40<;>cases zdH c.ak<;>cases zi c.aq 0 3<;>cases zi c.Own 0 1000000000<;>rfl};simp only[cT];refine(zye 8 (λj (u:Unit)=>((j:Int),c.ak,c.aq,c.Own,c.ae,c.Out,c.ar,c.ad,c.Outs,c.aj,())) _ (λj (_:Unit) l=>bif fits c j then l () else oF) (λ(u:Unit)=>cond (ile (ln c.Outs) 40) (cond (zcX c.ak) (cond (ze4 c.ak) (cond (zM c.aq 0 3) (cond (zi c.aq 0 3) (cond (zM c.Own 0 1000000000) (some [.one<|.b<|zi c.Own 0 1000000000]) none) oF) none) oF) none) oF) (λj v u f=>?_) (λu f=>?_) _ ()<|d (by decide)).trans ?_;{simp only [show ilt (j:Int) 8=true from qK (by omega),zbg v (show 8<=big by decide),cT];have e:j<c.ae.length:=(by omega);have k:j<c.Out.length:=(by omega);simp only[zbT,zbi,zdA,zc0,zcr,zdc,zbe e,zbe k,zMb,cT];unfold fits zlo;simp only[zbl e,zc1];cases ieq c.ae[j].af z0.af<;>cases ieq c.ae[j].ai z0.ai<;>cases enough c.ae[j].ai 1<;>cases ile (ln<|ix c.Out (j:Int) []) 0<;>cases zcq (ix c.Out (j:Int) [])<;>rfl};{simp only [show ilt ((8:Nat):Int) 8=false from qQ (by omega),cF];rfl};rw[zCO<|fits c];simp only[zcX,ze4,zM,zQK,cT];cases znu (fits c) 8 0<;>cases ile (ln c.Outs) 40<;>cases zdH c.ak<;>cases zi c.aq 0 3<;>cases zi c.Own 0 1000000000<;>rfl
def zPc:vM 36 zp9:=hF1 zFL zC zA zq zVJ zUY
def z4z:zW:=[(36,zp9),(79,zp9)]++z4y
def zFM:zL z4z:=zh zPc (zh zO3 zFL)
def zgL:List k0->List Bool->Option (List Bool)
 |[],u=>some u
 |s::l,u=>bif ilt s.af 0 then zgL l u else (cond (ix u s.af false) none<|zgL l<|up u s.af true)
def zix:List Mon->List Bool->Bool
 |[],_=>true
 |m::l,u=>bif zez m then (match zgL m.ae u with|some a=>zix l a|none=>false) else false
def zb5 (h:ac):Bool:=bif zhO h.ag 12 then (cond (zi (ln h.aa) 1 3) (cond (zfp h.ao) (cond (zfp h.an) (zix h.aa<|rp 12 false) false) false) false) else false
def zoY:∀(l:List k0) (u a:List Bool),zgL l u=some a->a.length=u.length
 |[],u,a,h=>by cases h;rfl
 |s::l,u,a,h=>by simp only[zgL]at h;cases b:ilt s.af 0;{rw [b]at h;cases c:ix u s.af false;{rw [c]at h;simpa using zoY l _ a h};{rw [c]at h;cases h}};{rw [b]at h;exact zoY l u a h}
def zC3 {t:List k0}{n:Int}(h:zc4 t n 12=true):∀s∈t,s.af<12:=by intro s d;unfold zc4 at h;cases b:t.all (λs=>zdX s 12);{rw [b]at h;cases h};{have:=qM.1 b s d;unfold zdX at this;cases a:zc1 s z0;{rw [a] at this;simp only[cF,show igt 12 0=true from rfl,cT] at this;cases c:zi s.af 0 (wsub .i64 12 1);{rw [c] at this;cases this};{have:=(zfE.1 c).2;rw[show wsub .i64 12 1=11 from rfl] at this;omega}};{unfold zc1 at a;rw[qE]at a;have a:s.af = -1:=qF a.1;omega}}
def zUm {s:k0}{u:List Bool}(h:s.af<12)(b:u.length=12)(a:ilt s.af 0=false):inb s.af (ln u)=true:=by have:=jX a;exact qK (by simp only[ln];omega)
def zsL {a:Type}(r:Option a)(y:k0)(u:List Bool)(b:List Bool->Option a):Option a:=bif ilt y.af 0 then b u else (cond (inb y.af<|ln u) (cond (ix u y.af false) r<|cond (inb y.af<|ln u) (p0 (up u y.af true) λc=>b c) none) none)
def zx5 {c:Type}(r:Option c)(K:List Bool->Option c):∀(l:List k0) (i:Nat) (u:List Bool),(∀s∈l,s.af<12)->u.length=12->
 goL (λ_ y u g=>zsL r y u g) K l i u=match zgL l u with|some f=>K f|none=>r
 |[],_,_,_,_=>rfl
 |s::l,i,u,h,b=>by simp only[goL,zgL,zsL];cases d:ilt s.af 0;{have e:=zUm (h s (by simp)) b d;rw[e];cases ix u s.af false;{simp only [cF,cT,p0];exact zx5 r K l (i+1) _ (λs a=>h s (by simp[a])) (by simpa using b)};{rfl}};{simp only [cT];exact zx5 r K l (i+1) u (λs a=>h s (by simp[a])) b}
def zWZ {b:Type}(r:Option b)(m:Mon)(u:List Bool)(a:List Bool->Option b):Option b:=bif zez m then goL (λ_ y u a=>zsL r y u a) a m.ae 0 u else r
def zdf {c x:Bool}:((cond c x false)=true)↔c=true/\x=true:=by cases c<;>simp
def zl6 {m:Mon}(h:zez m=true):zc4 m.ae 8 12=true:=by unfold zez at h;simp only[zdf]at h;exact h.2.2.1
def zRL {K:Bool->OA}(k:List Bool->OA)(a:∀u,k u=K true):∀(l:List Mon) (i:Nat) (u:List Bool),u.length=12->
 goL (λ_ m u g=>zWZ (K false) m u g) k l i u=K (zix l u)
 |[],_,u,_=>a u
 |m::l,i,u,b=>by simp only[goL,zix,zWZ];cases c:zez m;{rfl};{simp only [cT];have e:=zl6 c;rw[zx5 _ _ _ _ _ (zC3 e) b];cases d:zgL m.ae u with|none=>rfl|some f=>exact zRL k a l (i+1) f ((zoY _ _ _ d).trans b)}
@[simp] abbrev zdL (h:ac):Bool:=true
@[simp] abbrev zdO (h:ac):Bool:=zb5 h
def zkK:Run:=rF1 dH λb=>(zdL b,[aB<|zdO b])
def zHu (N:Nat)(c:ac):OA:=
 (oN (zkT c.ag 12)<|cond (nB<|zfY c.ag 12) oF<|oN (zM (ln c.aa) 1 3)<|cond (nB<|zi (ln c.aa) 1 3) oF<|oN (zhf c.ao)<|cond (nB<|zgO c.ao) oF<|oN (zhf c.an)<|cond (nB<|zgO c.an) oF<|oN (cond (few 12) (ieq 12 12) false)<|iter (σ:=(Int×Int×lB×lN×Unit)) N (λk b=>let h:=ix b.2.2.2.1 b.2.1 zk; (cond (ilt b.2.1 b.1) (oN (inb b.2.1<|ln b.2.2.2.1)<|oN (zhJ h)<|cond (nB<|ziy h) oF<|iter (σ:=(Int×Int×Int×Int×Int×lB×lN×Unit)) N (λi a=>let f:=a.2.2.2.2.1;let g:=a.2.2.2.2.2.2.1;let j:=(ix g a.2.2.1 zk).ae;let d:=a.2.2.2.2.2.1;let e:=(ix j f zY).af; (cond (ilt f a.2.2.2.1) (oN (inb f<|ln j)<|cond (ilt e 0) (i (a.1,a.2.1,a.2.2.1,a.2.2.2.1,zO .i64 f 1,d,g,()))<|oN (inb e<|ln d)<|cond (ix d e false) oF<|oN (inb e<|ln d)<|p0 (up d e true) λl=>i (a.1,a.2.1,a.2.2.1,a.2.2.2.1,zO .i64 f 1,l,g,()))<|k (a.1,zO .i64 a.2.1 1,d,g,()))) (b.1,b.2.1,b.2.1,ln h.ae,0,b.2.2.1,b.2.2.2.1,())) oT)) (ln c.aa,0,rp 12 false,c.aa,()))
def zTZ:=zu [(43,0,{n:=63,tm:=[(3,.sl 0 []),(33,.sl 1 []),(34,ti),(35,ti)],lo:=[],ro:=[(0,.bool,true),(1,.mon,false)]}),(43,2,{n:=63,tm:=[(3,.sl 0 []),(33,.sl 1 []),(34,ti),(35,ti),(43,.sl 1 [0]),(44,ti),(45,ti)],lo:=[],ro:=[(0,.bool,true),(1,.mon,false)]})]
def zSc (a:ac)(n:zbV big [aH a])(w:zdL a=true):∃N,zHu N a=some [aB<|zdO a]:=by
 have l:CVB big (.s .mon a.aa):=(zdv n).1 _ (by simp[AV.cvs,zbn]);have g:=l.len;refine zct λN d=>?_;unfold zHu zdO zb5 oN nB;conv=>zeta
 refine j0 rfl (stB λp=>j0 rfl (stB λq=>j0 rfl (stB λr=>j0 rfl (stB λv=>j0 rfl ?_))));refine(zbo a.aa (λi (t:lB)=>(ln a.aa,(i:Int),t,a.aa,())) _ (λ_ (x:Mon) (u:List Bool) h=>zWZ (oF) x u h) (λ(t:lB)=>some [.one<|.b true]) (λi c t rec=>?_) (λt rec=>?_) _ (rp 12 false)<|d g).trans ?_;{simp only [zbx c,zbe c,zbl c,zbg c g,cT];unfold zWZ;cases k:zez a.aa[i];{simp only [zhJ,ziy,k,cT,cF]};simp only[zhJ,ziy,k,cT,cF];have m:a.aa[i].ae.length<=big:=(l.inv.2 _ (jK c) (.s .slot _) (by simp[Ty.cells])).len;refine(zbo a.aa[i].ae (λj (u:lB)=>(ln a.aa,(i:Int),(i:Int),ln a.aa[i].ae,(j:Int),u,a.aa,())) _ (λ_ (y:k0) (u:List Bool) h=>zsL (oF) y u h) (λ(u:lB)=>rec (ln a.aa,((i+1:Nat):Int),u,a.aa,())) (λj f u e=>?_) (λu e=>?_) _ (t)<|d m).trans ?_;{simp only [zbx f,zbe f,zbl f,zbg f m,cT,zbe c,zbl c,zbg c g];rfl};{simp only [zbp,cF,zbe c,zbl c,zbg c g]};rfl};{simp only [zbp,cF]};exact zRL (K:=λb=>some [AV.one<|.b b]) _ (λ_=>rfl) _ _ _ rfl
def zLu:vM 43 zkK:=hF1 zFM zC zA zq zTZ zSc
def zFW {e:Type}(r:Option e)(k:List Bool->Option e)(m:Mon):∀(n i:Nat) (u:List Bool),(∀s∈m.ae,s.af<12)->u.length=12->i+n=m.ae.length->
 goN (λj u d=>bif inb (j:Int) (ln m.ae) then zsL r (ix m.ae (j:Int) zY) u d else none) k n i u=goL (λ_ y u d=>zsL r y u d) k (m.ae.drop i) i u
 | 0,i,u,_,_,h=>by have:i=m.ae.length:=(by omega);subst this;simp[goN,goL]
 |n+1,i,u,b,c,h=>by have a:i<m.ae.length:=(by omega);rw[kO a];simp only[goN,goL,zbe a,zbl a,cT,zsL];cases f:ilt m.ae[i].af 0;{rw [zUm (b _<|jK a) c f];cases ix u m.ae[i].af false;{simp only [cF,cT,p0];exact zFW r k m n (i+1) _ b (by simpa using c) (by omega)};{rfl}};{simp only [cT];exact zFW r k m n (i+1) u b c (by omega)}
def zHH (N:Nat)(b:ac):OA:=
 (oN (zkT b.ag 12)<|cond (nB<|zfY b.ag 12) oF<|oN (zM (ln b.aa) 1 3)<|cond (nB<|zi (ln b.aa) 1 3) oF<|oN (zhf b.ao)<|cond (nB<|zgO b.ao) oF<|oN (zhf b.an)<|cond (nB<|zgO b.an) oF<|oN (cond (few 12) (ieq 12 12) false)<|iter (σ:=(Int×lB×lM×lN×lE×lE×Unit)) N (λq c=>let n:=ix c.2.2.2.1 c.1 zk; (cond (ilt c.1<|ln c.2.2.2.1) (oN (inb c.1<|ln c.2.2.2.1)<|oN (zhJ n)<|cond (nB<|ziy n) oF<|iter (σ:=(Int×Int×lB×lM×lN×lE×lE×Unit)) N (λi a=>let k:=zO .i64 a.2.1 1;let h:=a.2.2.2.2.2.1;let g:=a.2.2.2.2.2.2.1;let f:=a.2.2.1;let e:=a.2.2.2.2.1;let p:=(ix e a.1 zk).ae;let m:=i (a.1,k,f,a.2.2.2.1,e,h,g,());let d:=(ix p a.2.1 zY).af;let l:=inb d<|ln f; (cond (ilt a.2.1 8) (oN (inb a.1<|ln e)<|oN (inb a.2.1<|ln p)<|cond (ige d 0) (oN l<|cond (ix f d false) oF<|cond (ige d 0) (oN l<|p0 (up f d true) λj=>i (a.1,k,j,a.2.2.2.1,e,h,g,())) m)<|cond (ige d 0) (oN l<|p0 (up f d true) λj=>i (a.1,k,j,a.2.2.2.1,e,h,g,())) m)<|q (zO .i64 a.1 1,f,a.2.2.2.1,e,h,g,()))) (c.1,0,c.2.1,c.2.2.1,c.2.2.2.1,c.2.2.2.2.1,c.2.2.2.2.2.1,())) oT)) (0,rp 12 false,b.ag,b.aa,b.ao,b.an,()))
def zT5:=zu [(13,0,{n:=72,tm:=[(1,.lp 0 0),(3,.sl 0 []),(4,ti)],lo:=[(0,[.sl 1 [],.sl 2 [],.sl 3 [],.sl 4 []])],ro:=[(0,.bool,true),(1,.sl .int,false),(2,.mon,false),(3,.entry,false),(4,.entry,false)]}),(13,2,{n:=72,tm:=[(1,.lp 0 0),(3,.sl 0 []),(4,ti),(5,ti)],lo:=[(0,[.sl 1 [],.sl 2 [],.sl 3 [],.sl 4 []])],ro:=[(0,.bool,true),(1,.sl .int,false),(2,.mon,false),(3,.entry,false),(4,.entry,false)]})]
def zSo (a:ac)(y:zbV big [aH a])(F:zdL a=true):∃N,zHH N a=some [aB<|zdO a]:=by
 have A:CVB big (.s .mon a.aa):=(zdv y).1 _ (by simp[AV.cvs,zbn]);have h:=A.len;refine zct λN f=>?_;unfold zHH zdO zb5 oN nB;conv=>zeta
 refine j0 rfl (stB λD=>j0 rfl (stB λq=>j0 rfl (stB λr=>j0 rfl (stB λE=>j0 rfl ?_))));refine(zbo a.aa (λi (t:lB)=>((i:Int),t,a.ag,a.aa,a.ao,a.an,())) _ (λ_ (x:Mon) (u:List Bool) d=>bif zez x then goN (λj u d=>bif inb (j:Int) (ln x.ae) then zsL (oF) (ix x.ae (j:Int) zY) u d else none) d 8 0 u else oF) (λ(t:lB)=>some [.one<|.b true]) (λi c t rec=>?_) (λt rec=>?_) _ (rp 12 false)<|f h).trans ?_;{simp only [zbx c,zbe c,zbl c,zbg c h,cT];cases v:zez a.aa[i];{simp only [zhJ,ziy,v,cT,cF]};simp only[zhJ,ziy,v,cT,cF];refine(zye 8 (λj (u:lB)=>((i:Int),(j:Int),u,a.ag,a.aa,a.ao,a.an,())) _ (λj (u:List Bool) d=>bif inb (j:Int) (ln a.aa[i].ae) then zsL (oF) (ix a.aa[i].ae (j:Int) zY) u d else none) (λ(u:lB)=>rec (((i+1:Nat):Int),u,a.ag,a.aa,a.ao,a.an,())) (λj z u g=>?_) (λu g=>?_) _ (t)<|f (by decide)).trans ?_;{simp only [show ilt (j:Int) 8=true from qK (by omega),zbg z (show 8<=big by decide),cT,zbe c,zbl c,zbg c h];unfold zsL;have e:ige (ix a.aa[i].ae (j:Int) zY).af 0 = !ilt (ix a.aa[i].ae (j:Int) zY).af 0:=(by rw[z6S,Bool.not_not]);simp only[e];cases ilt (ix a.aa[i].ae (j:Int) zY).af 0<;>cases inb (j:Int) (ln a.aa[i].ae)<;>cases inb (ix a.aa[i].ae (j:Int) zY).af (ln u)<;>cases ix u (ix a.aa[i].ae (j:Int) zY).af false<;>rfl};{simp only [show ilt ((8:Nat):Int) 8=false from qQ (by omega),cF,zbe c,zbl c,zbg c h]};rfl};{simp only [zbp,cF]};have p:∀(l:List Mon) (i:Nat) (u:List Bool),u.length=12->goL (λ_ (x:Mon) (u:List Bool) d=>bif zez x then goN (λj u d=>bif inb (j:Int) (ln x.ae) then zsL (oF) (ix x.ae (j:Int) zY) u d else none) d 8 0 u else oF) (λ_=>oT) l i u=some [AV.one<|.b<|zix l u]:=(by intro l;induction l with|nil=>intro i u _;rfl|cons m l B=>intro i u n;simp only[goL,zix];cases q:zez m;{rfl};{have k:=zl6 q;have w:0+8=m.ae.length:=(by have:=zrd k;simp only[ln] at this;omega);simp only[cT];rw[zFW _ _ m 8 0 u (zC3 k) n w,vB,zx5 _ _ _ _ _ (zC3 k) n];cases r:zgL m.ae u with|none=>rfl|some C=>exact B (i+1) C ((zoY _ _ _ r).trans n)});exact p _ _ _ rfl
def zwq:vM 13 zkK:=hF1 zFM zC zA zq zT5 zSo
def z4A:zW:=[(13,zkK),(43,zkK)]++z4z
def zxT:zL z4A:=zh zwq (zh zLu zFM)
def zXE {h:ac}(a:zb5 h=true):(h.aa.length:Int)<=3:=by unfold zb5 at a;simp only[zdf]at a;exact(zfE.1 a.2.1).2
def zcV (h:ac)(m:Int):Bool:=bif zb5 h then i0 m (ln h.aa) else false
def zbX (h:ac)(m p:Int):Bool:=bif zb5 h then (cond (i0 m<|ln h.aa) (i0 p 8) false) else false
def zNz {h:ac}(a:zb5 h=true)(m:Int):zi m 0 (wsub .i64 (ln h.aa) 1)=i0 m (ln h.aa):=zpN (by have:=zXE a;omega) m
@[simp] abbrev zfC (h:ac)(m:Int):Bool:=true
@[simp] abbrev zfB (h:ac)(m:Int):Bool:=zcV h m
def zB8:Run:=rF2 dH dI λb c=>(zfC b c,[aB<|zfB b c])
def zH1 (N:Nat)(a:ac)(b:Int):OA:=
 (oN (zdL a)<|cond (zdO a) (oN (zM b 0<|wsub .i64 (ln a.aa) 1)<|some [aB<|zi b 0<|wsub .i64 (ln a.aa) 1]) oF)
def zSJ (a:ac)(b:Int)(d:zfC a b=true):∃N,zH1 N a b=some [aB<|zfB a b]:=by refine⟨0,?_⟩;unfold zH1 zfB zcV oN;cases c:zb5 a;{simp only [zdL,zdO,c,cT,cF]};{simp only [zdL,zdO,c,cT,zM,zQK,zNz c]}
def zL9:vM 198 zB8:=kF2 zxT zC zA zq (zu []) zSJ
@[simp] abbrev zhX (h:ac)(m p:Int):Bool:=true
@[simp] abbrev zd1 (h:ac)(m p:Int):Bool:=zbX h m p
def zjX:Run:=rF3 dH dI dI λb c d=>(zhX b c d,[aB<|zd1 b c d])
def zNQ (N:Nat)(a:ac)(b c:Int):OA:=
 (oN (zdL a)<|cond (zdO a) (oN (zM b 0<|wsub .i64 (ln a.aa) 1)<|cond (zi b 0<|wsub .i64 (ln a.aa) 1) (oN (zM c 0 7)<|some [aB<|zi c 0 7]) oF) oF)
def zU4 (a:ac)(b c:Int)(e:zhX a b c=true):∃N,zNQ N a b c=some [aB<|zd1 a b c]:=by refine⟨0,?_⟩;unfold zNQ zd1 zbX oN;cases d:zb5 a;{simp only [zdL,zdO,d,cT,cF]};{simp only [zdL,zdO,d,cT,zM,zQK,zNz d,z8B];cases i0 b (ln a.aa)<;>rfl}
def zzf:vM 22 zjX:=kF3 zxT zC zA zq (zu []) zU4
def zD4 (N:Nat)(a:ac)(b c:Int):OA:=
 (oN (zdL a)<|cond (zdO a) (oN (zcr b<|ln a.aa)<|cond (zj7 b<|ln a.aa) (oN (zcr c 8)<|some [aB<|zj7 c 8]) oF) oF)
def zPp (a:ac)(b c:Int)(e:zhX a b c=true):∃N,zD4 N a b c=some [aB<|zd1 a b c]:=by refine⟨0,?_⟩;unfold zD4 zd1 zbX oN;cases d:zb5 a;{simp only [zdL,zdO,d,cT,cF]};{simp only [zdL,zdO,d,cT,zcr,zj7];cases i0 b (ln a.aa)<;>rfl}
def zul:vM 18 zjX:=kF3 zxT zC zA zq (zu []) zPp
def z4B:zW:=[(198,zB8),(22,zjX),(18,zjX)]++z4A
def zRl:zL z4B:=zh zL9 (zh zzf<|zh zul zxT)
def zdP (k:ax)(p:Int):Bool:=bif i0 p (ln k.ay) then i0 p (ln k.aA) else false
def zbW (k:ax)(p:Int):ax:=bif zdP k p then ⟨up k.ay p false,up k.aA p z0⟩ else k
@[simp] def zoX {k:ax}{p:Int}(h:SmK k):SmK (zbW k p):=by unfold zbW;cases zdP k p;{exact h};{exact⟨by simpa using h.1,by simpa using h.2⟩}
def has_lt {p:Int}{n m:Int}(h:i0 p n=true):ilt p m=i0 p m:=by have h:=qF h;unfold ilt i0;by_cases a:p<m;{rw [qK a,qK ⟨h.1,a⟩]};{rw [qQ a,qQ (by omega)]}
@[simp] abbrev zdC (k:ax)(p:Int):Bool:=pc (SmK k)
@[simp] abbrev zih (k:ax)(p:Int):Bool:=zdP k p
def zB6:Run:=rF2 (dT .kept) dI λb c=>(zdC b c,[aB<|zih b c])
def zHZ (N:Nat)(a:ax)(b:Int):OA:=
 (oN (zM b 0<|wsub .i64 (ln a.ay) 1)<|cond (zi b 0<|wsub .i64 (ln a.ay) 1) (some [aB<|ilt b<|ln a.aA]) oF)
def zSG (a:ax)(b:Int)(c:zdC a b=true):∃N,zHZ N a b=some [aB<|zih a b]:=by have e:=zN.1 c;refine⟨0,?_⟩;unfold zHZ zih zdP oN;simp only[zM,zQK,zpN e.1,cT];cases d:i0 b (ln a.ay);{rfl};{simp only [cT,has_lt d]}
def zLZ:vM 162 zB6:=kF2 zRl zC zA zq (zu []) zSG
def z4C:zW:=[(162,zB6)]++z4B
def zFN:zL z4C:=zh zLZ zRl
@[simp] abbrev zgF (k:ax)(p:Int):ax:=zbW k p
def zn1:Run:=rF2 (dT .kept) dI λb c=>(zdC b c,[aT .kept<|zgF b c])
def zHF (N:Nat)(c:ax)(b:Int):OA:=
 let a:=zdK c; (oN (zgd c)<|oN (zdC a b)<|cond (zih a b) (oN (inb b<|ln a.ay)<|p0 (up a.ay b false) λd=>oN zbT<|oN (inb b<|ln a.aA)<|p0 (up a.aA b zbi) λe=>some [aT .kept (⟨d,e⟩:ax)])<|some [aT .kept a])
def zSm (a:ax)(b:Int)(g:zdC a b=true):∃N,zHF N a b=some [aT .kept<|zgF a b]:=by
 have d:=zN.1 g;refine⟨0,?_⟩;unfold zHF zgF oN;conv=>zeta
 refine j0 (zbD<|(zwd _).2 d) (j0 (zbD d) ?_);unfold zbW;cases c:zdP a b;{simp only [zih,zdK,c,cF]};{simp only [zih,zdK,c,cT];unfold zdP at c;obtain⟨e,f⟩:=zdf.1 c;simp only[zR2,e,f,cT,p0,zbT]}
def zLG:vM 137 zn1:=kF2 zFN zC zA zq (zu []) zSm
def zHs (N:Nat)(b:ax)(a:Int):OA:=
 let c:=zd4 b; (oN (zeQ b)<|oN (zcr a<|ln b.ay)<|cond (zj7 a<|ln b.ay) (oN (zcr a<|ln b.aA)<|cond (zj7 a<|ln b.aA) (oN (inb a<|ln c.ay)<|p0 (up c.ay a false) λd=>oN zbT<|oN (inb a<|ln c.aA)<|p0 (up c.aA a zbi) λe=>some [aT .kept (⟨d,e⟩:ax)])<|some [aT .kept c])<|some [aT .kept c])
def zSa (a:ax)(b:Int)(c:zdC a b=true):∃N,zHs N a b=some [aT .kept<|zgF a b]:=by
 have d:=zN.1 c;refine⟨0,?_⟩;unfold zHs zgF oN;conv=>zeta
 refine j0 (zbD d) (j0 rfl ?_);unfold zbW zdP;simp only[zj7,zcr,zd4,zR2,p0,zbT,cT];cases i0 b (ln a.ay);{rfl};{cases i0 b (ln a.aA)<;>rfl}
def zLs:vM 131 zn1:=kF2 zFN zC zA zq (zu []) zSa
def z4D:zW:=[(137,zn1),(131,zn1)]++z4C
def zsN:zL z4D:=zh zLG (zh zLs zFN)
def zeH (k:ax)(l:LI):ax:=l.foldl zbW k
def zWF:∀(l:LI) {k:ax},SmK k->SmK (zeH k l)
 |[],_,h=>h
 |p::l,k,h=>zWF l (zoX (p:=p) h)
def zx4 {b:Type}(K:List Bool×List k0->Option b):∀(l:LI) (i:Nat) (k:ax),SmK k->
 goL (λ_ x (t:List Bool×List k0) a=>bif pc (SmK ⟨t.1,t.2⟩) then a ((zbW ⟨t.1,t.2⟩ x).ay,(zbW ⟨t.1,t.2⟩ x).aA) else none) K l i (k.ay,k.aA)=K ((zeH k l).ay,(zeH k l).aA)
 |[],_,_,_=>rfl
 |x::l,i,k,h=>by have e:pc (SmK ⟨k.ay,k.aA⟩)=true:=zbD h;simp only[goL,e,cT];exact zx4 K l (i+1) (zbW k x) (zoX h)
def zCt (l:List k0)(p:Int):LI:=idxs (λ(s:k0)=>ieq s.af p) l 0
def zi7 (k:ax)(l:List k0)(p:Int):ax:=zeH k (zCt l p)
def z3w {k:ax}(l:List k0)(p:Int)(h:SmK k):SmK (zi7 k l p):=zWF _ h
@[simp] abbrev zg9 (k:ax)(l:List k0)(p:Int):Bool:=pc (SmK k/\l.length<=1048576)
@[simp] abbrev zkS (k:ax)(l:List k0)(p:Int):ax:=zi7 k l p
def zji:Run:=rF3 (dT .kept) (dS .slot) dI λb c d=>(zg9 b c d,[aT .kept<|zkS b c d])
def zv8 (N:Nat)(c:ax)(e:lS)(f:Int):OA:=
 (oN (zgd c)<|oN (zos e f)<|iter (σ:=(Int×LI×lB×lS×lB×lS×Unit)) N (λg a=>let d:=ix a.2.1 a.1 0;let b:=(⟨a.2.2.1,a.2.2.2.1⟩:ax); (cond (ilt a.1<|ln a.2.1) (oN (inb a.1<|ln a.2.1)<|oN (zdC b d)<|g (zO .i64 a.1 1,a.2.1,(zgF b d).ay,(zgF b d).aA,a.2.2.2.2.1,a.2.2.2.2.2.1,()))<|some [aT .kept b])) (0,zfZ e f,(zdK c).ay,(zdK c).aA,[],[],()))
def zHm:=zu [(92,0,{n:=27,tm:=[(3,.lp 0 0),(6,.lp 1 0),(7,.sl 0 []),(8,ti)],lo:=[(0,[.sl 1 [],.sl 2 []]),(1,[.sl 3 [],.sl 4 []])],ro:=[(0,.int,true),(1,.bool,true),(2,.slot,true),(3,.bool,true),(4,.slot,true)]})]
def zGM (b:ax)(a:List k0)(c:Int)(j:zg9 b a c=true):∃N,zv8 N b a c=some [aT .kept<|zkS b a c]:=by
 obtain⟨h,f⟩:=zN.1 j;have g:(zfZ a c).length<=big:=qS (zyc _ a 0) (zcP f).1;refine zct λN e=>?_;unfold zv8 oN;conv=>zeta
 refine j0 (zbD<|(zwd _).2 h) (j0 (zbD (by omega)) ?_);refine(zbo (zfZ a c) (λi (t:lB×lS)=>((i:Int),zfZ a c,t.1,t.2,[],[],())) _ (λ_ (x:Int) (t:List Bool×List k0) k=>bif pc (SmK ⟨t.1,t.2⟩) then k ((zbW ⟨t.1,t.2⟩ x).ay,(zbW ⟨t.1,t.2⟩ x).aA) else none) (λ(t:lB×lS)=>some [.agg<|Ty.cells .kept (⟨t.1,t.2⟩:ax)]) (λi d t rec=>?_) (λt rec=>?_) _ ((zdK b).ay,(zdK b).aA)<|e g).trans ?_;{simp only [zbx d,zbe d,zbl d,zbg d g,cT]};{simp only [zbp,cF]};exact zx4 _ _ 0 b h
def zBk:vM 92 zji:=kF3 zsN zC zA zq zHm zGM
def zv1 (N:Nat)(c:ax)(d:lS)(e:Int):OA:=
 (oN (zeQ c)<|oN (zos d e)<|iter (σ:=(Int×Int×LI×lB×lS×lB×lS×Unit)) N (λg a=>let f:=ix a.2.2.1 a.2.1 0;let b:=(⟨a.2.2.2.2.2.1,a.2.2.2.2.2.2.1⟩:ax); (cond (ilt a.2.1 a.1) (oN (inb a.2.1<|ln a.2.2.1)<|oN (zdC b f)<|g (a.1,zO .i64 a.2.1 1,a.2.2.1,a.2.2.2.1,a.2.2.2.2.1,(zgF b f).ay,(zgF b f).aA,()))<|some [aT .kept b])) (ln<|zfZ d e,0,zfZ d e,[],[],(zd4 c).ay,(zd4 c).aA,()))
def zHh:=zu [(84,0,{n:=25,tm:=[(6,.lp 0 0),(7,.lp 1 0),(14,.sl 0 []),(15,ti),(16,ti)],lo:=[(0,[.sl 1 [],.sl 2 []]),(1,[.sl 3 [],.sl 4 []])],ro:=[(0,.int,true),(1,.bool,true),(2,.slot,true),(3,.bool,true),(4,.slot,true)]})]
def zGD (c:ax)(a:List k0)(b:Int)(j:zg9 c a b=true):∃N,zv1 N c a b=some [aT .kept<|zkS c a b]:=by
 obtain⟨h,f⟩:=zN.1 j;have g:(zfZ a b).length<=big:=qS (zyc _ a 0) (zcP f).1;refine zct λN e=>?_;unfold zv1 oN;conv=>zeta
 refine j0 (zbD h) (j0 (zbD (by omega)) ?_);refine(zbo (zfZ a b) (λi (t:lB×lS)=>(ln<|zfZ a b,(i:Int),zfZ a b,[],[],t.1,t.2,())) _ (λ_ (x:Int) (t:List Bool×List k0) k=>bif pc (SmK ⟨t.1,t.2⟩) then k ((zbW ⟨t.1,t.2⟩ x).ay,(zbW ⟨t.1,t.2⟩ x).aA) else none) (λ(t:lB×lS)=>some [.agg<|Ty.cells .kept (⟨t.1,t.2⟩:ax)]) (λi d t rec=>?_) (λt rec=>?_) _ ((zd4 c).ay,(zd4 c).aA)<|e g).trans ?_;{simp only [zbx d,zbe d,zbl d,zbg d g,cT]};{simp only [zbp,cF]};exact zx4 _ _ 0 c h
def zBe:vM 84 zji:=kF3 zsN zC zA zq zHh zGD
def flushed (l:List au)(p:Int):List au:=l.filter λe=>!ieq e.ac p
def zEL (l:List au)(p:Int):(flushed l p).length<=l.length:=uE _ _
def znG {b e:Type}(p:b->Bool)(K:List b->Option e):∀(l:List b) (i:Nat) (a:List b),a.length+l.length<=2147483648->
 goL (λ_ x a d=>bif p x then (cond (few<|ln<|ap a [x]) (d<|ap a [x]) none) else d a) K l i a=K (a++l.filter p)
 |[],i,a,_=>by simp[goL]
 |x::l,i,a,h=>by simp only[qZ]at h;simp only[goL];cases c:p x;{rw [cF,znG p K l (i+1) a (by omega),List.filter_cons_of_neg (by simp[c])]};{rw [cT,zgI (by simp[ap];omega),cT,znG p K l (i+1) _ (by simp[ap];omega),List.filter_cons_of_pos c];simp[ap]}
@[simp] abbrev zd7 (l:List au)(p:Int):Bool:=pc (l.length<=1048576)
@[simp] abbrev zf9 (l:List au)(p:Int):List au:=flushed l p
def zkf:Run:=rF2 (dS .entry) dI λb c=>(zd7 b c,[aS .entry<|zf9 b c])
def zy4 (N:Nat)(e:lE)(f:Int):OA:=
 (iter (σ:=(Int×Int×lE×lE×Unit)) N (λd a=>let b:=a.2.2.1;let c:=ix b a.2.1 zfb; (cond (ilt a.2.1<|ln b) (oN (inb a.2.1<|ln b)<|cond (ine c.ac a.1) (oN (inb a.2.1<|ln b)<|oN (few<|ln<|ap a.2.2.2.1 [c])<|d (a.1,zO .i64 a.2.1 1,b,ap a.2.2.2.1 [c],()))<|d (a.1,zO .i64 a.2.1 1,b,a.2.2.2.1,()))<|some [aS .entry a.2.2.2.1])) (f,0,e,[],()))
def zKU:=zu [(93,0,{n:=29,tm:=[(0,.sl 0 []),(1,ti),(5,.sl 1 []),(6,ti)],lo:=[],ro:=[(0,.entry,false),(1,.entry,true)]})]
def zJJ (a:List au)(b:Int)(h:zd7 a b=true):∃N,zy4 N a b=some [aS .entry<|zf9 a b]:=by
 have j:=zN.1 h;have f:=zcP j;refine zct λN d=>?_;unfold zy4 oN;conv=>zeta
 refine(zbo a (λi (t:lE)=>(b,(i:Int),a,t,())) _ (λ_ (x:au) (t:List au) g=>bif !ieq x.ac b then (cond (few<|ln<|ap t [x]) (g<|ap t [x]) none) else g t) (λ(t:lE)=>some [.one<|.s .entry t]) (λi c t rec=>?_) (λt rec=>?_) _ ([])<|d f.1).trans ?_;{simp only [zbx c,zbe c,zbl c,zbg c f.1,cT];rfl};{simp only [zbp,cF]};exact znG (λe=>!ieq e.ac b) _ a 0 [] (by simpa using f.2)
def zDl:vM 93 zkf:=kF2 zsN zC zA zq zKU zJJ
def zyS (N:Nat)(d:lE)(f:Int):OA:=
 (iter (σ:=(Int×Int×Int×lE×lE×Unit)) N (λe a=>let b:=a.2.2.2.2.1;let c:=ix b a.2.1 zfb; (cond (ilt a.2.1 a.1) (oN (inb a.2.1<|ln b)<|cond (nB<|ieq c.ac a.2.2.1) (oN (few<|ln<|ap a.2.2.2.1 [c])<|e (a.1,zO .i64 a.2.1 1,a.2.2.1,ap a.2.2.2.1 [c],b,()))<|e (a.1,zO .i64 a.2.1 1,a.2.2.1,a.2.2.2.1,b,()))<|some [aS .entry a.2.2.2.1])) (ln d,0,f,[],d,()))
def zKN:=zu [(132,0,{n:=25,tm:=[(1,.fn 133 [0]),(5,.sl 0 []),(9,.sl 1 []),(10,ti),(11,ti)],lo:=[(0,[ti])],ro:=[(0,.entry,true),(1,.entry,false)]})]
def zJw (a:List au)(b:Int)(h:zd7 a b=true):∃N,zyS N a b=some [aS .entry<|zf9 a b]:=by
 have j:=zN.1 h;have f:=zcP j;refine zct λN d=>?_;unfold zyS oN nB;conv=>zeta
 refine(zbo a (λi (t:lE)=>(ln a,(i:Int),b,t,a,())) _ (λ_ (x:au) (t:List au) g=>bif !ieq x.ac b then (cond (few<|ln<|ap t [x]) (g<|ap t [x]) none) else g t) (λ(t:lE)=>some [.one<|.s .entry t]) (λi c t rec=>?_) (λt rec=>?_) _ ([])<|d f.1).trans ?_;{simp only [zbx c,zbe c,zbl c,zbg c f.1,cT];cases ieq a[i].ac b<;>rfl};{simp only [zbp,cF]};exact znG (λe=>!ieq e.ac b) _ a 0 [] (by simpa using f.2)
def zC9:vM 85 zkf:=kF2 zsN zC zA zq zKN zJw
def zW8:zW:=[(92,zji),(84,zji),(93,zkf),(85,zkf)]++z4D
def zFO:zL zW8:=zh zBk (zh zBe<|zh zDl<|zh zC9 zsN)
def zk7 (b:List ah)(p:Int):Nat->List ax->List ax
 | 0,a=>a
 |n+1,a=>up (zk7 b p n a) (n:Int) (zi7 (ix (zk7 b p n a) (n:Int) zfF) (ix b (n:Int) zF).av p)
def zpL (b:List ah)(p:Int):∀(n:Nat) (a:List ax),(zk7 b p n a).length=a.length
 | 0,_=>rfl
 |n+1,a=>by simp only[zk7,zgK];exact zpL b p n a
def zvd (b:List ah)(p:Int):∀(n:Nat) (a:List ax),n<=a.length->zAO a->zAO (zk7 b p n a)
 | 0,_,_,h=>h
 |n+1,a,e,h=>by have d:=zvd b p n a (by omega) h;have c:n<(zk7 b p n a).length:=(by rw[zpL];omega);exact zxp d (z3w _ _ (by rw[zbl c];exact d.2 _ (jK c)))
def zj6 (x:Mon)(p:Int)(n:Nat):Mon:={x with aj:=zk7 x.ad p n x.aj}
def z1h {x:Mon}{p:Int}{n:Nat}(a:n<=x.aj.length)(h:zfm x):zfm (zj6 x p n):=⟨h.1,h.2.1,h.2.2.1,h.2.2.2.1,h.2.2.2.2.1,zvd _ _ _ _ a h.2.2.2.2.2⟩
def zcn (h:ac)(m p:Int)(s:k0):ac :=
 bif ine (ix (ix h.aa m zk).ae p zY).af (-1)
 then ⟨h.ag,up h.aa m {zj6 (ix h.aa m zk) p (ix h.aa m zk).aj.length with ae:=up (ix h.aa m zk).ae p s},flushed h.ao (ix (ix h.aa m zk).ae p zY).af,flushed h.an (ix (ix h.aa m zk).ae p zY).af⟩
 else ⟨h.ag,up h.aa m {zj6 (ix h.aa m zk) p (ix h.aa m zk).aj.length with ae:=up (ix h.aa m zk).ae p s},h.ao,h.an⟩
def z7T (h:ac)(m p:Int):Prop:=i0 m (ln h.aa)=true/\i0 p (ln (ix h.aa m zk).ae)=true/\(ix h.aa m zk).aj.length<=(ix h.aa m zk).ad.length
@[simp] abbrev zfj (h:ac)(m p:Int)(s:k0):Bool:=pc (zcN h/\z7T h m p)
@[simp] abbrev zg0 (h:ac)(m p:Int)(s:k0):ac:=zcn h m p s
def zrE:LW
 |[.agg [.s (.sl .int) b,.s .mon c,.s .entry d,.s .entry e],.one<|.i .i64 f,.one<|.i .i64 g,.agg [.i .i64 h,.i .i64 j]]=>some (zfj (⟨b,c,d,e⟩:ac) f g (⟨h,j⟩:k0),[aH<|zg0 (⟨b,c,d,e⟩:ac) f g (⟨h,j⟩:k0)])
 |_=>none
def zvs (N:Nat)(p:ac)(g z:Int)(B:k0):OA:=
 let v:=ix p.aa g zk; (oN (inb g<|ln p.aa)<|oN (inb z<|ln v.ae)<|iter (σ:=(Int×Int×Int×Int×Int×Int×Int×Int×Int×Int×Int×Int×Int×Int×Int×lM×lN×lE×lE×lM×lN×lE×lE×Unit)) N (λD a=>let d:=a.2.2.1;let m:=a.2.2.2.2.2.2.2.2.2.2.2.1;let l:=a.2.2.2.2.2.2.2.2.2.2.2.2.1;let k:=a.2.2.2.2.2.2.2.2.2.2.2.2.2.2.1;let j:=a.2.2.2.2.2.2.2.2.2.2.2.2.2.2.2.1;let f:=a.2.2.2.2.2.2.2.1;let e:=a.2.2.2.2.2.2.2.2.1;let c:=a.2.2.2.1;let w:=a.2.2.2.2.2.2.2.2.2.2.1;let y:=a.2.2.2.2.2.2.2.2.2.2.2.2.2.2.2.2.2.1;let x:=a.2.2.2.2.2.2.2.2.2.2.2.2.2.2.2.2.2.2.1;let n:=a.2.2.2.2.2.2.1;let r:=a.2.2.2.2.2.2.2.2.2.1;let i:=a.2.2.2.2.2.2.2.2.2.2.2.2.2.1;let q:=a.2.2.2.2.2.2.2.2.2.2.2.2.2.2.2.2.1;let u:=(ix q r zk).ad;let t:=(ix u c zF).av;let h:=ix q n zk;let s:=(ix q i zk).aj;let C:=up q n ({h with ae:=(up h.ae a.2.1 (⟨a.2.2.2.2.1,a.2.2.2.2.2.1⟩:k0))}:Mon); (cond (ilt c<|ln s) (oN (inb c<|ln s)<|oN (inb c<|ln u)<|oN (zg9 (ix s c zfF) t a.2.1)<|oN (inb c<|ln s)<|p0 (up q i ({ (ix q i zk) with aj:=(up s c<|zkS (ix s c zfF) t a.2.1)}:Mon)) λb=>D (a.1,a.2.1,d,zO .i64 c 1,a.2.2.2.2.1,a.2.2.2.2.2.1,n,f,e,r,w,m,l,i,k,j,b,y,x,a.2.2.2.2.2.2.2.2.2.2.2.2.2.2.2.2.2.2.2.1,a.2.2.2.2.2.2.2.2.2.2.2.2.2.2.2.2.2.2.2.2.1,a.2.2.2.2.2.2.2.2.2.2.2.2.2.2.2.2.2.2.2.2.2.1,a.2.2.2.2.2.2.2.2.2.2.2.2.2.2.2.2.2.2.2.2.2.2.1,()))<|cond (ine d<|-1) (oN (zd7 y d)<|oN (zd7 x d)<|oN (inb a.2.1<|ln h.ae)<|p0 C λb=>oN (inb a.1<|ln b)<|oN (cond (cond (cond (cond (cond (cond (ieq i a.1) true false) (cond (ieq w a.1) true false) false) (cond (ieq r a.1) true false) false) (cond (ieq e a.1) true false) false) (cond (ieq f a.1) true false) false) (cond (ieq n a.1) true false) false)<|p0 (up b a.1 ({ (ix b n zk) with Out:=(ix b f zk).Out,ar:=(ix b e zk).ar,ad:=(ix b r zk).ad,Outs:=(ix b w zk).Outs,ak:=m,aq:=l,aj:=(ix b i zk).aj,Own:=k}:Mon)) λA=>some [aH (⟨j,A,zf9 y d,zf9 x d⟩:ac)])<|oN (inb a.2.1<|ln h.ae)<|p0 C λb=>oN (inb a.1<|ln b)<|oN (cond (cond (cond (cond (cond (cond (ieq i a.1) true false) (cond (ieq w a.1) true false) false) (cond (ieq r a.1) true false) false) (cond (ieq e a.1) true false) false) (cond (ieq f a.1) true false) false) (cond (ieq n a.1) true false) false)<|p0 (up b a.1 ({ (ix b n zk) with Out:=(ix b f zk).Out,ar:=(ix b e zk).ar,ad:=(ix b r zk).ad,Outs:=(ix b w zk).Outs,ak:=m,aq:=l,aj:=(ix b i zk).aj,Own:=k}:Mon)) λA=>some [aH (⟨j,A,y,x⟩:ac)])) (g,z,(ix v.ae z zY).af,0,B.af,B.ai,g,g,g,g,g,v.ak,v.aq,g,v.Own,p.ag,p.aa,p.ao,p.an,[],[],[],[],()))
def zQr:=zu [(52,0,{n:=70,tm:=[(1,ti),(2,ti),(4,.lp 0 0),(7,.lp 1 0),(8,.lp 2 0),(9,.lp 3 0),(10,ti),(11,ti)],lo:=[(0,[.sl 0 [],.sl 1 [],.sl 2 [],.sl 3 []]),(1,[ti,ti]),(2,[.sl 4 [],.sl 5 [],.sl 6 [],.sl 7 []]),(3,[.sl 1 [0],.sl 1 [1],.sl 1 [2],.sl 1 [3],.sl 1 [4],ti,ti,.sl 1 [7],ti])],ro:=[(0,.sl .int,true),(1,.mon,true),(2,.entry,true),(3,.entry,true),(4,.sl .int,true),(5,.mon,true),(6,.entry,true),(7,.entry,true)]})]
def zSU (N:Nat)(a:ac)(b c:Int)(d:k0):zCH (cQ zW8 zpi zBN zHg) zQr N 12 52 [true,true,true,true,false,false,false,false] 1 1 [[0],[1],[2],[4],[7]] .mon [aH a,aI b,aI c,aT .slot d]=zvs N a b c d:=by kernel_rfl
def zPY (a:ac)(f b:Int)(d:k0)(D:zbV big [aH a,aI f,aI b,aT .slot d])(y:zfj a f b d=true):∃N,zvs N a f b d=some [aH<|zg0 a f b d]:=by
 obtain⟨B,g,s,C⟩:=zN.1 y;have l:=(zU a).1 B;have r:zfm (ix a.aa f zk):=l.2.1.2 _ (zbF g _);obtain⟨k,rfl,q⟩:=zdZ (n:=a.aa.length) g;have x:=(zcP r.2.2.2.2.2.1).1;refine zct λN p=>?_;unfold zvs oN;conv=>zeta
 refine j0 g (j0 s ?_);refine zCQ (ix a.aa (k:Int) zk).aj.length (λi (t:List Mon)=>((k:Int),b,(ix (ix a.aa (k:Int) zk).ae b zY).af,(i:Int),d.af,d.ai,(k:Int),(k:Int),(k:Int),(k:Int),(k:Int),(ix a.aa (k:Int) zk).ak,(ix a.aa (k:Int) zk).aq,(k:Int),(ix a.aa (k:Int) zk).Own,a.ag,t,a.ao,a.an,[],[],[],[],())) _
  (λi t=>t=up a.aa (k:Int) (zj6 (ix a.aa (k:Int) zk) b i)) (λ_ _=>some [AV.agg<|zbn<|zcn a (k:Int) b d]) (λi t rec u m A=>?_) (λt rec m=>?_) _ 0 a.aa ?_ (j3 _) ?_
 .subst m;have c:i<(zk7 (ix a.aa (k:Int) zk).ad b i (ix a.aa (k:Int) zk).aj).length:=(by rw[zpL];exact u);have e:i<(ix a.aa (k:Int) zk).ad.length:=by omega
  have z:zg9 (ix (zk7 (ix a.aa (k:Int) zk).ad b i (ix a.aa (k:Int) zk).aj) (i:Int) zfF) (ix (ix a.aa (k:Int) zk).ad (i:Int) zF).av b=true :=
   zbD ⟨by rw[zbl c];exact(zvd _ _ _ _ (by omega) r.2.2.2.2.2).2 _ (jK c),by rw[zbl e];exact(r.2.2.2.1.2 _<|jK e).2.2.1⟩
  simp only[zd9 q,zvg,zj6,zbx c,zbe c,zbe e,z,cT,p0,zbg u x];exact A _ rfl
 {subst m;simp only[zd9 q,zvg,zgK,zj6,ln,zpL,zda,show ilt (((ix a.aa (k:Int) zk).aj.length:Nat):Int) (((ix a.aa (k:Int) zk).aj.length:Nat):Int)=false from qQ (by omega),cT,cF,p0];have h:inb (k:Int) ((a.aa.length:Nat):Int)=true:=g;have j:inb b (((ix a.aa (k:Int) zk).ae.length:Nat):Int)=true:=s;have v:zd7 a.ao (ix (ix a.aa (k:Int) zk).ae b zY).af=true:=zbD l.2.2.1;have w:zd7 a.an (ix (ix a.aa (k:Int) zk).ae b zY).af=true:=zbD l.2.2.2;simp only[h,j,v,w,cT];unfold zcn;cases ine (ix (ix a.aa (k:Int) zk).ae b zY).af (-1)<;>rfl};{exact(zNv q _).symm};{exact p (by omega)}
def zJl:zef Tryz.prog 52 [true,true,true,true,false,false,false,false] (some (1,1,[[0],[1],[2],[4],[7]])) zrE:=by refine zli (kt:=.mon) (zfU zFO zC zA zq) (ziq (by kernel_rfl)) (by kernel_rfl) ?_;intro a g f e h;have c:=zit e;unfold zrE at h;split at h;{obtain⟨d,rfl⟩:=zeo h;obtain⟨N,b⟩:=zPY _ _ _ _ (by exact c) d;exact⟨⟨_,rfl⟩,rfl,_,N,12,(zSU N _ _ _ _ ).trans b⟩};{cases h}
def zTV:zfn:=[(52,[true,true,true,true,false,false,false,false],some (1,1,[[0],[1],[2],[4],[7]]),zrE)]++zHg
def zeO:zej zTV:=zm5 zq (by
 intro x a;simp only[qG,qO,or_false]at a;rcases a with rfl
 .exact zJl)
def zUl (x:Mon)(p:Int):Mon:={x with ar:=up x.ar p false}
def zpM (h:ac)(m p:Int):ac:={h with aa:=up h.aa m (zUl (ix h.aa m zk) p)}
def zsZ (h:ac)(m p:Int):ac:=bif zbX h m p then (cond (zc1 (ix (ix h.aa m zk).ae p zY) z0) (zpM h m p)<|zcn (zpM h m p) m p ⟨(ix (ix h.aa m zk).ae p zY).af,1⟩) else h
def zx9:∀(l:List Mon) (u:List Bool),zix l u=true->∀x∈l,zez x=true
 |[],_,_,x,a=>by cases a
 |m::l,u,h,x,a=>by
  simp only[zix]at h;cases b:zez m;{rw [b]at h;cases h}
  .rw [b]at h;simp only[cT]at h;cases c:zgL m.ae u with
   |none=>rw[c]at h;cases h
   |some d =>rw[c]at h;rcases qG.1 a with rfl|a;{exact b};{exact zx9 l d h x a}
structure PageAt (h:ac) (m p:Int):Prop where
 hm:i0 m (ln h.aa)=true
 hp:i0 p 8=true
 ok:zez (ix h.aa m zk)=true
 ho:(ix h.aa m zk).ae.length=8
 hd:(ix h.aa m zk).ar.length=8
 ht:(ix h.aa m zk).aj.length=(ix h.aa m zk).ad.length
 hs:zc1 (ix (ix h.aa m zk).ae p zY) z0=ieq (ix (ix h.aa m zk).ae p zY).af (-1)
def zOQ {s:k0}{n:Int}(h:zdX s n=true):zc1 s z0=ieq s.af (-1):=by unfold zdX at h;cases a:zc1 s z0;{rw [a]at h;cases d:ieq s.af (-1);{rfl};{have e:s.af = -1:=qF d;cases b:igt n 0;{rw [b]at h;cases h};{cases c:zi s.af 0 (wsub .i64 n 1);{rw [b,c]at h;cases h};{have:=(zfE.1 c).1;omega}}}};{unfold zc1 at a;rw[qE]at a;exact a.1.symm}
def zJ6 {h:ac}{m p:Int}(d:zbX h m p=true):PageAt h m p:=by unfold zbX at d;simp only[zdf]at d;obtain⟨c,f,g⟩:=d;unfold zb5 at c;simp only[zdf]at c;have b:=zx9 _ _ c.2.2.2.2 _ (zbF f zk);have a:=b;unfold zez at a;simp only[zdf]at a;have i:(ix h.aa m zk).ae.length=8:=(by have:=zrd a.2.2.1;simp only[ln] at this;omega);refine⟨f,g,b,i,?_,?_,?_⟩;{have:ln (ix h.aa m zk).ar=8:=qF a.2.2.2.2.1;simp only[ln] at this;omega};{have:ln (ix h.aa m zk).aj=ln (ix h.aa m zk).ad:=qF a.2.1;simp only[ln] at this;omega};{have e:=a.2.2.1;unfold zc4 at e;simp only[zdf]at e;have j:i0 p (ln (ix h.aa m zk).ae)=true:=(by rw[ln,i];exact g);exact zOQ (qM.1 e.1 _<|zbF j _)}
def zTM {x:Mon}{p:Int}(h:zfm x):zfm (zUl x p):=⟨h.1,h.2.1,by simpa [zUl] using h.2.2.1,h.2.2.2⟩
def zyL {h:ac}{m p:Int}(b:i0 m (ln h.aa)=true)(a:SmH h):SmH (zpM h m p):=⟨a.1,zi0 a.2.1<|zTM<|a.2.1.2 _<|zbF b _,a.2.2⟩
def zFn {h:ac}{m p:Int}{s:k0}(d:i0 m (ln h.aa)=true)(a:SmH h):SmH (zcn h m p s):=by have c:=a.2.1.2 _ (zbF d zk);have e:=z1h (p:=p) (qV _) c;have b:zqJ (up h.aa m {zj6 (ix h.aa m zk) p (ix h.aa m zk).aj.length with ae:=up (ix h.aa m zk).ae p s}):=zi0 a.2.1 ⟨by simpa using c.1,e.2⟩;unfold zcn;cases ine (ix (ix h.aa m zk).ae p zY).af (-1);{exact⟨a.1,b,a.2.2⟩};{exact⟨a.1,b,qS (zEL _ _) a.2.2.1,qS (zEL _ _) a.2.2.2⟩}
def zyO {h:ac}{m p:Int}(a:i0 m (ln h.aa)=true):i0 m (ln (zpM h m p).aa)=true:=by unfold zpM;simpa [ln] using a
def z1d {h:ac}{m p:Int}(a:SmH h):SmH (zsZ h m p):=by unfold zsZ;cases b:zbX h m p;{exact a};{have P:=zJ6 b;cases zc1 (ix (ix h.aa m zk).ae p zY) z0;{exact zFn (zyO P.hm) (zyL P.hm a)};{exact zyL P.hm a}}
@[simp] abbrev zhQ (h:ac)(m p:Int):Bool:=pc (zcN h)
@[simp] abbrev zuU (h:ac)(m p:Int):ac:=zsZ h m p
def zE6:Run:=rF3 dH dI dI λb c d=>(zhQ b c d,[aH<|zuU b c d,aB<|zd1 b c d])
def zNF (N:Nat)(h:ac)(a b:Int):OA:=
 let c:=zo h;let g:=ix c.aa a zk; (oN (zbu h)<|oN (zhX c a b)<|cond (nB<|zd1 c a b) (some [aH c,aB false])<|oN (inb a<|ln c.aa)<|oN (inb b<|ln g.ar)<|p0 (up c.aa a ({g with ar:=(up g.ar b false)}:Mon)) (λd=>let i:=(ix d a zk).ae;let f:=({c with aa:=d}:ac);let e:=ix i b zY;let j:=({e with ai:=1}:k0); (oN (inb a<|ln d)<|oN (inb b<|ln i)<|oN zbT<|cond (cond (ieq e.af zbi.af) (ieq e.ai zbi.ai) false) (some [aH f,aB true])<|oN (zfj f a b j)<|some [aH<|zg0 f a b j,aB true])))
def zUU (a:ac)(c b:Int)(j:zhQ a c b=true):∃N,zNF N a c b=some [aH<|zuU a c b,aB<|zd1 a c b]:=by
 have g:=zN.1 j;have i:=(zU a).1 g;refine⟨0,?_⟩;unfold zNF zuU zd1 zsZ oN nB;conv=>zeta
 refine j0 (zbD g) (j0 rfl ?_);cases f:zbX a c b;{simp only [zd1,zo,f,cF,cT]};{have P:=zJ6 f;obtain⟨k,rfl,d⟩:=zdZ (n:=a.aa.length) P.hm;simp only[zd1,zo,f,cT,cF];have l:inb b (ln (ix a.aa (k:Int) zk).ar)=true:=(by rw[ln,P.hd];exact P.hp);have h:inb b (ln (ix a.aa (k:Int) zk).ae)=true:=(by rw[ln,P.ho];exact P.hp);refine j0 P.hm (j0 l ?_);simp only[p0,zd9 d,h,cT,zbT,zbi];refine j0 (zyO (p:=b) P.hm) ?_;have e:∀s:k0,zc1 s z0=bif ieq s.af z0.af then ieq s.ai z0.ai else false:=λs=>(by unfold zc1;cases ieq s.af z0.af<;>rfl);rw[<- e];cases zc1 (ix (ix a.aa (k:Int) zk).ae b zY) z0;{refine zdM rfl (j0 (zbD ⟨(zU _).2 (zyL P.hm i),zyO (p:=b) P.hm,?_,?_⟩) rfl);{simp only [zd9 d];exact h};{simp only [zd9 d];exact kX P.ht}};{rfl}}
def zO8:vM 189 zE6:=kF3 zFO zC zA zeO (zu []) zUU
def zZy:zW:=[(189,zE6)]++zW8
def zZz:zL zZy:=zh zO8 zFO
def zZA:zW:=zZy
def zkq:zL zZA:=zZz
def zyo (o i t:Int):Int:=bif zg7 i t then 1 else (cond (zg7 o t) 2 0)
@[simp] abbrev zqm (o i t:Int):Bool:=true
@[simp] abbrev zni (o i t:Int):Int:=zyo o i t
def zzE:Run:=rF3 dI dI dI λb c d=>(zqm b c d,[aI<|zni b c d])
def zEm (N:Nat)(b c a:Int):OA:=
 (oN (zh8 c a)<|cond (zhS c a) (some [aI 1])<|oN (zh8 b a)<|cond (zhS b a) (some [aI 2])<|some [aI 0])
def zPH (a b c:Int)(d:zqm a b c=true):∃N,zEm N a b c=some [aI<|zni a b c]:=by refine⟨0,?_⟩;unfold zEm oN;refine j0 rfl (br (λ_=>?_) λ_=>j0 rfl (br (λ_=>?_) λ_=>?_));all_goals first|rfl|(simp only [*,zni,zyo,cT,cF]<;>rfl)|simp_all[Ty.cells,zni,zyo]
def zIW:vM 227 zzE:=kF3 zkq zC zA zeO (zu []) zPH
def ze0 (m g:Int):Int:=bif zi m 0 2 then (cond (zi g 0 1) (zO .i64 (zO .i64 1 g)<|zm8 .i64 m 2) 0) else 0
@[simp] abbrev zkV (m g:Int):Bool:=true
@[simp] abbrev zsx (m g:Int):Int:=ze0 m g
def zE9:Run:=rF2 dI dI λb c=>(zkV b c,[aI<|zsx b c])
def zNN (N:Nat)(a b:Int):OA:=
 (oN (zM a 0 2)<|cond (nB<|zi a 0 2) (some [aI 0])<|oN (zM b 0 1)<|cond (nB<|zi b 0 1) (some [aI 0])<|some [aI<|zO .i64 (zO .i64 1 b)<|zm8 .i64 a 2])
def zU1 (a b:Int)(c:zkV a b=true):∃N,zNN N a b=some [aI<|zsx a b]:=by refine⟨0,?_⟩;unfold zNN oN nB;refine j0 rfl (brN (λ_=>?_) λ_=>j0 rfl (brN (λ_=>?_) λ_=>?_));all_goals first|rfl|(simp only [*,zsx,ze0,cT,cF]<;>rfl)|simp_all[Ty.cells,zsx,ze0]
def zPf:vM 203 zE9:=kF2 zkq zC zA zeO (zu []) zU1
def zkw (k:ax)(p:Int):Bool:=bif zdP k p then ix k.ay p false else false
def zfo (k:ax)(p:Int):k0:=bif zkw k p then ix k.aA p zY else z0
@[simp] abbrev zsv (k:ax)(p:Int):k0:=zfo k p
@[simp] abbrev zC0 (k:ax)(p:Int):Bool:=zkw k p
def zOM:Run:=rF2 (dT .kept) dI λb c=>(zdC b c,[aT .slot<|zsv b c,aB<|zC0 b c])
def zVP (N:Nat)(a:ax)(b:Int):OA:=
 let c:=ix a.aA b zY; (oN (zdC a b)<|cond (nB<|zih a b) (oN zbT<|some [.agg [.i .i64 zbi.af,.i .i64 zbi.ai],aB false])<|oN (inb b<|ln a.ay)<|cond (nB<|ix a.ay b false) (oN zbT<|some [.agg [.i .i64 zbi.af,.i .i64 zbi.ai],aB false])<|oN (inb b<|ln a.aA)<|some [.agg [.i .i64 c.af,.i .i64 c.ai],aB true])
def z0j (a:ax)(b:Int)(f:zdC a b=true):∃N,zVP N a b=some [aT .slot<|zsv a b,aB<|zC0 a b]:=by
 have g:=zN.1 f;refine⟨0,?_⟩;unfold zVP zsv zC0 zfo zkw oN nB;conv=>zeta
 refine j0 (zbD g) ?_;rw[show zih a b=zdP a b from rfl];cases c:zdP a b;{rfl};{unfold zdP at c;obtain⟨d,e⟩:=zdf.1 c;simp only[zI d,zI e,cT];cases ix a.ay b false<;>rfl}
def zUM:vM 239 zOM:=kF2 zkq zC zA zeO (zu []) z0j
def filled (k:ax)(a b:List k0)(p:Int):ax:=bif zdP k p then (cond (i0 p<|ln a) ⟨up k.ay p true,up k.aA p<|zby (ix a p zY) b⟩ k) else k
@[simp] def zYM {k:ax}{a b:List k0}{p:Int}(h:SmK k):SmK (filled k a b p):=by unfold filled;cases zdP k p;{exact h};{cases i0 p (ln a);{exact h};{exact⟨by simpa using h.1,by simpa using h.2⟩}}
@[simp] abbrev zG8 (k:ax)(i o:List k0)(p:Int):Bool:=pc (SmK k)
@[simp] abbrev zKk (k:ax)(i o:List k0)(p:Int):ax:=filled k i o p
def zKi:Run:=rF4 (dT .kept) (dS .slot) (dS .slot) dI λb c d e=>(zG8 b c d e,[aT .kept<|zKk b c d e])
def zQO (N:Nat)(d:ax)(c e:lS)(a:Int):OA:=
 let b:=zdK d; (oN (zgd d)<|oN (zdC b a)<|cond (zih b a) (cond (ilt a<|ln c) (oN (inb a<|ln b.ay)<|p0 (up b.ay a true) λf=>oN (inb a<|ln c)<|oN (zkg (ix c a zY) e)<|oN (inb a<|ln b.aA)<|p0 (up b.aA a<|zmy (ix c a zY) e) λg=>some [aT .kept (⟨f,g⟩:ax)])<|some [aT .kept b])<|some [aT .kept b])
def zXU (b:ax)(c d:List k0)(a:Int)(j:zG8 b c d a=true):∃N,zQO N b c d a=some [aT .kept<|zKk b c d a]:=by
 have g:=zN.1 j;refine⟨0,?_⟩;unfold zQO zKk filled oN;conv=>zeta
 refine j0 (zbD<|(zwd _).2 g) (j0 (zbD g) ?_);rw[show zih (zdK b) a=zdP b a from rfl];cases f:zdP b a;{rfl};{unfold zdP at f;obtain⟨e,h⟩:=zdf.1 f;rw[has_lt e (m:=ln c)];cases i:i0 a (ln c);{rfl};{simp only [cT,zdK,zI e,zI h,zI i,p0,zkg];rfl}}
def zRW:vM 240 zKi:=kF4 zkq zC zA zeO (zu []) zXU
def zRK {a b:Type}(p:a->Bool)(r:a->Option b)(K:Unit->Option b):∀(l:List a) (i:Nat),goL (λ_ x (_:Unit) k=>bif p x then r x else k ()) K l i ()=match l.find? p with|some x=>r x|none=>K ()
 |[],_=>rfl
 |x::l,i=>by simp only[goL];cases h:p x;{rw [List.find?_cons_of_neg (by simp[h])];exact zRK p r K l (i+1)};{rw [List.find?_cons_of_pos h];rfl}
def zCI (b:List au)(t p:Int):Option au:=b.find? λe=>bif ieq e.Tag t then ieq e.af p else false
@[simp] abbrev zmA (b:List au)(t p:Int):Bool:=true
@[simp] abbrev zmz (b:List au)(t p:Int):au:=(zCI b t p).getD ⟨0,0,0,0⟩
@[simp] abbrev zjE (b:List au)(t p:Int):Bool:=(zCI b t p).isSome
def zuO:Run:=rF3 (dS .entry) dI dI λb c d=>(zmA b c d,[aT .entry<|zmz b c d,aB<|zjE b c d])
def zy3 (N:Nat)(f:lE)(g h:Int):OA:=
 (iter (σ:=(Int×Int×Int×Int×Int×Int×Int×lE×Unit)) N (λj a=>let f:=a.2.2.2.2;let c:=f.2.2.2.1;let d:=inb a.2.2.1<|ln c;let e:=j (a.1,a.2.1,zO .i64 a.2.2.1 1,a.2.2.2.1,f.1,f.2.1,f.2.2.1,c,());let b:=ix c a.2.2.1 zfb; (cond (ilt a.2.2.1<|ln c) (oN d<|cond (ieq b.Tag a.1) (oN d<|cond (ieq b.af a.2.1) (oN d<|some [.agg [.i .i64 b.Tag,.i .i64 b.af,.i .i64 b.ac,.i .i64 b.ai],aB true]) e) e)<|some [.agg [.i .i64 0,.i .i64 0,.i .i64 0,.i .i64 0],aB false])) (g,h,0,0,0,0,0,f,()))
def zKT:=zu [(238,0,{n:=36,tm:=[(0,.sl 0 []),(1,ti),(2,ti),(6,.lp 0 0),(8,ti)],lo:=[(0,[ti,ti,ti,ti])],ro:=[(0,.entry,false)]})]
def zJI (a:List au)(c d:Int)(j:zbV big [aS .entry a,aI c,aI d])(l:zmA a c d=true):∃N,zy3 N a c d=some [aT .entry<|zmz a c d,aB<|zjE a c d]:=by
 have h:=len0 j;refine zct λN g=>?_;unfold zy3 oN;conv=>zeta
 refine(zbo a (λi (t:Unit)=>(c,d,(i:Int),0,0,0,0,a,())) _ (λ_ (x:au) (_:Unit) k=>bif (cond (ieq x.Tag c) (ieq x.af d) false) then (some [AV.agg<|Ty.cells .entry x,AV.one<|.b true]) else k ()) (λ(t:Unit)=>some [.agg [.i .i64 0,.i .i64 0,.i .i64 0,.i .i64 0],.one<|.b false]) (λi f t rec=>?_) (λt rec=>?_) _ ()<|g h).trans ?_;{simp only [zbx f,zbe f,zbl f,zbg f h,cT];cases ieq a[i].Tag c<;>cases ieq a[i].af d<;>rfl};{simp only [zbp,cF]};rw[zRK λe:au=>bif ieq e.Tag c then ieq e.af d else false];unfold zmz zjE zCI;cases a.find? (λe:au=>bif ieq e.Tag c then ieq e.af d else false)<;>rfl
def zDk:vM 238 zuO:=hF3 zkq zC zA zeO zKT zJI
def zBJ (t p:Int)(e:au):Bool:=bif ine e.Tag t then true else ine e.af p
def zcI (b:List au)(t p:Int):List au:=b.filter (zBJ t p)
def zxZ (b:List au)(t p:Int):(zcI b t p).length<=b.length:=uE _ _
@[simp] abbrev zgE (b:List au)(t p:Int):Bool:=pc (b.length<=1048576)
@[simp] abbrev zmb (b:List au)(t p:Int):List au:=zcI b t p
def zuP:Run:=rF3 (dS .entry) dI dI λb c d=>(zgE b c d,[aS .entry<|zmb b c d])
def zy5 (N:Nat)(h:lE)(i j:Int):OA:=
 (iter (σ:=(Int×Int×Int×lE×lE×Unit)) N (λf a=>let b:=a.2.2.2.1;let c:=inb a.2.2.1<|ln b;let d:=ix b a.2.2.1 zfb;let e:=ap a.2.2.2.2.1 [d];let g:=f (a.1,a.2.1,zO .i64 a.2.2.1 1,b,e,()); (cond (ilt a.2.2.1<|ln b) (oN c<|cond (ine d.Tag a.1) (oN c<|oN (few<|ln e) g)<|oN c<|cond (ine d.af a.2.1) (oN c<|oN (few<|ln e) g)<|f (a.1,a.2.1,zO .i64 a.2.2.1 1,b,a.2.2.2.2.1,()))<|some [aS .entry a.2.2.2.2.1])) (i,j,0,h,[],()))
def zKV:=zu [(155,0,{n:=40,tm:=[(0,.sl 0 []),(1,ti),(2,ti),(7,.sl 1 []),(8,ti)],lo:=[],ro:=[(0,.entry,false),(1,.entry,true)]})]
def zJK (a:List au)(b c:Int)(h:zgE a b c=true):∃N,zy5 N a b c=some [aS .entry<|zmb a b c]:=by
 have j:=zN.1 h;have f:=zcP j;refine zct λN e=>?_;unfold zy5 oN;conv=>zeta
 refine(zbo a (λi (t:lE)=>(b,c,(i:Int),a,t,())) _ (λ_ (x:au) (t:List au) g=>bif zBJ b c x then (cond (few<|ln<|ap t [x]) (g<|ap t [x]) none) else g t) (λ(t:lE)=>some [.one<|.s .entry t]) (λi d t rec=>?_) (λt rec=>?_) _ ([])<|e f.1).trans ?_;{simp only [zbx d,zbe d,zbl d,zbg d f.1,cT];unfold zBJ;cases ine a[i].Tag b<;>cases ine a[i].af c<;>rfl};{simp only [zbp,cF]};exact znG (zBJ b c) _ a 0 [] (by simpa using f.2)
def zDm:vM 155 zuP:=kF3 zkq zC zA zeO zKV zJK
def z4L:zW:=[(227,zzE),(203,zE9),(239,zOM),(240,zKi),(238,zuO),(155,zuP)]++zZA
def zxU:zL z4L:=zh zIW (zh zPf<|zh zUM<|zh zRW<|zh zDk<|zh zDm zkq)
def zpp (b:List au)(e:au):List au:=bif igt (ln<|ap (zcI b e.Tag e.af) [e]) 6 then dp (ap (zcI b e.Tag e.af) [e]) (wsub .i64 (ln<|ap (zcI b e.Tag e.af) [e]) 6) else ap (zcI b e.Tag e.af) [e]
def zys {b:List au}(e:au)(h:b.length<=1048576):(zpp b e).length<=1048576/\(ap (zcI b e.Tag e.af) [e]).length<=1048577:=by have d:=zxZ b e.Tag e.af;have c:(ap (zcI b e.Tag e.af) [e]).length<=1048577:=(by simp[ap];omega);refine⟨?_,c⟩;unfold zpp;cases a:igt (ln<|ap (zcI b e.Tag e.af) [e]) 6;{have a:=jX a;simp only[ln]at a;simp only[cF];omega};{simp only [cT,dp,vJ];have a:=qF a;have:wsub .i64 (ln<|ap (zcI b e.Tag e.af) [e]) 6=ln (ap (zcI b e.Tag e.af) [e])-6:=zxx (by simp only[ln] at *;omega) (by simp only[ln] at *;omega);rw[this];simp only[ln] at *;omega}
@[simp] abbrev zkU (b:List au)(e:au):Bool:=pc (b.length<=1048576)
@[simp] abbrev zlz (b:List au)(e:au):List au:=zpp b e
def zpx:Run:=rF2 (dS .entry) (dT .entry) λb c=>(zkU b c,[aS .entry<|zlz b c])
def zAD (N:Nat)(d:lE)(b:au):OA:=
 let a:=ap (zmb d b.Tag b.af) [b];let c:=wsub .i64 (ln a) 6; (oN (zgE d b.Tag b.af)<|oN (few<|ln a)<|cond (igt (ln a) 6) (oN (inr c (ln a)<|ln a)<|oN (few<|ln<|ap []<|dp a c)<|some [aS .entry<|ap []<|dp a c])<|some [aS .entry a])
def zME (b:List au)(a:au)(h:zkU b a=true):∃N,zAD N b a=some [aS .entry<|zlz b a]:=by
 have f:=zN.1 h;obtain⟨c,g⟩:=zys a f;refine⟨0,?_⟩;unfold zAD oN;conv=>zeta
 refine j0 (zbD f) (j0 (zgI<|qS g (by decide:1048577<=2147483648)) ?_);unfold zlz zpp at *;show _=some [AV.one<|.s .entry<|cond (igt (ln<|ap (zcI b a.Tag a.af) [a]) 6) (dp (ap (zcI b a.Tag a.af) [a])<|wsub .i64 (ln<|ap (zcI b a.Tag a.af) [a]) 6)<|ap (zcI b a.Tag a.af) [a]];cases d:igt (ln<|ap (zcI b a.Tag a.af) [a]) 6;{rfl};{rw [d]at c;simp only[cT]at c;have d:=qF d;have e:wsub .i64 (ln<|ap (zcI b a.Tag a.af) [a]) 6=ln (ap (zcI b a.Tag a.af) [a])-6:=zxx (by simp only[ln] at *;omega) (by simp only[ln] at *;omega);refine j0 rfl (j0 (qK ?_)<|j0 ?_ ?_);{show 0<=wsub .i64 (ln<|ap (zcI b a.Tag a.af) [a]) 6/\wsub .i64 (ln<|ap (zcI b a.Tag a.af) [a]) 6<=ln (ap (zcI b a.Tag a.af) [a])/\ln (ap (zcI b a.Tag a.af) [a])<=ln (ap (zcI b a.Tag a.af) [a]);rw[e];simp only[ln] at *;omega};{exact zna c};{rw [zlT];rfl}}
def zs6:vM 118 zpx:=kF2 zxU zC zA zeO (zu []) zME
def znF (l:List k0)(p:Int):Option Nat:=l.findIdx? λs=>ieq s.af p
def zhP (p:Int):List Mon->Nat->Int×Int
 |[],_=>(-1,-1)
 |m::l,i=>match znF m.ae p with|some k=>((i:Int),(k:Int))|none=>zhP p l (i+1)
def zbK (h:ac)(p:Int):Int×Int:=bif ilt p 0 then (-1,-1) else zhP p h.aa 0
def zOn {a:Type}(p:k0->Bool)(r:Nat->Option a)(K:Unit->Option a):∀(l:List k0) (i:Nat),goL (λj x (_:Unit) k=>bif p x then r j else k ()) K l i ()=match l.findIdx? p with|some k=>r (i+k)|none=>K ()
 |[],_=>rfl
 |x::l,i=>by simp only[goL];rw[List.findIdx?_cons];cases h:p x;{simp only [cF,kF,if_false];rw[zOn p r K l<|i+1];cases l.findIdx? p with|none=>rfl|some k=>simp only[Option.map_some];congr 1;omega};{rfl}
def zLm {c:Type}(p:Int)(r:Int->Int->Option c):∀(l:List Mon) (i:Nat),goL (λi (x:Mon) (_:Unit) b=>goL (λj (y:k0) (_:Unit) a=>bif ieq y.af p then r (i:Int) (j:Int) else a ()) (λ_=>b ()) x.ae 0 ()) (λ_=>r (-1) (-1)) l i ()=r (zhP p l i).1 (zhP p l i).2
 |[],_=>rfl
 |m::l,i=>by simp only[goL,zhP];rw[zOn (λs=>ieq s.af p) λj=>r (i:Int) (j:Int)];unfold znF;cases m.ae.findIdx? (λs=>ieq s.af p) with|none=>exact zLm p r l (i+1)|some k=>simp only[j5]
@[simp] abbrev zft (h:ac)(p:Int):Bool:=true
@[simp] abbrev zdw (h:ac)(p:Int):Int:=(zbK h p).1
@[simp] abbrev zeh (h:ac)(p:Int):Int:=(zbK h p).2
def zir:Run:=rF2 dH dI λb c=>(zft b c,[aI<|zdw b c,aI<|zeh b c])
def ztP (N:Nat)(f:ac)(g:Int):OA:=
 (cond (ilt g 0) (some [aI<|-1,aI<|-1])<|iter (σ:=(Int×Int×Int×lN×Unit)) N (λi b=>let c:=b.2.2.1; (cond (ilt c b.2.1) (oN (inb c<|ln b.2.2.2.1)<|iter (σ:=(Int×Int×Int×Int×Int×Int×Int×lN×Unit)) N (λj a=>let b:=a.2.2.2.2;let e:=b.2.2.2.1;let h:=(ix e b.1 zk).ae;let d:=b.2.2.1; (cond (ilt d b.2.1) (oN (inb d<|ln h)<|cond (ieq (ix h d zY).af a.1) (some [aI a.2.1,aI d])<|j (a.1,a.2.1,a.2.2.1,a.2.2.2.1,b.1,b.2.1,zO .i64 d 1,e,()))<|i (a.1,a.2.2.1,zO .i64 a.2.2.2.1 1,e,()))) (b.1,c,b.2.1,c,c,ln (ix b.2.2.2.1 c zk).ae,0,b.2.2.2.1,()))<|some [aI<|-1,aI<|-1])) (g,ln f.aa,0,f.aa,()))
def zDZ:=zu [(128,0,{n:=36,tm:=[(1,ti),(13,.sl 0 []),(14,ti),(15,ti)],lo:=[],ro:=[(0,.mon,false)]}),(128,2,{n:=36,tm:=[(1,ti),(6,ti),(13,.sl 0 []),(14,ti),(15,ti),(21,.sl 0 [0]),(22,ti),(23,ti)],lo:=[],ro:=[(0,.mon,false)]})]
def zDE (a:ac)(c:Int)(m:zbV big [aH a,aI c])(q:zft a c=true):∃N,ztP N a c=some [aI<|zdw a c,aI<|zeh a c]:=by
 have k:CVB big (.s .mon a.aa):=(zdv m).1 _ (by simp[AV.cvs,zbn]);have h:=k.len;refine zct λN e=>?_;unfold ztP zdw zeh zbK oN;conv=>zeta
 cases p:ilt c 0;{simp only [cF];refine(zbo a.aa (λi (t:Unit)=>(c,ln a.aa,(i:Int),a.aa,())) _ (λi (x:Mon) (_:Unit) n=>goL (λj (y:k0) (_:Unit) b=>bif ieq y.af c then some [AV.one<|.i .i64 (i:Int),AV.one<|.i .i64 (j:Int)] else b ()) (λ_=>n ()) x.ae 0 ()) (λ(t:Unit)=>some [.one<|.i .i64<|-1,.one<|.i .i64<|-1]) (λi d t rec=>?_) (λt rec=>?_) _ ()<|e h).trans ?_;{simp only [zbx d,zbe d,zbl d,zbg d h,cT];have l:a.aa[i].ae.length<=big:=(k.inv.2 _ (jK d) (.s .slot _) (by simp[Ty.cells])).len;refine(zbo a.aa[i].ae (λj (u:Unit)=>(c,(i:Int),ln a.aa,(i:Int),(i:Int),ln a.aa[i].ae,(j:Int),a.aa,())) _ (λj (y:k0) (_:Unit) b=>bif ieq y.af c then some [AV.one<|.i .i64 (i:Int),AV.one<|.i .i64 (j:Int)] else b ()) (λ(u:Unit)=>rec (c,ln a.aa,((i+1:Nat):Int),a.aa,())) (λj g u f=>?_) (λu f=>?_) _ ()<|e l).trans ?_;{simp only [zbx g,zbe g,zbl g,zbg g l,cT,zbe d,zbl d,zbg d h]};{simp only [zbp,cF,zbe d,zbl d,zbg d h]};rfl};{simp only [zbp,cF]};exact zLm c (λi j=>some [AV.one<|.i .i64 i,AV.one<|.i .i64 j]) a.aa 0};{rfl}
def zz3:vM 128 zir:=hF2 zxU zC zA zeO zDZ zDE
def zZ2 {a c b:Type}(r:Option b):∀(l:List a) (i:Nat) (t:c),goL (λ_ _ _ _=>r) (λ_=>r) l i t=r
 |[],_,_=>rfl
 |_::_,_,_=>rfl
def zt0 (N:Nat)(d:ac)(f:Int):OA:=
 (iter (σ:=(Int×Int×lM×lN×lE×lE×Unit)) N (λg b=>cond (ilt b.2.1<|ln b.2.2.2.1) (cond (ige b.1 0) (iter (σ:=(Int×Int×Int×lM×lN×lE×lE×Unit)) N (λh a=>let b:=a.2.2.2.2;let c:=b.1;let e:=(ix c a.2.1 zk).ae; (oN (inb a.2.1<|ln c)<|cond (ilt a.2.2.1<|ln e) (oN (inb a.2.1<|ln c)<|oN (inb a.2.2.1<|ln e)<|cond (ieq (ix e a.2.2.1 zY).af a.1) (some [aI a.2.1,aI a.2.2.1])<|h (a.1,a.2.1,zO .i64 a.2.2.1 1,a.2.2.2.1,c,b.2.1,b.2.2.1,()))<|g (a.1,zO .i64 a.2.1 1,a.2.2.2.1,c,b.2.1,b.2.2.1,()))) (b.1,b.2.1,0,b.2.2.1,b.2.2.2.1,b.2.2.2.2.1,b.2.2.2.2.2.1,()))<|some [aI<|-1,aI<|-1])<|some [aI<|-1,aI<|-1]) (f,0,d.ag,d.aa,d.ao,d.an,()))
def zD0:=zu [(89,0,{n:=44,tm:=[(1,ti),(2,.lp 0 0),(6,ti)],lo:=[(0,[.sl 0 [],.sl 1 [],.sl 2 [],.sl 3 []])],ro:=[(0,.sl .int,false),(1,.mon,false),(2,.entry,false),(3,.entry,false)]}),(89,2,{n:=44,tm:=[(1,ti),(2,.lp 0 0),(6,ti),(7,ti)],lo:=[(0,[.sl 0 [],.sl 1 [],.sl 2 [],.sl 3 []])],ro:=[(0,.sl .int,false),(1,.mon,false),(2,.entry,false),(3,.entry,false)]})]
def zDP (a:ac)(b:Int)(p:zbV big [aH a,aI b])(r:zft a b=true):∃N,zt0 N a b=some [aI<|zdw a b,aI<|zeh a b]:=by
 have m:CVB big (.s .mon a.aa):=(zdv p).1 _ (by simp[AV.cvs,zbn]);have l:=m.len;refine zct λN e=>?_;unfold zt0 zdw zeh zbK oN;conv=>zeta
 refine(zbo a.aa (λi (t:Unit)=>(b,(i:Int),a.ag,a.aa,a.ao,a.an,())) _ (λi (x:Mon) (_:Unit) q=>bif ige b 0 then goL (λj (y:k0) (_:Unit) c=>bif ieq y.af b then some [AV.one<|.i .i64 (i:Int),AV.one<|.i .i64 (j:Int)] else c ()) (λ_=>q ()) x.ae 0 () else some [AV.one<|.i .i64<|-1,AV.one<|.i .i64<|-1]) (λ(t:Unit)=>some [.one<|.i .i64<|-1,.one<|.i .i64<|-1]) (λi d t rec=>?_) (λt rec=>?_) _ ()<|e l).trans ?_;{simp only [zbx d,zbe d,zbl d,zbg d l,cT];cases h:ige b 0;{rfl};have n:a.aa[i].ae.length<=big:=(m.inv.2 _ (jK d) (.s .slot _) (by simp[Ty.cells])).len;simp only[cT];refine(zbo a.aa[i].ae (λj (_:Unit)=>(b,(i:Int),(j:Int),a.ag,a.aa,a.ao,a.an,())) _ (λj (y:k0) (_:Unit) c=>bif ieq y.af b then some [AV.one<|.i .i64 (i:Int),AV.one<|.i .i64 (j:Int)] else c ()) (λ_=>rec (b,((i+1:Nat):Int),a.ag,a.aa,a.ao,a.an,())) (λj g u f=>?_) (λu f=>?_) _ ()<|e n).trans ?_;{simp only [zbx g,zbe g,zbl g,zbg g n,cT,zbe d,zbl d]};{simp only [zbp,cF,cT,zbe d,zbl d,zbg d l]};rfl};{simp only [zbp,cF]};cases h:ige b 0;{have k:ilt b 0=true:=(by have:=jX h;exact qK (by omega));rw[k];exact zZ2 _ _ _ _};{have k:ilt b 0=false:=(by have:=qF h;exact qQ (by omega));rw[k];exact zLm b (λi j=>some [AV.one<|.i .i64 i,AV.one<|.i .i64 j]) a.aa 0}
def zAd:vM 89 zir:=hF2 zxU zC zA zeO zD0 zDP
def z4M:zW:=[(118,zpx),(89,zir),(128,zir)]++z4L
def zsP:zL z4M:=zh zs6 (zh zAd<|zh zz3 zxU)
def zcj (h:ac):LI:=zvB (λi=>ilt (zbK h (i:Int)).1 0) h.ag.length 0
@[simp] abbrev zfx (h:ac):Bool:=pc (h.ag.length<=1048576)
@[simp] abbrev zcO (h:ac):LI:=zcj h
def zn2:Run:=rF1 dH λb=>(zfx b,[aS .int<|zcO b])
def zHG (N:Nat)(b:ac):OA:=
 (iter (σ:=(Int×LI×lM×lN×lE×lE×Unit)) N (λc a=>let b:=a.2.2.2.2;let d:=(⟨a.2.2.1,a.2.2.2.1,b.1,b.2.1⟩:ac); (cond (ilt a.1<|ln a.2.2.1) (oN (zft d a.1)<|cond (ilt (zdw d a.1) 0) (oN (few<|ln<|ap a.2.1 [a.1])<|c (zO .i64 a.1 1,ap a.2.1 [a.1],a.2.2.1,a.2.2.2.1,b.1,b.2.1,()))<|c (zO .i64 a.1 1,a.2.1,a.2.2.1,a.2.2.2.1,b.1,b.2.1,()))<|some [aS .int a.2.1])) (0,[],b.ag,b.aa,b.ao,b.an,()))
def zT4:=zu [(88,0,{n:=28,tm:=[(1,.lp 0 0),(3,.sl 0 []),(4,ti)],lo:=[(0,[.sl 1 [],.sl 2 [],.sl 3 [],.sl 4 []])],ro:=[(0,.int,true),(1,.sl .int,false),(2,.mon,false),(3,.entry,false),(4,.entry,false)]})]
def zSn (a:ac)(f:zfx a=true):∃N,zHG N a=some [aS .int<|zcO a]:=by
 have g:=zN.1 f;have e:=zcP g;refine zct λN d=>?_;unfold zHG oN;conv=>zeta
 refine(zbo a.ag (λi (t:LI)=>((i:Int),t,a.ag,a.aa,a.ao,a.an,())) _ (λi (_:LI) (t:LI) b=>bif ilt (zbK a (i:Int)).1 0 then (cond (few<|ln<|ap t [(i:Int)]) (b<|ap t [(i:Int)]) none) else b t) (λ(t:LI)=>some [.one<|.s .int t]) (λi c t rec=>?_) (λt rec=>?_) _ ([])<|d e.1).trans ?_;{simp only [zbx c,zbe c,zbl c,zbg c e.1,cT]};{simp only [zbp,cF]};rw[zwl λi (t:LI) b=>bif ilt (zbK a (i:Int)).1 0 then (cond (few<|ln<|ap t [(i:Int)]) (b<|ap t [(i:Int)]) none) else b t];exact zx6 (λi=>ilt (zbK a (i:Int)).1 0) _ _ 0 [] (by simpa using e.2)
def zLH:vM 88 zn2:=kF1 zsP zC zA zeO zT4 zSn
def zHt (N:Nat)(b:ac):OA:=
 (iter (σ:=(Int×Int×LI×lM×lN×lE×lE×Unit)) N (λd a=>let b:=a.2.2.2.2;let c:=b.2.2.1;let e:=(⟨a.2.2.2.1,b.1,b.2.1,c⟩:ac); (cond (ilt a.2.1 a.1) (oN (zft e a.2.1)<|cond (ilt (zdw e a.2.1) 0) (oN (few<|ln<|ap a.2.2.1 [a.2.1])<|d (a.1,zO .i64 a.2.1 1,ap a.2.2.1 [a.2.1],a.2.2.2.1,b.1,b.2.1,c,()))<|d (a.1,zO .i64 a.2.1 1,a.2.2.1,a.2.2.2.1,b.1,b.2.1,c,()))<|some [aS .int a.2.2.1])) (ln b.ag,0,[],b.ag,b.aa,b.ao,b.an,()))
def zTY:=zu [(80,0,{n:=28,tm:=[(1,.lp 0 0),(3,.sl 0 []),(10,ti),(11,ti)],lo:=[(0,[.sl 1 [],.sl 2 [],.sl 3 [],.sl 4 []])],ro:=[(0,.int,true),(1,.sl .int,false),(2,.mon,false),(3,.entry,false),(4,.entry,false)]})]
def zSb (a:ac)(f:zfx a=true):∃N,zHt N a=some [aS .int<|zcO a]:=by
 have g:=zN.1 f;have e:=zcP g;refine zct λN d=>?_;unfold zHt oN;conv=>zeta
 refine(zbo a.ag (λi (t:LI)=>(ln a.ag,(i:Int),t,a.ag,a.aa,a.ao,a.an,())) _ (λi (_:LI) (t:LI) b=>bif ilt (zbK a (i:Int)).1 0 then (cond (few<|ln<|ap t [(i:Int)]) (b<|ap t [(i:Int)]) none) else b t) (λ(t:LI)=>some [.one<|.s .int t]) (λi c t rec=>?_) (λt rec=>?_) _ ([])<|d e.1).trans ?_;{simp only [zbx c,zbe c,zbl c,zbg c e.1,cT]};{simp only [zbp,cF]};rw[zwl λi (t:LI) b=>bif ilt (zbK a (i:Int)).1 0 then (cond (few<|ln<|ap t [(i:Int)]) (b<|ap t [(i:Int)]) none) else b t];exact zx6 (λi=>ilt (zbK a (i:Int)).1 0) _ _ 0 [] (by simpa using e.2)
def zLt:vM 80 zn2:=kF1 zsP zC zA zeO zTY zSb
def zin (m:List LI)(p:Int)(c:LI):List LI:=bif i0 p (ln m) then (cond (zcq c) (up m p c) m) else m
@[simp] abbrev zfz (m:List LI)(p:Int)(c:LI):Bool:=pc (SmM m/\c.length<=1048576)
@[simp] abbrev zeB (m:List LI)(p:Int)(c:LI):List LI:=zin m p c
def zlv:Run:=rF3 (dS<|.sl .int) dI (dS .int) λb c d=>(zfz b c d,[aS (.sl .int)<|zeB b c d])
def zAJ (N:Nat)(a:lM)(b:Int)(c:LI):OA:=
 (oN (zgc a)<|oN (zM b 0<|wsub .i64 (ln a) 1)<|cond (zi b 0<|wsub .i64 (ln a) 1) (oN (zdA c)<|cond (zc0 c) (oN (few<|ln<|ap [] c)<|oN (inb b<|ln<|zeJ a)<|p0 (up (zeJ a) b<|ap [] c) λd=>some [aS (.sl .int) d])<|some [aS (.sl .int)<|zeJ a])<|some [aS (.sl .int)<|zeJ a])
def zMM (b:List LI)(a:Int)(c:LI)(g:zfz b a c=true):∃N,zAJ N b a c=some [aS (.sl .int)<|zeB b a c]:=by obtain⟨e,d⟩:=zN.1 g;refine⟨0,?_⟩;unfold zAJ zeB zin oN;refine j0 (zbD<|(zpb _).2 e) (j0 rfl ?_);rw[show zi a 0 (wsub .i64 (ln b) 1)=i0 a (ln b) from zpN e.1 a];cases f:i0 a (ln b);{rfl};{simp only [cT,zdA,zc0];cases h:zcq c;{rfl};{refine j0 rfl (j0 (zna d)<|j0 (zI f) ?_);rw[zlT];rfl}}
def zGr:vM 91 zlv:=kF3 zsP zC zA zeO (zu []) zMM
def zAi (N:Nat)(a:lM)(b:Int)(c:LI):OA:=
 (oN (zh5 a)<|oN (zcr b<|ln a)<|cond (zj7 b<|ln a) (oN (zdA c)<|cond (zc0 c) (oN (zd6 c)<|oN (inb b<|ln<|zfL a)<|p0 (up (zfL a) b<|zd3 c) λd=>some [aS (.sl .int) d])<|some [aS (.sl .int)<|zfL a])<|some [aS (.sl .int)<|zfL a])
def zMh (a:List LI)(b:Int)(c:LI)(f:zfz a b c=true):∃N,zAi N a b c=some [aS (.sl .int)<|zeB a b c]:=by obtain⟨g,d⟩:=zN.1 f;refine⟨0,?_⟩;unfold zAi zeB zin oN;refine j0 (zbD g) (j0 rfl ?_);rw[show zj7 b (ln a)=i0 b (ln a) from rfl];cases e:i0 b (ln a);{rfl};{simp only [cT,zdA,zc0];cases h:zcq c;{rfl};{refine j0 rfl (j0 (zbD<|qS d (by decide)) (j0 (zI e) rfl))}}
def zF0:vM 82 zlv:=kF3 zsP zC zA zeO (zu []) zMh
def zpX:zW:=[(88,zn2),(80,zn2),(91,zlv),(82,zlv)]++z4M
def zh1:zL zpX:=zh zLH (zh zLt<|zh zGr<|zh zF0 zsP)
end
end Go.Proofs.YtklhnfomjjnjjaaGreat.E
