/- What is proved here: a part of the proof that the statement of this claim holds (several texts of wip/, laid together). -/
import Derived.Test.YthdlghbibaoabaaGreatV3
namespace Go.Proofs.YthdlghbibaoabaaGreat.E
open Go
set_option linter.unusedVariables false
set_option maxRecDepth 100000
set_option linter.unusedSimpArgs false
set_option linter.unusedSectionVars false
noncomputable section
def zN (_ _ _:Int):Bool:=true
def zS (x a b:Int):Bool:=ige x a&&ile x b
def zFK:Run:=rF3 dI dI dI fun b c d=>(zN b c d,[aB (zS b c d)])
def zNQ (N:Nat)(a0 a1 a2:Int):OA:=
 (cond (ige a0 a1) (some [(aB (ile a0 a2))]) oF)
theorem zVi (a0 a1 a2:Int)(hc:zN a0 a1 a2=true):∃N,zNQ N a0 a1 a2=some [aB (zS a0 a1 a2)]:=by refine⟨0,?_⟩;unfold zNQ zS;cases ige a0 a1<;>rfl
theorem zPg:vL 87 zFK:=kF3 zr5 zV zG zx (zy []) zVi
def zff (_ _:Int):Bool:=true
abbrev zf6 (i n:Int):Bool:=hasB i n
def zOH:Run:=rF2 dI dI fun b c=>(zff b c,[aB (zf6 b c)])
def zV7 (N:Nat)(a0 a1:Int):OA:=
 (cond (ige a0 0) (some [(aB (ilt a0 a1))]) oF)
theorem z0s (a0 a1:Int)(hc:zff a0 a1=true):∃N,zV7 N a0 a1=some [aB (zf6 a0 a1)]:=by refine⟨0,?_⟩;unfold zV7 zf6;rw[<- has_eq];cases ige a0 0<;>rfl
theorem zUU:vL 55 zOH:=kF2 zr5 zV zG zx (zy []) z0s
theorem zBL {n:Nat}(hn:n<=big)(i:Int):zS i 0 (wsub .i64 (n:Int) 1)=hasB i n:=by rw[zom]at hn;rw[zxJ (by omega) (by omega)];unfold zS ige ile hasB;by_cases h1:0<=i<;>by_cases h2:i<n;{rw [qL (p:=i≥0) (by omega),qL (p:=i<=(n:Int)-1) (by omega),qL (p:=0<=i/\i<(n:Int)) ⟨h1,h2⟩];rfl};{rw [qS (p:=i<=(n:Int)-1) (by omega),qS (p:=0<=i/\i<(n:Int)) (by omega)];simp};{rw [qS (p:=i≥0) (by omega),qS (p:=0<=i/\i<(n:Int)) (by omega)];simp};{rw [qS (p:=i≥0) (by omega),qS (p:=0<=i/\i<(n:Int)) (by omega)];simp}
def zfv (l:List (List Int)):Bool:=pc (CVB sm (.s (.sl .int) l))
abbrev zd3 (l:List (List Int)):List (List Int):=l
def zz4:Run:=rF1 (dS (.sl .int)) fun b=>(zfv b,[aS (.sl .int) (zd3 b)])
def zE1 (N:Nat)(a0:lM):OA:=
 (iter (σ:=(Int×(lM×(lM×Unit)))) N (fun r2 s3=>let y0:=(ap [] (ix s3.2.1 s3.1 [])); (cond (ilt s3.1 (ln s3.2.1)) (oN (inb s3.1 (ln s3.2.1)) (oN (few (ln y0)) (oN (few (ln (ap s3.2.2.1 [y0]))) (r2 ((zK .i64 s3.1 1),(s3.2.1,((ap s3.2.2.1 [y0]),()))))))) (some [(aS (.sl .int) s3.2.2.1)]))) (0,(a0,([],()))))
def zQp:FuncId->Nat->Option Tmpl:=zy [(131,0,{n:=22,tm:=[(0,.sl 0 []),(3,.sl 1 []),(4,ti)],lo:=[],ro:=[(0,(.sl .int),false),(1,(.sl .int),true)]})]
theorem zPR (a0:List (List Int))(hc:zfv a0=true):∃N,zE1 N a0=some [aS (.sl .int) (zd3 a0)]:=by
 have hs:=zQ.1 hc;have hl:=zcC hs.len;refine⟨a0.length+1,?_⟩;unfold zE1 oN;conv=>zeta
 refine(zbn a0 (fun i acc=>((i:Int),(a0,(acc,())))) _ (fun _ x acc k=>bif few (ln x) then (cond (few (ln (ap acc [x]))) (k (ap acc [x])) none) else none) (fun acc=>some [AV.one (.s (.sl .int) acc)])
  (fun i hi t rec=>?_) (fun t rec=>?_) _ [] (kH _)).trans ((zok (fun x=>few (ln x)) (fun x=>x) _ a0 0 [] (fun x hx=>⟨zf1 (zcC (hs.inv.2 x hx _ (qG.2 rfl)).len).2,rfl⟩) (by simpa using hl.2)))
 {simp only [zbS hi,zbq hi,zbA hi,cT,zbk hi hl.1,ziJ]};{simp only [zbJ,cF]}
theorem zJp:vL 131 zz4:=kF1 zr5 zV zG zx zQp zPR
abbrev zfw (k:Kept):Bool:=pc (∀c∈Ty.cells .kept k,CVB sm c)
abbrev zdh (k:Kept):Kept:=k
def zz5:Run:=rF1 (dT .kept) fun b=>(zfw b,[aT .kept (zdh b)])
def zE2 (N:Nat)(a0:Kept):OA:=
 (oN (few (ln (ap [] a0.Known))) (oN (few (ln (ap [] a0.Slots))) (some [(.agg [(.s .bool (ap [] a0.Known)),(.s .slot (ap [] a0.Slots))])])))
theorem zPS (a0:Kept)(hc:zfw a0=true):∃N,zE2 N a0=some [aT .kept (zdh a0)]:=by have h:=zQ.1 hc;have h1:=zle (h (.s .bool a0.Known) (by simp[Ty.cells]));have h2:=zle (h (.s .slot a0.Slots) (by simp[Ty.cells]));refine⟨0,?_⟩;simp only[zE2,ziJ,h1,h2,cT];rfl
theorem zJr:vL 197 zz5:=kF1 zr5 zV zG zx (zy []) zPS
def zda (g:Guest):Bool:=pc (∀c∈Ty.cells .guest g,CVB sm c)
abbrev zcW (g:Guest):Guest:=g
def zz6:Run:=rF1 (dT .guest) fun b=>(zda b,[aT .guest (zcW b)])
def zE3 (N:Nat)(a0:Guest):OA:=
 (oN (few (ln (ap [] a0.Prog))) (oN (few (ln (ap [] a0.Written))) (oN (few (ln (ap [] a0.Live))) (oN (few (ln (ap [] a0.Seen))) (some [(.agg [(.s .ins (ap [] a0.Prog)),(.i .i64 a0.A),(.i .i64 a0.Pc),(.s .slot (ap [] a0.Written)),(.s .slot (ap [] a0.Live)),(.i .i64 a0.Ctl.Traps),(.i .i64 a0.Ctl.Post),(.b a0.Ctl.Open),(.i .i64 a0.Pending),(.i .i64 a0.Exit.Kind),(.i .i64 a0.Exit.Page),(.b a0.Exit.Write),(.i .i64 a0.Exit.N),(.b a0.Halted),(.s .int (ap [] a0.Seen))])])))))
theorem zPT (a0:Guest)(hc:zda a0=true):∃N,zE3 N a0=some [aT .guest (zcW a0)]:=by have h:=zQ.1 hc;have h1:=zle (h (.s .ins a0.Prog) (by simp[Ty.cells]));have h2:=zle (h (.s .slot a0.Written) (by simp[Ty.cells]));have h3:=zle (h (.s .slot a0.Live) (by simp[Ty.cells]));have h4:=zle (h (.s .int a0.Seen) (by simp[Ty.cells]));refine⟨0,?_⟩;simp only[zE3,ziJ,h1,h2,h3,h4,cT];rfl
theorem zJv:vL 272 zz6:=kF1 zr5 zV zG zx (zy []) zPT
def z4r:zZ:=[(87,zFK),(55,zOH),(131,zz4),(197,zz5),(272,zz6)]++z8r
theorem zRg:zL z4r:=zi zPg (zi zUU (zi zJp (zi zJr (zi zJv zr5))))
def ze6 (l:List Guest):Bool:=pc (CVB sm (.s .guest l))
abbrev zfy (l:List Guest):List Guest:=l
def zuL:Run:=rF1 (dS .guest) fun b=>(ze6 b,[aS .guest (zfy b)])
def zzs (N:Nat)(a0:lG):OA:=
 (iter (σ:=(Int×(lG×(lG×Unit)))) N (fun r2 s3=>let y0:=(ix s3.2.1 s3.1 zD); (cond (ilt s3.1 (ln s3.2.1)) (oN (inb s3.1 (ln s3.2.1)) (oN (zda y0) (oN (few (ln (ap s3.2.2.1 [(zcW y0)]))) (r2 ((zK .i64 s3.1 1),(s3.2.1,((ap s3.2.2.1 [(zcW y0)]),()))))))) (some [(aS .guest s3.2.2.1)]))) (0,(a0,([],()))))
def zLb:FuncId->Nat->Option Tmpl:=zy [(196,0,{n:=21,tm:=[(0,.sl 0 []),(3,.sl 1 []),(4,ti)],lo:=[],ro:=[(0,.guest,false),(1,.guest,true)]})]
theorem zJ4 (a0:List Guest)(hc:ze6 a0=true):∃N,zzs N a0=some [aS .guest (zfy a0)]:=by
 have hs:=zQ.1 hc;have hl:=zcC hs.len;refine⟨a0.length+1,?_⟩;unfold zzs oN;conv=>zeta
 refine(zbn a0 (fun i acc=>((i:Int),(a0,(acc,())))) _ (fun _ x acc k=>bif zda x then (cond (few (ln (ap acc [zcW x]))) (k (ap acc [zcW x])) none) else none) (fun acc=>some [AV.one (.s .guest acc)])
  (fun i hi t rec=>?_) (fun t rec=>?_) _ [] (kH _)).trans ((zok zda zcW _ a0 0 [] (fun x hx=>⟨zbf (hs.inv.2 x hx),rfl⟩) (by simpa using hl.2)))
 {simp only [zbS hi,zbq hi,zbA hi,cT,zbk hi hl.1]};{simp only [zbJ,cF]}
theorem zEc:vL 196 zuL:=kF1 zRg zV zG zx zLb zJ4
def z4s:zZ:=[(196,zuL)]++z4r
theorem zRh:zL z4s:=zi zEc zRg
abbrev ziC (m:Mon):Bool:=pc (∀c∈Ty.cells .mon m,CVB sm c)
abbrev zmi (m:Mon):Mon:=m
def zCB:Run:=rF1 (dT .mon) fun b=>(ziC b,[aT .mon (zmi b)])
def zIq (N:Nat)(a0:Mon):OA:=
 (oN (few (ln (ap [] a0.Outer))) (oN (zfv a0.Out) (oN (few (ln (ap [] a0.Dirty))) (oN (ze6 a0.Guests) (oN (few (ln (ap [] a0.Outs))) (iter (σ:=(Int×(Int×(Int×(Int×(Int×(Int×(Int×(lK×(lS×(lM×(lB×(lG×((List Int)×(lK×(lS×(lM×(lB×(lG×((List Int)×(lK×Unit))))))))))))))))))))) N (fun r2 s3=>let y2:=s3.2.2.2.2.2.2.2.2.2.2.2.2.1;let y0:=s3.2.2.2.2.2.2.2.2.2.2.2.2.2.1;let y1:=(ap s3.2.2.2.2.2.2.2.1 [(zdh (ix y0 s3.1 zgJ))]); (cond (ilt s3.1 (ln y0)) (oN (inb s3.1 (ln y0)) (oN (zfw (ix y0 s3.1 zgJ)) (oN (few (ln y1)) (r2 ((zK .i64 s3.1 1),(s3.2.1,(s3.2.2.1,(s3.2.2.2.1,(s3.2.2.2.2.1,(s3.2.2.2.2.2.1,(s3.2.2.2.2.2.2.1,(y1,(s3.2.2.2.2.2.2.2.2.1,(s3.2.2.2.2.2.2.2.2.2.1,(s3.2.2.2.2.2.2.2.2.2.2.1,(s3.2.2.2.2.2.2.2.2.2.2.2.1,(y2,(y0,(s3.2.2.2.2.2.2.2.2.2.2.2.2.2.2.1,(s3.2.2.2.2.2.2.2.2.2.2.2.2.2.2.2.1,(s3.2.2.2.2.2.2.2.2.2.2.2.2.2.2.2.2.1,(s3.2.2.2.2.2.2.2.2.2.2.2.2.2.2.2.2.2.1,(s3.2.2.2.2.2.2.2.2.2.2.2.2.2.2.2.2.2.2.1,(s3.2.2.2.2.2.2.2.2.2.2.2.2.2.2.2.2.2.2.2.1,())))))))))))))))))))))))) (some [(.agg [(.s .slot s3.2.2.2.2.2.2.2.2.1),(.s (.sl .int) s3.2.2.2.2.2.2.2.2.2.1),(.s .bool s3.2.2.2.2.2.2.2.2.2.2.1),(.s .guest s3.2.2.2.2.2.2.2.2.2.2.2.1),(.s .int y2),(.i .i64 s3.2.1),(.i .i64 s3.2.2.1),(.s .kept s3.2.2.2.2.2.2.2.1),(.i .i64 s3.2.2.2.1)])]))) (0,(a0.Pending,(a0.Traps,(a0.Own,(0,(0,(0,([],((ap [] a0.Outer),((zd3 a0.Out),((ap [] a0.Dirty),((zfy a0.Guests),((ap [] a0.Outs),(a0.Tables,([],([],([],([],([],([],()))))))))))))))))))))))))))
def zUl:FuncId->Nat->Option Tmpl:=zy [(117,0,{n:=48,tm:=[(1,.lp 0 0),(2,.lp 1 0),(3,.sl 0 []),(4,ti)],lo:=[(0,[.sl 1 [],.sl 2 [],.sl 3 [],.sl 4 [],.sl 5 [],ti,ti,.sl 6 [],ti]),(1,[.sl 7 [],.sl 8 [],.sl 9 [],.sl 10 [],.sl 11 [],ti,ti,.sl 12 [],ti])],ro:=[(0,.kept,true),(1,.slot,true),(2,(.sl .int),true),(3,.bool,true),(4,.guest,true),(5,.int,true),(6,.kept,false),(7,.slot,true),(8,(.sl .int),true),(9,.bool,true),(10,.guest,true),(11,.int,true),(12,.kept,true)]})]
theorem zSI (a0:Mon)(hc:ziC a0=true):∃N,zIq N a0=some [aT .mon (zmi a0)]:=by
 have h:=zQ.1 hc;have h1:=zle (h (.s .slot a0.Outer) (by simp[Ty.cells]));have h2:zfv a0.Out=true:=zbf (h (.s (.sl .int) a0.Out) (by simp[Ty.cells]));have h3:=zle (h (.s .bool a0.Dirty) (by simp[Ty.cells]));have h4:ze6 a0.Guests=true:=zbf (h (.s .guest a0.Guests) (by simp[Ty.cells]));have h5:=zle (h (.s .int a0.Outs) (by simp[Ty.cells]));have h6:CVB sm (.s .kept a0.Tables):=h (.s .kept a0.Tables) (by simp[Ty.cells]);have hl:=zcC h6.len;refine⟨a0.Tables.length+1,?_⟩;unfold zIq oN;conv=>zeta
 simp only[ziJ,h1,h2,h3,h4,h5,cT];refine(zbn a0.Tables (fun i acc=>((i:Int),a0.Pending,a0.Traps,a0.Own,0,0,0,acc,a0.Outer,zd3 a0.Out,a0.Dirty,zfy a0.Guests,a0.Outs,a0.Tables,[],[],[],[],[],[],())) _
  (fun _ x acc k=>bif zfw x then (cond (few (ln (ap acc [zdh x]))) (k (ap acc [zdh x])) none) else none) (fun acc=>some [AV.agg (Ty.cells .mon ⟨a0.Outer,a0.Out,a0.Dirty,a0.Guests,a0.Outs,a0.Pending,a0.Traps,acc,a0.Own⟩)])
  (fun i hi t rec=>?_) (fun t rec=>?_) _ [] (kH _)).trans ((zok zfw zdh _ a0.Tables 0 [] (fun x hx=>⟨zbf (h6.inv.2 x hx),rfl⟩) (by simpa using hl.2)))
 {simp only [zbS hi,zbq hi,zbA hi,cT,zbk hi hl.1]};{simp only [zbJ,cF];rfl}
theorem zMd:vL 117 zCB:=kF1 zRh zV zG zx zUl zSI
def z4t:zZ:=[(117,zCB)]++z4s
theorem zx5:zL z4t:=zi zMd zRh
def zge (h:Host)(_:Int):Bool:=pc (zb2 h)
def zbO (h:Host)(m:Int):Mon:=bif hasB m (ln h.Mons) then ix h.Mons m zh else Ty.dflt .mon
def zCL (h:Host)(m:Int):Bool:=hasB m (ln h.Mons)
def zFE:Run:=rF2 dH dI fun b c=>(zge b c,[aT .mon (zbO b c),aB (zCL b c)])
def zNJ (N:Nat)(a0:Host)(a1:Int):OA:=
 let y1:=(ix a0.Mons a1 zh);let y0:=(zmi y1); (oN (zN a1 0 (wsub .i64 (ln a0.Mons) 1)) (cond (nB (zS a1 0 (wsub .i64 (ln a0.Mons) 1))) (some [(.agg [(.s .slot []),(.s (.sl .int) []),(.s .bool []),(.s .guest []),(.s .int []),(.i .i64 0),(.i .i64 0),(.s .kept []),(.i .i64 0)]),(aB false)]) (oN (inb a1 (ln a0.Mons)) (oN (ziC y1) (some [(.agg [(.s .slot y0.Outer),(.s (.sl .int) y0.Out),(.s .bool y0.Dirty),(.s .guest y0.Guests),(.s .int y0.Outs),(.i .i64 y0.Pending),(.i .i64 y0.Traps),(.s .kept y0.Tables),(.i .i64 y0.Own)]),(aB true)])))))
theorem zVb (a0:Host)(a1:Int)(hc:zge a0 a1=true):∃N,zNJ N a0 a1=some [aT .mon (zbO a0 a1),aB (zCL a0 a1)]:=by
 have h:=(zQ.1 hc).mons;refine⟨0,?_⟩;unfold zNJ zbO zCL oN nB;conv=>zeta
 have e:zS a1 0 (wsub .i64 (ln a0.Mons) 1)=hasB a1 (ln a0.Mons):=zBL (zcC h.len).1 a1;rw[e];cases hh:hasB a1 (ln a0.Mons);{simp [zN,Ty.cells,Ty.dflt]};{have h2:ziC (ix a0.Mons a1 zh)=true:=zbf (h.inv.2 _ (zbC hh _));simp only[zN,cT,u1,cF,zC hh,h2];rfl}
theorem zPa:vL 57 zFE:=kF2 zx5 zV zG zx (zy []) zVb
def mapped (l:List Slot)(n:Int):Int:=match l with
 |[]=>n
 |s::l=>mapped l (cond (ine s.Page (-1)) (zK .i64 n 1) n)
theorem zyg {ρ:Type}(K:Int->Option ρ):∀(l:List Slot) (i:Nat) (n:Int),
 goL (fun _ (s:Slot) (n:Int) k=>bif ine s.Page (-1) then k (zK .i64 n 1) else k n) K l i n=K (mapped l n)
 |[],_,_=>rfl
 |s::l,i,n=>by simp only[goL,mapped];cases ine s.Page (-1)<;>exact zyg K l _ _
def zyQ (_:List Slot):Bool:=true
def zHD (l:List Slot):Int:=mapped l 0
def zCl:Run:=rF1 (dS .slot) fun b=>(zyQ b,[aI (zHD b)])
def zIa (N:Nat)(a0:lS):OA:=
 (iter (σ:=(Int×(Int×(lS×Unit)))) N (fun r2 s3=>(cond (ilt s3.2.1 (ln s3.2.2.1)) (oN (inb s3.2.1 (ln s3.2.2.1)) (cond (ine (ix s3.2.2.1 s3.2.1 zbc).Page (-1)) (r2 ((zK .i64 s3.1 1),((zK .i64 s3.2.1 1),(s3.2.2.1,())))) (r2 (s3.1,((zK .i64 s3.2.1 1),(s3.2.2.1,())))))) (some [(aI s3.1)]))) (0,(0,(a0,()))))
def zUb:FuncId->Nat->Option Tmpl:=zy [(58,0,{n:=20,tm:=[(0,.sl 0 []),(3,ti),(4,ti)],lo:=[],ro:=[(0,.slot,false)]})]
theorem zSq (a0:List Slot)(hb:zcP big [aS .slot a0])(hc:zyQ a0=true):∃N,zIa N a0=some [aI (zHD a0)]:=by
 have hl:=(len0 hb);refine⟨a0.length+1,?_⟩;unfold zIa oN;refine(zbn a0 (fun i n=>(n,((i:Int),(a0,())))) _ (fun _ (s:Slot) (n:Int) k=>bif ine s.Page (-1) then k (zK .i64 n 1) else k n) (fun n=>some [AV.one (.i .i64 n)])
  (fun i hi n rec=>?_) (fun n rec=>?_) _ 0 (kH _)).trans (zyg _ a0 0 0)
 {simp only [zbS hi,zbq hi,zbA hi,cT,zbk hi hl]};{simp only [zbJ,cF]}
theorem zLP:vL 58 zCl:=hF1 zx5 zV zG zx zUb zSq
def zyo (_:List Slot):Bool:=true
def zG3 (l:List Slot):Int:=mapped l 0
def zB7:Run:=rF1 (dS .slot) fun b=>(zyo b,[aI (zG3 b)])
def zHW (N:Nat)(a0:lS):OA:=
 (iter (σ:=(Int×(Int×(Int×(lS×Unit))))) N (fun r2 s3=>(cond (ilt s3.2.2.1 s3.2.1) (oN (inb s3.2.2.1 (ln s3.2.2.2.1)) (cond (ine (ix s3.2.2.2.1 s3.2.2.1 zbc).Page (-1)) (r2 ((zK .i64 s3.1 1),(s3.2.1,((zK .i64 s3.2.2.1 1),(s3.2.2.2.1,()))))) (r2 (s3.1,(s3.2.1,((zK .i64 s3.2.2.1 1),(s3.2.2.2.1,()))))))) (some [(aI s3.1)]))) (0,((ln a0),(0,(a0,())))))
def zT5:FuncId->Nat->Option Tmpl:=zy [(56,0,{n:=19,tm:=[(3,ti),(6,.sl 0 []),(7,ti),(8,ti)],lo:=[],ro:=[(0,.slot,false)]})]
theorem zSb (a0:List Slot)(hb:zcP big [aS .slot a0])(hc:zyo a0=true):∃N,zHW N a0=some [aI (zG3 a0)]:=by
 have hl:=(len0 hb);refine⟨a0.length+1,?_⟩;unfold zHW oN;refine(zbn a0 (fun i n=>(n,(ln a0,((i:Int),(a0,()))))) _ (fun _ (s:Slot) (n:Int) k=>bif ine s.Page (-1) then k (zK .i64 n 1) else k n) (fun n=>some [AV.one (.i .i64 n)])
  (fun i hi n rec=>?_) (fun n rec=>?_) _ 0 (kH _)).trans (zyg _ a0 0 0)
 {simp only [zbS hi,zbq hi,zbA hi,cT,zbk hi hl]};{simp only [zbJ,cF]}
theorem zLB:vL 56 zB7:=hF1 zx5 zV zG zx zT5 zSb
def z4u:zZ:=[(57,zFE),(58,zCl),(56,zB7)]++z4t
theorem zGi:zL z4u:=zi zPa (zi zLP (zi zLB zx5))
def zgK (h:Host)(m:Int):Int:=bif hasB m (ln h.Mons) then mapped (ix h.Mons m zh).Outer 0 else 0
def zmz (h:Host)(_:Int):Bool:=pc (zb2 h)
def zsc (h:Host)(m:Int):Int:=zgK h m
def zvS:Run:=rF2 dH dI fun b c=>(zmz b c,[aI (zsc b c)])
def zNF (N:Nat)(a0:Host)(a1:Int):OA:=
 (oN (zge a0 a1) (oN (zyQ (zbO a0 a1).Outer) (some [(aI (zHD (zbO a0 a1).Outer))])))
theorem zU7 (a0:Host)(a1:Int)(hc:zmz a0 a1=true):∃N,zNF N a0 a1=some [aI (zsc a0 a1)]:=by refine⟨0,?_⟩;unfold zNF zsc zgK oN;have h1:zge a0 a1=true:=hc;rw[h1];unfold zbO;cases hasB a1 (ln a0.Mons)<;>rfl
theorem zzA:vL 11 zvS:=kF2 zGi zV zG zx (zy []) zU7
def zql (_:Host)(_:Int):Bool:=true
def zr8 (h:Host)(m:Int):Int:=zgK h m
def zvQ:Run:=rF2 dH dI fun b c=>(zql b c,[aI (zr8 b c)])
def zNy (N:Nat)(a0:Host)(a1:Int):OA:=
 let y0:=(ix a0.Mons a1 zh).Outer; (oN (zff a1 (ln a0.Mons)) (cond (nB (zf6 a1 (ln a0.Mons))) (some [(aI 0)]) (oN (inb a1 (ln a0.Mons)) (oN (zyo y0) (some [(aI (zG3 y0))])))))
theorem zUZ (a0:Host)(a1:Int)(hc:zql a0 a1=true):∃N,zNy N a0 a1=some [aI (zr8 a0 a1)]:=by
 refine⟨0,?_⟩;unfold zNy zr8 zgK zf6 oN nB;conv=>zeta
 cases hh:hasB a1 (ln a0.Mons);{rfl};{rw [zC hh];rfl}
theorem zzw:vL 10 zvQ:=kF2 zGi zV zG zx (zy []) zUZ
def z4v:zZ:=[(11,zvS),(10,zvQ)]++z4u
theorem z2h:zL z4v:=zi zzA (zi zzw zGi)
def z8s:zZ:=z4v
theorem zwB:∀f run,zk z8s f=some run->Holds Tryz.prog f run:=z2h
def noSlot:Slot:=⟨-1,0⟩
def zcp:Bool:=true
abbrev zbt:Slot:=noSlot
def zta:Run:=rF0 (zcp,[aT .slot zbt])
def zXd (N:Nat)  : OA :=
 (some [(.agg [(.i .i64 (-1)),(.i .i64 0)])])
theorem zSu  (hc:zcp=true):∃N,zXd N  = some [aT .slot zbt]:=by exact⟨0,rfl⟩
theorem zwK:vL 75 zta:=kF0 zwB zV zG zx (zy []) zSu
def zky:Bool:=true
abbrev zsL:Slot:=noSlot
def zB8:Run:=rF0 (zky,[aT .slot zsL])
def zXb (N:Nat)  : OA :=
 (some [(.agg [(.i .i64 (-1)),(.i .i64 0)])])
theorem zSc  (hc:zky=true):∃N,zXb N  = some [aT .slot zsL]:=by exact⟨0,rfl⟩
theorem zLC:vL 126 zB8:=kF0 zwB zV zG zx (zy []) zSc
def zrD (_ _ _:Int):Bool:=true
def zoy (x a b:Int):Bool:=ige x a&&ile x b
def zCc:Run:=rF3 dI dI dI fun b c d=>(zrD b c d,[aB (zoy b c d)])
def zH0 (N:Nat)(a0 a1 a2:Int):OA:=
 (cond (ige a0 a1) (some [(aB (ile a0 a2))]) oF)
theorem zSg (a0 a1 a2:Int)(hc:zrD a0 a1 a2=true):∃N,zH0 N a0 a1 a2=some [aB (zoy a0 a1 a2)]:=by refine⟨0,?_⟩;unfold zH0 zoy;cases ige a0 a1<;>rfl
theorem zLG:vL 171 zCc:=kF3 zwB zV zG zx (zy []) zSg
def z4x:zZ:=[(75,zta),(126,zB8),(171,zCc)]++z8s
theorem zGj:zL z4x:=zi zwK (zi zLC (zi zLG zwB))
def zcT (r:Int):Bool:=ige r 0&&ile r 3
def zhS (_:Int):Bool:=true
abbrev zf7 (r:Int):Bool:=zcT r
def zxk:Run:=rF1 dI fun b=>(zhS b,[aB (zf7 b)])
def zQS (N:Nat)(a0:Int):OA:=
 (oN (zN a0 0 3) (some [(aB (zS a0 0 3))]))
theorem zMD (a0:Int)(hc:zhS a0=true):∃N,zQS N a0=some [aB (zf7 a0)]:=by exact⟨0,rfl⟩
theorem zGP:vL 119 zxk:=kF1 zGj zV zG zx (zy []) zMD
def zmZ (_:Int):Bool:=true
abbrev zkz (r:Int):Bool:=zcT r
def zw6:Run:=rF1 dI fun b=>(zmZ b,[aB (zkz b)])
def zQO (N:Nat)(a0:Int):OA:=
 (oN (zrD a0 0 3) (some [(aB (zoy a0 0 3))]))
theorem zMl (a0:Int)(hc:zmZ a0=true):∃N,zQO N a0=some [aB (zkz a0)]:=by exact⟨0,rfl⟩
theorem zGA:vL 118 zw6:=kF1 zGj zV zG zx (zy []) zMl
def z4y:zZ:=[(119,zxk),(118,zw6)]++z4x
theorem zss:zL z4y:=zi zGP (zi zGA zGj)
def zdE (a b:Int):Int:=bif zcT a then (cond (zcT b) (wand .i64 a b) 0) else 0
def zoQ (_ _:Int):Bool:=true
abbrev zgC (a b:Int):Int:=zdE a b
def zs3:Run:=rF2 dI dI fun b c=>(zoQ b c,[aI (zgC b c)])
def zwq (N:Nat)(a0 a1:Int):OA:=
 (oN (zhS a0) (cond (nB (zf7 a0)) (some [(aI 0)]) (oN (zhS a1) (cond (nB (zf7 a1)) (some [(aI 0)]) (some [(aI (wand .i64 a0 a1))])))))
theorem zHg (a0 a1:Int)(hc:zoQ a0 a1=true):∃N,zwq N a0 a1=some [aI (zgC a0 a1)]:=by refine⟨0,?_⟩;unfold zwq zgC zdE zf7 oN nB;cases zcT a0<;>cases zcT a1<;>rfl
theorem zBw:vL 331 zs3:=kF2 zss zV zG zx (zy []) zHg
def enough (a b:Int):Bool:=bif zcT a then (cond (zcT b) (ieq (wand .i64 a b) b) false) else false
def zeQ (_ _:Int):Bool:=true
abbrev zfl (a b:Int):Bool:=enough a b
def zCg:Run:=rF2 dI dI fun b c=>(zeQ b c,[aB (zfl b c)])
def zH4 (N:Nat)(a0 a1:Int):OA:=
 (oN (zhS a0) (cond (zf7 a0) (oN (zhS a1) (cond (zf7 a1) (some [(aB (ieq (wand .i64 a0 a1) a1))]) oF)) oF))
theorem zSk (a0 a1:Int)(hc:zeQ a0 a1=true):∃N,zH4 N a0 a1=some [aB (zfl a0 a1)]:=by refine⟨0,?_⟩;unfold zH4 zfl enough zf7 oN;cases zcT a0<;>cases zcT a1<;>rfl
theorem zLK:vL 65 zCg:=kF2 zss zV zG zx (zy []) zSk
def zeK (_ _:Int):Bool:=true
abbrev zfd (a b:Int):Bool:=enough a b
def zB4:Run:=rF2 dI dI fun b c=>(zeK b c,[aB (zfd b c)])
def zHT (N:Nat)(a0 a1:Int):OA:=
 (oN (zmZ a0) (cond (zkz a0) (oN (zmZ a1) (cond (zkz a1) (some [(aB (ieq (wand .i64 a0 a1) a1))]) oF)) oF))
theorem zR8 (a0 a1:Int)(hc:zeK a0 a1=true):∃N,zHT N a0 a1=some [aB (zfd a0 a1)]:=by refine⟨0,?_⟩;unfold zHT zfd enough zkz oN;cases zcT a0<;>cases zcT a1<;>rfl
theorem zLy:vL 64 zB4:=kF2 zss zV zG zx (zy []) zR8
def zbz (t:List Slot)(p:Int):Slot:=bif hasB p (ln t) then ix t p zbc else noSlot
def znE (_:List Slot)(_:Int):Bool:=true
abbrev ziw (t:List Slot)(p:Int):Slot:=zbz t p
def zCt:Run:=rF2 (dS .slot) dI fun b c=>(znE b c,[aT .slot (ziw b c)])
def zIi (N:Nat)(a0:lS)(a1:Int):OA:=
 (oN (zN a1 0 (wsub .i64 (ln a0) 1)) (cond (nB (zS a1 0 (wsub .i64 (ln a0) 1))) (oN zcp (some [(.agg [(.i .i64 zbt.Page),(.i .i64 zbt.Rights)])])) (oN (inb a1 (ln a0)) (some [(.agg [(.i .i64 (ix a0 a1 zbc).Page),(.i .i64 (ix a0 a1 zbc).Rights)])]))))
theorem zSA (a0:List Slot)(a1:Int)(hb:zcP big [aS .slot a0,aI a1])(hc:znE a0 a1=true):∃N,zIi N a0 a1=some [aT .slot (ziw a0 a1)]:=by have hl:=(len0 hb);refine⟨0,?_⟩;unfold zIi ziw zbz oN nB;have e:zS a1 0 (wsub .i64 (ln a0) 1)=hasB a1 (ln a0):=zJK hl a1;rw[e];cases hh:hasB a1 (ln a0);{rfl};{rw [zC hh];rfl}
theorem zLX:vL 285 zCt:=hF2 zss zV zG zx (zy []) zSA
def z4z:zZ:=[(331,zs3),(65,zCg),(64,zB4),(285,zCt)]++z4y
theorem zRi:zL z4z:=zi zBw (zi zLK (zi zLy (zi zLX zss)))
def zc3 (a b:Slot):Bool:=ieq a.Page b.Page&&ieq a.Rights b.Rights
def below' (a b:Slot):Bool:=bif zc3 a noSlot then true else (cond (ieq a.Page b.Page) (enough b.Rights a.Rights) false)
def zbu (s:Slot)(outer:List Slot):Slot :=
 bif ieq s.Page (-1) then noSlot else (cond (ieq (zbz outer s.Page).Page (-1)) noSlot (cond (ieq (zdE s.Rights (zbz outer s.Page).Rights) 0) noSlot ⟨(zbz outer s.Page).Page,zdE s.Rights (zbz outer s.Page).Rights⟩))
def zjv (_:Slot)(_:List Slot):Bool:=true
def zlH (s:Slot)(outer:List Slot):Slot:=zbu s outer
def zrr:Run:=rF2 (dT .slot) (dS .slot) fun b c=>(zjv b c,[aT .slot (zlH b c)])
def ztA (N:Nat)(a0:Slot)(a1:lS):OA:=
 let y0:=(ziw a1 a0.Page); (oN (znE a1 a0.Page) (oN (zoQ a0.Rights y0.Rights) (cond (ieq a0.Page (-1)) (oN zcp (some [(.agg [(.i .i64 zbt.Page),(.i .i64 zbt.Rights)])])) (cond (ieq y0.Page (-1)) (oN zcp (some [(.agg [(.i .i64 zbt.Page),(.i .i64 zbt.Rights)])])) (cond (ieq (zgC a0.Rights y0.Rights) 0) (oN zcp (some [(.agg [(.i .i64 zbt.Page),(.i .i64 zbt.Rights)])])) (some [(.agg [(.i .i64 y0.Page),(.i .i64 (zgC a0.Rights y0.Rights))])]))))))
theorem zEe (a0:Slot)(a1:List Slot)(hc:zjv a0 a1=true):∃N,ztA N a0 a1=some [aT .slot (zlH a0 a1)]:=by
 refine⟨0,?_⟩;unfold ztA zlH zbu ziw zgC oN;conv=>zeta
 cases ieq a0.Page (-1)<;>cases ieq (zbz a1 a0.Page).Page (-1)<;>cases ieq (zdE a0.Rights (zbz a1 a0.Page).Rights) 0<;>rfl
theorem zAs:vL 324 zrr:=kF2 zRi zV zG zx (zy []) zEe
def zdf (x:Int):Int:=bif (ige x 1&&ile x 6) then zUt .i64 (wsub .i64 x 1) 2 else -1
def zdM (x:Int):Int:=bif (ige x 1&&ile x 6) then zpa (wsub .i64 x 1) 2 else -1
def z4A:zZ:=[(324,zrr)]++z4z
theorem z2j:zL z4A:=zi zAs zRi
def z4B:zZ:=z4A
theorem z2k:zL z4B:=z2j
def zcS (h:Host)(e:Entry):Bool :=
 bif hasB (zdf e.Tag) (ln h.Mons) then (bif hasB (zdM e.Tag) (ln (ix h.Mons (zdf e.Tag) zh).Guests) then
  below' ⟨e.Host,e.Rights⟩ (zbu (zbz (ix (ix h.Mons (zdf e.Tag) zh).Guests (zdM e.Tag) zD).Live e.Page) (ix h.Mons (zdf e.Tag) zh).Outer) else false) else false
def z4C:zZ:=z4B
theorem z2l:zL z4C:=z2k
def z8q:zZ:=z4C
theorem zwA:∀f run,zk z8q f=some run->Holds Tryz.prog f run:=z2l
theorem hE (h:Host):(⟨h.Memory,h.Mons,h.Buffer,h.IoBuffer⟩:Host)=h:=rfl
def idxs {α:Type}(p:α->Bool):List α->Nat->List Int
 |[],_=>[]
 |x::l,i=>bif p x then (i:Int)::idxs p l (i+1) else idxs p l (i+1)
theorem zsM {α:Type}(p:α->Bool):∀(l:List α) (i:Nat),(idxs p l i).length<=l.length
 |[],_=>qY _
 |x::l,i=>by have:=zsM p l (i+1);simp only[idxs];cases p x<;>simp<;>omega
theorem zhm {α ρ:Type}(p:α->Bool)(K:List Int->Option ρ):∀(l:List α) (i:Nat) (acc:List Int),acc.length+l.length<=2147483648->
 goL (fun i x acc k=>bif p x then (cond (few (ln (ap acc [(i:Int)]))) (k (ap acc [(i:Int)])) none) else k acc) K l i acc=K (acc++idxs p l i)
 |[],i,acc,_=>by simp[goL,idxs]
 |x::l,i,acc,h=>by simp only[qV]at h;simp only[goL,idxs];cases p x;{simp only [cF];exact zhm p K l (i+1) acc (by omega)};{simp only [cT];rw[zf1 (by simp[ap];omega),cT,zhm p K l (i+1) _ (by simp[ap];omega)];simp[ap]}
def zqM (p:Nat->Bool):Nat->Nat->List Int
 | 0,_=>[]
 |n+1,i=>bif p i then (i:Int)::zqM p n (i+1) else zqM p n (i+1)
theorem zyh {ρ:Type}(p:Nat->Bool)(K:List Int->Option ρ):∀(n i:Nat) (acc:List Int),acc.length+n<=2147483648->
 goN (fun i acc k=>bif p i then (cond (few (ln (ap acc [(i:Int)]))) (k (ap acc [(i:Int)])) none) else k acc) K n i acc=K (acc++zqM p n i)
 | 0,i,acc,_=>by simp[goN,zqM]
 |n+1,i,acc,h=>by simp only[goN,zqM];cases p i;{simp only [cF];exact zyh p K n (i+1) acc (by omega)};{simp only [cT];rw[zf1 (by simp[ap];omega),cT,zyh p K n (i+1) _ (by simp[ap];omega)];simp[ap]}
theorem zSW {h:Host}(hs:zb2 h)(m:Int):∀c∈Ty.cells .mon (zhD h m),CVB sm c:=by unfold zhD;cases hh:hasB m (ln h.Mons);{have e:∀{t:Ty},CVB sm (.s t []):=fun {t}=>.s t [] (jX _) (fun x hx=>by cases hx);intro c hc;simp only[cF,Ty.cells,Ty.dflt,qF,qP,or_false]at hc;rcases hc with rfl|rfl|rfl|rfl|rfl|rfl|rfl|rfl|rfl;all_goals first|exact e|exact .i _ _};{exact hs.mons.inv.2 _ (zbC hh _)}
def zIL (h:Host)(m:Int):List Bool:=(zhD h m).Dirty
theorem zBk {h:Host}(hs:zb2 h)(m:Int):CVB sm (.s .bool (zIL h m)):=zSW hs m (.s .bool (zhD h m).Dirty) (by simp[Ty.cells])
def zrB (h:Host)(_:Int):Bool:=pc (zb2 h)
def zik (h:Host)(m:Int):List Bool:=zIL h m
def zB3:Run:=rF2 dH dI fun b c=>(zrB b c,[aS .bool (zik b c)])
def zHS (N:Nat)(a0:Host)(a1:Int):OA:=
 let y0:=(ap [] (ix a0.Mons a1 zh).Dirty); (oN (zff a1 (ln a0.Mons)) (cond (nB (zf6 a1 (ln a0.Mons))) (some [(aS .bool [])]) (oN (inb a1 (ln a0.Mons)) (oN (few (ln y0)) (some [(aS .bool y0)])))))
theorem zR7 (a0:Host)(a1:Int)(hc:zrB a0 a1=true):∃N,zHS N a0 a1=some [aS .bool (zik a0 a1)]:=by
 have hd:=zBk (zQ.1 hc) a1;refine⟨0,?_⟩;unfold zHS zik zf6 oN nB;conv=>zeta
 unfold zIL zhD at *;cases hh:hasB a1 (ln a0.Mons);{rfl};{rw [hh,cT]at hd;have hf:=zle hd;simp only[zff,cT,cF,zC hh,ziJ,hf]}
theorem zLx:vL 62 zB3:=kF2 zwA zV zG zx (zy []) zR7
def zWj (h:Host)(m:Int):List Int:=idxs (fun b=>b) (zIL h m) 0
def zvV (h:Host)(_:Int):Bool:=pc (zb2 h)
def zuM (h:Host)(m:Int):List Int:=zWj h m
def zqW:Run:=rF2 dH dI fun b c=>(zvV b c,[aS .int (zuM b c)])
def zEI (N:Nat)(a0:Host)(a1:Int):OA:=
 let y0:=(zbO a0 a1); (oN (zge a0 a1) (iter (σ:=(Int×(Int×(Int×(Int×((List Int)×(lS×(lM×(lB×(lG×((List Int)×(lK×Unit)))))))))))) N (fun r3 s4=>let y2:=s4.2.2.2.2.1;let y1:=s4.2.2.2.2.2.2.2.1; (cond (ilt s4.1 (ln y1)) (oN (inb s4.1 (ln y1)) (cond (ix y1 s4.1 false) (oN (few (ln (ap y2 [s4.1]))) (r3 ((zK .i64 s4.1 1),(s4.2.1,(s4.2.2.1,(s4.2.2.2.1,((ap y2 [s4.1]),(s4.2.2.2.2.2.1,(s4.2.2.2.2.2.2.1,(y1,(s4.2.2.2.2.2.2.2.2.1,(s4.2.2.2.2.2.2.2.2.2.1,(s4.2.2.2.2.2.2.2.2.2.2.1,()))))))))))))) (r3 ((zK .i64 s4.1 1),(s4.2.1,(s4.2.2.1,(s4.2.2.2.1,(y2,(s4.2.2.2.2.2.1,(s4.2.2.2.2.2.2.1,(y1,(s4.2.2.2.2.2.2.2.2.1,(s4.2.2.2.2.2.2.2.2.2.1,(s4.2.2.2.2.2.2.2.2.2.2.1,())))))))))))))) (some [(aS .int y2)]))) (0,(y0.Pending,(y0.Traps,(y0.Own,([],(y0.Outer,(y0.Out,(y0.Dirty,(y0.Guests,(y0.Outs,(y0.Tables,())))))))))))))
def zQl:FuncId->Nat->Option Tmpl:=zy [(16,0,{n:=33,tm:=[(5,.sl 0 []),(6,.lp 0 0),(8,ti)],lo:=[(0,[.sl 1 [],.sl 2 [],.sl 3 [],.sl 4 [],.sl 5 [],ti,ti,.sl 6 [],ti])],ro:=[(0,.int,true),(1,.slot,true),(2,(.sl .int),true),(3,.bool,true),(4,.guest,true),(5,.int,true),(6,.kept,true)]})]
theorem zPx (a0:Host)(a1:Int)(hc:zvV a0 a1=true):∃N,zEI N a0 a1=some [aS .int (zuM a0 a1)]:=by
 have hs:=zQ.1 hc;have hd:CVB sm (.s .bool (zbO a0 a1).Dirty):=zBk hs a1;have hl:=zcC hd.len;refine zcG fun N hNN=>?_;unfold zEI oN;conv=>zeta
 rw[show zge a0 a1=true from zbf hs,cT];refine(zbn ((zbO a0 a1).Dirty) (fun i (t:(List Int))=>((i:Int),(zbO a0 a1).Pending,(zbO a0 a1).Traps,(zbO a0 a1).Own,t,(zbO a0 a1).Outer,(zbO a0 a1).Out,(zbO a0 a1).Dirty,(zbO a0 a1).Guests,(zbO a0 a1).Outs,(zbO a0 a1).Tables,())) _ (fun i (x:Bool) (t:List Int) κ=>bif x then (cond (few (ln (ap t [(i:Int)]))) (κ (ap t [(i:Int)])) none) else κ t) (fun (t:(List Int))=>(some [(.one (.s .int t))])) (fun i hi t rec=>?_) (fun t rec=>?_) _ ([]) (hNN hl.1)).trans ?_;{simp only [zbS hi,zbq hi,zbA hi,zbk hi hl.1,cT]};{simp only [zbJ,cF]};exact zhm (fun b=>b) _ _ 0 [] (by simpa using hl.2)
theorem zt9:vL 16 zqW:=kF2 zwA zV zG zx zQl zPx
abbrev znG (l:List Slot)(_:Int):Bool:=pc (l.length<=2147483648)
abbrev zj9 (l:List Slot)(p:Int):List Int:=idxs (fun (s:Slot)=>ieq s.Page p) l 0
def zCx:Run:=rF2 (dS .slot) dI fun b c=>(znG b c,[aS .int (zj9 b c)])
def zIm (N:Nat)(a0:lS)(a1:Int):OA:=
 (iter (σ:=(Int×(Int×(lS×((List Int)×Unit))))) N (fun r3 s4=>(cond (ilt s4.2.1 (ln s4.2.2.1)) (oN (inb s4.2.1 (ln s4.2.2.1)) (cond (ieq (ix s4.2.2.1 s4.2.1 zbc).Page s4.1) (oN (few (ln (ap s4.2.2.2.1 [s4.2.1]))) (r3 (s4.1,((zK .i64 s4.2.1 1),(s4.2.2.1,((ap s4.2.2.2.1 [s4.2.1]),())))))) (r3 (s4.1,((zK .i64 s4.2.1 1),(s4.2.2.1,(s4.2.2.2.1,()))))))) (some [(aS .int s4.2.2.2.1)]))) (a1,(0,(a0,([],())))))
def zUh:FuncId->Nat->Option Tmpl:=zy [(61,0,{n:=26,tm:=[(0,.sl 0 []),(1,ti),(5,.sl 1 []),(6,ti)],lo:=[],ro:=[(0,.slot,false),(1,.int,true)]})]
theorem zSE (a0:List Slot)(a1:Int)(hb:zcP big [aS .slot a0,aI a1])(hc:znG a0 a1=true):∃N,zIm N a0 a1=some [aS .int (zj9 a0 a1)]:=by have hl:=(len0 hb);have hs:=zQ.1 hc;refine zcG fun N hNN=>?_;unfold zIm oN;refine(zbn a0 (fun i (t:(List Int))=>(a1,(i:Int),a0,t,())) _ (fun i (x:Slot) (t:List Int) κ=>bif ieq x.Page a1 then (cond (few (ln (ap t [(i:Int)]))) (κ (ap t [(i:Int)])) none) else κ t) (fun (t:(List Int))=>(some [(.one (.s .int t))])) (fun i hi t rec=>?_) (fun t rec=>?_) _ ([]) (hNN hl)).trans ?_;{simp only [zbS hi,zbq hi,zbA hi,zbk hi hl,cT]};{simp only [zbJ,cF]};exact zhm (fun (s:Slot)=>ieq s.Page a1) _ _ 0 [] (by simpa using hs)
theorem zL1:vL 61 zCx:=hF2 zwA zV zG zx zUh zSE
abbrev zyr (l:List Slot)(_:Int):Bool:=pc (l.length<=2147483648)
abbrev zjP (l:List Slot)(p:Int):List Int:=idxs (fun (s:Slot)=>ieq s.Page p) l 0
def zCb:Run:=rF2 (dS .slot) dI fun b c=>(zyr b c,[aS .int (zjP b c)])
def zHZ (N:Nat)(a0:lS)(a1:Int):OA:=
 (iter (σ:=(Int×(Int×(Int×((List Int)×(lS×Unit)))))) N (fun r3 s4=>let y1:=s4.2.2.2.2.1;let y0:=s4.2.2.1; (cond (ilt y0 s4.2.1) (oN (inb y0 (ln y1)) (cond (ieq (ix y1 y0 zbc).Page s4.1) (oN (few (ln (ap s4.2.2.2.1 [y0]))) (r3 (s4.1,(s4.2.1,((zK .i64 y0 1),((ap s4.2.2.2.1 [y0]),(y1,()))))))) (r3 (s4.1,(s4.2.1,((zK .i64 y0 1),(s4.2.2.2.1,(y1,())))))))) (some [(aS .int s4.2.2.2.1)]))) (a1,((ln a0),(0,([],(a0,()))))))
def zT7:FuncId->Nat->Option Tmpl:=zy [(204,0,{n:=26,tm:=[(1,ti),(5,.sl 0 []),(9,.sl 1 []),(10,ti),(11,ti)],lo:=[],ro:=[(0,.int,true),(1,.slot,false)]})]
theorem zSf (a0:List Slot)(a1:Int)(hb:zcP big [aS .slot a0,aI a1])(hc:zyr a0 a1=true):∃N,zHZ N a0 a1=some [aS .int (zjP a0 a1)]:=by
 have hl:=(len0 hb);have hs:=zQ.1 hc;refine zcG fun N hNN=>?_;unfold zHZ oN;conv=>zeta
 refine(zbn a0 (fun i (t:(List Int))=>(a1,(ln a0),(i:Int),t,a0,())) _ (fun i (x:Slot) (t:List Int) κ=>bif ieq x.Page a1 then (cond (few (ln (ap t [(i:Int)]))) (κ (ap t [(i:Int)])) none) else κ t) (fun (t:(List Int))=>(some [(.one (.s .int t))])) (fun i hi t rec=>?_) (fun t rec=>?_) _ ([]) (hNN hl)).trans ?_;{simp only [zbS hi,zbq hi,zbA hi,zbk hi hl,cT]};{simp only [zbJ,cF]};exact zhm (fun (s:Slot)=>ieq s.Page a1) _ _ 0 [] (by simpa using hs)
theorem zLF:vL 204 zCb:=hF2 zwA zV zG zx zT7 zSf
def z4D:zZ:=[(62,zB3),(16,zqW),(61,zCx),(204,zCb)]++z8q
theorem zRj:zL z4D:=zi zLx (zi zt9 (zi zL1 (zi zLF zwA)))
def zvI (h:Host)(_:Int):Bool:=pc (zb2 h)
def zug (h:Host)(m:Int):List Int:=zWj h m
def zqQ:Run:=rF2 dH dI fun b c=>(zvI b c,[aS .int (zug b c)])
def zEA (N:Nat)(a0:Host)(a1:Int):OA:=
 (oN (zrB a0 a1) (iter (σ:=(Int×(Int×((List Int)×(lB×Unit))))) N (fun r3 s4=>(cond (ilt s4.2.1 s4.1) (oN (inb s4.2.1 (ln s4.2.2.2.1)) (cond (ix s4.2.2.2.1 s4.2.1 false) (oN (few (ln (ap s4.2.2.1 [s4.2.1]))) (r3 (s4.1,((zK .i64 s4.2.1 1),((ap s4.2.2.1 [s4.2.1]),(s4.2.2.2.1,())))))) (r3 (s4.1,((zK .i64 s4.2.1 1),(s4.2.2.1,(s4.2.2.2.1,()))))))) (some [(aS .int s4.2.2.1)]))) ((ln (zik a0 a1)),(0,([],((zik a0 a1),()))))))
def zQi:FuncId->Nat->Option Tmpl:=zy [(15,0,{n:=25,tm:=[(5,.sl 0 []),(11,.sl 1 []),(12,ti),(13,ti)],lo:=[],ro:=[(0,.int,true),(1,.bool,true)]})]
theorem zPp (a0:Host)(a1:Int)(hc:zvI a0 a1=true):∃N,zEA N a0 a1=some [aS .int (zug a0 a1)]:=by have hs:=zQ.1 hc;have hd:CVB sm (.s .bool (zik a0 a1)):=zBk hs a1;have hl:=zcC hd.len;refine zcG fun N hNN=>?_;unfold zEA oN;rw[show zrB a0 a1=true from zbf hs,cT];refine(zbn (zik a0 a1) (fun i (t:(List Int))=>((ln (zik a0 a1)),(i:Int),t,(zik a0 a1),())) _ (fun i (x:Bool) (t:List Int) κ=>bif x then (cond (few (ln (ap t [(i:Int)]))) (κ (ap t [(i:Int)])) none) else κ t) (fun (t:(List Int))=>(some [(.one (.s .int t))])) (fun i hi t rec=>?_) (fun t rec=>?_) _ ([]) (hNN hl.1)).trans ?_;{simp only [zbS hi,zbq hi,zbA hi,zbk hi hl.1,cT]};{simp only [zbJ,cF]};exact zhm (fun b=>b) _ _ 0 [] (by simpa using hl.2)
theorem zt3:vL 15 zqQ:=kF2 zRj zV zG zx zQi zPp
def z4E:zZ:=[(15,zqQ)]++z4D
theorem z2m:zL z4E:=zi zt3 zRj
def z4F:zZ:=z4E
theorem zjF:zL z4F:=z2m
def outOf (h:Host)(m:Int):List Int:=idxs (fun (s:Slot)=>ieq s.Page (-1)) (zhD h m).Outer 0
theorem zyC {h:Host}(hs:zb2 h)(m:Int):CVB sm (.s .slot (zhD h m).Outer):=zSW hs m (.s .slot (zhD h m).Outer) (by simp[Ty.cells])
def zCM (h:Host)(_:Int):Bool:=pc (zb2 h)
def zDF (h:Host)(m:Int):List Int:=outOf h m
def zvT:Run:=rF2 dH dI fun b c=>(zCM b c,[aS .int (zDF b c)])
def zNM (N:Nat)(a0:Host)(a1:Int):OA:=
 let y0:=(ap [] (zj9 (zbO a0 a1).Outer (-1))); (oN (zge a0 a1) (oN (znG (zbO a0 a1).Outer (-1)) (oN (few (ln y0)) (some [(aS .int y0)]))))
theorem zVe (a0:Host)(a1:Int)(hc:zCM a0 a1=true):∃N,zNM N a0 a1=some [aS .int (zDF a0 a1)]:=by
 have hs:=zQ.1 hc;have ho:=zcC (zyC hs a1).len;refine⟨0,?_⟩;unfold zNM oN;conv=>zeta
 have e:zbO a0 a1=zhD a0 a1:=rfl;have h1:znG (zhD a0 a1).Outer (-1)=true:=zbf ho.2;have h2:few (ln (zj9 (zhD a0 a1).Outer (-1)))=true:=zf1 (qT (zsM _ _ _) ho.2);rw[show zge a0 a1=true from zbf hs,cT,e,ziJ,h1,cT,h2,cT];rfl
theorem zzB:vL 14 zvT:=kF2 zjF zV zG zx (zy []) zVe
def zuh (h:Host)(_:Int):Bool:=pc (zb2 h)
def zox (h:Host)(m:Int):List Int:=outOf h m
def zvR:Run:=rF2 dH dI fun b c=>(zuh b c,[aS .int (zox b c)])
def zNz (N:Nat)(a0:Host)(a1:Int):OA:=
 (oN (zff a1 (ln a0.Mons)) (cond (nB (zf6 a1 (ln a0.Mons))) (some [(aS .int [])]) (oN (inb a1 (ln a0.Mons)) (iter (σ:=(Int×(Int×(Int×((List Int)×(lN×Unit)))))) N (fun r3 s4=>let y1:=s4.2.2.1;let y0:=(ix s4.2.2.2.2.1 s4.1 zh).Outer; (cond (ilt y1 s4.2.1) (oN (inb y1 (ln y0)) (cond (ieq (ix y0 y1 zbc).Page (-1)) (oN (few (ln (ap s4.2.2.2.1 [y1]))) (r3 (s4.1,(s4.2.1,((zK .i64 y1 1),((ap s4.2.2.2.1 [y1]),(s4.2.2.2.2.1,()))))))) (r3 (s4.1,(s4.2.1,((zK .i64 y1 1),(s4.2.2.2.1,(s4.2.2.2.2.1,())))))))) (some [(aS .int s4.2.2.2.1)]))) (a1,((ln (ix a0.Mons a1 zh).Outer),(0,([],(a0.Mons,())))))))))
def zVZ:FuncId->Nat->Option Tmpl:=zy [(59,0,{n:=38,tm:=[(2,.fn 60 []),(7,.sl 0 []),(22,.sl 1 [0]),(23,ti),(24,ti)],lo:=[],ro:=[(0,.int,true),(1,.mon,false)]})]
theorem zU0 (a0:Host)(a1:Int)(hc:zuh a0 a1=true):∃N,zNz N a0 a1=some [aS .int (zox a0 a1)]:=by
 have ho:=zcC (zyC (zQ.1 hc) a1).len;refine zcG fun N hNN=>?_;unfold zNz zox zf6 oN nB;conv=>zeta
 unfold outOf zhD at *;cases hh:hasB a1 (ln a0.Mons);{rfl};{rw [hh,cT]at ho;rw[show zff a1 (ln a0.Mons)=true from rfl,cT,cT,cF,zC hh,cT];refine(zbn ((ix a0.Mons a1 zh).Outer) (fun i (t:(List Int))=>(a1,(ln (ix a0.Mons a1 zh).Outer),(i:Int),t,a0.Mons,())) _ (fun i (x:Slot) (t:List Int) κ=>bif ieq x.Page (-1) then (cond (few (ln (ap t [(i:Int)]))) (κ (ap t [(i:Int)])) none) else κ t) (fun (t:(List Int))=>(some [(.one (.s .int t))])) (fun i hi t rec=>?_) (fun t rec=>?_) _ ([]) (hNN ho.1)).trans ?_;{simp only [zbS hi,zbq hi,zbA hi,zbk hi ho.1,cT]};{simp only [zbJ,cF]};exact zhm (fun (s:Slot)=>ieq s.Page (-1)) _ _ 0 [] (by simpa using ho.2)}
theorem zzx:vL 13 zvR:=kF2 zjF zV zG zx zVZ zU0
def zl2 (s:Slot):Bool:=ine s.Page (-1) && !enough s.Rights 2
def zBt (h:Host)(m:Int):List Int:=idxs zl2 (zhD h m).Outer 0
def zq9 (h:Host)(_:Int):Bool:=pc (zb2 h)
def zpB (h:Host)(m:Int):List Int:=zBt h m
def zne:Run:=rF2 dH dI fun b c=>(zq9 b c,[aS .int (zpB b c)])
def zzp (N:Nat)(a0:Host)(a1:Int):OA:=
 let y2:=(zbO a0 a1); (oN (zge a0 a1) (iter (σ:=(Int×(Int×(Int×(Int×((List Int)×(lS×(lM×(lB×(lG×((List Int)×(lK×Unit)))))))))))) N (fun r3 s4=>let y4:=s4.2.2.2.2.1;let y1:=s4.2.2.2.2.2.1;let y3:=(ix y1 s4.1 zbc);let y0:=(r3 ((zK .i64 s4.1 1),(s4.2.1,(s4.2.2.1,(s4.2.2.2.1,(y4,(y1,(s4.2.2.2.2.2.2.1,(s4.2.2.2.2.2.2.2.1,(s4.2.2.2.2.2.2.2.2.1,(s4.2.2.2.2.2.2.2.2.2.1,(s4.2.2.2.2.2.2.2.2.2.2.1,())))))))))))); (cond (ilt s4.1 (ln y1)) (oN (inb s4.1 (ln y1)) (cond (ine y3.Page (-1)) (oN (inb s4.1 (ln y1)) (oN (zeQ y3.Rights 2) (cond (nB (zfl y3.Rights 2)) (oN (few (ln (ap y4 [s4.1]))) (r3 ((zK .i64 s4.1 1),(s4.2.1,(s4.2.2.1,(s4.2.2.2.1,((ap y4 [s4.1]),(y1,(s4.2.2.2.2.2.2.1,(s4.2.2.2.2.2.2.2.1,(s4.2.2.2.2.2.2.2.2.1,(s4.2.2.2.2.2.2.2.2.2.1,(s4.2.2.2.2.2.2.2.2.2.2.1,()))))))))))))) y0))) y0)) (some [(aS .int y4)]))) (0,(y2.Pending,(y2.Traps,(y2.Own,([],(y2.Outer,(y2.Out,(y2.Dirty,(y2.Guests,(y2.Outs,(y2.Tables,())))))))))))))
def zK9:FuncId->Nat->Option Tmpl:=zy [(18,0,{n:=45,tm:=[(5,.sl 0 []),(6,.lp 0 0),(8,ti)],lo:=[(0,[.sl 1 [],.sl 2 [],.sl 3 [],.sl 4 [],.sl 5 [],ti,ti,.sl 6 [],ti])],ro:=[(0,.int,true),(1,.slot,true),(2,(.sl .int),true),(3,.bool,true),(4,.guest,true),(5,.int,true),(6,.kept,true)]})]
theorem zJ1 (a0:Host)(a1:Int)(hc:zq9 a0 a1=true):∃N,zzp N a0 a1=some [aS .int (zpB a0 a1)]:=by
 have hs:=zQ.1 hc;have ho:(zbO a0 a1).Outer.length<=big/\(zbO a0 a1).Outer.length<=2147483648:=zcC (zyC hs a1).len;refine zcG fun N hNN=>?_;unfold zzp oN nB;conv=>zeta
 rw[show zge a0 a1=true from zbf hs,cT];refine(zbn ((zbO a0 a1).Outer) (fun i (t:(List Int))=>((i:Int),(zbO a0 a1).Pending,(zbO a0 a1).Traps,(zbO a0 a1).Own,t,(zbO a0 a1).Outer,(zbO a0 a1).Out,(zbO a0 a1).Dirty,(zbO a0 a1).Guests,(zbO a0 a1).Outs,(zbO a0 a1).Tables,())) _ (fun i (x:Slot) (t:List Int) κ=>bif zl2 x then (cond (few (ln (ap t [(i:Int)]))) (κ (ap t [(i:Int)])) none) else κ t) (fun (t:(List Int))=>(some [(.one (.s .int t))])) (fun i hi t rec=>?_) (fun t rec=>?_) _ ([]) (hNN ho.1)).trans ?_;{simp only [zbS hi,zbq hi,zbA hi,zbk hi ho.1,cT];simp only[zeQ,zfl,zl2,cT];generalize (zbO a0 a1).Outer[i]=s;cases ine s.Page (-1)<;>cases enough s.Rights 2<;>rfl};{simp only [zbJ,cF]};exact zhm zl2 _ _ 0 [] (by simpa using ho.2)
theorem zrn:vL 18 zne:=kF2 zjF zV zG zx zK9 zJ1
def zqI (h:Host)(_:Int):Bool:=pc (zb2 h)
def zlf (h:Host)(m:Int):List Int:=zBt h m
def zm9:Run:=rF2 dH dI fun b c=>(zqI b c,[aS .int (zlf b c)])
def zzg (N:Nat)(a0:Host)(a1:Int):OA:=
 (oN (zff a1 (ln a0.Mons)) (cond (nB (zf6 a1 (ln a0.Mons))) (some [(aS .int [])]) (oN (inb a1 (ln a0.Mons)) (iter (σ:=(Int×(Int×(Int×((List Int)×(lN×Unit)))))) N (fun r3 s4=>let y3:=s4.2.2.1;let y2:=(ix s4.2.2.2.2.1 s4.1 zh).Outer;let y1:=(r3 (s4.1,(s4.2.1,((zK .i64 y3 1),(s4.2.2.2.1,(s4.2.2.2.2.1,()))))));let y0:=(ix y2 y3 zbc); (cond (ilt y3 s4.2.1) (oN (inb y3 (ln y2)) (cond (ine y0.Page (-1)) (oN (zeK y0.Rights 2) (cond (nB (zfd y0.Rights 2)) (oN (few (ln (ap s4.2.2.2.1 [y3]))) (r3 (s4.1,(s4.2.1,((zK .i64 y3 1),((ap s4.2.2.2.1 [y3]),(s4.2.2.2.2.1,()))))))) y1)) y1)) (some [(aS .int s4.2.2.2.1)]))) (a1,((ln (ix a0.Mons a1 zh).Outer),(0,([],(a0.Mons,())))))))))
def zK2:FuncId->Nat->Option Tmpl:=zy [(59,0,{n:=38,tm:=[(2,.fn 63 []),(7,.sl 0 []),(22,.sl 1 [0]),(23,ti),(24,ti)],lo:=[],ro:=[(0,.int,true),(1,.mon,false)]})]
theorem zJO (a0:Host)(a1:Int)(hc:zqI a0 a1=true):∃N,zzg N a0 a1=some [aS .int (zlf a0 a1)]:=by
 have ho:=zcC (zyC (zQ.1 hc) a1).len;refine zcG fun N hNN=>?_;unfold zzg zlf zf6 oN nB;conv=>zeta
 unfold zBt zhD at *;cases hh:hasB a1 (ln a0.Mons);{rfl};{rw [hh,cT]at ho;rw[show zff a1 (ln a0.Mons)=true from rfl,cT,cT,cF,zC hh,cT];refine(zbn ((ix a0.Mons a1 zh).Outer) (fun i (t:(List Int))=>(a1,(ln (ix a0.Mons a1 zh).Outer),(i:Int),t,a0.Mons,())) _ (fun i (x:Slot) (t:List Int) κ=>bif zl2 x then (cond (few (ln (ap t [(i:Int)]))) (κ (ap t [(i:Int)])) none) else κ t) (fun (t:(List Int))=>(some [(.one (.s .int t))])) (fun i hi t rec=>?_) (fun t rec=>?_) _ ([]) (hNN ho.1)).trans ?_;{simp only [zbS hi,zbq hi,zbA hi,zbk hi ho.1,cT];simp only[zC hh,zeK,zfd,zl2,cT];generalize (ix a0.Mons a1 zh).Outer[i]=s;cases ine s.Page (-1)<;>cases enough s.Rights 2<;>rfl};{simp only [zbJ,cF]};exact zhm zl2 _ _ 0 [] (by simpa using ho.2)}
theorem zrk:vL 17 zm9:=kF2 zjF zV zG zx zK2 zJO
theorem zGw {α ρ:Type}(c:Nat->α->Bool)(f:Nat->Int)(K:List Int->Option ρ):∀(l:List α) (i:Nat) (acc:List Int),(∀i,∀x∈l,c i x=true)->acc.length+l.length<=2147483648->
 goL (fun i x acc k=>bif c i x then (cond (few (ln (ap acc [f i]))) (k (ap acc [f i])) none) else none) K l i acc=K (acc++(List.range' i l.length).map f)
 |[],i,acc,_,_=>by simp[goL]
 |x::l,i,acc,hc,h=>by simp only[qV]at h;simp only[goL];rw[hc i x (by simp),cT,zf1 (by simp[ap];omega),cT,zGw c f K l (i+1) _ (fun j y hy=>hc j y (by simp[hy])) (by simp[ap];omega)];simp[ap,u2]
def zdm (h:Host):List Int:=(List.range' 0 h.Mons.length).map fun (i:Nat)=>zgK h (i:Int)
def zv6 (h:Host):Bool:=pc (zb2 h)
def zvf (h:Host):List Int:=zdm h
def zqZ:Run:=rF1 dH fun b=>(zv6 b,[aS .int (zvf b)])
def zEX (N:Nat)(a0:Host):OA:=
 (iter (σ:=(Int×((List Int)×(lM×(lN×(lE×(lE×Unit))))))) N (fun r2 s3=>let y0:=(⟨s3.2.2.1,s3.2.2.2.1,s3.2.2.2.2.1,s3.2.2.2.2.2.1⟩:Host);let y1:=(ap s3.2.1 [(zsc y0 s3.1)]); (cond (ilt s3.1 (ln s3.2.2.2.1)) (oN (zmz y0 s3.1) (oN (few (ln y1)) (r2 ((zK .i64 s3.1 1),(y1,(s3.2.2.1,(s3.2.2.2.1,(s3.2.2.2.2.1,(s3.2.2.2.2.2.1,()))))))))) (some [(aS .int s3.2.1)]))) (0,([],(a0.Memory,(a0.Mons,(a0.Buffer,(a0.IoBuffer,())))))))
def zQn:FuncId->Nat->Option Tmpl:=zy [(20,0,{n:=20,tm:=[(1,.lp 0 0),(3,.sl 0 []),(4,ti)],lo:=[(0,[.sl 1 [],.sl 2 [],.sl 3 [],.sl 4 []])],ro:=[(0,.int,true),(1,(.sl .int),false),(2,.mon,false),(3,.entry,false),(4,.entry,false)]})]
theorem zPN (a0:Host)(hc:zv6 a0=true):∃N,zEX N a0=some [aS .int (zvf a0)]:=by
 have hs:=zQ.1 hc;have hl:=zcC hs.mons.len;refine zcG fun N hNN=>?_;unfold zEX oN;conv=>zeta
 refine(zbn a0.Mons (fun i (t:(List Int))=>((i:Int),t,a0.Memory,a0.Mons,a0.Buffer,a0.IoBuffer,())) _ (fun i (x:Mon) (t:List Int) κ=>bif zmz a0 (i:Int) then (cond (few (ln (ap t [zgK a0 (i:Int)]))) (κ (ap t [zgK a0 (i:Int)])) none) else none) (fun (t:(List Int))=>(some [(.one (.s .int t))])) (fun i hi t rec=>?_) (fun t rec=>?_) _ ([]) (hNN hl.1)).trans ?_;{simp only [zbS hi,zbq hi,zbA hi,zbk hi hl.1,cT];simp only[hE,zsc]};{simp only [zbJ,cF]};exact zGw (fun i _=>zmz a0 (i:Int)) (fun i=>zgK a0 (i:Int)) _ _ 0 [] (fun i x _=>zbf hs) (by simpa using hl.2)
theorem zuf:vL 20 zqZ:=kF1 zjF zV zG zx zQn zPN
def zpm (h:Host):Bool:=pc (zb2 h)
def zg7 (h:Host):List Int:=zdm h
def zqR:Run:=rF1 dH fun b=>(zpm b,[aS .int (zg7 b)])
def zEB (N:Nat)(a0:Host):OA:=
 (iter (σ:=(Int×(Int×((List Int)×(lM×(lN×(lE×(lE×Unit)))))))) N (fun r2 s3=>let y0:=(⟨s3.2.2.2.1,s3.2.2.2.2.1,s3.2.2.2.2.2.1,s3.2.2.2.2.2.2.1⟩:Host);let y1:=(ap s3.2.2.1 [(zr8 y0 s3.2.1)]); (cond (ilt s3.2.1 s3.1) (oN (zql y0 s3.2.1) (oN (few (ln y1)) (r2 (s3.1,((zK .i64 s3.2.1 1),(y1,(s3.2.2.2.1,(s3.2.2.2.2.1,(s3.2.2.2.2.2.1,(s3.2.2.2.2.2.2.1,())))))))))) (some [(aS .int s3.2.2.1)]))) ((ln a0.Mons),(0,([],(a0.Memory,(a0.Mons,(a0.Buffer,(a0.IoBuffer,()))))))))
def zQj:FuncId->Nat->Option Tmpl:=zy [(19,0,{n:=20,tm:=[(1,.lp 0 0),(3,.sl 0 []),(8,ti),(9,ti)],lo:=[(0,[.sl 1 [],.sl 2 [],.sl 3 [],.sl 4 []])],ro:=[(0,.int,true),(1,(.sl .int),false),(2,.mon,false),(3,.entry,false),(4,.entry,false)]})]
theorem zPq (a0:Host)(hc:zpm a0=true):∃N,zEB N a0=some [aS .int (zg7 a0)]:=by
 have hs:=zQ.1 hc;have hl:=zcC hs.mons.len;refine zcG fun N hNN=>?_;unfold zEB oN;conv=>zeta
 refine(zbn a0.Mons (fun i (t:(List Int))=>((ln a0.Mons),(i:Int),t,a0.Memory,a0.Mons,a0.Buffer,a0.IoBuffer,())) _ (fun i (x:Mon) (t:List Int) κ=>bif true then (cond (few (ln (ap t [zgK a0 (i:Int)]))) (κ (ap t [zgK a0 (i:Int)])) none) else none) (fun (t:(List Int))=>(some [(.one (.s .int t))])) (fun i hi t rec=>?_) (fun t rec=>?_) _ ([]) (hNN hl.1)).trans ?_;{simp only [zbS hi,zbq hi,zbA hi,zbk hi hl.1,cT];simp only[hE,zr8,zql,cT]};{simp only [zbJ,cF]};exact zGw (fun i _=>true) (fun i=>zgK a0 (i:Int)) _ _ 0 [] (fun i x _=>rfl) (by simpa using hl.2)
theorem zt4:vL 19 zqR:=kF1 zjF zV zG zx zQj zPq
theorem zDt (x y:Int):ine x y = !ieq x y:=rfl
def zeM (l:List Int):Bool:=pc (l.length<=2147483648)
abbrev zeL (l:List Int):List Int:=l
def zw8:Run:=rF1 (dS .int) fun b=>(zeM b,[aS .int (zeL b)])
def zAF (N:Nat)(a0:List Int):OA:=
 (oN (few (ln (ap [] a0))) (some [(aS .int (ap [] a0))]))
theorem zMn (a0:List Int)(hc:zeM a0=true):∃N,zAF N a0=some [aS .int (zeL a0)]:=by refine⟨0,?_⟩;unfold zAF oN;rw[ziJ,zf1 (zQ.1 hc),cT]
theorem zGC:vL 199 zw8:=kF1 zjF zV zG zx (zy []) zMn
def z4G:zZ:=[(14,zvT),(13,zvR),(18,zne),(17,zm9),(20,zqZ),(19,zqR),(199,zw8)]++z4F
theorem zGk:zL z4G:=zi zzB (zi zzx (zi zrn (zi zrk (zi zuf (zi zt4 (zi zGC zjF))))))
def zzd:List Int:=rp 4 0
def zck (m:List (List Int))(p:Int):List Int:=bif hasB p (ln m) then ix m p [] else zzd
def zyS (m:List (List Int))(_:Int):Bool:=pc (CVB sm (.s (.sl .int) m))
def zyR (m:List (List Int))(p:Int):List Int:=zck m p
theorem z05 {m:List (List Int)}{p:Int}(hs:CVB sm (.s (.sl .int) m))(hh:hasB p (ln m)=true):(ix m p []).length<=2147483648 :=
 (zcC (hs.inv.2 _ (zbC hh ([]:List Int)) (.s .int _) (qG.2 rfl)).len).2
def zCo:Run:=rF2 (dS (.sl .int)) dI fun b c=>(zyS b c,[aS .int (zyR b c)])
def zId (N:Nat)(a0:lM)(a1:Int):OA:=
 (oN (zN a1 0 (wsub .i64 (ln a0) 1)) (cond (nB (zS a1 0 (wsub .i64 (ln a0) 1))) (oN (cond (few 4) (ieq 4 4) false) (some [(aS .int (rp 4 0))])) (oN (inb a1 (ln a0)) (oN (few (ln (ap [] (ix a0 a1 [])))) (some [(aS .int (ap [] (ix a0 a1 [])))])))))
theorem zSv (a0:List (List Int))(a1:Int)(hc:zyS a0 a1=true):∃N,zId N a0 a1=some [aS .int (zyR a0 a1)]:=by have hs:=zQ.1 hc;refine⟨0,?_⟩;unfold zId zyR zck oN nB;have e:zS a1 0 (wsub .i64 (ln a0) 1)=hasB a1 (ln a0):=zJK (zcC hs.len).1 a1;rw[e];cases hh:hasB a1 (ln a0);{rfl};{simp only [zN,cT,cF,zC hh,ziJ,zf1 (z05 hs hh)]}
theorem zLS:vL 132 zCo:=kF2 zGk zV zG zx (zy []) zSv
def zyq (m:List (List Int))(_:Int):Bool:=pc (CVB sm (.s (.sl .int) m))
def zyp (m:List (List Int))(p:Int):List Int:=zck m p
def zB9:Run:=rF2 (dS (.sl .int)) dI fun b c=>(zyq b c,[aS .int (zyp b c)])
def zHX (N:Nat)(a0:lM)(a1:Int):OA:=
 (oN (zff a1 (ln a0)) (cond (nB (zf6 a1 (ln a0))) (oN (cond (few 4) (ieq 4 4) false) (some [(aS .int (rp 4 0))])) (oN (inb a1 (ln a0)) (oN (zeM (ix a0 a1 [])) (some [(aS .int (zeL (ix a0 a1 [])))])))))
theorem zSd (a0:List (List Int))(a1:Int)(hc:zyq a0 a1=true):∃N,zHX N a0 a1=some [aS .int (zyp a0 a1)]:=by have hs:=zQ.1 hc;refine⟨0,?_⟩;unfold zHX zyp zck zf6 oN nB;cases hh:hasB a1 (ln a0);{rfl};{simp only [zff,cT,cF,zC hh,show zeM (ix a0 a1 [])=true from zbf (z05 hs hh),zeL]}
theorem zLD:vL 125 zB9:=kF2 zGk zV zG zx (zy []) zSd
def z4H:zZ:=[(132,zCo),(125,zB9)]++z4G
theorem z2o:zL z4H:=zi zLS (zi zLD zGk)
def zcX (h:Host)(m p:Int):List Int :=
 bif hasB m (ln h.Mons) then (cond (hasB p 8) (cond (ine (zbz (ix h.Mons m zh).Outer p).Page (-1)) (zck h.Memory (zbz (ix h.Mons m zh).Outer p).Page) (zck (ix h.Mons m zh).Out p)) zzd) else zzd
def z4I:zZ:=z4H
theorem z2p:zL z4I:=z2o
def z4J:zZ:=z4I
theorem z2q:zL z4J:=z2p
def z8p:zZ:=z4J
theorem z6E:∀f run,zk z8p f=some run->Holds Tryz.prog f run:=z2q
def z8o:zZ:=z8p
theorem zgm:zL z8o:=z6E
def zoB:zgN:=z3b
theorem zJ:zfB zoB:=zV
def canRun (g:Guest):Bool:=bif (ieq g.Exit.Kind 0&&(ieq g.Exit.Page 0&&(zsp g.Exit.Write false&&ieq g.Exit.N 0))) then !g.Halted else false
def zrM (_:Guest):Bool:=true
abbrev zoR (g:Guest):Bool:=canRun g
def zCe:Run:=rF1 (dT .guest) fun b=>(zrM b,[aB (zoR b)])
def zH2 (N:Nat)(a0:Guest):OA:=
 (cond (cond (ieq a0.Exit.Kind 0) (cond (ieq a0.Exit.Page 0) (cond (zsp a0.Exit.Write false) (ieq a0.Exit.N 0) false) false) false) (some [(aB (nB a0.Halted))]) oF)
theorem zSi (a0:Guest)(hc:zrM a0=true):∃N,zH2 N a0=some [aB (zoR a0)]:=by refine⟨0,?_⟩;unfold zH2 zoR canRun nB;cases ieq a0.Exit.Kind 0<;>cases ieq a0.Exit.Page 0<;>cases zsp a0.Exit.Write false<;>cases ieq a0.Exit.N 0<;>simp
theorem zLI:vL 47 zCe:=kF1 zwB zV zG zx (zy []) zSi
theorem must {ρ:Type}{c:Bool}{a b r:Option ρ}(h:c=true)(k:a=r):(cond c a b)=r:=by rw[h];exact k
theorem mu {ρ:Type}{c:Bool}{a b r:Option ρ}(k:a=r)(h:c=true:=by first|assumption|(simp_all<;>omega)):(cond c a b)=r:=must h k
theorem zdT {ρ:Type}{c:Bool}{a b r:Option ρ}(h:c=false)(k:b=r):(cond c a b)=r:=by rw[h];exact k
theorem br {ρ:Type}{c:Bool}{a b r:Option ρ}(h1:c=true->a=r)(h2:c=false->b=r):(cond c a b)=r:=by cases c;{exact h2 rfl};{exact h1 rfl}
theorem brN {ρ:Type}{c:Bool}{a b r:Option ρ}(h1:c=false->a=r)(h2:c=true->b=r):(cond (cond c false true) a b)=r:=by cases c;{exact h1 rfl};{exact h2 rfl}
theorem shr {α ρ:Type}{x:α}{f:α->Option ρ}{r:Option ρ}(h:f x=r):share x f=r:=h
theorem zoj {ρ:Type}{c p:Bool}{a b:Option ρ}(hc:c=true):(cond c (cond (cond p false true) a b) none)=bif p then b else a:=by rw[hc];cases p<;>rfl
attribute [simp] zQ
@[simp] theorem z6Q {α:Type}(l:List α):(few (ln l)=true)↔l.length<=2147483648:=by unfold few ln;rw[decide_eq_true_iff];omega
@[simp] theorem z9V {α:Type}(l m:List α):(ap l m).length=l.length+m.length:=by simp[ap]
attribute [simp] ziJ zf3
@[simp] theorem z5o (n:Nat)(k:IntKind)(x:Int):CVB n (.i k x)↔True:=⟨fun _=>trivial,fun _=>.i k x⟩
@[simp] theorem z90 (n:Nat)(x:Bool):CVB n (.b x)↔True:=⟨fun _=>trivial,fun _=>.b x⟩
theorem zku {n:Nat}{t:Ty}(l:List t.den):CVB n (.s t l)↔l.length<=n/\∀x∈l,∀c∈t.cells x,CVB n c:=⟨fun h=>h.inv,fun h=>.s t l h.1 h.2⟩
@[simp] theorem zWi (n:Nat)(l:List Int):CVB n (.s .int l)↔l.length<=n:=by rw[zku];simp[Ty.cells]
@[simp] theorem z8u (n:Nat)(l:List Int):CVB n (.s .u8 l)↔l.length<=n:=by rw[zku];simp[Ty.cells]
@[simp] theorem z2A (n:Nat)(l:List Bool):CVB n (.s .bool l)↔l.length<=n:=by rw[zku];simp[Ty.cells]
@[simp] theorem z2C (n:Nat)(l:List Slot):CVB n (.s .slot l)↔l.length<=n:=by rw[zku];simp[Ty.cells]
@[simp] theorem z6G (n:Nat)(l:List Ins):CVB n (.s .ins l)↔l.length<=n:=by rw[zku];simp[Ty.cells]
@[simp] theorem zZY (n:Nat)(l:List Entry):CVB n (.s .entry l)↔l.length<=n:=by rw[zku];simp[Ty.cells]
@[simp] theorem z6F (n:Nat)(l:List GAct):CVB n (.s .act l)↔l.length<=n:=by rw[zku];simp[Ty.cells]
@[simp] theorem z2D (n:Nat)(l:List Told):CVB n (.s .told l)↔l.length<=n:=by rw[zku];simp[Ty.cells]
def SmM (m:List (List Int)):Prop:=m.length<=1048576/\∀x∈m,x.length<=1048576
def SmG (g:Guest):Prop:=g.Prog.length<=1048576/\g.Written.length<=1048576/\g.Live.length<=1048576/\g.Seen.length<=1048576
def zk7 (l:List Guest):Prop:=l.length<=1048576/\∀x∈l,SmG x
def SmB (b:Bare):Prop:=SmM b.Memory/\zk7 b.Guests/\b.Outs.length<=1048576
def zXe (l:List Bare):Prop:=l.length<=1048576/\∀x∈l,SmB x
theorem z3N:sm=1048576:=rfl
@[simp] theorem zXC (l:List Int):CVB sm (.s .int l)↔l.length<=1048576:=zWi sm l
@[simp] theorem z9A (l:List Int):CVB sm (.s .u8 l)↔l.length<=1048576:=z8u sm l
@[simp] theorem zUG (l:List Bool):CVB sm (.s .bool l)↔l.length<=1048576:=z2A sm l
@[simp] theorem zUH (l:List Slot):CVB sm (.s .slot l)↔l.length<=1048576:=z2C sm l
@[simp] theorem z9c (l:List Ins):CVB sm (.s .ins l)↔l.length<=1048576:=z6G sm l
@[simp] theorem zRv (l:List Entry):CVB sm (.s .entry l)↔l.length<=1048576:=zZY sm l
@[simp] theorem z9b (l:List GAct):CVB sm (.s .act l)↔l.length<=1048576:=z6F sm l
@[simp] theorem z8X (l:List Told):CVB sm (.s .told l)↔l.length<=1048576:=z2D sm l
@[simp] theorem zoq (l:List (List Int)):CVB sm (.s (.sl .int) l)↔SmM l:=by rw[zku];simp[Ty.cells,SmM,z3N]
@[simp] theorem z6k (g:Guest):(∀c∈Ty.cells .guest g,CVB sm c)↔SmG g:=by simp[Ty.cells,SmG,z3N]
@[simp] theorem ztT (l:List Guest):CVB sm (.s .guest l)↔zk7 l:=by rw[zku];simp only[z6k];rfl
@[simp] theorem z6j (b:Bare):(∀c∈Ty.cells .bare b,CVB sm c)↔SmB b:=by simp only[Ty.cells,qF,qP,or_false,vG,forall_eq,zoq,ztT,zWi,z5o,and_true];rfl
@[simp] theorem z9F (l:List Bare):CVB sm (.s .bare l)↔zXe l:=by rw[zku];simp only[z6j];rfl
@[simp] theorem z9Y (a:List Ins)(b c:Int)(d e:List Slot)(f:Ctl)(g:Int)(h:GExit)(i:Bool)(j:List Int):SmG ⟨a,b,c,d,e,f,g,h,i,j⟩↔a.length<=1048576/\d.length<=1048576/\e.length<=1048576/\j.length<=1048576:=Iff.rfl
@[simp] theorem z9X (m:List (List Int))(g:List Guest)(o:List Int)(p:Int):SmB ⟨m,g,o,p⟩↔SmM m/\zk7 g/\o.length<=1048576:=Iff.rfl
theorem zKO {m:List (List Int)}{i:Int}{x:List Int}(h:SmM m)(hx:x.length<=1048576):SmM (up m i x):=by refine⟨by simpa using h.1,fun y hy=>?_⟩;rcases qZ hy with hy|rfl;{exact h.2 y hy};{exact hx}
theorem zDI {m:List Guest}{i:Int}{x:Guest}(h:zk7 m)(hx:SmG x):zk7 (up m i x):=by refine⟨by simpa using h.1,fun y hy=>?_⟩;rcases qZ hy with hy|rfl;{exact h.2 y hy};{exact hx}
theorem z7G {m:List Bare}{i:Int}{x:Bare}(h:zXe m)(hx:SmB x):zXe (up m i x):=by refine⟨by simpa using h.1,fun y hy=>?_⟩;rcases qZ hy with hy|rfl;{exact h.2 y hy};{exact hx}
theorem z1q {l:List Guest}{i:Int}(h:zk7 l)(hh:hasB i (ln l)=true)(d:Guest):SmG (ix l i d):=h.2 _ (zbC hh d)
theorem z8S {l:List (List Int)}{i:Int}(h:SmM l)(hh:hasB i (ln l)=true)(d:List Int):(ix l i d).length<=1048576:=h.2 _ (zbC hh d)
@[simp] theorem z9t:SmG zD:=⟨by decide,by decide,by decide,by decide⟩
def win (x a b:Int):Bool:=ige x a&&ile x b
@[simp] theorem zQL (x a b:Int):zS x a b=win x a b:=rfl
@[simp] theorem z92 (x a b:Int):zoy x a b=win x a b:=rfl
@[simp] theorem zR0 (i n:Int):inb i n=hasB i n:=rfl
attribute [simp] zf6
@[simp] theorem zo9 {α:Type}{l:List α}(h:l.length<=1048576)(i:Int):win i 0 (wsub .i64 (ln l) 1)=hasB i (ln l):=zBL (zcC h).1 i
theorem zHR {α:Type}{l:List α}(h:l.length<=big)(i:Int):win i 0 (wsub .i64 (ln l) 1)=hasB i (ln l):=zBL h i
theorem zfp {x a b:Int}:(win x a b=true)↔a<=x/\x<=b:=by unfold win ige ile;simp only[qD,decide_eq_true_iff]
theorem z7c (a b:Int):ilt a b = !ige a b:=by unfold ilt ige;by_cases h:a<b;{rw [qL h,qS (by omega)];rfl};{rw [qS h,qL (by omega)];rfl}
attribute [simp] zbt zsL zf7 zkz zgC zfl zfd ziw zoR zcp zky
attribute [simp] zd3 zcW zfy zeL
attribute [simp] zfv zda ze6 zeM
def zbg (a:Int):Int:=bif ilt a 0 then -1 else zUt .i64 a 4
def zc4 (a:Int):Int:=bif ilt a 0 then -1 else zpa a 4
@[simp] abbrev zfH (a:Int):Bool:=true
@[simp] abbrev zcM (a:Int):Int:=zbg a
def zxc:Run:=rF1 dI fun b=>(zfH b,[aI (zcM b)])
def zAK (N:Nat)(a0:Int):OA:=
 (cond (ilt a0 0) (some [(aI (-1))]) (oN (ine 4 0) (some [(aI (zUt .i64 a0 4))])))
theorem zMr (a0:Int)(hc:zfH a0=true):∃N,zAK N a0=some [aI (zcM a0)]:=by refine⟨0,?_⟩;unfold zAK oN;refine br (fun _=>?_) (fun _=>must rfl ?_);all_goals first|rfl|(simp only [*,zcM,zbg,cT,cF]<;>rfl)|simp_all[Ty.cells,zcM,zbg]
theorem zGG:vL 255 zxc:=kF1 zgm zJ zG zx (zy []) zMr
@[simp] abbrev zhO (a:Int):Bool:=true
@[simp] abbrev zdU (a:Int):Int:=zc4 a
def zxb:Run:=rF1 dI fun b=>(zhO b,[aI (zdU b)])
def zAJ (N:Nat)(a0:Int):OA:=
 (cond (ilt a0 0) (some [(aI (-1))]) (oN (ine 4 0) (some [(aI (zpa a0 4))])))
theorem zMq (a0:Int)(hc:zhO a0=true):∃N,zAJ N a0=some [aI (zdU a0)]:=by refine⟨0,?_⟩;unfold zAJ oN;refine br (fun _=>?_) (fun _=>must rfl ?_);all_goals first|rfl|(simp only [*,zdU,zc4,cT,cF]<;>rfl)|simp_all[Ty.cells,zdU,zc4]
theorem zGF:vL 256 zxb:=kF1 zgm zJ zG zx (zy []) zMq
def zb9 (w:Bool):Int:=bif w then 2 else 1
@[simp] abbrev zrP (w:Bool):Bool:=true
@[simp] abbrev zeT (w:Bool):Int:=zb9 w
def zCn:Run:=rF1 dB fun b=>(zrP b,[aI (zeT b)])
def zIc (N:Nat)(a0:Bool):OA:=
 (cond a0 (some [(aI 2)]) (some [(aI 1)]))
theorem zSt (a0:Bool)(hc:zrP a0=true):∃N,zIc N a0=some [aI (zeT a0)]:=by refine⟨0,?_⟩;unfold zIc;refine br (fun _=>?_) (fun _=>?_);all_goals first|rfl|(simp only [*,zeT,zb9,cT,cF]<;>rfl)|simp_all[Ty.cells,zeT,zb9]
theorem zLR:vL 291 zCn:=kF1 zgm zJ zG zx (zy []) zSt
def zqc (p:Int)(w:Bool):GExit:=⟨1,p,w,0⟩
def zx1 (n:Int):GExit:=⟨2,0,false,n⟩
def zwT (n:Int):GExit:=⟨3,0,false,n⟩
@[simp] abbrev ziP (p:Int)(w:Bool):Bool:=true
@[simp] abbrev zex (p:Int)(w:Bool):GExit:=zqc p w
def znd:Run:=rF2 dI dB fun b c=>(ziP b c,[.agg (zfa (zex b c))])
def zzk (N:Nat)(a0:Int)(a1:Bool):OA:=
 (some [(.agg [(.i .i64 1),(.i .i64 a0),(.b a1),(.i .i64 0)])])
theorem zJW (a0:Int)(a1:Bool)(hc:ziP a0 a1=true):∃N,zzk N a0 a1=some [.agg (zfa (zex a0 a1))]:=by refine⟨0,?_⟩;unfold zzk;first|rfl|(simp only [*,zex,cT,cF]<;>rfl)|simp_all[Ty.cells,zex]
theorem zrm:vL 293 znd:=kF2 zgm zJ zG zx (zy []) zJW
@[simp] abbrev zns (n:Int):Bool:=true
@[simp] abbrev zeP (n:Int):GExit:=zx1 n
def zoM:Run:=rF1 dI fun b=>(zns b,[.agg (zfa (zeP b))])
def zAN (N:Nat)(a0:Int):OA:=
 (some [(.agg [(.i .i64 2),(.i .i64 0),(.b false),(.i .i64 a0)])])
theorem zMu (a0:Int)(hc:zns a0=true):∃N,zAN N a0=some [.agg (zfa (zeP a0))]:=by refine⟨0,?_⟩;unfold zAN;first|rfl|(simp only [*,zeP,cT,cF]<;>rfl)|simp_all[Ty.cells,zeP]
theorem zsF:vL 318 zoM:=kF1 zgm zJ zG zx (zy []) zMu
@[simp] abbrev zpM (n:Int):Bool:=true
@[simp] abbrev zfI (n:Int):GExit:=zwT n
def zqY:Run:=rF1 dI fun b=>(zpM b,[.agg (zfa (zfI b))])
def zES (N:Nat)(a0:Int):OA:=
 (some [(.agg [(.i .i64 3),(.i .i64 0),(.b false),(.i .i64 a0)])])
theorem zPI (a0:Int)(hc:zpM a0=true):∃N,zES N a0=some [.agg (zfa (zfI a0))]:=by refine⟨0,?_⟩;unfold zES;first|rfl|(simp only [*,zfI,cT,cF]<;>rfl)|simp_all[Ty.cells,zfI]
theorem zue:vL 319 zqY:=kF1 zgm zJ zG zx (zy []) zPI
def zgp (t x:Int):Bool:=bif win t 0 3 then (cond (win x 1 2) (ine (wand .i64 t x) 0) false) else false
@[simp] abbrev zhs (t x:Int):Bool:=true
@[simp] abbrev zhd (t x:Int):Bool:=zgp t x
def zzP:Run:=rF2 dI dI fun b c=>(zhs b c,[aB (zhd b c)])
def zEK (N:Nat)(a0 a1:Int):OA:=
 (oN (zN a0 0 3) (cond (zS a0 0 3) (oN (zN a1 1 2) (cond (zS a1 1 2) (some [(aB (ine (wand .i64 a0 a1) 0))]) oF)) oF))
theorem zPz (a0 a1:Int)(hc:zhs a0 a1=true):∃N,zEK N a0 a1=some [aB (zhd a0 a1)]:=by refine⟨0,?_⟩;unfold zEK oN;refine must rfl (br (fun _=>must rfl (br (fun _=>?_) (fun _=>?_))) (fun _=>?_));all_goals first|rfl|(simp only [*,zhd,zgp,cT,cF]<;>rfl)|simp_all[Ty.cells,zhd,zgp]
theorem zI6:vL 322 zzP:=kF2 zgm zJ zG zx (zy []) zPz
def zde (p:Int):Bool:=win p 0 255
@[simp] abbrev zeW (p:Int):Bool:=true
@[simp] abbrev zeV (p:Int):Bool:=zde p
def zCr:Run:=rF1 dI fun b=>(zeW b,[aB (zeV b)])
def zIg (N:Nat)(a0:Int):OA:=
 (oN (zN a0 0 255) (some [(aB (zS a0 0 255))]))
theorem zSy (a0:Int)(hc:zeW a0=true):∃N,zIg N a0=some [aB (zeV a0)]:=by refine⟨0,?_⟩;unfold zIg oN;refine must rfl ?_;first|rfl|(simp only [*,zeV,zde,cT,cF]<;>rfl)|simp_all[Ty.cells,zeV,zde]
theorem zLV:vL 150 zCr:=kF1 zgm zJ zG zx (zy []) zSy
def zcn (l:List Ins)(p:Int):Ins:=bif hasB p (ln l) then ix l p zQM else ⟨7,0⟩
@[simp] abbrev ze4 (l:List Ins)(p:Int):Bool:=true
@[simp] abbrev zfm (l:List Ins)(p:Int):Ins:=zcn l p
def zFB:Run:=rF2 (dS .ins) dI fun b c=>(ze4 b c,[aT .ins (zfm b c)])
def zNG (N:Nat)(a0:lI)(a1:Int):OA:=
 (oN (zN a1 0 (wsub .i64 (ln a0) 1)) (cond (nB (zS a1 0 (wsub .i64 (ln a0) 1))) (some [(.agg [(.i .i64 7),(.i .i64 0)])]) (oN (inb a1 (ln a0)) (some [(.agg [(.i .i64 (ix a0 a1 zQM).Op),(.i .i64 (ix a0 a1 zQM).X)])]))))
theorem zU8 (a0:List Ins)(a1:Int)(hb:zcP big [aS .ins a0,aI a1])(hc:ze4 a0 a1=true):∃N,zNG N a0 a1=some [aT .ins (zfm a0 a1)]:=by have hl:=((zem hb).1 _ (qG.2 rfl)).len;have hw:=zHR hl;refine⟨0,?_⟩;unfold zNG oN nB;refine must rfl (brN (fun _=>?_) (fun _=>mu ?_));all_goals first|rfl|(simp only [*,zfm,zcn,cT,cF]<;>rfl)|simp_all[Ty.cells,zfm,zcn]
theorem zO7:vL 43 zFB:=hF2 zgm zJ zG zx (zy []) zU8
def zxF (w:Int):Int:=bif ieq w 5 then 1 else 2
def zdX (s:Slot)(n:Int):Bool:=bif zc3 s noSlot then true else (cond (igt n 0) (cond (win s.Page 0 (wsub .i64 n 1)) (win s.Rights 1 3) false) false)
@[simp] abbrev zrS (s:Slot)(n:Int):Bool:=true
@[simp] abbrev zo0 (s:Slot)(n:Int):Bool:=zdX s n
def zCu:Run:=rF2 (dT .slot) dI fun b c=>(zrS b c,[aB (zo0 b c)])
def zIj (N:Nat)(a0:Slot)(a1:Int):OA:=
 (oN zcp (cond (cond (ieq a0.Page zbt.Page) (ieq a0.Rights zbt.Rights) false) oT (oN (zN a0.Page 0 (wsub .i64 a1 1)) (cond (zS a0.Page 0 (wsub .i64 a1 1)) (cond (igt a1 0) (oN (zN a0.Rights 1 3) (some [(aB (zS a0.Rights 1 3))])) oF) oF))))
theorem zSB (a0:Slot)(a1:Int)(hc:zrS a0 a1=true):∃N,zIj N a0 a1=some [aB (zo0 a0 a1)]:=by refine⟨0,?_⟩;unfold zIj oN;refine must rfl (br (fun _=>?_) (fun _=>must rfl (br (fun _=>br (fun _=>must rfl ?_) (fun _=>?_)) (fun _=>?_))));all_goals first|rfl|(simp only [*,zo0,zdX,zc3,cT,cF]<;>rfl)|simp_all[Ty.cells,zo0,zdX,zc3]
theorem zLY:vL 223 zCu:=kF2 zgm zJ zG zx (zy []) zSB
@[simp] abbrev zqJ (l:List Slot):Bool:=pc (l.length<=2147483648)
@[simp] abbrev zlg (l:List Slot):List Slot:=l
def zuz:Run:=rF1 (dS .slot) fun b=>(zqJ b,[aS .slot (zlg b)])
def zzh (N:Nat)(a0:lS):OA:=
 (oN (few (ln (ap [] a0))) (some [(aS .slot (ap [] a0))]))
theorem zJP (a0:List Slot)(hc:zqJ a0=true):∃N,zzh N a0=some [aS .slot (zlg a0)]:=by have hs:=zQ.1 hc;refine⟨0,?_⟩;unfold zzh oN;refine mu ?_;first|rfl|(simp only [*,zlg,cT,cF]<;>rfl)|simp_all[Ty.cells,zlg]
theorem zDP:vL 200 zuz:=kF1 zgm zJ zG zx (zy []) zJP
def zhb (m:List (List Int))(p c:Int):Bool:=bif hasB p (ln m) then hasB c (ln (ix m p [])) else false
def cellAt (m:List (List Int))(p c:Int):Int:=bif zhb m p c then ix (ix m p []) c 0 else 0
def zbI (m:List (List Int))(p c v:Int):List (List Int):=bif zhb m p c then (cond (win v 0 99) (up m p (up (ix m p []) c v)) m) else m
theorem zyA (m:List (List Int))(p c:Int):(zhb m p c=true)↔hasB p (ln m)=true/\hasB c (ln (ix m p []))=true:=by unfold zhb;cases hasB p (ln m)<;>simp
theorem z8t {n:Nat}{m:List (List Int)}(h:CVB n (.s (.sl .int) m)):m.length<=n/\∀p:Int,hasB p (ln m)=true->(ix m p []).length<=n :=
 ⟨h.len,fun p hp=>(h.inv.2 _ (zbC hp []) _ (qG.2 rfl)).len⟩
@[simp] abbrev zrV (m:List (List Int))(p c:Int):Bool:=true
@[simp] abbrev zo2 (m:List (List Int))(p c:Int):Bool:=zhb m p c
def zCz:Run:=rF3 (dS (.sl .int)) dI dI fun b c d=>(zrV b c d,[aB (zo2 b c d)])
def zIo (N:Nat)(a0:lM)(a1 a2:Int):OA:=
 let y0:=(wsub .i64 (ln (ix a0 a1 [])) 1); (oN (zN a1 0 (wsub .i64 (ln a0) 1)) (cond (zS a1 0 (wsub .i64 (ln a0) 1)) (oN (inb a1 (ln a0)) (oN (zN a2 0 y0) (some [(aB (zS a2 0 y0))]))) oF))
theorem zSG (a0:List (List Int))(a1 a2:Int)(hb:zcP big [aS (.sl .int) a0,aI a1,aI a2])(hc:zrV a0 a1 a2=true):∃N,zIo N a0 a1 a2=some [aB (zo2 a0 a1 a2)]:=by
 have hl:=z8t ((zem hb).1 _ (qG.2 rfl));have hw:=zHR hl.1;have hw2:∀p i:Int,hasB p (ln a0)=true->win i 0 (wsub .i64 (ln (ix a0 p [])) 1)=hasB i (ln (ix a0 p [])):=fun p i h=>zHR (hl.2 p h) i;refine⟨0,?_⟩;unfold zIo oN;conv=>zeta
 refine must rfl (br (fun _=>mu (must rfl ?_)) (fun _=>?_));all_goals first|rfl|(simp only [*,zo2,zhb,cT,cF]<;>rfl)|simp_all[Ty.cells,zo2,zhb]
theorem zL4:vL 303 zCz:=hF3 zgm zJ zG zx (zy []) zSG
def z4X:zZ:=[(47,zCe),(255,zxc),(256,zxb),(291,zCn),(293,znd),(318,zoM),(319,zqY),(322,zzP),(150,zCr),(43,zFB),(223,zCu),(200,zuz),(303,zCz)]++z8o
theorem zjH:zL z4X:=zi zLI (zi zGG (zi zGF (zi zLR (zi zrm (zi zsF (zi zue (zi zI6 (zi zLV (zi zO7 (zi zLY (zi zDP (zi zL4 zgm))))))))))))
@[simp] abbrev zrN (m:List (List Int))(p c:Int):Bool:=true
@[simp] abbrev zmd (m:List (List Int))(p c:Int):Int:=cellAt m p c
def zCf:Run:=rF3 (dS (.sl .int)) dI dI fun b c d=>(zrN b c d,[aI (zmd b c d)])
def zH3 (N:Nat)(a0:lM)(a1 a2:Int):OA:=
 (oN (zrV a0 a1 a2) (cond (nB (zo2 a0 a1 a2)) (some [(aI 0)]) (oN (inb a1 (ln a0)) (oN (inb a2 (ln (ix a0 a1 []))) (some [(aI (ix (ix a0 a1 []) a2 0))])))))
theorem zSj (a0:List (List Int))(a1 a2:Int)(hc:zrN a0 a1 a2=true):∃N,zH3 N a0 a1 a2=some [aI (zmd a0 a1 a2)]:=by have hm:=(zyA a0 a1 a2).1;refine⟨0,?_⟩;unfold zH3 oN nB;refine must rfl (brN (fun _=>?_) (fun _=>mu (mu ?_)));all_goals first|rfl|(simp only [*,zmd,cellAt,cT,cF]<;>rfl)|simp_all[Ty.cells,zmd,cellAt]
theorem zLJ:vL 257 zCf:=kF3 zjH zJ zG zx (zy []) zSj
def zdd (t:List Slot)(n p:Int):Bool:=bif t.all (fun s=>zdX s p) then ieq (ln t) n else false
@[simp] abbrev zlt (t:List Slot)(n p:Int):Bool:=true
@[simp] abbrev zhf (t:List Slot)(n p:Int):Bool:=zdd t n p
def zz2:Run:=rF3 (dS .slot) dI dI fun b c d=>(zlt b c d,[aB (zhf b c d)])
def zEZ (N:Nat)(a0:lS)(a1 a2:Int):OA:=
 (iter (σ:=(Int×(Int×(Int×(lS×Unit))))) N (fun r4 s5=>let y0:=s5.2.2.2.1;let y1:=(ix y0 s5.2.2.1 zbc); (cond (ilt s5.2.2.1 (ln y0)) (oN (inb s5.2.2.1 (ln y0)) (oN (zrS y1 s5.2.1) (cond (nB (zo0 y1 s5.2.1)) oF (r4 (s5.1,(s5.2.1,((zK .i64 s5.2.2.1 1),(y0,())))))))) (some [(aB (ieq (ln y0) s5.1))]))) (a1,(a2,(0,(a0,())))))
def zQo:FuncId->Nat->Option Tmpl:=zy [(148,0,{n:=25,tm:=[(0,.sl 0 []),(1,ti),(2,ti),(7,ti)],lo:=[],ro:=[(0,.slot,false)]})]
theorem zPP (a0:List Slot)(a1 a2:Int)(hb:zcP big [aS .slot a0,aI a1,aI a2])(hc:zlt a0 a1 a2=true):∃N,zEZ N a0 a1 a2=some [aB (zhf a0 a1 a2)]:=by
 have hl:(_:List _).length<=big:=((zem hb).1 _ (qG.2 rfl)).len;refine zcG fun N hNN=>?_;unfold zEZ oN nB;conv=>zeta
 refine(zbn a0 (fun i (t:Unit)=>(a1,a2,(i:Int),a0,())) _ (fun _ x (_:Unit) κ=>bif (fun s=>zdX s a2) x then κ () else oF) (fun (t:Unit)=>(some [(.one (.b (ieq (ln a0) a1)))])) (fun i hi t rec=>?_) (fun t rec=>?_) _ () (hNN hl)).trans ?_;{simp only [zbS hi,zbq hi,zbA hi,zbk hi hl,cT];exact zoj rfl};{simp only [zbJ,cF]};rw[zmr (fun s=>zdX s a2)];refine br (fun h0=>?_) (fun h0=>?_);{first|rfl|(simp only [h0,zhf,zdd,cT,cF]<;>rfl)|(simp_all [Ty.cells,zhf,zdd];done)};{first|rfl|(simp only [h0,zhf,zdd,cT,cF]<;>rfl)|(simp_all [Ty.cells,zhf,zdd];done)}
theorem zJj:vL 148 zz2:=hF3 zjH zJ zG zx zQo zPP
def zct (c:List Int):Bool:=bif c.all (fun x=>win x 0 99) then ieq (ln c) 4 else false
@[simp] abbrev zft (c:List Int):Bool:=true
@[simp] abbrev zeU (c:List Int):Bool:=zct c
def zCq:Run:=rF1 (dS .int) fun b=>(zft b,[aB (zeU b)])
def zIf (N:Nat)(a0:List Int):OA:=
 (iter (σ:=(Int×((List Int)×Unit))) N (fun r2 s3=>(cond (ilt s3.1 (ln s3.2.1)) (oN (inb s3.1 (ln s3.2.1)) (oN (zN (ix s3.2.1 s3.1 0) 0 99) (cond (nB (zS (ix s3.2.1 s3.1 0) 0 99)) oF (r2 ((zK .i64 s3.1 1),(s3.2.1,())))))) (some [(aB (ieq (ln s3.2.1) 4))]))) (0,(a0,())))
def zUe:FuncId->Nat->Option Tmpl:=zy [(147,0,{n:=19,tm:=[(0,.sl 0 []),(3,ti)],lo:=[],ro:=[(0,.int,false)]})]
theorem zSx (a0:List Int)(hb:zcP big [aS .int a0])(hc:zft a0=true):∃N,zIf N a0=some [aB (zeU a0)]:=by have hl:(_:List _).length<=big:=((zem hb).1 _ (qG.2 rfl)).len;refine zcG fun N hNN=>?_;unfold zIf oN nB;refine(zbn a0 (fun i (t:Unit)=>((i:Int),a0,())) _ (fun _ x (_:Unit) κ=>bif (fun x=>win x 0 99) x then κ () else oF) (fun (t:Unit)=>(some [(.one (.b (ieq (ln a0) 4)))])) (fun i hi t rec=>?_) (fun t rec=>?_) _ () (hNN hl)).trans ?_;{simp only [zbS hi,zbq hi,zbA hi,zbk hi hl,cT];exact zoj rfl};{simp only [zbJ,cF]};rw[zmr (fun x=>win x 0 99)];refine br (fun h0=>?_) (fun h0=>?_);{first|rfl|(simp only [h0,zeU,zct,cT,cF]<;>rfl)|(simp_all [Ty.cells,zeU,zct];done)};{first|rfl|(simp only [h0,zeU,zct,cT,cF]<;>rfl)|(simp_all [Ty.cells,zeU,zct];done)}
theorem zLU:vL 147 zCq:=hF1 zjH zJ zG zx zUe zSx
@[simp] abbrev zrC (c:List Int):Bool:=true
@[simp] abbrev zjO (c:List Int):Bool:=zct c
def zCa:Run:=rF1 (dS .int) fun b=>(zrC b,[aB (zjO b)])
def zHY (N:Nat)(a0:List Int):OA:=
 (iter (σ:=(Int×(Int×((List Int)×Unit)))) N (fun r2 s3=>(cond (ilt s3.2.1 s3.1) (oN (inb s3.2.1 (ln s3.2.2.1)) (oN (zrD (ix s3.2.2.1 s3.2.1 0) 0 99) (cond (nB (zoy (ix s3.2.2.1 s3.2.1 0) 0 99)) oF (r2 (s3.1,((zK .i64 s3.2.1 1),(s3.2.2.1,()))))))) (some [(aB (ieq (ln s3.2.2.1) 4))]))) ((ln a0),(0,(a0,()))))
def zT6:FuncId->Nat->Option Tmpl:=zy [(203,0,{n:=18,tm:=[(0,.sl 0 []),(5,.sl 0 []),(6,ti),(7,ti)],lo:=[],ro:=[(0,.int,false)]})]
theorem zSe (a0:List Int)(hb:zcP big [aS .int a0])(hc:zrC a0=true):∃N,zHY N a0=some [aB (zjO a0)]:=by have hl:(_:List _).length<=big:=((zem hb).1 _ (qG.2 rfl)).len;refine zcG fun N hNN=>?_;unfold zHY oN nB;refine(zbn a0 (fun i (t:Unit)=>((ln a0),(i:Int),a0,())) _ (fun _ x (_:Unit) κ=>bif (fun x=>win x 0 99) x then κ () else oF) (fun (t:Unit)=>(some [(.one (.b (ieq (ln a0) 4)))])) (fun i hi t rec=>?_) (fun t rec=>?_) _ () (hNN hl)).trans ?_;{simp only [zbS hi,zbq hi,zbA hi,zbk hi hl,cT];exact zoj rfl};{simp only [zbJ,cF]};rw[zmr (fun x=>win x 0 99)];refine br (fun h0=>?_) (fun h0=>?_);{first|rfl|(simp only [h0,zjO,zct,cT,cF]<;>rfl)|(simp_all [Ty.cells,zjO,zct];done)};{first|rfl|(simp only [h0,zjO,zct,cT,cF]<;>rfl)|(simp_all [Ty.cells,zjO,zct];done)}
theorem zLE:vL 203 zCa:=hF1 zjH zJ zG zx zT6 zSe
def zd2 (i:Ins):Bool:=bif (ieq i.Op 1||ieq i.Op 2||ieq i.Op 5||ieq i.Op 6) then win i.X 0 99 else (cond (ieq i.Op 3||ieq i.Op 4) (win i.X 0 15) (cond (ieq i.Op 7) (ieq i.X 0) (cond (ieq i.Op 8) (win i.X 0 11) false)))
@[simp] abbrev zCK (i:Ins):Bool:=true
@[simp] abbrev zxu (i:Ins):Bool:=zd2 i
def zFC:Run:=rF1 (dT .ins) fun b=>(zCK b,[aB (zxu b)])
def zNH (N:Nat)(a0:Ins):OA:=
 let y10:=(ieq a0.Op 4);let y9:=(zN a0.X 0 99);let y8:=(aB (zS a0.X 0 99));let y7:=(ieq a0.Op 8);let y6:=(ieq a0.Op 7);let y5:=(ieq a0.Op 3);let y4:=(zN a0.X 0 11);let y3:=(zN a0.X 0 15);let y2:=(aB (ieq a0.X 0));let y1:=(aB (zS a0.X 0 11));let y0:=(aB (zS a0.X 0 15)); (cond (ieq a0.Op 1) (cond (ieq a0.Op 1) (oN y9 (some [y8])) (cond y5 (cond y5 (oN y3 (some [y0])) (cond y6 (some [y2]) (cond y7 (oN y4 (some [y1])) oF))) (cond y10 (oN y3 (some [y0])) (cond y6 (some [y2]) (cond y7 (oN y4 (some [y1])) oF))))) (cond (ieq a0.Op 2) (cond (ieq a0.Op 2) (oN y9 (some [y8])) (cond y5 (cond y5 (oN y3 (some [y0])) (cond y6 (some [y2]) (cond y7 (oN y4 (some [y1])) oF))) (cond y10 (oN y3 (some [y0])) (cond y6 (some [y2]) (cond y7 (oN y4 (some [y1])) oF))))) (cond (ieq a0.Op 5) (cond (ieq a0.Op 5) (oN y9 (some [y8])) (cond y5 (cond y5 (oN y3 (some [y0])) (cond y6 (some [y2]) (cond y7 (oN y4 (some [y1])) oF))) (cond y10 (oN y3 (some [y0])) (cond y6 (some [y2]) (cond y7 (oN y4 (some [y1])) oF))))) (cond (ieq a0.Op 6) (oN y9 (some [y8])) (cond y5 (cond y5 (oN y3 (some [y0])) (cond y6 (some [y2]) (cond y7 (oN y4 (some [y1])) oF))) (cond y10 (oN y3 (some [y0])) (cond y6 (some [y2]) (cond y7 (oN y4 (some [y1])) oF))))))))
theorem zU9 (a0:Ins)(hc:zCK a0=true):∃N,zNH N a0=some [aB (zxu a0)]:=by
 refine⟨0,?_⟩;unfold zNH oN;conv=>zeta
 refine br (fun _=>br (fun _=>must rfl ?_) (fun _=>br (fun _=>br (fun _=>must rfl ?_) (fun _=>br (fun _=>?_) (fun _=>br (fun _=>must rfl ?_) (fun _=>?_)))) (fun _=>br (fun _=>must rfl ?_) (fun _=>br (fun _=>?_) (fun _=>br (fun _=>must rfl ?_) (fun _=>?_)))))) (fun _=>br (fun _=>br (fun _=>must rfl ?_) (fun _=>br (fun _=>br (fun _=>must rfl ?_) (fun _=>br (fun _=>?_) (fun _=>br (fun _=>must rfl ?_) (fun _=>?_)))) (fun _=>br (fun _=>must rfl ?_) (fun _=>br (fun _=>?_) (fun _=>br (fun _=>must rfl ?_) (fun _=>?_)))))) (fun _=>br (fun _=>br (fun _=>must rfl ?_) (fun _=>br (fun _=>br (fun _=>must rfl ?_) (fun _=>br (fun _=>?_) (fun _=>br (fun _=>must rfl ?_) (fun _=>?_)))) (fun _=>br (fun _=>must rfl ?_) (fun _=>br (fun _=>?_) (fun _=>br (fun _=>must rfl ?_) (fun _=>?_)))))) (fun _=>br (fun _=>must rfl ?_) (fun _=>br (fun _=>br (fun _=>must rfl ?_) (fun _=>br (fun _=>?_) (fun _=>br (fun _=>must rfl ?_) (fun _=>?_)))) (fun _=>br (fun _=>must rfl ?_) (fun _=>br (fun _=>?_) (fun _=>br (fun _=>must rfl ?_) (fun _=>?_))))))));all_goals first|rfl|(simp only [*,zxu,zd2,cT,cF]<;>rfl)|simp_all[Ty.cells,zxu,zd2]
theorem zO8:vL 282 zFC:=kF1 zjH zJ zG zx (zy []) zU9
def ziL (e:GExit):Bool:=bif (ieq e.Kind 0||ieq e.Kind 4) then (ieq e.Page 0&&(!e.Write&&ieq e.N 0)) else (cond (ieq e.Kind 1) (win e.Page 0 3&&ieq e.N 0) (cond (ieq e.Kind 2||ieq e.Kind 3) (win e.N 0 99&&(ieq e.Page 0 && !e.Write)) false))
@[simp] theorem z9W (x:Bool):zsp x false = !x:=by cases x<;>rfl
attribute [simp] zys
@[simp] abbrev zyO (e:GExit):Bool:=true
@[simp] abbrev ztc (e:GExit):Bool:=ziL e
def zCh:Run:=rF1 dE fun b=>(zyO b,[aB (ztc b)])
def zH5 (N:Nat)(a0:GExit):OA:=
 let y5:=(zS a0.N 0 99);let y4:=(zN a0.N 0 99);let y3:=(ieq a0.Kind 2);let y2:=(ieq a0.Page 0);let y1:=(aB (nB a0.Write));let y0:=(aB (cond (ieq a0.Kind a0.Kind) (cond y2 (cond (zsp a0.Write false) (ieq a0.N 0) false) false) false)); (cond (ieq a0.Kind 0) (cond (ieq a0.Kind 0) (some [y0]) (cond (ieq a0.Kind 1) (oN (zN a0.Page 0 3) (cond (zS a0.Page 0 3) (some [(aB (ieq a0.N 0))]) oF)) (cond y3 (cond y3 (oN y4 (cond y5 (cond y2 (some [y1]) oF) oF)) oF) (cond (ieq a0.Kind 3) (oN y4 (cond y5 (cond y2 (some [y1]) oF) oF)) oF)))) (cond (ieq a0.Kind 4) (some [y0]) (cond (ieq a0.Kind 1) (oN (zN a0.Page 0 3) (cond (zS a0.Page 0 3) (some [(aB (ieq a0.N 0))]) oF)) (cond y3 (cond y3 (oN y4 (cond y5 (cond y2 (some [y1]) oF) oF)) oF) (cond (ieq a0.Kind 3) (oN y4 (cond y5 (cond y2 (some [y1]) oF) oF)) oF)))))
theorem zSl (a0:GExit)(hc:zyO a0=true):∃N,zH5 N a0=some [aB (ztc a0)]:=by
 refine⟨0,?_⟩;unfold zH5 oN nB;conv=>zeta
 refine br (fun _=>br (fun _=>?_) (fun _=>br (fun _=>must rfl (br (fun _=>?_) (fun _=>?_))) (fun _=>br (fun _=>br (fun _=>must rfl (br (fun _=>br (fun _=>?_) (fun _=>?_)) (fun _=>?_))) (fun _=>?_)) (fun _=>br (fun _=>must rfl (br (fun _=>br (fun _=>?_) (fun _=>?_)) (fun _=>?_))) (fun _=>?_))))) (fun _=>br (fun _=>?_) (fun _=>br (fun _=>must rfl (br (fun _=>?_) (fun _=>?_))) (fun _=>br (fun _=>br (fun _=>must rfl (br (fun _=>br (fun _=>?_) (fun _=>?_)) (fun _=>?_))) (fun _=>?_)) (fun _=>br (fun _=>must rfl (br (fun _=>br (fun _=>?_) (fun _=>?_)) (fun _=>?_))) (fun _=>?_)))));all_goals first|rfl|(simp only [*,ztc,ziL,cT,cF]<;>rfl)|simp_all[Ty.cells,ztc,ziL]
theorem zLL:vL 226 zCh:=kF1 zjH zJ zG zx (zy []) zSl
def ztR (c:Ctl):List Int:=(cond (win c.Traps 0 3) [] [1])++((cond (win c.Post 0 255) [] [2])++((cond (ine c.Post 0) (cond c.Open [] [3]) [])++(cond (ieq c.Traps 2) (cond (ine c.Post 0) [4] []) [])))
@[simp] theorem z9T {α:Type}(x:α)(l m:List α):ap (x::l) m=x::ap l m:=rfl
@[simp] abbrev zq5 (c:Ctl):Bool:=true
@[simp] abbrev zln (c:Ctl):List Int:=ztR c
def zuB:Run:=rF1 dC fun b=>(zq5 b,[aS .int (zln b)])
def zzj (N:Nat)(a0:Ctl):OA:=
 let y10:=(aS .int []);let y8:=(ap (ap [] [2]) [4]);let y7:=(ap (ap [] [1]) [4]);let y6:=(aS .int (ap [] [2]));let y5:=(aS .int (ap [] [1]));let y4:=(ap (ap [] [2]) [3]);let y3:=(ap (ap [] [1]) [3]);let y2:=(ieq a0.Traps 2);let y1:=(ine a0.Post 0);let y0:=(ap (ap [] [1]) [2]);let y9:=(aS .int y0); (oN (zN a0.Traps 0 3) (cond (nB (zS a0.Traps 0 3)) (oN (few (ln (ap [] [1]))) (oN (zN a0.Post 0 255) (cond (nB (zS a0.Post 0 255)) (oN (few (ln y0)) (cond y1 (cond (nB a0.Open) (oN (few (ln (ap y0 [3]))) (cond y2 (cond y1 (oN (few (ln (ap (ap y0 [3]) [4]))) (some [(aS .int (ap (ap y0 [3]) [4]))])) (some [(aS .int (ap y0 [3]))])) (some [(aS .int (ap y0 [3]))]))) (cond y2 (cond y1 (oN (few (ln (ap y0 [4]))) (some [(aS .int (ap y0 [4]))])) (some [y9])) (some [y9]))) (cond y2 (cond y1 (oN (few (ln (ap y0 [4]))) (some [(aS .int (ap y0 [4]))])) (some [y9])) (some [y9])))) (cond y1 (cond (nB a0.Open) (oN (few (ln y3)) (cond y2 (cond y1 (oN (few (ln (ap y3 [4]))) (some [(aS .int (ap y3 [4]))])) (some [(aS .int y3)])) (some [(aS .int y3)]))) (cond y2 (cond y1 (oN (few (ln y7)) (some [(aS .int y7)])) (some [y5])) (some [y5]))) (cond y2 (cond y1 (oN (few (ln y7)) (some [(aS .int y7)])) (some [y5])) (some [y5])))))) (oN (zN a0.Post 0 255) (cond (nB (zS a0.Post 0 255)) (oN (few (ln (ap [] [2]))) (cond y1 (cond (nB a0.Open) (oN (few (ln y4)) (cond y2 (cond y1 (oN (few (ln (ap y4 [4]))) (some [(aS .int (ap y4 [4]))])) (some [(aS .int y4)])) (some [(aS .int y4)]))) (cond y2 (cond y1 (oN (few (ln y8)) (some [(aS .int y8)])) (some [y6])) (some [y6]))) (cond y2 (cond y1 (oN (few (ln y8)) (some [(aS .int y8)])) (some [y6])) (some [y6])))) (cond y1 (cond (nB a0.Open) (oN (few (ln (ap [] [3]))) (cond y2 (cond y1 (oN (few (ln (ap (ap [] [3]) [4]))) (some [(aS .int (ap (ap [] [3]) [4]))])) (some [(aS .int (ap [] [3]))])) (some [(aS .int (ap [] [3]))]))) (cond y2 (cond y1 (oN (few (ln (ap [] [4]))) (some [(aS .int (ap [] [4]))])) (some [y10])) (some [y10]))) (cond y2 (cond y1 (oN (few (ln (ap [] [4]))) (some [(aS .int (ap [] [4]))])) (some [y10])) (some [y10])))))))
theorem zJS (a0:Ctl)(hc:zq5 a0=true):∃N,zzj N a0=some [aS .int (zln a0)]:=by
 refine⟨0,?_⟩;unfold zzj oN nB;conv=>zeta
 refine must rfl (brN (fun _=>mu (must rfl (brN (fun _=>mu (br (fun _=>brN (fun _=>mu (br (fun _=>br (fun _=>mu ?_) (fun _=>?_)) (fun _=>?_))) (fun _=>br (fun _=>br (fun _=>mu ?_) (fun _=>?_)) (fun _=>?_))) (fun _=>br (fun _=>br (fun _=>mu ?_) (fun _=>?_)) (fun _=>?_)))) (fun _=>br (fun _=>brN (fun _=>mu (br (fun _=>br (fun _=>mu ?_) (fun _=>?_)) (fun _=>?_))) (fun _=>br (fun _=>br (fun _=>mu ?_) (fun _=>?_)) (fun _=>?_))) (fun _=>br (fun _=>br (fun _=>mu ?_) (fun _=>?_)) (fun _=>?_)))))) (fun _=>must rfl (brN (fun _=>mu (br (fun _=>brN (fun _=>mu (br (fun _=>br (fun _=>mu ?_) (fun _=>?_)) (fun _=>?_))) (fun _=>br (fun _=>br (fun _=>mu ?_) (fun _=>?_)) (fun _=>?_))) (fun _=>br (fun _=>br (fun _=>mu ?_) (fun _=>?_)) (fun _=>?_)))) (fun _=>br (fun _=>brN (fun _=>mu (br (fun _=>br (fun _=>mu ?_) (fun _=>?_)) (fun _=>?_))) (fun _=>br (fun _=>br (fun _=>mu ?_) (fun _=>?_)) (fun _=>?_))) (fun _=>br (fun _=>br (fun _=>mu ?_) (fun _=>?_)) (fun _=>?_))))));all_goals first|rfl|(simp only [*,zln,ztR,cT,cF]<;>rfl)|simp_all[Ty.cells,zln,ztR]
theorem zDR:vL 283 zuB:=kF1 zjH zJ zG zx (zy []) zJS
def zf4 (p n:Int):Bool:=ieq (wand .i64 (zC7 .i64 p n) 1) 1
def scan (p:Int):Int:=bif zf4 p 7 then 7 else (cond (zf4 p 6) 6 (cond (zf4 p 5) 5 (cond (zf4 p 4) 4 (cond (zf4 p 3) 3 (cond (zf4 p 2) 2 (cond (zf4 p 1) 1 (cond (zf4 p 0) 0 (-1))))))))
theorem z3B:∀n:Fin 256,-1<=scan (n.val:Int)/\scan (n.val:Int)<=7/\(0<=scan (n.val:Int)->wsub .i64 (n.val:Int) (zob .i64 1 (scan (n.val:Int)))=zLf .i64 (n.val:Int) (zob .i64 1 (scan (n.val:Int)))):=by decide +kernel
theorem z0J {P:Int->Prop}(h:∀n:Fin 256,P (n.val:Int)){x:Int}(h0:0<=x)(h1:x<=255):P x:=by have:=h ⟨x.toNat,by omega⟩;have e:((x.toNat:Nat):Int)=x:=(by omega);simpa [e] using this
def z4Y:zZ:=[(257,zCf),(148,zz2),(147,zCq),(203,zCa),(282,zFC),(226,zCh),(283,zuB)]++z4X
theorem zlY:zL z4Y:=zi zLJ (zi zJj (zi zLU (zi zLE (zi zO8 (zi zLL (zi zDR zjH))))))
def zkC (m:List (List Int))(n:Int):Bool:=bif m.all zct then ieq (ln m) n else false
@[simp] abbrev zqu (m:List (List Int))(n:Int):Bool:=true
@[simp] abbrev zkT (m:List (List Int))(n:Int):Bool:=zkC m n
def zFD:Run:=rF2 (dS (.sl .int)) dI fun b c=>(zqu b c,[aB (zkT b c)])
def zNI (N:Nat)(a0:lM)(a1:Int):OA:=
 (iter (σ:=(Int×(Int×(lM×Unit)))) N (fun r3 s4=>let y0:=s4.2.2.1; (cond (ilt s4.2.1 (ln y0)) (oN (inb s4.2.1 (ln y0)) (oN (zft (ix y0 s4.2.1 [])) (cond (nB (zeU (ix y0 s4.2.1 []))) oF (r3 (s4.1,((zK .i64 s4.2.1 1),(y0,()))))))) (some [(aB (ieq (ln y0) s4.1))]))) (a1,(0,(a0,()))))
def zV2:FuncId->Nat->Option Tmpl:=zy [(86,0,{n:=22,tm:=[(0,.sl 0 []),(1,ti),(5,ti)],lo:=[],ro:=[(0,(.sl .int),false)]})]
theorem zVa (a0:List (List Int))(a1:Int)(hb:zcP big [aS (.sl .int) a0,aI a1])(hc:zqu a0 a1=true):∃N,zNI N a0 a1=some [aB (zkT a0 a1)]:=by
 have hl:(_:List _).length<=big:=((zem hb).1 _ (qG.2 rfl)).len;refine zcG fun N hNN=>?_;unfold zNI oN nB;conv=>zeta
 refine(zbn a0 (fun i (t:Unit)=>(a1,(i:Int),a0,())) _ (fun _ x (_:Unit) κ=>bif (zct) x then κ () else oF) (fun (t:Unit)=>(some [(.one (.b (ieq (ln a0) a1)))])) (fun i hi t rec=>?_) (fun t rec=>?_) _ () (hNN hl)).trans ?_;{simp only [zbS hi,zbq hi,zbA hi,zbk hi hl,cT];exact zoj rfl};{simp only [zbJ,cF]};rw[zmr (zct)];refine br (fun h0=>?_) (fun h0=>?_);{first|rfl|(simp only [h0,zkT,zkC,cT,cF]<;>rfl)|(simp_all [Ty.cells,zkT,zkC];done)};{first|rfl|(simp only [h0,zkT,zkC,cT,cF]<;>rfl)|(simp_all [Ty.cells,zkT,zkC];done)}
theorem zO9:vL 86 zFD:=hF2 zlY zJ zG zx zV2 zVa
def zdq (p:List Ins):Bool:=bif p.all zd2 then win (ln p) 1 12 else false
@[simp] abbrev zyU (p:List Ins):Bool:=true
@[simp] abbrev zmf (p:List Ins):Bool:=zdq p
def zCs:Run:=rF1 (dS .ins) fun b=>(zyU b,[aB (zmf b)])
def zIh (N:Nat)(a0:lI):OA:=
 (iter (σ:=(Int×(lI×Unit))) N (fun r2 s3=>let y0:=(ix s3.2.1 s3.1 zQM); (cond (ilt s3.1 (ln s3.2.1)) (oN (inb s3.1 (ln s3.2.1)) (oN (zCK y0) (cond (nB (zxu y0)) oF (r2 ((zK .i64 s3.1 1),(s3.2.1,())))))) (oN (zN (ln s3.2.1) 1 12) (some [(aB (zS (ln s3.2.1) 1 12))])))) (0,(a0,())))
def zUf:FuncId->Nat->Option Tmpl:=zy [(224,0,{n:=19,tm:=[(0,.sl 0 []),(3,ti)],lo:=[],ro:=[(0,.ins,false)]})]
theorem zSz (a0:List Ins)(hb:zcP big [aS .ins a0])(hc:zyU a0=true):∃N,zIh N a0=some [aB (zmf a0)]:=by
 have hl:(_:List _).length<=big:=((zem hb).1 _ (qG.2 rfl)).len;refine zcG fun N hNN=>?_;unfold zIh oN nB;conv=>zeta
 refine(zbn a0 (fun i (t:Unit)=>((i:Int),a0,())) _ (fun _ x (_:Unit) κ=>bif (zd2) x then κ () else oF) (fun (t:Unit)=>(cond (zN (ln a0) 1 12) (some [(.one (.b (zS (ln a0) 1 12)))]) none)) (fun i hi t rec=>?_) (fun t rec=>?_) _ () (hNN hl)).trans ?_;{simp only [zbS hi,zbq hi,zbA hi,zbk hi hl,cT];exact zoj rfl};{simp only [zbJ,cF]};rw[zmr (zd2)];refine br (fun h0=>?_) (fun h0=>?_);{refine must rfl ?_;first|rfl|(simp only [h0,zmf,zdq,cT,cF]<;>rfl)|(simp_all [Ty.cells,zmf,zdq];done)};{first|rfl|(simp only [h0,zmf,zdq,cT,cF]<;>rfl)|(simp_all [Ty.cells,zmf,zdq];done)}
theorem zLW:vL 224 zCs:=hF1 zlY zJ zG zx zUf zSz
def zid (c:Ctl):Bool:=ieq (ln (ztR c)) 0
@[simp] abbrev zqr (c:Ctl):Bool:=true
@[simp] abbrev zoT (c:Ctl):Bool:=zid c
def zFz:Run:=rF1 dC fun b=>(zqr b,[aB (zoT b)])
def zND (N:Nat)(a0:Ctl):OA:=
 (oN (zq5 a0) (some [(aB (ieq (ln (zln a0)) 0))]))
theorem zU5 (a0:Ctl)(hc:zqr a0=true):∃N,zND N a0=some [aB (zoT a0)]:=by refine⟨0,?_⟩;unfold zND oN;refine must rfl ?_;first|rfl|(simp only [*,zoT,zid,cT,cF]<;>rfl)|simp_all[Ty.cells,zoT,zid]
theorem zO5:vL 225 zFz:=kF1 zlY zJ zG zx (zy []) zU5
def zdy (p:Int):Int:=bif zde p then scan p else -1
theorem zW9 {x:Int}(h0:0<=x)(h1:x<=255):wcv .u64 x=x:=z0J (P:=fun x=>wcv .u64 x=x) (by decide +kernel) h0 h1
@[simp] abbrev zrT (p:Int):Bool:=true
@[simp] abbrev zmg (p:Int):Int:=zdy p
def zCw:Run:=rF1 dI fun b=>(zrT b,[aI (zmg b)])
def zIl (N:Nat)(a0:Int):OA:=
 (iter (σ:=(Int×(Int×Unit))) N (fun r2 s3=>(cond (ige s3.2.1 0) (oN (zeW s3.1) (cond (zeV s3.1) (oN (ile 0 (wcv .u64 s3.2.1)) (cond (ieq (wand .i64 (zC7 .i64 s3.1 (wcv .u64 s3.2.1)) 1) 1) (some [(aI s3.2.1)]) (r2 (s3.1,((wsub .i64 s3.2.1 1),()))))) (some [(aI (-1))]))) (some [(aI (-1))]))) (a0,(7,())))
def zUg:FuncId->Nat->Option Tmpl:=zy [(114,0,{n:=19,tm:=[(0,ti),(3,ti)],lo:=[],ro:=[]})]
theorem zSD (a0:Int)(hc:zrT a0=true):∃N,zIl N a0=some [aI (zmg a0)]:=by refine⟨10,?_⟩;unfold zIl oN;cases h:zde a0;{rw [zdg];refine must rfl ?_;refine must rfl ?_;refine zdT h ?_;simp[zdy,h]};{have hs:zeV a0=true:=h;rw[zdg];refine must rfl (must rfl (must hs (must rfl (br (fun h7=>?_) (fun h7=>?_)))));{have e7:zf4 a0 7=true:=h7;simp[zdy,h,scan,e7]};have f7:zf4 a0 7=false:=h7;show iter 9 _ (a0,6,())=_;rw[zdg];refine must rfl (must rfl (must hs (must rfl (br (fun h6=>?_) (fun h6=>?_)))));{have e6:zf4 a0 6=true:=h6;simp[zdy,h,scan,e6,f7]};have f6:zf4 a0 6=false:=h6;show iter 8 _ (a0,5,())=_;rw[zdg];refine must rfl (must rfl (must hs (must rfl (br (fun h5=>?_) (fun h5=>?_)))));{have e5:zf4 a0 5=true:=h5;simp[zdy,h,scan,e5,f7,f6]};have f5:zf4 a0 5=false:=h5;show iter 7 _ (a0,4,())=_;rw[zdg];refine must rfl (must rfl (must hs (must rfl (br (fun h4=>?_) (fun h4=>?_)))));{have e4:zf4 a0 4=true:=h4;simp[zdy,h,scan,e4,f7,f6,f5]};have f4:zf4 a0 4=false:=h4;show iter 6 _ (a0,3,())=_;rw[zdg];refine must rfl (must rfl (must hs (must rfl (br (fun h3=>?_) (fun h3=>?_)))));{have e3:zf4 a0 3=true:=h3;simp[zdy,h,scan,e3,f7,f6,f5,f4]};have f3:zf4 a0 3=false:=h3;show iter 5 _ (a0,2,())=_;rw[zdg];refine must rfl (must rfl (must hs (must rfl (br (fun h2=>?_) (fun h2=>?_)))));{have e2:zf4 a0 2=true:=h2;simp[zdy,h,scan,e2,f7,f6,f5,f4,f3]};have f2:zf4 a0 2=false:=h2;show iter 4 _ (a0,1,())=_;rw[zdg];refine must rfl (must rfl (must hs (must rfl (br (fun h1=>?_) (fun h1=>?_)))));{have e1:zf4 a0 1=true:=h1;simp[zdy,h,scan,e1,f7,f6,f5,f4,f3,f2]};have f1:zf4 a0 1=false:=h1;show iter 3 _ (a0,0,())=_;rw[zdg];refine must rfl (must rfl (must hs (must rfl (br (fun h0=>?_) (fun h0=>?_)))));{have e0:zf4 a0 0=true:=h0;simp[zdy,h,scan,e0,f7,f6,f5,f4,f3,f2,f1]};have f0:zf4 a0 0=false:=h0;show iter 2 _ (a0,-1,())=_;rw[zdg];refine zdT rfl ?_;simp[zdy,h,scan,f7,f6,f5,f4,f3,f2,f1,f0]}
theorem zL0:vL 114 zCw:=kF1 zlY zJ zG zx zUg zSD
theorem zbH {c:Cur}{i k:Int}(h:zbd c)(h0:0<=i):zbd ⟨c.b,i,k⟩:=⟨h0,h.2⟩
theorem zWI {c:Cur}(h:zbd c){l:List Int}(hl:l≠[]):zbi c l∈l:=(zxw (zet h hl)).2.2 (kR.2 hl)
theorem zfb {c:Cur}(h:zbd c){n:Int}(hn:0<n):0<=zl c n/\zl c n<n:=(zgD (zbs h n)).2.2 hn
theorem zJI {o x:Int}(h:(o=1\/o=2\/o=5\/o=6)/\0<=x/\x<=99\/(o=3\/o=4)/\0<=x/\x<=15\/o=8/\0<=x/\x<=11):zd2 ⟨o,x⟩=true:=by have w:∀{a b:Int},a<=x->x<=b->win x a b=true:=fun h1 h2=>(by simp only[win,ige,ile,qD,q9];exact⟨h1,h2⟩);rcases h with⟨h|h|h|h,h1,h2⟩|⟨h|h,h1,h2⟩|⟨h,h1,h2⟩<;>subst h<;>exact w h1 h2
def zxM (N:Nat)(c:Cur)  : OA :=
 let y1:=(zbi c [1,2,3,3,3,4,4,4,5,6,8]);let y0:=({ (zX c [1,2,3,3,3,4,4,4,5,6,8]) with b:=c.b}:Cur); (share (oN (zo y0 16) (some [(.agg [(.s .u8 c.b),(.i .i64 (zf y0 16).i),(.i .i64 (zf y0 16).h)]),(.agg [(.i .i64 y1),(.i .i64 (zl y0 16))])])) (fun t1=>(share (cond (ieq y1 8) (oN (zo y0 4) (some [(.agg [(.s .u8 c.b),(.i .i64 (zf y0 4).i),(.i .i64 (zf y0 4).h)]),(.agg [(.i .i64 y1),(.i .i64 (zl y0 4))])])) (oN (zo y0 100) (some [(.agg [(.s .u8 c.b),(.i .i64 (zf y0 100).i),(.i .i64 (zf y0 100).h)]),(.agg [(.i .i64 y1),(.i .i64 (zl y0 100))])]))) (fun t0=>(oN (zbp c [1,2,3,3,3,4,4,4,5,6,8]) (cond (ieq y1 3) (cond (ieq y1 3) t1 t0) (cond (ieq y1 4) t1 t0)))))))
def zpW (c:Cur)(s:Cur)(v0:Ins):Prop:=(∃N,zxM N c=some (AV.agg (zbT s)::[aT .ins v0]))/\(s.b=c.b/\0<=s.i)/\(zd2 v0=true)
def ziA (c:Cur)  : Bool:=wC (zpW c)
def zfx (c:Cur)  : Cur:=wS (zpW c)
def zfn (c:Cur)  : Ins:=wV (zpW c)
theorem zKB {c:Cur}(h:ziA c=true):zpW c (zfx c) (zfn c):=wG h
theorem zyY (c:Cur)  : 0<=(zfx c).i:=wP fun h=>h.2.1.2
theorem zYE (c:Cur)(h:∃N,Ends (wE (fun v0=>aT .ins v0) c.b fun v0=>zd2 v0=true) (zxM N c)):ziA c=true:=wI (fun _ _ h=>h) h
def zzE:zdo:=rP0 fun c=>(ziA c,zfx c,[aT .ins (zfn c)])
theorem zL6:zbM Tryz.prog 281 [false,true,true] zzE:=hP0 zeo zV zS6 zx (zy []) (fun _ h=>(zKB h).1)
theorem zQB {c:Cur}(h:zbd c):ziA c=true:=by
 refine zYE c ⟨0,?_⟩;have hk:([1,2,3,3,3,4,4,4,5,6,8]:List Int)≠[]:=(by simp);have hm:=zWI h hk;have h1:zbd {zX c [1,2,3,3,3,4,4,4,5,6,8] with b:=c.b}:=zbH h (zbX _ _);have b16:=zfb h1 (n:=16) (by omega);have b4:=zfb h1 (n:=4) (by omega);have b100:=zfb h1 (n:=100) (by omega);unfold zxM oN;conv=>zeta
 generalize zbi c [1,2,3,3,3,4,4,4,5,6,8]=o at hm;simp only[qF,qP,or_false]at hm;have no:∀{n:Int},ieq o n=false->o≠n:=fun h e=>(by subst e;simp[ieq]at h);have ye:∀{n:Int},ieq o n=true->o=n:=fun h=>by simpa [ieq] using h
 have L:∀(n:Int),0<n->(zd2 ⟨o,zl {zX c [1,2,3,3,3,4,4,4,5,6,8] with b:=c.b} n⟩=true)->Ends (fun a=>∃s v0,a=(AV.agg (zbT s)::[aT .ins v0])/\(s.b=c.b/\0<=s.i)/\zd2 v0=true)
  (cond (zo {zX c [1,2,3,3,3,4,4,4,5,6,8] with b:=c.b} n) (some (AV.agg [.s .u8 c.b,.i .i64 (zf {zX c [1,2,3,3,3,4,4,4,5,6,8] with b:=c.b} n).i,.i .i64 (zf {zX c [1,2,3,3,3,4,4,4,5,6,8] with b:=c.b} n).h]::[.agg [.i .i64 o,.i .i64 (zl {zX c [1,2,3,3,3,4,4,4,5,6,8] with b:=c.b} n)]])) none):=
  fun n hn hi=>zq (zbs h1 n) (zbG (aT .ins) (v:=⟨o,zl _ n⟩) (zA _ _) hi)
 refine zq (zet h hk) (zby (fun h3=>zby (fun _=>L 16 (by omega) (zJI ?_)) (fun h4=>absurd (ye h3) (no h4))) (fun h3=>zby (fun h4=>L 16 (by omega) (zJI ?_)) (fun h4=>zby (fun h8=>L 4 (by omega) (zJI ?_)) (fun h8=>L 100 (by omega) (zJI ?_)))));{have:=ye h3;omega};{have:=ye h4;omega};{have:=ye h8;omega};{have:=no h3;have:=no h4;have:=no h8;omega}
def z5x:zcQ:=[(281,([false,true,true],zzE))]++z5w
theorem zS7:zb1 z5x:=zco zS6 (by
 intro x hx;simp only[qF,qP,or_false]at hx;rcases hx with rfl
 .exact zL6)
theorem zgx {x y:Int}(h0:0<=x)(h1:x<=1000000)(h2:0<=y)(h3:y<=1000000):zK .i64 x y=x+y:=zjq (by omega) (by omega)
theorem zjK {α:Type}{l:List α}(h:ln l<=1000000):few (ln l)=true:=qL ⟨by unfold ln;omega,by omega⟩
theorem zgM {α:Type}(l:List α)(x:α):ln (ap l [x])=ln l+1:=by simp[ln,ap]
def zvu (N:Nat)(c:Cur)  : OA :=
 (iter (σ:=(Int×(Int×(Int×(lI×((List Int)×Unit)))))) N (fun r2 s3=>let y3:=s3.2.2.2.1;let y2:=s3.2.2.2.2.1;let y1:=(⟨y2,s3.2.1,s3.2.2.1⟩:Cur);let y0:=({ (zf y1 7) with b:=y2}:Cur); (oN (zo y1 7) (cond (ilt s3.1 (zK .i64 2 (zl y1 7))) (oN (ziA y0) (oN (few (ln (ap y3 [(zfn y0)]))) (r2 ((zK .i64 s3.1 1),((zfx y0).i,((zfx y0).h,((ap y3 [(zfn y0)]),(y2,())))))))) (oN (zcO y0 3) (cond (zcV y0 3) (oN (few (ln (ap y3 [(⟨7,0⟩:Ins)]))) (some [(.agg [(.s .u8 y2),(.i .i64 (zO y0 3).i),(.i .i64 (zO y0 3).h)]),(aS .ins (ap y3 [(⟨7,0⟩:Ins)]))])) (oN (few (ln (ap y3 [(⟨8,0⟩:Ins)]))) (some [(.agg [(.s .u8 y2),(.i .i64 (zO y0 3).i),(.i .i64 (zO y0 3).h)]),(aS .ins (ap y3 [(⟨8,0⟩:Ins)]))]))))))) (0,(c.i,(c.h,([],(c.b,()))))))
def zQr:FuncId->Nat->Option Tmpl:=zy [(273,0,{n:=29,tm:=[(0,.lp 0 0),(3,.sl 0 []),(4,ti)],lo:=[(0,[.sl 1 [],ti,ti])],ro:=[(0,.ins,true),(1,.u8,false)]})]
def znU (c:Cur)(s:Cur)(v0:List Ins):Prop:=(∃N,zvu N c=some (AV.agg (zbT s)::[aS .ins v0]))/\(s.b=c.b/\0<=s.i)/\(zdq v0=true)
def zgg (c:Cur)  : Bool:=wC (znU c)
def zW (c:Cur)  : Cur:=wS (znU c)
def zbY (c:Cur)  : List Ins:=wV (znU c)
theorem zpX {c:Cur}(h:zgg c=true):znU c (zW c) (zbY c):=wG h
theorem zhw (c:Cur)  : 0<=(zW c).i:=wP fun h=>h.2.1.2
theorem zVH (c:Cur)(h:∃N,Ends (wE (fun v0=>aS .ins v0) c.b fun v0=>zdq v0=true) (zvu N c)):zgg c=true:=wI (fun _ _ h=>h) h
def zw0:zdo:=rP0 fun c=>(zgg c,zW c,[aS .ins (zbY c)])
theorem zJs:zbM Tryz.prog 273 [false,true,true] zw0:=hP0 zeo zV zS7 zx zQr (fun _ h=>(zpX h).1)
theorem zBX {c:Cur}(h:zbd c):zgg c=true:=by
 refine zVH c ⟨9,?_⟩;unfold zvu oN;conv=>zeta
 refine zjJ (fun n s=>s.1+(n:Int)=8/\0<=s.1/\0<=s.2.1/\(∀x∈s.2.2.2.1,zd2 x=true)/\ln s.2.2.2.1=s.1/\s.2.2.2.2.1=c.b) ?_ 9 8 _ ⟨rfl,kL 0,h.1,by simp,rfl,rfl⟩ (by omega);rintro n ⟨t,i,k,l,b,u⟩ rec ⟨h1,h2,h3,h4,h5,h6⟩ hrec;dsimp only at h1 h2 h3 h4 h5 h6 ⊢;subst h6;have hcur:zbd ⟨c.b,i,k⟩:=zbH h h3;have hx:=zfb hcur (n:=7) (by omega);have hw:=zgx (x:=2) (by omega) (by omega) hx.1 (by omega);have h7:zbd {zf ⟨c.b,i,k⟩ 7 with b:=c.b}:=zbH h (zA _ _);have fin:∀(y:Ins),zd2 y=true->2<=t->zdq (ap l [y])=true:=(by intro y hy ht;unfold zdq;rw[zgM,h5];have:(ap l [y]).all zd2=true:=(by simp only[ap,List.all_append,kW,List.all_nil,vC,qD];exact⟨qN.2 h4,hy⟩);rw[this,cT];simp only[win,ige,ile,qD,q9];omega);refine zq (zbs hcur 7) (zby (fun hc=>?_) (fun hc=>?_));{have hlt:t<zK .i64 2 (zl ⟨c.b,i,k⟩ 7):=qE hc;rw[hw]at hlt;refine zq (zQB h7) (zq (zjK (by rw[zgM];omega)) (hrec (n-1) _ (by omega) ⟨?_,?_,zyY _,?_,?_,rfl⟩));{show zK .i64 t 1+_=8;rw[zgx h2 (by omega) (by omega) (by omega)];omega};{show 0<=zK .i64 t 1;rw[zgx h2 (by omega) (by omega) (by omega)];omega};{intro x hx;rcases jI.1 hx with hx|hx;{exact h4 x hx};{rw [qG.1 hx];exact(zKB (zQB h7)).2.2}};{show ln (ap l [_])=zK .i64 t 1;rw[zgM,zgx h2 (by omega) (by omega) (by omega)];omega}};{have hge:¬ t<zK .i64 2 (zl ⟨c.b,i,k⟩ 7):=jS hc;rw[hw]at hge;refine zq (zhN h7 3) (zby (fun _=>zq (zjK (by rw[zgM];omega)) (zbG (aS .ins) (zce _ _) (fin _ rfl (by omega)))) (fun _=>zq (zjK (by rw[zgM];omega)) (zbG (aS .ins) (zce _ _) (fin _ rfl (by omega)))))}
def z5y:zcQ:=[(273,([false,true,true],zw0))]++z5x
theorem zS8:zb1 z5y:=zco zS7 (by
 intro x hx;simp only[qF,qP,or_false]at hx;rcases hx with rfl
 .exact zJs)
theorem zUp {α:Type}{c:Cur}(h:zbd c){P:α->Prop}{fc:Cur->Bool}{fs:Cur->Cur}{fv:Cur->α}(hf:∀{c:Cur},zbd c->fc c=true)(hp:∀c,0<=(fs c).i)(hg:∀{c:Cur},zbd c->P (fv c)){G:Ans->Prop}{R:Cur->List α->Ans}(hG:∀s l,s.b=c.b->0<=s.i->1<=l.length->l.length<=2->(∀x∈l,P x)->G (R s l)){F:(Int×Int×Int×List α×List Int×Unit->OA)->Int×Int×Int×List α×List Int×Unit->OA}(hF:∀rec t i k l,F rec (t,i,k,l,c.b,())=bif zo ⟨c.b,i,k⟩ 2 then (bif ilt t (zK .i64 1 (zl ⟨c.b,i,k⟩ 2)) then (bif fc { zf ⟨c.b,i,k⟩ 2 with b:=c.b } then (bif few (ln (ap l [fv { zf ⟨c.b,i,k⟩ 2 with b:=c.b }])) then
        rec (zK .i64 t 1,(fs {zf ⟨c.b,i,k⟩ 2 with b:=c.b}).i,(fs {zf ⟨c.b,i,k⟩ 2 with b:=c.b}).h,ap l [fv {zf ⟨c.b,i,k⟩ 2 with b:=c.b}],c.b,()) else none) else none) else some (R ⟨c.b,(zf ⟨c.b,i,k⟩ 2).i,(zf ⟨c.b,i,k⟩ 2).h⟩ l)) else none) :
 Ends G (iter 3 F (0,c.i,c.h,[],c.b,())):=by
 refine zjJ (fun n s=>s.1+(n:Int)=2/\0<=s.1/\0<=s.2.1/\(∀x∈s.2.2.2.1,P x)/\ln s.2.2.2.1=s.1/\s.2.2.2.2.1=c.b) ?_ 3 2 _ ⟨rfl,kL 0,h.1,by simp,rfl,rfl⟩ (by omega)
 rintro n ⟨t,i,k,l,b,u⟩ rec ⟨h1,h2,h3,h4,h5,h6⟩ hrec
 dsimp only at h1 h2 h3 h4 h5 h6
 subst h6;rw[hF];have hcur:zbd ⟨c.b,i,k⟩:=zbH h h3;have hx:=zfb hcur (n:=2) (by omega)
 have hw:=zgx (x:=1) (by omega) (by omega) hx.1 (by omega)
 have h7:zbd {zf ⟨c.b,i,k⟩ 2 with b:=c.b}:=zbH h (zA _ _);refine zq (zbs hcur 2) (zby (fun hc=>?_) (fun hc=>?_))
 .have hlt:t<zK .i64 1 (zl ⟨c.b,i,k⟩ 2):=qE hc;rw[hw]at hlt;have ht:=zgx (y:=1) h2 (by omega) (by omega) (by omega)
  refine zq (hf h7) (zq (zjK (by rw[zgM];omega)) (hrec (n-1) _ (by omega) ⟨?_,?_,hp _,?_,?_,rfl⟩))
  .show zK .i64 t 1+_=2
   omega
  .show 0<=zK .i64 t 1
   omega
  .intro x hx;rcases jI.1 hx with hx|hx
   .exact h4 x hx
   .rw [qG.1 hx];exact hg h7
  .show ln (ap l [_])=zK .i64 t 1
   rw[zgM];omega
 .have hge:¬ t<zK .i64 1 (zl ⟨c.b,i,k⟩ 2):=jS hc;rw[hw]at hge;unfold ln at h5;exact zsy (hG _ l rfl (zA _ _) (by omega) (by omega) h4)
def zsn (N:Nat)(c:Cur)  : OA :=
 (iter (σ:=(Int×(Int×(Int×(lP×((List Int)×Unit)))))) N (fun r2 s3=>let y2:=s3.2.2.2.2.1;let y1:=(⟨y2,s3.2.1,s3.2.2.1⟩:Cur);let y0:=({ (zf y1 2) with b:=y2}:Cur); (oN (zo y1 2) (cond (ilt s3.1 (zK .i64 1 (zl y1 2))) (oN (zgg y0) (oN (few (ln (ap s3.2.2.2.1 [(zbY y0)]))) (r2 ((zK .i64 s3.1 1),((zW y0).i,((zW y0).h,((ap s3.2.2.2.1 [(zbY y0)]),(y2,())))))))) (some [(.agg [(.s .u8 y2),(.i .i64 (zf y1 2).i),(.i .i64 (zf y1 2).h)]),(aS (.sl .ins) s3.2.2.2.1)])))) (0,(c.i,(c.h,([],(c.b,()))))))
def zNr:FuncId->Nat->Option Tmpl:=zy [(198,0,{n:=19,tm:=[(0,.lp 0 0),(3,.sl 0 []),(4,ti)],lo:=[(0,[.sl 1 [],ti,ti])],ro:=[(0,(.sl .ins),true),(1,.u8,false)]})]
def zlV (c:Cur)(s:Cur)(v0:List (List Ins)):Prop:=(∃N,zsn N c=some (AV.agg (zbT s)::[aS (.sl .ins) v0]))/\(s.b=c.b/\0<=s.i)/\(1<=v0.length/\v0.length<=2/\∀x∈v0,zdq x=true)
def zhY (c:Cur)  : Bool:=wC (zlV c)
def zhZ (c:Cur)  : Cur:=wS (zlV c)
def zn3 (c:Cur)  : List (List Ins):=wV (zlV c)
theorem zCR {c:Cur}(h:zhY c=true):zlV c (zhZ c) (zn3 c):=wG h
theorem zTF (c:Cur)  : 0<=(zhZ c).i:=wP fun h=>h.2.1.2
theorem zTE (c:Cur)(h:∃N,Ends (wE (fun v0=>aS (.sl .ins) v0) c.b fun v0=>1<=v0.length/\v0.length<=2/\∀x∈v0,zdq x=true) (zsn N c)):zhY c=true:=wI (fun _ _ h=>h) h
def zuu:zdo:=rP0 fun c=>(zhY c,zhZ c,[aS (.sl .ins) (zn3 c)])
theorem zG0:zbM Tryz.prog 198 [false,true,true] zuu:=hP0 zeo zV zS8 zx zNr (fun _ h=>(zCR h).1)
theorem zWK {c:Cur}(h:zbd c):zhY c=true:=by
 refine zTE c ⟨3,?_⟩;unfold zsn oN;conv=>zeta
 exact zUp h (P:=fun x=>zdq x=true) (fc:=zgg) (fs:=zW) (fv:=zbY) (R:=fun s l=>AV.agg (zbT s)::[aS (.sl .ins) l]) zBX zhw (fun h=>(zpX (zBX h)).2.2) (fun s l hb hi h1 h2 hl=>⟨s,l,rfl,⟨hb,hi⟩,h1,h2,hl⟩) (fun rec t i k l=>rfl)
def z5z:zcQ:=[(198,([false,true,true],zuu))]++z5y
theorem zS9:zb1 z5z:=zco zS8 (by
 intro x hx;simp only[qF,qP,or_false]at hx;rcases hx with rfl
 .exact zG0)
def zxR (N:Nat)(c:Cur)  : OA :=
 (iter (σ:=(Int×(Int×(Int×(lQ×((List Int)×Unit)))))) N (fun r2 s3=>let y2:=s3.2.2.2.2.1;let y1:=(⟨y2,s3.2.1,s3.2.2.1⟩:Cur);let y0:=({ (zf y1 2) with b:=y2}:Cur); (oN (zo y1 2) (cond (ilt s3.1 (zK .i64 1 (zl y1 2))) (oN (zhY y0) (oN (few (ln (ap s3.2.2.2.1 [(zn3 y0)]))) (r2 ((zK .i64 s3.1 1),((zhZ y0).i,((zhZ y0).h,((ap s3.2.2.2.1 [(zn3 y0)]),(y2,())))))))) (some [(.agg [(.s .u8 y2),(.i .i64 (zf y1 2).i),(.i .i64 (zf y1 2).h)]),(aS (.sl (.sl .ins)) s3.2.2.2.1)])))) (0,(c.i,(c.h,([],(c.b,()))))))
def zUk:FuncId->Nat->Option Tmpl:=zy [(121,0,{n:=19,tm:=[(0,.lp 0 0),(3,.sl 0 []),(4,ti)],lo:=[(0,[.sl 1 [],ti,ti])],ro:=[(0,(.sl (.sl .ins)),true),(1,.u8,false)]})]
def zp2 (c:Cur)(s:Cur)(v0:List (List (List Ins))):Prop:=(∃N,zxR N c=some (AV.agg (zbT s)::[aS (.sl (.sl .ins)) v0]))/\(s.b=c.b/\0<=s.i)/\(1<=v0.length/\v0.length<=2/\∀p∈v0,1<=p.length/\p.length<=2/\∀x∈p,zdq x=true)
def zn4 (c:Cur)  : Bool:=wC (zp2 c)
def zk3 (c:Cur)  : Cur:=wS (zp2 c)
def ztq (c:Cur)  : List (List (List Ins)):=wV (zp2 c)
theorem zKD {c:Cur}(h:zn4 c=true):zp2 c (zk3 c) (ztq c):=wG h
theorem zYQ (c:Cur)  : 0<=(zk3 c).i:=wP fun h=>h.2.1.2
theorem zYP (c:Cur)(h:∃N,Ends (wE (fun v0=>aS (.sl (.sl .ins)) v0) c.b fun v0=>1<=v0.length/\v0.length<=2/\∀p∈v0,1<=p.length/\p.length<=2/\∀x∈p,zdq x=true) (zxR N c)):zn4 c=true:=wI (fun _ _ h=>h) h
def zzJ:zdo:=rP0 fun c=>(zn4 c,zk3 c,[aS (.sl (.sl .ins)) (ztq c)])
theorem zMb:zbM Tryz.prog 121 [false,true,true] zzJ:=hP0 zeo zV zS9 zx zUk (fun _ h=>(zKD h).1)
theorem z4c {c:Cur}(h:zbd c):zn4 c=true:=by
 refine zYP c ⟨3,?_⟩;unfold zxR oN;conv=>zeta
 exact zUp h (P:=fun p=>1<=p.length/\p.length<=2/\∀x∈p,zdq x=true) (fc:=zhY) (fs:=zhZ) (fv:=zn3) (R:=fun s l=>AV.agg (zbT s)::[aS (.sl (.sl .ins)) l]) zWK zTF (fun h=>(zCR (zWK h)).2.2) (fun s l hb hi h1 h2 hl=>⟨s,l,rfl,⟨hb,hi⟩,h1,h2,hl⟩) (fun rec t i k l=>rfl)
def z5A:zcQ:=[(121,([false,true,true],zzJ))]++z5z
theorem zTa:zb1 z5A:=zco zS9 (by
 intro x hx;simp only[qF,qP,or_false]at hx;rcases hx with rfl
 .exact zMb)
theorem zDh {ρ:Type}{G:ρ->Prop}{x:Bool}{a b:Option ρ}(k:Ends G a)(h:x=true:=by first
 |exact zbs (by first|assumption|exact zbH (by assumption) (zA _ _)|exact zbH (by assumption) (zce _ _)|exact zbH (by assumption) (zbX _ _)) _
 |exact zhN (by first|assumption|exact zbH (by assumption) (zA _ _)|exact zbH (by assumption) (zce _ _)) _
 |exact zet (by first|assumption|exact zbH (by assumption) (zA _ _)) (by simp)):Ends G (cond x a b):=zq h k
def zxO (N:Nat)(c:Cur)  : OA :=
 let y5:=(zl c 4);let y0:=({ (zf c 4) with b:=c.b}:Cur);let y4:=(zcV y0 4);let y3:=(zO y0 4);let y1:=({y3 with b:=c.b}:Cur);let y2:=({ (zO y1 2) with b:=c.b}:Cur); (oN (zo c 4) (oN (zcO y0 4) (cond (nB y4) (cond (ine y5 2) (oN (zcO y1 2) (cond (zcV y1 2) (oN (zo y2 256) (some [(.agg [(.s .u8 c.b),(.i .i64 (zf y2 256).i),(.i .i64 (zf y2 256).h)]),(.agg [(.i .i64 y5),(.i .i64 (zl y2 256)),(.b (nB y4))])])) (some [(.agg [(.s .u8 c.b),(.i .i64 (zO y1 2).i),(.i .i64 (zO y1 2).h)]),(.agg [(.i .i64 y5),(.i .i64 0),(.b (nB y4))])]))) (some [(.agg [(.s .u8 c.b),(.i .i64 y3.i),(.i .i64 y3.h)]),(.agg [(.i .i64 y5),(.i .i64 0),(.b (nB y4))])])) (some [(.agg [(.s .u8 c.b),(.i .i64 y3.i),(.i .i64 y3.h)]),(.agg [(.i .i64 y5),(.i .i64 0),(.b (nB y4))])]))))
def zpZ (c:Cur)(s:Cur)(v0:Ctl):Prop:=(∃N,zxO N c=some (AV.agg (zbT s)::[.agg (zmR v0)]))/\(s.b=c.b/\0<=s.i)/\(True)
def ziB (c:Cur)  : Bool:=wC (zpZ c)
def zca (c:Cur)  : Cur:=wS (zpZ c)
def zcq (c:Cur)  : Ctl:=wV (zpZ c)
theorem zYI {c:Cur}(h:ziB c=true):zpZ c (zca c) (zcq c):=wG h
theorem zy0 (c:Cur)  : 0<=(zca c).i:=wP fun h=>h.2.1.2
theorem zYJ (c:Cur)(h:∃N,Ends (wE (fun v0=>.agg (zmR v0)) c.b fun v0=>True) (zxO N c)):ziB c=true:=wI (fun _ _ h=>h) h
def zzG:zdo:=rP0 fun c=>(ziB c,zca c,[.agg (zmR (zcq c))])
theorem zL8:zbM Tryz.prog 169 [false,true,true] zzG:=hP0 zeo zV zTa zx (zy []) (fun _ h=>(zYI h).1)
theorem zXq {c:Cur}(h:zbd c):ziB c=true:=by
 refine zYJ c ⟨0,?_⟩;unfold zxO oN nB;conv=>zeta
 refine zDh (zDh (zby (fun _=>zby (fun _=>zDh (zby (fun _=>zDh (?_)) (fun _=>?_))) (fun _=>?_)) (fun _=>?_)));all_goals exact zbG (fun x=>AV.agg (zmR x)) (v:=⟨_,_,_⟩) (by first|exact zA _ _|exact zce _ _) trivial
def z5B:zcQ:=[(169,([false,true,true],zzG))]++z5A
theorem zHr:zb1 z5B:=zco zTa (by
 intro x hx;simp only[qF,qP,or_false]at hx;rcases hx with rfl
 .exact zL8)
theorem zdA {ρ:Type}{G:ρ->Prop}{x:Bool}{a b:Option ρ}(k:Ends G a)(h:x=true:=by first
 |exact zbs (by first|assumption|exact zbH (by assumption) (zA _ _)|exact zbH (by assumption) (zbX _ _)) _
 |exact zet (by first|assumption|exact zbH (by assumption) (zA _ _)) (by simp)
 |exact zXq (zbH (by assumption) (zA _ _))):Ends G (cond x a b):=zq h k
def zxU (N:Nat)(c:Cur)  : OA :=
 let y13:=({ (zf c 2) with b:=c.b}:Cur);let y8:=(zl c 2);let y2:=(zl y13 2);let y1:=({ (zf y13 2) with b:=c.b}:Cur);let y10:=(zf y1 24);let y5:=(zl y1 24);let y0:=({y10 with b:=c.b}:Cur);let y14:=(zf y0 8);let y12:=({ (zf y0 4) with b:=c.b}:Cur);let y11:=({y14 with b:=c.b}:Cur);let y9:=({ (zf y0 16) with b:=c.b}:Cur);let y7:=({ (zX y0 [16,17]) with b:=c.b}:Cur);let y6:=({ (zX y0 [13,13,14,15]) with b:=c.b}:Cur);let y4:=({ (zf y11 4) with b:=c.b}:Cur);let y3:=({ (zf y12 8) with b:=c.b}:Cur); (share (oN (zbp y0 [13,13,14,15]) (oN (zo y6 8) (some [(.agg [(.s .u8 c.b),(.i .i64 (zf y6 8).i),(.i .i64 (zf y6 8).h)]),(.agg [(.i .i64 (zbi y0 [13,13,14,15])),(.i .i64 y8),(.i .i64 y2),(.i .i64 (zl y6 8)),(.i .i64 0),(.i .i64 0)])]))) (fun t5=>(share (cond (ieq y5 16) (oN (zbp y0 [16,17]) (oN (zo y7 4) (some [(.agg [(.s .u8 c.b),(.i .i64 (zf y7 4).i),(.i .i64 (zf y7 4).h)]),(.agg [(.i .i64 (zbi y0 [16,17])),(.i .i64 y8),(.i .i64 y2),(.i .i64 (zl y7 4)),(.i .i64 0),(.i .i64 0)])]))) (some [(.agg [(.s .u8 c.b),(.i .i64 y10.i),(.i .i64 y10.h)]),(.agg [(.i .i64 1),(.i .i64 y8),(.i .i64 y2),(.i .i64 0),(.i .i64 0),(.i .i64 0)])])) (fun t4=>(share (oN (zo y0 4) (oN (zo y12 8) (oN (zbp y3 [3,3,1,2]) (some [(.agg [(.s .u8 c.b),(.i .i64 (zX y3 [3,3,1,2]).i),(.i .i64 (zX y3 [3,3,1,2]).h)]),(.agg [(.i .i64 2),(.i .i64 y8),(.i .i64 y2),(.i .i64 (zl y0 4)),(.i .i64 (zl y12 8)),(.i .i64 (zbi y3 [3,3,1,2]))])])))) (fun t3=>(share (oN (zo y0 4) (some [(.agg [(.s .u8 c.b),(.i .i64 (zf y0 4).i),(.i .i64 (zf y0 4).h)]),(.agg [(.i .i64 3),(.i .i64 y8),(.i .i64 y2),(.i .i64 (zl y0 4)),(.i .i64 0),(.i .i64 0)])])) (fun t2=>(share (cond (ieq y5 7) (oN (zo y0 8) (some [(.agg [(.s .u8 c.b),(.i .i64 y14.i),(.i .i64 y14.h)]),(.agg [(.i .i64 6),(.i .i64 y8),(.i .i64 y2),(.i .i64 (zl y0 8)),(.i .i64 0),(.i .i64 0)])])) (cond (ieq y5 8) (oN (ziB y0) (cond ((zcq y0).Open) (some [(.agg [(.s .u8 c.b),(.i .i64 (zca y0).i),(.i .i64 (zca y0).h)]),(.agg [(.i .i64 7),(.i .i64 y8),(.i .i64 y2),(.i .i64 (zcq y0).Traps),(.i .i64 (zcq y0).Post),(.i .i64 1)])]) (some [(.agg [(.s .u8 c.b),(.i .i64 (zca y0).i),(.i .i64 (zca y0).h)]),(.agg [(.i .i64 7),(.i .i64 y8),(.i .i64 y2),(.i .i64 (zcq y0).Traps),(.i .i64 (zcq y0).Post),(.i .i64 0)])]))) (cond (ieq y5 9) (oN (zo y0 8) (oN (zo y11 4) (oN (zo y4 100) (some [(.agg [(.s .u8 c.b),(.i .i64 (zf y4 100).i),(.i .i64 (zf y4 100).h)]),(.agg [(.i .i64 8),(.i .i64 y8),(.i .i64 y2),(.i .i64 (zl y0 8)),(.i .i64 (zl y11 4)),(.i .i64 (zl y4 100))])])))) (cond (ieq y5 10) (oN (zo y0 8) (some [(.agg [(.s .u8 c.b),(.i .i64 y14.i),(.i .i64 y14.h)]),(.agg [(.i .i64 9),(.i .i64 y8),(.i .i64 y2),(.i .i64 (zl y0 8)),(.i .i64 0),(.i .i64 0)])])) (cond (ieq y5 11) (some [(.agg [(.s .u8 c.b),(.i .i64 y10.i),(.i .i64 y10.h)]),(.agg [(.i .i64 10),(.i .i64 y8),(.i .i64 y2),(.i .i64 0),(.i .i64 0),(.i .i64 0)])]) (cond (ieq y5 12) (oN (zo y0 16) (oN (zo y9 100) (some [(.agg [(.s .u8 c.b),(.i .i64 (zf y9 100).i),(.i .i64 (zf y9 100).h)]),(.agg [(.i .i64 11),(.i .i64 y8),(.i .i64 y2),(.i .i64 (zl y0 16)),(.i .i64 (zl y9 100)),(.i .i64 0)])]))) (cond (ieq y5 13) (oN (zo y0 16) (some [(.agg [(.s .u8 c.b),(.i .i64 (zf y0 16).i),(.i .i64 (zf y0 16).h)]),(.agg [(.i .i64 12),(.i .i64 y8),(.i .i64 y2),(.i .i64 (zl y0 16)),(.i .i64 0),(.i .i64 0)])])) (cond (ieq y5 14) (cond (ieq y5 14) t5 t4) (cond (ieq y5 15) t5 t4))))))))) (fun t0=>(share (cond (ieq y5 4) (oN (zo y0 100) (some [(.agg [(.s .u8 c.b),(.i .i64 (zf y0 100).i),(.i .i64 (zf y0 100).h)]),(.agg [(.i .i64 4),(.i .i64 y8),(.i .i64 y2),(.i .i64 (zl y0 100)),(.i .i64 0),(.i .i64 0)])])) (cond (ieq y5 5) (cond (ieq y5 5) (some [(.agg [(.s .u8 c.b),(.i .i64 y10.i),(.i .i64 y10.h)]),(.agg [(.i .i64 5),(.i .i64 y8),(.i .i64 y2),(.i .i64 0),(.i .i64 0),(.i .i64 0)])]) t0) (cond (ieq y5 6) (some [(.agg [(.s .u8 c.b),(.i .i64 y10.i),(.i .i64 y10.h)]),(.agg [(.i .i64 5),(.i .i64 y8),(.i .i64 y2),(.i .i64 0),(.i .i64 0),(.i .i64 0)])]) t0))) (fun t1=>(share (cond (ieq y5 2) (cond (ieq y5 2) t2 t1) (cond (ieq y5 3) t2 t1)) (fun t6=>(oN (zo c 2) (oN (zo y13 2) (oN (zo y1 24) (cond (ieq y5 0) (cond (ieq y5 0) t3 t6) (cond (ieq y5 1) t3 t6)))))))))))))))))))
def zp4 (c:Cur)(s:Cur)(v0:GAct):Prop:=(∃N,zxU N c=some (AV.agg (zbT s)::[aT .act v0]))/\(s.b=c.b/\0<=s.i)/\(True)
def ziD (c:Cur)  : Bool:=wC (zp4 c)
def zf9 (c:Cur)  : Cur:=wS (zp4 c)
def zo3 (c:Cur)  : GAct:=wV (zp4 c)
theorem zYT {c:Cur}(h:ziD c=true):zp4 c (zf9 c) (zo3 c):=wG h
theorem zYV (c:Cur)  : 0<=(zf9 c).i:=wP fun h=>h.2.1.2
theorem zYU (c:Cur)(h:∃N,Ends (wE (fun v0=>aT .act v0) c.b fun v0=>True) (zxU N c)):ziD c=true:=wI (fun _ _ h=>h) h
def zzL:zdo:=rP0 fun c=>(ziD c,zf9 c,[aT .act (zo3 c)])
theorem zMg:zbM Tryz.prog 93 [false,true,true] zzL:=hP0 zeo zV zHr zx (zy []) (fun _ h=>(zYT h).1)
theorem z81 {c:Cur}(h:zbd c):ziD c=true:=by
 refine zYU c ⟨0,?_⟩;unfold zxU oN;conv=>zeta
 refine zl1 (zdA (zdA (?_))) (fun _ ht5=>zl1 (zby (fun _=>zdA (zdA (?_))) (fun _=>?_)) (fun _ ht4=>zl1 (zdA (zdA (zdA (?_)))) (fun _ ht3=>zl1 (zdA (?_)) (fun _ ht2=>zl1 (zby (fun _=>zdA (?_)) (fun _=>zby (fun _=>zdA (zby (fun _=>?_) (fun _=>?_))) (fun _=>zby (fun _=>zdA (zdA (zdA (?_)))) (fun _=>zby (fun _=>zdA (?_)) (fun _=>zby (fun _=>?_) (fun _=>zby (fun _=>zdA (zdA (?_))) (fun _=>zby (fun _=>zdA (?_)) (fun _=>zby (fun _=>zby (fun _=>ht5) (fun _=>ht4)) (fun _=>zby (fun _=>ht5) (fun _=>ht4)))))))))) (fun _ ht0=>zl1 (zby (fun _=>zdA (?_)) (fun _=>zby (fun _=>zby (fun _=>?_) (fun _=>ht0)) (fun _=>zby (fun _=>?_) (fun _=>ht0)))) (fun _ ht1=>zl1 (zby (fun _=>zby (fun _=>ht2) (fun _=>ht1)) (fun _=>zby (fun _=>ht2) (fun _=>ht1))) (fun _ ht6=>zdA (zdA (zdA (zby (fun _=>zby (fun _=>ht3) (fun _=>ht6)) (fun _=>zby (fun _=>ht3) (fun _=>ht6))))))))))));all_goals exact zbG (aT .act) (v:=⟨_,_,_,_,_,_⟩) (by first|exact zA _ _|exact zbX _ _|exact zy0 _) trivial
def zjA (N:Nat)  : OA :=
 (iter (σ:=(Int×(lA×Unit))) N (fun r1 s2=>(cond (ilt s2.1 2) (iter (σ:=(Int×(Int×(lA×Unit)))) N (fun r3 s4=>(cond (ilt s4.2.1 2) (iter (σ:=(Int×(Int×(Int×(lA×Unit))))) N (fun r5 s6=>let y0:=(ap s6.2.2.2.1 [(⟨2,s6.1,s6.2.1,s6.2.2.1,(zK .i64 s6.2.2.1 (zkm .i64 3 s6.2.1)),3⟩:GAct),(⟨3,s6.1,s6.2.1,s6.2.2.1,0,0⟩:GAct)]); (cond (ilt s6.2.2.1 3) (oN (few (ln y0)) (r5 (s6.1,(s6.2.1,((zK .i64 s6.2.2.1 1),(y0,())))))) (r3 (s6.1,((zK .i64 s6.2.1 1),(s6.2.2.2.1,())))))) (s4.1,(s4.2.1,(0,(s4.2.2.1,()))))) (r1 ((zK .i64 s4.1 1),(s4.2.2.1,()))))) (s2.1,(0,(s2.2.1,())))) (some [(aS .act s2.2.1)]))) (0,([],())))
def zNs:FuncId->Nat->Option Tmpl:=zy [(115,0,{n:=34,tm:=[(1,.sl 0 []),(2,ti)],lo:=[],ro:=[(0,.act,true)]}),(115,2,{n:=34,tm:=[(1,.sl 0 []),(2,ti),(3,ti)],lo:=[],ro:=[(0,.act,true)]}),(115,4,{n:=34,tm:=[(1,.sl 0 []),(2,ti),(3,ti),(4,ti)],lo:=[],ro:=[(0,.act,true)]})]
def zrd  (v0:List GAct):Prop:=(∃N,zjA N=some [aS .act v0])/\(v0.length<=45)
def zh1  : Bool:=uC (T:=List GAct) (fun r=>zrd r)
def zTH  : List GAct:=uV (fun r=>zrd r)
def zr1  : List GAct:=(zTH)
theorem zCS  (h:zh1=true):zrd zr1:=uG h
theorem zTG  (h:∃N,Ends (fun a=>∃v0,a=[aS .act v0]/\(v0.length<=45)) (zjA N)):zh1=true:=by obtain⟨N,a,e,v0,rfl,h⟩:=h;exact zbf ⟨v0,⟨N,e⟩,h⟩
def zxq:Run:=rF0 (zh1,[aS .act zr1])
theorem zMK  (hc:zh1=true):∃N,zjA N  = some [aS .act zr1]:=by exact(zCS hc).1
theorem zG1:vL 115 zxq:=kF0 zeo zV zHr zx zNs zMK
def zZs:List GAct:=match zjA 10 with
 |some [.one (.s .act l)]=>l
 |_=>[]
theorem zWc:zh1=true:=zTG ⟨10,_,(by kernel_rfl:zjA 10=some [aS .act zZs]),zZs,rfl,Nat.le_of_ble_eq_true (by kernel_rfl)⟩
def z5C:zcQ:=[(93,([false,true,true],zzL))]++z5B
theorem zTb:zb1 z5C:=zco zHr (by
 intro x hx;simp only[qF,qP,or_false]at hx;rcases hx with rfl
 .exact zMg)
def z8n:zZ:=[(115,zxq)]++zRf
theorem zZw:zL z8n:=zi zG1 zeo
theorem zOq {c:Cur}(h:zbd c){m:Int}(h0:0<=m)(hm:m<=1000){G:Ans->Prop}{R:Cur->List GAct->Ans}(hG:∀s l,s.b=c.b->0<=s.i->ln l<=45+m->G (R s l)){F:(Int×Int×Int×Int×List GAct×List Int×Unit->OA)->Int×Int×Int×Int×List GAct×List Int×Unit->OA}(hF:∀rec t i k l,F rec (m,t,i,k,l,c.b,())=bif zo ⟨c.b,i,k⟩ (zK .i64 m 1) then (bif ilt t (zl ⟨c.b,i,k⟩ (zK .i64 m 1)) then (bif ziD { zf ⟨c.b,i,k⟩ (zK .i64 m 1) with b:=c.b } then (bif few (ln (ap l [zo3 { zf ⟨c.b,i,k⟩ (zK .i64 m 1) with b:=c.b }])) then
        rec (m,zK .i64 t 1,(zf9 {zf ⟨c.b,i,k⟩ (zK .i64 m 1) with b:=c.b}).i,(zf9 {zf ⟨c.b,i,k⟩ (zK .i64 m 1) with b:=c.b}).h,ap l [zo3 {zf ⟨c.b,i,k⟩ (zK .i64 m 1) with b:=c.b}],c.b,()) else none) else none) else some (R ⟨c.b,(zf ⟨c.b,i,k⟩ (zK .i64 m 1)).i,(zf ⟨c.b,i,k⟩ (zK .i64 m 1)).h⟩ l)) else none){i0 k0:Int}(hi0:0<=i0){l0:List GAct}(hl0:l0.length<=45):Ends G (iter 1002 F (m,0,i0,k0,l0,c.b,())):=by
 refine zjJ (fun n s=>s.1=m/\s.2.1+(n:Int)=1000/\0<=s.2.1/\0<=s.2.2.1/\(ln s.2.2.2.2.1<=45+s.2.1/\s.2.1<=m)/\s.2.2.2.2.2.1=c.b) ?_ 1002 1000 _ ⟨rfl,rfl,kL 0,hi0,⟨by unfold ln;show ((l0.length:Nat):Int)<=45+0;omega,h0⟩,rfl⟩ (by omega)
 rintro n ⟨q,t,i,k,l,b,u⟩ rec ⟨h0,h1,h2,h3,⟨h5,hq⟩,h6⟩ hrec
 dsimp only at h0 h1 h2 h3 h5 h6 hq
 subst h6;subst h0;rw[hF];have hcur:zbd ⟨c.b,i,k⟩:=zbH h h3;have hw:=zgx (x:=q) (y:=1) (by omega) (by omega) (by omega) (by omega)
 have hx:=zfb hcur (n:=zK .i64 q 1) (by omega)
 have h7:zbd {zf ⟨c.b,i,k⟩ (zK .i64 q 1) with b:=c.b}:=zbH h (zA _ _);refine zq (zbs hcur _) (zby (fun hc=>?_) (fun hc=>?_))
 .have hlt:t<zl ⟨c.b,i,k⟩ (zK .i64 q 1):=qE hc;have ht:=zgx (y:=1) h2 (by omega) (by omega) (by omega)
  refine zq (z81 h7) (zq (zjK (by rw[zgM];omega)) (hrec (n-1) _ (by omega) ⟨rfl,?_,?_,zYV _,⟨?_,?_⟩,rfl⟩))
  .show zK .i64 t 1+_=1000
   omega
  .show 0<=zK .i64 t 1
   omega
  .show ln (ap l [_])<=45+zK .i64 t 1
   rw[zgM];omega
  .show zK .i64 t 1<=q
   omega
 .refine zsy (hG _ l rfl (zA _ _) ?_);omega
def zvB (N:Nat)(c:Cur)(a0:Int):OA:=
 (oN (zcO c 5) (cond (nB (zcV c 5)) (oN zh1 (iter (σ:=(Int×(Int×(Int×(Int×(lA×((List Int)×Unit))))))) N (fun r3 s4=>let y6:=s4.2.2.2.2.2.1;let y4:=(zK .i64 s4.1 1);let y2:=(⟨y6,s4.2.2.1,s4.2.2.2.1⟩:Cur);let y0:=({ (zf y2 y4) with b:=y6}:Cur);let y8:=(ap s4.2.2.2.2.1 [(zo3 y0)]); (oN (zo y2 y4) (cond (ilt s4.2.1 (zl y2 y4)) (oN (ziD y0) (oN (few (ln y8)) (r3 (s4.1,((zK .i64 s4.2.1 1),((zf9 y0).i,((zf9 y0).h,(y8,(y6,()))))))))) (some [(.agg [(.s .u8 y6),(.i .i64 (zf y2 y4).i),(.i .i64 (zf y2 y4).h)]),(aS .act s4.2.2.2.2.1)])))) (a0,(0,((zO c 5).i,((zO c 5).h,(zr1,(c.b,())))))))) (iter (σ:=(Int×(Int×(Int×(Int×(lA×((List Int)×Unit))))))) N (fun r3 s4=>let y7:=s4.2.2.2.2.2.1;let y5:=(zK .i64 s4.1 1);let y3:=(⟨y7,s4.2.2.1,s4.2.2.2.1⟩:Cur);let y1:=({ (zf y3 y5) with b:=y7}:Cur);let y9:=(ap s4.2.2.2.2.1 [(zo3 y1)]); (oN (zo y3 y5) (cond (ilt s4.2.1 (zl y3 y5)) (oN (ziD y1) (oN (few (ln y9)) (r3 (s4.1,((zK .i64 s4.2.1 1),((zf9 y1).i,((zf9 y1).h,(y9,(y7,()))))))))) (some [(.agg [(.s .u8 y7),(.i .i64 (zf y3 y5).i),(.i .i64 (zf y3 y5).h)]),(aS .act s4.2.2.2.2.1)])))) (a0,(0,((zO c 5).i,((zO c 5).h,([],(c.b,())))))))))
def zQu:FuncId->Nat->Option Tmpl:=zy [(53,0,{n:=26,tm:=[(0,.lp 0 0),(1,ti),(5,.sl 0 []),(6,ti)],lo:=[(0,[.sl 1 [],ti,ti])],ro:=[(0,.act,true),(1,.u8,false)]})]
def zn6 (c:Cur)(a0:Int)(s:Cur)(v0:List GAct):Prop:=(∃N,zvB N c a0=some (AV.agg (zbT s)::[aS .act v0]))/\(s.b=c.b/\0<=s.i)/\(ln v0<=45+a0)
def zhz (c:Cur)(a0:Int):Bool:=wC (zn6 c a0)
def zjo (c:Cur)(a0:Int):Cur:=wS (zn6 c a0)
def zkg (c:Cur)(a0:Int):List GAct:=wV (zn6 c a0)
theorem zwc {c:Cur}{a0:Int}(h:zhz c a0=true):zn6 c a0 (zjo c a0) (zkg c a0):=wG h
theorem zFS (c:Cur)(a0:Int):0<=(zjo c a0).i:=wP fun h=>h.2.1.2
theorem zVP (c:Cur)(a0:Int)(h:∃N,Ends (wE (fun v0=>aS .act v0) c.b fun v0=>ln v0<=45+a0) (zvB N c a0)):zhz c a0=true:=wI (fun _ _ h=>h) h
def zw4:zdo:=rP1 dI fun c b=>(zhz c b,zjo c b,[aS .act (zkg c b)])
theorem zJF:zbM Tryz.prog 53 [false,true,true] zw4:=hP1 zZw zV zTb zx zQu (fun _ _ h=>(zwc h).1)
theorem zQW {c:Cur}(h:zbd c){m:Int}(h0:0<=m)(hm:m<=1000):zhz c m=true:=by
 refine zVP c m ⟨1002,?_⟩;unfold zvB oN nB;conv=>zeta
 have g:=zCS zWc;exact zq (zhN h 5) (zby (fun _=>zq zWc (zOq h h0 hm (R:=fun s l=>AV.agg (zbT s)::[aS .act l]) (fun s l hb hi hl=>⟨s,l,rfl,⟨hb,hi⟩,hl⟩) (fun rec t i k l=>rfl) (zce _ _) g.2)) (fun _=>zOq h h0 hm (R:=fun s l=>AV.agg (zbT s)::[aS .act l]) (fun s l hb hi hl=>⟨s,l,rfl,⟨hb,hi⟩,hl⟩) (fun rec t i k l=>rfl) (zce _ _) (jX _)))
def z5D:zcQ:=[(53,([false,true,true],zw4))]++z5C
theorem zTc:zb1 z5D:=zco zTb (by
 intro x hx;simp only[qF,qP,or_false]at hx;rcases hx with rfl
 .exact zJF)
@[simp] abbrev zvJ (l:List (List Int)):Bool:=pc (SmM l)
@[simp] abbrev zms (l:List (List Int)):List (List Int):=l
def zzM:Run:=rF1 (dS (.sl .int)) fun b=>(zvJ b,[aS (.sl .int) (zms b)])
def zEC (N:Nat)(a0:lM):OA:=
 (iter (σ:=(Int×(Int×(lM×(lM×Unit))))) N (fun r2 s3=>let y0:=(ix s3.2.2.2.1 s3.2.1 []); (cond (ilt s3.2.1 s3.1) (oN (inb s3.2.1 (ln s3.2.2.2.1)) (oN (zeM y0) (oN (few (ln (ap s3.2.2.1 [(zeL y0)]))) (r2 (s3.1,((zK .i64 s3.2.1 1),((ap s3.2.2.1 [(zeL y0)]),(s3.2.2.2.1,())))))))) (some [(aS (.sl .int) s3.2.2.1)]))) ((ln a0),(0,([],(a0,())))))
def zQk:FuncId->Nat->Option Tmpl:=zy [(123,0,{n:=20,tm:=[(3,.sl 0 []),(7,.sl 1 []),(8,ti),(9,ti)],lo:=[],ro:=[(0,(.sl .int),true),(1,(.sl .int),false)]})]
theorem zPr (a0:List (List Int))(hc:zvJ a0=true):∃N,zEC N a0=some [aS (.sl .int) (zms a0)]:=by
 have hs:=zQ.1 hc;have hl:=zcC hs.1;refine zcG fun N hNN=>?_;unfold zEC oN;conv=>zeta
 refine(zbn a0 (fun i (t:lM)=>((ln a0),(i:Int),t,a0,())) _ (fun _ x acc κ=>bif zeM x then (cond (few (ln (ap acc [zeL x]))) (κ (ap acc [zeL x])) none) else none) (fun (t:lM)=>(some [(.one (.s (.sl .int) t))])) (fun i hi t rec=>?_) (fun t rec=>?_) _ ([]) (hNN hl.1)).trans ?_;{simp only [zbS hi,zbq hi,zbA hi,zbk hi hl.1,cT]};{simp only [zbJ,cF]};exact zok zeM zeL _ a0 0 [] (fun x hx=>⟨by exact zbf (qT (hs.2 x hx) (by decide)),rfl⟩) (by simpa using hl.2)
theorem zI3:vL 123 zzM:=kF1 zlY zJ zG zx zQk zPr
def ze0 (t:List Slot)(p n:Int):Bool:=bif ieq (zbz t p).Page (-1) then false else (cond (enough (zbz t p).Rights n) (win n 1 3) false)
def zcx (t:List Slot)(p n:Int):Int:=bif ze0 t p n then (zbz t p).Page else -1
theorem z3s {r:Int}(h:zcT r=true):0<=r/\r<=3:=zfp.1 h
theorem zXH {a n:Int}(h:enough a n=true):win n 1 3 = !ieq n 0:=by unfold enough at h;cases h1:zcT a;{rw [h1]at h;cases h};{cases h2:zcT n;{rw [h1,h2]at h;cases h};{have:=z3s h2;have e:(win n 1 3=true)↔(!ieq n 0)=true:=(by rw[zfp];simp[ieq];omega);cases h3:win n 1 3<;>cases h4:(!ieq n 0)<;>simp_all}}
@[simp] abbrev zrb (t:List Slot)(p n:Int):Bool:=true
@[simp] abbrev ziS (t:List Slot)(p n:Int):Int:=zcx t p n
@[simp] abbrev ziT (t:List Slot)(p n:Int):Bool:=ze0 t p n
def zuK:Run:=rF3 (dS .slot) dI dI fun b c d=>(zrb b c d,[aI (ziS b c d),aB (ziT b c d)])
def zzr (N:Nat)(a0:lS)(a1 a2:Int):OA:=
 let y0:=(ziw a0 a1); (oN (znE a0 a1) (cond (ieq y0.Page (-1)) (some [(aI (-1)),(aB false)]) (oN (zeQ y0.Rights a2) (cond (nB (zfl y0.Rights a2)) (some [(aI (-1)),(aB false)]) (cond (ieq a2 0) (some [(aI (-1)),(aB false)]) (some [(aI y0.Page),(aB true)]))))))
theorem zJ3 (a0:List Slot)(a1 a2:Int)(hc:zrb a0 a1 a2=true):∃N,zzr N a0 a1 a2=some [aI (ziS a0 a1 a2),aB (ziT a0 a1 a2)]:=by
 have he:=@zXH (zbz a0 a1).Rights a2;refine⟨0,?_⟩;unfold zzr oN nB;conv=>zeta
 refine must rfl (br (fun _=>?_) (fun _=>must rfl (brN (fun _=>?_) (fun _=>br (fun _=>?_) (fun _=>?_)))));all_goals first|rfl|(simp only [*,ziS,ziT,zcx,ze0,cT,cF]<;>rfl)|simp_all[Ty.cells,ziS,ziT,zcx,ze0]
theorem zD0:vL 306 zuK:=kF3 zlY zJ zG zx (zy []) zJ3
def z4Z:zZ:=[(123,zzM),(306,zuK),(86,zFD),(224,zCs),(225,zFz),(114,zCw)]++z4Y
theorem zlZ:zL z4Z:=zi zI3 (zi zD0 (zi zO9 (zi zLW (zi zO5 (zi zL0 zlY)))))
@[simp] abbrev zhU (m:List (List Int))(p c v:Int):Bool:=pc (SmM m)
@[simp] abbrev zix (m:List (List Int))(p c v:Int):List (List Int):=zbI m p c v
def zxn:Run:=rF4 (dS (.sl .int)) dI dI dI fun b c d e=>(zhU b c d e,[aS (.sl .int) (zix b c d e)])
def zAX (N:Nat)(a0:lM)(a1 a2 a3:Int):OA:=
 let y0:=(zd3 a0); (oN (zfv a0) (oN (zrV a0 a1 a2) (cond (zo2 a0 a1 a2) (oN (zN a3 0 99) (cond (zS a3 0 99) (oN (inb a1 (ln y0)) (oN (inb a2 (ln (ix y0 a1 []))) (share (up y0 a1 (up (ix y0 a1 []) a2 a3)) (fun x5=>(some [(aS (.sl .int) x5)]))))) (some [(aS (.sl .int) y0)]))) (some [(aS (.sl .int) y0)]))))
theorem zMH (a0:List (List Int))(a1 a2 a3:Int)(hc:zhU a0 a1 a2 a3=true):∃N,zAX N a0 a1 a2 a3=some [aS (.sl .int) (zix a0 a1 a2 a3)]:=by
 have hs:=zQ.1 hc;have hm:=(zyA a0 a1 a2).1;refine⟨0,?_⟩;unfold zAX oN;conv=>zeta
 refine mu (must rfl (br (fun _=>must rfl (br (fun _=>mu (mu (shr ?_))) (fun _=>?_))) (fun _=>?_)));all_goals first|rfl|(simp only [*,zix,zbI,cT,cF]<;>rfl)|simp_all[Ty.cells,zix,zbI]
theorem zGS:vL 251 zxn:=kF4 zlZ zJ zG zx (zy []) zMH
def zhB (g:Guest):Bool:=bif canRun g then (cond g.Ctl.Open (ige (zdy g.Pending) 0) false) else false
@[simp] abbrev znF (g:Guest):Bool:=true
@[simp] abbrev zkW (g:Guest):Bool:=zhB g
def zxm:Run:=rF1 (dT .guest) fun b=>(znF b,[aB (zkW b)])
def zAW (N:Nat)(a0:Guest):OA:=
 (oN (zrM a0) (cond (zoR a0) (cond a0.Ctl.Open (oN (zrT a0.Pending) (some [(aB (ige (zmg a0.Pending) 0))])) oF) oF))
theorem zMG (a0:Guest)(hc:znF a0=true):∃N,zAW N a0=some [aB (zkW a0)]:=by refine⟨0,?_⟩;unfold zAW oN;refine must rfl (br (fun _=>br (fun _=>must rfl ?_) (fun _=>?_)) (fun _=>?_));all_goals first|rfl|(simp only [*,zkW,zhB,cT,cF]<;>rfl)|simp_all[Ty.cells,zkW,zhB]
theorem zGR:vL 44 zxm:=kF1 zlZ zJ zG zx (zy []) zMG
def zi8 (p:Int):Int:=bif ilt (zdy p) 0 then p else wsub .i64 p (zob .i64 1 (zdy p))
def zsO (p:Int):Int:=bif ilt (zdy p) 0 then -1 else zdy p
theorem z1D {p:Int}(h:ilt (zdy p) 0=false):wcv .u64 (zdy p)=zdy p/\ile 0 (zdy p)=true/\zLf .i64 p (zob .i64 1 (zdy p))=wsub .i64 p (zob .i64 1 (zdy p)):=by unfold zdy at *;cases h1:zde p;{rw [h1]at h;cases h};{simp only [h1,cT]at h ⊢;obtain⟨h0,h2⟩:=zfp.1 h1;have r:=z0J (P:=fun x=>-1<=scan x/\scan x<=7/\(0<=scan x->wsub .i64 x (zob .i64 1 (scan x))=zLf .i64 x (zob .i64 1 (scan x)))) z3B h0 h2;have h3:0<=scan p:=(by unfold ilt at h;have:=jS h;omega);exact⟨zW9 h3 (by omega),qL h3,(r.2.2 h3).symm⟩}
@[simp] abbrev zpQ (p:Int):Bool:=true
@[simp] abbrev zjj (p:Int):Int:=zi8 p
@[simp] abbrev zjk (p:Int):Int:=zsO p
@[simp] abbrev zlu (p:Int):Bool:=!ilt (zdy p) 0
def zz3:Run:=rF1 dI fun b=>(zpQ b,[aI (zjj b),aI (zjk b),aB (zlu b)])
def zE0 (N:Nat)(a0:Int):OA:=
 (oN (zrT a0) (cond (ilt (zmg a0) 0) (some [(aI a0),(aI (-1)),(aB false)]) (oN (ile 0 (wcv .u64 (zmg a0))) (some [(aI (wsub .i64 a0 (zob .i64 1 (wcv .u64 (zmg a0))))),(aI (zmg a0)),(aB true)]))))
theorem zPQ (a0:Int)(hc:zpQ a0=true):∃N,zE0 N a0=some [aI (zjj a0),aI (zjk a0),aB (zlu a0)]:=by have ht:=@z1D a0;refine⟨0,?_⟩;unfold zE0 oN;refine must rfl (br (fun _=>?_) (fun _=>mu ?_));all_goals first|rfl|(simp only [*,zjj,zjk,zlu,zi8,zsO,cT,cF]<;>rfl)|simp_all[Ty.cells,zjj,zjk,zlu,zi8,zsO]
theorem zJk:vL 287 zz3:=kF1 zlZ zJ zG zx (zy []) zPQ
def saw (g:Guest)(n:Int):Guest:=bif ilt (ln g.Seen) 40 then {g with Seen:=ap g.Seen [n]} else g
@[simp] theorem zNc {g:Guest}(n:Int)(h:SmG g):SmG (saw g n):=by unfold saw;cases h1:ilt (ln g.Seen) 40;{exact h};{have:=qE h1;refine⟨h.1,h.2.1,h.2.2.1,?_⟩;simp[ln] at *;omega}
@[simp] abbrev zDG (g:Guest)(n:Int):Bool:=pc (SmG g)
@[simp] abbrev zyV (g:Guest)(n:Int):Guest:=saw g n
def zOK:Run:=rF2 (dT .guest) dI fun b c=>(zDG b c,[aT .guest (zyV b c)])
def zWa (N:Nat)(a0:Guest)(a1:Int):OA:=
 (oN (zda a0) (cond (ilt (ln (zcW a0).Seen) 40) (oN (few (ln (ap (zcW a0).Seen [a1]))) (some [(aT .guest ({ (zcW a0) with Seen:=(ap (zcW a0).Seen [a1])}:Guest))])) (some [(aT .guest (zcW a0))])))
theorem z0v (a0:Guest)(a1:Int)(hc:zDG a0 a1=true):∃N,zWa N a0 a1=some [aT .guest (zyV a0 a1)]:=by have hs:=zQ.1 hc;have hz:a0.Seen.length<=1048576:=hs.2.2.2;refine⟨0,?_⟩;unfold zWa oN;refine mu (br (fun _=>mu ?_) (fun _=>?_));all_goals first|rfl|(simp only [*,zyV,saw,cT,cF]<;>rfl)|simp_all[Ty.cells,zyV,saw]
theorem zUX:vL 288 zOK:=kF2 zlZ zJ zG zx (zy []) z0v
def stopped (g:Guest)(e:GExit):Guest:={g with Exit:=e}
@[simp] theorem z8Y {g:Guest}(e:GExit)(h:SmG g):SmG (stopped g e):=h
@[simp] abbrev zdO (g:Guest)(e:GExit):Bool:=pc (SmG g)
@[simp] abbrev zdr (g:Guest)(e:GExit):Guest:=stopped g e
def zz1:Run:=rF2 (dT .guest) dE fun b c=>(zdO b c,[aT .guest (zdr b c)])
def zEY (N:Nat)(a0:Guest)(a1:GExit):OA:=
 (oN (zda a0) (some [(aT .guest ({ (zcW a0) with Exit:=a1}:Guest))]))
theorem zPO (a0:Guest)(a1:GExit)(hc:zdO a0 a1=true):∃N,zEY N a0 a1=some [aT .guest (zdr a0 a1)]:=by have hs:=zQ.1 hc;refine⟨0,?_⟩;unfold zEY oN;refine mu ?_;first|rfl|(simp only [*,zdr,stopped,cT,cF]<;>rfl)|simp_all[Ty.cells,zdr,stopped]
theorem zJi:vL 292 zz1:=kF2 zlZ zJ zG zx (zy []) zPO
def zb8 (g:Guest):Guest:=bif ige g.Pc 12 then {g with Pc:=12} else {g with Pc:=zK .i64 g.Pc 1}
@[simp] theorem zkk {g:Guest}(h:SmG g):SmG (zb8 g):=by unfold zb8;cases ige g.Pc 12<;>exact h
@[simp] abbrev zdK (g:Guest):Bool:=pc (SmG g)
@[simp] abbrev zfO (g:Guest):Guest:=zb8 g
def zFG:Run:=rF1 (dT .guest) fun b=>(zdK b,[aT .guest (zfO b)])
def zNL (N:Nat)(a0:Guest):OA:=
 (oN (zda a0) (cond (ige (zcW a0).Pc 12) (some [(aT .guest ({ (zcW a0) with Pc:=12}:Guest))]) (some [(aT .guest ({ (zcW a0) with Pc:=(zK .i64 (zcW a0).Pc 1)}:Guest))])))
theorem zVd (a0:Guest)(hc:zdK a0=true):∃N,zNL N a0=some [aT .guest (zfO a0)]:=by have hs:=zQ.1 hc;refine⟨0,?_⟩;unfold zNL oN;refine mu (br (fun _=>?_) (fun _=>?_));all_goals first|rfl|(simp only [*,zfO,zb8,cT,cF]<;>rfl)|simp_all[Ty.cells,zfO,zb8]
theorem zPc:vL 289 zFG:=kF1 zlZ zJ zG zx (zy []) zVd
def z5a:zZ:=[(251,zxn),(44,zxm),(287,zz3),(288,zOK),(292,zz1),(289,zFG)]++z4Z
theorem zl0:zL z5a:=zi zGS (zi zGR (zi zJk (zi zUX (zi zJi (zi zPc zlZ)))))
def interrupted (g:Guest):Guest:=bif zhB g then saw {g with Pending:=zi8 g.Pending} (zK .i64 100 (zsO g.Pending)) else g
@[simp] theorem zWV {g:Guest}(h:SmG g):SmG (interrupted g):=by unfold interrupted;cases zhB g;{exact h};{exact zNc (g:={g with Pending:=zi8 g.Pending}) _ h}
@[simp] abbrev znA (g:Guest):Bool:=pc (SmG g)
@[simp] abbrev ziR (g:Guest):Guest:=interrupted g
def zrt:Run:=rF1 (dT .guest) fun b=>(znA b,[aT .guest (ziR b)])
def ztJ (N:Nat)(a0:Guest):OA:=
 let y1:=(zK .i64 100 (zjk a0.Pending));let y0:=({a0 with Pending:=(zjj a0.Pending)}:Guest); (oN (znF a0) (cond (nB (zkW a0)) (oN (zda a0) (some [(aT .guest (zcW a0))])) (oN (zpQ a0.Pending) (oN (zDG y0 y1) (some [(aT .guest (zyV y0 y1))])))))
theorem zEn (a0:Guest)(hc:znA a0=true):∃N,ztJ N a0=some [aT .guest (ziR a0)]:=by
 have hs:=zQ.1 hc;have hz:_/\_/\_/\_:=hs;refine⟨0,?_⟩;unfold ztJ oN nB;conv=>zeta
 refine must rfl (brN (fun _=>mu ?_) (fun _=>must rfl (mu ?_)));all_goals first|rfl|(simp only [*,ziR,interrupted,cT,cF]<;>rfl)|simp_all[Ty.cells,ziR,interrupted]
theorem zAA:vL 235 zrt:=kF1 zl0 zJ zG zx (zy []) zEn
def zwS (o:Int):Int:=bif ieq o 3 then 3 else (cond (ieq o 4) 4 (cond (ieq o 5) 5 (cond (ieq o 6) 6 (cond (ieq o 7) 7 2))))
def zba (g:Guest):Int:=bif canRun g then (cond (zhB g) 1 (zwS (zcn g.Prog g.Pc).Op)) else 0
@[simp] abbrev zee (g:Guest):Bool:=true
@[simp] abbrev zmh (g:Guest):Int:=zba g
def zCy:Run:=rF1 (dT .guest) fun b=>(zee b,[aI (zmh b)])
def zIn (N:Nat)(a0:Guest):OA:=
 let y0:=(zfm a0.Prog a0.Pc).Op; (oN (zrM a0) (cond (nB (zoR a0)) (some [(aI 0)]) (oN (znF a0) (cond (zkW a0) (some [(aI 1)]) (oN (ze4 a0.Prog a0.Pc) (cond (ieq y0 3) (some [(aI 3)]) (cond (ieq y0 4) (some [(aI 4)]) (cond (ieq y0 5) (some [(aI 5)]) (cond (ieq y0 6) (some [(aI 6)]) (cond (ieq y0 7) (some [(aI 7)]) (some [(aI 2)])))))))))))
theorem zSF (a0:Guest)(hc:zee a0=true):∃N,zIn N a0=some [aI (zmh a0)]:=by
 refine⟨0,?_⟩;unfold zIn oN nB;conv=>zeta
 refine must rfl (brN (fun _=>?_) (fun _=>must rfl (br (fun _=>?_) (fun _=>must rfl (br (fun _=>?_) (fun _=>br (fun _=>?_) (fun _=>br (fun _=>?_) (fun _=>br (fun _=>?_) (fun _=>br (fun _=>?_) (fun _=>?_))))))))));all_goals first|rfl|(simp only [*,zmh,zba,zwS,cT,cF]<;>rfl)|simp_all[Ty.cells,zmh,zba,zwS]
theorem zch:vL 234 zCy:=kF1 zl0 zJ zG zx (zy []) zSF
def held (g:Guest):Guest:=zb8 {g with Halted:=true}
@[simp] theorem zTN {g:Guest}(h:SmG g):SmG (held g):=zkk (g:={g with Halted:=true}) h
@[simp] abbrev zme (g:Guest):Bool:=pc (SmG g)
@[simp] abbrev zxt (g:Guest):Guest:=held g
def zKv:Run:=rF1 (dT .guest) fun b=>(zme b,[aT .guest (zxt b)])
def zQR (N:Nat)(a0:Guest):OA:=
 let y0:=({a0 with Halted:=true}:Guest); (oN (zdK y0) (some [(aT .guest (zfO y0))]))
theorem zYg (a0:Guest)(hc:zme a0=true):∃N,zQR N a0=some [aT .guest (zxt a0)]:=by
 have hs:=zQ.1 hc;have hz:_/\_/\_/\_:=hs;refine⟨0,?_⟩;unfold zQR oN;conv=>zeta
 refine mu ?_;first|rfl|(simp only [*,zxt,held,cT,cF]<;>rfl)|simp_all[Ty.cells,zxt,held]
theorem zRV:vL 301 zKv:=kF1 zl0 zJ zG zx (zy []) zYg
@[simp] abbrev zyW (g:Guest):Bool:=pc (SmG g)
@[simp] abbrev ztm (g:Guest):Guest:=zb8 g
def zCv:Run:=rF1 (dT .guest) fun b=>(zyW b,[aT .guest (ztm b)])
def zIk (N:Nat)(a0:Guest):OA:=
 (oN (zdK a0) (some [(aT .guest (zfO a0))]))
theorem zSC (a0:Guest)(hc:zyW a0=true):∃N,zIk N a0=some [aT .guest (ztm a0)]:=by have hs:=zQ.1 hc;refine⟨0,?_⟩;unfold zIk oN;refine mu ?_;first|rfl|(simp only [*,ztm,cT,cF]<;>rfl)|simp_all[Ty.cells,ztm]
theorem zLZ:vL 294 zCv:=kF1 zl0 zJ zG zx (zy []) zSC
def loaded (g:Guest)(v:Int):Guest:=zb8 (saw {g with A:=v} v)
@[simp] theorem zKM {g:Guest}(v:Int)(h:SmG g):SmG (loaded g v):=zkk (zNc (g:={g with A:=v}) v h)
@[simp] abbrev zyP (g:Guest)(v:Int):Bool:=pc (SmG g)
@[simp] abbrev ztj (g:Guest)(v:Int):Guest:=loaded g v
def zCk:Run:=rF2 (dT .guest) dI fun b c=>(zyP b c,[aT .guest (ztj b c)])
def zH9 (N:Nat)(a0:Guest)(a1:Int):OA:=
 let y0:=({a0 with A:=a1}:Guest); (oN (zDG y0 a1) (oN (zdK (zyV y0 a1)) (some [(aT .guest (zfO (zyV y0 a1)))])))
theorem zSp (a0:Guest)(a1:Int)(hc:zyP a0 a1=true):∃N,zH9 N a0 a1=some [aT .guest (ztj a0 a1)]:=by
 have hs:=zQ.1 hc;have hz:_/\_/\_/\_:=hs;have hk:SmG (saw {a0 with A:=a1} a1):=zNc (g:={a0 with A:=a1}) a1 hs;refine⟨0,?_⟩;unfold zH9 oN;conv=>zeta
 refine mu (mu ?_);first|rfl|(simp only [*,ztj,loaded,cT,cF]<;>rfl)|simp_all[Ty.cells,ztj,loaded]
theorem zLO:vL 295 zCk:=kF2 zl0 zJ zG zx (zy []) zSp
def zW6 (g:Guest)(w:Int):Guest:=bif ieq w 5 then stopped g (zwT (zcn g.Prog g.Pc).X) else stopped g ⟨4,0,false,0⟩
@[simp] theorem z8Z {g:Guest}(w:Int)(h:SmG g):SmG (zW6 g w):=by unfold zW6;cases ieq w 5<;>exact h
def zd5 (g:Guest):Bool:=zdq g.Prog&&(win g.A 0 99&&(win g.Pc 0 12&&(zdd g.Written 4 8&&(zdd g.Live 4 8&&(zid g.Ctl&&(zde g.Pending&&(ziL g.Exit&&ile (ln g.Seen) 40)))))))
@[simp] abbrev zlp (g:Guest):Bool:=true
@[simp] abbrev zj6 (g:Guest):Bool:=zd5 g
def zzO:Run:=rF1 (dT .guest) fun b=>(zlp b,[aB (zj6 b)])
def zEJ (N:Nat)(a0:Guest):OA:=
 (oN (zyU a0.Prog) (cond (zmf a0.Prog) (oN (zN a0.A 0 99) (cond (zS a0.A 0 99) (oN (zN a0.Pc 0 12) (cond (zS a0.Pc 0 12) (oN (zlt a0.Written 4 8) (cond (zhf a0.Written 4 8) (oN (zlt a0.Live 4 8) (cond (zhf a0.Live 4 8) (oN (zqr a0.Ctl) (cond (zoT a0.Ctl) (oN (zeW a0.Pending) (cond (zeV a0.Pending) (oN (zyO a0.Exit) (cond (ztc a0.Exit) (some [(aB (ile (ln a0.Seen) 40))]) oF)) oF)) oF)) oF)) oF)) oF)) oF)) oF))
theorem zPy (a0:Guest)(hc:zlp a0=true):∃N,zEJ N a0=some [aB (zj6 a0)]:=by refine⟨0,?_⟩;unfold zEJ oN;refine must rfl (br (fun _=>must rfl (br (fun _=>must rfl (br (fun _=>must rfl (br (fun _=>must rfl (br (fun _=>must rfl (br (fun _=>must rfl (br (fun _=>must rfl (br (fun _=>?_) (fun _=>?_))) (fun _=>?_))) (fun _=>?_))) (fun _=>?_))) (fun _=>?_))) (fun _=>?_))) (fun _=>?_))) (fun _=>?_));all_goals first|rfl|(simp only [*,zj6,zd5,cT,cF]<;>rfl)|simp_all[Ty.cells,zj6,zd5]
theorem zI5:vL 149 zzO:=kF1 zl0 zJ zG zx (zy []) zPy
def gAt (b:Bare)(i:Int):Guest:=bif hasB i (ln b.Guests) then ix b.Guests i zD else Ty.dflt .guest
@[simp] theorem zi1 {b:Bare}(i:Int)(h:SmB b):SmG (gAt b i):=by unfold gAt;cases hh:hasB i (ln b.Guests);{exact z9t};{exact z1q h.2.1 hh _}
def z5b:zZ:=[(235,zrt),(234,zCy),(301,zKv),(294,zCv),(295,zCk),(149,zzO)]++z5a
theorem zop:zL z5b:=zi zAA (zi zch (zi zRV (zi zLZ (zi zLO (zi zI5 zl0)))))
def plainly (g:Guest):Guest:=bif ine (zba g) 2 then g else (cond (win g.A 0 99) (cond (win (zcn g.Prog g.Pc).X 0 99) (cond (ieq (zcn g.Prog g.Pc).Op 1) {zb8 g with A:=(zcn g.Prog g.Pc).X} (cond (ieq (zcn g.Prog g.Pc).Op 2) {zb8 g with A:=zpa (zK .i64 g.A (zcn g.Prog g.Pc).X) 100} (cond (ieq (zcn g.Prog g.Pc).Op 8) (cond (ieq g.A 0) {zb8 g with Pc:=(zcn g.Prog g.Pc).X} (zb8 g)) (zb8 g)))) (zb8 g)) (zb8 g))
@[simp] theorem z9m (g:Guest):(zb8 g).Prog=g.Prog:=by unfold zb8;cases ige g.Pc 12<;>rfl
@[simp] theorem z9U (g:Guest):(zb8 g).A=g.A:=by unfold zb8;cases ige g.Pc 12<;>rfl
@[simp] theorem z7T (g:Guest):(zb8 g).Written=g.Written:=by unfold zb8;cases ige g.Pc 12<;>rfl
@[simp] theorem z9l (g:Guest):(zb8 g).Live=g.Live:=by unfold zb8;cases ige g.Pc 12<;>rfl
@[simp] theorem z9B (g:Guest):(zb8 g).Ctl=g.Ctl:=by unfold zb8;cases ige g.Pc 12<;>rfl
@[simp] theorem z7S (g:Guest):(zb8 g).Pending=g.Pending:=by unfold zb8;cases ige g.Pc 12<;>rfl
@[simp] theorem z9k (g:Guest):(zb8 g).Exit=g.Exit:=by unfold zb8;cases ige g.Pc 12<;>rfl
@[simp] theorem z8G (g:Guest):(zb8 g).Halted=g.Halted:=by unfold zb8;cases ige g.Pc 12<;>rfl
@[simp] theorem z9n (g:Guest):(zb8 g).Seen=g.Seen:=by unfold zb8;cases ige g.Pc 12<;>rfl
@[simp] theorem z9C (g:Guest)(x:Int):(zb8 {g with A:=x}).Pc=(zb8 g).Pc:=by unfold zb8;cases ige g.Pc 12<;>rfl
@[simp] theorem zFW {g:Guest}(h:SmG g):SmG (plainly g):=by have hm:=zkk h;unfold plainly;cases ine (zba g) 2;{cases win g.A 0 99;{exact hm};{cases win (zcn g.Prog g.Pc).X 0 99;{exact hm};{cases ieq (zcn g.Prog g.Pc).Op 1;{cases ieq (zcn g.Prog g.Pc).Op 2;{cases ieq (zcn g.Prog g.Pc).Op 8;{exact hm};{cases ieq g.A 0<;>exact hm}};{exact hm}};{exact hm}}}};{exact h}
@[simp] abbrev zv5 (g:Guest):Bool:=pc (SmG g)
@[simp] abbrev zqw (g:Guest):Guest:=plainly g
def zzZ:Run:=rF1 (dT .guest) fun b=>(zv5 b,[aT .guest (zqw b)])
def zEV (N:Nat)(a0:Guest):OA:=
 let y7:=(ieq a0.A 0);let y5:=(zdK a0);let y1:=(aT .guest (zfO a0));let y0:=(zfm a0.Prog a0.Pc);let y8:=({a0 with A:=y0.X}:Guest);let y6:=(ieq y0.Op 8);let y4:=(zS y0.X 0 99);let y3:=(aT .guest ({ (zcW a0) with Pc:=y0.X}:Guest));let y2:=({a0 with A:=(zpa (zK .i64 a0.A y0.X) 100)}:Guest); (oN (zee a0) (cond (ine (zmh a0) 2) (oN (zda a0) (some [(aT .guest (zcW a0))])) (oN (ze4 a0.Prog a0.Pc) (oN (zN a0.A 0 99) (cond (zS a0.A 0 99) (oN (zN y0.X 0 99) (cond y4 (cond (ieq y0.Op 1) (oN (zdK y8) (some [(aT .guest (zfO y8))])) (cond y4 (cond (ieq y0.Op 2) (oN (ine 100 0) (oN (zdK y2) (some [(aT .guest (zfO y2))]))) (cond y4 (cond y6 (cond y7 (oN (zda a0) (some [y3])) (oN y5 (some [y1]))) (oN y5 (some [y1]))) (oN y5 (some [y1])))) (cond y4 (cond y6 (cond y7 (oN (zda a0) (some [y3])) (oN y5 (some [y1]))) (oN y5 (some [y1]))) (oN y5 (some [y1]))))) (cond y4 (cond (ieq y0.Op 2) (oN (ine 100 0) (oN (zdK y2) (some [(aT .guest (zfO y2))]))) (cond y4 (cond y6 (cond y7 (oN (zda a0) (some [y3])) (oN y5 (some [y1]))) (oN y5 (some [y1]))) (oN y5 (some [y1])))) (cond y4 (cond y6 (cond y7 (oN (zda a0) (some [y3])) (oN y5 (some [y1]))) (oN y5 (some [y1]))) (oN y5 (some [y1])))))) (oN y5 (some [y1])))))))
theorem zPL (a0:Guest)(hc:zv5 a0=true):∃N,zEV N a0=some [aT .guest (zqw a0)]:=by
 have hs:=zQ.1 hc;have hz:_/\_/\_/\_:=hs;refine⟨0,?_⟩;unfold zEV oN;conv=>zeta
 refine must rfl (br (fun _=>mu ?_) (fun _=>must rfl (must rfl (br (fun _=>must rfl (br (fun _=>br (fun _=>mu ?_) (fun _=>br (fun _=>br (fun _=>must rfl (mu ?_)) (fun _=>br (fun _=>br (fun _=>br (fun _=>mu ?_) (fun _=>mu ?_)) (fun _=>mu ?_)) (fun _=>mu ?_))) (fun _=>br (fun _=>br (fun _=>br (fun _=>mu ?_) (fun _=>mu ?_)) (fun _=>mu ?_)) (fun _=>mu ?_)))) (fun _=>br (fun _=>br (fun _=>must rfl (mu ?_)) (fun _=>br (fun _=>br (fun _=>br (fun _=>mu ?_) (fun _=>mu ?_)) (fun _=>mu ?_)) (fun _=>mu ?_))) (fun _=>br (fun _=>br (fun _=>br (fun _=>mu ?_) (fun _=>mu ?_)) (fun _=>mu ?_)) (fun _=>mu ?_))))) (fun _=>mu ?_)))));all_goals first|rfl|(simp only [*,zqw,plainly,cT,cF]<;>rfl)|simp_all[Ty.cells,zqw,plainly]
theorem zJg:vL 236 zzZ:=kF1 zop zJ zG zx (zy []) zPL
def address (g:Guest):Int:=bif ine (zba g) 3 then (cond (ine (zba g) 4) (-1) ((zcn g.Prog g.Pc).X)) else (zcn g.Prog g.Pc).X
@[simp] abbrev zpv (g:Guest):Bool:=true
@[simp] abbrev zh7 (g:Guest):Int:=address g
def zzN:Run:=rF1 (dT .guest) fun b=>(zpv b,[aI (zh7 b)])
def zED (N:Nat)(a0:Guest):OA:=
 (oN (zee a0) (cond (ine (zmh a0) 3) (cond (ine (zmh a0) 4) (some [(aI (-1))]) (oN (ze4 a0.Prog a0.Pc) (some [(aI (zfm a0.Prog a0.Pc).X)]))) (oN (ze4 a0.Prog a0.Pc) (some [(aI (zfm a0.Prog a0.Pc).X)]))))
theorem zPs (a0:Guest)(hc:zpv a0=true):∃N,zED N a0=some [aI (zh7 a0)]:=by refine⟨0,?_⟩;unfold zED oN;refine must rfl (br (fun _=>br (fun _=>?_) (fun _=>must rfl ?_)) (fun _=>must rfl ?_));all_goals first|rfl|(simp only [*,zh7,address,cT,cF]<;>rfl)|simp_all[Ty.cells,zh7,address]
theorem zI4:vL 290 zzN:=kF1 zop zJ zG zx (zy []) zPs
def ziI (g:Guest)(t w:Int):Guest:=bif ieq w 6 then stopped g (zx1 (zcn g.Prog g.Pc).X) else (cond (ieq w 5&&zgp t 1) (stopped g (zwT (zcn g.Prog g.Pc).X)) (cond (ieq w 7&&zgp t 2) (stopped g ⟨4,0,false,0⟩) (cond (ieq w 7) (held g) (zb8 g))))
def zjz (t w:Int):Bool:=bif ieq w 6 then false else (cond (ieq w 5&&zgp t 1) false (cond (ieq w 7&&zgp t 2) false true))
@[simp] theorem zCW {g:Guest}(t w:Int)(h:SmG g):SmG (ziI g t w):=by unfold ziI;cases ieq w 6;{cases (ieq w 5&&zgp t 1);{cases (ieq w 7&&zgp t 2);{cases ieq w 7;{exact zkk h};{exact zTN h}};{exact h}};{exact h}};{exact h}
@[simp] abbrev zdB (g:Guest)(t w:Int):Bool:=pc (SmG g)
@[simp] abbrev zcf (g:Guest)(t w:Int):Guest:=ziI g t w
@[simp] abbrev zdb (g:Guest)(t w:Int):Bool:=zjz t w
def zz8:Run:=rF3 (dT .guest) dI dI fun b c d=>(zdB b c d,[aT .guest (zcf b c d),aB (zdb b c d)])
def zE5 (N:Nat)(a0:Guest)(a1 a2:Int):OA:=
 let y3:=(aT .guest (zfO a0));let y2:=(aT .guest (zxt a0));let y1:=(⟨4,0,false,0⟩:GExit);let y0:=(zfm a0.Prog a0.Pc).X; (oN (ze4 a0.Prog a0.Pc) (cond (ieq a2 6) (oN (zns y0) (oN (zdO a0 (zeP y0)) (some [(aT .guest (zdr a0 (zeP y0))),(aB false)]))) (cond (ieq a2 5) (oN (zhs a1 1) (cond (zhd a1 1) (oN (zpM y0) (oN (zdO a0 (zfI y0)) (some [(aT .guest (zdr a0 (zfI y0))),(aB false)]))) (cond (ieq a2 7) (oN (zhs a1 2) (cond (zhd a1 2) (oN (zdO a0 y1) (some [(aT .guest (zdr a0 y1)),(aB false)])) (cond (ieq a2 7) (oN (zme a0) (some [y2,(aB true)])) (oN (zdK a0) (some [y3,(aB true)]))))) (cond (ieq a2 7) (oN (zme a0) (some [y2,(aB true)])) (oN (zdK a0) (some [y3,(aB true)])))))) (cond (ieq a2 7) (oN (zhs a1 2) (cond (zhd a1 2) (oN (zdO a0 y1) (some [(aT .guest (zdr a0 y1)),(aB false)])) (cond (ieq a2 7) (oN (zme a0) (some [y2,(aB true)])) (oN (zdK a0) (some [y3,(aB true)]))))) (cond (ieq a2 7) (oN (zme a0) (some [y2,(aB true)])) (oN (zdK a0) (some [y3,(aB true)])))))))
theorem zPV (a0:Guest)(a1 a2:Int)(hc:zdB a0 a1 a2=true):∃N,zE5 N a0 a1 a2=some [aT .guest (zcf a0 a1 a2),aB (zdb a0 a1 a2)]:=by
 have hs:=zQ.1 hc;refine⟨0,?_⟩;unfold zE5 oN;conv=>zeta
 refine must rfl (br (fun _=>must rfl (mu ?_)) (fun _=>br (fun _=>must rfl (br (fun _=>must rfl (mu ?_)) (fun _=>br (fun _=>must rfl (br (fun _=>mu ?_) (fun _=>br (fun _=>mu ?_) (fun _=>mu ?_)))) (fun _=>br (fun _=>mu ?_) (fun _=>mu ?_))))) (fun _=>br (fun _=>must rfl (br (fun _=>mu ?_) (fun _=>br (fun _=>mu ?_) (fun _=>mu ?_)))) (fun _=>br (fun _=>mu ?_) (fun _=>mu ?_)))));all_goals first|rfl|(simp only [*,zcf,zdb,ziI,zjz,cT,cF]<;>rfl)|simp_all[Ty.cells,zcf,zdb,ziI,zjz]
theorem zJx:vL 297 zz8:=kF3 zop zJ zG zx (zy []) zPV
def zb7 (b:Bare):Bool:=bif b.Guests.all zd5 then (zkC b.Memory 8&&(win (ln b.Guests) 1 2&&(ile (ln b.Outs) 40&&zde b.Pending))) else false
@[simp] abbrev zno (b:Bare):Bool:=true
@[simp] abbrev zej (b:Bare):Bool:=zb7 b
def zCd:Run:=rF1 (dT .bare) fun b=>(zno b,[aB (zej b)])
def zH1 (N:Nat)(a0:Bare):OA:=
 (iter (σ:=(Int×(Int×(lM×(lG×((List Int)×Unit)))))) N (fun r2 s3=>let y0:=s3.2.2.2.1; (cond (ilt s3.1 (ln y0)) (oN (inb s3.1 (ln y0)) (oN (zlp (ix y0 s3.1 zD)) (cond (nB (zj6 (ix y0 s3.1 zD))) oF (r2 ((zK .i64 s3.1 1),(s3.2.1,(s3.2.2.1,(y0,(s3.2.2.2.2.1,()))))))))) (oN (zqu s3.2.2.1 8) (cond (zkT s3.2.2.1 8) (oN (zN (ln y0) 1 2) (cond (zS (ln y0) 1 2) (cond (ile (ln s3.2.2.2.2.1) 40) (oN (zeW s3.2.1) (some [(aB (zeV s3.2.1))])) oF) oF)) oF)))) (0,(a0.Pending,(a0.Memory,(a0.Guests,(a0.Outs,()))))))
def zT8:FuncId->Nat->Option Tmpl:=zy [(304,0,{n:=38,tm:=[(1,.lp 0 0),(3,ti)],lo:=[(0,[.sl 0 [],.sl 1 [],.sl 2 [],ti])],ro:=[(0,(.sl .int),false),(1,.guest,false),(2,.int,false)]})]
theorem zSh (a0:Bare)(hb:zcP big [aT .bare a0])(hc:zno a0=true):∃N,zH1 N a0=some [aB (zej a0)]:=by
 have hl:(_:List _).length<=big:=((zem hb).1 (.s .guest a0.Guests) (by simp[AV.cvs,Ty.cells])).len;refine zcG fun N hNN=>?_;unfold zH1 oN nB;conv=>zeta
 refine(zbn a0.Guests (fun i (t:Unit)=>((i:Int),a0.Pending,a0.Memory,a0.Guests,a0.Outs,())) _ (fun _ x (_:Unit) κ=>bif (zd5) x then κ () else oF) (fun (t:Unit)=>(cond (zqu a0.Memory 8) (cond (zkT a0.Memory 8) (cond (zN (ln a0.Guests) 1 2) (cond (zS (ln a0.Guests) 1 2) (cond (ile (ln a0.Outs) 40) (cond (zeW a0.Pending) (some [(.one (.b (zeV a0.Pending)))]) none) oF) oF) none) oF) none)) (fun i hi t rec=>?_) (fun t rec=>?_) _ () (hNN hl)).trans ?_;{simp only [zbS hi,zbq hi,zbA hi,zbk hi hl,cT];exact zoj rfl};{simp only [zbJ,cF]};rw[zmr (zd5)];refine br (fun h0=>?_) (fun h0=>?_);{refine must rfl ?_;refine br (fun h1=>?_) (fun h1=>?_);{refine must rfl ?_;refine br (fun h2=>?_) (fun h2=>?_);{refine br (fun h3=>?_) (fun h3=>?_);{refine must rfl ?_;first|rfl|(simp only [h0,h1,h2,h3,zej,zb7,cT,cF]<;>rfl)|(simp_all [Ty.cells,zej,zb7];done)};{first|rfl|(simp only [h0,h1,h2,h3,zej,zb7,cT,cF]<;>rfl)|(simp_all [Ty.cells,zej,zb7];done)}};{first|rfl|(simp only [h0,h1,h2,zej,zb7,cT,cF]<;>rfl)|(simp_all [Ty.cells,zej,zb7];done)}};{first|rfl|(simp only [h0,h1,zej,zb7,cT,cF]<;>rfl)|(simp_all [Ty.cells,zej,zb7];done)}};{first|rfl|(simp only [h0,zej,zb7,cT,cF]<;>rfl)|(simp_all [Ty.cells,zej,zb7];done)}
theorem zLH:vL 304 zCd:=hF1 zop zJ zG zx zT8 zSh
@[simp] abbrev zeA (b:Bare):Bool:=pc (SmB b)
@[simp] abbrev zcm (b:Bare):Bare:=b
def zz7:Run:=rF1 (dT .bare) fun b=>(zeA b,[aT .bare (zcm b)])
def zE4 (N:Nat)(a0:Bare):OA:=
 (oN (zfv a0.Memory) (oN (ze6 a0.Guests) (oN (few (ln (ap [] a0.Outs))) (some [(aT .bare (⟨(zd3 a0.Memory),(zfy a0.Guests),(ap [] a0.Outs),a0.Pending⟩:Bare))]))))
theorem zPU (a0:Bare)(hc:zeA a0=true):∃N,zE4 N a0=some [aT .bare (zcm a0)]:=by have hs:=zQ.1 hc;have hz:_/\_/\_:=hs;refine⟨0,?_⟩;unfold zE4 oN;refine mu (mu (mu ?_));first|rfl|(simp only [*,zcm,cT,cF]<;>rfl)|simp_all[Ty.cells,zcm]
theorem zJw:vL 298 zz7:=kF1 zop zJ zG zx (zy []) zPU
def z5c:zZ:=[(236,zzZ),(290,zzN),(297,zz8),(304,zCd),(298,zz7)]++z5b
theorem z2t:zL z5c:=zi zJg (zi zI4 (zi zJx (zi zLH (zi zJw zop))))
def zdV (b:Bare)(i:Int)(x:Guest):Bare:={b with Guests:=up b.Guests i x}
def zm7 (b:Bare)(n:Int):Bare:=bif ilt (ln b.Outs) 40 then {b with Outs:=ap b.Outs [n]} else b
@[simp] theorem zmk {b:Bare}{i:Int}{x:Guest}(h:SmB b)(hx:SmG x):SmB (zdV b i x):=⟨h.1,zDI h.2.1 hx,h.2.2⟩
@[simp] theorem zY4 {b:Bare}{n:Int}(h:SmB b):SmB (zm7 b n):=by unfold zm7;cases h1:ilt (ln b.Outs) 40;{exact h};{have:=qE h1;refine⟨h.1,h.2.1,?_⟩;simp[ln] at *;omega}
@[simp] theorem z9O (b:Bare)(n:Int):(zm7 b n).Guests=b.Guests:=by unfold zm7;cases ilt (ln b.Outs) 40<;>rfl
@[simp] theorem zy9 {m:List (List Int)}{p c v:Int}(h:SmM m):SmM (zbI m p c v):=by unfold zbI;cases h1:zhb m p c;{exact h};{cases h2:win v 0 99;{exact h};{exact zKO h (by simpa using z8S h ((zyA m p c).1 h1).1 [])}}
def zXt:zZ:=z5c
theorem zsu:zL zXt:=z2t
def zmG (b:Bare)(g:Int)(x:Guest)(w:Bool):Bare :=
 bif ze0 x.Live (zbg (address x)) (zb9 w) then
  (bif w then zdV {b with Memory:=zbI b.Memory (zcx x.Live (zbg (address x)) (zb9 w)) (zc4 (address x)) x.A} g (zb8 x)
  else zdV b g (loaded x (cellAt b.Memory (zcx x.Live (zbg (address x)) (zb9 w)) (zc4 (address x)))))
 else zdV b g (stopped x (zqc (zbg (address x)) w))
def zDJ (b:Bare)(g:Int)(x:Guest)(w:Int):Bare :=
 zdV (cond (cond (zjz x.Ctl.Traps w) (ieq w 5) false) (zm7 b (zcn x.Prog x.Pc).X) b) g (ziI x x.Ctl.Traps w)
def stepped (b:Bare)(g:Int)(x:Guest)(w:Int):Bare :=
 bif ieq w 1 then zdV b g (interrupted x) else (cond (ieq w 2) (zdV b g (plainly x)) (cond (ieq w 3) (zmG b g x false) (cond (ieq w 4) (zmG b g x true) (zDJ b g x w))))
def zkr (b:Bare)(g:Int):Bool:=bif hasB g (ln b.Guests) then (cond (zb7 b) (!ieq (zba (gAt b g)) 0) false) else false
def zhj (b:Bare)(g:Int):Bare:=bif zkr b g then stepped b g (gAt b g) (zba (gAt b g)) else b
@[simp] theorem zWU {b:Bare}{g:Int}{x:Guest}{w:Bool}(h:SmB b)(hx:SmG x):SmB (zmG b g x w):=by unfold zmG;cases ze0 x.Live (zbg (address x)) (zb9 w);{exact zmk h hx};{cases w;{exact zmk h (zKM _ hx)};{exact⟨zy9 h.1,zDI h.2.1 (zkk hx),h.2.2⟩}}
@[simp] theorem z7F {b:Bare}{g:Int}{x:Guest}{w:Int}(h:SmB b)(hx:SmG x):SmB (zDJ b g x w):=by unfold zDJ;cases (cond (zjz x.Ctl.Traps w) (ieq w 5) false);{exact zmk h (zCW _ _ hx)};{exact zmk (zY4 h) (zCW _ _ hx)}
@[simp] theorem zVY {b:Bare}{g:Int}{x:Guest}{w:Int}(h:SmB b)(hx:SmG x):SmB (stepped b g x w):=by unfold stepped;cases ieq w 1;{cases ieq w 2;{cases ieq w 3;{cases ieq w 4;{exact z7F h hx};{exact zWU h hx}};{exact zWU h hx}};{exact zmk h (zFW hx)}};{exact zmk h (zWV hx)}
@[simp] theorem z9Q {b:Bare}{g:Int}(h:SmB b):SmB (zhj b g):=by unfold zhj;cases zkr b g;{exact h};{exact zVY h (zi1 g h)}
theorem z9x (x:Guest):ieq (zba x) 0=false->ieq (zba x) 1=false->ieq (zba x) 2=false->ieq (zba x) 3=false->ieq (zba x) 4=false->ieq (zba x) 5=false->ieq (zba x) 6=false->ieq (zba x) 7=true:=by unfold zba zwS;cases canRun x;{intro h;cases h};{cases zhB x;{simp only [cT,cF];generalize (zcn x.Prog x.Pc).Op=o;cases ieq o 3<;>cases ieq o 4<;>cases ieq o 5<;>cases ieq o 6<;>cases ieq o 7<;>simp [ieq]};{intro _ h;cases h}}
def SmK (k:Kept):Prop:=k.Known.length<=1048576/\k.Slots.length<=1048576
def zA3 (l:List Kept):Prop:=l.length<=1048576/\∀x∈l,SmK x
def ze8 (m:Mon):Prop:=m.Outer.length<=1048576/\SmM m.Out/\m.Dirty.length<=1048576/\zk7 m.Guests/\m.Outs.length<=1048576/\zA3 m.Tables
def zp7 (l:List Mon):Prop:=l.length<=1048576/\∀x∈l,ze8 x
def SmH (h:Host):Prop:=SmM h.Memory/\zp7 h.Mons/\h.Buffer.length<=1048576/\h.IoBuffer.length<=1048576
@[simp] theorem zwx (k:Kept):(∀c∈Ty.cells .kept k,CVB sm c)↔SmK k:=by simp[Ty.cells,SmK,z3N]
@[simp] theorem z2B (l:List Kept):CVB sm (.s .kept l)↔zA3 l:=by rw[zku];simp only[zwx];rfl
@[simp] theorem zWe (m:Mon):(∀c∈Ty.cells .mon m,CVB sm c)↔ze8 m:=by simp only[Ty.cells,qF,qP,or_false,vG,forall_eq,zoq,ztT,z2B,zXC,zUH,zUG,z5o,and_true,true_and];rfl
@[simp] theorem z6H (l:List Mon):CVB sm (.s .mon l)↔zp7 l:=by rw[zku];simp only[zWe];rfl
@[simp] theorem zbb (h:Host):zb2 h↔SmH h:=by unfold zb2;simp only[zbj,qF,qP,or_false,vG,forall_eq,zoq,z6H,zRv];rfl
theorem zbN {p:Prop}(h:p):pc p=true:=zbf h
theorem zxA {l:List Kept}{i:Int}{x:Kept}(h:zA3 l)(hx:SmK x):zA3 (up l i x):=by refine⟨by simpa using h.1,fun y hy=>?_⟩;rcases qZ hy with hy|rfl;{exact h.2 y hy};{exact hx}
theorem zia {l:List Mon}{i:Int}{x:Mon}(h:zp7 l)(hx:ze8 x):zp7 (up l i x):=by refine⟨by simpa using h.1,fun y hy=>?_⟩;rcases qZ hy with hy|rfl;{exact h.2 y hy};{exact hx}
theorem zwD {α:Type}{l:List α}(h:l.length<=1048576):few (ln (ap [] l))=true:=by rw[ziJ,z6Q];omega
@[simp] abbrev zbP (h:Host):Bool:=pc (zb2 h)
@[simp] abbrev zn (h:Host):Host:=h
def zz9:Run:=rF1 dH fun b=>(zbP b,[aH (zn b)])
def zE6 (N:Nat)(a0:Host):OA:=
 (oN (zfv a0.Memory) (oN (few (ln (ap [] a0.Buffer))) (oN (few (ln (ap [] a0.IoBuffer))) (iter (σ:=(Int×(lM×(lN×(lE×(lE×(lM×(lN×(lE×(lE×(lM×(lN×(lE×(lE×Unit)))))))))))))) N (fun r2 s3=>let y2:=s3.2.2.2.2.2.2.2.2.2.2.2.2.1;let y1:=(ix s3.2.2.1 s3.1 zh);let y0:=(ap s3.2.2.2.2.2.2.2.2.2.2.1 [(zmi y1)]); (cond (ilt s3.1 (ln s3.2.2.1)) (oN (inb s3.1 (ln s3.2.2.1)) (oN (ziC y1) (oN (few (ln y0)) (r2 ((zK .i64 s3.1 1),(s3.2.1,(s3.2.2.1,(s3.2.2.2.1,(s3.2.2.2.2.1,(s3.2.2.2.2.2.1,(s3.2.2.2.2.2.2.1,(s3.2.2.2.2.2.2.2.1,(s3.2.2.2.2.2.2.2.2.1,(s3.2.2.2.2.2.2.2.2.2.1,(y0,(s3.2.2.2.2.2.2.2.2.2.2.2.1,(y2,()))))))))))))))))) (some [(aH (⟨s3.2.2.2.2.2.2.2.2.2.1,s3.2.2.2.2.2.2.2.2.2.2.1,s3.2.2.2.2.2.2.2.2.2.2.2.1,y2⟩:Host))]))) (0,(a0.Memory,(a0.Mons,(a0.Buffer,(a0.IoBuffer,([],([],([],([],((zd3 a0.Memory),([],((ap [] a0.Buffer),((ap [] a0.IoBuffer),())))))))))))))))))
def zQs:FuncId->Nat->Option Tmpl:=zy [(73,0,{n:=36,tm:=[(1,.lp 0 0),(2,.lp 1 0),(3,.lp 2 0),(4,ti)],lo:=[(0,[.sl 0 [],.sl 1 [],.sl 2 [],.sl 3 []]),(1,[.sl 4 [],.sl 5 [],.sl 6 [],.sl 7 []]),(2,[.sl 8 [],.sl 9 [],.sl 10 [],.sl 11 []])],ro:=[(0,(.sl .int),false),(1,.mon,false),(2,.entry,false),(3,.entry,false),(4,(.sl .int),true),(5,.mon,true),(6,.entry,true),(7,.entry,true),(8,(.sl .int),true),(9,.mon,true),(10,.entry,true),(11,.entry,true)]})]
theorem zPW (a0:Host)(hc:zbP a0=true):∃N,zE6 N a0=some [aH (zn a0)]:=by
 obtain⟨h1,h2,h3,h4⟩:=(zbb a0).1 (zQ.1 hc);have hl:=zcC h2.1;refine zcG fun N hNN=>?_;unfold zE6 oN;conv=>zeta
 refine must (zbN ((zoq _).2 h1)) (must (zwD h3) (must (zwD h4) ?_));refine(zbn a0.Mons (fun i (t:lN)=>((i:Int),a0.Memory,a0.Mons,a0.Buffer,a0.IoBuffer,[],[],[],[],(zd3 a0.Memory),t,(ap [] a0.Buffer),(ap [] a0.IoBuffer),())) _ (fun _ x acc κ=>bif ziC x then (cond (few (ln (ap acc [zmi x]))) (κ (ap acc [zmi x])) none) else none) (fun (t:lN)=>(some [(.agg (zbj (⟨(zd3 a0.Memory),t,(ap [] a0.Buffer),(ap [] a0.IoBuffer)⟩:Host)))])) (fun i hi t rec=>?_) (fun t rec=>?_) _ ([]) (hNN hl.1)).trans ?_;{simp only [zbS hi,zbq hi,zbA hi,zbk hi hl.1,cT]};{simp only [zbJ,cF]};exact zok ziC zmi _ a0.Mons 0 [] (fun x hx=>⟨zbN ((zWe x).2 (h2.2 x hx)),rfl⟩) (by simpa using hl.2)
theorem zJy:vL 73 zz9:=kF1 zsu zJ zG zx zQs zPW
@[simp] abbrev zm0 (k:Kept):Bool:=pc (SmK k)
@[simp] abbrev zfs (k:Kept):Kept:=k
def zw9:Run:=rF1 (dT .kept) fun b=>(zm0 b,[aT .kept (zfs b)])
def zAG (N:Nat)(a0:Kept):OA:=
 (oN (few (ln (ap [] a0.Known))) (oN (zqJ a0.Slots) (some [(aT .kept (⟨(ap [] a0.Known),(zlg a0.Slots)⟩:Kept))])))
theorem zMo (a0:Kept)(hc:zm0 a0=true):∃N,zAG N a0=some [aT .kept (zfs a0)]:=by have hs:=zQ.1 hc;obtain⟨h1,h2⟩:=hs;have hs1:a0.Known.length<=2147483648:=(by omega);have hs2:a0.Slots.length<=2147483648:=(by omega);refine⟨0,?_⟩;unfold zAG oN;refine mu (mu ?_);first|rfl|(simp only [*,zfs,cT,cF]<;>rfl)|simp_all[Ty.cells,zfs]
theorem zGD:vL 202 zw9:=kF1 zsu zJ zG zx (zy []) zMo
def z4P:zZ:=[(73,zz9),(202,zw9)]++zXt
theorem z2s:zL z4P:=zi zJy (zi zGD zsu)
def z4Q:zZ:=z4P
theorem zRo:zL z4Q:=z2s
def allI {α:Type}(p:Nat->α->Bool):List α->Nat->Bool
 |[],_=>true
 |x::l,i=>p i x&&allI p l (i+1)
theorem zRJ {α ρ:Type}(p:Nat->α->Bool)(r:Option ρ)(K:Unit->Option ρ):∀(l:List α) (i:Nat),goL (fun i x (_:Unit) k=>bif p i x then k () else r) K l i ()=bif allI p l i then K () else r
 |[],_=>rfl
 |x::l,i=>by simp only[goL,allI];cases p i x;{rfl};{simp only [cT,uZ];exact zRJ p r K l (i+1)}
theorem zNU {α:Type}(q:α->Bool)(l:List α)(d:α):∀(n i:Nat),i+n<=l.length->zoi (fun j=>q (ix l (j:Int) d)) n i=((l.drop i).take n).all q
 | 0,i,_=>by simp[zoi]
 |n+1,i,h=>by have hi:i<l.length:=(by omega);rw[kX hi,List.take_succ_cons,kW,<- zNU q l d n (i+1) (by omega)];simp only[zoi,zbA hi]
def sameKey (a b:Entry):Bool:=bif ieq a.Tag b.Tag then ieq a.Page b.Page else false
def alone (l:List Entry)(i:Nat)(x:Entry):Bool:=(l.take i).all fun y=>!sameKey x y
def ze9 (l:List Entry):Bool:=bif allI (alone l) l 0 then ile (ln l) 6 else false
@[simp] abbrev znr (l:List Entry):Bool:=true
@[simp] abbrev znq (l:List Entry):Bool:=ze9 l
def zxd:Run:=rF1 (dS .entry) fun b=>(znr b,[aB (znq b)])
def zAM (N:Nat)(a0:lE):OA:=
 (iter (σ:=(Int×(lE×Unit))) N (fun r2 s3=>(cond (ilt s3.1 (ln s3.2.1)) (iter (σ:=(Int×(Int×(lE×Unit)))) N (fun r4 s5=>let y0:=s5.2.2.1;let y2:=(ix y0 s5.2.1 zh4);let y1:=(r4 (s5.1,((zK .i64 s5.2.1 1),(y0,())))); (cond (ilt s5.2.1 s5.1) (oN (inb s5.1 (ln y0)) (oN (inb s5.2.1 (ln y0)) (cond (ieq (ix y0 s5.1 zh4).Tag y2.Tag) (oN (inb s5.1 (ln y0)) (oN (inb s5.2.1 (ln y0)) (cond (ieq (ix y0 s5.1 zh4).Page y2.Page) oF y1))) y1))) (r2 ((zK .i64 s5.1 1),(y0,()))))) (s3.1,(0,(s3.2.1,())))) (some [(aB (ile (ln s3.2.1) 6))]))) (0,(a0,())))
def zNk:FuncId->Nat->Option Tmpl:=zy [(88,0,{n:=43,tm:=[(0,.sl 0 []),(3,ti)],lo:=[],ro:=[(0,.entry,false)]}),(88,2,{n:=43,tm:=[(0,.sl 0 []),(3,ti),(4,ti)],lo:=[],ro:=[(0,.entry,false)]})]
theorem zMt (a0:List Entry)(hb:zcP big [aS .entry a0])(hc:znr a0=true):∃N,zAM N a0=some [aB (znq a0)]:=by
 have hl:=(len0 hb);refine zcG fun N hNN=>?_;unfold zAM oN;conv=>zeta
 refine(zbn a0 (fun i (t:Unit)=>((i:Int),a0,())) _ (fun i (x:Entry) (_:Unit) κ=>bif alone a0 i x then κ () else oF) (fun (t:Unit)=>(some [(.one (.b (ile (ln a0) 6)))])) (fun i hi t rec=>?_) (fun t rec=>?_) _ () (hNN hl)).trans ?_;{simp only [zbS hi,zbq hi,zbA hi,zbk hi hl,cT];refine(zHa i (fun (j:Nat) (_:Unit)=>((i:Int),((j:Int),(a0,())))) _ (fun j (_:Unit) κ=>bif !sameKey a0[i] (ix a0 (j:Int) zh4) then κ () else oF) (fun _=>rec (((i+1:Nat):Int),(a0,()))) (fun j hj u rec1=>?_) (fun u rec1=>?_) _ () (hNN (by omega))).trans ?_;{have hj2:j<a0.length:=(by omega);simp only[show ilt (j:Int) (i:Int)=true from qL (by omega),zbq hi,zbq hj2,zbA hi,zbk hj2 hl,cT];unfold sameKey;cases ieq a0[i].Tag (ix a0 (j:Int) zh4).Tag<;>cases ieq a0[i].Page (ix a0 (j:Int) zh4).Page<;>rfl};{simp only [show ilt (i:Int) (i:Int)=false from qS (by omega),zbk hi hl,cF]};rw[zLu (fun j=>!sameKey a0[i] (ix a0 (j:Int) zh4)),zNU (fun y=>!sameKey a0[i] y) a0 _ i 0 (by omega)];rfl};{simp only [zbJ,cF]};rw[zRJ (alone a0)];unfold znq ze9;cases allI (alone a0) a0 0<;>rfl
theorem zGH:vL 88 zxd:=hF1 zRo zJ zG zx zNk zMt
def z4R:zZ:=[(88,zxd)]++z4Q
theorem zRp:zL z4R:=zi zGH zRo
theorem z7b (a b:Int):igt a b = !ile a b:=by unfold igt ile;by_cases h:a<=b;{rw [qL h,qS (by omega)];rfl};{rw [qS h,qL (by omega)];rfl}
theorem stB {c M:Bool}{E:OA}(h:c=true->E=some [AV.one (.b M)]):(cond (cond c false true) (some [AV.one (.b false)]) E)=some [AV.one (.b (cond c M false))]:=by cases c;{rfl};{exact h rfl}
theorem stI {a b:Int}{M:Bool}{E:OA}(h:ieq a b=true->E=some [AV.one (.b M)]):(cond (ine a b) (some [AV.one (.b false)]) E)=some [AV.one (.b (cond (ieq a b) M false))]:=by rw[zDt];cases hh:ieq a b;{rfl};{exact h hh}
def zmw (s:Slot)(p:List Int):Bool:=bif zc3 s noSlot then zct p else (cond (enough s.Rights 1) (ile (ln p) 0) false)
def fits (m:Mon)(j:Nat):Bool:=zmw (ix m.Outer (j:Int) zbc) (ix m.Out (j:Int) [])
def zeO (m:Mon):Bool:=bif win (ln m.Guests) 1 2 then (cond (ieq (ln m.Tables) (ln m.Guests)) (cond (zdd m.Outer 8 12) (cond (ieq (ln m.Out) 8) (cond (ieq (ln m.Dirty) 8) (cond (ile (ln m.Outs) 40) (cond (zde m.Pending) (cond (win m.Traps 0 3) (cond (win m.Own 0 1000000000) (cond (m.Guests.all zd5) (zoi (fits m) 8 0) false) false) false) false) false) false) false) false) false) else false
theorem zvn {t:List Slot}{n p:Int}(h:zdd t n p=true):ln t=n:=by unfold zdd at h;cases h1:t.all (fun s=>zdX s p);{rw [h1]at h;cases h};{rw [h1]at h;exact qE h}
@[simp] abbrev zqv (m:Mon):Bool:=true
@[simp] abbrev zsd (m:Mon):Bool:=zeO m
def zFF:Run:=rF1 (dT .mon) fun b=>(zqv b,[aB (zsd b)])
def zNK (N:Nat)(a0:Mon):OA:=
 (oN (zN (ln a0.Guests) 1 2) (cond (nB (zS (ln a0.Guests) 1 2)) oF (cond (ine (ln a0.Tables) (ln a0.Guests)) oF (oN (zlt a0.Outer 8 12) (cond (nB (zhf a0.Outer 8 12)) oF (cond (ine (ln a0.Out) 8) oF (cond (ine (ln a0.Dirty) 8) oF (iter (σ:=(Int×(Int×(Int×(Int×(lS×(lM×(lB×(lG×((List Int)×(lK×Unit))))))))))) N (fun r2 s3=>let y3:=s3.2.2.2.2.2.2.2.1; (cond (ilt s3.1 (ln y3)) (oN (inb s3.1 (ln y3)) (oN (zlp (ix y3 s3.1 zD)) (cond (nB (zj6 (ix y3 s3.1 zD))) oF (r2 ((zK .i64 s3.1 1),(s3.2.1,(s3.2.2.1,(s3.2.2.2.1,(s3.2.2.2.2.1,(s3.2.2.2.2.2.1,(s3.2.2.2.2.2.2.1,(y3,(s3.2.2.2.2.2.2.2.2.1,(s3.2.2.2.2.2.2.2.2.2.1,())))))))))))))) (iter (σ:=(Int×(Int×(Int×(Int×(lS×(lM×(lB×(lG×((List Int)×(lK×Unit))))))))))) N (fun r4 s5=>let y7:=s5.2.2.2.2.1;let y4:=(inb s5.1 (ln s5.2.2.2.2.2.1));let y2:=(ix s5.2.2.2.2.2.1 s5.1 []);let y1:=(ix y7 s5.1 zbc);let y6:=(ieq y1.Rights zbt.Rights);let y5:=(ieq y1.Page zbt.Page);let y0:=(r4 ((zK .i64 s5.1 1),(s5.2.1,(s5.2.2.1,(s5.2.2.2.1,(y7,(s5.2.2.2.2.2.1,(s5.2.2.2.2.2.2.1,(s5.2.2.2.2.2.2.2.1,(s5.2.2.2.2.2.2.2.2.1,(s5.2.2.2.2.2.2.2.2.2.1,()))))))))))); (cond (ilt s5.1 8) (oN (inb s5.1 (ln y7)) (oN zcp (cond (nB (cond y5 y6 false)) (oN y4 (cond (igt (ln y2) 0) oF (oN (inb s5.1 (ln y7)) (oN (zeQ y1.Rights 1) (cond (nB (zfl y1.Rights 1)) oF (cond (nB (nB (cond y5 y6 false))) (oN y4 (oN (zft y2) (cond (nB (zeU y2)) oF y0))) y0)))))) (cond (nB (nB (cond y5 y6 false))) (oN y4 (oN (zft y2) (cond (nB (zeU y2)) oF y0))) y0)))) (cond (ile (ln s5.2.2.2.2.2.2.2.2.1) 40) (oN (zeW s5.2.1) (cond (zeV s5.2.1) (oN (zN s5.2.2.1 0 3) (cond (zS s5.2.2.1 0 3) (oN (zN s5.2.2.2.1 0 1000000000) (some [(aB (zS s5.2.2.2.1 0 1000000000))])) oF)) oF)) oF))) (0,(s3.2.1,(s3.2.2.1,(s3.2.2.2.1,(s3.2.2.2.2.1,(s3.2.2.2.2.2.1,(s3.2.2.2.2.2.2.1,(y3,(s3.2.2.2.2.2.2.2.2.1,(s3.2.2.2.2.2.2.2.2.2.1,()))))))))))))) (0,(a0.Pending,(a0.Traps,(a0.Own,(a0.Outer,(a0.Out,(a0.Dirty,(a0.Guests,(a0.Outs,(a0.Tables,()))))))))))))))))))
def zV3:FuncId->Nat->Option Tmpl:=zy [(89,0,{n:=115,tm:=[(1,.lp 0 0),(3,ti)],lo:=[(0,[.sl 0 [],.sl 1 [],.sl 2 [],.sl 3 [],.sl 4 [],ti,ti,.sl 5 [],ti])],ro:=[(0,.slot,false),(1,(.sl .int),false),(2,.bool,false),(3,.guest,false),(4,.int,false),(5,.kept,false)]}),(89,2,{n:=115,tm:=[(1,.lp 0 0),(4,ti)],lo:=[(0,[.sl 0 [],.sl 1 [],.sl 2 [],.sl 3 [],.sl 4 [],ti,ti,.sl 5 [],ti])],ro:=[(0,.slot,false),(1,(.sl .int),false),(2,.bool,false),(3,.guest,false),(4,.int,false),(5,.kept,false)]})]
theorem zVc (a0:Mon)(hb:zcP big [aT .mon a0])(hc:zqv a0=true):∃N,zNK N a0=some [aB (zsd a0)]:=by
 have hg:a0.Guests.length<=big:=((zem hb).1 (.s .guest a0.Guests) (by simp[AV.cvs,Ty.cells])).len;refine zcG fun N hNN=>?_;unfold zNK zsd zeO oN nB;conv=>zeta
 refine must rfl (stB fun h0=>stI fun h1=>must rfl (stB fun h2=>stI fun h3=>stI fun h4=>?_));have e1:=zvn h2;have e3:ln a0.Out=8:=qE h3;simp only[ln] at e1 e3;refine(zbn a0.Guests (fun i (t:Unit)=>((i:Int),a0.Pending,a0.Traps,a0.Own,a0.Outer,a0.Out,a0.Dirty,a0.Guests,a0.Outs,a0.Tables,())) _ (fun _ (x:Guest) (_:Unit) κ=>bif zd5 x then κ () else oF) (fun (t:Unit)=>(iter (σ:=(Int×(Int×(Int×(Int×(lS×(lM×(lB×(lG×((List Int)×(lK×Unit))))))))))) N (fun r4 s5=>(cond (ilt s5.1 8) (cond (inb s5.1 (ln s5.2.2.2.2.1)) (cond zcp (cond (cond (cond (ieq (ix s5.2.2.2.2.1 s5.1 zbc).Page zbt.Page) (ieq (ix s5.2.2.2.2.1 s5.1 zbc).Rights zbt.Rights) false) false true) (cond (inb s5.1 (ln s5.2.2.2.2.2.1)) (cond (igt (ln (ix s5.2.2.2.2.2.1 s5.1 [])) 0) oF (cond (inb s5.1 (ln s5.2.2.2.2.1)) (cond (zeQ (ix s5.2.2.2.2.1 s5.1 zbc).Rights 1) (cond (cond (zfl (ix s5.2.2.2.2.1 s5.1 zbc).Rights 1) false true) oF (cond (cond (cond (cond (ieq (ix s5.2.2.2.2.1 s5.1 zbc).Page zbt.Page) (ieq (ix s5.2.2.2.2.1 s5.1 zbc).Rights zbt.Rights) false) false true) false true) (cond (inb s5.1 (ln s5.2.2.2.2.2.1)) (cond (zft (ix s5.2.2.2.2.2.1 s5.1 [])) (cond (cond (zeU (ix s5.2.2.2.2.2.1 s5.1 [])) false true) oF (r4 ((zK .i64 s5.1 1),(s5.2.1,(s5.2.2.1,(s5.2.2.2.1,(s5.2.2.2.2.1,(s5.2.2.2.2.2.1,(s5.2.2.2.2.2.2.1,(s5.2.2.2.2.2.2.2.1,(s5.2.2.2.2.2.2.2.2.1,(s5.2.2.2.2.2.2.2.2.2.1,())))))))))))) none) none) (r4 ((zK .i64 s5.1 1),(s5.2.1,(s5.2.2.1,(s5.2.2.2.1,(s5.2.2.2.2.1,(s5.2.2.2.2.2.1,(s5.2.2.2.2.2.2.1,(s5.2.2.2.2.2.2.2.1,(s5.2.2.2.2.2.2.2.2.1,(s5.2.2.2.2.2.2.2.2.2.1,()))))))))))))) none) none)) none) (cond (cond (cond (cond (ieq (ix s5.2.2.2.2.1 s5.1 zbc).Page zbt.Page) (ieq (ix s5.2.2.2.2.1 s5.1 zbc).Rights zbt.Rights) false) false true) false true) (cond (inb s5.1 (ln s5.2.2.2.2.2.1)) (cond (zft (ix s5.2.2.2.2.2.1 s5.1 [])) (cond (cond (zeU (ix s5.2.2.2.2.2.1 s5.1 [])) false true) oF (r4 ((zK .i64 s5.1 1),(s5.2.1,(s5.2.2.1,(s5.2.2.2.1,(s5.2.2.2.2.1,(s5.2.2.2.2.2.1,(s5.2.2.2.2.2.2.1,(s5.2.2.2.2.2.2.2.1,(s5.2.2.2.2.2.2.2.2.1,(s5.2.2.2.2.2.2.2.2.2.1,())))))))))))) none) none) (r4 ((zK .i64 s5.1 1),(s5.2.1,(s5.2.2.1,(s5.2.2.2.1,(s5.2.2.2.2.1,(s5.2.2.2.2.2.1,(s5.2.2.2.2.2.2.1,(s5.2.2.2.2.2.2.2.1,(s5.2.2.2.2.2.2.2.2.1,(s5.2.2.2.2.2.2.2.2.2.1,()))))))))))))) none) none) (cond (ile (ln s5.2.2.2.2.2.2.2.2.1) 40) (cond (zeW s5.2.1) (cond (zeV s5.2.1) (cond (zN s5.2.2.1 0 3) (cond (zS s5.2.2.1 0 3) (cond (zN s5.2.2.2.1 0 1000000000) (some [(.one (.b (zS s5.2.2.2.1 0 1000000000)))]) none) oF) none) oF) none) oF))) (0,(a0.Pending,(a0.Traps,(a0.Own,(a0.Outer,(a0.Out,(a0.Dirty,(a0.Guests,(a0.Outs,(a0.Tables,())))))))))))) (fun i hi t rec=>?_) (fun t rec=>?_) _ () (hNN hg)).trans ?_;{simp only [zbS hi,zbq hi,zbA hi,zbk hi hg,cT];simp only[zlp,zj6,cT];cases zd5 a0.Guests[i]<;>rfl};{simp only [zbJ,cF]};rw[zmr zd5];cases hq:a0.Guests.all zd5;{simp only [cF];cases ile (ln a0.Outs) 40<;>cases zde a0.Pending<;>cases win a0.Traps 0 3<;>cases win a0.Own 0 1000000000<;>rfl};simp only[cT];refine(zHa 8 (fun j (u:Unit)=>((j:Int),a0.Pending,a0.Traps,a0.Own,a0.Outer,a0.Out,a0.Dirty,a0.Guests,a0.Outs,a0.Tables,())) _ (fun j (_:Unit) κ=>bif fits a0 j then κ () else oF) (fun (u:Unit)=>(cond (ile (ln a0.Outs) 40) (cond (zeW a0.Pending) (cond (zeV a0.Pending) (cond (zN a0.Traps 0 3) (cond (zS a0.Traps 0 3) (cond (zN a0.Own 0 1000000000) (some [(.one (.b (zS a0.Own 0 1000000000)))]) none) oF) none) oF) none) oF)) (fun j hj u rec1=>?_) (fun u rec1=>?_) _ () (hNN (by decide))).trans ?_;{simp only [show ilt (j:Int) 8=true from qL (by omega),zbk hj (show 8<=big by decide),cT];have hj1:j<a0.Outer.length:=(by omega);have hj2:j<a0.Out.length:=(by omega);simp only[zcp,zbt,zft,zeU,zeQ,zfl,zbq hj1,zbq hj2,z7b,cT];unfold fits zmw;simp only[zbA hj1,zc3];cases ieq a0.Outer[j].Page noSlot.Page<;>cases ieq a0.Outer[j].Rights noSlot.Rights<;>cases enough a0.Outer[j].Rights 1<;>cases ile (ln (ix a0.Out (j:Int) [])) 0<;>cases zct (ix a0.Out (j:Int) [])<;>rfl};{simp only [show ilt (((8:Nat)):Int) 8=false from qS (by omega),cF];rfl};rw[zLu (fits a0)];simp only[zeW,zeV,zN,zQL,cT];cases zoi (fits a0) 8 0<;>cases ile (ln a0.Outs) 40<;>cases zde a0.Pending<;>cases win a0.Traps 0 3<;>cases win a0.Own 0 1000000000<;>rfl
theorem zPb:vL 89 zFF:=hF1 zRp zJ zG zx zV3 zVc
def z4S:zZ:=[(89,zFF)]++z4R
theorem zRq:zL z4S:=zi zPb zRp
def zgH:List Slot->List Bool->Option (List Bool)
 |[],u=>some u
 |s::l,u=>bif ilt s.Page 0 then zgH l u else (cond (ix u s.Page false) none (zgH l (up u s.Page true)))
def zjN:List Mon->List Bool->Bool
 |[],_=>true
 |m::l,u=>bif zeO m then (match zgH m.Outer u with|some u'=>zjN l u'|none=>false) else false
def zcc (h:Host):Bool:=bif zkC h.Memory 12 then (cond (win (ln h.Mons) 1 3) (cond (ze9 h.Buffer) (cond (ze9 h.IoBuffer) (zjN h.Mons (rp 12 false)) false) false) false) else false
theorem zr2:∀(l:List Slot) (u u':List Bool),zgH l u=some u'->u'.length=u.length
 |[],u,u',h=>by cases h;rfl
 |s::l,u,u',h=>by simp only[zgH]at h;cases h1:ilt s.Page 0;{rw [h1]at h;cases h2:ix u s.Page false;{rw [h2]at h;simpa using zr2 l _ u' h};{rw [h2]at h;cases h}};{rw [h1]at h;exact zr2 l u u' h}
theorem zNb {t:List Slot}{n:Int}(h:zdd t n 12=true):∀s∈t,s.Page<12:=by intro s hs;unfold zdd at h;cases h1:t.all (fun s=>zdX s 12);{rw [h1]at h;cases h};{have:=qN.1 h1 s hs;unfold zdX at this;cases h2:zc3 s noSlot;{rw [h2] at this;simp only[cF,show igt 12 0=true from rfl,cT] at this;cases h3:win s.Page 0 (wsub .i64 12 1);{rw [h3] at this;cases this};{have:=(zfp.1 h3).2;rw[show wsub .i64 12 1=11 from rfl] at this;omega}};{unfold zc3 at h2;rw[qD]at h2;have h2:s.Page = -1:=qE h2.1;omega}}
theorem zUr {s:Slot}{u:List Bool}(h:s.Page<12)(hu:u.length=12)(h0:ilt s.Page 0=false):inb s.Page (ln u)=true:=by have:=jS h0;exact qL (by simp only[ln];omega)
def zxZ {ρ:Type}(r:Option ρ)(y:Slot)(u:List Bool)(κ:List Bool->Option ρ):Option ρ:=bif ilt y.Page 0 then κ u else (cond (inb y.Page (ln u)) (cond (ix u y.Page false) r (cond (inb y.Page (ln u)) (share (up u y.Page true) (fun x6=>κ x6)) none)) none)
theorem zGx {ρ:Type}(r:Option ρ)(K:List Bool->Option ρ):∀(l:List Slot) (i:Nat) (u:List Bool),(∀s∈l,s.Page<12)->u.length=12->
 goL (fun _ y u κ=>zxZ r y u κ) K l i u=match zgH l u with|some u'=>K u'|none=>r
 |[],_,_,_,_=>rfl
 |s::l,i,u,h,hu=>by simp only[goL,zgH,zxZ];cases h1:ilt s.Page 0;{have hh:=zUr (h s (by simp)) hu h1;rw[hh];cases ix u s.Page false;{simp only [cF,cT,share];exact zGx r K l (i+1) _ (fun s hs=>h s (by simp[hs])) (by simpa using hu)};{rfl}};{simp only [cT];exact zGx r K l (i+1) u (fun s hs=>h s (by simp[hs])) hu}
theorem zc0 {c x:Bool}:((cond c x false)=true)↔c=true/\x=true:=by cases c<;>simp
theorem zps {m:Mon}(h:zeO m=true):zdd m.Outer 8 12=true:=by unfold zeO at h;simp only[zc0]at h;exact h.2.2.1
@[simp] abbrev zeS (h:Host):Bool:=true
@[simp] abbrev zeR (h:Host):Bool:=zcc h
theorem zGy {ρ:Type}(r:Option ρ)(k:List Bool->Option ρ)(m:Mon):∀(n i:Nat) (u:List Bool),(∀s∈m.Outer,s.Page<12)->u.length=12->i+n=m.Outer.length->
 goN (fun j u κ=>bif inb (j:Int) (ln m.Outer) then zxZ r (ix m.Outer (j:Int) zbc) u κ else none) k n i u=goL (fun _ y u κ=>zxZ r y u κ) k (m.Outer.drop i) i u
 | 0,i,u,_,_,h=>by have:i=m.Outer.length:=(by omega);subst this;simp[goN,goL]
 |n+1,i,u,hs,hu,h=>by have hi:i<m.Outer.length:=(by omega);rw[kX hi];simp only[goN,goL,zbq hi,zbA hi,cT,zxZ];cases h1:ilt m.Outer[i].Page 0;{rw [zUr (hs _ (jL hi)) hu h1];cases ix u m.Outer[i].Page false;{simp only [cF,cT,share];exact zGy r k m n (i+1) _ hs (by simpa using hu) (by omega)};{rfl}};{simp only [cT];exact zGy r k m n (i+1) u hs hu (by omega)}
def zCj:Run:=rF1 dH fun b=>(zeS b,[aB (zeR b)])
def zH8 (N:Nat)(a0:Host):OA:=
 (oN (zqu a0.Memory 12) (cond (nB (zkT a0.Memory 12)) oF (oN (zN (ln a0.Mons) 1 3) (cond (nB (zS (ln a0.Mons) 1 3)) oF (oN (znr a0.Buffer) (cond (nB (znq a0.Buffer)) oF (oN (znr a0.IoBuffer) (cond (nB (znq a0.IoBuffer)) oF (oN (cond (few 12) (ieq 12 12) false) (iter (σ:=(Int×(lB×(lM×(lN×(lE×(lE×Unit))))))) N (fun r2 s3=>let y7:=(ix s3.2.2.2.1 s3.1 zh); (cond (ilt s3.1 (ln s3.2.2.2.1)) (oN (inb s3.1 (ln s3.2.2.2.1)) (oN (zqv y7) (cond (nB (zsd y7)) oF (iter (σ:=(Int×(Int×(lB×(lM×(lN×(lE×(lE×Unit)))))))) N (fun r4 s5=>let y6:=(zK .i64 s5.2.1 1);let y5:=s5.2.2.2.2.2.1;let y4:=s5.2.2.2.2.2.2.1;let y3:=s5.2.2.1;let y2:=s5.2.2.2.2.1;let y8:=(ix y2 s5.1 zh).Outer;let y1:=(r4 (s5.1,(y6,(y3,(s5.2.2.2.1,(y2,(y5,(y4,()))))))));let y0:=(ix y8 s5.2.1 zbc).Page;let y9:=(inb y0 (ln y3)); (cond (ilt s5.2.1 8) (oN (inb s5.1 (ln y2)) (oN (inb s5.2.1 (ln y8)) (cond (ige y0 0) (oN y9 (cond (ix y3 y0 false) oF (cond (ige y0 0) (oN y9 (share (up y3 y0 true) (fun x6=>(r4 (s5.1,(y6,(x6,(s5.2.2.2.1,(y2,(y5,(y4,()))))))))))) y1))) (cond (ige y0 0) (oN y9 (share (up y3 y0 true) (fun x6=>(r4 (s5.1,(y6,(x6,(s5.2.2.2.1,(y2,(y5,(y4,()))))))))))) y1)))) (r2 ((zK .i64 s5.1 1),(y3,(s5.2.2.2.1,(y2,(y5,(y4,()))))))))) (s3.1,(0,(s3.2.1,(s3.2.2.1,(s3.2.2.2.1,(s3.2.2.2.2.1,(s3.2.2.2.2.2.1,()))))))))))) oT)) (0,((rp 12 false),(a0.Memory,(a0.Mons,(a0.Buffer,(a0.IoBuffer,()))))))))))))))))
def zUa:FuncId->Nat->Option Tmpl:=zy [(38,0,{n:=72,tm:=[(1,.lp 0 0),(3,.sl 0 []),(4,ti)],lo:=[(0,[.sl 1 [],.sl 2 [],.sl 3 [],.sl 4 []])],ro:=[(0,.bool,true),(1,(.sl .int),false),(2,.mon,false),(3,.entry,false),(4,.entry,false)]}),(38,2,{n:=72,tm:=[(1,.lp 0 0),(3,.sl 0 []),(4,ti),(5,ti)],lo:=[(0,[.sl 1 [],.sl 2 [],.sl 3 [],.sl 4 []])],ro:=[(0,.bool,true),(1,(.sl .int),false),(2,.mon,false),(3,.entry,false),(4,.entry,false)]})]
theorem zSo (a0:Host)(hb:zcP big [aH a0])(hc:zeS a0=true):∃N,zH8 N a0=some [aB (zeR a0)]:=by
 have hm:CVB big (.s .mon a0.Mons):=(zem hb).1 _ (by simp[AV.cvs,zbj]);have hl:=hm.len;refine zcG fun N hNN=>?_;unfold zH8 zeR zcc oN nB;conv=>zeta
 refine must rfl (stB fun h0=>must rfl (stB fun h1=>must rfl (stB fun h2=>must rfl (stB fun h3=>must rfl ?_))));refine(zbn a0.Mons (fun i (t:lB)=>((i:Int),t,a0.Memory,a0.Mons,a0.Buffer,a0.IoBuffer,())) _ (fun _ (x:Mon) (u:List Bool) κ=>bif zeO x then goN (fun j u κ=>bif inb (j:Int) (ln x.Outer) then zxZ (oF) (ix x.Outer (j:Int) zbc) u κ else none) κ 8 0 u else oF) (fun (t:lB)=>(some [(.one (.b true))])) (fun i hi t rec=>?_) (fun t rec=>?_) _ ((rp 12 false)) (hNN hl)).trans ?_;{simp only [zbS hi,zbq hi,zbA hi,zbk hi hl,cT];cases h4:zeO a0.Mons[i];{simp only [zqv,zsd,h4,cT,cF]};simp only[zqv,zsd,h4,cT,cF];refine(zHa 8 (fun j (u:lB)=>((i:Int),(j:Int),u,a0.Memory,a0.Mons,a0.Buffer,a0.IoBuffer,())) _ (fun j (u:List Bool) κ=>bif inb (j:Int) (ln a0.Mons[i].Outer) then zxZ (oF) (ix a0.Mons[i].Outer (j:Int) zbc) u κ else none) (fun (u:lB)=>(rec ((((i+1:Nat)):Int),(u,(a0.Memory,(a0.Mons,(a0.Buffer,(a0.IoBuffer,())))))))) (fun j hj u rec1=>?_) (fun u rec1=>?_) _ (t) (hNN (by decide))).trans ?_;{simp only [show ilt (j:Int) 8=true from qL (by omega),zbk hj (show 8<=big by decide),cT,zbq hi,zbA hi,zbk hi hl];unfold zxZ;have e:ige (ix a0.Mons[i].Outer (j:Int) zbc).Page 0 = !ilt (ix a0.Mons[i].Outer (j:Int) zbc).Page 0:=(by rw[z7c,Bool.not_not]);simp only[e];cases ilt (ix a0.Mons[i].Outer (j:Int) zbc).Page 0<;>cases inb (j:Int) (ln a0.Mons[i].Outer)<;>cases inb (ix a0.Mons[i].Outer (j:Int) zbc).Page (ln u)<;>cases ix u (ix a0.Mons[i].Outer (j:Int) zbc).Page false<;>rfl};{simp only [show ilt (((8:Nat)):Int) 8=false from qS (by omega),cF,zbq hi,zbA hi,zbk hi hl]};rfl};{simp only [zbJ,cF]};have key:∀(l:List Mon) (i:Nat) (u:List Bool),u.length=12->goL (fun _ (x:Mon) (u:List Bool) κ=>bif zeO x then goN (fun j u κ=>bif inb (j:Int) (ln x.Outer) then zxZ (oF) (ix x.Outer (j:Int) zbc) u κ else none) κ 8 0 u else oF) (fun _=>oT) l i u=some [AV.one (.b (zjN l u))]:=(by intro l;induction l with|nil=>intro i u _;rfl|cons m l ih=>intro i u hu;simp only[goL,zjN];cases h1:zeO m;{rfl};{have ht:=zps h1;have e8:0+8=m.Outer.length:=(by have:=zvn ht;simp only[ln] at this;omega);simp only[cT];rw[zGy _ _ m 8 0 u (zNb ht) hu e8,List.drop_zero,zGx _ _ _ _ _ (zNb ht) hu];cases h2:zgH m.Outer u with|none=>rfl|some u'=>exact ih (i+1) u' ((zr2 _ _ _ h2).trans hu)});exact key _ _ _ rfl
theorem zLN:vL 38 zCj:=hF1 zRq zJ zG zx zUa zSo
def z4T:zZ:=[(38,zCj)]++z4S
theorem zGn:zL z4T:=zi zLN zRq
theorem zX0 {h:Host}(hh:zcc h=true):(h.Mons.length:Int)<=3:=by unfold zcc at hh;simp only[zc0]at hh;exact(zfp.1 hh.2.1).2
def zcF (h:Host)(m:Int):Bool:=bif zcc h then hasB m (ln h.Mons) else false
def zcr (h:Host)(m p:Int):Bool:=bif zcc h then (cond (hasB m (ln h.Mons)) (hasB p 8) false) else false
theorem zNx {h:Host}(hh:zcc h=true)(m:Int):win m 0 (wsub .i64 (ln h.Mons) 1)=hasB m (ln h.Mons):=zo9 (by have:=zX0 hh;omega) m
theorem z9S (p:Int):win p 0 7=hasB p 8:=by unfold win ige ile hasB;by_cases h1:0<=p<;>by_cases h2:p<8;{rw [qL (p:=p≥0) (by omega),qL (p:=p<=7) (by omega),qL (p:=0<=p/\p<8) ⟨h1,h2⟩];rfl};{rw [qS (p:=p<=7) (by omega),qS (p:=0<=p/\p<8) (by omega)];simp};{rw [qS (p:=p≥0) (by omega),qS (p:=0<=p/\p<8) (by omega)];simp};{rw [qS (p:=p≥0) (by omega),qS (p:=0<=p/\p<8) (by omega)];simp}
@[simp] abbrev zeZ (h:Host)(m:Int):Bool:=true
@[simp] abbrev zeY (h:Host)(m:Int):Bool:=zcF h m
def zCC:Run:=rF2 dH dI fun b c=>(zeZ b c,[aB (zeY b c)])
def zIr (N:Nat)(a0:Host)(a1:Int):OA:=
 (oN (zeS a0) (cond (zeR a0) (oN (zN a1 0 (wsub .i64 (ln a0.Mons) 1)) (some [(aB (zS a1 0 (wsub .i64 (ln a0.Mons) 1)))])) oF))
theorem zSK (a0:Host)(a1:Int)(hc:zeZ a0 a1=true):∃N,zIr N a0 a1=some [aB (zeY a0 a1)]:=by refine⟨0,?_⟩;unfold zIr zeY zcF oN;cases hh:zcc a0;{simp only [zeS,zeR,hh,cT,cF]};{simp only [zeS,zeR,hh,cT,zN,zQL,zNx hh]}
theorem zMf:vL 239 zCC:=kF2 zGn zJ zG zx (zy []) zSK
@[simp] abbrev zmD (h:Host)(m p:Int):Bool:=true
@[simp] abbrev zgZ (h:Host)(m p:Int):Bool:=zcr h m p
def zFM:Run:=rF3 dH dI dI fun b c d=>(zmD b c d,[aB (zgZ b c d)])
def zNS (N:Nat)(a0:Host)(a1 a2:Int):OA:=
 (oN (zeS a0) (cond (zeR a0) (oN (zN a1 0 (wsub .i64 (ln a0.Mons) 1)) (cond (zS a1 0 (wsub .i64 (ln a0.Mons) 1)) (oN (zN a2 0 7) (some [(aB (zS a2 0 7))])) oF)) oF))
theorem zVm (a0:Host)(a1 a2:Int)(hc:zmD a0 a1 a2=true):∃N,zNS N a0 a1 a2=some [aB (zgZ a0 a1 a2)]:=by refine⟨0,?_⟩;unfold zNS zgZ zcr oN;cases hh:zcc a0;{simp only [zeS,zeR,hh,cT,cF]};{simp only [zeS,zeR,hh,cT,zN,zQL,zNx hh,z9S];cases hasB a1 (ln a0.Mons)<;>rfl}
theorem zPl:vL 74 zFM:=kF3 zGn zJ zG zx (zy []) zVm
def z4U:zZ:=[(239,zCC),(74,zFM)]++z4T
theorem zRr:zL z4U:=zi zMf (zi zPl zGn)
def zdl (k:Kept)(p:Int):Bool:=bif hasB p (ln k.Known) then hasB p (ln k.Slots) else false
def zbR (k:Kept)(p:Int):Kept:=bif zdl k p then ⟨up k.Known p false,up k.Slots p noSlot⟩ else k
@[simp] theorem zoa {k:Kept}{p:Int}(h:SmK k):SmK (zbR k p):=by unfold zbR;cases zdl k p;{exact h};{exact⟨by simpa using h.1,by simpa using h.2⟩}
theorem has_lt {p:Int}{n m:Int}(h:hasB p n=true):ilt p m=hasB p m:=by have h:=qE h;unfold ilt hasB;by_cases h1:p<m;{rw [qL h1,qL ⟨h.1,h1⟩]};{rw [qS h1,qS (by omega)]}
@[simp] abbrev znS (k:Kept)(p:Int):Bool:=pc (SmK k)
@[simp] abbrev zhv (k:Kept)(p:Int):Bool:=zdl k p
def zCA:Run:=rF2 (dT .kept) dI fun b c=>(znS b c,[aB (zhv b c)])
def zIp (N:Nat)(a0:Kept)(a1:Int):OA:=
 (oN (zN a1 0 (wsub .i64 (ln a0.Known) 1)) (cond (zS a1 0 (wsub .i64 (ln a0.Known) 1)) (some [(aB (ilt a1 (ln a0.Slots)))]) oF))
theorem zSH (a0:Kept)(a1:Int)(hc:znS a0 a1=true):∃N,zIp N a0 a1=some [aB (zhv a0 a1)]:=by have hs:=zQ.1 hc;refine⟨0,?_⟩;unfold zIp zhv zdl oN;simp only[zN,zQL,zo9 hs.1,cT];cases hh:hasB a1 (ln a0.Known);{rfl};{simp only [cT,has_lt hh]}
theorem zL5:vL 274 zCA:=kF2 zRr zJ zG zx (zy []) zSH
def z4V:zZ:=[(274,zCA)]++z4U
theorem zGo:zL z4V:=zi zL5 zRr
@[simp] abbrev zkM (k:Kept)(p:Int):Bool:=pc (SmK k)
@[simp] abbrev zj5 (k:Kept)(p:Int):Kept:=zbR k p
def zCi:Run:=rF2 (dT .kept) dI fun b c=>(zkM b c,[aT .kept (zj5 b c)])
def zH6 (N:Nat)(a0:Kept)(a1:Int):OA:=
 let y0:=(zdh a0); (oN (zfw a0) (oN (znS y0 a1) (cond (zhv y0 a1) (oN (inb a1 (ln y0.Known)) (share (up y0.Known a1 false) (fun x3=>(oN zcp (oN (inb a1 (ln y0.Slots)) (share (up y0.Slots a1 zbt) (fun x4=>(some [(aT .kept (⟨x3,x4⟩:Kept))])))))))) (some [(aT .kept y0)]))))
theorem zSm (a0:Kept)(a1:Int)(hc:zkM a0 a1=true):∃N,zH6 N a0 a1=some [aT .kept (zj5 a0 a1)]:=by
 have hs:=zQ.1 hc;refine⟨0,?_⟩;unfold zH6 zj5 oN;conv=>zeta
 refine must (zbN ((zwx _).2 hs)) (must (zbN hs) ?_);unfold zbR;cases hh:zdl a0 a1;{simp only [zhv,zdh,hh,cF]};{simp only [zhv,zdh,hh,cT];unfold zdl at hh;obtain⟨h1,h2⟩:=zc0.1 hh;simp only[zR0,h1,h2,cT,share,zcp]}
theorem zLM:vL 208 zCi:=kF2 zGo zJ zG zx (zy []) zSm
@[simp] abbrev zyn (k:Kept)(p:Int):Bool:=pc (SmK k)
@[simp] abbrev zsJ (k:Kept)(p:Int):Kept:=zbR k p
def zB5:Run:=rF2 (dT .kept) dI fun b c=>(zyn b c,[aT .kept (zsJ b c)])
def zHU (N:Nat)(a0:Kept)(a1:Int):OA:=
 let y0:=(zfs a0); (oN (zm0 a0) (oN (zff a1 (ln a0.Known)) (cond (zf6 a1 (ln a0.Known)) (oN (zff a1 (ln a0.Slots)) (cond (zf6 a1 (ln a0.Slots)) (oN (inb a1 (ln y0.Known)) (share (up y0.Known a1 false) (fun x3=>(oN zky (oN (inb a1 (ln y0.Slots)) (share (up y0.Slots a1 zsL) (fun x4=>(some [(aT .kept (⟨x3,x4⟩:Kept))])))))))) (some [(aT .kept y0)]))) (some [(aT .kept y0)]))))
theorem zR9 (a0:Kept)(a1:Int)(hc:zyn a0 a1=true):∃N,zHU N a0 a1=some [aT .kept (zsJ a0 a1)]:=by
 have hs:=zQ.1 hc;refine⟨0,?_⟩;unfold zHU zsJ oN;conv=>zeta
 refine must (zbN hs) (must rfl ?_);unfold zbR zdl;simp only[zf6,zff,zfs,zR0,share,zky,cT];cases hasB a1 (ln a0.Known);{rfl};{cases hasB a1 (ln a0.Slots)<;>rfl}
theorem zLz:vL 205 zB5:=kF2 zGo zJ zG zx (zy []) zR9
def z4W:zZ:=[(208,zCi),(205,zB5)]++z4V
theorem zst:zL z4W:=zi zLM (zi zLz zGo)
def zd0 (k:Kept)(l:List Int):Kept:=l.foldl zbR k
theorem zWZ:∀(l:List Int) {k:Kept},SmK k->SmK (zd0 k l)
 |[],_,h=>h
 |p::l,k,h=>zWZ l (zoa (p:=p) h)
theorem zyf {ρ:Type}(K:List Bool×List Slot->Option ρ):∀(l:List Int) (i:Nat) (k:Kept),SmK k->
 goL (fun _ x (t:List Bool×List Slot) κ=>bif pc (SmK ⟨t.1,t.2⟩) then κ ((zbR ⟨t.1,t.2⟩ x).Known,(zbR ⟨t.1,t.2⟩ x).Slots) else none) K l i (k.Known,k.Slots)=K ((zd0 k l).Known,(zd0 k l).Slots)
 |[],_,_,_=>rfl
 |x::l,i,k,h=>by have e:pc (SmK ⟨k.Known,k.Slots⟩)=true:=zbN h;simp only[goL,e,cT];exact zyf K l (i+1) (zbR k x) (zoa h)
def zC6 (l:List Slot)(p:Int):List Int:=idxs (fun (s:Slot)=>ieq s.Page p) l 0
def zg5 (k:Kept)(l:List Slot)(p:Int):Kept:=zd0 k (zC6 l p)
theorem z3M {k:Kept}(l:List Slot)(p:Int)(h:SmK k):SmK (zg5 k l p):=zWZ _ h
@[simp] abbrev zkL (k:Kept)(l:List Slot)(p:Int):Bool:=pc (SmK k/\l.length<=1048576)
@[simp] abbrev ztd (k:Kept)(l:List Slot)(p:Int):Kept:=zg5 k l p
def zs4:Run:=rF3 (dT .kept) (dS .slot) dI fun b c d=>(zkL b c d,[aT .kept (ztd b c d)])
def zwr (N:Nat)(a0:Kept)(a1:lS)(a2:Int):OA:=
 (oN (zfw a0) (oN (znG a1 a2) (iter (σ:=(Int×((List Int)×(lB×(lS×(lB×(lS×Unit))))))) N (fun r4 s5=>let y1:=(ix s5.2.1 s5.1 0);let y0:=(⟨s5.2.2.1,s5.2.2.2.1⟩:Kept); (cond (ilt s5.1 (ln s5.2.1)) (oN (inb s5.1 (ln s5.2.1)) (oN (zkM y0 y1) (r4 ((zK .i64 s5.1 1),(s5.2.1,((zj5 y0 y1).Known,((zj5 y0 y1).Slots,(s5.2.2.2.2.1,(s5.2.2.2.2.2.1,()))))))))) (some [(aT .kept y0)]))) (0,((zj9 a1 a2),((zdh a0).Known,((zdh a0).Slots,([],([],())))))))))
def zHN:FuncId->Nat->Option Tmpl:=zy [(134,0,{n:=27,tm:=[(3,.lp 0 0),(6,.lp 1 0),(7,.sl 0 []),(8,ti)],lo:=[(0,[.sl 1 [],.sl 2 []]),(1,[.sl 3 [],.sl 4 []])],ro:=[(0,.int,true),(1,.bool,true),(2,.slot,true),(3,.bool,true),(4,.slot,true)]})]
theorem zHh (a0:Kept)(a1:List Slot)(a2:Int)(hc:zkL a0 a1 a2=true):∃N,zwr N a0 a1 a2=some [aT .kept (ztd a0 a1 a2)]:=by
 obtain⟨hs,hs2⟩:=zQ.1 hc;have hl:(zj9 a1 a2).length<=big:=qT (zsM _ a1 0) (zcC hs2).1;refine zcG fun N hNN=>?_;unfold zwr oN;conv=>zeta
 refine must (zbN ((zwx _).2 hs)) (must (zbN (by omega)) ?_);refine(zbn (zj9 a1 a2) (fun i (t:lB×lS)=>((i:Int),(zj9 a1 a2),t.1,t.2,[],[],())) _ (fun _ (x:Int) (t:List Bool×List Slot) κ=>bif pc (SmK ⟨t.1,t.2⟩) then κ ((zbR ⟨t.1,t.2⟩ x).Known,(zbR ⟨t.1,t.2⟩ x).Slots) else none) (fun (t:lB×lS)=>(some [(.agg (Ty.cells .kept (⟨t.1,t.2⟩:Kept)))])) (fun i hi t rec=>?_) (fun t rec=>?_) _ ((zdh a0).Known,(zdh a0).Slots) (hNN hl)).trans ?_;{simp only [zbS hi,zbq hi,zbA hi,zbk hi hl,cT]};{simp only [zbJ,cF]};exact zyf _ _ 0 a0 hs
theorem zBx:vL 134 zs4:=kF3 zst zJ zG zx zHN zHh
@[simp] abbrev zow (k:Kept)(l:List Slot)(p:Int):Bool:=pc (SmK k/\l.length<=1048576)
@[simp] abbrev zsK (k:Kept)(l:List Slot)(p:Int):Kept:=zg5 k l p
def zsZ:Run:=rF3 (dT .kept) (dS .slot) dI fun b c d=>(zow b c d,[aT .kept (zsK b c d)])
def zwm (N:Nat)(a0:Kept)(a1:lS)(a2:Int):OA:=
 (oN (zm0 a0) (oN (zyr a1 a2) (iter (σ:=(Int×(Int×((List Int)×(lB×(lS×(lB×(lS×Unit)))))))) N (fun r4 s5=>let y1:=(ix s5.2.2.1 s5.2.1 0);let y0:=(⟨s5.2.2.2.2.2.1,s5.2.2.2.2.2.2.1⟩:Kept); (cond (ilt s5.2.1 s5.1) (oN (inb s5.2.1 (ln s5.2.2.1)) (oN (zyn y0 y1) (r4 (s5.1,((zK .i64 s5.2.1 1),(s5.2.2.1,(s5.2.2.2.1,(s5.2.2.2.2.1,((zsJ y0 y1).Known,((zsJ y0 y1).Slots,())))))))))) (some [(aT .kept y0)]))) ((ln (zjP a1 a2)),(0,((zjP a1 a2),([],([],((zfs a0).Known,((zfs a0).Slots,()))))))))))
def zHL:FuncId->Nat->Option Tmpl:=zy [(129,0,{n:=25,tm:=[(6,.lp 0 0),(7,.lp 1 0),(14,.sl 0 []),(15,ti),(16,ti)],lo:=[(0,[.sl 1 [],.sl 2 []]),(1,[.sl 3 [],.sl 4 []])],ro:=[(0,.int,true),(1,.bool,true),(2,.slot,true),(3,.bool,true),(4,.slot,true)]})]
theorem zHb (a0:Kept)(a1:List Slot)(a2:Int)(hc:zow a0 a1 a2=true):∃N,zwm N a0 a1 a2=some [aT .kept (zsK a0 a1 a2)]:=by
 obtain⟨hs,hs2⟩:=zQ.1 hc;have hl:(zjP a1 a2).length<=big:=qT (zsM _ a1 0) (zcC hs2).1;refine zcG fun N hNN=>?_;unfold zwm oN;conv=>zeta
 refine must (zbN hs) (must (zbN (by omega)) ?_);refine(zbn (zjP a1 a2) (fun i (t:lB×lS)=>((ln (zjP a1 a2)),(i:Int),(zjP a1 a2),[],[],t.1,t.2,())) _ (fun _ (x:Int) (t:List Bool×List Slot) κ=>bif pc (SmK ⟨t.1,t.2⟩) then κ ((zbR ⟨t.1,t.2⟩ x).Known,(zbR ⟨t.1,t.2⟩ x).Slots) else none) (fun (t:lB×lS)=>(some [(.agg (Ty.cells .kept (⟨t.1,t.2⟩:Kept)))])) (fun i hi t rec=>?_) (fun t rec=>?_) _ ((zfs a0).Known,(zfs a0).Slots) (hNN hl)).trans ?_;{simp only [zbS hi,zbq hi,zbA hi,zbk hi hl,cT]};{simp only [zbJ,cF]};exact zyf _ _ 0 a0 hs
theorem zBu:vL 129 zsZ:=kF3 zst zJ zG zx zHL zHb
def flushed (l:List Entry)(p:Int):List Entry:=l.filter fun e=>!ieq e.Host p
theorem zFh (l:List Entry)(p:Int):(flushed l p).length<=l.length:=uD _ _
theorem zmX {α ρ:Type}(p:α->Bool)(K:List α->Option ρ):∀(l:List α) (i:Nat) (acc:List α),acc.length+l.length<=2147483648->
 goL (fun _ x acc κ=>bif p x then (cond (few (ln (ap acc [x]))) (κ (ap acc [x])) none) else κ acc) K l i acc=K (acc++l.filter p)
 |[],i,acc,_=>by simp[goL]
 |x::l,i,acc,h=>by simp only[qV]at h;simp only[goL];cases hp:p x;{rw [cF,zmX p K l (i+1) acc (by omega),List.filter_cons_of_neg (by simp[hp])]};{rw [cT,zf1 (by simp[ap];omega),cT,zmX p K l (i+1) _ (by simp[ap];omega),List.filter_cons_of_pos hp];simp[ap]}
@[simp] abbrev zgY (l:List Entry)(p:Int):Bool:=pc (l.length<=1048576)
@[simp] abbrev zpA (l:List Entry)(p:Int):List Entry:=flushed l p
def zuG:Run:=rF2 (dS .entry) dI fun b c=>(zgY b c,[aS .entry (zpA b c)])
def zzm (N:Nat)(a0:lE)(a1:Int):OA:=
 (iter (σ:=(Int×(Int×(lE×(lE×Unit))))) N (fun r3 s4=>let y1:=s4.2.2.1;let y0:=(ix y1 s4.2.1 zh4); (cond (ilt s4.2.1 (ln y1)) (oN (inb s4.2.1 (ln y1)) (cond (ine y0.Host s4.1) (oN (inb s4.2.1 (ln y1)) (oN (few (ln (ap s4.2.2.2.1 [y0]))) (r3 (s4.1,((zK .i64 s4.2.1 1),(y1,((ap s4.2.2.2.1 [y0]),()))))))) (r3 (s4.1,((zK .i64 s4.2.1 1),(y1,(s4.2.2.2.1,()))))))) (some [(aS .entry s4.2.2.2.1)]))) (a1,(0,(a0,([],())))))
def zK6:FuncId->Nat->Option Tmpl:=zy [(135,0,{n:=29,tm:=[(0,.sl 0 []),(1,ti),(5,.sl 1 []),(6,ti)],lo:=[],ro:=[(0,.entry,false),(1,.entry,true)]})]
theorem zJY (a0:List Entry)(a1:Int)(hc:zgY a0 a1=true):∃N,zzm N a0 a1=some [aS .entry (zpA a0 a1)]:=by
 have hs:=zQ.1 hc;have hl:=zcC hs;refine zcG fun N hNN=>?_;unfold zzm oN;conv=>zeta
 refine(zbn a0 (fun i (t:lE)=>(a1,(i:Int),a0,t,())) _ (fun _ (x:Entry) (t:List Entry) κ=>bif !ieq x.Host a1 then (cond (few (ln (ap t [x]))) (κ (ap t [x])) none) else κ t) (fun (t:lE)=>(some [(.one (.s .entry t))])) (fun i hi t rec=>?_) (fun t rec=>?_) _ ([]) (hNN hl.1)).trans ?_;{simp only [zbS hi,zbq hi,zbA hi,zbk hi hl.1,cT];rfl};{simp only [zbJ,cF]};exact zmX (fun e=>!ieq e.Host a1) _ a0 0 [] (by simpa using hl.2)
theorem zDW:vL 135 zuG:=kF2 zst zJ zG zx zK6 zJY
@[simp] abbrev zgT (l:List Entry)(p:Int):Bool:=pc (l.length<=1048576)
@[simp] abbrev zi7 (l:List Entry)(p:Int):List Entry:=flushed l p
def zuy:Run:=rF2 (dS .entry) dI fun b c=>(zgT b c,[aS .entry (zi7 b c)])
def zzf (N:Nat)(a0:lE)(a1:Int):OA:=
 (iter (σ:=(Int×(Int×(Int×(lE×(lE×Unit)))))) N (fun r3 s4=>let y1:=s4.2.2.2.2.1;let y0:=(ix y1 s4.2.1 zh4); (cond (ilt s4.2.1 s4.1) (oN (inb s4.2.1 (ln y1)) (cond (nB (ieq y0.Host s4.2.2.1)) (oN (few (ln (ap s4.2.2.2.1 [y0]))) (r3 (s4.1,((zK .i64 s4.2.1 1),(s4.2.2.1,((ap s4.2.2.2.1 [y0]),(y1,()))))))) (r3 (s4.1,((zK .i64 s4.2.1 1),(s4.2.2.1,(s4.2.2.2.1,(y1,())))))))) (some [(aS .entry s4.2.2.2.1)]))) ((ln a0),(0,(a1,([],(a0,()))))))
def zK1:FuncId->Nat->Option Tmpl:=zy [(206,0,{n:=25,tm:=[(1,.fn 207 [0]),(5,.sl 0 []),(9,.sl 1 []),(10,ti),(11,ti)],lo:=[(0,[ti])],ro:=[(0,.entry,true),(1,.entry,false)]})]
theorem zJN (a0:List Entry)(a1:Int)(hc:zgT a0 a1=true):∃N,zzf N a0 a1=some [aS .entry (zi7 a0 a1)]:=by
 have hs:=zQ.1 hc;have hl:=zcC hs;refine zcG fun N hNN=>?_;unfold zzf oN nB;conv=>zeta
 refine(zbn a0 (fun i (t:lE)=>((ln a0),(i:Int),a1,t,a0,())) _ (fun _ (x:Entry) (t:List Entry) κ=>bif !ieq x.Host a1 then (cond (few (ln (ap t [x]))) (κ (ap t [x])) none) else κ t) (fun (t:lE)=>(some [(.one (.s .entry t))])) (fun i hi t rec=>?_) (fun t rec=>?_) _ ([]) (hNN hl.1)).trans ?_;{simp only [zbS hi,zbq hi,zbA hi,zbk hi hl.1,cT];cases ieq a0[i].Host a1<;>rfl};{simp only [zbJ,cF]};exact zmX (fun e=>!ieq e.Host a1) _ a0 0 [] (by simpa using hl.2)
theorem zDO:vL 130 zuy:=kF2 zst zJ zG zx zK1 zJN
def zXs:zZ:=[(134,zs4),(129,zsZ),(135,zuG),(130,zuy)]++z4W
theorem zGp:zL zXs:=zi zBx (zi zBu (zi zDW (zi zDO zst)))
def zkl (gs:List Guest)(p:Int):Nat->List Kept->List Kept
 | 0,ts=>ts
 |n+1,ts=>up (zkl gs p n ts) (n:Int) (zg5 (ix (zkl gs p n ts) (n:Int) zgJ) (ix gs (n:Int) zD).Live p)
theorem zo6 (gs:List Guest)(p:Int):∀(n:Nat) (ts:List Kept),(zkl gs p n ts).length=ts.length
 | 0,_=>rfl
 |n+1,ts=>by simp only[zkl,zf3];exact zo6 gs p n ts
theorem zvl (gs:List Guest)(p:Int):∀(n:Nat) (ts:List Kept),n<=ts.length->zA3 ts->zA3 (zkl gs p n ts)
 | 0,_,_,h=>h
 |n+1,ts,hn,h=>by have ih:=zvl gs p n ts (by omega) h;have hl:n<(zkl gs p n ts).length:=(by rw[zo6];omega);exact zxA ih (z3M _ _ (by rw[zbA hl];exact ih.2 _ (jL hl)))
def zjr (x:Mon)(p:Int)(n:Nat):Mon:={x with Tables:=zkl x.Guests p n x.Tables}
theorem z1w {x:Mon}{p:Int}{n:Nat}(hn:n<=x.Tables.length)(h:ze8 x):ze8 (zjr x p n):=⟨h.1,h.2.1,h.2.2.1,h.2.2.2.1,h.2.2.2.2.1,zvl _ _ _ _ hn h.2.2.2.2.2⟩
def zci (h:Host)(m p:Int)(s:Slot):Host :=
 bif ine (ix (ix h.Mons m zh).Outer p zbc).Page (-1)
 then ⟨h.Memory,up h.Mons m {zjr (ix h.Mons m zh) p (ix h.Mons m zh).Tables.length with Outer:=up (ix h.Mons m zh).Outer p s},flushed h.Buffer (ix (ix h.Mons m zh).Outer p zbc).Page,flushed h.IoBuffer (ix (ix h.Mons m zh).Outer p zbc).Page⟩
 else ⟨h.Memory,up h.Mons m {zjr (ix h.Mons m zh) p (ix h.Mons m zh).Tables.length with Outer:=up (ix h.Mons m zh).Outer p s},h.Buffer,h.IoBuffer⟩
def z7V (h:Host)(m p:Int):Prop:=hasB m (ln h.Mons)=true/\hasB p (ln (ix h.Mons m zh).Outer)=true/\(ix h.Mons m zh).Tables.length<=(ix h.Mons m zh).Guests.length
@[simp] abbrev zeC (h:Host)(m p:Int)(s:Slot):Bool:=pc (zb2 h/\z7V h m p)
@[simp] abbrev zgi (h:Host)(m p:Int)(s:Slot):Host:=zci h m p s
def zq1:List AV->Option (Bool×List AV)
 |[.agg [.s (.sl .int) b,.s .mon c,.s .entry d,.s .entry e],.one (.i .i64 f),.one (.i .i64 g),.agg [.i .i64 h,.i .i64 j]]=>some ((zeC (⟨b,c,d,e⟩:Host) f g (⟨h,j⟩:Slot)),[aH (zgi (⟨b,c,d,e⟩:Host) f g (⟨h,j⟩:Slot))])
 |_=>none
def zvz (N:Nat)(a0:Host)(a1 a2:Int)(a3:Slot):OA:=
 let y7:=(ix a0.Mons a1 zh); (oN (inb a1 (ln a0.Mons)) (oN (inb a2 (ln y7.Outer)) (iter (σ:=(Int×(Int×(Int×(Int×(Int×(Int×(Int×(Int×(Int×(Int×(Int×(Int×(Int×(Int×(Int×(lM×(lN×(lE×(lE×(lM×(lN×(lE×(lE×Unit)))))))))))))))))))))))) N (fun r5 s6=>let y19:=s6.2.2.1;let y18:=s6.2.2.2.2.2.2.2.2.2.2.2.1;let y17:=s6.2.2.2.2.2.2.2.2.2.2.2.2.1;let y15:=s6.2.2.2.2.2.2.2.2.2.2.2.2.2.2.1;let y14:=s6.2.2.2.2.2.2.2.2.2.2.2.2.2.2.2.1;let y13:=s6.2.2.2.2.2.2.2.1;let y11:=s6.2.2.2.2.2.2.2.2.1;let y10:=s6.2.2.2.1;let y9:=s6.2.2.2.2.2.2.2.2.2.2.1;let y8:=s6.2.2.2.2.2.2.2.2.2.2.2.2.2.2.2.2.2.1;let y6:=s6.2.2.2.2.2.2.2.2.2.2.2.2.2.2.2.2.2.2.1;let y5:=s6.2.2.2.2.2.2.1;let y3:=s6.2.2.2.2.2.2.2.2.2.1;let y1:=s6.2.2.2.2.2.2.2.2.2.2.2.2.2.1;let y0:=s6.2.2.2.2.2.2.2.2.2.2.2.2.2.2.2.2.1;let y20:=(ix y0 y3 zh).Guests;let y16:=(ix y20 y10 zD).Live;let y12:=(ix y0 y5 zh);let y4:=(ix y0 y1 zh).Tables;let y2:=(up y0 y5 ({y12 with Outer:=(up y12.Outer s6.2.1 (⟨s6.2.2.2.2.1,s6.2.2.2.2.2.1⟩:Slot))}:Mon)); (cond (ilt y10 (ln y4)) (oN (inb y10 (ln y4)) (oN (inb y10 (ln y20)) (oN (zkL (ix y4 y10 zgJ) y16 s6.2.1) (oN (inb y10 (ln y4)) (share (up y0 y1 ({ (ix y0 y1 zh) with Tables:=(up y4 y10 (ztd (ix y4 y10 zgJ) y16 s6.2.1))}:Mon)) (fun x7=>(r5 (s6.1,(s6.2.1,(y19,((zK .i64 y10 1),(s6.2.2.2.2.1,(s6.2.2.2.2.2.1,(y5,(y13,(y11,(y3,(y9,(y18,(y17,(y1,(y15,(y14,(x7,(y8,(y6,(s6.2.2.2.2.2.2.2.2.2.2.2.2.2.2.2.2.2.2.2.1,(s6.2.2.2.2.2.2.2.2.2.2.2.2.2.2.2.2.2.2.2.2.1,(s6.2.2.2.2.2.2.2.2.2.2.2.2.2.2.2.2.2.2.2.2.2.1,(s6.2.2.2.2.2.2.2.2.2.2.2.2.2.2.2.2.2.2.2.2.2.2.1,())))))))))))))))))))))))))))))) (cond (ine y19 (-1)) (oN (zgY y8 y19) (oN (zgY y6 y19) (oN (inb s6.2.1 (ln y12.Outer)) (share y2 (fun x7=>(oN (inb s6.1 (ln x7)) (oN (cond (cond (cond (cond (cond (cond (ieq y1 s6.1) true false) (cond (ieq y9 s6.1) true false) false) (cond (ieq y3 s6.1) true false) false) (cond (ieq y11 s6.1) true false) false) (cond (ieq y13 s6.1) true false) false) (cond (ieq y5 s6.1) true false) false) (share (up x7 s6.1 ({ (ix x7 y5 zh) with Out:=(ix x7 y13 zh).Out,Dirty:=(ix x7 y11 zh).Dirty,Guests:=(ix x7 y3 zh).Guests,Outs:=(ix x7 y9 zh).Outs,Pending:=y18,Traps:=y17,Tables:=(ix x7 y1 zh).Tables,Own:=y15}:Mon)) (fun x8=>(some [(aH (⟨y14,x8,(zpA y8 y19),(zpA y6 y19)⟩:Host))])))))))))) (oN (inb s6.2.1 (ln y12.Outer)) (share y2 (fun x7=>(oN (inb s6.1 (ln x7)) (oN (cond (cond (cond (cond (cond (cond (ieq y1 s6.1) true false) (cond (ieq y9 s6.1) true false) false) (cond (ieq y3 s6.1) true false) false) (cond (ieq y11 s6.1) true false) false) (cond (ieq y13 s6.1) true false) false) (cond (ieq y5 s6.1) true false) false) (share (up x7 s6.1 ({ (ix x7 y5 zh) with Out:=(ix x7 y13 zh).Out,Dirty:=(ix x7 y11 zh).Dirty,Guests:=(ix x7 y3 zh).Guests,Outs:=(ix x7 y9 zh).Outs,Pending:=y18,Traps:=y17,Tables:=(ix x7 y1 zh).Tables,Own:=y15}:Mon)) (fun x8=>(some [(aH (⟨y14,x8,y8,y6⟩:Host))]))))))))))) (a1,(a2,((ix y7.Outer a2 zbc).Page,(0,(a3.Page,(a3.Rights,(a1,(a1,(a1,(a1,(a1,(y7.Pending,(y7.Traps,(a1,(y7.Own,(a0.Memory,(a0.Mons,(a0.Buffer,(a0.IoBuffer,([],([],([],([],()))))))))))))))))))))))))))
def zQt:FuncId->Nat->Option Tmpl:=zy [(78,0,{n:=70,tm:=[(1,ti),(2,ti),(4,.lp 0 0),(7,.lp 1 0),(8,.lp 2 0),(9,.lp 3 0),(10,ti),(11,ti)],lo:=[(0,[.sl 0 [],.sl 1 [],.sl 2 [],.sl 3 []]),(1,[ti,ti]),(2,[.sl 4 [],.sl 5 [],.sl 6 [],.sl 7 []]),(3,[.sl 1 [0],.sl 1 [1],.sl 1 [2],.sl 1 [3],.sl 1 [4],ti,ti,.sl 1 [7],ti])],ro:=[(0,(.sl .int),true),(1,.mon,true),(2,.entry,true),(3,.entry,true),(4,(.sl .int),true),(5,.mon,true),(6,.entry,true),(7,.entry,true)]})]
theorem zSZ (N:Nat)(a0:Host)(a1 a2:Int)(a3:Slot):zDj (cQ zXs zoB zM1 zZb) zQt N 12 78 [true,true,true,true,false,false,false,false] 1 1 [[0],[1],[2],[4],[7]] .mon [aH a0,aI a1,aI a2,aT .slot a3]=zvz N a0 a1 a2 a3:=by kernel_rfl
theorem zPY (a0:Host)(a1 a2:Int)(a3:Slot)(hb:zcP big [aH a0,aI a1,aI a2,aT .slot a3])(hc:zeC a0 a1 a2 a3=true):∃N,zvz N a0 a1 a2 a3=some [aH (zgi a0 a1 a2 a3)]:=by
 obtain⟨hs,h1,h2,h3⟩:=zQ.1 hc;have hH:=(zbb a0).1 hs;have hm:ze8 (ix a0.Mons a1 zh):=hH.2.1.2 _ (zbC h1 _);obtain⟨k,rfl,hk⟩:=zds (n:=a0.Mons.length) h1;have hT:=(zcC hm.2.2.2.2.2.1).1;refine zcG fun N hNN=>?_;unfold zvz oN;conv=>zeta
 refine must h1 (must h2 ?_);refine zDu (ix a0.Mons (k:Int) zh).Tables.length (fun i (t:List Mon)=>((k:Int),a2,(ix (ix a0.Mons (k:Int) zh).Outer a2 zbc).Page,(i:Int),a3.Page,a3.Rights,(k:Int),(k:Int),(k:Int),(k:Int),(k:Int),(ix a0.Mons (k:Int) zh).Pending,(ix a0.Mons (k:Int) zh).Traps,(k:Int),(ix a0.Mons (k:Int) zh).Own,a0.Memory,t,a0.Buffer,a0.IoBuffer,[],[],[],[],())) _
  (fun i t=>t=up a0.Mons (k:Int) (zjr (ix a0.Mons (k:Int) zh) a2 i)) (fun _ _=>some [AV.agg (zbj (zci a0 (k:Int) a2 a3))]) (fun i t rec hi hI hr=>?_) (fun t rec hI=>?_) _ 0 a0.Mons ?_ (jX _) ?_
 .subst hI;have hi2:i<(zkl (ix a0.Mons (k:Int) zh).Guests a2 i (ix a0.Mons (k:Int) zh).Tables).length:=(by rw[zo6];exact hi);have hi3:i<(ix a0.Mons (k:Int) zh).Guests.length:=by omega
  have hf:zkL (ix (zkl (ix a0.Mons (k:Int) zh).Guests a2 i (ix a0.Mons (k:Int) zh).Tables) (i:Int) zgJ) (ix (ix a0.Mons (k:Int) zh).Guests (i:Int) zD).Live a2=true :=
   zbN ⟨by rw[zbA hi2];exact(zvl _ _ _ _ (by omega) hm.2.2.2.2.2).2 _ (jL hi2),by rw[zbA hi3];exact(hm.2.2.2.1.2 _ (jL hi3)).2.2.1⟩
  simp only[zdz hk,zvp,zjr,zbS hi2,zbq hi2,zbq hi3,hf,cT,share,zbk hi hT];exact hr _ rfl
 {subst hI;simp only[zdz hk,zvp,zf3,zjr,ln,zo6,zys,show ilt (((ix a0.Mons (k:Int) zh).Tables.length:Nat):Int) (((ix a0.Mons (k:Int) zh).Tables.length:Nat):Int)=false from qS (by omega),cT,cF,share];have h1':inb (k:Int) ((a0.Mons.length:Nat):Int)=true:=h1;have h2':inb a2 (((ix a0.Mons (k:Int) zh).Outer.length:Nat):Int)=true:=h2;have f1:zgY a0.Buffer (ix (ix a0.Mons (k:Int) zh).Outer a2 zbc).Page=true:=zbN hH.2.2.1;have f2:zgY a0.IoBuffer (ix (ix a0.Mons (k:Int) zh).Outer a2 zbc).Page=true:=zbN hH.2.2.2;simp only[h1',h2',f1,f2,cT];unfold zci;cases ine (ix (ix a0.Mons (k:Int) zh).Outer a2 zbc).Page (-1)<;>rfl};{exact(zNu hk _).symm};{exact hNN (by omega)}
theorem zJB:zdG Tryz.prog 78 [true,true,true,true,false,false,false,false] (some (1,1,[[0],[1],[2],[4],[7]])) zq1:=by refine zkx (kt:=.mon) (zfM zGp zJ zG zx) (zie (by kernel_rfl)) (by kernel_rfl) ?_;intro avs rs hl hr h;have hb:=zhF hr;unfold zq1 at h;split at h;{obtain⟨hc,rfl⟩:=zdL h;obtain⟨N,hN⟩:=zPY _ _ _ _ (by exact hb) hc;exact⟨⟨_,rfl⟩,rfl,_,N,12,(zSZ N _ _ _ _ ).trans hN⟩};{cases h}
def zT1:ze7:=[(78,([true,true,true,true,false,false,false,false],(some (1,1,[[0],[1],[2],[4],[7]])),zq1))]++zZb
theorem zd6:zdW zT1:=zo7 zx (by
 intro x hx;simp only[qF,qP,or_false]at hx;rcases hx with rfl
 .exact zJB)
def zUq (x:Mon)(p:Int):Mon:={x with Dirty:=up x.Dirty p false}
def zo8 (h:Host)(m p:Int):Host:={h with Mons:=up h.Mons m (zUq (ix h.Mons m zh) p)}
def zsD (h:Host)(m p:Int):Host:=bif zcr h m p then (cond (zc3 (ix (ix h.Mons m zh).Outer p zbc) noSlot) (zo8 h m p) (zci (zo8 h m p) m p ⟨(ix (ix h.Mons m zh).Outer p zbc).Page,1⟩)) else h
theorem zyk:∀(l:List Mon) (u:List Bool),zjN l u=true->∀x∈l,zeO x=true
 |[],_,_,x,hx=>by cases hx
 |m::l,u,h,x,hx=>by
  simp only[zjN]at h;cases h1:zeO m;{rw [h1]at h;cases h}
  .rw [h1]at h;simp only[cT]at h;cases h2:zgH m.Outer u with
   |none=>rw[h2]at h;cases h
   |some u' =>rw[h2]at h;rcases qF.1 hx with rfl|hx;{exact h1};{exact zyk l u' h x hx}
structure PageAt (h:Host) (m p:Int):Prop where
 hm:hasB m (ln h.Mons)=true
 hp:hasB p 8=true
 ok:zeO (ix h.Mons m zh)=true
 ho:(ix h.Mons m zh).Outer.length=8
 hd:(ix h.Mons m zh).Dirty.length=8
 ht:(ix h.Mons m zh).Tables.length=(ix h.Mons m zh).Guests.length
 hs:zc3 (ix (ix h.Mons m zh).Outer p zbc) noSlot=ieq (ix (ix h.Mons m zh).Outer p zbc).Page (-1)
theorem zOR {s:Slot}{n:Int}(h:zdX s n=true):zc3 s noSlot=ieq s.Page (-1):=by unfold zdX at h;cases h1:zc3 s noSlot;{rw [h1]at h;cases h2:ieq s.Page (-1);{rfl};{have e:s.Page = -1:=qE h2;cases h3:igt n 0;{rw [h3]at h;cases h};{cases h4:win s.Page 0 (wsub .i64 n 1);{rw [h3,h4]at h;cases h};{have:=(zfp.1 h4).1;omega}}}};{unfold zc3 at h1;rw[qD]at h1;exact h1.1.symm}
theorem zKj {h:Host}{m p:Int}(hp:zcr h m p=true):PageAt h m p:=by unfold zcr at hp;simp only[zc0]at hp;obtain⟨h0,h1,h2⟩:=hp;unfold zcc at h0;simp only[zc0]at h0;have hok:=zyk _ _ h0.2.2.2.2 _ (zbC h1 zh);have hk:=hok;unfold zeO at hk;simp only[zc0]at hk;have ho:(ix h.Mons m zh).Outer.length=8:=(by have:=zvn hk.2.2.1;simp only[ln] at this;omega);refine⟨h1,h2,hok,ho,?_,?_,?_⟩;{have:ln (ix h.Mons m zh).Dirty=8:=qE hk.2.2.2.2.1;simp only[ln] at this;omega};{have:ln (ix h.Mons m zh).Tables=ln (ix h.Mons m zh).Guests:=qE hk.2.1;simp only[ln] at this;omega};{have ht:=hk.2.2.1;unfold zdd at ht;simp only[zc0]at ht;have hi:hasB p (ln (ix h.Mons m zh).Outer)=true:=(by rw[ln,ho];exact h2);exact zOR (qN.1 ht.1 _ (zbC hi _))}
theorem zTQ {x:Mon}{p:Int}(h:ze8 x):ze8 (zUq x p):=⟨h.1,h.2.1,by simpa [zUq] using h.2.2.1,h.2.2.2⟩
theorem zy8 {h:Host}{m p:Int}(hm:hasB m (ln h.Mons)=true)(hs:SmH h):SmH (zo8 h m p):=⟨hs.1,zia hs.2.1 (zTQ (hs.2.1.2 _ (zbC hm _))),hs.2.2⟩
theorem zFX {h:Host}{m p:Int}{s:Slot}(hm:hasB m (ln h.Mons)=true)(hs:SmH h):SmH (zci h m p s):=by have hx:=hs.2.1.2 _ (zbC hm zh);have ht:=z1w (p:=p) (qY _) hx;have hM:zp7 (up h.Mons m {zjr (ix h.Mons m zh) p (ix h.Mons m zh).Tables.length with Outer:=up (ix h.Mons m zh).Outer p s}):=zia hs.2.1 ⟨by simpa using hx.1,ht.2⟩;unfold zci;cases ine (ix (ix h.Mons m zh).Outer p zbc).Page (-1);{exact⟨hs.1,hM,hs.2.2⟩};{exact⟨hs.1,hM,qT (zFh _ _) hs.2.2.1,qT (zFh _ _) hs.2.2.2⟩}
theorem zzb {h:Host}{m p:Int}(hm:hasB m (ln h.Mons)=true):hasB m (ln (zo8 h m p).Mons)=true:=by unfold zo8;simpa [ln] using hm
theorem z1s {h:Host}{m p:Int}(hs:SmH h):SmH (zsD h m p):=by unfold zsD;cases hp:zcr h m p;{exact hs};{have P:=zKj hp;cases zc3 (ix (ix h.Mons m zh).Outer p zbc) noSlot;{exact zFX (zzb P.hm) (zy8 P.hm hs)};{exact zy8 P.hm hs}}
@[simp] abbrev zCG (h:Host)(m p:Int):Bool:=pc (zb2 h)
@[simp] abbrev zuN (h:Host)(m p:Int):Host:=zsD h m p
@[simp] abbrev zuO (h:Host)(m p:Int):Bool:=zcr h m p
def zFA:Run:=rF3 dH dI dI fun b c d=>(zCG b c d,[aH (zuN b c d),aB (zuO b c d)])
def zNE (N:Nat)(a0:Host)(a1 a2:Int):OA:=
 let y3:=(zn a0);let y2:=(ix y3.Mons a1 zh); (oN (zbP a0) (oN (zmD y3 a1 a2) (cond (nB (zgZ y3 a1 a2)) (some [(aH y3),(aB false)]) (oN (inb a1 (ln y3.Mons)) (oN (inb a2 (ln y2.Dirty)) (share (up y3.Mons a1 ({y2 with Dirty:=(up y2.Dirty a2 false)}:Mon)) (fun x4=>let y4:=(ix x4 a1 zh).Outer;let y1:=({y3 with Mons:=x4}:Host);let y0:=(ix y4 a2 zbc);let y5:=({y0 with Rights:=1}:Slot); (oN (inb a1 (ln x4)) (oN (inb a2 (ln y4)) (oN zcp (cond (cond (ieq y0.Page zbt.Page) (ieq y0.Rights zbt.Rights) false) (some [(aH y1),(aB true)]) (oN (zeC y1 a1 a2 y5) (some [(aH (zgi y1 a1 a2 y5)),(aB true)])))))))))))))
theorem zU6 (a0:Host)(a1 a2:Int)(hc:zCG a0 a1 a2=true):∃N,zNE N a0 a1 a2=some [aH (zuN a0 a1 a2),aB (zuO a0 a1 a2)]:=by
 have hs:=zQ.1 hc;have hH:=(zbb a0).1 hs;refine⟨0,?_⟩;unfold zNE zuN zuO zsD oN nB;conv=>zeta
 refine must (zbN hs) (must rfl ?_);cases hp:zcr a0 a1 a2;{simp only [zgZ,zn,hp,cF,cT]};{have P:=zKj hp;obtain⟨k,rfl,hk⟩:=zds (n:=a0.Mons.length) P.hm;simp only[zgZ,zn,hp,cT,cF];have i1:inb a2 (ln (ix a0.Mons (k:Int) zh).Dirty)=true:=(by rw[ln,P.hd];exact P.hp);have i2:inb a2 (ln (ix a0.Mons (k:Int) zh).Outer)=true:=(by rw[ln,P.ho];exact P.hp);refine must P.hm (must i1 ?_);simp only[share,zdz hk,i2,cT,zcp,zbt];refine must (zzb (p:=a2) P.hm) ?_;have e:∀s:Slot,zc3 s noSlot=bif ieq s.Page noSlot.Page then ieq s.Rights noSlot.Rights else false:=fun s=>(by unfold zc3;cases ieq s.Page noSlot.Page<;>rfl);rw[<- e];cases zc3 (ix (ix a0.Mons (k:Int) zh).Outer a2 zbc) noSlot;{refine zdT rfl (must (zbN ⟨(zbb _).2 (zy8 P.hm hH),zzb (p:=a2) P.hm,?_,?_⟩) rfl);{simp only [zdz hk];exact i2};{simp only [zdz hk];exact k5 P.ht}};{rfl}}
theorem zO6:vL 31 zFA:=kF3 zGp zJ zG zd6 (zy []) zU6
def zZT:zZ:=[(31,zFA)]++zXs
theorem zZU:zL zZT:=zi zO6 zGp
def zZV:zZ:=zZT
theorem zjG:zL zZV:=zZU
def zyE (o i t:Int):Int:=bif zgp i t then 1 else (cond (zgp o t) 2 0)
@[simp] abbrev zpN (o i t:Int):Bool:=true
@[simp] abbrev zmA (o i t:Int):Int:=zyE o i t
def zzX:Run:=rF3 dI dI dI fun b c d=>(zpN b c d,[aI (zmA b c d)])
def zET (N:Nat)(a0 a1 a2:Int):OA:=
 (oN (zhs a1 a2) (cond (zhd a1 a2) (some [(aI 1)]) (oN (zhs a0 a2) (cond (zhd a0 a2) (some [(aI 2)]) (some [(aI 0)])))))
theorem zPJ (a0 a1 a2:Int)(hc:zpN a0 a1 a2=true):∃N,zET N a0 a1 a2=some [aI (zmA a0 a1 a2)]:=by refine⟨0,?_⟩;unfold zET oN;refine must rfl (br (fun _=>?_) (fun _=>must rfl (br (fun _=>?_) (fun _=>?_))));all_goals first|rfl|(simp only [*,zmA,zyE,cT,cF]<;>rfl)|simp_all[Ty.cells,zmA,zyE]
theorem zJe:vL 296 zzX:=kF3 zjG zJ zG zd6 (zy []) zPJ
def zeg (m g:Int):Int:=bif win m 0 2 then (cond (win g 0 1) (zK .i64 (zK .i64 1 g) (zkm .i64 m 2)) 0) else 0
@[simp] abbrev zj8 (m g:Int):Bool:=true
@[simp] abbrev zse (m g:Int):Int:=zeg m g
def zFJ:Run:=rF2 dI dI fun b c=>(zj8 b c,[aI (zse b c)])
def zNP (N:Nat)(a0 a1:Int):OA:=
 (oN (zN a0 0 2) (cond (nB (zS a0 0 2)) (some [(aI 0)]) (oN (zN a1 0 1) (cond (nB (zS a1 0 1)) (some [(aI 0)]) (some [(aI (zK .i64 (zK .i64 1 a1) (zkm .i64 a0 2)))])))))
theorem zVh (a0 a1:Int)(hc:zj8 a0 a1=true):∃N,zNP N a0 a1=some [aI (zse a0 a1)]:=by refine⟨0,?_⟩;unfold zNP oN nB;refine must rfl (brN (fun _=>?_) (fun _=>must rfl (brN (fun _=>?_) (fun _=>?_))));all_goals first|rfl|(simp only [*,zse,zeg,cT,cF]<;>rfl)|simp_all[Ty.cells,zse,zeg]
theorem zPf:vL 245 zFJ:=kF2 zjG zJ zG zd6 (zy []) zVh
def zjS (k:Kept)(p:Int):Bool:=bif zdl k p then ix k.Known p false else false
def zeF (k:Kept)(p:Int):Slot:=bif zjS k p then ix k.Slots p zbc else noSlot
@[simp] abbrev zDE (k:Kept)(p:Int):Bool:=pc (SmK k)
@[simp] abbrev zsb (k:Kept)(p:Int):Slot:=zeF k p
@[simp] abbrev zDD (k:Kept)(p:Int):Bool:=zjS k p
def zOJ:Run:=rF2 (dT .kept) dI fun b c=>(zDE b c,[aT .slot (zsb b c),aB (zDD b c)])
def zV9 (N:Nat)(a0:Kept)(a1:Int):OA:=
 let y0:=(ix a0.Slots a1 zbc); (oN (znS a0 a1) (cond (nB (zhv a0 a1)) (oN zcp (some [(.agg [(.i .i64 zbt.Page),(.i .i64 zbt.Rights)]),(aB false)])) (oN (inb a1 (ln a0.Known)) (cond (nB (ix a0.Known a1 false)) (oN zcp (some [(.agg [(.i .i64 zbt.Page),(.i .i64 zbt.Rights)]),(aB false)])) (oN (inb a1 (ln a0.Slots)) (some [(.agg [(.i .i64 y0.Page),(.i .i64 y0.Rights)]),(aB true)]))))))
theorem z0u (a0:Kept)(a1:Int)(hc:zDE a0 a1=true):∃N,zV9 N a0 a1=some [aT .slot (zsb a0 a1),aB (zDD a0 a1)]:=by
 have hs:=zQ.1 hc;refine⟨0,?_⟩;unfold zV9 zsb zDD zeF zjS oN nB;conv=>zeta
 refine must (zbN hs) ?_;rw[show zhv a0 a1=zdl a0 a1 from rfl];cases hh:zdl a0 a1;{rfl};{unfold zdl at hh;obtain⟨h1,h2⟩:=zc0.1 hh;simp only[zC h1,zC h2,cT];cases ix a0.Known a1 false<;>rfl}
theorem zUW:vL 308 zOJ:=kF2 zjG zJ zG zd6 (zy []) z0u
def filled (k:Kept)(inner outer:List Slot)(p:Int):Kept:=bif zdl k p then (cond (hasB p (ln inner)) ⟨up k.Known p true,up k.Slots p (zbu (ix inner p zbc) outer)⟩ k) else k
@[simp] theorem zY6 {k:Kept}{inner outer:List Slot}{p:Int}(h:SmK k):SmK (filled k inner outer p):=by unfold filled;cases zdl k p;{exact h};{cases hasB p (ln inner);{exact h};{exact⟨by simpa using h.1,by simpa using h.2⟩}}
@[simp] abbrev zHC (k:Kept)(i o:List Slot)(p:Int):Bool:=pc (SmK k)
@[simp] abbrev zKw (k:Kept)(i o:List Slot)(p:Int):Kept:=filled k i o p
def zKu:Run:=rF4 (dT .kept) (dS .slot) (dS .slot) dI fun b c d e=>(zHC b c d e,[aT .kept (zKw b c d e)])
def zQQ (N:Nat)(a0:Kept)(a1 a2:lS)(a3:Int):OA:=
 let y0:=(zdh a0); (oN (zfw a0) (oN (znS y0 a3) (cond (zhv y0 a3) (cond (ilt a3 (ln a1)) (oN (inb a3 (ln y0.Known)) (share (up y0.Known a3 true) (fun x5=>(oN (inb a3 (ln a1)) (oN (zjv (ix a1 a3 zbc) a2) (oN (inb a3 (ln y0.Slots)) (share (up y0.Slots a3 (zlH (ix a1 a3 zbc) a2)) (fun x6=>(some [(aT .kept (⟨x5,x6⟩:Kept))]))))))))) (some [(aT .kept y0)])) (some [(aT .kept y0)]))))
theorem zYf (a0:Kept)(a1 a2:List Slot)(a3:Int)(hc:zHC a0 a1 a2 a3=true):∃N,zQQ N a0 a1 a2 a3=some [aT .kept (zKw a0 a1 a2 a3)]:=by
 have hs:=zQ.1 hc;refine⟨0,?_⟩;unfold zQQ zKw filled oN;conv=>zeta
 refine must (zbN ((zwx _).2 hs)) (must (zbN hs) ?_);rw[show zhv (zdh a0) a3=zdl a0 a3 from rfl];cases hh:zdl a0 a3;{rfl};{unfold zdl at hh;obtain⟨h1,h2⟩:=zc0.1 hh;rw[has_lt h1 (m:=ln a1)];cases h3:hasB a3 (ln a1);{rfl};{simp only [cT,zdh,zC h1,zC h2,zC h3,share,zjv];rfl}}
theorem zRU:vL 309 zKu:=kF4 zjG zJ zG zd6 (zy []) zYf
theorem zRL {α ρ:Type}(p:α->Bool)(r:α->Option ρ)(K:Unit->Option ρ):∀(l:List α) (i:Nat),goL (fun _ x (_:Unit) k=>bif p x then r x else k ()) K l i ()=match l.find? p with|some x=>r x|none=>K ()
 |[],_=>rfl
 |x::l,i=>by simp only[goL];cases h:p x;{rw [List.find?_cons_of_neg (by simp[h])];exact zRL p r K l (i+1)};{rw [List.find?_cons_of_pos h];rfl}
def zDk (b:List Entry)(t p:Int):Option Entry:=b.find? fun e=>bif ieq e.Tag t then ieq e.Page p else false
@[simp] abbrev zlM (b:List Entry)(t p:Int):Bool:=true
@[simp] abbrev zlL (b:List Entry)(t p:Int):Entry:=(zDk b t p).getD ⟨0,0,0,0⟩
@[simp] abbrev ziQ (b:List Entry)(t p:Int):Bool:=(zDk b t p).isSome
def zuF:Run:=rF3 (dS .entry) dI dI fun b c d=>(zlM b c d,[aT .entry (zlL b c d),aB (ziQ b c d)])
def zzl (N:Nat)(a0:lE)(a1 a2:Int):OA:=
 (iter (σ:=(Int×(Int×(Int×(Int×(Int×(Int×(Int×(lE×Unit))))))))) N (fun r4 s5=>let y2:=s5.2.2.2.2.2.2.2.1;let y3:=(inb s5.2.2.1 (ln y2));let y1:=(r4 (s5.1,(s5.2.1,((zK .i64 s5.2.2.1 1),(s5.2.2.2.1,(s5.2.2.2.2.1,(s5.2.2.2.2.2.1,(s5.2.2.2.2.2.2.1,(y2,())))))))));let y0:=(ix y2 s5.2.2.1 zh4); (cond (ilt s5.2.2.1 (ln y2)) (oN y3 (cond (ieq y0.Tag s5.1) (oN y3 (cond (ieq y0.Page s5.2.1) (oN y3 (some [(.agg [(.i .i64 y0.Tag),(.i .i64 y0.Page),(.i .i64 y0.Host),(.i .i64 y0.Rights)]),(aB true)])) y1)) y1)) (some [(.agg [(.i .i64 0),(.i .i64 0),(.i .i64 0),(.i .i64 0)]),(aB false)]))) (a1,(a2,(0,(0,(0,(0,(0,(a0,())))))))))
def zK5:FuncId->Nat->Option Tmpl:=zy [(307,0,{n:=36,tm:=[(0,.sl 0 []),(1,ti),(2,ti),(6,.lp 0 0),(8,ti)],lo:=[(0,[ti,ti,ti,ti])],ro:=[(0,.entry,false)]})]
theorem zJX (a0:List Entry)(a1 a2:Int)(hb:zcP big [aS .entry a0,aI a1,aI a2])(hc:zlM a0 a1 a2=true):∃N,zzl N a0 a1 a2=some [aT .entry (zlL a0 a1 a2),aB (ziQ a0 a1 a2)]:=by
 have hl:=(len0 hb);refine zcG fun N hNN=>?_;unfold zzl oN;conv=>zeta
 refine(zbn a0 (fun i (t:Unit)=>(a1,a2,(i:Int),0,0,0,0,a0,())) _ (fun _ (x:Entry) (_:Unit) κ=>bif (cond (ieq x.Tag a1) (ieq x.Page a2) false) then (some [AV.agg (Ty.cells .entry x),AV.one (.b true)]) else κ ()) (fun (t:Unit)=>(some [(.agg [(.i .i64 0),(.i .i64 0),(.i .i64 0),(.i .i64 0)]),(.one (.b false))])) (fun i hi t rec=>?_) (fun t rec=>?_) _ () (hNN hl)).trans ?_;{simp only [zbS hi,zbq hi,zbA hi,zbk hi hl,cT];cases ieq a0[i].Tag a1<;>cases ieq a0[i].Page a2<;>rfl};{simp only [zbJ,cF]};rw[zRL (fun e:Entry=>bif ieq e.Tag a1 then ieq e.Page a2 else false)];unfold zlL ziQ zDk;cases a0.find? (fun e:Entry=>bif ieq e.Tag a1 then ieq e.Page a2 else false)<;>rfl
theorem zDV:vL 307 zuF:=hF3 zjG zJ zG zd6 zK5 zJX
def zBS (t p:Int)(e:Entry):Bool:=bif ine e.Tag t then true else ine e.Page p
def zcz (b:List Entry)(t p:Int):List Entry:=b.filter (zBS t p)
theorem zya (b:List Entry)(t p:Int):(zcz b t p).length<=b.length:=uD _ _
@[simp] abbrev zfZ (b:List Entry)(t p:Int):Bool:=pc (b.length<=1048576)
@[simp] abbrev zlo (b:List Entry)(t p:Int):List Entry:=zcz b t p
def zuH:Run:=rF3 (dS .entry) dI dI fun b c d=>(zfZ b c d,[aS .entry (zlo b c d)])
def zzn (N:Nat)(a0:lE)(a1 a2:Int):OA:=
 (iter (σ:=(Int×(Int×(Int×(lE×(lE×Unit)))))) N (fun r4 s5=>let y4:=s5.2.2.2.1;let y2:=(inb s5.2.2.1 (ln y4));let y0:=(ix y4 s5.2.2.1 zh4);let y3:=(ap s5.2.2.2.2.1 [y0]);let y1:=(r4 (s5.1,(s5.2.1,((zK .i64 s5.2.2.1 1),(y4,(y3,())))))); (cond (ilt s5.2.2.1 (ln y4)) (oN y2 (cond (ine y0.Tag s5.1) (oN y2 (oN (few (ln y3)) y1)) (oN y2 (cond (ine y0.Page s5.2.1) (oN y2 (oN (few (ln y3)) y1)) (r4 (s5.1,(s5.2.1,((zK .i64 s5.2.2.1 1),(y4,(s5.2.2.2.2.1,())))))))))) (some [(aS .entry s5.2.2.2.2.1)]))) (a1,(a2,(0,(a0,([],()))))))
def zK7:FuncId->Nat->Option Tmpl:=zy [(244,0,{n:=40,tm:=[(0,.sl 0 []),(1,ti),(2,ti),(7,.sl 1 []),(8,ti)],lo:=[],ro:=[(0,.entry,false),(1,.entry,true)]})]
theorem zJZ (a0:List Entry)(a1 a2:Int)(hc:zfZ a0 a1 a2=true):∃N,zzn N a0 a1 a2=some [aS .entry (zlo a0 a1 a2)]:=by
 have hs:=zQ.1 hc;have hl:=zcC hs;refine zcG fun N hNN=>?_;unfold zzn oN;conv=>zeta
 refine(zbn a0 (fun i (t:lE)=>(a1,a2,(i:Int),a0,t,())) _ (fun _ (x:Entry) (t:List Entry) κ=>bif zBS a1 a2 x then (cond (few (ln (ap t [x]))) (κ (ap t [x])) none) else κ t) (fun (t:lE)=>(some [(.one (.s .entry t))])) (fun i hi t rec=>?_) (fun t rec=>?_) _ ([]) (hNN hl.1)).trans ?_;{simp only [zbS hi,zbq hi,zbA hi,zbk hi hl.1,cT];unfold zBS;cases ine a0[i].Tag a1<;>cases ine a0[i].Page a2<;>rfl};{simp only [zbJ,cF]};exact zmX (zBS a1 a2) _ a0 0 [] (by simpa using hl.2)
theorem zDX:vL 244 zuH:=kF3 zjG zJ zG zd6 zK7 zJZ
def z5d:zZ:=[(296,zzX),(245,zFJ),(308,zOJ),(309,zKu),(307,zuF),(244,zuH)]++zZV
theorem zx6:zL z5d:=zi zJe (zi zPf (zi zUW (zi zRU (zi zDV (zi zDX zjG)))))
def zoG (b:List Entry)(e:Entry):List Entry:=bif igt (ln (ap (zcz b e.Tag e.Page) [e])) 6 then dp (ap (zcz b e.Tag e.Page) [e]) (wsub .i64 (ln (ap (zcz b e.Tag e.Page) [e])) 6) else ap (zcz b e.Tag e.Page) [e]
theorem zyK {b:List Entry}(e:Entry)(h:b.length<=1048576):(zoG b e).length<=1048576/\(ap (zcz b e.Tag e.Page) [e]).length<=1048577:=by have h1:=zya b e.Tag e.Page;have h2:(ap (zcz b e.Tag e.Page) [e]).length<=1048577:=(by simp[ap];omega);refine⟨?_,h2⟩;unfold zoG;cases h3:igt (ln (ap (zcz b e.Tag e.Page) [e])) 6;{have h3:=jS h3;simp only[ln]at h3;simp only[cF];omega};{simp only [cT,dp,vH];have h3:=qE h3;have:wsub .i64 (ln (ap (zcz b e.Tag e.Page) [e])) 6=ln (ap (zcz b e.Tag e.Page) [e])-6:=zxJ (by simp only[ln] at *;omega) (by simp only[ln] at *;omega);rw[this];simp only[ln] at *;omega}
@[simp] abbrev zj7 (b:List Entry)(e:Entry):Bool:=pc (b.length<=1048576)
@[simp] abbrev zkV (b:List Entry)(e:Entry):List Entry:=zoG b e
def zoO:Run:=rF2 (dS .entry) (dT .entry) fun b c=>(zj7 b c,[aS .entry (zkV b c)])
def zAU (N:Nat)(a0:lE)(a1:Entry):OA:=
 let y0:=(ap (zlo a0 a1.Tag a1.Page) [a1]);let y1:=(wsub .i64 (ln y0) 6); (oN (zfZ a0 a1.Tag a1.Page) (oN (few (ln y0)) (cond (igt (ln y0) 6) (oN (inr y1 (ln y0) (ln y0)) (oN (few (ln (ap [] (dp y0 y1)))) (some [(aS .entry (ap [] (dp y0 y1)))]))) (some [(aS .entry y0)]))))
theorem zMC (a0:List Entry)(a1:Entry)(hc:zj7 a0 a1=true):∃N,zAU N a0 a1=some [aS .entry (zkV a0 a1)]:=by
 have hs:=zQ.1 hc;obtain⟨h1,h2⟩:=zyK a1 hs;refine⟨0,?_⟩;unfold zAU oN;conv=>zeta
 refine must (zbN hs) (must (zf1 (qT h2 (by decide:1048577<=2147483648))) ?_);unfold zkV zoG at *;show _=some [AV.one (.s .entry (cond (igt (ln (ap (zcz a0 a1.Tag a1.Page) [a1])) 6) (dp (ap (zcz a0 a1.Tag a1.Page) [a1]) (wsub .i64 (ln (ap (zcz a0 a1.Tag a1.Page) [a1])) 6)) (ap (zcz a0 a1.Tag a1.Page) [a1])))];cases h3:igt (ln (ap (zcz a0 a1.Tag a1.Page) [a1])) 6;{rfl};{rw [h3]at h1;simp only[cT]at h1;have h3:=qE h3;have e:wsub .i64 (ln (ap (zcz a0 a1.Tag a1.Page) [a1])) 6=ln (ap (zcz a0 a1.Tag a1.Page) [a1])-6:=zxJ (by simp only[ln] at *;omega) (by simp only[ln] at *;omega);refine must rfl (must (qL ?_) (must ?_ ?_));{show 0<=wsub .i64 (ln (ap (zcz a0 a1.Tag a1.Page) [a1])) 6/\wsub .i64 (ln (ap (zcz a0 a1.Tag a1.Page) [a1])) 6<=ln (ap (zcz a0 a1.Tag a1.Page) [a1])/\ln (ap (zcz a0 a1.Tag a1.Page) [a1])<=ln (ap (zcz a0 a1.Tag a1.Page) [a1]);rw[e];simp only[ln] at *;omega};{exact zwD h1};{rw [ziJ];rfl}}
theorem zsG:vL 220 zoO:=kF2 zx6 zJ zG zd6 (zy []) zMC
def zmW (l:List Slot)(p:Int):Option Nat:=l.findIdx? fun s=>ieq s.Page p
def zhc (p:Int):List Mon->Nat->Int×Int
 |[],_=>(-1,-1)
 |m::l,i=>match zmW m.Outer p with|some k=>((i:Int),(k:Int))|none=>zhc p l (i+1)
def zbx (h:Host)(p:Int):Int×Int:=bif ilt p 0 then (-1,-1) else zhc p h.Mons 0
theorem zOk {ρ:Type}(p:Slot->Bool)(r:Nat->Option ρ)(K:Unit->Option ρ):∀(l:List Slot) (i:Nat),goL (fun j x (_:Unit) k=>bif p x then r j else k ()) K l i ()=match l.findIdx? p with|some k=>r (i+k)|none=>K ()
 |[],_=>rfl
 |x::l,i=>by simp only[goL];rw[List.findIdx?_cons];cases h:p x;{simp only [cF,kC,if_false];rw[zOk p r K l (i+1)];cases l.findIdx? p with|none=>rfl|some k=>simp only[Option.map_some];congr 1;omega};{rfl}
theorem zLt {ρ:Type}(p:Int)(r:Int->Int->Option ρ):∀(l:List Mon) (i:Nat),goL (fun i (x:Mon) (_:Unit) κ=>goL (fun j (y:Slot) (_:Unit) κ₁=>bif ieq y.Page p then r (i:Int) (j:Int) else κ₁ ()) (fun _=>κ ()) x.Outer 0 ()) (fun _=>r (-1) (-1)) l i ()=r (zhc p l i).1 (zhc p l i).2
 |[],_=>rfl
 |m::l,i=>by simp only[goL,zhc];rw[zOk (fun s=>ieq s.Page p) (fun j=>r (i:Int) (j:Int))];unfold zmW;cases m.Outer.findIdx? (fun s=>ieq s.Page p) with|none=>exact zLt p r l (i+1)|some k=>simp only[jU]
@[simp] abbrev zjs (h:Host)(p:Int):Bool:=true
@[simp] abbrev zfN (h:Host)(p:Int):Int:=(zbx h p).1
@[simp] abbrev zg6 (h:Host)(p:Int):Int:=(zbx h p).2
def zrq:Run:=rF2 dH dI fun b c=>(zjs b c,[aI (zfN b c),aI (zg6 b c)])
def ztz (N:Nat)(a0:Host)(a1:Int):OA:=
 (cond (ilt a1 0) (some [(aI (-1)),(aI (-1))]) (iter (σ:=(Int×(Int×(Int×(lN×Unit))))) N (fun r3 s4=>let y3:=s4.2.2.1; (cond (ilt y3 s4.2.1) (oN (inb y3 (ln s4.2.2.2.1)) (iter (σ:=(Int×(Int×(Int×(Int×(Int×(Int×(Int×(lN×Unit))))))))) N (fun r5 s6=>let y2:=s6.2.2.2.2.2.2.2.1;let y1:=(ix y2 s6.2.2.2.2.1 zh).Outer;let y0:=s6.2.2.2.2.2.2.1; (cond (ilt y0 s6.2.2.2.2.2.1) (oN (inb y0 (ln y1)) (cond (ieq (ix y1 y0 zbc).Page s6.1) (some [(aI s6.2.1),(aI y0)]) (r5 (s6.1,(s6.2.1,(s6.2.2.1,(s6.2.2.2.1,(s6.2.2.2.2.1,(s6.2.2.2.2.2.1,((zK .i64 y0 1),(y2,()))))))))))) (r3 (s6.1,(s6.2.2.1,((zK .i64 s6.2.2.2.1 1),(y2,()))))))) (s4.1,(y3,(s4.2.1,(y3,(y3,((ln (ix s4.2.2.2.1 y3 zh).Outer),(0,(s4.2.2.2.1,())))))))))) (some [(aI (-1)),(aI (-1))]))) (a1,((ln a0.Mons),(0,(a0.Mons,()))))))
def zEy:FuncId->Nat->Option Tmpl:=zy [(35,0,{n:=36,tm:=[(1,ti),(13,.sl 0 []),(14,ti),(15,ti)],lo:=[],ro:=[(0,.mon,false)]}),(35,2,{n:=36,tm:=[(1,ti),(6,ti),(13,.sl 0 []),(14,ti),(15,ti),(21,.sl 0 [0]),(22,ti),(23,ti)],lo:=[],ro:=[(0,.mon,false)]})]
theorem zEd (a0:Host)(a1:Int)(hb:zcP big [aH a0,aI a1])(hc:zjs a0 a1=true):∃N,ztz N a0 a1=some [aI (zfN a0 a1),aI (zg6 a0 a1)]:=by
 have hm:CVB big (.s .mon a0.Mons):=(zem hb).1 _ (by simp[AV.cvs,zbj]);have hl:=hm.len;refine zcG fun N hNN=>?_;unfold ztz zfN zg6 zbx oN;conv=>zeta
 cases h0:ilt a1 0;{simp only [cF];refine(zbn a0.Mons (fun i (t:Unit)=>(a1,(ln a0.Mons),(i:Int),a0.Mons,())) _ (fun i (x:Mon) (_:Unit) κ=>goL (fun j (y:Slot) (_:Unit) κ₁=>bif ieq y.Page a1 then some [AV.one (.i .i64 (i:Int)),AV.one (.i .i64 (j:Int))] else κ₁ ()) (fun _=>κ ()) x.Outer 0 ()) (fun (t:Unit)=>(some [(.one (.i .i64 (-1))),(.one (.i .i64 (-1)))])) (fun i hi t rec=>?_) (fun t rec=>?_) _ () (hNN hl)).trans ?_;{simp only [zbS hi,zbq hi,zbA hi,zbk hi hl,cT];have ho:a0.Mons[i].Outer.length<=big:=(hm.inv.2 _ (jL hi) (.s .slot _) (by simp[Ty.cells])).len;refine(zbn a0.Mons[i].Outer (fun j (u:Unit)=>(a1,(i:Int),(ln a0.Mons),(i:Int),(i:Int),(ln a0.Mons[i].Outer),(j:Int),a0.Mons,())) _ (fun j (y:Slot) (_:Unit) κ₁=>bif ieq y.Page a1 then some [AV.one (.i .i64 (i:Int)),AV.one (.i .i64 (j:Int))] else κ₁ ()) (fun (u:Unit)=>(rec (a1,((ln a0.Mons),((((i+1:Nat)):Int),(a0.Mons,())))))) (fun j hj u rec1=>?_) (fun u rec1=>?_) _ () (hNN ho)).trans ?_;{simp only [zbS hj,zbq hj,zbA hj,zbk hj ho,cT,zbq hi,zbA hi,zbk hi hl]};{simp only [zbJ,cF,zbq hi,zbA hi,zbk hi hl]};rfl};{simp only [zbJ,cF]};exact zLt a1 (fun i j=>some [AV.one (.i .i64 i),AV.one (.i .i64 j)]) a0.Mons 0};{rfl}
theorem zAr:vL 35 zrq:=hF2 zx6 zJ zG zd6 zEy zEd
theorem z0f {α τ ρ:Type}(r:Option ρ):∀(l:List α) (i:Nat) (t:τ),goL (fun _ _ _ _=>r) (fun _=>r) l i t=r
 |[],_,_=>rfl
 |_::_,_,_=>rfl
@[simp] abbrev zjw (h:Host)(p:Int):Bool:=true
@[simp] abbrev zfP (h:Host)(p:Int):Int:=(zbx h p).1
@[simp] abbrev zhe (h:Host)(p:Int):Int:=(zbx h p).2
def zru:Run:=rF2 dH dI fun b c=>(zjw b c,[aI (zfP b c),aI (zhe b c)])
def ztK (N:Nat)(a0:Host)(a1:Int):OA:=
 (iter (σ:=(Int×(Int×(lM×(lN×(lE×(lE×Unit))))))) N (fun r3 s4=>(cond (ilt s4.2.1 (ln s4.2.2.2.1)) (cond (ige s4.1 0) (iter (σ:=(Int×(Int×(Int×(lM×(lN×(lE×(lE×Unit)))))))) N (fun r5 s6=>let y1:=s6.2.2.2.2.1;let y0:=(ix y1 s6.2.1 zh).Outer; (oN (inb s6.2.1 (ln y1)) (cond (ilt s6.2.2.1 (ln y0)) (oN (inb s6.2.1 (ln y1)) (oN (inb s6.2.2.1 (ln y0)) (cond (ieq (ix y0 s6.2.2.1 zbc).Page s6.1) (some [(aI s6.2.1),(aI s6.2.2.1)]) (r5 (s6.1,(s6.2.1,((zK .i64 s6.2.2.1 1),(s6.2.2.2.1,(y1,(s6.2.2.2.2.2.1,(s6.2.2.2.2.2.2.1,()))))))))))) (r3 (s6.1,((zK .i64 s6.2.1 1),(s6.2.2.2.1,(y1,(s6.2.2.2.2.2.1,(s6.2.2.2.2.2.2.1,())))))))))) (s4.1,(s4.2.1,(0,(s4.2.2.1,(s4.2.2.2.1,(s4.2.2.2.2.1,(s4.2.2.2.2.2.1,())))))))) (some [(aI (-1)),(aI (-1))])) (some [(aI (-1)),(aI (-1))]))) (a1,(0,(a0.Memory,(a0.Mons,(a0.Buffer,(a0.IoBuffer,())))))))
def zEz:FuncId->Nat->Option Tmpl:=zy [(36,0,{n:=44,tm:=[(1,ti),(2,.lp 0 0),(6,ti)],lo:=[(0,[.sl 0 [],.sl 1 [],.sl 2 [],.sl 3 []])],ro:=[(0,(.sl .int),false),(1,.mon,false),(2,.entry,false),(3,.entry,false)]}),(36,2,{n:=44,tm:=[(1,ti),(2,.lp 0 0),(6,ti),(7,ti)],lo:=[(0,[.sl 0 [],.sl 1 [],.sl 2 [],.sl 3 []])],ro:=[(0,(.sl .int),false),(1,.mon,false),(2,.entry,false),(3,.entry,false)]})]
theorem zEo (a0:Host)(a1:Int)(hb:zcP big [aH a0,aI a1])(hc:zjw a0 a1=true):∃N,ztK N a0 a1=some [aI (zfP a0 a1),aI (zhe a0 a1)]:=by
 have hm:CVB big (.s .mon a0.Mons):=(zem hb).1 _ (by simp[AV.cvs,zbj]);have hl:=hm.len;refine zcG fun N hNN=>?_;unfold ztK zfP zhe zbx oN;conv=>zeta
 refine(zbn a0.Mons (fun i (t:Unit)=>(a1,(i:Int),a0.Memory,a0.Mons,a0.Buffer,a0.IoBuffer,())) _ (fun i (x:Mon) (_:Unit) κ=>bif ige a1 0 then goL (fun j (y:Slot) (_:Unit) κ₁=>bif ieq y.Page a1 then some [AV.one (.i .i64 (i:Int)),AV.one (.i .i64 (j:Int))] else κ₁ ()) (fun _=>κ ()) x.Outer 0 () else some [AV.one (.i .i64 (-1)),AV.one (.i .i64 (-1))]) (fun (t:Unit)=>(some [(.one (.i .i64 (-1))),(.one (.i .i64 (-1)))])) (fun i hi t rec=>?_) (fun t rec=>?_) _ () (hNN hl)).trans ?_;{simp only [zbS hi,zbq hi,zbA hi,zbk hi hl,cT];cases h0:ige a1 0;{rfl};have ho:a0.Mons[i].Outer.length<=big:=(hm.inv.2 _ (jL hi) (.s .slot _) (by simp[Ty.cells])).len;simp only[cT];refine(zbn a0.Mons[i].Outer (fun j (_:Unit)=>(a1,((i:Int),((j:Int),(a0.Memory,(a0.Mons,(a0.Buffer,(a0.IoBuffer,())))))))) _ (fun j (y:Slot) (_:Unit) κ₁=>bif ieq y.Page a1 then some [AV.one (.i .i64 (i:Int)),AV.one (.i .i64 (j:Int))] else κ₁ ()) (fun _=>rec (a1,(((i+1:Nat):Int),(a0.Memory,(a0.Mons,(a0.Buffer,(a0.IoBuffer,()))))))) (fun j hj u rec1=>?_) (fun u rec1=>?_) _ () (hNN ho)).trans ?_;{simp only [zbS hj,zbq hj,zbA hj,zbk hj ho,cT,zbq hi,zbA hi]};{simp only [zbJ,cF,cT,zbq hi,zbA hi,zbk hi hl]};rfl};{simp only [zbJ,cF]};cases h0:ige a1 0;{have h1:ilt a1 0=true:=(by have:=jS h0;exact qL (by omega));rw[h1];exact z0f _ _ _ _};{have h1:ilt a1 0=false:=(by have:=qE h0;exact qS (by omega));rw[h1];exact zLt a1 (fun i j=>some [AV.one (.i .i64 i),AV.one (.i .i64 j)]) a0.Mons 0}
theorem zAB:vL 36 zru:=hF2 zx6 zJ zG zd6 zEz zEo
def z5e:zZ:=[(220,zoO),(36,zru),(35,zrq)]++z5d
theorem zsv:zL z5e:=zi zsG (zi zAB (zi zAr zx6))
def zb3 (h:Host):List Int:=zqM (fun i=>ilt (zbx h (i:Int)).1 0) h.Memory.length 0
@[simp] abbrev ziu (h:Host):Bool:=pc (h.Memory.length<=1048576)
@[simp] abbrev zek (h:Host):List Int:=zb3 h
def zs5:Run:=rF1 dH fun b=>(ziu b,[aS .int (zek b)])
def zH7 (N:Nat)(a0:Host):OA:=
 (iter (σ:=(Int×((List Int)×(lM×(lN×(lE×(lE×Unit))))))) N (fun r2 s3=>let y0:=(⟨s3.2.2.1,s3.2.2.2.1,s3.2.2.2.2.1,s3.2.2.2.2.2.1⟩:Host); (cond (ilt s3.1 (ln s3.2.2.1)) (oN (zjw y0 s3.1) (cond (ilt (zfP y0 s3.1) 0) (oN (few (ln (ap s3.2.1 [s3.1]))) (r2 ((zK .i64 s3.1 1),((ap s3.2.1 [s3.1]),(s3.2.2.1,(s3.2.2.2.1,(s3.2.2.2.2.1,(s3.2.2.2.2.2.1,())))))))) (r2 ((zK .i64 s3.1 1),(s3.2.1,(s3.2.2.1,(s3.2.2.2.1,(s3.2.2.2.2.1,(s3.2.2.2.2.2.1,()))))))))) (some [(aS .int s3.2.1)]))) (0,([],(a0.Memory,(a0.Mons,(a0.Buffer,(a0.IoBuffer,())))))))
def zT9:FuncId->Nat->Option Tmpl:=zy [(24,0,{n:=28,tm:=[(1,.lp 0 0),(3,.sl 0 []),(4,ti)],lo:=[(0,[.sl 1 [],.sl 2 [],.sl 3 [],.sl 4 []])],ro:=[(0,.int,true),(1,(.sl .int),false),(2,.mon,false),(3,.entry,false),(4,.entry,false)]})]
theorem zSn (a0:Host)(hc:ziu a0=true):∃N,zH7 N a0=some [aS .int (zek a0)]:=by
 have hs:=zQ.1 hc;have hl:=zcC hs;refine zcG fun N hNN=>?_;unfold zH7 oN;conv=>zeta
 refine(zbn a0.Memory (fun i (t:(List Int))=>((i:Int),t,a0.Memory,a0.Mons,a0.Buffer,a0.IoBuffer,())) _ (fun i (_:List Int) (t:List Int) κ=>bif ilt (zbx a0 (i:Int)).1 0 then (cond (few (ln (ap t [(i:Int)]))) (κ (ap t [(i:Int)])) none) else κ t) (fun (t:(List Int))=>(some [(.one (.s .int t))])) (fun i hi t rec=>?_) (fun t rec=>?_) _ ([]) (hNN hl.1)).trans ?_;{simp only [zbS hi,zbq hi,zbA hi,zbk hi hl.1,cT]};{simp only [zbJ,cF]};rw[zDq (fun i (t:List Int) κ=>bif ilt (zbx a0 (i:Int)).1 0 then (cond (few (ln (ap t [(i:Int)]))) (κ (ap t [(i:Int)])) none) else κ t)];exact zyh (fun i=>ilt (zbx a0 (i:Int)).1 0) _ _ 0 [] (by simpa using hl.2)
theorem zwI:vL 24 zs5:=kF1 zsv zJ zG zd6 zT9 zSn
@[simp] abbrev zil (h:Host):Bool:=pc (h.Memory.length<=1048576)
@[simp] abbrev zfe (h:Host):List Int:=zb3 h
def zB6:Run:=rF1 dH fun b=>(zil b,[aS .int (zfe b)])
def zHV (N:Nat)(a0:Host):OA:=
 (iter (σ:=(Int×(Int×((List Int)×(lM×(lN×(lE×(lE×Unit)))))))) N (fun r2 s3=>let y1:=s3.2.2.2.2.2.2.1;let y0:=(⟨s3.2.2.2.1,s3.2.2.2.2.1,s3.2.2.2.2.2.1,y1⟩:Host); (cond (ilt s3.2.1 s3.1) (oN (zjs y0 s3.2.1) (cond (ilt (zfN y0 s3.2.1) 0) (oN (few (ln (ap s3.2.2.1 [s3.2.1]))) (r2 (s3.1,((zK .i64 s3.2.1 1),((ap s3.2.2.1 [s3.2.1]),(s3.2.2.2.1,(s3.2.2.2.2.1,(s3.2.2.2.2.2.1,(y1,()))))))))) (r2 (s3.1,((zK .i64 s3.2.1 1),(s3.2.2.1,(s3.2.2.2.1,(s3.2.2.2.2.1,(s3.2.2.2.2.2.1,(y1,())))))))))) (some [(aS .int s3.2.2.1)]))) ((ln a0.Memory),(0,([],(a0.Memory,(a0.Mons,(a0.Buffer,(a0.IoBuffer,()))))))))
def zT4:FuncId->Nat->Option Tmpl:=zy [(33,0,{n:=28,tm:=[(1,.lp 0 0),(3,.sl 0 []),(10,ti),(11,ti)],lo:=[(0,[.sl 1 [],.sl 2 [],.sl 3 [],.sl 4 []])],ro:=[(0,.int,true),(1,(.sl .int),false),(2,.mon,false),(3,.entry,false),(4,.entry,false)]})]
theorem zSa (a0:Host)(hc:zil a0=true):∃N,zHV N a0=some [aS .int (zfe a0)]:=by
 have hs:=zQ.1 hc;have hl:=zcC hs;refine zcG fun N hNN=>?_;unfold zHV oN;conv=>zeta
 refine(zbn a0.Memory (fun i (t:(List Int))=>((ln a0.Memory),(i:Int),t,a0.Memory,a0.Mons,a0.Buffer,a0.IoBuffer,())) _ (fun i (_:List Int) (t:List Int) κ=>bif ilt (zbx a0 (i:Int)).1 0 then (cond (few (ln (ap t [(i:Int)]))) (κ (ap t [(i:Int)])) none) else κ t) (fun (t:(List Int))=>(some [(.one (.s .int t))])) (fun i hi t rec=>?_) (fun t rec=>?_) _ ([]) (hNN hl.1)).trans ?_;{simp only [zbS hi,zbq hi,zbA hi,zbk hi hl.1,cT]};{simp only [zbJ,cF]};rw[zDq (fun i (t:List Int) κ=>bif ilt (zbx a0 (i:Int)).1 0 then (cond (few (ln (ap t [(i:Int)]))) (κ (ap t [(i:Int)])) none) else κ t)];exact zyh (fun i=>ilt (zbx a0 (i:Int)).1 0) _ _ 0 [] (by simpa using hl.2)
theorem zLA:vL 33 zB6:=kF1 zsv zJ zG zd6 zT4 zSa
def zgI (m:List (List Int))(p:Int)(c:List Int):List (List Int):=bif hasB p (ln m) then (cond (zct c) (up m p c) m) else m
@[simp] abbrev zka (m:List (List Int))(p:Int)(c:List Int):Bool:=pc (SmM m/\c.length<=1048576)
@[simp] abbrev ziy (m:List (List Int))(p:Int)(c:List Int):List (List Int):=zgI m p c
def zxo:Run:=rF3 (dS (.sl .int)) dI (dS .int) fun b c d=>(zka b c d,[aS (.sl .int) (ziy b c d)])
def zAY (N:Nat)(a0:lM)(a1:Int)(a2:List Int):OA:=
 (oN (zfv a0) (oN (zN a1 0 (wsub .i64 (ln a0) 1)) (cond (zS a1 0 (wsub .i64 (ln a0) 1)) (oN (zft a2) (cond (zeU a2) (oN (few (ln (ap [] a2))) (oN (inb a1 (ln (zd3 a0))) (share (up (zd3 a0) a1 (ap [] a2)) (fun x4=>(some [(aS (.sl .int) x4)]))))) (some [(aS (.sl .int) (zd3 a0))]))) (some [(aS (.sl .int) (zd3 a0))]))))
theorem zMI (a0:List (List Int))(a1:Int)(a2:List Int)(hc:zka a0 a1 a2=true):∃N,zAY N a0 a1 a2=some [aS (.sl .int) (ziy a0 a1 a2)]:=by obtain⟨hs,hs2⟩:=zQ.1 hc;refine⟨0,?_⟩;unfold zAY ziy zgI oN;refine must (zbN ((zoq _).2 hs)) (must rfl ?_);rw[show zS a1 0 (wsub .i64 (ln a0) 1)=hasB a1 (ln a0) from zo9 hs.1 a1];cases h1:hasB a1 (ln a0);{rfl};{simp only [cT,zft,zeU];cases h2:zct a2;{rfl};{refine must rfl (must (zwD hs2) (must (zC h1) ?_));rw[ziJ];rfl}}
theorem zGT:vL 133 zxo:=kF3 zsv zJ zG zd6 (zy []) zMI
@[simp] abbrev zjQ (m:List (List Int))(p:Int)(c:List Int):Bool:=pc (SmM m/\c.length<=1048576)
@[simp] abbrev zim (m:List (List Int))(p:Int)(c:List Int):List (List Int):=zgI m p c
def zw7:Run:=rF3 (dS (.sl .int)) dI (dS .int) fun b c d=>(zjQ b c d,[aS (.sl .int) (zim b c d)])
def zAE (N:Nat)(a0:lM)(a1:Int)(a2:List Int):OA:=
 (oN (zvJ a0) (oN (zff a1 (ln a0)) (cond (zf6 a1 (ln a0)) (oN (zrC a2) (cond (zjO a2) (oN (zeM a2) (oN (inb a1 (ln (zms a0))) (share (up (zms a0) a1 (zeL a2)) (fun x4=>(some [(aS (.sl .int) x4)]))))) (some [(aS (.sl .int) (zms a0))]))) (some [(aS (.sl .int) (zms a0))]))))
theorem zMm (a0:List (List Int))(a1:Int)(a2:List Int)(hc:zjQ a0 a1 a2=true):∃N,zAE N a0 a1 a2=some [aS (.sl .int) (zim a0 a1 a2)]:=by obtain⟨hs,hs2⟩:=zQ.1 hc;refine⟨0,?_⟩;unfold zAE zim zgI oN;refine must (zbN hs) (must rfl ?_);rw[show zf6 a1 (ln a0)=hasB a1 (ln a0) from rfl];cases h1:hasB a1 (ln a0);{rfl};{simp only [cT,zrC,zjO];cases h2:zct a2;{rfl};{refine must rfl (must (zbN (qT hs2 (by decide))) (must (zC h1) rfl))}}
theorem zGB:vL 128 zw7:=kF3 zsv zJ zG zd6 (zy []) zMm
def zph:zZ:=[(24,zs5),(33,zB6),(133,zxo),(128,zw7)]++z5e
theorem zhk:zL zph:=zi zwI (zi zLA (zi zGT (zi zGB zsv)))
abbrev mZ:Mon:=Ty.dflt .mon
abbrev sZ:Slot:=Ty.dflt .slot
def ShM (x:Mon):Prop:=x.Outer.length=8/\x.Out.length=8/\x.Dirty.length=8/\x.Tables.length=x.Guests.length
def Shape (h:Host):Prop:=SmH h/\∀x∈h.Mons,ShM x
theorem zhA {h:Host}{m:Int}{x:Mon}(hs:Shape h)(h1:ze8 x)(h2:ShM x):Shape {h with Mons:=up h.Mons m x}:=by refine⟨⟨hs.1.1,zia hs.1.2.1 h1,hs.1.2.2⟩,fun y hy=>?_⟩;rcases qZ hy with hy|rfl;{exact hs.2 y hy};{exact h2}
theorem zcu {h:Host}(hs:Shape h){m:Int}(hm:hasB m (ln h.Mons)=true):ze8 (ix h.Mons m mZ)/\ShM (ix h.Mons m mZ):=⟨hs.1.2.1.2 _ (zbC hm _),hs.2 _ (zbC hm _)⟩
theorem zOP {h:Host}{mm:List (List Int)}(hs:Shape h)(h1:SmM mm):Shape {h with Memory:=mm}:=⟨⟨h1,hs.1.2⟩,hs.2⟩
theorem zrh {h:Host}{m p:Int}{s:Slot}(hm:hasB m (ln h.Mons)=true)(hs:Shape h):Shape (zci h m p s):=by refine⟨zFX hm hs.1,?_⟩;obtain⟨_,h2⟩:=zcu hs hm;have key:∀y∈up h.Mons m {zjr (ix h.Mons m mZ) p (ix h.Mons m mZ).Tables.length with Outer:=up (ix h.Mons m mZ).Outer p s},ShM y:=(by intro y hy;rcases qZ hy with hy|rfl;{exact hs.2 y hy};{exact⟨by simpa using h2.1,h2.2.1,h2.2.2.1,by simpa [zjr,zo6] using h2.2.2.2⟩});unfold zci;cases ine (ix (ix h.Mons m mZ).Outer p sZ).Page (-1)<;>exact key
theorem zfD (h:Host)(m p:Int)(s:Slot):(zci h m p s).Mons=up h.Mons m {zjr (ix h.Mons m mZ) p (ix h.Mons m mZ).Tables.length with Outer:=up (ix h.Mons m mZ).Outer p s}/\(zci h m p s).Memory=h.Memory:=by unfold zci;cases ine (ix (ix h.Mons m mZ).Outer p sZ).Page (-1)<;>exact⟨rfl,rfl⟩
theorem zd7 {h:Host}{m k:Int}{x:Mon}(hm:hasB m (ln h.Mons)=true):hasB m (ln (up h.Mons k x))=true:=by simpa [ln] using hm
theorem zFl {h:Host}{m k p:Int}{s:Slot}(hm:hasB m (ln h.Mons)=true):hasB m (ln (zci h k p s).Mons)=true:=by rw[(zfD h k p s).1];exact zd7 hm
theorem zdk {α:Type}{l:List α}{p:Int}(h:l.length=8)(hp:hasB p 8=true):hasB p (ln l)=true:=by rw[ln,h];exact hp
def zyu (h:Host)(m p:Int)(s:Slot):Host :=
 bif ine s.Page (-1) then ⟨h.Memory,up h.Mons m (zjr (ix h.Mons m mZ) p (ix h.Mons m mZ).Guests.length),flushed h.Buffer s.Page,flushed h.IoBuffer s.Page⟩
 else ⟨h.Memory,up h.Mons m (zjr (ix h.Mons m mZ) p (ix h.Mons m mZ).Guests.length),h.Buffer,h.IoBuffer⟩
theorem zy7 {h:Host}{k:Nat}{p:Int}{s:Slot}(hk:k<h.Mons.length)(ht:(ix h.Mons (k:Int) mZ).Tables.length=(ix h.Mons (k:Int) mZ).Guests.length) :
 zyu {h with Mons:=up h.Mons (k:Int) {ix h.Mons (k:Int) mZ with Outer:=up (ix h.Mons (k:Int) mZ).Outer p s}} (k:Int) p (ix (ix h.Mons (k:Int) mZ).Outer p sZ)=zci h (k:Int) p s:=by
 unfold zci zyu;simp only[zdz hk,zvp,zjr,ht]
def zX2 {ρ:Type}(m p:Int)(i:Nat)(t:List Mon)(κ:List Mon->Option ρ):Option ρ :=
 (cond (inb (i:Int) (ln (ix t m mZ).Tables)) (cond (inb (i:Int) (ln (ix t m mZ).Guests)) (cond (pc (SmK (ix (ix t m mZ).Tables (i:Int) zgJ)/\(ix (ix t m mZ).Guests (i:Int) zD).Live.length<=1048576)) (cond (inb (i:Int) (ln (ix t m mZ).Tables)) (κ (up t m ({ (ix t m mZ) with Tables:=(up (ix t m mZ).Tables (i:Int) (zg5 (ix (ix t m mZ).Tables (i:Int) zgJ) (ix (ix t m mZ).Guests (i:Int) zD).Live p))}:Mon))) none) none) none) none)
theorem zWu {ρ:Type}{mons:List Mon}{k:Nat}(hk:k<mons.length)(p:Int)(hm:ze8 (ix mons (k:Int) mZ))(ht:(ix mons (k:Int) mZ).Tables.length=(ix mons (k:Int) mZ).Guests.length)(K:List Mon->Option ρ) :
 ∀(n i:Nat),i+n=(ix mons (k:Int) mZ).Guests.length->goN (fun i t κ=>zX2 (k:Int) p i t κ) K n i (up mons (k:Int) (zjr (ix mons (k:Int) mZ) p i))=K (up mons (k:Int) (zjr (ix mons (k:Int) mZ) p (ix mons (k:Int) mZ).Guests.length))
 | 0,i,h=>by have:i=(ix mons (k:Int) mZ).Guests.length:=(by omega);subst this;rfl
 |n+1,i,h=>by
  have hi3:i<(ix mons (k:Int) mZ).Guests.length:=(by omega);have hi2:i<(zkl (ix mons (k:Int) mZ).Guests p i (ix mons (k:Int) mZ).Tables).length:=by rw[zo6];omega
  have hf:pc (SmK (ix (zkl (ix mons (k:Int) mZ).Guests p i (ix mons (k:Int) mZ).Tables) (i:Int) zgJ)/\(ix (ix mons (k:Int) mZ).Guests (i:Int) zD).Live.length<=1048576)=true :=
   zbN ⟨by rw[zbA hi2];exact(zvl _ _ _ _ (by omega) hm.2.2.2.2.2).2 _ (jL hi2),by rw[zbA hi3];exact(hm.2.2.2.1.2 _ (jL hi3)).2.2.1⟩
  simp only[goN,zX2,zdz hk,zvp,zjr,zbq hi2,zbq hi3,hf,cT];exact zWu hk p hm ht K n (i+1) (by omega)
@[simp] abbrev zdR (h:Host)(m p:Int)(s:Slot):Bool:=pc (Shape h/\hasB m (ln h.Mons)=true)
@[simp] abbrev zdS (h:Host)(m p:Int)(s:Slot):Host:=zyu h m p s
def zlb:List CV->List AV->Option (Bool×List CV×List AV)
 |[.s (.sl .int) b,.s .mon c,.s .entry d,.s .entry e],[.one (.i .i64 f),.one (.i .i64 g),.agg [.i .i64 h,.i .i64 j]]=>some ((zdR (⟨b,c,d,e⟩:Host) f g (⟨h,j⟩:Slot)),zbj (zdS (⟨b,c,d,e⟩:Host) f g (⟨h,j⟩:Slot)),[])
 |_,_=>none
def zoe (N:Nat)(c:Host)(a0 a1:Int)(a2:Slot):OA:=
 (oN (inb a0 (ln c.Mons)) (iter (σ:=(Int×(Int×(Int×(Int×(Int×(Int×(lN×(lM×(lE×(lE×Unit))))))))))) N (fun r5 s6=>let y7:=s6.2.2.2.2.2.2.2.1;let y5:=s6.2.2.2.2.2.2.1;let y4:=s6.2.2.2.2.1;let y3:=s6.2.2.2.2.2.2.2.2.1;let y2:=s6.2.2.2.2.2.2.2.2.2.1;let y1:=s6.2.2.2.1;let y0:=(ix y5 s6.2.1 zh);let y8:=(ix y0.Tables y1 zgJ);let y6:=(ix y0.Guests y1 zD).Live; (cond (ilt y1 s6.2.2.1) (oN (inb y1 (ln y0.Tables)) (oN (inb y1 (ln y0.Guests)) (oN (zow y8 y6 s6.1) (oN (inb y1 (ln y0.Tables)) (share (up y5 s6.2.1 ({y0 with Tables:=(up y0.Tables y1 (zsK y8 y6 s6.1))}:Mon)) (fun x7=>(r5 (s6.1,(s6.2.1,(s6.2.2.1,((zK .i64 y1 1),(y4,(s6.2.2.2.2.2.1,(x7,(y7,(y3,(y2,()))))))))))))))))) (cond (ine y4 (-1)) (oN (zgT y3 y4) (oN (zgT y2 y4) (some [(aH (⟨y7,y5,(zi7 y3 y4),(zi7 y2 y4)⟩:Host))]))) (some [(aH (⟨y7,y5,y3,y2⟩:Host))])))) (a1,(a0,((ln (ix c.Mons a0 zh).Guests),(0,(a2.Page,(a2.Rights,(c.Mons,(c.Memory,(c.Buffer,(c.IoBuffer,()))))))))))))
def zHM:FuncId->Nat->Option Tmpl:=zy [(72,0,{n:=71,tm:=[(0,.lp 0 0),(2,ti),(7,.lp 1 0),(8,.ep 0 [] 0),(20,ti),(21,ti)],lo:=[(0,[.sl 1 [],.sl 0 [],.sl 2 [],.sl 3 []]),(1,[ti,ti])],ro:=[(0,.mon,true),(1,(.sl .int),true),(2,.entry,true),(3,.entry,true)]})]
theorem zJ9 (N:Nat)(c:Host)(a0 a1:Int)(a2:Slot):zmV (cQ zph zoB zM1 zT1) zHM N 12 72 [true,true,true,true] (zbj c) [aI a0,aI a1,aT .slot a2]=zoe N c a0 a1 a2:=by kernel_rfl
theorem zHc (c:Host)(a0 a1:Int)(a2:Slot)(hb:zcP big (.agg (zbj c)::[aI a0,aI a1,aT .slot a2]))(hc:zdR c a0 a1 a2=true):∃N,zoe N c a0 a1 a2=some (.agg (zbj (zdS c a0 a1 a2))::[]):=by
 obtain⟨hs,hm⟩:=zQ.1 hc;obtain⟨g1,g2⟩:=zcu hs hm;have hg:(ix c.Mons a0 mZ).Guests.length<=big:=(zcC g1.2.2.2.1.1).1;refine zcG fun N hNN=>?_;unfold zoe oN;conv=>zeta
 refine must (zC hm) ?_;refine(zbn ((ix c.Mons a0 zh).Guests) (fun i (t:lN)=>(a1,a0,(ln (ix c.Mons a0 zh).Guests),(i:Int),a2.Page,a2.Rights,t,c.Memory,c.Buffer,c.IoBuffer,())) _ (fun i (x:Guest) (t:List Mon) κ=>zX2 a0 a1 i t κ) (fun (t:lN)=>(cond (ine a2.Page (-1)) (cond (zgT c.Buffer a2.Page) (cond (zgT c.IoBuffer a2.Page) (some [(.agg (zbj (⟨c.Memory,t,(zi7 c.Buffer a2.Page),(zi7 c.IoBuffer a2.Page)⟩:Host)))]) none) none) (some [(.agg (zbj (⟨c.Memory,t,c.Buffer,c.IoBuffer⟩:Host)))]))) (fun i hi t rec=>?_) (fun t rec=>?_) _ (c.Mons) (hNN hg)).trans ?_;{simp only [zbS hi,zbq hi,zbA hi,zbk hi hg,cT];rfl};{simp only [zbJ,cF]};obtain⟨k,rfl,hk⟩:=zds (n:=c.Mons.length) hm;rw[zDq (fun i t κ=>zX2 (k:Int) a1 i t κ)];have e0:c.Mons=up c.Mons (k:Int) (zjr (ix c.Mons (k:Int) mZ) a1 0):=(zNu hk _).symm;refine(congrArg _ e0).trans ((zWu hk a1 g1 g2.2.2.2 _ _ 0 (jU _)).trans ?_);show (cond (ine a2.Page (-1)) _ _)=some [AV.agg (zbj (zyu c (k:Int) a1 a2))];unfold zyu;cases ine a2.Page (-1);{rfl};{exact must rfl (must (zbN hs.1.2.2.1) (must (zbN hs.1.2.2.2) rfl))}
theorem zBv:zbM Tryz.prog 72 [true,true,true,true] zlb:=by refine zgq (zfM zhk zJ zG zd6) (zie (by kernel_rfl)) ?_;intro cs avs cs' rs hl hr h;have hb:=zjC hr;unfold zlb at h;split at h;{obtain⟨hc,rfl,rfl⟩:=zlA h;obtain⟨N,hN⟩:=zHc _ _ _ _ (by exact hb) hc;exact⟨rfl,_,N,12,(zJ9 N _ _ _ _ ).trans hN⟩};{cases h}
def zYr:zcQ:=[(72,([true,true,true,true],zlb))]++zM1
theorem zM2:zb1 zYr:=zco zG (by
 intro x hx;simp only[qF,qP,or_false]at hx;rcases hx with rfl
 .exact zBv)
def zeb (h:Host)(m p:Int):Host:={h with Mons:=up h.Mons m {ix h.Mons m mZ with Out:=up (ix h.Mons m mZ).Out p (zck h.Memory (ix (ix h.Mons m mZ).Outer p sZ).Page)}}
def zdc (h:Host)(m p:Int):Host:=zci (zeb h m p) m p noSlot
theorem zTO {m:List (List Int)}{p:Int}(h:SmM m):(zck m p).length<=1048576:=by unfold zck;cases hh:hasB p (ln m);{exact(by decide:zzd.length<=1048576)};{exact h.2 _ (zbC hh _)}
theorem zwd {h:Host}{m p:Int}(hs:Shape h)(hm:hasB m (ln h.Mons)=true):Shape (zeb h m p):=by obtain⟨g1,g2⟩:=zcu hs hm;exact zhA hs ⟨g1.1,zKO g1.2.1 (zTO hs.1.1),g1.2.2⟩ ⟨g2.1,by simpa using g2.2.1,g2.2.2⟩
theorem zKG {h:Host}{m p:Int}(hs:Shape h)(hm:hasB m (ln h.Mons)=true):Shape (zdc h m p):=zrh (zd7 hm) (zwd hs hm)
@[simp] abbrev zr0 (h:Host)(m p:Int):Bool:=pc (Shape h/\hasB m (ln h.Mons)=true/\hasB p 8=true)
@[simp] abbrev zy4 (h:Host)(m p:Int):Host:=zdc h m p
def ztb:List AV->Option (Bool×List AV)
 |[.agg [.s (.sl .int) b,.s .mon c,.s .entry d,.s .entry e],.one (.i .i64 f),.one (.i .i64 g)]=>some ((zr0 (⟨b,c,d,e⟩:Host) f g),[aH (zy4 (⟨b,c,d,e⟩:Host) f g)])
 |_=>none
def zxT (N:Nat)(a0:Host)(a1 a2:Int):OA:=
 let y0:=(ix a0.Mons a1 zh);let y1:=(ix y0.Outer a2 zbc).Page; (oN (inb a1 (ln a0.Mons)) (oN (inb a1 (ln a0.Mons)) (oN (inb a2 (ln y0.Outer)) (oN (zyS a0.Memory y1) (oN (inb a2 (ln y0.Out)) (share (up a0.Mons a1 ({y0 with Out:=(up y0.Out a2 (zyR a0.Memory y1))}:Mon)) (fun x4=>let y2:=({a0 with Mons:=x4}:Host); (oN zcp (oN (zeC y2 a1 a2 zbt) (some [(aH (zgi y2 a1 a2 zbt))]))))))))))
theorem zVv (N:Nat)(a0:Host)(a1 a2:Int):zDj (cQ zph zoB zYr zT1) (zy []) N 12 76 [true,true,true,true,false,false] 1 1 [[0],[1],[2],[4],[7]] .mon [aH a0,aI a1,aI a2]=zxT N a0 a1 a2:=by kernel_rfl
theorem zSJ (a0:Host)(a1 a2:Int)(hb:zcP big [aH a0,aI a1,aI a2])(hc:zr0 a0 a1 a2=true):∃N,zxT N a0 a1 a2=some [aH (zy4 a0 a1 a2)]:=by
 obtain⟨hs,hm,hp⟩:=zQ.1 hc;obtain⟨g1,g2⟩:=zcu hs hm;obtain⟨k,rfl,hk⟩:=zds (n:=a0.Mons.length) hm;have hS:=zwd (p:=a2) hs hm;refine⟨0,?_⟩;unfold zxT oN;conv=>zeta
 refine must (zC hm) (must (zC hm) (must (zC (zdk g2.1 hp)) (must (zbN ((zoq _).2 hs.1.1)) (must (zC (zdk g2.2.1 hp)) (shr (must rfl (must (zbN ⟨(zbb _).2 hS.1,zd7 hm,?_,?_⟩) rfl)))))));{simp only [zdz hk];exact zdk g2.1 hp};{simp only [zdz hk];exact k5 g2.2.2.2}
theorem zMe:zdG Tryz.prog 76 [true,true,true,true,false,false] (some (1,1,[[0],[1],[2],[4],[7]])) ztb:=by refine zkx (kt:=.mon) (zfM zhk zJ zM2 zd6) (zie (by kernel_rfl)) (by kernel_rfl) ?_;intro avs rs hl hr h;have hb:=zhF hr;unfold ztb at h;split at h;{obtain⟨hc,rfl⟩:=zdL h;obtain⟨N,hN⟩:=zSJ _ _ _ (by exact hb) hc;exact⟨⟨_,rfl⟩,rfl,_,N,12,(zVv N _ _ _ ).trans hN⟩};{cases h}
@[simp] abbrev zG5 (h:Host)(m p:Int):Bool:=pc (Shape h/\hasB m (ln h.Mons)=true/\hasB p 8=true)
@[simp] abbrev zG6 (h:Host)(m p:Int):Host:=zdc h m p
def zvN:List CV->List AV->Option (Bool×List CV×List AV)
 |[.s (.sl .int) b,.s .mon c,.s .entry d,.s .entry e],[.one (.i .i64 f),.one (.i .i64 g)]=>some ((zG5 (⟨b,c,d,e⟩:Host) f g),zbj (zG6 (⟨b,c,d,e⟩:Host) f g),[])
 |_,_=>none
def zF7 (N:Nat)(c:Host)(a0 a1:Int):OA:=
 let y0:=(ix c.Mons a0 zh);let y1:=(ix y0.Outer a1 zbc); (oN (inb a0 (ln c.Mons)) (oN (inb a1 (ln y0.Outer)) (oN (zyq c.Memory y1.Page) (oN (inb a1 (ln y0.Out)) (share (up c.Mons a0 ({y0 with Out:=(up y0.Out a1 (zyp c.Memory y1.Page))}:Mon)) (fun x4=>let y2:=(ix x4 a0 zh); (oN zky (oN (inb a1 (ln y2.Outer)) (share (up x4 a0 ({y2 with Outer:=(up y2.Outer a1 zsL)}:Mon)) (fun x5=>let y3:=({c with Mons:=x5}:Host); (oN (zdR y3 a0 a1 y1) (some [(aH (zdS y3 a0 a1 y1))]))))))))))))
theorem z0I (N:Nat)(c:Host)(a0 a1:Int):zmV (cQ zph zoB zYr zT1) (zy []) N 12 70 [true,true,true,true] (zbj c) [aI a0,aI a1]=zF7 N c a0 a1:=by kernel_rfl
theorem zYd (c:Host)(a0 a1:Int)(hb:zcP big (.agg (zbj c)::[aI a0,aI a1]))(hc:zG5 c a0 a1=true):∃N,zF7 N c a0 a1=some (.agg (zbj (zG6 c a0 a1))::[]):=by
 obtain⟨hs,hm,hp⟩:=zQ.1 hc;obtain⟨g1,g2⟩:=zcu hs hm;obtain⟨k,rfl,hk⟩:=zds (n:=c.Mons.length) hm;have hS:=zwd (p:=a1) hs hm;have hm':hasB (k:Int) (ln (zeb c (k:Int) a1).Mons)=true:=zd7 hm;have hk':k<(zeb c (k:Int) a1).Mons.length:=(by simpa [zeb] using hk);have ex:ix (zeb c (k:Int) a1).Mons (k:Int) mZ={ix c.Mons (k:Int) mZ with Out:=up (ix c.Mons (k:Int) mZ).Out a1 (zck c.Memory (ix (ix c.Mons (k:Int) mZ).Outer a1 sZ).Page)}:=zdz hk _ _;have hX:Shape {zeb c (k:Int) a1 with Mons:=up (zeb c (k:Int) a1).Mons (k:Int) {ix (zeb c (k:Int) a1).Mons (k:Int) mZ with Outer:=up (ix (zeb c (k:Int) a1).Mons (k:Int) mZ).Outer a1 noSlot}}:=(by obtain⟨q1,q2⟩:=zcu hS hm';exact zhA hS ⟨by simpa using q1.1,q1.2⟩ ⟨by simpa using q2.1,q2.2⟩);refine⟨0,?_⟩;unfold zF7 oN;conv=>zeta
 refine must (zC hm) (must (zC (zdk g2.1 hp)) (must (zbN ((zoq _).2 hs.1.1)) (must (zC (zdk g2.2.1 hp)) (shr (must rfl (must ?_ (shr (must (zbN ⟨hX,zd7 hm'⟩) ?_))))))));{rw [zdz hk];exact zC (zdk g2.1 hp)};{have:=zy7 (p:=a1) (s:=noSlot) hk' (by rw[ex];exact g2.2.2.2);rw[ex] at this;show some [AV.agg (zbj (zyu {zeb c (k:Int) a1 with Mons:=up (zeb c (k:Int) a1).Mons (k:Int) {ix (zeb c (k:Int) a1).Mons (k:Int) mZ with Outer:=up (ix (zeb c (k:Int) a1).Mons (k:Int) mZ).Outer a1 noSlot}} (k:Int) a1 (ix (ix c.Mons (k:Int) mZ).Outer a1 sZ)))]=_;rw[ex];exact congrArg (fun x=>some [AV.agg (zbj x)]) this}
theorem zRS:zbM Tryz.prog 70 [true,true,true,true] zvN:=by refine zgq (zfM zhk zJ zM2 zd6) (zie (by kernel_rfl)) ?_;intro cs avs cs' rs hl hr h;have hb:=zjC hr;unfold zvN at h;split at h;{obtain⟨hc,rfl,rfl⟩:=zlA h;obtain⟨N,hN⟩:=zYd _ _ _ (by exact hb) hc;exact⟨rfl,_,N,12,(z0I N _ _ _ ).trans hN⟩};{cases h}
def zYs:zcQ:=[(70,([true,true,true,true],zvN))]++zYr
theorem zM3:zb1 zYs:=zco zM2 (by
 intro x hx;simp only[qF,qP,or_false]at hx;rcases hx with rfl
 .exact zRS)
def zZc:ze7:=[(76,([true,true,true,true,false,false],(some (1,1,[[0],[1],[2],[4],[7]])),ztb))]++zT1
theorem zNg:zdW zZc:=zo7 zd6 (by
 intro x hx;simp only[qF,qP,or_false]at hx;rcases hx with rfl
 .exact zMe)
end
end Go.Proofs.YthdlghbibaoabaaGreat.E
