/- What is proved here: a part of the proof that the statement of this claim holds (several texts of wip/, laid together). -/
import Derived.Test.YtnnmbkjhakbicaaGreatW3
namespace Go.Proofs.YtnnmbkjhakbicaaGreat.E
open Go
set_option linter.unusedVariables false
set_option maxRecDepth 100000
set_option linter.unusedSimpArgs false
set_option linter.unusedSectionVars false
noncomputable section
def noSlot:Slot:=⟨-1,0⟩
def zb2:Bool:=true
abbrev zbm:Slot:=noSlot
def zuv:Run:=rF0 (zb2,[aT .slot zbm])
def zKG (N:Nat)  : OA :=
 (some [(.agg [(.i .i64 (-1)),(.i .i64 0)])])
theorem zHj  (hc:zb2=true):∃N,zKG N  = some [aT .slot zbm]:=by
 exact ⟨0,rfl⟩
theorem zCk:uV 270 zuv:=kF0 zpL zbd zl zn (zo []) zHj
def zca:Bool:=true
abbrev zbK:Slot:=noSlot
def zt5:Run:=rF0 (zca,[aT .slot zbK])
def zKE (N:Nat)  : OA :=
 (some [(.agg [(.i .i64 (-1)),(.i .i64 0)])])
theorem zGV  (hc:zca=true):∃N,zKE N  = some [aT .slot zbK]:=by
 exact ⟨0,rfl⟩
theorem zBX:uV 155 zt5:=kF0 zpL zbd zl zn (zo []) zGV
def zbf (_ _ _:Int):Bool:=true
def zbo (x a b:Int):Bool:=ige x a&&ile x b
def zuo:Run:=rF3 dI dI dI fun b c d=>(zbf b c d,[aB (zbo b c d)])
def zy1 (N:Nat)(a0 a1 a2:Int):OA:=
 (cond (ige a0 a1) (some [(aB (ile a0 a2))]) oF)
theorem zHb (a0 a1 a2:Int)(hc:zbf a0 a1 a2=true):∃N,zy1 N a0 a1 a2=some [aB (zbo a0 a1 a2)]:=by
 refine ⟨0,?_⟩;unfold zy1 zbo;cases ige a0 a1<;>rfl
theorem zCd:uV 111 zuo:=kF3 zpL zbd zl zn (zo []) zHb
def zPO:zK:=[(270,zuv),(155,zt5),(111,zuo)]++zSc
theorem zxh:zx zPO:=zh zCk (zh zBX (zh zCd zpL))
def zcU (r:Int):Bool:=ige r 0&&ile r 3
def zfS (_:Int):Bool:=true
abbrev zew (r:Int):Bool:=zcU r
def zqs:Run:=rF1 dI fun b=>(zfS b,[aB (zew b)])
def zFQ (N:Nat)(a0:Int):OA:=
 (oN (zT a0 0 3) (some [(aB (zZ a0 0 3))]))
theorem zC0 (a0:Int)(hc:zfS a0=true):∃N,zFQ N a0=some [aB (zew a0)]:=by
 exact ⟨0,rfl⟩
theorem zxQ:uV 359 zqs:=kF1 zxh zbd zl zn (zo []) zC0
def zfP (_:Int):Bool:=true
abbrev zeu (r:Int):Bool:=zcU r
def zqg:Run:=rF1 dI fun b=>(zfP b,[aB (zeu b)])
def zFO (N:Nat)(a0:Int):OA:=
 (oN (zbf a0 0 3) (some [(aB (zbo a0 0 3))]))
theorem zCO (a0:Int)(hc:zfP a0=true):∃N,zFO N a0=some [aB (zeu a0)]:=by
 exact ⟨0,rfl⟩
theorem zxE:uV 350 zqg:=kF1 zxh zbd zl zn (zo []) zCO
def zPP:zK:=[(359,zqs),(350,zqg)]++zPO
theorem ziY:zx zPP:=zh zxQ (zh zxE zxh)
def zfg (a b:Int):Int:=bif zcU a then (cond (zcU b) (wand .i64 a b) 0) else 0
def zkP (_ _:Int):Bool:=true
abbrev zeY (a b:Int):Int:=zfg a b
def znR:Run:=rF2 dI dI fun b c=>(zkP b c,[aI (zeY b c)])
def zpI (N:Nat)(a0 a1:Int):OA:=
 (oN (zfS a0) (cond (nB (zew a0)) (some [(aI 0)]) (oN (zfS a1) (cond (nB (zew a1)) (some [(aI 0)]) (some [(aI (wand .i64 a0 a1))])))))
theorem zya (a0 a1:Int)(hc:zkP a0 a1=true):∃N,zpI N a0 a1=some [aI (zeY a0 a1)]:=by
 refine ⟨0,?_⟩;unfold zpI zeY zfg zew oN nB;cases zcU a0<;>cases zcU a1<;>rfl
theorem ztw:uV 377 znR:=kF2 ziY zbd zl zn (zo []) zya
def zkv (_ _:Int):Bool:=true
abbrev zeN (a b:Int):Int:=zfg a b
def znO:Run:=rF2 dI dI fun b c=>(zkv b c,[aI (zeN b c)])
def zpE (N:Nat)(a0 a1:Int):OA:=
 (oN (zfP a0) (cond (nB (zeu a0)) (some [(aI 0)]) (oN (zfP a1) (cond (nB (zeu a1)) (some [(aI 0)]) (some [(aI (wand .i64 a0 a1))])))))
theorem zx5 (a0 a1:Int)(hc:zkv a0 a1=true):∃N,zpE N a0 a1=some [aI (zeN a0 a1)]:=by
 refine ⟨0,?_⟩;unfold zpE zeN zfg zeu oN nB;cases zcU a0<;>cases zcU a1<;>rfl
theorem zts:uV 299 znO:=kF2 ziY zbd zl zn (zo []) zx5
def enough (a b:Int):Bool:=bif zcU a then (cond (zcU b) (ieq (wand .i64 a b) b) false) else false
def zev (_ _:Int):Bool:=true
abbrev zeZ (a b:Int):Bool:=enough a b
def zup:Run:=rF2 dI dI fun b c=>(zev b c,[aB (zeZ b c)])
def zy2 (N:Nat)(a0 a1:Int):OA:=
 (oN (zfS a0) (cond (zew a0) (oN (zfS a1) (cond (zew a1) (some [(aB (ieq (wand .i64 a0 a1) a1))]) oF)) oF))
theorem zHc (a0 a1:Int)(hc:zev a0 a1=true):∃N,zy2 N a0 a1=some [aB (zeZ a0 a1)]:=by
 refine ⟨0,?_⟩;unfold zy2 zeZ enough zew oN;cases zcU a0<;>cases zcU a1<;>rfl
theorem zCe:uV 316 zup:=kF2 ziY zbd zl zn (zo []) zHc
def zcl (_ _:Int):Bool:=true
abbrev zcK (a b:Int):Bool:=enough a b
def ztW:Run:=rF2 dI dI fun b c=>(zcl b c,[aB (zcK b c)])
def zyD (N:Nat)(a0 a1:Int):OA:=
 (oN (zfP a0) (cond (zeu a0) (oN (zfP a1) (cond (zeu a1) (some [(aB (ieq (wand .i64 a0 a1) a1))]) oF)) oF))
theorem zGM (a0 a1:Int)(hc:zcl a0 a1=true):∃N,zyD N a0 a1=some [aB (zcK a0 a1)]:=by
 refine ⟨0,?_⟩;unfold zyD zcK enough zeu oN;cases zcU a0<;>cases zcU a1<;>rfl
theorem zBO:uV 298 ztW:=kF2 ziY zbd zl zn (zo []) zGM
def zcA (t:List Slot)(p:Int):Slot:=bif hasB p (ln t) then ix t p zM else noSlot
def zh2 (_:List Slot)(_:Int):Bool:=true
abbrev zgi (t:List Slot)(p:Int):Slot:=zcA t p
def zuB:Run:=rF2 (dS .slot) dI fun b c=>(zh2 b c,[aT .slot (zgi b c)])
def zze (N:Nat)(a0:lS)(a1:Int):OA:=
 (oN (zT a1 0 (wsub .i64 (ln a0) 1)) (cond (nB (zZ a1 0 (wsub .i64 (ln a0) 1))) (oN zb2 (some [(.agg [(.i .i64 zbm.Page),(.i .i64 zbm.Rights)])])) (oN (inb a1 (ln a0)) (some [(.agg [(.i .i64 (ix a0 a1 zM).Page),(.i .i64 (ix a0 a1 zM).Rights)])]))))
theorem zHq (a0:List Slot)(a1:Int)(hb:zbu big [aS .slot a0,aI a1])(hc:zh2 a0 a1=true):∃N,zze N a0 a1=some [aT .slot (zgi a0 a1)]:=by
 have hl:=(len0 hb);refine ⟨0,?_⟩;unfold zze zgi zcA oN nB;have e:zZ a1 0 (wsub .i64 (ln a0) 1)=hasB a1 (ln a0):=zrn hl a1;rw[e];cases hh:hasB a1 (ln a0)
 .rfl
 .rw [zA hh];rfl
theorem zCq:uV 177 zuB:=hF2 ziY zbd zl zn (zo []) zHq
def zhR (_:List Slot)(_:Int):Bool:=true
abbrev zf6 (t:List Slot)(p:Int):Slot:=zcA t p
def zug:Run:=rF2 (dS .slot) dI fun b c=>(zhR b c,[aT .slot (zf6 b c)])
def zyT (N:Nat)(a0:lS)(a1:Int):OA:=
 (oN (zby a1 (ln a0)) (cond (nB (zbS a1 (ln a0))) (oN zca (some [(.agg [(.i .i64 zbK.Page),(.i .i64 zbK.Rights)])])) (oN (inb a1 (ln a0)) (some [(.agg [(.i .i64 (ix a0 a1 zM).Page),(.i .i64 (ix a0 a1 zM).Rights)])]))))
theorem zG3 (a0:List Slot)(a1:Int)(hc:zhR a0 a1=true):∃N,zyT N a0 a1=some [aT .slot (zf6 a0 a1)]:=by
 refine ⟨0,?_⟩;unfold zyT zf6 zcA zbS oN nB;cases hh:hasB a1 (ln a0)
 .rfl
 .rw [zA hh];rfl
theorem zB5:uV 153 zug:=kF2 ziY zbd zl zn (zo []) zG3
def zPQ:zK:=[(377,znR),(299,znO),(316,zup),(298,ztW),(177,zuB),(153,zug)]++zPP
theorem zxi:zx zPQ:=zh ztw (zh zts (zh zCe (zh zBO (zh zCq (zh zB5 ziY)))))
def zcV (a b:Slot):Bool:=ieq a.Page b.Page&&ieq a.Rights b.Rights
def below' (a b:Slot):Bool:=bif zcV a noSlot then true else (cond (ieq a.Page b.Page) (enough b.Rights a.Rights) false)
def zdQ (s:Slot)(outer:List Slot):Slot :=
 bif ieq s.Page (-1) then noSlot else (cond (ieq (zcA outer s.Page).Page (-1)) noSlot (cond (ieq (zfg s.Rights (zcA outer s.Page).Rights) 0) noSlot ⟨(zcA outer s.Page).Page,zfg s.Rights (zcA outer s.Page).Rights⟩))
def zgP (_:Slot)(_:List Slot):Bool:=true
def ziS (s:Slot)(outer:List Slot):Slot:=zdQ s outer
def zmt:Run:=rF2 (dT .slot) (dS .slot) fun b c=>(zgP b c,[aT .slot (ziS b c)])
def zoc (N:Nat)(a0:Slot)(a1:lS):OA:=
 let y0:=(zgi a1 a0.Page); (oN (zh2 a1 a0.Page) (oN (zkP a0.Rights y0.Rights) (cond (ieq a0.Page (-1)) (oN zb2 (some [(.agg [(.i .i64 zbm.Page),(.i .i64 zbm.Rights)])])) (cond (ieq y0.Page (-1)) (oN zb2 (some [(.agg [(.i .i64 zbm.Page),(.i .i64 zbm.Rights)])])) (cond (ieq (zeY a0.Rights y0.Rights) 0) (oN zb2 (some [(.agg [(.i .i64 zbm.Page),(.i .i64 zbm.Rights)])])) (some [(.agg [(.i .i64 y0.Page),(.i .i64 (zeY a0.Rights y0.Rights))])]))))))
theorem zvS (a0:Slot)(a1:List Slot)(hc:zgP a0 a1=true):∃N,zoc N a0 a1=some [aT .slot (ziS a0 a1)]:=by
 refine ⟨0,?_⟩;unfold zoc ziS zdQ zgi zeY oN
 conv=>zeta
 cases ieq a0.Page (-1)<;>cases ieq (zcA a1 a0.Page).Page (-1)<;>cases ieq (zfg a0.Rights (zcA a1 a0.Page).Rights) 0<;>rfl
theorem zsE:uV 370 zmt:=kF2 zxi zbd zl zn (zo []) zvS
def zgN (_:Slot)(_:List Slot):Bool:=true
def ziM (s:Slot)(outer:List Slot):Slot:=zdQ s outer
def zmq:Run:=rF2 (dT .slot) (dS .slot) fun b c=>(zgN b c,[aT .slot (ziM b c)])
def zn9 (N:Nat)(a0:Slot)(a1:lS):OA:=
 let y0:=(zf6 a1 a0.Page); (oN (zhR a1 a0.Page) (oN (zkv a0.Rights y0.Rights) (cond (ieq a0.Page (-1)) (oN zca (some [(.agg [(.i .i64 zbK.Page),(.i .i64 zbK.Rights)])])) (cond (ieq y0.Page (-1)) (oN zca (some [(.agg [(.i .i64 zbK.Page),(.i .i64 zbK.Rights)])])) (cond (ieq (zeN a0.Rights y0.Rights) 0) (oN zca (some [(.agg [(.i .i64 zbK.Page),(.i .i64 zbK.Rights)])])) (some [(.agg [(.i .i64 y0.Page),(.i .i64 (zeN a0.Rights y0.Rights))])]))))))
theorem zvP (a0:Slot)(a1:List Slot)(hc:zgN a0 a1=true):∃N,zn9 N a0 a1=some [aT .slot (ziM a0 a1)]:=by
 refine ⟨0,?_⟩;unfold zn9 ziM zdQ zf6 zeN oN
 conv=>zeta
 cases ieq a0.Page (-1)<;>cases ieq (zcA a1 a0.Page).Page (-1)<;>cases ieq (zfg a0.Rights (zcA a1 a0.Page).Rights) 0<;>rfl
theorem zsB:uV 186 zmq:=kF2 zxi zbd zl zn (zo []) zvP
def zA6 (x:Int):Int:=bif (ige x 1&&ile x 6) then zIN .i64 (wsub .i64 x 1) 2 else -1
def zIm (x:Int):Int:=bif (ige x 1&&ile x 6) then zkm (wsub .i64 x 1) 2 else -1
def zPR:zK:=[(370,zmt),(186,zmq)]++zPQ
theorem zOp:zx zPR:=zh zsE (zh zsB zxi)
def zPS:zK:=zPR
theorem zOq:zx zPS:=zOp
def zzw (h:Host)(e:Entry):Bool :=
 bif hasB (zA6 e.Tag) (ln h.Mons) then (bif hasB (zIm e.Tag) (ln (ix h.Mons (zA6 e.Tag) zi).Guests) then
  below' ⟨e.Host,e.Rights⟩ (zdQ (zcA (ix (ix h.Mons (zA6 e.Tag) zi).Guests (zIm e.Tag) zG).Live e.Page) (ix h.Mons (zA6 e.Tag) zi).Outer) else false) else false
def zPT:zK:=zPS
theorem zOr:zx zPT:=zOq
def zSa:zK:=zPT
theorem zBz:∀f run,zf zSa f=some run->Holds Tryz.prog f run:=zOr
theorem hE (h:Host):(⟨h.Memory,h.Mons,h.Buffer,h.IoBuffer⟩:Host)=h:=rfl
def idxs {α:Type}(p:α->Bool):List α->Nat->List Int
 | [],_=>[]
 | x :: l,i=>bif p x then (i:Int) :: idxs p l (i+1) else idxs p l (i+1)
theorem zx1 {α:Type}(p:α->Bool):∀(l:List α) (i:Nat),(idxs p l i).length<=l.length
 | [],_=>qV _
 | x :: l,i=>by
  have:=zx1 p l (i+1);simp only[idxs];cases p x<;>simp<;>omega
theorem zq0 {α ρ:Type}(p:α->Bool)(K:List Int->Option ρ):∀(l:List α) (i:Nat) (acc:List Int),acc.length+l.length<=2147483648 ->
 goL (fun i x acc k=>bif p x then (cond (few (ln (ap acc [(i:Int)]))) (k (ap acc [(i:Int)])) none) else k acc) K l i acc=K (acc++idxs p l i)
 | [],i,acc,_=>by simp[goL,idxs]
 | x :: l,i,acc,h=>by
  simp only[qY]at h;simp only[goL,idxs];cases p x
  .simp only [cF];exact zq0 p K l (i+1) acc (by omega)
  .simp only [cT];rw[zeM (by simp[ap];omega),cT,zq0 p K l (i+1) _ (by simp[ap];omega)]
   simp[ap]
def zxZ (p:Nat->Bool):Nat->Nat->List Int
 | 0,_=>[]
 | n+1,i=>bif p i then (i:Int) :: zxZ p n (i+1) else zxZ p n (i+1)
theorem zq2 {ρ:Type}(p:Nat->Bool)(K:List Int->Option ρ):∀(n i:Nat) (acc:List Int),acc.length+n<=2147483648 ->
 goN (fun i acc k=>bif p i then (cond (few (ln (ap acc [(i:Int)]))) (k (ap acc [(i:Int)])) none) else k acc) K n i acc=K (acc++zxZ p n i)
 | 0,i,acc,_=>by simp[goN,zxZ]
 | n+1,i,acc,h=>by
  simp only[goN,zxZ];cases p i
  .simp only [cF];exact zq2 p K n (i+1) acc (by omega)
  .simp only [cT];rw[zeM (by simp[ap];omega),cT,zq2 p K n (i+1) _ (by simp[ap];omega)]
   simp[ap]
abbrev zrJ (l:List Slot)(_:Int):Bool:=pc (l.length<=2147483648)
abbrev zkR (l:List Slot)(p:Int):List Int:=idxs (fun (s:Slot)=>ieq s.Page p) l 0
def zuD:Run:=rF2 (dS .slot) dI fun b c=>(zrJ b c,[aS .int (zkR b c)])
def zzg (N:Nat)(a0:lS)(a1:Int):OA:=
 (iter (σ:=(Int×(Int×(lS×((List Int)×Unit))))) N (fun r3 s4=>(cond (ilt s4.2.1 (ln s4.2.2.1)) (oN (inb s4.2.1 (ln s4.2.2.1)) (cond (ieq (ix s4.2.2.1 s4.2.1 zM).Page s4.1) (oN (few (ln (ap s4.2.2.2.1 [s4.2.1]))) (r3 (s4.1,((zB .i64 s4.2.1 1),(s4.2.2.1,((ap s4.2.2.2.1 [s4.2.1]),())))))) (r3 (s4.1,((zB .i64 s4.2.1 1),(s4.2.2.1,(s4.2.2.2.1,()))))))) (some [(aS .int s4.2.2.2.1)]))) (a1,(0,(a0,([],())))))
def zIF:FuncId->Nat->Option Tmpl:=zo [(376,0,{ n:=26,tm:=[(0,.sl 0 []),(1,ti),(5,.sl 1 []),(6,ti)],lo:=[],ro:=[(0,.slot,false),(1,.int,true)] })]
theorem zHs (a0:List Slot)(a1:Int)(hb:zbu big [aS .slot a0,aI a1])(hc:zrJ a0 a1=true):∃N,zzg N a0 a1=some [aS .int (zkR a0 a1)]:=by
 have hl:=(len0 hb);have hs:=zC.1 hc;refine zbN fun N hNN=>?_;unfold zzg oN;refine (zW a0 (fun i (t:(List Int))=>(a1,(i:Int),a0,t,())) _ (fun i (x:Slot) (t:List Int) κ=>bif ieq x.Page a1 then (cond (few (ln (ap t [(i:Int)]))) (κ (ap t [(i:Int)])) none) else κ t) (fun (t:(List Int))=>(some [(.one (.s .int t))])) (fun i hi t rec=>?_) (fun t rec=>?_) _ ([]) (hNN hl)).trans ?_
 .simp only [zbp hi,zY hi,zbc hi,zQ hi hl,cT]
 .simp only [zbg,cF]
 exact zq0 (fun (s:Slot)=>ieq s.Page a1) _ _ 0 [] (by simpa using hs)
theorem zCs:uV 376 zuD:=hF2 zBz zbd zl zn zIF zHs
abbrev zrh (l:List Slot)(_:Int):Bool:=pc (l.length<=2147483648)
abbrev zhc (l:List Slot)(p:Int):List Int:=idxs (fun (s:Slot)=>ieq s.Page p) l 0
def zuk:Run:=rF2 (dS .slot) dI fun b c=>(zrh b c,[aS .int (zhc b c)])
def zyX (N:Nat)(a0:lS)(a1:Int):OA:=
 (iter (σ:=(Int×(Int×(Int×((List Int)×(lS×Unit)))))) N (fun r3 s4=>let y1:=s4.2.2.2.2.1;let y0:=s4.2.2.1; (cond (ilt y0 s4.2.1) (oN (inb y0 (ln y1)) (cond (ieq (ix y1 y0 zM).Page s4.1) (oN (few (ln (ap s4.2.2.2.1 [y0]))) (r3 (s4.1,(s4.2.1,((zB .i64 y0 1),((ap s4.2.2.2.1 [y0]),(y1,()))))))) (r3 (s4.1,(s4.2.1,((zB .i64 y0 1),(s4.2.2.2.1,(y1,())))))))) (some [(aS .int s4.2.2.2.1)]))) (a1,((ln a0),(0,([],(a0,()))))))
def zIw:FuncId->Nat->Option Tmpl:=zo [(361,0,{ n:=26,tm:=[(1,ti),(5,.sl 0 []),(9,.sl 1 []),(10,ti),(11,ti)],lo:=[],ro:=[(0,.int,true),(1,.slot,false)] })]
theorem zG7 (a0:List Slot)(a1:Int)(hb:zbu big [aS .slot a0,aI a1])(hc:zrh a0 a1=true):∃N,zyX N a0 a1=some [aS .int (zhc a0 a1)]:=by
 have hl:=(len0 hb);have hs:=zC.1 hc;refine zbN fun N hNN=>?_;unfold zyX oN
 conv=>zeta
 refine (zW a0 (fun i (t:(List Int))=>(a1,(ln a0),(i:Int),t,a0,())) _ (fun i (x:Slot) (t:List Int) κ=>bif ieq x.Page a1 then (cond (few (ln (ap t [(i:Int)]))) (κ (ap t [(i:Int)])) none) else κ t) (fun (t:(List Int))=>(some [(.one (.s .int t))])) (fun i hi t rec=>?_) (fun t rec=>?_) _ ([]) (hNN hl)).trans ?_
 .simp only [zbp hi,zY hi,zbc hi,zQ hi hl,cT]
 .simp only [zbg,cF]
 exact zq0 (fun (s:Slot)=>ieq s.Page a1) _ _ 0 [] (by simpa using hs)
theorem zB9:uV 361 zuk:=hF2 zBz zbd zl zn zIw zG7
def zPU:zK:=[(376,zuD),(361,zuk)]++zSa
theorem zOs:zx zPU:=zh zCs (zh zB9 zBz)
def zPV:zK:=zPU
theorem zOt:zx zPV:=zOs
def zPW:zK:=zPV
theorem zF8:zx zPW:=zOt
theorem zhU (x y:Int):ine x y = !ieq x y:=rfl
def zcq (l:List Int):Bool:=pc (l.length<=2147483648)
abbrev zcm (l:List Int):List Int:=l
def zqm:Run:=rF1 (dS .int) fun b=>(zcq b,[aS .int (zcm b)])
def zsV (N:Nat)(a0:List Int):OA:=
 (oN (few (ln (ap [] a0))) (some [(aS .int (ap [] a0))]))
theorem zCU (a0:List Int)(hc:zcq a0=true):∃N,zsV N a0=some [aS .int (zcm a0)]:=by
 refine ⟨0,?_⟩;unfold zsV oN;rw[zij,zeM (zC.1 hc),cT]
theorem zxK:uV 204 zqm:=kF1 zF8 zbd zl zn (zo []) zCU
def zPX:zK:=[(204,zqm)]++zPW
theorem zxj:zx zPX:=zh zxK zF8
def zrR:List Int:=rp 4 0
def zfm (m:List (List Int))(p:Int):List Int:=bif hasB p (ln m) then ix m p [] else zrR
def zgf (m:List (List Int))(_:Int):Bool:=pc (CVB sm (.s (.sl .int) m))
def zjc (m:List (List Int))(p:Int):List Int:=zfm m p
theorem zNF {m:List (List Int)}{p:Int}(hs:CVB sm (.s (.sl .int) m))(hh:hasB p (ln m)=true):(ix m p []).length<=2147483648 :=
 (zci (hs.inv.2 _ (zb7 hh ([]:List Int)) (.s .int _) (qE.2 rfl)).len).2
def zuw:Run:=rF2 (dS (.sl .int)) dI fun b c=>(zgf b c,[aS .int (zjc b c)])
def zy8 (N:Nat)(a0:lM)(a1:Int):OA:=
 (oN (zT a1 0 (wsub .i64 (ln a0) 1)) (cond (nB (zZ a1 0 (wsub .i64 (ln a0) 1))) (oN (cond (few 4) (ieq 4 4) false) (some [(aS .int (rp 4 0))])) (oN (inb a1 (ln a0)) (oN (few (ln (ap [] (ix a0 a1 [])))) (some [(aS .int (ap [] (ix a0 a1 [])))])))))
theorem zHk (a0:List (List Int))(a1:Int)(hc:zgf a0 a1=true):∃N,zy8 N a0 a1=some [aS .int (zjc a0 a1)]:=by
 have hs:=zC.1 hc;refine ⟨0,?_⟩;unfold zy8 zjc zfm oN nB;have e:zZ a1 0 (wsub .i64 (ln a0) 1)=hasB a1 (ln a0):=zrn (zci hs.len).1 a1;rw[e];cases hh:hasB a1 (ln a0)
 .rfl
 .simp only [zT,cT,cF,zA hh,zij,zeM (zNF hs hh)]
theorem zCl:uV 178 zuw:=kF2 zxj zbd zl zn (zo []) zHk
def zf3 (m:List (List Int))(_:Int):Bool:=pc (CVB sm (.s (.sl .int) m))
def zi3 (m:List (List Int))(p:Int):List Int:=zfm m p
def zt6:Run:=rF2 (dS (.sl .int)) dI fun b c=>(zf3 b c,[aS .int (zi3 b c)])
def zyM (N:Nat)(a0:lM)(a1:Int):OA:=
 (oN (zby a1 (ln a0)) (cond (nB (zbS a1 (ln a0))) (oN (cond (few 4) (ieq 4 4) false) (some [(aS .int (rp 4 0))])) (oN (inb a1 (ln a0)) (oN (zcq (ix a0 a1 [])) (some [(aS .int (zcm (ix a0 a1 [])))])))))
theorem zGW (a0:List (List Int))(a1:Int)(hc:zf3 a0 a1=true):∃N,zyM N a0 a1=some [aS .int (zi3 a0 a1)]:=by
 have hs:=zC.1 hc;refine ⟨0,?_⟩;unfold zyM zi3 zfm zbS oN nB;cases hh:hasB a1 (ln a0)
 .rfl
 .simp only [zby,cT,cF,zA hh,show zcq (ix a0 a1 [])=true from zbF (zNF hs hh),zcm]
theorem zBY:uV 323 zt6:=kF2 zxj zbd zl zn (zo []) zGW
def zPY:zK:=[(178,zuw),(323,zt6)]++zPX
theorem zxk:zx zPY:=zh zCl (zh zBY zxj)
def zdr (h:Host)(m p:Int):List Int :=
 bif hasB m (ln h.Mons) then (cond (hasB p 8) (cond (ine (zcA (ix h.Mons m zi).Outer p).Page (-1)) (zfm h.Memory (zcA (ix h.Mons m zi).Outer p).Page) (zfm (ix h.Mons m zi).Out p)) zrR) else zrR
theorem zTb (p:Int):zZ p 0 7=hasB p 8:=by
 unfold zZ ige ile hasB
 by_cases h1:0<=p<;>by_cases h2:p<8
 .rw [qN (p:=p≥0) (by omega),qN (p:=p<=7) (by omega),qN (p:=0<=p/\p<8) ⟨h1,h2⟩];rfl
 .rw [qK (p:=p<=7) (by omega),qK (p:=0<=p/\p<8) (by omega)];simp
 .rw [qK (p:=p≥0) (by omega),qK (p:=0<=p/\p<8) (by omega)];simp
 .rw [qK (p:=p≥0) (by omega),qK (p:=0<=p/\p<8) (by omega)];simp
def zrF (h:Host)(_ _:Int):Bool:=pc (zcQ h)
def zrE (h:Host)(m p:Int):List Int:=zdr h m p
def znV:Run:=rF3 dH dI dI fun b c d=>(zrF b c d,[aS .int (zrE b c d)])
def zy9 (N:Nat)(a0:Host)(a1 a2:Int):OA:=
 let y0:=(ix a0.Mons a1 zi);let y1:=(zgi y0.Outer a2).Page; (oN (zT a1 0 (wsub .i64 (ln a0.Mons) 1)) (cond (nB (zZ a1 0 (wsub .i64 (ln a0.Mons) 1))) (oN (cond (few 4) (ieq 4 4) false) (some [(aS .int (rp 4 0))])) (oN (zT a2 0 7) (cond (nB (zZ a2 0 7)) (oN (cond (few 4) (ieq 4 4) false) (some [(aS .int (rp 4 0))])) (oN (inb a1 (ln a0.Mons)) (oN (zh2 y0.Outer a2) (cond (ine y1 (-1)) (oN (zgf a0.Memory y1) (some [(aS .int (zjc a0.Memory y1))])) (oN (zgf y0.Out a2) (some [(aS .int (zjc y0.Out a2))])))))))))
theorem zHl (a0:Host)(a1 a2:Int)(hc:zrF a0 a1 a2=true):∃N,zy9 N a0 a1 a2=some [aS .int (zrE a0 a1 a2)]:=by
 have hs:=zC.1 hc;refine ⟨0,?_⟩;unfold zy9 zrE zdr oN nB
 conv=>zeta
 have e:zZ a1 0 (wsub .i64 (ln a0.Mons) 1)=hasB a1 (ln a0.Mons):=zrn (zci hs.mons.len).1 a1;rw[e,zTb];cases hh:hasB a1 (ln a0.Mons)
 .rfl
 .cases h8:hasB a2 8
  .rfl
  .have ho:CVB sm (.s (.sl .int) (ix a0.Mons a1 zi).Out):=hs.mons.inv.2 _ (zb7 hh zi) (.s (.sl .int) _) (by simp[Ty.cells])
   simp only[zT,cT,cF,zA hh,zh2,zgi,show ∀p,zgf a0.Memory p=true from fun p=>zbF hs.mem,show ∀p,zgf (ix a0.Mons a1 zi).Out p=true from fun p=>zbF ho,zjc]
   cases ine (zcA (ix a0.Mons a1 zi).Outer a2).Page (-1)<;>rfl
theorem zpU:uV 72 znV:=kF3 zxk zbd zl zn (zo []) zHl
def zrd (h:Host)(_ _:Int):Bool:=pc (zcQ h)
def zrb (h:Host)(m p:Int):List Int:=zdr h m p
def zt7:Run:=rF3 dH dI dI fun b c d=>(zrd b c d,[aS .int (zrb b c d)])
def zyN (N:Nat)(a0:Host)(a1 a2:Int):OA:=
 let y0:=(ix a0.Mons a1 zi);let y1:=(zf6 y0.Outer a2).Page; (oN (zby a1 (ln a0.Mons)) (cond (nB (zbS a1 (ln a0.Mons))) (oN (cond (few 4) (ieq 4 4) false) (some [(aS .int (rp 4 0))])) (oN (zby a2 8) (cond (nB (zbS a2 8)) (oN (cond (few 4) (ieq 4 4) false) (some [(aS .int (rp 4 0))])) (oN (inb a1 (ln a0.Mons)) (oN (zhR y0.Outer a2) (cond (ine y1 (-1)) (oN (zf3 a0.Memory y1) (some [(aS .int (zi3 a0.Memory y1))])) (oN (zf3 y0.Out a2) (some [(aS .int (zi3 y0.Out a2))])))))))))
theorem zGX (a0:Host)(a1 a2:Int)(hc:zrd a0 a1 a2=true):∃N,zyN N a0 a1 a2=some [aS .int (zrb a0 a1 a2)]:=by
 have hs:=zC.1 hc;refine ⟨0,?_⟩;unfold zyN zrb zdr zbS oN nB
 conv=>zeta
 cases hh:hasB a1 (ln a0.Mons)
 .rfl
 .cases h8:hasB a2 8
  .rfl
  .have ho:CVB sm (.s (.sl .int) (ix a0.Mons a1 zi).Out):=hs.mons.inv.2 _ (zb7 hh zi) (.s (.sl .int) _) (by simp[Ty.cells])
   simp only[zby,cT,cF,zA hh,zhR,zf6,show ∀p,zf3 a0.Memory p=true from fun p=>zbF hs.mem,show ∀p,zf3 (ix a0.Mons a1 zi).Out p=true from fun p=>zbF ho,zi3]
   cases ine (zcA (ix a0.Mons a1 zi).Outer a2).Page (-1)<;>rfl
theorem zBZ:uV 271 zt7:=kF3 zxk zbd zl zn (zo []) zGX
def zPZ:zK:=[(72,znV),(271,zt7)]++zPY
theorem zOu:zx zPZ:=zh zpU (zh zBZ zxk)
def zP0:zK:=zPZ
theorem zOv:zx zP0:=zOu
def zR9:zK:=zP0
theorem zRa:∀f run,zf zR9 f=some run->Holds Tryz.prog f run:=zOv
def zR8:zK:=zR9
theorem zda:zx zR8:=zRa
def zjX:zeK:=zib
theorem zq:zdC zjX:=zbd
def canRun (g:Guest):Bool:=bif (ieq g.Exit.Kind 0&&(ieq g.Exit.Page 0&&(zo6 g.Exit.Write false&&ieq g.Exit.N 0))) then !g.Halted else false
def zmD (_:Guest):Bool:=true
abbrev zkw (g:Guest):Bool:=canRun g
def ztU:Run:=rF1 (dT .guest) fun b=>(zmD b,[aB (zkw b)])
def zyB (N:Nat)(a0:Guest):OA:=
 (cond (cond (ieq a0.Exit.Kind 0) (cond (ieq a0.Exit.Page 0) (cond (zo6 a0.Exit.Write false) (ieq a0.Exit.N 0) false) false) false) (some [(aB (nB a0.Halted))]) oF)
theorem zGK (a0:Guest)(hc:zmD a0=true):∃N,zyB N a0=some [aB (zkw a0)]:=by
 refine ⟨0,?_⟩;unfold zyB zkw canRun nB;cases ieq a0.Exit.Kind 0<;>cases ieq a0.Exit.Page 0<;>cases zo6 a0.Exit.Write false<;>cases ieq a0.Exit.N 0<;>simp
theorem zBM:uV 277 ztU:=kF1 zpL zbd zl zn (zo []) zGK
theorem must {ρ:Type}{c:Bool}{a b r:Option ρ}(h:c=true)(k:a=r):(cond c a b)=r:=by rw[h];exact k
theorem mu {ρ:Type}{c:Bool}{a b r:Option ρ}(k:a=r)(h:c=true:=by first|assumption|(simp_all<;>omega)):(cond c a b)=r:=must h k
theorem ze0 {ρ:Type}{c:Bool}{a b r:Option ρ}(h:c=false)(k:b=r):(cond c a b)=r:=by rw[h];exact k
theorem br {ρ:Type}{c:Bool}{a b r:Option ρ}(h1:c=true->a=r)(h2:c=false->b=r):(cond c a b)=r:=by
 cases c
 .exact h2 rfl
 .exact h1 rfl
theorem brN {ρ:Type}{c:Bool}{a b r:Option ρ}(h1:c=false->a=r)(h2:c=true->b=r):(cond (cond c false true) a b)=r:=by
 cases c
 .exact h1 rfl
 .exact h2 rfl
theorem shr {α ρ:Type}{x:α}{f:α->Option ρ}{r:Option ρ}(h:f x=r):share x f=r:=h
theorem zf1 {ρ:Type}{c p:Bool}{a b:Option ρ}(hc:c=true):(cond c (cond (cond p false true) a b) none)=bif p then b else a:=by
 rw[hc];cases p<;>rfl
attribute [simp] zC
@[simp] theorem zRl {α:Type}(l:List α):(few (ln l)=true)↔l.length<=2147483648:=by
 unfold few ln;rw[decide_eq_true_iff];omega
@[simp] theorem zTt {α:Type}(l m:List α):(ap l m).length=l.length+m.length:=by simp[ap]
attribute [simp] zij zlM
@[simp] theorem zQu (n:Nat)(k:IntKind)(x:Int):CVB n (.i k x)↔True:=⟨fun _=>trivial,fun _=>.i k x⟩
@[simp] theorem zTB (n:Nat)(x:Bool):CVB n (.b x)↔True:=⟨fun _=>trivial,fun _=>.b x⟩
theorem zhH {n:Nat}{t:Ty}(l:List t.den):CVB n (.s t l)↔l.length<=n/\∀x∈l,∀c∈t.cells x,CVB n c:=⟨fun h=>h.inv,fun h=>.s t l h.1 h.2⟩
@[simp] theorem zJ3 (n:Nat)(l:List Int):CVB n (.s .int l)↔l.length<=n:=by rw[zhH];simp[Ty.cells]
@[simp] theorem zSd (n:Nat)(l:List Int):CVB n (.s .u8 l)↔l.length<=n:=by rw[zhH];simp[Ty.cells]
@[simp] theorem zOI (n:Nat)(l:List Bool):CVB n (.s .bool l)↔l.length<=n:=by rw[zhH];simp[Ty.cells]
@[simp] theorem zOK (n:Nat)(l:List Slot):CVB n (.s .slot l)↔l.length<=n:=by rw[zhH];simp[Ty.cells]
@[simp] theorem zRc (n:Nat)(l:List Ins):CVB n (.s .ins l)↔l.length<=n:=by rw[zhH];simp[Ty.cells]
@[simp] theorem zMT (n:Nat)(l:List Entry):CVB n (.s .entry l)↔l.length<=n:=by rw[zhH];simp[Ty.cells]
@[simp] theorem zRb (n:Nat)(l:List GAct):CVB n (.s .act l)↔l.length<=n:=by rw[zhH];simp[Ty.cells]
@[simp] theorem zOL (n:Nat)(l:List Told):CVB n (.s .told l)↔l.length<=n:=by rw[zhH];simp[Ty.cells]
def SmM (m:List (List Int)):Prop:=m.length<=1048576/\∀x∈m,x.length<=1048576
def SmG (g:Guest):Prop:=g.Prog.length<=1048576/\g.Written.length<=1048576/\g.Live.length<=1048576/\g.Seen.length<=1048576
def znk (l:List Guest):Prop:=l.length<=1048576/\∀x∈l,SmG x
def SmB (b:Bare):Prop:=SmM b.Memory/\znk b.Guests/\b.Outs.length<=1048576
def zKH (l:List Bare):Prop:=l.length<=1048576/\∀x∈l,SmB x
theorem zPj:sm=1048576:=rfl
@[simp] theorem zKU (l:List Int):CVB sm (.s .int l)↔l.length<=1048576:=zJ3 sm l
@[simp] theorem zS6 (l:List Int):CVB sm (.s .u8 l)↔l.length<=1048576:=zSd sm l
@[simp] theorem zIY (l:List Bool):CVB sm (.s .bool l)↔l.length<=1048576:=zOI sm l
@[simp] theorem zIZ (l:List Slot):CVB sm (.s .slot l)↔l.length<=1048576:=zOK sm l
@[simp] theorem zSQ (l:List Ins):CVB sm (.s .ins l)↔l.length<=1048576:=zRc sm l
@[simp] theorem zGk (l:List Entry):CVB sm (.s .entry l)↔l.length<=1048576:=zMT sm l
@[simp] theorem zSP (l:List GAct):CVB sm (.s .act l)↔l.length<=1048576:=zRb sm l
@[simp] theorem zSK (l:List Told):CVB sm (.s .told l)↔l.length<=1048576:=zOL sm l
@[simp] theorem zm3 (l:List (List Int)):CVB sm (.s (.sl .int) l)↔SmM l:=by rw[zhH];simp[Ty.cells,SmM,zPj]
@[simp] theorem zQZ (g:Guest):(∀c∈Ty.cells .guest g,CVB sm c)↔SmG g:=by simp[Ty.cells,SmG,zPj]
@[simp] theorem ztj (l:List Guest):CVB sm (.s .guest l)↔znk l:=by rw[zhH];simp only[zQZ];rfl
@[simp] theorem zQY (b:Bare):(∀c∈Ty.cells .bare b,CVB sm c)↔SmB b:=by
 simp only[Ty.cells,qG,qU,or_false,uT,forall_eq,zm3,ztj,zJ3,zQu,and_true];rfl
@[simp] theorem zS9 (l:List Bare):CVB sm (.s .bare l)↔zKH l:=by rw[zhH];simp only[zQY];rfl
@[simp] theorem zTw (a:List Ins)(b c:Int)(d e:List Slot)(f:Ctl)(g:Int)(h:GExit)(i:Bool)(j:List Int):SmG ⟨a,b,c,d,e,f,g,h,i,j⟩↔a.length<=1048576/\d.length<=1048576/\e.length<=1048576/\j.length<=1048576:=Iff.rfl
@[simp] theorem zTv (m:List (List Int))(g:List Guest)(o:List Int)(p:Int):SmB ⟨m,g,o,p⟩↔SmM m/\znk g/\o.length<=1048576:=Iff.rfl
theorem zA3 {m:List (List Int)}{i:Int}{x:List Int}(h:SmM m)(hx:x.length<=1048576):SmM (up m i x):=by
 refine ⟨by simpa using h.1,fun y hy=>?_⟩
 rcases jQ hy with hy|rfl
 .exact h.2 y hy
 .exact hx
theorem zDl {m:List Guest}{i:Int}{x:Guest}(h:znk m)(hx:SmG x):znk (up m i x):=by
 refine ⟨by simpa using h.1,fun y hy=>?_⟩
 rcases jQ hy with hy|rfl
 .exact h.2 y hy
 .exact hx
theorem zRK {m:List Bare}{i:Int}{x:Bare}(h:zKH m)(hx:SmB x):zKH (up m i x):=by
 refine ⟨by simpa using h.1,fun y hy=>?_⟩
 rcases jQ hy with hy|rfl
 .exact h.2 y hy
 .exact hx
theorem zIe {l:List Guest}{i:Int}(h:znk l)(hh:hasB i (ln l)=true)(d:Guest):SmG (ix l i d):=h.2 _ (zb7 hh d)
theorem zSD {l:List (List Int)}{i:Int}(h:SmM l)(hh:hasB i (ln l)=true)(d:List Int):(ix l i d).length<=1048576:=h.2 _ (zb7 hh d)
@[simp] theorem zS2:SmG zG:=⟨by decide,by decide,by decide,by decide⟩
def win (x a b:Int):Bool:=ige x a&&ile x b
@[simp] theorem zQS (x a b:Int):zZ x a b=win x a b:=rfl
@[simp] theorem zTC (x a b:Int):zbo x a b=win x a b:=rfl
@[simp] theorem zGD (i n:Int):inb i n=hasB i n:=rfl
attribute [simp] zbS
@[simp] theorem zvw {α:Type}{l:List α}(h:l.length<=1048576)(i:Int):win i 0 (wsub .i64 (ln l) 1)=hasB i (ln l):=zD3 (zci h).1 i
theorem zep {x a b:Int}:(win x a b=true)↔a<=x/\x<=b:=by
 unfold win ige ile;simp only[qD,decide_eq_true_iff]
theorem zRp (a b:Int):ilt a b = !ige a b:=by
 unfold ilt ige
 by_cases h:a<b
 .rw [qN h,qK (by omega)];rfl
 .rw [qK h,qN (by omega)];rfl
attribute [simp] zbm zbK zew zeu zeY zeN zeZ zcK zgi zf6 zkw zb2 zca
attribute [simp] zfr zft zfG zcm
attribute [simp] zgI zfF zfc zcq
def zdm (a:Int):Int:=bif ilt a 0 then -1 else zIN .i64 a 4
def zgT (a:Int):Int:=bif ilt a 0 then -1 else zkm a 4
@[simp] abbrev zd4 (a:Int):Bool:=true
@[simp] abbrev zcL (a:Int):Int:=zdm a
def zqb:Run:=rF1 dI fun b=>(zd4 b,[aI (zcL b)])
def zsJ (N:Nat)(a0:Int):OA:=
 (cond (ilt a0 0) (some [(aI (-1))]) (oN (ine 4 0) (some [(aI (zIN .i64 a0 4))])))
theorem zCI (a0:Int)(hc:zd4 a0=true):∃N,zsJ N a0=some [aI (zcL a0)]:=by
 refine ⟨0,?_⟩;unfold zsJ oN;refine br (fun _=>?_) (fun _=>must rfl ?_)
 all_goals first|rfl|(simp only [*,zcL,zdm,cT,cF]<;>rfl)|simp_all[Ty.cells,zcL,zdm]
theorem zxz:uV 164 zqb:=kF1 zda zq zl zn (zo []) zCI
@[simp] abbrev zd3 (a:Int):Bool:=true
@[simp] abbrev zdR (a:Int):Int:=zgT a
def zqa:Run:=rF1 dI fun b=>(zd3 b,[aI (zdR b)])
def zsI (N:Nat)(a0:Int):OA:=
 (cond (ilt a0 0) (some [(aI (-1))]) (oN (ine 4 0) (some [(aI (zkm a0 4))])))
theorem zCH (a0:Int)(hc:zd3 a0=true):∃N,zsI N a0=some [aI (zdR a0)]:=by
 refine ⟨0,?_⟩;unfold zsI oN;refine br (fun _=>?_) (fun _=>must rfl ?_)
 all_goals first|rfl|(simp only [*,zdR,zgT,cT,cF]<;>rfl)|simp_all[Ty.cells,zdR,zgT]
theorem zxy:uV 169 zqa:=kF1 zda zq zl zn (zo []) zCH
def zfl (w:Bool):Int:=bif w then 2 else 1
@[simp] abbrev zjN (w:Bool):Bool:=true
@[simp] abbrev zc9 (w:Bool):Int:=zfl w
def zt4:Run:=rF1 dB fun b=>(zjN b,[aI (zc9 b)])
def zyL (N:Nat)(a0:Bool):OA:=
 (cond a0 (some [(aI 2)]) (some [(aI 1)]))
theorem zGU (a0:Bool)(hc:zjN a0=true):∃N,zyL N a0=some [aI (zc9 a0)]:=by
 refine ⟨0,?_⟩;unfold zyL;refine br (fun _=>?_) (fun _=>?_)
 all_goals first|rfl|(simp only [*,zc9,zfl,cT,cF]<;>rfl)|simp_all[Ty.cells,zc9,zfl]
theorem zBW:uV 165 zt4:=kF1 zda zq zl zn (zo []) zGU
def ztn (p:Int)(w:Bool):GExit:=⟨1,p,w,0⟩
def zxe (n:Int):GExit:=⟨2,0,false,n⟩
def zDc (n:Int):GExit:=⟨3,0,false,n⟩
@[simp] abbrev zgn (p:Int)(w:Bool):Bool:=true
@[simp] abbrev zfB (p:Int)(w:Bool):GExit:=ztn p w
def zoC:Run:=rF2 dI dB fun b c=>(zgn b c,[.agg (zmC (zfB b c))])
def zrV (N:Nat)(a0:Int)(a1:Bool):OA:=
 (some [(.agg [(.i .i64 1),(.i .i64 a0),(.b a1),(.i .i64 0)])])
theorem zAl (a0:Int)(a1:Bool)(hc:zgn a0 a1=true):∃N,zrV N a0 a1=some [.agg (zmC (zfB a0 a1))]:=by
 refine ⟨0,?_⟩;unfold zrV
 first|rfl|(simp only [*,zfB,cT,cF]<;>rfl)|simp_all[Ty.cells,zfB]
theorem zvA:uV 167 zoC:=kF2 zda zq zl zn (zo []) zAl
@[simp] abbrev zjJ (n:Int):Bool:=true
@[simp] abbrev zf2 (n:Int):GExit:=zxe n
def zqd:Run:=rF1 dI fun b=>(zjJ b,[.agg (zmC (zf2 b))])
def zsM (N:Nat)(a0:Int):OA:=
 (some [(.agg [(.i .i64 2),(.i .i64 0),(.b false),(.i .i64 a0)])])
theorem zCL (a0:Int)(hc:zjJ a0=true):∃N,zsM N a0=some [.agg (zmC (zf2 a0))]:=by
 refine ⟨0,?_⟩;unfold zsM
 first|rfl|(simp only [*,zf2,cT,cF]<;>rfl)|simp_all[Ty.cells,zf2]
theorem zxB:uV 289 zqd:=kF1 zda zq zl zn (zo []) zCL
@[simp] abbrev zpc (n:Int):Bool:=true
@[simp] abbrev zjn (n:Int):GExit:=zDc n
def zsi:Run:=rF1 dI fun b=>(zpc b,[.agg (zmC (zjn b))])
def zv1 (N:Nat)(a0:Int):OA:=
 (some [(.agg [(.i .i64 3),(.i .i64 0),(.b false),(.i .i64 a0)])])
theorem zEO (a0:Int)(hc:zpc a0=true):∃N,zv1 N a0=some [.agg (zmC (zjn a0))]:=by
 refine ⟨0,?_⟩;unfold zv1
 first|rfl|(simp only [*,zjn,cT,cF]<;>rfl)|simp_all[Ty.cells,zjn]
theorem zzP:uV 347 zsi:=kF1 zda zq zl zn (zo []) zEO
def zcN (t x:Int):Bool:=bif win t 0 3 then (cond (win x 1 2) (ine (wand .i64 t x) 0) false) else false
theorem zQR (x:Int):win x 1 2=(ieq x 1||ieq x 2):=by
 have h:(win x 1 2=true)↔(ieq x 1||ieq x 2)=true:=by
  rw[zep];simp only[ieq,jT,qH];omega
 cases h1:win x 1 2<;>cases h2:(ieq x 1||ieq x 2)<;>simp_all
@[simp] abbrev zgD (t x:Int):Bool:=true
@[simp] abbrev zfW (t x:Int):Bool:=zcN t x
def zsh:Run:=rF2 dI dI fun b c=>(zgD b c,[aB (zfW b c)])
def zv0 (N:Nat)(a0 a1:Int):OA:=
 let y0:=(aB (ine (wand .i64 a0 a1) 0)); (oN (zbf a0 0 3) (cond (zbo a0 0 3) (cond (ieq a1 1) (some [y0]) (cond (ieq a1 2) (some [y0]) oF)) oF))
theorem zEN (a0 a1:Int)(hc:zgD a0 a1=true):∃N,zv0 N a0 a1=some [aB (zfW a0 a1)]:=by
 refine ⟨0,?_⟩;unfold zv0 oN
 conv=>zeta
 refine must rfl (br (fun _=>br (fun _=>?_) (fun _=>br (fun _=>?_) (fun _=>?_))) (fun _=>?_))
 all_goals first|rfl|(simp only [*,zfW,zcN,zQR,cT,cF]<;>rfl)|simp_all[Ty.cells,zfW,zcN,zQR]
theorem zzO:uV 290 zsh:=kF2 zda zq zl zn (zo []) zEN
def zdE (p:Int):Bool:=win p 0 255
@[simp] abbrev zgh (p:Int):Bool:=true
@[simp] abbrev zgg (p:Int):Bool:=zdE p
def zuy:Run:=rF1 dI fun b=>(zgh b,[aB (zgg b)])
def zzb (N:Nat)(a0:Int):OA:=
 (oN (zT a0 0 255) (some [(aB (zZ a0 0 255))]))
theorem zHn (a0:Int)(hc:zgh a0=true):∃N,zzb N a0=some [aB (zgg a0)]:=by
 refine ⟨0,?_⟩;unfold zzb oN;refine must rfl ?_
 first|rfl|(simp only [*,zgg,zdE,cT,cF]<;>rfl)|simp_all[Ty.cells,zgg,zdE]
theorem zCn:uV 314 zuy:=kF1 zda zq zl zn (zo []) zHn
@[simp] abbrev zf5 (p:Int):Bool:=true
@[simp] abbrev zf4 (p:Int):Bool:=zdE p
def zt9:Run:=rF1 dI fun b=>(zf5 b,[aB (zf4 b)])
def zyP (N:Nat)(a0:Int):OA:=
 (oN (zbf a0 0 255) (some [(aB (zbo a0 0 255))]))
theorem zGZ (a0:Int)(hc:zf5 a0=true):∃N,zyP N a0=some [aB (zf4 a0)]:=by
 refine ⟨0,?_⟩;unfold zyP oN;refine must rfl ?_
 first|rfl|(simp only [*,zf4,zdE,cT,cF]<;>rfl)|simp_all[Ty.cells,zf4,zdE]
theorem zB1:uV 296 zt9:=kF1 zda zq zl zn (zo []) zGZ
def zc4 (l:List Ins)(p:Int):Ins:=bif hasB p (ln l) then ix l p zBo else ⟨7,0⟩
@[simp] abbrev zd5 (l:List Ins)(p:Int):Bool:=true
@[simp] abbrev zec (l:List Ins)(p:Int):Ins:=zc4 l p
def zwF:Run:=rF2 (dS .ins) dI fun b c=>(zd5 b c,[aT .ins (zec b c)])
def zDy (N:Nat)(a0:lI)(a1:Int):OA:=
 (oN (zby a1 (ln a0)) (cond (nB (zbS a1 (ln a0))) (some [(.agg [(.i .i64 7),(.i .i64 0)])]) (oN (inb a1 (ln a0)) (some [(.agg [(.i .i64 (ix a0 a1 zBo).Op),(.i .i64 (ix a0 a1 zBo).X)])]))))
theorem zJd (a0:List Ins)(a1:Int)(hc:zd5 a0 a1=true):∃N,zDy N a0 a1=some [aT .ins (zec a0 a1)]:=by
 refine ⟨0,?_⟩;unfold zDy oN nB;refine must rfl (brN (fun _=>?_) (fun _=>mu ?_))
 all_goals first|rfl|(simp only [*,zec,zc4,cT,cF]<;>rfl)|simp_all[Ty.cells,zec,zc4]
theorem zEt:uV 279 zwF:=kF2 zda zq zl zn (zo []) zJd
def zer (w:Int):Int:=bif ieq w 5 then 1 else 2
@[simp] abbrev zjU (w:Int):Bool:=true
@[simp] abbrev zeR (w:Int):Int:=zer w
def zun:Run:=rF1 dI fun b=>(zjU b,[aI (zeR b)])
def zy0 (N:Nat)(a0:Int):OA:=
 (cond (ieq a0 5) (some [(aI 1)]) (some [(aI 2)]))
theorem zHa (a0:Int)(hc:zjU a0=true):∃N,zy0 N a0=some [aI (zeR a0)]:=by
 refine ⟨0,?_⟩;unfold zy0;refine br (fun _=>?_) (fun _=>?_)
 all_goals first|rfl|(simp only [*,zeR,zer,cT,cF]<;>rfl)|simp_all[Ty.cells,zeR,zer]
theorem zCc:uV 283 zun:=kF1 zda zq zl zn (zo []) zHa
def zdv (s:Slot)(n:Int):Bool:=bif zcV s noSlot then true else (cond (igt n 0) (cond (win s.Page 0 (wsub .i64 n 1)) (win s.Rights 1 3) false) false)
@[simp] abbrev zrI (s:Slot)(n:Int):Bool:=true
@[simp] abbrev zn1 (s:Slot)(n:Int):Bool:=zdv s n
def zuC:Run:=rF2 (dT .slot) dI fun b c=>(zrI b c,[aB (zn1 b c)])
def zzf (N:Nat)(a0:Slot)(a1:Int):OA:=
 (oN zb2 (cond (cond (ieq a0.Page zbm.Page) (ieq a0.Rights zbm.Rights) false) oT (oN (zT a0.Page 0 (wsub .i64 a1 1)) (cond (zZ a0.Page 0 (wsub .i64 a1 1)) (cond (igt a1 0) (oN (zT a0.Rights 1 3) (some [(aB (zZ a0.Rights 1 3))])) oF) oF))))
theorem zHr (a0:Slot)(a1:Int)(hc:zrI a0 a1=true):∃N,zzf N a0 a1=some [aB (zn1 a0 a1)]:=by
 refine ⟨0,?_⟩;unfold zzf oN;refine must rfl (br (fun _=>?_) (fun _=>must rfl (br (fun _=>br (fun _=>must rfl ?_) (fun _=>?_)) (fun _=>?_))))
 all_goals first|rfl|(simp only [*,zn1,zdv,zcV,cT,cF]<;>rfl)|simp_all[Ty.cells,zn1,zdv,zcV]
theorem zCr:uV 224 zuC:=kF2 zda zq zl zn (zo []) zHr
@[simp] abbrev zrg (s:Slot)(n:Int):Bool:=true
@[simp] abbrev znF (s:Slot)(n:Int):Bool:=zdv s n
def zuh:Run:=rF2 (dT .slot) dI fun b c=>(zrg b c,[aB (znF b c)])
def zyU (N:Nat)(a0:Slot)(a1:Int):OA:=
 (oN zca (cond (cond (ieq a0.Page zbK.Page) (ieq a0.Rights zbK.Rights) false) oT (cond (igt a1 0) (oN (zbf a0.Page 0 (wsub .i64 a1 1)) (cond (zbo a0.Page 0 (wsub .i64 a1 1)) (oN (zbf a0.Rights 1 3) (some [(aB (zbo a0.Rights 1 3))])) oF)) oF)))
theorem zG4 (a0:Slot)(a1:Int)(hc:zrg a0 a1=true):∃N,zyU N a0 a1=some [aB (znF a0 a1)]:=by
 refine ⟨0,?_⟩;unfold zyU oN;refine must rfl (br (fun _=>?_) (fun _=>br (fun _=>must rfl (br (fun _=>must rfl ?_) (fun _=>?_))) (fun _=>?_)))
 all_goals first|rfl|(simp only [*,znF,zdv,zcV,cT,cF]<;>rfl)|simp_all[Ty.cells,znF,zdv,zcV]
theorem zB6:uV 149 zuh:=kF2 zda zq zl zn (zo []) zG4
@[simp] abbrev zek (l:List Slot):Bool:=pc (l.length<=2147483648)
@[simp] abbrev zdk (l:List Slot):List Slot:=l
def zoJ:Run:=rF1 (dS .slot) fun b=>(zek b,[aS .slot (zdk b)])
def zr2 (N:Nat)(a0:lS):OA:=
 (oN (few (ln (ap [] a0))) (some [(aS .slot (ap [] a0))]))
theorem zAs (a0:List Slot)(hc:zek a0=true):∃N,zr2 N a0=some [aS .slot (zdk a0)]:=by
 have hs:=zC.1 hc;refine ⟨0,?_⟩;unfold zr2 oN;refine mu ?_
 first|rfl|(simp only [*,zdk,cT,cF]<;>rfl)|simp_all[Ty.cells,zdk]
theorem zvH:uV 276 zoJ:=kF1 zda zq zl zn (zo []) zAs
@[simp] abbrev znG (l:List Ins):Bool:=pc (l.length<=2147483648)
@[simp] abbrev zjT (l:List Ins):List Ins:=l
def zqo:Run:=rF1 (dS .ins) fun b=>(znG b,[aS .ins (zjT b)])
def zsX (N:Nat)(a0:lI):OA:=
 (oN (few (ln (ap [] a0))) (some [(aS .ins (ap [] a0))]))
theorem zCW (a0:List Ins)(hc:znG a0=true):∃N,zsX N a0=some [aS .ins (zjT a0)]:=by
 have hs:=zC.1 hc;refine ⟨0,?_⟩;unfold zsX oN;refine mu ?_
 first|rfl|(simp only [*,zjT,cT,cF]<;>rfl)|simp_all[Ty.cells,zjT]
theorem zxM:uV 194 zqo:=kF1 zda zq zl zn (zo []) zCW
def ziw (m:List (List Int))(p c:Int):Bool:=bif hasB p (ln m) then hasB c (ln (ix m p [])) else false
def cellAt (m:List (List Int))(p c:Int):Int:=bif ziw m p c then ix (ix m p []) c 0 else 0
def zfI (m:List (List Int))(p c v:Int):List (List Int):=bif ziw m p c then (cond (win v 0 99) (up m p (up (ix m p []) c v)) m) else m
theorem zLp (m:List (List Int))(p c:Int):(ziw m p c=true)↔hasB p (ln m)=true/\hasB c (ln (ix m p []))=true:=by
 unfold ziw;cases hasB p (ln m)<;>simp
@[simp] abbrev zjK (m:List (List Int))(p c:Int):Bool:=true
@[simp] abbrev zi1 (m:List (List Int))(p c:Int):Int:=cellAt m p c
def ztV:Run:=rF3 (dS (.sl .int)) dI dI fun b c d=>(zjK b c d,[aI (zi1 b c d)])
def zyC (N:Nat)(a0:lM)(a1 a2:Int):OA:=
 let y0:=(ix a0 a1 []); (oN (zby a1 (ln a0)) (cond (nB (zbS a1 (ln a0))) (some [(aI 0)]) (oN (inb a1 (ln a0)) (oN (zby a2 (ln y0)) (cond (nB (zbS a2 (ln y0))) (some [(aI 0)]) (oN (inb a1 (ln a0)) (oN (inb a2 (ln y0)) (some [(aI (ix y0 a2 0))]))))))))
theorem zGL (a0:List (List Int))(a1 a2:Int)(hc:zjK a0 a1 a2=true):∃N,zyC N a0 a1 a2=some [aI (zi1 a0 a1 a2)]:=by
 refine ⟨0,?_⟩;unfold zyC oN nB
 conv=>zeta
 refine must rfl (brN (fun _=>?_) (fun _=>mu (must rfl (brN (fun _=>?_) (fun _=>mu (mu ?_))))))
 all_goals first|rfl|(simp only [*,zi1,cellAt,ziw,cT,cF]<;>rfl)|simp_all[Ty.cells,zi1,cellAt,ziw]
theorem zBN:uV 172 ztV:=kF3 zda zq zl zn (zo []) zGL
def zKS:zK:=[(277,ztU),(164,zqb),(169,zqa),(165,zt4),(167,zoC),(289,zqd),(347,zsi),(290,zsh),(314,zuy),(296,zt9),(279,zwF),(283,zun),(224,zuC),(149,zuh),(276,zoJ),(194,zqo),(172,ztV)]++zR8
theorem zef:zx zKS:=zh zBM (zh zxz (zh zxy (zh zBW (zh zvA (zh zxB (zh zzP (zh zzO (zh zCn (zh zB1 (zh zEt (zh zCc (zh zCr (zh zB6 (zh zvH (zh zxM (zh zBN zda))))))))))))))))
def zcu (t:List Slot)(n p:Int):Bool:=bif t.all (fun s=>zdv s p) then ieq (ln t) n else false
@[simp] abbrev ziD (t:List Slot)(n p:Int):Bool:=true
@[simp] abbrev zfp (t:List Slot)(n p:Int):Bool:=zcu t n p
def zsv:Run:=rF3 (dS .slot) dI dI fun b c d=>(ziD b c d,[aB (zfp b c d)])
def zwg (N:Nat)(a0:lS)(a1 a2:Int):OA:=
 (iter (σ:=(Int×(Int×(Int×(lS×Unit))))) N (fun r4 s5=>let y0:=s5.2.2.2.1;let y1:=(ix y0 s5.2.2.1 zM); (cond (ilt s5.2.2.1 (ln y0)) (oN (inb s5.2.2.1 (ln y0)) (oN (zrI y1 s5.2.1) (cond (nB (zn1 y1 s5.2.1)) oF (r4 (s5.1,(s5.2.1,((zB .i64 s5.2.2.1 1),(y0,())))))))) (some [(aB (ieq (ln y0) s5.1))]))) (a1,(a2,(0,(a0,())))))
def zFo:FuncId->Nat->Option Tmpl:=zo [(356,0,{ n:=25,tm:=[(0,.sl 0 []),(1,ti),(2,ti),(7,ti)],lo:=[],ro:=[(0,.slot,false)] })]
theorem zE4 (a0:List Slot)(a1 a2:Int)(hb:zbu big [aS .slot a0,aI a1,aI a2])(hc:ziD a0 a1 a2=true):∃N,zwg N a0 a1 a2=some [aB (zfp a0 a1 a2)]:=by
 have hl:(_:List _).length<=big:=((zcy hb).1 _ (qE.2 rfl)).len;refine zbN fun N hNN=>?_;unfold zwg oN nB
 conv=>zeta
 refine (zW a0 (fun i (t:Unit)=>(a1,a2,(i:Int),a0,())) _ (fun _ x (_:Unit) κ=>bif (fun s=>zdv s a2) x then κ () else oF) (fun (t:Unit)=>(some [(.one (.b (ieq (ln a0) a1)))])) (fun i hi t rec=>?_) (fun t rec=>?_) _ () (hNN hl)).trans ?_
 .simp only [zbp hi,zY hi,zbc hi,zQ hi hl,cT];exact zf1 rfl
 .simp only [zbg,cF]
 rw[zeG (fun s=>zdv s a2)];refine br (fun h0=>?_) (fun h0=>?_)
 .first|rfl|(simp only [h0,zfp,zcu,cT,cF]<;>rfl)|(simp_all [Ty.cells,zfp,zcu];done)
 .first|rfl|(simp only [h0,zfp,zcu,cT,cF]<;>rfl)|(simp_all [Ty.cells,zfp,zcu];done)
theorem zz2:uV 356 zsv:=hF3 zef zq zl zn zFo zE4
@[simp] abbrev ziq (t:List Slot)(n p:Int):Bool:=true
@[simp] abbrev zfk (t:List Slot)(n p:Int):Bool:=zcu t n p
def zsm:Run:=rF3 (dS .slot) dI dI fun b c d=>(ziq b c d,[aB (zfk b c d)])
def zv5 (N:Nat)(a0:lS)(a1 a2:Int):OA:=
 (iter (σ:=(Int×(Int×(Int×(Int×(lS×Unit)))))) N (fun r4 s5=>let y1:=s5.2.2.2.2.1;let y0:=(ix y1 s5.2.2.2.1 zM); (cond (ilt s5.2.2.2.1 s5.2.2.1) (oN (inb s5.2.2.2.1 (ln y1)) (oN (zrg y0 s5.2.1) (cond (nB (znF y0 s5.2.1)) oF (r4 (s5.1,(s5.2.1,(s5.2.2.1,((zB .i64 s5.2.2.2.1 1),(y1,()))))))))) (some [(aB (ieq (ln y1) s5.1))]))) (a1,(a2,((ln a0),(0,(a0,()))))))
def zFk:FuncId->Nat->Option Tmpl:=zo [(295,0,{ n:=24,tm:=[(0,.sl 0 []),(1,ti),(2,ti),(9,.sl 0 []),(10,ti),(11,ti)],lo:=[],ro:=[(0,.slot,false)] })]
theorem zES (a0:List Slot)(a1 a2:Int)(hb:zbu big [aS .slot a0,aI a1,aI a2])(hc:ziq a0 a1 a2=true):∃N,zv5 N a0 a1 a2=some [aB (zfk a0 a1 a2)]:=by
 have hl:(_:List _).length<=big:=((zcy hb).1 _ (qE.2 rfl)).len;refine zbN fun N hNN=>?_;unfold zv5 oN nB
 conv=>zeta
 refine (zW a0 (fun i (t:Unit)=>(a1,a2,(ln a0),(i:Int),a0,())) _ (fun _ x (_:Unit) κ=>bif (fun s=>zdv s a2) x then κ () else oF) (fun (t:Unit)=>(some [(.one (.b (ieq (ln a0) a1)))])) (fun i hi t rec=>?_) (fun t rec=>?_) _ () (hNN hl)).trans ?_
 .simp only [zbp hi,zY hi,zbc hi,zQ hi hl,cT];exact zf1 rfl
 .simp only [zbg,cF]
 rw[zeG (fun s=>zdv s a2)];refine br (fun h0=>?_) (fun h0=>?_)
 .first|rfl|(simp only [h0,zfk,zcu,cT,cF]<;>rfl)|(simp_all [Ty.cells,zfk,zcu];done)
 .first|rfl|(simp only [h0,zfk,zcu,cT,cF]<;>rfl)|(simp_all [Ty.cells,zfk,zcu];done)
theorem zzT:uV 295 zsm:=hF3 zef zq zl zn zFk zES
def zb0 (c:List Int):Bool:=bif c.all (fun x=>win x 0 99) then ieq (ln c) 4 else false
@[simp] abbrev zdU (c:List Int):Bool:=true
@[simp] abbrev zdu (c:List Int):Bool:=zb0 c
def zux:Run:=rF1 (dS .int) fun b=>(zdU b,[aB (zdu b)])
def zza (N:Nat)(a0:List Int):OA:=
 (iter (σ:=(Int×((List Int)×Unit))) N (fun r2 s3=>(cond (ilt s3.1 (ln s3.2.1)) (oN (inb s3.1 (ln s3.2.1)) (oN (zT (ix s3.2.1 s3.1 0) 0 99) (cond (nB (zZ (ix s3.2.1 s3.1 0) 0 99)) oF (r2 ((zB .i64 s3.1 1),(s3.2.1,())))))) (some [(aB (ieq (ln s3.2.1) 4))]))) (0,(a0,())))
def zIC:FuncId->Nat->Option Tmpl:=zo [(358,0,{ n:=19,tm:=[(0,.sl 0 []),(3,ti)],lo:=[],ro:=[(0,.int,false)] })]
theorem zHm (a0:List Int)(hb:zbu big [aS .int a0])(hc:zdU a0=true):∃N,zza N a0=some [aB (zdu a0)]:=by
 have hl:(_:List _).length<=big:=((zcy hb).1 _ (qE.2 rfl)).len;refine zbN fun N hNN=>?_;unfold zza oN nB;refine (zW a0 (fun i (t:Unit)=>((i:Int),a0,())) _ (fun _ x (_:Unit) κ=>bif (fun x=>win x 0 99) x then κ () else oF) (fun (t:Unit)=>(some [(.one (.b (ieq (ln a0) 4)))])) (fun i hi t rec=>?_) (fun t rec=>?_) _ () (hNN hl)).trans ?_
 .simp only [zbp hi,zY hi,zbc hi,zQ hi hl,cT];exact zf1 rfl
 .simp only [zbg,cF]
 rw[zeG (fun x=>win x 0 99)];refine br (fun h0=>?_) (fun h0=>?_)
 .first|rfl|(simp only [h0,zdu,zb0,cT,cF]<;>rfl)|(simp_all [Ty.cells,zdu,zb0];done)
 .first|rfl|(simp only [h0,zdu,zb0,cT,cF]<;>rfl)|(simp_all [Ty.cells,zdu,zb0];done)
theorem zCm:uV 358 zux:=hF1 zef zq zl zn zIC zHm
@[simp] abbrev zfj (c:List Int):Bool:=true
@[simp] abbrev zei (c:List Int):Bool:=zb0 c
def zt8:Run:=rF1 (dS .int) fun b=>(zfj b,[aB (zei b)])
def zyO (N:Nat)(a0:List Int):OA:=
 (iter (σ:=(Int×(Int×((List Int)×Unit)))) N (fun r2 s3=>(cond (ilt s3.2.1 s3.1) (oN (inb s3.2.1 (ln s3.2.2.1)) (oN (zbf (ix s3.2.2.1 s3.2.1 0) 0 99) (cond (nB (zbo (ix s3.2.2.1 s3.2.1 0) 0 99)) oF (r2 (s3.1,((zB .i64 s3.2.1 1),(s3.2.2.1,()))))))) (some [(aB (ieq (ln s3.2.2.1) 4))]))) ((ln a0),(0,(a0,()))))
def zIt:FuncId->Nat->Option Tmpl:=zo [(294,0,{ n:=18,tm:=[(0,.sl 0 []),(5,.sl 0 []),(6,ti),(7,ti)],lo:=[],ro:=[(0,.int,false)] })]
theorem zGY (a0:List Int)(hb:zbu big [aS .int a0])(hc:zfj a0=true):∃N,zyO N a0=some [aB (zei a0)]:=by
 have hl:(_:List _).length<=big:=((zcy hb).1 _ (qE.2 rfl)).len;refine zbN fun N hNN=>?_;unfold zyO oN nB;refine (zW a0 (fun i (t:Unit)=>((ln a0),(i:Int),a0,())) _ (fun _ x (_:Unit) κ=>bif (fun x=>win x 0 99) x then κ () else oF) (fun (t:Unit)=>(some [(.one (.b (ieq (ln a0) 4)))])) (fun i hi t rec=>?_) (fun t rec=>?_) _ () (hNN hl)).trans ?_
 .simp only [zbp hi,zY hi,zbc hi,zQ hi hl,cT];exact zf1 rfl
 .simp only [zbg,cF]
 rw[zeG (fun x=>win x 0 99)];refine br (fun h0=>?_) (fun h0=>?_)
 .first|rfl|(simp only [h0,zei,zb0,cT,cF]<;>rfl)|(simp_all [Ty.cells,zei,zb0];done)
 .first|rfl|(simp only [h0,zei,zb0,cT,cF]<;>rfl)|(simp_all [Ty.cells,zei,zb0];done)
theorem zB0:uV 294 zt8:=hF1 zef zq zl zn zIt zGY
def ziO (i:Ins):Bool:=bif (ieq i.Op 1||ieq i.Op 2||ieq i.Op 5||ieq i.Op 6) then win i.X 0 99 else (cond (ieq i.Op 3||ieq i.Op 4) (win i.X 0 15) (cond (ieq i.Op 7) (ieq i.X 0) (cond (ieq i.Op 8) (win i.X 0 11) false)))
@[simp] abbrev zuH (i:Ins):Bool:=true
@[simp] abbrev zqz (i:Ins):Bool:=ziO i
def zwN:Run:=rF1 (dT .ins) fun b=>(zuH b,[aB (zqz b)])
def zDG (N:Nat)(a0:Ins):OA:=
 let y10:=(ieq a0.Op 4);let y9:=(zT a0.X 0 99);let y8:=(aB (zZ a0.X 0 99));let y7:=(ieq a0.Op 8);let y6:=(ieq a0.Op 7);let y5:=(ieq a0.Op 3);let y4:=(zT a0.X 0 11);let y3:=(zT a0.X 0 15);let y2:=(aB (ieq a0.X 0));let y1:=(aB (zZ a0.X 0 11));let y0:=(aB (zZ a0.X 0 15)); (cond (ieq a0.Op 1) (cond (ieq a0.Op 1) (oN y9 (some [y8])) (cond y5 (cond y5 (oN y3 (some [y0])) (cond y6 (some [y2]) (cond y7 (oN y4 (some [y1])) oF))) (cond y10 (oN y3 (some [y0])) (cond y6 (some [y2]) (cond y7 (oN y4 (some [y1])) oF))))) (cond (ieq a0.Op 2) (cond (ieq a0.Op 2) (oN y9 (some [y8])) (cond y5 (cond y5 (oN y3 (some [y0])) (cond y6 (some [y2]) (cond y7 (oN y4 (some [y1])) oF))) (cond y10 (oN y3 (some [y0])) (cond y6 (some [y2]) (cond y7 (oN y4 (some [y1])) oF))))) (cond (ieq a0.Op 5) (cond (ieq a0.Op 5) (oN y9 (some [y8])) (cond y5 (cond y5 (oN y3 (some [y0])) (cond y6 (some [y2]) (cond y7 (oN y4 (some [y1])) oF))) (cond y10 (oN y3 (some [y0])) (cond y6 (some [y2]) (cond y7 (oN y4 (some [y1])) oF))))) (cond (ieq a0.Op 6) (oN y9 (some [y8])) (cond y5 (cond y5 (oN y3 (some [y0])) (cond y6 (some [y2]) (cond y7 (oN y4 (some [y1])) oF))) (cond y10 (oN y3 (some [y0])) (cond y6 (some [y2]) (cond y7 (oN y4 (some [y1])) oF))))))))
theorem zJm (a0:Ins)(hc:zuH a0=true):∃N,zDG N a0=some [aB (zqz a0)]:=by
 refine ⟨0,?_⟩;unfold zDG oN
 conv=>zeta
 refine br (fun _=>br (fun _=>must rfl ?_) (fun _=>br (fun _=>br (fun _=>must rfl ?_) (fun _=>br (fun _=>?_) (fun _=>br (fun _=>must rfl ?_) (fun _=>?_)))) (fun _=>br (fun _=>must rfl ?_) (fun _=>br (fun _=>?_) (fun _=>br (fun _=>must rfl ?_) (fun _=>?_)))))) (fun _=>br (fun _=>br (fun _=>must rfl ?_) (fun _=>br (fun _=>br (fun _=>must rfl ?_) (fun _=>br (fun _=>?_) (fun _=>br (fun _=>must rfl ?_) (fun _=>?_)))) (fun _=>br (fun _=>must rfl ?_) (fun _=>br (fun _=>?_) (fun _=>br (fun _=>must rfl ?_) (fun _=>?_)))))) (fun _=>br (fun _=>br (fun _=>must rfl ?_) (fun _=>br (fun _=>br (fun _=>must rfl ?_) (fun _=>br (fun _=>?_) (fun _=>br (fun _=>must rfl ?_) (fun _=>?_)))) (fun _=>br (fun _=>must rfl ?_) (fun _=>br (fun _=>?_) (fun _=>br (fun _=>must rfl ?_) (fun _=>?_)))))) (fun _=>br (fun _=>must rfl ?_) (fun _=>br (fun _=>br (fun _=>must rfl ?_) (fun _=>br (fun _=>?_) (fun _=>br (fun _=>must rfl ?_) (fun _=>?_)))) (fun _=>br (fun _=>must rfl ?_) (fun _=>br (fun _=>?_) (fun _=>br (fun _=>must rfl ?_) (fun _=>?_))))))))
 all_goals first|rfl|(simp only [*,zqz,ziO,cT,cF]<;>rfl)|simp_all[Ty.cells,zqz,ziO]
theorem zEC:uV 375 zwN:=kF1 zef zq zl zn (zo []) zJm
@[simp] abbrev ztB (i:Ins):Bool:=true
@[simp] abbrev zpX (i:Ins):Bool:=ziO i
def zwG:Run:=rF1 (dT .ins) fun b=>(ztB b,[aB (zpX b)])
def zDz (N:Nat)(a0:Ins):OA:=
 let y10:=(ieq a0.Op 4);let y9:=(zbf a0.X 0 99);let y8:=(aB (zbo a0.X 0 99));let y7:=(ieq a0.Op 8);let y6:=(ieq a0.Op 7);let y5:=(ieq a0.Op 3);let y4:=(zbf a0.X 0 11);let y3:=(zbf a0.X 0 15);let y2:=(aB (ieq a0.X 0));let y1:=(aB (zbo a0.X 0 11));let y0:=(aB (zbo a0.X 0 15)); (cond (ieq a0.Op 1) (cond (ieq a0.Op 1) (oN y9 (some [y8])) (cond y5 (cond y5 (oN y3 (some [y0])) (cond y6 (some [y2]) (cond y7 (oN y4 (some [y1])) oF))) (cond y10 (oN y3 (some [y0])) (cond y6 (some [y2]) (cond y7 (oN y4 (some [y1])) oF))))) (cond (ieq a0.Op 2) (cond (ieq a0.Op 2) (oN y9 (some [y8])) (cond y5 (cond y5 (oN y3 (some [y0])) (cond y6 (some [y2]) (cond y7 (oN y4 (some [y1])) oF))) (cond y10 (oN y3 (some [y0])) (cond y6 (some [y2]) (cond y7 (oN y4 (some [y1])) oF))))) (cond (ieq a0.Op 5) (cond (ieq a0.Op 5) (oN y9 (some [y8])) (cond y5 (cond y5 (oN y3 (some [y0])) (cond y6 (some [y2]) (cond y7 (oN y4 (some [y1])) oF))) (cond y10 (oN y3 (some [y0])) (cond y6 (some [y2]) (cond y7 (oN y4 (some [y1])) oF))))) (cond (ieq a0.Op 6) (oN y9 (some [y8])) (cond y5 (cond y5 (oN y3 (some [y0])) (cond y6 (some [y2]) (cond y7 (oN y4 (some [y1])) oF))) (cond y10 (oN y3 (some [y0])) (cond y6 (some [y2]) (cond y7 (oN y4 (some [y1])) oF))))))))
theorem zJe (a0:Ins)(hc:ztB a0=true):∃N,zDz N a0=some [aB (zpX a0)]:=by
 refine ⟨0,?_⟩;unfold zDz oN
 conv=>zeta
 refine br (fun _=>br (fun _=>must rfl ?_) (fun _=>br (fun _=>br (fun _=>must rfl ?_) (fun _=>br (fun _=>?_) (fun _=>br (fun _=>must rfl ?_) (fun _=>?_)))) (fun _=>br (fun _=>must rfl ?_) (fun _=>br (fun _=>?_) (fun _=>br (fun _=>must rfl ?_) (fun _=>?_)))))) (fun _=>br (fun _=>br (fun _=>must rfl ?_) (fun _=>br (fun _=>br (fun _=>must rfl ?_) (fun _=>br (fun _=>?_) (fun _=>br (fun _=>must rfl ?_) (fun _=>?_)))) (fun _=>br (fun _=>must rfl ?_) (fun _=>br (fun _=>?_) (fun _=>br (fun _=>must rfl ?_) (fun _=>?_)))))) (fun _=>br (fun _=>br (fun _=>must rfl ?_) (fun _=>br (fun _=>br (fun _=>must rfl ?_) (fun _=>br (fun _=>?_) (fun _=>br (fun _=>must rfl ?_) (fun _=>?_)))) (fun _=>br (fun _=>must rfl ?_) (fun _=>br (fun _=>?_) (fun _=>br (fun _=>must rfl ?_) (fun _=>?_)))))) (fun _=>br (fun _=>must rfl ?_) (fun _=>br (fun _=>br (fun _=>must rfl ?_) (fun _=>br (fun _=>?_) (fun _=>br (fun _=>must rfl ?_) (fun _=>?_)))) (fun _=>br (fun _=>must rfl ?_) (fun _=>br (fun _=>?_) (fun _=>br (fun _=>must rfl ?_) (fun _=>?_))))))))
 all_goals first|rfl|(simp only [*,zpX,ziO,cT,cF]<;>rfl)|simp_all[Ty.cells,zpX,ziO]
theorem zEu:uV 372 zwG:=kF1 zef zq zl zn (zo []) zJe
def zlu (e:GExit):Bool:=bif (ieq e.Kind 0||ieq e.Kind 4) then (ieq e.Page 0&&(!e.Write&&ieq e.N 0)) else (cond (ieq e.Kind 1) (win e.Page 0 3&&ieq e.N 0) (cond (ieq e.Kind 2||ieq e.Kind 3) (win e.N 0 99&&(ieq e.Page 0 && !e.Write)) false))
@[simp] theorem zTu (x:Bool):zo6 x false = !x:=by cases x<;>rfl
attribute [simp] zx2
@[simp] abbrev zrA (e:GExit):Bool:=true
@[simp] abbrev znX (e:GExit):Bool:=zlu e
def zuq:Run:=rF1 dE fun b=>(zrA b,[aB (znX b)])
def zy3 (N:Nat)(a0:GExit):OA:=
 let y5:=(zZ a0.N 0 99);let y4:=(zT a0.N 0 99);let y3:=(ieq a0.Kind 2);let y2:=(ieq a0.Page 0);let y1:=(aB (nB a0.Write));let y0:=(aB (cond (ieq a0.Kind a0.Kind) (cond y2 (cond (zo6 a0.Write false) (ieq a0.N 0) false) false) false)); (cond (ieq a0.Kind 0) (cond (ieq a0.Kind 0) (some [y0]) (cond (ieq a0.Kind 1) (oN (zT a0.Page 0 3) (cond (zZ a0.Page 0 3) (some [(aB (ieq a0.N 0))]) oF)) (cond y3 (cond y3 (oN y4 (cond y5 (cond y2 (some [y1]) oF) oF)) oF) (cond (ieq a0.Kind 3) (oN y4 (cond y5 (cond y2 (some [y1]) oF) oF)) oF)))) (cond (ieq a0.Kind 4) (some [y0]) (cond (ieq a0.Kind 1) (oN (zT a0.Page 0 3) (cond (zZ a0.Page 0 3) (some [(aB (ieq a0.N 0))]) oF)) (cond y3 (cond y3 (oN y4 (cond y5 (cond y2 (some [y1]) oF) oF)) oF) (cond (ieq a0.Kind 3) (oN y4 (cond y5 (cond y2 (some [y1]) oF) oF)) oF)))))
theorem zHd (a0:GExit)(hc:zrA a0=true):∃N,zy3 N a0=some [aB (znX a0)]:=by
 refine ⟨0,?_⟩;unfold zy3 oN nB
 conv=>zeta
 refine br (fun _=>br (fun _=>?_) (fun _=>br (fun _=>must rfl (br (fun _=>?_) (fun _=>?_))) (fun _=>br (fun _=>br (fun _=>must rfl (br (fun _=>br (fun _=>?_) (fun _=>?_)) (fun _=>?_))) (fun _=>?_)) (fun _=>br (fun _=>must rfl (br (fun _=>br (fun _=>?_) (fun _=>?_)) (fun _=>?_))) (fun _=>?_))))) (fun _=>br (fun _=>?_) (fun _=>br (fun _=>must rfl (br (fun _=>?_) (fun _=>?_))) (fun _=>br (fun _=>br (fun _=>must rfl (br (fun _=>br (fun _=>?_) (fun _=>?_)) (fun _=>?_))) (fun _=>?_)) (fun _=>br (fun _=>must rfl (br (fun _=>br (fun _=>?_) (fun _=>?_)) (fun _=>?_))) (fun _=>?_)))))
 all_goals first|rfl|(simp only [*,znX,zlu,cT,cF]<;>rfl)|simp_all[Ty.cells,znX,zlu]
theorem zCf:uV 357 zuq:=kF1 zef zq zl zn (zo []) zHd
@[simp] abbrev zq7 (e:GExit):Bool:=true
@[simp] abbrev znz (e:GExit):Bool:=zlu e
def ztY:Run:=rF1 dE fun b=>(zq7 b,[aB (znz b)])
def zyF (N:Nat)(a0:GExit):OA:=
 let y5:=(zbo a0.N 0 99);let y4:=(zbf a0.N 0 99);let y3:=(ieq a0.Kind 2);let y2:=(aB (ieq a0.N 0));let y1:=(ieq a0.Page 0);let y0:=(aB (nB a0.Write)); (cond (ieq a0.Kind 0) (cond (ieq a0.Kind 0) (cond y1 (cond (nB a0.Write) (some [y2]) oF) oF) (cond (ieq a0.Kind 1) (oN (zbf a0.Page 0 3) (cond (zbo a0.Page 0 3) (some [y2]) oF)) (cond y3 (cond y3 (oN y4 (cond y5 (cond y1 (some [y0]) oF) oF)) oF) (cond (ieq a0.Kind 3) (oN y4 (cond y5 (cond y1 (some [y0]) oF) oF)) oF)))) (cond (ieq a0.Kind 4) (cond y1 (cond (nB a0.Write) (some [y2]) oF) oF) (cond (ieq a0.Kind 1) (oN (zbf a0.Page 0 3) (cond (zbo a0.Page 0 3) (some [y2]) oF)) (cond y3 (cond y3 (oN y4 (cond y5 (cond y1 (some [y0]) oF) oF)) oF) (cond (ieq a0.Kind 3) (oN y4 (cond y5 (cond y1 (some [y0]) oF) oF)) oF)))))
theorem zGO (a0:GExit)(hc:zq7 a0=true):∃N,zyF N a0=some [aB (znz a0)]:=by
 refine ⟨0,?_⟩;unfold zyF oN nB
 conv=>zeta
 refine br (fun _=>br (fun _=>br (fun _=>brN (fun _=>?_) (fun _=>?_)) (fun _=>?_)) (fun _=>br (fun _=>must rfl (br (fun _=>?_) (fun _=>?_))) (fun _=>br (fun _=>br (fun _=>must rfl (br (fun _=>br (fun _=>?_) (fun _=>?_)) (fun _=>?_))) (fun _=>?_)) (fun _=>br (fun _=>must rfl (br (fun _=>br (fun _=>?_) (fun _=>?_)) (fun _=>?_))) (fun _=>?_))))) (fun _=>br (fun _=>br (fun _=>brN (fun _=>?_) (fun _=>?_)) (fun _=>?_)) (fun _=>br (fun _=>must rfl (br (fun _=>?_) (fun _=>?_))) (fun _=>br (fun _=>br (fun _=>must rfl (br (fun _=>br (fun _=>?_) (fun _=>?_)) (fun _=>?_))) (fun _=>?_)) (fun _=>br (fun _=>must rfl (br (fun _=>br (fun _=>?_) (fun _=>?_)) (fun _=>?_))) (fun _=>?_)))))
 all_goals first|rfl|(simp only [*,znz,zlu,cT,cF]<;>rfl)|simp_all[Ty.cells,znz,zlu]
theorem zBQ:uV 349 ztY:=kF1 zef zq zl zn (zo []) zGO
def zg0 (c:Ctl):List Int:=(cond (win c.Traps 0 3) [] [1])++((cond (win c.Post 0 255) [] [2])++((cond (ine c.Post 0) (cond c.Open [] [3]) [])++(cond (ieq c.Traps 2) (cond (ine c.Post 0) [4] []) [])))
@[simp] theorem zTr {α:Type}(x:α)(l m:List α):ap (x :: l) m=x :: ap l m:=rfl
@[simp] abbrev zmi (c:Ctl):Bool:=true
@[simp] abbrev ziB (c:Ctl):List Int:=zg0 c
def zoL:Run:=rF1 dC fun b=>(zmi b,[aS .int (ziB b)])
def zr3 (N:Nat)(a0:Ctl):OA:=
 let y10:=(aS .int []);let y8:=(ap (ap [] [2]) [4]);let y7:=(ap (ap [] [1]) [4]);let y6:=(aS .int (ap [] [2]));let y5:=(aS .int (ap [] [1]));let y4:=(ap (ap [] [2]) [3]);let y3:=(ap (ap [] [1]) [3]);let y2:=(ieq a0.Traps 2);let y1:=(ine a0.Post 0);let y0:=(ap (ap [] [1]) [2]);let y9:=(aS .int y0); (oN (zT a0.Traps 0 3) (cond (nB (zZ a0.Traps 0 3)) (oN (few (ln (ap [] [1]))) (oN (zT a0.Post 0 255) (cond (nB (zZ a0.Post 0 255)) (oN (few (ln y0)) (cond y1 (cond (nB a0.Open) (oN (few (ln (ap y0 [3]))) (cond y2 (cond y1 (oN (few (ln (ap (ap y0 [3]) [4]))) (some [(aS .int (ap (ap y0 [3]) [4]))])) (some [(aS .int (ap y0 [3]))])) (some [(aS .int (ap y0 [3]))]))) (cond y2 (cond y1 (oN (few (ln (ap y0 [4]))) (some [(aS .int (ap y0 [4]))])) (some [y9])) (some [y9]))) (cond y2 (cond y1 (oN (few (ln (ap y0 [4]))) (some [(aS .int (ap y0 [4]))])) (some [y9])) (some [y9])))) (cond y1 (cond (nB a0.Open) (oN (few (ln y3)) (cond y2 (cond y1 (oN (few (ln (ap y3 [4]))) (some [(aS .int (ap y3 [4]))])) (some [(aS .int y3)])) (some [(aS .int y3)]))) (cond y2 (cond y1 (oN (few (ln y7)) (some [(aS .int y7)])) (some [y5])) (some [y5]))) (cond y2 (cond y1 (oN (few (ln y7)) (some [(aS .int y7)])) (some [y5])) (some [y5])))))) (oN (zT a0.Post 0 255) (cond (nB (zZ a0.Post 0 255)) (oN (few (ln (ap [] [2]))) (cond y1 (cond (nB a0.Open) (oN (few (ln y4)) (cond y2 (cond y1 (oN (few (ln (ap y4 [4]))) (some [(aS .int (ap y4 [4]))])) (some [(aS .int y4)])) (some [(aS .int y4)]))) (cond y2 (cond y1 (oN (few (ln y8)) (some [(aS .int y8)])) (some [y6])) (some [y6]))) (cond y2 (cond y1 (oN (few (ln y8)) (some [(aS .int y8)])) (some [y6])) (some [y6])))) (cond y1 (cond (nB a0.Open) (oN (few (ln (ap [] [3]))) (cond y2 (cond y1 (oN (few (ln (ap (ap [] [3]) [4]))) (some [(aS .int (ap (ap [] [3]) [4]))])) (some [(aS .int (ap [] [3]))])) (some [(aS .int (ap [] [3]))]))) (cond y2 (cond y1 (oN (few (ln (ap [] [4]))) (some [(aS .int (ap [] [4]))])) (some [y10])) (some [y10]))) (cond y2 (cond y1 (oN (few (ln (ap [] [4]))) (some [(aS .int (ap [] [4]))])) (some [y10])) (some [y10])))))))
theorem zAu (a0:Ctl)(hc:zmi a0=true):∃N,zr3 N a0=some [aS .int (ziB a0)]:=by
 refine ⟨0,?_⟩;unfold zr3 oN nB
 conv=>zeta
 refine must rfl (brN (fun _=>mu (must rfl (brN (fun _=>mu (br (fun _=>brN (fun _=>mu (br (fun _=>br (fun _=>mu ?_) (fun _=>?_)) (fun _=>?_))) (fun _=>br (fun _=>br (fun _=>mu ?_) (fun _=>?_)) (fun _=>?_))) (fun _=>br (fun _=>br (fun _=>mu ?_) (fun _=>?_)) (fun _=>?_)))) (fun _=>br (fun _=>brN (fun _=>mu (br (fun _=>br (fun _=>mu ?_) (fun _=>?_)) (fun _=>?_))) (fun _=>br (fun _=>br (fun _=>mu ?_) (fun _=>?_)) (fun _=>?_))) (fun _=>br (fun _=>br (fun _=>mu ?_) (fun _=>?_)) (fun _=>?_)))))) (fun _=>must rfl (brN (fun _=>mu (br (fun _=>brN (fun _=>mu (br (fun _=>br (fun _=>mu ?_) (fun _=>?_)) (fun _=>?_))) (fun _=>br (fun _=>br (fun _=>mu ?_) (fun _=>?_)) (fun _=>?_))) (fun _=>br (fun _=>br (fun _=>mu ?_) (fun _=>?_)) (fun _=>?_)))) (fun _=>br (fun _=>brN (fun _=>mu (br (fun _=>br (fun _=>mu ?_) (fun _=>?_)) (fun _=>?_))) (fun _=>br (fun _=>br (fun _=>mu ?_) (fun _=>?_)) (fun _=>?_))) (fun _=>br (fun _=>br (fun _=>mu ?_) (fun _=>?_)) (fun _=>?_))))))
 all_goals first|rfl|(simp only [*,ziB,zg0,cT,cF]<;>rfl)|simp_all[Ty.cells,ziB,zg0]
theorem zvJ:uV 320 zoL:=kF1 zef zq zl zn (zo []) zAu
@[simp] abbrev zlY (c:Ctl):Bool:=true
@[simp] abbrev zim (c:Ctl):List Int:=zg0 c
def zoA:Run:=rF1 dC fun b=>(zlY b,[aS .int (zim b)])
def zrT (N:Nat)(a0:Ctl):OA:=
 let y10:=(aS .int []);let y8:=(ap (ap [] [2]) [4]);let y7:=(ap (ap [] [1]) [4]);let y6:=(aS .int (ap [] [2]));let y5:=(aS .int (ap [] [1]));let y4:=(ap (ap [] [2]) [3]);let y3:=(ap (ap [] [1]) [3]);let y2:=(ieq a0.Traps 2);let y1:=(ine a0.Post 0);let y0:=(ap (ap [] [1]) [2]);let y9:=(aS .int y0); (oN (zbf a0.Traps 0 3) (cond (nB (zbo a0.Traps 0 3)) (oN (few (ln (ap [] [1]))) (oN (zbf a0.Post 0 255) (cond (nB (zbo a0.Post 0 255)) (oN (few (ln y0)) (cond y1 (cond (nB a0.Open) (oN (few (ln (ap y0 [3]))) (cond y2 (cond y1 (oN (few (ln (ap (ap y0 [3]) [4]))) (some [(aS .int (ap (ap y0 [3]) [4]))])) (some [(aS .int (ap y0 [3]))])) (some [(aS .int (ap y0 [3]))]))) (cond y2 (cond y1 (oN (few (ln (ap y0 [4]))) (some [(aS .int (ap y0 [4]))])) (some [y9])) (some [y9]))) (cond y2 (cond y1 (oN (few (ln (ap y0 [4]))) (some [(aS .int (ap y0 [4]))])) (some [y9])) (some [y9])))) (cond y1 (cond (nB a0.Open) (oN (few (ln y3)) (cond y2 (cond y1 (oN (few (ln (ap y3 [4]))) (some [(aS .int (ap y3 [4]))])) (some [(aS .int y3)])) (some [(aS .int y3)]))) (cond y2 (cond y1 (oN (few (ln y7)) (some [(aS .int y7)])) (some [y5])) (some [y5]))) (cond y2 (cond y1 (oN (few (ln y7)) (some [(aS .int y7)])) (some [y5])) (some [y5])))))) (oN (zbf a0.Post 0 255) (cond (nB (zbo a0.Post 0 255)) (oN (few (ln (ap [] [2]))) (cond y1 (cond (nB a0.Open) (oN (few (ln y4)) (cond y2 (cond y1 (oN (few (ln (ap y4 [4]))) (some [(aS .int (ap y4 [4]))])) (some [(aS .int y4)])) (some [(aS .int y4)]))) (cond y2 (cond y1 (oN (few (ln y8)) (some [(aS .int y8)])) (some [y6])) (some [y6]))) (cond y2 (cond y1 (oN (few (ln y8)) (some [(aS .int y8)])) (some [y6])) (some [y6])))) (cond y1 (cond (nB a0.Open) (oN (few (ln (ap [] [3]))) (cond y2 (cond y1 (oN (few (ln (ap (ap [] [3]) [4]))) (some [(aS .int (ap (ap [] [3]) [4]))])) (some [(aS .int (ap [] [3]))])) (some [(aS .int (ap [] [3]))]))) (cond y2 (cond y1 (oN (few (ln (ap [] [4]))) (some [(aS .int (ap [] [4]))])) (some [y10])) (some [y10]))) (cond y2 (cond y1 (oN (few (ln (ap [] [4]))) (some [(aS .int (ap [] [4]))])) (some [y10])) (some [y10])))))))
theorem zAj (a0:Ctl)(hc:zlY a0=true):∃N,zrT N a0=some [aS .int (zim a0)]:=by
 refine ⟨0,?_⟩;unfold zrT oN nB
 conv=>zeta
 refine must rfl (brN (fun _=>mu (must rfl (brN (fun _=>mu (br (fun _=>brN (fun _=>mu (br (fun _=>br (fun _=>mu ?_) (fun _=>?_)) (fun _=>?_))) (fun _=>br (fun _=>br (fun _=>mu ?_) (fun _=>?_)) (fun _=>?_))) (fun _=>br (fun _=>br (fun _=>mu ?_) (fun _=>?_)) (fun _=>?_)))) (fun _=>br (fun _=>brN (fun _=>mu (br (fun _=>br (fun _=>mu ?_) (fun _=>?_)) (fun _=>?_))) (fun _=>br (fun _=>br (fun _=>mu ?_) (fun _=>?_)) (fun _=>?_))) (fun _=>br (fun _=>br (fun _=>mu ?_) (fun _=>?_)) (fun _=>?_)))))) (fun _=>must rfl (brN (fun _=>mu (br (fun _=>brN (fun _=>mu (br (fun _=>br (fun _=>mu ?_) (fun _=>?_)) (fun _=>?_))) (fun _=>br (fun _=>br (fun _=>mu ?_) (fun _=>?_)) (fun _=>?_))) (fun _=>br (fun _=>br (fun _=>mu ?_) (fun _=>?_)) (fun _=>?_)))) (fun _=>br (fun _=>brN (fun _=>mu (br (fun _=>br (fun _=>mu ?_) (fun _=>?_)) (fun _=>?_))) (fun _=>br (fun _=>br (fun _=>mu ?_) (fun _=>?_)) (fun _=>?_))) (fun _=>br (fun _=>br (fun _=>mu ?_) (fun _=>?_)) (fun _=>?_))))))
 all_goals first|rfl|(simp only [*,zim,zg0,cT,cF]<;>rfl)|simp_all[Ty.cells,zim,zg0]
theorem zvy:uV 353 zoA:=kF1 zef zq zl zn (zo []) zAj
def len8tab:ByteArray:=⟨⟨[0,1,2,2,3,3,3,3,4,4,4,4,4,4,4,4,5,5,5,5,5,5,5,5,5,5,5,5,5,5,5,5,6,6,6,6,6,6,6,6,6,6,6,6,6,6,6,6,6,6,6,6,6,6,6,6,6,6,6,6,6,6,6,6,7,7,7,7,7,7,7,7,7,7,7,7,7,7,7,7,7,7,7,7,7,7,7,7,7,7,7,7,7,7,7,7,7,7,7,7,7,7,7,7,7,7,7,7,7,7,7,7,7,7,7,7,7,7,7,7,7,7,7,7,7,7,7,7,8,8,8,8,8,8,8,8,8,8,8,8,8,8,8,8,8,8,8,8,8,8,8,8,8,8,8,8,8,8,8,8,8,8,8,8,8,8,8,8,8,8,8,8,8,8,8,8,8,8,8,8,8,8,8,8,8,8,8,8,8,8,8,8,8,8,8,8,8,8,8,8,8,8,8,8,8,8,8,8,8,8,8,8,8,8,8,8,8,8,8,8,8,8,8,8,8,8,8,8,8,8,8,8,8,8,8,8,8,8,8,8,8,8,8,8,8,8,8,8,8,8,8,8,8,8,8,8]⟩⟩
def zte (p n:Int):Bool:=ieq (wand .i64 (zie .i64 p n) 1) 1
def scan (p:Int):Int:=bif zte p 7 then 7 else (cond (zte p 6) 6 (cond (zte p 5) 5 (cond (zte p 4) 4 (cond (zte p 3) 3 (cond (zte p 2) 2 (cond (zte p 1) 1 (cond (zte p 0) 0 (-1))))))))
theorem zPd:∀n:Fin 256,zB .i64 0 (wcv .i64 (byteAt len8tab (wcv .u8 (n.val:Int))))=scan (n.val:Int)+1:=by decide +kernel
theorem zIa:∀n:Fin 256,-1<=scan (n.val:Int)/\scan (n.val:Int)<=7/\(0<=scan (n.val:Int)->wsub .i64 (n.val:Int) (zmp .i64 1 (scan (n.val:Int)))=zrQ .i64 (n.val:Int) (zmp .i64 1 (scan (n.val:Int)))):=by decide +kernel
theorem ztP {P:Int->Prop}(h:∀n:Fin 256,P (n.val:Int)){x:Int}(h0:0<=x)(h1:x<=255):P x:=by
 have:=h ⟨x.toNat,by omega⟩
 have e:((x.toNat:Nat):Int)=x:=by omega
 simpa [e] using this
def zif (x:Int):Bool:=pc (0<=x/\x<=255)
def zfv (x:Int):Int:=scan x+1
def ze1:List AV->Option (Bool×List AV)
 | [.one (.i .u64 b)]=>some ((zif b),[aI (zfv b)])
 | _=>none
def zh9 (N:Nat)(a0:Int):OA:=
 let y2:=(zie .u64 a0 16);let y0:=(zie .u64 a0 32);let y1:=(zie .u64 y0 16); (cond (ige a0 4294967296) (oN (ile 0 32) (cond (ige y0 65536) (oN (ile 0 16) (cond (ige y1 256) (oN (ile 0 8) (oN (inb (wcv .u8 (zie .u64 y1 8)) 256) (some [(aI (zB .i64 (zB .i64 (zB .i64 32 16) 8) (wcv .i64 (byteAt len8tab (wcv .u8 (zie .u64 y1 8))))))]))) (oN (inb (wcv .u8 y1) 256) (some [(aI (zB .i64 (zB .i64 32 16) (wcv .i64 (byteAt len8tab (wcv .u8 y1)))))])))) (cond (ige y0 256) (oN (ile 0 8) (oN (inb (wcv .u8 (zie .u64 y0 8)) 256) (some [(aI (zB .i64 (zB .i64 32 8) (wcv .i64 (byteAt len8tab (wcv .u8 (zie .u64 y0 8))))))]))) (oN (inb (wcv .u8 y0) 256) (some [(aI (zB .i64 32 (wcv .i64 (byteAt len8tab (wcv .u8 y0)))))]))))) (cond (ige a0 65536) (oN (ile 0 16) (cond (ige y2 256) (oN (ile 0 8) (oN (inb (wcv .u8 (zie .u64 y2 8)) 256) (some [(aI (zB .i64 (zB .i64 (zB .i64 0 16) 8) (wcv .i64 (byteAt len8tab (wcv .u8 (zie .u64 y2 8))))))]))) (oN (inb (wcv .u8 y2) 256) (some [(aI (zB .i64 (zB .i64 0 16) (wcv .i64 (byteAt len8tab (wcv .u8 y2)))))])))) (cond (ige a0 256) (oN (ile 0 8) (oN (inb (wcv .u8 (zie .u64 a0 8)) 256) (some [(aI (zB .i64 (zB .i64 0 8) (wcv .i64 (byteAt len8tab (wcv .u8 (zie .u64 a0 8))))))]))) (oN (inb (wcv .u8 a0) 256) (some [(aI (zB .i64 0 (wcv .i64 (byteAt len8tab (wcv .u8 a0)))))])))))
theorem ztO (N:Nat)(a0:Int):evalFn (cQ zKS zjX zyh zgM) (zo []) N 12 371 [.one (.i .u64 a0)]=zh9 N a0:=by kernel_rfl
theorem zsG (a0:Int)(hb:zbu big [.one (.i .u64 a0)])(hc:zif a0=true):∃N,zh9 N a0=some [aI (zfv a0)]:=by
 obtain ⟨h0,h1⟩:=zC.1 hc;refine ⟨0,?_⟩;unfold zh9 oN
 conv=>zeta
 refine ze0 (qK (by omega)) ?_
 refine ze0 (qK (by omega)) ?_
 refine ze0 (qK (by omega)) ?_
 have e:inb (wcv .u8 a0) 256=true:=ztP (P:=fun x=>inb (wcv .u8 x) 256=true) (by decide +kernel) h0 h1
 refine must e ?_;have e2:=ztP (P:=fun x=>zB .i64 0 (wcv .i64 (byteAt len8tab (wcv .u8 x)))=scan x+1) zPd h0 h1;rw[e2];rfl
theorem zjm:uV 371 ze1:=zGw zef zq zl zn (zcX (by kernel_rfl)) fun avs rs hb h=>by
 unfold ze1 at h;split at h
 .obtain ⟨hc,rfl⟩:=zhu h;exact (zsG _ hb hc).elim fun N e=>⟨zo [],N,(ztO N _).trans e⟩
 .cases h
def zP9:zK:=[(356,zsv),(295,zsm),(358,zux),(294,zt8),(375,zwN),(372,zwG),(357,zuq),(349,ztY),(320,zoL),(353,zoA),(371,ze1)]++zKS
theorem zeg:zx zP9:=zh zz2 (zh zzT (zh zCm (zh zB0 (zh zEC (zh zEu (zh zCf (zh zBQ (zh zvJ (zh zvy (zh zjm zef))))))))))
def zgb (m:List (List Int))(n:Int):Bool:=bif m.all zb0 then ieq (ln m) n else false
@[simp] abbrev zuI (m:List (List Int))(n:Int):Bool:=true
@[simp] abbrev zkQ (m:List (List Int))(n:Int):Bool:=zgb m n
def zwO:Run:=rF2 (dS (.sl .int)) dI fun b c=>(zuI b c,[aB (zkQ b c)])
def zDH (N:Nat)(a0:lM)(a1:Int):OA:=
 (iter (σ:=(Int×(Int×(lM×Unit)))) N (fun r3 s4=>let y0:=s4.2.2.1; (cond (ilt s4.2.1 (ln y0)) (oN (inb s4.2.1 (ln y0)) (oN (zdU (ix y0 s4.2.1 [])) (cond (nB (zdu (ix y0 s4.2.1 []))) oF (r3 (s4.1,((zB .i64 s4.2.1 1),(y0,()))))))) (some [(aB (ieq (ln y0) s4.1))]))) (a1,(0,(a0,()))))
def zJS:FuncId->Nat->Option Tmpl:=zo [(313,0,{ n:=22,tm:=[(0,.sl 0 []),(1,ti),(5,ti)],lo:=[],ro:=[(0,(.sl .int),false)] })]
theorem zJn (a0:List (List Int))(a1:Int)(hb:zbu big [aS (.sl .int) a0,aI a1])(hc:zuI a0 a1=true):∃N,zDH N a0 a1=some [aB (zkQ a0 a1)]:=by
 have hl:(_:List _).length<=big:=((zcy hb).1 _ (qE.2 rfl)).len;refine zbN fun N hNN=>?_;unfold zDH oN nB
 conv=>zeta
 refine (zW a0 (fun i (t:Unit)=>(a1,(i:Int),a0,())) _ (fun _ x (_:Unit) κ=>bif (zb0) x then κ () else oF) (fun (t:Unit)=>(some [(.one (.b (ieq (ln a0) a1)))])) (fun i hi t rec=>?_) (fun t rec=>?_) _ () (hNN hl)).trans ?_
 .simp only [zbp hi,zY hi,zbc hi,zQ hi hl,cT];exact zf1 rfl
 .simp only [zbg,cF]
 rw[zeG (zb0)];refine br (fun h0=>?_) (fun h0=>?_)
 .first|rfl|(simp only [h0,zkQ,zgb,cT,cF]<;>rfl)|(simp_all [Ty.cells,zkQ,zgb];done)
 .first|rfl|(simp only [h0,zkQ,zgb,cT,cF]<;>rfl)|(simp_all [Ty.cells,zkQ,zgb];done)
theorem zED:uV 313 zwO:=hF2 zeg zq zl zn zJS zJn
@[simp] abbrev zly (m:List (List Int))(n:Int):Bool:=true
@[simp] abbrev zhQ (m:List (List Int))(n:Int):Bool:=zgb m n
def zwH:Run:=rF2 (dS (.sl .int)) dI fun b c=>(zly b c,[aB (zhQ b c)])
def zDA (N:Nat)(a0:lM)(a1:Int):OA:=
 (iter (σ:=(Int×(Int×(Int×(lM×Unit))))) N (fun r3 s4=>let y0:=s4.2.2.2.1; (cond (ilt s4.2.2.1 s4.2.1) (oN (inb s4.2.2.1 (ln y0)) (oN (zfj (ix y0 s4.2.2.1 [])) (cond (nB (zei (ix y0 s4.2.2.1 []))) oF (r3 (s4.1,(s4.2.1,((zB .i64 s4.2.2.1 1),(y0,())))))))) (some [(aB (ieq (ln y0) s4.1))]))) (a1,((ln a0),(0,(a0,())))))
def zJQ:FuncId->Nat->Option Tmpl:=zo [(180,0,{ n:=21,tm:=[(0,.sl 0 []),(1,ti),(7,.sl 0 []),(8,ti),(9,ti)],lo:=[],ro:=[(0,(.sl .int),false)] })]
theorem zJf (a0:List (List Int))(a1:Int)(hb:zbu big [aS (.sl .int) a0,aI a1])(hc:zly a0 a1=true):∃N,zDA N a0 a1=some [aB (zhQ a0 a1)]:=by
 have hl:(_:List _).length<=big:=((zcy hb).1 _ (qE.2 rfl)).len;refine zbN fun N hNN=>?_;unfold zDA oN nB
 conv=>zeta
 refine (zW a0 (fun i (t:Unit)=>(a1,(ln a0),(i:Int),a0,())) _ (fun _ x (_:Unit) κ=>bif (zb0) x then κ () else oF) (fun (t:Unit)=>(some [(.one (.b (ieq (ln a0) a1)))])) (fun i hi t rec=>?_) (fun t rec=>?_) _ () (hNN hl)).trans ?_
 .simp only [zbp hi,zY hi,zbc hi,zQ hi hl,cT];exact zf1 rfl
 .simp only [zbg,cF]
 rw[zeG (zb0)];refine br (fun h0=>?_) (fun h0=>?_)
 .first|rfl|(simp only [h0,zhQ,zgb,cT,cF]<;>rfl)|(simp_all [Ty.cells,zhQ,zgb];done)
 .first|rfl|(simp only [h0,zhQ,zgb,cT,cF]<;>rfl)|(simp_all [Ty.cells,zhQ,zgb];done)
theorem zEv:uV 180 zwH:=hF2 zeg zq zl zn zJQ zJf
def zeX (p:List Ins):Bool:=bif p.all ziO then win (ln p) 1 12 else false
@[simp] abbrev zrG (p:List Ins):Bool:=true
@[simp] abbrev zjd (p:List Ins):Bool:=zeX p
def zuz:Run:=rF1 (dS .ins) fun b=>(zrG b,[aB (zjd b)])
def zzc (N:Nat)(a0:lI):OA:=
 (iter (σ:=(Int×(lI×Unit))) N (fun r2 s3=>let y0:=(ix s3.2.1 s3.1 zBo); (cond (ilt s3.1 (ln s3.2.1)) (oN (inb s3.1 (ln s3.2.1)) (oN (zuH y0) (cond (nB (zqz y0)) oF (r2 ((zB .i64 s3.1 1),(s3.2.1,())))))) (oN (zT (ln s3.2.1) 1 12) (some [(aB (zZ (ln s3.2.1) 1 12))])))) (0,(a0,())))
def zID:FuncId->Nat->Option Tmpl:=zo [(355,0,{ n:=19,tm:=[(0,.sl 0 []),(3,ti)],lo:=[],ro:=[(0,.ins,false)] })]
theorem zHo (a0:List Ins)(hb:zbu big [aS .ins a0])(hc:zrG a0=true):∃N,zzc N a0=some [aB (zjd a0)]:=by
 have hl:(_:List _).length<=big:=((zcy hb).1 _ (qE.2 rfl)).len;refine zbN fun N hNN=>?_;unfold zzc oN nB
 conv=>zeta
 refine (zW a0 (fun i (t:Unit)=>((i:Int),a0,())) _ (fun _ x (_:Unit) κ=>bif (ziO) x then κ () else oF) (fun (t:Unit)=>(cond (zT (ln a0) 1 12) (some [(.one (.b (zZ (ln a0) 1 12)))]) none)) (fun i hi t rec=>?_) (fun t rec=>?_) _ () (hNN hl)).trans ?_
 .simp only [zbp hi,zY hi,zbc hi,zQ hi hl,cT];exact zf1 rfl
 .simp only [zbg,cF]
 rw[zeG (ziO)];refine br (fun h0=>?_) (fun h0=>?_)
 .refine must rfl ?_
  first|rfl|(simp only [h0,zjd,zeX,cT,cF]<;>rfl)|(simp_all [Ty.cells,zjd,zeX];done)
 .first|rfl|(simp only [h0,zjd,zeX,cT,cF]<;>rfl)|(simp_all [Ty.cells,zjd,zeX];done)
theorem zCo:uV 355 zuz:=hF1 zeg zq zl zn zID zHo
@[simp] abbrev zre (p:List Ins):Bool:=true
@[simp] abbrev zi4 (p:List Ins):Bool:=zeX p
def zua:Run:=rF1 (dS .ins) fun b=>(zre b,[aB (zi4 b)])
def zyQ (N:Nat)(a0:lI):OA:=
 (iter (σ:=(Int×(Int×(lI×Unit)))) N (fun r2 s3=>let y0:=(ix s3.2.2.1 s3.2.1 zBo); (cond (ilt s3.2.1 s3.1) (oN (inb s3.2.1 (ln s3.2.2.1)) (oN (ztB y0) (cond (nB (zpX y0)) oF (r2 (s3.1,((zB .i64 s3.2.1 1),(s3.2.2.1,()))))))) (oN (zbf (ln s3.2.2.1) 1 12) (some [(aB (zbo (ln s3.2.2.1) 1 12))])))) ((ln a0),(0,(a0,()))))
def zIu:FuncId->Nat->Option Tmpl:=zo [(348,0,{ n:=18,tm:=[(0,.sl 0 []),(5,.sl 0 []),(6,ti),(7,ti)],lo:=[],ro:=[(0,.ins,false)] })]
theorem zG0 (a0:List Ins)(hb:zbu big [aS .ins a0])(hc:zre a0=true):∃N,zyQ N a0=some [aB (zi4 a0)]:=by
 have hl:(_:List _).length<=big:=((zcy hb).1 _ (qE.2 rfl)).len;refine zbN fun N hNN=>?_;unfold zyQ oN nB
 conv=>zeta
 refine (zW a0 (fun i (t:Unit)=>((ln a0),(i:Int),a0,())) _ (fun _ x (_:Unit) κ=>bif (ziO) x then κ () else oF) (fun (t:Unit)=>(cond (zbf (ln a0) 1 12) (some [(.one (.b (zbo (ln a0) 1 12)))]) none)) (fun i hi t rec=>?_) (fun t rec=>?_) _ () (hNN hl)).trans ?_
 .simp only [zbp hi,zY hi,zbc hi,zQ hi hl,cT];exact zf1 rfl
 .simp only [zbg,cF]
 rw[zeG (ziO)];refine br (fun h0=>?_) (fun h0=>?_)
 .refine must rfl ?_
  first|rfl|(simp only [h0,zi4,zeX,cT,cF]<;>rfl)|(simp_all [Ty.cells,zi4,zeX];done)
 .first|rfl|(simp only [h0,zi4,zeX,cT,cF]<;>rfl)|(simp_all [Ty.cells,zi4,zeX];done)
theorem zB2:uV 348 zua:=hF1 zeg zq zl zn zIu zG0
def zoh (c:Ctl):Bool:=ieq (ln (zg0 c)) 0
@[simp] abbrev zuG (c:Ctl):Bool:=true
@[simp] abbrev zqw (c:Ctl):Bool:=zoh c
def zwM:Run:=rF1 dC fun b=>(zuG b,[aB (zqw b)])
def zDF (N:Nat)(a0:Ctl):OA:=
 (oN (zmi a0) (some [(aB (ieq (ln (ziB a0)) 0))]))
theorem zJl (a0:Ctl)(hc:zuG a0=true):∃N,zDF N a0=some [aB (zqw a0)]:=by
 refine ⟨0,?_⟩;unfold zDF oN;refine must rfl ?_
 first|rfl|(simp only [*,zqw,zoh,cT,cF]<;>rfl)|simp_all[Ty.cells,zqw,zoh]
theorem zEB:uV 229 zwM:=kF1 zeg zq zl zn (zo []) zJl
@[simp] abbrev ztA (c:Ctl):Bool:=true
@[simp] abbrev zpW (c:Ctl):Bool:=zoh c
def zwE:Run:=rF1 dC fun b=>(ztA b,[aB (zpW b)])
def zDx (N:Nat)(a0:Ctl):OA:=
 (oN (zlY a0) (some [(aB (ieq (ln (zim a0)) 0))]))
theorem zJc (a0:Ctl)(hc:ztA a0=true):∃N,zDx N a0=some [aB (zpW a0)]:=by
 refine ⟨0,?_⟩;unfold zDx oN;refine must rfl ?_
 first|rfl|(simp only [*,zpW,zoh,cT,cF]<;>rfl)|simp_all[Ty.cells,zpW,zoh]
theorem zEs:uV 305 zwE:=kF1 zeg zq zl zn (zo []) zJc
def zeq (p:Int):Int:=bif zdE p then scan p else -1
theorem zKD {x:Int}(h0:0<=x)(h1:x<=255):wcv .u64 x=x:=ztP (P:=fun x=>wcv .u64 x=x) (by decide +kernel) h0 h1
@[simp] abbrev zmH (p:Int):Bool:=true
@[simp] abbrev zi6 (p:Int):Int:=zeq p
def zuj:Run:=rF1 dI fun b=>(zmH b,[aI (zi6 b)])
def zyW (N:Nat)(a0:Int):OA:=
 (oN (zf5 a0) (cond (nB (zf4 a0)) (some [(aI (-1))]) (oN (zif (wcv .u64 a0)) (some [(aI (wsub .i64 (zfv (wcv .u64 a0)) 1))]))))
theorem zG6 (a0:Int)(hc:zmH a0=true):∃N,zyW N a0=some [aI (zi6 a0)]:=by
 refine ⟨0,?_⟩;unfold zyW oN nB;refine must rfl ?_;cases h:zdE a0
 .refine must (by simp[h]) ?_
  simp[zeq,h]
 .obtain ⟨h0,h1⟩:=zep.1 h;have r:=ztP (P:=fun x=>-1<=scan x/\scan x<=7/\(0<=scan x->wsub .i64 x (zmp .i64 1 (scan x))=zrQ .i64 x (zmp .i64 1 (scan x)))) zIa h0 h1;refine ze0 (by simp[h]) ?_
  rw[zKD h0 h1];refine must (zbF ⟨h0,h1⟩) ?_;have e:wsub .i64 (zfv a0) 1=scan a0:=by
   unfold zfv;rw[znh (by omega) (by omega)];omega
  rw[e];simp[zeq,h]
theorem zB8:uV 342 zuj:=kF1 zeg zq zl zn (zo []) zG6
@[simp] abbrev zdS (l:List (List Int)):Bool:=pc (SmM l)
@[simp] abbrev zck (l:List (List Int)):List (List Int):=l
def zso:Run:=rF1 (dS (.sl .int)) fun b=>(zdS b,[aS (.sl .int) (zck b)])
def zv7 (N:Nat)(a0:lM):OA:=
 (iter (σ:=(Int×(Int×(lM×(lM×Unit))))) N (fun r2 s3=>let y0:=(ix s3.2.2.2.1 s3.2.1 []); (cond (ilt s3.2.1 s3.1) (oN (inb s3.2.1 (ln s3.2.2.2.1)) (oN (zcq y0) (oN (few (ln (ap s3.2.2.1 [(zcm y0)]))) (r2 (s3.1,((zB .i64 s3.2.1 1),((ap s3.2.2.1 [(zcm y0)]),(s3.2.2.2.1,())))))))) (some [(aS (.sl .int) s3.2.2.1)]))) ((ln a0),(0,([],(a0,())))))
def zFl:FuncId->Nat->Option Tmpl:=zo [(158,0,{ n:=20,tm:=[(3,.sl 0 []),(7,.sl 1 []),(8,ti),(9,ti)],lo:=[],ro:=[(0,(.sl .int),true),(1,(.sl .int),false)] })]
theorem zEU (a0:List (List Int))(hc:zdS a0=true):∃N,zv7 N a0=some [aS (.sl .int) (zck a0)]:=by
 have hs:=zC.1 hc;have hl:=zci hs.1;refine zbN fun N hNN=>?_;unfold zv7 oN
 conv=>zeta
 refine (zW a0 (fun i (t:lM)=>((ln a0),(i:Int),t,a0,())) _ (fun _ x acc κ=>bif zcq x then (cond (few (ln (ap acc [zcm x]))) (κ (ap acc [zcm x])) none) else none) (fun (t:lM)=>(some [(.one (.s (.sl .int) t))])) (fun i hi t rec=>?_) (fun t rec=>?_) _ ([]) (hNN hl.1)).trans ?_
 .simp only [zbp hi,zY hi,zbc hi,zQ hi hl.1,cT]
 .simp only [zbg,cF]
 exact zgV zcq zcm _ a0 0 [] (fun x hx=>⟨by exact zbF (jF (hs.2 x hx) (by decide)),rfl⟩) (by simpa using hl.2)
theorem zzV:uV 158 zso:=kF1 zeg zq zl zn zFl zEU
@[simp] abbrev zcn (g:Guest):Bool:=pc (SmG g)
@[simp] abbrev zbB (g:Guest):Guest:=g
def zoI:Run:=rF1 (dT .guest) fun b=>(zcn b,[aT .guest (zbB b)])
def zr1 (N:Nat)(a0:Guest):OA:=
 (oN (znG a0.Prog) (oN (zek a0.Written) (oN (zek a0.Live) (oN (zcq a0.Seen) (some [(aT .guest ({ a0 with Prog:=(zjT a0.Prog),Written:=(zdk a0.Written),Live:=(zdk a0.Live),Seen:=(zcm a0.Seen) }:Guest))])))))
theorem zAr (a0:Guest)(hc:zcn a0=true):∃N,zr1 N a0=some [aT .guest (zbB a0)]:=by
 have hs:=zC.1 hc;obtain ⟨h1,h2,h3,h4⟩:=hs;have hs1:a0.Prog.length<=2147483648:=(by omega);have hs2:a0.Written.length<=2147483648:=(by omega);have hs3:a0.Live.length<=2147483648:=(by omega);have hs4:a0.Seen.length<=2147483648:=(by omega)
 refine ⟨0,?_⟩;unfold zr1 oN;refine mu (mu (mu (mu ?_)))
 first|rfl|(simp only [*,zbB,cT,cF]<;>rfl)|simp_all[Ty.cells,zbB]
theorem zvG:uV 272 zoI:=kF1 zeg zq zl zn (zo []) zAr
def zes (t:List Slot)(p n:Int):Bool:=bif ieq (zcA t p).Page (-1) then false else (cond (enough (zcA t p).Rights n) (win n 1 3) false)
def zb1 (t:List Slot)(p n:Int):Int:=bif zes t p n then (zcA t p).Page else -1
theorem zPa {r:Int}(h:zcU r=true):0<=r/\r<=3:=zep.1 h
theorem zKY {a n:Int}(h:enough a n=true):win n 1 3 = !ieq n 0:=by
 unfold enough at h;cases h1:zcU a
 .rw [h1]at h;cases h
 .cases h2:zcU n
  .rw [h1,h2]at h;cases h
  .have:=zPa h2;have e:(win n 1 3=true)↔(!ieq n 0)=true:=by
    rw[zep];simp[ieq];omega
   cases h3:win n 1 3<;>cases h4:(!ieq n 0)<;>simp_all
@[simp] abbrev zgq (t:List Slot)(p n:Int):Bool:=true
@[simp] abbrev ze9 (t:List Slot)(p n:Int):Int:=zb1 t p n
@[simp] abbrev zej (t:List Slot)(p n:Int):Bool:=zes t p n
def zoG:Run:=rF3 (dS .slot) dI dI fun b c d=>(zgq b c d,[aI (ze9 b c d),aB (zej b c d)])
def zrZ (N:Nat)(a0:lS)(a1 a2:Int):OA:=
 let y0:=(zf6 a0 a1); (oN (zhR a0 a1) (cond (ieq y0.Page (-1)) (some [(aI (-1)),(aB false)]) (oN (zcl y0.Rights a2) (cond (nB (zcK y0.Rights a2)) (some [(aI (-1)),(aB false)]) (oN (zbf a2 1 3) (cond (nB (zbo a2 1 3)) (some [(aI (-1)),(aB false)]) (some [(aI y0.Page),(aB true)])))))))
theorem zAp (a0:List Slot)(a1 a2:Int)(hc:zgq a0 a1 a2=true):∃N,zrZ N a0 a1 a2=some [aI (ze9 a0 a1 a2),aB (zej a0 a1 a2)]:=by
 refine ⟨0,?_⟩;unfold zrZ oN nB
 conv=>zeta
 refine must rfl (br (fun _=>?_) (fun _=>must rfl (brN (fun _=>?_) (fun _=>must rfl (brN (fun _=>?_) (fun _=>?_))))))
 all_goals first|rfl|(simp only [*,ze9,zej,zb1,zes,cT,cF]<;>rfl)|simp_all[Ty.cells,ze9,zej,zb1,zes]
theorem zvE:uV 288 zoG:=kF3 zeg zq zl zn (zo []) zAp
@[simp] abbrev zmk (t:List Slot)(p n:Int):Bool:=true
@[simp] abbrev zgu (t:List Slot)(p n:Int):Int:=zb1 t p n
@[simp] abbrev zgv (t:List Slot)(p n:Int):Bool:=zes t p n
def zoP:Run:=rF3 (dS .slot) dI dI fun b c d=>(zmk b c d,[aI (zgu b c d),aB (zgv b c d)])
def zr7 (N:Nat)(a0:lS)(a1 a2:Int):OA:=
 let y0:=(zgi a0 a1); (oN (zh2 a0 a1) (cond (ieq y0.Page (-1)) (some [(aI (-1)),(aB false)]) (oN (zev y0.Rights a2) (cond (nB (zeZ y0.Rights a2)) (some [(aI (-1)),(aB false)]) (cond (ieq a2 0) (some [(aI (-1)),(aB false)]) (some [(aI y0.Page),(aB true)]))))))
theorem zAy (a0:List Slot)(a1 a2:Int)(hc:zmk a0 a1 a2=true):∃N,zr7 N a0 a1 a2=some [aI (zgu a0 a1 a2),aB (zgv a0 a1 a2)]:=by
 have he:=@zKY (zcA a0 a1).Rights a2;refine ⟨0,?_⟩;unfold zr7 oN nB
 conv=>zeta
 refine must rfl (br (fun _=>?_) (fun _=>must rfl (brN (fun _=>?_) (fun _=>br (fun _=>?_) (fun _=>?_)))))
 all_goals first|rfl|(simp only [*,zgu,zgv,zb1,zes,cT,cF]<;>rfl)|simp_all[Ty.cells,zgu,zgv,zb1,zes]
theorem zvN:uV 211 zoP:=kF3 zeg zq zl zn (zo []) zAy
def zQa:zK:=[(371,ze1),(158,zso),(272,zoI),(211,zoP),(288,zoG),(313,zwO),(180,zwH),(355,zuz),(348,zua),(229,zwM),(305,zwE),(342,zuj)]++zP9
theorem ziZ:zx zQa:=zh zjm (zh zzV (zh zvG (zh zvN (zh zvE (zh zED (zh zEv (zh zCo (zh zB2 (zh zEB (zh zEs (zh zB8 zeg)))))))))))
@[simp] abbrev zhd (m:List (List Int))(p c v:Int):Bool:=pc (SmM m)
@[simp] abbrev zhT (m:List (List Int))(p c v:Int):List (List Int):=zfI m p c v
def zqi:Run:=rF4 (dS (.sl .int)) dI dI dI fun b c d e=>(zhd b c d e,[aS (.sl .int) (zhT b c d e)])
def zsQ (N:Nat)(a0:lM)(a1 a2 a3:Int):OA:=
 let y0:=(aS (.sl .int) (zck a0)); (oN (zdS a0) (oN (zby a1 (ln a0)) (cond (zbS a1 (ln a0)) (oN (inb a1 (ln a0)) (oN (zby a2 (ln (ix a0 a1 []))) (cond (zbS a2 (ln (ix a0 a1 []))) (oN (zbf a3 0 99) (cond (zbo a3 0 99) (oN (inb a1 (ln (zck a0))) (oN (inb a2 (ln (ix (zck a0) a1 []))) (share (up (zck a0) a1 (up (ix (zck a0) a1 []) a2 a3)) (fun x5=>(some [(aS (.sl .int) x5)]))))) (some [y0]))) (some [y0])))) (some [y0]))))
theorem zCQ (a0:List (List Int))(a1 a2 a3:Int)(hc:zhd a0 a1 a2 a3=true):∃N,zsQ N a0 a1 a2 a3=some [aS (.sl .int) (zhT a0 a1 a2 a3)]:=by
 have hs:=zC.1 hc;refine ⟨0,?_⟩;unfold zsQ oN
 conv=>zeta
 refine mu (must rfl (br (fun _=>mu (must rfl (br (fun _=>must rfl (br (fun _=>mu (mu (shr ?_))) (fun _=>?_))) (fun _=>?_)))) (fun _=>?_)))
 all_goals first|rfl|(simp only [*,zhT,zfI,ziw,cT,cF]<;>rfl)|simp_all[Ty.cells,zhT,zfI,ziw]
theorem zxG:uV 168 zqi:=kF4 ziZ zq zl zn (zo []) zCQ
def zjh (g:Guest):Bool:=bif canRun g then (cond g.Ctl.Open (ige (zeq g.Pending) 0) false) else false
@[simp] abbrev zjS (g:Guest):Bool:=true
@[simp] abbrev zhS (g:Guest):Bool:=zjh g
def zqh:Run:=rF1 (dT .guest) fun b=>(zjS b,[aB (zhS b)])
def zsP (N:Nat)(a0:Guest):OA:=
 (oN (zmD a0) (cond (zkw a0) (cond a0.Ctl.Open (oN (zmH a0.Pending) (some [(aB (ige (zi6 a0.Pending) 0))])) oF) oF))
theorem zCP (a0:Guest)(hc:zjS a0=true):∃N,zsP N a0=some [aB (zhS a0)]:=by
 refine ⟨0,?_⟩;unfold zsP oN;refine must rfl (br (fun _=>br (fun _=>must rfl ?_) (fun _=>?_)) (fun _=>?_))
 all_goals first|rfl|(simp only [*,zhS,zjh,cT,cF]<;>rfl)|simp_all[Ty.cells,zhS,zjh]
theorem zxF:uV 278 zqh:=kF1 ziZ zq zl zn (zo []) zCP
def zp0 (p:Int):Int:=bif ilt (zeq p) 0 then p else wsub .i64 p (zmp .i64 1 (zeq p))
def zAg (p:Int):Int:=bif ilt (zeq p) 0 then -1 else zeq p
theorem zNU {p:Int}(h:ilt (zeq p) 0=false):wcv .u64 (zeq p)=zeq p/\ile 0 (zeq p)=true/\zrQ .i64 p (zmp .i64 1 (zeq p))=wsub .i64 p (zmp .i64 1 (zeq p)):=by
 unfold zeq at *;cases h1:zdE p
 .rw [h1]at h;cases h
 .simp only [h1,cT]at h ⊢;obtain ⟨h0,h2⟩:=zep.1 h1;have r:=ztP (P:=fun x=>-1<=scan x/\scan x<=7/\(0<=scan x->wsub .i64 x (zmp .i64 1 (scan x))=zrQ .i64 x (zmp .i64 1 (scan x)))) zIa h0 h2;have h3:0<=scan p:=by
   unfold ilt at h;have:=jZ h;omega
  exact ⟨zKD h3 (by omega),qN h3,(r.2.2 h3).symm⟩
@[simp] abbrev zpf (p:Int):Bool:=true
@[simp] abbrev zir (p:Int):Int:=zp0 p
@[simp] abbrev zis (p:Int):Int:=zAg p
@[simp] abbrev zk9 (p:Int):Bool:=!ilt (zeq p) 0
def zsn:Run:=rF1 dI fun b=>(zpf b,[aI (zir b),aI (zis b),aB (zk9 b)])
def zv6 (N:Nat)(a0:Int):OA:=
 (oN (zmH a0) (cond (ilt (zi6 a0) 0) (some [(aI a0),(aI (-1)),(aB false)]) (oN (ile 0 (zi6 a0)) (some [(aI (zrQ .i64 a0 (zmp .i64 1 (zi6 a0)))),(aI (zi6 a0)),(aB true)]))))
theorem zET (a0:Int)(hc:zpf a0=true):∃N,zv6 N a0=some [aI (zir a0),aI (zis a0),aB (zk9 a0)]:=by
 have ht:=@zNU a0;refine ⟨0,?_⟩;unfold zv6 oN;refine must rfl (br (fun _=>?_) (fun _=>mu ?_))
 all_goals first|rfl|(simp only [*,zir,zis,zk9,zp0,zAg,cT,cF]<;>rfl)|simp_all[Ty.cells,zir,zis,zk9,zp0,zAg]
theorem zzU:uV 308 zsn:=kF1 ziZ zq zl zn (zo []) zET
def saw (g:Guest)(n:Int):Guest:=bif ilt (ln g.Seen) 40 then { g with Seen:=ap g.Seen [n] } else g
@[simp] theorem zDk {g:Guest}(n:Int)(h:SmG g):SmG (saw g n):=by
 unfold saw;cases h1:ilt (ln g.Seen) 40
 .exact h
 .have:=qJ h1;refine ⟨h.1,h.2.1,h.2.2.1,?_⟩;simp[ln] at *;omega
@[simp] abbrev zvg (g:Guest)(n:Int):Bool:=pc (SmG g)
@[simp] abbrev zrf (g:Guest)(n:Int):Guest:=saw g n
def zEf:Run:=rF2 (dT .guest) dI fun b c=>(zvg b c,[aT .guest (zrf b c)])
def zJW (N:Nat)(a0:Guest)(a1:Int):OA:=
 (oN (zcn a0) (cond (ilt (ln a0.Seen) 40) (oN (few (ln (ap (zbB a0).Seen [a1]))) (some [(aT .guest ({ (zbB a0) with Seen:=(ap (zbB a0).Seen [a1]) }:Guest))])) (some [(aT .guest (zbB a0))])))
theorem zNg (a0:Guest)(a1:Int)(hc:zvg a0 a1=true):∃N,zJW N a0 a1=some [aT .guest (zrf a0 a1)]:=by
 have hs:=zC.1 hc;have hz:a0.Seen.length<=1048576:=hs.2.2.2
 refine ⟨0,?_⟩;unfold zJW oN;refine mu (br (fun _=>mu ?_) (fun _=>?_))
 all_goals first|rfl|(simp only [*,zrf,saw,cT,cF]<;>rfl)|simp_all[Ty.cells,zrf,saw]
theorem zI8:uV 281 zEf:=kF2 ziZ zq zl zn (zo []) zNg
def stopped (g:Guest)(e:GExit):Guest:={ g with Exit:=e }
@[simp] theorem zJO {g:Guest}(e:GExit)(h:SmG g):SmG (stopped g e):=h
@[simp] abbrev zcG (g:Guest)(e:GExit):Bool:=pc (SmG g)
@[simp] abbrev zdc (g:Guest)(e:GExit):Guest:=stopped g e
def zsl:Run:=rF2 (dT .guest) dE fun b c=>(zcG b c,[aT .guest (zdc b c)])
def zv4 (N:Nat)(a0:Guest)(a1:GExit):OA:=
 (oN (zcn a0) (some [(aT .guest ({ (zbB a0) with Exit:=a1 }:Guest))]))
theorem zER (a0:Guest)(a1:GExit)(hc:zcG a0 a1=true):∃N,zv4 N a0 a1=some [aT .guest (zdc a0 a1)]:=by
 have hs:=zC.1 hc;refine ⟨0,?_⟩;unfold zv4 oN;refine mu ?_
 first|rfl|(simp only [*,zdc,stopped,cT,cF]<;>rfl)|simp_all[Ty.cells,zdc,stopped]
theorem zzS:uV 166 zsl:=kF2 ziZ zq zl zn (zo []) zER
def zbs (g:Guest):Guest:=bif ige g.Pc 12 then { g with Pc:=12 } else { g with Pc:=zB .i64 g.Pc 1 }
@[simp] theorem zfZ {g:Guest}(h:SmG g):SmG (zbs g):=by
 unfold zbs;cases ige g.Pc 12<;>exact h
@[simp] abbrev zcj (g:Guest):Bool:=pc (SmG g)
@[simp] abbrev zb9 (g:Guest):Guest:=zbs g
def zwK:Run:=rF1 (dT .guest) fun b=>(zcj b,[aT .guest (zb9 b)])
def zDD (N:Nat)(a0:Guest):OA:=
 (oN (zcn a0) (cond (ige a0.Pc 12) (some [(aT .guest ({ (zbB a0) with Pc:=12 }:Guest))]) (some [(aT .guest ({ (zbB a0) with Pc:=(zB .i64 a0.Pc 1) }:Guest))])))
theorem zJi (a0:Guest)(hc:zcj a0=true):∃N,zDD N a0=some [aT .guest (zb9 a0)]:=by
 have hs:=zC.1 hc;refine ⟨0,?_⟩;unfold zDD oN;refine mu (br (fun _=>?_) (fun _=>?_))
 all_goals first|rfl|(simp only [*,zb9,zbs,cT,cF]<;>rfl)|simp_all[Ty.cells,zb9,zbs]
theorem zEy:uV 190 zwK:=kF1 ziZ zq zl zn (zo []) zJi
def zQb:zK:=[(168,zqi),(278,zqh),(308,zsn),(281,zEf),(166,zsl),(190,zwK)]++zQa
theorem zeh:zx zQb:=zh zxG (zh zxF (zh zzU (zh zI8 (zh zzS (zh zEy ziZ)))))
def interrupted (g:Guest):Guest:=bif zjh g then saw { g with Pending:=zp0 g.Pending } (zB .i64 100 (zAg g.Pending)) else g
@[simp] theorem zKp {g:Guest}(h:SmG g):SmG (interrupted g):=by
 unfold interrupted;cases zjh g
 .exact h
 .exact zDk (g:={ g with Pending:=zp0 g.Pending }) _ h
@[simp] abbrev zjL (g:Guest):Bool:=pc (SmG g)
@[simp] abbrev ze8 (g:Guest):Guest:=interrupted g
def zmr:Run:=rF1 (dT .guest) fun b=>(zjL b,[aT .guest (ze8 b)])
def zoa (N:Nat)(a0:Guest):OA:=
 let y1:=(zB .i64 100 (zis a0.Pending));let y0:=({ a0 with Pending:=(zir a0.Pending) }:Guest); (oN (zjS a0) (cond (nB (zhS a0)) (oN (zcn a0) (some [(aT .guest (zbB a0))])) (oN (zpf a0.Pending) (oN (zvg y0 y1) (some [(aT .guest (zrf y0 y1))])))))
theorem zvQ (a0:Guest)(hc:zjL a0=true):∃N,zoa N a0=some [aT .guest (ze8 a0)]:=by
 have hs:=zC.1 hc;have hz:_/\_/\_/\_:=hs
 refine ⟨0,?_⟩;unfold zoa oN nB
 conv=>zeta
 refine must rfl (brN (fun _=>mu ?_) (fun _=>must rfl (mu ?_)))
 all_goals first|rfl|(simp only [*,ze8,interrupted,cT,cF]<;>rfl)|simp_all[Ty.cells,ze8,interrupted]
theorem zsC:uV 286 zmr:=kF1 zeh zq zl zn (zo []) zvQ
def zAJ (o:Int):Int:=bif ieq o 3 then 3 else (cond (ieq o 4) 4 (cond (ieq o 5) 5 (cond (ieq o 6) 6 (cond (ieq o 7) 7 2))))
def zF (g:Guest):Int:=bif canRun g then (cond (zjh g) 1 (zAJ (zc4 g.Prog g.Pc).Op)) else 0
@[simp] abbrev zf7 (g:Guest):Bool:=true
@[simp] abbrev zeO (g:Guest):Int:=zF g
def zul:Run:=rF1 (dT .guest) fun b=>(zf7 b,[aI (zeO b)])
def zyY (N:Nat)(a0:Guest):OA:=
 let y0:=(zec a0.Prog a0.Pc).Op; (oN (zmD a0) (cond (nB (zkw a0)) (some [(aI 0)]) (oN (zjS a0) (cond (zhS a0) (some [(aI 1)]) (oN (zd5 a0.Prog a0.Pc) (cond (ieq y0 3) (some [(aI 3)]) (cond (ieq y0 4) (some [(aI 4)]) (cond (ieq y0 5) (some [(aI 5)]) (cond (ieq y0 6) (some [(aI 6)]) (cond (ieq y0 7) (some [(aI 7)]) (some [(aI 2)])))))))))))
theorem zG8 (a0:Guest)(hc:zf7 a0=true):∃N,zyY N a0=some [aI (zeO a0)]:=by
 refine ⟨0,?_⟩;unfold zyY oN nB
 conv=>zeta
 refine must rfl (brN (fun _=>?_) (fun _=>must rfl (br (fun _=>?_) (fun _=>must rfl (br (fun _=>?_) (fun _=>br (fun _=>?_) (fun _=>br (fun _=>?_) (fun _=>br (fun _=>?_) (fun _=>br (fun _=>?_) (fun _=>?_))))))))))
 all_goals first|rfl|(simp only [*,zeO,zF,zAJ,cT,cF]<;>rfl)|simp_all[Ty.cells,zeO,zF,zAJ]
theorem zCa:uV 161 zul:=kF1 zeh zq zl zn (zo []) zG8
def held (g:Guest):Guest:=zbs { g with Halted:=true }
@[simp] theorem zPf {g:Guest}(h:SmG g):SmG (held g):=zfZ (g:={ g with Halted:=true }) h
@[simp] abbrev zi2 (g:Guest):Bool:=pc (SmG g)
@[simp] abbrev zio (g:Guest):Guest:=held g
def zAQ:Run:=rF1 (dT .guest) fun b=>(zi2 b,[aT .guest (zio b)])
def zFN (N:Nat)(a0:Guest):OA:=
 let y0:=({ a0 with Halted:=true }:Guest); (oN (zcj y0) (some [(aT .guest (zb9 y0))]))
theorem zLk (a0:Guest)(hc:zi2 a0=true):∃N,zFN N a0=some [aT .guest (zio a0)]:=by
 have hs:=zC.1 hc;have hz:_/\_/\_/\_:=hs
 refine ⟨0,?_⟩;unfold zFN oN
 conv=>zeta
 refine mu ?_
 first|rfl|(simp only [*,zio,held,cT,cF]<;>rfl)|simp_all[Ty.cells,zio,held]
theorem zGy:uV 285 zAQ:=kF1 zeh zq zl zn (zo []) zLk
@[simp] abbrev zjR (g:Guest):Bool:=pc (SmG g)
@[simp] abbrev zhb (g:Guest):Guest:=zbs g
def zui:Run:=rF1 (dT .guest) fun b=>(zjR b,[aT .guest (zhb b)])
def zyV (N:Nat)(a0:Guest):OA:=
 (oN (zcj a0) (some [(aT .guest (zb9 a0))]))
theorem zG5 (a0:Guest)(hc:zjR a0=true):∃N,zyV N a0=some [aT .guest (zhb a0)]:=by
 have hs:=zC.1 hc;refine ⟨0,?_⟩;unfold zyV oN;refine mu ?_
 first|rfl|(simp only [*,zhb,cT,cF]<;>rfl)|simp_all[Ty.cells,zhb]
theorem zB7:uV 170 zui:=kF1 zeh zq zl zn (zo []) zG5
def loaded (g:Guest)(v:Int):Guest:=zbs (saw { g with A:=v } v)
@[simp] theorem zA0 {g:Guest}(v:Int)(h:SmG g):SmG (loaded g v):=zfZ (zDk (g:={ g with A:=v }) v h)
@[simp] abbrev zjM (g:Guest)(v:Int):Bool:=pc (SmG g)
@[simp] abbrev zg9 (g:Guest)(v:Int):Guest:=loaded g v
def zt2:Run:=rF2 (dT .guest) dI fun b c=>(zjM b c,[aT .guest (zg9 b c)])
def zyJ (N:Nat)(a0:Guest)(a1:Int):OA:=
 let y0:=({ a0 with A:=a1 }:Guest); (oN (zvg y0 a1) (oN (zcj (zrf y0 a1)) (some [(aT .guest (zb9 (zrf y0 a1)))])))
theorem zGS (a0:Guest)(a1:Int)(hc:zjM a0 a1=true):∃N,zyJ N a0 a1=some [aT .guest (zg9 a0 a1)]:=by
 have hs:=zC.1 hc;have hz:_/\_/\_/\_:=hs;have hk:SmG (saw { a0 with A:=a1 } a1):=zDk (g:={ a0 with A:=a1 }) a1 hs
 refine ⟨0,?_⟩;unfold zyJ oN
 conv=>zeta
 refine mu (mu ?_)
 first|rfl|(simp only [*,zg9,loaded,cT,cF]<;>rfl)|simp_all[Ty.cells,zg9,loaded]
theorem zBU:uV 171 zt2:=kF2 zeh zq zl zn (zo []) zGS
def zkW (g:Guest)(w:Int):Guest:=bif ieq w 5 then stopped g (zDc (zc4 g.Prog g.Pc).X) else stopped g ⟨4,0,false,0⟩
@[simp] theorem zSL {g:Guest}(w:Int)(h:SmG g):SmG (zkW g w):=by
 unfold zkW;cases ieq w 5<;>exact h
@[simp] abbrev zit (g:Guest)(w:Int):Bool:=pc (SmG g)
@[simp] abbrev zfX (g:Guest)(w:Int):Guest:=zkW g w
def zsq:Run:=rF2 (dT .guest) dI fun b c=>(zit b c,[aT .guest (zfX b c)])
def zv9 (N:Nat)(a0:Guest)(a1:Int):OA:=
 let y0:=(zec a0.Prog a0.Pc).X; (cond (ieq a1 5) (oN (zd5 a0.Prog a0.Pc) (oN (zpc y0) (oN (zcG a0 (zjn y0)) (some [(aT .guest (zdc a0 (zjn y0)))])))) (oN (zcG a0 (⟨4,0,false,0⟩:GExit)) (some [(aT .guest (zdc a0 (⟨4,0,false,0⟩:GExit)))])))
theorem zEW (a0:Guest)(a1:Int)(hc:zit a0 a1=true):∃N,zv9 N a0 a1=some [aT .guest (zfX a0 a1)]:=by
 have hs:=zC.1 hc;refine ⟨0,?_⟩;unfold zv9 oN
 conv=>zeta
 refine br (fun _=>must rfl (must rfl (mu ?_))) (fun _=>mu ?_)
 all_goals first|rfl|(simp only [*,zfX,zkW,cT,cF]<;>rfl)|simp_all[Ty.cells,zfX,zkW]
theorem zzX:uV 284 zsq:=kF2 zeh zq zl zn (zo []) zEW
def zcf (g:Guest):Bool:=zeX g.Prog&&(win g.A 0 99&&(win g.Pc 0 12&&(zcu g.Written 4 8&&(zcu g.Live 4 8&&(zoh g.Ctl&&(zdE g.Pending&&(zlu g.Exit&&ile (ln g.Seen) 40)))))))
@[simp] abbrev zli (g:Guest):Bool:=true
@[simp] abbrev zjw (g:Guest):Bool:=zcf g
def zst:Run:=rF1 (dT .guest) fun b=>(zli b,[aB (zjw b)])
def zwe (N:Nat)(a0:Guest):OA:=
 (oN (zrG a0.Prog) (cond (zjd a0.Prog) (oN (zT a0.A 0 99) (cond (zZ a0.A 0 99) (oN (zT a0.Pc 0 12) (cond (zZ a0.Pc 0 12) (oN (ziD a0.Written 4 8) (cond (zfp a0.Written 4 8) (oN (ziD a0.Live 4 8) (cond (zfp a0.Live 4 8) (oN (zuG a0.Ctl) (cond (zqw a0.Ctl) (oN (zgh a0.Pending) (cond (zgg a0.Pending) (oN (zrA a0.Exit) (cond (znX a0.Exit) (some [(aB (ile (ln a0.Seen) 40))]) oF)) oF)) oF)) oF)) oF)) oF)) oF)) oF))
theorem zE1 (a0:Guest)(hc:zli a0=true):∃N,zwe N a0=some [aB (zjw a0)]:=by
 refine ⟨0,?_⟩;unfold zwe oN;refine must rfl (br (fun _=>must rfl (br (fun _=>must rfl (br (fun _=>must rfl (br (fun _=>must rfl (br (fun _=>must rfl (br (fun _=>must rfl (br (fun _=>must rfl (br (fun _=>?_) (fun _=>?_))) (fun _=>?_))) (fun _=>?_))) (fun _=>?_))) (fun _=>?_))) (fun _=>?_))) (fun _=>?_))) (fun _=>?_))
 all_goals first|rfl|(simp only [*,zjw,zcf,cT,cF]<;>rfl)|simp_all[Ty.cells,zjw,zcf]
theorem zz0:uV 312 zst:=kF1 zeh zq zl zn (zo []) zE1
@[simp] abbrev zin (g:Guest):Bool:=true
@[simp] abbrev zg7 (g:Guest):Bool:=zcf g
def zsg:Run:=rF1 (dT .guest) fun b=>(zin b,[aB (zg7 b)])
def zvZ (N:Nat)(a0:Guest):OA:=
 (oN (zre a0.Prog) (cond (zi4 a0.Prog) (oN (zbf a0.A 0 99) (cond (zbo a0.A 0 99) (oN (zbf a0.Pc 0 12) (cond (zbo a0.Pc 0 12) (oN (ziq a0.Written 4 8) (cond (zfk a0.Written 4 8) (oN (ziq a0.Live 4 8) (cond (zfk a0.Live 4 8) (oN (ztA a0.Ctl) (cond (zpW a0.Ctl) (oN (zf5 a0.Pending) (cond (zf4 a0.Pending) (oN (zq7 a0.Exit) (cond (znz a0.Exit) (some [(aB (ile (ln a0.Seen) 40))]) oF)) oF)) oF)) oF)) oF)) oF)) oF)) oF))
theorem zEM (a0:Guest)(hc:zin a0=true):∃N,zvZ N a0=some [aB (zg7 a0)]:=by
 refine ⟨0,?_⟩;unfold zvZ oN;refine must rfl (br (fun _=>must rfl (br (fun _=>must rfl (br (fun _=>must rfl (br (fun _=>must rfl (br (fun _=>must rfl (br (fun _=>must rfl (br (fun _=>must rfl (br (fun _=>?_) (fun _=>?_))) (fun _=>?_))) (fun _=>?_))) (fun _=>?_))) (fun _=>?_))) (fun _=>?_))) (fun _=>?_))) (fun _=>?_))
 all_goals first|rfl|(simp only [*,zg7,zcf,cT,cF]<;>rfl)|simp_all[Ty.cells,zg7,zcf]
theorem zzN:uV 297 zsg:=kF1 zeh zq zl zn (zo []) zEM
@[simp] abbrev zdL (l:List Guest):Bool:=pc (znk l)
@[simp] abbrev zeP (l:List Guest):List Guest:=l
def znQ:Run:=rF1 (dS .guest) fun b=>(zdL b,[aS .guest (zeP b)])
def zpH (N:Nat)(a0:lG):OA:=
 (iter (σ:=(Int×(Int×(lG×(lG×Unit))))) N (fun r2 s3=>let y0:=(ix s3.2.2.2.1 s3.2.1 zG); (cond (ilt s3.2.1 s3.1) (oN (inb s3.2.1 (ln s3.2.2.2.1)) (oN (zcn y0) (oN (few (ln (ap s3.2.2.1 [(zbB y0)]))) (r2 (s3.1,((zB .i64 s3.2.1 1),((ap s3.2.2.1 [(zbB y0)]),(s3.2.2.2.1,())))))))) (some [(aS .guest s3.2.2.1)]))) ((ln a0),(0,([],(a0,())))))
def zyv:FuncId->Nat->Option Tmpl:=zo [(147,0,{ n:=20,tm:=[(3,.sl 0 []),(7,.sl 1 []),(8,ti),(9,ti)],lo:=[],ro:=[(0,.guest,true),(1,.guest,false)] })]
theorem zx8 (a0:List Guest)(hc:zdL a0=true):∃N,zpH N a0=some [aS .guest (zeP a0)]:=by
 have hs:=zC.1 hc;have hl:=zci hs.1;refine zbN fun N hNN=>?_;unfold zpH oN
 conv=>zeta
 refine (zW a0 (fun i (t:lG)=>((ln a0),(i:Int),t,a0,())) _ (fun _ x acc κ=>bif zcn x then (cond (few (ln (ap acc [zbB x]))) (κ (ap acc [zbB x])) none) else none) (fun (t:lG)=>(some [(.one (.s .guest t))])) (fun i hi t rec=>?_) (fun t rec=>?_) _ ([]) (hNN hl.1)).trans ?_
 .simp only [zbp hi,zY hi,zbc hi,zQ hi hl.1,cT]
 .simp only [zbg,cF]
 exact zgV zcn zbB _ a0 0 [] (fun x hx=>⟨by exact zbF (hs.2 x hx),rfl⟩) (by simpa using hl.2)
theorem ztu:uV 147 znQ:=kF1 zeh zq zl zn zyv zx8
def gAt (b:Bare)(i:Int):Guest:=bif hasB i (ln b.Guests) then ix b.Guests i zG else Ty.dflt .guest
@[simp] theorem zAZ {b:Bare}(i:Int)(h:SmB b):SmG (gAt b i):=by
 unfold gAt;cases hh:hasB i (ln b.Guests)
 .exact zS2
 .exact zIe h.2.1 hh _
@[simp] abbrev zpp (b:Bare)(i:Int):Bool:=pc (SmB b)
@[simp] abbrev ziC (b:Bare)(i:Int):Guest:=gAt b i
@[simp] abbrev zlh (b:Bare)(i:Int):Bool:=hasB i (ln b.Guests)
def zmc:Run:=rF2 (dT .bare) dI fun b c=>(zpp b c,[aT .guest (ziC b c),aB (zlh b c)])
def zwd (N:Nat)(a0:Bare)(a1:Int):OA:=
 let y0:=(ix a0.Guests a1 zG); (oN (zT a1 0 (wsub .i64 (ln a0.Guests) 1)) (cond (nB (zZ a1 0 (wsub .i64 (ln a0.Guests) 1))) (some [(aT .guest (⟨[],0,0,[],[],⟨0,0,false⟩,0,⟨0,0,false,0⟩,false,[]⟩:Guest)),(aB false)]) (oN (inb a1 (ln a0.Guests)) (oN (zfF y0) (some [(aT .guest (zft y0)),(aB true)])))))
theorem zE0 (a0:Bare)(a1:Int)(hc:zpp a0 a1=true):∃N,zwd N a0 a1=some [aT .guest (ziC a0 a1),aB (zlh a0 a1)]:=by
 have hs:=zC.1 hc;have hl:a0.Guests.length<=1048576:=hs.2.1.1;have hx:hasB a1 (ln a0.Guests)=true->SmG (ix a0.Guests a1 zG):=fun h=>zIe hs.2.1 h _
 refine ⟨0,?_⟩;unfold zwd oN nB
 conv=>zeta
 refine must rfl (brN (fun _=>?_) (fun _=>mu (mu ?_)))
 all_goals first|rfl|(simp only [*,ziC,zlh,gAt,Ty.dflt,cT,cF]<;>rfl)|simp_all[Ty.cells,ziC,zlh,gAt,Ty.dflt]
theorem zot:uV 70 zmc:=kF2 zeh zq zl zn (zo []) zE0
@[simp] abbrev zfD (b:Bare)(i:Int):Bool:=pc (SmB b)
@[simp] abbrev zfC (b:Bare)(i:Int):Guest:=gAt b i
@[simp] abbrev zez (b:Bare)(i:Int):Bool:=hasB i (ln b.Guests)
def zsf:Run:=rF2 (dT .bare) dI fun b c=>(zfD b c,[aT .guest (zfC b c),aB (zez b c)])
def zvY (N:Nat)(a0:Bare)(a1:Int):OA:=
 let y0:=(ix a0.Guests a1 zG); (oN (zby a1 (ln a0.Guests)) (cond (nB (zbS a1 (ln a0.Guests))) (some [(aT .guest (⟨[],0,0,[],[],⟨0,0,false⟩,0,⟨0,0,false,0⟩,false,[]⟩:Guest)),(aB false)]) (oN (inb a1 (ln a0.Guests)) (oN (zcn y0) (some [(aT .guest (zbB y0)),(aB true)])))))
theorem zEL (a0:Bare)(a1:Int)(hc:zfD a0 a1=true):∃N,zvY N a0 a1=some [aT .guest (zfC a0 a1),aB (zez a0 a1)]:=by
 have hs:=zC.1 hc;have hl:a0.Guests.length<=1048576:=hs.2.1.1;have hx:hasB a1 (ln a0.Guests)=true->SmG (ix a0.Guests a1 zG):=fun h=>zIe hs.2.1 h _
 refine ⟨0,?_⟩;unfold zvY oN nB
 conv=>zeta
 refine must rfl (brN (fun _=>?_) (fun _=>mu (mu ?_)))
 all_goals first|rfl|(simp only [*,zfC,zez,gAt,Ty.dflt,cT,cF]<;>rfl)|simp_all[Ty.cells,zfC,zez,gAt,Ty.dflt]
theorem zzM:uV 273 zsf:=kF2 zeh zq zl zn (zo []) zEL
def zQc:zK:=[(286,zmr),(161,zul),(285,zAQ),(170,zui),(171,zt2),(284,zsq),(312,zst),(297,zsg),(147,znQ),(70,zmc),(273,zsf)]++zQb
theorem zno:zx zQc:=zh zsC (zh zCa (zh zGy (zh zB7 (zh zBU (zh zzX (zh zz0 (zh zzN (zh ztu (zh zot (zh zzM zeh))))))))))
def plainly (g:Guest):Guest:=bif ine (zF g) 2 then g else (cond (win g.A 0 99) (cond (win (zc4 g.Prog g.Pc).X 0 99) (cond (ieq (zc4 g.Prog g.Pc).Op 1) { zbs g with A:=(zc4 g.Prog g.Pc).X } (cond (ieq (zc4 g.Prog g.Pc).Op 2) { zbs g with A:=zkm (zB .i64 g.A (zc4 g.Prog g.Pc).X) 100 } (cond (ieq (zc4 g.Prog g.Pc).Op 8) (cond (ieq g.A 0) { zbs g with Pc:=(zc4 g.Prog g.Pc).X } (zbs g)) (zbs g)))) (zbs g)) (zbs g))
@[simp] theorem zSU (g:Guest):(zbs g).Prog=g.Prog:=by
 unfold zbs;cases ige g.Pc 12<;>rfl
@[simp] theorem zTs (g:Guest):(zbs g).A=g.A:=by
 unfold zbs;cases ige g.Pc 12<;>rfl
@[simp] theorem zRO (g:Guest):(zbs g).Written=g.Written:=by
 unfold zbs;cases ige g.Pc 12<;>rfl
@[simp] theorem zST (g:Guest):(zbs g).Live=g.Live:=by
 unfold zbs;cases ige g.Pc 12<;>rfl
@[simp] theorem zS7 (g:Guest):(zbs g).Ctl=g.Ctl:=by
 unfold zbs;cases ige g.Pc 12<;>rfl
@[simp] theorem zRN (g:Guest):(zbs g).Pending=g.Pending:=by
 unfold zbs;cases ige g.Pc 12<;>rfl
@[simp] theorem zSS (g:Guest):(zbs g).Exit=g.Exit:=by
 unfold zbs;cases ige g.Pc 12<;>rfl
@[simp] theorem zSq (g:Guest):(zbs g).Halted=g.Halted:=by
 unfold zbs;cases ige g.Pc 12<;>rfl
@[simp] theorem zSV (g:Guest):(zbs g).Seen=g.Seen:=by
 unfold zbs;cases ige g.Pc 12<;>rfl
@[simp] theorem zS8 (g:Guest)(x:Int):(zbs { g with A:=x }).Pc=(zbs g).Pc:=by
 unfold zbs;cases ige g.Pc 12<;>rfl
@[simp] theorem zw0 {g:Guest}(h:SmG g):SmG (plainly g):=by
 have hm:=zfZ h;unfold plainly;cases ine (zF g) 2
 .cases win g.A 0 99
  .exact hm
  .cases win (zc4 g.Prog g.Pc).X 0 99
   .exact hm
   .cases ieq (zc4 g.Prog g.Pc).Op 1
    .cases ieq (zc4 g.Prog g.Pc).Op 2
     .cases ieq (zc4 g.Prog g.Pc).Op 8
      .exact hm
      .cases ieq g.A 0<;>exact hm
     .exact hm
    .exact hm
 .exact h
@[simp] abbrev zpe (g:Guest):Bool:=pc (SmG g)
@[simp] abbrev zjq (g:Guest):Guest:=plainly g
def zsk:Run:=rF1 (dT .guest) fun b=>(zpe b,[aT .guest (zjq b)])
def zv3 (N:Nat)(a0:Guest):OA:=
 let y1:=(aT .guest (zb9 a0));let y0:=(zec a0.Prog a0.Pc); (oN (zf7 a0) (cond (ine (zeO a0) 2) (oN (zcn a0) (some [(aT .guest (zbB a0))])) (oN (zd5 a0.Prog a0.Pc) (oN (zcj a0) (oN (zbf a0.A 0 99) (cond (nB (zbo a0.A 0 99)) (some [y1]) (oN (zbf y0.X 0 99) (cond (nB (zbo y0.X 0 99)) (some [y1]) (cond (ieq y0.Op 1) (some [(aT .guest ({ (zb9 a0) with A:=y0.X }:Guest))]) (cond (ieq y0.Op 2) (oN (ine 100 0) (some [(aT .guest ({ (zb9 a0) with A:=(zkm (zB .i64 a0.A y0.X) 100) }:Guest))])) (cond (ieq y0.Op 8) (cond (ieq a0.A 0) (some [(aT .guest ({ (zb9 a0) with Pc:=y0.X }:Guest))]) (some [y1])) (some [y1]))))))))))))
theorem zEQ (a0:Guest)(hc:zpe a0=true):∃N,zv3 N a0=some [aT .guest (zjq a0)]:=by
 have hs:=zC.1 hc;refine ⟨0,?_⟩;unfold zv3 oN nB
 conv=>zeta
 refine must rfl (br (fun _=>mu ?_) (fun _=>must rfl (mu (must rfl (brN (fun _=>?_) (fun _=>must rfl (brN (fun _=>?_) (fun _=>br (fun _=>?_) (fun _=>br (fun _=>must rfl ?_) (fun _=>br (fun _=>br (fun _=>?_) (fun _=>?_)) (fun _=>?_)))))))))))
 all_goals first|rfl|(simp only [*,zjq,plainly,cT,cF]<;>rfl)|simp_all[Ty.cells,zjq,plainly]
theorem zzR:uV 287 zsk:=kF1 zno zq zl zn (zo []) zEQ
def address (g:Guest):Int:=bif ine (zF g) 3 then (cond (ine (zF g) 4) (-1) ((zc4 g.Prog g.Pc).X)) else (zc4 g.Prog g.Pc).X
@[simp] abbrev zk7 (g:Guest):Bool:=true
@[simp] abbrev zg6 (g:Guest):Int:=address g
def zse:Run:=rF1 (dT .guest) fun b=>(zk7 b,[aI (zg6 b)])
def zvX (N:Nat)(a0:Guest):OA:=
 (oN (zf7 a0) (cond (ine (zeO a0) 3) (cond (ine (zeO a0) 4) (some [(aI (-1))]) (oN (zd5 a0.Prog a0.Pc) (some [(aI (zec a0.Prog a0.Pc).X)]))) (oN (zd5 a0.Prog a0.Pc) (some [(aI (zec a0.Prog a0.Pc).X)]))))
theorem zEK (a0:Guest)(hc:zk7 a0=true):∃N,zvX N a0=some [aI (zg6 a0)]:=by
 refine ⟨0,?_⟩;unfold zvX oN;refine must rfl (br (fun _=>br (fun _=>?_) (fun _=>must rfl ?_)) (fun _=>must rfl ?_))
 all_goals first|rfl|(simp only [*,zg6,address,cT,cF]<;>rfl)|simp_all[Ty.cells,zg6,address]
theorem zzL:uV 162 zse:=kF1 zno zq zl zn (zo []) zEK
def zh7 (g:Guest)(t w:Int):Guest:=bif ieq w 6 then stopped g (zxe (zc4 g.Prog g.Pc).X) else (cond (ieq w 5&&zcN t 1) (stopped g (zDc (zc4 g.Prog g.Pc).X)) (cond (ieq w 7&&zcN t 2) (stopped g ⟨4,0,false,0⟩) (cond (ieq w 7) (held g) (zbs g))))
def zh8 (t w:Int):Bool:=bif ieq w 6 then false else (cond (ieq w 5&&zcN t 1) false (cond (ieq w 7&&zcN t 2) false true))
@[simp] theorem zuR {g:Guest}(t w:Int)(h:SmG g):SmG (zh7 g t w):=by
 unfold zh7;cases ieq w 6
 .cases (ieq w 5&&zcN t 1)
  .cases (ieq w 7&&zcN t 2)
   .cases ieq w 7
    .exact zfZ h
    .exact zPf h
   .exact h
  .exact h
 .exact h
def zdZ (b:Bare):Bool:=bif b.Guests.all zcf then (zgb b.Memory 8&&(win (ln b.Guests) 1 2&&(ile (ln b.Outs) 40&&zdE b.Pending))) else false
@[simp] abbrev zhN (b:Bare):Bool:=true
@[simp] abbrev zc3 (b:Bare):Bool:=zdZ b
def ztT:Run:=rF1 (dT .bare) fun b=>(zhN b,[aB (zc3 b)])
def zyA (N:Nat)(a0:Bare):OA:=
 (iter (σ:=(Int×(Int×(Int×(lG×(lM×((List Int)×Unit))))))) N (fun r2 s3=>let y0:=s3.2.2.2.1;let y1:=(ix y0 s3.2.1 zG); (cond (ilt s3.2.1 s3.1) (oN (inb s3.2.1 (ln y0)) (oN (zin y1) (cond (nB (zg7 y1)) oF (r2 (s3.1,((zB .i64 s3.2.1 1),(s3.2.2.1,(y0,(s3.2.2.2.2.1,(s3.2.2.2.2.2.1,())))))))))) (oN (zly s3.2.2.2.2.1 8) (cond (zhQ s3.2.2.2.2.1 8) (oN (zbf (ln y0) 1 2) (cond (zbo (ln y0) 1 2) (cond (ile (ln s3.2.2.2.2.2.1) 40) (oN (zf5 s3.2.2.1) (some [(aB (zf4 s3.2.2.1))])) oF) oF)) oF)))) ((ln a0.Guests),(0,(a0.Pending,(a0.Guests,(a0.Memory,(a0.Outs,())))))))
def zIq:FuncId->Nat->Option Tmpl:=zo [(274,0,{ n:=36,tm:=[(1,.lp 0 0),(6,.sl 0 []),(7,ti),(8,ti)],lo:=[(0,[.sl 1 [],.sl 0 [],.sl 2 [],ti])],ro:=[(0,.guest,false),(1,(.sl .int),false),(2,.int,false)] })]
theorem zGJ (a0:Bare)(hb:zbu big [aT .bare a0])(hc:zhN a0=true):∃N,zyA N a0=some [aB (zc3 a0)]:=by
 have hl:(_:List _).length<=big:=((zcy hb).1 (.s .guest a0.Guests) (by simp[AV.cvs,Ty.cells])).len
 refine zbN fun N hNN=>?_;unfold zyA oN nB
 conv=>zeta
 refine (zW a0.Guests (fun i (t:Unit)=>((ln a0.Guests),(i:Int),a0.Pending,a0.Guests,a0.Memory,a0.Outs,())) _ (fun _ x (_:Unit) κ=>bif (zcf) x then κ () else oF) (fun (t:Unit)=>(cond (zly a0.Memory 8) (cond (zhQ a0.Memory 8) (cond (zbf (ln a0.Guests) 1 2) (cond (zbo (ln a0.Guests) 1 2) (cond (ile (ln a0.Outs) 40) (cond (zf5 a0.Pending) (some [(.one (.b (zf4 a0.Pending)))]) none) oF) oF) none) oF) none)) (fun i hi t rec=>?_) (fun t rec=>?_) _ () (hNN hl)).trans ?_
 .simp only [zbp hi,zY hi,zbc hi,zQ hi hl,cT];exact zf1 rfl
 .simp only [zbg,cF]
 rw[zeG (zcf)];refine br (fun h0=>?_) (fun h0=>?_)
 .refine must rfl ?_;refine br (fun h1=>?_) (fun h1=>?_)
  .refine must rfl ?_;refine br (fun h2=>?_) (fun h2=>?_)
   .refine br (fun h3=>?_) (fun h3=>?_)
    .refine must rfl ?_
     first|rfl|(simp only [h0,h1,h2,h3,zc3,zdZ,cT,cF]<;>rfl)|(simp_all [Ty.cells,zc3,zdZ];done)
    .first|rfl|(simp only [h0,h1,h2,h3,zc3,zdZ,cT,cF]<;>rfl)|(simp_all [Ty.cells,zc3,zdZ];done)
   .first|rfl|(simp only [h0,h1,h2,zc3,zdZ,cT,cF]<;>rfl)|(simp_all [Ty.cells,zc3,zdZ];done)
  .first|rfl|(simp only [h0,h1,zc3,zdZ,cT,cF]<;>rfl)|(simp_all [Ty.cells,zc3,zdZ];done)
 .first|rfl|(simp only [h0,zc3,zdZ,cT,cF]<;>rfl)|(simp_all [Ty.cells,zc3,zdZ];done)
theorem zBL:uV 274 ztT:=hF1 zno zq zl zn zIq zGJ
@[simp] abbrev zd6 (b:Bare):Bool:=pc (SmB b)
@[simp] abbrev zcM (b:Bare):Bare:=b
def zqk:Run:=rF1 (dT .bare) fun b=>(zd6 b,[aT .bare (zcM b)])
def zsS (N:Nat)(a0:Bare):OA:=
 (oN (zdS a0.Memory) (oN (zdL a0.Guests) (oN (zcq a0.Outs) (some [(aT .bare (⟨(zck a0.Memory),(zeP a0.Guests),(zcm a0.Outs),a0.Pending⟩:Bare))]))))
theorem zCS (a0:Bare)(hc:zd6 a0=true):∃N,zsS N a0=some [aT .bare (zcM a0)]:=by
 have hs:=zC.1 hc;have hz:_/\_/\_:=hs
 refine ⟨0,?_⟩;unfold zsS oN;refine mu (mu (mu ?_))
 first|rfl|(simp only [*,zcM,cT,cF]<;>rfl)|simp_all[Ty.cells,zcM]
theorem zxI:uV 89 zqk:=kF1 zno zq zl zn (zo []) zCS
def zQd:zK:=[(287,zsk),(162,zse),(274,ztT),(89,zqk)]++zQc
theorem zxo:zx zQd:=zh zzR (zh zzL (zh zBL (zh zxI zno)))
def zjf (b:Bare)(i:Int)(x:Guest):Bare:={ b with Guests:=up b.Guests i x }
def zhw (b:Bare)(i:Int)(x:Guest):Bare:=bif hasB i (ln b.Guests) then zjf b i x else b
def zj1 (b:Bare)(n:Int):Bare:=bif ilt (ln b.Outs) 40 then { b with Outs:=ap b.Outs [n] } else b
@[simp] theorem zjg {b:Bare}{i:Int}{x:Guest}(h:SmB b)(hx:SmG x):SmB (zjf b i x):=⟨h.1,zDl h.2.1 hx,h.2.2⟩
@[simp] theorem zAY {b:Bare}{n:Int}(h:SmB b):SmB (zj1 b n):=by
 unfold zj1;cases h1:ilt (ln b.Outs) 40
 .exact h
 .have:=qJ h1;refine ⟨h.1,h.2.1,?_⟩;simp[ln] at *;omega
@[simp] theorem zTm (b:Bare)(n:Int):(zj1 b n).Guests=b.Guests:=by
 unfold zj1;cases ilt (ln b.Outs) 40<;>rfl
@[simp] theorem zIg {m:List (List Int)}{p c v:Int}(h:SmM m):SmM (zfI m p c v):=by
 unfold zfI;cases h1:ziw m p c
 .exact h
 .cases h2:win v 0 99
  .exact h
  .exact zA3 h (by simpa using zSD h ((zLp m p c).1 h1).1 [])
@[simp] abbrev zbr (b:Bare)(i:Int)(x:Guest):Bool:=pc (SmB b/\SmG x)
@[simp] abbrev zb4 (b:Bare)(i:Int)(x:Guest):Bare:=zhw b i x
def zoH:Run:=rF3 (dT .bare) dI (dT .guest) fun b c d=>(zbr b c d,[aT .bare (zb4 b c d)])
def zr0 (N:Nat)(a0:Bare)(a1:Int)(a2:Guest):OA:=
 (oN (zd6 a0) (oN (zby a1 (ln a0.Guests)) (cond (zbS a1 (ln a0.Guests)) (oN (zcn a2) (oN (inb a1 (ln (zcM a0).Guests)) (share (up (zcM a0).Guests a1 (zbB a2)) (fun x4=>(some [(aT .bare ({ (zcM a0) with Guests:=x4 }:Bare))]))))) (some [(aT .bare (zcM a0))]))))
theorem zAq (a0:Bare)(a1:Int)(a2:Guest)(hc:zbr a0 a1 a2=true):∃N,zr0 N a0 a1 a2=some [aT .bare (zb4 a0 a1 a2)]:=by
 have hs:=zC.1 hc;refine ⟨0,?_⟩;unfold zr0 oN;refine mu (must rfl (br (fun _=>mu (mu (shr ?_))) (fun _=>?_)))
 all_goals first|rfl|(simp only [*,zb4,zhw,zjf,cT,cF]<;>rfl)|simp_all[Ty.cells,zb4,zhw,zjf]
theorem zvF:uV 275 zoH:=kF3 zxo zq zl zn (zo []) zAq
@[simp] abbrev zmG (b:Bare)(n:Int):Bool:=pc (SmB b)
@[simp] abbrev zkA (b:Bare)(n:Int):Bare:=zj1 b n
def zue:Run:=rF2 (dT .bare) dI fun b c=>(zmG b c,[aT .bare (zkA b c)])
def zyR (N:Nat)(a0:Bare)(a1:Int):OA:=
 (oN (zd6 a0) (cond (ilt (ln a0.Outs) 40) (oN (few (ln (ap (zcM a0).Outs [a1]))) (some [(aT .bare ({ (zcM a0) with Outs:=(ap (zcM a0).Outs [a1]) }:Bare))])) (some [(aT .bare (zcM a0))])))
theorem zG1 (a0:Bare)(a1:Int)(hc:zmG a0 a1=true):∃N,zyR N a0 a1=some [aT .bare (zkA a0 a1)]:=by
 have hs:=zC.1 hc;have hz:a0.Outs.length<=1048576:=hs.2.2
 refine ⟨0,?_⟩;unfold zyR oN;refine mu (br (fun _=>mu ?_) (fun _=>?_))
 all_goals first|rfl|(simp only [*,zkA,zj1,cT,cF]<;>rfl)|simp_all[Ty.cells,zkA,zj1]
theorem zB3:uV 291 zue:=kF2 zxo zq zl zn (zo []) zG1
def zKT:zK:=[(275,zoH),(291,zue)]++zQd
theorem znp:zx zKT:=zh zvF (zh zB3 zxo)
def znd (b:Bare)(g:Int)(x:Guest)(w:Bool):Bare :=
 bif zes x.Live (zdm (address x)) (zfl w) then
  (bif w then zjf { b with Memory:=zfI b.Memory (zb1 x.Live (zdm (address x)) (zfl w)) (zgT (address x)) x.A } g (zbs x)
  else zjf b g (loaded x (cellAt b.Memory (zb1 x.Live (zdm (address x)) (zfl w)) (zgT (address x)))))
 else zjf b g (stopped x (ztn (zdm (address x)) w))
def zne (b:Bare)(g:Int)(x:Guest)(w:Int):Bare :=
 zjf (cond (cond (zh8 x.Ctl.Traps w) (ieq w 5) false) (zj1 b (zc4 x.Prog x.Pc).X) b) g (zh7 x x.Ctl.Traps w)
def stepped (b:Bare)(g:Int)(x:Guest)(w:Int):Bare :=
 bif ieq w 1 then zjf b g (interrupted x) else (cond (ieq w 2) (zjf b g (plainly x)) (cond (ieq w 3) (znd b g x false) (cond (ieq w 4) (znd b g x true) (zne b g x w))))
theorem tr1 (x:Guest)(t w:Int):ieq w 6=true->zh7 x t w=stopped x (zxe (zc4 x.Prog x.Pc).X)/\zh8 t w=false:=by
 intro h;simp[zh7,zh8,h]
theorem tr2 (x:Guest)(t w:Int):ieq w 6=false->(ieq w 5=false->ieq w 6=false->ieq w 7=true)->zcN t (zer w)=true->zh7 x t w=zkW x w/\zh8 t w=false:=by
 intro h6 h7 h;unfold zh7 zh8 zkW zer at *;cases h5:ieq w 5<;>simp_all
theorem tr3 (x:Guest)(t w:Int):ieq w 6=false->ieq w 7=false->zcN t (zer w)=false->ieq w 5=true->zh7 x t w=zbs x/\zh8 t w=true:=by
 intro h6 h7 h h5;unfold zh7 zh8 zer at *
 simp_all
theorem tr4 (x:Guest)(t w:Int):ieq w 6=false->(ieq w 5=false->ieq w 6=false->ieq w 7=true)->zcN t (zer w)=false->ieq w 5=false->zh7 x t w=held x:=by
 intro h6 h7 h h5;unfold zh7 zer at *
 simp_all
def zks (b:Bare)(g:Int):Bool:=bif hasB g (ln b.Guests) then (cond (zdZ b) (!ieq (zF (gAt b g)) 0) false) else false
def zgW (b:Bare)(g:Int):Bare:=bif zks b g then stepped b g (gAt b g) (zF (gAt b g)) else b
@[simp] theorem zKo {b:Bare}{g:Int}{x:Guest}{w:Bool}(h:SmB b)(hx:SmG x):SmB (znd b g x w):=by
 unfold znd;cases zes x.Live (zdm (address x)) (zfl w)
 .exact zjg h hx
 .cases w
  .exact zjg h (zA0 _ hx)
  .exact ⟨zIg h.1,zDl h.2.1 (zfZ hx),h.2.2⟩
@[simp] theorem zRJ {b:Bare}{g:Int}{x:Guest}{w:Int}(h:SmB b)(hx:SmG x):SmB (zne b g x w):=by
 unfold zne;cases (cond (zh8 x.Ctl.Traps w) (ieq w 5) false)
 .exact zjg h (zuR _ _ hx)
 .exact zjg (zAY h) (zuR _ _ hx)
@[simp] theorem zJN {b:Bare}{g:Int}{x:Guest}{w:Int}(h:SmB b)(hx:SmG x):SmB (stepped b g x w):=by
 unfold stepped;cases ieq w 1
 .cases ieq w 2
  .cases ieq w 3
   .cases ieq w 4
    .exact zRJ h hx
    .exact zKo h hx
   .exact zKo h hx
  .exact zjg h (zw0 hx)
 .exact zjg h (zKp hx)
@[simp] theorem zTp {b:Bare}{g:Int}(h:SmB b):SmB (zgW b g):=by
 unfold zgW;cases zks b g
 .exact h
 .exact zJN h (zAZ g h)
theorem zQQ (x:Guest):ieq (zF x) 0=false->ieq (zF x) 1=false->ieq (zF x) 2=false->ieq (zF x) 3=false->ieq (zF x) 4=false->ieq (zF x) 5=false->ieq (zF x) 6=false->ieq (zF x) 7=true:=by
 unfold zF zAJ;cases canRun x
 .intro h;cases h
 .cases zjh x
  .simp only [cT,cF];generalize (zc4 x.Prog x.Pc).Op=o;cases ieq o 3<;>cases ieq o 4<;>cases ieq o 5<;>cases ieq o 6<;>cases ieq o 7<;>simp [ieq]
  .intro _ h;cases h
theorem zKb {x:Int}{a b:Int}(h:ieq x a=true)(hab:ieq a b=false):ieq x b=false:=by
 have:x=a:=by simpa [ieq] using h
 rw[this];exact hab
@[simp] abbrev zny (b:Bare)(g:Int):Bool:=pc (SmB b)
@[simp] abbrev zfO (b:Bare)(g:Int):Bare:=zgW b g
@[simp] abbrev zjG (b:Bare)(g:Int):Bool:=zks b g
def zkN:Run:=rF2 (dT .bare) dI fun b c=>(zny b c,[aT .bare (zfO b c),aB (zjG b c)])
def zsK (N:Nat)(a0:Bare)(a1:Int):OA:=
 let y21:=a0.Memory;let y12:=(aT .bare (zcM a0));let y0:=(zfC a0 a1);let y20:=y0.Ctl.Traps;let y18:=(aT .bare (zb4 a0 a1 (zio y0)));let y6:=(zeO y0);let y15:=(aT .bare (zb4 a0 a1 (zfX y0 y6)));let y4:=(zg6 y0);let y16:=(zdR y4);let y10:=(zcL y4);let y3:=(ieq y6 4);let y8:=(zfB y10 y3);let y13:=(aT .bare (zb4 a0 a1 (zdc y0 y8)));let y2:=(zec y0.Prog y0.Pc).X;let y19:=(zbr (zkA a0 y2) a1 (zb9 y0));let y11:=(aT .bare (zb4 (zkA a0 y2) a1 (zb9 y0)));let y9:=(zdc y0 (zf2 y2));let y1:=(ze9 y0.Live y10 (zc9 y3));let y7:=(zi1 y21 y1 y16);let y14:=(aT .bare (zb4 a0 a1 (zg9 y0 y7)));let y5:=({ a0 with Memory:=(zhT y21 y1 y16 y0.A) }:Bare);let y17:=(aT .bare (zb4 y5 a1 (zhb y0))); (oN (zfD a0 a1) (oN (zf7 y0) (oN (zhN a0) (cond (nB (zc3 a0)) (oN (zd6 a0) (some [y12,(aB false)])) (cond (nB (zez a0 a1)) (oN (zd6 a0) (some [y12,(aB false)])) (cond (ieq y6 0) (oN (zd6 a0) (some [y12,(aB false)])) (oN (zk7 y0) (oN (zd5 y0.Prog y0.Pc) (cond (ieq y6 1) (oN (zjL y0) (oN (zbr a0 a1 (ze8 y0)) (some [(aT .bare (zb4 a0 a1 (ze8 y0))),(aB true)]))) (cond (ieq y6 2) (oN (zpe y0) (oN (zbr a0 a1 (zjq y0)) (some [(aT .bare (zb4 a0 a1 (zjq y0))),(aB true)]))) (cond (ieq y6 3) (cond (ieq y6 3) (oN (zd4 y4) (oN (zjN y3) (oN (zgq y0.Live y10 (zc9 y3)) (cond (nB (zej y0.Live y10 (zc9 y3))) (oN (zd4 y4) (oN (zgn y10 y3) (oN (zcG y0 y8) (oN (zbr a0 a1 (zdc y0 y8)) (some [y13,(aB true)]))))) (cond y3 (oN (zd3 y4) (oN (zhd y21 y1 y16 y0.A) (oN (zjR y0) (oN (zbr y5 a1 (zhb y0)) (some [y17,(aB true)]))))) (oN (zd3 y4) (oN (zjK y21 y1 y16) (oN (zjM y0 y7) (oN (zbr a0 a1 (zg9 y0 y7)) (some [y14,(aB true)])))))))))) (cond (ieq y6 6) (oN (zjJ y2) (oN (zcG y0 (zf2 y2)) (oN (zbr a0 a1 y9) (some [(aT .bare (zb4 a0 a1 y9)),(aB true)])))) (oN (zjU y6) (oN (zgD y20 (zeR y6)) (cond (zfW y20 (zeR y6)) (oN (zit y0 y6) (oN (zbr a0 a1 (zfX y0 y6)) (some [y15,(aB true)]))) (cond (ieq y6 5) (oN (zmG a0 y2) (oN (zcj y0) (oN y19 (some [y11,(aB true)])))) (oN (zi2 y0) (oN (zbr a0 a1 (zio y0)) (some [y18,(aB true)]))))))))) (cond y3 (oN (zd4 y4) (oN (zjN y3) (oN (zgq y0.Live y10 (zc9 y3)) (cond (nB (zej y0.Live y10 (zc9 y3))) (oN (zd4 y4) (oN (zgn y10 y3) (oN (zcG y0 y8) (oN (zbr a0 a1 (zdc y0 y8)) (some [y13,(aB true)]))))) (cond y3 (oN (zd3 y4) (oN (zhd y21 y1 y16 y0.A) (oN (zjR y0) (oN (zbr y5 a1 (zhb y0)) (some [y17,(aB true)]))))) (oN (zd3 y4) (oN (zjK y21 y1 y16) (oN (zjM y0 y7) (oN (zbr a0 a1 (zg9 y0 y7)) (some [y14,(aB true)])))))))))) (cond (ieq y6 6) (oN (zjJ y2) (oN (zcG y0 (zf2 y2)) (oN (zbr a0 a1 y9) (some [(aT .bare (zb4 a0 a1 y9)),(aB true)])))) (oN (zjU y6) (oN (zgD y20 (zeR y6)) (cond (zfW y20 (zeR y6)) (oN (zit y0 y6) (oN (zbr a0 a1 (zfX y0 y6)) (some [y15,(aB true)]))) (cond (ieq y6 5) (oN (zmG a0 y2) (oN (zcj y0) (oN y19 (some [y11,(aB true)])))) (oN (zi2 y0) (oN (zbr a0 a1 (zio y0)) (some [y18,(aB true)]))))))))))))))))))))
theorem zCJ (a0:Bare)(a1:Int)(hc:zny a0 a1=true):∃N,zsK N a0 a1=some [aT .bare (zfO a0 a1),aB (zjG a0 a1)]:=by
 have hs:=zC.1 hc;have hx:=zAZ a1 hs;have hz:_/\_/\_:=hs;have hg:a0.Guests.length<=1048576:=hs.2.1.1;have hw7:=zQQ (gAt a0 a1);have h34:ieq (zF (gAt a0 a1)) 3=true->ieq (zF (gAt a0 a1)) 4=false:=fun h=>zKb h rfl;have h57:ieq (zF (gAt a0 a1)) 5=true->ieq (zF (gAt a0 a1)) 7=false:=fun h=>zKb h rfl;have t1:=tr1 (gAt a0 a1) (gAt a0 a1).Ctl.Traps (zF (gAt a0 a1));have t2:=tr2 (gAt a0 a1) (gAt a0 a1).Ctl.Traps (zF (gAt a0 a1));have t3:=tr3 (gAt a0 a1) (gAt a0 a1).Ctl.Traps (zF (gAt a0 a1));have t4:=tr4 (gAt a0 a1) (gAt a0 a1).Ctl.Traps (zF (gAt a0 a1));have hp:∀n,SmB (zj1 a0 n):=fun n=>zAY hs
 refine ⟨0,?_⟩;unfold zsK oN nB
 conv=>zeta
 refine mu (must rfl (must rfl (brN (fun _=>mu ?_) (fun _=>brN (fun _=>mu ?_) (fun _=>br (fun _=>mu ?_) (fun _=>must rfl (must rfl (br (fun _=>mu (mu ?_)) (fun _=>br (fun _=>mu (mu ?_)) (fun _=>br (fun _=>br (fun _=>must rfl (must rfl (must rfl (brN (fun _=>must rfl (must rfl (mu (mu ?_)))) (fun _=>br (fun _=>must rfl (mu (mu (mu ?_)))) (fun _=>must rfl (must rfl (mu (mu ?_))))))))) (fun _=>br (fun _=>must rfl (mu (mu ?_))) (fun _=>must rfl (must rfl (br (fun _=>mu (mu ?_)) (fun _=>br (fun _=>mu (mu (mu ?_))) (fun _=>mu (mu ?_)))))))) (fun _=>br (fun _=>must rfl (must rfl (must rfl (brN (fun _=>must rfl (must rfl (mu (mu ?_)))) (fun _=>br (fun _=>must rfl (mu (mu (mu ?_)))) (fun _=>must rfl (must rfl (mu (mu ?_))))))))) (fun _=>br (fun _=>must rfl (mu (mu ?_))) (fun _=>must rfl (must rfl (br (fun _=>mu (mu ?_)) (fun _=>br (fun _=>mu (mu (mu ?_))) (fun _=>mu (mu ?_))))))))))))))))))
 all_goals first|rfl|(simp only [*,zfO,zjG,zgW,zks,stepped,znd,zne,zhw,zfl,cT,cF]<;>rfl)|simp_all[Ty.cells,zfO,zjG,zgW,zks,stepped,znd,zne,zhw,zfl]
theorem znw:uV 174 zkN:=kF2 znp zq zl zn (zo []) zCJ
def SmK (k:Kept):Prop:=k.Known.length<=1048576/\k.Slots.length<=1048576
def zBr (l:List Kept):Prop:=l.length<=1048576/\∀x∈l,SmK x
def ziL (m:Mon):Prop:=m.Outer.length<=1048576/\SmM m.Out/\m.Dirty.length<=1048576/\znk m.Guests/\m.Outs.length<=1048576/\zBr m.Tables
def zs9 (l:List Mon):Prop:=l.length<=1048576/\∀x∈l,ziL x
def SmH (h:Host):Prop:=SmM h.Memory/\zs9 h.Mons/\h.Buffer.length<=1048576/\h.IoBuffer.length<=1048576
@[simp] theorem zu1 (k:Kept):(∀c∈Ty.cells .kept k,CVB sm c)↔SmK k:=by simp[Ty.cells,SmK,zPj]
@[simp] theorem zOJ (l:List Kept):CVB sm (.s .kept l)↔zBr l:=by rw[zhH];simp only[zu1];rfl
@[simp] theorem zQ0 (m:Mon):(∀c∈Ty.cells .mon m,CVB sm c)↔ziL m:=by
 simp only[Ty.cells,qG,qU,or_false,uT,forall_eq,zm3,ztj,zOJ,zKU,zIZ,zIY,zQu,and_true,true_and];rfl
@[simp] theorem zRd (l:List Mon):CVB sm (.s .mon l)↔zs9 l:=by rw[zhH];simp only[zQ0];rfl
@[simp] theorem zbI (h:Host):zcQ h↔SmH h:=by
 unfold zcQ;simp only[zbi,qG,qU,or_false,uT,forall_eq,zm3,zRd,zGk];rfl
theorem zbh {p:Prop}(h:p):pc p=true:=zbF h
theorem zKr {l:List Kept}{i:Int}{x:Kept}(h:zBr l)(hx:SmK x):zBr (up l i x):=by
 refine ⟨by simpa using h.1,fun y hy=>?_⟩
 rcases jQ hy with hy|rfl
 .exact h.2 y hy
 .exact hx
theorem zuS {l:List Mon}{i:Int}{x:Mon}(h:zs9 l)(hx:ziL x):zs9 (up l i x):=by
 refine ⟨by simpa using h.1,fun y hy=>?_⟩
 rcases jQ hy with hy|rfl
 .exact h.2 y hy
 .exact hx
theorem zpN {α:Type}{l:List α}(h:l.length<=1048576):few (ln (ap [] l))=true:=by
 rw[zij,zRl];omega
@[simp] abbrev zd7 (k:Kept):Bool:=pc (SmK k)
@[simp] abbrev zcb (k:Kept):Kept:=k
def zqn:Run:=rF1 (dT .kept) fun b=>(zd7 b,[aT .kept (zcb b)])
def zsW (N:Nat)(a0:Kept):OA:=
 (oN (few (ln (ap [] a0.Known))) (oN (zek a0.Slots) (some [(aT .kept (⟨(ap [] a0.Known),(zdk a0.Slots)⟩:Kept))])))
theorem zCV (a0:Kept)(hc:zd7 a0=true):∃N,zsW N a0=some [aT .kept (zcb a0)]:=by
 have hs:=zC.1 hc;obtain ⟨h1,h2⟩:=hs;have hs1:a0.Known.length<=2147483648:=(by omega);have hs2:a0.Slots.length<=2147483648:=(by omega)
 refine ⟨0,?_⟩;unfold zsW oN;refine mu (mu ?_)
 first|rfl|(simp only [*,zcb,cT,cF]<;>rfl)|simp_all[Ty.cells,zcb]
theorem zxL:uV 154 zqn:=kF1 znp zq zl zn (zo []) zCV
def zP1:zK:=[(154,zqn)]++zKT
theorem zGb:zx zP1:=zh zxL znp
@[simp] abbrev zgE (m:Mon):Bool:=pc (ziL m)
@[simp] abbrev zhf (m:Mon):Mon:=m
def zsp:Run:=rF1 (dT .mon) fun b=>(zgE b,[aT .mon (zhf b)])
def zv8 (N:Nat)(a0:Mon):OA:=
 (oN (zek a0.Outer) (oN (zdS a0.Out) (oN (few (ln (ap [] a0.Dirty))) (oN (zdL a0.Guests) (oN (zcq a0.Outs) (iter (σ:=(Int×(Int×(Int×(Int×(Int×(Int×(Int×(Int×(lK×(lK×(lS×(lM×(lB×(lG×((List Int)×(lS×(lM×(lB×(lG×((List Int)×(lK×Unit)))))))))))))))))))))) N (fun r2 s3=>let y5:=s3.2.2.2.2.2.2.2.2.2.2.2.2.1;let y4:=s3.2.2.2.2.2.2.2.2.2.2.2.2.2.1;let y3:=s3.2.2.2.2.2.2.2.2.2.2.2.2.2.2.1;let y2:=s3.2.2.2.2.2.2.2.2.1;let y1:=s3.2.2.2.2.2.2.2.2.2.1;let y0:=(ix y1 s3.2.1 zdw); (cond (ilt s3.2.1 s3.1) (oN (inb s3.2.1 (ln y1)) (oN (zd7 y0) (oN (few (ln (ap y2 [(zcb y0)]))) (r2 (s3.1,((zB .i64 s3.2.1 1),(s3.2.2.1,(s3.2.2.2.1,(s3.2.2.2.2.1,(s3.2.2.2.2.2.1,(s3.2.2.2.2.2.2.1,(s3.2.2.2.2.2.2.2.1,((ap y2 [(zcb y0)]),(y1,(s3.2.2.2.2.2.2.2.2.2.2.1,(s3.2.2.2.2.2.2.2.2.2.2.2.1,(y5,(y4,(y3,(s3.2.2.2.2.2.2.2.2.2.2.2.2.2.2.2.1,(s3.2.2.2.2.2.2.2.2.2.2.2.2.2.2.2.2.1,(s3.2.2.2.2.2.2.2.2.2.2.2.2.2.2.2.2.2.1,(s3.2.2.2.2.2.2.2.2.2.2.2.2.2.2.2.2.2.2.1,(s3.2.2.2.2.2.2.2.2.2.2.2.2.2.2.2.2.2.2.2.1,(s3.2.2.2.2.2.2.2.2.2.2.2.2.2.2.2.2.2.2.2.2.1,()))))))))))))))))))))))))) (some [(aT .mon (⟨s3.2.2.2.2.2.2.2.2.2.2.1,s3.2.2.2.2.2.2.2.2.2.2.2.1,y5,y4,y3,s3.2.2.1,s3.2.2.2.1,y2,s3.2.2.2.2.1⟩:Mon))]))) ((ln a0.Tables),(0,(a0.Pending,(a0.Traps,(a0.Own,(0,(0,(0,([],(a0.Tables,((zdk a0.Outer),((zck a0.Out),((ap [] a0.Dirty),((zeP a0.Guests),((zcm a0.Outs),([],([],([],([],([],([],())))))))))))))))))))))))))))
def zFm:FuncId->Nat->Option Tmpl:=zo [(159,0,{ n:=44,tm:=[(1,.lp 0 0),(2,.lp 1 0),(3,.sl 0 []),(29,.sl 1 []),(30,ti),(31,ti)],lo:=[(0,[.sl 2 [],.sl 3 [],.sl 4 [],.sl 5 [],.sl 6 [],ti,ti,.sl 1 [],ti]),(1,[.sl 7 [],.sl 8 [],.sl 9 [],.sl 10 [],.sl 11 [],ti,ti,.sl 12 [],ti])],ro:=[(0,.kept,true),(1,.kept,false),(2,.slot,true),(3,(.sl .int),true),(4,.bool,true),(5,.guest,true),(6,.int,true),(7,.slot,true),(8,(.sl .int),true),(9,.bool,true),(10,.guest,true),(11,.int,true),(12,.kept,true)] })]
theorem zEV (a0:Mon)(hc:zgE a0=true):∃N,zv8 N a0=some [aT .mon (zhf a0)]:=by
 obtain ⟨h1,h2,h3,h4,h5,h6⟩:=zC.1 hc;have hl:=zci h6.1;refine zbN fun N hNN=>?_;unfold zv8 oN
 conv=>zeta
 have c1:zek a0.Outer=true:=by simp;omega
 have c2:zdS a0.Out=true:=by simp;exact h2
 have c4:zdL a0.Guests=true:=by simp;exact h4
 have c5:zcq a0.Outs=true:=by simp;omega
 refine must c1 (must c2 (must (zpN h3) (must c4 (must c5 ?_))));refine (zW a0.Tables (fun i (t:lK)=>((ln a0.Tables),(i:Int),a0.Pending,a0.Traps,a0.Own,0,0,0,t,a0.Tables,(zdk a0.Outer),(zck a0.Out),(ap [] a0.Dirty),(zeP a0.Guests),(zcm a0.Outs),[],[],[],[],[],[],())) _ (fun _ x acc κ=>bif zd7 x then (cond (few (ln (ap acc [zcb x]))) (κ (ap acc [zcb x])) none) else none) (fun (t:lK)=>(some [(.agg (Ty.cells .mon (⟨(zdk a0.Outer),(zck a0.Out),(ap [] a0.Dirty),(zeP a0.Guests),(zcm a0.Outs),a0.Pending,a0.Traps,t,a0.Own⟩:Mon)))])) (fun i hi t rec=>?_) (fun t rec=>?_) _ ([]) (hNN hl.1)).trans ?_
 .simp only [zbp hi,zY hi,zbc hi,zQ hi hl.1,cT]
 .simp only [zbg,cF]
 exact zgV zd7 zcb _ a0.Tables 0 [] (fun x hx=>⟨zbh (h6.2 x hx),rfl⟩) (by simpa using hl.2)
theorem zzW:uV 159 zsp:=kF1 zGb zq zl zn zFm zEV
def zP2:zK:=[(159,zsp)]++zP1
theorem zqR:zx zP2:=zh zzW zGb
@[simp] abbrev zeQ (h:Host):Bool:=pc (zcQ h)
@[simp] abbrev zbe (h:Host):Host:=h
def zql:Run:=rF1 dH fun b=>(zeQ b,[aH (zbe b)])
def zsU (N:Nat)(a0:Host):OA:=
 (oN (zdS a0.Memory) (oN (few (ln (ap [] a0.Buffer))) (oN (few (ln (ap [] a0.IoBuffer))) (iter (σ:=(Int×(Int×(lN×(lM×(lN×(lE×(lE×(lM×(lN×(lE×(lE×Unit)))))))))))) N (fun r2 s3=>let y1:=(ix s3.2.2.1 s3.2.1 zi);let y0:=(ap s3.2.2.2.2.2.2.2.2.1 [(zhf y1)]); (cond (ilt s3.2.1 s3.1) (oN (inb s3.2.1 (ln s3.2.2.1)) (oN (zgE y1) (oN (few (ln y0)) (r2 (s3.1,((zB .i64 s3.2.1 1),(s3.2.2.1,(s3.2.2.2.1,(s3.2.2.2.2.1,(s3.2.2.2.2.2.1,(s3.2.2.2.2.2.2.1,(s3.2.2.2.2.2.2.2.1,(y0,(s3.2.2.2.2.2.2.2.2.2.1,(s3.2.2.2.2.2.2.2.2.2.2.1,()))))))))))))))) (some [(aH (⟨s3.2.2.2.2.2.2.2.1,s3.2.2.2.2.2.2.2.2.1,s3.2.2.2.2.2.2.2.2.2.1,s3.2.2.2.2.2.2.2.2.2.2.1⟩:Host))]))) ((ln a0.Mons),(0,(a0.Mons,([],([],([],([],((zck a0.Memory),([],((ap [] a0.Buffer),((ap [] a0.IoBuffer),())))))))))))))))
def zDq:FuncId->Nat->Option Tmpl:=zo [(68,0,{ n:=34,tm:=[(2,.lp 0 0),(3,.lp 1 0),(19,.sl 0 []),(20,ti),(21,ti)],lo:=[(0,[.sl 1 [],.sl 2 [],.sl 3 [],.sl 4 []]),(1,[.sl 5 [],.sl 6 [],.sl 7 [],.sl 8 []])],ro:=[(0,.mon,false),(1,(.sl .int),true),(2,.mon,true),(3,.entry,true),(4,.entry,true),(5,(.sl .int),true),(6,.mon,true),(7,.entry,true),(8,.entry,true)] })]
theorem zCT (a0:Host)(hc:zeQ a0=true):∃N,zsU N a0=some [aH (zbe a0)]:=by
 obtain ⟨h1,h2,h3,h4⟩:=(zbI a0).1 (zC.1 hc);have hl:=zci h2.1;refine zbN fun N hNN=>?_;unfold zsU oN
 conv=>zeta
 have c1:zdS a0.Memory=true:=by simp;exact h1
 refine must c1 (must (zpN h3) (must (zpN h4) ?_));refine (zW a0.Mons (fun i (t:lN)=>((ln a0.Mons),(i:Int),a0.Mons,[],[],[],[],(zck a0.Memory),t,(ap [] a0.Buffer),(ap [] a0.IoBuffer),())) _ (fun _ x acc κ=>bif zgE x then (cond (few (ln (ap acc [zhf x]))) (κ (ap acc [zhf x])) none) else none) (fun (t:lN)=>(some [(.agg (zbi (⟨(zck a0.Memory),t,(ap [] a0.Buffer),(ap [] a0.IoBuffer)⟩:Host)))])) (fun i hi t rec=>?_) (fun t rec=>?_) _ ([]) (hNN hl.1)).trans ?_
 .simp only [zbp hi,zY hi,zbc hi,zQ hi hl.1,cT]
 .simp only [zbg,cF]
 exact zgV zgE zhf _ a0.Mons 0 [] (fun x hx=>⟨zbh (h2.2 x hx),rfl⟩) (by simpa using hl.2)
theorem zxJ:uV 68 zql:=kF1 zqR zq zl zn zDq zCT
def allI {α:Type}(p:Nat->α->Bool):List α->Nat->Bool
 | [],_=>true
 | x :: l,i=>p i x&&allI p l (i+1)
theorem zxu {α ρ:Type}(p:Nat->α->Bool)(r:Option ρ)(K:Unit->Option ρ):∀(l:List α) (i:Nat),goL (fun i x (_:Unit) k=>bif p i x then k () else r) K l i ()=bif allI p l i then K () else r
 | [],_=>rfl
 | x :: l,i=>by
  simp only[goL,allI];cases p i x
  .rfl
  .simp only [cT,uE];exact zxu p r K l (i+1)
theorem zDM {α:Type}(q:α->Bool)(l:List α)(d:α):∀(n i:Nat),i+n<=l.length->znl (fun j=>q (ix l (j:Int) d)) n i=((l.drop i).take n).all q
 | 0,i,_=>by simp[znl]
 | n+1,i,h=>by
  have hi:i<l.length:=by omega
  rw[kF hi,List.take_succ_cons,kQ,<- zDM q l d n (i+1) (by omega)]
  simp only[znl,zbc hi]
def sameKey (a b:Entry):Bool:=bif ieq a.Tag b.Tag then ieq a.Page b.Page else false
def alone (l:List Entry)(i:Nat)(x:Entry):Bool:=(l.take i).all fun y=>!sameKey x y
def zk2 (l:List Entry):Bool:=bif allI (alone l) l 0 then ile (ln l) 6 else false
theorem zOQ {α:Type}{l:List α}{i:Nat}(h:i<=l.length):inr 0 (i:Int) (ln l)=true:=qN (by simp only[ln];omega)
@[simp] abbrev zjI (l:List Entry):Bool:=true
@[simp] abbrev zjH (l:List Entry):Bool:=zk2 l
def zqc:Run:=rF1 (dS .entry) fun b=>(zjI b,[aB (zjH b)])
def zsL (N:Nat)(a0:lE):OA:=
 (iter (σ:=(Int×(Int×(lE×Unit)))) N (fun r2 s3=>let y3:=s3.2.2.1;let y1:=(ix y3 s3.2.1 zdy); (cond (ilt s3.2.1 s3.1) (oN (inb s3.2.1 (ln y3)) (oN (inr 0 s3.2.1 (ln y3)) (iter (σ:=(Int×(Int×(Int×(Int×(Int×(Int×(Int×(Int×(lE×(lE×Unit))))))))))) N (fun r4 s5=>let y4:=s5.2.2.2.1;let y2:=s5.2.2.2.2.2.2.2.2.2.1;let y0:=(r4 (s5.1,(s5.2.1,(s5.2.2.1,((zB .i64 y4 1),(s5.2.2.2.2.1,(s5.2.2.2.2.2.1,(s5.2.2.2.2.2.2.1,(s5.2.2.2.2.2.2.2.1,(s5.2.2.2.2.2.2.2.2.1,(y2,()))))))))))); (cond (ilt y4 s5.2.2.1) (oN (inb y4 (ln y2)) (cond (ieq s5.2.2.2.2.1 (ix y2 y4 zdy).Tag) (cond (ieq s5.2.2.2.2.2.1 (ix y2 y4 zdy).Page) oF y0) y0)) (r2 (s5.1,((zB .i64 s5.2.1 1),(s5.2.2.2.2.2.2.2.2.1,())))))) (s3.1,(s3.2.1,((ln (tk y3 s3.2.1)),(0,(y1.Tag,(y1.Page,(y1.Host,(y1.Rights,(y3,((tk y3 s3.2.1),()))))))))))))) (some [(aB (ile (ln y3) 6))]))) ((ln a0),(0,(a0,()))))
def zDp:FuncId->Nat->Option Tmpl:=zo [(181,0,{ n:=39,tm:=[(0,.sl 0 []),(7,.sl 0 []),(8,ti),(9,ti)],lo:=[],ro:=[(0,.entry,false)] }),(181,2,{ n:=39,tm:=[(0,.sl 0 []),(4,.lp 0 0),(7,.sl 0 []),(8,ti),(9,ti),(16,.sl 1 []),(17,ti),(18,ti)],lo:=[(0,[ti,ti,ti,ti])],ro:=[(0,.entry,false),(1,.entry,false)] })]
theorem zCK (a0:List Entry)(hb:zbu big [aS .entry a0])(hc:zjI a0=true):∃N,zsL N a0=some [aB (zjH a0)]:=by
 have hl:=(len0 hb);refine zbN fun N hNN=>?_;unfold zsL oN
 conv=>zeta
 refine (zW a0 (fun i (t:Unit)=>((ln a0),(i:Int),a0,())) _ (fun i (x:Entry) (_:Unit) κ=>bif alone a0 i x then κ () else oF) (fun (t:Unit)=>(some [(.one (.b (ile (ln a0) 6)))])) (fun i hi t rec=>?_) (fun t rec=>?_) _ () (hNN hl)).trans ?_
 .simp only [zbp hi,zY hi,zbc hi,zQ hi hl,cT];rw[zOQ (Nat.le_of_lt hi),cT];have hk:(tk a0 (i:Int)).length<=big:=jF (by simp[tk];omega) hl
  refine (zW (tk a0 (i:Int)) (fun j (u:Unit)=>((ln a0),(i:Int),(ln (tk a0 (i:Int))),(j:Int),a0[i].Tag,a0[i].Page,a0[i].Host,a0[i].Rights,a0,(tk a0 (i:Int)),())) _ (fun _ (y:Entry) (_:Unit) κ=>bif !sameKey a0[i] y then κ () else oF) (fun (u:Unit)=>(rec ((ln a0),((((i+1:Nat)):Int),(a0,()))))) (fun j hj u rec1=>?_) (fun u rec1=>?_) _ () (hNN hk)).trans ?_
  .simp only [zbp hj,zY hj,zbc hj,zQ hj hk,cT,zQ hi hl];unfold sameKey;cases ieq a0[i].Tag (tk a0 (i:Int))[j].Tag<;>cases ieq a0[i].Page (tk a0 (i:Int))[j].Page<;>rfl
  .simp only [zbg,cF,zQ hi hl]
  rw[zeG (fun y=>!sameKey a0[i] y)];rfl
 .simp only [zbg,cF]
 rw[zxu (alone a0)];unfold zjH zk2;cases allI (alone a0) a0 0<;>rfl
theorem zxA:uV 181 zqc:=hF1 zqR zq zl zn zDp zCK
@[simp] abbrev zj7 (l:List Entry):Bool:=true
@[simp] abbrev zj6 (l:List Entry):Bool:=zk2 l
def zqp:Run:=rF1 (dS .entry) fun b=>(zj7 b,[aB (zj6 b)])
def zsZ (N:Nat)(a0:lE):OA:=
 (iter (σ:=(Int×(lE×Unit))) N (fun r2 s3=>(cond (ilt s3.1 (ln s3.2.1)) (iter (σ:=(Int×(Int×(lE×Unit)))) N (fun r4 s5=>let y0:=s5.2.2.1;let y2:=(ix y0 s5.2.1 zdy);let y1:=(r4 (s5.1,((zB .i64 s5.2.1 1),(y0,())))); (cond (ilt s5.2.1 s5.1) (oN (inb s5.1 (ln y0)) (oN (inb s5.2.1 (ln y0)) (cond (ieq (ix y0 s5.1 zdy).Tag y2.Tag) (oN (inb s5.1 (ln y0)) (oN (inb s5.2.1 (ln y0)) (cond (ieq (ix y0 s5.1 zdy).Page y2.Page) oF y1))) y1))) (r2 ((zB .i64 s5.1 1),(y0,()))))) (s3.1,(0,(s3.2.1,())))) (some [(aB (ile (ln s3.2.1) 6))]))) (0,(a0,())))
def zDr:FuncId->Nat->Option Tmpl:=zo [(368,0,{ n:=43,tm:=[(0,.sl 0 []),(3,ti)],lo:=[],ro:=[(0,.entry,false)] }),(368,2,{ n:=43,tm:=[(0,.sl 0 []),(3,ti),(4,ti)],lo:=[],ro:=[(0,.entry,false)] })]
theorem zCX (a0:List Entry)(hb:zbu big [aS .entry a0])(hc:zj7 a0=true):∃N,zsZ N a0=some [aB (zj6 a0)]:=by
 have hl:=(len0 hb);refine zbN fun N hNN=>?_;unfold zsZ oN
 conv=>zeta
 refine (zW a0 (fun i (t:Unit)=>((i:Int),a0,())) _ (fun i (x:Entry) (_:Unit) κ=>bif alone a0 i x then κ () else oF) (fun (t:Unit)=>(some [(.one (.b (ile (ln a0) 6)))])) (fun i hi t rec=>?_) (fun t rec=>?_) _ () (hNN hl)).trans ?_
 .simp only [zbp hi,zY hi,zbc hi,zQ hi hl,cT];refine (znI i (fun (j:Nat) (_:Unit)=>((i:Int),((j:Int),(a0,())))) _ (fun j (_:Unit) κ=>bif !sameKey a0[i] (ix a0 (j:Int) zdy) then κ () else oF) (fun _=>rec (((i+1:Nat):Int),(a0,()))) (fun j hj u rec1=>?_) (fun u rec1=>?_) _ () (hNN (by omega))).trans ?_
  .have hj2:j<a0.length:=by omega
   simp only[show ilt (j:Int) (i:Int)=true from qN (by omega),zY hi,zY hj2,zbc hi,zQ hj2 hl,cT]
   unfold sameKey;cases ieq a0[i].Tag (ix a0 (j:Int) zdy).Tag<;>cases ieq a0[i].Page (ix a0 (j:Int) zdy).Page<;>rfl
  .simp only [show ilt (i:Int) (i:Int)=false from qK (by omega),zQ hi hl,cF]
  rw[zvd (fun j=>!sameKey a0[i] (ix a0 (j:Int) zdy)),zDM (fun y=>!sameKey a0[i] y) a0 _ i 0 (by omega)]
  rfl
 .simp only [zbg,cF]
 rw[zxu (alone a0)];unfold zj6 zk2;cases allI (alone a0) a0 0<;>rfl
theorem zxN:uV 368 zqp:=hF1 zqR zq zl zn zDr zCX
def zP3:zK:=[(68,zql),(368,zqp),(181,zqc)]++zP2
theorem zxl:zx zP3:=zh zxJ (zh zxN (zh zxA zqR))
theorem zCB (a b:Int):igt a b = !ile a b:=by
 unfold igt ile
 by_cases h:a<=b
 .rw [qN h,qK (by omega)];rfl
 .rw [qK h,qN (by omega)];rfl
theorem stB {c M:Bool}{E:OA}(h:c=true->E=some [AV.one (.b M)]):(cond (cond c false true) (some [AV.one (.b false)]) E)=some [AV.one (.b (cond c M false))]:=by
 cases c
 .rfl
 .exact h rfl
theorem stI {a b:Int}{M:Bool}{E:OA}(h:ieq a b=true->E=some [AV.one (.b M)]):(cond (ine a b) (some [AV.one (.b false)]) E)=some [AV.one (.b (cond (ieq a b) M false))]:=by
 rw[zhU];cases hh:ieq a b
 .rfl
 .exact h hh
theorem stG {a b:Int}{M:Bool}{E:OA}(h:ile a b=true->E=some [AV.one (.b M)]):(cond (igt a b) (some [AV.one (.b false)]) E)=some [AV.one (.b (cond (ile a b) M false))]:=by
 rw[zCB];cases hh:ile a b
 .rfl
 .exact h hh
def zna (s:Slot)(p:List Int):Bool:=bif zcV s noSlot then zb0 p else (cond (enough s.Rights 1) (ile (ln p) 0) false)
def fits (m:Mon)(j:Nat):Bool:=zna (ix m.Outer (j:Int) zM) (ix m.Out (j:Int) [])
def zc8 (m:Mon):Bool:=bif win (ln m.Guests) 1 2 then (cond (ieq (ln m.Tables) (ln m.Guests)) (cond (zcu m.Outer 8 12) (cond (ieq (ln m.Out) 8) (cond (ieq (ln m.Dirty) 8) (cond (ile (ln m.Outs) 40) (cond (zdE m.Pending) (cond (win m.Traps 0 3) (cond (win m.Own 0 1000000000) (cond (m.Guests.all zcf) (znl (fits m) 8 0) false) false) false) false) false) false) false) false) false) else false
theorem zoX {t:List Slot}{n p:Int}(h:zcu t n p=true):ln t=n:=by
 unfold zcu at h;cases h1:t.all (fun s=>zdv s p)
 .rw [h1]at h;cases h
 .rw [h1]at h;exact qJ h
@[simp] abbrev zlA (m:Mon):Bool:=true
@[simp] abbrev zm7 (m:Mon):Bool:=zc8 m
def zwJ:Run:=rF1 (dT .mon) fun b=>(zlA b,[aB (zm7 b)])
def zDC (N:Nat)(a0:Mon):OA:=
 let y5:=(ln a0.Guests); (oN (zbf y5 1 2) (cond (nB (zbo y5 1 2)) oF (cond (ine (ln a0.Tables) y5) oF (oN (ziq a0.Outer 8 12) (cond (nB (zfk a0.Outer 8 12)) oF (cond (ine (ln a0.Out) 8) oF (cond (ine (ln a0.Dirty) 8) oF (cond (igt (ln a0.Outs) 40) oF (oN (zf5 a0.Pending) (cond (nB (zf4 a0.Pending)) oF (oN (zbf a0.Traps 0 3) (cond (nB (zbo a0.Traps 0 3)) oF (oN (zbf a0.Own 0 1000000000) (cond (nB (zbo a0.Own 0 1000000000)) oF (iter (σ:=(Int×(Int×(Int×(Int×(Int×(lG×(lS×(lM×(lB×((List Int)×(lK×Unit)))))))))))) N (fun r2 s3=>let y6:=s3.2.2.2.2.2.2.1;let y3:=s3.2.2.2.2.2.1;let y7:=(ix y3 s3.2.1 zG); (cond (ilt s3.2.1 s3.1) (oN (inb s3.2.1 (ln y3)) (oN (zin y7) (cond (nB (zg7 y7)) oF (r2 (s3.1,((zB .i64 s3.2.1 1),(s3.2.2.1,(s3.2.2.2.1,(s3.2.2.2.2.1,(y3,(y6,(s3.2.2.2.2.2.2.2.1,(s3.2.2.2.2.2.2.2.2.1,(s3.2.2.2.2.2.2.2.2.2.1,(s3.2.2.2.2.2.2.2.2.2.2.1,()))))))))))))))) (iter (σ:=(Int×(Int×(Int×(Int×(Int×(lS×(lM×(lB×(lG×((List Int)×(lK×Unit)))))))))))) N (fun r4 s5=>let y4:=s5.2.1;let y2:=s5.2.2.2.2.2.2.1;let y1:=(ix s5.2.2.2.2.2.1 y4 zM);let y0:=(r4 (s5.1,((zB .i64 y4 1),(s5.2.2.1,(s5.2.2.2.1,(s5.2.2.2.2.1,(s5.2.2.2.2.2.1,(y2,(s5.2.2.2.2.2.2.2.1,(s5.2.2.2.2.2.2.2.2.1,(s5.2.2.2.2.2.2.2.2.2.1,(s5.2.2.2.2.2.2.2.2.2.2.1,())))))))))))); (cond (ilt y4 s5.1) (oN (inb y4 (ln s5.2.2.2.2.2.1)) (oN zca (cond (cond (ieq y1.Page zbK.Page) (ieq y1.Rights zbK.Rights) false) (oN (inb y4 (ln y2)) (oN (zfj (ix y2 y4 [])) (cond (nB (zei (ix y2 y4 []))) oF y0))) (oN (zcl y1.Rights 1) (cond (nB (zcK y1.Rights 1)) oF (oN (inb y4 (ln y2)) (cond (igt (ln (ix y2 y4 [])) 0) oF y0))))))) oT)) ((ln y6),(0,(s3.2.2.1,(s3.2.2.2.1,(s3.2.2.2.2.1,(y6,(s3.2.2.2.2.2.2.2.1,(s3.2.2.2.2.2.2.2.2.1,(y3,(s3.2.2.2.2.2.2.2.2.2.1,(s3.2.2.2.2.2.2.2.2.2.2.1,())))))))))))))) (y5,(0,(a0.Pending,(a0.Traps,(a0.Own,(a0.Guests,(a0.Outer,(a0.Out,(a0.Dirty,(a0.Outs,(a0.Tables,()))))))))))))))))))))))))))
def zJR:FuncId->Nat->Option Tmpl:=zo [(182,0,{ n:=106,tm:=[(1,.lp 0 0),(64,.sl 0 []),(65,ti),(66,ti)],lo:=[(0,[.sl 1 [],.sl 2 [],.sl 3 [],.sl 0 [],.sl 4 [],ti,ti,.sl 5 [],ti])],ro:=[(0,.guest,false),(1,.slot,false),(2,(.sl .int),false),(3,.bool,false),(4,.int,false),(5,.kept,false)] }),(182,2,{ n:=106,tm:=[(1,.lp 0 0),(75,.sl 0 []),(76,ti),(77,ti)],lo:=[(0,[.sl 0 [],.sl 1 [],.sl 2 [],.sl 3 [],.sl 4 [],ti,ti,.sl 5 [],ti])],ro:=[(0,.slot,false),(1,(.sl .int),false),(2,.bool,false),(3,.guest,false),(4,.int,false),(5,.kept,false)] })]
theorem zJh (a0:Mon)(hb:zbu big [aT .mon a0])(hc:zlA a0=true):∃N,zDC N a0=some [aB (zm7 a0)]:=by
 have hg:a0.Guests.length<=big:=((zcy hb).1 (.s .guest a0.Guests) (by simp[AV.cvs,Ty.cells])).len
 have ho:a0.Outer.length<=big:=((zcy hb).1 (.s .slot a0.Outer) (by simp[AV.cvs,Ty.cells])).len
 refine zbN fun N hNN=>?_;unfold zDC zm7 zc8 oN nB
 conv=>zeta
 refine must rfl (stB fun h0=>stI fun h1=>must rfl (stB fun h2=>stI fun h3=>stI fun h4=>stG fun h5=>must rfl (stB fun h6=>must rfl (stB fun h7=>must rfl (stB fun h8=>?_)))));have e1:=zoX h2;have e3:ln a0.Out=8:=qJ h3;simp only[ln] at e1 e3;refine (zW a0.Guests (fun i (t:Unit)=>((ln a0.Guests),(i:Int),a0.Pending,a0.Traps,a0.Own,a0.Guests,a0.Outer,a0.Out,a0.Dirty,a0.Outs,a0.Tables,())) _ (fun _ (x:Guest) (_:Unit) κ=>bif zcf x then κ () else oF) (fun (t:Unit)=>(iter (σ:=(Int×(Int×(Int×(Int×(Int×(lS×(lM×(lB×(lG×((List Int)×(lK×Unit)))))))))))) N (fun r4 s5=>(cond (ilt s5.2.1 s5.1) (cond (inb s5.2.1 (ln s5.2.2.2.2.2.1)) (cond zca (cond (cond (ieq (ix s5.2.2.2.2.2.1 s5.2.1 zM).Page zbK.Page) (ieq (ix s5.2.2.2.2.2.1 s5.2.1 zM).Rights zbK.Rights) false) (cond (inb s5.2.1 (ln s5.2.2.2.2.2.2.1)) (cond (zfj (ix s5.2.2.2.2.2.2.1 s5.2.1 [])) (cond (cond (zei (ix s5.2.2.2.2.2.2.1 s5.2.1 [])) false true) oF (r4 (s5.1,((zB .i64 s5.2.1 1),(s5.2.2.1,(s5.2.2.2.1,(s5.2.2.2.2.1,(s5.2.2.2.2.2.1,(s5.2.2.2.2.2.2.1,(s5.2.2.2.2.2.2.2.1,(s5.2.2.2.2.2.2.2.2.1,(s5.2.2.2.2.2.2.2.2.2.1,(s5.2.2.2.2.2.2.2.2.2.2.1,()))))))))))))) none) none) (cond (zcl (ix s5.2.2.2.2.2.1 s5.2.1 zM).Rights 1) (cond (cond (zcK (ix s5.2.2.2.2.2.1 s5.2.1 zM).Rights 1) false true) oF (cond (inb s5.2.1 (ln s5.2.2.2.2.2.2.1)) (cond (igt (ln (ix s5.2.2.2.2.2.2.1 s5.2.1 [])) 0) oF (r4 (s5.1,((zB .i64 s5.2.1 1),(s5.2.2.1,(s5.2.2.2.1,(s5.2.2.2.2.1,(s5.2.2.2.2.2.1,(s5.2.2.2.2.2.2.1,(s5.2.2.2.2.2.2.2.1,(s5.2.2.2.2.2.2.2.2.1,(s5.2.2.2.2.2.2.2.2.2.1,(s5.2.2.2.2.2.2.2.2.2.2.1,()))))))))))))) none)) none)) none) none) (some [(.one (.b true))]))) ((ln a0.Outer),(0,(a0.Pending,(a0.Traps,(a0.Own,(a0.Outer,(a0.Out,(a0.Dirty,(a0.Guests,(a0.Outs,(a0.Tables,()))))))))))))) (fun i hi t rec=>?_) (fun t rec=>?_) _ () (hNN hg)).trans ?_
 .simp only [zbp hi,zY hi,zbc hi,zQ hi hg,cT];simp only[zin,zg7,cT];cases zcf a0.Guests[i]<;>rfl
 .simp only [zbg,cF]
 rw[zeG zcf];cases a0.Guests.all zcf
 .rfl
 simp only[cT];refine (zW a0.Outer (fun j (u:Unit)=>((ln a0.Outer),(j:Int),a0.Pending,a0.Traps,a0.Own,a0.Outer,a0.Out,a0.Dirty,a0.Guests,a0.Outs,a0.Tables,())) _ (fun j (_:Slot) (_:Unit) κ=>bif fits a0 j then κ () else oF) (fun (u:Unit)=>(some [(.one (.b true))])) (fun j hj u rec1=>?_) (fun u rec1=>?_) _ () (hNN ho)).trans ?_
 .simp only [zbp hj,zY hj,zbc hj,zQ hj ho,cT];have hj2:j<a0.Out.length:=by omega
  simp only[zca,zbK,zfj,zei,zcl,zcK,zY hj2,zCB,cT];unfold fits zna;simp only[zbc hj,zcV];cases ieq a0.Outer[j].Page noSlot.Page<;>cases ieq a0.Outer[j].Rights noSlot.Rights<;>cases enough a0.Outer[j].Rights 1<;>cases ile (ln (ix a0.Out (j:Int) [])) 0<;>cases zb0 (ix a0.Out (j:Int) [])<;>rfl
 .simp only [zbg,cF]
 rw[zpQ (fun j (_:Unit) κ=>bif fits a0 j then κ () else oF),zvd (fits a0),show a0.Outer.length=8 by omega]
 cases znl (fits a0) 8 0<;>rfl
theorem zEx:uV 182 zwJ:=hF1 zxl zq zl zn zJR zJh
@[simp] abbrev zlH (m:Mon):Bool:=true
@[simp] abbrev znc (m:Mon):Bool:=zc8 m
def zwP:Run:=rF1 (dT .mon) fun b=>(zlH b,[aB (znc b)])
def zDJ (N:Nat)(a0:Mon):OA:=
 (oN (zT (ln a0.Guests) 1 2) (cond (nB (zZ (ln a0.Guests) 1 2)) oF (cond (ine (ln a0.Tables) (ln a0.Guests)) oF (oN (ziD a0.Outer 8 12) (cond (nB (zfp a0.Outer 8 12)) oF (cond (ine (ln a0.Out) 8) oF (cond (ine (ln a0.Dirty) 8) oF (iter (σ:=(Int×(Int×(Int×(Int×(lS×(lM×(lB×(lG×((List Int)×(lK×Unit))))))))))) N (fun r2 s3=>let y3:=s3.2.2.2.2.2.2.2.1; (cond (ilt s3.1 (ln y3)) (oN (inb s3.1 (ln y3)) (oN (zli (ix y3 s3.1 zG)) (cond (nB (zjw (ix y3 s3.1 zG))) oF (r2 ((zB .i64 s3.1 1),(s3.2.1,(s3.2.2.1,(s3.2.2.2.1,(s3.2.2.2.2.1,(s3.2.2.2.2.2.1,(s3.2.2.2.2.2.2.1,(y3,(s3.2.2.2.2.2.2.2.2.1,(s3.2.2.2.2.2.2.2.2.2.1,())))))))))))))) (iter (σ:=(Int×(Int×(Int×(Int×(lS×(lM×(lB×(lG×((List Int)×(lK×Unit))))))))))) N (fun r4 s5=>let y7:=s5.2.2.2.2.1;let y4:=(inb s5.1 (ln s5.2.2.2.2.2.1));let y2:=(ix s5.2.2.2.2.2.1 s5.1 []);let y1:=(ix y7 s5.1 zM);let y6:=(ieq y1.Rights zbm.Rights);let y5:=(ieq y1.Page zbm.Page);let y0:=(r4 ((zB .i64 s5.1 1),(s5.2.1,(s5.2.2.1,(s5.2.2.2.1,(y7,(s5.2.2.2.2.2.1,(s5.2.2.2.2.2.2.1,(s5.2.2.2.2.2.2.2.1,(s5.2.2.2.2.2.2.2.2.1,(s5.2.2.2.2.2.2.2.2.2.1,()))))))))))); (cond (ilt s5.1 8) (oN (inb s5.1 (ln y7)) (oN zb2 (cond (nB (cond y5 y6 false)) (oN y4 (cond (igt (ln y2) 0) oF (oN (inb s5.1 (ln y7)) (oN (zev y1.Rights 1) (cond (nB (zeZ y1.Rights 1)) oF (cond (nB (nB (cond y5 y6 false))) (oN y4 (oN (zdU y2) (cond (nB (zdu y2)) oF y0))) y0)))))) (cond (nB (nB (cond y5 y6 false))) (oN y4 (oN (zdU y2) (cond (nB (zdu y2)) oF y0))) y0)))) (cond (ile (ln s5.2.2.2.2.2.2.2.2.1) 40) (oN (zgh s5.2.1) (cond (zgg s5.2.1) (oN (zT s5.2.2.1 0 3) (cond (zZ s5.2.2.1 0 3) (oN (zT s5.2.2.2.1 0 1000000000) (some [(aB (zZ s5.2.2.2.1 0 1000000000))])) oF)) oF)) oF))) (0,(s3.2.1,(s3.2.2.1,(s3.2.2.2.1,(s3.2.2.2.2.1,(s3.2.2.2.2.2.1,(s3.2.2.2.2.2.2.1,(y3,(s3.2.2.2.2.2.2.2.2.1,(s3.2.2.2.2.2.2.2.2.2.1,()))))))))))))) (0,(a0.Pending,(a0.Traps,(a0.Own,(a0.Outer,(a0.Out,(a0.Dirty,(a0.Guests,(a0.Outs,(a0.Tables,()))))))))))))))))))
def zJT:FuncId->Nat->Option Tmpl:=zo [(369,0,{ n:=115,tm:=[(1,.lp 0 0),(3,ti)],lo:=[(0,[.sl 0 [],.sl 1 [],.sl 2 [],.sl 3 [],.sl 4 [],ti,ti,.sl 5 [],ti])],ro:=[(0,.slot,false),(1,(.sl .int),false),(2,.bool,false),(3,.guest,false),(4,.int,false),(5,.kept,false)] }),(369,2,{ n:=115,tm:=[(1,.lp 0 0),(4,ti)],lo:=[(0,[.sl 0 [],.sl 1 [],.sl 2 [],.sl 3 [],.sl 4 [],ti,ti,.sl 5 [],ti])],ro:=[(0,.slot,false),(1,(.sl .int),false),(2,.bool,false),(3,.guest,false),(4,.int,false),(5,.kept,false)] })]
theorem zJp (a0:Mon)(hb:zbu big [aT .mon a0])(hc:zlH a0=true):∃N,zDJ N a0=some [aB (znc a0)]:=by
 have hg:a0.Guests.length<=big:=((zcy hb).1 (.s .guest a0.Guests) (by simp[AV.cvs,Ty.cells])).len
 refine zbN fun N hNN=>?_;unfold zDJ znc zc8 oN nB
 conv=>zeta
 refine must rfl (stB fun h0=>stI fun h1=>must rfl (stB fun h2=>stI fun h3=>stI fun h4=>?_));have e1:=zoX h2;have e3:ln a0.Out=8:=qJ h3;simp only[ln] at e1 e3;refine (zW a0.Guests (fun i (t:Unit)=>((i:Int),a0.Pending,a0.Traps,a0.Own,a0.Outer,a0.Out,a0.Dirty,a0.Guests,a0.Outs,a0.Tables,())) _ (fun _ (x:Guest) (_:Unit) κ=>bif zcf x then κ () else oF) (fun (t:Unit)=>(iter (σ:=(Int×(Int×(Int×(Int×(lS×(lM×(lB×(lG×((List Int)×(lK×Unit))))))))))) N (fun r4 s5=>(cond (ilt s5.1 8) (cond (inb s5.1 (ln s5.2.2.2.2.1)) (cond zb2 (cond (cond (cond (ieq (ix s5.2.2.2.2.1 s5.1 zM).Page zbm.Page) (ieq (ix s5.2.2.2.2.1 s5.1 zM).Rights zbm.Rights) false) false true) (cond (inb s5.1 (ln s5.2.2.2.2.2.1)) (cond (igt (ln (ix s5.2.2.2.2.2.1 s5.1 [])) 0) oF (cond (inb s5.1 (ln s5.2.2.2.2.1)) (cond (zev (ix s5.2.2.2.2.1 s5.1 zM).Rights 1) (cond (cond (zeZ (ix s5.2.2.2.2.1 s5.1 zM).Rights 1) false true) oF (cond (cond (cond (cond (ieq (ix s5.2.2.2.2.1 s5.1 zM).Page zbm.Page) (ieq (ix s5.2.2.2.2.1 s5.1 zM).Rights zbm.Rights) false) false true) false true) (cond (inb s5.1 (ln s5.2.2.2.2.2.1)) (cond (zdU (ix s5.2.2.2.2.2.1 s5.1 [])) (cond (cond (zdu (ix s5.2.2.2.2.2.1 s5.1 [])) false true) oF (r4 ((zB .i64 s5.1 1),(s5.2.1,(s5.2.2.1,(s5.2.2.2.1,(s5.2.2.2.2.1,(s5.2.2.2.2.2.1,(s5.2.2.2.2.2.2.1,(s5.2.2.2.2.2.2.2.1,(s5.2.2.2.2.2.2.2.2.1,(s5.2.2.2.2.2.2.2.2.2.1,())))))))))))) none) none) (r4 ((zB .i64 s5.1 1),(s5.2.1,(s5.2.2.1,(s5.2.2.2.1,(s5.2.2.2.2.1,(s5.2.2.2.2.2.1,(s5.2.2.2.2.2.2.1,(s5.2.2.2.2.2.2.2.1,(s5.2.2.2.2.2.2.2.2.1,(s5.2.2.2.2.2.2.2.2.2.1,()))))))))))))) none) none)) none) (cond (cond (cond (cond (ieq (ix s5.2.2.2.2.1 s5.1 zM).Page zbm.Page) (ieq (ix s5.2.2.2.2.1 s5.1 zM).Rights zbm.Rights) false) false true) false true) (cond (inb s5.1 (ln s5.2.2.2.2.2.1)) (cond (zdU (ix s5.2.2.2.2.2.1 s5.1 [])) (cond (cond (zdu (ix s5.2.2.2.2.2.1 s5.1 [])) false true) oF (r4 ((zB .i64 s5.1 1),(s5.2.1,(s5.2.2.1,(s5.2.2.2.1,(s5.2.2.2.2.1,(s5.2.2.2.2.2.1,(s5.2.2.2.2.2.2.1,(s5.2.2.2.2.2.2.2.1,(s5.2.2.2.2.2.2.2.2.1,(s5.2.2.2.2.2.2.2.2.2.1,())))))))))))) none) none) (r4 ((zB .i64 s5.1 1),(s5.2.1,(s5.2.2.1,(s5.2.2.2.1,(s5.2.2.2.2.1,(s5.2.2.2.2.2.1,(s5.2.2.2.2.2.2.1,(s5.2.2.2.2.2.2.2.1,(s5.2.2.2.2.2.2.2.2.1,(s5.2.2.2.2.2.2.2.2.2.1,()))))))))))))) none) none) (cond (ile (ln s5.2.2.2.2.2.2.2.2.1) 40) (cond (zgh s5.2.1) (cond (zgg s5.2.1) (cond (zT s5.2.2.1 0 3) (cond (zZ s5.2.2.1 0 3) (cond (zT s5.2.2.2.1 0 1000000000) (some [(.one (.b (zZ s5.2.2.2.1 0 1000000000)))]) none) oF) none) oF) none) oF))) (0,(a0.Pending,(a0.Traps,(a0.Own,(a0.Outer,(a0.Out,(a0.Dirty,(a0.Guests,(a0.Outs,(a0.Tables,())))))))))))) (fun i hi t rec=>?_) (fun t rec=>?_) _ () (hNN hg)).trans ?_
 .simp only [zbp hi,zY hi,zbc hi,zQ hi hg,cT];simp only[zli,zjw,cT];cases zcf a0.Guests[i]<;>rfl
 .simp only [zbg,cF]
 rw[zeG zcf];cases hq:a0.Guests.all zcf
 .simp only [cF];cases ile (ln a0.Outs) 40<;>cases zdE a0.Pending<;>cases win a0.Traps 0 3<;>cases win a0.Own 0 1000000000<;>rfl
 simp only[cT];refine (znI 8 (fun j (u:Unit)=>((j:Int),a0.Pending,a0.Traps,a0.Own,a0.Outer,a0.Out,a0.Dirty,a0.Guests,a0.Outs,a0.Tables,())) _ (fun j (_:Unit) κ=>bif fits a0 j then κ () else oF) (fun (u:Unit)=>(cond (ile (ln a0.Outs) 40) (cond (zgh a0.Pending) (cond (zgg a0.Pending) (cond (zT a0.Traps 0 3) (cond (zZ a0.Traps 0 3) (cond (zT a0.Own 0 1000000000) (some [(.one (.b (zZ a0.Own 0 1000000000)))]) none) oF) none) oF) none) oF)) (fun j hj u rec1=>?_) (fun u rec1=>?_) _ () (hNN (by decide))).trans ?_
 .simp only [show ilt (j:Int) 8=true from qN (by omega),zQ hj (show 8<=big by decide),cT]
  have hj1:j<a0.Outer.length:=by omega
  have hj2:j<a0.Out.length:=by omega
  simp only[zb2,zbm,zdU,zdu,zev,zeZ,zY hj1,zY hj2,zCB,cT];unfold fits zna;simp only[zbc hj1,zcV];cases ieq a0.Outer[j].Page noSlot.Page<;>cases ieq a0.Outer[j].Rights noSlot.Rights<;>cases enough a0.Outer[j].Rights 1<;>cases ile (ln (ix a0.Out (j:Int) [])) 0<;>cases zb0 (ix a0.Out (j:Int) [])<;>rfl
 .simp only [show ilt (((8:Nat)):Int) 8=false from qK (by omega),cF]
  rfl
 rw[zvd (fits a0)];simp only[zgh,zgg,zT,zQS,cT];cases znl (fits a0) 8 0<;>cases ile (ln a0.Outs) 40<;>cases zdE a0.Pending<;>cases win a0.Traps 0 3<;>cases win a0.Own 0 1000000000<;>rfl
theorem zEE:uV 369 zwP:=hF1 zxl zq zl zn zJT zJp
def zP4:zK:=[(369,zwP),(182,zwJ)]++zP3
theorem zxm:zx zP4:=zh zEE (zh zEx zxl)
def zfV:List Slot->List Bool->Option (List Bool)
 | [],u=>some u
 | s :: l,u=>bif ilt s.Page 0 then zfV l u else (cond (ix u s.Page false) none (zfV l (up u s.Page true)))
def zil:List Mon->List Bool->Bool
 | [],_=>true
 | m :: l,u=>bif zc8 m then (match zfV m.Outer u with|some u'=>zil l u'|none=>false) else false
def zcp (h:Host):Bool:=bif zgb h.Memory 12 then (cond (win (ln h.Mons) 1 3) (cond (zk2 h.Buffer) (cond (zk2 h.IoBuffer) (zil h.Mons (rp 12 false)) false) false) false) else false
theorem zkk:∀(l:List Slot) (u u':List Bool),zfV l u=some u'->u'.length=u.length
 | [],u,u',h=>by cases h;rfl
 | s :: l,u,u',h=>by
  simp only[zfV]at h;cases h1:ilt s.Page 0
  .rw [h1]at h;cases h2:ix u s.Page false
   .rw [h2]at h;simpa using zkk l _ u' h
   .rw [h2]at h;cases h
  .rw [h1]at h;exact zkk l u u' h
theorem zvr {t:List Slot}{n:Int}(h:zcu t n 12=true):∀s∈t,s.Page<12:=by
 intro s hs;unfold zcu at h;cases h1:t.all (fun s=>zdv s 12)
 .rw [h1]at h;cases h
 .have:=qS.1 h1 s hs;unfold zdv at this;cases h2:zcV s noSlot
  .rw [h2] at this;simp only[cF,show igt 12 0=true from rfl,cT] at this
   cases h3:win s.Page 0 (wsub .i64 12 1)
   .rw [h3] at this;cases this
   .have:=(zep.1 h3).2;rw[show wsub .i64 12 1=11 from rfl] at this
    omega
  .unfold zcV at h2;rw[qD]at h2;have h2:s.Page = -1:=qJ h2.1;omega
theorem zIL {s:Slot}{u:List Bool}(h:s.Page<12)(hu:u.length=12)(h0:ilt s.Page 0=false):inb s.Page (ln u)=true:=by
 have:=jZ h0;exact qN (by simp only[ln];omega)
def znm {ρ:Type}(r:Option ρ)(y:Slot)(u:List Bool)(κ:List Bool->Option ρ):Option ρ:=bif ilt y.Page 0 then κ u else (cond (inb y.Page (ln u)) (cond (ix u y.Page false) r (cond (inb y.Page (ln u)) (share (up u y.Page true) (fun x6=>κ x6)) none)) none)
theorem zq1 {ρ:Type}(r:Option ρ)(K:List Bool->Option ρ):∀(l:List Slot) (i:Nat) (u:List Bool),(∀s∈l,s.Page<12)->u.length=12 ->
 goL (fun _ y u κ=>znm r y u κ) K l i u=match zfV l u with|some u'=>K u'|none=>r
 | [],_,_,_,_=>rfl
 | s :: l,i,u,h,hu=>by
  simp only[goL,zfV,znm];cases h1:ilt s.Page 0
  .have hh:=zIL (h s (by simp)) hu h1
   rw[hh];cases ix u s.Page false
   .simp only [cF,cT,share];exact zq1 r K l (i+1) _ (fun s hs=>h s (by simp[hs])) (by simpa using hu)
   .rfl
  .simp only [cT];exact zq1 r K l (i+1) u (fun s hs=>h s (by simp[hs])) hu
def zKK {ρ:Type}(r:Option ρ)(m:Mon)(u:List Bool)(κ:List Bool->Option ρ):Option ρ:=bif zc8 m then goL (fun _ y u κ=>znm r y u κ) κ m.Outer 0 u else r
theorem zcF {c x:Bool}:((cond c x false)=true)↔c=true/\x=true:=by
 cases c<;>simp
theorem ziy {m:Mon}(h:zc8 m=true):zcu m.Outer 8 12=true:=by
 unfold zc8 at h;simp only[zcF]at h;exact h.2.2.1
theorem zGs {K:Bool->OA}(k:List Bool->OA)(hk:∀u,k u=K true):∀(l:List Mon) (i:Nat) (u:List Bool),u.length=12 ->
 goL (fun _ m u κ=>zKK (K false) m u κ) k l i u=K (zil l u)
 | [],_,u,_=>hk u
 | m :: l,i,u,hu=>by
  simp only[goL,zil,zKK];cases h1:zc8 m
  .rfl
  .simp only [cT];have ht:=ziy h1;rw[zq1 _ _ _ _ _ (zvr ht) hu];cases h2:zfV m.Outer u with
   | none=>rfl
   | some u'=>exact zGs k hk l (i+1) u' ((zkk _ _ _ h2).trans hu)
@[simp] abbrev zhP (h:Host):Bool:=true
@[simp] abbrev zg8 (h:Host):Bool:=zcp h
def zt1:Run:=rF1 dH fun b=>(zhP b,[aB (zg8 b)])
def zyI (N:Nat)(a0:Host):OA:=
 (oN (zly a0.Memory 12) (cond (nB (zhQ a0.Memory 12)) oF (oN (zbf (ln a0.Mons) 1 3) (cond (nB (zbo (ln a0.Mons) 1 3)) oF (oN (zjI a0.Buffer) (cond (nB (zjH a0.Buffer)) oF (oN (zjI a0.IoBuffer) (cond (nB (zjH a0.IoBuffer)) oF (oN (cond (few 12) (ieq 12 12) false) (iter (σ:=(Int×(Int×(lB×(lN×Unit))))) N (fun r2 s3=>let y1:=(ix s3.2.2.2.1 s3.2.1 zi); (cond (ilt s3.2.1 s3.1) (oN (inb s3.2.1 (ln s3.2.2.2.1)) (oN (zlA y1) (cond (nB (zm7 y1)) oF (iter (σ:=(Int×(Int×(Int×(Int×(Int×(lB×(lN×Unit)))))))) N (fun r4 s5=>let y4:=s5.2.2.2.2.1;let y3:=s5.2.2.2.2.2.2.1;let y5:=(ix y3 s5.2.2.1 zi).Outer;let y2:=s5.2.2.2.2.2.1;let y0:=(ix y5 y4 zM).Page; (cond (ilt y4 s5.2.2.2.1) (oN (inb y4 (ln y5)) (cond (ilt y0 0) (r4 (s5.1,(s5.2.1,(s5.2.2.1,(s5.2.2.2.1,((zB .i64 y4 1),(y2,(y3,())))))))) (oN (inb y0 (ln y2)) (cond (ix y2 y0 false) oF (oN (inb y0 (ln y2)) (share (up y2 y0 true) (fun x6=>(r4 (s5.1,(s5.2.1,(s5.2.2.1,(s5.2.2.2.1,((zB .i64 y4 1),(x6,(y3,()))))))))))))))) (r2 (s5.1,((zB .i64 s5.2.1 1),(y2,(y3,()))))))) (s3.1,(s3.2.1,(s3.2.1,((ln y1.Outer),(0,(s3.2.2.1,(s3.2.2.2.1,()))))))))))) oT)) ((ln a0.Mons),(0,((rp 12 false),(a0.Mons,()))))))))))))))
def zIs:FuncId->Nat->Option Tmpl:=zo [(74,0,{ n:=63,tm:=[(3,.sl 0 []),(33,.sl 1 []),(34,ti),(35,ti)],lo:=[],ro:=[(0,.bool,true),(1,.mon,false)] }),(74,2,{ n:=63,tm:=[(3,.sl 0 []),(33,.sl 1 []),(34,ti),(35,ti),(43,.sl 1 [0]),(44,ti),(45,ti)],lo:=[],ro:=[(0,.bool,true),(1,.mon,false)] })]
theorem zGR (a0:Host)(hb:zbu big [aH a0])(hc:zhP a0=true):∃N,zyI N a0=some [aB (zg8 a0)]:=by
 have hm:CVB big (.s .mon a0.Mons):=(zcy hb).1 _ (by simp[AV.cvs,zbi])
 have hl:=hm.len;refine zbN fun N hNN=>?_;unfold zyI zg8 zcp oN nB
 conv=>zeta
 refine must rfl (stB fun h0=>must rfl (stB fun h1=>must rfl (stB fun h2=>must rfl (stB fun h3=>must rfl ?_))));refine (zW a0.Mons (fun i (t:lB)=>((ln a0.Mons),(i:Int),t,a0.Mons,())) _ (fun _ (x:Mon) (u:List Bool) κ=>zKK (oF) x u κ) (fun (t:lB)=>(some [(.one (.b true))])) (fun i hi t rec=>?_) (fun t rec=>?_) _ ((rp 12 false)) (hNN hl)).trans ?_
 .simp only [zbp hi,zY hi,zbc hi,zQ hi hl,cT];unfold zKK;cases h4:zc8 a0.Mons[i]
  .simp only [zlA,zm7,h4,cT,cF]
  simp only[zlA,zm7,h4,cT,cF];have ho:a0.Mons[i].Outer.length<=big:=(hm.inv.2 _ (jS hi) (.s .slot _) (by simp[Ty.cells])).len
  refine (zW a0.Mons[i].Outer (fun j (u:lB)=>((ln a0.Mons),(i:Int),(i:Int),(ln a0.Mons[i].Outer),(j:Int),u,a0.Mons,())) _ (fun _ (y:Slot) (u:List Bool) κ=>znm (oF) y u κ) (fun (u:lB)=>(rec ((ln a0.Mons),((((i+1:Nat)):Int),(u,(a0.Mons,())))))) (fun j hj u rec1=>?_) (fun u rec1=>?_) _ (t) (hNN ho)).trans ?_
  .simp only [zbp hj,zY hj,zbc hj,zQ hj ho,cT,zY hi,zbc hi,zQ hi hl];rfl
  .simp only [zbg,cF,zY hi,zbc hi,zQ hi hl]
  rfl
 .simp only [zbg,cF]
 exact zGs (K:=fun b=>some [AV.one (.b b)]) _ (fun _=>rfl) _ _ _ rfl
theorem zBT:uV 74 zt1:=hF1 zxm zq zl zn zIs zGR
@[simp] abbrev zrD (h:Host):Bool:=true
@[simp] abbrev zrC (h:Host):Bool:=zcp h
theorem zxw {ρ:Type}(r:Option ρ)(k:List Bool->Option ρ)(m:Mon):∀(n i:Nat) (u:List Bool),(∀s∈m.Outer,s.Page<12)->u.length=12->i+n=m.Outer.length ->
 goN (fun j u κ=>bif inb (j:Int) (ln m.Outer) then znm r (ix m.Outer (j:Int) zM) u κ else none) k n i u=goL (fun _ y u κ=>znm r y u κ) k (m.Outer.drop i) i u
 | 0,i,u,_,_,h=>by
  have:i=m.Outer.length:=by omega
  subst this;simp[goN,goL]
 | n+1,i,u,hs,hu,h=>by
  have hi:i<m.Outer.length:=by omega
  rw[kF hi];simp only[goN,goL,zY hi,zbc hi,cT,znm];cases h1:ilt m.Outer[i].Page 0
  .rw [zIL (hs _ (jS hi)) hu h1];cases ix u m.Outer[i].Page false
   .simp only [cF,cT,share];exact zxw r k m n (i+1) _ hs (by simpa using hu) (by omega)
   .rfl
  .simp only [cT];exact zxw r k m n (i+1) u hs hu (by omega)
def zut:Run:=rF1 dH fun b=>(zrD b,[aB (zrC b)])
def zy6 (N:Nat)(a0:Host):OA:=
 (oN (zuI a0.Memory 12) (cond (nB (zkQ a0.Memory 12)) oF (oN (zT (ln a0.Mons) 1 3) (cond (nB (zZ (ln a0.Mons) 1 3)) oF (oN (zj7 a0.Buffer) (cond (nB (zj6 a0.Buffer)) oF (oN (zj7 a0.IoBuffer) (cond (nB (zj6 a0.IoBuffer)) oF (oN (cond (few 12) (ieq 12 12) false) (iter (σ:=(Int×(lB×(lM×(lN×(lE×(lE×Unit))))))) N (fun r2 s3=>let y7:=(ix s3.2.2.2.1 s3.1 zi); (cond (ilt s3.1 (ln s3.2.2.2.1)) (oN (inb s3.1 (ln s3.2.2.2.1)) (oN (zlH y7) (cond (nB (znc y7)) oF (iter (σ:=(Int×(Int×(lB×(lM×(lN×(lE×(lE×Unit)))))))) N (fun r4 s5=>let y6:=(zB .i64 s5.2.1 1);let y5:=s5.2.2.2.2.2.1;let y4:=s5.2.2.2.2.2.2.1;let y3:=s5.2.2.1;let y2:=s5.2.2.2.2.1;let y8:=(ix y2 s5.1 zi).Outer;let y1:=(r4 (s5.1,(y6,(y3,(s5.2.2.2.1,(y2,(y5,(y4,()))))))));let y0:=(ix y8 s5.2.1 zM).Page;let y9:=(inb y0 (ln y3)); (cond (ilt s5.2.1 8) (oN (inb s5.1 (ln y2)) (oN (inb s5.2.1 (ln y8)) (cond (ige y0 0) (oN y9 (cond (ix y3 y0 false) oF (cond (ige y0 0) (oN y9 (share (up y3 y0 true) (fun x6=>(r4 (s5.1,(y6,(x6,(s5.2.2.2.1,(y2,(y5,(y4,()))))))))))) y1))) (cond (ige y0 0) (oN y9 (share (up y3 y0 true) (fun x6=>(r4 (s5.1,(y6,(x6,(s5.2.2.2.1,(y2,(y5,(y4,()))))))))))) y1)))) (r2 ((zB .i64 s5.1 1),(y3,(s5.2.2.2.1,(y2,(y5,(y4,()))))))))) (s3.1,(0,(s3.2.1,(s3.2.2.1,(s3.2.2.2.1,(s3.2.2.2.2.1,(s3.2.2.2.2.2.1,()))))))))))) oT)) (0,((rp 12 false),(a0.Memory,(a0.Mons,(a0.Buffer,(a0.IoBuffer,()))))))))))))))))
def zIz:FuncId->Nat->Option Tmpl:=zo [(332,0,{ n:=72,tm:=[(1,.lp 0 0),(3,.sl 0 []),(4,ti)],lo:=[(0,[.sl 1 [],.sl 2 [],.sl 3 [],.sl 4 []])],ro:=[(0,.bool,true),(1,(.sl .int),false),(2,.mon,false),(3,.entry,false),(4,.entry,false)] }),(332,2,{ n:=72,tm:=[(1,.lp 0 0),(3,.sl 0 []),(4,ti),(5,ti)],lo:=[(0,[.sl 1 [],.sl 2 [],.sl 3 [],.sl 4 []])],ro:=[(0,.bool,true),(1,(.sl .int),false),(2,.mon,false),(3,.entry,false),(4,.entry,false)] })]
theorem zHg (a0:Host)(hb:zbu big [aH a0])(hc:zrD a0=true):∃N,zy6 N a0=some [aB (zrC a0)]:=by
 have hm:CVB big (.s .mon a0.Mons):=(zcy hb).1 _ (by simp[AV.cvs,zbi])
 have hl:=hm.len;refine zbN fun N hNN=>?_;unfold zy6 zrC zcp oN nB
 conv=>zeta
 refine must rfl (stB fun h0=>must rfl (stB fun h1=>must rfl (stB fun h2=>must rfl (stB fun h3=>must rfl ?_))));refine (zW a0.Mons (fun i (t:lB)=>((i:Int),t,a0.Memory,a0.Mons,a0.Buffer,a0.IoBuffer,())) _ (fun _ (x:Mon) (u:List Bool) κ=>bif zc8 x then goN (fun j u κ=>bif inb (j:Int) (ln x.Outer) then znm (oF) (ix x.Outer (j:Int) zM) u κ else none) κ 8 0 u else oF) (fun (t:lB)=>(some [(.one (.b true))])) (fun i hi t rec=>?_) (fun t rec=>?_) _ ((rp 12 false)) (hNN hl)).trans ?_
 .simp only [zbp hi,zY hi,zbc hi,zQ hi hl,cT];cases h4:zc8 a0.Mons[i]
  .simp only [zlH,znc,h4,cT,cF]
  simp only[zlH,znc,h4,cT,cF];refine (znI 8 (fun j (u:lB)=>((i:Int),(j:Int),u,a0.Memory,a0.Mons,a0.Buffer,a0.IoBuffer,())) _ (fun j (u:List Bool) κ=>bif inb (j:Int) (ln a0.Mons[i].Outer) then znm (oF) (ix a0.Mons[i].Outer (j:Int) zM) u κ else none) (fun (u:lB)=>(rec ((((i+1:Nat)):Int),(u,(a0.Memory,(a0.Mons,(a0.Buffer,(a0.IoBuffer,())))))))) (fun j hj u rec1=>?_) (fun u rec1=>?_) _ (t) (hNN (by decide))).trans ?_
  .simp only [show ilt (j:Int) 8=true from qN (by omega),zQ hj (show 8<=big by decide),cT,zY hi,zbc hi,zQ hi hl]
   unfold znm;have e:ige (ix a0.Mons[i].Outer (j:Int) zM).Page 0 = !ilt (ix a0.Mons[i].Outer (j:Int) zM).Page 0:=by rw[zRp,Bool.not_not]
   simp only[e];cases ilt (ix a0.Mons[i].Outer (j:Int) zM).Page 0<;>cases inb (j:Int) (ln a0.Mons[i].Outer)<;>cases inb (ix a0.Mons[i].Outer (j:Int) zM).Page (ln u)<;>cases ix u (ix a0.Mons[i].Outer (j:Int) zM).Page false<;>rfl
  .simp only [show ilt (((8:Nat)):Int) 8=false from qK (by omega),cF,zY hi,zbc hi,zQ hi hl]
  rfl
 .simp only [zbg,cF]
 have key:∀(l:List Mon) (i:Nat) (u:List Bool),u.length=12->goL (fun _ (x:Mon) (u:List Bool) κ=>bif zc8 x then goN (fun j u κ=>bif inb (j:Int) (ln x.Outer) then znm (oF) (ix x.Outer (j:Int) zM) u κ else none) κ 8 0 u else oF) (fun _=>oT) l i u=some [AV.one (.b (zil l u))]:=by
  intro l
  induction l with
  | nil=>intro i u _;rfl
  | cons m l ih =>
   intro i u hu;simp only[goL,zil];cases h1:zc8 m
   .rfl
   .have ht:=ziy h1;have e8:0+8=m.Outer.length:=by have:=zoX ht;simp only[ln] at this;omega
    simp only[cT];rw[zxw _ _ m 8 0 u (zvr ht) hu e8,List.drop_zero,zq1 _ _ _ _ _ (zvr ht) hu];cases h2:zfV m.Outer u with
    | none=>rfl
    | some u'=>exact ih (i+1) u' ((zkk _ _ _ h2).trans hu)
 exact key _ _ _ rfl
theorem zCi:uV 332 zut:=hF1 zxm zq zl zn zIz zHg
def zP5:zK:=[(332,zut),(74,zt1)]++zP4
theorem zOw:zx zP5:=zh zCi (zh zBT zxm)
def zgr (h:Host)(m:Int):Bool:=bif zcp h then hasB m (ln h.Mons) else false
def zP6:zK:=zP5
theorem zGc:zx zP6:=zOw
def zc6 (k:Kept)(p:Int):Bool:=bif hasB p (ln k.Known) then hasB p (ln k.Slots) else false
def zdo (k:Kept)(p:Int):Kept:=bif zc6 k p then ⟨up k.Known p false,up k.Slots p noSlot⟩ else k
@[simp] theorem zA2 {k:Kept}{p:Int}(h:SmK k):SmK (zdo k p):=by
 unfold zdo;cases zc6 k p
 .exact h
 .exact ⟨by simpa using h.1,by simpa using h.2⟩
theorem has_lt {p:Int}{n m:Int}(h:hasB p n=true):ilt p m=hasB p m:=by
 have h:=qJ h;unfold ilt hasB
 by_cases h1:p<m
 .rw [qN h1,qN ⟨h.1,h1⟩]
 .rw [qK h1,qK (by omega)]
@[simp] abbrev zkd (k:Kept)(p:Int):Bool:=pc (SmK k)
@[simp] abbrev zfE (k:Kept)(p:Int):Bool:=zc6 k p
def zuE:Run:=rF2 (dT .kept) dI fun b c=>(zkd b c,[aB (zfE b c)])
def zzh (N:Nat)(a0:Kept)(a1:Int):OA:=
 (oN (zT a1 0 (wsub .i64 (ln a0.Known) 1)) (cond (zZ a1 0 (wsub .i64 (ln a0.Known) 1)) (some [(aB (ilt a1 (ln a0.Slots)))]) oF))
theorem zHt (a0:Kept)(a1:Int)(hc:zkd a0 a1=true):∃N,zzh N a0 a1=some [aB (zfE a0 a1)]:=by
 have hs:=zC.1 hc;refine ⟨0,?_⟩;unfold zzh zfE zc6 oN;simp only[zT,zQS,zvw hs.1,cT];cases hh:hasB a1 (ln a0.Known)
 .rfl
 .simp only [cT,has_lt hh]
theorem zCt:uV 335 zuE:=kF2 zGc zq zl zn (zo []) zHt
def zP7:zK:=[(335,zuE)]++zP6
theorem zxn:zx zP7:=zh zCt zGc
@[simp] abbrev zrB (k:Kept)(p:Int):Bool:=pc (SmK k)
@[simp] abbrev znY (k:Kept)(p:Int):Kept:=zdo k p
def zur:Run:=rF2 (dT .kept) dI fun b c=>(zrB b c,[aT .kept (znY b c)])
def zy4 (N:Nat)(a0:Kept)(a1:Int):OA:=
 let y0:=(zcI a0); (oN (zeC a0) (oN (zkd y0 a1) (cond (zfE y0 a1) (oN (inb a1 (ln y0.Known)) (share (up y0.Known a1 false) (fun x3=>(oN zb2 (oN (inb a1 (ln y0.Slots)) (share (up y0.Slots a1 zbm) (fun x4=>(some [(aT .kept (⟨x3,x4⟩:Kept))])))))))) (some [(aT .kept y0)]))))
theorem zHe (a0:Kept)(a1:Int)(hc:zrB a0 a1=true):∃N,zy4 N a0 a1=some [aT .kept (znY a0 a1)]:=by
 have hs:=zC.1 hc;refine ⟨0,?_⟩;unfold zy4 znY oN
 conv=>zeta
 refine must (zbh ((zu1 _).2 hs)) (must (zbh hs) ?_);unfold zdo;cases hh:zc6 a0 a1
 .simp only [zfE,zcI,hh,cF]
 .simp only [zfE,zcI,hh,cT];unfold zc6 at hh;obtain ⟨h1,h2⟩:=zcF.1 hh;simp only[zGD,h1,h2,cT,share,zb2]
theorem zCg:uV 260 zur:=kF2 zxn zq zl zn (zo []) zHe
@[simp] abbrev zq8 (k:Kept)(p:Int):Bool:=pc (SmK k)
@[simp] abbrev znA (k:Kept)(p:Int):Kept:=zdo k p
def ztZ:Run:=rF2 (dT .kept) dI fun b c=>(zq8 b c,[aT .kept (znA b c)])
def zyG (N:Nat)(a0:Kept)(a1:Int):OA:=
 let y0:=(zcb a0); (oN (zd7 a0) (oN (zby a1 (ln a0.Known)) (cond (zbS a1 (ln a0.Known)) (oN (zby a1 (ln a0.Slots)) (cond (zbS a1 (ln a0.Slots)) (oN (inb a1 (ln y0.Known)) (share (up y0.Known a1 false) (fun x3=>(oN zca (oN (inb a1 (ln y0.Slots)) (share (up y0.Slots a1 zbK) (fun x4=>(some [(aT .kept (⟨x3,x4⟩:Kept))])))))))) (some [(aT .kept y0)]))) (some [(aT .kept y0)]))))
theorem zGP (a0:Kept)(a1:Int)(hc:zq8 a0 a1=true):∃N,zyG N a0 a1=some [aT .kept (znA a0 a1)]:=by
 have hs:=zC.1 hc;refine ⟨0,?_⟩;unfold zyG znA oN
 conv=>zeta
 refine must (zbh hs) (must rfl ?_);unfold zdo zc6;simp only[zbS,zby,zcb,zGD,share,zca,cT];cases hasB a1 (ln a0.Known)
 .rfl
 .cases hasB a1 (ln a0.Slots)<;>rfl
theorem zBR:uV 65 ztZ:=kF2 zxn zq zl zn (zo []) zGP
def zP8:zK:=[(260,zur),(65,ztZ)]++zP7
theorem znn:zx zP8:=zh zCg (zh zBR zxn)
def zop (k:Kept)(l:List Int):Kept:=l.foldl zdo k
theorem zKq:∀(l:List Int) {k:Kept},SmK k->SmK (zop k l)
 | [],_,h=>h
 | p :: l,k,h=>zKq l (zA2 (p:=p) h)
theorem zqZ {ρ:Type}(K:List Bool×List Slot->Option ρ):∀(l:List Int) (i:Nat) (k:Kept),SmK k ->
 goL (fun _ x (t:List Bool×List Slot) κ=>bif pc (SmK ⟨t.1,t.2⟩) then κ ((zdo ⟨t.1,t.2⟩ x).Known,(zdo ⟨t.1,t.2⟩ x).Slots) else none) K l i (k.Known,k.Slots)=K ((zop k l).Known,(zop k l).Slots)
 | [],_,_,_=>rfl
 | x :: l,i,k,h=>by
  have e:pc (SmK ⟨k.Known,k.Slots⟩)=true:=zbh h;simp only[goL,e,cT];exact zqZ K l (i+1) (zdo k x) (zA2 h)
def zSH (l:List Slot)(p:Int):List Int:=idxs (fun (s:Slot)=>ieq s.Page p) l 0
def zjE (k:Kept)(l:List Slot)(p:Int):Kept:=zop k (zSH l p)
theorem zPi {k:Kept}(l:List Slot)(p:Int)(h:SmK k):SmK (zjE k l p):=zKq _ h
@[simp] abbrev zh0 (k:Kept)(l:List Slot)(p:Int):Bool:=pc (SmK k/\l.length<=1048576)
@[simp] abbrev znZ (k:Kept)(l:List Slot)(p:Int):Kept:=zjE k l p
def znT:Run:=rF3 (dT .kept) (dS .slot) dI fun b c d=>(zh0 b c d,[aT .kept (znZ b c d)])
def zpJ (N:Nat)(a0:Kept)(a1:lS)(a2:Int):OA:=
 (oN (zeC a0) (oN (zrJ a1 a2) (iter (σ:=(Int×((List Int)×(lB×(lS×(lB×(lS×Unit))))))) N (fun r4 s5=>let y1:=(ix s5.2.1 s5.1 0);let y0:=(⟨s5.2.2.1,s5.2.2.2.1⟩:Kept); (cond (ilt s5.1 (ln s5.2.1)) (oN (inb s5.1 (ln s5.2.1)) (oN (zrB y0 y1) (r4 ((zB .i64 s5.1 1),(s5.2.1,((znY y0 y1).Known,((znY y0 y1).Slots,(s5.2.2.2.2.1,(s5.2.2.2.2.2.1,()))))))))) (some [(aT .kept y0)]))) (0,((zkR a1 a2),((zcI a0).Known,((zcI a0).Slots,([],([],())))))))))
def zyy:FuncId->Nat->Option Tmpl:=zo [(366,0,{ n:=27,tm:=[(3,.lp 0 0),(6,.lp 1 0),(7,.sl 0 []),(8,ti)],lo:=[(0,[.sl 1 [],.sl 2 []]),(1,[.sl 3 [],.sl 4 []])],ro:=[(0,.int,true),(1,.bool,true),(2,.slot,true),(3,.bool,true),(4,.slot,true)] })]
theorem zyc (a0:Kept)(a1:List Slot)(a2:Int)(hc:zh0 a0 a1 a2=true):∃N,zpJ N a0 a1 a2=some [aT .kept (znZ a0 a1 a2)]:=by
 obtain ⟨hs,hs2⟩:=zC.1 hc;have hl:(zkR a1 a2).length<=big:=jF (zx1 _ a1 0) (zci hs2).1;refine zbN fun N hNN=>?_;unfold zpJ oN
 conv=>zeta
 refine must (zbh ((zu1 _).2 hs)) (must (zbh (by omega)) ?_)
 refine (zW (zkR a1 a2) (fun i (t:lB×lS)=>((i:Int),(zkR a1 a2),t.1,t.2,[],[],())) _ (fun _ (x:Int) (t:List Bool×List Slot) κ=>bif pc (SmK ⟨t.1,t.2⟩) then κ ((zdo ⟨t.1,t.2⟩ x).Known,(zdo ⟨t.1,t.2⟩ x).Slots) else none) (fun (t:lB×lS)=>(some [(.agg (Ty.cells .kept (⟨t.1,t.2⟩:Kept)))])) (fun i hi t rec=>?_) (fun t rec=>?_) _ ((zcI a0).Known,(zcI a0).Slots) (hNN hl)).trans ?_
 .simp only [zbp hi,zY hi,zbc hi,zQ hi hl,cT]
 .simp only [zbg,cF]
 exact zqZ _ _ 0 a0 hs
theorem zty:uV 366 znT:=kF3 znn zq zl zn zyy zyc
@[simp] abbrev zky (k:Kept)(l:List Slot)(p:Int):Bool:=pc (SmK k/\l.length<=1048576)
@[simp] abbrev znB (k:Kept)(l:List Slot)(p:Int):Kept:=zjE k l p
def znP:Run:=rF3 (dT .kept) (dS .slot) dI fun b c d=>(zky b c d,[aT .kept (znB b c d)])
def zpF (N:Nat)(a0:Kept)(a1:lS)(a2:Int):OA:=
 (oN (zd7 a0) (oN (zrh a1 a2) (iter (σ:=(Int×(Int×((List Int)×(lB×(lS×(lB×(lS×Unit)))))))) N (fun r4 s5=>let y1:=(ix s5.2.2.1 s5.2.1 0);let y0:=(⟨s5.2.2.2.2.2.1,s5.2.2.2.2.2.2.1⟩:Kept); (cond (ilt s5.2.1 s5.1) (oN (inb s5.2.1 (ln s5.2.2.1)) (oN (zq8 y0 y1) (r4 (s5.1,((zB .i64 s5.2.1 1),(s5.2.2.1,(s5.2.2.2.1,(s5.2.2.2.2.1,((znA y0 y1).Known,((znA y0 y1).Slots,())))))))))) (some [(aT .kept y0)]))) ((ln (zhc a1 a2)),(0,((zhc a1 a2),([],([],((zcb a0).Known,((zcb a0).Slots,()))))))))))
def zyu:FuncId->Nat->Option Tmpl:=zo [(327,0,{ n:=25,tm:=[(6,.lp 0 0),(7,.lp 1 0),(14,.sl 0 []),(15,ti),(16,ti)],lo:=[(0,[.sl 1 [],.sl 2 []]),(1,[.sl 3 [],.sl 4 []])],ro:=[(0,.int,true),(1,.bool,true),(2,.slot,true),(3,.bool,true),(4,.slot,true)] })]
theorem zx6 (a0:Kept)(a1:List Slot)(a2:Int)(hc:zky a0 a1 a2=true):∃N,zpF N a0 a1 a2=some [aT .kept (znB a0 a1 a2)]:=by
 obtain ⟨hs,hs2⟩:=zC.1 hc;have hl:(zhc a1 a2).length<=big:=jF (zx1 _ a1 0) (zci hs2).1;refine zbN fun N hNN=>?_;unfold zpF oN
 conv=>zeta
 refine must (zbh hs) (must (zbh (by omega)) ?_)
 refine (zW (zhc a1 a2) (fun i (t:lB×lS)=>((ln (zhc a1 a2)),(i:Int),(zhc a1 a2),[],[],t.1,t.2,())) _ (fun _ (x:Int) (t:List Bool×List Slot) κ=>bif pc (SmK ⟨t.1,t.2⟩) then κ ((zdo ⟨t.1,t.2⟩ x).Known,(zdo ⟨t.1,t.2⟩ x).Slots) else none) (fun (t:lB×lS)=>(some [(.agg (Ty.cells .kept (⟨t.1,t.2⟩:Kept)))])) (fun i hi t rec=>?_) (fun t rec=>?_) _ ((zcb a0).Known,(zcb a0).Slots) (hNN hl)).trans ?_
 .simp only [zbp hi,zY hi,zbc hi,zQ hi hl,cT]
 .simp only [zbg,cF]
 exact zqZ _ _ 0 a0 hs
theorem ztt:uV 327 znP:=kF3 znn zq zl zn zyu zx6
def flushed (l:List Entry)(p:Int):List Entry:=l.filter fun e=>!ieq e.Host p
theorem zwq (l:List Entry)(p:Int):(flushed l p).length<=l.length:=List.length_filter_le _ _
theorem zhJ {α ρ:Type}(p:α->Bool)(K:List α->Option ρ):∀(l:List α) (i:Nat) (acc:List α),acc.length+l.length<=2147483648 ->
 goL (fun _ x acc κ=>bif p x then (cond (few (ln (ap acc [x]))) (κ (ap acc [x])) none) else κ acc) K l i acc=K (acc++l.filter p)
 | [],i,acc,_=>by simp[goL]
 | x :: l,i,acc,h=>by
  simp only[qY]at h;simp only[goL];cases hp:p x
  .rw [cF,zhJ p K l (i+1) acc (by omega),List.filter_cons_of_neg (by simp[hp])]
  .rw [cT,zeM (by simp[ap];omega),cT,zhJ p K l (i+1) _ (by simp[ap];omega),List.filter_cons_of_pos hp]
   simp[ap]
@[simp] abbrev zfb (l:List Entry)(p:Int):Bool:=pc (l.length<=1048576)
@[simp] abbrev zlg (l:List Entry)(p:Int):List Entry:=flushed l p
def zoN:Run:=rF2 (dS .entry) dI fun b c=>(zfb b c,[aS .entry (zlg b c)])
def zr5 (N:Nat)(a0:lE)(a1:Int):OA:=
 (iter (σ:=(Int×(Int×(lE×(lE×Unit))))) N (fun r3 s4=>let y1:=s4.2.2.1;let y0:=(ix y1 s4.2.1 zdy); (cond (ilt s4.2.1 (ln y1)) (oN (inb s4.2.1 (ln y1)) (cond (ine y0.Host s4.1) (oN (inb s4.2.1 (ln y1)) (oN (few (ln (ap s4.2.2.2.1 [y0]))) (r3 (s4.1,((zB .i64 s4.2.1 1),(y1,((ap s4.2.2.2.1 [y0]),()))))))) (r3 (s4.1,((zB .i64 s4.2.1 1),(y1,(s4.2.2.2.1,()))))))) (some [(aS .entry s4.2.2.2.1)]))) (a1,(0,(a0,([],())))))
def zBi:FuncId->Nat->Option Tmpl:=zo [(367,0,{ n:=29,tm:=[(0,.sl 0 []),(1,ti),(5,.sl 1 []),(6,ti)],lo:=[],ro:=[(0,.entry,false),(1,.entry,true)] })]
theorem zAw (a0:List Entry)(a1:Int)(hc:zfb a0 a1=true):∃N,zr5 N a0 a1=some [aS .entry (zlg a0 a1)]:=by
 have hs:=zC.1 hc;have hl:=zci hs;refine zbN fun N hNN=>?_;unfold zr5 oN
 conv=>zeta
 refine (zW a0 (fun i (t:lE)=>(a1,(i:Int),a0,t,())) _ (fun _ (x:Entry) (t:List Entry) κ=>bif !ieq x.Host a1 then (cond (few (ln (ap t [x]))) (κ (ap t [x])) none) else κ t) (fun (t:lE)=>(some [(.one (.s .entry t))])) (fun i hi t rec=>?_) (fun t rec=>?_) _ ([]) (hNN hl.1)).trans ?_
 .simp only [zbp hi,zY hi,zbc hi,zQ hi hl.1,cT];rfl
 .simp only [zbg,cF]
 exact zhJ (fun e=>!ieq e.Host a1) _ a0 0 [] (by simpa using hl.2)
theorem zvL:uV 367 zoN:=kF2 znn zq zl zn zBi zAw
@[simp] abbrev ze7 (l:List Entry)(p:Int):Bool:=pc (l.length<=1048576)
@[simp] abbrev zgC (l:List Entry)(p:Int):List Entry:=flushed l p
def zoE:Run:=rF2 (dS .entry) dI fun b c=>(ze7 b c,[aS .entry (zgC b c)])
def zrX (N:Nat)(a0:lE)(a1:Int):OA:=
 (iter (σ:=(Int×(Int×(Int×(lE×(lE×Unit)))))) N (fun r3 s4=>let y1:=s4.2.2.2.2.1;let y0:=(ix y1 s4.2.1 zdy); (cond (ilt s4.2.1 s4.1) (oN (inb s4.2.1 (ln y1)) (cond (nB (ieq y0.Host s4.2.2.1)) (oN (few (ln (ap s4.2.2.2.1 [y0]))) (r3 (s4.1,((zB .i64 s4.2.1 1),(s4.2.2.1,((ap s4.2.2.2.1 [y0]),(y1,()))))))) (r3 (s4.1,((zB .i64 s4.2.1 1),(s4.2.2.1,(s4.2.2.2.1,(y1,())))))))) (some [(aS .entry s4.2.2.2.1)]))) ((ln a0),(0,(a1,([],(a0,()))))))
def zBf:FuncId->Nat->Option Tmpl:=zo [(156,0,{ n:=25,tm:=[(1,.fn 362 [0]),(5,.sl 0 []),(9,.sl 1 []),(10,ti),(11,ti)],lo:=[(0,[ti])],ro:=[(0,.entry,true),(1,.entry,false)] })]
theorem zAn (a0:List Entry)(a1:Int)(hc:ze7 a0 a1=true):∃N,zrX N a0 a1=some [aS .entry (zgC a0 a1)]:=by
 have hs:=zC.1 hc;have hl:=zci hs;refine zbN fun N hNN=>?_;unfold zrX oN nB
 conv=>zeta
 refine (zW a0 (fun i (t:lE)=>((ln a0),(i:Int),a1,t,a0,())) _ (fun _ (x:Entry) (t:List Entry) κ=>bif !ieq x.Host a1 then (cond (few (ln (ap t [x]))) (κ (ap t [x])) none) else κ t) (fun (t:lE)=>(some [(.one (.s .entry t))])) (fun i hi t rec=>?_) (fun t rec=>?_) _ ([]) (hNN hl.1)).trans ?_
 .simp only [zbp hi,zY hi,zbc hi,zQ hi hl.1,cT];cases ieq a0[i].Host a1<;>rfl
 .simp only [zbg,cF]
 exact zhJ (fun e=>!ieq e.Host a1) _ a0 0 [] (by simpa using hl.2)
theorem zvC:uV 328 zoE:=kF2 znn zq zl zn zBf zAn
def zKR:zK:=[(366,znT),(327,znP),(367,zoN),(328,zoE)]++zP8
theorem zGd:zx zKR:=zh zty (zh ztt (zh zvL (zh zvC znn)))
def zn6 (gs:List Guest)(p:Int):Nat->List Kept->List Kept
 | 0,ts=>ts
 | n+1,ts=>up (zn6 gs p n ts) (n:Int) (zjE (ix (zn6 gs p n ts) (n:Int) zdw) (ix gs (n:Int) zG).Live p)
theorem zkT (gs:List Guest)(p:Int):∀(n:Nat) (ts:List Kept),(zn6 gs p n ts).length=ts.length
 | 0,_=>rfl
 | n+1,ts=>by simp only[zn6,zlM];exact zkT gs p n ts
theorem zoW (gs:List Guest)(p:Int):∀(n:Nat) (ts:List Kept),n<=ts.length->zBr ts->zBr (zn6 gs p n ts)
 | 0,_,_,h=>h
 | n+1,ts,hn,h=>by
  have ih:=zoW gs p n ts (by omega) h
  have hl:n<(zn6 gs p n ts).length:=by rw[zkT];omega
  exact zKr ih (zPi _ _ (by rw[zbc hl];exact ih.2 _ (jS hl)))
def zhv (x:Mon)(p:Int)(n:Nat):Mon:={ x with Tables:=zn6 x.Guests p n x.Tables }
theorem zNO {x:Mon}{p:Int}{n:Nat}(hn:n<=x.Tables.length)(h:ziL x):ziL (zhv x p n):=⟨h.1,h.2.1,h.2.2.1,h.2.2.2.1,h.2.2.2.2.1,zoW _ _ _ _ hn h.2.2.2.2.2⟩
def zdh (h:Host)(m p:Int)(s:Slot):Host :=
 bif ine (ix (ix h.Mons m zi).Outer p zM).Page (-1)
 then ⟨h.Memory,up h.Mons m { zhv (ix h.Mons m zi) p (ix h.Mons m zi).Tables.length with Outer:=up (ix h.Mons m zi).Outer p s },flushed h.Buffer (ix (ix h.Mons m zi).Outer p zM).Page,flushed h.IoBuffer (ix (ix h.Mons m zi).Outer p zM).Page⟩
 else ⟨h.Memory,up h.Mons m { zhv (ix h.Mons m zi) p (ix h.Mons m zi).Tables.length with Outer:=up (ix h.Mons m zi).Outer p s },h.Buffer,h.IoBuffer⟩
def zRQ (h:Host)(m p:Int):Prop:=hasB m (ln h.Mons)=true/\hasB p (ln (ix h.Mons m zi).Outer)=true/\(ix h.Mons m zi).Tables.length<=(ix h.Mons m zi).Guests.length
@[simp] abbrev zdV (h:Host)(m p:Int)(s:Slot):Bool:=pc (zcQ h/\zRQ h m p)
@[simp] abbrev zfu (h:Host)(m p:Int)(s:Slot):Host:=zdh h m p s
def zmf:List AV->Option (Bool×List AV)
 | [.agg [.s (.sl .int) b,.s .mon c,.s .entry d,.s .entry e],.one (.i .i64 f),.one (.i .i64 g),.agg [.i .i64 h,.i .i64 j]]=>some ((zdV (⟨b,c,d,e⟩:Host) f g (⟨h,j⟩:Slot)),[aH (zfu (⟨b,c,d,e⟩:Host) f g (⟨h,j⟩:Slot))])
 | _=>none
def zo3 (N:Nat)(a0:Host)(a1 a2:Int)(a3:Slot):OA:=
 let y7:=(ix a0.Mons a1 zi); (oN (inb a1 (ln a0.Mons)) (oN (inb a2 (ln y7.Outer)) (iter (σ:=(Int×(Int×(Int×(Int×(Int×(Int×(Int×(Int×(Int×(Int×(Int×(Int×(Int×(Int×(Int×(lM×(lN×(lE×(lE×(lM×(lN×(lE×(lE×Unit)))))))))))))))))))))))) N (fun r5 s6=>let y19:=s6.2.2.1;let y18:=s6.2.2.2.2.2.2.2.2.2.2.2.1;let y17:=s6.2.2.2.2.2.2.2.2.2.2.2.2.1;let y15:=s6.2.2.2.2.2.2.2.2.2.2.2.2.2.2.1;let y14:=s6.2.2.2.2.2.2.2.2.2.2.2.2.2.2.2.1;let y13:=s6.2.2.2.2.2.2.2.1;let y11:=s6.2.2.2.2.2.2.2.2.1;let y10:=s6.2.2.2.1;let y9:=s6.2.2.2.2.2.2.2.2.2.2.1;let y8:=s6.2.2.2.2.2.2.2.2.2.2.2.2.2.2.2.2.2.1;let y6:=s6.2.2.2.2.2.2.2.2.2.2.2.2.2.2.2.2.2.2.1;let y5:=s6.2.2.2.2.2.2.1;let y3:=s6.2.2.2.2.2.2.2.2.2.1;let y1:=s6.2.2.2.2.2.2.2.2.2.2.2.2.2.1;let y0:=s6.2.2.2.2.2.2.2.2.2.2.2.2.2.2.2.2.1;let y20:=(ix y0 y3 zi).Guests;let y16:=(ix y20 y10 zG).Live;let y12:=(ix y0 y5 zi);let y4:=(ix y0 y1 zi).Tables;let y2:=(up y0 y5 ({ y12 with Outer:=(up y12.Outer s6.2.1 (⟨s6.2.2.2.2.1,s6.2.2.2.2.2.1⟩:Slot)) }:Mon)); (cond (ilt y10 (ln y4)) (oN (inb y10 (ln y4)) (oN (inb y10 (ln y20)) (oN (zh0 (ix y4 y10 zdw) y16 s6.2.1) (oN (inb y10 (ln y4)) (share (up y0 y1 ({ (ix y0 y1 zi) with Tables:=(up y4 y10 (znZ (ix y4 y10 zdw) y16 s6.2.1)) }:Mon)) (fun x7=>(r5 (s6.1,(s6.2.1,(y19,((zB .i64 y10 1),(s6.2.2.2.2.1,(s6.2.2.2.2.2.1,(y5,(y13,(y11,(y3,(y9,(y18,(y17,(y1,(y15,(y14,(x7,(y8,(y6,(s6.2.2.2.2.2.2.2.2.2.2.2.2.2.2.2.2.2.2.2.1,(s6.2.2.2.2.2.2.2.2.2.2.2.2.2.2.2.2.2.2.2.2.1,(s6.2.2.2.2.2.2.2.2.2.2.2.2.2.2.2.2.2.2.2.2.2.1,(s6.2.2.2.2.2.2.2.2.2.2.2.2.2.2.2.2.2.2.2.2.2.2.1,())))))))))))))))))))))))))))))) (cond (ine y19 (-1)) (oN (zfb y8 y19) (oN (zfb y6 y19) (oN (inb s6.2.1 (ln y12.Outer)) (share y2 (fun x7=>(oN (inb s6.1 (ln x7)) (oN (cond (cond (cond (cond (cond (cond (ieq y1 s6.1) true false) (cond (ieq y9 s6.1) true false) false) (cond (ieq y3 s6.1) true false) false) (cond (ieq y11 s6.1) true false) false) (cond (ieq y13 s6.1) true false) false) (cond (ieq y5 s6.1) true false) false) (share (up x7 s6.1 ({ (ix x7 y5 zi) with Out:=(ix x7 y13 zi).Out,Dirty:=(ix x7 y11 zi).Dirty,Guests:=(ix x7 y3 zi).Guests,Outs:=(ix x7 y9 zi).Outs,Pending:=y18,Traps:=y17,Tables:=(ix x7 y1 zi).Tables,Own:=y15 }:Mon)) (fun x8=>(some [(aH (⟨y14,x8,(zlg y8 y19),(zlg y6 y19)⟩:Host))])))))))))) (oN (inb s6.2.1 (ln y12.Outer)) (share y2 (fun x7=>(oN (inb s6.1 (ln x7)) (oN (cond (cond (cond (cond (cond (cond (ieq y1 s6.1) true false) (cond (ieq y9 s6.1) true false) false) (cond (ieq y3 s6.1) true false) false) (cond (ieq y11 s6.1) true false) false) (cond (ieq y13 s6.1) true false) false) (cond (ieq y5 s6.1) true false) false) (share (up x7 s6.1 ({ (ix x7 y5 zi) with Out:=(ix x7 y13 zi).Out,Dirty:=(ix x7 y11 zi).Dirty,Guests:=(ix x7 y3 zi).Guests,Outs:=(ix x7 y9 zi).Outs,Pending:=y18,Traps:=y17,Tables:=(ix x7 y1 zi).Tables,Own:=y15 }:Mon)) (fun x8=>(some [(aH (⟨y14,x8,y8,y6⟩:Host))]))))))))))) (a1,(a2,((ix y7.Outer a2 zM).Page,(0,(a3.Page,(a3.Rights,(a1,(a1,(a1,(a1,(a1,(y7.Pending,(y7.Traps,(a1,(y7.Own,(a0.Memory,(a0.Mons,(a0.Buffer,(a0.IoBuffer,([],([],([],([],()))))))))))))))))))))))))))
def zFr:FuncId->Nat->Option Tmpl:=zo [(331,0,{ n:=70,tm:=[(1,ti),(2,ti),(4,.lp 0 0),(7,.lp 1 0),(8,.lp 2 0),(9,.lp 3 0),(10,ti),(11,ti)],lo:=[(0,[.sl 0 [],.sl 1 [],.sl 2 [],.sl 3 []]),(1,[ti,ti]),(2,[.sl 4 [],.sl 5 [],.sl 6 [],.sl 7 []]),(3,[.sl 1 [0],.sl 1 [1],.sl 1 [2],.sl 1 [3],.sl 1 [4],ti,ti,.sl 1 [7],ti])],ro:=[(0,(.sl .int),true),(1,.mon,true),(2,.entry,true),(3,.entry,true),(4,(.sl .int),true),(5,.mon,true),(6,.entry,true),(7,.entry,true)] })]
theorem zHL (N:Nat)(a0:Host)(a1 a2:Int)(a3:Slot):zu7 (cQ zKR zjX zyh zgM) zFr N 12 331 [true,true,true,true,false,false,false,false] 1 1 [[0],[1],[2],[4],[7]] .mon [aH a0,aI a1,aI a2,aT .slot a3]=zo3 N a0 a1 a2 a3:=by kernel_rfl
theorem zFc (a0:Host)(a1 a2:Int)(a3:Slot)(hb:zbu big [aH a0,aI a1,aI a2,aT .slot a3])(hc:zdV a0 a1 a2 a3=true):∃N,zo3 N a0 a1 a2 a3=some [aH (zfu a0 a1 a2 a3)]:=by
 obtain ⟨hs,h1,h2,h3⟩:=zC.1 hc;have hH:=(zbI a0).1 hs;have hm:ziL (ix a0.Mons a1 zi):=hH.2.1.2 _ (zb7 h1 _);obtain ⟨k,rfl,hk⟩:=zcO (n:=a0.Mons.length) h1;have hT:=(zci hm.2.2.2.2.2.1).1;refine zbN fun N hNN=>?_;unfold zo3 oN
 conv=>zeta
 refine must h1 (must h2 ?_);refine zCE (ix a0.Mons (k:Int) zi).Tables.length (fun i (t:List Mon)=>((k:Int),a2,(ix (ix a0.Mons (k:Int) zi).Outer a2 zM).Page,(i:Int),a3.Page,a3.Rights,(k:Int),(k:Int),(k:Int),(k:Int),(k:Int),(ix a0.Mons (k:Int) zi).Pending,(ix a0.Mons (k:Int) zi).Traps,(k:Int),(ix a0.Mons (k:Int) zi).Own,a0.Memory,t,a0.Buffer,a0.IoBuffer,[],[],[],[],())) _
  (fun i t=>t=up a0.Mons (k:Int) (zhv (ix a0.Mons (k:Int) zi) a2 i)) (fun _ _=>some [AV.agg (zbi (zdh a0 (k:Int) a2 a3))]) (fun i t rec hi hI hr=>?_) (fun t rec hI=>?_) _ 0 a0.Mons ?_ (j9 _) ?_
 .subst hI;have hi2:i<(zn6 (ix a0.Mons (k:Int) zi).Guests a2 i (ix a0.Mons (k:Int) zi).Tables).length:=by rw[zkT];exact hi
  have hi3:i<(ix a0.Mons (k:Int) zi).Guests.length:=by omega
  have hf:zh0 (ix (zn6 (ix a0.Mons (k:Int) zi).Guests a2 i (ix a0.Mons (k:Int) zi).Tables) (i:Int) zdw) (ix (ix a0.Mons (k:Int) zi).Guests (i:Int) zG).Live a2=true :=
   zbh ⟨by rw[zbc hi2];exact (zoW _ _ _ _ (by omega) hm.2.2.2.2.2).2 _ (jS hi2),by rw[zbc hi3];exact (hm.2.2.2.1.2 _ (jS hi3)).2.2.1⟩
  simp only[zdp hk,zrP,zhv,zbp hi2,zY hi2,zY hi3,hf,cT,share,zQ hi hT];exact hr _ rfl
 .subst hI;simp only[zdp hk,zrP,zlM,zhv,ln,zkT,zx2,show ilt (((ix a0.Mons (k:Int) zi).Tables.length:Nat):Int) (((ix a0.Mons (k:Int) zi).Tables.length:Nat):Int)=false from qK (by omega),cT,cF,share]
  have h1':inb (k:Int) ((a0.Mons.length:Nat):Int)=true:=h1;have h2':inb a2 (((ix a0.Mons (k:Int) zi).Outer.length:Nat):Int)=true:=h2;have f1:zfb a0.Buffer (ix (ix a0.Mons (k:Int) zi).Outer a2 zM).Page=true:=zbh hH.2.2.1;have f2:zfb a0.IoBuffer (ix (ix a0.Mons (k:Int) zi).Outer a2 zM).Page=true:=zbh hH.2.2.2;simp only[h1',h2',f1,f2,cT];unfold zdh;cases ine (ix (ix a0.Mons (k:Int) zi).Outer a2 zM).Page (-1)<;>rfl
 .exact (zKA hk _).symm
 .exact hNN (by omega)
theorem zAa:zcP Tryz.prog 331 [true,true,true,true,false,false,false,false] (some (1,1,[[0],[1],[2],[4],[7]])) zmf:=by
 refine zhL (kt:=.mon) (zb3 zGd zq zl zn) (zcX (by kernel_rfl)) (by kernel_rfl) ?_
 intro avs rs hl hr h;have hb:=zfL hr;unfold zmf at h;split at h
 .obtain ⟨hc,rfl⟩:=zhu h;obtain ⟨N,hN⟩:=zFc _ _ _ _ (by exact hb) hc
  exact ⟨⟨_,rfl⟩,rfl,_,N,12,(zHL N _ _ _ _ ).trans hN⟩
 .cases h
def zIo:zdl:=[(331,([true,true,true,true,false,false,false,false],(some (1,1,[[0],[1],[2],[4],[7]])),zmf))]++zgM
theorem zcv:zcR zIo:=zkU zn (by
 intro x hx;simp only[qG,qU,or_false]at hx;rcases hx with rfl
 .exact zAa)
theorem zAe:∀(l:List Mon) (u:List Bool),zil l u=true->∀x∈l,zc8 x=true
 | [],_,_,x,hx=>by cases hx
 | m :: l,u,h,x,hx=>by
  simp only[zil]at h;cases h1:zc8 m
  .rw [h1]at h;cases h
  .rw [h1]at h;simp only[cT]at h;cases h2:zfV m.Outer u with
   | none=>rw[h2]at h;cases h
   | some u' =>
    rw[h2]at h;rcases qG.1 hx with rfl|hx
    .exact h1
    .exact zAe l u' h x hx
structure PageAt (h:Host) (m p:Int):Prop where
 hm:hasB m (ln h.Mons)=true
 hp:hasB p 8=true
 ok:zc8 (ix h.Mons m zi)=true
 ho:(ix h.Mons m zi).Outer.length=8
 hd:(ix h.Mons m zi).Dirty.length=8
 ht:(ix h.Mons m zi).Tables.length=(ix h.Mons m zi).Guests.length
 hs:zcV (ix (ix h.Mons m zi).Outer p zM) noSlot=ieq (ix (ix h.Mons m zi).Outer p zM).Page (-1)
theorem zNN {s:Slot}{n:Int}(h:zdv s n=true):zcV s noSlot=ieq s.Page (-1):=by
 unfold zdv at h;cases h1:zcV s noSlot
 .rw [h1]at h;cases h2:ieq s.Page (-1)
  .rfl
  .have e:s.Page = -1:=qJ h2;cases h3:igt n 0
   .rw [h3]at h;cases h
   .cases h4:win s.Page 0 (wsub .i64 n 1)
    .rw [h3,h4]at h;cases h
    .have:=(zep.1 h4).1;omega
 .unfold zcV at h1;rw[qD]at h1;exact h1.1.symm
theorem zJP {h:Host}{m p:Int}{s:Slot}(hm:hasB m (ln h.Mons)=true)(hs:SmH h):SmH (zdh h m p s):=by
 have hx:=hs.2.1.2 _ (zb7 hm zi);have ht:=zNO (p:=p) (qV _) hx;have hM:zs9 (up h.Mons m { zhv (ix h.Mons m zi) p (ix h.Mons m zi).Tables.length with Outer:=up (ix h.Mons m zi).Outer p s }):=zuS hs.2.1 ⟨by simpa using hx.1,ht.2⟩
 unfold zdh;cases ine (ix (ix h.Mons m zi).Outer p zM).Page (-1)
 .exact ⟨hs.1,hM,hs.2.2⟩
 .exact ⟨hs.1,hM,jF (zwq _ _) hs.2.2.1,jF (zwq _ _) hs.2.2.2⟩
def zMP:zK:=zKR
theorem zMQ:zx zMP:=zGd
def zMR:zK:=zMP
theorem zdz:zx zMR:=zMQ
def zl4 (o i t:Int):Int:=bif zcN i t then 1 else (cond (zcN o t) 2 0)
@[simp] abbrev zpd (o i t:Int):Bool:=true
@[simp] abbrev zjo (o i t:Int):Int:=zl4 o i t
def zsj:Run:=rF3 dI dI dI fun b c d=>(zpd b c d,[aI (zjo b c d)])
def zv2 (N:Nat)(a0 a1 a2:Int):OA:=
 (oN (zgD a1 a2) (cond (zfW a1 a2) (some [(aI 1)]) (oN (zgD a0 a2) (cond (zfW a0 a2) (some [(aI 2)]) (some [(aI 0)])))))
theorem zEP (a0 a1 a2:Int)(hc:zpd a0 a1 a2=true):∃N,zv2 N a0 a1 a2=some [aI (zjo a0 a1 a2)]:=by
 refine ⟨0,?_⟩;unfold zv2 oN;refine must rfl (br (fun _=>?_) (fun _=>must rfl (br (fun _=>?_) (fun _=>?_))))
 all_goals first|rfl|(simp only [*,zjo,zl4,cT,cF]<;>rfl)|simp_all[Ty.cells,zjo,zl4]
theorem zzQ:uV 282 zsj:=kF3 zdz zq zl zcv (zo []) zEP
theorem zSi (p:Int):hasB p 3=win p 0 2:=by
 unfold hasB win ige ile
 by_cases h1:0<=p<;>by_cases h2:p<3
 .rw [qN (p:=0<=p/\p<3) ⟨h1,h2⟩,qN (p:=p≥0) h1,qN (p:=p<=2) (by omega)];rfl
 .rw [qK (p:=0<=p/\p<3) (by omega),qK (p:=p<=2) (by omega)];simp
 .rw [qK (p:=0<=p/\p<3) (by omega),qK (p:=p≥0) (by omega)];simp
 .rw [qK (p:=0<=p/\p<3) (by omega),qK (p:=p≥0) (by omega)];simp
theorem zSh (p:Int):hasB p 2=win p 0 1:=by
 unfold hasB win ige ile
 by_cases h1:0<=p<;>by_cases h2:p<2
 .rw [qN (p:=0<=p/\p<2) ⟨h1,h2⟩,qN (p:=p≥0) h1,qN (p:=p<=1) (by omega)];rfl
 .rw [qK (p:=0<=p/\p<2) (by omega),qK (p:=p<=1) (by omega)];simp
 .rw [qK (p:=0<=p/\p<2) (by omega),qK (p:=p≥0) (by omega)];simp
 .rw [qK (p:=0<=p/\p<2) (by omega),qK (p:=p≥0) (by omega)];simp
def zgR (m g:Int):Int:=bif win m 0 2 then (cond (win g 0 1) (zB .i64 (zB .i64 1 g) (zkl .i64 m 2)) 0) else 0
@[simp] abbrev zuK (m g:Int):Bool:=true
@[simp] abbrev zqA (m g:Int):Int:=zgR m g
def zwQ:Run:=rF2 dI dI fun b c=>(zuK b c,[aI (zqA b c)])
def zDK (N:Nat)(a0 a1:Int):OA:=
 (oN (zT a0 0 2) (cond (nB (zZ a0 0 2)) (some [(aI 0)]) (oN (zT a1 0 1) (cond (nB (zZ a1 0 1)) (some [(aI 0)]) (some [(aI (zB .i64 (zB .i64 1 a1) (zkl .i64 a0 2)))])))))
theorem zJq (a0 a1:Int)(hc:zuK a0 a1=true):∃N,zDK N a0 a1=some [aI (zqA a0 a1)]:=by
 refine ⟨0,?_⟩;unfold zDK oN nB;refine must rfl (brN (fun _=>?_) (fun _=>must rfl (brN (fun _=>?_) (fun _=>?_))))
 all_goals first|rfl|(simp only [*,zqA,zgR,cT,cF]<;>rfl)|simp_all[Ty.cells,zqA,zgR]
theorem zEF:uV 262 zwQ:=kF2 zdz zq zl zcv (zo []) zJq
@[simp] abbrev zov (m g:Int):Bool:=true
@[simp] abbrev zpY (m g:Int):Int:=zgR m g
def zwL:Run:=rF2 dI dI fun b c=>(zov b c,[aI (zpY b c)])
def zDE (N:Nat)(a0 a1:Int):OA:=
 (oN (zby a0 3) (cond (nB (zbS a0 3)) (some [(aI 0)]) (oN (zby a1 2) (cond (nB (zbS a1 2)) (some [(aI 0)]) (some [(aI (zB .i64 (zB .i64 1 a1) (zkl .i64 a0 2)))])))))
theorem zJj (a0 a1:Int)(hc:zov a0 a1=true):∃N,zDE N a0 a1=some [aI (zpY a0 a1)]:=by
 refine ⟨0,?_⟩;unfold zDE oN nB;refine must rfl (brN (fun _=>?_) (fun _=>must rfl (brN (fun _=>?_) (fun _=>?_))))
 all_goals first|rfl|(simp only [*,zpY,zgR,zSi,zSh,cT,cF]<;>rfl)|simp_all[Ty.cells,zpY,zgR,zSi,zSh]
theorem zEz:uV 67 zwL:=kF2 zdz zq zl zcv (zo []) zJj
def ziu (k:Kept)(p:Int):Bool:=bif zc6 k p then ix k.Known p false else false
def zdB (k:Kept)(p:Int):Slot:=bif ziu k p then ix k.Slots p zM else noSlot
@[simp] abbrev zvn (k:Kept)(p:Int):Bool:=pc (SmK k)
@[simp] abbrev znb (k:Kept)(p:Int):Slot:=zdB k p
@[simp] abbrev zvm (k:Kept)(p:Int):Bool:=ziu k p
def zEi:Run:=rF2 (dT .kept) dI fun b c=>(zvn b c,[aT .slot (znb b c),aB (zvm b c)])
def zJZ (N:Nat)(a0:Kept)(a1:Int):OA:=
 let y0:=(ix a0.Slots a1 zM); (oN (zkd a0 a1) (cond (nB (zfE a0 a1)) (oN zb2 (some [(.agg [(.i .i64 zbm.Page),(.i .i64 zbm.Rights)]),(aB false)])) (oN (inb a1 (ln a0.Known)) (cond (nB (ix a0.Known a1 false)) (oN zb2 (some [(.agg [(.i .i64 zbm.Page),(.i .i64 zbm.Rights)]),(aB false)])) (oN (inb a1 (ln a0.Slots)) (some [(.agg [(.i .i64 y0.Page),(.i .i64 y0.Rights)]),(aB true)]))))))
theorem zNj (a0:Kept)(a1:Int)(hc:zvn a0 a1=true):∃N,zJZ N a0 a1=some [aT .slot (znb a0 a1),aB (zvm a0 a1)]:=by
 have hs:=zC.1 hc;refine ⟨0,?_⟩;unfold zJZ znb zvm zdB ziu oN nB
 conv=>zeta
 refine must (zbh hs) ?_;rw[show zfE a0 a1=zc6 a0 a1 from rfl]
 cases hh:zc6 a0 a1
 .rfl
 .unfold zc6 at hh;obtain ⟨h1,h2⟩:=zcF.1 hh;simp only[zA h1,zA h2,cT];cases ix a0.Known a1 false<;>rfl
theorem zJb:uV 337 zEi:=kF2 zdz zq zl zcv (zo []) zNj
@[simp] abbrev zpV (k:Kept)(p:Int):Bool:=true
@[simp] abbrev zm6 (k:Kept)(p:Int):Slot:=zdB k p
@[simp] abbrev zvf (k:Kept)(p:Int):Bool:=ziu k p
def zEe:Run:=rF2 (dT .kept) dI fun b c=>(zpV b c,[aT .slot (zm6 b c),aB (zvf b c)])
def zJV (N:Nat)(a0:Kept)(a1:Int):OA:=
 let y0:=(ix a0.Slots a1 zM); (oN (zby a1 (ln a0.Known)) (cond (nB (zbS a1 (ln a0.Known))) (oN zca (some [(.agg [(.i .i64 zbK.Page),(.i .i64 zbK.Rights)]),(aB false)])) (oN (zby a1 (ln a0.Slots)) (cond (nB (zbS a1 (ln a0.Slots))) (oN zca (some [(.agg [(.i .i64 zbK.Page),(.i .i64 zbK.Rights)]),(aB false)])) (oN (inb a1 (ln a0.Known)) (cond (nB (ix a0.Known a1 false)) (oN zca (some [(.agg [(.i .i64 zbK.Page),(.i .i64 zbK.Rights)]),(aB false)])) (oN (inb a1 (ln a0.Slots)) (some [(.agg [(.i .i64 y0.Page),(.i .i64 y0.Rights)]),(aB true)]))))))))
theorem zNf (a0:Kept)(a1:Int)(hc:zpV a0 a1=true):∃N,zJV N a0 a1=some [aT .slot (zm6 a0 a1),aB (zvf a0 a1)]:=by
 refine ⟨0,?_⟩;unfold zJV zm6 zvf zdB ziu zc6 oN nB
 conv=>zeta
 rw[show zbS a1 (ln a0.Known)=hasB a1 (ln a0.Known) from rfl,show zbS a1 (ln a0.Slots)=hasB a1 (ln a0.Slots) from rfl]
 cases h1:hasB a1 (ln a0.Known)
 .rfl
 .cases h2:hasB a1 (ln a0.Slots)
  .rfl
  .simp only [zby,zA h1,zA h2,cT];cases ix a0.Known a1 false<;>rfl
theorem zI7:uV 344 zEe:=kF2 zdz zq zl zcv (zo []) zNf
def filled (k:Kept)(inner outer:List Slot)(p:Int):Kept:=bif zc6 k p then (cond (hasB p (ln inner)) ⟨up k.Known p true,up k.Slots p (zdQ (ix inner p zM) outer)⟩ k) else k
@[simp] theorem zL1 {k:Kept}{inner outer:List Slot}{p:Int}(h:SmK k):SmK (filled k inner outer p):=by
 unfold filled;cases zc6 k p
 .exact h
 .cases hasB p (ln inner)
  .exact h
  .exact ⟨by simpa using h.1,by simpa using h.2⟩
@[simp] abbrev zyl (k:Kept)(i o:List Slot)(p:Int):Bool:=pc (SmK k)
@[simp] abbrev zAS (k:Kept)(i o:List Slot)(p:Int):Kept:=filled k i o p
def zAR:Run:=rF4 (dT .kept) (dS .slot) (dS .slot) dI fun b c d e=>(zyl b c d e,[aT .kept (zAS b c d e)])
def zFP (N:Nat)(a0:Kept)(a1 a2:lS)(a3:Int):OA:=
 let y0:=(zcI a0); (oN (zeC a0) (oN (zkd y0 a3) (cond (zfE y0 a3) (cond (ilt a3 (ln a1)) (oN (inb a3 (ln y0.Known)) (share (up y0.Known a3 true) (fun x5=>(oN (inb a3 (ln a1)) (oN (zgP (ix a1 a3 zM) a2) (oN (inb a3 (ln y0.Slots)) (share (up y0.Slots a3 (ziS (ix a1 a3 zM) a2)) (fun x6=>(some [(aT .kept (⟨x5,x6⟩:Kept))]))))))))) (some [(aT .kept y0)])) (some [(aT .kept y0)]))))
theorem zLn (a0:Kept)(a1 a2:List Slot)(a3:Int)(hc:zyl a0 a1 a2 a3=true):∃N,zFP N a0 a1 a2 a3=some [aT .kept (zAS a0 a1 a2 a3)]:=by
 have hs:=zC.1 hc;refine ⟨0,?_⟩;unfold zFP zAS filled oN
 conv=>zeta
 refine must (zbh ((zu1 _).2 hs)) (must (zbh hs) ?_);rw[show zfE (zcI a0) a3=zc6 a0 a3 from rfl]
 cases hh:zc6 a0 a3
 .rfl
 .unfold zc6 at hh;obtain ⟨h1,h2⟩:=zcF.1 hh;rw[has_lt h1 (m:=ln a1)];cases h3:hasB a3 (ln a1)
  .rfl
  .simp only [cT,zcI,zA h1,zA h2,zA h3,share,zgP];rfl
theorem zGB:uV 338 zAR:=kF4 zdz zq zl zcv (zo []) zLn
@[simp] abbrev zxV (k:Kept)(i o:List Slot)(p:Int):Bool:=pc (SmK k)
@[simp] abbrev zAf (k:Kept)(i o:List Slot)(p:Int):Kept:=filled k i o p
def zAP:Run:=rF4 (dT .kept) (dS .slot) (dS .slot) dI fun b c d e=>(zxV b c d e,[aT .kept (zAf b c d e)])
def zFM (N:Nat)(a0:Kept)(a1 a2:lS)(a3:Int):OA:=
 let y0:=(zcb a0); (oN (zd7 a0) (oN (zby a3 (ln a0.Known)) (cond (zbS a3 (ln a0.Known)) (oN (zby a3 (ln a0.Slots)) (cond (zbS a3 (ln a0.Slots)) (oN (zby a3 (ln a1)) (cond (zbS a3 (ln a1)) (oN (inb a3 (ln y0.Known)) (share (up y0.Known a3 true) (fun x5=>(oN (inb a3 (ln a1)) (oN (zgN (ix a1 a3 zM) a2) (oN (inb a3 (ln y0.Slots)) (share (up y0.Slots a3 (ziM (ix a1 a3 zM) a2)) (fun x6=>(some [(aT .kept (⟨x5,x6⟩:Kept))]))))))))) (some [(aT .kept y0)]))) (some [(aT .kept y0)]))) (some [(aT .kept y0)]))))
theorem zLj (a0:Kept)(a1 a2:List Slot)(a3:Int)(hc:zxV a0 a1 a2 a3=true):∃N,zFM N a0 a1 a2 a3=some [aT .kept (zAf a0 a1 a2 a3)]:=by
 have hs:=zC.1 hc;refine ⟨0,?_⟩;unfold zFM zAf filled zc6 oN
 conv=>zeta
 refine must (zbh hs) ?_;simp only[zbS,zby,zcb,cT];cases h1:hasB a3 (ln a0.Known)
 .rfl
 .cases h2:hasB a3 (ln a0.Slots)
  .rfl
  .cases h3:hasB a3 (ln a1)
   .rfl
   .simp only [cT,zA h1,zA h2,zA h3,share,zgN];rfl
theorem zGx:uV 345 zAP:=kF4 zdz zq zl zcv (zo []) zLj
theorem zxv {α ρ:Type}(p:α->Bool)(r:α->Option ρ)(K:Unit->Option ρ):∀(l:List α) (i:Nat),goL (fun _ x (_:Unit) k=>bif p x then r x else k ()) K l i ()=match l.find? p with|some x=>r x|none=>K ()
 | [],_=>rfl
 | x :: l,i=>by
  simp only[goL];cases h:p x
  .rw [List.find?_cons_of_neg (by simp[h])]
   exact zxv p r K l (i+1)
  .rw [List.find?_cons_of_pos h];rfl
def zqU (b:List Entry)(t p:Int):Option Entry:=b.find? fun e=>bif ieq e.Tag t then ieq e.Page p else false
@[simp] abbrev ziU (b:List Entry)(t p:Int):Bool:=true
@[simp] abbrev ziT (b:List Entry)(t p:Int):Entry:=(zqU b t p).getD ⟨0,0,0,0⟩
@[simp] abbrev zgt (b:List Entry)(t p:Int):Bool:=(zqU b t p).isSome
def zoM:Run:=rF3 (dS .entry) dI dI fun b c d=>(ziU b c d,[aT .entry (ziT b c d),aB (zgt b c d)])
def zr4 (N:Nat)(a0:lE)(a1 a2:Int):OA:=
 (iter (σ:=(Int×(Int×(Int×(Int×(Int×(Int×(Int×(lE×Unit))))))))) N (fun r4 s5=>let y2:=s5.2.2.2.2.2.2.2.1;let y3:=(inb s5.2.2.1 (ln y2));let y1:=(r4 (s5.1,(s5.2.1,((zB .i64 s5.2.2.1 1),(s5.2.2.2.1,(s5.2.2.2.2.1,(s5.2.2.2.2.2.1,(s5.2.2.2.2.2.2.1,(y2,())))))))));let y0:=(ix y2 s5.2.2.1 zdy); (cond (ilt s5.2.2.1 (ln y2)) (oN y3 (cond (ieq y0.Tag s5.1) (oN y3 (cond (ieq y0.Page s5.2.1) (oN y3 (some [(.agg [(.i .i64 y0.Tag),(.i .i64 y0.Page),(.i .i64 y0.Host),(.i .i64 y0.Rights)]),(aB true)])) y1)) y1)) (some [(.agg [(.i .i64 0),(.i .i64 0),(.i .i64 0),(.i .i64 0)]),(aB false)]))) (a1,(a2,(0,(0,(0,(0,(0,(a0,())))))))))
def zBh:FuncId->Nat->Option Tmpl:=zo [(336,0,{ n:=36,tm:=[(0,.sl 0 []),(1,ti),(2,ti),(6,.lp 0 0),(8,ti)],lo:=[(0,[ti,ti,ti,ti])],ro:=[(0,.entry,false)] })]
theorem zAv (a0:List Entry)(a1 a2:Int)(hb:zbu big [aS .entry a0,aI a1,aI a2])(hc:ziU a0 a1 a2=true):∃N,zr4 N a0 a1 a2=some [aT .entry (ziT a0 a1 a2),aB (zgt a0 a1 a2)]:=by
 have hl:=(len0 hb);refine zbN fun N hNN=>?_;unfold zr4 oN
 conv=>zeta
 refine (zW a0 (fun i (t:Unit)=>(a1,a2,(i:Int),0,0,0,0,a0,())) _ (fun _ (x:Entry) (_:Unit) κ=>bif (cond (ieq x.Tag a1) (ieq x.Page a2) false) then (some [AV.agg (Ty.cells .entry x),AV.one (.b true)]) else κ ()) (fun (t:Unit)=>(some [(.agg [(.i .i64 0),(.i .i64 0),(.i .i64 0),(.i .i64 0)]),(.one (.b false))])) (fun i hi t rec=>?_) (fun t rec=>?_) _ () (hNN hl)).trans ?_
 .simp only [zbp hi,zY hi,zbc hi,zQ hi hl,cT];cases ieq a0[i].Tag a1<;>cases ieq a0[i].Page a2<;>rfl
 .simp only [zbg,cF]
 rw[zxv (fun e:Entry=>bif ieq e.Tag a1 then ieq e.Page a2 else false)]
 unfold ziT zgt zqU;cases a0.find? (fun e:Entry=>bif ieq e.Tag a1 then ieq e.Page a2 else false)<;>rfl
theorem zvK:uV 336 zoM:=hF3 zdz zq zl zcv zBh zAv
@[simp] abbrev ziN (b:List Entry)(t p:Int):Bool:=true
@[simp] abbrev zgo (b:List Entry)(t p:Int):Entry:=(zqU b t p).getD ⟨0,0,0,0⟩
@[simp] abbrev zgp (b:List Entry)(t p:Int):Bool:=(zqU b t p).isSome
def zoD:Run:=rF3 (dS .entry) dI dI fun b c d=>(ziN b c d,[aT .entry (zgo b c d),aB (zgp b c d)])
def zrW (N:Nat)(a0:lE)(a1 a2:Int):OA:=
 (iter (σ:=(Int×(Int×(Int×(Int×(Int×(Int×(Int×(Int×(lE×Unit)))))))))) N (fun r4 s5=>let y2:=s5.2.2.2.2.2.2.2.2.1;let y1:=(r4 (s5.1,(s5.2.1,(s5.2.2.1,((zB .i64 s5.2.2.2.1 1),(s5.2.2.2.2.1,(s5.2.2.2.2.2.1,(s5.2.2.2.2.2.2.1,(s5.2.2.2.2.2.2.2.1,(y2,()))))))))));let y0:=(ix y2 s5.2.2.2.1 zdy); (cond (ilt s5.2.2.2.1 s5.2.2.1) (oN (inb s5.2.2.2.1 (ln y2)) (cond (ieq y0.Tag s5.1) (cond (ieq y0.Page s5.2.1) (some [(.agg [(.i .i64 y0.Tag),(.i .i64 y0.Page),(.i .i64 y0.Host),(.i .i64 y0.Rights)]),(aB true)]) y1) y1)) (some [(.agg [(.i .i64 0),(.i .i64 0),(.i .i64 0),(.i .i64 0)]),(aB false)]))) (a1,(a2,((ln a0),(0,(0,(0,(0,(0,(a0,()))))))))))
def zBe:FuncId->Nat->Option Tmpl:=zo [(343,0,{ n:=29,tm:=[(1,ti),(2,ti),(6,.lp 0 0),(10,.sl 0 []),(11,ti),(12,ti)],lo:=[(0,[ti,ti,ti,ti])],ro:=[(0,.entry,false)] })]
theorem zAm (a0:List Entry)(a1 a2:Int)(hb:zbu big [aS .entry a0,aI a1,aI a2])(hc:ziN a0 a1 a2=true):∃N,zrW N a0 a1 a2=some [aT .entry (zgo a0 a1 a2),aB (zgp a0 a1 a2)]:=by
 have hl:=(len0 hb);refine zbN fun N hNN=>?_;unfold zrW oN
 conv=>zeta
 refine (zW a0 (fun i (t:Unit)=>(a1,a2,(ln a0),(i:Int),0,0,0,0,a0,())) _ (fun _ (x:Entry) (_:Unit) κ=>bif (cond (ieq x.Tag a1) (ieq x.Page a2) false) then (some [AV.agg (Ty.cells .entry x),AV.one (.b true)]) else κ ()) (fun (t:Unit)=>(some [(.agg [(.i .i64 0),(.i .i64 0),(.i .i64 0),(.i .i64 0)]),(.one (.b false))])) (fun i hi t rec=>?_) (fun t rec=>?_) _ () (hNN hl)).trans ?_
 .simp only [zbp hi,zY hi,zbc hi,zQ hi hl,cT];cases ieq a0[i].Tag a1<;>cases ieq a0[i].Page a2<;>rfl
 .simp only [zbg,cF]
 rw[zxv (fun e:Entry=>bif ieq e.Tag a1 then ieq e.Page a2 else false)]
 unfold zgo zgp zqU;cases a0.find? (fun e:Entry=>bif ieq e.Tag a1 then ieq e.Page a2 else false)<;>rfl
theorem zvB:uV 343 zoD:=hF3 zdz zq zl zcv zBe zAm
def znL (t p:Int)(e:Entry):Bool:=bif ine e.Tag t then true else ine e.Page p
def zcD (b:List Entry)(t p:Int):List Entry:=b.filter (znL t p)
theorem zK3 (b:List Entry)(t p:Int):(zcD b t p).length<=b.length:=List.length_filter_le _ _
@[simp] abbrev zmj (b:List Entry)(t p:Int):Bool:=pc (b.length<=1048576)
@[simp] abbrev zpo (b:List Entry)(t p:Int):List Entry:=zcD b t p
def zoO:Run:=rF3 (dS .entry) dI dI fun b c d=>(zmj b c d,[aS .entry (zpo b c d)])
def zr6 (N:Nat)(a0:lE)(a1 a2:Int):OA:=
 (iter (σ:=(Int×(Int×(Int×(lE×(lE×Unit)))))) N (fun r4 s5=>let y4:=s5.2.2.2.1;let y2:=(inb s5.2.2.1 (ln y4));let y0:=(ix y4 s5.2.2.1 zdy);let y3:=(ap s5.2.2.2.2.1 [y0]);let y1:=(r4 (s5.1,(s5.2.1,((zB .i64 s5.2.2.1 1),(y4,(y3,())))))); (cond (ilt s5.2.2.1 (ln y4)) (oN y2 (cond (ine y0.Tag s5.1) (oN y2 (oN (few (ln y3)) y1)) (oN y2 (cond (ine y0.Page s5.2.1) (oN y2 (oN (few (ln y3)) y1)) (r4 (s5.1,(s5.2.1,((zB .i64 s5.2.2.1 1),(y4,(s5.2.2.2.2.1,())))))))))) (some [(aS .entry s5.2.2.2.2.1)]))) (a1,(a2,(0,(a0,([],()))))))
def zBj:FuncId->Nat->Option Tmpl:=zo [(261,0,{ n:=40,tm:=[(0,.sl 0 []),(1,ti),(2,ti),(7,.sl 1 []),(8,ti)],lo:=[],ro:=[(0,.entry,false),(1,.entry,true)] })]
theorem zAx (a0:List Entry)(a1 a2:Int)(hc:zmj a0 a1 a2=true):∃N,zr6 N a0 a1 a2=some [aS .entry (zpo a0 a1 a2)]:=by
 have hs:=zC.1 hc;have hl:=zci hs;refine zbN fun N hNN=>?_;unfold zr6 oN
 conv=>zeta
 refine (zW a0 (fun i (t:lE)=>(a1,a2,(i:Int),a0,t,())) _ (fun _ (x:Entry) (t:List Entry) κ=>bif znL a1 a2 x then (cond (few (ln (ap t [x]))) (κ (ap t [x])) none) else κ t) (fun (t:lE)=>(some [(.one (.s .entry t))])) (fun i hi t rec=>?_) (fun t rec=>?_) _ ([]) (hNN hl.1)).trans ?_
 .simp only [zbp hi,zY hi,zbc hi,zQ hi hl.1,cT];unfold znL;cases ine a0[i].Tag a1<;>cases ine a0[i].Page a2<;>rfl
 .simp only [zbg,cF]
 exact zhJ (znL a1 a2) _ a0 0 [] (by simpa using hl.2)
theorem zvM:uV 261 zoO:=kF3 zdz zq zl zcv zBj zAx
@[simp] abbrev zl0 (b:List Entry)(t p:Int):Bool:=pc (b.length<=1048576)
@[simp] abbrev zk8 (b:List Entry)(t p:Int):List Entry:=zcD b t p
def zoF:Run:=rF3 (dS .entry) dI dI fun b c d=>(zl0 b c d,[aS .entry (zk8 b c d)])
def zrY (N:Nat)(a0:lE)(a1 a2:Int):OA:=
 (iter (σ:=(Int×(Int×(Int×(Int×(lE×(lE×Unit))))))) N (fun r4 s5=>let y3:=s5.2.2.2.2.2.1;let y0:=(ix y3 s5.2.1 zdy);let y2:=(ap s5.2.2.2.2.1 [y0]);let y1:=(r4 (s5.1,((zB .i64 s5.2.1 1),(s5.2.2.1,(s5.2.2.2.1,(y2,(y3,()))))))); (cond (ilt s5.2.1 s5.1) (oN (inb s5.2.1 (ln y3)) (cond (ieq y0.Tag s5.2.2.1) (cond (nB (ieq y0.Page s5.2.2.2.1)) (oN (few (ln y2)) y1) (r4 (s5.1,((zB .i64 s5.2.1 1),(s5.2.2.1,(s5.2.2.2.1,(s5.2.2.2.2.1,(y3,())))))))) (oN (few (ln y2)) y1))) (some [(aS .entry s5.2.2.2.2.1)]))) ((ln a0),(0,(a1,(a2,([],(a0,())))))))
def zBg:FuncId->Nat->Option Tmpl:=zo [(156,0,{ n:=25,tm:=[(1,.fn 157 [0,1]),(5,.sl 0 []),(9,.sl 1 []),(10,ti),(11,ti)],lo:=[(0,[ti]),(1,[ti])],ro:=[(0,.entry,true),(1,.entry,false)] })]
theorem zAo (a0:List Entry)(a1 a2:Int)(hc:zl0 a0 a1 a2=true):∃N,zrY N a0 a1 a2=some [aS .entry (zk8 a0 a1 a2)]:=by
 have hs:=zC.1 hc;have hl:=zci hs;refine zbN fun N hNN=>?_;unfold zrY oN nB
 conv=>zeta
 refine (zW a0 (fun i (t:lE)=>((ln a0),(i:Int),a1,a2,t,a0,())) _ (fun _ (x:Entry) (t:List Entry) κ=>bif znL a1 a2 x then (cond (few (ln (ap t [x]))) (κ (ap t [x])) none) else κ t) (fun (t:lE)=>(some [(.one (.s .entry t))])) (fun i hi t rec=>?_) (fun t rec=>?_) _ ([]) (hNN hl.1)).trans ?_
 .simp only [zbp hi,zY hi,zbc hi,zQ hi hl.1,cT];unfold znL;simp only[zhU];cases ieq a0[i].Tag a1<;>cases ieq a0[i].Page a2<;>rfl
 .simp only [zbg,cF]
 exact zhJ (znL a1 a2) _ a0 0 [] (by simpa using hl.2)
theorem zvD:uV 66 zoF:=kF3 zdz zq zl zcv zBg zAo
def zQe:zK:=[(282,zsj),(262,zwQ),(67,zwL),(337,zEi),(344,zEe),(338,zAR),(345,zAP),(336,zoM),(343,zoD),(261,zoO),(66,zoF)]++zMR
theorem znq:zx zQe:=zh zzQ (zh zEF (zh zEz (zh zJb (zh zI7 (zh zGB (zh zGx (zh zvK (zh zvB (zh zvM (zh zvD zdz))))))))))
def ztQ (b:List Entry)(e:Entry):List Entry:=bif igt (ln (ap (zcD b e.Tag e.Page) [e])) 6 then dp (ap (zcD b e.Tag e.Page) [e]) (wsub .i64 (ln (ap (zcD b e.Tag e.Page) [e])) 6) else ap (zcD b e.Tag e.Page) [e]
theorem zrv {b:List Entry}(e:Entry)(h:b.length<=1048576):(ztQ b e).length<=1048576/\(ap (zcD b e.Tag e.Page) [e]).length<=1048577:=by
 have h1:=zK3 b e.Tag e.Page;have h2:(ap (zcD b e.Tag e.Page) [e]).length<=1048577:=by simp[ap];omega
 refine ⟨?_,h2⟩;unfold ztQ;cases h3:igt (ln (ap (zcD b e.Tag e.Page) [e])) 6
 .have h3:=jZ h3;simp only[ln]at h3;simp only[cF];omega
 .simp only [cT,dp,List.length_drop];have h3:=qJ h3;have:wsub .i64 (ln (ap (zcD b e.Tag e.Page) [e])) 6=ln (ap (zcD b e.Tag e.Page) [e])-6:=znh (by simp only[ln] at *;omega) (by simp only[ln] at *;omega)
  rw[this];simp only[ln] at *;omega
@[simp] abbrev zkb (b:List Entry)(e:Entry):Bool:=pc (b.length<=1048576)
@[simp] abbrev zka (b:List Entry)(e:Entry):List Entry:=ztQ b e
def zqr:Run:=rF2 (dS .entry) (dT .entry) fun b c=>(zkb b c,[aS .entry (zka b c)])
def zs4 (N:Nat)(a0:lE)(a1:Entry):OA:=
 let y0:=(ap (zpo a0 a1.Tag a1.Page) [a1]);let y1:=(wsub .i64 (ln y0) 6); (oN (zmj a0 a1.Tag a1.Page) (oN (few (ln y0)) (cond (igt (ln y0) 6) (oN (inr y1 (ln y0) (ln y0)) (oN (few (ln (ap [] (dp y0 y1)))) (some [(aS .entry (ap [] (dp y0 y1)))]))) (some [(aS .entry y0)]))))
theorem zCZ (a0:List Entry)(a1:Entry)(hc:zkb a0 a1=true):∃N,zs4 N a0 a1=some [aS .entry (zka a0 a1)]:=by
 have hs:=zC.1 hc;obtain ⟨h1,h2⟩:=zrv a1 hs;refine ⟨0,?_⟩;unfold zs4 oN
 conv=>zeta
 refine must (zbh hs) (must (zeM (jF h2 (by decide:1048577<=2147483648))) ?_)
 unfold zka ztQ at *
 show _=some [AV.one (.s .entry (cond (igt (ln (ap (zcD a0 a1.Tag a1.Page) [a1])) 6) (dp (ap (zcD a0 a1.Tag a1.Page) [a1]) (wsub .i64 (ln (ap (zcD a0 a1.Tag a1.Page) [a1])) 6)) (ap (zcD a0 a1.Tag a1.Page) [a1])))]
 cases h3:igt (ln (ap (zcD a0 a1.Tag a1.Page) [a1])) 6
 .rfl
 .rw [h3]at h1;simp only[cT]at h1;have h3:=qJ h3;have e:wsub .i64 (ln (ap (zcD a0 a1.Tag a1.Page) [a1])) 6=ln (ap (zcD a0 a1.Tag a1.Page) [a1])-6:=znh (by simp only[ln] at *;omega) (by simp only[ln] at *;omega)
  refine must rfl (must (qN ?_) (must ?_ ?_))
  .show 0<=wsub .i64 (ln (ap (zcD a0 a1.Tag a1.Page) [a1])) 6/\wsub .i64 (ln (ap (zcD a0 a1.Tag a1.Page) [a1])) 6<=ln (ap (zcD a0 a1.Tag a1.Page) [a1])/\ln (ap (zcD a0 a1.Tag a1.Page) [a1])<=ln (ap (zcD a0 a1.Tag a1.Page) [a1])
   rw[e];simp only[ln] at *;omega
  .exact zpN h1
  .rw [zij];rfl
theorem zxP:uV 339 zqr:=kF2 znq zq zl zcv (zo []) zCZ
@[simp] abbrev zjP (b:List Entry)(e:Entry):Bool:=pc (b.length<=1048576)
@[simp] abbrev zjO (b:List Entry)(e:Entry):List Entry:=ztQ b e
def zqf:Run:=rF2 (dS .entry) (dT .entry) fun b c=>(zjP b c,[aS .entry (zjO b c)])
def zsO (N:Nat)(a0:lE)(a1:Entry):OA:=
 let y0:=(ap (zk8 a0 a1.Tag a1.Page) [a1]);let y1:=(imax 0 (wsub .i64 (ln y0) 6)); (oN (zl0 a0 a1.Tag a1.Page) (oN (few (ln y0)) (oN (inr y1 (ln y0) (ln y0)) (some [(aS .entry (dp y0 y1))]))))
theorem zCN (a0:List Entry)(a1:Entry)(hc:zjP a0 a1=true):∃N,zsO N a0 a1=some [aS .entry (zjO a0 a1)]:=by
 have hs:=zC.1 hc;obtain ⟨_,h2⟩:=zrv a1 hs;refine ⟨0,?_⟩;unfold zsO zjO ztQ oN
 conv=>zeta
 simp only[zk8];generalize ap (zcD a0 a1.Tag a1.Page) [a1]=l at h2 ⊢;refine must (zbh hs) (must (zeM (jF h2 (by decide:1048577<=2147483648))) ?_)
 have e:wsub .i64 (ln l) 6=ln l-6:=znh (by simp only[ln] at *;omega) (by simp only[ln] at *;omega)
 rw[e];cases h3:igt (ln l) 6
 .have h3:=jZ h3;have e2:imax 0 (ln l-6)=0:=by
   unfold imax;rw[if_neg (by omega)]
  rw[e2];exact must (qN (by simp only[ln];omega)) (by simp[dp])
 .have h3:=qJ h3;have e2:imax 0 (ln l-6)=ln l-6:=by
   unfold imax;rw[if_pos (by omega)]
  rw[e2];exact must (qN (by simp only[ln] at *;omega)) rfl
theorem zxD:uV 346 zqf:=kF2 znq zq zl zcv (zo []) zCN
def zqV (l:List Slot)(p:Int):Option Nat:=l.findIdx? fun s=>ieq s.Page p
def ziQ (p:Int):List Mon->Nat->Int×Int
 | [],_=>(-1,-1)
 | m :: l,i=>match zqV m.Outer p with|some k=>((i:Int),(k:Int))|none=>ziQ p l (i+1)
def zcw (h:Host)(p:Int):Int×Int:=bif ilt p 0 then (-1,-1) else ziQ p h.Mons 0
theorem zD1 {ρ:Type}(p:Slot->Bool)(r:Nat->Option ρ)(K:Unit->Option ρ):∀(l:List Slot) (i:Nat),goL (fun j x (_:Unit) k=>bif p x then r j else k ()) K l i ()=match l.findIdx? p with|some k=>r (i+k)|none=>K ()
 | [],_=>rfl
 | x :: l,i=>by
  simp only[goL];rw[List.findIdx?_cons];cases h:p x
  .simp only [cF,kK,if_false];rw[zD1 p r K l (i+1)];cases l.findIdx? p with
   | none=>rfl
   | some k=>simp only[Option.map_some];congr 1;omega
  .rfl
theorem zBE {ρ:Type}(p:Int)(r:Int->Int->Option ρ):∀(l:List Mon) (i:Nat),goL (fun i (x:Mon) (_:Unit) κ=>goL (fun j (y:Slot) (_:Unit) κ₁=>bif ieq y.Page p then r (i:Int) (j:Int) else κ₁ ()) (fun _=>κ ()) x.Outer 0 ()) (fun _=>r (-1) (-1)) l i ()=r (ziQ p l i).1 (ziQ p l i).2
 | [],_=>rfl
 | m :: l,i=>by
  simp only[goL,ziQ];rw[zD1 (fun s=>ieq s.Page p) (fun j=>r (i:Int) (j:Int))];unfold zqV;cases m.Outer.findIdx? (fun s=>ieq s.Page p) with
  | none=>exact zBE p r l (i+1)
  | some k=>simp only[jY]
@[simp] abbrev zgO (h:Host)(p:Int):Bool:=true
@[simp] abbrev zed (h:Host)(p:Int):Int:=(zcw h p).1
@[simp] abbrev zfi (h:Host)(p:Int):Int:=(zcw h p).2
def zms:Run:=rF2 dH dI fun b c=>(zgO b c,[aI (zed b c),aI (zfi b c)])
def zob (N:Nat)(a0:Host)(a1:Int):OA:=
 (cond (ilt a1 0) (some [(aI (-1)),(aI (-1))]) (iter (σ:=(Int×(Int×(Int×(lN×Unit))))) N (fun r3 s4=>let y3:=s4.2.2.1; (cond (ilt y3 s4.2.1) (oN (inb y3 (ln s4.2.2.2.1)) (iter (σ:=(Int×(Int×(Int×(Int×(Int×(Int×(Int×(lN×Unit))))))))) N (fun r5 s6=>let y2:=s6.2.2.2.2.2.2.2.1;let y1:=(ix y2 s6.2.2.2.2.1 zi).Outer;let y0:=s6.2.2.2.2.2.2.1; (cond (ilt y0 s6.2.2.2.2.2.1) (oN (inb y0 (ln y1)) (cond (ieq (ix y1 y0 zM).Page s6.1) (some [(aI s6.2.1),(aI y0)]) (r5 (s6.1,(s6.2.1,(s6.2.2.1,(s6.2.2.2.1,(s6.2.2.2.2.1,(s6.2.2.2.2.2.1,((zB .i64 y0 1),(y2,()))))))))))) (r3 (s6.1,(s6.2.2.1,((zB .i64 s6.2.2.2.1 1),(y2,()))))))) (s4.1,(y3,(s4.2.1,(y3,(y3,((ln (ix s4.2.2.2.1 y3 zi).Outer),(0,(s4.2.2.2.1,())))))))))) (some [(aI (-1)),(aI (-1))]))) (a1,((ln a0.Mons),(0,(a0.Mons,()))))))
def zvV:FuncId->Nat->Option Tmpl:=zo [(360,0,{ n:=36,tm:=[(1,ti),(13,.sl 0 []),(14,ti),(15,ti)],lo:=[],ro:=[(0,.mon,false)] }),(360,2,{ n:=36,tm:=[(1,ti),(6,ti),(13,.sl 0 []),(14,ti),(15,ti),(21,.sl 0 [0]),(22,ti),(23,ti)],lo:=[],ro:=[(0,.mon,false)] })]
theorem zvR (a0:Host)(a1:Int)(hb:zbu big [aH a0,aI a1])(hc:zgO a0 a1=true):∃N,zob N a0 a1=some [aI (zed a0 a1),aI (zfi a0 a1)]:=by
 have hm:CVB big (.s .mon a0.Mons):=(zcy hb).1 _ (by simp[AV.cvs,zbi])
 have hl:=hm.len;refine zbN fun N hNN=>?_;unfold zob zed zfi zcw oN
 conv=>zeta
 cases h0:ilt a1 0
 .simp only [cF];refine (zW a0.Mons (fun i (t:Unit)=>(a1,(ln a0.Mons),(i:Int),a0.Mons,())) _ (fun i (x:Mon) (_:Unit) κ=>goL (fun j (y:Slot) (_:Unit) κ₁=>bif ieq y.Page a1 then some [AV.one (.i .i64 (i:Int)),AV.one (.i .i64 (j:Int))] else κ₁ ()) (fun _=>κ ()) x.Outer 0 ()) (fun (t:Unit)=>(some [(.one (.i .i64 (-1))),(.one (.i .i64 (-1)))])) (fun i hi t rec=>?_) (fun t rec=>?_) _ () (hNN hl)).trans ?_
  .simp only [zbp hi,zY hi,zbc hi,zQ hi hl,cT];have ho:a0.Mons[i].Outer.length<=big:=(hm.inv.2 _ (jS hi) (.s .slot _) (by simp[Ty.cells])).len
   refine (zW a0.Mons[i].Outer (fun j (u:Unit)=>(a1,(i:Int),(ln a0.Mons),(i:Int),(i:Int),(ln a0.Mons[i].Outer),(j:Int),a0.Mons,())) _ (fun j (y:Slot) (_:Unit) κ₁=>bif ieq y.Page a1 then some [AV.one (.i .i64 (i:Int)),AV.one (.i .i64 (j:Int))] else κ₁ ()) (fun (u:Unit)=>(rec (a1,((ln a0.Mons),((((i+1:Nat)):Int),(a0.Mons,())))))) (fun j hj u rec1=>?_) (fun u rec1=>?_) _ () (hNN ho)).trans ?_
   .simp only [zbp hj,zY hj,zbc hj,zQ hj ho,cT,zY hi,zbc hi,zQ hi hl]
   .simp only [zbg,cF,zY hi,zbc hi,zQ hi hl]
   rfl
  .simp only [zbg,cF]
  exact zBE a1 (fun i j=>some [AV.one (.i .i64 i),AV.one (.i .i64 j)]) a0.Mons 0
 .rfl
theorem zsD:uV 360 zms:=hF2 znq zq zl zcv zvV zvR
theorem zM5 {α τ ρ:Type}(r:Option ρ):∀(l:List α) (i:Nat) (t:τ),goL (fun _ _ _ _=>r) (fun _=>r) l i t=r
 | [],_,_=>rfl
 | _ :: _,_,_=>rfl
@[simp] abbrev zgQ (h:Host)(p:Int):Bool:=true
@[simp] abbrev zee (h:Host)(p:Int):Int:=(zcw h p).1
@[simp] abbrev zfo (h:Host)(p:Int):Int:=(zcw h p).2
def zmu:Run:=rF2 dH dI fun b c=>(zgQ b c,[aI (zee b c),aI (zfo b c)])
def zod (N:Nat)(a0:Host)(a1:Int):OA:=
 (iter (σ:=(Int×(Int×(lM×(lN×(lE×(lE×Unit))))))) N (fun r3 s4=>(cond (ilt s4.2.1 (ln s4.2.2.2.1)) (cond (ige s4.1 0) (iter (σ:=(Int×(Int×(Int×(lM×(lN×(lE×(lE×Unit)))))))) N (fun r5 s6=>let y1:=s6.2.2.2.2.1;let y0:=(ix y1 s6.2.1 zi).Outer; (oN (inb s6.2.1 (ln y1)) (cond (ilt s6.2.2.1 (ln y0)) (oN (inb s6.2.1 (ln y1)) (oN (inb s6.2.2.1 (ln y0)) (cond (ieq (ix y0 s6.2.2.1 zM).Page s6.1) (some [(aI s6.2.1),(aI s6.2.2.1)]) (r5 (s6.1,(s6.2.1,((zB .i64 s6.2.2.1 1),(s6.2.2.2.1,(y1,(s6.2.2.2.2.2.1,(s6.2.2.2.2.2.2.1,()))))))))))) (r3 (s6.1,((zB .i64 s6.2.1 1),(s6.2.2.2.1,(y1,(s6.2.2.2.2.2.1,(s6.2.2.2.2.2.2.1,())))))))))) (s4.1,(s4.2.1,(0,(s4.2.2.1,(s4.2.2.2.1,(s4.2.2.2.2.1,(s4.2.2.2.2.2.1,())))))))) (some [(aI (-1)),(aI (-1))])) (some [(aI (-1)),(aI (-1))]))) (a1,(0,(a0.Memory,(a0.Mons,(a0.Buffer,(a0.IoBuffer,())))))))
def zvW:FuncId->Nat->Option Tmpl:=zo [(364,0,{ n:=44,tm:=[(1,ti),(2,.lp 0 0),(6,ti)],lo:=[(0,[.sl 0 [],.sl 1 [],.sl 2 [],.sl 3 []])],ro:=[(0,(.sl .int),false),(1,.mon,false),(2,.entry,false),(3,.entry,false)] }),(364,2,{ n:=44,tm:=[(1,ti),(2,.lp 0 0),(6,ti),(7,ti)],lo:=[(0,[.sl 0 [],.sl 1 [],.sl 2 [],.sl 3 []])],ro:=[(0,(.sl .int),false),(1,.mon,false),(2,.entry,false),(3,.entry,false)] })]
theorem zvT (a0:Host)(a1:Int)(hb:zbu big [aH a0,aI a1])(hc:zgQ a0 a1=true):∃N,zod N a0 a1=some [aI (zee a0 a1),aI (zfo a0 a1)]:=by
 have hm:CVB big (.s .mon a0.Mons):=(zcy hb).1 _ (by simp[AV.cvs,zbi])
 have hl:=hm.len;refine zbN fun N hNN=>?_;unfold zod zee zfo zcw oN
 conv=>zeta
 refine (zW a0.Mons (fun i (t:Unit)=>(a1,(i:Int),a0.Memory,a0.Mons,a0.Buffer,a0.IoBuffer,())) _ (fun i (x:Mon) (_:Unit) κ=>bif ige a1 0 then goL (fun j (y:Slot) (_:Unit) κ₁=>bif ieq y.Page a1 then some [AV.one (.i .i64 (i:Int)),AV.one (.i .i64 (j:Int))] else κ₁ ()) (fun _=>κ ()) x.Outer 0 () else some [AV.one (.i .i64 (-1)),AV.one (.i .i64 (-1))]) (fun (t:Unit)=>(some [(.one (.i .i64 (-1))),(.one (.i .i64 (-1)))])) (fun i hi t rec=>?_) (fun t rec=>?_) _ () (hNN hl)).trans ?_
 .simp only [zbp hi,zY hi,zbc hi,zQ hi hl,cT];cases h0:ige a1 0
  .rfl
  have ho:a0.Mons[i].Outer.length<=big:=(hm.inv.2 _ (jS hi) (.s .slot _) (by simp[Ty.cells])).len
  simp only[cT];refine (zW a0.Mons[i].Outer (fun j (_:Unit)=>(a1,((i:Int),((j:Int),(a0.Memory,(a0.Mons,(a0.Buffer,(a0.IoBuffer,())))))))) _ (fun j (y:Slot) (_:Unit) κ₁=>bif ieq y.Page a1 then some [AV.one (.i .i64 (i:Int)),AV.one (.i .i64 (j:Int))] else κ₁ ()) (fun _=>rec (a1,(((i+1:Nat):Int),(a0.Memory,(a0.Mons,(a0.Buffer,(a0.IoBuffer,()))))))) (fun j hj u rec1=>?_) (fun u rec1=>?_) _ () (hNN ho)).trans ?_
  .simp only [zbp hj,zY hj,zbc hj,zQ hj ho,cT,zY hi,zbc hi]
  .simp only [zbg,cF,cT,zY hi,zbc hi,zQ hi hl]
  rfl
 .simp only [zbg,cF]
 cases h0:ige a1 0
 .have h1:ilt a1 0=true:=by
   have:=jZ h0;exact qN (by omega)
  rw[h1];exact zM5 _ _ _ _
 .have h1:ilt a1 0=false:=by
   have:=qJ h0;exact qK (by omega)
  rw[h1];exact zBE a1 (fun i j=>some [AV.one (.i .i64 i),AV.one (.i .i64 j)]) a0.Mons 0
theorem zsF:uV 364 zmu:=hF2 znq zq zl zcv zvW zvT
def zQf:zK:=[(339,zqr),(346,zqf),(364,zmu),(360,zms)]++zQe
theorem znr:zx zQf:=zh zxP (zh zxD (zh zsF (zh zsD znq)))
def zbV (h:Host):List Int:=zxZ (fun i=>ilt (zcw h (i:Int)).1 0) h.Memory.length 0
@[simp] abbrev zh1 (h:Host):Bool:=pc (h.Memory.length<=1048576)
@[simp] abbrev zds (h:Host):List Int:=zbV h
def zus:Run:=rF1 dH fun b=>(zh1 b,[aS .int (zds b)])
def zy5 (N:Nat)(a0:Host):OA:=
 (iter (σ:=(Int×((List Int)×(lM×(lN×(lE×(lE×Unit))))))) N (fun r2 s3=>let y0:=(⟨s3.2.2.1,s3.2.2.2.1,s3.2.2.2.2.1,s3.2.2.2.2.2.1⟩:Host); (cond (ilt s3.1 (ln s3.2.2.1)) (oN (zgQ y0 s3.1) (cond (ilt (zee y0 s3.1) 0) (oN (few (ln (ap s3.2.1 [s3.1]))) (r2 ((zB .i64 s3.1 1),((ap s3.2.1 [s3.1]),(s3.2.2.1,(s3.2.2.2.1,(s3.2.2.2.2.1,(s3.2.2.2.2.2.1,())))))))) (r2 ((zB .i64 s3.1 1),(s3.2.1,(s3.2.2.1,(s3.2.2.2.1,(s3.2.2.2.2.1,(s3.2.2.2.2.2.1,()))))))))) (some [(aS .int s3.2.1)]))) (0,([],(a0.Memory,(a0.Mons,(a0.Buffer,(a0.IoBuffer,())))))))
def zIy:FuncId->Nat->Option Tmpl:=zo [(363,0,{ n:=28,tm:=[(1,.lp 0 0),(3,.sl 0 []),(4,ti)],lo:=[(0,[.sl 1 [],.sl 2 [],.sl 3 [],.sl 4 []])],ro:=[(0,.int,true),(1,(.sl .int),false),(2,.mon,false),(3,.entry,false),(4,.entry,false)] })]
theorem zHf (a0:Host)(hc:zh1 a0=true):∃N,zy5 N a0=some [aS .int (zds a0)]:=by
 have hs:=zC.1 hc;have hl:=zci hs;refine zbN fun N hNN=>?_;unfold zy5 oN
 conv=>zeta
 refine (zW a0.Memory (fun i (t:(List Int))=>((i:Int),t,a0.Memory,a0.Mons,a0.Buffer,a0.IoBuffer,())) _ (fun i (_:List Int) (t:List Int) κ=>bif ilt (zcw a0 (i:Int)).1 0 then (cond (few (ln (ap t [(i:Int)]))) (κ (ap t [(i:Int)])) none) else κ t) (fun (t:(List Int))=>(some [(.one (.s .int t))])) (fun i hi t rec=>?_) (fun t rec=>?_) _ ([]) (hNN hl.1)).trans ?_
 .simp only [zbp hi,zY hi,zbc hi,zQ hi hl.1,cT]
 .simp only [zbg,cF]
 rw[zpQ (fun i (t:List Int) κ=>bif ilt (zcw a0 (i:Int)).1 0 then (cond (few (ln (ap t [(i:Int)]))) (κ (ap t [(i:Int)])) none) else κ t)]
 exact zq2 (fun i=>ilt (zcw a0 (i:Int)).1 0) _ _ 0 [] (by simpa using hl.2)
theorem zCh:uV 363 zus:=kF1 znr zq zl zcv zIy zHf
@[simp] abbrev zhO (h:Host):Bool:=pc (h.Memory.length<=1048576)
@[simp] abbrev zdK (h:Host):List Int:=zbV h
def zt0:Run:=rF1 dH fun b=>(zhO b,[aS .int (zdK b)])
def zyH (N:Nat)(a0:Host):OA:=
 (iter (σ:=(Int×(Int×((List Int)×(lM×(lN×(lE×(lE×Unit)))))))) N (fun r2 s3=>let y1:=s3.2.2.2.2.2.2.1;let y0:=(⟨s3.2.2.2.1,s3.2.2.2.2.1,s3.2.2.2.2.2.1,y1⟩:Host); (cond (ilt s3.2.1 s3.1) (oN (zgO y0 s3.2.1) (cond (ilt (zed y0 s3.2.1) 0) (oN (few (ln (ap s3.2.2.1 [s3.2.1]))) (r2 (s3.1,((zB .i64 s3.2.1 1),((ap s3.2.2.1 [s3.2.1]),(s3.2.2.2.1,(s3.2.2.2.2.1,(s3.2.2.2.2.2.1,(y1,()))))))))) (r2 (s3.1,((zB .i64 s3.2.1 1),(s3.2.2.1,(s3.2.2.2.1,(s3.2.2.2.2.1,(s3.2.2.2.2.2.1,(y1,())))))))))) (some [(aS .int s3.2.2.1)]))) ((ln a0.Memory),(0,([],(a0.Memory,(a0.Mons,(a0.Buffer,(a0.IoBuffer,()))))))))
def zIr:FuncId->Nat->Option Tmpl:=zo [(324,0,{ n:=28,tm:=[(1,.lp 0 0),(3,.sl 0 []),(10,ti),(11,ti)],lo:=[(0,[.sl 1 [],.sl 2 [],.sl 3 [],.sl 4 []])],ro:=[(0,.int,true),(1,(.sl .int),false),(2,.mon,false),(3,.entry,false),(4,.entry,false)] })]
theorem zGQ (a0:Host)(hc:zhO a0=true):∃N,zyH N a0=some [aS .int (zdK a0)]:=by
 have hs:=zC.1 hc;have hl:=zci hs;refine zbN fun N hNN=>?_;unfold zyH oN
 conv=>zeta
 refine (zW a0.Memory (fun i (t:(List Int))=>((ln a0.Memory),(i:Int),t,a0.Memory,a0.Mons,a0.Buffer,a0.IoBuffer,())) _ (fun i (_:List Int) (t:List Int) κ=>bif ilt (zcw a0 (i:Int)).1 0 then (cond (few (ln (ap t [(i:Int)]))) (κ (ap t [(i:Int)])) none) else κ t) (fun (t:(List Int))=>(some [(.one (.s .int t))])) (fun i hi t rec=>?_) (fun t rec=>?_) _ ([]) (hNN hl.1)).trans ?_
 .simp only [zbp hi,zY hi,zbc hi,zQ hi hl.1,cT]
 .simp only [zbg,cF]
 rw[zpQ (fun i (t:List Int) κ=>bif ilt (zcw a0 (i:Int)).1 0 then (cond (few (ln (ap t [(i:Int)]))) (κ (ap t [(i:Int)])) none) else κ t)]
 exact zq2 (fun i=>ilt (zcw a0 (i:Int)).1 0) _ _ 0 [] (by simpa using hl.2)
theorem zBS:uV 324 zt0:=kF1 znr zq zl zcv zIr zGQ
def zgl (m:List (List Int))(p:Int)(c:List Int):List (List Int):=bif hasB p (ln m) then (cond (zb0 c) (up m p c) m) else m
@[simp] abbrev zhl (m:List (List Int))(p:Int)(c:List Int):Bool:=pc (SmM m/\c.length<=1048576)
@[simp] abbrev zgj (m:List (List Int))(p:Int)(c:List Int):List (List Int):=zgl m p c
def zqu:Run:=rF3 (dS (.sl .int)) dI (dS .int) fun b c d=>(zhl b c d,[aS (.sl .int) (zgj b c d)])
def zs5 (N:Nat)(a0:lM)(a1:Int)(a2:List Int):OA:=
 (oN (zgI a0) (oN (zT a1 0 (wsub .i64 (ln a0) 1)) (cond (zZ a1 0 (wsub .i64 (ln a0) 1)) (oN (zdU a2) (cond (zdu a2) (oN (few (ln (ap [] a2))) (oN (inb a1 (ln (zfr a0))) (share (up (zfr a0) a1 (ap [] a2)) (fun x4=>(some [(aS (.sl .int) x4)]))))) (some [(aS (.sl .int) (zfr a0))]))) (some [(aS (.sl .int) (zfr a0))]))))
theorem zC2 (a0:List (List Int))(a1:Int)(a2:List Int)(hc:zhl a0 a1 a2=true):∃N,zs5 N a0 a1 a2=some [aS (.sl .int) (zgj a0 a1 a2)]:=by
 obtain ⟨hs,hs2⟩:=zC.1 hc;refine ⟨0,?_⟩;unfold zs5 zgj zgl oN;refine must (zbh ((zm3 _).2 hs)) (must rfl ?_);rw[show zZ a1 0 (wsub .i64 (ln a0) 1)=hasB a1 (ln a0) from zvw hs.1 a1]
 cases h1:hasB a1 (ln a0)
 .rfl
 .simp only [cT,zdU,zdu];cases h2:zb0 a2
  .rfl
  .refine must rfl (must (zpN hs2) (must (zA h1) ?_));rw[zij];rfl
theorem zxR:uV 365 zqu:=kF3 znr zq zl zcv (zo []) zC2
@[simp] abbrev zhe (m:List (List Int))(p:Int)(c:List Int):Bool:=pc (SmM m/\c.length<=1048576)
@[simp] abbrev zf8 (m:List (List Int))(p:Int)(c:List Int):List (List Int):=zgl m p c
def zqj:Run:=rF3 (dS (.sl .int)) dI (dS .int) fun b c d=>(zhe b c d,[aS (.sl .int) (zf8 b c d)])
def zsR (N:Nat)(a0:lM)(a1:Int)(a2:List Int):OA:=
 (oN (zdS a0) (oN (zby a1 (ln a0)) (cond (zbS a1 (ln a0)) (oN (zfj a2) (cond (zei a2) (oN (zcq a2) (oN (inb a1 (ln (zck a0))) (share (up (zck a0) a1 (zcm a2)) (fun x4=>(some [(aS (.sl .int) x4)]))))) (some [(aS (.sl .int) (zck a0))]))) (some [(aS (.sl .int) (zck a0))]))))
theorem zCR (a0:List (List Int))(a1:Int)(a2:List Int)(hc:zhe a0 a1 a2=true):∃N,zsR N a0 a1 a2=some [aS (.sl .int) (zf8 a0 a1 a2)]:=by
 obtain ⟨hs,hs2⟩:=zC.1 hc;refine ⟨0,?_⟩;unfold zsR zf8 zgl oN;refine must (zbh hs) (must rfl ?_);rw[show zbS a1 (ln a0)=hasB a1 (ln a0) from rfl]
 cases h1:hasB a1 (ln a0)
 .rfl
 .simp only [cT,zfj,zei];cases h2:zb0 a2
  .rfl
  .refine must rfl (must (zbh (jF hs2 (by decide))) (must (zA h1) rfl))
theorem zxH:uV 326 zqj:=kF3 znr zq zl zcv (zo []) zCR
def zk4:zK:=[(363,zus),(324,zt0),(365,zqu),(326,zqj)]++zQf
theorem zfx:zx zk4:=zh zCh (zh zBS (zh zxR (zh zxH znr)))
abbrev mZ:Mon:=Ty.dflt .mon
abbrev sZ:Slot:=Ty.dflt .slot
def ShM (x:Mon):Prop:=x.Outer.length=8/\x.Out.length=8/\x.Dirty.length=8/\x.Tables.length=x.Guests.length
def Shape (h:Host):Prop:=SmH h/\∀x∈h.Mons,ShM x
theorem zfH {h:Host}{m:Int}{x:Mon}(hs:Shape h)(h1:ziL x)(h2:ShM x):Shape { h with Mons:=up h.Mons m x }:=by
 refine ⟨⟨hs.1.1,zuS hs.1.2.1 h1,hs.1.2.2⟩,fun y hy=>?_⟩;rcases jQ hy with hy|rfl
 .exact hs.2 y hy
 .exact h2
theorem zbx {h:Host}(hs:Shape h){m:Int}(hm:hasB m (ln h.Mons)=true):ziL (ix h.Mons m mZ)/\ShM (ix h.Mons m mZ):=⟨hs.1.2.1.2 _ (zb7 hm _),hs.2 _ (zb7 hm _)⟩
theorem zEm {h:Host}{mm:List (List Int)}(hs:Shape h)(h1:SmM mm):Shape { h with Memory:=mm }:=⟨⟨h1,hs.1.2⟩,hs.2⟩
theorem zmn {h:Host}{m p:Int}{s:Slot}(hm:hasB m (ln h.Mons)=true)(hs:Shape h):Shape (zdh h m p s):=by
 refine ⟨zJP hm hs.1,?_⟩;obtain ⟨_,h2⟩:=zbx hs hm;have key:∀y∈up h.Mons m { zhv (ix h.Mons m mZ) p (ix h.Mons m mZ).Tables.length with Outer:=up (ix h.Mons m mZ).Outer p s },ShM y:=by
  intro y hy;rcases jQ hy with hy|rfl
  .exact hs.2 y hy
  .exact ⟨by simpa using h2.1,h2.2.1,h2.2.2.1,by simpa [zhv,zkT] using h2.2.2.2⟩
 unfold zdh;cases ine (ix (ix h.Mons m mZ).Outer p sZ).Page (-1)<;>exact key
theorem zd8 (h:Host)(m p:Int)(s:Slot):(zdh h m p s).Mons=up h.Mons m { zhv (ix h.Mons m mZ) p (ix h.Mons m mZ).Tables.length with Outer:=up (ix h.Mons m mZ).Outer p s }/\(zdh h m p s).Memory=h.Memory:=by
 unfold zdh;cases ine (ix (ix h.Mons m mZ).Outer p sZ).Page (-1)<;>exact ⟨rfl,rfl⟩
theorem zdD {h:Host}{m k:Int}{x:Mon}(hm:hasB m (ln h.Mons)=true):hasB m (ln (up h.Mons k x))=true:=by simpa [ln] using hm
theorem zwu {h:Host}{m k p:Int}{s:Slot}(hm:hasB m (ln h.Mons)=true):hasB m (ln (zdh h k p s).Mons)=true:=by
 rw[(zd8 h k p s).1];exact zdD hm
theorem zcg {α:Type}{l:List α}{p:Int}(h:l.length=8)(hp:hasB p 8=true):hasB p (ln l)=true:=by rw[ln,h];exact hp
def zrm (h:Host)(m p:Int)(s:Slot):Host :=
 bif ine s.Page (-1) then ⟨h.Memory,up h.Mons m (zhv (ix h.Mons m mZ) p (ix h.Mons m mZ).Guests.length),flushed h.Buffer s.Page,flushed h.IoBuffer s.Page⟩
 else ⟨h.Memory,up h.Mons m (zhv (ix h.Mons m mZ) p (ix h.Mons m mZ).Guests.length),h.Buffer,h.IoBuffer⟩
theorem zrM {h:Host}{k:Nat}{p:Int}{s:Slot}(hk:k<h.Mons.length)(ht:(ix h.Mons (k:Int) mZ).Tables.length=(ix h.Mons (k:Int) mZ).Guests.length) :
 zrm { h with Mons:=up h.Mons (k:Int) { ix h.Mons (k:Int) mZ with Outer:=up (ix h.Mons (k:Int) mZ).Outer p s } } (k:Int) p (ix (ix h.Mons (k:Int) mZ).Outer p sZ)=zdh h (k:Int) p s:=by
 unfold zdh zrm;simp only[zdp hk,zrP,zhv,ht]
def zLe {ρ:Type}(m p:Int)(i:Nat)(t:List Mon)(κ:List Mon->Option ρ):Option ρ :=
 (cond (inb (i:Int) (ln (ix t m mZ).Tables)) (cond (inb (i:Int) (ln (ix t m mZ).Guests)) (cond (pc (SmK (ix (ix t m mZ).Tables (i:Int) zdw)/\(ix (ix t m mZ).Guests (i:Int) zG).Live.length<=1048576)) (cond (inb (i:Int) (ln (ix t m mZ).Tables)) (κ (up t m ({ (ix t m mZ) with Tables:=(up (ix t m mZ).Tables (i:Int) (zjE (ix (ix t m mZ).Tables (i:Int) zdw) (ix (ix t m mZ).Guests (i:Int) zG).Live p)) }:Mon))) none) none) none) none)
theorem zJ9 {ρ:Type}{mons:List Mon}{k:Nat}(hk:k<mons.length)(p:Int)(hm:ziL (ix mons (k:Int) mZ))(ht:(ix mons (k:Int) mZ).Tables.length=(ix mons (k:Int) mZ).Guests.length)(K:List Mon->Option ρ) :
 ∀(n i:Nat),i+n=(ix mons (k:Int) mZ).Guests.length->goN (fun i t κ=>zLe (k:Int) p i t κ) K n i (up mons (k:Int) (zhv (ix mons (k:Int) mZ) p i))=K (up mons (k:Int) (zhv (ix mons (k:Int) mZ) p (ix mons (k:Int) mZ).Guests.length))
 | 0,i,h=>by
  have:i=(ix mons (k:Int) mZ).Guests.length:=by omega
  subst this;rfl
 | n+1,i,h=>by
  have hi3:i<(ix mons (k:Int) mZ).Guests.length:=by omega
  have hi2:i<(zn6 (ix mons (k:Int) mZ).Guests p i (ix mons (k:Int) mZ).Tables).length:=by rw[zkT];omega
  have hf:pc (SmK (ix (zn6 (ix mons (k:Int) mZ).Guests p i (ix mons (k:Int) mZ).Tables) (i:Int) zdw)/\(ix (ix mons (k:Int) mZ).Guests (i:Int) zG).Live.length<=1048576)=true :=
   zbh ⟨by rw[zbc hi2];exact (zoW _ _ _ _ (by omega) hm.2.2.2.2.2).2 _ (jS hi2),by rw[zbc hi3];exact (hm.2.2.2.1.2 _ (jS hi3)).2.2.1⟩
  simp only[goN,zLe,zdp hk,zrP,zhv,zY hi2,zY hi3,hf,cT];exact zJ9 hk p hm ht K n (i+1) (by omega)
@[simp] abbrev zc0 (h:Host)(m p:Int)(s:Slot):Bool:=pc (Shape h/\hasB m (ln h.Mons)=true)
@[simp] abbrev zc1 (h:Host)(m p:Int)(s:Slot):Host:=zrm h m p s
def zic:List CV->List AV->Option (Bool×List CV×List AV)
 | [.s (.sl .int) b,.s .mon c,.s .entry d,.s .entry e],[.one (.i .i64 f),.one (.i .i64 g),.agg [.i .i64 h,.i .i64 j]]=>some ((zc0 (⟨b,c,d,e⟩:Host) f g (⟨h,j⟩:Slot)),zbi (zc1 (⟨b,c,d,e⟩:Host) f g (⟨h,j⟩:Slot)),[])
 | _,_=>none
def zko (N:Nat)(c:Host)(a0 a1:Int)(a2:Slot):OA:=
 (oN (inb a0 (ln c.Mons)) (iter (σ:=(Int×(Int×(Int×(Int×(Int×(Int×(lN×(lM×(lE×(lE×Unit))))))))))) N (fun r5 s6=>let y7:=s6.2.2.2.2.2.2.2.1;let y5:=s6.2.2.2.2.2.2.1;let y4:=s6.2.2.2.2.1;let y3:=s6.2.2.2.2.2.2.2.2.1;let y2:=s6.2.2.2.2.2.2.2.2.2.1;let y1:=s6.2.2.2.1;let y0:=(ix y5 s6.2.1 zi);let y8:=(ix y0.Tables y1 zdw);let y6:=(ix y0.Guests y1 zG).Live; (cond (ilt y1 s6.2.2.1) (oN (inb y1 (ln y0.Tables)) (oN (inb y1 (ln y0.Guests)) (oN (zky y8 y6 s6.1) (oN (inb y1 (ln y0.Tables)) (share (up y5 s6.2.1 ({ y0 with Tables:=(up y0.Tables y1 (znB y8 y6 s6.1)) }:Mon)) (fun x7=>(r5 (s6.1,(s6.2.1,(s6.2.2.1,((zB .i64 y1 1),(y4,(s6.2.2.2.2.2.1,(x7,(y7,(y3,(y2,()))))))))))))))))) (cond (ine y4 (-1)) (oN (ze7 y3 y4) (oN (ze7 y2 y4) (some [(aH (⟨y7,y5,(zgC y3 y4),(zgC y2 y4)⟩:Host))]))) (some [(aH (⟨y7,y5,y3,y2⟩:Host))])))) (a1,(a0,((ln (ix c.Mons a0 zi).Guests),(0,(a2.Page,(a2.Rights,(c.Mons,(c.Memory,(c.Buffer,(c.IoBuffer,()))))))))))))
def zyw:FuncId->Nat->Option Tmpl:=zo [(246,0,{ n:=71,tm:=[(0,.lp 0 0),(2,ti),(7,.lp 1 0),(8,.ep 0 [] 0),(20,ti),(21,ti)],lo:=[(0,[.sl 1 [],.sl 0 [],.sl 2 [],.sl 3 []]),(1,[ti,ti])],ro:=[(0,.mon,true),(1,(.sl .int),true),(2,.entry,true),(3,.entry,true)] })]
theorem zAF (N:Nat)(c:Host)(a0 a1:Int)(a2:Slot):zeb (cQ zk4 zjX zyh zIo) zyw N 12 246 [true,true,true,true] (zbi c) [aI a0,aI a1,aT .slot a2]=zko N c a0 a1 a2:=by kernel_rfl
theorem zx9 (c:Host)(a0 a1:Int)(a2:Slot)(hb:zbu big (.agg (zbi c) :: [aI a0,aI a1,aT .slot a2]))(hc:zc0 c a0 a1 a2=true):∃N,zko N c a0 a1 a2=some (.agg (zbi (zc1 c a0 a1 a2)) :: []):=by
 obtain ⟨hs,hm⟩:=zC.1 hc;obtain ⟨g1,g2⟩:=zbx hs hm;have hg:(ix c.Mons a0 mZ).Guests.length<=big:=(zci g1.2.2.2.1.1).1;refine zbN fun N hNN=>?_;unfold zko oN
 conv=>zeta
 refine must (zA hm) ?_;refine (zW ((ix c.Mons a0 zi).Guests) (fun i (t:lN)=>(a1,a0,(ln (ix c.Mons a0 zi).Guests),(i:Int),a2.Page,a2.Rights,t,c.Memory,c.Buffer,c.IoBuffer,())) _ (fun i (x:Guest) (t:List Mon) κ=>zLe a0 a1 i t κ) (fun (t:lN)=>(cond (ine a2.Page (-1)) (cond (ze7 c.Buffer a2.Page) (cond (ze7 c.IoBuffer a2.Page) (some [(.agg (zbi (⟨c.Memory,t,(zgC c.Buffer a2.Page),(zgC c.IoBuffer a2.Page)⟩:Host)))]) none) none) (some [(.agg (zbi (⟨c.Memory,t,c.Buffer,c.IoBuffer⟩:Host)))]))) (fun i hi t rec=>?_) (fun t rec=>?_) _ (c.Mons) (hNN hg)).trans ?_
 .simp only [zbp hi,zY hi,zbc hi,zQ hi hg,cT];rfl
 .simp only [zbg,cF]
 obtain ⟨k,rfl,hk⟩:=zcO (n:=c.Mons.length) hm;rw[zpQ (fun i t κ=>zLe (k:Int) a1 i t κ)];have e0:c.Mons=up c.Mons (k:Int) (zhv (ix c.Mons (k:Int) mZ) a1 0):=(zKA hk _).symm;refine (congrArg _ e0).trans ((zJ9 hk a1 g1 g2.2.2.2 _ _ 0 (jY _)).trans ?_)
 show (cond (ine a2.Page (-1)) _ _)=some [AV.agg (zbi (zrm c (k:Int) a1 a2))]
 unfold zrm;cases ine a2.Page (-1)
 .rfl
 .exact must rfl (must (zbh hs.1.2.2.1) (must (zbh hs.1.2.2.2) rfl))
theorem ztv:zcx Tryz.prog 246 [true,true,true,true] zic:=by
 refine zbv (zb3 zfx zq zl zcv) (zcX (by kernel_rfl)) ?_
 intro cs avs cs' rs hl hr h;have hb:=zbD hr;unfold zic at h;split at h
 .obtain ⟨hc,rfl,rfl⟩:=zbR h;obtain ⟨N,hN⟩:=zx9 _ _ _ _ (by exact hb) hc
  exact ⟨rfl,_,N,12,(zAF N _ _ _ _ ).trans hN⟩
 .cases h
def zLy:zco:=[(246,([true,true,true,true],zic))]++zyh
theorem zDd:zbJ zLy:=zcT zl (by
 intro x hx;simp only[qG,qU,or_false]at hx;rcases hx with rfl
 .exact ztv)
def zdT (h:Host)(m p:Int):Host:={ h with Mons:=up h.Mons m { ix h.Mons m mZ with Out:=up (ix h.Mons m mZ).Out p (zfm h.Memory (ix (ix h.Mons m mZ).Outer p sZ).Page) } }
def zdN (h:Host)(m p:Int):Host:=zdh (zdT h m p) m p noSlot
theorem zIf {m:List (List Int)}{p:Int}(h:SmM m):(zfm m p).length<=1048576:=by
 unfold zfm;cases hh:hasB p (ln m)
 .exact (by decide:zrR.length<=1048576)
 .exact h.2 _ (zb7 hh _)
theorem zpt {h:Host}{m p:Int}(hs:Shape h)(hm:hasB m (ln h.Mons)=true):Shape (zdT h m p):=by
 obtain ⟨g1,g2⟩:=zbx hs hm;exact zfH hs ⟨g1.1,zA3 g1.2.1 (zIf hs.1.1),g1.2.2⟩ ⟨g2.1,by simpa using g2.2.1,g2.2.2⟩
theorem zLY {h:Host}{m p:Int}(hs:Shape h)(hm:hasB m (ln h.Mons)=true):Shape (zdN h m p):=zmn (zdD hm) (zpt hs hm)
@[simp] abbrev zrK (h:Host)(m p:Int):Bool:=pc (Shape h/\hasB m (ln h.Mons)=true/\hasB p 8=true)
@[simp] abbrev zyp (h:Host)(m p:Int):Host:=zdN h m p
def znW:List AV->Option (Bool×List AV)
 | [.agg [.s (.sl .int) b,.s .mon c,.s .entry d,.s .entry e],.one (.i .i64 f),.one (.i .i64 g)]=>some ((zrK (⟨b,c,d,e⟩:Host) f g),[aH (zyp (⟨b,c,d,e⟩:Host) f g)])
 | _=>none
def zqI (N:Nat)(a0:Host)(a1 a2:Int):OA:=
 let y0:=(ix a0.Mons a1 zi);let y1:=(ix y0.Outer a2 zM).Page; (oN (inb a1 (ln a0.Mons)) (oN (inb a1 (ln a0.Mons)) (oN (inb a2 (ln y0.Outer)) (oN (zgf a0.Memory y1) (oN (inb a2 (ln y0.Out)) (share (up a0.Mons a1 ({ y0 with Out:=(up y0.Out a2 (zjc a0.Memory y1)) }:Mon)) (fun x4=>let y2:=({ a0 with Mons:=x4 }:Host); (oN zb2 (oN (zdV y2 a1 a2 zbm) (some [(aH (zfu y2 a1 a2 zbm))]))))))))))
theorem zJx (N:Nat)(a0:Host)(a1 a2:Int):zu7 (cQ zk4 zjX zLy zIo) (zo []) N 12 329 [true,true,true,true,false,false] 1 1 [[0],[1],[2],[4],[7]] .mon [aH a0,aI a1,aI a2]=zqI N a0 a1 a2:=by kernel_rfl
theorem zHy (a0:Host)(a1 a2:Int)(hb:zbu big [aH a0,aI a1,aI a2])(hc:zrK a0 a1 a2=true):∃N,zqI N a0 a1 a2=some [aH (zyp a0 a1 a2)]:=by
 obtain ⟨hs,hm,hp⟩:=zC.1 hc;obtain ⟨g1,g2⟩:=zbx hs hm;obtain ⟨k,rfl,hk⟩:=zcO (n:=a0.Mons.length) hm;have hS:=zpt (p:=a2) hs hm;refine ⟨0,?_⟩;unfold zqI oN
 conv=>zeta
 refine must (zA hm) (must (zA hm) (must (zA (zcg g2.1 hp)) (must (zbh ((zm3 _).2 hs.1.1)) (must (zA (zcg g2.2.1 hp)) (shr (must rfl (must (zbh ⟨(zbI _).2 hS.1,zdD hm,?_,?_⟩) rfl)))))))
 .simp only [zdp hk];exact zcg g2.1 hp
 .simp only [zdp hk];exact uA g2.2.2.2
theorem zCy:zcP Tryz.prog 329 [true,true,true,true,false,false] (some (1,1,[[0],[1],[2],[4],[7]])) znW:=by
 refine zhL (kt:=.mon) (zb3 zfx zq zDd zcv) (zcX (by kernel_rfl)) (by kernel_rfl) ?_
 intro avs rs hl hr h;have hb:=zfL hr;unfold znW at h;split at h
 .obtain ⟨hc,rfl⟩:=zhu h;obtain ⟨N,hN⟩:=zHy _ _ _ (by exact hb) hc
  exact ⟨⟨_,rfl⟩,rfl,_,N,12,(zJx N _ _ _ ).trans hN⟩
 .cases h
@[simp] abbrev zxX (h:Host)(m p:Int):Bool:=pc (Shape h/\hasB m (ln h.Mons)=true/\hasB p 8=true)
@[simp] abbrev zxY (h:Host)(m p:Int):Host:=zdN h m p
def zpk:List CV->List AV->Option (Bool×List CV×List AV)
 | [.s (.sl .int) b,.s .mon c,.s .entry d,.s .entry e],[.one (.i .i64 f),.one (.i .i64 g)]=>some ((zxX (⟨b,c,d,e⟩:Host) f g),zbi (zxY (⟨b,c,d,e⟩:Host) f g),[])
 | _,_=>none
def zxa (N:Nat)(c:Host)(a0 a1:Int):OA:=
 let y0:=(ix c.Mons a0 zi);let y1:=(ix y0.Outer a1 zM); (oN (inb a0 (ln c.Mons)) (oN (inb a1 (ln y0.Outer)) (oN (zf3 c.Memory y1.Page) (oN (inb a1 (ln y0.Out)) (share (up c.Mons a0 ({ y0 with Out:=(up y0.Out a1 (zi3 c.Memory y1.Page)) }:Mon)) (fun x4=>let y2:=(ix x4 a0 zi); (oN zca (oN (inb a1 (ln y2.Outer)) (share (up x4 a0 ({ y2 with Outer:=(up y2.Outer a1 zbK) }:Mon)) (fun x5=>let y3:=({ c with Mons:=x5 }:Host); (oN (zc0 y3 a0 a1 y1) (some [(aH (zc1 y3 a0 a1 y1))]))))))))))))
theorem zNs (N:Nat)(c:Host)(a0 a1:Int):zeb (cQ zk4 zjX zLy zIo) (zo []) N 12 244 [true,true,true,true] (zbi c) [aI a0,aI a1]=zxa N c a0 a1:=by kernel_rfl
theorem zLm (c:Host)(a0 a1:Int)(hb:zbu big (.agg (zbi c) :: [aI a0,aI a1]))(hc:zxX c a0 a1=true):∃N,zxa N c a0 a1=some (.agg (zbi (zxY c a0 a1)) :: []):=by
 obtain ⟨hs,hm,hp⟩:=zC.1 hc;obtain ⟨g1,g2⟩:=zbx hs hm;obtain ⟨k,rfl,hk⟩:=zcO (n:=c.Mons.length) hm;have hS:=zpt (p:=a1) hs hm;have hm':hasB (k:Int) (ln (zdT c (k:Int) a1).Mons)=true:=zdD hm;have hk':k<(zdT c (k:Int) a1).Mons.length:=by simpa [zdT] using hk
 have ex:ix (zdT c (k:Int) a1).Mons (k:Int) mZ={ ix c.Mons (k:Int) mZ with Out:=up (ix c.Mons (k:Int) mZ).Out a1 (zfm c.Memory (ix (ix c.Mons (k:Int) mZ).Outer a1 sZ).Page) }:=zdp hk _ _;have hX:Shape { zdT c (k:Int) a1 with Mons:=up (zdT c (k:Int) a1).Mons (k:Int) { ix (zdT c (k:Int) a1).Mons (k:Int) mZ with Outer:=up (ix (zdT c (k:Int) a1).Mons (k:Int) mZ).Outer a1 noSlot } }:=by
  obtain ⟨q1,q2⟩:=zbx hS hm';exact zfH hS ⟨by simpa using q1.1,q1.2⟩ ⟨by simpa using q2.1,q2.2⟩
 refine ⟨0,?_⟩;unfold zxa oN
 conv=>zeta
 refine must (zA hm) (must (zA (zcg g2.1 hp)) (must (zbh ((zm3 _).2 hs.1.1)) (must (zA (zcg g2.2.1 hp)) (shr (must rfl (must ?_ (shr (must (zbh ⟨hX,zdD hm'⟩) ?_))))))))
 .rw [zdp hk];exact zA (zcg g2.1 hp)
 .have:=zrM (p:=a1) (s:=noSlot) hk' (by rw[ex];exact g2.2.2.2)
  rw[ex] at this
  show some [AV.agg (zbi (zrm { zdT c (k:Int) a1 with Mons:=up (zdT c (k:Int) a1).Mons (k:Int) { ix (zdT c (k:Int) a1).Mons (k:Int) mZ with Outer:=up (ix (zdT c (k:Int) a1).Mons (k:Int) mZ).Outer a1 noSlot } } (k:Int) a1 (ix (ix c.Mons (k:Int) mZ).Outer a1 sZ)))]=_
  rw[ex];exact congrArg (fun x=>some [AV.agg (zbi x)]) this
theorem zGA:zcx Tryz.prog 244 [true,true,true,true] zpk:=by
 refine zbv (zb3 zfx zq zDd zcv) (zcX (by kernel_rfl)) ?_
 intro cs avs cs' rs hl hr h;have hb:=zbD hr;unfold zpk at h;split at h
 .obtain ⟨hc,rfl,rfl⟩:=zbR h;obtain ⟨N,hN⟩:=zLm _ _ _ (by exact hb) hc
  exact ⟨rfl,_,N,12,(zNs N _ _ _ ).trans hN⟩
 .cases h
def zLz:zco:=[(244,([true,true,true,true],zpk))]++zLy
theorem zDe:zbJ zLz:=zcT zDd (by
 intro x hx;simp only[qG,qU,or_false]at hx;rcases hx with rfl
 .exact zGA)
def zL6:zdl:=[(329,([true,true,true,true,false,false],(some (1,1,[[0],[1],[2],[4],[7]])),znW))]++zIo
theorem zDo:zcR zL6:=zkU zcv (by
 intro x hx;simp only[qG,qU,or_false]at hx;rcases hx with rfl
 .exact zCy)
end
end Go.Proofs.YtnnmbkjhakbicaaGreat.E
