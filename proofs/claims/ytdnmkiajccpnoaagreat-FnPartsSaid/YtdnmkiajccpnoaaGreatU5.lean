/- What is proved here: a part of the proof that the statement of this claim holds (several texts of wip/, laid together). -/
import Derived.Test.YtdnmkiajccpnoaaGreatU4
namespace Go.Proofs.YtdnmkiajccpnoaaGreat.E
open Go
set_option linter.unusedVariables false
set_option maxRecDepth 100000
set_option linter.unusedSimpArgs false
set_option linter.unusedSectionVars false
noncomputable section
def zeh (k:Kept)(p:Int):Bool:=bif hasB p (ln k.Known) then hasB p (ln k.Slots) else false
def zc3 (k:Kept)(p:Int):Kept:=bif zeh k p then ⟨up k.Known p false,up k.Slots p noSlot⟩ else k
@[simp] theorem zmM {k:Kept}{p:Int}(h:SmK k):SmK (zc3 k p):=by
 unfold zc3;cases zeh k p
 .exact h
 .exact ⟨by simpa using h.1,by simpa using h.2⟩
theorem has_lt {p:Int}{n m:Int}(h:hasB p n=true):ilt p m=hasB p m:=by
 have h:=qD h;unfold ilt hasB
 by_cases h1:p<m
 .rw [qK h1,qK ⟨h.1,h1⟩]
 .rw [qH h1,qH (by omega)]
@[simp] abbrev zqn (k:Kept)(p:Int):Bool:=pc (SmK k)
@[simp] abbrev ziO (k:Kept)(p:Int):Bool:=zeh k p
def zGj:Run:=rF2 (dT .kept) dI fun b c=>(zqn b c,[aB (ziO b c)])
def zMX (N:Nat)(a0:Kept)(a1:Int):OA:=
 (oN (zL a1 0 (wsub .i64 (ln a0.Known) 1)) (cond (zO a1 0 (wsub .i64 (ln a0.Known) 1)) (some [(aB (ilt a1 (ln a0.Slots)))]) oF))
theorem zYt (a0:Kept)(a1:Int)(hc:zqn a0 a1=true):∃N,zMX N a0 a1=some [aB (ziO a0 a1)]:=by
 have hs:=zy.1 hc;refine ⟨0,?_⟩;unfold zMX ziO zeh oN;simp only[zL,zWA,zrr hs.1,cT];cases hh:hasB a1 (ln a0.Known)
 .rfl
 .simp only [cT,has_lt hh]
theorem zRf:u4 278 zGj:=kF2 zW4 zi zl zn (zk []) zYt
def z9w:zV:=[(278,zGj)]++z9v
theorem zKe:zJ z9w:=zf zRf zW4
@[simp] abbrev zmx (k:Kept)(p:Int):Bool:=pc (SmK k)
@[simp] abbrev zlE (k:Kept)(p:Int):Kept:=zc3 k p
def zF0:Run:=rF2 (dT .kept) dI fun b c=>(zmx b c,[aT .kept (zlE b c)])
def zMF (N:Nat)(a0:Kept)(a1:Int):OA:=
 let y0:=(zdi a0); (oN (zf5 a0) (oN (zqn y0 a1) (cond (ziO y0 a1) (oN (inb a1 (ln y0.Known)) (share (up y0.Known a1 false) (fun x3=>(oN zcg (oN (inb a1 (ln y0.Slots)) (share (up y0.Slots a1 zbs) (fun x4=>(some [(aT .kept (⟨x3,x4⟩:Kept))])))))))) (some [(aT .kept y0)]))))
theorem zX9 (a0:Kept)(a1:Int)(hc:zmx a0 a1=true):∃N,zMF N a0 a1=some [aT .kept (zlE a0 a1)]:=by
 have hs:=zy.1 hc;refine ⟨0,?_⟩;unfold zMF zlE oN
 conv=>zeta
 refine must (zbf ((zzk _).2 hs)) (must (zbf hs) ?_);unfold zc3;cases hh:zeh a0 a1
 .simp only [ziO,zdi,hh,cF]
 .simp only [ziO,zdi,hh,cT];unfold zeh at hh;obtain ⟨h1,h2⟩:=zcM.1 hh;simp only[zXs,h1,h2,cT,share,zcg]
theorem zQX:u4 210 zF0:=kF2 zKe zi zl zn (zk []) zX9
@[simp] abbrev zgJ (k:Kept)(p:Int):Bool:=pc (SmK k)
@[simp] abbrev zfK (k:Kept)(p:Int):Kept:=zc3 k p
def zFw:Run:=rF2 (dT .kept) dI fun b c=>(zgJ b c,[aT .kept (zfK b c)])
def zMc (N:Nat)(a0:Kept)(a1:Int):OA:=
 let y0:=(zci a0); (oN (zfd a0) (oN (zbx a1 (ln a0.Known)) (cond (zbK a1 (ln a0.Known)) (oN (zbx a1 (ln a0.Slots)) (cond (zbK a1 (ln a0.Slots)) (oN (inb a1 (ln y0.Known)) (share (up y0.Known a1 false) (fun x3=>(oN zc0 (oN (inb a1 (ln y0.Slots)) (share (up y0.Slots a1 zcm) (fun x4=>(some [(aT .kept (⟨x3,x4⟩:Kept))])))))))) (some [(aT .kept y0)]))) (some [(aT .kept y0)]))))
theorem zXE (a0:Kept)(a1:Int)(hc:zgJ a0 a1=true):∃N,zMc N a0 a1=some [aT .kept (zfK a0 a1)]:=by
 have hs:=zy.1 hc;refine ⟨0,?_⟩;unfold zMc zfK oN
 conv=>zeta
 refine must (zbf hs) (must rfl ?_);unfold zc3 zeh;simp only[zbK,zbx,zci,zXs,share,zc0,cT];cases hasB a1 (ln a0.Known)
 .rfl
 .cases hasB a1 (ln a0.Slots)<;>rfl
theorem zQt:u4 77 zFw:=kF2 zKe zi zl zn (zk []) zXE
def z9x:zV:=[(210,zF0),(77,zFw)]++z9w
theorem zvi:zJ z9x:=zf zQX (zf zQt zKe)
def zwY (k:Kept)(l:List Int):Kept:=l.foldl zc3 k
theorem z2k:∀(l:List Int) {k:Kept},SmK k->SmK (zwY k l)
 | [],_,h=>h
 | p :: l,k,h=>z2k l (zmM (p:=p) h)
theorem zAW {ρ:Type}(K:List Bool×List Slot->Option ρ):∀(l:List Int) (i:Nat) (k:Kept),SmK k ->
 goL (fun _ x (t:List Bool×List Slot) κ=>bif pc (SmK ⟨t.1,t.2⟩) then κ ((zc3 ⟨t.1,t.2⟩ x).Known,(zc3 ⟨t.1,t.2⟩ x).Slots) else none) K l i (k.Known,k.Slots)=K ((zwY k l).Known,(zwY k l).Slots)
 | [],_,_,_=>rfl
 | x :: l,i,k,h=>by
  have e:pc (SmK ⟨k.Known,k.Slots⟩)=true:=zbf h;simp only[goL,e,cT];exact zAW K l (i+1) (zc3 k x) (zmM h)
def zbcr (l:List Slot)(p:Int):List Int:=idxs (fun (s:Slot)=>ieq s.Page p) l 0
def zo3 (k:Kept)(l:List Slot)(p:Int):Kept:=zwY k (zbcr l p)
theorem z8w {k:Kept}(l:List Slot)(p:Int)(h:SmK k):SmK (zo3 k l p):=z2k _ h
@[simp] abbrev zmw (k:Kept)(l:List Slot)(p:Int):Bool:=pc (SmK k/\l.length<=1048576)
@[simp] abbrev zwi (k:Kept)(l:List Slot)(p:Int):Kept:=zo3 k l p
def zv7:Run:=rF3 (dT .kept) (dS .slot) dI fun b c d=>(zmw b c d,[aT .kept (zwi b c d)])
def zzf (N:Nat)(a0:Kept)(a1:lS)(a2:Int):OA:=
 (oN (zf5 a0) (oN (zBA a1 a2) (iter (σ:=(Int×((List Int)×(lB×(lS×(lB×(lS×Unit))))))) N (fun r4 s5=>let y1:=(ix s5.2.1 s5.1 0);let y0:=(⟨s5.2.2.1,s5.2.2.2.1⟩:Kept); (cond (ilt s5.1 (ln s5.2.1)) (oN (inb s5.1 (ln s5.2.1)) (oN (zmx y0 y1) (r4 ((zD .i64 s5.1 1),(s5.2.1,((zlE y0 y1).Known,((zlE y0 y1).Slots,(s5.2.2.2.2.1,(s5.2.2.2.2.2.1,()))))))))) (some [(aT .kept y0)]))) (0,((zrj a1 a2),((zdi a0).Known,((zdi a0).Slots,([],([],())))))))))
def zL4:FuncId->Nat->Option Tmpl:=zk [(303,0,{ n:=27,tm:=[(3,.lp 0 0),(6,.lp 1 0),(7,.sl 0 []),(8,ti)],lo:=[(0,[.sl 1 [],.sl 2 []]),(1,[.sl 3 [],.sl 4 []])],ro:=[(0,.int,true),(1,.bool,true),(2,.slot,true),(3,.bool,true),(4,.slot,true)] })]
theorem zLA (a0:Kept)(a1:List Slot)(a2:Int)(hc:zmw a0 a1 a2=true):∃N,zzf N a0 a1 a2=some [aT .kept (zwi a0 a1 a2)]:=by
 obtain ⟨hs,hs2⟩:=zy.1 hc;have hl:(zrj a1 a2).length<=big:=jA (zvN _ a1 0) (zb4 hs2).1;refine zbV fun N hNN=>?_;unfold zzf oN
 conv=>zeta
 refine must (zbf ((zzk _).2 hs)) (must (zbf (by omega)) ?_)
 refine (zbb (zrj a1 a2) (fun i (t:lB×lS)=>((i:Int),(zrj a1 a2),t.1,t.2,[],[],())) _ (fun _ (x:Int) (t:List Bool×List Slot) κ=>bif pc (SmK ⟨t.1,t.2⟩) then κ ((zc3 ⟨t.1,t.2⟩ x).Known,(zc3 ⟨t.1,t.2⟩ x).Slots) else none) (fun (t:lB×lS)=>(some [(.agg (Ty.cells .kept (⟨t.1,t.2⟩:Kept)))])) (fun i hi t rec=>?_) (fun t rec=>?_) _ ((zdi a0).Known,(zdi a0).Slots) (hNN hl)).trans ?_
 .simp only [zbi hi,zQ hi,zbc hi,zU hi hl,cT]
 .simp only [zbe,cF]
 exact zAW _ _ 0 a0 hs
theorem zE2:u4 303 zv7:=kF3 zvi zi zl zn zL4 zLA
@[simp] abbrev zi7 (k:Kept)(l:List Slot)(p:Int):Bool:=pc (SmK k/\l.length<=1048576)
@[simp] abbrev zpa (k:Kept)(l:List Slot)(p:Int):Kept:=zo3 k l p
def zvX:Run:=rF3 (dT .kept) (dS .slot) dI fun b c d=>(zi7 b c d,[aT .kept (zpa b c d)])
def zy4 (N:Nat)(a0:Kept)(a1:lS)(a2:Int):OA:=
 (oN (zfd a0) (oN (zBb a1 a2) (iter (σ:=(Int×(Int×((List Int)×(lB×(lS×(lB×(lS×Unit)))))))) N (fun r4 s5=>let y1:=(ix s5.2.2.1 s5.2.1 0);let y0:=(⟨s5.2.2.2.2.2.1,s5.2.2.2.2.2.2.1⟩:Kept); (cond (ilt s5.2.1 s5.1) (oN (inb s5.2.1 (ln s5.2.2.1)) (oN (zgJ y0 y1) (r4 (s5.1,((zD .i64 s5.2.1 1),(s5.2.2.1,(s5.2.2.2.1,(s5.2.2.2.2.1,((zfK y0 y1).Known,((zfK y0 y1).Slots,())))))))))) (some [(aT .kept y0)]))) ((ln (zlu a1 a2)),(0,((zlu a1 a2),([],([],((zci a0).Known,((zci a0).Slots,()))))))))))
def zLY:FuncId->Nat->Option Tmpl:=zk [(183,0,{ n:=25,tm:=[(6,.lp 0 0),(7,.lp 1 0),(14,.sl 0 []),(15,ti),(16,ti)],lo:=[(0,[.sl 1 [],.sl 2 []]),(1,[.sl 3 [],.sl 4 []])],ro:=[(0,.int,true),(1,.bool,true),(2,.slot,true),(3,.bool,true),(4,.slot,true)] })]
theorem zLn (a0:Kept)(a1:List Slot)(a2:Int)(hc:zi7 a0 a1 a2=true):∃N,zy4 N a0 a1 a2=some [aT .kept (zpa a0 a1 a2)]:=by
 obtain ⟨hs,hs2⟩:=zy.1 hc;have hl:(zlu a1 a2).length<=big:=jA (zvN _ a1 0) (zb4 hs2).1;refine zbV fun N hNN=>?_;unfold zy4 oN
 conv=>zeta
 refine must (zbf hs) (must (zbf (by omega)) ?_)
 refine (zbb (zlu a1 a2) (fun i (t:lB×lS)=>((ln (zlu a1 a2)),(i:Int),(zlu a1 a2),[],[],t.1,t.2,())) _ (fun _ (x:Int) (t:List Bool×List Slot) κ=>bif pc (SmK ⟨t.1,t.2⟩) then κ ((zc3 ⟨t.1,t.2⟩ x).Known,(zc3 ⟨t.1,t.2⟩ x).Slots) else none) (fun (t:lB×lS)=>(some [(.agg (Ty.cells .kept (⟨t.1,t.2⟩:Kept)))])) (fun i hi t rec=>?_) (fun t rec=>?_) _ ((zci a0).Known,(zci a0).Slots) (hNN hl)).trans ?_
 .simp only [zbi hi,zQ hi,zbc hi,zU hi hl,cT]
 .simp only [zbe,cF]
 exact zAW _ _ 0 a0 hs
theorem zES:u4 183 zvX:=kF3 zvi zi zl zn zLY zLn
def flushed (l:List Entry)(p:Int):List Entry:=l.filter fun e=>!ieq e.Host p
theorem zI7 (l:List Entry)(p:Int):(flushed l p).length<=l.length:=List.length_filter_le _ _
theorem zl7 {α ρ:Type}(p:α->Bool)(K:List α->Option ρ):∀(l:List α) (i:Nat) (acc:List α),acc.length+l.length<=2147483648 ->
 goL (fun _ x acc κ=>bif p x then (cond (few (ln (ap acc [x]))) (κ (ap acc [x])) none) else κ acc) K l i acc=K (acc++l.filter p)
 | [],i,acc,_=>by simp[goL]
 | x :: l,i,acc,h=>by
  simp only[qW]at h;simp only[goL];cases hp:p x
  .rw [cF,zl7 p K l (i+1) acc (by omega),List.filter_cons_of_neg (by simp[hp])]
  .rw [cT,zeO (by simp[ap];omega),cT,zl7 p K l (i+1) _ (by simp[ap];omega),List.filter_cons_of_pos hp]
   simp[ap]
@[simp] abbrev zhV (l:List Entry)(p:Int):Bool:=pc (l.length<=1048576)
@[simp] abbrev zr2 (l:List Entry)(p:Int):List Entry:=flushed l p
def zxz:Run:=rF2 (dS .entry) dI fun b c=>(zhV b c,[aS .entry (zr2 b c)])
def zCd (N:Nat)(a0:lE)(a1:Int):OA:=
 (iter (σ:=(Int×(Int×(lE×(lE×Unit))))) N (fun r3 s4=>let y1:=s4.2.2.1;let y0:=(ix y1 s4.2.1 zel); (cond (ilt s4.2.1 (ln y1)) (oN (inb s4.2.1 (ln y1)) (cond (ine y0.Host s4.1) (oN (inb s4.2.1 (ln y1)) (oN (few (ln (ap s4.2.2.2.1 [y0]))) (r3 (s4.1,((zD .i64 s4.2.1 1),(y1,((ap s4.2.2.2.1 [y0]),()))))))) (r3 (s4.1,((zD .i64 s4.2.1 1),(y1,(s4.2.2.2.1,()))))))) (some [(aS .entry s4.2.2.2.1)]))) (a1,(0,(a0,([],())))))
def zPY:FuncId->Nat->Option Tmpl:=zk [(304,0,{ n:=29,tm:=[(0,.sl 0 []),(1,ti),(5,.sl 1 []),(6,ti)],lo:=[],ro:=[(0,.entry,false),(1,.entry,true)] })]
theorem zOV (a0:List Entry)(a1:Int)(hc:zhV a0 a1=true):∃N,zCd N a0 a1=some [aS .entry (zr2 a0 a1)]:=by
 have hs:=zy.1 hc;have hl:=zb4 hs;refine zbV fun N hNN=>?_;unfold zCd oN
 conv=>zeta
 refine (zbb a0 (fun i (t:lE)=>(a1,(i:Int),a0,t,())) _ (fun _ (x:Entry) (t:List Entry) κ=>bif !ieq x.Host a1 then (cond (few (ln (ap t [x]))) (κ (ap t [x])) none) else κ t) (fun (t:lE)=>(some [(.one (.s .entry t))])) (fun i hi t rec=>?_) (fun t rec=>?_) _ ([]) (hNN hl.1)).trans ?_
 .simp only [zbi hi,zQ hi,zbc hi,zU hi hl.1,cT];rfl
 .simp only [zbe,cF]
 exact zl7 (fun e=>!ieq e.Host a1) _ a0 0 [] (by simpa using hl.2)
theorem zHw:u4 304 zxz:=kF2 zvi zi zl zn zPY zOV
@[simp] abbrev zd6 (l:List Entry)(p:Int):Bool:=pc (l.length<=1048576)
@[simp] abbrev zgU (l:List Entry)(p:Int):List Entry:=flushed l p
def zxi:Run:=rF2 (dS .entry) dI fun b c=>(zd6 b c,[aS .entry (zgU b c)])
def zBV (N:Nat)(a0:lE)(a1:Int):OA:=
 (iter (σ:=(Int×(Int×(Int×(lE×(lE×Unit)))))) N (fun r3 s4=>let y1:=s4.2.2.2.2.1;let y0:=(ix y1 s4.2.1 zel); (cond (ilt s4.2.1 s4.1) (oN (inb s4.2.1 (ln y1)) (cond (nB (ieq y0.Host s4.2.2.1)) (oN (few (ln (ap s4.2.2.2.1 [y0]))) (r3 (s4.1,((zD .i64 s4.2.1 1),(s4.2.2.1,((ap s4.2.2.2.1 [y0]),(y1,()))))))) (r3 (s4.1,((zD .i64 s4.2.1 1),(s4.2.2.1,(s4.2.2.2.1,(y1,())))))))) (some [(aS .entry s4.2.2.2.1)]))) ((ln a0),(0,(a1,([],(a0,()))))))
def zPP:FuncId->Nat->Option Tmpl:=zk [(167,0,{ n:=25,tm:=[(1,.fn 249 [0]),(5,.sl 0 []),(9,.sl 1 []),(10,ti),(11,ti)],lo:=[(0,[ti])],ro:=[(0,.entry,true),(1,.entry,false)] })]
theorem zOC (a0:List Entry)(a1:Int)(hc:zd6 a0 a1=true):∃N,zBV N a0 a1=some [aS .entry (zgU a0 a1)]:=by
 have hs:=zy.1 hc;have hl:=zb4 hs;refine zbV fun N hNN=>?_;unfold zBV oN nB
 conv=>zeta
 refine (zbb a0 (fun i (t:lE)=>((ln a0),(i:Int),a1,t,a0,())) _ (fun _ (x:Entry) (t:List Entry) κ=>bif !ieq x.Host a1 then (cond (few (ln (ap t [x]))) (κ (ap t [x])) none) else κ t) (fun (t:lE)=>(some [(.one (.s .entry t))])) (fun i hi t rec=>?_) (fun t rec=>?_) _ ([]) (hNN hl.1)).trans ?_
 .simp only [zbi hi,zQ hi,zbc hi,zU hi hl.1,cT];cases ieq a0[i].Host a1<;>rfl
 .simp only [zbe,cF]
 exact zl7 (fun e=>!ieq e.Host a1) _ a0 0 [] (by simpa using hl.2)
theorem zHf:u4 184 zxi:=kF2 zvi zi zl zn zPP zOC
def z2L:zV:=[(303,zv7),(183,zvX),(304,zxz),(184,zxi)]++z9x
theorem zAN:zJ z2L:=zf zE2 (zf zES (zf zHw (zf zHf zvi)))
def zrn (gs:List Guest)(p:Int):Nat->List Kept->List Kept
 | 0,ts=>ts
 | n+1,ts=>up (zrn gs p n ts) (n:Int) (zo3 (ix (zrn gs p n ts) (n:Int) zcU) (ix gs (n:Int) zo).Live p)
theorem zop (gs:List Guest)(p:Int):∀(n:Nat) (ts:List Kept),(zrn gs p n ts).length=ts.length
 | 0,_=>rfl
 | n+1,ts=>by simp only[zrn,ze0];exact zop gs p n ts
theorem zs9 (gs:List Guest)(p:Int):∀(n:Nat) (ts:List Kept),n<=ts.length->zEr ts->zEr (zrn gs p n ts)
 | 0,_,_,h=>h
 | n+1,ts,hn,h=>by
  have ih:=zs9 gs p n ts (by omega) h
  have hl:n<(zrn gs p n ts).length:=by rw[zop];omega
  exact zu8 ih (z8w _ _ (by rw[zbc hl];exact ih.2 _ (jC hl)))
def ziR (x:Mon)(p:Int)(n:Nat):Mon:={ x with Tables:=zrn x.Guests p n x.Tables }
theorem z6M {x:Mon}{p:Int}{n:Nat}(hn:n<=x.Tables.length)(h:zes x):zes (ziR x p n):=⟨h.1,h.2.1,h.2.2.1,h.2.2.2.1,h.2.2.2.2.1,zs9 _ _ _ _ hn h.2.2.2.2.2⟩
def zdX (h:Host)(m p:Int)(s:Slot):Host :=
 bif ine (ix (ix h.Mons m zh).Outer p zK).Page (-1)
 then ⟨h.Memory,up h.Mons m { ziR (ix h.Mons m zh) p (ix h.Mons m zh).Tables.length with Outer:=up (ix h.Mons m zh).Outer p s },flushed h.Buffer (ix (ix h.Mons m zh).Outer p zK).Page,flushed h.IoBuffer (ix (ix h.Mons m zh).Outer p zK).Page⟩
 else ⟨h.Memory,up h.Mons m { ziR (ix h.Mons m zh) p (ix h.Mons m zh).Tables.length with Outer:=up (ix h.Mons m zh).Outer p s },h.Buffer,h.IoBuffer⟩
def zbbw (h:Host)(m p:Int):Prop:=hasB m (ln h.Mons)=true/\hasB p (ln (ix h.Mons m zh).Outer)=true/\(ix h.Mons m zh).Tables.length<=(ix h.Mons m zh).Guests.length
@[simp] abbrev ze6 (h:Host)(m p:Int)(s:Slot):Bool:=pc (zbA h/\zbbw h m p)
@[simp] abbrev zg7 (h:Host)(m p:Int)(s:Slot):Host:=zdX h m p s
def ztL:List AV->Option (Bool×List AV)
 | [.agg [.s (.sl .int) b,.s .mon c,.s .entry d,.s .entry e],.one (.i .i64 f),.one (.i .i64 g),.agg [.i .i64 h,.i .i64 j]]=>some ((ze6 (⟨b,c,d,e⟩:Host) f g (⟨h,j⟩:Slot)),[aH (zg7 (⟨b,c,d,e⟩:Host) f g (⟨h,j⟩:Slot))])
 | _=>none
def zyc (N:Nat)(a0:Host)(a1 a2:Int)(a3:Slot):OA:=
 let y7:=(ix a0.Mons a1 zh); (oN (inb a1 (ln a0.Mons)) (oN (inb a2 (ln y7.Outer)) (iter (σ:=(Int×(Int×(Int×(Int×(Int×(Int×(Int×(Int×(Int×(Int×(Int×(Int×(Int×(Int×(Int×(lM×(lN×(lE×(lE×(lM×(lN×(lE×(lE×Unit)))))))))))))))))))))))) N (fun r5 s6=>let y19:=s6.2.2.1;let y18:=s6.2.2.2.2.2.2.2.2.2.2.2.1;let y17:=s6.2.2.2.2.2.2.2.2.2.2.2.2.1;let y15:=s6.2.2.2.2.2.2.2.2.2.2.2.2.2.2.1;let y14:=s6.2.2.2.2.2.2.2.2.2.2.2.2.2.2.2.1;let y13:=s6.2.2.2.2.2.2.2.1;let y11:=s6.2.2.2.2.2.2.2.2.1;let y10:=s6.2.2.2.1;let y9:=s6.2.2.2.2.2.2.2.2.2.2.1;let y8:=s6.2.2.2.2.2.2.2.2.2.2.2.2.2.2.2.2.2.1;let y6:=s6.2.2.2.2.2.2.2.2.2.2.2.2.2.2.2.2.2.2.1;let y5:=s6.2.2.2.2.2.2.1;let y3:=s6.2.2.2.2.2.2.2.2.2.1;let y1:=s6.2.2.2.2.2.2.2.2.2.2.2.2.2.1;let y0:=s6.2.2.2.2.2.2.2.2.2.2.2.2.2.2.2.2.1;let y20:=(ix y0 y3 zh).Guests;let y16:=(ix y20 y10 zo).Live;let y12:=(ix y0 y5 zh);let y4:=(ix y0 y1 zh).Tables;let y2:=(up y0 y5 ({ y12 with Outer:=(up y12.Outer s6.2.1 (⟨s6.2.2.2.2.1,s6.2.2.2.2.2.1⟩:Slot)) }:Mon)); (cond (ilt y10 (ln y4)) (oN (inb y10 (ln y4)) (oN (inb y10 (ln y20)) (oN (zmw (ix y4 y10 zcU) y16 s6.2.1) (oN (inb y10 (ln y4)) (share (up y0 y1 ({ (ix y0 y1 zh) with Tables:=(up y4 y10 (zwi (ix y4 y10 zcU) y16 s6.2.1)) }:Mon)) (fun x7=>(r5 (s6.1,(s6.2.1,(y19,((zD .i64 y10 1),(s6.2.2.2.2.1,(s6.2.2.2.2.2.1,(y5,(y13,(y11,(y3,(y9,(y18,(y17,(y1,(y15,(y14,(x7,(y8,(y6,(s6.2.2.2.2.2.2.2.2.2.2.2.2.2.2.2.2.2.2.2.1,(s6.2.2.2.2.2.2.2.2.2.2.2.2.2.2.2.2.2.2.2.2.1,(s6.2.2.2.2.2.2.2.2.2.2.2.2.2.2.2.2.2.2.2.2.2.1,(s6.2.2.2.2.2.2.2.2.2.2.2.2.2.2.2.2.2.2.2.2.2.2.1,())))))))))))))))))))))))))))))) (cond (ine y19 (-1)) (oN (zhV y8 y19) (oN (zhV y6 y19) (oN (inb s6.2.1 (ln y12.Outer)) (share y2 (fun x7=>(oN (inb s6.1 (ln x7)) (oN (cond (cond (cond (cond (cond (cond (ieq y1 s6.1) true false) (cond (ieq y9 s6.1) true false) false) (cond (ieq y3 s6.1) true false) false) (cond (ieq y11 s6.1) true false) false) (cond (ieq y13 s6.1) true false) false) (cond (ieq y5 s6.1) true false) false) (share (up x7 s6.1 ({ (ix x7 y5 zh) with Out:=(ix x7 y13 zh).Out,Dirty:=(ix x7 y11 zh).Dirty,Guests:=(ix x7 y3 zh).Guests,Outs:=(ix x7 y9 zh).Outs,Pending:=y18,Traps:=y17,Tables:=(ix x7 y1 zh).Tables,Own:=y15 }:Mon)) (fun x8=>(some [(aH (⟨y14,x8,(zr2 y8 y19),(zr2 y6 y19)⟩:Host))])))))))))) (oN (inb s6.2.1 (ln y12.Outer)) (share y2 (fun x7=>(oN (inb s6.1 (ln x7)) (oN (cond (cond (cond (cond (cond (cond (ieq y1 s6.1) true false) (cond (ieq y9 s6.1) true false) false) (cond (ieq y3 s6.1) true false) false) (cond (ieq y11 s6.1) true false) false) (cond (ieq y13 s6.1) true false) false) (cond (ieq y5 s6.1) true false) false) (share (up x7 s6.1 ({ (ix x7 y5 zh) with Out:=(ix x7 y13 zh).Out,Dirty:=(ix x7 y11 zh).Dirty,Guests:=(ix x7 y3 zh).Guests,Outs:=(ix x7 y9 zh).Outs,Pending:=y18,Traps:=y17,Tables:=(ix x7 y1 zh).Tables,Own:=y15 }:Mon)) (fun x8=>(some [(aH (⟨y14,x8,y8,y6⟩:Host))]))))))))))) (a1,(a2,((ix y7.Outer a2 zK).Page,(0,(a3.Page,(a3.Rights,(a1,(a1,(a1,(a1,(a1,(y7.Pending,(y7.Traps,(a1,(y7.Own,(a0.Memory,(a0.Mons,(a0.Buffer,(a0.IoBuffer,([],([],([],([],()))))))))))))))))))))))))))
def zWg:FuncId->Nat->Option Tmpl:=zk [(255,0,{ n:=70,tm:=[(1,ti),(2,ti),(4,.lp 0 0),(7,.lp 1 0),(8,.lp 2 0),(9,.lp 3 0),(10,ti),(11,ti)],lo:=[(0,[.sl 0 [],.sl 1 [],.sl 2 [],.sl 3 []]),(1,[ti,ti]),(2,[.sl 4 [],.sl 5 [],.sl 6 [],.sl 7 []]),(3,[.sl 1 [0],.sl 1 [1],.sl 1 [2],.sl 1 [3],.sl 1 [4],ti,ti,.sl 1 [7],ti])],ro:=[(0,(.sl .int),true),(1,.mon,true),(2,.entry,true),(3,.entry,true),(4,(.sl .int),true),(5,.mon,true),(6,.entry,true),(7,.entry,true)] })]
theorem zYR (N:Nat)(a0:Host)(a1 a2:Int)(a3:Slot):zGN (cQ z2L zpD zLK zj6) zWg N 12 255 [true,true,true,true,false,false,false,false] 1 1 [[0],[1],[2],[4],[7]] .mon [aH a0,aI a1,aI a2,aT .slot a3]=zyc N a0 a1 a2 a3:=by kernel_rfl
theorem zVV (a0:Host)(a1 a2:Int)(a3:Slot)(hb:zbC big [aH a0,aI a1,aI a2,aT .slot a3])(hc:ze6 a0 a1 a2 a3=true):∃N,zyc N a0 a1 a2 a3=some [aH (zg7 a0 a1 a2 a3)]:=by
 obtain ⟨hs,h1,h2,h3⟩:=zy.1 hc;have hH:=(zF a0).1 hs;have hm:zes (ix a0.Mons a1 zh):=hH.2.1.2 _ (zbt h1 _);obtain ⟨k,rfl,hk⟩:=zds (n:=a0.Mons.length) h1;have hT:=(zb4 hm.2.2.2.2.2.1).1;refine zbV fun N hNN=>?_;unfold zyc oN
 conv=>zeta
 refine must h1 (must h2 ?_);refine zqO (ix a0.Mons (k:Int) zh).Tables.length (fun i (t:List Mon)=>((k:Int),a2,(ix (ix a0.Mons (k:Int) zh).Outer a2 zK).Page,(i:Int),a3.Page,a3.Rights,(k:Int),(k:Int),(k:Int),(k:Int),(k:Int),(ix a0.Mons (k:Int) zh).Pending,(ix a0.Mons (k:Int) zh).Traps,(k:Int),(ix a0.Mons (k:Int) zh).Own,a0.Memory,t,a0.Buffer,a0.IoBuffer,[],[],[],[],())) _
  (fun i t=>t=up a0.Mons (k:Int) (ziR (ix a0.Mons (k:Int) zh) a2 i)) (fun _ _=>some [AV.agg (zS (zdX a0 (k:Int) a2 a3))]) (fun i t rec hi hI hr=>?_) (fun t rec hI=>?_) _ 0 a0.Mons ?_ (jU _) ?_
 .subst hI;have hi2:i<(zrn (ix a0.Mons (k:Int) zh).Guests a2 i (ix a0.Mons (k:Int) zh).Tables).length:=by rw[zop];exact hi
  have hi3:i<(ix a0.Mons (k:Int) zh).Guests.length:=by omega
  have hf:zmw (ix (zrn (ix a0.Mons (k:Int) zh).Guests a2 i (ix a0.Mons (k:Int) zh).Tables) (i:Int) zcU) (ix (ix a0.Mons (k:Int) zh).Guests (i:Int) zo).Live a2=true :=
   zbf ⟨by rw[zbc hi2];exact (zs9 _ _ _ _ (by omega) hm.2.2.2.2.2).2 _ (jC hi2),by rw[zbc hi3];exact (hm.2.2.2.1.2 _ (jC hi3)).2.2.1⟩
  simp only[zcX hk,zqr,ziR,zbi hi2,zQ hi2,zQ hi3,hf,cT,share,zU hi hT];exact hr _ rfl
 .subst hI;simp only[zcX hk,zqr,ze0,ziR,ln,zop,zdQ,show ilt (((ix a0.Mons (k:Int) zh).Tables.length:Nat):Int) (((ix a0.Mons (k:Int) zh).Tables.length:Nat):Int)=false from qH (by omega),cT,cF,share]
  have h1':inb (k:Int) ((a0.Mons.length:Nat):Int)=true:=h1;have h2':inb a2 (((ix a0.Mons (k:Int) zh).Outer.length:Nat):Int)=true:=h2;have f1:zhV a0.Buffer (ix (ix a0.Mons (k:Int) zh).Outer a2 zK).Page=true:=zbf hH.2.2.1;have f2:zhV a0.IoBuffer (ix (ix a0.Mons (k:Int) zh).Outer a2 zK).Page=true:=zbf hH.2.2.2;simp only[h1',h2',f1,f2,cT];unfold zdX;cases ine (ix (ix a0.Mons (k:Int) zh).Outer a2 zK).Page (-1)<;>rfl
 .exact (zHa hk _).symm
 .exact hNN (by omega)
theorem zOl:zdY Tryz.prog 255 [true,true,true,true,false,false,false,false] (some (1,1,[[0],[1],[2],[4],[7]])) ztL:=by
 refine zl8 (kt:=.mon) (zcD zAN zi zl zn) (zdT (by kernel_rfl)) (by kernel_rfl) ?_
 intro avs rs hl hr h;have hb:=zi1 hr;unfold ztL at h;split at h
 .obtain ⟨hc,rfl⟩:=zdO h;obtain ⟨N,hN⟩:=zVV _ _ _ _ (by exact hb) hc
  exact ⟨⟨_,rfl⟩,rfl,_,N,12,(zYR N _ _ _ _ ).trans hN⟩
 .cases h
def zZy:ze9:=[(255,([true,true,true,true,false,false,false,false],(some (1,1,[[0],[1],[2],[4],[7]])),ztL))]++zj6
theorem zcQ:zdZ zZy:=zro zn (by
 intro x hx;simp only[qI,qX,or_false]at hx;rcases hx with rfl
 .exact zOl)
def zP4 (x:Mon)(p:Int):Mon:={ x with Dirty:=up x.Dirty p false }
def grd (x:Mon)(p:Int):Mon:={ x with Outer:=up x.Outer p ⟨(ix x.Outer p zK).Page,1⟩ }
def zrq (h:Host)(m p:Int):Host:={ h with Mons:=up h.Mons m (zP4 (ix h.Mons m zh) p) }
def zsD (h:Host)(m p:Int):Host:=bif zbL h m p then (cond (zc2 (ix (ix h.Mons m zh).Outer p zK) noSlot) (zrq h m p) (zdX (zrq h m p) m p ⟨(ix (ix h.Mons m zh).Outer p zK).Page,1⟩)) else h
theorem zA2:∀(l:List Mon) (u:List Bool),zm6 l u=true->∀x∈l,zeu x=true
 | [],_,_,x,hx=>by cases hx
 | m :: l,u,h,x,hx=>by
  simp only[zm6]at h;cases h1:zeu m
  .rw [h1]at h;cases h
  .rw [h1]at h;simp only[cT]at h;cases h2:zjx m.Outer u with
   | none=>rw[h2]at h;cases h
   | some u' =>
    rw[h2]at h;rcases qI.1 hx with rfl|hx
    .exact h1
    .exact zA2 l u' h x hx
structure PageAt (h:Host) (m p:Int):Prop where
 hm:hasB m (ln h.Mons)=true
 hp:hasB p 8=true
 ok:zeu (ix h.Mons m zh)=true
 ho:(ix h.Mons m zh).Outer.length=8
 hd:(ix h.Mons m zh).Dirty.length=8
 ht:(ix h.Mons m zh).Tables.length=(ix h.Mons m zh).Guests.length
 hs:zc2 (ix (ix h.Mons m zh).Outer p zK) noSlot=ieq (ix (ix h.Mons m zh).Outer p zK).Page (-1)
theorem zUh {s:Slot}{n:Int}(h:zeY s n=true):zc2 s noSlot=ieq s.Page (-1):=by
 unfold zeY at h;cases h1:zc2 s noSlot
 .rw [h1]at h;cases h2:ieq s.Page (-1)
  .rfl
  .have e:s.Page = -1:=qD h2;cases h3:igt n 0
   .rw [h3]at h;cases h
   .cases h4:win s.Page 0 (wsub .i64 n 1)
    .rw [h3,h4]at h;cases h
    .have:=(zeM.1 h4).1;omega
 .unfold zc2 at h1;rw[qE]at h1;exact h1.1.symm
theorem zBk {h:Host}{m p:Int}(hp:zbL h m p=true):PageAt h m p:=by
 unfold zbL at hp;simp only[zcM]at hp;obtain ⟨h0,h1,h2⟩:=hp;unfold zbE at h0;simp only[zcM]at h0;have hok:=zA2 _ _ h0.2.2.2.2 _ (zbt h1 zh);have hk:=hok;unfold zeu at hk;simp only[zcM]at hk;have ho:(ix h.Mons m zh).Outer.length=8:=by have:=zta hk.2.2.1;simp only[ln] at this;omega
 refine ⟨h1,h2,hok,ho,?_,?_,?_⟩
 .have:ln (ix h.Mons m zh).Dirty=8:=qD hk.2.2.2.2.1;simp only[ln] at this;omega
 .have:ln (ix h.Mons m zh).Tables=ln (ix h.Mons m zh).Guests:=qD hk.2.1;simp only[ln] at this;omega
 .have ht:=hk.2.2.1;unfold zdd at ht;simp only[zcM]at ht;have hi:hasB p (ln (ix h.Mons m zh).Outer)=true:=by rw[ln,ho];exact h2
  exact zUh (qT.1 ht.1 _ (zbt hi _))
theorem zZs {x:Mon}{p:Int}(h:zes x):zes (zP4 x p):=⟨h.1,h.2.1,by simpa [zP4] using h.2.2.1,h.2.2.2⟩
theorem zBK {h:Host}{m p:Int}(hm:hasB m (ln h.Mons)=true)(hs:SmH h):SmH (zrq h m p):=⟨hs.1,zis hs.2.1 (zZs (hs.2.1.2 _ (zbt hm _))),hs.2.2⟩
theorem zJS {h:Host}{m p:Int}{s:Slot}(hm:hasB m (ln h.Mons)=true)(hs:SmH h):SmH (zdX h m p s):=by
 have hx:=hs.2.1.2 _ (zbt hm zh);have ht:=z6M (p:=p) (qU _) hx;have hM:zoW (up h.Mons m { ziR (ix h.Mons m zh) p (ix h.Mons m zh).Tables.length with Outer:=up (ix h.Mons m zh).Outer p s }):=zis hs.2.1 ⟨by simpa using hx.1,ht.2⟩
 unfold zdX;cases ine (ix (ix h.Mons m zh).Outer p zK).Page (-1)
 .exact ⟨hs.1,hM,hs.2.2⟩
 .exact ⟨hs.1,hM,jA (zI7 _ _) hs.2.2.1,jA (zI7 _ _) hs.2.2.2⟩
theorem zBN {h:Host}{m p:Int}(hm:hasB m (ln h.Mons)=true):hasB m (ln (zrq h m p).Mons)=true:=by
 unfold zrq;simpa [ln] using hm
theorem z6I {h:Host}{m p:Int}(hs:SmH h):SmH (zsD h m p):=by
 unfold zsD;cases hp:zbL h m p
 .exact hs
 .have P:=zBk hp;cases zc2 (ix (ix h.Mons m zh).Outer p zK) noSlot
  .exact zJS (zBN P.hm) (zBK P.hm hs)
  .exact zBK P.hm hs
@[simp] abbrev zGp (h:Host)(m p:Int):Bool:=pc (zbA h)
@[simp] abbrev zxF (h:Host)(m p:Int):Host:=zsD h m p
@[simp] abbrev zxG (h:Host)(m p:Int):Bool:=zbL h m p
def zJA:Run:=rF3 dH dI dI fun b c d=>(zGp b c d,[aH (zxF b c d),aB (zxG b c d)])
def zTo (N:Nat)(a0:Host)(a1 a2:Int):OA:=
 let y3:=(zu a0);let y2:=(ix y3.Mons a1 zh); (oN (zbI a0) (oN (zoK y3 a1 a2) (cond (nB (zhW y3 a1 a2)) (some [(aH y3),(aB false)]) (oN (inb a1 (ln y3.Mons)) (oN (inb a2 (ln y2.Dirty)) (share (up y3.Mons a1 ({ y2 with Dirty:=(up y2.Dirty a2 false) }:Mon)) (fun x4=>let y4:=(ix x4 a1 zh).Outer;let y1:=({ y3 with Mons:=x4 }:Host);let y0:=(ix y4 a2 zK);let y5:=({ y0 with Rights:=1 }:Slot); (oN (inb a1 (ln x4)) (oN (inb a2 (ln y4)) (oN zcg (cond (cond (ieq y0.Page zbs.Page) (ieq y0.Rights zbs.Rights) false) (some [(aH y1),(aB true)]) (oN (ze6 y1 a1 a2 y5) (some [(aH (zg7 y1 a1 a2 y5)),(aB true)])))))))))))))
theorem z0E (a0:Host)(a1 a2:Int)(hc:zGp a0 a1 a2=true):∃N,zTo N a0 a1 a2=some [aH (zxF a0 a1 a2),aB (zxG a0 a1 a2)]:=by
 have hs:=zy.1 hc;have hH:=(zF a0).1 hs;refine ⟨0,?_⟩;unfold zTo zxF zxG zsD oN nB
 conv=>zeta
 refine must (zbf hs) (must rfl ?_);cases hp:zbL a0 a1 a2
 .simp only [zhW,zu,hp,cF,cT]
 .have P:=zBk hp;obtain ⟨k,rfl,hk⟩:=zds (n:=a0.Mons.length) P.hm;simp only[zhW,zu,hp,cT,cF];have i1:inb a2 (ln (ix a0.Mons (k:Int) zh).Dirty)=true:=by rw[ln,P.hd];exact P.hp
  have i2:inb a2 (ln (ix a0.Mons (k:Int) zh).Outer)=true:=by rw[ln,P.ho];exact P.hp
  refine must P.hm (must i1 ?_);simp only[share,zcX hk,i2,cT,zcg,zbs];refine must (zBN (p:=a2) P.hm) ?_;have e:∀s:Slot,zc2 s noSlot=bif ieq s.Page noSlot.Page then ieq s.Rights noSlot.Rights else false:=fun s=>by
   unfold zc2;cases ieq s.Page noSlot.Page<;>rfl
  rw[<- e];cases zc2 (ix (ix a0.Mons (k:Int) zh).Outer a2 zK) noSlot
  .refine zbN rfl (must (zbf ⟨(zF _).2 (zBK P.hm hH),zBN (p:=a2) P.hm,?_,?_⟩) rfl)
   .simp only [zcX hk];exact i2
   .simp only [zcX hk];exact u3 P.ht
  .rfl
theorem zUF:u4 196 zJA:=kF3 zAN zi zl zcQ (zk []) z0E
@[simp] abbrev zE8 (h:Host)(m p:Int):Bool:=pc (zbA h)
@[simp] abbrev zsL (h:Host)(m p:Int):Host:=zsD h m p
@[simp] abbrev zw9 (h:Host)(m p:Int):Bool:=zbL h m p
def zJo:Run:=rF3 dH dI dI fun b c d=>(zE8 b c d,[aH (zsL b c d),aB (zw9 b c d)])
def zTc (N:Nat)(a0:Host)(a1 a2:Int):OA:=
 let y11:=(zI a0);let y0:=(ix y11.Mons a1 zh);let y3:=(ix y0.Outer a2 zK); (oN (zba a0) (oN (znj a0 a1 a2) (cond (nB (zia a0 a1 a2)) (some [(aH y11),(aB false)]) (oN (inb a1 (ln y11.Mons)) (oN (inb a2 (ln y0.Outer)) (cond (ine y3.Page (-1)) (oN (inb a2 (ln y0.Outer)) (share (up y11.Mons a1 ({ y0 with Outer:=(up y0.Outer a2 ({ y3 with Rights:=1 }:Slot)) }:Mon)) (fun x4=>(oN (inb a1 (ln x4)) (oN (cond (cond (cond (ieq a1 a1) true false) (cond (cond (ieq a1 a1) true false) (cond (cond (ieq a1 a1) true false) (cond (cond (ieq a1 a1) true false) (cond (cond (ieq a1 a1) true false) (cond (ieq a1 a1) (cond (cond (ieq a2 a2) (ieq a1 a1) false) (cond (cond (ieq a1 a1) true false) (cond (cond (ieq a1 a1) true false) (cond (cond (ieq a1 a1) true false) (cond (ieq a1 a1) (cond (cond (ieq a2 a2) (ieq a1 a1) false) (cond (cond (ieq a2 a2) (ieq a1 a1) false) true false) false) false) false) false) false) false) false) false) false) false) false) false) true false) (iter (σ:=(Int×(Int×(Int×(Int×(Int×(Int×(Int×(Int×(lN×(lM×(lN×(lE×(lE×(lM×(lE×(lE×(lM×(lN×(lE×(lE×Unit))))))))))))))))))))) N (fun r5 s6=>let y10:=s6.2.2.2.2.1;let y9:=s6.2.2.2.2.2.2.2.2.1;let y8:=s6.2.2.2.2.2.2.2.2.2.2.2.2.2.1;let y7:=s6.2.2.2.1;let y5:=s6.2.2.2.2.2.2.2.2.2.2.2.2.2.2.1;let y4:=s6.2.2.2.2.2.2.2.2.2.2.2.2.2.2.2.1;let y2:=(ix y9 a1 zh);let y6:=(up y9 a1 ({ y2 with Dirty:=(up y2.Dirty a2 false) }:Mon));let y1:=(ix y9 s6.2.1 zh);let y13:=(ix y1.Tables y7 zcU);let y12:=(ix y1.Guests y7 zo).Live; (cond (ilt y7 s6.2.2.1) (oN (inb y7 (ln y1.Tables)) (oN (inb y7 (ln y1.Guests)) (oN (zi7 y13 y12 s6.1) (oN (inb y7 (ln y1.Tables)) (share (up y9 s6.2.1 ({ y1 with Tables:=(up y1.Tables y7 (zpa y13 y12 s6.1)) }:Mon)) (fun x7=>(oN (cond (cond (cond (ieq a1 a1) true false) (cond (cond (ieq a1 a1) true false) (cond (cond (ieq a1 a1) true false) (cond (cond (ieq a1 a1) true false) (cond (cond (ieq a1 a1) true false) (cond (ieq a1 a1) (cond (cond (ieq a2 a2) (ieq a1 a1) false) (cond (cond (ieq a1 a1) true false) (cond (cond (ieq a1 a1) true false) (cond (cond (ieq a1 a1) true false) (cond (ieq a1 a1) (cond (cond (ieq a2 a2) (ieq a1 a1) false) (cond (cond (ieq a2 a2) (ieq a1 a1) false) true false) false) false) false) false) false) false) false) false) false) false) false) false) true false) (r5 (s6.1,(s6.2.1,(s6.2.2.1,((zD .i64 y7 1),(y10,(s6.2.2.2.2.2.1,(s6.2.2.2.2.2.2.1,(s6.2.2.2.2.2.2.2.1,(x7,(s6.2.2.2.2.2.2.2.2.2.1,(s6.2.2.2.2.2.2.2.2.2.2.1,(s6.2.2.2.2.2.2.2.2.2.2.2.1,(s6.2.2.2.2.2.2.2.2.2.2.2.2.1,(y8,(y5,(y4,(s6.2.2.2.2.2.2.2.2.2.2.2.2.2.2.2.2.1,(s6.2.2.2.2.2.2.2.2.2.2.2.2.2.2.2.2.2.1,(s6.2.2.2.2.2.2.2.2.2.2.2.2.2.2.2.2.2.2.1,(s6.2.2.2.2.2.2.2.2.2.2.2.2.2.2.2.2.2.2.2.1,())))))))))))))))))))))))))))) (cond (ine y10 (-1)) (oN (zd6 y5 y10) (oN (zd6 y4 y10) (oN (inb a2 (ln y2.Dirty)) (share y6 (fun x7=>(some [(aH (⟨y8,x7,(zgU y5 y10),(zgU y4 y10)⟩:Host)),(aB true)])))))) (oN (inb a2 (ln y2.Dirty)) (share y6 (fun x7=>(some [(aH (⟨y8,x7,y5,y4⟩:Host)),(aB true)]))))))) (a2,(a1,((ln (ix x4 a1 zh).Guests),(0,(y3.Page,(y3.Rights,(y3.Page,(y3.Rights,(x4,(a0.Memory,(a0.Mons,(a0.Buffer,(a0.IoBuffer,(y11.Memory,(y11.Buffer,(y11.IoBuffer,([],([],([],([],())))))))))))))))))))))))))) (oN (inb a2 (ln y0.Dirty)) (share (up y11.Mons a1 ({ y0 with Dirty:=(up y0.Dirty a2 false) }:Mon)) (fun x4=>(some [(aH ({ y11 with Mons:=x4 }:Host)),(aB true)]))))))))))
def z1y:FuncId->Nat->Option Tmpl:=zk [(100,0,{ n:=71,tm:=[(0,.lp 0 0),(2,ti),(7,.lp 1 0),(8,.ep 0 [] 0),(20,ti),(21,ti)],lo:=[(0,[.sl 5 [],.sl 0 [],.sl 6 [],.sl 7 []]),(1,[ti,ti]),(2,[.sl 1 [],.sl 2 [],.sl 3 [],.sl 4 []]),(3,[.sl 8 [],.sl 9 [],.sl 10 [],.sl 11 []]),(4,[ti,ti])],ro:=[(0,.mon,true),(1,(.sl .int),false),(2,.mon,false),(3,.entry,false),(4,.entry,false),(5,(.sl .int),true),(6,.entry,true),(7,.entry,true),(8,(.sl .int),true),(9,.mon,true),(10,.entry,true),(11,.entry,true)],sk:=[(0,0,0,.sl 1 []),(0,0,1,.sl 2 []),(0,0,2,.sl 3 []),(0,0,3,.sl 4 []),(0,3,0,.lp 2 0),(0,6,0,.lp 3 0),(0,10,0,.lp 4 0),(0,12,0,.sl 5 []),(0,12,2,.sl 6 []),(0,12,3,.sl 7 [])] })]
theorem z0r (a0:Host)(a1 a2:Int)(hc:zE8 a0 a1 a2=true):∃N,zTc N a0 a1 a2=some [aH (zsL a0 a1 a2),aB (zw9 a0 a1 a2)]:=by
 have hs:=zy.1 hc;have hH:=(zF a0).1 hs;refine zbV fun N hNN=>?_;unfold zTc zsL zw9 zsD oN nB
 conv=>zeta
 refine must (zbf hs) (must rfl ?_);rw[show zia a0 a1 a2=zbL a0 a1 a2 from rfl]
 cases hp:zbL a0 a1 a2
 .rfl
 .have P:=zBk hp;have hm:zes (ix a0.Mons a1 zh):=hH.2.1.2 _ (zbt P.hm _);obtain ⟨k,rfl,hk⟩:=zds (n:=a0.Mons.length) P.hm;have i1:inb a2 (ln (ix a0.Mons (k:Int) zh).Dirty)=true:=by rw[ln,P.hd];exact P.hp
  have i2:inb a2 (ln (ix a0.Mons (k:Int) zh).Outer)=true:=by rw[ln,P.ho];exact P.hp
  have hT:=(zb4 hm.2.2.2.2.2.1).1;refine zbN rfl ?_;rw[P.hs];refine must P.hm (must i2 ?_);cases hpg:ieq (ix (ix a0.Mons (k:Int) zh).Outer a2 zK).Page (-1)
  .have hpg2:ine (ix (ix a0.Mons (k:Int) zh).Outer a2 zK).Page (-1)=true:=by rw[zhR];exact congrArg not hpg
   refine must hpg2 (must i2 ?_);simp only[share];refine must (by simp only[ln,ze0];exact P.hm) ?_
   simp only[zdQ,cT,zI];refine zqO (ix a0.Mons (k:Int) zh).Guests.length (fun i (t:List Mon)=>(a2,(k:Int),ln (ix (up a0.Mons (k:Int) (grd (ix a0.Mons (k:Int) zh) a2)) (k:Int) zh).Guests,(i:Int),(ix (ix a0.Mons (k:Int) zh).Outer a2 zK).Page,(ix (ix a0.Mons (k:Int) zh).Outer a2 zK).Rights,(ix (ix a0.Mons (k:Int) zh).Outer a2 zK).Page,(ix (ix a0.Mons (k:Int) zh).Outer a2 zK).Rights,t,a0.Memory,a0.Mons,a0.Buffer,a0.IoBuffer,a0.Memory,a0.Buffer,a0.IoBuffer,[],[],[],[],())) _
    (fun i t=>t=up a0.Mons (k:Int) (ziR (grd (ix a0.Mons (k:Int) zh) a2) a2 i)) (fun _ _=>some [AV.agg (zS (zdX (zrq a0 (k:Int) a2) (k:Int) a2 ⟨(ix (ix a0.Mons (k:Int) zh).Outer a2 zK).Page,1⟩)),AV.one (.b true)]) (fun i t rec hi hI hr=>?_) (fun t rec hI=>?_) _ 0 (up a0.Mons (k:Int) (grd (ix a0.Mons (k:Int) zh) a2)) rfl (jU _) ?_
   .subst hI;have hi1:i<(ix a0.Mons (k:Int) zh).Tables.length:=by rw[P.ht];exact hi
    have hi2:i<(zrn (ix a0.Mons (k:Int) zh).Guests a2 i (ix a0.Mons (k:Int) zh).Tables).length:=by rw[zop];exact hi1
    have hf:zi7 (ix (zrn (ix a0.Mons (k:Int) zh).Guests a2 i (ix a0.Mons (k:Int) zh).Tables) (i:Int) zcU) (ix (ix a0.Mons (k:Int) zh).Guests (i:Int) zo).Live a2=true :=
     zbf ⟨by rw[zbc hi2];exact (zs9 _ _ _ _ (by omega) hm.2.2.2.2.2).2 _ (jC hi2),by rw[zbc hi];exact (hm.2.2.2.1.2 _ (jC hi)).2.2.1⟩
    simp only[zcX hk,zqr,ziR,grd,zbi hi,zQ hi2,zQ hi,hf,cT,share,zU hi1 hT];have hr':=hr _ rfl;simp only[zcX hk,ziR,grd]at hr';exact hr'
   .subst hI;have f1:zd6 a0.Buffer (ix (ix a0.Mons (k:Int) zh).Outer a2 zK).Page=true:=zbf hH.2.2.1;have f2:zd6 a0.IoBuffer (ix (ix a0.Mons (k:Int) zh).Outer a2 zK).Page=true:=zbf hH.2.2.2;unfold zdX zrq zP4;simp only[zcX hk,zqr,ziR,grd,zbe,hpg2,f1,f2,i1,P.ht,share,cT,cF]
   .exact hNN (by rw[<- P.ht];omega)
  .refine zbN (by rw[zhR];exact congrArg not hpg) (must i1 ?_)
   rfl
theorem zUs:u4 35 zJo:=kF3 zAN zi zl zcQ z1y z0r
def z5m:zV:=[(196,zJA),(35,zJo)]++z2L
theorem z5n:zJ z5m:=zf zUF (zf zUs zAN)
def z5o:zV:=z5m
theorem zeN:zJ z5o:=z5n
def zkV (o i t:Int):Int:=bif zdr i t then 1 else (cond (zdr o t) 2 0)
@[simp] abbrev zsd (o i t:Int):Bool:=true
@[simp] abbrev zoI (o i t:Int):Int:=zkV o i t
def zCW:Run:=rF3 dI dI dI fun b c d=>(zsd b c d,[aI (zoI b c d)])
def zIO (N:Nat)(a0 a1 a2:Int):OA:=
 (oN (ziN a1 a2) (cond (zih a1 a2) (some [(aI 1)]) (oN (ziN a0 a2) (cond (zih a0 a2) (some [(aI 2)]) (some [(aI 0)])))))
theorem zVD (a0 a1 a2:Int)(hc:zsd a0 a1 a2=true):∃N,zIO N a0 a1 a2=some [aI (zoI a0 a1 a2)]:=by
 refine ⟨0,?_⟩;unfold zIO oN;refine must rfl (br (fun _=>?_) (fun _=>must rfl (br (fun _=>?_) (fun _=>?_))))
 all_goals first|rfl|(simp only [*,zoI,zkV,cT,cF]<;>rfl)|simp_all[Ty.cells,zoI,zkV]
theorem zN3:u4 271 zCW:=kF3 zeN zi zl zcQ (zk []) zVD
@[simp] abbrev zyu (o i t:Int):Bool:=true
@[simp] abbrev zoA (o i t:Int):Int:=zkV o i t
def zCy:Run:=rF3 dI dI dI fun b c d=>(zyu b c d,[aI (zoA b c d)])
def zIn (N:Nat)(a0 a1 a2:Int):OA:=
 (oN (zky a1 a2) (cond (zjB a1 a2) (some [(aI 1)]) (oN (zky a0 a2) (cond (zjB a0 a2) (some [(aI 2)]) (some [(aI 0)])))))
theorem zVa (a0 a1 a2:Int)(hc:zyu a0 a1 a2=true):∃N,zIn N a0 a1 a2=some [aI (zoA a0 a1 a2)]:=by
 refine ⟨0,?_⟩;unfold zIn oN;refine must rfl (br (fun _=>?_) (fun _=>must rfl (br (fun _=>?_) (fun _=>?_))))
 all_goals first|rfl|(simp only [*,zoA,zkV,cT,cF]<;>rfl)|simp_all[Ty.cells,zoA,zkV]
theorem zNF:u4 143 zCy:=kF3 zeN zi zl zcQ (zk []) zVa
theorem has3 (p:Int):hasB p 3=win p 0 2:=by
 unfold hasB win ige ile
 by_cases h1:0<=p<;>by_cases h2:p<3
 .rw [qK (p:=0<=p/\p<3) ⟨h1,h2⟩,qK (p:=p≥0) h1,qK (p:=p<=2) (by omega)];rfl
 .rw [qH (p:=0<=p/\p<3) (by omega),qH (p:=p<=2) (by omega)];simp
 .rw [qH (p:=0<=p/\p<3) (by omega),qH (p:=p≥0) (by omega)];simp
 .rw [qH (p:=0<=p/\p<3) (by omega),qH (p:=p≥0) (by omega)];simp
theorem has2 (p:Int):hasB p 2=win p 0 1:=by
 unfold hasB win ige ile
 by_cases h1:0<=p<;>by_cases h2:p<2
 .rw [qK (p:=0<=p/\p<2) ⟨h1,h2⟩,qK (p:=p≥0) h1,qK (p:=p<=1) (by omega)];rfl
 .rw [qH (p:=0<=p/\p<2) (by omega),qH (p:=p<=1) (by omega)];simp
 .rw [qH (p:=0<=p/\p<2) (by omega),qH (p:=p≥0) (by omega)];simp
 .rw [qH (p:=0<=p/\p<2) (by omega),qH (p:=p≥0) (by omega)];simp
def zgy (m g:Int):Int:=bif win m 0 2 then (cond (win g 0 1) (zD .i64 (zD .i64 1 g) (zmW .i64 m 2)) 0) else 0
@[simp] abbrev zlI (m g:Int):Bool:=true
@[simp] abbrev zu7 (m g:Int):Int:=zgy m g
def zJH:Run:=rF2 dI dI fun b c=>(zlI b c,[aI (zu7 b c)])
def zTv (N:Nat)(a0 a1:Int):OA:=
 (oN (zL a0 0 2) (cond (nB (zO a0 0 2)) (some [(aI 0)]) (oN (zL a1 0 1) (cond (nB (zO a1 0 1)) (some [(aI 0)]) (some [(aI (zD .i64 (zD .i64 1 a1) (zmW .i64 a0 2)))])))))
theorem z0L (a0 a1:Int)(hc:zlI a0 a1=true):∃N,zTv N a0 a1=some [aI (zu7 a0 a1)]:=by
 refine ⟨0,?_⟩;unfold zTv oN nB;refine must rfl (brN (fun _=>?_) (fun _=>must rfl (brN (fun _=>?_) (fun _=>?_))))
 all_goals first|rfl|(simp only [*,zu7,zgy,cT,cF]<;>rfl)|simp_all[Ty.cells,zu7,zgy]
theorem zUM:u4 212 zJH:=kF2 zeN zi zl zcQ (zk []) z0L
@[simp] abbrev zsP (m g:Int):Bool:=true
@[simp] abbrev zuX (m g:Int):Int:=zgy m g
def zJw:Run:=rF2 dI dI fun b c=>(zsP b c,[aI (zuX b c)])
def zTk (N:Nat)(a0 a1:Int):OA:=
 (oN (zbx a0 3) (cond (nB (zbK a0 3)) (some [(aI 0)]) (oN (zbx a1 2) (cond (nB (zbK a1 2)) (some [(aI 0)]) (some [(aI (zD .i64 (zD .i64 1 a1) (zmW .i64 a0 2)))])))))
theorem z0z (a0 a1:Int)(hc:zsP a0 a1=true):∃N,zTk N a0 a1=some [aI (zuX a0 a1)]:=by
 refine ⟨0,?_⟩;unfold zTk oN nB;refine must rfl (brN (fun _=>?_) (fun _=>must rfl (brN (fun _=>?_) (fun _=>?_))))
 all_goals first|rfl|(simp only [*,zuX,zgy,has3,has2,cT,cF]<;>rfl)|simp_all[Ty.cells,zuX,zgy,has3,has2]
theorem zUA:u4 79 zJw:=kF2 zeN zi zl zcQ (zk []) z0z
def znl (k:Kept)(p:Int):Bool:=bif zeh k p then ix k.Known p false else false
def zfC (k:Kept)(p:Int):Slot:=bif znl k p then ix k.Slots p zK else noSlot
@[simp] abbrev zG1 (k:Kept)(p:Int):Bool:=pc (SmK k)
@[simp] abbrev zu5 (k:Kept)(p:Int):Slot:=zfC k p
@[simp] abbrev zG0 (k:Kept)(p:Int):Bool:=znl k p
def zUc:Run:=rF2 (dT .kept) dI fun b c=>(zG1 b c,[aT .slot (zu5 b c),aB (zG0 b c)])
def z1J (N:Nat)(a0:Kept)(a1:Int):OA:=
 let y0:=(ix a0.Slots a1 zK); (oN (zqn a0 a1) (cond (nB (ziO a0 a1)) (oN zcg (some [(.agg [(.i .i64 zbs.Page),(.i .i64 zbs.Rights)]),(aB false)])) (oN (inb a1 (ln a0.Known)) (cond (nB (ix a0.Known a1 false)) (oN zcg (some [(.agg [(.i .i64 zbs.Page),(.i .i64 zbs.Rights)]),(aB false)])) (oN (inb a1 (ln a0.Slots)) (some [(.agg [(.i .i64 y0.Page),(.i .i64 y0.Rights)]),(aB true)]))))))
theorem z5T (a0:Kept)(a1:Int)(hc:zG1 a0 a1=true):∃N,z1J N a0 a1=some [aT .slot (zu5 a0 a1),aB (zG0 a0 a1)]:=by
 have hs:=zy.1 hc;refine ⟨0,?_⟩;unfold z1J zu5 zG0 zfC znl oN nB
 conv=>zeta
 refine must (zbf hs) ?_;rw[show ziO a0 a1=zeh a0 a1 from rfl]
 cases hh:zeh a0 a1
 .rfl
 .unfold zeh at hh;obtain ⟨h1,h2⟩:=zcM.1 hh;simp only[zx h1,zx h2,cT];cases ix a0.Known a1 false<;>rfl
theorem z0n:u4 288 zUc:=kF2 zeN zi zl zcQ (zk []) z5T
@[simp] abbrev zzu (k:Kept)(p:Int):Bool:=true
@[simp] abbrev zuV (k:Kept)(p:Int):Slot:=zfC k p
@[simp] abbrev zGU (k:Kept)(p:Int):Bool:=znl k p
def zT8:Run:=rF2 (dT .kept) dI fun b c=>(zzu b c,[aT .slot (zuV b c),aB (zGU b c)])
def z1F (N:Nat)(a0:Kept)(a1:Int):OA:=
 let y0:=(ix a0.Slots a1 zK); (oN (zbx a1 (ln a0.Known)) (cond (nB (zbK a1 (ln a0.Known))) (oN zc0 (some [(.agg [(.i .i64 zcm.Page),(.i .i64 zcm.Rights)]),(aB false)])) (oN (zbx a1 (ln a0.Slots)) (cond (nB (zbK a1 (ln a0.Slots))) (oN zc0 (some [(.agg [(.i .i64 zcm.Page),(.i .i64 zcm.Rights)]),(aB false)])) (oN (inb a1 (ln a0.Known)) (cond (nB (ix a0.Known a1 false)) (oN zc0 (some [(.agg [(.i .i64 zcm.Page),(.i .i64 zcm.Rights)]),(aB false)])) (oN (inb a1 (ln a0.Slots)) (some [(.agg [(.i .i64 y0.Page),(.i .i64 y0.Rights)]),(aB true)]))))))))
theorem z5P (a0:Kept)(a1:Int)(hc:zzu a0 a1=true):∃N,z1F N a0 a1=some [aT .slot (zuV a0 a1),aB (zGU a0 a1)]:=by
 refine ⟨0,?_⟩;unfold z1F zuV zGU zfC znl zeh oN nB
 conv=>zeta
 rw[show zbK a1 (ln a0.Known)=hasB a1 (ln a0.Known) from rfl,show zbK a1 (ln a0.Slots)=hasB a1 (ln a0.Slots) from rfl]
 cases h1:hasB a1 (ln a0.Known)
 .rfl
 .cases h2:hasB a1 (ln a0.Slots)
  .rfl
  .simp only [zbx,zx h1,zx h2,cT];cases ix a0.Known a1 false<;>rfl
theorem z0j:u4 240 zT8:=kF2 zeN zi zl zcQ (zk []) z5P
def filled (k:Kept)(inner outer:List Slot)(p:Int):Kept:=bif zeh k p then (cond (hasB p (ln inner)) ⟨up k.Known p true,up k.Slots p (zfV (ix inner p zK) outer)⟩ k) else k
@[simp] theorem z4s {k:Kept}{inner outer:List Slot}{p:Int}(h:SmK k):SmK (filled k inner outer p):=by
 unfold filled;cases zeh k p
 .exact h
 .cases hasB p (ln inner)
  .exact h
  .exact ⟨by simpa using h.1,by simpa using h.2⟩
@[simp] abbrev zLS (k:Kept)(i o:List Slot)(p:Int):Bool:=pc (SmK k)
@[simp] abbrev zPs (k:Kept)(i o:List Slot)(p:Int):Kept:=filled k i o p
def zPq:Run:=rF4 (dT .kept) (dS .slot) (dS .slot) dI fun b c d e=>(zLS b c d e,[aT .kept (zPs b c d e)])
def zWI (N:Nat)(a0:Kept)(a1 a2:lS)(a3:Int):OA:=
 let y0:=(zdi a0); (oN (zf5 a0) (oN (zqn y0 a3) (cond (ziO y0 a3) (cond (ilt a3 (ln a1)) (oN (inb a3 (ln y0.Known)) (share (up y0.Known a3 true) (fun x5=>(oN (inb a3 (ln a1)) (oN (zk1 (ix a1 a3 zK) a2) (oN (inb a3 (ln y0.Slots)) (share (up y0.Slots a3 (znR (ix a1 a3 zK) a2)) (fun x6=>(some [(aT .kept (⟨x5,x6⟩:Kept))]))))))))) (some [(aT .kept y0)])) (some [(aT .kept y0)]))))
theorem z3z (a0:Kept)(a1 a2:List Slot)(a3:Int)(hc:zLS a0 a1 a2 a3=true):∃N,zWI N a0 a1 a2 a3=some [aT .kept (zPs a0 a1 a2 a3)]:=by
 have hs:=zy.1 hc;refine ⟨0,?_⟩;unfold zWI zPs filled oN
 conv=>zeta
 refine must (zbf ((zzk _).2 hs)) (must (zbf hs) ?_);rw[show ziO (zdi a0) a3=zeh a0 a3 from rfl]
 cases hh:zeh a0 a3
 .rfl
 .unfold zeh at hh;obtain ⟨h1,h2⟩:=zcM.1 hh;rw[has_lt h1 (m:=ln a1)];cases h3:hasB a3 (ln a1)
  .rfl
  .simp only [cT,zdi,zx h1,zx h2,zx h3,share,zk1];rfl
theorem zXo:u4 289 zPq:=kF4 zeN zi zl zcQ (zk []) z3z
@[simp] abbrev zLe (k:Kept)(i o:List Slot)(p:Int):Bool:=pc (SmK k)
@[simp] abbrev zOs (k:Kept)(i o:List Slot)(p:Int):Kept:=filled k i o p
def zPn:Run:=rF4 (dT .kept) (dS .slot) (dS .slot) dI fun b c d e=>(zLe b c d e,[aT .kept (zOs b c d e)])
def zWE (N:Nat)(a0:Kept)(a1 a2:lS)(a3:Int):OA:=
 let y0:=(zci a0); (oN (zfd a0) (oN (zbx a3 (ln a0.Known)) (cond (zbK a3 (ln a0.Known)) (oN (zbx a3 (ln a0.Slots)) (cond (zbK a3 (ln a0.Slots)) (oN (zbx a3 (ln a1)) (cond (zbK a3 (ln a1)) (oN (inb a3 (ln y0.Known)) (share (up y0.Known a3 true) (fun x5=>(oN (inb a3 (ln a1)) (oN (zkY (ix a1 a3 zK) a2) (oN (inb a3 (ln y0.Slots)) (share (up y0.Slots a3 (znK (ix a1 a3 zK) a2)) (fun x6=>(some [(aT .kept (⟨x5,x6⟩:Kept))]))))))))) (some [(aT .kept y0)]))) (some [(aT .kept y0)]))) (some [(aT .kept y0)]))))
theorem z3u (a0:Kept)(a1 a2:List Slot)(a3:Int)(hc:zLe a0 a1 a2 a3=true):∃N,zWE N a0 a1 a2 a3=some [aT .kept (zOs a0 a1 a2 a3)]:=by
 have hs:=zy.1 hc;refine ⟨0,?_⟩;unfold zWE zOs filled zeh oN
 conv=>zeta
 refine must (zbf hs) ?_;simp only[zbK,zbx,zci,cT];cases h1:hasB a3 (ln a0.Known)
 .rfl
 .cases h2:hasB a3 (ln a0.Slots)
  .rfl
  .cases h3:hasB a3 (ln a1)
   .rfl
   .simp only [cT,zx h1,zx h2,zx h3,share,zkY];rfl
theorem zXj:u4 241 zPn:=kF4 zeN zi zl zcQ (zk []) z3u
theorem zKm {α ρ:Type}(p:α->Bool)(r:α->Option ρ)(K:Unit->Option ρ):∀(l:List α) (i:Nat),goL (fun _ x (_:Unit) k=>bif p x then r x else k ()) K l i ()=match l.find? p with|some x=>r x|none=>K ()
 | [],_=>rfl
 | x :: l,i=>by
  simp only[goL];cases h:p x
  .rw [List.find?_cons_of_neg (by simp[h])]
   exact zKm p r K l (i+1)
  .rw [List.find?_cons_of_pos h];rfl
def zAQ (b:List Entry)(t p:Int):Option Entry:=b.find? fun e=>bif ieq e.Tag t then ieq e.Page p else false
@[simp] abbrev znU (b:List Entry)(t p:Int):Bool:=true
@[simp] abbrev znT (b:List Entry)(t p:Int):Entry:=(zAQ b t p).getD ⟨0,0,0,0⟩
@[simp] abbrev zkk (b:List Entry)(t p:Int):Bool:=(zAQ b t p).isSome
def zxy:Run:=rF3 (dS .entry) dI dI fun b c d=>(znU b c d,[aT .entry (znT b c d),aB (zkk b c d)])
def zCc (N:Nat)(a0:lE)(a1 a2:Int):OA:=
 (iter (σ:=(Int×(Int×(Int×(Int×(Int×(Int×(Int×(lE×Unit))))))))) N (fun r4 s5=>let y2:=s5.2.2.2.2.2.2.2.1;let y3:=(inb s5.2.2.1 (ln y2));let y1:=(r4 (s5.1,(s5.2.1,((zD .i64 s5.2.2.1 1),(s5.2.2.2.1,(s5.2.2.2.2.1,(s5.2.2.2.2.2.1,(s5.2.2.2.2.2.2.1,(y2,())))))))));let y0:=(ix y2 s5.2.2.1 zel); (cond (ilt s5.2.2.1 (ln y2)) (oN y3 (cond (ieq y0.Tag s5.1) (oN y3 (cond (ieq y0.Page s5.2.1) (oN y3 (some [(.agg [(.i .i64 y0.Tag),(.i .i64 y0.Page),(.i .i64 y0.Host),(.i .i64 y0.Rights)]),(aB true)])) y1)) y1)) (some [(.agg [(.i .i64 0),(.i .i64 0),(.i .i64 0),(.i .i64 0)]),(aB false)]))) (a1,(a2,(0,(0,(0,(0,(0,(a0,())))))))))
def zPX:FuncId->Nat->Option Tmpl:=zk [(286,0,{ n:=36,tm:=[(0,.sl 0 []),(1,ti),(2,ti),(6,.lp 0 0),(8,ti)],lo:=[(0,[ti,ti,ti,ti])],ro:=[(0,.entry,false)] })]
theorem zOU (a0:List Entry)(a1 a2:Int)(hb:zbC big [aS .entry a0,aI a1,aI a2])(hc:znU a0 a1 a2=true):∃N,zCc N a0 a1 a2=some [aT .entry (znT a0 a1 a2),aB (zkk a0 a1 a2)]:=by
 have hl:=(len0 hb);refine zbV fun N hNN=>?_;unfold zCc oN
 conv=>zeta
 refine (zbb a0 (fun i (t:Unit)=>(a1,a2,(i:Int),0,0,0,0,a0,())) _ (fun _ (x:Entry) (_:Unit) κ=>bif (cond (ieq x.Tag a1) (ieq x.Page a2) false) then (some [AV.agg (Ty.cells .entry x),AV.one (.b true)]) else κ ()) (fun (t:Unit)=>(some [(.agg [(.i .i64 0),(.i .i64 0),(.i .i64 0),(.i .i64 0)]),(.one (.b false))])) (fun i hi t rec=>?_) (fun t rec=>?_) _ () (hNN hl)).trans ?_
 .simp only [zbi hi,zQ hi,zbc hi,zU hi hl,cT];cases ieq a0[i].Tag a1<;>cases ieq a0[i].Page a2<;>rfl
 .simp only [zbe,cF]
 rw[zKm (fun e:Entry=>bif ieq e.Tag a1 then ieq e.Page a2 else false)]
 unfold znT zkk zAQ;cases a0.find? (fun e:Entry=>bif ieq e.Tag a1 then ieq e.Page a2 else false)<;>rfl
theorem zHv:u4 286 zxy:=hF3 zeN zi zl zcQ zPX zOU
@[simp] abbrev znL (b:List Entry)(t p:Int):Bool:=true
@[simp] abbrev zkb (b:List Entry)(t p:Int):Entry:=(zAQ b t p).getD ⟨0,0,0,0⟩
@[simp] abbrev zkc (b:List Entry)(t p:Int):Bool:=(zAQ b t p).isSome
def zxh:Run:=rF3 (dS .entry) dI dI fun b c d=>(znL b c d,[aT .entry (zkb b c d),aB (zkc b c d)])
def zBU (N:Nat)(a0:lE)(a1 a2:Int):OA:=
 (iter (σ:=(Int×(Int×(Int×(Int×(Int×(Int×(Int×(Int×(lE×Unit)))))))))) N (fun r4 s5=>let y2:=s5.2.2.2.2.2.2.2.2.1;let y1:=(r4 (s5.1,(s5.2.1,(s5.2.2.1,((zD .i64 s5.2.2.2.1 1),(s5.2.2.2.2.1,(s5.2.2.2.2.2.1,(s5.2.2.2.2.2.2.1,(s5.2.2.2.2.2.2.2.1,(y2,()))))))))));let y0:=(ix y2 s5.2.2.2.1 zel); (cond (ilt s5.2.2.2.1 s5.2.2.1) (oN (inb s5.2.2.2.1 (ln y2)) (cond (ieq y0.Tag s5.1) (cond (ieq y0.Page s5.2.1) (some [(.agg [(.i .i64 y0.Tag),(.i .i64 y0.Page),(.i .i64 y0.Host),(.i .i64 y0.Rights)]),(aB true)]) y1) y1)) (some [(.agg [(.i .i64 0),(.i .i64 0),(.i .i64 0),(.i .i64 0)]),(aB false)]))) (a1,(a2,((ln a0),(0,(0,(0,(0,(0,(a0,()))))))))))
def zPO:FuncId->Nat->Option Tmpl:=zk [(239,0,{ n:=29,tm:=[(1,ti),(2,ti),(6,.lp 0 0),(10,.sl 0 []),(11,ti),(12,ti)],lo:=[(0,[ti,ti,ti,ti])],ro:=[(0,.entry,false)] })]
theorem zOB (a0:List Entry)(a1 a2:Int)(hb:zbC big [aS .entry a0,aI a1,aI a2])(hc:znL a0 a1 a2=true):∃N,zBU N a0 a1 a2=some [aT .entry (zkb a0 a1 a2),aB (zkc a0 a1 a2)]:=by
 have hl:=(len0 hb);refine zbV fun N hNN=>?_;unfold zBU oN
 conv=>zeta
 refine (zbb a0 (fun i (t:Unit)=>(a1,a2,(ln a0),(i:Int),0,0,0,0,a0,())) _ (fun _ (x:Entry) (_:Unit) κ=>bif (cond (ieq x.Tag a1) (ieq x.Page a2) false) then (some [AV.agg (Ty.cells .entry x),AV.one (.b true)]) else κ ()) (fun (t:Unit)=>(some [(.agg [(.i .i64 0),(.i .i64 0),(.i .i64 0),(.i .i64 0)]),(.one (.b false))])) (fun i hi t rec=>?_) (fun t rec=>?_) _ () (hNN hl)).trans ?_
 .simp only [zbi hi,zQ hi,zbc hi,zU hi hl,cT];cases ieq a0[i].Tag a1<;>cases ieq a0[i].Page a2<;>rfl
 .simp only [zbe,cF]
 rw[zKm (fun e:Entry=>bif ieq e.Tag a1 then ieq e.Page a2 else false)]
 unfold zkb zkc zAQ;cases a0.find? (fun e:Entry=>bif ieq e.Tag a1 then ieq e.Page a2 else false)<;>rfl
theorem zHe:u4 239 zxh:=hF3 zeN zi zl zcQ zPO zOB
def zvR (t p:Int)(e:Entry):Bool:=bif ine e.Tag t then true else ine e.Page p
def zcZ (b:List Entry)(t p:Int):List Entry:=b.filter (zvR t p)
theorem zAS (b:List Entry)(t p:Int):(zcZ b t p).length<=b.length:=List.length_filter_le _ _
@[simp] abbrev zgE (b:List Entry)(t p:Int):Bool:=pc (b.length<=1048576)
@[simp] abbrev znt (b:List Entry)(t p:Int):List Entry:=zcZ b t p
def zxA:Run:=rF3 (dS .entry) dI dI fun b c d=>(zgE b c d,[aS .entry (znt b c d)])
def zCe (N:Nat)(a0:lE)(a1 a2:Int):OA:=
 (iter (σ:=(Int×(Int×(Int×(lE×(lE×Unit)))))) N (fun r4 s5=>let y4:=s5.2.2.2.1;let y2:=(inb s5.2.2.1 (ln y4));let y0:=(ix y4 s5.2.2.1 zel);let y3:=(ap s5.2.2.2.2.1 [y0]);let y1:=(r4 (s5.1,(s5.2.1,((zD .i64 s5.2.2.1 1),(y4,(y3,())))))); (cond (ilt s5.2.2.1 (ln y4)) (oN y2 (cond (ine y0.Tag s5.1) (oN y2 (oN (few (ln y3)) y1)) (oN y2 (cond (ine y0.Page s5.2.1) (oN y2 (oN (few (ln y3)) y1)) (r4 (s5.1,(s5.2.1,((zD .i64 s5.2.2.1 1),(y4,(s5.2.2.2.2.1,())))))))))) (some [(aS .entry s5.2.2.2.2.1)]))) (a1,(a2,(0,(a0,([],()))))))
def zPZ:FuncId->Nat->Option Tmpl:=zk [(211,0,{ n:=40,tm:=[(0,.sl 0 []),(1,ti),(2,ti),(7,.sl 1 []),(8,ti)],lo:=[],ro:=[(0,.entry,false),(1,.entry,true)] })]
theorem zOW (a0:List Entry)(a1 a2:Int)(hc:zgE a0 a1 a2=true):∃N,zCe N a0 a1 a2=some [aS .entry (znt a0 a1 a2)]:=by
 have hs:=zy.1 hc;have hl:=zb4 hs;refine zbV fun N hNN=>?_;unfold zCe oN
 conv=>zeta
 refine (zbb a0 (fun i (t:lE)=>(a1,a2,(i:Int),a0,t,())) _ (fun _ (x:Entry) (t:List Entry) κ=>bif zvR a1 a2 x then (cond (few (ln (ap t [x]))) (κ (ap t [x])) none) else κ t) (fun (t:lE)=>(some [(.one (.s .entry t))])) (fun i hi t rec=>?_) (fun t rec=>?_) _ ([]) (hNN hl.1)).trans ?_
 .simp only [zbi hi,zQ hi,zbc hi,zU hi hl.1,cT];unfold zvR;cases ine a0[i].Tag a1<;>cases ine a0[i].Page a2<;>rfl
 .simp only [zbe,cF]
 exact zl7 (zvR a1 a2) _ a0 0 [] (by simpa using hl.2)
theorem zHx:u4 211 zxA:=kF3 zeN zi zl zcQ zPZ zOW
@[simp] abbrev zgA (b:List Entry)(t p:Int):Bool:=pc (b.length<=1048576)
@[simp] abbrev zgV (b:List Entry)(t p:Int):List Entry:=zcZ b t p
def zxj:Run:=rF3 (dS .entry) dI dI fun b c d=>(zgA b c d,[aS .entry (zgV b c d)])
def zBW (N:Nat)(a0:lE)(a1 a2:Int):OA:=
 (iter (σ:=(Int×(Int×(Int×(Int×(lE×(lE×Unit))))))) N (fun r4 s5=>let y3:=s5.2.2.2.2.2.1;let y0:=(ix y3 s5.2.1 zel);let y2:=(ap s5.2.2.2.2.1 [y0]);let y1:=(r4 (s5.1,((zD .i64 s5.2.1 1),(s5.2.2.1,(s5.2.2.2.1,(y2,(y3,()))))))); (cond (ilt s5.2.1 s5.1) (oN (inb s5.2.1 (ln y3)) (cond (ieq y0.Tag s5.2.2.1) (cond (nB (ieq y0.Page s5.2.2.2.1)) (oN (few (ln y2)) y1) (r4 (s5.1,((zD .i64 s5.2.1 1),(s5.2.2.1,(s5.2.2.2.1,(s5.2.2.2.2.1,(y3,())))))))) (oN (few (ln y2)) y1))) (some [(aS .entry s5.2.2.2.2.1)]))) ((ln a0),(0,(a1,(a2,([],(a0,())))))))
def zPQ:FuncId->Nat->Option Tmpl:=zk [(167,0,{ n:=25,tm:=[(1,.fn 168 [0,1]),(5,.sl 0 []),(9,.sl 1 []),(10,ti),(11,ti)],lo:=[(0,[ti]),(1,[ti])],ro:=[(0,.entry,true),(1,.entry,false)] })]
theorem zOD (a0:List Entry)(a1 a2:Int)(hc:zgA a0 a1 a2=true):∃N,zBW N a0 a1 a2=some [aS .entry (zgV a0 a1 a2)]:=by
 have hs:=zy.1 hc;have hl:=zb4 hs;refine zbV fun N hNN=>?_;unfold zBW oN nB
 conv=>zeta
 refine (zbb a0 (fun i (t:lE)=>((ln a0),(i:Int),a1,a2,t,a0,())) _ (fun _ (x:Entry) (t:List Entry) κ=>bif zvR a1 a2 x then (cond (few (ln (ap t [x]))) (κ (ap t [x])) none) else κ t) (fun (t:lE)=>(some [(.one (.s .entry t))])) (fun i hi t rec=>?_) (fun t rec=>?_) _ ([]) (hNN hl.1)).trans ?_
 .simp only [zbi hi,zQ hi,zbc hi,zU hi hl.1,cT];unfold zvR;simp only[zhR];cases ieq a0[i].Tag a1<;>cases ieq a0[i].Page a2<;>rfl
 .simp only [zbe,cF]
 exact zl7 (zvR a1 a2) _ a0 0 [] (by simpa using hl.2)
theorem zHg:u4 78 zxj:=kF3 zeN zi zl zcQ zPQ zOD
def z9E:zV:=[(271,zCW),(143,zCy),(212,zJH),(79,zJw),(288,zUc),(240,zT8),(289,zPq),(241,zPn),(286,zxy),(239,zxh),(211,zxA),(78,zxj)]++z5o
theorem zvj:zJ z9E:=zf zN3 (zf zNF (zf zUM (zf zUA (zf z0n (zf z0j (zf zXo (zf zXj (zf zHv (zf zHe (zf zHx (zf zHg zeN)))))))))))
def zFo (b:List Entry)(e:Entry):List Entry:=bif igt (ln (ap (zcZ b e.Tag e.Page) [e])) 6 then dp (ap (zcZ b e.Tag e.Page) [e]) (wsub .i64 (ln (ap (zcZ b e.Tag e.Page) [e])) 6) else ap (zcZ b e.Tag e.Page) [e]
theorem zBo {b:List Entry}(e:Entry)(h:b.length<=1048576):(zFo b e).length<=1048576/\(ap (zcZ b e.Tag e.Page) [e]).length<=1048577:=by
 have h1:=zAS b e.Tag e.Page;have h2:(ap (zcZ b e.Tag e.Page) [e]).length<=1048577:=by simp[ap];omega
 refine ⟨?_,h2⟩;unfold zFo;cases h3:igt (ln (ap (zcZ b e.Tag e.Page) [e])) 6
 .have h3:=qV h3;simp only[ln]at h3;simp only[cF];omega
 .simp only [cT,dp,List.length_drop];have h3:=qD h3;have:wsub .i64 (ln (ap (zcZ b e.Tag e.Page) [e])) 6=ln (ap (zcZ b e.Tag e.Page) [e])-6:=zvc (by simp only[ln] at *;omega) (by simp only[ln] at *;omega)
  rw[this];simp only[ln] at *;omega
@[simp] abbrev zqf (b:List Entry)(e:Entry):Bool:=pc (b.length<=1048576)
@[simp] abbrev zqe (b:List Entry)(e:Entry):List Entry:=zFo b e
def zAi:Run:=rF2 (dS .entry) (dT .entry) fun b c=>(zqf b c,[aS .entry (zqe b c)])
def zEj (N:Nat)(a0:lE)(a1:Entry):OA:=
 let y0:=(ap (znt a0 a1.Tag a1.Page) [a1]);let y1:=(wsub .i64 (ln y0) 6); (oN (zgE a0 a1.Tag a1.Page) (oN (few (ln y0)) (cond (igt (ln y0) 6) (oN (inr y1 (ln y0) (ln y0)) (oN (few (ln (ap [] (dp y0 y1)))) (some [(aS .entry (ap [] (dp y0 y1)))]))) (some [(aS .entry y0)]))))
theorem zSd (a0:List Entry)(a1:Entry)(hc:zqf a0 a1=true):∃N,zEj N a0 a1=some [aS .entry (zqe a0 a1)]:=by
 have hs:=zy.1 hc;obtain ⟨h1,h2⟩:=zBo a1 hs;refine ⟨0,?_⟩;unfold zEj oN
 conv=>zeta
 refine must (zbf hs) (must (zeO (jA h2 (by decide:1048577<=2147483648))) ?_)
 unfold zqe zFo at *
 show _=some [AV.one (.s .entry (cond (igt (ln (ap (zcZ a0 a1.Tag a1.Page) [a1])) 6) (dp (ap (zcZ a0 a1.Tag a1.Page) [a1]) (wsub .i64 (ln (ap (zcZ a0 a1.Tag a1.Page) [a1])) 6)) (ap (zcZ a0 a1.Tag a1.Page) [a1])))]
 cases h3:igt (ln (ap (zcZ a0 a1.Tag a1.Page) [a1])) 6
 .rfl
 .rw [h3]at h1;simp only[cT]at h1;have h3:=qD h3;have e:wsub .i64 (ln (ap (zcZ a0 a1.Tag a1.Page) [a1])) 6=ln (ap (zcZ a0 a1.Tag a1.Page) [a1])-6:=zvc (by simp only[ln] at *;omega) (by simp only[ln] at *;omega)
  refine must rfl (must (qK ?_) (must ?_ ?_))
  .show 0<=wsub .i64 (ln (ap (zcZ a0 a1.Tag a1.Page) [a1])) 6/\wsub .i64 (ln (ap (zcZ a0 a1.Tag a1.Page) [a1])) 6<=ln (ap (zcZ a0 a1.Tag a1.Page) [a1])/\ln (ap (zcZ a0 a1.Tag a1.Page) [a1])<=ln (ap (zcZ a0 a1.Tag a1.Page) [a1])
   rw[e];simp only[ln] at *;omega
  .exact zos h1
  .rw [zm4];rfl
theorem zK2:u4 290 zAi:=kF2 zvj zi zl zcQ (zk []) zSd
@[simp] abbrev zpq (b:List Entry)(e:Entry):Bool:=pc (b.length<=1048576)
@[simp] abbrev zpp (b:List Entry)(e:Entry):List Entry:=zFo b e
def zzS:Run:=rF2 (dS .entry) (dT .entry) fun b c=>(zpq b c,[aS .entry (zpp b c)])
def zDQ (N:Nat)(a0:lE)(a1:Entry):OA:=
 let y0:=(ap (zgV a0 a1.Tag a1.Page) [a1]);let y1:=(imax 0 (wsub .i64 (ln y0) 6)); (oN (zgA a0 a1.Tag a1.Page) (oN (few (ln y0)) (oN (inr y1 (ln y0) (ln y0)) (some [(aS .entry (dp y0 y1))]))))
theorem zRK (a0:List Entry)(a1:Entry)(hc:zpq a0 a1=true):∃N,zDQ N a0 a1=some [aS .entry (zpp a0 a1)]:=by
 have hs:=zy.1 hc;obtain ⟨_,h2⟩:=zBo a1 hs;refine ⟨0,?_⟩;unfold zDQ zpp zFo oN
 conv=>zeta
 simp only[zgV];generalize ap (zcZ a0 a1.Tag a1.Page) [a1]=l at h2 ⊢;refine must (zbf hs) (must (zeO (jA h2 (by decide:1048577<=2147483648))) ?_)
 have e:wsub .i64 (ln l) 6=ln l-6:=zvc (by simp only[ln] at *;omega) (by simp only[ln] at *;omega)
 rw[e];cases h3:igt (ln l) 6
 .have h3:=qV h3;have e2:imax 0 (ln l-6)=0:=by
   unfold imax;rw[if_neg (by omega)]
  rw[e2];exact must (qK (by simp only[ln];omega)) (by simp[dp])
 .have h3:=qD h3;have e2:imax 0 (ln l-6)=ln l-6:=by
   unfold imax;rw[if_pos (by omega)]
  rw[e2];exact must (qK (by simp only[ln] at *;omega)) rfl
theorem zKA:u4 242 zzS:=kF2 zvj zi zl zcQ (zk []) zRK
def zAR (l:List Slot)(p:Int):Option Nat:=l.findIdx? fun s=>ieq s.Page p
def znQ (p:Int):List Mon->Nat->Int×Int
 | [],_=>(-1,-1)
 | m :: l,i=>match zAR m.Outer p with|some k=>((i:Int),(k:Int))|none=>znQ p l (i+1)
def zdy (h:Host)(p:Int):Int×Int:=bif ilt p 0 then (-1,-1) else znQ p h.Mons 0
theorem zTQ {ρ:Type}(p:Slot->Bool)(r:Nat->Option ρ)(K:Unit->Option ρ):∀(l:List Slot) (i:Nat),goL (fun j x (_:Unit) k=>bif p x then r j else k ()) K l i ()=match l.findIdx? p with|some k=>r (i+k)|none=>K ()
 | [],_=>rfl
 | x :: l,i=>by
  simp only[goL];rw[List.findIdx?_cons];cases h:p x
  .simp only [cF,kP,if_false];rw[zTQ p r K l (i+1)];cases l.findIdx? p with
   | none=>rfl
   | some k=>simp only[Option.map_some];congr 1;omega
  .rfl
theorem zQg {ρ:Type}(p:Int)(r:Int->Int->Option ρ):∀(l:List Mon) (i:Nat),goL (fun i (x:Mon) (_:Unit) κ=>goL (fun j (y:Slot) (_:Unit) κ₁=>bif ieq y.Page p then r (i:Int) (j:Int) else κ₁ ()) (fun _=>κ ()) x.Outer 0 ()) (fun _=>r (-1) (-1)) l i ()=r (znQ p l i).1 (znQ p l i).2
 | [],_=>rfl
 | m :: l,i=>by
  simp only[goL,znQ];rw[zTQ (fun s=>ieq s.Page p) (fun j=>r (i:Int) (j:Int))];unfold zAR;cases m.Outer.findIdx? (fun s=>ieq s.Page p) with
  | none=>exact zQg p r l (i+1)
  | some k=>simp only[j9]
@[simp] abbrev zkZ (h:Host)(p:Int):Bool:=true
@[simp] abbrev zgs (h:Host)(p:Int):Int:=(zdy h p).1
@[simp] abbrev zh5 (h:Host)(p:Int):Int:=(zdy h p).2
def zt2:Run:=rF2 dH dI fun b c=>(zkZ b c,[aI (zgs b c),aI (zh5 b c)])
def zwA (N:Nat)(a0:Host)(a1:Int):OA:=
 (cond (ilt a1 0) (some [(aI (-1)),(aI (-1))]) (iter (σ:=(Int×(Int×(Int×(lN×Unit))))) N (fun r3 s4=>let y3:=s4.2.2.1; (cond (ilt y3 s4.2.1) (oN (inb y3 (ln s4.2.2.2.1)) (iter (σ:=(Int×(Int×(Int×(Int×(Int×(Int×(Int×(lN×Unit))))))))) N (fun r5 s6=>let y2:=s6.2.2.2.2.2.2.2.1;let y1:=(ix y2 s6.2.2.2.2.1 zh).Outer;let y0:=s6.2.2.2.2.2.2.1; (cond (ilt y0 s6.2.2.2.2.2.1) (oN (inb y0 (ln y1)) (cond (ieq (ix y1 y0 zK).Page s6.1) (some [(aI s6.2.1),(aI y0)]) (r5 (s6.1,(s6.2.1,(s6.2.2.1,(s6.2.2.2.1,(s6.2.2.2.2.1,(s6.2.2.2.2.2.1,((zD .i64 y0 1),(y2,()))))))))))) (r3 (s6.1,(s6.2.2.1,((zD .i64 s6.2.2.2.1 1),(y2,()))))))) (s4.1,(y3,(s4.2.1,(y3,(y3,((ln (ix s4.2.2.2.1 y3 zh).Outer),(0,(s4.2.2.2.1,())))))))))) (some [(aI (-1)),(aI (-1))]))) (a1,((ln a0.Mons),(0,(a0.Mons,()))))))
def zH6:FuncId->Nat->Option Tmpl:=zk [(247,0,{ n:=36,tm:=[(1,ti),(13,.sl 0 []),(14,ti),(15,ti)],lo:=[],ro:=[(0,.mon,false)] }),(247,2,{ n:=36,tm:=[(1,ti),(6,ti),(13,.sl 0 []),(14,ti),(15,ti),(21,.sl 0 [0]),(22,ti),(23,ti)],lo:=[],ro:=[(0,.mon,false)] })]
theorem zHM (a0:Host)(a1:Int)(hb:zbC big [aH a0,aI a1])(hc:zkZ a0 a1=true):∃N,zwA N a0 a1=some [aI (zgs a0 a1),aI (zh5 a0 a1)]:=by
 have hm:CVB big (.s .mon a0.Mons):=(zcL hb).1 _ (by simp[AV.cvs,zS])
 have hl:=hm.len;refine zbV fun N hNN=>?_;unfold zwA zgs zh5 zdy oN
 conv=>zeta
 cases h0:ilt a1 0
 .simp only [cF];refine (zbb a0.Mons (fun i (t:Unit)=>(a1,(ln a0.Mons),(i:Int),a0.Mons,())) _ (fun i (x:Mon) (_:Unit) κ=>goL (fun j (y:Slot) (_:Unit) κ₁=>bif ieq y.Page a1 then some [AV.one (.i .i64 (i:Int)),AV.one (.i .i64 (j:Int))] else κ₁ ()) (fun _=>κ ()) x.Outer 0 ()) (fun (t:Unit)=>(some [(.one (.i .i64 (-1))),(.one (.i .i64 (-1)))])) (fun i hi t rec=>?_) (fun t rec=>?_) _ () (hNN hl)).trans ?_
  .simp only [zbi hi,zQ hi,zbc hi,zU hi hl,cT];have ho:a0.Mons[i].Outer.length<=big:=(hm.inv.2 _ (jC hi) (.s .slot _) (by simp[Ty.cells])).len
   refine (zbb a0.Mons[i].Outer (fun j (u:Unit)=>(a1,(i:Int),(ln a0.Mons),(i:Int),(i:Int),(ln a0.Mons[i].Outer),(j:Int),a0.Mons,())) _ (fun j (y:Slot) (_:Unit) κ₁=>bif ieq y.Page a1 then some [AV.one (.i .i64 (i:Int)),AV.one (.i .i64 (j:Int))] else κ₁ ()) (fun (u:Unit)=>(rec (a1,((ln a0.Mons),((((i+1:Nat)):Int),(a0.Mons,())))))) (fun j hj u rec1=>?_) (fun u rec1=>?_) _ () (hNN ho)).trans ?_
   .simp only [zbi hj,zQ hj,zbc hj,zU hj ho,cT,zQ hi,zbc hi,zU hi hl]
   .simp only [zbe,cF,zQ hi,zbc hi,zU hi hl]
   rfl
  .simp only [zbe,cF]
  exact zQg a1 (fun i j=>some [AV.one (.i .i64 i),AV.one (.i .i64 j)]) a0.Mons 0
 .rfl
theorem zDp:u4 247 zt2:=hF2 zvj zi zl zcQ zH6 zHM
theorem z5G {α τ ρ:Type}(r:Option ρ):∀(l:List α) (i:Nat) (t:τ),goL (fun _ _ _ _=>r) (fun _=>r) l i t=r
 | [],_,_=>rfl
 | _ :: _,_,_=>rfl
@[simp] abbrev zk2 (h:Host)(p:Int):Bool:=true
@[simp] abbrev zgx (h:Host)(p:Int):Int:=(zdy h p).1
@[simp] abbrev zii (h:Host)(p:Int):Int:=(zdy h p).2
def zt5:Run:=rF2 dH dI fun b c=>(zk2 b c,[aI (zgx b c),aI (zii b c)])
def zwL (N:Nat)(a0:Host)(a1:Int):OA:=
 (iter (σ:=(Int×(Int×(lM×(lN×(lE×(lE×Unit))))))) N (fun r3 s4=>(cond (ilt s4.2.1 (ln s4.2.2.2.1)) (cond (ige s4.1 0) (iter (σ:=(Int×(Int×(Int×(lM×(lN×(lE×(lE×Unit)))))))) N (fun r5 s6=>let y1:=s6.2.2.2.2.1;let y0:=(ix y1 s6.2.1 zh).Outer; (oN (inb s6.2.1 (ln y1)) (cond (ilt s6.2.2.1 (ln y0)) (oN (inb s6.2.1 (ln y1)) (oN (inb s6.2.2.1 (ln y0)) (cond (ieq (ix y0 s6.2.2.1 zK).Page s6.1) (some [(aI s6.2.1),(aI s6.2.2.1)]) (r5 (s6.1,(s6.2.1,((zD .i64 s6.2.2.1 1),(s6.2.2.2.1,(y1,(s6.2.2.2.2.2.1,(s6.2.2.2.2.2.2.1,()))))))))))) (r3 (s6.1,((zD .i64 s6.2.1 1),(s6.2.2.2.1,(y1,(s6.2.2.2.2.2.1,(s6.2.2.2.2.2.2.1,())))))))))) (s4.1,(s4.2.1,(0,(s4.2.2.1,(s4.2.2.2.1,(s4.2.2.2.2.1,(s4.2.2.2.2.2.1,())))))))) (some [(aI (-1)),(aI (-1))])) (some [(aI (-1)),(aI (-1))]))) (a1,(0,(a0.Memory,(a0.Mons,(a0.Buffer,(a0.IoBuffer,())))))))
def zH7:FuncId->Nat->Option Tmpl:=zk [(301,0,{ n:=44,tm:=[(1,ti),(2,.lp 0 0),(6,ti)],lo:=[(0,[.sl 0 [],.sl 1 [],.sl 2 [],.sl 3 []])],ro:=[(0,(.sl .int),false),(1,.mon,false),(2,.entry,false),(3,.entry,false)] }),(301,2,{ n:=44,tm:=[(1,ti),(2,.lp 0 0),(6,ti),(7,ti)],lo:=[(0,[.sl 0 [],.sl 1 [],.sl 2 [],.sl 3 []])],ro:=[(0,(.sl .int),false),(1,.mon,false),(2,.entry,false),(3,.entry,false)] })]
theorem zHX (a0:Host)(a1:Int)(hb:zbC big [aH a0,aI a1])(hc:zk2 a0 a1=true):∃N,zwL N a0 a1=some [aI (zgx a0 a1),aI (zii a0 a1)]:=by
 have hm:CVB big (.s .mon a0.Mons):=(zcL hb).1 _ (by simp[AV.cvs,zS])
 have hl:=hm.len;refine zbV fun N hNN=>?_;unfold zwL zgx zii zdy oN
 conv=>zeta
 refine (zbb a0.Mons (fun i (t:Unit)=>(a1,(i:Int),a0.Memory,a0.Mons,a0.Buffer,a0.IoBuffer,())) _ (fun i (x:Mon) (_:Unit) κ=>bif ige a1 0 then goL (fun j (y:Slot) (_:Unit) κ₁=>bif ieq y.Page a1 then some [AV.one (.i .i64 (i:Int)),AV.one (.i .i64 (j:Int))] else κ₁ ()) (fun _=>κ ()) x.Outer 0 () else some [AV.one (.i .i64 (-1)),AV.one (.i .i64 (-1))]) (fun (t:Unit)=>(some [(.one (.i .i64 (-1))),(.one (.i .i64 (-1)))])) (fun i hi t rec=>?_) (fun t rec=>?_) _ () (hNN hl)).trans ?_
 .simp only [zbi hi,zQ hi,zbc hi,zU hi hl,cT];cases h0:ige a1 0
  .rfl
  have ho:a0.Mons[i].Outer.length<=big:=(hm.inv.2 _ (jC hi) (.s .slot _) (by simp[Ty.cells])).len
  simp only[cT];refine (zbb a0.Mons[i].Outer (fun j (_:Unit)=>(a1,((i:Int),((j:Int),(a0.Memory,(a0.Mons,(a0.Buffer,(a0.IoBuffer,())))))))) _ (fun j (y:Slot) (_:Unit) κ₁=>bif ieq y.Page a1 then some [AV.one (.i .i64 (i:Int)),AV.one (.i .i64 (j:Int))] else κ₁ ()) (fun _=>rec (a1,(((i+1:Nat):Int),(a0.Memory,(a0.Mons,(a0.Buffer,(a0.IoBuffer,()))))))) (fun j hj u rec1=>?_) (fun u rec1=>?_) _ () (hNN ho)).trans ?_
  .simp only [zbi hj,zQ hj,zbc hj,zU hj ho,cT,zQ hi,zbc hi]
  .simp only [zbe,cF,cT,zQ hi,zbc hi,zU hi hl]
  rfl
 .simp only [zbe,cF]
 cases h0:ige a1 0
 .have h1:ilt a1 0=true:=by
   have:=qV h0;exact qK (by omega)
  rw[h1];exact z5G _ _ _ _
 .have h1:ilt a1 0=false:=by
   have:=qD h0;exact qH (by omega)
  rw[h1];exact zQg a1 (fun i j=>some [AV.one (.i .i64 i),AV.one (.i .i64 j)]) a0.Mons 0
theorem zDz:u4 301 zt5:=hF2 zvj zi zl zcQ zH7 zHX
def z9F:zV:=[(290,zAi),(242,zzS),(301,zt5),(247,zt2)]++z9E
theorem zvk:zJ z9F:=zf zK2 (zf zKA (zf zDz (zf zDp zvj)))
def zcz (h:Host):List Int:=zLg (fun i=>ilt (zdy h (i:Int)).1 0) h.Memory.length 0
@[simp] abbrev zmy (h:Host):Bool:=pc (h.Memory.length<=1048576)
@[simp] abbrev zfg (h:Host):List Int:=zcz h
def zF1:Run:=rF1 dH fun b=>(zmy b,[aS .int (zfg b)])
def zMG (N:Nat)(a0:Host):OA:=
 (iter (σ:=(Int×((List Int)×(lM×(lN×(lE×(lE×Unit))))))) N (fun r2 s3=>let y0:=(⟨s3.2.2.1,s3.2.2.2.1,s3.2.2.2.2.1,s3.2.2.2.2.2.1⟩:Host); (cond (ilt s3.1 (ln s3.2.2.1)) (oN (zk2 y0 s3.1) (cond (ilt (zgx y0 s3.1) 0) (oN (few (ln (ap s3.2.1 [s3.1]))) (r2 ((zD .i64 s3.1 1),((ap s3.2.1 [s3.1]),(s3.2.2.1,(s3.2.2.2.1,(s3.2.2.2.2.1,(s3.2.2.2.2.2.1,())))))))) (r2 ((zD .i64 s3.1 1),(s3.2.1,(s3.2.2.1,(s3.2.2.2.1,(s3.2.2.2.2.1,(s3.2.2.2.2.2.1,()))))))))) (some [(aS .int s3.2.1)]))) (0,([],(a0.Memory,(a0.Mons,(a0.Buffer,(a0.IoBuffer,())))))))
def zZN:FuncId->Nat->Option Tmpl:=zk [(300,0,{ n:=28,tm:=[(1,.lp 0 0),(3,.sl 0 []),(4,ti)],lo:=[(0,[.sl 1 [],.sl 2 [],.sl 3 [],.sl 4 []])],ro:=[(0,.int,true),(1,(.sl .int),false),(2,.mon,false),(3,.entry,false),(4,.entry,false)] })]
theorem zYa (a0:Host)(hc:zmy a0=true):∃N,zMG N a0=some [aS .int (zfg a0)]:=by
 have hs:=zy.1 hc;have hl:=zb4 hs;refine zbV fun N hNN=>?_;unfold zMG oN
 conv=>zeta
 refine (zbb a0.Memory (fun i (t:(List Int))=>((i:Int),t,a0.Memory,a0.Mons,a0.Buffer,a0.IoBuffer,())) _ (fun i (_:List Int) (t:List Int) κ=>bif ilt (zdy a0 (i:Int)).1 0 then (cond (few (ln (ap t [(i:Int)]))) (κ (ap t [(i:Int)])) none) else κ t) (fun (t:(List Int))=>(some [(.one (.s .int t))])) (fun i hi t rec=>?_) (fun t rec=>?_) _ ([]) (hNN hl.1)).trans ?_
 .simp only [zbi hi,zQ hi,zbc hi,zU hi hl.1,cT]
 .simp only [zbe,cF]
 rw[zzp (fun i (t:List Int) κ=>bif ilt (zdy a0 (i:Int)).1 0 then (cond (few (ln (ap t [(i:Int)]))) (κ (ap t [(i:Int)])) none) else κ t)]
 exact zAY (fun i=>ilt (zdy a0 (i:Int)).1 0) _ _ 0 [] (by simpa using hl.2)
theorem zQY:u4 300 zF1:=kF1 zvk zi zl zcQ zZN zYa
@[simp] abbrev zmd (h:Host):Bool:=pc (h.Memory.length<=1048576)
@[simp] abbrev zfL (h:Host):List Int:=zcz h
def zFx:Run:=rF1 dH fun b=>(zmd b,[aS .int (zfL b)])
def zMd (N:Nat)(a0:Host):OA:=
 (iter (σ:=(Int×(Int×((List Int)×(lM×(lN×(lE×(lE×Unit)))))))) N (fun r2 s3=>let y1:=s3.2.2.2.2.2.2.1;let y0:=(⟨s3.2.2.2.1,s3.2.2.2.2.1,s3.2.2.2.2.2.1,y1⟩:Host); (cond (ilt s3.2.1 s3.1) (oN (zkZ y0 s3.2.1) (cond (ilt (zgs y0 s3.2.1) 0) (oN (few (ln (ap s3.2.2.1 [s3.2.1]))) (r2 (s3.1,((zD .i64 s3.2.1 1),((ap s3.2.2.1 [s3.2.1]),(s3.2.2.2.1,(s3.2.2.2.2.1,(s3.2.2.2.2.2.1,(y1,()))))))))) (r2 (s3.1,((zD .i64 s3.2.1 1),(s3.2.2.1,(s3.2.2.2.1,(s3.2.2.2.2.1,(s3.2.2.2.2.2.1,(y1,())))))))))) (some [(aS .int s3.2.2.1)]))) ((ln a0.Memory),(0,([],(a0.Memory,(a0.Mons,(a0.Buffer,(a0.IoBuffer,()))))))))
def zZD:FuncId->Nat->Option Tmpl:=zk [(180,0,{ n:=28,tm:=[(1,.lp 0 0),(3,.sl 0 []),(10,ti),(11,ti)],lo:=[(0,[.sl 1 [],.sl 2 [],.sl 3 [],.sl 4 []])],ro:=[(0,.int,true),(1,(.sl .int),false),(2,.mon,false),(3,.entry,false),(4,.entry,false)] })]
theorem zXF (a0:Host)(hc:zmd a0=true):∃N,zMd N a0=some [aS .int (zfL a0)]:=by
 have hs:=zy.1 hc;have hl:=zb4 hs;refine zbV fun N hNN=>?_;unfold zMd oN
 conv=>zeta
 refine (zbb a0.Memory (fun i (t:(List Int))=>((ln a0.Memory),(i:Int),t,a0.Memory,a0.Mons,a0.Buffer,a0.IoBuffer,())) _ (fun i (_:List Int) (t:List Int) κ=>bif ilt (zdy a0 (i:Int)).1 0 then (cond (few (ln (ap t [(i:Int)]))) (κ (ap t [(i:Int)])) none) else κ t) (fun (t:(List Int))=>(some [(.one (.s .int t))])) (fun i hi t rec=>?_) (fun t rec=>?_) _ ([]) (hNN hl.1)).trans ?_
 .simp only [zbi hi,zQ hi,zbc hi,zU hi hl.1,cT]
 .simp only [zbe,cF]
 rw[zzp (fun i (t:List Int) κ=>bif ilt (zdy a0 (i:Int)).1 0 then (cond (few (ln (ap t [(i:Int)]))) (κ (ap t [(i:Int)])) none) else κ t)]
 exact zAY (fun i=>ilt (zdy a0 (i:Int)).1 0) _ _ 0 [] (by simpa using hl.2)
theorem zQu:u4 180 zFx:=kF1 zvk zi zl zcQ zZD zXF
def zj8 (m:List (List Int))(p:Int)(c:List Int):List (List Int):=bif hasB p (ln m) then (cond (zcH c) (up m p c) m) else m
@[simp] abbrev zlJ (m:List (List Int))(p:Int)(c:List Int):Bool:=pc (SmM m/\c.length<=1048576)
@[simp] abbrev zj5 (m:List (List Int))(p:Int)(c:List Int):List (List Int):=zj8 m p c
def zAn:Run:=rF3 (dS (.sl .int)) dI (dS .int) fun b c d=>(zlJ b c d,[aS (.sl .int) (zj5 b c d)])
def zEn (N:Nat)(a0:lM)(a1:Int)(a2:List Int):OA:=
 (oN (zf4 a0) (oN (zL a1 0 (wsub .i64 (ln a0) 1)) (cond (zO a1 0 (wsub .i64 (ln a0) 1)) (oN (zf3 a2) (cond (zfk a2) (oN (few (ln (ap [] a2))) (oN (inb a1 (ln (zev a0))) (share (up (zev a0) a1 (ap [] a2)) (fun x4=>(some [(aS (.sl .int) x4)]))))) (some [(aS (.sl .int) (zev a0))]))) (some [(aS (.sl .int) (zev a0))]))))
theorem zSj (a0:List (List Int))(a1:Int)(a2:List Int)(hc:zlJ a0 a1 a2=true):∃N,zEn N a0 a1 a2=some [aS (.sl .int) (zj5 a0 a1 a2)]:=by
 obtain ⟨hs,hs2⟩:=zy.1 hc;refine ⟨0,?_⟩;unfold zEn zj5 zj8 oN;refine must (zbf ((zqB _).2 hs)) (must rfl ?_);rw[show zO a1 0 (wsub .i64 (ln a0) 1)=hasB a1 (ln a0) from zrr hs.1 a1]
 cases h1:hasB a1 (ln a0)
 .rfl
 .simp only [cT,zf3,zfk];cases h2:zcH a2
  .rfl
  .refine must rfl (must (zos hs2) (must (zx h1) ?_));rw[zm4];rfl
theorem zK7:u4 302 zAn:=kF3 zvk zi zl zcQ (zk []) zSj
@[simp] abbrev zlv (m:List (List Int))(p:Int)(c:List Int):Bool:=pc (SmM m/\c.length<=1048576)
@[simp] abbrev zjX (m:List (List Int))(p:Int)(c:List Int):List (List Int):=zj8 m p c
def zzX:Run:=rF3 (dS (.sl .int)) dI (dS .int) fun b c d=>(zlv b c d,[aS (.sl .int) (zjX b c d)])
def zDU (N:Nat)(a0:lM)(a1:Int)(a2:List Int):OA:=
 (oN (zf1 a0) (oN (zbx a1 (ln a0)) (cond (zbK a1 (ln a0)) (oN (zh6 a2) (cond (zgB a2) (oN (zdu a2) (oN (inb a1 (ln (zdg a0))) (share (up (zdg a0) a1 (zdl a2)) (fun x4=>(some [(aS (.sl .int) x4)]))))) (some [(aS (.sl .int) (zdg a0))]))) (some [(aS (.sl .int) (zdg a0))]))))
theorem zRP (a0:List (List Int))(a1:Int)(a2:List Int)(hc:zlv a0 a1 a2=true):∃N,zDU N a0 a1 a2=some [aS (.sl .int) (zjX a0 a1 a2)]:=by
 obtain ⟨hs,hs2⟩:=zy.1 hc;refine ⟨0,?_⟩;unfold zDU zjX zj8 oN;refine must (zbf hs) (must rfl ?_);rw[show zbK a1 (ln a0)=hasB a1 (ln a0) from rfl]
 cases h1:hasB a1 (ln a0)
 .rfl
 .simp only [cT,zh6,zgB];cases h2:zcH a2
  .rfl
  .refine must rfl (must (zbf (jA hs2 (by decide))) (must (zx h1) rfl))
theorem zKF:u4 182 zzX:=kF3 zvk zi zl zcQ (zk []) zRP
def zrD:zV:=[(300,zF1),(180,zFx),(302,zAn),(182,zzX)]++z9F
theorem zhq:zJ zrD:=zf zQY (zf zQu (zf zK7 (zf zKF zvk)))
abbrev mZ:Mon:=Ty.dflt .mon
abbrev sZ:Slot:=Ty.dflt .slot
def ShM (x:Mon):Prop:=x.Outer.length=8/\x.Out.length=8/\x.Dirty.length=8/\x.Tables.length=x.Guests.length
def Shape (h:Host):Prop:=SmH h/\∀x∈h.Mons,ShM x
theorem ziP {h:Host}{m:Int}{x:Mon}(hs:Shape h)(h1:zes x)(h2:ShM x):Shape { h with Mons:=up h.Mons m x }:=by
 refine ⟨⟨hs.1.1,zis hs.1.2.1 h1,hs.1.2.2⟩,fun y hy=>?_⟩;rcases jP hy with hy|rfl
 .exact hs.2 y hy
 .exact h2
theorem zb7 {h:Host}(hs:Shape h){m:Int}(hm:hasB m (ln h.Mons)=true):zes (ix h.Mons m mZ)/\ShM (ix h.Mons m mZ):=⟨hs.1.2.1.2 _ (zbt hm _),hs.2 _ (zbt hm _)⟩
theorem zUg {h:Host}{mm:List (List Int)}(hs:Shape h)(h1:SmM mm):Shape { h with Memory:=mm }:=⟨⟨h1,hs.1.2⟩,hs.2⟩
theorem ztV {h:Host}{m p:Int}{s:Slot}(hm:hasB m (ln h.Mons)=true)(hs:Shape h):Shape (zdX h m p s):=by
 refine ⟨zJS hm hs.1,?_⟩;obtain ⟨_,h2⟩:=zb7 hs hm;have key:∀y∈up h.Mons m { ziR (ix h.Mons m mZ) p (ix h.Mons m mZ).Tables.length with Outer:=up (ix h.Mons m mZ).Outer p s },ShM y:=by
  intro y hy;rcases jP hy with hy|rfl
  .exact hs.2 y hy
  .exact ⟨by simpa using h2.1,h2.2.1,h2.2.2.1,by simpa [ziR,zop] using h2.2.2.2⟩
 unfold zdX;cases ine (ix (ix h.Mons m mZ).Outer p sZ).Page (-1)<;>exact key
theorem zgk (h:Host)(m p:Int)(s:Slot):(zdX h m p s).Mons=up h.Mons m { ziR (ix h.Mons m mZ) p (ix h.Mons m mZ).Tables.length with Outer:=up (ix h.Mons m mZ).Outer p s }/\(zdX h m p s).Memory=h.Memory:=by
 unfold zdX;cases ine (ix (ix h.Mons m mZ).Outer p sZ).Page (-1)<;>exact ⟨rfl,rfl⟩
theorem zen {h:Host}{m k:Int}{x:Mon}(hm:hasB m (ln h.Mons)=true):hasB m (ln (up h.Mons k x))=true:=by simpa [ln] using hm
theorem zJb {h:Host}{m k p:Int}{s:Slot}(hm:hasB m (ln h.Mons)=true):hasB m (ln (zdX h k p s).Mons)=true:=by
 rw[(zgk h k p s).1];exact zen hm
theorem zdc {α:Type}{l:List α}{p:Int}(h:l.length=8)(hp:hasB p 8=true):hasB p (ln l)=true:=by rw[ln,h];exact hp
def zBe (h:Host)(m p:Int)(s:Slot):Host :=
 bif ine s.Page (-1) then ⟨h.Memory,up h.Mons m (ziR (ix h.Mons m mZ) p (ix h.Mons m mZ).Guests.length),flushed h.Buffer s.Page,flushed h.IoBuffer s.Page⟩
 else ⟨h.Memory,up h.Mons m (ziR (ix h.Mons m mZ) p (ix h.Mons m mZ).Guests.length),h.Buffer,h.IoBuffer⟩
theorem zBF {h:Host}{k:Nat}{p:Int}{s:Slot}(hk:k<h.Mons.length)(ht:(ix h.Mons (k:Int) mZ).Tables.length=(ix h.Mons (k:Int) mZ).Guests.length) :
 zBe { h with Mons:=up h.Mons (k:Int) { ix h.Mons (k:Int) mZ with Outer:=up (ix h.Mons (k:Int) mZ).Outer p s } } (k:Int) p (ix (ix h.Mons (k:Int) mZ).Outer p sZ)=zdX h (k:Int) p s:=by
 unfold zdX zBe;simp only[zcX hk,zqr,ziR,ht]
def z3o {ρ:Type}(m p:Int)(i:Nat)(t:List Mon)(κ:List Mon->Option ρ):Option ρ :=
 (cond (inb (i:Int) (ln (ix t m mZ).Tables)) (cond (inb (i:Int) (ln (ix t m mZ).Guests)) (cond (pc (SmK (ix (ix t m mZ).Tables (i:Int) zcU)/\(ix (ix t m mZ).Guests (i:Int) zo).Live.length<=1048576)) (cond (inb (i:Int) (ln (ix t m mZ).Tables)) (κ (up t m ({ (ix t m mZ) with Tables:=(up (ix t m mZ).Tables (i:Int) (zo3 (ix (ix t m mZ).Tables (i:Int) zcU) (ix (ix t m mZ).Guests (i:Int) zo).Live p)) }:Mon))) none) none) none) none)
theorem z1X {ρ:Type}{mons:List Mon}{k:Nat}(hk:k<mons.length)(p:Int)(hm:zes (ix mons (k:Int) mZ))(ht:(ix mons (k:Int) mZ).Tables.length=(ix mons (k:Int) mZ).Guests.length)(K:List Mon->Option ρ) :
 ∀(n i:Nat),i+n=(ix mons (k:Int) mZ).Guests.length->goN (fun i t κ=>z3o (k:Int) p i t κ) K n i (up mons (k:Int) (ziR (ix mons (k:Int) mZ) p i))=K (up mons (k:Int) (ziR (ix mons (k:Int) mZ) p (ix mons (k:Int) mZ).Guests.length))
 | 0,i,h=>by
  have:i=(ix mons (k:Int) mZ).Guests.length:=by omega
  subst this;rfl
 | n+1,i,h=>by
  have hi3:i<(ix mons (k:Int) mZ).Guests.length:=by omega
  have hi2:i<(zrn (ix mons (k:Int) mZ).Guests p i (ix mons (k:Int) mZ).Tables).length:=by rw[zop];omega
  have hf:pc (SmK (ix (zrn (ix mons (k:Int) mZ).Guests p i (ix mons (k:Int) mZ).Tables) (i:Int) zcU)/\(ix (ix mons (k:Int) mZ).Guests (i:Int) zo).Live.length<=1048576)=true :=
   zbf ⟨by rw[zbc hi2];exact (zs9 _ _ _ _ (by omega) hm.2.2.2.2.2).2 _ (jC hi2),by rw[zbc hi3];exact (hm.2.2.2.1.2 _ (jC hi3)).2.2.1⟩
  simp only[goN,z3o,zcX hk,zqr,ziR,zQ hi2,zQ hi3,hf,cT];exact z1X hk p hm ht K n (i+1) (by omega)
@[simp] abbrev zef (h:Host)(m p:Int)(s:Slot):Bool:=pc (Shape h/\hasB m (ln h.Mons)=true)
@[simp] abbrev zeg (h:Host)(m p:Int)(s:Slot):Host:=zBe h m p s
def zmU:List CV->List AV->Option (Bool×List CV×List AV)
 | [.s (.sl .int) b,.s .mon c,.s .entry d,.s .entry e],[.one (.i .i64 f),.one (.i .i64 g),.agg [.i .i64 h,.i .i64 j]]=>some ((zef (⟨b,c,d,e⟩:Host) f g (⟨h,j⟩:Slot)),zS (zeg (⟨b,c,d,e⟩:Host) f g (⟨h,j⟩:Slot)),[])
 | _,_=>none
def zqw (N:Nat)(c:Host)(a0 a1:Int)(a2:Slot):OA:=
 (oN (inb a0 (ln c.Mons)) (iter (σ:=(Int×(Int×(Int×(Int×(Int×(Int×(lN×(lM×(lE×(lE×Unit))))))))))) N (fun r5 s6=>let y7:=s6.2.2.2.2.2.2.2.1;let y5:=s6.2.2.2.2.2.2.1;let y4:=s6.2.2.2.2.1;let y3:=s6.2.2.2.2.2.2.2.2.1;let y2:=s6.2.2.2.2.2.2.2.2.2.1;let y1:=s6.2.2.2.1;let y0:=(ix y5 s6.2.1 zh);let y8:=(ix y0.Tables y1 zcU);let y6:=(ix y0.Guests y1 zo).Live; (cond (ilt y1 s6.2.2.1) (oN (inb y1 (ln y0.Tables)) (oN (inb y1 (ln y0.Guests)) (oN (zi7 y8 y6 s6.1) (oN (inb y1 (ln y0.Tables)) (share (up y5 s6.2.1 ({ y0 with Tables:=(up y0.Tables y1 (zpa y8 y6 s6.1)) }:Mon)) (fun x7=>(r5 (s6.1,(s6.2.1,(s6.2.2.1,((zD .i64 y1 1),(y4,(s6.2.2.2.2.2.1,(x7,(y7,(y3,(y2,()))))))))))))))))) (cond (ine y4 (-1)) (oN (zd6 y3 y4) (oN (zd6 y2 y4) (some [(aH (⟨y7,y5,(zgU y3 y4),(zgU y2 y4)⟩:Host))]))) (some [(aH (⟨y7,y5,y3,y2⟩:Host))])))) (a1,(a0,((ln (ix c.Mons a0 zh).Guests),(0,(a2.Page,(a2.Rights,(c.Mons,(c.Memory,(c.Buffer,(c.IoBuffer,()))))))))))))
def zL0:FuncId->Nat->Option Tmpl:=zk [(100,0,{ n:=71,tm:=[(0,.lp 0 0),(2,ti),(7,.lp 1 0),(8,.ep 0 [] 0),(20,ti),(21,ti)],lo:=[(0,[.sl 1 [],.sl 0 [],.sl 2 [],.sl 3 []]),(1,[ti,ti])],ro:=[(0,.mon,true),(1,(.sl .int),true),(2,.entry,true),(3,.entry,true)] })]
theorem zO7 (N:Nat)(c:Host)(a0 a1:Int)(a2:Slot):zfW (cQ zrD zpD zLK zZy) zL0 N 12 100 [true,true,true,true] (zS c) [aI a0,aI a1,aT .slot a2]=zqw N c a0 a1 a2:=by kernel_rfl
theorem zLs (c:Host)(a0 a1:Int)(a2:Slot)(hb:zbC big (.agg (zS c) :: [aI a0,aI a1,aT .slot a2]))(hc:zef c a0 a1 a2=true):∃N,zqw N c a0 a1 a2=some (.agg (zS (zeg c a0 a1 a2)) :: []):=by
 obtain ⟨hs,hm⟩:=zy.1 hc;obtain ⟨g1,g2⟩:=zb7 hs hm;have hg:(ix c.Mons a0 mZ).Guests.length<=big:=(zb4 g1.2.2.2.1.1).1;refine zbV fun N hNN=>?_;unfold zqw oN
 conv=>zeta
 refine must (zx hm) ?_;refine (zbb ((ix c.Mons a0 zh).Guests) (fun i (t:lN)=>(a1,a0,(ln (ix c.Mons a0 zh).Guests),(i:Int),a2.Page,a2.Rights,t,c.Memory,c.Buffer,c.IoBuffer,())) _ (fun i (x:Guest) (t:List Mon) κ=>z3o a0 a1 i t κ) (fun (t:lN)=>(cond (ine a2.Page (-1)) (cond (zd6 c.Buffer a2.Page) (cond (zd6 c.IoBuffer a2.Page) (some [(.agg (zS (⟨c.Memory,t,(zgU c.Buffer a2.Page),(zgU c.IoBuffer a2.Page)⟩:Host)))]) none) none) (some [(.agg (zS (⟨c.Memory,t,c.Buffer,c.IoBuffer⟩:Host)))]))) (fun i hi t rec=>?_) (fun t rec=>?_) _ (c.Mons) (hNN hg)).trans ?_
 .simp only [zbi hi,zQ hi,zbc hi,zU hi hg,cT];rfl
 .simp only [zbe,cF]
 obtain ⟨k,rfl,hk⟩:=zds (n:=c.Mons.length) hm;rw[zzp (fun i t κ=>z3o (k:Int) a1 i t κ)];have e0:c.Mons=up c.Mons (k:Int) (ziR (ix c.Mons (k:Int) mZ) a1 0):=(zHa hk _).symm;refine (congrArg _ e0).trans ((z1X hk a1 g1 g2.2.2.2 _ _ 0 (j9 _)).trans ?_)
 show (cond (ine a2.Page (-1)) _ _)=some [AV.agg (zS (zBe c (k:Int) a1 a2))]
 unfold zBe;cases ine a2.Page (-1)
 .rfl
 .exact must rfl (must (zbf hs.1.2.2.1) (must (zbf hs.1.2.2.2) rfl))
theorem zEX:zdp Tryz.prog 100 [true,true,true,true] zmU:=by
 refine zbW (zcD zhq zi zl zcQ) (zdT (by kernel_rfl)) ?_
 intro cs avs cs' rs hl hr h;have hb:=zb9 hr;unfold zmU at h;split at h
 .obtain ⟨hc,rfl,rfl⟩:=zcj h;obtain ⟨N,hN⟩:=zLs _ _ _ _ (by exact hb) hc
  exact ⟨rfl,_,N,12,(zO7 N _ _ _ _ ).trans hN⟩
 .cases h
def z3K:zdq:=[(100,([true,true,true,true],zmU))]++zLK
theorem zSB:zck z3K:=zdR zl (by
 intro x hx;simp only[qI,qX,or_false]at hx;rcases hx with rfl
 .exact zEX)
def zf2 (h:Host)(m p:Int):Host:={ h with Mons:=up h.Mons m { ix h.Mons m mZ with Out:=up (ix h.Mons m mZ).Out p (zie h.Memory (ix (ix h.Mons m mZ).Outer p sZ).Page) } }
def zfu (h:Host)(m p:Int):Host:=zdX (zf2 h m p) m p noSlot
theorem zZq {m:List (List Int)}{p:Int}(h:SmM m):(zie m p).length<=1048576:=by
 unfold zie;cases hh:hasB p (ln m)
 .exact (by decide:zBP.length<=1048576)
 .exact h.2 _ (zbt hh _)
theorem zyS {h:Host}{m p:Int}(hs:Shape h)(hm:hasB m (ln h.Mons)=true):Shape (zf2 h m p):=by
 obtain ⟨g1,g2⟩:=zb7 hs hm;exact ziP hs ⟨g1.1,zPE g1.2.1 (zZq hs.1.1),g1.2.2⟩ ⟨g2.1,by simpa using g2.2.1,g2.2.2⟩
theorem zPA {h:Host}{m p:Int}(hs:Shape h)(hm:hasB m (ln h.Mons)=true):Shape (zfu h m p):=ztV (zen hm) (zyS hs hm)
@[simp] abbrev zuJ (h:Host)(m p:Int):Bool:=pc (Shape h/\hasB m (ln h.Mons)=true/\hasB p 8=true)
@[simp] abbrev zBD (h:Host)(m p:Int):Host:=zfu h m p
def zwc:List AV->Option (Bool×List AV)
 | [.agg [.s (.sl .int) b,.s .mon c,.s .entry d,.s .entry e],.one (.i .i64 f),.one (.i .i64 g)]=>some ((zuJ (⟨b,c,d,e⟩:Host) f g),[aH (zBD (⟨b,c,d,e⟩:Host) f g)])
 | _=>none
def zAC (N:Nat)(a0:Host)(a1 a2:Int):OA:=
 let y0:=(ix a0.Mons a1 zh);let y1:=(ix y0.Outer a2 zK).Page; (oN (inb a1 (ln a0.Mons)) (oN (inb a1 (ln a0.Mons)) (oN (inb a2 (ln y0.Outer)) (oN (zBv a0.Memory y1) (oN (inb a2 (ln y0.Out)) (share (up a0.Mons a1 ({ y0 with Out:=(up y0.Out a2 (zBu a0.Memory y1)) }:Mon)) (fun x4=>let y2:=({ a0 with Mons:=x4 }:Host); (oN zcg (oN (ze6 y2 a1 a2 zbs) (some [(aH (zg7 y2 a1 a2 zbs))]))))))))))
theorem z02 (N:Nat)(a0:Host)(a1 a2:Int):zGN (cQ zrD zpD z3K zZy) (zk []) N 12 253 [true,true,true,true,false,false] 1 1 [[0],[1],[2],[4],[7]] .mon [aH a0,aI a1,aI a2]=zAC N a0 a1 a2:=by kernel_rfl
theorem zYy (a0:Host)(a1 a2:Int)(hb:zbC big [aH a0,aI a1,aI a2])(hc:zuJ a0 a1 a2=true):∃N,zAC N a0 a1 a2=some [aH (zBD a0 a1 a2)]:=by
 obtain ⟨hs,hm,hp⟩:=zy.1 hc;obtain ⟨g1,g2⟩:=zb7 hs hm;obtain ⟨k,rfl,hk⟩:=zds (n:=a0.Mons.length) hm;have hS:=zyS (p:=a2) hs hm;refine ⟨0,?_⟩;unfold zAC oN
 conv=>zeta
 refine must (zx hm) (must (zx hm) (must (zx (zdc g2.1 hp)) (must (zbf ((zqB _).2 hs.1.1)) (must (zx (zdc g2.2.1 hp)) (shr (must rfl (must (zbf ⟨(zF _).2 hS.1,zen hm,?_,?_⟩) rfl)))))))
 .simp only [zcX hk];exact zdc g2.1 hp
 .simp only [zcX hk];exact u3 g2.2.2.2
theorem zRk:zdY Tryz.prog 253 [true,true,true,true,false,false] (some (1,1,[[0],[1],[2],[4],[7]])) zwc:=by
 refine zl8 (kt:=.mon) (zcD zhq zi zSB zcQ) (zdT (by kernel_rfl)) (by kernel_rfl) ?_
 intro avs rs hl hr h;have hb:=zi1 hr;unfold zwc at h;split at h
 .obtain ⟨hc,rfl⟩:=zdO h;obtain ⟨N,hN⟩:=zYy _ _ _ (by exact hb) hc
  exact ⟨⟨_,rfl⟩,rfl,_,N,12,(z02 N _ _ _ ).trans hN⟩
 .cases h
@[simp] abbrev zBc (h:Host)(m p:Int):Bool:=pc (Shape h/\hasB m (ln h.Mons)=true/\hasB p 8=true)
@[simp] abbrev zBd (h:Host)(m p:Int):Host:=zfu h m p
def zyA:List CV->List AV->Option (Bool×List CV×List AV)
 | [.s (.sl .int) b,.s .mon c,.s .entry d,.s .entry e],[.one (.i .i64 f),.one (.i .i64 g)]=>some ((zBc (⟨b,c,d,e⟩:Host) f g),zS (zBd (⟨b,c,d,e⟩:Host) f g),[])
 | _,_=>none
def zJ2 (N:Nat)(c:Host)(a0 a1:Int):OA:=
 let y0:=(ix c.Mons a0 zh);let y1:=(ix y0.Outer a1 zK); (oN (inb a0 (ln c.Mons)) (oN (inb a1 (ln y0.Outer)) (oN (zjU c.Memory y1.Page) (oN (inb a1 (ln y0.Out)) (share (up c.Mons a0 ({ y0 with Out:=(up y0.Out a1 (zn3 c.Memory y1.Page)) }:Mon)) (fun x4=>let y2:=(ix x4 a0 zh); (oN zc0 (oN (inb a1 (ln y2.Outer)) (share (up x4 a0 ({ y2 with Outer:=(up y2.Outer a1 zcm) }:Mon)) (fun x5=>let y3:=({ c with Mons:=x5 }:Host); (oN (zef y3 a0 a1 y1) (some [(aH (zeg y3 a0 a1 y1))]))))))))))))
theorem z6d (N:Nat)(c:Host)(a0 a1:Int):zfW (cQ zrD zpD z3K zZy) (zk []) N 12 98 [true,true,true,true] (zS c) [aI a0,aI a1]=zJ2 N c a0 a1:=by kernel_rfl
theorem z3x (c:Host)(a0 a1:Int)(hb:zbC big (.agg (zS c) :: [aI a0,aI a1]))(hc:zBc c a0 a1=true):∃N,zJ2 N c a0 a1=some (.agg (zS (zBd c a0 a1)) :: []):=by
 obtain ⟨hs,hm,hp⟩:=zy.1 hc;obtain ⟨g1,g2⟩:=zb7 hs hm;obtain ⟨k,rfl,hk⟩:=zds (n:=c.Mons.length) hm;have hS:=zyS (p:=a1) hs hm;have hm':hasB (k:Int) (ln (zf2 c (k:Int) a1).Mons)=true:=zen hm;have hk':k<(zf2 c (k:Int) a1).Mons.length:=by simpa [zf2] using hk
 have ex:ix (zf2 c (k:Int) a1).Mons (k:Int) mZ={ ix c.Mons (k:Int) mZ with Out:=up (ix c.Mons (k:Int) mZ).Out a1 (zie c.Memory (ix (ix c.Mons (k:Int) mZ).Outer a1 sZ).Page) }:=zcX hk _ _;have hX:Shape { zf2 c (k:Int) a1 with Mons:=up (zf2 c (k:Int) a1).Mons (k:Int) { ix (zf2 c (k:Int) a1).Mons (k:Int) mZ with Outer:=up (ix (zf2 c (k:Int) a1).Mons (k:Int) mZ).Outer a1 noSlot } }:=by
  obtain ⟨q1,q2⟩:=zb7 hS hm';exact ziP hS ⟨by simpa using q1.1,q1.2⟩ ⟨by simpa using q2.1,q2.2⟩
 refine ⟨0,?_⟩;unfold zJ2 oN
 conv=>zeta
 refine must (zx hm) (must (zx (zdc g2.1 hp)) (must (zbf ((zqB _).2 hs.1.1)) (must (zx (zdc g2.2.1 hp)) (shr (must rfl (must ?_ (shr (must (zbf ⟨hX,zen hm'⟩) ?_))))))))
 .rw [zcX hk];exact zx (zdc g2.1 hp)
 .have:=zBF (p:=a1) (s:=noSlot) hk' (by rw[ex];exact g2.2.2.2)
  rw[ex] at this
  show some [AV.agg (zS (zBe { zf2 c (k:Int) a1 with Mons:=up (zf2 c (k:Int) a1).Mons (k:Int) { ix (zf2 c (k:Int) a1).Mons (k:Int) mZ with Outer:=up (ix (zf2 c (k:Int) a1).Mons (k:Int) mZ).Outer a1 noSlot } } (k:Int) a1 (ix (ix c.Mons (k:Int) mZ).Outer a1 sZ)))]=_
  rw[ex];exact congrArg (fun x=>some [AV.agg (zS x)]) this
theorem zXm:zdp Tryz.prog 98 [true,true,true,true] zyA:=by
 refine zbW (zcD zhq zi zSB zcQ) (zdT (by kernel_rfl)) ?_
 intro cs avs cs' rs hl hr h;have hb:=zb9 hr;unfold zyA at h;split at h
 .obtain ⟨hc,rfl,rfl⟩:=zcj h;obtain ⟨N,hN⟩:=z3x _ _ _ (by exact hb) hc
  exact ⟨rfl,_,N,12,(z6d N _ _ _ ).trans hN⟩
 .cases h
def z3L:zdq:=[(98,([true,true,true,true],zyA))]++z3K
theorem zSC:zck z3L:=zdR zSB (by
 intro x hx;simp only[qI,qX,or_false]at hx;rcases hx with rfl
 .exact zXm)
def z4z:ze9:=[(253,([true,true,true,true,false,false],(some (1,1,[[0],[1],[2],[4],[7]])),zwc))]++zZy
theorem zSO:zdZ z4z:=zro zcQ (by
 intro x hx;simp only[qI,qX,or_false]at hx;rcases hx with rfl
 .exact zRk)
def cz (l:List Slot):Nat:=l.countP fun s=>ieq s.Page 0
def zH:List Mon->Nat
 | []=>0
 | m :: l=>cz m.Outer+zH l
def bit (u:List Bool):Nat:=bif ix u 0 false then 1 else 0
theorem zzm (s:Slot)(l:List Slot):cz (s :: l)=cz l+bif ieq s.Page 0 then 1 else 0:=by
 unfold cz;rw[List.countP_cons];cases ieq s.Page 0<;>rfl
theorem zbcb {u:List Bool}{p:Int}(hp:0<=p)(hlt:p.toNat<u.length)(x:Bool):ix (up u p x) 0 false=bif ieq p 0 then x else ix u 0 false:=by
 unfold ix up;cases h:ieq p 0
 .have:p≠0:=by simpa [ieq] using h
  have hne:p.toNat≠0:=by omega
  simp[List.getD,jG,hne]
 .have:p=0:=by simpa [ieq] using h
  subst this;have hlt:0<u.length:=hlt;simp[List.getD,jG,hlt]
theorem zGF:∀(l:List Slot) (u u':List Bool),(∀s∈l,s.Page<12)->u.length=12->zjx l u=some u'->cz l+bit u=bit u'
 | [],u,u',_,_,h=>by cases h;simp[cz]
 | s :: l,u,u',hs,hu,h=>by
  simp only[zjx]at h;rw[zzm];cases h1:ilt s.Page 0
  .have h1:=qV h1;rw[show ilt s.Page 0=false from qH (by omega)]at h
   simp only[cF]at h;cases h2:ix u s.Page false
   .rw [h2]at h;simp only[cF]at h;have hlt:s.Page.toNat<u.length:=by have:=hs s (by simp);omega
    have ih:=zGF l _ u' (fun t ht=>hs t (by simp[ht])) (by simpa using hu) h
    have e:bit (up u s.Page true)=bif ieq s.Page 0 then 1 else bit u:=by
     unfold bit;rw[zbcb (by omega) hlt]
     cases ieq s.Page 0<;>rfl
    rw[e] at ih;cases h3:ieq s.Page 0
    .rw [h3] at ih;simp only[cF] at ih ⊢;omega
    .have h4:s.Page=0:=by simpa [ieq] using h3
     rw[h4]at h2;have:bit u=0:=by unfold bit;rw[h2];rfl
     rw[h3] at ih;simp only[cT] at ih ⊢;omega
   .rw [h2]at h;cases h
  .have h1':=qD h1;rw[h1]at h;simp only[cT]at h;have ih:=zGF l u u' (fun t ht=>hs t (by simp[ht])) hu h
   have:ieq s.Page 0=false:=by simp[ieq];omega
   rw[this];simpa using ih
theorem zXq:∀(l:List Mon) (u:List Bool),u.length=12->zm6 l u=true->zH l+bit u<=1
 | [],u,_,_=>by unfold zH bit;cases ix u 0 false<;>simp
 | m :: l,u,hu,h=>by
  simp only[zm6]at h;cases h1:zeu m
  .rw [h1]at h;cases h
  .rw [h1]at h;simp only[cT]at h;cases h2:zjx m.Outer u with
   | none=>rw[h2]at h;cases h
   | some u' =>
    rw[h2]at h;have e:=zGF _ _ _ (zG5 (znq h1)) hu h2;have ih:=zXq l u' ((zqs _ _ _ h2).trans hu) h;simp only[zH];omega
theorem z5w:∀(l:List Slot) (b:Nat) (s:Slot),l[b]?=some s->s.Page=0->cz (l.set b noSlot)+1=cz l
 | [],b,s,h,_=>by simp at h
 | t :: l,0,s,h,hs=>by
  simp only[qG,qC]at h;subst h;rw[List.set_cons_zero,zzm,zzm];have:ieq t.Page 0=true:=by simp[ieq,hs]
  rw[this];rfl
 | t :: l,b+1,s,h,hs=>by
  rw[List.set_cons_succ,zzm,zzm];have:=z5w l b s (by simpa using h) hs
  omega
theorem zZ5:∀(l:List Mon) (a:Nat) (x y:Mon),l[a]?=some x->zH (l.set a y)+cz x.Outer=zH l+cz y.Outer
 | [],a,x,y,h=>by simp at h
 | m :: l,0,x,y,h=>by
  simp only[qG,qC]at h;subst h;rw[List.set_cons_zero];simp only[zH];omega
 | m :: l,a+1,x,y,h=>by
  rw[List.set_cons_succ];have:=zZ5 l a x y (by simpa using h)
  simp only[zH];omega
theorem z3c {l:List Slot}(h:cz l=0):zAR l 0=none:=by
 unfold zAR;rw[List.findIdx?_eq_none_iff];intro s hs;have:=(List.countP_eq_zero.1 h) s hs;simpa using this
theorem zPc:∀(l:List Mon) (i:Nat),zH l=0->znQ 0 l i=(-1,-1)
 | [],_,_=>rfl
 | m :: l,i,h=>by
  simp only[zH]at h;simp only[znQ];rw[z3c (by omega)]
  exact zPc l (i+1) (by omega)
theorem z3d {l:List Slot}{k:Nat}(h:zAR l 0=some k):∃s,l[k]?=some s/\s.Page=0:=by
 unfold zAR at h;rw[List.findIdx?_eq_some_iff_getElem]at h;obtain ⟨hlt,h1,_⟩:=h;exact ⟨l[k],qB hlt,by simpa [ieq] using h1⟩
theorem zJg:∀(l:List Mon) (i:Nat),znQ 0 l i=(-1,-1)\/∃a b x s,znQ 0 l i=(((i+a:Nat):Int),((b:Nat):Int))/\l[a]?=some x/\x.Outer[b]?=some s/\s.Page=0
 | [],_=>.inl rfl
 | m :: l,i=>by
  simp only[znQ];cases h:zAR m.Outer 0 with
  | none =>
   rcases zJg l (i+1) with h1|⟨a,b,x,s,h1,h2,h3,h4⟩
   .exact .inl h1
   .refine .inr ⟨a+1,b,x,s,?_,by simpa using h2,h3,h4⟩
    have e:i+1+a=i+(a+1):=by omega
    rw[h1,e]
  | some k =>
   obtain ⟨s,h1,h2⟩:=z3d h;exact .inr ⟨0,k,m,s,rfl,rfl,h1,h2⟩
def Fit (h:Host):Prop:=Shape h/\0<h.Memory.length/\zH h.Mons<=1
theorem zI9 {h:Host}(hm:0<h.Memory.length)(ho:ilt (zdy h 0).1 0=true):inb 0 (ln (zcz h))=true:=by
 unfold zcz;obtain ⟨n,hn⟩:∃n,h.Memory.length=n+1:=⟨h.Memory.length-1,by omega⟩
 rw[hn];simp only[zLg];rw[show ilt (zdy h ((0:Nat):Int)).1 0=true from ho]
 exact qK (by simp only[cT,ln,qW];omega)
theorem z3i {h:Host}(hm:0<h.Memory.length)(h0:ieq (ln (zcz h)) 0=true):ilt (zdy h 0).1 0=false:=by
 cases ho:ilt (zdy h 0).1 0
 .rfl
 .have h1:=qD (zI9 hm ho);have h2:ln (zcz h)=0:=by simpa [ieq] using h0
  omega
def zdw (h:Host):Host:=bif ieq (ln (zcz h)) 0 then zfu h (zdy h 0).1 (zdy h 0).2 else h
structure Room (h r:Host):Prop where
 shape:Shape r
 free:inb 0 (ln (zcz r))=true
 len:r.Mons.length=h.Mons.length
 outer:∀m,(ix r.Mons m mZ).Outer.length=8\/True
theorem z6h {h:Host}(hf:Fit h)(h0:ieq (ln (zcz h)) 0=true):∃(a b:Nat) (x:Mon) (s:Slot),zdy h 0=((a:Int),(b:Int))/\h.Mons[a]?=some x/\x.Outer[b]?=some s/\s.Page=0:=by
 have h1:=z3i hf.2.1 h0;have e:zdy h 0=znQ 0 h.Mons 0:=rfl;rcases zJg h.Mons 0 with h2|⟨a,b,x,s,h2,h3⟩
 .rw [e,h2]at h1;cases h1
 .exact ⟨a,b,x,s,by rw[e,h2,j9],h3⟩
theorem zGZ {h:Host}(hf:Fit h)(h0:ieq (ln (zcz h)) 0=true):hasB (zdy h 0).1 (ln h.Mons)=true/\hasB (zdy h 0).2 8=true:=by
 obtain ⟨a,b,x,s,h1,h2,h3,h4⟩:=z6h hf h0;rw[h1];have ha:=(qA.1 h2).1;have hb:=(qA.1 h3).1;have hx:=hf.1.2 x (qL h2);refine ⟨qK (by simp only[ln];omega),qK ?_⟩
 have:=hx.1
 show 0<=(b:Int)/\(b:Int)<8
 omega
theorem room {h:Host}(hf:Fit h):Room h (zdw h):=by
 unfold zdw;cases h0:ieq (ln (zcz h)) 0
 .refine ⟨hf.1,qK ?_,rfl,fun _=>.inr trivial⟩;have:ln (zcz h)≠0:=by simpa [ieq] using h0
  show 0<=(0:Int)/\(0:Int)<ln (zcz h)
  simp only[ln] at *;omega
 .obtain ⟨hm,hp⟩:=zGZ hf h0;obtain ⟨a,b,x,s,h1,h2,h3,h4⟩:=z6h hf h0;simp only[cT];rw[h1]at hm hp ⊢;have ha:=(qA.1 h2).1;have hb:=(qA.1 h3).1;have hxa:ix h.Mons (a:Int) mZ=x:=by rw[zbc ha];exact (qA.1 h2).2
  have hmons:=(zgk (zf2 h (a:Int) (b:Int)) (a:Int) (b:Int) noSlot).1;have ex:ix (zf2 h (a:Int) (b:Int)).Mons (a:Int) mZ={ x with Out:=up x.Out (b:Int) (zie h.Memory (ix x.Outer (b:Int) sZ).Page) }:=by
   unfold zf2;rw[zcX ha,hxa]
  obtain ⟨y,hM,hy⟩:∃y,(zfu h (a:Int) (b:Int)).Mons=h.Mons.set a y/\y.Outer=x.Outer.set b noSlot:=by
   unfold zfu;rw[hmons,ex];unfold zf2;rw[zqr];exact ⟨_,by simp[up];rfl,by simp[up]⟩
  have hz:zH (zfu h (a:Int) (b:Int)).Mons=0:=by
   have e1:=zZ5 h.Mons a x y h2;have e2:=z5w x.Outer b s h3 h4;have e3:=hf.2.2;rw[hM];rw[hy] at e1;omega
  have hmem:(zfu h (a:Int) (b:Int)).Memory=h.Memory:=(zgk (zf2 h (a:Int) (b:Int)) (a:Int) (b:Int) noSlot).2;refine ⟨zPA hf.1 hm,zI9 (by rw[hmem];exact hf.2.1) ?_,by rw[hM];simp,fun _=>.inr trivial⟩
  have e:zdy (zfu h (a:Int) (b:Int)) 0=znQ 0 (zfu h (a:Int) (b:Int)).Mons 0:=rfl;rw[e,zPc _ _ hz];rfl
theorem zZr {m:List (List Int)}{p:Int}{c:List Int}(h:SmM m)(hc:c.length<=1048576):SmM (zj8 m p c):=by
 unfold zj8;cases hasB p (ln m)
 .exact h
 .cases zcH c
  .exact h
  .exact zPE h hc
def landing (r:Host)(m p to:Int):Host:={ r with Memory:=zj8 r.Memory to (ix (ix r.Mons m mZ).Out p []),Mons:=up r.Mons m { ix r.Mons m mZ with Out:=up (ix r.Mons m mZ).Out p [] } }
def zla (r:Host)(m p to:Int):Host:=zdX (landing r m p to) m p ⟨to,3⟩
def fetched (h:Host)(m p:Int):Host:=zla (zdw h) m p (ix (zcz (zdw h)) 0 0)
theorem zZt {r:Host}{m p:Int}(hr:Shape r)(hm:hasB m (ln r.Mons)=true)(hp:hasB p 8=true):(ix (ix r.Mons m mZ).Out p []).length<=1048576:=by
 obtain ⟨g1,g2⟩:=zb7 hr hm;exact g1.2.1.2 _ (zbt (zdc g2.2.1 hp) _)
theorem ztU {r:Host}{m p to:Int}(hr:Shape r)(hm:hasB m (ln r.Mons)=true)(hp:hasB p 8=true):Shape (landing r m p to):=by
 obtain ⟨g1,g2⟩:=zb7 hr hm;exact zUg (h:={ r with Mons:=up r.Mons m { ix r.Mons m mZ with Out:=up (ix r.Mons m mZ).Out p [] } }) (ziP (x:={ ix r.Mons m mZ with Out:=up (ix r.Mons m mZ).Out p [] }) hr ⟨g1.1,zPE g1.2.1 (by simp),g1.2.2⟩ ⟨g2.1,by simpa using g2.2.1,g2.2.2⟩) (zZr hr.1.1 (zZt hr hm hp))
theorem zV5 {r:Host}{m p to:Int}(hr:Shape r)(hm:hasB m (ln r.Mons)=true)(hp:hasB p 8=true):Shape (zla r m p to):=ztV (zen hm) (ztU hr hm hp)
theorem zqY {h:Host}(hf:Fit h){m:Int}(hm:hasB m (ln h.Mons)=true):hasB m (ln (zdw h).Mons)=true:=by
 rw[ln,(room hf).len];exact hm
theorem zkr {h:Host}{m p:Int}(hf:Fit h)(hm:hasB m (ln h.Mons)=true)(hp:hasB p 8=true):Shape (fetched h m p)/\hasB m (ln (fetched h m p).Mons)=true :=
 ⟨zV5 (room hf).shape (zqY hf hm) hp,zJb (zen (zqY hf hm))⟩
@[simp] abbrev zx7 (h:Host)(m p:Int):Bool:=pc (Fit h/\hasB m (ln h.Mons)=true/\hasB p 8=true)
@[simp] abbrev zAx (h:Host)(m p:Int):Host:=fetched h m p
def zyC:List AV->Option (Bool×List AV)
 | [.agg [.s (.sl .int) b,.s .mon c,.s .entry d,.s .entry e],.one (.i .i64 f),.one (.i .i64 g)]=>some ((zx7 (⟨b,c,d,e⟩:Host) f g),[aH (zAx (⟨b,c,d,e⟩:Host) f g)])
 | _=>none
def zEp (N:Nat)(a0:Host)(a1 a2:Int):OA:=
 let y6:=(ix (zfg a0) 0 0);let y2:=(ix a0.Mons a1 zh);let y0:=(zBD a0 (zgx a0 0) (zii a0 0));let y5:=(ix (zfg y0) 0 0);let y1:=(ix y0.Mons a1 zh); (oN (zmy a0) (cond (ieq (ln (zfg a0)) 0) (oN (zk2 a0 0) (oN (zuJ a0 (zgx a0 0) (zii a0 0)) (oN (zmy y0) (oN (inb 0 (ln (zfg y0))) (oN (inb a1 (ln y0.Mons)) (oN (inb a2 (ln y1.Out)) (oN (zlJ y0.Memory y5 (ix y1.Out a2 [])) (oN (inb a1 (ln y0.Mons)) (oN (inb a2 (ln y1.Out)) (share (up y0.Mons a1 ({ y1 with Out:=(up y1.Out a2 []) }:Mon)) (fun x4=>let y3:=({ y0 with Memory:=(zj5 y0.Memory y5 (ix y1.Out a2 [])),Mons:=x4 }:Host); (oN (ze6 y3 a1 a2 (⟨y5,3⟩:Slot)) (some [(aH (zg7 y3 a1 a2 (⟨y5,3⟩:Slot)))]))))))))))))) (oN (zmy a0) (oN (inb 0 (ln (zfg a0))) (oN (inb a1 (ln a0.Mons)) (oN (inb a2 (ln y2.Out)) (oN (zlJ a0.Memory y6 (ix y2.Out a2 [])) (oN (inb a1 (ln a0.Mons)) (oN (inb a2 (ln y2.Out)) (share (up a0.Mons a1 ({ y2 with Out:=(up y2.Out a2 []) }:Mon)) (fun x4=>let y4:=({ a0 with Memory:=(zj5 a0.Memory y6 (ix y2.Out a2 [])),Mons:=x4 }:Host); (oN (ze6 y4 a1 a2 (⟨y6,3⟩:Slot)) (some [(aH (zg7 y4 a1 a2 (⟨y6,3⟩:Slot)))])))))))))))))
theorem z3G (N:Nat)(a0:Host)(a1 a2:Int):zGN (cQ zrD zpD z3L z4z) (zk []) N 12 254 [true,true,true,true,false,false] 1 1 [[0],[1],[2],[4],[7]] .mon [aH a0,aI a1,aI a2]=zEp N a0 a1 a2:=by kernel_rfl
theorem z0P (a0:Host)(a1 a2:Int)(hb:zbC big [aH a0,aI a1,aI a2])(hc:zx7 a0 a1 a2=true):∃N,zEp N a0 a1 a2=some [aH (zAx a0 a1 a2)]:=by
 obtain ⟨hf,hm,hp⟩:=zy.1 hc;have tail:∀r,Shape r->inb 0 (ln (zcz r))=true->hasB a1 (ln r.Mons)=true->(cond (zmy r) (cond (inb 0 (ln (zfg r))) (cond (inb a1 (ln r.Mons)) (cond (inb a2 (ln (ix r.Mons a1 zh).Out)) (cond (zlJ r.Memory (ix (zfg r) 0 0) (ix (ix r.Mons a1 zh).Out a2 [])) (cond (inb a1 (ln r.Mons)) (cond (inb a2 (ln (ix r.Mons a1 zh).Out)) (share (up r.Mons a1 ({ (ix r.Mons a1 zh) with Out:=(up (ix r.Mons a1 zh).Out a2 []) }:Mon)) (fun x4=>(cond (ze6 ({ r with Memory:=(zj5 r.Memory (ix (zfg r) 0 0) (ix (ix r.Mons a1 zh).Out a2 [])),Mons:=x4 }:Host) a1 a2 (⟨(ix (zfg r) 0 0),3⟩:Slot)) (some [(AV.agg (zS (zg7 ({ r with Memory:=(zj5 r.Memory (ix (zfg r) 0 0) (ix (ix r.Mons a1 zh).Out a2 [])),Mons:=x4 }:Host) a1 a2 (⟨(ix (zfg r) 0 0),3⟩:Slot))))]) none))) none) none) none) none) none) none) none)=some [AV.agg (zS (zla r a1 a2 (ix (zcz r) 0 0)))]:=by
  intro r hr hfree hrm;obtain ⟨g1,g2⟩:=zb7 hr hrm;have hL:=ztU (to:=ix (zcz r) 0 0) hr hrm hp;obtain ⟨k,rfl,hk⟩:=zds (n:=r.Mons.length) hrm;refine must (zbf hr.1.1.1) (must hfree (must (zx hrm) (must (zx (zdc g2.2.1 hp)) (must (zbf ⟨hr.1.1,zZt hr hrm hp⟩) (must (zx hrm) (must (zx (zdc g2.2.1 hp)) (shr (must (zbf ⟨(zF _).2 hL.1,zen hrm,?_,?_⟩) rfl))))))))
  .simp only [zcX hk];exact zdc g2.1 hp
  .simp only [zcX hk];exact u3 g2.2.2.2
 have hR:=room hf;have hrm:=zqY hf hm;refine ⟨0,?_⟩;unfold zEp zAx fetched oN
 conv=>zeta
 refine must (zbf hf.1.1.1.1) ?_;cases h0:ieq (ln (zfg a0)) 0
 .have er:zdw a0=a0:=by unfold zdw;rw[show ieq (ln (zcz a0)) 0=false from h0];rfl
  rw[er]at hR hrm ⊢;exact tail a0 hR.shape hR.free hrm
 .obtain ⟨o1,o2⟩:=zGZ hf h0;have er:zdw a0=zfu a0 (zdy a0 0).1 (zdy a0 0).2:=by unfold zdw;rw[show ieq (ln (zcz a0)) 0=true from h0];rfl
  rw[er]at hR hrm ⊢;exact must rfl (must rfl (must (zbf ⟨hf.1,o1,o2⟩) (tail _ hR.shape hR.free hrm)))
theorem zUQ:zdY Tryz.prog 254 [true,true,true,true,false,false] (some (1,1,[[0],[1],[2],[4],[7]])) zyC:=by
 refine zl8 (kt:=.mon) (zcD zhq zi zSC zSO) (zdT (by kernel_rfl)) (by kernel_rfl) ?_
 intro avs rs hl hr h;have hb:=zi1 hr;unfold zyC at h;split at h
 .obtain ⟨hc,rfl⟩:=zdO h;obtain ⟨N,hN⟩:=z0P _ _ _ (by exact hb) hc
  exact ⟨⟨_,rfl⟩,rfl,_,N,12,(z3G N _ _ _ ).trans hN⟩
 .cases h
@[simp] abbrev ztq (h:Host):Bool:=pc (Shape h/\hasB (zdy h 0).1 (ln h.Mons)=true/\hasB (zdy h 0).2 8=true)
@[simp] abbrev ztr (h:Host):Host:=zfu h (zdy h 0).1 (zdy h 0).2
def zn8:List CV->List AV->Option (Bool×List CV×List AV)
 | [.s (.sl .int) b,.s .mon c,.s .entry d,.s .entry e],[]=>some ((ztq (⟨b,c,d,e⟩:Host)),zS (ztr (⟨b,c,d,e⟩:Host)),[])
 | _,_=>none
def zth (N:Nat)(c:Host)  : OA :=
 (oN (zkZ c 0) (oN (zBc c (zgs c 0) (zh5 c 0)) (some [(aH (zBd c (zgs c 0) (zh5 c 0)))])))
theorem zSx (N:Nat)(c:Host)  : zfW (cQ zrD zpD z3L z4z) (zk []) N 12 181 [true,true,true,true] (zS c) []=zth N c:=by kernel_rfl
theorem zOK (c:Host)(hb:zbC big (.agg (zS c) :: []))(hc:ztq c=true):∃N,zth N c=some (.agg (zS (ztr c)) :: []):=by
 have hs:=zy.1 hc;refine ⟨0,?_⟩;unfold zth oN;exact must rfl (must (zbf hs) rfl)
theorem zHn:zdp Tryz.prog 181 [true,true,true,true] zn8:=by
 refine zbW (zcD zhq zi zSC zSO) (zdT (by kernel_rfl)) ?_
 intro cs avs cs' rs hl hr h;have hb:=zb9 hr;unfold zn8 at h;split at h
 .obtain ⟨hc,rfl,rfl⟩:=zcj h;obtain ⟨N,hN⟩:=zOK _ (by exact hb) hc
  exact ⟨rfl,_,N,12,(zSx N _ ).trans hN⟩
 .cases h
def z8h:zdq:=[(181,([true,true,true,true],zn8))]++z3L
theorem z2c:zck z8h:=zdR zSC (by
 intro x hx;simp only[qI,qX,or_false]at hx;rcases hx with rfl
 .exact zHn)
def zZz:ze9:=[(254,([true,true,true,true,false,false],(some (1,1,[[0],[1],[2],[4],[7]])),zyC))]++z4z
theorem zG9:zdZ zZz:=zro zSO (by
 intro x hx;simp only[qI,qX,or_false]at hx;rcases hx with rfl
 .exact zUQ)
@[simp] abbrev zxb (h:Host)(m p:Int):Bool:=pc (Fit h/\hasB m (ln h.Mons)=true/\hasB p 8=true)
@[simp] abbrev zsQ (h:Host)(m p:Int):Host:=fetched h m p
theorem z2G {r:Host}{m p to:Int}(hr:Shape r)(hm:hasB m (ln r.Mons)=true):zBe { landing r m p to with Mons:=up (landing r m p to).Mons m { ix (landing r m p to).Mons m mZ with Outer:=up (ix (landing r m p to).Mons m mZ).Outer p ⟨to,3⟩ } } m p (ix (ix (landing r m p to).Mons m mZ).Outer p sZ)=zla r m p to:=by
 obtain ⟨g1,g2⟩:=zb7 hr hm;obtain ⟨k,rfl,hk⟩:=zds (n:=r.Mons.length) hm;refine zBF (h:=landing r (k:Int) p to) (by simpa [landing] using hk) ?_
 unfold landing;simp only[zcX hk];exact g2.2.2.2
theorem z1v {r:Host}{m p to:Int}(hr:Shape r)(hm:hasB m (ln r.Mons)=true)(hp:hasB p 8=true):Shape { landing r m p to with Mons:=up (landing r m p to).Mons m { ix (landing r m p to).Mons m mZ with Outer:=up (ix (landing r m p to).Mons m mZ).Outer p ⟨to,3⟩ } }:=by
 have hL:=ztU (to:=to) hr hm hp;obtain ⟨q1,q2⟩:=zb7 hL (zen hm);exact ziP hL ⟨by simpa using q1.1,q1.2⟩ ⟨by simpa using q2.1,q2.2⟩
def zvT:List CV->List AV->Option (Bool×List CV×List AV)
 | [.s (.sl .int) b,.s .mon c,.s .entry d,.s .entry e],[.one (.i .i64 f),.one (.i .i64 g)]=>some ((zxb (⟨b,c,d,e⟩:Host) f g),zS (zsQ (⟨b,c,d,e⟩:Host) f g),[])
 | _,_=>none
def zD1 (N:Nat)(c:Host)(a0 a1:Int):OA:=
 let y8:=(ix (zfL c) 0 0);let y6:=(ztr c);let y7:=(ix (zfL y6) 0 0);let y1:=(ix c.Mons a0 zh);let y0:=(ix y6.Mons a0 zh); (oN (zmd c) (cond (ieq (ln (zfL c)) 0) (oN (ztq c) (oN (inb a0 (ln y6.Mons)) (oN (zmd y6) (oN (inb 0 (ln (zfL y6))) (oN (inb a1 (ln y0.Out)) (oN (zlv y6.Memory y7 (ix y0.Out a1 [])) (oN (inb a1 (ln y0.Out)) (share (up y6.Mons a0 ({ y0 with Out:=(up y0.Out a1 []) }:Mon)) (fun x4=>let y2:=(ix x4 a0 zh);let y9:=(ix y2.Outer a1 zK); (oN (inb a1 (ln y2.Outer)) (oN (inb a1 (ln y2.Outer)) (share (up x4 a0 ({ y2 with Outer:=(up y2.Outer a1 (⟨y7,3⟩:Slot)) }:Mon)) (fun x5=>let y4:=({ y6 with Memory:=(zjX y6.Memory y7 (ix y0.Out a1 [])),Mons:=x5 }:Host); (oN (zef y4 a0 a1 y9) (some [(aH (zeg y4 a0 a1 y9))]))))))))))))))) (oN (inb a0 (ln c.Mons)) (oN (zmd c) (oN (inb 0 (ln (zfL c))) (oN (inb a1 (ln y1.Out)) (oN (zlv c.Memory y8 (ix y1.Out a1 [])) (oN (inb a1 (ln y1.Out)) (share (up c.Mons a0 ({ y1 with Out:=(up y1.Out a1 []) }:Mon)) (fun x4=>let y3:=(ix x4 a0 zh);let y10:=(ix y3.Outer a1 zK); (oN (inb a1 (ln y3.Outer)) (oN (inb a1 (ln y3.Outer)) (share (up x4 a0 ({ y3 with Outer:=(up y3.Outer a1 (⟨y8,3⟩:Slot)) }:Mon)) (fun x5=>let y5:=({ c with Memory:=(zjX c.Memory y8 (ix y1.Out a1 [])),Mons:=x5 }:Host); (oN (zef y5 a0 a1 y10) (some [(aH (zeg y5 a0 a1 y10))]))))))))))))))))
theorem z3E (N:Nat)(c:Host)(a0 a1:Int):zfW (cQ zrD zpD z8h zZz) (zk []) N 12 99 [true,true,true,true] (zS c) [aI a0,aI a1]=zD1 N c a0 a1:=by kernel_rfl
theorem z0A (c:Host)(a0 a1:Int)(hb:zbC big (.agg (zS c) :: [aI a0,aI a1]))(hc:zxb c a0 a1=true):∃N,zD1 N c a0 a1=some (.agg (zS (zsQ c a0 a1)) :: []):=by
 obtain ⟨hf,hm,hp⟩:=zy.1 hc;have tail:∀r,Shape r->inb 0 (ln (zcz r))=true->hasB a0 (ln r.Mons)=true->(cond (inb a0 (ln r.Mons)) (cond (zmd r) (cond (inb 0 (ln (zfL r))) (cond (inb a1 (ln (ix r.Mons a0 zh).Out)) (cond (zlv r.Memory (ix (zfL r) 0 0) (ix (ix r.Mons a0 zh).Out a1 [])) (cond (inb a1 (ln (ix r.Mons a0 zh).Out)) (share (up r.Mons a0 ({ (ix r.Mons a0 zh) with Out:=(up (ix r.Mons a0 zh).Out a1 []) }:Mon)) (fun x4=>(cond (inb a1 (ln (ix x4 a0 zh).Outer)) (cond (inb a1 (ln (ix x4 a0 zh).Outer)) (share (up x4 a0 ({ (ix x4 a0 zh) with Outer:=(up (ix x4 a0 zh).Outer a1 (⟨(ix (zfL r) 0 0),3⟩:Slot)) }:Mon)) (fun x5=>(cond (zef ({ r with Memory:=(zjX r.Memory (ix (zfL r) 0 0) (ix (ix r.Mons a0 zh).Out a1 [])),Mons:=x5 }:Host) a0 a1 (ix (ix x4 a0 zh).Outer a1 zK)) (some [(AV.agg (zS (zeg ({ r with Memory:=(zjX r.Memory (ix (zfL r) 0 0) (ix (ix r.Mons a0 zh).Out a1 [])),Mons:=x5 }:Host) a0 a1 (ix (ix x4 a0 zh).Outer a1 zK))))]) none))) none) none))) none) none) none) none) none) none)=some [AV.agg (zS (zla r a0 a1 (ix (zcz r) 0 0)))]:=by
  intro r hr hfree hrm;obtain ⟨g1,g2⟩:=zb7 hr hrm;have hL:=z1v (to:=ix (zcz r) 0 0) hr hrm hp;have hE:=z2G (p:=a1) (to:=ix (zcz r) 0 0) hr hrm;obtain ⟨k,rfl,hk⟩:=zds (n:=r.Mons.length) hrm;have hh:∀(x y:Mon),hasB (k:Int) (ln (up (up r.Mons (k:Int) x) (k:Int) y))=true:=fun x y=>by simpa [ln] using hrm
  have hi:inb a1 (ln (ix (up r.Mons (k:Int) { ix r.Mons (k:Int) mZ with Out:=up (ix r.Mons (k:Int) mZ).Out a1 [] }) (k:Int) mZ).Outer)=true:=by
   rw[zcX hk];exact zx (zdc g2.1 hp)
  refine must (zx hrm) (must (zbf hr.1.1.1) (must hfree (must (zx (zdc g2.2.1 hp)) (must (zbf ⟨hr.1.1,zZt hr hrm hp⟩) (must (zx (zdc g2.2.1 hp)) (shr (must hi (must hi (shr (must (zbf ⟨hL,hh _ _⟩) ?_))))))))));exact congrArg (fun x=>some [AV.agg (zS x)]) hE
 have hR:=room hf;have hrm:=zqY hf hm;refine ⟨0,?_⟩;unfold zD1 zsQ fetched oN
 conv=>zeta
 refine must (zbf hf.1.1.1.1) ?_;cases h0:ieq (ln (zfL c)) 0
 .have er:zdw c=c:=by unfold zdw;rw[show ieq (ln (zcz c)) 0=false from h0];rfl
  rw[er]at hR hrm ⊢;exact tail c hR.shape hR.free hrm
 .obtain ⟨o1,o2⟩:=zGZ hf h0;have er:zdw c=zfu c (zdy c 0).1 (zdy c 0).2:=by unfold zdw;rw[show ieq (ln (zcz c)) 0=true from h0];rfl
  rw[er]at hR hrm ⊢;exact must rfl (must (zbf ⟨hf.1,o1,o2⟩) (tail _ hR.shape hR.free hrm))
theorem zUB:zdp Tryz.prog 99 [true,true,true,true] zvT:=by
 refine zbW (zcD zhq zi z2c zG9) (zdT (by kernel_rfl)) ?_
 intro cs avs cs' rs hl hr h;have hb:=zb9 hr;unfold zvT at h;split at h
 .obtain ⟨hc,rfl,rfl⟩:=zcj h;obtain ⟨N,hN⟩:=z0A _ _ _ (by exact hb) hc
  exact ⟨rfl,_,N,12,(z3E N _ _ _ ).trans hN⟩
 .cases h
def z3M:zdq:=[(99,([true,true,true,true],zvT))]++z8h
theorem zSD:zck z3M:=zdR z2c (by
 intro x hx;simp only[qI,qX,or_false]at hx;rcases hx with rfl
 .exact zUB)
def zbO (h:Host)(m p:Int):Host:={ h with Mons:=up h.Mons m { ix h.Mons m mZ with Dirty:=up (ix h.Mons m mZ).Dirty p true } }
def opened (h:Host)(m p:Int):Host:=bif ieq (wand .i64 (ix (ix h.Mons m mZ).Outer p sZ).Rights 2) 0 then zdX h m p ⟨(ix (ix h.Mons m mZ).Outer p sZ).Page,3⟩ else h
def zmo (h:Host)(m p n:Int):Host:=bif ieq (wand .i64 n 2) 0 then h else opened (zbO h m p) m p
def mended (h:Host)(m p n:Int):Host:=bif ieq (ix (ix h.Mons m mZ).Outer p sZ).Page (-1) then zmo (fetched h m p) m p n else zmo h m p n
theorem zbaS {r:Int}(h0:0<=r)(h3:r<=3):enough r 2 = !ieq (wand .i64 r 2) 0:=by
 have:r=0\/r=1\/r=2\/r=3:=by omega
 rcases this with rfl|rfl|rfl|rfl<;>rfl
structure SlotFit (s:Slot):Prop where
 no:zc2 s noSlot=ieq s.Page (-1)
 lo:0<=s.Rights
 hi:s.Rights<=3
theorem z4q {s:Slot}{n:Int}(h:zeY s n=true):SlotFit s:=by
 refine ⟨zUh h,?_,?_⟩<;>unfold zeY at h<;>cases h1:zc2 s noSlot
 .rw [h1]at h;simp only[cF,zcM]at h;have:=(zeM.1 h.2.2).1;omega
 .unfold zc2 at h1;rw[qE]at h1;have:s.Rights=0:=qD h1.2;omega
 .rw [h1]at h;simp only[cF,zcM]at h;have:=(zeM.1 h.2.2).2;omega
 .unfold zc2 at h1;rw[qE]at h1;have:s.Rights=0:=qD h1.2;omega
theorem znX {h:Host}{m p:Int}(hs:Shape h)(hm:hasB m (ln h.Mons)=true):Shape (zbO h m p):=by
 obtain ⟨g1,g2⟩:=zb7 hs hm;exact ziP hs ⟨g1.1,g1.2.1,by simpa using g1.2.2.1,g1.2.2.2⟩ ⟨g2.1,g2.2.1,by simpa using g2.2.2.1,g2.2.2.2⟩
theorem zZl {h:Host}{m p:Int}(hs:Shape h)(hm:hasB m (ln h.Mons)=true):Shape (opened h m p)/\hasB m (ln (opened h m p).Mons)=true:=by
 unfold opened;cases ieq (wand .i64 (ix (ix h.Mons m mZ).Outer p sZ).Rights 2) 0
 .exact ⟨hs,hm⟩
 .exact ⟨ztV hm hs,zJb hm⟩
theorem zJQ {h:Host}{m p n:Int}(hs:Shape h)(hm:hasB m (ln h.Mons)=true):Shape (zmo h m p n)/\hasB m (ln (zmo h m p n).Mons)=true:=by
 unfold zmo;cases ieq (wand .i64 n 2) 0
 .exact zZl (znX hs hm) (zen hm)
 .exact ⟨hs,hm⟩
theorem zwu {h:Host}{m p n:Int}(hf:Fit h)(hm:hasB m (ln h.Mons)=true)(hp:hasB p 8=true):Shape (mended h m p n)/\hasB m (ln (mended h m p n).Mons)=true:=by
 unfold mended;cases ieq (ix (ix h.Mons m mZ).Outer p sZ).Page (-1)
 .exact zJQ hf.1 hm
 .obtain ⟨h1,h2⟩:=zkr hf hm hp;exact zJQ h1 h2
theorem zXa {h:Host}{m p:Int}(hf:Fit h)(hm:hasB m (ln h.Mons)=true)(hp:hasB p 8=true):(ix (ix (fetched h m p).Mons m mZ).Outer p sZ).Rights=3:=by
 have hR:=room hf;have hrm:=zqY hf hm;obtain ⟨g1,g2⟩:=zb7 hR.shape hrm;obtain ⟨k,rfl,hk⟩:=zds (n:=(zdw h).Mons.length) hrm;obtain ⟨q,rfl,hq⟩:=zds (n:=8) hp;unfold fetched zla;rw[(zgk _ _ _ _).1];have hk':k<(landing (zdw h) (k:Int) (q:Int) (ix (zcz (zdw h)) 0 0)).Mons.length:=by simpa [landing] using hk
 rw[zcX hk'];have ho:q<(ix (landing (zdw h) (k:Int) (q:Int) (ix (zcz (zdw h)) 0 0)).Mons (k:Int) mZ).Outer.length:=by
  unfold landing;rw[zcX hk]
  show q<(ix (zdw h).Mons (k:Int) mZ).Outer.length
  rw[g2.1];exact hq
 show (ix (up (ix (landing (zdw h) (k:Int) (q:Int) (ix (zcz (zdw h)) 0 0)).Mons (k:Int) mZ).Outer (q:Int) ⟨_,3⟩) (q:Int) sZ).Rights=3
 rw[zcX ho]
def zWN (h:Host)(m p n:Int):Prop:=Fit h/\hasB m (ln h.Mons)=true/\hasB p 8=true/\(n=1\/n=2)/\SlotFit (ix (ix h.Mons m mZ).Outer p sZ)
@[simp] abbrev znE (h:Host)(m p n:Int):Bool:=pc (zWN h m p n)
@[simp] abbrev zoL (h:Host)(m p n:Int):Host:=mended h m p n
def ztK:List AV->Option (Bool×List AV)
 | [.agg [.s (.sl .int) b,.s .mon c,.s .entry d,.s .entry e],.one (.i .i64 f),.one (.i .i64 g),.one (.i .i64 h)]=>some ((znE (⟨b,c,d,e⟩:Host) f g h),[aH (zoL (⟨b,c,d,e⟩:Host) f g h)])
 | _=>none
def zyb (N:Nat)(a0:Host)(a1 a2 a3:Int):OA:=
 let y3:=(zAx a0 a1 a2);let y6:=(ix y3.Mons a1 zh);let y0:=(ix a0.Mons a1 zh);let y7:=(ix y0.Outer a2 zK); (oN (inb a1 (ln a0.Mons)) (oN (inb a2 (ln y0.Outer)) (oN zcg (cond (cond (ieq y7.Page zbs.Page) (ieq y7.Rights zbs.Rights) false) (oN (zx7 a0 a1 a2) (cond (ieq (wand .i64 a3 2) 0) (some [(aH y3)]) (oN (inb a1 (ln y3.Mons)) (oN (inb a2 (ln y6.Dirty)) (share (up y3.Mons a1 ({ y6 with Dirty:=(up y6.Dirty a2 true) }:Mon)) (fun x5=>let y8:=(ix x5 a1 zh).Outer;let y4:=({ y3 with Mons:=x5 }:Host);let y1:=(ix y8 a2 zK);let y9:=({ y1 with Rights:=3 }:Slot); (oN (inb a1 (ln x5)) (oN (inb a2 (ln y8)) (cond (ieq (wand .i64 y1.Rights 2) 0) (oN (ze6 y4 a1 a2 y9) (some [(aH (zg7 y4 a1 a2 y9))])) (some [(aH y4)])))))))))) (cond (ieq (wand .i64 a3 2) 0) (some [(aH a0)]) (oN (inb a1 (ln a0.Mons)) (oN (inb a2 (ln y0.Dirty)) (share (up a0.Mons a1 ({ y0 with Dirty:=(up y0.Dirty a2 true) }:Mon)) (fun x5=>let y10:=(ix x5 a1 zh).Outer;let y5:=({ a0 with Mons:=x5 }:Host);let y2:=(ix y10 a2 zK);let y11:=({ y2 with Rights:=3 }:Slot); (oN (inb a1 (ln x5)) (oN (inb a2 (ln y10)) (cond (ieq (wand .i64 y2.Rights 2) 0) (oN (ze6 y5 a1 a2 y11) (some [(aH (zg7 y5 a1 a2 y11))])) (some [(aH y5)])))))))))))))
theorem zYQ (N:Nat)(a0:Host)(a1 a2 a3:Int):zGN (cQ zrD zpD z3M zZz) (zk []) N 12 218 [true,true,true,true,false,false,false] 1 1 [[0],[1],[2],[4],[7]] .mon [aH a0,aI a1,aI a2,aI a3]=zyb N a0 a1 a2 a3:=by kernel_rfl
theorem zVU (a0:Host)(a1 a2 a3:Int)(hb:zbC big [aH a0,aI a1,aI a2,aI a3])(hc:znE a0 a1 a2 a3=true):∃N,zyb N a0 a1 a2 a3=some [aH (zoL a0 a1 a2 a3)]:=by
 obtain ⟨hf,hm,hp,hn,hs⟩:=zy.1 hc;obtain ⟨g1,g2⟩:=zb7 hf.1 hm;have tail:∀r,Shape r->hasB a1 (ln r.Mons)=true->(cond (ieq (wand .i64 a3 2) 0) (some [(AV.agg (zS r))]) (cond (inb a1 (ln r.Mons)) (cond (inb a2 (ln (ix r.Mons a1 zh).Dirty)) (share (up r.Mons a1 ({ (ix r.Mons a1 zh) with Dirty:=(up (ix r.Mons a1 zh).Dirty a2 true) }:Mon)) (fun x5=>(cond (inb a1 (ln x5)) (cond (inb a2 (ln (ix x5 a1 zh).Outer)) (cond (ieq (wand .i64 (ix (ix x5 a1 zh).Outer a2 zK).Rights 2) 0) (cond (ze6 ({ r with Mons:=x5 }:Host) a1 a2 ({ (ix (ix x5 a1 zh).Outer a2 zK) with Rights:=3 }:Slot)) (some [(AV.agg (zS (zg7 ({ r with Mons:=x5 }:Host) a1 a2 ({ (ix (ix x5 a1 zh).Outer a2 zK) with Rights:=3 }:Slot))))]) none) (some [(AV.agg (zS ({ r with Mons:=x5 }:Host)))])) none) none))) none) none))=some [AV.agg (zS (zmo r a1 a2 a3))]:=by
  intro r hr hrm;obtain ⟨q1,q2⟩:=zb7 hr hrm;have hD:=znX (p:=a2) hr hrm;unfold zmo;cases h0:ieq (wand .i64 a3 2) 0
  .obtain ⟨k,rfl,hk⟩:=zds (n:=r.Mons.length) hrm;have ex:ix (zbO r (k:Int) a2).Mons (k:Int) mZ={ ix r.Mons (k:Int) mZ with Dirty:=up (ix r.Mons (k:Int) mZ).Dirty a2 true }:=zcX hk _ _;refine zbN rfl (must (zx hrm) (must (zx (zdc q2.2.2.1 hp)) (shr (must (zx (zen hrm)) (must ?_ ?_)))))
   .rw [zcX hk];exact zx (zdc q2.1 hp)
   .unfold opened
    show (cond (ieq (wand .i64 (ix (ix (zbO r (k:Int) a2).Mons (k:Int) mZ).Outer a2 sZ).Rights 2) 0) _ _)=_
    cases h1:ieq (wand .i64 (ix (ix (zbO r (k:Int) a2).Mons (k:Int) mZ).Outer a2 sZ).Rights 2) 0
    .rfl
    .refine must rfl (must (zbf ⟨(zF _).2 hD.1,zen hrm,?_,?_⟩) rfl)
     .show hasB a2 (ln (ix (zbO r (k:Int) a2).Mons (k:Int) mZ).Outer)=true
      rw[ex];exact zdc q2.1 hp
     .show (ix (zbO r (k:Int) a2).Mons (k:Int) mZ).Tables.length<=(ix (zbO r (k:Int) a2).Mons (k:Int) mZ).Guests.length
      rw[ex];exact u3 q2.2.2.2
  .rfl
 refine ⟨0,?_⟩;unfold zyb zoL mended oN
 conv=>zeta
 refine must (zx hm) (must (zx (zdc g2.1 hp)) (must rfl ?_));have e:(cond (ieq (ix (ix a0.Mons a1 mZ).Outer a2 sZ).Page zbs.Page) (ieq (ix (ix a0.Mons a1 mZ).Outer a2 sZ).Rights zbs.Rights) false)=ieq (ix (ix a0.Mons a1 mZ).Outer a2 sZ).Page (-1):=by
  rw[<- hs.no];unfold zc2 zbs;cases ieq (ix (ix a0.Mons a1 mZ).Outer a2 sZ).Page noSlot.Page<;>rfl
 rw[e];cases h0:ieq (ix (ix a0.Mons a1 mZ).Outer a2 sZ).Page (-1)
 .exact tail a0 hf.1 hm
 .obtain ⟨h1,h2⟩:=zkr (p:=a2) hf hm hp;exact must rfl (must (zbf ⟨hf,hm,hp⟩) (tail _ h1 h2))
theorem zOk:zdY Tryz.prog 218 [true,true,true,true,false,false,false] (some (1,1,[[0],[1],[2],[4],[7]])) ztK:=by
 refine zl8 (kt:=.mon) (zcD zhq zi zSD zG9) (zdT (by kernel_rfl)) (by kernel_rfl) ?_
 intro avs rs hl hr h;have hb:=zi1 hr;unfold ztK at h;split at h
 .obtain ⟨hc,rfl⟩:=zdO h;obtain ⟨N,hN⟩:=zVU _ _ _ _ (by exact hb) hc
  exact ⟨⟨_,rfl⟩,rfl,_,N,12,(zYQ N _ _ _ _ ).trans hN⟩
 .cases h
@[simp] abbrev zvM (h:Host)(m p n:Int):Bool:=pc (zWN h m p n)
@[simp] abbrev zn6 (h:Host)(m p n:Int):Host:=mended h m p n
def zyz:List CV->List AV->Option (Bool×List CV×List AV)
 | [.s (.sl .int) b,.s .mon c,.s .entry d,.s .entry e],[.one (.i .i64 f),.one (.i .i64 g),.one (.i .i64 h)]=>some ((zvM (⟨b,c,d,e⟩:Host) f g h),zS (zn6 (⟨b,c,d,e⟩:Host) f g h),[])
 | _,_=>none
def zJ1 (N:Nat)(c:Host)(a0 a1 a2:Int):OA:=
 let y3:=(zsQ c a0 a1);let y6:=(ix y3.Mons a0 zh);let y2:=(ix c.Mons a0 zh); (oN (inb a0 (ln c.Mons)) (oN (inb a1 (ln y2.Outer)) (cond (ieq (ix y2.Outer a1 zK).Page (-1)) (oN (zxb c a0 a1) (oN (zdk a2 2) (cond (nB (zdP a2 2)) (some [(aH y3)]) (oN (inb a0 (ln y3.Mons)) (oN (inb a1 (ln y6.Dirty)) (share (up y3.Mons a0 ({ y6 with Dirty:=(up y6.Dirty a1 true) }:Mon)) (fun x5=>let y4:=(ix x5 a0 zh);let y0:=(ix y4.Outer a1 zK); (oN (inb a1 (ln y4.Outer)) (oN (zdk y0.Rights 2) (cond (nB (zdP y0.Rights 2)) (oN (inb a1 (ln y4.Outer)) (share (up x5 a0 ({ y4 with Outer:=(up y4.Outer a1 ({ y0 with Rights:=3 }:Slot)) }:Mon)) (fun x6=>let y7:=({ y3 with Mons:=x6 }:Host); (oN (zef y7 a0 a1 y0) (some [(aH (zeg y7 a0 a1 y0))]))))) (some [(aH ({ y3 with Mons:=x5 }:Host))]))))))))))) (oN (zdk a2 2) (cond (nB (zdP a2 2)) (some [(aH c)]) (oN (inb a0 (ln c.Mons)) (oN (inb a1 (ln y2.Dirty)) (share (up c.Mons a0 ({ y2 with Dirty:=(up y2.Dirty a1 true) }:Mon)) (fun x5=>let y5:=(ix x5 a0 zh);let y1:=(ix y5.Outer a1 zK); (oN (inb a1 (ln y5.Outer)) (oN (zdk y1.Rights 2) (cond (nB (zdP y1.Rights 2)) (oN (inb a1 (ln y5.Outer)) (share (up x5 a0 ({ y5 with Outer:=(up y5.Outer a1 ({ y1 with Rights:=3 }:Slot)) }:Mon)) (fun x6=>let y8:=({ c with Mons:=x6 }:Host); (oN (zef y8 a0 a1 y1) (some [(aH (zeg y8 a0 a1 y1))]))))) (some [(aH ({ c with Mons:=x5 }:Host))])))))))))))))
theorem z6c (N:Nat)(c:Host)(a0 a1 a2:Int):zfW (cQ zrD zpD z3M zZz) (zk []) N 12 90 [true,true,true,true] (zS c) [aI a0,aI a1,aI a2]=zJ1 N c a0 a1 a2:=by kernel_rfl
theorem z3w (c:Host)(a0 a1 a2:Int)(hb:zbC big (.agg (zS c) :: [aI a0,aI a1,aI a2]))(hc:zvM c a0 a1 a2=true):∃N,zJ1 N c a0 a1 a2=some (.agg (zS (zn6 c a0 a1 a2)) :: []):=by
 obtain ⟨hf,hm,hp,hn,hs⟩:=zy.1 hc;obtain ⟨g1,g2⟩:=zb7 hf.1 hm;have en:enough a2 2 = !ieq (wand .i64 a2 2) 0:=by rcases hn with rfl|rfl<;>rfl
 have tail:∀r,Shape r->hasB a0 (ln r.Mons)=true->enough (ix (ix r.Mons a0 mZ).Outer a1 sZ).Rights 2=(!ieq (wand .i64 (ix (ix r.Mons a0 mZ).Outer a1 sZ).Rights 2) 0)->(cond (zdk a2 2) (cond (cond (zdP a2 2) false true) (some [(AV.agg (zS r))]) (cond (inb a0 (ln r.Mons)) (cond (inb a1 (ln (ix r.Mons a0 zh).Dirty)) (share (up r.Mons a0 ({ (ix r.Mons a0 zh) with Dirty:=(up (ix r.Mons a0 zh).Dirty a1 true) }:Mon)) (fun x5=>(cond (inb a1 (ln (ix x5 a0 zh).Outer)) (cond (zdk (ix (ix x5 a0 zh).Outer a1 zK).Rights 2) (cond (cond (zdP (ix (ix x5 a0 zh).Outer a1 zK).Rights 2) false true) (cond (inb a1 (ln (ix x5 a0 zh).Outer)) (share (up x5 a0 ({ (ix x5 a0 zh) with Outer:=(up (ix x5 a0 zh).Outer a1 ({ (ix (ix x5 a0 zh).Outer a1 zK) with Rights:=3 }:Slot)) }:Mon)) (fun x6=>(cond (zef ({ r with Mons:=x6 }:Host) a0 a1 (ix (ix x5 a0 zh).Outer a1 zK)) (some [(AV.agg (zS (zeg ({ r with Mons:=x6 }:Host) a0 a1 (ix (ix x5 a0 zh).Outer a1 zK))))]) none))) none) (some [(AV.agg (zS ({ r with Mons:=x5 }:Host)))])) none) none))) none) none)) none)=some [AV.agg (zS (zmo r a0 a1 a2))]:=by
  intro r hr hrm her;obtain ⟨q1,q2⟩:=zb7 hr hrm;have hD:=znX (p:=a1) hr hrm;unfold zmo;simp only[zdk,zdP,en,cT];cases h0:ieq (wand .i64 a2 2) 0
  .obtain ⟨k,rfl,hk⟩:=zds (n:=r.Mons.length) hrm;have ex:ix (zbO r (k:Int) a1).Mons (k:Int) mZ={ ix r.Mons (k:Int) mZ with Dirty:=up (ix r.Mons (k:Int) mZ).Dirty a1 true }:=zcX hk _ _;have hk':k<(zbO r (k:Int) a1).Mons.length:=by simpa [zbO] using hk
   have hi:inb a1 (ln (ix (zbO r (k:Int) a1).Mons (k:Int) mZ).Outer)=true:=by
    rw[ex];exact zx (zdc q2.1 hp)
   refine zbN rfl (must (zx hrm) (must (zx (zdc q2.2.2.1 hp)) (shr (must hi ?_))));unfold opened
   show (cond (cond (enough (ix (ix (zbO r (k:Int) a1).Mons (k:Int) mZ).Outer a1 sZ).Rights 2) false true) _ _)=_
   have e2:(cond (enough (ix (ix (zbO r (k:Int) a1).Mons (k:Int) mZ).Outer a1 sZ).Rights 2) false true)=ieq (wand .i64 (ix (ix (zbO r (k:Int) a1).Mons (k:Int) mZ).Outer a1 sZ).Rights 2) 0:=by
    rw[ex]
    show (cond (enough (ix (ix r.Mons (k:Int) mZ).Outer a1 sZ).Rights 2) false true)=ieq (wand .i64 (ix (ix r.Mons (k:Int) mZ).Outer a1 sZ).Rights 2) 0
    rw[her];cases ieq (wand .i64 (ix (ix r.Mons (k:Int) mZ).Outer a1 sZ).Rights 2) 0<;>rfl
   rw[e2];cases h1:ieq (wand .i64 (ix (ix (zbO r (k:Int) a1).Mons (k:Int) mZ).Outer a1 sZ).Rights 2) 0
   .rfl
   .have hX:Shape { zbO r (k:Int) a1 with Mons:=up (zbO r (k:Int) a1).Mons (k:Int) { ix (zbO r (k:Int) a1).Mons (k:Int) mZ with Outer:=up (ix (zbO r (k:Int) a1).Mons (k:Int) mZ).Outer a1 ⟨(ix (ix (zbO r (k:Int) a1).Mons (k:Int) mZ).Outer a1 sZ).Page,3⟩ } }:=by
     obtain ⟨w1,w2⟩:=zb7 hD (zen hrm);exact ziP hD ⟨by simpa using w1.1,w1.2⟩ ⟨by simpa using w2.1,w2.2⟩
    have hh:∀(x y:Mon),hasB (k:Int) (ln (up (up r.Mons (k:Int) x) (k:Int) y))=true:=fun x y=>by simpa [ln] using hrm
    refine must rfl (must hi (shr (must (zbf ⟨hX,hh _ _⟩) ?_)));exact congrArg (fun x=>some [AV.agg (zS x)]) (zBF (h:=zbO r (k:Int) a1) (p:=a1) (s:=⟨(ix (ix (zbO r (k:Int) a1).Mons (k:Int) mZ).Outer a1 sZ).Page,3⟩) hk' (by rw[ex];exact q2.2.2.2))
  .rfl
 refine ⟨0,?_⟩;unfold zJ1 zn6 mended oN nB
 conv=>zeta
 refine must (zx hm) (must (zx (zdc g2.1 hp)) ?_);cases h0:ieq (ix (ix c.Mons a0 mZ).Outer a1 sZ).Page (-1)
 .exact tail c hf.1 hm (zbaS hs.lo hs.hi)
 .obtain ⟨h1,h2⟩:=zkr (p:=a1) hf hm hp;exact must rfl (must (zbf ⟨hf,hm,hp⟩) (tail _ h1 h2 (by rw[zXa hf hm hp];rfl)))
theorem zXl:zdp Tryz.prog 90 [true,true,true,true] zyz:=by
 refine zbW (zcD zhq zi zSD zG9) (zdT (by kernel_rfl)) ?_
 intro cs avs cs' rs hl hr h;have hb:=zb9 hr;unfold zyz at h;split at h
 .obtain ⟨hc,rfl,rfl⟩:=zcj h;obtain ⟨N,hN⟩:=z3w _ _ _ _ (by exact hb) hc
  exact ⟨rfl,_,N,12,(z6c N _ _ _ _ ).trans hN⟩
 .cases h
def z3Y:zdq:=[(90,([true,true,true,true],zyz))]++z3M
theorem zbj:zck z3Y:=zdR zSD (by
 intro x hx;simp only[qI,qX,or_false]at hx;rcases hx with rfl
 .exact zXl)
def z4A:ze9:=[(218,([true,true,true,true,false,false,false],(some (1,1,[[0],[1],[2],[4],[7]])),ztK))]++zZz
theorem zAz:zdZ z4A:=zro zG9 (by
 intro x hx;simp only[qI,qX,or_false]at hx;rcases hx with rfl
 .exact zOk)
theorem z3l {h:Host}(hh:zbE h=true):h.Memory.length=12:=by
 unfold zbE at hh;simp only[zcM]at hh;have h1:=hh.1;unfold ziX at h1;simp only[zcM]at h1;have:ln h.Memory=12:=qD h1.2;simp only[ln] at this;omega
theorem zgR {h:Host}(hh:zbE h=true):∀x∈h.Mons,zeu x=true:=by
 unfold zbE at hh;simp only[zcM]at hh;exact zA2 _ _ hh.2.2.2.2
theorem zLJ {x:Mon}(hk:zeu x=true):ShM x:=by
 have ho:=zta (znq hk);unfold zeu at hk;simp only[zcM]at hk;have e1:ln x.Tables=ln x.Guests:=qD hk.2.1;have e2:ln x.Out=8:=qD hk.2.2.2.1;have e3:ln x.Dirty=8:=qD hk.2.2.2.2.1;simp only[ln] at *;exact ⟨by omega,by omega,by omega,by omega⟩
theorem zea {h:Host}(hs:SmH h)(hh:zbE h=true):Fit h:=by
 refine ⟨⟨hs,fun x hx=>zLJ (zgR hh x hx)⟩,by rw[z3l hh];decide,?_⟩
 unfold zbE at hh;simp only[zcM]at hh;have:=zXq _ _ rfl hh.2.2.2.2;omega
theorem zuv {x:Mon}(hk:zeu x=true){p:Int}(hp:hasB p 8=true):SlotFit (ix x.Outer p sZ):=by
 have ht:=znq hk;unfold zdd at ht;simp only[zcM]at ht;exact z4q (qT.1 ht.1 _ (zbt (zdc (zLJ hk).1 hp) _))
theorem z0h {h:Host}{m p:Int}(hf:Fit h)(hm:hasB m (ln h.Mons)=true):Fit (zbO h m p):=by
 refine ⟨znX hf.1 hm,hf.2.1,?_⟩;obtain ⟨k,rfl,hk⟩:=zds (n:=h.Mons.length) hm;have:=zZ5 h.Mons k (ix h.Mons (k:Int) mZ) { ix h.Mons (k:Int) mZ with Dirty:=up (ix h.Mons (k:Int) mZ).Dirty p true } (by rw[zbc hk];exact qB hk)
 have h3:=hf.2.2;unfold zbO;simp only[up,kC]
 dsimp only at this
 simp only[up] at this;omega
abbrev gZ:Guest:=Ty.dflt .guest
@[simp] abbrev zsN (h:Host)(m:Int):Bool:=pc (zbA h)
@[simp] abbrev zcc (h:Host)(m:Int):Mon:=bif hasB m (ln h.Mons) then ix h.Mons m mZ else mZ
@[simp] abbrev zlr (h:Host)(m:Int):Bool:=hasB m (ln h.Mons)
def zJs:Run:=rF2 dH dI fun b c=>(zsN b c,[aT .mon (zcc b c),aB (zlr b c)])
def zTg (N:Nat)(a0:Host)(a1:Int):OA:=
 let y0:=(ix a0.Mons a1 zh); (oN (zbx a1 (ln a0.Mons)) (cond (nB (zbK a1 (ln a0.Mons))) (some [(aT .mon (⟨[],[],[],[],[],0,0,[],0⟩:Mon)),(aB false)]) (oN (inb a1 (ln a0.Mons)) (oN (zkG y0) (some [(aT .mon (zlw y0)),(aB true)])))))
theorem z0v (a0:Host)(a1:Int)(hc:zsN a0 a1=true):∃N,zTg N a0 a1=some [aT .mon (zcc a0 a1),aB (zlr a0 a1)]:=by
 have hs:=(zF a0).1 (zy.1 hc);refine ⟨0,?_⟩;unfold zTg zcc zlr oN nB
 conv=>zeta
 refine must rfl ?_;rw[show zbK a1 (ln a0.Mons)=hasB a1 (ln a0.Mons) from rfl]
 cases hh:hasB a1 (ln a0.Mons)
 .rfl
 .exact zbN rfl (must (zx hh) (must (zbf (hs.2.1.2 _ (zbt hh _))) rfl))
theorem zUw:u4 54 zJs:=kF2 zhq zi zbj zAz (zk []) z0v
def zb5 (h:Host)(m g:Int):Bool:=bif zbE h then (cond (hasB m (ln h.Mons)) (hasB g (ln (ix h.Mons m mZ).Guests)) false) else false
@[simp] abbrev zg9 (h:Host)(m g:Int):Bool:=pc (zbA h)
@[simp] abbrev zju (h:Host)(m g:Int):Bool:=zb5 h m g
def zJL:Run:=rF3 dH dI dI fun b c d=>(zg9 b c d,[aB (zju b c d)])
def zTz (N:Nat)(a0:Host)(a1 a2:Int):OA:=
 let y0:=(wsub .i64 (ln (ix a0.Mons a1 zh).Guests) 1); (oN (zfi a0) (cond (zfh a0) (oN (zL a1 0 (wsub .i64 (ln a0.Mons) 1)) (cond (zO a1 0 (wsub .i64 (ln a0.Mons) 1)) (oN (inb a1 (ln a0.Mons)) (oN (zL a2 0 y0) (some [(aB (zO a2 0 y0))]))) oF)) oF))
theorem z0R (a0:Host)(a1 a2:Int)(hc:zg9 a0 a1 a2=true):∃N,zTz N a0 a1 a2=some [aB (zju a0 a1 a2)]:=by
 have hs:=(zF a0).1 (zy.1 hc);refine ⟨0,?_⟩;unfold zTz zju zb5 oN
 conv=>zeta
 refine must rfl ?_;rw[show zfh a0=zbE a0 from rfl]
 cases hh:zbE a0
 .rfl
 .rw [show zO a1 0 (wsub .i64 (ln a0.Mons) 1)=hasB a1 (ln a0.Mons) from zrr hs.2.1.1 a1]
  refine must rfl (must rfl ?_);cases h1:hasB a1 (ln a0.Mons)
  .rfl
  .have hg:(ix a0.Mons a1 mZ).Guests.length<=1048576:=(hs.2.1.2 _ (zbt h1 _)).2.2.2.1.1;rw[show zO a2 0 (wsub .i64 (ln (ix a0.Mons a1 zh).Guests) 1)=hasB a2 (ln (ix a0.Mons a1 mZ).Guests) from zrr hg a2]
   exact must rfl (must (zx h1) (must rfl rfl))
theorem zUS:u4 199 zJL:=kF3 zhq zi zbj zAz (zk []) z0R
def zhE (h:Host)(m:Int):Nat->Nat->List (List Int)
 | 0,_=>[]
 | n+1,i=>zhD h m (i:Int) :: zhE h m n (i+1)
theorem zBl (h:Host)(m:Int):∀(n i:Nat),(zhE h m n i).length=n
 | 0,_=>rfl
 | n+1,i=>by simp[zhE,zBl h m n]
def zC (h:Host)(m:Int):Bare:=bif hasB m (ln h.Mons) then ⟨zhE h m 8 0,(ix h.Mons m mZ).Guests,(ix h.Mons m mZ).Outs,(ix h.Mons m mZ).Pending⟩ else ⟨[],[],[],0⟩
theorem zTR {ρ:Type}(h:Host)(m:Int)(K:List (List Int)->Option ρ):∀(n i:Nat) (acc:List (List Int)),acc.length+n<=2147483648 ->
 goN (fun i acc κ=>bif few (ln (ap acc [zhD h m (i:Int)])) then κ (ap acc [zhD h m (i:Int)]) else none) K n i acc=K (acc++zhE h m n i)
 | 0,_,acc,_=>by simp[goN,zhE]
 | n+1,i,acc,hl=>by
  simp only[goN,zhE];rw[zeO (by simp[ap];omega),cT,zTR h m K n (i+1) _ (by simp[ap];omega)]
  simp[ap]
@[simp] abbrev zee (h:Host)(m:Int):Bool:=pc (zbA h)
@[simp] abbrev zc7 (h:Host)(m:Int):Bare:=zC h m
def z9G:zV:=[(54,zJs),(199,zJL)]++zrD
theorem zW5:zJ z9G:=zf zUw (zf zUS zhq)
def zFL:Run:=rF2 dH dI fun b c=>(zee b c,[aT .bare (zc7 b c)])
def zMq (N:Nat)(a0:Host)(a1:Int):OA:=
 (oN (zsN a0 a1) (cond (nB (zlr a0 a1)) (some [(aT .bare (⟨[],[],[],0⟩:Bare))]) (iter (σ:=(Int×(Int×(Int×(Int×(lM×(lN×(lE×(lE×(lM×(lG×((List Int)×(lM×(lG×((List Int)×Unit))))))))))))))) N (fun r3 s4=>let y3:=s4.2.2.2.2.2.2.2.2.2.2.2.2.1;let y2:=s4.2.2.2.2.2.2.2.2.2.2.2.2.2.1;let y0:=(⟨s4.2.2.2.2.1,s4.2.2.2.2.2.1,s4.2.2.2.2.2.2.1,s4.2.2.2.2.2.2.2.1⟩:Host);let y1:=(ap s4.2.2.2.2.2.2.2.2.2.2.2.1 [(zA7 y0 s4.1 s4.2.1)]); (cond (ilt s4.2.1 8) (oN (zA8 y0 s4.1 s4.2.1) (oN (few (ln y1)) (r3 (s4.1,((zD .i64 s4.2.1 1),(s4.2.2.1,(s4.2.2.2.1,(s4.2.2.2.2.1,(s4.2.2.2.2.2.1,(s4.2.2.2.2.2.2.1,(s4.2.2.2.2.2.2.2.1,(s4.2.2.2.2.2.2.2.2.1,(s4.2.2.2.2.2.2.2.2.2.1,(s4.2.2.2.2.2.2.2.2.2.2.1,(y1,(y3,(y2,()))))))))))))))))) (some [(aT .bare (⟨s4.2.2.2.2.2.2.2.2.2.2.2.1,y3,y2,s4.2.2.2.1⟩:Bare))]))) (a1,(0,(0,((zcc a0 a1).Pending,(a0.Memory,(a0.Mons,(a0.Buffer,(a0.IoBuffer,([],([],([],([],((zcc a0 a1).Guests,((zcc a0 a1).Outs,())))))))))))))))))
def zZJ:FuncId->Nat->Option Tmpl:=zk [(71,0,{ n:=39,tm:=[(1,ti),(2,.lp 0 0),(4,.lp 1 0),(7,.lp 2 0),(8,ti)],lo:=[(0,[.sl 0 [],.sl 1 [],.sl 2 [],.sl 3 []]),(1,[.sl 4 [],.sl 5 [],.sl 6 [],ti]),(2,[.sl 7 [],.sl 8 [],.sl 9 [],ti])],ro:=[(0,(.sl .int),false),(1,.mon,false),(2,.entry,false),(3,.entry,false),(4,(.sl .int),true),(5,.guest,true),(6,.int,true),(7,(.sl .int),true),(8,.guest,true),(9,.int,true)] })]
theorem zXU (a0:Host)(a1:Int)(hc:zee a0 a1=true):∃N,zMq N a0 a1=some [aT .bare (zc7 a0 a1)]:=by
 have hs:=zy.1 hc;refine zbV fun N hNN=>?_;unfold zMq zc7 zC oN nB
 conv=>zeta
 refine must (zbf hs) ?_;rw[show zlr a0 a1=hasB a1 (ln a0.Mons) from rfl]
 cases hh:hasB a1 (ln a0.Mons)
 .rfl
 .refine zbN rfl ?_;refine (zBf 8 (fun i (t:lM)=>(a1,(i:Int),0,(zcc a0 a1).Pending,a0.Memory,a0.Mons,a0.Buffer,a0.IoBuffer,[],[],[],t,(zcc a0 a1).Guests,(zcc a0 a1).Outs,())) _ (fun i (acc:List (List Int)) κ=>bif few (ln (ap acc [zhD a0 a1 (i:Int)])) then κ (ap acc [zhD a0 a1 (i:Int)]) else none) (fun (t:lM)=>(some [(.agg (Ty.cells .bare (⟨t,(zcc a0 a1).Guests,(zcc a0 a1).Outs,(zcc a0 a1).Pending⟩:Bare)))])) (fun i hi t rec=>?_) (fun t rec=>?_) _ ([]) (hNN (by decide))).trans ?_
  .simp only [show ilt (i:Int) 8=true from qK (by omega),zU hi (show 8<=big by decide),cT]
   exact must (zbf hs) rfl
  .simp only [show ilt (((8:Nat)):Int) 8=false from qH (by omega),cF]
  rw[zTR a0 a1 _ 8 0 [] (by decide)]
  simp only[zcc,hh,cT,jK]
theorem zQI:u4 71 zFL:=kF2 zW5 zi zbj zAz zZJ zXU
theorem z09:zcH zBP=true:=by decide
theorem z1L {p:Nat->Bool}:∀{n i q:Nat},zve p n i=true->i<=q->q<i+n->p q=true
 | 0,i,q,_,h1,h2=>by omega
 | n+1,i,q,h,h1,h2=>by
  simp only[zve,qE]at h
  by_cases he:i=q
  .subst he;exact h.1
  .exact z1L h.2 (by omega) (by omega)
theorem z6k {h:Host}{m:Int}(hh:zbE h=true)(hm:hasB m (ln h.Mons)=true){p:Int}(hp:hasB p 8=true):zcH (zhD h m p)=true:=by
 have hk:=zgR hh _ (zbt hm mZ);have hsh:=zLJ hk;have hmem:h.Memory.all zcH=true:=by
  unfold zbE at hh;simp only[zcM]at hh;have h1:=hh.1;unfold ziX at h1;simp only[zcM]at h1;exact h1.1
 unfold zhD;rw[hm,hp];simp only[cT];have hsl:zdB (ix h.Mons m mZ).Outer p=ix (ix h.Mons m mZ).Outer p sZ:=by
  unfold zdB;rw[zdc hsh.1 hp];rfl
 rw[hsl];have hAt:∀(mm:List (List Int)) (q:Int),(hasB q (ln mm)=true->zcH (ix mm q [])=true)->zcH (zie mm q)=true:=by
  intro mm q hq;unfold zie;cases h1:hasB q (ln mm)
  .exact z09
  .exact hq h1
 cases hpg:ine (ix (ix h.Mons m mZ).Outer p sZ).Page (-1)
 .refine hAt _ _ (fun hq=>?_);obtain ⟨q,rfl,hq8⟩:=zds (n:=8) hp;have hfit:fits (ix h.Mons m mZ) q=true:=by
   unfold zeu at hk;simp only[zcM]at hk;exact z1L hk.2.2.2.2.2.2.2.2.2.2 (by omega) (by omega)
  unfold fits zu4 at hfit;have hno:zc2 (ix (ix h.Mons m mZ).Outer (q:Int) sZ) noSlot=true:=by
   rw[(zuv (zgR hh _ (zbt hm mZ)) hp).no];rw[zhR]at hpg;cases h1:ieq (ix (ix h.Mons m mZ).Outer (q:Int) sZ).Page (-1)
   .rw [h1]at hpg;cases hpg
   .rfl
  rw[hno]at hfit;exact hfit
 .exact hAt _ _ (fun hq=>qT.1 hmem _ (zbt hq _))
theorem zT3 {h:Host}{m:Int}(hh:zbE h=true)(hm:hasB m (ln h.Mons)=true):∀(n i:Nat),i+n<=8->(zhE h m n i).all zcH=true
 | 0,_,_=>rfl
 | n+1,i,hi=>by
  simp only[zhE,uB,qE];exact ⟨z6k hh hm (qK (by omega)),zT3 hh hm n (i+1) (by omega)⟩
theorem zrB {h:Host}{m:Int}(hh:zbE h=true)(hm:hasB m (ln h.Mons)=true):zbQ (zC h m)=true:=by
 have hk:=zgR hh _ (zbt hm mZ);unfold zeu at hk;simp only[zcM]at hk;unfold zC zbQ ziX;rw[hm];simp only[cT,hk.2.2.2.2.2.2.2.2.2.1,zT3 hh hm 8 0 (by decide),ln,zBl]
 simp only[ln]at hk;rw[hk.1,hk.2.2.2.2.2.1,hk.2.2.2.2.2.2.1];rfl
def znJ:zV:=[(71,zFL)]++z9G
theorem zhr:zJ znJ:=zf zQI zW5
def zd1 (l:List Mon):List (List Guest):=l.map fun x=>x.Guests
theorem zA0 {l:List Mon}{m:Int}{x:Mon}(hm:hasB m (ln l)=true)(hx:x.Guests=(ix l m mZ).Guests):zd1 (up l m x)=zd1 l:=by
 obtain ⟨k,rfl,hk⟩:=zds (n:=l.length) hm;unfold zd1 up;rw[List.map_set,kC,hx,zbc hk];have:=@uQ _ (l.map fun x=>x.Guests) k (by simpa using hk)
 simpa using this
theorem zNq {l l':List Mon}(h:zd1 l'=zd1 l)(m:Int):(ix l' m mZ).Guests=(ix l m mZ).Guests:=by
 unfold zd1 at h;have h2:(l'.map fun x=>x.Guests)[m.toNat]?=(l.map fun x=>x.Guests)[m.toNat]?:=by rw[h]
 rw[qM,qM]at h2;unfold ix;simp only[kF];cases h3:l'[m.toNat]? <;> cases h4:l[m.toNat]? <;> rw [h3,h4]at h2<;>simp at h2 ⊢;exact h2
theorem zAZ {h:Host}{m p:Int}{s:Slot}(hm:hasB m (ln h.Mons)=true):zd1 (zdX h m p s).Mons=zd1 h.Mons:=by
 rw[(zgk h m p s).1];exact zA0 hm rfl
theorem zbaW {h:Host}{m p:Int}(hm:hasB m (ln h.Mons)=true):zd1 (zfu h m p).Mons=zd1 h.Mons:=(zAZ (h:=zf2 h m p) (zen hm)).trans (zA0 hm rfl)
theorem zbaV {h:Host}(hf:Fit h):zd1 (zdw h).Mons=zd1 h.Mons:=by
 unfold zdw;cases h0:ieq (ln (zcz h)) 0
 .rfl
 .exact zbaW (zGZ hf h0).1
theorem z3j {h:Host}{m p:Int}(hf:Fit h)(hm:hasB m (ln h.Mons)=true):zd1 (fetched h m p).Mons=zd1 h.Mons:=by
 have hr:=zqY hf hm;exact ((zAZ (h:=landing (zdw h) m p (ix (zcz (zdw h)) 0 0)) (zen hr)).trans (zA0 hr rfl)).trans (zbaV hf)
theorem zXg {h:Host}{m p n:Int}(hm:hasB m (ln h.Mons)=true):zd1 (zmo h m p n).Mons=zd1 h.Mons:=by
 have hd:zd1 (zbO h m p).Mons=zd1 h.Mons:=zA0 hm rfl;unfold zmo;cases ieq (wand .i64 n 2) 0
 .unfold opened;cases ieq (wand .i64 (ix (ix (zbO h m p).Mons m mZ).Outer p sZ).Rights 2) 0
  .exact hd
  .exact (zAZ (h:=zbO h m p) (zen hm)).trans hd
 .rfl
theorem z5J {h:Host}{m p n:Int}(hf:Fit h)(hm:hasB m (ln h.Mons)=true)(hp:hasB p 8=true):zd1 (mended h m p n).Mons=zd1 h.Mons:=by
 unfold mended;cases ieq (ix (ix h.Mons m mZ).Outer p sZ).Page (-1)
 .exact zXg hm
 .exact (zXg (zkr hf hm hp).2).trans (z3j hf hm)
theorem zbb5 {l l':List Mon}(h:zd1 l'=zd1 l):l'.length=l.length:=by
 have:=congrArg List.length h;simpa [zd1] using this
abbrev kZ:Kept:=Ty.dflt .kept
theorem zbc2 {x:Guest}(hk:zcP x=true){p n:Int}(hw:zgG x.Live p n=true):hasB (zcI x.Live p n) 8=true:=by
 have ht:zdd x.Live 4 8=true:=by
  unfold zcP at hk;simp only[qE]at hk;exact hk.2.2.2.2.1
 unfold zcI;rw[hw];simp only[cT];unfold zgG at hw;cases h1:ieq (zdB x.Live p).Page (-1)
 .unfold zdB at h1 ⊢;cases h2:hasB p (ln x.Live)
  .rw [h2]at h1;cases h1
  .rw [h2]at h1;simp only[cT]at h1 ⊢;unfold zdd at ht;simp only[zcM]at ht;have hs:=qT.1 ht.1 _ (zbt h2 sZ);unfold zeY at hs;cases h3:zc2 (ix x.Live p sZ) noSlot
   .rw [h3]at hs;simp only[cF,zcM]at hs;have:=zeM.1 hs.2.1;rw[show wsub .i64 8 1=7 from rfl] at this
    show hasB (ix x.Live p sZ).Page 8=true
    exact qK (by omega)
   .unfold zc2 at h3;rw[qE]at h3;have:(ix x.Live p sZ).Page = -1:=qD h3.1;rw[show ieq (ix x.Live p zK).Page (-1)=true from qK this]at h1
    cases h1
 .rw [h1]at hw;cases hw
def zdv (h:Host)(m g:Int):List Slot:=(ix (ix h.Mons m mZ).Guests g gZ).Live
def zcG (h:Host)(m g:Int):Kept:=ix (ix h.Mons m mZ).Tables g kZ
def zua (h:Host)(io:Bool):List Entry:=bif io then h.IoBuffer else h.Buffer
def zvn (b:List Entry)(m g page:Int):Option Entry:=zAQ b (zgy m g) page
def zkw (b:List Entry)(m g page need:Int):Bool:=bif (zvn b m g page).isSome then enough ((zvn b m g page).getD ⟨0,0,0,0⟩).Rights need else false
def zeE (h:Host)(m g page need:Int):Bool:=bif znl (zcG h m g) page then (cond (ieq (zfC (zcG h m g) page).Page (-1)) true (!enough (zfC (zcG h m g) page).Rights need)) else true
def zcW (h:Host)(m g page:Int):Host:={ h with Mons:=up h.Mons m { ix h.Mons m mZ with Tables:=up (ix h.Mons m mZ).Tables g (filled (zcG h m g) (zdv h m g) (ix h.Mons m mZ).Outer page) } }
def z9Q (h:Host)(m g page:Int):Entry:=⟨zgy m g,page,(zfC (zcG h m g) page).Page,(zfC (zcG h m g) page).Rights⟩
def zWt (h:Host)(m g page:Int)(io:Bool):Host:=bif io then { h with IoBuffer:=zFo h.IoBuffer (z9Q h m g page) } else { h with Buffer:=zFo h.Buffer (z9Q h m g page) }
def ze1 (h:Host)(m g page:Int)(io:Bool):Host×Int×Bool:=(zWt h m g page io,(zfC (zcG h m g) page).Page,true)
def zic (h:Host)(b:List Entry)(m g page need q:Int)(io:Bool):Host×Int×Bool :=
 bif zkw b m g page need then (h,((zvn b m g page).getD ⟨0,0,0,0⟩).Host,true)
 else (cond (zeE h m g page need) (ze1 (zcW (mended h m q need) m g page) m g page io) (ze1 h m g page io))
def zhB (need:Int):Bool:=bif ieq need 1 then true else ieq need 2
def zbX (h:Host)(m g page need:Int):Bool:=bif zb5 h m g then (cond (zhB need) (zgG (zdv h m g) page need) false) else false
def lookOf (h:Host)(b:List Entry)(m g page need:Int)(io:Bool):Host×Int×Bool :=
 bif zbX h m g page need then zic (cond (ieq need 2) (zbO h m (zcI (zdv h m g) page need)) h) b m g page need (zcI (zdv h m g) page need) io else (h,-1,false)
structure Kp (h r:Host):Prop where
 shape:Shape r
 gs:zd1 r.Mons=zd1 h.Mons
theorem Kp.has {h r:Host}(k:Kp h r){m:Int}(hm:hasB m (ln h.Mons)=true):hasB m (ln r.Mons)=true:=by
 rw[ln,zbb5 k.gs];exact hm
theorem z4o {h:Host}{m g page:Int}(hs:Shape h)(hm:hasB m (ln h.Mons)=true)(hg:hasB g (ln (ix h.Mons m mZ).Guests)=true):Shape (zcW h m g page):=by
 obtain ⟨g1,g2⟩:=zb7 hs hm;have ht:hasB g (ln (ix h.Mons m mZ).Tables)=true:=by rw[ln,g2.2.2.2];exact hg
 exact ziP hs ⟨g1.1,g1.2.1,g1.2.2.1,g1.2.2.2.1,g1.2.2.2.2.1,zu8 g1.2.2.2.2.2 (z4s (g1.2.2.2.2.2.2 _ (zbt ht _)))⟩ ⟨g2.1,g2.2.1,g2.2.2.1,by simpa using g2.2.2.2⟩
theorem z5O {h r:Host}{m g page:Int}{io:Bool}(k:Kp h r):Kp h (zWt r m g page io):=by
 obtain ⟨⟨h1,h2,h3,h4⟩,h5⟩:=k.shape;unfold zWt;cases io
 .exact ⟨⟨⟨h1,h2,(zBo _ h3).1,h4⟩,h5⟩,k.gs⟩
 .exact ⟨⟨⟨h1,h2,h3,(zBo _ h4).1⟩,h5⟩,k.gs⟩
structure LookAt (h:Host) (m g q need:Int):Prop where
 fit:Fit h
 hm:hasB m (ln h.Mons)=true
 hg:hasB g (ln (ix h.Mons m mZ).Guests)=true
 hq:hasB q 8=true
 hn:need=1\/need=2
 hs:SlotFit (ix (ix h.Mons m mZ).Outer q sZ)
theorem LookAt.mend {h:Host}{m g q need:Int}(A:LookAt h m g q need):zWN h m q need:=⟨A.fit,A.hm,A.hq,A.hn,A.hs⟩
theorem LookAt.kp {h:Host}{m g q need:Int}(A:LookAt h m g q need):Kp h (mended h m q need):=⟨(zwu A.fit A.hm A.hq).1,z5J A.fit A.hm A.hq⟩
theorem LookAt.fill {h:Host}{m g q need:Int}(A:LookAt h m g q need)(page:Int):Kp h (zcW (mended h m q need) m g page):=by
 have k:=A.kp;have hg:hasB g (ln (ix (mended h m q need).Mons m mZ).Guests)=true:=by rw[zNq k.gs];exact A.hg
 have e:zd1 (zcW (mended h m q need) m g page).Mons=zd1 (mended h m q need).Mons:=zA0 (k.has A.hm) rfl;exact ⟨z4o k.shape (k.has A.hm) hg,e.trans k.gs⟩
theorem zXx {h:Host}{b:List Entry}{m g page need q:Int}{io:Bool}(A:LookAt h m g q need):Kp h (zic h b m g page need q io).1:=by
 unfold zic;cases zkw b m g page need
 .cases zeE h m g page need
  .exact z5O ⟨A.fit.1,rfl⟩
  .exact z5O (A.fill page)
 .exact ⟨A.fit.1,rfl⟩
theorem zct {h:Host}{m g:Int}(hh:zb5 h m g=true):zbE h=true/\hasB m (ln h.Mons)=true/\hasB g (ln (ix h.Mons m mZ).Guests)=true:=by
 unfold zb5 at hh;simp only[zcM]at hh;exact hh
theorem z3k {h:Host}{m g:Int}(hh:zb5 h m g=true):zcP (ix (ix h.Mons m mZ).Guests g gZ)=true:=by
 obtain ⟨h1,h2,h3⟩:=zct hh;have hk:=zgR h1 _ (zbt h2 mZ);unfold zeu at hk;simp only[zcM]at hk;exact qT.1 hk.2.2.2.2.2.2.2.2.2.1 _ (zbt h3 _)
theorem zO6 {n:Int}(h:zhB n=true):n=1\/n=2:=by
 unfold zhB at h;cases h1:ieq n 1
 .rw [h1]at h;exact .inr (qD h)
 .exact .inl (qD h1)
theorem zFj {h:Host}{m g page need:Int}(hs:SmH h)(hh:zbX h m g page need=true) :
 LookAt h m g (zcI (zdv h m g) page need) need/\LookAt (zbO h m (zcI (zdv h m g) page need)) m g (zcI (zdv h m g) page need) need:=by
 unfold zbX at hh;simp only[zcM]at hh;obtain ⟨h1,h2,h3⟩:=hh;obtain ⟨g1,g2,g3⟩:=zct h1;have hq:hasB (zcI (zdv h m g) page need) 8=true:=zbc2 (z3k h1) h3;have hsl:=zuv (zgR g1 _ (zbt g2 mZ)) hq;have hf:=zea hs g1;refine ⟨⟨hf,g2,g3,hq,zO6 h2,hsl⟩,⟨z0h hf g2,zen g2,?_,hq,zO6 h2,?_⟩⟩
 .have e:zd1 (zbO h m (zcI (zdv h m g) page need)).Mons=zd1 h.Mons:=zA0 g2 rfl;rw[zNq e];exact g3
 .obtain ⟨k,rfl,hk⟩:=zds (n:=h.Mons.length) g2;unfold zbO;rw[zcX hk];exact hsl
theorem zuZ {h:Host}{b:List Entry}{m g page need:Int}{io:Bool}(hs:SmH h)(hh:zb5 h m g=true):Kp h (lookOf h b m g page need io).1:=by
 have hf:=zea hs (zct hh).1;unfold lookOf;cases h1:zbX h m g page need
 .exact ⟨hf.1,rfl⟩
 .obtain ⟨A,B⟩:=zFj hs h1;simp only[cT];cases ieq need 2
  .exact zXx A
  .have k:=zXx (b:=b) (page:=page) (io:=io) B;have e:zd1 (zbO h m (zcI (zdv h m g) page need)).Mons=zd1 h.Mons:=zA0 A.hm rfl;exact ⟨k.shape,k.gs.trans e⟩
def zj0 (x:Host×Int×Bool):List AV:=[.agg (zS x.1),.one (.i .i64 x.2.1),.one (.b x.2.2)]
theorem zhj {h:Host}{b:List Entry}{m g page need:Int}{io:Bool}(hh:zbX h m g page need=false):lookOf h b m g page need io=(h,-1,false):=by
 unfold lookOf;rw[hh];rfl
theorem zoE {h:Host}{m g page need:Int}(hh:zb5 h m g=false):zbX h m g page need=false:=by
 unfold zbX;rw[hh];rfl
theorem zQh {h:Host}{m g:Int}(hh:zbE h=false):zb5 h m g=false:=by
 unfold zb5;rw[hh];rfl
theorem zQi {h:Host}{m g:Int}(hh:hasB m (ln h.Mons)=false):zb5 h m g=false:=by
 unfold zb5;rw[hh];cases zbE h<;>rfl
theorem zQj {h:Host}{m g:Int}(hh:hasB g (ln (ix h.Mons m mZ).Guests)=false):zb5 h m g=false:=by
 unfold zb5;rw[hh];cases zbE h<;>cases hasB m (ln h.Mons)<;>rfl
theorem zQk {h:Host}{m g:Int}(h1:zbE h=true)(h2:hasB m (ln h.Mons)=true)(h3:hasB g (ln (ix h.Mons m mZ).Guests)=true):zb5 h m g=true:=by
 unfold zb5;rw[h1,h2,h3];rfl
structure LookF (r:Host) (m g:Int):Prop where
 hm:hasB m (ln r.Mons)=true
 hg:hasB g (ln (ix r.Mons m mZ).Guests)=true
 ht:hasB g (ln (ix r.Mons m mZ).Tables)=true
 hk:SmK (zcG r m g)
 hb:r.Buffer.length<=1048576
 hi:r.IoBuffer.length<=1048576
theorem zmm {h r:Host}{m g:Int}(k:Kp h r)(hm:hasB m (ln h.Mons)=true)(hg:hasB g (ln (ix h.Mons m mZ).Guests)=true):LookF r m g:=by
 obtain ⟨g1,g2⟩:=zb7 k.shape (k.has hm);have hg':hasB g (ln (ix r.Mons m mZ).Guests)=true:=by rw[zNq k.gs];exact hg
 have ht:hasB g (ln (ix r.Mons m mZ).Tables)=true:=by rw[ln,g2.2.2.2];exact hg'
 exact ⟨k.has hm,hg',ht,g1.2.2.2.2.2.2 _ (zbt ht _),k.shape.1.2.2.1,k.shape.1.2.2.2⟩
@[simp] abbrev zkT (h:Host)(b:List Entry)(m g page need:Int)(io:Bool):Bool:=pc (zbA h)
@[simp] abbrev ze7 (h:Host)(b:List Entry)(m g page need:Int)(io:Bool):Host:=(lookOf h b m g page need io).1
@[simp] abbrev zkS (h:Host)(b:List Entry)(m g page need:Int)(io:Bool):Int:=(lookOf h b m g page need io).2.1
@[simp] abbrev zg8 (h:Host)(b:List Entry)(m g page need:Int)(io:Bool):Bool:=(lookOf h b m g page need io).2.2
def ztM:List AV->Option (Bool×List AV)
 | [.agg [.s (.sl .int) c,.s .mon d,.s .entry e,.s .entry f],.one (.s .entry g),.one (.i .i64 h),.one (.i .i64 j),.one (.i .i64 k),.one (.i .i64 l),.one (.b m)]=>some ((zkT (⟨c,d,e,f⟩:Host) g h j k l m),[aH (ze7 (⟨c,d,e,f⟩:Host) g h j k l m),aI (zkS (⟨c,d,e,f⟩:Host) g h j k l m),aB (zg8 (⟨c,d,e,f⟩:Host) g h j k l m)])
 | _=>none
abbrev zUm (u9_11:lM)(u9_12:lN)(u9_13:lE)(u9_14:lE)(u9_0:Int)(u9_5:Int)(u9_3:Int):Mon :=
 (ix (zoL (⟨u9_11,u9_12,u9_13,u9_14⟩:Host) u9_0 u9_5 u9_3).Mons u9_0 zh)
abbrev zUn (a0:Host)(a2 a3:Int)(a4 a5:Int):Int :=
 (zkm (ix (ix a0.Mons a2 zh).Guests a3 zo).Live a4 a5)
def zP6 (N:Nat)(u11_0:Int)(u11_2:lM)(u11_3:lN)(u11_4:lE)(u11_5:lE):OA:=
 (some [(aH (⟨u11_2,u11_3,u11_4,u11_5⟩:Host)),(aI u11_0),(aB true)])
def zqx (N:Nat)(u10_0:Int)(u10_1:Bool)(u10_2:Int)(u10_7:Int)(u10_8:Int)(u10_9:lM)(u10_10:lN)(u10_11:lE)(u10_12:lE)(u10_13:lM)(u10_14:lN)(u10_15:lE)(u10_16:lE):OA:=
 let y0:=(⟨u10_2,u10_0,u10_7,u10_8⟩:Entry); (share (fun (s11:(Int×(Int×(lM×(lN×(lE×(lE×(lM×(lN×(lE×(lE×Unit)))))))))))=>(zP6 N s11.1 s11.2.2.1 s11.2.2.2.1 s11.2.2.2.2.1 s11.2.2.2.2.2.1)) (fun r11=>(cond u10_1 (oN (zqf u10_12 y0) (r11 (u10_7,(u10_8,(u10_9,(u10_10,(u10_11,((zqe u10_12 y0),(u10_13,(u10_14,(u10_15,(u10_16,())))))))))))) (oN (zqf u10_11 y0) (r11 (u10_7,(u10_8,(u10_9,(u10_10,((zqe u10_11 y0),(u10_12,(u10_13,(u10_14,(u10_15,(u10_16,())))))))))))))))
def zti (N:Nat)(u9_11:lM)(u9_12:lN)(u9_13:lE)(u9_14:lE)(u9_0:Int)(u9_5:Int)(u9_3:Int)(u9_1:Int)(u9_2:Int)(r10:((Int×(Bool×(Int×(Int×(Int×(Int×(Int×(Int×(Int×(lM×(lN×(lE×(lE×(lM×(lN×(lE×(lE×Unit))))))))))))))))))->OA)(u9_4:Bool)(u9_6:Int)(u9_7:Int)(u9_8:Int)(u9_9:Int)(u9_10:Int)(u9_15:lM)(u9_16:lN)(u9_17:lE)(u9_18:lE):OA:=
 let y7:=(⟨u9_11,u9_12,u9_13,u9_14⟩:Host);let y1:=(zoL y7 u9_0 u9_5 u9_3);let y3:=(inb u9_0 (ln y1.Mons));let y0:=(zUm u9_11 u9_12 u9_13 u9_14 u9_0 u9_5 u9_3);let y6:=(ix y0.Tables u9_1 zcU);let y4:=(ix y0.Guests u9_1 zo).Live; (oN (znE y7 u9_0 u9_5 u9_3) (oN y3 (oN y3 (oN (inb u9_1 (ln y0.Tables)) (oN y3 (oN (inb u9_1 (ln y0.Guests)) (oN y3 (oN (zLS y6 y4 y0.Outer u9_2) (oN (inb u9_1 (ln y0.Tables)) (share (up y1.Mons u9_0 ({ y0 with Tables:=(up y0.Tables u9_1 (zPs y6 y4 y0.Outer u9_2)) }:Mon)) (fun x11=>let y5:=(ix x11 u9_0 zh).Tables;let y2:=(ix y5 u9_1 zcU); (oN (inb u9_0 (ln x11)) (oN (inb u9_1 (ln y5)) (oN (zG1 y2 u9_2) (r10 (u9_2,(u9_4,(u9_6,(u9_7,(u9_8,(u9_9,(u9_10,((zu5 y2 u9_2).Page,((zu5 y2 u9_2).Rights,(y1.Memory,(x11,(y1.Buffer,(y1.IoBuffer,(u9_15,(u9_16,(u9_17,(u9_18,()))))))))))))))))))))))))))))))))
def zl2 (N:Nat)(u9_0:Int)(u9_1:Int)(u9_2:Int)(u9_3:Int)(u9_4:Bool)(u9_5:Int)(u9_6:Int)(u9_7:Int)(u9_8:Int)(u9_9:Int)(u9_10:Int)(u9_11:lM)(u9_12:lN)(u9_13:lE)(u9_14:lE)(u9_15:lM)(u9_16:lN)(u9_17:lE)(u9_18:lE):OA:=
 let y3:=(ix u9_12 u9_0 zh).Tables;let y0:=(ix y3 u9_1 zcU);let y2:=(zu5 y0 u9_2); (oN (inb u9_0 (ln u9_12)) (oN (inb u9_1 (ln y3)) (oN (zG1 y0 u9_2) (share (fun (s10:(Int×(Bool×(Int×(Int×(Int×(Int×(Int×(Int×(Int×(lM×(lN×(lE×(lE×(lM×(lN×(lE×(lE×Unit))))))))))))))))))=>(zqx N s10.1 s10.2.1 s10.2.2.1 s10.2.2.2.2.2.2.2.1 s10.2.2.2.2.2.2.2.2.1 s10.2.2.2.2.2.2.2.2.2.1 s10.2.2.2.2.2.2.2.2.2.2.1 s10.2.2.2.2.2.2.2.2.2.2.2.1 s10.2.2.2.2.2.2.2.2.2.2.2.2.1 s10.2.2.2.2.2.2.2.2.2.2.2.2.2.1 s10.2.2.2.2.2.2.2.2.2.2.2.2.2.2.1 s10.2.2.2.2.2.2.2.2.2.2.2.2.2.2.2.1 s10.2.2.2.2.2.2.2.2.2.2.2.2.2.2.2.2.1)) (fun r10=>let y1:=(zti N u9_11 u9_12 u9_13 u9_14 u9_0 u9_5 u9_3 u9_1 u9_2 r10 u9_4 u9_6 u9_7 u9_8 u9_9 u9_10 u9_15 u9_16 u9_17 u9_18); (cond (nB (zG0 y0 u9_2)) y1 (cond (ieq y2.Page (-1)) y1 (oN (zgN y2.Rights u9_3) (cond (nB (zhI y2.Rights u9_3)) y1 (r10 (u9_2,(u9_4,(u9_6,(u9_7,(u9_8,(u9_9,(u9_10,(y2.Page,(y2.Rights,(u9_11,(u9_12,(u9_13,(u9_14,(u9_15,(u9_16,(u9_17,(u9_18,())))))))))))))))))))))))))))
def ztj (N:Nat)(a2:Int)(a0:Host)(a3 a4 a5:Int)(a1:lE)(a6:Bool):OA:=
 let y3:=(zu7 a2 a3);let y2:=(zUn a0 a2 a3 a4 a5);let y1:=(ix a0.Mons a2 zh);let y5:=(ix y1.Guests a3 zo).Live;let y0:=(znT a1 y3 a4);let y4:=y0.Rights; (oN (inb a2 (ln a0.Mons)) (oN (inb a3 (ln y1.Guests)) (oN (ztS y5 a4 a5) (cond (nB (zkn y5 a4 a5)) (some [(aH a0),(aI (-1)),(aB false)]) (oN (zlI a2 a3) (cond (ieq a5 2) (oN (inb a2 (ln a0.Mons)) (oN (inb y2 (ln y1.Dirty)) (share (up a0.Mons a2 ({ y1 with Dirty:=(up y1.Dirty y2 true) }:Mon)) (fun x8=>(oN (znU a1 y3 a4) (share (fun (s9:(Int×(Int×(Int×(Int×(Bool×(Int×(Int×(Int×(Int×(Int×(Int×(lM×(lN×(lE×(lE×(lM×(lN×(lE×(lE×Unit))))))))))))))))))))=>(zl2 N s9.1 s9.2.1 s9.2.2.1 s9.2.2.2.1 s9.2.2.2.2.1 s9.2.2.2.2.2.1 s9.2.2.2.2.2.2.1 s9.2.2.2.2.2.2.2.1 s9.2.2.2.2.2.2.2.2.1 s9.2.2.2.2.2.2.2.2.2.1 s9.2.2.2.2.2.2.2.2.2.2.1 s9.2.2.2.2.2.2.2.2.2.2.2.1 s9.2.2.2.2.2.2.2.2.2.2.2.2.1 s9.2.2.2.2.2.2.2.2.2.2.2.2.2.1 s9.2.2.2.2.2.2.2.2.2.2.2.2.2.2.1 s9.2.2.2.2.2.2.2.2.2.2.2.2.2.2.2.1 s9.2.2.2.2.2.2.2.2.2.2.2.2.2.2.2.2.1 s9.2.2.2.2.2.2.2.2.2.2.2.2.2.2.2.2.2.1 s9.2.2.2.2.2.2.2.2.2.2.2.2.2.2.2.2.2.2.1)) (fun r9=>(cond (zkk a1 y3 a4) (oN (zgN y4 a5) (cond (zhI y4 a5) (some [(aH ({ a0 with Mons:=x8 }:Host)),(aI y0.Host),(aB true)]) (r9 (a2,(a3,(a4,(a5,(a6,(y2,(y3,(y0.Tag,(y0.Page,(y0.Host,(y4,(a0.Memory,(x8,(a0.Buffer,(a0.IoBuffer,([],([],([],([],())))))))))))))))))))))) (r9 (a2,(a3,(a4,(a5,(a6,(y2,(y3,(y0.Tag,(y0.Page,(y0.Host,(y4,(a0.Memory,(x8,(a0.Buffer,(a0.IoBuffer,([],([],([],([],())))))))))))))))))))))))))))) (oN (znU a1 y3 a4) (share (fun (s8:(Int×(Int×(Int×(Int×(Bool×(Int×(Int×(Int×(Int×(Int×(Int×(lM×(lN×(lE×(lE×(lM×(lN×(lE×(lE×Unit))))))))))))))))))))=>(zl2 N s8.1 s8.2.1 s8.2.2.1 s8.2.2.2.1 s8.2.2.2.2.1 s8.2.2.2.2.2.1 s8.2.2.2.2.2.2.1 s8.2.2.2.2.2.2.2.1 s8.2.2.2.2.2.2.2.2.1 s8.2.2.2.2.2.2.2.2.2.1 s8.2.2.2.2.2.2.2.2.2.2.1 s8.2.2.2.2.2.2.2.2.2.2.2.1 s8.2.2.2.2.2.2.2.2.2.2.2.2.1 s8.2.2.2.2.2.2.2.2.2.2.2.2.2.1 s8.2.2.2.2.2.2.2.2.2.2.2.2.2.2.1 s8.2.2.2.2.2.2.2.2.2.2.2.2.2.2.2.1 s8.2.2.2.2.2.2.2.2.2.2.2.2.2.2.2.2.1 s8.2.2.2.2.2.2.2.2.2.2.2.2.2.2.2.2.2.1 s8.2.2.2.2.2.2.2.2.2.2.2.2.2.2.2.2.2.2.1)) (fun r8=>(cond (zkk a1 y3 a4) (oN (zgN y4 a5) (cond (zhI y4 a5) (some [(aH a0),(aI y0.Host),(aB true)]) (r8 (a2,(a3,(a4,(a5,(a6,(y2,(y3,(y0.Tag,(y0.Page,(y0.Host,(y4,(a0.Memory,(a0.Mons,(a0.Buffer,(a0.IoBuffer,([],([],([],([],())))))))))))))))))))))) (r8 (a2,(a3,(a4,(a5,(a6,(y2,(y3,(y0.Tag,(y0.Page,(y0.Host,(y4,(a0.Memory,(a0.Mons,(a0.Buffer,(a0.IoBuffer,([],([],([],([],()))))))))))))))))))))))))))))))
def zru (N:Nat)(a0:Host)(a1:lE)(a2 a3:Int)(a4 a5:Int)(a6:Bool):OA:=
 let y1:=(ztj N a2 a0 a3 a4 a5 a1 a6);let y0:=(wsub .i64 (ln (ix a0.Mons a2 zh).Guests) 1); (oN (zfi a0) (cond (nB (zfh a0)) (some [(aH a0),(aI (-1)),(aB false)]) (oN (zL a2 0 (wsub .i64 (ln a0.Mons) 1)) (cond (nB (zO a2 0 (wsub .i64 (ln a0.Mons) 1))) (some [(aH a0),(aI (-1)),(aB false)]) (oN (inb a2 (ln a0.Mons)) (oN (zL a3 0 y0) (cond (nB (zO a3 0 y0)) (some [(aH a0),(aI (-1)),(aB false)]) (cond (ine a5 1) (cond (ine a5 2) (some [(aH a0),(aI (-1)),(aB false)]) y1) y1))))))))
def ztW:FuncId->Nat->Option Tmpl:=zk [(222,999999,{ n:=0,tm:=[],lo:=[],ro:=[] }),(222,1007023,{ n:=210,tm:=[(2,ti),(3,ti),(4,ti),(5,ti),(6,.b),(7,.lp 0 0),(14,.lp 1 0),(17,ti),(19,ti),(20,.lp 2 0)],lo:=[(0,[.sl 0 [],.sl 1 [],.sl 2 [],.sl 3 []]),(1,[.sl 4 [],.sl 5 [],.sl 6 [],.sl 7 []]),(2,[ti,ti,ti,ti])],ro:=[(0,(.sl .int),true),(1,.mon,true),(2,.entry,true),(3,.entry,true),(4,(.sl .int),true),(5,.mon,true),(6,.entry,true),(7,.entry,true)],kr:=1 }),(222,1009011,{ n:=210,tm:=[(4,ti),(6,.b),(7,.lp 0 0),(14,.lp 1 0),(19,ti),(20,.lp 2 0),(22,.lp 3 0)],lo:=[(0,[.sl 0 [],.sl 1 [],.sl 2 [],.sl 3 []]),(1,[.sl 4 [],.sl 5 [],.sl 6 [],.sl 7 []]),(2,[ti,ti,ti,ti]),(3,[ti,ti])],ro:=[(0,(.sl .int),true),(1,.mon,true),(2,.entry,true),(3,.entry,true),(4,(.sl .int),true),(5,.mon,true),(6,.entry,true),(7,.entry,true)],kr:=1 }),(222,1005003,{ n:=210,tm:=[(7,.lp 0 0),(14,.lp 1 0),(22,.lp 2 0)],lo:=[(0,[.sl 0 [],.sl 1 [],.sl 2 [],.sl 3 []]),(1,[.sl 4 [],.sl 5 [],.sl 6 [],.sl 7 []]),(2,[ti,ti])],ro:=[(0,(.sl .int),true),(1,.mon,true),(2,.entry,true),(3,.entry,true),(4,(.sl .int),true),(5,.mon,true),(6,.entry,true),(7,.entry,true)],kr:=1 })]
theorem zSy (N:Nat)(a0:Host)(a2 a3:Int)(a4 a5:Int)(a6:Bool):zWn (cQ znJ zpD z3Y z4A) ztW N 12 222 [true,true,true,true,false,false,false,false,false,false] [(4,2)] 1 1 [[0],[1],[2],[4],[7]] .mon [aH a0,aS .entry a0.Buffer,aI a2,aI a3,aI a4,aI a5,aB a6]=zru N a0 a0.Buffer a2 a3 a4 a5 a6:=by kernel_rfl
theorem zSz (N:Nat)(a0:Host)(a2 a3:Int)(a4 a5:Int)(a6:Bool):zWn (cQ znJ zpD z3Y z4A) ztW N 12 222 [true,true,true,true,false,false,false,false,false,false] [(4,3)] 1 1 [[0],[1],[2],[4],[7]] .mon [aH a0,aS .entry a0.IoBuffer,aI a2,aI a3,aI a4,aI a5,aB a6]=zru N a0 a0.IoBuffer a2 a3 a4 a5 a6:=by kernel_rfl
theorem zGO {N:Nat}{r:Host}{m g page:Int}{io:Bool}{z1 z2 z3 z4}(hb:r.Buffer.length<=1048576)(hi:r.IoBuffer.length<=1048576) :
 zqx N page io (zgy m g) (zfC (zcG r m g) page).Page (zfC (zcG r m g) page).Rights r.Memory r.Mons r.Buffer r.IoBuffer z1 z2 z3 z4=some (zj0 (ze1 r m g page io)):=by
 unfold zqx oN
 conv=>zeta
 refine shr ?_;cases io
 .exact zbN rfl (must (zbf hb) rfl)
 .exact must rfl (must (zbf hi) rfl)
theorem zXb {N:Nat}{r:Host}{m g page need q:Int}{io:Bool}{R:OA}{r11}{u6 u7 u8 u9 u10 z1 z2 z3 z4}(A:LookAt r m g q need)(hr:r11 (page,(io,(u6,(u7,(u8,(u9,(u10,((zfC (zcG (zcW (mended r m q need) m g page) m g) page).Page,((zfC (zcG (zcW (mended r m q need) m g page) m g) page).Rights,((zcW (mended r m q need) m g page).Memory,((zcW (mended r m q need) m g page).Mons,((zcW (mended r m q need) m g page).Buffer,((zcW (mended r m q need) m g page).IoBuffer,(z1,(z2,(z3,(z4,())))))))))))))))))=R) :
 zti N r.Memory r.Mons r.Buffer r.IoBuffer m q need g page r11 io u6 u7 u8 u9 u10 z1 z2 z3 z4=R:=by
 have M:=zmm A.kp A.hm A.hg;have F:=zmm (A.fill page) A.hm A.hg;unfold zti oN
 conv=>zeta
 exact must (zbf A.mend) (must (zx M.hm) (must (zx M.hm) (must (zx M.ht) (must (zx M.hm) (must (zx M.hg) (must (zx M.hm) (must (zbf M.hk) (must (zx M.ht) (shr (must (zx F.hm) (must (zx F.ht) (must (zbf F.hk) hr))))))))))))
theorem z2l {r:Host}{m g page need:Int}(h:znl (zcG r m g) page=false):zeE r m g page need=true:=by
 unfold zeE;rw[h];rfl
theorem z2m {r:Host}{m g page need:Int}(h:ieq (zfC (zcG r m g) page).Page (-1)=true):zeE r m g page need=true:=by
 unfold zeE;rw[h];cases znl (zcG r m g) page<;>rfl
theorem z2o {r:Host}{m g page need:Int}(h:enough (zfC (zcG r m g) page).Rights need=false):zeE r m g page need=true:=by
 unfold zeE;rw[h];cases znl (zcG r m g) page<;>cases ieq (zfC (zcG r m g) page).Page (-1)<;>rfl
theorem z2p {r:Host}{m g page need:Int}(h1:znl (zcG r m g) page=true)(h2:ieq (zfC (zcG r m g) page).Page (-1)=false)(h3:enough (zfC (zcG r m g) page).Rights need=true):zeE r m g page need=false:=by
 unfold zeE;rw[h1,h2,h3];rfl
theorem zu0 {r:Host}{m g page need q:Int}{io:Bool}(h:zeE r m g page need=true):(cond (zeE r m g page need) (ze1 (zcW (mended r m q need) m g page) m g page io) (ze1 r m g page io))=ze1 (zcW (mended r m q need) m g page) m g page io:=by
 rw[h];rfl
theorem z14 {r:Host}{m g page need q:Int}{io:Bool}(h:zeE r m g page need=false):(cond (zeE r m g page need) (ze1 (zcW (mended r m q need) m g page) m g page io) (ze1 r m g page io))=ze1 r m g page io:=by
 rw[h];rfl
theorem zGP {N:Nat}{r:Host}{m g page need q:Int}{io:Bool}{u7 u8 u9 u10 z1 z2 z3 z4}(A:LookAt r m g q need) :
 zl2 N m g page need io q (zgy m g) u7 u8 u9 u10 r.Memory r.Mons r.Buffer r.IoBuffer z1 z2 z3 z4=some (zj0 (cond (zeE r m g page need) (ze1 (zcW (mended r m q need) m g page) m g page io) (ze1 r m g page io))):=by
 have M:=zmm ⟨A.fit.1,rfl⟩ A.hm A.hg;have F:=zmm (A.fill page) A.hm A.hg;unfold zl2 oN nB
 conv=>zeta
 refine must (zx M.hm) (must (zx M.ht) (must (zbf M.hk) (shr (brN (fun h1=>?_) (fun h1=>br (fun h2=>?_) (fun h2=>must rfl (brN (fun h3=>?_) (fun h3=>?_))))))))
 .rw [zu0 (z2l h1)];exact zXb A (zGO (r:=zcW (mended r m q need) m g page) (m:=m) (g:=g) F.hb F.hi)
 .rw [zu0 (z2m h2)];exact zXb A (zGO (r:=zcW (mended r m q need) m g page) (m:=m) (g:=g) F.hb F.hi)
 .rw [zu0 (z2o h3)];exact zXb A (zGO (r:=zcW (mended r m q need) m g page) (m:=m) (g:=g) F.hb F.hi)
 .rw [z14 (z2p h1 h2 h3)];exact zGO (r:=r) (m:=m) (g:=g) M.hb M.hi
theorem zGS {b:List Entry}{m g page need:Int}(h:(zvn b m g page).isSome=false):zkw b m g page need=false:=by
 unfold zkw;rw[h];rfl
theorem zou {b:List Entry}{m g page need:Int}{x:Bool}(h1:(zvn b m g page).isSome=true)(h:enough ((zvn b m g page).getD ⟨0,0,0,0⟩).Rights need=x):zkw b m g page need=x:=by
 unfold zkw;rw[h1,h];rfl
theorem zoD {r:Host}{b:List Entry}{m g page need q:Int}{io:Bool}(h:zkw b m g page need=false):zic r b m g page need q io=bif zeE r m g page need then ze1 (zcW (mended r m q need) m g page) m g page io else ze1 r m g page io:=by
 unfold zic;rw[h];rfl
theorem zGW {r:Host}{b:List Entry}{m g page need q:Int}{io:Bool}(h:zkw b m g page need=true):zic r b m g page need q io=(r,((zvn b m g page).getD ⟨0,0,0,0⟩).Host,true):=by
 unfold zic;rw[h];rfl
theorem zLI {h:Host}{b:List Entry}{m g page need:Int}{io:Bool}(hh:zbX h m g page need=true):lookOf h b m g page need io=zic (cond (ieq need 2) (zbO h m (zcI (zdv h m g) page need)) h) b m g page need (zcI (zdv h m g) page need) io:=by
 unfold lookOf;rw[hh];rfl
theorem z5z {N:Nat}{r:Host}{b:List Entry}{m g page need:Int}{io:Bool}(hs:SmH r)(hg:zb5 r m g=true)(hn:zhB need=true) :
 ztj N m r g page need b io=some (zj0 (lookOf r b m g page need io)):=by
 obtain ⟨g1,g2,g3⟩:=zct hg;unfold ztj oN nB
 conv=>zeta
 refine must (zx g2) (must (zx g3) (must rfl (brN (fun hw=>?_) (fun hw=>must rfl ?_))))
 .have:zbX r m g page need=false:=by
   unfold zbX;rw[hg,hn,show zgG (zdv r m g) page need=false from hw]
   rfl
  rw[zhj this];rfl
 .have hl:zbX r m g page need=true:=by
   unfold zbX;rw[hg,hn,show zgG (zdv r m g) page need=true from hw]
   rfl
  obtain ⟨A,B⟩:=zFj hs hl;rw[zLI hl];have hd:hasB (zcI (zdv r m g) page need) (ln (ix r.Mons m mZ).Dirty)=true:=zdc (zb7 A.fit.1 g2).2.2.2.1 A.hq;refine br (fun h2=>?_) (fun h2=>?_)
  .rw [h2]
   show _=some (zj0 (zic (zbO r m (zcI (zdv r m g) page need)) b m g page need (zcI (zdv r m g) page need) io))
   refine must (zx g2) (must (zx hd) (shr (must rfl (shr (br (fun f1=>must rfl (br (fun f2=>?_) (fun f2=>?_))) (fun f1=>?_))))))
   .rw [zGW (zou f1 f2)];rfl
   .rw [zoD (zou f1 f2)];exact zGP (r:=zbO r m (zcI (zdv r m g) page need)) B
   .rw [zoD (zGS f1)];exact zGP (r:=zbO r m (zcI (zdv r m g) page need)) B
  .rw [h2]
   show _=some (zj0 (zic r b m g page need (zcI (zdv r m g) page need) io))
   refine must rfl (shr (br (fun f1=>must rfl (br (fun f2=>?_) (fun f2=>?_))) (fun f1=>?_)))
   .rw [zGW (zou f1 f2)];rfl
   .rw [zoD (zou f1 f2)];exact zGP A
   .rw [zoD (zGS f1)];exact zGP A
theorem zVW (a0:Host)(a1:List Entry)(a2 a3:Int)(a4 a5:Int)(a6:Bool)(hb:zbC big [aH a0,aS .entry a1,aI a2,aI a3,aI a4,aI a5,aB a6])(hc:zkT a0 a1 a2 a3 a4 a5 a6=true):∃N,zru N a0 a1 a2 a3 a4 a5 a6=some [aH (ze7 a0 a1 a2 a3 a4 a5 a6),aI (zkS a0 a1 a2 a3 a4 a5 a6),aB (zg8 a0 a1 a2 a3 a4 a5 a6)]:=by
 have hs:=(zF a0).1 (zy.1 hc);refine ⟨0,?_⟩
 show _=some (zj0 (lookOf a0 a1 a2 a3 a4 a5 a6))
 unfold zru oN nB
 conv=>zeta
 refine must rfl (brN (fun h1=>?_) (fun h1=>must rfl ?_))
 .rw [zhj (zoE (zQh h1))];rfl
 rw[show zO a2 0 (wsub .i64 (ln a0.Mons) 1)=hasB a2 (ln a0.Mons) from zrr hs.2.1.1 a2]
 refine brN (fun h2=>?_) (fun h2=>must (zx h2) (must rfl ?_))
 .rw [zhj (zoE (zQi h2))];rfl
 have hl:(ix a0.Mons a2 mZ).Guests.length<=1048576:=(hs.2.1.2 _ (zbt h2 _)).2.2.2.1.1;rw[show zO a3 0 (wsub .i64 (ln (ix a0.Mons a2 zh).Guests) 1)=hasB a3 (ln (ix a0.Mons a2 mZ).Guests) from zrr hl a3]
 refine brN (fun h3=>?_) (fun h3=>?_)
 .rw [zhj (zoE (zQj h3))];rfl
 have hg:=zQk h1 h2 h3;have hno:∀{n:Int},zhB n=false->zbX a0 a2 a3 a4 n=false:=fun {n} h=>by
  unfold zbX;rw[hg,h];rfl
 rw[zhR,zhR];cases h4:ieq a5 1
 .cases h5:ieq a5 2
  .have:zhB a5=false:=by unfold zhB;rw[h4,h5];rfl
   rw[zhj (hno this)];rfl
  .exact z5z hs hg (by unfold zhB;rw[h4,h5];rfl)
 .exact z5z hs hg (by unfold zhB;rw[h4];rfl)
theorem zOm:zdY Tryz.prog 222 [true,true,true,true,false,false,false,false,false,false] (some (1,1,[[0],[1],[2],[4],[7]])) ztM:=by
 refine zQl (kt:=.mon) (zcD zhr zi zbj zAz) (zdT (by kernel_rfl)) ?_
 intro al avs rs hal heq hl hr h;have hb:=zi1 hr;have hal':al=[(4,2)]\/al=[(4,3)]:=by
  rw[show zh0 222=[[(4,2)],[(4,3)]] from by kernel_rfl]at hal
  simpa using hal
 unfold ztM at h;split at h
 .rename_i a0_0 a0_1 a0_2 a0_3 a1 a2 a3 a4 a5 a6;obtain ⟨hc,rfl⟩:=zdO h;obtain ⟨N,hN⟩:=zVW (⟨a0_0,a0_1,a0_2,a0_3⟩:Host) a1 a2 a3 a4 a5 a6 hb hc;refine ⟨⟨_,rfl⟩,rfl,ztW,N,12,?_⟩;rcases hal' with rfl|rfl
  .have e:=heq 4 2 (by simp)
   simp only[zA,kB,AV.cvs] at e;cases e;exact (zSy N (⟨a0_0,a0_1,a0_2,a0_3⟩:Host) a2 a3 a4 a5 a6).trans hN
  .have e:=heq 4 3 (by simp)
   simp only[zA,kB,AV.cvs] at e;cases e;exact (zSz N (⟨a0_0,a0_1,a0_2,a0_3⟩:Host) a2 a3 a4 a5 a6).trans hN
 .cases h
def z8D:ze9:=[(222,([true,true,true,true,false,false,false,false,false,false],(some (1,1,[[0],[1],[2],[4],[7]])),ztM))]++z4A
theorem zgz:zdZ z8D:=zro zAz (by
 intro x hx;simp only[qI,qX,or_false]at hx;rcases hx with rfl
 .exact zOm)
def gOf (h:Host)(m g:Int):Guest:=ix (ix h.Mons m mZ).Guests g gZ
def zgn (h:Host)(m g:Int)(x:Guest):Host:={ h with Mons:=up h.Mons m { ix h.Mons m mZ with Guests:=up (ix h.Mons m mZ).Guests g x } }
def ziW (h:Host)(m g:Int)(x:Guest)(w:Bool):Host×Int×Bool:=lookOf h h.Buffer m g (zb0 (address x)) (zff w) false
def ziT (L:Host×Int×Bool)(m g:Int)(x:Guest)(w:Bool):Host :=
 bif L.2.2 then (cond w (zgn { L.1 with Memory:=zer L.1.Memory L.2.1 (zfF (address x)) x.A } m g (zbJ x)) (zgn L.1 m g (loaded x (cellAt L.1.Memory L.2.1 (zfF (address x))))))
 else zgn L.1 m g (stopped x (zwT (zb0 (address x)) w))
def owned (h:Host)(m:Int):Host:=bif ilt (ix h.Mons m mZ).Own 1000000000 then { h with Mons:=up h.Mons m { ix h.Mons m mZ with Own:=zD .i64 (ix h.Mons m mZ).Own 1 } } else h
def zlz (h:Host)(m n:Int):Host:=bif ilt (ln (ix h.Mons m mZ).Outs) 40 then { h with Mons:=up h.Mons m { ix h.Mons m mZ with Outs:=ap (ix h.Mons m mZ).Outs [n] } } else h
def zf9 (h:Host)(m:Int)(x:Guest)(w:Int):Host:=bif (cond (ine w 6) (ieq (zkV (ix h.Mons m mZ).Traps x.Ctl.Traps (zfs w)) 2) false) then owned h m else h
def zj7 (h:Host)(m:Int)(x:Guest)(w:Int):Host:=bif (cond (zhK x.Ctl.Traps w) (ieq w 5) false) then zlz h m (zdI x.Prog x.Pc).X else h
def zk3 (h:Host)(m g:Int)(x:Guest)(w:Int):Host:=zgn (zj7 (zf9 h m x w) m x w) m g (zga x x.Ctl.Traps w)
def zPG (h:Host)(m g:Int)(x:Guest)(w:Int):Host×Bool :=
 bif ieq w 0 then (h,false) else (bif ieq w 1 then (zgn h m g (interrupted x),true) else (bif ieq w 2 then (zgn h m g (plainly x),true) else
  (cond (cond (ieq w 3) true (ieq w 4)) (ziT (ziW h m g x (ieq w 4)) m g x (ieq w 4),true) (zk3 h m g x w,true))))
def zbq (h:Host)(m g:Int):Host×Bool:=bif zb5 h m g then zPG h m g (gOf h m g) (zG (gOf h m g)) else (h,false)
def zdS (x:Host×Bool):List AV:=[.agg (zS x.1),.one (.b x.2)]
theorem zks {h:Host}{m g:Int}(hs:SmH h)(hm:hasB m (ln h.Mons)=true)(hg:hasB g (ln (ix h.Mons m mZ).Guests)=true):SmG (gOf h m g):=(hs.2.1.2 _ (zbt hm _)).2.2.2.1.2 _ (zbt hg _)
theorem z4p {h:Host}{m g:Int}{x:Guest}(hs:Shape h)(hm:hasB m (ln h.Mons)=true)(hx:SmG x):Shape (zgn h m g x):=by
 obtain ⟨g1,g2⟩:=zb7 hs hm;exact ziP hs ⟨g1.1,g1.2.1,g1.2.2.1,zG7 g1.2.2.2.1 hx,g1.2.2.2.2⟩ ⟨g2.1,g2.2.1,g2.2.2.1,by simpa using g2.2.2.2⟩
theorem zbcg (o i t:Int):ieq (zkV o i t) 1=zdr i t:=by
 unfold zkV;cases zdr i t
 .cases zdr o t<;>rfl
 .rfl
theorem zbch {o i t:Int}(h:zdr i t=true):ieq (zkV o i t) 2=false:=by
 unfold zkV;rw[h];rfl
theorem zpE {h:Host}{m:Int}(hm:hasB m (ln h.Mons)=true)(x:Mon):ix (up h.Mons m x) m mZ=x:=by
 obtain ⟨k,rfl,hk⟩:=zds (n:=h.Mons.length) hm;exact zcX hk _ _
@[simp] abbrev zeA (h:Host)(m g:Int):Bool:=pc (zbA h)
@[simp] abbrev zGq (h:Host)(m g:Int):Host:=(zbq h m g).1
@[simp] abbrev zGr (h:Host)(m g:Int):Bool:=(zbq h m g).2
theorem zWo {α:Type}{l:List α}{x:α}(h:ilt (ln l) 40=true):few (ln (ap l [x]))=true:=by
 have:=qD h;simp only[ln] at this;exact zeO (by simp[ap];omega)
theorem z2s {h:Host}{m:Int}{x:Guest}{w:Int}(hh:(cond (zhK x.Ctl.Traps w) (ieq w 5) false)=false):zj7 h m x w=h:=by
 unfold zj7;rw[hh];rfl
theorem zUi {h:Host}{m:Int}{x:Guest}{w:Int}(hh:ilt (ln (ix h.Mons m mZ).Outs) 40=false):zj7 h m x w=h:=by
 unfold zj7 zlz;rw[hh];cases (cond (zhK x.Ctl.Traps w) (ieq w 5) false)<;>rfl
theorem zZA {h:Host}{m:Int}{x:Guest}{w:Int}(h1:zhK x.Ctl.Traps w=true)(h2:ieq w 5=true)(hh:ilt (ln (ix h.Mons m mZ).Outs) 40=true):zj7 h m x w={ h with Mons:=up h.Mons m { ix h.Mons m mZ with Outs:=ap (ix h.Mons m mZ).Outs [(zdI x.Prog x.Pc).X] } }:=by
 unfold zj7 zlz;rw[h1,h2,hh];rfl
theorem zPN {h:Host}{m:Int}{x:Guest}{w:Int}(h1:zhK x.Ctl.Traps w=false):zj7 h m x w=h:=z2s (by rw[h1];rfl)
theorem zGB {h:Host}{m:Int}{x:Guest}{w:Int}(h1:ieq w 5=false):zj7 h m x w=h:=z2s (by rw[h1];cases zhK x.Ctl.Traps w<;>rfl)
theorem zOt (a:Int):(cond (ieq a a) true false)=true:=by rw[zdQ];rfl
theorem zhX {h:Host}{m g:Int}(hh:zb5 h m g=false):zbq h m g=(h,false):=by
 unfold zbq;rw[hh];rfl
theorem ziQ {h:Host}{m g:Int}(hh:zb5 h m g=true):zbq h m g=zPG h m g (gOf h m g) (zG (gOf h m g)):=by
 unfold zbq;rw[hh];rfl
theorem zmR {a b:Bool}(h:(cond a b false)=true):a=true/\b=true:=by
 cases a
 .cases h
 .exact ⟨rfl,h⟩
theorem ziV {a b:Bool}(ha:a=true)(hb:b=true):(cond a b false)=true:=by
 rw[ha];exact hb
theorem z2v {h:Host}{m:Int}{x:Guest}{w:Int}(h6:ine w 6=true)(h0:ieq (zkV (ix h.Mons m mZ).Traps x.Ctl.Traps (zfs w)) 2=true)(h9:ilt (ix h.Mons m mZ).Own 1000000000=true):zf9 h m x w={ h with Mons:=up h.Mons m { ix h.Mons m mZ with Own:=zD .i64 (ix h.Mons m mZ).Own 1 } }:=by
 unfold zf9 owned;rw[h6,h0,h9];rfl
theorem z2t {h:Host}{m:Int}{x:Guest}{w:Int}(h0:ieq (zkV (ix h.Mons m mZ).Traps x.Ctl.Traps (zfs w)) 2=false):zf9 h m x w=h:=by
 unfold zf9;rw[h0];cases ine w 6<;>rfl
theorem z2u {h:Host}{m:Int}{x:Guest}{w:Int}(h9:ilt (ix h.Mons m mZ).Own 1000000000=false):zf9 h m x w=h:=by
 unfold zf9 owned;rw[h9];cases (cond (ine w 6) (ieq (zkV (ix h.Mons m mZ).Traps x.Ctl.Traps (zfs w)) 2) false)<;>rfl
theorem zbbr {h:Host}{m:Int}{x:Guest}:zf9 h m x 6=h:=rfl
theorem zoq {h h':Host}{m g:Int}{x:Guest}{w:Int}(e:zf9 h m x w=h'):zk3 h m g x w=zgn (zj7 h' m x w) m g (zga x x.Ctl.Traps w):=by
 unfold zk3;rw[e]
theorem z8E (x:Guest):ieq (zG x) 0=true\/ieq (zG x) 1=true\/ieq (zG x) 2=true\/ieq (zG x) 3=true\/ieq (zG x) 4=true\/ieq (zG x) 5=true\/ieq (zG x) 6=true\/ieq (zG x) 7=true:=by
 cases h0:ieq (zG x) 0
 .cases h1:ieq (zG x) 1
  .cases h2:ieq (zG x) 2
   .cases h3:ieq (zG x) 3
    .cases h4:ieq (zG x) 4
     .cases h5:ieq (zG x) 5
      .cases h6:ieq (zG x) 6
       .exact .inr (.inr (.inr (.inr (.inr (.inr (.inr (z4D x h0 h1 h2 h3 h4 h5 h6)))))))
       .exact .inr (.inr (.inr (.inr (.inr (.inr (.inl rfl))))))
      .exact .inr (.inr (.inr (.inr (.inr (.inl rfl)))))
     .exact .inr (.inr (.inr (.inr (.inl rfl))))
    .exact .inr (.inr (.inr (.inl rfl)))
   .exact .inr (.inr (.inl rfl))
  .exact .inr (.inl rfl)
 .exact .inl rfl
abbrev zDb (x:Guest):Bool:=bif zeH x then ieq (zG x) 0 else false
def zpQ:List AV->Option (Bool×List AV)
 | [.agg [.s .ins c,.i .i64 d,.i .i64 e,.s .slot f,.s .slot g,.i .i64 h,.i .i64 j,.b k,.i .i64 l,.i .i64 m,.i .i64 n,.b o,.i .i64 p,.b q,.s .int r]]=>some ((zDb (⟨c,d,e,f,g,⟨h,j,k⟩,l,⟨m,n,o,p⟩,q,r⟩:Guest)),[.one (.i .i64 0)])
 | _=>none
theorem zHB:u4 200 zpQ:=by
 refine ⟨zb3.1,fun w avs xs rs hrep h=>?_⟩;unfold zpQ at h;split at h
 .obtain ⟨hc,rfl⟩:=zdO h;obtain ⟨h1,h2⟩:=zmR hc;exact zb3.2 w _ xs _ hrep (congr (congrArg (fun c v=>some (c,[AV.one (CV.i .i64 v)])) h1) (qD h2))
 .cases h
def zbaA:zV:=[(200,zpQ)]++znJ
theorem z2O:zJ zbaA:=zf zHB zhr
@[simp] abbrev zxJ (h:Host)(m g:Int):Bool:=bif zeA h m g then ieq (zG (gOf h m g)) 0 else false
@[simp] abbrev zxH (h:Host)(m g:Int):Host:=(zbq h m g).1
@[simp] abbrev zxI (h:Host)(m g:Int):Bool:=(zbq h m g).2
def zHY:Run:=rF3 dH dI dI fun b c d=>(zxJ b c d,[aH (zxH b c d),aB (zxI b c d)])
def zwC (N:Nat)(a0:Host)(a1 a2:Int):OA:=
 let y1:=(zu a0);let y0:=(ix y1.Mons a1 zh).Guests; (oN (zbI a0) (oN (zg9 y1 a1 a2) (cond (nB (zju y1 a1 a2)) (some [(aH y1),(aB false)]) (oN (inb a1 (ln y1.Mons)) (oN (inb a2 (ln y0)) (oN (zDb (ix y0 a2 zo)) (some [(aH y1),(aB false)])))))))
abbrev zDc (x:Guest):Bool:=bif zeH x then ieq (zG x) 1 else false
def zpR:List AV->Option (Bool×List AV)
 | [.agg [.s .ins c,.i .i64 d,.i .i64 e,.s .slot f,.s .slot g,.i .i64 h,.i .i64 j,.b k,.i .i64 l,.i .i64 m,.i .i64 n,.b o,.i .i64 p,.b q,.s .int r]]=>some ((zDc (⟨c,d,e,f,g,⟨h,j,k⟩,l,⟨m,n,o,p⟩,q,r⟩:Guest)),[.one (.i .i64 1)])
 | _=>none
theorem zHC:u4 200 zpR:=by
 refine ⟨zb3.1,fun w avs xs rs hrep h=>?_⟩;unfold zpR at h;split at h
 .obtain ⟨hc,rfl⟩:=zdO h;obtain ⟨h1,h2⟩:=zmR hc;exact zb3.2 w _ xs _ hrep (congr (congrArg (fun c v=>some (c,[AV.one (CV.i .i64 v)])) h1) (qD h2))
 .cases h
def zbaB:zV:=[(200,zpR)]++znJ
theorem z2P:zJ zbaB:=zf zHC zhr
@[simp] abbrev zxM (h:Host)(m g:Int):Bool:=bif zeA h m g then ieq (zG (gOf h m g)) 1 else false
@[simp] abbrev zxK (h:Host)(m g:Int):Host:=(zbq h m g).1
@[simp] abbrev zxL (h:Host)(m g:Int):Bool:=(zbq h m g).2
def zHZ:Run:=rF3 dH dI dI fun b c d=>(zxM b c d,[aH (zxK b c d),aB (zxL b c d)])
def zwD (N:Nat)(a0:Host)(a1 a2:Int):OA:=
 let y2:=(zu a0);let y0:=(ix y2.Mons a1 zh);let y1:=(ix y0.Guests a2 zo); (oN (zbI a0) (oN (zg9 y2 a1 a2) (cond (nB (zju y2 a1 a2)) (some [(aH y2),(aB false)]) (oN (inb a1 (ln y2.Mons)) (oN (inb a2 (ln y0.Guests)) (oN (zDc y1) (oN (inb a1 (ln y2.Mons)) (oN (zqc y1) (oN (inb a2 (ln y0.Guests)) (share (up y2.Mons a1 ({ y0 with Guests:=(up y0.Guests a2 (zkl y1)) }:Mon)) (fun x4=>(some [(aH ({ y2 with Mons:=x4 }:Host)),(aB true)]))))))))))))
abbrev zDd (x:Guest):Bool:=bif zeH x then ieq (zG x) 2 else false
def zpS:List AV->Option (Bool×List AV)
 | [.agg [.s .ins c,.i .i64 d,.i .i64 e,.s .slot f,.s .slot g,.i .i64 h,.i .i64 j,.b k,.i .i64 l,.i .i64 m,.i .i64 n,.b o,.i .i64 p,.b q,.s .int r]]=>some ((zDd (⟨c,d,e,f,g,⟨h,j,k⟩,l,⟨m,n,o,p⟩,q,r⟩:Guest)),[.one (.i .i64 2)])
 | _=>none
theorem zHD:u4 200 zpS:=by
 refine ⟨zb3.1,fun w avs xs rs hrep h=>?_⟩;unfold zpS at h;split at h
 .obtain ⟨hc,rfl⟩:=zdO h;obtain ⟨h1,h2⟩:=zmR hc;exact zb3.2 w _ xs _ hrep (congr (congrArg (fun c v=>some (c,[AV.one (CV.i .i64 v)])) h1) (qD h2))
 .cases h
def zbaC:zV:=[(200,zpS)]++znJ
theorem z2Q:zJ zbaC:=zf zHD zhr
@[simp] abbrev zxP (h:Host)(m g:Int):Bool:=bif zeA h m g then ieq (zG (gOf h m g)) 2 else false
@[simp] abbrev zxN (h:Host)(m g:Int):Host:=(zbq h m g).1
@[simp] abbrev zxO (h:Host)(m g:Int):Bool:=(zbq h m g).2
def zH0:Run:=rF3 dH dI dI fun b c d=>(zxP b c d,[aH (zxN b c d),aB (zxO b c d)])
def zwE (N:Nat)(a0:Host)(a1 a2:Int):OA:=
 let y2:=(zu a0);let y0:=(ix y2.Mons a1 zh);let y1:=(ix y0.Guests a2 zo); (oN (zbI a0) (oN (zg9 y2 a1 a2) (cond (nB (zju y2 a1 a2)) (some [(aH y2),(aB false)]) (oN (inb a1 (ln y2.Mons)) (oN (inb a2 (ln y0.Guests)) (oN (zDd y1) (oN (inb a1 (ln y2.Mons)) (oN (zyN y1) (oN (inb a2 (ln y0.Guests)) (share (up y2.Mons a1 ({ y0 with Guests:=(up y0.Guests a2 (zs7 y1)) }:Mon)) (fun x4=>(some [(aH ({ y2 with Mons:=x4 }:Host)),(aB true)]))))))))))))
abbrev zDe (x:Guest):Bool:=bif zeH x then ieq (zG x) 3 else false
def zpT:List AV->Option (Bool×List AV)
 | [.agg [.s .ins c,.i .i64 d,.i .i64 e,.s .slot f,.s .slot g,.i .i64 h,.i .i64 j,.b k,.i .i64 l,.i .i64 m,.i .i64 n,.b o,.i .i64 p,.b q,.s .int r]]=>some ((zDe (⟨c,d,e,f,g,⟨h,j,k⟩,l,⟨m,n,o,p⟩,q,r⟩:Guest)),[.one (.i .i64 3)])
 | _=>none
theorem zHE:u4 200 zpT:=by
 refine ⟨zb3.1,fun w avs xs rs hrep h=>?_⟩;unfold zpT at h;split at h
 .obtain ⟨hc,rfl⟩:=zdO h;obtain ⟨h1,h2⟩:=zmR hc;exact zb3.2 w _ xs _ hrep (congr (congrArg (fun c v=>some (c,[AV.one (CV.i .i64 v)])) h1) (qD h2))
 .cases h
def zbaD:zV:=[(200,zpT)]++znJ
theorem z2R:zJ zbaD:=zf zHE zhr
@[simp] abbrev zxS (h:Host)(m g:Int):Bool:=bif zeA h m g then ieq (zG (gOf h m g)) 3 else false
@[simp] abbrev zxQ (h:Host)(m g:Int):Host:=(zbq h m g).1
@[simp] abbrev zxR (h:Host)(m g:Int):Bool:=(zbq h m g).2
def zH1:Run:=rF3 dH dI dI fun b c d=>(zxS b c d,[aH (zxQ b c d),aB (zxR b c d)])
def zwF (N:Nat)(a0:Host)(a1 a2:Int):OA:=
 let y6:=(zu a0);let y9:=(ix y6.Mons a1 zh).Guests;let y1:=(ix y9 a2 zo);let y7:=(zjE y1);let y8:=(zcp y7);let y4:=(zkS y6 y6.Buffer a1 a2 y8 (zfj false) false);let y0:=(ze7 y6 y6.Buffer a1 a2 y8 (zfj false) false);let y3:=(ix y0.Mons a1 zh);let y5:=(ix y3.Guests a2 zo);let y2:=({ y1 with Prog:=y5.Prog,Written:=y5.Written,Live:=y5.Live,Seen:=y5.Seen }:Guest); (oN (zbI a0) (oN (zg9 y6 a1 a2) (cond (nB (zju y6 a1 a2)) (some [(aH y6),(aB false)]) (oN (inb a1 (ln y6.Mons)) (oN (inb a2 (ln y9)) (oN (zDe y1) (oN (zrX y1) (oN (zgo y7) (oN (zuA false) (oN (zkT y6 y6.Buffer a1 a2 y8 (zfj false) false) (cond (nB (zg8 y6 y6.Buffer a1 a2 y8 (zfj false) false)) (oN (inb a1 (ln y0.Mons)) (oN (zgo y7) (oN (znS y8 false) (oN (zd7 y2 (zg3 y8 false)) (oN (inb a2 (ln y3.Guests)) (share (up y0.Mons a1 ({ y3 with Guests:=(up y3.Guests a2 (zdA y2 (zg3 y8 false))) }:Mon)) (fun x4=>(some [(aH ({ y0 with Mons:=x4 }:Host)),(aB true)])))))))) (oN (inb a1 (ln y0.Mons)) (oN (zjn y7) (oN (zuy y0.Memory y4 (zei y7)) (oN (zBt y2 (zoh y0.Memory y4 (zei y7))) (oN (inb a2 (ln y3.Guests)) (share (up y0.Mons a1 ({ y3 with Guests:=(up y3.Guests a2 (zwm y2 (zoh y0.Memory y4 (zei y7)))) }:Mon)) (fun x4=>(some [(aH ({ y0 with Mons:=x4 }:Host)),(aB true)])))))))))))))))))))
abbrev zDf (x:Guest):Bool:=bif zeH x then ieq (zG x) 4 else false
def zpU:List AV->Option (Bool×List AV)
 | [.agg [.s .ins c,.i .i64 d,.i .i64 e,.s .slot f,.s .slot g,.i .i64 h,.i .i64 j,.b k,.i .i64 l,.i .i64 m,.i .i64 n,.b o,.i .i64 p,.b q,.s .int r]]=>some ((zDf (⟨c,d,e,f,g,⟨h,j,k⟩,l,⟨m,n,o,p⟩,q,r⟩:Guest)),[.one (.i .i64 4)])
 | _=>none
theorem zHF:u4 200 zpU:=by
 refine ⟨zb3.1,fun w avs xs rs hrep h=>?_⟩;unfold zpU at h;split at h
 .obtain ⟨hc,rfl⟩:=zdO h;obtain ⟨h1,h2⟩:=zmR hc;exact zb3.2 w _ xs _ hrep (congr (congrArg (fun c v=>some (c,[AV.one (CV.i .i64 v)])) h1) (qD h2))
 .cases h
def zbaE:zV:=[(200,zpU)]++znJ
theorem z2S:zJ zbaE:=zf zHF zhr
@[simp] abbrev zxV (h:Host)(m g:Int):Bool:=bif zeA h m g then ieq (zG (gOf h m g)) 4 else false
@[simp] abbrev zxT (h:Host)(m g:Int):Host:=(zbq h m g).1
@[simp] abbrev zxU (h:Host)(m g:Int):Bool:=(zbq h m g).2
def zH2:Run:=rF3 dH dI dI fun b c d=>(zxV b c d,[aH (zxT b c d),aB (zxU b c d)])
def zwG (N:Nat)(a0:Host)(a1 a2:Int):OA:=
 let y4:=(zu a0);let y8:=(ix y4.Mons a1 zh).Guests;let y1:=(ix y8 a2 zo);let y9:=(zjE y1);let y5:=(zcp y9);let y7:=(zkS y4 y4.Buffer a1 a2 y5 (zfj true) false);let y0:=(ze7 y4 y4.Buffer a1 a2 y5 (zfj true) false);let y3:=(ix y0.Mons a1 zh);let y6:=(ix y3.Guests a2 zo);let y2:=({ y1 with Prog:=y6.Prog,Written:=y6.Written,Live:=y6.Live,Seen:=y6.Seen }:Guest); (oN (zbI a0) (oN (zg9 y4 a1 a2) (cond (nB (zju y4 a1 a2)) (some [(aH y4),(aB false)]) (oN (inb a1 (ln y4.Mons)) (oN (inb a2 (ln y8)) (oN (zDf y1) (oN (zrX y1) (oN (zgo y9) (oN (zuA true) (oN (zkT y4 y4.Buffer a1 a2 y5 (zfj true) false) (cond (nB (zg8 y4 y4.Buffer a1 a2 y5 (zfj true) false)) (oN (inb a1 (ln y0.Mons)) (oN (zgo y9) (oN (znS y5 true) (oN (zd7 y2 (zg3 y5 true)) (oN (inb a2 (ln y3.Guests)) (share (up y0.Mons a1 ({ y3 with Guests:=(up y3.Guests a2 (zdA y2 (zg3 y5 true))) }:Mon)) (fun x4=>(some [(aH ({ y0 with Mons:=x4 }:Host)),(aB true)])))))))) (oN (zjn y9) (oN (zjt y0.Memory y7 (zei y9) y1.A) (oN (inb a1 (ln y0.Mons)) (oN (zBz y2) (oN (inb a2 (ln y3.Guests)) (share (up y0.Mons a1 ({ y3 with Guests:=(up y3.Guests a2 (zwp y2)) }:Mon)) (fun x4=>(some [(aH ({ y0 with Memory:=(zj4 y0.Memory y7 (zei y9) y1.A),Mons:=x4 }:Host)),(aB true)])))))))))))))))))))
abbrev zDg (x:Guest):Bool:=bif zeH x then ieq (zG x) 5 else false
def zpV:List AV->Option (Bool×List AV)
 | [.agg [.s .ins c,.i .i64 d,.i .i64 e,.s .slot f,.s .slot g,.i .i64 h,.i .i64 j,.b k,.i .i64 l,.i .i64 m,.i .i64 n,.b o,.i .i64 p,.b q,.s .int r]]=>some ((zDg (⟨c,d,e,f,g,⟨h,j,k⟩,l,⟨m,n,o,p⟩,q,r⟩:Guest)),[.one (.i .i64 5)])
 | _=>none
theorem zHG:u4 200 zpV:=by
 refine ⟨zb3.1,fun w avs xs rs hrep h=>?_⟩;unfold zpV at h;split at h
 .obtain ⟨hc,rfl⟩:=zdO h;obtain ⟨h1,h2⟩:=zmR hc;exact zb3.2 w _ xs _ hrep (congr (congrArg (fun c v=>some (c,[AV.one (CV.i .i64 v)])) h1) (qD h2))
 .cases h
def zbaF:zV:=[(200,zpV)]++znJ
theorem z2T:zJ zbaF:=zf zHG zhr
@[simp] abbrev zxY (h:Host)(m g:Int):Bool:=bif zeA h m g then ieq (zG (gOf h m g)) 5 else false
@[simp] abbrev zxW (h:Host)(m g:Int):Host:=(zbq h m g).1
@[simp] abbrev zxX (h:Host)(m g:Int):Bool:=(zbq h m g).2
def zH3:Run:=rF3 dH dI dI fun b c d=>(zxY b c d,[aH (zxW b c d),aB (zxX b c d)])
def zwH (N:Nat)(a0:Host)(a1 a2:Int):OA:=
 let y8:=(zu a0);let y4:=(inb a1 (ln y8.Mons));let y2:=(ix y8.Mons a1 zh);let y10:=(inb a2 (ln y2.Guests));let y0:=(ix y2.Guests a2 zo);let y9:=(ap y2.Outs [(zfT y0.Prog y0.Pc).X]);let y16:=(up y8.Mons a1 ({ y2 with Outs:=y9 }:Mon));let y7:=y0.Ctl.Traps;let y5:=(up y8.Mons a1 ({ y2 with Guests:=(up y2.Guests a2 (zb2 y0 y7 5)) }:Mon)); (oN (zbI a0) (oN (zg9 y8 a1 a2) (cond (nB (zju y8 a1 a2)) (some [(aH y8),(aB false)]) (oN y4 (oN y10 (oN (zDg y0) (oN y4 (oN (zsd y2.Traps y7 1) (cond (ieq (zoI y2.Traps y7 1) 2) (oN y4 (cond (ilt y2.Own 1000000000) (oN y4 (oN y4 (share (up y8.Mons a1 ({ y2 with Own:=(zD .i64 y2.Own 1) }:Mon)) (fun x4=>let y12:=(inb a1 (ln x4));let y3:=(ix x4 a1 zh);let y6:=(ix y3.Guests a2 zo);let y17:=(ap y3.Outs [(zfT y6.Prog y0.Pc).X]);let y1:=({ y0 with Prog:=y6.Prog,Written:=y6.Written,Live:=y6.Live,Seen:=y6.Seen }:Guest);let y11:=(up x4 a1 ({ y3 with Guests:=(up y3.Guests a2 (zb2 y1 y7 5)) }:Mon)); (oN (zdN y1 y7 5) (cond (zdb y1 y7 5) (oN y12 (cond (ilt (ln y3.Outs) 40) (oN y12 (oN (zfz y6.Prog y0.Pc) (oN (few (ln y17)) (oN y12 (oN (cond (ieq a1 a1) true false) (share (up x4 a1 ({ y3 with Outs:=y17 }:Mon)) (fun x5=>let y13:=(ix x5 a1 zh); (oN (inb a1 (ln x5)) (oN (inb a2 (ln y13.Guests)) (share (up x5 a1 ({ y13 with Guests:=(up y13.Guests a2 (zb2 y1 y7 5)) }:Mon)) (fun x6=>(some [(aH ({ y8 with Mons:=x6 }:Host)),(aB true)])))))))))))) (oN y12 (oN (inb a2 (ln y3.Guests)) (share y11 (fun x5=>(some [(aH ({ y8 with Mons:=x5 }:Host)),(aB true)]))))))) (oN y12 (oN (inb a2 (ln y3.Guests)) (share y11 (fun x5=>(some [(aH ({ y8 with Mons:=x5 }:Host)),(aB true)]))))))))))) (oN (zdN y0 y7 5) (cond (zdb y0 y7 5) (oN y4 (cond (ilt (ln y2.Outs) 40) (oN y4 (oN (zfz y0.Prog y0.Pc) (oN (few (ln y9)) (oN y4 (oN (cond (ieq a1 a1) true false) (share y16 (fun x4=>let y14:=(ix x4 a1 zh); (oN (inb a1 (ln x4)) (oN (inb a2 (ln y14.Guests)) (share (up x4 a1 ({ y14 with Guests:=(up y14.Guests a2 (zb2 y0 y7 5)) }:Mon)) (fun x5=>(some [(aH ({ y8 with Mons:=x5 }:Host)),(aB true)])))))))))))) (oN y4 (oN y10 (share y5 (fun x4=>(some [(aH ({ y8 with Mons:=x4 }:Host)),(aB true)]))))))) (oN y4 (oN y10 (share y5 (fun x4=>(some [(aH ({ y8 with Mons:=x4 }:Host)),(aB true)]))))))))) (oN (zdN y0 y7 5) (cond (zdb y0 y7 5) (oN y4 (cond (ilt (ln y2.Outs) 40) (oN y4 (oN (zfz y0.Prog y0.Pc) (oN (few (ln y9)) (oN y4 (oN (cond (ieq a1 a1) true false) (share y16 (fun x4=>let y15:=(ix x4 a1 zh); (oN (inb a1 (ln x4)) (oN (inb a2 (ln y15.Guests)) (share (up x4 a1 ({ y15 with Guests:=(up y15.Guests a2 (zb2 y0 y7 5)) }:Mon)) (fun x5=>(some [(aH ({ y8 with Mons:=x5 }:Host)),(aB true)])))))))))))) (oN y4 (oN y10 (share y5 (fun x4=>(some [(aH ({ y8 with Mons:=x4 }:Host)),(aB true)]))))))) (oN y4 (oN y10 (share y5 (fun x4=>(some [(aH ({ y8 with Mons:=x4 }:Host)),(aB true)]))))))))))))))))
abbrev zDh (x:Guest):Bool:=bif zeH x then ieq (zG x) 6 else false
def zpW:List AV->Option (Bool×List AV)
 | [.agg [.s .ins c,.i .i64 d,.i .i64 e,.s .slot f,.s .slot g,.i .i64 h,.i .i64 j,.b k,.i .i64 l,.i .i64 m,.i .i64 n,.b o,.i .i64 p,.b q,.s .int r]]=>some ((zDh (⟨c,d,e,f,g,⟨h,j,k⟩,l,⟨m,n,o,p⟩,q,r⟩:Guest)),[.one (.i .i64 6)])
 | _=>none
theorem zHH:u4 200 zpW:=by
 refine ⟨zb3.1,fun w avs xs rs hrep h=>?_⟩;unfold zpW at h;split at h
 .obtain ⟨hc,rfl⟩:=zdO h;obtain ⟨h1,h2⟩:=zmR hc;exact zb3.2 w _ xs _ hrep (congr (congrArg (fun c v=>some (c,[AV.one (CV.i .i64 v)])) h1) (qD h2))
 .cases h
def zbaG:zV:=[(200,zpW)]++znJ
theorem z2U:zJ zbaG:=zf zHH zhr
@[simp] abbrev zx1 (h:Host)(m g:Int):Bool:=bif zeA h m g then ieq (zG (gOf h m g)) 6 else false
@[simp] abbrev zxZ (h:Host)(m g:Int):Host:=(zbq h m g).1
@[simp] abbrev zx0 (h:Host)(m g:Int):Bool:=(zbq h m g).2
def zH4:Run:=rF3 dH dI dI fun b c d=>(zx1 b c d,[aH (zxZ b c d),aB (zx0 b c d)])
def zwI (N:Nat)(a0:Host)(a1 a2:Int):OA:=
 let y3:=(zu a0);let y4:=(inb a1 (ln y3.Mons));let y0:=(ix y3.Mons a1 zh);let y5:=(inb a2 (ln y0.Guests));let y1:=(ix y0.Guests a2 zo);let y2:=(up y3.Mons a1 ({ y0 with Guests:=(up y0.Guests a2 (zb2 y1 y1.Ctl.Traps 6)) }:Mon)); (oN (zbI a0) (oN (zg9 y3 a1 a2) (cond (nB (zju y3 a1 a2)) (some [(aH y3),(aB false)]) (oN y4 (oN y5 (oN (zDh y1) (oN (zdN y1 y1.Ctl.Traps 6) (cond (zdb y1 y1.Ctl.Traps 6) (oN y4 (oN y5 (share y2 (fun x4=>(some [(aH ({ y3 with Mons:=x4 }:Host)),(aB true)]))))) (oN y4 (oN y5 (share y2 (fun x4=>(some [(aH ({ y3 with Mons:=x4 }:Host)),(aB true)])))))))))))))
abbrev zDi (x:Guest):Bool:=bif zeH x then ieq (zG x) 7 else false
def zpX:List AV->Option (Bool×List AV)
 | [.agg [.s .ins c,.i .i64 d,.i .i64 e,.s .slot f,.s .slot g,.i .i64 h,.i .i64 j,.b k,.i .i64 l,.i .i64 m,.i .i64 n,.b o,.i .i64 p,.b q,.s .int r]]=>some ((zDi (⟨c,d,e,f,g,⟨h,j,k⟩,l,⟨m,n,o,p⟩,q,r⟩:Guest)),[.one (.i .i64 7)])
 | _=>none
theorem zHI:u4 200 zpX:=by
 refine ⟨zb3.1,fun w avs xs rs hrep h=>?_⟩;unfold zpX at h;split at h
 .obtain ⟨hc,rfl⟩:=zdO h;obtain ⟨h1,h2⟩:=zmR hc;exact zb3.2 w _ xs _ hrep (congr (congrArg (fun c v=>some (c,[AV.one (CV.i .i64 v)])) h1) (qD h2))
 .cases h
def zbaH:zV:=[(200,zpX)]++znJ
theorem z2V:zJ zbaH:=zf zHI zhr
@[simp] abbrev zx4 (h:Host)(m g:Int):Bool:=bif zeA h m g then ieq (zG (gOf h m g)) 7 else false
@[simp] abbrev zx2 (h:Host)(m g:Int):Host:=(zbq h m g).1
@[simp] abbrev zx3 (h:Host)(m g:Int):Bool:=(zbq h m g).2
def zH5:Run:=rF3 dH dI dI fun b c d=>(zx4 b c d,[aH (zx2 b c d),aB (zx3 b c d)])
def zwJ (N:Nat)(a0:Host)(a1 a2:Int):OA:=
 let y9:=(zu a0);let y4:=(inb a1 (ln y9.Mons));let y2:=(ix y9.Mons a1 zh);let y8:=(inb a2 (ln y2.Guests));let y0:=(ix y2.Guests a2 zo);let y6:=y0.Ctl.Traps;let y3:=(up y9.Mons a1 ({ y2 with Guests:=(up y2.Guests a2 (zb2 y0 y6 7)) }:Mon)); (oN (zbI a0) (oN (zg9 y9 a1 a2) (cond (nB (zju y9 a1 a2)) (some [(aH y9),(aB false)]) (oN y4 (oN y8 (oN (zDi y0) (oN y4 (oN (zsd y2.Traps y6 2) (cond (ieq (zoI y2.Traps y6 2) 2) (oN y4 (cond (ilt y2.Own 1000000000) (oN y4 (oN y4 (share (up y9.Mons a1 ({ y2 with Own:=(zD .i64 y2.Own 1) }:Mon)) (fun x4=>let y5:=(ix x4 a1 zh);let y7:=(ix y5.Guests a2 zo);let y1:=({ y0 with Prog:=y7.Prog,Written:=y7.Written,Live:=y7.Live,Seen:=y7.Seen }:Guest);let y10:=(up x4 a1 ({ y5 with Guests:=(up y5.Guests a2 (zb2 y1 y6 7)) }:Mon)); (oN (zdN y1 y6 7) (cond (zdb y1 y6 7) (oN (inb a1 (ln x4)) (oN (inb a2 (ln y5.Guests)) (share y10 (fun x5=>(some [(aH ({ y9 with Mons:=x5 }:Host)),(aB true)]))))) (oN (inb a1 (ln x4)) (oN (inb a2 (ln y5.Guests)) (share y10 (fun x5=>(some [(aH ({ y9 with Mons:=x5 }:Host)),(aB true)]))))))))))) (oN (zdN y0 y6 7) (cond (zdb y0 y6 7) (oN y4 (oN y8 (share y3 (fun x4=>(some [(aH ({ y9 with Mons:=x4 }:Host)),(aB true)]))))) (oN y4 (oN y8 (share y3 (fun x4=>(some [(aH ({ y9 with Mons:=x4 }:Host)),(aB true)]))))))))) (oN (zdN y0 y6 7) (cond (zdb y0 y6 7) (oN y4 (oN y8 (share y3 (fun x4=>(some [(aH ({ y9 with Mons:=x4 }:Host)),(aB true)]))))) (oN y4 (oN y8 (share y3 (fun x4=>(some [(aH ({ y9 with Mons:=x4 }:Host)),(aB true)]))))))))))))))))
theorem zHO (a0:Host)(a1 a2:Int)(hc:zxJ a0 a1 a2=true):∃N,zwC N a0 a1 a2=some [aH (zxH a0 a1 a2),aB (zxI a0 a1 a2)]:=by
 obtain ⟨hc,hw⟩:=zmR hc;have hs:=(zF a0).1 (zy.1 hc);refine ⟨0,?_⟩
 show _=some (zdS (zbq a0 a1 a2))
 unfold zwC oN nB
 conv=>zeta
 refine must (zbf ((zF _).2 hs)) (must (zbf ((zF _).2 hs)) (brN (fun hh=>?_) (fun hh=>?_)))
 .rw [zhX hh];rfl
 obtain ⟨g1,g2,g3⟩:=zct hh;have hx:=zks hs g2 g3;have hk:zG (gOf a0 a1 a2)=0:=qD hw;rw[ziQ hh,hk];refine must (zx g2) (must (zx g3) (must (ziV rfl hw) ?_));rfl
theorem zqu:u4 110 zHY:=kF3 z2O zi zbj zgz (zk []) zHO
theorem zHP (a0:Host)(a1 a2:Int)(hc:zxM a0 a1 a2=true):∃N,zwD N a0 a1 a2=some [aH (zxK a0 a1 a2),aB (zxL a0 a1 a2)]:=by
 obtain ⟨hc,hw⟩:=zmR hc;have hs:=(zF a0).1 (zy.1 hc);refine ⟨0,?_⟩
 show _=some (zdS (zbq a0 a1 a2))
 unfold zwD oN nB
 conv=>zeta
 refine must (zbf ((zF _).2 hs)) (must (zbf ((zF _).2 hs)) (brN (fun hh=>?_) (fun hh=>?_)))
 .rw [zhX hh];rfl
 obtain ⟨g1,g2,g3⟩:=zct hh;have hx:=zks hs g2 g3;have hk:zG (gOf a0 a1 a2)=1:=qD hw;rw[ziQ hh,hk];refine must (zx g2) (must (zx g3) (must (ziV rfl hw) ?_))
 show _=some (zdS (zgn a0 a1 a2 (interrupted (gOf a0 a1 a2)),true))
 exact must (zx g2) (must (zbf hx) (must (zx g3) rfl))
theorem zDr:u4 110 zHZ:=kF3 z2P zi zbj zgz (zk []) zHP
theorem zHQ (a0:Host)(a1 a2:Int)(hc:zxP a0 a1 a2=true):∃N,zwE N a0 a1 a2=some [aH (zxN a0 a1 a2),aB (zxO a0 a1 a2)]:=by
 obtain ⟨hc,hw⟩:=zmR hc;have hs:=(zF a0).1 (zy.1 hc);refine ⟨0,?_⟩
 show _=some (zdS (zbq a0 a1 a2))
 unfold zwE oN nB
 conv=>zeta
 refine must (zbf ((zF _).2 hs)) (must (zbf ((zF _).2 hs)) (brN (fun hh=>?_) (fun hh=>?_)))
 .rw [zhX hh];rfl
 obtain ⟨g1,g2,g3⟩:=zct hh;have hx:=zks hs g2 g3;have hk:zG (gOf a0 a1 a2)=2:=qD hw;rw[ziQ hh,hk];refine must (zx g2) (must (zx g3) (must (ziV rfl hw) ?_))
 show _=some (zdS (zgn a0 a1 a2 (plainly (gOf a0 a1 a2)),true))
 exact must (zx g2) (must (zbf hx) (must (zx g3) rfl))
theorem zDs:u4 110 zH0:=kF3 z2Q zi zbj zgz (zk []) zHQ
theorem zHR (a0:Host)(a1 a2:Int)(hc:zxS a0 a1 a2=true):∃N,zwF N a0 a1 a2=some [aH (zxQ a0 a1 a2),aB (zxR a0 a1 a2)]:=by
 obtain ⟨hc,hw⟩:=zmR hc;have hs:=(zF a0).1 (zy.1 hc);refine ⟨0,?_⟩
 show _=some (zdS (zbq a0 a1 a2))
 unfold zwF oN nB
 conv=>zeta
 refine must (zbf ((zF _).2 hs)) (must (zbf ((zF _).2 hs)) (brN (fun hh=>?_) (fun hh=>?_)))
 .rw [zhX hh];rfl
 obtain ⟨g1,g2,g3⟩:=zct hh;have hx:=zks hs g2 g3;have hk:zG (gOf a0 a1 a2)=3:=qD hw;rw[ziQ hh,hk];refine must (zx g2) (must (zx g3) (must (ziV rfl hw) ?_))
 show _=some (zdS (ziT (ziW a0 a1 a2 (gOf a0 a1 a2) false) a1 a2 (gOf a0 a1 a2) false,true))
 have k:=zuZ (b:=a0.Buffer) (page:=zb0 (address (gOf a0 a1 a2))) (need:=zff false) (io:=false) hs hh;have F:=zmm k g2 g3;have e3:(ix (ix (ze7 (zu a0) (zu a0).Buffer a1 a2 (zcp (zjE (ix (ix (zu a0).Mons a1 zh).Guests a2 zo))) (zfj false) false).Mons a1 zh).Guests a2 zo)=(ix (ix (zu a0).Mons a1 zh).Guests a2 zo):=congrArg (fun l=>ix l a2 gZ) (zNq k.gs a1);rw[e3];unfold ziT;refine must rfl (must rfl (must rfl (must (zbf ((zF _).2 hs)) (brN (fun h=>?_) (fun h=>?_)))))
 .rw [show (ziW a0 a1 a2 (gOf a0 a1 a2) false).2.2=false from h]
  exact must (zx F.hm) (must rfl (must rfl (must (zbf hx) (must (zx F.hg) rfl))))
 .rw [show (ziW a0 a1 a2 (gOf a0 a1 a2) false).2.2=true from h]
  exact must (zx F.hm) (must rfl (must rfl (must (zbf hx) (must (zx F.hg) rfl))))
theorem zDt:u4 110 zH1:=kF3 z2R zi zbj zgz (zk []) zHR
theorem zHS (a0:Host)(a1 a2:Int)(hc:zxV a0 a1 a2=true):∃N,zwG N a0 a1 a2=some [aH (zxT a0 a1 a2),aB (zxU a0 a1 a2)]:=by
 obtain ⟨hc,hw⟩:=zmR hc;have hs:=(zF a0).1 (zy.1 hc);refine ⟨0,?_⟩
 show _=some (zdS (zbq a0 a1 a2))
 unfold zwG oN nB
 conv=>zeta
 refine must (zbf ((zF _).2 hs)) (must (zbf ((zF _).2 hs)) (brN (fun hh=>?_) (fun hh=>?_)))
 .rw [zhX hh];rfl
 obtain ⟨g1,g2,g3⟩:=zct hh;have hx:=zks hs g2 g3;have hk:zG (gOf a0 a1 a2)=4:=qD hw;rw[ziQ hh,hk];refine must (zx g2) (must (zx g3) (must (ziV rfl hw) ?_))
 show _=some (zdS (ziT (ziW a0 a1 a2 (gOf a0 a1 a2) true) a1 a2 (gOf a0 a1 a2) true,true))
 have k:=zuZ (b:=a0.Buffer) (page:=zb0 (address (gOf a0 a1 a2))) (need:=zff true) (io:=false) hs hh;have F:=zmm k g2 g3;have e3:(ix (ix (ze7 (zu a0) (zu a0).Buffer a1 a2 (zcp (zjE (ix (ix (zu a0).Mons a1 zh).Guests a2 zo))) (zfj true) false).Mons a1 zh).Guests a2 zo)=(ix (ix (zu a0).Mons a1 zh).Guests a2 zo):=congrArg (fun l=>ix l a2 gZ) (zNq k.gs a1);rw[e3];unfold ziT;refine must rfl (must rfl (must rfl (must (zbf ((zF _).2 hs)) (brN (fun h=>?_) (fun h=>?_)))))
 .rw [show (ziW a0 a1 a2 (gOf a0 a1 a2) true).2.2=false from h]
  exact must (zx F.hm) (must rfl (must rfl (must (zbf hx) (must (zx F.hg) rfl))))
 .rw [show (ziW a0 a1 a2 (gOf a0 a1 a2) true).2.2=true from h]
  exact must rfl (must (zbf k.shape.1.1) (must (zx F.hm) (must (zbf hx) (must (zx F.hg) rfl))))
theorem zDu:u4 110 zH2:=kF3 z2S zi zbj zgz (zk []) zHS
theorem z9R {a0:Host}{a1 a2:Int}(hx:SmG (gOf a0 a1 a2))(g2:hasB a1 (ln a0.Mons)=true)(g3:hasB a2 (ln (ix a0.Mons a1 mZ).Guests)=true) :
 (cond (zdN (ix (ix (zu a0).Mons a1 zh).Guests a2 zo) (ix (ix (zu a0).Mons a1 zh).Guests a2 zo).Ctl.Traps 5) (cond (zdb (ix (ix (zu a0).Mons a1 zh).Guests a2 zo) (ix (ix (zu a0).Mons a1 zh).Guests a2 zo).Ctl.Traps 5) (cond (inb a1 (ln (zu a0).Mons)) (cond (ilt (ln (ix (zu a0).Mons a1 zh).Outs) 40) (cond (inb a1 (ln (zu a0).Mons)) (cond (zfz (ix (ix (zu a0).Mons a1 zh).Guests a2 zo).Prog (ix (ix (zu a0).Mons a1 zh).Guests a2 zo).Pc) (cond (few (ln (ap (ix (zu a0).Mons a1 zh).Outs [(zfT (ix (ix (zu a0).Mons a1 zh).Guests a2 zo).Prog (ix (ix (zu a0).Mons a1 zh).Guests a2 zo).Pc).X]))) (cond (inb a1 (ln (zu a0).Mons)) (cond (cond (ieq a1 a1) true false) (share (up (zu a0).Mons a1 ({ (ix (zu a0).Mons a1 zh) with Outs:=(ap (ix (zu a0).Mons a1 zh).Outs [(zfT (ix (ix (zu a0).Mons a1 zh).Guests a2 zo).Prog (ix (ix (zu a0).Mons a1 zh).Guests a2 zo).Pc).X]) }:Mon)) (fun x4=>(cond (inb a1 (ln x4)) (cond (inb a2 (ln (ix x4 a1 zh).Guests)) (share (up x4 a1 ({ (ix x4 a1 zh) with Guests:=(up (ix x4 a1 zh).Guests a2 (zb2 (ix (ix (zu a0).Mons a1 zh).Guests a2 zo) (ix (ix (zu a0).Mons a1 zh).Guests a2 zo).Ctl.Traps 5)) }:Mon)) (fun x5=>(some [(.agg (zS ({ (zu a0) with Mons:=x5 }:Host))),(.one (.b true))]))) none) none))) none) none) none) none) none) (cond (inb a1 (ln (zu a0).Mons)) (cond (inb a2 (ln (ix (zu a0).Mons a1 zh).Guests)) (share (up (zu a0).Mons a1 ({ (ix (zu a0).Mons a1 zh) with Guests:=(up (ix (zu a0).Mons a1 zh).Guests a2 (zb2 (ix (ix (zu a0).Mons a1 zh).Guests a2 zo) (ix (ix (zu a0).Mons a1 zh).Guests a2 zo).Ctl.Traps 5)) }:Mon)) (fun x4=>(some [(.agg (zS ({ (zu a0) with Mons:=x4 }:Host))),(.one (.b true))]))) none) none)) none) (cond (inb a1 (ln (zu a0).Mons)) (cond (inb a2 (ln (ix (zu a0).Mons a1 zh).Guests)) (share (up (zu a0).Mons a1 ({ (ix (zu a0).Mons a1 zh) with Guests:=(up (ix (zu a0).Mons a1 zh).Guests a2 (zb2 (ix (ix (zu a0).Mons a1 zh).Guests a2 zo) (ix (ix (zu a0).Mons a1 zh).Guests a2 zo).Ctl.Traps 5)) }:Mon)) (fun x4=>(some [(.agg (zS ({ (zu a0) with Mons:=x4 }:Host))),(.one (.b true))]))) none) none)) none)=some (zdS (zgn (zj7 a0 a1 (gOf a0 a1 a2) 5) a1 a2 (zga (gOf a0 a1 a2) (gOf a0 a1 a2).Ctl.Traps 5),true)):=by
 refine must (zbf hx) (br (fun h1=>must (zx g2) (br (fun h3=>?_) (fun h3=>?_))) (fun h1=>?_))
 .rw [zZA (h:=a0) (m:=a1) (x:=gOf a0 a1 a2) (w:=5) h1 rfl h3];refine must (zx g2) (must rfl (must (zWo h3) (must (zx g2) (must (zOt _) (shr (must (zx (zen g2)) (must ?_ rfl)))))));rw[zpE g2];exact zx g3
 .rw [zUi (h:=a0) (m:=a1) (x:=gOf a0 a1 a2) (w:=5) h3];exact must (zx g2) (must (zx g3) rfl)
 .rw [zPN (h:=a0) (m:=a1) (x:=gOf a0 a1 a2) (w:=5) h1];exact must (zx g2) (must (zx g3) rfl)
theorem zbcO {a0:Host}{x4:List Mon}{a1 a2:Int}(hx:SmG (gOf a0 a1 a2))(g2:hasB a1 (ln x4)=true)(g3:hasB a2 (ln (ix x4 a1 mZ).Guests)=true)(e:(ix (ix x4 a1 zh).Guests a2 zo)=gOf a0 a1 a2) :
 (cond (zdN ({ (ix (ix (zu a0).Mons a1 zh).Guests a2 zo) with Prog:=(ix (ix x4 a1 zh).Guests a2 zo).Prog,Written:=(ix (ix x4 a1 zh).Guests a2 zo).Written,Live:=(ix (ix x4 a1 zh).Guests a2 zo).Live,Seen:=(ix (ix x4 a1 zh).Guests a2 zo).Seen }:Guest) (ix (ix (zu a0).Mons a1 zh).Guests a2 zo).Ctl.Traps 5) (cond (zdb ({ (ix (ix (zu a0).Mons a1 zh).Guests a2 zo) with Prog:=(ix (ix x4 a1 zh).Guests a2 zo).Prog,Written:=(ix (ix x4 a1 zh).Guests a2 zo).Written,Live:=(ix (ix x4 a1 zh).Guests a2 zo).Live,Seen:=(ix (ix x4 a1 zh).Guests a2 zo).Seen }:Guest) (ix (ix (zu a0).Mons a1 zh).Guests a2 zo).Ctl.Traps 5) (cond (inb a1 (ln x4)) (cond (ilt (ln (ix x4 a1 zh).Outs) 40) (cond (inb a1 (ln x4)) (cond (zfz (ix (ix x4 a1 zh).Guests a2 zo).Prog (ix (ix (zu a0).Mons a1 zh).Guests a2 zo).Pc) (cond (few (ln (ap (ix x4 a1 zh).Outs [(zfT (ix (ix x4 a1 zh).Guests a2 zo).Prog (ix (ix (zu a0).Mons a1 zh).Guests a2 zo).Pc).X]))) (cond (inb a1 (ln x4)) (cond (cond (ieq a1 a1) true false) (share (up x4 a1 ({ (ix x4 a1 zh) with Outs:=(ap (ix x4 a1 zh).Outs [(zfT (ix (ix x4 a1 zh).Guests a2 zo).Prog (ix (ix (zu a0).Mons a1 zh).Guests a2 zo).Pc).X]) }:Mon)) (fun x5=>(cond (inb a1 (ln x5)) (cond (inb a2 (ln (ix x5 a1 zh).Guests)) (share (up x5 a1 ({ (ix x5 a1 zh) with Guests:=(up (ix x5 a1 zh).Guests a2 (zb2 ({ (ix (ix (zu a0).Mons a1 zh).Guests a2 zo) with Prog:=(ix (ix x4 a1 zh).Guests a2 zo).Prog,Written:=(ix (ix x4 a1 zh).Guests a2 zo).Written,Live:=(ix (ix x4 a1 zh).Guests a2 zo).Live,Seen:=(ix (ix x4 a1 zh).Guests a2 zo).Seen }:Guest) (ix (ix (zu a0).Mons a1 zh).Guests a2 zo).Ctl.Traps 5)) }:Mon)) (fun x6=>(some [(.agg (zS ({ (zu a0) with Mons:=x6 }:Host))),(.one (.b true))]))) none) none))) none) none) none) none) none) (cond (inb a1 (ln x4)) (cond (inb a2 (ln (ix x4 a1 zh).Guests)) (share (up x4 a1 ({ (ix x4 a1 zh) with Guests:=(up (ix x4 a1 zh).Guests a2 (zb2 ({ (ix (ix (zu a0).Mons a1 zh).Guests a2 zo) with Prog:=(ix (ix x4 a1 zh).Guests a2 zo).Prog,Written:=(ix (ix x4 a1 zh).Guests a2 zo).Written,Live:=(ix (ix x4 a1 zh).Guests a2 zo).Live,Seen:=(ix (ix x4 a1 zh).Guests a2 zo).Seen }:Guest) (ix (ix (zu a0).Mons a1 zh).Guests a2 zo).Ctl.Traps 5)) }:Mon)) (fun x5=>(some [(.agg (zS ({ (zu a0) with Mons:=x5 }:Host))),(.one (.b true))]))) none) none)) none) (cond (inb a1 (ln x4)) (cond (inb a2 (ln (ix x4 a1 zh).Guests)) (share (up x4 a1 ({ (ix x4 a1 zh) with Guests:=(up (ix x4 a1 zh).Guests a2 (zb2 ({ (ix (ix (zu a0).Mons a1 zh).Guests a2 zo) with Prog:=(ix (ix x4 a1 zh).Guests a2 zo).Prog,Written:=(ix (ix x4 a1 zh).Guests a2 zo).Written,Live:=(ix (ix x4 a1 zh).Guests a2 zo).Live,Seen:=(ix (ix x4 a1 zh).Guests a2 zo).Seen }:Guest) (ix (ix (zu a0).Mons a1 zh).Guests a2 zo).Ctl.Traps 5)) }:Mon)) (fun x5=>(some [(.agg (zS ({ (zu a0) with Mons:=x5 }:Host))),(.one (.b true))]))) none) none)) none)=some (zdS (zgn (zj7 { a0 with Mons:=x4 } a1 (gOf a0 a1 a2) 5) a1 a2 (zga (gOf a0 a1 a2) (gOf a0 a1 a2).Ctl.Traps 5),true)):=by
 rw[e];refine must (zbf hx) (br (fun h1=>must (zx g2) (br (fun h3=>?_) (fun h3=>?_))) (fun h1=>?_))
 .rw [zZA (h:={ a0 with Mons:=x4 }) (m:=a1) (x:=gOf a0 a1 a2) (w:=5) h1 rfl h3];refine must (zx g2) (must rfl (must (zWo h3) (must (zx g2) (must (zOt _) (shr (must (zx (zen (h:={ a0 with Mons:=x4 }) g2)) (must ?_ rfl)))))));rw[zpE (h:={ a0 with Mons:=x4 }) g2];exact zx g3
 .rw [zUi (h:={ a0 with Mons:=x4 }) (m:=a1) (x:=gOf a0 a1 a2) (w:=5) h3];exact must (zx g2) (must (zx g3) rfl)
 .rw [zPN (h:={ a0 with Mons:=x4 }) (m:=a1) (x:=gOf a0 a1 a2) (w:=5) h1];exact must (zx g2) (must (zx g3) rfl)
theorem zHT (a0:Host)(a1 a2:Int)(hc:zxY a0 a1 a2=true):∃N,zwH N a0 a1 a2=some [aH (zxW a0 a1 a2),aB (zxX a0 a1 a2)]:=by
 obtain ⟨hc,hw⟩:=zmR hc;have hs:=(zF a0).1 (zy.1 hc);refine ⟨0,?_⟩
 show _=some (zdS (zbq a0 a1 a2))
 unfold zwH oN nB
 conv=>zeta
 refine must (zbf ((zF _).2 hs)) (must (zbf ((zF _).2 hs)) (brN (fun hh=>?_) (fun hh=>?_)))
 .rw [zhX hh];rfl
 obtain ⟨g1,g2,g3⟩:=zct hh;have hx:=zks hs g2 g3;have hk:zG (gOf a0 a1 a2)=5:=qD hw;rw[ziQ hh,hk];refine must (zx g2) (must (zx g3) (must (ziV rfl hw) ?_))
 show _=some (zdS (zk3 a0 a1 a2 (gOf a0 a1 a2) 5,true))
 refine must (zx g2) (must rfl (br (fun h0=>must (zx g2) (br (fun h9=>must (zx g2) (must (zx g2) (shr ?_))) (fun h9=>?_))) (fun h0=>?_)))
 .rw [zoq (z2v (h:=a0) (m:=a1) (x:=gOf a0 a1 a2) (w:=5) rfl h0 h9)];have eM:=zpE g2 { ix a0.Mons a1 mZ with Own:=zD .i64 (ix a0.Mons a1 mZ).Own 1 };refine zbcO hx (zen g2) ?_ ?_
  .show hasB a2 (ln (ix (up a0.Mons a1 _) a1 mZ).Guests)=true
   rw[eM];exact g3
  .show ix (ix (up a0.Mons a1 _) a1 mZ).Guests a2 gZ=_
   rw[eM];rfl
 .rw [zoq (z2u (h:=a0) (m:=a1) (x:=gOf a0 a1 a2) (w:=5) h9)];exact z9R hx g2 g3
 .rw [zoq (z2t (h:=a0) (m:=a1) (x:=gOf a0 a1 a2) (w:=5) h0)];exact z9R hx g2 g3
theorem zDv:u4 110 zH3:=kF3 z2T zi zbj zgz (zk []) zHT
theorem zHU (a0:Host)(a1 a2:Int)(hc:zx1 a0 a1 a2=true):∃N,zwI N a0 a1 a2=some [aH (zxZ a0 a1 a2),aB (zx0 a0 a1 a2)]:=by
 obtain ⟨hc,hw⟩:=zmR hc;have hs:=(zF a0).1 (zy.1 hc);refine ⟨0,?_⟩
 show _=some (zdS (zbq a0 a1 a2))
 unfold zwI oN nB
 conv=>zeta
 refine must (zbf ((zF _).2 hs)) (must (zbf ((zF _).2 hs)) (brN (fun hh=>?_) (fun hh=>?_)))
 .rw [zhX hh];rfl
 obtain ⟨g1,g2,g3⟩:=zct hh;have hx:=zks hs g2 g3;have hk:zG (gOf a0 a1 a2)=6:=qD hw;rw[ziQ hh,hk];refine must (zx g2) (must (zx g3) (must (ziV rfl hw) ?_))
 show _=some (zdS (zk3 a0 a1 a2 (gOf a0 a1 a2) 6,true))
 rw[zoq (zbbr (h:=a0) (m:=a1) (x:=gOf a0 a1 a2)),zGB (w:=6) rfl];exact must (zbf hx) (br (fun h1=>must (zx g2) (must (zx g3) rfl)) (fun h1=>must (zx g2) (must (zx g3) rfl)))
theorem zDw:u4 110 zH4:=kF3 z2U zi zbj zgz (zk []) zHU
theorem z9S {a0:Host}{a1 a2:Int}(hx:SmG (gOf a0 a1 a2))(g2:hasB a1 (ln a0.Mons)=true)(g3:hasB a2 (ln (ix a0.Mons a1 mZ).Guests)=true) :
 (cond (zdN (ix (ix (zu a0).Mons a1 zh).Guests a2 zo) (ix (ix (zu a0).Mons a1 zh).Guests a2 zo).Ctl.Traps 7) (cond (zdb (ix (ix (zu a0).Mons a1 zh).Guests a2 zo) (ix (ix (zu a0).Mons a1 zh).Guests a2 zo).Ctl.Traps 7) (cond (inb a1 (ln (zu a0).Mons)) (cond (inb a2 (ln (ix (zu a0).Mons a1 zh).Guests)) (share (up (zu a0).Mons a1 ({ (ix (zu a0).Mons a1 zh) with Guests:=(up (ix (zu a0).Mons a1 zh).Guests a2 (zb2 (ix (ix (zu a0).Mons a1 zh).Guests a2 zo) (ix (ix (zu a0).Mons a1 zh).Guests a2 zo).Ctl.Traps 7)) }:Mon)) (fun x4=>(some [(.agg (zS ({ (zu a0) with Mons:=x4 }:Host))),(.one (.b true))]))) none) none) (cond (inb a1 (ln (zu a0).Mons)) (cond (inb a2 (ln (ix (zu a0).Mons a1 zh).Guests)) (share (up (zu a0).Mons a1 ({ (ix (zu a0).Mons a1 zh) with Guests:=(up (ix (zu a0).Mons a1 zh).Guests a2 (zb2 (ix (ix (zu a0).Mons a1 zh).Guests a2 zo) (ix (ix (zu a0).Mons a1 zh).Guests a2 zo).Ctl.Traps 7)) }:Mon)) (fun x4=>(some [(.agg (zS ({ (zu a0) with Mons:=x4 }:Host))),(.one (.b true))]))) none) none)) none)=some (zdS (zgn a0 a1 a2 (zga (gOf a0 a1 a2) (gOf a0 a1 a2).Ctl.Traps 7),true)) :=
 must (zbf hx) (br (fun h1=>must (zx g2) (must (zx g3) rfl)) (fun h1=>must (zx g2) (must (zx g3) rfl)))
theorem zbcP {a0:Host}{x4:List Mon}{a1 a2:Int}(hx:SmG (gOf a0 a1 a2))(g2:hasB a1 (ln x4)=true)(g3:hasB a2 (ln (ix x4 a1 mZ).Guests)=true)(e:(ix (ix x4 a1 zh).Guests a2 zo)=gOf a0 a1 a2) :
 (cond (zdN ({ (ix (ix (zu a0).Mons a1 zh).Guests a2 zo) with Prog:=(ix (ix x4 a1 zh).Guests a2 zo).Prog,Written:=(ix (ix x4 a1 zh).Guests a2 zo).Written,Live:=(ix (ix x4 a1 zh).Guests a2 zo).Live,Seen:=(ix (ix x4 a1 zh).Guests a2 zo).Seen }:Guest) (ix (ix (zu a0).Mons a1 zh).Guests a2 zo).Ctl.Traps 7) (cond (zdb ({ (ix (ix (zu a0).Mons a1 zh).Guests a2 zo) with Prog:=(ix (ix x4 a1 zh).Guests a2 zo).Prog,Written:=(ix (ix x4 a1 zh).Guests a2 zo).Written,Live:=(ix (ix x4 a1 zh).Guests a2 zo).Live,Seen:=(ix (ix x4 a1 zh).Guests a2 zo).Seen }:Guest) (ix (ix (zu a0).Mons a1 zh).Guests a2 zo).Ctl.Traps 7) (cond (inb a1 (ln x4)) (cond (inb a2 (ln (ix x4 a1 zh).Guests)) (share (up x4 a1 ({ (ix x4 a1 zh) with Guests:=(up (ix x4 a1 zh).Guests a2 (zb2 ({ (ix (ix (zu a0).Mons a1 zh).Guests a2 zo) with Prog:=(ix (ix x4 a1 zh).Guests a2 zo).Prog,Written:=(ix (ix x4 a1 zh).Guests a2 zo).Written,Live:=(ix (ix x4 a1 zh).Guests a2 zo).Live,Seen:=(ix (ix x4 a1 zh).Guests a2 zo).Seen }:Guest) (ix (ix (zu a0).Mons a1 zh).Guests a2 zo).Ctl.Traps 7)) }:Mon)) (fun x5=>(some [(.agg (zS ({ (zu a0) with Mons:=x5 }:Host))),(.one (.b true))]))) none) none) (cond (inb a1 (ln x4)) (cond (inb a2 (ln (ix x4 a1 zh).Guests)) (share (up x4 a1 ({ (ix x4 a1 zh) with Guests:=(up (ix x4 a1 zh).Guests a2 (zb2 ({ (ix (ix (zu a0).Mons a1 zh).Guests a2 zo) with Prog:=(ix (ix x4 a1 zh).Guests a2 zo).Prog,Written:=(ix (ix x4 a1 zh).Guests a2 zo).Written,Live:=(ix (ix x4 a1 zh).Guests a2 zo).Live,Seen:=(ix (ix x4 a1 zh).Guests a2 zo).Seen }:Guest) (ix (ix (zu a0).Mons a1 zh).Guests a2 zo).Ctl.Traps 7)) }:Mon)) (fun x5=>(some [(.agg (zS ({ (zu a0) with Mons:=x5 }:Host))),(.one (.b true))]))) none) none)) none)=some (zdS (zgn { a0 with Mons:=x4 } a1 a2 (zga (gOf a0 a1 a2) (gOf a0 a1 a2).Ctl.Traps 7),true)):=by
 rw[e];exact must (zbf hx) (br (fun h1=>must (zx g2) (must (zx g3) rfl)) (fun h1=>must (zx g2) (must (zx g3) rfl)))
theorem zHV (a0:Host)(a1 a2:Int)(hc:zx4 a0 a1 a2=true):∃N,zwJ N a0 a1 a2=some [aH (zx2 a0 a1 a2),aB (zx3 a0 a1 a2)]:=by
 obtain ⟨hc,hw⟩:=zmR hc;have hs:=(zF a0).1 (zy.1 hc);refine ⟨0,?_⟩
 show _=some (zdS (zbq a0 a1 a2))
 unfold zwJ oN nB
 conv=>zeta
 refine must (zbf ((zF _).2 hs)) (must (zbf ((zF _).2 hs)) (brN (fun hh=>?_) (fun hh=>?_)))
 .rw [zhX hh];rfl
 obtain ⟨g1,g2,g3⟩:=zct hh;have hx:=zks hs g2 g3;have hk:zG (gOf a0 a1 a2)=7:=qD hw;rw[ziQ hh,hk];refine must (zx g2) (must (zx g3) (must (ziV rfl hw) ?_))
 show _=some (zdS (zk3 a0 a1 a2 (gOf a0 a1 a2) 7,true))
 refine must (zx g2) (must rfl (br (fun h0=>must (zx g2) (br (fun h9=>must (zx g2) (must (zx g2) (shr ?_))) (fun h9=>?_))) (fun h0=>?_)))
 .rw [zoq (z2v (h:=a0) (m:=a1) (x:=gOf a0 a1 a2) (w:=7) rfl h0 h9),zGB (w:=7) rfl];have eM:=zpE g2 { ix a0.Mons a1 mZ with Own:=zD .i64 (ix a0.Mons a1 mZ).Own 1 };refine zbcP hx (zen g2) ?_ ?_
  .show hasB a2 (ln (ix (up a0.Mons a1 _) a1 mZ).Guests)=true
   rw[eM];exact g3
  .show ix (ix (up a0.Mons a1 _) a1 mZ).Guests a2 gZ=_
   rw[eM];rfl
 .rw [zoq (z2u (h:=a0) (m:=a1) (x:=gOf a0 a1 a2) (w:=7) h9),zGB (w:=7) rfl];exact z9S hx g2 g3
 .rw [zoq (z2t (h:=a0) (m:=a1) (x:=gOf a0 a1 a2) (w:=7) h0),zGB (w:=7) rfl];exact z9S hx g2 g3
theorem zDx:u4 110 zH5:=kF3 z2V zi zbj zgz (zk []) zHV
def zq8:List AV->Option (Bool×List AV)
 | [.agg [.s (.sl .int) b,.s .mon c,.s .entry d,.s .entry e],.one (.i .i64 f),.one (.i .i64 g)]=>some ((zeA (⟨b,c,d,e⟩:Host) f g),[aH (zGq (⟨b,c,d,e⟩:Host) f g),aB (zGr (⟨b,c,d,e⟩:Host) f g)])
 | _=>none
theorem zKZ:u4 110 zq8:=by
 refine ⟨zqu.1,fun w avs xs rs hrep h=>?_⟩;unfold zq8 at h;split at h
 .rename_i a0_0 a0_1 a0_2 a0_3 a1 a2;obtain ⟨hc,rfl⟩:=zdO h;rcases z8E (gOf (⟨a0_0,a0_1,a0_2,a0_3⟩:Host) a1 a2) with e|e|e|e|e|e|e|e
  .exact zqu.2 w _ xs _ hrep (congrArg (fun c=>some (c,zdS (zbq (⟨a0_0,a0_1,a0_2,a0_3⟩:Host) a1 a2))) (ziV hc e))
  .exact zDr.2 w _ xs _ hrep (congrArg (fun c=>some (c,zdS (zbq (⟨a0_0,a0_1,a0_2,a0_3⟩:Host) a1 a2))) (ziV hc e))
  .exact zDs.2 w _ xs _ hrep (congrArg (fun c=>some (c,zdS (zbq (⟨a0_0,a0_1,a0_2,a0_3⟩:Host) a1 a2))) (ziV hc e))
  .exact zDt.2 w _ xs _ hrep (congrArg (fun c=>some (c,zdS (zbq (⟨a0_0,a0_1,a0_2,a0_3⟩:Host) a1 a2))) (ziV hc e))
  .exact zDu.2 w _ xs _ hrep (congrArg (fun c=>some (c,zdS (zbq (⟨a0_0,a0_1,a0_2,a0_3⟩:Host) a1 a2))) (ziV hc e))
  .exact zDv.2 w _ xs _ hrep (congrArg (fun c=>some (c,zdS (zbq (⟨a0_0,a0_1,a0_2,a0_3⟩:Host) a1 a2))) (ziV hc e))
  .exact zDw.2 w _ xs _ hrep (congrArg (fun c=>some (c,zdS (zbq (⟨a0_0,a0_1,a0_2,a0_3⟩:Host) a1 a2))) (ziV hc e))
  .exact zDx.2 w _ xs _ hrep (congrArg (fun c=>some (c,zdS (zbq (⟨a0_0,a0_1,a0_2,a0_3⟩:Host) a1 a2))) (ziV hc e))
 .cases h
@[simp] abbrev zur (h:Host)(m g page need:Int)(io:Bool):Bool:=pc (zbA h)
@[simp] abbrev zuo (h:Host)(m g page need:Int)(io:Bool):Host:=(lookOf h (zua h io) m g page need io).1
@[simp] abbrev zup (h:Host)(m g page need:Int)(io:Bool):Int:=(lookOf h (zua h io) m g page need io).2.1
@[simp] abbrev zuq (h:Host)(m g page need:Int)(io:Bool):Bool:=(lookOf h (zua h io) m g page need io).2.2
def zFS:Run:=rF6 dH dI dI dI dI dB fun b c d e f g=>(zur b c d e f g,[aH (zuo b c d e f g),aI (zup b c d e f g),aB (zuq b c d e f g)])
abbrev zWC (u9_10:lM)(u9_11:lN)(u9_12:lE)(u9_13:lE)(u9_0:Int)(u9_4:Int)(u9_3:Int):Mon :=
 (ix (zn6 (⟨u9_10,u9_11,u9_12,u9_13⟩:Host) u9_0 u9_4 u9_3).Mons u9_0 zh)
def ztb (N:Nat)(u10_0:Int)(u10_1:Int)(u10_2:Int)(u10_3:Int)(u10_8:lM)(u10_9:lN)(u10_10:lE)(u10_11:lE):OA:=
 let y0:=(⟨u10_1,u10_0,u10_2,u10_3⟩:Entry); (oN (zpq u10_11 y0) (some [(aH (⟨u10_8,u10_9,u10_10,(zpp u10_11 y0)⟩:Host)),(aI u10_2),(aB true)]))
def zvd (N:Nat)(u9_10:lM)(u9_11:lN)(u9_12:lE)(u9_13:lE)(u9_0:Int)(u9_4:Int)(u9_3:Int)(u9_1:Int)(u9_2:Int)(r10:((Int×(Int×(Int×(Int×(lM×(lN×(lE×(lE×(lM×(lN×(lE×(lE×Unit)))))))))))))->OA)(u9_5:Int)(u9_6:lM)(u9_7:lN)(u9_8:lE)(u9_9:lE):OA:=
 let y6:=(⟨u9_10,u9_11,u9_12,u9_13⟩:Host);let y1:=(zn6 y6 u9_0 u9_4 u9_3);let y0:=(zWC u9_10 u9_11 u9_12 u9_13 u9_0 u9_4 u9_3);let y5:=(ix y0.Tables u9_1 zcU);let y3:=(ix y0.Guests u9_1 zo).Live; (oN (zvM y6 u9_0 u9_4 u9_3) (oN (inb u9_0 (ln y1.Mons)) (oN (inb u9_1 (ln y0.Tables)) (oN (inb u9_1 (ln y0.Guests)) (oN (zLe y5 y3 y0.Outer u9_2) (oN (inb u9_1 (ln y0.Tables)) (share (up y1.Mons u9_0 ({ y0 with Tables:=(up y0.Tables u9_1 (zOs y5 y3 y0.Outer u9_2)) }:Mon)) (fun x11=>let y4:=(ix x11 u9_0 zh).Tables;let y2:=(ix y4 u9_1 zcU); (oN (inb u9_1 (ln y4)) (oN (zzu y2 u9_2) (r10 (u9_2,(u9_5,((zuV y2 u9_2).Page,((zuV y2 u9_2).Rights,(u9_6,(u9_7,(u9_8,(u9_9,(y1.Memory,(x11,(y1.Buffer,(y1.IoBuffer,())))))))))))))))))))))))
def zoQ (N:Nat)(u9_11:lN)(u9_0:Int)(u9_1:Int)(u9_2:Int)(u9_10:lM)(u9_12:lE)(u9_13:lE)(u9_4:Int)(u9_3:Int)(r10:((Int×(Int×(Int×(Int×(lM×(lN×(lE×(lE×(lM×(lN×(lE×(lE×Unit)))))))))))))->OA)(u9_5:Int)(u9_6:lM)(u9_7:lN)(u9_8:lE)(u9_9:lE):OA:=
 let y1:=(zvd N u9_10 u9_11 u9_12 u9_13 u9_0 u9_4 u9_3 u9_1 u9_2 r10 u9_5 u9_6 u9_7 u9_8 u9_9);let y0:=(ix (ix u9_11 u9_0 zh).Tables u9_1 zcU);let y2:=(zuV y0 u9_2); (cond (nB (zGU y0 u9_2)) y1 (cond (ieq y2.Page (-1)) y1 (oN (zdk y2.Rights u9_3) (cond (nB (zdP y2.Rights u9_3)) y1 (r10 (u9_2,(u9_5,(y2.Page,(y2.Rights,(u9_6,(u9_7,(u9_8,(u9_9,(u9_10,(u9_11,(u9_12,(u9_13,())))))))))))))))))
def ztc (N:Nat)(u9_0:Int)(u9_1:Int)(u9_2:Int)(u9_3:Int)(u9_4:Int)(u9_5:Int)(u9_6:lM)(u9_7:lN)(u9_8:lE)(u9_9:lE)(u9_10:lM)(u9_11:lN)(u9_12:lE)(u9_13:lE):OA:=
 let y0:=(ix u9_11 u9_0 zh).Tables; (oN (inb u9_0 (ln u9_11)) (oN (inb u9_1 (ln y0)) (oN (zzu (ix y0 u9_1 zcU) u9_2) (share (fun (s10:(Int×(Int×(Int×(Int×(lM×(lN×(lE×(lE×(lM×(lN×(lE×(lE×Unit)))))))))))))=>(ztb N s10.1 s10.2.1 s10.2.2.1 s10.2.2.2.1 s10.2.2.2.2.2.2.2.2.1 s10.2.2.2.2.2.2.2.2.2.1 s10.2.2.2.2.2.2.2.2.2.2.1 s10.2.2.2.2.2.2.2.2.2.2.2.1)) (fun r10=>(zoQ N u9_11 u9_0 u9_1 u9_2 u9_10 u9_12 u9_13 u9_4 u9_3 r10 u9_5 u9_6 u9_7 u9_8 u9_9))))))
def ztd (N:Nat)(u10_0:Int)(u10_1:Int)(u10_2:Int)(u10_3:Int)(u10_8:lM)(u10_9:lN)(u10_10:lE)(u10_11:lE):OA:=
 let y0:=(⟨u10_1,u10_0,u10_2,u10_3⟩:Entry); (oN (zpq u10_10 y0) (some [(aH (⟨u10_8,u10_9,(zpp u10_10 y0),u10_11⟩:Host)),(aI u10_2),(aB true)]))
def zte (N:Nat)(u9_0:Int)(u9_1:Int)(u9_2:Int)(u9_3:Int)(u9_4:Int)(u9_5:Int)(u9_6:lM)(u9_7:lN)(u9_8:lE)(u9_9:lE)(u9_10:lM)(u9_11:lN)(u9_12:lE)(u9_13:lE):OA:=
 let y0:=(ix u9_11 u9_0 zh).Tables; (oN (inb u9_0 (ln u9_11)) (oN (inb u9_1 (ln y0)) (oN (zzu (ix y0 u9_1 zcU) u9_2) (share (fun (s10:(Int×(Int×(Int×(Int×(lM×(lN×(lE×(lE×(lM×(lN×(lE×(lE×Unit)))))))))))))=>(ztd N s10.1 s10.2.1 s10.2.2.1 s10.2.2.2.1 s10.2.2.2.2.2.2.2.2.1 s10.2.2.2.2.2.2.2.2.2.1 s10.2.2.2.2.2.2.2.2.2.2.1 s10.2.2.2.2.2.2.2.2.2.2.2.1)) (fun r10=>(zoQ N u9_11 u9_0 u9_1 u9_2 u9_10 u9_12 u9_13 u9_4 u9_3 r10 u9_5 u9_6 u9_7 u9_8 u9_9))))))
def ztf (N:Nat)(u8_0:Int)(u8_1:Int)(u8_2:Int)(u8_3:Int)(u8_4:Bool)(u8_5:Int)(u8_6:lM)(u8_7:lN)(u8_8:lE)(u8_9:lE)(u8_10:lM)(u8_11:lN)(u8_12:lE)(u8_13:lE):OA:=
 let y1:=(aH (⟨u8_10,u8_11,u8_12,u8_13⟩:Host));let y0:=(zuX u8_0 u8_1);let y3:=(zkb u8_12 y0 u8_2);let y2:=(zkb u8_13 y0 u8_2); (cond u8_4 (oN (zsP u8_0 u8_1) (share (fun (s9:(Int×(Int×(Int×(Int×(Int×(Int×(lM×(lN×(lE×(lE×(lM×(lN×(lE×(lE×Unit)))))))))))))))=>(ztc N s9.1 s9.2.1 s9.2.2.1 s9.2.2.2.1 s9.2.2.2.2.1 s9.2.2.2.2.2.1 s9.2.2.2.2.2.2.1 s9.2.2.2.2.2.2.2.1 s9.2.2.2.2.2.2.2.2.1 s9.2.2.2.2.2.2.2.2.2.1 s9.2.2.2.2.2.2.2.2.2.2.1 s9.2.2.2.2.2.2.2.2.2.2.2.1 s9.2.2.2.2.2.2.2.2.2.2.2.2.1 s9.2.2.2.2.2.2.2.2.2.2.2.2.2.1)) (fun r9=>(oN (znL u8_13 y0 u8_2) (cond (zkc u8_13 y0 u8_2) (oN (zdk y2.Rights u8_3) (cond (zdP y2.Rights u8_3) (some [y1,(aI y2.Host),(aB true)]) (r9 (u8_0,(u8_1,(u8_2,(u8_3,(u8_5,(y0,(u8_6,(u8_7,(u8_8,(u8_9,(u8_10,(u8_11,(u8_12,(u8_13,()))))))))))))))))) (r9 (u8_0,(u8_1,(u8_2,(u8_3,(u8_5,(y0,(u8_6,(u8_7,(u8_8,(u8_9,(u8_10,(u8_11,(u8_12,(u8_13,())))))))))))))))))))) (oN (zsP u8_0 u8_1) (share (fun (s9:(Int×(Int×(Int×(Int×(Int×(Int×(lM×(lN×(lE×(lE×(lM×(lN×(lE×(lE×Unit)))))))))))))))=>(zte N s9.1 s9.2.1 s9.2.2.1 s9.2.2.2.1 s9.2.2.2.2.1 s9.2.2.2.2.2.1 s9.2.2.2.2.2.2.1 s9.2.2.2.2.2.2.2.1 s9.2.2.2.2.2.2.2.2.1 s9.2.2.2.2.2.2.2.2.2.1 s9.2.2.2.2.2.2.2.2.2.2.1 s9.2.2.2.2.2.2.2.2.2.2.2.1 s9.2.2.2.2.2.2.2.2.2.2.2.2.1 s9.2.2.2.2.2.2.2.2.2.2.2.2.2.1)) (fun r9=>(oN (znL u8_12 y0 u8_2) (cond (zkc u8_12 y0 u8_2) (oN (zdk y3.Rights u8_3) (cond (zdP y3.Rights u8_3) (some [y1,(aI y3.Host),(aB true)]) (r9 (u8_0,(u8_1,(u8_2,(u8_3,(u8_5,(y0,(u8_6,(u8_7,(u8_8,(u8_9,(u8_10,(u8_11,(u8_12,(u8_13,()))))))))))))))))) (r9 (u8_0,(u8_1,(u8_2,(u8_3,(u8_5,(y0,(u8_6,(u8_7,(u8_8,(u8_9,(u8_10,(u8_11,(u8_12,(u8_13,())))))))))))))))))))))
def ztg (N:Nat)(u7_0:Int)(u7_1:Int)(u7_2:Int)(u7_3:Int)(u7_4:Bool)(u7_8:lM)(u7_9:lN)(u7_10:lE)(u7_11:lE)(u7_12:lM)(u7_13:lN)(u7_14:lE)(u7_15:lE)(u7_19:lG):OA:=
 let y1:=(ix u7_13 u7_0 zh);let y0:=(ix u7_19 u7_1 zo).Live;let y2:=(zhQ y0 u7_2 u7_3); (oN (inb u7_1 (ln u7_19)) (oN (zkf y0 u7_2 u7_3) (cond (nB (zgC y0 u7_2 u7_3)) (some [(aH (⟨u7_12,u7_13,u7_14,u7_15⟩:Host)),(aI (-1)),(aB false)]) (share (fun (s8:(Int×(Int×(Int×(Int×(Bool×(Int×(lM×(lN×(lE×(lE×(lM×(lN×(lE×(lE×Unit)))))))))))))))=>(ztf N s8.1 s8.2.1 s8.2.2.1 s8.2.2.2.1 s8.2.2.2.2.1 s8.2.2.2.2.2.1 s8.2.2.2.2.2.2.1 s8.2.2.2.2.2.2.2.1 s8.2.2.2.2.2.2.2.2.1 s8.2.2.2.2.2.2.2.2.2.1 s8.2.2.2.2.2.2.2.2.2.2.1 s8.2.2.2.2.2.2.2.2.2.2.2.1 s8.2.2.2.2.2.2.2.2.2.2.2.2.1 s8.2.2.2.2.2.2.2.2.2.2.2.2.2.1)) (fun r8=>(cond (ieq u7_3 2) (oN (inb u7_0 (ln u7_13)) (oN (inb y2 (ln y1.Dirty)) (share (up u7_13 u7_0 ({ y1 with Dirty:=(up y1.Dirty y2 true) }:Mon)) (fun x9=>r8 (u7_0,(u7_1,(u7_2,(u7_3,(u7_4,(y2,(u7_8,(u7_9,(u7_10,(u7_11,(u7_12,(x9,(u7_14,(u7_15,())))))))))))))))))) (r8 (u7_0,(u7_1,(u7_2,(u7_3,(u7_4,(y2,(u7_8,(u7_9,(u7_10,(u7_11,(u7_12,(u7_13,(u7_14,(u7_15,())))))))))))))))))))))
def zMx (N:Nat)(a0:Host)(a1 a2:Int)(a3 a4:Int)(a5:Bool):OA:=
 let y1:=(zI a0);let y0:=(zcc a0 a1); (oN (zba a0) (oN (zsN a0 a1) (share (fun (s7:(Int×(Int×(Int×(Int×(Bool×(Int×(Int×(Int×(lM×(lN×(lE×(lE×(lM×(lN×(lE×(lE×(lS×(lM×(lB×(lG×((List Int)×(lK×Unit)))))))))))))))))))))))=>(ztg N s7.1 s7.2.1 s7.2.2.1 s7.2.2.2.1 s7.2.2.2.2.1 s7.2.2.2.2.2.2.2.2.1 s7.2.2.2.2.2.2.2.2.2.1 s7.2.2.2.2.2.2.2.2.2.2.1 s7.2.2.2.2.2.2.2.2.2.2.2.1 s7.2.2.2.2.2.2.2.2.2.2.2.2.1 s7.2.2.2.2.2.2.2.2.2.2.2.2.2.1 s7.2.2.2.2.2.2.2.2.2.2.2.2.2.2.1 s7.2.2.2.2.2.2.2.2.2.2.2.2.2.2.2.1 s7.2.2.2.2.2.2.2.2.2.2.2.2.2.2.2.2.2.2.2.1)) (fun r7=>(oN (zcJ a0) (cond (nB (zcE a0)) (some [(aH y1),(aI (-1)),(aB false)]) (cond (nB (zlr a0 a1)) (some [(aH y1),(aI (-1)),(aB false)]) (oN (zbx a2 (ln y0.Guests)) (cond (nB (zbK a2 (ln y0.Guests))) (some [(aH y1),(aI (-1)),(aB false)]) (cond (ine a4 1) (cond (ine a4 2) (some [(aH y1),(aI (-1)),(aB false)]) (r7 (a1,(a2,(a3,(a4,(a5,(y0.Pending,(y0.Traps,(y0.Own,([],([],([],([],(y1.Memory,(y1.Mons,(y1.Buffer,(y1.IoBuffer,(y0.Outer,(y0.Out,(y0.Dirty,(y0.Guests,(y0.Outs,(y0.Tables,())))))))))))))))))))))))) (r7 (a1,(a2,(a3,(a4,(a5,(y0.Pending,(y0.Traps,(y0.Own,([],([],([],([],(y1.Memory,(y1.Mons,(y1.Buffer,(y1.IoBuffer,(y0.Outer,(y0.Out,(y0.Dirty,(y0.Guests,(y0.Outs,(y0.Tables,())))))))))))))))))))))))))))))))))
def zZL:FuncId->Nat->Option Tmpl:=zk [(139,999999,{ n:=0,tm:=[],lo:=[],ro:=[] }),(139,1007055,{ n:=200,tm:=[(1,ti),(2,ti),(3,ti),(4,ti),(5,.b),(12,.lp 0 0),(15,.lp 1 0),(16,.lp 2 0)],lo:=[(0,[.sl 0 [],.sl 1 [],.sl 2 [],.sl 3 []]),(1,[.sl 4 [],.sl 5 [],.sl 6 [],.sl 7 []]),(2,[.sl 8 [],.sl 9 [],.sl 10 [],.sl 11 [],.sl 12 [],ti,ti,.sl 13 [],ti])],ro:=[(0,(.sl .int),true),(1,.mon,true),(2,.entry,true),(3,.entry,true),(4,(.sl .int),true),(5,.mon,true),(6,.entry,true),(7,.entry,true),(8,.slot,true),(9,(.sl .int),true),(10,.bool,true),(11,.guest,true),(12,.int,true),(13,.kept,true)] }),(139,1005039,{ n:=200,tm:=[(1,ti),(2,ti),(3,ti),(4,ti),(5,.b),(12,.lp 0 0),(15,.lp 1 0),(18,ti)],lo:=[(0,[.sl 0 [],.sl 1 [],.sl 2 [],.sl 3 []]),(1,[.sl 4 [],.sl 5 [],.sl 6 [],.sl 7 []])],ro:=[(0,(.sl .int),true),(1,.mon,true),(2,.entry,true),(3,.entry,true),(4,(.sl .int),true),(5,.mon,true),(6,.entry,true),(7,.entry,true)] }),(139,1009019,{ n:=200,tm:=[(1,ti),(2,ti),(3,ti),(4,ti),(12,.lp 0 0),(15,.lp 1 0),(18,ti),(20,.lp 1 3),(21,ti)],lo:=[(0,[.sl 0 [],.sl 1 [],.sl 2 [],.sl 3 []]),(1,[.sl 4 [],.sl 5 [],.sl 6 [],.sl 7 []])],ro:=[(0,(.sl .int),true),(1,.mon,true),(2,.entry,true),(3,.entry,true),(4,(.sl .int),true),(5,.mon,true),(6,.entry,true),(7,.entry,true)] }),(139,1011005,{ n:=200,tm:=[(3,ti),(12,.lp 0 0),(15,.lp 1 0),(20,.lp 1 3),(21,ti),(24,.lp 2 0)],lo:=[(0,[.sl 0 [],.sl 1 [],.sl 2 [],.sl 3 []]),(1,[.sl 4 [],.sl 5 [],.sl 6 [],.sl 7 []]),(2,[ti,ti])],ro:=[(0,(.sl .int),true),(1,.mon,true),(2,.entry,true),(3,.entry,true),(4,(.sl .int),true),(5,.mon,true),(6,.entry,true),(7,.entry,true)] }),(139,1001009019,{ n:=200,tm:=[(1,ti),(2,ti),(3,ti),(4,ti),(12,.lp 0 0),(15,.lp 1 0),(18,ti),(20,.lp 1 2),(21,ti)],lo:=[(0,[.sl 0 [],.sl 1 [],.sl 2 [],.sl 3 []]),(1,[.sl 4 [],.sl 5 [],.sl 6 [],.sl 7 []])],ro:=[(0,(.sl .int),true),(1,.mon,true),(2,.entry,true),(3,.entry,true),(4,(.sl .int),true),(5,.mon,true),(6,.entry,true),(7,.entry,true)] }),(139,1001011005,{ n:=200,tm:=[(3,ti),(12,.lp 0 0),(15,.lp 1 0),(20,.lp 1 2),(21,ti),(24,.lp 2 0)],lo:=[(0,[.sl 0 [],.sl 1 [],.sl 2 [],.sl 3 []]),(1,[.sl 4 [],.sl 5 [],.sl 6 [],.sl 7 []]),(2,[ti,ti])],ro:=[(0,(.sl .int),true),(1,.mon,true),(2,.entry,true),(3,.entry,true),(4,(.sl .int),true),(5,.mon,true),(6,.entry,true),(7,.entry,true)] })]
theorem z9X {N:Nat}{r:Host}{m g page:Int}(hi:r.IoBuffer.length<=1048576) :
 ztb N page (zgy m g) (zfC (zcG r m g) page).Page (zfC (zcG r m g) page).Rights r.Memory r.Mons r.Buffer r.IoBuffer=some (zj0 (ze1 r m g page true)):=by
 unfold ztb oN
 conv=>zeta
 exact must (zbf hi) rfl
theorem z9Z {N:Nat}{r:Host}{m g page:Int}(hi:r.Buffer.length<=1048576) :
 ztd N page (zgy m g) (zfC (zcG r m g) page).Page (zfC (zcG r m g) page).Rights r.Memory r.Mons r.Buffer r.IoBuffer=some (zj0 (ze1 r m g page false)):=by
 unfold ztd oN
 conv=>zeta
 exact must (zbf hi) rfl
theorem z7T {N:Nat}{r:Host}{m g page need q:Int}{R:OA}{r10}{u5 u6 u7 u8 u9}(A:LookAt r m g q need)(hr:r10 (page,(u5,((zfC (zcG (zcW (mended r m q need) m g page) m g) page).Page,((zfC (zcG (zcW (mended r m q need) m g page) m g) page).Rights,(u6,(u7,(u8,(u9,((zcW (mended r m q need) m g page).Memory,((zcW (mended r m q need) m g page).Mons,((zcW (mended r m q need) m g page).Buffer,((zcW (mended r m q need) m g page).IoBuffer,()))))))))))))=R) :
 zvd N r.Memory r.Mons r.Buffer r.IoBuffer m q need g page r10 u5 u6 u7 u8 u9=R:=by
 have M:=zmm A.kp A.hm A.hg;have F:=zmm (A.fill page) A.hm A.hg;unfold zvd oN
 conv=>zeta
 exact must (zbf A.mend) (must (zx M.hm) (must (zx M.ht) (must (zx M.hg) (must (zbf M.hk) (must (zx M.ht) (shr (must (zx F.ht) (must rfl hr))))))))
theorem lk_3 {N:Nat}{r:Host}{m g page need q:Int}{io:Bool}{r10}{u5 u6 u7 u8 u9}(A:LookAt r m g q need)(h1:r10 (page,(u5,((zfC (zcG (zcW (mended r m q need) m g page) m g) page).Page,((zfC (zcG (zcW (mended r m q need) m g page) m g) page).Rights,(u6,(u7,(u8,(u9,((zcW (mended r m q need) m g page).Memory,((zcW (mended r m q need) m g page).Mons,((zcW (mended r m q need) m g page).Buffer,((zcW (mended r m q need) m g page).IoBuffer,()))))))))))))=some (zj0 (ze1 (zcW (mended r m q need) m g page) m g page io)))(h2:r10 (page,(u5,((zfC (zcG r m g) page).Page,((zfC (zcG r m g) page).Rights,(u6,(u7,(u8,(u9,(r.Memory,(r.Mons,(r.Buffer,(r.IoBuffer,()))))))))))))=some (zj0 (ze1 r m g page io))) :
 zoQ N r.Mons m g page r.Memory r.Buffer r.IoBuffer q need r10 u5 u6 u7 u8 u9=some (zj0 (cond (zeE r m g page need) (ze1 (zcW (mended r m q need) m g page) m g page io) (ze1 r m g page io))):=by
 unfold zoQ oN nB
 conv=>zeta
 refine brN (fun f1=>?_) (fun f1=>br (fun f2=>?_) (fun f2=>must rfl (brN (fun f3=>?_) (fun f3=>?_))))
 .rw [zu0 (z2l f1)];exact z7T A h1
 .rw [zu0 (z2m f2)];exact z7T A h1
 .rw [zu0 (z2o f3)];exact z7T A h1
 .rw [z14 (z2p f1 f2 f3)];exact h2
theorem z9Y {N:Nat}{r:Host}{m g page need q:Int}{u6 u7 u8 u9}(A:LookAt r m g q need) :
 ztc N m g page need q (zgy m g) u6 u7 u8 u9 r.Memory r.Mons r.Buffer r.IoBuffer=some (zj0 (cond (zeE r m g page need) (ze1 (zcW (mended r m q need) m g page) m g page true) (ze1 r m g page true))):=by
 have M:=zmm ⟨A.fit.1,rfl⟩ A.hm A.hg;have F:=zmm (A.fill page) A.hm A.hg;unfold ztc oN
 conv=>zeta
 exact must (zx M.hm) (must (zx M.ht) (must rfl (shr (lk_3 A (z9X (r:=zcW (mended r m q need) m g page) (m:=m) (g:=g) F.hi) (z9X (r:=r) (m:=m) (g:=g) M.hi)))))
theorem z90 {N:Nat}{r:Host}{m g page need q:Int}{u6 u7 u8 u9}(A:LookAt r m g q need) :
 zte N m g page need q (zgy m g) u6 u7 u8 u9 r.Memory r.Mons r.Buffer r.IoBuffer=some (zj0 (cond (zeE r m g page need) (ze1 (zcW (mended r m q need) m g page) m g page false) (ze1 r m g page false))):=by
 have M:=zmm ⟨A.fit.1,rfl⟩ A.hm A.hg;have F:=zmm (A.fill page) A.hm A.hg;unfold zte oN
 conv=>zeta
 exact must (zx M.hm) (must (zx M.ht) (must rfl (shr (lk_3 A (z9Z (r:=zcW (mended r m q need) m g page) (m:=m) (g:=g) F.hb) (z9Z (r:=r) (m:=m) (g:=g) M.hb)))))
theorem z92 {N:Nat}{r:Host}{m g page need q:Int}{io:Bool}{u6 u7 u8 u9}(A:LookAt r m g q need) :
 ztf N m g page need io q u6 u7 u8 u9 r.Memory r.Mons r.Buffer r.IoBuffer=some (zj0 (zic r (zua r io) m g page need q io)):=by
 unfold ztf oN
 conv=>zeta
 cases io
 .show _=some (zj0 (zic r r.Buffer m g page need q false))
  refine zbN rfl (must rfl (shr (must rfl (br (fun f1=>must rfl (br (fun f2=>?_) (fun f2=>?_))) (fun f1=>?_)))))
  .rw [zGW (zou f1 f2)];rfl
  .rw [zoD (zou f1 f2)];exact z90 A
  .rw [zoD (zGS f1)];exact z90 A
 .show _=some (zj0 (zic r r.IoBuffer m g page need q true))
  refine must rfl (must rfl (shr (must rfl (br (fun f1=>must rfl (br (fun f2=>?_) (fun f2=>?_))) (fun f1=>?_)))))
  .rw [zGW (zou f1 f2)];rfl
  .rw [zoD (zou f1 f2)];exact z9Y A
  .rw [zoD (zGS f1)];exact z9Y A
theorem zbcK (r:Host)(m q:Int)(io:Bool):zua (zbO r m q) io=zua r io:=by
 cases io<;>rfl
theorem z94 {N:Nat}{r:Host}{m g page need:Int}{io:Bool}{z1 z2 z3 z4}(hs:SmH r)(hg:zb5 r m g=true)(hn:zhB need=true) :
 ztg N m g page need io z1 z2 z3 z4 r.Memory r.Mons r.Buffer r.IoBuffer (ix r.Mons m mZ).Guests=some (zj0 (lookOf r (zua r io) m g page need io)):=by
 obtain ⟨g1,g2,g3⟩:=zct hg;unfold ztg oN nB
 conv=>zeta
 refine must (zx g3) (must rfl (brN (fun hw=>?_) (fun hw=>?_)))
 .have:zbX r m g page need=false:=by
   unfold zbX;rw[hg,hn,show zgG (zdv r m g) page need=false from hw]
   rfl
  rw[zhj this];rfl
 .have hl:zbX r m g page need=true:=by
   unfold zbX;rw[hg,hn,show zgG (zdv r m g) page need=true from hw]
   rfl
  obtain ⟨A,B⟩:=zFj hs hl;rw[zLI hl];have hd:hasB (zcI (zdv r m g) page need) (ln (ix r.Mons m mZ).Dirty)=true:=zdc (zb7 A.fit.1 g2).2.2.2.1 A.hq;refine shr (br (fun h2=>?_) (fun h2=>?_))
  .rw [h2]
   show _=some (zj0 (zic (zbO r m (zcI (zdv r m g) page need)) (zua r io) m g page need (zcI (zdv r m g) page need) io))
   rw[<- zbcK r m (zcI (zdv r m g) page need) io];exact must (zx g2) (must (zx hd) (shr (z92 (r:=zbO r m (zcI (zdv r m g) page need)) B)))
  .rw [h2];exact z92 A
theorem zX1 (a0:Host)(a1 a2:Int)(a3 a4:Int)(a5:Bool)(hc:zur a0 a1 a2 a3 a4 a5=true):∃N,zMx N a0 a1 a2 a3 a4 a5=some [aH (zuo a0 a1 a2 a3 a4 a5),aI (zup a0 a1 a2 a3 a4 a5),aB (zuq a0 a1 a2 a3 a4 a5)]:=by
 have hs:=(zF a0).1 (zy.1 hc);refine ⟨0,?_⟩
 show _=some (zj0 (lookOf a0 (zua a0 a5) a1 a2 a3 a4 a5))
 unfold zMx oN nB
 conv=>zeta
 refine must (zbf ((zF _).2 hs)) (must (zbf ((zF _).2 hs)) (shr (must rfl (brN (fun h1=>?_) (fun h1=>?_)))))
 .rw [zhj (zoE (zQh h1))];rfl
 refine brN (fun h2=>?_) (fun h2=>?_)
 .rw [zhj (zoE (zQi h2))];rfl
 have eM:zcc a0 a1=ix a0.Mons a1 mZ:=by
  unfold zcc;rw[show hasB a1 (ln a0.Mons)=true from h2]
  rfl
 rw[eM];refine must rfl (brN (fun h3=>?_) (fun h3=>?_))
 .rw [zhj (zoE (zQj h3))];rfl
 have hg:=zQk h1 h2 h3;have hno:∀{n:Int},zhB n=false->zbX a0 a1 a2 a3 n=false:=fun {n} h=>by
  unfold zbX;rw[hg,h];rfl
 rw[zhR,zhR];cases h4:ieq a4 1
 .cases h5:ieq a4 2
  .have:zhB a4=false:=by unfold zhB;rw[h4,h5];rfl
   rw[zhj (hno this)];rfl
  .exact z94 (r:=a0) hs hg (by unfold zhB;rw[h4,h5];rfl)
 .exact z94 (r:=a0) hs hg (by unfold zhB;rw[h4];rfl)
theorem zQP:u4 139 zFS:=kF6 zhr zi zbj zgz zZL zX1
def z9H:zV:=[(139,zFS),(110,zq8)]++znJ
theorem zW6:zJ z9H:=zf zQP (zf zKZ zhr)
@[simp] abbrev zA5 (h:Host)(m g page need:Int):Bool:=pc (zbA h)
@[simp] abbrev zug (h:Host)(m g page need:Int):Host:=(lookOf h h.Buffer m g page need false).1
@[simp] abbrev zuh (h:Host)(m g page need:Int):Int:=(lookOf h h.Buffer m g page need false).2.1
@[simp] abbrev zA4 (h:Host)(m g page need:Int):Bool:=(lookOf h h.Buffer m g page need false).2.2
def zFA:Run:=rF5 dH dI dI dI dI fun b c d e f=>(zA5 b c d e f,[aH (zug b c d e f),aI (zuh b c d e f),aB (zA4 b c d e f)])
def zMg (N:Nat)(a0:Host)(a1 a2:Int)(a3 a4:Int):OA:=
 (oN (zur a0 a1 a2 a3 a4 false) (some [(aH (zuo a0 a1 a2 a3 a4 false)),(aI (zup a0 a1 a2 a3 a4 false)),(aB (zuq a0 a1 a2 a3 a4 false))]))
theorem zXI (a0:Host)(a1 a2:Int)(a3 a4:Int)(hc:zA5 a0 a1 a2 a3 a4=true):∃N,zMg N a0 a1 a2 a3 a4=some [aH (zug a0 a1 a2 a3 a4),aI (zuh a0 a1 a2 a3 a4),aB (zA4 a0 a1 a2 a3 a4)]:=by
 refine ⟨0,?_⟩;unfold zMg oN;exact must hc rfl
theorem zQx:u4 59 zFA:=kF5 zW6 zi zbj zgz (zk []) zXI
def z9I:zV:=[(59,zFA)]++z9H
theorem z7D:zJ z9I:=zf zQx zW6
def brought (n a b:Int):Int:=bif ilt n a then a else (cond (ilt b a) a (ze2 n b))
@[simp] abbrev zrK (_ _ _:Int):Bool:=true
@[simp] abbrev zoy (n a b:Int):Int:=brought n a b
def ztE:Run:=rF3 dI dI dI fun b c d=>(zrK b c d,[aI (zoy b c d)])
def zIc (N:Nat)(a0 a1 a2:Int):OA:=
 (cond (ilt a0 a1) (some [(aI a1)]) (cond (ilt a2 a1) (some [(aI a1)]) (some [(aI (ze2 a0 a2))])))
theorem zUY (a0 a1 a2:Int)(hc:zrK a0 a1 a2=true):∃N,zIc N a0 a1 a2=some [aI (zoy a0 a1 a2)]:=by
 refine ⟨0,?_⟩;unfold zIc;refine br (fun _=>?_) (fun _=>br (fun _=>?_) (fun _=>?_))
 all_goals first|rfl|(simp only [*,zoy,brought,cT,cF]<;>rfl)|simp_all[Ty.cells,zoy,brought]
theorem zw3:u4 45 ztE:=kF3 zn1 zi zl zn (zk []) zUY
@[simp] abbrev zr1 (_ _ _:Int):Bool:=true
@[simp] abbrev zsZ (n a b:Int):Int:=brought n a b
def ztJ:Run:=rF3 dI dI dI fun b c d=>(zr1 b c d,[aI (zsZ b c d)])
def zID (N:Nat)(a0 a1 a2:Int):OA:=
 (cond (ilt a2 a1) (some [(aI a1)]) (cond (ilt a0 a1) (some [(aI a1)]) (cond (igt a0 a2) (some [(aI a2)]) (some [(aI a0)]))))
theorem zVr (a0 a1 a2:Int)(hc:zr1 a0 a1 a2=true):∃N,zID N a0 a1 a2=some [aI (zsZ a0 a1 a2)]:=by
 refine ⟨0,?_⟩;unfold zID;unfold zsZ brought ze2;cases h1:ilt a2 a1<;>cases h2:ilt a0 a1<;>cases h3:igt a0 a2<;>simp [igt] at * <;> omega
theorem zw8:u4 187 ztJ:=kF3 zn1 zi zl zn (zk []) zVr
structure RI (a:List Bare) (i:Nat) (l:List Bare):Prop where
 len:l.length=a.length
 sm:z2C l
 eq:∀k,i<=k->l[k]?=a[k]?
theorem RI.up {a l:List Bare}{i:Nat}(h:RI a i l)(x:Bare)(hx:SmB x):RI a (i+1) (up l (i:Int) x) :=
 ⟨by rw[ze0];exact h.len,zbbo h.sm hx,fun k hk=>by rw[zbb4 (by omega)];exact h.eq k (by omega)⟩
structure RJ (l:List Bare) (i:Nat) (l':List Bare):Prop where
 len:l'.length=l.length
 sm:SmB (ix l' (i:Int) zbcu)
 up:∀x,E.up l' (i:Int) x=E.up l (i:Int) x
theorem RJ.next {l l':List Bare}{i:Nat}(h:RJ l i l')(hi:i<l.length)(x:Bare)(hx:SmB x):RJ l i (E.up l' (i:Int) x) :=
 ⟨by rw[ze0];exact h.len,by rw[zcX (by rw[h.len];exact hi)];exact hx,fun y=>by rw[zqr];exact h.up y⟩
def z5p:zV:=[(70,zq2)]++z9I
theorem zTH:zJ z5p:=zf zvs z7D
@[simp] abbrev zvJ (h:Host)(m g:Int):Bool:=pc (zbA h)
@[simp] abbrev zpi (h:Host)(m g:Int):Host:=(zbq h m g).1
@[simp] abbrev zvI (h:Host)(m g:Int):Bool:=(zbq h m g).2
def zzP:Run:=rF3 dH dI dI fun b c d=>(zvJ b c d,[aH (zpi b c d),aB (zvI b c d)])
abbrev zhc (a0:Host)(a1 a2:Int):Int :=
 (zlj (ix (zcc a0 a1).Guests a2 zo))
abbrev zcC (a0:Host)(a1 a2:Int):Int :=
 (zhw (ix (zcc a0 a1).Guests a2 zo))
abbrev zyY (a0:Host)(a1 a2:Int):Host :=
 (zug a0 a1 a2 (zbZ (zhc a0 a1 a2)) (zeI (ieq (zcC a0 a1 a2) 4)))
abbrev zhb (a0:Host)(a1 a2:Int):Guest :=
 (ix (ix (zI a0).Mons a1 zh).Guests a2 zo)
abbrev zlW (x4:lN)(a1 a2:Int):Guest :=
 (ix (ix x4 a1 zh).Guests a2 zo)
abbrev zyZ (a0:Host)(a1 a2:Int):Int :=
 (zuh a0 a1 a2 (zbZ (zhc a0 a1 a2)) (zeI (ieq (zcC a0 a1 a2) 4)))
def zlX (N:Nat)(a0:Host)(a1 a2:Int):OA:=
 let y5:=(zyZ a0 a1 a2);let y4:=(ieq (zcC a0 a1 a2) 4);let y3:=(zhc a0 a1 a2);let y2:=(zyY a0 a1 a2);let y6:=(inb a1 (ln y2.Mons));let y1:=(ix (zcc a0 a1).Guests a2 zo);let y0:=(ix y2.Mons a1 zh);let y7:=(inb a2 (ln y0.Guests)); (oN (zez y3) (oN (zpn y4) (oN (zA5 a0 a1 a2 (zbZ y3) (zeI y4)) (cond (nB (zA4 a0 a1 a2 (zbZ y3) (zeI y4))) (oN (zez y3) (oN (zka (zbZ y3) y4) (oN (zdK y1 (ziC (zbZ y3) y4)) (oN y6 (oN y7 (share (up y2.Mons a1 ({ y0 with Guests:=(up y0.Guests a2 (zeS y1 (ziC (zbZ y3) y4))) }:Mon)) (fun x4=>(some [(aH ({ y2 with Mons:=x4 }:Host)),(aB true)])))))))) (cond y4 (oN (zey y3) (oN (zfc y2.Memory y5 (zdU y3) y1.A) (oN (zps y1) (oN y6 (oN y7 (share (up y2.Mons a1 ({ y0 with Guests:=(up y0.Guests a2 (zlt y1)) }:Mon)) (fun x4=>(some [(aH ({ y2 with Memory:=(zf0 y2.Memory y5 (zdU y3) y1.A),Mons:=x4 }:Host)),(aB true)])))))))) (oN (zey y3) (oN (zmc y2.Memory y5 (zdU y3)) (oN (zpm y1 (zlk y2.Memory y5 (zdU y3))) (oN y6 (oN y7 (share (up y2.Mons a1 ({ y0 with Guests:=(up y0.Guests a2 (zlp y1 (zlk y2.Memory y5 (zdU y3)))) }:Mon)) (fun x4=>(some [(aH ({ y2 with Mons:=x4 }:Host)),(aB true)])))))))))))))
def zlY (N:Nat)(a0:Host)(a1 a2:Int)(x4:lN):OA:=
 let y2:=(zlW x4 a1 a2);let y1:=(ix x4 a1 zh);let y0:=({ (zhb a0 a1 a2) with Prog:=y2.Prog,Written:=y2.Written,Live:=y2.Live,Seen:=y2.Seen }:Guest); (oN (zdf y0) (oN (inb a2 (ln y1.Guests)) (share (up x4 a1 ({ y1 with Guests:=(up y1.Guests a2 (zcY y0)) }:Mon)) (fun x5=>(some [(aH ({ (zI a0) with Mons:=x5 }:Host)),(aB true)])))))
def zlZ (N:Nat)(a0:Host)(a1 a2:Int):OA:=
 let y3:=(zI a0).Mons;let y1:=(zhb a0 a1 a2);let y0:=(ix y3 a1 zh);let y2:=(ap y0.Outs [(zgr y1.Prog y1.Pc).X]); (cond (ieq (zcC a0 a1 a2) 7) (oN (zjT y1) (oN (inb a2 (ln y0.Guests)) (share (up y3 a1 ({ y0 with Guests:=(up y0.Guests a2 (zi8 y1)) }:Mon)) (fun x4=>(some [(aH ({ (zI a0) with Mons:=x4 }:Host)),(aB true)]))))) (cond (ilt (ln y0.Outs) 40) (oN (zgh y1.Prog y1.Pc) (oN (few (ln y2)) (oN (cond (ieq a1 a1) true false) (share (up y3 a1 ({ y0 with Outs:=y2 }:Mon)) (fun x4=>(zlY N a0 a1 a2 x4)))))) (oN (zdf y1) (oN (inb a2 (ln y0.Guests)) (share (up y3 a1 ({ y0 with Guests:=(up y0.Guests a2 (zcY y1)) }:Mon)) (fun x4=>(some [(aH ({ (zI a0) with Mons:=x4 }:Host)),(aB true)])))))))
def zl0 (N:Nat)(a1:Int)(a0:Host)(a2:Int):OA:=
 let y9:=(zI a0);let y5:=(zcC a0 a1 a2);let y2:=(zhb a0 a1 a2);let y1:=(ix y9.Mons a1 zh);let y11:=(zoA y1.Traps y2.Ctl.Traps (zhx y5)); (oN (inb a1 (ln y9.Mons)) (oN (inb a2 (ln y1.Guests)) (oN (zpw y5) (oN (zyu y1.Traps y2.Ctl.Traps (zhx y5)) (cond (ieq y11 1) (oN (znk y2 y5) (oN (inb a2 (ln y1.Guests)) (share (up y9.Mons a1 ({ y1 with Guests:=(up y1.Guests a2 (zjC y2 y5)) }:Mon)) (fun x4=>(some [(aH ({ y9 with Mons:=x4 }:Host)),(aB true)]))))) (cond (ieq y11 2) (cond (ilt y1.Own 1000000000) (share (up y9.Mons a1 ({ y1 with Own:=(zD .i64 y1.Own 1) }:Mon)) (fun x4=>let y4:=(ix x4 a1 zh);let y3:=(zlW x4 a1 a2);let y10:=(ap y4.Outs [(zgr y3.Prog y2.Pc).X]);let y6:=({ y2 with Prog:=y3.Prog,Written:=y3.Written,Live:=y3.Live,Seen:=y3.Seen }:Guest); (cond (ieq y5 7) (oN (zjT y6) (oN (inb a2 (ln y4.Guests)) (share (up x4 a1 ({ y4 with Guests:=(up y4.Guests a2 (zi8 y6)) }:Mon)) (fun x5=>(some [(aH ({ y9 with Mons:=x5 }:Host)),(aB true)]))))) (cond (ilt (ln y4.Outs) 40) (oN (zgh y3.Prog y2.Pc) (oN (few (ln y10)) (oN (cond (ieq a1 a1) true false) (share (up x4 a1 ({ y4 with Outs:=y10 }:Mon)) (fun x5=>let y8:=(ix x5 a1 zh);let y0:=(ix y8.Guests a2 zo);let y7:=({ y2 with Prog:=y0.Prog,Written:=y0.Written,Live:=y0.Live,Seen:=y0.Seen }:Guest); (oN (zdf y7) (oN (inb a2 (ln y8.Guests)) (share (up x5 a1 ({ y8 with Guests:=(up y8.Guests a2 (zcY y7)) }:Mon)) (fun x6=>(some [(aH ({ y9 with Mons:=x6 }:Host)),(aB true)])))))))))) (zlY N a0 a1 a2 x4))))) (zlZ N a0 a1 a2)) (zlZ N a0 a1 a2)))))))
def ziZ (N:Nat)(a0:Host)(a1 a2:Int):OA:=
 (oN (zee a0 a1) (oN (zvB (zc7 a0 a1) a2) (oN (inb a1 (ln (zI a0).Mons)) (share (up (zI a0).Mons a1 ({ (ix (zI a0).Mons a1 zh) with Guests:=(zi6 (zc7 a0 a1) a2).Guests }:Mon)) (fun x4=>(some [(aH ({ (zI a0) with Mons:=x4 }:Host)),(aB true)]))))))
def zfE (N:Nat)(a0:Host)(a1 a2:Int):OA:=
 let y0:=(zcC a0 a1 a2); (cond (ieq y0 5) (cond (ieq y0 5) (zl0 N a1 a0 a2) (ziZ N a0 a1 a2)) (cond (ieq y0 7) (zl0 N a1 a0 a2) (ziZ N a0 a1 a2)))
def zDN (N:Nat)(a0:Host)(a1 a2:Int):OA:=
 let y3:=(aH (zI a0));let y2:=(zcC a0 a1 a2);let y0:=(zcc a0 a1).Guests;let y1:=(ix y0 a2 zo); (oN (zba a0) (oN (zsN a0 a1) (oN (zcJ a0) (cond (nB (zcE a0)) (some [y3,(aB false)]) (cond (nB (zlr a0 a1)) (some [y3,(aB false)]) (oN (zbx a2 (ln y0)) (cond (nB (zbK a2 (ln y0))) (some [y3,(aB false)]) (oN (inb a2 (ln y0)) (oN (zjW y1) (cond (ieq y2 0) (some [y3,(aB false)]) (oN (inb a2 (ln y0)) (oN (zjW y1) (oN (zrG y1) (cond (ieq y2 3) (cond (ieq y2 3) (zlX N a0 a1 a2) (zfE N a0 a1 a2)) (cond (ieq y2 4) (zlX N a0 a1 a2) (zfE N a0 a1 a2))))))))))))))))
theorem zYJ {h:Host}{m:Int}(hm:hasB m (ln h.Mons)=true):zcc h m=ix h.Mons m mZ:=by
 unfold zcc;rw[hm];rfl
theorem is_1 {N:Nat}{a0:Host}{a1 a2:Int}(hs:SmH a0)(hh:zb5 a0 a1 a2=true) :
 zlX N a0 a1 a2=some (zdS (ziT (ziW a0 a1 a2 (gOf a0 a1 a2) (ieq (zG (gOf a0 a1 a2)) 4)) a1 a2 (gOf a0 a1 a2) (ieq (zG (gOf a0 a1 a2)) 4),true)):=by
 obtain ⟨g1,g2,g3⟩:=zct hh;have hx:=zks hs g2 g3;have k:=zuZ (b:=a0.Buffer) (page:=zb0 (address (gOf a0 a1 a2))) (need:=zff (ieq (zG (gOf a0 a1 a2)) 4)) (io:=false) hs hh;have F:=zmm k g2 g3;have eM:=zYJ g2;have e3:zcC a0 a1 a2=zG (gOf a0 a1 a2):=by
  show zhw (ix (zcc a0 a1).Guests a2 gZ)=_
  rw[eM];rfl
 have e4:zhc a0 a1 a2=address (gOf a0 a1 a2):=by
  show zlj (ix (zcc a0 a1).Guests a2 gZ)=_
  rw[eM];rfl
 have e1:zyY a0 a1 a2=(ziW a0 a1 a2 (gOf a0 a1 a2) (ieq (zG (gOf a0 a1 a2)) 4)).1:=by
  show zug a0 a1 a2 (zbZ (zhc a0 a1 a2)) (zeI (ieq (zcC a0 a1 a2) 4))=_
  rw[e3,e4];rfl
 have e6:zyZ a0 a1 a2=(ziW a0 a1 a2 (gOf a0 a1 a2) (ieq (zG (gOf a0 a1 a2)) 4)).2.1:=by
  show zuh a0 a1 a2 (zbZ (zhc a0 a1 a2)) (zeI (ieq (zcC a0 a1 a2) 4))=_
  rw[e3,e4];rfl
 unfold zlX oN nB
 conv=>zeta
 rw[e1,e3,e4,e6,eM];unfold ziT;refine must rfl (must rfl (must (zbf ((zF _).2 hs)) (brN (fun h=>?_) (fun h=>?_))))
 .rw [show (ziW a0 a1 a2 (gOf a0 a1 a2) (ieq (zG (gOf a0 a1 a2)) 4)).2.2=false from h]
  exact must rfl (must rfl (must (zbf hx) (must (zx F.hm) (must (zx F.hg) rfl))))
 .rw [show (ziW a0 a1 a2 (gOf a0 a1 a2) (ieq (zG (gOf a0 a1 a2)) 4)).2.2=true from h]
  refine br (fun h4=>?_) (fun h4=>?_)
  .have kk:=k.shape.1.1;rw[h4] at F kk ⊢;exact must rfl (must (zbf kk) (must (zbf hx) (must (zx F.hm) (must (zx F.hg) rfl))))
  .rw [h4] at F ⊢;exact must rfl (must rfl (must (zbf hx) (must (zx F.hm) (must (zx F.hg) rfl))))
theorem is_2 {N:Nat}{a0:Host}{x4:List Mon}{a1 a2:Int}(hx:SmG (gOf a0 a1 a2))(g3:hasB a2 (ln (ix x4 a1 mZ).Guests)=true)(e:zlW x4 a1 a2=zhb a0 a1 a2) :
 zlY N a0 a1 a2 x4=some (zdS (zgn { a0 with Mons:=x4 } a1 a2 (zbJ (gOf a0 a1 a2)),true)):=by
 unfold zlY oN
 conv=>zeta
 rw[e];exact must (zbf hx) (must (zx g3) rfl)
def leftG (x:Guest)(w:Int):Guest:=bif ieq w 7 then held x else zbJ x
def zBi (h:Host)(m:Int)(x:Guest)(w:Int):Host:=bif ieq w 7 then h else zlz h m (zdI x.Prog x.Pc).X
theorem zzD {h:Host}{m:Int}{x:Guest}{w:Int}(hh:ieq w 7=true):leftG x w=held x/\zBi h m x w=h:=by
 unfold leftG zBi;rw[hh];exact ⟨rfl,rfl⟩
theorem zno {h:Host}{m:Int}{x:Guest}{w:Int}(hh:ieq w 7=false):leftG x w=zbJ x/\zBi h m x w=zlz h m (zdI x.Prog x.Pc).X:=by
 unfold leftG zBi;rw[hh];exact ⟨rfl,rfl⟩
theorem z19 {h:Host}{m n:Int}(hh:ilt (ln (ix h.Mons m mZ).Outs) 40=true):zlz h m n={ h with Mons:=up h.Mons m { ix h.Mons m mZ with Outs:=ap (ix h.Mons m mZ).Outs [n] } }:=by
 unfold zlz;rw[hh];rfl
theorem z18 {h:Host}{m n:Int}(hh:ilt (ln (ix h.Mons m mZ).Outs) 40=false):zlz h m n=h:=by
 unfold zlz;rw[hh];rfl
theorem is_3 {N:Nat}{a0:Host}{a1 a2:Int}(hs:SmH a0)(g2:hasB a1 (ln a0.Mons)=true)(g3:hasB a2 (ln (ix a0.Mons a1 mZ).Guests)=true)(eW:zcC a0 a1 a2=zG (gOf a0 a1 a2)) :
 zlZ N a0 a1 a2=some (zdS (zgn (zBi a0 a1 (gOf a0 a1 a2) (zG (gOf a0 a1 a2))) a1 a2 (leftG (gOf a0 a1 a2) (zG (gOf a0 a1 a2))),true)):=by
 have hx:=zks hs g2 g3;unfold zlZ oN
 conv=>zeta
 rw[eW];refine br (fun h7=>?_) (fun h7=>br (fun h3=>?_) (fun h3=>?_))
 .rw [(zzD (x:=gOf a0 a1 a2) (h:=a0) (m:=a1) h7).1,(zzD (x:=gOf a0 a1 a2) h7).2];exact must (zbf hx) (must (zx g3) rfl)
 .rw [(zno (x:=gOf a0 a1 a2) (h:=a0) (m:=a1) h7).1,(zno (x:=gOf a0 a1 a2) h7).2,z19 h3];refine must rfl (must (zWo h3) (must (zOt _) (shr (is_2 hx ?_ ?_))))
  .rw [zpE g2];exact g3
  .show ix (ix (up a0.Mons a1 _) a1 mZ).Guests a2 gZ=_
   rw[zpE g2]
 .rw [(zno (x:=gOf a0 a1 a2) (h:=a0) (m:=a1) h7).1,(zno (x:=gOf a0 a1 a2) h7).2,z18 h3];exact must (zbf hx) (must (zx g3) rfl)
theorem zbcq {h:Host}{m g:Int}{x:Guest}{w:Int}(h6:ieq w 6=false)(h57:ieq w 5=false->ieq w 6=false->ieq w 7=true)(hT:zdr x.Ctl.Traps (zfs w)=false):zk3 h m g x w=zgn (zBi (zf9 h m x w) m x w) m g (leftG x w):=by
 unfold zk3;cases h7:ieq w 7
 .have h5:ieq w 5=true:=by
   cases h5:ieq w 5
   .have:=h57 h5 h6;rw[h7] at this;cases this
   .rfl
  obtain ⟨e1,e2⟩:=tr3 x x.Ctl.Traps w h6 h7 hT h5;rw[(zno (x:=x) (h:=zf9 h m x w) (m:=m) h7).1,(zno (x:=x) h7).2,e1];unfold zj7;rw[e2,h5];rfl
 .have h5:ieq w 5=false:=by
   have:w=7:=qD h7;rw[this];rfl
  rw[(zzD (x:=x) (h:=zf9 h m x w) (m:=m) h7).1,(zzD (x:=x) h7).2,tr4 x x.Ctl.Traps w h6 h57 hT h5,zGB h5]
theorem is_p {a0:Host}{x5:List Mon}{a1 a2:Int}(hx:SmG (gOf a0 a1 a2))(g3:hasB a2 (ln (ix x5 a1 mZ).Guests)=true)(e:(ix (ix x5 a1 zh).Guests a2 zo)=gOf a0 a1 a2) :
 (cond (zdf ({ (ix (ix (zI a0).Mons a1 zh).Guests a2 zo) with Prog:=(ix (ix x5 a1 zh).Guests a2 zo).Prog,Written:=(ix (ix x5 a1 zh).Guests a2 zo).Written,Live:=(ix (ix x5 a1 zh).Guests a2 zo).Live,Seen:=(ix (ix x5 a1 zh).Guests a2 zo).Seen }:Guest)) (cond (inb a2 (ln (ix x5 a1 zh).Guests)) (share (up x5 a1 ({ (ix x5 a1 zh) with Guests:=(up (ix x5 a1 zh).Guests a2 (zcY ({ (ix (ix (zI a0).Mons a1 zh).Guests a2 zo) with Prog:=(ix (ix x5 a1 zh).Guests a2 zo).Prog,Written:=(ix (ix x5 a1 zh).Guests a2 zo).Written,Live:=(ix (ix x5 a1 zh).Guests a2 zo).Live,Seen:=(ix (ix x5 a1 zh).Guests a2 zo).Seen }:Guest))) }:Mon)) (fun x6=>(some [(.agg (zS ({ (zI a0) with Mons:=x6 }:Host))),(.one (.b true))]))) none) none)=some (zdS (zgn { a0 with Mons:=x5 } a1 a2 (zbJ (gOf a0 a1 a2)),true)):=by
 rw[e];exact must (zbf hx) (must (zx g3) rfl)
theorem is_o {a0:Host}{x4:List Mon}{a1 a2:Int}(hx:SmG (gOf a0 a1 a2))(g2:hasB a1 (ln x4)=true)(g3:hasB a2 (ln (ix x4 a1 mZ).Guests)=true)(e:(ix (ix x4 a1 zh).Guests a2 zo)=gOf a0 a1 a2) :
 (cond (ieq (zG (gOf a0 a1 a2)) 7) (cond (zjT ({ (ix (ix (zI a0).Mons a1 zh).Guests a2 zo) with Prog:=(ix (ix x4 a1 zh).Guests a2 zo).Prog,Written:=(ix (ix x4 a1 zh).Guests a2 zo).Written,Live:=(ix (ix x4 a1 zh).Guests a2 zo).Live,Seen:=(ix (ix x4 a1 zh).Guests a2 zo).Seen }:Guest)) (cond (inb a2 (ln (ix x4 a1 zh).Guests)) (share (up x4 a1 ({ (ix x4 a1 zh) with Guests:=(up (ix x4 a1 zh).Guests a2 (zi8 ({ (ix (ix (zI a0).Mons a1 zh).Guests a2 zo) with Prog:=(ix (ix x4 a1 zh).Guests a2 zo).Prog,Written:=(ix (ix x4 a1 zh).Guests a2 zo).Written,Live:=(ix (ix x4 a1 zh).Guests a2 zo).Live,Seen:=(ix (ix x4 a1 zh).Guests a2 zo).Seen }:Guest))) }:Mon)) (fun x5=>(some [(.agg (zS ({ (zI a0) with Mons:=x5 }:Host))),(.one (.b true))]))) none) none) (cond (ilt (ln (ix x4 a1 zh).Outs) 40) (cond (zgh (ix (ix x4 a1 zh).Guests a2 zo).Prog (ix (ix (zI a0).Mons a1 zh).Guests a2 zo).Pc) (cond (few (ln (ap (ix x4 a1 zh).Outs [(zgr (ix (ix x4 a1 zh).Guests a2 zo).Prog (ix (ix (zI a0).Mons a1 zh).Guests a2 zo).Pc).X]))) (cond (cond (ieq a1 a1) true false) (share (up x4 a1 ({ (ix x4 a1 zh) with Outs:=(ap (ix x4 a1 zh).Outs [(zgr (ix (ix x4 a1 zh).Guests a2 zo).Prog (ix (ix (zI a0).Mons a1 zh).Guests a2 zo).Pc).X]) }:Mon)) (fun x5=>(cond (zdf ({ (ix (ix (zI a0).Mons a1 zh).Guests a2 zo) with Prog:=(ix (ix x5 a1 zh).Guests a2 zo).Prog,Written:=(ix (ix x5 a1 zh).Guests a2 zo).Written,Live:=(ix (ix x5 a1 zh).Guests a2 zo).Live,Seen:=(ix (ix x5 a1 zh).Guests a2 zo).Seen }:Guest)) (cond (inb a2 (ln (ix x5 a1 zh).Guests)) (share (up x5 a1 ({ (ix x5 a1 zh) with Guests:=(up (ix x5 a1 zh).Guests a2 (zcY ({ (ix (ix (zI a0).Mons a1 zh).Guests a2 zo) with Prog:=(ix (ix x5 a1 zh).Guests a2 zo).Prog,Written:=(ix (ix x5 a1 zh).Guests a2 zo).Written,Live:=(ix (ix x5 a1 zh).Guests a2 zo).Live,Seen:=(ix (ix x5 a1 zh).Guests a2 zo).Seen }:Guest))) }:Mon)) (fun x6=>(some [(.agg (zS ({ (zI a0) with Mons:=x6 }:Host))),(.one (.b true))]))) none) none))) none) none) none) (cond (zdf ({ (ix (ix (zI a0).Mons a1 zh).Guests a2 zo) with Prog:=(ix (ix x4 a1 zh).Guests a2 zo).Prog,Written:=(ix (ix x4 a1 zh).Guests a2 zo).Written,Live:=(ix (ix x4 a1 zh).Guests a2 zo).Live,Seen:=(ix (ix x4 a1 zh).Guests a2 zo).Seen }:Guest)) (cond (inb a2 (ln (ix x4 a1 zh).Guests)) (share (up x4 a1 ({ (ix x4 a1 zh) with Guests:=(up (ix x4 a1 zh).Guests a2 (zcY ({ (ix (ix (zI a0).Mons a1 zh).Guests a2 zo) with Prog:=(ix (ix x4 a1 zh).Guests a2 zo).Prog,Written:=(ix (ix x4 a1 zh).Guests a2 zo).Written,Live:=(ix (ix x4 a1 zh).Guests a2 zo).Live,Seen:=(ix (ix x4 a1 zh).Guests a2 zo).Seen }:Guest))) }:Mon)) (fun x5=>(some [(.agg (zS ({ (zI a0) with Mons:=x5 }:Host))),(.one (.b true))]))) none) none)))=some (zdS (zgn (zBi { a0 with Mons:=x4 } a1 (gOf a0 a1 a2) (zG (gOf a0 a1 a2))) a1 a2 (leftG (gOf a0 a1 a2) (zG (gOf a0 a1 a2))),true)):=by
 rw[e];refine br (fun h7=>?_) (fun h7=>br (fun h3=>?_) (fun h3=>?_))
 .rw [(zzD (x:=gOf a0 a1 a2) (h:={ a0 with Mons:=x4 }) (m:=a1) h7).1,(zzD (x:=gOf a0 a1 a2) h7).2];exact must (zbf hx) (must (zx g3) rfl)
 .rw [(zno (x:=gOf a0 a1 a2) (h:={ a0 with Mons:=x4 }) (m:=a1) h7).1,(zno (x:=gOf a0 a1 a2) h7).2,z19 (h:={ a0 with Mons:=x4 }) h3];refine must rfl (must (zWo h3) (must (zOt _) (shr (is_p hx ?_ ?_))))
  .rw [zpE (h:={ a0 with Mons:=x4 }) g2];exact g3
  .show ix (ix (up x4 a1 _) a1 mZ).Guests a2 gZ=_
   rw[zpE (h:={ a0 with Mons:=x4 }) g2];exact e
 .rw [(zno (x:=gOf a0 a1 a2) (h:={ a0 with Mons:=x4 }) (m:=a1) h7).1,(zno (x:=gOf a0 a1 a2) h7).2,z18 (h:={ a0 with Mons:=x4 }) h3];exact must (zbf hx) (must (zx g3) rfl)
theorem tf (b:Bool):b=false\/b=true:=by cases b<;>simp
theorem is_4 {N:Nat}{a0:Host}{a1 a2:Int}(hs:SmH a0)(g2:hasB a1 (ln a0.Mons)=true)(g3:hasB a2 (ln (ix a0.Mons a1 mZ).Guests)=true)(eW:zcC a0 a1 a2=zG (gOf a0 a1 a2))(h6:ieq (zG (gOf a0 a1 a2)) 6=false)(h57:ieq (zG (gOf a0 a1 a2)) 5=false->ieq (zG (gOf a0 a1 a2)) 6=false->ieq (zG (gOf a0 a1 a2)) 7=true) :
 zl0 N a1 a0 a2=some (zdS (zk3 a0 a1 a2 (gOf a0 a1 a2) (zG (gOf a0 a1 a2)),true)):=by
 have hx:=zks hs g2 g3;have T3:=is_3 (N:=N) hs g2 g3 eW;have hn6:ine (zG (gOf a0 a1 a2)) 6=true:=by rw[zhR,h6];rfl
 unfold zl0 oN
 conv=>zeta
 rw[eW];refine must (zx g2) (must (zx g3) (must rfl (must rfl ?_)));rw[show ieq (zoA (ix a0.Mons a1 zh).Traps (zhb a0 a1 a2).Ctl.Traps (zhx (zG (gOf a0 a1 a2)))) 1=zdr (gOf a0 a1 a2).Ctl.Traps (zfs (zG (gOf a0 a1 a2))) from zbcg _ _ _]
 refine br (fun hT=>?_) (fun hT=>?_)
 .obtain ⟨e1,e2⟩:=tr2 (gOf a0 a1 a2) (gOf a0 a1 a2).Ctl.Traps _ h6 h57 hT;have e0:zf9 a0 a1 (gOf a0 a1 a2) (zG (gOf a0 a1 a2))=a0:=by
   unfold zf9;rw[hn6,zbch hT];rfl
  unfold zk3;rw[e0,zPN e2,e1];exact must (zbf hx) (must (zx g3) rfl)
 .rw [zbcq h6 h57 hT];have e0:zf9 a0 a1 (gOf a0 a1 a2) (zG (gOf a0 a1 a2))=bif ieq (zkV (ix a0.Mons a1 mZ).Traps (gOf a0 a1 a2).Ctl.Traps (zfs (zG (gOf a0 a1 a2)))) 2 then owned a0 a1 else a0:=by
   unfold zf9;rw[hn6];rfl
  rw[e0];refine br (fun hO=>?_) (fun hO=>?_)
  .rw [show ieq (zkV (ix a0.Mons a1 mZ).Traps (gOf a0 a1 a2).Ctl.Traps (zfs (zG (gOf a0 a1 a2)))) 2=true from hO]
   simp only[cT];unfold owned;refine br (fun h0=>?_) (fun h0=>?_)
   rotate_left
   .rw [h0];exact T3
   rw[h0];refine shr ?_;have eM:=zpE g2 { ix a0.Mons a1 mZ with Own:=zD .i64 (ix a0.Mons a1 mZ).Own 1 };have g2':hasB a1 (ln (up a0.Mons a1 { ix a0.Mons a1 mZ with Own:=zD .i64 (ix a0.Mons a1 mZ).Own 1 }))=true:=zen g2;have e5:zlW (up a0.Mons a1 { ix a0.Mons a1 mZ with Own:=zD .i64 (ix a0.Mons a1 mZ).Own 1 }) a1 a2=zhb a0 a1 a2:=by
    show ix (ix (up a0.Mons a1 _) a1 mZ).Guests a2 gZ=_
    rw[eM]
   refine is_o hx g2' ?_ e5;rw[eM];exact g3
  .rw [show ieq (zkV (ix a0.Mons a1 mZ).Traps (gOf a0 a1 a2).Ctl.Traps (zfs (zG (gOf a0 a1 a2)))) 2=false from hO]
   exact T3
theorem z7P {N:Nat}{a0:Host}{a1 a2:Int}(hs:SmH a0)(hh:zb5 a0 a1 a2=true)(h0:ieq (zG (gOf a0 a1 a2)) 0=false){y:Guest}{o:List Int}(hy:(stepped (zC a0 a1) a2 (gOf a0 a1 a2) (zG (gOf a0 a1 a2))).Guests=up (ix a0.Mons a1 mZ).Guests a2 y)(hb:SmB (zC a0 a1)) :
 ziZ N a0 a1 a2=some (zdS (zgn a0 a1 a2 y,true)):=by
 obtain ⟨g1,g2,g3⟩:=zct hh;have hsb:=zrB g1 g2;have eg:(zC a0 a1).Guests=(ix a0.Mons a1 mZ).Guests:=by
  unfold zC;rw[g2];rfl
 have hgg:hasB a2 (ln (zC a0 a1).Guests)=true:=by rw[eg];exact g3
 have eA:gAt (zC a0 a1) a2=gOf a0 a1 a2:=by
  unfold gAt;rw[hgg,eg];rfl
 have hcan:zqA (zC a0 a1) a2=true:=by
  unfold zqA;rw[hgg,hsb,eA,h0];rfl
 have eS:zk8 (zC a0 a1) a2=stepped (zC a0 a1) a2 (gOf a0 a1 a2) (zG (gOf a0 a1 a2)):=by
  unfold zk8;rw[hcan,eA];rfl
 have hG:(zi6 (zc7 a0 a1) a2).Guests=up (ix a0.Mons a1 mZ).Guests a2 y:=by
  show (zk8 (zC a0 a1) a2).Guests=_
  rw[eS,hy]
 unfold ziZ oN;rw[hG];exact must (zbf ((zF _).2 hs)) (must (zbf hb) (must (zx g2) rfl))
theorem zdG {h:Host}{m:Int}(hs:SmH h)(hm:hasB m (ln h.Mons)=true):SmB (zC h m):=by
 have g1:=hs.2.1.2 _ (zbt hm mZ);have hP:∀(mm:List (List Int)) (q:Int),SmM mm->(zie mm q).length<=1048576:=fun mm q h=>zZq h;have hpg:∀p:Int,(zhD h m p).length<=1048576:=by
  intro p;unfold zhD;cases hasB m (ln h.Mons)
  .exact (by decide:zBP.length<=1048576)
  .cases hasB p 8
   .exact (by decide:zBP.length<=1048576)
   .simp only [cT];cases ine (zdB (ix h.Mons m zh).Outer p).Page (-1)
    .exact hP _ _ g1.2.1
    .exact hP _ _ hs.1
 have hN:∀(n i:Nat),∀x∈zhE h m n i,x.length<=1048576:=by
  intro n
  induction n with
  | zero=>intro i x hx;cases hx
  | succ n ih =>
   intro i x hx;rcases qI.1 hx with rfl|hx
   .exact hpg _
   .exact ih (i+1) x hx
 unfold zC;rw[hm];exact ⟨⟨by show (zhE h m 8 0).length<=1048576;rw[zBl];decide,hN 8 0⟩,g1.2.2.2.1,g1.2.2.2.2.1⟩
theorem zyl (b:Bare)(g:Int)(x:Guest):(zeK b g x).Guests=up b.Guests g x:=rfl
theorem zRH (a0:Host)(a1 a2:Int)(hb:zbC big [aH a0,aI a1,aI a2])(hc:zvJ a0 a1 a2=true):∃N,zDN N a0 a1 a2=some [aH (zpi a0 a1 a2),aB (zvI a0 a1 a2)]:=by
 have hs:=(zF a0).1 (zy.1 hc);refine ⟨0,?_⟩
 show _=some (zdS (zbq a0 a1 a2))
 unfold zDN oN nB
 conv=>zeta
 refine must (zbf ((zF _).2 hs)) (must (zbf ((zF _).2 hs)) (must rfl (brN (fun h1=>?_) (fun h1=>brN (fun h2=>?_) (fun h2=>?_)))))
 .rw [zhX (zQh h1)];rfl
 .rw [zhX (zQi h2)];rfl
 have eM:=zYJ (h:=a0) (m:=a1) h2;have eW:zcC a0 a1 a2=zG (gOf a0 a1 a2):=by
  show zhw (ix (zcc a0 a1).Guests a2 gZ)=_
  rw[eM];rfl
 rw[eM,eW];refine must rfl (brN (fun h3=>?_) (fun h3=>?_))
 .rw [zhX (zQj h3)];rfl
 have hh:=zQk h1 h2 h3;have g2:hasB a1 (ln a0.Mons)=true:=h2;have g3:hasB a2 (ln (ix a0.Mons a1 mZ).Guests)=true:=h3;have hb:=zdG hs g2;have eg:(zC a0 a1).Guests=(ix a0.Mons a1 mZ).Guests:=by
  unfold zC;rw[g2];rfl
 rw[ziQ hh];unfold zPG;refine must (zx g3) (must rfl (br (fun h0=>?_) (fun h0=>must (zx g3) (must rfl (must rfl (br (fun q3=>must q3 ?_) (fun q3=>br (fun q4=>?_) (fun q4=>?_))))))))
 .rw [h0];rfl
 .have e:zG (gOf a0 a1 a2)=3:=qD q3;have T:=is_1 (N:=0) hs hh;rw[T];rw[e];rfl
 .have e:zG (gOf a0 a1 a2)=4:=qD q4;have T:=is_1 (N:=0) hs hh;rw[T];rw[e];rfl
 .have fin:∀{R:Host×Bool},zfE 0 a0 a1 a2=some (zdS R)->R=(bif ieq (zG (gOf a0 a1 a2)) 0 then (a0,false) else (bif ieq (zG (gOf a0 a1 a2)) 1 then (zgn a0 a1 a2 (interrupted (gOf a0 a1 a2)),true) else (bif ieq (zG (gOf a0 a1 a2)) 2 then (zgn a0 a1 a2 (plainly (gOf a0 a1 a2)),true) else
   (cond (cond (ieq (zG (gOf a0 a1 a2)) 3) true (ieq (zG (gOf a0 a1 a2)) 4)) (ziT (ziW a0 a1 a2 (gOf a0 a1 a2) (ieq (zG (gOf a0 a1 a2)) 4)) a1 a2 (gOf a0 a1 a2) (ieq (zG (gOf a0 a1 a2)) 4),true) (zk3 a0 a1 a2 (gOf a0 a1 a2) (zG (gOf a0 a1 a2)),true)))))->zfE 0 a0 a1 a2=_:=fun h e=>h.trans (congrArg (fun x=>some (zdS x)) e)
  have i6:ieq (zG (gOf a0 a1 a2)) 5=false->ieq (zG (gOf a0 a1 a2)) 7=false->zfE 0 a0 a1 a2=ziZ 0 a0 a1 a2:=by
   intro h5 h7;unfold zfE
   conv=>zeta
   rw[eW];exact zbN h5 (zbN h7 rfl)
  rcases tf (ieq (zG (gOf a0 a1 a2)) 1) with w1|w1
  .rcases tf (ieq (zG (gOf a0 a1 a2)) 2) with w2|w2
   .rcases tf (ieq (zG (gOf a0 a1 a2)) 6) with w6|w6
    .have h57:ieq (zG (gOf a0 a1 a2)) 5=false->ieq (zG (gOf a0 a1 a2)) 6=false->ieq (zG (gOf a0 a1 a2)) 7=true:=fun h5 h6=>z4D _ h0 w1 w2 q3 q4 h5 h6;have T:=is_4 (N:=0) hs g2 g3 eW w6 h57;refine fin (R:=(zk3 a0 a1 a2 (gOf a0 a1 a2) (zG (gOf a0 a1 a2)),true)) ?_ (by rw[h0,w1,w2,q3,q4];rfl)
     unfold zfE
     conv=>zeta
     rw[eW];cases w5:ieq (zG (gOf a0 a1 a2)) 5
     .exact zbN rfl (must (h57 w5 w6) T)
     .exact must rfl (must rfl T)
    .have e:zG (gOf a0 a1 a2)=6:=qD w6;refine fin (R:=(zgn a0 a1 a2 (zga (gOf a0 a1 a2) (gOf a0 a1 a2).Ctl.Traps (zG (gOf a0 a1 a2))),true)) ?_ ?_
     .rw [i6 (by rw[e];rfl) (by rw[e];rfl)]
      refine z7P (o:=[]) hs hh h0 ?_ hb;unfold stepped zva;rw[w1,w2,q3,q4,(tr1 (gOf a0 a1 a2) (gOf a0 a1 a2).Ctl.Traps _ w6).2]
      show (zeK (zC a0 a1) a2 _).Guests=_
      rw[zyl,eg]
     .rw [h0,w1,w2,q3,q4];unfold zk3 zf9;rw[zPN (tr1 (gOf a0 a1 a2) (gOf a0 a1 a2).Ctl.Traps _ w6).2,zhR,w6];rfl
   .have e:zG (gOf a0 a1 a2)=2:=qD w2;refine fin (R:=(zgn a0 a1 a2 (plainly (gOf a0 a1 a2)),true)) ?_ (by rw[h0,w1,w2];rfl)
    rw[i6 (by rw[e];rfl) (by rw[e];rfl)]
    refine z7P (o:=[]) hs hh h0 ?_ hb;unfold stepped;rw[w1,w2]
    show (zeK (zC a0 a1) a2 _).Guests=_
    rw[zyl,eg]
  .have e:zG (gOf a0 a1 a2)=1:=qD w1;refine fin (R:=(zgn a0 a1 a2 (interrupted (gOf a0 a1 a2)),true)) ?_ (by rw[h0,w1];rfl)
   rw[i6 (by rw[e];rfl) (by rw[e];rfl)]
   refine z7P (o:=[]) hs hh h0 ?_ hb;unfold stepped;rw[w1]
   show (zeK (zC a0 a1) a2 _).Guests=_
   rw[zyl,eg]
theorem zKw:u4 20 zzP:=hF3 zTH zi zbj zgz (zk []) zRH
def z9J:zV:=[(20,zzP)]++z5p
theorem z7E:zJ z9J:=zf zKw zTH
end
end Go.Proofs.YtdnmkiajccpnoaaGreat.E
