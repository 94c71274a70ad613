/- What is proved here: a part of the proof that the statement of this claim holds (several texts of wip/, laid together). -/
import Derived.Test.YtmjbkmbimgdodaaGreatW4
namespace Go.Proofs.YtmjbkmbimgdodaaGreat.E
open Go
set_option linter.unusedVariables false
set_option maxRecDepth 100000
set_option linter.unusedSimpArgs false
set_option linter.unusedSectionVars false
noncomputable section
def zed (k:Kept)(p:Int):Bool:=bif hasB p (ln k.Known) then hasB p (ln k.Slots) else false
def zc1 (k:Kept)(p:Int):Kept:=bif zed k p then ⟨up k.Known p false,up k.Slots p noSlot⟩ else k
@[simp] theorem zmX {k:Kept}{p:Int}(h:SmK k):SmK (zc1 k p):=by
 unfold zc1;cases zed k p
 .exact h
 .exact ⟨by simpa using h.1,by simpa using h.2⟩
theorem has_lt {p:Int}{n m:Int}(h:hasB p n=true):ilt p m=hasB p m:=by
 have h:=qD h;unfold ilt hasB
 by_cases h1:p<m
 .rw [qL h1,qL ⟨h.1,h1⟩]
 .rw [qH h1,qH (by omega)]
@[simp] abbrev zqL (k:Kept)(p:Int):Bool:=pc (SmK k)
@[simp] abbrev ziT (k:Kept)(p:Int):Bool:=zed k p
def zHp:Run:=rF2 (dT .kept) dI fun b c=>(zqL b c,[aB (ziT b c)])
def zOJ (N:Nat)(a0:Kept)(a1:Int):OA:=
 (oN (zO a1 0 (wsub .i64 (ln a0.Known) 1)) (cond (zT a1 0 (wsub .i64 (ln a0.Known) 1)) (some [(aB (ilt a1 (ln a0.Slots)))]) oF))
theorem z1h (a0:Kept)(a1:Int)(hc:zqL a0 a1=true):∃N,zOJ N a0 a1=some [aB (ziT a0 a1)]:=by
 have hs:=zu.1 hc;refine ⟨0,?_⟩;unfold zOJ ziT zed oN;simp only[zO,zYZ,zrK hs.1,cT];cases hh:hasB a1 (ln a0.Known)
 .rfl
 .simp only [cT,has_lt hh]
theorem zTj:uY 226 zHp:=kF2 zZy zi zk zn (zl []) z1h
def zbbw:zY:=[(226,zHp)]++zbbv
theorem zLN:zJ zbbw:=zf zTj zZy
@[simp] abbrev zmJ (k:Kept)(p:Int):Bool:=pc (SmK k)
@[simp] abbrev zlR (k:Kept)(p:Int):Kept:=zc1 k p
def zG6:Run:=rF2 (dT .kept) dI fun b c=>(zmJ b c,[aT .kept (zlR b c)])
def zOr (N:Nat)(a0:Kept)(a1:Int):OA:=
 let y0:=(zdf a0); (oN (zf5 a0) (oN (zqL y0 a1) (cond (ziT y0 a1) (oN (inb a1 (ln y0.Known)) (share (up y0.Known a1 false) (fun x3=>(oN zcd (oN (inb a1 (ln y0.Slots)) (share (up y0.Slots a1 zbq) (fun x4=>(some [(aT .kept (⟨x3,x4⟩:Kept))])))))))) (some [(aT .kept y0)]))))
theorem z0X (a0:Kept)(a1:Int)(hc:zmJ a0 a1=true):∃N,zOr N a0 a1=some [aT .kept (zlR a0 a1)]:=by
 have hs:=zu.1 hc;refine ⟨0,?_⟩;unfold zOr zlR oN
 conv=>zeta
 refine must (zbe ((zzR _).2 hs)) (must (zbe hs) ?_);unfold zc1;cases hh:zed a0 a1
 .simp only [ziT,zdf,hh,cF]
 .simp only [ziT,zdf,hh,cT];unfold zed at hh;obtain ⟨h1,h2⟩:=zcM.1 hh;simp only[zZ4,h1,h2,cT,share,zcd]
theorem zS1:uY 121 zG6:=kF2 zLN zi zk zn (zl []) z0X
@[simp] abbrev zgO (k:Kept)(p:Int):Bool:=pc (SmK k)
@[simp] abbrev zfH (k:Kept)(p:Int):Kept:=zc1 k p
def zGq:Run:=rF2 (dT .kept) dI fun b c=>(zgO b c,[aT .kept (zfH b c)])
def zNL (N:Nat)(a0:Kept)(a1:Int):OA:=
 let y0:=(zci a0); (oN (ze7 a0) (oN (zbx a1 (ln a0.Known)) (cond (zbO a1 (ln a0.Known)) (oN (zbx a1 (ln a0.Slots)) (cond (zbO a1 (ln a0.Slots)) (oN (inb a1 (ln y0.Known)) (share (up y0.Known a1 false) (fun x3=>(oN zcX (oN (inb a1 (ln y0.Slots)) (share (up y0.Slots a1 zcl) (fun x4=>(some [(aT .kept (⟨x3,x4⟩:Kept))])))))))) (some [(aT .kept y0)]))) (some [(aT .kept y0)]))))
theorem z0f (a0:Kept)(a1:Int)(hc:zgO a0 a1=true):∃N,zNL N a0 a1=some [aT .kept (zfH a0 a1)]:=by
 have hs:=zu.1 hc;refine ⟨0,?_⟩;unfold zNL zfH oN
 conv=>zeta
 refine must (zbe hs) (must rfl ?_);unfold zc1 zed;simp only[zbO,zbx,zci,zZ4,share,zcX,cT];cases hasB a1 (ln a0.Known)
 .rfl
 .cases hasB a1 (ln a0.Slots)<;>rfl
theorem zSl:uY 165 zGq:=kF2 zLN zi zk zn (zl []) z0f
def zbbx:zY:=[(121,zG6),(165,zGq)]++zbbw
theorem zvE:zJ zbbx:=zf zS1 (zf zSl zLN)
def zxp (k:Kept)(l:List Int):Kept:=l.foldl zc1 k
theorem z5d:∀(l:List Int) {k:Kept},SmK k->SmK (zxp k l)
 | [],_,h=>h
 | p :: l,k,h=>z5d l (zmX (p:=p) h)
theorem zBI {ρ:Type}(K:List Bool×List Slot->Option ρ):∀(l:List Int) (i:Nat) (k:Kept),SmK k ->
 goL (fun _ x (t:List Bool×List Slot) κ=>bif pc (SmK ⟨t.1,t.2⟩) then κ ((zc1 ⟨t.1,t.2⟩ x).Known,(zc1 ⟨t.1,t.2⟩ x).Slots) else none) K l i (k.Known,k.Slots)=K ((zxp k l).Known,(zxp k l).Slots)
 | [],_,_,_=>rfl
 | x :: l,i,k,h=>by
  have e:pc (SmK ⟨k.Known,k.Slots⟩)=true:=zbe h;simp only[goL,e,cT];exact zBI K l (i+1) (zc1 k x) (zmX h)
def zber (l:List Slot)(p:Int):List Int:=idxs (fun (s:Slot)=>ieq s.Page p) l 0
def zpg (k:Kept)(l:List Slot)(p:Int):Kept:=zxp k (zber l p)
theorem zbaD {k:Kept}(l:List Slot)(p:Int)(h:SmK k):SmK (zpg k l p):=z5d _ h
@[simp] abbrev zmI (k:Kept)(l:List Slot)(p:Int):Bool:=pc (SmK k/\l.length<=1048576)
@[simp] abbrev zwK (k:Kept)(l:List Slot)(p:Int):Kept:=zpg k l p
def zwB:Run:=rF3 (dT .kept) (dS .slot) dI fun b c d=>(zmI b c d,[aT .kept (zwK b c d)])
def zzM (N:Nat)(a0:Kept)(a1:lS)(a2:Int):OA:=
 (oN (zf5 a0) (oN (zCp a1 a2) (iter (σ:=(Int×((List Int)×(lB×(lS×(lB×(lS×Unit))))))) N (fun r4 s5=>let y1:=(ix s5.2.1 s5.1 0);let y0:=(⟨s5.2.2.1,s5.2.2.2.1⟩:Kept); (cond (ilt s5.1 (ln s5.2.1)) (oN (inb s5.1 (ln s5.2.1)) (oN (zmJ y0 y1) (r4 ((zB .i64 s5.1 1),(s5.2.1,((zlR y0 y1).Known,((zlR y0 y1).Slots,(s5.2.2.2.2.1,(s5.2.2.2.2.2.1,()))))))))) (some [(aT .kept y0)]))) (0,((zrE a1 a2),((zdf a0).Known,((zdf a0).Slots,([],([],())))))))))
def zND:FuncId->Nat->Option Tmpl:=zl [(302,0,{ n:=27,tm:=[(3,.lp 0 0),(6,.lp 1 0),(7,.sl 0 []),(8,ti)],lo:=[(0,[.sl 1 [],.sl 2 []]),(1,[.sl 3 [],.sl 4 []])],ro:=[(0,.int,true),(1,.bool,true),(2,.slot,true),(3,.bool,true),(4,.slot,true)] })]
theorem zNe (a0:Kept)(a1:List Slot)(a2:Int)(hc:zmI a0 a1 a2=true):∃N,zzM N a0 a1 a2=some [aT .kept (zwK a0 a1 a2)]:=by
 obtain ⟨hs,hs2⟩:=zu.1 hc;have hl:(zrE a1 a2).length<=big:=jD (zv8 _ a1 0) (zb2 hs2).1;refine zbo fun N hNN=>?_;unfold zzM oN
 conv=>zeta
 refine must (zbe ((zzR _).2 hs)) (must (zbe (by omega)) ?_)
 refine (zbc (zrE a1 a2) (fun i (t:lB×lS)=>((i:Int),(zrE a1 a2),t.1,t.2,[],[],())) _ (fun _ (x:Int) (t:List Bool×List Slot) κ=>bif pc (SmK ⟨t.1,t.2⟩) then κ ((zc1 ⟨t.1,t.2⟩ x).Known,(zc1 ⟨t.1,t.2⟩ x).Slots) else none) (fun (t:lB×lS)=>(some [(.agg (Ty.cells .kept (⟨t.1,t.2⟩:Kept)))])) (fun i hi t rec=>?_) (fun t rec=>?_) _ ((zdf a0).Known,(zdf a0).Slots) (hNN hl)).trans ?_
 .simp only [zU hi,zK hi,zS hi,zL hi hl,cT]
 .simp only [zQ,cF]
 exact zBI _ _ 0 a0 hs
theorem zFY:uY 302 zwB:=kF3 zvE zi zk zn zND zNe
@[simp] abbrev zjb (k:Kept)(l:List Slot)(p:Int):Bool:=pc (SmK k/\l.length<=1048576)
@[simp] abbrev zpp (k:Kept)(l:List Slot)(p:Int):Kept:=zpg k l p
def zwq:Run:=rF3 (dT .kept) (dS .slot) dI fun b c d=>(zjb b c d,[aT .kept (zpp b c d)])
def zzB (N:Nat)(a0:Kept)(a1:lS)(a2:Int):OA:=
 (oN (ze7 a0) (oN (zBV a1 a2) (iter (σ:=(Int×(Int×((List Int)×(lB×(lS×(lB×(lS×Unit)))))))) N (fun r4 s5=>let y1:=(ix s5.2.2.1 s5.2.1 0);let y0:=(⟨s5.2.2.2.2.2.1,s5.2.2.2.2.2.2.1⟩:Kept); (cond (ilt s5.2.1 s5.1) (oN (inb s5.2.1 (ln s5.2.2.1)) (oN (zgO y0 y1) (r4 (s5.1,((zB .i64 s5.2.1 1),(s5.2.2.1,(s5.2.2.2.1,(s5.2.2.2.2.1,((zfH y0 y1).Known,((zfH y0 y1).Slots,())))))))))) (some [(aT .kept y0)]))) ((ln (zlA a1 a2)),(0,((zlA a1 a2),([],([],((zci a0).Known,((zci a0).Slots,()))))))))))
def zNy:FuncId->Nat->Option Tmpl:=zl [(291,0,{ n:=25,tm:=[(6,.lp 0 0),(7,.lp 1 0),(14,.sl 0 []),(15,ti),(16,ti)],lo:=[(0,[.sl 1 [],.sl 2 []]),(1,[.sl 3 [],.sl 4 []])],ro:=[(0,.int,true),(1,.bool,true),(2,.slot,true),(3,.bool,true),(4,.slot,true)] })]
theorem zMZ (a0:Kept)(a1:List Slot)(a2:Int)(hc:zjb a0 a1 a2=true):∃N,zzB N a0 a1 a2=some [aT .kept (zpp a0 a1 a2)]:=by
 obtain ⟨hs,hs2⟩:=zu.1 hc;have hl:(zlA a1 a2).length<=big:=jD (zv8 _ a1 0) (zb2 hs2).1;refine zbo fun N hNN=>?_;unfold zzB oN
 conv=>zeta
 refine must (zbe hs) (must (zbe (by omega)) ?_)
 refine (zbc (zlA a1 a2) (fun i (t:lB×lS)=>((ln (zlA a1 a2)),(i:Int),(zlA a1 a2),[],[],t.1,t.2,())) _ (fun _ (x:Int) (t:List Bool×List Slot) κ=>bif pc (SmK ⟨t.1,t.2⟩) then κ ((zc1 ⟨t.1,t.2⟩ x).Known,(zc1 ⟨t.1,t.2⟩ x).Slots) else none) (fun (t:lB×lS)=>(some [(.agg (Ty.cells .kept (⟨t.1,t.2⟩:Kept)))])) (fun i hi t rec=>?_) (fun t rec=>?_) _ ((zci a0).Known,(zci a0).Slots) (hNN hl)).trans ?_
 .simp only [zU hi,zK hi,zS hi,zL hi hl,cT]
 .simp only [zQ,cF]
 exact zBI _ _ 0 a0 hs
theorem zFM:uY 291 zwq:=kF3 zvE zi zk zn zNy zMZ
def flushed (l:List Entry)(p:Int):List Entry:=l.filter fun e=>!ieq e.Host p
theorem zKz (l:List Entry)(p:Int):(flushed l p).length<=l.length:=List.length_filter_le _ _
theorem zl8 {α ρ:Type}(p:α->Bool)(K:List α->Option ρ):∀(l:List α) (i:Nat) (acc:List α),acc.length+l.length<=2147483648 ->
 goL (fun _ x acc κ=>bif p x then (cond (few (ln (ap acc [x]))) (κ (ap acc [x])) none) else κ acc) K l i acc=K (acc++l.filter p)
 | [],i,acc,_=>by simp[goL]
 | x :: l,i,acc,h=>by
  simp only[qT]at h;simp only[goL];cases hp:p x
  .rw [cF,zl8 p K l (i+1) acc (by omega),List.filter_cons_of_neg (by simp[hp])]
  .rw [cT,zdK (by simp[ap];omega),cT,zl8 p K l (i+1) _ (by simp[ap];omega),List.filter_cons_of_pos hp]
   simp[ap]
@[simp] abbrev zh8 (l:List Entry)(p:Int):Bool:=pc (l.length<=1048576)
@[simp] abbrev zsp (l:List Entry)(p:Int):List Entry:=flushed l p
def zx4:Run:=rF2 (dS .entry) dI fun b c=>(zh8 b c,[aS .entry (zsp b c)])
def zCZ (N:Nat)(a0:lE)(a1:Int):OA:=
 (iter (σ:=(Int×(Int×(lE×(lE×Unit))))) N (fun r3 s4=>let y1:=s4.2.2.1;let y0:=(ix y1 s4.2.1 zdb); (cond (ilt s4.2.1 (ln y1)) (oN (inb s4.2.1 (ln y1)) (cond (ine y0.Host s4.1) (oN (inb s4.2.1 (ln y1)) (oN (few (ln (ap s4.2.2.2.1 [y0]))) (r3 (s4.1,((zB .i64 s4.2.1 1),(y1,((ap s4.2.2.2.1 [y0]),()))))))) (r3 (s4.1,((zB .i64 s4.2.1 1),(y1,(s4.2.2.2.1,()))))))) (some [(aS .entry s4.2.2.2.1)]))) (a1,(0,(a0,([],())))))
def zRS:FuncId->Nat->Option Tmpl:=zl [(303,0,{ n:=29,tm:=[(0,.sl 0 []),(1,ti),(5,.sl 1 []),(6,ti)],lo:=[],ro:=[(0,.entry,false),(1,.entry,true)] })]
theorem zQN (a0:List Entry)(a1:Int)(hc:zh8 a0 a1=true):∃N,zCZ N a0 a1=some [aS .entry (zsp a0 a1)]:=by
 have hs:=zu.1 hc;have hl:=zb2 hs;refine zbo fun N hNN=>?_;unfold zCZ oN
 conv=>zeta
 refine (zbc a0 (fun i (t:lE)=>(a1,(i:Int),a0,t,())) _ (fun _ (x:Entry) (t:List Entry) κ=>bif !ieq x.Host a1 then (cond (few (ln (ap t [x]))) (κ (ap t [x])) none) else κ t) (fun (t:lE)=>(some [(.one (.s .entry t))])) (fun i hi t rec=>?_) (fun t rec=>?_) _ ([]) (hNN hl.1)).trans ?_
 .simp only [zU hi,zK hi,zS hi,zL hi hl.1,cT];rfl
 .simp only [zQ,cF]
 exact zl8 (fun e=>!ieq e.Host a1) _ a0 0 [] (by simpa using hl.2)
theorem zIN:uY 303 zx4:=kF2 zvE zi zk zn zRS zQN
@[simp] abbrev zd0 (l:List Entry)(p:Int):Bool:=pc (l.length<=1048576)
@[simp] abbrev zgY (l:List Entry)(p:Int):List Entry:=flushed l p
def zxO:Run:=rF2 (dS .entry) dI fun b c=>(zd0 b c,[aS .entry (zgY b c)])
def zCI (N:Nat)(a0:lE)(a1:Int):OA:=
 (iter (σ:=(Int×(Int×(Int×(lE×(lE×Unit)))))) N (fun r3 s4=>let y1:=s4.2.2.2.2.1;let y0:=(ix y1 s4.2.1 zdb); (cond (ilt s4.2.1 s4.1) (oN (inb s4.2.1 (ln y1)) (cond (nB (ieq y0.Host s4.2.2.1)) (oN (few (ln (ap s4.2.2.2.1 [y0]))) (r3 (s4.1,((zB .i64 s4.2.1 1),(s4.2.2.1,((ap s4.2.2.2.1 [y0]),(y1,()))))))) (r3 (s4.1,((zB .i64 s4.2.1 1),(s4.2.2.1,(s4.2.2.2.1,(y1,())))))))) (some [(aS .entry s4.2.2.2.1)]))) ((ln a0),(0,(a1,([],(a0,()))))))
def zRJ:FuncId->Nat->Option Tmpl:=zl [(275,0,{ n:=25,tm:=[(1,.fn 333 [0]),(5,.sl 0 []),(9,.sl 1 []),(10,ti),(11,ti)],lo:=[(0,[ti])],ro:=[(0,.entry,true),(1,.entry,false)] })]
theorem zQp (a0:List Entry)(a1:Int)(hc:zd0 a0 a1=true):∃N,zCI N a0 a1=some [aS .entry (zgY a0 a1)]:=by
 have hs:=zu.1 hc;have hl:=zb2 hs;refine zbo fun N hNN=>?_;unfold zCI oN nB
 conv=>zeta
 refine (zbc a0 (fun i (t:lE)=>((ln a0),(i:Int),a1,t,a0,())) _ (fun _ (x:Entry) (t:List Entry) κ=>bif !ieq x.Host a1 then (cond (few (ln (ap t [x]))) (κ (ap t [x])) none) else κ t) (fun (t:lE)=>(some [(.one (.s .entry t))])) (fun i hi t rec=>?_) (fun t rec=>?_) _ ([]) (hNN hl.1)).trans ?_
 .simp only [zU hi,zK hi,zS hi,zL hi hl.1,cT];cases ieq a0[i].Host a1<;>rfl
 .simp only [zQ,cF]
 exact zl8 (fun e=>!ieq e.Host a1) _ a0 0 [] (by simpa using hl.2)
theorem zIr:uY 292 zxO:=kF2 zvE zi zk zn zRJ zQp
def z5F:zY:=[(302,zwB),(291,zwq),(303,zx4),(292,zxO)]++zbbx
theorem zBw:zJ z5F:=zf zFY (zf zFM (zf zIN (zf zIr zvE)))
def zrH (gs:List Guest)(p:Int):Nat->List Kept->List Kept
 | 0,ts=>ts
 | n+1,ts=>up (zrH gs p n ts) (n:Int) (zpg (ix (zrH gs p n ts) (n:Int) zcu) (ix gs (n:Int) zo).Live p)
theorem zoK (gs:List Guest)(p:Int):∀(n:Nat) (ts:List Kept),(zrH gs p n ts).length=ts.length
 | 0,_=>rfl
 | n+1,ts=>by simp only[zrH,zdZ];exact zoK gs p n ts
theorem ztn (gs:List Guest)(p:Int):∀(n:Nat) (ts:List Kept),n<=ts.length->zFo ts->zFo (zrH gs p n ts)
 | 0,_,_,h=>h
 | n+1,ts,hn,h=>by
  have ih:=ztn gs p n ts (by omega) h
  have hl:n<(zrH gs p n ts).length:=by rw[zoK];omega
  exact zvr ih (zbaD _ _ (by rw[zS hl];exact ih.2 _ (jE hl)))
def ziW (x:Mon)(p:Int)(n:Nat):Mon:={ x with Tables:=zrH x.Guests p n x.Tables }
theorem z8Z {x:Mon}{p:Int}{n:Nat}(hn:n<=x.Tables.length)(h:zd6 x):zd6 (ziW x p n):=⟨h.1,h.2.1,h.2.2.1,h.2.2.2.1,h.2.2.2.2.1,ztn _ _ _ _ hn h.2.2.2.2.2⟩
def zdO (h:Host)(m p:Int)(s:Slot):Host :=
 bif ine (ix (ix h.Mons m zh).Outer p zM).Page (-1)
 then ⟨h.Memory,up h.Mons m { ziW (ix h.Mons m zh) p (ix h.Mons m zh).Tables.length with Outer:=up (ix h.Mons m zh).Outer p s },flushed h.Buffer (ix (ix h.Mons m zh).Outer p zM).Page,flushed h.IoBuffer (ix (ix h.Mons m zh).Outer p zM).Page⟩
 else ⟨h.Memory,up h.Mons m { ziW (ix h.Mons m zh) p (ix h.Mons m zh).Tables.length with Outer:=up (ix h.Mons m zh).Outer p s },h.Buffer,h.IoBuffer⟩
def zbdv (h:Host)(m p:Int):Prop:=hasB m (ln h.Mons)=true/\hasB p (ln (ix h.Mons m zh).Outer)=true/\(ix h.Mons m zh).Tables.length<=(ix h.Mons m zh).Guests.length
@[simp] abbrev ze1 (h:Host)(m p:Int)(s:Slot):Bool:=pc (zbA h/\zbdv h m p)
@[simp] abbrev zhb (h:Host)(m p:Int)(s:Slot):Host:=zdO h m p s
def ztW:List AV->Option (Bool×List AV)
 | [.agg [.s (.sl .int) b,.s .mon c,.s .entry d,.s .entry e],.one (.i .i64 f),.one (.i .i64 g),.agg [.i .i64 h,.i .i64 j]]=>some ((ze1 (⟨b,c,d,e⟩:Host) f g (⟨h,j⟩:Slot)),[aH (zhb (⟨b,c,d,e⟩:Host) f g (⟨h,j⟩:Slot))])
 | _=>none
def zyK (N:Nat)(a0:Host)(a1 a2:Int)(a3:Slot):OA:=
 let y7:=(ix a0.Mons a1 zh); (oN (inb a1 (ln a0.Mons)) (oN (inb a2 (ln y7.Outer)) (iter (σ:=(Int×(Int×(Int×(Int×(Int×(Int×(Int×(Int×(Int×(Int×(Int×(Int×(Int×(Int×(Int×(lM×(lN×(lE×(lE×(lM×(lN×(lE×(lE×Unit)))))))))))))))))))))))) N (fun r5 s6=>let y19:=s6.2.2.1;let y18:=s6.2.2.2.2.2.2.2.2.2.2.2.1;let y17:=s6.2.2.2.2.2.2.2.2.2.2.2.2.1;let y15:=s6.2.2.2.2.2.2.2.2.2.2.2.2.2.2.1;let y14:=s6.2.2.2.2.2.2.2.2.2.2.2.2.2.2.2.1;let y13:=s6.2.2.2.2.2.2.2.1;let y11:=s6.2.2.2.2.2.2.2.2.1;let y10:=s6.2.2.2.1;let y9:=s6.2.2.2.2.2.2.2.2.2.2.1;let y8:=s6.2.2.2.2.2.2.2.2.2.2.2.2.2.2.2.2.2.1;let y6:=s6.2.2.2.2.2.2.2.2.2.2.2.2.2.2.2.2.2.2.1;let y5:=s6.2.2.2.2.2.2.1;let y3:=s6.2.2.2.2.2.2.2.2.2.1;let y1:=s6.2.2.2.2.2.2.2.2.2.2.2.2.2.1;let y0:=s6.2.2.2.2.2.2.2.2.2.2.2.2.2.2.2.2.1;let y20:=(ix y0 y3 zh).Guests;let y16:=(ix y20 y10 zo).Live;let y12:=(ix y0 y5 zh);let y4:=(ix y0 y1 zh).Tables;let y2:=(up y0 y5 ({ y12 with Outer:=(up y12.Outer s6.2.1 (⟨s6.2.2.2.2.1,s6.2.2.2.2.2.1⟩:Slot)) }:Mon)); (cond (ilt y10 (ln y4)) (oN (inb y10 (ln y4)) (oN (inb y10 (ln y20)) (oN (zmI (ix y4 y10 zcu) y16 s6.2.1) (oN (inb y10 (ln y4)) (share (up y0 y1 ({ (ix y0 y1 zh) with Tables:=(up y4 y10 (zwK (ix y4 y10 zcu) y16 s6.2.1)) }:Mon)) (fun x7=>(r5 (s6.1,(s6.2.1,(y19,((zB .i64 y10 1),(s6.2.2.2.2.1,(s6.2.2.2.2.2.1,(y5,(y13,(y11,(y3,(y9,(y18,(y17,(y1,(y15,(y14,(x7,(y8,(y6,(s6.2.2.2.2.2.2.2.2.2.2.2.2.2.2.2.2.2.2.2.1,(s6.2.2.2.2.2.2.2.2.2.2.2.2.2.2.2.2.2.2.2.2.1,(s6.2.2.2.2.2.2.2.2.2.2.2.2.2.2.2.2.2.2.2.2.2.1,(s6.2.2.2.2.2.2.2.2.2.2.2.2.2.2.2.2.2.2.2.2.2.2.1,())))))))))))))))))))))))))))))) (cond (ine y19 (-1)) (oN (zh8 y8 y19) (oN (zh8 y6 y19) (oN (inb s6.2.1 (ln y12.Outer)) (share y2 (fun x7=>(oN (inb s6.1 (ln x7)) (oN (cond (cond (cond (cond (cond (cond (ieq y1 s6.1) true false) (cond (ieq y9 s6.1) true false) false) (cond (ieq y3 s6.1) true false) false) (cond (ieq y11 s6.1) true false) false) (cond (ieq y13 s6.1) true false) false) (cond (ieq y5 s6.1) true false) false) (share (up x7 s6.1 ({ (ix x7 y5 zh) with Out:=(ix x7 y13 zh).Out,Dirty:=(ix x7 y11 zh).Dirty,Guests:=(ix x7 y3 zh).Guests,Outs:=(ix x7 y9 zh).Outs,Pending:=y18,Traps:=y17,Tables:=(ix x7 y1 zh).Tables,Own:=y15 }:Mon)) (fun x8=>(some [(aH (⟨y14,x8,(zsp y8 y19),(zsp y6 y19)⟩:Host))])))))))))) (oN (inb s6.2.1 (ln y12.Outer)) (share y2 (fun x7=>(oN (inb s6.1 (ln x7)) (oN (cond (cond (cond (cond (cond (cond (ieq y1 s6.1) true false) (cond (ieq y9 s6.1) true false) false) (cond (ieq y3 s6.1) true false) false) (cond (ieq y11 s6.1) true false) false) (cond (ieq y13 s6.1) true false) false) (cond (ieq y5 s6.1) true false) false) (share (up x7 s6.1 ({ (ix x7 y5 zh) with Out:=(ix x7 y13 zh).Out,Dirty:=(ix x7 y11 zh).Dirty,Guests:=(ix x7 y3 zh).Guests,Outs:=(ix x7 y9 zh).Outs,Pending:=y18,Traps:=y17,Tables:=(ix x7 y1 zh).Tables,Own:=y15 }:Mon)) (fun x8=>(some [(aH (⟨y14,x8,y8,y6⟩:Host))]))))))))))) (a1,(a2,((ix y7.Outer a2 zM).Page,(0,(a3.Page,(a3.Rights,(a1,(a1,(a1,(a1,(a1,(y7.Pending,(y7.Traps,(a1,(y7.Own,(a0.Memory,(a0.Mons,(a0.Buffer,(a0.IoBuffer,([],([],([],([],()))))))))))))))))))))))))))
def zYH:FuncId->Nat->Option Tmpl:=zl [(203,0,{ n:=70,tm:=[(1,ti),(2,ti),(4,.lp 0 0),(7,.lp 1 0),(8,.lp 2 0),(9,.lp 3 0),(10,ti),(11,ti)],lo:=[(0,[.sl 0 [],.sl 1 [],.sl 2 [],.sl 3 []]),(1,[ti,ti]),(2,[.sl 4 [],.sl 5 [],.sl 6 [],.sl 7 []]),(3,[.sl 1 [0],.sl 1 [1],.sl 1 [2],.sl 1 [3],.sl 1 [4],ti,ti,.sl 1 [7],ti])],ro:=[(0,(.sl .int),true),(1,.mon,true),(2,.entry,true),(3,.entry,true),(4,(.sl .int),true),(5,.mon,true),(6,.entry,true),(7,.entry,true)] })]
theorem z1v (N:Nat)(a0:Host)(a1 a2:Int)(a3:Slot):zHQ (cQ z5F zom zk0 zlX) zYH N 12 203 [true,true,true,true,false,false,false,false] 1 1 [[0],[1],[2],[4],[7]] .mon [aH a0,aI a1,aI a2,aT .slot a3]=zyK N a0 a1 a2 a3:=by kernel_rfl
theorem zYg (a0:Host)(a1 a2:Int)(a3:Slot)(hb:zby big [aH a0,aI a1,aI a2,aT .slot a3])(hc:ze1 a0 a1 a2 a3=true):∃N,zyK N a0 a1 a2 a3=some [aH (zhb a0 a1 a2 a3)]:=by
 obtain ⟨hs,h1,h2,h3⟩:=zu.1 hc;have hH:=(zF a0).1 hs;have hm:zd6 (ix a0.Mons a1 zh):=hH.2.1.2 _ (zbw h1 _);obtain ⟨k,rfl,hk⟩:=zdn (n:=a0.Mons.length) h1;have hT:=(zb2 hm.2.2.2.2.2.1).1;refine zbo fun N hNN=>?_;unfold zyK oN
 conv=>zeta
 refine must h1 (must h2 ?_);refine zre (ix a0.Mons (k:Int) zh).Tables.length (fun i (t:List Mon)=>((k:Int),a2,(ix (ix a0.Mons (k:Int) zh).Outer a2 zM).Page,(i:Int),a3.Page,a3.Rights,(k:Int),(k:Int),(k:Int),(k:Int),(k:Int),(ix a0.Mons (k:Int) zh).Pending,(ix a0.Mons (k:Int) zh).Traps,(k:Int),(ix a0.Mons (k:Int) zh).Own,a0.Memory,t,a0.Buffer,a0.IoBuffer,[],[],[],[],())) _
  (fun i t=>t=up a0.Mons (k:Int) (ziW (ix a0.Mons (k:Int) zh) a2 i)) (fun _ _=>some [AV.agg (zW (zdO a0 (k:Int) a2 a3))]) (fun i t rec hi hI hr=>?_) (fun t rec hI=>?_) _ 0 a0.Mons ?_ (jU _) ?_
 .subst hI;have hi2:i<(zrH (ix a0.Mons (k:Int) zh).Guests a2 i (ix a0.Mons (k:Int) zh).Tables).length:=by rw[zoK];exact hi
  have hi3:i<(ix a0.Mons (k:Int) zh).Guests.length:=by omega
  have hf:zmI (ix (zrH (ix a0.Mons (k:Int) zh).Guests a2 i (ix a0.Mons (k:Int) zh).Tables) (i:Int) zcu) (ix (ix a0.Mons (k:Int) zh).Guests (i:Int) zo).Live a2=true :=
   zbe ⟨by rw[zS hi2];exact (ztn _ _ _ _ (by omega) hm.2.2.2.2.2).2 _ (jE hi2),by rw[zS hi3];exact (hm.2.2.2.1.2 _ (jE hi3)).2.2.1⟩
  simp only[zcT hk,zqP,ziW,zU hi2,zK hi2,zK hi3,hf,cT,share,zL hi hT];exact hr _ rfl
 .subst hI;simp only[zcT hk,zqP,zdZ,ziW,ln,zoK,zlD,show ilt (((ix a0.Mons (k:Int) zh).Tables.length:Nat):Int) (((ix a0.Mons (k:Int) zh).Tables.length:Nat):Int)=false from qH (by omega),cT,cF,share]
  have h1':inb (k:Int) ((a0.Mons.length:Nat):Int)=true:=h1;have h2':inb a2 (((ix a0.Mons (k:Int) zh).Outer.length:Nat):Int)=true:=h2;have f1:zh8 a0.Buffer (ix (ix a0.Mons (k:Int) zh).Outer a2 zM).Page=true:=zbe hH.2.2.1;have f2:zh8 a0.IoBuffer (ix (ix a0.Mons (k:Int) zh).Outer a2 zM).Page=true:=zbe hH.2.2.2;simp only[h1',h2',f1,f2,cT];unfold zdO;cases ine (ix (ix a0.Mons (k:Int) zh).Outer a2 zM).Page (-1)<;>rfl
 .exact (zIm hk _).symm
 .exact hNN (by omega)
theorem zQb:zdS Tryz.prog 203 [true,true,true,true,false,false,false,false] (some (1,1,[[0],[1],[2],[4],[7]])) ztW:=by
 refine zl9 (kt:=.mon) (zcP zBw zi zk zn) (zdQ (by kernel_rfl)) (by kernel_rfl) ?_
 intro avs rs hl hr h;have hb:=zi6 hr;unfold ztW at h;split at h
 .obtain ⟨hc,rfl⟩:=zdG h;obtain ⟨N,hN⟩:=zYg _ _ _ _ (by exact hb) hc
  exact ⟨⟨_,rfl⟩,rfl,_,N,12,(z1v N _ _ _ _ ).trans hN⟩
 .cases h
def z1Y:ze3:=[(203,([true,true,true,true,false,false,false,false],(some (1,1,[[0],[1],[2],[4],[7]])),ztW))]++zlX
theorem zcE:zdT z1Y:=zrI zn (by
 intro x hx;simp only[qK,jJ,or_false]at hx;rcases hx with rfl
 .exact zQb)
def zHI (x:Mon)(p:Int):Mon:={ x with Dirty:=up x.Dirty p false }
def grd (x:Mon)(p:Int):Mon:={ x with Outer:=up x.Outer p ⟨(ix x.Outer p zM).Page,1⟩ }
def zo8 (h:Host)(m p:Int):Host:={ h with Mons:=up h.Mons m (zHI (ix h.Mons m zh) p) }
def znd (h:Host)(m p:Int):Host:=bif zbB h m p then (cond (zc0 (ix (ix h.Mons m zh).Outer p zM) noSlot) (zo8 h m p) (zdO (zo8 h m p) m p ⟨(ix (ix h.Mons m zh).Outer p zM).Page,1⟩)) else h
theorem zBM:∀(l:List Mon) (u:List Bool),zne l u=true->∀x∈l,zen x=true
 | [],_,_,x,hx=>by cases hx
 | m :: l,u,h,x,hx=>by
  simp only[zne]at h;cases h1:zen m
  .rw [h1]at h;cases h
  .rw [h1]at h;simp only[cT]at h;cases h2:zjB m.Outer u with
   | none=>rw[h2]at h;cases h
   | some u' =>
    rw[h2]at h;rcases qK.1 hx with rfl|hx
    .exact h1
    .exact zBM l u' h x hx
structure PageAt (h:Host) (m p:Int):Prop where
 hm:hasB m (ln h.Mons)=true
 hp:hasB p 8=true
 ok:zen (ix h.Mons m zh)=true
 ho:(ix h.Mons m zh).Outer.length=8
 hd:(ix h.Mons m zh).Dirty.length=8
 ht:(ix h.Mons m zh).Tables.length=(ix h.Mons m zh).Guests.length
 hs:zc0 (ix (ix h.Mons m zh).Outer p zM) noSlot=ieq (ix (ix h.Mons m zh).Outer p zM).Page (-1)
theorem zWt {s:Slot}{n:Int}(h:zeW s n=true):zc0 s noSlot=ieq s.Page (-1):=by
 unfold zeW at h;cases h1:zc0 s noSlot
 .rw [h1]at h;cases h2:ieq s.Page (-1)
  .rfl
  .have e:s.Page = -1:=qD h2;cases h3:igt n 0
   .rw [h3]at h;cases h
   .cases h4:win s.Page 0 (wsub .i64 n 1)
    .rw [h3,h4]at h;cases h
    .have:=(zfo.1 h4).1;omega
 .unfold zc0 at h1;rw[qE]at h1;exact h1.1.symm
theorem zB9 {h:Host}{m p:Int}(hp:zbB h m p=true):PageAt h m p:=by
 unfold zbB at hp;simp only[zcM]at hp;obtain ⟨h0,h1,h2⟩:=hp;unfold zbF at h0;simp only[zcM]at h0;have hok:=zBM _ _ h0.2.2.2.2 _ (zbw h1 zh);have hk:=hok;unfold zen at hk;simp only[zcM]at hk;have ho:(ix h.Mons m zh).Outer.length=8:=by have:=zto hk.2.2.1;simp only[ln] at this;omega
 refine ⟨h1,h2,hok,ho,?_,?_,?_⟩
 .have:ln (ix h.Mons m zh).Dirty=8:=qD hk.2.2.2.2.1;simp only[ln] at this;omega
 .have:ln (ix h.Mons m zh).Tables=ln (ix h.Mons m zh).Guests:=qD hk.2.1;simp only[ln] at this;omega
 .have ht:=hk.2.2.1;unfold zdy at ht;simp only[zcM]at ht;have hi:hasB p (ln (ix h.Mons m zh).Outer)=true:=by rw[ln,ho];exact h2
  exact zWt (qU.1 ht.1 _ (zbw hi _))
theorem zHC {x:Mon}{p:Int}(h:zd6 x):zd6 (zHI x p):=⟨h.1,h.2.1,by simpa [zHI] using h.2.2.1,h.2.2.2⟩
theorem zCv {h:Host}{m p:Int}(hm:hasB m (ln h.Mons)=true)(hs:SmH h):SmH (zo8 h m p):=⟨hs.1,ziw hs.2.1 (zHC (hs.2.1.2 _ (zbw hm _))),hs.2.2⟩
theorem zLq {h:Host}{m p:Int}{s:Slot}(hm:hasB m (ln h.Mons)=true)(hs:SmH h):SmH (zdO h m p s):=by
 have hx:=hs.2.1.2 _ (zbw hm zh);have ht:=z8Z (p:=p) (qV _) hx;have hM:zpb (up h.Mons m { ziW (ix h.Mons m zh) p (ix h.Mons m zh).Tables.length with Outer:=up (ix h.Mons m zh).Outer p s }):=ziw hs.2.1 ⟨by simpa using hx.1,ht.2⟩
 unfold zdO;cases ine (ix (ix h.Mons m zh).Outer p zM).Page (-1)
 .exact ⟨hs.1,hM,hs.2.2⟩
 .exact ⟨hs.1,hM,jD (zKz _ _) hs.2.2.1,jD (zKz _ _) hs.2.2.2⟩
theorem zCA {h:Host}{m p:Int}(hm:hasB m (ln h.Mons)=true):hasB m (ln (zo8 h m p).Mons)=true:=by
 unfold zo8;simpa [ln] using hm
theorem z8V {h:Host}{m p:Int}(hs:SmH h):SmH (znd h m p):=by
 unfold znd;cases hp:zbB h m p
 .exact hs
 .have P:=zB9 hp;cases zc0 (ix (ix h.Mons m zh).Outer p zM) noSlot
  .exact zLq (zCA P.hm) (zCv P.hm hs)
  .exact zCv P.hm hs
@[simp] abbrev zHu (h:Host)(m p:Int):Bool:=pc (zbA h)
@[simp] abbrev zya (h:Host)(m p:Int):Host:=znd h m p
@[simp] abbrev zyb (h:Host)(m p:Int):Bool:=zbB h m p
def zLa:Run:=rF3 dH dI dI fun b c d=>(zHu b c d,[aH (zya b c d),aB (zyb b c d)])
def zVz (N:Nat)(a0:Host)(a1 a2:Int):OA:=
 let y3:=(zx a0);let y2:=(ix y3.Mons a1 zh); (oN (zbJ a0) (oN (zo5 y3 a1 a2) (cond (nB (zh9 y3 a1 a2)) (some [(aH y3),(aB false)]) (oN (inb a1 (ln y3.Mons)) (oN (inb a2 (ln y2.Dirty)) (share (up y3.Mons a1 ({ y2 with Dirty:=(up y2.Dirty a2 false) }:Mon)) (fun x4=>let y4:=(ix x4 a1 zh).Outer;let y1:=({ y3 with Mons:=x4 }:Host);let y0:=(ix y4 a2 zM);let y5:=({ y0 with Rights:=1 }:Slot); (oN (inb a1 (ln x4)) (oN (inb a2 (ln y4)) (oN zcd (cond (cond (ieq y0.Page zbq.Page) (ieq y0.Rights zbq.Rights) false) (some [(aH y1),(aB true)]) (oN (ze1 y1 a1 a2 y5) (some [(aH (zhb y1 a1 a2 y5)),(aB true)])))))))))))))
theorem z3w (a0:Host)(a1 a2:Int)(hc:zHu a0 a1 a2=true):∃N,zVz N a0 a1 a2=some [aH (zya a0 a1 a2),aB (zyb a0 a1 a2)]:=by
 have hs:=zu.1 hc;have hH:=(zF a0).1 hs;refine ⟨0,?_⟩;unfold zVz zya zyb znd oN nB
 conv=>zeta
 refine must (zbe hs) (must rfl ?_);cases hp:zbB a0 a1 a2
 .simp only [zh9,zx,hp,cF,cT]
 .have P:=zB9 hp;obtain ⟨k,rfl,hk⟩:=zdn (n:=a0.Mons.length) P.hm;simp only[zh9,zx,hp,cT,cF];have i1:inb a2 (ln (ix a0.Mons (k:Int) zh).Dirty)=true:=by rw[ln,P.hd];exact P.hp
  have i2:inb a2 (ln (ix a0.Mons (k:Int) zh).Outer)=true:=by rw[ln,P.ho];exact P.hp
  refine must P.hm (must i1 ?_);simp only[share,zcT hk,i2,cT,zcd,zbq];refine must (zCA (p:=a2) P.hm) ?_;have e:∀s:Slot,zc0 s noSlot=bif ieq s.Page noSlot.Page then ieq s.Rights noSlot.Rights else false:=fun s=>by
   unfold zc0;cases ieq s.Page noSlot.Page<;>rfl
  rw[<- e];cases zc0 (ix (ix a0.Mons (k:Int) zh).Outer a2 zM) noSlot
  .refine zbI rfl (must (zbe ⟨(zF _).2 (zCv P.hm hH),zCA (p:=a2) P.hm,?_,?_⟩) rfl)
   .simp only [zcT hk];exact i2
   .simp only [zcT hk];exact uW P.ht
  .rfl
theorem zWX:uY 107 zLa:=kF3 zBw zi zk zcE (zl []) z3w
@[simp] abbrev zF3 (h:Host)(m p:Int):Bool:=pc (zbA h)
@[simp] abbrev zsX (h:Host)(m p:Int):Host:=znd h m p
@[simp] abbrev zxx (h:Host)(m p:Int):Bool:=zbB h m p
def zKR:Run:=rF3 dH dI dI fun b c d=>(zF3 b c d,[aH (zsX b c d),aB (zxx b c d)])
def zVi (N:Nat)(a0:Host)(a1 a2:Int):OA:=
 let y11:=(zI a0);let y0:=(ix y11.Mons a1 zh);let y3:=(ix y0.Outer a2 zM); (oN (zbb a0) (oN (zns a0 a1 a2) (cond (nB (zim a0 a1 a2)) (some [(aH y11),(aB false)]) (oN (inb a1 (ln y11.Mons)) (oN (inb a2 (ln y0.Outer)) (cond (ine y3.Page (-1)) (oN (inb a2 (ln y0.Outer)) (share (up y11.Mons a1 ({ y0 with Outer:=(up y0.Outer a2 ({ y3 with Rights:=1 }:Slot)) }:Mon)) (fun x4=>(oN (inb a1 (ln x4)) (oN (cond (cond (cond (ieq a1 a1) true false) (cond (cond (ieq a1 a1) true false) (cond (cond (ieq a1 a1) true false) (cond (cond (ieq a1 a1) true false) (cond (cond (ieq a1 a1) true false) (cond (ieq a1 a1) (cond (cond (ieq a2 a2) (ieq a1 a1) false) (cond (cond (ieq a1 a1) true false) (cond (cond (ieq a1 a1) true false) (cond (cond (ieq a1 a1) true false) (cond (ieq a1 a1) (cond (cond (ieq a2 a2) (ieq a1 a1) false) (cond (cond (ieq a2 a2) (ieq a1 a1) false) true false) false) false) false) false) false) false) false) false) false) false) false) false) true false) (iter (σ:=(Int×(Int×(Int×(Int×(Int×(Int×(Int×(Int×(lN×(lM×(lN×(lE×(lE×(lM×(lE×(lE×(lM×(lN×(lE×(lE×Unit))))))))))))))))))))) N (fun r5 s6=>let y10:=s6.2.2.2.2.1;let y9:=s6.2.2.2.2.2.2.2.2.1;let y8:=s6.2.2.2.2.2.2.2.2.2.2.2.2.2.1;let y7:=s6.2.2.2.1;let y5:=s6.2.2.2.2.2.2.2.2.2.2.2.2.2.2.1;let y4:=s6.2.2.2.2.2.2.2.2.2.2.2.2.2.2.2.1;let y2:=(ix y9 a1 zh);let y6:=(up y9 a1 ({ y2 with Dirty:=(up y2.Dirty a2 false) }:Mon));let y1:=(ix y9 s6.2.1 zh);let y13:=(ix y1.Tables y7 zcu);let y12:=(ix y1.Guests y7 zo).Live; (cond (ilt y7 s6.2.2.1) (oN (inb y7 (ln y1.Tables)) (oN (inb y7 (ln y1.Guests)) (oN (zjb y13 y12 s6.1) (oN (inb y7 (ln y1.Tables)) (share (up y9 s6.2.1 ({ y1 with Tables:=(up y1.Tables y7 (zpp y13 y12 s6.1)) }:Mon)) (fun x7=>(oN (cond (cond (cond (ieq a1 a1) true false) (cond (cond (ieq a1 a1) true false) (cond (cond (ieq a1 a1) true false) (cond (cond (ieq a1 a1) true false) (cond (cond (ieq a1 a1) true false) (cond (ieq a1 a1) (cond (cond (ieq a2 a2) (ieq a1 a1) false) (cond (cond (ieq a1 a1) true false) (cond (cond (ieq a1 a1) true false) (cond (cond (ieq a1 a1) true false) (cond (ieq a1 a1) (cond (cond (ieq a2 a2) (ieq a1 a1) false) (cond (cond (ieq a2 a2) (ieq a1 a1) false) true false) false) false) false) false) false) false) false) false) false) false) false) false) true false) (r5 (s6.1,(s6.2.1,(s6.2.2.1,((zB .i64 y7 1),(y10,(s6.2.2.2.2.2.1,(s6.2.2.2.2.2.2.1,(s6.2.2.2.2.2.2.2.1,(x7,(s6.2.2.2.2.2.2.2.2.2.1,(s6.2.2.2.2.2.2.2.2.2.2.1,(s6.2.2.2.2.2.2.2.2.2.2.2.1,(s6.2.2.2.2.2.2.2.2.2.2.2.2.1,(y8,(y5,(y4,(s6.2.2.2.2.2.2.2.2.2.2.2.2.2.2.2.2.1,(s6.2.2.2.2.2.2.2.2.2.2.2.2.2.2.2.2.2.1,(s6.2.2.2.2.2.2.2.2.2.2.2.2.2.2.2.2.2.2.1,(s6.2.2.2.2.2.2.2.2.2.2.2.2.2.2.2.2.2.2.2.1,())))))))))))))))))))))))))))) (cond (ine y10 (-1)) (oN (zd0 y5 y10) (oN (zd0 y4 y10) (oN (inb a2 (ln y2.Dirty)) (share y6 (fun x7=>(some [(aH (⟨y8,x7,(zgY y5 y10),(zgY y4 y10)⟩:Host)),(aB true)])))))) (oN (inb a2 (ln y2.Dirty)) (share y6 (fun x7=>(some [(aH (⟨y8,x7,y5,y4⟩:Host)),(aB true)]))))))) (a2,(a1,((ln (ix x4 a1 zh).Guests),(0,(y3.Page,(y3.Rights,(y3.Page,(y3.Rights,(x4,(a0.Memory,(a0.Mons,(a0.Buffer,(a0.IoBuffer,(y11.Memory,(y11.Buffer,(y11.IoBuffer,([],([],([],([],())))))))))))))))))))))))))) (oN (inb a2 (ln y0.Dirty)) (share (up y11.Mons a1 ({ y0 with Dirty:=(up y0.Dirty a2 false) }:Mon)) (fun x4=>(some [(aH ({ y11 with Mons:=x4 }:Host)),(aB true)]))))))))))
def z4k:FuncId->Nat->Option Tmpl:=zl [(188,0,{ n:=71,tm:=[(0,.lp 0 0),(2,ti),(7,.lp 1 0),(8,.ep 0 [] 0),(20,ti),(21,ti)],lo:=[(0,[.sl 5 [],.sl 0 [],.sl 6 [],.sl 7 []]),(1,[ti,ti]),(2,[.sl 1 [],.sl 2 [],.sl 3 [],.sl 4 []]),(3,[.sl 8 [],.sl 9 [],.sl 10 [],.sl 11 []]),(4,[ti,ti])],ro:=[(0,.mon,true),(1,(.sl .int),false),(2,.mon,false),(3,.entry,false),(4,.entry,false),(5,(.sl .int),true),(6,.entry,true),(7,.entry,true),(8,(.sl .int),true),(9,.mon,true),(10,.entry,true),(11,.entry,true)],sk:=[(0,0,0,.sl 1 []),(0,0,1,.sl 2 []),(0,0,2,.sl 3 []),(0,0,3,.sl 4 []),(0,3,0,.lp 2 0),(0,6,0,.lp 3 0),(0,10,0,.lp 4 0),(0,12,0,.sl 5 []),(0,12,2,.sl 6 []),(0,12,3,.sl 7 [])] })]
theorem z3d (a0:Host)(a1 a2:Int)(hc:zF3 a0 a1 a2=true):∃N,zVi N a0 a1 a2=some [aH (zsX a0 a1 a2),aB (zxx a0 a1 a2)]:=by
 have hs:=zu.1 hc;have hH:=(zF a0).1 hs;refine zbo fun N hNN=>?_;unfold zVi zsX zxx znd oN nB
 conv=>zeta
 refine must (zbe hs) (must rfl ?_);rw[show zim a0 a1 a2=zbB a0 a1 a2 from rfl]
 cases hp:zbB a0 a1 a2
 .rfl
 .have P:=zB9 hp;have hm:zd6 (ix a0.Mons a1 zh):=hH.2.1.2 _ (zbw P.hm _);obtain ⟨k,rfl,hk⟩:=zdn (n:=a0.Mons.length) P.hm;have i1:inb a2 (ln (ix a0.Mons (k:Int) zh).Dirty)=true:=by rw[ln,P.hd];exact P.hp
  have i2:inb a2 (ln (ix a0.Mons (k:Int) zh).Outer)=true:=by rw[ln,P.ho];exact P.hp
  have hT:=(zb2 hm.2.2.2.2.2.1).1;refine zbI rfl ?_;rw[P.hs];refine must P.hm (must i2 ?_);cases hpg:ieq (ix (ix a0.Mons (k:Int) zh).Outer a2 zM).Page (-1)
  .have hpg2:ine (ix (ix a0.Mons (k:Int) zh).Outer a2 zM).Page (-1)=true:=by rw[zh0];exact congrArg not hpg
   refine must hpg2 (must i2 ?_);simp only[share];refine must (by simp only[ln,zdZ];exact P.hm) ?_
   simp only[zlD,cT,zI];refine zre (ix a0.Mons (k:Int) zh).Guests.length (fun i (t:List Mon)=>(a2,(k:Int),ln (ix (up a0.Mons (k:Int) (grd (ix a0.Mons (k:Int) zh) a2)) (k:Int) zh).Guests,(i:Int),(ix (ix a0.Mons (k:Int) zh).Outer a2 zM).Page,(ix (ix a0.Mons (k:Int) zh).Outer a2 zM).Rights,(ix (ix a0.Mons (k:Int) zh).Outer a2 zM).Page,(ix (ix a0.Mons (k:Int) zh).Outer a2 zM).Rights,t,a0.Memory,a0.Mons,a0.Buffer,a0.IoBuffer,a0.Memory,a0.Buffer,a0.IoBuffer,[],[],[],[],())) _
    (fun i t=>t=up a0.Mons (k:Int) (ziW (grd (ix a0.Mons (k:Int) zh) a2) a2 i)) (fun _ _=>some [AV.agg (zW (zdO (zo8 a0 (k:Int) a2) (k:Int) a2 ⟨(ix (ix a0.Mons (k:Int) zh).Outer a2 zM).Page,1⟩)),AV.one (.b true)]) (fun i t rec hi hI hr=>?_) (fun t rec hI=>?_) _ 0 (up a0.Mons (k:Int) (grd (ix a0.Mons (k:Int) zh) a2)) rfl (jU _) ?_
   .subst hI;have hi1:i<(ix a0.Mons (k:Int) zh).Tables.length:=by rw[P.ht];exact hi
    have hi2:i<(zrH (ix a0.Mons (k:Int) zh).Guests a2 i (ix a0.Mons (k:Int) zh).Tables).length:=by rw[zoK];exact hi1
    have hf:zjb (ix (zrH (ix a0.Mons (k:Int) zh).Guests a2 i (ix a0.Mons (k:Int) zh).Tables) (i:Int) zcu) (ix (ix a0.Mons (k:Int) zh).Guests (i:Int) zo).Live a2=true :=
     zbe ⟨by rw[zS hi2];exact (ztn _ _ _ _ (by omega) hm.2.2.2.2.2).2 _ (jE hi2),by rw[zS hi];exact (hm.2.2.2.1.2 _ (jE hi)).2.2.1⟩
    simp only[zcT hk,zqP,ziW,grd,zU hi,zK hi2,zK hi,hf,cT,share,zL hi1 hT];have hr':=hr _ rfl;simp only[zcT hk,ziW,grd]at hr';exact hr'
   .subst hI;have f1:zd0 a0.Buffer (ix (ix a0.Mons (k:Int) zh).Outer a2 zM).Page=true:=zbe hH.2.2.1;have f2:zd0 a0.IoBuffer (ix (ix a0.Mons (k:Int) zh).Outer a2 zM).Page=true:=zbe hH.2.2.2;unfold zdO zo8 zHI;simp only[zcT hk,zqP,ziW,grd,zQ,hpg2,f1,f2,i1,P.ht,share,cT,cF]
   .exact hNN (by rw[<- P.ht];omega)
  .refine zbI (by rw[zh0];exact congrArg not hpg) (must i1 ?_)
   rfl
theorem zWE:uY 79 zKR:=kF3 zBw zi zk zcE z4k z3d
def z7J:zY:=[(107,zLa),(79,zKR)]++z5F
theorem z7K:zJ z7J:=zf zWX (zf zWE zBw)
def zZw:zY:=z7J
theorem zdV:zJ zZw:=z7K
def zkZ (o i t:Int):Int:=bif zdm i t then 1 else (cond (zdm o t) 2 0)
@[simp] abbrev zsA (o i t:Int):Bool:=true
@[simp] abbrev zo4 (o i t:Int):Int:=zkZ o i t
def zDS:Run:=rF3 dI dI dI fun b c d=>(zsA b c d,[aI (zo4 b c d)])
def zKe (N:Nat)(a0 a1 a2:Int):OA:=
 (oN (ziS a1 a2) (cond (zit a1 a2) (some [(aI 1)]) (oN (ziS a0 a2) (cond (zit a0 a2) (some [(aI 2)]) (some [(aI 0)])))))
theorem zX2 (a0 a1 a2:Int)(hc:zsA a0 a1 a2=true):∃N,zKe N a0 a1 a2=some [aI (zo4 a0 a1 a2)]:=by
 refine ⟨0,?_⟩;unfold zKe oN;refine must rfl (br (fun _=>?_) (fun _=>must rfl (br (fun _=>?_) (fun _=>?_))))
 all_goals first|rfl|(simp only [*,zo4,zkZ,cT,cF]<;>rfl)|simp_all[Ty.cells,zo4,zkZ]
theorem zPX:uY 219 zDS:=kF3 zdV zi zk zcE (zl []) zX2
@[simp] abbrev zy0 (o i t:Int):Bool:=true
@[simp] abbrev zoV (o i t:Int):Int:=zkZ o i t
def zDl:Run:=rF3 dI dI dI fun b c d=>(zy0 b c d,[aI (zoV b c d)])
def zJE (N:Nat)(a0 a1 a2:Int):OA:=
 (oN (zkz a1 a2) (cond (zjD a1 a2) (some [(aI 1)]) (oN (zkz a0 a2) (cond (zjD a0 a2) (some [(aI 2)]) (some [(aI 0)])))))
theorem zXr (a0 a1 a2:Int)(hc:zy0 a0 a1 a2=true):∃N,zJE N a0 a1 a2=some [aI (zoV a0 a1 a2)]:=by
 refine ⟨0,?_⟩;unfold zJE oN;refine must rfl (br (fun _=>?_) (fun _=>must rfl (br (fun _=>?_) (fun _=>?_))))
 all_goals first|rfl|(simp only [*,zoV,zkZ,cT,cF]<;>rfl)|simp_all[Ty.cells,zoV,zkZ]
theorem zPq:uY 252 zDl:=kF3 zdV zi zk zcE (zl []) zXr
theorem has3 (p:Int):hasB p 3=win p 0 2:=by
 unfold hasB win ige ile
 by_cases h1:0<=p<;>by_cases h2:p<3
 .rw [qL (p:=0<=p/\p<3) ⟨h1,h2⟩,qL (p:=p≥0) h1,qL (p:=p<=2) (by omega)];rfl
 .rw [qH (p:=0<=p/\p<3) (by omega),qH (p:=p<=2) (by omega)];simp
 .rw [qH (p:=0<=p/\p<3) (by omega),qH (p:=p≥0) (by omega)];simp
 .rw [qH (p:=0<=p/\p<3) (by omega),qH (p:=p≥0) (by omega)];simp
theorem has2 (p:Int):hasB p 2=win p 0 1:=by
 unfold hasB win ige ile
 by_cases h1:0<=p<;>by_cases h2:p<2
 .rw [qL (p:=0<=p/\p<2) ⟨h1,h2⟩,qL (p:=p≥0) h1,qL (p:=p<=1) (by omega)];rfl
 .rw [qH (p:=0<=p/\p<2) (by omega),qH (p:=p<=1) (by omega)];simp
 .rw [qH (p:=0<=p/\p<2) (by omega),qH (p:=p≥0) (by omega)];simp
 .rw [qH (p:=0<=p/\p<2) (by omega),qH (p:=p≥0) (by omega)];simp
def zgy (m g:Int):Int:=bif win m 0 2 then (cond (win g 0 1) (zB .i64 (zB .i64 1 g) (z2E .i64 m 2)) 0) else 0
@[simp] abbrev zlT (m g:Int):Bool:=true
@[simp] abbrev zvq (m g:Int):Int:=zgy m g
def zLh:Run:=rF2 dI dI fun b c=>(zlT b c,[aI (zvq b c)])
def zVG (N:Nat)(a0 a1:Int):OA:=
 (oN (zO a0 0 2) (cond (nB (zT a0 0 2)) (some [(aI 0)]) (oN (zO a1 0 1) (cond (nB (zT a1 0 1)) (some [(aI 0)]) (some [(aI (zB .i64 (zB .i64 1 a1) (z2E .i64 a0 2)))])))))
theorem z3D (a0 a1:Int)(hc:zlT a0 a1=true):∃N,zVG N a0 a1=some [aI (zvq a0 a1)]:=by
 refine ⟨0,?_⟩;unfold zVG oN nB;refine must rfl (brN (fun _=>?_) (fun _=>must rfl (brN (fun _=>?_) (fun _=>?_))))
 all_goals first|rfl|(simp only [*,zvq,zgy,cT,cF]<;>rfl)|simp_all[Ty.cells,zvq,zgy]
theorem zW4:uY 123 zLh:=kF2 zdV zi zk zcE (zl []) z3D
@[simp] abbrev zs4 (m g:Int):Bool:=true
@[simp] abbrev zvh (m g:Int):Int:=zgy m g
def zKZ:Run:=rF2 dI dI fun b c=>(zs4 b c,[aI (zvh b c)])
def zVr (N:Nat)(a0 a1:Int):OA:=
 (oN (zbx a0 3) (cond (nB (zbO a0 3)) (some [(aI 0)]) (oN (zbx a1 2) (cond (nB (zbO a1 2)) (some [(aI 0)]) (some [(aI (zB .i64 (zB .i64 1 a1) (z2E .i64 a0 2)))])))))
theorem z3l (a0 a1:Int)(hc:zs4 a0 a1=true):∃N,zVr N a0 a1=some [aI (zvh a0 a1)]:=by
 refine ⟨0,?_⟩;unfold zVr oN nB;refine must rfl (brN (fun _=>?_) (fun _=>must rfl (brN (fun _=>?_) (fun _=>?_))))
 all_goals first|rfl|(simp only [*,zvh,zgy,has3,has2,cT,cF]<;>rfl)|simp_all[Ty.cells,zvh,zgy,has3,has2]
theorem zWM:uY 167 zKZ:=kF2 zdV zi zk zcE (zl []) z3l
def znu (k:Kept)(p:Int):Bool:=bif zed k p then ix k.Known p false else false
def zfz (k:Kept)(p:Int):Slot:=bif znu k p then ix k.Slots p zM else noSlot
@[simp] abbrev zIb (k:Kept)(p:Int):Bool:=pc (SmK k)
@[simp] abbrev zvo (k:Kept)(p:Int):Slot:=zfz k p
@[simp] abbrev zIa (k:Kept)(p:Int):Bool:=znu k p
def zWp:Run:=rF2 (dT .kept) dI fun b c=>(zIb b c,[aT .slot (zvo b c),aB (zIa b c)])
def z4u (N:Nat)(a0:Kept)(a1:Int):OA:=
 let y0:=(ix a0.Slots a1 zM); (oN (zqL a0 a1) (cond (nB (ziT a0 a1)) (oN zcd (some [(.agg [(.i .i64 zbq.Page),(.i .i64 zbq.Rights)]),(aB false)])) (oN (inb a1 (ln a0.Known)) (cond (nB (ix a0.Known a1 false)) (oN zcd (some [(.agg [(.i .i64 zbq.Page),(.i .i64 zbq.Rights)]),(aB false)])) (oN (inb a1 (ln a0.Slots)) (some [(.agg [(.i .i64 y0.Page),(.i .i64 y0.Rights)]),(aB true)]))))))
theorem z8k (a0:Kept)(a1:Int)(hc:zIb a0 a1=true):∃N,z4u N a0 a1=some [aT .slot (zvo a0 a1),aB (zIa a0 a1)]:=by
 have hs:=zu.1 hc;refine ⟨0,?_⟩;unfold z4u zvo zIa zfz znu oN nB
 conv=>zeta
 refine must (zbe hs) ?_;rw[show ziT a0 a1=zed a0 a1 from rfl]
 cases hh:zed a0 a1
 .rfl
 .unfold zed at hh;obtain ⟨h1,h2⟩:=zcM.1 hh;simp only[zy h1,zy h2,cT];cases ix a0.Known a1 false<;>rfl
theorem z2Y:uY 236 zWp:=kF2 zdV zi zk zcE (zl []) z8k
@[simp] abbrev zz2 (k:Kept)(p:Int):Bool:=true
@[simp] abbrev zvf (k:Kept)(p:Int):Slot:=zfz k p
@[simp] abbrev zHX (k:Kept)(p:Int):Bool:=znu k p
def zWm:Run:=rF2 (dT .kept) dI fun b c=>(zz2 b c,[aT .slot (zvf b c),aB (zHX b c)])
def z4r (N:Nat)(a0:Kept)(a1:Int):OA:=
 let y0:=(ix a0.Slots a1 zM); (oN (zbx a1 (ln a0.Known)) (cond (nB (zbO a1 (ln a0.Known))) (oN zcX (some [(.agg [(.i .i64 zcl.Page),(.i .i64 zcl.Rights)]),(aB false)])) (oN (zbx a1 (ln a0.Slots)) (cond (nB (zbO a1 (ln a0.Slots))) (oN zcX (some [(.agg [(.i .i64 zcl.Page),(.i .i64 zcl.Rights)]),(aB false)])) (oN (inb a1 (ln a0.Known)) (cond (nB (ix a0.Known a1 false)) (oN zcX (some [(.agg [(.i .i64 zcl.Page),(.i .i64 zcl.Rights)]),(aB false)])) (oN (inb a1 (ln a0.Slots)) (some [(.agg [(.i .i64 y0.Page),(.i .i64 y0.Rights)]),(aB true)]))))))))
theorem z8h (a0:Kept)(a1:Int)(hc:zz2 a0 a1=true):∃N,z4r N a0 a1=some [aT .slot (zvf a0 a1),aB (zHX a0 a1)]:=by
 refine ⟨0,?_⟩;unfold z4r zvf zHX zfz znu zed oN nB
 conv=>zeta
 rw[show zbO a1 (ln a0.Known)=hasB a1 (ln a0.Known) from rfl,show zbO a1 (ln a0.Slots)=hasB a1 (ln a0.Slots) from rfl]
 cases h1:hasB a1 (ln a0.Known)
 .rfl
 .cases h2:hasB a1 (ln a0.Slots)
  .rfl
  .simp only [zbx,zy h1,zy h2,cT];cases ix a0.Known a1 false<;>rfl
theorem z2V:uY 324 zWm:=kF2 zdV zi zk zcE (zl []) z8h
def filled (k:Kept)(inner outer:List Slot)(p:Int):Kept:=bif zed k p then (cond (hasB p (ln inner)) ⟨up k.Known p true,up k.Slots p (znb (ix inner p zM) outer)⟩ k) else k
@[simp] theorem z6V {k:Kept}{inner outer:List Slot}{p:Int}(h:SmK k):SmK (filled k inner outer p):=by
 unfold filled;cases zed k p
 .exact h
 .cases hasB p (ln inner)
  .exact h
  .exact ⟨by simpa using h.1,by simpa using h.2⟩
@[simp] abbrev zNt (k:Kept)(i o:List Slot)(p:Int):Bool:=pc (SmK k)
@[simp] abbrev zRq (k:Kept)(i o:List Slot)(p:Int):Kept:=filled k i o p
def zRo:Run:=rF4 (dT .kept) (dS .slot) (dS .slot) dI fun b c d e=>(zNt b c d e,[aT .kept (zRq b c d e)])
def zY7 (N:Nat)(a0:Kept)(a1 a2:lS)(a3:Int):OA:=
 let y0:=(zdf a0); (oN (zf5 a0) (oN (zqL y0 a3) (cond (ziT y0 a3) (cond (ilt a3 (ln a1)) (oN (inb a3 (ln y0.Known)) (share (up y0.Known a3 true) (fun x5=>(oN (inb a3 (ln a1)) (oN (zk7 (ix a1 a3 zM) a2) (oN (inb a3 (ln y0.Slots)) (share (up y0.Slots a3 (zn1 (ix a1 a3 zM) a2)) (fun x6=>(some [(aT .kept (⟨x5,x6⟩:Kept))]))))))))) (some [(aT .kept y0)])) (some [(aT .kept y0)]))))
theorem z6x (a0:Kept)(a1 a2:List Slot)(a3:Int)(hc:zNt a0 a1 a2 a3=true):∃N,zY7 N a0 a1 a2 a3=some [aT .kept (zRq a0 a1 a2 a3)]:=by
 have hs:=zu.1 hc;refine ⟨0,?_⟩;unfold zY7 zRq filled oN
 conv=>zeta
 refine must (zbe ((zzR _).2 hs)) (must (zbe hs) ?_);rw[show ziT (zdf a0) a3=zed a0 a3 from rfl]
 cases hh:zed a0 a3
 .rfl
 .unfold zed at hh;obtain ⟨h1,h2⟩:=zcM.1 hh;rw[has_lt h1 (m:=ln a1)];cases h3:hasB a3 (ln a1)
  .rfl
  .simp only [cT,zdf,zy h1,zy h2,zy h3,share,zk7];rfl
theorem zZ0:uY 237 zRo:=kF4 zdV zi zk zcE (zl []) z6x
@[simp] abbrev zMP (k:Kept)(i o:List Slot)(p:Int):Bool:=pc (SmK k)
@[simp] abbrev zQg (k:Kept)(i o:List Slot)(p:Int):Kept:=filled k i o p
def zRl:Run:=rF4 (dT .kept) (dS .slot) (dS .slot) dI fun b c d e=>(zMP b c d e,[aT .kept (zQg b c d e)])
def zY3 (N:Nat)(a0:Kept)(a1 a2:lS)(a3:Int):OA:=
 let y0:=(zci a0); (oN (ze7 a0) (oN (zbx a3 (ln a0.Known)) (cond (zbO a3 (ln a0.Known)) (oN (zbx a3 (ln a0.Slots)) (cond (zbO a3 (ln a0.Slots)) (oN (zbx a3 (ln a1)) (cond (zbO a3 (ln a1)) (oN (inb a3 (ln y0.Known)) (share (up y0.Known a3 true) (fun x5=>(oN (inb a3 (ln a1)) (oN (zk4 (ix a1 a3 zM) a2) (oN (inb a3 (ln y0.Slots)) (share (up y0.Slots a3 (znN (ix a1 a3 zM) a2)) (fun x6=>(some [(aT .kept (⟨x5,x6⟩:Kept))]))))))))) (some [(aT .kept y0)]))) (some [(aT .kept y0)]))) (some [(aT .kept y0)]))))
theorem z6s (a0:Kept)(a1 a2:List Slot)(a3:Int)(hc:zMP a0 a1 a2 a3=true):∃N,zY3 N a0 a1 a2 a3=some [aT .kept (zQg a0 a1 a2 a3)]:=by
 have hs:=zu.1 hc;refine ⟨0,?_⟩;unfold zY3 zQg filled zed oN
 conv=>zeta
 refine must (zbe hs) ?_;simp only[zbO,zbx,zci,cT];cases h1:hasB a3 (ln a0.Known)
 .rfl
 .cases h2:hasB a3 (ln a0.Slots)
  .rfl
  .cases h3:hasB a3 (ln a1)
   .rfl
   .simp only [cT,zy h1,zy h2,zy h3,share,zk4];rfl
theorem zZV:uY 325 zRl:=kF4 zdV zi zk zcE (zl []) z6s
theorem zLV {α ρ:Type}(p:α->Bool)(r:α->Option ρ)(K:Unit->Option ρ):∀(l:List α) (i:Nat),goL (fun _ x (_:Unit) k=>bif p x then r x else k ()) K l i ()=match l.find? p with|some x=>r x|none=>K ()
 | [],_=>rfl
 | x :: l,i=>by
  simp only[goL];cases h:p x
  .rw [List.find?_cons_of_neg (by simp[h])]
   exact zLV p r K l (i+1)
  .rw [List.find?_cons_of_pos h];rfl
def zBC (b:List Entry)(t p:Int):Option Entry:=b.find? fun e=>bif ieq e.Tag t then ieq e.Page p else false
@[simp] abbrev zn4 (b:List Entry)(t p:Int):Bool:=true
@[simp] abbrev zn3 (b:List Entry)(t p:Int):Entry:=(zBC b t p).getD ⟨0,0,0,0⟩
@[simp] abbrev zkq (b:List Entry)(t p:Int):Bool:=(zBC b t p).isSome
def zx3:Run:=rF3 (dS .entry) dI dI fun b c d=>(zn4 b c d,[aT .entry (zn3 b c d),aB (zkq b c d)])
def zCY (N:Nat)(a0:lE)(a1 a2:Int):OA:=
 (iter (σ:=(Int×(Int×(Int×(Int×(Int×(Int×(Int×(lE×Unit))))))))) N (fun r4 s5=>let y2:=s5.2.2.2.2.2.2.2.1;let y3:=(inb s5.2.2.1 (ln y2));let y1:=(r4 (s5.1,(s5.2.1,((zB .i64 s5.2.2.1 1),(s5.2.2.2.1,(s5.2.2.2.2.1,(s5.2.2.2.2.2.1,(s5.2.2.2.2.2.2.1,(y2,())))))))));let y0:=(ix y2 s5.2.2.1 zdb); (cond (ilt s5.2.2.1 (ln y2)) (oN y3 (cond (ieq y0.Tag s5.1) (oN y3 (cond (ieq y0.Page s5.2.1) (oN y3 (some [(.agg [(.i .i64 y0.Tag),(.i .i64 y0.Page),(.i .i64 y0.Host),(.i .i64 y0.Rights)]),(aB true)])) y1)) y1)) (some [(.agg [(.i .i64 0),(.i .i64 0),(.i .i64 0),(.i .i64 0)]),(aB false)]))) (a1,(a2,(0,(0,(0,(0,(0,(a0,())))))))))
def zRR:FuncId->Nat->Option Tmpl:=zl [(234,0,{ n:=36,tm:=[(0,.sl 0 []),(1,ti),(2,ti),(6,.lp 0 0),(8,ti)],lo:=[(0,[ti,ti,ti,ti])],ro:=[(0,.entry,false)] })]
theorem zQM (a0:List Entry)(a1 a2:Int)(hb:zby big [aS .entry a0,aI a1,aI a2])(hc:zn4 a0 a1 a2=true):∃N,zCY N a0 a1 a2=some [aT .entry (zn3 a0 a1 a2),aB (zkq a0 a1 a2)]:=by
 have hl:=(len0 hb);refine zbo fun N hNN=>?_;unfold zCY oN
 conv=>zeta
 refine (zbc a0 (fun i (t:Unit)=>(a1,a2,(i:Int),0,0,0,0,a0,())) _ (fun _ (x:Entry) (_:Unit) κ=>bif (cond (ieq x.Tag a1) (ieq x.Page a2) false) then (some [AV.agg (Ty.cells .entry x),AV.one (.b true)]) else κ ()) (fun (t:Unit)=>(some [(.agg [(.i .i64 0),(.i .i64 0),(.i .i64 0),(.i .i64 0)]),(.one (.b false))])) (fun i hi t rec=>?_) (fun t rec=>?_) _ () (hNN hl)).trans ?_
 .simp only [zU hi,zK hi,zS hi,zL hi hl,cT];cases ieq a0[i].Tag a1<;>cases ieq a0[i].Page a2<;>rfl
 .simp only [zQ,cF]
 rw[zLV (fun e:Entry=>bif ieq e.Tag a1 then ieq e.Page a2 else false)]
 unfold zn3 zkq zBC;cases a0.find? (fun e:Entry=>bif ieq e.Tag a1 then ieq e.Page a2 else false)<;>rfl
theorem zIM:uY 234 zx3:=hF3 zdV zi zk zcE zRR zQM
@[simp] abbrev znO (b:List Entry)(t p:Int):Bool:=true
@[simp] abbrev zkd (b:List Entry)(t p:Int):Entry:=(zBC b t p).getD ⟨0,0,0,0⟩
@[simp] abbrev zke (b:List Entry)(t p:Int):Bool:=(zBC b t p).isSome
def zxN:Run:=rF3 (dS .entry) dI dI fun b c d=>(znO b c d,[aT .entry (zkd b c d),aB (zke b c d)])
def zCH (N:Nat)(a0:lE)(a1 a2:Int):OA:=
 (iter (σ:=(Int×(Int×(Int×(Int×(Int×(Int×(Int×(Int×(lE×Unit)))))))))) N (fun r4 s5=>let y2:=s5.2.2.2.2.2.2.2.2.1;let y1:=(r4 (s5.1,(s5.2.1,(s5.2.2.1,((zB .i64 s5.2.2.2.1 1),(s5.2.2.2.2.1,(s5.2.2.2.2.2.1,(s5.2.2.2.2.2.2.1,(s5.2.2.2.2.2.2.2.1,(y2,()))))))))));let y0:=(ix y2 s5.2.2.2.1 zdb); (cond (ilt s5.2.2.2.1 s5.2.2.1) (oN (inb s5.2.2.2.1 (ln y2)) (cond (ieq y0.Tag s5.1) (cond (ieq y0.Page s5.2.1) (some [(.agg [(.i .i64 y0.Tag),(.i .i64 y0.Page),(.i .i64 y0.Host),(.i .i64 y0.Rights)]),(aB true)]) y1) y1)) (some [(.agg [(.i .i64 0),(.i .i64 0),(.i .i64 0),(.i .i64 0)]),(aB false)]))) (a1,(a2,((ln a0),(0,(0,(0,(0,(0,(a0,()))))))))))
def zRI:FuncId->Nat->Option Tmpl:=zl [(323,0,{ n:=29,tm:=[(1,ti),(2,ti),(6,.lp 0 0),(10,.sl 0 []),(11,ti),(12,ti)],lo:=[(0,[ti,ti,ti,ti])],ro:=[(0,.entry,false)] })]
theorem zQo (a0:List Entry)(a1 a2:Int)(hb:zby big [aS .entry a0,aI a1,aI a2])(hc:znO a0 a1 a2=true):∃N,zCH N a0 a1 a2=some [aT .entry (zkd a0 a1 a2),aB (zke a0 a1 a2)]:=by
 have hl:=(len0 hb);refine zbo fun N hNN=>?_;unfold zCH oN
 conv=>zeta
 refine (zbc a0 (fun i (t:Unit)=>(a1,a2,(ln a0),(i:Int),0,0,0,0,a0,())) _ (fun _ (x:Entry) (_:Unit) κ=>bif (cond (ieq x.Tag a1) (ieq x.Page a2) false) then (some [AV.agg (Ty.cells .entry x),AV.one (.b true)]) else κ ()) (fun (t:Unit)=>(some [(.agg [(.i .i64 0),(.i .i64 0),(.i .i64 0),(.i .i64 0)]),(.one (.b false))])) (fun i hi t rec=>?_) (fun t rec=>?_) _ () (hNN hl)).trans ?_
 .simp only [zU hi,zK hi,zS hi,zL hi hl,cT];cases ieq a0[i].Tag a1<;>cases ieq a0[i].Page a2<;>rfl
 .simp only [zQ,cF]
 rw[zLV (fun e:Entry=>bif ieq e.Tag a1 then ieq e.Page a2 else false)]
 unfold zkd zke zBC;cases a0.find? (fun e:Entry=>bif ieq e.Tag a1 then ieq e.Page a2 else false)<;>rfl
theorem zIq:uY 323 zxN:=hF3 zdV zi zk zcE zRI zQo
def zwl (t p:Int)(e:Entry):Bool:=bif ine e.Tag t then true else ine e.Page p
def zcV (b:List Entry)(t p:Int):List Entry:=b.filter (zwl t p)
theorem zBE (b:List Entry)(t p:Int):(zcV b t p).length<=b.length:=List.length_filter_le _ _
@[simp] abbrev zgG (b:List Entry)(t p:Int):Bool:=pc (b.length<=1048576)
@[simp] abbrev znB (b:List Entry)(t p:Int):List Entry:=zcV b t p
def zx5:Run:=rF3 (dS .entry) dI dI fun b c d=>(zgG b c d,[aS .entry (znB b c d)])
def zC0 (N:Nat)(a0:lE)(a1 a2:Int):OA:=
 (iter (σ:=(Int×(Int×(Int×(lE×(lE×Unit)))))) N (fun r4 s5=>let y4:=s5.2.2.2.1;let y2:=(inb s5.2.2.1 (ln y4));let y0:=(ix y4 s5.2.2.1 zdb);let y3:=(ap s5.2.2.2.2.1 [y0]);let y1:=(r4 (s5.1,(s5.2.1,((zB .i64 s5.2.2.1 1),(y4,(y3,())))))); (cond (ilt s5.2.2.1 (ln y4)) (oN y2 (cond (ine y0.Tag s5.1) (oN y2 (oN (few (ln y3)) y1)) (oN y2 (cond (ine y0.Page s5.2.1) (oN y2 (oN (few (ln y3)) y1)) (r4 (s5.1,(s5.2.1,((zB .i64 s5.2.2.1 1),(y4,(s5.2.2.2.2.1,())))))))))) (some [(aS .entry s5.2.2.2.2.1)]))) (a1,(a2,(0,(a0,([],()))))))
def zRT:FuncId->Nat->Option Tmpl:=zl [(122,0,{ n:=40,tm:=[(0,.sl 0 []),(1,ti),(2,ti),(7,.sl 1 []),(8,ti)],lo:=[],ro:=[(0,.entry,false),(1,.entry,true)] })]
theorem zQO (a0:List Entry)(a1 a2:Int)(hc:zgG a0 a1 a2=true):∃N,zC0 N a0 a1 a2=some [aS .entry (znB a0 a1 a2)]:=by
 have hs:=zu.1 hc;have hl:=zb2 hs;refine zbo fun N hNN=>?_;unfold zC0 oN
 conv=>zeta
 refine (zbc a0 (fun i (t:lE)=>(a1,a2,(i:Int),a0,t,())) _ (fun _ (x:Entry) (t:List Entry) κ=>bif zwl a1 a2 x then (cond (few (ln (ap t [x]))) (κ (ap t [x])) none) else κ t) (fun (t:lE)=>(some [(.one (.s .entry t))])) (fun i hi t rec=>?_) (fun t rec=>?_) _ ([]) (hNN hl.1)).trans ?_
 .simp only [zU hi,zK hi,zS hi,zL hi hl.1,cT];unfold zwl;cases ine a0[i].Tag a1<;>cases ine a0[i].Page a2<;>rfl
 .simp only [zQ,cF]
 exact zl8 (zwl a1 a2) _ a0 0 [] (by simpa using hl.2)
theorem zIO:uY 122 zx5:=kF3 zdV zi zk zcE zRT zQO
@[simp] abbrev zgA (b:List Entry)(t p:Int):Bool:=pc (b.length<=1048576)
@[simp] abbrev zgZ (b:List Entry)(t p:Int):List Entry:=zcV b t p
def zxP:Run:=rF3 (dS .entry) dI dI fun b c d=>(zgA b c d,[aS .entry (zgZ b c d)])
def zCJ (N:Nat)(a0:lE)(a1 a2:Int):OA:=
 (iter (σ:=(Int×(Int×(Int×(Int×(lE×(lE×Unit))))))) N (fun r4 s5=>let y3:=s5.2.2.2.2.2.1;let y0:=(ix y3 s5.2.1 zdb);let y2:=(ap s5.2.2.2.2.1 [y0]);let y1:=(r4 (s5.1,((zB .i64 s5.2.1 1),(s5.2.2.1,(s5.2.2.2.1,(y2,(y3,()))))))); (cond (ilt s5.2.1 s5.1) (oN (inb s5.2.1 (ln y3)) (cond (ieq y0.Tag s5.2.2.1) (cond (nB (ieq y0.Page s5.2.2.2.1)) (oN (few (ln y2)) y1) (r4 (s5.1,((zB .i64 s5.2.1 1),(s5.2.2.1,(s5.2.2.2.1,(s5.2.2.2.2.1,(y3,())))))))) (oN (few (ln y2)) y1))) (some [(aS .entry s5.2.2.2.2.1)]))) ((ln a0),(0,(a1,(a2,([],(a0,())))))))
def zRK:FuncId->Nat->Option Tmpl:=zl [(275,0,{ n:=25,tm:=[(1,.fn 276 [0,1]),(5,.sl 0 []),(9,.sl 1 []),(10,ti),(11,ti)],lo:=[(0,[ti]),(1,[ti])],ro:=[(0,.entry,true),(1,.entry,false)] })]
theorem zQq (a0:List Entry)(a1 a2:Int)(hc:zgA a0 a1 a2=true):∃N,zCJ N a0 a1 a2=some [aS .entry (zgZ a0 a1 a2)]:=by
 have hs:=zu.1 hc;have hl:=zb2 hs;refine zbo fun N hNN=>?_;unfold zCJ oN nB
 conv=>zeta
 refine (zbc a0 (fun i (t:lE)=>((ln a0),(i:Int),a1,a2,t,a0,())) _ (fun _ (x:Entry) (t:List Entry) κ=>bif zwl a1 a2 x then (cond (few (ln (ap t [x]))) (κ (ap t [x])) none) else κ t) (fun (t:lE)=>(some [(.one (.s .entry t))])) (fun i hi t rec=>?_) (fun t rec=>?_) _ ([]) (hNN hl.1)).trans ?_
 .simp only [zU hi,zK hi,zS hi,zL hi hl.1,cT];unfold zwl;simp only[zh0];cases ieq a0[i].Tag a1<;>cases ieq a0[i].Page a2<;>rfl
 .simp only [zQ,cF]
 exact zl8 (zwl a1 a2) _ a0 0 [] (by simpa using hl.2)
theorem zIs:uY 166 zxP:=kF3 zdV zi zk zcE zRK zQq
def zbbL:zY:=[(219,zDS),(252,zDl),(123,zLh),(167,zKZ),(236,zWp),(324,zWm),(237,zRo),(325,zRl),(234,zx3),(323,zxN),(122,zx5),(166,zxP)]++zZw
theorem zvF:zJ zbbL:=zf zPX (zf zPq (zf zW4 (zf zWM (zf z2Y (zf z2V (zf zZ0 (zf zZV (zf zIM (zf zIq (zf zIO (zf zIs zdV)))))))))))
def zGi (b:List Entry)(e:Entry):List Entry:=bif igt (ln (ap (zcV b e.Tag e.Page) [e])) 6 then dp (ap (zcV b e.Tag e.Page) [e]) (wsub .i64 (ln (ap (zcV b e.Tag e.Page) [e])) 6) else ap (zcV b e.Tag e.Page) [e]
theorem zCd {b:List Entry}(e:Entry)(h:b.length<=1048576):(zGi b e).length<=1048576/\(ap (zcV b e.Tag e.Page) [e]).length<=1048577:=by
 have h1:=zBE b e.Tag e.Page;have h2:(ap (zcV b e.Tag e.Page) [e]).length<=1048577:=by simp[ap];omega
 refine ⟨?_,h2⟩;unfold zGi;cases h3:igt (ln (ap (zcV b e.Tag e.Page) [e])) 6
 .have h3:=qW h3;simp only[ln]at h3;simp only[cF];omega
 .simp only [cT,dp,List.length_drop];have h3:=qD h3;have:wsub .i64 (ln (ap (zcV b e.Tag e.Page) [e])) 6=ln (ap (zcV b e.Tag e.Page) [e])-6:=zrL (by simp only[ln] at *;omega) (by simp only[ln] at *;omega)
  rw[this];simp only[ln] at *;omega
@[simp] abbrev zqF (b:List Entry)(e:Entry):Bool:=pc (b.length<=1048576)
@[simp] abbrev zqE (b:List Entry)(e:Entry):List Entry:=zGi b e
def zAX:Run:=rF2 (dS .entry) (dT .entry) fun b c=>(zqF b c,[aS .entry (zqE b c)])
def zFg (N:Nat)(a0:lE)(a1:Entry):OA:=
 let y0:=(ap (znB a0 a1.Tag a1.Page) [a1]);let y1:=(wsub .i64 (ln y0) 6); (oN (zgG a0 a1.Tag a1.Page) (oN (few (ln y0)) (cond (igt (ln y0) 6) (oN (inr y1 (ln y0) (ln y0)) (oN (few (ln (ap [] (dp y0 y1)))) (some [(aS .entry (ap [] (dp y0 y1)))]))) (some [(aS .entry y0)]))))
theorem zUj (a0:List Entry)(a1:Entry)(hc:zqF a0 a1=true):∃N,zFg N a0 a1=some [aS .entry (zqE a0 a1)]:=by
 have hs:=zu.1 hc;obtain ⟨h1,h2⟩:=zCd a1 hs;refine ⟨0,?_⟩;unfold zFg oN
 conv=>zeta
 refine must (zbe hs) (must (zdK (jD h2 (by decide:1048577<=2147483648))) ?_)
 unfold zqE zGi at *
 show _=some [AV.one (.s .entry (cond (igt (ln (ap (zcV a0 a1.Tag a1.Page) [a1])) 6) (dp (ap (zcV a0 a1.Tag a1.Page) [a1]) (wsub .i64 (ln (ap (zcV a0 a1.Tag a1.Page) [a1])) 6)) (ap (zcV a0 a1.Tag a1.Page) [a1])))]
 cases h3:igt (ln (ap (zcV a0 a1.Tag a1.Page) [a1])) 6
 .rfl
 .rw [h3]at h1;simp only[cT]at h1;have h3:=qD h3;have e:wsub .i64 (ln (ap (zcV a0 a1.Tag a1.Page) [a1])) 6=ln (ap (zcV a0 a1.Tag a1.Page) [a1])-6:=zrL (by simp only[ln] at *;omega) (by simp only[ln] at *;omega)
  refine must rfl (must (qL ?_) (must ?_ ?_))
  .show 0<=wsub .i64 (ln (ap (zcV a0 a1.Tag a1.Page) [a1])) 6/\wsub .i64 (ln (ap (zcV a0 a1.Tag a1.Page) [a1])) 6<=ln (ap (zcV a0 a1.Tag a1.Page) [a1])/\ln (ap (zcV a0 a1.Tag a1.Page) [a1])<=ln (ap (zcV a0 a1.Tag a1.Page) [a1])
   rw[e];simp only[ln] at *;omega
  .exact zoO h1
  .rw [zna];rfl
theorem zMG:uY 238 zAX:=kF2 zvF zi zk zcE (zl []) zUj
@[simp] abbrev zpG (b:List Entry)(e:Entry):Bool:=pc (b.length<=1048576)
@[simp] abbrev zpF (b:List Entry)(e:Entry):List Entry:=zGi b e
def zAv:Run:=rF2 (dS .entry) (dT .entry) fun b c=>(zpG b c,[aS .entry (zpF b c)])
def zEK (N:Nat)(a0:lE)(a1:Entry):OA:=
 let y0:=(ap (zgZ a0 a1.Tag a1.Page) [a1]);let y1:=(imax 0 (wsub .i64 (ln y0) 6)); (oN (zgA a0 a1.Tag a1.Page) (oN (few (ln y0)) (oN (inr y1 (ln y0) (ln y0)) (some [(aS .entry (dp y0 y1))]))))
theorem zTJ (a0:List Entry)(a1:Entry)(hc:zpG a0 a1=true):∃N,zEK N a0 a1=some [aS .entry (zpF a0 a1)]:=by
 have hs:=zu.1 hc;obtain ⟨_,h2⟩:=zCd a1 hs;refine ⟨0,?_⟩;unfold zEK zpF zGi oN
 conv=>zeta
 simp only[zgZ];generalize ap (zcV a0 a1.Tag a1.Page) [a1]=l at h2 ⊢;refine must (zbe hs) (must (zdK (jD h2 (by decide:1048577<=2147483648))) ?_)
 have e:wsub .i64 (ln l) 6=ln l-6:=zrL (by simp only[ln] at *;omega) (by simp only[ln] at *;omega)
 rw[e];cases h3:igt (ln l) 6
 .have h3:=qW h3;have e2:imax 0 (ln l-6)=0:=by
   unfold imax;rw[if_neg (by omega)]
  rw[e2];exact must (qL (by simp only[ln];omega)) (by simp[dp])
 .have h3:=qD h3;have e2:imax 0 (ln l-6)=ln l-6:=by
   unfold imax;rw[if_pos (by omega)]
  rw[e2];exact must (qL (by simp only[ln] at *;omega)) rfl
theorem zL9:uY 326 zAv:=kF2 zvF zi zk zcE (zl []) zTJ
def zBD (l:List Slot)(p:Int):Option Nat:=l.findIdx? fun s=>ieq s.Page p
def znY (p:Int):List Mon->Nat->Int×Int
 | [],_=>(-1,-1)
 | m :: l,i=>match zBD m.Outer p with|some k=>((i:Int),(k:Int))|none=>znY p l (i+1)
def zdv (h:Host)(p:Int):Int×Int:=bif ilt p 0 then (-1,-1) else znY p h.Mons 0
theorem zV2 {ρ:Type}(p:Slot->Bool)(r:Nat->Option ρ)(K:Unit->Option ρ):∀(l:List Slot) (i:Nat),goL (fun j x (_:Unit) k=>bif p x then r j else k ()) K l i ()=match l.findIdx? p with|some k=>r (i+k)|none=>K ()
 | [],_=>rfl
 | x :: l,i=>by
  simp only[goL];rw[List.findIdx?_cons];cases h:p x
  .simp only [cF,kO,if_false];rw[zV2 p r K l (i+1)];cases l.findIdx? p with
   | none=>rfl
   | some k=>simp only[Option.map_some];congr 1;omega
  .rfl
theorem zR8 {ρ:Type}(p:Int)(r:Int->Int->Option ρ):∀(l:List Mon) (i:Nat),goL (fun i (x:Mon) (_:Unit) κ=>goL (fun j (y:Slot) (_:Unit) κ₁=>bif ieq y.Page p then r (i:Int) (j:Int) else κ₁ ()) (fun _=>κ ()) x.Outer 0 ()) (fun _=>r (-1) (-1)) l i ()=r (znY p l i).1 (znY p l i).2
 | [],_=>rfl
 | m :: l,i=>by
  simp only[goL,znY];rw[zV2 (fun s=>ieq s.Page p) (fun j=>r (i:Int) (j:Int))];unfold zBD;cases m.Outer.findIdx? (fun s=>ieq s.Page p) with
  | none=>exact zR8 p r l (i+1)
  | some k=>simp only[j9]
@[simp] abbrev zk5 (h:Host)(p:Int):Bool:=true
@[simp] abbrev zgu (h:Host)(p:Int):Int:=(zdv h p).1
@[simp] abbrev zih (h:Host)(p:Int):Int:=(zdv h p).2
def zuf:Run:=rF2 dH dI fun b c=>(zk5 b c,[aI (zgu b c),aI (zih b c)])
def zw2 (N:Nat)(a0:Host)(a1:Int):OA:=
 (cond (ilt a1 0) (some [(aI (-1)),(aI (-1))]) (iter (σ:=(Int×(Int×(Int×(lN×Unit))))) N (fun r3 s4=>let y3:=s4.2.2.1; (cond (ilt y3 s4.2.1) (oN (inb y3 (ln s4.2.2.2.1)) (iter (σ:=(Int×(Int×(Int×(Int×(Int×(Int×(Int×(lN×Unit))))))))) N (fun r5 s6=>let y2:=s6.2.2.2.2.2.2.2.1;let y1:=(ix y2 s6.2.2.2.2.1 zh).Outer;let y0:=s6.2.2.2.2.2.2.1; (cond (ilt y0 s6.2.2.2.2.2.1) (oN (inb y0 (ln y1)) (cond (ieq (ix y1 y0 zM).Page s6.1) (some [(aI s6.2.1),(aI y0)]) (r5 (s6.1,(s6.2.1,(s6.2.2.1,(s6.2.2.2.1,(s6.2.2.2.2.1,(s6.2.2.2.2.2.1,((zB .i64 y0 1),(y2,()))))))))))) (r3 (s6.1,(s6.2.2.1,((zB .i64 s6.2.2.2.1 1),(y2,()))))))) (s4.1,(y3,(s4.2.1,(y3,(y3,((ln (ix s4.2.2.2.1 y3 zh).Outer),(0,(s4.2.2.2.1,())))))))))) (some [(aI (-1)),(aI (-1))]))) (a1,((ln a0.Mons),(0,(a0.Mons,()))))))
def zJn:FuncId->Nat->Option Tmpl:=zl [(331,0,{ n:=36,tm:=[(1,ti),(13,.sl 0 []),(14,ti),(15,ti)],lo:=[],ro:=[(0,.mon,false)] }),(331,2,{ n:=36,tm:=[(1,ti),(6,ti),(13,.sl 0 []),(14,ti),(15,ti),(21,.sl 0 [0]),(22,ti),(23,ti)],lo:=[],ro:=[(0,.mon,false)] })]
theorem zI3 (a0:Host)(a1:Int)(hb:zby big [aH a0,aI a1])(hc:zk5 a0 a1=true):∃N,zw2 N a0 a1=some [aI (zgu a0 a1),aI (zih a0 a1)]:=by
 have hm:CVB big (.s .mon a0.Mons):=(zcz hb).1 _ (by simp[AV.cvs,zW])
 have hl:=hm.len;refine zbo fun N hNN=>?_;unfold zw2 zgu zih zdv oN
 conv=>zeta
 cases h0:ilt a1 0
 .simp only [cF];refine (zbc a0.Mons (fun i (t:Unit)=>(a1,(ln a0.Mons),(i:Int),a0.Mons,())) _ (fun i (x:Mon) (_:Unit) κ=>goL (fun j (y:Slot) (_:Unit) κ₁=>bif ieq y.Page a1 then some [AV.one (.i .i64 (i:Int)),AV.one (.i .i64 (j:Int))] else κ₁ ()) (fun _=>κ ()) x.Outer 0 ()) (fun (t:Unit)=>(some [(.one (.i .i64 (-1))),(.one (.i .i64 (-1)))])) (fun i hi t rec=>?_) (fun t rec=>?_) _ () (hNN hl)).trans ?_
  .simp only [zU hi,zK hi,zS hi,zL hi hl,cT];have ho:a0.Mons[i].Outer.length<=big:=(hm.inv.2 _ (jE hi) (.s .slot _) (by simp[Ty.cells])).len
   refine (zbc a0.Mons[i].Outer (fun j (u:Unit)=>(a1,(i:Int),(ln a0.Mons),(i:Int),(i:Int),(ln a0.Mons[i].Outer),(j:Int),a0.Mons,())) _ (fun j (y:Slot) (_:Unit) κ₁=>bif ieq y.Page a1 then some [AV.one (.i .i64 (i:Int)),AV.one (.i .i64 (j:Int))] else κ₁ ()) (fun (u:Unit)=>(rec (a1,((ln a0.Mons),((((i+1:Nat)):Int),(a0.Mons,())))))) (fun j hj u rec1=>?_) (fun u rec1=>?_) _ () (hNN ho)).trans ?_
   .simp only [zU hj,zK hj,zS hj,zL hj ho,cT,zK hi,zS hi,zL hi hl]
   .simp only [zQ,cF,zK hi,zS hi,zL hi hl]
   rfl
  .simp only [zQ,cF]
  exact zR8 a1 (fun i j=>some [AV.one (.i .i64 i),AV.one (.i .i64 j)]) a0.Mons 0
 .rfl
theorem zEj:uY 331 zuf:=hF2 zvF zi zk zcE zJn zI3
theorem z7Y {α τ ρ:Type}(r:Option ρ):∀(l:List α) (i:Nat) (t:τ),goL (fun _ _ _ _=>r) (fun _=>r) l i t=r
 | [],_,_=>rfl
 | _ :: _,_,_=>rfl
@[simp] abbrev zk8 (h:Host)(p:Int):Bool:=true
@[simp] abbrev zgx (h:Host)(p:Int):Int:=(zdv h p).1
@[simp] abbrev ziu (h:Host)(p:Int):Int:=(zdv h p).2
def zui:Run:=rF2 dH dI fun b c=>(zk8 b c,[aI (zgx b c),aI (ziu b c)])
def zxd (N:Nat)(a0:Host)(a1:Int):OA:=
 (iter (σ:=(Int×(Int×(lM×(lN×(lE×(lE×Unit))))))) N (fun r3 s4=>(cond (ilt s4.2.1 (ln s4.2.2.2.1)) (cond (ige s4.1 0) (iter (σ:=(Int×(Int×(Int×(lM×(lN×(lE×(lE×Unit)))))))) N (fun r5 s6=>let y1:=s6.2.2.2.2.1;let y0:=(ix y1 s6.2.1 zh).Outer; (oN (inb s6.2.1 (ln y1)) (cond (ilt s6.2.2.1 (ln y0)) (oN (inb s6.2.1 (ln y1)) (oN (inb s6.2.2.1 (ln y0)) (cond (ieq (ix y0 s6.2.2.1 zM).Page s6.1) (some [(aI s6.2.1),(aI s6.2.2.1)]) (r5 (s6.1,(s6.2.1,((zB .i64 s6.2.2.1 1),(s6.2.2.2.1,(y1,(s6.2.2.2.2.2.1,(s6.2.2.2.2.2.2.1,()))))))))))) (r3 (s6.1,((zB .i64 s6.2.1 1),(s6.2.2.2.1,(y1,(s6.2.2.2.2.2.1,(s6.2.2.2.2.2.2.1,())))))))))) (s4.1,(s4.2.1,(0,(s4.2.2.1,(s4.2.2.2.1,(s4.2.2.2.2.1,(s4.2.2.2.2.2.1,())))))))) (some [(aI (-1)),(aI (-1))])) (some [(aI (-1)),(aI (-1))]))) (a1,(0,(a0.Memory,(a0.Mons,(a0.Buffer,(a0.IoBuffer,())))))))
def zJo:FuncId->Nat->Option Tmpl:=zl [(300,0,{ n:=44,tm:=[(1,ti),(2,.lp 0 0),(6,ti)],lo:=[(0,[.sl 0 [],.sl 1 [],.sl 2 [],.sl 3 []])],ro:=[(0,(.sl .int),false),(1,.mon,false),(2,.entry,false),(3,.entry,false)] }),(300,2,{ n:=44,tm:=[(1,ti),(2,.lp 0 0),(6,ti),(7,ti)],lo:=[(0,[.sl 0 [],.sl 1 [],.sl 2 [],.sl 3 []])],ro:=[(0,(.sl .int),false),(1,.mon,false),(2,.entry,false),(3,.entry,false)] })]
theorem zJe (a0:Host)(a1:Int)(hb:zby big [aH a0,aI a1])(hc:zk8 a0 a1=true):∃N,zxd N a0 a1=some [aI (zgx a0 a1),aI (ziu a0 a1)]:=by
 have hm:CVB big (.s .mon a0.Mons):=(zcz hb).1 _ (by simp[AV.cvs,zW])
 have hl:=hm.len;refine zbo fun N hNN=>?_;unfold zxd zgx ziu zdv oN
 conv=>zeta
 refine (zbc a0.Mons (fun i (t:Unit)=>(a1,(i:Int),a0.Memory,a0.Mons,a0.Buffer,a0.IoBuffer,())) _ (fun i (x:Mon) (_:Unit) κ=>bif ige a1 0 then goL (fun j (y:Slot) (_:Unit) κ₁=>bif ieq y.Page a1 then some [AV.one (.i .i64 (i:Int)),AV.one (.i .i64 (j:Int))] else κ₁ ()) (fun _=>κ ()) x.Outer 0 () else some [AV.one (.i .i64 (-1)),AV.one (.i .i64 (-1))]) (fun (t:Unit)=>(some [(.one (.i .i64 (-1))),(.one (.i .i64 (-1)))])) (fun i hi t rec=>?_) (fun t rec=>?_) _ () (hNN hl)).trans ?_
 .simp only [zU hi,zK hi,zS hi,zL hi hl,cT];cases h0:ige a1 0
  .rfl
  have ho:a0.Mons[i].Outer.length<=big:=(hm.inv.2 _ (jE hi) (.s .slot _) (by simp[Ty.cells])).len
  simp only[cT];refine (zbc a0.Mons[i].Outer (fun j (_:Unit)=>(a1,((i:Int),((j:Int),(a0.Memory,(a0.Mons,(a0.Buffer,(a0.IoBuffer,())))))))) _ (fun j (y:Slot) (_:Unit) κ₁=>bif ieq y.Page a1 then some [AV.one (.i .i64 (i:Int)),AV.one (.i .i64 (j:Int))] else κ₁ ()) (fun _=>rec (a1,(((i+1:Nat):Int),(a0.Memory,(a0.Mons,(a0.Buffer,(a0.IoBuffer,()))))))) (fun j hj u rec1=>?_) (fun u rec1=>?_) _ () (hNN ho)).trans ?_
  .simp only [zU hj,zK hj,zS hj,zL hj ho,cT,zK hi,zS hi]
  .simp only [zQ,cF,cT,zK hi,zS hi,zL hi hl]
  rfl
 .simp only [zQ,cF]
 cases h0:ige a1 0
 .have h1:ilt a1 0=true:=by
   have:=qW h0;exact qL (by omega)
  rw[h1];exact z7Y _ _ _ _
 .have h1:ilt a1 0=false:=by
   have:=qD h0;exact qH (by omega)
  rw[h1];exact zR8 a1 (fun i j=>some [AV.one (.i .i64 i),AV.one (.i .i64 j)]) a0.Mons 0
theorem zEt:uY 300 zui:=hF2 zvF zi zk zcE zJo zJe
def zbbM:zY:=[(238,zAX),(326,zAv),(300,zui),(331,zuf)]++zbbL
theorem zvG:zJ zbbM:=zf zMG (zf zL9 (zf zEt (zf zEj zvF)))
def zcF (h:Host):List Int:=zMR (fun i=>ilt (zdv h (i:Int)).1 0) h.Memory.length 0
@[simp] abbrev zmK (h:Host):Bool:=pc (h.Memory.length<=1048576)
@[simp] abbrev zfe (h:Host):List Int:=zcF h
def zG7:Run:=rF1 dH fun b=>(zmK b,[aS .int (zfe b)])
def zOs (N:Nat)(a0:Host):OA:=
 (iter (σ:=(Int×((List Int)×(lM×(lN×(lE×(lE×Unit))))))) N (fun r2 s3=>let y0:=(⟨s3.2.2.1,s3.2.2.2.1,s3.2.2.2.2.1,s3.2.2.2.2.2.1⟩:Host); (cond (ilt s3.1 (ln s3.2.2.1)) (oN (zk8 y0 s3.1) (cond (ilt (zgx y0 s3.1) 0) (oN (few (ln (ap s3.2.1 [s3.1]))) (r2 ((zB .i64 s3.1 1),((ap s3.2.1 [s3.1]),(s3.2.2.1,(s3.2.2.2.1,(s3.2.2.2.2.1,(s3.2.2.2.2.2.1,())))))))) (r2 ((zB .i64 s3.1 1),(s3.2.1,(s3.2.2.1,(s3.2.2.2.1,(s3.2.2.2.2.1,(s3.2.2.2.2.2.1,()))))))))) (some [(aS .int s3.2.1)]))) (0,([],(a0.Memory,(a0.Mons,(a0.Buffer,(a0.IoBuffer,())))))))
def z2q:FuncId->Nat->Option Tmpl:=zl [(299,0,{ n:=28,tm:=[(1,.lp 0 0),(3,.sl 0 []),(4,ti)],lo:=[(0,[.sl 1 [],.sl 2 [],.sl 3 [],.sl 4 []])],ro:=[(0,.int,true),(1,(.sl .int),false),(2,.mon,false),(3,.entry,false),(4,.entry,false)] })]
theorem z0Y (a0:Host)(hc:zmK a0=true):∃N,zOs N a0=some [aS .int (zfe a0)]:=by
 have hs:=zu.1 hc;have hl:=zb2 hs;refine zbo fun N hNN=>?_;unfold zOs oN
 conv=>zeta
 refine (zbc a0.Memory (fun i (t:(List Int))=>((i:Int),t,a0.Memory,a0.Mons,a0.Buffer,a0.IoBuffer,())) _ (fun i (_:List Int) (t:List Int) κ=>bif ilt (zdv a0 (i:Int)).1 0 then (cond (few (ln (ap t [(i:Int)]))) (κ (ap t [(i:Int)])) none) else κ t) (fun (t:(List Int))=>(some [(.one (.s .int t))])) (fun i hi t rec=>?_) (fun t rec=>?_) _ ([]) (hNN hl.1)).trans ?_
 .simp only [zU hi,zK hi,zS hi,zL hi hl.1,cT]
 .simp only [zQ,cF]
 rw[zzW (fun i (t:List Int) κ=>bif ilt (zdv a0 (i:Int)).1 0 then (cond (few (ln (ap t [(i:Int)]))) (κ (ap t [(i:Int)])) none) else κ t)]
 exact zBK (fun i=>ilt (zdv a0 (i:Int)).1 0) _ _ 0 [] (by simpa using hl.2)
theorem zS2:uY 299 zG7:=kF1 zvG zi zk zcE z2q z0Y
@[simp] abbrev zme (h:Host):Bool:=pc (h.Memory.length<=1048576)
@[simp] abbrev zfI (h:Host):List Int:=zcF h
def zGr:Run:=rF1 dH fun b=>(zme b,[aS .int (zfI b)])
def zNM (N:Nat)(a0:Host):OA:=
 (iter (σ:=(Int×(Int×((List Int)×(lM×(lN×(lE×(lE×Unit)))))))) N (fun r2 s3=>let y1:=s3.2.2.2.2.2.2.1;let y0:=(⟨s3.2.2.2.1,s3.2.2.2.2.1,s3.2.2.2.2.2.1,y1⟩:Host); (cond (ilt s3.2.1 s3.1) (oN (zk5 y0 s3.2.1) (cond (ilt (zgu y0 s3.2.1) 0) (oN (few (ln (ap s3.2.2.1 [s3.2.1]))) (r2 (s3.1,((zB .i64 s3.2.1 1),((ap s3.2.2.1 [s3.2.1]),(s3.2.2.2.1,(s3.2.2.2.2.1,(s3.2.2.2.2.2.1,(y1,()))))))))) (r2 (s3.1,((zB .i64 s3.2.1 1),(s3.2.2.1,(s3.2.2.2.1,(s3.2.2.2.2.1,(s3.2.2.2.2.2.1,(y1,())))))))))) (some [(aS .int s3.2.2.1)]))) ((ln a0.Memory),(0,([],(a0.Memory,(a0.Mons,(a0.Buffer,(a0.IoBuffer,()))))))))
def z18:FuncId->Nat->Option Tmpl:=zl [(288,0,{ n:=28,tm:=[(1,.lp 0 0),(3,.sl 0 []),(10,ti),(11,ti)],lo:=[(0,[.sl 1 [],.sl 2 [],.sl 3 [],.sl 4 []])],ro:=[(0,.int,true),(1,(.sl .int),false),(2,.mon,false),(3,.entry,false),(4,.entry,false)] })]
theorem z0g (a0:Host)(hc:zme a0=true):∃N,zNM N a0=some [aS .int (zfI a0)]:=by
 have hs:=zu.1 hc;have hl:=zb2 hs;refine zbo fun N hNN=>?_;unfold zNM oN
 conv=>zeta
 refine (zbc a0.Memory (fun i (t:(List Int))=>((ln a0.Memory),(i:Int),t,a0.Memory,a0.Mons,a0.Buffer,a0.IoBuffer,())) _ (fun i (_:List Int) (t:List Int) κ=>bif ilt (zdv a0 (i:Int)).1 0 then (cond (few (ln (ap t [(i:Int)]))) (κ (ap t [(i:Int)])) none) else κ t) (fun (t:(List Int))=>(some [(.one (.s .int t))])) (fun i hi t rec=>?_) (fun t rec=>?_) _ ([]) (hNN hl.1)).trans ?_
 .simp only [zU hi,zK hi,zS hi,zL hi hl.1,cT]
 .simp only [zQ,cF]
 rw[zzW (fun i (t:List Int) κ=>bif ilt (zdv a0 (i:Int)).1 0 then (cond (few (ln (ap t [(i:Int)]))) (κ (ap t [(i:Int)])) none) else κ t)]
 exact zBK (fun i=>ilt (zdv a0 (i:Int)).1 0) _ _ 0 [] (by simpa using hl.2)
theorem zSm:uY 288 zGr:=kF1 zvG zi zk zcE z18 z0g
def zj8 (m:List (List Int))(p:Int)(c:List Int):List (List Int):=bif hasB p (ln m) then (cond (zcZ c) (up m p c) m) else m
@[simp] abbrev zlU (m:List (List Int))(p:Int)(c:List Int):Bool:=pc (SmM m/\c.length<=1048576)
@[simp] abbrev zj6 (m:List (List Int))(p:Int)(c:List Int):List (List Int):=zj8 m p c
def zA2:Run:=rF3 (dS (.sl .int)) dI (dS .int) fun b c d=>(zlU b c d,[aS (.sl .int) (zj6 b c d)])
def zFk (N:Nat)(a0:lM)(a1:Int)(a2:List Int):OA:=
 (oN (zf4 a0) (oN (zO a1 0 (wsub .i64 (ln a0) 1)) (cond (zT a1 0 (wsub .i64 (ln a0) 1)) (oN (zf3 a2) (cond (zfi a2) (oN (few (ln (ap [] a2))) (oN (inb a1 (ln (zeo a0))) (share (up (zeo a0) a1 (ap [] a2)) (fun x4=>(some [(aS (.sl .int) x4)]))))) (some [(aS (.sl .int) (zeo a0))]))) (some [(aS (.sl .int) (zeo a0))]))))
theorem zUp (a0:List (List Int))(a1:Int)(a2:List Int)(hc:zlU a0 a1 a2=true):∃N,zFk N a0 a1 a2=some [aS (.sl .int) (zj6 a0 a1 a2)]:=by
 obtain ⟨hs,hs2⟩:=zu.1 hc;refine ⟨0,?_⟩;unfold zFk zj6 zj8 oN;refine must (zbe ((zq0 _).2 hs)) (must rfl ?_);rw[show zT a1 0 (wsub .i64 (ln a0) 1)=hasB a1 (ln a0) from zrK hs.1 a1]
 cases h1:hasB a1 (ln a0)
 .rfl
 .simp only [cT,zf3,zfi];cases h2:zcZ a2
  .rfl
  .refine must rfl (must (zoO hs2) (must (zy h1) ?_));rw[zna];rfl
theorem zML:uY 301 zA2:=kF3 zvG zi zk zcE (zl []) zUp
@[simp] abbrev zlB (m:List (List Int))(p:Int)(c:List Int):Bool:=pc (SmM m/\c.length<=1048576)
@[simp] abbrev zjV (m:List (List Int))(p:Int)(c:List Int):List (List Int):=zj8 m p c
def zAA:Run:=rF3 (dS (.sl .int)) dI (dS .int) fun b c d=>(zlB b c d,[aS (.sl .int) (zjV b c d)])
def zEO (N:Nat)(a0:lM)(a1:Int)(a2:List Int):OA:=
 (oN (zfY a0) (oN (zbx a1 (ln a0)) (cond (zbO a1 (ln a0)) (oN (zii a2) (cond (zgB a2) (oN (zdo a2) (oN (inb a1 (ln (zde a0))) (share (up (zde a0) a1 (zdi a2)) (fun x4=>(some [(aS (.sl .int) x4)]))))) (some [(aS (.sl .int) (zde a0))]))) (some [(aS (.sl .int) (zde a0))]))))
theorem zTO (a0:List (List Int))(a1:Int)(a2:List Int)(hc:zlB a0 a1 a2=true):∃N,zEO N a0 a1 a2=some [aS (.sl .int) (zjV a0 a1 a2)]:=by
 obtain ⟨hs,hs2⟩:=zu.1 hc;refine ⟨0,?_⟩;unfold zEO zjV zj8 oN;refine must (zbe hs) (must rfl ?_);rw[show zbO a1 (ln a0)=hasB a1 (ln a0) from rfl]
 cases h1:hasB a1 (ln a0)
 .rfl
 .simp only [cT,zii,zgB];cases h2:zcZ a2
  .rfl
  .refine must rfl (must (zbe (jD hs2 (by decide))) (must (zy h1) rfl))
theorem zMe:uY 290 zAA:=kF3 zvG zi zk zcE (zl []) zTO
def zrS:zY:=[(299,zG7),(288,zGr),(301,zA2),(290,zAA)]++zbbM
theorem zhw:zJ zrS:=zf zS2 (zf zSm (zf zML (zf zMe zvG)))
abbrev mZ:Mon:=Ty.dflt .mon
abbrev sZ:Slot:=Ty.dflt .slot
def ShM (x:Mon):Prop:=x.Outer.length=8/\x.Out.length=8/\x.Dirty.length=8/\x.Tables.length=x.Guests.length
def Shape (h:Host):Prop:=SmH h/\∀x∈h.Mons,ShM x
theorem zfS {h:Host}{m:Int}{x:Mon}(hs:Shape h)(h1:zd6 x)(h2:ShM x):Shape { h with Mons:=up h.Mons m x }:=by
 refine ⟨⟨hs.1.1,ziw hs.1.2.1 h1,hs.1.2.2⟩,fun y hy=>?_⟩;rcases jT hy with hy|rfl
 .exact hs.2 y hy
 .exact h2
theorem zbY {h:Host}(hs:Shape h){m:Int}(hm:hasB m (ln h.Mons)=true):zd6 (ix h.Mons m mZ)/\ShM (ix h.Mons m mZ):=⟨hs.1.2.1.2 _ (zbw hm _),hs.2 _ (zbw hm _)⟩
theorem zWs {h:Host}{mm:List (List Int)}(hs:Shape h)(h1:SmM mm):Shape { h with Memory:=mm }:=⟨⟨h1,hs.1.2⟩,hs.2⟩
theorem zn8 {h:Host}{m p:Int}{s:Slot}(hm:hasB m (ln h.Mons)=true)(hs:Shape h):Shape (zdO h m p s):=by
 refine ⟨zLq hm hs.1,?_⟩;obtain ⟨_,h2⟩:=zbY hs hm;have key:∀y∈up h.Mons m { ziW (ix h.Mons m mZ) p (ix h.Mons m mZ).Tables.length with Outer:=up (ix h.Mons m mZ).Outer p s },ShM y:=by
  intro y hy;rcases jT hy with hy|rfl
  .exact hs.2 y hy
  .exact ⟨by simpa using h2.1,h2.2.1,h2.2.2.1,by simpa [ziW,zoK] using h2.2.2.2⟩
 unfold zdO;cases ine (ix (ix h.Mons m mZ).Outer p sZ).Page (-1)<;>exact key
theorem zfb (h:Host)(m p:Int)(s:Slot):(zdO h m p s).Mons=up h.Mons m { ziW (ix h.Mons m mZ) p (ix h.Mons m mZ).Tables.length with Outer:=up (ix h.Mons m mZ).Outer p s }/\(zdO h m p s).Memory=h.Memory:=by
 unfold zdO;cases ine (ix (ix h.Mons m mZ).Outer p sZ).Page (-1)<;>exact ⟨rfl,rfl⟩
theorem zei {h:Host}{m k:Int}{x:Mon}(hm:hasB m (ln h.Mons)=true):hasB m (ln (up h.Mons k x))=true:=by simpa [ln] using hm
theorem zKD {h:Host}{m k p:Int}{s:Slot}(hm:hasB m (ln h.Mons)=true):hasB m (ln (zdO h k p s).Mons)=true:=by
 rw[(zfb h k p s).1];exact zei hm
theorem zda {α:Type}{l:List α}{p:Int}(h:l.length=8)(hp:hasB p 8=true):hasB p (ln l)=true:=by rw[ln,h];exact hp
def zBY (h:Host)(m p:Int)(s:Slot):Host :=
 bif ine s.Page (-1) then ⟨h.Memory,up h.Mons m (ziW (ix h.Mons m mZ) p (ix h.Mons m mZ).Guests.length),flushed h.Buffer s.Page,flushed h.IoBuffer s.Page⟩
 else ⟨h.Memory,up h.Mons m (ziW (ix h.Mons m mZ) p (ix h.Mons m mZ).Guests.length),h.Buffer,h.IoBuffer⟩
theorem zCs {h:Host}{k:Nat}{p:Int}{s:Slot}(hk:k<h.Mons.length)(ht:(ix h.Mons (k:Int) mZ).Tables.length=(ix h.Mons (k:Int) mZ).Guests.length) :
 zBY { h with Mons:=up h.Mons (k:Int) { ix h.Mons (k:Int) mZ with Outer:=up (ix h.Mons (k:Int) mZ).Outer p s } } (k:Int) p (ix (ix h.Mons (k:Int) mZ).Outer p sZ)=zdO h (k:Int) p s:=by
 unfold zdO zBY;simp only[zcT hk,zqP,ziW,ht]
def z6j {ρ:Type}(m p:Int)(i:Nat)(t:List Mon)(κ:List Mon->Option ρ):Option ρ :=
 (cond (inb (i:Int) (ln (ix t m mZ).Tables)) (cond (inb (i:Int) (ln (ix t m mZ).Guests)) (cond (pc (SmK (ix (ix t m mZ).Tables (i:Int) zcu)/\(ix (ix t m mZ).Guests (i:Int) zo).Live.length<=1048576)) (cond (inb (i:Int) (ln (ix t m mZ).Tables)) (κ (up t m ({ (ix t m mZ) with Tables:=(up (ix t m mZ).Tables (i:Int) (zpg (ix (ix t m mZ).Tables (i:Int) zcu) (ix (ix t m mZ).Guests (i:Int) zo).Live p)) }:Mon))) none) none) none) none)
theorem z4M {ρ:Type}{mons:List Mon}{k:Nat}(hk:k<mons.length)(p:Int)(hm:zd6 (ix mons (k:Int) mZ))(ht:(ix mons (k:Int) mZ).Tables.length=(ix mons (k:Int) mZ).Guests.length)(K:List Mon->Option ρ) :
 ∀(n i:Nat),i+n=(ix mons (k:Int) mZ).Guests.length->goN (fun i t κ=>z6j (k:Int) p i t κ) K n i (up mons (k:Int) (ziW (ix mons (k:Int) mZ) p i))=K (up mons (k:Int) (ziW (ix mons (k:Int) mZ) p (ix mons (k:Int) mZ).Guests.length))
 | 0,i,h=>by
  have:i=(ix mons (k:Int) mZ).Guests.length:=by omega
  subst this;rfl
 | n+1,i,h=>by
  have hi3:i<(ix mons (k:Int) mZ).Guests.length:=by omega
  have hi2:i<(zrH (ix mons (k:Int) mZ).Guests p i (ix mons (k:Int) mZ).Tables).length:=by rw[zoK];omega
  have hf:pc (SmK (ix (zrH (ix mons (k:Int) mZ).Guests p i (ix mons (k:Int) mZ).Tables) (i:Int) zcu)/\(ix (ix mons (k:Int) mZ).Guests (i:Int) zo).Live.length<=1048576)=true :=
   zbe ⟨by rw[zS hi2];exact (ztn _ _ _ _ (by omega) hm.2.2.2.2.2).2 _ (jE hi2),by rw[zS hi3];exact (hm.2.2.2.1.2 _ (jE hi3)).2.2.1⟩
  simp only[goN,z6j,zcT hk,zqP,ziW,zK hi2,zK hi3,hf,cT];exact z4M hk p hm ht K n (i+1) (by omega)
@[simp] abbrev zeb (h:Host)(m p:Int)(s:Slot):Bool:=pc (Shape h/\hasB m (ln h.Mons)=true)
@[simp] abbrev zec (h:Host)(m p:Int)(s:Slot):Host:=zBY h m p s
def zm7:List CV->List AV->Option (Bool×List CV×List AV)
 | [.s (.sl .int) b,.s .mon c,.s .entry d,.s .entry e],[.one (.i .i64 f),.one (.i .i64 g),.agg [.i .i64 h,.i .i64 j]]=>some ((zeb (⟨b,c,d,e⟩:Host) f g (⟨h,j⟩:Slot)),zW (zec (⟨b,c,d,e⟩:Host) f g (⟨h,j⟩:Slot)),[])
 | _,_=>none
def zqT (N:Nat)(c:Host)(a0 a1:Int)(a2:Slot):OA:=
 (oN (inb a0 (ln c.Mons)) (iter (σ:=(Int×(Int×(Int×(Int×(Int×(Int×(lN×(lM×(lE×(lE×Unit))))))))))) N (fun r5 s6=>let y7:=s6.2.2.2.2.2.2.2.1;let y5:=s6.2.2.2.2.2.2.1;let y4:=s6.2.2.2.2.1;let y3:=s6.2.2.2.2.2.2.2.2.1;let y2:=s6.2.2.2.2.2.2.2.2.2.1;let y1:=s6.2.2.2.1;let y0:=(ix y5 s6.2.1 zh);let y8:=(ix y0.Tables y1 zcu);let y6:=(ix y0.Guests y1 zo).Live; (cond (ilt y1 s6.2.2.1) (oN (inb y1 (ln y0.Tables)) (oN (inb y1 (ln y0.Guests)) (oN (zjb y8 y6 s6.1) (oN (inb y1 (ln y0.Tables)) (share (up y5 s6.2.1 ({ y0 with Tables:=(up y0.Tables y1 (zpp y8 y6 s6.1)) }:Mon)) (fun x7=>(r5 (s6.1,(s6.2.1,(s6.2.2.1,((zB .i64 y1 1),(y4,(s6.2.2.2.2.2.1,(x7,(y7,(y3,(y2,()))))))))))))))))) (cond (ine y4 (-1)) (oN (zd0 y3 y4) (oN (zd0 y2 y4) (some [(aH (⟨y7,y5,(zgY y3 y4),(zgY y2 y4)⟩:Host))]))) (some [(aH (⟨y7,y5,y3,y2⟩:Host))])))) (a1,(a0,((ln (ix c.Mons a0 zh).Guests),(0,(a2.Page,(a2.Rights,(c.Mons,(c.Memory,(c.Buffer,(c.IoBuffer,()))))))))))))
def zNA:FuncId->Nat->Option Tmpl:=zl [(188,0,{ n:=71,tm:=[(0,.lp 0 0),(2,ti),(7,.lp 1 0),(8,.ep 0 [] 0),(20,ti),(21,ti)],lo:=[(0,[.sl 1 [],.sl 0 [],.sl 2 [],.sl 3 []]),(1,[ti,ti])],ro:=[(0,.mon,true),(1,(.sl .int),true),(2,.entry,true),(3,.entry,true)] })]
theorem zQ6 (N:Nat)(c:Host)(a0 a1:Int)(a2:Slot):zBz (cQ zrS zom zk0 z1Y) zNA N 12 188 [true,true,true,true] (zW c) [aI a0,aI a1,aT .slot a2]=zqT N c a0 a1 a2:=by kernel_rfl
theorem zM4 (c:Host)(a0 a1:Int)(a2:Slot)(hb:zby big (.agg (zW c) :: [aI a0,aI a1,aT .slot a2]))(hc:zeb c a0 a1 a2=true):∃N,zqT N c a0 a1 a2=some (.agg (zW (zec c a0 a1 a2)) :: []):=by
 obtain ⟨hs,hm⟩:=zu.1 hc;obtain ⟨g1,g2⟩:=zbY hs hm;have hg:(ix c.Mons a0 mZ).Guests.length<=big:=(zb2 g1.2.2.2.1.1).1;refine zbo fun N hNN=>?_;unfold zqT oN
 conv=>zeta
 refine must (zy hm) ?_;refine (zbc ((ix c.Mons a0 zh).Guests) (fun i (t:lN)=>(a1,a0,(ln (ix c.Mons a0 zh).Guests),(i:Int),a2.Page,a2.Rights,t,c.Memory,c.Buffer,c.IoBuffer,())) _ (fun i (x:Guest) (t:List Mon) κ=>z6j a0 a1 i t κ) (fun (t:lN)=>(cond (ine a2.Page (-1)) (cond (zd0 c.Buffer a2.Page) (cond (zd0 c.IoBuffer a2.Page) (some [(.agg (zW (⟨c.Memory,t,(zgY c.Buffer a2.Page),(zgY c.IoBuffer a2.Page)⟩:Host)))]) none) none) (some [(.agg (zW (⟨c.Memory,t,c.Buffer,c.IoBuffer⟩:Host)))]))) (fun i hi t rec=>?_) (fun t rec=>?_) _ (c.Mons) (hNN hg)).trans ?_
 .simp only [zU hi,zK hi,zS hi,zL hi hg,cT];rfl
 .simp only [zQ,cF]
 obtain ⟨k,rfl,hk⟩:=zdn (n:=c.Mons.length) hm;rw[zzW (fun i t κ=>z6j (k:Int) a1 i t κ)];have e0:c.Mons=up c.Mons (k:Int) (ziW (ix c.Mons (k:Int) mZ) a1 0):=(zIm hk _).symm;refine (congrArg _ e0).trans ((z4M hk a1 g1 g2.2.2.2 _ _ 0 (j9 _)).trans ?_)
 show (cond (ine a2.Page (-1)) _ _)=some [AV.agg (zW (zBY c (k:Int) a1 a2))]
 unfold zBY;cases ine a2.Page (-1)
 .rfl
 .exact must rfl (must (zbe hs.1.2.2.1) (must (zbe hs.1.2.2.2) rfl))
theorem zFR:zi5 Tryz.prog 188 [true,true,true,true] zm7:=by
 refine zi8 (zcP zhw zi zk zcE) (zdQ (by kernel_rfl)) ?_
 intro cs avs cs' rs hl hr h;have hb:=zlc hr;unfold zm7 at h;split at h
 .obtain ⟨hc,rfl,rfl⟩:=znK h;obtain ⟨N,hN⟩:=zM4 _ _ _ _ (by exact hb) hc
  exact ⟨rfl,_,N,12,(zQ6 N _ _ _ _ ).trans hN⟩
 .cases h
def z6I:zfy:=[(188,([true,true,true,true],zm7))]++zk0
theorem zUM:zeh z6I:=zwm zk (by
 intro x hx;simp only[qK,jJ,or_false]at hx;rcases hx with rfl
 .exact zFR)
def zf2 (h:Host)(m p:Int):Host:={ h with Mons:=up h.Mons m { ix h.Mons m mZ with Out:=up (ix h.Mons m mZ).Out p (zis h.Memory (ix (ix h.Mons m mZ).Outer p sZ).Page) } }
def zfr (h:Host)(m p:Int):Host:=zdO (zf2 h m p) m p noSlot
theorem z1Q {m:List (List Int)}{p:Int}(h:SmM m):(zis m p).length<=1048576:=by
 unfold zis;cases hh:hasB p (ln m)
 .exact (by decide:zCC.length<=1048576)
 .exact h.2 _ (zbw hh _)
theorem zzn {h:Host}{m p:Int}(hs:Shape h)(hm:hasB m (ln h.Mons)=true):Shape (zf2 h m p):=by
 obtain ⟨g1,g2⟩:=zbY hs hm;exact zfS hs ⟨g1.1,zRx g1.2.1 (z1Q hs.1.1),g1.2.2⟩ ⟨g2.1,by simpa using g2.2.1,g2.2.2⟩
theorem zCr {h:Host}{m p:Int}(hs:Shape h)(hm:hasB m (ln h.Mons)=true):Shape (zfr h m p):=zn8 (zei hm) (zzn hs hm)
@[simp] abbrev zu4 (h:Host)(m p:Int):Bool:=pc (Shape h/\hasB m (ln h.Mons)=true/\hasB p 8=true)
@[simp] abbrev zCq (h:Host)(m p:Int):Host:=zfr h m p
def zwG:List AV->Option (Bool×List AV)
 | [.agg [.s (.sl .int) b,.s .mon c,.s .entry d,.s .entry e],.one (.i .i64 f),.one (.i .i64 g)]=>some ((zu4 (⟨b,c,d,e⟩:Host) f g),[aH (zCq (⟨b,c,d,e⟩:Host) f g)])
 | _=>none
def zBj (N:Nat)(a0:Host)(a1 a2:Int):OA:=
 let y0:=(ix a0.Mons a1 zh);let y1:=(ix y0.Outer a2 zM).Page; (oN (inb a1 (ln a0.Mons)) (oN (inb a1 (ln a0.Mons)) (oN (inb a2 (ln y0.Outer)) (oN (zCk a0.Memory y1) (oN (inb a2 (ln y0.Out)) (share (up a0.Mons a1 ({ y0 with Out:=(up y0.Out a2 (zCj a0.Memory y1)) }:Mon)) (fun x4=>let y2:=({ a0 with Mons:=x4 }:Host); (oN zcd (oN (ze1 y2 a1 a2 zbq) (some [(aH (zhb y2 a1 a2 zbq))]))))))))))
theorem z3Q (N:Nat)(a0:Host)(a1 a2:Int):zHQ (cQ zrS zom z6I z1Y) (zl []) N 12 201 [true,true,true,true,false,false] 1 1 [[0],[1],[2],[4],[7]] .mon [aH a0,aI a1,aI a2]=zBj N a0 a1 a2:=by kernel_rfl
theorem z1j (a0:Host)(a1 a2:Int)(hb:zby big [aH a0,aI a1,aI a2])(hc:zu4 a0 a1 a2=true):∃N,zBj N a0 a1 a2=some [aH (zCq a0 a1 a2)]:=by
 obtain ⟨hs,hm,hp⟩:=zu.1 hc;obtain ⟨g1,g2⟩:=zbY hs hm;obtain ⟨k,rfl,hk⟩:=zdn (n:=a0.Mons.length) hm;have hS:=zzn (p:=a2) hs hm;refine ⟨0,?_⟩;unfold zBj oN
 conv=>zeta
 refine must (zy hm) (must (zy hm) (must (zy (zda g2.1 hp)) (must (zbe ((zq0 _).2 hs.1.1)) (must (zy (zda g2.2.1 hp)) (shr (must rfl (must (zbe ⟨(zF _).2 hS.1,zei hm,?_,?_⟩) rfl)))))))
 .simp only [zcT hk];exact zda g2.1 hp
 .simp only [zcT hk];exact uW g2.2.2.2
theorem zTl:zdS Tryz.prog 201 [true,true,true,true,false,false] (some (1,1,[[0],[1],[2],[4],[7]])) zwG:=by
 refine zl9 (kt:=.mon) (zcP zhw zi zUM zcE) (zdQ (by kernel_rfl)) (by kernel_rfl) ?_
 intro avs rs hl hr h;have hb:=zi6 hr;unfold zwG at h;split at h
 .obtain ⟨hc,rfl⟩:=zdG h;obtain ⟨N,hN⟩:=z1j _ _ _ (by exact hb) hc
  exact ⟨⟨_,rfl⟩,rfl,_,N,12,(z3Q N _ _ _ ).trans hN⟩
 .cases h
@[simp] abbrev zBW (h:Host)(m p:Int):Bool:=pc (Shape h/\hasB m (ln h.Mons)=true/\hasB p 8=true)
@[simp] abbrev zBX (h:Host)(m p:Int):Host:=zfr h m p
def zy6:List CV->List AV->Option (Bool×List CV×List AV)
 | [.s (.sl .int) b,.s .mon c,.s .entry d,.s .entry e],[.one (.i .i64 f),.one (.i .i64 g)]=>some ((zBW (⟨b,c,d,e⟩:Host) f g),zW (zBX (⟨b,c,d,e⟩:Host) f g),[])
 | _,_=>none
def zLA (N:Nat)(c:Host)(a0 a1:Int):OA:=
 let y0:=(ix c.Mons a0 zh);let y1:=(ix y0.Outer a1 zM); (oN (inb a0 (ln c.Mons)) (oN (inb a1 (ln y0.Outer)) (oN (zjS c.Memory y1.Page) (oN (inb a1 (ln y0.Out)) (share (up c.Mons a0 ({ y0 with Out:=(up y0.Out a1 (zoe c.Memory y1.Page)) }:Mon)) (fun x4=>let y2:=(ix x4 a0 zh); (oN zcX (oN (inb a1 (ln y2.Outer)) (share (up x4 a0 ({ y2 with Outer:=(up y2.Outer a1 zcl) }:Mon)) (fun x5=>let y3:=({ c with Mons:=x5 }:Host); (oN (zeb y3 a0 a1 y1) (some [(aH (zec y3 a0 a1 y1))]))))))))))))
theorem z8s (N:Nat)(c:Host)(a0 a1:Int):zBz (cQ zrS zom z6I z1Y) (zl []) N 12 186 [true,true,true,true] (zW c) [aI a0,aI a1]=zLA N c a0 a1:=by kernel_rfl
theorem z6v (c:Host)(a0 a1:Int)(hb:zby big (.agg (zW c) :: [aI a0,aI a1]))(hc:zBW c a0 a1=true):∃N,zLA N c a0 a1=some (.agg (zW (zBX c a0 a1)) :: []):=by
 obtain ⟨hs,hm,hp⟩:=zu.1 hc;obtain ⟨g1,g2⟩:=zbY hs hm;obtain ⟨k,rfl,hk⟩:=zdn (n:=c.Mons.length) hm;have hS:=zzn (p:=a1) hs hm;have hm':hasB (k:Int) (ln (zf2 c (k:Int) a1).Mons)=true:=zei hm;have hk':k<(zf2 c (k:Int) a1).Mons.length:=by simpa [zf2] using hk
 have ex:ix (zf2 c (k:Int) a1).Mons (k:Int) mZ={ ix c.Mons (k:Int) mZ with Out:=up (ix c.Mons (k:Int) mZ).Out a1 (zis c.Memory (ix (ix c.Mons (k:Int) mZ).Outer a1 sZ).Page) }:=zcT hk _ _;have hX:Shape { zf2 c (k:Int) a1 with Mons:=up (zf2 c (k:Int) a1).Mons (k:Int) { ix (zf2 c (k:Int) a1).Mons (k:Int) mZ with Outer:=up (ix (zf2 c (k:Int) a1).Mons (k:Int) mZ).Outer a1 noSlot } }:=by
  obtain ⟨q1,q2⟩:=zbY hS hm';exact zfS hS ⟨by simpa using q1.1,q1.2⟩ ⟨by simpa using q2.1,q2.2⟩
 refine ⟨0,?_⟩;unfold zLA oN
 conv=>zeta
 refine must (zy hm) (must (zy (zda g2.1 hp)) (must (zbe ((zq0 _).2 hs.1.1)) (must (zy (zda g2.2.1 hp)) (shr (must rfl (must ?_ (shr (must (zbe ⟨hX,zei hm'⟩) ?_))))))))
 .rw [zcT hk];exact zy (zda g2.1 hp)
 .have:=zCs (p:=a1) (s:=noSlot) hk' (by rw[ex];exact g2.2.2.2)
  rw[ex] at this
  show some [AV.agg (zW (zBY { zf2 c (k:Int) a1 with Mons:=up (zf2 c (k:Int) a1).Mons (k:Int) { ix (zf2 c (k:Int) a1).Mons (k:Int) mZ with Outer:=up (ix (zf2 c (k:Int) a1).Mons (k:Int) mZ).Outer a1 noSlot } } (k:Int) a1 (ix (ix c.Mons (k:Int) mZ).Outer a1 sZ)))]=_
  rw[ex];exact congrArg (fun x=>some [AV.agg (zW x)]) this
theorem zZY:zi5 Tryz.prog 186 [true,true,true,true] zy6:=by
 refine zi8 (zcP zhw zi zUM zcE) (zdQ (by kernel_rfl)) ?_
 intro cs avs cs' rs hl hr h;have hb:=zlc hr;unfold zy6 at h;split at h
 .obtain ⟨hc,rfl,rfl⟩:=znK h;obtain ⟨N,hN⟩:=z6v _ _ _ (by exact hb) hc
  exact ⟨rfl,_,N,12,(z8s N _ _ _ ).trans hN⟩
 .cases h
def z6J:zfy:=[(186,([true,true,true,true],zy6))]++z6I
theorem zUN:zeh z6J:=zwm zUM (by
 intro x hx;simp only[qK,jJ,or_false]at hx;rcases hx with rfl
 .exact zZY)
def z7b:ze3:=[(201,([true,true,true,true,false,false],(some (1,1,[[0],[1],[2],[4],[7]])),zwG))]++z1Y
theorem zUU:zdT z7b:=zrI zcE (by
 intro x hx;simp only[qK,jJ,or_false]at hx;rcases hx with rfl
 .exact zTl)
def cz (l:List Slot):Nat:=l.countP fun s=>ieq s.Page 0
def zH:List Mon->Nat
 | []=>0
 | m :: l=>cz m.Outer+zH l
def bit (u:List Bool):Nat:=bif ix u 0 false then 1 else 0
theorem zzT (s:Slot)(l:List Slot):cz (s :: l)=cz l+bif ieq s.Page 0 then 1 else 0:=by
 unfold cz;rw[List.countP_cons];cases ieq s.Page 0<;>rfl
theorem zbd9 {u:List Bool}{p:Int}(hp:0<=p)(hlt:p.toNat<u.length)(x:Bool):ix (up u p x) 0 false=bif ieq p 0 then x else ix u 0 false:=by
 unfold ix up;cases h:ieq p 0
 .have:p≠0:=by simpa [ieq] using h
  have hne:p.toNat≠0:=by omega
  simp[List.getD,jK,hne]
 .have:p=0:=by simpa [ieq] using h
  subst this;have hlt:0<u.length:=hlt;simp[List.getD,jK,hlt]
theorem zHJ:∀(l:List Slot) (u u':List Bool),(∀s∈l,s.Page<12)->u.length=12->zjB l u=some u'->cz l+bit u=bit u'
 | [],u,u',_,_,h=>by cases h;simp[cz]
 | s :: l,u,u',hs,hu,h=>by
  simp only[zjB]at h;rw[zzT];cases h1:ilt s.Page 0
  .have h1:=qW h1;rw[show ilt s.Page 0=false from qH (by omega)]at h
   simp only[cF]at h;cases h2:ix u s.Page false
   .rw [h2]at h;simp only[cF]at h;have hlt:s.Page.toNat<u.length:=by have:=hs s (by simp);omega
    have ih:=zHJ l _ u' (fun t ht=>hs t (by simp[ht])) (by simpa using hu) h
    have e:bit (up u s.Page true)=bif ieq s.Page 0 then 1 else bit u:=by
     unfold bit;rw[zbd9 (by omega) hlt]
     cases ieq s.Page 0<;>rfl
    rw[e] at ih;cases h3:ieq s.Page 0
    .rw [h3] at ih;simp only[cF] at ih ⊢;omega
    .have h4:s.Page=0:=by simpa [ieq] using h3
     rw[h4]at h2;have:bit u=0:=by unfold bit;rw[h2];rfl
     rw[h3] at ih;simp only[cT] at ih ⊢;omega
   .rw [h2]at h;cases h
  .have h1':=qD h1;rw[h1]at h;simp only[cT]at h;have ih:=zHJ l u u' (fun t ht=>hs t (by simp[ht])) hu h
   have:ieq s.Page 0=false:=by simp[ieq];omega
   rw[this];simpa using ih
theorem zZ2:∀(l:List Mon) (u:List Bool),u.length=12->zne l u=true->zH l+bit u<=1
 | [],u,_,_=>by unfold zH bit;cases ix u 0 false<;>simp
 | m :: l,u,hu,h=>by
  simp only[zne]at h;cases h1:zen m
  .rw [h1]at h;cases h
  .rw [h1]at h;simp only[cT]at h;cases h2:zjB m.Outer u with
   | none=>rw[h2]at h;cases h
   | some u' =>
    rw[h2]at h;have e:=zHJ _ _ _ (zIe (znx h1)) hu h2;have ih:=zZ2 l u' ((zqQ _ _ _ h2).trans hu) h;simp only[zH];omega
theorem z7N:∀(l:List Slot) (b:Nat) (s:Slot),l[b]?=some s->s.Page=0->cz (l.set b noSlot)+1=cz l
 | [],b,s,h,_=>by simp at h
 | t :: l,0,s,h,hs=>by
  simp only[qG,qB]at h;subst h;rw[List.set_cons_zero,zzT,zzT];have:ieq t.Page 0=true:=by simp[ieq,hs]
  rw[this];rfl
 | t :: l,b+1,s,h,hs=>by
  rw[List.set_cons_succ,zzT,zzT];have:=z7N l b s (by simpa using h) hs
  omega
theorem z2H:∀(l:List Mon) (a:Nat) (x y:Mon),l[a]?=some x->zH (l.set a y)+cz x.Outer=zH l+cz y.Outer
 | [],a,x,y,h=>by simp at h
 | m :: l,0,x,y,h=>by
  simp only[qG,qB]at h;subst h;rw[List.set_cons_zero];simp only[zH];omega
 | m :: l,a+1,x,y,h=>by
  rw[List.set_cons_succ];have:=z2H l a x y (by simpa using h)
  simp only[zH];omega
theorem z5Y {l:List Slot}(h:cz l=0):zBD l 0=none:=by
 unfold zBD;rw[List.findIdx?_eq_none_iff];intro s hs;have:=(List.countP_eq_zero.1 h) s hs;simpa using this
theorem zRc:∀(l:List Mon) (i:Nat),zH l=0->znY 0 l i=(-1,-1)
 | [],_,_=>rfl
 | m :: l,i,h=>by
  simp only[zH]at h;simp only[znY];rw[z5Y (by omega)]
  exact zRc l (i+1) (by omega)
theorem z5Z {l:List Slot}{k:Nat}(h:zBD l 0=some k):∃s,l[k]?=some s/\s.Page=0:=by
 unfold zBD at h;rw[List.findIdx?_eq_some_iff_getElem]at h;obtain ⟨hlt,h1,_⟩:=h;exact ⟨l[k],qC hlt,by simpa [ieq] using h1⟩
theorem zKK:∀(l:List Mon) (i:Nat),znY 0 l i=(-1,-1)\/∃a b x s,znY 0 l i=(((i+a:Nat):Int),((b:Nat):Int))/\l[a]?=some x/\x.Outer[b]?=some s/\s.Page=0
 | [],_=>.inl rfl
 | m :: l,i=>by
  simp only[znY];cases h:zBD m.Outer 0 with
  | none =>
   rcases zKK l (i+1) with h1|⟨a,b,x,s,h1,h2,h3,h4⟩
   .exact .inl h1
   .refine .inr ⟨a+1,b,x,s,?_,by simpa using h2,h3,h4⟩
    have e:i+1+a=i+(a+1):=by omega
    rw[h1,e]
  | some k =>
   obtain ⟨s,h1,h2⟩:=z5Z h;exact .inr ⟨0,k,m,s,rfl,rfl,h1,h2⟩
def Fit (h:Host):Prop:=Shape h/\0<h.Memory.length/\zH h.Mons<=1
theorem zKB {h:Host}(hm:0<h.Memory.length)(ho:ilt (zdv h 0).1 0=true):inb 0 (ln (zcF h))=true:=by
 unfold zcF;obtain ⟨n,hn⟩:∃n,h.Memory.length=n+1:=⟨h.Memory.length-1,by omega⟩
 rw[hn];simp only[zMR];rw[show ilt (zdv h ((0:Nat):Int)).1 0=true from ho]
 exact qL (by simp only[cT,ln,qT];omega)
theorem z6e {h:Host}(hm:0<h.Memory.length)(h0:ieq (ln (zcF h)) 0=true):ilt (zdv h 0).1 0=false:=by
 cases ho:ilt (zdv h 0).1 0
 .rfl
 .have h1:=qD (zKB hm ho);have h2:ln (zcF h)=0:=by simpa [ieq] using h0
  omega
def zdr (h:Host):Host:=bif ieq (ln (zcF h)) 0 then zfr h (zdv h 0).1 (zdv h 0).2 else h
structure Room (h r:Host):Prop where
 shape:Shape r
 free:inb 0 (ln (zcF r))=true
 len:r.Mons.length=h.Mons.length
 outer:∀m,(ix r.Mons m mZ).Outer.length=8\/True
theorem z8w {h:Host}(hf:Fit h)(h0:ieq (ln (zcF h)) 0=true):∃(a b:Nat) (x:Mon) (s:Slot),zdv h 0=((a:Int),(b:Int))/\h.Mons[a]?=some x/\x.Outer[b]?=some s/\s.Page=0:=by
 have h1:=z6e hf.2.1 h0;have e:zdv h 0=znY 0 h.Mons 0:=rfl;rcases zKK h.Mons 0 with h2|⟨a,b,x,s,h2,h3⟩
 .rw [e,h2]at h1;cases h1
 .exact ⟨a,b,x,s,by rw[e,h2,j9],h3⟩
theorem zH6 {h:Host}(hf:Fit h)(h0:ieq (ln (zcF h)) 0=true):hasB (zdv h 0).1 (ln h.Mons)=true/\hasB (zdv h 0).2 8=true:=by
 obtain ⟨a,b,x,s,h1,h2,h3,h4⟩:=z8w hf h0;rw[h1];have ha:=(qA.1 h2).1;have hb:=(qA.1 h3).1;have hx:=hf.1.2 x (qJ h2);refine ⟨qL (by simp only[ln];omega),qL ?_⟩
 have:=hx.1
 show 0<=(b:Int)/\(b:Int)<8
 omega
theorem room {h:Host}(hf:Fit h):Room h (zdr h):=by
 unfold zdr;cases h0:ieq (ln (zcF h)) 0
 .refine ⟨hf.1,qL ?_,rfl,fun _=>.inr trivial⟩;have:ln (zcF h)≠0:=by simpa [ieq] using h0
  show 0<=(0:Int)/\(0:Int)<ln (zcF h)
  simp only[ln] at *;omega
 .obtain ⟨hm,hp⟩:=zH6 hf h0;obtain ⟨a,b,x,s,h1,h2,h3,h4⟩:=z8w hf h0;simp only[cT];rw[h1]at hm hp ⊢;have ha:=(qA.1 h2).1;have hb:=(qA.1 h3).1;have hxa:ix h.Mons (a:Int) mZ=x:=by rw[zS ha];exact (qA.1 h2).2
  have hmons:=(zfb (zf2 h (a:Int) (b:Int)) (a:Int) (b:Int) noSlot).1;have ex:ix (zf2 h (a:Int) (b:Int)).Mons (a:Int) mZ={ x with Out:=up x.Out (b:Int) (zis h.Memory (ix x.Outer (b:Int) sZ).Page) }:=by
   unfold zf2;rw[zcT ha,hxa]
  obtain ⟨y,hM,hy⟩:∃y,(zfr h (a:Int) (b:Int)).Mons=h.Mons.set a y/\y.Outer=x.Outer.set b noSlot:=by
   unfold zfr;rw[hmons,ex];unfold zf2;rw[zqP];exact ⟨_,by simp[up];rfl,by simp[up]⟩
  have hz:zH (zfr h (a:Int) (b:Int)).Mons=0:=by
   have e1:=z2H h.Mons a x y h2;have e2:=z7N x.Outer b s h3 h4;have e3:=hf.2.2;rw[hM];rw[hy] at e1;omega
  have hmem:(zfr h (a:Int) (b:Int)).Memory=h.Memory:=(zfb (zf2 h (a:Int) (b:Int)) (a:Int) (b:Int) noSlot).2;refine ⟨zCr hf.1 hm,zKB (by rw[hmem];exact hf.2.1) ?_,by rw[hM];simp,fun _=>.inr trivial⟩
  have e:zdv (zfr h (a:Int) (b:Int)) 0=znY 0 (zfr h (a:Int) (b:Int)).Mons 0:=rfl;rw[e,zRc _ _ hz];rfl
theorem z1R {m:List (List Int)}{p:Int}{c:List Int}(h:SmM m)(hc:c.length<=1048576):SmM (zj8 m p c):=by
 unfold zj8;cases hasB p (ln m)
 .exact h
 .cases zcZ c
  .exact h
  .exact zRx h hc
def landing (r:Host)(m p to:Int):Host:={ r with Memory:=zj8 r.Memory to (ix (ix r.Mons m mZ).Out p []),Mons:=up r.Mons m { ix r.Mons m mZ with Out:=up (ix r.Mons m mZ).Out p [] } }
def zlf (r:Host)(m p to:Int):Host:=zdO (landing r m p to) m p ⟨to,3⟩
def fetched (h:Host)(m p:Int):Host:=zlf (zdr h) m p (ix (zcF (zdr h)) 0 0)
theorem z1S {r:Host}{m p:Int}(hr:Shape r)(hm:hasB m (ln r.Mons)=true)(hp:hasB p 8=true):(ix (ix r.Mons m mZ).Out p []).length<=1048576:=by
 obtain ⟨g1,g2⟩:=zbY hr hm;exact g1.2.1.2 _ (zbw (zda g2.2.1 hp) _)
theorem zt5 {r:Host}{m p to:Int}(hr:Shape r)(hm:hasB m (ln r.Mons)=true)(hp:hasB p 8=true):Shape (landing r m p to):=by
 obtain ⟨g1,g2⟩:=zbY hr hm;exact zWs (h:={ r with Mons:=up r.Mons m { ix r.Mons m mZ with Out:=up (ix r.Mons m mZ).Out p [] } }) (zfS (x:={ ix r.Mons m mZ with Out:=up (ix r.Mons m mZ).Out p [] }) hr ⟨g1.1,zRx g1.2.1 (by simp),g1.2.2⟩ ⟨g2.1,by simpa using g2.2.1,g2.2.2⟩) (z1R hr.1.1 (z1S hr hm hp))
theorem zYp {r:Host}{m p to:Int}(hr:Shape r)(hm:hasB m (ln r.Mons)=true)(hp:hasB p 8=true):Shape (zlf r m p to):=zn8 (zei hm) (zt5 hr hm hp)
theorem zrk {h:Host}(hf:Fit h){m:Int}(hm:hasB m (ln h.Mons)=true):hasB m (ln (zdr h).Mons)=true:=by
 rw[ln,(room hf).len];exact hm
theorem zia {h:Host}{m p:Int}(hf:Fit h)(hm:hasB m (ln h.Mons)=true)(hp:hasB p 8=true):Shape (fetched h m p)/\hasB m (ln (fetched h m p).Mons)=true :=
 ⟨zYp (room hf).shape (zrk hf hm) hp,zKD (zei (zrk hf hm))⟩
@[simp] abbrev zyB (h:Host)(m p:Int):Bool:=pc (Fit h/\hasB m (ln h.Mons)=true/\hasB p 8=true)
@[simp] abbrev zA9 (h:Host)(m p:Int):Host:=fetched h m p
def zy8:List AV->Option (Bool×List AV)
 | [.agg [.s (.sl .int) b,.s .mon c,.s .entry d,.s .entry e],.one (.i .i64 f),.one (.i .i64 g)]=>some ((zyB (⟨b,c,d,e⟩:Host) f g),[aH (zA9 (⟨b,c,d,e⟩:Host) f g)])
 | _=>none
def zFm (N:Nat)(a0:Host)(a1 a2:Int):OA:=
 let y6:=(ix (zfe a0) 0 0);let y2:=(ix a0.Mons a1 zh);let y0:=(zCq a0 (zgx a0 0) (ziu a0 0));let y5:=(ix (zfe y0) 0 0);let y1:=(ix y0.Mons a1 zh); (oN (zmK a0) (cond (ieq (ln (zfe a0)) 0) (oN (zk8 a0 0) (oN (zu4 a0 (zgx a0 0) (ziu a0 0)) (oN (zmK y0) (oN (inb 0 (ln (zfe y0))) (oN (inb a1 (ln y0.Mons)) (oN (inb a2 (ln y1.Out)) (oN (zlU y0.Memory y5 (ix y1.Out a2 [])) (oN (inb a1 (ln y0.Mons)) (oN (inb a2 (ln y1.Out)) (share (up y0.Mons a1 ({ y1 with Out:=(up y1.Out a2 []) }:Mon)) (fun x4=>let y3:=({ y0 with Memory:=(zj6 y0.Memory y5 (ix y1.Out a2 [])),Mons:=x4 }:Host); (oN (ze1 y3 a1 a2 (⟨y5,3⟩:Slot)) (some [(aH (zhb y3 a1 a2 (⟨y5,3⟩:Slot)))]))))))))))))) (oN (zmK a0) (oN (inb 0 (ln (zfe a0))) (oN (inb a1 (ln a0.Mons)) (oN (inb a2 (ln y2.Out)) (oN (zlU a0.Memory y6 (ix y2.Out a2 [])) (oN (inb a1 (ln a0.Mons)) (oN (inb a2 (ln y2.Out)) (share (up a0.Mons a1 ({ y2 with Out:=(up y2.Out a2 []) }:Mon)) (fun x4=>let y4:=({ a0 with Memory:=(zj6 a0.Memory y6 (ix y2.Out a2 [])),Mons:=x4 }:Host); (oN (ze1 y4 a1 a2 (⟨y6,3⟩:Slot)) (some [(aH (zhb y4 a1 a2 (⟨y6,3⟩:Slot)))])))))))))))))
theorem z6E (N:Nat)(a0:Host)(a1 a2:Int):zHQ (cQ zrS zom z6J z7b) (zl []) N 12 202 [true,true,true,true,false,false] 1 1 [[0],[1],[2],[4],[7]] .mon [aH a0,aI a1,aI a2]=zFm N a0 a1 a2:=by kernel_rfl
theorem z3G (a0:Host)(a1 a2:Int)(hb:zby big [aH a0,aI a1,aI a2])(hc:zyB a0 a1 a2=true):∃N,zFm N a0 a1 a2=some [aH (zA9 a0 a1 a2)]:=by
 obtain ⟨hf,hm,hp⟩:=zu.1 hc;have tail:∀r,Shape r->inb 0 (ln (zcF r))=true->hasB a1 (ln r.Mons)=true->(cond (zmK r) (cond (inb 0 (ln (zfe r))) (cond (inb a1 (ln r.Mons)) (cond (inb a2 (ln (ix r.Mons a1 zh).Out)) (cond (zlU r.Memory (ix (zfe r) 0 0) (ix (ix r.Mons a1 zh).Out a2 [])) (cond (inb a1 (ln r.Mons)) (cond (inb a2 (ln (ix r.Mons a1 zh).Out)) (share (up r.Mons a1 ({ (ix r.Mons a1 zh) with Out:=(up (ix r.Mons a1 zh).Out a2 []) }:Mon)) (fun x4=>(cond (ze1 ({ r with Memory:=(zj6 r.Memory (ix (zfe r) 0 0) (ix (ix r.Mons a1 zh).Out a2 [])),Mons:=x4 }:Host) a1 a2 (⟨(ix (zfe r) 0 0),3⟩:Slot)) (some [(AV.agg (zW (zhb ({ r with Memory:=(zj6 r.Memory (ix (zfe r) 0 0) (ix (ix r.Mons a1 zh).Out a2 [])),Mons:=x4 }:Host) a1 a2 (⟨(ix (zfe r) 0 0),3⟩:Slot))))]) none))) none) none) none) none) none) none) none)=some [AV.agg (zW (zlf r a1 a2 (ix (zcF r) 0 0)))]:=by
  intro r hr hfree hrm;obtain ⟨g1,g2⟩:=zbY hr hrm;have hL:=zt5 (to:=ix (zcF r) 0 0) hr hrm hp;obtain ⟨k,rfl,hk⟩:=zdn (n:=r.Mons.length) hrm;refine must (zbe hr.1.1.1) (must hfree (must (zy hrm) (must (zy (zda g2.2.1 hp)) (must (zbe ⟨hr.1.1,z1S hr hrm hp⟩) (must (zy hrm) (must (zy (zda g2.2.1 hp)) (shr (must (zbe ⟨(zF _).2 hL.1,zei hrm,?_,?_⟩) rfl))))))))
  .simp only [zcT hk];exact zda g2.1 hp
  .simp only [zcT hk];exact uW g2.2.2.2
 have hR:=room hf;have hrm:=zrk hf hm;refine ⟨0,?_⟩;unfold zFm zA9 fetched oN
 conv=>zeta
 refine must (zbe hf.1.1.1.1) ?_;cases h0:ieq (ln (zfe a0)) 0
 .have er:zdr a0=a0:=by unfold zdr;rw[show ieq (ln (zcF a0)) 0=false from h0];rfl
  rw[er]at hR hrm ⊢;exact tail a0 hR.shape hR.free hrm
 .obtain ⟨o1,o2⟩:=zH6 hf h0;have er:zdr a0=zfr a0 (zdv a0 0).1 (zdv a0 0).2:=by unfold zdr;rw[show ieq (ln (zcF a0)) 0=true from h0];rfl
  rw[er]at hR hrm ⊢;exact must rfl (must rfl (must (zbe ⟨hf.1,o1,o2⟩) (tail _ hR.shape hR.free hrm)))
theorem zW7:zdS Tryz.prog 202 [true,true,true,true,false,false] (some (1,1,[[0],[1],[2],[4],[7]])) zy8:=by
 refine zl9 (kt:=.mon) (zcP zhw zi zUN zUU) (zdQ (by kernel_rfl)) (by kernel_rfl) ?_
 intro avs rs hl hr h;have hb:=zi6 hr;unfold zy8 at h;split at h
 .obtain ⟨hc,rfl⟩:=zdG h;obtain ⟨N,hN⟩:=z3G _ _ _ (by exact hb) hc
  exact ⟨⟨_,rfl⟩,rfl,_,N,12,(z6E N _ _ _ ).trans hN⟩
 .cases h
@[simp] abbrev ztK (h:Host):Bool:=pc (Shape h/\hasB (zdv h 0).1 (ln h.Mons)=true/\hasB (zdv h 0).2 8=true)
@[simp] abbrev ztL (h:Host):Host:=zfr h (zdv h 0).1 (zdv h 0).2
def zot:List CV->List AV->Option (Bool×List CV×List AV)
 | [.s (.sl .int) b,.s .mon c,.s .entry d,.s .entry e],[]=>some ((ztK (⟨b,c,d,e⟩:Host)),zW (ztL (⟨b,c,d,e⟩:Host)),[])
 | _,_=>none
def ztv (N:Nat)(c:Host)  : OA :=
 (oN (zk5 c 0) (oN (zBW c (zgu c 0) (zih c 0)) (some [(aH (zBX c (zgu c 0) (zih c 0)))])))
theorem zUC (N:Nat)(c:Host)  : zBz (cQ zrS zom z6J z7b) (zl []) N 12 289 [true,true,true,true] (zW c) []=ztv N c:=by kernel_rfl
theorem zQx (c:Host)(hb:zby big (.agg (zW c) :: []))(hc:ztK c=true):∃N,ztv N c=some (.agg (zW (ztL c)) :: []):=by
 have hs:=zu.1 hc;refine ⟨0,?_⟩;unfold ztv oN;exact must rfl (must (zbe hs) rfl)
theorem zIz:zi5 Tryz.prog 289 [true,true,true,true] zot:=by
 refine zi8 (zcP zhw zi zUN zUU) (zdQ (by kernel_rfl)) ?_
 intro cs avs cs' rs hl hr h;have hb:=zlc hr;unfold zot at h;split at h
 .obtain ⟨hc,rfl,rfl⟩:=znK h;obtain ⟨N,hN⟩:=zQx _ (by exact hb) hc
  exact ⟨rfl,_,N,12,(zUC N _ ).trans hN⟩
 .cases h
def pctC:zfy:=[(289,([true,true,true,true],zot))]++z6J
theorem z4Y:zeh pctC:=zwm zUN (by
 intro x hx;simp only[qK,jJ,or_false]at hx;rcases hx with rfl
 .exact zIz)
def z1Z:ze3:=[(202,([true,true,true,true,false,false],(some (1,1,[[0],[1],[2],[4],[7]])),zy8))]++z7b
theorem zIk:zdT z1Z:=zrI zUU (by
 intro x hx;simp only[qK,jJ,or_false]at hx;rcases hx with rfl
 .exact zW7)
@[simp] abbrev zxz (h:Host)(m p:Int):Bool:=pc (Fit h/\hasB m (ln h.Mons)=true/\hasB p 8=true)
@[simp] abbrev zs5 (h:Host)(m p:Int):Host:=fetched h m p
theorem z5B {r:Host}{m p to:Int}(hr:Shape r)(hm:hasB m (ln r.Mons)=true):zBY { landing r m p to with Mons:=up (landing r m p to).Mons m { ix (landing r m p to).Mons m mZ with Outer:=up (ix (landing r m p to).Mons m mZ).Outer p ⟨to,3⟩ } } m p (ix (ix (landing r m p to).Mons m mZ).Outer p sZ)=zlf r m p to:=by
 obtain ⟨g1,g2⟩:=zbY hr hm;obtain ⟨k,rfl,hk⟩:=zdn (n:=r.Mons.length) hm;refine zCs (h:=landing r (k:Int) p to) (by simpa [landing] using hk) ?_
 unfold landing;simp only[zcT hk];exact g2.2.2.2
theorem z4h {r:Host}{m p to:Int}(hr:Shape r)(hm:hasB m (ln r.Mons)=true)(hp:hasB p 8=true):Shape { landing r m p to with Mons:=up (landing r m p to).Mons m { ix (landing r m p to).Mons m mZ with Outer:=up (ix (landing r m p to).Mons m mZ).Outer p ⟨to,3⟩ } }:=by
 have hL:=zt5 (to:=to) hr hm hp;obtain ⟨q1,q2⟩:=zbY hL (zei hm);exact zfS hL ⟨by simpa using q1.1,q1.2⟩ ⟨by simpa using q2.1,q2.2⟩
def zwn:List CV->List AV->Option (Bool×List CV×List AV)
 | [.s (.sl .int) b,.s .mon c,.s .entry d,.s .entry e],[.one (.i .i64 f),.one (.i .i64 g)]=>some ((zxz (⟨b,c,d,e⟩:Host) f g),zW (zs5 (⟨b,c,d,e⟩:Host) f g),[])
 | _,_=>none
def zEV (N:Nat)(c:Host)(a0 a1:Int):OA:=
 let y8:=(ix (zfI c) 0 0);let y6:=(ztL c);let y7:=(ix (zfI y6) 0 0);let y1:=(ix c.Mons a0 zh);let y0:=(ix y6.Mons a0 zh); (oN (zme c) (cond (ieq (ln (zfI c)) 0) (oN (ztK c) (oN (inb a0 (ln y6.Mons)) (oN (zme y6) (oN (inb 0 (ln (zfI y6))) (oN (inb a1 (ln y0.Out)) (oN (zlB y6.Memory y7 (ix y0.Out a1 [])) (oN (inb a1 (ln y0.Out)) (share (up y6.Mons a0 ({ y0 with Out:=(up y0.Out a1 []) }:Mon)) (fun x4=>let y2:=(ix x4 a0 zh);let y9:=(ix y2.Outer a1 zM); (oN (inb a1 (ln y2.Outer)) (oN (inb a1 (ln y2.Outer)) (share (up x4 a0 ({ y2 with Outer:=(up y2.Outer a1 (⟨y7,3⟩:Slot)) }:Mon)) (fun x5=>let y4:=({ y6 with Memory:=(zjV y6.Memory y7 (ix y0.Out a1 [])),Mons:=x5 }:Host); (oN (zeb y4 a0 a1 y9) (some [(aH (zec y4 a0 a1 y9))]))))))))))))))) (oN (inb a0 (ln c.Mons)) (oN (zme c) (oN (inb 0 (ln (zfI c))) (oN (inb a1 (ln y1.Out)) (oN (zlB c.Memory y8 (ix y1.Out a1 [])) (oN (inb a1 (ln y1.Out)) (share (up c.Mons a0 ({ y1 with Out:=(up y1.Out a1 []) }:Mon)) (fun x4=>let y3:=(ix x4 a0 zh);let y10:=(ix y3.Outer a1 zM); (oN (inb a1 (ln y3.Outer)) (oN (inb a1 (ln y3.Outer)) (share (up x4 a0 ({ y3 with Outer:=(up y3.Outer a1 (⟨y8,3⟩:Slot)) }:Mon)) (fun x5=>let y5:=({ c with Memory:=(zjV c.Memory y8 (ix y1.Out a1 [])),Mons:=x5 }:Host); (oN (zeb y5 a0 a1 y10) (some [(aH (zec y5 a0 a1 y10))]))))))))))))))))
theorem z6D (N:Nat)(c:Host)(a0 a1:Int):zBz (cQ zrS zom pctC z1Z) (zl []) N 12 187 [true,true,true,true] (zW c) [aI a0,aI a1]=zEV N c a0 a1:=by kernel_rfl
theorem z3m (c:Host)(a0 a1:Int)(hb:zby big (.agg (zW c) :: [aI a0,aI a1]))(hc:zxz c a0 a1=true):∃N,zEV N c a0 a1=some (.agg (zW (zs5 c a0 a1)) :: []):=by
 obtain ⟨hf,hm,hp⟩:=zu.1 hc;have tail:∀r,Shape r->inb 0 (ln (zcF r))=true->hasB a0 (ln r.Mons)=true->(cond (inb a0 (ln r.Mons)) (cond (zme r) (cond (inb 0 (ln (zfI r))) (cond (inb a1 (ln (ix r.Mons a0 zh).Out)) (cond (zlB r.Memory (ix (zfI r) 0 0) (ix (ix r.Mons a0 zh).Out a1 [])) (cond (inb a1 (ln (ix r.Mons a0 zh).Out)) (share (up r.Mons a0 ({ (ix r.Mons a0 zh) with Out:=(up (ix r.Mons a0 zh).Out a1 []) }:Mon)) (fun x4=>(cond (inb a1 (ln (ix x4 a0 zh).Outer)) (cond (inb a1 (ln (ix x4 a0 zh).Outer)) (share (up x4 a0 ({ (ix x4 a0 zh) with Outer:=(up (ix x4 a0 zh).Outer a1 (⟨(ix (zfI r) 0 0),3⟩:Slot)) }:Mon)) (fun x5=>(cond (zeb ({ r with Memory:=(zjV r.Memory (ix (zfI r) 0 0) (ix (ix r.Mons a0 zh).Out a1 [])),Mons:=x5 }:Host) a0 a1 (ix (ix x4 a0 zh).Outer a1 zM)) (some [(AV.agg (zW (zec ({ r with Memory:=(zjV r.Memory (ix (zfI r) 0 0) (ix (ix r.Mons a0 zh).Out a1 [])),Mons:=x5 }:Host) a0 a1 (ix (ix x4 a0 zh).Outer a1 zM))))]) none))) none) none))) none) none) none) none) none) none)=some [AV.agg (zW (zlf r a0 a1 (ix (zcF r) 0 0)))]:=by
  intro r hr hfree hrm;obtain ⟨g1,g2⟩:=zbY hr hrm;have hL:=z4h (to:=ix (zcF r) 0 0) hr hrm hp;have hE:=z5B (p:=a1) (to:=ix (zcF r) 0 0) hr hrm;obtain ⟨k,rfl,hk⟩:=zdn (n:=r.Mons.length) hrm;have hh:∀(x y:Mon),hasB (k:Int) (ln (up (up r.Mons (k:Int) x) (k:Int) y))=true:=fun x y=>by simpa [ln] using hrm
  have hi:inb a1 (ln (ix (up r.Mons (k:Int) { ix r.Mons (k:Int) mZ with Out:=up (ix r.Mons (k:Int) mZ).Out a1 [] }) (k:Int) mZ).Outer)=true:=by
   rw[zcT hk];exact zy (zda g2.1 hp)
  refine must (zy hrm) (must (zbe hr.1.1.1) (must hfree (must (zy (zda g2.2.1 hp)) (must (zbe ⟨hr.1.1,z1S hr hrm hp⟩) (must (zy (zda g2.2.1 hp)) (shr (must hi (must hi (shr (must (zbe ⟨hL,hh _ _⟩) ?_))))))))));exact congrArg (fun x=>some [AV.agg (zW x)]) hE
 have hR:=room hf;have hrm:=zrk hf hm;refine ⟨0,?_⟩;unfold zEV zs5 fetched oN
 conv=>zeta
 refine must (zbe hf.1.1.1.1) ?_;cases h0:ieq (ln (zfI c)) 0
 .have er:zdr c=c:=by unfold zdr;rw[show ieq (ln (zcF c)) 0=false from h0];rfl
  rw[er]at hR hrm ⊢;exact tail c hR.shape hR.free hrm
 .obtain ⟨o1,o2⟩:=zH6 hf h0;have er:zdr c=zfr c (zdv c 0).1 (zdv c 0).2:=by unfold zdr;rw[show ieq (ln (zcF c)) 0=true from h0];rfl
  rw[er]at hR hrm ⊢;exact must rfl (must (zbe ⟨hf.1,o1,o2⟩) (tail _ hR.shape hR.free hrm))
theorem zWN:zi5 Tryz.prog 187 [true,true,true,true] zwn:=by
 refine zi8 (zcP zhw zi z4Y zIk) (zdQ (by kernel_rfl)) ?_
 intro cs avs cs' rs hl hr h;have hb:=zlc hr;unfold zwn at h;split at h
 .obtain ⟨hc,rfl,rfl⟩:=znK h;obtain ⟨N,hN⟩:=z3m _ _ _ (by exact hb) hc
  exact ⟨rfl,_,N,12,(z6D N _ _ _ ).trans hN⟩
 .cases h
def z6K:zfy:=[(187,([true,true,true,true],zwn))]++pctC
theorem zUO:zeh z6K:=zwm z4Y (by
 intro x hx;simp only[qK,jJ,or_false]at hx;rcases hx with rfl
 .exact zWN)
def zbR (h:Host)(m p:Int):Host:={ h with Mons:=up h.Mons m { ix h.Mons m mZ with Dirty:=up (ix h.Mons m mZ).Dirty p true } }
def opened (h:Host)(m p:Int):Host:=bif ieq (wand .i64 (ix (ix h.Mons m mZ).Outer p sZ).Rights 2) 0 then zdO h m p ⟨(ix (ix h.Mons m mZ).Outer p sZ).Page,3⟩ else h
def zmy (h:Host)(m p n:Int):Host:=bif ieq (wand .i64 n 2) 0 then h else opened (zbR h m p) m p
def mended (h:Host)(m p n:Int):Host:=bif ieq (ix (ix h.Mons m mZ).Outer p sZ).Page (-1) then zmy (fetched h m p) m p n else zmy h m p n
theorem zbcP {r:Int}(h0:0<=r)(h3:r<=3):enough r 2 = !ieq (wand .i64 r 2) 0:=by
 have:r=0\/r=1\/r=2\/r=3:=by omega
 rcases this with rfl|rfl|rfl|rfl<;>rfl
structure SlotFit (s:Slot):Prop where
 no:zc0 s noSlot=ieq s.Page (-1)
 lo:0<=s.Rights
 hi:s.Rights<=3
theorem z6T {s:Slot}{n:Int}(h:zeW s n=true):SlotFit s:=by
 refine ⟨zWt h,?_,?_⟩<;>unfold zeW at h<;>cases h1:zc0 s noSlot
 .rw [h1]at h;simp only[cF,zcM]at h;have:=(zfo.1 h.2.2).1;omega
 .unfold zc0 at h1;rw[qE]at h1;have:s.Rights=0:=qD h1.2;omega
 .rw [h1]at h;simp only[cF,zcM]at h;have:=(zfo.1 h.2.2).2;omega
 .unfold zc0 at h1;rw[qE]at h1;have:s.Rights=0:=qD h1.2;omega
theorem zn7 {h:Host}{m p:Int}(hs:Shape h)(hm:hasB m (ln h.Mons)=true):Shape (zbR h m p):=by
 obtain ⟨g1,g2⟩:=zbY hs hm;exact zfS hs ⟨g1.1,g1.2.1,by simpa using g1.2.2.1,g1.2.2.2⟩ ⟨g2.1,g2.2.1,by simpa using g2.2.2.1,g2.2.2.2⟩
theorem z1K {h:Host}{m p:Int}(hs:Shape h)(hm:hasB m (ln h.Mons)=true):Shape (opened h m p)/\hasB m (ln (opened h m p).Mons)=true:=by
 unfold opened;cases ieq (wand .i64 (ix (ix h.Mons m mZ).Outer p sZ).Rights 2) 0
 .exact ⟨hs,hm⟩
 .exact ⟨zn8 hm hs,zKD hm⟩
theorem zLo {h:Host}{m p n:Int}(hs:Shape h)(hm:hasB m (ln h.Mons)=true):Shape (zmy h m p n)/\hasB m (ln (zmy h m p n).Mons)=true:=by
 unfold zmy;cases ieq (wand .i64 n 2) 0
 .exact z1K (zn7 hs hm) (zei hm)
 .exact ⟨hs,hm⟩
theorem zqN {h:Host}{m p n:Int}(hf:Fit h)(hm:hasB m (ln h.Mons)=true)(hp:hasB p 8=true):Shape (mended h m p n)/\hasB m (ln (mended h m p n).Mons)=true:=by
 unfold mended;cases ieq (ix (ix h.Mons m mZ).Outer p sZ).Page (-1)
 .exact zLo hf.1 hm
 .obtain ⟨h1,h2⟩:=zia hf hm hp;exact zLo h1 h2
theorem zZM {h:Host}{m p:Int}(hf:Fit h)(hm:hasB m (ln h.Mons)=true)(hp:hasB p 8=true):(ix (ix (fetched h m p).Mons m mZ).Outer p sZ).Rights=3:=by
 have hR:=room hf;have hrm:=zrk hf hm;obtain ⟨g1,g2⟩:=zbY hR.shape hrm;obtain ⟨k,rfl,hk⟩:=zdn (n:=(zdr h).Mons.length) hrm;obtain ⟨q,rfl,hq⟩:=zdn (n:=8) hp;unfold fetched zlf;rw[(zfb _ _ _ _).1];have hk':k<(landing (zdr h) (k:Int) (q:Int) (ix (zcF (zdr h)) 0 0)).Mons.length:=by simpa [landing] using hk
 rw[zcT hk'];have ho:q<(ix (landing (zdr h) (k:Int) (q:Int) (ix (zcF (zdr h)) 0 0)).Mons (k:Int) mZ).Outer.length:=by
  unfold landing;rw[zcT hk]
  show q<(ix (zdr h).Mons (k:Int) mZ).Outer.length
  rw[g2.1];exact hq
 show (ix (up (ix (landing (zdr h) (k:Int) (q:Int) (ix (zcF (zdr h)) 0 0)).Mons (k:Int) mZ).Outer (q:Int) ⟨_,3⟩) (q:Int) sZ).Rights=3
 rw[zcT ho]
def zZc (h:Host)(m p n:Int):Prop:=Fit h/\hasB m (ln h.Mons)=true/\hasB p 8=true/\(n=1\/n=2)/\SlotFit (ix (ix h.Mons m mZ).Outer p sZ)
@[simp] abbrev znI (h:Host)(m p n:Int):Bool:=pc (zZc h m p n)
@[simp] abbrev zo6 (h:Host)(m p n:Int):Host:=mended h m p n
def ztV:List AV->Option (Bool×List AV)
 | [.agg [.s (.sl .int) b,.s .mon c,.s .entry d,.s .entry e],.one (.i .i64 f),.one (.i .i64 g),.one (.i .i64 h)]=>some ((znI (⟨b,c,d,e⟩:Host) f g h),[aH (zo6 (⟨b,c,d,e⟩:Host) f g h)])
 | _=>none
def zyJ (N:Nat)(a0:Host)(a1 a2 a3:Int):OA:=
 let y3:=(zA9 a0 a1 a2);let y6:=(ix y3.Mons a1 zh);let y0:=(ix a0.Mons a1 zh);let y7:=(ix y0.Outer a2 zM); (oN (inb a1 (ln a0.Mons)) (oN (inb a2 (ln y0.Outer)) (oN zcd (cond (cond (ieq y7.Page zbq.Page) (ieq y7.Rights zbq.Rights) false) (oN (zyB a0 a1 a2) (cond (ieq (wand .i64 a3 2) 0) (some [(aH y3)]) (oN (inb a1 (ln y3.Mons)) (oN (inb a2 (ln y6.Dirty)) (share (up y3.Mons a1 ({ y6 with Dirty:=(up y6.Dirty a2 true) }:Mon)) (fun x5=>let y8:=(ix x5 a1 zh).Outer;let y4:=({ y3 with Mons:=x5 }:Host);let y1:=(ix y8 a2 zM);let y9:=({ y1 with Rights:=3 }:Slot); (oN (inb a1 (ln x5)) (oN (inb a2 (ln y8)) (cond (ieq (wand .i64 y1.Rights 2) 0) (oN (ze1 y4 a1 a2 y9) (some [(aH (zhb y4 a1 a2 y9))])) (some [(aH y4)])))))))))) (cond (ieq (wand .i64 a3 2) 0) (some [(aH a0)]) (oN (inb a1 (ln a0.Mons)) (oN (inb a2 (ln y0.Dirty)) (share (up a0.Mons a1 ({ y0 with Dirty:=(up y0.Dirty a2 true) }:Mon)) (fun x5=>let y10:=(ix x5 a1 zh).Outer;let y5:=({ a0 with Mons:=x5 }:Host);let y2:=(ix y10 a2 zM);let y11:=({ y2 with Rights:=3 }:Slot); (oN (inb a1 (ln x5)) (oN (inb a2 (ln y10)) (cond (ieq (wand .i64 y2.Rights 2) 0) (oN (ze1 y5 a1 a2 y11) (some [(aH (zhb y5 a1 a2 y11))])) (some [(aH y5)])))))))))))))
theorem z1u (N:Nat)(a0:Host)(a1 a2 a3:Int):zHQ (cQ zrS zom z6K z1Z) (zl []) N 12 129 [true,true,true,true,false,false,false] 1 1 [[0],[1],[2],[4],[7]] .mon [aH a0,aI a1,aI a2,aI a3]=zyJ N a0 a1 a2 a3:=by kernel_rfl
theorem zYf (a0:Host)(a1 a2 a3:Int)(hb:zby big [aH a0,aI a1,aI a2,aI a3])(hc:znI a0 a1 a2 a3=true):∃N,zyJ N a0 a1 a2 a3=some [aH (zo6 a0 a1 a2 a3)]:=by
 obtain ⟨hf,hm,hp,hn,hs⟩:=zu.1 hc;obtain ⟨g1,g2⟩:=zbY hf.1 hm;have tail:∀r,Shape r->hasB a1 (ln r.Mons)=true->(cond (ieq (wand .i64 a3 2) 0) (some [(AV.agg (zW r))]) (cond (inb a1 (ln r.Mons)) (cond (inb a2 (ln (ix r.Mons a1 zh).Dirty)) (share (up r.Mons a1 ({ (ix r.Mons a1 zh) with Dirty:=(up (ix r.Mons a1 zh).Dirty a2 true) }:Mon)) (fun x5=>(cond (inb a1 (ln x5)) (cond (inb a2 (ln (ix x5 a1 zh).Outer)) (cond (ieq (wand .i64 (ix (ix x5 a1 zh).Outer a2 zM).Rights 2) 0) (cond (ze1 ({ r with Mons:=x5 }:Host) a1 a2 ({ (ix (ix x5 a1 zh).Outer a2 zM) with Rights:=3 }:Slot)) (some [(AV.agg (zW (zhb ({ r with Mons:=x5 }:Host) a1 a2 ({ (ix (ix x5 a1 zh).Outer a2 zM) with Rights:=3 }:Slot))))]) none) (some [(AV.agg (zW ({ r with Mons:=x5 }:Host)))])) none) none))) none) none))=some [AV.agg (zW (zmy r a1 a2 a3))]:=by
  intro r hr hrm;obtain ⟨q1,q2⟩:=zbY hr hrm;have hD:=zn7 (p:=a2) hr hrm;unfold zmy;cases h0:ieq (wand .i64 a3 2) 0
  .obtain ⟨k,rfl,hk⟩:=zdn (n:=r.Mons.length) hrm;have ex:ix (zbR r (k:Int) a2).Mons (k:Int) mZ={ ix r.Mons (k:Int) mZ with Dirty:=up (ix r.Mons (k:Int) mZ).Dirty a2 true }:=zcT hk _ _;refine zbI rfl (must (zy hrm) (must (zy (zda q2.2.2.1 hp)) (shr (must (zy (zei hrm)) (must ?_ ?_)))))
   .rw [zcT hk];exact zy (zda q2.1 hp)
   .unfold opened
    show (cond (ieq (wand .i64 (ix (ix (zbR r (k:Int) a2).Mons (k:Int) mZ).Outer a2 sZ).Rights 2) 0) _ _)=_
    cases h1:ieq (wand .i64 (ix (ix (zbR r (k:Int) a2).Mons (k:Int) mZ).Outer a2 sZ).Rights 2) 0
    .rfl
    .refine must rfl (must (zbe ⟨(zF _).2 hD.1,zei hrm,?_,?_⟩) rfl)
     .show hasB a2 (ln (ix (zbR r (k:Int) a2).Mons (k:Int) mZ).Outer)=true
      rw[ex];exact zda q2.1 hp
     .show (ix (zbR r (k:Int) a2).Mons (k:Int) mZ).Tables.length<=(ix (zbR r (k:Int) a2).Mons (k:Int) mZ).Guests.length
      rw[ex];exact uW q2.2.2.2
  .rfl
 refine ⟨0,?_⟩;unfold zyJ zo6 mended oN
 conv=>zeta
 refine must (zy hm) (must (zy (zda g2.1 hp)) (must rfl ?_));have e:(cond (ieq (ix (ix a0.Mons a1 mZ).Outer a2 sZ).Page zbq.Page) (ieq (ix (ix a0.Mons a1 mZ).Outer a2 sZ).Rights zbq.Rights) false)=ieq (ix (ix a0.Mons a1 mZ).Outer a2 sZ).Page (-1):=by
  rw[<- hs.no];unfold zc0 zbq;cases ieq (ix (ix a0.Mons a1 mZ).Outer a2 sZ).Page noSlot.Page<;>rfl
 rw[e];cases h0:ieq (ix (ix a0.Mons a1 mZ).Outer a2 sZ).Page (-1)
 .exact tail a0 hf.1 hm
 .obtain ⟨h1,h2⟩:=zia (p:=a2) hf hm hp;exact must rfl (must (zbe ⟨hf,hm,hp⟩) (tail _ h1 h2))
theorem zQa:zdS Tryz.prog 129 [true,true,true,true,false,false,false] (some (1,1,[[0],[1],[2],[4],[7]])) ztV:=by
 refine zl9 (kt:=.mon) (zcP zhw zi zUO zIk) (zdQ (by kernel_rfl)) (by kernel_rfl) ?_
 intro avs rs hl hr h;have hb:=zi6 hr;unfold ztV at h;split at h
 .obtain ⟨hc,rfl⟩:=zdG h;obtain ⟨N,hN⟩:=zYf _ _ _ _ (by exact hb) hc
  exact ⟨⟨_,rfl⟩,rfl,_,N,12,(z1u N _ _ _ _ ).trans hN⟩
 .cases h
@[simp] abbrev zv7 (h:Host)(m p n:Int):Bool:=pc (zZc h m p n)
@[simp] abbrev zoh (h:Host)(m p n:Int):Host:=mended h m p n
def zy5:List CV->List AV->Option (Bool×List CV×List AV)
 | [.s (.sl .int) b,.s .mon c,.s .entry d,.s .entry e],[.one (.i .i64 f),.one (.i .i64 g),.one (.i .i64 h)]=>some ((zv7 (⟨b,c,d,e⟩:Host) f g h),zW (zoh (⟨b,c,d,e⟩:Host) f g h),[])
 | _,_=>none
def zLz (N:Nat)(c:Host)(a0 a1 a2:Int):OA:=
 let y3:=(zs5 c a0 a1);let y6:=(ix y3.Mons a0 zh);let y2:=(ix c.Mons a0 zh); (oN (inb a0 (ln c.Mons)) (oN (inb a1 (ln y2.Outer)) (cond (ieq (ix y2.Outer a1 zM).Page (-1)) (oN (zxz c a0 a1) (oN (zdh a2 2) (cond (nB (zdH a2 2)) (some [(aH y3)]) (oN (inb a0 (ln y3.Mons)) (oN (inb a1 (ln y6.Dirty)) (share (up y3.Mons a0 ({ y6 with Dirty:=(up y6.Dirty a1 true) }:Mon)) (fun x5=>let y4:=(ix x5 a0 zh);let y0:=(ix y4.Outer a1 zM); (oN (inb a1 (ln y4.Outer)) (oN (zdh y0.Rights 2) (cond (nB (zdH y0.Rights 2)) (oN (inb a1 (ln y4.Outer)) (share (up x5 a0 ({ y4 with Outer:=(up y4.Outer a1 ({ y0 with Rights:=3 }:Slot)) }:Mon)) (fun x6=>let y7:=({ y3 with Mons:=x6 }:Host); (oN (zeb y7 a0 a1 y0) (some [(aH (zec y7 a0 a1 y0))]))))) (some [(aH ({ y3 with Mons:=x5 }:Host))]))))))))))) (oN (zdh a2 2) (cond (nB (zdH a2 2)) (some [(aH c)]) (oN (inb a0 (ln c.Mons)) (oN (inb a1 (ln y2.Dirty)) (share (up c.Mons a0 ({ y2 with Dirty:=(up y2.Dirty a1 true) }:Mon)) (fun x5=>let y5:=(ix x5 a0 zh);let y1:=(ix y5.Outer a1 zM); (oN (inb a1 (ln y5.Outer)) (oN (zdh y1.Rights 2) (cond (nB (zdH y1.Rights 2)) (oN (inb a1 (ln y5.Outer)) (share (up x5 a0 ({ y5 with Outer:=(up y5.Outer a1 ({ y1 with Rights:=3 }:Slot)) }:Mon)) (fun x6=>let y8:=({ c with Mons:=x6 }:Host); (oN (zeb y8 a0 a1 y1) (some [(aH (zec y8 a0 a1 y1))]))))) (some [(aH ({ c with Mons:=x5 }:Host))])))))))))))))
theorem z8r (N:Nat)(c:Host)(a0 a1 a2:Int):zBz (cQ zrS zom z6K z1Z) (zl []) N 12 178 [true,true,true,true] (zW c) [aI a0,aI a1,aI a2]=zLz N c a0 a1 a2:=by kernel_rfl
theorem z6u (c:Host)(a0 a1 a2:Int)(hb:zby big (.agg (zW c) :: [aI a0,aI a1,aI a2]))(hc:zv7 c a0 a1 a2=true):∃N,zLz N c a0 a1 a2=some (.agg (zW (zoh c a0 a1 a2)) :: []):=by
 obtain ⟨hf,hm,hp,hn,hs⟩:=zu.1 hc;obtain ⟨g1,g2⟩:=zbY hf.1 hm;have en:enough a2 2 = !ieq (wand .i64 a2 2) 0:=by rcases hn with rfl|rfl<;>rfl
 have tail:∀r,Shape r->hasB a0 (ln r.Mons)=true->enough (ix (ix r.Mons a0 mZ).Outer a1 sZ).Rights 2=(!ieq (wand .i64 (ix (ix r.Mons a0 mZ).Outer a1 sZ).Rights 2) 0)->(cond (zdh a2 2) (cond (cond (zdH a2 2) false true) (some [(AV.agg (zW r))]) (cond (inb a0 (ln r.Mons)) (cond (inb a1 (ln (ix r.Mons a0 zh).Dirty)) (share (up r.Mons a0 ({ (ix r.Mons a0 zh) with Dirty:=(up (ix r.Mons a0 zh).Dirty a1 true) }:Mon)) (fun x5=>(cond (inb a1 (ln (ix x5 a0 zh).Outer)) (cond (zdh (ix (ix x5 a0 zh).Outer a1 zM).Rights 2) (cond (cond (zdH (ix (ix x5 a0 zh).Outer a1 zM).Rights 2) false true) (cond (inb a1 (ln (ix x5 a0 zh).Outer)) (share (up x5 a0 ({ (ix x5 a0 zh) with Outer:=(up (ix x5 a0 zh).Outer a1 ({ (ix (ix x5 a0 zh).Outer a1 zM) with Rights:=3 }:Slot)) }:Mon)) (fun x6=>(cond (zeb ({ r with Mons:=x6 }:Host) a0 a1 (ix (ix x5 a0 zh).Outer a1 zM)) (some [(AV.agg (zW (zec ({ r with Mons:=x6 }:Host) a0 a1 (ix (ix x5 a0 zh).Outer a1 zM))))]) none))) none) (some [(AV.agg (zW ({ r with Mons:=x5 }:Host)))])) none) none))) none) none)) none)=some [AV.agg (zW (zmy r a0 a1 a2))]:=by
  intro r hr hrm her;obtain ⟨q1,q2⟩:=zbY hr hrm;have hD:=zn7 (p:=a1) hr hrm;unfold zmy;simp only[zdh,zdH,en,cT];cases h0:ieq (wand .i64 a2 2) 0
  .obtain ⟨k,rfl,hk⟩:=zdn (n:=r.Mons.length) hrm;have ex:ix (zbR r (k:Int) a1).Mons (k:Int) mZ={ ix r.Mons (k:Int) mZ with Dirty:=up (ix r.Mons (k:Int) mZ).Dirty a1 true }:=zcT hk _ _;have hk':k<(zbR r (k:Int) a1).Mons.length:=by simpa [zbR] using hk
   have hi:inb a1 (ln (ix (zbR r (k:Int) a1).Mons (k:Int) mZ).Outer)=true:=by
    rw[ex];exact zy (zda q2.1 hp)
   refine zbI rfl (must (zy hrm) (must (zy (zda q2.2.2.1 hp)) (shr (must hi ?_))));unfold opened
   show (cond (cond (enough (ix (ix (zbR r (k:Int) a1).Mons (k:Int) mZ).Outer a1 sZ).Rights 2) false true) _ _)=_
   have e2:(cond (enough (ix (ix (zbR r (k:Int) a1).Mons (k:Int) mZ).Outer a1 sZ).Rights 2) false true)=ieq (wand .i64 (ix (ix (zbR r (k:Int) a1).Mons (k:Int) mZ).Outer a1 sZ).Rights 2) 0:=by
    rw[ex]
    show (cond (enough (ix (ix r.Mons (k:Int) mZ).Outer a1 sZ).Rights 2) false true)=ieq (wand .i64 (ix (ix r.Mons (k:Int) mZ).Outer a1 sZ).Rights 2) 0
    rw[her];cases ieq (wand .i64 (ix (ix r.Mons (k:Int) mZ).Outer a1 sZ).Rights 2) 0<;>rfl
   rw[e2];cases h1:ieq (wand .i64 (ix (ix (zbR r (k:Int) a1).Mons (k:Int) mZ).Outer a1 sZ).Rights 2) 0
   .rfl
   .have hX:Shape { zbR r (k:Int) a1 with Mons:=up (zbR r (k:Int) a1).Mons (k:Int) { ix (zbR r (k:Int) a1).Mons (k:Int) mZ with Outer:=up (ix (zbR r (k:Int) a1).Mons (k:Int) mZ).Outer a1 ⟨(ix (ix (zbR r (k:Int) a1).Mons (k:Int) mZ).Outer a1 sZ).Page,3⟩ } }:=by
     obtain ⟨w1,w2⟩:=zbY hD (zei hrm);exact zfS hD ⟨by simpa using w1.1,w1.2⟩ ⟨by simpa using w2.1,w2.2⟩
    have hh:∀(x y:Mon),hasB (k:Int) (ln (up (up r.Mons (k:Int) x) (k:Int) y))=true:=fun x y=>by simpa [ln] using hrm
    refine must rfl (must hi (shr (must (zbe ⟨hX,hh _ _⟩) ?_)));exact congrArg (fun x=>some [AV.agg (zW x)]) (zCs (h:=zbR r (k:Int) a1) (p:=a1) (s:=⟨(ix (ix (zbR r (k:Int) a1).Mons (k:Int) mZ).Outer a1 sZ).Page,3⟩) hk' (by rw[ex];exact q2.2.2.2))
  .rfl
 refine ⟨0,?_⟩;unfold zLz zoh mended oN nB
 conv=>zeta
 refine must (zy hm) (must (zy (zda g2.1 hp)) ?_);cases h0:ieq (ix (ix c.Mons a0 mZ).Outer a1 sZ).Page (-1)
 .exact tail c hf.1 hm (zbcP hs.lo hs.hi)
 .obtain ⟨h1,h2⟩:=zia (p:=a1) hf hm hp;exact must rfl (must (zbe ⟨hf,hm,hp⟩) (tail _ h1 h2 (by rw[zZM hf hm hp];rfl)))
theorem zZX:zi5 Tryz.prog 178 [true,true,true,true] zy5:=by
 refine zi8 (zcP zhw zi zUO zIk) (zdQ (by kernel_rfl)) ?_
 intro cs avs cs' rs hl hr h;have hb:=zlc hr;unfold zy5 at h;split at h
 .obtain ⟨hc,rfl,rfl⟩:=znK h;obtain ⟨N,hN⟩:=z6u _ _ _ _ (by exact hb) hc
  exact ⟨rfl,_,N,12,(z8r N _ _ _ _ ).trans hN⟩
 .cases h
def z1x:zfy:=[(178,([true,true,true,true],zy5))]++z6K
theorem zbh:zeh z1x:=zwm zUO (by
 intro x hx;simp only[qK,jJ,or_false]at hx;rcases hx with rfl
 .exact zZX)
def z7c:ze3:=[(129,([true,true,true,true,false,false,false],(some (1,1,[[0],[1],[2],[4],[7]])),ztV))]++z1Z
theorem zBb:zdT z7c:=zrI zIk (by
 intro x hx;simp only[qK,jJ,or_false]at hx;rcases hx with rfl
 .exact zQa)
theorem z6g {h:Host}(hh:zbF h=true):h.Memory.length=12:=by
 unfold zbF at hh;simp only[zcM]at hh;have h1:=hh.1;unfold zi2 at h1;simp only[zcM]at h1;have:ln h.Memory=12:=qD h1.2;simp only[ln] at this;omega
theorem zgV {h:Host}(hh:zbF h=true):∀x∈h.Mons,zen x=true:=by
 unfold zbF at hh;simp only[zcM]at hh;exact zBM _ _ hh.2.2.2.2
theorem zNn {x:Mon}(hk:zen x=true):ShM x:=by
 have ho:=zto (znx hk);unfold zen at hk;simp only[zcM]at hk;have e1:ln x.Tables=ln x.Guests:=qD hk.2.1;have e2:ln x.Out=8:=qD hk.2.2.2.1;have e3:ln x.Dirty=8:=qD hk.2.2.2.2.1;simp only[ln] at *;exact ⟨by omega,by omega,by omega,by omega⟩
theorem zdz {h:Host}(hs:SmH h)(hh:zbF h=true):Fit h:=by
 refine ⟨⟨hs,fun x hx=>zNn (zgV hh x hx)⟩,by rw[z6g hh];decide,?_⟩
 unfold zbF at hh;simp only[zcM]at hh;have:=zZ2 _ _ rfl hh.2.2.2.2;omega
theorem zuS {x:Mon}(hk:zen x=true){p:Int}(hp:hasB p 8=true):SlotFit (ix x.Outer p sZ):=by
 have ht:=znx hk;unfold zdy at ht;simp only[zcM]at ht;exact z6T (qU.1 ht.1 _ (zbw (zda (zNn hk).1 hp) _))
theorem z2T {h:Host}{m p:Int}(hf:Fit h)(hm:hasB m (ln h.Mons)=true):Fit (zbR h m p):=by
 refine ⟨zn7 hf.1 hm,hf.2.1,?_⟩;obtain ⟨k,rfl,hk⟩:=zdn (n:=h.Mons.length) hm;have:=z2H h.Mons k (ix h.Mons (k:Int) mZ) { ix h.Mons (k:Int) mZ with Dirty:=up (ix h.Mons (k:Int) mZ).Dirty p true } (by rw[zS hk];exact qC hk)
 have h3:=hf.2.2;unfold zbR;simp only[up,kC]
 dsimp only at this
 simp only[up] at this;omega
abbrev gZ:Guest:=Ty.dflt .guest
@[simp] abbrev zsZ (h:Host)(m:Int):Bool:=pc (zbA h)
@[simp] abbrev zca (h:Host)(m:Int):Mon:=bif hasB m (ln h.Mons) then ix h.Mons m mZ else mZ
@[simp] abbrev zlx (h:Host)(m:Int):Bool:=hasB m (ln h.Mons)
def zKV:Run:=rF2 dH dI fun b c=>(zsZ b c,[aT .mon (zca b c),aB (zlx b c)])
def zVn (N:Nat)(a0:Host)(a1:Int):OA:=
 let y0:=(ix a0.Mons a1 zh); (oN (zbx a1 (ln a0.Mons)) (cond (nB (zbO a1 (ln a0.Mons))) (some [(aT .mon (⟨[],[],[],[],[],0,0,[],0⟩:Mon)),(aB false)]) (oN (inb a1 (ln a0.Mons)) (oN (zkF y0) (some [(aT .mon (zlC y0)),(aB true)])))))
theorem z3h (a0:Host)(a1:Int)(hc:zsZ a0 a1=true):∃N,zVn N a0 a1=some [aT .mon (zca a0 a1),aB (zlx a0 a1)]:=by
 have hs:=(zF a0).1 (zu.1 hc);refine ⟨0,?_⟩;unfold zVn zca zlx oN nB
 conv=>zeta
 refine must rfl ?_;rw[show zbO a1 (ln a0.Mons)=hasB a1 (ln a0.Mons) from rfl]
 cases hh:hasB a1 (ln a0.Mons)
 .rfl
 .exact zbI rfl (must (zy hh) (must (zbe (hs.2.1.2 _ (zbw hh _))) rfl))
theorem zWI:uY 142 zKV:=kF2 zhw zi zbh zBb (zl []) z3h
def zb0 (h:Host)(m g:Int):Bool:=bif zbF h then (cond (hasB m (ln h.Mons)) (hasB g (ln (ix h.Mons m mZ).Guests)) false) else false
@[simp] abbrev zhd (h:Host)(m g:Int):Bool:=pc (zbA h)
@[simp] abbrev zjy (h:Host)(m g:Int):Bool:=zb0 h m g
def zLl:Run:=rF3 dH dI dI fun b c d=>(zhd b c d,[aB (zjy b c d)])
def zVK (N:Nat)(a0:Host)(a1 a2:Int):OA:=
 let y0:=(wsub .i64 (ln (ix a0.Mons a1 zh).Guests) 1); (oN (zfg a0) (cond (zff a0) (oN (zO a1 0 (wsub .i64 (ln a0.Mons) 1)) (cond (zT a1 0 (wsub .i64 (ln a0.Mons) 1)) (oN (inb a1 (ln a0.Mons)) (oN (zO a2 0 y0) (some [(aB (zT a2 0 y0))]))) oF)) oF))
theorem z3I (a0:Host)(a1 a2:Int)(hc:zhd a0 a1 a2=true):∃N,zVK N a0 a1 a2=some [aB (zjy a0 a1 a2)]:=by
 have hs:=(zF a0).1 (zu.1 hc);refine ⟨0,?_⟩;unfold zVK zjy zb0 oN
 conv=>zeta
 refine must rfl ?_;rw[show zff a0=zbF a0 from rfl]
 cases hh:zbF a0
 .rfl
 .rw [show zT a1 0 (wsub .i64 (ln a0.Mons) 1)=hasB a1 (ln a0.Mons) from zrK hs.2.1.1 a1]
  refine must rfl (must rfl ?_);cases h1:hasB a1 (ln a0.Mons)
  .rfl
  .have hg:(ix a0.Mons a1 mZ).Guests.length<=1048576:=(hs.2.1.2 _ (zbw h1 _)).2.2.2.1.1;rw[show zT a2 0 (wsub .i64 (ln (ix a0.Mons a1 zh).Guests) 1)=hasB a2 (ln (ix a0.Mons a1 mZ).Guests) from zrK hg a2]
   exact must rfl (must (zy h1) (must rfl rfl))
theorem zW9:uY 110 zLl:=kF3 zhw zi zbh zBb (zl []) z3I
def zlN (h:Host)(m:Int):Nat->Nat->List (List Int)
 | 0,_=>[]
 | n+1,i=>zlM h m (i:Int) :: zlN h m n (i+1)
theorem zCa (h:Host)(m:Int):∀(n i:Nat),(zlN h m n i).length=n
 | 0,_=>rfl
 | n+1,i=>by simp[zlN,zCa h m n]
def zC (h:Host)(m:Int):Bare:=bif hasB m (ln h.Mons) then ⟨zlN h m 8 0,(ix h.Mons m mZ).Guests,(ix h.Mons m mZ).Outs,(ix h.Mons m mZ).Pending⟩ else ⟨[],[],[],0⟩
theorem zV3 {ρ:Type}(h:Host)(m:Int)(K:List (List Int)->Option ρ):∀(n i:Nat) (acc:List (List Int)),acc.length+n<=2147483648 ->
 goN (fun i acc κ=>bif few (ln (ap acc [zlM h m (i:Int)])) then κ (ap acc [zlM h m (i:Int)]) else none) K n i acc=K (acc++zlN h m n i)
 | 0,_,acc,_=>by simp[goN,zlN]
 | n+1,i,acc,hl=>by
  simp only[goN,zlN];rw[zdK (by simp[ap];omega),cT,zV3 h m K n (i+1) _ (by simp[ap];omega)]
  simp[ap]
@[simp] abbrev zea (h:Host)(m:Int):Bool:=pc (zbA h)
@[simp] abbrev zc5 (h:Host)(m:Int):Bare:=zC h m
def zbbN:zY:=[(142,zKV),(110,zLl)]++zrS
theorem zZE:zJ zbbN:=zf zWI (zf zW9 zhw)
def zGF:Run:=rF2 dH dI fun b c=>(zea b c,[aT .bare (zc5 b c)])
def zNZ (N:Nat)(a0:Host)(a1:Int):OA:=
 (oN (zsZ a0 a1) (cond (nB (zlx a0 a1)) (some [(aT .bare (⟨[],[],[],0⟩:Bare))]) (iter (σ:=(Int×(Int×(Int×(Int×(lM×(lN×(lE×(lE×(lM×(lG×((List Int)×(lM×(lG×((List Int)×Unit))))))))))))))) N (fun r3 s4=>let y3:=s4.2.2.2.2.2.2.2.2.2.2.2.2.1;let y2:=s4.2.2.2.2.2.2.2.2.2.2.2.2.2.1;let y0:=(⟨s4.2.2.2.2.1,s4.2.2.2.2.2.1,s4.2.2.2.2.2.2.1,s4.2.2.2.2.2.2.2.1⟩:Host);let y1:=(ap s4.2.2.2.2.2.2.2.2.2.2.2.1 [(zBR y0 s4.1 s4.2.1)]); (cond (ilt s4.2.1 8) (oN (zBS y0 s4.1 s4.2.1) (oN (few (ln y1)) (r3 (s4.1,((zB .i64 s4.2.1 1),(s4.2.2.1,(s4.2.2.2.1,(s4.2.2.2.2.1,(s4.2.2.2.2.2.1,(s4.2.2.2.2.2.2.1,(s4.2.2.2.2.2.2.2.1,(s4.2.2.2.2.2.2.2.2.1,(s4.2.2.2.2.2.2.2.2.2.1,(s4.2.2.2.2.2.2.2.2.2.2.1,(y1,(y3,(y2,()))))))))))))))))) (some [(aT .bare (⟨s4.2.2.2.2.2.2.2.2.2.2.2.1,y3,y2,s4.2.2.2.1⟩:Bare))]))) (a1,(0,(0,((zca a0 a1).Pending,(a0.Memory,(a0.Mons,(a0.Buffer,(a0.IoBuffer,([],([],([],([],((zca a0 a1).Guests,((zca a0 a1).Outs,())))))))))))))))))
def z2f:FuncId->Nat->Option Tmpl:=zl [(159,0,{ n:=39,tm:=[(1,ti),(2,.lp 0 0),(4,.lp 1 0),(7,.lp 2 0),(8,ti)],lo:=[(0,[.sl 0 [],.sl 1 [],.sl 2 [],.sl 3 []]),(1,[.sl 4 [],.sl 5 [],.sl 6 [],ti]),(2,[.sl 7 [],.sl 8 [],.sl 9 [],ti])],ro:=[(0,(.sl .int),false),(1,.mon,false),(2,.entry,false),(3,.entry,false),(4,(.sl .int),true),(5,.guest,true),(6,.int,true),(7,(.sl .int),true),(8,.guest,true),(9,.int,true)] })]
theorem z0v (a0:Host)(a1:Int)(hc:zea a0 a1=true):∃N,zNZ N a0 a1=some [aT .bare (zc5 a0 a1)]:=by
 have hs:=zu.1 hc;refine zbo fun N hNN=>?_;unfold zNZ zc5 zC oN nB
 conv=>zeta
 refine must (zbe hs) ?_;rw[show zlx a0 a1=hasB a1 (ln a0.Mons) from rfl]
 cases hh:hasB a1 (ln a0.Mons)
 .rfl
 .refine zbI rfl ?_;refine (zBZ 8 (fun i (t:lM)=>(a1,(i:Int),0,(zca a0 a1).Pending,a0.Memory,a0.Mons,a0.Buffer,a0.IoBuffer,[],[],[],t,(zca a0 a1).Guests,(zca a0 a1).Outs,())) _ (fun i (acc:List (List Int)) κ=>bif few (ln (ap acc [zlM a0 a1 (i:Int)])) then κ (ap acc [zlM a0 a1 (i:Int)]) else none) (fun (t:lM)=>(some [(.agg (Ty.cells .bare (⟨t,(zca a0 a1).Guests,(zca a0 a1).Outs,(zca a0 a1).Pending⟩:Bare)))])) (fun i hi t rec=>?_) (fun t rec=>?_) _ ([]) (hNN (by decide))).trans ?_
  .simp only [show ilt (i:Int) 8=true from qL (by omega),zL hi (show 8<=big by decide),cT]
   exact must (zbe hs) rfl
  .simp only [show ilt (((8:Nat)):Int) 8=false from qH (by omega),cF]
  rw[zV3 a0 a1 _ 8 0 [] (by decide)]
  simp only[zca,hh,cT,jP]
theorem zSA:uY 159 zGF:=kF2 zZE zi zbh zBb z2f z0v
theorem z3V:zcZ zCC=true:=by decide
theorem z4x {p:Nat->Bool}:∀{n i q:Nat},zvz p n i=true->i<=q->q<i+n->p q=true
 | 0,i,q,_,h1,h2=>by omega
 | n+1,i,q,h,h1,h2=>by
  simp only[zvz,qE]at h
  by_cases he:i=q
  .subst he;exact h.1
  .exact z4x h.2 (by omega) (by omega)
theorem z8z {h:Host}{m:Int}(hh:zbF h=true)(hm:hasB m (ln h.Mons)=true){p:Int}(hp:hasB p 8=true):zcZ (zlM h m p)=true:=by
 have hk:=zgV hh _ (zbw hm mZ);have hsh:=zNn hk;have hmem:h.Memory.all zcZ=true:=by
  unfold zbF at hh;simp only[zcM]at hh;have h1:=hh.1;unfold zi2 at h1;simp only[zcM]at h1;exact h1.1
 unfold zlM;rw[hm,hp];simp only[cT];have hsl:zdB (ix h.Mons m mZ).Outer p=ix (ix h.Mons m mZ).Outer p sZ:=by
  unfold zdB;rw[zda hsh.1 hp];rfl
 rw[hsl];have hAt:∀(mm:List (List Int)) (q:Int),(hasB q (ln mm)=true->zcZ (ix mm q [])=true)->zcZ (zis mm q)=true:=by
  intro mm q hq;unfold zis;cases h1:hasB q (ln mm)
  .exact z3V
  .exact hq h1
 cases hpg:ine (ix (ix h.Mons m mZ).Outer p sZ).Page (-1)
 .refine hAt _ _ (fun hq=>?_);obtain ⟨q,rfl,hq8⟩:=zdn (n:=8) hp;have hfit:fits (ix h.Mons m mZ) q=true:=by
   unfold zen at hk;simp only[zcM]at hk;exact z4x hk.2.2.2.2.2.2.2.2.2.2 (by omega) (by omega)
  unfold fits zH7 at hfit;have hno:zc0 (ix (ix h.Mons m mZ).Outer (q:Int) sZ) noSlot=true:=by
   rw[(zuS (zgV hh _ (zbw hm mZ)) hp).no];rw[zh0]at hpg;cases h1:ieq (ix (ix h.Mons m mZ).Outer (q:Int) sZ).Page (-1)
   .rw [h1]at hpg;cases hpg
   .rfl
  rw[hno]at hfit;exact hfit
 .exact hAt _ _ (fun hq=>qU.1 hmem _ (zbw hq _))
theorem zWi {h:Host}{m:Int}(hh:zbF h=true)(hm:hasB m (ln h.Mons)=true):∀(n i:Nat),i+n<=8->(zlN h m n i).all zcZ=true
 | 0,_,_=>rfl
 | n+1,i,hi=>by
  simp only[zlN,uH,qE];exact ⟨z8z hh hm (qL (by omega)),zWi hh hm n (i+1) (by omega)⟩
theorem zrR {h:Host}{m:Int}(hh:zbF h=true)(hm:hasB m (ln h.Mons)=true):zbQ (zC h m)=true:=by
 have hk:=zgV hh _ (zbw hm mZ);unfold zen at hk;simp only[zcM]at hk;unfold zC zbQ zi2;rw[hm];simp only[cT,hk.2.2.2.2.2.2.2.2.2.1,zWi hh hm 8 0 (by decide),ln,zCa]
 simp only[ln]at hk;rw[hk.1,hk.2.2.2.2.2.1,hk.2.2.2.2.2.2.1];rfl
def znM:zY:=[(159,zGF)]++zbbN
theorem zhx:zJ znM:=zf zSA zZE
def zdW (l:List Mon):List (List Guest):=l.map fun x=>x.Guests
theorem zBL {l:List Mon}{m:Int}{x:Mon}(hm:hasB m (ln l)=true)(hx:x.Guests=(ix l m mZ).Guests):zdW (up l m x)=zdW l:=by
 obtain ⟨k,rfl,hk⟩:=zdn (n:=l.length) hm;unfold zdW up;rw[List.map_set,kC,hx,zS hk];have:=@uJ _ (l.map fun x=>x.Guests) k (by simpa using hk)
 simpa using this
theorem zPa {l l':List Mon}(h:zdW l'=zdW l)(m:Int):(ix l' m mZ).Guests=(ix l m mZ).Guests:=by
 unfold zdW at h;have h2:(l'.map fun x=>x.Guests)[m.toNat]?=(l.map fun x=>x.Guests)[m.toNat]?:=by rw[h]
 rw[qN,qN]at h2;unfold ix;simp only[kE];cases h3:l'[m.toNat]? <;> cases h4:l[m.toNat]? <;> rw [h3,h4]at h2<;>simp at h2 ⊢;exact h2
theorem zuq {h:Host}{m p:Int}{s:Slot}(hm:hasB m (ln h.Mons)=true):zdW (zdO h m p s).Mons=zdW h.Mons:=by
 rw[(zfb h m p s).1];exact zBL hm rfl
theorem z4N {h:Host}{m p:Int}(hm:hasB m (ln h.Mons)=true):zdW (zfr h m p).Mons=zdW h.Mons:=(zuq (h:=zf2 h m p) (zei hm)).trans (zBL hm rfl)
theorem zbcR {h:Host}(hf:Fit h):zdW (zdr h).Mons=zdW h.Mons:=by
 unfold zdr;cases h0:ieq (ln (zcF h)) 0
 .rfl
 .exact z4N (zH6 hf h0).1
theorem zO9 {h:Host}{m p:Int}(hf:Fit h)(hm:hasB m (ln h.Mons)=true):zdW (fetched h m p).Mons=zdW h.Mons:=by
 have hr:=zrk hf hm;exact ((zuq (h:=landing (zdr h) m p (ix (zcF (zdr h)) 0 0)) (zei hr)).trans (zBL hr rfl)).trans (zbcR hf)
theorem zZS {h:Host}{m p n:Int}(hm:hasB m (ln h.Mons)=true):zdW (zmy h m p n).Mons=zdW h.Mons:=by
 have hd:zdW (zbR h m p).Mons=zdW h.Mons:=zBL hm rfl;unfold zmy;cases ieq (wand .i64 n 2) 0
 .unfold opened;cases ieq (wand .i64 (ix (ix (zbR h m p).Mons m mZ).Outer p sZ).Rights 2) 0
  .exact hd
  .exact (zuq (h:=zbR h m p) (zei hm)).trans hd
 .rfl
theorem zV4 {h:Host}{m p n:Int}(hf:Fit h)(hm:hasB m (ln h.Mons)=true)(hp:hasB p 8=true):zdW (mended h m p n).Mons=zdW h.Mons:=by
 unfold mended;cases ieq (ix (ix h.Mons m mZ).Outer p sZ).Page (-1)
 .exact zZS hm
 .exact (zZS (zia hf hm hp).2).trans (zO9 hf hm)
theorem zbd5 {l l':List Mon}(h:zdW l'=zdW l):l'.length=l.length:=by
 have:=congrArg List.length h;simpa [zdW] using this
abbrev kZ:Kept:=Ty.dflt .kept
theorem zbe5 {x:Guest}(hk:zdl x=true){p n:Int}(hw:zgK x.Live p n=true):hasB (zcK x.Live p n) 8=true:=by
 have ht:zdy x.Live 4 8=true:=by
  unfold zdl at hk;simp only[qE]at hk;exact hk.2.2.2.2.1
 unfold zcK;rw[hw];simp only[cT];unfold zgK at hw;cases h1:ieq (zdB x.Live p).Page (-1)
 .unfold zdB at h1 ⊢;cases h2:hasB p (ln x.Live)
  .rw [h2]at h1;cases h1
  .rw [h2]at h1;simp only[cT]at h1 ⊢;unfold zdy at ht;simp only[zcM]at ht;have hs:=qU.1 ht.1 _ (zbw h2 sZ);unfold zeW at hs;cases h3:zc0 (ix x.Live p sZ) noSlot
   .rw [h3]at hs;simp only[cF,zcM]at hs;have:=zfo.1 hs.2.1;rw[show wsub .i64 8 1=7 from rfl] at this
    show hasB (ix x.Live p sZ).Page 8=true
    exact qL (by omega)
   .unfold zc0 at h3;rw[qE]at h3;have:(ix x.Live p sZ).Page = -1:=qD h3.1;rw[show ieq (ix x.Live p zM).Page (-1)=true from qL this]at h1
    cases h1
 .rw [h1]at hw;cases hw
def zdq (h:Host)(m g:Int):List Slot:=(ix (ix h.Mons m mZ).Guests g gZ).Live
def zcI (h:Host)(m g:Int):Kept:=ix (ix h.Mons m mZ).Tables g kZ
def zuo (h:Host)(io:Bool):List Entry:=bif io then h.IoBuffer else h.Buffer
def zvL (b:List Entry)(m g page:Int):Option Entry:=zBC b (zgy m g) page
def zkw (b:List Entry)(m g page need:Int):Bool:=bif (zvL b m g page).isSome then enough ((zvL b m g page).getD ⟨0,0,0,0⟩).Rights need else false
def zez (h:Host)(m g page need:Int):Bool:=bif znu (zcI h m g) page then (cond (ieq (zfz (zcI h m g) page).Page (-1)) true (!enough (zfz (zcI h m g) page).Rights need)) else true
def zcS (h:Host)(m g page:Int):Host:={ h with Mons:=up h.Mons m { ix h.Mons m mZ with Tables:=up (ix h.Mons m mZ).Tables g (filled (zcI h m g) (zdq h m g) (ix h.Mons m mZ).Outer page) } }
def zbbX (h:Host)(m g page:Int):Entry:=⟨zgy m g,page,(zfz (zcI h m g) page).Page,(zfz (zcI h m g) page).Rights⟩
def zYS (h:Host)(m g page:Int)(io:Bool):Host:=bif io then { h with IoBuffer:=zGi h.IoBuffer (zbbX h m g page) } else { h with Buffer:=zGi h.Buffer (zbbX h m g page) }
def zeX (h:Host)(m g page:Int)(io:Bool):Host×Int×Bool:=(zYS h m g page io,(zfz (zcI h m g) page).Page,true)
def ziq (h:Host)(b:List Entry)(m g page need q:Int)(io:Bool):Host×Int×Bool :=
 bif zkw b m g page need then (h,((zvL b m g page).getD ⟨0,0,0,0⟩).Host,true)
 else (cond (zez h m g page need) (zeX (zcS (mended h m q need) m g page) m g page io) (zeX h m g page io))
def zhJ (need:Int):Bool:=bif ieq need 1 then true else ieq need 2
def zbK (h:Host)(m g page need:Int):Bool:=bif zb0 h m g then (cond (zhJ need) (zgK (zdq h m g) page need) false) else false
def lookOf (h:Host)(b:List Entry)(m g page need:Int)(io:Bool):Host×Int×Bool :=
 bif zbK h m g page need then ziq (cond (ieq need 2) (zbR h m (zcK (zdq h m g) page need)) h) b m g page need (zcK (zdq h m g) page need) io else (h,-1,false)
structure Kp (h r:Host):Prop where
 shape:Shape r
 gs:zdW r.Mons=zdW h.Mons
theorem Kp.has {h r:Host}(k:Kp h r){m:Int}(hm:hasB m (ln h.Mons)=true):hasB m (ln r.Mons)=true:=by
 rw[ln,zbd5 k.gs];exact hm
theorem z6R {h:Host}{m g page:Int}(hs:Shape h)(hm:hasB m (ln h.Mons)=true)(hg:hasB g (ln (ix h.Mons m mZ).Guests)=true):Shape (zcS h m g page):=by
 obtain ⟨g1,g2⟩:=zbY hs hm;have ht:hasB g (ln (ix h.Mons m mZ).Tables)=true:=by rw[ln,g2.2.2.2];exact hg
 exact zfS hs ⟨g1.1,g1.2.1,g1.2.2.1,g1.2.2.2.1,g1.2.2.2.2.1,zvr g1.2.2.2.2.2 (z6V (g1.2.2.2.2.2.2 _ (zbw ht _)))⟩ ⟨g2.1,g2.2.1,g2.2.2.1,by simpa using g2.2.2.2⟩
theorem z8g {h r:Host}{m g page:Int}{io:Bool}(k:Kp h r):Kp h (zYS r m g page io):=by
 obtain ⟨⟨h1,h2,h3,h4⟩,h5⟩:=k.shape;unfold zYS;cases io
 .exact ⟨⟨⟨h1,h2,(zCd _ h3).1,h4⟩,h5⟩,k.gs⟩
 .exact ⟨⟨⟨h1,h2,h3,(zCd _ h4).1⟩,h5⟩,k.gs⟩
structure LookAt (h:Host) (m g q need:Int):Prop where
 fit:Fit h
 hm:hasB m (ln h.Mons)=true
 hg:hasB g (ln (ix h.Mons m mZ).Guests)=true
 hq:hasB q 8=true
 hn:need=1\/need=2
 hs:SlotFit (ix (ix h.Mons m mZ).Outer q sZ)
theorem LookAt.mend {h:Host}{m g q need:Int}(A:LookAt h m g q need):zZc h m q need:=⟨A.fit,A.hm,A.hq,A.hn,A.hs⟩
theorem LookAt.kp {h:Host}{m g q need:Int}(A:LookAt h m g q need):Kp h (mended h m q need):=⟨(zqN A.fit A.hm A.hq).1,zV4 A.fit A.hm A.hq⟩
theorem LookAt.fill {h:Host}{m g q need:Int}(A:LookAt h m g q need)(page:Int):Kp h (zcS (mended h m q need) m g page):=by
 have k:=A.kp;have hg:hasB g (ln (ix (mended h m q need).Mons m mZ).Guests)=true:=by rw[zPa k.gs];exact A.hg
 have e:zdW (zcS (mended h m q need) m g page).Mons=zdW (mended h m q need).Mons:=zBL (k.has A.hm) rfl;exact ⟨z6R k.shape (k.has A.hm) hg,e.trans k.gs⟩
theorem zZ7 {h:Host}{b:List Entry}{m g page need q:Int}{io:Bool}(A:LookAt h m g q need):Kp h (ziq h b m g page need q io).1:=by
 unfold ziq;cases zkw b m g page need
 .cases zez h m g page need
  .exact z8g ⟨A.fit.1,rfl⟩
  .exact z8g (A.fill page)
 .exact ⟨A.fit.1,rfl⟩
theorem zcs {h:Host}{m g:Int}(hh:zb0 h m g=true):zbF h=true/\hasB m (ln h.Mons)=true/\hasB g (ln (ix h.Mons m mZ).Guests)=true:=by
 unfold zb0 at hh;simp only[zcM]at hh;exact hh
theorem z6f {h:Host}{m g:Int}(hh:zb0 h m g=true):zdl (ix (ix h.Mons m mZ).Guests g gZ)=true:=by
 obtain ⟨h1,h2,h3⟩:=zcs hh;have hk:=zgV h1 _ (zbw h2 mZ);unfold zen at hk;simp only[zcM]at hk;exact qU.1 hk.2.2.2.2.2.2.2.2.2.1 _ (zbw h3 _)
theorem zQ5 {n:Int}(h:zhJ n=true):n=1\/n=2:=by
 unfold zhJ at h;cases h1:ieq n 1
 .rw [h1]at h;exact .inr (qD h)
 .exact .inl (qD h1)
theorem zGd {h:Host}{m g page need:Int}(hs:SmH h)(hh:zbK h m g page need=true) :
 LookAt h m g (zcK (zdq h m g) page need) need/\LookAt (zbR h m (zcK (zdq h m g) page need)) m g (zcK (zdq h m g) page need) need:=by
 unfold zbK at hh;simp only[zcM]at hh;obtain ⟨h1,h2,h3⟩:=hh;obtain ⟨g1,g2,g3⟩:=zcs h1;have hq:hasB (zcK (zdq h m g) page need) 8=true:=zbe5 (z6f h1) h3;have hsl:=zuS (zgV g1 _ (zbw g2 mZ)) hq;have hf:=zdz hs g1;refine ⟨⟨hf,g2,g3,hq,zQ5 h2,hsl⟩,⟨z2T hf g2,zei g2,?_,hq,zQ5 h2,?_⟩⟩
 .have e:zdW (zbR h m (zcK (zdq h m g) page need)).Mons=zdW h.Mons:=zBL g2 rfl;rw[zPa e];exact g3
 .obtain ⟨k,rfl,hk⟩:=zdn (n:=h.Mons.length) g2;unfold zbR;rw[zcT hk];exact hsl
theorem zvj {h:Host}{b:List Entry}{m g page need:Int}{io:Bool}(hs:SmH h)(hh:zb0 h m g=true):Kp h (lookOf h b m g page need io).1:=by
 have hf:=zdz hs (zcs hh).1;unfold lookOf;cases h1:zbK h m g page need
 .exact ⟨hf.1,rfl⟩
 .obtain ⟨A,B⟩:=zGd hs h1;simp only[cT];cases ieq need 2
  .exact zZ7 A
  .have k:=zZ7 (b:=b) (page:=page) (io:=io) B;have e:zdW (zbR h m (zcK (zdq h m g) page need)).Mons=zdW h.Mons:=zBL A.hm rfl;exact ⟨k.shape,k.gs.trans e⟩
def zj2 (x:Host×Int×Bool):List AV:=[.agg (zW x.1),.one (.i .i64 x.2.1),.one (.b x.2.2)]
theorem zhp {h:Host}{b:List Entry}{m g page need:Int}{io:Bool}(hh:zbK h m g page need=false):lookOf h b m g page need io=(h,-1,false):=by
 unfold lookOf;rw[hh];rfl
theorem zoZ {h:Host}{m g page need:Int}(hh:zb0 h m g=false):zbK h m g page need=false:=by
 unfold zbK;rw[hh];rfl
theorem zR9 {h:Host}{m g:Int}(hh:zbF h=false):zb0 h m g=false:=by
 unfold zb0;rw[hh];rfl
theorem zSa {h:Host}{m g:Int}(hh:hasB m (ln h.Mons)=false):zb0 h m g=false:=by
 unfold zb0;rw[hh];cases zbF h<;>rfl
theorem zSb {h:Host}{m g:Int}(hh:hasB g (ln (ix h.Mons m mZ).Guests)=false):zb0 h m g=false:=by
 unfold zb0;rw[hh];cases zbF h<;>cases hasB m (ln h.Mons)<;>rfl
theorem zSc {h:Host}{m g:Int}(h1:zbF h=true)(h2:hasB m (ln h.Mons)=true)(h3:hasB g (ln (ix h.Mons m mZ).Guests)=true):zb0 h m g=true:=by
 unfold zb0;rw[h1,h2,h3];rfl
structure LookF (r:Host) (m g:Int):Prop where
 hm:hasB m (ln r.Mons)=true
 hg:hasB g (ln (ix r.Mons m mZ).Guests)=true
 ht:hasB g (ln (ix r.Mons m mZ).Tables)=true
 hk:SmK (zcI r m g)
 hb:r.Buffer.length<=1048576
 hi:r.IoBuffer.length<=1048576
theorem zmv {h r:Host}{m g:Int}(k:Kp h r)(hm:hasB m (ln h.Mons)=true)(hg:hasB g (ln (ix h.Mons m mZ).Guests)=true):LookF r m g:=by
 obtain ⟨g1,g2⟩:=zbY k.shape (k.has hm);have hg':hasB g (ln (ix r.Mons m mZ).Guests)=true:=by rw[zPa k.gs];exact hg
 have ht:hasB g (ln (ix r.Mons m mZ).Tables)=true:=by rw[ln,g2.2.2.2];exact hg'
 exact ⟨k.has hm,hg',ht,g1.2.2.2.2.2.2 _ (zbw ht _),k.shape.1.2.2.1,k.shape.1.2.2.2⟩
@[simp] abbrev zkW (h:Host)(b:List Entry)(m g page need:Int)(io:Bool):Bool:=pc (zbA h)
@[simp] abbrev ze2 (h:Host)(b:List Entry)(m g page need:Int)(io:Bool):Host:=(lookOf h b m g page need io).1
@[simp] abbrev zkV (h:Host)(b:List Entry)(m g page need:Int)(io:Bool):Int:=(lookOf h b m g page need io).2.1
@[simp] abbrev zhc (h:Host)(b:List Entry)(m g page need:Int)(io:Bool):Bool:=(lookOf h b m g page need io).2.2
def ztX:List AV->Option (Bool×List AV)
 | [.agg [.s (.sl .int) c,.s .mon d,.s .entry e,.s .entry f],.one (.s .entry g),.one (.i .i64 h),.one (.i .i64 j),.one (.i .i64 k),.one (.i .i64 l),.one (.b m)]=>some ((zkW (⟨c,d,e,f⟩:Host) g h j k l m),[aH (ze2 (⟨c,d,e,f⟩:Host) g h j k l m),aI (zkV (⟨c,d,e,f⟩:Host) g h j k l m),aB (zhc (⟨c,d,e,f⟩:Host) g h j k l m)])
 | _=>none
abbrev zWz (u9_11:lM)(u9_12:lN)(u9_13:lE)(u9_14:lE)(u9_0:Int)(u9_5:Int)(u9_3:Int):Mon :=
 (ix (zo6 (⟨u9_11,u9_12,u9_13,u9_14⟩:Host) u9_0 u9_5 u9_3).Mons u9_0 zh)
abbrev zWA (a0:Host)(a2 a3:Int)(a4 a5:Int):Int :=
 (zks (ix (ix a0.Mons a2 zh).Guests a3 zo).Live a4 a5)
def zRZ (N:Nat)(u11_0:Int)(u11_2:lM)(u11_3:lN)(u11_4:lE)(u11_5:lE):OA:=
 (some [(aH (⟨u11_2,u11_3,u11_4,u11_5⟩:Host)),(aI u11_0),(aB true)])
def zqX (N:Nat)(u10_0:Int)(u10_1:Bool)(u10_2:Int)(u10_7:Int)(u10_8:Int)(u10_9:lM)(u10_10:lN)(u10_11:lE)(u10_12:lE)(u10_13:lM)(u10_14:lN)(u10_15:lE)(u10_16:lE):OA:=
 let y0:=(⟨u10_2,u10_0,u10_7,u10_8⟩:Entry); (share (fun (s11:(Int×(Int×(lM×(lN×(lE×(lE×(lM×(lN×(lE×(lE×Unit)))))))))))=>(zRZ N s11.1 s11.2.2.1 s11.2.2.2.1 s11.2.2.2.2.1 s11.2.2.2.2.2.1)) (fun r11=>(cond u10_1 (oN (zqF u10_12 y0) (r11 (u10_7,(u10_8,(u10_9,(u10_10,(u10_11,((zqE u10_12 y0),(u10_13,(u10_14,(u10_15,(u10_16,())))))))))))) (oN (zqF u10_11 y0) (r11 (u10_7,(u10_8,(u10_9,(u10_10,((zqE u10_11 y0),(u10_12,(u10_13,(u10_14,(u10_15,(u10_16,())))))))))))))))
def ztC (N:Nat)(u9_11:lM)(u9_12:lN)(u9_13:lE)(u9_14:lE)(u9_0:Int)(u9_5:Int)(u9_3:Int)(u9_1:Int)(u9_2:Int)(r10:((Int×(Bool×(Int×(Int×(Int×(Int×(Int×(Int×(Int×(lM×(lN×(lE×(lE×(lM×(lN×(lE×(lE×Unit))))))))))))))))))->OA)(u9_4:Bool)(u9_6:Int)(u9_7:Int)(u9_8:Int)(u9_9:Int)(u9_10:Int)(u9_15:lM)(u9_16:lN)(u9_17:lE)(u9_18:lE):OA:=
 let y7:=(⟨u9_11,u9_12,u9_13,u9_14⟩:Host);let y1:=(zo6 y7 u9_0 u9_5 u9_3);let y3:=(inb u9_0 (ln y1.Mons));let y0:=(zWz u9_11 u9_12 u9_13 u9_14 u9_0 u9_5 u9_3);let y6:=(ix y0.Tables u9_1 zcu);let y4:=(ix y0.Guests u9_1 zo).Live; (oN (znI y7 u9_0 u9_5 u9_3) (oN y3 (oN y3 (oN (inb u9_1 (ln y0.Tables)) (oN y3 (oN (inb u9_1 (ln y0.Guests)) (oN y3 (oN (zNt y6 y4 y0.Outer u9_2) (oN (inb u9_1 (ln y0.Tables)) (share (up y1.Mons u9_0 ({ y0 with Tables:=(up y0.Tables u9_1 (zRq y6 y4 y0.Outer u9_2)) }:Mon)) (fun x11=>let y5:=(ix x11 u9_0 zh).Tables;let y2:=(ix y5 u9_1 zcu); (oN (inb u9_0 (ln x11)) (oN (inb u9_1 (ln y5)) (oN (zIb y2 u9_2) (r10 (u9_2,(u9_4,(u9_6,(u9_7,(u9_8,(u9_9,(u9_10,((zvo y2 u9_2).Page,((zvo y2 u9_2).Rights,(y1.Memory,(x11,(y1.Buffer,(y1.IoBuffer,(u9_15,(u9_16,(u9_17,(u9_18,()))))))))))))))))))))))))))))))))
def zl3 (N:Nat)(u9_0:Int)(u9_1:Int)(u9_2:Int)(u9_3:Int)(u9_4:Bool)(u9_5:Int)(u9_6:Int)(u9_7:Int)(u9_8:Int)(u9_9:Int)(u9_10:Int)(u9_11:lM)(u9_12:lN)(u9_13:lE)(u9_14:lE)(u9_15:lM)(u9_16:lN)(u9_17:lE)(u9_18:lE):OA:=
 let y3:=(ix u9_12 u9_0 zh).Tables;let y0:=(ix y3 u9_1 zcu);let y2:=(zvo y0 u9_2); (oN (inb u9_0 (ln u9_12)) (oN (inb u9_1 (ln y3)) (oN (zIb y0 u9_2) (share (fun (s10:(Int×(Bool×(Int×(Int×(Int×(Int×(Int×(Int×(Int×(lM×(lN×(lE×(lE×(lM×(lN×(lE×(lE×Unit))))))))))))))))))=>(zqX N s10.1 s10.2.1 s10.2.2.1 s10.2.2.2.2.2.2.2.1 s10.2.2.2.2.2.2.2.2.1 s10.2.2.2.2.2.2.2.2.2.1 s10.2.2.2.2.2.2.2.2.2.2.1 s10.2.2.2.2.2.2.2.2.2.2.2.1 s10.2.2.2.2.2.2.2.2.2.2.2.2.1 s10.2.2.2.2.2.2.2.2.2.2.2.2.2.1 s10.2.2.2.2.2.2.2.2.2.2.2.2.2.2.1 s10.2.2.2.2.2.2.2.2.2.2.2.2.2.2.2.1 s10.2.2.2.2.2.2.2.2.2.2.2.2.2.2.2.2.1)) (fun r10=>let y1:=(ztC N u9_11 u9_12 u9_13 u9_14 u9_0 u9_5 u9_3 u9_1 u9_2 r10 u9_4 u9_6 u9_7 u9_8 u9_9 u9_10 u9_15 u9_16 u9_17 u9_18); (cond (nB (zIa y0 u9_2)) y1 (cond (ieq y2.Page (-1)) y1 (oN (zgS y2.Rights u9_3) (cond (nB (zhO y2.Rights u9_3)) y1 (r10 (u9_2,(u9_4,(u9_6,(u9_7,(u9_8,(u9_9,(u9_10,(y2.Page,(y2.Rights,(u9_11,(u9_12,(u9_13,(u9_14,(u9_15,(u9_16,(u9_17,(u9_18,())))))))))))))))))))))))))))
def ztD (N:Nat)(a2:Int)(a0:Host)(a3 a4 a5:Int)(a1:lE)(a6:Bool):OA:=
 let y3:=(zvq a2 a3);let y2:=(zWA a0 a2 a3 a4 a5);let y1:=(ix a0.Mons a2 zh);let y5:=(ix y1.Guests a3 zo).Live;let y0:=(zn3 a1 y3 a4);let y4:=y0.Rights; (oN (inb a2 (ln a0.Mons)) (oN (inb a3 (ln y1.Guests)) (oN (zt3 y5 a4 a5) (cond (nB (zkt y5 a4 a5)) (some [(aH a0),(aI (-1)),(aB false)]) (oN (zlT a2 a3) (cond (ieq a5 2) (oN (inb a2 (ln a0.Mons)) (oN (inb y2 (ln y1.Dirty)) (share (up a0.Mons a2 ({ y1 with Dirty:=(up y1.Dirty y2 true) }:Mon)) (fun x8=>(oN (zn4 a1 y3 a4) (share (fun (s9:(Int×(Int×(Int×(Int×(Bool×(Int×(Int×(Int×(Int×(Int×(Int×(lM×(lN×(lE×(lE×(lM×(lN×(lE×(lE×Unit))))))))))))))))))))=>(zl3 N s9.1 s9.2.1 s9.2.2.1 s9.2.2.2.1 s9.2.2.2.2.1 s9.2.2.2.2.2.1 s9.2.2.2.2.2.2.1 s9.2.2.2.2.2.2.2.1 s9.2.2.2.2.2.2.2.2.1 s9.2.2.2.2.2.2.2.2.2.1 s9.2.2.2.2.2.2.2.2.2.2.1 s9.2.2.2.2.2.2.2.2.2.2.2.1 s9.2.2.2.2.2.2.2.2.2.2.2.2.1 s9.2.2.2.2.2.2.2.2.2.2.2.2.2.1 s9.2.2.2.2.2.2.2.2.2.2.2.2.2.2.1 s9.2.2.2.2.2.2.2.2.2.2.2.2.2.2.2.1 s9.2.2.2.2.2.2.2.2.2.2.2.2.2.2.2.2.1 s9.2.2.2.2.2.2.2.2.2.2.2.2.2.2.2.2.2.1 s9.2.2.2.2.2.2.2.2.2.2.2.2.2.2.2.2.2.2.1)) (fun r9=>(cond (zkq a1 y3 a4) (oN (zgS y4 a5) (cond (zhO y4 a5) (some [(aH ({ a0 with Mons:=x8 }:Host)),(aI y0.Host),(aB true)]) (r9 (a2,(a3,(a4,(a5,(a6,(y2,(y3,(y0.Tag,(y0.Page,(y0.Host,(y4,(a0.Memory,(x8,(a0.Buffer,(a0.IoBuffer,([],([],([],([],())))))))))))))))))))))) (r9 (a2,(a3,(a4,(a5,(a6,(y2,(y3,(y0.Tag,(y0.Page,(y0.Host,(y4,(a0.Memory,(x8,(a0.Buffer,(a0.IoBuffer,([],([],([],([],())))))))))))))))))))))))))))) (oN (zn4 a1 y3 a4) (share (fun (s8:(Int×(Int×(Int×(Int×(Bool×(Int×(Int×(Int×(Int×(Int×(Int×(lM×(lN×(lE×(lE×(lM×(lN×(lE×(lE×Unit))))))))))))))))))))=>(zl3 N s8.1 s8.2.1 s8.2.2.1 s8.2.2.2.1 s8.2.2.2.2.1 s8.2.2.2.2.2.1 s8.2.2.2.2.2.2.1 s8.2.2.2.2.2.2.2.1 s8.2.2.2.2.2.2.2.2.1 s8.2.2.2.2.2.2.2.2.2.1 s8.2.2.2.2.2.2.2.2.2.2.1 s8.2.2.2.2.2.2.2.2.2.2.2.1 s8.2.2.2.2.2.2.2.2.2.2.2.2.1 s8.2.2.2.2.2.2.2.2.2.2.2.2.2.1 s8.2.2.2.2.2.2.2.2.2.2.2.2.2.2.1 s8.2.2.2.2.2.2.2.2.2.2.2.2.2.2.2.1 s8.2.2.2.2.2.2.2.2.2.2.2.2.2.2.2.2.1 s8.2.2.2.2.2.2.2.2.2.2.2.2.2.2.2.2.2.1 s8.2.2.2.2.2.2.2.2.2.2.2.2.2.2.2.2.2.2.1)) (fun r8=>(cond (zkq a1 y3 a4) (oN (zgS y4 a5) (cond (zhO y4 a5) (some [(aH a0),(aI y0.Host),(aB true)]) (r8 (a2,(a3,(a4,(a5,(a6,(y2,(y3,(y0.Tag,(y0.Page,(y0.Host,(y4,(a0.Memory,(a0.Mons,(a0.Buffer,(a0.IoBuffer,([],([],([],([],())))))))))))))))))))))) (r8 (a2,(a3,(a4,(a5,(a6,(y2,(y3,(y0.Tag,(y0.Page,(y0.Host,(y4,(a0.Memory,(a0.Mons,(a0.Buffer,(a0.IoBuffer,([],([],([],([],()))))))))))))))))))))))))))))))
def zrM (N:Nat)(a0:Host)(a1:lE)(a2 a3:Int)(a4 a5:Int)(a6:Bool):OA:=
 let y1:=(ztD N a2 a0 a3 a4 a5 a1 a6);let y0:=(wsub .i64 (ln (ix a0.Mons a2 zh).Guests) 1); (oN (zfg a0) (cond (nB (zff a0)) (some [(aH a0),(aI (-1)),(aB false)]) (oN (zO a2 0 (wsub .i64 (ln a0.Mons) 1)) (cond (nB (zT a2 0 (wsub .i64 (ln a0.Mons) 1))) (some [(aH a0),(aI (-1)),(aB false)]) (oN (inb a2 (ln a0.Mons)) (oN (zO a3 0 y0) (cond (nB (zT a3 0 y0)) (some [(aH a0),(aI (-1)),(aB false)]) (cond (ine a5 1) (cond (ine a5 2) (some [(aH a0),(aI (-1)),(aB false)]) y1) y1))))))))
def zt6:FuncId->Nat->Option Tmpl:=zl [(133,999999,{ n:=0,tm:=[],lo:=[],ro:=[] }),(133,1007023,{ n:=210,tm:=[(2,ti),(3,ti),(4,ti),(5,ti),(6,.b),(7,.lp 0 0),(14,.lp 1 0),(17,ti),(19,ti),(20,.lp 2 0)],lo:=[(0,[.sl 0 [],.sl 1 [],.sl 2 [],.sl 3 []]),(1,[.sl 4 [],.sl 5 [],.sl 6 [],.sl 7 []]),(2,[ti,ti,ti,ti])],ro:=[(0,(.sl .int),true),(1,.mon,true),(2,.entry,true),(3,.entry,true),(4,(.sl .int),true),(5,.mon,true),(6,.entry,true),(7,.entry,true)],kr:=1 }),(133,1009011,{ n:=210,tm:=[(4,ti),(6,.b),(7,.lp 0 0),(14,.lp 1 0),(19,ti),(20,.lp 2 0),(22,.lp 3 0)],lo:=[(0,[.sl 0 [],.sl 1 [],.sl 2 [],.sl 3 []]),(1,[.sl 4 [],.sl 5 [],.sl 6 [],.sl 7 []]),(2,[ti,ti,ti,ti]),(3,[ti,ti])],ro:=[(0,(.sl .int),true),(1,.mon,true),(2,.entry,true),(3,.entry,true),(4,(.sl .int),true),(5,.mon,true),(6,.entry,true),(7,.entry,true)],kr:=1 }),(133,1005003,{ n:=210,tm:=[(7,.lp 0 0),(14,.lp 1 0),(22,.lp 2 0)],lo:=[(0,[.sl 0 [],.sl 1 [],.sl 2 [],.sl 3 []]),(1,[.sl 4 [],.sl 5 [],.sl 6 [],.sl 7 []]),(2,[ti,ti])],ro:=[(0,(.sl .int),true),(1,.mon,true),(2,.entry,true),(3,.entry,true),(4,(.sl .int),true),(5,.mon,true),(6,.entry,true),(7,.entry,true)],kr:=1 })]
theorem zUJ (N:Nat)(a0:Host)(a2 a3:Int)(a4 a5:Int)(a6:Bool):zYN (cQ znM zom z1x z7c) zt6 N 12 133 [true,true,true,true,false,false,false,false,false,false] [(4,2)] 1 1 [[0],[1],[2],[4],[7]] .mon [aH a0,aS .entry a0.Buffer,aI a2,aI a3,aI a4,aI a5,aB a6]=zrM N a0 a0.Buffer a2 a3 a4 a5 a6:=by kernel_rfl
theorem zUK (N:Nat)(a0:Host)(a2 a3:Int)(a4 a5:Int)(a6:Bool):zYN (cQ znM zom z1x z7c) zt6 N 12 133 [true,true,true,true,false,false,false,false,false,false] [(4,3)] 1 1 [[0],[1],[2],[4],[7]] .mon [aH a0,aS .entry a0.IoBuffer,aI a2,aI a3,aI a4,aI a5,aB a6]=zrM N a0 a0.IoBuffer a2 a3 a4 a5 a6:=by kernel_rfl
theorem zHR {N:Nat}{r:Host}{m g page:Int}{io:Bool}{z1 z2 z3 z4}(hb:r.Buffer.length<=1048576)(hi:r.IoBuffer.length<=1048576) :
 zqX N page io (zgy m g) (zfz (zcI r m g) page).Page (zfz (zcI r m g) page).Rights r.Memory r.Mons r.Buffer r.IoBuffer z1 z2 z3 z4=some (zj2 (zeX r m g page io)):=by
 unfold zqX oN
 conv=>zeta
 refine shr ?_;cases io
 .exact zbI rfl (must (zbe hb) rfl)
 .exact must rfl (must (zbe hi) rfl)
theorem zZN {N:Nat}{r:Host}{m g page need q:Int}{io:Bool}{R:OA}{r11}{u6 u7 u8 u9 u10 z1 z2 z3 z4}(A:LookAt r m g q need)(hr:r11 (page,(io,(u6,(u7,(u8,(u9,(u10,((zfz (zcI (zcS (mended r m q need) m g page) m g) page).Page,((zfz (zcI (zcS (mended r m q need) m g page) m g) page).Rights,((zcS (mended r m q need) m g page).Memory,((zcS (mended r m q need) m g page).Mons,((zcS (mended r m q need) m g page).Buffer,((zcS (mended r m q need) m g page).IoBuffer,(z1,(z2,(z3,(z4,())))))))))))))))))=R) :
 ztC N r.Memory r.Mons r.Buffer r.IoBuffer m q need g page r11 io u6 u7 u8 u9 u10 z1 z2 z3 z4=R:=by
 have M:=zmv A.kp A.hm A.hg;have F:=zmv (A.fill page) A.hm A.hg;unfold ztC oN
 conv=>zeta
 exact must (zbe A.mend) (must (zy M.hm) (must (zy M.hm) (must (zy M.ht) (must (zy M.hm) (must (zy M.hg) (must (zy M.hm) (must (zbe M.hk) (must (zy M.ht) (shr (must (zy F.hm) (must (zy F.ht) (must (zbe F.hk) hr))))))))))))
theorem z5e {r:Host}{m g page need:Int}(h:znu (zcI r m g) page=false):zez r m g page need=true:=by
 unfold zez;rw[h];rfl
theorem z5f {r:Host}{m g page need:Int}(h:ieq (zfz (zcI r m g) page).Page (-1)=true):zez r m g page need=true:=by
 unfold zez;rw[h];cases znu (zcI r m g) page<;>rfl
theorem z5g {r:Host}{m g page need:Int}(h:enough (zfz (zcI r m g) page).Rights need=false):zez r m g page need=true:=by
 unfold zez;rw[h];cases znu (zcI r m g) page<;>cases ieq (zfz (zcI r m g) page).Page (-1)<;>rfl
theorem z5h {r:Host}{m g page need:Int}(h1:znu (zcI r m g) page=true)(h2:ieq (zfz (zcI r m g) page).Page (-1)=false)(h3:enough (zfz (zcI r m g) page).Rights need=true):zez r m g page need=false:=by
 unfold zez;rw[h1,h2,h3];rfl
theorem zvl {r:Host}{m g page need q:Int}{io:Bool}(h:zez r m g page need=true):(cond (zez r m g page need) (zeX (zcS (mended r m q need) m g page) m g page io) (zeX r m g page io))=zeX (zcS (mended r m q need) m g page) m g page io:=by
 rw[h];rfl
theorem z4Q {r:Host}{m g page need q:Int}{io:Bool}(h:zez r m g page need=false):(cond (zez r m g page need) (zeX (zcS (mended r m q need) m g page) m g page io) (zeX r m g page io))=zeX r m g page io:=by
 rw[h];rfl
theorem zHS {N:Nat}{r:Host}{m g page need q:Int}{io:Bool}{u7 u8 u9 u10 z1 z2 z3 z4}(A:LookAt r m g q need) :
 zl3 N m g page need io q (zgy m g) u7 u8 u9 u10 r.Memory r.Mons r.Buffer r.IoBuffer z1 z2 z3 z4=some (zj2 (cond (zez r m g page need) (zeX (zcS (mended r m q need) m g page) m g page io) (zeX r m g page io))):=by
 have M:=zmv ⟨A.fit.1,rfl⟩ A.hm A.hg;have F:=zmv (A.fill page) A.hm A.hg;unfold zl3 oN nB
 conv=>zeta
 refine must (zy M.hm) (must (zy M.ht) (must (zbe M.hk) (shr (brN (fun h1=>?_) (fun h1=>br (fun h2=>?_) (fun h2=>must rfl (brN (fun h3=>?_) (fun h3=>?_))))))))
 .rw [zvl (z5e h1)];exact zZN A (zHR (r:=zcS (mended r m q need) m g page) (m:=m) (g:=g) F.hb F.hi)
 .rw [zvl (z5f h2)];exact zZN A (zHR (r:=zcS (mended r m q need) m g page) (m:=m) (g:=g) F.hb F.hi)
 .rw [zvl (z5g h3)];exact zZN A (zHR (r:=zcS (mended r m q need) m g page) (m:=m) (g:=g) F.hb F.hi)
 .rw [z4Q (z5h h1 h2 h3)];exact zHR (r:=r) (m:=m) (g:=g) M.hb M.hi
theorem zHV {b:List Entry}{m g page need:Int}(h:(zvL b m g page).isSome=false):zkw b m g page need=false:=by
 unfold zkw;rw[h];rfl
theorem zoQ {b:List Entry}{m g page need:Int}{x:Bool}(h1:(zvL b m g page).isSome=true)(h:enough ((zvL b m g page).getD ⟨0,0,0,0⟩).Rights need=x):zkw b m g page need=x:=by
 unfold zkw;rw[h1,h];rfl
theorem zoY {r:Host}{b:List Entry}{m g page need q:Int}{io:Bool}(h:zkw b m g page need=false):ziq r b m g page need q io=bif zez r m g page need then zeX (zcS (mended r m q need) m g page) m g page io else zeX r m g page io:=by
 unfold ziq;rw[h];rfl
theorem zH1 {r:Host}{b:List Entry}{m g page need q:Int}{io:Bool}(h:zkw b m g page need=true):ziq r b m g page need q io=(r,((zvL b m g page).getD ⟨0,0,0,0⟩).Host,true):=by
 unfold ziq;rw[h];rfl
theorem zNk {h:Host}{b:List Entry}{m g page need:Int}{io:Bool}(hh:zbK h m g page need=true):lookOf h b m g page need io=ziq (cond (ieq need 2) (zbR h m (zcK (zdq h m g) page need)) h) b m g page need (zcK (zdq h m g) page need) io:=by
 unfold lookOf;rw[hh];rfl
theorem z7R {N:Nat}{r:Host}{b:List Entry}{m g page need:Int}{io:Bool}(hs:SmH r)(hg:zb0 r m g=true)(hn:zhJ need=true) :
 ztD N m r g page need b io=some (zj2 (lookOf r b m g page need io)):=by
 obtain ⟨g1,g2,g3⟩:=zcs hg;unfold ztD oN nB
 conv=>zeta
 refine must (zy g2) (must (zy g3) (must rfl (brN (fun hw=>?_) (fun hw=>must rfl ?_))))
 .have:zbK r m g page need=false:=by
   unfold zbK;rw[hg,hn,show zgK (zdq r m g) page need=false from hw]
   rfl
  rw[zhp this];rfl
 .have hl:zbK r m g page need=true:=by
   unfold zbK;rw[hg,hn,show zgK (zdq r m g) page need=true from hw]
   rfl
  obtain ⟨A,B⟩:=zGd hs hl;rw[zNk hl];have hd:hasB (zcK (zdq r m g) page need) (ln (ix r.Mons m mZ).Dirty)=true:=zda (zbY A.fit.1 g2).2.2.2.1 A.hq;refine br (fun h2=>?_) (fun h2=>?_)
  .rw [h2]
   show _=some (zj2 (ziq (zbR r m (zcK (zdq r m g) page need)) b m g page need (zcK (zdq r m g) page need) io))
   refine must (zy g2) (must (zy hd) (shr (must rfl (shr (br (fun f1=>must rfl (br (fun f2=>?_) (fun f2=>?_))) (fun f1=>?_))))))
   .rw [zH1 (zoQ f1 f2)];rfl
   .rw [zoY (zoQ f1 f2)];exact zHS (r:=zbR r m (zcK (zdq r m g) page need)) B
   .rw [zoY (zHV f1)];exact zHS (r:=zbR r m (zcK (zdq r m g) page need)) B
  .rw [h2]
   show _=some (zj2 (ziq r b m g page need (zcK (zdq r m g) page need) io))
   refine must rfl (shr (br (fun f1=>must rfl (br (fun f2=>?_) (fun f2=>?_))) (fun f1=>?_)))
   .rw [zH1 (zoQ f1 f2)];rfl
   .rw [zoY (zoQ f1 f2)];exact zHS A
   .rw [zoY (zHV f1)];exact zHS A
theorem zYh (a0:Host)(a1:List Entry)(a2 a3:Int)(a4 a5:Int)(a6:Bool)(hb:zby big [aH a0,aS .entry a1,aI a2,aI a3,aI a4,aI a5,aB a6])(hc:zkW a0 a1 a2 a3 a4 a5 a6=true):∃N,zrM N a0 a1 a2 a3 a4 a5 a6=some [aH (ze2 a0 a1 a2 a3 a4 a5 a6),aI (zkV a0 a1 a2 a3 a4 a5 a6),aB (zhc a0 a1 a2 a3 a4 a5 a6)]:=by
 have hs:=(zF a0).1 (zu.1 hc);refine ⟨0,?_⟩
 show _=some (zj2 (lookOf a0 a1 a2 a3 a4 a5 a6))
 unfold zrM oN nB
 conv=>zeta
 refine must rfl (brN (fun h1=>?_) (fun h1=>must rfl ?_))
 .rw [zhp (zoZ (zR9 h1))];rfl
 rw[show zT a2 0 (wsub .i64 (ln a0.Mons) 1)=hasB a2 (ln a0.Mons) from zrK hs.2.1.1 a2]
 refine brN (fun h2=>?_) (fun h2=>must (zy h2) (must rfl ?_))
 .rw [zhp (zoZ (zSa h2))];rfl
 have hl:(ix a0.Mons a2 mZ).Guests.length<=1048576:=(hs.2.1.2 _ (zbw h2 _)).2.2.2.1.1;rw[show zT a3 0 (wsub .i64 (ln (ix a0.Mons a2 zh).Guests) 1)=hasB a3 (ln (ix a0.Mons a2 mZ).Guests) from zrK hl a3]
 refine brN (fun h3=>?_) (fun h3=>?_)
 .rw [zhp (zoZ (zSb h3))];rfl
 have hg:=zSc h1 h2 h3;have hno:∀{n:Int},zhJ n=false->zbK a0 a2 a3 a4 n=false:=fun {n} h=>by
  unfold zbK;rw[hg,h];rfl
 rw[zh0,zh0];cases h4:ieq a5 1
 .cases h5:ieq a5 2
  .have:zhJ a5=false:=by unfold zhJ;rw[h4,h5];rfl
   rw[zhp (hno this)];rfl
  .exact z7R hs hg (by unfold zhJ;rw[h4,h5];rfl)
 .exact z7R hs hg (by unfold zhJ;rw[h4];rfl)
theorem zQc:zdS Tryz.prog 133 [true,true,true,true,false,false,false,false,false,false] (some (1,1,[[0],[1],[2],[4],[7]])) ztX:=by
 refine zSd (kt:=.mon) (zcP zhx zi zbh zBb) (zdQ (by kernel_rfl)) ?_
 intro al avs rs hal heq hl hr h;have hb:=zi6 hr;have hal':al=[(4,2)]\/al=[(4,3)]:=by
  rw[show zid 133=[[(4,2)],[(4,3)]] from by kernel_rfl]at hal
  simpa using hal
 unfold ztX at h;split at h
 .rename_i a0_0 a0_1 a0_2 a0_3 a1 a2 a3 a4 a5 a6;obtain ⟨hc,rfl⟩:=zdG h;obtain ⟨N,hN⟩:=zYh (⟨a0_0,a0_1,a0_2,a0_3⟩:Host) a1 a2 a3 a4 a5 a6 hb hc;refine ⟨⟨_,rfl⟩,rfl,zt6,N,12,?_⟩;rcases hal' with rfl|rfl
  .have e:=heq 4 2 (by simp)
   simp only[zA,jY,AV.cvs] at e;cases e;exact (zUJ N (⟨a0_0,a0_1,a0_2,a0_3⟩:Host) a2 a3 a4 a5 a6).trans hN
  .have e:=heq 4 3 (by simp)
   simp only[zA,jY,AV.cvs] at e;cases e;exact (zUK N (⟨a0_0,a0_1,a0_2,a0_3⟩:Host) a2 a3 a4 a5 a6).trans hN
 .cases h
def tctN:ze3:=[(133,([true,true,true,true,false,false,false,false,false,false],(some (1,1,[[0],[1],[2],[4],[7]])),ztX))]++z7c
theorem zgz:zdT tctN:=zrI zBb (by
 intro x hx;simp only[qK,jJ,or_false]at hx;rcases hx with rfl
 .exact zQc)
def gOf (h:Host)(m g:Int):Guest:=ix (ix h.Mons m mZ).Guests g gZ
def zgp (h:Host)(m g:Int)(x:Guest):Host:={ h with Mons:=up h.Mons m { ix h.Mons m mZ with Guests:=up (ix h.Mons m mZ).Guests g x } }
def zi1 (h:Host)(m g:Int)(x:Guest)(w:Bool):Host×Int×Bool:=lookOf h h.Buffer m g (zbP (address x)) (zfd w) false
def ziY (L:Host×Int×Bool)(m g:Int)(x:Guest)(w:Bool):Host :=
 bif L.2.2 then (cond w (zgp { L.1 with Memory:=zem L.1.Memory L.2.1 (zfC (address x)) x.A } m g (zbM x)) (zgp L.1 m g (loaded x (cellAt L.1.Memory L.2.1 (zfC (address x))))))
 else zgp L.1 m g (stopped x (zxl (zbP (address x)) w))
def owned (h:Host)(m:Int):Host:=bif ilt (ix h.Mons m mZ).Own 1000000000 then { h with Mons:=up h.Mons m { ix h.Mons m mZ with Own:=zB .i64 (ix h.Mons m mZ).Own 1 } } else h
def zlK (h:Host)(m n:Int):Host:=bif ilt (ln (ix h.Mons m mZ).Outs) 40 then { h with Mons:=up h.Mons m { ix h.Mons m mZ with Outs:=ap (ix h.Mons m mZ).Outs [n] } } else h
def zf7 (h:Host)(m:Int)(x:Guest)(w:Int):Host:=bif (cond (ine w 6) (ieq (zkZ (ix h.Mons m mZ).Traps x.Ctl.Traps (zfn w)) 2) false) then owned h m else h
def zj7 (h:Host)(m:Int)(x:Guest)(w:Int):Host:=bif (cond (zhR x.Ctl.Traps w) (ieq w 5) false) then zlK h m (zdC x.Prog x.Pc).X else h
def zk9 (h:Host)(m g:Int)(x:Guest)(w:Int):Host:=zgp (zj7 (zf7 h m x w) m x w) m g (zf8 x x.Ctl.Traps w)
def zRA (h:Host)(m g:Int)(x:Guest)(w:Int):Host×Bool :=
 bif ieq w 0 then (h,false) else (bif ieq w 1 then (zgp h m g (interrupted x),true) else (bif ieq w 2 then (zgp h m g (plainly x),true) else
  (cond (cond (ieq w 3) true (ieq w 4)) (ziY (zi1 h m g x (ieq w 4)) m g x (ieq w 4),true) (zk9 h m g x w,true))))
def zbm (h:Host)(m g:Int):Host×Bool:=bif zb0 h m g then zRA h m g (gOf h m g) (zG (gOf h m g)) else (h,false)
def zdJ (x:Host×Bool):List AV:=[.agg (zW x.1),.one (.b x.2)]
theorem zku {h:Host}{m g:Int}(hs:SmH h)(hm:hasB m (ln h.Mons)=true)(hg:hasB g (ln (ix h.Mons m mZ).Guests)=true):SmG (gOf h m g):=(hs.2.1.2 _ (zbw hm _)).2.2.2.1.2 _ (zbw hg _)
theorem z6S {h:Host}{m g:Int}{x:Guest}(hs:Shape h)(hm:hasB m (ln h.Mons)=true)(hx:SmG x):Shape (zgp h m g x):=by
 obtain ⟨g1,g2⟩:=zbY hs hm;exact zfS hs ⟨g1.1,g1.2.1,g1.2.2.1,zIj g1.2.2.2.1 hx,g1.2.2.2.2⟩ ⟨g2.1,g2.2.1,g2.2.2.1,by simpa using g2.2.2.2⟩
theorem zbeg (o i t:Int):ieq (zkZ o i t) 1=zdm i t:=by
 unfold zkZ;cases zdm i t
 .cases zdm o t<;>rfl
 .rfl
theorem zbeh {o i t:Int}(h:zdm i t=true):ieq (zkZ o i t) 2=false:=by
 unfold zkZ;rw[h];rfl
theorem zp0 {h:Host}{m:Int}(hm:hasB m (ln h.Mons)=true)(x:Mon):ix (up h.Mons m x) m mZ=x:=by
 obtain ⟨k,rfl,hk⟩:=zdn (n:=h.Mons.length) hm;exact zcT hk _ _
@[simp] abbrev zev (h:Host)(m g:Int):Bool:=pc (zbA h)
@[simp] abbrev zHv (h:Host)(m g:Int):Host:=(zbm h m g).1
@[simp] abbrev zHw (h:Host)(m g:Int):Bool:=(zbm h m g).2
theorem zYO {α:Type}{l:List α}{x:α}(h:ilt (ln l) 40=true):few (ln (ap l [x]))=true:=by
 have:=qD h;simp only[ln] at this;exact zdK (by simp[ap];omega)
theorem z5l {h:Host}{m:Int}{x:Guest}{w:Int}(hh:(cond (zhR x.Ctl.Traps w) (ieq w 5) false)=false):zj7 h m x w=h:=by
 unfold zj7;rw[hh];rfl
theorem zWv {h:Host}{m:Int}{x:Guest}{w:Int}(hh:ilt (ln (ix h.Mons m mZ).Outs) 40=false):zj7 h m x w=h:=by
 unfold zj7 zlK;rw[hh];cases (cond (zhR x.Ctl.Traps w) (ieq w 5) false)<;>rfl
theorem z14 {h:Host}{m:Int}{x:Guest}{w:Int}(h1:zhR x.Ctl.Traps w=true)(h2:ieq w 5=true)(hh:ilt (ln (ix h.Mons m mZ).Outs) 40=true):zj7 h m x w={ h with Mons:=up h.Mons m { ix h.Mons m mZ with Outs:=ap (ix h.Mons m mZ).Outs [(zdC x.Prog x.Pc).X] } }:=by
 unfold zj7 zlK;rw[h1,h2,hh];rfl
theorem zRH {h:Host}{m:Int}{x:Guest}{w:Int}(h1:zhR x.Ctl.Traps w=false):zj7 h m x w=h:=z5l (by rw[h1];rfl)
theorem zHF {h:Host}{m:Int}{x:Guest}{w:Int}(h1:ieq w 5=false):zj7 h m x w=h:=z5l (by rw[h1];cases zhR x.Ctl.Traps w<;>rfl)
theorem zQh (a:Int):(cond (ieq a a) true false)=true:=by rw[zlD];rfl
theorem zht {h:Host}{m g:Int}(hh:zb0 h m g=false):zbm h m g=(h,false):=by
 unfold zbm;rw[hh];rfl
theorem ziV {h:Host}{m g:Int}(hh:zb0 h m g=true):zbm h m g=zRA h m g (gOf h m g) (zG (gOf h m g)):=by
 unfold zbm;rw[hh];rfl
theorem zm1 {a b:Bool}(h:(cond a b false)=true):a=true/\b=true:=by
 cases a
 .cases h
 .exact ⟨rfl,h⟩
theorem zi0 {a b:Bool}(ha:a=true)(hb:b=true):(cond a b false)=true:=by
 rw[ha];exact hb
theorem z5o {h:Host}{m:Int}{x:Guest}{w:Int}(h6:ine w 6=true)(h0:ieq (zkZ (ix h.Mons m mZ).Traps x.Ctl.Traps (zfn w)) 2=true)(h9:ilt (ix h.Mons m mZ).Own 1000000000=true):zf7 h m x w={ h with Mons:=up h.Mons m { ix h.Mons m mZ with Own:=zB .i64 (ix h.Mons m mZ).Own 1 } }:=by
 unfold zf7 owned;rw[h6,h0,h9];rfl
theorem z5m {h:Host}{m:Int}{x:Guest}{w:Int}(h0:ieq (zkZ (ix h.Mons m mZ).Traps x.Ctl.Traps (zfn w)) 2=false):zf7 h m x w=h:=by
 unfold zf7;rw[h0];cases ine w 6<;>rfl
theorem z5n {h:Host}{m:Int}{x:Guest}{w:Int}(h9:ilt (ix h.Mons m mZ).Own 1000000000=false):zf7 h m x w=h:=by
 unfold zf7 owned;rw[h9];cases (cond (ine w 6) (ieq (zkZ (ix h.Mons m mZ).Traps x.Ctl.Traps (zfn w)) 2) false)<;>rfl
theorem zbdp {h:Host}{m:Int}{x:Guest}:zf7 h m x 6=h:=rfl
theorem zoL {h h':Host}{m g:Int}{x:Guest}{w:Int}(e:zf7 h m x w=h'):zk9 h m g x w=zgp (zj7 h' m x w) m g (zf8 x x.Ctl.Traps w):=by
 unfold zk9;rw[e]
theorem zbaL (x:Guest):ieq (zG x) 0=true\/ieq (zG x) 1=true\/ieq (zG x) 2=true\/ieq (zG x) 3=true\/ieq (zG x) 4=true\/ieq (zG x) 5=true\/ieq (zG x) 6=true\/ieq (zG x) 7=true:=by
 cases h0:ieq (zG x) 0
 .cases h1:ieq (zG x) 1
  .cases h2:ieq (zG x) 2
   .cases h3:ieq (zG x) 3
    .cases h4:ieq (zG x) 4
     .cases h5:ieq (zG x) 5
      .cases h6:ieq (zG x) 6
       .exact .inr (.inr (.inr (.inr (.inr (.inr (.inr (z7f x h0 h1 h2 h3 h4 h5 h6)))))))
       .exact .inr (.inr (.inr (.inr (.inr (.inr (.inl rfl))))))
      .exact .inr (.inr (.inr (.inr (.inr (.inl rfl)))))
     .exact .inr (.inr (.inr (.inr (.inl rfl))))
    .exact .inr (.inr (.inr (.inl rfl)))
   .exact .inr (.inr (.inl rfl))
  .exact .inr (.inl rfl)
 .exact .inl rfl
abbrev zD6 (x:Guest):Bool:=bif zeF x then ieq (zG x) 0 else false
def zqd:List AV->Option (Bool×List AV)
 | [.agg [.s .ins c,.i .i64 d,.i .i64 e,.s .slot f,.s .slot g,.i .i64 h,.i .i64 j,.b k,.i .i64 l,.i .i64 m,.i .i64 n,.b o,.i .i64 p,.b q,.s .int r]]=>some ((zD6 (⟨c,d,e,f,g,⟨h,j,k⟩,l,⟨m,n,o,p⟩,q,r⟩:Guest)),[.one (.i .i64 0)])
 | _=>none
theorem zIS:uY 111 zqd:=by
 refine ⟨zb5.1,fun w avs xs rs hrep h=>?_⟩;unfold zqd at h;split at h
 .obtain ⟨hc,rfl⟩:=zdG h;obtain ⟨h1,h2⟩:=zm1 hc;exact zb5.2 w _ xs _ hrep (congr (congrArg (fun c v=>some (c,[AV.one (CV.i .i64 v)])) h1) (qD h2))
 .cases h
def zbcz:zY:=[(111,zqd)]++znM
theorem z5H:zJ zbcz:=zf zIS zhx
@[simp] abbrev zye (h:Host)(m g:Int):Bool:=bif zev h m g then ieq (zG (gOf h m g)) 0 else false
@[simp] abbrev zyc (h:Host)(m g:Int):Host:=(zbm h m g).1
@[simp] abbrev zyd (h:Host)(m g:Int):Bool:=(zbm h m g).2
def zJf:Run:=rF3 dH dI dI fun b c d=>(zye b c d,[aH (zyc b c d),aB (zyd b c d)])
def zw4 (N:Nat)(a0:Host)(a1 a2:Int):OA:=
 let y1:=(zx a0);let y0:=(ix y1.Mons a1 zh).Guests; (oN (zbJ a0) (oN (zhd y1 a1 a2) (cond (nB (zjy y1 a1 a2)) (some [(aH y1),(aB false)]) (oN (inb a1 (ln y1.Mons)) (oN (inb a2 (ln y0)) (oN (zD6 (ix y0 a2 zo)) (some [(aH y1),(aB false)])))))))
abbrev zD7 (x:Guest):Bool:=bif zeF x then ieq (zG x) 1 else false
def zqe:List AV->Option (Bool×List AV)
 | [.agg [.s .ins c,.i .i64 d,.i .i64 e,.s .slot f,.s .slot g,.i .i64 h,.i .i64 j,.b k,.i .i64 l,.i .i64 m,.i .i64 n,.b o,.i .i64 p,.b q,.s .int r]]=>some ((zD7 (⟨c,d,e,f,g,⟨h,j,k⟩,l,⟨m,n,o,p⟩,q,r⟩:Guest)),[.one (.i .i64 1)])
 | _=>none
theorem zIT:uY 111 zqe:=by
 refine ⟨zb5.1,fun w avs xs rs hrep h=>?_⟩;unfold zqe at h;split at h
 .obtain ⟨hc,rfl⟩:=zdG h;obtain ⟨h1,h2⟩:=zm1 hc;exact zb5.2 w _ xs _ hrep (congr (congrArg (fun c v=>some (c,[AV.one (CV.i .i64 v)])) h1) (qD h2))
 .cases h
def zbcA:zY:=[(111,zqe)]++znM
theorem z5I:zJ zbcA:=zf zIT zhx
@[simp] abbrev zyh (h:Host)(m g:Int):Bool:=bif zev h m g then ieq (zG (gOf h m g)) 1 else false
@[simp] abbrev zyf (h:Host)(m g:Int):Host:=(zbm h m g).1
@[simp] abbrev zyg (h:Host)(m g:Int):Bool:=(zbm h m g).2
def zJg:Run:=rF3 dH dI dI fun b c d=>(zyh b c d,[aH (zyf b c d),aB (zyg b c d)])
def zw5 (N:Nat)(a0:Host)(a1 a2:Int):OA:=
 let y2:=(zx a0);let y0:=(ix y2.Mons a1 zh);let y1:=(ix y0.Guests a2 zo); (oN (zbJ a0) (oN (zhd y2 a1 a2) (cond (nB (zjy y2 a1 a2)) (some [(aH y2),(aB false)]) (oN (inb a1 (ln y2.Mons)) (oN (inb a2 (ln y0.Guests)) (oN (zD7 y1) (oN (inb a1 (ln y2.Mons)) (oN (zqC y1) (oN (inb a2 (ln y0.Guests)) (share (up y2.Mons a1 ({ y0 with Guests:=(up y0.Guests a2 (zkr y1)) }:Mon)) (fun x4=>(some [(aH ({ y2 with Mons:=x4 }:Host)),(aB true)]))))))))))))
abbrev zD8 (x:Guest):Bool:=bif zeF x then ieq (zG x) 2 else false
def zqf:List AV->Option (Bool×List AV)
 | [.agg [.s .ins c,.i .i64 d,.i .i64 e,.s .slot f,.s .slot g,.i .i64 h,.i .i64 j,.b k,.i .i64 l,.i .i64 m,.i .i64 n,.b o,.i .i64 p,.b q,.s .int r]]=>some ((zD8 (⟨c,d,e,f,g,⟨h,j,k⟩,l,⟨m,n,o,p⟩,q,r⟩:Guest)),[.one (.i .i64 2)])
 | _=>none
theorem zIU:uY 111 zqf:=by
 refine ⟨zb5.1,fun w avs xs rs hrep h=>?_⟩;unfold zqf at h;split at h
 .obtain ⟨hc,rfl⟩:=zdG h;obtain ⟨h1,h2⟩:=zm1 hc;exact zb5.2 w _ xs _ hrep (congr (congrArg (fun c v=>some (c,[AV.one (CV.i .i64 v)])) h1) (qD h2))
 .cases h
def zbcB:zY:=[(111,zqf)]++znM
theorem z5J:zJ zbcB:=zf zIU zhx
@[simp] abbrev zyk (h:Host)(m g:Int):Bool:=bif zev h m g then ieq (zG (gOf h m g)) 2 else false
@[simp] abbrev zyi (h:Host)(m g:Int):Host:=(zbm h m g).1
@[simp] abbrev zyj (h:Host)(m g:Int):Bool:=(zbm h m g).2
def zJh:Run:=rF3 dH dI dI fun b c d=>(zyk b c d,[aH (zyi b c d),aB (zyj b c d)])
def zw6 (N:Nat)(a0:Host)(a1 a2:Int):OA:=
 let y2:=(zx a0);let y0:=(ix y2.Mons a1 zh);let y1:=(ix y0.Guests a2 zo); (oN (zbJ a0) (oN (zhd y2 a1 a2) (cond (nB (zjy y2 a1 a2)) (some [(aH y2),(aB false)]) (oN (inb a1 (ln y2.Mons)) (oN (inb a2 (ln y0.Guests)) (oN (zD8 y1) (oN (inb a1 (ln y2.Mons)) (oN (zzj y1) (oN (inb a2 (ln y0.Guests)) (share (up y2.Mons a1 ({ y0 with Guests:=(up y0.Guests a2 (ztm y1)) }:Mon)) (fun x4=>(some [(aH ({ y2 with Mons:=x4 }:Host)),(aB true)]))))))))))))
abbrev zD9 (x:Guest):Bool:=bif zeF x then ieq (zG x) 3 else false
def zqg:List AV->Option (Bool×List AV)
 | [.agg [.s .ins c,.i .i64 d,.i .i64 e,.s .slot f,.s .slot g,.i .i64 h,.i .i64 j,.b k,.i .i64 l,.i .i64 m,.i .i64 n,.b o,.i .i64 p,.b q,.s .int r]]=>some ((zD9 (⟨c,d,e,f,g,⟨h,j,k⟩,l,⟨m,n,o,p⟩,q,r⟩:Guest)),[.one (.i .i64 3)])
 | _=>none
theorem zIV:uY 111 zqg:=by
 refine ⟨zb5.1,fun w avs xs rs hrep h=>?_⟩;unfold zqg at h;split at h
 .obtain ⟨hc,rfl⟩:=zdG h;obtain ⟨h1,h2⟩:=zm1 hc;exact zb5.2 w _ xs _ hrep (congr (congrArg (fun c v=>some (c,[AV.one (CV.i .i64 v)])) h1) (qD h2))
 .cases h
def zbcC:zY:=[(111,zqg)]++znM
theorem z5K:zJ zbcC:=zf zIV zhx
@[simp] abbrev zyn (h:Host)(m g:Int):Bool:=bif zev h m g then ieq (zG (gOf h m g)) 3 else false
@[simp] abbrev zyl (h:Host)(m g:Int):Host:=(zbm h m g).1
@[simp] abbrev zym (h:Host)(m g:Int):Bool:=(zbm h m g).2
def zJi:Run:=rF3 dH dI dI fun b c d=>(zyn b c d,[aH (zyl b c d),aB (zym b c d)])
def zw7 (N:Nat)(a0:Host)(a1 a2:Int):OA:=
 let y6:=(zx a0);let y9:=(ix y6.Mons a1 zh).Guests;let y1:=(ix y9 a2 zo);let y7:=(zjG y1);let y8:=(zcp y7);let y4:=(zkV y6 y6.Buffer a1 a2 y8 (zfh false) false);let y0:=(ze2 y6 y6.Buffer a1 a2 y8 (zfh false) false);let y3:=(ix y0.Mons a1 zh);let y5:=(ix y3.Guests a2 zo);let y2:=({ y1 with Prog:=y5.Prog,Written:=y5.Written,Live:=y5.Live,Seen:=y5.Seen }:Guest); (oN (zbJ a0) (oN (zhd y6 a1 a2) (cond (nB (zjy y6 a1 a2)) (some [(aH y6),(aB false)]) (oN (inb a1 (ln y6.Mons)) (oN (inb a2 (ln y9)) (oN (zD9 y1) (oN (zsk y1) (oN (zgq y7) (oN (zuX false) (oN (zkW y6 y6.Buffer a1 a2 y8 (zfh false) false) (cond (nB (zhc y6 y6.Buffer a1 a2 y8 (zfh false) false)) (oN (inb a1 (ln y0.Mons)) (oN (zgq y7) (oN (zn2 y8 false) (oN (zd4 y2 (zg8 y8 false)) (oN (inb a2 (ln y3.Guests)) (share (up y0.Mons a1 ({ y3 with Guests:=(up y3.Guests a2 (zdw y2 (zg8 y8 false))) }:Mon)) (fun x4=>(some [(aH ({ y0 with Mons:=x4 }:Host)),(aB true)])))))))) (oN (inb a1 (ln y0.Mons)) (oN (zjt y7) (oN (zuV y0.Memory y4 (zee y7)) (oN (zCi y2 (zoC y0.Memory y4 (zee y7))) (oN (inb a2 (ln y3.Guests)) (share (up y0.Mons a1 ({ y3 with Guests:=(up y3.Guests a2 (zwO y2 (zoC y0.Memory y4 (zee y7)))) }:Mon)) (fun x4=>(some [(aH ({ y0 with Mons:=x4 }:Host)),(aB true)])))))))))))))))))))
abbrev zEa (x:Guest):Bool:=bif zeF x then ieq (zG x) 4 else false
def zqh:List AV->Option (Bool×List AV)
 | [.agg [.s .ins c,.i .i64 d,.i .i64 e,.s .slot f,.s .slot g,.i .i64 h,.i .i64 j,.b k,.i .i64 l,.i .i64 m,.i .i64 n,.b o,.i .i64 p,.b q,.s .int r]]=>some ((zEa (⟨c,d,e,f,g,⟨h,j,k⟩,l,⟨m,n,o,p⟩,q,r⟩:Guest)),[.one (.i .i64 4)])
 | _=>none
theorem zIW:uY 111 zqh:=by
 refine ⟨zb5.1,fun w avs xs rs hrep h=>?_⟩;unfold zqh at h;split at h
 .obtain ⟨hc,rfl⟩:=zdG h;obtain ⟨h1,h2⟩:=zm1 hc;exact zb5.2 w _ xs _ hrep (congr (congrArg (fun c v=>some (c,[AV.one (CV.i .i64 v)])) h1) (qD h2))
 .cases h
def zbcD:zY:=[(111,zqh)]++znM
theorem z5L:zJ zbcD:=zf zIW zhx
@[simp] abbrev zyq (h:Host)(m g:Int):Bool:=bif zev h m g then ieq (zG (gOf h m g)) 4 else false
@[simp] abbrev zyo (h:Host)(m g:Int):Host:=(zbm h m g).1
@[simp] abbrev zyp (h:Host)(m g:Int):Bool:=(zbm h m g).2
def zJj:Run:=rF3 dH dI dI fun b c d=>(zyq b c d,[aH (zyo b c d),aB (zyp b c d)])
def zw8 (N:Nat)(a0:Host)(a1 a2:Int):OA:=
 let y4:=(zx a0);let y8:=(ix y4.Mons a1 zh).Guests;let y1:=(ix y8 a2 zo);let y9:=(zjG y1);let y5:=(zcp y9);let y7:=(zkV y4 y4.Buffer a1 a2 y5 (zfh true) false);let y0:=(ze2 y4 y4.Buffer a1 a2 y5 (zfh true) false);let y3:=(ix y0.Mons a1 zh);let y6:=(ix y3.Guests a2 zo);let y2:=({ y1 with Prog:=y6.Prog,Written:=y6.Written,Live:=y6.Live,Seen:=y6.Seen }:Guest); (oN (zbJ a0) (oN (zhd y4 a1 a2) (cond (nB (zjy y4 a1 a2)) (some [(aH y4),(aB false)]) (oN (inb a1 (ln y4.Mons)) (oN (inb a2 (ln y8)) (oN (zEa y1) (oN (zsk y1) (oN (zgq y9) (oN (zuX true) (oN (zkW y4 y4.Buffer a1 a2 y5 (zfh true) false) (cond (nB (zhc y4 y4.Buffer a1 a2 y5 (zfh true) false)) (oN (inb a1 (ln y0.Mons)) (oN (zgq y9) (oN (zn2 y5 true) (oN (zd4 y2 (zg8 y5 true)) (oN (inb a2 (ln y3.Guests)) (share (up y0.Mons a1 ({ y3 with Guests:=(up y3.Guests a2 (zdw y2 (zg8 y5 true))) }:Mon)) (fun x4=>(some [(aH ({ y0 with Mons:=x4 }:Host)),(aB true)])))))))) (oN (zjt y9) (oN (zjx y0.Memory y7 (zee y9) y1.A) (oN (inb a1 (ln y0.Mons)) (oN (zCo y2) (oN (inb a2 (ln y3.Guests)) (share (up y0.Mons a1 ({ y3 with Guests:=(up y3.Guests a2 (zwR y2)) }:Mon)) (fun x4=>(some [(aH ({ y0 with Memory:=(zj5 y0.Memory y7 (zee y9) y1.A),Mons:=x4 }:Host)),(aB true)])))))))))))))))))))
abbrev zEb (x:Guest):Bool:=bif zeF x then ieq (zG x) 5 else false
def zqi:List AV->Option (Bool×List AV)
 | [.agg [.s .ins c,.i .i64 d,.i .i64 e,.s .slot f,.s .slot g,.i .i64 h,.i .i64 j,.b k,.i .i64 l,.i .i64 m,.i .i64 n,.b o,.i .i64 p,.b q,.s .int r]]=>some ((zEb (⟨c,d,e,f,g,⟨h,j,k⟩,l,⟨m,n,o,p⟩,q,r⟩:Guest)),[.one (.i .i64 5)])
 | _=>none
theorem zIX:uY 111 zqi:=by
 refine ⟨zb5.1,fun w avs xs rs hrep h=>?_⟩;unfold zqi at h;split at h
 .obtain ⟨hc,rfl⟩:=zdG h;obtain ⟨h1,h2⟩:=zm1 hc;exact zb5.2 w _ xs _ hrep (congr (congrArg (fun c v=>some (c,[AV.one (CV.i .i64 v)])) h1) (qD h2))
 .cases h
def zbcE:zY:=[(111,zqi)]++znM
theorem z5M:zJ zbcE:=zf zIX zhx
@[simp] abbrev zyt (h:Host)(m g:Int):Bool:=bif zev h m g then ieq (zG (gOf h m g)) 5 else false
@[simp] abbrev zyr (h:Host)(m g:Int):Host:=(zbm h m g).1
@[simp] abbrev zys (h:Host)(m g:Int):Bool:=(zbm h m g).2
def zJk:Run:=rF3 dH dI dI fun b c d=>(zyt b c d,[aH (zyr b c d),aB (zys b c d)])
def zw9 (N:Nat)(a0:Host)(a1 a2:Int):OA:=
 let y8:=(zx a0);let y4:=(inb a1 (ln y8.Mons));let y2:=(ix y8.Mons a1 zh);let y10:=(inb a2 (ln y2.Guests));let y0:=(ix y2.Guests a2 zo);let y9:=(ap y2.Outs [(zfR y0.Prog y0.Pc).X]);let y16:=(up y8.Mons a1 ({ y2 with Outs:=y9 }:Mon));let y7:=y0.Ctl.Traps;let y5:=(up y8.Mons a1 ({ y2 with Guests:=(up y2.Guests a2 (zb4 y0 y7 5)) }:Mon)); (oN (zbJ a0) (oN (zhd y8 a1 a2) (cond (nB (zjy y8 a1 a2)) (some [(aH y8),(aB false)]) (oN y4 (oN y10 (oN (zEb y0) (oN y4 (oN (zsA y2.Traps y7 1) (cond (ieq (zo4 y2.Traps y7 1) 2) (oN y4 (cond (ilt y2.Own 1000000000) (oN y4 (oN y4 (share (up y8.Mons a1 ({ y2 with Own:=(zB .i64 y2.Own 1) }:Mon)) (fun x4=>let y12:=(inb a1 (ln x4));let y3:=(ix x4 a1 zh);let y6:=(ix y3.Guests a2 zo);let y17:=(ap y3.Outs [(zfR y6.Prog y0.Pc).X]);let y1:=({ y0 with Prog:=y6.Prog,Written:=y6.Written,Live:=y6.Live,Seen:=y6.Seen }:Guest);let y11:=(up x4 a1 ({ y3 with Guests:=(up y3.Guests a2 (zb4 y1 y7 5)) }:Mon)); (oN (zdF y1 y7 5) (cond (zc8 y1 y7 5) (oN y12 (cond (ilt (ln y3.Outs) 40) (oN y12 (oN (zfw y6.Prog y0.Pc) (oN (few (ln y17)) (oN y12 (oN (cond (ieq a1 a1) true false) (share (up x4 a1 ({ y3 with Outs:=y17 }:Mon)) (fun x5=>let y13:=(ix x5 a1 zh); (oN (inb a1 (ln x5)) (oN (inb a2 (ln y13.Guests)) (share (up x5 a1 ({ y13 with Guests:=(up y13.Guests a2 (zb4 y1 y7 5)) }:Mon)) (fun x6=>(some [(aH ({ y8 with Mons:=x6 }:Host)),(aB true)])))))))))))) (oN y12 (oN (inb a2 (ln y3.Guests)) (share y11 (fun x5=>(some [(aH ({ y8 with Mons:=x5 }:Host)),(aB true)]))))))) (oN y12 (oN (inb a2 (ln y3.Guests)) (share y11 (fun x5=>(some [(aH ({ y8 with Mons:=x5 }:Host)),(aB true)]))))))))))) (oN (zdF y0 y7 5) (cond (zc8 y0 y7 5) (oN y4 (cond (ilt (ln y2.Outs) 40) (oN y4 (oN (zfw y0.Prog y0.Pc) (oN (few (ln y9)) (oN y4 (oN (cond (ieq a1 a1) true false) (share y16 (fun x4=>let y14:=(ix x4 a1 zh); (oN (inb a1 (ln x4)) (oN (inb a2 (ln y14.Guests)) (share (up x4 a1 ({ y14 with Guests:=(up y14.Guests a2 (zb4 y0 y7 5)) }:Mon)) (fun x5=>(some [(aH ({ y8 with Mons:=x5 }:Host)),(aB true)])))))))))))) (oN y4 (oN y10 (share y5 (fun x4=>(some [(aH ({ y8 with Mons:=x4 }:Host)),(aB true)]))))))) (oN y4 (oN y10 (share y5 (fun x4=>(some [(aH ({ y8 with Mons:=x4 }:Host)),(aB true)]))))))))) (oN (zdF y0 y7 5) (cond (zc8 y0 y7 5) (oN y4 (cond (ilt (ln y2.Outs) 40) (oN y4 (oN (zfw y0.Prog y0.Pc) (oN (few (ln y9)) (oN y4 (oN (cond (ieq a1 a1) true false) (share y16 (fun x4=>let y15:=(ix x4 a1 zh); (oN (inb a1 (ln x4)) (oN (inb a2 (ln y15.Guests)) (share (up x4 a1 ({ y15 with Guests:=(up y15.Guests a2 (zb4 y0 y7 5)) }:Mon)) (fun x5=>(some [(aH ({ y8 with Mons:=x5 }:Host)),(aB true)])))))))))))) (oN y4 (oN y10 (share y5 (fun x4=>(some [(aH ({ y8 with Mons:=x4 }:Host)),(aB true)]))))))) (oN y4 (oN y10 (share y5 (fun x4=>(some [(aH ({ y8 with Mons:=x4 }:Host)),(aB true)]))))))))))))))))
abbrev zEc (x:Guest):Bool:=bif zeF x then ieq (zG x) 6 else false
def zqj:List AV->Option (Bool×List AV)
 | [.agg [.s .ins c,.i .i64 d,.i .i64 e,.s .slot f,.s .slot g,.i .i64 h,.i .i64 j,.b k,.i .i64 l,.i .i64 m,.i .i64 n,.b o,.i .i64 p,.b q,.s .int r]]=>some ((zEc (⟨c,d,e,f,g,⟨h,j,k⟩,l,⟨m,n,o,p⟩,q,r⟩:Guest)),[.one (.i .i64 6)])
 | _=>none
theorem zIY:uY 111 zqj:=by
 refine ⟨zb5.1,fun w avs xs rs hrep h=>?_⟩;unfold zqj at h;split at h
 .obtain ⟨hc,rfl⟩:=zdG h;obtain ⟨h1,h2⟩:=zm1 hc;exact zb5.2 w _ xs _ hrep (congr (congrArg (fun c v=>some (c,[AV.one (CV.i .i64 v)])) h1) (qD h2))
 .cases h
def zbcF:zY:=[(111,zqj)]++znM
theorem z5N:zJ zbcF:=zf zIY zhx
@[simp] abbrev zyw (h:Host)(m g:Int):Bool:=bif zev h m g then ieq (zG (gOf h m g)) 6 else false
@[simp] abbrev zyu (h:Host)(m g:Int):Host:=(zbm h m g).1
@[simp] abbrev zyv (h:Host)(m g:Int):Bool:=(zbm h m g).2
def zJl:Run:=rF3 dH dI dI fun b c d=>(zyw b c d,[aH (zyu b c d),aB (zyv b c d)])
def zxa (N:Nat)(a0:Host)(a1 a2:Int):OA:=
 let y3:=(zx a0);let y4:=(inb a1 (ln y3.Mons));let y0:=(ix y3.Mons a1 zh);let y5:=(inb a2 (ln y0.Guests));let y1:=(ix y0.Guests a2 zo);let y2:=(up y3.Mons a1 ({ y0 with Guests:=(up y0.Guests a2 (zb4 y1 y1.Ctl.Traps 6)) }:Mon)); (oN (zbJ a0) (oN (zhd y3 a1 a2) (cond (nB (zjy y3 a1 a2)) (some [(aH y3),(aB false)]) (oN y4 (oN y5 (oN (zEc y1) (oN (zdF y1 y1.Ctl.Traps 6) (cond (zc8 y1 y1.Ctl.Traps 6) (oN y4 (oN y5 (share y2 (fun x4=>(some [(aH ({ y3 with Mons:=x4 }:Host)),(aB true)]))))) (oN y4 (oN y5 (share y2 (fun x4=>(some [(aH ({ y3 with Mons:=x4 }:Host)),(aB true)])))))))))))))
abbrev zEd (x:Guest):Bool:=bif zeF x then ieq (zG x) 7 else false
def zqk:List AV->Option (Bool×List AV)
 | [.agg [.s .ins c,.i .i64 d,.i .i64 e,.s .slot f,.s .slot g,.i .i64 h,.i .i64 j,.b k,.i .i64 l,.i .i64 m,.i .i64 n,.b o,.i .i64 p,.b q,.s .int r]]=>some ((zEd (⟨c,d,e,f,g,⟨h,j,k⟩,l,⟨m,n,o,p⟩,q,r⟩:Guest)),[.one (.i .i64 7)])
 | _=>none
theorem zIZ:uY 111 zqk:=by
 refine ⟨zb5.1,fun w avs xs rs hrep h=>?_⟩;unfold zqk at h;split at h
 .obtain ⟨hc,rfl⟩:=zdG h;obtain ⟨h1,h2⟩:=zm1 hc;exact zb5.2 w _ xs _ hrep (congr (congrArg (fun c v=>some (c,[AV.one (CV.i .i64 v)])) h1) (qD h2))
 .cases h
def zbcG:zY:=[(111,zqk)]++znM
theorem z5O:zJ zbcG:=zf zIZ zhx
@[simp] abbrev zyz (h:Host)(m g:Int):Bool:=bif zev h m g then ieq (zG (gOf h m g)) 7 else false
@[simp] abbrev zyx (h:Host)(m g:Int):Host:=(zbm h m g).1
@[simp] abbrev zyy (h:Host)(m g:Int):Bool:=(zbm h m g).2
def zJm:Run:=rF3 dH dI dI fun b c d=>(zyz b c d,[aH (zyx b c d),aB (zyy b c d)])
def zxb (N:Nat)(a0:Host)(a1 a2:Int):OA:=
 let y9:=(zx a0);let y4:=(inb a1 (ln y9.Mons));let y2:=(ix y9.Mons a1 zh);let y8:=(inb a2 (ln y2.Guests));let y0:=(ix y2.Guests a2 zo);let y6:=y0.Ctl.Traps;let y3:=(up y9.Mons a1 ({ y2 with Guests:=(up y2.Guests a2 (zb4 y0 y6 7)) }:Mon)); (oN (zbJ a0) (oN (zhd y9 a1 a2) (cond (nB (zjy y9 a1 a2)) (some [(aH y9),(aB false)]) (oN y4 (oN y8 (oN (zEd y0) (oN y4 (oN (zsA y2.Traps y6 2) (cond (ieq (zo4 y2.Traps y6 2) 2) (oN y4 (cond (ilt y2.Own 1000000000) (oN y4 (oN y4 (share (up y9.Mons a1 ({ y2 with Own:=(zB .i64 y2.Own 1) }:Mon)) (fun x4=>let y5:=(ix x4 a1 zh);let y7:=(ix y5.Guests a2 zo);let y1:=({ y0 with Prog:=y7.Prog,Written:=y7.Written,Live:=y7.Live,Seen:=y7.Seen }:Guest);let y10:=(up x4 a1 ({ y5 with Guests:=(up y5.Guests a2 (zb4 y1 y6 7)) }:Mon)); (oN (zdF y1 y6 7) (cond (zc8 y1 y6 7) (oN (inb a1 (ln x4)) (oN (inb a2 (ln y5.Guests)) (share y10 (fun x5=>(some [(aH ({ y9 with Mons:=x5 }:Host)),(aB true)]))))) (oN (inb a1 (ln x4)) (oN (inb a2 (ln y5.Guests)) (share y10 (fun x5=>(some [(aH ({ y9 with Mons:=x5 }:Host)),(aB true)]))))))))))) (oN (zdF y0 y6 7) (cond (zc8 y0 y6 7) (oN y4 (oN y8 (share y3 (fun x4=>(some [(aH ({ y9 with Mons:=x4 }:Host)),(aB true)]))))) (oN y4 (oN y8 (share y3 (fun x4=>(some [(aH ({ y9 with Mons:=x4 }:Host)),(aB true)]))))))))) (oN (zdF y0 y6 7) (cond (zc8 y0 y6 7) (oN y4 (oN y8 (share y3 (fun x4=>(some [(aH ({ y9 with Mons:=x4 }:Host)),(aB true)]))))) (oN y4 (oN y8 (share y3 (fun x4=>(some [(aH ({ y9 with Mons:=x4 }:Host)),(aB true)]))))))))))))))))
theorem zI5 (a0:Host)(a1 a2:Int)(hc:zye a0 a1 a2=true):∃N,zw4 N a0 a1 a2=some [aH (zyc a0 a1 a2),aB (zyd a0 a1 a2)]:=by
 obtain ⟨hc,hw⟩:=zm1 hc;have hs:=(zF a0).1 (zu.1 hc);refine ⟨0,?_⟩
 show _=some (zdJ (zbm a0 a1 a2))
 unfold zw4 oN nB
 conv=>zeta
 refine must (zbe ((zF _).2 hs)) (must (zbe ((zF _).2 hs)) (brN (fun hh=>?_) (fun hh=>?_)))
 .rw [zht hh];rfl
 obtain ⟨g1,g2,g3⟩:=zcs hh;have hx:=zku hs g2 g3;have hk:zG (gOf a0 a1 a2)=0:=qD hw;rw[ziV hh,hk];refine must (zy g2) (must (zy g3) (must (zi0 rfl hw) ?_));rfl
theorem zqR:uY 48 zJf:=kF3 z5H zi zbh zgz (zl []) zI5
theorem zI6 (a0:Host)(a1 a2:Int)(hc:zyh a0 a1 a2=true):∃N,zw5 N a0 a1 a2=some [aH (zyf a0 a1 a2),aB (zyg a0 a1 a2)]:=by
 obtain ⟨hc,hw⟩:=zm1 hc;have hs:=(zF a0).1 (zu.1 hc);refine ⟨0,?_⟩
 show _=some (zdJ (zbm a0 a1 a2))
 unfold zw5 oN nB
 conv=>zeta
 refine must (zbe ((zF _).2 hs)) (must (zbe ((zF _).2 hs)) (brN (fun hh=>?_) (fun hh=>?_)))
 .rw [zht hh];rfl
 obtain ⟨g1,g2,g3⟩:=zcs hh;have hx:=zku hs g2 g3;have hk:zG (gOf a0 a1 a2)=1:=qD hw;rw[ziV hh,hk];refine must (zy g2) (must (zy g3) (must (zi0 rfl hw) ?_))
 show _=some (zdJ (zgp a0 a1 a2 (interrupted (gOf a0 a1 a2)),true))
 exact must (zy g2) (must (zbe hx) (must (zy g3) rfl))
theorem zEl:uY 48 zJg:=kF3 z5I zi zbh zgz (zl []) zI6
theorem zI7 (a0:Host)(a1 a2:Int)(hc:zyk a0 a1 a2=true):∃N,zw6 N a0 a1 a2=some [aH (zyi a0 a1 a2),aB (zyj a0 a1 a2)]:=by
 obtain ⟨hc,hw⟩:=zm1 hc;have hs:=(zF a0).1 (zu.1 hc);refine ⟨0,?_⟩
 show _=some (zdJ (zbm a0 a1 a2))
 unfold zw6 oN nB
 conv=>zeta
 refine must (zbe ((zF _).2 hs)) (must (zbe ((zF _).2 hs)) (brN (fun hh=>?_) (fun hh=>?_)))
 .rw [zht hh];rfl
 obtain ⟨g1,g2,g3⟩:=zcs hh;have hx:=zku hs g2 g3;have hk:zG (gOf a0 a1 a2)=2:=qD hw;rw[ziV hh,hk];refine must (zy g2) (must (zy g3) (must (zi0 rfl hw) ?_))
 show _=some (zdJ (zgp a0 a1 a2 (plainly (gOf a0 a1 a2)),true))
 exact must (zy g2) (must (zbe hx) (must (zy g3) rfl))
theorem zEm:uY 48 zJh:=kF3 z5J zi zbh zgz (zl []) zI7
theorem zI8 (a0:Host)(a1 a2:Int)(hc:zyn a0 a1 a2=true):∃N,zw7 N a0 a1 a2=some [aH (zyl a0 a1 a2),aB (zym a0 a1 a2)]:=by
 obtain ⟨hc,hw⟩:=zm1 hc;have hs:=(zF a0).1 (zu.1 hc);refine ⟨0,?_⟩
 show _=some (zdJ (zbm a0 a1 a2))
 unfold zw7 oN nB
 conv=>zeta
 refine must (zbe ((zF _).2 hs)) (must (zbe ((zF _).2 hs)) (brN (fun hh=>?_) (fun hh=>?_)))
 .rw [zht hh];rfl
 obtain ⟨g1,g2,g3⟩:=zcs hh;have hx:=zku hs g2 g3;have hk:zG (gOf a0 a1 a2)=3:=qD hw;rw[ziV hh,hk];refine must (zy g2) (must (zy g3) (must (zi0 rfl hw) ?_))
 show _=some (zdJ (ziY (zi1 a0 a1 a2 (gOf a0 a1 a2) false) a1 a2 (gOf a0 a1 a2) false,true))
 have k:=zvj (b:=a0.Buffer) (page:=zbP (address (gOf a0 a1 a2))) (need:=zfd false) (io:=false) hs hh;have F:=zmv k g2 g3;have e3:(ix (ix (ze2 (zx a0) (zx a0).Buffer a1 a2 (zcp (zjG (ix (ix (zx a0).Mons a1 zh).Guests a2 zo))) (zfh false) false).Mons a1 zh).Guests a2 zo)=(ix (ix (zx a0).Mons a1 zh).Guests a2 zo):=congrArg (fun l=>ix l a2 gZ) (zPa k.gs a1);rw[e3];unfold ziY;refine must rfl (must rfl (must rfl (must (zbe ((zF _).2 hs)) (brN (fun h=>?_) (fun h=>?_)))))
 .rw [show (zi1 a0 a1 a2 (gOf a0 a1 a2) false).2.2=false from h]
  exact must (zy F.hm) (must rfl (must rfl (must (zbe hx) (must (zy F.hg) rfl))))
 .rw [show (zi1 a0 a1 a2 (gOf a0 a1 a2) false).2.2=true from h]
  exact must (zy F.hm) (must rfl (must rfl (must (zbe hx) (must (zy F.hg) rfl))))
theorem zEn:uY 48 zJi:=kF3 z5K zi zbh zgz (zl []) zI8
theorem zI9 (a0:Host)(a1 a2:Int)(hc:zyq a0 a1 a2=true):∃N,zw8 N a0 a1 a2=some [aH (zyo a0 a1 a2),aB (zyp a0 a1 a2)]:=by
 obtain ⟨hc,hw⟩:=zm1 hc;have hs:=(zF a0).1 (zu.1 hc);refine ⟨0,?_⟩
 show _=some (zdJ (zbm a0 a1 a2))
 unfold zw8 oN nB
 conv=>zeta
 refine must (zbe ((zF _).2 hs)) (must (zbe ((zF _).2 hs)) (brN (fun hh=>?_) (fun hh=>?_)))
 .rw [zht hh];rfl
 obtain ⟨g1,g2,g3⟩:=zcs hh;have hx:=zku hs g2 g3;have hk:zG (gOf a0 a1 a2)=4:=qD hw;rw[ziV hh,hk];refine must (zy g2) (must (zy g3) (must (zi0 rfl hw) ?_))
 show _=some (zdJ (ziY (zi1 a0 a1 a2 (gOf a0 a1 a2) true) a1 a2 (gOf a0 a1 a2) true,true))
 have k:=zvj (b:=a0.Buffer) (page:=zbP (address (gOf a0 a1 a2))) (need:=zfd true) (io:=false) hs hh;have F:=zmv k g2 g3;have e3:(ix (ix (ze2 (zx a0) (zx a0).Buffer a1 a2 (zcp (zjG (ix (ix (zx a0).Mons a1 zh).Guests a2 zo))) (zfh true) false).Mons a1 zh).Guests a2 zo)=(ix (ix (zx a0).Mons a1 zh).Guests a2 zo):=congrArg (fun l=>ix l a2 gZ) (zPa k.gs a1);rw[e3];unfold ziY;refine must rfl (must rfl (must rfl (must (zbe ((zF _).2 hs)) (brN (fun h=>?_) (fun h=>?_)))))
 .rw [show (zi1 a0 a1 a2 (gOf a0 a1 a2) true).2.2=false from h]
  exact must (zy F.hm) (must rfl (must rfl (must (zbe hx) (must (zy F.hg) rfl))))
 .rw [show (zi1 a0 a1 a2 (gOf a0 a1 a2) true).2.2=true from h]
  exact must rfl (must (zbe k.shape.1.1) (must (zy F.hm) (must (zbe hx) (must (zy F.hg) rfl))))
theorem zEo:uY 48 zJj:=kF3 z5L zi zbh zgz (zl []) zI9
theorem zbbY {a0:Host}{a1 a2:Int}(hx:SmG (gOf a0 a1 a2))(g2:hasB a1 (ln a0.Mons)=true)(g3:hasB a2 (ln (ix a0.Mons a1 mZ).Guests)=true) :
 (cond (zdF (ix (ix (zx a0).Mons a1 zh).Guests a2 zo) (ix (ix (zx a0).Mons a1 zh).Guests a2 zo).Ctl.Traps 5) (cond (zc8 (ix (ix (zx a0).Mons a1 zh).Guests a2 zo) (ix (ix (zx a0).Mons a1 zh).Guests a2 zo).Ctl.Traps 5) (cond (inb a1 (ln (zx a0).Mons)) (cond (ilt (ln (ix (zx a0).Mons a1 zh).Outs) 40) (cond (inb a1 (ln (zx a0).Mons)) (cond (zfw (ix (ix (zx a0).Mons a1 zh).Guests a2 zo).Prog (ix (ix (zx a0).Mons a1 zh).Guests a2 zo).Pc) (cond (few (ln (ap (ix (zx a0).Mons a1 zh).Outs [(zfR (ix (ix (zx a0).Mons a1 zh).Guests a2 zo).Prog (ix (ix (zx a0).Mons a1 zh).Guests a2 zo).Pc).X]))) (cond (inb a1 (ln (zx a0).Mons)) (cond (cond (ieq a1 a1) true false) (share (up (zx a0).Mons a1 ({ (ix (zx a0).Mons a1 zh) with Outs:=(ap (ix (zx a0).Mons a1 zh).Outs [(zfR (ix (ix (zx a0).Mons a1 zh).Guests a2 zo).Prog (ix (ix (zx a0).Mons a1 zh).Guests a2 zo).Pc).X]) }:Mon)) (fun x4=>(cond (inb a1 (ln x4)) (cond (inb a2 (ln (ix x4 a1 zh).Guests)) (share (up x4 a1 ({ (ix x4 a1 zh) with Guests:=(up (ix x4 a1 zh).Guests a2 (zb4 (ix (ix (zx a0).Mons a1 zh).Guests a2 zo) (ix (ix (zx a0).Mons a1 zh).Guests a2 zo).Ctl.Traps 5)) }:Mon)) (fun x5=>(some [(.agg (zW ({ (zx a0) with Mons:=x5 }:Host))),(.one (.b true))]))) none) none))) none) none) none) none) none) (cond (inb a1 (ln (zx a0).Mons)) (cond (inb a2 (ln (ix (zx a0).Mons a1 zh).Guests)) (share (up (zx a0).Mons a1 ({ (ix (zx a0).Mons a1 zh) with Guests:=(up (ix (zx a0).Mons a1 zh).Guests a2 (zb4 (ix (ix (zx a0).Mons a1 zh).Guests a2 zo) (ix (ix (zx a0).Mons a1 zh).Guests a2 zo).Ctl.Traps 5)) }:Mon)) (fun x4=>(some [(.agg (zW ({ (zx a0) with Mons:=x4 }:Host))),(.one (.b true))]))) none) none)) none) (cond (inb a1 (ln (zx a0).Mons)) (cond (inb a2 (ln (ix (zx a0).Mons a1 zh).Guests)) (share (up (zx a0).Mons a1 ({ (ix (zx a0).Mons a1 zh) with Guests:=(up (ix (zx a0).Mons a1 zh).Guests a2 (zb4 (ix (ix (zx a0).Mons a1 zh).Guests a2 zo) (ix (ix (zx a0).Mons a1 zh).Guests a2 zo).Ctl.Traps 5)) }:Mon)) (fun x4=>(some [(.agg (zW ({ (zx a0) with Mons:=x4 }:Host))),(.one (.b true))]))) none) none)) none)=some (zdJ (zgp (zj7 a0 a1 (gOf a0 a1 a2) 5) a1 a2 (zf8 (gOf a0 a1 a2) (gOf a0 a1 a2).Ctl.Traps 5),true)):=by
 refine must (zbe hx) (br (fun h1=>must (zy g2) (br (fun h3=>?_) (fun h3=>?_))) (fun h1=>?_))
 .rw [z14 (h:=a0) (m:=a1) (x:=gOf a0 a1 a2) (w:=5) h1 rfl h3];refine must (zy g2) (must rfl (must (zYO h3) (must (zy g2) (must (zQh _) (shr (must (zy (zei g2)) (must ?_ rfl)))))));rw[zp0 g2];exact zy g3
 .rw [zWv (h:=a0) (m:=a1) (x:=gOf a0 a1 a2) (w:=5) h3];exact must (zy g2) (must (zy g3) rfl)
 .rw [zRH (h:=a0) (m:=a1) (x:=gOf a0 a1 a2) (w:=5) h1];exact must (zy g2) (must (zy g3) rfl)
theorem zbeQ {a0:Host}{x4:List Mon}{a1 a2:Int}(hx:SmG (gOf a0 a1 a2))(g2:hasB a1 (ln x4)=true)(g3:hasB a2 (ln (ix x4 a1 mZ).Guests)=true)(e:(ix (ix x4 a1 zh).Guests a2 zo)=gOf a0 a1 a2) :
 (cond (zdF ({ (ix (ix (zx a0).Mons a1 zh).Guests a2 zo) with Prog:=(ix (ix x4 a1 zh).Guests a2 zo).Prog,Written:=(ix (ix x4 a1 zh).Guests a2 zo).Written,Live:=(ix (ix x4 a1 zh).Guests a2 zo).Live,Seen:=(ix (ix x4 a1 zh).Guests a2 zo).Seen }:Guest) (ix (ix (zx a0).Mons a1 zh).Guests a2 zo).Ctl.Traps 5) (cond (zc8 ({ (ix (ix (zx a0).Mons a1 zh).Guests a2 zo) with Prog:=(ix (ix x4 a1 zh).Guests a2 zo).Prog,Written:=(ix (ix x4 a1 zh).Guests a2 zo).Written,Live:=(ix (ix x4 a1 zh).Guests a2 zo).Live,Seen:=(ix (ix x4 a1 zh).Guests a2 zo).Seen }:Guest) (ix (ix (zx a0).Mons a1 zh).Guests a2 zo).Ctl.Traps 5) (cond (inb a1 (ln x4)) (cond (ilt (ln (ix x4 a1 zh).Outs) 40) (cond (inb a1 (ln x4)) (cond (zfw (ix (ix x4 a1 zh).Guests a2 zo).Prog (ix (ix (zx a0).Mons a1 zh).Guests a2 zo).Pc) (cond (few (ln (ap (ix x4 a1 zh).Outs [(zfR (ix (ix x4 a1 zh).Guests a2 zo).Prog (ix (ix (zx a0).Mons a1 zh).Guests a2 zo).Pc).X]))) (cond (inb a1 (ln x4)) (cond (cond (ieq a1 a1) true false) (share (up x4 a1 ({ (ix x4 a1 zh) with Outs:=(ap (ix x4 a1 zh).Outs [(zfR (ix (ix x4 a1 zh).Guests a2 zo).Prog (ix (ix (zx a0).Mons a1 zh).Guests a2 zo).Pc).X]) }:Mon)) (fun x5=>(cond (inb a1 (ln x5)) (cond (inb a2 (ln (ix x5 a1 zh).Guests)) (share (up x5 a1 ({ (ix x5 a1 zh) with Guests:=(up (ix x5 a1 zh).Guests a2 (zb4 ({ (ix (ix (zx a0).Mons a1 zh).Guests a2 zo) with Prog:=(ix (ix x4 a1 zh).Guests a2 zo).Prog,Written:=(ix (ix x4 a1 zh).Guests a2 zo).Written,Live:=(ix (ix x4 a1 zh).Guests a2 zo).Live,Seen:=(ix (ix x4 a1 zh).Guests a2 zo).Seen }:Guest) (ix (ix (zx a0).Mons a1 zh).Guests a2 zo).Ctl.Traps 5)) }:Mon)) (fun x6=>(some [(.agg (zW ({ (zx a0) with Mons:=x6 }:Host))),(.one (.b true))]))) none) none))) none) none) none) none) none) (cond (inb a1 (ln x4)) (cond (inb a2 (ln (ix x4 a1 zh).Guests)) (share (up x4 a1 ({ (ix x4 a1 zh) with Guests:=(up (ix x4 a1 zh).Guests a2 (zb4 ({ (ix (ix (zx a0).Mons a1 zh).Guests a2 zo) with Prog:=(ix (ix x4 a1 zh).Guests a2 zo).Prog,Written:=(ix (ix x4 a1 zh).Guests a2 zo).Written,Live:=(ix (ix x4 a1 zh).Guests a2 zo).Live,Seen:=(ix (ix x4 a1 zh).Guests a2 zo).Seen }:Guest) (ix (ix (zx a0).Mons a1 zh).Guests a2 zo).Ctl.Traps 5)) }:Mon)) (fun x5=>(some [(.agg (zW ({ (zx a0) with Mons:=x5 }:Host))),(.one (.b true))]))) none) none)) none) (cond (inb a1 (ln x4)) (cond (inb a2 (ln (ix x4 a1 zh).Guests)) (share (up x4 a1 ({ (ix x4 a1 zh) with Guests:=(up (ix x4 a1 zh).Guests a2 (zb4 ({ (ix (ix (zx a0).Mons a1 zh).Guests a2 zo) with Prog:=(ix (ix x4 a1 zh).Guests a2 zo).Prog,Written:=(ix (ix x4 a1 zh).Guests a2 zo).Written,Live:=(ix (ix x4 a1 zh).Guests a2 zo).Live,Seen:=(ix (ix x4 a1 zh).Guests a2 zo).Seen }:Guest) (ix (ix (zx a0).Mons a1 zh).Guests a2 zo).Ctl.Traps 5)) }:Mon)) (fun x5=>(some [(.agg (zW ({ (zx a0) with Mons:=x5 }:Host))),(.one (.b true))]))) none) none)) none)=some (zdJ (zgp (zj7 { a0 with Mons:=x4 } a1 (gOf a0 a1 a2) 5) a1 a2 (zf8 (gOf a0 a1 a2) (gOf a0 a1 a2).Ctl.Traps 5),true)):=by
 rw[e];refine must (zbe hx) (br (fun h1=>must (zy g2) (br (fun h3=>?_) (fun h3=>?_))) (fun h1=>?_))
 .rw [z14 (h:={ a0 with Mons:=x4 }) (m:=a1) (x:=gOf a0 a1 a2) (w:=5) h1 rfl h3];refine must (zy g2) (must rfl (must (zYO h3) (must (zy g2) (must (zQh _) (shr (must (zy (zei (h:={ a0 with Mons:=x4 }) g2)) (must ?_ rfl)))))));rw[zp0 (h:={ a0 with Mons:=x4 }) g2];exact zy g3
 .rw [zWv (h:={ a0 with Mons:=x4 }) (m:=a1) (x:=gOf a0 a1 a2) (w:=5) h3];exact must (zy g2) (must (zy g3) rfl)
 .rw [zRH (h:={ a0 with Mons:=x4 }) (m:=a1) (x:=gOf a0 a1 a2) (w:=5) h1];exact must (zy g2) (must (zy g3) rfl)
theorem zJa (a0:Host)(a1 a2:Int)(hc:zyt a0 a1 a2=true):∃N,zw9 N a0 a1 a2=some [aH (zyr a0 a1 a2),aB (zys a0 a1 a2)]:=by
 obtain ⟨hc,hw⟩:=zm1 hc;have hs:=(zF a0).1 (zu.1 hc);refine ⟨0,?_⟩
 show _=some (zdJ (zbm a0 a1 a2))
 unfold zw9 oN nB
 conv=>zeta
 refine must (zbe ((zF _).2 hs)) (must (zbe ((zF _).2 hs)) (brN (fun hh=>?_) (fun hh=>?_)))
 .rw [zht hh];rfl
 obtain ⟨g1,g2,g3⟩:=zcs hh;have hx:=zku hs g2 g3;have hk:zG (gOf a0 a1 a2)=5:=qD hw;rw[ziV hh,hk];refine must (zy g2) (must (zy g3) (must (zi0 rfl hw) ?_))
 show _=some (zdJ (zk9 a0 a1 a2 (gOf a0 a1 a2) 5,true))
 refine must (zy g2) (must rfl (br (fun h0=>must (zy g2) (br (fun h9=>must (zy g2) (must (zy g2) (shr ?_))) (fun h9=>?_))) (fun h0=>?_)))
 .rw [zoL (z5o (h:=a0) (m:=a1) (x:=gOf a0 a1 a2) (w:=5) rfl h0 h9)];have eM:=zp0 g2 { ix a0.Mons a1 mZ with Own:=zB .i64 (ix a0.Mons a1 mZ).Own 1 };refine zbeQ hx (zei g2) ?_ ?_
  .show hasB a2 (ln (ix (up a0.Mons a1 _) a1 mZ).Guests)=true
   rw[eM];exact g3
  .show ix (ix (up a0.Mons a1 _) a1 mZ).Guests a2 gZ=_
   rw[eM];rfl
 .rw [zoL (z5n (h:=a0) (m:=a1) (x:=gOf a0 a1 a2) (w:=5) h9)];exact zbbY hx g2 g3
 .rw [zoL (z5m (h:=a0) (m:=a1) (x:=gOf a0 a1 a2) (w:=5) h0)];exact zbbY hx g2 g3
theorem zEp:uY 48 zJk:=kF3 z5M zi zbh zgz (zl []) zJa
theorem zJb (a0:Host)(a1 a2:Int)(hc:zyw a0 a1 a2=true):∃N,zxa N a0 a1 a2=some [aH (zyu a0 a1 a2),aB (zyv a0 a1 a2)]:=by
 obtain ⟨hc,hw⟩:=zm1 hc;have hs:=(zF a0).1 (zu.1 hc);refine ⟨0,?_⟩
 show _=some (zdJ (zbm a0 a1 a2))
 unfold zxa oN nB
 conv=>zeta
 refine must (zbe ((zF _).2 hs)) (must (zbe ((zF _).2 hs)) (brN (fun hh=>?_) (fun hh=>?_)))
 .rw [zht hh];rfl
 obtain ⟨g1,g2,g3⟩:=zcs hh;have hx:=zku hs g2 g3;have hk:zG (gOf a0 a1 a2)=6:=qD hw;rw[ziV hh,hk];refine must (zy g2) (must (zy g3) (must (zi0 rfl hw) ?_))
 show _=some (zdJ (zk9 a0 a1 a2 (gOf a0 a1 a2) 6,true))
 rw[zoL (zbdp (h:=a0) (m:=a1) (x:=gOf a0 a1 a2)),zHF (w:=6) rfl];exact must (zbe hx) (br (fun h1=>must (zy g2) (must (zy g3) rfl)) (fun h1=>must (zy g2) (must (zy g3) rfl)))
theorem zEq:uY 48 zJl:=kF3 z5N zi zbh zgz (zl []) zJb
theorem zbbZ {a0:Host}{a1 a2:Int}(hx:SmG (gOf a0 a1 a2))(g2:hasB a1 (ln a0.Mons)=true)(g3:hasB a2 (ln (ix a0.Mons a1 mZ).Guests)=true) :
 (cond (zdF (ix (ix (zx a0).Mons a1 zh).Guests a2 zo) (ix (ix (zx a0).Mons a1 zh).Guests a2 zo).Ctl.Traps 7) (cond (zc8 (ix (ix (zx a0).Mons a1 zh).Guests a2 zo) (ix (ix (zx a0).Mons a1 zh).Guests a2 zo).Ctl.Traps 7) (cond (inb a1 (ln (zx a0).Mons)) (cond (inb a2 (ln (ix (zx a0).Mons a1 zh).Guests)) (share (up (zx a0).Mons a1 ({ (ix (zx a0).Mons a1 zh) with Guests:=(up (ix (zx a0).Mons a1 zh).Guests a2 (zb4 (ix (ix (zx a0).Mons a1 zh).Guests a2 zo) (ix (ix (zx a0).Mons a1 zh).Guests a2 zo).Ctl.Traps 7)) }:Mon)) (fun x4=>(some [(.agg (zW ({ (zx a0) with Mons:=x4 }:Host))),(.one (.b true))]))) none) none) (cond (inb a1 (ln (zx a0).Mons)) (cond (inb a2 (ln (ix (zx a0).Mons a1 zh).Guests)) (share (up (zx a0).Mons a1 ({ (ix (zx a0).Mons a1 zh) with Guests:=(up (ix (zx a0).Mons a1 zh).Guests a2 (zb4 (ix (ix (zx a0).Mons a1 zh).Guests a2 zo) (ix (ix (zx a0).Mons a1 zh).Guests a2 zo).Ctl.Traps 7)) }:Mon)) (fun x4=>(some [(.agg (zW ({ (zx a0) with Mons:=x4 }:Host))),(.one (.b true))]))) none) none)) none)=some (zdJ (zgp a0 a1 a2 (zf8 (gOf a0 a1 a2) (gOf a0 a1 a2).Ctl.Traps 7),true)) :=
 must (zbe hx) (br (fun h1=>must (zy g2) (must (zy g3) rfl)) (fun h1=>must (zy g2) (must (zy g3) rfl)))
theorem zbeR {a0:Host}{x4:List Mon}{a1 a2:Int}(hx:SmG (gOf a0 a1 a2))(g2:hasB a1 (ln x4)=true)(g3:hasB a2 (ln (ix x4 a1 mZ).Guests)=true)(e:(ix (ix x4 a1 zh).Guests a2 zo)=gOf a0 a1 a2) :
 (cond (zdF ({ (ix (ix (zx a0).Mons a1 zh).Guests a2 zo) with Prog:=(ix (ix x4 a1 zh).Guests a2 zo).Prog,Written:=(ix (ix x4 a1 zh).Guests a2 zo).Written,Live:=(ix (ix x4 a1 zh).Guests a2 zo).Live,Seen:=(ix (ix x4 a1 zh).Guests a2 zo).Seen }:Guest) (ix (ix (zx a0).Mons a1 zh).Guests a2 zo).Ctl.Traps 7) (cond (zc8 ({ (ix (ix (zx a0).Mons a1 zh).Guests a2 zo) with Prog:=(ix (ix x4 a1 zh).Guests a2 zo).Prog,Written:=(ix (ix x4 a1 zh).Guests a2 zo).Written,Live:=(ix (ix x4 a1 zh).Guests a2 zo).Live,Seen:=(ix (ix x4 a1 zh).Guests a2 zo).Seen }:Guest) (ix (ix (zx a0).Mons a1 zh).Guests a2 zo).Ctl.Traps 7) (cond (inb a1 (ln x4)) (cond (inb a2 (ln (ix x4 a1 zh).Guests)) (share (up x4 a1 ({ (ix x4 a1 zh) with Guests:=(up (ix x4 a1 zh).Guests a2 (zb4 ({ (ix (ix (zx a0).Mons a1 zh).Guests a2 zo) with Prog:=(ix (ix x4 a1 zh).Guests a2 zo).Prog,Written:=(ix (ix x4 a1 zh).Guests a2 zo).Written,Live:=(ix (ix x4 a1 zh).Guests a2 zo).Live,Seen:=(ix (ix x4 a1 zh).Guests a2 zo).Seen }:Guest) (ix (ix (zx a0).Mons a1 zh).Guests a2 zo).Ctl.Traps 7)) }:Mon)) (fun x5=>(some [(.agg (zW ({ (zx a0) with Mons:=x5 }:Host))),(.one (.b true))]))) none) none) (cond (inb a1 (ln x4)) (cond (inb a2 (ln (ix x4 a1 zh).Guests)) (share (up x4 a1 ({ (ix x4 a1 zh) with Guests:=(up (ix x4 a1 zh).Guests a2 (zb4 ({ (ix (ix (zx a0).Mons a1 zh).Guests a2 zo) with Prog:=(ix (ix x4 a1 zh).Guests a2 zo).Prog,Written:=(ix (ix x4 a1 zh).Guests a2 zo).Written,Live:=(ix (ix x4 a1 zh).Guests a2 zo).Live,Seen:=(ix (ix x4 a1 zh).Guests a2 zo).Seen }:Guest) (ix (ix (zx a0).Mons a1 zh).Guests a2 zo).Ctl.Traps 7)) }:Mon)) (fun x5=>(some [(.agg (zW ({ (zx a0) with Mons:=x5 }:Host))),(.one (.b true))]))) none) none)) none)=some (zdJ (zgp { a0 with Mons:=x4 } a1 a2 (zf8 (gOf a0 a1 a2) (gOf a0 a1 a2).Ctl.Traps 7),true)):=by
 rw[e];exact must (zbe hx) (br (fun h1=>must (zy g2) (must (zy g3) rfl)) (fun h1=>must (zy g2) (must (zy g3) rfl)))
theorem zJc (a0:Host)(a1 a2:Int)(hc:zyz a0 a1 a2=true):∃N,zxb N a0 a1 a2=some [aH (zyx a0 a1 a2),aB (zyy a0 a1 a2)]:=by
 obtain ⟨hc,hw⟩:=zm1 hc;have hs:=(zF a0).1 (zu.1 hc);refine ⟨0,?_⟩
 show _=some (zdJ (zbm a0 a1 a2))
 unfold zxb oN nB
 conv=>zeta
 refine must (zbe ((zF _).2 hs)) (must (zbe ((zF _).2 hs)) (brN (fun hh=>?_) (fun hh=>?_)))
 .rw [zht hh];rfl
 obtain ⟨g1,g2,g3⟩:=zcs hh;have hx:=zku hs g2 g3;have hk:zG (gOf a0 a1 a2)=7:=qD hw;rw[ziV hh,hk];refine must (zy g2) (must (zy g3) (must (zi0 rfl hw) ?_))
 show _=some (zdJ (zk9 a0 a1 a2 (gOf a0 a1 a2) 7,true))
 refine must (zy g2) (must rfl (br (fun h0=>must (zy g2) (br (fun h9=>must (zy g2) (must (zy g2) (shr ?_))) (fun h9=>?_))) (fun h0=>?_)))
 .rw [zoL (z5o (h:=a0) (m:=a1) (x:=gOf a0 a1 a2) (w:=7) rfl h0 h9),zHF (w:=7) rfl];have eM:=zp0 g2 { ix a0.Mons a1 mZ with Own:=zB .i64 (ix a0.Mons a1 mZ).Own 1 };refine zbeR hx (zei g2) ?_ ?_
  .show hasB a2 (ln (ix (up a0.Mons a1 _) a1 mZ).Guests)=true
   rw[eM];exact g3
  .show ix (ix (up a0.Mons a1 _) a1 mZ).Guests a2 gZ=_
   rw[eM];rfl
 .rw [zoL (z5n (h:=a0) (m:=a1) (x:=gOf a0 a1 a2) (w:=7) h9),zHF (w:=7) rfl];exact zbbZ hx g2 g3
 .rw [zoL (z5m (h:=a0) (m:=a1) (x:=gOf a0 a1 a2) (w:=7) h0),zHF (w:=7) rfl];exact zbbZ hx g2 g3
theorem zEr:uY 48 zJm:=kF3 z5O zi zbh zgz (zl []) zJc
def zrt:List AV->Option (Bool×List AV)
 | [.agg [.s (.sl .int) b,.s .mon c,.s .entry d,.s .entry e],.one (.i .i64 f),.one (.i .i64 g)]=>some ((zev (⟨b,c,d,e⟩:Host) f g),[aH (zHv (⟨b,c,d,e⟩:Host) f g),aB (zHw (⟨b,c,d,e⟩:Host) f g)])
 | _=>none
theorem zME:uY 48 zrt:=by
 refine ⟨zqR.1,fun w avs xs rs hrep h=>?_⟩;unfold zrt at h;split at h
 .rename_i a0_0 a0_1 a0_2 a0_3 a1 a2;obtain ⟨hc,rfl⟩:=zdG h;rcases zbaL (gOf (⟨a0_0,a0_1,a0_2,a0_3⟩:Host) a1 a2) with e|e|e|e|e|e|e|e
  .exact zqR.2 w _ xs _ hrep (congrArg (fun c=>some (c,zdJ (zbm (⟨a0_0,a0_1,a0_2,a0_3⟩:Host) a1 a2))) (zi0 hc e))
  .exact zEl.2 w _ xs _ hrep (congrArg (fun c=>some (c,zdJ (zbm (⟨a0_0,a0_1,a0_2,a0_3⟩:Host) a1 a2))) (zi0 hc e))
  .exact zEm.2 w _ xs _ hrep (congrArg (fun c=>some (c,zdJ (zbm (⟨a0_0,a0_1,a0_2,a0_3⟩:Host) a1 a2))) (zi0 hc e))
  .exact zEn.2 w _ xs _ hrep (congrArg (fun c=>some (c,zdJ (zbm (⟨a0_0,a0_1,a0_2,a0_3⟩:Host) a1 a2))) (zi0 hc e))
  .exact zEo.2 w _ xs _ hrep (congrArg (fun c=>some (c,zdJ (zbm (⟨a0_0,a0_1,a0_2,a0_3⟩:Host) a1 a2))) (zi0 hc e))
  .exact zEp.2 w _ xs _ hrep (congrArg (fun c=>some (c,zdJ (zbm (⟨a0_0,a0_1,a0_2,a0_3⟩:Host) a1 a2))) (zi0 hc e))
  .exact zEq.2 w _ xs _ hrep (congrArg (fun c=>some (c,zdJ (zbm (⟨a0_0,a0_1,a0_2,a0_3⟩:Host) a1 a2))) (zi0 hc e))
  .exact zEr.2 w _ xs _ hrep (congrArg (fun c=>some (c,zdJ (zbm (⟨a0_0,a0_1,a0_2,a0_3⟩:Host) a1 a2))) (zi0 hc e))
 .cases h
@[simp] abbrev zuE (h:Host)(m g page need:Int)(io:Bool):Bool:=pc (zbA h)
@[simp] abbrev zuB (h:Host)(m g page need:Int)(io:Bool):Host:=(lookOf h (zuo h io) m g page need io).1
@[simp] abbrev zuC (h:Host)(m g page need:Int)(io:Bool):Int:=(lookOf h (zuo h io) m g page need io).2.1
@[simp] abbrev zuD (h:Host)(m g page need:Int)(io:Bool):Bool:=(lookOf h (zuo h io) m g page need io).2.2
def zGM:Run:=rF6 dH dI dI dI dI dB fun b c d e f g=>(zuE b c d e f g,[aH (zuB b c d e f g),aI (zuC b c d e f g),aB (zuD b c d e f g)])
abbrev zY1 (u9_10:lM)(u9_11:lN)(u9_12:lE)(u9_13:lE)(u9_0:Int)(u9_4:Int)(u9_3:Int):Mon :=
 (ix (zoh (⟨u9_10,u9_11,u9_12,u9_13⟩:Host) u9_0 u9_4 u9_3).Mons u9_0 zh)
def ztp (N:Nat)(u10_0:Int)(u10_1:Int)(u10_2:Int)(u10_3:Int)(u10_8:lM)(u10_9:lN)(u10_10:lE)(u10_11:lE):OA:=
 let y0:=(⟨u10_1,u10_0,u10_2,u10_3⟩:Entry); (oN (zpG u10_11 y0) (some [(aH (⟨u10_8,u10_9,u10_10,(zpF u10_11 y0)⟩:Host)),(aI u10_2),(aB true)]))
def zvu (N:Nat)(u9_10:lM)(u9_11:lN)(u9_12:lE)(u9_13:lE)(u9_0:Int)(u9_4:Int)(u9_3:Int)(u9_1:Int)(u9_2:Int)(r10:((Int×(Int×(Int×(Int×(lM×(lN×(lE×(lE×(lM×(lN×(lE×(lE×Unit)))))))))))))->OA)(u9_5:Int)(u9_6:lM)(u9_7:lN)(u9_8:lE)(u9_9:lE):OA:=
 let y6:=(⟨u9_10,u9_11,u9_12,u9_13⟩:Host);let y1:=(zoh y6 u9_0 u9_4 u9_3);let y0:=(zY1 u9_10 u9_11 u9_12 u9_13 u9_0 u9_4 u9_3);let y5:=(ix y0.Tables u9_1 zcu);let y3:=(ix y0.Guests u9_1 zo).Live; (oN (zv7 y6 u9_0 u9_4 u9_3) (oN (inb u9_0 (ln y1.Mons)) (oN (inb u9_1 (ln y0.Tables)) (oN (inb u9_1 (ln y0.Guests)) (oN (zMP y5 y3 y0.Outer u9_2) (oN (inb u9_1 (ln y0.Tables)) (share (up y1.Mons u9_0 ({ y0 with Tables:=(up y0.Tables u9_1 (zQg y5 y3 y0.Outer u9_2)) }:Mon)) (fun x11=>let y4:=(ix x11 u9_0 zh).Tables;let y2:=(ix y4 u9_1 zcu); (oN (inb u9_1 (ln y4)) (oN (zz2 y2 u9_2) (r10 (u9_2,(u9_5,((zvf y2 u9_2).Page,((zvf y2 u9_2).Rights,(u9_6,(u9_7,(u9_8,(u9_9,(y1.Memory,(x11,(y1.Buffer,(y1.IoBuffer,())))))))))))))))))))))))
def zpa (N:Nat)(u9_11:lN)(u9_0:Int)(u9_1:Int)(u9_2:Int)(u9_10:lM)(u9_12:lE)(u9_13:lE)(u9_4:Int)(u9_3:Int)(r10:((Int×(Int×(Int×(Int×(lM×(lN×(lE×(lE×(lM×(lN×(lE×(lE×Unit)))))))))))))->OA)(u9_5:Int)(u9_6:lM)(u9_7:lN)(u9_8:lE)(u9_9:lE):OA:=
 let y1:=(zvu N u9_10 u9_11 u9_12 u9_13 u9_0 u9_4 u9_3 u9_1 u9_2 r10 u9_5 u9_6 u9_7 u9_8 u9_9);let y0:=(ix (ix u9_11 u9_0 zh).Tables u9_1 zcu);let y2:=(zvf y0 u9_2); (cond (nB (zHX y0 u9_2)) y1 (cond (ieq y2.Page (-1)) y1 (oN (zdh y2.Rights u9_3) (cond (nB (zdH y2.Rights u9_3)) y1 (r10 (u9_2,(u9_5,(y2.Page,(y2.Rights,(u9_6,(u9_7,(u9_8,(u9_9,(u9_10,(u9_11,(u9_12,(u9_13,())))))))))))))))))
def ztq (N:Nat)(u9_0:Int)(u9_1:Int)(u9_2:Int)(u9_3:Int)(u9_4:Int)(u9_5:Int)(u9_6:lM)(u9_7:lN)(u9_8:lE)(u9_9:lE)(u9_10:lM)(u9_11:lN)(u9_12:lE)(u9_13:lE):OA:=
 let y0:=(ix u9_11 u9_0 zh).Tables; (oN (inb u9_0 (ln u9_11)) (oN (inb u9_1 (ln y0)) (oN (zz2 (ix y0 u9_1 zcu) u9_2) (share (fun (s10:(Int×(Int×(Int×(Int×(lM×(lN×(lE×(lE×(lM×(lN×(lE×(lE×Unit)))))))))))))=>(ztp N s10.1 s10.2.1 s10.2.2.1 s10.2.2.2.1 s10.2.2.2.2.2.2.2.2.1 s10.2.2.2.2.2.2.2.2.2.1 s10.2.2.2.2.2.2.2.2.2.2.1 s10.2.2.2.2.2.2.2.2.2.2.2.1)) (fun r10=>(zpa N u9_11 u9_0 u9_1 u9_2 u9_10 u9_12 u9_13 u9_4 u9_3 r10 u9_5 u9_6 u9_7 u9_8 u9_9))))))
def ztr (N:Nat)(u10_0:Int)(u10_1:Int)(u10_2:Int)(u10_3:Int)(u10_8:lM)(u10_9:lN)(u10_10:lE)(u10_11:lE):OA:=
 let y0:=(⟨u10_1,u10_0,u10_2,u10_3⟩:Entry); (oN (zpG u10_10 y0) (some [(aH (⟨u10_8,u10_9,(zpF u10_10 y0),u10_11⟩:Host)),(aI u10_2),(aB true)]))
def zts (N:Nat)(u9_0:Int)(u9_1:Int)(u9_2:Int)(u9_3:Int)(u9_4:Int)(u9_5:Int)(u9_6:lM)(u9_7:lN)(u9_8:lE)(u9_9:lE)(u9_10:lM)(u9_11:lN)(u9_12:lE)(u9_13:lE):OA:=
 let y0:=(ix u9_11 u9_0 zh).Tables; (oN (inb u9_0 (ln u9_11)) (oN (inb u9_1 (ln y0)) (oN (zz2 (ix y0 u9_1 zcu) u9_2) (share (fun (s10:(Int×(Int×(Int×(Int×(lM×(lN×(lE×(lE×(lM×(lN×(lE×(lE×Unit)))))))))))))=>(ztr N s10.1 s10.2.1 s10.2.2.1 s10.2.2.2.1 s10.2.2.2.2.2.2.2.2.1 s10.2.2.2.2.2.2.2.2.2.1 s10.2.2.2.2.2.2.2.2.2.2.1 s10.2.2.2.2.2.2.2.2.2.2.2.1)) (fun r10=>(zpa N u9_11 u9_0 u9_1 u9_2 u9_10 u9_12 u9_13 u9_4 u9_3 r10 u9_5 u9_6 u9_7 u9_8 u9_9))))))
def ztt (N:Nat)(u8_0:Int)(u8_1:Int)(u8_2:Int)(u8_3:Int)(u8_4:Bool)(u8_5:Int)(u8_6:lM)(u8_7:lN)(u8_8:lE)(u8_9:lE)(u8_10:lM)(u8_11:lN)(u8_12:lE)(u8_13:lE):OA:=
 let y1:=(aH (⟨u8_10,u8_11,u8_12,u8_13⟩:Host));let y0:=(zvh u8_0 u8_1);let y3:=(zkd u8_12 y0 u8_2);let y2:=(zkd u8_13 y0 u8_2); (cond u8_4 (oN (zs4 u8_0 u8_1) (share (fun (s9:(Int×(Int×(Int×(Int×(Int×(Int×(lM×(lN×(lE×(lE×(lM×(lN×(lE×(lE×Unit)))))))))))))))=>(ztq N s9.1 s9.2.1 s9.2.2.1 s9.2.2.2.1 s9.2.2.2.2.1 s9.2.2.2.2.2.1 s9.2.2.2.2.2.2.1 s9.2.2.2.2.2.2.2.1 s9.2.2.2.2.2.2.2.2.1 s9.2.2.2.2.2.2.2.2.2.1 s9.2.2.2.2.2.2.2.2.2.2.1 s9.2.2.2.2.2.2.2.2.2.2.2.1 s9.2.2.2.2.2.2.2.2.2.2.2.2.1 s9.2.2.2.2.2.2.2.2.2.2.2.2.2.1)) (fun r9=>(oN (znO u8_13 y0 u8_2) (cond (zke u8_13 y0 u8_2) (oN (zdh y2.Rights u8_3) (cond (zdH y2.Rights u8_3) (some [y1,(aI y2.Host),(aB true)]) (r9 (u8_0,(u8_1,(u8_2,(u8_3,(u8_5,(y0,(u8_6,(u8_7,(u8_8,(u8_9,(u8_10,(u8_11,(u8_12,(u8_13,()))))))))))))))))) (r9 (u8_0,(u8_1,(u8_2,(u8_3,(u8_5,(y0,(u8_6,(u8_7,(u8_8,(u8_9,(u8_10,(u8_11,(u8_12,(u8_13,())))))))))))))))))))) (oN (zs4 u8_0 u8_1) (share (fun (s9:(Int×(Int×(Int×(Int×(Int×(Int×(lM×(lN×(lE×(lE×(lM×(lN×(lE×(lE×Unit)))))))))))))))=>(zts N s9.1 s9.2.1 s9.2.2.1 s9.2.2.2.1 s9.2.2.2.2.1 s9.2.2.2.2.2.1 s9.2.2.2.2.2.2.1 s9.2.2.2.2.2.2.2.1 s9.2.2.2.2.2.2.2.2.1 s9.2.2.2.2.2.2.2.2.2.1 s9.2.2.2.2.2.2.2.2.2.2.1 s9.2.2.2.2.2.2.2.2.2.2.2.1 s9.2.2.2.2.2.2.2.2.2.2.2.2.1 s9.2.2.2.2.2.2.2.2.2.2.2.2.2.1)) (fun r9=>(oN (znO u8_12 y0 u8_2) (cond (zke u8_12 y0 u8_2) (oN (zdh y3.Rights u8_3) (cond (zdH y3.Rights u8_3) (some [y1,(aI y3.Host),(aB true)]) (r9 (u8_0,(u8_1,(u8_2,(u8_3,(u8_5,(y0,(u8_6,(u8_7,(u8_8,(u8_9,(u8_10,(u8_11,(u8_12,(u8_13,()))))))))))))))))) (r9 (u8_0,(u8_1,(u8_2,(u8_3,(u8_5,(y0,(u8_6,(u8_7,(u8_8,(u8_9,(u8_10,(u8_11,(u8_12,(u8_13,())))))))))))))))))))))
def ztu (N:Nat)(u7_0:Int)(u7_1:Int)(u7_2:Int)(u7_3:Int)(u7_4:Bool)(u7_8:lM)(u7_9:lN)(u7_10:lE)(u7_11:lE)(u7_12:lM)(u7_13:lN)(u7_14:lE)(u7_15:lE)(u7_19:lG):OA:=
 let y1:=(ix u7_13 u7_0 zh);let y0:=(ix u7_19 u7_1 zo).Live;let y2:=(zhZ y0 u7_2 u7_3); (oN (inb u7_1 (ln u7_19)) (oN (zkh y0 u7_2 u7_3) (cond (nB (zgC y0 u7_2 u7_3)) (some [(aH (⟨u7_12,u7_13,u7_14,u7_15⟩:Host)),(aI (-1)),(aB false)]) (share (fun (s8:(Int×(Int×(Int×(Int×(Bool×(Int×(lM×(lN×(lE×(lE×(lM×(lN×(lE×(lE×Unit)))))))))))))))=>(ztt N s8.1 s8.2.1 s8.2.2.1 s8.2.2.2.1 s8.2.2.2.2.1 s8.2.2.2.2.2.1 s8.2.2.2.2.2.2.1 s8.2.2.2.2.2.2.2.1 s8.2.2.2.2.2.2.2.2.1 s8.2.2.2.2.2.2.2.2.2.1 s8.2.2.2.2.2.2.2.2.2.2.1 s8.2.2.2.2.2.2.2.2.2.2.2.1 s8.2.2.2.2.2.2.2.2.2.2.2.2.1 s8.2.2.2.2.2.2.2.2.2.2.2.2.2.1)) (fun r8=>(cond (ieq u7_3 2) (oN (inb u7_0 (ln u7_13)) (oN (inb y2 (ln y1.Dirty)) (share (up u7_13 u7_0 ({ y1 with Dirty:=(up y1.Dirty y2 true) }:Mon)) (fun x9=>r8 (u7_0,(u7_1,(u7_2,(u7_3,(u7_4,(y2,(u7_8,(u7_9,(u7_10,(u7_11,(u7_12,(x9,(u7_14,(u7_15,())))))))))))))))))) (r8 (u7_0,(u7_1,(u7_2,(u7_3,(u7_4,(y2,(u7_8,(u7_9,(u7_10,(u7_11,(u7_12,(u7_13,(u7_14,(u7_15,())))))))))))))))))))))
def zN6 (N:Nat)(a0:Host)(a1 a2:Int)(a3 a4:Int)(a5:Bool):OA:=
 let y1:=(zI a0);let y0:=(zca a0 a1); (oN (zbb a0) (oN (zsZ a0 a1) (share (fun (s7:(Int×(Int×(Int×(Int×(Bool×(Int×(Int×(Int×(lM×(lN×(lE×(lE×(lM×(lN×(lE×(lE×(lS×(lM×(lB×(lG×((List Int)×(lK×Unit)))))))))))))))))))))))=>(ztu N s7.1 s7.2.1 s7.2.2.1 s7.2.2.2.1 s7.2.2.2.2.1 s7.2.2.2.2.2.2.2.2.1 s7.2.2.2.2.2.2.2.2.2.1 s7.2.2.2.2.2.2.2.2.2.2.1 s7.2.2.2.2.2.2.2.2.2.2.2.1 s7.2.2.2.2.2.2.2.2.2.2.2.2.1 s7.2.2.2.2.2.2.2.2.2.2.2.2.2.1 s7.2.2.2.2.2.2.2.2.2.2.2.2.2.2.1 s7.2.2.2.2.2.2.2.2.2.2.2.2.2.2.2.1 s7.2.2.2.2.2.2.2.2.2.2.2.2.2.2.2.2.2.2.2.1)) (fun r7=>(oN (zcL a0) (cond (nB (zcG a0)) (some [(aH y1),(aI (-1)),(aB false)]) (cond (nB (zlx a0 a1)) (some [(aH y1),(aI (-1)),(aB false)]) (oN (zbx a2 (ln y0.Guests)) (cond (nB (zbO a2 (ln y0.Guests))) (some [(aH y1),(aI (-1)),(aB false)]) (cond (ine a4 1) (cond (ine a4 2) (some [(aH y1),(aI (-1)),(aB false)]) (r7 (a1,(a2,(a3,(a4,(a5,(y0.Pending,(y0.Traps,(y0.Own,([],([],([],([],(y1.Memory,(y1.Mons,(y1.Buffer,(y1.IoBuffer,(y0.Outer,(y0.Out,(y0.Dirty,(y0.Guests,(y0.Outs,(y0.Tables,())))))))))))))))))))))))) (r7 (a1,(a2,(a3,(a4,(a5,(y0.Pending,(y0.Traps,(y0.Own,([],([],([],([],(y1.Memory,(y1.Mons,(y1.Buffer,(y1.IoBuffer,(y0.Outer,(y0.Out,(y0.Dirty,(y0.Guests,(y0.Outs,(y0.Tables,())))))))))))))))))))))))))))))))))
def z2h:FuncId->Nat->Option Tmpl:=zl [(248,999999,{ n:=0,tm:=[],lo:=[],ro:=[] }),(248,1007055,{ n:=200,tm:=[(1,ti),(2,ti),(3,ti),(4,ti),(5,.b),(12,.lp 0 0),(15,.lp 1 0),(16,.lp 2 0)],lo:=[(0,[.sl 0 [],.sl 1 [],.sl 2 [],.sl 3 []]),(1,[.sl 4 [],.sl 5 [],.sl 6 [],.sl 7 []]),(2,[.sl 8 [],.sl 9 [],.sl 10 [],.sl 11 [],.sl 12 [],ti,ti,.sl 13 [],ti])],ro:=[(0,(.sl .int),true),(1,.mon,true),(2,.entry,true),(3,.entry,true),(4,(.sl .int),true),(5,.mon,true),(6,.entry,true),(7,.entry,true),(8,.slot,true),(9,(.sl .int),true),(10,.bool,true),(11,.guest,true),(12,.int,true),(13,.kept,true)] }),(248,1005039,{ n:=200,tm:=[(1,ti),(2,ti),(3,ti),(4,ti),(5,.b),(12,.lp 0 0),(15,.lp 1 0),(18,ti)],lo:=[(0,[.sl 0 [],.sl 1 [],.sl 2 [],.sl 3 []]),(1,[.sl 4 [],.sl 5 [],.sl 6 [],.sl 7 []])],ro:=[(0,(.sl .int),true),(1,.mon,true),(2,.entry,true),(3,.entry,true),(4,(.sl .int),true),(5,.mon,true),(6,.entry,true),(7,.entry,true)] }),(248,1009019,{ n:=200,tm:=[(1,ti),(2,ti),(3,ti),(4,ti),(12,.lp 0 0),(15,.lp 1 0),(18,ti),(20,.lp 1 3),(21,ti)],lo:=[(0,[.sl 0 [],.sl 1 [],.sl 2 [],.sl 3 []]),(1,[.sl 4 [],.sl 5 [],.sl 6 [],.sl 7 []])],ro:=[(0,(.sl .int),true),(1,.mon,true),(2,.entry,true),(3,.entry,true),(4,(.sl .int),true),(5,.mon,true),(6,.entry,true),(7,.entry,true)] }),(248,1011005,{ n:=200,tm:=[(3,ti),(12,.lp 0 0),(15,.lp 1 0),(20,.lp 1 3),(21,ti),(24,.lp 2 0)],lo:=[(0,[.sl 0 [],.sl 1 [],.sl 2 [],.sl 3 []]),(1,[.sl 4 [],.sl 5 [],.sl 6 [],.sl 7 []]),(2,[ti,ti])],ro:=[(0,(.sl .int),true),(1,.mon,true),(2,.entry,true),(3,.entry,true),(4,(.sl .int),true),(5,.mon,true),(6,.entry,true),(7,.entry,true)] }),(248,1001009019,{ n:=200,tm:=[(1,ti),(2,ti),(3,ti),(4,ti),(12,.lp 0 0),(15,.lp 1 0),(18,ti),(20,.lp 1 2),(21,ti)],lo:=[(0,[.sl 0 [],.sl 1 [],.sl 2 [],.sl 3 []]),(1,[.sl 4 [],.sl 5 [],.sl 6 [],.sl 7 []])],ro:=[(0,(.sl .int),true),(1,.mon,true),(2,.entry,true),(3,.entry,true),(4,(.sl .int),true),(5,.mon,true),(6,.entry,true),(7,.entry,true)] }),(248,1001011005,{ n:=200,tm:=[(3,ti),(12,.lp 0 0),(15,.lp 1 0),(20,.lp 1 2),(21,ti),(24,.lp 2 0)],lo:=[(0,[.sl 0 [],.sl 1 [],.sl 2 [],.sl 3 []]),(1,[.sl 4 [],.sl 5 [],.sl 6 [],.sl 7 []]),(2,[ti,ti])],ro:=[(0,(.sl .int),true),(1,.mon,true),(2,.entry,true),(3,.entry,true),(4,(.sl .int),true),(5,.mon,true),(6,.entry,true),(7,.entry,true)] })]
theorem zbb2 {N:Nat}{r:Host}{m g page:Int}(hi:r.IoBuffer.length<=1048576) :
 ztp N page (zgy m g) (zfz (zcI r m g) page).Page (zfz (zcI r m g) page).Rights r.Memory r.Mons r.Buffer r.IoBuffer=some (zj2 (zeX r m g page true)):=by
 unfold ztp oN
 conv=>zeta
 exact must (zbe hi) rfl
theorem zbb4 {N:Nat}{r:Host}{m g page:Int}(hi:r.Buffer.length<=1048576) :
 ztr N page (zgy m g) (zfz (zcI r m g) page).Page (zfz (zcI r m g) page).Rights r.Memory r.Mons r.Buffer r.IoBuffer=some (zj2 (zeX r m g page false)):=by
 unfold ztr oN
 conv=>zeta
 exact must (zbe hi) rfl
theorem lk_2 {N:Nat}{r:Host}{m g page need q:Int}{R:OA}{r10}{u5 u6 u7 u8 u9}(A:LookAt r m g q need)(hr:r10 (page,(u5,((zfz (zcI (zcS (mended r m q need) m g page) m g) page).Page,((zfz (zcI (zcS (mended r m q need) m g page) m g) page).Rights,(u6,(u7,(u8,(u9,((zcS (mended r m q need) m g page).Memory,((zcS (mended r m q need) m g page).Mons,((zcS (mended r m q need) m g page).Buffer,((zcS (mended r m q need) m g page).IoBuffer,()))))))))))))=R) :
 zvu N r.Memory r.Mons r.Buffer r.IoBuffer m q need g page r10 u5 u6 u7 u8 u9=R:=by
 have M:=zmv A.kp A.hm A.hg;have F:=zmv (A.fill page) A.hm A.hg;unfold zvu oN
 conv=>zeta
 exact must (zbe A.mend) (must (zy M.hm) (must (zy M.ht) (must (zy M.hg) (must (zbe M.hk) (must (zy M.ht) (shr (must (zy F.ht) (must rfl hr))))))))
theorem lk_3 {N:Nat}{r:Host}{m g page need q:Int}{io:Bool}{r10}{u5 u6 u7 u8 u9}(A:LookAt r m g q need)(h1:r10 (page,(u5,((zfz (zcI (zcS (mended r m q need) m g page) m g) page).Page,((zfz (zcI (zcS (mended r m q need) m g page) m g) page).Rights,(u6,(u7,(u8,(u9,((zcS (mended r m q need) m g page).Memory,((zcS (mended r m q need) m g page).Mons,((zcS (mended r m q need) m g page).Buffer,((zcS (mended r m q need) m g page).IoBuffer,()))))))))))))=some (zj2 (zeX (zcS (mended r m q need) m g page) m g page io)))(h2:r10 (page,(u5,((zfz (zcI r m g) page).Page,((zfz (zcI r m g) page).Rights,(u6,(u7,(u8,(u9,(r.Memory,(r.Mons,(r.Buffer,(r.IoBuffer,()))))))))))))=some (zj2 (zeX r m g page io))) :
 zpa N r.Mons m g page r.Memory r.Buffer r.IoBuffer q need r10 u5 u6 u7 u8 u9=some (zj2 (cond (zez r m g page need) (zeX (zcS (mended r m q need) m g page) m g page io) (zeX r m g page io))):=by
 unfold zpa oN nB
 conv=>zeta
 refine brN (fun f1=>?_) (fun f1=>br (fun f2=>?_) (fun f2=>must rfl (brN (fun f3=>?_) (fun f3=>?_))))
 .rw [zvl (z5e f1)];exact lk_2 A h1
 .rw [zvl (z5f f2)];exact lk_2 A h1
 .rw [zvl (z5g f3)];exact lk_2 A h1
 .rw [z4Q (z5h f1 f2 f3)];exact h2
theorem zbb3 {N:Nat}{r:Host}{m g page need q:Int}{u6 u7 u8 u9}(A:LookAt r m g q need) :
 ztq N m g page need q (zgy m g) u6 u7 u8 u9 r.Memory r.Mons r.Buffer r.IoBuffer=some (zj2 (cond (zez r m g page need) (zeX (zcS (mended r m q need) m g page) m g page true) (zeX r m g page true))):=by
 have M:=zmv ⟨A.fit.1,rfl⟩ A.hm A.hg;have F:=zmv (A.fill page) A.hm A.hg;unfold ztq oN
 conv=>zeta
 exact must (zy M.hm) (must (zy M.ht) (must rfl (shr (lk_3 A (zbb2 (r:=zcS (mended r m q need) m g page) (m:=m) (g:=g) F.hi) (zbb2 (r:=r) (m:=m) (g:=g) M.hi)))))
theorem zbb5 {N:Nat}{r:Host}{m g page need q:Int}{u6 u7 u8 u9}(A:LookAt r m g q need) :
 zts N m g page need q (zgy m g) u6 u7 u8 u9 r.Memory r.Mons r.Buffer r.IoBuffer=some (zj2 (cond (zez r m g page need) (zeX (zcS (mended r m q need) m g page) m g page false) (zeX r m g page false))):=by
 have M:=zmv ⟨A.fit.1,rfl⟩ A.hm A.hg;have F:=zmv (A.fill page) A.hm A.hg;unfold zts oN
 conv=>zeta
 exact must (zy M.hm) (must (zy M.ht) (must rfl (shr (lk_3 A (zbb4 (r:=zcS (mended r m q need) m g page) (m:=m) (g:=g) F.hb) (zbb4 (r:=r) (m:=m) (g:=g) M.hb)))))
theorem zbb6 {N:Nat}{r:Host}{m g page need q:Int}{io:Bool}{u6 u7 u8 u9}(A:LookAt r m g q need) :
 ztt N m g page need io q u6 u7 u8 u9 r.Memory r.Mons r.Buffer r.IoBuffer=some (zj2 (ziq r (zuo r io) m g page need q io)):=by
 unfold ztt oN
 conv=>zeta
 cases io
 .show _=some (zj2 (ziq r r.Buffer m g page need q false))
  refine zbI rfl (must rfl (shr (must rfl (br (fun f1=>must rfl (br (fun f2=>?_) (fun f2=>?_))) (fun f1=>?_)))))
  .rw [zH1 (zoQ f1 f2)];rfl
  .rw [zoY (zoQ f1 f2)];exact zbb5 A
  .rw [zoY (zHV f1)];exact zbb5 A
 .show _=some (zj2 (ziq r r.IoBuffer m g page need q true))
  refine must rfl (must rfl (shr (must rfl (br (fun f1=>must rfl (br (fun f2=>?_) (fun f2=>?_))) (fun f1=>?_)))))
  .rw [zH1 (zoQ f1 f2)];rfl
  .rw [zoY (zoQ f1 f2)];exact zbb3 A
  .rw [zoY (zHV f1)];exact zbb3 A
theorem zbeN (r:Host)(m q:Int)(io:Bool):zuo (zbR r m q) io=zuo r io:=by
 cases io<;>rfl
theorem zbb7 {N:Nat}{r:Host}{m g page need:Int}{io:Bool}{z1 z2 z3 z4}(hs:SmH r)(hg:zb0 r m g=true)(hn:zhJ need=true) :
 ztu N m g page need io z1 z2 z3 z4 r.Memory r.Mons r.Buffer r.IoBuffer (ix r.Mons m mZ).Guests=some (zj2 (lookOf r (zuo r io) m g page need io)):=by
 obtain ⟨g1,g2,g3⟩:=zcs hg;unfold ztu oN nB
 conv=>zeta
 refine must (zy g3) (must rfl (brN (fun hw=>?_) (fun hw=>?_)))
 .have:zbK r m g page need=false:=by
   unfold zbK;rw[hg,hn,show zgK (zdq r m g) page need=false from hw]
   rfl
  rw[zhp this];rfl
 .have hl:zbK r m g page need=true:=by
   unfold zbK;rw[hg,hn,show zgK (zdq r m g) page need=true from hw]
   rfl
  obtain ⟨A,B⟩:=zGd hs hl;rw[zNk hl];have hd:hasB (zcK (zdq r m g) page need) (ln (ix r.Mons m mZ).Dirty)=true:=zda (zbY A.fit.1 g2).2.2.2.1 A.hq;refine shr (br (fun h2=>?_) (fun h2=>?_))
  .rw [h2]
   show _=some (zj2 (ziq (zbR r m (zcK (zdq r m g) page need)) (zuo r io) m g page need (zcK (zdq r m g) page need) io))
   rw[<- zbeN r m (zcK (zdq r m g) page need) io];exact must (zy g2) (must (zy hd) (shr (zbb6 (r:=zbR r m (zcK (zdq r m g) page need)) B)))
  .rw [h2];exact zbb6 A
theorem z0C (a0:Host)(a1 a2:Int)(a3 a4:Int)(a5:Bool)(hc:zuE a0 a1 a2 a3 a4 a5=true):∃N,zN6 N a0 a1 a2 a3 a4 a5=some [aH (zuB a0 a1 a2 a3 a4 a5),aI (zuC a0 a1 a2 a3 a4 a5),aB (zuD a0 a1 a2 a3 a4 a5)]:=by
 have hs:=(zF a0).1 (zu.1 hc);refine ⟨0,?_⟩
 show _=some (zj2 (lookOf a0 (zuo a0 a5) a1 a2 a3 a4 a5))
 unfold zN6 oN nB
 conv=>zeta
 refine must (zbe ((zF _).2 hs)) (must (zbe ((zF _).2 hs)) (shr (must rfl (brN (fun h1=>?_) (fun h1=>?_)))))
 .rw [zhp (zoZ (zR9 h1))];rfl
 refine brN (fun h2=>?_) (fun h2=>?_)
 .rw [zhp (zoZ (zSa h2))];rfl
 have eM:zca a0 a1=ix a0.Mons a1 mZ:=by
  unfold zca;rw[show hasB a1 (ln a0.Mons)=true from h2]
  rfl
 rw[eM];refine must rfl (brN (fun h3=>?_) (fun h3=>?_))
 .rw [zhp (zoZ (zSb h3))];rfl
 have hg:=zSc h1 h2 h3;have hno:∀{n:Int},zhJ n=false->zbK a0 a1 a2 a3 n=false:=fun {n} h=>by
  unfold zbK;rw[hg,h];rfl
 rw[zh0,zh0];cases h4:ieq a4 1
 .cases h5:ieq a4 2
  .have:zhJ a4=false:=by unfold zhJ;rw[h4,h5];rfl
   rw[zhp (hno this)];rfl
  .exact zbb7 (r:=a0) hs hg (by unfold zhJ;rw[h4,h5];rfl)
 .exact zbb7 (r:=a0) hs hg (by unfold zhJ;rw[h4];rfl)
theorem zSH:uY 248 zGM:=kF6 zhx zi zbh zgz z2h z0C
def zbbO:zY:=[(248,zGM),(48,zrt)]++znM
theorem zZF:zJ zbbO:=zf zSH (zf zME zhx)
@[simp] abbrev zBP (h:Host)(m g page need:Int):Bool:=pc (zbA h)
@[simp] abbrev zut (h:Host)(m g page need:Int):Host:=(lookOf h h.Buffer m g page need false).1
@[simp] abbrev zuu (h:Host)(m g page need:Int):Int:=(lookOf h h.Buffer m g page need false).2.1
@[simp] abbrev zBO (h:Host)(m g page need:Int):Bool:=(lookOf h h.Buffer m g page need false).2.2
def zGu:Run:=rF5 dH dI dI dI dI fun b c d e f=>(zBP b c d e f,[aH (zut b c d e f),aI (zuu b c d e f),aB (zBO b c d e f)])
def zNP (N:Nat)(a0:Host)(a1 a2:Int)(a3 a4:Int):OA:=
 (oN (zuE a0 a1 a2 a3 a4 false) (some [(aH (zuB a0 a1 a2 a3 a4 false)),(aI (zuC a0 a1 a2 a3 a4 false)),(aB (zuD a0 a1 a2 a3 a4 false))]))
theorem z0j (a0:Host)(a1 a2:Int)(a3 a4:Int)(hc:zBP a0 a1 a2 a3 a4=true):∃N,zNP N a0 a1 a2 a3 a4=some [aH (zut a0 a1 a2 a3 a4),aI (zuu a0 a1 a2 a3 a4),aB (zBO a0 a1 a2 a3 a4)]:=by
 refine ⟨0,?_⟩;unfold zNP oN;exact must hc rfl
theorem zSp:uY 147 zGu:=kF5 zZF zi zbh zgz (zl []) z0j
def zbbP:zY:=[(147,zGu)]++zbbO
theorem z9N:zJ zbbP:=zf zSp zZF
def brought (n a b:Int):Int:=bif ilt n a then a else (cond (ilt b a) a (zeY n b))
@[simp] abbrev zrZ (_ _ _:Int):Bool:=true
@[simp] abbrev zoT (n a b:Int):Int:=brought n a b
def znZ:Run:=rF3 dI dI dI fun b c d=>(zrZ b c d,[aI (zoT b c d)])
def zJt (N:Nat)(a0 a1 a2:Int):OA:=
 (cond (ilt a0 a1) (some [(aI a1)]) (cond (ilt a2 a1) (some [(aI a1)]) (some [(aI (zeY a0 a2))])))
theorem zXf (a0 a1 a2:Int)(hc:zrZ a0 a1 a2=true):∃N,zJt N a0 a1 a2=some [aI (zoT a0 a1 a2)]:=by
 refine ⟨0,?_⟩;unfold zJt;refine br (fun _=>?_) (fun _=>br (fun _=>?_) (fun _=>?_))
 all_goals first|rfl|(simp only [*,zoT,brought,cT,cF]<;>rfl)|simp_all[Ty.cells,zoT,brought]
theorem zpi:uY 138 znZ:=kF3 zlk zi zk zn (zl []) zXf
@[simp] abbrev zso (_ _ _:Int):Bool:=true
@[simp] abbrev zth (n a b:Int):Int:=brought n a b
def zn0:Run:=rF3 dI dI dI fun b c d=>(zso b c d,[aI (zth b c d)])
def zJ3 (N:Nat)(a0 a1 a2:Int):OA:=
 (cond (ilt a2 a1) (some [(aI a1)]) (cond (ilt a0 a1) (some [(aI a1)]) (cond (igt a0 a2) (some [(aI a2)]) (some [(aI a0)]))))
theorem zXQ (a0 a1 a2:Int)(hc:zso a0 a1 a2=true):∃N,zJ3 N a0 a1 a2=some [aI (zth a0 a1 a2)]:=by
 refine ⟨0,?_⟩;unfold zJ3;unfold zth brought zeY;cases h1:ilt a2 a1<;>cases h2:ilt a0 a1<;>cases h3:igt a0 a2<;>simp [igt] at * <;> omega
theorem zpj:uY 98 zn0:=kF3 zlk zi zk zn (zl []) zXQ
def zbbE:zY:=[(158,zmC),(138,znZ),(98,zn0)]++zYM
theorem z9L:zJ zbbE:=zf zod (zf zpi (zf zpj zlk))
structure RI (a:List Bare) (i:Nat) (l:List Bare):Prop where
 len:l.length=a.length
 sm:z5x l
 eq:∀k,i<=k->l[k]?=a[k]?
theorem RI.up {a l:List Bare}{i:Nat}(h:RI a i l)(x:Bare)(hx:SmB x):RI a (i+1) (up l (i:Int) x) :=
 ⟨by rw[zdZ];exact h.len,zbdk h.sm hx,fun k hk=>by rw[zbd4 (by omega)];exact h.eq k (by omega)⟩
structure RJ (l:List Bare) (i:Nat) (l':List Bare):Prop where
 len:l'.length=l.length
 sm:SmB (ix l' (i:Int) zbex)
 up:∀x,E.up l' (i:Int) x=E.up l (i:Int) x
theorem RJ.next {l l':List Bare}{i:Nat}(h:RJ l i l')(hi:i<l.length)(x:Bare)(hx:SmB x):RJ l i (E.up l' (i:Int) x) :=
 ⟨by rw[zdZ];exact h.len,by rw[zcT (by rw[h.len];exact hi)];exact hx,fun y=>by rw[zqP];exact h.up y⟩
def zbbF:zY:=zbbE
theorem z9M:zJ zbbF:=z9L
def zbbG:zY:=zbbF
theorem zZz:zJ zbbG:=z9M
def z7L:zY:=[(158,zmC)]++zbbP
theorem zVU:zJ z7L:=zf zod z9N
@[simp] abbrev zv4 (h:Host)(m g:Int):Bool:=pc (zbA h)
@[simp] abbrev zpy (h:Host)(m g:Int):Host:=(zbm h m g).1
@[simp] abbrev zv3 (h:Host)(m g:Int):Bool:=(zbm h m g).2
def zAs:Run:=rF3 dH dI dI fun b c d=>(zv4 b c d,[aH (zpy b c d),aB (zv3 b c d)])
abbrev zhg (a0:Host)(a1 a2:Int):Int :=
 (zlo (ix (zca a0 a1).Guests a2 zo))
abbrev zcC (a0:Host)(a1 a2:Int):Int :=
 (zhC (ix (zca a0 a1).Guests a2 zo))
abbrev zzu (a0:Host)(a1 a2:Int):Host :=
 (zut a0 a1 a2 (zb1 (zhg a0 a1 a2)) (zeH (ieq (zcC a0 a1 a2) 4)))
abbrev zhf (a0:Host)(a1 a2:Int):Guest :=
 (ix (ix (zI a0).Mons a1 zh).Guests a2 zo)
abbrev zlY (x4:lN)(a1 a2:Int):Guest :=
 (ix (ix x4 a1 zh).Guests a2 zo)
abbrev zzv (a0:Host)(a1 a2:Int):Int :=
 (zuu a0 a1 a2 (zb1 (zhg a0 a1 a2)) (zeH (ieq (zcC a0 a1 a2) 4)))
def zlZ (N:Nat)(a0:Host)(a1 a2:Int):OA:=
 let y5:=(zzv a0 a1 a2);let y4:=(ieq (zcC a0 a1 a2) 4);let y3:=(zhg a0 a1 a2);let y2:=(zzu a0 a1 a2);let y6:=(inb a1 (ln y2.Mons));let y1:=(ix (zca a0 a1).Guests a2 zo);let y0:=(ix y2.Mons a1 zh);let y7:=(inb a2 (ln y0.Guests)); (oN (zet y3) (oN (zpD y4) (oN (zBP a0 a1 a2 (zb1 y3) (zeH y4)) (cond (nB (zBO a0 a1 a2 (zb1 y3) (zeH y4))) (oN (zet y3) (oN (zkc (zb1 y3) y4) (oN (zdD y1 (ziJ (zb1 y3) y4)) (oN y6 (oN y7 (share (up y2.Mons a1 ({ y0 with Guests:=(up y0.Guests a2 (zeP y1 (ziJ (zb1 y3) y4))) }:Mon)) (fun x4=>(some [(aH ({ y2 with Mons:=x4 }:Host)),(aB true)])))))))) (cond y4 (oN (zes y3) (oN (ze6 y2.Memory y5 (zdL y3) y1.A) (oN (zpI y1) (oN y6 (oN y7 (share (up y2.Mons a1 ({ y0 with Guests:=(up y0.Guests a2 (zlz y1)) }:Mon)) (fun x4=>(some [(aH ({ y2 with Memory:=(zfX y2.Memory y5 (zdL y3) y1.A),Mons:=x4 }:Host)),(aB true)])))))))) (oN (zes y3) (oN (zmd y2.Memory y5 (zdL y3)) (oN (zpC y1 (zlp y2.Memory y5 (zdL y3))) (oN y6 (oN y7 (share (up y2.Mons a1 ({ y0 with Guests:=(up y0.Guests a2 (zlv y1 (zlp y2.Memory y5 (zdL y3)))) }:Mon)) (fun x4=>(some [(aH ({ y2 with Mons:=x4 }:Host)),(aB true)])))))))))))))
def zl0 (N:Nat)(a0:Host)(a1 a2:Int)(x4:lN):OA:=
 let y2:=(zlY x4 a1 a2);let y1:=(ix x4 a1 zh);let y0:=({ (zhf a0 a1 a2) with Prog:=y2.Prog,Written:=y2.Written,Live:=y2.Live,Seen:=y2.Seen }:Guest); (oN (zdd y0) (oN (inb a2 (ln y1.Guests)) (share (up x4 a1 ({ y1 with Guests:=(up y1.Guests a2 (zcU y0)) }:Mon)) (fun x5=>(some [(aH ({ (zI a0) with Mons:=x5 }:Host)),(aB true)])))))
def zl1 (N:Nat)(a0:Host)(a1 a2:Int):OA:=
 let y3:=(zI a0).Mons;let y1:=(zhf a0 a1 a2);let y0:=(ix y3 a1 zh);let y2:=(ap y0.Outs [(zgt y1.Prog y1.Pc).X]); (cond (ieq (zcC a0 a1 a2) 7) (oN (zjR y1) (oN (inb a2 (ln y0.Guests)) (share (up y3 a1 ({ y0 with Guests:=(up y0.Guests a2 (zjc y1)) }:Mon)) (fun x4=>(some [(aH ({ (zI a0) with Mons:=x4 }:Host)),(aB true)]))))) (cond (ilt (ln y0.Outs) 40) (oN (zgi y1.Prog y1.Pc) (oN (few (ln y2)) (oN (cond (ieq a1 a1) true false) (share (up y3 a1 ({ y0 with Outs:=y2 }:Mon)) (fun x4=>(zl0 N a0 a1 a2 x4)))))) (oN (zdd y1) (oN (inb a2 (ln y0.Guests)) (share (up y3 a1 ({ y0 with Guests:=(up y0.Guests a2 (zcU y1)) }:Mon)) (fun x4=>(some [(aH ({ (zI a0) with Mons:=x4 }:Host)),(aB true)])))))))
def zl2 (N:Nat)(a1:Int)(a0:Host)(a2:Int):OA:=
 let y9:=(zI a0);let y5:=(zcC a0 a1 a2);let y2:=(zhf a0 a1 a2);let y1:=(ix y9.Mons a1 zh);let y11:=(zoV y1.Traps y2.Ctl.Traps (zhD y5)); (oN (inb a1 (ln y9.Mons)) (oN (inb a2 (ln y1.Guests)) (oN (zpM y5) (oN (zy0 y1.Traps y2.Ctl.Traps (zhD y5)) (cond (ieq y11 1) (oN (znt y2 y5) (oN (inb a2 (ln y1.Guests)) (share (up y9.Mons a1 ({ y1 with Guests:=(up y1.Guests a2 (zjE y2 y5)) }:Mon)) (fun x4=>(some [(aH ({ y9 with Mons:=x4 }:Host)),(aB true)]))))) (cond (ieq y11 2) (cond (ilt y1.Own 1000000000) (share (up y9.Mons a1 ({ y1 with Own:=(zB .i64 y1.Own 1) }:Mon)) (fun x4=>let y4:=(ix x4 a1 zh);let y3:=(zlY x4 a1 a2);let y10:=(ap y4.Outs [(zgt y3.Prog y2.Pc).X]);let y6:=({ y2 with Prog:=y3.Prog,Written:=y3.Written,Live:=y3.Live,Seen:=y3.Seen }:Guest); (cond (ieq y5 7) (oN (zjR y6) (oN (inb a2 (ln y4.Guests)) (share (up x4 a1 ({ y4 with Guests:=(up y4.Guests a2 (zjc y6)) }:Mon)) (fun x5=>(some [(aH ({ y9 with Mons:=x5 }:Host)),(aB true)]))))) (cond (ilt (ln y4.Outs) 40) (oN (zgi y3.Prog y2.Pc) (oN (few (ln y10)) (oN (cond (ieq a1 a1) true false) (share (up x4 a1 ({ y4 with Outs:=y10 }:Mon)) (fun x5=>let y8:=(ix x5 a1 zh);let y0:=(ix y8.Guests a2 zo);let y7:=({ y2 with Prog:=y0.Prog,Written:=y0.Written,Live:=y0.Live,Seen:=y0.Seen }:Guest); (oN (zdd y7) (oN (inb a2 (ln y8.Guests)) (share (up x5 a1 ({ y8 with Guests:=(up y8.Guests a2 (zcU y7)) }:Mon)) (fun x6=>(some [(aH ({ y9 with Mons:=x6 }:Host)),(aB true)])))))))))) (zl0 N a0 a1 a2 x4))))) (zl1 N a0 a1 a2)) (zl1 N a0 a1 a2)))))))
def zi4 (N:Nat)(a0:Host)(a1 a2:Int):OA:=
 (oN (zea a0 a1) (oN (zvY (zc5 a0 a1) a2) (oN (inb a1 (ln (zI a0).Mons)) (share (up (zI a0).Mons a1 ({ (ix (zI a0).Mons a1 zh) with Guests:=(zja (zc5 a0 a1) a2).Guests }:Mon)) (fun x4=>(some [(aH ({ (zI a0) with Mons:=x4 }:Host)),(aB true)]))))))
def zfB (N:Nat)(a0:Host)(a1 a2:Int):OA:=
 let y0:=(zcC a0 a1 a2); (cond (ieq y0 5) (cond (ieq y0 5) (zl2 N a1 a0 a2) (zi4 N a0 a1 a2)) (cond (ieq y0 7) (zl2 N a1 a0 a2) (zi4 N a0 a1 a2)))
def zEH (N:Nat)(a0:Host)(a1 a2:Int):OA:=
 let y3:=(aH (zI a0));let y2:=(zcC a0 a1 a2);let y0:=(zca a0 a1).Guests;let y1:=(ix y0 a2 zo); (oN (zbb a0) (oN (zsZ a0 a1) (oN (zcL a0) (cond (nB (zcG a0)) (some [y3,(aB false)]) (cond (nB (zlx a0 a1)) (some [y3,(aB false)]) (oN (zbx a2 (ln y0)) (cond (nB (zbO a2 (ln y0))) (some [y3,(aB false)]) (oN (inb a2 (ln y0)) (oN (zjU y1) (cond (ieq y2 0) (some [y3,(aB false)]) (oN (inb a2 (ln y0)) (oN (zjU y1) (oN (zrV y1) (cond (ieq y2 3) (cond (ieq y2 3) (zlZ N a0 a1 a2) (zfB N a0 a1 a2)) (cond (ieq y2 4) (zlZ N a0 a1 a2) (zfB N a0 a1 a2))))))))))))))))
theorem z1s {h:Host}{m:Int}(hm:hasB m (ln h.Mons)=true):zca h m=ix h.Mons m mZ:=by
 unfold zca;rw[hm];rfl
theorem is_1 {N:Nat}{a0:Host}{a1 a2:Int}(hs:SmH a0)(hh:zb0 a0 a1 a2=true) :
 zlZ N a0 a1 a2=some (zdJ (ziY (zi1 a0 a1 a2 (gOf a0 a1 a2) (ieq (zG (gOf a0 a1 a2)) 4)) a1 a2 (gOf a0 a1 a2) (ieq (zG (gOf a0 a1 a2)) 4),true)):=by
 obtain ⟨g1,g2,g3⟩:=zcs hh;have hx:=zku hs g2 g3;have k:=zvj (b:=a0.Buffer) (page:=zbP (address (gOf a0 a1 a2))) (need:=zfd (ieq (zG (gOf a0 a1 a2)) 4)) (io:=false) hs hh;have F:=zmv k g2 g3;have eM:=z1s g2;have e3:zcC a0 a1 a2=zG (gOf a0 a1 a2):=by
  show zhC (ix (zca a0 a1).Guests a2 gZ)=_
  rw[eM];rfl
 have e4:zhg a0 a1 a2=address (gOf a0 a1 a2):=by
  show zlo (ix (zca a0 a1).Guests a2 gZ)=_
  rw[eM];rfl
 have e1:zzu a0 a1 a2=(zi1 a0 a1 a2 (gOf a0 a1 a2) (ieq (zG (gOf a0 a1 a2)) 4)).1:=by
  show zut a0 a1 a2 (zb1 (zhg a0 a1 a2)) (zeH (ieq (zcC a0 a1 a2) 4))=_
  rw[e3,e4];rfl
 have e6:zzv a0 a1 a2=(zi1 a0 a1 a2 (gOf a0 a1 a2) (ieq (zG (gOf a0 a1 a2)) 4)).2.1:=by
  show zuu a0 a1 a2 (zb1 (zhg a0 a1 a2)) (zeH (ieq (zcC a0 a1 a2) 4))=_
  rw[e3,e4];rfl
 unfold zlZ oN nB
 conv=>zeta
 rw[e1,e3,e4,e6,eM];unfold ziY;refine must rfl (must rfl (must (zbe ((zF _).2 hs)) (brN (fun h=>?_) (fun h=>?_))))
 .rw [show (zi1 a0 a1 a2 (gOf a0 a1 a2) (ieq (zG (gOf a0 a1 a2)) 4)).2.2=false from h]
  exact must rfl (must rfl (must (zbe hx) (must (zy F.hm) (must (zy F.hg) rfl))))
 .rw [show (zi1 a0 a1 a2 (gOf a0 a1 a2) (ieq (zG (gOf a0 a1 a2)) 4)).2.2=true from h]
  refine br (fun h4=>?_) (fun h4=>?_)
  .have kk:=k.shape.1.1;rw[h4] at F kk ⊢;exact must rfl (must (zbe kk) (must (zbe hx) (must (zy F.hm) (must (zy F.hg) rfl))))
  .rw [h4] at F ⊢;exact must rfl (must rfl (must (zbe hx) (must (zy F.hm) (must (zy F.hg) rfl))))
theorem is_2 {N:Nat}{a0:Host}{x4:List Mon}{a1 a2:Int}(hx:SmG (gOf a0 a1 a2))(g3:hasB a2 (ln (ix x4 a1 mZ).Guests)=true)(e:zlY x4 a1 a2=zhf a0 a1 a2) :
 zl0 N a0 a1 a2 x4=some (zdJ (zgp { a0 with Mons:=x4 } a1 a2 (zbM (gOf a0 a1 a2)),true)):=by
 unfold zl0 oN
 conv=>zeta
 rw[e];exact must (zbe hx) (must (zy g3) rfl)
def leftG (x:Guest)(w:Int):Guest:=bif ieq w 7 then held x else zbM x
def zB4 (h:Host)(m:Int)(x:Guest)(w:Int):Host:=bif ieq w 7 then h else zlK h m (zdC x.Prog x.Pc).X
theorem zAe {h:Host}{m:Int}{x:Guest}{w:Int}(hh:ieq w 7=true):leftG x w=held x/\zB4 h m x w=h:=by
 unfold leftG zB4;rw[hh];exact ⟨rfl,rfl⟩
theorem znv {h:Host}{m:Int}{x:Guest}{w:Int}(hh:ieq w 7=false):leftG x w=zbM x/\zB4 h m x w=zlK h m (zdC x.Prog x.Pc).X:=by
 unfold leftG zB4;rw[hh];exact ⟨rfl,rfl⟩
theorem z4W {h:Host}{m n:Int}(hh:ilt (ln (ix h.Mons m mZ).Outs) 40=true):zlK h m n={ h with Mons:=up h.Mons m { ix h.Mons m mZ with Outs:=ap (ix h.Mons m mZ).Outs [n] } }:=by
 unfold zlK;rw[hh];rfl
theorem z4V {h:Host}{m n:Int}(hh:ilt (ln (ix h.Mons m mZ).Outs) 40=false):zlK h m n=h:=by
 unfold zlK;rw[hh];rfl
theorem is_3 {N:Nat}{a0:Host}{a1 a2:Int}(hs:SmH a0)(g2:hasB a1 (ln a0.Mons)=true)(g3:hasB a2 (ln (ix a0.Mons a1 mZ).Guests)=true)(eW:zcC a0 a1 a2=zG (gOf a0 a1 a2)) :
 zl1 N a0 a1 a2=some (zdJ (zgp (zB4 a0 a1 (gOf a0 a1 a2) (zG (gOf a0 a1 a2))) a1 a2 (leftG (gOf a0 a1 a2) (zG (gOf a0 a1 a2))),true)):=by
 have hx:=zku hs g2 g3;unfold zl1 oN
 conv=>zeta
 rw[eW];refine br (fun h7=>?_) (fun h7=>br (fun h3=>?_) (fun h3=>?_))
 .rw [(zAe (x:=gOf a0 a1 a2) (h:=a0) (m:=a1) h7).1,(zAe (x:=gOf a0 a1 a2) h7).2];exact must (zbe hx) (must (zy g3) rfl)
 .rw [(znv (x:=gOf a0 a1 a2) (h:=a0) (m:=a1) h7).1,(znv (x:=gOf a0 a1 a2) h7).2,z4W h3];refine must rfl (must (zYO h3) (must (zQh _) (shr (is_2 hx ?_ ?_))))
  .rw [zp0 g2];exact g3
  .show ix (ix (up a0.Mons a1 _) a1 mZ).Guests a2 gZ=_
   rw[zp0 g2]
 .rw [(znv (x:=gOf a0 a1 a2) (h:=a0) (m:=a1) h7).1,(znv (x:=gOf a0 a1 a2) h7).2,z4V h3];exact must (zbe hx) (must (zy g3) rfl)
theorem zbeq {h:Host}{m g:Int}{x:Guest}{w:Int}(h6:ieq w 6=false)(h57:ieq w 5=false->ieq w 6=false->ieq w 7=true)(hT:zdm x.Ctl.Traps (zfn w)=false):zk9 h m g x w=zgp (zB4 (zf7 h m x w) m x w) m g (leftG x w):=by
 unfold zk9;cases h7:ieq w 7
 .have h5:ieq w 5=true:=by
   cases h5:ieq w 5
   .have:=h57 h5 h6;rw[h7] at this;cases this
   .rfl
  obtain ⟨e1,e2⟩:=tr3 x x.Ctl.Traps w h6 h7 hT h5;rw[(znv (x:=x) (h:=zf7 h m x w) (m:=m) h7).1,(znv (x:=x) h7).2,e1];unfold zj7;rw[e2,h5];rfl
 .have h5:ieq w 5=false:=by
   have:w=7:=qD h7;rw[this];rfl
  rw[(zAe (x:=x) (h:=zf7 h m x w) (m:=m) h7).1,(zAe (x:=x) h7).2,tr4 x x.Ctl.Traps w h6 h57 hT h5,zHF h5]
theorem is_p {a0:Host}{x5:List Mon}{a1 a2:Int}(hx:SmG (gOf a0 a1 a2))(g3:hasB a2 (ln (ix x5 a1 mZ).Guests)=true)(e:(ix (ix x5 a1 zh).Guests a2 zo)=gOf a0 a1 a2) :
 (cond (zdd ({ (ix (ix (zI a0).Mons a1 zh).Guests a2 zo) with Prog:=(ix (ix x5 a1 zh).Guests a2 zo).Prog,Written:=(ix (ix x5 a1 zh).Guests a2 zo).Written,Live:=(ix (ix x5 a1 zh).Guests a2 zo).Live,Seen:=(ix (ix x5 a1 zh).Guests a2 zo).Seen }:Guest)) (cond (inb a2 (ln (ix x5 a1 zh).Guests)) (share (up x5 a1 ({ (ix x5 a1 zh) with Guests:=(up (ix x5 a1 zh).Guests a2 (zcU ({ (ix (ix (zI a0).Mons a1 zh).Guests a2 zo) with Prog:=(ix (ix x5 a1 zh).Guests a2 zo).Prog,Written:=(ix (ix x5 a1 zh).Guests a2 zo).Written,Live:=(ix (ix x5 a1 zh).Guests a2 zo).Live,Seen:=(ix (ix x5 a1 zh).Guests a2 zo).Seen }:Guest))) }:Mon)) (fun x6=>(some [(.agg (zW ({ (zI a0) with Mons:=x6 }:Host))),(.one (.b true))]))) none) none)=some (zdJ (zgp { a0 with Mons:=x5 } a1 a2 (zbM (gOf a0 a1 a2)),true)):=by
 rw[e];exact must (zbe hx) (must (zy g3) rfl)
theorem is_o {a0:Host}{x4:List Mon}{a1 a2:Int}(hx:SmG (gOf a0 a1 a2))(g2:hasB a1 (ln x4)=true)(g3:hasB a2 (ln (ix x4 a1 mZ).Guests)=true)(e:(ix (ix x4 a1 zh).Guests a2 zo)=gOf a0 a1 a2) :
 (cond (ieq (zG (gOf a0 a1 a2)) 7) (cond (zjR ({ (ix (ix (zI a0).Mons a1 zh).Guests a2 zo) with Prog:=(ix (ix x4 a1 zh).Guests a2 zo).Prog,Written:=(ix (ix x4 a1 zh).Guests a2 zo).Written,Live:=(ix (ix x4 a1 zh).Guests a2 zo).Live,Seen:=(ix (ix x4 a1 zh).Guests a2 zo).Seen }:Guest)) (cond (inb a2 (ln (ix x4 a1 zh).Guests)) (share (up x4 a1 ({ (ix x4 a1 zh) with Guests:=(up (ix x4 a1 zh).Guests a2 (zjc ({ (ix (ix (zI a0).Mons a1 zh).Guests a2 zo) with Prog:=(ix (ix x4 a1 zh).Guests a2 zo).Prog,Written:=(ix (ix x4 a1 zh).Guests a2 zo).Written,Live:=(ix (ix x4 a1 zh).Guests a2 zo).Live,Seen:=(ix (ix x4 a1 zh).Guests a2 zo).Seen }:Guest))) }:Mon)) (fun x5=>(some [(.agg (zW ({ (zI a0) with Mons:=x5 }:Host))),(.one (.b true))]))) none) none) (cond (ilt (ln (ix x4 a1 zh).Outs) 40) (cond (zgi (ix (ix x4 a1 zh).Guests a2 zo).Prog (ix (ix (zI a0).Mons a1 zh).Guests a2 zo).Pc) (cond (few (ln (ap (ix x4 a1 zh).Outs [(zgt (ix (ix x4 a1 zh).Guests a2 zo).Prog (ix (ix (zI a0).Mons a1 zh).Guests a2 zo).Pc).X]))) (cond (cond (ieq a1 a1) true false) (share (up x4 a1 ({ (ix x4 a1 zh) with Outs:=(ap (ix x4 a1 zh).Outs [(zgt (ix (ix x4 a1 zh).Guests a2 zo).Prog (ix (ix (zI a0).Mons a1 zh).Guests a2 zo).Pc).X]) }:Mon)) (fun x5=>(cond (zdd ({ (ix (ix (zI a0).Mons a1 zh).Guests a2 zo) with Prog:=(ix (ix x5 a1 zh).Guests a2 zo).Prog,Written:=(ix (ix x5 a1 zh).Guests a2 zo).Written,Live:=(ix (ix x5 a1 zh).Guests a2 zo).Live,Seen:=(ix (ix x5 a1 zh).Guests a2 zo).Seen }:Guest)) (cond (inb a2 (ln (ix x5 a1 zh).Guests)) (share (up x5 a1 ({ (ix x5 a1 zh) with Guests:=(up (ix x5 a1 zh).Guests a2 (zcU ({ (ix (ix (zI a0).Mons a1 zh).Guests a2 zo) with Prog:=(ix (ix x5 a1 zh).Guests a2 zo).Prog,Written:=(ix (ix x5 a1 zh).Guests a2 zo).Written,Live:=(ix (ix x5 a1 zh).Guests a2 zo).Live,Seen:=(ix (ix x5 a1 zh).Guests a2 zo).Seen }:Guest))) }:Mon)) (fun x6=>(some [(.agg (zW ({ (zI a0) with Mons:=x6 }:Host))),(.one (.b true))]))) none) none))) none) none) none) (cond (zdd ({ (ix (ix (zI a0).Mons a1 zh).Guests a2 zo) with Prog:=(ix (ix x4 a1 zh).Guests a2 zo).Prog,Written:=(ix (ix x4 a1 zh).Guests a2 zo).Written,Live:=(ix (ix x4 a1 zh).Guests a2 zo).Live,Seen:=(ix (ix x4 a1 zh).Guests a2 zo).Seen }:Guest)) (cond (inb a2 (ln (ix x4 a1 zh).Guests)) (share (up x4 a1 ({ (ix x4 a1 zh) with Guests:=(up (ix x4 a1 zh).Guests a2 (zcU ({ (ix (ix (zI a0).Mons a1 zh).Guests a2 zo) with Prog:=(ix (ix x4 a1 zh).Guests a2 zo).Prog,Written:=(ix (ix x4 a1 zh).Guests a2 zo).Written,Live:=(ix (ix x4 a1 zh).Guests a2 zo).Live,Seen:=(ix (ix x4 a1 zh).Guests a2 zo).Seen }:Guest))) }:Mon)) (fun x5=>(some [(.agg (zW ({ (zI a0) with Mons:=x5 }:Host))),(.one (.b true))]))) none) none)))=some (zdJ (zgp (zB4 { a0 with Mons:=x4 } a1 (gOf a0 a1 a2) (zG (gOf a0 a1 a2))) a1 a2 (leftG (gOf a0 a1 a2) (zG (gOf a0 a1 a2))),true)):=by
 rw[e];refine br (fun h7=>?_) (fun h7=>br (fun h3=>?_) (fun h3=>?_))
 .rw [(zAe (x:=gOf a0 a1 a2) (h:={ a0 with Mons:=x4 }) (m:=a1) h7).1,(zAe (x:=gOf a0 a1 a2) h7).2];exact must (zbe hx) (must (zy g3) rfl)
 .rw [(znv (x:=gOf a0 a1 a2) (h:={ a0 with Mons:=x4 }) (m:=a1) h7).1,(znv (x:=gOf a0 a1 a2) h7).2,z4W (h:={ a0 with Mons:=x4 }) h3];refine must rfl (must (zYO h3) (must (zQh _) (shr (is_p hx ?_ ?_))))
  .rw [zp0 (h:={ a0 with Mons:=x4 }) g2];exact g3
  .show ix (ix (up x4 a1 _) a1 mZ).Guests a2 gZ=_
   rw[zp0 (h:={ a0 with Mons:=x4 }) g2];exact e
 .rw [(znv (x:=gOf a0 a1 a2) (h:={ a0 with Mons:=x4 }) (m:=a1) h7).1,(znv (x:=gOf a0 a1 a2) h7).2,z4V (h:={ a0 with Mons:=x4 }) h3];exact must (zbe hx) (must (zy g3) rfl)
theorem tf (b:Bool):b=false\/b=true:=by cases b<;>simp
theorem is_4 {N:Nat}{a0:Host}{a1 a2:Int}(hs:SmH a0)(g2:hasB a1 (ln a0.Mons)=true)(g3:hasB a2 (ln (ix a0.Mons a1 mZ).Guests)=true)(eW:zcC a0 a1 a2=zG (gOf a0 a1 a2))(h6:ieq (zG (gOf a0 a1 a2)) 6=false)(h57:ieq (zG (gOf a0 a1 a2)) 5=false->ieq (zG (gOf a0 a1 a2)) 6=false->ieq (zG (gOf a0 a1 a2)) 7=true) :
 zl2 N a1 a0 a2=some (zdJ (zk9 a0 a1 a2 (gOf a0 a1 a2) (zG (gOf a0 a1 a2)),true)):=by
 have hx:=zku hs g2 g3;have T3:=is_3 (N:=N) hs g2 g3 eW;have hn6:ine (zG (gOf a0 a1 a2)) 6=true:=by rw[zh0,h6];rfl
 unfold zl2 oN
 conv=>zeta
 rw[eW];refine must (zy g2) (must (zy g3) (must rfl (must rfl ?_)));rw[show ieq (zoV (ix a0.Mons a1 zh).Traps (zhf a0 a1 a2).Ctl.Traps (zhD (zG (gOf a0 a1 a2)))) 1=zdm (gOf a0 a1 a2).Ctl.Traps (zfn (zG (gOf a0 a1 a2))) from zbeg _ _ _]
 refine br (fun hT=>?_) (fun hT=>?_)
 .obtain ⟨e1,e2⟩:=tr2 (gOf a0 a1 a2) (gOf a0 a1 a2).Ctl.Traps _ h6 h57 hT;have e0:zf7 a0 a1 (gOf a0 a1 a2) (zG (gOf a0 a1 a2))=a0:=by
   unfold zf7;rw[hn6,zbeh hT];rfl
  unfold zk9;rw[e0,zRH e2,e1];exact must (zbe hx) (must (zy g3) rfl)
 .rw [zbeq h6 h57 hT];have e0:zf7 a0 a1 (gOf a0 a1 a2) (zG (gOf a0 a1 a2))=bif ieq (zkZ (ix a0.Mons a1 mZ).Traps (gOf a0 a1 a2).Ctl.Traps (zfn (zG (gOf a0 a1 a2)))) 2 then owned a0 a1 else a0:=by
   unfold zf7;rw[hn6];rfl
  rw[e0];refine br (fun hO=>?_) (fun hO=>?_)
  .rw [show ieq (zkZ (ix a0.Mons a1 mZ).Traps (gOf a0 a1 a2).Ctl.Traps (zfn (zG (gOf a0 a1 a2)))) 2=true from hO]
   simp only[cT];unfold owned;refine br (fun h0=>?_) (fun h0=>?_)
   rotate_left
   .rw [h0];exact T3
   rw[h0];refine shr ?_;have eM:=zp0 g2 { ix a0.Mons a1 mZ with Own:=zB .i64 (ix a0.Mons a1 mZ).Own 1 };have g2':hasB a1 (ln (up a0.Mons a1 { ix a0.Mons a1 mZ with Own:=zB .i64 (ix a0.Mons a1 mZ).Own 1 }))=true:=zei g2;have e5:zlY (up a0.Mons a1 { ix a0.Mons a1 mZ with Own:=zB .i64 (ix a0.Mons a1 mZ).Own 1 }) a1 a2=zhf a0 a1 a2:=by
    show ix (ix (up a0.Mons a1 _) a1 mZ).Guests a2 gZ=_
    rw[eM]
   refine is_o hx g2' ?_ e5;rw[eM];exact g3
  .rw [show ieq (zkZ (ix a0.Mons a1 mZ).Traps (gOf a0 a1 a2).Ctl.Traps (zfn (zG (gOf a0 a1 a2)))) 2=false from hO]
   exact T3
theorem z92 {N:Nat}{a0:Host}{a1 a2:Int}(hs:SmH a0)(hh:zb0 a0 a1 a2=true)(h0:ieq (zG (gOf a0 a1 a2)) 0=false){y:Guest}{o:List Int}(hy:(stepped (zC a0 a1) a2 (gOf a0 a1 a2) (zG (gOf a0 a1 a2))).Guests=up (ix a0.Mons a1 mZ).Guests a2 y)(hb:SmB (zC a0 a1)) :
 zi4 N a0 a1 a2=some (zdJ (zgp a0 a1 a2 y,true)):=by
 obtain ⟨g1,g2,g3⟩:=zcs hh;have hsb:=zrR g1 g2;have eg:(zC a0 a1).Guests=(ix a0.Mons a1 mZ).Guests:=by
  unfold zC;rw[g2];rfl
 have hgg:hasB a2 (ln (zC a0 a1).Guests)=true:=by rw[eg];exact g3
 have eA:gAt (zC a0 a1) a2=gOf a0 a1 a2:=by
  unfold gAt;rw[hgg,eg];rfl
 have hcan:zqZ (zC a0 a1) a2=true:=by
  unfold zqZ;rw[hgg,hsb,eA,h0];rfl
 have eS:zld (zC a0 a1) a2=stepped (zC a0 a1) a2 (gOf a0 a1 a2) (zG (gOf a0 a1 a2)):=by
  unfold zld;rw[hcan,eA];rfl
 have hG:(zja (zc5 a0 a1) a2).Guests=up (ix a0.Mons a1 mZ).Guests a2 y:=by
  show (zld (zC a0 a1) a2).Guests=_
  rw[eS,hy]
 unfold zi4 oN;rw[hG];exact must (zbe ((zF _).2 hs)) (must (zbe hb) (must (zy g2) rfl))
theorem zc9 {h:Host}{m:Int}(hs:SmH h)(hm:hasB m (ln h.Mons)=true):SmB (zC h m):=by
 have g1:=hs.2.1.2 _ (zbw hm mZ);have hP:∀(mm:List (List Int)) (q:Int),SmM mm->(zis mm q).length<=1048576:=fun mm q h=>z1Q h;have hpg:∀p:Int,(zlM h m p).length<=1048576:=by
  intro p;unfold zlM;cases hasB m (ln h.Mons)
  .exact (by decide:zCC.length<=1048576)
  .cases hasB p 8
   .exact (by decide:zCC.length<=1048576)
   .simp only [cT];cases ine (zdB (ix h.Mons m zh).Outer p).Page (-1)
    .exact hP _ _ g1.2.1
    .exact hP _ _ hs.1
 have hN:∀(n i:Nat),∀x∈zlN h m n i,x.length<=1048576:=by
  intro n
  induction n with
  | zero=>intro i x hx;cases hx
  | succ n ih =>
   intro i x hx;rcases qK.1 hx with rfl|hx
   .exact hpg _
   .exact ih (i+1) x hx
 unfold zC;rw[hm];exact ⟨⟨by show (zlN h m 8 0).length<=1048576;rw[zCa];decide,hN 8 0⟩,g1.2.2.2.1,g1.2.2.2.2.1⟩
theorem zyR (b:Bare)(g:Int)(x:Guest):(zeJ b g x).Guests=up b.Guests g x:=rfl
theorem zTG (a0:Host)(a1 a2:Int)(hb:zby big [aH a0,aI a1,aI a2])(hc:zv4 a0 a1 a2=true):∃N,zEH N a0 a1 a2=some [aH (zpy a0 a1 a2),aB (zv3 a0 a1 a2)]:=by
 have hs:=(zF a0).1 (zu.1 hc);refine ⟨0,?_⟩
 show _=some (zdJ (zbm a0 a1 a2))
 unfold zEH oN nB
 conv=>zeta
 refine must (zbe ((zF _).2 hs)) (must (zbe ((zF _).2 hs)) (must rfl (brN (fun h1=>?_) (fun h1=>brN (fun h2=>?_) (fun h2=>?_)))))
 .rw [zht (zR9 h1)];rfl
 .rw [zht (zSa h2)];rfl
 have eM:=z1s (h:=a0) (m:=a1) h2;have eW:zcC a0 a1 a2=zG (gOf a0 a1 a2):=by
  show zhC (ix (zca a0 a1).Guests a2 gZ)=_
  rw[eM];rfl
 rw[eM,eW];refine must rfl (brN (fun h3=>?_) (fun h3=>?_))
 .rw [zht (zSb h3)];rfl
 have hh:=zSc h1 h2 h3;have g2:hasB a1 (ln a0.Mons)=true:=h2;have g3:hasB a2 (ln (ix a0.Mons a1 mZ).Guests)=true:=h3;have hb:=zc9 hs g2;have eg:(zC a0 a1).Guests=(ix a0.Mons a1 mZ).Guests:=by
  unfold zC;rw[g2];rfl
 rw[ziV hh];unfold zRA;refine must (zy g3) (must rfl (br (fun h0=>?_) (fun h0=>must (zy g3) (must rfl (must rfl (br (fun q3=>must q3 ?_) (fun q3=>br (fun q4=>?_) (fun q4=>?_))))))))
 .rw [h0];rfl
 .have e:zG (gOf a0 a1 a2)=3:=qD q3;have T:=is_1 (N:=0) hs hh;rw[T];rw[e];rfl
 .have e:zG (gOf a0 a1 a2)=4:=qD q4;have T:=is_1 (N:=0) hs hh;rw[T];rw[e];rfl
 .have fin:∀{R:Host×Bool},zfB 0 a0 a1 a2=some (zdJ R)->R=(bif ieq (zG (gOf a0 a1 a2)) 0 then (a0,false) else (bif ieq (zG (gOf a0 a1 a2)) 1 then (zgp a0 a1 a2 (interrupted (gOf a0 a1 a2)),true) else (bif ieq (zG (gOf a0 a1 a2)) 2 then (zgp a0 a1 a2 (plainly (gOf a0 a1 a2)),true) else
   (cond (cond (ieq (zG (gOf a0 a1 a2)) 3) true (ieq (zG (gOf a0 a1 a2)) 4)) (ziY (zi1 a0 a1 a2 (gOf a0 a1 a2) (ieq (zG (gOf a0 a1 a2)) 4)) a1 a2 (gOf a0 a1 a2) (ieq (zG (gOf a0 a1 a2)) 4),true) (zk9 a0 a1 a2 (gOf a0 a1 a2) (zG (gOf a0 a1 a2)),true)))))->zfB 0 a0 a1 a2=_:=fun h e=>h.trans (congrArg (fun x=>some (zdJ x)) e)
  have i6:ieq (zG (gOf a0 a1 a2)) 5=false->ieq (zG (gOf a0 a1 a2)) 7=false->zfB 0 a0 a1 a2=zi4 0 a0 a1 a2:=by
   intro h5 h7;unfold zfB
   conv=>zeta
   rw[eW];exact zbI h5 (zbI h7 rfl)
  rcases tf (ieq (zG (gOf a0 a1 a2)) 1) with w1|w1
  .rcases tf (ieq (zG (gOf a0 a1 a2)) 2) with w2|w2
   .rcases tf (ieq (zG (gOf a0 a1 a2)) 6) with w6|w6
    .have h57:ieq (zG (gOf a0 a1 a2)) 5=false->ieq (zG (gOf a0 a1 a2)) 6=false->ieq (zG (gOf a0 a1 a2)) 7=true:=fun h5 h6=>z7f _ h0 w1 w2 q3 q4 h5 h6;have T:=is_4 (N:=0) hs g2 g3 eW w6 h57;refine fin (R:=(zk9 a0 a1 a2 (gOf a0 a1 a2) (zG (gOf a0 a1 a2)),true)) ?_ (by rw[h0,w1,w2,q3,q4];rfl)
     unfold zfB
     conv=>zeta
     rw[eW];cases w5:ieq (zG (gOf a0 a1 a2)) 5
     .exact zbI rfl (must (h57 w5 w6) T)
     .exact must rfl (must rfl T)
    .have e:zG (gOf a0 a1 a2)=6:=qD w6;refine fin (R:=(zgp a0 a1 a2 (zf8 (gOf a0 a1 a2) (gOf a0 a1 a2).Ctl.Traps (zG (gOf a0 a1 a2))),true)) ?_ ?_
     .rw [i6 (by rw[e];rfl) (by rw[e];rfl)]
      refine z92 (o:=[]) hs hh h0 ?_ hb;unfold stepped zvt;rw[w1,w2,q3,q4,(tr1 (gOf a0 a1 a2) (gOf a0 a1 a2).Ctl.Traps _ w6).2]
      show (zeJ (zC a0 a1) a2 _).Guests=_
      rw[zyR,eg]
     .rw [h0,w1,w2,q3,q4];unfold zk9 zf7;rw[zRH (tr1 (gOf a0 a1 a2) (gOf a0 a1 a2).Ctl.Traps _ w6).2,zh0,w6];rfl
   .have e:zG (gOf a0 a1 a2)=2:=qD w2;refine fin (R:=(zgp a0 a1 a2 (plainly (gOf a0 a1 a2)),true)) ?_ (by rw[h0,w1,w2];rfl)
    rw[i6 (by rw[e];rfl) (by rw[e];rfl)]
    refine z92 (o:=[]) hs hh h0 ?_ hb;unfold stepped;rw[w1,w2]
    show (zeJ (zC a0 a1) a2 _).Guests=_
    rw[zyR,eg]
  .have e:zG (gOf a0 a1 a2)=1:=qD w1;refine fin (R:=(zgp a0 a1 a2 (interrupted (gOf a0 a1 a2)),true)) ?_ (by rw[h0,w1];rfl)
   rw[i6 (by rw[e];rfl) (by rw[e];rfl)]
   refine z92 (o:=[]) hs hh h0 ?_ hb;unfold stepped;rw[w1]
   show (zeJ (zC a0 a1) a2 _).Guests=_
   rw[zyR,eg]
theorem zL6:uY 64 zAs:=hF3 zVU zi zbh zgz (zl []) zTG
def zbbQ:zY:=[(64,zAs)]++z7L
theorem z9O:zJ zbbQ:=zf zL6 zVU
theorem ztd {α:Type}{m:α->Int}{c:Int}(h:∀x,m x=c):∀l:List α,mcL m l=c*l.length
 | []=>by simp[mcL]
 | x :: l=>by
  simp only[mcL,ztd h l,h x,qT];rw[Int.natCast_add,Int.mul_add];omega
section
variable {α:Type} {f:α->Int->α} {nx:α->Int->Int} {m:α->Int}
structure ResK (f:α->Int->α) (nx:α->Int->Int) (m:α->Int) (l:List α) (k:Int):Prop where
 c:0<=k/\k+mcL m l<=mkB
 hc:mkL f nx (mkL f nx l k) k=mkL f nx l k/\0<=k/\k+mcL m (mkL f nx l k)<=mkB
 e:enL nx (mkL f nx l k) k=enL nx l k
 nn:0<=enL nx l k
 v:enL nx l k=k+mcL m l
theorem zNr (h:Mk f nx m)(l:List α)(k:Int)(hk:0<=k)(hl:k+mcL m l<=1000000000000):ResK f nx m l k:=by
 have hB:mkB=4611686018427387904:=rfl;have hn:=zbT h.nn l;refine ⟨⟨hk,by omega⟩,⟨zj0 h l k,hk,by rw[zdR h];omega⟩,by rw[zbv h.nx,zbv h.nx,zdR h],by rw[zbv h.nx];omega,zbv h.nx l k⟩
end
def zo0 (h:Host)(k:Int):Host:=⟨zh6 h.Memory k,zpX h.Mons (zbG h.Memory k),zho h.Buffer (zcm h.Mons (zbG h.Memory k)),zho h.IoBuffer (zb6 h.Buffer (zcm h.Mons (zbG h.Memory k)))⟩
def zoc (h:Host)(k:Int):Int:=zb6 h.IoBuffer (zb6 h.Buffer (zcm h.Mons (zbG h.Memory k)))
structure HeldH (h:Host) (k:Int):Prop where
 c1:zh2 h.Memory k=true
 n1:ilt (zdu h.Memory k) 0=false
 c2:zpU h.Mons (zdu h.Memory k)=true
 n2:ilt (zf1 h.Mons (zdu h.Memory k)) 0=false
 c3:zhn h.Buffer (zf1 h.Mons (zdu h.Memory k))=true
 n3:ilt (zdp h.Buffer (zf1 h.Mons (zdu h.Memory k))) 0=false
 c4:zhn h.IoBuffer (zdp h.Buffer (zf1 h.Mons (zdu h.Memory k)))=true
 n4:ilt (zdp h.IoBuffer (zdp h.Buffer (zf1 h.Mons (zdu h.Memory k)))) 0=false
def zlI (h:Host)(k:Int):Bool:=pc (HeldH h k)
def zmp (h:Host)(k:Int):Int:=zdp h.IoBuffer (zdp h.Buffer (zf1 h.Mons (zdu h.Memory k)))
def zAK:Run:=rF2 dH dI fun b c=>(zlI b c,[aI (zmp b c)])
def zEZ (N:Nat)(a0:Host)(a1:Int):OA:=
 let y2:=(zdu a0.Memory a1);let y0:=(zf1 a0.Mons y2);let y1:=(zdp a0.Buffer y0); (oN (zh2 a0.Memory a1) (cond (ilt y2 0) (some [(aI (-1))]) (oN (zpU a0.Mons y2) (cond (ilt y0 0) (some [(aI (-1))]) (oN (zhn a0.Buffer y0) (cond (ilt y1 0) (some [(aI (-1))]) (oN (zhn a0.IoBuffer y1) (cond (ilt (zdp a0.IoBuffer y1) 0) (some [(aI (-1))]) (some [(aI (zdp a0.IoBuffer y1))])))))))))
theorem zTY (a0:Host)(a1:Int)(hc:zlI a0 a1=true):∃N,zEZ N a0 a1=some [aI (zmp a0 a1)]:=by
 have H:=zu.1 hc;refine ⟨0,?_⟩;unfold zEZ oN
 conv=>zeta
 exact must H.c1 (zbI H.n1 (must H.c2 (zbI H.n2 (must H.c3 (zbI H.n3 (must H.c4 (zbI H.n4 rfl)))))))
theorem zMo:uY 18 zAK:=kF2 zdV zi zk zcE (zl []) zTY
def zbbp:zY:=[(18,zAK)]++zZw
theorem z9J:zJ zbbp:=zf zMo zdV
structure ResH (h:Host):Prop where
 c1:zgD h.Memory 1=true
 c2:zlJ h.Mons (zbG h.Memory 1)=true
 c3:zeR h.Buffer (zcm h.Mons (zbG h.Memory 1))=true
 c4:zeR h.IoBuffer (zb6 h.Buffer (zcm h.Mons (zbG h.Memory 1)))=true
 hc:zlI (zo0 h 1) 1=true
 e:zmp (zo0 h 1) 1=zoc h 1
 nn:ilt (zoc h 1) 0=false
theorem resH {h:Host}(hb:zB5 h<=900000000000):ResH h:=by
 unfold zB5 at hb;have n1:=zbT zhu.nn h.Memory;have n2:=zbT zOM.nn h.Mons;have n3:=zbT zoN.nn h.Buffer;have n4:=zbT zoN.nn h.IoBuffer;have R1:=zNr zhu h.Memory 1 (by omega) (by omega)
 have R2:=zNr zOM h.Mons _ R1.nn (by rw[R1.v];omega)
 have R3:=zNr zoN h.Buffer _ R2.nn (by rw[R2.v,R1.v];omega)
 have R4:=zNr zoN h.IoBuffer _ R3.nn (by rw[R3.v,R2.v,R1.v];omega)
 have e1:zdu (zo0 h 1).Memory 1=zbG h.Memory 1:=R1.e;have e2:zf1 (zo0 h 1).Mons (zbG h.Memory 1)=zcm h.Mons (zbG h.Memory 1):=R2.e;have e3:zdp (zo0 h 1).Buffer (zcm h.Mons (zbG h.Memory 1))=zb6 h.Buffer (zcm h.Mons (zbG h.Memory 1)):=R3.e;have e4:zdp (zo0 h 1).IoBuffer (zb6 h.Buffer (zcm h.Mons (zbG h.Memory 1)))=zoc h 1:=R4.e;have ee:zmp (zo0 h 1) 1=zoc h 1:=by
  unfold zmp;rw[e1,e2,e3,e4]
 refine ⟨zbe R1.c,zbe R2.c,zbe R3.c,zbe R4.c,zbe ⟨zbe R1.hc,?_,?_,?_,?_,?_,?_,?_⟩,ee,zeu R4.nn⟩
 .rw [e1];exact zeu R1.nn
 .rw [e1];exact zbe R2.hc
 .rw [e1,e2];exact zeu R2.nn
 .rw [e1,e2];exact zbe R3.hc
 .rw [e1,e2,e3];exact zeu R3.nn
 .rw [e1,e2,e3];exact zbe R4.hc
 .rw [e1,e2,e3,e4];exact zeu R4.nn
end
end Go.Proofs.YtmjbkmbimgdodaaGreat.E
