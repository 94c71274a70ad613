/- What is proved here: a part of the proof that the statement of this claim holds (several texts of wip/, laid together). -/
import Derived.Test.YtmjbkmbimgdodaaGreatW3
namespace Go.Proofs.YtmjbkmbimgdodaaGreat.E
open Go
set_option linter.unusedVariables false
set_option maxRecDepth 100000
set_option linter.unusedSimpArgs false
set_option linter.unusedSectionVars false
noncomputable section
def mkB:Int:=4611686018427387904
section
variable {α:Type}
def mcL (m:α->Int):List α->Int
 | []=>0
 | x :: l=>m x+mcL m l
def mkL (f:α->Int->α)(nx:α->Int->Int):List α->Int->List α
 | [],_=>[]
 | x :: l,k=>f x k :: mkL f nx l (nx x k)
def enL (nx:α->Int->Int):List α->Int->Int
 | [],k=>k
 | x :: l,k=>enL nx l (nx x k)
structure Mk (f:α->Int->α) (nx:α->Int->Int) (m:α->Int):Prop where
 nn:∀x,0<=m x
 nx:∀x k,nx x k=k+m x
 f2:∀x k,f (f x k) k=f x k
 m2:∀x k,m (f x k)=m x
variable {f:α->Int->α} {nx:α->Int->Int} {m:α->Int}
theorem zbT (h:∀x,0<=m x):∀l:List α,0<=mcL m l
 | []=>Int.le_refl _
 | x :: l=>by
  have h1:=h x;have h2:=zbT h l;simp only[mcL];omega
theorem zbv (h:∀x k,nx x k=k+m x):∀(l:List α) (k:Int),enL nx l k=k+mcL m l
 | [],k=>by simp[enL,mcL]
 | x :: l,k=>by
  have h2:=zbv h l (nx x k);simp only[enL,mcL];rw[h2,h];omega
theorem zdR (h:Mk f nx m):∀(l:List α) (k:Int),mcL m (mkL f nx l k)=mcL m l
 | [],_=>rfl
 | x :: l,k=>by simp only[mkL,mcL,zdR h l,h.m2]
theorem zj0 (h:Mk f nx m):∀(l:List α) (k:Int),mkL f nx (mkL f nx l k) k=mkL f nx l k
 | [],_=>rfl
 | x :: l,k=>by
  have e:nx (f x k) k=nx x k:=by rw[h.nx,h.nx,h.m2]
  simp only[mkL,h.f2,e,zj0 h l]
theorem Mk.list (h:Mk f nx m):Mk (fun l k=>mkL f nx l k) (fun l k=>enL nx l k) (fun l=>mcL m l) :=
 ⟨fun l=>zbT h.nn l,fun l k=>zbv h.nx l k,fun l k=>zj0 h l k,fun l k=>zdR h l k⟩
theorem zeQ {ρ:Type}(h:Mk f nx m)(F:(Int×Int×List α×Unit->Option ρ)->Int×Int×List α×Unit->Option ρ)(K:Int->List α->Option ρ)(hstep:∀(i:Nat) (L:List α) (hi:i<L.length) (k:Int) (rec:Int×Int×List α×Unit->Option ρ),0<=k->k+m L[i]<=mkB->L.length<=big->F rec (k,(i:Int),L,())=rec (nx L[i] k,((i+1:Nat):Int),L.set i (f L[i] k),()))(hend:∀(L:List α) (k:Int) (rec:Int×Int×List α×Unit->Option ρ),F rec (k,(L.length:Int),L,())=K k L) :
 ∀(l:List α) (k:Int) (N:Nat),l.length<=big->0<=k->k+mcL m l<=mkB->l.length<N->iter N F (k,0,l,())=K (enL nx l k) (mkL f nx l k):=by
 have key:∀(rest done:List α) (k:Int) (N:Nat),(done++rest).length<=big->0<=k->k+mcL m rest<=mkB->rest.length<N->iter N F (k,(done.length:Int),done++rest,())=K (enL nx rest k) (done++mkL f nx rest k):=by
  intro rest
  induction rest with
  | nil =>
   intro done k N hl h0 h1 hN;obtain ⟨n,rfl⟩:∃n,N=n+1:=⟨N-1,by simp at hN;omega⟩
   rw[zcf];simp only[qX,mkL,enL];exact hend done k _
  | cons x rest ih =>
   intro done k N hl h0 h1 hN;simp only[qT]at hN;obtain ⟨n,rfl⟩:∃n,N=n+1:=⟨N-1,by omega⟩
   have hi:done.length<(done++x :: rest).length:=by simp
   have hx:(done++x :: rest)[done.length]=x:=by simp
   have hnn:=h.nn x;have hn2:=zbT h.nn rest;simp only[mcL]at h1;rw[zcf,hstep done.length (done++x :: rest) hi k _ h0 (by rw[hx];omega) hl,hx]
   have e:(done++x :: rest).set done.length (f x k)=(done++[f x k])++rest:=by simp
   have e2:done.length+1=(done++[f x k]).length:=by simp
   rw[e,e2,ih (done++[f x k]) (nx x k) n (by simpa using hl) (by rw[h.nx];omega) (by rw[h.nx];omega) (by omega)]
   simp[mkL,enL]
 intro l k N hl h0 h1 hN;exact key l [] k N hl h0 h1 hN
theorem zg2 {ρ:Type}(h:Mk f nx m)(l:List α)(F:(Int×Int×List α×Unit->Option ρ)->Int×Int×List α×Unit->Option ρ)(K:Int->Option ρ)(hstep:∀(i:Nat) (hi:i<l.length) (k:Int) (rec:Int×Int×List α×Unit->Option ρ),f l[i] k=l[i]->0<=k->k+m l[i]<=mkB->F rec (k,(i:Int),l,())=rec (nx l[i] k,((i+1:Nat):Int),l,()))(hend:∀(k:Int) (rec:Int×Int×List α×Unit->Option ρ),F rec (k,(l.length:Int),l,())=K k) :
 ∀(k:Int) (N:Nat),mkL f nx l k=l->0<=k->k+mcL m l<=mkB->l.length<N->iter N F (k,0,l,())=K (enL nx l k):=by
 have key:∀(j:Nat) (i:Nat) (k:Int) (N:Nat),l.length-i=j->i<=l.length->mkL f nx (l.drop i) k=l.drop i->0<=k->k+mcL m (l.drop i)<=mkB->j<N->iter N F (k,(i:Int),l,())=K (enL nx (l.drop i) k):=by
  intro j
  induction j with
  | zero =>
   intro i k N hj hi he h0 h1 hN;have:i=l.length:=by omega
   subst this;obtain ⟨n,rfl⟩:∃n,N=n+1:=⟨N-1,by omega⟩
   rw[zcf,hend,List.drop_length];rfl
  | succ j ih =>
   intro i k N hj hi he h0 h1 hN;obtain ⟨n,rfl⟩:∃n,N=n+1:=⟨N-1,by omega⟩
   have hlt:i<l.length:=by omega
   have hd:=kH hlt;rw[hd]at he h1 ⊢;simp only[mkL,List.cons.injEq]at he;simp only[mcL]at h1;have hnn:=h.nn l[i];have hn2:=zbT h.nn (l.drop (i+1));rw[zcf,hstep i hlt k _ he.1 h0 (by omega)]
   simp only[enL];exact ih (i+1) (nx l[i] k) n (by omega) (by omega) he.2 (by rw[h.nx];omega) (by rw[h.nx];omega) (by omega)
 intro k N he h0 h1 hN;have:=key l.length 0 k N (by omega) (jU _) (by simpa using he) h0 (by simpa using h1) hN
 simpa using this
end
section
variable {α:Type}
theorem zjA (l:List α)(i:Nat)(x:α):up l (i:Int) x=l.set i x:=by simp[up]
theorem zpY (l:List α)(i:Nat)(x:α):ln (l.set i x)=ln l:=by simp[ln]
theorem zs6 {l:List α}{i:Nat}(h:i<l.length)(x d:α):ix (l.set i x) (i:Int) d=x:=by simp[ix,List.getD,h]
theorem set_set (l:List α)(i:Nat)(x y:α):(l.set i x).set i y=l.set i y:=List.set_set ..
end
theorem zgR:ine 3 0=true:=rfl
theorem zeu {k:Int}(h:0<=k):ilt k 0=false:=qH (by omega)
theorem zTq {α:Type}{l:List α}{i:Nat}(h:i<l.length)(x:α):inb (i:Int) (ln (l.set i x))=true:=by rw[zpY];exact zK h
def zBA (_:Int)(k:Int):Int:=k
def zfc (_:Int)(k:Int):Int:=k+1
def zwj (_:Int):Int:=1
theorem zeA:Mk zBA zfc zwj:=⟨fun _=>by unfold zwj;decide,fun _ _=>rfl,fun _ _=>rfl,fun _ _=>rfl⟩
def zxk (_:Bool)(k:Int):Bool:=ieq (zfU k 3) 0
def zb9 (_:Bool)(k:Int):Int:=k+1
def zsd (_:Bool):Int:=1
theorem zeg:Mk zxk zb9 zsd:=⟨fun _=>by unfold zsd;decide,fun _ _=>rfl,fun _ _=>rfl,fun _ _=>rfl⟩
def zpe (_:Slot)(k:Int):Slot:=⟨k,k+1⟩
def zV (_:Slot)(k:Int):Int:=k+1+1
def zmw (_:Slot):Int:=2
theorem zce:Mk zpe zV zmw:=⟨fun _=>by unfold zmw;decide,fun _ k=>by unfold zV zmw;omega,fun _ _=>rfl,fun _ _=>rfl⟩
def zR5 (_:Ins)(k:Int):Ins:=⟨k,k+1⟩
def zch (_:Ins)(k:Int):Int:=k+1+1
def zpZ (_:Ins):Int:=2
theorem zl4:Mk zR5 zch zpZ:=⟨fun _=>by unfold zpZ;decide,fun _ k=>by unfold zch zpZ;omega,fun _ _=>rfl,fun _ _=>rfl⟩
def zZK (_:Entry)(k:Int):Entry:=⟨k,k+1,k+1+1,k+1+1+1⟩
def zAg (_:Entry)(k:Int):Int:=k+1+1+1+1
def zjn (_:Entry):Int:=4
theorem zoN:Mk zZK zAg zjn:=⟨fun _=>by unfold zjn;decide,fun _ k=>by unfold zAg zjn;omega,fun _ _=>rfl,fun _ _=>rfl⟩
def fAct (_:GAct)(k:Int):GAct:=⟨k,k+1,k+1+1,k+1+1+1,k+1+1+1+1,k+1+1+1+1+1⟩
def z6C (_:GAct)(k:Int):Int:=k+1+1+1+1+1+1
def zNl (_:GAct):Int:=6
theorem zbaP:Mk fAct z6C zNl:=⟨fun _=>by unfold zNl;decide,fun _ k=>by unfold z6C zNl;omega,fun _ _=>rfl,fun _ _=>rfl⟩
def z5X (_:Told)(k:Int):Told:=⟨ieq (zfU (k) 3) 0,k+1⟩
def zH3 (_:Told)(k:Int):Int:=k+1+1
def zse (_:Told):Int:=2
theorem zZd:Mk z5X zH3 zse:=⟨fun _=>by unfold zse;decide,fun _ k=>by unfold zH3 zse;omega,fun _ _=>rfl,fun _ _=>rfl⟩
def zOY (l:List Int)(k:Int):List Int:=mkL zBA zfc l k
def zcj (l:List Int)(k:Int):Int:=enL zfc l k
def znX (l:List Int):Int:=mcL zwj l
theorem zhu:Mk zOY zcj znX:=zeA.list
def z5W (l:List Ins)(k:Int):List Ins:=mkL zR5 zch l k
def zQ3 (l:List Ins)(k:Int):Int:=enL zch l k
def zQV (l:List Ins):Int:=mcL zpZ l
theorem z7l:Mk z5W zQ3 zQV:=zl4.list
def z7Q (l:List (List Ins))(k:Int):List (List Ins):=mkL z5W zQ3 l k
def zQ4 (l:List (List Ins))(k:Int):Int:=enL zQ3 l k
def zQW (l:List (List Ins)):Int:=mcL zQV l
theorem z4w:Mk z7Q zQ4 zQW:=z7l.list
def zBB (x:Kept)(k:Int):Kept:=⟨mkL zxk zb9 x.Known (k),mkL zpe zV x.Slots (enL zb9 x.Known (k))⟩
def zmA (x:Kept)(k:Int):Int:=enL zV x.Slots (enL zb9 x.Known (k))
def zk6 (x:Kept):Int:=mcL zsd x.Known+mcL zmw x.Slots
theorem zbc4 (x:Kept):0<=zk6 x:=by
 have h0:=zbT zeg.nn x.Known;have h1:=zbT zce.nn x.Slots;unfold zk6;omega
theorem zbc5 (x:Kept)(k:Int):zmA x k=k+zk6 x:=by
 unfold zmA zk6;simp only[zbv zeg.nx,zbv zce.nx];omega
theorem zka:Mk zBB zmA zk6:=⟨zbc4,zbc5,fun x k=>by simp only[zBB,zbv zeg.nx,zbv zce.nx,zdR zeg,zdR zce,zj0 zeg,zj0 zce],fun x k=>by simp only[zk6,zBB,zdR zeg,zdR zce]⟩
def zvJ (x:Guest)(k:Int):Guest:=⟨mkL zR5 zch x.Prog (k),enL zch x.Prog (k),enL zch x.Prog (k)+1,mkL zpe zV x.Written (enL zch x.Prog (k)+1+1),mkL zpe zV x.Live (enL zV x.Written (enL zch x.Prog (k)+1+1)),⟨enL zV x.Live (enL zV x.Written (enL zch x.Prog (k)+1+1)),enL zV x.Live (enL zV x.Written (enL zch x.Prog (k)+1+1))+1,ieq (zfU (enL zV x.Live (enL zV x.Written (enL zch x.Prog (k)+1+1))+1+1) 3) 0⟩,enL zV x.Live (enL zV x.Written (enL zch x.Prog (k)+1+1))+1+1+1,⟨enL zV x.Live (enL zV x.Written (enL zch x.Prog (k)+1+1))+1+1+1+1,enL zV x.Live (enL zV x.Written (enL zch x.Prog (k)+1+1))+1+1+1+1+1,ieq (zfU (enL zV x.Live (enL zV x.Written (enL zch x.Prog (k)+1+1))+1+1+1+1+1+1) 3) 0,enL zV x.Live (enL zV x.Written (enL zch x.Prog (k)+1+1))+1+1+1+1+1+1+1⟩,ieq (zfU (enL zV x.Live (enL zV x.Written (enL zch x.Prog (k)+1+1))+1+1+1+1+1+1+1+1) 3) 0,mkL zBA zfc x.Seen (enL zV x.Live (enL zV x.Written (enL zch x.Prog (k)+1+1))+1+1+1+1+1+1+1+1+1)⟩
def zcJ (x:Guest)(k:Int):Int:=enL zfc x.Seen (enL zV x.Live (enL zV x.Written (enL zch x.Prog (k)+1+1))+1+1+1+1+1+1+1+1+1)
def zir (x:Guest):Int:=mcL zpZ x.Prog+mcL zmw x.Written+mcL zmw x.Live+mcL zwj x.Seen+11
theorem zbaj (x:Guest):0<=zir x:=by
 have h0:=zbT zl4.nn x.Prog;have h1:=zbT zce.nn x.Written;have h2:=zbT zce.nn x.Live;have h3:=zbT zeA.nn x.Seen;unfold zir;omega
theorem zbao (x:Guest)(k:Int):zcJ x k=k+zir x:=by
 unfold zcJ zir;simp only[zbv zl4.nx,zbv zeA.nx,zbv zce.nx];omega
theorem zhV:Mk zvJ zcJ zir:=⟨zbaj,zbao,fun x k=>by simp only[zvJ,zbv zl4.nx,zbv zeA.nx,zbv zce.nx,zdR zl4,zdR zeA,zdR zce,zj0 zl4,zj0 zeA,zj0 zce],fun x k=>by simp only[zir,zvJ,zdR zl4,zdR zeA,zdR zce]⟩
def zZL (x:Mon)(k:Int):Mon:=⟨mkL zpe zV x.Outer (k),mkL zOY zcj x.Out (enL zV x.Outer (k)),mkL zxk zb9 x.Dirty (enL zcj x.Out (enL zV x.Outer (k))),mkL zvJ zcJ x.Guests (enL zb9 x.Dirty (enL zcj x.Out (enL zV x.Outer (k)))),mkL zBA zfc x.Outs (enL zcJ x.Guests (enL zb9 x.Dirty (enL zcj x.Out (enL zV x.Outer (k))))),enL zfc x.Outs (enL zcJ x.Guests (enL zb9 x.Dirty (enL zcj x.Out (enL zV x.Outer (k))))),enL zfc x.Outs (enL zcJ x.Guests (enL zb9 x.Dirty (enL zcj x.Out (enL zV x.Outer (k)))))+1,mkL zBB zmA x.Tables (enL zfc x.Outs (enL zcJ x.Guests (enL zb9 x.Dirty (enL zcj x.Out (enL zV x.Outer (k)))))+1+1),enL zmA x.Tables (enL zfc x.Outs (enL zcJ x.Guests (enL zb9 x.Dirty (enL zcj x.Out (enL zV x.Outer (k)))))+1+1)⟩
def zNo (x:Mon)(k:Int):Int:=enL zmA x.Tables (enL zfc x.Outs (enL zcJ x.Guests (enL zb9 x.Dirty (enL zcj x.Out (enL zV x.Outer (k)))))+1+1)+1
def zol (x:Mon):Int:=mcL zmw x.Outer+mcL znX x.Out+mcL zsd x.Dirty+mcL zir x.Guests+mcL zwj x.Outs+mcL zk6 x.Tables+3
theorem zbee (x:Mon):0<=zol x:=by
 have h0:=zbT zce.nn x.Outer;have h1:=zbT zhu.nn x.Out;have h2:=zbT zeg.nn x.Dirty;have h3:=zbT zhV.nn x.Guests;have h4:=zbT zeA.nn x.Outs;have h5:=zbT zka.nn x.Tables;unfold zol;omega
theorem zbef (x:Mon)(k:Int):zNo x k=k+zol x:=by
 unfold zNo zol;simp only[zbv zeg.nx,zbv zhV.nx,zbv zeA.nx,zbv zhu.nx,zbv zka.nx,zbv zce.nx];omega
theorem zOM:Mk zZL zNo zol:=⟨zbee,zbef,fun x k=>by simp only[zZL,zbv zeg.nx,zbv zhV.nx,zbv zeA.nx,zbv zhu.nx,zbv zka.nx,zbv zce.nx,zdR zeg,zdR zhV,zdR zeA,zdR zhu,zdR zka,zdR zce,zj0 zeg,zj0 zhV,zj0 zeA,zj0 zhu,zj0 zka,zj0 zce],fun x k=>by simp only[zol,zZL,zdR zeg,zdR zhV,zdR zeA,zdR zhu,zdR zka,zdR zce]⟩
def zgl (l:List Int)(k:Int):Bool:=pc (0<=k/\k+mcL zwj l<=mkB)
def zgk (l:List Int)(k:Int):List Int:=mkL zBA zfc l k
def ze8 (l:List Int)(k:Int):Int:=enL zfc l k
def zp3:CV->Int->Option (Bool×CV×Int)
 | .s .int l,k=>some (zgl l k,.s .int (zgk l k),ze8 l k)
 | _,_=>none
def zvx (N:Nat)(a0:List Int)(a1:Int):OA:=
 (iter (σ:=(Int×(Int×((List Int)×Unit)))) N (fun r3 s4=>(cond (ilt s4.2.1 (ln s4.2.2.1)) (oN (inb s4.2.1 (ln s4.2.2.1)) (share (up s4.2.2.1 s4.2.1 s4.1) (fun x5=>(r3 ((zB .i64 s4.1 1),((zB .i64 s4.2.1 1),(x5,()))))))) (some [(aS .int s4.2.2.1),(aI s4.1)]))) (a1,(0,(a0,()))))
def zBe:FuncId->Nat->Option Tmpl:=zl [(88,0,{ n:=19,tm:=[(0,.sl 0 []),(1,ti),(5,ti)],lo:=[],ro:=[(0,.int,true)] })]
theorem zYn (N:Nat)(a0:List Int)(a1:Int):zjN (cQ zob zB6 zk0 zlX) zBe N 12 88 .int a0 a1=zvx N a0 a1:=by kernel_rfl
theorem zT4 (a0:List Int)(a1:Int)(hb:CVB big (.s .int a0))(hc:zgl a0 a1=true):∃N,zvx N a0 a1=some [.one (.s .int (zgk a0 a1)),.one (.i .i64 (ze8 a0 a1))]:=by
 obtain ⟨h0,h1⟩:=zu.1 hc;have hl:=hb.len;refine zbo fun N hNN=>?_;unfold zvx oN;exact zeQ zeA _ (fun k L=>some [AV.one (.s .int L),AV.one (.i .i64 k)]) (fun i L hi k rec h0 h1 hL=>by
  have hw:=zL hi hL;generalize hx:L[i]=x at h1 ⊢;have hix:∀d,ix L (i:Int) d=x:=fun d=>(zS hi d).trans hx;simp only[zwj,mkB]at h1;simp (disch:=omega) only [share,zU hi,zK hi,hw,zjA,zdP,zgR,cT];rfl
  ) (fun L k rec=>by simp only[zQ,cF]) a0 a1 N hl h0 h1 (hNN hl)
theorem zMu:zer Tryz.prog 88 zp3:=by
 refine zcD (zcP zdM zbg zk zn) (zdQ (by kernel_rfl)) ?_
 intro t l k c' k' hr h;obtain ⟨W,v,S,hrep⟩:=hr;have hb:=CVB.of_rep hrep;unfold zp3 at h;split at h
 .rename_i t2 l2 heq;cases heq;simp only[qB,qY]at h;obtain ⟨hc,rfl,rfl⟩:=h;obtain ⟨N,hN⟩:=zT4 _ _ hb hc;exact ⟨zBe,N,12,(zYn N _ _).trans hN⟩
 .cases h
def zh5 (l:List Bool)(k:Int):Bool:=pc (0<=k/\k+mcL zsd l<=mkB)
def zh3 (l:List Bool)(k:Int):List Bool:=mkL zxk zb9 l k
def zh4 (l:List Bool)(k:Int):Int:=enL zb9 l k
def zon:CV->Int->Option (Bool×CV×Int)
 | .s .bool l,k=>some (zh5 l k,.s .bool (zh3 l k),zh4 l k)
 | _,_=>none
def ztw (N:Nat)(a0:lB)(a1:Int):OA:=
 (iter (σ:=(Int×(Int×(lB×Unit)))) N (fun r3 s4=>(cond (ilt s4.2.1 (ln s4.2.2.1)) (oN (ine 3 0) (oN (inb s4.2.1 (ln s4.2.2.1)) (share (up s4.2.2.1 s4.2.1 (ieq (zfU s4.1 3) 0)) (fun x5=>(r3 ((zB .i64 s4.1 1),((zB .i64 s4.2.1 1),(x5,())))))))) (some [(aS .bool s4.2.2.1),(aI s4.1)]))) (a1,(0,(a0,()))))
def zyD:FuncId->Nat->Option Tmpl:=zl [(90,0,{ n:=21,tm:=[(0,.sl 0 []),(1,ti),(5,ti)],lo:=[],ro:=[(0,.bool,true)] })]
theorem zUD (N:Nat)(a0:List Bool)(a1:Int):zjN (cQ zob zB6 zk0 zlX) zyD N 12 90 .bool a0 a1=ztw N a0 a1:=by kernel_rfl
theorem zQD (a0:List Bool)(a1:Int)(hb:CVB big (.s .bool a0))(hc:zh5 a0 a1=true):∃N,ztw N a0 a1=some [.one (.s .bool (zh3 a0 a1)),.one (.i .i64 (zh4 a0 a1))]:=by
 obtain ⟨h0,h1⟩:=zu.1 hc;have hl:=hb.len;refine zbo fun N hNN=>?_;unfold ztw oN;exact zeQ zeg _ (fun k L=>some [AV.one (.s .bool L),AV.one (.i .i64 k)]) (fun i L hi k rec h0 h1 hL=>by
  have hw:=zL hi hL;generalize hx:L[i]=x at h1 ⊢;have hix:∀d,ix L (i:Int) d=x:=fun d=>(zS hi d).trans hx;simp only[zsd,mkB]at h1;simp (disch:=omega) only [share,zU hi,zK hi,hw,zjA,zdP,zgR,cT];rfl
  ) (fun L k rec=>by simp only[zQ,cF]) a0 a1 N hl h0 h1 (hNN hl)
theorem zIE:zer Tryz.prog 90 zon:=by
 refine zcD (zcP zdM zbg zk zn) (zdQ (by kernel_rfl)) ?_
 intro t l k c' k' hr h;obtain ⟨W,v,S,hrep⟩:=hr;have hb:=CVB.of_rep hrep;unfold zon at h;split at h
 .rename_i t2 l2 heq;cases heq;simp only[qB,qY]at h;obtain ⟨hc,rfl,rfl⟩:=h;obtain ⟨N,hN⟩:=zQD _ _ hb hc;exact ⟨zyD,N,12,(zUD N _ _).trans hN⟩
 .cases h
def zd2 (l:List Slot)(k:Int):Bool:=pc (0<=k/\k+mcL zmw l<=mkB)
def zeC (l:List Slot)(k:Int):List Slot:=mkL zpe zV l k
def zeD (l:List Slot)(k:Int):Int:=enL zV l k
def zor:CV->Int->Option (Bool×CV×Int)
 | .s .slot l,k=>some (zd2 l k,.s .slot (zeC l k),zeD l k)
 | _,_=>none
def ztA (N:Nat)(a0:lS)(a1:Int):OA:=
 (iter (σ:=(Int×(Int×(lS×Unit)))) N (fun r3 s4=>let y0:=s4.2.1; (cond (ilt y0 (ln s4.2.2.1)) (oN (inb y0 (ln s4.2.2.1)) (share (up s4.2.2.1 y0 ({ (ix s4.2.2.1 y0 zM) with Page:=s4.1 }:Slot)) (fun x5=>(oN (inb y0 (ln x5)) (share (up x5 y0 ({ (ix x5 y0 zM) with Rights:=(zB .i64 s4.1 1) }:Slot)) (fun x6=>(r3 ((zB .i64 (zB .i64 s4.1 1) 1),((zB .i64 y0 1),(x6,())))))))))) (some [(aS .slot s4.2.2.1),(aI s4.1)]))) (a1,(0,(a0,()))))
def zyH:FuncId->Nat->Option Tmpl:=zl [(89,0,{ n:=27,tm:=[(0,.sl 0 []),(1,ti),(5,ti)],lo:=[],ro:=[(0,.slot,true)] })]
theorem zUH (N:Nat)(a0:List Slot)(a1:Int):zjN (cQ zob zB6 zk0 zlX) zyH N 12 89 .slot a0 a1=ztA N a0 a1:=by kernel_rfl
theorem zQH (a0:List Slot)(a1:Int)(hb:CVB big (.s .slot a0))(hc:zd2 a0 a1=true):∃N,ztA N a0 a1=some [.one (.s .slot (zeC a0 a1)),.one (.i .i64 (zeD a0 a1))]:=by
 obtain ⟨h0,h1⟩:=zu.1 hc;have hl:=hb.len;refine zbo fun N hNN=>?_;unfold ztA oN
 conv=>zeta
 exact zeQ zce _ (fun k L=>some [AV.one (.s .slot L),AV.one (.i .i64 k)]) (fun i L hi k rec h0 h1 hL=>by
  have hw:=zL hi hL;generalize hx:L[i]=x at h1 ⊢;have hix:∀d,ix L (i:Int) d=x:=fun d=>(zS hi d).trans hx;simp only[zmw,mkB]at h1;simp (disch:=omega) only [share,zU hi,zK hi,hix,hw,zjA,zpY,zs6 hi,set_set,zdP,zgR,cT];rfl
  ) (fun L k rec=>by simp only[zQ,cF]) a0 a1 N hl h0 h1 (hNN hl)
theorem zII:zer Tryz.prog 89 zor:=by
 refine zcD (zcP zdM zbg zk zn) (zdQ (by kernel_rfl)) ?_
 intro t l k c' k' hr h;obtain ⟨W,v,S,hrep⟩:=hr;have hb:=CVB.of_rep hrep;unfold zor at h;split at h
 .rename_i t2 l2 heq;cases heq;simp only[qB,qY]at h;obtain ⟨hc,rfl,rfl⟩:=h;obtain ⟨N,hN⟩:=zQH _ _ hb hc;exact ⟨zyH,N,12,(zUH N _ _).trans hN⟩
 .cases h
def zjm (l:List Ins)(k:Int):Bool:=pc (0<=k/\k+mcL zpZ l<=mkB)
def zjl (l:List Ins)(k:Int):List Ins:=mkL zR5 zch l k
def zhF (l:List Ins)(k:Int):Int:=enL zch l k
def zp2:CV->Int->Option (Bool×CV×Int)
 | .s .ins l,k=>some (zjm l k,.s .ins (zjl l k),zhF l k)
 | _,_=>none
def zvw (N:Nat)(a0:lI)(a1:Int):OA:=
 (iter (σ:=(Int×(Int×(lI×Unit)))) N (fun r3 s4=>let y0:=s4.2.1; (cond (ilt y0 (ln s4.2.2.1)) (oN (inb y0 (ln s4.2.2.1)) (share (up s4.2.2.1 y0 ({ (ix s4.2.2.1 y0 zj9) with Op:=s4.1 }:Ins)) (fun x5=>(oN (inb y0 (ln x5)) (share (up x5 y0 ({ (ix x5 y0 zj9) with X:=(zB .i64 s4.1 1) }:Ins)) (fun x6=>(r3 ((zB .i64 (zB .i64 s4.1 1) 1),((zB .i64 y0 1),(x6,())))))))))) (some [(aS .ins s4.2.2.1),(aI s4.1)]))) (a1,(0,(a0,()))))
def zBd:FuncId->Nat->Option Tmpl:=zl [(87,0,{ n:=27,tm:=[(0,.sl 0 []),(1,ti),(5,ti)],lo:=[],ro:=[(0,.ins,true)] })]
theorem zYm (N:Nat)(a0:List Ins)(a1:Int):zjN (cQ zob zB6 zk0 zlX) zBd N 12 87 .ins a0 a1=zvw N a0 a1:=by kernel_rfl
theorem zT3 (a0:List Ins)(a1:Int)(hb:CVB big (.s .ins a0))(hc:zjm a0 a1=true):∃N,zvw N a0 a1=some [.one (.s .ins (zjl a0 a1)),.one (.i .i64 (zhF a0 a1))]:=by
 obtain ⟨h0,h1⟩:=zu.1 hc;have hl:=hb.len;refine zbo fun N hNN=>?_;unfold zvw oN
 conv=>zeta
 exact zeQ zl4 _ (fun k L=>some [AV.one (.s .ins L),AV.one (.i .i64 k)]) (fun i L hi k rec h0 h1 hL=>by
  have hw:=zL hi hL;generalize hx:L[i]=x at h1 ⊢;have hix:∀d,ix L (i:Int) d=x:=fun d=>(zS hi d).trans hx;simp only[zpZ,mkB]at h1;simp (disch:=omega) only [share,zU hi,zK hi,hix,hw,zjA,zpY,zs6 hi,set_set,zdP,zgR,cT];rfl
  ) (fun L k rec=>by simp only[zQ,cF]) a0 a1 N hl h0 h1 (hNN hl)
theorem zMt:zer Tryz.prog 87 zp2:=by
 refine zcD (zcP zdM zbg zk zn) (zdQ (by kernel_rfl)) ?_
 intro t l k c' k' hr h;obtain ⟨W,v,S,hrep⟩:=hr;have hb:=CVB.of_rep hrep;unfold zp2 at h;split at h
 .rename_i t2 l2 heq;cases heq;simp only[qB,qY]at h;obtain ⟨hc,rfl,rfl⟩:=h;obtain ⟨N,hN⟩:=zT3 _ _ hb hc;exact ⟨zBd,N,12,(zYm N _ _).trans hN⟩
 .cases h
def zeR (l:List Entry)(k:Int):Bool:=pc (0<=k/\k+mcL zjn l<=mkB)
def zho (l:List Entry)(k:Int):List Entry:=mkL zZK zAg l k
def zb6 (l:List Entry)(k:Int):Int:=enL zAg l k
def zm4:CV->Int->Option (Bool×CV×Int)
 | .s .entry l,k=>some (zeR l k,.s .entry (zho l k),zb6 l k)
 | _,_=>none
def zqU (N:Nat)(a0:lE)(a1:Int):OA:=
 (iter (σ:=(Int×(Int×(lE×Unit)))) N (fun r3 s4=>let y1:=s4.2.1;let y0:=(zB .i64 (zB .i64 s4.1 1) 1); (cond (ilt y1 (ln s4.2.2.1)) (oN (inb y1 (ln s4.2.2.1)) (share (up s4.2.2.1 y1 ({ (ix s4.2.2.1 y1 zdb) with Tag:=s4.1 }:Entry)) (fun x5=>(oN (inb y1 (ln x5)) (share (up x5 y1 ({ (ix x5 y1 zdb) with Page:=(zB .i64 s4.1 1) }:Entry)) (fun x6=>(oN (inb y1 (ln x6)) (share (up x6 y1 ({ (ix x6 y1 zdb) with Host:=y0 }:Entry)) (fun x7=>(oN (inb y1 (ln x7)) (share (up x7 y1 ({ (ix x7 y1 zdb) with Rights:=(zB .i64 y0 1) }:Entry)) (fun x8=>(r3 ((zB .i64 (zB .i64 y0 1) 1),((zB .i64 y1 1),(x8,())))))))))))))))) (some [(aS .entry s4.2.2.1),(aI s4.1)]))) (a1,(0,(a0,()))))
def zwV:FuncId->Nat->Option Tmpl:=zl [(37,0,{ n:=41,tm:=[(0,.sl 0 []),(1,ti),(5,ti)],lo:=[],ro:=[(0,.entry,true)] })]
theorem zQ7 (N:Nat)(a0:List Entry)(a1:Int):zjN (cQ zob zB6 zk0 zlX) zwV N 12 37 .entry a0 a1=zqU N a0 a1:=by kernel_rfl
theorem zM7 (a0:List Entry)(a1:Int)(hb:CVB big (.s .entry a0))(hc:zeR a0 a1=true):∃N,zqU N a0 a1=some [.one (.s .entry (zho a0 a1)),.one (.i .i64 (zb6 a0 a1))]:=by
 obtain ⟨h0,h1⟩:=zu.1 hc;have hl:=hb.len;refine zbo fun N hNN=>?_;unfold zqU oN
 conv=>zeta
 exact zeQ zoN _ (fun k L=>some [AV.one (.s .entry L),AV.one (.i .i64 k)]) (fun i L hi k rec h0 h1 hL=>by
  have hw:=zL hi hL;generalize hx:L[i]=x at h1 ⊢;have hix:∀d,ix L (i:Int) d=x:=fun d=>(zS hi d).trans hx;simp only[zjn,mkB]at h1;simp (disch:=omega) only [share,zU hi,zK hi,hix,hw,zjA,zpY,zs6 hi,set_set,zdP,zgR,cT];rfl
  ) (fun L k rec=>by simp only[zQ,cF]) a0 a1 N hl h0 h1 (hNN hl)
theorem zFU:zer Tryz.prog 37 zm4:=by
 refine zcD (zcP zdM zbg zk zn) (zdQ (by kernel_rfl)) ?_
 intro t l k c' k' hr h;obtain ⟨W,v,S,hrep⟩:=hr;have hb:=CVB.of_rep hrep;unfold zm4 at h;split at h
 .rename_i t2 l2 heq;cases heq;simp only[qB,qY]at h;obtain ⟨hc,rfl,rfl⟩:=h;obtain ⟨N,hN⟩:=zM7 _ _ hb hc;exact ⟨zwV,N,12,(zQ7 N _ _).trans hN⟩
 .cases h
def zpW (l:List GAct)(k:Int):Bool:=pc (0<=k/\k+mcL zNl l<=mkB)
def zwf (l:List GAct)(k:Int):List GAct:=mkL fAct z6C l k
def zpV (l:List GAct)(k:Int):Int:=enL z6C l k
def zp1:CV->Int->Option (Bool×CV×Int)
 | .s .act l,k=>some (zpW l k,.s .act (zwf l k),zpV l k)
 | _,_=>none
def zvv (N:Nat)(a0:lA)(a1:Int):OA:=
 (iter (σ:=(Int×(Int×(lA×Unit)))) N (fun r3 s4=>let y2:=(zB .i64 s4.1 1);let y1:=s4.2.1;let y0:=(zB .i64 (zB .i64 y2 1) 1);let y3:=(zB .i64 y0 1); (cond (ilt y1 (ln s4.2.2.1)) (oN (inb y1 (ln s4.2.2.1)) (share (up s4.2.2.1 y1 ({ (ix s4.2.2.1 y1 zla) with Kind:=s4.1 }:GAct)) (fun x5=>(oN (inb y1 (ln x5)) (share (up x5 y1 ({ (ix x5 y1 zla) with M:=y2 }:GAct)) (fun x6=>(oN (inb y1 (ln x6)) (share (up x6 y1 ({ (ix x6 y1 zla) with G:=(zB .i64 y2 1) }:GAct)) (fun x7=>(oN (inb y1 (ln x7)) (share (up x7 y1 ({ (ix x7 y1 zla) with X:=y0 }:GAct)) (fun x8=>(oN (inb y1 (ln x8)) (share (up x8 y1 ({ (ix x8 y1 zla) with Y:=y3 }:GAct)) (fun x9=>(oN (inb y1 (ln x9)) (share (up x9 y1 ({ (ix x9 y1 zla) with Z:=(zB .i64 y3 1) }:GAct)) (fun x10=>(r3 ((zB .i64 (zB .i64 y3 1) 1),((zB .i64 y1 1),(x10,())))))))))))))))))))))) (some [(aS .act s4.2.2.1),(aI s4.1)]))) (a1,(0,(a0,()))))
def zBc:FuncId->Nat->Option Tmpl:=zl [(15,0,{ n:=55,tm:=[(0,.sl 0 []),(1,ti),(5,ti)],lo:=[],ro:=[(0,.act,true)] })]
theorem zYl (N:Nat)(a0:List GAct)(a1:Int):zjN (cQ zob zB6 zk0 zlX) zBc N 12 15 .act a0 a1=zvv N a0 a1:=by kernel_rfl
theorem zT2 (a0:List GAct)(a1:Int)(hb:CVB big (.s .act a0))(hc:zpW a0 a1=true):∃N,zvv N a0 a1=some [.one (.s .act (zwf a0 a1)),.one (.i .i64 (zpV a0 a1))]:=by
 obtain ⟨h0,h1⟩:=zu.1 hc;have hl:=hb.len;refine zbo fun N hNN=>?_;unfold zvv oN
 conv=>zeta
 exact zeQ zbaP _ (fun k L=>some [AV.one (.s .act L),AV.one (.i .i64 k)]) (fun i L hi k rec h0 h1 hL=>by
  have hw:=zL hi hL;generalize hx:L[i]=x at h1 ⊢;have hix:∀d,ix L (i:Int) d=x:=fun d=>(zS hi d).trans hx;simp only[zNl,mkB]at h1;simp (disch:=omega) only [share,zU hi,zK hi,hix,hw,zjA,zpY,zs6 hi,set_set,zdP,zgR,cT];rfl
  ) (fun L k rec=>by simp only[zQ,cF]) a0 a1 N hl h0 h1 (hNN hl)
theorem zMs:zer Tryz.prog 15 zp1:=by
 refine zcD (zcP zdM zbg zk zn) (zdQ (by kernel_rfl)) ?_
 intro t l k c' k' hr h;obtain ⟨W,v,S,hrep⟩:=hr;have hb:=CVB.of_rep hrep;unfold zp1 at h;split at h
 .rename_i t2 l2 heq;cases heq;simp only[qB,qY]at h;obtain ⟨hc,rfl,rfl⟩:=h;obtain ⟨N,hN⟩:=zT2 _ _ hb hc;exact ⟨zBc,N,12,(zYl N _ _).trans hN⟩
 .cases h
def znV (l:List Told)(k:Int):Bool:=pc (0<=k/\k+mcL zse l<=mkB)
def zkl (l:List Told)(k:Int):List Told:=mkL z5X zH3 l k
def zkm (l:List Told)(k:Int):Int:=enL zH3 l k
def zos:CV->Int->Option (Bool×CV×Int)
 | .s .told l,k=>some (znV l k,.s .told (zkl l k),zkm l k)
 | _,_=>none
def ztB (N:Nat)(a0:lT)(a1:Int):OA:=
 (iter (σ:=(Int×(Int×(lT×Unit)))) N (fun r3 s4=>let y0:=s4.2.1; (cond (ilt y0 (ln s4.2.2.1)) (oN (ine 3 0) (oN (inb y0 (ln s4.2.2.1)) (share (up s4.2.2.1 y0 ({ (ix s4.2.2.1 y0 zBi) with Ok:=(ieq (zfU s4.1 3) 0) }:Told)) (fun x5=>(oN (inb y0 (ln x5)) (share (up x5 y0 ({ (ix x5 y0 zBi) with N:=(zB .i64 s4.1 1) }:Told)) (fun x6=>(r3 ((zB .i64 (zB .i64 s4.1 1) 1),((zB .i64 y0 1),(x6,()))))))))))) (some [(aS .told s4.2.2.1),(aI s4.1)]))) (a1,(0,(a0,()))))
def zyI:FuncId->Nat->Option Tmpl:=zl [(17,0,{ n:=29,tm:=[(0,.sl 0 []),(1,ti),(5,ti)],lo:=[],ro:=[(0,.told,true)] })]
theorem zUI (N:Nat)(a0:List Told)(a1:Int):zjN (cQ zob zB6 zk0 zlX) zyI N 12 17 .told a0 a1=ztB N a0 a1:=by kernel_rfl
theorem zQI (a0:List Told)(a1:Int)(hb:CVB big (.s .told a0))(hc:znV a0 a1=true):∃N,ztB N a0 a1=some [.one (.s .told (zkl a0 a1)),.one (.i .i64 (zkm a0 a1))]:=by
 obtain ⟨h0,h1⟩:=zu.1 hc;have hl:=hb.len;refine zbo fun N hNN=>?_;unfold ztB oN
 conv=>zeta
 exact zeQ zZd _ (fun k L=>some [AV.one (.s .told L),AV.one (.i .i64 k)]) (fun i L hi k rec h0 h1 hL=>by
  have hw:=zL hi hL;generalize hx:L[i]=x at h1 ⊢;have hix:∀d,ix L (i:Int) d=x:=fun d=>(zS hi d).trans hx;simp only[zse,mkB]at h1;simp (disch:=omega) only [share,zU hi,zK hi,hix,hw,zjA,zpY,zs6 hi,set_set,zdP,zgR,cT];rfl
  ) (fun L k rec=>by simp only[zQ,cF]) a0 a1 N hl h0 h1 (hNN hl)
theorem zIJ:zer Tryz.prog 17 zos:=by
 refine zcD (zcP zdM zbg zk zn) (zdQ (by kernel_rfl)) ?_
 intro t l k c' k' hr h;obtain ⟨W,v,S,hrep⟩:=hr;have hb:=CVB.of_rep hrep;unfold zos at h;split at h
 .rename_i t2 l2 heq;cases heq;simp only[qB,qY]at h;obtain ⟨hc,rfl,rfl⟩:=h;obtain ⟨N,hN⟩:=zQI _ _ hb hc;exact ⟨zyI,N,12,(zUI N _ _).trans hN⟩
 .cases h
def zUz:zgb:=[(88,zp3),(90,zon),(89,zor),(87,zp2),(37,zm4),(15,zp1),(17,zos)]++zB6
theorem zAf:zeL zUz:=zNm zbg (by
 intro x hx;simp only[qK,jJ,or_false]at hx;rcases hx with rfl|rfl|rfl|rfl|rfl|rfl|rfl
 .exact zMu
 .exact zIE
 .exact zII
 .exact zMt
 .exact zFU
 .exact zMs
 .exact zIJ)
def zgD (l:List (List Int))(k:Int):Bool:=pc (0<=k/\k+mcL znX l<=mkB)
def zh6 (l:List (List Int))(k:Int):List (List Int):=mkL zOY zcj l k
def zbG (l:List (List Int))(k:Int):Int:=enL zcj l k
def zop:CV->Int->Option (Bool×CV×Int)
 | .s (.sl .int) l,k=>some (zgD l k,.s (.sl .int) (zh6 l k),zbG l k)
 | _,_=>none
def zty (N:Nat)(a0:lM)(a1:Int):OA:=
 (iter (σ:=(Int×(Int×(lM×Unit)))) N (fun r3 s4=>let y0:=(ix s4.2.2.1 s4.2.1 []); (cond (ilt s4.2.1 (ln s4.2.2.1)) (oN (inb s4.2.1 (ln s4.2.2.1)) (oN (zgl y0 s4.1) (share (up s4.2.2.1 s4.2.1 (zgk y0 s4.1)) (fun x5=>(r3 ((ze8 y0 s4.1),((zB .i64 s4.2.1 1),(x5,())))))))) (some [(aS (.sl .int) s4.2.2.1),(aI s4.1)]))) (a1,(0,(a0,()))))
def zyF:FuncId->Nat->Option Tmpl:=zl [(35,0,{ n:=19,tm:=[(0,.sl 0 []),(1,ti),(5,ti)],lo:=[],ro:=[(0,(.sl .int),true)] })]
theorem zUF (N:Nat)(a0:List (List Int))(a1:Int):zjN (cQ zob zUz zk0 zlX) zyF N 12 35 (.sl .int) a0 a1=zty N a0 a1:=by kernel_rfl
theorem zQF (a0:List (List Int))(a1:Int)(hb:CVB big (.s (.sl .int) a0))(hc:zgD a0 a1=true):∃N,zty N a0 a1=some [.one (.s (.sl .int) (zh6 a0 a1)),.one (.i .i64 (zbG a0 a1))]:=by
 obtain ⟨h0,h1⟩:=zu.1 hc;have hl:=hb.len;refine zbo fun N hNN=>?_;unfold zty oN
 conv=>zeta
 exact zeQ zhu _ (fun k L=>some [AV.one (.s (.sl .int) L),AV.one (.i .i64 k)]) (fun i L hi k rec h0 h1 hL=>by
  have hw:=zL hi hL;generalize hx:L[i]=x at h1 ⊢;have hix:∀d,ix L (i:Int) d=x:=fun d=>(zS hi d).trans hx;have c1:zgl x k=true:=zD ⟨h0,h1⟩;simp only[share,zU hi,zK hi,hix,c1,hw,zjA,zgk,ze8,cT];rfl
  ) (fun L k rec=>by simp only[zQ,cF]) a0 a1 N hl h0 h1 (hNN hl)
theorem zIG:zer Tryz.prog 35 zop:=by
 refine zcD (zcP zdM zAf zk zn) (zdQ (by kernel_rfl)) ?_
 intro t l k c' k' hr h;obtain ⟨W,v,S,hrep⟩:=hr;have hb:=CVB.of_rep hrep;unfold zop at h;split at h
 .rename_i t2 l2 heq;cases heq;simp only[qB,qY]at h;obtain ⟨hc,rfl,rfl⟩:=h;obtain ⟨N,hN⟩:=zQF _ _ hb hc;exact ⟨zyF,N,12,(zUF N _ _).trans hN⟩
 .cases h
def znS (l:List (List Ins))(k:Int):Bool:=pc (0<=k/\k+mcL zQV l<=mkB)
def znQ (l:List (List Ins))(k:Int):List (List Ins):=mkL z5W zQ3 l k
def znR (l:List (List Ins))(k:Int):Int:=enL zQ3 l k
def zoo:CV->Int->Option (Bool×CV×Int)
 | .s (.sl .ins) l,k=>some (znS l k,.s (.sl .ins) (znQ l k),znR l k)
 | _,_=>none
def ztx (N:Nat)(a0:lP)(a1:Int):OA:=
 (iter (σ:=(Int×(Int×(lP×Unit)))) N (fun r3 s4=>let y0:=(ix s4.2.2.1 s4.2.1 []); (cond (ilt s4.2.1 (ln s4.2.2.1)) (oN (inb s4.2.1 (ln s4.2.2.1)) (oN (zjm y0 s4.1) (share (up s4.2.2.1 s4.2.1 (zjl y0 s4.1)) (fun x5=>(r3 ((zhF y0 s4.1),((zB .i64 s4.2.1 1),(x5,())))))))) (some [(aS (.sl .ins) s4.2.2.1),(aI s4.1)]))) (a1,(0,(a0,()))))
def zyE:FuncId->Nat->Option Tmpl:=zl [(34,0,{ n:=19,tm:=[(0,.sl 0 []),(1,ti),(5,ti)],lo:=[],ro:=[(0,(.sl .ins),true)] })]
theorem zUE (N:Nat)(a0:List (List Ins))(a1:Int):zjN (cQ zob zUz zk0 zlX) zyE N 12 34 (.sl .ins) a0 a1=ztx N a0 a1:=by kernel_rfl
theorem zQE (a0:List lI)(a1:Int)(hb:CVB big (.s (.sl .ins) a0))(hc:znS a0 a1=true):∃N,ztx N a0 a1=some [.one (.s (.sl .ins) (znQ a0 a1)),.one (.i .i64 (znR a0 a1))]:=by
 obtain ⟨h0,h1⟩:=zu.1 hc;have hl:=hb.len;refine zbo fun N hNN=>?_;unfold ztx oN
 conv=>zeta
 exact zeQ z7l _ (fun k L=>some [AV.one (.s (.sl .ins) L),AV.one (.i .i64 k)]) (fun i L hi k rec h0 h1 hL=>by
  have hw:=zL hi hL;generalize hx:L[i]=x at h1 ⊢;have hix:∀d,ix L (i:Int) d=x:=fun d=>(zS hi d).trans hx;have c1:zjm x k=true:=zD ⟨h0,h1⟩;simp only[share,zU hi,zK hi,hix,c1,hw,zjA,zjl,zhF,cT];rfl
  ) (fun L k rec=>by simp only[zQ,cF]) a0 a1 N hl h0 h1 (hNN hl)
theorem zIF:zer Tryz.prog 34 zoo:=by
 refine zcD (zcP zdM zAf zk zn) (zdQ (by kernel_rfl)) ?_
 intro t l k c' k' hr h;obtain ⟨W,v,S,hrep⟩:=hr;have hb:=CVB.of_rep hrep;unfold zoo at h;split at h
 .rename_i t2 l2 heq;cases heq;simp only[qB,qY]at h;obtain ⟨hc,rfl,rfl⟩:=h;obtain ⟨N,hN⟩:=zQE _ _ hb hc;exact ⟨zyE,N,12,(zUE N _ _).trans hN⟩
 .cases h
def znU (l:List Kept)(k:Int):Bool:=pc (0<=k/\k+mcL zk6 l<=mkB)
def znT (l:List Kept)(k:Int):List Kept:=mkL zBB zmA l k
def zkk (l:List Kept)(k:Int):Int:=enL zmA l k
def zoq:CV->Int->Option (Bool×CV×Int)
 | .s .kept l,k=>some (znU l k,.s .kept (znT l k),zkk l k)
 | _,_=>none
def ztz (N:Nat)(a0:lK)(a1:Int):OA:=
 (iter (σ:=(Int×(Int×(lK×Unit)))) N (fun r3 s4=>let y3:=s4.2.1;let y0:=(ix s4.2.2.1 y3 zcu);let y2:=(zh4 y0.Known s4.1); (cond (ilt y3 (ln s4.2.2.1)) (oN (inb y3 (ln s4.2.2.1)) (oN (zh5 y0.Known s4.1) (share (up s4.2.2.1 y3 ({ y0 with Known:=(zh3 y0.Known s4.1) }:Kept)) (fun x5=>let y1:=(ix x5 y3 zcu); (oN (inb y3 (ln x5)) (oN (zd2 y1.Slots y2) (share (up x5 y3 ({ y1 with Slots:=(zeC y1.Slots y2) }:Kept)) (fun x6=>(r3 ((zeD y1.Slots y2),((zB .i64 y3 1),(x6,())))))))))))) (some [(aS .kept s4.2.2.1),(aI s4.1)]))) (a1,(0,(a0,()))))
def zyG:FuncId->Nat->Option Tmpl:=zl [(92,0,{ n:=27,tm:=[(0,.sl 0 []),(1,ti),(5,ti)],lo:=[],ro:=[(0,.kept,true)] })]
theorem zUG (N:Nat)(a0:List Kept)(a1:Int):zjN (cQ zob zUz zk0 zlX) zyG N 12 92 .kept a0 a1=ztz N a0 a1:=by kernel_rfl
theorem zQG (a0:List Kept)(a1:Int)(hb:CVB big (.s .kept a0))(hc:znU a0 a1=true):∃N,ztz N a0 a1=some [.one (.s .kept (znT a0 a1)),.one (.i .i64 (zkk a0 a1))]:=by
 obtain ⟨h0,h1⟩:=zu.1 hc;have hl:=hb.len;refine zbo fun N hNN=>?_;unfold ztz oN
 conv=>zeta
 exact zeQ zka _ (fun k L=>some [AV.one (.s .kept L),AV.one (.i .i64 k)]) (fun i L hi k rec h0 h1 hL=>by
  have hw:=zL hi hL;generalize hx:L[i]=x at h1 ⊢;have hix:∀d,ix L (i:Int) d=x:=fun d=>(zS hi d).trans hx;simp only[zk6,mkB]at h1;have hn0:=zbT zeg.nn x.Known;have hn1:=zbT zce.nn x.Slots;have he0:=zbv zeg.nx x.Known (k);have he1:=zbv zce.nx x.Slots (enL zb9 x.Known (k));have c0:zh5 x.Known (k)=true:=zD ⟨by omega,by unfold mkB;omega⟩
  have c1:zd2 x.Slots (enL zb9 x.Known (k))=true:=zD ⟨by omega,by unfold mkB;omega⟩
  simp (disch:=omega) only [share,zU hi,zK hi,zTq hi,hix,hw,zjA,zpY,zs6 hi,set_set,zdP,zgR,cT,c0,zh3,zh4,c1,zeC,zeD];rfl
  ) (fun L k rec=>by simp only[zQ,cF]) a0 a1 N hl h0 h1 (hNN hl)
theorem zIH:zer Tryz.prog 92 zoq:=by
 refine zcD (zcP zdM zAf zk zn) (zdQ (by kernel_rfl)) ?_
 intro t l k c' k' hr h;obtain ⟨W,v,S,hrep⟩:=hr;have hb:=CVB.of_rep hrep;unfold zoq at h;split at h
 .rename_i t2 l2 heq;cases heq;simp only[qB,qY]at h;obtain ⟨hc,rfl,rfl⟩:=h;obtain ⟨N,hN⟩:=zQG _ _ hb hc;exact ⟨zyG,N,12,(zUG N _ _).trans hN⟩
 .cases h
def zms (l:List Guest)(k:Int):Bool:=pc (0<=k/\k+mcL zir l<=mkB)
def zmq (l:List Guest)(k:Int):List Guest:=mkL zvJ zcJ l k
def zmr (l:List Guest)(k:Int):Int:=enL zcJ l k
def zm5:CV->Int->Option (Bool×CV×Int)
 | .s .guest l,k=>some (zms l k,.s .guest (zmq l k),zmr l k)
 | _,_=>none
def zqV (N:Nat)(a0:lG)(a1:Int):OA:=
 (iter (σ:=(Int×(Int×(lG×Unit)))) N (fun r3 s4=>let y3:=s4.2.1;let y5:=(ix s4.2.2.1 y3 zo);let y2:=(zB .i64 (zhF y5.Prog s4.1) 1);let y11:=(zB .i64 y2 1); (cond (ilt y3 (ln s4.2.2.1)) (oN (inb y3 (ln s4.2.2.1)) (oN (zjm y5.Prog s4.1) (share (up s4.2.2.1 y3 ({ y5 with Prog:=(zjl y5.Prog s4.1) }:Guest)) (fun x5=>(oN (inb y3 (ln x5)) (share (up x5 y3 ({ (ix x5 y3 zo) with A:=(zhF y5.Prog s4.1) }:Guest)) (fun x6=>(oN (inb y3 (ln x6)) (share (up x6 y3 ({ (ix x6 y3 zo) with Pc:=y2 }:Guest)) (fun x7=>let y6:=(ix x7 y3 zo);let y10:=(zeD y6.Written y11); (oN (inb y3 (ln x7)) (oN (zd2 y6.Written y11) (share (up x7 y3 ({ y6 with Written:=(zeC y6.Written y11) }:Guest)) (fun x8=>let y9:=(ix x8 y3 zo);let y0:=(zeD y9.Live y10);let y7:=(zB .i64 (zB .i64 y0 1) 1);let y12:=(zB .i64 y7 1);let y1:=(zB .i64 (zB .i64 y12 1) 1);let y13:=(zB .i64 y1 1);let y4:=(zB .i64 (zB .i64 y13 1) 1);let y14:=(zB .i64 y4 1); (oN (inb y3 (ln x8)) (oN (zd2 y9.Live y10) (share (up x8 y3 ({ y9 with Live:=(zeC y9.Live y10) }:Guest)) (fun x9=>(oN (inb y3 (ln x9)) (share (up x9 y3 ({ (ix x9 y3 zo) with Ctl:=({ (ix x9 y3 zo).Ctl with Traps:=y0 }:Ctl) }:Guest)) (fun x10=>(oN (inb y3 (ln x10)) (share (up x10 y3 ({ (ix x10 y3 zo) with Ctl:=({ (ix x10 y3 zo).Ctl with Post:=(zB .i64 y0 1) }:Ctl) }:Guest)) (fun x11=>(oN (ine 3 0) (oN (inb y3 (ln x11)) (share (up x11 y3 ({ (ix x11 y3 zo) with Ctl:=({ (ix x11 y3 zo).Ctl with Open:=(ieq (zfU y7 3) 0) }:Ctl) }:Guest)) (fun x12=>(oN (inb y3 (ln x12)) (share (up x12 y3 ({ (ix x12 y3 zo) with Pending:=y12 }:Guest)) (fun x13=>(oN (inb y3 (ln x13)) (share (up x13 y3 ({ (ix x13 y3 zo) with Exit:=({ (ix x13 y3 zo).Exit with Kind:=(zB .i64 y12 1) }:GExit) }:Guest)) (fun x14=>(oN (inb y3 (ln x14)) (share (up x14 y3 ({ (ix x14 y3 zo) with Exit:=({ (ix x14 y3 zo).Exit with Page:=y1 }:GExit) }:Guest)) (fun x15=>(oN (ine 3 0) (oN (inb y3 (ln x15)) (share (up x15 y3 ({ (ix x15 y3 zo) with Exit:=({ (ix x15 y3 zo).Exit with Write:=(ieq (zfU y13 3) 0) }:GExit) }:Guest)) (fun x16=>(oN (inb y3 (ln x16)) (share (up x16 y3 ({ (ix x16 y3 zo) with Exit:=({ (ix x16 y3 zo).Exit with N:=(zB .i64 y13 1) }:GExit) }:Guest)) (fun x17=>(oN (ine 3 0) (oN (inb y3 (ln x17)) (share (up x17 y3 ({ (ix x17 y3 zo) with Halted:=(ieq (zfU y4 3) 0) }:Guest)) (fun x18=>let y8:=(ix x18 y3 zo); (oN (inb y3 (ln x18)) (oN (zgl y8.Seen y14) (share (up x18 y3 ({ y8 with Seen:=(zgk y8.Seen y14) }:Guest)) (fun x19=>(r3 ((ze8 y8.Seen y14),((zB .i64 y3 1),(x19,())))))))))))))))))))))))))))))))))))))))))))))))))))))))) (some [(aS .guest s4.2.2.1),(aI s4.1)]))) (a1,(0,(a0,()))))
def zwW:FuncId->Nat->Option Tmpl:=zl [(91,0,{ n:=131,tm:=[(0,.sl 0 []),(1,ti),(5,ti)],lo:=[],ro:=[(0,.guest,true)] })]
theorem zQ8 (N:Nat)(a0:List Guest)(a1:Int):zjN (cQ zob zUz zk0 zlX) zwW N 12 91 .guest a0 a1=zqV N a0 a1:=by kernel_rfl
theorem zM8 (a0:List Guest)(a1:Int)(hb:CVB big (.s .guest a0))(hc:zms a0 a1=true):∃N,zqV N a0 a1=some [.one (.s .guest (zmq a0 a1)),.one (.i .i64 (zmr a0 a1))]:=by
 obtain ⟨h0,h1⟩:=zu.1 hc;have hl:=hb.len;refine zbo fun N hNN=>?_;unfold zqV oN
 conv=>zeta
 exact zeQ zhV _ (fun k L=>some [AV.one (.s .guest L),AV.one (.i .i64 k)]) (fun i L hi k rec h0 h1 hL=>by
  have hw:=zL hi hL;generalize hx:L[i]=x at h1 ⊢;have hix:∀d,ix L (i:Int) d=x:=fun d=>(zS hi d).trans hx;simp only[zir,mkB]at h1;have hn0:=zbT zl4.nn x.Prog;have hn1:=zbT zce.nn x.Written;have hn2:=zbT zce.nn x.Live;have hn3:=zbT zeA.nn x.Seen;have he0:=zbv zl4.nx x.Prog (k);have he1:=zbv zce.nx x.Written (enL zch x.Prog (k)+1+1);have he2:=zbv zce.nx x.Live (enL zV x.Written (enL zch x.Prog (k)+1+1));have he3:=zbv zeA.nx x.Seen (enL zV x.Live (enL zV x.Written (enL zch x.Prog (k)+1+1))+1+1+1+1+1+1+1+1+1);have c0:zjm x.Prog (k)=true:=zD ⟨by omega,by unfold mkB;omega⟩
  have c1:zd2 x.Written (enL zch x.Prog (k)+1+1)=true:=zD ⟨by omega,by unfold mkB;omega⟩
  have c2:zd2 x.Live (enL zV x.Written (enL zch x.Prog (k)+1+1))=true:=zD ⟨by omega,by unfold mkB;omega⟩
  have c3:zgl x.Seen (enL zV x.Live (enL zV x.Written (enL zch x.Prog (k)+1+1))+1+1+1+1+1+1+1+1+1)=true:=zD ⟨by omega,by unfold mkB;omega⟩
  simp (disch:=omega) only [share,zU hi,zK hi,zTq hi,hix,hw,zjA,zpY,zs6 hi,set_set,zdP,zgR,cT,c0,zjl,zhF,c1,zeC,zeD,c2,c3,zgk,ze8];rfl
  ) (fun L k rec=>by simp only[zQ,cF]) a0 a1 N hl h0 h1 (hNN hl)
theorem zFV:zer Tryz.prog 91 zm5:=by
 refine zcD (zcP zdM zAf zk zn) (zdQ (by kernel_rfl)) ?_
 intro t l k c' k' hr h;obtain ⟨W,v,S,hrep⟩:=hr;have hb:=CVB.of_rep hrep;unfold zm5 at h;split at h
 .rename_i t2 l2 heq;cases heq;simp only[qB,qY]at h;obtain ⟨hc,rfl,rfl⟩:=h;obtain ⟨N,hN⟩:=zM8 _ _ hb hc;exact ⟨zwW,N,12,(zQ8 N _ _).trans hN⟩
 .cases h
def z6A:zgb:=[(35,zop),(34,zoo),(92,zoq),(91,zm5)]++zUz
theorem zUA:zeL z6A:=zNm zAf (by
 intro x hx;simp only[qK,jJ,or_false]at hx;rcases hx with rfl|rfl|rfl|rfl
 .exact zIG
 .exact zIF
 .exact zIH
 .exact zFV)
def zmt (l:List (List (List Ins)))(k:Int):Bool:=pc (0<=k/\k+mcL zQW l<=mkB)
def zrf (l:List (List (List Ins)))(k:Int):List (List (List Ins)):=mkL z7Q zQ4 l k
def zfJ (l:List (List (List Ins)))(k:Int):Int:=enL zQ4 l k
def zm6:CV->Int->Option (Bool×CV×Int)
 | .s (.sl (.sl .ins)) l,k=>some (zmt l k,.s (.sl (.sl .ins)) (zrf l k),zfJ l k)
 | _,_=>none
def zqW (N:Nat)(a0:lQ)(a1:Int):OA:=
 (iter (σ:=(Int×(Int×(lQ×Unit)))) N (fun r3 s4=>let y0:=(ix s4.2.2.1 s4.2.1 []); (cond (ilt s4.2.1 (ln s4.2.2.1)) (oN (inb s4.2.1 (ln s4.2.2.1)) (oN (znS y0 s4.1) (share (up s4.2.2.1 s4.2.1 (znQ y0 s4.1)) (fun x5=>(r3 ((znR y0 s4.1),((zB .i64 s4.2.1 1),(x5,())))))))) (some [(aS (.sl (.sl .ins)) s4.2.2.1),(aI s4.1)]))) (a1,(0,(a0,()))))
def zwX:FuncId->Nat->Option Tmpl:=zl [(14,0,{ n:=19,tm:=[(0,.sl 0 []),(1,ti),(5,ti)],lo:=[],ro:=[(0,(.sl (.sl .ins)),true)] })]
theorem zQ9 (N:Nat)(a0:List (List (List Ins)))(a1:Int):zjN (cQ zob z6A zk0 zlX) zwX N 12 14 (.sl (.sl .ins)) a0 a1=zqW N a0 a1:=by kernel_rfl
theorem zM9 (a0:List lP)(a1:Int)(hb:CVB big (.s (.sl (.sl .ins)) a0))(hc:zmt a0 a1=true):∃N,zqW N a0 a1=some [.one (.s (.sl (.sl .ins)) (zrf a0 a1)),.one (.i .i64 (zfJ a0 a1))]:=by
 obtain ⟨h0,h1⟩:=zu.1 hc;have hl:=hb.len;refine zbo fun N hNN=>?_;unfold zqW oN
 conv=>zeta
 exact zeQ z4w _ (fun k L=>some [AV.one (.s (.sl (.sl .ins)) L),AV.one (.i .i64 k)]) (fun i L hi k rec h0 h1 hL=>by
  have hw:=zL hi hL;generalize hx:L[i]=x at h1 ⊢;have hix:∀d,ix L (i:Int) d=x:=fun d=>(zS hi d).trans hx;have c1:znS x k=true:=zD ⟨h0,h1⟩;simp only[share,zU hi,zK hi,hix,c1,hw,zjA,znQ,znR,cT];rfl
  ) (fun L k rec=>by simp only[zQ,cF]) a0 a1 N hl h0 h1 (hNN hl)
theorem zFW:zer Tryz.prog 14 zm6:=by
 refine zcD (zcP zdM zUA zk zn) (zdQ (by kernel_rfl)) ?_
 intro t l k c' k' hr h;obtain ⟨W,v,S,hrep⟩:=hr;have hb:=CVB.of_rep hrep;unfold zm6 at h;split at h
 .rename_i t2 l2 heq;cases heq;simp only[qB,qY]at h;obtain ⟨hc,rfl,rfl⟩:=h;obtain ⟨N,hN⟩:=zM9 _ _ hb hc;exact ⟨zwX,N,12,(zQ9 N _ _).trans hN⟩
 .cases h
def zlJ (l:List Mon)(k:Int):Bool:=pc (0<=k/\k+mcL zol l<=mkB)
def zpX (l:List Mon)(k:Int):List Mon:=mkL zZL zNo l k
def zcm (l:List Mon)(k:Int):Int:=enL zNo l k
def zp4:CV->Int->Option (Bool×CV×Int)
 | .s .mon l,k=>some (zlJ l k,.s .mon (zpX l k),zcm l k)
 | _,_=>none
def zvy (N:Nat)(a0:lN)(a1:Int):OA:=
 (iter (σ:=(Int×(Int×(lN×Unit)))) N (fun r3 s4=>let y2:=s4.2.1;let y4:=(ix s4.2.2.1 y2 zh);let y11:=(zeD y4.Outer s4.1); (cond (ilt y2 (ln s4.2.2.1)) (oN (inb y2 (ln s4.2.2.1)) (oN (zd2 y4.Outer s4.1) (share (up s4.2.2.1 y2 ({ y4 with Outer:=(zeC y4.Outer s4.1) }:Mon)) (fun x5=>let y8:=(ix x5 y2 zh);let y1:=(zbG y8.Out y11); (oN (inb y2 (ln x5)) (oN (zgD y8.Out y11) (share (up x5 y2 ({ y8 with Out:=(zh6 y8.Out y11) }:Mon)) (fun x6=>let y5:=(ix x6 y2 zh);let y12:=(zh4 y5.Dirty y1); (oN (inb y2 (ln x6)) (oN (zh5 y5.Dirty y1) (share (up x6 y2 ({ y5 with Dirty:=(zh3 y5.Dirty y1) }:Mon)) (fun x7=>let y9:=(ix x7 y2 zh);let y0:=(zmr y9.Guests y12); (oN (inb y2 (ln x7)) (oN (zms y9.Guests y12) (share (up x7 y2 ({ y9 with Guests:=(zmq y9.Guests y12) }:Mon)) (fun x8=>let y7:=(ix x8 y2 zh);let y3:=(zB .i64 (ze8 y7.Outs y0) 1);let y10:=(zB .i64 y3 1); (oN (inb y2 (ln x8)) (oN (zgl y7.Outs y0) (share (up x8 y2 ({ y7 with Outs:=(zgk y7.Outs y0) }:Mon)) (fun x9=>(oN (inb y2 (ln x9)) (share (up x9 y2 ({ (ix x9 y2 zh) with Pending:=(ze8 y7.Outs y0) }:Mon)) (fun x10=>(oN (inb y2 (ln x10)) (share (up x10 y2 ({ (ix x10 y2 zh) with Traps:=y3 }:Mon)) (fun x11=>let y6:=(ix x11 y2 zh); (oN (inb y2 (ln x11)) (oN (znU y6.Tables y10) (share (up x11 y2 ({ y6 with Tables:=(znT y6.Tables y10) }:Mon)) (fun x12=>(oN (inb y2 (ln x12)) (share (up x12 y2 ({ (ix x12 y2 zh) with Own:=(zkk y6.Tables y10) }:Mon)) (fun x13=>(r3 ((zB .i64 (zkk y6.Tables y10) 1),((zB .i64 y2 1),(x13,()))))))))))))))))))))))))))))))))))))) (some [(aS .mon s4.2.2.1),(aI s4.1)]))) (a1,(0,(a0,()))))
def zBf:FuncId->Nat->Option Tmpl:=zl [(36,0,{ n:=76,tm:=[(0,.sl 0 []),(1,ti),(5,ti)],lo:=[],ro:=[(0,.mon,true)] })]
theorem zYo (N:Nat)(a0:List Mon)(a1:Int):zjN (cQ zob z6A zk0 zlX) zBf N 12 36 .mon a0 a1=zvy N a0 a1:=by kernel_rfl
theorem zT5 (a0:List Mon)(a1:Int)(hb:CVB big (.s .mon a0))(hc:zlJ a0 a1=true):∃N,zvy N a0 a1=some [.one (.s .mon (zpX a0 a1)),.one (.i .i64 (zcm a0 a1))]:=by
 obtain ⟨h0,h1⟩:=zu.1 hc;have hl:=hb.len;refine zbo fun N hNN=>?_;unfold zvy oN
 conv=>zeta
 exact zeQ zOM _ (fun k L=>some [AV.one (.s .mon L),AV.one (.i .i64 k)]) (fun i L hi k rec h0 h1 hL=>by
  have hw:=zL hi hL;generalize hx:L[i]=x at h1 ⊢;have hix:∀d,ix L (i:Int) d=x:=fun d=>(zS hi d).trans hx;simp only[zol,mkB]at h1;have hn0:=zbT zce.nn x.Outer;have hn1:=zbT zhu.nn x.Out;have hn2:=zbT zeg.nn x.Dirty;have hn3:=zbT zhV.nn x.Guests;have hn4:=zbT zeA.nn x.Outs;have hn5:=zbT zka.nn x.Tables;have he0:=zbv zce.nx x.Outer (k);have he1:=zbv zhu.nx x.Out (enL zV x.Outer (k));have he2:=zbv zeg.nx x.Dirty (enL zcj x.Out (enL zV x.Outer (k)));have he3:=zbv zhV.nx x.Guests (enL zb9 x.Dirty (enL zcj x.Out (enL zV x.Outer (k))));have he4:=zbv zeA.nx x.Outs (enL zcJ x.Guests (enL zb9 x.Dirty (enL zcj x.Out (enL zV x.Outer (k)))));have he5:=zbv zka.nx x.Tables (enL zfc x.Outs (enL zcJ x.Guests (enL zb9 x.Dirty (enL zcj x.Out (enL zV x.Outer (k)))))+1+1);have c0:zd2 x.Outer (k)=true:=zD ⟨by omega,by unfold mkB;omega⟩
  have c1:zgD x.Out (enL zV x.Outer (k))=true:=zD ⟨by omega,by unfold mkB;omega⟩
  have c2:zh5 x.Dirty (enL zcj x.Out (enL zV x.Outer (k)))=true:=zD ⟨by omega,by unfold mkB;omega⟩
  have c3:zms x.Guests (enL zb9 x.Dirty (enL zcj x.Out (enL zV x.Outer (k))))=true:=zD ⟨by omega,by unfold mkB;omega⟩
  have c4:zgl x.Outs (enL zcJ x.Guests (enL zb9 x.Dirty (enL zcj x.Out (enL zV x.Outer (k)))))=true:=zD ⟨by omega,by unfold mkB;omega⟩
  have c5:znU x.Tables (enL zfc x.Outs (enL zcJ x.Guests (enL zb9 x.Dirty (enL zcj x.Out (enL zV x.Outer (k)))))+1+1)=true:=zD ⟨by omega,by unfold mkB;omega⟩
  simp (disch:=omega) only [share,zU hi,zK hi,zTq hi,hix,hw,zjA,zpY,zs6 hi,set_set,zdP,zgR,cT,c0,zeC,zeD,c1,zh6,zbG,c2,zh3,zh4,c3,zmq,zmr,c4,zgk,ze8,c5,znT,zkk];rfl
  ) (fun L k rec=>by simp only[zQ,cF]) a0 a1 N hl h0 h1 (hNN hl)
theorem zMv:zer Tryz.prog 36 zp4:=by
 refine zcD (zcP zdM zUA zk zn) (zdQ (by kernel_rfl)) ?_
 intro t l k c' k' hr h;obtain ⟨W,v,S,hrep⟩:=hr;have hb:=CVB.of_rep hrep;unfold zp4 at h;split at h
 .rename_i t2 l2 heq;cases heq;simp only[qB,qY]at h;obtain ⟨hc,rfl,rfl⟩:=h;obtain ⟨N,hN⟩:=zT5 _ _ hb hc;exact ⟨zBf,N,12,(zYo N _ _).trans hN⟩
 .cases h
def zom:zgb:=[(14,zm6),(36,zp4)]++z6A
theorem zi:zeL zom:=zNm zUA (by
 intro x hx;simp only[qK,jJ,or_false]at hx;rcases hx with rfl|rfl
 .exact zFW
 .exact zMv)
def zgj (l:List Int)(k:Int):Bool:=pc (mkL zBA zfc l k=l/\0<=k/\k+mcL zwj l<=mkB)
def zf0 (l:List Int)(k:Int):Int:=enL zfc l k
def zAM:Run:=rF2 (dS .int) dI fun b c=>(zgj b c,[aI (zf0 b c)])
def zE1 (N:Nat)(a0:List Int)(a1:Int):OA:=
 (iter (σ:=(Int×(Int×((List Int)×Unit)))) N (fun r3 s4=>(cond (ilt s4.2.1 (ln s4.2.2.1)) (oN (inb s4.2.1 (ln s4.2.2.1)) (cond (ine (ix s4.2.2.1 s4.2.1 0) s4.1) (some [(aI (-1))]) (r3 ((zB .i64 s4.1 1),((zB .i64 s4.2.1 1),(s4.2.2.1,())))))) (some [(aI s4.1)]))) (a1,(0,(a0,()))))
def zU4:FuncId->Nat->Option Tmpl:=zl [(93,0,{ n:=21,tm:=[(0,.sl 0 []),(1,ti),(5,ti)],lo:=[],ro:=[(0,.int,false)] })]
theorem zT0 (a0:List Int)(a1:Int)(hb:zby big [aS .int a0,aI a1])(hc:zgj a0 a1=true):∃N,zE1 N a0 a1=some [aI (zf0 a0 a1)]:=by
 obtain ⟨he,h0,h1⟩:=zu.1 hc;have hl:=(len0 hb);refine zbo fun N hNN=>?_;unfold zE1 oN;exact zg2 zeA a0 _ (fun k=>some [AV.one (.i .i64 k)]) (fun i hi k rec he h0 h1=>by
  have hw:=zL hi hl;have hix:∀d,ix a0 (i:Int) d=a0[i]:=fun d=>zS hi d;generalize a0[i]=x at he h1 hix ⊢;simp only[zwj,mkB]at h1;rw[<- he]at hix;simp (disch:=omega) only [zU hi,zK hi,hix,zBA,hw,zdP,zgR,zbr,zbS,cT,cF];rfl
  ) (fun k rec=>by simp only[zQ,cF]) a1 N he h0 h1 (hNN hl)
theorem zMq:uY 93 zAM:=hF2 zdM zi zk zn zU4 zT0
def zh1 (l:List Bool)(k:Int):Bool:=pc (mkL zxk zb9 l k=l/\0<=k/\k+mcL zsd l<=mkB)
def zkJ (l:List Bool)(k:Int):Int:=enL zb9 l k
def zxX:Run:=rF2 (dS .bool) dI fun b c=>(zh1 b c,[aI (zkJ b c)])
def zCQ (N:Nat)(a0:lB)(a1:Int):OA:=
 (iter (σ:=(Int×(Int×(lB×Unit)))) N (fun r3 s4=>(cond (ilt s4.2.1 (ln s4.2.2.1)) (oN (inb s4.2.1 (ln s4.2.2.1)) (oN (ine 3 0) (cond (nB (zgL (ix s4.2.2.1 s4.2.1 false) (ieq (zfU s4.1 3) 0))) (some [(aI (-1))]) (r3 ((zB .i64 s4.1 1),((zB .i64 s4.2.1 1),(s4.2.2.1,()))))))) (some [(aI s4.1)]))) (a1,(0,(a0,()))))
def zRM:FuncId->Nat->Option Tmpl:=zl [(95,0,{ n:=23,tm:=[(0,.sl 0 []),(1,ti),(5,ti)],lo:=[],ro:=[(0,.bool,false)] })]
theorem zQy (a0:List Bool)(a1:Int)(hb:zby big [aS .bool a0,aI a1])(hc:zh1 a0 a1=true):∃N,zCQ N a0 a1=some [aI (zkJ a0 a1)]:=by
 obtain ⟨he,h0,h1⟩:=zu.1 hc;have hl:=(len0 hb);refine zbo fun N hNN=>?_;unfold zCQ oN nB;exact zg2 zeg a0 _ (fun k=>some [AV.one (.i .i64 k)]) (fun i hi k rec he h0 h1=>by
  have hw:=zL hi hl;have hix:∀d,ix a0 (i:Int) d=a0[i]:=fun d=>zS hi d;generalize a0[i]=x at he h1 hix ⊢;simp only[zsd,mkB]at h1;rw[<- he]at hix;simp (disch:=omega) only [zU hi,zK hi,hix,zxk,hw,zdP,zgR,zbr,zbS,cT,cF];rfl
  ) (fun k rec=>by simp only[zQ,cF]) a1 N he h0 h1 (hNN hl)
theorem zIA:uY 95 zxX:=hF2 zdM zi zk zn zRM zQy
def zd1 (l:List Slot)(k:Int):Bool:=pc (mkL zpe zV l k=l/\0<=k/\k+mcL zmw l<=mkB)
def zeZ (l:List Slot)(k:Int):Int:=enL zV l k
def zx0:Run:=rF2 (dS .slot) dI fun b c=>(zd1 b c,[aI (zeZ b c)])
def zCT (N:Nat)(a0:lS)(a1:Int):OA:=
 (iter (σ:=(Int×(Int×(lS×Unit)))) N (fun r3 s4=>let y0:=(ix s4.2.2.1 s4.2.1 zM); (cond (ilt s4.2.1 (ln s4.2.2.1)) (oN (inb s4.2.1 (ln s4.2.2.1)) (cond (ine y0.Page s4.1) (some [(aI (-1))]) (oN (inb s4.2.1 (ln s4.2.2.1)) (cond (ine y0.Rights (zB .i64 s4.1 1)) (some [(aI (-1))]) (r3 ((zB .i64 (zB .i64 s4.1 1) 1),((zB .i64 s4.2.1 1),(s4.2.2.1,())))))))) (some [(aI s4.1)]))) (a1,(0,(a0,()))))
def zRP:FuncId->Nat->Option Tmpl:=zl [(94,0,{ n:=31,tm:=[(0,.sl 0 []),(1,ti),(5,ti)],lo:=[],ro:=[(0,.slot,false)] })]
theorem zQB (a0:List Slot)(a1:Int)(hb:zby big [aS .slot a0,aI a1])(hc:zd1 a0 a1=true):∃N,zCT N a0 a1=some [aI (zeZ a0 a1)]:=by
 obtain ⟨he,h0,h1⟩:=zu.1 hc;have hl:=(len0 hb);refine zbo fun N hNN=>?_;unfold zCT oN
 conv=>zeta
 exact zg2 zce a0 _ (fun k=>some [AV.one (.i .i64 k)]) (fun i hi k rec he h0 h1=>by
  have hw:=zL hi hl;have hix:∀d,ix a0 (i:Int) d=a0[i]:=fun d=>zS hi d;generalize a0[i]=x at he h1 hix ⊢;simp only[zmw,mkB]at h1;have v_Page:x.Page=k:=(congrArg (fun (z:Slot)=>z.Page) he).symm;have v_Rights:x.Rights=k+1:=(congrArg (fun (z:Slot)=>z.Rights) he).symm;simp (disch:=omega) only [zU hi,zK hi,hix,hw,v_Page,v_Rights,zdP,zgR,zbr,zbS,cT,cF];rfl
  ) (fun k rec=>by simp only[zQ,cF]) a1 N he h0 h1 (hNN hl)
theorem zID:uY 94 zx0:=hF2 zdM zi zk zn zRP zQB
def zpT (l:List Ins)(k:Int):Bool:=pc (mkL zR5 zch l k=l/\0<=k/\k+mcL zpZ l<=mkB)
def zuM (l:List Ins)(k:Int):Int:=enL zch l k
def zAL:Run:=rF2 (dS .ins) dI fun b c=>(zpT b c,[aI (zuM b c)])
def zE0 (N:Nat)(a0:lI)(a1:Int):OA:=
 (iter (σ:=(Int×(Int×(lI×Unit)))) N (fun r3 s4=>let y0:=(ix s4.2.2.1 s4.2.1 zj9); (cond (ilt s4.2.1 (ln s4.2.2.1)) (oN (inb s4.2.1 (ln s4.2.2.1)) (cond (ine y0.Op s4.1) (some [(aI (-1))]) (oN (inb s4.2.1 (ln s4.2.2.1)) (cond (ine y0.X (zB .i64 s4.1 1)) (some [(aI (-1))]) (r3 ((zB .i64 (zB .i64 s4.1 1) 1),((zB .i64 s4.2.1 1),(s4.2.2.1,())))))))) (some [(aI s4.1)]))) (a1,(0,(a0,()))))
def zU3:FuncId->Nat->Option Tmpl:=zl [(197,0,{ n:=31,tm:=[(0,.sl 0 []),(1,ti),(5,ti)],lo:=[],ro:=[(0,.ins,false)] })]
theorem zTZ (a0:List Ins)(a1:Int)(hb:zby big [aS .ins a0,aI a1])(hc:zpT a0 a1=true):∃N,zE0 N a0 a1=some [aI (zuM a0 a1)]:=by
 obtain ⟨he,h0,h1⟩:=zu.1 hc;have hl:=(len0 hb);refine zbo fun N hNN=>?_;unfold zE0 oN
 conv=>zeta
 exact zg2 zl4 a0 _ (fun k=>some [AV.one (.i .i64 k)]) (fun i hi k rec he h0 h1=>by
  have hw:=zL hi hl;have hix:∀d,ix a0 (i:Int) d=a0[i]:=fun d=>zS hi d;generalize a0[i]=x at he h1 hix ⊢;simp only[zpZ,mkB]at h1;have v_Op:x.Op=k:=(congrArg (fun (z:Ins)=>z.Op) he).symm;have v_X:x.X=k+1:=(congrArg (fun (z:Ins)=>z.X) he).symm;simp (disch:=omega) only [zU hi,zK hi,hix,hw,v_Op,v_X,zdP,zgR,zbr,zbS,cT,cF];rfl
  ) (fun k rec=>by simp only[zQ,cF]) a1 N he h0 h1 (hNN hl)
theorem zMp:uY 197 zAL:=hF2 zdM zi zk zn zU3 zTZ
def zhn (l:List Entry)(k:Int):Bool:=pc (mkL zZK zAg l k=l/\0<=k/\k+mcL zjn l<=mkB)
def zdp (l:List Entry)(k:Int):Int:=enL zAg l k
def zwx:Run:=rF2 (dS .entry) dI fun b c=>(zhn b c,[aI (zdp b c)])
def zzG (N:Nat)(a0:lE)(a1:Int):OA:=
 (iter (σ:=(Int×(Int×(lE×Unit)))) N (fun r3 s4=>let y2:=(zB .i64 (zB .i64 s4.1 1) 1);let y1:=(inb s4.2.1 (ln s4.2.2.1));let y0:=(ix s4.2.2.1 s4.2.1 zdb); (cond (ilt s4.2.1 (ln s4.2.2.1)) (oN y1 (cond (ine y0.Tag s4.1) (some [(aI (-1))]) (oN y1 (cond (ine y0.Page (zB .i64 s4.1 1)) (some [(aI (-1))]) (oN y1 (cond (ine y0.Host y2) (some [(aI (-1))]) (oN y1 (cond (ine y0.Rights (zB .i64 y2 1)) (some [(aI (-1))]) (r3 ((zB .i64 (zB .i64 y2 1) 1),((zB .i64 s4.2.1 1),(s4.2.2.1,())))))))))))) (some [(aI s4.1)]))) (a1,(0,(a0,()))))
def zNB:FuncId->Nat->Option Tmpl:=zl [(40,0,{ n:=49,tm:=[(0,.sl 0 []),(1,ti),(5,ti)],lo:=[],ro:=[(0,.entry,false)] })]
theorem zM5 (a0:List Entry)(a1:Int)(hb:zby big [aS .entry a0,aI a1])(hc:zhn a0 a1=true):∃N,zzG N a0 a1=some [aI (zdp a0 a1)]:=by
 obtain ⟨he,h0,h1⟩:=zu.1 hc;have hl:=(len0 hb);refine zbo fun N hNN=>?_;unfold zzG oN
 conv=>zeta
 exact zg2 zoN a0 _ (fun k=>some [AV.one (.i .i64 k)]) (fun i hi k rec he h0 h1=>by
  have hw:=zL hi hl;have hix:∀d,ix a0 (i:Int) d=a0[i]:=fun d=>zS hi d;generalize a0[i]=x at he h1 hix ⊢;simp only[zjn,mkB]at h1;have v_Tag:x.Tag=k:=(congrArg (fun (z:Entry)=>z.Tag) he).symm;have v_Page:x.Page=k+1:=(congrArg (fun (z:Entry)=>z.Page) he).symm;have v_Host:x.Host=k+1+1:=(congrArg (fun (z:Entry)=>z.Host) he).symm;have v_Rights:x.Rights=k+1+1+1:=(congrArg (fun (z:Entry)=>z.Rights) he).symm;simp (disch:=omega) only [zU hi,zK hi,hix,hw,v_Tag,v_Page,v_Host,v_Rights,zdP,zgR,zbr,zbS,cT,cF];rfl
  ) (fun k rec=>by simp only[zQ,cF]) a1 N he h0 h1 (hNN hl)
theorem zFS:uY 40 zwx:=hF2 zdM zi zk zn zNB zM5
def zkj (l:List Told)(k:Int):Bool:=pc (mkL z5X zH3 l k=l/\0<=k/\k+mcL zse l<=mkB)
def zkK (l:List Told)(k:Int):Int:=enL zH3 l k
def zp9:Run:=rF2 (dS .told) dI fun b c=>(zkj b c,[aI (zkK b c)])
def zCU (N:Nat)(a0:lT)(a1:Int):OA:=
 (iter (σ:=(Int×(Int×(lT×Unit)))) N (fun r3 s4=>let y0:=(ix s4.2.2.1 s4.2.1 zBi); (cond (ilt s4.2.1 (ln s4.2.2.1)) (oN (inb s4.2.1 (ln s4.2.2.1)) (oN (ine 3 0) (cond (nB (zgL y0.Ok (ieq (zfU s4.1 3) 0))) (some [(aI (-1))]) (oN (inb s4.2.1 (ln s4.2.2.1)) (cond (ine y0.N (zB .i64 s4.1 1)) (some [(aI (-1))]) (r3 ((zB .i64 (zB .i64 s4.1 1) 1),((zB .i64 s4.2.1 1),(s4.2.2.1,()))))))))) (some [(aI s4.1)]))) (a1,(0,(a0,()))))
def zRQ:FuncId->Nat->Option Tmpl:=zl [(19,0,{ n:=33,tm:=[(0,.sl 0 []),(1,ti),(5,ti)],lo:=[],ro:=[(0,.told,false)] })]
theorem zQC (a0:List Told)(a1:Int)(hb:zby big [aS .told a0,aI a1])(hc:zkj a0 a1=true):∃N,zCU N a0 a1=some [aI (zkK a0 a1)]:=by
 obtain ⟨he,h0,h1⟩:=zu.1 hc;have hl:=(len0 hb);refine zbo fun N hNN=>?_;unfold zCU oN nB
 conv=>zeta
 exact zg2 zZd a0 _ (fun k=>some [AV.one (.i .i64 k)]) (fun i hi k rec he h0 h1=>by
  have hw:=zL hi hl;have hix:∀d,ix a0 (i:Int) d=a0[i]:=fun d=>zS hi d;generalize a0[i]=x at he h1 hix ⊢;simp only[zse,mkB]at h1;have v_Ok:x.Ok=ieq (zfU (k) 3) 0:=(congrArg (fun (z:Told)=>z.Ok) he).symm;have v_N:x.N=k+1:=(congrArg (fun (z:Told)=>z.N) he).symm;simp (disch:=omega) only [zU hi,zK hi,hix,hw,v_Ok,v_N,zdP,zgR,zbr,zbS,cT,cF];rfl
  ) (fun k rec=>by simp only[zQ,cF]) a1 N he h0 h1 (hNN hl)
theorem zt8:uY 19 zp9:=hF2 zdM zi zk zn zRQ zQC
def zbbm:zY:=[(93,zAM),(95,zxX),(94,zx0),(197,zAL),(40,zwx),(19,zp9)]++zob
theorem zBt:zJ zbbm:=zf zMq (zf zIA (zf zID (zf zMp (zf zFS (zf zt8 zdM)))))
def zh2 (l:List (List Int))(k:Int):Bool:=pc (mkL zOY zcj l k=l/\0<=k/\k+mcL znX l<=mkB)
def zdu (l:List (List Int))(k:Int):Int:=enL zcj l k
def zxY:Run:=rF2 (dS (.sl .int)) dI fun b c=>(zh2 b c,[aI (zdu b c)])
def zCR (N:Nat)(a0:lM)(a1:Int):OA:=
 (iter (σ:=(Int×(Int×(lM×Unit)))) N (fun r3 s4=>let y0:=(ix s4.2.2.1 s4.2.1 []); (cond (ilt s4.2.1 (ln s4.2.2.1)) (oN (inb s4.2.1 (ln s4.2.2.1)) (oN (zgj y0 s4.1) (cond (ilt (zf0 y0 s4.1) 0) (some [(aI (-1))]) (r3 ((zf0 y0 s4.1),((zB .i64 s4.2.1 1),(s4.2.2.1,()))))))) (some [(aI s4.1)]))) (a1,(0,(a0,()))))
def zRN:FuncId->Nat->Option Tmpl:=zl [(38,0,{ n:=21,tm:=[(0,.sl 0 []),(1,ti),(5,ti)],lo:=[],ro:=[(0,(.sl .int),false)] })]
theorem zQz (a0:List (List Int))(a1:Int)(hb:zby big [aS (.sl .int) a0,aI a1])(hc:zh2 a0 a1=true):∃N,zCR N a0 a1=some [aI (zdu a0 a1)]:=by
 obtain ⟨he,h0,h1⟩:=zu.1 hc;have hl:=(len0 hb);refine zbo fun N hNN=>?_;unfold zCR oN
 conv=>zeta
 exact zg2 zhu a0 _ (fun k=>some [AV.one (.i .i64 k)]) (fun i hi k rec he h0 h1=>by
  have hw:=zL hi hl;have hix:∀d,ix a0 (i:Int) d=a0[i]:=fun d=>zS hi d;generalize a0[i]=x at he h1 hix ⊢;have c1:zgj x k=true:=zD ⟨he,h0,h1⟩;have c2:ilt (enL zfc x k) 0=false:=zeu (by rw[zbv zeA.nx];have:=zbT zeA.nn x;omega)
  simp only[zU hi,zK hi,hix,c1,zf0,c2,hw,cT,cF];rfl
  ) (fun k rec=>by simp only[zQ,cF]) a1 N he h0 h1 (hNN hl)
theorem zIB:uY 38 zxY:=hF2 zBt zi zk zn zRN zQz
def znP (l:List Kept)(k:Int):Bool:=pc (mkL zBB zmA l k=l/\0<=k/\k+mcL zk6 l<=mkB)
def zsa (l:List Kept)(k:Int):Int:=enL zmA l k
def zxZ:Run:=rF2 (dS .kept) dI fun b c=>(znP b c,[aI (zsa b c)])
def zCS (N:Nat)(a0:lK)(a1:Int):OA:=
 (iter (σ:=(Int×(Int×(lK×Unit)))) N (fun r3 s4=>let y0:=(ix s4.2.2.1 s4.2.1 zcu);let y1:=(zkJ y0.Known s4.1); (cond (ilt s4.2.1 (ln s4.2.2.1)) (oN (inb s4.2.1 (ln s4.2.2.1)) (oN (zh1 y0.Known s4.1) (cond (ilt y1 0) (some [(aI (-1))]) (oN (inb s4.2.1 (ln s4.2.2.1)) (oN (zd1 y0.Slots y1) (cond (ilt (zeZ y0.Slots y1) 0) (some [(aI (-1))]) (r3 ((zeZ y0.Slots y1),((zB .i64 s4.2.1 1),(s4.2.2.1,())))))))))) (some [(aI s4.1)]))) (a1,(0,(a0,()))))
def zRO:FuncId->Nat->Option Tmpl:=zl [(97,0,{ n:=31,tm:=[(0,.sl 0 []),(1,ti),(5,ti)],lo:=[],ro:=[(0,.kept,false)] })]
theorem zQA (a0:List Kept)(a1:Int)(hb:zby big [aS .kept a0,aI a1])(hc:znP a0 a1=true):∃N,zCS N a0 a1=some [aI (zsa a0 a1)]:=by
 obtain ⟨he,h0,h1⟩:=zu.1 hc;have hl:=(len0 hb);refine zbo fun N hNN=>?_;unfold zCS oN
 conv=>zeta
 exact zg2 zka a0 _ (fun k=>some [AV.one (.i .i64 k)]) (fun i hi k rec he h0 h1=>by
  have hw:=zL hi hl;have hix:∀d,ix a0 (i:Int) d=a0[i]:=fun d=>zS hi d;generalize a0[i]=x at he h1 hix ⊢;simp only[zk6,mkB]at h1;have hn0:=zbT zeg.nn x.Known;have hn1:=zbT zce.nn x.Slots;have he0:=zbv zeg.nx x.Known (k);have he1:=zbv zce.nx x.Slots (enL zb9 x.Known (k));have w0:mkL zxk zb9 x.Known (k)=x.Known:=congrArg (fun (z:Kept)=>z.Known) he;have w1:mkL zpe zV x.Slots (enL zb9 x.Known (k))=x.Slots:=congrArg (fun (z:Kept)=>z.Slots) he;have c0:zh1 x.Known (k)=true:=zD ⟨w0,by omega,by unfold mkB;omega⟩
  have d0:ilt (enL zb9 x.Known (k)) 0=false:=zeu (by omega)
  have c1:zd1 x.Slots (enL zb9 x.Known (k))=true:=zD ⟨w1,by omega,by unfold mkB;omega⟩
  have d1:ilt (enL zV x.Slots (enL zb9 x.Known (k))) 0=false:=zeu (by omega)
  simp (disch:=omega) only [zU hi,zK hi,hix,hw,c0,d0,zkJ,c1,d1,zeZ,zdP,zgR,zbr,zbS,cT,cF];rfl
  ) (fun k rec=>by simp only[zQ,cF]) a1 N he h0 h1 (hNN hl)
theorem zIC:uY 97 zxZ:=hF2 zBt zi zk zn zRO zQA
def zmo (l:List Guest)(k:Int):Bool:=pc (mkL zvJ zcJ l k=l/\0<=k/\k+mcL zir l<=mkB)
def zpS (l:List Guest)(k:Int):Int:=enL zcJ l k
def zwy:Run:=rF2 (dS .guest) dI fun b c=>(zmo b c,[aI (zpS b c)])
def zzH (N:Nat)(a0:lG)(a1:Int):OA:=
 (iter (σ:=(Int×(Int×(lG×Unit)))) N (fun r3 s4=>let y3:=(inb s4.2.1 (ln s4.2.2.1));let y0:=(ix s4.2.2.1 s4.2.1 zo);let y5:=(zuM y0.Prog s4.1);let y9:=(zB .i64 y5 1);let y2:=(zeZ y0.Written (zB .i64 y9 1));let y6:=(zeZ y0.Live y2);let y10:=(zB .i64 y6 1);let y1:=(zB .i64 (zB .i64 y10 1) 1);let y7:=(zB .i64 (zB .i64 y1 1) 1);let y4:=(zB .i64 (zB .i64 y7 1) 1);let y8:=(zB .i64 (zB .i64 y4 1) 1); (cond (ilt s4.2.1 (ln s4.2.2.1)) (oN y3 (oN (zpT y0.Prog s4.1) (cond (ilt y5 0) (some [(aI (-1))]) (oN y3 (cond (ine y0.A y5) (some [(aI (-1))]) (oN y3 (cond (ine y0.Pc y9) (some [(aI (-1))]) (oN y3 (oN (zd1 y0.Written (zB .i64 y9 1)) (cond (ilt y2 0) (some [(aI (-1))]) (oN y3 (oN (zd1 y0.Live y2) (cond (ilt y6 0) (some [(aI (-1))]) (oN y3 (cond (ine y0.Ctl.Traps y6) (some [(aI (-1))]) (oN y3 (cond (ine y0.Ctl.Post y10) (some [(aI (-1))]) (oN y3 (oN (ine 3 0) (cond (nB (zgL y0.Ctl.Open (ieq (zfU (zB .i64 y10 1) 3) 0))) (some [(aI (-1))]) (oN y3 (cond (ine y0.Pending y1) (some [(aI (-1))]) (oN y3 (cond (ine y0.Exit.Kind (zB .i64 y1 1)) (some [(aI (-1))]) (oN y3 (cond (ine y0.Exit.Page y7) (some [(aI (-1))]) (oN y3 (oN (ine 3 0) (cond (nB (zgL y0.Exit.Write (ieq (zfU (zB .i64 y7 1) 3) 0))) (some [(aI (-1))]) (oN y3 (cond (ine y0.Exit.N y4) (some [(aI (-1))]) (oN y3 (oN (ine 3 0) (cond (nB (zgL y0.Halted (ieq (zfU (zB .i64 y4 1) 3) 0))) (some [(aI (-1))]) (oN y3 (oN (zgj y0.Seen y8) (cond (ilt (zf0 y0.Seen y8) 0) (some [(aI (-1))]) (r3 ((zf0 y0.Seen y8),((zB .i64 s4.2.1 1),(s4.2.2.1,()))))))))))))))))))))))))))))))))))))))))) (some [(aI s4.1)]))) (a1,(0,(a0,()))))
def zNC:FuncId->Nat->Option Tmpl:=zl [(96,0,{ n:=161,tm:=[(0,.sl 0 []),(1,ti),(5,ti)],lo:=[],ro:=[(0,.guest,false)] })]
theorem zM6 (a0:List Guest)(a1:Int)(hb:zby big [aS .guest a0,aI a1])(hc:zmo a0 a1=true):∃N,zzH N a0 a1=some [aI (zpS a0 a1)]:=by
 obtain ⟨he,h0,h1⟩:=zu.1 hc;have hl:=(len0 hb);refine zbo fun N hNN=>?_;unfold zzH oN nB
 conv=>zeta
 exact zg2 zhV a0 _ (fun k=>some [AV.one (.i .i64 k)]) (fun i hi k rec he h0 h1=>by
  have hw:=zL hi hl;have hix:∀d,ix a0 (i:Int) d=a0[i]:=fun d=>zS hi d;generalize a0[i]=x at he h1 hix ⊢;simp only[zir,mkB]at h1;have hn0:=zbT zl4.nn x.Prog;have hn1:=zbT zce.nn x.Written;have hn2:=zbT zce.nn x.Live;have hn3:=zbT zeA.nn x.Seen;have he0:=zbv zl4.nx x.Prog (k);have he1:=zbv zce.nx x.Written (enL zch x.Prog (k)+1+1);have he2:=zbv zce.nx x.Live (enL zV x.Written (enL zch x.Prog (k)+1+1));have he3:=zbv zeA.nx x.Seen (enL zV x.Live (enL zV x.Written (enL zch x.Prog (k)+1+1))+1+1+1+1+1+1+1+1+1);have w0:mkL zR5 zch x.Prog (k)=x.Prog:=congrArg (fun (z:Guest)=>z.Prog) he;have v_A:x.A=enL zch x.Prog (k):=(congrArg (fun (z:Guest)=>z.A) he).symm;have v_Pc:x.Pc=enL zch x.Prog (k)+1:=(congrArg (fun (z:Guest)=>z.Pc) he).symm;have w1:mkL zpe zV x.Written (enL zch x.Prog (k)+1+1)=x.Written:=congrArg (fun (z:Guest)=>z.Written) he;have w2:mkL zpe zV x.Live (enL zV x.Written (enL zch x.Prog (k)+1+1))=x.Live:=congrArg (fun (z:Guest)=>z.Live) he;have v_Ctl_Traps:x.Ctl.Traps=enL zV x.Live (enL zV x.Written (enL zch x.Prog (k)+1+1)):=(congrArg (fun (z:Guest)=>z.Ctl.Traps) he).symm;have v_Ctl_Post:x.Ctl.Post=enL zV x.Live (enL zV x.Written (enL zch x.Prog (k)+1+1))+1:=(congrArg (fun (z:Guest)=>z.Ctl.Post) he).symm;have v_Ctl_Open:x.Ctl.Open=ieq (zfU (enL zV x.Live (enL zV x.Written (enL zch x.Prog (k)+1+1))+1+1) 3) 0:=(congrArg (fun (z:Guest)=>z.Ctl.Open) he).symm;have v_Pending:x.Pending=enL zV x.Live (enL zV x.Written (enL zch x.Prog (k)+1+1))+1+1+1:=(congrArg (fun (z:Guest)=>z.Pending) he).symm;have v_Exit_Kind:x.Exit.Kind=enL zV x.Live (enL zV x.Written (enL zch x.Prog (k)+1+1))+1+1+1+1:=(congrArg (fun (z:Guest)=>z.Exit.Kind) he).symm;have v_Exit_Page:x.Exit.Page=enL zV x.Live (enL zV x.Written (enL zch x.Prog (k)+1+1))+1+1+1+1+1:=(congrArg (fun (z:Guest)=>z.Exit.Page) he).symm;have v_Exit_Write:x.Exit.Write=ieq (zfU (enL zV x.Live (enL zV x.Written (enL zch x.Prog (k)+1+1))+1+1+1+1+1+1) 3) 0:=(congrArg (fun (z:Guest)=>z.Exit.Write) he).symm;have v_Exit_N:x.Exit.N=enL zV x.Live (enL zV x.Written (enL zch x.Prog (k)+1+1))+1+1+1+1+1+1+1:=(congrArg (fun (z:Guest)=>z.Exit.N) he).symm;have v_Halted:x.Halted=ieq (zfU (enL zV x.Live (enL zV x.Written (enL zch x.Prog (k)+1+1))+1+1+1+1+1+1+1+1) 3) 0:=(congrArg (fun (z:Guest)=>z.Halted) he).symm;have w3:mkL zBA zfc x.Seen (enL zV x.Live (enL zV x.Written (enL zch x.Prog (k)+1+1))+1+1+1+1+1+1+1+1+1)=x.Seen:=congrArg (fun (z:Guest)=>z.Seen) he;have c0:zpT x.Prog (k)=true:=zD ⟨w0,by omega,by unfold mkB;omega⟩
  have d0:ilt (enL zch x.Prog (k)) 0=false:=zeu (by omega)
  have c1:zd1 x.Written (enL zch x.Prog (k)+1+1)=true:=zD ⟨w1,by omega,by unfold mkB;omega⟩
  have d1:ilt (enL zV x.Written (enL zch x.Prog (k)+1+1)) 0=false:=zeu (by omega)
  have c2:zd1 x.Live (enL zV x.Written (enL zch x.Prog (k)+1+1))=true:=zD ⟨w2,by omega,by unfold mkB;omega⟩
  have d2:ilt (enL zV x.Live (enL zV x.Written (enL zch x.Prog (k)+1+1))) 0=false:=zeu (by omega)
  have c3:zgj x.Seen (enL zV x.Live (enL zV x.Written (enL zch x.Prog (k)+1+1))+1+1+1+1+1+1+1+1+1)=true:=zD ⟨w3,by omega,by unfold mkB;omega⟩
  have d3:ilt (enL zfc x.Seen (enL zV x.Live (enL zV x.Written (enL zch x.Prog (k)+1+1))+1+1+1+1+1+1+1+1+1)) 0=false:=zeu (by omega)
  simp (disch:=omega) only [zU hi,zK hi,hix,hw,v_A,v_Pc,v_Ctl_Traps,v_Ctl_Post,v_Ctl_Open,v_Pending,v_Exit_Kind,v_Exit_Page,v_Exit_Write,v_Exit_N,v_Halted,c0,d0,zuM,c1,d1,zeZ,c2,d2,c3,d3,zf0,zdP,zgR,zbr,zbS,cT,cF];rfl
  ) (fun k rec=>by simp only[zQ,cF]) a1 N he h0 h1 (hNN hl)
theorem zFT:uY 96 zwy:=hF2 zBt zi zk zn zNC zM6
def zbbn:zY:=[(38,zxY),(97,zxZ),(96,zwy)]++zbbm
theorem zZu:zJ zbbn:=zf zIB (zf zIC (zf zFT zBt))
def zpU (l:List Mon)(k:Int):Bool:=pc (mkL zZL zNo l k=l/\0<=k/\k+mcL zol l<=mkB)
def zf1 (l:List Mon)(k:Int):Int:=enL zNo l k
def zAN:Run:=rF2 (dS .mon) dI fun b c=>(zpU b c,[aI (zf1 b c)])
def zE2 (N:Nat)(a0:lN)(a1:Int):OA:=
 (iter (σ:=(Int×(Int×(lN×Unit)))) N (fun r3 s4=>let y2:=(inb s4.2.1 (ln s4.2.2.1));let y0:=(ix s4.2.2.1 s4.2.1 zh);let y6:=(zeZ y0.Outer s4.1);let y4:=(zdu y0.Out y6);let y7:=(zkJ y0.Dirty y4);let y1:=(zpS y0.Guests y7);let y5:=(zf0 y0.Outs y1);let y3:=(zB .i64 (zB .i64 y5 1) 1);let y8:=(zsa y0.Tables y3); (cond (ilt s4.2.1 (ln s4.2.2.1)) (oN y2 (oN (zd1 y0.Outer s4.1) (cond (ilt y6 0) (some [(aI (-1))]) (oN y2 (oN (zh2 y0.Out y6) (cond (ilt y4 0) (some [(aI (-1))]) (oN y2 (oN (zh1 y0.Dirty y4) (cond (ilt y7 0) (some [(aI (-1))]) (oN y2 (oN (zmo y0.Guests y7) (cond (ilt y1 0) (some [(aI (-1))]) (oN y2 (oN (zgj y0.Outs y1) (cond (ilt y5 0) (some [(aI (-1))]) (oN y2 (cond (ine y0.Pending y5) (some [(aI (-1))]) (oN y2 (cond (ine y0.Traps (zB .i64 y5 1)) (some [(aI (-1))]) (oN y2 (oN (znP y0.Tables y3) (cond (ilt y8 0) (some [(aI (-1))]) (oN y2 (cond (ine y0.Own y8) (some [(aI (-1))]) (r3 ((zB .i64 y8 1),((zB .i64 s4.2.1 1),(s4.2.2.1,())))))))))))))))))))))))))))) (some [(aI s4.1)]))) (a1,(0,(a0,()))))
def zU5:FuncId->Nat->Option Tmpl:=zl [(39,0,{ n:=94,tm:=[(0,.sl 0 []),(1,ti),(5,ti)],lo:=[],ro:=[(0,.mon,false)] })]
theorem zT1 (a0:List Mon)(a1:Int)(hb:zby big [aS .mon a0,aI a1])(hc:zpU a0 a1=true):∃N,zE2 N a0 a1=some [aI (zf1 a0 a1)]:=by
 obtain ⟨he,h0,h1⟩:=zu.1 hc;have hl:=(len0 hb);refine zbo fun N hNN=>?_;unfold zE2 oN
 conv=>zeta
 exact zg2 zOM a0 _ (fun k=>some [AV.one (.i .i64 k)]) (fun i hi k rec he h0 h1=>by
  have hw:=zL hi hl;have hix:∀d,ix a0 (i:Int) d=a0[i]:=fun d=>zS hi d;generalize a0[i]=x at he h1 hix ⊢;simp only[zol,mkB]at h1;have hn0:=zbT zce.nn x.Outer;have hn1:=zbT zhu.nn x.Out;have hn2:=zbT zeg.nn x.Dirty;have hn3:=zbT zhV.nn x.Guests;have hn4:=zbT zeA.nn x.Outs;have hn5:=zbT zka.nn x.Tables;have he0:=zbv zce.nx x.Outer (k);have he1:=zbv zhu.nx x.Out (enL zV x.Outer (k));have he2:=zbv zeg.nx x.Dirty (enL zcj x.Out (enL zV x.Outer (k)));have he3:=zbv zhV.nx x.Guests (enL zb9 x.Dirty (enL zcj x.Out (enL zV x.Outer (k))));have he4:=zbv zeA.nx x.Outs (enL zcJ x.Guests (enL zb9 x.Dirty (enL zcj x.Out (enL zV x.Outer (k)))));have he5:=zbv zka.nx x.Tables (enL zfc x.Outs (enL zcJ x.Guests (enL zb9 x.Dirty (enL zcj x.Out (enL zV x.Outer (k)))))+1+1);have w0:mkL zpe zV x.Outer (k)=x.Outer:=congrArg (fun (z:Mon)=>z.Outer) he;have w1:mkL zOY zcj x.Out (enL zV x.Outer (k))=x.Out:=congrArg (fun (z:Mon)=>z.Out) he;have w2:mkL zxk zb9 x.Dirty (enL zcj x.Out (enL zV x.Outer (k)))=x.Dirty:=congrArg (fun (z:Mon)=>z.Dirty) he;have w3:mkL zvJ zcJ x.Guests (enL zb9 x.Dirty (enL zcj x.Out (enL zV x.Outer (k))))=x.Guests:=congrArg (fun (z:Mon)=>z.Guests) he;have w4:mkL zBA zfc x.Outs (enL zcJ x.Guests (enL zb9 x.Dirty (enL zcj x.Out (enL zV x.Outer (k)))))=x.Outs:=congrArg (fun (z:Mon)=>z.Outs) he;have v_Pending:x.Pending=enL zfc x.Outs (enL zcJ x.Guests (enL zb9 x.Dirty (enL zcj x.Out (enL zV x.Outer (k))))):=(congrArg (fun (z:Mon)=>z.Pending) he).symm;have v_Traps:x.Traps=enL zfc x.Outs (enL zcJ x.Guests (enL zb9 x.Dirty (enL zcj x.Out (enL zV x.Outer (k)))))+1:=(congrArg (fun (z:Mon)=>z.Traps) he).symm;have w5:mkL zBB zmA x.Tables (enL zfc x.Outs (enL zcJ x.Guests (enL zb9 x.Dirty (enL zcj x.Out (enL zV x.Outer (k)))))+1+1)=x.Tables:=congrArg (fun (z:Mon)=>z.Tables) he;have v_Own:x.Own=enL zmA x.Tables (enL zfc x.Outs (enL zcJ x.Guests (enL zb9 x.Dirty (enL zcj x.Out (enL zV x.Outer (k)))))+1+1):=(congrArg (fun (z:Mon)=>z.Own) he).symm;have c0:zd1 x.Outer (k)=true:=zD ⟨w0,by omega,by unfold mkB;omega⟩
  have d0:ilt (enL zV x.Outer (k)) 0=false:=zeu (by omega)
  have c1:zh2 x.Out (enL zV x.Outer (k))=true:=zD ⟨w1,by omega,by unfold mkB;omega⟩
  have d1:ilt (enL zcj x.Out (enL zV x.Outer (k))) 0=false:=zeu (by omega)
  have c2:zh1 x.Dirty (enL zcj x.Out (enL zV x.Outer (k)))=true:=zD ⟨w2,by omega,by unfold mkB;omega⟩
  have d2:ilt (enL zb9 x.Dirty (enL zcj x.Out (enL zV x.Outer (k)))) 0=false:=zeu (by omega)
  have c3:zmo x.Guests (enL zb9 x.Dirty (enL zcj x.Out (enL zV x.Outer (k))))=true:=zD ⟨w3,by omega,by unfold mkB;omega⟩
  have d3:ilt (enL zcJ x.Guests (enL zb9 x.Dirty (enL zcj x.Out (enL zV x.Outer (k))))) 0=false:=zeu (by omega)
  have c4:zgj x.Outs (enL zcJ x.Guests (enL zb9 x.Dirty (enL zcj x.Out (enL zV x.Outer (k)))))=true:=zD ⟨w4,by omega,by unfold mkB;omega⟩
  have d4:ilt (enL zfc x.Outs (enL zcJ x.Guests (enL zb9 x.Dirty (enL zcj x.Out (enL zV x.Outer (k)))))) 0=false:=zeu (by omega)
  have c5:znP x.Tables (enL zfc x.Outs (enL zcJ x.Guests (enL zb9 x.Dirty (enL zcj x.Out (enL zV x.Outer (k)))))+1+1)=true:=zD ⟨w5,by omega,by unfold mkB;omega⟩
  have d5:ilt (enL zmA x.Tables (enL zfc x.Outs (enL zcJ x.Guests (enL zb9 x.Dirty (enL zcj x.Out (enL zV x.Outer (k)))))+1+1)) 0=false:=zeu (by omega)
  simp (disch:=omega) only [zU hi,zK hi,hix,hw,v_Pending,v_Traps,v_Own,c0,d0,zeZ,c1,d1,zdu,c2,d2,zkJ,c3,d3,zpS,c4,d4,zf0,c5,d5,zsa,zdP,zgR,zbr,zbS,cT,cF];rfl
  ) (fun k rec=>by simp only[zQ,cF]) a1 N he h0 h1 (hNN hl)
theorem zMr:uY 39 zAN:=hF2 zZu zi zk zn zU5 zT1
def zbbo:zY:=[(39,zAN)]++zbbn
theorem z9I:zJ zbbo:=zf zMr zZu
def ctrU:zY:=zbbo
theorem zcO:∀f run,zq ctrU f=some run->Holds Tryz.prog f run:=z9I
def W (c:Int)(f:Int->Int):Prop:=∀n,0<=n->n<=1048576->f n<=n/\(0<=f n->c<=15*(n-f n))
theorem zQY {α:Type}{m:α->Int}(h:∀x,m x<=15):∀l:List α,mcL m l<=15*l.length
 | []=>by simp[mcL]
 | x :: l=>by
  have:=zQY h l;have:=h x;simp only[mcL,qT];omega
theorem zbdw {α:Type}{m:α->Int}(h:∀x,m x<=15)(l:List α):W (mcL m l) (szL l):=by
 intro n h0 h1;have:=zQY h l;unfold szL;split
 .exact ⟨by omega,fun h=>by omega⟩
 .exact ⟨by omega,fun h=>by omega⟩
theorem W_go {α:Type}{m mc:α->Int}{s:Int}{f:α->Int->Int}(hs:s<=15)(h:∀x,W (mc x) (f x))(hm:∀x,m x=mc x+s):∀l:List α,W (mcL m l-15*l.length) (zCx f l)
 | []=>fun n h0 h1=>⟨Int.le_refl _,fun h=>by simp[mcL,zCx]⟩
 | x :: l=>by
  intro n h0 h1;obtain ⟨a,b⟩:=h x n h0 h1;simp only[zCx,mcL,qT];unfold thn;split
  .exact ⟨by omega,fun h=>by omega⟩
  .obtain ⟨c,d⟩:=W_go hs h hm l (f x n) (by omega) (by omega)
   refine ⟨by omega,fun hp=>?_⟩
   have:=b (by omega)
   have:=d hp;have:=hm x;omega
theorem z7n {α:Type}{m mc:α->Int}{s:Int}{f:α->Int->Int}(hs:s<=15)(h:∀x,W (mc x) (f x))(hm:∀x,m x=mc x+s)(l:List α):W (mcL m l) (zCy f l):=by
 intro n h0 h1;unfold zCy thn;split
 .exact ⟨by omega,fun h=>by omega⟩
 .obtain ⟨c,d⟩:=W_go hs h hm l (n-l.length) (by omega) (by omega)
  refine ⟨by omega,fun hp=>?_⟩
  have:=d hp;omega
theorem zbeB (l:List Ins):W (mcL zpZ l) (zgE l):=zbdw (fun _=>by unfold zpZ;decide) l
def zB5 (h:Host):Int:=mcL znX h.Memory+(mcL zol h.Mons+(mcL zjn h.Buffer+(mcL zjn h.IoBuffer+0)))
structure MarkH (h:Host) (k:Int):Prop where
 c1:zgD h.Memory k=true
 c2:zlJ h.Mons (zbG h.Memory k)=true
 c3:zeR h.Buffer (zcm h.Mons (zbG h.Memory k))=true
 c4:zeR h.IoBuffer (zb6 h.Buffer (zcm h.Mons (zbG h.Memory k)))=true
 nn:0<=zb6 h.IoBuffer (zb6 h.Buffer (zcm h.Mons (zbG h.Memory k)))
 le:zb6 h.IoBuffer (zb6 h.Buffer (zcm h.Mons (zbG h.Memory k)))<=k+15728640
section
variable {α:Type} {f:α->Int->α} {nx:α->Int->Int} {m:α->Int}
structure Res (f:α->Int->α) (nx:α->Int->Int) (m:α->Int) (l:List α):Prop where
 c:0<=(1:Int)/\1+mcL m l<=mkB
 hc:mkL f nx (mkL f nx l 1) 1=mkL f nx l 1/\0<=(1:Int)/\1+mcL m (mkL f nx l 1)<=mkB
 e:enL nx (mkL f nx l 1) 1=enL nx l 1
 nn:ilt (enL nx l 1) 0=false
theorem res (h:Mk f nx m)(l:List α)(hl:mcL m l<=1000000000000):Res f nx m l:=by
 have hB:mkB=4611686018427387904:=rfl;have hn:=zbT h.nn l;refine ⟨⟨by decide,by omega⟩,⟨zj0 h l 1,by decide,by rw[zdR h];omega⟩,by rw[zbv h.nx,zbv h.nx,zdR h],zeu (by rw[zbv h.nx];omega)⟩
end
theorem z4S:∀l:List Int,mcL zwj l=l.length
 | []=>rfl
 | x :: l=>by simp only[mcL,z4S l,zwj,qT];omega
def canRun (g:Guest):Bool:=bif (ieq g.Exit.Kind 0&&(ieq g.Exit.Page 0&&(zgL g.Exit.Write false&&ieq g.Exit.N 0))) then !g.Halted else false
def zuU (_:Guest):Bool:=true
abbrev zrx (g:Guest):Bool:=canRun g
def zG2:Run:=rF1 (dT .guest) fun b=>(zuU b,[aB (zrx b)])
def zOn (N:Nat)(a0:Guest):OA:=
 (cond (cond (ieq a0.Exit.Kind 0) (cond (ieq a0.Exit.Page 0) (cond (zgL a0.Exit.Write false) (ieq a0.Exit.N 0) false) false) false) (some [(aB (nB a0.Halted))]) oF)
theorem z0T (a0:Guest)(hc:zuU a0=true):∃N,zOn N a0=some [aB (zrx a0)]:=by
 refine ⟨0,?_⟩;unfold zOn zrx canRun nB;cases ieq a0.Exit.Kind 0<;>cases ieq a0.Exit.Page 0<;>cases zgL a0.Exit.Write false<;>cases ieq a0.Exit.N 0<;>simp
theorem zSX:uY 206 zG2:=kF1 zvc zbg zk zn (zl []) z0T
def zur (_:Guest):Bool:=true
abbrev zq4 (g:Guest):Bool:=canRun g
def zGl:Run:=rF1 (dT .guest) fun b=>(zur b,[aB (zq4 b)])
def zNG (N:Nat)(a0:Guest):OA:=
 (cond (cond (ieq a0.Exit.Kind 0) (cond (ieq a0.Exit.Page 0) (cond (zgL a0.Exit.Write false) (ieq a0.Exit.N 0) false) false) false) (some [(aB (nB a0.Halted))]) oF)
theorem z0a (a0:Guest)(hc:zur a0=true):∃N,zNG N a0=some [aB (zq4 a0)]:=by
 refine ⟨0,?_⟩;unfold zNG zq4 canRun nB;cases ieq a0.Exit.Kind 0<;>cases ieq a0.Exit.Page 0<;>cases zgL a0.Exit.Write false<;>cases ieq a0.Exit.N 0<;>simp
theorem zSg:uY 245 zGl:=kF1 zvc zbg zk zn (zl []) z0a
theorem must {ρ:Type}{c:Bool}{a b r:Option ρ}(h:c=true)(k:a=r):(cond c a b)=r:=by rw[h];exact k
theorem mu {ρ:Type}{c:Bool}{a b r:Option ρ}(k:a=r)(h:c=true:=by first|assumption|(simp_all<;>omega)):(cond c a b)=r:=must h k
theorem zbI {ρ:Type}{c:Bool}{a b r:Option ρ}(h:c=false)(k:b=r):(cond c a b)=r:=by rw[h];exact k
theorem br {ρ:Type}{c:Bool}{a b r:Option ρ}(h1:c=true->a=r)(h2:c=false->b=r):(cond c a b)=r:=by
 cases c
 .exact h2 rfl
 .exact h1 rfl
theorem brN {ρ:Type}{c:Bool}{a b r:Option ρ}(h1:c=false->a=r)(h2:c=true->b=r):(cond (cond c false true) a b)=r:=by
 cases c
 .exact h1 rfl
 .exact h2 rfl
theorem shr {α ρ:Type}{x:α}{f:α->Option ρ}{r:Option ρ}(h:f x=r):share x f=r:=h
theorem ziz {ρ:Type}{c p:Bool}{a b:Option ρ}(hc:c=true):(cond c (cond (cond p false true) a b) none)=bif p then b else a:=by
 rw[hc];cases p<;>rfl
attribute [simp] zu
@[simp] theorem zbcQ {α:Type}(l:List α):(few (ln l)=true)↔l.length<=2147483648:=by
 unfold few ln;rw[decide_eq_true_iff];omega
@[simp] theorem zbfv {α:Type}(l m:List α):(ap l m).length=l.length+m.length:=by simp[ap]
attribute [simp] zna zdZ
@[simp] theorem zbbW (n:Nat)(k:IntKind)(x:Int):CVB n (.i k x)↔True:=⟨fun _=>trivial,fun _=>.i k x⟩
@[simp] theorem zbfz (n:Nat)(x:Bool):CVB n (.b x)↔True:=⟨fun _=>trivial,fun _=>.b x⟩
theorem zjM {n:Nat}{t:Ty}(l:List t.den):CVB n (.s t l)↔l.length<=n/\∀x∈l,∀c∈t.cells x,CVB n c:=⟨fun h=>h.inv,fun h=>.s t l h.1 h.2⟩
@[simp] theorem z4F (n:Nat)(l:List Int):CVB n (.s .int l)↔l.length<=n:=by rw[zjM];simp[Ty.cells]
@[simp] theorem zbd1 (n:Nat)(l:List Int):CVB n (.s .u8 l)↔l.length<=n:=by rw[zjM];simp[Ty.cells]
@[simp] theorem z9Q (n:Nat)(l:List Bool):CVB n (.s .bool l)↔l.length<=n:=by rw[zjM];simp[Ty.cells]
@[simp] theorem z9S (n:Nat)(l:List Slot):CVB n (.s .slot l)↔l.length<=n:=by rw[zjM];simp[Ty.cells]
@[simp] theorem zbcI (n:Nat)(l:List Ins):CVB n (.s .ins l)↔l.length<=n:=by rw[zjM];simp[Ty.cells]
@[simp] theorem z7M (n:Nat)(l:List Entry):CVB n (.s .entry l)↔l.length<=n:=by rw[zjM];simp[Ty.cells]
@[simp] theorem zbcH (n:Nat)(l:List GAct):CVB n (.s .act l)↔l.length<=n:=by rw[zjM];simp[Ty.cells]
@[simp] theorem z9T (n:Nat)(l:List Told):CVB n (.s .told l)↔l.length<=n:=by rw[zjM];simp[Ty.cells]
def SmM (m:List (List Int)):Prop:=m.length<=1048576/\∀x∈m,x.length<=1048576
def SmG (g:Guest):Prop:=g.Prog.length<=1048576/\g.Written.length<=1048576/\g.Live.length<=1048576/\g.Seen.length<=1048576
def zm0 (l:List Guest):Prop:=l.length<=1048576/\∀x∈l,SmG x
def SmB (b:Bare):Prop:=SmM b.Memory/\zm0 b.Guests/\b.Outs.length<=1048576
def z5x (l:List Bare):Prop:=l.length<=1048576/\∀x∈l,SmB x
theorem sm_v:sm=1048576:=rfl
@[simp] theorem z5Q (l:List Int):CVB sm (.s .int l)↔l.length<=1048576:=z4F sm l
@[simp] theorem zbe7 (l:List Int):CVB sm (.s .u8 l)↔l.length<=1048576:=zbd1 sm l
@[simp] theorem z2P (l:List Bool):CVB sm (.s .bool l)↔l.length<=1048576:=z9Q sm l
@[simp] theorem z2Q (l:List Slot):CVB sm (.s .slot l)↔l.length<=1048576:=z9S sm l
@[simp] theorem z5P (l:List Ins):CVB sm (.s .ins l)↔l.length<=1048576:=zbcI sm l
@[simp] theorem zZH (l:List Entry):CVB sm (.s .entry l)↔l.length<=1048576:=z7M sm l
@[simp] theorem zbeP (l:List GAct):CVB sm (.s .act l)↔l.length<=1048576:=zbcH sm l
@[simp] theorem zbez (l:List Told):CVB sm (.s .told l)↔l.length<=1048576:=z9T sm l
@[simp] theorem zq0 (l:List (List Int)):CVB sm (.s (.sl .int) l)↔SmM l:=by rw[zjM];simp[Ty.cells,SmM,sm_v]
@[simp] theorem zbcq (g:Guest):(∀c∈Ty.cells .guest g,CVB sm c)↔SmG g:=by simp[Ty.cells,SmG,sm_v]
@[simp] theorem zxj (l:List Guest):CVB sm (.s .guest l)↔zm0 l:=by rw[zjM];simp only[zbcq];rfl
@[simp] theorem zbcp (b:Bare):(∀c∈Ty.cells .bare b,CVB sm c)↔SmB b:=by
 simp only[Ty.cells,qK,jJ,or_false,uV,forall_eq,zq0,zxj,z4F,zbbW,and_true];rfl
@[simp] theorem zbfc (l:List Bare):CVB sm (.s .bare l)↔z5x l:=by rw[zjM];simp only[zbcp];rfl
@[simp] theorem zbfy (a:List Ins)(b c:Int)(d e:List Slot)(f:Ctl)(g:Int)(h:GExit)(i:Bool)(j:List Int):SmG ⟨a,b,c,d,e,f,g,h,i,j⟩↔a.length<=1048576/\d.length<=1048576/\e.length<=1048576/\j.length<=1048576:=Iff.rfl
@[simp] theorem zbfx (m:List (List Int))(g:List Guest)(o:List Int)(p:Int):SmB ⟨m,g,o,p⟩↔SmM m/\zm0 g/\o.length<=1048576:=Iff.rfl
theorem zRx {m:List (List Int)}{i:Int}{x:List Int}(h:SmM m)(hx:x.length<=1048576):SmM (up m i x):=by
 refine ⟨by simpa using h.1,fun y hy=>?_⟩
 rcases jT hy with hy|rfl
 .exact h.2 y hy
 .exact hx
theorem zIj {m:List Guest}{i:Int}{x:Guest}(h:zm0 m)(hx:SmG x):zm0 (up m i x):=by
 refine ⟨by simpa using h.1,fun y hy=>?_⟩
 rcases jT hy with hy|rfl
 .exact h.2 y hy
 .exact hx
theorem zbdk {m:List Bare}{i:Int}{x:Bare}(h:z5x m)(hx:SmB x):z5x (up m i x):=by
 refine ⟨by simpa using h.1,fun y hy=>?_⟩
 rcases jT hy with hy|rfl
 .exact h.2 y hy
 .exact hx
theorem z1N {l:List Guest}{i:Int}(h:zm0 l)(hh:hasB i (ln l)=true)(d:Guest):SmG (ix l i d):=h.2 _ (zbw hh d)
theorem zbep {l:List (List Int)}{i:Int}(h:SmM l)(hh:hasB i (ln l)=true)(d:List Int):(ix l i d).length<=1048576:=h.2 _ (zbw hh d)
@[simp] theorem zbe1:SmG zo:=⟨by decide,by decide,by decide,by decide⟩
def win (x a b:Int):Bool:=ige x a&&ile x b
@[simp] theorem zYZ (x a b:Int):zT x a b=win x a b:=rfl
@[simp] theorem zbfA (x a b:Int):zbp x a b=win x a b:=rfl
@[simp] theorem zZ4 (i n:Int):inb i n=hasB i n:=rfl
attribute [simp] zbO
@[simp] theorem zrK {α:Type}{l:List α}(h:l.length<=1048576)(i:Int):win i 0 (wsub .i64 (ln l) 1)=hasB i (ln l):=zV8 (zb2 h).1 i
theorem zNE {α:Type}{l:List α}(h:l.length<=big)(i:Int):win i 0 (wsub .i64 (ln l) 1)=hasB i (ln l):=zV8 h i
theorem zfo {x a b:Int}:(win x a b=true)↔a<=x/\x<=b:=by
 unfold win ige ile;simp only[qE,decide_eq_true_iff]
theorem zbcT (a b:Int):ilt a b = !ige a b:=by
 unfold ilt ige
 by_cases h:a<b
 .rw [qL h,qH (by omega)];rfl
 .rw [qH h,qL (by omega)];rfl
attribute [simp] zbq zcl zgT zgP zhN zhA zhO zdH zj4 zhB zrx zq4 zcd zcX
attribute [simp] zeo zcB zf6 zdi
attribute [simp] zf4 zc7 zfx zdo
def zbP (a:Int):Int:=bif ilt a 0 then -1 else z2G .i64 a 4
def zfC (a:Int):Int:=bif ilt a 0 then -1 else zfU a 4
@[simp] abbrev zgq (a:Int):Bool:=true
@[simp] abbrev zcp (a:Int):Int:=zbP a
def zAP:Run:=rF1 dI fun b=>(zgq b,[aI (zcp b)])
def zE6 (N:Nat)(a0:Int):OA:=
 (cond (ilt a0 0) (some [(aI (-1))]) (oN (ine 4 0) (some [(aI (z2G .i64 a0 4))])))
theorem zT9 (a0:Int)(hc:zgq a0=true):∃N,zE6 N a0=some [aI (zcp a0)]:=by
 refine ⟨0,?_⟩;unfold zE6 oN;refine br (fun _=>?_) (fun _=>must rfl ?_)
 all_goals first|rfl|(simp only [*,zcp,zbP,cT,cF]<;>rfl)|simp_all[Ty.cells,zcp,zbP]
theorem zMx:uY 134 zAP:=kF1 zcO zi zk zn (zl []) zT9
@[simp] abbrev zet (a:Int):Bool:=true
@[simp] abbrev zb1 (a:Int):Int:=zbP a
def zAl:Run:=rF1 dI fun b=>(zet b,[aI (zb1 b)])
def zEw (N:Nat)(a0:Int):OA:=
 (cond (ilt a0 0) (some [(aI (-1))]) (oN (ine 4 0) (some [(aI (z2G .i64 a0 4))])))
theorem zTv (a0:Int)(hc:zet a0=true):∃N,zEw N a0=some [aI (zb1 a0)]:=by
 refine ⟨0,?_⟩;unfold zEw oN;refine br (fun _=>?_) (fun _=>must rfl ?_)
 all_goals first|rfl|(simp only [*,zb1,zbP,cT,cF]<;>rfl)|simp_all[Ty.cells,zb1,zbP]
theorem zLZ:uY 148 zAl:=kF1 zcO zi zk zn (zl []) zTv
@[simp] abbrev zjt (a:Int):Bool:=true
@[simp] abbrev zee (a:Int):Int:=zfC a
def zAO:Run:=rF1 dI fun b=>(zjt b,[aI (zee b)])
def zE5 (N:Nat)(a0:Int):OA:=
 (cond (ilt a0 0) (some [(aI (-1))]) (oN (ine 4 0) (some [(aI (zfU a0 4))])))
theorem zT8 (a0:Int)(hc:zjt a0=true):∃N,zE5 N a0=some [aI (zee a0)]:=by
 refine ⟨0,?_⟩;unfold zE5 oN;refine br (fun _=>?_) (fun _=>must rfl ?_)
 all_goals first|rfl|(simp only [*,zee,zfC,cT,cF]<;>rfl)|simp_all[Ty.cells,zee,zfC]
theorem zMw:uY 135 zAO:=kF1 zcO zi zk zn (zl []) zT8
@[simp] abbrev zes (a:Int):Bool:=true
@[simp] abbrev zdL (a:Int):Int:=zfC a
def zAk:Run:=rF1 dI fun b=>(zes b,[aI (zdL b)])
def zEv (N:Nat)(a0:Int):OA:=
 (cond (ilt a0 0) (some [(aI (-1))]) (oN (ine 4 0) (some [(aI (zfU a0 4))])))
theorem zTu (a0:Int)(hc:zes a0=true):∃N,zEv N a0=some [aI (zdL a0)]:=by
 refine ⟨0,?_⟩;unfold zEv oN;refine br (fun _=>?_) (fun _=>must rfl ?_)
 all_goals first|rfl|(simp only [*,zdL,zfC,cT,cF]<;>rfl)|simp_all[Ty.cells,zdL,zfC]
theorem zLY:uY 153 zAk:=kF1 zcO zi zk zn (zl []) zTu
def zfd (w:Bool):Int:=bif w then 2 else 1
@[simp] abbrev zuX (w:Bool):Bool:=true
@[simp] abbrev zfh (w:Bool):Int:=zfd w
def zHb:Run:=rF1 dB fun b=>(zuX b,[aI (zfh b)])
def zOw (N:Nat)(a0:Bool):OA:=
 (cond a0 (some [(aI 2)]) (some [(aI 1)]))
theorem z03 (a0:Bool)(hc:zuX a0=true):∃N,zOw N a0=some [aI (zfh a0)]:=by
 refine ⟨0,?_⟩;unfold zOw;refine br (fun _=>?_) (fun _=>?_)
 all_goals first|rfl|(simp only [*,zfh,zfd,cT,cF]<;>rfl)|simp_all[Ty.cells,zfh,zfd]
theorem zS6:uY 214 zHb:=kF1 zcO zi zk zn (zl []) z03
@[simp] abbrev zpD (w:Bool):Bool:=true
@[simp] abbrev zeH (w:Bool):Int:=zfd w
def zGw:Run:=rF1 dB fun b=>(zpD b,[aI (zeH b)])
def zNR (N:Nat)(a0:Bool):OA:=
 (cond a0 (some [(aI 2)]) (some [(aI 1)]))
theorem z0m (a0:Bool)(hc:zpD a0=true):∃N,zNR N a0=some [aI (zeH a0)]:=by
 refine ⟨0,?_⟩;unfold zNR;refine br (fun _=>?_) (fun _=>?_)
 all_goals first|rfl|(simp only [*,zeH,zfd,cT,cF]<;>rfl)|simp_all[Ty.cells,zeH,zfd]
theorem zSr:uY 149 zGw:=kF1 zcO zi zk zn (zl []) z0m
def zxl (p:Int)(w:Bool):GExit:=⟨1,p,w,0⟩
def zBo (n:Int):GExit:=⟨2,0,false,n⟩
def zH5 (n:Int):GExit:=⟨3,0,false,n⟩
@[simp] abbrev zn2 (p:Int)(w:Bool):Bool:=true
@[simp] abbrev zg8 (p:Int)(w:Bool):GExit:=zxl p w
def zx2:Run:=rF2 dI dB fun b c=>(zn2 b c,[.agg (zjO (zg8 b c))])
def zCX (N:Nat)(a0:Int)(a1:Bool):OA:=
 (some [(.agg [(.i .i64 1),(.i .i64 a0),(.b a1),(.i .i64 0)])])
theorem zQL (a0:Int)(a1:Bool)(hc:zn2 a0 a1=true):∃N,zCX N a0 a1=some [.agg (zjO (zg8 a0 a1))]:=by
 refine ⟨0,?_⟩;unfold zCX
 first|rfl|(simp only [*,zg8,cT,cF]<;>rfl)|simp_all[Ty.cells,zg8]
theorem zIL:uY 216 zx2:=kF2 zcO zi zk zn (zl []) zQL
@[simp] abbrev zkc (p:Int)(w:Bool):Bool:=true
@[simp] abbrev ziJ (p:Int)(w:Bool):GExit:=zxl p w
def zxM:Run:=rF2 dI dB fun b c=>(zkc b c,[.agg (zjO (ziJ b c))])
def zCG (N:Nat)(a0:Int)(a1:Bool):OA:=
 (some [(.agg [(.i .i64 1),(.i .i64 a0),(.b a1),(.i .i64 0)])])
theorem zQn (a0:Int)(a1:Bool)(hc:zkc a0 a1=true):∃N,zCG N a0 a1=some [.agg (zjO (ziJ a0 a1))]:=by
 refine ⟨0,?_⟩;unfold zCG
 first|rfl|(simp only [*,ziJ,cT,cF]<;>rfl)|simp_all[Ty.cells,ziJ]
theorem zIp:uY 151 zxM:=kF2 zcO zi zk zn (zl []) zQn
@[simp] abbrev zwI (n:Int):Bool:=true
@[simp] abbrev zmH (n:Int):GExit:=zBo n
def zAR:Run:=rF1 dI fun b=>(zwI b,[.agg (zjO (zmH b))])
def zE9 (N:Nat)(a0:Int):OA:=
 (some [(.agg [(.i .i64 2),(.i .i64 0),(.b false),(.i .i64 a0)])])
theorem zUc (a0:Int)(hc:zwI a0=true):∃N,zE9 N a0=some [.agg (zjO (zmH a0))]:=by
 refine ⟨0,?_⟩;unfold zE9
 first|rfl|(simp only [*,zmH,cT,cF]<;>rfl)|simp_all[Ty.cells,zmH]
theorem zMz:uY 309 zAR:=kF1 zcO zi zk zn (zl []) zUc
@[simp] abbrev zpo (n:Int):Bool:=true
@[simp] abbrev zjQ (n:Int):GExit:=zBo n
def zAn:Run:=rF1 dI fun b=>(zpo b,[.agg (zjO (zjQ b))])
def zEB (N:Nat)(a0:Int):OA:=
 (some [(.agg [(.i .i64 2),(.i .i64 0),(.b false),(.i .i64 a0)])])
theorem zTA (a0:Int)(hc:zpo a0=true):∃N,zEB N a0=some [.agg (zjO (zjQ a0))]:=by
 refine ⟨0,?_⟩;unfold zEB
 first|rfl|(simp only [*,zjQ,cT,cF]<;>rfl)|simp_all[Ty.cells,zjQ]
theorem zL1:uY 263 zAn:=kF1 zcO zi zk zn (zl []) zTA
@[simp] abbrev zzh (n:Int):Bool:=true
@[simp] abbrev zo3 (n:Int):GExit:=zH5 n
def zDR:Run:=rF1 dI fun b=>(zzh b,[.agg (zjO (zo3 b))])
def zKd (N:Nat)(a0:Int):OA:=
 (some [(.agg [(.i .i64 3),(.i .i64 0),(.b false),(.i .i64 a0)])])
theorem zX1 (a0:Int)(hc:zzh a0=true):∃N,zKd N a0=some [.agg (zjO (zo3 a0))]:=by
 refine ⟨0,?_⟩;unfold zKd
 first|rfl|(simp only [*,zo3,cT,cF]<;>rfl)|simp_all[Ty.cells,zo3]
theorem zPW:uY 310 zDR:=kF1 zcO zi zk zn (zl []) zX1
@[simp] abbrev zyZ (n:Int):Bool:=true
@[simp] abbrev zoU (n:Int):GExit:=zH5 n
def zDk:Run:=rF1 dI fun b=>(zyZ b,[.agg (zjO (zoU b))])
def zJD (N:Nat)(a0:Int):OA:=
 (some [(.agg [(.i .i64 3),(.i .i64 0),(.b false),(.i .i64 a0)])])
theorem zXq (a0:Int)(hc:zyZ a0=true):∃N,zJD N a0=some [.agg (zjO (zoU a0))]:=by
 refine ⟨0,?_⟩;unfold zJD
 first|rfl|(simp only [*,zoU,cT,cF]<;>rfl)|simp_all[Ty.cells,zoU]
theorem zPp:uY 327 zDk:=kF1 zcO zi zk zn (zl []) zXq
def zdm (t x:Int):Bool:=bif win t 0 3 then (cond (win x 1 2) (ine (wand .i64 t x) 0) false) else false
theorem zbci (x:Int):win x 1 2=(ieq x 1||ieq x 2):=by
 have h:(win x 1 2=true)↔(ieq x 1||ieq x 2)=true:=by
  rw[zfo];simp only[ieq,jW,qI];omega
 cases h1:win x 1 2<;>cases h2:(ieq x 1||ieq x 2)<;>simp_all
@[simp] abbrev ziS (t x:Int):Bool:=true
@[simp] abbrev zit (t x:Int):Bool:=zdm t x
def zDI:Run:=rF2 dI dI fun b c=>(ziS b c,[aB (zit b c)])
def zJ5 (N:Nat)(a0 a1:Int):OA:=
 (oN (zO a0 0 3) (cond (zT a0 0 3) (oN (zO a1 1 2) (cond (zT a1 1 2) (some [(aB (ine (wand .i64 a0 a1) 0))]) oF)) oF))
theorem zXS (a0 a1:Int)(hc:ziS a0 a1=true):∃N,zJ5 N a0 a1=some [aB (zit a0 a1)]:=by
 refine ⟨0,?_⟩;unfold zJ5 oN;refine must rfl (br (fun _=>must rfl (br (fun _=>?_) (fun _=>?_))) (fun _=>?_))
 all_goals first|rfl|(simp only [*,zit,zdm,cT,cF]<;>rfl)|simp_all[Ty.cells,zit,zdm]
theorem zPN:uY 308 zDI:=kF2 zcO zi zk zn (zl []) zXS
@[simp] abbrev zkz (t x:Int):Bool:=true
@[simp] abbrev zjD (t x:Int):Bool:=zdm t x
def zDc:Run:=rF2 dI dI fun b c=>(zkz b c,[aB (zjD b c)])
def zJw (N:Nat)(a0 a1:Int):OA:=
 let y0:=(aB (ine (wand .i64 a0 a1) 0)); (oN (zbl a0 0 3) (cond (zbp a0 0 3) (cond (ieq a1 1) (some [y0]) (cond (ieq a1 2) (some [y0]) oF)) oF))
theorem zXi (a0 a1:Int)(hc:zkz a0 a1=true):∃N,zJw N a0 a1=some [aB (zjD a0 a1)]:=by
 refine ⟨0,?_⟩;unfold zJw oN
 conv=>zeta
 refine must rfl (br (fun _=>br (fun _=>?_) (fun _=>br (fun _=>?_) (fun _=>?_))) (fun _=>?_))
 all_goals first|rfl|(simp only [*,zjD,zdm,zbci,cT,cF]<;>rfl)|simp_all[Ty.cells,zjD,zdm,zbci]
theorem zPh:uY 264 zDc:=kF2 zcO zi zk zn (zl []) zXi
def zgJ (p:Int):Bool:=win p 0 255
@[simp] abbrev zfk (p:Int):Bool:=true
@[simp] abbrev zfj (p:Int):Bool:=zgJ p
def zHg:Run:=rF1 dI fun b=>(zfk b,[aB (zfj b)])
def zOA (N:Nat)(a0:Int):OA:=
 (oN (zO a0 0 255) (some [(aB (zT a0 0 255))]))
theorem z08 (a0:Int)(hc:zfk a0=true):∃N,zOA N a0=some [aB (zfj a0)]:=by
 refine ⟨0,?_⟩;unfold zOA oN;refine must rfl ?_
 first|rfl|(simp only [*,zfj,zgJ,cT,cF]<;>rfl)|simp_all[Ty.cells,zfj,zgJ]
theorem zTb:uY 311 zHg:=kF1 zcO zi zk zn (zl []) z08
@[simp] abbrev zij (p:Int):Bool:=true
@[simp] abbrev ziK (p:Int):Bool:=zgJ p
def zGC:Run:=rF1 dI fun b=>(zij b,[aB (ziK b)])
def zNW (N:Nat)(a0:Int):OA:=
 (oN (zbl a0 0 255) (some [(aB (zbp a0 0 255))]))
theorem z0s (a0:Int)(hc:zij a0=true):∃N,zNW N a0=some [aB (ziK a0)]:=by
 refine ⟨0,?_⟩;unfold zNW oN;refine must rfl ?_
 first|rfl|(simp only [*,ziK,zgJ,cT,cF]<;>rfl)|simp_all[Ty.cells,ziK,zgJ]
theorem zSx:uY 320 zGC:=kF1 zcO zi zk zn (zl []) z0s
def zdC (l:List Ins)(p:Int):Ins:=bif hasB p (ln l) then ix l p zj9 else ⟨7,0⟩
@[simp] abbrev zfw (l:List Ins)(p:Int):Bool:=true
@[simp] abbrev zfR (l:List Ins)(p:Int):Ins:=zdC l p
def zLb:Run:=rF2 (dS .ins) dI fun b c=>(zfw b c,[aT .ins (zfR b c)])
def zVA (N:Nat)(a0:lI)(a1:Int):OA:=
 (oN (zO a1 0 (wsub .i64 (ln a0) 1)) (cond (nB (zT a1 0 (wsub .i64 (ln a0) 1))) (some [(.agg [(.i .i64 7),(.i .i64 0)])]) (oN (inb a1 (ln a0)) (some [(.agg [(.i .i64 (ix a0 a1 zj9).Op),(.i .i64 (ix a0 a1 zj9).X)])]))))
theorem z3x (a0:List Ins)(a1:Int)(hb:zby big [aS .ins a0,aI a1])(hc:zfw a0 a1=true):∃N,zVA N a0 a1=some [aT .ins (zfR a0 a1)]:=by
 have hl:=((zcz hb).1 _ (qF.2 rfl)).len;have hw:=zNE hl
 refine ⟨0,?_⟩;unfold zVA oN nB;refine must rfl (brN (fun _=>?_) (fun _=>mu ?_))
 all_goals first|rfl|(simp only [*,zfR,zdC,cT,cF]<;>rfl)|simp_all[Ty.cells,zfR,zdC]
theorem zWY:uY 208 zLb:=hF2 zcO zi zk zn (zl []) z3x
@[simp] abbrev zgi (l:List Ins)(p:Int):Bool:=true
@[simp] abbrev zgt (l:List Ins)(p:Int):Ins:=zdC l p
def zKS:Run:=rF2 (dS .ins) dI fun b c=>(zgi b c,[aT .ins (zgt b c)])
def zVj (N:Nat)(a0:lI)(a1:Int):OA:=
 (oN (zbx a1 (ln a0)) (cond (nB (zbO a1 (ln a0))) (some [(.agg [(.i .i64 7),(.i .i64 0)])]) (oN (inb a1 (ln a0)) (some [(.agg [(.i .i64 (ix a0 a1 zj9).Op),(.i .i64 (ix a0 a1 zj9).X)])]))))
theorem z3e (a0:List Ins)(a1:Int)(hc:zgi a0 a1=true):∃N,zVj N a0 a1=some [aT .ins (zgt a0 a1)]:=by
 refine ⟨0,?_⟩;unfold zVj oN nB;refine must rfl (brN (fun _=>?_) (fun _=>mu ?_))
 all_goals first|rfl|(simp only [*,zgt,zdC,cT,cF]<;>rfl)|simp_all[Ty.cells,zgt,zdC]
theorem zWF:uY 247 zKS:=kF2 zcO zi zk zn (zl []) z3e
def zfn (w:Int):Int:=bif ieq w 5 then 1 else 2
@[simp] abbrev zpM (w:Int):Bool:=true
@[simp] abbrev zhD (w:Int):Int:=zfn w
def zGN:Run:=rF1 dI fun b=>(zpM b,[aI (zhD b)])
def zN7 (N:Nat)(a0:Int):OA:=
 (cond (ieq a0 5) (some [(aI 1)]) (some [(aI 2)]))
theorem z0D (a0:Int)(hc:zpM a0=true):∃N,zN7 N a0=some [aI (zhD a0)]:=by
 refine ⟨0,?_⟩;unfold zN7;refine br (fun _=>?_) (fun _=>?_)
 all_goals first|rfl|(simp only [*,zhD,zfn,cT,cF]<;>rfl)|simp_all[Ty.cells,zhD,zfn]
theorem zSI:uY 253 zGN:=kF1 zcO zi zk zn (zl []) z0D
def zeW (s:Slot)(n:Int):Bool:=bif zc0 s noSlot then true else (cond (igt n 0) (cond (win s.Page 0 (wsub .i64 n 1)) (win s.Rights 1 3) false) false)
@[simp] abbrev zu0 (s:Slot)(n:Int):Bool:=true
@[simp] abbrev zrD (s:Slot)(n:Int):Bool:=zeW s n
def zHj:Run:=rF2 (dT .slot) dI fun b c=>(zu0 b c,[aB (zrD b c)])
def zOD (N:Nat)(a0:Slot)(a1:Int):OA:=
 (oN zcd (cond (cond (ieq a0.Page zbq.Page) (ieq a0.Rights zbq.Rights) false) oT (oN (zO a0.Page 0 (wsub .i64 a1 1)) (cond (zT a0.Page 0 (wsub .i64 a1 1)) (cond (igt a1 0) (oN (zO a0.Rights 1 3) (some [(aB (zT a0.Rights 1 3))])) oF) oF))))
theorem z1b (a0:Slot)(a1:Int)(hc:zu0 a0 a1=true):∃N,zOD N a0 a1=some [aB (zrD a0 a1)]:=by
 refine ⟨0,?_⟩;unfold zOD oN;refine must rfl (br (fun _=>?_) (fun _=>must rfl (br (fun _=>br (fun _=>must rfl ?_) (fun _=>?_)) (fun _=>?_))))
 all_goals first|rfl|(simp only [*,zrD,zeW,zc0,cT,cF]<;>rfl)|simp_all[Ty.cells,zrD,zeW,zc0]
theorem zTe:uY 223 zHj:=kF2 zcO zi zk zn (zl []) z1b
@[simp] abbrev zuz (s:Slot)(n:Int):Bool:=true
@[simp] abbrev zrb (s:Slot)(n:Int):Bool:=zeW s n
def zGH:Run:=rF2 (dT .slot) dI fun b c=>(zuz b c,[aB (zrb b c)])
def zN1 (N:Nat)(a0:Slot)(a1:Int):OA:=
 (oN zcX (cond (cond (ieq a0.Page zcl.Page) (ieq a0.Rights zcl.Rights) false) oT (cond (igt a1 0) (oN (zbl a0.Page 0 (wsub .i64 a1 1)) (cond (zbp a0.Page 0 (wsub .i64 a1 1)) (oN (zbl a0.Rights 1 3) (some [(aB (zbp a0.Rights 1 3))])) oF)) oF)))
theorem z0x (a0:Slot)(a1:Int)(hc:zuz a0 a1=true):∃N,zN1 N a0 a1=some [aB (zrb a0 a1)]:=by
 refine ⟨0,?_⟩;unfold zN1 oN;refine must rfl (br (fun _=>?_) (fun _=>br (fun _=>must rfl (br (fun _=>must rfl ?_) (fun _=>?_))) (fun _=>?_)))
 all_goals first|rfl|(simp only [*,zrb,zeW,zc0,cT,cF]<;>rfl)|simp_all[Ty.cells,zrb,zeW,zc0]
theorem zSC:uY 269 zGH:=kF2 zcO zi zk zn (zl []) z0x
@[simp] abbrev zfu (l:List Slot):Bool:=pc (l.length<=2147483648)
@[simp] abbrev zdE (l:List Slot):List Slot:=l
def zxV:Run:=rF1 (dS .slot) fun b=>(zfu b,[aS .slot (zdE b)])
def zCP (N:Nat)(a0:lS):OA:=
 (oN (few (ln (ap [] a0))) (some [(aS .slot (ap [] a0))]))
theorem zQw (a0:List Slot)(hc:zfu a0=true):∃N,zCP N a0=some [aS .slot (zdE a0)]:=by
 have hs:=zu.1 hc;refine ⟨0,?_⟩;unfold zCP oN;refine mu ?_
 first|rfl|(simp only [*,zdE,cT,cF]<;>rfl)|simp_all[Ty.cells,zdE]
theorem zIy:uY 294 zxV:=kF1 zcO zi zk zn (zl []) zQw
@[simp] abbrev zpL (l:List Ins):Bool:=pc (l.length<=2147483648)
@[simp] abbrev zmi (l:List Ins):List Ins:=l
def zAG:Run:=rF1 (dS .ins) fun b=>(zpL b,[aS .ins (zmi b)])
def zEU (N:Nat)(a0:lI):OA:=
 (oN (few (ln (ap [] a0))) (some [(aS .ins (ap [] a0))]))
theorem zTU (a0:List Ins)(hc:zpL a0=true):∃N,zEU N a0=some [aS .ins (zmi a0)]:=by
 have hs:=zu.1 hc;refine ⟨0,?_⟩;unfold zEU oN;refine mu ?_
 first|rfl|(simp only [*,zmi,cT,cF]<;>rfl)|simp_all[Ty.cells,zmi]
theorem zMk:uY 241 zAG:=kF1 zcO zi zk zn (zl []) zTU
def zjq (m:List (List Int))(p c:Int):Bool:=bif hasB p (ln m) then hasB c (ln (ix m p [])) else false
def cellAt (m:List (List Int))(p c:Int):Int:=bif zjq m p c then ix (ix m p []) c 0 else 0
def zem (m:List (List Int))(p c v:Int):List (List Int):=bif zjq m p c then (cond (win v 0 99) (up m p (up (ix m p []) c v)) m) else m
theorem zB7 (m:List (List Int))(p c:Int):(zjq m p c=true)↔hasB p (ln m)=true/\hasB c (ln (ix m p []))=true:=by
 unfold zjq;cases hasB p (ln m)<;>simp
theorem zbd0 {n:Nat}{m:List (List Int)}(h:CVB n (.s (.sl .int) m)):m.length<=n/\∀p:Int,hasB p (ln m)=true->(ix m p []).length<=n :=
 ⟨h.len,fun p hp=>(h.inv.2 _ (zbw hp []) _ (qF.2 rfl)).len⟩
@[simp] abbrev zu3 (m:List (List Int))(p c:Int):Bool:=true
@[simp] abbrev zrF (m:List (List Int))(p c:Int):Bool:=zjq m p c
def zHo:Run:=rF3 (dS (.sl .int)) dI dI fun b c d=>(zu3 b c d,[aB (zrF b c d)])
def zOI (N:Nat)(a0:lM)(a1 a2:Int):OA:=
 let y0:=(wsub .i64 (ln (ix a0 a1 [])) 1); (oN (zO a1 0 (wsub .i64 (ln a0) 1)) (cond (zT a1 0 (wsub .i64 (ln a0) 1)) (oN (inb a1 (ln a0)) (oN (zO a2 0 y0) (some [(aB (zT a2 0 y0))]))) oF))
theorem z1g (a0:List (List Int))(a1 a2:Int)(hb:zby big [aS (.sl .int) a0,aI a1,aI a2])(hc:zu3 a0 a1 a2=true):∃N,zOI N a0 a1 a2=some [aB (zrF a0 a1 a2)]:=by
 have hl:=zbd0 ((zcz hb).1 _ (qF.2 rfl));have hw:=zNE hl.1;have hw2:∀p i:Int,hasB p (ln a0)=true->win i 0 (wsub .i64 (ln (ix a0 p [])) 1)=hasB i (ln (ix a0 p [])):=fun p i h=>zNE (hl.2 p h) i
 refine ⟨0,?_⟩;unfold zOI oN
 conv=>zeta
 refine must rfl (br (fun _=>mu (must rfl ?_)) (fun _=>?_))
 all_goals first|rfl|(simp only [*,zrF,zjq,cT,cF]<;>rfl)|simp_all[Ty.cells,zrF,zjq]
theorem zTi:uY 230 zHo:=hF3 zcO zi zk zn (zl []) z1g
@[simp] abbrev zmd (m:List (List Int))(p c:Int):Bool:=true
@[simp] abbrev zlp (m:List (List Int))(p c:Int):Int:=cellAt m p c
def zGm:Run:=rF3 (dS (.sl .int)) dI dI fun b c d=>(zmd b c d,[aI (zlp b c d)])
def zNH (N:Nat)(a0:lM)(a1 a2:Int):OA:=
 let y0:=(ix a0 a1 []); (oN (zbx a1 (ln a0)) (cond (nB (zbO a1 (ln a0))) (some [(aI 0)]) (oN (inb a1 (ln a0)) (oN (zbx a2 (ln y0)) (cond (nB (zbO a2 (ln y0))) (some [(aI 0)]) (oN (inb a1 (ln a0)) (oN (inb a2 (ln y0)) (some [(aI (ix y0 a2 0))]))))))))
theorem z0b (a0:List (List Int))(a1 a2:Int)(hc:zmd a0 a1 a2=true):∃N,zNH N a0 a1 a2=some [aI (zlp a0 a1 a2)]:=by
 refine ⟨0,?_⟩;unfold zNH oN nB
 conv=>zeta
 refine must rfl (brN (fun _=>?_) (fun _=>mu (must rfl (brN (fun _=>?_) (fun _=>mu (mu ?_))))))
 all_goals first|rfl|(simp only [*,zlp,cellAt,zjq,cT,cF]<;>rfl)|simp_all[Ty.cells,zlp,cellAt,zjq]
theorem zSh:uY 156 zGm:=kF3 zcO zi zk zn (zl []) z0b
def z5G:zY:=[(206,zG2),(245,zGl),(134,zAP),(148,zAl),(135,zAO),(153,zAk),(214,zHb),(149,zGw),(216,zx2),(151,zxM),(309,zAR),(263,zAn),(310,zDR),(327,zDk),(308,zDI),(264,zDc),(311,zHg),(320,zGC),(208,zLb),(247,zKS),(253,zGN),(223,zHj),(269,zGH),(294,zxV),(241,zAG),(230,zHo),(156,zGm)]++ctrU
theorem zfD:zJ z5G:=zf zSX (zf zSg (zf zMx (zf zLZ (zf zMw (zf zLY (zf zS6 (zf zSr (zf zIL (zf zIp (zf zMz (zf zL1 (zf zPW (zf zPp (zf zPN (zf zPh (zf zTb (zf zSx (zf zWY (zf zWF (zf zSI (zf zTe (zf zSC (zf zIy (zf zMk (zf zTi (zf zSh zcO))))))))))))))))))))))))))
@[simp] abbrev zuV (m:List (List Int))(p c:Int):Bool:=true
@[simp] abbrev zoC (m:List (List Int))(p c:Int):Int:=cellAt m p c
def zG3:Run:=rF3 (dS (.sl .int)) dI dI fun b c d=>(zuV b c d,[aI (zoC b c d)])
def zOo (N:Nat)(a0:lM)(a1 a2:Int):OA:=
 (oN (zu3 a0 a1 a2) (cond (nB (zrF a0 a1 a2)) (some [(aI 0)]) (oN (inb a1 (ln a0)) (oN (inb a2 (ln (ix a0 a1 []))) (some [(aI (ix (ix a0 a1 []) a2 0))])))))
theorem z0U (a0:List (List Int))(a1 a2:Int)(hc:zuV a0 a1 a2=true):∃N,zOo N a0 a1 a2=some [aI (zoC a0 a1 a2)]:=by
 have hm:=(zB7 a0 a1 a2).1;refine ⟨0,?_⟩;unfold zOo oN nB;refine must rfl (brN (fun _=>?_) (fun _=>mu (mu ?_)))
 all_goals first|rfl|(simp only [*,zoC,cellAt,cT,cF]<;>rfl)|simp_all[Ty.cells,zoC,cellAt]
theorem zSY:uY 136 zG3:=kF3 zfD zi zk zn (zl []) z0U
def zdy (t:List Slot)(n p:Int):Bool:=bif t.all (fun s=>zeW s p) then ieq (ln t) n else false
@[simp] abbrev znG (t:List Slot)(n p:Int):Bool:=true
@[simp] abbrev ziv (t:List Slot)(n p:Int):Bool:=zdy t n p
def zDX:Run:=rF3 (dS .slot) dI dI fun b c d=>(znG b c d,[aB (ziv b c d)])
def zKj (N:Nat)(a0:lS)(a1 a2:Int):OA:=
 (iter (σ:=(Int×(Int×(Int×(lS×Unit))))) N (fun r4 s5=>let y0:=s5.2.2.2.1;let y1:=(ix y0 s5.2.2.1 zM); (cond (ilt s5.2.2.1 (ln y0)) (oN (inb s5.2.2.1 (ln y0)) (oN (zu0 y1 s5.2.1) (cond (nB (zrD y1 s5.2.1)) oF (r4 (s5.1,(s5.2.1,((zB .i64 s5.2.2.1 1),(y0,())))))))) (some [(aB (ieq (ln y0) s5.1))]))) (a1,(a2,(0,(a0,())))))
def zYE:FuncId->Nat->Option Tmpl:=zl [(338,0,{ n:=25,tm:=[(0,.sl 0 []),(1,ti),(2,ti),(7,ti)],lo:=[],ro:=[(0,.slot,false)] })]
theorem zX7 (a0:List Slot)(a1 a2:Int)(hb:zby big [aS .slot a0,aI a1,aI a2])(hc:znG a0 a1 a2=true):∃N,zKj N a0 a1 a2=some [aB (ziv a0 a1 a2)]:=by
 have hl:(_:List _).length<=big:=((zcz hb).1 _ (qF.2 rfl)).len;refine zbo fun N hNN=>?_;unfold zKj oN nB
 conv=>zeta
 refine (zbc a0 (fun i (t:Unit)=>(a1,a2,(i:Int),a0,())) _ (fun _ x (_:Unit) κ=>bif (fun s=>zeW s a2) x then κ () else oF) (fun (t:Unit)=>(some [(.one (.b (ieq (ln a0) a1)))])) (fun i hi t rec=>?_) (fun t rec=>?_) _ () (hNN hl)).trans ?_
 .simp only [zU hi,zK hi,zS hi,zL hi hl,cT];exact ziz rfl
 .simp only [zQ,cF]
 rw[zgs (fun s=>zeW s a2)];refine br (fun h0=>?_) (fun h0=>?_)
 .first|rfl|(simp only [h0,ziv,zdy,cT,cF]<;>rfl)|(simp_all [Ty.cells,ziv,zdy];done)
 .first|rfl|(simp only [h0,ziv,zdy,cT,cF]<;>rfl)|(simp_all [Ty.cells,ziv,zdy];done)
theorem zP2:uY 338 zDX:=hF3 zfD zi zk zn zYE zX7
@[simp] abbrev znq (t:List Slot)(n p:Int):Bool:=true
@[simp] abbrev zil (t:List Slot)(n p:Int):Bool:=zdy t n p
def zDq:Run:=rF3 (dS .slot) dI dI fun b c d=>(znq b c d,[aB (zil b c d)])
def zJJ (N:Nat)(a0:lS)(a1 a2:Int):OA:=
 (iter (σ:=(Int×(Int×(Int×(Int×(lS×Unit)))))) N (fun r4 s5=>let y1:=s5.2.2.2.2.1;let y0:=(ix y1 s5.2.2.2.1 zM); (cond (ilt s5.2.2.2.1 s5.2.2.1) (oN (inb s5.2.2.2.1 (ln y1)) (oN (zuz y0 s5.2.1) (cond (nB (zrb y0 s5.2.1)) oF (r4 (s5.1,(s5.2.1,(s5.2.2.1,((zB .i64 s5.2.2.2.1 1),(y1,()))))))))) (some [(aB (ieq (ln y1) s5.1))]))) (a1,(a2,((ln a0),(0,(a0,()))))))
def zYs:FuncId->Nat->Option Tmpl:=zl [(319,0,{ n:=24,tm:=[(0,.sl 0 []),(1,ti),(2,ti),(9,.sl 0 []),(10,ti),(11,ti)],lo:=[],ro:=[(0,.slot,false)] })]
theorem zXw (a0:List Slot)(a1 a2:Int)(hb:zby big [aS .slot a0,aI a1,aI a2])(hc:znq a0 a1 a2=true):∃N,zJJ N a0 a1 a2=some [aB (zil a0 a1 a2)]:=by
 have hl:(_:List _).length<=big:=((zcz hb).1 _ (qF.2 rfl)).len;refine zbo fun N hNN=>?_;unfold zJJ oN nB
 conv=>zeta
 refine (zbc a0 (fun i (t:Unit)=>(a1,a2,(ln a0),(i:Int),a0,())) _ (fun _ x (_:Unit) κ=>bif (fun s=>zeW s a2) x then κ () else oF) (fun (t:Unit)=>(some [(.one (.b (ieq (ln a0) a1)))])) (fun i hi t rec=>?_) (fun t rec=>?_) _ () (hNN hl)).trans ?_
 .simp only [zU hi,zK hi,zS hi,zL hi hl,cT];exact ziz rfl
 .simp only [zQ,cF]
 rw[zgs (fun s=>zeW s a2)];refine br (fun h0=>?_) (fun h0=>?_)
 .first|rfl|(simp only [h0,zil,zdy,cT,cF]<;>rfl)|(simp_all [Ty.cells,zil,zdy];done)
 .first|rfl|(simp only [h0,zil,zdy,cT,cF]<;>rfl)|(simp_all [Ty.cells,zil,zdy];done)
theorem zPv:uY 319 zDq:=hF3 zfD zi zk zn zYs zXw
def zcZ (c:List Int):Bool:=bif c.all (fun x=>win x 0 99) then ieq (ln c) 4 else false
@[simp] abbrev zf3 (c:List Int):Bool:=true
@[simp] abbrev zfi (c:List Int):Bool:=zcZ c
def zHf:Run:=rF1 (dS .int) fun b=>(zf3 b,[aB (zfi b)])
def zOz (N:Nat)(a0:List Int):OA:=
 (iter (σ:=(Int×((List Int)×Unit))) N (fun r2 s3=>(cond (ilt s3.1 (ln s3.2.1)) (oN (inb s3.1 (ln s3.2.1)) (oN (zO (ix s3.2.1 s3.1 0) 0 99) (cond (nB (zT (ix s3.2.1 s3.1 0) 0 99)) oF (r2 ((zB .i64 s3.1 1),(s3.2.1,())))))) (some [(aB (ieq (ln s3.2.1) 4))]))) (0,(a0,())))
def z2u:FuncId->Nat->Option Tmpl:=zl [(336,0,{ n:=19,tm:=[(0,.sl 0 []),(3,ti)],lo:=[],ro:=[(0,.int,false)] })]
theorem z07 (a0:List Int)(hb:zby big [aS .int a0])(hc:zf3 a0=true):∃N,zOz N a0=some [aB (zfi a0)]:=by
 have hl:(_:List _).length<=big:=((zcz hb).1 _ (qF.2 rfl)).len;refine zbo fun N hNN=>?_;unfold zOz oN nB;refine (zbc a0 (fun i (t:Unit)=>((i:Int),a0,())) _ (fun _ x (_:Unit) κ=>bif (fun x=>win x 0 99) x then κ () else oF) (fun (t:Unit)=>(some [(.one (.b (ieq (ln a0) 4)))])) (fun i hi t rec=>?_) (fun t rec=>?_) _ () (hNN hl)).trans ?_
 .simp only [zU hi,zK hi,zS hi,zL hi hl,cT];exact ziz rfl
 .simp only [zQ,cF]
 rw[zgs (fun x=>win x 0 99)];refine br (fun h0=>?_) (fun h0=>?_)
 .first|rfl|(simp only [h0,zfi,zcZ,cT,cF]<;>rfl)|(simp_all [Ty.cells,zfi,zcZ];done)
 .first|rfl|(simp only [h0,zfi,zcZ,cT,cF]<;>rfl)|(simp_all [Ty.cells,zfi,zcZ];done)
theorem zTa:uY 336 zHf:=hF1 zfD zi zk zn z2u z07
@[simp] abbrev zii (c:List Int):Bool:=true
@[simp] abbrev zgB (c:List Int):Bool:=zcZ c
def zGB:Run:=rF1 (dS .int) fun b=>(zii b,[aB (zgB b)])
def zNV (N:Nat)(a0:List Int):OA:=
 (iter (σ:=(Int×(Int×((List Int)×Unit)))) N (fun r2 s3=>(cond (ilt s3.2.1 s3.1) (oN (inb s3.2.1 (ln s3.2.2.1)) (oN (zbl (ix s3.2.2.1 s3.2.1 0) 0 99) (cond (nB (zbp (ix s3.2.2.1 s3.2.1 0) 0 99)) oF (r2 (s3.1,((zB .i64 s3.2.1 1),(s3.2.2.1,()))))))) (some [(aB (ieq (ln s3.2.2.1) 4))]))) ((ln a0),(0,(a0,()))))
def z2d:FuncId->Nat->Option Tmpl:=zl [(318,0,{ n:=18,tm:=[(0,.sl 0 []),(5,.sl 0 []),(6,ti),(7,ti)],lo:=[],ro:=[(0,.int,false)] })]
theorem z0r (a0:List Int)(hb:zby big [aS .int a0])(hc:zii a0=true):∃N,zNV N a0=some [aB (zgB a0)]:=by
 have hl:(_:List _).length<=big:=((zcz hb).1 _ (qF.2 rfl)).len;refine zbo fun N hNN=>?_;unfold zNV oN nB;refine (zbc a0 (fun i (t:Unit)=>((ln a0),(i:Int),a0,())) _ (fun _ x (_:Unit) κ=>bif (fun x=>win x 0 99) x then κ () else oF) (fun (t:Unit)=>(some [(.one (.b (ieq (ln a0) 4)))])) (fun i hi t rec=>?_) (fun t rec=>?_) _ () (hNN hl)).trans ?_
 .simp only [zU hi,zK hi,zS hi,zL hi hl,cT];exact ziz rfl
 .simp only [zQ,cF]
 rw[zgs (fun x=>win x 0 99)];refine br (fun h0=>?_) (fun h0=>?_)
 .first|rfl|(simp only [h0,zgB,zcZ,cT,cF]<;>rfl)|(simp_all [Ty.cells,zgB,zcZ];done)
 .first|rfl|(simp only [h0,zgB,zcZ,cT,cF]<;>rfl)|(simp_all [Ty.cells,zgB,zcZ];done)
theorem zSw:uY 318 zGB:=hF1 zfD zi zk zn z2d z0r
def zpN (i:Ins):Bool:=bif (ieq i.Op 1||ieq i.Op 2||ieq i.Op 5||ieq i.Op 6) then win i.X 0 99 else (cond (ieq i.Op 3||ieq i.Op 4) (win i.X 0 15) (cond (ieq i.Op 7) (ieq i.X 0) (cond (ieq i.Op 8) (win i.X 0 11) false)))
@[simp] abbrev zHx (i:Ins):Bool:=true
@[simp] abbrev zA7 (i:Ins):Bool:=zpN i
def zLc:Run:=rF1 (dT .ins) fun b=>(zHx b,[aB (zA7 b)])
def zVB (N:Nat)(a0:Ins):OA:=
 let y10:=(ieq a0.Op 4);let y9:=(zO a0.X 0 99);let y8:=(aB (zT a0.X 0 99));let y7:=(ieq a0.Op 8);let y6:=(ieq a0.Op 7);let y5:=(ieq a0.Op 3);let y4:=(zO a0.X 0 11);let y3:=(zO a0.X 0 15);let y2:=(aB (ieq a0.X 0));let y1:=(aB (zT a0.X 0 11));let y0:=(aB (zT a0.X 0 15)); (cond (ieq a0.Op 1) (cond (ieq a0.Op 1) (oN y9 (some [y8])) (cond y5 (cond y5 (oN y3 (some [y0])) (cond y6 (some [y2]) (cond y7 (oN y4 (some [y1])) oF))) (cond y10 (oN y3 (some [y0])) (cond y6 (some [y2]) (cond y7 (oN y4 (some [y1])) oF))))) (cond (ieq a0.Op 2) (cond (ieq a0.Op 2) (oN y9 (some [y8])) (cond y5 (cond y5 (oN y3 (some [y0])) (cond y6 (some [y2]) (cond y7 (oN y4 (some [y1])) oF))) (cond y10 (oN y3 (some [y0])) (cond y6 (some [y2]) (cond y7 (oN y4 (some [y1])) oF))))) (cond (ieq a0.Op 5) (cond (ieq a0.Op 5) (oN y9 (some [y8])) (cond y5 (cond y5 (oN y3 (some [y0])) (cond y6 (some [y2]) (cond y7 (oN y4 (some [y1])) oF))) (cond y10 (oN y3 (some [y0])) (cond y6 (some [y2]) (cond y7 (oN y4 (some [y1])) oF))))) (cond (ieq a0.Op 6) (oN y9 (some [y8])) (cond y5 (cond y5 (oN y3 (some [y0])) (cond y6 (some [y2]) (cond y7 (oN y4 (some [y1])) oF))) (cond y10 (oN y3 (some [y0])) (cond y6 (some [y2]) (cond y7 (oN y4 (some [y1])) oF))))))))
theorem z3y (a0:Ins)(hc:zHx a0=true):∃N,zVB N a0=some [aB (zA7 a0)]:=by
 refine ⟨0,?_⟩;unfold zVB oN
 conv=>zeta
 refine br (fun _=>br (fun _=>must rfl ?_) (fun _=>br (fun _=>br (fun _=>must rfl ?_) (fun _=>br (fun _=>?_) (fun _=>br (fun _=>must rfl ?_) (fun _=>?_)))) (fun _=>br (fun _=>must rfl ?_) (fun _=>br (fun _=>?_) (fun _=>br (fun _=>must rfl ?_) (fun _=>?_)))))) (fun _=>br (fun _=>br (fun _=>must rfl ?_) (fun _=>br (fun _=>br (fun _=>must rfl ?_) (fun _=>br (fun _=>?_) (fun _=>br (fun _=>must rfl ?_) (fun _=>?_)))) (fun _=>br (fun _=>must rfl ?_) (fun _=>br (fun _=>?_) (fun _=>br (fun _=>must rfl ?_) (fun _=>?_)))))) (fun _=>br (fun _=>br (fun _=>must rfl ?_) (fun _=>br (fun _=>br (fun _=>must rfl ?_) (fun _=>br (fun _=>?_) (fun _=>br (fun _=>must rfl ?_) (fun _=>?_)))) (fun _=>br (fun _=>must rfl ?_) (fun _=>br (fun _=>?_) (fun _=>br (fun _=>must rfl ?_) (fun _=>?_)))))) (fun _=>br (fun _=>must rfl ?_) (fun _=>br (fun _=>br (fun _=>must rfl ?_) (fun _=>br (fun _=>?_) (fun _=>br (fun _=>must rfl ?_) (fun _=>?_)))) (fun _=>br (fun _=>must rfl ?_) (fun _=>br (fun _=>?_) (fun _=>br (fun _=>must rfl ?_) (fun _=>?_))))))))
 all_goals first|rfl|(simp only [*,zA7,zpN,cT,cF]<;>rfl)|simp_all[Ty.cells,zA7,zpN]
theorem zWZ:uY 348 zLc:=kF1 zfD zi zk zn (zl []) z3y
@[simp] abbrev zF4 (i:Ins):Bool:=true
@[simp] abbrev zz3 (i:Ins):Bool:=zpN i
def zKT:Run:=rF1 (dT .ins) fun b=>(zF4 b,[aB (zz3 b)])
def zVk (N:Nat)(a0:Ins):OA:=
 let y10:=(ieq a0.Op 4);let y9:=(zbl a0.X 0 99);let y8:=(aB (zbp a0.X 0 99));let y7:=(ieq a0.Op 8);let y6:=(ieq a0.Op 7);let y5:=(ieq a0.Op 3);let y4:=(zbl a0.X 0 11);let y3:=(zbl a0.X 0 15);let y2:=(aB (ieq a0.X 0));let y1:=(aB (zbp a0.X 0 11));let y0:=(aB (zbp a0.X 0 15)); (cond (ieq a0.Op 1) (cond (ieq a0.Op 1) (oN y9 (some [y8])) (cond y5 (cond y5 (oN y3 (some [y0])) (cond y6 (some [y2]) (cond y7 (oN y4 (some [y1])) oF))) (cond y10 (oN y3 (some [y0])) (cond y6 (some [y2]) (cond y7 (oN y4 (some [y1])) oF))))) (cond (ieq a0.Op 2) (cond (ieq a0.Op 2) (oN y9 (some [y8])) (cond y5 (cond y5 (oN y3 (some [y0])) (cond y6 (some [y2]) (cond y7 (oN y4 (some [y1])) oF))) (cond y10 (oN y3 (some [y0])) (cond y6 (some [y2]) (cond y7 (oN y4 (some [y1])) oF))))) (cond (ieq a0.Op 5) (cond (ieq a0.Op 5) (oN y9 (some [y8])) (cond y5 (cond y5 (oN y3 (some [y0])) (cond y6 (some [y2]) (cond y7 (oN y4 (some [y1])) oF))) (cond y10 (oN y3 (some [y0])) (cond y6 (some [y2]) (cond y7 (oN y4 (some [y1])) oF))))) (cond (ieq a0.Op 6) (oN y9 (some [y8])) (cond y5 (cond y5 (oN y3 (some [y0])) (cond y6 (some [y2]) (cond y7 (oN y4 (some [y1])) oF))) (cond y10 (oN y3 (some [y0])) (cond y6 (some [y2]) (cond y7 (oN y4 (some [y1])) oF))))))))
theorem z3f (a0:Ins)(hc:zF4 a0=true):∃N,zVk N a0=some [aB (zz3 a0)]:=by
 refine ⟨0,?_⟩;unfold zVk oN
 conv=>zeta
 refine br (fun _=>br (fun _=>must rfl ?_) (fun _=>br (fun _=>br (fun _=>must rfl ?_) (fun _=>br (fun _=>?_) (fun _=>br (fun _=>must rfl ?_) (fun _=>?_)))) (fun _=>br (fun _=>must rfl ?_) (fun _=>br (fun _=>?_) (fun _=>br (fun _=>must rfl ?_) (fun _=>?_)))))) (fun _=>br (fun _=>br (fun _=>must rfl ?_) (fun _=>br (fun _=>br (fun _=>must rfl ?_) (fun _=>br (fun _=>?_) (fun _=>br (fun _=>must rfl ?_) (fun _=>?_)))) (fun _=>br (fun _=>must rfl ?_) (fun _=>br (fun _=>?_) (fun _=>br (fun _=>must rfl ?_) (fun _=>?_)))))) (fun _=>br (fun _=>br (fun _=>must rfl ?_) (fun _=>br (fun _=>br (fun _=>must rfl ?_) (fun _=>br (fun _=>?_) (fun _=>br (fun _=>must rfl ?_) (fun _=>?_)))) (fun _=>br (fun _=>must rfl ?_) (fun _=>br (fun _=>?_) (fun _=>br (fun _=>must rfl ?_) (fun _=>?_)))))) (fun _=>br (fun _=>must rfl ?_) (fun _=>br (fun _=>br (fun _=>must rfl ?_) (fun _=>br (fun _=>?_) (fun _=>br (fun _=>must rfl ?_) (fun _=>?_)))) (fun _=>br (fun _=>must rfl ?_) (fun _=>br (fun _=>?_) (fun _=>br (fun _=>must rfl ?_) (fun _=>?_))))))))
 all_goals first|rfl|(simp only [*,zz3,zpN,cT,cF]<;>rfl)|simp_all[Ty.cells,zz3,zpN]
theorem zWG:uY 349 zKT:=kF1 zfD zi zk zn (zl []) z3f
def zvI (e:GExit):Bool:=bif (ieq e.Kind 0||ieq e.Kind 4) then (ieq e.Page 0&&(!e.Write&&ieq e.N 0)) else (cond (ieq e.Kind 1) (win e.Page 0 3&&ieq e.N 0) (cond (ieq e.Kind 2||ieq e.Kind 3) (win e.N 0 99&&(ieq e.Page 0 && !e.Write)) false))
@[simp] theorem zbfw (x:Bool):zgL x false = !x:=by cases x<;>rfl
attribute [simp] zlD
@[simp] abbrev zCh (e:GExit):Bool:=true
@[simp] abbrev zwJ (e:GExit):Bool:=zvI e
def zG5:Run:=rF1 dE fun b=>(zCh b,[aB (zwJ b)])
def zOq (N:Nat)(a0:GExit):OA:=
 let y5:=(zT a0.N 0 99);let y4:=(zO a0.N 0 99);let y3:=(ieq a0.Kind 2);let y2:=(ieq a0.Page 0);let y1:=(aB (nB a0.Write));let y0:=(aB (cond (ieq a0.Kind a0.Kind) (cond y2 (cond (zgL a0.Write false) (ieq a0.N 0) false) false) false)); (cond (ieq a0.Kind 0) (cond (ieq a0.Kind 0) (some [y0]) (cond (ieq a0.Kind 1) (oN (zO a0.Page 0 3) (cond (zT a0.Page 0 3) (some [(aB (ieq a0.N 0))]) oF)) (cond y3 (cond y3 (oN y4 (cond y5 (cond y2 (some [y1]) oF) oF)) oF) (cond (ieq a0.Kind 3) (oN y4 (cond y5 (cond y2 (some [y1]) oF) oF)) oF)))) (cond (ieq a0.Kind 4) (some [y0]) (cond (ieq a0.Kind 1) (oN (zO a0.Page 0 3) (cond (zT a0.Page 0 3) (some [(aB (ieq a0.N 0))]) oF)) (cond y3 (cond y3 (oN y4 (cond y5 (cond y2 (some [y1]) oF) oF)) oF) (cond (ieq a0.Kind 3) (oN y4 (cond y5 (cond y2 (some [y1]) oF) oF)) oF)))))
theorem z0W (a0:GExit)(hc:zCh a0=true):∃N,zOq N a0=some [aB (zwJ a0)]:=by
 refine ⟨0,?_⟩;unfold zOq oN nB
 conv=>zeta
 refine br (fun _=>br (fun _=>?_) (fun _=>br (fun _=>must rfl (br (fun _=>?_) (fun _=>?_))) (fun _=>br (fun _=>br (fun _=>must rfl (br (fun _=>br (fun _=>?_) (fun _=>?_)) (fun _=>?_))) (fun _=>?_)) (fun _=>br (fun _=>must rfl (br (fun _=>br (fun _=>?_) (fun _=>?_)) (fun _=>?_))) (fun _=>?_))))) (fun _=>br (fun _=>?_) (fun _=>br (fun _=>must rfl (br (fun _=>?_) (fun _=>?_))) (fun _=>br (fun _=>br (fun _=>must rfl (br (fun _=>br (fun _=>?_) (fun _=>?_)) (fun _=>?_))) (fun _=>?_)) (fun _=>br (fun _=>must rfl (br (fun _=>br (fun _=>?_) (fun _=>?_)) (fun _=>?_))) (fun _=>?_)))))
 all_goals first|rfl|(simp only [*,zwJ,zvI,cT,cF]<;>rfl)|simp_all[Ty.cells,zwJ,zvI]
theorem zS0:uY 340 zG5:=kF1 zfD zi zk zn (zl []) z0W
@[simp] abbrev zBN (e:GExit):Bool:=true
@[simp] abbrev zvZ (e:GExit):Bool:=zvI e
def zGp:Run:=rF1 dE fun b=>(zBN b,[aB (zvZ b)])
def zNK (N:Nat)(a0:GExit):OA:=
 let y5:=(zbp a0.N 0 99);let y4:=(zbl a0.N 0 99);let y3:=(ieq a0.Kind 2);let y2:=(aB (ieq a0.N 0));let y1:=(ieq a0.Page 0);let y0:=(aB (nB a0.Write)); (cond (ieq a0.Kind 0) (cond (ieq a0.Kind 0) (cond y1 (cond (nB a0.Write) (some [y2]) oF) oF) (cond (ieq a0.Kind 1) (oN (zbl a0.Page 0 3) (cond (zbp a0.Page 0 3) (some [y2]) oF)) (cond y3 (cond y3 (oN y4 (cond y5 (cond y1 (some [y0]) oF) oF)) oF) (cond (ieq a0.Kind 3) (oN y4 (cond y5 (cond y1 (some [y0]) oF) oF)) oF)))) (cond (ieq a0.Kind 4) (cond y1 (cond (nB a0.Write) (some [y2]) oF) oF) (cond (ieq a0.Kind 1) (oN (zbl a0.Page 0 3) (cond (zbp a0.Page 0 3) (some [y2]) oF)) (cond y3 (cond y3 (oN y4 (cond y5 (cond y1 (some [y0]) oF) oF)) oF) (cond (ieq a0.Kind 3) (oN y4 (cond y5 (cond y1 (some [y0]) oF) oF)) oF)))))
theorem z0e (a0:GExit)(hc:zBN a0=true):∃N,zNK N a0=some [aB (zvZ a0)]:=by
 refine ⟨0,?_⟩;unfold zNK oN nB
 conv=>zeta
 refine br (fun _=>br (fun _=>br (fun _=>brN (fun _=>?_) (fun _=>?_)) (fun _=>?_)) (fun _=>br (fun _=>must rfl (br (fun _=>?_) (fun _=>?_))) (fun _=>br (fun _=>br (fun _=>must rfl (br (fun _=>br (fun _=>?_) (fun _=>?_)) (fun _=>?_))) (fun _=>?_)) (fun _=>br (fun _=>must rfl (br (fun _=>br (fun _=>?_) (fun _=>?_)) (fun _=>?_))) (fun _=>?_))))) (fun _=>br (fun _=>br (fun _=>brN (fun _=>?_) (fun _=>?_)) (fun _=>?_)) (fun _=>br (fun _=>must rfl (br (fun _=>?_) (fun _=>?_))) (fun _=>br (fun _=>br (fun _=>must rfl (br (fun _=>br (fun _=>?_) (fun _=>?_)) (fun _=>?_))) (fun _=>?_)) (fun _=>br (fun _=>must rfl (br (fun _=>br (fun _=>?_) (fun _=>?_)) (fun _=>?_))) (fun _=>?_)))))
 all_goals first|rfl|(simp only [*,zvZ,zvI,cT,cF]<;>rfl)|simp_all[Ty.cells,zvZ,zvI]
theorem zSk:uY 345 zGp:=kF1 zfD zi zk zn (zl []) z0e
def zlh (c:Ctl):List Int:=(cond (win c.Traps 0 3) [] [1])++((cond (win c.Post 0 255) [] [2])++((cond (ine c.Post 0) (cond c.Open [] [3]) [])++(cond (ieq c.Traps 2) (cond (ine c.Post 0) [4] []) [])))
@[simp] theorem zbft {α:Type}(x:α)(l m:List α):ap (x :: l) m=x :: ap l m:=rfl
@[simp] abbrev zt0 (c:Ctl):Bool:=true
@[simp] abbrev znA (c:Ctl):List Int:=zlh c
def zx1:Run:=rF1 dC fun b=>(zt0 b,[aS .int (znA b)])
def zCW (N:Nat)(a0:Ctl):OA:=
 let y10:=(aS .int []);let y8:=(ap (ap [] [2]) [4]);let y7:=(ap (ap [] [1]) [4]);let y6:=(aS .int (ap [] [2]));let y5:=(aS .int (ap [] [1]));let y4:=(ap (ap [] [2]) [3]);let y3:=(ap (ap [] [1]) [3]);let y2:=(ieq a0.Traps 2);let y1:=(ine a0.Post 0);let y0:=(ap (ap [] [1]) [2]);let y9:=(aS .int y0); (oN (zO a0.Traps 0 3) (cond (nB (zT a0.Traps 0 3)) (oN (few (ln (ap [] [1]))) (oN (zO a0.Post 0 255) (cond (nB (zT a0.Post 0 255)) (oN (few (ln y0)) (cond y1 (cond (nB a0.Open) (oN (few (ln (ap y0 [3]))) (cond y2 (cond y1 (oN (few (ln (ap (ap y0 [3]) [4]))) (some [(aS .int (ap (ap y0 [3]) [4]))])) (some [(aS .int (ap y0 [3]))])) (some [(aS .int (ap y0 [3]))]))) (cond y2 (cond y1 (oN (few (ln (ap y0 [4]))) (some [(aS .int (ap y0 [4]))])) (some [y9])) (some [y9]))) (cond y2 (cond y1 (oN (few (ln (ap y0 [4]))) (some [(aS .int (ap y0 [4]))])) (some [y9])) (some [y9])))) (cond y1 (cond (nB a0.Open) (oN (few (ln y3)) (cond y2 (cond y1 (oN (few (ln (ap y3 [4]))) (some [(aS .int (ap y3 [4]))])) (some [(aS .int y3)])) (some [(aS .int y3)]))) (cond y2 (cond y1 (oN (few (ln y7)) (some [(aS .int y7)])) (some [y5])) (some [y5]))) (cond y2 (cond y1 (oN (few (ln y7)) (some [(aS .int y7)])) (some [y5])) (some [y5])))))) (oN (zO a0.Post 0 255) (cond (nB (zT a0.Post 0 255)) (oN (few (ln (ap [] [2]))) (cond y1 (cond (nB a0.Open) (oN (few (ln y4)) (cond y2 (cond y1 (oN (few (ln (ap y4 [4]))) (some [(aS .int (ap y4 [4]))])) (some [(aS .int y4)])) (some [(aS .int y4)]))) (cond y2 (cond y1 (oN (few (ln y8)) (some [(aS .int y8)])) (some [y6])) (some [y6]))) (cond y2 (cond y1 (oN (few (ln y8)) (some [(aS .int y8)])) (some [y6])) (some [y6])))) (cond y1 (cond (nB a0.Open) (oN (few (ln (ap [] [3]))) (cond y2 (cond y1 (oN (few (ln (ap (ap [] [3]) [4]))) (some [(aS .int (ap (ap [] [3]) [4]))])) (some [(aS .int (ap [] [3]))])) (some [(aS .int (ap [] [3]))]))) (cond y2 (cond y1 (oN (few (ln (ap [] [4]))) (some [(aS .int (ap [] [4]))])) (some [y10])) (some [y10]))) (cond y2 (cond y1 (oN (few (ln (ap [] [4]))) (some [(aS .int (ap [] [4]))])) (some [y10])) (some [y10])))))))
theorem zQK (a0:Ctl)(hc:zt0 a0=true):∃N,zCW N a0=some [aS .int (znA a0)]:=by
 refine ⟨0,?_⟩;unfold zCW oN nB
 conv=>zeta
 refine must rfl (brN (fun _=>mu (must rfl (brN (fun _=>mu (br (fun _=>brN (fun _=>mu (br (fun _=>br (fun _=>mu ?_) (fun _=>?_)) (fun _=>?_))) (fun _=>br (fun _=>br (fun _=>mu ?_) (fun _=>?_)) (fun _=>?_))) (fun _=>br (fun _=>br (fun _=>mu ?_) (fun _=>?_)) (fun _=>?_)))) (fun _=>br (fun _=>brN (fun _=>mu (br (fun _=>br (fun _=>mu ?_) (fun _=>?_)) (fun _=>?_))) (fun _=>br (fun _=>br (fun _=>mu ?_) (fun _=>?_)) (fun _=>?_))) (fun _=>br (fun _=>br (fun _=>mu ?_) (fun _=>?_)) (fun _=>?_)))))) (fun _=>must rfl (brN (fun _=>mu (br (fun _=>brN (fun _=>mu (br (fun _=>br (fun _=>mu ?_) (fun _=>?_)) (fun _=>?_))) (fun _=>br (fun _=>br (fun _=>mu ?_) (fun _=>?_)) (fun _=>?_))) (fun _=>br (fun _=>br (fun _=>mu ?_) (fun _=>?_)) (fun _=>?_)))) (fun _=>br (fun _=>brN (fun _=>mu (br (fun _=>br (fun _=>mu ?_) (fun _=>?_)) (fun _=>?_))) (fun _=>br (fun _=>br (fun _=>mu ?_) (fun _=>?_)) (fun _=>?_))) (fun _=>br (fun _=>br (fun _=>mu ?_) (fun _=>?_)) (fun _=>?_))))))
 all_goals first|rfl|(simp only [*,znA,zlh,cT,cF]<;>rfl)|simp_all[Ty.cells,znA,zlh]
theorem zIK:uY 312 zx1:=kF1 zfD zi zk zn (zl []) zQK
@[simp] abbrev ztH (c:Ctl):Bool:=true
@[simp] abbrev znf (c:Ctl):List Int:=zlh c
def zxL:Run:=rF1 dC fun b=>(ztH b,[aS .int (znf b)])
def zCF (N:Nat)(a0:Ctl):OA:=
 let y10:=(aS .int []);let y8:=(ap (ap [] [2]) [4]);let y7:=(ap (ap [] [1]) [4]);let y6:=(aS .int (ap [] [2]));let y5:=(aS .int (ap [] [1]));let y4:=(ap (ap [] [2]) [3]);let y3:=(ap (ap [] [1]) [3]);let y2:=(ieq a0.Traps 2);let y1:=(ine a0.Post 0);let y0:=(ap (ap [] [1]) [2]);let y9:=(aS .int y0); (oN (zbl a0.Traps 0 3) (cond (nB (zbp a0.Traps 0 3)) (oN (few (ln (ap [] [1]))) (oN (zbl a0.Post 0 255) (cond (nB (zbp a0.Post 0 255)) (oN (few (ln y0)) (cond y1 (cond (nB a0.Open) (oN (few (ln (ap y0 [3]))) (cond y2 (cond y1 (oN (few (ln (ap (ap y0 [3]) [4]))) (some [(aS .int (ap (ap y0 [3]) [4]))])) (some [(aS .int (ap y0 [3]))])) (some [(aS .int (ap y0 [3]))]))) (cond y2 (cond y1 (oN (few (ln (ap y0 [4]))) (some [(aS .int (ap y0 [4]))])) (some [y9])) (some [y9]))) (cond y2 (cond y1 (oN (few (ln (ap y0 [4]))) (some [(aS .int (ap y0 [4]))])) (some [y9])) (some [y9])))) (cond y1 (cond (nB a0.Open) (oN (few (ln y3)) (cond y2 (cond y1 (oN (few (ln (ap y3 [4]))) (some [(aS .int (ap y3 [4]))])) (some [(aS .int y3)])) (some [(aS .int y3)]))) (cond y2 (cond y1 (oN (few (ln y7)) (some [(aS .int y7)])) (some [y5])) (some [y5]))) (cond y2 (cond y1 (oN (few (ln y7)) (some [(aS .int y7)])) (some [y5])) (some [y5])))))) (oN (zbl a0.Post 0 255) (cond (nB (zbp a0.Post 0 255)) (oN (few (ln (ap [] [2]))) (cond y1 (cond (nB a0.Open) (oN (few (ln y4)) (cond y2 (cond y1 (oN (few (ln (ap y4 [4]))) (some [(aS .int (ap y4 [4]))])) (some [(aS .int y4)])) (some [(aS .int y4)]))) (cond y2 (cond y1 (oN (few (ln y8)) (some [(aS .int y8)])) (some [y6])) (some [y6]))) (cond y2 (cond y1 (oN (few (ln y8)) (some [(aS .int y8)])) (some [y6])) (some [y6])))) (cond y1 (cond (nB a0.Open) (oN (few (ln (ap [] [3]))) (cond y2 (cond y1 (oN (few (ln (ap (ap [] [3]) [4]))) (some [(aS .int (ap (ap [] [3]) [4]))])) (some [(aS .int (ap [] [3]))])) (some [(aS .int (ap [] [3]))]))) (cond y2 (cond y1 (oN (few (ln (ap [] [4]))) (some [(aS .int (ap [] [4]))])) (some [y10])) (some [y10]))) (cond y2 (cond y1 (oN (few (ln (ap [] [4]))) (some [(aS .int (ap [] [4]))])) (some [y10])) (some [y10])))))))
theorem zQm (a0:Ctl)(hc:ztH a0=true):∃N,zCF N a0=some [aS .int (znf a0)]:=by
 refine ⟨0,?_⟩;unfold zCF oN nB
 conv=>zeta
 refine must rfl (brN (fun _=>mu (must rfl (brN (fun _=>mu (br (fun _=>brN (fun _=>mu (br (fun _=>br (fun _=>mu ?_) (fun _=>?_)) (fun _=>?_))) (fun _=>br (fun _=>br (fun _=>mu ?_) (fun _=>?_)) (fun _=>?_))) (fun _=>br (fun _=>br (fun _=>mu ?_) (fun _=>?_)) (fun _=>?_)))) (fun _=>br (fun _=>brN (fun _=>mu (br (fun _=>br (fun _=>mu ?_) (fun _=>?_)) (fun _=>?_))) (fun _=>br (fun _=>br (fun _=>mu ?_) (fun _=>?_)) (fun _=>?_))) (fun _=>br (fun _=>br (fun _=>mu ?_) (fun _=>?_)) (fun _=>?_)))))) (fun _=>must rfl (brN (fun _=>mu (br (fun _=>brN (fun _=>mu (br (fun _=>br (fun _=>mu ?_) (fun _=>?_)) (fun _=>?_))) (fun _=>br (fun _=>br (fun _=>mu ?_) (fun _=>?_)) (fun _=>?_))) (fun _=>br (fun _=>br (fun _=>mu ?_) (fun _=>?_)) (fun _=>?_)))) (fun _=>br (fun _=>brN (fun _=>mu (br (fun _=>br (fun _=>mu ?_) (fun _=>?_)) (fun _=>?_))) (fun _=>br (fun _=>br (fun _=>mu ?_) (fun _=>?_)) (fun _=>?_))) (fun _=>br (fun _=>br (fun _=>mu ?_) (fun _=>?_)) (fun _=>?_))))))
 all_goals first|rfl|(simp only [*,znf,zlh,cT,cF]<;>rfl)|simp_all[Ty.cells,znf,zlh]
theorem zIo:uY 328 zxL:=kF1 zfD zi zk zn (zl []) zQm
def len8tab:ByteArray:=⟨⟨[0,1,2,2,3,3,3,3,4,4,4,4,4,4,4,4,5,5,5,5,5,5,5,5,5,5,5,5,5,5,5,5,6,6,6,6,6,6,6,6,6,6,6,6,6,6,6,6,6,6,6,6,6,6,6,6,6,6,6,6,6,6,6,6,7,7,7,7,7,7,7,7,7,7,7,7,7,7,7,7,7,7,7,7,7,7,7,7,7,7,7,7,7,7,7,7,7,7,7,7,7,7,7,7,7,7,7,7,7,7,7,7,7,7,7,7,7,7,7,7,7,7,7,7,7,7,7,7,8,8,8,8,8,8,8,8,8,8,8,8,8,8,8,8,8,8,8,8,8,8,8,8,8,8,8,8,8,8,8,8,8,8,8,8,8,8,8,8,8,8,8,8,8,8,8,8,8,8,8,8,8,8,8,8,8,8,8,8,8,8,8,8,8,8,8,8,8,8,8,8,8,8,8,8,8,8,8,8,8,8,8,8,8,8,8,8,8,8,8,8,8,8,8,8,8,8,8,8,8,8,8,8,8,8,8,8,8,8,8,8,8,8,8,8,8,8,8,8,8,8,8,8,8,8,8,8]⟩⟩
def zgM (p n:Int):Bool:=ieq (wand .i64 (zk2 .i64 p n) 1) 1
def scan (p:Int):Int:=bif zgM p 7 then 7 else (cond (zgM p 6) 6 (cond (zgM p 5) 5 (cond (zgM p 4) 4 (cond (zgM p 3) 3 (cond (zgM p 2) 2 (cond (zgM p 1) 1 (cond (zgM p 0) 0 (-1))))))))
theorem zbax:∀n:Fin 256,zB .i64 0 (wcv .i64 (byteAt len8tab (wcv .u8 (n.val:Int))))=scan (n.val:Int)+1:=by decide +kernel
theorem z1J:∀n:Fin 256,-1<=scan (n.val:Int)/\scan (n.val:Int)<=7/\(0<=scan (n.val:Int)->wsub .i64 (n.val:Int) (zm8 .i64 1 (scan (n.val:Int)))=zCB .i64 (n.val:Int) (zm8 .i64 1 (scan (n.val:Int)))):=by decide +kernel
theorem zGh {P:Int->Prop}(h:∀n:Fin 256,P (n.val:Int)){x:Int}(h0:0<=x)(h1:x<=255):P x:=by
 have:=h ⟨x.toNat,by omega⟩
 have e:((x.toNat:Nat):Int)=x:=by omega
 simpa [e] using this
def zm9 (x:Int):Bool:=pc (0<=x/\x<=255)
def ziy (x:Int):Int:=scan x+1
def zhQ:List AV->Option (Bool×List AV)
 | [.one (.i .u64 b)]=>some ((zm9 b),[aI (ziy b)])
 | _=>none
def zmZ (N:Nat)(a0:Int):OA:=
 let y2:=(zk2 .u64 a0 16);let y0:=(zk2 .u64 a0 32);let y1:=(zk2 .u64 y0 16); (cond (ige a0 4294967296) (oN (ile 0 32) (cond (ige y0 65536) (oN (ile 0 16) (cond (ige y1 256) (oN (ile 0 8) (oN (inb (wcv .u8 (zk2 .u64 y1 8)) 256) (some [(aI (zB .i64 (zB .i64 (zB .i64 32 16) 8) (wcv .i64 (byteAt len8tab (wcv .u8 (zk2 .u64 y1 8))))))]))) (oN (inb (wcv .u8 y1) 256) (some [(aI (zB .i64 (zB .i64 32 16) (wcv .i64 (byteAt len8tab (wcv .u8 y1)))))])))) (cond (ige y0 256) (oN (ile 0 8) (oN (inb (wcv .u8 (zk2 .u64 y0 8)) 256) (some [(aI (zB .i64 (zB .i64 32 8) (wcv .i64 (byteAt len8tab (wcv .u8 (zk2 .u64 y0 8))))))]))) (oN (inb (wcv .u8 y0) 256) (some [(aI (zB .i64 32 (wcv .i64 (byteAt len8tab (wcv .u8 y0)))))]))))) (cond (ige a0 65536) (oN (ile 0 16) (cond (ige y2 256) (oN (ile 0 8) (oN (inb (wcv .u8 (zk2 .u64 y2 8)) 256) (some [(aI (zB .i64 (zB .i64 (zB .i64 0 16) 8) (wcv .i64 (byteAt len8tab (wcv .u8 (zk2 .u64 y2 8))))))]))) (oN (inb (wcv .u8 y2) 256) (some [(aI (zB .i64 (zB .i64 0 16) (wcv .i64 (byteAt len8tab (wcv .u8 y2)))))])))) (cond (ige a0 256) (oN (ile 0 8) (oN (inb (wcv .u8 (zk2 .u64 a0 8)) 256) (some [(aI (zB .i64 (zB .i64 0 8) (wcv .i64 (byteAt len8tab (wcv .u8 (zk2 .u64 a0 8))))))]))) (oN (inb (wcv .u8 a0) 256) (some [(aI (zB .i64 0 (wcv .i64 (byteAt len8tab (wcv .u8 a0)))))])))))
theorem zGg (N:Nat)(a0:Int):evalFn (cQ z5G zom zk0 zlX) (zl []) N 12 346 [.one (.i .u64 a0)]=zmZ N a0:=by kernel_rfl
theorem zEu (a0:Int)(hb:zby big [.one (.i .u64 a0)])(hc:zm9 a0=true):∃N,zmZ N a0=some [aI (ziy a0)]:=by
 obtain ⟨h0,h1⟩:=zu.1 hc;refine ⟨0,?_⟩;unfold zmZ oN
 conv=>zeta
 refine zbI (qH (by omega)) ?_
 refine zbI (qH (by omega)) ?_
 refine zbI (qH (by omega)) ?_
 have e:inb (wcv .u8 a0) 256=true:=zGh (P:=fun x=>inb (wcv .u8 x) 256=true) (by decide +kernel) h0 h1
 refine must e ?_;have e2:=zGh (P:=fun x=>zB .i64 0 (wcv .i64 (byteAt len8tab (wcv .u8 x)))=scan x+1) zbax h0 h1;rw[e2];rfl
theorem zoR:uY 346 zhQ:=zZT zfD zi zk zn (zdQ (by kernel_rfl)) fun avs rs hb h=>by
 unfold zhQ at h;split at h
 .obtain ⟨hc,rfl⟩:=zdG h;exact (zEu _ hb hc).elim fun N e=>⟨zl [],N,(zGg N _).trans e⟩
 .cases h
def zbbz:zY:=[(136,zG3),(338,zDX),(319,zDq),(336,zHf),(318,zGB),(348,zLc),(349,zKT),(340,zG5),(345,zGp),(312,zx1),(328,zxL),(346,zhQ)]++z5G
theorem zfE:zJ zbbz:=zf zSY (zf zP2 (zf zPv (zf zTa (zf zSw (zf zWZ (zf zWG (zf zS0 (zf zSk (zf zIK (zf zIo (zf zoR zfD)))))))))))
def zi2 (m:List (List Int))(n:Int):Bool:=bif m.all zcZ then ieq (ln m) n else false
@[simp] abbrev ztk (m:List (List Int))(n:Int):Bool:=true
@[simp] abbrev zmR (m:List (List Int))(n:Int):Bool:=zi2 m n
def zLd:Run:=rF2 (dS (.sl .int)) dI fun b c=>(ztk b c,[aB (zmR b c)])
def zVC (N:Nat)(a0:lM)(a1:Int):OA:=
 (iter (σ:=(Int×(Int×(lM×Unit)))) N (fun r3 s4=>let y0:=s4.2.2.1; (cond (ilt s4.2.1 (ln y0)) (oN (inb s4.2.1 (ln y0)) (oN (zf3 (ix y0 s4.2.1 [])) (cond (nB (zfi (ix y0 s4.2.1 []))) oF (r3 (s4.1,((zB .i64 s4.2.1 1),(y0,()))))))) (some [(aB (ieq (ln y0) s4.1))]))) (a1,(0,(a0,()))))
def z4n:FuncId->Nat->Option Tmpl:=zl [(304,0,{ n:=22,tm:=[(0,.sl 0 []),(1,ti),(5,ti)],lo:=[],ro:=[(0,(.sl .int),false)] })]
theorem z3z (a0:List (List Int))(a1:Int)(hb:zby big [aS (.sl .int) a0,aI a1])(hc:ztk a0 a1=true):∃N,zVC N a0 a1=some [aB (zmR a0 a1)]:=by
 have hl:(_:List _).length<=big:=((zcz hb).1 _ (qF.2 rfl)).len;refine zbo fun N hNN=>?_;unfold zVC oN nB
 conv=>zeta
 refine (zbc a0 (fun i (t:Unit)=>(a1,(i:Int),a0,())) _ (fun _ x (_:Unit) κ=>bif (zcZ) x then κ () else oF) (fun (t:Unit)=>(some [(.one (.b (ieq (ln a0) a1)))])) (fun i hi t rec=>?_) (fun t rec=>?_) _ () (hNN hl)).trans ?_
 .simp only [zU hi,zK hi,zS hi,zL hi hl,cT];exact ziz rfl
 .simp only [zQ,cF]
 rw[zgs (zcZ)];refine br (fun h0=>?_) (fun h0=>?_)
 .first|rfl|(simp only [h0,zmR,zi2,cT,cF]<;>rfl)|(simp_all [Ty.cells,zmR,zi2];done)
 .first|rfl|(simp only [h0,zmR,zi2,cT,cF]<;>rfl)|(simp_all [Ty.cells,zmR,zi2];done)
theorem zW0:uY 304 zLd:=hF2 zfE zi zk zn z4n z3z
@[simp] abbrev zsY (m:List (List Int))(n:Int):Bool:=true
@[simp] abbrev zmf (m:List (List Int))(n:Int):Bool:=zi2 m n
def zKU:Run:=rF2 (dS (.sl .int)) dI fun b c=>(zsY b c,[aB (zmf b c)])
def zVm (N:Nat)(a0:lM)(a1:Int):OA:=
 (iter (σ:=(Int×(Int×(Int×(lM×Unit))))) N (fun r3 s4=>let y0:=s4.2.2.2.1; (cond (ilt s4.2.2.1 s4.2.1) (oN (inb s4.2.2.1 (ln y0)) (oN (zii (ix y0 s4.2.2.1 [])) (cond (nB (zgB (ix y0 s4.2.2.1 []))) oF (r3 (s4.1,(s4.2.1,((zB .i64 s4.2.2.1 1),(y0,())))))))) (some [(aB (ieq (ln y0) s4.1))]))) (a1,((ln a0),(0,(a0,())))))
def z4l:FuncId->Nat->Option Tmpl:=zl [(242,0,{ n:=21,tm:=[(0,.sl 0 []),(1,ti),(7,.sl 0 []),(8,ti),(9,ti)],lo:=[],ro:=[(0,(.sl .int),false)] })]
theorem z3g (a0:List (List Int))(a1:Int)(hb:zby big [aS (.sl .int) a0,aI a1])(hc:zsY a0 a1=true):∃N,zVm N a0 a1=some [aB (zmf a0 a1)]:=by
 have hl:(_:List _).length<=big:=((zcz hb).1 _ (qF.2 rfl)).len;refine zbo fun N hNN=>?_;unfold zVm oN nB
 conv=>zeta
 refine (zbc a0 (fun i (t:Unit)=>(a1,(ln a0),(i:Int),a0,())) _ (fun _ x (_:Unit) κ=>bif (zcZ) x then κ () else oF) (fun (t:Unit)=>(some [(.one (.b (ieq (ln a0) a1)))])) (fun i hi t rec=>?_) (fun t rec=>?_) _ () (hNN hl)).trans ?_
 .simp only [zU hi,zK hi,zS hi,zL hi hl,cT];exact ziz rfl
 .simp only [zQ,cF]
 rw[zgs (zcZ)];refine br (fun h0=>?_) (fun h0=>?_)
 .first|rfl|(simp only [h0,zmf,zi2,cT,cF]<;>rfl)|(simp_all [Ty.cells,zmf,zi2];done)
 .first|rfl|(simp only [h0,zmf,zi2,cT,cF]<;>rfl)|(simp_all [Ty.cells,zmf,zi2];done)
theorem zWH:uY 242 zKU:=hF2 zfE zi zk zn z4l z3g
def zlO (p:List Ins):Bool:=bif p.all zpN then win (ln p) 1 12 else false
@[simp] abbrev zCm (p:List Ins):Bool:=true
@[simp] abbrev zoE (p:List Ins):Bool:=zlO p
def zHh:Run:=rF1 (dS .ins) fun b=>(zCm b,[aB (zoE b)])
def zOB (N:Nat)(a0:lI):OA:=
 (iter (σ:=(Int×(lI×Unit))) N (fun r2 s3=>let y0:=(ix s3.2.1 s3.1 zj9); (cond (ilt s3.1 (ln s3.2.1)) (oN (inb s3.1 (ln s3.2.1)) (oN (zHx y0) (cond (nB (zA7 y0)) oF (r2 ((zB .i64 s3.1 1),(s3.2.1,())))))) (oN (zO (ln s3.2.1) 1 12) (some [(aB (zT (ln s3.2.1) 1 12))])))) (0,(a0,())))
def z2v:FuncId->Nat->Option Tmpl:=zl [(339,0,{ n:=19,tm:=[(0,.sl 0 []),(3,ti)],lo:=[],ro:=[(0,.ins,false)] })]
theorem z09 (a0:List Ins)(hb:zby big [aS .ins a0])(hc:zCm a0=true):∃N,zOB N a0=some [aB (zoE a0)]:=by
 have hl:(_:List _).length<=big:=((zcz hb).1 _ (qF.2 rfl)).len;refine zbo fun N hNN=>?_;unfold zOB oN nB
 conv=>zeta
 refine (zbc a0 (fun i (t:Unit)=>((i:Int),a0,())) _ (fun _ x (_:Unit) κ=>bif (zpN) x then κ () else oF) (fun (t:Unit)=>(cond (zO (ln a0) 1 12) (some [(.one (.b (zT (ln a0) 1 12)))]) none)) (fun i hi t rec=>?_) (fun t rec=>?_) _ () (hNN hl)).trans ?_
 .simp only [zU hi,zK hi,zS hi,zL hi hl,cT];exact ziz rfl
 .simp only [zQ,cF]
 rw[zgs (zpN)];refine br (fun h0=>?_) (fun h0=>?_)
 .refine must rfl ?_
  first|rfl|(simp only [h0,zoE,zlO,cT,cF]<;>rfl)|(simp_all [Ty.cells,zoE,zlO];done)
 .first|rfl|(simp only [h0,zoE,zlO,cT,cF]<;>rfl)|(simp_all [Ty.cells,zoE,zlO];done)
theorem zTc:uY 339 zHh:=hF1 zfE zi zk zn z2v z09
@[simp] abbrev zBT (p:List Ins):Bool:=true
@[simp] abbrev zof (p:List Ins):Bool:=zlO p
def zGD:Run:=rF1 (dS .ins) fun b=>(zBT b,[aB (zof b)])
def zNX (N:Nat)(a0:lI):OA:=
 (iter (σ:=(Int×(Int×(lI×Unit)))) N (fun r2 s3=>let y0:=(ix s3.2.2.1 s3.2.1 zj9); (cond (ilt s3.2.1 s3.1) (oN (inb s3.2.1 (ln s3.2.2.1)) (oN (zF4 y0) (cond (nB (zz3 y0)) oF (r2 (s3.1,((zB .i64 s3.2.1 1),(s3.2.2.1,()))))))) (oN (zbl (ln s3.2.2.1) 1 12) (some [(aB (zbp (ln s3.2.2.1) 1 12))])))) ((ln a0),(0,(a0,()))))
def z2e:FuncId->Nat->Option Tmpl:=zl [(344,0,{ n:=18,tm:=[(0,.sl 0 []),(5,.sl 0 []),(6,ti),(7,ti)],lo:=[],ro:=[(0,.ins,false)] })]
theorem z0t (a0:List Ins)(hb:zby big [aS .ins a0])(hc:zBT a0=true):∃N,zNX N a0=some [aB (zof a0)]:=by
 have hl:(_:List _).length<=big:=((zcz hb).1 _ (qF.2 rfl)).len;refine zbo fun N hNN=>?_;unfold zNX oN nB
 conv=>zeta
 refine (zbc a0 (fun i (t:Unit)=>((ln a0),(i:Int),a0,())) _ (fun _ x (_:Unit) κ=>bif (zpN) x then κ () else oF) (fun (t:Unit)=>(cond (zbl (ln a0) 1 12) (some [(.one (.b (zbp (ln a0) 1 12)))]) none)) (fun i hi t rec=>?_) (fun t rec=>?_) _ () (hNN hl)).trans ?_
 .simp only [zU hi,zK hi,zS hi,zL hi hl,cT];exact ziz rfl
 .simp only [zQ,cF]
 rw[zgs (zpN)];refine br (fun h0=>?_) (fun h0=>?_)
 .refine must rfl ?_
  first|rfl|(simp only [h0,zof,zlO,cT,cF]<;>rfl)|(simp_all [Ty.cells,zof,zlO];done)
 .first|rfl|(simp only [h0,zof,zlO,cT,cF]<;>rfl)|(simp_all [Ty.cells,zof,zlO];done)
theorem zSy:uY 344 zGD:=hF1 zfE zi zk zn z2e z0t
def zk3 (c:Ctl):Bool:=ieq (ln (zlh c)) 0
@[simp] abbrev zti (c:Ctl):Bool:=true
@[simp] abbrev zrz (c:Ctl):Bool:=zk3 c
def zK9:Run:=rF1 dC fun b=>(zti b,[aB (zrz b)])
def zVy (N:Nat)(a0:Ctl):OA:=
 (oN (zt0 a0) (some [(aB (ieq (ln (znA a0)) 0))]))
theorem z3v (a0:Ctl)(hc:zti a0=true):∃N,zVy N a0=some [aB (zrz a0)]:=by
 refine ⟨0,?_⟩;unfold zVy oN;refine must rfl ?_
 first|rfl|(simp only [*,zrz,zk3,cT,cF]<;>rfl)|simp_all[Ty.cells,zrz,zk3]
theorem zWW:uY 229 zK9:=kF1 zfE zi zk zn (zl []) z3v
@[simp] abbrev zsW (c:Ctl):Bool:=true
@[simp] abbrev zq6 (c:Ctl):Bool:=zk3 c
def zKQ:Run:=rF1 dC fun b=>(zsW b,[aB (zq6 b)])
def zVh (N:Nat)(a0:Ctl):OA:=
 (oN (ztH a0) (some [(aB (ieq (ln (znf a0)) 0))]))
theorem z3c (a0:Ctl)(hc:zsW a0=true):∃N,zVh N a0=some [aB (zq6 a0)]:=by
 refine ⟨0,?_⟩;unfold zVh oN;refine must rfl ?_
 first|rfl|(simp only [*,zq6,zk3,cT,cF]<;>rfl)|simp_all[Ty.cells,zq6,zk3]
theorem zWD:uY 282 zKQ:=kF1 zfE zi zk zn (zl []) z3c
def zcR (p:Int):Int:=bif zgJ p then scan p else -1
theorem zVe {x:Int}(h0:0<=x)(h1:x<=255):wcv .u64 x=x:=zGh (P:=fun x=>wcv .u64 x=x) (by decide +kernel) h0 h1
@[simp] abbrev zuA (p:Int):Bool:=true
@[simp] abbrev zog (p:Int):Int:=zcR p
def zGJ:Run:=rF1 dI fun b=>(zuA b,[aI (zog b)])
def zN3 (N:Nat)(a0:Int):OA:=
 (oN (zij a0) (cond (nB (ziK a0)) (some [(aI (-1))]) (oN (zm9 (wcv .u64 a0)) (some [(aI (wsub .i64 (ziy (wcv .u64 a0)) 1))]))))
theorem z0z (a0:Int)(hc:zuA a0=true):∃N,zN3 N a0=some [aI (zog a0)]:=by
 refine ⟨0,?_⟩;unfold zN3 oN nB;refine must rfl ?_;cases h:zgJ a0
 .refine must (by simp[h]) ?_
  simp[zcR,h]
 .obtain ⟨h0,h1⟩:=zfo.1 h;have r:=zGh (P:=fun x=>-1<=scan x/\scan x<=7/\(0<=scan x->wsub .i64 x (zm8 .i64 1 (scan x))=zCB .i64 x (zm8 .i64 1 (scan x)))) z1J h0 h1;refine zbI (by simp[h]) ?_
  rw[zVe h0 h1];refine must (zD ⟨h0,h1⟩) ?_;have e:wsub .i64 (ziy a0) 1=scan a0:=by
   unfold ziy;rw[zrL (by omega) (by omega)];omega
  rw[e];simp[zcR,h]
theorem zSE:uY 322 zGJ:=kF1 zfE zi zk zn (zl []) z0z
@[simp] abbrev zu1 (p:Int):Bool:=true
@[simp] abbrev zoF (p:Int):Int:=zcR p
def zHl:Run:=rF1 dI fun b=>(zu1 b,[aI (zoF b)])
def zOF (N:Nat)(a0:Int):OA:=
 (iter (σ:=(Int×(Int×Unit))) N (fun r2 s3=>(cond (ige s3.2.1 0) (oN (zfk s3.1) (cond (zfj s3.1) (oN (ile 0 (wcv .u64 s3.2.1)) (cond (ieq (wand .i64 (zk2 .i64 s3.1 (wcv .u64 s3.2.1)) 1) 1) (some [(aI s3.2.1)]) (r2 (s3.1,((wsub .i64 s3.2.1 1),()))))) (some [(aI (-1))]))) (some [(aI (-1))]))) (a0,(7,())))
def z2w:FuncId->Nat->Option Tmpl:=zl [(307,0,{ n:=19,tm:=[(0,ti),(3,ti)],lo:=[],ro:=[] })]
theorem z1d (a0:Int)(hc:zu1 a0=true):∃N,zOF N a0=some [aI (zoF a0)]:=by
 refine ⟨10,?_⟩;unfold zOF oN;cases h:zgJ a0
 .rw [zcf];refine must rfl ?_;refine must rfl ?_;refine zbI h ?_;simp[zcR,h]
 .have hs:zfj a0=true:=h;rw[zcf];refine must rfl (must rfl (must hs (must rfl (br (fun h7=>?_) (fun h7=>?_)))))
  .have e7:zgM a0 7=true:=h7;simp[zcR,h,scan,e7]
  have f7:zgM a0 7=false:=h7
  show iter 9 _ (a0,6,())=_
  rw[zcf];refine must rfl (must rfl (must hs (must rfl (br (fun h6=>?_) (fun h6=>?_)))))
  .have e6:zgM a0 6=true:=h6;simp[zcR,h,scan,e6,f7]
  have f6:zgM a0 6=false:=h6
  show iter 8 _ (a0,5,())=_
  rw[zcf];refine must rfl (must rfl (must hs (must rfl (br (fun h5=>?_) (fun h5=>?_)))))
  .have e5:zgM a0 5=true:=h5;simp[zcR,h,scan,e5,f7,f6]
  have f5:zgM a0 5=false:=h5
  show iter 7 _ (a0,4,())=_
  rw[zcf];refine must rfl (must rfl (must hs (must rfl (br (fun h4=>?_) (fun h4=>?_)))))
  .have e4:zgM a0 4=true:=h4;simp[zcR,h,scan,e4,f7,f6,f5]
  have f4:zgM a0 4=false:=h4
  show iter 6 _ (a0,3,())=_
  rw[zcf];refine must rfl (must rfl (must hs (must rfl (br (fun h3=>?_) (fun h3=>?_)))))
  .have e3:zgM a0 3=true:=h3;simp[zcR,h,scan,e3,f7,f6,f5,f4]
  have f3:zgM a0 3=false:=h3
  show iter 5 _ (a0,2,())=_
  rw[zcf];refine must rfl (must rfl (must hs (must rfl (br (fun h2=>?_) (fun h2=>?_)))))
  .have e2:zgM a0 2=true:=h2;simp[zcR,h,scan,e2,f7,f6,f5,f4,f3]
  have f2:zgM a0 2=false:=h2
  show iter 4 _ (a0,1,())=_
  rw[zcf];refine must rfl (must rfl (must hs (must rfl (br (fun h1=>?_) (fun h1=>?_)))))
  .have e1:zgM a0 1=true:=h1;simp[zcR,h,scan,e1,f7,f6,f5,f4,f3,f2]
  have f1:zgM a0 1=false:=h1
  show iter 3 _ (a0,0,())=_
  rw[zcf];refine must rfl (must rfl (must hs (must rfl (br (fun h0=>?_) (fun h0=>?_)))))
  .have e0:zgM a0 0=true:=h0;simp[zcR,h,scan,e0,f7,f6,f5,f4,f3,f2,f1]
  have f0:zgM a0 0=false:=h0
  show iter 2 _ (a0,-1,())=_
  rw[zcf];refine zbI rfl ?_;simp[zcR,h,scan,f7,f6,f5,f4,f3,f2,f1,f0]
theorem zTg:uY 307 zHl:=kF1 zfE zi zk zn z2w z1d
@[simp] abbrev zfY (l:List (List Int)):Bool:=pc (SmM l)
@[simp] abbrev zde (l:List (List Int)):List (List Int):=l
def zDs:Run:=rF1 (dS (.sl .int)) fun b=>(zfY b,[aS (.sl .int) (zde b)])
def zJL (N:Nat)(a0:lM):OA:=
 (iter (σ:=(Int×(Int×(lM×(lM×Unit))))) N (fun r2 s3=>let y0:=(ix s3.2.2.2.1 s3.2.1 []); (cond (ilt s3.2.1 s3.1) (oN (inb s3.2.1 (ln s3.2.2.2.1)) (oN (zdo y0) (oN (few (ln (ap s3.2.2.1 [(zdi y0)]))) (r2 (s3.1,((zB .i64 s3.2.1 1),((ap s3.2.2.1 [(zdi y0)]),(s3.2.2.2.1,())))))))) (some [(aS (.sl .int) s3.2.2.1)]))) ((ln a0),(0,([],(a0,())))))
def zYt:FuncId->Nat->Option Tmpl:=zl [(190,0,{ n:=20,tm:=[(3,.sl 0 []),(7,.sl 1 []),(8,ti),(9,ti)],lo:=[],ro:=[(0,(.sl .int),true),(1,(.sl .int),false)] })]
theorem zXy (a0:List (List Int))(hc:zfY a0=true):∃N,zJL N a0=some [aS (.sl .int) (zde a0)]:=by
 have hs:=zu.1 hc;have hl:=zb2 hs.1;refine zbo fun N hNN=>?_;unfold zJL oN
 conv=>zeta
 refine (zbc a0 (fun i (t:lM)=>((ln a0),(i:Int),t,a0,())) _ (fun _ x acc κ=>bif zdo x then (cond (few (ln (ap acc [zdi x]))) (κ (ap acc [zdi x])) none) else none) (fun (t:lM)=>(some [(.one (.s (.sl .int) t))])) (fun i hi t rec=>?_) (fun t rec=>?_) _ ([]) (hNN hl.1)).trans ?_
 .simp only [zU hi,zK hi,zS hi,zL hi hl.1,cT]
 .simp only [zQ,cF]
 exact zjK zdo zdi _ a0 0 [] (fun x hx=>⟨by exact zD (jD (hs.2 x hx) (by decide)),rfl⟩) (by simpa using hl.2)
theorem zPx:uY 190 zDs:=kF1 zfE zi zk zn zYt zXy
@[simp] abbrev zdj (g:Guest):Bool:=pc (SmG g)
@[simp] abbrev zcc (g:Guest):Guest:=g
def zxU:Run:=rF1 (dT .guest) fun b=>(zdj b,[aT .guest (zcc b)])
def zCO (N:Nat)(a0:Guest):OA:=
 (oN (zpL a0.Prog) (oN (zfu a0.Written) (oN (zfu a0.Live) (oN (zdo a0.Seen) (some [(aT .guest ({ a0 with Prog:=(zmi a0.Prog),Written:=(zdE a0.Written),Live:=(zdE a0.Live),Seen:=(zdi a0.Seen) }:Guest))])))))
theorem zQv (a0:Guest)(hc:zdj a0=true):∃N,zCO N a0=some [aT .guest (zcc a0)]:=by
 have hs:=zu.1 hc;obtain ⟨h1,h2,h3,h4⟩:=hs;have hs1:a0.Prog.length<=2147483648:=(by omega);have hs2:a0.Written.length<=2147483648:=(by omega);have hs3:a0.Live.length<=2147483648:=(by omega);have hs4:a0.Seen.length<=2147483648:=(by omega)
 refine ⟨0,?_⟩;unfold zCO oN;refine mu (mu (mu (mu ?_)))
 first|rfl|(simp only [*,zcc,cT,cF]<;>rfl)|simp_all[Ty.cells,zcc]
theorem zIx:uY 249 zxU:=kF1 zfE zi zk zn (zl []) zQv
def zgK (t:List Slot)(p n:Int):Bool:=bif ieq (zdB t p).Page (-1) then false else (cond (enough (zdB t p).Rights n) (win n 1 3) false)
def zcK (t:List Slot)(p n:Int):Int:=bif zgK t p n then (zdB t p).Page else -1
theorem zbar {r:Int}(h:zdX r=true):0<=r/\r<=3:=zfo.1 h
theorem z5U {a n:Int}(h:enough a n=true):win n 1 3 = !ieq n 0:=by
 unfold enough at h;cases h1:zdX a
 .rw [h1]at h;cases h
 .cases h2:zdX n
  .rw [h1,h2]at h;cases h
  .have:=zbar h2;have e:(win n 1 3=true)↔(!ieq n 0)=true:=by
    rw[zfo];simp[ieq];omega
   cases h3:win n 1 3<;>cases h4:(!ieq n 0)<;>simp_all
@[simp] abbrev zkh (t:List Slot)(p n:Int):Bool:=true
@[simp] abbrev zhZ (t:List Slot)(p n:Int):Int:=zcK t p n
@[simp] abbrev zgC (t:List Slot)(p n:Int):Bool:=zgK t p n
def zxS:Run:=rF3 (dS .slot) dI dI fun b c d=>(zkh b c d,[aI (zhZ b c d),aB (zgC b c d)])
def zCM (N:Nat)(a0:lS)(a1 a2:Int):OA:=
 let y0:=(zhB a0 a1); (oN (zjT a0 a1) (cond (ieq y0.Page (-1)) (some [(aI (-1)),(aB false)]) (oN (zdh y0.Rights a2) (cond (nB (zdH y0.Rights a2)) (some [(aI (-1)),(aB false)]) (oN (zbl a2 1 3) (cond (nB (zbp a2 1 3)) (some [(aI (-1)),(aB false)]) (some [(aI y0.Page),(aB true)])))))))
theorem zQt (a0:List Slot)(a1 a2:Int)(hc:zkh a0 a1 a2=true):∃N,zCM N a0 a1 a2=some [aI (zhZ a0 a1 a2),aB (zgC a0 a1 a2)]:=by
 refine ⟨0,?_⟩;unfold zCM oN nB
 conv=>zeta
 refine must rfl (br (fun _=>?_) (fun _=>must rfl (brN (fun _=>?_) (fun _=>must rfl (brN (fun _=>?_) (fun _=>?_))))))
 all_goals first|rfl|(simp only [*,zhZ,zgC,zcK,zgK,cT,cF]<;>rfl)|simp_all[Ty.cells,zhZ,zgC,zcK,zgK]
theorem zIv:uY 262 zxS:=kF3 zfE zi zk zn (zl []) zQt
@[simp] abbrev zt3 (t:List Slot)(p n:Int):Bool:=true
@[simp] abbrev zks (t:List Slot)(p n:Int):Int:=zcK t p n
@[simp] abbrev zkt (t:List Slot)(p n:Int):Bool:=zgK t p n
def zx8:Run:=rF3 (dS .slot) dI dI fun b c d=>(zt3 b c d,[aI (zks b c d),aB (zkt b c d)])
def zC3 (N:Nat)(a0:lS)(a1 a2:Int):OA:=
 let y0:=(zj4 a0 a1); (oN (zqI a0 a1) (cond (ieq y0.Page (-1)) (some [(aI (-1)),(aB false)]) (oN (zgS y0.Rights a2) (cond (nB (zhO y0.Rights a2)) (some [(aI (-1)),(aB false)]) (cond (ieq a2 0) (some [(aI (-1)),(aB false)]) (some [(aI y0.Page),(aB true)]))))))
theorem zQR (a0:List Slot)(a1 a2:Int)(hc:zt3 a0 a1 a2=true):∃N,zC3 N a0 a1 a2=some [aI (zks a0 a1 a2),aB (zkt a0 a1 a2)]:=by
 have he:=@z5U (zdB a0 a1).Rights a2;refine ⟨0,?_⟩;unfold zC3 oN nB
 conv=>zeta
 refine must rfl (br (fun _=>?_) (fun _=>must rfl (brN (fun _=>?_) (fun _=>br (fun _=>?_) (fun _=>?_)))))
 all_goals first|rfl|(simp only [*,zks,zkt,zcK,zgK,cT,cF]<;>rfl)|simp_all[Ty.cells,zks,zkt,zcK,zgK]
theorem zIR:uY 233 zx8:=kF3 zfE zi zk zn (zl []) zQR
def zbbA:zY:=[(346,zhQ),(190,zDs),(249,zxU),(233,zx8),(262,zxS),(304,zLd),(242,zKU),(339,zHh),(344,zGD),(229,zK9),(282,zKQ),(307,zHl),(322,zGJ)]++zbbz
theorem zfF:zJ zbbA:=zf zoR (zf zPx (zf zIx (zf zIR (zf zIv (zf zW0 (zf zWH (zf zTc (zf zSy (zf zWW (zf zWD (zf zTg (zf zSE zfE))))))))))))
@[simp] abbrev zjx (m:List (List Int))(p c v:Int):Bool:=pc (SmM m)
@[simp] abbrev zj5 (m:List (List Int))(p c v:Int):List (List Int):=zem m p c v
def zA1:Run:=rF4 (dS (.sl .int)) dI dI dI fun b c d e=>(zjx b c d e,[aS (.sl .int) (zj5 b c d e)])
def zFj (N:Nat)(a0:lM)(a1 a2 a3:Int):OA:=
 let y0:=(zeo a0); (oN (zf4 a0) (oN (zu3 a0 a1 a2) (cond (zrF a0 a1 a2) (oN (zO a3 0 99) (cond (zT a3 0 99) (oN (inb a1 (ln y0)) (oN (inb a2 (ln (ix y0 a1 []))) (share (up y0 a1 (up (ix y0 a1 []) a2 a3)) (fun x5=>(some [(aS (.sl .int) x5)]))))) (some [(aS (.sl .int) y0)]))) (some [(aS (.sl .int) y0)]))))
theorem zUo (a0:List (List Int))(a1 a2 a3:Int)(hc:zjx a0 a1 a2 a3=true):∃N,zFj N a0 a1 a2 a3=some [aS (.sl .int) (zj5 a0 a1 a2 a3)]:=by
 have hs:=zu.1 hc;have hm:=(zB7 a0 a1 a2).1
 refine ⟨0,?_⟩;unfold zFj oN
 conv=>zeta
 refine mu (must rfl (br (fun _=>must rfl (br (fun _=>mu (mu (shr ?_))) (fun _=>?_))) (fun _=>?_)))
 all_goals first|rfl|(simp only [*,zj5,zem,cT,cF]<;>rfl)|simp_all[Ty.cells,zj5,zem]
theorem zMK:uY 130 zA1:=kF4 zfF zi zk zn (zl []) zUo
@[simp] abbrev ze6 (m:List (List Int))(p c v:Int):Bool:=pc (SmM m)
@[simp] abbrev zfX (m:List (List Int))(p c v:Int):List (List Int):=zem m p c v
def zAz:Run:=rF4 (dS (.sl .int)) dI dI dI fun b c d e=>(ze6 b c d e,[aS (.sl .int) (zfX b c d e)])
def zEN (N:Nat)(a0:lM)(a1 a2 a3:Int):OA:=
 let y0:=(aS (.sl .int) (zde a0)); (oN (zfY a0) (oN (zbx a1 (ln a0)) (cond (zbO a1 (ln a0)) (oN (inb a1 (ln a0)) (oN (zbx a2 (ln (ix a0 a1 []))) (cond (zbO a2 (ln (ix a0 a1 []))) (oN (zbl a3 0 99) (cond (zbp a3 0 99) (oN (inb a1 (ln (zde a0))) (oN (inb a2 (ln (ix (zde a0) a1 []))) (share (up (zde a0) a1 (up (ix (zde a0) a1 []) a2 a3)) (fun x5=>(some [(aS (.sl .int) x5)]))))) (some [y0]))) (some [y0])))) (some [y0]))))
theorem zTN (a0:List (List Int))(a1 a2 a3:Int)(hc:ze6 a0 a1 a2 a3=true):∃N,zEN N a0 a1 a2 a3=some [aS (.sl .int) (zfX a0 a1 a2 a3)]:=by
 have hs:=zu.1 hc;refine ⟨0,?_⟩;unfold zEN oN
 conv=>zeta
 refine mu (must rfl (br (fun _=>mu (must rfl (br (fun _=>must rfl (br (fun _=>mu (mu (shr ?_))) (fun _=>?_))) (fun _=>?_)))) (fun _=>?_)))
 all_goals first|rfl|(simp only [*,zfX,zem,zjq,cT,cF]<;>rfl)|simp_all[Ty.cells,zfX,zem,zjq]
theorem zMd:uY 152 zAz:=kF4 zfF zi zk zn (zl []) zTN
def ziX (g:Guest):Bool:=bif canRun g then (cond g.Ctl.Open (ige (zcR g.Pending) 0) false) else false
@[simp] abbrev zqJ (g:Guest):Bool:=true
@[simp] abbrev zmT (g:Guest):Bool:=ziX g
def zA0:Run:=rF1 (dT .guest) fun b=>(zqJ b,[aB (zmT b)])
def zFi (N:Nat)(a0:Guest):OA:=
 (oN (zuU a0) (cond (zrx a0) (cond a0.Ctl.Open (oN (zu1 a0.Pending) (some [(aB (ige (zoF a0.Pending) 0))])) oF) oF))
theorem zUn (a0:Guest)(hc:zqJ a0=true):∃N,zFi N a0=some [aB (zmT a0)]:=by
 refine ⟨0,?_⟩;unfold zFi oN;refine must rfl (br (fun _=>br (fun _=>must rfl ?_) (fun _=>?_)) (fun _=>?_))
 all_goals first|rfl|(simp only [*,zmT,ziX,cT,cF]<;>rfl)|simp_all[Ty.cells,zmT,ziX]
theorem zMJ:uY 207 zA0:=kF1 zfF zi zk zn (zl []) zUn
@[simp] abbrev zpJ (g:Guest):Bool:=true
@[simp] abbrev zmg (g:Guest):Bool:=ziX g
def zAy:Run:=rF1 (dT .guest) fun b=>(zpJ b,[aB (zmg b)])
def zEM (N:Nat)(a0:Guest):OA:=
 (oN (zur a0) (cond (zq4 a0) (cond a0.Ctl.Open (oN (zuA a0.Pending) (some [(aB (ige (zog a0.Pending) 0))])) oF) oF))
theorem zTM (a0:Guest)(hc:zpJ a0=true):∃N,zEM N a0=some [aB (zmg a0)]:=by
 refine ⟨0,?_⟩;unfold zEM oN;refine must rfl (br (fun _=>br (fun _=>must rfl ?_) (fun _=>?_)) (fun _=>?_))
 all_goals first|rfl|(simp only [*,zmg,ziX,cT,cF]<;>rfl)|simp_all[Ty.cells,zmg,ziX]
theorem zMc:uY 246 zAy:=kF1 zfF zi zk zn (zl []) zTM
def zgv (p:Int):Int:=bif ilt (zcR p) 0 then p else wsub .i64 p (zm8 .i64 1 (zcR p))
def zki (p:Int):Int:=bif ilt (zcR p) 0 then -1 else zcR p
theorem zWw {p:Int}(h:ilt (zcR p) 0=false):wcv .u64 (zcR p)=zcR p/\ile 0 (zcR p)=true/\zCB .i64 p (zm8 .i64 1 (zcR p))=wsub .i64 p (zm8 .i64 1 (zcR p)):=by
 unfold zcR at *;cases h1:zgJ p
 .rw [h1]at h;cases h
 .simp only [h1,cT]at h ⊢;obtain ⟨h0,h2⟩:=zfo.1 h1;have r:=zGh (P:=fun x=>-1<=scan x/\scan x<=7/\(0<=scan x->wsub .i64 x (zm8 .i64 1 (scan x))=zCB .i64 x (zm8 .i64 1 (scan x)))) z1J h0 h2;have h3:0<=scan p:=by
   unfold ilt at h;have:=qW h;omega
  exact ⟨zVe h3 (by omega),qL h3,(r.2.2 h3).symm⟩
@[simp] abbrev zsD (p:Int):Bool:=true
@[simp] abbrev zkS (p:Int):Int:=zgv p
@[simp] abbrev zkT (p:Int):Int:=zki p
@[simp] abbrev znH (p:Int):Bool:=!ilt (zcR p) 0
def zDY:Run:=rF1 dI fun b=>(zsD b,[aI (zkS b),aI (zkT b),aB (znH b)])
def zKk (N:Nat)(a0:Int):OA:=
 (oN (zu1 a0) (cond (ilt (zoF a0) 0) (some [(aI a0),(aI (-1)),(aB false)]) (oN (ile 0 (wcv .u64 (zoF a0))) (some [(aI (wsub .i64 a0 (zm8 .i64 1 (wcv .u64 (zoF a0))))),(aI (zoF a0)),(aB true)]))))
theorem zX8 (a0:Int)(hc:zsD a0=true):∃N,zKk N a0=some [aI (zkS a0),aI (zkT a0),aB (znH a0)]:=by
 have ht:=@zWw a0;refine ⟨0,?_⟩;unfold zKk oN;refine must rfl (br (fun _=>?_) (fun _=>mu ?_))
 all_goals first|rfl|(simp only [*,zkS,zkT,znH,zgv,zki,cT,cF]<;>rfl)|simp_all[Ty.cells,zkS,zkT,znH,zgv,zki]
theorem zP3:uY 210 zDY:=kF1 zfF zi zk zn (zl []) zX8
@[simp] abbrev zr4 (p:Int):Bool:=true
@[simp] abbrev zkD (p:Int):Int:=zgv p
@[simp] abbrev zkE (p:Int):Int:=zki p
@[simp] abbrev znr (p:Int):Bool:=!ilt (zcR p) 0
def zDr:Run:=rF1 dI fun b=>(zr4 b,[aI (zkD b),aI (zkE b),aB (znr b)])
def zJK (N:Nat)(a0:Int):OA:=
 (oN (zuA a0) (cond (ilt (zog a0) 0) (some [(aI a0),(aI (-1)),(aB false)]) (oN (ile 0 (zog a0)) (some [(aI (zCB .i64 a0 (zm8 .i64 1 (zog a0)))),(aI (zog a0)),(aB true)]))))
theorem zXx (a0:Int)(hc:zr4 a0=true):∃N,zJK N a0=some [aI (zkD a0),aI (zkE a0),aB (znr a0)]:=by
 have ht:=@zWw a0;refine ⟨0,?_⟩;unfold zJK oN;refine must rfl (br (fun _=>?_) (fun _=>mu ?_))
 all_goals first|rfl|(simp only [*,zkD,zkE,znr,zgv,zki,cT,cF]<;>rfl)|simp_all[Ty.cells,zkD,zkE,znr,zgv,zki]
theorem zPw:uY 286 zDr:=kF1 zfF zi zk zn (zl []) zXx
def saw (g:Guest)(n:Int):Guest:=bif ilt (ln g.Seen) 40 then { g with Seen:=ap g.Seen [n] } else g
@[simp] theorem zIi {g:Guest}(n:Int)(h:SmG g):SmG (saw g n):=by
 unfold saw;cases h1:ilt (ln g.Seen) 40
 .exact h
 .have:=qD h1;refine ⟨h.1,h.2.1,h.2.2.1,?_⟩;simp[ln] at *;omega
@[simp] abbrev zIc (g:Guest)(n:Int):Bool:=pc (SmG g)
@[simp] abbrev zCn (g:Guest)(n:Int):Guest:=saw g n
def zWq:Run:=rF2 (dT .guest) dI fun b c=>(zIc b c,[aT .guest (zCn b c)])
def z4v (N:Nat)(a0:Guest)(a1:Int):OA:=
 (oN (zc7 a0) (cond (ilt (ln (zcB a0).Seen) 40) (oN (few (ln (ap (zcB a0).Seen [a1]))) (some [(aT .guest ({ (zcB a0) with Seen:=(ap (zcB a0).Seen [a1]) }:Guest))])) (some [(aT .guest (zcB a0))])))
theorem z8l (a0:Guest)(a1:Int)(hc:zIc a0 a1=true):∃N,z4v N a0 a1=some [aT .guest (zCn a0 a1)]:=by
 have hs:=zu.1 hc;have hz:a0.Seen.length<=1048576:=hs.2.2.2
 refine ⟨0,?_⟩;unfold z4v oN;refine mu (br (fun _=>mu ?_) (fun _=>?_))
 all_goals first|rfl|(simp only [*,zCn,saw,cT,cF]<;>rfl)|simp_all[Ty.cells,zCn,saw]
theorem z2Z:uY 211 zWq:=kF2 zfF zi zk zn (zl []) z8l
@[simp] abbrev zHY (g:Guest)(n:Int):Bool:=pc (SmG g)
@[simp] abbrev zBU (g:Guest)(n:Int):Guest:=saw g n
def zWn:Run:=rF2 (dT .guest) dI fun b c=>(zHY b c,[aT .guest (zBU b c)])
def z4s (N:Nat)(a0:Guest)(a1:Int):OA:=
 (oN (zdj a0) (cond (ilt (ln a0.Seen) 40) (oN (few (ln (ap (zcc a0).Seen [a1]))) (some [(aT .guest ({ (zcc a0) with Seen:=(ap (zcc a0).Seen [a1]) }:Guest))])) (some [(aT .guest (zcc a0))])))
theorem z8i (a0:Guest)(a1:Int)(hc:zHY a0 a1=true):∃N,z4s N a0 a1=some [aT .guest (zBU a0 a1)]:=by
 have hs:=zu.1 hc;have hz:a0.Seen.length<=1048576:=hs.2.2.2
 refine ⟨0,?_⟩;unfold z4s oN;refine mu (br (fun _=>mu ?_) (fun _=>?_))
 all_goals first|rfl|(simp only [*,zBU,saw,cT,cF]<;>rfl)|simp_all[Ty.cells,zBU,saw]
theorem z2W:uY 251 zWn:=kF2 zfF zi zk zn (zl []) z8i
def stopped (g:Guest)(e:GExit):Guest:={ g with Exit:=e }
@[simp] theorem z4j {g:Guest}(e:GExit)(h:SmG g):SmG (stopped g e):=h
@[simp] abbrev zd4 (g:Guest)(e:GExit):Bool:=pc (SmG g)
@[simp] abbrev zdw (g:Guest)(e:GExit):Guest:=stopped g e
def zDW:Run:=rF2 (dT .guest) dE fun b c=>(zd4 b c,[aT .guest (zdw b c)])
def zKi (N:Nat)(a0:Guest)(a1:GExit):OA:=
 (oN (zc7 a0) (some [(aT .guest ({ (zcB a0) with Exit:=a1 }:Guest))]))
theorem zX6 (a0:Guest)(a1:GExit)(hc:zd4 a0 a1=true):∃N,zKi N a0 a1=some [aT .guest (zdw a0 a1)]:=by
 have hs:=zu.1 hc;refine ⟨0,?_⟩;unfold zKi oN;refine mu ?_
 first|rfl|(simp only [*,zdw,stopped,cT,cF]<;>rfl)|simp_all[Ty.cells,zdw,stopped]
theorem zP1:uY 215 zDW:=kF2 zfF zi zk zn (zl []) zX6
@[simp] abbrev zdD (g:Guest)(e:GExit):Bool:=pc (SmG g)
@[simp] abbrev zeP (g:Guest)(e:GExit):Guest:=stopped g e
def zDp:Run:=rF2 (dT .guest) dE fun b c=>(zdD b c,[aT .guest (zeP b c)])
def zJI (N:Nat)(a0:Guest)(a1:GExit):OA:=
 (oN (zdj a0) (some [(aT .guest ({ (zcc a0) with Exit:=a1 }:Guest))]))
theorem zXv (a0:Guest)(a1:GExit)(hc:zdD a0 a1=true):∃N,zJI N a0 a1=some [aT .guest (zeP a0 a1)]:=by
 have hs:=zu.1 hc;refine ⟨0,?_⟩;unfold zJI oN;refine mu ?_
 first|rfl|(simp only [*,zeP,stopped,cT,cF]<;>rfl)|simp_all[Ty.cells,zeP,stopped]
theorem zPu:uY 150 zDp:=kF2 zfF zi zk zn (zl []) zXv
def zbM (g:Guest):Guest:=bif ige g.Pc 12 then { g with Pc:=12 } else { g with Pc:=zB .i64 g.Pc 1 }
@[simp] theorem zjJ {g:Guest}(h:SmG g):SmG (zbM g):=by
 unfold zbM;cases ige g.Pc 12<;>exact h
@[simp] abbrev zdY (g:Guest):Bool:=pc (SmG g)
@[simp] abbrev zgw (g:Guest):Guest:=zbM g
def zLf:Run:=rF1 (dT .guest) fun b=>(zdY b,[aT .guest (zgw b)])
def zVE (N:Nat)(a0:Guest):OA:=
 (oN (zc7 a0) (cond (ige (zcB a0).Pc 12) (some [(aT .guest ({ (zcB a0) with Pc:=12 }:Guest))]) (some [(aT .guest ({ (zcB a0) with Pc:=(zB .i64 (zcB a0).Pc 1) }:Guest))])))
theorem z3B (a0:Guest)(hc:zdY a0=true):∃N,zVE N a0=some [aT .guest (zgw a0)]:=by
 have hs:=zu.1 hc;refine ⟨0,?_⟩;unfold zVE oN;refine mu (br (fun _=>?_) (fun _=>?_))
 all_goals first|rfl|(simp only [*,zgw,zbM,cT,cF]<;>rfl)|simp_all[Ty.cells,zgw,zbM]
theorem zW2:uY 212 zLf:=kF1 zfF zi zk zn (zl []) z3B
@[simp] abbrev zdd (g:Guest):Bool:=pc (SmG g)
@[simp] abbrev zcU (g:Guest):Guest:=zbM g
def zKX:Run:=rF1 (dT .guest) fun b=>(zdd b,[aT .guest (zcU b)])
def zVp (N:Nat)(a0:Guest):OA:=
 (oN (zdj a0) (cond (ige a0.Pc 12) (some [(aT .guest ({ (zcc a0) with Pc:=12 }:Guest))]) (some [(aT .guest ({ (zcc a0) with Pc:=(zB .i64 a0.Pc 1) }:Guest))])))
theorem z3j (a0:Guest)(hc:zdd a0=true):∃N,zVp N a0=some [aT .guest (zcU a0)]:=by
 have hs:=zu.1 hc;refine ⟨0,?_⟩;unfold zVp oN;refine mu (br (fun _=>?_) (fun _=>?_))
 all_goals first|rfl|(simp only [*,zcU,zbM,cT,cF]<;>rfl)|simp_all[Ty.cells,zcU,zbM]
theorem zWK:uY 250 zKX:=kF1 zfF zi zk zn (zl []) z3j
def zbbB:zY:=[(130,zA1),(152,zAz),(207,zA0),(246,zAy),(210,zDY),(286,zDr),(211,zWq),(251,zWn),(215,zDW),(150,zDp),(212,zLf),(250,zKX)]++zbbA
theorem zek:zJ zbbB:=zf zMK (zf zMd (zf zMJ (zf zMc (zf zP3 (zf zPw (zf z2Z (zf z2W (zf zP1 (zf zPu (zf zW2 (zf zWK zfF)))))))))))
def interrupted (g:Guest):Guest:=bif ziX g then saw { g with Pending:=zgv g.Pending } (zB .i64 100 (zki g.Pending)) else g
@[simp] theorem z5c {g:Guest}(h:SmG g):SmG (interrupted g):=by
 unfold interrupted;cases ziX g
 .exact h
 .exact zIi (g:={ g with Pending:=zgv g.Pending }) _ h
@[simp] abbrev zqC (g:Guest):Bool:=pc (SmG g)
@[simp] abbrev zkr (g:Guest):Guest:=interrupted g
def zuh:Run:=rF1 (dT .guest) fun b=>(zqC b,[aT .guest (zkr b)])
def zxc (N:Nat)(a0:Guest):OA:=
 let y1:=(zB .i64 100 (zkT a0.Pending));let y0:=({ a0 with Pending:=(zkS a0.Pending) }:Guest); (oN (zqJ a0) (cond (nB (zmT a0)) (oN (zc7 a0) (some [(aT .guest (zcB a0))])) (oN (zsD a0.Pending) (oN (zIc y0 y1) (some [(aT .guest (zCn y0 y1))])))))
theorem zJd (a0:Guest)(hc:zqC a0=true):∃N,zxc N a0=some [aT .guest (zkr a0)]:=by
 have hs:=zu.1 hc;have hz:_/\_/\_/\_:=hs
 refine ⟨0,?_⟩;unfold zxc oN nB
 conv=>zeta
 refine must rfl (brN (fun _=>mu ?_) (fun _=>must rfl (mu ?_)))
 all_goals first|rfl|(simp only [*,zkr,interrupted,cT,cF]<;>rfl)|simp_all[Ty.cells,zkr,interrupted]
theorem zEs:uY 112 zuh:=kF1 zek zi zk zn (zl []) zJd
@[simp] abbrev zpz (g:Guest):Bool:=pc (SmG g)
@[simp] abbrev zhY (g:Guest):Guest:=interrupted g
def zue:Run:=rF1 (dT .guest) fun b=>(zpz b,[aT .guest (zhY b)])
def zw1 (N:Nat)(a0:Guest):OA:=
 let y1:=(zB .i64 100 (zkE a0.Pending));let y0:=({ a0 with Pending:=(zkD a0.Pending) }:Guest); (oN (zpJ a0) (cond (nB (zmg a0)) (oN (zdj a0) (some [(aT .guest (zcc a0))])) (oN (zr4 a0.Pending) (oN (zHY y0 y1) (some [(aT .guest (zBU y0 y1))])))))
theorem zI2 (a0:Guest)(hc:zpz a0=true):∃N,zw1 N a0=some [aT .guest (zhY a0)]:=by
 have hs:=zu.1 hc;have hz:_/\_/\_/\_:=hs
 refine ⟨0,?_⟩;unfold zw1 oN nB
 conv=>zeta
 refine must rfl (brN (fun _=>mu ?_) (fun _=>must rfl (mu ?_)))
 all_goals first|rfl|(simp only [*,zhY,interrupted,cT,cF]<;>rfl)|simp_all[Ty.cells,zhY,interrupted]
theorem zEi:uY 260 zue:=kF1 zek zi zk zn (zl []) zI2
def zAi (o:Int):Int:=bif ieq o 3 then 3 else (cond (ieq o 4) 4 (cond (ieq o 5) 5 (cond (ieq o 6) 6 (cond (ieq o 7) 7 2))))
def zG (g:Guest):Int:=bif canRun g then (cond (ziX g) 1 (zAi (zdC g.Prog g.Pc).Op)) else 0
@[simp] abbrev zeF (g:Guest):Bool:=true
@[simp] abbrev zoG (g:Guest):Int:=zG g
def zHn:Run:=rF1 (dT .guest) fun b=>(zeF b,[aI (zoG b)])
def zOH (N:Nat)(a0:Guest):OA:=
 let y0:=(zfR a0.Prog a0.Pc).Op; (oN (zuU a0) (cond (nB (zrx a0)) (some [(aI 0)]) (oN (zqJ a0) (cond (zmT a0) (some [(aI 1)]) (oN (zfw a0.Prog a0.Pc) (cond (ieq y0 3) (some [(aI 3)]) (cond (ieq y0 4) (some [(aI 4)]) (cond (ieq y0 5) (some [(aI 5)]) (cond (ieq y0 6) (some [(aI 6)]) (cond (ieq y0 7) (some [(aI 7)]) (some [(aI 2)])))))))))))
theorem z1f (a0:Guest)(hc:zeF a0=true):∃N,zOH N a0=some [aI (zoG a0)]:=by
 refine ⟨0,?_⟩;unfold zOH oN nB
 conv=>zeta
 refine must rfl (brN (fun _=>?_) (fun _=>must rfl (br (fun _=>?_) (fun _=>must rfl (br (fun _=>?_) (fun _=>br (fun _=>?_) (fun _=>br (fun _=>?_) (fun _=>br (fun _=>?_) (fun _=>br (fun _=>?_) (fun _=>?_))))))))))
 all_goals first|rfl|(simp only [*,zoG,zG,zAi,cT,cF]<;>rfl)|simp_all[Ty.cells,zoG,zG,zAi]
theorem zb5:uY 111 zHn:=kF1 zek zi zk zn (zl []) z1f
@[simp] abbrev zjU (g:Guest):Bool:=true
@[simp] abbrev zhC (g:Guest):Int:=zG g
def zGL:Run:=rF1 (dT .guest) fun b=>(zjU b,[aI (zhC b)])
def zN5 (N:Nat)(a0:Guest):OA:=
 let y0:=(zgt a0.Prog a0.Pc).Op; (oN (zur a0) (cond (nB (zq4 a0)) (some [(aI 0)]) (oN (zpJ a0) (cond (zmg a0) (some [(aI 1)]) (oN (zgi a0.Prog a0.Pc) (cond (ieq y0 3) (some [(aI 3)]) (cond (ieq y0 4) (some [(aI 4)]) (cond (ieq y0 5) (some [(aI 5)]) (cond (ieq y0 6) (some [(aI 6)]) (cond (ieq y0 7) (some [(aI 7)]) (some [(aI 2)])))))))))))
theorem z0B (a0:Guest)(hc:zjU a0=true):∃N,zN5 N a0=some [aI (zhC a0)]:=by
 refine ⟨0,?_⟩;unfold zN5 oN nB
 conv=>zeta
 refine must rfl (brN (fun _=>?_) (fun _=>must rfl (br (fun _=>?_) (fun _=>must rfl (br (fun _=>?_) (fun _=>br (fun _=>?_) (fun _=>br (fun _=>?_) (fun _=>br (fun _=>?_) (fun _=>br (fun _=>?_) (fun _=>?_))))))))))
 all_goals first|rfl|(simp only [*,zhC,zG,zAi,cT,cF]<;>rfl)|simp_all[Ty.cells,zhC,zG,zAi]
theorem zSG:uY 145 zGL:=kF1 zek zi zk zn (zl []) z0B
def held (g:Guest):Guest:=zbM { g with Halted:=true }
@[simp] theorem z1M {g:Guest}(h:SmG g):SmG (held g):=zjJ (g:={ g with Halted:=true }) h
@[simp] abbrev zoD (g:Guest):Bool:=pc (SmG g)
@[simp] abbrev zA6 (g:Guest):Guest:=held g
def zRp:Run:=rF1 (dT .guest) fun b=>(zoD b,[aT .guest (zA6 b)])
def zY8 (N:Nat)(a0:Guest):OA:=
 let y0:=({ a0 with Halted:=true }:Guest); (oN (zdY y0) (some [(aT .guest (zgw y0))]))
theorem z6y (a0:Guest)(hc:zoD a0=true):∃N,zY8 N a0=some [aT .guest (zA6 a0)]:=by
 have hs:=zu.1 hc;have hz:_/\_/\_/\_:=hs
 refine ⟨0,?_⟩;unfold zY8 oN
 conv=>zeta
 refine mu ?_
 first|rfl|(simp only [*,zA6,held,cT,cF]<;>rfl)|simp_all[Ty.cells,zA6,held]
theorem zZ1:uY 227 zRp:=kF1 zek zi zk zn (zl []) z6y
@[simp] abbrev zjR (g:Guest):Bool:=pc (SmG g)
@[simp] abbrev zjc (g:Guest):Guest:=held g
def zRm:Run:=rF1 (dT .guest) fun b=>(zjR b,[aT .guest (zjc b)])
def zY4 (N:Nat)(a0:Guest):OA:=
 let y0:=({ a0 with Halted:=true }:Guest); (oN (zdd y0) (some [(aT .guest (zcU y0))]))
theorem z6t (a0:Guest)(hc:zjR a0=true):∃N,zY4 N a0=some [aT .guest (zjc a0)]:=by
 have hs:=zu.1 hc;have hz:_/\_/\_/\_:=hs
 refine ⟨0,?_⟩;unfold zY4 oN
 conv=>zeta
 refine mu ?_
 first|rfl|(simp only [*,zjc,held,cT,cF]<;>rfl)|simp_all[Ty.cells,zjc,held]
theorem zZW:uY 255 zRm:=kF1 zek zi zk zn (zl []) z6t
@[simp] abbrev zCo (g:Guest):Bool:=pc (SmG g)
@[simp] abbrev zwR (g:Guest):Guest:=zbM g
def zHk:Run:=rF1 (dT .guest) fun b=>(zCo b,[aT .guest (zwR b)])
def zOE (N:Nat)(a0:Guest):OA:=
 (oN (zdY a0) (some [(aT .guest (zgw a0))]))
theorem z1c (a0:Guest)(hc:zCo a0=true):∃N,zOE N a0=some [aT .guest (zwR a0)]:=by
 have hs:=zu.1 hc;refine ⟨0,?_⟩;unfold zOE oN;refine mu ?_
 first|rfl|(simp only [*,zwR,cT,cF]<;>rfl)|simp_all[Ty.cells,zwR]
theorem zTf:uY 217 zHk:=kF1 zek zi zk zn (zl []) z1c
@[simp] abbrev zpI (g:Guest):Bool:=pc (SmG g)
@[simp] abbrev zlz (g:Guest):Guest:=zbM g
def zGI:Run:=rF1 (dT .guest) fun b=>(zpI b,[aT .guest (zlz b)])
def zN2 (N:Nat)(a0:Guest):OA:=
 (oN (zdd a0) (some [(aT .guest (zcU a0))]))
theorem z0y (a0:Guest)(hc:zpI a0=true):∃N,zN2 N a0=some [aT .guest (zlz a0)]:=by
 have hs:=zu.1 hc;refine ⟨0,?_⟩;unfold zN2 oN;refine mu ?_
 first|rfl|(simp only [*,zlz,cT,cF]<;>rfl)|simp_all[Ty.cells,zlz]
theorem zSD:uY 154 zGI:=kF1 zek zi zk zn (zl []) z0y
def loaded (g:Guest)(v:Int):Guest:=zbM (saw { g with A:=v } v)
@[simp] theorem zRv {g:Guest}(v:Int)(h:SmG g):SmG (loaded g v):=zjJ (zIi (g:={ g with A:=v }) v h)
@[simp] abbrev zCi (g:Guest)(v:Int):Bool:=pc (SmG g)
@[simp] abbrev zwO (g:Guest)(v:Int):Guest:=loaded g v
def zG9:Run:=rF2 (dT .guest) dI fun b c=>(zCi b c,[aT .guest (zwO b c)])
def zOu (N:Nat)(a0:Guest)(a1:Int):OA:=
 let y0:=({ a0 with A:=a1 }:Guest); (oN (zIc y0 a1) (oN (zdY (zCn y0 a1)) (some [(aT .guest (zgw (zCn y0 a1)))])))
theorem z00 (a0:Guest)(a1:Int)(hc:zCi a0 a1=true):∃N,zOu N a0 a1=some [aT .guest (zwO a0 a1)]:=by
 have hs:=zu.1 hc;have hz:_/\_/\_/\_:=hs;have hk:SmG (saw { a0 with A:=a1 } a1):=zIi (g:={ a0 with A:=a1 }) a1 hs
 refine ⟨0,?_⟩;unfold zOu oN
 conv=>zeta
 refine mu (mu ?_)
 first|rfl|(simp only [*,zwO,loaded,cT,cF]<;>rfl)|simp_all[Ty.cells,zwO,loaded]
theorem zS4:uY 218 zG9:=kF2 zek zi zk zn (zl []) z00
@[simp] abbrev zpC (g:Guest)(v:Int):Bool:=pc (SmG g)
@[simp] abbrev zlv (g:Guest)(v:Int):Guest:=loaded g v
def zGt:Run:=rF2 (dT .guest) dI fun b c=>(zpC b c,[aT .guest (zlv b c)])
def zNO (N:Nat)(a0:Guest)(a1:Int):OA:=
 let y0:=({ a0 with A:=a1 }:Guest); (oN (zHY y0 a1) (oN (zdd (zBU y0 a1)) (some [(aT .guest (zcU (zBU y0 a1)))])))
theorem z0i (a0:Guest)(a1:Int)(hc:zpC a0 a1=true):∃N,zNO N a0 a1=some [aT .guest (zlv a0 a1)]:=by
 have hs:=zu.1 hc;have hz:_/\_/\_/\_:=hs;have hk:SmG (saw { a0 with A:=a1 } a1):=zIi (g:={ a0 with A:=a1 }) a1 hs
 refine ⟨0,?_⟩;unfold zNO oN
 conv=>zeta
 refine mu (mu ?_)
 first|rfl|(simp only [*,zlv,loaded,cT,cF]<;>rfl)|simp_all[Ty.cells,zlv,loaded]
theorem zSo:uY 155 zGt:=kF2 zek zi zk zn (zl []) z0i
def zrJ (g:Guest)(w:Int):Guest:=bif ieq w 5 then stopped g (zH5 (zdC g.Prog g.Pc).X) else stopped g ⟨4,0,false,0⟩
@[simp] theorem zbeA {g:Guest}(w:Int)(h:SmG g):SmG (zrJ g w):=by
 unfold zrJ;cases ieq w 5<;>exact h
@[simp] abbrev znt (g:Guest)(w:Int):Bool:=pc (SmG g)
@[simp] abbrev zjE (g:Guest)(w:Int):Guest:=zrJ g w
def zDv:Run:=rF2 (dT .guest) dI fun b c=>(znt b c,[aT .guest (zjE b c)])
def zJO (N:Nat)(a0:Guest)(a1:Int):OA:=
 let y0:=(zgt a0.Prog a0.Pc).X; (cond (ieq a1 5) (oN (zgi a0.Prog a0.Pc) (oN (zyZ y0) (oN (zdD a0 (zoU y0)) (some [(aT .guest (zeP a0 (zoU y0)))])))) (oN (zdD a0 (⟨4,0,false,0⟩:GExit)) (some [(aT .guest (zeP a0 (⟨4,0,false,0⟩:GExit)))])))
theorem zXB (a0:Guest)(a1:Int)(hc:znt a0 a1=true):∃N,zJO N a0 a1=some [aT .guest (zjE a0 a1)]:=by
 have hs:=zu.1 hc;refine ⟨0,?_⟩;unfold zJO oN
 conv=>zeta
 refine br (fun _=>must rfl (must rfl (mu ?_))) (fun _=>mu ?_)
 all_goals first|rfl|(simp only [*,zjE,zrJ,cT,cF]<;>rfl)|simp_all[Ty.cells,zjE,zrJ]
theorem zPA:uY 254 zDv:=kF2 zek zi zk zn (zl []) zXB
def zdl (g:Guest):Bool:=zlO g.Prog&&(win g.A 0 99&&(win g.Pc 0 12&&(zdy g.Written 4 8&&(zdy g.Live 4 8&&(zk3 g.Ctl&&(zgJ g.Pending&&(zvI g.Exit&&ile (ln g.Seen) 40)))))))
@[simp] abbrev znC (g:Guest):Bool:=true
@[simp] abbrev zlS (g:Guest):Bool:=zdl g
def zDH:Run:=rF1 (dT .guest) fun b=>(znC b,[aB (zlS b)])
def zJ4 (N:Nat)(a0:Guest):OA:=
 (oN (zCm a0.Prog) (cond (zoE a0.Prog) (oN (zO a0.A 0 99) (cond (zT a0.A 0 99) (oN (zO a0.Pc 0 12) (cond (zT a0.Pc 0 12) (oN (znG a0.Written 4 8) (cond (ziv a0.Written 4 8) (oN (znG a0.Live 4 8) (cond (ziv a0.Live 4 8) (oN (zti a0.Ctl) (cond (zrz a0.Ctl) (oN (zfk a0.Pending) (cond (zfj a0.Pending) (oN (zCh a0.Exit) (cond (zwJ a0.Exit) (some [(aB (ile (ln a0.Seen) 40))]) oF)) oF)) oF)) oF)) oF)) oF)) oF)) oF))
theorem zXR (a0:Guest)(hc:znC a0=true):∃N,zJ4 N a0=some [aB (zlS a0)]:=by
 refine ⟨0,?_⟩;unfold zJ4 oN;refine must rfl (br (fun _=>must rfl (br (fun _=>must rfl (br (fun _=>must rfl (br (fun _=>must rfl (br (fun _=>must rfl (br (fun _=>must rfl (br (fun _=>must rfl (br (fun _=>?_) (fun _=>?_))) (fun _=>?_))) (fun _=>?_))) (fun _=>?_))) (fun _=>?_))) (fun _=>?_))) (fun _=>?_))) (fun _=>?_))
 all_goals first|rfl|(simp only [*,zlS,zdl,cT,cF]<;>rfl)|simp_all[Ty.cells,zlS,zdl]
theorem zPM:uY 313 zDH:=kF1 zek zi zk zn (zl []) zXR
@[simp] abbrev zng (g:Guest):Bool:=true
@[simp] abbrev zlr (g:Guest):Bool:=zdl g
def zDb:Run:=rF1 (dT .guest) fun b=>(zng b,[aB (zlr b)])
def zJv (N:Nat)(a0:Guest):OA:=
 (oN (zBT a0.Prog) (cond (zof a0.Prog) (oN (zbl a0.A 0 99) (cond (zbp a0.A 0 99) (oN (zbl a0.Pc 0 12) (cond (zbp a0.Pc 0 12) (oN (znq a0.Written 4 8) (cond (zil a0.Written 4 8) (oN (znq a0.Live 4 8) (cond (zil a0.Live 4 8) (oN (zsW a0.Ctl) (cond (zq6 a0.Ctl) (oN (zij a0.Pending) (cond (ziK a0.Pending) (oN (zBN a0.Exit) (cond (zvZ a0.Exit) (some [(aB (ile (ln a0.Seen) 40))]) oF)) oF)) oF)) oF)) oF)) oF)) oF)) oF))
theorem zXh (a0:Guest)(hc:zng a0=true):∃N,zJv N a0=some [aB (zlr a0)]:=by
 refine ⟨0,?_⟩;unfold zJv oN;refine must rfl (br (fun _=>must rfl (br (fun _=>must rfl (br (fun _=>must rfl (br (fun _=>must rfl (br (fun _=>must rfl (br (fun _=>must rfl (br (fun _=>must rfl (br (fun _=>?_) (fun _=>?_))) (fun _=>?_))) (fun _=>?_))) (fun _=>?_))) (fun _=>?_))) (fun _=>?_))) (fun _=>?_))) (fun _=>?_))
 all_goals first|rfl|(simp only [*,zlr,zdl,cT,cF]<;>rfl)|simp_all[Ty.cells,zlr,zdl]
theorem zPg:uY 321 zDb:=kF1 zek zi zk zn (zl []) zXh
@[simp] abbrev zcg (l:List Guest):Bool:=pc (zm0 l)
@[simp] abbrev zcH (l:List Guest):List Guest:=l
def zww:Run:=rF1 (dS .guest) fun b=>(zcg b,[aS .guest (zcH b)])
def zzF (N:Nat)(a0:lG):OA:=
 (iter (σ:=(Int×(Int×(lG×(lG×Unit))))) N (fun r2 s3=>let y0:=(ix s3.2.2.2.1 s3.2.1 zo); (cond (ilt s3.2.1 s3.1) (oN (inb s3.2.1 (ln s3.2.2.2.1)) (oN (zdj y0) (oN (few (ln (ap s3.2.2.1 [(zcc y0)]))) (r2 (s3.1,((zB .i64 s3.2.1 1),((ap s3.2.2.1 [(zcc y0)]),(s3.2.2.2.1,())))))))) (some [(aS .guest s3.2.2.1)]))) ((ln a0),(0,([],(a0,())))))
def zNz:FuncId->Nat->Option Tmpl:=zl [(267,0,{ n:=20,tm:=[(3,.sl 0 []),(7,.sl 1 []),(8,ti),(9,ti)],lo:=[],ro:=[(0,.guest,true),(1,.guest,false)] })]
theorem zM3 (a0:List Guest)(hc:zcg a0=true):∃N,zzF N a0=some [aS .guest (zcH a0)]:=by
 have hs:=zu.1 hc;have hl:=zb2 hs.1;refine zbo fun N hNN=>?_;unfold zzF oN
 conv=>zeta
 refine (zbc a0 (fun i (t:lG)=>((ln a0),(i:Int),t,a0,())) _ (fun _ x acc κ=>bif zdj x then (cond (few (ln (ap acc [zcc x]))) (κ (ap acc [zcc x])) none) else none) (fun (t:lG)=>(some [(.one (.s .guest t))])) (fun i hi t rec=>?_) (fun t rec=>?_) _ ([]) (hNN hl.1)).trans ?_
 .simp only [zU hi,zK hi,zS hi,zL hi hl.1,cT]
 .simp only [zQ,cF]
 exact zjK zdj zcc _ a0 0 [] (fun x hx=>⟨by exact zD (hs.2 x hx),rfl⟩) (by simpa using hl.2)
theorem zFQ:uY 267 zww:=kF1 zek zi zk zn zNz zM3
def gAt (b:Bare)(i:Int):Guest:=bif hasB i (ln b.Guests) then ix b.Guests i zo else Ty.dflt .guest
@[simp] theorem zey {b:Bare}(i:Int)(h:SmB b):SmG (gAt b i):=by
 unfold gAt;cases hh:hasB i (ln b.Guests)
 .exact zbe1
 .exact z1N h.2.1 hh _
@[simp] abbrev zc4 (b:Bare)(i:Int):Bool:=pc (SmB b)
@[simp] abbrev zc2 (b:Bare)(i:Int):Guest:=gAt b i
@[simp] abbrev zc3 (b:Bare)(i:Int):Bool:=hasB i (ln b.Guests)
def zDa:Run:=rF2 (dT .bare) dI fun b c=>(zc4 b c,[aT .guest (zc2 b c),aB (zc3 b c)])
def zJu (N:Nat)(a0:Bare)(a1:Int):OA:=
 let y0:=(ix a0.Guests a1 zo); (oN (zbx a1 (ln a0.Guests)) (cond (nB (zbO a1 (ln a0.Guests))) (some [(aT .guest (⟨[],0,0,[],[],⟨0,0,false⟩,0,⟨0,0,false,0⟩,false,[]⟩:Guest)),(aB false)]) (oN (inb a1 (ln a0.Guests)) (oN (zdj y0) (some [(aT .guest (zcc y0)),(aB true)])))))
theorem zXg (a0:Bare)(a1:Int)(hc:zc4 a0 a1=true):∃N,zJu N a0 a1=some [aT .guest (zc2 a0 a1),aB (zc3 a0 a1)]:=by
 have hs:=zu.1 hc;have hl:a0.Guests.length<=1048576:=hs.2.1.1;have hx:hasB a1 (ln a0.Guests)=true->SmG (ix a0.Guests a1 zo):=fun h=>z1N hs.2.1 h _
 refine ⟨0,?_⟩;unfold zJu oN nB
 conv=>zeta
 refine must rfl (brN (fun _=>?_) (fun _=>mu (mu ?_)))
 all_goals first|rfl|(simp only [*,zc2,zc3,gAt,Ty.dflt,cT,cF]<;>rfl)|simp_all[Ty.cells,zc2,zc3,gAt,Ty.dflt]
theorem zPf:uY 256 zDa:=kF2 zek zi zk zn (zl []) zXg
def zbbC:zY:=[(112,zuh),(260,zue),(111,zHn),(145,zGL),(227,zRp),(255,zRm),(217,zHk),(154,zGI),(218,zG9),(155,zGt),(254,zDv),(313,zDH),(321,zDb),(267,zww),(256,zDa)]++zbbB
theorem ziB:zJ zbbC:=zf zEs (zf zEi (zf zb5 (zf zSG (zf zZ1 (zf zZW (zf zTf (zf zSD (zf zS4 (zf zSo (zf zPA (zf zPM (zf zPg (zf zFQ (zf zPf zek))))))))))))))
def plainly (g:Guest):Guest:=bif ine (zG g) 2 then g else (cond (win g.A 0 99) (cond (win (zdC g.Prog g.Pc).X 0 99) (cond (ieq (zdC g.Prog g.Pc).Op 1) { zbM g with A:=(zdC g.Prog g.Pc).X } (cond (ieq (zdC g.Prog g.Pc).Op 2) { zbM g with A:=zfU (zB .i64 g.A (zdC g.Prog g.Pc).X) 100 } (cond (ieq (zdC g.Prog g.Pc).Op 8) (cond (ieq g.A 0) { zbM g with Pc:=(zdC g.Prog g.Pc).X } (zbM g)) (zbM g)))) (zbM g)) (zbM g))
@[simp] theorem zbeV (g:Guest):(zbM g).Prog=g.Prog:=by
 unfold zbM;cases ige g.Pc 12<;>rfl
@[simp] theorem zbfu (g:Guest):(zbM g).A=g.A:=by
 unfold zbM;cases ige g.Pc 12<;>rfl
@[simp] theorem zbdt (g:Guest):(zbM g).Written=g.Written:=by
 unfold zbM;cases ige g.Pc 12<;>rfl
@[simp] theorem zbeU (g:Guest):(zbM g).Live=g.Live:=by
 unfold zbM;cases ige g.Pc 12<;>rfl
@[simp] theorem zbe8 (g:Guest):(zbM g).Ctl=g.Ctl:=by
 unfold zbM;cases ige g.Pc 12<;>rfl
@[simp] theorem zbds (g:Guest):(zbM g).Pending=g.Pending:=by
 unfold zbM;cases ige g.Pc 12<;>rfl
@[simp] theorem zbeT (g:Guest):(zbM g).Exit=g.Exit:=by
 unfold zbM;cases ige g.Pc 12<;>rfl
@[simp] theorem zbed (g:Guest):(zbM g).Halted=g.Halted:=by
 unfold zbM;cases ige g.Pc 12<;>rfl
@[simp] theorem zbeW (g:Guest):(zbM g).Seen=g.Seen:=by
 unfold zbM;cases ige g.Pc 12<;>rfl
@[simp] theorem zbe9 (g:Guest)(x:Int):(zbM { g with A:=x }).Pc=(zbM g).Pc:=by
 unfold zbM;cases ige g.Pc 12<;>rfl
@[simp] theorem zLp {g:Guest}(h:SmG g):SmG (plainly g):=by
 have hm:=zjJ h;unfold plainly;cases ine (zG g) 2
 .cases win g.A 0 99
  .exact hm
  .cases win (zdC g.Prog g.Pc).X 0 99
   .exact hm
   .cases ieq (zdC g.Prog g.Pc).Op 1
    .cases ieq (zdC g.Prog g.Pc).Op 2
     .cases ieq (zdC g.Prog g.Pc).Op 8
      .exact hm
      .cases ieq g.A 0<;>exact hm
     .exact hm
    .exact hm
 .exact h
@[simp] abbrev zy2 (g:Guest):Bool:=pc (SmG g)
@[simp] abbrev zoW (g:Guest):Guest:=plainly g
def zDn:Run:=rF1 (dT .guest) fun b=>(zy2 b,[aT .guest (zoW b)])
def zJG (N:Nat)(a0:Guest):OA:=
 let y1:=(aT .guest (zcU a0));let y0:=(zgt a0.Prog a0.Pc); (oN (zjU a0) (cond (ine (zhC a0) 2) (oN (zdj a0) (some [(aT .guest (zcc a0))])) (oN (zgi a0.Prog a0.Pc) (oN (zdd a0) (oN (zbl a0.A 0 99) (cond (nB (zbp a0.A 0 99)) (some [y1]) (oN (zbl y0.X 0 99) (cond (nB (zbp y0.X 0 99)) (some [y1]) (cond (ieq y0.Op 1) (some [(aT .guest ({ (zcU a0) with A:=y0.X }:Guest))]) (cond (ieq y0.Op 2) (oN (ine 100 0) (some [(aT .guest ({ (zcU a0) with A:=(zfU (zB .i64 a0.A y0.X) 100) }:Guest))])) (cond (ieq y0.Op 8) (cond (ieq a0.A 0) (some [(aT .guest ({ (zcU a0) with Pc:=y0.X }:Guest))]) (some [y1])) (some [y1]))))))))))))
theorem zXt (a0:Guest)(hc:zy2 a0=true):∃N,zJG N a0=some [aT .guest (zoW a0)]:=by
 have hs:=zu.1 hc;refine ⟨0,?_⟩;unfold zJG oN nB
 conv=>zeta
 refine must rfl (br (fun _=>mu ?_) (fun _=>must rfl (mu (must rfl (brN (fun _=>?_) (fun _=>must rfl (brN (fun _=>?_) (fun _=>br (fun _=>?_) (fun _=>br (fun _=>must rfl ?_) (fun _=>br (fun _=>br (fun _=>?_) (fun _=>?_)) (fun _=>?_)))))))))))
 all_goals first|rfl|(simp only [*,zoW,plainly,cT,cF]<;>rfl)|simp_all[Ty.cells,zoW,plainly]
theorem zPs:uY 261 zDn:=kF1 ziB zi zk zn (zl []) zXt
@[simp] abbrev zzj (g:Guest):Bool:=pc (SmG g)
@[simp] abbrev ztm (g:Guest):Guest:=plainly g
def zDU:Run:=rF1 (dT .guest) fun b=>(zzj b,[aT .guest (ztm b)])
def zKg (N:Nat)(a0:Guest):OA:=
 let y7:=(ieq a0.A 0);let y5:=(zdY a0);let y1:=(aT .guest (zgw a0));let y0:=(zfR a0.Prog a0.Pc);let y8:=({ a0 with A:=y0.X }:Guest);let y6:=(ieq y0.Op 8);let y4:=(zT y0.X 0 99);let y3:=(aT .guest ({ (zcB a0) with Pc:=y0.X }:Guest));let y2:=({ a0 with A:=(zfU (zB .i64 a0.A y0.X) 100) }:Guest); (oN (zeF a0) (cond (ine (zoG a0) 2) (oN (zc7 a0) (some [(aT .guest (zcB a0))])) (oN (zfw a0.Prog a0.Pc) (oN (zO a0.A 0 99) (cond (zT a0.A 0 99) (oN (zO y0.X 0 99) (cond y4 (cond (ieq y0.Op 1) (oN (zdY y8) (some [(aT .guest (zgw y8))])) (cond y4 (cond (ieq y0.Op 2) (oN (ine 100 0) (oN (zdY y2) (some [(aT .guest (zgw y2))]))) (cond y4 (cond y6 (cond y7 (oN (zc7 a0) (some [y3])) (oN y5 (some [y1]))) (oN y5 (some [y1]))) (oN y5 (some [y1])))) (cond y4 (cond y6 (cond y7 (oN (zc7 a0) (some [y3])) (oN y5 (some [y1]))) (oN y5 (some [y1]))) (oN y5 (some [y1]))))) (cond y4 (cond (ieq y0.Op 2) (oN (ine 100 0) (oN (zdY y2) (some [(aT .guest (zgw y2))]))) (cond y4 (cond y6 (cond y7 (oN (zc7 a0) (some [y3])) (oN y5 (some [y1]))) (oN y5 (some [y1]))) (oN y5 (some [y1])))) (cond y4 (cond y6 (cond y7 (oN (zc7 a0) (some [y3])) (oN y5 (some [y1]))) (oN y5 (some [y1]))) (oN y5 (some [y1])))))) (oN y5 (some [y1])))))))
theorem zX4 (a0:Guest)(hc:zzj a0=true):∃N,zKg N a0=some [aT .guest (ztm a0)]:=by
 have hs:=zu.1 hc;have hz:_/\_/\_/\_:=hs
 refine ⟨0,?_⟩;unfold zKg oN
 conv=>zeta
 refine must rfl (br (fun _=>mu ?_) (fun _=>must rfl (must rfl (br (fun _=>must rfl (br (fun _=>br (fun _=>mu ?_) (fun _=>br (fun _=>br (fun _=>must rfl (mu ?_)) (fun _=>br (fun _=>br (fun _=>br (fun _=>mu ?_) (fun _=>mu ?_)) (fun _=>mu ?_)) (fun _=>mu ?_))) (fun _=>br (fun _=>br (fun _=>br (fun _=>mu ?_) (fun _=>mu ?_)) (fun _=>mu ?_)) (fun _=>mu ?_)))) (fun _=>br (fun _=>br (fun _=>must rfl (mu ?_)) (fun _=>br (fun _=>br (fun _=>br (fun _=>mu ?_) (fun _=>mu ?_)) (fun _=>mu ?_)) (fun _=>mu ?_))) (fun _=>br (fun _=>br (fun _=>br (fun _=>mu ?_) (fun _=>mu ?_)) (fun _=>mu ?_)) (fun _=>mu ?_))))) (fun _=>mu ?_)))))
 all_goals first|rfl|(simp only [*,ztm,plainly,cT,cF]<;>rfl)|simp_all[Ty.cells,ztm,plainly]
theorem zPZ:uY 113 zDU:=kF1 ziB zi zk zn (zl []) zX4
def address (g:Guest):Int:=bif ine (zG g) 3 then (cond (ine (zG g) 4) (-1) ((zdC g.Prog g.Pc).X)) else (zdC g.Prog g.Pc).X
@[simp] abbrev zsk (g:Guest):Bool:=true
@[simp] abbrev zjG (g:Guest):Int:=address g
def zDG:Run:=rF1 (dT .guest) fun b=>(zsk b,[aI (zjG b)])
def zJZ (N:Nat)(a0:Guest):OA:=
 (oN (zeF a0) (cond (ine (zoG a0) 3) (cond (ine (zoG a0) 4) (some [(aI (-1))]) (oN (zfw a0.Prog a0.Pc) (some [(aI (zfR a0.Prog a0.Pc).X)]))) (oN (zfw a0.Prog a0.Pc) (some [(aI (zfR a0.Prog a0.Pc).X)]))))
theorem zXM (a0:Guest)(hc:zsk a0=true):∃N,zJZ N a0=some [aI (zjG a0)]:=by
 refine ⟨0,?_⟩;unfold zJZ oN;refine must rfl (br (fun _=>br (fun _=>?_) (fun _=>must rfl ?_)) (fun _=>must rfl ?_))
 all_goals first|rfl|(simp only [*,zjG,address,cT,cF]<;>rfl)|simp_all[Ty.cells,zjG,address]
theorem zPL:uY 213 zDG:=kF1 ziB zi zk zn (zl []) zXM
@[simp] abbrev zrV (g:Guest):Bool:=true
@[simp] abbrev zlo (g:Guest):Int:=address g
def zC9:Run:=rF1 (dT .guest) fun b=>(zrV b,[aI (zlo b)])
def zJp (N:Nat)(a0:Guest):OA:=
 (oN (zjU a0) (cond (ine (zhC a0) 3) (cond (ine (zhC a0) 4) (some [(aI (-1))]) (oN (zgi a0.Prog a0.Pc) (some [(aI (zgt a0.Prog a0.Pc).X)]))) (oN (zgi a0.Prog a0.Pc) (some [(aI (zgt a0.Prog a0.Pc).X)]))))
theorem zXb (a0:Guest)(hc:zrV a0=true):∃N,zJp N a0=some [aI (zlo a0)]:=by
 refine ⟨0,?_⟩;unfold zJp oN;refine must rfl (br (fun _=>br (fun _=>?_) (fun _=>must rfl ?_)) (fun _=>must rfl ?_))
 all_goals first|rfl|(simp only [*,zlo,address,cT,cF]<;>rfl)|simp_all[Ty.cells,zlo,address]
theorem zPe:uY 146 zC9:=kF1 ziB zi zk zn (zl []) zXb
def zf8 (g:Guest)(t w:Int):Guest:=bif ieq w 6 then stopped g (zBo (zdC g.Prog g.Pc).X) else (cond (ieq w 5&&zdm t 1) (stopped g (zH5 (zdC g.Prog g.Pc).X)) (cond (ieq w 7&&zdm t 2) (stopped g ⟨4,0,false,0⟩) (cond (ieq w 7) (held g) (zbM g))))
def zhR (t w:Int):Bool:=bif ieq w 6 then false else (cond (ieq w 5&&zdm t 1) false (cond (ieq w 7&&zdm t 2) false true))
@[simp] theorem zHA {g:Guest}(t w:Int)(h:SmG g):SmG (zf8 g t w):=by
 unfold zf8;cases ieq w 6
 .cases (ieq w 5&&zdm t 1)
  .cases (ieq w 7&&zdm t 2)
   .cases ieq w 7
    .exact zjJ h
    .exact z1M h
   .exact h
  .exact h
 .exact h
@[simp] abbrev zdF (g:Guest)(t w:Int):Bool:=pc (SmG g)
@[simp] abbrev zb4 (g:Guest)(t w:Int):Guest:=zf8 g t w
@[simp] abbrev zc8 (g:Guest)(t w:Int):Bool:=zhR t w
def zD3:Run:=rF3 (dT .guest) dI dI fun b c d=>(zdF b c d,[aT .guest (zb4 b c d),aB (zc8 b c d)])
def zKp (N:Nat)(a0:Guest)(a1 a2:Int):OA:=
 let y3:=(aT .guest (zgw a0));let y2:=(aT .guest (zA6 a0));let y1:=(⟨4,0,false,0⟩:GExit);let y0:=(zfR a0.Prog a0.Pc).X; (oN (zfw a0.Prog a0.Pc) (cond (ieq a2 6) (oN (zwI y0) (oN (zd4 a0 (zmH y0)) (some [(aT .guest (zdw a0 (zmH y0))),(aB false)]))) (cond (ieq a2 5) (oN (ziS a1 1) (cond (zit a1 1) (oN (zzh y0) (oN (zd4 a0 (zo3 y0)) (some [(aT .guest (zdw a0 (zo3 y0))),(aB false)]))) (cond (ieq a2 7) (oN (ziS a1 2) (cond (zit a1 2) (oN (zd4 a0 y1) (some [(aT .guest (zdw a0 y1)),(aB false)])) (cond (ieq a2 7) (oN (zoD a0) (some [y2,(aB true)])) (oN (zdY a0) (some [y3,(aB true)]))))) (cond (ieq a2 7) (oN (zoD a0) (some [y2,(aB true)])) (oN (zdY a0) (some [y3,(aB true)])))))) (cond (ieq a2 7) (oN (ziS a1 2) (cond (zit a1 2) (oN (zd4 a0 y1) (some [(aT .guest (zdw a0 y1)),(aB false)])) (cond (ieq a2 7) (oN (zoD a0) (some [y2,(aB true)])) (oN (zdY a0) (some [y3,(aB true)]))))) (cond (ieq a2 7) (oN (zoD a0) (some [y2,(aB true)])) (oN (zdY a0) (some [y3,(aB true)])))))))
theorem zYd (a0:Guest)(a1 a2:Int)(hc:zdF a0 a1 a2=true):∃N,zKp N a0 a1 a2=some [aT .guest (zb4 a0 a1 a2),aB (zc8 a0 a1 a2)]:=by
 have hs:=zu.1 hc;refine ⟨0,?_⟩;unfold zKp oN
 conv=>zeta
 refine must rfl (br (fun _=>must rfl (mu ?_)) (fun _=>br (fun _=>must rfl (br (fun _=>must rfl (mu ?_)) (fun _=>br (fun _=>must rfl (br (fun _=>mu ?_) (fun _=>br (fun _=>mu ?_) (fun _=>mu ?_)))) (fun _=>br (fun _=>mu ?_) (fun _=>mu ?_))))) (fun _=>br (fun _=>must rfl (br (fun _=>mu ?_) (fun _=>br (fun _=>mu ?_) (fun _=>mu ?_)))) (fun _=>br (fun _=>mu ?_) (fun _=>mu ?_)))))
 all_goals first|rfl|(simp only [*,zb4,zc8,zf8,zhR,cT,cF]<;>rfl)|simp_all[Ty.cells,zb4,zc8,zf8,zhR]
theorem zP8:uY 220 zD3:=kF3 ziB zi zk zn (zl []) zYd
def zbQ (b:Bare):Bool:=bif b.Guests.all zdl then (zi2 b.Memory 8&&(win (ln b.Guests) 1 2&&(ile (ln b.Outs) 40&&zgJ b.Pending))) else false
@[simp] abbrev zql (b:Bare):Bool:=true
@[simp] abbrev zeI (b:Bare):Bool:=zbQ b
def zG1:Run:=rF1 (dT .bare) fun b=>(zql b,[aB (zeI b)])
def zOm (N:Nat)(a0:Bare):OA:=
 (iter (σ:=(Int×(Int×(lM×(lG×((List Int)×Unit)))))) N (fun r2 s3=>let y0:=s3.2.2.2.1; (cond (ilt s3.1 (ln y0)) (oN (inb s3.1 (ln y0)) (oN (znC (ix y0 s3.1 zo)) (cond (nB (zlS (ix y0 s3.1 zo))) oF (r2 ((zB .i64 s3.1 1),(s3.2.1,(s3.2.2.1,(y0,(s3.2.2.2.2.1,()))))))))) (oN (ztk s3.2.2.1 8) (cond (zmR s3.2.2.1 8) (oN (zO (ln y0) 1 2) (cond (zT (ln y0) 1 2) (cond (ile (ln s3.2.2.2.2.1) 40) (oN (zfk s3.2.1) (some [(aB (zfj s3.2.1))])) oF) oF)) oF)))) (0,(a0.Pending,(a0.Memory,(a0.Guests,(a0.Outs,()))))))
def z2p:FuncId->Nat->Option Tmpl:=zl [(231,0,{ n:=38,tm:=[(1,.lp 0 0),(3,ti)],lo:=[(0,[.sl 0 [],.sl 1 [],.sl 2 [],ti])],ro:=[(0,(.sl .int),false),(1,.guest,false),(2,.int,false)] })]
theorem z0S (a0:Bare)(hb:zby big [aT .bare a0])(hc:zql a0=true):∃N,zOm N a0=some [aB (zeI a0)]:=by
 have hl:(_:List _).length<=big:=((zcz hb).1 (.s .guest a0.Guests) (by simp[AV.cvs,Ty.cells])).len
 refine zbo fun N hNN=>?_;unfold zOm oN nB
 conv=>zeta
 refine (zbc a0.Guests (fun i (t:Unit)=>((i:Int),a0.Pending,a0.Memory,a0.Guests,a0.Outs,())) _ (fun _ x (_:Unit) κ=>bif (zdl) x then κ () else oF) (fun (t:Unit)=>(cond (ztk a0.Memory 8) (cond (zmR a0.Memory 8) (cond (zO (ln a0.Guests) 1 2) (cond (zT (ln a0.Guests) 1 2) (cond (ile (ln a0.Outs) 40) (cond (zfk a0.Pending) (some [(.one (.b (zfj a0.Pending)))]) none) oF) oF) none) oF) none)) (fun i hi t rec=>?_) (fun t rec=>?_) _ () (hNN hl)).trans ?_
 .simp only [zU hi,zK hi,zS hi,zL hi hl,cT];exact ziz rfl
 .simp only [zQ,cF]
 rw[zgs (zdl)];refine br (fun h0=>?_) (fun h0=>?_)
 .refine must rfl ?_;refine br (fun h1=>?_) (fun h1=>?_)
  .refine must rfl ?_;refine br (fun h2=>?_) (fun h2=>?_)
   .refine br (fun h3=>?_) (fun h3=>?_)
    .refine must rfl ?_
     first|rfl|(simp only [h0,h1,h2,h3,zeI,zbQ,cT,cF]<;>rfl)|(simp_all [Ty.cells,zeI,zbQ];done)
    .first|rfl|(simp only [h0,h1,h2,h3,zeI,zbQ,cT,cF]<;>rfl)|(simp_all [Ty.cells,zeI,zbQ];done)
   .first|rfl|(simp only [h0,h1,h2,zeI,zbQ,cT,cF]<;>rfl)|(simp_all [Ty.cells,zeI,zbQ];done)
  .first|rfl|(simp only [h0,h1,zeI,zbQ,cT,cF]<;>rfl)|(simp_all [Ty.cells,zeI,zbQ];done)
 .first|rfl|(simp only [h0,zeI,zbQ,cT,cF]<;>rfl)|(simp_all [Ty.cells,zeI,zbQ];done)
theorem zSW:uY 231 zG1:=hF1 ziB zi zk zn z2p z0S
@[simp] abbrev zdg (b:Bare):Bool:=true
@[simp] abbrev zck (b:Bare):Bool:=zbQ b
def zGk:Run:=rF1 (dT .bare) fun b=>(zdg b,[aB (zck b)])
def zNF (N:Nat)(a0:Bare):OA:=
 (iter (σ:=(Int×(Int×(Int×(lG×(lM×((List Int)×Unit))))))) N (fun r2 s3=>let y0:=s3.2.2.2.1;let y1:=(ix y0 s3.2.1 zo); (cond (ilt s3.2.1 s3.1) (oN (inb s3.2.1 (ln y0)) (oN (zng y1) (cond (nB (zlr y1)) oF (r2 (s3.1,((zB .i64 s3.2.1 1),(s3.2.2.1,(y0,(s3.2.2.2.2.1,(s3.2.2.2.2.2.1,())))))))))) (oN (zsY s3.2.2.2.2.1 8) (cond (zmf s3.2.2.2.2.1 8) (oN (zbl (ln y0) 1 2) (cond (zbp (ln y0) 1 2) (cond (ile (ln s3.2.2.2.2.2.1) 40) (oN (zij s3.2.2.1) (some [(aB (ziK s3.2.2.1))])) oF) oF)) oF)))) ((ln a0.Guests),(0,(a0.Pending,(a0.Guests,(a0.Memory,(a0.Outs,())))))))
def z16:FuncId->Nat->Option Tmpl:=zl [(257,0,{ n:=36,tm:=[(1,.lp 0 0),(6,.sl 0 []),(7,ti),(8,ti)],lo:=[(0,[.sl 1 [],.sl 0 [],.sl 2 [],ti])],ro:=[(0,.guest,false),(1,(.sl .int),false),(2,.int,false)] })]
theorem zZ9 (a0:Bare)(hb:zby big [aT .bare a0])(hc:zdg a0=true):∃N,zNF N a0=some [aB (zck a0)]:=by
 have hl:(_:List _).length<=big:=((zcz hb).1 (.s .guest a0.Guests) (by simp[AV.cvs,Ty.cells])).len
 refine zbo fun N hNN=>?_;unfold zNF oN nB
 conv=>zeta
 refine (zbc a0.Guests (fun i (t:Unit)=>((ln a0.Guests),(i:Int),a0.Pending,a0.Guests,a0.Memory,a0.Outs,())) _ (fun _ x (_:Unit) κ=>bif (zdl) x then κ () else oF) (fun (t:Unit)=>(cond (zsY a0.Memory 8) (cond (zmf a0.Memory 8) (cond (zbl (ln a0.Guests) 1 2) (cond (zbp (ln a0.Guests) 1 2) (cond (ile (ln a0.Outs) 40) (cond (zij a0.Pending) (some [(.one (.b (ziK a0.Pending)))]) none) oF) oF) none) oF) none)) (fun i hi t rec=>?_) (fun t rec=>?_) _ () (hNN hl)).trans ?_
 .simp only [zU hi,zK hi,zS hi,zL hi hl,cT];exact ziz rfl
 .simp only [zQ,cF]
 rw[zgs (zdl)];refine br (fun h0=>?_) (fun h0=>?_)
 .refine must rfl ?_;refine br (fun h1=>?_) (fun h1=>?_)
  .refine must rfl ?_;refine br (fun h2=>?_) (fun h2=>?_)
   .refine br (fun h3=>?_) (fun h3=>?_)
    .refine must rfl ?_
     first|rfl|(simp only [h0,h1,h2,h3,zck,zbQ,cT,cF]<;>rfl)|(simp_all [Ty.cells,zck,zbQ];done)
    .first|rfl|(simp only [h0,h1,h2,h3,zck,zbQ,cT,cF]<;>rfl)|(simp_all [Ty.cells,zck,zbQ];done)
   .first|rfl|(simp only [h0,h1,h2,zck,zbQ,cT,cF]<;>rfl)|(simp_all [Ty.cells,zck,zbQ];done)
  .first|rfl|(simp only [h0,h1,zck,zbQ,cT,cF]<;>rfl)|(simp_all [Ty.cells,zck,zbQ];done)
 .first|rfl|(simp only [h0,zck,zbQ,cT,cF]<;>rfl)|(simp_all [Ty.cells,zck,zbQ];done)
theorem zSf:uY 257 zGk:=hF1 ziB zi zk zn z16 zZ9
@[simp] abbrev zbH (b:Bare):Bool:=pc (SmB b)
@[simp] abbrev zbs (b:Bare):Bare:=b
def zAC:Run:=rF1 (dT .bare) fun b=>(zbH b,[aT .bare (zbs b)])
def zEQ (N:Nat)(a0:Bare):OA:=
 (oN (zfY a0.Memory) (oN (zcg a0.Guests) (oN (zdo a0.Outs) (some [(aT .bare (⟨(zde a0.Memory),(zcH a0.Guests),(zdi a0.Outs),a0.Pending⟩:Bare))]))))
theorem zTQ (a0:Bare)(hc:zbH a0=true):∃N,zEQ N a0=some [aT .bare (zbs a0)]:=by
 have hs:=zu.1 hc;have hz:_/\_/\_:=hs
 refine ⟨0,?_⟩;unfold zEQ oN;refine mu (mu (mu ?_))
 first|rfl|(simp only [*,zbs,cT,cF]<;>rfl)|simp_all[Ty.cells,zbs]
theorem zMg:uY 258 zAC:=kF1 ziB zi zk zn (zl []) zTQ
@[simp] abbrev ze0 (b:Bare):Bool:=pc (SmB b)
@[simp] abbrev zb8 (b:Bare):Bare:=b
def zD2:Run:=rF1 (dT .bare) fun b=>(ze0 b,[aT .bare (zb8 b)])
def zKo (N:Nat)(a0:Bare):OA:=
 (oN (zf4 a0.Memory) (oN (zfx a0.Guests) (oN (few (ln (ap [] a0.Outs))) (some [(aT .bare (⟨(zeo a0.Memory),(zf6 a0.Guests),(ap [] a0.Outs),a0.Pending⟩:Bare))]))))
theorem zYc (a0:Bare)(hc:ze0 a0=true):∃N,zKo N a0=some [aT .bare (zb8 a0)]:=by
 have hs:=zu.1 hc;have hz:_/\_/\_:=hs
 refine ⟨0,?_⟩;unfold zKo oN;refine mu (mu (mu ?_))
 first|rfl|(simp only [*,zb8,cT,cF]<;>rfl)|simp_all[Ty.cells,zb8]
theorem zP7:uY 221 zD2:=kF1 ziB zi zk zn (zl []) zYc
def zbbD:zY:=[(113,zDU),(261,zDn),(213,zDG),(146,zC9),(220,zD3),(231,zG1),(257,zGk),(258,zAC),(221,zD2)]++zbbC
theorem zLO:zJ zbbD:=zf zPZ (zf zPs (zf zPL (zf zPe (zf zP8 (zf zSW (zf zSf (zf zMg (zf zP7 ziB))))))))
def zeJ (b:Bare)(i:Int)(x:Guest):Bare:={ b with Guests:=up b.Guests i x }
def zdx (b:Bare)(i:Int)(x:Guest):Bare:=bif hasB i (ln b.Guests) then zeJ b i x else b
def zp7 (b:Bare)(n:Int):Bare:=bif ilt (ln b.Outs) 40 then { b with Outs:=ap b.Outs [n] } else b
@[simp] theorem zoI {b:Bare}{i:Int}{x:Guest}(h:SmB b)(hx:SmG x):SmB (zeJ b i x):=⟨h.1,zIj h.2.1 hx,h.2.2⟩
@[simp] theorem zRu {b:Bare}{n:Int}(h:SmB b):SmB (zp7 b n):=by
 unfold zp7;cases h1:ilt (ln b.Outs) 40
 .exact h
 .have:=qD h1;refine ⟨h.1,h.2.1,?_⟩;simp[ln] at *;omega
@[simp] theorem zbfo (b:Bare)(n:Int):(zp7 b n).Guests=b.Guests:=by
 unfold zp7;cases ilt (ln b.Outs) 40<;>rfl
@[simp] theorem zwU {m:List (List Int)}{p c v:Int}(h:SmM m):SmM (zem m p c v):=by
 unfold zem;cases h1:zjq m p c
 .exact h
 .cases h2:win v 0 99
  .exact h
  .exact zRx h (by simpa using zbep h ((zB7 m p c).1 h1).1 [])
@[simp] abbrev zbn (b:Bare)(i:Int)(x:Guest):Bool:=pc (SmB b/\SmG x)
@[simp] abbrev zb3 (b:Bare)(i:Int)(x:Guest):Bare:=zdx b i x
def zxT:Run:=rF3 (dT .bare) dI (dT .guest) fun b c d=>(zbn b c d,[aT .bare (zb3 b c d)])
def zCN (N:Nat)(a0:Bare)(a1:Int)(a2:Guest):OA:=
 (oN (zbH a0) (oN (zbx a1 (ln a0.Guests)) (cond (zbO a1 (ln a0.Guests)) (oN (zdj a2) (oN (inb a1 (ln (zbs a0).Guests)) (share (up (zbs a0).Guests a1 (zcc a2)) (fun x4=>(some [(aT .bare ({ (zbs a0) with Guests:=x4 }:Bare))]))))) (some [(aT .bare (zbs a0))]))))
theorem zQu (a0:Bare)(a1:Int)(a2:Guest)(hc:zbn a0 a1 a2=true):∃N,zCN N a0 a1 a2=some [aT .bare (zb3 a0 a1 a2)]:=by
 have hs:=zu.1 hc;refine ⟨0,?_⟩;unfold zCN oN;refine mu (must rfl (br (fun _=>mu (mu (shr ?_))) (fun _=>?_)))
 all_goals first|rfl|(simp only [*,zb3,zdx,zeJ,cT,cF]<;>rfl)|simp_all[Ty.cells,zb3,zdx,zeJ]
theorem zIw:uY 259 zxT:=kF3 zLO zi zk zn (zl []) zQu
@[simp] abbrev zuy (b:Bare)(n:Int):Bool:=pc (SmB b)
@[simp] abbrev zra (b:Bare)(n:Int):Bare:=zp7 b n
def zGE:Run:=rF2 (dT .bare) dI fun b c=>(zuy b c,[aT .bare (zra b c)])
def zNY (N:Nat)(a0:Bare)(a1:Int):OA:=
 (oN (zbH a0) (cond (ilt (ln a0.Outs) 40) (oN (few (ln (ap (zbs a0).Outs [a1]))) (some [(aT .bare ({ (zbs a0) with Outs:=(ap (zbs a0).Outs [a1]) }:Bare))])) (some [(aT .bare (zbs a0))])))
theorem z0u (a0:Bare)(a1:Int)(hc:zuy a0 a1=true):∃N,zNY N a0 a1=some [aT .bare (zra a0 a1)]:=by
 have hs:=zu.1 hc;have hz:a0.Outs.length<=1048576:=hs.2.2
 refine ⟨0,?_⟩;unfold zNY oN;refine mu (br (fun _=>mu ?_) (fun _=>?_))
 all_goals first|rfl|(simp only [*,zra,zp7,cT,cF]<;>rfl)|simp_all[Ty.cells,zra,zp7]
theorem zSz:uY 265 zGE:=kF2 zLO zi zk zn (zl []) z0u
def zYM:zY:=[(259,zxT),(265,zGE)]++zbbD
theorem zlk:zJ zYM:=zf zIw (zf zSz zLO)
def zvs (b:Bare)(g:Int)(x:Guest)(w:Bool):Bare :=
 bif zgK x.Live (zbP (address x)) (zfd w) then
  (bif w then zeJ { b with Memory:=zem b.Memory (zcK x.Live (zbP (address x)) (zfd w)) (zfC (address x)) x.A } g (zbM x)
  else zeJ b g (loaded x (cellAt b.Memory (zcK x.Live (zbP (address x)) (zfd w)) (zfC (address x)))))
 else zeJ b g (stopped x (zxl (zbP (address x)) w))
def zvt (b:Bare)(g:Int)(x:Guest)(w:Int):Bare :=
 zeJ (cond (cond (zhR x.Ctl.Traps w) (ieq w 5) false) (zp7 b (zdC x.Prog x.Pc).X) b) g (zf8 x x.Ctl.Traps w)
def stepped (b:Bare)(g:Int)(x:Guest)(w:Int):Bare :=
 bif ieq w 1 then zeJ b g (interrupted x) else (cond (ieq w 2) (zeJ b g (plainly x)) (cond (ieq w 3) (zvs b g x false) (cond (ieq w 4) (zvs b g x true) (zvt b g x w))))
theorem tr1 (x:Guest)(t w:Int):ieq w 6=true->zf8 x t w=stopped x (zBo (zdC x.Prog x.Pc).X)/\zhR t w=false:=by
 intro h;simp[zf8,zhR,h]
theorem tr2 (x:Guest)(t w:Int):ieq w 6=false->(ieq w 5=false->ieq w 6=false->ieq w 7=true)->zdm t (zfn w)=true->zf8 x t w=zrJ x w/\zhR t w=false:=by
 intro h6 h7 h;unfold zf8 zhR zrJ zfn at *;cases h5:ieq w 5<;>simp_all
theorem tr3 (x:Guest)(t w:Int):ieq w 6=false->ieq w 7=false->zdm t (zfn w)=false->ieq w 5=true->zf8 x t w=zbM x/\zhR t w=true:=by
 intro h6 h7 h h5;unfold zf8 zhR zfn at *
 simp_all
theorem tr4 (x:Guest)(t w:Int):ieq w 6=false->(ieq w 5=false->ieq w 6=false->ieq w 7=true)->zdm t (zfn w)=false->ieq w 5=false->zf8 x t w=held x:=by
 intro h6 h7 h h5;unfold zf8 zfn at *
 simp_all
def zqZ (b:Bare)(g:Int):Bool:=bif hasB g (ln b.Guests) then (cond (zbQ b) (!ieq (zG (gAt b g)) 0) false) else false
def zld (b:Bare)(g:Int):Bare:=bif zqZ b g then stepped b g (gAt b g) (zG (gAt b g)) else b
@[simp] theorem z5b {b:Bare}{g:Int}{x:Guest}{w:Bool}(h:SmB b)(hx:SmG x):SmB (zvs b g x w):=by
 unfold zvs;cases zgK x.Live (zbP (address x)) (zfd w)
 .exact zoI h hx
 .cases w
  .exact zoI h (zRv _ hx)
  .exact ⟨zwU h.1,zIj h.2.1 (zjJ hx),h.2.2⟩
@[simp] theorem zbdj {b:Bare}{g:Int}{x:Guest}{w:Int}(h:SmB b)(hx:SmG x):SmB (zvt b g x w):=by
 unfold zvt;cases (cond (zhR x.Ctl.Traps w) (ieq w 5) false)
 .exact zoI h (zHA _ _ hx)
 .exact zoI (zRu h) (zHA _ _ hx)
@[simp] theorem z4i {b:Bare}{g:Int}{x:Guest}{w:Int}(h:SmB b)(hx:SmG x):SmB (stepped b g x w):=by
 unfold stepped;cases ieq w 1
 .cases ieq w 2
  .cases ieq w 3
   .cases ieq w 4
    .exact zbdj h hx
    .exact z5b h hx
   .exact z5b h hx
  .exact zoI h (zLp hx)
 .exact zoI h (z5c hx)
@[simp] theorem zbfq {b:Bare}{g:Int}(h:SmB b):SmB (zld b g):=by
 unfold zld;cases zqZ b g
 .exact h
 .exact z4i h (zey g h)
theorem z7f (x:Guest):ieq (zG x) 0=false->ieq (zG x) 1=false->ieq (zG x) 2=false->ieq (zG x) 3=false->ieq (zG x) 4=false->ieq (zG x) 5=false->ieq (zG x) 6=false->ieq (zG x) 7=true:=by
 unfold zG zAi;cases canRun x
 .intro h;cases h
 .cases ziX x
  .simp only [cT,cF];generalize (zdC x.Prog x.Pc).Op=o;cases ieq o 3<;>cases ieq o 4<;>cases ieq o 5<;>cases ieq o 6<;>cases ieq o 7<;>simp [ieq]
  .intro _ h;cases h
theorem zTo {x:Int}{a b:Int}(h:ieq x a=true)(hab:ieq a b=false):ieq x b=false:=by
 have:x=a:=by simpa [ieq] using h
 rw[this];exact hab
@[simp] abbrev zvY (b:Bare)(g:Int):Bool:=pc (SmB b)
@[simp] abbrev zja (b:Bare)(g:Int):Bare:=zld b g
@[simp] abbrev zpl (b:Bare)(g:Int):Bool:=zqZ b g
def zmC:Run:=rF2 (dT .bare) dI fun b c=>(zvY b c,[aT .bare (zja b c),aB (zpl b c)])
def zEz (N:Nat)(a0:Bare)(a1:Int):OA:=
 let y21:=a0.Memory;let y12:=(aT .bare (zbs a0));let y0:=(zc2 a0 a1);let y20:=y0.Ctl.Traps;let y18:=(aT .bare (zb3 a0 a1 (zjc y0)));let y6:=(zhC y0);let y15:=(aT .bare (zb3 a0 a1 (zjE y0 y6)));let y4:=(zlo y0);let y16:=(zdL y4);let y10:=(zb1 y4);let y3:=(ieq y6 4);let y8:=(ziJ y10 y3);let y13:=(aT .bare (zb3 a0 a1 (zeP y0 y8)));let y2:=(zgt y0.Prog y0.Pc).X;let y19:=(zbn (zra a0 y2) a1 (zcU y0));let y11:=(aT .bare (zb3 (zra a0 y2) a1 (zcU y0)));let y9:=(zeP y0 (zjQ y2));let y1:=(zhZ y0.Live y10 (zeH y3));let y7:=(zlp y21 y1 y16);let y14:=(aT .bare (zb3 a0 a1 (zlv y0 y7)));let y5:=({ a0 with Memory:=(zfX y21 y1 y16 y0.A) }:Bare);let y17:=(aT .bare (zb3 y5 a1 (zlz y0))); (oN (zc4 a0 a1) (oN (zjU y0) (oN (zdg a0) (cond (nB (zck a0)) (oN (zbH a0) (some [y12,(aB false)])) (cond (nB (zc3 a0 a1)) (oN (zbH a0) (some [y12,(aB false)])) (cond (ieq y6 0) (oN (zbH a0) (some [y12,(aB false)])) (oN (zrV y0) (oN (zgi y0.Prog y0.Pc) (cond (ieq y6 1) (oN (zpz y0) (oN (zbn a0 a1 (zhY y0)) (some [(aT .bare (zb3 a0 a1 (zhY y0))),(aB true)]))) (cond (ieq y6 2) (oN (zy2 y0) (oN (zbn a0 a1 (zoW y0)) (some [(aT .bare (zb3 a0 a1 (zoW y0))),(aB true)]))) (cond (ieq y6 3) (cond (ieq y6 3) (oN (zet y4) (oN (zpD y3) (oN (zkh y0.Live y10 (zeH y3)) (cond (nB (zgC y0.Live y10 (zeH y3))) (oN (zet y4) (oN (zkc y10 y3) (oN (zdD y0 y8) (oN (zbn a0 a1 (zeP y0 y8)) (some [y13,(aB true)]))))) (cond y3 (oN (zes y4) (oN (ze6 y21 y1 y16 y0.A) (oN (zpI y0) (oN (zbn y5 a1 (zlz y0)) (some [y17,(aB true)]))))) (oN (zes y4) (oN (zmd y21 y1 y16) (oN (zpC y0 y7) (oN (zbn a0 a1 (zlv y0 y7)) (some [y14,(aB true)])))))))))) (cond (ieq y6 6) (oN (zpo y2) (oN (zdD y0 (zjQ y2)) (oN (zbn a0 a1 y9) (some [(aT .bare (zb3 a0 a1 y9)),(aB true)])))) (oN (zpM y6) (oN (zkz y20 (zhD y6)) (cond (zjD y20 (zhD y6)) (oN (znt y0 y6) (oN (zbn a0 a1 (zjE y0 y6)) (some [y15,(aB true)]))) (cond (ieq y6 5) (oN (zuy a0 y2) (oN (zdd y0) (oN y19 (some [y11,(aB true)])))) (oN (zjR y0) (oN (zbn a0 a1 (zjc y0)) (some [y18,(aB true)]))))))))) (cond y3 (oN (zet y4) (oN (zpD y3) (oN (zkh y0.Live y10 (zeH y3)) (cond (nB (zgC y0.Live y10 (zeH y3))) (oN (zet y4) (oN (zkc y10 y3) (oN (zdD y0 y8) (oN (zbn a0 a1 (zeP y0 y8)) (some [y13,(aB true)]))))) (cond y3 (oN (zes y4) (oN (ze6 y21 y1 y16 y0.A) (oN (zpI y0) (oN (zbn y5 a1 (zlz y0)) (some [y17,(aB true)]))))) (oN (zes y4) (oN (zmd y21 y1 y16) (oN (zpC y0 y7) (oN (zbn a0 a1 (zlv y0 y7)) (some [y14,(aB true)])))))))))) (cond (ieq y6 6) (oN (zpo y2) (oN (zdD y0 (zjQ y2)) (oN (zbn a0 a1 y9) (some [(aT .bare (zb3 a0 a1 y9)),(aB true)])))) (oN (zpM y6) (oN (zkz y20 (zhD y6)) (cond (zjD y20 (zhD y6)) (oN (znt y0 y6) (oN (zbn a0 a1 (zjE y0 y6)) (some [y15,(aB true)]))) (cond (ieq y6 5) (oN (zuy a0 y2) (oN (zdd y0) (oN y19 (some [y11,(aB true)])))) (oN (zjR y0) (oN (zbn a0 a1 (zjc y0)) (some [y18,(aB true)]))))))))))))))))))))
theorem zTy (a0:Bare)(a1:Int)(hc:zvY a0 a1=true):∃N,zEz N a0 a1=some [aT .bare (zja a0 a1),aB (zpl a0 a1)]:=by
 have hs:=zu.1 hc;have hx:=zey a1 hs;have hz:_/\_/\_:=hs;have hg:a0.Guests.length<=1048576:=hs.2.1.1;have hw7:=z7f (gAt a0 a1);have h34:ieq (zG (gAt a0 a1)) 3=true->ieq (zG (gAt a0 a1)) 4=false:=fun h=>zTo h rfl;have h57:ieq (zG (gAt a0 a1)) 5=true->ieq (zG (gAt a0 a1)) 7=false:=fun h=>zTo h rfl;have t1:=tr1 (gAt a0 a1) (gAt a0 a1).Ctl.Traps (zG (gAt a0 a1));have t2:=tr2 (gAt a0 a1) (gAt a0 a1).Ctl.Traps (zG (gAt a0 a1));have t3:=tr3 (gAt a0 a1) (gAt a0 a1).Ctl.Traps (zG (gAt a0 a1));have t4:=tr4 (gAt a0 a1) (gAt a0 a1).Ctl.Traps (zG (gAt a0 a1));have hp:∀n,SmB (zp7 a0 n):=fun n=>zRu hs
 refine ⟨0,?_⟩;unfold zEz oN nB
 conv=>zeta
 refine mu (must rfl (must rfl (brN (fun _=>mu ?_) (fun _=>brN (fun _=>mu ?_) (fun _=>br (fun _=>mu ?_) (fun _=>must rfl (must rfl (br (fun _=>mu (mu ?_)) (fun _=>br (fun _=>mu (mu ?_)) (fun _=>br (fun _=>br (fun _=>must rfl (must rfl (must rfl (brN (fun _=>must rfl (must rfl (mu (mu ?_)))) (fun _=>br (fun _=>must rfl (mu (mu (mu ?_)))) (fun _=>must rfl (must rfl (mu (mu ?_))))))))) (fun _=>br (fun _=>must rfl (mu (mu ?_))) (fun _=>must rfl (must rfl (br (fun _=>mu (mu ?_)) (fun _=>br (fun _=>mu (mu (mu ?_))) (fun _=>mu (mu ?_)))))))) (fun _=>br (fun _=>must rfl (must rfl (must rfl (brN (fun _=>must rfl (must rfl (mu (mu ?_)))) (fun _=>br (fun _=>must rfl (mu (mu (mu ?_)))) (fun _=>must rfl (must rfl (mu (mu ?_))))))))) (fun _=>br (fun _=>must rfl (mu (mu ?_))) (fun _=>must rfl (must rfl (br (fun _=>mu (mu ?_)) (fun _=>br (fun _=>mu (mu (mu ?_))) (fun _=>mu (mu ?_))))))))))))))))))
 all_goals first|rfl|(simp only [*,zja,zpl,zld,zqZ,stepped,zvs,zvt,zdx,zfd,cT,cF]<;>rfl)|simp_all[Ty.cells,zja,zpl,zld,zqZ,stepped,zvs,zvt,zdx,zfd]
theorem zod:uY 158 zmC:=kF2 zlk zi zk zn (zl []) zTy
def SmK (k:Kept):Prop:=k.Known.length<=1048576/\k.Slots.length<=1048576
def zFo (l:List Kept):Prop:=l.length<=1048576/\∀x∈l,SmK x
def zd6 (m:Mon):Prop:=m.Outer.length<=1048576/\SmM m.Out/\m.Dirty.length<=1048576/\zm0 m.Guests/\m.Outs.length<=1048576/\zFo m.Tables
def zpb (l:List Mon):Prop:=l.length<=1048576/\∀x∈l,zd6 x
def SmH (h:Host):Prop:=SmM h.Memory/\zpb h.Mons/\h.Buffer.length<=1048576/\h.IoBuffer.length<=1048576
@[simp] theorem zzR (k:Kept):(∀c∈Ty.cells .kept k,CVB sm c)↔SmK k:=by simp[Ty.cells,SmK,sm_v]
@[simp] theorem z9R (l:List Kept):CVB sm (.s .kept l)↔zFo l:=by rw[zjM];simp only[zzR];rfl
@[simp] theorem z4z (m:Mon):(∀c∈Ty.cells .mon m,CVB sm c)↔zd6 m:=by
 simp only[Ty.cells,qK,jJ,or_false,uV,forall_eq,zq0,zxj,z9R,z5Q,z2Q,z2P,zbbW,and_true,true_and];rfl
@[simp] theorem zbcJ (l:List Mon):CVB sm (.s .mon l)↔zpb l:=by rw[zjM];simp only[z4z];rfl
@[simp] theorem zF (h:Host):zbA h↔SmH h:=by
 unfold zbA;simp only[zW,qK,jJ,or_false,uV,forall_eq,zq0,zbcJ,zZH];rfl
theorem zbe {p:Prop}(h:p):pc p=true:=zD h
theorem zvr {l:List Kept}{i:Int}{x:Kept}(h:zFo l)(hx:SmK x):zFo (up l i x):=by
 refine ⟨by simpa using h.1,fun y hy=>?_⟩
 rcases jT hy with hy|rfl
 .exact h.2 y hy
 .exact hx
theorem ziw {l:List Mon}{i:Int}{x:Mon}(h:zpb l)(hx:zd6 x):zpb (up l i x):=by
 refine ⟨by simpa using h.1,fun y hy=>?_⟩
 rcases jT hy with hy|rfl
 .exact h.2 y hy
 .exact hx
theorem zoO {α:Type}{l:List α}(h:l.length<=1048576):few (ln (ap [] l))=true:=by
 rw[zna,zbcQ];omega
@[simp] abbrev zbJ (h:Host):Bool:=pc (zbA h)
@[simp] abbrev zx (h:Host):Host:=h
def zD4:Run:=rF1 dH fun b=>(zbJ b,[aH (zx b)])
def zKq (N:Nat)(a0:Host):OA:=
 (oN (zf4 a0.Memory) (oN (few (ln (ap [] a0.Buffer))) (oN (few (ln (ap [] a0.IoBuffer))) (iter (σ:=(Int×(lM×(lN×(lE×(lE×(lM×(lN×(lE×(lE×(lM×(lN×(lE×(lE×Unit)))))))))))))) N (fun r2 s3=>let y2:=s3.2.2.2.2.2.2.2.2.2.2.2.2.1;let y1:=(ix s3.2.2.1 s3.1 zh);let y0:=(ap s3.2.2.2.2.2.2.2.2.2.2.1 [(zrG y1)]); (cond (ilt s3.1 (ln s3.2.2.1)) (oN (inb s3.1 (ln s3.2.2.1)) (oN (zqM y1) (oN (few (ln y0)) (r2 ((zB .i64 s3.1 1),(s3.2.1,(s3.2.2.1,(s3.2.2.2.1,(s3.2.2.2.2.1,(s3.2.2.2.2.2.1,(s3.2.2.2.2.2.2.1,(s3.2.2.2.2.2.2.2.1,(s3.2.2.2.2.2.2.2.2.1,(s3.2.2.2.2.2.2.2.2.2.1,(y0,(s3.2.2.2.2.2.2.2.2.2.2.2.1,(y2,()))))))))))))))))) (some [(aH (⟨s3.2.2.2.2.2.2.2.2.2.1,s3.2.2.2.2.2.2.2.2.2.2.1,s3.2.2.2.2.2.2.2.2.2.2.2.1,y2⟩:Host))]))) (0,(a0.Memory,(a0.Mons,(a0.Buffer,(a0.IoBuffer,([],([],([],([],((zeo a0.Memory),([],((ap [] a0.Buffer),((ap [] a0.IoBuffer),())))))))))))))))))
def zYG:FuncId->Nat->Option Tmpl:=zl [(45,0,{ n:=36,tm:=[(1,.lp 0 0),(2,.lp 1 0),(3,.lp 2 0),(4,ti)],lo:=[(0,[.sl 0 [],.sl 1 [],.sl 2 [],.sl 3 []]),(1,[.sl 4 [],.sl 5 [],.sl 6 [],.sl 7 []]),(2,[.sl 8 [],.sl 9 [],.sl 10 [],.sl 11 []])],ro:=[(0,(.sl .int),false),(1,.mon,false),(2,.entry,false),(3,.entry,false),(4,(.sl .int),true),(5,.mon,true),(6,.entry,true),(7,.entry,true),(8,(.sl .int),true),(9,.mon,true),(10,.entry,true),(11,.entry,true)] })]
theorem zYe (a0:Host)(hc:zbJ a0=true):∃N,zKq N a0=some [aH (zx a0)]:=by
 obtain ⟨h1,h2,h3,h4⟩:=(zF a0).1 (zu.1 hc);have hl:=zb2 h2.1;refine zbo fun N hNN=>?_;unfold zKq oN
 conv=>zeta
 refine must (zbe ((zq0 _).2 h1)) (must (zoO h3) (must (zoO h4) ?_));refine (zbc a0.Mons (fun i (t:lN)=>((i:Int),a0.Memory,a0.Mons,a0.Buffer,a0.IoBuffer,[],[],[],[],(zeo a0.Memory),t,(ap [] a0.Buffer),(ap [] a0.IoBuffer),())) _ (fun _ x acc κ=>bif zqM x then (cond (few (ln (ap acc [zrG x]))) (κ (ap acc [zrG x])) none) else none) (fun (t:lN)=>(some [(.agg (zW (⟨(zeo a0.Memory),t,(ap [] a0.Buffer),(ap [] a0.IoBuffer)⟩:Host)))])) (fun i hi t rec=>?_) (fun t rec=>?_) _ ([]) (hNN hl.1)).trans ?_
 .simp only [zU hi,zK hi,zS hi,zL hi hl.1,cT]
 .simp only [zQ,cF]
 exact zjK zqM zrG _ a0.Mons 0 [] (fun x hx=>⟨zbe ((z4z x).2 (h2.2 x hx)),rfl⟩) (by simpa using hl.2)
theorem zP9:uY 45 zD4:=kF1 zlk zi zk zn zYG zYe
@[simp] abbrev ze7 (k:Kept):Bool:=pc (SmK k)
@[simp] abbrev zci (k:Kept):Kept:=k
def zAF:Run:=rF1 (dT .kept) fun b=>(ze7 b,[aT .kept (zci b)])
def zET (N:Nat)(a0:Kept):OA:=
 (oN (few (ln (ap [] a0.Known))) (oN (zfu a0.Slots) (some [(aT .kept (⟨(ap [] a0.Known),(zdE a0.Slots)⟩:Kept))])))
theorem zTT (a0:Kept)(hc:ze7 a0=true):∃N,zET N a0=some [aT .kept (zci a0)]:=by
 have hs:=zu.1 hc;obtain ⟨h1,h2⟩:=hs;have hs1:a0.Known.length<=2147483648:=(by omega);have hs2:a0.Slots.length<=2147483648:=(by omega)
 refine ⟨0,?_⟩;unfold zET oN;refine mu (mu ?_)
 first|rfl|(simp only [*,zci,cT,cF]<;>rfl)|simp_all[Ty.cells,zci]
theorem zMj:uY 274 zAF:=kF1 zlk zi zk zn (zl []) zTT
def zbbq:zY:=[(45,zD4),(274,zAF)]++zYM
theorem zZx:zJ zbbq:=zf zP9 (zf zMj zlk)
@[simp] abbrev zkF (m:Mon):Bool:=pc (zd6 m)
@[simp] abbrev zlC (m:Mon):Mon:=m
def zDt:Run:=rF1 (dT .mon) fun b=>(zkF b,[aT .mon (zlC b)])
def zJM (N:Nat)(a0:Mon):OA:=
 (oN (zfu a0.Outer) (oN (zfY a0.Out) (oN (few (ln (ap [] a0.Dirty))) (oN (zcg a0.Guests) (oN (zdo a0.Outs) (iter (σ:=(Int×(Int×(Int×(Int×(Int×(Int×(Int×(Int×(lK×(lK×(lS×(lM×(lB×(lG×((List Int)×(lS×(lM×(lB×(lG×((List Int)×(lK×Unit)))))))))))))))))))))) N (fun r2 s3=>let y5:=s3.2.2.2.2.2.2.2.2.2.2.2.2.1;let y4:=s3.2.2.2.2.2.2.2.2.2.2.2.2.2.1;let y3:=s3.2.2.2.2.2.2.2.2.2.2.2.2.2.2.1;let y2:=s3.2.2.2.2.2.2.2.2.1;let y1:=s3.2.2.2.2.2.2.2.2.2.1;let y0:=(ix y1 s3.2.1 zcu); (cond (ilt s3.2.1 s3.1) (oN (inb s3.2.1 (ln y1)) (oN (ze7 y0) (oN (few (ln (ap y2 [(zci y0)]))) (r2 (s3.1,((zB .i64 s3.2.1 1),(s3.2.2.1,(s3.2.2.2.1,(s3.2.2.2.2.1,(s3.2.2.2.2.2.1,(s3.2.2.2.2.2.2.1,(s3.2.2.2.2.2.2.2.1,((ap y2 [(zci y0)]),(y1,(s3.2.2.2.2.2.2.2.2.2.2.1,(s3.2.2.2.2.2.2.2.2.2.2.2.1,(y5,(y4,(y3,(s3.2.2.2.2.2.2.2.2.2.2.2.2.2.2.2.1,(s3.2.2.2.2.2.2.2.2.2.2.2.2.2.2.2.2.1,(s3.2.2.2.2.2.2.2.2.2.2.2.2.2.2.2.2.2.1,(s3.2.2.2.2.2.2.2.2.2.2.2.2.2.2.2.2.2.2.1,(s3.2.2.2.2.2.2.2.2.2.2.2.2.2.2.2.2.2.2.2.1,(s3.2.2.2.2.2.2.2.2.2.2.2.2.2.2.2.2.2.2.2.2.1,()))))))))))))))))))))))))) (some [(aT .mon (⟨s3.2.2.2.2.2.2.2.2.2.2.1,s3.2.2.2.2.2.2.2.2.2.2.2.1,y5,y4,y3,s3.2.2.1,s3.2.2.2.1,y2,s3.2.2.2.2.1⟩:Mon))]))) ((ln a0.Tables),(0,(a0.Pending,(a0.Traps,(a0.Own,(0,(0,(0,([],(a0.Tables,((zdE a0.Outer),((zde a0.Out),((ap [] a0.Dirty),((zcH a0.Guests),((zdi a0.Outs),([],([],([],([],([],([],())))))))))))))))))))))))))))
def zYu:FuncId->Nat->Option Tmpl:=zl [(191,0,{ n:=44,tm:=[(1,.lp 0 0),(2,.lp 1 0),(3,.sl 0 []),(29,.sl 1 []),(30,ti),(31,ti)],lo:=[(0,[.sl 2 [],.sl 3 [],.sl 4 [],.sl 5 [],.sl 6 [],ti,ti,.sl 1 [],ti]),(1,[.sl 7 [],.sl 8 [],.sl 9 [],.sl 10 [],.sl 11 [],ti,ti,.sl 12 [],ti])],ro:=[(0,.kept,true),(1,.kept,false),(2,.slot,true),(3,(.sl .int),true),(4,.bool,true),(5,.guest,true),(6,.int,true),(7,.slot,true),(8,(.sl .int),true),(9,.bool,true),(10,.guest,true),(11,.int,true),(12,.kept,true)] })]
theorem zXz (a0:Mon)(hc:zkF a0=true):∃N,zJM N a0=some [aT .mon (zlC a0)]:=by
 obtain ⟨h1,h2,h3,h4,h5,h6⟩:=zu.1 hc;have hl:=zb2 h6.1;refine zbo fun N hNN=>?_;unfold zJM oN
 conv=>zeta
 have c1:zfu a0.Outer=true:=by simp;omega
 have c2:zfY a0.Out=true:=by simp;exact h2
 have c4:zcg a0.Guests=true:=by simp;exact h4
 have c5:zdo a0.Outs=true:=by simp;omega
 refine must c1 (must c2 (must (zoO h3) (must c4 (must c5 ?_))));refine (zbc a0.Tables (fun i (t:lK)=>((ln a0.Tables),(i:Int),a0.Pending,a0.Traps,a0.Own,0,0,0,t,a0.Tables,(zdE a0.Outer),(zde a0.Out),(ap [] a0.Dirty),(zcH a0.Guests),(zdi a0.Outs),[],[],[],[],[],[],())) _ (fun _ x acc κ=>bif ze7 x then (cond (few (ln (ap acc [zci x]))) (κ (ap acc [zci x])) none) else none) (fun (t:lK)=>(some [(.agg (Ty.cells .mon (⟨(zdE a0.Outer),(zde a0.Out),(ap [] a0.Dirty),(zcH a0.Guests),(zdi a0.Outs),a0.Pending,a0.Traps,t,a0.Own⟩:Mon)))])) (fun i hi t rec=>?_) (fun t rec=>?_) _ ([]) (hNN hl.1)).trans ?_
 .simp only [zU hi,zK hi,zS hi,zL hi hl.1,cT]
 .simp only [zQ,cF]
 exact zjK ze7 zci _ a0.Tables 0 [] (fun x hx=>⟨zbe (h6.2 x hx),rfl⟩) (by simpa using hl.2)
theorem zPy:uY 191 zDt:=kF1 zZx zi zk zn zYu zXz
def zbbr:zY:=[(191,zDt)]++zbbq
theorem zBu:zJ zbbr:=zf zPy zZx
@[simp] abbrev zbb (h:Host):Bool:=pc (zbA h)
@[simp] abbrev zI (h:Host):Host:=h
def zAD:Run:=rF1 dH fun b=>(zbb b,[aH (zI b)])
def zER (N:Nat)(a0:Host):OA:=
 (oN (zfY a0.Memory) (oN (few (ln (ap [] a0.Buffer))) (oN (few (ln (ap [] a0.IoBuffer))) (iter (σ:=(Int×(Int×(lN×(lM×(lN×(lE×(lE×(lM×(lN×(lE×(lE×Unit)))))))))))) N (fun r2 s3=>let y1:=(ix s3.2.2.1 s3.2.1 zh);let y0:=(ap s3.2.2.2.2.2.2.2.2.1 [(zlC y1)]); (cond (ilt s3.2.1 s3.1) (oN (inb s3.2.1 (ln s3.2.2.1)) (oN (zkF y1) (oN (few (ln y0)) (r2 (s3.1,((zB .i64 s3.2.1 1),(s3.2.2.1,(s3.2.2.2.1,(s3.2.2.2.2.1,(s3.2.2.2.2.2.1,(s3.2.2.2.2.2.2.1,(s3.2.2.2.2.2.2.2.1,(y0,(s3.2.2.2.2.2.2.2.2.2.1,(s3.2.2.2.2.2.2.2.2.2.2.1,()))))))))))))))) (some [(aH (⟨s3.2.2.2.2.2.2.2.1,s3.2.2.2.2.2.2.2.2.1,s3.2.2.2.2.2.2.2.2.2.1,s3.2.2.2.2.2.2.2.2.2.2.1⟩:Host))]))) ((ln a0.Mons),(0,(a0.Mons,([],([],([],([],((zde a0.Memory),([],((ap [] a0.Buffer),((ap [] a0.IoBuffer),())))))))))))))))
def zUZ:FuncId->Nat->Option Tmpl:=zl [(82,0,{ n:=34,tm:=[(2,.lp 0 0),(3,.lp 1 0),(19,.sl 0 []),(20,ti),(21,ti)],lo:=[(0,[.sl 1 [],.sl 2 [],.sl 3 [],.sl 4 []]),(1,[.sl 5 [],.sl 6 [],.sl 7 [],.sl 8 []])],ro:=[(0,.mon,false),(1,(.sl .int),true),(2,.mon,true),(3,.entry,true),(4,.entry,true),(5,(.sl .int),true),(6,.mon,true),(7,.entry,true),(8,.entry,true)] })]
theorem zTR (a0:Host)(hc:zbb a0=true):∃N,zER N a0=some [aH (zI a0)]:=by
 obtain ⟨h1,h2,h3,h4⟩:=(zF a0).1 (zu.1 hc);have hl:=zb2 h2.1;refine zbo fun N hNN=>?_;unfold zER oN
 conv=>zeta
 have c1:zfY a0.Memory=true:=by simp;exact h1
 refine must c1 (must (zoO h3) (must (zoO h4) ?_));refine (zbc a0.Mons (fun i (t:lN)=>((ln a0.Mons),(i:Int),a0.Mons,[],[],[],[],(zde a0.Memory),t,(ap [] a0.Buffer),(ap [] a0.IoBuffer),())) _ (fun _ x acc κ=>bif zkF x then (cond (few (ln (ap acc [zlC x]))) (κ (ap acc [zlC x])) none) else none) (fun (t:lN)=>(some [(.agg (zW (⟨(zde a0.Memory),t,(ap [] a0.Buffer),(ap [] a0.IoBuffer)⟩:Host)))])) (fun i hi t rec=>?_) (fun t rec=>?_) _ ([]) (hNN hl.1)).trans ?_
 .simp only [zU hi,zK hi,zS hi,zL hi hl.1,cT]
 .simp only [zQ,cF]
 exact zjK zkF zlC _ a0.Mons 0 [] (fun x hx=>⟨zbe (h2.2 x hx),rfl⟩) (by simpa using hl.2)
theorem zMh:uY 82 zAD:=kF1 zBu zi zk zn zUZ zTR
def allI {α:Type}(p:Nat->α->Bool):List α->Nat->Bool
 | [],_=>true
 | x :: l,i=>p i x&&allI p l (i+1)
theorem zLU {α ρ:Type}(p:Nat->α->Bool)(r:Option ρ)(K:Unit->Option ρ):∀(l:List α) (i:Nat),goL (fun i x (_:Unit) k=>bif p i x then k () else r) K l i ()=bif allI p l i then K () else r
 | [],_=>rfl
 | x :: l,i=>by
  simp only[goL,allI];cases p i x
  .rfl
  .simp only [cT,Bool.true_and];exact zLU p r K l (i+1)
theorem zVL {α:Type}(q:α->Bool)(l:List α)(d:α):∀(n i:Nat),i+n<=l.length->zvz (fun j=>q (ix l (j:Int) d)) n i=((l.drop i).take n).all q
 | 0,i,_=>by simp[zvz]
 | n+1,i,h=>by
  have hi:i<l.length:=by omega
  rw[kH hi,List.take_succ_cons,uH,<- zVL q l d n (i+1) (by omega)]
  simp only[zvz,zS hi]
def sameKey (a b:Entry):Bool:=bif ieq a.Tag b.Tag then ieq a.Page b.Page else false
def alone (l:List Entry)(i:Nat)(x:Entry):Bool:=(l.take i).all fun y=>!sameKey x y
def zHM (l:List Entry):Bool:=bif allI (alone l) l 0 then ile (ln l) 6 else false
theorem z90 {α:Type}{l:List α}{i:Nat}(h:i<=l.length):inr 0 (i:Int) (ln l)=true:=qL (by simp only[ln];omega)
@[simp] abbrev zpn (l:List Entry):Bool:=true
@[simp] abbrev zpm (l:List Entry):Bool:=zHM l
def zAm:Run:=rF1 (dS .entry) fun b=>(zpn b,[aB (zpm b)])
def zEA (N:Nat)(a0:lE):OA:=
 (iter (σ:=(Int×(Int×(lE×Unit)))) N (fun r2 s3=>let y3:=s3.2.2.1;let y1:=(ix y3 s3.2.1 zdb); (cond (ilt s3.2.1 s3.1) (oN (inb s3.2.1 (ln y3)) (oN (inr 0 s3.2.1 (ln y3)) (iter (σ:=(Int×(Int×(Int×(Int×(Int×(Int×(Int×(Int×(lE×(lE×Unit))))))))))) N (fun r4 s5=>let y4:=s5.2.2.2.1;let y2:=s5.2.2.2.2.2.2.2.2.2.1;let y0:=(r4 (s5.1,(s5.2.1,(s5.2.2.1,((zB .i64 y4 1),(s5.2.2.2.2.1,(s5.2.2.2.2.2.1,(s5.2.2.2.2.2.2.1,(s5.2.2.2.2.2.2.2.1,(s5.2.2.2.2.2.2.2.2.1,(y2,()))))))))))); (cond (ilt y4 s5.2.2.1) (oN (inb y4 (ln y2)) (cond (ieq s5.2.2.2.2.1 (ix y2 y4 zdb).Tag) (cond (ieq s5.2.2.2.2.2.1 (ix y2 y4 zdb).Page) oF y0) y0)) (r2 (s5.1,((zB .i64 s5.2.1 1),(s5.2.2.2.2.2.2.2.2.1,())))))) (s3.1,(s3.2.1,((ln (tk y3 s3.2.1)),(0,(y1.Tag,(y1.Page,(y1.Host,(y1.Rights,(y3,((tk y3 s3.2.1),()))))))))))))) (some [(aB (ile (ln y3) 6))]))) ((ln a0),(0,(a0,()))))
def zUW:FuncId->Nat->Option Tmpl:=zl [(243,0,{ n:=39,tm:=[(0,.sl 0 []),(7,.sl 0 []),(8,ti),(9,ti)],lo:=[],ro:=[(0,.entry,false)] }),(243,2,{ n:=39,tm:=[(0,.sl 0 []),(4,.lp 0 0),(7,.sl 0 []),(8,ti),(9,ti),(16,.sl 1 []),(17,ti),(18,ti)],lo:=[(0,[ti,ti,ti,ti])],ro:=[(0,.entry,false),(1,.entry,false)] })]
theorem zTz (a0:List Entry)(hb:zby big [aS .entry a0])(hc:zpn a0=true):∃N,zEA N a0=some [aB (zpm a0)]:=by
 have hl:=(len0 hb);refine zbo fun N hNN=>?_;unfold zEA oN
 conv=>zeta
 refine (zbc a0 (fun i (t:Unit)=>((ln a0),(i:Int),a0,())) _ (fun i (x:Entry) (_:Unit) κ=>bif alone a0 i x then κ () else oF) (fun (t:Unit)=>(some [(.one (.b (ile (ln a0) 6)))])) (fun i hi t rec=>?_) (fun t rec=>?_) _ () (hNN hl)).trans ?_
 .simp only [zU hi,zK hi,zS hi,zL hi hl,cT];rw[z90 (Nat.le_of_lt hi),cT];have hk:(tk a0 (i:Int)).length<=big:=jD (by simp[tk];omega) hl
  refine (zbc (tk a0 (i:Int)) (fun j (u:Unit)=>((ln a0),(i:Int),(ln (tk a0 (i:Int))),(j:Int),a0[i].Tag,a0[i].Page,a0[i].Host,a0[i].Rights,a0,(tk a0 (i:Int)),())) _ (fun _ (y:Entry) (_:Unit) κ=>bif !sameKey a0[i] y then κ () else oF) (fun (u:Unit)=>(rec ((ln a0),((((i+1:Nat)):Int),(a0,()))))) (fun j hj u rec1=>?_) (fun u rec1=>?_) _ () (hNN hk)).trans ?_
  .simp only [zU hj,zK hj,zS hj,zL hj hk,cT,zL hi hl];unfold sameKey;cases ieq a0[i].Tag (tk a0 (i:Int))[j].Tag<;>cases ieq a0[i].Page (tk a0 (i:Int))[j].Page<;>rfl
  .simp only [zQ,cF,zL hi hl]
  rw[zgs (fun y=>!sameKey a0[i] y)];rfl
 .simp only [zQ,cF]
 rw[zLU (alone a0)];unfold zpm zHM;cases allI (alone a0) a0 0<;>rfl
theorem zL0:uY 243 zAm:=hF1 zBu zi zk zn zUW zTz
@[simp] abbrev zqo (l:List Entry):Bool:=true
@[simp] abbrev zqn (l:List Entry):Bool:=zHM l
def zAQ:Run:=rF1 (dS .entry) fun b=>(zqo b,[aB (zqn b)])
def zE8 (N:Nat)(a0:lE):OA:=
 (iter (σ:=(Int×(lE×Unit))) N (fun r2 s3=>(cond (ilt s3.1 (ln s3.2.1)) (iter (σ:=(Int×(Int×(lE×Unit)))) N (fun r4 s5=>let y0:=s5.2.2.1;let y2:=(ix y0 s5.2.1 zdb);let y1:=(r4 (s5.1,((zB .i64 s5.2.1 1),(y0,())))); (cond (ilt s5.2.1 s5.1) (oN (inb s5.1 (ln y0)) (oN (inb s5.2.1 (ln y0)) (cond (ieq (ix y0 s5.1 zdb).Tag y2.Tag) (oN (inb s5.1 (ln y0)) (oN (inb s5.2.1 (ln y0)) (cond (ieq (ix y0 s5.1 zdb).Page y2.Page) oF y1))) y1))) (r2 ((zB .i64 s5.1 1),(y0,()))))) (s3.1,(0,(s3.2.1,())))) (some [(aB (ile (ln s3.2.1) 6))]))) (0,(a0,())))
def zU9:FuncId->Nat->Option Tmpl:=zl [(305,0,{ n:=43,tm:=[(0,.sl 0 []),(3,ti)],lo:=[],ro:=[(0,.entry,false)] }),(305,2,{ n:=43,tm:=[(0,.sl 0 []),(3,ti),(4,ti)],lo:=[],ro:=[(0,.entry,false)] })]
theorem zUb (a0:List Entry)(hb:zby big [aS .entry a0])(hc:zqo a0=true):∃N,zE8 N a0=some [aB (zqn a0)]:=by
 have hl:=(len0 hb);refine zbo fun N hNN=>?_;unfold zE8 oN
 conv=>zeta
 refine (zbc a0 (fun i (t:Unit)=>((i:Int),a0,())) _ (fun i (x:Entry) (_:Unit) κ=>bif alone a0 i x then κ () else oF) (fun (t:Unit)=>(some [(.one (.b (ile (ln a0) 6)))])) (fun i hi t rec=>?_) (fun t rec=>?_) _ () (hNN hl)).trans ?_
 .simp only [zU hi,zK hi,zS hi,zL hi hl,cT];refine (zBZ i (fun (j:Nat) (_:Unit)=>((i:Int),((j:Int),(a0,())))) _ (fun j (_:Unit) κ=>bif !sameKey a0[i] (ix a0 (j:Int) zdb) then κ () else oF) (fun _=>rec (((i+1:Nat):Int),(a0,()))) (fun j hj u rec1=>?_) (fun u rec1=>?_) _ () (hNN (by omega))).trans ?_
  .have hj2:j<a0.length:=by omega
   simp only[show ilt (j:Int) (i:Int)=true from qL (by omega),zK hi,zK hj2,zS hi,zL hj2 hl,cT]
   unfold sameKey;cases ieq a0[i].Tag (ix a0 (j:Int) zdb).Tag<;>cases ieq a0[i].Page (ix a0 (j:Int) zdb).Page<;>rfl
  .simp only [show ilt (i:Int) (i:Int)=false from qH (by omega),zL hi hl,cF]
  rw[zHW (fun j=>!sameKey a0[i] (ix a0 (j:Int) zdb)),zVL (fun y=>!sameKey a0[i] y) a0 _ i 0 (by omega)]
  rfl
 .simp only [zQ,cF]
 rw[zLU (alone a0)];unfold zqn zHM;cases allI (alone a0) a0 0<;>rfl
theorem zMy:uY 305 zAQ:=hF1 zBu zi zk zn zU9 zUb
def zbbs:zY:=[(82,zAD),(305,zAQ),(243,zAm)]++zbbr
theorem zLL:zJ zbbs:=zf zMh (zf zMy (zf zL0 zBu))
theorem zTp (a b:Int):igt a b = !ile a b:=by
 unfold igt ile
 by_cases h:a<=b
 .rw [qL h,qH (by omega)];rfl
 .rw [qH h,qL (by omega)];rfl
theorem stB {c M:Bool}{E:OA}(h:c=true->E=some [AV.one (.b M)]):(cond (cond c false true) (some [AV.one (.b false)]) E)=some [AV.one (.b (cond c M false))]:=by
 cases c
 .rfl
 .exact h rfl
theorem stI {a b:Int}{M:Bool}{E:OA}(h:ieq a b=true->E=some [AV.one (.b M)]):(cond (ine a b) (some [AV.one (.b false)]) E)=some [AV.one (.b (cond (ieq a b) M false))]:=by
 rw[zh0];cases hh:ieq a b
 .rfl
 .exact h hh
theorem stG {a b:Int}{M:Bool}{E:OA}(h:ile a b=true->E=some [AV.one (.b M)]):(cond (igt a b) (some [AV.one (.b false)]) E)=some [AV.one (.b (cond (ile a b) M false))]:=by
 rw[zTp];cases hh:ile a b
 .rfl
 .exact h hh
def zH7 (s:Slot)(p:List Int):Bool:=bif zc0 s noSlot then zcZ p else (cond (enough s.Rights 1) (ile (ln p) 0) false)
def fits (m:Mon)(j:Nat):Bool:=zH7 (ix m.Outer (j:Int) zM) (ix m.Out (j:Int) [])
def zen (m:Mon):Bool:=bif win (ln m.Guests) 1 2 then (cond (ieq (ln m.Tables) (ln m.Guests)) (cond (zdy m.Outer 8 12) (cond (ieq (ln m.Out) 8) (cond (ieq (ln m.Dirty) 8) (cond (ile (ln m.Outs) 40) (cond (zgJ m.Pending) (cond (win m.Traps 0 3) (cond (win m.Own 0 1000000000) (cond (m.Guests.all zdl) (zvz (fits m) 8 0) false) false) false) false) false) false) false) false) false) else false
theorem zto {t:List Slot}{n p:Int}(h:zdy t n p=true):ln t=n:=by
 unfold zdy at h;cases h1:t.all (fun s=>zeW s p)
 .rw [h1]at h;cases h
 .rw [h1]at h;exact qD h
@[simp] abbrev zs3 (m:Mon):Bool:=true
@[simp] abbrev zvg (m:Mon):Bool:=zen m
def zKW:Run:=rF1 (dT .mon) fun b=>(zs3 b,[aB (zvg b)])
def zVo (N:Nat)(a0:Mon):OA:=
 let y5:=(ln a0.Guests); (oN (zbl y5 1 2) (cond (nB (zbp y5 1 2)) oF (cond (ine (ln a0.Tables) y5) oF (oN (znq a0.Outer 8 12) (cond (nB (zil a0.Outer 8 12)) oF (cond (ine (ln a0.Out) 8) oF (cond (ine (ln a0.Dirty) 8) oF (cond (igt (ln a0.Outs) 40) oF (oN (zij a0.Pending) (cond (nB (ziK a0.Pending)) oF (oN (zbl a0.Traps 0 3) (cond (nB (zbp a0.Traps 0 3)) oF (oN (zbl a0.Own 0 1000000000) (cond (nB (zbp a0.Own 0 1000000000)) oF (iter (σ:=(Int×(Int×(Int×(Int×(Int×(lG×(lS×(lM×(lB×((List Int)×(lK×Unit)))))))))))) N (fun r2 s3=>let y6:=s3.2.2.2.2.2.2.1;let y3:=s3.2.2.2.2.2.1;let y7:=(ix y3 s3.2.1 zo); (cond (ilt s3.2.1 s3.1) (oN (inb s3.2.1 (ln y3)) (oN (zng y7) (cond (nB (zlr y7)) oF (r2 (s3.1,((zB .i64 s3.2.1 1),(s3.2.2.1,(s3.2.2.2.1,(s3.2.2.2.2.1,(y3,(y6,(s3.2.2.2.2.2.2.2.1,(s3.2.2.2.2.2.2.2.2.1,(s3.2.2.2.2.2.2.2.2.2.1,(s3.2.2.2.2.2.2.2.2.2.2.1,()))))))))))))))) (iter (σ:=(Int×(Int×(Int×(Int×(Int×(lS×(lM×(lB×(lG×((List Int)×(lK×Unit)))))))))))) N (fun r4 s5=>let y4:=s5.2.1;let y2:=s5.2.2.2.2.2.2.1;let y1:=(ix s5.2.2.2.2.2.1 y4 zM);let y0:=(r4 (s5.1,((zB .i64 y4 1),(s5.2.2.1,(s5.2.2.2.1,(s5.2.2.2.2.1,(s5.2.2.2.2.2.1,(y2,(s5.2.2.2.2.2.2.2.1,(s5.2.2.2.2.2.2.2.2.1,(s5.2.2.2.2.2.2.2.2.2.1,(s5.2.2.2.2.2.2.2.2.2.2.1,())))))))))))); (cond (ilt y4 s5.1) (oN (inb y4 (ln s5.2.2.2.2.2.1)) (oN zcX (cond (cond (ieq y1.Page zcl.Page) (ieq y1.Rights zcl.Rights) false) (oN (inb y4 (ln y2)) (oN (zii (ix y2 y4 [])) (cond (nB (zgB (ix y2 y4 []))) oF y0))) (oN (zdh y1.Rights 1) (cond (nB (zdH y1.Rights 1)) oF (oN (inb y4 (ln y2)) (cond (igt (ln (ix y2 y4 [])) 0) oF y0))))))) oT)) ((ln y6),(0,(s3.2.2.1,(s3.2.2.2.1,(s3.2.2.2.2.1,(y6,(s3.2.2.2.2.2.2.2.1,(s3.2.2.2.2.2.2.2.2.1,(y3,(s3.2.2.2.2.2.2.2.2.2.1,(s3.2.2.2.2.2.2.2.2.2.2.1,())))))))))))))) (y5,(0,(a0.Pending,(a0.Traps,(a0.Own,(a0.Guests,(a0.Outer,(a0.Out,(a0.Dirty,(a0.Outs,(a0.Tables,()))))))))))))))))))))))))))
def z4m:FuncId->Nat->Option Tmpl:=zl [(244,0,{ n:=106,tm:=[(1,.lp 0 0),(64,.sl 0 []),(65,ti),(66,ti)],lo:=[(0,[.sl 1 [],.sl 2 [],.sl 3 [],.sl 0 [],.sl 4 [],ti,ti,.sl 5 [],ti])],ro:=[(0,.guest,false),(1,.slot,false),(2,(.sl .int),false),(3,.bool,false),(4,.int,false),(5,.kept,false)] }),(244,2,{ n:=106,tm:=[(1,.lp 0 0),(75,.sl 0 []),(76,ti),(77,ti)],lo:=[(0,[.sl 0 [],.sl 1 [],.sl 2 [],.sl 3 [],.sl 4 [],ti,ti,.sl 5 [],ti])],ro:=[(0,.slot,false),(1,(.sl .int),false),(2,.bool,false),(3,.guest,false),(4,.int,false),(5,.kept,false)] })]
theorem z3i (a0:Mon)(hb:zby big [aT .mon a0])(hc:zs3 a0=true):∃N,zVo N a0=some [aB (zvg a0)]:=by
 have hg:a0.Guests.length<=big:=((zcz hb).1 (.s .guest a0.Guests) (by simp[AV.cvs,Ty.cells])).len
 have ho:a0.Outer.length<=big:=((zcz hb).1 (.s .slot a0.Outer) (by simp[AV.cvs,Ty.cells])).len
 refine zbo fun N hNN=>?_;unfold zVo zvg zen oN nB
 conv=>zeta
 refine must rfl (stB fun h0=>stI fun h1=>must rfl (stB fun h2=>stI fun h3=>stI fun h4=>stG fun h5=>must rfl (stB fun h6=>must rfl (stB fun h7=>must rfl (stB fun h8=>?_)))));have e1:=zto h2;have e3:ln a0.Out=8:=qD h3;simp only[ln] at e1 e3;refine (zbc a0.Guests (fun i (t:Unit)=>((ln a0.Guests),(i:Int),a0.Pending,a0.Traps,a0.Own,a0.Guests,a0.Outer,a0.Out,a0.Dirty,a0.Outs,a0.Tables,())) _ (fun _ (x:Guest) (_:Unit) κ=>bif zdl x then κ () else oF) (fun (t:Unit)=>(iter (σ:=(Int×(Int×(Int×(Int×(Int×(lS×(lM×(lB×(lG×((List Int)×(lK×Unit)))))))))))) N (fun r4 s5=>(cond (ilt s5.2.1 s5.1) (cond (inb s5.2.1 (ln s5.2.2.2.2.2.1)) (cond zcX (cond (cond (ieq (ix s5.2.2.2.2.2.1 s5.2.1 zM).Page zcl.Page) (ieq (ix s5.2.2.2.2.2.1 s5.2.1 zM).Rights zcl.Rights) false) (cond (inb s5.2.1 (ln s5.2.2.2.2.2.2.1)) (cond (zii (ix s5.2.2.2.2.2.2.1 s5.2.1 [])) (cond (cond (zgB (ix s5.2.2.2.2.2.2.1 s5.2.1 [])) false true) oF (r4 (s5.1,((zB .i64 s5.2.1 1),(s5.2.2.1,(s5.2.2.2.1,(s5.2.2.2.2.1,(s5.2.2.2.2.2.1,(s5.2.2.2.2.2.2.1,(s5.2.2.2.2.2.2.2.1,(s5.2.2.2.2.2.2.2.2.1,(s5.2.2.2.2.2.2.2.2.2.1,(s5.2.2.2.2.2.2.2.2.2.2.1,()))))))))))))) none) none) (cond (zdh (ix s5.2.2.2.2.2.1 s5.2.1 zM).Rights 1) (cond (cond (zdH (ix s5.2.2.2.2.2.1 s5.2.1 zM).Rights 1) false true) oF (cond (inb s5.2.1 (ln s5.2.2.2.2.2.2.1)) (cond (igt (ln (ix s5.2.2.2.2.2.2.1 s5.2.1 [])) 0) oF (r4 (s5.1,((zB .i64 s5.2.1 1),(s5.2.2.1,(s5.2.2.2.1,(s5.2.2.2.2.1,(s5.2.2.2.2.2.1,(s5.2.2.2.2.2.2.1,(s5.2.2.2.2.2.2.2.1,(s5.2.2.2.2.2.2.2.2.1,(s5.2.2.2.2.2.2.2.2.2.1,(s5.2.2.2.2.2.2.2.2.2.2.1,()))))))))))))) none)) none)) none) none) (some [(.one (.b true))]))) ((ln a0.Outer),(0,(a0.Pending,(a0.Traps,(a0.Own,(a0.Outer,(a0.Out,(a0.Dirty,(a0.Guests,(a0.Outs,(a0.Tables,()))))))))))))) (fun i hi t rec=>?_) (fun t rec=>?_) _ () (hNN hg)).trans ?_
 .simp only [zU hi,zK hi,zS hi,zL hi hg,cT];simp only[zng,zlr,cT];cases zdl a0.Guests[i]<;>rfl
 .simp only [zQ,cF]
 rw[zgs zdl];cases a0.Guests.all zdl
 .rfl
 simp only[cT];refine (zbc a0.Outer (fun j (u:Unit)=>((ln a0.Outer),(j:Int),a0.Pending,a0.Traps,a0.Own,a0.Outer,a0.Out,a0.Dirty,a0.Guests,a0.Outs,a0.Tables,())) _ (fun j (_:Slot) (_:Unit) κ=>bif fits a0 j then κ () else oF) (fun (u:Unit)=>(some [(.one (.b true))])) (fun j hj u rec1=>?_) (fun u rec1=>?_) _ () (hNN ho)).trans ?_
 .simp only [zU hj,zK hj,zS hj,zL hj ho,cT];have hj2:j<a0.Out.length:=by omega
  simp only[zcX,zcl,zii,zgB,zdh,zdH,zK hj2,zTp,cT];unfold fits zH7;simp only[zS hj,zc0];cases ieq a0.Outer[j].Page noSlot.Page<;>cases ieq a0.Outer[j].Rights noSlot.Rights<;>cases enough a0.Outer[j].Rights 1<;>cases ile (ln (ix a0.Out (j:Int) [])) 0<;>cases zcZ (ix a0.Out (j:Int) [])<;>rfl
 .simp only [zQ,cF]
 rw[zzW (fun j (_:Unit) κ=>bif fits a0 j then κ () else oF),zHW (fits a0),show a0.Outer.length=8 by omega]
 cases zvz (fits a0) 8 0<;>rfl
theorem zWJ:uY 244 zKW:=hF1 zLL zi zk zn z4m z3i
@[simp] abbrev ztl (m:Mon):Bool:=true
@[simp] abbrev zvp (m:Mon):Bool:=zen m
def zLe:Run:=rF1 (dT .mon) fun b=>(ztl b,[aB (zvp b)])
def zVD (N:Nat)(a0:Mon):OA:=
 (oN (zO (ln a0.Guests) 1 2) (cond (nB (zT (ln a0.Guests) 1 2)) oF (cond (ine (ln a0.Tables) (ln a0.Guests)) oF (oN (znG a0.Outer 8 12) (cond (nB (ziv a0.Outer 8 12)) oF (cond (ine (ln a0.Out) 8) oF (cond (ine (ln a0.Dirty) 8) oF (iter (σ:=(Int×(Int×(Int×(Int×(lS×(lM×(lB×(lG×((List Int)×(lK×Unit))))))))))) N (fun r2 s3=>let y3:=s3.2.2.2.2.2.2.2.1; (cond (ilt s3.1 (ln y3)) (oN (inb s3.1 (ln y3)) (oN (znC (ix y3 s3.1 zo)) (cond (nB (zlS (ix y3 s3.1 zo))) oF (r2 ((zB .i64 s3.1 1),(s3.2.1,(s3.2.2.1,(s3.2.2.2.1,(s3.2.2.2.2.1,(s3.2.2.2.2.2.1,(s3.2.2.2.2.2.2.1,(y3,(s3.2.2.2.2.2.2.2.2.1,(s3.2.2.2.2.2.2.2.2.2.1,())))))))))))))) (iter (σ:=(Int×(Int×(Int×(Int×(lS×(lM×(lB×(lG×((List Int)×(lK×Unit))))))))))) N (fun r4 s5=>let y7:=s5.2.2.2.2.1;let y4:=(inb s5.1 (ln s5.2.2.2.2.2.1));let y2:=(ix s5.2.2.2.2.2.1 s5.1 []);let y1:=(ix y7 s5.1 zM);let y6:=(ieq y1.Rights zbq.Rights);let y5:=(ieq y1.Page zbq.Page);let y0:=(r4 ((zB .i64 s5.1 1),(s5.2.1,(s5.2.2.1,(s5.2.2.2.1,(y7,(s5.2.2.2.2.2.1,(s5.2.2.2.2.2.2.1,(s5.2.2.2.2.2.2.2.1,(s5.2.2.2.2.2.2.2.2.1,(s5.2.2.2.2.2.2.2.2.2.1,()))))))))))); (cond (ilt s5.1 8) (oN (inb s5.1 (ln y7)) (oN zcd (cond (nB (cond y5 y6 false)) (oN y4 (cond (igt (ln y2) 0) oF (oN (inb s5.1 (ln y7)) (oN (zgS y1.Rights 1) (cond (nB (zhO y1.Rights 1)) oF (cond (nB (nB (cond y5 y6 false))) (oN y4 (oN (zf3 y2) (cond (nB (zfi y2)) oF y0))) y0)))))) (cond (nB (nB (cond y5 y6 false))) (oN y4 (oN (zf3 y2) (cond (nB (zfi y2)) oF y0))) y0)))) (cond (ile (ln s5.2.2.2.2.2.2.2.2.1) 40) (oN (zfk s5.2.1) (cond (zfj s5.2.1) (oN (zO s5.2.2.1 0 3) (cond (zT s5.2.2.1 0 3) (oN (zO s5.2.2.2.1 0 1000000000) (some [(aB (zT s5.2.2.2.1 0 1000000000))])) oF)) oF)) oF))) (0,(s3.2.1,(s3.2.2.1,(s3.2.2.2.1,(s3.2.2.2.2.1,(s3.2.2.2.2.2.1,(s3.2.2.2.2.2.2.1,(y3,(s3.2.2.2.2.2.2.2.2.1,(s3.2.2.2.2.2.2.2.2.2.1,()))))))))))))) (0,(a0.Pending,(a0.Traps,(a0.Own,(a0.Outer,(a0.Out,(a0.Dirty,(a0.Guests,(a0.Outs,(a0.Tables,()))))))))))))))))))
def z4o:FuncId->Nat->Option Tmpl:=zl [(306,0,{ n:=115,tm:=[(1,.lp 0 0),(3,ti)],lo:=[(0,[.sl 0 [],.sl 1 [],.sl 2 [],.sl 3 [],.sl 4 [],ti,ti,.sl 5 [],ti])],ro:=[(0,.slot,false),(1,(.sl .int),false),(2,.bool,false),(3,.guest,false),(4,.int,false),(5,.kept,false)] }),(306,2,{ n:=115,tm:=[(1,.lp 0 0),(4,ti)],lo:=[(0,[.sl 0 [],.sl 1 [],.sl 2 [],.sl 3 [],.sl 4 [],ti,ti,.sl 5 [],ti])],ro:=[(0,.slot,false),(1,(.sl .int),false),(2,.bool,false),(3,.guest,false),(4,.int,false),(5,.kept,false)] })]
theorem z3A (a0:Mon)(hb:zby big [aT .mon a0])(hc:ztl a0=true):∃N,zVD N a0=some [aB (zvp a0)]:=by
 have hg:a0.Guests.length<=big:=((zcz hb).1 (.s .guest a0.Guests) (by simp[AV.cvs,Ty.cells])).len
 refine zbo fun N hNN=>?_;unfold zVD zvp zen oN nB
 conv=>zeta
 refine must rfl (stB fun h0=>stI fun h1=>must rfl (stB fun h2=>stI fun h3=>stI fun h4=>?_));have e1:=zto h2;have e3:ln a0.Out=8:=qD h3;simp only[ln] at e1 e3;refine (zbc a0.Guests (fun i (t:Unit)=>((i:Int),a0.Pending,a0.Traps,a0.Own,a0.Outer,a0.Out,a0.Dirty,a0.Guests,a0.Outs,a0.Tables,())) _ (fun _ (x:Guest) (_:Unit) κ=>bif zdl x then κ () else oF) (fun (t:Unit)=>(iter (σ:=(Int×(Int×(Int×(Int×(lS×(lM×(lB×(lG×((List Int)×(lK×Unit))))))))))) N (fun r4 s5=>(cond (ilt s5.1 8) (cond (inb s5.1 (ln s5.2.2.2.2.1)) (cond zcd (cond (cond (cond (ieq (ix s5.2.2.2.2.1 s5.1 zM).Page zbq.Page) (ieq (ix s5.2.2.2.2.1 s5.1 zM).Rights zbq.Rights) false) false true) (cond (inb s5.1 (ln s5.2.2.2.2.2.1)) (cond (igt (ln (ix s5.2.2.2.2.2.1 s5.1 [])) 0) oF (cond (inb s5.1 (ln s5.2.2.2.2.1)) (cond (zgS (ix s5.2.2.2.2.1 s5.1 zM).Rights 1) (cond (cond (zhO (ix s5.2.2.2.2.1 s5.1 zM).Rights 1) false true) oF (cond (cond (cond (cond (ieq (ix s5.2.2.2.2.1 s5.1 zM).Page zbq.Page) (ieq (ix s5.2.2.2.2.1 s5.1 zM).Rights zbq.Rights) false) false true) false true) (cond (inb s5.1 (ln s5.2.2.2.2.2.1)) (cond (zf3 (ix s5.2.2.2.2.2.1 s5.1 [])) (cond (cond (zfi (ix s5.2.2.2.2.2.1 s5.1 [])) false true) oF (r4 ((zB .i64 s5.1 1),(s5.2.1,(s5.2.2.1,(s5.2.2.2.1,(s5.2.2.2.2.1,(s5.2.2.2.2.2.1,(s5.2.2.2.2.2.2.1,(s5.2.2.2.2.2.2.2.1,(s5.2.2.2.2.2.2.2.2.1,(s5.2.2.2.2.2.2.2.2.2.1,())))))))))))) none) none) (r4 ((zB .i64 s5.1 1),(s5.2.1,(s5.2.2.1,(s5.2.2.2.1,(s5.2.2.2.2.1,(s5.2.2.2.2.2.1,(s5.2.2.2.2.2.2.1,(s5.2.2.2.2.2.2.2.1,(s5.2.2.2.2.2.2.2.2.1,(s5.2.2.2.2.2.2.2.2.2.1,()))))))))))))) none) none)) none) (cond (cond (cond (cond (ieq (ix s5.2.2.2.2.1 s5.1 zM).Page zbq.Page) (ieq (ix s5.2.2.2.2.1 s5.1 zM).Rights zbq.Rights) false) false true) false true) (cond (inb s5.1 (ln s5.2.2.2.2.2.1)) (cond (zf3 (ix s5.2.2.2.2.2.1 s5.1 [])) (cond (cond (zfi (ix s5.2.2.2.2.2.1 s5.1 [])) false true) oF (r4 ((zB .i64 s5.1 1),(s5.2.1,(s5.2.2.1,(s5.2.2.2.1,(s5.2.2.2.2.1,(s5.2.2.2.2.2.1,(s5.2.2.2.2.2.2.1,(s5.2.2.2.2.2.2.2.1,(s5.2.2.2.2.2.2.2.2.1,(s5.2.2.2.2.2.2.2.2.2.1,())))))))))))) none) none) (r4 ((zB .i64 s5.1 1),(s5.2.1,(s5.2.2.1,(s5.2.2.2.1,(s5.2.2.2.2.1,(s5.2.2.2.2.2.1,(s5.2.2.2.2.2.2.1,(s5.2.2.2.2.2.2.2.1,(s5.2.2.2.2.2.2.2.2.1,(s5.2.2.2.2.2.2.2.2.2.1,()))))))))))))) none) none) (cond (ile (ln s5.2.2.2.2.2.2.2.2.1) 40) (cond (zfk s5.2.1) (cond (zfj s5.2.1) (cond (zO s5.2.2.1 0 3) (cond (zT s5.2.2.1 0 3) (cond (zO s5.2.2.2.1 0 1000000000) (some [(.one (.b (zT s5.2.2.2.1 0 1000000000)))]) none) oF) none) oF) none) oF))) (0,(a0.Pending,(a0.Traps,(a0.Own,(a0.Outer,(a0.Out,(a0.Dirty,(a0.Guests,(a0.Outs,(a0.Tables,())))))))))))) (fun i hi t rec=>?_) (fun t rec=>?_) _ () (hNN hg)).trans ?_
 .simp only [zU hi,zK hi,zS hi,zL hi hg,cT];simp only[znC,zlS,cT];cases zdl a0.Guests[i]<;>rfl
 .simp only [zQ,cF]
 rw[zgs zdl];cases hq:a0.Guests.all zdl
 .simp only [cF];cases ile (ln a0.Outs) 40<;>cases zgJ a0.Pending<;>cases win a0.Traps 0 3<;>cases win a0.Own 0 1000000000<;>rfl
 simp only[cT];refine (zBZ 8 (fun j (u:Unit)=>((j:Int),a0.Pending,a0.Traps,a0.Own,a0.Outer,a0.Out,a0.Dirty,a0.Guests,a0.Outs,a0.Tables,())) _ (fun j (_:Unit) κ=>bif fits a0 j then κ () else oF) (fun (u:Unit)=>(cond (ile (ln a0.Outs) 40) (cond (zfk a0.Pending) (cond (zfj a0.Pending) (cond (zO a0.Traps 0 3) (cond (zT a0.Traps 0 3) (cond (zO a0.Own 0 1000000000) (some [(.one (.b (zT a0.Own 0 1000000000)))]) none) oF) none) oF) none) oF)) (fun j hj u rec1=>?_) (fun u rec1=>?_) _ () (hNN (by decide))).trans ?_
 .simp only [show ilt (j:Int) 8=true from qL (by omega),zL hj (show 8<=big by decide),cT]
  have hj1:j<a0.Outer.length:=by omega
  have hj2:j<a0.Out.length:=by omega
  simp only[zcd,zbq,zf3,zfi,zgS,zhO,zK hj1,zK hj2,zTp,cT];unfold fits zH7;simp only[zS hj1,zc0];cases ieq a0.Outer[j].Page noSlot.Page<;>cases ieq a0.Outer[j].Rights noSlot.Rights<;>cases enough a0.Outer[j].Rights 1<;>cases ile (ln (ix a0.Out (j:Int) [])) 0<;>cases zcZ (ix a0.Out (j:Int) [])<;>rfl
 .simp only [show ilt (((8:Nat)):Int) 8=false from qH (by omega),cF]
  rfl
 rw[zHW (fits a0)];simp only[zfk,zfj,zO,zYZ,cT];cases zvz (fits a0) 8 0<;>cases ile (ln a0.Outs) 40<;>cases zgJ a0.Pending<;>cases win a0.Traps 0 3<;>cases win a0.Own 0 1000000000<;>rfl
theorem zW1:uY 306 zLe:=hF1 zLL zi zk zn z4o z3A
def zbbt:zY:=[(306,zLe),(244,zKW)]++zbbs
theorem zLM:zJ zbbt:=zf zW1 (zf zWJ zLL)
def zjB:List Slot->List Bool->Option (List Bool)
 | [],u=>some u
 | s :: l,u=>bif ilt s.Page 0 then zjB l u else (cond (ix u s.Page false) none (zjB l (up u s.Page true)))
def zne:List Mon->List Bool->Bool
 | [],_=>true
 | m :: l,u=>bif zen m then (match zjB m.Outer u with|some u'=>zne l u'|none=>false) else false
def zbF (h:Host):Bool:=bif zi2 h.Memory 12 then (cond (win (ln h.Mons) 1 3) (cond (zHM h.Buffer) (cond (zHM h.IoBuffer) (zne h.Mons (rp 12 false)) false) false) false) else false
theorem zqQ:∀(l:List Slot) (u u':List Bool),zjB l u=some u'->u'.length=u.length
 | [],u,u',h=>by cases h;rfl
 | s :: l,u,u',h=>by
  simp only[zjB]at h;cases h1:ilt s.Page 0
  .rw [h1]at h;cases h2:ix u s.Page false
   .rw [h2]at h;simpa using zqQ l _ u' h
   .rw [h2]at h;cases h
  .rw [h1]at h;exact zqQ l u u' h
theorem zIe {t:List Slot}{n:Int}(h:zdy t n 12=true):∀s∈t,s.Page<12:=by
 intro s hs;unfold zdy at h;cases h1:t.all (fun s=>zeW s 12)
 .rw [h1]at h;cases h
 .have:=qU.1 h1 s hs;unfold zeW at this;cases h2:zc0 s noSlot
  .rw [h2] at this;simp only[cF,show igt 12 0=true from rfl,cT] at this
   cases h3:win s.Page 0 (wsub .i64 12 1)
   .rw [h3] at this;cases this
   .have:=(zfo.1 h3).2;rw[show wsub .i64 12 1=11 from rfl] at this
    omega
  .unfold zc0 at h2;rw[qE]at h2;have h2:s.Page = -1:=qD h2.1;omega
theorem z2D {s:Slot}{u:List Bool}(h:s.Page<12)(hu:u.length=12)(h0:ilt s.Page 0=false):inb s.Page (ln u)=true:=by
 have:=qW h0;exact qL (by simp only[ln];omega)
def zvA {ρ:Type}(r:Option ρ)(y:Slot)(u:List Bool)(κ:List Bool->Option ρ):Option ρ:=bif ilt y.Page 0 then κ u else (cond (inb y.Page (ln u)) (cond (ix u y.Page false) r (cond (inb y.Page (ln u)) (share (up u y.Page true) (fun x6=>κ x6)) none)) none)
theorem zBJ {ρ:Type}(r:Option ρ)(K:List Bool->Option ρ):∀(l:List Slot) (i:Nat) (u:List Bool),(∀s∈l,s.Page<12)->u.length=12 ->
 goL (fun _ y u κ=>zvA r y u κ) K l i u=match zjB l u with|some u'=>K u'|none=>r
 | [],_,_,_,_=>rfl
 | s :: l,i,u,h,hu=>by
  simp only[goL,zjB,zvA];cases h1:ilt s.Page 0
  .have hh:=z2D (h s (by simp)) hu h1
   rw[hh];cases ix u s.Page false
   .simp only [cF,cT,share];exact zBJ r K l (i+1) _ (fun s hs=>h s (by simp[hs])) (by simpa using hu)
   .rfl
  .simp only [cT];exact zBJ r K l (i+1) u (fun s hs=>h s (by simp[hs])) hu
def z5A {ρ:Type}(r:Option ρ)(m:Mon)(u:List Bool)(κ:List Bool->Option ρ):Option ρ:=bif zen m then goL (fun _ y u κ=>zvA r y u κ) κ m.Outer 0 u else r
theorem zcM {c x:Bool}:((cond c x false)=true)↔c=true/\x=true:=by
 cases c<;>simp
theorem znx {m:Mon}(h:zen m=true):zdy m.Outer 8 12=true:=by
 unfold zen at h;simp only[zcM]at h;exact h.2.2.1
theorem zZQ {K:Bool->OA}(k:List Bool->OA)(hk:∀u,k u=K true):∀(l:List Mon) (i:Nat) (u:List Bool),u.length=12 ->
 goL (fun _ m u κ=>z5A (K false) m u κ) k l i u=K (zne l u)
 | [],_,u,_=>hk u
 | m :: l,i,u,hu=>by
  simp only[goL,zne,z5A];cases h1:zen m
  .rfl
  .simp only [cT];have ht:=znx h1;rw[zBJ _ _ _ _ _ (zIe ht) hu];cases h2:zjB m.Outer u with
   | none=>rfl
   | some u'=>exact zZQ k hk l (i+1) u' ((zqQ _ _ _ h2).trans hu)
@[simp] abbrev zcL (h:Host):Bool:=true
@[simp] abbrev zcG (h:Host):Bool:=zbF h
def zGs:Run:=rF1 dH fun b=>(zcL b,[aB (zcG b)])
def zNN (N:Nat)(a0:Host):OA:=
 (oN (zsY a0.Memory 12) (cond (nB (zmf a0.Memory 12)) oF (oN (zbl (ln a0.Mons) 1 3) (cond (nB (zbp (ln a0.Mons) 1 3)) oF (oN (zpn a0.Buffer) (cond (nB (zpm a0.Buffer)) oF (oN (zpn a0.IoBuffer) (cond (nB (zpm a0.IoBuffer)) oF (oN (cond (few 12) (ieq 12 12) false) (iter (σ:=(Int×(Int×(lB×(lN×Unit))))) N (fun r2 s3=>let y1:=(ix s3.2.2.2.1 s3.2.1 zh); (cond (ilt s3.2.1 s3.1) (oN (inb s3.2.1 (ln s3.2.2.2.1)) (oN (zs3 y1) (cond (nB (zvg y1)) oF (iter (σ:=(Int×(Int×(Int×(Int×(Int×(lB×(lN×Unit)))))))) N (fun r4 s5=>let y4:=s5.2.2.2.2.1;let y3:=s5.2.2.2.2.2.2.1;let y5:=(ix y3 s5.2.2.1 zh).Outer;let y2:=s5.2.2.2.2.2.1;let y0:=(ix y5 y4 zM).Page; (cond (ilt y4 s5.2.2.2.1) (oN (inb y4 (ln y5)) (cond (ilt y0 0) (r4 (s5.1,(s5.2.1,(s5.2.2.1,(s5.2.2.2.1,((zB .i64 y4 1),(y2,(y3,())))))))) (oN (inb y0 (ln y2)) (cond (ix y2 y0 false) oF (oN (inb y0 (ln y2)) (share (up y2 y0 true) (fun x6=>(r4 (s5.1,(s5.2.1,(s5.2.2.1,(s5.2.2.2.1,((zB .i64 y4 1),(x6,(y3,()))))))))))))))) (r2 (s5.1,((zB .i64 s5.2.1 1),(y2,(y3,()))))))) (s3.1,(s3.2.1,(s3.2.1,((ln y1.Outer),(0,(s3.2.2.1,(s3.2.2.2.1,()))))))))))) oT)) ((ln a0.Mons),(0,((rp 12 false),(a0.Mons,()))))))))))))))
def z19:FuncId->Nat->Option Tmpl:=zl [(143,0,{ n:=63,tm:=[(3,.sl 0 []),(33,.sl 1 []),(34,ti),(35,ti)],lo:=[],ro:=[(0,.bool,true),(1,.mon,false)] }),(143,2,{ n:=63,tm:=[(3,.sl 0 []),(33,.sl 1 []),(34,ti),(35,ti),(43,.sl 1 [0]),(44,ti),(45,ti)],lo:=[],ro:=[(0,.bool,true),(1,.mon,false)] })]
theorem z0h (a0:Host)(hb:zby big [aH a0])(hc:zcL a0=true):∃N,zNN N a0=some [aB (zcG a0)]:=by
 have hm:CVB big (.s .mon a0.Mons):=(zcz hb).1 _ (by simp[AV.cvs,zW])
 have hl:=hm.len;refine zbo fun N hNN=>?_;unfold zNN zcG zbF oN nB
 conv=>zeta
 refine must rfl (stB fun h0=>must rfl (stB fun h1=>must rfl (stB fun h2=>must rfl (stB fun h3=>must rfl ?_))));refine (zbc a0.Mons (fun i (t:lB)=>((ln a0.Mons),(i:Int),t,a0.Mons,())) _ (fun _ (x:Mon) (u:List Bool) κ=>z5A (oF) x u κ) (fun (t:lB)=>(some [(.one (.b true))])) (fun i hi t rec=>?_) (fun t rec=>?_) _ ((rp 12 false)) (hNN hl)).trans ?_
 .simp only [zU hi,zK hi,zS hi,zL hi hl,cT];unfold z5A;cases h4:zen a0.Mons[i]
  .simp only [zs3,zvg,h4,cT,cF]
  simp only[zs3,zvg,h4,cT,cF];have ho:a0.Mons[i].Outer.length<=big:=(hm.inv.2 _ (jE hi) (.s .slot _) (by simp[Ty.cells])).len
  refine (zbc a0.Mons[i].Outer (fun j (u:lB)=>((ln a0.Mons),(i:Int),(i:Int),(ln a0.Mons[i].Outer),(j:Int),u,a0.Mons,())) _ (fun _ (y:Slot) (u:List Bool) κ=>zvA (oF) y u κ) (fun (u:lB)=>(rec ((ln a0.Mons),((((i+1:Nat)):Int),(u,(a0.Mons,())))))) (fun j hj u rec1=>?_) (fun u rec1=>?_) _ (t) (hNN ho)).trans ?_
  .simp only [zU hj,zK hj,zS hj,zL hj ho,cT,zK hi,zS hi,zL hi hl];rfl
  .simp only [zQ,cF,zK hi,zS hi,zL hi hl]
  rfl
 .simp only [zQ,cF]
 exact zZQ (K:=fun b=>some [AV.one (.b b)]) _ (fun _=>rfl) _ _ _ rfl
theorem zSn:uY 143 zGs:=hF1 zLM zi zk zn z19 z0h
@[simp] abbrev zfg (h:Host):Bool:=true
@[simp] abbrev zff (h:Host):Bool:=zbF h
theorem zLX {ρ:Type}(r:Option ρ)(k:List Bool->Option ρ)(m:Mon):∀(n i:Nat) (u:List Bool),(∀s∈m.Outer,s.Page<12)->u.length=12->i+n=m.Outer.length ->
 goN (fun j u κ=>bif inb (j:Int) (ln m.Outer) then zvA r (ix m.Outer (j:Int) zM) u κ else none) k n i u=goL (fun _ y u κ=>zvA r y u κ) k (m.Outer.drop i) i u
 | 0,i,u,_,_,h=>by
  have:i=m.Outer.length:=by omega
  subst this;simp[goN,goL]
 | n+1,i,u,hs,hu,h=>by
  have hi:i<m.Outer.length:=by omega
  rw[kH hi];simp only[goN,goL,zK hi,zS hi,cT,zvA];cases h1:ilt m.Outer[i].Page 0
  .rw [z2D (hs _ (jE hi)) hu h1];cases ix u m.Outer[i].Page false
   .simp only [cF,cT,share];exact zLX r k m n (i+1) _ hs (by simpa using hu) (by omega)
   .rfl
  .simp only [cT];exact zLX r k m n (i+1) u hs hu (by omega)
def zG8:Run:=rF1 dH fun b=>(zfg b,[aB (zff b)])
def zOt (N:Nat)(a0:Host):OA:=
 (oN (ztk a0.Memory 12) (cond (nB (zmR a0.Memory 12)) oF (oN (zO (ln a0.Mons) 1 3) (cond (nB (zT (ln a0.Mons) 1 3)) oF (oN (zqo a0.Buffer) (cond (nB (zqn a0.Buffer)) oF (oN (zqo a0.IoBuffer) (cond (nB (zqn a0.IoBuffer)) oF (oN (cond (few 12) (ieq 12 12) false) (iter (σ:=(Int×(lB×(lM×(lN×(lE×(lE×Unit))))))) N (fun r2 s3=>let y7:=(ix s3.2.2.2.1 s3.1 zh); (cond (ilt s3.1 (ln s3.2.2.2.1)) (oN (inb s3.1 (ln s3.2.2.2.1)) (oN (ztl y7) (cond (nB (zvp y7)) oF (iter (σ:=(Int×(Int×(lB×(lM×(lN×(lE×(lE×Unit)))))))) N (fun r4 s5=>let y6:=(zB .i64 s5.2.1 1);let y5:=s5.2.2.2.2.2.1;let y4:=s5.2.2.2.2.2.2.1;let y3:=s5.2.2.1;let y2:=s5.2.2.2.2.1;let y8:=(ix y2 s5.1 zh).Outer;let y1:=(r4 (s5.1,(y6,(y3,(s5.2.2.2.1,(y2,(y5,(y4,()))))))));let y0:=(ix y8 s5.2.1 zM).Page;let y9:=(inb y0 (ln y3)); (cond (ilt s5.2.1 8) (oN (inb s5.1 (ln y2)) (oN (inb s5.2.1 (ln y8)) (cond (ige y0 0) (oN y9 (cond (ix y3 y0 false) oF (cond (ige y0 0) (oN y9 (share (up y3 y0 true) (fun x6=>(r4 (s5.1,(y6,(x6,(s5.2.2.2.1,(y2,(y5,(y4,()))))))))))) y1))) (cond (ige y0 0) (oN y9 (share (up y3 y0 true) (fun x6=>(r4 (s5.1,(y6,(x6,(s5.2.2.2.1,(y2,(y5,(y4,()))))))))))) y1)))) (r2 ((zB .i64 s5.1 1),(y3,(s5.2.2.2.1,(y2,(y5,(y4,()))))))))) (s3.1,(0,(s3.2.1,(s3.2.2.1,(s3.2.2.2.1,(s3.2.2.2.2.1,(s3.2.2.2.2.2.1,()))))))))))) oT)) (0,((rp 12 false),(a0.Memory,(a0.Mons,(a0.Buffer,(a0.IoBuffer,()))))))))))))))))
def z2r:FuncId->Nat->Option Tmpl:=zl [(204,0,{ n:=72,tm:=[(1,.lp 0 0),(3,.sl 0 []),(4,ti)],lo:=[(0,[.sl 1 [],.sl 2 [],.sl 3 [],.sl 4 []])],ro:=[(0,.bool,true),(1,(.sl .int),false),(2,.mon,false),(3,.entry,false),(4,.entry,false)] }),(204,2,{ n:=72,tm:=[(1,.lp 0 0),(3,.sl 0 []),(4,ti),(5,ti)],lo:=[(0,[.sl 1 [],.sl 2 [],.sl 3 [],.sl 4 []])],ro:=[(0,.bool,true),(1,(.sl .int),false),(2,.mon,false),(3,.entry,false),(4,.entry,false)] })]
theorem z0Z (a0:Host)(hb:zby big [aH a0])(hc:zfg a0=true):∃N,zOt N a0=some [aB (zff a0)]:=by
 have hm:CVB big (.s .mon a0.Mons):=(zcz hb).1 _ (by simp[AV.cvs,zW])
 have hl:=hm.len;refine zbo fun N hNN=>?_;unfold zOt zff zbF oN nB
 conv=>zeta
 refine must rfl (stB fun h0=>must rfl (stB fun h1=>must rfl (stB fun h2=>must rfl (stB fun h3=>must rfl ?_))));refine (zbc a0.Mons (fun i (t:lB)=>((i:Int),t,a0.Memory,a0.Mons,a0.Buffer,a0.IoBuffer,())) _ (fun _ (x:Mon) (u:List Bool) κ=>bif zen x then goN (fun j u κ=>bif inb (j:Int) (ln x.Outer) then zvA (oF) (ix x.Outer (j:Int) zM) u κ else none) κ 8 0 u else oF) (fun (t:lB)=>(some [(.one (.b true))])) (fun i hi t rec=>?_) (fun t rec=>?_) _ ((rp 12 false)) (hNN hl)).trans ?_
 .simp only [zU hi,zK hi,zS hi,zL hi hl,cT];cases h4:zen a0.Mons[i]
  .simp only [ztl,zvp,h4,cT,cF]
  simp only[ztl,zvp,h4,cT,cF];refine (zBZ 8 (fun j (u:lB)=>((i:Int),(j:Int),u,a0.Memory,a0.Mons,a0.Buffer,a0.IoBuffer,())) _ (fun j (u:List Bool) κ=>bif inb (j:Int) (ln a0.Mons[i].Outer) then zvA (oF) (ix a0.Mons[i].Outer (j:Int) zM) u κ else none) (fun (u:lB)=>(rec ((((i+1:Nat)):Int),(u,(a0.Memory,(a0.Mons,(a0.Buffer,(a0.IoBuffer,())))))))) (fun j hj u rec1=>?_) (fun u rec1=>?_) _ (t) (hNN (by decide))).trans ?_
  .simp only [show ilt (j:Int) 8=true from qL (by omega),zL hj (show 8<=big by decide),cT,zK hi,zS hi,zL hi hl]
   unfold zvA;have e:ige (ix a0.Mons[i].Outer (j:Int) zM).Page 0 = !ilt (ix a0.Mons[i].Outer (j:Int) zM).Page 0:=by rw[zbcT,Bool.not_not]
   simp only[e];cases ilt (ix a0.Mons[i].Outer (j:Int) zM).Page 0<;>cases inb (j:Int) (ln a0.Mons[i].Outer)<;>cases inb (ix a0.Mons[i].Outer (j:Int) zM).Page (ln u)<;>cases ix u (ix a0.Mons[i].Outer (j:Int) zM).Page false<;>rfl
  .simp only [show ilt (((8:Nat)):Int) 8=false from qH (by omega),cF,zK hi,zS hi,zL hi hl]
  rfl
 .simp only [zQ,cF]
 have key:∀(l:List Mon) (i:Nat) (u:List Bool),u.length=12->goL (fun _ (x:Mon) (u:List Bool) κ=>bif zen x then goN (fun j u κ=>bif inb (j:Int) (ln x.Outer) then zvA (oF) (ix x.Outer (j:Int) zM) u κ else none) κ 8 0 u else oF) (fun _=>oT) l i u=some [AV.one (.b (zne l u))]:=by
  intro l
  induction l with
  | nil=>intro i u _;rfl
  | cons m l ih =>
   intro i u hu;simp only[goL,zne];cases h1:zen m
   .rfl
   .have ht:=znx h1;have e8:0+8=m.Outer.length:=by have:=zto ht;simp only[ln] at this;omega
    simp only[cT];rw[zLX _ _ m 8 0 u (zIe ht) hu e8,List.drop_zero,zBJ _ _ _ _ _ (zIe ht) hu];cases h2:zjB m.Outer u with
    | none=>rfl
    | some u'=>exact ih (i+1) u' ((zqQ _ _ _ h2).trans hu)
 exact key _ _ _ rfl
theorem zS3:uY 204 zG8:=hF1 zLM zi zk zn z2r z0Z
def zbbu:zY:=[(204,zG8),(143,zGs)]++zbbt
theorem zBv:zJ zbbu:=zf zS3 (zf zSn zLM)
theorem z6h {h:Host}(hh:zbF h=true):(h.Mons.length:Int)<=3:=by
 unfold zbF at hh;simp only[zcM]at hh;exact (zfo.1 hh.2.1).2
def zbL (h:Host)(m:Int):Bool:=bif zbF h then hasB m (ln h.Mons) else false
def zbB (h:Host)(m p:Int):Bool:=bif zbF h then (cond (hasB m (ln h.Mons)) (hasB p 8) false) else false
theorem zVf {h:Host}(hh:zbF h=true)(m:Int):win m 0 (wsub .i64 (ln h.Mons) 1)=hasB m (ln h.Mons):=zrK (by have:=z6h hh;omega) m
theorem win7 (p:Int):win p 0 7=hasB p 8:=by
 unfold win ige ile hasB
 by_cases h1:0<=p<;>by_cases h2:p<8
 .rw [qL (p:=p≥0) (by omega),qL (p:=p<=7) (by omega),qL (p:=0<=p/\p<8) ⟨h1,h2⟩];rfl
 .rw [qH (p:=p<=7) (by omega),qH (p:=0<=p/\p<8) (by omega)];simp
 .rw [qH (p:=p≥0) (by omega),qH (p:=0<=p/\p<8) (by omega)];simp
 .rw [qH (p:=p≥0) (by omega),qH (p:=0<=p/\p<8) (by omega)];simp
@[simp] abbrev zfm (h:Host)(m:Int):Bool:=true
@[simp] abbrev zfl (h:Host)(m:Int):Bool:=zbL h m
def zHr:Run:=rF2 dH dI fun b c=>(zfm b c,[aB (zfl b c)])
def zOL (N:Nat)(a0:Host)(a1:Int):OA:=
 (oN (zfg a0) (cond (zff a0) (oN (zO a1 0 (wsub .i64 (ln a0.Mons) 1)) (some [(aB (zT a1 0 (wsub .i64 (ln a0.Mons) 1)))])) oF))
theorem z1k (a0:Host)(a1:Int)(hc:zfm a0 a1=true):∃N,zOL N a0 a1=some [aB (zfl a0 a1)]:=by
 refine ⟨0,?_⟩;unfold zOL zfl zbL oN;cases hh:zbF a0
 .simp only [zfg,zff,hh,cT,cF]
 .simp only [zfg,zff,hh,cT,zO,zYZ,zVf hh]
theorem zTm:uY 116 zHr:=kF2 zBv zi zk zn (zl []) z1k
@[simp] abbrev zo5 (h:Host)(m p:Int):Bool:=true
@[simp] abbrev zh9 (h:Host)(m p:Int):Bool:=zbB h m p
def zLk:Run:=rF3 dH dI dI fun b c d=>(zo5 b c d,[aB (zh9 b c d)])
def zVJ (N:Nat)(a0:Host)(a1 a2:Int):OA:=
 (oN (zfg a0) (cond (zff a0) (oN (zO a1 0 (wsub .i64 (ln a0.Mons) 1)) (cond (zT a1 0 (wsub .i64 (ln a0.Mons) 1)) (oN (zO a2 0 7) (some [(aB (zT a2 0 7))])) oF)) oF))
theorem z3H (a0:Host)(a1 a2:Int)(hc:zo5 a0 a1 a2=true):∃N,zVJ N a0 a1 a2=some [aB (zh9 a0 a1 a2)]:=by
 refine ⟨0,?_⟩;unfold zVJ zh9 zbB oN;cases hh:zbF a0
 .simp only [zfg,zff,hh,cT,cF]
 .simp only [zfg,zff,hh,cT,zO,zYZ,zVf hh,win7];cases hasB a1 (ln a0.Mons)<;>rfl
theorem zW8:uY 128 zLk:=kF3 zBv zi zk zn (zl []) z3H
@[simp] abbrev zns (h:Host)(m p:Int):Bool:=true
@[simp] abbrev zim (h:Host)(m p:Int):Bool:=zbB h m p
def zDu:Run:=rF3 dH dI dI fun b c d=>(zns b c d,[aB (zim b c d)])
def zJN (N:Nat)(a0:Host)(a1 a2:Int):OA:=
 (oN (zcL a0) (cond (zcG a0) (oN (zbx a1 (ln a0.Mons)) (cond (zbO a1 (ln a0.Mons)) (oN (zbx a2 8) (some [(aB (zbO a2 8))])) oF)) oF))
theorem zXA (a0:Host)(a1 a2:Int)(hc:zns a0 a1 a2=true):∃N,zJN N a0 a1 a2=some [aB (zim a0 a1 a2)]:=by
 refine ⟨0,?_⟩;unfold zJN zim zbB oN;cases hh:zbF a0
 .simp only [zcL,zcG,hh,cT,cF]
 .simp only [zcL,zcG,hh,cT,zbx,zbO];cases hasB a1 (ln a0.Mons)<;>rfl
theorem zPz:uY 185 zDu:=kF3 zBv zi zk zn (zl []) zXA
def zbbv:zY:=[(116,zHr),(128,zLk),(185,zDu)]++zbbu
theorem zZy:zJ zbbv:=zf zTm (zf zW8 (zf zPz zBv))
end
end Go.Proofs.YtmjbkmbimgdodaaGreat.E
