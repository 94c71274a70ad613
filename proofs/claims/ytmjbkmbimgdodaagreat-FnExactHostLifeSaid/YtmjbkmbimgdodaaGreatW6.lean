/- What is proved here: a part of the proof that the statement of this claim holds (several texts of wip/, laid together). -/
import Derived.Test.YtmjbkmbimgdodaaGreatW5
import Derived.Shelf.Bits.Mul64
import Derived.Ground.NamesProg
import Derived.Laws.CopyOwn
import Derived.Deep.RegionLaw
import Derived.WalkKit
import Derived.Tactics2
namespace Go.Proofs.YtmjbkmbimgdodaaGreat.E
open Go
set_option linter.unusedVariables false
set_option maxRecDepth 100000
set_option linter.unusedSimpArgs false
set_option linter.unusedSectionVars false
noncomputable section
def zbbR:zY:=[(138,znZ),(98,zn0)]++zbbQ
theorem z9P:zJ zbbR:=zf zpi (zf zpj z9O)
def cnt (l:List Mon):List Nat:=l.map fun x=>x.Guests.length
theorem zFt {l l':List Mon}(h:zdW l'=zdW l):cnt l'=cnt l:=by
 have e:∀l:List Mon,cnt l=(zdW l).map List.length:=fun l=>by simp[cnt,zdW]
 rw[e,e,h]
theorem zsJ {l:List Mon}{m:Int}{x:Mon}(hm:hasB m (ln l)=true)(hx:x.Guests.length=(ix l m mZ).Guests.length):cnt (up l m x)=cnt l:=by
 obtain ⟨k,rfl,hk⟩:=zdn (n:=l.length) hm;unfold cnt up;rw[List.map_set,kC,hx,zS hk];have:=@uJ _ (l.map fun x=>x.Guests.length) k (by simpa using hk)
 simpa using this
theorem z4B {l l':List Mon}(h:cnt l'=cnt l):l'.length=l.length:=by
 have:=congrArg List.length h;simpa [cnt] using this
theorem zbdM {l l':List Mon}(h:cnt l'=cnt l)(m:Int):(ix l' m mZ).Guests.length=(ix l m mZ).Guests.length:=by
 have h2:(cnt l')[m.toNat]?=(cnt l)[m.toNat]?:=by rw[h]
 unfold cnt at h2;rw[qN,qN]at h2;unfold ix;simp only[kE];cases h3:l'[m.toNat]? <;> cases h4:l[m.toNat]? <;> rw [h3,h4]at h2<;>simp at h2 ⊢;exact h2
theorem z4U (h:Host)(m p:Int):(zfr h m p).Memory=h.Memory:=(zfb (zf2 h m p) m p noSlot).2
theorem zbc2 (h:Host):(zdr h).Memory=h.Memory:=by
 unfold zdr;cases ieq (ln (zcF h)) 0
 .rfl
 .exact z4U _ _ _
theorem zbc1 (m:List (List Int))(p:Int)(c:List Int):(zj8 m p c).length=m.length:=by
 unfold zj8;cases hasB p (ln m)
 .rfl
 .cases zcZ c
  .rfl
  .simp
theorem zbcZ (m:List (List Int))(p c v:Int):(zem m p c v).length=m.length:=by
 unfold zem;cases zjq m p c
 .rfl
 .cases win v 0 99
  .rfl
  .simp
theorem zQ0 (h:Host)(m p:Int):(fetched h m p).Memory.length=h.Memory.length:=by
 unfold fetched zlf;rw[(zfb _ _ _ _).2];unfold landing;rw[zbc1,zbc2]
theorem z1r (h:Host)(m p n:Int):(zmy h m p n).Memory=h.Memory:=by
 unfold zmy;cases ieq (wand .i64 n 2) 0
 .unfold opened;cases ieq (wand .i64 (ix (ix (zbR h m p).Mons m mZ).Outer p sZ).Rights 2) 0
  .rfl
  .exact (zfb _ _ _ _).2
 .rfl
theorem zWg (h:Host)(m p n:Int):(mended h m p n).Memory.length=h.Memory.length:=by
 unfold mended;cases ieq (ix (ix h.Mons m mZ).Outer p sZ).Page (-1)
 .exact congrArg List.length (z1r _ _ _ _)
 .exact (congrArg List.length (z1r _ _ _ _)).trans (zQ0 _ _ _)
theorem z8p (h:Host)(m g p:Int)(io:Bool):(zYS h m g p io).Memory=h.Memory:=by cases io<;>rfl
theorem zbai (h:Host)(b:List Entry)(m g page need q:Int)(io:Bool):(ziq h b m g page need q io).1.Memory.length=h.Memory.length:=by
 unfold ziq;cases zkw b m g page need
 .cases zez h m g page need
  .exact congrArg List.length (z8p _ _ _ _ _)
  .exact (congrArg List.length (z8p _ _ _ _ _)).trans (zWg h m q need)
 .rfl
theorem zbc0 (h:Host)(b:List Entry)(m g page need:Int)(io:Bool):(lookOf h b m g page need io).1.Memory.length=h.Memory.length:=by
 unfold lookOf;cases zbK h m g page need
 .rfl
 .simp only [cT];rw[zbai];cases ieq need 2<;>rfl
structure Keep (h r:Host):Prop where
 shape:Shape r
 cnt:cnt r.Mons=cnt h.Mons
 mem:r.Memory.length=h.Memory.length
theorem Keep.has {h r:Host}(k:Keep h r){m:Int}(hm:hasB m (ln h.Mons)=true):hasB m (ln r.Mons)=true:=by
 rw[ln,z4B k.cnt];exact hm
theorem Keep.hg {h r:Host}(k:Keep h r){m g:Int}(hg:hasB g (ln (ix h.Mons m mZ).Guests)=true):hasB g (ln (ix r.Mons m mZ).Guests)=true:=by
 rw[ln,zbdM k.cnt];exact hg
theorem Keep.trans {a b c:Host}(h:Keep a b)(k:Keep b c):Keep a c:=⟨k.shape,k.cnt.trans h.cnt,k.mem.trans h.mem⟩
theorem Keep.rfl' {h:Host}(hs:Shape h):Keep h h:=⟨hs,rfl,rfl⟩
theorem zoX {h:Host}{m g:Int}{x:Guest}(hs:Shape h)(hm:hasB m (ln h.Mons)=true)(hx:SmG x):Keep h (zgp h m g x):=⟨z6S hs hm hx,zsJ hm (by simp),rfl⟩
theorem zs8 {h:Host}{b:List Entry}{m g page need:Int}{io:Bool}(hs:SmH h)(hh:zb0 h m g=true):Keep h (lookOf h b m g page need io).1:=by
 have k:=zvj (b:=b) (page:=page) (need:=need) (io:=io) hs hh;exact ⟨k.shape,zFt k.gs,zbc0 _ _ _ _ _ _ _⟩
theorem zGa {h:Host}{p c v:Int}(hs:Shape h):Keep h { h with Memory:=zem h.Memory p c v }:=⟨zWs hs (zwU hs.1.1),rfl,zbcZ _ _ _ _⟩
theorem z6n {h:Host}{m:Int}(hs:Shape h)(hm:hasB m (ln h.Mons)=true):Keep h (owned h m):=by
 obtain ⟨g1,g2⟩:=zbY hs hm;unfold owned;cases ilt (ix h.Mons m mZ).Own 1000000000
 .exact Keep.rfl' hs
 .exact ⟨zfS hs g1 g2,zsJ hm rfl,rfl⟩
theorem z6m {h:Host}{m n:Int}(hs:Shape h)(hm:hasB m (ln h.Mons)=true):Keep h (zlK h m n):=by
 obtain ⟨g1,g2⟩:=zbY hs hm;unfold zlK;cases h3:ilt (ln (ix h.Mons m mZ).Outs) 40
 .exact Keep.rfl' hs
 .have h4:=qD h3;simp only[ln]at h4;refine ⟨zfS hs ⟨g1.1,g1.2.1,g1.2.2.1,g1.2.2.2.1,?_,g1.2.2.2.2.2⟩ g2,zsJ hm rfl,rfl⟩;simp[ap];omega
theorem z8f {h:Host}{m g:Int}{x:Guest}{w:Int}(hs:Shape h)(hm:hasB m (ln h.Mons)=true)(hx:SmG x):Keep h (zk9 h m g x w):=by
 have k1:Keep h (zf7 h m x w):=by
  unfold zf7;cases (cond (ine w 6) (ieq (zkZ (ix h.Mons m mZ).Traps x.Ctl.Traps (zfn w)) 2) false)
  .exact Keep.rfl' hs
  .exact z6n hs hm
 have k2:Keep (zf7 h m x w) (zj7 (zf7 h m x w) m x w):=by
  unfold zj7;cases (cond (zhR x.Ctl.Traps w) (ieq w 5) false)
  .exact Keep.rfl' k1.shape
  .exact z6m k1.shape (k1.has hm)
 have k3:=k1.trans k2;exact k3.trans (zoX k3.shape (k3.has hm) (zHA _ _ hx))
theorem zV7 {h:Host}{m g:Int}(hs:SmH h)(hh:zb0 h m g=true):Keep h (zbm h m g).1:=by
 obtain ⟨g1,g2,g3⟩:=zcs hh;have hx:=zku hs g2 g3;have hS:=(zdz hs g1).1;rw[ziV hh];unfold zRA;cases ieq (zG (gOf h m g)) 0
 .cases ieq (zG (gOf h m g)) 1
  .cases ieq (zG (gOf h m g)) 2
   .cases (cond (ieq (zG (gOf h m g)) 3) true (ieq (zG (gOf h m g)) 4))
    .exact z8f hS g2 hx
    .have k:=zs8 (b:=h.Buffer) (page:=zbP (address (gOf h m g))) (need:=zfd (ieq (zG (gOf h m g)) 4)) (io:=false) hs hh
     show Keep h (ziY (zi1 h m g (gOf h m g) (ieq (zG (gOf h m g)) 4)) m g (gOf h m g) (ieq (zG (gOf h m g)) 4))
     unfold ziY;cases (zi1 h m g (gOf h m g) (ieq (zG (gOf h m g)) 4)).2.2
     .exact k.trans (zoX k.shape (k.has g2) hx)
     .cases ieq (zG (gOf h m g)) 4
      .have k:=zs8 (b:=h.Buffer) (page:=zbP (address (gOf h m g))) (need:=zfd false) (io:=false) hs hh;exact k.trans (zoX k.shape (k.has g2) (zRv _ hx))
      .have k:=zs8 (b:=h.Buffer) (page:=zbP (address (gOf h m g))) (need:=zfd true) (io:=false) hs hh;have k2:=zGa (p:=(zi1 h m g (gOf h m g) true).2.1) (c:=zfC (address (gOf h m g))) (v:=(gOf h m g).A) k.shape;have k3:=k.trans k2;exact k3.trans (zoX k3.shape (k3.has g2) (zjJ hx))
   .exact zoX hS g2 (zLp hx)
  .exact zoX hS g2 (z5c hx)
 .exact Keep.rfl' hS
structure Same (h r:Host):Prop where
 sm:SmH r
 cnt:cnt r.Mons=cnt h.Mons
 mem:r.Memory.length=h.Memory.length
 st:r=h\/Shape r
theorem Same.rfl' {h:Host}(hs:SmH h):Same h h:=⟨hs,rfl,rfl,.inl rfl⟩
theorem Same.trans {a b c:Host}(h:Same a b)(k:Same b c):Same a c:=⟨k.sm,k.cnt.trans h.cnt,k.mem.trans h.mem,by
 rcases k.st with e|e
 .rw [e];exact h.st
 .exact .inr e⟩
theorem z8Q {h:Host}(m g:Int)(hs:SmH h):Same h (zbm h m g).1:=by
 cases hh:zb0 h m g
 .rw [zht hh];exact Same.rfl' hs
 .have k:=zV7 hs hh;exact ⟨k.shape.1,k.cnt,k.mem,.inr k.shape⟩
theorem zH2 {α:Type}{m:α->Int}{k:Int}:∀{l:List α},(∀x∈l,m x<=k)->mcL m l<=k*l.length
 | [],_=>by simp[mcL]
 | x :: l,h=>by
  have h1:=zH2 (l:=l) (fun y hy=>h y (by simp[hy]))
  have h2:=h x (by simp)
  simp only[mcL,qT,Int.natCast_add,Int.mul_add];omega
theorem zRX {l:List Int}(h:l.length<=1048576):znX l<=1048576:=by
 unfold znX;rw[z4S];omega
theorem zIn {l:List Slot}(h:l.length<=1048576):mcL zmw l<=2097152:=by
 rw[ztd (m:=zmw) (c:=2) (fun _=>rfl)];omega
theorem zbe3 {l:List Ins}(h:l.length<=1048576):mcL zpZ l<=2097152:=by
 rw[ztd (m:=zpZ) (c:=2) (fun _=>rfl)];omega
theorem z5r {l:List Bool}(h:l.length<=1048576):mcL zsd l<=1048576:=by
 rw[ztd (m:=zsd) (c:=1) (fun _=>rfl)];omega
theorem zWx {l:List Entry}(h:l.length<=1048576):mcL zjn l<=4194304:=by
 rw[ztd (m:=zjn) (c:=4) (fun _=>rfl)];omega
theorem zbdr {g:Guest}(h:SmG g):zir g<=8388608:=by
 have h1:=zbe3 h.1;have h2:=zIn h.2.1;have h3:=zIn h.2.2.1;have h4:=zRX h.2.2.2;unfold znX at h4;unfold zir;omega
theorem zbet {k:Kept}(h:SmK k):zk6 k<=3145728:=by
 have h1:=z5r h.1;have h2:=zIn h.2;unfold zk6;omega
theorem zbe4 {x:Mon}(h:zd6 x)(hs:ShM x)(hg:x.Guests.length<=2):zol x<=67108864:=by
 have h1:=zIn h.1;have h2:=zH2 (m:=znX) (l:=x.Out) (k:=1048576) (fun y hy=>zRX (h.2.1.2 y hy));have h3:=z5r h.2.2.1;have h4:=zH2 (m:=zir) (l:=x.Guests) (k:=8388608) (fun y hy=>zbdr (h.2.2.2.1.2 y hy));have h5:=zRX h.2.2.2.2.1;have h6:=zH2 (m:=zk6) (l:=x.Tables) (k:=3145728) (fun y hy=>zbet (h.2.2.2.2.2.2 y hy));rw[hs.2.1]at h2;have h7:x.Tables.length<=2:=by rw[hs.2.2.2];exact hg
 unfold znX at h5;unfold zol;omega
theorem zbes {h:Host}(hs:Shape h)(hm:h.Memory.length=12)(hl:h.Mons.length<=3)(hg:∀x∈h.Mons,x.Guests.length<=2):zB5 h<=900000000000:=by
 have h1:=zH2 (m:=znX) (l:=h.Memory) (k:=1048576) (fun y hy=>zRX (hs.1.1.2 y hy));have h2:=zH2 (m:=zol) (l:=h.Mons) (k:=67108864) (fun y hy=>zbe4 (hs.1.2.1.2 y hy) (hs.2 y hy) (hg y hy));have h3:=zWx hs.1.2.2.1;have h4:=zWx hs.1.2.2.2;rw[hm]at h1;unfold zB5;omega
theorem cnt_le {l l':List Mon}{k:Nat}(h:cnt l'=cnt l)(hl:∀x∈l,x.Guests.length<=k):∀x∈l',x.Guests.length<=k:=by
 intro x hx;have:x.Guests.length∈cnt l':=jB.2 ⟨x,hx,rfl⟩;rw[h] at this;obtain ⟨y,hy,e⟩:=jB.1 this;rw[<- e];exact hl y hy
def zbbS:zY:=[(158,zmC),(138,znZ),(98,zn0)]++zYM
theorem zjL:zJ zbbS:=zf zod (zf zpi (zf zpj zlk))
theorem zZh {a b:Bool}(h:(a=true)↔(b=true)):a=b:=by cases a<;>cases b<;>simp_all
@[simp] theorem zbeu (x:Int):win x 0 3=hasB x 4:=zZh (by rw[zfo];unfold hasB;rw[decide_eq_true_iff];omega)
@[simp] theorem zRY (x:Int):win x 0 7=hasB x 8:=zZh (by rw[zfo];unfold hasB;rw[decide_eq_true_iff];omega)
def ziZ (t:List Slot)(p:Int)(s:Slot):List Slot:=bif hasB p (ln t) then up t p s else t
@[simp] theorem zbev (t:List Slot)(p:Int)(s:Slot):(ziZ t p s).length=t.length:=by
 unfold ziZ;cases hasB p (ln t)<;>simp
@[simp] abbrev zqK (t:List Slot)(p:Int)(s:Slot):Bool:=pc (t.length<=1048576)
@[simp] abbrev zmU (t:List Slot)(p:Int)(s:Slot):List Slot:=ziZ t p s
def zA3:Run:=rF3 (dS .slot) dI (dT .slot) fun b c d=>(zqK b c d,[aS .slot (zmU b c d)])
def zFl (N:Nat)(a0:lS)(a1:Int)(a2:Slot):OA:=
 (oN (few (ln (ap [] a0))) (oN (zO a1 0 (wsub .i64 (ln a0) 1)) (cond (zT a1 0 (wsub .i64 (ln a0) 1)) (oN (inb a1 (ln (ap [] a0))) (share (up (ap [] a0) a1 a2) (fun x4=>(some [(aS .slot x4)])))) (some [(aS .slot (ap [] a0))]))))
theorem zUq (a0:List Slot)(a1:Int)(a2:Slot)(hc:zqK a0 a1 a2=true):∃N,zFl N a0 a1 a2=some [aS .slot (zmU a0 a1 a2)]:=by
 have hs:=zu.1 hc;refine ⟨0,?_⟩;unfold zFl oN;refine mu (must rfl (br (fun _=>mu (shr ?_)) (fun _=>?_)))
 all_goals first|rfl|(simp only [*,zmU,ziZ,cT,cF]<;>rfl)|simp_all[Ty.cells,zmU,ziZ]
theorem zMM:uY 224 zA3:=kF3 zjL zi zk zn (zl []) zUq
@[simp] abbrev zpK (t:List Slot)(p:Int)(s:Slot):Bool:=pc (t.length<=1048576)
@[simp] abbrev zmh (t:List Slot)(p:Int)(s:Slot):List Slot:=ziZ t p s
def zAB:Run:=rF3 (dS .slot) dI (dT .slot) fun b c d=>(zpK b c d,[aS .slot (zmh b c d)])
def zEP (N:Nat)(a0:lS)(a1:Int)(a2:Slot):OA:=
 (oN (zfu a0) (oN (zbx a1 (ln a0)) (cond (zbO a1 (ln a0)) (oN (inb a1 (ln (zdE a0))) (share (up (zdE a0) a1 a2) (fun x4=>(some [(aS .slot x4)])))) (some [(aS .slot (zdE a0))]))))
theorem zTP (a0:List Slot)(a1:Int)(a2:Slot)(hc:zpK a0 a1 a2=true):∃N,zEP N a0 a1 a2=some [aS .slot (zmh a0 a1 a2)]:=by
 have hs:=zu.1 hc;refine ⟨0,?_⟩;unfold zEP oN;refine mu (must rfl (br (fun _=>mu (shr ?_)) (fun _=>?_)))
 all_goals first|rfl|(simp only [*,zmh,ziZ,cT,cF]<;>rfl)|simp_all[Ty.cells,zmh,ziZ]
theorem zMf:uY 271 zAB:=kF3 zjL zi zk zn (zl []) zTP
def zgo (p n:Int):Bool:=bif zgJ p then win n 0 7 else false
def zsi (p n:Int):Int:=bif zgo p n then wor .i64 p (zm8 .i64 1 n) else p
theorem cv7 {n:Int}(h:hasB n 8=true):wcv .u64 n=n/\ile 0 n=true:=by
 have:=qD h;exact ⟨zVe (by omega) (by omega),qL (by omega)⟩
@[simp] abbrev zkR (p n:Int):Bool:=true
@[simp] abbrev zha (p n:Int):Int:=zsi p n
@[simp] abbrev znF (p n:Int):Bool:=zgo p n
def zDV:Run:=rF2 dI dI fun b c=>(zkR b c,[aI (zha b c),aB (znF b c)])
def zKh (N:Nat)(a0 a1:Int):OA:=
 (oN (zfk a0) (cond (nB (zfj a0)) (some [(aI a0),(aB false)]) (oN (zO a1 0 7) (cond (nB (zT a1 0 7)) (some [(aI a0),(aB false)]) (oN (ile 0 (wcv .u64 a1)) (some [(aI (wor .i64 a0 (zm8 .i64 1 (wcv .u64 a1)))),(aB true)]))))))
theorem zX5 (a0 a1:Int)(hc:zkR a0 a1=true):∃N,zKh N a0 a1=some [aI (zha a0 a1),aB (znF a0 a1)]:=by
 have hw:=@cv7 a1;refine ⟨0,?_⟩;unfold zKh oN nB;refine must rfl (brN (fun _=>?_) (fun _=>must rfl (brN (fun _=>?_) (fun _=>mu ?_))))
 all_goals first|rfl|(simp only [*,zha,znF,zsi,zgo,cT,cF]<;>rfl)|simp_all[Ty.cells,zha,znF,zsi,zgo]
theorem zP0:uY 228 zDV:=kF2 zjL zi zk zn (zl []) zX5
@[simp] abbrev zkC (p n:Int):Bool:=true
@[simp] abbrev zg1 (p n:Int):Int:=zsi p n
@[simp] abbrev znp (p n:Int):Bool:=zgo p n
def zDo:Run:=rF2 dI dI fun b c=>(zkC b c,[aI (zg1 b c),aB (znp b c)])
def zJH (N:Nat)(a0 a1:Int):OA:=
 (oN (zij a0) (cond (nB (ziK a0)) (some [(aI a0),(aB false)]) (oN (zbl a1 0 7) (cond (nB (zbp a1 0 7)) (some [(aI a0),(aB false)]) (oN (ile 0 a1) (some [(aI (wor .i64 a0 (zm8 .i64 1 a1))),(aB true)]))))))
theorem zXu (a0 a1:Int)(hc:zkC a0 a1=true):∃N,zJH N a0 a1=some [aI (zg1 a0 a1),aB (znp a0 a1)]:=by
 have hw:=@cv7 a1;refine ⟨0,?_⟩;unfold zJH oN nB;refine must rfl (brN (fun _=>?_) (fun _=>must rfl (brN (fun _=>?_) (fun _=>mu ?_))))
 all_goals first|rfl|(simp only [*,zg1,znp,zsi,zgo,cT,cF]<;>rfl)|simp_all[Ty.cells,zg1,znp,zsi,zgo]
theorem zPt:uY 280 zDo:=kF2 zjL zi zk zn (zl []) zXu
def posts (c:Ctl)(n:Int):Bool:=bif zk3 c then (cond (win n 0 7) (ieq (wand .i64 (zk2 .i64 c.Post n) 1) 1) false) else false
@[simp] abbrev zHy (c:Ctl)(n:Int):Bool:=true
@[simp] abbrev zA8 (c:Ctl)(n:Int):Bool:=posts c n
def zLg:Run:=rF2 dC dI fun b c=>(zHy b c,[aB (zA8 b c)])
def zVF (N:Nat)(a0:Ctl)(a1:Int):OA:=
 (oN (zti a0) (cond (zrz a0) (oN (zO a1 0 7) (cond (zT a1 0 7) (oN (ile 0 (wcv .u64 a1)) (some [(aB (ieq (wand .i64 (zk2 .i64 a0.Post (wcv .u64 a1)) 1) 1))])) oF)) oF))
theorem z3C (a0:Ctl)(a1:Int)(hc:zHy a0 a1=true):∃N,zVF N a0 a1=some [aB (zA8 a0 a1)]:=by
 have hw:=@cv7 a1;refine ⟨0,?_⟩;unfold zVF oN;refine must rfl (br (fun _=>must rfl (br (fun _=>mu ?_) (fun _=>?_))) (fun _=>?_))
 all_goals first|rfl|(simp only [*,zA8,posts,cT,cF]<;>rfl)|simp_all[Ty.cells,zA8,posts]
theorem zW3:uY 314 zLg:=kF2 zjL zi zk zn (zl []) z3C
@[simp] abbrev zF5 (c:Ctl)(n:Int):Bool:=true
@[simp] abbrev zz4 (c:Ctl)(n:Int):Bool:=posts c n
def zKY:Run:=rF2 dC dI fun b c=>(zF5 b c,[aB (zz4 b c)])
def zVq (N:Nat)(a0:Ctl)(a1:Int):OA:=
 (oN (zsW a0) (cond (zq6 a0) (oN (zbl a1 0 7) (cond (zbp a1 0 7) (oN (ile 0 a1) (some [(aB (ieq (wand .i64 (zk2 .i64 a0.Post a1) 1) 1))])) oF)) oF))
theorem z3k (a0:Ctl)(a1:Int)(hc:zF5 a0 a1=true):∃N,zVq N a0 a1=some [aB (zz4 a0 a1)]:=by
 have hw:=@cv7 a1;refine ⟨0,?_⟩;unfold zVq oN;refine must rfl (br (fun _=>must rfl (br (fun _=>mu ?_) (fun _=>?_))) (fun _=>?_))
 all_goals first|rfl|(simp only [*,zz4,posts,cT,cF]<;>rfl)|simp_all[Ty.cells,zz4,posts]
theorem zWL:uY 330 zKY:=kF2 zjL zi zk zn (zl []) z3k
def zbU (b:Bare)(g:Int):Bool:=bif zbQ b then hasB g (ln b.Guests) else false
theorem zds {b:Bare}{g:Int}:(zbU b g=true)↔zbQ b=true/\hasB g (ln b.Guests)=true:=by
 unfold zbU;cases zbQ b<;>simp
@[simp] abbrev zjH (b:Bare)(g:Int):Bool:=pc (SmB b)
@[simp] abbrev zkU (b:Bare)(g:Int):Bool:=zbU b g
def zLj:Run:=rF2 (dT .bare) dI fun b c=>(zjH b c,[aB (zkU b c)])
def zVI (N:Nat)(a0:Bare)(a1:Int):OA:=
 (oN (zql a0) (cond (zeI a0) (oN (zO a1 0 (wsub .i64 (ln a0.Guests) 1)) (some [(aB (zT a1 0 (wsub .i64 (ln a0.Guests) 1)))])) oF))
theorem z3F (a0:Bare)(a1:Int)(hc:zjH a0 a1=true):∃N,zVI N a0 a1=some [aB (zkU a0 a1)]:=by
 have hs:=zu.1 hc;have hl:a0.Guests.length<=1048576:=hs.2.1.1
 refine ⟨0,?_⟩;unfold zVI oN;refine must rfl (br (fun _=>must rfl ?_) (fun _=>?_))
 all_goals first|rfl|(simp only [*,zkU,zbU,cT,cF]<;>rfl)|simp_all[Ty.cells,zkU,zbU]
theorem zW6:uY 222 zLj:=kF2 zjL zi zk zn (zl []) z3F
@[simp] abbrev zus (b:Bare)(g:Int):Bool:=pc (SmB b)
@[simp] abbrev zlq (b:Bare)(g:Int):GExit:=(gAt b g).Exit
def zGo:Run:=rF2 (dT .bare) dI fun b c=>(zus b c,[.agg (zjO (zlq b c))])
def zNJ (N:Nat)(a0:Bare)(a1:Int):OA:=
 let y0:=(zc2 a0 a1); (oN (zc4 a0 a1) (some [(.agg [(.i .i64 y0.Exit.Kind),(.i .i64 y0.Exit.Page),(.b y0.Exit.Write),(.i .i64 y0.Exit.N)])]))
theorem z0d (a0:Bare)(a1:Int)(hc:zus a0 a1=true):∃N,zNJ N a0 a1=some [.agg (zjO (zlq a0 a1))]:=by
 have hs:=zu.1 hc;refine ⟨0,?_⟩;unfold zNJ oN
 conv=>zeta
 refine mu ?_
 first|rfl|(simp only [*,zlq,cT,cF]<;>rfl)|simp_all[Ty.cells,zlq]
theorem zSj:uY 277 zGo:=kF2 zjL zi zk zn (zl []) z0d
def zbbT:zY:=[(224,zA3),(271,zAB),(228,zDV),(280,zDo),(314,zLg),(330,zKY),(222,zLj),(277,zGo)]++zbbS
theorem zel:zJ zbbT:=zf zMM (zf zMf (zf zP0 (zf zPt (zf zW3 (zf zWL (zf zW6 (zf zSj zjL)))))))
theorem z2C {α:Type}{l:List α}{i:Int}{d:α}(h:hasB i (ln l)=true):up l i (ix l i d)=l:=by
 obtain ⟨k,rfl,hk⟩:=zdn (n:=l.length) h;unfold up;rw[zS hk,kC];exact uJ hk
theorem zvM {b:Bare}{g:Int}(h:hasB g (ln b.Guests)=true):gAt b g=ix b.Guests g zo:=by
 unfold gAt;rw[h];rfl
theorem z8R {b:Bare}{g:Int}(h:hasB g (ln b.Guests)=true):zeJ b g (gAt b g)=b:=by
 unfold zeJ;rw[zvM h,z2C h]
def chg (b:Bare)(g:Int)(c:Bool)(x:Guest):Bare:=bif (cond (zbU b g) c false) then zeJ b g x else b
def zbN (b:Bare)(g:Int)(c:Bool):Bool:=bif zbU b g then c else false
def zzl (p:Int)(s:Slot):Bool:=bif hasB p 4 then zeW s 8 else false
def zzm (x:Guest)(p:Int)(s:Slot):Guest:={ x with Written:=ziZ x.Written p s }
def zgH (x:Guest)(p:Int):Guest:={ x with Live:=ziZ x.Live p (zdB x.Written p) }
def zkn:GExit:=⟨0,0,false,0⟩
def zyN (x:Guest)(v:Int):Bool:=bif win v 0 99 then (cond (ieq x.Exit.Kind 2) true (ieq x.Exit.Kind 3)) else false
def zBk (x:Guest)(v:Int):Guest:=zbM (stopped (cond (ieq x.Exit.Kind 2) { x with A:=v } x) zkn)
def zy7 (x:Guest):Bool:=bif ieq x.Exit.Kind 1 then true else ieq x.Exit.Kind 4
def zCe (x:Guest):Guest:=bif ieq x.Exit.Kind 1 then stopped x zkn else held (stopped x zkn)
def zm3 (x:Guest)(n:Int):Guest:={ x with Pending:=zsi x.Pending n }
def zLF (x:Guest)(c:Ctl):Guest:={ x with Ctl:=c }
theorem zbcU {x:Guest}{n:Int}(h:zgo x.Pending n=false):zm3 x n=x:=by
 unfold zm3 zsi;rw[h];rfl
theorem z1O {x:Guest}(p:Int)(s:Slot)(h:SmG x):SmG (zzm x p s):=⟨h.1,by simpa [zzm] using h.2.1,h.2.2.1,h.2.2.2⟩
theorem zqO {x:Guest}(p:Int)(h:SmG x):SmG (zgH x p):=⟨h.1,h.2.1,by simpa [zgH] using h.2.2.1,h.2.2.2⟩
theorem zbaz {x:Guest}(v:Int)(h:SmG x):SmG (zBk x v):=by
 unfold zBk;cases ieq x.Exit.Kind 2<;>exact zjJ h
theorem zbaA {x:Guest}(h:SmG x):SmG (zCe x):=by
 unfold zCe;cases ieq x.Exit.Kind 1
 .exact z1M (g:=stopped x zkn) h
 .exact h
theorem zmW {b:Bare}{g:Int}{c:Bool}{x:Guest}(h:SmB b)(hx:SmG x):SmB (chg b g c x):=by
 unfold chg;cases (cond (zbU b g) c false)
 .exact h
 .exact zoI h hx
@[simp] abbrev zsn (b:Bare)(g p:Int)(s:Slot):Bool:=pc (SmB b)
@[simp] abbrev ziR (b:Bare)(g p:Int)(s:Slot):Bare:=chg b g (zzl p s) (zzm (gAt b g) p s)
@[simp] abbrev zkQ (b:Bare)(g p:Int)(s:Slot):Bool:=zbN b g (zzl p s)
def ztU:Run:=rF4 (dT .bare) dI dI (dT .slot) fun b c d e=>(zsn b c d e,[aT .bare (ziR b c d e),aB (zkQ b c d e)])
def zJ2 (N:Nat)(a0:Bare)(a1 a2:Int)(a3:Slot):OA:=
 let y0:=(zb8 a0);let y1:=(ix y0.Guests a1 zo); (oN (ze0 a0) (oN (zjH y0 a1) (cond (nB (zkU y0 a1)) (some [(aT .bare y0),(aB false)]) (oN (zO a2 0 3) (cond (nB (zT a2 0 3)) (some [(aT .bare y0),(aB false)]) (oN (zu0 a3 8) (cond (nB (zrD a3 8)) (some [(aT .bare y0),(aB false)]) (oN (inb a1 (ln y0.Guests)) (oN (zqK y1.Written a2 a3) (oN (inb a1 (ln y0.Guests)) (share (up y0.Guests a1 ({ y1 with Written:=(zmU y1.Written a2 a3) }:Guest)) (fun x5=>(some [(aT .bare ({ y0 with Guests:=x5 }:Bare)),(aB true)])))))))))))))
theorem zXP (a0:Bare)(a1 a2:Int)(a3:Slot)(hc:zsn a0 a1 a2 a3=true):∃N,zJ2 N a0 a1 a2 a3=some [aT .bare (ziR a0 a1 a2 a3),aB (zkQ a0 a1 a2 a3)]:=by
 have hs:=zu.1 hc;have hx:=zey a1 hs;have hz:zbU a0 a1=true->hasB a1 (ln a0.Guests)=true:=fun h=>(zds.1 h).2;have hz2:zbU a0 a1=true->gAt a0 a1=ix a0.Guests a1 zo:=fun h=>zvM (zds.1 h).2;have hw:=hx.2.1
 refine ⟨0,?_⟩;unfold zJ2 oN nB
 conv=>zeta
 refine mu (mu (brN (fun _=>?_) (fun _=>must rfl (brN (fun _=>?_) (fun _=>must rfl (brN (fun _=>?_) (fun _=>mu (mu (mu (shr ?_))))))))))
 all_goals first|rfl|(simp only [*,ziR,zkQ,chg,zbN,zzl,zzm,zeJ,cT,cF]<;>rfl)|simp_all[Ty.cells,ziR,zkQ,chg,zbN,zzl,zzm,zeJ]
theorem zxw:uY 117 ztU:=kF4 zel zi zk zn (zl []) zXP
@[simp] abbrev zrY (b:Bare)(g p:Int)(s:Slot):Bool:=pc (SmB b)
@[simp] abbrev zky (b:Bare)(g p:Int)(s:Slot):Bare:=chg b g (zzl p s) (zzm (gAt b g) p s)
@[simp] abbrev ziI (b:Bare)(g p:Int)(s:Slot):Bool:=zbN b g (zzl p s)
def ztR:Run:=rF4 (dT .bare) dI dI (dT .slot) fun b c d e=>(zrY b c d e,[aT .bare (zky b c d e),aB (ziI b c d e)])
def zJs (N:Nat)(a0:Bare)(a1 a2:Int)(a3:Slot):OA:=
 let y2:=(zbH a0);let y1:=({ (zc2 a0 a1) with Written:=(zmh (zc2 a0 a1).Written a2 a3) }:Guest);let y0:=(aT .bare (zbs a0)); (oN (zbx a2 4) (cond (zbO a2 4) (oN (zuz a3 8) (oN (zc4 a0 a1) (oN (zdg a0) (cond (nB (zck a0)) (oN y2 (some [y0,(aB false)])) (cond (nB (zc3 a0 a1)) (oN y2 (some [y0,(aB false)])) (cond (nB (zrb a3 8)) (oN y2 (some [y0,(aB false)])) (oN (zpK (zc2 a0 a1).Written a2 a3) (oN (cond (ieq a0.Pending a0.Pending) true false) (oN (ieq a1 a1) (oN (zbn a0 a1 y1) (some [(aT .bare (zb3 a0 a1 y1)),(aB true)]))))))))))) (oN (zc4 a0 a1) (oN (zdg a0) (cond (nB (zck a0)) (oN y2 (some [y0,(aB false)])) (cond (nB (zc3 a0 a1)) (oN y2 (some [y0,(aB false)])) (oN y2 (some [y0,(aB false)]))))))))
theorem zXe (a0:Bare)(a1 a2:Int)(a3:Slot)(hc:zrY a0 a1 a2 a3=true):∃N,zJs N a0 a1 a2 a3=some [aT .bare (zky a0 a1 a2 a3),aB (ziI a0 a1 a2 a3)]:=by
 have hs:=zu.1 hc;have hx:=zey a1 hs;have ho:_/\_/\_/\_:=hx;have hy:=fun p s=>z1O (x:=gAt a0 a1) p s hx;unfold zzm at hy
 refine ⟨0,?_⟩;unfold zJs oN nB
 conv=>zeta
 refine must rfl (br (fun _=>must rfl (mu (must rfl (brN (fun _=>mu ?_) (fun _=>brN (fun _=>mu ?_) (fun _=>brN (fun _=>mu ?_) (fun _=>mu (mu (mu (mu ?_)))))))))) (fun _=>mu (must rfl (brN (fun _=>mu ?_) (fun _=>brN (fun _=>mu ?_) (fun _=>mu ?_))))))
 all_goals first|rfl|(simp only [*,zky,ziI,chg,zbN,zzl,zzm,zbU,zdx,cT,cF]<;>rfl)|simp_all[Ty.cells,zky,ziI,chg,zbN,zzl,zzm,zbU,zdx]
theorem zxt:uY 162 ztR:=kF4 zel zi zk zn (zl []) zXe
@[simp] abbrev ztZ (b:Bare)(g p:Int):Bool:=pc (SmB b)
@[simp] abbrev zeE (b:Bare)(g p:Int):Bare:=chg b g (hasB p 4) (zgH (gAt b g) p)
@[simp] abbrev zh7 (b:Bare)(g p:Int):Bool:=zbN b g (hasB p 4)
def zqc:Run:=rF3 (dT .bare) dI dI fun b c d=>(ztZ b c d,[aT .bare (zeE b c d),aB (zh7 b c d)])
def zCV (N:Nat)(a0:Bare)(a1 a2:Int):OA:=
 let y1:=(zb8 a0);let y2:=(inb a1 (ln y1.Guests));let y0:=(ix y1.Guests a1 zo); (oN (ze0 a0) (oN (zjH y1 a1) (cond (nB (zkU y1 a1)) (some [(aT .bare y1),(aB false)]) (oN (zO a2 0 3) (cond (nB (zT a2 0 3)) (some [(aT .bare y1),(aB false)]) (oN y2 (oN y2 (oN (zqI y0.Written a2) (oN (zqK y0.Live a2 (zj4 y0.Written a2)) (oN y2 (share (up y1.Guests a1 ({ y0 with Live:=(zmU y0.Live a2 (zj4 y0.Written a2)) }:Guest)) (fun x4=>(some [(aT .bare ({ y1 with Guests:=x4 }:Bare)),(aB true)])))))))))))))
theorem zQJ (a0:Bare)(a1 a2:Int)(hc:ztZ a0 a1 a2=true):∃N,zCV N a0 a1 a2=some [aT .bare (zeE a0 a1 a2),aB (zh7 a0 a1 a2)]:=by
 have hs:=zu.1 hc;have hx:=zey a1 hs;have hz:zbU a0 a1=true->hasB a1 (ln a0.Guests)=true:=fun h=>(zds.1 h).2;have hz2:zbU a0 a1=true->gAt a0 a1=ix a0.Guests a1 zo:=fun h=>zvM (zds.1 h).2;have hw:=hx.2.2.1
 refine ⟨0,?_⟩;unfold zCV oN nB
 conv=>zeta
 refine mu (mu (brN (fun _=>?_) (fun _=>must rfl (brN (fun _=>?_) (fun _=>mu (mu (must rfl (mu (mu (shr ?_))))))))))
 all_goals first|rfl|(simp only [*,zeE,zh7,chg,zbN,zgH,zeJ,cT,cF]<;>rfl)|simp_all[Ty.cells,zeE,zh7,chg,zbN,zgH,zeJ]
theorem zt9:uY 120 zqc:=kF3 zel zi zk zn (zl []) zQJ
@[simp] abbrev ztG (b:Bare)(g p:Int):Bool:=pc (SmB b)
@[simp] abbrev zft (b:Bare)(g p:Int):Bare:=chg b g (hasB p 4) (zgH (gAt b g) p)
@[simp] abbrev zhX (b:Bare)(g p:Int):Bool:=zbN b g (hasB p 4)
def zp8:Run:=rF3 (dT .bare) dI dI fun b c d=>(ztG b c d,[aT .bare (zft b c d),aB (zhX b c d)])
def zCE (N:Nat)(a0:Bare)(a1 a2:Int):OA:=
 let y2:=(aT .bare (zbs a0));let y1:=(zc2 a0 a1);let y0:=({ y1 with Live:=(zmh y1.Live a2 (zhB y1.Written a2)) }:Guest); (oN (zbx a2 4) (oN (zc4 a0 a1) (oN (zdg a0) (cond (nB (zck a0)) (oN (zbH a0) (some [y2,(aB false)])) (cond (nB (zc3 a0 a1)) (oN (zbH a0) (some [y2,(aB false)])) (cond (nB (zbO a2 4)) (oN (zbH a0) (some [y2,(aB false)])) (oN (zjT y1.Written a2) (oN (zpK y1.Live a2 (zhB y1.Written a2)) (oN (cond (ieq a0.Pending a0.Pending) true false) (oN (ieq a1 a1) (oN (zbn a0 a1 y0) (some [(aT .bare (zb3 a0 a1 y0)),(aB true)]))))))))))))
theorem zQl (a0:Bare)(a1 a2:Int)(hc:ztG a0 a1 a2=true):∃N,zCE N a0 a1 a2=some [aT .bare (zft a0 a1 a2),aB (zhX a0 a1 a2)]:=by
 have hs:=zu.1 hc;have hx:=zey a1 hs;have ho:_/\_/\_/\_:=hx;have hy:=fun p=>zqO (x:=gAt a0 a1) p hx;unfold zgH at hy
 refine ⟨0,?_⟩;unfold zCE oN nB
 conv=>zeta
 refine must rfl (mu (must rfl (brN (fun _=>mu ?_) (fun _=>brN (fun _=>mu ?_) (fun _=>brN (fun _=>mu ?_) (fun _=>must rfl (mu (mu (mu (mu ?_))))))))))
 all_goals first|rfl|(simp only [*,zft,zhX,chg,zbN,zgH,zbU,zdx,cT,cF]<;>rfl)|simp_all[Ty.cells,zft,zhX,chg,zbN,zgH,zbU,zdx]
theorem zt7:uY 164 zp8:=kF3 zel zi zk zn (zl []) zQl
@[simp] abbrev zmE (b:Bare)(g v:Int):Bool:=pc (SmB b)
@[simp] abbrev zfO (b:Bare)(g v:Int):Bare:=chg b g (zyN (gAt b g) v) (zBk (gAt b g) v)
@[simp] abbrev zhq (b:Bare)(g v:Int):Bool:=zbN b g (zyN (gAt b g) v)
def zoz:Run:=rF3 (dT .bare) dI dI fun b c d=>(zmE b c d,[aT .bare (zfO b c d),aB (zhq b c d)])
def zzI (N:Nat)(a0:Bare)(a1 a2:Int):OA:=
 let y2:=(zb8 a0);let y4:=(inb a1 (ln y2.Guests));let y1:=(⟨0,0,false,0⟩:GExit);let y0:=(ix y2.Guests a1 zo);let y3:=({ y0 with A:=a2 }:Guest); (oN (ze0 a0) (oN (zjH y2 a1) (cond (nB (zkU y2 a1)) (some [(aT .bare y2),(aB false)]) (oN (zO a2 0 99) (cond (nB (zT a2 0 99)) (some [(aT .bare y2),(aB false)]) (oN y4 (cond (ieq y0.Exit.Kind 2) (oN (zd4 y3 y1) (oN (zdY (zdw y3 y1)) (oN y4 (share (up y2.Guests a1 (zgw (zdw y3 y1))) (fun x4=>(some [(aT .bare ({ y2 with Guests:=x4 }:Bare)),(aB true)])))))) (cond (ieq y0.Exit.Kind 3) (oN (zd4 y0 y1) (oN (zdY (zdw y0 y1)) (oN y4 (share (up y2.Guests a1 (zgw (zdw y0 y1))) (fun x4=>(some [(aT .bare ({ y2 with Guests:=x4 }:Bare)),(aB true)])))))) (some [(aT .bare y2),(aB false)])))))))))
theorem zNa (a0:Bare)(a1 a2:Int)(hc:zmE a0 a1 a2=true):∃N,zzI N a0 a1 a2=some [aT .bare (zfO a0 a1 a2),aB (zhq a0 a1 a2)]:=by
 have hs:=zu.1 hc;have hx:=zey a1 hs;have hz:zbU a0 a1=true->hasB a1 (ln a0.Guests)=true:=fun h=>(zds.1 h).2;have hz2:zbU a0 a1=true->gAt a0 a1=ix a0.Guests a1 zo:=fun h=>zvM (zds.1 h).2;have ho:_/\_/\_/\_:=hx
 refine ⟨0,?_⟩;unfold zzI oN nB
 conv=>zeta
 refine mu (mu (brN (fun _=>?_) (fun _=>must rfl (brN (fun _=>?_) (fun _=>mu (br (fun _=>mu (mu (mu (shr ?_)))) (fun _=>br (fun _=>mu (mu (mu (shr ?_)))) (fun _=>?_))))))))
 all_goals first|rfl|(simp only [*,zfO,zhq,chg,zbN,zyN,zBk,zkn,zeJ,SmG,stopped,cT,cF]<;>rfl)|simp_all[Ty.cells,zfO,zhq,chg,zbN,zyN,zBk,zkn,zeJ,SmG,stopped]
theorem zsS:uY 124 zoz:=kF3 zel zi zk zn (zl []) zNa
@[simp] abbrev zma (b:Bare)(g v:Int):Bool:=pc (SmB b)
@[simp] abbrev zeM (b:Bare)(g v:Int):Bare:=chg b g (zyN (gAt b g) v) (zBk (gAt b g) v)
@[simp] abbrev zd7 (b:Bare)(g v:Int):Bool:=zbN b g (zyN (gAt b g) v)
def zow:Run:=rF3 (dT .bare) dI dI fun b c d=>(zma b c d,[aT .bare (zeM b c d),aB (zd7 b c d)])
def zzw (N:Nat)(a0:Bare)(a1 a2:Int):OA:=
 let y10:=(zc2 a0 a1);let y7:=(ieq (zlq a0 a1).Kind 2);let y5:=(zbH a0);let y4:=(ieq a0.Pending a0.Pending);let y2:=(aT .bare (zbs a0));let y1:=({ y10 with A:=a2 }:Guest);let y0:=(⟨0,0,false,0⟩:GExit);let y6:=(zeP y1 y0);let y8:=(aT .bare (zb3 a0 a1 (zcU y6)));let y3:=(zeP y10 y0);let y9:=(aT .bare (zb3 a0 a1 (zcU y3))); (oN (zus a0 a1) (cond y7 (oN (zbl a2 0 99) (oN (zc4 a0 a1) (oN (zdg a0) (cond (nB (zck a0)) (oN y5 (some [y2,(aB false)])) (cond (nB (zc3 a0 a1)) (oN y5 (some [y2,(aB false)])) (cond (nB (zbp a2 0 99)) (oN y5 (some [y2,(aB false)])) (cond y7 (oN (zdD y1 y0) (oN (zdd y6) (oN (cond y4 true false) (oN (ieq a1 a1) (oN (zbn a0 a1 (zcU y6)) (some [y8,(aB true)])))))) (oN (zdD y10 y0) (oN (zdd y3) (oN (cond y4 true false) (oN (ieq a1 a1) (oN (zbn a0 a1 (zcU y3)) (some [y9,(aB true)]))))))))))))) (cond (ieq (zlq a0 a1).Kind 3) (oN (zbl a2 0 99) (oN (zc4 a0 a1) (oN (zdg a0) (cond (nB (zck a0)) (oN y5 (some [y2,(aB false)])) (cond (nB (zc3 a0 a1)) (oN y5 (some [y2,(aB false)])) (cond (nB (zbp a2 0 99)) (oN y5 (some [y2,(aB false)])) (cond y7 (oN (zdD y1 y0) (oN (zdd y6) (oN (cond y4 true false) (oN (ieq a1 a1) (oN (zbn a0 a1 (zcU y6)) (some [y8,(aB true)])))))) (oN (zdD y10 y0) (oN (zdd y3) (oN (cond y4 true false) (oN (ieq a1 a1) (oN (zbn a0 a1 (zcU y3)) (some [y9,(aB true)]))))))))))))) (oN (zc4 a0 a1) (oN (zdg a0) (cond (nB (zck a0)) (oN y5 (some [y2,(aB false)])) (cond (nB (zc3 a0 a1)) (oN y5 (some [y2,(aB false)])) (oN y5 (some [y2,(aB false)])))))))))
theorem zMV (a0:Bare)(a1 a2:Int)(hc:zma a0 a1 a2=true):∃N,zzw N a0 a1 a2=some [aT .bare (zeM a0 a1 a2),aB (zd7 a0 a1 a2)]:=by
 have hs:=zu.1 hc;have hx:=zey a1 hs;have ho:_/\_/\_/\_:=hx;have hy2:SmG ({ gAt a0 a1 with A:=a2 }:Guest):=hx;have hy3:∀e,SmG (zbM (stopped (gAt a0 a1) e)):=fun e=>zjJ (z4j e hx)
 refine ⟨0,?_⟩;unfold zzw oN nB
 conv=>zeta
 refine mu (br (fun _=>must rfl (mu (must rfl (brN (fun _=>mu ?_) (fun _=>brN (fun _=>mu ?_) (fun _=>brN (fun _=>mu ?_) (fun _=>br (fun _=>mu (mu (mu (mu (mu ?_))))) (fun _=>mu (mu (mu (mu (mu ?_)))))))))))) (fun _=>br (fun _=>must rfl (mu (must rfl (brN (fun _=>mu ?_) (fun _=>brN (fun _=>mu ?_) (fun _=>brN (fun _=>mu ?_) (fun _=>br (fun _=>mu (mu (mu (mu (mu ?_))))) (fun _=>mu (mu (mu (mu (mu ?_)))))))))))) (fun _=>mu (must rfl (brN (fun _=>mu ?_) (fun _=>brN (fun _=>mu ?_) (fun _=>mu ?_)))))))
 all_goals first|rfl|(simp only [*,zeM,zd7,chg,zbN,zyN,zBk,zkn,zbU,zdx,cT,cF]<;>rfl)|simp_all[Ty.cells,zeM,zd7,chg,zbN,zyN,zBk,zkn,zbU,zdx]
theorem zsP:uY 169 zow:=kF3 zel zi zk zn (zl []) zMV
@[simp] abbrev zmG (b:Bare)(g:Int):Bool:=pc (SmB b)
@[simp] abbrev zfQ (b:Bare)(g:Int):Bare:=chg b g (zy7 (gAt b g)) (zCe (gAt b g))
@[simp] abbrev zhs (b:Bare)(g:Int):Bool:=zbN b g (zy7 (gAt b g))
def zoB:Run:=rF2 (dT .bare) dI fun b c=>(zmG b c,[aT .bare (zfQ b c),aB (zhs b c)])
def zzK (N:Nat)(a0:Bare)(a1:Int):OA:=
 let y2:=(zb8 a0);let y3:=(inb a1 (ln y2.Guests));let y1:=(⟨0,0,false,0⟩:GExit);let y0:=(ix y2.Guests a1 zo); (oN (ze0 a0) (oN (zjH y2 a1) (cond (nB (zkU y2 a1)) (some [(aT .bare y2),(aB false)]) (oN y3 (cond (ieq y0.Exit.Kind 1) (oN (zd4 y0 y1) (oN y3 (share (up y2.Guests a1 (zdw y0 y1)) (fun x3=>(some [(aT .bare ({ y2 with Guests:=x3 }:Bare)),(aB true)]))))) (cond (ieq y0.Exit.Kind 4) (oN (zd4 y0 y1) (oN (zoD (zdw y0 y1)) (oN y3 (share (up y2.Guests a1 (zA6 (zdw y0 y1))) (fun x3=>(some [(aT .bare ({ y2 with Guests:=x3 }:Bare)),(aB true)])))))) (some [(aT .bare y2),(aB false)])))))))
theorem zNc (a0:Bare)(a1:Int)(hc:zmG a0 a1=true):∃N,zzK N a0 a1=some [aT .bare (zfQ a0 a1),aB (zhs a0 a1)]:=by
 have hs:=zu.1 hc;have hx:=zey a1 hs;have hz:zbU a0 a1=true->hasB a1 (ln a0.Guests)=true:=fun h=>(zds.1 h).2;have hz2:zbU a0 a1=true->gAt a0 a1=ix a0.Guests a1 zo:=fun h=>zvM (zds.1 h).2;have ho:_/\_/\_/\_:=hx
 refine ⟨0,?_⟩;unfold zzK oN nB
 conv=>zeta
 refine mu (mu (brN (fun _=>?_) (fun _=>mu (br (fun _=>mu (mu (shr ?_))) (fun _=>br (fun _=>mu (mu (mu (shr ?_)))) (fun _=>?_))))))
 all_goals first|rfl|(simp only [*,zfQ,zhs,chg,zbN,zy7,zCe,zkn,zeJ,SmG,stopped,cT,cF]<;>rfl)|simp_all[Ty.cells,zfQ,zhs,chg,zbN,zy7,zCe,zkn,zeJ,SmG,stopped]
theorem zsV:uY 125 zoB:=kF2 zel zi zk zn (zl []) zNc
@[simp] abbrev zmc (b:Bare)(g:Int):Bool:=pc (SmB b)
@[simp] abbrev zeO (b:Bare)(g:Int):Bare:=chg b g (zy7 (gAt b g)) (zCe (gAt b g))
@[simp] abbrev zd9 (b:Bare)(g:Int):Bool:=zbN b g (zy7 (gAt b g))
def zoy:Run:=rF2 (dT .bare) dI fun b c=>(zmc b c,[aT .bare (zeO b c),aB (zd9 b c)])
def zzy (N:Nat)(a0:Bare)(a1:Int):OA:=
 let y3:=(ieq (zlq a0 a1).Kind 4);let y2:=(ieq a0.Pending a0.Pending);let y1:=(aT .bare (zbs a0));let y0:=({ (zc2 a0 a1) with Exit:=(⟨0,0,false,0⟩:GExit) }:Guest);let y4:=(aT .bare (zb3 a0 a1 (zjc y0))); (oN (zus a0 a1) (cond (ieq (zlq a0 a1).Kind 1) (oN (zc4 a0 a1) (oN (zdg a0) (cond (nB (zck a0)) (oN (zbH a0) (some [y1,(aB false)])) (cond (nB (zc3 a0 a1)) (oN (zbH a0) (some [y1,(aB false)])) (cond y3 (oN (zjR y0) (oN (cond y2 true false) (oN (ieq a1 a1) (oN (zbn a0 a1 (zjc y0)) (some [y4,(aB true)]))))) (oN (cond y2 true false) (oN (ieq a1 a1) (oN (zbn a0 a1 y0) (some [(aT .bare (zb3 a0 a1 y0)),(aB true)]))))))))) (oN (zc4 a0 a1) (oN (zdg a0) (cond (nB (zck a0)) (oN (zbH a0) (some [y1,(aB false)])) (cond (nB (zc3 a0 a1)) (oN (zbH a0) (some [y1,(aB false)])) (cond (nB y3) (oN (zbH a0) (some [y1,(aB false)])) (cond y3 (oN (zjR y0) (oN (cond y2 true false) (oN (ieq a1 a1) (oN (zbn a0 a1 (zjc y0)) (some [y4,(aB true)]))))) (oN (cond y2 true false) (oN (ieq a1 a1) (oN (zbn a0 a1 y0) (some [(aT .bare (zb3 a0 a1 y0)),(aB true)]))))))))))))
theorem zMX (a0:Bare)(a1:Int)(hc:zmc a0 a1=true):∃N,zzy N a0 a1=some [aT .bare (zeO a0 a1),aB (zd9 a0 a1)]:=by
 have hs:=zu.1 hc;have hx:=zey a1 hs;have ho:_/\_/\_/\_:=hx;have h14:ieq (gAt a0 a1).Exit.Kind 1=true->ieq (gAt a0 a1).Exit.Kind 4=false:=fun h=>zTo h (by decide)
 refine ⟨0,?_⟩;unfold zzy oN nB
 conv=>zeta
 refine mu (br (fun _=>mu (must rfl (brN (fun _=>mu ?_) (fun _=>brN (fun _=>mu ?_) (fun _=>br (fun _=>mu (mu (mu (mu ?_)))) (fun _=>mu (mu (mu ?_)))))))) (fun _=>mu (must rfl (brN (fun _=>mu ?_) (fun _=>brN (fun _=>mu ?_) (fun _=>brN (fun _=>mu ?_) (fun _=>br (fun _=>mu (mu (mu (mu ?_)))) (fun _=>mu (mu (mu ?_))))))))))
 all_goals first|rfl|(simp only [*,zeO,zd9,chg,zbN,zy7,zCe,zkn,zbU,zdx,SmG,stopped,cT,cF]<;>rfl)|simp_all[Ty.cells,zeO,zd9,chg,zbN,zy7,zCe,zkn,zbU,zdx,SmG,stopped]
theorem zsR:uY 171 zoy:=kF2 zel zi zk zn (zl []) zMX
theorem zbdJ {b:Bare}{g:Int}{c:Bool}{x:Guest}(h:zbU b g=false):chg b g c x=b:=by
 unfold chg;rw[h];rfl
theorem zbcr {b:Bare}{g n:Int}(h:zbU b g=true):chg b g (zgo (gAt b g).Pending n) (zm3 (gAt b g) n)=zeJ b g (zm3 (gAt b g) n):=by
 unfold chg;rw[h];cases hp:zgo (gAt b g).Pending n
 .rw [zbcU hp,z8R (zds.1 h).2];rfl
 .rfl
@[simp] abbrev zmF (b:Bare)(g n:Int):Bool:=pc (SmB b)
@[simp] abbrev zfP (b:Bare)(g n:Int):Bare:=chg b g (zgo (gAt b g).Pending n) (zm3 (gAt b g) n)
@[simp] abbrev zhr (b:Bare)(g n:Int):Bool:=zbN b g (zgo (gAt b g).Pending n)
def zoA:Run:=rF3 (dT .bare) dI dI fun b c d=>(zmF b c d,[aT .bare (zfP b c d),aB (zhr b c d)])
def zzJ (N:Nat)(a0:Bare)(a1 a2:Int):OA:=
 let y1:=(zb8 a0);let y0:=(ix y1.Guests a1 zo); (oN (ze0 a0) (oN (zjH y1 a1) (cond (nB (zkU y1 a1)) (some [(aT .bare y1),(aB false)]) (oN (inb a1 (ln y1.Guests)) (oN (zkR y0.Pending a2) (oN (inb a1 (ln y1.Guests)) (share (up y1.Guests a1 ({ y0 with Pending:=(zha y0.Pending a2) }:Guest)) (fun x4=>(some [(aT .bare ({ y1 with Guests:=x4 }:Bare)),(aB (znF y0.Pending a2))])))))))))
theorem zNb (a0:Bare)(a1 a2:Int)(hc:zmF a0 a1 a2=true):∃N,zzJ N a0 a1 a2=some [aT .bare (zfP a0 a1 a2),aB (zhr a0 a1 a2)]:=by
 have hs:=zu.1 hc;have hz:zbU a0 a1=true->hasB a1 (ln a0.Guests)=true:=fun h=>(zds.1 h).2;have hz2:zbU a0 a1=true->gAt a0 a1=ix a0.Guests a1 zo:=fun h=>zvM (zds.1 h).2;have hj:=@zbcr a0 a1 a2;have hj0:=@zbdJ a0 a1 (zgo (gAt a0 a1).Pending a2) (zm3 (gAt a0 a1) a2)
 refine ⟨0,?_⟩;unfold zzJ oN nB
 conv=>zeta
 refine mu (mu (brN (fun _=>?_) (fun _=>mu (must rfl (mu (shr ?_))))))
 all_goals first|rfl|(simp only [*,zfP,zhr,zbN,zeJ,zm3,cT,cF]<;>rfl)|simp_all[Ty.cells,zfP,zhr,zbN,zeJ,zm3]
theorem zsU:uY 126 zoA:=kF3 zel zi zk zn (zl []) zNb
@[simp] abbrev zmb (b:Bare)(g n:Int):Bool:=pc (SmB b)
@[simp] abbrev zeN (b:Bare)(g n:Int):Bare:=chg b g (zgo (gAt b g).Pending n) (zm3 (gAt b g) n)
@[simp] abbrev zd8 (b:Bare)(g n:Int):Bool:=zbN b g (zgo (gAt b g).Pending n)
def zox:Run:=rF3 (dT .bare) dI dI fun b c d=>(zmb b c d,[aT .bare (zeN b c d),aB (zd8 b c d)])
def zzx (N:Nat)(a0:Bare)(a1 a2:Int):OA:=
 let y2:=(zc2 a0 a1).Pending;let y1:=(aT .bare (zbs a0));let y0:=({ (zc2 a0 a1) with Pending:=(zg1 y2 a2) }:Guest); (oN (zc4 a0 a1) (oN (zkC y2 a2) (oN (zc4 a0 a1) (oN (zdg a0) (cond (nB (zck a0)) (oN (zbH a0) (some [y1,(aB false)])) (cond (nB (zc3 a0 a1)) (oN (zbH a0) (some [y1,(aB false)])) (cond (nB (znp y2 a2)) (oN (zbH a0) (some [y1,(aB false)])) (oN (cond (ieq a0.Pending a0.Pending) true false) (oN (ieq a1 a1) (oN (zbn a0 a1 y0) (some [(aT .bare (zb3 a0 a1 y0)),(aB true)])))))))))))
theorem zMW (a0:Bare)(a1 a2:Int)(hc:zmb a0 a1 a2=true):∃N,zzx N a0 a1 a2=some [aT .bare (zeN a0 a1 a2),aB (zd8 a0 a1 a2)]:=by
 have hs:=zu.1 hc;have hx:=zey a1 hs;have ho:_/\_/\_/\_:=hx
 refine ⟨0,?_⟩;unfold zzx oN nB
 conv=>zeta
 refine mu (must rfl (mu (must rfl (brN (fun _=>mu ?_) (fun _=>brN (fun _=>mu ?_) (fun _=>brN (fun _=>mu ?_) (fun _=>mu (mu (mu ?_)))))))))
 all_goals first|rfl|(simp only [*,zeN,zd8,chg,zbN,zm3,zbU,zdx,cT,cF]<;>rfl)|simp_all[Ty.cells,zeN,zd8,chg,zbN,zm3,zbU,zdx]
theorem zsQ:uY 173 zox:=kF3 zel zi zk zn (zl []) zMW
@[simp] abbrev zsm (b:Bare)(g:Int)(c:Ctl):Bool:=pc (SmB b)
@[simp] abbrev ziQ (b:Bare)(g:Int)(c:Ctl):Bare:=chg b g (zk3 c) (zLF (gAt b g) c)
@[simp] abbrev zkP (b:Bare)(g:Int)(c:Ctl):Bool:=zbN b g (zk3 c)
def ztT:Run:=rF3 (dT .bare) dI dC fun b c d=>(zsm b c d,[aT .bare (ziQ b c d),aB (zkP b c d)])
def zJ1 (N:Nat)(a0:Bare)(a1:Int)(a2:Ctl):OA:=
 let y0:=(zb8 a0); (oN (ze0 a0) (oN (zjH y0 a1) (cond (nB (zkU y0 a1)) (some [(aT .bare y0),(aB false)]) (oN (zti a2) (cond (nB (zrz a2)) (some [(aT .bare y0),(aB false)]) (oN (inb a1 (ln y0.Guests)) (share (up y0.Guests a1 ({ (ix y0.Guests a1 zo) with Ctl:=a2 }:Guest)) (fun x4=>(some [(aT .bare ({ y0 with Guests:=x4 }:Bare)),(aB true)])))))))))
theorem zXO (a0:Bare)(a1:Int)(a2:Ctl)(hc:zsm a0 a1 a2=true):∃N,zJ1 N a0 a1 a2=some [aT .bare (ziQ a0 a1 a2),aB (zkP a0 a1 a2)]:=by
 have hs:=zu.1 hc;have hz:zbU a0 a1=true->hasB a1 (ln a0.Guests)=true:=fun h=>(zds.1 h).2;have hz2:zbU a0 a1=true->gAt a0 a1=ix a0.Guests a1 zo:=fun h=>zvM (zds.1 h).2
 refine ⟨0,?_⟩;unfold zJ1 oN nB
 conv=>zeta
 refine mu (mu (brN (fun _=>?_) (fun _=>must rfl (brN (fun _=>?_) (fun _=>mu (shr ?_))))))
 all_goals first|rfl|(simp only [*,ziQ,zkP,chg,zbN,zLF,zeJ,cT,cF]<;>rfl)|simp_all[Ty.cells,ziQ,zkP,chg,zbN,zLF,zeJ]
theorem zxv:uY 127 ztT:=kF3 zel zi zk zn (zl []) zXO
@[simp] abbrev zrX (b:Bare)(g:Int)(c:Ctl):Bool:=pc (SmB b)
@[simp] abbrev zgX (b:Bare)(g:Int)(c:Ctl):Bare:=chg b g (zk3 c) (zLF (gAt b g) c)
@[simp] abbrev zfW (b:Bare)(g:Int)(c:Ctl):Bool:=zbN b g (zk3 c)
def ztQ:Run:=rF3 (dT .bare) dI dC fun b c d=>(zrX b c d,[aT .bare (zgX b c d),aB (zfW b c d)])
def zJr (N:Nat)(a0:Bare)(a1:Int)(a2:Ctl):OA:=
 let y1:=(aT .bare (zbs a0));let y0:=({ (zc2 a0 a1) with Ctl:=a2 }:Guest); (oN (zsW a2) (oN (zc4 a0 a1) (oN (zdg a0) (cond (nB (zck a0)) (oN (zbH a0) (some [y1,(aB false)])) (cond (nB (zc3 a0 a1)) (oN (zbH a0) (some [y1,(aB false)])) (cond (nB (zq6 a2)) (oN (zbH a0) (some [y1,(aB false)])) (oN (cond (ieq a0.Pending a0.Pending) true false) (oN (ieq a1 a1) (oN (zbn a0 a1 y0) (some [(aT .bare (zb3 a0 a1 y0)),(aB true)]))))))))))
theorem zXd (a0:Bare)(a1:Int)(a2:Ctl)(hc:zrX a0 a1 a2=true):∃N,zJr N a0 a1 a2=some [aT .bare (zgX a0 a1 a2),aB (zfW a0 a1 a2)]:=by
 have hs:=zu.1 hc;have hx:=zey a1 hs;have ho:_/\_/\_/\_:=hx
 refine ⟨0,?_⟩;unfold zJr oN nB
 conv=>zeta
 refine must rfl (mu (must rfl (brN (fun _=>mu ?_) (fun _=>brN (fun _=>mu ?_) (fun _=>brN (fun _=>mu ?_) (fun _=>mu (mu (mu ?_))))))))
 all_goals first|rfl|(simp only [*,zgX,zfW,chg,zbN,zLF,zbU,zdx,cT,cF]<;>rfl)|simp_all[Ty.cells,zgX,zfW,chg,zbN,zLF,zbU,zdx]
theorem zxs:uY 175 ztQ:=kF3 zel zi zk zn (zl []) zXd
def zYR (p c v:Int):Bool:=bif hasB p 8 then (cond (hasB c 4) (win v 0 99) false) else false
def ztg (b:Bare)(p c v:Int):Bool:=bif zbQ b then zYR p c v else false
def zxJ (b:Bare)(p c v:Int):Bare:=bif ztg b p c v then { b with Memory:=zem b.Memory p c v } else b
def zkY (b:Bare):Bare:=bif zbQ b then { b with Pending:=zgv b.Pending } else b
def zyM (b:Bare):Int:=bif zbQ b then zki b.Pending else -1
def znL (b:Bare):Bool:=bif zbQ b then !ilt (zcR b.Pending) 0 else false
@[simp] abbrev zsl (b:Bare):Bool:=pc (SmB b)
@[simp] abbrev ziP (b:Bare):Bare:=zkY b
@[simp] abbrev zkN (b:Bare):Int:=zyM b
@[simp] abbrev zkO (b:Bare):Bool:=znL b
def ztS:Run:=rF1 (dT .bare) fun b=>(zsl b,[aT .bare (ziP b),aI (zkN b),aB (zkO b)])
def zJ0 (N:Nat)(a0:Bare):OA:=
 let y0:=(zb8 a0); (oN (ze0 a0) (oN (zql y0) (cond (nB (zeI y0)) (some [(aT .bare y0),(aI (-1)),(aB false)]) (oN (zsD y0.Pending) (some [(aT .bare ({ y0 with Pending:=(zkS y0.Pending) }:Bare)),(aI (zkT y0.Pending)),(aB (znH y0.Pending))])))))
theorem zXN (a0:Bare)(hc:zsl a0=true):∃N,zJ0 N a0=some [aT .bare (ziP a0),aI (zkN a0),aB (zkO a0)]:=by
 have hs:=zu.1 hc;refine ⟨0,?_⟩;unfold zJ0 oN nB
 conv=>zeta
 refine mu (must rfl (brN (fun _=>?_) (fun _=>must rfl ?_)))
 all_goals first|rfl|(simp only [*,ziP,zkN,zkO,zkY,zyM,znL,zgv,zki,cT,cF]<;>rfl)|simp_all[Ty.cells,ziP,zkN,zkO,zkY,zyM,znL,zgv,zki]
theorem zxu:uY 132 ztS:=kF1 zel zi zk zn (zl []) zXN
@[simp] abbrev zvX (b:Bare)(p c v:Int):Bool:=pc (SmB b)
@[simp] abbrev zgg (b:Bare)(p c v:Int):Bare:=zxJ b p c v
@[simp] abbrev zi9 (b:Bare)(p c v:Int):Bool:=ztg b p c v
def zrl:Run:=rF4 (dT .bare) dI dI dI fun b c d e=>(zvX b c d e,[aT .bare (zgg b c d e),aB (zi9 b c d e)])
def zEx (N:Nat)(a0:Bare)(a1 a2 a3:Int):OA:=
 let y0:=(aT .bare (zbs a0)); (oN (zbH a0) (oN (zdg a0) (cond (nB (zck a0)) (some [y0,(aB false)]) (oN (zbx a1 8) (cond (nB (zbO a1 8)) (some [y0,(aB false)]) (oN (zbx a2 4) (cond (nB (zbO a2 4)) (some [y0,(aB false)]) (oN (zbl a3 0 99) (cond (nB (zbp a3 0 99)) (some [y0,(aB false)]) (oN (ze6 a0.Memory a1 a2 a3) (some [(aT .bare ({ (zbs a0) with Memory:=(zfX a0.Memory a1 a2 a3) }:Bare)),(aB true)])))))))))))
theorem zTw (a0:Bare)(a1 a2 a3:Int)(hc:zvX a0 a1 a2 a3=true):∃N,zEx N a0 a1 a2 a3=some [aT .bare (zgg a0 a1 a2 a3),aB (zi9 a0 a1 a2 a3)]:=by
 have hs:=zu.1 hc;have hz:_/\_/\_:=hs
 refine ⟨0,?_⟩;unfold zEx oN nB
 conv=>zeta
 refine mu (must rfl (brN (fun _=>?_) (fun _=>must rfl (brN (fun _=>?_) (fun _=>must rfl (brN (fun _=>?_) (fun _=>must rfl (brN (fun _=>?_) (fun _=>mu ?_)))))))))
 all_goals first|rfl|(simp only [*,zgg,zi9,zxJ,ztg,zYR,cT,cF]<;>rfl)|simp_all[Ty.cells,zgg,zi9,zxJ,ztg,zYR]
theorem zvO:uY 177 zrl:=kF4 zel zi zk zn (zl []) zTw
@[simp] abbrev zrW (b:Bare):Bool:=pc (SmB b)
@[simp] abbrev zgW (b:Bare):Bare:=zkY b
@[simp] abbrev ziH (b:Bare):Int:=zyM b
@[simp] abbrev zfV (b:Bare):Bool:=znL b
def ztP:Run:=rF1 (dT .bare) fun b=>(zrW b,[aT .bare (zgW b),aI (ziH b),aB (zfV b)])
def zJq (N:Nat)(a0:Bare):OA:=
 (oN (zbH a0) (oN (zr4 a0.Pending) (oN (zdg a0) (cond (nB (zck a0)) (some [(aT .bare (zbs a0)),(aI (-1)),(aB false)]) (cond (nB (znr a0.Pending)) (some [(aT .bare (zbs a0)),(aI (-1)),(aB false)]) (some [(aT .bare ({ (zbs a0) with Pending:=(zkD a0.Pending) }:Bare)),(aI (zkE a0.Pending)),(aB true)]))))))
theorem zXc (a0:Bare)(hc:zrW a0=true):∃N,zJq N a0=some [aT .bare (zgW a0),aI (ziH a0),aB (zfV a0)]:=by
 have hs:=zu.1 hc;refine ⟨0,?_⟩;unfold zJq oN nB;refine mu (must rfl (must rfl (brN (fun _=>?_) (fun _=>brN (fun _=>?_) (fun _=>?_)))))
 all_goals first|rfl|(simp only [*,zgW,ziH,zfV,zkY,zyM,znL,zgv,zki,cT,cF]<;>rfl)|simp_all[Ty.cells,zgW,ziH,zfV,zkY,zyM,znL,zgv,zki]
theorem zxr:uY 182 ztP:=kF1 zel zi zk zn (zl []) zXc
def zbbU:zY:=zbbT
theorem zLQ:zJ zbbU:=zel
def zdI (l:List Guest)(n:Int):List Int:=idxs (fun (x:Guest)=>posts x.Ctl n) l 0
theorem zZ3 {α:Type}(p:α->Bool):∀(l:List α) (i:Nat),∀k∈idxs p l i,(i:Int)<=k/\k<(i:Int)+l.length
 | [],_,k,hk=>by cases hk
 | x :: l,i,k,hk=>by
  have hr:=zZ3 p l (i+1);simp only[qT];unfold idxs at hk;cases hp:p x
  .rw [hp]at hk;have:=hr k hk;omega
  .rw [hp]at hk;rcases qK.1 hk with rfl|hk
   .omega
   .have:=hr k hk;omega
@[simp] abbrev zwP (b:Bare)(n:Int):Bool:=pc (SmB b)
@[simp] abbrev zmS (b:Bare)(n:Int):List Int:=zdI b.Guests n
def zAW:Run:=rF2 (dT .bare) dI fun b c=>(zwP b c,[aS .int (zmS b c)])
def zFf (N:Nat)(a0:Bare)(a1:Int):OA:=
 (iter (σ:=(Int×(Int×(Int×((List Int)×(lM×(lG×((List Int)×Unit)))))))) N (fun r3 s4=>let y0:=s4.2.2.2.2.2.1;let y1:=(ix y0 s4.2.1 zo).Ctl; (cond (ilt s4.2.1 (ln y0)) (oN (inb s4.2.1 (ln y0)) (oN (zHy y1 s4.1) (cond (zA8 y1 s4.1) (oN (few (ln (ap s4.2.2.2.1 [s4.2.1]))) (r3 (s4.1,((zB .i64 s4.2.1 1),(s4.2.2.1,((ap s4.2.2.2.1 [s4.2.1]),(s4.2.2.2.2.1,(y0,(s4.2.2.2.2.2.2.1,()))))))))) (r3 (s4.1,((zB .i64 s4.2.1 1),(s4.2.2.1,(s4.2.2.2.1,(s4.2.2.2.2.1,(y0,(s4.2.2.2.2.2.2.1,()))))))))))) (some [(aS .int s4.2.2.2.1)]))) (a1,(0,(a0.Pending,([],(a0.Memory,(a0.Guests,(a0.Outs,()))))))))
def zVb:FuncId->Nat->Option Tmpl:=zl [(232,0,{ n:=28,tm:=[(1,ti),(2,.lp 0 0),(5,.sl 0 []),(6,ti)],lo:=[(0,[.sl 1 [],.sl 2 [],.sl 3 [],ti])],ro:=[(0,.int,true),(1,(.sl .int),false),(2,.guest,false),(3,.int,false)] })]
theorem zUi (a0:Bare)(a1:Int)(hc:zwP a0 a1=true):∃N,zFf N a0 a1=some [aS .int (zmS a0 a1)]:=by
 have hs:=zu.1 hc;have hl:=zb2 hs.2.1.1;refine zbo fun N hNN=>?_;unfold zFf oN
 conv=>zeta
 refine (zbc a0.Guests (fun i (t:(List Int))=>(a1,(i:Int),a0.Pending,t,a0.Memory,a0.Guests,a0.Outs,())) _ (fun i (x:Guest) (t:List Int) κ=>bif posts x.Ctl a1 then (cond (few (ln (ap t [(i:Int)]))) (κ (ap t [(i:Int)])) none) else κ t) (fun (t:(List Int))=>(some [(.one (.s .int t))])) (fun i hi t rec=>?_) (fun t rec=>?_) _ ([]) (hNN hl.1)).trans ?_
 .simp only [zU hi,zK hi,zS hi,zL hi hl.1,cT]
 .simp only [zQ,cF]
 exact zq2 (fun (x:Guest)=>posts x.Ctl a1) _ a0.Guests 0 [] (by simpa using hl.2)
theorem zMF:uY 232 zAW:=kF2 zLQ zi zk zn zVb zUi
@[simp] abbrev zv5 (b:Bare)(n:Int):Bool:=pc (SmB b)
@[simp] abbrev zik (b:Bare)(n:Int):List Int:=zdI b.Guests n
def zAu:Run:=rF2 (dT .bare) dI fun b c=>(zv5 b c,[aS .int (zik b c)])
def zEJ (N:Nat)(a0:Bare)(a1:Int):OA:=
 (iter (σ:=(Int×(Int×(Int×((List Int)×(lG×Unit)))))) N (fun r3 s4=>let y2:=s4.2.2.2.2.1;let y1:=s4.2.2.1;let y0:=(ix y2 y1 zo).Ctl; (cond (ilt y1 s4.2.1) (oN (inb y1 (ln y2)) (oN (zF5 y0 s4.1) (cond (zz4 y0 s4.1) (oN (few (ln (ap s4.2.2.2.1 [y1]))) (r3 (s4.1,(s4.2.1,((zB .i64 y1 1),((ap s4.2.2.2.1 [y1]),(y2,()))))))) (r3 (s4.1,(s4.2.1,((zB .i64 y1 1),(s4.2.2.2.1,(y2,()))))))))) (some [(aS .int s4.2.2.2.1)]))) (a1,((ln a0.Guests),(0,([],(a0.Guests,()))))))
def zUY:FuncId->Nat->Option Tmpl:=zl [(285,0,{ n:=27,tm:=[(1,ti),(5,.sl 0 []),(10,.sl 1 []),(11,ti),(12,ti)],lo:=[],ro:=[(0,.int,true),(1,.guest,false)] })]
theorem zTI (a0:Bare)(a1:Int)(hc:zv5 a0 a1=true):∃N,zEJ N a0 a1=some [aS .int (zik a0 a1)]:=by
 have hs:=zu.1 hc;have hl:=zb2 hs.2.1.1;refine zbo fun N hNN=>?_;unfold zEJ oN
 conv=>zeta
 refine (zbc a0.Guests (fun i (t:(List Int))=>(a1,(ln a0.Guests),(i:Int),t,a0.Guests,())) _ (fun i (x:Guest) (t:List Int) κ=>bif posts x.Ctl a1 then (cond (few (ln (ap t [(i:Int)]))) (κ (ap t [(i:Int)])) none) else κ t) (fun (t:(List Int))=>(some [(.one (.s .int t))])) (fun i hi t rec=>?_) (fun t rec=>?_) _ ([]) (hNN hl.1)).trans ?_
 .simp only [zU hi,zK hi,zS hi,zL hi hl.1,cT]
 .simp only [zQ,cF]
 exact zq2 (fun (x:Guest)=>posts x.Ctl a1) _ a0.Guests 0 [] (by simpa using hl.2)
theorem zL8:uY 285 zAu:=kF2 zLQ zi zk zn zUY zTI
def zbbV:zY:=[(232,zAW),(285,zAu)]++zbbU
theorem zLR:zJ zbbV:=zf zMF (zf zL8 zLQ)
def zH8 (n:Int)(l:List Guest)(k:Int):List Guest:=up l k (zm3 (ix l k zo) n)
def zo2 (n:Int)(ks:List Int)(l:List Guest):List Guest:=ks.foldl (zH8 n) l
theorem zxK (n:Int)(l:List Guest)(k:Int):(zH8 n l k).length=l.length:=zdZ _ _ _
theorem z6U {n:Int}{l:List Guest}{k:Int}(hk:hasB k (ln l)=true)(h:zm0 l):zm0 (zH8 n l k):=zIj h (z1N h hk _)
theorem zHB {n:Int}:∀(ks:List Int) {l:List Guest},(∀k∈ks,hasB k (ln l)=true)->zm0 l->zm0 (zo2 n ks l)/\(zo2 n ks l).length=l.length
 | [],_,_,h=>⟨h,rfl⟩
 | k :: ks,l,hk,h=>by
  have h1:=z6U (n:=n) (hk k (by simp)) h
  obtain ⟨g1,g2⟩:=zHB (n:=n) ks (l:=zH8 n l k) (fun j hj=>by rw[ln,zxK];exact hk j (by simp[hj])) h1
  exact ⟨g1,g2.trans (zxK _ _ _)⟩
theorem zLW {ρ:Type}(n:Int)(K:List Guest->Option ρ):∀(ks:List Int) (i:Nat) (l:List Guest),(∀k∈ks,hasB k (ln l)=true) ->
 goL (fun _ k (t:List Guest) κ=>bif inb k (ln t) then (cond (inb k (ln t)) (κ (up t k (zm3 (ix t k zo) n))) none) else none) K ks i l=K (zo2 n ks l)
 | [],_,_,_=>rfl
 | k :: ks,i,l,h=>by
  have hk:inb k (ln l)=true:=h k (by simp)
  simp only[goL,hk,cT];exact zLW n K ks (i+1) (zH8 n l k) (fun j hj=>by rw[ln,zxK];exact h j (by simp[hj]))
def zH9 (b:Bare)(n:Int):Bare:=bif ieq (ln (zdI b.Guests n)) 0 then { b with Pending:=zsi b.Pending n } else { b with Guests:=zo2 n (zdI b.Guests n) b.Guests }
def zfN (b:Bare)(n:Int):Bool:=bif zbQ b then hasB n 8 else false
def zi3 (b:Bare)(n:Int):Bare:=bif zfN b n then zH9 b n else b
theorem zCb {b:Bare}{n:Int}:∀k∈zdI b.Guests n,hasB k (ln b.Guests)=true:=fun k hk=>by
 have:=zZ3 _ _ _ k hk;exact qL (by simp only[ln];omega)
theorem z6L {b:Bare}{n:Int}(h:ieq (ln (zdI b.Guests n)) 0=true):zo2 n (zdI b.Guests n) b.Guests=b.Guests:=by
 have h1:((zdI b.Guests n).length:Int)=0:=qD h;have:zdI b.Guests n=[]:=List.length_eq_zero_iff.1 (by omega)
 rw[this];rfl
theorem zRf {b:Bare}{n:Int}:(cond (ieq (ln (zdI b.Guests n)) 0) (some [AV.agg (Ty.cells .bare ⟨b.Memory,zo2 n (zdI b.Guests n) b.Guests,b.Outs,zsi b.Pending n⟩),AV.one (.b true)]) (some [AV.agg (Ty.cells .bare ⟨b.Memory,zo2 n (zdI b.Guests n) b.Guests,b.Outs,b.Pending⟩),AV.one (.b true)]))=some [AV.agg (Ty.cells .bare (zH9 b n)),AV.one (.b true)]:=by
 unfold zH9;cases h:ieq (ln (zdI b.Guests n)) 0
 .rfl
 .simp only [cT,z6L h]
@[simp] abbrev zqm (b:Bare)(n:Int):Bool:=pc (SmB b)
@[simp] abbrev zju (b:Bare)(n:Int):Bare:=zi3 b n
@[simp] abbrev zlQ (b:Bare)(n:Int):Bool:=zfN b n
def zrq:Run:=rF2 (dT .bare) dI fun b c=>(zqm b c,[aT .bare (zju b c),aB (zlQ b c)])
def zE7 (N:Nat)(a0:Bare)(a1:Int):OA:=
 let y2:=(zb8 a0); (oN (ze0 a0) (oN (zql y2) (cond (nB (zeI y2)) (some [(aT .bare y2),(aB false)]) (oN (zO a1 0 7) (cond (nB (zT a1 0 7)) (some [(aT .bare y2),(aB false)]) (oN (zwP y2 a1) (iter (σ:=(Int×(Int×(Int×(Int×((List Int)×(lM×(lG×((List Int)×(lM×(lG×((List Int)×Unit)))))))))))) N (fun r3 s4=>let y5:=s4.2.2.2.2.2.2.2.1;let y3:=s4.2.2.2.2.1;let y1:=s4.2.2.2.2.2.2.1;let y0:=(ix y3 s4.2.1 0);let y4:=(ix y1 y0 zo); (cond (ilt s4.2.1 (ln y3)) (oN (inb s4.2.1 (ln y3)) (oN (inb s4.2.1 (ln y3)) (oN (inb y0 (ln y1)) (oN (zkR y4.Pending s4.1) (oN (inb y0 (ln y1)) (r3 (s4.1,((zB .i64 s4.2.1 1),(s4.2.2.1,(s4.2.2.2.1,(y3,(s4.2.2.2.2.2.1,((up y1 y0 ({ y4 with Pending:=(zha y4.Pending s4.1) }:Guest)),(y5,(s4.2.2.2.2.2.2.2.2.1,(s4.2.2.2.2.2.2.2.2.2.1,(s4.2.2.2.2.2.2.2.2.2.2.1,()))))))))))))))))) (cond (ieq (ln y3) 0) (oN (zkR s4.2.2.1 s4.1) (some [(aT .bare (⟨s4.2.2.2.2.2.1,y1,y5,(zha s4.2.2.1 s4.1)⟩:Bare)),(aB true)])) (some [(aT .bare (⟨s4.2.2.2.2.2.1,y1,y5,s4.2.2.1⟩:Bare)),(aB true)])))) (a1,(0,(y2.Pending,(0,((zmS y2 a1),(y2.Memory,(y2.Guests,(y2.Outs,([],([],([],()))))))))))))))))))
def zU8:FuncId->Nat->Option Tmpl:=zl [(131,0,{ n:=62,tm:=[(1,ti),(2,.lp 0 0),(4,.lp 1 0),(6,.sl 0 []),(7,ti)],lo:=[(0,[.sl 1 [],.sl 2 [],.sl 3 [],ti]),(1,[.sl 4 [],.sl 5 [],.sl 6 [],ti])],ro:=[(0,.int,true),(1,(.sl .int),true),(2,.guest,true),(3,.int,true),(4,(.sl .int),true),(5,.guest,true),(6,.int,true)] })]
theorem zUa (a0:Bare)(a1:Int)(hc:zqm a0 a1=true):∃N,zE7 N a0 a1=some [aT .bare (zju a0 a1),aB (zlQ a0 a1)]:=by
 have hs:=zu.1 hc;have hk:(zdI a0.Guests a1).length<=big:=jD (zv8 _ _ _) (zb2 hs.2.1.1).1;refine zbo fun N hNN=>?_;unfold zE7 zju zlQ zi3 zfN oN nB
 conv=>zeta
 refine must (zD hs) (must rfl (brN (fun h1=>?_) (fun h1=>must rfl (brN (fun h2=>?_) (fun h2=>must (zD hs) ?_)))))
 .simp only [show zbQ a0=false from h1,cF]
 .simp only [show zbQ a0=true from h1,show hasB a1 8=false from by first|exact h2|exact (zRY a1).symm.trans h2,cT,cF]
 simp only[show zbQ a0=true from h1,show hasB a1 8=true from by first|exact h2|exact (zRY a1).symm.trans h2,cT]
 refine (zbc (zmS (zb8 a0) a1) (fun i (t:lG)=>(a1,(i:Int),(zb8 a0).Pending,0,(zmS (zb8 a0) a1),(zb8 a0).Memory,t,(zb8 a0).Outs,[],[],[],())) _ (fun _ k (t:List Guest) κ=>bif inb k (ln t) then (cond (inb k (ln t)) (κ (up t k (zm3 (ix t k zo) a1))) none) else none) (fun (t:lG)=>(cond (ieq (ln (zmS (zb8 a0) a1)) 0) (cond (zkR (zb8 a0).Pending a1) (some [(.agg (Ty.cells .bare (⟨(zb8 a0).Memory,t,(zb8 a0).Outs,(zha (zb8 a0).Pending a1)⟩:Bare))),(.one (.b true))]) none) (some [(.agg (Ty.cells .bare (⟨(zb8 a0).Memory,t,(zb8 a0).Outs,(zb8 a0).Pending⟩:Bare))),(.one (.b true))]))) (fun i hi t rec=>?_) (fun t rec=>?_) _ ((zb8 a0).Guests) (hNN hk)).trans ?_
 .simp only [zU hi,zK hi,zS hi,zL hi hk,cT];rfl
 .simp only [zQ,cF];rfl
 exact (zLW a1 _ _ 0 _ zCb).trans zRf
theorem zvU:uY 131 zrq:=kF2 zLR zi zk zn zU8 zUa
@[simp] abbrev zpk (b:Bare)(n:Int):Bool:=pc (SmB b)
@[simp] abbrev zhz (b:Bare)(n:Int):Bare:=zi3 b n
@[simp] abbrev zgh (b:Bare)(n:Int):Bool:=zfN b n
def zrm:Run:=rF2 (dT .bare) dI fun b c=>(zpk b c,[aT .bare (zhz b c),aB (zgh b c)])
def zEy (N:Nat)(a0:Bare)(a1:Int):OA:=
 let y6:=(zbs a0); (oN (zbH a0) (oN (zdg a0) (cond (nB (zck a0)) (some [(aT .bare y6),(aB false)]) (oN (zbl a1 0 7) (cond (nB (zbp a1 0 7)) (some [(aT .bare y6),(aB false)]) (oN (zv5 a0 a1) (iter (σ:=(Int×(Int×(Int×(Int×(Int×((List Int)×(lM×(lG×((List Int)×(lM×(lG×((List Int)×Unit))))))))))))) N (fun r3 s4=>let y7:=s4.2.2.2.2.1;let y5:=s4.2.2.2.2.2.1;let y4:=s4.2.2.2.2.2.2.2.2.2.1;let y2:=s4.2.2.2.2.2.2.2.2.2.2.2.1;let y1:=(ix y5 s4.2.2.1 0);let y0:=s4.2.2.2.2.2.2.2.2.2.2.1;let y3:=(ix y0 y1 zo); (cond (ilt s4.2.2.1 s4.2.1) (oN (inb s4.2.2.1 (ln y5)) (oN (inb y1 (ln y0)) (oN (zkC y3.Pending s4.1) (oN (inb y1 (ln y0)) (r3 (s4.1,(s4.2.1,((zB .i64 s4.2.2.1 1),(s4.2.2.2.1,(y7,(y5,(s4.2.2.2.2.2.2.1,(s4.2.2.2.2.2.2.2.1,(s4.2.2.2.2.2.2.2.2.1,(y4,((up y0 y1 ({ y3 with Pending:=(zg1 y3.Pending s4.1) }:Guest)),(y2,()))))))))))))))))) (cond (ieq (ln y5) 0) (oN (zkC y7 s4.1) (some [(aT .bare (⟨y4,y0,y2,(zg1 y7 s4.1)⟩:Bare)),(aB true)])) (some [(aT .bare (⟨y4,y0,y2,y7⟩:Bare)),(aB true)])))) (a1,((ln (zik a0 a1)),(0,(0,(y6.Pending,((zik a0 a1),([],([],([],(y6.Memory,(y6.Guests,(y6.Outs,())))))))))))))))))))
def zUV:FuncId->Nat->Option Tmpl:=zl [(180,0,{ n:=59,tm:=[(1,ti),(4,.lp 0 0),(6,.lp 1 0),(7,.sl 0 []),(24,.sl 0 []),(25,ti),(26,ti)],lo:=[(0,[.sl 1 [],.sl 2 [],.sl 3 [],ti]),(1,[.sl 4 [],.sl 5 [],.sl 6 [],ti])],ro:=[(0,.int,true),(1,(.sl .int),true),(2,.guest,true),(3,.int,true),(4,(.sl .int),true),(5,.guest,true),(6,.int,true)] })]
theorem zTx (a0:Bare)(a1:Int)(hc:zpk a0 a1=true):∃N,zEy N a0 a1=some [aT .bare (zhz a0 a1),aB (zgh a0 a1)]:=by
 have hs:=zu.1 hc;have hk:(zdI a0.Guests a1).length<=big:=jD (zv8 _ _ _) (zb2 hs.2.1.1).1;refine zbo fun N hNN=>?_;unfold zEy zhz zgh zi3 zfN oN nB
 conv=>zeta
 refine must (zD hs) (must rfl (brN (fun h1=>?_) (fun h1=>must rfl (brN (fun h2=>?_) (fun h2=>must (zD hs) ?_)))))
 .simp only [show zbQ a0=false from h1,cF]
 .simp only [show zbQ a0=true from h1,show hasB a1 8=false from by first|exact h2|exact (zRY a1).symm.trans h2,cT,cF]
 simp only[show zbQ a0=true from h1,show hasB a1 8=true from by first|exact h2|exact (zRY a1).symm.trans h2,cT]
 refine (zbc (zik a0 a1) (fun i (t:lG)=>(a1,(ln (zik a0 a1)),(i:Int),0,(zbs a0).Pending,(zik a0 a1),[],[],[],(zbs a0).Memory,t,(zbs a0).Outs,())) _ (fun _ k (t:List Guest) κ=>bif inb k (ln t) then (cond (inb k (ln t)) (κ (up t k (zm3 (ix t k zo) a1))) none) else none) (fun (t:lG)=>(cond (ieq (ln (zik a0 a1)) 0) (cond (zkC (zbs a0).Pending a1) (some [(.agg (Ty.cells .bare (⟨(zbs a0).Memory,t,(zbs a0).Outs,(zg1 (zbs a0).Pending a1)⟩:Bare))),(.one (.b true))]) none) (some [(.agg (Ty.cells .bare (⟨(zbs a0).Memory,t,(zbs a0).Outs,(zbs a0).Pending⟩:Bare))),(.one (.b true))]))) (fun i hi t rec=>?_) (fun t rec=>?_) _ ((zbs a0).Guests) (hNN hk)).trans ?_
 .simp only [zU hi,zK hi,zS hi,zL hi hk,cT];rfl
 .simp only [zQ,cF];rfl
 exact (zLW a1 _ _ 0 _ zCb).trans zRf
theorem zvP:uY 180 zrm:=kF2 zLR zi zk zn zUV zTx
end
end Go.Proofs.YtmjbkmbimgdodaaGreat.E
namespace Go.Proofs
open Go Go.Shelf
def Tryz.laysMul_ren : Go.Shelf.Ren := ⟨fun | 212 => 317 | 263 => 342 | 264 => 343 | n => n, fun | 46 => 237 | 51 => 251 | 146 => 252 | 53 => 254 | 148 => 255 | n => n, fun | n => n⟩
theorem Tryz.laysMul : Go.Proofs.Lays.n212 Tryz.prog Tryz.laysMul_ren := {
  mixed := by kernel_rfl
  f212 := Tryz.func317.trans (congrArg some (by kernel_rfl))
  f263 := Tryz.func342.trans (congrArg some (by kernel_rfl))
  f264 := Tryz.func343.trans (congrArg some (by kernel_rfl))
  t46 := Tryz.underlying237
  a46 := Tryz.isAgg237
  z46 := Tryz.sizeOf237
  v46 := Tryz.zeroValue237
  t51 := Tryz.underlying251
  a51 := Tryz.isAgg251
  z51 := Tryz.sizeOf251
  v51 := Tryz.zeroValue251
  t53 := Tryz.underlying254
  a53 := Tryz.isAgg254
  z53 := Tryz.sizeOf254
  v53 := Tryz.zeroValue254
  t146 := Tryz.underlying252
  a146 := Tryz.isAgg252
  z146 := Tryz.sizeOf252
  v146 := Tryz.zeroValue252
  t148 := Tryz.underlying255
  a148 := Tryz.isAgg255
  z148 := Tryz.sizeOf255
  v148 := Tryz.zeroValue255 }
end Go.Proofs
namespace Go.Proofs.YtmjbkmbimgdodaaGreat.E
open Go
set_option linter.unusedVariables false
set_option maxRecDepth 100000
set_option linter.unusedSimpArgs false
set_option linter.unusedSectionVars false
noncomputable section
section
open Go Go.RowKit Go.Proofs
theorem z8q (x y:Nat)(hx:x<18446744073709551616)(hy:y<18446744073709551616)(w:World) :
 Calls Tryz.prog 317 #[.int .u64 x,.int .u64 y] w fun e w'=>e = .returned (.tuple #[.int .u64 ((x*y / 18446744073709551616:Nat):Int),.int .u64 ((x*y % 18446744073709551616:Nat):Int)])/\w'=w :=
 Any.bits_Mul Tryz.laysMul x y hx hy w
theorem zQ2 (y:Nat)(hy:y<1000)(w:World):Calls Tryz.prog 317 #[.int .u64 1,.int .u64 y] w fun e w'=>e = .returned (.tuple #[.int .u64 0,.int .u64 y])/\w'=w:=by
 have h:=z8q 1 y (by omega) (by omega) w
 rw[show 1*y / 18446744073709551616=0 by omega,show 1*y % 18446744073709551616=y by omega]at h
 exact h
theorem src_of {w:World}{g:Nat}{cur cs:List Value}{t:TypeId}(hg:w.heap[g]?=some (.cells cur.toArray t (0,0)))(h:∀(j:Nat) v,cs[j]?=some v->cur[j]?=some v)(j:Nat)(v:Value)(hv:cs[j]?=some v):w.cell? ((⟨g,0,none⟩:Addr).add j)=some v:=by
 have ha:(⟨g,0,none⟩:Addr).add j=⟨g,j,none⟩:=by unfold Addr.add;split<;>simp_all
 rw[ha];simp[World.cell?,hg,h j v hv]
theorem z5z {B:Nat}{w0 w:World}(h:Below B w0 w):Below B w0 w.drew:=h.trans ⟨rfl,rfl,rfl,qV _,fun _ _=>rfl⟩
theorem alloc_at (w:World)(o:Obj):(w.alloc o).heap[w.heap.size]?=some o:=by unfold World.alloc;exact Array.getElem?_push_size
section
variable {P:Program}
theorem zC8 (w:World)(dT sT ty elem:TypeId)(g o dLen dCap:Nat)(a:Addr)(sLen sCap:Nat)(cur:Array Value)(t:TypeId)(cs:List Value)(i:TypeInfo)(hu:P.underlying dT=some (.slice elem))(hs:P.info? elem=some i)(hg:w.heap[g]?=some (.cells cur t (0,0)))(hn:cs.length=Nat.min sLen dLen*i.size)(hsrc:∀j v,cs[j]?=some v->w.cell? (a.add j)=some v)(hfit:o+cs.length<=cur.size)(h1:∀v∈cs,v.oneCell'=true) :
 (Builtin.copy_ #[dT,sT] ty #[.slice (some ⟨g,o,none⟩) dLen dCap,.slice (some a) sLen sCap]).run P w =
  .ok (goInt (Nat.min sLen dLen)) (w.setRow g (cur.toList.take o++cs++cur.toList.drop (o+cs.length)).toArray):=by
 have hl:=run_loadCells_list (P:=P) w a cs hsrc;have hst:=run_storeCells_at P g o t cs 0 cur w hg (by simpa using hfit) h1
 simp[Builtin.copy_,run_underlying hu,Builtin.lenOf,Builtin.firstCells,sizeOf,typeInfo,hs,<- hn,hl,hst]
theorem z2F {w:World}{ops:Array Oper}{rest:List Oper}{o:Oper}{a:Act}{Q:Exit->Act->World->Prop}(hgd:o.guard=none)(d s:Operand)(dT sT:TypeId)(ho:o.op = .call { callee:=.builtin .copy,args:=#[d,s],argTypes:=#[dT,sT] })(elem:TypeId)(hu:P.underlying dT=some (.slice elem))(i:TypeInfo)(hsz:P.info? elem=some i)(g off dLen dCap:Nat)(ad:Addr)(sLen sCap:Nat)(hd:a.eval d = .slice (some ⟨g,off,none⟩) dLen dCap)(hs:a.eval s = .slice (some ad) sLen sCap)(cur:List Value)(t:TypeId)(hg:w.heap[g]?=some (.cells cur.toArray t (0,0)))(cs:List Value)(n:Nat)(hmin:Nat.min sLen dLen=n)(hn:cs.length=n*i.size)(hsrc:∀j v,cs[j]?=some v->w.cell? (ad.add j)=some v)(hfit:off+cs.length<=cur.length)(h1:∀v∈cs,v.oneCell'=true)(B:Nat)(w0:World)(hb:Below B w0 w)(hBg:B<=g)(h:∀w',Hid (w'.heap[g]?=some (.cells (splice cur off cs).toArray t (0,0)))->Below B w0 w'->w'.heap.size=w.heap.size->wpList P ops Q rest (a.put o.dst (goInt n)) w') :
 wpList P ops Q (o :: rest) a w:=by
 refine wpList_plain hgd fun K hK=>?_;subst hmin;have hrun:=zC8 (P:=P) w dT sT o.type elem g off dLen dCap ad sLen sCap cur.toArray t cs i hu hsz hg hn hsrc (by simpa using hfit) h1
 unfold Oper.wp;simp[execOp,ho,resolve,invoke,builtin,hd,hs,hrun,Result.andThen];exact hK _ _ (by simpa using h _ (show _=_ by simpa [splice] using setRow_heap w g _ _ t _ hg) (below_setRow hb hBg _) (by simp[World.setRow]))
theorem z6Z {ops:Array Oper}{o:Oper}{a:Act}{w:World}{K:Act->World->Prop}{Q:Exit->Act->World->Prop}{E:Prop}(hgd:o.guard=none)(d s:Operand)(dT sT:TypeId)(ho:o.op = .call { callee:=.builtin .copy,args:=#[d,s],argTypes:=#[dT,sT] })(elem:TypeId)(hu:P.underlying dT=some (.slice elem))(i:TypeInfo)(hsz:P.info? elem=some i)(g off dLen dCap:Nat)(ad:Addr)(sLen sCap:Nat)(hd:a.eval d = .slice (some ⟨g,off,none⟩) dLen dCap)(hs:a.eval s = .slice (some ad) sLen sCap)(cur:List Value)(t:TypeId)(hg:w.heap[g]?=some (.cells cur.toArray t (0,0)))(cs:List Value)(n:Nat)(hmin:Nat.min sLen dLen=n)(hn:cs.length=n*i.size)(hsrc:∀j v,cs[j]?=some v->w.cell? (ad.add j)=some v)(hfit:off+cs.length<=cur.length)(h1:∀v∈cs,v.oneCell'=true)(B:Nat)(w0:World)(hb:Below B w0 w)(hBg:B<=g)(h:∀w',Hid (w'.heap[g]?=some (.cells (splice cur off cs).toArray t (0,0)))->Below B w0 w'->w'.heap.size=w.heap.size->K (a.put o.dst (goInt n)) w') :
 if Region.wanted o (yielded ops a.tmps)=true then Oper.wp P o a w K Q else E:=by
 have hw:Region.wanted o (yielded ops a.tmps)=true:=by simp[Region.wanted,hgd]
 rw[if_pos hw];subst hmin;have hrun:=zC8 (P:=P) w dT sT o.type elem g off dLen dCap ad sLen sCap cur.toArray t cs i hu hsz hg hn hsrc (by simpa using hfit) h1
 unfold Oper.wp;simp[execOp,ho,resolve,invoke,builtin,hd,hs,hrun,Result.andThen];exact h _ (show _=_ by simpa [splice] using setRow_heap w g _ _ t _ hg) (below_setRow hb hBg _) (by simp[World.setRow])
end
def zdA (a b:Value):Nat->List Value
 | 0=>[]
 | n+1=>a :: b :: zdA a b n
theorem zhM (a b:Value):∀n,(zdA a b n).length=n*2
 | 0=>rfl
 | n+1=>by simp[zdA,zhM a b n];omega
theorem zwo (a b:Value)(m:Nat):∀n,zdA a b (n+m)=zdA a b n++zdA a b m
 | 0=>by simp[zdA]
 | n+1=>by rw[show n+1+m=n+m+1 by omega];simp[zdA,zwo a b m n]
theorem zNq {a b v:Value}:∀{n},v∈zdA a b n->v=a\/v=b
 | n+1,h=>by
  simp[zdA]at h;rcases h with h|h|h
  .exact .inl h
  .exact .inr h
  .exact zNq h
theorem z1E (a b:Value):∀{n j:Nat},j<n->(zdA a b n)[j*2]?=some a/\(zdA a b n)[j*2+1]?=some b
 | n+1,0,_=>⟨rfl,rfl⟩
 | n+1,j+1,h=>by
  have:=z1E a b (n:=n) (j:=j) (by omega)
  rw[show (j+1)*2=j*2+1+1 by omega]
  simpa [zdA] using this
def pat (a b c d:Value)(k m:Nat):List Value:=zdA a b k++zdA c d m
theorem z4X (a b c d:Value)(k m:Nat):(pat a b c d k m).length=(k+m)*2:=by simp[pat,zhM];omega
theorem zRe (a b c d:Value)(k m r:Nat)(hr:r<=m):splice (pat a b c d k m) (k*2) (zdA a b r)=pat a b c d (k+r) (m-r):=by
 unfold splice pat;have hm:m=r+(m-r):=by omega
 have e1:(zdA a b k++zdA c d m).take (k*2)=zdA a b k:=by
  rw[List.take_append_of_le_length (by simp[zhM]),uG (by simp[zhM])]
 have e2:(zdA a b k++zdA c d m).drop (k*2+(zdA a b r).length)=zdA c d (m-r):=by
  rw[<- zhM a b k,List.drop_append,uE (by simp[zhM]),jP,Nat.add_sub_cancel_left]
  conv=>lhs;rw[hm,zwo]
  rw[List.drop_append,uE (by simp[zhM])]
  simp[zhM]
 rw[e1,e2,zwo,kA]
theorem z3W {a b c d:Value}{m:Nat}(h:1<=m):splice (pat c d c d 0 m) 0 (zdA a b 1)=pat a b c d 1 (m-1):=by
 have:=zRe a b c d 0 m 1 h;simpa [pat,zdA] using this
theorem zbc8 (a b c d:Value)(k m r:Nat)(hr:r<=k)(j:Nat)(v:Value)(h:(zdA a b r)[j]?=some v):(pat a b c d k m)[j]?=some v:=by
 have hj:j<(zdA a b r).length:=(qA.1 h).1;unfold pat;rw[show k=r+(k-r) by omega,zwo,kA,qP hj,h]
theorem zbad (c d:Value)(n:Nat):(madeCells #[c,d] (n*2)).toList=zdA c d n:=by
 induction n with
 | zero=>simp[madeCells,zdA,uQ]
 | succ n ih =>
  rw[zwo c d 1 n,<- ih];unfold madeCells;rw[show (n+1)*2=n*2+1+1 by omega,Array.range_succ,Array.range_succ]
  simp[zdA]
theorem zV5:∃i:TypeInfo,Tryz.prog.info? 89=some i/\i.size=2/\i.bytes=16/\i.zero=some (.agg #[.int .i64 0,.int .i64 0]):=by
 have h:(Tryz.prog.info? 89).map (fun i=>(i.size,i.bytes))=some (2,16):=by kernel_rfl
 have h2:(Tryz.prog.info? 89).bind (fun i=>i.zero)=some (.agg #[.int .i64 0,.int .i64 0]):=by kernel_rfl
 cases hi:Tryz.prog.info? 89 with
 | none=>rw[hi]at h;cases h
 | some i =>
  rw[hi]at h h2;simp at h h2;exact ⟨i,rfl,h.1,h.2,h2⟩
theorem z6z (w:World)(l:Nat)(hl:l<=24):(Instr.makeSlice 74 (.int .i64 l) (.int .i64 l)).run Tryz.prog w = .ok (.slice (some ⟨w.heap.size,0,none⟩) l l) (w.alloc (.cells (pat (.int .i64 0) (.int .i64 0) (.int .i64 0) (.int .i64 0) 0 l).toArray 89)):=by
 obtain ⟨i,hi,hs,hb,hz⟩:=zV5;have:=run_make (P:=Tryz.prog) w 74 89 i _ Tryz.underlying74 hi hz .i64 .i64 l l (by omega) (by omega) (by rw[hb];omega) (by omega)
 rw[this,hs];simp only[kC];rw[show (Value.agg #[.int .i64 0,.int .i64 0]).cells = #[.int .i64 0,.int .i64 0] from by kernel_rfl]
 simp only[pat,zdA,jP,<- zbad,jR]
theorem z3X (b off cap n:Nat)(v0 v1:Value)(w:World)(hn:1<=n)(hn2:n<=24)(h0:w.cell? ⟨b,off,none⟩=some v0)(h1:w.cell? ⟨b,off+1,none⟩=some v1)(hb:b<w.heap.size)(o0:v0.oneCell'=true)(o1:v1.oneCell'=true) :
 Calls Tryz.prog 239 #[.slice (some ⟨b,off,none⟩) 1 cap,.int .i64 n] w fun e w'=>∃g,e = .returned (.slice (some ⟨g,0,none⟩) n n)/\w.heap.size<=g/\w'.heap[g]?=some (.cells (zdA v0 v1 n).toArray 89 (0,0))/\Below w.heap.size w w':=by
 have hmk:=fun w=>z6z w n hn2;obtain ⟨inf,hinf,hsz,-,-⟩:=zV5;have hsrc:∀(x:Obj) (j:Nat) (v:Value),(zdA v0 v1 1)[j]?=some v->(w.alloc x).cell? ((⟨b,off,none⟩:Addr).add j)=some v:=by
  intro x j v hv;have hbel:Below w.heap.size w (w.alloc x):=(Below.refl _ _).alloc (qV _) _;have hj:j<2:=by simpa [zdA] using (qA.1 hv).1
  have ha:(⟨b,off,none⟩:Addr).add j=⟨b,off+j,none⟩:=by unfold Addr.add;split<;>simp_all
  rw[ha,hbel.cell (by exact hb)]
  match j,hj with
  | 0,_=>cases hv;exact h0
  | 1,_=>cases hv;exact h1
 go_enter Tryz.func239,Tryz.ntmps239
 go_wp2_with (go_at_fn 317;refine (zQ2 n (by omega) _).mono ?_;rintro e w' ⟨rfl,hw⟩;rw[hw])
 .refine (zQ2 n (by omega) _).mono ?_
  rintro e w' ⟨rfl,hw⟩
  rw[hw]
  go_wp2_with (refine z2F rfl (.tmp 31) (.tmp 32) 74 74 rfl 89 Tryz.underlying74 inf hinf w.heap.size 0 n n ⟨b,off,none⟩ 1 cap rfl rfl (pat (.int .i64 0) (.int .i64 0) (.int .i64 0) (.int .i64 0) 0 n) 89 (alloc_at _ _) (zdA v0 v1 1) 1 (by show min 1 n=1;omega) (by rw[hsz];rfl) (hsrc _) (by simp[zdA,z4X];omega) (by intro v hv;rcases zNq hv with rfl|rfl<;>assumption) w.heap.size w ((Below.refl _ _).alloc (qV _) _) (qV _) ?_;intro w2 HG2 hB2 hs2)
  rw[z3W (by omega)] at HG2
  go_loopw [8] (fun i wr=>∃k:Nat,1<=k/\k<=n/\i = .int .i64 k/\wr.heap[w.heap.size]?=some (.cells (pat v0 v1 (.int .i64 0) (.int .i64 0) k (n-k)).toArray 89 (0,0))/\Below w.heap.size w wr) (fun i _=>n-(intOf i).toNat)
  case atStart=>exact ⟨1,qV _,hn,rfl,HG2.out,hB2⟩
  case round =>
   obtain ⟨k,hk1,hkn,rfl,HG,hB⟩:=hrel
   by_cases hlt:k<n
   .obtain ⟨r,hr⟩:∃r,r=min k (n-k):=⟨_,rfl⟩;have hc1:(k:Int)<=(n:Int):=by omega
    have hnk:n≠k:=by omega
    have hwr:IntKind.i64.wrap ((k:Int)+(r:Int))=((k+r:Nat):Int):=by rw[IntKind.wrap_i64];omega
    go_wp2_with fail
    go_region_law (refine z6Z rfl (.tmp 41) (.tmp 44) 74 74 rfl 89 Tryz.underlying74 inf hinf w.heap.size (k*2) (n-k) (n-k) ⟨w.heap.size,0,none⟩ k n (by simp[Act.eval,Act.put,hnk]) (by simp[Act.eval,Act.put]) (pat v0 v1 (.int .i64 0) (.int .i64 0) k (n-k)) 89 HG (zdA v0 v1 r) r hr.symm (by rw[hsz,zhM]) (src_of HG (zbc8 _ _ _ _ _ _ _ (by omega))) (by simp[zhM,z4X];omega) (by intro v hv;rcases zNq hv with rfl|rfl<;>assumption) w.heap.size w (z5z hB) (qV _) ?_;intro w2 HG2 hB2 hs2)
    go_simp
    go_roundw
    case rel =>
     refine ⟨_,_,_,_,_,_,_,_,_,_,_,_,_,_,⟨k+r,by omega,by omega,?_,?_,hB2⟩,rfl⟩
     .rw [<- hr,hwr]
     .rw [show n-(k+r)=n-k-r by omega,<- zRe _ _ _ _ _ _ _ (by omega)]
      exact HG2.out
    case measure =>
     show n-(intOf (.int .i64 (IntKind.i64.wrap ((k:Int)+((min k (n-k):Nat):Int))))).toNat<n-(intOf (.int .i64 k)).toNat
     rw[<- hr,hwr];simp only[intOf,kC];omega
   .obtain rfl:k=n:=by omega
    go_wp2
    go_ret
    refine ⟨_,rfl,qV _,?_,hB⟩;rw[HG];simp[pat,zdA]
theorem z3U (w:World):Calls Tryz.prog 240 #[] w fun e w'=>e = .returned (.agg #[.int .i64 (-1),.int .i64 0])/\Below w.heap.size w w':=by
 go_enter Tryz.func240,Tryz.ntmps240
 go_wp2
 refine bodyPost_ret (results_cell_row (by rfl) _ _ w.heap.size 89 #[.int .i64 (-1),.int .i64 0] (0,0) _ rfl (alloc_at _ _) Tryz.underlying89 rfl (by kernel_rfl)) rfl ?_
 exact ⟨rfl,(Below.refl _ _).alloc (qV _) _⟩
theorem zZi (n:Nat)(w:World)(hn2:n<=24):Calls Tryz.prog 138 #[.int .i64 n,.int .i64 0,.int .i64 24] w fun e w'=>e = .returned (.int .i64 n)/\Below w.heap.size w w':=by
 go_enter Tryz.func138,Tryz.ntmps138
 go_wp2
 all_goals first
  | omega
  | (go_ret;exact ⟨by first|rfl|(congr 3;omega),Below.refl _ _⟩)
theorem zC6 (w:World)(c:Array Value)(t:TypeId){i:Nat}{v:Value}(h:c[i]?=some v):(w.alloc (.cells c t)).cell? ⟨w.heap.size,i,none⟩=some v:=by
 rw[World.cell?_alloc_at (w:=w) c t _ _ rfl,h]
theorem z7a (n:Nat)(w:World)(hn:1<=n)(hn2:n<=24) :
 Calls Tryz.prog 139 #[.int .i64 n] w fun e w'=>∃g,e = .returned (.slice (some ⟨g,0,none⟩) n n)/\w.heap.size<=g/\w'.heap[g]?=some (.cells (zdA (.int .i64 (-1)) (.int .i64 0) n).toArray 89 (0,0))/\Below w.heap.size w w':=by
 go_enter Tryz.func139,Tryz.ntmps139
 go_wp2_with fail
 refine (z3U _).mono ?_
 rintro e w1 ⟨rfl,hB1⟩
 go_wp2_with fail
 refine (zZi n _ hn2).mono ?_
 rintro e w2 ⟨rfl,hB2⟩
 go_wp2_with fail
 have hs1:(w1.alloc (.cells #[.int .i64 (-1),.int .i64 0] 89)).heap.size=w1.heap.size+1:=by simp
 have z1:=hB1.size;have z2:=hB2.size;rw[hs1] at z2;refine (z3X w1.heap.size 0 1 n (.int .i64 (-1)) (.int .i64 0) w2 hn hn2 (by rw[hB2.cell (by show w1.heap.size<_;rw[hs1];omega)];exact zC6 _ _ _ rfl) (by rw[hB2.cell (by show w1.heap.size<_;rw[hs1];omega)];exact zC6 _ _ _ rfl) (by omega) rfl rfl).mono ?_
 rintro e w3 ⟨g,rfl,hg,hrow,hB3⟩
 go_wp2
 go_ret
 exact ⟨g,rfl,by omega,hrow,((hB1.alloc z1 _).trans (hB2.mono (by omega))).trans (hB3.mono (by omega))⟩
@[simp] abbrev zjk (n:Int):Bool:=ile 1 n&&ile n 24
@[simp] abbrev zgQ (n:Int):List Slot:=List.replicate n.toNat ⟨-1,0⟩
def zmD:List AV->Option (Bool×List AV)
 | [.one (.i .i64 n)]=>some (zjk n,[.one (.s .slot (zgQ n))])
 | _=>none
theorem zvR:uY 139 zmD:=by
 refine ⟨zdQ (by kernel_rfl),?_⟩
 intro w avs xs rs hrep hrun;unfold zmD at hrun;split at hrun
 .rename_i n;simp only[qB,qY,zjk,qE,ile,qZ]at hrun;obtain ⟨⟨hc1,hc2⟩,rfl⟩:=hrun;have hl:xs.length=1:=hrep.1
  match xs,hl with
  | [x0],_ =>
   have hR:Rep false w x0 (.i .i64 n) (fun b=>b<w.heap.size):=hrep.2 0 _ x0 rfl rfl;obtain rfl:=hR.int_inv;obtain ⟨m,rfl⟩:∃m:Nat,n=(m:Int):=⟨n.toNat,by omega⟩
   refine (z7a m w (by omega) (by omega)).mono ?_
   rintro r w' ⟨g,rfl,hg,hrow,hB⟩
   have hgw:g<w'.heap.size:=(qR.1 hrow).1;have hlen:(zgQ (m:Int)).length=m:=by simp
   refine ⟨⟨hB.os,hB.tape,hB.output,hB.size,fun b hb=>hB.block b hb⟩,[_],fun _ x=>x=g,⟨rfl,fun i c x hc hx=>?_⟩,rfl,⟨fun i x _ h=>⟨by omega,by omega⟩,fun i j x hi hj _ _=>?_⟩⟩
   .cases i with
    | zero =>
     cases hc;cases hx;have:=Rep.sl (o:=true) (w:=w') .slot (zgQ (m:Int)) g 0 m _ _ (0,0) (fun _ j=>if j=0 then .int .i64 (-1) else .int .i64 0) (fun _ _ _=>False) (fun x=>x=g) hrow (fun _=>rfl)
      (by rw[hlen];unfold big;omega) (by rw[hlen];exact qV _) (by simp[zhM,Ty.width]) rfl (fun i j x _ _ h=>h.elim) (fun _ i j i' j' x _ _ _ _ h=>h.elim)
      (fun i j hi hj=>by
       rw[hlen]at hi;have hj2:j<2:=hj;have h2:=z1E (.int .i64 (-1)) (.int .i64 0) hi
       match j,hj2 with
       | 0,_=>simpa [show Ty.width .slot=2 from rfl] using h2.1
       | 1,_=>simpa [show Ty.width .slot=2 from rfl] using h2.2)
      (fun i x hx j c hcj=>by
       have hx2:x=⟨-1,0⟩:=by
        have:=qJ hx;simpa using (List.mem_replicate.1 this).2
       subst hx2
       match j,hcj with
       | 0,hcj=>cases hcj;exact .i _ _ _
       | 1,hcj=>cases hcj;exact .i _ _ _)
     rw[hlen] at this;exact this
    | succ i=>simp[zA,AV.cvs]at hc
   .simp [zA,AV.cvs]at hi hj;omega
 .cases hrun
end
def z7r:zY:=[(117,ztU),(162,ztR),(120,zqc),(164,zp8),(124,zoz),(169,zow),(125,zoB),(171,zoy),(126,zoA),(173,zox),(127,ztT),(175,ztQ),(177,zrl),(132,ztS),(182,ztP),(131,zrq),(180,zrm),(139,zmD)]++zbbV
theorem zxh:zJ z7r:=zf zxw (zf zxt (zf zt9 (zf zt7 (zf zsS (zf zsP (zf zsV (zf zsR (zf zsU (zf zsQ (zf zxv (zf zxs (zf zvO (zf zxu (zf zxr (zf zvU (zf zvP (zf zvR zLR)))))))))))))))))
theorem z9a {n:Int}(h:(ieq n 4||ieq n 8)=true):n=4\/n=8:=by
 rcases jW _ _ ▸ h with h|h
 .exact .inl (qD h)
 .exact .inr (qD h)
theorem zWf {n:Int}(h:(ieq n 8||ieq n 12)=true):n=8\/n=12:=by
 rcases jW _ _ ▸ h with h|h
 .exact .inl (qD h)
 .exact .inr (qD h)
@[simp] abbrev zjw (n:Int):Bool:=ieq n 4||ieq n 8
@[simp] abbrev zgU (n:Int):List Slot:=List.replicate n.toNat ⟨-1,0⟩
def zru:Run:=rF1 dI fun b=>(zjw b,[aS .slot (zgU b)])
def zZa (N:Nat)(a0:Int):OA:=
 (oN (zso a0 0 24) (iter (σ:=(Int×(lS×Unit))) N (fun r2 s3=>(cond (igt s3.1 0) (oN zcd (oN (few (ln (ap s3.2.1 [zbq]))) (r2 ((wsub .i64 s3.1 1),((ap s3.2.1 [zbq]),()))))) (some [(aS .slot s3.2.1)]))) ((zth a0 0 24),([],()))))
def zVc:FuncId->Nat->Option Tmpl:=zl [(99,0,{ n:=17,tm:=[(3,.sl 0 []),(4,ti)],lo:=[],ro:=[(0,.slot,true)] })]
theorem zUm (a0:Int)(hc:zjw a0=true):∃N,zZa N a0=some [aS .slot (zgU a0)]:=by
 refine ⟨30,?_⟩;have h:a0=4\/a0=8:=z9a hc;rcases h with rfl|rfl<;>(change _=_;kernel_rfl)
theorem zvW:uY 99 zru:=kF1 zxh zi zk zn zVc zUm
@[simp] abbrev zqD (n:Int):Bool:=ieq n 8||ieq n 12
@[simp] abbrev zj3 (n:Int):List (List Int):=List.replicate n.toNat [0,0,0,0]
def zwF:Run:=rF1 dI fun b=>(zqD b,[aS (.sl .int) (zj3 b)])
def z5v (N:Nat)(a0:Int):OA:=
 (oN (zso a0 0 24) (iter (σ:=(Int×(lM×Unit))) N (fun r2 s3=>(cond (igt s3.1 0) (oN (cond (few 4) (ieq 4 4) false) (oN (few (ln (ap s3.2.1 [(rp 4 0)]))) (r2 ((wsub .i64 s3.1 1),((ap s3.2.1 [(rp 4 0)]),()))))) (some [(aS (.sl .int) s3.2.1)]))) ((zth a0 0 24),([],()))))
def z2s:FuncId->Nat->Option Tmpl:=zl [(42,0,{ n:=17,tm:=[(3,.sl 0 []),(4,ti)],lo:=[],ro:=[(0,(.sl .int),true)] })]
theorem z01 (a0:Int)(hc:zqD a0=true):∃N,z5v N a0=some [aS (.sl .int) (zj3 a0)]:=by
 refine ⟨30,?_⟩;have h:a0=8\/a0=12:=zWf hc;rcases h with rfl|rfl<;>(change _=_;kernel_rfl)
theorem zz1:uY 42 zwF:=kF1 zxh zi zk zn z2s z01
@[simp] abbrev zuv (n:Int):Bool:=ieq n 8||ieq n 12
@[simp] abbrev zlw (n:Int):List (List Int):=List.replicate n.toNat [0,0,0,0]
def zwv:Run:=rF1 dI fun b=>(zuv b,[aS (.sl .int) (zlw b)])
def z5t (N:Nat)(a0:Int):OA:=
 (iter (σ:=(Int×(Int×(lM×Unit)))) N (fun r2 s3=>(oN (zrZ s3.1 0 24) (cond (ilt s3.2.1 (zoT s3.1 0 24)) (oN (cond (few 4) (ieq 4 4) false) (oN (few (ln (ap s3.2.2.1 [(rp 4 0)]))) (r2 (s3.1,((zB .i64 s3.2.1 1),((ap s3.2.2.1 [(rp 4 0)]),())))))) (some [(aS (.sl .int) s3.2.2.1)])))) (a0,(0,([],()))))
def z2a:FuncId->Nat->Option Tmpl:=zl [(62,0,{ n:=17,tm:=[(0,ti),(3,.sl 0 []),(4,ti)],lo:=[],ro:=[(0,(.sl .int),true)] })]
theorem z0k (a0:Int)(hc:zuv a0=true):∃N,z5t N a0=some [aS (.sl .int) (zlw a0)]:=by
 refine ⟨30,?_⟩;have h:a0=8\/a0=12:=zWf hc;rcases h with rfl|rfl<;>(change _=_;kernel_rfl)
theorem zzZ:uY 62 zwv:=kF1 zxh zi zk zn z2a z0k
def z7s:zY:=[(99,zru),(42,zwF),(62,zwv)]++z7r
theorem zFw:zJ z7s:=zf zvW (zf zz1 (zf zzZ zxh))
def znJ:List Slot:=List.replicate 4 ⟨-1,0⟩
def ze5 (p:List Ins):Guest:=⟨p,0,0,znJ,znJ,⟨0,0,false⟩,0,⟨0,0,false,0⟩,false,[]⟩
@[simp] abbrev zqq (p:List Ins):Bool:=pc (p.length<=1048576)
@[simp] abbrev zqp (p:List Ins):Guest:=ze5 p
@[simp] abbrev zpr (p:List Ins):Bool:=pc (p.length<=1048576)
@[simp] abbrev zpq (p:List Ins):Guest:=ze5 p
def zrr:Run:=rF1 (dS .ins) fun b=>(zqq b,[aT .guest (zqp b)])
def zFa (N:Nat)(a0:lI):OA:=
 (oN (few (ln (ap [] a0))) (oN (zjw 4) (oN (zjw 4) (some [(aT .guest (⟨(ap [] a0),0,0,(zgU 4),(zgU 4),⟨0,0,false⟩,0,⟨0,0,false,0⟩,false,[]⟩:Guest))]))))
theorem zUd (a0:List Ins)(hc:zqq a0=true):∃N,zFa N a0=some [aT .guest (zqp a0)]:=by
 have hs:=zu.1 hc;refine ⟨0,?_⟩;unfold zFa oN;refine mu (must rfl (must rfl ?_))
 first|rfl|(simp only [*,zqp,ze5,znJ,cT,cF]<;>rfl)|simp_all[Ty.cells,zqp,ze5,znJ]
theorem zvV:uY 100 zrr:=kF1 zFw zi zk zn (zl []) zUd
def zrn:Run:=rF1 (dS .ins) fun b=>(zpr b,[aT .guest (zpq b)])
def zEC (N:Nat)(a0:lI):OA:=
 (oN (zpL a0) (oN (zjk 4) (oN (zjk 4) (some [(aT .guest (⟨(zmi a0),0,0,(zgQ 4),(zgQ 4),⟨0,0,false⟩,0,⟨0,0,false,0⟩,false,[]⟩:Guest))]))))
theorem zTB (a0:List Ins)(hc:zpr a0=true):∃N,zEC N a0=some [aT .guest (zpq a0)]:=by
 have hs:=zu.1 hc;refine ⟨0,?_⟩;unfold zEC oN;refine mu (must rfl (must rfl ?_))
 first|rfl|(simp only [*,zpq,ze5,znJ,cT,cF]<;>rfl)|simp_all[Ty.cells,zpq,ze5,znJ]
theorem zvQ:uY 140 zrn:=kF1 zFw zi zk zn (zl []) zTB
def zbdU:zY:=[(100,zrr),(140,zrn)]++z7s
theorem zxi:zJ zbdU:=zf zvV (zf zvQ zFw)
def zUB:List (List Int):=List.replicate 8 [0,0,0,0]
def z9g (ps:List (List Ins)):Prop:=ps.length<=1048576/\∀p∈ps,p.length<=1048576
theorem z1q {α β ρ:Type}(f:α->β)(K:List β->Option ρ):∀(l:List α) (i:Nat) (acc:List β),acc.length+l.length<=2147483648 ->
 goL (fun _ x acc k=>bif few (ln (ap acc [f x])) then k (ap acc [f x]) else none) K l i acc=K (acc++l.map f)
 | [],i,acc,_=>by simp[goL]
 | x :: l,i,acc,hn=>by
  simp only[qT]at hn;have hf:few (ln (ap acc [f x]))=true:=zdK (by simp[ap];omega)
  simp only[goL,hf,cT];rw[z1q f K l (i+1) (ap acc [f x]) (by simp[ap];omega)]
  simp[ap]
theorem zWc {α β ρ:Type}(m:Nat)(f:α->β)(K:List β->Option ρ):∀(l:List α) (i:Nat) (acc:List β),acc.length+l.length<=2147483648 ->
 goL (fun (i:Nat) x acc k=>bif ilt (i:Int) (m:Int) then (cond (few (ln (ap acc [f x]))) (k (ap acc [f x])) none) else K acc) K l i acc=K (acc++(l.take (m-i)).map f)
 | [],i,acc,_=>by simp[goL]
 | x :: l,i,acc,hn=>by
  simp only[qT]at hn;have hf:few (ln (ap acc [f x]))=true:=zdK (by simp[ap];omega)
  by_cases h:i<m
  .have hi:ilt (i:Int) (m:Int)=true:=qL (by omega)
   simp only[goL,hi,hf,cT];rw[zWc m f K l (i+1) (ap acc [f x]) (by simp[ap];omega)]
   rw[show m-i=m-(i+1)+1 by omega]
   simp[ap]
  .have hi:ilt (i:Int) (m:Int)=false:=qH (by omega)
   simp only[goL,hi,cF];rw[show m-i=0 by omega]
   simp
theorem z9c {α:Type}{l:List α}{n:Int}{x:α}(h:x∈tk l n):x∈l:=j6 (by exact h)
theorem z15 {α:Type}(l:List α)(m:Nat):tk l (zeY (ln l) (m:Int))=l.take m/\inr 0 (zeY (ln l) (m:Int)) (ln l)=true:=by
 unfold tk zeY
 by_cases h:(m:Int)<ln l
 .rw [if_pos h];simp only[ln]at h;exact ⟨by rw[kC],qL (by simp only[ln];omega)⟩
 .rw [if_neg h];simp only[ln]at h ⊢;refine ⟨by rw[kC,uG (qV _),uG (by omega)],qL (by omega)⟩
@[simp] abbrev zHs (a:GAct):Bool:=true
@[simp] abbrev zA5 (a:GAct):Bool:=win a.Kind 1 17
def zK7:Run:=rF1 (dT .act) fun b=>(zHs b,[aB (zA5 b)])
def zVw (N:Nat)(a0:GAct):OA:=
 (oN (zO a0.Kind 1 17) (some [(aB (zT a0.Kind 1 17))]))
theorem z3t (a0:GAct)(hc:zHs a0=true):∃N,zVw N a0=some [aB (zA5 a0)]:=by
 refine ⟨0,?_⟩;unfold zVw oN;refine must rfl ?_
 first|rfl|(simp only [*,zA5,cT,cF]<;>rfl)|simp_all[Ty.cells,zA5]
theorem zWU:uY 44 zK7:=kF1 zxi zi zk zn (zl []) z3t
@[simp] abbrev zzf (k:Int):Bool:=true
@[simp] abbrev ztj (k:Int):Bool:=win k 13 17
def zDP:Run:=rF1 dI fun b=>(zzf b,[aB (ztj b)])
def zKc (N:Nat)(a0:Int):OA:=
 (oN (zO a0 13 17) (some [(aB (zT a0 13 17))]))
theorem zXZ (a0:Int)(hc:zzf a0=true):∃N,zKc N a0=some [aB (ztj a0)]:=by
 refine ⟨0,?_⟩;unfold zKc oN;refine must rfl ?_
 first|rfl|(simp only [*,ztj,cT,cF]<;>rfl)|simp_all[Ty.cells,ztj]
theorem zPU:uY 46 zDP:=kF1 zxi zi zk zn (zl []) zXZ
@[simp] abbrev zHt (a:GAct):Bool:=true
@[simp] abbrev zry (a:GAct):Ctl:=⟨a.X,a.Y,ieq a.Z 1⟩
def zK8:Run:=rF1 (dT .act) fun b=>(zHt b,[.agg (zZm (zry b))])
def zVx (N:Nat)(a0:GAct):OA:=
 (some [(.agg [(.i .i64 a0.X),(.i .i64 a0.Y),(.b (ieq a0.Z 1))])])
theorem z3u (a0:GAct)(hc:zHt a0=true):∃N,zVx N a0=some [.agg (zZm (zry a0))]:=by
 refine ⟨0,?_⟩;unfold zVx
 first|rfl|(simp only [*,zry,cT,cF]<;>rfl)|simp_all[Ty.cells,zry]
theorem zWV:uY 55 zK8:=kF1 zxi zi zk zn (zl []) z3u
@[simp] abbrev zF2 (a:GAct):Bool:=true
@[simp] abbrev zq5 (a:GAct):Ctl:=⟨a.X,a.Y,ieq a.Z 1⟩
def zKP:Run:=rF1 (dT .act) fun b=>(zF2 b,[.agg (zZm (zq5 b))])
def zVg (N:Nat)(a0:GAct):OA:=
 (some [(.agg [(.i .i64 a0.X),(.i .i64 a0.Y),(.b (ieq a0.Z 1))])])
theorem z3b (a0:GAct)(hc:zF2 a0=true):∃N,zVg N a0=some [.agg (zZm (zq5 a0))]:=by
 refine ⟨0,?_⟩;unfold zVg
 first|rfl|(simp only [*,zq5,cT,cF]<;>rfl)|simp_all[Ty.cells,zq5]
theorem zWC:uY 71 zKP:=kF1 zxi zi zk zn (zl []) z3b
def zZv:zY:=[(117,ztU),(162,ztR),(120,zqc),(164,zp8),(124,zoz),(169,zow),(125,zoB),(171,zoy),(126,zoA),(173,zox),(127,ztT),(175,ztQ),(177,zrl),(132,ztS),(182,ztP),(131,zrq),(180,zrm),(42,zwF),(62,zwv)]++zbbR
theorem zFx:zJ zZv:=zf zxw (zf zxt (zf zt9 (zf zt7 (zf zsS (zf zsP (zf zsV (zf zsR (zf zsU (zf zsQ (zf zxv (zf zxs (zf zvO (zf zxu (zf zxr (zf zvU (zf zvP (zf zz1 (zf zzZ z9P))))))))))))))))))
def zct (x:Mon):Bare:=⟨zUB,x.Guests,x.Outs,x.Pending⟩
def zBn (x:Mon)(b:Bare):Mon:={ x with Guests:=b.Guests,Pending:=b.Pending }
def zb7 (h:Host)(m:Int)(b:Bare):Host:={ h with Mons:=up h.Mons m (zBn (ix h.Mons m mZ) b) }
@[simp] abbrev zex (x:Mon):Bool:=pc (zd6 x)
@[simp] abbrev zbC (x:Mon):Bare:=zct x
def zD5:Run:=rF1 (dT .mon) fun b=>(zex b,[aT .bare (zbC b)])
def zKr (N:Nat)(a0:Mon):OA:=
 (oN (zqD 8) (oN (zfx a0.Guests) (oN (few (ln (ap [] a0.Outs))) (some [(aT .bare (⟨(zj3 8),(zf6 a0.Guests),(ap [] a0.Outs),a0.Pending⟩:Bare))]))))
theorem zYj (a0:Mon)(hc:zex a0=true):∃N,zKr N a0=some [aT .bare (zbC a0)]:=by
 have hs:=zu.1 hc;refine ⟨0,?_⟩;unfold zKr oN;exact must rfl (must (zD ((zxj _).2 hs.2.2.2.1)) (must (zoO hs.2.2.2.2.1) rfl))
theorem zQe:uY 118 zD5:=kF1 zFx zi zbh zgz (zl []) zYj
@[simp] abbrev zew (h:Host)(m:Int)(b:Bare):Bool:=pc (hasB m (ln h.Mons)=true/\zm0 b.Guests)
@[simp] abbrev zhe (h:Host)(m:Int)(b:Bare):Host:=zb7 h m b
theorem zRW {l:List Mon}{m:Int}(hm:hasB m (ln l)=true)(b:Bare):inb m (ln (up l m { ix l m mZ with Guests:=b.Guests }))=true /\
 up (up l m { ix l m mZ with Guests:=b.Guests }) m { ix (up l m { ix l m mZ with Guests:=b.Guests }) m mZ with Pending:=b.Pending }=up l m (zBn (ix l m mZ) b):=by
 obtain ⟨k,rfl,hk⟩:=zdn (n:=l.length) hm;refine ⟨zy (by rw[ln,zdZ];exact hm),?_⟩
 rw[zqP,zcT hk];rfl
def ztY:List AV->Option (Bool×List AV)
 | [.agg [.s (.sl .int) b,.s .mon c,.s .entry d,.s .entry e],.one (.i .i64 f),.agg [.s (.sl .int) g,.s .guest h,.s .int j,.i .i64 k]]=>some ((zew (⟨b,c,d,e⟩:Host) f (⟨g,h,j,k⟩:Bare)),[aH (zhe (⟨b,c,d,e⟩:Host) f (⟨g,h,j,k⟩:Bare))])
 | _=>none
def zyL (N:Nat)(a0:Host)(a1:Int)(a2:Bare):OA:=
 (oN (zfx a2.Guests) (oN (inb a1 (ln a0.Mons)) (share (up a0.Mons a1 ({ (ix a0.Mons a1 zh) with Guests:=(zf6 a2.Guests) }:Mon)) (fun x4=>(oN (inb a1 (ln x4)) (share (up x4 a1 ({ (ix x4 a1 zh) with Pending:=a2.Pending }:Mon)) (fun x5=>(some [(aH ({ a0 with Mons:=x5 }:Host))]))))))))
theorem z1w (N:Nat)(a0:Host)(a1:Int)(a2:Bare):z5V (cQ zZv zom z1x tctN) (zl []) N 12 119 [true,true,true,true,false,false,false,false,false] [aH a0,aI a1,aT .bare a2]=zyL N a0 a1 a2:=by kernel_rfl
theorem zYi (a0:Host)(a1:Int)(a2:Bare)(hb:zby big [aH a0,aI a1,aT .bare a2])(hc:zew a0 a1 a2=true):∃N,zyL N a0 a1 a2=some [aH (zhe a0 a1 a2)]:=by
 obtain ⟨hm,hg⟩:=zu.1 hc;obtain ⟨h1,h2⟩:=zRW hm a2;refine ⟨0,?_⟩;unfold zyL oN;refine must (zD ((zxj _).2 hg)) (must (zy hm) (shr (must h1 (shr ?_))));have e:zf6 a2.Guests=a2.Guests:=rfl;rw[e]
 show some [AV.agg (zW { a0 with Mons:=_ })]=some [AV.agg (zW { a0 with Mons:=_ })]
 rw[show zh=mZ from rfl,h2]
theorem zQd:zdS Tryz.prog 119 [true,true,true,true,false,false,false,false,false] none ztY:=by
 refine zSe (zcP zFx zi zbh zgz) (zdQ (by kernel_rfl)) (by kernel_rfl) ?_
 intro avs rs hl hr h;have hb:=zi6 hr;unfold ztY at h;split at h
 .obtain ⟨hc,rfl⟩:=zdG h;obtain ⟨N,hN⟩:=zYi _ _ _ (by exact hb) hc
  exact ⟨_,N,12,(z1w N _ _ _ ).trans hN⟩
 .cases h
def z7t:zY:=[(118,zD5)]++zZv
theorem zdU:zJ z7t:=zf zQe zFx
def zbcd:ze3:=[(119,([true,true,true,true,false,false,false,false,false],none,ztY))]++tctN
theorem zbu:zdT zbcd:=zrI zgz (by
 intro x hx;simp only[qK,jJ,or_false]at hx;rcases hx with rfl
 .exact zQd)
def zbca (h:Host)(m:Int)(cB:Bool)(B:Bare)(ok:Bool)(o0 o1:Host->Ans):OA:=
 bif zbb h then (cond (zcL h) (cond (cond (zcG h) false true) (some (o0 h)) (cond (zbx m (ln h.Mons)) (cond (cond (zbO m (ln h.Mons)) false true) (some (o0 h)) (cond (zea h m) (cond cB (cond ok (cond (zcg B.Guests) (cond (inb m (ln h.Mons)) (share (up h.Mons m { ix h.Mons m mZ with Guests:=B.Guests }) fun x=>(cond (inb m (ln x)) (share (up x m { ix x m mZ with Pending:=B.Pending }) fun y=>some (o1 { h with Mons:=y })) none)) none) none) (some (o1 h))) none) none)) none)) none) else none
def zbcg (h:Host)(m:Int)(cB:Bool)(B:Bare)(o0 o1:Host->Ans):OA:=
 bif zbJ h then (cond (zfm h m) (cond (cond (zfl h m) false true) (some (o0 h)) (cond (inb m (ln h.Mons)) (cond (zex (ix h.Mons m mZ)) (cond cB (cond (zew h m B) (some (o1 (zb7 h m B))) none) none) none) none)) none) else none
theorem zbd {h:Host}{m:Int}:(zbL h m=true)↔zbF h=true/\hasB m (ln h.Mons)=true:=by
 unfold zbL;cases zbF h<;>simp
theorem zov {h:Host}{m:Int}{cB:Bool}{B:Bare}{ok:Bool}{o0 o1:Host->Ans}(hs:SmH h)(hc:zbL h m=true->cB=true)(hB:zbL h m=true->SmB B)(hno:zbL h m=true->ok=false->zb7 h m B=h) :
 zbca h m cB B ok o0 o1=some (cond (zbL h m) (o1 (zb7 h m B)) (o0 h)):=by
 have hS:zbA h:=(zF h).2 hs;unfold zbca;refine must (zD hS) (must rfl ?_);rw[show zcG h=zbF h from rfl]
 have hc':zbF h=true->hasB m (ln h.Mons)=true->cB=true:=fun a b=>hc (zbd.2 ⟨a,b⟩);have hB':zbF h=true->hasB m (ln h.Mons)=true->SmB B:=fun a b=>hB (zbd.2 ⟨a,b⟩);unfold zbL at hno ⊢;cases h1:zbF h
 .rfl
 .refine zbI rfl (must rfl ?_);rw[show zbO m (ln h.Mons)=hasB m (ln h.Mons) from rfl]
  rw[h1]at hno;cases h2:hasB m (ln h.Mons)
  .rfl
  .rw [h2]at hno;refine zbI rfl (must (zbe hS) (must (hc' h1 h2) ?_));cases ok
   .simp only [cT,cF,hno rfl rfl]
   .obtain ⟨e1,e2⟩:=zRW h2 B;refine must rfl (must (zD (hB' h1 h2).2.1) (must (zy h2) (shr (must e1 (shr ?_)))))
    show some (o1 { h with Mons:=_ })=_
    rw[e2];rfl
theorem zoM {h:Host}{m:Int}{cB:Bool}{B:Bare}{o0 o1:Host->Ans}(hs:SmH h)(hc:zbL h m=true->cB=true)(hB:zbL h m=true->SmB B):zbcg h m cB B o0 o1=some (cond (zbL h m) (o1 (zb7 h m B)) (o0 h)):=by
 unfold zbcg;refine must (zD ((zF h).2 hs)) (must rfl ?_);rw[show zfl h m=zbL h m from rfl]
 cases h0:zbL h m
 .rfl
 .have h2:=(zbd.1 h0).2;exact zbI rfl (must (zy h2) (must (zD (hs.2.1.2 _ (zbw h2 _))) (must (hc h0) (must (zD ⟨h2,(hB h0).2.1⟩) rfl))))
structure SameB (b c:Bare):Prop where
 g:b.Guests=c.Guests
 p:b.Pending=c.Pending
 o:zbQ b=zbQ c
theorem SameB.at {b c:Bare}(h:SameB b c)(g:Int):gAt b g=gAt c g:=by unfold gAt;rw[h.g]
theorem SameB.has {b c:Bare}(h:SameB b c)(g:Int):zbU b g=zbU c g:=by unfold zbU;rw[h.g,h.o]
theorem back_eq {h:Host}{m:Int}{b c:Bare}(hg:b.Guests=c.Guests)(hp:b.Pending=c.Pending):zb7 h m b=zb7 h m c:=by
 unfold zb7 zBn;rw[hg,hp]
theorem zqY {b c:Bare}(hS:SameB b c)(h:Host)(m g:Int)(k:Bool)(x:Guest):zb7 h m (chg b g k x)=zb7 h m (chg c g k x):=by
 unfold chg;rw[hS.has];cases (cond (zbU c g) k false)
 .exact back_eq hS.g hS.p
 .exact back_eq (by simp only[cT,zeJ,hS.g]) hS.p
theorem zl6 {b c:Bare}(hS:SameB b c)(g:Int)(k:Bool):zbN b g k=zbN c g k:=by
 unfold zbN;rw[hS.has]
theorem zjC {h:Host}{m:Int}(hm:hasB m (ln h.Mons)=true):zb7 h m (zC h m)=h:=by
 unfold zb7 zBn zC;rw[hm,cT];simp only;rw[z2C hm]
theorem zjI {h:Host}{m:Int}(h0:zbL h m=true)(hv:zbQ (zct (ix h.Mons m mZ))=true):SameB (zct (ix h.Mons m mZ)) (zC h m):=by
 obtain ⟨h1,h2⟩:=zbd.1 h0;refine ⟨?_,?_,hv.trans (zrR h1 h2).symm⟩<;>unfold zC zct<;>rw [h2]<;>rfl
theorem zbcY:zi2 zUB 8=true:=by decide
theorem zo9 {h:Host}{m:Int}(h0:zbL h m=true):zbQ (zct (ix h.Mons m mZ))=true:=by
 obtain ⟨h1,h2⟩:=zbd.1 h0;have:=zrR h1 h2;unfold zC at this;rw[h2,cT] at this;unfold zbQ at this ⊢;simp only[zct,zbcY] at *
 simp_all
theorem zeK {x:Mon}(h:zd6 x):SmB (zct x):=⟨show SmM zUB from ⟨by decide,by decide⟩,h.2.2.2.1,h.2.2.2.2.1⟩
theorem zvB {b:Bare}{g:Int}{k:Bool}{x:Guest}(h:zbN b g k=false):chg b g k x=b:=by
 unfold chg;unfold zbN at h;rw[h];rfl
def zcy (h:Host)(m:Int)(b:Bare):Host:=bif zbL h m then zb7 h m b else h
def zcr (h:Host)(m:Int)(ok:Bool):Bool:=bif zbL h m then ok else false
@[simp] abbrev zg5 (b:Bare)(g p:Int)(s:Slot):Bare:=chg b g (zzl p s) (zzm (gAt b g) p s)
@[simp] abbrev ziO (b:Bare)(g p:Int)(s:Slot):Bool:=zbN b g (zzl p s)
@[simp] abbrev zeS (b:Bare)(g v:Int):Bare:=chg b g (zyN (gAt b g) v) (zBk (gAt b g) v)
@[simp] abbrev zfK (b:Bare)(g v:Int):Bool:=zbN b g (zyN (gAt b g) v)
@[simp] abbrev zeU (b:Bare)(g:Int):Bare:=chg b g (zy7 (gAt b g)) (zCe (gAt b g))
@[simp] abbrev zfM (b:Bare)(g:Int):Bool:=zbN b g (zy7 (gAt b g))
@[simp] abbrev zeT (b:Bare)(g n:Int):Bare:=chg b g (zgo (gAt b g).Pending n) (zm3 (gAt b g) n)
@[simp] abbrev zfL (b:Bare)(g n:Int):Bool:=zbN b g (zgo (gAt b g).Pending n)
@[simp] abbrev zg4 (b:Bare)(g:Int)(c:Ctl):Bare:=chg b g (zk3 c) (zLF (gAt b g) c)
@[simp] abbrev ziN (b:Bare)(g:Int)(c:Ctl):Bool:=zbN b g (zk3 c)
@[simp] abbrev ziM (b:Bare):Bare:=zkY b
@[simp] abbrev znw (b:Bare):Int:=zyM b
@[simp] abbrev zkL (b:Bare):Bool:=znL b
@[simp] abbrev zhI (b:Bare)(n:Int):Bare:=zi3 b n
@[simp] abbrev zjo (b:Bare)(n:Int):Bool:=zfN b n
@[simp] abbrev z3O (h:Host)(m:Int)(g p:Int)(s:Slot):Host:=zcy h m (zg5 (zC h m) g p s)
@[simp] abbrev z3P (h:Host)(m:Int)(g p:Int)(s:Slot):Bool:=zcr h m (ziO (zC h m) g p s)
@[simp] abbrev zUs (h:Host)(m:Int)(g v:Int):Host:=zcy h m (zeS (zC h m) g v)
@[simp] abbrev zUt (h:Host)(m:Int)(g v:Int):Bool:=zcr h m (zfK (zC h m) g v)
@[simp] abbrev zUw (h:Host)(m:Int)(g:Int):Host:=zcy h m (zeU (zC h m) g)
@[simp] abbrev zUx (h:Host)(m:Int)(g:Int):Bool:=zcr h m (zfM (zC h m) g)
@[simp] abbrev zUu (h:Host)(m:Int)(g n:Int):Host:=zcy h m (zeT (zC h m) g n)
@[simp] abbrev zUv (h:Host)(m:Int)(g n:Int):Bool:=zcr h m (zfL (zC h m) g n)
@[simp] abbrev z3M (h:Host)(m:Int)(g:Int)(x:Ctl):Host:=zcy h m (zg4 (zC h m) g x)
@[simp] abbrev z3N (h:Host)(m:Int)(g:Int)(x:Ctl):Bool:=zcr h m (ziN (zC h m) g x)
@[simp] abbrev z1o (h:Host)(m:Int)(n:Int):Host:=zcy h m (zhI (zC h m) n)
@[simp] abbrev z1p (h:Host)(m:Int)(n:Int):Bool:=zcr h m (zjo (zC h m) n)
@[simp] abbrev z3J (h:Host)(m:Int):Host:=zcy h m (ziM (zC h m))
@[simp] abbrev z3K (h:Host)(m:Int):Int:=bif zbL h m then znw (zC h m) else -1
@[simp] abbrev z3L (h:Host)(m:Int):Bool:=zcr h m (zkL (zC h m))
@[simp] abbrev zYk (h:Host)(m g p:Int):Bool:=zcr h m (zbN (zC h m) g (hasB p 4))
theorem z8E {b c:Bare}(hS:SameB b c)(n:Int):(zi3 b n).Guests=(zi3 c n).Guests/\(zi3 b n).Pending=(zi3 c n).Pending/\zfN b n=zfN c n:=by
 have e:zfN b n=zfN c n:=by unfold zfN;rw[hS.o]
 unfold zi3;rw[e];cases zfN c n
 .exact ⟨hS.g,hS.p,rfl⟩
 .unfold zH9;rw[hS.g];cases ieq (ln (zdI c.Guests n)) 0
  .exact ⟨by simp only[cT,cF],by simp only[cT,cF,hS.p],rfl⟩
  .exact ⟨by simp only[cT,hS.g],by simp only[cT,hS.p],rfl⟩
theorem z8D {b:Bare}{n:Int}(h:zfN b n=false):zi3 b n=b:=by
 unfold zi3;rw[h];rfl
theorem z9i {b c:Bare}(hS:SameB b c):(zkY b).Guests=(zkY c).Guests/\(zkY b).Pending=(zkY c).Pending/\zyM b=zyM c/\znL b=znL c:=by
 unfold zkY zyM znL;rw[hS.o,hS.p];cases zbQ c
 .exact ⟨hS.g,hS.p,rfl,rfl⟩
 .exact ⟨hS.g,rfl,rfl,rfl⟩
theorem z9h {b:Bare}(h:znL b=false):zkY b=b:=by
 unfold zkY;unfold znL at h;cases hb:zbQ b
 .rfl
 .rw [hb]at h;have h1:ilt (zcR b.Pending) 0=true:=by simpa using h
  unfold zgv;simp only[h1,cT]
theorem z8U {b:Bare}{n:Int}(h:SmB b):SmB (zi3 b n):=by
 unfold zi3;cases zfN b n
 .exact h
 .unfold zH9;cases ieq (ln (zdI b.Guests n)) 0
  .exact ⟨h.1,(zHB _ zCb h.2.1).1,h.2.2⟩
  .exact h
theorem zbay {b:Bare}(h:SmB b):SmB (zkY b):=by
 unfold zkY;cases zbQ b
 .exact h
 .exact h
theorem zu9 {H H':Host}{x y:Bool}(h1:H=H')(h2:x=y):some [AV.agg (zW H),AV.one (.b x)]=some [AV.agg (zW H'),AV.one (.b y)]:=by rw[h1,h2]
theorem zbct {H H':Host}{n k:Int}{x y:Bool}(h1:H=H')(h2:n=k)(h3:x=y):some [AV.agg (zW H),AV.one (.i .i64 n),AV.one (.b x)]=some [AV.agg (zW H'),AV.one (.i .i64 k),AV.one (.b y)]:=by rw[h1,h2,h3]
theorem zIh {b:Bare}(g p:Int)(s:Slot)(hb:SmB b):SmB (zg5 b g p s):=zmW hb (z1O _ _ (zey _ hb))
theorem zban {b:Bare}(g p:Int)(s:Slot)(hk:ziO b g p s=false):zg5 b g p s=b:=zvB hk
theorem zbaw {b c:Bare}(hS:SameB b c)(h:Host)(m:Int)(g p:Int)(s:Slot):zb7 h m (zg5 b g p s)=zb7 h m (zg5 c g p s)/\ziO b g p s=ziO c g p s:=by
 have e:=hS.at g;simp only[zg5,ziO,e];exact ⟨zqY hS _ _ _ _ _,zl6 hS _ _⟩
@[simp] abbrev zze (h:Host)(m:Int)(g p:Int)(s:Slot):Bool:=pc (zbA h)
@[simp] abbrev zsy (h:Host)(m:Int)(g p:Int)(s:Slot):Host:=zcy h m (zg5 (zC h m) g p s)
@[simp] abbrev zsz (h:Host)(m:Int)(g p:Int)(s:Slot):Bool:=zcr h m (ziO (zC h m) g p s)
def zDO:Run:=rF5 dH dI dI dI (dT .slot) fun b c d e f=>(zze b c d e f,[aH (zsy b c d e f),aB (zsz b c d e f)])
def zKb (N:Nat)(a0:Host)(a1 a2 a3:Int)(a4:Slot):OA:=
 let y1:=(zx a0);let y0:=(ix y1.Mons a1 zh); (oN (zbJ a0) (oN (zfm y1 a1) (cond (nB (zfl y1 a1)) (some [(aH y1),(aB false)]) (oN (inb a1 (ln y1.Mons)) (oN (zex y0) (oN (zsn (zbC y0) a2 a3 a4) (oN (zew y1 a1 (ziR (zbC y0) a2 a3 a4)) (some [(aH (zhe y1 a1 (ziR (zbC y0) a2 a3 a4))),(aB (zkQ (zbC y0) a2 a3 a4))]))))))))
theorem zXY (a0:Host)(a1 a2 a3:Int)(a4:Slot)(hc:zze a0 a1 a2 a3 a4=true):∃N,zKb N a0 a1 a2 a3 a4=some [aH (zsy a0 a1 a2 a3 a4),aB (zsz a0 a1 a2 a3 a4)]:=by
 have hs:=(zF a0).1 (zu.1 hc);refine ⟨0,?_⟩;have key:=zoM (h:=a0) (m:=a1) (cB:=zsn (zct (ix a0.Mons a1 mZ)) a2 a3 a4) (B:=ziR (zct (ix a0.Mons a1 mZ)) a2 a3 a4) (o0:=fun H=>[.agg (zW H),.one (.b false)]) (o1:=fun H=>[.agg (zW H),.one (.b (zkQ (zct (ix a0.Mons a1 mZ)) a2 a3 a4))]) hs
  (fun h0=>zD (zeK (hs.2.1.2 _ (zbw (zbd.1 h0).2 _)))) (fun h0=>zIh _ _ _ (zeK (hs.2.1.2 _ (zbw (zbd.1 h0).2 _))))
 refine (show zKb 0 a0 a1 a2 a3 a4=_ from key).trans ?_
 unfold zsy zsz zcy zcr;cases h0:zbL a0 a1
 .rfl
 .obtain ⟨e1,e2⟩:=zbaw (zjI h0 (zo9 h0)) a0 a1 a2 a3 a4;simp only[cT];exact zu9 e1 e2
theorem zPT:uY 49 zDO:=kF5 zdU zi zbh zbu (zl []) zXY
@[simp] abbrev zyX (h:Host)(m:Int)(g p:Int)(s:Slot):Bool:=pc (zbA h)
@[simp] abbrev zkB (h:Host)(m:Int)(g p:Int)(s:Slot):Host:=zcy h m (zg5 (zC h m) g p s)
@[simp] abbrev znn (h:Host)(m:Int)(g p:Int)(s:Slot):Bool:=zcr h m (ziO (zC h m) g p s)
def zDi:Run:=rF5 dH dI dI dI (dT .slot) fun b c d e f=>(zyX b c d e f,[aH (zkB b c d e f),aB (znn b c d e f)])
def zJC (N:Nat)(a0:Host)(a1 a2 a3:Int)(a4:Slot):OA:=
 let y1:=(zI a0);let y0:=(zc5 a0 a1);let y3:=(zky y0 a2 a3 a4);let y2:=(ziI y0 a2 a3 a4); (oN (zbb a0) (oN (zcL a0) (cond (nB (zcG a0)) (some [(aH y1),(aB false)]) (oN (zbx a1 (ln a0.Mons)) (cond (nB (zbO a1 (ln a0.Mons))) (some [(aH y1),(aB false)]) (oN (zea a0 a1) (oN (zrY y0 a2 a3 a4) (cond y2 (oN (zcg y3.Guests) (oN (inb a1 (ln y1.Mons)) (share (up y1.Mons a1 ({ (ix y1.Mons a1 zh) with Guests:=(zcH y3.Guests) }:Mon)) (fun x6=>(oN (inb a1 (ln x6)) (share (up x6 a1 ({ (ix x6 a1 zh) with Pending:=y3.Pending }:Mon)) (fun x7=>(some [(aH ({ y1 with Mons:=x7 }:Host)),(aB y2)])))))))) (some [(aH y1),(aB y2)])))))))))
theorem zXo (a0:Host)(a1 a2 a3:Int)(a4:Slot)(hc:zyX a0 a1 a2 a3 a4=true):∃N,zJC N a0 a1 a2 a3 a4=some [aH (zkB a0 a1 a2 a3 a4),aB (znn a0 a1 a2 a3 a4)]:=by
 have hs:=(zF a0).1 (zu.1 hc);refine ⟨0,?_⟩;have key:=zov (h:=a0) (m:=a1) (cB:=zrY (zC a0 a1) a2 a3 a4) (B:=zky (zC a0 a1) a2 a3 a4) (ok:=ziI (zC a0 a1) a2 a3 a4) (o0:=fun H=>[.agg (zW H),.one (.b false)]) (o1:=fun H=>[.agg (zW H),.one (.b (ziI (zC a0 a1) a2 a3 a4))]) hs
  (fun h0=>zD (zc9 hs (zbd.1 h0).2)) (fun h0=>zIh _ _ _ (zc9 hs (zbd.1 h0).2)) (fun h0 hk=>(congrArg (zb7 a0 a1) (zban _ _ _ hk)).trans (zjC (zbd.1 h0).2))
 refine (show zJC 0 a0 a1 a2 a3 a4=_ from key).trans ?_
 unfold zkB znn zcy zcr;cases zbL a0 a1<;>rfl
theorem zPn:uY 65 zDi:=kF5 zdU zi zbh zbu (zl []) zXo
theorem zu5 {b:Bare}(g v:Int)(hb:SmB b):SmB (zeS b g v):=zmW hb (zbaz _ (zey _ hb))
theorem z3R {b:Bare}(g v:Int)(hk:zfK b g v=false):zeS b g v=b:=zvB hk
theorem z4e {b c:Bare}(hS:SameB b c)(h:Host)(m:Int)(g v:Int):zb7 h m (zeS b g v)=zb7 h m (zeS c g v)/\zfK b g v=zfK c g v:=by
 have e:=hS.at g;simp only[zeS,zfK,e];exact ⟨zqY hS _ _ _ _ _,zl6 hS _ _⟩
@[simp] abbrev zrA (h:Host)(m:Int)(g v:Int):Bool:=pc (zbA h)
@[simp] abbrev zmL (h:Host)(m:Int)(g v:Int):Host:=zcy h m (zeS (zC h m) g v)
@[simp] abbrev zmM (h:Host)(m:Int)(g v:Int):Bool:=zcr h m (zfK (zC h m) g v)
def zwC:Run:=rF4 dH dI dI dI fun b c d e=>(zrA b c d e,[aH (zmL b c d e),aB (zmM b c d e)])
def zzN (N:Nat)(a0:Host)(a1 a2 a3:Int):OA:=
 let y1:=(zx a0);let y0:=(ix y1.Mons a1 zh); (oN (zbJ a0) (oN (zfm y1 a1) (cond (nB (zfl y1 a1)) (some [(aH y1),(aB false)]) (oN (inb a1 (ln y1.Mons)) (oN (zex y0) (oN (zmE (zbC y0) a2 a3) (oN (zew y1 a1 (zfO (zbC y0) a2 a3)) (some [(aH (zhe y1 a1 (zfO (zbC y0) a2 a3))),(aB (zhq (zbC y0) a2 a3))]))))))))
theorem zNf (a0:Host)(a1 a2 a3:Int)(hc:zrA a0 a1 a2 a3=true):∃N,zzN N a0 a1 a2 a3=some [aH (zmL a0 a1 a2 a3),aB (zmM a0 a1 a2 a3)]:=by
 have hs:=(zF a0).1 (zu.1 hc);refine ⟨0,?_⟩;have key:=zoM (h:=a0) (m:=a1) (cB:=zmE (zct (ix a0.Mons a1 mZ)) a2 a3) (B:=zfO (zct (ix a0.Mons a1 mZ)) a2 a3) (o0:=fun H=>[.agg (zW H),.one (.b false)]) (o1:=fun H=>[.agg (zW H),.one (.b (zhq (zct (ix a0.Mons a1 mZ)) a2 a3))]) hs
  (fun h0=>zD (zeK (hs.2.1.2 _ (zbw (zbd.1 h0).2 _)))) (fun h0=>zu5 _ _ (zeK (hs.2.1.2 _ (zbw (zbd.1 h0).2 _))))
 refine (show zzN 0 a0 a1 a2 a3=_ from key).trans ?_
 unfold zmL zmM zcy zcr;cases h0:zbL a0 a1
 .rfl
 .obtain ⟨e1,e2⟩:=z4e (zjI h0 (zo9 h0)) a0 a1 a2 a3;simp only[cT];exact zu9 e1 e2
theorem zFZ:uY 51 zwC:=kF4 zdU zi zbh zbu (zl []) zNf
@[simp] abbrev zq7 (h:Host)(m:Int)(g v:Int):Bool:=pc (zbA h)
@[simp] abbrev zhk (h:Host)(m:Int)(g v:Int):Host:=zcy h m (zeS (zC h m) g v)
@[simp] abbrev zjd (h:Host)(m:Int)(g v:Int):Bool:=zcr h m (zfK (zC h m) g v)
def zwr:Run:=rF4 dH dI dI dI fun b c d e=>(zq7 b c d e,[aH (zhk b c d e),aB (zjd b c d e)])
def zzC (N:Nat)(a0:Host)(a1 a2 a3:Int):OA:=
 let y1:=(zI a0);let y0:=(zc5 a0 a1); (oN (zbb a0) (oN (zcL a0) (cond (nB (zcG a0)) (some [(aH y1),(aB false)]) (oN (zbx a1 (ln a0.Mons)) (cond (nB (zbO a1 (ln a0.Mons))) (some [(aH y1),(aB false)]) (oN (zea a0 a1) (oN (zma y0 a2 a3) (cond (zd7 y0 a2 a3) (oN (zcg (zeM y0 a2 a3).Guests) (oN (inb a1 (ln y1.Mons)) (share (up y1.Mons a1 ({ (ix y1.Mons a1 zh) with Guests:=(zcH (zeM y0 a2 a3).Guests) }:Mon)) (fun x5=>(oN (inb a1 (ln x5)) (share (up x5 a1 ({ (ix x5 a1 zh) with Pending:=(zeM y0 a2 a3).Pending }:Mon)) (fun x6=>(some [(aH ({ y1 with Mons:=x6 }:Host)),(aB (zd7 y0 a2 a3))])))))))) (some [(aH y1),(aB (zd7 y0 a2 a3))])))))))))
theorem zM0 (a0:Host)(a1 a2 a3:Int)(hc:zq7 a0 a1 a2 a3=true):∃N,zzC N a0 a1 a2 a3=some [aH (zhk a0 a1 a2 a3),aB (zjd a0 a1 a2 a3)]:=by
 have hs:=(zF a0).1 (zu.1 hc);refine ⟨0,?_⟩;have key:=zov (h:=a0) (m:=a1) (cB:=zma (zC a0 a1) a2 a3) (B:=zeM (zC a0 a1) a2 a3) (ok:=zd7 (zC a0 a1) a2 a3) (o0:=fun H=>[.agg (zW H),.one (.b false)]) (o1:=fun H=>[.agg (zW H),.one (.b (zd7 (zC a0 a1) a2 a3))]) hs
  (fun h0=>zD (zc9 hs (zbd.1 h0).2)) (fun h0=>zu5 _ _ (zc9 hs (zbd.1 h0).2)) (fun h0 hk=>(congrArg (zb7 a0 a1) (z3R _ _ hk)).trans (zjC (zbd.1 h0).2))
 refine (show zzC 0 a0 a1 a2 a3=_ from key).trans ?_
 unfold zhk zjd zcy zcr;cases zbL a0 a1<;>rfl
theorem zFN:uY 67 zwr:=kF4 zdU zi zbh zbu (zl []) zM0
theorem zu7 {b:Bare}(g:Int)(hb:SmB b):SmB (zeU b g):=zmW hb (zbaA (zey _ hb))
theorem z3T {b:Bare}(g:Int)(hk:zfM b g=false):zeU b g=b:=zvB hk
theorem z4g {b c:Bare}(hS:SameB b c)(h:Host)(m:Int)(g:Int):zb7 h m (zeU b g)=zb7 h m (zeU c g)/\zfM b g=zfM c g:=by
 have e:=hS.at g;simp only[zeU,zfM,e];exact ⟨zqY hS _ _ _ _ _,zl6 hS _ _⟩
@[simp] abbrev zrC (h:Host)(m:Int)(g:Int):Bool:=pc (zbA h)
@[simp] abbrev zmP (h:Host)(m:Int)(g:Int):Host:=zcy h m (zeU (zC h m) g)
@[simp] abbrev zmQ (h:Host)(m:Int)(g:Int):Bool:=zcr h m (zfM (zC h m) g)
def zwE:Run:=rF3 dH dI dI fun b c d=>(zrC b c d,[aH (zmP b c d),aB (zmQ b c d)])
def zzP (N:Nat)(a0:Host)(a1 a2:Int):OA:=
 let y1:=(zx a0);let y0:=(ix y1.Mons a1 zh); (oN (zbJ a0) (oN (zfm y1 a1) (cond (nB (zfl y1 a1)) (some [(aH y1),(aB false)]) (oN (inb a1 (ln y1.Mons)) (oN (zex y0) (oN (zmG (zbC y0) a2) (oN (zew y1 a1 (zfQ (zbC y0) a2)) (some [(aH (zhe y1 a1 (zfQ (zbC y0) a2))),(aB (zhs (zbC y0) a2))]))))))))
theorem zNh (a0:Host)(a1 a2:Int)(hc:zrC a0 a1 a2=true):∃N,zzP N a0 a1 a2=some [aH (zmP a0 a1 a2),aB (zmQ a0 a1 a2)]:=by
 have hs:=(zF a0).1 (zu.1 hc);refine ⟨0,?_⟩;have key:=zoM (h:=a0) (m:=a1) (cB:=zmG (zct (ix a0.Mons a1 mZ)) a2) (B:=zfQ (zct (ix a0.Mons a1 mZ)) a2) (o0:=fun H=>[.agg (zW H),.one (.b false)]) (o1:=fun H=>[.agg (zW H),.one (.b (zhs (zct (ix a0.Mons a1 mZ)) a2))]) hs
  (fun h0=>zD (zeK (hs.2.1.2 _ (zbw (zbd.1 h0).2 _)))) (fun h0=>zu7 _ (zeK (hs.2.1.2 _ (zbw (zbd.1 h0).2 _))))
 refine (show zzP 0 a0 a1 a2=_ from key).trans ?_
 unfold zmP zmQ zcy zcr;cases h0:zbL a0 a1
 .rfl
 .obtain ⟨e1,e2⟩:=z4g (zjI h0 (zo9 h0)) a0 a1 a2;simp only[cT];exact zu9 e1 e2
theorem zF1:uY 52 zwE:=kF3 zdU zi zbh zbu (zl []) zNh
@[simp] abbrev zq9 (h:Host)(m:Int)(g:Int):Bool:=pc (zbA h)
@[simp] abbrev zhm (h:Host)(m:Int)(g:Int):Host:=zcy h m (zeU (zC h m) g)
@[simp] abbrev zjg (h:Host)(m:Int)(g:Int):Bool:=zcr h m (zfM (zC h m) g)
def zwu:Run:=rF3 dH dI dI fun b c d=>(zq9 b c d,[aH (zhm b c d),aB (zjg b c d)])
def zzE (N:Nat)(a0:Host)(a1 a2:Int):OA:=
 let y1:=(zI a0);let y0:=(zc5 a0 a1); (oN (zbb a0) (oN (zcL a0) (cond (nB (zcG a0)) (some [(aH y1),(aB false)]) (oN (zbx a1 (ln a0.Mons)) (cond (nB (zbO a1 (ln a0.Mons))) (some [(aH y1),(aB false)]) (oN (zea a0 a1) (oN (zmc y0 a2) (cond (zd9 y0 a2) (oN (zcg (zeO y0 a2).Guests) (oN (inb a1 (ln y1.Mons)) (share (up y1.Mons a1 ({ (ix y1.Mons a1 zh) with Guests:=(zcH (zeO y0 a2).Guests) }:Mon)) (fun x4=>(oN (inb a1 (ln x4)) (share (up x4 a1 ({ (ix x4 a1 zh) with Pending:=(zeO y0 a2).Pending }:Mon)) (fun x5=>(some [(aH ({ y1 with Mons:=x5 }:Host)),(aB (zd9 y0 a2))])))))))) (some [(aH y1),(aB (zd9 y0 a2))])))))))))
theorem zM2 (a0:Host)(a1 a2:Int)(hc:zq9 a0 a1 a2=true):∃N,zzE N a0 a1 a2=some [aH (zhm a0 a1 a2),aB (zjg a0 a1 a2)]:=by
 have hs:=(zF a0).1 (zu.1 hc);refine ⟨0,?_⟩;have key:=zov (h:=a0) (m:=a1) (cB:=zmc (zC a0 a1) a2) (B:=zeO (zC a0 a1) a2) (ok:=zd9 (zC a0 a1) a2) (o0:=fun H=>[.agg (zW H),.one (.b false)]) (o1:=fun H=>[.agg (zW H),.one (.b (zd9 (zC a0 a1) a2))]) hs
  (fun h0=>zD (zc9 hs (zbd.1 h0).2)) (fun h0=>zu7 _ (zc9 hs (zbd.1 h0).2)) (fun h0 hk=>(congrArg (zb7 a0 a1) (z3T _ hk)).trans (zjC (zbd.1 h0).2))
 refine (show zzE 0 a0 a1 a2=_ from key).trans ?_
 unfold zhm zjg zcy zcr;cases zbL a0 a1<;>rfl
theorem zFP:uY 68 zwu:=kF3 zdU zi zbh zbu (zl []) zM2
theorem zu6 {b:Bare}(g n:Int)(hb:SmB b):SmB (zeT b g n):=zmW hb (zey (b:=b) _ hb)
theorem z3S {b:Bare}(g n:Int)(hk:zfL b g n=false):zeT b g n=b:=zvB hk
theorem z4f {b c:Bare}(hS:SameB b c)(h:Host)(m:Int)(g n:Int):zb7 h m (zeT b g n)=zb7 h m (zeT c g n)/\zfL b g n=zfL c g n:=by
 have e:=hS.at g;simp only[zeT,zfL,e];exact ⟨zqY hS _ _ _ _ _,zl6 hS _ _⟩
@[simp] abbrev zrB (h:Host)(m:Int)(g n:Int):Bool:=pc (zbA h)
@[simp] abbrev zmN (h:Host)(m:Int)(g n:Int):Host:=zcy h m (zeT (zC h m) g n)
@[simp] abbrev zmO (h:Host)(m:Int)(g n:Int):Bool:=zcr h m (zfL (zC h m) g n)
def zwD:Run:=rF4 dH dI dI dI fun b c d e=>(zrB b c d e,[aH (zmN b c d e),aB (zmO b c d e)])
def zzO (N:Nat)(a0:Host)(a1 a2 a3:Int):OA:=
 let y1:=(zx a0);let y0:=(ix y1.Mons a1 zh); (oN (zbJ a0) (oN (zfm y1 a1) (cond (nB (zfl y1 a1)) (some [(aH y1),(aB false)]) (oN (inb a1 (ln y1.Mons)) (oN (zex y0) (oN (zmF (zbC y0) a2 a3) (oN (zew y1 a1 (zfP (zbC y0) a2 a3)) (some [(aH (zhe y1 a1 (zfP (zbC y0) a2 a3))),(aB (zhr (zbC y0) a2 a3))]))))))))
theorem zNg (a0:Host)(a1 a2 a3:Int)(hc:zrB a0 a1 a2 a3=true):∃N,zzO N a0 a1 a2 a3=some [aH (zmN a0 a1 a2 a3),aB (zmO a0 a1 a2 a3)]:=by
 have hs:=(zF a0).1 (zu.1 hc);refine ⟨0,?_⟩;have key:=zoM (h:=a0) (m:=a1) (cB:=zmF (zct (ix a0.Mons a1 mZ)) a2 a3) (B:=zfP (zct (ix a0.Mons a1 mZ)) a2 a3) (o0:=fun H=>[.agg (zW H),.one (.b false)]) (o1:=fun H=>[.agg (zW H),.one (.b (zhr (zct (ix a0.Mons a1 mZ)) a2 a3))]) hs
  (fun h0=>zD (zeK (hs.2.1.2 _ (zbw (zbd.1 h0).2 _)))) (fun h0=>zu6 _ _ (zeK (hs.2.1.2 _ (zbw (zbd.1 h0).2 _))))
 refine (show zzO 0 a0 a1 a2 a3=_ from key).trans ?_
 unfold zmN zmO zcy zcr;cases h0:zbL a0 a1
 .rfl
 .obtain ⟨e1,e2⟩:=z4f (zjI h0 (zo9 h0)) a0 a1 a2 a3;simp only[cT];exact zu9 e1 e2
theorem zF0:uY 53 zwD:=kF4 zdU zi zbh zbu (zl []) zNg
@[simp] abbrev zq8 (h:Host)(m:Int)(g n:Int):Bool:=pc (zbA h)
@[simp] abbrev zhl (h:Host)(m:Int)(g n:Int):Host:=zcy h m (zeT (zC h m) g n)
@[simp] abbrev zje (h:Host)(m:Int)(g n:Int):Bool:=zcr h m (zfL (zC h m) g n)
def zwt:Run:=rF4 dH dI dI dI fun b c d e=>(zq8 b c d e,[aH (zhl b c d e),aB (zje b c d e)])
def zzD (N:Nat)(a0:Host)(a1 a2 a3:Int):OA:=
 let y1:=(zI a0);let y0:=(zc5 a0 a1); (oN (zbb a0) (oN (zcL a0) (cond (nB (zcG a0)) (some [(aH y1),(aB false)]) (oN (zbx a1 (ln a0.Mons)) (cond (nB (zbO a1 (ln a0.Mons))) (some [(aH y1),(aB false)]) (oN (zea a0 a1) (oN (zmb y0 a2 a3) (cond (zd8 y0 a2 a3) (oN (zcg (zeN y0 a2 a3).Guests) (oN (inb a1 (ln y1.Mons)) (share (up y1.Mons a1 ({ (ix y1.Mons a1 zh) with Guests:=(zcH (zeN y0 a2 a3).Guests) }:Mon)) (fun x5=>(oN (inb a1 (ln x5)) (share (up x5 a1 ({ (ix x5 a1 zh) with Pending:=(zeN y0 a2 a3).Pending }:Mon)) (fun x6=>(some [(aH ({ y1 with Mons:=x6 }:Host)),(aB (zd8 y0 a2 a3))])))))))) (some [(aH y1),(aB (zd8 y0 a2 a3))])))))))))
theorem zM1 (a0:Host)(a1 a2 a3:Int)(hc:zq8 a0 a1 a2 a3=true):∃N,zzD N a0 a1 a2 a3=some [aH (zhl a0 a1 a2 a3),aB (zje a0 a1 a2 a3)]:=by
 have hs:=(zF a0).1 (zu.1 hc);refine ⟨0,?_⟩;have key:=zov (h:=a0) (m:=a1) (cB:=zmb (zC a0 a1) a2 a3) (B:=zeN (zC a0 a1) a2 a3) (ok:=zd8 (zC a0 a1) a2 a3) (o0:=fun H=>[.agg (zW H),.one (.b false)]) (o1:=fun H=>[.agg (zW H),.one (.b (zd8 (zC a0 a1) a2 a3))]) hs
  (fun h0=>zD (zc9 hs (zbd.1 h0).2)) (fun h0=>zu6 _ _ (zc9 hs (zbd.1 h0).2)) (fun h0 hk=>(congrArg (zb7 a0 a1) (z3S _ _ hk)).trans (zjC (zbd.1 h0).2))
 refine (show zzD 0 a0 a1 a2 a3=_ from key).trans ?_
 unfold zhl zje zcy zcr;cases zbL a0 a1<;>rfl
theorem zFO:uY 69 zwt:=kF4 zdU zi zbh zbu (zl []) zM1
theorem zIg {b:Bare}(g:Int)(x:Ctl)(hb:SmB b):SmB (zg4 b g x):=zmW hb (zey (b:=b) _ hb)
theorem zbam {b:Bare}(g:Int)(x:Ctl)(hk:ziN b g x=false):zg4 b g x=b:=zvB hk
theorem zbav {b c:Bare}(hS:SameB b c)(h:Host)(m:Int)(g:Int)(x:Ctl):zb7 h m (zg4 b g x)=zb7 h m (zg4 c g x)/\ziN b g x=ziN c g x:=by
 have e:=hS.at g;simp only[zg4,ziN,e];exact ⟨zqY hS _ _ _ _ _,zl6 hS _ _⟩
@[simp] abbrev zzb (h:Host)(m:Int)(g:Int)(x:Ctl):Bool:=pc (zbA h)
@[simp] abbrev zsu (h:Host)(m:Int)(g:Int)(x:Ctl):Host:=zcy h m (zg4 (zC h m) g x)
@[simp] abbrev zsv (h:Host)(m:Int)(g:Int)(x:Ctl):Bool:=zcr h m (ziN (zC h m) g x)
def zDL:Run:=rF4 dH dI dI dC fun b c d e=>(zzb b c d e,[aH (zsu b c d e),aB (zsv b c d e)])
def zJ8 (N:Nat)(a0:Host)(a1 a2:Int)(a3:Ctl):OA:=
 let y1:=(zx a0);let y0:=(ix y1.Mons a1 zh); (oN (zbJ a0) (oN (zfm y1 a1) (cond (nB (zfl y1 a1)) (some [(aH y1),(aB false)]) (oN (inb a1 (ln y1.Mons)) (oN (zex y0) (oN (zsm (zbC y0) a2 a3) (oN (zew y1 a1 (ziQ (zbC y0) a2 a3)) (some [(aH (zhe y1 a1 (ziQ (zbC y0) a2 a3))),(aB (zkP (zbC y0) a2 a3))]))))))))
theorem zXV (a0:Host)(a1 a2:Int)(a3:Ctl)(hc:zzb a0 a1 a2 a3=true):∃N,zJ8 N a0 a1 a2 a3=some [aH (zsu a0 a1 a2 a3),aB (zsv a0 a1 a2 a3)]:=by
 have hs:=(zF a0).1 (zu.1 hc);refine ⟨0,?_⟩;have key:=zoM (h:=a0) (m:=a1) (cB:=zsm (zct (ix a0.Mons a1 mZ)) a2 a3) (B:=ziQ (zct (ix a0.Mons a1 mZ)) a2 a3) (o0:=fun H=>[.agg (zW H),.one (.b false)]) (o1:=fun H=>[.agg (zW H),.one (.b (zkP (zct (ix a0.Mons a1 mZ)) a2 a3))]) hs
  (fun h0=>zD (zeK (hs.2.1.2 _ (zbw (zbd.1 h0).2 _)))) (fun h0=>zIg _ _ (zeK (hs.2.1.2 _ (zbw (zbd.1 h0).2 _))))
 refine (show zJ8 0 a0 a1 a2 a3=_ from key).trans ?_
 unfold zsu zsv zcy zcr;cases h0:zbL a0 a1
 .rfl
 .obtain ⟨e1,e2⟩:=zbav (zjI h0 (zo9 h0)) a0 a1 a2 a3;simp only[cT];exact zu9 e1 e2
theorem zPQ:uY 54 zDL:=kF4 zdU zi zbh zbu (zl []) zXV
@[simp] abbrev zyU (h:Host)(m:Int)(g:Int)(x:Ctl):Bool:=pc (zbA h)
@[simp] abbrev znl (h:Host)(m:Int)(g:Int)(x:Ctl):Host:=zcy h m (zg4 (zC h m) g x)
@[simp] abbrev znm (h:Host)(m:Int)(g:Int)(x:Ctl):Bool:=zcr h m (ziN (zC h m) g x)
def zDf:Run:=rF4 dH dI dI dC fun b c d e=>(zyU b c d e,[aH (znl b c d e),aB (znm b c d e)])
def zJz (N:Nat)(a0:Host)(a1 a2:Int)(a3:Ctl):OA:=
 let y1:=(zI a0);let y0:=(zc5 a0 a1); (oN (zbb a0) (oN (zcL a0) (cond (nB (zcG a0)) (some [(aH y1),(aB false)]) (oN (zbx a1 (ln a0.Mons)) (cond (nB (zbO a1 (ln a0.Mons))) (some [(aH y1),(aB false)]) (oN (zea a0 a1) (oN (zrX y0 a2 a3) (cond (zfW y0 a2 a3) (oN (zcg (zgX y0 a2 a3).Guests) (oN (inb a1 (ln y1.Mons)) (share (up y1.Mons a1 ({ (ix y1.Mons a1 zh) with Guests:=(zcH (zgX y0 a2 a3).Guests) }:Mon)) (fun x5=>(oN (inb a1 (ln x5)) (share (up x5 a1 ({ (ix x5 a1 zh) with Pending:=(zgX y0 a2 a3).Pending }:Mon)) (fun x6=>(some [(aH ({ y1 with Mons:=x6 }:Host)),(aB (zfW y0 a2 a3))])))))))) (some [(aH y1),(aB (zfW y0 a2 a3))])))))))))
theorem zXl (a0:Host)(a1 a2:Int)(a3:Ctl)(hc:zyU a0 a1 a2 a3=true):∃N,zJz N a0 a1 a2 a3=some [aH (znl a0 a1 a2 a3),aB (znm a0 a1 a2 a3)]:=by
 have hs:=(zF a0).1 (zu.1 hc);refine ⟨0,?_⟩;have key:=zov (h:=a0) (m:=a1) (cB:=zrX (zC a0 a1) a2 a3) (B:=zgX (zC a0 a1) a2 a3) (ok:=zfW (zC a0 a1) a2 a3) (o0:=fun H=>[.agg (zW H),.one (.b false)]) (o1:=fun H=>[.agg (zW H),.one (.b (zfW (zC a0 a1) a2 a3))]) hs
  (fun h0=>zD (zc9 hs (zbd.1 h0).2)) (fun h0=>zIg _ _ (zc9 hs (zbd.1 h0).2)) (fun h0 hk=>(congrArg (zb7 a0 a1) (zbam _ _ hk)).trans (zjC (zbd.1 h0).2))
 refine (show zJz 0 a0 a1 a2 a3=_ from key).trans ?_
 unfold znl znm zcy zcr;cases zbL a0 a1<;>rfl
theorem zPk:uY 70 zDf:=kF4 zdU zi zbh zbu (zl []) zXl
theorem zCt {b:Bare}(n:Int)(hb:SmB b):SmB (zhI b n):=z8U hb
theorem z8t {b:Bare}(n:Int)(hk:zjo b n=false):zhI b n=b:=z8D hk
theorem z8P {b c:Bare}(hS:SameB b c)(h:Host)(m n:Int):zb7 h m (zhI b n)=zb7 h m (zhI c n)/\zjo b n=zjo c n:=by
 obtain ⟨e1,e2,e3⟩:=z8E hS n;exact ⟨back_eq e1 e2,e3⟩
@[simp] abbrev zwM (h:Host)(m:Int)(n:Int):Bool:=pc (zbA h)
@[simp] abbrev zqx (h:Host)(m:Int)(n:Int):Host:=zcy h m (zhI (zC h m) n)
@[simp] abbrev zqy (h:Host)(m:Int)(n:Int):Bool:=zcr h m (zjo (zC h m) n)
def zAU:Run:=rF3 dH dI dI fun b c d=>(zwM b c d,[aH (zqx b c d),aB (zqy b c d)])
def zFd (N:Nat)(a0:Host)(a1 a2:Int):OA:=
 let y1:=(zx a0);let y0:=(ix y1.Mons a1 zh); (oN (zbJ a0) (oN (zfm y1 a1) (cond (nB (zfl y1 a1)) (some [(aH y1),(aB false)]) (oN (inb a1 (ln y1.Mons)) (oN (zex y0) (oN (zqm (zbC y0) a2) (oN (zew y1 a1 (zju (zbC y0) a2)) (some [(aH (zhe y1 a1 (zju (zbC y0) a2))),(aB (zlQ (zbC y0) a2))]))))))))
theorem zUg (a0:Host)(a1 a2:Int)(hc:zwM a0 a1 a2=true):∃N,zFd N a0 a1 a2=some [aH (zqx a0 a1 a2),aB (zqy a0 a1 a2)]:=by
 have hs:=(zF a0).1 (zu.1 hc);refine ⟨0,?_⟩;have key:=zoM (h:=a0) (m:=a1) (cB:=zqm (zct (ix a0.Mons a1 mZ)) a2) (B:=zju (zct (ix a0.Mons a1 mZ)) a2) (o0:=fun H=>[.agg (zW H),.one (.b false)]) (o1:=fun H=>[.agg (zW H),.one (.b (zlQ (zct (ix a0.Mons a1 mZ)) a2))]) hs
  (fun h0=>zD (zeK (hs.2.1.2 _ (zbw (zbd.1 h0).2 _)))) (fun h0=>zCt _ (zeK (hs.2.1.2 _ (zbw (zbd.1 h0).2 _))))
 refine (show zFd 0 a0 a1 a2=_ from key).trans ?_
 unfold zqx zqy zcy zcr;cases h0:zbL a0 a1
 .rfl
 .obtain ⟨e1,e2⟩:=z8P (zjI h0 (zo9 h0)) a0 a1 a2;simp only[cT];exact zu9 e1 e2
theorem zMC:uY 57 zAU:=kF3 zdU zi zbh zbu (zl []) zUg
@[simp] abbrev zv1 (h:Host)(m:Int)(n:Int):Bool:=pc (zbA h)
@[simp] abbrev zjf (h:Host)(m:Int)(n:Int):Host:=zcy h m (zhI (zC h m) n)
@[simp] abbrev zlt (h:Host)(m:Int)(n:Int):Bool:=zcr h m (zjo (zC h m) n)
def zAq:Run:=rF3 dH dI dI fun b c d=>(zv1 b c d,[aH (zjf b c d),aB (zlt b c d)])
def zEF (N:Nat)(a0:Host)(a1 a2:Int):OA:=
 let y1:=(zI a0);let y0:=(zc5 a0 a1); (oN (zbb a0) (oN (zcL a0) (cond (nB (zcG a0)) (some [(aH y1),(aB false)]) (oN (zbx a1 (ln a0.Mons)) (cond (nB (zbO a1 (ln a0.Mons))) (some [(aH y1),(aB false)]) (oN (zea a0 a1) (oN (zpk y0 a2) (cond (zgh y0 a2) (oN (zcg (zhz y0 a2).Guests) (oN (inb a1 (ln y1.Mons)) (share (up y1.Mons a1 ({ (ix y1.Mons a1 zh) with Guests:=(zcH (zhz y0 a2).Guests) }:Mon)) (fun x4=>(oN (inb a1 (ln x4)) (share (up x4 a1 ({ (ix x4 a1 zh) with Pending:=(zhz y0 a2).Pending }:Mon)) (fun x5=>(some [(aH ({ y1 with Mons:=x5 }:Host)),(aB (zgh y0 a2))])))))))) (some [(aH y1),(aB (zgh y0 a2))])))))))))
theorem zTE (a0:Host)(a1 a2:Int)(hc:zv1 a0 a1 a2=true):∃N,zEF N a0 a1 a2=some [aH (zjf a0 a1 a2),aB (zlt a0 a1 a2)]:=by
 have hs:=(zF a0).1 (zu.1 hc);refine ⟨0,?_⟩;have key:=zov (h:=a0) (m:=a1) (cB:=zpk (zC a0 a1) a2) (B:=zhz (zC a0 a1) a2) (ok:=zgh (zC a0 a1) a2) (o0:=fun H=>[.agg (zW H),.one (.b false)]) (o1:=fun H=>[.agg (zW H),.one (.b (zgh (zC a0 a1) a2))]) hs
  (fun h0=>zD (zc9 hs (zbd.1 h0).2)) (fun h0=>zCt _ (zc9 hs (zbd.1 h0).2)) (fun h0 hk=>(congrArg (zb7 a0 a1) (z8t _ hk)).trans (zjC (zbd.1 h0).2))
 refine (show zEF 0 a0 a1 a2=_ from key).trans ?_
 unfold zjf zlt zcy zcr;cases zbL a0 a1<;>rfl
theorem zL4:uY 73 zAq:=kF3 zdU zi zbh zbu (zl []) zTE
theorem zIf {b:Bare}(hb:SmB b):SmB (ziM b):=zbay hb
theorem zbal {b:Bare}(hk:zkL b=false):ziM b=b:=z9h hk
theorem zbau {b c:Bare}(hS:SameB b c)(h:Host)(m:Int):zb7 h m (ziM b)=zb7 h m (ziM c)/\znw b=znw c/\zkL b=zkL c:=by
 obtain ⟨e1,e2,e3,e4⟩:=z9i hS;exact ⟨back_eq e1 e2,e3,e4⟩
@[simp] abbrev zza (h:Host)(m:Int):Bool:=pc (zbA h)
@[simp] abbrev zsq (h:Host)(m:Int):Host:=zcy h m (ziM (zC h m))
@[simp] abbrev zsr (h:Host)(m:Int):Int:=bif zbL h m then znw (zC h m) else -1
@[simp] abbrev zss (h:Host)(m:Int):Bool:=zcr h m (zkL (zC h m))
def zDJ:Run:=rF2 dH dI fun b c=>(zza b c,[aH (zsq b c),aI (zsr b c),aB (zss b c)])
def zJ6 (N:Nat)(a0:Host)(a1:Int):OA:=
 let y1:=(zx a0);let y0:=(ix y1.Mons a1 zh); (oN (zbJ a0) (oN (zfm y1 a1) (cond (nB (zfl y1 a1)) (some [(aH y1),(aI (-1)),(aB false)]) (oN (inb a1 (ln y1.Mons)) (oN (zex y0) (oN (zsl (zbC y0)) (oN (zew y1 a1 (ziP (zbC y0))) (some [(aH (zhe y1 a1 (ziP (zbC y0)))),(aI (zkN (zbC y0))),(aB (zkO (zbC y0)))]))))))))
theorem zXT (a0:Host)(a1:Int)(hc:zza a0 a1=true):∃N,zJ6 N a0 a1=some [aH (zsq a0 a1),aI (zsr a0 a1),aB (zss a0 a1)]:=by
 have hs:=(zF a0).1 (zu.1 hc);refine ⟨0,?_⟩;have key:=zoM (h:=a0) (m:=a1) (cB:=zsl (zct (ix a0.Mons a1 mZ))) (B:=ziP (zct (ix a0.Mons a1 mZ))) (o0:=fun H=>[.agg (zW H),.one (.i .i64 (-1)),.one (.b false)]) (o1:=fun H=>[.agg (zW H),.one (.i .i64 (zkN (zct (ix a0.Mons a1 mZ)))),.one (.b (zkO (zct (ix a0.Mons a1 mZ))))]) hs
  (fun h0=>zD (zeK (hs.2.1.2 _ (zbw (zbd.1 h0).2 _)))) (fun h0=>zIf (zeK (hs.2.1.2 _ (zbw (zbd.1 h0).2 _))))
 refine (show zJ6 0 a0 a1=_ from key).trans ?_
 unfold zsq zsr zss zcy zcr;cases h0:zbL a0 a1
 .rfl
 .obtain ⟨e1,e2,e3⟩:=zbau (zjI h0 (zo9 h0)) a0 a1;simp only[cT];exact zbct e1 e2 e3
theorem zPO:uY 58 zDJ:=kF2 zdU zi zbh zbu (zl []) zXT
@[simp] abbrev zyT (h:Host)(m:Int):Bool:=pc (zbA h)
@[simp] abbrev zkA (h:Host)(m:Int):Host:=zcy h m (ziM (zC h m))
@[simp] abbrev znh (h:Host)(m:Int):Int:=bif zbL h m then znw (zC h m) else -1
@[simp] abbrev zni (h:Host)(m:Int):Bool:=zcr h m (zkL (zC h m))
def zDd:Run:=rF2 dH dI fun b c=>(zyT b c,[aH (zkA b c),aI (znh b c),aB (zni b c)])
def zJx (N:Nat)(a0:Host)(a1:Int):OA:=
 let y1:=(zI a0);let y0:=(zc5 a0 a1); (oN (zbb a0) (oN (zcL a0) (cond (nB (zcG a0)) (some [(aH y1),(aI (-1)),(aB false)]) (oN (zbx a1 (ln a0.Mons)) (cond (nB (zbO a1 (ln a0.Mons))) (some [(aH y1),(aI (-1)),(aB false)]) (oN (zea a0 a1) (oN (zrW y0) (cond (zfV y0) (oN (zcg (zgW y0).Guests) (oN (inb a1 (ln y1.Mons)) (share (up y1.Mons a1 ({ (ix y1.Mons a1 zh) with Guests:=(zcH (zgW y0).Guests) }:Mon)) (fun x3=>(oN (inb a1 (ln x3)) (share (up x3 a1 ({ (ix x3 a1 zh) with Pending:=(zgW y0).Pending }:Mon)) (fun x4=>(some [(aH ({ y1 with Mons:=x4 }:Host)),(aI (ziH y0)),(aB (zfV y0))])))))))) (some [(aH y1),(aI (ziH y0)),(aB (zfV y0))])))))))))
theorem zXj (a0:Host)(a1:Int)(hc:zyT a0 a1=true):∃N,zJx N a0 a1=some [aH (zkA a0 a1),aI (znh a0 a1),aB (zni a0 a1)]:=by
 have hs:=(zF a0).1 (zu.1 hc);refine ⟨0,?_⟩;have key:=zov (h:=a0) (m:=a1) (cB:=zrW (zC a0 a1)) (B:=zgW (zC a0 a1)) (ok:=zfV (zC a0 a1)) (o0:=fun H=>[.agg (zW H),.one (.i .i64 (-1)),.one (.b false)]) (o1:=fun H=>[.agg (zW H),.one (.i .i64 (ziH (zC a0 a1))),.one (.b (zfV (zC a0 a1)))]) hs
  (fun h0=>zD (zc9 hs (zbd.1 h0).2)) (fun h0=>zIf (zc9 hs (zbd.1 h0).2)) (fun h0 hk=>(congrArg (zb7 a0 a1) (zbal hk)).trans (zjC (zbd.1 h0).2))
 refine (show zJx 0 a0 a1=_ from key).trans ?_
 unfold zkA znh zni zcy zcr;cases zbL a0 a1<;>rfl
theorem zPi:uY 74 zDd:=kF2 zdU zi zbh zbu (zl []) zXj
def z7u:zY:=[(49,zDO),(65,zDi),(51,zwC),(67,zwr),(52,zwE),(68,zwu),(53,zwD),(69,zwt),(54,zDL),(70,zDf),(57,zAU),(73,zAq),(58,zDJ),(74,zDd)]++z7t
theorem zlj:zJ z7u:=zf zPT (zf zPn (zf zFZ (zf zFN (zf zF1 (zf zFP (zf zF0 (zf zFO (zf zPQ (zf zPk (zf zMC (zf zL4 (zf zPO (zf zPi zdU)))))))))))))
def ziU (h:Host)(m t:Int):Host:=bif zbF h then (cond (hasB m (ln h.Mons)) (cond (win t 0 3) { h with Mons:=up h.Mons m { ix h.Mons m mZ with Traps:=t } } h) h) else h
def zmV (h:Host)(m t:Int):Bool:=bif zbF h then (cond (hasB m (ln h.Mons)) (win t 0 3) false) else false
@[simp] abbrev zwQ (h:Host)(m t:Int):Bool:=pc (zbA h)
@[simp] abbrev zqG (h:Host)(m t:Int):Host:=ziU h m t
@[simp] abbrev zqH (h:Host)(m t:Int):Bool:=zmV h m t
@[simp] abbrev zv6 (h:Host)(m t:Int):Bool:=pc (zbA h)
@[simp] abbrev zly (h:Host)(m t:Int):Host:=ziU h m t
@[simp] abbrev zpH (h:Host)(m t:Int):Bool:=zmV h m t
def zAZ:Run:=rF3 dH dI dI fun b c d=>(zwQ b c d,[aH (zqG b c d),aB (zqH b c d)])
def zFh (N:Nat)(a0:Host)(a1 a2:Int):OA:=
 let y0:=(zx a0); (oN (zbJ a0) (oN (zfg y0) (cond (nB (zff y0)) (some [(aH y0),(aB false)]) (oN (zO a1 0 (wsub .i64 (ln y0.Mons) 1)) (cond (nB (zT a1 0 (wsub .i64 (ln y0.Mons) 1))) (some [(aH y0),(aB false)]) (oN (zO a2 0 3) (cond (nB (zT a2 0 3)) (some [(aH y0),(aB false)]) (oN (inb a1 (ln y0.Mons)) (share (up y0.Mons a1 ({ (ix y0.Mons a1 zh) with Traps:=a2 }:Mon)) (fun x4=>(some [(aH ({ y0 with Mons:=x4 }:Host)),(aB true)])))))))))))
theorem zUl (a0:Host)(a1 a2:Int)(hc:zwQ a0 a1 a2=true):∃N,zFh N a0 a1 a2=some [aH (zqG a0 a1 a2),aB (zqH a0 a1 a2)]:=by
 have hs:=(zF a0).1 (zu.1 hc);refine ⟨0,?_⟩;unfold zFh zqG zqH ziU zmV oN nB
 conv=>zeta
 refine must hc (must rfl ?_);rw[show zff (zx a0)=zbF a0 from rfl]
 cases hh:zbF a0
 .rfl
 .refine zbI rfl (must rfl ?_);rw[show zT a1 0 (wsub .i64 (ln (zx a0).Mons) 1)=hasB a1 (ln a0.Mons) from zVf hh a1]
  cases hm:hasB a1 (ln a0.Mons)
  .rfl
  .refine zbI rfl (must rfl ?_);rw[show zT a2 0 3=win a2 0 3 from rfl]
   cases ht:win a2 0 3
   .rfl
   .exact zbI rfl (must (zy hm) rfl)
theorem zMI:uY 108 zAZ:=kF3 zlj zi zbh zbu (zl []) zUl
def zAx:Run:=rF3 dH dI dI fun b c d=>(zv6 b c d,[aH (zly b c d),aB (zpH b c d)])
def zEL (N:Nat)(a0:Host)(a1 a2:Int):OA:=
 let y0:=(zI a0); (oN (zbb a0) (oN (zcL a0) (cond (nB (zcG a0)) (some [(aH y0),(aB false)]) (oN (zbx a1 (ln a0.Mons)) (cond (nB (zbO a1 (ln a0.Mons))) (some [(aH y0),(aB false)]) (oN (zbl a2 0 3) (cond (nB (zbp a2 0 3)) (some [(aH y0),(aB false)]) (oN (inb a1 (ln y0.Mons)) (share (up y0.Mons a1 ({ (ix y0.Mons a1 zh) with Traps:=a2 }:Mon)) (fun x4=>(some [(aH ({ y0 with Mons:=x4 }:Host)),(aB true)])))))))))))
theorem zTL (a0:Host)(a1 a2:Int)(hc:zv6 a0 a1 a2=true):∃N,zEL N a0 a1 a2=some [aH (zly a0 a1 a2),aB (zpH a0 a1 a2)]:=by
 have hs:=(zF a0).1 (zu.1 hc);refine ⟨0,?_⟩;unfold zEL zly zpH ziU zmV oN nB
 conv=>zeta
 refine must hc (must rfl ?_);rw[show zcG a0=zbF a0 from rfl]
 cases hh:zbF a0
 .rfl
 .refine zbI rfl (must rfl ?_);rw[show zbO a1 (ln a0.Mons)=hasB a1 (ln a0.Mons) from rfl]
  cases hm:hasB a1 (ln a0.Mons)
  .rfl
  .refine zbI rfl (must rfl ?_);rw[show zbp a2 0 3=win a2 0 3 from rfl]
   cases ht:win a2 0 3
   .rfl
   .exact zbI rfl (must (zy hm) rfl)
theorem zMb:uY 80 zAx:=kF3 zlj zi zbh zbu (zl []) zTL
theorem zd3 {h:Host}{m p:Int}:(zbB h m p=true)↔zbF h=true/\hasB m (ln h.Mons)=true/\hasB p 8=true:=by
 unfold zbB;cases zbF h<;>cases hasB m (ln h.Mons)<;>simp
def zhP (h:Host)(m p:Int):Bool:=ieq (ix (ix h.Mons m mZ).Outer p sZ).Page (-1)
def zkM (h:Host)(m p:Int):Host:=bif zbB h m p then (cond (zhP h m p) h (zfr h m p)) else h
def zo1 (h:Host)(m p:Int):Bool:=bif zbB h m p then !zhP h m p else false
def zny (h:Host)(m p:Int):Host:=bif zbB h m p then (cond (zhP h m p) (fetched h m p) h) else h
def zrj (h:Host)(m p:Int):Bool:=bif zbB h m p then zhP h m p else false
@[simp] abbrev zzi (h:Host)(m p:Int):Bool:=pc (zbA h)
@[simp] abbrev zsB (h:Host)(m p:Int):Host:=zkM h m p
@[simp] abbrev zsC (h:Host)(m p:Int):Bool:=zo1 h m p
@[simp] abbrev zCl (h:Host)(m p:Int):Bool:=pc (zbA h)
@[simp] abbrev zuY (h:Host)(m p:Int):Host:=zny h m p
@[simp] abbrev zuZ (h:Host)(m p:Int):Bool:=zrj h m p
@[simp] abbrev zy1 (h:Host)(m p:Int):Bool:=pc (zbA h)
@[simp] abbrev zno (h:Host)(m p:Int):Host:=zkM h m p
@[simp] abbrev zr3 (h:Host)(m p:Int):Bool:=zo1 h m p
@[simp] abbrev zBQ (h:Host)(m p:Int):Bool:=pc (zbA h)
@[simp] abbrev zpE (h:Host)(m p:Int):Host:=zny h m p
@[simp] abbrev zux (h:Host)(m p:Int):Bool:=zrj h m p
theorem zRa {h:Host}(hs:SmH h)(hh:zbF h=true){m p:Int}(hm:hasB m (ln h.Mons)=true)(hp:hasB p 8=true) :
 (cond (ieq (ix (ix h.Mons m mZ).Outer p sZ).Page (-1)) (ieq (ix (ix h.Mons m mZ).Outer p sZ).Rights 0) false)=zhP h m p:=by
 have hf:=(zuS (zgV hh _ (zbw hm mZ)) hp).no;unfold zc0 at hf;unfold zhP;rw[<- hf];cases h1:ieq (ix (ix h.Mons m mZ).Outer p sZ).Page (-1)<;>simp [noSlot,h1]
theorem zxI {h:Host}(hs:SmH h)(hh:zbF h=true){m p:Int}(hm:hasB m (ln h.Mons)=true)(hp:hasB p 8=true):inb p (ln (ix h.Mons m mZ).Outer)=true :=
 zy (by rw[ln,((zdz hs hh).1.2 _ (zbw hm mZ)).1];exact hp)
def zDT:Run:=rF3 dH dI dI fun b c d=>(zzi b c d,[aH (zsB b c d),aB (zsC b c d)])
def zKf (N:Nat)(a0:Host)(a1 a2:Int):OA:=
 let y1:=(zx a0);let y0:=(ix y1.Mons a1 zh).Outer; (oN (zbJ a0) (oN (zo5 y1 a1 a2) (cond (nB (zh9 y1 a1 a2)) (some [(aH y1),(aB false)]) (oN (inb a1 (ln y1.Mons)) (oN (inb a2 (ln y0)) (oN zcd (cond (cond (ieq (ix y0 a2 zM).Page zbq.Page) (ieq (ix y0 a2 zM).Rights zbq.Rights) false) (some [(aH y1),(aB false)]) (oN (zu4 y1 a1 a2) (some [(aH (zCq y1 a1 a2)),(aB true)])))))))))
theorem zX3 (a0:Host)(a1 a2:Int)(hc:zzi a0 a1 a2=true):∃N,zKf N a0 a1 a2=some [aH (zsB a0 a1 a2),aB (zsC a0 a1 a2)]:=by
 have hs:=(zF a0).1 (zu.1 hc);refine ⟨0,?_⟩;unfold zKf zsB zsC zkM zo1 oN nB
 conv=>zeta
 refine must hc (must rfl ?_);rw[show zh9 (zx a0) a1 a2=zbB a0 a1 a2 from rfl]
 cases h0:zbB a0 a1 a2
 .rfl
 .obtain ⟨hh,hm,hp⟩:=zd3.1 h0;refine zbI rfl (must (zy hm) (must (zxI hs hh hm hp) (must rfl ?_)));rw[show (cond (ieq (ix (ix (zx a0).Mons a1 zh).Outer a2 zM).Page zbq.Page) (ieq (ix (ix (zx a0).Mons a1 zh).Outer a2 zM).Rights zbq.Rights) false)=zhP a0 a1 a2 from zRa hs hh hm hp]
  cases h1:zhP a0 a1 a2
  .exact zbI rfl (must (zD ⟨(zdz hs hh).1,hm,hp⟩) rfl)
  .rfl
theorem zPY:uY 105 zDT:=kF3 zlj zi zbh zbu (zl []) zX3
def zDm:Run:=rF3 dH dI dI fun b c d=>(zy1 b c d,[aH (zno b c d),aB (zr3 b c d)])
def zJF (N:Nat)(a0:Host)(a1 a2:Int):OA:=
 let y0:=(ix a0.Mons a1 zh).Outer; (oN (zbb a0) (oN (zns a0 a1 a2) (cond (nB (zim a0 a1 a2)) (some [(aH (zI a0)),(aB false)]) (oN (inb a1 (ln a0.Mons)) (oN (inb a2 (ln y0)) (cond (ieq (ix y0 a2 zM).Page (-1)) (some [(aH (zI a0)),(aB false)]) (oN (zBW (zI a0) a1 a2) (some [(aH (zBX (zI a0) a1 a2)),(aB true)]))))))))
theorem zXs (a0:Host)(a1 a2:Int)(hc:zy1 a0 a1 a2=true):∃N,zJF N a0 a1 a2=some [aH (zno a0 a1 a2),aB (zr3 a0 a1 a2)]:=by
 have hs:=(zF a0).1 (zu.1 hc);refine ⟨0,?_⟩;unfold zJF zno zr3 zkM zo1 oN nB
 conv=>zeta
 refine must hc (must rfl ?_);rw[show zim a0 a1 a2=zbB a0 a1 a2 from rfl]
 cases h0:zbB a0 a1 a2
 .rfl
 .obtain ⟨hh,hm,hp⟩:=zd3.1 h0;refine zbI rfl (must (zy hm) (must (zxI hs hh hm hp) ?_));rw[show ieq (ix (ix a0.Mons a1 zh).Outer a2 zM).Page (-1)=zhP a0 a1 a2 from rfl]
  cases h1:zhP a0 a1 a2
  .exact zbI rfl (must (zD ⟨(zdz hs hh).1,hm,hp⟩) rfl)
  .rfl
theorem zPr:uY 77 zDm:=kF3 zlj zi zbh zbu (zl []) zXs
def zHe:Run:=rF3 dH dI dI fun b c d=>(zCl b c d,[aH (zuY b c d),aB (zuZ b c d)])
def zOy (N:Nat)(a0:Host)(a1 a2:Int):OA:=
 let y1:=(zx a0);let y0:=(ix y1.Mons a1 zh).Outer; (oN (zbJ a0) (oN (zo5 y1 a1 a2) (cond (nB (zh9 y1 a1 a2)) (some [(aH y1),(aB false)]) (oN (inb a1 (ln y1.Mons)) (oN (inb a2 (ln y0)) (oN zcd (cond (nB (cond (ieq (ix y0 a2 zM).Page zbq.Page) (ieq (ix y0 a2 zM).Rights zbq.Rights) false)) (some [(aH y1),(aB false)]) (oN (zyB y1 a1 a2) (some [(aH (zA9 y1 a1 a2)),(aB true)])))))))))
theorem z06 (a0:Host)(a1 a2:Int)(hc:zCl a0 a1 a2=true):∃N,zOy N a0 a1 a2=some [aH (zuY a0 a1 a2),aB (zuZ a0 a1 a2)]:=by
 have hs:=(zF a0).1 (zu.1 hc);refine ⟨0,?_⟩;unfold zOy zuY zuZ zny zrj oN nB
 conv=>zeta
 refine must hc (must rfl ?_);rw[show zh9 (zx a0) a1 a2=zbB a0 a1 a2 from rfl]
 cases h0:zbB a0 a1 a2
 .rfl
 .obtain ⟨hh,hm,hp⟩:=zd3.1 h0;refine zbI rfl (must (zy hm) (must (zxI hs hh hm hp) (must rfl ?_)));rw[show (cond (ieq (ix (ix (zx a0).Mons a1 zh).Outer a2 zM).Page zbq.Page) (ieq (ix (ix (zx a0).Mons a1 zh).Outer a2 zM).Rights zbq.Rights) false)=zhP a0 a1 a2 from zRa hs hh hm hp]
  cases h1:zhP a0 a1 a2
  .rfl
  .exact zbI rfl (must (zD ⟨zdz hs hh,hm,hp⟩) rfl)
theorem zS9:uY 106 zHe:=kF3 zlj zi zbh zbu (zl []) z06
def zGz:Run:=rF3 dH dI dI fun b c d=>(zBQ b c d,[aH (zpE b c d),aB (zux b c d)])
def zNT (N:Nat)(a0:Host)(a1 a2:Int):OA:=
 let y0:=(ix a0.Mons a1 zh).Outer; (oN (zbb a0) (oN (zns a0 a1 a2) (cond (nB (zim a0 a1 a2)) (some [(aH (zI a0)),(aB false)]) (oN (inb a1 (ln a0.Mons)) (oN (inb a2 (ln y0)) (cond (ine (ix y0 a2 zM).Page (-1)) (some [(aH (zI a0)),(aB false)]) (oN (zxz (zI a0) a1 a2) (some [(aH (zs5 (zI a0) a1 a2)),(aB true)]))))))))
theorem z0p (a0:Host)(a1 a2:Int)(hc:zBQ a0 a1 a2=true):∃N,zNT N a0 a1 a2=some [aH (zpE a0 a1 a2),aB (zux a0 a1 a2)]:=by
 have hs:=(zF a0).1 (zu.1 hc);refine ⟨0,?_⟩;unfold zNT zpE zux zny zrj oN nB
 conv=>zeta
 refine must hc (must rfl ?_);rw[show zim a0 a1 a2=zbB a0 a1 a2 from rfl]
 cases h0:zbB a0 a1 a2
 .rfl
 .obtain ⟨hh,hm,hp⟩:=zd3.1 h0;refine zbI rfl (must (zy hm) (must (zxI hs hh hm hp) ?_));rw[show ine (ix (ix a0.Mons a1 zh).Outer a2 zM).Page (-1) = !zhP a0 a1 a2 from zh0 _ _]
  cases h1:zhP a0 a1 a2
  .rfl
  .exact zbI rfl (must (zD ⟨zdz hs hh,hm,hp⟩) rfl)
theorem zSu:uY 78 zGz:=kF3 zlj zi zbh zbu (zl []) z0p
def z7v:zY:=[(108,zAZ),(80,zAx),(105,zDT),(77,zDm),(106,zHe),(78,zGz)]++z7u
theorem zFy:zJ z7v:=zf zMI (zf zMb (zf zPY (zf zPr (zf zS9 (zf zSu zlj)))))
theorem zRy {x:Mon}{b:Bare}(h:zd6 x)(hb:zm0 b.Guests):zd6 (zBn x b):=⟨h.1,h.2.1,h.2.2.1,hb,h.2.2.2.2⟩
theorem zCu {h:Host}{m:Int}{b:Bare}(hs:SmH h)(hm:hasB m (ln h.Mons)=true)(hb:zm0 b.Guests):SmH (zb7 h m b) :=
 ⟨hs.1,ziw hs.2.1 (zRy (hs.2.1.2 _ (zbw hm _)) hb),hs.2.2⟩
theorem zLC {h:Host}{m:Int}(b:Bare)(hm:hasB m (ln h.Mons)=true):hasB m (ln (zb7 h m b).Mons)=true:=by
 show hasB m (ln (up h.Mons m _))=true
 rw[ln,zdZ];exact hm
theorem zbcm {h:Host}{m:Int}(b:Bare)(hm:hasB m (ln h.Mons)=true):ix (zb7 h m b).Mons m mZ=zBn (ix h.Mons m mZ) b:=by
 obtain ⟨k,rfl,hk⟩:=zdn (n:=h.Mons.length) hm;exact zcT hk _ _
def z7T (h:Host)(m g p:Int):Host:=⟨h.Memory,up h.Mons m { ix h.Mons m mZ with Tables:=up (ix h.Mons m mZ).Tables g (zc1 (ix (ix h.Mons m mZ).Tables g kZ) p) },zcV h.Buffer (zgy m g) p,zcV h.IoBuffer (zgy m g) p⟩
def z7S (H:Host)(m g p:Int)(o:Host->Ans):OA:=
 bif inb m (ln H.Mons) then (bif inb m (ln H.Mons) then (bif inb g (ln (ix H.Mons m mZ).Tables) then (bif zmJ (ix (ix H.Mons m mZ).Tables g kZ) p then (bif inb g (ln (ix H.Mons m mZ).Tables) then (share (up H.Mons m { ix H.Mons m mZ with Tables:=up (ix H.Mons m mZ).Tables g (zc1 (ix (ix H.Mons m mZ).Tables g kZ) p) }) fun x =>
  (cond (zlT m g) (cond (zgG H.Buffer (zgy m g) p) (cond (zlT m g) (cond (zgG H.IoBuffer (zgy m g) p) (some (o ⟨H.Memory,x,zcV H.Buffer (zgy m g) p,zcV H.IoBuffer (zgy m g) p⟩)) none) none) none) none)) else none) else none) else none) else none) else none
theorem zVX {H:Host}{m g p:Int}{o:Host->Ans}(hs:SmH H)(hm:hasB m (ln H.Mons)=true)(hg:hasB g (ln (ix H.Mons m mZ).Tables)=true):z7S H m g p o=some (o (z7T H m g p)):=by
 have hx:=hs.2.1.2 _ (zbw hm mZ);unfold z7S;exact must (zy hm) (must (zy hm) (must (zy hg) (must (zD (hx.2.2.2.2.2.2 _ (zbw hg _))) (must (zy hg) (shr (must rfl (must (zD hs.2.2.1) (must rfl (must (zD hs.2.2.2) rfl)))))))))
def zgf (h:Host)(m g p:Int):Host:=bif zbL h m then (cond (zbN (zC h m) g (hasB p 4)) (z7T (zb7 h m (chg (zC h m) g (hasB p 4) (zgH (gAt (zC h m) g) p))) m g p) h) else h
@[simp] abbrev zt2 (h:Host)(m g p:Int):Bool:=pc (zbA h)
@[simp] abbrev zn5 (h:Host)(m g p:Int):Host:=zgf h m g p
@[simp] abbrev zn6 (h:Host)(m g p:Int):Bool:=zcr h m (zbN (zC h m) g (hasB p 4))
@[simp] abbrev ztJ (h:Host)(m g p:Int):Bool:=pc (zbA h)
@[simp] abbrev zkf (h:Host)(m g p:Int):Host:=zgf h m g p
@[simp] abbrev zkg (h:Host)(m g p:Int):Bool:=zcr h m (zbN (zC h m) g (hasB p 4))
theorem zzk {h:Host}{m:Int}(hm:hasB m (ln h.Mons)=true):(zC h m).Guests=(ix h.Mons m mZ).Guests:=by unfold zC;rw[hm];rfl
theorem zFH {h:Host}{m g:Int}{k:Bool}(hs:SmH h)(h0:zbL h m=true)(b:Bare)(hk:zbN (zC h m) g k=true):hasB g (ln (ix (zb7 h m b).Mons m mZ).Tables)=true:=by
 obtain ⟨hh,hm⟩:=zbd.1 h0;rw[zbcm b hm]
 show hasB g (ln (ix h.Mons m mZ).Tables)=true
 rw[ln,((zdz hs hh).1.2 _ (zbw hm mZ)).2.2.2,<- zzk hm];unfold zbN at hk;cases hb:zbU (zC h m) g
 .rw [hb]at hk;cases hk
 .exact (zds.1 hb).2
def zx7:Run:=rF4 dH dI dI dI fun b c d e=>(zt2 b c d e,[aH (zn5 b c d e),aB (zn6 b c d e)])
def zC2 (N:Nat)(a0:Host)(a1 a2 a3:Int):OA:=
 let y5:=(zvq a1 a2);let y3:=(zx a0);let y2:=(ix y3.Mons a1 zh);let y0:=(zhe y3 a1 (zeE (zbC y2) a2 a3));let y1:=(ix y0.Mons a1 zh);let y4:=(ix y1.Tables a2 zcu); (oN (zbJ a0) (oN (zfm y3 a1) (cond (nB (zfl y3 a1)) (some [(aH y3),(aB false)]) (oN (inb a1 (ln y3.Mons)) (oN (zex y2) (oN (ztZ (zbC y2) a2 a3) (cond (nB (zh7 (zbC y2) a2 a3)) (some [(aH y3),(aB false)]) (oN (zew y3 a1 (zeE (zbC y2) a2 a3)) (oN (inb a1 (ln y0.Mons)) (oN (inb a1 (ln y0.Mons)) (oN (inb a2 (ln y1.Tables)) (oN (zmJ y4 a3) (oN (inb a2 (ln y1.Tables)) (share (up y0.Mons a1 ({ y1 with Tables:=(up y1.Tables a2 (zlR y4 a3)) }:Mon)) (fun x5=>(oN (zlT a1 a2) (oN (zgG y0.Buffer y5 a3) (oN (zlT a1 a2) (oN (zgG y0.IoBuffer y5 a3) (some [(aH (⟨y0.Memory,x5,(znB y0.Buffer y5 a3),(znB y0.IoBuffer y5 a3)⟩:Host)),(aB true)]))))))))))))))))))))
theorem zQQ (a0:Host)(a1 a2 a3:Int)(hb:zby big [aH a0,aI a1,aI a2,aI a3])(hc:zt2 a0 a1 a2 a3=true):∃N,zC2 N a0 a1 a2 a3=some [aH (zn5 a0 a1 a2 a3),aB (zn6 a0 a1 a2 a3)]:=by
 have hs:=(zF a0).1 (zu.1 hc);refine ⟨0,?_⟩;unfold zC2 zn5 zn6 zgf zcr oN nB
 conv=>zeta
 refine must hc (must rfl ?_);rw[show zfl (zx a0) a1=zbL a0 a1 from rfl]
 cases h0:zbL a0 a1
 .rfl
 .obtain ⟨hh,hm⟩:=zbd.1 h0;have hx:=hs.2.1.2 _ (zbw hm mZ);have hv:=zeK hx;have hS:=zjI h0 (zo9 h0);have hk:zbN (zct (ix a0.Mons a1 mZ)) a2 (hasB a3 4)=zbN (zC a0 a1) a2 (hasB a3 4):=zl6 hS _ _;have hB:zb7 a0 a1 (zeE (zct (ix a0.Mons a1 mZ)) a2 a3)=zb7 a0 a1 (chg (zC a0 a1) a2 (hasB a3 4) (zgH (gAt (zC a0 a1) a2) a3)):=by
   rw[<- hS.at];exact zqY hS _ _ _ _ _
  refine zbI rfl (must (zy hm) (must (zD hx) (must (zD hv) ?_)));rw[show zh7 (zbC (ix (zx a0).Mons a1 zh)) a2 a3=zbN (zC a0 a1) a2 (hasB a3 4) from hk]
  cases hf:zbN (zC a0 a1) a2 (hasB a3 4)
  .rfl
  .have hb:SmB (zeE (zct (ix a0.Mons a1 mZ)) a2 a3):=zmW hv (zqO _ (zey _ hv));refine zbI rfl (must (zD ⟨hm,hb.2.1⟩) ?_);have key:=zVX (H:=zb7 a0 a1 (zeE (zct (ix a0.Mons a1 mZ)) a2 a3)) (m:=a1) (g:=a2) (p:=a3) (o:=fun H=>[.agg (zW H),.one (.b true)]) (zCu hs hm hb.2.1) (zLC _ hm) (zFH hs h0 _ hf);refine (show _=_ from key).trans ?_
   rw[hB];rfl
theorem zIQ:uY 50 zx7:=hF4 zFy zi zbh zbu (zl []) zQQ
def zxR:Run:=rF4 dH dI dI dI fun b c d e=>(ztJ b c d e,[aH (zkf b c d e),aB (zkg b c d e)])
def zCL (N:Nat)(a0:Host)(a1 a2 a3:Int):OA:=
 let y8:=(zs4 a1 a2);let y5:=(zft (zc5 a0 a1) a2 a3);let y4:=(zvh a1 a2);let y2:=(zI a0);let y6:=(inb a1 (ln y2.Mons));let y1:=(zhX (zc5 a0 a1) a2 a3);let y0:=(ix y2.Mons a1 zh);let y9:=(ix y0.Tables a2 zcu); (oN (zbb a0) (oN (zcL a0) (cond (nB (zcG a0)) (some [(aH y2),(aB false)]) (oN (zbx a1 (ln a0.Mons)) (cond (nB (zbO a1 (ln a0.Mons))) (some [(aH y2),(aB false)]) (oN (zea a0 a1) (oN (ztG (zc5 a0 a1) a2 a3) (cond y1 (oN (zcg y5.Guests) (oN y6 (share (up y2.Mons a1 ({ y0 with Guests:=(zcH y5.Guests) }:Mon)) (fun x5=>(oN (inb a1 (ln x5)) (share (up x5 a1 ({ (ix x5 a1 zh) with Pending:=y5.Pending }:Mon)) (fun x6=>let y3:=(ix x6 a1 zh);let y7:=(ix y3.Tables a2 zcu); (cond y1 (oN (inb a1 (ln x6)) (oN (inb a1 (ln x6)) (oN (inb a2 (ln y3.Tables)) (oN (zgO y7 a3) (oN (inb a2 (ln y3.Tables)) (share (up x6 a1 ({ y3 with Tables:=(up y3.Tables a2 (zfH y7 a3)) }:Mon)) (fun x7=>(oN y8 (oN (zgA y2.Buffer y4 a3) (oN y8 (oN (zgA y2.IoBuffer y4 a3) (some [(aH (⟨y2.Memory,x7,(zgZ y2.Buffer y4 a3),(zgZ y2.IoBuffer y4 a3)⟩:Host)),(aB y1)])))))))))))) (some [(aH ({ y2 with Mons:=x6 }:Host)),(aB y1)]))))))))) (cond y1 (oN y6 (oN y6 (oN (inb a2 (ln y0.Tables)) (oN (zgO y9 a3) (oN (inb a2 (ln y0.Tables)) (share (up y2.Mons a1 ({ y0 with Tables:=(up y0.Tables a2 (zfH y9 a3)) }:Mon)) (fun x5=>(oN y8 (oN (zgA y2.Buffer y4 a3) (oN y8 (oN (zgA y2.IoBuffer y4 a3) (some [(aH (⟨y2.Memory,x5,(zgZ y2.Buffer y4 a3),(zgZ y2.IoBuffer y4 a3)⟩:Host)),(aB y1)])))))))))))) (some [(aH y2),(aB y1)]))))))))))
theorem zQs (a0:Host)(a1 a2 a3:Int)(hb:zby big [aH a0,aI a1,aI a2,aI a3])(hc:ztJ a0 a1 a2 a3=true):∃N,zCL N a0 a1 a2 a3=some [aH (zkf a0 a1 a2 a3),aB (zkg a0 a1 a2 a3)]:=by
 have hs:=(zF a0).1 (zu.1 hc);refine ⟨0,?_⟩;unfold zCL zkf zkg zgf zcr oN nB
 conv=>zeta
 refine must hc (must rfl ?_);rw[show zcG a0=zbF a0 from rfl]
 cases hh:zbF a0
 .unfold zbL;rw[hh];rfl
 .refine zbI rfl (must rfl ?_);rw[show zbO a1 (ln a0.Mons)=hasB a1 (ln a0.Mons) from rfl]
  cases hm:hasB a1 (ln a0.Mons)
  .unfold zbL;rw[hh,hm];rfl
  .have h0:zbL a0 a1=true:=zbd.2 ⟨hh,hm⟩;have hv:=zc9 hs hm;have hb:SmB (zft (zC a0 a1) a2 a3):=zmW hv (zqO _ (zey _ hv));rw[h0];refine zbI rfl (must hc (must (zD hv) ?_));rw[show zhX (zc5 a0 a1) a2 a3=zbN (zC a0 a1) a2 (hasB a3 4) from rfl]
   cases hf:zbN (zC a0 a1) a2 (hasB a3 4)
   .rfl
   .obtain ⟨e1,e2⟩:=zRW hm (zft (zC a0 a1) a2 a3);refine must rfl (must (zD hb.2.1) (must (zy hm) (shr (must e1 (shr ?_)))));rw[show zh=mZ from rfl,e2]
    have key:=zVX (H:=zb7 a0 a1 (zft (zC a0 a1) a2 a3)) (m:=a1) (g:=a2) (p:=a3) (o:=fun H=>[.agg (zW H),.one (.b true)]) (zCu hs hm hb.2.1) (zLC _ hm) (zFH hs h0 _ hf);exact must rfl (show _=_ from key)
theorem zIu:uY 66 zxR:=hF4 zFy zi zbh zbu (zl []) zQs
def z7w:zY:=[(50,zx7),(66,zxR)]++z7v
theorem zFz:zJ z7w:=zf zIQ (zf zIu zFy)
def z1B (h:Host)(m p c v:Int):Host:={ mended h m p 2 with Memory:=zem (mended h m p 2).Memory (ix (ix (mended h m p 2).Mons m mZ).Outer p sZ).Page c v }
def zcW (h:Host)(m p c v:Int):Bool:=bif zbB h m p then (cond (hasB c 4) (win v 0 99) false) else false
def ziF (h:Host)(m p c v:Int):Host:=bif zcW h m p c v then z1B h m p c v else h
@[simp] abbrev zwL (h:Host)(m p c v:Int):Bool:=pc (zbA h)
@[simp] abbrev zqv (h:Host)(m p c v:Int):Host:=ziF h m p c v
@[simp] abbrev zqw (h:Host)(m p c v:Int):Bool:=zcW h m p c v
@[simp] abbrev zv0 (h:Host)(m p c v:Int):Bool:=pc (zbA h)
@[simp] abbrev zpu (h:Host)(m p c v:Int):Host:=ziF h m p c v
@[simp] abbrev zpv (h:Host)(m p c v:Int):Bool:=zcW h m p c v
def zbb8 (H:Host)(m p c v:Int)(o:Host->Ans):OA:=
 bif znI H m p 2 then (cond (inb m (ln (mended H m p 2).Mons)) (cond (inb p (ln (ix (mended H m p 2).Mons m mZ).Outer)) (cond (zjx (mended H m p 2).Memory (ix (ix (mended H m p 2).Mons m mZ).Outer p sZ).Page c v) (some (o (z1B H m p c v))) none) none) none) else none
theorem z1A {h:Host}{m p c v:Int}{o:Host->Ans}(hs:SmH h)(h0:zbB h m p=true):zbb8 h m p c v o=some (o (z1B h m p c v)):=by
 obtain ⟨hh,hm,hp⟩:=zd3.1 h0;have hf:=zdz hs hh;obtain ⟨h1,h2⟩:=zqN (n:=2) hf hm hp;unfold zbb8;refine must (zD ⟨hf,hm,hp,.inr rfl,zuS (zgV hh _ (zbw hm mZ)) hp⟩) (must (zy h2) (must (zy ?_) (must (zD h1.1.1) rfl)));rw[ln,(h1.2 _ (zbw h2 mZ)).1];exact hp
def zAT:Run:=rF5 dH dI dI dI dI fun b c d e f=>(zwL b c d e f,[aH (zqv b c d e f),aB (zqw b c d e f)])
def zFc (N:Nat)(a0:Host)(a1 a2:Int)(a3 a4:Int):OA:=
 let y2:=(zx a0);let y0:=(zo6 y2 a1 a2 2);let y1:=(ix y0.Mons a1 zh).Outer;let y3:=(ix y1 a2 zM).Page; (oN (zbJ a0) (oN (zo5 y2 a1 a2) (cond (nB (zh9 y2 a1 a2)) (some [(aH y2),(aB false)]) (oN (zO a3 0 3) (cond (nB (zT a3 0 3)) (some [(aH y2),(aB false)]) (oN (zO a4 0 99) (cond (nB (zT a4 0 99)) (some [(aH y2),(aB false)]) (oN (znI y2 a1 a2 2) (oN (inb a1 (ln y0.Mons)) (oN (inb a2 (ln y1)) (oN (zjx y0.Memory y3 a3 a4) (some [(aH ({ y0 with Memory:=(zj5 y0.Memory y3 a3 a4) }:Host)),(aB true)]))))))))))))
theorem zUf (a0:Host)(a1 a2:Int)(a3 a4:Int)(hc:zwL a0 a1 a2 a3 a4=true):∃N,zFc N a0 a1 a2 a3 a4=some [aH (zqv a0 a1 a2 a3 a4),aB (zqw a0 a1 a2 a3 a4)]:=by
 have hs:=(zF a0).1 (zu.1 hc);refine ⟨0,?_⟩;unfold zFc zqv zqw ziF zcW oN nB
 conv=>zeta
 refine must hc (must rfl ?_);rw[show zh9 (zx a0) a1 a2=zbB a0 a1 a2 from rfl]
 cases h0:zbB a0 a1 a2
 .rfl
 .refine zbI rfl (must rfl ?_);rw[show zT a3 0 3=hasB a3 4 from zbeu a3]
  cases h1:hasB a3 4
  .rfl
  .refine zbI rfl (must rfl ?_);rw[show zT a4 0 99=win a4 0 99 from rfl]
   cases h2:win a4 0 99
   .rfl
   .have key:=z1A (c:=a3) (v:=a4) (o:=fun H=>[.agg (zW H),.one (.b true)]) hs h0;exact zbI rfl (show _=_ from key)
theorem zMB:uY 56 zAT:=kF5 zFz zi zbh zbu (zl []) zUf
theorem z8C {h:Host}{m p c v:Int}(hm:hasB m (ln h.Mons)=true):zb7 h m (zxJ (zC h m) p c v)=h:=by
 have e:zb7 h m (zxJ (zC h m) p c v)=zb7 h m (zC h m):=by
  refine back_eq ?_ ?_<;>unfold zxJ<;>cases ztg (zC h m) p c v<;>rfl
 rw[e];exact zjC hm
theorem zbc9 {h:Host}{m p c v:Int}(hh:zbF h=true)(hm:hasB m (ln h.Mons)=true):ztg (zC h m) p c v=zcW h m p c v:=by
 unfold ztg zcW zYR zbB;rw[zrR hh hm,hh,hm];cases hasB p 8<;>rfl
def zAp:Run:=rF5 dH dI dI dI dI fun b c d e f=>(zv0 b c d e f,[aH (zpu b c d e f),aB (zpv b c d e f)])
def zEE (N:Nat)(a0:Host)(a1 a2:Int)(a3 a4:Int):OA:=
 let y7:=(zgg (zc5 a0 a1) a2 a3 a4);let y6:=(zI a0);let y2:=(zoh y6 a1 a2 2);let y5:=(ix y2.Mons a1 zh).Outer;let y9:=(ix y5 a2 zM).Page;let y1:=(zi9 (zc5 a0 a1) a2 a3 a4); (oN (zbb a0) (oN (zcL a0) (cond (nB (zcG a0)) (some [(aH y6),(aB false)]) (oN (zbx a1 (ln a0.Mons)) (cond (nB (zbO a1 (ln a0.Mons))) (some [(aH y6),(aB false)]) (oN (zea a0 a1) (oN (zvX (zc5 a0 a1) a2 a3 a4) (cond y1 (oN (zcg y7.Guests) (oN (inb a1 (ln y6.Mons)) (share (up y6.Mons a1 ({ (ix y6.Mons a1 zh) with Guests:=(zcH y7.Guests) }:Mon)) (fun x6=>(oN (inb a1 (ln x6)) (share (up x6 a1 ({ (ix x6 a1 zh) with Pending:=y7.Pending }:Mon)) (fun x7=>let y3:=({ y6 with Mons:=x7 }:Host);let y0:=(zoh y3 a1 a2 2);let y4:=(ix y0.Mons a1 zh).Outer;let y8:=(ix y4 a2 zM).Page; (cond y1 (oN (zv7 y3 a1 a2 2) (oN (inb a1 (ln y0.Mons)) (oN (inb a2 (ln y4)) (oN (ze6 y0.Memory y8 a3 a4) (some [(aH ({ y0 with Memory:=(zfX y0.Memory y8 a3 a4) }:Host)),(aB y1)]))))) (some [(aH y3),(aB y1)]))))))))) (cond y1 (oN (zv7 y6 a1 a2 2) (oN (inb a1 (ln y2.Mons)) (oN (inb a2 (ln y5)) (oN (ze6 y2.Memory y9 a3 a4) (some [(aH ({ y2 with Memory:=(zfX y2.Memory y9 a3 a4) }:Host)),(aB y1)]))))) (some [(aH y6),(aB y1)]))))))))))
theorem zTD (a0:Host)(a1 a2:Int)(a3 a4:Int)(hb:zby big [aH a0,aI a1,aI a2,aI a3,aI a4])(hc:zv0 a0 a1 a2 a3 a4=true):∃N,zEE N a0 a1 a2 a3 a4=some [aH (zpu a0 a1 a2 a3 a4),aB (zpv a0 a1 a2 a3 a4)]:=by
 have hs:=(zF a0).1 (zu.1 hc);refine ⟨0,?_⟩;unfold zEE zpu zpv ziF oN nB
 conv=>zeta
 refine must hc (must rfl ?_);rw[show zcG a0=zbF a0 from rfl]
 cases hh:zbF a0
 .unfold zcW zbB;rw[hh];rfl
 .refine zbI rfl (must rfl ?_);rw[show zbO a1 (ln a0.Mons)=hasB a1 (ln a0.Mons) from rfl]
  cases hm:hasB a1 (ln a0.Mons)
  .unfold zcW zbB;rw[hh,hm];rfl
  .have hv:=zc9 hs hm;have hb:SmB (zgg (zC a0 a1) a2 a3 a4):=by
    show SmB (zxJ _ _ _ _)
    unfold zxJ;cases ztg (zC a0 a1) a2 a3 a4
    .exact hv
    .exact ⟨zwU hv.1,hv.2⟩
   refine zbI rfl (must hc (must (zD hv) ?_));rw[show zi9 (zc5 a0 a1) a2 a3 a4=zcW a0 a1 a2 a3 a4 from zbc9 hh hm]
   cases hf:zcW a0 a1 a2 a3 a4
   .rfl
   .have h0:zbB a0 a1 a2=true:=by
     unfold zcW at hf;cases hp:zbB a0 a1 a2
     .rw [hp]at hf;cases hf
     .rfl
    obtain ⟨e1,e2⟩:=zRW hm (zgg (zC a0 a1) a2 a3 a4);refine must rfl (must (zD hb.2.1) (must (zy hm) (shr (must e1 (shr ?_)))));rw[show zh=mZ from rfl,e2]
    have hbk:({ zI a0 with Mons:=up (zI a0).Mons a1 (zBn (ix (zI a0).Mons a1 mZ) (zgg (zC a0 a1) a2 a3 a4)) }:Host)=a0:=z8C hm;have key:=z1A (c:=a3) (v:=a4) (o:=fun H=>[.agg (zW H),.one (.b true)]) hs h0;refine must rfl ?_;rw[hbk];exact (show _=_ from key)
theorem zL3:uY 72 zAp:=hF5 zFz zi zbh zbu (zl []) zTD
def z7x:zY:=[(56,zAT),(72,zAp)]++z7w
theorem zVP:zJ z7x:=zf zMB (zf zL3 zFz)
@[simp] abbrev zpB (h:Host)(m g page need:Int):Bool:=pc (zbA h)
@[simp] abbrev zpA (h:Host)(m g page need:Int):Host:=(lookOf h h.IoBuffer m g page need true).1
@[simp] abbrev zjh (h:Host)(m g page need:Int):Int:=(lookOf h h.IoBuffer m g page need true).2.1
@[simp] abbrev zji (h:Host)(m g page need:Int):Bool:=(lookOf h h.IoBuffer m g page need true).2.2
def zAt:Run:=rF5 dH dI dI dI dI fun b c d e f=>(zpB b c d e f,[aH (zpA b c d e f),aI (zjh b c d e f),aB (zji b c d e f)])
def zEI (N:Nat)(a0:Host)(a1 a2:Int)(a3 a4:Int):OA:=
 (oN (zuE a0 a1 a2 a3 a4 true) (some [(aH (zuB a0 a1 a2 a3 a4 true)),(aI (zuC a0 a1 a2 a3 a4 true)),(aB (zuD a0 a1 a2 a3 a4 true))]))
theorem zTH (a0:Host)(a1 a2:Int)(a3 a4:Int)(hc:zpB a0 a1 a2 a3 a4=true):∃N,zEI N a0 a1 a2 a3 a4=some [aH (zpA a0 a1 a2 a3 a4),aI (zjh a0 a1 a2 a3 a4),aB (zji a0 a1 a2 a3 a4)]:=by
 refine ⟨0,?_⟩;unfold zEI oN;exact must hc rfl
theorem zL7:uY 183 zAt:=kF5 zVP zi zbh zbu (zl []) zTH
def z7y:zY:=[(183,zAt)]++z7x
theorem zsK:zJ z7y:=zf zL7 zVP
theorem zQT (h:Host)(b:List Entry)(m g page need:Int)(io:Bool):(lookOf h b m g page need io).2.2=zbK h m g page need:=by
 cases hl:zbK h m g page need
 .rw [zhp hl]
 .rw [zNk hl];unfold ziq zeX;generalize zkw b m g page need=x;cases x
  .generalize zez _ m g page need=y;cases y<;>rfl
  .rfl
theorem z4R {h:Host}{m g page need:Int}(b:List Entry)(io:Bool)(hs:SmH h)(hl:zbK h m g page need=true):SmM (lookOf h b m g page need io).1.Memory:=by
 have hg:zb0 h m g=true:=by
  unfold zbK at hl;cases h1:zb0 h m g
  .rw [h1]at hl;cases hl
  .rfl
 exact (zvj hs hg).shape.1.1
def zTs (h:Host)(m g a n:Int):Host×Int×Bool:=lookOf h h.IoBuffer m g (zbP a) n true
def zge (h:Host)(m g a v:Int):Bool:=bif win a 0 15 then (cond (win v 0 99) (zbK h m g (zbP a) 2) false) else false
def zkx (h:Host)(m g a v:Int):Host:=bif zge h m g a v then { (zTs h m g a 2).1 with Memory:=zem (zTs h m g a 2).1.Memory (zTs h m g a 2).2.1 (zfC a) v } else h
def zeB (h:Host)(m g a:Int):Bool:=bif win a 0 15 then zbK h m g (zbP a) 1 else false
def ziG (h:Host)(m g a:Int):Host:=bif zeB h m g a then (zTs h m g a 1).1 else h
def zoS (h:Host)(m g a:Int):Int:=bif zeB h m g a then cellAt (zTs h m g a 1).1.Memory (zTs h m g a 1).2.1 (zfC a) else 0
@[simp] abbrev zzc (h:Host)(m g a v:Int):Bool:=pc (zbA h)
@[simp] abbrev zsw (h:Host)(m g a v:Int):Host:=zkx h m g a v
@[simp] abbrev zsx (h:Host)(m g a v:Int):Bool:=zge h m g a v
@[simp] abbrev zwN (h:Host)(m g a:Int):Bool:=pc (zbA h)
@[simp] abbrev zqz (h:Host)(m g a:Int):Host:=ziG h m g a
@[simp] abbrev zqA (h:Host)(m g a:Int):Int:=zoS h m g a
@[simp] abbrev zqB (h:Host)(m g a:Int):Bool:=zeB h m g a
@[simp] abbrev zyV (h:Host)(m g a v:Int):Bool:=pc (zbA h)
@[simp] abbrev zr1 (h:Host)(m g a v:Int):Host:=zkx h m g a v
@[simp] abbrev zr2 (h:Host)(m g a v:Int):Bool:=zge h m g a v
@[simp] abbrev zv2 (h:Host)(m g a:Int):Bool:=pc (zbA h)
@[simp] abbrev zlu (h:Host)(m g a:Int):Host:=ziG h m g a
@[simp] abbrev zpw (h:Host)(m g a:Int):Int:=zoS h m g a
@[simp] abbrev zpx (h:Host)(m g a:Int):Bool:=zeB h m g a
def zDM:Run:=rF5 dH dI dI dI dI fun b c d e f=>(zzc b c d e f,[aH (zsw b c d e f),aB (zsx b c d e f)])
def zJ9 (N:Nat)(a0:Host)(a1 a2:Int)(a3 a4:Int):OA:=
 let y1:=(zx a0);let y2:=(zkV y1 y1.IoBuffer a1 a2 (zcp a3) 2 true);let y0:=(ze2 y1 y1.IoBuffer a1 a2 (zcp a3) 2 true); (oN (zbJ a0) (oN (zO a3 0 15) (cond (nB (zT a3 0 15)) (some [(aH y1),(aB false)]) (oN (zO a4 0 99) (cond (nB (zT a4 0 99)) (some [(aH y1),(aB false)]) (oN (zgq a3) (oN (zkW y1 y1.IoBuffer a1 a2 (zcp a3) 2 true) (cond (nB (zhc y1 y1.IoBuffer a1 a2 (zcp a3) 2 true)) (some [(aH y0),(aB false)]) (oN (zjt a3) (oN (zjx y0.Memory y2 (zee a3) a4) (some [(aH ({ y0 with Memory:=(zj5 y0.Memory y2 (zee a3) a4) }:Host)),(aB true)])))))))))))
theorem zXW (a0:Host)(a1 a2:Int)(a3 a4:Int)(hc:zzc a0 a1 a2 a3 a4=true):∃N,zJ9 N a0 a1 a2 a3 a4=some [aH (zsw a0 a1 a2 a3 a4),aB (zsx a0 a1 a2 a3 a4)]:=by
 have hs:=(zF a0).1 (zu.1 hc);refine ⟨0,?_⟩;unfold zJ9 zsw zsx zkx zge oN nB
 conv=>zeta
 refine must hc (must rfl ?_);rw[show zT a3 0 15=win a3 0 15 from rfl]
 cases h1:win a3 0 15
 .rfl
 .refine zbI rfl (must rfl ?_);rw[show zT a4 0 99=win a4 0 99 from rfl]
  cases h2:win a4 0 99
  .rfl
  .refine zbI rfl (must rfl (must hc ?_));rw[show zhc (zx a0) (zx a0).IoBuffer a1 a2 (zcp a3) 2 true=zbK a0 a1 a2 (zbP a3) 2 from zQT _ _ _ _ _ _ _]
   cases h3:zbK a0 a1 a2 (zbP a3) 2
   .rw [show ze2 (zx a0) (zx a0).IoBuffer a1 a2 (zcp a3) 2 true=a0 from congrArg Prod.fst (zhp h3)]
    rfl
   .exact zbI rfl (must rfl (must (zD (z4R a0.IoBuffer true hs h3)) rfl))
theorem zPR:uY 59 zDM:=kF5 zsK zi zbh zbu (zl []) zXW
def zDg:Run:=rF5 dH dI dI dI dI fun b c d e f=>(zyV b c d e f,[aH (zr1 b c d e f),aB (zr2 b c d e f)])
def zJA (N:Nat)(a0:Host)(a1 a2:Int)(a3 a4:Int):OA:=
 let y0:=(zpA a0 a1 a2 (zb1 a3) 2); (oN (zet a3) (oN (zpB a0 a1 a2 (zb1 a3) 2) (oN (zbl a3 0 15) (cond (nB (zbp a3 0 15)) (oN (zbb a0) (some [(aH (zI a0)),(aB false)])) (oN (zbl a4 0 99) (cond (nB (zbp a4 0 99)) (oN (zbb a0) (some [(aH (zI a0)),(aB false)])) (cond (nB (zji a0 a1 a2 (zb1 a3) 2)) (oN (zbb a0) (some [(aH (zI a0)),(aB false)])) (oN (zes a3) (oN (ze6 y0.Memory (zjh a0 a1 a2 (zb1 a3) 2) (zdL a3) a4) (some [(aH ({ y0 with Memory:=(zfX y0.Memory (zjh a0 a1 a2 (zb1 a3) 2) (zdL a3) a4) }:Host)),(aB true)]))))))))))
theorem zXm (a0:Host)(a1 a2:Int)(a3 a4:Int)(hc:zyV a0 a1 a2 a3 a4=true):∃N,zJA N a0 a1 a2 a3 a4=some [aH (zr1 a0 a1 a2 a3 a4),aB (zr2 a0 a1 a2 a3 a4)]:=by
 have hs:=(zF a0).1 (zu.1 hc);refine ⟨0,?_⟩;unfold zJA zr1 zr2 zkx zge oN nB
 conv=>zeta
 refine must rfl (must hc (must rfl ?_));rw[show zbp a3 0 15=win a3 0 15 from rfl]
 cases h1:win a3 0 15
 .exact must rfl (must hc rfl)
 .refine zbI rfl (must rfl ?_);rw[show zbp a4 0 99=win a4 0 99 from rfl]
  cases h2:win a4 0 99
  .exact must rfl (must hc rfl)
  .refine zbI rfl ?_;rw[show zji a0 a1 a2 (zb1 a3) 2=zbK a0 a1 a2 (zbP a3) 2 from zQT _ _ _ _ _ _ _]
   cases h3:zbK a0 a1 a2 (zbP a3) 2
   .exact must rfl (must hc rfl)
   .exact zbI rfl (must rfl (must (zD (z4R a0.IoBuffer true hs h3)) rfl))
theorem zPl:uY 75 zDg:=kF5 zsK zi zbh zbu (zl []) zXm
def zAV:Run:=rF4 dH dI dI dI fun b c d e=>(zwN b c d e,[aH (zqz b c d e),aI (zqA b c d e),aB (zqB b c d e)])
def zFe (N:Nat)(a0:Host)(a1 a2 a3:Int):OA:=
 let y1:=(zx a0);let y2:=(zkV y1 y1.IoBuffer a1 a2 (zcp a3) 1 true);let y0:=(ze2 y1 y1.IoBuffer a1 a2 (zcp a3) 1 true); (oN (zbJ a0) (oN (zO a3 0 15) (cond (nB (zT a3 0 15)) (some [(aH y1),(aI 0),(aB false)]) (oN (zgq a3) (oN (zkW y1 y1.IoBuffer a1 a2 (zcp a3) 1 true) (cond (nB (zhc y1 y1.IoBuffer a1 a2 (zcp a3) 1 true)) (some [(aH y0),(aI 0),(aB false)]) (oN (zjt a3) (oN (zuV y0.Memory y2 (zee a3)) (some [(aH y0),(aI (zoC y0.Memory y2 (zee a3))),(aB true)])))))))))
theorem zUh (a0:Host)(a1 a2 a3:Int)(hc:zwN a0 a1 a2 a3=true):∃N,zFe N a0 a1 a2 a3=some [aH (zqz a0 a1 a2 a3),aI (zqA a0 a1 a2 a3),aB (zqB a0 a1 a2 a3)]:=by
 have hs:=(zF a0).1 (zu.1 hc);refine ⟨0,?_⟩;unfold zFe zqz zqA zqB ziG zoS zeB oN nB
 conv=>zeta
 refine must hc (must rfl ?_);rw[show zT a3 0 15=win a3 0 15 from rfl]
 cases h1:win a3 0 15
 .rfl
 .refine zbI rfl (must rfl (must hc ?_));rw[show zhc (zx a0) (zx a0).IoBuffer a1 a2 (zcp a3) 1 true=zbK a0 a1 a2 (zbP a3) 1 from zQT _ _ _ _ _ _ _]
  cases h3:zbK a0 a1 a2 (zbP a3) 1
  .rw [show ze2 (zx a0) (zx a0).IoBuffer a1 a2 (zcp a3) 1 true=a0 from congrArg Prod.fst (zhp h3)]
   rfl
  .exact zbI rfl (must rfl (must rfl rfl))
theorem zMD:uY 60 zAV:=kF4 zsK zi zbh zbu (zl []) zUh
def zAr:Run:=rF4 dH dI dI dI fun b c d e=>(zv2 b c d e,[aH (zlu b c d e),aI (zpw b c d e),aB (zpx b c d e)])
def zEG (N:Nat)(a0:Host)(a1 a2 a3:Int):OA:=
 let y0:=(zpA a0 a1 a2 (zb1 a3) 1); (oN (zet a3) (oN (zpB a0 a1 a2 (zb1 a3) 1) (oN (zbl a3 0 15) (cond (nB (zbp a3 0 15)) (oN (zbb a0) (some [(aH (zI a0)),(aI 0),(aB false)])) (cond (nB (zji a0 a1 a2 (zb1 a3) 1)) (oN (zbb a0) (some [(aH (zI a0)),(aI 0),(aB false)])) (oN (zes a3) (oN (zmd y0.Memory (zjh a0 a1 a2 (zb1 a3) 1) (zdL a3)) (some [(aH y0),(aI (zlp y0.Memory (zjh a0 a1 a2 (zb1 a3) 1) (zdL a3))),(aB true)]))))))))
theorem zTF (a0:Host)(a1 a2 a3:Int)(hc:zv2 a0 a1 a2 a3=true):∃N,zEG N a0 a1 a2 a3=some [aH (zlu a0 a1 a2 a3),aI (zpw a0 a1 a2 a3),aB (zpx a0 a1 a2 a3)]:=by
 have hs:=(zF a0).1 (zu.1 hc);refine ⟨0,?_⟩;unfold zEG zlu zpw zpx ziG zoS zeB oN nB
 conv=>zeta
 refine must rfl (must hc (must rfl ?_));rw[show zbp a3 0 15=win a3 0 15 from rfl]
 cases h1:win a3 0 15
 .exact must rfl (must hc rfl)
 .refine zbI rfl ?_;rw[show zji a0 a1 a2 (zb1 a3) 1=zbK a0 a1 a2 (zbP a3) 1 from zQT _ _ _ _ _ _ _]
  cases h3:zbK a0 a1 a2 (zbP a3) 1
  .exact must rfl (must hc rfl)
  .exact zbI rfl (must rfl (must rfl rfl))
theorem zL5:uY 76 zAr:=kF4 zsK zi zbh zbu (zl []) zTF
def z7z:zY:=[(59,zDM),(75,zDg),(60,zAV),(76,zAr)]++z7y
theorem z7A:zJ z7z:=zf zPR (zf zPl (zf zMD (zf zL5 zsK)))
def z7B:zY:=[(99,zru),(139,zmD),(100,zrr),(140,zrn)]++z7z
theorem zFA:zJ z7B:=zf zvW (zf zvR (zf zvV (zf zvQ z7A)))
def zmk:Kept:=⟨rp 4 false,znJ⟩
@[simp] abbrev zzg (n:Int):Bool:=ieq n 4
@[simp] abbrev zyA (n:Int):Kept:=zmk
def zDQ:Run:=rF1 dI fun b=>(zzg b,[aT .kept (zyA b)])
def z2K (N:Nat)(a0:Int):OA:=
 let y0:=(ln (zgU a0)); (oN (zjw a0) (oN (cond (few y0) (ieq y0 y0) false) (some [(aT .kept (⟨(rp y0 false),(zgU a0)⟩:Kept))])))
theorem zX0 (a0:Int)(hc:zzg a0=true):∃N,z2K N a0=some [aT .kept (zyA a0)]:=by
 refine ⟨0,?_⟩;have h:a0=4:=qD hc;subst h
 change _=_
 kernel_rfl
theorem zPV:uY 101 zDQ:=kF1 zFA zi zbh zbu (zl []) zX0
@[simp] abbrev zyY (n:Int):Bool:=ieq n 4
@[simp] abbrev zxy (n:Int):Kept:=zmk
def zDj:Run:=rF1 dI fun b=>(zyY b,[aT .kept (zxy b)])
def z2J (N:Nat)(a0:Int):OA:=
 let y0:=(zoT a0 0 24); (oN (zrZ a0 0 24) (oN (cond (few y0) (ieq y0 y0) false) (oN (zjk a0) (some [(aT .kept (⟨(rp y0 false),(zgQ a0)⟩:Kept))]))))
theorem zXp (a0:Int)(hc:zyY a0=true):∃N,z2J N a0=some [aT .kept (zxy a0)]:=by
 refine ⟨0,?_⟩;have h:a0=4:=qD hc;subst h
 change _=_
 kernel_rfl
theorem zPo:uY 141 zDj:=kF1 zFA zi zbh zbu (zl []) zXp
def z7C:zY:=[(101,zDQ),(141,zDj)]++z7B
theorem zFB:zJ z7C:=zf zPV (zf zPo zFA)
def z1L:List Slot:=List.replicate 8 ⟨-1,0⟩
def zgI (ps:List (List Ins)):Mon:=⟨z1L,zUB,rp 8 false,(ps.take 2).map ze5,[],0,0,(ps.take 2).map (fun _=>zmk),0⟩
theorem zV9 {α β γ ρ:Type}(f:α->β)(g:α->γ)(K:List β×List γ->Option ρ):∀(l:List α) (i:Nat) (u:List β×List γ),u.1.length+l.length<=2147483648->u.2.length+l.length<=2147483648 ->
 goL (fun (_:Nat) x (u:List β×List γ) k=>bif few (ln (ap u.1 [f x])) then (cond (few (ln (ap u.2 [g x]))) (k (ap u.1 [f x],ap u.2 [g x])) none) else none) K l i u=K (u.1++l.map f,u.2++l.map g)
 | [],i,u,_,_=>by simp[goL]
 | x :: l,i,u,h1,h2=>by
  simp only[qT]at h1 h2;have e1:few (ln (ap u.1 [f x]))=true:=zdK (by simp[ap];omega)
  have e2:few (ln (ap u.2 [g x]))=true:=zdK (by simp[ap];omega)
  simp only[goL,e1,e2,cT];rw[zV9 f g K l (i+1) _ (by simp[ap];omega) (by simp[ap];omega)]
  simp[ap]
theorem zQX {α β γ ρ:Type}(m:Nat)(f:α->β)(g:α->γ)(K:List β×List γ->Option ρ):∀(l:List α) (i:Nat) (u:List β×List γ),u.1.length+l.length<=2147483648->u.2.length+l.length<=2147483648 ->
 goL (fun (i:Nat) x (u:List β×List γ) k=>bif ilt (i:Int) (m:Int) then (cond (few (ln (ap u.1 [f x]))) (cond (few (ln (ap u.2 [g x]))) (k (ap u.1 [f x],ap u.2 [g x])) none) none) else K u) K l i u=K (u.1++(l.take (m-i)).map f,u.2++(l.take (m-i)).map g)
 | [],i,u,_,_=>by simp[goL]
 | x :: l,i,u,h1,h2=>by
  simp only[qT]at h1 h2;have e1:few (ln (ap u.1 [f x]))=true:=zdK (by simp[ap];omega)
  have e2:few (ln (ap u.2 [g x]))=true:=zdK (by simp[ap];omega)
  by_cases h:i<m
  .have hi:ilt (i:Int) (m:Int)=true:=qL (by omega)
   simp only[goL,hi,e1,e2,cT];rw[zQX m f g K l (i+1) _ (by simp[ap];omega) (by simp[ap];omega)]
   rw[show m-i=m-(i+1)+1 by omega]
   simp[ap]
  .have hi:ilt (i:Int) (m:Int)=false:=qH (by omega)
   simp only[goL,hi,cF];rw[show m-i=0 by omega]
   simp
def z1t (u:List Guest×List Kept):OA:=some [AV.agg (Ty.cells .mon (⟨z1L,zUB,rp 8 false,u.1,[],0,0,u.2,0⟩:Mon))]
@[simp] abbrev zuW (ps:List (List Ins)):Bool:=pc (z9g ps)
@[simp] abbrev zNu (ps:List (List Ins)):Mon:=zgI ps
@[simp] abbrev zuw (ps:List (List Ins)):Bool:=pc (z9g ps)
@[simp] abbrev zMQ (ps:List (List Ins)):Mon:=zgI ps
def zHa:Run:=rF1 (dS (.sl .ins)) fun b=>(zuW b,[aT .mon (zNu b)])
def zOv (N:Nat)(a0:lP):OA:=
 (oN (zjw 8) (oN (zqD 8) (oN (cond (few 8) (ieq 8 8) false) (iter (σ:=(Int×(Int×(Int×(Int×(Int×(Int×(Int×(lP×(lS×(lM×(lB×(lG×((List Int)×(lK×(lS×(lM×(lB×(lG×((List Int)×(lK×Unit))))))))))))))))))))) N (fun r2 s3=>let y8:=s3.2.2.2.2.2.2.2.2.2.2.2.2.2.2.1;let y7:=s3.2.2.2.2.2.2.2.2.2.2.2.2.2.2.2.1;let y6:=s3.2.2.2.2.2.2.2.2.2.2.2.2.2.2.2.2.1;let y5:=s3.2.2.2.2.2.2.2.2.2.2.2.2.2.2.2.2.2.1;let y4:=s3.2.2.2.2.2.2.2.2.2.2.2.2.2.2.2.2.2.2.1;let y3:=s3.2.2.2.2.2.2.2.1;let y2:=s3.2.2.2.2.2.2.2.2.2.2.2.2.2.2.2.2.2.2.2.1;let y1:=(ap y5 [(zqp (ix y3 s3.1 []))]);let y0:=(aT .mon (⟨y8,y7,y6,y5,y4,s3.2.2.2.2.1,s3.2.2.2.2.2.1,y2,s3.2.2.2.2.2.2.1⟩:Mon)); (cond (ilt s3.1 (ln y3)) (cond (ilt s3.1 2) (oN (inb s3.1 (ln y3)) (oN (zqq (ix y3 s3.1 [])) (oN (few (ln y1)) (oN (zzg 4) (oN (few (ln (ap y2 [(zyA 4)]))) (r2 ((zB .i64 s3.1 1),(s3.2.1,(s3.2.2.1,(s3.2.2.2.1,(s3.2.2.2.2.1,(s3.2.2.2.2.2.1,(s3.2.2.2.2.2.2.1,(y3,(s3.2.2.2.2.2.2.2.2.1,(s3.2.2.2.2.2.2.2.2.2.1,(s3.2.2.2.2.2.2.2.2.2.2.1,(s3.2.2.2.2.2.2.2.2.2.2.2.1,(s3.2.2.2.2.2.2.2.2.2.2.2.2.1,(s3.2.2.2.2.2.2.2.2.2.2.2.2.2.1,(y8,(y7,(y6,(y1,(y4,((ap y2 [(zyA 4)]),())))))))))))))))))))))))))) (some [y0])) (some [y0]))) (0,(0,(0,(0,(0,(0,(0,(a0,([],([],([],([],([],([],((zgU 8),((zj3 8),((rp 8 false),([],([],([],()))))))))))))))))))))))))
def z2t:FuncId->Nat->Option Tmpl:=zl [(43,0,{ n:=36,tm:=[(0,.sl 0 []),(2,.lp 0 0),(3,.lp 1 0),(4,ti)],lo:=[(0,[.sl 1 [],.sl 2 [],.sl 3 [],.sl 4 [],.sl 5 [],ti,ti,.sl 6 [],ti]),(1,[.sl 7 [],.sl 8 [],.sl 9 [],.sl 10 [],.sl 11 [],ti,ti,.sl 12 [],ti])],ro:=[(0,(.sl .ins),false),(1,.slot,true),(2,(.sl .int),true),(3,.bool,true),(4,.guest,true),(5,.int,true),(6,.kept,true),(7,.slot,true),(8,(.sl .int),true),(9,.bool,true),(10,.guest,true),(11,.int,true),(12,.kept,true)] })]
theorem z02 (a0:List lI)(hc:zuW a0=true):∃N,zOv N a0=some [aT .mon (zNu a0)]:=by
 have hs:=zu.1 hc;have hl:=zb2 hs.1;refine zbo fun N hNN=>?_;unfold zOv oN
 conv=>zeta
 refine must rfl (must rfl (must rfl ?_));refine (zbc a0 (fun i (t:lG×lK)=>((i:Int),0,0,0,0,0,0,a0,[],[],[],[],[],[],(zgU 8),(zj3 8),(rp 8 false),t.1,[],t.2,())) _ (fun i (x:List Ins) (u:List Guest×List Kept) κ=>bif ilt (i:Int) ((2:Nat):Int) then (cond (few (ln (ap u.1 [ze5 x]))) (cond (few (ln (ap u.2 [zmk]))) (κ (ap u.1 [ze5 x],ap u.2 [zmk])) none) none) else z1t u) (fun (t:lG×lK)=>(some [(.agg (Ty.cells .mon (⟨(zgU 8),(zj3 8),(rp 8 false),t.1,[],0,0,t.2,0⟩:Mon)))])) (fun i hi t rec=>?_) (fun t rec=>?_) _ ([],[]) (hNN hl.1)).trans ?_
 .simp only [zU hi,zK hi,zS hi,zL hi hl.1,cT];have hx:zqq a0[i]=true:=zD (hs.2 _ (jE hi));simp only[hx,cT];rfl
 .simp only [zQ,cF]
 exact zQX 2 ze5 (fun _=>zmk) z1t a0 0 ([],[]) (by simpa using hl.2) (by simpa using hl.2)
theorem zS5:uY 43 zHa:=kF1 zFB zi zbh zbu z2t z02
def zGv:Run:=rF1 (dS (.sl .ins)) fun b=>(zuw b,[aT .mon (zMQ b)])
def zNQ (N:Nat)(a0:lP):OA:=
 let y8:=(zeY (ln a0) 2); (oN (zjk 8) (oN (zuv 8) (oN (cond (few 8) (ieq 8 8) false) (oN (inr 0 y8 (ln a0)) (iter (σ:=(Int×(Int×(Int×(Int×(Int×(Int×(Int×(Int×(lP×(lS×(lM×(lB×(lG×((List Int)×(lK×(lS×(lM×(lB×(lG×((List Int)×(lK×Unit)))))))))))))))))))))) N (fun r2 s3=>let y7:=s3.2.2.2.2.2.2.2.2.2.2.2.2.2.2.2.1;let y6:=s3.2.2.2.2.2.2.2.2.2.2.2.2.2.2.2.2.1;let y5:=s3.2.2.2.2.2.2.2.2.2.2.2.2.2.2.2.2.2.1;let y4:=s3.2.2.2.2.2.2.2.2.2.2.2.2.2.2.2.2.2.2.1;let y3:=s3.2.2.2.2.2.2.2.2.2.2.2.2.2.2.2.2.2.2.2.1;let y2:=s3.2.2.2.2.2.2.2.2.1;let y1:=s3.2.2.2.2.2.2.2.2.2.2.2.2.2.2.2.2.2.2.2.2.1;let y0:=(ap y4 [(zpq (ix y2 s3.2.1 []))]); (cond (ilt s3.2.1 s3.1) (oN (inb s3.2.1 (ln y2)) (oN (zpr (ix y2 s3.2.1 [])) (oN (few (ln y0)) (oN (zyY 4) (oN (few (ln (ap y1 [(zxy 4)]))) (r2 (s3.1,((zB .i64 s3.2.1 1),(s3.2.2.1,(s3.2.2.2.1,(s3.2.2.2.2.1,(s3.2.2.2.2.2.1,(s3.2.2.2.2.2.2.1,(s3.2.2.2.2.2.2.2.1,(y2,(s3.2.2.2.2.2.2.2.2.2.1,(s3.2.2.2.2.2.2.2.2.2.2.1,(s3.2.2.2.2.2.2.2.2.2.2.2.1,(s3.2.2.2.2.2.2.2.2.2.2.2.2.1,(s3.2.2.2.2.2.2.2.2.2.2.2.2.2.1,(s3.2.2.2.2.2.2.2.2.2.2.2.2.2.2.1,(y7,(y6,(y5,(y0,(y3,((ap y1 [(zxy 4)]),()))))))))))))))))))))))))))) (some [(aT .mon (⟨y7,y6,y5,y4,y3,s3.2.2.2.2.2.1,s3.2.2.2.2.2.2.1,y1,s3.2.2.2.2.2.2.2.1⟩:Mon))]))) ((ln (tk a0 y8)),(0,(0,(0,(0,(0,(0,(0,((tk a0 y8),([],([],([],([],([],([],((zgQ 8),((zlw 8),((rp 8 false),([],([],([],()))))))))))))))))))))))))))
def z2c:FuncId->Nat->Option Tmpl:=zl [(63,0,{ n:=35,tm:=[(2,.lp 0 0),(3,.lp 1 0),(14,.sl 0 []),(15,ti),(16,ti)],lo:=[(0,[.sl 1 [],.sl 2 [],.sl 3 [],.sl 4 [],.sl 5 [],ti,ti,.sl 6 [],ti]),(1,[.sl 7 [],.sl 8 [],.sl 9 [],.sl 10 [],.sl 11 [],ti,ti,.sl 12 [],ti])],ro:=[(0,(.sl .ins),false),(1,.slot,true),(2,(.sl .int),true),(3,.bool,true),(4,.guest,true),(5,.int,true),(6,.kept,true),(7,.slot,true),(8,(.sl .int),true),(9,.bool,true),(10,.guest,true),(11,.int,true),(12,.kept,true)] })]
theorem z0l (a0:List lI)(hc:zuw a0=true):∃N,zNQ N a0=some [aT .mon (zMQ a0)]:=by
 have hs:=zu.1 hc;have hl:=zb2 hs.1;have ht:=z15 a0 2;have e1:tk a0 (zeY (ln a0) 2)=a0.take 2:=ht.1;have h01:(tk a0 (zeY (ln a0) 2)).length<=1048576:=by rw[e1];exact jD (by simp;omega) hs.1
 have hlen:=(zb2 h01).1;refine zbo fun N hNN=>?_;unfold zNQ oN
 conv=>zeta
 refine must rfl (must rfl (must rfl (must ht.2 ?_)));refine (zbc (tk a0 (zeY (ln a0) 2)) (fun i (t:lG×lK)=>((ln (tk a0 (zeY (ln a0) 2))),(i:Int),0,0,0,0,0,0,(tk a0 (zeY (ln a0) 2)),[],[],[],[],[],[],(zgQ 8),(zlw 8),(rp 8 false),t.1,[],t.2,())) _ (fun _ (x:List Ins) (u:List Guest×List Kept) κ=>bif few (ln (ap u.1 [ze5 x])) then (cond (few (ln (ap u.2 [zmk]))) (κ (ap u.1 [ze5 x],ap u.2 [zmk])) none) else none) (fun (t:lG×lK)=>(some [(.agg (Ty.cells .mon (⟨(zgQ 8),(zlw 8),(rp 8 false),t.1,[],0,0,t.2,0⟩:Mon)))])) (fun i hi t rec=>?_) (fun t rec=>?_) _ ([],[]) (hNN hlen)).trans ?_
 .simp only [zU hi,zK hi,zS hi,zL hi hlen,cT];have hx:zpr (tk a0 (zeY (ln a0) 2))[i]=true:=zD (hs.2 _ (z9c (jE hi)));simp only[hx,cT];rfl
 .simp only [zQ,cF]
 refine (zV9 ze5 (fun _=>zmk) z1t _ 0 ([],[]) (by simp only[k6];omega) (by simp only[k6];omega)).trans ?_
 rw[e1];rfl
theorem zSq:uY 63 zGv:=kF1 zFB zi zbh zbu z2c z0l
def z7D:zY:=[(43,zHa),(63,zGv)]++z7C
theorem zFC:zJ z7D:=zf zS5 (zf zSq zFB)
def z6B:List (List Int):=List.replicate 12 [0,0,0,0]
def zfp (ps:List (List (List Ins))):Host:=⟨z6B,(ps.take 3).map zgI,[],[]⟩
def zxe (ps:List (List (List Ins))):Prop:=ps.length<=1048576/\∀p∈ps,z9g p
@[simp] abbrev zzd (ps:List (List (List Ins))):Bool:=pc (zxe ps)
@[simp] abbrev zg9 (ps:List (List (List Ins))):Host:=zfp ps
@[simp] abbrev zyW (ps:List (List (List Ins))):Bool:=pc (zxe ps)
@[simp] abbrev zg0 (ps:List (List (List Ins))):Host:=zfp ps
def zTn (t:List Mon):OA:=some [AV.agg (zW ⟨z6B,t,[],[]⟩)]
def zDN:Run:=rF1 (dS (.sl (.sl .ins))) fun b=>(zzd b,[aH (zg9 b)])
def zKa (N:Nat)(a0:lQ):OA:=
 (oN (zqD 12) (iter (σ:=(Int×(lQ×(lM×(lN×(lE×(lE×(lM×(lN×(lE×(lE×Unit))))))))))) N (fun r2 s3=>let y1:=(ap s3.2.2.2.2.2.2.2.1 [(zNu (ix s3.2.1 s3.1 []))]);let y0:=(aH (⟨s3.2.2.2.2.2.2.1,s3.2.2.2.2.2.2.2.1,s3.2.2.2.2.2.2.2.2.1,s3.2.2.2.2.2.2.2.2.2.1⟩:Host)); (cond (ilt s3.1 (ln s3.2.1)) (cond (ilt s3.1 3) (oN (inb s3.1 (ln s3.2.1)) (oN (zuW (ix s3.2.1 s3.1 [])) (oN (few (ln y1)) (r2 ((zB .i64 s3.1 1),(s3.2.1,(s3.2.2.1,(s3.2.2.2.1,(s3.2.2.2.2.1,(s3.2.2.2.2.2.1,(s3.2.2.2.2.2.2.1,(y1,(s3.2.2.2.2.2.2.2.2.1,(s3.2.2.2.2.2.2.2.2.2.1,())))))))))))))) (some [y0])) (some [y0]))) (0,(a0,([],([],([],([],((zj3 12),([],([],([],()))))))))))))
def zYD:FuncId->Nat->Option Tmpl:=zl [(21,0,{ n:=28,tm:=[(0,.sl 0 []),(2,.lp 0 0),(3,.lp 1 0),(4,ti)],lo:=[(0,[.sl 1 [],.sl 2 [],.sl 3 [],.sl 4 []]),(1,[.sl 5 [],.sl 6 [],.sl 7 [],.sl 8 []])],ro:=[(0,(.sl (.sl .ins)),false),(1,(.sl .int),true),(2,.mon,true),(3,.entry,true),(4,.entry,true),(5,(.sl .int),true),(6,.mon,true),(7,.entry,true),(8,.entry,true)] })]
theorem zXX (a0:List lP)(hc:zzd a0=true):∃N,zKa N a0=some [aH (zg9 a0)]:=by
 have hs:=zu.1 hc;have hl:=zb2 hs.1;refine zbo fun N hNN=>?_;unfold zKa oN
 conv=>zeta
 refine must rfl ?_;refine (zbc a0 (fun i (t:lN)=>((i:Int),a0,[],[],[],[],(zj3 12),t,[],[],())) _ (fun i (x:List lI) (t:List Mon) κ=>bif ilt (i:Int) ((3:Nat):Int) then (cond (few (ln (ap t [zgI x]))) (κ (ap t [zgI x])) none) else zTn t) (fun (t:lN)=>(some [(.agg (zW (⟨(zj3 12),t,[],[]⟩:Host)))])) (fun i hi t rec=>?_) (fun t rec=>?_) _ ([]) (hNN hl.1)).trans ?_
 .simp only [zU hi,zK hi,zS hi,zL hi hl.1,cT];have hx:zuW a0[i]=true:=zD (hs.2 _ (jE hi));simp only[hx,cT];rfl
 .simp only [zQ,cF]
 exact zWc 3 zgI zTn a0 0 [] (by simpa using hl.2)
theorem zPS:uY 21 zDN:=kF1 zFC zi zbh zbu zYD zXX
def zDh:Run:=rF1 (dS (.sl (.sl .ins))) fun b=>(zyW b,[aH (zg0 b)])
def zJB (N:Nat)(a0:lQ):OA:=
 let y1:=(zeY (ln a0) 3); (oN (zuv 12) (oN (inr 0 y1 (ln a0)) (iter (σ:=(Int×(Int×(lQ×(lM×(lN×(lE×(lE×(lM×(lN×(lE×(lE×Unit)))))))))))) N (fun r2 s3=>let y0:=(ap s3.2.2.2.2.2.2.2.2.1 [(zMQ (ix s3.2.2.1 s3.2.1 []))]); (cond (ilt s3.2.1 s3.1) (oN (inb s3.2.1 (ln s3.2.2.1)) (oN (zuw (ix s3.2.2.1 s3.2.1 [])) (oN (few (ln y0)) (r2 (s3.1,((zB .i64 s3.2.1 1),(s3.2.2.1,(s3.2.2.2.1,(s3.2.2.2.2.1,(s3.2.2.2.2.2.1,(s3.2.2.2.2.2.2.1,(s3.2.2.2.2.2.2.2.1,(y0,(s3.2.2.2.2.2.2.2.2.2.1,(s3.2.2.2.2.2.2.2.2.2.2.1,()))))))))))))))) (some [(aH (⟨s3.2.2.2.2.2.2.2.1,s3.2.2.2.2.2.2.2.2.1,s3.2.2.2.2.2.2.2.2.2.1,s3.2.2.2.2.2.2.2.2.2.2.1⟩:Host))]))) ((ln (tk a0 y1)),(0,((tk a0 y1),([],([],([],([],((zlw 12),([],([],([],()))))))))))))))
def zYr:FuncId->Nat->Option Tmpl:=zl [(25,0,{ n:=27,tm:=[(2,.lp 0 0),(3,.lp 1 0),(12,.sl 0 []),(13,ti),(14,ti)],lo:=[(0,[.sl 1 [],.sl 2 [],.sl 3 [],.sl 4 []]),(1,[.sl 5 [],.sl 6 [],.sl 7 [],.sl 8 []])],ro:=[(0,(.sl (.sl .ins)),false),(1,(.sl .int),true),(2,.mon,true),(3,.entry,true),(4,.entry,true),(5,(.sl .int),true),(6,.mon,true),(7,.entry,true),(8,.entry,true)] })]
theorem zXn (a0:List lP)(hc:zyW a0=true):∃N,zJB N a0=some [aH (zg0 a0)]:=by
 have hs:=zu.1 hc;have ht:=z15 a0 3;have e1:tk a0 (zeY (ln a0) 3)=a0.take 3:=ht.1;have h01:(tk a0 (zeY (ln a0) 3)).length<=1048576:=by rw[e1];exact jD (by simp;omega) hs.1
 have hlen:=(zb2 h01).1;refine zbo fun N hNN=>?_;unfold zJB oN
 conv=>zeta
 refine must rfl (must ht.2 ?_);refine (zbc (tk a0 (zeY (ln a0) 3)) (fun i (t:lN)=>((ln (tk a0 (zeY (ln a0) 3))),(i:Int),(tk a0 (zeY (ln a0) 3)),[],[],[],[],(zlw 12),t,[],[],())) _ (fun _ (x:List lI) (t:List Mon) κ=>bif few (ln (ap t [zgI x])) then κ (ap t [zgI x]) else none) (fun (t:lN)=>(some [(.agg (zW (⟨(zlw 12),t,[],[]⟩:Host)))])) (fun i hi t rec=>?_) (fun t rec=>?_) _ ([]) (hNN hlen)).trans ?_
 .simp only [zU hi,zK hi,zS hi,zL hi hlen,cT];have hx:zuw (tk a0 (zeY (ln a0) 3))[i]=true:=zD (hs.2 _ (z9c (jE hi)));simp only[hx,cT]
 .simp only [zQ,cF]
 refine (z1q zgI zTn _ 0 [] (by simp only[k6];omega)).trans ?_
 rw[e1];rfl
theorem zPm:uY 25 zDh:=kF1 zFC zi zbh zbu zYr zXn
def z7E:zY:=[(21,zDN),(25,zDh)]++z7D
theorem zFD:zJ z7E:=zf zPS (zf zPm zFC)
def zve:Nat->Nat->Kept->Kept
 | 0,_,k=>k
 | n+1,i,k=>zve n (i+1) (zc1 k (i:Int))
def zjP (k:Kept):Kept:=zve k.Known.length 0 k
theorem z6d (k:Kept)(p:Int):(zc1 k p).Known.length=k.Known.length:=by
 unfold zc1;cases zed k p
 .rfl
 .exact zdZ _ _ _
theorem zsE:∀(n i:Nat) (k:Kept),SmK k->SmK (zve n i k)
 | 0,_,_,h=>h
 | n+1,i,k,h=>zsE n (i+1) _ (zmX h)
@[simp] abbrev zt1 (k:Kept):Bool:=pc (SmK k)
@[simp] abbrev zy9 (k:Kept):Kept:=zjP k
@[simp] abbrev ztI (k:Kept):Bool:=pc (SmK k)
@[simp] abbrev zyS (k:Kept):Kept:=zjP k
theorem zKC {α ρ:Type}(K:List Bool×List Slot->Option ρ):∀(l:List α) (i:Nat) (k:Kept),SmK k ->
 goL (fun (i:Nat) _ (t:List Bool×List Slot) κ=>bif zgO ⟨t.1,t.2⟩ (i:Int) then κ ((zfH ⟨t.1,t.2⟩ (i:Int)).Known,(zfH ⟨t.1,t.2⟩ (i:Int)).Slots) else none) K l i (k.Known,k.Slots)=K ((zve l.length i k).Known,(zve l.length i k).Slots)
 | [],_,_,_=>rfl
 | x :: l,i,k,h=>by
  have hc:zgO ⟨k.Known,k.Slots⟩ (i:Int)=true:=zD h;simp only[goL,hc,cT];exact zKC K l (i+1) (zc1 k (i:Int)) (zmX h)
def zxQ:Run:=rF1 (dT .kept) fun b=>(ztI b,[aT .kept (zyS b)])
def zCK (N:Nat)(a0:Kept):OA:=
 (oN (ze7 a0) (iter (σ:=(Int×(Int×(lB×(lS×(lB×(lS×Unit))))))) N (fun r2 s3=>let y0:=(⟨s3.2.2.2.2.1,s3.2.2.2.2.2.1⟩:Kept); (cond (ilt s3.2.1 s3.1) (oN (zgO y0 s3.2.1) (r2 (s3.1,((zB .i64 s3.2.1 1),(s3.2.2.1,(s3.2.2.2.1,((zfH y0 s3.2.1).Known,((zfH y0 s3.2.1).Slots,())))))))) (some [(aT .kept y0)]))) ((ln a0.Known),(0,([],([],((zci a0).Known,((zci a0).Slots,()))))))))
def zRL:FuncId->Nat->Option Tmpl:=zl [(189,0,{ n:=18,tm:=[(2,.lp 0 0),(3,.lp 1 0),(9,ti),(10,ti)],lo:=[(0,[.sl 0 [],.sl 1 []]),(1,[.sl 2 [],.sl 3 []])],ro:=[(0,.bool,true),(1,.slot,true),(2,.bool,true),(3,.slot,true)] })]
theorem zQr (a0:Kept)(hc:ztI a0=true):∃N,zCK N a0=some [aT .kept (zyS a0)]:=by
 have hs:=zu.1 hc;have hl:=zb2 hs.1;refine zbo fun N hNN=>?_;unfold zCK oN
 conv=>zeta
 refine must (zD hs) ?_;refine (zbc a0.Known (fun i (t:lB×lS)=>((ln a0.Known),(i:Int),[],[],t.1,t.2,())) _ (fun i (x:Bool) (t:List Bool×List Slot) κ=>bif zgO ⟨t.1,t.2⟩ (i:Int) then κ ((zfH ⟨t.1,t.2⟩ (i:Int)).Known,(zfH ⟨t.1,t.2⟩ (i:Int)).Slots) else none) (fun (t:lB×lS)=>(some [(.agg (Ty.cells .kept (⟨t.1,t.2⟩:Kept)))])) (fun i hi t rec=>?_) (fun t rec=>?_) _ ((zci a0).Known,(zci a0).Slots) (hNN hl.1)).trans ?_
 .simp only [zU hi,zK hi,zS hi,zL hi hl.1,cT]
 .simp only [zQ,cF]
 exact zKC _ a0.Known 0 a0 hs
theorem zIt:uY 189 zxQ:=kF1 zFD zi zbh zbu zRL zQr
def zx6:Run:=rF1 (dT .kept) fun b=>(zt1 b,[aT .kept (zy9 b)])
def zC1 (N:Nat)(a0:Kept):OA:=
 (oN (zf5 a0) (iter (σ:=(Int×(lB×(lS×(lB×(lS×Unit)))))) N (fun r2 s3=>let y0:=(⟨s3.2.1,s3.2.2.1⟩:Kept); (cond (ilt s3.1 (ln s3.2.1)) (oN (zmJ y0 s3.1) (r2 ((zB .i64 s3.1 1),((zlR y0 s3.1).Known,((zlR y0 s3.1).Slots,(s3.2.2.2.1,(s3.2.2.2.2.1,()))))))) (some [(aT .kept y0)]))) (0,((zdf a0).Known,((zdf a0).Slots,([],([],())))))))
def zRU:FuncId->Nat->Option Tmpl:=zl [(205,0,{ n:=17,tm:=[(1,.lp 0 0),(2,.lp 1 0),(3,ti)],lo:=[(0,[.sl 0 [],.sl 1 []]),(1,[.sl 2 [],.sl 3 []])],ro:=[(0,.bool,true),(1,.slot,true),(2,.bool,true),(3,.slot,true)] })]
theorem zQP (a0:Kept)(hc:zt1 a0=true):∃N,zC1 N a0=some [aT .kept (zy9 a0)]:=by
 have hs:=zu.1 hc;have hl:=zb2 hs.1;refine zbo fun N hNN=>?_;unfold zC1 oN
 conv=>zeta
 refine must (zbe ((zzR _).2 hs)) ?_;refine (zre a0.Known.length (fun i (k:Kept)=>((i:Int),(k.Known,(k.Slots,([],([],())))))) _ (fun i k=>SmK k/\k.Known.length=a0.Known.length) (fun i k=>some [AV.agg (Ty.cells .kept (zve (a0.Known.length-i) i k))]) (fun i k rec hi hI hr=>?_) (fun k rec hI=>?_) N 0 a0 ⟨hs,rfl⟩ (jU _) (hNN hl.1)).trans rfl
 .refine must (zU (by rw[hI.2];exact hi)) (must (zD hI.1) ?_)
  have q:=hr (zc1 k (i:Int)) ⟨zmX hI.1,by rw[z6d];exact hI.2⟩
  rw[show a0.Known.length-i=a0.Known.length-(i+1)+1 by omega]
  rw[zL hi hl.1];exact q
 .refine zbI (by show ilt (a0.Known.length:Int) (ln k.Known)=false;rw[ln,hI.2];exact qH (by omega)) ?_
  rw[kM];rfl
theorem zIP:uY 205 zx6:=kF1 zFD zi zbh zbu zRU zQP
def z7F:zY:=[(205,zx6),(189,zxQ)]++z7E
theorem zVQ:zJ z7F:=zf zIP (zf zIt zFD)
def zYK:Nat->Nat->List Kept->List Kept
 | 0,_,l=>l
 | n+1,j,l=>zYK n (j+1) (up l (j:Int) (zjP (ix l (j:Int) kZ)))
def zBr (x:Mon)(n j:Nat):Mon:={ x with Tables:=zYK n j x.Tables }
def zvC:Nat->Nat->List Mon->List Mon
 | 0,_,t=>t
 | n+1,i,t=>zvC n (i+1) (up t (i:Int) (zBr (ix t (i:Int) mZ) (ix t (i:Int) mZ).Tables.length 0))
def cold (h:Host):Host:=⟨h.Memory,zvC h.Mons.length 0 h.Mons,[],[]⟩
theorem zRw:∀(n j:Nat) (l:List Kept),j+n<=l.length->zFo l->zFo (zYK n j l)
 | 0,_,_,_,h=>h
 | n+1,j,l,hn,h=>by
  have hj:j<l.length:=by omega
  refine zRw n (j+1) _ (by rw[zdZ];omega) (zvr h (zsE _ _ _ ?_))
  rw[zS hj];exact h.2 _ (jE hj)
theorem zCw {x:Mon}(h:zd6 x){n j:Nat}(hn:j+n<=x.Tables.length):zd6 (zBr x n j):=⟨h.1,h.2.1,h.2.2.1,h.2.2.2.1,h.2.2.2.2.1,zRw n j _ hn h.2.2.2.2.2⟩
@[simp] abbrev zNs (h:Host):Bool:=pc (zbA h)
@[simp] abbrev z1H (h:Host):Host:=cold h
def zRn:Run:=rF1 dH fun b=>(zNs b,[aH (z1H b)])
def zY6 (N:Nat)(a0:Host):OA:=
 (oN (zbJ a0) (iter (σ:=(Int×(lM×(lN×(lE×(lE×(lM×(lN×(lE×(lE×Unit)))))))))) N (fun r2 s3=>(cond (ilt s3.1 (ln s3.2.2.1)) (iter (σ:=(Int×(Int×(lM×(lN×(lE×(lE×(lM×(lN×(lE×(lE×Unit))))))))))) N (fun r4 s5=>let y1:=(inb s5.1 (ln s5.2.2.2.1));let y0:=(ix s5.2.2.2.1 s5.1 zh);let y2:=(ix y0.Tables s5.2.1 zcu); (oN y1 (cond (ilt s5.2.1 (ln y0.Tables)) (oN y1 (oN y1 (oN (inb s5.2.1 (ln y0.Tables)) (oN (zt1 y2) (oN (inb s5.2.1 (ln y0.Tables)) (share (up s5.2.2.2.1 s5.1 ({ y0 with Tables:=(up y0.Tables s5.2.1 (zy9 y2)) }:Mon)) (fun x6=>(r4 (s5.1,((zB .i64 s5.2.1 1),(s5.2.2.1,(x6,(s5.2.2.2.2.1,(s5.2.2.2.2.2.1,(s5.2.2.2.2.2.2.1,(s5.2.2.2.2.2.2.2.1,(s5.2.2.2.2.2.2.2.2.1,(s5.2.2.2.2.2.2.2.2.2.1,())))))))))))))))))) (r2 ((zB .i64 s5.1 1),(s5.2.2.1,(s5.2.2.2.1,(s5.2.2.2.2.1,(s5.2.2.2.2.2.1,(s5.2.2.2.2.2.2.1,(s5.2.2.2.2.2.2.2.1,(s5.2.2.2.2.2.2.2.2.1,(s5.2.2.2.2.2.2.2.2.2.1,()))))))))))))) (s3.1,(0,(s3.2.1,(s3.2.2.1,(s3.2.2.2.1,(s3.2.2.2.2.1,(s3.2.2.2.2.2.1,(s3.2.2.2.2.2.2.1,(s3.2.2.2.2.2.2.2.1,(s3.2.2.2.2.2.2.2.2.1,()))))))))))) (some [(aH (⟨s3.2.1,s3.2.2.1,[],[]⟩:Host))]))) (0,((zx a0).Memory,((zx a0).Mons,((zx a0).Buffer,((zx a0).IoBuffer,([],([],([],([],())))))))))))
def z7e:FuncId->Nat->Option Tmpl:=zl [(109,0,{ n:=48,tm:=[(1,.lp 0 0),(2,.lp 1 0),(3,ti)],lo:=[(0,[.sl 0 [],.sl 1 [],.sl 2 [],.sl 3 []]),(1,[.sl 4 [],.sl 5 [],.sl 6 [],.sl 7 []])],ro:=[(0,(.sl .int),true),(1,.mon,true),(2,.entry,true),(3,.entry,true),(4,(.sl .int),true),(5,.mon,true),(6,.entry,true),(7,.entry,true)] }),(109,2,{ n:=48,tm:=[(1,.lp 0 0),(2,.lp 1 0),(3,ti),(4,ti)],lo:=[(0,[.sl 0 [],.sl 1 [],.sl 2 [],.sl 3 []]),(1,[.sl 4 [],.sl 5 [],.sl 6 [],.sl 7 []])],ro:=[(0,(.sl .int),true),(1,.mon,true),(2,.entry,true),(3,.entry,true),(4,(.sl .int),true),(5,.mon,true),(6,.entry,true),(7,.entry,true)] })]
theorem z6w (a0:Host)(hc:zNs a0=true):∃N,zY6 N a0=some [aH (z1H a0)]:=by
 have hs:=(zF a0).1 (zu.1 hc);have hl:=zb2 hs.2.1.1;refine zbo fun N hNN=>?_;unfold zY6 oN
 conv=>zeta
 refine must hc ?_;refine (zre a0.Mons.length (fun i (t:List Mon)=>((i:Int),(a0.Memory,(t,(a0.Buffer,(a0.IoBuffer,([],([],([],([],())))))))))) _ (fun i t=>zpb t/\t.length=a0.Mons.length) (fun i t=>some [AV.agg (zW ⟨a0.Memory,zvC (a0.Mons.length-i) i t,[],[]⟩)]) (fun i t rec hi hI hr=>?_) (fun t rec hI=>?_) N 0 a0.Mons ⟨hs.2.1,rfl⟩ (jU _) (hNN hl.1)).trans rfl
 .have hit:i<t.length:=by rw[hI.2];exact hi
  have hx:zd6 (ix t (i:Int) mZ):=by rw[zS hit];exact hI.1.2 _ (jE hit)
  have hk:=zb2 hx.2.2.2.2.2.1;refine must (zU hit) ?_;refine (zre (ix t (i:Int) mZ).Tables.length (fun j (u:List Mon)=>((i:Int),((j:Int),(a0.Memory,(u,(a0.Buffer,(a0.IoBuffer,([],([],([],([],())))))))))))
   _ (fun j u=>u.length=t.length/\zd6 (ix u (i:Int) mZ)/\(ix u (i:Int) mZ).Tables.length=(ix t (i:Int) mZ).Tables.length)
   (fun j u=>rec (((i+1:Nat):Int),(a0.Memory,(up u (i:Int) (zBr (ix u (i:Int) mZ) ((ix t (i:Int) mZ).Tables.length-j) j),(a0.Buffer,(a0.IoBuffer,([],([],([],([],()))))))))))
   (fun j u rec1 hj hJ hr1=>?_) (fun u rec1 hJ=>?_) N 0 t ⟨rfl,hx,rfl⟩ (jU _) (hNN hk.1)).trans ?_
  .have hiu:i<u.length:=by rw[hJ.1];exact hit
   have hju:j<(ix u (i:Int) mZ).Tables.length:=by rw[hJ.2.2];exact hj
   have hkj:SmK (ix (ix u (i:Int) mZ).Tables (j:Int) kZ):=by rw[zS hju];exact hJ.2.1.2.2.2.2.2.2 _ (jE hju)
   refine must (zK hiu) (must (zU hju) (must (zK hiu) (must (zK hiu) (must (zK hju) (must (zD hkj) (must (zK hju) (shr ?_)))))));have hn:zd6 { ix u (i:Int) mZ with Tables:=up (ix u (i:Int) mZ).Tables (j:Int) (zjP (ix (ix u (i:Int) mZ).Tables (j:Int) kZ)) } :=
    ⟨hJ.2.1.1,hJ.2.1.2.1,hJ.2.1.2.2.1,hJ.2.1.2.2.2.1,hJ.2.1.2.2.2.2.1,zvr hJ.2.1.2.2.2.2.2 (zsE _ _ _ hkj)⟩
   have q:=hr1 (up u (i:Int) { ix u (i:Int) mZ with Tables:=up (ix u (i:Int) mZ).Tables (j:Int) (zjP (ix (ix u (i:Int) mZ).Tables (j:Int) kZ)) }) ⟨by rw[zdZ];exact hJ.1,by rw[zcT hiu];exact hn,by rw[zcT hiu];simp only[zdZ];exact hJ.2.2⟩
   rw[zL hj hk.1];refine q.trans ?_;rw[zcT hiu,zqP,show (ix t (i:Int) mZ).Tables.length-j=(ix t (i:Int) mZ).Tables.length-(j+1)+1 by omega]
   rfl
  .have hiu:i<u.length:=by rw[hJ.1];exact hit
   refine must (zK hiu) (zbI (by show ilt ((ix t (i:Int) mZ).Tables.length:Int) (ln (ix u (i:Int) mZ).Tables)=false;rw[ln,hJ.2.2];exact qH (by omega)) ?_)
   rw[zL hi hl.1,kM]
   show rec (_,(a0.Memory,(u,_)))=rec (_,(a0.Memory,(up u (i:Int) (ix u (i:Int) mZ),_)))
   rw[zIm hiu]
  .have q:=hr (up t (i:Int) (zBr (ix t (i:Int) mZ) (ix t (i:Int) mZ).Tables.length 0)) ⟨ziw hI.1 (zCw hx (by omega)),by rw[zdZ];exact hI.2⟩
   refine q.trans ?_;rw[show a0.Mons.length-i=a0.Mons.length-(i+1)+1 by omega]
   rfl
 .refine zbI (by show ilt (a0.Mons.length:Int) (ln t)=false;rw[ln,hI.2];exact qH (by omega)) ?_
  rw[kM];rfl
theorem zZZ:uY 109 zRn:=kF1 zVQ zi zbh zbu z7e z6w
def z7G:zY:=[(109,zRn)]++z7F
theorem zVR:zJ z7G:=zf zZZ zVQ
@[simp] abbrev zMO (h:Host):Bool:=pc (zbA h)
@[simp] abbrev zQf (h:Host):Host:=cold h
def zRk:Run:=rF1 dH fun b=>(zMO b,[aH (zQf b)])
def zY2 (N:Nat)(a0:Host):OA:=
 (oN (zbb a0) (iter (σ:=(Int×(Int×(lM×(lN×(lE×(lE×(lM×(lN×(lE×(lE×Unit))))))))))) N (fun r2 s3=>let y4:=s3.2.2.2.2.2.2.2.1; (cond (ilt s3.2.1 s3.1) (oN (inb s3.2.1 (ln y4)) (iter (σ:=(Int×(Int×(Int×(Int×(Int×(Int×(lN×(lM×(lN×(lE×(lE×(lM×(lE×(lE×Unit))))))))))))))) N (fun r4 s5=>let y6:=s5.2.2.2.2.2.2.2.2.2.2.2.2.1;let y5:=s5.2.2.2.2.2.2.2.2.2.2.2.2.2.1;let y1:=s5.2.2.2.2.2.1;let y0:=s5.2.2.2.2.2.2.1;let y3:=(ix y0 s5.1 zh);let y2:=(ix y0 s5.2.2.2.1 zh).Tables; (cond (ilt y1 s5.2.2.2.2.1) (oN (inb y1 (ln y2)) (oN (inb s5.1 (ln y0)) (oN (ztI (ix y2 y1 zcu)) (oN (inb y1 (ln y3.Tables)) (share (up y0 s5.1 ({ y3 with Tables:=(up y3.Tables y1 (zyS (ix y2 y1 zcu))) }:Mon)) (fun x6=>(r4 (s5.1,(s5.2.1,(s5.2.2.1,(s5.2.2.2.1,(s5.2.2.2.2.1,((zB .i64 y1 1),(x6,(s5.2.2.2.2.2.2.2.1,(s5.2.2.2.2.2.2.2.2.1,(s5.2.2.2.2.2.2.2.2.2.1,(s5.2.2.2.2.2.2.2.2.2.2.1,(s5.2.2.2.2.2.2.2.2.2.2.2.1,(y6,(y5,()))))))))))))))))))))) (r2 (s5.2.1,((zB .i64 s5.2.2.1 1),(s5.2.2.2.2.2.2.2.1,(s5.2.2.2.2.2.2.2.2.1,(s5.2.2.2.2.2.2.2.2.2.1,(s5.2.2.2.2.2.2.2.2.2.2.1,(s5.2.2.2.2.2.2.2.2.2.2.2.1,(y0,(y6,(y5,()))))))))))))) (s3.2.1,(s3.1,(s3.2.1,(s3.2.1,((ln (ix y4 s3.2.1 zh).Tables),(0,(y4,(s3.2.2.1,(s3.2.2.2.1,(s3.2.2.2.2.1,(s3.2.2.2.2.2.1,(s3.2.2.2.2.2.2.1,(s3.2.2.2.2.2.2.2.2.1,(s3.2.2.2.2.2.2.2.2.2.1,())))))))))))))))) (share [] (fun x4=>(share [] (fun x5=>(some [(aH (⟨s3.2.2.2.2.2.2.1,y4,x4,x5⟩:Host))]))))))) ((ln (zI a0).Mons),(0,([],([],([],([],((zI a0).Memory,((zI a0).Mons,((zI a0).Buffer,((zI a0).IoBuffer,()))))))))))))
def z7d:FuncId->Nat->Option Tmpl:=zl [(81,0,{ n:=42,tm:=[(2,.lp 0 0),(3,.lp 1 0),(11,ti),(12,ti)],lo:=[(0,[.sl 0 [],.sl 1 [],.sl 2 [],.sl 3 []]),(1,[.sl 4 [],.sl 5 [],.sl 6 [],.sl 7 []])],ro:=[(0,(.sl .int),true),(1,.mon,true),(2,.entry,true),(3,.entry,true),(4,(.sl .int),true),(5,.mon,true),(6,.entry,true),(7,.entry,true)] }),(81,2,{ n:=42,tm:=[(2,.lp 0 0),(3,.lp 1 0),(4,ti),(11,ti),(12,ti),(20,.sl 0 [7]),(21,ti),(22,ti)],lo:=[(0,[.sl 1 [],.sl 2 [],.sl 3 [],.sl 4 []]),(1,[.sl 5 [],.sl 0 [],.sl 6 [],.sl 7 []])],ro:=[(0,.mon,true),(1,(.sl .int),true),(2,.mon,true),(3,.entry,true),(4,.entry,true),(5,(.sl .int),true),(6,.entry,true),(7,.entry,true)] })]
theorem z6r (a0:Host)(hc:zMO a0=true):∃N,zY2 N a0=some [aH (zQf a0)]:=by
 have hs:=(zF a0).1 (zu.1 hc);have hl:=zb2 hs.2.1.1;refine zbo fun N hNN=>?_;unfold zY2 oN
 conv=>zeta
 refine must hc ?_;refine (zre a0.Mons.length (fun i (t:List Mon)=>(ln a0.Mons,((i:Int),([],([],([],([],(a0.Memory,(t,(a0.Buffer,(a0.IoBuffer,()))))))))))) _ (fun i t=>zpb t/\t.length=a0.Mons.length) (fun i t=>some [AV.agg (zW ⟨a0.Memory,zvC (a0.Mons.length-i) i t,[],[]⟩)]) (fun i t rec hi hI hr=>?_) (fun t rec hI=>?_) N 0 a0.Mons ⟨hs.2.1,rfl⟩ (jU _) (hNN hl.1)).trans rfl
 .have hit:i<t.length:=by rw[hI.2];exact hi
  have hx:zd6 (ix t (i:Int) mZ):=by rw[zS hit];exact hI.1.2 _ (jE hit)
  have hk:=zb2 hx.2.2.2.2.2.1;refine must (zU hi) (must (zK hit) ?_);refine (zre (ix t (i:Int) mZ).Tables.length (fun j (u:List Mon)=>((i:Int),(ln a0.Mons,((i:Int),((i:Int),(ln (ix t (i:Int) mZ).Tables,((j:Int),(u,([],([],([],([],(a0.Memory,(a0.Buffer,(a0.IoBuffer,())))))))))))))))
   _ (fun j u=>u.length=t.length/\zd6 (ix u (i:Int) mZ)/\(ix u (i:Int) mZ).Tables.length=(ix t (i:Int) mZ).Tables.length)
   (fun j u=>rec (ln a0.Mons,(((i+1:Nat):Int),([],([],([],([],(a0.Memory,(up u (i:Int) (zBr (ix u (i:Int) mZ) ((ix t (i:Int) mZ).Tables.length-j) j),(a0.Buffer,(a0.IoBuffer,())))))))))))
   (fun j u rec1 hj hJ hr1=>?_) (fun u rec1 hJ=>?_) N 0 t ⟨rfl,hx,rfl⟩ (jU _) (hNN hk.1)).trans ?_
  .have hiu:i<u.length:=by rw[hJ.1];exact hit
   have hju:j<(ix u (i:Int) mZ).Tables.length:=by rw[hJ.2.2];exact hj
   have hkj:SmK (ix (ix u (i:Int) mZ).Tables (j:Int) kZ):=by rw[zS hju];exact hJ.2.1.2.2.2.2.2.2 _ (jE hju)
   refine must (zU hj) (must (zK hju) (must (zK hiu) (must (zD hkj) (must (zK hju) (shr ?_)))));have hn:zd6 { ix u (i:Int) mZ with Tables:=up (ix u (i:Int) mZ).Tables (j:Int) (zjP (ix (ix u (i:Int) mZ).Tables (j:Int) kZ)) } :=
    ⟨hJ.2.1.1,hJ.2.1.2.1,hJ.2.1.2.2.1,hJ.2.1.2.2.2.1,hJ.2.1.2.2.2.2.1,zvr hJ.2.1.2.2.2.2.2 (zsE _ _ _ hkj)⟩
   have q:=hr1 (up u (i:Int) { ix u (i:Int) mZ with Tables:=up (ix u (i:Int) mZ).Tables (j:Int) (zjP (ix (ix u (i:Int) mZ).Tables (j:Int) kZ)) }) ⟨by rw[zdZ];exact hJ.1,by rw[zcT hiu];exact hn,by rw[zcT hiu];simp only[zdZ];exact hJ.2.2⟩
   rw[zL hj hk.1];refine q.trans ?_;rw[zcT hiu,zqP,show (ix t (i:Int) mZ).Tables.length-j=(ix t (i:Int) mZ).Tables.length-(j+1)+1 by omega]
   rfl
  .have hiu:i<u.length:=by rw[hJ.1];exact hit
   refine zbI (by show ilt ((ix t (i:Int) mZ).Tables.length:Int) (ln (ix t (i:Int) mZ).Tables)=false;exact qH (by simp only[ln];omega)) ?_
   rw[zL hi hl.1,kM]
   show rec _=rec (ln a0.Mons,(_,([],([],([],([],(a0.Memory,(up u (i:Int) (ix u (i:Int) mZ),_))))))))
   rw[zIm hiu]
  .have q:=hr (up t (i:Int) (zBr (ix t (i:Int) mZ) (ix t (i:Int) mZ).Tables.length 0)) ⟨ziw hI.1 (zCw hx (by omega)),by rw[zdZ];exact hI.2⟩
   refine q.trans ?_;rw[show a0.Mons.length-i=a0.Mons.length-(i+1)+1 by omega]
   rfl
 .refine zbI (by show ilt (a0.Mons.length:Int) (ln a0.Mons)=false;exact qH (by simp only[ln];omega)) ?_
  rw[kM];rfl
theorem zZU:uY 81 zRk:=kF1 zVR zi zbh zbu z7d z6r
def z7H:zY:=[(81,zRk)]++z7G
theorem zVS:zJ z7H:=zf zZU zVR
theorem zEe:∀(n i:Nat) (t:List Mon),i+n<=t.length->zpb t->zpb (zvC n i t)
 | 0,_,_,_,h=>h
 | n+1,i,t,hn,h=>by
  have hi:i<t.length:=by omega
  refine zEe n (i+1) _ (by rw[zdZ];omega) (ziw h (zCw ?_ (by omega)))
  rw[zS hi];exact h.2 _ (jE hi)
theorem z1P {h:Host}(hs:SmH h):SmH (cold h):=⟨hs.1,zEe _ _ _ (by omega) hs.2.1,by simp[cold],by simp[cold]⟩
theorem zoJ {h:Host}{m:Int}{b:Bare}(hs:SmH h)(hb:zbL h m=true->SmB b):SmH (zcy h m b):=by
 unfold zcy;cases h0:zbL h m
 .exact hs
 .exact zCu hs (zbd.1 h0).2 (hb h0).2.1
theorem zWu {h:Host}{m g p:Int}(hs:SmH h):SmH (zgf h m g p):=by
 unfold zgf;cases h0:zbL h m
 .exact hs
 .cases hk:zbN (zC h m) g (hasB p 4)
  .exact hs
  .have hm:=(zbd.1 h0).2;have hv:=zc9 hs hm;have hb:SmB (chg (zC h m) g (hasB p 4) (zgH (gAt (zC h m) g) p)):=zmW hv (zqO _ (zey _ hv));have h1:=zCu hs hm hb.2.1;have h2:=zLC (chg (zC h m) g (hasB p 4) (zgH (gAt (zC h m) g) p)) hm;have h3:=zFH hs h0 (chg (zC h m) g (hasB p 4) (zgH (gAt (zC h m) g) p)) hk;have hx:=h1.2.1.2 _ (zbw h2 mZ);simp only[cT];exact ⟨h1.1,ziw h1.2.1 ⟨hx.1,hx.2.1,hx.2.2.1,hx.2.2.2.1,hx.2.2.2.2.1,zvr hx.2.2.2.2.2 (zmX (hx.2.2.2.2.2.2 _ (zbw h3 _)))⟩,jD (zBE _ _ _) h1.2.2.1,jD (zBE _ _ _) h1.2.2.2⟩
theorem zbaB {h:Host}{m p c v:Int}(hs:SmH h):SmH (ziF h m p c v):=by
 unfold ziF;cases hf:zcW h m p c v
 .exact hs
 .have h0:zbB h m p=true:=by
   unfold zcW at hf;cases hp:zbB h m p
   .rw [hp]at hf;cases hf
   .rfl
  obtain ⟨hh,hm,hp⟩:=zd3.1 h0;have h1:=(zqN (n:=2) (zdz hs hh) hm hp).1.1;exact ⟨zwU h1.1,h1.2⟩
theorem z1m {h:Host}{m g page need:Int}(b:List Entry)(io:Bool)(hs:SmH h)(hl:zbK h m g page need=true):SmH (lookOf h b m g page need io).1:=by
 have hg:zb0 h m g=true:=by
  unfold zbK at hl;cases h1:zb0 h m g
  .rw [h1]at hl;cases hl
  .rfl
 exact (zvj hs hg).shape.1
theorem zbdl {h:Host}{m g a v:Int}(hs:SmH h):SmH (zkx h m g a v):=by
 unfold zkx;cases hf:zge h m g a v
 .exact hs
 .have hl:zbK h m g (zbP a) 2=true:=by
   unfold zge at hf;cases h1:win a 0 15
   .rw [h1]at hf;cases hf
   .cases h2:win v 0 99
    .rw [h1,h2]at hf;cases hf
    .rw [h1,h2]at hf;exact hf
  have h1:=z1m h.IoBuffer true hs hl;exact ⟨zwU h1.1,h1.2⟩
theorem zbaC {h:Host}{m g a:Int}(hs:SmH h):SmH (ziG h m g a):=by
 unfold ziG;cases hf:zeB h m g a
 .exact hs
 .have hl:zbK h m g (zbP a) 1=true:=by
   unfold zeB at hf;cases h1:win a 0 15
   .rw [h1]at hf;cases hf
   .rw [h1]at hf;exact hf
  exact z1m h.IoBuffer true hs hl
theorem zbdm {h:Host}{m p:Int}(hs:SmH h):SmH (zkM h m p):=by
 unfold zkM;cases h0:zbB h m p
 .exact hs
 .obtain ⟨hh,hm,hp⟩:=zd3.1 h0;cases zhP h m p
  .exact (zCr (zdz hs hh).1 hm).1
  .exact hs
theorem zbeo {h:Host}{m p:Int}(hs:SmH h):SmH (zny h m p):=by
 unfold zny;cases h0:zbB h m p
 .exact hs
 .obtain ⟨hh,hm,hp⟩:=zd3.1 h0;cases zhP h m p
  .exact hs
  .exact (zia (zdz hs hh) hm hp).1.1
theorem z8Y {h:Host}{m t:Int}(hs:SmH h):SmH (ziU h m t):=by
 unfold ziU;cases zbF h
 .exact hs
 .cases hm:hasB m (ln h.Mons)
  .exact hs
  .cases win t 0 3
   .exact hs
   .have hx:zd6 (ix h.Mons m mZ):=hs.2.1.2 _ (zbw hm mZ);exact ⟨hs.1,ziw hs.2.1 ⟨hx.1,hx.2.1,hx.2.2.1,hx.2.2.2.1,hx.2.2.2.2.1,hx.2.2.2.2.2⟩,hs.2.2⟩
def zfA (h:Host)(a:GAct):Host:=bif ieq a.Kind 1 then (zbm h a.M a.G).1 else (cond (ieq a.Kind 2) (z3O h a.M a.G a.X ⟨a.Y,a.Z⟩) (cond (ieq a.Kind 3) (zgf h a.M a.G a.X) (cond (ieq a.Kind 4) (zUs h a.M a.G a.X) (cond (ieq a.Kind 5) (zUw h a.M a.G) (cond (ieq a.Kind 6) (zUu h a.M a.G a.X) (cond (ieq a.Kind 7) (z3M h a.M a.G ⟨a.X,a.Y,ieq a.Z 1⟩) (cond (ieq a.Kind 8) (ziF h a.M a.X a.Y a.Z) (cond (ieq a.Kind 9) (z1o h a.M a.X) (cond (ieq a.Kind 10) (z3J h a.M) (cond (ieq a.Kind 11) (zkx h a.M a.G a.X a.Y) (ziG h a.M a.G a.X)))))))))))
def zhE (h:Host)(a:GAct):Told:=bif ieq a.Kind 1 then ⟨(zbm h a.M a.G).2,0⟩ else (cond (ieq a.Kind 2) ⟨z3P h a.M a.G a.X ⟨a.Y,a.Z⟩,0⟩ (cond (ieq a.Kind 3) ⟨zYk h a.M a.G a.X,0⟩ (cond (ieq a.Kind 4) ⟨zUt h a.M a.G a.X,0⟩ (cond (ieq a.Kind 5) ⟨zUx h a.M a.G,0⟩ (cond (ieq a.Kind 6) ⟨zUv h a.M a.G a.X,0⟩ (cond (ieq a.Kind 7) ⟨z3N h a.M a.G ⟨a.X,a.Y,ieq a.Z 1⟩,0⟩ (cond (ieq a.Kind 8) ⟨zcW h a.M a.X a.Y a.Z,0⟩ (cond (ieq a.Kind 9) ⟨z1p h a.M a.X,0⟩ (cond (ieq a.Kind 10) ⟨z3L h a.M,z3K h a.M⟩ (cond (ieq a.Kind 11) ⟨zge h a.M a.G a.X a.Y,0⟩ (⟨zeB h a.M a.G a.X,zoS h a.M a.G a.X⟩)))))))))))
def zkp (h:Host)(a:GAct):Host:=bif ieq a.Kind 13 then zkM h a.M a.X else (cond (ieq a.Kind 14) (zny h a.M a.X) (cond (ieq a.Kind 15) (znd h a.M a.X) (cond (ieq a.Kind 16) (ziU h a.M a.X) (cold h))))
def zp6 (h:Host)(a:GAct):Told:=bif ieq a.Kind 13 then ⟨zo1 h a.M a.X,0⟩ else (cond (ieq a.Kind 14) ⟨zrj h a.M a.X,0⟩ (cond (ieq a.Kind 15) ⟨zbB h a.M a.X,0⟩ (cond (ieq a.Kind 16) ⟨zmV h a.M a.X,0⟩ (⟨true,0⟩))))
def zbE (h:Host)(a:GAct):Host:=bif win a.Kind 1 17 then (cond (win a.Kind 13 17) (zkp h a) (zfA h a)) else h
def zbZ (h:Host)(a:GAct):Told:=bif win a.Kind 1 17 then (cond (win a.Kind 13 17) (zp6 h a) (zhE h a)) else ⟨false,0⟩
theorem z8X {h:Host}{a:GAct}(hs:SmH h):SmH (zkp h a):=by
 unfold zkp;cases ieq a.Kind 13
 .cases ieq a.Kind 14
  .cases ieq a.Kind 15
   .cases ieq a.Kind 16
    .exact z1P hs
    .exact z8Y hs
   .exact z8V hs
  .exact zbeo hs
 .exact zbdm hs
theorem z8W {h:Host}{a:GAct}(hs:SmH h):SmH (zfA h a):=by
 have hv:zbL h a.M=true->SmB (zC h a.M):=fun h0=>zc9 hs (zbd.1 h0).2;unfold zfA;cases ieq a.Kind 1
 .cases ieq a.Kind 2
  .cases ieq a.Kind 3
   .cases ieq a.Kind 4
    .cases ieq a.Kind 5
     .cases ieq a.Kind 6
      .cases ieq a.Kind 7
       .cases ieq a.Kind 8
        .cases ieq a.Kind 9
         .cases ieq a.Kind 10
          .cases ieq a.Kind 11
           .exact zbaC hs
           .exact zbdl hs
          .exact zoJ hs (fun h0=>zIf (hv h0))
         .exact zoJ hs (fun h0=>zCt _ (hv h0))
        .exact zbaB hs
       .exact zoJ hs (fun h0=>zIg _ _ (hv h0))
      .exact zoJ hs (fun h0=>zu6 _ _ (hv h0))
     .exact zoJ hs (fun h0=>zu7 _ (hv h0))
    .exact zoJ hs (fun h0=>zu5 _ _ (hv h0))
   .exact zWu hs
  .exact zoJ hs (fun h0=>zIh _ _ _ (hv h0))
 .exact (z8Q a.M a.G hs).sm
theorem zUQ {h:Host}{a:GAct}(hs:SmH h):SmH (zbE h a):=by
 unfold zbE;cases win a.Kind 1 17
 .exact hs
 .cases win a.Kind 13 17
  .exact z8W hs
  .exact z8X hs
@[simp] abbrev zwS (h:Host)(a:GAct):Bool:=pc (zbA h)
@[simp] abbrev zlV (h:Host)(a:GAct):Host:=zkp h a
@[simp] abbrev zjz (h:Host)(a:GAct):Told:=zp6 h a
def zA4:Run:=rF2 dH (dT .act) fun b c=>(zwS b c,[aH (zlV b c),aT .told (zjz b c)])
def zFn (N:Nat)(a0:Host)(a1:GAct):OA:=
 (cond (ieq a1.Kind 13) (oN (zzi a0 a1.M a1.X) (some [(aH (zsB a0 a1.M a1.X)),(.agg [(.b (zsC a0 a1.M a1.X)),(.i .i64 0)])])) (cond (ieq a1.Kind 14) (oN (zCl a0 a1.M a1.X) (some [(aH (zuY a0 a1.M a1.X)),(.agg [(.b (zuZ a0 a1.M a1.X)),(.i .i64 0)])])) (cond (ieq a1.Kind 15) (oN (zHu a0 a1.M a1.X) (some [(aH (zya a0 a1.M a1.X)),(.agg [(.b (zyb a0 a1.M a1.X)),(.i .i64 0)])])) (cond (ieq a1.Kind 16) (oN (zwQ a0 a1.M a1.X) (some [(aH (zqG a0 a1.M a1.X)),(.agg [(.b (zqH a0 a1.M a1.X)),(.i .i64 0)])])) (oN (zNs a0) (some [(aH (z1H a0)),(.agg [(.b true),(.i .i64 0)])]))))))
theorem zUr (a0:Host)(a1:GAct)(hc:zwS a0 a1=true):∃N,zFn N a0 a1=some [aH (zlV a0 a1),aT .told (zjz a0 a1)]:=by
 have hs:=zu.1 hc;refine ⟨0,?_⟩;unfold zFn oN;refine br (fun _=>mu ?_) (fun _=>br (fun _=>mu ?_) (fun _=>br (fun _=>mu ?_) (fun _=>br (fun _=>mu ?_) (fun _=>mu ?_))))
 all_goals first|rfl|(simp only [*,zlV,zjz,zkp,zp6,cT,cF]<;>rfl)|simp_all[Ty.cells,zlV,zjz,zkp,zp6]
theorem zMN:uY 47 zA4:=kF2 zVS zi zbh zbu (zl []) zUr
def z7I:zY:=[(47,zA4),(44,zK7),(46,zDP),(55,zK8),(71,zKP)]++z7H
theorem zFE:zJ z7I:=zf zMN (zf zWU (zf zPU (zf zWV (zf zWC zVS))))
@[simp] abbrev zst (h:Host)(a:GAct):Bool:=pc (zbA h)
@[simp] abbrev znD (h:Host)(a:GAct):Host:=zbE h a
@[simp] abbrev znE (h:Host)(a:GAct):Told:=zbZ h a
def zDK:Run:=rF2 dH (dT .act) fun b c=>(zst b c,[aH (znD b c),aT .told (znE b c)])
def zJ7 (N:Nat)(a0:Host)(a1:GAct):OA:=
 let y0:=(⟨a1.Y,a1.Z⟩:Slot); (oN (zHs a1) (cond (nB (zA5 a1)) (oN (zbJ a0) (some [(aH (zx a0)),(.agg [(.b false),(.i .i64 0)])])) (oN (zzf a1.Kind) (cond (ztj a1.Kind) (oN (zwS a0 a1) (some [(aH (zlV a0 a1)),(.agg [(.b (zjz a0 a1).Ok),(.i .i64 (zjz a0 a1).N)])])) (cond (ieq a1.Kind 1) (oN (zev a0 a1.M a1.G) (some [(aH (zHv a0 a1.M a1.G)),(.agg [(.b (zHw a0 a1.M a1.G)),(.i .i64 0)])])) (cond (ieq a1.Kind 2) (oN (zze a0 a1.M a1.G a1.X y0) (some [(aH (zsy a0 a1.M a1.G a1.X y0)),(.agg [(.b (zsz a0 a1.M a1.G a1.X y0)),(.i .i64 0)])])) (cond (ieq a1.Kind 3) (oN (zt2 a0 a1.M a1.G a1.X) (some [(aH (zn5 a0 a1.M a1.G a1.X)),(.agg [(.b (zn6 a0 a1.M a1.G a1.X)),(.i .i64 0)])])) (cond (ieq a1.Kind 4) (oN (zrA a0 a1.M a1.G a1.X) (some [(aH (zmL a0 a1.M a1.G a1.X)),(.agg [(.b (zmM a0 a1.M a1.G a1.X)),(.i .i64 0)])])) (cond (ieq a1.Kind 5) (oN (zrC a0 a1.M a1.G) (some [(aH (zmP a0 a1.M a1.G)),(.agg [(.b (zmQ a0 a1.M a1.G)),(.i .i64 0)])])) (cond (ieq a1.Kind 6) (oN (zrB a0 a1.M a1.G a1.X) (some [(aH (zmN a0 a1.M a1.G a1.X)),(.agg [(.b (zmO a0 a1.M a1.G a1.X)),(.i .i64 0)])])) (cond (ieq a1.Kind 7) (oN (zHt a1) (oN (zzb a0 a1.M a1.G (zry a1)) (some [(aH (zsu a0 a1.M a1.G (zry a1))),(.agg [(.b (zsv a0 a1.M a1.G (zry a1))),(.i .i64 0)])]))) (cond (ieq a1.Kind 8) (oN (zwL a0 a1.M a1.X a1.Y a1.Z) (some [(aH (zqv a0 a1.M a1.X a1.Y a1.Z)),(.agg [(.b (zqw a0 a1.M a1.X a1.Y a1.Z)),(.i .i64 0)])])) (cond (ieq a1.Kind 9) (oN (zwM a0 a1.M a1.X) (some [(aH (zqx a0 a1.M a1.X)),(.agg [(.b (zqy a0 a1.M a1.X)),(.i .i64 0)])])) (cond (ieq a1.Kind 10) (oN (zza a0 a1.M) (some [(aH (zsq a0 a1.M)),(.agg [(.b (zss a0 a1.M)),(.i .i64 (zsr a0 a1.M))])])) (cond (ieq a1.Kind 11) (oN (zzc a0 a1.M a1.G a1.X a1.Y) (some [(aH (zsw a0 a1.M a1.G a1.X a1.Y)),(.agg [(.b (zsx a0 a1.M a1.G a1.X a1.Y)),(.i .i64 0)])])) (oN (zwN a0 a1.M a1.G a1.X) (some [(aH (zqz a0 a1.M a1.G a1.X)),(.agg [(.b (zqB a0 a1.M a1.G a1.X)),(.i .i64 (zqA a0 a1.M a1.G a1.X))])])))))))))))))))))
theorem zXU (a0:Host)(a1:GAct)(hc:zst a0 a1=true):∃N,zJ7 N a0 a1=some [aH (znD a0 a1),aT .told (znE a0 a1)]:=by
 have hs:=zu.1 hc;refine ⟨0,?_⟩;unfold zJ7 oN nB
 conv=>zeta
 refine must rfl (brN (fun _=>mu ?_) (fun _=>must rfl (br (fun _=>mu ?_) (fun _=>br (fun _=>mu ?_) (fun _=>br (fun _=>mu ?_) (fun _=>br (fun _=>mu ?_) (fun _=>br (fun _=>mu ?_) (fun _=>br (fun _=>mu ?_) (fun _=>br (fun _=>mu ?_) (fun _=>br (fun _=>must rfl (mu ?_)) (fun _=>br (fun _=>mu ?_) (fun _=>br (fun _=>mu ?_) (fun _=>br (fun _=>mu ?_) (fun _=>br (fun _=>mu ?_) (fun _=>mu ?_)))))))))))))))
 all_goals first|rfl|(simp only [*,znD,znE,zbE,zbZ,zfA,zhE,cT,cF]<;>rfl)|simp_all[Ty.cells,znD,znE,zbE,zbZ,zfA,zhE]
theorem zPP:uY 22 zDK:=kF2 zFE zi zbh zbu (zl []) zXU
theorem zbeD {h:Host}{a:GAct}(hk:ieq a.Kind 1=true):zbE h a=(zbm h a.M a.G).1/\zbZ h a=⟨(zbm h a.M a.G).2,0⟩:=by
 have e:a.Kind=1:=qD hk;constructor
 .unfold zbE zfA;rw[e];rfl
 .unfold zbZ zhE;rw[e];rfl
theorem zbeE {h:Host}{a:GAct}(hk:ieq a.Kind 2=true):zbE h a=zkB h a.M a.G a.X ⟨a.Y,a.Z⟩/\zbZ h a=⟨znn h a.M a.G a.X ⟨a.Y,a.Z⟩,0⟩:=by
 have e:a.Kind=2:=qD hk;constructor
 .unfold zbE zfA;rw[e];rfl
 .unfold zbZ zhE;rw[e];rfl
theorem zbeF {h:Host}{a:GAct}(hk:ieq a.Kind 3=true):zbE h a=zgf h a.M a.G a.X/\zbZ h a=⟨zkg h a.M a.G a.X,0⟩:=by
 have e:a.Kind=3:=qD hk;constructor
 .unfold zbE zfA;rw[e];rfl
 .unfold zbZ zhE;rw[e];rfl
theorem zbeG {h:Host}{a:GAct}(hk:ieq a.Kind 4=true):zbE h a=zhk h a.M a.G a.X/\zbZ h a=⟨zjd h a.M a.G a.X,0⟩:=by
 have e:a.Kind=4:=qD hk;constructor
 .unfold zbE zfA;rw[e];rfl
 .unfold zbZ zhE;rw[e];rfl
theorem zbeH {h:Host}{a:GAct}(hk:ieq a.Kind 5=true):zbE h a=zhm h a.M a.G/\zbZ h a=⟨zjg h a.M a.G,0⟩:=by
 have e:a.Kind=5:=qD hk;constructor
 .unfold zbE zfA;rw[e];rfl
 .unfold zbZ zhE;rw[e];rfl
theorem zbeI {h:Host}{a:GAct}(hk:ieq a.Kind 6=true):zbE h a=zhl h a.M a.G a.X/\zbZ h a=⟨zje h a.M a.G a.X,0⟩:=by
 have e:a.Kind=6:=qD hk;constructor
 .unfold zbE zfA;rw[e];rfl
 .unfold zbZ zhE;rw[e];rfl
theorem zbeJ {h:Host}{a:GAct}(hk:ieq a.Kind 7=true):zbE h a=znl h a.M a.G ⟨a.X,a.Y,ieq a.Z 1⟩/\zbZ h a=⟨znm h a.M a.G ⟨a.X,a.Y,ieq a.Z 1⟩,0⟩:=by
 have e:a.Kind=7:=qD hk;constructor
 .unfold zbE zfA;rw[e];rfl
 .unfold zbZ zhE;rw[e];rfl
theorem zbeK {h:Host}{a:GAct}(hk:ieq a.Kind 8=true):zbE h a=ziF h a.M a.X a.Y a.Z/\zbZ h a=⟨zcW h a.M a.X a.Y a.Z,0⟩:=by
 have e:a.Kind=8:=qD hk;constructor
 .unfold zbE zfA;rw[e];rfl
 .unfold zbZ zhE;rw[e];rfl
theorem zbeL {h:Host}{a:GAct}(hk:ieq a.Kind 9=true):zbE h a=zjf h a.M a.X/\zbZ h a=⟨zlt h a.M a.X,0⟩:=by
 have e:a.Kind=9:=qD hk;constructor
 .unfold zbE zfA;rw[e];rfl
 .unfold zbZ zhE;rw[e];rfl
theorem zbdy {h:Host}{a:GAct}(hk:ieq a.Kind 10=true):zbE h a=zkA h a.M/\zbZ h a=⟨zni h a.M,znh h a.M⟩:=by
 have e:a.Kind=10:=qD hk;constructor
 .unfold zbE zfA;rw[e];rfl
 .unfold zbZ zhE;rw[e];rfl
theorem zbdz {h:Host}{a:GAct}(hk:ieq a.Kind 11=true):zbE h a=zkx h a.M a.G a.X a.Y/\zbZ h a=⟨zge h a.M a.G a.X a.Y,0⟩:=by
 have e:a.Kind=11:=qD hk;constructor
 .unfold zbE zfA;rw[e];rfl
 .unfold zbZ zhE;rw[e];rfl
theorem zbdA {h:Host}{a:GAct}(hk:ieq a.Kind 12=true):zbE h a=ziG h a.M a.G a.X/\zbZ h a=⟨zeB h a.M a.G a.X,zoS h a.M a.G a.X⟩:=by
 have e:a.Kind=12:=qD hk;constructor
 .unfold zbE zfA;rw[e];rfl
 .unfold zbZ zhE;rw[e];rfl
theorem zbdB {h:Host}{a:GAct}(hk:ieq a.Kind 13=true):zbE h a=zkM h a.M a.X/\zbZ h a=⟨zo1 h a.M a.X,0⟩:=by
 have e:a.Kind=13:=qD hk;constructor
 .unfold zbE zkp;rw[e];rfl
 .unfold zbZ zp6;rw[e];rfl
theorem zbdC {h:Host}{a:GAct}(hk:ieq a.Kind 14=true):zbE h a=zny h a.M a.X/\zbZ h a=⟨zrj h a.M a.X,0⟩:=by
 have e:a.Kind=14:=qD hk;constructor
 .unfold zbE zkp;rw[e];rfl
 .unfold zbZ zp6;rw[e];rfl
theorem zbdD {h:Host}{a:GAct}(hk:ieq a.Kind 15=true):zbE h a=znd h a.M a.X/\zbZ h a=⟨zbB h a.M a.X,0⟩:=by
 have e:a.Kind=15:=qD hk;constructor
 .unfold zbE zkp;rw[e];rfl
 .unfold zbZ zp6;rw[e];rfl
theorem zbdE {h:Host}{a:GAct}(hk:ieq a.Kind 16=true):zbE h a=ziU h a.M a.X/\zbZ h a=⟨zmV h a.M a.X,0⟩:=by
 have e:a.Kind=16:=qD hk;constructor
 .unfold zbE zkp;rw[e];rfl
 .unfold zbZ zp6;rw[e];rfl
theorem zbdF {h:Host}{a:GAct}(hk:ieq a.Kind 17=true):zbE h a=cold h/\zbZ h a=⟨true,0⟩:=by
 have e:a.Kind=17:=qD hk;constructor
 .unfold zbE zkp;rw[e];rfl
 .unfold zbZ zp6;rw[e];rfl
theorem zbeC {h:Host}{a:GAct}(h1:ieq a.Kind 1=false)(h2:ieq a.Kind 2=false)(h3:ieq a.Kind 3=false)(h4:ieq a.Kind 4=false)(h5:ieq a.Kind 5=false)(h6:ieq a.Kind 6=false)(h7:ieq a.Kind 7=false)(h8:ieq a.Kind 8=false)(h9:ieq a.Kind 9=false)(h10:ieq a.Kind 10=false)(h11:ieq a.Kind 11=false)(h12:ieq a.Kind 12=false)(h13:ieq a.Kind 13=false)(h14:ieq a.Kind 14=false)(h15:ieq a.Kind 15=false)(h16:ieq a.Kind 16=false)(h17:ieq a.Kind 17=false):zbE h a=h/\zbZ h a=⟨false,0⟩:=by
 have hw:win a.Kind 1 17=false:=by
  cases hw:win a.Kind 1 17
  .rfl
  .have:=zfo.1 hw;have:=qW h1;have:=qW h2;have:=qW h3;have:=qW h4;have:=qW h5;have:=qW h6;have:=qW h7;have:=qW h8;have:=qW h9;have:=qW h10;have:=qW h11;have:=qW h12;have:=qW h13;have:=qW h14;have:=qW h15;have:=qW h16;have:=qW h17;omega
 unfold zbE zbZ;rw[hw];exact ⟨rfl,rfl⟩
@[simp] abbrev zr0 (h:Host)(a:GAct):Bool:=pc (zbA h)
@[simp] abbrev znj (h:Host)(a:GAct):Host:=zbE h a
@[simp] abbrev znk (h:Host)(a:GAct):Told:=zbZ h a
def zDe:Run:=rF2 dH (dT .act) fun b c=>(zr0 b c,[aH (znj b c),aT .told (znk b c)])
def zJy (N:Nat)(a0:Host)(a1:GAct):OA:=
 let y3:=(znl a0 a1.M a1.G (zq5 a1));let y2:=(zr1 a0 a1.M a1.G a1.X a1.Y);let y1:=(zpu a0 a1.M a1.X a1.Y a1.Z);let y0:=(⟨a1.Y,a1.Z⟩:Slot); (cond (ieq a1.Kind 1) (oN (zv4 a0 a1.M a1.G) (oN (zbb (zpy a0 a1.M a1.G)) (some [(aH (zI (zpy a0 a1.M a1.G))),(.agg [(.b (zv3 a0 a1.M a1.G)),(.i .i64 0)])]))) (cond (ieq a1.Kind 2) (oN (zyX a0 a1.M a1.G a1.X y0) (oN (zbb (zkB a0 a1.M a1.G a1.X y0)) (some [(aH (zI (zkB a0 a1.M a1.G a1.X y0))),(.agg [(.b (znn a0 a1.M a1.G a1.X y0)),(.i .i64 0)])]))) (cond (ieq a1.Kind 3) (oN (ztJ a0 a1.M a1.G a1.X) (oN (zbb (zkf a0 a1.M a1.G a1.X)) (some [(aH (zI (zkf a0 a1.M a1.G a1.X))),(.agg [(.b (zkg a0 a1.M a1.G a1.X)),(.i .i64 0)])]))) (cond (ieq a1.Kind 4) (oN (zq7 a0 a1.M a1.G a1.X) (oN (zbb (zhk a0 a1.M a1.G a1.X)) (some [(aH (zI (zhk a0 a1.M a1.G a1.X))),(.agg [(.b (zjd a0 a1.M a1.G a1.X)),(.i .i64 0)])]))) (cond (ieq a1.Kind 5) (oN (zq9 a0 a1.M a1.G) (oN (zbb (zhm a0 a1.M a1.G)) (some [(aH (zI (zhm a0 a1.M a1.G))),(.agg [(.b (zjg a0 a1.M a1.G)),(.i .i64 0)])]))) (cond (ieq a1.Kind 6) (oN (zq8 a0 a1.M a1.G a1.X) (oN (zbb (zhl a0 a1.M a1.G a1.X)) (some [(aH (zI (zhl a0 a1.M a1.G a1.X))),(.agg [(.b (zje a0 a1.M a1.G a1.X)),(.i .i64 0)])]))) (cond (ieq a1.Kind 7) (oN (zF2 a1) (oN (zyU a0 a1.M a1.G (zq5 a1)) (oN (zbb y3) (some [(aH (zI y3)),(.agg [(.b (znm a0 a1.M a1.G (zq5 a1))),(.i .i64 0)])])))) (cond (ieq a1.Kind 8) (oN (zv0 a0 a1.M a1.X a1.Y a1.Z) (oN (zbb y1) (some [(aH (zI y1)),(.agg [(.b (zpv a0 a1.M a1.X a1.Y a1.Z)),(.i .i64 0)])]))) (cond (ieq a1.Kind 9) (oN (zv1 a0 a1.M a1.X) (oN (zbb (zjf a0 a1.M a1.X)) (some [(aH (zI (zjf a0 a1.M a1.X))),(.agg [(.b (zlt a0 a1.M a1.X)),(.i .i64 0)])]))) (cond (ieq a1.Kind 10) (oN (zyT a0 a1.M) (oN (zbb (zkA a0 a1.M)) (some [(aH (zI (zkA a0 a1.M))),(.agg [(.b (zni a0 a1.M)),(.i .i64 (znh a0 a1.M))])]))) (cond (ieq a1.Kind 11) (oN (zyV a0 a1.M a1.G a1.X a1.Y) (oN (zbb y2) (some [(aH (zI y2)),(.agg [(.b (zr2 a0 a1.M a1.G a1.X a1.Y)),(.i .i64 0)])]))) (cond (ieq a1.Kind 12) (oN (zv2 a0 a1.M a1.G a1.X) (oN (zbb (zlu a0 a1.M a1.G a1.X)) (some [(aH (zI (zlu a0 a1.M a1.G a1.X))),(.agg [(.b (zpx a0 a1.M a1.G a1.X)),(.i .i64 (zpw a0 a1.M a1.G a1.X))])]))) (cond (ieq a1.Kind 13) (oN (zy1 a0 a1.M a1.X) (oN (zbb (zno a0 a1.M a1.X)) (some [(aH (zI (zno a0 a1.M a1.X))),(.agg [(.b (zr3 a0 a1.M a1.X)),(.i .i64 0)])]))) (cond (ieq a1.Kind 14) (oN (zBQ a0 a1.M a1.X) (oN (zbb (zpE a0 a1.M a1.X)) (some [(aH (zI (zpE a0 a1.M a1.X))),(.agg [(.b (zux a0 a1.M a1.X)),(.i .i64 0)])]))) (cond (ieq a1.Kind 15) (oN (zF3 a0 a1.M a1.X) (oN (zbb (zsX a0 a1.M a1.X)) (some [(aH (zI (zsX a0 a1.M a1.X))),(.agg [(.b (zxx a0 a1.M a1.X)),(.i .i64 0)])]))) (cond (ieq a1.Kind 16) (oN (zv6 a0 a1.M a1.X) (oN (zbb (zly a0 a1.M a1.X)) (some [(aH (zI (zly a0 a1.M a1.X))),(.agg [(.b (zpH a0 a1.M a1.X)),(.i .i64 0)])]))) (cond (ieq a1.Kind 17) (oN (zMO a0) (oN (zbb (zQf a0)) (some [(aH (zI (zQf a0))),(.agg [(.b true),(.i .i64 0)])]))) (oN (zbb a0) (some [(aH (zI a0)),(.agg [(.b false),(.i .i64 0)])])))))))))))))))))))
theorem zXk (a0:Host)(a1:GAct)(hc:zr0 a0 a1=true):∃N,zJy N a0 a1=some [aH (znj a0 a1),aT .told (znk a0 a1)]:=by
 have hs:=zu.1 hc;have hsm:zbA (zbE a0 a1):=(zF _).2 (zUQ ((zF _).1 hs));have q1:=@zbeD a0 a1;have q2:=@zbeE a0 a1;have q3:=@zbeF a0 a1;have q4:=@zbeG a0 a1;have q5:=@zbeH a0 a1;have q6:=@zbeI a0 a1;have q7:=@zbeJ a0 a1;have q8:=@zbeK a0 a1;have q9:=@zbeL a0 a1;have q10:=@zbdy a0 a1;have q11:=@zbdz a0 a1;have q12:=@zbdA a0 a1;have q13:=@zbdB a0 a1;have q14:=@zbdC a0 a1;have q15:=@zbdD a0 a1;have q16:=@zbdE a0 a1;have q17:=@zbdF a0 a1;have q0:=@zbeC a0 a1
 refine ⟨0,?_⟩;unfold zJy oN
 conv=>zeta
 refine br (fun _=>mu (mu ?_)) (fun _=>br (fun _=>mu (mu ?_)) (fun _=>br (fun _=>mu (mu ?_)) (fun _=>br (fun _=>mu (mu ?_)) (fun _=>br (fun _=>mu (mu ?_)) (fun _=>br (fun _=>mu (mu ?_)) (fun _=>br (fun _=>must rfl (mu (mu ?_))) (fun _=>br (fun _=>mu (mu ?_)) (fun _=>br (fun _=>mu (mu ?_)) (fun _=>br (fun _=>mu (mu ?_)) (fun _=>br (fun _=>mu (mu ?_)) (fun _=>br (fun _=>mu (mu ?_)) (fun _=>br (fun _=>mu (mu ?_)) (fun _=>br (fun _=>mu (mu ?_)) (fun _=>br (fun _=>mu (mu ?_)) (fun _=>br (fun _=>mu (mu ?_)) (fun _=>br (fun _=>mu (mu ?_)) (fun _=>mu ?_)))))))))))))))))
 all_goals first|rfl|(simp only [*,znj,znk,cT,cF]<;>rfl)|simp_all[Ty.cells,znj,znk]
theorem zPj:uY 27 zDe:=kF2 zFE zi zbh zbu (zl []) zXk
def zbdV:zY:=[(22,zDK),(27,zDe)]++z7I
theorem zVT:zJ zbdV:=zf zPP (zf zPj zFE)
def zCf:List GAct->Host×List Told->Host×List Told
 | [],u=>u
 | a :: l,u=>zCf l (zbE u.1 a,ap u.2 [zbZ u.1 a])
def zeG (ps:List (List (List Ins)))(l:List GAct):Host×List Told:=zCf (l.take 80) (zfp ps,[])
abbrev HSt:Type:=(List Told)×(List (List Int))×(List Mon)×(List Entry)×(List Entry)
def hOf (t:HSt):Host:=⟨t.2.1,t.2.2.1,t.2.2.2.1,t.2.2.2.2⟩
def tOf (u:Host×List Told):HSt:=(u.2,u.1.Memory,u.1.Mons,u.1.Buffer,u.1.IoBuffer)
def zri (t:HSt):OA:=some [AV.agg (zW (hOf t)),AV.one (.s .told t.1)]
theorem zUR {ps:List (List (List Ins))}(h:zxe ps):SmH (zfp ps):=by
 refine ⟨show SmM z6B from ⟨by decide,by decide⟩,⟨?_,?_⟩,by simp[zfp],by simp[zfp]⟩
 .simp only [zfp,uM,uX];omega
 .intro x hx;simp only[zfp,jB]at hx;obtain ⟨p,hp,rfl⟩:=hx;have hps:=h.2 p (j6 hp);refine ⟨show z1L.length<=1048576 by decide,show SmM zUB from ⟨by decide,by decide⟩,show (rp 8 false).length<=1048576 by decide,⟨?_,?_⟩,by simp[zgI],⟨?_,?_⟩⟩
  .simp only [zgI,uM,uX];omega
  .intro y hy;simp only[zgI,jB]at hy;obtain ⟨q,hq,rfl⟩:=hy;exact ⟨hps.2 q (j6 hq),show znJ.length<=1048576 by decide,show znJ.length<=1048576 by decide,by simp[ze5]⟩
  .simp only [zgI,uM,uX];omega
  .intro y hy;simp only[zgI,jB]at hy;obtain ⟨q,hq,rfl⟩:=hy;exact ⟨show (rp 4 false).length<=1048576 by decide,show znJ.length<=1048576 by decide⟩
theorem zKE {c:Host->GAct->Bool}(hc:∀h a,SmH h->c h a=true)(m:Nat):∀(l:List GAct) (i:Nat) (u:Host×List Told),SmH u.1->u.2.length+l.length<=2147483648 ->
 goL (fun (i:Nat) x (t:HSt) κ=>bif ilt (i:Int) (m:Int) then (cond (c (hOf t) x) (cond (few (ln (ap t.1 [zbZ (hOf t) x]))) (κ (ap t.1 [zbZ (hOf t) x],(zbE (hOf t) x).Memory,(zbE (hOf t) x).Mons,(zbE (hOf t) x).Buffer,(zbE (hOf t) x).IoBuffer)) none) none) else zri t) zri l i (tOf u)=zri (tOf (zCf (l.take (m-i)) u))
 | [],i,u,_,_=>by simp[goL,zCf]
 | a :: l,i,u,hs,hn=>by
  simp only[qT]at hn;have hf:few (ln (ap u.2 [zbZ u.1 a]))=true:=zdK (by simp[ap];omega)
  have hh:hOf (tOf u)=u.1:=rfl;have h2:(tOf u).1=u.2:=rfl
  by_cases h:i<m
  .have hi:ilt (i:Int) (m:Int)=true:=qL (by omega)
   simp only[goL,hi,hh,h2,hf,hc _ _ hs,cT];refine (zKE hc m l (i+1) (zbE u.1 a,ap u.2 [zbZ u.1 a]) (zUQ hs) (by simp[ap];omega)).trans ?_
   rw[show m-i=m-(i+1)+1 by omega]
   rfl
  .have hi:ilt (i:Int) (m:Int)=false:=qH (by omega)
   simp only[goL,hi,cF];rw[show m-i=0 by omega]
   rfl
theorem zPd {c:Host->GAct->Bool}(hc:∀h a,SmH h->c h a=true):∀(l:List GAct) (i:Nat) (u:Host×List Told),SmH u.1->u.2.length+l.length<=2147483648 ->
 goL (fun (_:Nat) x (t:HSt) κ=>bif c (hOf t) x then (cond (few (ln (ap t.1 [zbZ (hOf t) x]))) (κ (ap t.1 [zbZ (hOf t) x],(zbE (hOf t) x).Memory,(zbE (hOf t) x).Mons,(zbE (hOf t) x).Buffer,(zbE (hOf t) x).IoBuffer)) none) else none) zri l i (tOf u)=zri (tOf (zCf l u))
 | [],i,u,_,_=>rfl
 | a :: l,i,u,hs,hn=>by
  simp only[qT]at hn;have hf:few (ln (ap u.2 [zbZ u.1 a]))=true:=zdK (by simp[ap];omega)
  have hh:hOf (tOf u)=u.1:=rfl;have h2:(tOf u).1=u.2:=rfl;simp only[goL,hh,h2,hf,hc _ _ hs,cT];exact zPd hc l (i+1) (zbE u.1 a,ap u.2 [zbZ u.1 a]) (zUQ hs) (by simp[ap];omega)
@[simp] abbrev zqu (ps:List (List (List Ins)))(l:List GAct):Bool:=pc (zxe ps/\l.length<=1048576)
@[simp] abbrev zqr (ps:List (List (List Ins)))(l:List GAct):Host:=(zeG ps l).1
@[simp] abbrev zqs (ps:List (List (List Ins)))(l:List GAct):List Told:=(zeG ps l).2
@[simp] abbrev zls (ps:List (List (List Ins)))(l:List GAct):Bool:=pc (zxe ps/\l.length<=1048576)
@[simp] abbrev zps (ps:List (List (List Ins)))(l:List GAct):Host:=(zeG ps l).1
@[simp] abbrev zpt (ps:List (List (List Ins)))(l:List GAct):List Told:=(zeG ps l).2
def zAS:Run:=rF2 (dS (.sl (.sl .ins))) (dS .act) fun b c=>(zqu b c,[aH (zqr b c),aS .told (zqs b c)])
def zFb (N:Nat)(a0:lQ)(a1:lA):OA:=
 (oN (zzd a0) (iter (σ:=(Int×(lA×(lT×(lM×(lN×(lE×(lE×(lM×(lN×(lE×(lE×Unit)))))))))))) N (fun r3 s4=>let y1:=(ix s4.2.1 s4.1 zla);let y0:=(⟨s4.2.2.2.2.2.2.2.1,s4.2.2.2.2.2.2.2.2.1,s4.2.2.2.2.2.2.2.2.2.1,s4.2.2.2.2.2.2.2.2.2.2.1⟩:Host);let y3:=(ap s4.2.2.1 [(znE y0 y1)]);let y2:=(znD y0 y1); (cond (ilt s4.1 (ln s4.2.1)) (cond (ilt s4.1 80) (oN (inb s4.1 (ln s4.2.1)) (oN (zst y0 y1) (oN (few (ln y3)) (r3 ((zB .i64 s4.1 1),(s4.2.1,(y3,(s4.2.2.2.1,(s4.2.2.2.2.1,(s4.2.2.2.2.2.1,(s4.2.2.2.2.2.2.1,(y2.Memory,(y2.Mons,(y2.Buffer,(y2.IoBuffer,()))))))))))))))) (some [(aH y0),(aS .told s4.2.2.1)])) (some [(aH y0),(aS .told s4.2.2.1)]))) (0,(a1,([],([],([],([],([],((zg9 a0).Memory,((zg9 a0).Mons,((zg9 a0).Buffer,((zg9 a0).IoBuffer,())))))))))))))
def zVa:FuncId->Nat->Option Tmpl:=zl [(6,0,{ n:=39,tm:=[(1,.sl 0 []),(4,.lp 0 0),(6,.lp 1 0),(7,.sl 1 []),(8,ti)],lo:=[(0,[.sl 2 [],.sl 3 [],.sl 4 [],.sl 5 []]),(1,[.sl 6 [],.sl 7 [],.sl 8 [],.sl 9 []])],ro:=[(0,.act,false),(1,.told,true),(2,(.sl .int),true),(3,.mon,true),(4,.entry,true),(5,.entry,true),(6,(.sl .int),true),(7,.mon,true),(8,.entry,true),(9,.entry,true)] })]
theorem zUe (a0:List lP)(a1:List GAct)(hc:zqu a0 a1=true):∃N,zFb N a0 a1=some [aH (zqr a0 a1),aS .told (zqs a0 a1)]:=by
 obtain ⟨hs,hl1⟩:=zu.1 hc;have hl:=zb2 hl1;refine zbo fun N hNN=>?_;unfold zFb oN
 conv=>zeta
 refine must (zD hs) ?_;refine (zbc a1 (fun i (t:lT×lM×lN×lE×lE)=>((i:Int),a1,t.1,[],[],[],[],t.2.1,t.2.2.1,t.2.2.2.1,t.2.2.2.2,())) _ (fun i (x:GAct) (t:HSt) κ=>bif ilt (i:Int) ((80:Nat):Int) then (cond (zst (hOf t) x) (cond (few (ln (ap t.1 [zbZ (hOf t) x]))) (κ (ap t.1 [zbZ (hOf t) x],(zbE (hOf t) x).Memory,(zbE (hOf t) x).Mons,(zbE (hOf t) x).Buffer,(zbE (hOf t) x).IoBuffer)) none) none) else zri t) (fun (t:lT×lM×lN×lE×lE)=>(some [(.agg (zW (⟨t.2.1,t.2.2.1,t.2.2.2.1,t.2.2.2.2⟩:Host))),(.one (.s .told t.1))])) (fun i hi t rec=>?_) (fun t rec=>?_) _ ([],(zg9 a0).Memory,(zg9 a0).Mons,(zg9 a0).Buffer,(zg9 a0).IoBuffer) (hNN hl.1)).trans ?_
 .simp only [zU hi,zK hi,zS hi,zL hi hl.1,cT];rfl
 .simp only [zQ,cF]
 exact zKE (fun h a hh=>zD ((zF h).2 hh)) 80 a1 0 (zfp a0,[]) (zUR hs) (by simpa using hl.2)
theorem zMA:uY 6 zAS:=kF2 zVT zi zbh zbu zVa zUe
def zAo:Run:=rF2 (dS (.sl (.sl .ins))) (dS .act) fun b c=>(zls b c,[aH (zps b c),aS .told (zpt b c)])
def zED (N:Nat)(a0:lQ)(a1:lA):OA:=
 let y2:=(zeY (ln a1) 80); (oN (zyW a0) (oN (inr 0 y2 (ln a1)) (iter (σ:=(Int×(Int×(lT×(lA×(lM×(lN×(lE×(lE×(lM×(lN×(lE×(lE×Unit))))))))))))) N (fun r3 s4=>let y1:=(ix s4.2.2.2.1 s4.2.1 zla);let y0:=(⟨s4.2.2.2.2.2.2.2.2.1,s4.2.2.2.2.2.2.2.2.2.1,s4.2.2.2.2.2.2.2.2.2.2.1,s4.2.2.2.2.2.2.2.2.2.2.2.1⟩:Host);let y4:=(ap s4.2.2.1 [(znk y0 y1)]);let y3:=(znj y0 y1); (cond (ilt s4.2.1 s4.1) (oN (inb s4.2.1 (ln s4.2.2.2.1)) (oN (zr0 y0 y1) (oN (few (ln y4)) (r3 (s4.1,((zB .i64 s4.2.1 1),(y4,(s4.2.2.2.1,(s4.2.2.2.2.1,(s4.2.2.2.2.2.1,(s4.2.2.2.2.2.2.1,(s4.2.2.2.2.2.2.2.1,(y3.Memory,(y3.Mons,(y3.Buffer,(y3.IoBuffer,())))))))))))))))) (some [(aH y0),(aS .told s4.2.2.1)]))) ((ln (tk a1 y2)),(0,([],((tk a1 y2),([],([],([],([],((zg0 a0).Memory,((zg0 a0).Mons,((zg0 a0).Buffer,((zg0 a0).IoBuffer,())))))))))))))))
def zUX:FuncId->Nat->Option Tmpl:=zl [(9,0,{ n:=36,tm:=[(4,.lp 0 0),(6,.lp 1 0),(7,.sl 0 []),(16,.sl 1 []),(17,ti),(18,ti)],lo:=[(0,[.sl 2 [],.sl 3 [],.sl 4 [],.sl 5 []]),(1,[.sl 6 [],.sl 7 [],.sl 8 [],.sl 9 []])],ro:=[(0,.told,true),(1,.act,false),(2,(.sl .int),true),(3,.mon,true),(4,.entry,true),(5,.entry,true),(6,(.sl .int),true),(7,.mon,true),(8,.entry,true),(9,.entry,true)] })]
theorem zTC (a0:List lP)(a1:List GAct)(hc:zls a0 a1=true):∃N,zED N a0 a1=some [aH (zps a0 a1),aS .told (zpt a0 a1)]:=by
 obtain ⟨hs,hl1⟩:=zu.1 hc;have ht:=z15 a1 80;have e1:tk a1 (zeY (ln a1) 80)=a1.take 80:=ht.1;have h01:(tk a1 (zeY (ln a1) 80)).length<=1048576:=by rw[e1];exact jD (by simp;omega) hl1
 have hl:=zb2 h01;refine zbo fun N hNN=>?_;unfold zED oN
 conv=>zeta
 refine must (zD hs) (must ht.2 ?_);refine (zbc (tk a1 (zeY (ln a1) 80)) (fun i (t:lT×lM×lN×lE×lE)=>((ln (tk a1 (zeY (ln a1) 80))),(i:Int),t.1,(tk a1 (zeY (ln a1) 80)),[],[],[],[],t.2.1,t.2.2.1,t.2.2.2.1,t.2.2.2.2,())) _ (fun _ (x:GAct) (t:HSt) κ=>bif zr0 (hOf t) x then (cond (few (ln (ap t.1 [zbZ (hOf t) x]))) (κ (ap t.1 [zbZ (hOf t) x],(zbE (hOf t) x).Memory,(zbE (hOf t) x).Mons,(zbE (hOf t) x).Buffer,(zbE (hOf t) x).IoBuffer)) none) else none) (fun (t:lT×lM×lN×lE×lE)=>(some [(.agg (zW (⟨t.2.1,t.2.2.1,t.2.2.2.1,t.2.2.2.2⟩:Host))),(.one (.s .told t.1))])) (fun i hi t rec=>?_) (fun t rec=>?_) _ ([],(zg0 a0).Memory,(zg0 a0).Mons,(zg0 a0).Buffer,(zg0 a0).IoBuffer) (hNN hl.1)).trans ?_
 .simp only [zU hi,zK hi,zS hi,zL hi hl.1,cT];rfl
 .simp only [zQ,cF]
 refine (zPd (fun h a hh=>zD ((zF h).2 hh)) _ 0 (zfp a0,[]) (zUR hs) (by simpa using hl.2)).trans ?_
 rw[e1];rfl
theorem zL2:uY 9 zAo:=kF2 zVT zi zbh zbu zUX zTC
theorem z8T {l:List Mon}{m:Int}{x:Mon}(h:∀y∈l,ShM y)(hx:ShM x):∀y∈up l m x,ShM y:=by
 intro y hy;rcases jT hy with hy|rfl
 .exact h y hy
 .exact hx
theorem zvk (b:Bare)(g:Int)(k:Bool)(x:Guest):(chg b g k x).Guests.length=b.Guests.length:=by
 unfold chg;cases (cond (zbU b g) k false)
 .rfl
 .exact zdZ _ _ _
theorem zKH (n:Int):∀(ks:List Int) (l:List Guest),(zo2 n ks l).length=l.length
 | [],_=>rfl
 | k :: ks,l=>(zKH n ks (zH8 n l k)).trans (zxK _ _ _)
theorem zbaa (b:Bare)(n:Int):(zi3 b n).Guests.length=b.Guests.length:=by
 unfold zi3;cases zfN b n
 .rfl
 .unfold zH9;cases ieq (ln (zdI b.Guests n)) 0
  .exact zKH _ _ _
  .rfl
theorem zbcW (b:Bare):(zkY b).Guests.length=b.Guests.length:=by
 unfold zkY;cases zbQ b<;>rfl
theorem zV6 {h:Host}{m:Int}{b:Bare}(hs:Shape h)(hm:hasB m (ln h.Mons)=true)(hb:zm0 b.Guests)(hl:b.Guests.length=(ix h.Mons m mZ).Guests.length):Keep h (zb7 h m b):=by
 obtain ⟨g1,g2⟩:=zbY hs hm;exact ⟨zfS hs (zRy g1 hb) ⟨g2.1,g2.2.1,g2.2.2.1,g2.2.2.2.trans hl.symm⟩,zsJ hm hl,rfl⟩
theorem zjW {h:Host}{m:Int}{b:Bare}(hs:Shape h)(hb:zbL h m=true->SmB b)(hl:b.Guests.length=(zC h m).Guests.length):Keep h (zcy h m b):=by
 unfold zcy;cases h0:zbL h m
 .exact Keep.rfl' hs
 .have hm:=(zbd.1 h0).2;exact zV6 hs hm (hb h0).2.1 (by rw[hl,zzk hm])
theorem z6k {h:Host}{m g p:Int}(hs:Shape h):Keep h (zgf h m g p):=by
 have hsm:SmH (zgf h m g p):=zWu hs.1;unfold zgf at hsm ⊢;cases h0:zbL h m
 .exact Keep.rfl' hs
 .cases hk:zbN (zC h m) g (hasB p 4)
  .exact Keep.rfl' hs
  .rw [h0,hk]at hsm;have hm:=(zbd.1 h0).2;have hv:=zc9 hs.1 hm;have hb:SmB (chg (zC h m) g (hasB p 4) (zgH (gAt (zC h m) g) p)):=zmW hv (zqO _ (zey _ hv));have k1:Keep h (zb7 h m (chg (zC h m) g (hasB p 4) (zgH (gAt (zC h m) g) p))):=zV6 hs hm hb.2.1 (by rw[zvk,zzk hm])
   have hm1:=k1.has hm;obtain ⟨g1,g2⟩:=zbY k1.shape hm1;simp only[cT]at hsm ⊢;exact k1.trans ⟨⟨hsm,z8T k1.shape.2 ⟨g2.1,g2.2.1,g2.2.2.1,by simpa using g2.2.2.2⟩⟩,zsJ hm1 rfl,rfl⟩
theorem z8d {h:Host}{m p c v:Int}(hs:Shape h):Keep h (ziF h m p c v):=by
 unfold ziF;cases hf:zcW h m p c v
 .exact Keep.rfl' hs
 .have h0:zbB h m p=true:=by
   unfold zcW at hf;cases hp:zbB h m p
   .rw [hp]at hf;cases hf
   .rfl
  obtain ⟨hh,hm,hp⟩:=zd3.1 h0;have hft:=zdz hs.1 hh;have k1:Keep h (mended h m p 2):=⟨(zqN hft hm hp).1,zFt (zV4 hft hm hp),zWg _ _ _ _⟩;exact k1.trans (zGa k1.shape)
theorem zQU {h:Host}{m g page need:Int}(hl:zbK h m g page need=true):zb0 h m g=true:=by
 unfold zbK at hl;cases h1:zb0 h m g
 .rw [h1]at hl;cases hl
 .rfl
theorem z96 {h:Host}{m g a v:Int}(hs:Shape h):Keep h (zkx h m g a v):=by
 unfold zkx;cases hf:zge h m g a v
 .exact Keep.rfl' hs
 .have hl:zbK h m g (zbP a) 2=true:=by
   unfold zge at hf;cases h1:win a 0 15
   .rw [h1]at hf;cases hf
   .cases h2:win v 0 99
    .rw [h1,h2]at hf;cases hf
    .rw [h1,h2]at hf;exact hf
  have k1:=zs8 (b:=h.IoBuffer) (page:=zbP a) (need:=2) (io:=true) hs.1 (zQU hl);exact k1.trans (zGa k1.shape)
theorem z8e {h:Host}{m g a:Int}(hs:Shape h):Keep h (ziG h m g a):=by
 unfold ziG;cases hf:zeB h m g a
 .exact Keep.rfl' hs
 .have hl:zbK h m g (zbP a) 1=true:=by
   unfold zeB at hf;cases h1:win a 0 15
   .rw [h1]at hf;cases hf
   .rw [h1]at hf;exact hf
  exact zs8 (b:=h.IoBuffer) (page:=zbP a) (need:=1) (io:=true) hs.1 (zQU hl)
theorem z97 {h:Host}{m p:Int}(hs:Shape h):Keep h (zkM h m p):=by
 unfold zkM;cases h0:zbB h m p
 .exact Keep.rfl' hs
 .obtain ⟨hh,hm,hp⟩:=zd3.1 h0;cases zhP h m p
  .exact ⟨zCr hs hm,zFt (z4N hm),congrArg List.length (z4U h m p)⟩
  .exact Keep.rfl' hs
theorem zbcV {h:Host}{m p:Int}(hs:Shape h):Keep h (zny h m p):=by
 unfold zny;cases h0:zbB h m p
 .exact Keep.rfl' hs
 .obtain ⟨hh,hm,hp⟩:=zd3.1 h0;have hft:=zdz hs.1 hh;cases zhP h m p
  .exact Keep.rfl' hs
  .exact ⟨(zia hft hm hp).1,zFt (zO9 hft hm),zQ0 _ _ _⟩
theorem z6l {h:Host}{m p:Int}(hs:Shape h):Keep h (znd h m p):=by
 unfold znd;cases h0:zbB h m p
 .exact Keep.rfl' hs
 .obtain ⟨hh,hm,hp⟩:=zd3.1 h0;obtain ⟨g1,g2⟩:=zbY hs hm;have k1:Keep h (zo8 h m p):=⟨zfS hs (zHC g1) ⟨g2.1,g2.2.1,by simpa [zHI] using g2.2.2.1,g2.2.2.2⟩,zsJ hm rfl,rfl⟩
  have hm1:=k1.has hm;generalize zc0 (ix (ix h.Mons m zh).Outer p zM) noSlot=y;cases y
  .exact k1.trans ⟨zn8 hm1 k1.shape,zFt (zuq hm1),congrArg List.length (zfb _ _ _ _).2⟩
  .exact k1
theorem z6o {h:Host}{m t:Int}(hs:Shape h):Keep h (ziU h m t):=by
 unfold ziU;cases zbF h
 .exact Keep.rfl' hs
 .cases hm:hasB m (ln h.Mons)
  .exact Keep.rfl' hs
  .cases win t 0 3
   .exact Keep.rfl' hs
   .obtain ⟨g1,g2⟩:=zbY hs hm;exact ⟨zfS hs ⟨g1.1,g1.2.1,g1.2.2.1,g1.2.2.2.1,g1.2.2.2.2.1,g1.2.2.2.2.2⟩ ⟨g2.1,g2.2.1,g2.2.2.1,g2.2.2.2⟩,zsJ hm rfl,rfl⟩
theorem zVO:∀(n j:Nat) (l:List Kept),(zYK n j l).length=l.length
 | 0,_,_=>rfl
 | n+1,j,l=>(zVO n (j+1) _).trans (zdZ _ _ _)
theorem zKt:∀(n i:Nat) (t:List Mon),i+n<=t.length->(∀x∈t,ShM x)->(∀x∈zvC n i t,ShM x)/\cnt (zvC n i t)=cnt t
 | 0,_,_,_,h=>⟨h,rfl⟩
 | n+1,i,t,hn,h=>by
  have hi:i<t.length:=by omega
  have hm:hasB (i:Int) (ln t)=true:=qL (by simp only[ln];omega)
  have hx:ShM (ix t (i:Int) mZ):=h _ (zbw hm _);obtain ⟨a,b⟩:=zKt n (i+1) (up t (i:Int) (zBr (ix t (i:Int) mZ) (ix t (i:Int) mZ).Tables.length 0)) (by rw[zdZ];omega) (z8T h ⟨hx.1,hx.2.1,hx.2.2.1,(zVO _ _ _).trans hx.2.2.2⟩)
  exact ⟨a,b.trans (zsJ hm rfl)⟩
theorem z8c {h:Host}(hs:Shape h):Keep h (cold h):=by
 obtain ⟨a,b⟩:=zKt h.Mons.length 0 h.Mons (by omega) hs.2
 exact ⟨⟨z1P hs.1,a⟩,b,rfl⟩
theorem z95 {h:Host}{a:GAct}(hs:Shape h):Keep h (zbE h a):=by
 have hv:zbL h a.M=true->SmB (zC h a.M):=fun h0=>zc9 hs.1 (zbd.1 h0).2;unfold zbE;cases win a.Kind 1 17
 .exact Keep.rfl' hs
 .cases win a.Kind 13 17
  .simp only [cT,cF];unfold zfA;cases ieq a.Kind 1
   .cases ieq a.Kind 2
    .cases ieq a.Kind 3
     .cases ieq a.Kind 4
      .cases ieq a.Kind 5
       .cases ieq a.Kind 6
        .cases ieq a.Kind 7
         .cases ieq a.Kind 8
          .cases ieq a.Kind 9
           .cases ieq a.Kind 10
            .cases ieq a.Kind 11
             .exact z8e hs
             .exact z96 hs
            .exact zjW hs (fun h0=>zIf (hv h0)) (zbcW _)
           .exact zjW hs (fun h0=>zCt _ (hv h0)) (zbaa _ _)
          .exact z8d hs
         .exact zjW hs (fun h0=>zIg _ _ (hv h0)) (zvk _ _ _ _)
        .exact zjW hs (fun h0=>zu6 _ _ (hv h0)) (zvk _ _ _ _)
       .exact zjW hs (fun h0=>zu7 _ (hv h0)) (zvk _ _ _ _)
      .exact zjW hs (fun h0=>zu5 _ _ (hv h0)) (zvk _ _ _ _)
     .exact z6k hs
    .exact zjW hs (fun h0=>zIh _ _ _ (hv h0)) (zvk _ _ _ _)
   .show Keep h (zbm h a.M a.G).1
    cases hg:zb0 h a.M a.G
    .rw [zht hg];exact Keep.rfl' hs
    .exact zV7 hs.1 hg
  .simp only [cT];unfold zkp;cases ieq a.Kind 13
   .cases ieq a.Kind 14
    .cases ieq a.Kind 15
     .cases ieq a.Kind 16
      .exact z8c hs
      .exact z6o hs
     .exact z6l hs
    .exact zbcV hs
   .exact z97 hs
theorem z1G:∀(l:List GAct) (u:Host×List Told),Shape u.1->Keep u.1 (zCf l u).1/\(zCf l u).2.length=u.2.length+l.length
 | [],u,h=>⟨Keep.rfl' h,rfl⟩
 | a :: l,u,h=>by
  have k:=z95 (a:=a) h;obtain ⟨h1,h2⟩:=z1G l (zbE u.1 a,ap u.2 [zbZ u.1 a]) k.shape;refine ⟨k.trans h1,?_⟩;rw[zCf,h2];simp[ap];omega
theorem z8S {ps:List (List (List Ins))}(h:zxe ps):Shape (zfp ps):=by
 refine ⟨zUR h,fun x hx=>?_⟩;simp only[zfp,jB]at hx;obtain ⟨p,hp,rfl⟩:=hx;exact ⟨rfl,rfl,rfl,by simp[zgI]⟩
theorem zbcS {ps:List (List (List Ins))}(h:zxe ps)(l:List GAct):zB5 (zeG ps l).1<=900000000000/\mcL zse (zeG ps l).2<=1200:=by
 obtain ⟨k,h2⟩:=z1G (l.take 80) (zfp ps,[]) (z8S h);refine ⟨zbes k.shape k.mem ?_ (cnt_le k.cnt ?_),?_⟩
 .show (zCf (l.take 80) (zfp ps,[])).1.Mons.length<=3
  rw[z4B k.cnt];simp[zfp];omega
 .intro x hx;simp only[zfp,jB]at hx;obtain ⟨p,hp,rfl⟩:=hx;simp[zgI];omega
 .have h6:mcL zse (zeG ps l).2<=15*(zeG ps l).2.length:=zQY (fun _=>by unfold zse;decide) _
  have h7:(zeG ps l).2.length<=80:=by
   unfold zeG;rw[h2];simp;omega
  omega
theorem zQj:SzP (fun x=>∀c∈Ty.cells (.sl .ins) x,CVB sm c) zgE:=by
 intro x n h0 h1;obtain ⟨a,b⟩:=z6p x n h0 h1;exact ⟨a,fun h c hc=>by rw[qF.1 hc];exact b h⟩
def zsb (_:List (List Ins))(n:Int):Bool:=pc (0<=n/\n<=1048576)
def zgm (l:List (List Ins))(n:Int):Int:=zCy zgE l n
def zDE:Run:=rF2 (dS (.sl .ins)) dI fun b c=>(zsb b c,[aI (zgm b c)])
def zJX (N:Nat)(a0:lP)(a1:Int):OA:=
 (cond (ilt (wsub .i64 a1 (ln a0)) 0) (some [(aI (-1))]) (iter (σ:=(Int×(Int×(lP×Unit)))) N (fun r3 s4=>let y0:=(ix s4.2.2.1 s4.2.1 []); (cond (ilt s4.2.1 (ln s4.2.2.1)) (oN (inb s4.2.1 (ln s4.2.2.1)) (oN (zuO y0 s4.1) (cond (ilt (zgE y0 s4.1) 0) (some [(aI (-1))]) (r3 ((zgE y0 s4.1),((zB .i64 s4.2.1 1),(s4.2.2.1,()))))))) (some [(aI s4.1)]))) ((wsub .i64 a1 (ln a0)),(0,(a0,())))))
def zYB:FuncId->Nat->Option Tmpl:=zl [(20,0,{ n:=27,tm:=[(0,.sl 0 []),(1,ti),(5,ti)],lo:=[],ro:=[(0,(.sl .ins),false)] })]
theorem z3a (l:List (List Ins)):∀n,0<=n->n<=1048576->zgm l n<=n/\(0<=zgm l n->CVB sm (.s (.sl .ins) l)):=fun n h0 h1=>by
 obtain ⟨a,b⟩:=z1W (S:=fun x=>∀c∈Ty.cells (.sl .ins) x,CVB sm c) (f:=zgE) zQj l n h0 h1;exact ⟨a,fun h=>.s (.sl .ins) l (b h).1 (b h).2⟩
theorem zXK (a0:List lI)(a1:Int)(hb:zby big [aS (.sl .ins) a0,aI a1])(hc:zsb a0 a1=true):∃N,zJX N a0 a1=some [aI (zgm a0 a1)]:=by
 obtain ⟨h0,h1⟩:=zu.1 hc;have hl:=(len0 hb);refine ⟨a0.length+1,?_⟩;simp only[zJX,zRB hl h0 h1,zgm,zCy,thn,zMT]
 by_cases h:a1-a0.length<0
 .simp [h]
 .simp only [h,decide_false,cF,if_false];exact z5k a0 _ zuO zgE zQj (fun x n h0 h1=>zD ⟨h0,h1⟩) hl _ (by omega) (by omega) (jA _)
theorem zPJ:uY 20 zDE:=hF2 zZz zi zk zn zYB zXK
def zbbH:zY:=[(20,zDE)]++zbbG
theorem zZA:zJ zbbH:=zf zPJ zZz
theorem zKG:SzP (fun x=>∀c∈Ty.cells (.sl (.sl .ins)) x,CVB sm c) zgm:=by
 intro x n h0 h1;obtain ⟨a,b⟩:=z3a x n h0 h1;exact ⟨a,fun h c hc=>by rw[qF.1 hc];exact b h⟩
def zwg (_:List (List (List Ins)))(n:Int):Bool:=pc (0<=n/\n<=1048576)
def ze9 (l:List (List (List Ins)))(n:Int):Int:=zCy zgm l n
def zro:Run:=rF2 (dS (.sl (.sl .ins))) dI fun b c=>(zwg b c,[aI (ze9 b c)])
def zE3 (N:Nat)(a0:lQ)(a1:Int):OA:=
 (cond (ilt (wsub .i64 a1 (ln a0)) 0) (some [(aI (-1))]) (iter (σ:=(Int×(Int×(lQ×Unit)))) N (fun r3 s4=>let y0:=(ix s4.2.2.1 s4.2.1 []); (cond (ilt s4.2.1 (ln s4.2.2.1)) (oN (inb s4.2.1 (ln s4.2.2.1)) (oN (zsb y0 s4.1) (cond (ilt (zgm y0 s4.1) 0) (some [(aI (-1))]) (r3 ((zgm y0 s4.1),((zB .i64 s4.2.1 1),(s4.2.2.1,()))))))) (some [(aI s4.1)]))) ((wsub .i64 a1 (ln a0)),(0,(a0,())))))
def zU6:FuncId->Nat->Option Tmpl:=zl [(4,0,{ n:=27,tm:=[(0,.sl 0 []),(1,ti),(5,ti)],lo:=[],ro:=[(0,(.sl (.sl .ins)),false)] })]
theorem zZ8 (l:List (List (List Ins))):∀n,0<=n->n<=1048576->ze9 l n<=n/\(0<=ze9 l n->CVB sm (.s (.sl (.sl .ins)) l)):=fun n h0 h1=>by
 obtain ⟨a,b⟩:=z1W (S:=fun x=>∀c∈Ty.cells (.sl (.sl .ins)) x,CVB sm c) (f:=zgm) zKG l n h0 h1;exact ⟨a,fun h=>.s (.sl (.sl .ins)) l (b h).1 (b h).2⟩
theorem zT6 (a0:List lP)(a1:Int)(hb:zby big [aS (.sl (.sl .ins)) a0,aI a1])(hc:zwg a0 a1=true):∃N,zE3 N a0 a1=some [aI (ze9 a0 a1)]:=by
 obtain ⟨h0,h1⟩:=zu.1 hc;have hl:=(len0 hb);refine ⟨a0.length+1,?_⟩;simp only[zE3,zRB hl h0 h1,ze9,zCy,thn,zMT]
 by_cases h:a1-a0.length<0
 .simp [h]
 .simp only [h,decide_false,cF,if_false];exact z5k a0 _ zsb zgm zKG (fun x n h0 h1=>zD ⟨h0,h1⟩) hl _ (by omega) (by omega) (jA _)
theorem zvS:uY 4 zro:=hF2 zZA zi zk zn zU6 zT6
def zbbI:zY:=[(4,zro)]++zbbH
theorem zZB:zJ zbbI:=zf zvS zZA
def zsc (l:List (List Ins)):Bool:=pc (CVB sm (.s (.sl .ins) l))
def zxF (l:List (List Ins)):List (List Ins):=l
def zDF:Run:=rF1 (dS (.sl .ins)) fun b=>(zsc b,[aS (.sl .ins) (zxF b)])
def zJY (N:Nat)(a0:lP):OA:=
 (oN (cond (few (ln a0)) (ieq (ln a0) (ln a0)) false) (iter (σ:=(Int×(lP×(lP×Unit)))) N (fun r2 s3=>(cond (ilt s3.1 (ln s3.2.1)) (oN (inb s3.1 (ln s3.2.1)) (oN (zuQ (ix s3.2.1 s3.1 [])) (oN (inb s3.1 (ln s3.2.2.1)) (share (up s3.2.2.1 s3.1 (zB1 (ix s3.2.1 s3.1 []))) (fun x4=>(r2 ((zB .i64 s3.1 1),(s3.2.1,(x4,()))))))))) (some [(aS (.sl .ins) s3.2.2.1)]))) (0,(a0,((rp (ln a0) []),())))))
def zYC:FuncId->Nat->Option Tmpl:=zl [(23,0,{ n:=23,tm:=[(0,.sl 0 []),(3,.sl 1 []),(4,ti)],lo:=[],ro:=[(0,(.sl .ins),false),(1,(.sl .ins),true)] })]
theorem zXL (a0:List lI)(hc:zsc a0=true):∃N,zJY N a0=some [aS (.sl .ins) (zxF a0)]:=by
 have hs:=zu.1 hc;have hl:=zb2 hs.len;refine ⟨a0.length+1,?_⟩;unfold zJY oN;rw[zdK hl.2,zlD];exact zIl a0 _ zuQ zB1 (fun l=>some [AV.one (.s (.sl .ins) l)]) hl.1 (fun x hx=>⟨by first|rfl|exact zD (hs.inv.2 x hx)|exact zD (hs.inv.2 x hx _ (qF.2 rfl)),rfl⟩) (jA _)
theorem zPK:uY 23 zDF:=kF1 zZB zi zk zn zYC zXL
def zbbJ:zY:=[(23,zDF)]++zbbI
theorem zZC:zJ zbbJ:=zf zPK zZB
def zhG (l:List (List (List Ins))):Bool:=pc (CVB sm (.s (.sl (.sl .ins)) l))
def zuP (l:List (List (List Ins))):List (List (List Ins)):=l
def zrp:Run:=rF1 (dS (.sl (.sl .ins))) fun b=>(zhG b,[aS (.sl (.sl .ins)) (zuP b)])
def zE4 (N:Nat)(a0:lQ):OA:=
 (oN (cond (few (ln a0)) (ieq (ln a0) (ln a0)) false) (iter (σ:=(Int×(lQ×(lQ×Unit)))) N (fun r2 s3=>(cond (ilt s3.1 (ln s3.2.1)) (oN (inb s3.1 (ln s3.2.1)) (oN (zsc (ix s3.2.1 s3.1 [])) (oN (inb s3.1 (ln s3.2.2.1)) (share (up s3.2.2.1 s3.1 (zxF (ix s3.2.1 s3.1 []))) (fun x4=>(r2 ((zB .i64 s3.1 1),(s3.2.1,(x4,()))))))))) (some [(aS (.sl (.sl .ins)) s3.2.2.1)]))) (0,(a0,((rp (ln a0) []),())))))
def zU7:FuncId->Nat->Option Tmpl:=zl [(7,0,{ n:=23,tm:=[(0,.sl 0 []),(3,.sl 1 []),(4,ti)],lo:=[],ro:=[(0,(.sl (.sl .ins)),false),(1,(.sl (.sl .ins)),true)] })]
theorem zT7 (a0:List lP)(hc:zhG a0=true):∃N,zE4 N a0=some [aS (.sl (.sl .ins)) (zuP a0)]:=by
 have hs:=zu.1 hc;have hl:=zb2 hs.len;refine ⟨a0.length+1,?_⟩;unfold zE4 oN;rw[zdK hl.2,zlD];exact zIl a0 _ zsc zxF (fun l=>some [AV.one (.s (.sl (.sl .ins)) l)]) hl.1 (fun x hx=>⟨by first|rfl|exact zD (hs.inv.2 x hx)|exact zD (hs.inv.2 x hx _ (qF.2 rfl)),rfl⟩) (jA _)
theorem zvT:uY 7 zrp:=kF1 zZC zi zk zn zU7 zT7
def zbbK:zY:=[(7,zrp)]++zbbJ
theorem zLP:zJ zbbK:=zf zvT zZC
def zuL (x y:Told):Bool:=pc (x=y)
def zwe (_ _:Told):Bool:=true
def zGX:Run:=rF2 (dT .told) (dT .told) fun b c=>(zuL b c,[aB (zwe b c)])
def zOh (N:Nat)(a0:Told)(a1:Told):OA:=
 (cond (nB (zgL a0.Ok a1.Ok)) oF (cond (ine a0.N a1.N) oF oT))
theorem z0N (a0:Told)(a1:Told)(hc:zuL a0 a1=true):∃N,zOh N a0 a1=some [aB (zwe a0 a1)]:=by
 have:=zu.1 hc;subst this;refine ⟨0,?_⟩;simp only[zOh, zhT,zbr,zbS,cT,cF,jI,zwe]
theorem zSS:uY 31 zGX:=kF2 zLP zi zk zn (zl []) z0N
def zr8 (x y:List (List Ins)):Bool:=pc (x=y)
def ztb (_ _:List (List Ins)):Bool:=true
def zDz:Run:=rF2 (dS (.sl .ins)) (dS (.sl .ins)) fun b c=>(zr8 b c,[aB (ztb b c)])
def zJS (N:Nat)(a0:lP)(a1:lP):OA:=
 (cond (ine (ln a0) (ln a1)) oF (iter (σ:=(Int×(lP×(lP×Unit)))) N (fun r3 s4=>(cond (ilt s4.1 (ln s4.2.1)) (oN (inb s4.1 (ln s4.2.1)) (oN (inb s4.1 (ln s4.2.2.1)) (oN (zmn (ix s4.2.1 s4.1 []) (ix s4.2.2.1 s4.1 [])) (cond (nB (zoj (ix s4.2.1 s4.1 []) (ix s4.2.2.1 s4.1 []))) oF (r3 ((zB .i64 s4.1 1),(s4.2.1,(s4.2.2.1,())))))))) oT)) (0,(a0,(a1,())))))
def zYw:FuncId->Nat->Option Tmpl:=zl [(32,0,{ n:=27,tm:=[(0,.sl 0 []),(1,.sl 1 []),(5,ti)],lo:=[],ro:=[(0,(.sl .ins),false),(1,(.sl .ins),false)] })]
theorem zXF (a0:List lI)(a1:List lI)(hb:zby big [aS (.sl .ins) a0,aS (.sl .ins) a1])(hc:zr8 a0 a1=true):∃N,zJS N a0 a1=some [aB (ztb a0 a1)]:=by
 have:=zu.1 hc;subst this;have hl:=(len0 hb);refine ⟨a0.length+1,?_⟩;unfold zJS oN nB;rw[zbr];refine zhi a0 (Ty.dflt (.sl .ins)) _ _ hl (fun i hi rec=>?_) (fun rec=>?_) (jA _)
 .simp only [zU hi,zK hi,zS hi,zmn,zoj,zhT,zbr,zbS,cT,cF,jI]
 .simp only [zQ,cF,ztb]
theorem zPE:uY 32 zDz:=hF2 zLP zi zk zn zYw zXF
def zbeO:zY:=[(31,zGX),(32,zDz)]++zbbK
theorem zZD:zJ zbeO:=zf zSS (zf zPE zLP)
def zkI (x y:List Told):Bool:=pc (x=y)
def zlH (_ _:List Told):Bool:=true
def zDD:Run:=rF2 (dS .told) (dS .told) fun b c=>(zkI b c,[aB (zlH b c)])
def zJW (N:Nat)(a0 a1:lT):OA:=
 (cond (ine (ln a0) (ln a1)) oF (iter (σ:=(Int×(lT×(lT×Unit)))) N (fun r3 s4=>let y1:=(ix s4.2.1 s4.1 zBi);let y0:=(ix s4.2.2.1 s4.1 zBi); (cond (ilt s4.1 (ln s4.2.1)) (oN (inb s4.1 (ln s4.2.1)) (oN (inb s4.1 (ln s4.2.2.1)) (oN (zuL y1 y0) (cond (nB (zwe y1 y0)) oF (r3 ((zB .i64 s4.1 1),(s4.2.1,(s4.2.2.1,())))))))) oT)) (0,(a0,(a1,())))))
def zYA:FuncId->Nat->Option Tmpl:=zl [(11,0,{ n:=27,tm:=[(0,.sl 0 []),(1,.sl 1 []),(5,ti)],lo:=[],ro:=[(0,.told,false),(1,.told,false)] })]
theorem zXJ (a0 a1:List Told)(hb:zby big [aS .told a0,aS .told a1])(hc:zkI a0 a1=true):∃N,zJW N a0 a1=some [aB (zlH a0 a1)]:=by
 have:=zu.1 hc;subst this;have hl:=(len0 hb);refine ⟨a0.length+1,?_⟩;unfold zJW oN nB
 conv=>zeta
 rw[zbr];refine zhi a0 zBi _ _ hl (fun i hi rec=>?_) (fun rec=>?_) (jA _)
 .simp only [zU hi,zK hi,zS hi,zuL,zwe,zhT,zbr,zbS,cT,cF,jI]
 .simp only [zQ,cF,zlH]
theorem zPI:uY 11 zDD:=hF2 zZD zi zk zn zYA zXJ
def zpR (x y:List (List (List Ins))):Bool:=pc (x=y)
def zpQ (_ _:List (List (List Ins))):Bool:=true
def zAJ:Run:=rF2 (dS (.sl (.sl .ins))) (dS (.sl (.sl .ins))) fun b c=>(zpR b c,[aB (zpQ b c)])
def zEY (N:Nat)(a0:lQ)(a1:lQ):OA:=
 (cond (ine (ln a0) (ln a1)) oF (iter (σ:=(Int×(lQ×(lQ×Unit)))) N (fun r3 s4=>(cond (ilt s4.1 (ln s4.2.1)) (oN (inb s4.1 (ln s4.2.1)) (oN (inb s4.1 (ln s4.2.2.1)) (oN (zr8 (ix s4.2.1 s4.1 []) (ix s4.2.2.1 s4.1 [])) (cond (nB (ztb (ix s4.2.1 s4.1 []) (ix s4.2.2.1 s4.1 []))) oF (r3 ((zB .i64 s4.1 1),(s4.2.1,(s4.2.2.1,())))))))) oT)) (0,(a0,(a1,())))))
def zU2:FuncId->Nat->Option Tmpl:=zl [(12,0,{ n:=27,tm:=[(0,.sl 0 []),(1,.sl 1 []),(5,ti)],lo:=[],ro:=[(0,(.sl (.sl .ins)),false),(1,(.sl (.sl .ins)),false)] })]
theorem zTX (a0:List lP)(a1:List lP)(hb:zby big [aS (.sl (.sl .ins)) a0,aS (.sl (.sl .ins)) a1])(hc:zpR a0 a1=true):∃N,zEY N a0 a1=some [aB (zpQ a0 a1)]:=by
 have:=zu.1 hc;subst this;have hl:=(len0 hb);refine ⟨a0.length+1,?_⟩;unfold zEY oN nB;rw[zbr];refine zhi a0 (Ty.dflt (.sl (.sl .ins))) _ _ hl (fun i hi rec=>?_) (fun rec=>?_) (jA _)
 .simp only [zU hi,zK hi,zS hi,zr8,ztb,zhT,zbr,zbS,cT,cF,jI]
 .simp only [zQ,cF,zpQ]
theorem zMn:uY 12 zAJ:=hF2 zZD zi zk zn zU2 zTX
theorem zGf {α β:Type}{f:α->β}{l:List α}{x:β}{xs:List β}(h:l.map f=x :: xs):∃a r,l=a :: r/\f a=x/\r.map f=xs:=by
 cases l with
 | nil=>cases h
 | cons a r =>
  simp only[jM,List.cons.injEq]at h;exact ⟨a,r,rfl,h.1,h.2⟩
theorem zbem {a:AV}{ct:CTy}(h:some a.sh=some (false,[ct])):∃c,a = .one c/\c.ty=ct:=by
 cases a with
 | one c =>
  simp only[AV.sh,qB,qY,List.cons.injEq,and_true,true_and]at h;exact ⟨c,rfl,h⟩
 | agg l=>simp[AV.sh]at h
theorem sh_s {a:AV}{t:Ty}(h:some a.sh=some (false,[.s t])):∃l:List t.den,a = .one (.s t l):=by
 obtain ⟨c,rfl,hc⟩:=zbem h;obtain ⟨l,rfl⟩:=zl7 hc;exact ⟨l,rfl⟩
section
open Go Go.ChangeShapes Go.WideShapes Go.ChangeAt
def zbby:zY:=[(6,zAS),(9,zAo),(4,zro),(7,zrp),(12,zAJ),(11,zDD),(5,zwz),(8,zGZ),(13,zGP),(19,zp9)]++zbbp
theorem z9K:zJ zbby:=zf zMA (zf zL2 (zf zvS (zf zvT (zf zMn (zf zPI (zf zz0 (zf zSU (zf zSK (zf zt8 z9J)))))))))
theorem zbdn {α:Type}{l:List α}{n:Int}(h1:n<=1048576)(h:0<=szL l n):l.length<=1048576:=by
 unfold szL at h;split at h<;>omega
theorem z7m (l:List (List (List Ins))):W (mcL zQW l) (ze9 l) :=
 z7n (mc:=fun x=>mcL zQV x) (s:=0) (by decide) (fun x=>z7n (mc:=fun x=>mcL zpZ x) (s:=0) (by decide) zbeB (fun p=>by simp only[zQV];omega) x) (fun x=>by simp only[zQW];omega) l
theorem zZI (h:Host):zoc h 1=1+zB5 h:=by
 have e1:zbG h.Memory 1=1+mcL znX h.Memory:=zbv zhu.nx _ _;have e2:∀k,zcm h.Mons k=k+mcL zol h.Mons:=zbv zOM.nx _;have e3:∀k,zb6 h.Buffer k=k+mcL zjn h.Buffer:=zbv zoN.nx _;have e4:∀k,zb6 h.IoBuffer k=k+mcL zjn h.IoBuffer:=zbv zoN.nx _;unfold zoc zB5;rw[e4,e3,e2,e1];omega
def zkX (N:Nat)(a0:lQ)(a1:lA):OA:=
 let y11:=(ze9 a0 1048576);let y4:=(zB0 a1);let y3:=(zuP a0);let y9:=(zqs y3 y4);let y8:=(zqr y3 y4);let y5:=(zpt y3 y4);let y0:=(zps y3 y4);let y13:=(zbG y0.Memory 1);let y6:=(zcm y0.Mons y13);let y2:=(zb6 y0.Buffer y6);let y10:=(zb6 y0.IoBuffer y2); (oN (zwg a0 1048576) (cond (ilt y11 0) oT (oN (zuN a1 y11) (cond (ilt (zrg a1 y11) 0) oT (oN (zhG a0) (oN (zjY a1) (oN (zqu y3 y4) (oN (zhG a0) (oN (zjY a1) (oN (zls y3 y4) (oN (zmm y0 y8) (cond (nB (zoi y0 y8)) oF (oN (zkI y5 y9) (cond (nB (zlH y5 y9)) oF (oN (zhG a0) (oN (zpR y3 y3) (cond (nB (zpQ y3 y3)) oF (oN (zjY a1) (oN (zuG y4 y4) (cond (nB (zv9 y4 y4)) oF (oN (zmt y3 1) (share (zrf y3 1) (fun x3=>(oN (zpW y4 (zfJ y3 1)) (share (zwf y4 (zfJ y3 1)) (fun x4=>(cond (ilt (zpV y4 (zfJ y3 1)) 0) oF (oN (zmm y0 y8) (cond (nB (zoi y0 y8)) oF (oN (zkI y5 y9) (cond (nB (zlH y5 y9)) oF (oN (zgD y0.Memory 1) (share (zh6 y0.Memory 1) (fun x5=>(oN (zlJ y0.Mons y13) (share (zpX y0.Mons y13) (fun x6=>(oN (zeR y0.Buffer y6) (share (zho y0.Buffer y6) (fun x7=>(oN (zeR y0.IoBuffer y2) (share (zho y0.IoBuffer y2) (fun x8=>let y7:=(⟨x5,x6,x7,x8⟩:Host);let y1:=(zmp y7 1); (oN (znV y5 y10) (share (zkl y5 y10) (fun x9=>let y12:=(ine (zkK x9 y1) (zkm y5 y10)); (oN (zlI y7 1) (cond (ilt y1 0) oF (oN (zkj x9 y1) (cond (ilt (zkK x9 y1) 0) oF (cond y12 oF (oN (zhG a0) (oN (zjY a1) (oN (zls y3 y4) (oN (zmm y0 y8) (cond (nB (zoi y0 y8)) oF (oN (zkI y5 y9) (cond (nB (zlH y5 y9)) oF (oN (zlI y7 1) (cond (ilt y1 0) oF (oN (zkj x9 y1) (cond (ilt (zkK x9 y1) 0) oF (cond y12 oF oT)))))))))))))))))))))))))))))))))))))))))))))))))))))))))))))))
theorem zB8 (N:Nat)(a0:List (List (List Ins)))(a1:List GAct):evalFn (cQ zbby zom z1x zbcd) (zl []) N 12 3 [aS (.sl (.sl .ins)) a0,aS .act a1]=zkX N a0 a1:=by kernel_rfl
theorem zzQ (a0:List (List (List Ins)))(a1:List GAct)(ho:∀c∈zA [aS (.sl (.sl .ins)) a0,aS .act a1],CVOk c):∃N,zkX N a0 a1=some [.one (.b true)]:=by
 have hb:zby big [aS (.sl (.sl .ins)) a0,aS .act a1]:=fun c hc=>CVB.of_ok (ho c hc);refine ⟨0,?_⟩;unfold zkX oN nB
 conv=>zeta
 refine must (zD ⟨by decide,by decide⟩) ?_
 cases hz:ilt (ze9 a0 1048576) 0
 .obtain ⟨h1,hb1⟩:=zZ8 a0 1048576 (by decide) (by decide)
  have h0:0<=ze9 a0 1048576:=by
   have:=qW hz;omega
  have hv:=hb1 h0;have hps:zxe a0:=by
   have hw:=hv;rw[zjM]at hw;refine ⟨hw.1,fun p hp=>?_⟩;have h2:=hw.2 p hp (.s (.sl .ins) p) (by simp[Ty.cells])
   rw[zjM]at h2;exact ⟨h2.1,fun q hq=>(z5P q).1 (h2.2 q hq (.s .ins q) (by simp[Ty.cells]))⟩
  have z1:zuN a1 (ze9 a0 1048576)=true:=zD ⟨h0,h1⟩;cases hy:ilt (zrg a1 (ze9 a0 1048576)) 0
  .have hal:a1.length<=1048576:=zbdn h1 (by have:=qW hy;unfold zrg at this;omega)
   have hW:=(z7m a0 1048576 (by decide) (by decide)).2 h0
   have M1:=zNr z4w a0 1 (by decide) (by omega)
   have hA:mcL zNl a1<=15*a1.length:=zQY (fun _=>by unfold zNl;decide) a1
   have M2:=zNr zbaP a1 (enL zQ4 a0 1) M1.nn (by rw[M1.v];omega)
   obtain ⟨w1,w2⟩:=zbcS hps a1;have t0:zhG a0=true:=zD hv;have t1:zjY a1=true:=zD hal;have s1:zqu a0 a1=true:=zD ⟨hps,hal⟩;have i1:zls a0 a1=true:=zD ⟨hps,hal⟩;have R:=resH (h:=(zeG a0 a1).1) w1;have RT:=zNr zZd (zeG a0 a1).2 (zoc (zeG a0 a1).1 1) (by rw[zZI];have:=qW R.nn;rw[zZI] at this;omega) (by rw[zZI];omega)
   have q2:∀l,zkI l l=true:=fun l=>zD rfl;have q3:∀l,zpR l l=true:=fun l=>zD rfl;have q4:∀l,zuG l l=true:=fun l=>zD rfl;have m1:zmt a0 1=true:=zD M1.c;have m2:zpW a1 (zfJ a0 1)=true:=zD M2.c;have m3:ilt (zpV a1 (zfJ a0 1)) 0=false:=zeu M2.nn;simp only[zqr,zqs,zps,zpt,zuP,zB0];generalize (zeG a0 a1).1=G at *;generalize (zeG a0 a1).2=T at *;have r1:=R.hc;have r2:=R.e;have r3:=R.nn;have r4:znV T (zoc G 1)=true:=zD RT.c;have r6:zkj (zkl T (zoc G 1)) (zoc G 1)=true:=zD RT.hc;have r7:zkK (zkl T (zoc G 1)) (zoc G 1)=zkm T (zoc G 1):=RT.e;have r8:ilt (zkm T (zoc G 1)) 0=false:=zeu RT.nn;unfold zo0 at r1 r2;unfold zoc at r2 r3 r4 r6 r7 r8;simp only[share,z1,hy,t0,t1,s1,i1,z9U,z9V,q2,q3,q4,zlH,zpQ,zv9,m1,m2,m3,R.c1,R.c2,R.c3,R.c4,r1,r2,r3,r4,r6,r7,r8,zbr,jI,cT,cF]
  .simp only [z1,hy,cT,cF]
 .rfl
theorem zwZ:Tryz.f3.params.toList.map (zcb Tryz.prog 4)=[some (false,[.s (.sl (.sl .ins))]),some (false,[.s .act])]:=by kernel_rfl
theorem zul:z4q 3 Tryz.f3.params.toList:=by
 refine z2M z9K zi zbh zbu (zdQ (by kernel_rfl)) ?_
 intro avs hg;obtain ⟨h1,h2⟩:=hg;rw[zwZ]at h1;obtain ⟨v0,r0,rfl,e0,h1⟩:=zGf h1;obtain ⟨v1,r1,rfl,e1,h1⟩:=zGf h1;cases List.map_eq_nil_iff.1 h1;obtain ⟨a0,rfl⟩:=sh_s e0;obtain ⟨a1,rfl⟩:=sh_s e1;obtain ⟨N,hN⟩:=zzQ a0 a1 h2;exact ⟨zl [],N,12,(zB8 N a0 a1).trans hN⟩
theorem zzo (H:Type)(ds:List (DataW H))(h:ds.length=Tryz.f3.params.toList.length):Rows.fnExactHostLifeSpec.fn H ds={ results:=[.lit (.bool true)],args:=ds }:=by
 have hl:ds.length=2:=h.trans (by kernel_rfl)
 match ds,hl with
 | [d1,d2],_=>rfl
set_option maxRecDepth 100000 in
theorem zwi (os:Os)(started:os.Started)(H:Type)(enc:TypeId×Value->H) :
 ReturnsInHanded {} Tryz.checked os 3 .any (Rows.fnExactHostLifeSpec.pre6 enc Tryz.prog Tryz.f3 Rows.fnExactHostLifeRow.domain false) (Rows.fnExactHostLifeSpec.post enc Tryz.prog Tryz.f3 false true false false):=by
 refine returnsInHanded_of_change_shaped (C:=Tryz.checked) own started (by kernel_rfl) Tryz.func3
  (ChangeSpec.witness6 (enc:=enc) (C:=Tryz.checked) false ⟨#[],#[.slice none 0 0,.slice none 0 0],[]⟩ 8 (by kernel_rfl) (by kernel_rfl) (by kernel_rfl) (by kernel_rfl)) ?_
 intro W base args ds gs before hval hW _ hsz _ _;exact zQk (P:=Tryz.prog) z9p z98 rfl zzo (by kernel_rfl) (B:=4) (by kernel_rfl) (by kernel_rfl) zul W base args ds gs before hval hW hsz
end
end
end Go.Proofs.YtmjbkmbimgdodaaGreat.E
