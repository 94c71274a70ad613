/- What is proved here: a part of the proof that the statement of this claim holds (several texts of wip/, laid together). -/
import Derived.Test.YtdnmkiajccpnoaaGreatU5
import Derived.Shelf.Bits.Mul64
import Derived.Ground.NamesProg
import Derived.Laws.CopyOwn
import Derived.Deep.RegionLaw
import Derived.WalkKit
import Derived.Tactics2
namespace Go.Proofs.YtdnmkiajccpnoaaGreat.E
open Go
set_option linter.unusedVariables false
set_option maxRecDepth 100000
set_option linter.unusedSimpArgs false
set_option linter.unusedSectionVars false
noncomputable section
def z9K:zV:=[(45,ztE),(187,ztJ)]++z9J
theorem z7F:zJ z9K:=zf zw3 (zf zw8 z7E)
def cnt (l:List Mon):List Nat:=l.map fun x=>x.Guests.length
theorem zbbL {l l':List Mon}(h:zd1 l'=zd1 l):cnt l'=cnt l:=by
 have e:∀l:List Mon,cnt l=(zd1 l).map List.length:=fun l=>by simp[cnt,zd1]
 rw[e,e,h]
theorem zWV {l:List Mon}{m:Int}{x:Mon}(hm:hasB m (ln l)=true)(hx:x.Guests.length=(ix l m mZ).Guests.length):cnt (up l m x)=cnt l:=by
 obtain ⟨k,rfl,hk⟩:=zds (n:=l.length) hm;unfold cnt up;rw[List.map_set,kC,hx,zbc hk];have:=@uQ _ (l.map fun x=>x.Guests.length) k (by simpa using hk)
 simpa using this
theorem zbar {l l':List Mon}(h:cnt l'=cnt l):l'.length=l.length:=by
 have:=congrArg List.length h;simpa [cnt] using this
theorem zbbM {l l':List Mon}(h:cnt l'=cnt l)(m:Int):(ix l' m mZ).Guests.length=(ix l m mZ).Guests.length:=by
 have h2:(cnt l')[m.toNat]?=(cnt l)[m.toNat]?:=by rw[h]
 unfold cnt at h2;rw[qM,qM]at h2;unfold ix;simp only[kF];cases h3:l'[m.toNat]? <;> cases h4:l[m.toNat]? <;> rw [h3,h4]at h2<;>simp at h2 ⊢;exact h2
theorem zba6 (h:Host)(m p:Int):(zfu h m p).Memory=h.Memory:=(zgk (zf2 h m p) m p noSlot).2
theorem zba5 (h:Host):(zdw h).Memory=h.Memory:=by
 unfold zdw;cases ieq (ln (zcz h)) 0
 .rfl
 .exact zba6 _ _ _
theorem zba4 (m:List (List Int))(p:Int)(c:List Int):(zj8 m p c).length=m.length:=by
 unfold zj8;cases hasB p (ln m)
 .rfl
 .cases zcH c
  .rfl
  .simp
theorem zba2 (m:List (List Int))(p c v:Int):(zer m p c v).length=m.length:=by
 unfold zer;cases zjk m p c
 .rfl
 .cases win v 0 99
  .rfl
  .simp
theorem z3D (h:Host)(m p:Int):(fetched h m p).Memory.length=h.Memory.length:=by
 unfold fetched zla;rw[(zgk _ _ _ _).2];unfold landing;rw[zba4,zba5]
theorem zYI (h:Host)(m p n:Int):(zmo h m p n).Memory=h.Memory:=by
 unfold zmo;cases ieq (wand .i64 n 2) 0
 .unfold opened;cases ieq (wand .i64 (ix (ix (zbO h m p).Mons m mZ).Outer p sZ).Rights 2) 0
  .rfl
  .exact (zgk _ _ _ _).2
 .rfl
theorem z5Z (h:Host)(m p n:Int):(mended h m p n).Memory.length=h.Memory.length:=by
 unfold mended;cases ieq (ix (ix h.Mons m mZ).Outer p sZ).Page (-1)
 .exact congrArg List.length (zYI _ _ _ _)
 .exact (congrArg List.length (zYI _ _ _ _)).trans (z3D _ _ _)
theorem z6a (h:Host)(m g p:Int)(io:Bool):(zWt h m g p io).Memory=h.Memory:=by cases io<;>rfl
theorem z8a (h:Host)(b:List Entry)(m g page need q:Int)(io:Bool):(zic h b m g page need q io).1.Memory.length=h.Memory.length:=by
 unfold zic;cases zkw b m g page need
 .cases zeE h m g page need
  .exact congrArg List.length (z6a _ _ _ _ _)
  .exact (congrArg List.length (z6a _ _ _ _ _)).trans (z5Z h m q need)
 .rfl
theorem zba3 (h:Host)(b:List Entry)(m g page need:Int)(io:Bool):(lookOf h b m g page need io).1.Memory.length=h.Memory.length:=by
 unfold lookOf;cases zbX h m g page need
 .rfl
 .simp only [cT];rw[z8a];cases ieq need 2<;>rfl
structure Keep (h r:Host):Prop where
 shape:Shape r
 cnt:cnt r.Mons=cnt h.Mons
 mem:r.Memory.length=h.Memory.length
theorem Keep.has {h r:Host}(k:Keep h r){m:Int}(hm:hasB m (ln h.Mons)=true):hasB m (ln r.Mons)=true:=by
 rw[ln,zbar k.cnt];exact hm
theorem Keep.hg {h r:Host}(k:Keep h r){m g:Int}(hg:hasB g (ln (ix h.Mons m mZ).Guests)=true):hasB g (ln (ix r.Mons m mZ).Guests)=true:=by
 rw[ln,zbbM k.cnt];exact hg
theorem Keep.trans {a b c:Host}(h:Keep a b)(k:Keep b c):Keep a c:=⟨k.shape,k.cnt.trans h.cnt,k.mem.trans h.mem⟩
theorem Keep.rfl' {h:Host}(hs:Shape h):Keep h h:=⟨hs,rfl,rfl⟩
theorem zoC {h:Host}{m g:Int}{x:Guest}(hs:Shape h)(hm:hasB m (ln h.Mons)=true)(hx:SmG x):Keep h (zgn h m g x):=⟨z4p hs hm hx,zWV hm (by simp),rfl⟩
theorem zFf {h:Host}{b:List Entry}{m g page need:Int}{io:Bool}(hs:SmH h)(hh:zb5 h m g=true):Keep h (lookOf h b m g page need io).1:=by
 have k:=zuZ (b:=b) (page:=page) (need:=need) (io:=io) hs hh;exact ⟨k.shape,zbbL k.gs,zba3 _ _ _ _ _ _ _⟩
theorem z5L {h:Host}{p c v:Int}(hs:Shape h):Keep h { h with Memory:=zer h.Memory p c v }:=⟨zUg hs (zww hs.1.1),rfl,zba2 _ _ _ _⟩
theorem z3r {h:Host}{m:Int}(hs:Shape h)(hm:hasB m (ln h.Mons)=true):Keep h (owned h m):=by
 obtain ⟨g1,g2⟩:=zb7 hs hm;unfold owned;cases ilt (ix h.Mons m mZ).Own 1000000000
 .exact Keep.rfl' hs
 .exact ⟨ziP hs g1 g2,zWV hm rfl,rfl⟩
theorem z3q {h:Host}{m n:Int}(hs:Shape h)(hm:hasB m (ln h.Mons)=true):Keep h (zlz h m n):=by
 obtain ⟨g1,g2⟩:=zb7 hs hm;unfold zlz;cases h3:ilt (ln (ix h.Mons m mZ).Outs) 40
 .exact Keep.rfl' hs
 .have h4:=qD h3;simp only[ln]at h4;refine ⟨ziP hs ⟨g1.1,g1.2.1,g1.2.2.1,g1.2.2.2.1,?_,g1.2.2.2.2.2⟩ g2,zWV hm rfl,rfl⟩;simp[ap];omega
theorem z5N {h:Host}{m g:Int}{x:Guest}{w:Int}(hs:Shape h)(hm:hasB m (ln h.Mons)=true)(hx:SmG x):Keep h (zk3 h m g x w):=by
 have k1:Keep h (zf9 h m x w):=by
  unfold zf9;cases (cond (ine w 6) (ieq (zkV (ix h.Mons m mZ).Traps x.Ctl.Traps (zfs w)) 2) false)
  .exact Keep.rfl' hs
  .exact z3r hs hm
 have k2:Keep (zf9 h m x w) (zj7 (zf9 h m x w) m x w):=by
  unfold zj7;cases (cond (zhK x.Ctl.Traps w) (ieq w 5) false)
  .exact Keep.rfl' k1.shape
  .exact z3q k1.shape (k1.has hm)
 have k3:=k1.trans k2;exact k3.trans (zoC k3.shape (k3.has hm) (zGx _ _ hx))
theorem z5M {h:Host}{m g:Int}(hs:SmH h)(hh:zb5 h m g=true):Keep h (zbq h m g).1:=by
 obtain ⟨g1,g2,g3⟩:=zct hh;have hx:=zks hs g2 g3;have hS:=(zea hs g1).1;rw[ziQ hh];unfold zPG;cases ieq (zG (gOf h m g)) 0
 .cases ieq (zG (gOf h m g)) 1
  .cases ieq (zG (gOf h m g)) 2
   .cases (cond (ieq (zG (gOf h m g)) 3) true (ieq (zG (gOf h m g)) 4))
    .exact z5N hS g2 hx
    .have k:=zFf (b:=h.Buffer) (page:=zb0 (address (gOf h m g))) (need:=zff (ieq (zG (gOf h m g)) 4)) (io:=false) hs hh
     show Keep h (ziT (ziW h m g (gOf h m g) (ieq (zG (gOf h m g)) 4)) m g (gOf h m g) (ieq (zG (gOf h m g)) 4))
     unfold ziT;cases (ziW h m g (gOf h m g) (ieq (zG (gOf h m g)) 4)).2.2
     .exact k.trans (zoC k.shape (k.has g2) hx)
     .cases ieq (zG (gOf h m g)) 4
      .have k:=zFf (b:=h.Buffer) (page:=zb0 (address (gOf h m g))) (need:=zff false) (io:=false) hs hh;exact k.trans (zoC k.shape (k.has g2) (zPC _ hx))
      .have k:=zFf (b:=h.Buffer) (page:=zb0 (address (gOf h m g))) (need:=zff true) (io:=false) hs hh;have k2:=z5L (p:=(ziW h m g (gOf h m g) true).2.1) (c:=zfF (address (gOf h m g))) (v:=(gOf h m g).A) k.shape;have k3:=k.trans k2;exact k3.trans (zoC k3.shape (k3.has g2) (zjI hx))
   .exact zoC hS g2 (zJR hx)
  .exact zoC hS g2 (z2i hx)
 .exact Keep.rfl' hS
structure Same (h r:Host):Prop where
 sm:SmH r
 cnt:cnt r.Mons=cnt h.Mons
 mem:r.Memory.length=h.Memory.length
 st:r=h\/Shape r
theorem Same.rfl' {h:Host}(hs:SmH h):Same h h:=⟨hs,rfl,rfl,.inl rfl⟩
theorem Same.trans {a b c:Host}(h:Same a b)(k:Same b c):Same a c:=⟨k.sm,k.cnt.trans h.cnt,k.mem.trans h.mem,by
 rcases k.st with e|e
 .rw [e];exact h.st
 .exact .inr e⟩
theorem z6E {h:Host}(m g:Int)(hs:SmH h):Same h (zbq h m g).1:=by
 cases hh:zb5 h m g
 .rw [zhX hh];exact Same.rfl' hs
 .have k:=z5M hs hh;exact ⟨k.shape.1,k.cnt,k.mem,.inr k.shape⟩
def z9L:zV:=[(70,zq2),(45,ztE),(187,ztJ)]++z2N
theorem zjN:zJ z9L:=zf zvs (zf zw3 (zf zw8 zn1))
theorem zWS {a b:Bool}(h:(a=true)↔(b=true)):a=b:=by cases a<;>cases b<;>simp_all
@[simp] theorem zbcs (x:Int):win x 0 3=hasB x 4:=zWS (by rw[zeM];unfold hasB;rw[decide_eq_true_iff];omega)
@[simp] theorem zP5 (x:Int):win x 0 7=hasB x 8:=zWS (by rw[zeM];unfold hasB;rw[decide_eq_true_iff];omega)
def ziU (t:List Slot)(p:Int)(s:Slot):List Slot:=bif hasB p (ln t) then up t p s else t
@[simp] theorem zbct (t:List Slot)(p:Int)(s:Slot):(ziU t p s).length=t.length:=by
 unfold ziU;cases hasB p (ln t)<;>simp
@[simp] abbrev zqk (t:List Slot)(p:Int)(s:Slot):Bool:=pc (t.length<=1048576)
@[simp] abbrev zmI (t:List Slot)(p:Int)(s:Slot):List Slot:=ziU t p s
def zAo:Run:=rF3 (dS .slot) dI (dT .slot) fun b c d=>(zqk b c d,[aS .slot (zmI b c d)])
def zEo (N:Nat)(a0:lS)(a1:Int)(a2:Slot):OA:=
 (oN (few (ln (ap [] a0))) (oN (zL a1 0 (wsub .i64 (ln a0) 1)) (cond (zO a1 0 (wsub .i64 (ln a0) 1)) (oN (inb a1 (ln (ap [] a0))) (share (up (ap [] a0) a1 a2) (fun x4=>(some [(aS .slot x4)])))) (some [(aS .slot (ap [] a0))]))))
theorem zSk (a0:List Slot)(a1:Int)(a2:Slot)(hc:zqk a0 a1 a2=true):∃N,zEo N a0 a1 a2=some [aS .slot (zmI a0 a1 a2)]:=by
 have hs:=zy.1 hc;refine ⟨0,?_⟩;unfold zEo oN;refine mu (must rfl (br (fun _=>mu (shr ?_)) (fun _=>?_)))
 all_goals first|rfl|(simp only [*,zmI,ziU,cT,cF]<;>rfl)|simp_all[Ty.cells,zmI,ziU]
theorem zK8:u4 276 zAo:=kF3 zjN zi zl zn (zk []) zSk
@[simp] abbrev zpu (t:List Slot)(p:Int)(s:Slot):Bool:=pc (t.length<=1048576)
@[simp] abbrev zmg (t:List Slot)(p:Int)(s:Slot):List Slot:=ziU t p s
def zzY:Run:=rF3 (dS .slot) dI (dT .slot) fun b c d=>(zpu b c d,[aS .slot (zmg b c d)])
def zDV (N:Nat)(a0:lS)(a1:Int)(a2:Slot):OA:=
 (oN (zfx a0) (oN (zbx a1 (ln a0)) (cond (zbK a1 (ln a0)) (oN (inb a1 (ln (zdL a0))) (share (up (zdL a0) a1 a2) (fun x4=>(some [(aS .slot x4)])))) (some [(aS .slot (zdL a0))]))))
theorem zRQ (a0:List Slot)(a1:Int)(a2:Slot)(hc:zpu a0 a1 a2=true):∃N,zDV N a0 a1 a2=some [aS .slot (zmg a0 a1 a2)]:=by
 have hs:=zy.1 hc;refine ⟨0,?_⟩;unfold zDV oN;refine mu (must rfl (br (fun _=>mu (shr ?_)) (fun _=>?_)))
 all_goals first|rfl|(simp only [*,zmg,ziU,cT,cF]<;>rfl)|simp_all[Ty.cells,zmg,ziU]
theorem zKG:u4 162 zzY:=kF3 zjN zi zl zn (zk []) zRQ
def zgm (p n:Int):Bool:=bif zeX p then win n 0 7 else false
def zrV (p n:Int):Int:=bif zgm p n then wor .i64 p (zmY .i64 1 n) else p
theorem cv7 {n:Int}(h:hasB n 8=true):wcv .u64 n=n/\ile 0 n=true:=by
 have:=qD h;exact ⟨zS6 (by omega) (by omega),qK (by omega)⟩
@[simp] abbrev zkM (p n:Int):Bool:=true
@[simp] abbrev zg5 (p n:Int):Int:=zrV p n
@[simp] abbrev znx (p n:Int):Bool:=zgm p n
def zCZ:Run:=rF2 dI dI fun b c=>(zkM b c,[aI (zg5 b c),aB (znx b c)])
def zIR (N:Nat)(a0 a1:Int):OA:=
 (oN (zfm a0) (cond (nB (zfl a0)) (some [(aI a0),(aB false)]) (oN (zL a1 0 7) (cond (nB (zO a1 0 7)) (some [(aI a0),(aB false)]) (oN (ile 0 (wcv .u64 a1)) (some [(aI (wor .i64 a0 (zmY .i64 1 (wcv .u64 a1)))),(aB true)]))))))
theorem zVG (a0 a1:Int)(hc:zkM a0 a1=true):∃N,zIR N a0 a1=some [aI (zg5 a0 a1),aB (znx a0 a1)]:=by
 have hw:=@cv7 a1;refine ⟨0,?_⟩;unfold zIR oN nB;refine must rfl (brN (fun _=>?_) (fun _=>must rfl (brN (fun _=>?_) (fun _=>mu ?_))))
 all_goals first|rfl|(simp only [*,zg5,znx,zrV,zgm,cT,cF]<;>rfl)|simp_all[Ty.cells,zg5,znx,zrV,zgm]
theorem zN6:u4 280 zCZ:=kF2 zjN zi zl zn (zk []) zVG
@[simp] abbrev zkD (p n:Int):Bool:=true
@[simp] abbrev zgX (p n:Int):Int:=zrV p n
@[simp] abbrev zng (p n:Int):Bool:=zgm p n
def zCB:Run:=rF2 dI dI fun b c=>(zkD b c,[aI (zgX b c),aB (zng b c)])
def zIq (N:Nat)(a0 a1:Int):OA:=
 (oN (zh7 a0) (cond (nB (ziD a0)) (some [(aI a0),(aB false)]) (oN (zbk a1 0 7) (cond (nB (zbr a1 0 7)) (some [(aI a0),(aB false)]) (oN (ile 0 a1) (some [(aI (wor .i64 a0 (zmY .i64 1 a1))),(aB true)]))))))
theorem zVd (a0 a1:Int)(hc:zkD a0 a1=true):∃N,zIq N a0 a1=some [aI (zgX a0 a1),aB (zng a0 a1)]:=by
 have hw:=@cv7 a1;refine ⟨0,?_⟩;unfold zIq oN nB;refine must rfl (brN (fun _=>?_) (fun _=>must rfl (brN (fun _=>?_) (fun _=>mu ?_))))
 all_goals first|rfl|(simp only [*,zgX,zng,zrV,zgm,cT,cF]<;>rfl)|simp_all[Ty.cells,zgX,zng,zrV,zgm]
theorem zNI:u4 172 zCB:=kF2 zjN zi zl zn (zk []) zVd
def posts (c:Ctl)(n:Int):Bool:=bif zjM c then (cond (win n 0 7) (ieq (wand .i64 (zjy .i64 c.Post n) 1) 1) false) else false
@[simp] abbrev zGt (c:Ctl)(n:Int):Bool:=true
@[simp] abbrev zAw (c:Ctl)(n:Int):Bool:=posts c n
def zJG:Run:=rF2 dC dI fun b c=>(zGt b c,[aB (zAw b c)])
def zTu (N:Nat)(a0:Ctl)(a1:Int):OA:=
 (oN (zs3 a0) (cond (zre a0) (oN (zL a1 0 7) (cond (zO a1 0 7) (oN (ile 0 (wcv .u64 a1)) (some [(aB (ieq (wand .i64 (zjy .i64 a0.Post (wcv .u64 a1)) 1) 1))])) oF)) oF))
theorem z0K (a0:Ctl)(a1:Int)(hc:zGt a0 a1=true):∃N,zTu N a0 a1=some [aB (zAw a0 a1)]:=by
 have hw:=@cv7 a1;refine ⟨0,?_⟩;unfold zTu oN;refine must rfl (br (fun _=>must rfl (br (fun _=>mu ?_) (fun _=>?_))) (fun _=>?_))
 all_goals first|rfl|(simp only [*,zAw,posts,cT,cF]<;>rfl)|simp_all[Ty.cells,zAw,posts]
theorem zUL:u4 315 zJG:=kF2 zjN zi zl zn (zk []) z0K
@[simp] abbrev zFa (c:Ctl)(n:Int):Bool:=true
@[simp] abbrev zzw (c:Ctl)(n:Int):Bool:=posts c n
def zJv:Run:=rF2 dC dI fun b c=>(zFa b c,[aB (zzw b c)])
def zTj (N:Nat)(a0:Ctl)(a1:Int):OA:=
 (oN (zsK a0) (cond (zqH a0) (oN (zbk a1 0 7) (cond (zbr a1 0 7) (oN (ile 0 a1) (some [(aB (ieq (wand .i64 (zjy .i64 a0.Post a1) 1) 1))])) oF)) oF))
theorem z0y (a0:Ctl)(a1:Int)(hc:zFa a0 a1=true):∃N,zTj N a0 a1=some [aB (zzw a0 a1)]:=by
 have hw:=@cv7 a1;refine ⟨0,?_⟩;unfold zTj oN;refine must rfl (br (fun _=>must rfl (br (fun _=>mu ?_) (fun _=>?_))) (fun _=>?_))
 all_goals first|rfl|(simp only [*,zzw,posts,cT,cF]<;>rfl)|simp_all[Ty.cells,zzw,posts]
theorem zUz:u4 246 zJv:=kF2 zjN zi zl zn (zk []) z0y
def zbU (b:Bare)(g:Int):Bool:=bif zbQ b then hasB g (ln b.Guests) else false
theorem zdx {b:Bare}{g:Int}:(zbU b g=true)↔zbQ b=true/\hasB g (ln b.Guests)=true:=by
 unfold zbU;cases zbQ b<;>simp
@[simp] abbrev zjF (b:Bare)(g:Int):Bool:=pc (SmB b)
@[simp] abbrev zkQ (b:Bare)(g:Int):Bool:=zbU b g
def zJJ:Run:=rF2 (dT .bare) dI fun b c=>(zjF b c,[aB (zkQ b c)])
def zTx (N:Nat)(a0:Bare)(a1:Int):OA:=
 (oN (zpY a0) (cond (zeJ a0) (oN (zL a1 0 (wsub .i64 (ln a0.Guests) 1)) (some [(aB (zO a1 0 (wsub .i64 (ln a0.Guests) 1)))])) oF))
theorem z0N (a0:Bare)(a1:Int)(hc:zjF a0 a1=true):∃N,zTx N a0 a1=some [aB (zkQ a0 a1)]:=by
 have hs:=zy.1 hc;have hl:a0.Guests.length<=1048576:=hs.2.1.1
 refine ⟨0,?_⟩;unfold zTx oN;refine must rfl (br (fun _=>must rfl ?_) (fun _=>?_))
 all_goals first|rfl|(simp only [*,zkQ,zbU,cT,cF]<;>rfl)|simp_all[Ty.cells,zkQ,zbU]
theorem zUO:u4 274 zJJ:=kF2 zjN zi zl zn (zk []) z0N
@[simp] abbrev zuf (b:Bare)(g:Int):Bool:=pc (SmB b)
@[simp] abbrev zll (b:Bare)(g:Int):GExit:=(gAt b g).Exit
def zFu:Run:=rF2 (dT .bare) dI fun b c=>(zuf b c,[.agg (zjO (zll b c))])
def zMa (N:Nat)(a0:Bare)(a1:Int):OA:=
 let y0:=(zc4 a0 a1); (oN (zc6 a0 a1) (some [(.agg [(.i .i64 y0.Exit.Kind),(.i .i64 y0.Exit.Page),(.b y0.Exit.Write),(.i .i64 y0.Exit.N)])]))
theorem zXC (a0:Bare)(a1:Int)(hc:zuf a0 a1=true):∃N,zMa N a0 a1=some [.agg (zjO (zll a0 a1))]:=by
 have hs:=zy.1 hc;refine ⟨0,?_⟩;unfold zMa oN
 conv=>zeta
 refine mu ?_
 first|rfl|(simp only [*,zll,cT,cF]<;>rfl)|simp_all[Ty.cells,zll]
theorem zQr:u4 169 zFu:=kF2 zjN zi zl zn (zk []) zXC
def z9M:zV:=[(276,zAo),(162,zzY),(280,zCZ),(172,zCB),(315,zJG),(246,zJv),(274,zJJ),(169,zFu)]++z9L
theorem zeq:zJ z9M:=zf zK8 (zf zKG (zf zN6 (zf zNI (zf zUL (zf zUz (zf zUO (zf zQr zjN)))))))
theorem zZ1 {α:Type}{l:List α}{i:Int}{d:α}(h:hasB i (ln l)=true):up l i (ix l i d)=l:=by
 obtain ⟨k,rfl,hk⟩:=zds (n:=l.length) h;unfold up;rw[zbc hk,kC];exact uQ hk
theorem zvo {b:Bare}{g:Int}(h:hasB g (ln b.Guests)=true):gAt b g=ix b.Guests g zo:=by
 unfold gAt;rw[h];rfl
theorem z6F {b:Bare}{g:Int}(h:hasB g (ln b.Guests)=true):zeK b g (gAt b g)=b:=by
 unfold zeK;rw[zvo h,zZ1 h]
def chg (b:Bare)(g:Int)(c:Bool)(x:Guest):Bare:=bif (cond (zbU b g) c false) then zeK b g x else b
def zbM (b:Bare)(g:Int)(c:Bool):Bool:=bif zbU b g then c else false
def zyQ (p:Int)(s:Slot):Bool:=bif hasB p 4 then zeY s 8 else false
def zyR (x:Guest)(p:Int)(s:Slot):Guest:={ x with Written:=ziU x.Written p s }
def zh3 (x:Guest)(p:Int):Guest:={ x with Live:=ziU x.Live p (zdB x.Written p) }
def zkh:GExit:=⟨0,0,false,0⟩
def zyf (x:Guest)(v:Int):Bool:=bif win v 0 99 then (cond (ieq x.Exit.Kind 2) true (ieq x.Exit.Kind 3)) else false
def zAD (x:Guest)(v:Int):Guest:=zbJ (stopped (cond (ieq x.Exit.Kind 2) { x with A:=v } x) zkh)
def zyB (x:Guest):Bool:=bif ieq x.Exit.Kind 1 then true else ieq x.Exit.Kind 4
def zBp (x:Guest):Guest:=bif ieq x.Exit.Kind 1 then stopped x zkh else held (stopped x zkh)
def zmT (x:Guest)(n:Int):Guest:={ x with Pending:=zrV x.Pending n }
def zJ7 (x:Guest)(c:Ctl):Guest:={ x with Ctl:=c }
theorem zbaZ {x:Guest}{n:Int}(h:zgm x.Pending n=false):zmT x n=x:=by
 unfold zmT zrV;rw[h];rfl
theorem zZp {x:Guest}(p:Int)(s:Slot)(h:SmG x):SmG (zyR x p s):=⟨h.1,by simpa [zyR] using h.2.1,h.2.2.1,h.2.2.2⟩
theorem zuO {x:Guest}(p:Int)(h:SmG x):SmG (zh3 x p):=⟨h.1,h.2.1,by simpa [zh3] using h.2.2.1,h.2.2.2⟩
theorem z8r {x:Guest}(v:Int)(h:SmG x):SmG (zAD x v):=by
 unfold zAD;cases ieq x.Exit.Kind 2<;>exact zjI h
theorem z8s {x:Guest}(h:SmG x):SmG (zBp x):=by
 unfold zBp;cases ieq x.Exit.Kind 1
 .exact zZn (g:=stopped x zkh) h
 .exact h
theorem zoM {b:Bare}{g:Int}{c:Bool}{x:Guest}(h:SmB b)(hx:SmG x):SmB (chg b g c x):=by
 unfold chg;cases (cond (zbU b g) c false)
 .exact h
 .exact zon h hx
@[simp] abbrev zr0 (b:Bare)(g p:Int)(s:Slot):Bool:=pc (SmB b)
@[simp] abbrev ziM (b:Bare)(g p:Int)(s:Slot):Bare:=chg b g (zyQ p s) (zyR (gAt b g) p s)
@[simp] abbrev zkL (b:Bare)(g p:Int)(s:Slot):Bool:=zbM b g (zyQ p s)
def ztI:Run:=rF4 (dT .bare) dI dI (dT .slot) fun b c d e=>(zr0 b c d e,[aT .bare (ziM b c d e),aB (zkL b c d e)])
def zIC (N:Nat)(a0:Bare)(a1 a2:Int)(a3:Slot):OA:=
 let y0:=(zb6 a0);let y1:=(ix y0.Guests a1 zo); (oN (ze5 a0) (oN (zjF y0 a1) (cond (nB (zkQ y0 a1)) (some [(aT .bare y0),(aB false)]) (oN (zL a2 0 3) (cond (nB (zO a2 0 3)) (some [(aT .bare y0),(aB false)]) (oN (zuD a3 8) (cond (nB (zri a3 8)) (some [(aT .bare y0),(aB false)]) (oN (inb a1 (ln y0.Guests)) (oN (zqk y1.Written a2 a3) (oN (inb a1 (ln y0.Guests)) (share (up y0.Guests a1 ({ y1 with Written:=(zmI y1.Written a2 a3) }:Guest)) (fun x5=>(some [(aT .bare ({ y0 with Guests:=x5 }:Bare)),(aB true)])))))))))))))
theorem zVq (a0:Bare)(a1 a2:Int)(a3:Slot)(hc:zr0 a0 a1 a2 a3=true):∃N,zIC N a0 a1 a2 a3=some [aT .bare (ziM a0 a1 a2 a3),aB (zkL a0 a1 a2 a3)]:=by
 have hs:=zy.1 hc;have hx:=zeZ a1 hs;have hz:zbU a0 a1=true->hasB a1 (ln a0.Guests)=true:=fun h=>(zdx.1 h).2;have hz2:zbU a0 a1=true->gAt a0 a1=ix a0.Guests a1 zo:=fun h=>zvo (zdx.1 h).2;have hw:=hx.2.1
 refine ⟨0,?_⟩;unfold zIC oN nB
 conv=>zeta
 refine mu (mu (brN (fun _=>?_) (fun _=>must rfl (brN (fun _=>?_) (fun _=>must rfl (brN (fun _=>?_) (fun _=>mu (mu (mu (shr ?_))))))))))
 all_goals first|rfl|(simp only [*,ziM,zkL,chg,zbM,zyQ,zyR,zeK,cT,cF]<;>rfl)|simp_all[Ty.cells,ziM,zkL,chg,zbM,zyQ,zyR,zeK]
theorem zw7:u4 206 ztI:=kF4 zeq zi zl zn (zk []) zVq
@[simp] abbrev zrJ (b:Bare)(g p:Int)(s:Slot):Bool:=pc (SmB b)
@[simp] abbrev zkx (b:Bare)(g p:Int)(s:Slot):Bare:=chg b g (zyQ p s) (zyR (gAt b g) p s)
@[simp] abbrev ziB (b:Bare)(g p:Int)(s:Slot):Bool:=zbM b g (zyQ p s)
def ztD:Run:=rF4 (dT .bare) dI dI (dT .slot) fun b c d e=>(zrJ b c d e,[aT .bare (zkx b c d e),aB (ziB b c d e)])
def zIb (N:Nat)(a0:Bare)(a1 a2:Int)(a3:Slot):OA:=
 let y2:=(zbF a0);let y1:=({ (zc4 a0 a1) with Written:=(zmg (zc4 a0 a1).Written a2 a3) }:Guest);let y0:=(aT .bare (zbu a0)); (oN (zbx a2 4) (cond (zbK a2 4) (oN (zum a3 8) (oN (zc6 a0 a1) (oN (zdj a0) (cond (nB (zcl a0)) (oN y2 (some [y0,(aB false)])) (cond (nB (zc5 a0 a1)) (oN y2 (some [y0,(aB false)])) (cond (nB (zqM a3 8)) (oN y2 (some [y0,(aB false)])) (oN (zpu (zc4 a0 a1).Written a2 a3) (oN (cond (ieq a0.Pending a0.Pending) true false) (oN (ieq a1 a1) (oN (zbn a0 a1 y1) (some [(aT .bare (zb1 a0 a1 y1)),(aB true)]))))))))))) (oN (zc6 a0 a1) (oN (zdj a0) (cond (nB (zcl a0)) (oN y2 (some [y0,(aB false)])) (cond (nB (zc5 a0 a1)) (oN y2 (some [y0,(aB false)])) (oN y2 (some [y0,(aB false)]))))))))
theorem zUX (a0:Bare)(a1 a2:Int)(a3:Slot)(hc:zrJ a0 a1 a2 a3=true):∃N,zIb N a0 a1 a2 a3=some [aT .bare (zkx a0 a1 a2 a3),aB (ziB a0 a1 a2 a3)]:=by
 have hs:=zy.1 hc;have hx:=zeZ a1 hs;have ho:_/\_/\_/\_:=hx;have hy:=fun p s=>zZp (x:=gAt a0 a1) p s hx;unfold zyR at hy
 refine ⟨0,?_⟩;unfold zIb oN nB
 conv=>zeta
 refine must rfl (br (fun _=>must rfl (mu (must rfl (brN (fun _=>mu ?_) (fun _=>brN (fun _=>mu ?_) (fun _=>brN (fun _=>mu ?_) (fun _=>mu (mu (mu (mu ?_)))))))))) (fun _=>mu (must rfl (brN (fun _=>mu ?_) (fun _=>brN (fun _=>mu ?_) (fun _=>mu ?_))))))
 all_goals first|rfl|(simp only [*,zkx,ziB,chg,zbM,zyQ,zyR,zbU,zdC,cT,cF]<;>rfl)|simp_all[Ty.cells,zkx,ziB,chg,zbM,zyQ,zyR,zbU,zdC]
theorem zw2:u4 74 ztD:=kF4 zeq zi zl zn (zk []) zUX
@[simp] abbrev ztO (b:Bare)(g p:Int):Bool:=pc (SmB b)
@[simp] abbrev zeG (b:Bare)(g p:Int):Bare:=chg b g (hasB p 4) (zh3 (gAt b g) p)
@[simp] abbrev zhU (b:Bare)(g p:Int):Bool:=zbM b g (hasB p 4)
def zpP:Run:=rF3 (dT .bare) dI dI fun b c d=>(ztO b c d,[aT .bare (zeG b c d),aB (zhU b c d)])
def zB9 (N:Nat)(a0:Bare)(a1 a2:Int):OA:=
 let y1:=(zb6 a0);let y2:=(inb a1 (ln y1.Guests));let y0:=(ix y1.Guests a1 zo); (oN (ze5 a0) (oN (zjF y1 a1) (cond (nB (zkQ y1 a1)) (some [(aT .bare y1),(aB false)]) (oN (zL a2 0 3) (cond (nB (zO a2 0 3)) (some [(aT .bare y1),(aB false)]) (oN y2 (oN y2 (oN (zqi y0.Written a2) (oN (zqk y0.Live a2 (zj3 y0.Written a2)) (oN y2 (share (up y1.Guests a1 ({ y0 with Live:=(zmI y0.Live a2 (zj3 y0.Written a2)) }:Guest)) (fun x4=>(some [(aT .bare ({ y1 with Guests:=x4 }:Bare)),(aB true)])))))))))))))
theorem zOR (a0:Bare)(a1 a2:Int)(hc:ztO a0 a1 a2=true):∃N,zB9 N a0 a1 a2=some [aT .bare (zeG a0 a1 a2),aB (zhU a0 a1 a2)]:=by
 have hs:=zy.1 hc;have hx:=zeZ a1 hs;have hz:zbU a0 a1=true->hasB a1 (ln a0.Guests)=true:=fun h=>(zdx.1 h).2;have hz2:zbU a0 a1=true->gAt a0 a1=ix a0.Guests a1 zo:=fun h=>zvo (zdx.1 h).2;have hw:=hx.2.2.1
 refine ⟨0,?_⟩;unfold zB9 oN nB
 conv=>zeta
 refine mu (mu (brN (fun _=>?_) (fun _=>must rfl (brN (fun _=>?_) (fun _=>mu (mu (must rfl (mu (mu (shr ?_))))))))))
 all_goals first|rfl|(simp only [*,zeG,zhU,chg,zbM,zh3,zeK,cT,cF]<;>rfl)|simp_all[Ty.cells,zeG,zhU,chg,zbM,zh3,zeK]
theorem ztZ:u4 209 zpP:=kF3 zeq zi zl zn (zk []) zOR
@[simp] abbrev ztm (b:Bare)(g p:Int):Bool:=pc (SmB b)
@[simp] abbrev zfw (b:Bare)(g p:Int):Bare:=chg b g (hasB p 4) (zh3 (gAt b g) p)
@[simp] abbrev zhO (b:Bare)(g p:Int):Bool:=zbM b g (hasB p 4)
def zpL:Run:=rF3 (dT .bare) dI dI fun b c d=>(ztm b c d,[aT .bare (zfw b c d),aB (zhO b c d)])
def zBR (N:Nat)(a0:Bare)(a1 a2:Int):OA:=
 let y2:=(aT .bare (zbu a0));let y1:=(zc4 a0 a1);let y0:=({ y1 with Live:=(zmg y1.Live a2 (zhv y1.Written a2)) }:Guest); (oN (zbx a2 4) (oN (zc6 a0 a1) (oN (zdj a0) (cond (nB (zcl a0)) (oN (zbF a0) (some [y2,(aB false)])) (cond (nB (zc5 a0 a1)) (oN (zbF a0) (some [y2,(aB false)])) (cond (nB (zbK a2 4)) (oN (zbF a0) (some [y2,(aB false)])) (oN (zjV y1.Written a2) (oN (zpu y1.Live a2 (zhv y1.Written a2)) (oN (cond (ieq a0.Pending a0.Pending) true false) (oN (ieq a1 a1) (oN (zbn a0 a1 y0) (some [(aT .bare (zb1 a0 a1 y0)),(aB true)]))))))))))))
theorem zOy (a0:Bare)(a1 a2:Int)(hc:ztm a0 a1 a2=true):∃N,zBR N a0 a1 a2=some [aT .bare (zfw a0 a1 a2),aB (zhO a0 a1 a2)]:=by
 have hs:=zy.1 hc;have hx:=zeZ a1 hs;have ho:_/\_/\_/\_:=hx;have hy:=fun p=>zuO (x:=gAt a0 a1) p hx;unfold zh3 at hy
 refine ⟨0,?_⟩;unfold zBR oN nB
 conv=>zeta
 refine must rfl (mu (must rfl (brN (fun _=>mu ?_) (fun _=>brN (fun _=>mu ?_) (fun _=>brN (fun _=>mu ?_) (fun _=>must rfl (mu (mu (mu (mu ?_))))))))))
 all_goals first|rfl|(simp only [*,zfw,zhO,chg,zbM,zh3,zbU,zdC,cT,cF]<;>rfl)|simp_all[Ty.cells,zfw,zhO,chg,zbM,zh3,zbU,zdC]
theorem ztX:u4 76 zpL:=kF3 zeq zi zl zn (zk []) zOy
@[simp] abbrev zms (b:Bare)(g v:Int):Bool:=pc (SmB b)
@[simp] abbrev zfP (b:Bare)(g v:Int):Bare:=chg b g (zyf (gAt b g) v) (zAD (gAt b g) v)
@[simp] abbrev zhk (b:Bare)(g v:Int):Bool:=zbM b g (zyf (gAt b g) v)
def zoe:Run:=rF3 (dT .bare) dI dI fun b c d=>(zms b c d,[aT .bare (zfP b c d),aB (zhk b c d)])
def zzb (N:Nat)(a0:Bare)(a1 a2:Int):OA:=
 let y2:=(zb6 a0);let y4:=(inb a1 (ln y2.Guests));let y1:=(⟨0,0,false,0⟩:GExit);let y0:=(ix y2.Guests a1 zo);let y3:=({ y0 with A:=a2 }:Guest); (oN (ze5 a0) (oN (zjF y2 a1) (cond (nB (zkQ y2 a1)) (some [(aT .bare y2),(aB false)]) (oN (zL a2 0 99) (cond (nB (zO a2 0 99)) (some [(aT .bare y2),(aB false)]) (oN y4 (cond (ieq y0.Exit.Kind 2) (oN (zd7 y3 y1) (oN (zd5 (zdA y3 y1)) (oN y4 (share (up y2.Guests a1 (zgw (zdA y3 y1))) (fun x4=>(some [(aT .bare ({ y2 with Guests:=x4 }:Bare)),(aB true)])))))) (cond (ieq y0.Exit.Kind 3) (oN (zd7 y0 y1) (oN (zd5 (zdA y0 y1)) (oN y4 (share (up y2.Guests a1 (zgw (zdA y0 y1))) (fun x4=>(some [(aT .bare ({ y2 with Guests:=x4 }:Bare)),(aB true)])))))) (some [(aT .bare y2),(aB false)])))))))))
theorem zLv (a0:Bare)(a1 a2:Int)(hc:zms a0 a1 a2=true):∃N,zzb N a0 a1 a2=some [aT .bare (zfP a0 a1 a2),aB (zhk a0 a1 a2)]:=by
 have hs:=zy.1 hc;have hx:=zeZ a1 hs;have hz:zbU a0 a1=true->hasB a1 (ln a0.Guests)=true:=fun h=>(zdx.1 h).2;have hz2:zbU a0 a1=true->gAt a0 a1=ix a0.Guests a1 zo:=fun h=>zvo (zdx.1 h).2;have ho:_/\_/\_/\_:=hx
 refine ⟨0,?_⟩;unfold zzb oN nB
 conv=>zeta
 refine mu (mu (brN (fun _=>?_) (fun _=>must rfl (brN (fun _=>?_) (fun _=>mu (br (fun _=>mu (mu (mu (shr ?_)))) (fun _=>br (fun _=>mu (mu (mu (shr ?_)))) (fun _=>?_))))))))
 all_goals first|rfl|(simp only [*,zfP,zhk,chg,zbM,zyf,zAD,zkh,zeK,SmG,stopped,cT,cF]<;>rfl)|simp_all[Ty.cells,zfP,zhk,chg,zbM,zyf,zAD,zkh,zeK,SmG,stopped]
theorem zsH:u4 213 zoe:=kF3 zeq zi zl zn (zk []) zLv
@[simp] abbrev zl9 (b:Bare)(g v:Int):Bool:=pc (SmB b)
@[simp] abbrev zeP (b:Bare)(g v:Int):Bare:=chg b g (zyf (gAt b g) v) (zAD (gAt b g) v)
@[simp] abbrev zeb (b:Bare)(g v:Int):Bool:=zbM b g (zyf (gAt b g) v)
def zob:Run:=rF3 (dT .bare) dI dI fun b c d=>(zl9 b c d,[aT .bare (zeP b c d),aB (zeb b c d)])
def zy0 (N:Nat)(a0:Bare)(a1 a2:Int):OA:=
 let y10:=(zc4 a0 a1);let y7:=(ieq (zll a0 a1).Kind 2);let y5:=(zbF a0);let y4:=(ieq a0.Pending a0.Pending);let y2:=(aT .bare (zbu a0));let y1:=({ y10 with A:=a2 }:Guest);let y0:=(⟨0,0,false,0⟩:GExit);let y6:=(zeS y1 y0);let y8:=(aT .bare (zb1 a0 a1 (zcY y6)));let y3:=(zeS y10 y0);let y9:=(aT .bare (zb1 a0 a1 (zcY y3))); (oN (zuf a0 a1) (cond y7 (oN (zbk a2 0 99) (oN (zc6 a0 a1) (oN (zdj a0) (cond (nB (zcl a0)) (oN y5 (some [y2,(aB false)])) (cond (nB (zc5 a0 a1)) (oN y5 (some [y2,(aB false)])) (cond (nB (zbr a2 0 99)) (oN y5 (some [y2,(aB false)])) (cond y7 (oN (zdK y1 y0) (oN (zdf y6) (oN (cond y4 true false) (oN (ieq a1 a1) (oN (zbn a0 a1 (zcY y6)) (some [y8,(aB true)])))))) (oN (zdK y10 y0) (oN (zdf y3) (oN (cond y4 true false) (oN (ieq a1 a1) (oN (zbn a0 a1 (zcY y3)) (some [y9,(aB true)]))))))))))))) (cond (ieq (zll a0 a1).Kind 3) (oN (zbk a2 0 99) (oN (zc6 a0 a1) (oN (zdj a0) (cond (nB (zcl a0)) (oN y5 (some [y2,(aB false)])) (cond (nB (zc5 a0 a1)) (oN y5 (some [y2,(aB false)])) (cond (nB (zbr a2 0 99)) (oN y5 (some [y2,(aB false)])) (cond y7 (oN (zdK y1 y0) (oN (zdf y6) (oN (cond y4 true false) (oN (ieq a1 a1) (oN (zbn a0 a1 (zcY y6)) (some [y8,(aB true)])))))) (oN (zdK y10 y0) (oN (zdf y3) (oN (cond y4 true false) (oN (ieq a1 a1) (oN (zbn a0 a1 (zcY y3)) (some [y9,(aB true)]))))))))))))) (oN (zc6 a0 a1) (oN (zdj a0) (cond (nB (zcl a0)) (oN y5 (some [y2,(aB false)])) (cond (nB (zc5 a0 a1)) (oN y5 (some [y2,(aB false)])) (oN y5 (some [y2,(aB false)])))))))))
theorem zLj (a0:Bare)(a1 a2:Int)(hc:zl9 a0 a1 a2=true):∃N,zy0 N a0 a1 a2=some [aT .bare (zeP a0 a1 a2),aB (zeb a0 a1 a2)]:=by
 have hs:=zy.1 hc;have hx:=zeZ a1 hs;have ho:_/\_/\_/\_:=hx;have hy2:SmG ({ gAt a0 a1 with A:=a2 }:Guest):=hx;have hy3:∀e,SmG (zbJ (stopped (gAt a0 a1) e)):=fun e=>zjI (z1x e hx)
 refine ⟨0,?_⟩;unfold zy0 oN nB
 conv=>zeta
 refine mu (br (fun _=>must rfl (mu (must rfl (brN (fun _=>mu ?_) (fun _=>brN (fun _=>mu ?_) (fun _=>brN (fun _=>mu ?_) (fun _=>br (fun _=>mu (mu (mu (mu (mu ?_))))) (fun _=>mu (mu (mu (mu (mu ?_)))))))))))) (fun _=>br (fun _=>must rfl (mu (must rfl (brN (fun _=>mu ?_) (fun _=>brN (fun _=>mu ?_) (fun _=>brN (fun _=>mu ?_) (fun _=>br (fun _=>mu (mu (mu (mu (mu ?_))))) (fun _=>mu (mu (mu (mu (mu ?_)))))))))))) (fun _=>mu (must rfl (brN (fun _=>mu ?_) (fun _=>brN (fun _=>mu ?_) (fun _=>mu ?_)))))))
 all_goals first|rfl|(simp only [*,zeP,zeb,chg,zbM,zyf,zAD,zkh,zbU,zdC,cT,cF]<;>rfl)|simp_all[Ty.cells,zeP,zeb,chg,zbM,zyf,zAD,zkh,zbU,zdC]
theorem zsE:u4 81 zob:=kF3 zeq zi zl zn (zk []) zLj
@[simp] abbrev zmu (b:Bare)(g:Int):Bool:=pc (SmB b)
@[simp] abbrev zfR (b:Bare)(g:Int):Bare:=chg b g (zyB (gAt b g)) (zBp (gAt b g))
@[simp] abbrev zhm (b:Bare)(g:Int):Bool:=zbM b g (zyB (gAt b g))
def zog:Run:=rF2 (dT .bare) dI fun b c=>(zmu b c,[aT .bare (zfR b c),aB (zhm b c)])
def zzd (N:Nat)(a0:Bare)(a1:Int):OA:=
 let y2:=(zb6 a0);let y3:=(inb a1 (ln y2.Guests));let y1:=(⟨0,0,false,0⟩:GExit);let y0:=(ix y2.Guests a1 zo); (oN (ze5 a0) (oN (zjF y2 a1) (cond (nB (zkQ y2 a1)) (some [(aT .bare y2),(aB false)]) (oN y3 (cond (ieq y0.Exit.Kind 1) (oN (zd7 y0 y1) (oN y3 (share (up y2.Guests a1 (zdA y0 y1)) (fun x3=>(some [(aT .bare ({ y2 with Guests:=x3 }:Bare)),(aB true)]))))) (cond (ieq y0.Exit.Kind 4) (oN (zd7 y0 y1) (oN (zoi (zdA y0 y1)) (oN y3 (share (up y2.Guests a1 (zAu (zdA y0 y1))) (fun x3=>(some [(aT .bare ({ y2 with Guests:=x3 }:Bare)),(aB true)])))))) (some [(aT .bare y2),(aB false)])))))))
theorem zLx (a0:Bare)(a1:Int)(hc:zmu a0 a1=true):∃N,zzd N a0 a1=some [aT .bare (zfR a0 a1),aB (zhm a0 a1)]:=by
 have hs:=zy.1 hc;have hx:=zeZ a1 hs;have hz:zbU a0 a1=true->hasB a1 (ln a0.Guests)=true:=fun h=>(zdx.1 h).2;have hz2:zbU a0 a1=true->gAt a0 a1=ix a0.Guests a1 zo:=fun h=>zvo (zdx.1 h).2;have ho:_/\_/\_/\_:=hx
 refine ⟨0,?_⟩;unfold zzd oN nB
 conv=>zeta
 refine mu (mu (brN (fun _=>?_) (fun _=>mu (br (fun _=>mu (mu (shr ?_))) (fun _=>br (fun _=>mu (mu (mu (shr ?_)))) (fun _=>?_))))))
 all_goals first|rfl|(simp only [*,zfR,zhm,chg,zbM,zyB,zBp,zkh,zeK,SmG,stopped,cT,cF]<;>rfl)|simp_all[Ty.cells,zfR,zhm,chg,zbM,zyB,zBp,zkh,zeK,SmG,stopped]
theorem zsJ:u4 214 zog:=kF2 zeq zi zl zn (zk []) zLx
@[simp] abbrev zmb (b:Bare)(g:Int):Bool:=pc (SmB b)
@[simp] abbrev zeR (b:Bare)(g:Int):Bare:=chg b g (zyB (gAt b g)) (zBp (gAt b g))
@[simp] abbrev zed (b:Bare)(g:Int):Bool:=zbM b g (zyB (gAt b g))
def zod:Run:=rF2 (dT .bare) dI fun b c=>(zmb b c,[aT .bare (zeR b c),aB (zed b c)])
def zy2 (N:Nat)(a0:Bare)(a1:Int):OA:=
 let y3:=(ieq (zll a0 a1).Kind 4);let y2:=(ieq a0.Pending a0.Pending);let y1:=(aT .bare (zbu a0));let y0:=({ (zc4 a0 a1) with Exit:=(⟨0,0,false,0⟩:GExit) }:Guest);let y4:=(aT .bare (zb1 a0 a1 (zi8 y0))); (oN (zuf a0 a1) (cond (ieq (zll a0 a1).Kind 1) (oN (zc6 a0 a1) (oN (zdj a0) (cond (nB (zcl a0)) (oN (zbF a0) (some [y1,(aB false)])) (cond (nB (zc5 a0 a1)) (oN (zbF a0) (some [y1,(aB false)])) (cond y3 (oN (zjT y0) (oN (cond y2 true false) (oN (ieq a1 a1) (oN (zbn a0 a1 (zi8 y0)) (some [y4,(aB true)]))))) (oN (cond y2 true false) (oN (ieq a1 a1) (oN (zbn a0 a1 y0) (some [(aT .bare (zb1 a0 a1 y0)),(aB true)]))))))))) (oN (zc6 a0 a1) (oN (zdj a0) (cond (nB (zcl a0)) (oN (zbF a0) (some [y1,(aB false)])) (cond (nB (zc5 a0 a1)) (oN (zbF a0) (some [y1,(aB false)])) (cond (nB y3) (oN (zbF a0) (some [y1,(aB false)])) (cond y3 (oN (zjT y0) (oN (cond y2 true false) (oN (ieq a1 a1) (oN (zbn a0 a1 (zi8 y0)) (some [y4,(aB true)]))))) (oN (cond y2 true false) (oN (ieq a1 a1) (oN (zbn a0 a1 y0) (some [(aT .bare (zb1 a0 a1 y0)),(aB true)]))))))))))))
theorem zLl (a0:Bare)(a1:Int)(hc:zmb a0 a1=true):∃N,zy2 N a0 a1=some [aT .bare (zeR a0 a1),aB (zed a0 a1)]:=by
 have hs:=zy.1 hc;have hx:=zeZ a1 hs;have ho:_/\_/\_/\_:=hx;have h14:ieq (gAt a0 a1).Exit.Kind 1=true->ieq (gAt a0 a1).Exit.Kind 4=false:=fun h=>zRp h (by decide)
 refine ⟨0,?_⟩;unfold zy2 oN nB
 conv=>zeta
 refine mu (br (fun _=>mu (must rfl (brN (fun _=>mu ?_) (fun _=>brN (fun _=>mu ?_) (fun _=>br (fun _=>mu (mu (mu (mu ?_)))) (fun _=>mu (mu (mu ?_)))))))) (fun _=>mu (must rfl (brN (fun _=>mu ?_) (fun _=>brN (fun _=>mu ?_) (fun _=>brN (fun _=>mu ?_) (fun _=>br (fun _=>mu (mu (mu (mu ?_)))) (fun _=>mu (mu (mu ?_))))))))))
 all_goals first|rfl|(simp only [*,zeR,zed,chg,zbM,zyB,zBp,zkh,zbU,zdC,SmG,stopped,cT,cF]<;>rfl)|simp_all[Ty.cells,zeR,zed,chg,zbM,zyB,zBp,zkh,zbU,zdC,SmG,stopped]
theorem zsG:u4 83 zod:=kF2 zeq zi zl zn (zk []) zLl
theorem zbbI {b:Bare}{g:Int}{c:Bool}{x:Guest}(h:zbU b g=false):chg b g c x=b:=by
 unfold chg;rw[h];rfl
theorem zbap {b:Bare}{g n:Int}(h:zbU b g=true):chg b g (zgm (gAt b g).Pending n) (zmT (gAt b g) n)=zeK b g (zmT (gAt b g) n):=by
 unfold chg;rw[h];cases hp:zgm (gAt b g).Pending n
 .rw [zbaZ hp,z6F (zdx.1 h).2];rfl
 .rfl
@[simp] abbrev zmt (b:Bare)(g n:Int):Bool:=pc (SmB b)
@[simp] abbrev zfQ (b:Bare)(g n:Int):Bare:=chg b g (zgm (gAt b g).Pending n) (zmT (gAt b g) n)
@[simp] abbrev zhl (b:Bare)(g n:Int):Bool:=zbM b g (zgm (gAt b g).Pending n)
def zof:Run:=rF3 (dT .bare) dI dI fun b c d=>(zmt b c d,[aT .bare (zfQ b c d),aB (zhl b c d)])
def zzc (N:Nat)(a0:Bare)(a1 a2:Int):OA:=
 let y1:=(zb6 a0);let y0:=(ix y1.Guests a1 zo); (oN (ze5 a0) (oN (zjF y1 a1) (cond (nB (zkQ y1 a1)) (some [(aT .bare y1),(aB false)]) (oN (inb a1 (ln y1.Guests)) (oN (zkM y0.Pending a2) (oN (inb a1 (ln y1.Guests)) (share (up y1.Guests a1 ({ y0 with Pending:=(zg5 y0.Pending a2) }:Guest)) (fun x4=>(some [(aT .bare ({ y1 with Guests:=x4 }:Bare)),(aB (znx y0.Pending a2))])))))))))
theorem zLw (a0:Bare)(a1 a2:Int)(hc:zmt a0 a1 a2=true):∃N,zzc N a0 a1 a2=some [aT .bare (zfQ a0 a1 a2),aB (zhl a0 a1 a2)]:=by
 have hs:=zy.1 hc;have hz:zbU a0 a1=true->hasB a1 (ln a0.Guests)=true:=fun h=>(zdx.1 h).2;have hz2:zbU a0 a1=true->gAt a0 a1=ix a0.Guests a1 zo:=fun h=>zvo (zdx.1 h).2;have hj:=@zbap a0 a1 a2;have hj0:=@zbbI a0 a1 (zgm (gAt a0 a1).Pending a2) (zmT (gAt a0 a1) a2)
 refine ⟨0,?_⟩;unfold zzc oN nB
 conv=>zeta
 refine mu (mu (brN (fun _=>?_) (fun _=>mu (must rfl (mu (shr ?_))))))
 all_goals first|rfl|(simp only [*,zfQ,zhl,zbM,zeK,zmT,cT,cF]<;>rfl)|simp_all[Ty.cells,zfQ,zhl,zbM,zeK,zmT]
theorem zsI:u4 215 zof:=kF3 zeq zi zl zn (zk []) zLw
@[simp] abbrev zma (b:Bare)(g n:Int):Bool:=pc (SmB b)
@[simp] abbrev zeQ (b:Bare)(g n:Int):Bare:=chg b g (zgm (gAt b g).Pending n) (zmT (gAt b g) n)
@[simp] abbrev zec (b:Bare)(g n:Int):Bool:=zbM b g (zgm (gAt b g).Pending n)
def zoc:Run:=rF3 (dT .bare) dI dI fun b c d=>(zma b c d,[aT .bare (zeQ b c d),aB (zec b c d)])
def zy1 (N:Nat)(a0:Bare)(a1 a2:Int):OA:=
 let y2:=(zc4 a0 a1).Pending;let y1:=(aT .bare (zbu a0));let y0:=({ (zc4 a0 a1) with Pending:=(zgX y2 a2) }:Guest); (oN (zc6 a0 a1) (oN (zkD y2 a2) (oN (zc6 a0 a1) (oN (zdj a0) (cond (nB (zcl a0)) (oN (zbF a0) (some [y1,(aB false)])) (cond (nB (zc5 a0 a1)) (oN (zbF a0) (some [y1,(aB false)])) (cond (nB (zng y2 a2)) (oN (zbF a0) (some [y1,(aB false)])) (oN (cond (ieq a0.Pending a0.Pending) true false) (oN (ieq a1 a1) (oN (zbn a0 a1 y0) (some [(aT .bare (zb1 a0 a1 y0)),(aB true)])))))))))))
theorem zLk (a0:Bare)(a1 a2:Int)(hc:zma a0 a1 a2=true):∃N,zy1 N a0 a1 a2=some [aT .bare (zeQ a0 a1 a2),aB (zec a0 a1 a2)]:=by
 have hs:=zy.1 hc;have hx:=zeZ a1 hs;have ho:_/\_/\_/\_:=hx
 refine ⟨0,?_⟩;unfold zy1 oN nB
 conv=>zeta
 refine mu (must rfl (mu (must rfl (brN (fun _=>mu ?_) (fun _=>brN (fun _=>mu ?_) (fun _=>brN (fun _=>mu ?_) (fun _=>mu (mu (mu ?_)))))))))
 all_goals first|rfl|(simp only [*,zeQ,zec,chg,zbM,zmT,zbU,zdC,cT,cF]<;>rfl)|simp_all[Ty.cells,zeQ,zec,chg,zbM,zmT,zbU,zdC]
theorem zsF:u4 85 zoc:=kF3 zeq zi zl zn (zk []) zLk
@[simp] abbrev zrZ (b:Bare)(g:Int)(c:Ctl):Bool:=pc (SmB b)
@[simp] abbrev ziL (b:Bare)(g:Int)(c:Ctl):Bare:=chg b g (zjM c) (zJ7 (gAt b g) c)
@[simp] abbrev zkK (b:Bare)(g:Int)(c:Ctl):Bool:=zbM b g (zjM c)
def ztH:Run:=rF3 (dT .bare) dI dC fun b c d=>(zrZ b c d,[aT .bare (ziL b c d),aB (zkK b c d)])
def zIB (N:Nat)(a0:Bare)(a1:Int)(a2:Ctl):OA:=
 let y0:=(zb6 a0); (oN (ze5 a0) (oN (zjF y0 a1) (cond (nB (zkQ y0 a1)) (some [(aT .bare y0),(aB false)]) (oN (zs3 a2) (cond (nB (zre a2)) (some [(aT .bare y0),(aB false)]) (oN (inb a1 (ln y0.Guests)) (share (up y0.Guests a1 ({ (ix y0.Guests a1 zo) with Ctl:=a2 }:Guest)) (fun x4=>(some [(aT .bare ({ y0 with Guests:=x4 }:Bare)),(aB true)])))))))))
theorem zVp (a0:Bare)(a1:Int)(a2:Ctl)(hc:zrZ a0 a1 a2=true):∃N,zIB N a0 a1 a2=some [aT .bare (ziL a0 a1 a2),aB (zkK a0 a1 a2)]:=by
 have hs:=zy.1 hc;have hz:zbU a0 a1=true->hasB a1 (ln a0.Guests)=true:=fun h=>(zdx.1 h).2;have hz2:zbU a0 a1=true->gAt a0 a1=ix a0.Guests a1 zo:=fun h=>zvo (zdx.1 h).2
 refine ⟨0,?_⟩;unfold zIB oN nB
 conv=>zeta
 refine mu (mu (brN (fun _=>?_) (fun _=>must rfl (brN (fun _=>?_) (fun _=>mu (shr ?_))))))
 all_goals first|rfl|(simp only [*,ziL,zkK,chg,zbM,zJ7,zeK,cT,cF]<;>rfl)|simp_all[Ty.cells,ziL,zkK,chg,zbM,zJ7,zeK]
theorem zw6:u4 216 ztH:=kF3 zeq zi zl zn (zk []) zVp
@[simp] abbrev zrI (b:Bare)(g:Int)(c:Ctl):Bool:=pc (SmB b)
@[simp] abbrev zgT (b:Bare)(g:Int)(c:Ctl):Bare:=chg b g (zjM c) (zJ7 (gAt b g) c)
@[simp] abbrev zfZ (b:Bare)(g:Int)(c:Ctl):Bool:=zbM b g (zjM c)
def ztC:Run:=rF3 (dT .bare) dI dC fun b c d=>(zrI b c d,[aT .bare (zgT b c d),aB (zfZ b c d)])
def zIa (N:Nat)(a0:Bare)(a1:Int)(a2:Ctl):OA:=
 let y1:=(aT .bare (zbu a0));let y0:=({ (zc4 a0 a1) with Ctl:=a2 }:Guest); (oN (zsK a2) (oN (zc6 a0 a1) (oN (zdj a0) (cond (nB (zcl a0)) (oN (zbF a0) (some [y1,(aB false)])) (cond (nB (zc5 a0 a1)) (oN (zbF a0) (some [y1,(aB false)])) (cond (nB (zqH a2)) (oN (zbF a0) (some [y1,(aB false)])) (oN (cond (ieq a0.Pending a0.Pending) true false) (oN (ieq a1 a1) (oN (zbn a0 a1 y0) (some [(aT .bare (zb1 a0 a1 y0)),(aB true)]))))))))))
theorem zUW (a0:Bare)(a1:Int)(a2:Ctl)(hc:zrI a0 a1 a2=true):∃N,zIa N a0 a1 a2=some [aT .bare (zgT a0 a1 a2),aB (zfZ a0 a1 a2)]:=by
 have hs:=zy.1 hc;have hx:=zeZ a1 hs;have ho:_/\_/\_/\_:=hx
 refine ⟨0,?_⟩;unfold zIa oN nB
 conv=>zeta
 refine must rfl (mu (must rfl (brN (fun _=>mu ?_) (fun _=>brN (fun _=>mu ?_) (fun _=>brN (fun _=>mu ?_) (fun _=>mu (mu (mu ?_))))))))
 all_goals first|rfl|(simp only [*,zgT,zfZ,chg,zbM,zJ7,zbU,zdC,cT,cF]<;>rfl)|simp_all[Ty.cells,zgT,zfZ,chg,zbM,zJ7,zbU,zdC]
theorem zw1:u4 87 ztC:=kF3 zeq zi zl zn (zk []) zUW
def zWs (p c v:Int):Bool:=bif hasB p 8 then (cond (hasB c 4) (win v 0 99) false) else false
def zsX (b:Bare)(p c v:Int):Bool:=bif zbQ b then zWs p c v else false
def zxe (b:Bare)(p c v:Int):Bare:=bif zsX b p c v then { b with Memory:=zer b.Memory p c v } else b
def zmQ (b:Bare):Bare:=bif zbQ b then { b with Pending:=zgu b.Pending } else b
def zye (b:Bare):Int:=bif zbQ b then zkg b.Pending else -1
def znI (b:Bare):Bool:=bif zbQ b then !ilt (zcT b.Pending) 0 else false
@[simp] abbrev zrY (b:Bare):Bool:=pc (SmB b)
@[simp] abbrev ziK (b:Bare):Bare:=zmQ b
@[simp] abbrev zkI (b:Bare):Int:=zye b
@[simp] abbrev zkJ (b:Bare):Bool:=znI b
def ztG:Run:=rF1 (dT .bare) fun b=>(zrY b,[aT .bare (ziK b),aI (zkI b),aB (zkJ b)])
def zIA (N:Nat)(a0:Bare):OA:=
 let y0:=(zb6 a0); (oN (ze5 a0) (oN (zpY y0) (cond (nB (zeJ y0)) (some [(aT .bare y0),(aI (-1)),(aB false)]) (oN (zsg y0.Pending) (some [(aT .bare ({ y0 with Pending:=(zkN y0.Pending) }:Bare)),(aI (zkO y0.Pending)),(aB (znz y0.Pending))])))))
theorem zVo (a0:Bare)(hc:zrY a0=true):∃N,zIA N a0=some [aT .bare (ziK a0),aI (zkI a0),aB (zkJ a0)]:=by
 have hs:=zy.1 hc;refine ⟨0,?_⟩;unfold zIA oN nB
 conv=>zeta
 refine mu (must rfl (brN (fun _=>?_) (fun _=>must rfl ?_)))
 all_goals first|rfl|(simp only [*,ziK,zkI,zkJ,zmQ,zye,znI,zgu,zkg,cT,cF]<;>rfl)|simp_all[Ty.cells,ziK,zkI,zkJ,zmQ,zye,znI,zgu,zkg]
theorem zw5:u4 221 ztG:=kF1 zeq zi zl zn (zk []) zVo
@[simp] abbrev zvA (b:Bare)(p c v:Int):Bool:=pc (SmB b)
@[simp] abbrev zgf (b:Bare)(p c v:Int):Bare:=zxe b p c v
@[simp] abbrev zi5 (b:Bare)(p c v:Int):Bool:=zsX b p c v
def zq0:Run:=rF4 (dT .bare) dI dI dI fun b c d e=>(zvA b c d e,[aT .bare (zgf b c d e),aB (zi5 b c d e)])
def zDD (N:Nat)(a0:Bare)(a1 a2 a3:Int):OA:=
 let y0:=(aT .bare (zbu a0)); (oN (zbF a0) (oN (zdj a0) (cond (nB (zcl a0)) (some [y0,(aB false)]) (oN (zbx a1 8) (cond (nB (zbK a1 8)) (some [y0,(aB false)]) (oN (zbx a2 4) (cond (nB (zbK a2 4)) (some [y0,(aB false)]) (oN (zbk a3 0 99) (cond (nB (zbr a3 0 99)) (some [y0,(aB false)]) (oN (zfc a0.Memory a1 a2 a3) (some [(aT .bare ({ (zbu a0) with Memory:=(zf0 a0.Memory a1 a2 a3) }:Bare)),(aB true)])))))))))))
theorem zRx (a0:Bare)(a1 a2 a3:Int)(hc:zvA a0 a1 a2 a3=true):∃N,zDD N a0 a1 a2 a3=some [aT .bare (zgf a0 a1 a2 a3),aB (zi5 a0 a1 a2 a3)]:=by
 have hs:=zy.1 hc;have hz:_/\_/\_:=hs
 refine ⟨0,?_⟩;unfold zDD oN nB
 conv=>zeta
 refine mu (must rfl (brN (fun _=>?_) (fun _=>must rfl (brN (fun _=>?_) (fun _=>must rfl (brN (fun _=>?_) (fun _=>must rfl (brN (fun _=>?_) (fun _=>mu ?_)))))))))
 all_goals first|rfl|(simp only [*,zgf,zi5,zxe,zsX,zWs,cT,cF]<;>rfl)|simp_all[Ty.cells,zgf,zi5,zxe,zsX,zWs]
theorem zvq:u4 89 zq0:=kF4 zeq zi zl zn (zk []) zRx
@[simp] abbrev zrH (b:Bare):Bool:=pc (SmB b)
@[simp] abbrev zgS (b:Bare):Bare:=zmQ b
@[simp] abbrev ziA (b:Bare):Int:=zye b
@[simp] abbrev zfY (b:Bare):Bool:=znI b
def ztB:Run:=rF1 (dT .bare) fun b=>(zrH b,[aT .bare (zgS b),aI (ziA b),aB (zfY b)])
def zH9 (N:Nat)(a0:Bare):OA:=
 (oN (zbF a0) (oN (zrO a0.Pending) (oN (zdj a0) (cond (nB (zcl a0)) (some [(aT .bare (zbu a0)),(aI (-1)),(aB false)]) (cond (nB (zni a0.Pending)) (some [(aT .bare (zbu a0)),(aI (-1)),(aB false)]) (some [(aT .bare ({ (zbu a0) with Pending:=(zkE a0.Pending) }:Bare)),(aI (zkF a0.Pending)),(aB true)]))))))
theorem zUV (a0:Bare)(hc:zrH a0=true):∃N,zH9 N a0=some [aT .bare (zgS a0),aI (ziA a0),aB (zfY a0)]:=by
 have hs:=zy.1 hc;refine ⟨0,?_⟩;unfold zH9 oN nB;refine mu (must rfl (must rfl (brN (fun _=>?_) (fun _=>brN (fun _=>?_) (fun _=>?_)))))
 all_goals first|rfl|(simp only [*,zgS,ziA,zfY,zmQ,zye,znI,zgu,zkg,cT,cF]<;>rfl)|simp_all[Ty.cells,zgS,ziA,zfY,zmQ,zye,znI,zgu,zkg]
theorem zw0:u4 94 ztB:=kF1 zeq zi zl zn (zk []) zUV
def z9N:zV:=z9M
theorem zKg:zJ z9N:=zeq
def zd2 (l:List Guest)(n:Int):List Int:=idxs (fun (x:Guest)=>posts x.Ctl n) l 0
theorem zXr {α:Type}(p:α->Bool):∀(l:List α) (i:Nat),∀k∈idxs p l i,(i:Int)<=k/\k<(i:Int)+l.length
 | [],_,k,hk=>by cases hk
 | x :: l,i,k,hk=>by
  have hr:=zXr p l (i+1);simp only[qW];unfold idxs at hk;cases hp:p x
  .rw [hp]at hk;have:=hr k hk;omega
  .rw [hp]at hk;rcases qI.1 hk with rfl|hk
   .omega
   .have:=hr k hk;omega
@[simp] abbrev zwn (b:Bare)(n:Int):Bool:=pc (SmB b)
@[simp] abbrev zmG (b:Bare)(n:Int):List Int:=zd2 b.Guests n
def zAh:Run:=rF2 (dT .bare) dI fun b c=>(zwn b c,[aS .int (zmG b c)])
def zEi (N:Nat)(a0:Bare)(a1:Int):OA:=
 (iter (σ:=(Int×(Int×(Int×((List Int)×(lM×(lG×((List Int)×Unit)))))))) N (fun r3 s4=>let y0:=s4.2.2.2.2.2.1;let y1:=(ix y0 s4.2.1 zo).Ctl; (cond (ilt s4.2.1 (ln y0)) (oN (inb s4.2.1 (ln y0)) (oN (zGt y1 s4.1) (cond (zAw y1 s4.1) (oN (few (ln (ap s4.2.2.2.1 [s4.2.1]))) (r3 (s4.1,((zD .i64 s4.2.1 1),(s4.2.2.1,((ap s4.2.2.2.1 [s4.2.1]),(s4.2.2.2.2.1,(y0,(s4.2.2.2.2.2.2.1,()))))))))) (r3 (s4.1,((zD .i64 s4.2.1 1),(s4.2.2.1,(s4.2.2.2.1,(s4.2.2.2.2.1,(y0,(s4.2.2.2.2.2.2.1,()))))))))))) (some [(aS .int s4.2.2.2.1)]))) (a1,(0,(a0.Pending,([],(a0.Memory,(a0.Guests,(a0.Outs,()))))))))
def zS1:FuncId->Nat->Option Tmpl:=zk [(284,0,{ n:=28,tm:=[(1,ti),(2,.lp 0 0),(5,.sl 0 []),(6,ti)],lo:=[(0,[.sl 1 [],.sl 2 [],.sl 3 [],ti])],ro:=[(0,.int,true),(1,(.sl .int),false),(2,.guest,false),(3,.int,false)] })]
theorem zSc (a0:Bare)(a1:Int)(hc:zwn a0 a1=true):∃N,zEi N a0 a1=some [aS .int (zmG a0 a1)]:=by
 have hs:=zy.1 hc;have hl:=zb4 hs.2.1.1;refine zbV fun N hNN=>?_;unfold zEi oN
 conv=>zeta
 refine (zbb a0.Guests (fun i (t:(List Int))=>(a1,(i:Int),a0.Pending,t,a0.Memory,a0.Guests,a0.Outs,())) _ (fun i (x:Guest) (t:List Int) κ=>bif posts x.Ctl a1 then (cond (few (ln (ap t [(i:Int)]))) (κ (ap t [(i:Int)])) none) else κ t) (fun (t:(List Int))=>(some [(.one (.s .int t))])) (fun i hi t rec=>?_) (fun t rec=>?_) _ ([]) (hNN hl.1)).trans ?_
 .simp only [zbi hi,zQ hi,zbc hi,zU hi hl.1,cT]
 .simp only [zbe,cF]
 exact zqD (fun (x:Guest)=>posts x.Ctl a1) _ a0.Guests 0 [] (by simpa using hl.2)
theorem zK1:u4 284 zAh:=kF2 zKg zi zl zn zS1 zSc
@[simp] abbrev zvK (b:Bare)(n:Int):Bool:=pc (SmB b)
@[simp] abbrev zh8 (b:Bare)(n:Int):List Int:=zd2 b.Guests n
def zzR:Run:=rF2 (dT .bare) dI fun b c=>(zvK b c,[aS .int (zh8 b c)])
def zDP (N:Nat)(a0:Bare)(a1:Int):OA:=
 (iter (σ:=(Int×(Int×(Int×((List Int)×(lG×Unit)))))) N (fun r3 s4=>let y2:=s4.2.2.2.2.1;let y1:=s4.2.2.1;let y0:=(ix y2 y1 zo).Ctl; (cond (ilt y1 s4.2.1) (oN (inb y1 (ln y2)) (oN (zFa y0 s4.1) (cond (zzw y0 s4.1) (oN (few (ln (ap s4.2.2.2.1 [y1]))) (r3 (s4.1,(s4.2.1,((zD .i64 y1 1),((ap s4.2.2.2.1 [y1]),(y2,()))))))) (r3 (s4.1,(s4.2.1,((zD .i64 y1 1),(s4.2.2.2.1,(y2,()))))))))) (some [(aS .int s4.2.2.2.1)]))) (a1,((ln a0.Guests),(0,([],(a0.Guests,()))))))
def zSS:FuncId->Nat->Option Tmpl:=zk [(177,0,{ n:=27,tm:=[(1,ti),(5,.sl 0 []),(10,.sl 1 []),(11,ti),(12,ti)],lo:=[],ro:=[(0,.int,true),(1,.guest,false)] })]
theorem zRJ (a0:Bare)(a1:Int)(hc:zvK a0 a1=true):∃N,zDP N a0 a1=some [aS .int (zh8 a0 a1)]:=by
 have hs:=zy.1 hc;have hl:=zb4 hs.2.1.1;refine zbV fun N hNN=>?_;unfold zDP oN
 conv=>zeta
 refine (zbb a0.Guests (fun i (t:(List Int))=>(a1,(ln a0.Guests),(i:Int),t,a0.Guests,())) _ (fun i (x:Guest) (t:List Int) κ=>bif posts x.Ctl a1 then (cond (few (ln (ap t [(i:Int)]))) (κ (ap t [(i:Int)])) none) else κ t) (fun (t:(List Int))=>(some [(.one (.s .int t))])) (fun i hi t rec=>?_) (fun t rec=>?_) _ ([]) (hNN hl.1)).trans ?_
 .simp only [zbi hi,zQ hi,zbc hi,zU hi hl.1,cT]
 .simp only [zbe,cF]
 exact zqD (fun (x:Guest)=>posts x.Ctl a1) _ a0.Guests 0 [] (by simpa using hl.2)
theorem zKz:u4 177 zzR:=kF2 zKg zi zl zn zSS zRJ
def z9O:zV:=[(284,zAh),(177,zzR)]++z9N
theorem zKh:zJ z9O:=zf zK1 (zf zKz zKg)
def zPf (n:Int)(l:List Guest)(k:Int):List Guest:=up l k (zmT (ix l k zo) n)
def zqS (n:Int)(ks:List Int)(l:List Guest):List Guest:=ks.foldl (zPf n) l
theorem zFn (n:Int)(l:List Guest)(k:Int):(zPf n l k).length=l.length:=ze0 _ _ _
theorem z4r {n:Int}{l:List Guest}{k:Int}(hk:hasB k (ln l)=true)(h:znY l):znY (zPf n l k):=zG7 h (zZo h hk _)
theorem zGy {n:Int}:∀(ks:List Int) {l:List Guest},(∀k∈ks,hasB k (ln l)=true)->znY l->znY (zqS n ks l)/\(zqS n ks l).length=l.length
 | [],_,_,h=>⟨h,rfl⟩
 | k :: ks,l,hk,h=>by
  have h1:=z4r (n:=n) (hk k (by simp)) h
  obtain ⟨g1,g2⟩:=zGy (n:=n) ks (l:=zPf n l k) (fun j hj=>by rw[ln,zFn];exact hk j (by simp[hj])) h1
  exact ⟨g1,g2.trans (zFn _ _ _)⟩
theorem zKn {ρ:Type}(n:Int)(K:List Guest->Option ρ):∀(ks:List Int) (i:Nat) (l:List Guest),(∀k∈ks,hasB k (ln l)=true) ->
 goL (fun _ k (t:List Guest) κ=>bif inb k (ln t) then (cond (inb k (ln t)) (κ (up t k (zmT (ix t k zo) n))) none) else none) K ks i l=K (zqS n ks l)
 | [],_,_,_=>rfl
 | k :: ks,i,l,h=>by
  have hk:inb k (ln l)=true:=h k (by simp)
  simp only[goL,hk,cT];exact zKn n K ks (i+1) (zPf n l k) (fun j hj=>by rw[ln,zFn];exact h j (by simp[hj]))
def zPg (b:Bare)(n:Int):Bare:=bif ieq (ln (zd2 b.Guests n)) 0 then { b with Pending:=zrV b.Pending n } else { b with Guests:=zqS n (zd2 b.Guests n) b.Guests }
def zgv (b:Bare)(n:Int):Bool:=bif zbQ b then hasB n 8 else false
def zk0 (b:Bare)(n:Int):Bare:=bif zgv b n then zPg b n else b
theorem zBm {b:Bare}{n:Int}:∀k∈zd2 b.Guests n,hasB k (ln b.Guests)=true:=fun k hk=>by
 have:=zXr _ _ _ k hk;exact qK (by simp only[ln];omega)
theorem z3Z {b:Bare}{n:Int}(h:ieq (ln (zd2 b.Guests n)) 0=true):zqS n (zd2 b.Guests n) b.Guests=b.Guests:=by
 have h1:((zd2 b.Guests n).length:Int)=0:=qD h;have:zd2 b.Guests n=[]:=List.length_eq_zero_iff.1 (by omega)
 rw[this];rfl
theorem zPh {b:Bare}{n:Int}:(cond (ieq (ln (zd2 b.Guests n)) 0) (some [AV.agg (Ty.cells .bare ⟨b.Memory,zqS n (zd2 b.Guests n) b.Guests,b.Outs,zrV b.Pending n⟩),AV.one (.b true)]) (some [AV.agg (Ty.cells .bare ⟨b.Memory,zqS n (zd2 b.Guests n) b.Guests,b.Outs,b.Pending⟩),AV.one (.b true)]))=some [AV.agg (Ty.cells .bare (zPg b n)),AV.one (.b true)]:=by
 unfold zPg;cases h:ieq (ln (zd2 b.Guests n)) 0
 .rfl
 .simp only [cT,z3Z h]
@[simp] abbrev zpZ (b:Bare)(n:Int):Bool:=pc (SmB b)
@[simp] abbrev zjo (b:Bare)(n:Int):Bare:=zk0 b n
@[simp] abbrev zlD (b:Bare)(n:Int):Bool:=zgv b n
def zq5:Run:=rF2 (dT .bare) dI fun b c=>(zpZ b c,[aT .bare (zjo b c),aB (zlD b c)])
def zD9 (N:Nat)(a0:Bare)(a1:Int):OA:=
 let y2:=(zb6 a0); (oN (ze5 a0) (oN (zpY y2) (cond (nB (zeJ y2)) (some [(aT .bare y2),(aB false)]) (oN (zL a1 0 7) (cond (nB (zO a1 0 7)) (some [(aT .bare y2),(aB false)]) (oN (zwn y2 a1) (iter (σ:=(Int×(Int×(Int×(Int×((List Int)×(lM×(lG×((List Int)×(lM×(lG×((List Int)×Unit)))))))))))) N (fun r3 s4=>let y5:=s4.2.2.2.2.2.2.2.1;let y3:=s4.2.2.2.2.1;let y1:=s4.2.2.2.2.2.2.1;let y0:=(ix y3 s4.2.1 0);let y4:=(ix y1 y0 zo); (cond (ilt s4.2.1 (ln y3)) (oN (inb s4.2.1 (ln y3)) (oN (inb s4.2.1 (ln y3)) (oN (inb y0 (ln y1)) (oN (zkM y4.Pending s4.1) (oN (inb y0 (ln y1)) (r3 (s4.1,((zD .i64 s4.2.1 1),(s4.2.2.1,(s4.2.2.2.1,(y3,(s4.2.2.2.2.2.1,((up y1 y0 ({ y4 with Pending:=(zg5 y4.Pending s4.1) }:Guest)),(y5,(s4.2.2.2.2.2.2.2.2.1,(s4.2.2.2.2.2.2.2.2.2.1,(s4.2.2.2.2.2.2.2.2.2.2.1,()))))))))))))))))) (cond (ieq (ln y3) 0) (oN (zkM s4.2.2.1 s4.1) (some [(aT .bare (⟨s4.2.2.2.2.2.1,y1,y5,(zg5 s4.2.2.1 s4.1)⟩:Bare)),(aB true)])) (some [(aT .bare (⟨s4.2.2.2.2.2.1,y1,y5,s4.2.2.1⟩:Bare)),(aB true)])))) (a1,(0,(y2.Pending,(0,((zmG y2 a1),(y2.Memory,(y2.Guests,(y2.Outs,([],([],([],()))))))))))))))))))
def zSX:FuncId->Nat->Option Tmpl:=zk [(220,0,{ n:=62,tm:=[(1,ti),(2,.lp 0 0),(4,.lp 1 0),(6,.sl 0 []),(7,ti)],lo:=[(0,[.sl 1 [],.sl 2 [],.sl 3 [],ti]),(1,[.sl 4 [],.sl 5 [],.sl 6 [],ti])],ro:=[(0,.int,true),(1,(.sl .int),true),(2,.guest,true),(3,.int,true),(4,(.sl .int),true),(5,.guest,true),(6,.int,true)] })]
theorem zR3 (a0:Bare)(a1:Int)(hc:zpZ a0 a1=true):∃N,zD9 N a0 a1=some [aT .bare (zjo a0 a1),aB (zlD a0 a1)]:=by
 have hs:=zy.1 hc;have hk:(zd2 a0.Guests a1).length<=big:=jA (zvN _ _ _) (zb4 hs.2.1.1).1;refine zbV fun N hNN=>?_;unfold zD9 zjo zlD zk0 zgv oN nB
 conv=>zeta
 refine must (zN hs) (must rfl (brN (fun h1=>?_) (fun h1=>must rfl (brN (fun h2=>?_) (fun h2=>must (zN hs) ?_)))))
 .simp only [show zbQ a0=false from h1,cF]
 .simp only [show zbQ a0=true from h1,show hasB a1 8=false from by first|exact h2|exact (zP5 a1).symm.trans h2,cT,cF]
 simp only[show zbQ a0=true from h1,show hasB a1 8=true from by first|exact h2|exact (zP5 a1).symm.trans h2,cT]
 refine (zbb (zmG (zb6 a0) a1) (fun i (t:lG)=>(a1,(i:Int),(zb6 a0).Pending,0,(zmG (zb6 a0) a1),(zb6 a0).Memory,t,(zb6 a0).Outs,[],[],[],())) _ (fun _ k (t:List Guest) κ=>bif inb k (ln t) then (cond (inb k (ln t)) (κ (up t k (zmT (ix t k zo) a1))) none) else none) (fun (t:lG)=>(cond (ieq (ln (zmG (zb6 a0) a1)) 0) (cond (zkM (zb6 a0).Pending a1) (some [(.agg (Ty.cells .bare (⟨(zb6 a0).Memory,t,(zb6 a0).Outs,(zg5 (zb6 a0).Pending a1)⟩:Bare))),(.one (.b true))]) none) (some [(.agg (Ty.cells .bare (⟨(zb6 a0).Memory,t,(zb6 a0).Outs,(zb6 a0).Pending⟩:Bare))),(.one (.b true))]))) (fun i hi t rec=>?_) (fun t rec=>?_) _ ((zb6 a0).Guests) (hNN hk)).trans ?_
 .simp only [zbi hi,zQ hi,zbc hi,zU hi hk,cT];rfl
 .simp only [zbe,cF];rfl
 exact (zKn a1 _ _ 0 _ zBm).trans zPh
theorem zvw:u4 220 zq5:=kF2 zKh zi zl zn zSX zR3
@[simp] abbrev zo5 (b:Bare)(n:Int):Bool:=pc (SmB b)
@[simp] abbrev zht (b:Bare)(n:Int):Bare:=zk0 b n
@[simp] abbrev zgg (b:Bare)(n:Int):Bool:=zgv b n
def zq1:Run:=rF2 (dT .bare) dI fun b c=>(zo5 b c,[aT .bare (zht b c),aB (zgg b c)])
def zDE (N:Nat)(a0:Bare)(a1:Int):OA:=
 let y6:=(zbu a0); (oN (zbF a0) (oN (zdj a0) (cond (nB (zcl a0)) (some [(aT .bare y6),(aB false)]) (oN (zbk a1 0 7) (cond (nB (zbr a1 0 7)) (some [(aT .bare y6),(aB false)]) (oN (zvK a0 a1) (iter (σ:=(Int×(Int×(Int×(Int×(Int×((List Int)×(lM×(lG×((List Int)×(lM×(lG×((List Int)×Unit))))))))))))) N (fun r3 s4=>let y7:=s4.2.2.2.2.1;let y5:=s4.2.2.2.2.2.1;let y4:=s4.2.2.2.2.2.2.2.2.2.1;let y2:=s4.2.2.2.2.2.2.2.2.2.2.2.1;let y1:=(ix y5 s4.2.2.1 0);let y0:=s4.2.2.2.2.2.2.2.2.2.2.1;let y3:=(ix y0 y1 zo); (cond (ilt s4.2.2.1 s4.2.1) (oN (inb s4.2.2.1 (ln y5)) (oN (inb y1 (ln y0)) (oN (zkD y3.Pending s4.1) (oN (inb y1 (ln y0)) (r3 (s4.1,(s4.2.1,((zD .i64 s4.2.2.1 1),(s4.2.2.2.1,(y7,(y5,(s4.2.2.2.2.2.2.1,(s4.2.2.2.2.2.2.2.1,(s4.2.2.2.2.2.2.2.2.1,(y4,((up y0 y1 ({ y3 with Pending:=(zgX y3.Pending s4.1) }:Guest)),(y2,()))))))))))))))))) (cond (ieq (ln y5) 0) (oN (zkD y7 s4.1) (some [(aT .bare (⟨y4,y0,y2,(zgX y7 s4.1)⟩:Bare)),(aB true)])) (some [(aT .bare (⟨y4,y0,y2,y7⟩:Bare)),(aB true)])))) (a1,((ln (zh8 a0 a1)),(0,(0,(y6.Pending,((zh8 a0 a1),([],([],([],(y6.Memory,(y6.Guests,(y6.Outs,())))))))))))))))))))
def zSP:FuncId->Nat->Option Tmpl:=zk [(92,0,{ n:=59,tm:=[(1,ti),(4,.lp 0 0),(6,.lp 1 0),(7,.sl 0 []),(24,.sl 0 []),(25,ti),(26,ti)],lo:=[(0,[.sl 1 [],.sl 2 [],.sl 3 [],ti]),(1,[.sl 4 [],.sl 5 [],.sl 6 [],ti])],ro:=[(0,.int,true),(1,(.sl .int),true),(2,.guest,true),(3,.int,true),(4,(.sl .int),true),(5,.guest,true),(6,.int,true)] })]
theorem zRy (a0:Bare)(a1:Int)(hc:zo5 a0 a1=true):∃N,zDE N a0 a1=some [aT .bare (zht a0 a1),aB (zgg a0 a1)]:=by
 have hs:=zy.1 hc;have hk:(zd2 a0.Guests a1).length<=big:=jA (zvN _ _ _) (zb4 hs.2.1.1).1;refine zbV fun N hNN=>?_;unfold zDE zht zgg zk0 zgv oN nB
 conv=>zeta
 refine must (zN hs) (must rfl (brN (fun h1=>?_) (fun h1=>must rfl (brN (fun h2=>?_) (fun h2=>must (zN hs) ?_)))))
 .simp only [show zbQ a0=false from h1,cF]
 .simp only [show zbQ a0=true from h1,show hasB a1 8=false from by first|exact h2|exact (zP5 a1).symm.trans h2,cT,cF]
 simp only[show zbQ a0=true from h1,show hasB a1 8=true from by first|exact h2|exact (zP5 a1).symm.trans h2,cT]
 refine (zbb (zh8 a0 a1) (fun i (t:lG)=>(a1,(ln (zh8 a0 a1)),(i:Int),0,(zbu a0).Pending,(zh8 a0 a1),[],[],[],(zbu a0).Memory,t,(zbu a0).Outs,())) _ (fun _ k (t:List Guest) κ=>bif inb k (ln t) then (cond (inb k (ln t)) (κ (up t k (zmT (ix t k zo) a1))) none) else none) (fun (t:lG)=>(cond (ieq (ln (zh8 a0 a1)) 0) (cond (zkD (zbu a0).Pending a1) (some [(.agg (Ty.cells .bare (⟨(zbu a0).Memory,t,(zbu a0).Outs,(zgX (zbu a0).Pending a1)⟩:Bare))),(.one (.b true))]) none) (some [(.agg (Ty.cells .bare (⟨(zbu a0).Memory,t,(zbu a0).Outs,(zbu a0).Pending⟩:Bare))),(.one (.b true))]))) (fun i hi t rec=>?_) (fun t rec=>?_) _ ((zbu a0).Guests) (hNN hk)).trans ?_
 .simp only [zbi hi,zQ hi,zbc hi,zU hi hk,cT];rfl
 .simp only [zbe,cF];rfl
 exact (zKn a1 _ _ 0 _ zBm).trans zPh
theorem zvr:u4 92 zq1:=kF2 zKh zi zl zn zSP zRy
end
end Go.Proofs.YtdnmkiajccpnoaaGreat.E
namespace Go.Proofs
open Go Go.Shelf
def Tryz.laysMul_ren : Go.Shelf.Ren := ⟨fun | 212 => 294 | 263 => 319 | 264 => 320 | n => n, fun | 46 => 148 | 51 => 237 | 146 => 238 | 53 => 240 | 148 => 241 | n => n, fun | n => n⟩
theorem Tryz.laysMul : Go.Proofs.Lays.n212 Tryz.prog Tryz.laysMul_ren := {
  mixed := by kernel_rfl
  f212 := Tryz.func294.trans (congrArg some (by kernel_rfl))
  f263 := Tryz.func319.trans (congrArg some (by kernel_rfl))
  f264 := Tryz.func320.trans (congrArg some (by kernel_rfl))
  t46 := Tryz.underlying148
  a46 := Tryz.isAgg148
  z46 := Tryz.sizeOf148
  v46 := Tryz.zeroValue148
  t51 := Tryz.underlying237
  a51 := Tryz.isAgg237
  z51 := Tryz.sizeOf237
  v51 := Tryz.zeroValue237
  t53 := Tryz.underlying240
  a53 := Tryz.isAgg240
  z53 := Tryz.sizeOf240
  v53 := Tryz.zeroValue240
  t146 := Tryz.underlying238
  a146 := Tryz.isAgg238
  z146 := Tryz.sizeOf238
  v146 := Tryz.zeroValue238
  t148 := Tryz.underlying241
  a148 := Tryz.isAgg241
  z148 := Tryz.sizeOf241
  v148 := Tryz.zeroValue241 }
end Go.Proofs
namespace Go.Proofs.YtdnmkiajccpnoaaGreat.E
open Go
set_option linter.unusedVariables false
set_option maxRecDepth 100000
set_option linter.unusedSimpArgs false
set_option linter.unusedSectionVars false
noncomputable section
section
open Go Go.RowKit Go.Proofs
theorem z6b (x y:Nat)(hx:x<18446744073709551616)(hy:y<18446744073709551616)(w:World) :
 Calls Tryz.prog 294 #[.int .u64 x,.int .u64 y] w fun e w'=>e = .returned (.tuple #[.int .u64 ((x*y / 18446744073709551616:Nat):Int),.int .u64 ((x*y % 18446744073709551616:Nat):Int)])/\w'=w :=
 Any.bits_Mul Tryz.laysMul x y hx hy w
theorem zO5 (y:Nat)(hy:y<1000)(w:World):Calls Tryz.prog 294 #[.int .u64 1,.int .u64 y] w fun e w'=>e = .returned (.tuple #[.int .u64 0,.int .u64 y])/\w'=w:=by
 have h:=z6b 1 y (by omega) (by omega) w
 rw[show 1*y / 18446744073709551616=0 by omega,show 1*y % 18446744073709551616=y by omega]at h
 exact h
theorem src_of {w:World}{g:Nat}{cur cs:List Value}{t:TypeId}(hg:w.heap[g]?=some (.cells cur.toArray t (0,0)))(h:∀(j:Nat) v,cs[j]?=some v->cur[j]?=some v)(j:Nat)(v:Value)(hv:cs[j]?=some v):w.cell? ((⟨g,0,none⟩:Addr).add j)=some v:=by
 have ha:(⟨g,0,none⟩:Addr).add j=⟨g,j,none⟩:=by unfold Addr.add;split<;>simp_all
 rw[ha];simp[World.cell?,hg,h j v hv]
theorem z2E {B:Nat}{w0 w:World}(h:Below B w0 w):Below B w0 w.drew:=h.trans ⟨rfl,rfl,rfl,qU _,fun _ _=>rfl⟩
theorem alloc_at (w:World)(o:Obj):(w.alloc o).heap[w.heap.size]?=some o:=by unfold World.alloc;exact Array.getElem?_push_size
section
variable {P:Program}
theorem zCm (w:World)(dT sT ty elem:TypeId)(g o dLen dCap:Nat)(a:Addr)(sLen sCap:Nat)(cur:Array Value)(t:TypeId)(cs:List Value)(i:TypeInfo)(hu:P.underlying dT=some (.slice elem))(hs:P.info? elem=some i)(hg:w.heap[g]?=some (.cells cur t (0,0)))(hn:cs.length=Nat.min sLen dLen*i.size)(hsrc:∀j v,cs[j]?=some v->w.cell? (a.add j)=some v)(hfit:o+cs.length<=cur.size)(h1:∀v∈cs,v.oneCell'=true) :
 (Builtin.copy_ #[dT,sT] ty #[.slice (some ⟨g,o,none⟩) dLen dCap,.slice (some a) sLen sCap]).run P w =
  .ok (goInt (Nat.min sLen dLen)) (w.setRow g (cur.toList.take o++cs++cur.toList.drop (o+cs.length)).toArray):=by
 have hl:=run_loadCells_list (P:=P) w a cs hsrc;have hst:=run_storeCells_at P g o t cs 0 cur w hg (by simpa using hfit) h1
 simp[Builtin.copy_,run_underlying hu,Builtin.lenOf,Builtin.firstCells,sizeOf,typeInfo,hs,<- hn,hl,hst]
theorem zZ3 {w:World}{ops:Array Oper}{rest:List Oper}{o:Oper}{a:Act}{Q:Exit->Act->World->Prop}(hgd:o.guard=none)(d s:Operand)(dT sT:TypeId)(ho:o.op = .call { callee:=.builtin .copy,args:=#[d,s],argTypes:=#[dT,sT] })(elem:TypeId)(hu:P.underlying dT=some (.slice elem))(i:TypeInfo)(hsz:P.info? elem=some i)(g off dLen dCap:Nat)(ad:Addr)(sLen sCap:Nat)(hd:a.eval d = .slice (some ⟨g,off,none⟩) dLen dCap)(hs:a.eval s = .slice (some ad) sLen sCap)(cur:List Value)(t:TypeId)(hg:w.heap[g]?=some (.cells cur.toArray t (0,0)))(cs:List Value)(n:Nat)(hmin:Nat.min sLen dLen=n)(hn:cs.length=n*i.size)(hsrc:∀j v,cs[j]?=some v->w.cell? (ad.add j)=some v)(hfit:off+cs.length<=cur.length)(h1:∀v∈cs,v.oneCell'=true)(B:Nat)(w0:World)(hb:Below B w0 w)(hBg:B<=g)(h:∀w',Hid (w'.heap[g]?=some (.cells (splice cur off cs).toArray t (0,0)))->Below B w0 w'->w'.heap.size=w.heap.size->wpList P ops Q rest (a.put o.dst (goInt n)) w') :
 wpList P ops Q (o :: rest) a w:=by
 refine wpList_plain hgd fun K hK=>?_;subst hmin;have hrun:=zCm (P:=P) w dT sT o.type elem g off dLen dCap ad sLen sCap cur.toArray t cs i hu hsz hg hn hsrc (by simpa using hfit) h1
 unfold Oper.wp;simp[execOp,ho,resolve,invoke,builtin,hd,hs,hrun,Result.andThen];exact hK _ _ (by simpa using h _ (show _=_ by simpa [splice] using setRow_heap w g _ _ t _ hg) (below_setRow hb hBg _) (by simp[World.setRow]))
theorem z4x {ops:Array Oper}{o:Oper}{a:Act}{w:World}{K:Act->World->Prop}{Q:Exit->Act->World->Prop}{E:Prop}(hgd:o.guard=none)(d s:Operand)(dT sT:TypeId)(ho:o.op = .call { callee:=.builtin .copy,args:=#[d,s],argTypes:=#[dT,sT] })(elem:TypeId)(hu:P.underlying dT=some (.slice elem))(i:TypeInfo)(hsz:P.info? elem=some i)(g off dLen dCap:Nat)(ad:Addr)(sLen sCap:Nat)(hd:a.eval d = .slice (some ⟨g,off,none⟩) dLen dCap)(hs:a.eval s = .slice (some ad) sLen sCap)(cur:List Value)(t:TypeId)(hg:w.heap[g]?=some (.cells cur.toArray t (0,0)))(cs:List Value)(n:Nat)(hmin:Nat.min sLen dLen=n)(hn:cs.length=n*i.size)(hsrc:∀j v,cs[j]?=some v->w.cell? (ad.add j)=some v)(hfit:off+cs.length<=cur.length)(h1:∀v∈cs,v.oneCell'=true)(B:Nat)(w0:World)(hb:Below B w0 w)(hBg:B<=g)(h:∀w',Hid (w'.heap[g]?=some (.cells (splice cur off cs).toArray t (0,0)))->Below B w0 w'->w'.heap.size=w.heap.size->K (a.put o.dst (goInt n)) w') :
 if Region.wanted o (yielded ops a.tmps)=true then Oper.wp P o a w K Q else E:=by
 have hw:Region.wanted o (yielded ops a.tmps)=true:=by simp[Region.wanted,hgd]
 rw[if_pos hw];subst hmin;have hrun:=zCm (P:=P) w dT sT o.type elem g off dLen dCap ad sLen sCap cur.toArray t cs i hu hsz hg hn hsrc (by simpa using hfit) h1
 unfold Oper.wp;simp[execOp,ho,resolve,invoke,builtin,hd,hs,hrun,Result.andThen];exact h _ (show _=_ by simpa [splice] using setRow_heap w g _ _ t _ hg) (below_setRow hb hBg _) (by simp[World.setRow])
end
def zdE (a b:Value):Nat->List Value
 | 0=>[]
 | n+1=>a :: b :: zdE a b n
theorem zhG (a b:Value):∀n,(zdE a b n).length=n*2
 | 0=>rfl
 | n+1=>by simp[zdE,zhG a b n];omega
theorem zvV (a b:Value)(m:Nat):∀n,zdE a b (n+m)=zdE a b n++zdE a b m
 | 0=>by simp[zdE]
 | n+1=>by rw[show n+1+m=n+m+1 by omega];simp[zdE,zvV a b m n]
theorem zLP {a b v:Value}:∀{n},v∈zdE a b n->v=a\/v=b
 | n+1,h=>by
  simp[zdE]at h;rcases h with h|h|h
  .exact .inl h
  .exact .inr h
  .exact zLP h
theorem zZa (a b:Value):∀{n j:Nat},j<n->(zdE a b n)[j*2]?=some a/\(zdE a b n)[j*2+1]?=some b
 | n+1,0,_=>⟨rfl,rfl⟩
 | n+1,j+1,h=>by
  have:=zZa a b (n:=n) (j:=j) (by omega)
  rw[show (j+1)*2=j*2+1+1 by omega]
  simpa [zdE] using this
def pat (a b c d:Value)(k m:Nat):List Value:=zdE a b k++zdE c d m
theorem z2a (a b c d:Value)(k m:Nat):(pat a b c d k m).length=(k+m)*2:=by simp[pat,zhG];omega
theorem zPe (a b c d:Value)(k m r:Nat)(hr:r<=m):splice (pat a b c d k m) (k*2) (zdE a b r)=pat a b c d (k+r) (m-r):=by
 unfold splice pat;have hm:m=r+(m-r):=by omega
 have e1:(zdE a b k++zdE c d m).take (k*2)=zdE a b k:=by
  rw[List.take_append_of_le_length (by simp[zhG]),kY (by simp[zhG])]
 have e2:(zdE a b k++zdE c d m).drop (k*2+(zdE a b r).length)=zdE c d (m-r):=by
  rw[<- zhG a b k,List.drop_append,uN (by simp[zhG]),jK,Nat.add_sub_cancel_left]
  conv=>lhs;rw[hm,zvV]
  rw[List.drop_append,uN (by simp[zhG])]
  simp[zhG]
 rw[e1,e2,zvV,kA]
theorem z1a {a b c d:Value}{m:Nat}(h:1<=m):splice (pat c d c d 0 m) 0 (zdE a b 1)=pat a b c d 1 (m-1):=by
 have:=zPe a b c d 0 m 1 h;simpa [pat,zdE] using this
theorem zbbb (a b c d:Value)(k m r:Nat)(hr:r<=k)(j:Nat)(v:Value)(h:(zdE a b r)[j]?=some v):(pat a b c d k m)[j]?=some v:=by
 have hj:j<(zdE a b r).length:=(qA.1 h).1;unfold pat;rw[show k=r+(k-r) by omega,zvV,kA,qS hj,h]
theorem z7V (c d:Value)(n:Nat):(madeCells #[c,d] (n*2)).toList=zdE c d n:=by
 induction n with
 | zero=>simp[madeCells,zdE,uW]
 | succ n ih =>
  rw[zvV c d 1 n,<- ih];unfold madeCells;rw[show (n+1)*2=n*2+1+1 by omega,Array.range_succ,Array.range_succ]
  simp[zdE]
theorem zTS:∃i:TypeInfo,Tryz.prog.info? 58=some i/\i.size=2/\i.bytes=16/\i.zero=some (.agg #[.int .i64 0,.int .i64 0]):=by
 have h:(Tryz.prog.info? 58).map (fun i=>(i.size,i.bytes))=some (2,16):=by kernel_rfl
 have h2:(Tryz.prog.info? 58).bind (fun i=>i.zero)=some (.agg #[.int .i64 0,.int .i64 0]):=by kernel_rfl
 cases hi:Tryz.prog.info? 58 with
 | none=>rw[hi]at h;cases h
 | some i =>
  rw[hi]at h h2;simp at h h2;exact ⟨i,rfl,h.1,h.2,h2⟩
theorem z3B (w:World)(l:Nat)(hl:l<=24):(Instr.makeSlice 84 (.int .i64 l) (.int .i64 l)).run Tryz.prog w = .ok (.slice (some ⟨w.heap.size,0,none⟩) l l) (w.alloc (.cells (pat (.int .i64 0) (.int .i64 0) (.int .i64 0) (.int .i64 0) 0 l).toArray 58)):=by
 obtain ⟨i,hi,hs,hb,hz⟩:=zTS;have:=run_make (P:=Tryz.prog) w 84 58 i _ Tryz.underlying84 hi hz .i64 .i64 l l (by omega) (by omega) (by rw[hb];omega) (by omega)
 rw[this,hs];simp only[kC];rw[show (Value.agg #[.int .i64 0,.int .i64 0]).cells = #[.int .i64 0,.int .i64 0] from by kernel_rfl]
 simp only[pat,zdE,jK,<- z7V,jR]
theorem z1b (b off cap n:Nat)(v0 v1:Value)(w:World)(hn:1<=n)(hn2:n<=24)(h0:w.cell? ⟨b,off,none⟩=some v0)(h1:w.cell? ⟨b,off+1,none⟩=some v1)(hb:b<w.heap.size)(o0:v0.oneCell'=true)(o1:v1.oneCell'=true) :
 Calls Tryz.prog 232 #[.slice (some ⟨b,off,none⟩) 1 cap,.int .i64 n] w fun e w'=>∃g,e = .returned (.slice (some ⟨g,0,none⟩) n n)/\w.heap.size<=g/\w'.heap[g]?=some (.cells (zdE v0 v1 n).toArray 58 (0,0))/\Below w.heap.size w w':=by
 have hmk:=fun w=>z3B w n hn2;obtain ⟨inf,hinf,hsz,-,-⟩:=zTS;have hsrc:∀(x:Obj) (j:Nat) (v:Value),(zdE v0 v1 1)[j]?=some v->(w.alloc x).cell? ((⟨b,off,none⟩:Addr).add j)=some v:=by
  intro x j v hv;have hbel:Below w.heap.size w (w.alloc x):=(Below.refl _ _).alloc (qU _) _;have hj:j<2:=by simpa [zdE] using (qA.1 hv).1
  have ha:(⟨b,off,none⟩:Addr).add j=⟨b,off+j,none⟩:=by unfold Addr.add;split<;>simp_all
  rw[ha,hbel.cell (by exact hb)]
  match j,hj with
  | 0,_=>cases hv;exact h0
  | 1,_=>cases hv;exact h1
 go_enter Tryz.func232,Tryz.ntmps232
 go_wp2_with (go_at_fn 294;refine (zO5 n (by omega) _).mono ?_;rintro e w' ⟨rfl,hw⟩;rw[hw])
 .refine (zO5 n (by omega) _).mono ?_
  rintro e w' ⟨rfl,hw⟩
  rw[hw]
  go_wp2_with (refine zZ3 rfl (.tmp 31) (.tmp 32) 84 84 rfl 58 Tryz.underlying84 inf hinf w.heap.size 0 n n ⟨b,off,none⟩ 1 cap rfl rfl (pat (.int .i64 0) (.int .i64 0) (.int .i64 0) (.int .i64 0) 0 n) 58 (alloc_at _ _) (zdE v0 v1 1) 1 (by show min 1 n=1;omega) (by rw[hsz];rfl) (hsrc _) (by simp[zdE,z2a];omega) (by intro v hv;rcases zLP hv with rfl|rfl<;>assumption) w.heap.size w ((Below.refl _ _).alloc (qU _) _) (qU _) ?_;intro w2 HG2 hB2 hs2)
  rw[z1a (by omega)] at HG2
  go_loopw [8] (fun i wr=>∃k:Nat,1<=k/\k<=n/\i = .int .i64 k/\wr.heap[w.heap.size]?=some (.cells (pat v0 v1 (.int .i64 0) (.int .i64 0) k (n-k)).toArray 58 (0,0))/\Below w.heap.size w wr) (fun i _=>n-(intOf i).toNat)
  case atStart=>exact ⟨1,qU _,hn,rfl,HG2.out,hB2⟩
  case round =>
   obtain ⟨k,hk1,hkn,rfl,HG,hB⟩:=hrel
   by_cases hlt:k<n
   .obtain ⟨r,hr⟩:∃r,r=min k (n-k):=⟨_,rfl⟩;have hc1:(k:Int)<=(n:Int):=by omega
    have hnk:n≠k:=by omega
    have hwr:IntKind.i64.wrap ((k:Int)+(r:Int))=((k+r:Nat):Int):=by rw[IntKind.wrap_i64];omega
    go_wp2_with fail
    go_region_law (refine z4x rfl (.tmp 41) (.tmp 44) 84 84 rfl 58 Tryz.underlying84 inf hinf w.heap.size (k*2) (n-k) (n-k) ⟨w.heap.size,0,none⟩ k n (by simp[Act.eval,Act.put,hnk]) (by simp[Act.eval,Act.put]) (pat v0 v1 (.int .i64 0) (.int .i64 0) k (n-k)) 58 HG (zdE v0 v1 r) r hr.symm (by rw[hsz,zhG]) (src_of HG (zbbb _ _ _ _ _ _ _ (by omega))) (by simp[zhG,z2a];omega) (by intro v hv;rcases zLP hv with rfl|rfl<;>assumption) w.heap.size w (z2E hB) (qU _) ?_;intro w2 HG2 hB2 hs2)
    go_simp
    go_roundw
    case rel =>
     refine ⟨_,_,_,_,_,_,_,_,_,_,_,_,_,_,⟨k+r,by omega,by omega,?_,?_,hB2⟩,rfl⟩
     .rw [<- hr,hwr]
     .rw [show n-(k+r)=n-k-r by omega,<- zPe _ _ _ _ _ _ _ (by omega)]
      exact HG2.out
    case measure =>
     show n-(intOf (.int .i64 (IntKind.i64.wrap ((k:Int)+((min k (n-k):Nat):Int))))).toNat<n-(intOf (.int .i64 k)).toNat
     rw[<- hr,hwr];simp only[intOf,kC];omega
   .obtain rfl:k=n:=by omega
    go_wp2
    go_ret
    refine ⟨_,rfl,qU _,?_,hB⟩;rw[HG];simp[pat,zdE]
theorem z08 (w:World):Calls Tryz.prog 166 #[] w fun e w'=>e = .returned (.agg #[.int .i64 (-1),.int .i64 0])/\Below w.heap.size w w':=by
 go_enter Tryz.func166,Tryz.ntmps166
 go_wp2
 refine bodyPost_ret (results_cell_row (by rfl) _ _ w.heap.size 58 #[.int .i64 (-1),.int .i64 0] (0,0) _ rfl (alloc_at _ _) Tryz.underlying58 rfl (by kernel_rfl)) rfl ?_
 exact ⟨rfl,(Below.refl _ _).alloc (qU _) _⟩
theorem zWT (n:Nat)(w:World)(hn2:n<=24):Calls Tryz.prog 45 #[.int .i64 n,.int .i64 0,.int .i64 24] w fun e w'=>e = .returned (.int .i64 n)/\Below w.heap.size w w':=by
 go_enter Tryz.func45,Tryz.ntmps45
 go_wp2
 all_goals first
  | omega
  | (go_ret;exact ⟨by first|rfl|(congr 3;omega),Below.refl _ _⟩)
theorem zCk (w:World)(c:Array Value)(t:TypeId){i:Nat}{v:Value}(h:c[i]?=some v):(w.alloc (.cells c t)).cell? ⟨w.heap.size,i,none⟩=some v:=by
 rw[World.cell?_alloc_at (w:=w) c t _ _ rfl,h]
theorem z4y (n:Nat)(w:World)(hn:1<=n)(hn2:n<=24) :
 Calls Tryz.prog 130 #[.int .i64 n] w fun e w'=>∃g,e = .returned (.slice (some ⟨g,0,none⟩) n n)/\w.heap.size<=g/\w'.heap[g]?=some (.cells (zdE (.int .i64 (-1)) (.int .i64 0) n).toArray 58 (0,0))/\Below w.heap.size w w':=by
 go_enter Tryz.func130,Tryz.ntmps130
 go_wp2_with fail
 refine (z08 _).mono ?_
 rintro e w1 ⟨rfl,hB1⟩
 go_wp2_with fail
 refine (zWT n _ hn2).mono ?_
 rintro e w2 ⟨rfl,hB2⟩
 go_wp2_with fail
 have hs1:(w1.alloc (.cells #[.int .i64 (-1),.int .i64 0] 58)).heap.size=w1.heap.size+1:=by simp
 have z1:=hB1.size;have z2:=hB2.size;rw[hs1] at z2;refine (z1b w1.heap.size 0 1 n (.int .i64 (-1)) (.int .i64 0) w2 hn hn2 (by rw[hB2.cell (by show w1.heap.size<_;rw[hs1];omega)];exact zCk _ _ _ rfl) (by rw[hB2.cell (by show w1.heap.size<_;rw[hs1];omega)];exact zCk _ _ _ rfl) (by omega) rfl rfl).mono ?_
 rintro e w3 ⟨g,rfl,hg,hrow,hB3⟩
 go_wp2
 go_ret
 exact ⟨g,rfl,by omega,hrow,((hB1.alloc z1 _).trans (hB2.mono (by omega))).trans (hB3.mono (by omega))⟩
@[simp] abbrev zjg (n:Int):Bool:=ile 1 n&&ile n 24
@[simp] abbrev zgL (n:Int):List Slot:=List.replicate n.toNat ⟨-1,0⟩
def zmr:List AV->Option (Bool×List AV)
 | [.one (.i .i64 n)]=>some (zjg n,[.one (.s .slot (zgL n))])
 | _=>none
theorem zvv:u4 130 zmr:=by
 refine ⟨zdT (by kernel_rfl),?_⟩
 intro w avs xs rs hrep hrun;unfold zmr at hrun;split at hrun
 .rename_i n;simp only[qC,jQ,zjg,qE,ile,qY]at hrun;obtain ⟨⟨hc1,hc2⟩,rfl⟩:=hrun;have hl:xs.length=1:=hrep.1
  match xs,hl with
  | [x0],_ =>
   have hR:Rep false w x0 (.i .i64 n) (fun b=>b<w.heap.size):=hrep.2 0 _ x0 rfl rfl;obtain rfl:=hR.int_inv;obtain ⟨m,rfl⟩:∃m:Nat,n=(m:Int):=⟨n.toNat,by omega⟩
   refine (z4y m w (by omega) (by omega)).mono ?_
   rintro r w' ⟨g,rfl,hg,hrow,hB⟩
   have hgw:g<w'.heap.size:=(qP.1 hrow).1;have hlen:(zgL (m:Int)).length=m:=by simp
   refine ⟨⟨hB.os,hB.tape,hB.output,hB.size,fun b hb=>hB.block b hb⟩,[_],fun _ x=>x=g,⟨rfl,fun i c x hc hx=>?_⟩,rfl,⟨fun i x _ h=>⟨by omega,by omega⟩,fun i j x hi hj _ _=>?_⟩⟩
   .cases i with
    | zero =>
     cases hc;cases hx;have:=Rep.sl (o:=true) (w:=w') .slot (zgL (m:Int)) g 0 m _ _ (0,0) (fun _ j=>if j=0 then .int .i64 (-1) else .int .i64 0) (fun _ _ _=>False) (fun x=>x=g) hrow (fun _=>rfl)
      (by rw[hlen];unfold big;omega) (by rw[hlen];exact qU _) (by simp[zhG,Ty.width]) rfl (fun i j x _ _ h=>h.elim) (fun _ i j i' j' x _ _ _ _ h=>h.elim)
      (fun i j hi hj=>by
       rw[hlen]at hi;have hj2:j<2:=hj;have h2:=zZa (.int .i64 (-1)) (.int .i64 0) hi
       match j,hj2 with
       | 0,_=>simpa [show Ty.width .slot=2 from rfl] using h2.1
       | 1,_=>simpa [show Ty.width .slot=2 from rfl] using h2.2)
      (fun i x hx j c hcj=>by
       have hx2:x=⟨-1,0⟩:=by
        have:=qL hx;simpa using (List.mem_replicate.1 this).2
       subst hx2
       match j,hcj with
       | 0,hcj=>cases hcj;exact .i _ _ _
       | 1,hcj=>cases hcj;exact .i _ _ _)
     rw[hlen] at this;exact this
    | succ i=>simp[zA,AV.cvs]at hc
   .simp [zA,AV.cvs]at hi hj;omega
 .cases hrun
end
def z4O:zV:=[(206,ztI),(74,ztD),(209,zpP),(76,zpL),(213,zoe),(81,zob),(214,zog),(83,zod),(215,zof),(85,zoc),(216,ztH),(87,ztC),(89,zq0),(221,ztG),(94,ztB),(220,zq5),(92,zq1),(130,zmr)]++z9O
theorem zwO:zJ z4O:=zf zw7 (zf zw2 (zf ztZ (zf ztX (zf zsH (zf zsE (zf zsJ (zf zsG (zf zsI (zf zsF (zf zw6 (zf zw1 (zf zvq (zf zw5 (zf zw0 (zf zvw (zf zvr (zf zvv zKh)))))))))))))))))
theorem z6O {n:Int}(h:(ieq n 4||ieq n 8)=true):n=4\/n=8:=by
 rcases jT _ _ ▸ h with h|h
 .exact .inl (qD h)
 .exact .inr (qD h)
theorem zT1 {n:Int}(h:(ieq n 8||ieq n 12)=true):n=8\/n=12:=by
 rcases jT _ _ ▸ h with h|h
 .exact .inl (qD h)
 .exact .inr (qD h)
@[simp] abbrev zjs (n:Int):Bool:=ieq n 4||ieq n 8
@[simp] abbrev zgP (n:Int):List Slot:=List.replicate n.toNat ⟨-1,0⟩
def zq9:Run:=rF1 dI fun b=>(zjs b,[aS .slot (zgP b)])
def zWL (N:Nat)(a0:Int):OA:=
 (oN (zr1 a0 0 24) (iter (σ:=(Int×(lS×Unit))) N (fun r2 s3=>(cond (igt s3.1 0) (oN zcg (oN (few (ln (ap s3.2.1 [zbs]))) (r2 ((wsub .i64 s3.1 1),((ap s3.2.1 [zbs]),()))))) (some [(aS .slot s3.2.1)]))) ((zsZ a0 0 24),([],()))))
def zS2:FuncId->Nat->Option Tmpl:=zk [(188,0,{ n:=17,tm:=[(3,.sl 0 []),(4,ti)],lo:=[],ro:=[(0,.slot,true)] })]
theorem zSg (a0:Int)(hc:zjs a0=true):∃N,zWL N a0=some [aS .slot (zgP a0)]:=by
 refine ⟨30,?_⟩;have h:a0=4\/a0=8:=z6O hc;rcases h with rfl|rfl<;>(change _=_;kernel_rfl)
theorem zvz:u4 188 zq9:=kF1 zwO zi zl zn zS2 zSg
@[simp] abbrev zqd (n:Int):Bool:=ieq n 8||ieq n 12
@[simp] abbrev zj2 (n:Int):List (List Int):=List.replicate n.toNat [0,0,0,0]
def zwb:Run:=rF1 dI fun b=>(zqd b,[aS (.sl .int) (zj2 b)])
def z2A (N:Nat)(a0:Int):OA:=
 (oN (zr1 a0 0 24) (iter (σ:=(Int×(lM×Unit))) N (fun r2 s3=>(cond (igt s3.1 0) (oN (cond (few 4) (ieq 4 4) false) (oN (few (ln (ap s3.2.1 [(rp 4 0)]))) (r2 ((wsub .i64 s3.1 1),((ap s3.2.1 [(rp 4 0)]),()))))) (some [(aS (.sl .int) s3.2.1)]))) ((zsZ a0 0 24),([],()))))
def zZP:FuncId->Nat->Option Tmpl:=zk [(104,0,{ n:=17,tm:=[(3,.sl 0 []),(4,ti)],lo:=[],ro:=[(0,(.sl .int),true)] })]
theorem zYd (a0:Int)(hc:zqd a0=true):∃N,z2A N a0=some [aS (.sl .int) (zj2 a0)]:=by
 refine ⟨30,?_⟩;have h:a0=8\/a0=12:=zT1 hc;rcases h with rfl|rfl<;>(change _=_;kernel_rfl)
theorem zzt:u4 104 zwb:=kF1 zwO zi zl zn zZP zYd
@[simp] abbrev zui (n:Int):Bool:=ieq n 8||ieq n 12
@[simp] abbrev zlq (n:Int):List (List Int):=List.replicate n.toNat [0,0,0,0]
def zv1:Run:=rF1 dI fun b=>(zui b,[aS (.sl .int) (zlq b)])
def z2y (N:Nat)(a0:Int):OA:=
 (iter (σ:=(Int×(Int×(lM×Unit)))) N (fun r2 s3=>(oN (zrK s3.1 0 24) (cond (ilt s3.2.1 (zoy s3.1 0 24)) (oN (cond (few 4) (ieq 4 4) false) (oN (few (ln (ap s3.2.2.1 [(rp 4 0)]))) (r2 (s3.1,((zD .i64 s3.2.1 1),((ap s3.2.2.1 [(rp 4 0)]),())))))) (some [(aS (.sl .int) s3.2.2.1)])))) (a0,(0,([],()))))
def zZF:FuncId->Nat->Option Tmpl:=zk [(52,0,{ n:=17,tm:=[(0,ti),(3,.sl 0 []),(4,ti)],lo:=[],ro:=[(0,(.sl .int),true)] })]
theorem zXJ (a0:Int)(hc:zui a0=true):∃N,z2y N a0=some [aS (.sl .int) (zlq a0)]:=by
 refine ⟨30,?_⟩;have h:a0=8\/a0=12:=zT1 hc;rcases h with rfl|rfl<;>(change _=_;kernel_rfl)
theorem zzs:u4 52 zv1:=kF1 zwO zi zl zn zZF zXJ
def z4P:zV:=[(188,zq9),(104,zwb),(52,zv1)]++z4O
theorem zEz:zJ z4P:=zf zvz (zf zzt (zf zzs zwO))
def znH:List Slot:=List.replicate 4 ⟨-1,0⟩
def zfb (p:List Ins):Guest:=⟨p,0,0,znH,znH,⟨0,0,false⟩,0,⟨0,0,false,0⟩,false,[]⟩
@[simp] abbrev zp3 (p:List Ins):Bool:=pc (p.length<=1048576)
@[simp] abbrev zp2 (p:List Ins):Guest:=zfb p
@[simp] abbrev zpc (p:List Ins):Bool:=pc (p.length<=1048576)
@[simp] abbrev zpb (p:List Ins):Guest:=zfb p
def zq6:Run:=rF1 (dS .ins) fun b=>(zp3 b,[aT .guest (zp2 b)])
def zEd (N:Nat)(a0:lI):OA:=
 (oN (few (ln (ap [] a0))) (oN (zjs 4) (oN (zjs 4) (some [(aT .guest (⟨(ap [] a0),0,0,(zgP 4),(zgP 4),⟨0,0,false⟩,0,⟨0,0,false,0⟩,false,[]⟩:Guest))]))))
theorem zR7 (a0:List Ins)(hc:zp3 a0=true):∃N,zEd N a0=some [aT .guest (zp2 a0)]:=by
 have hs:=zy.1 hc;refine ⟨0,?_⟩;unfold zEd oN;refine mu (must rfl (must rfl ?_))
 first|rfl|(simp only [*,zp2,zfb,znH,cT,cF]<;>rfl)|simp_all[Ty.cells,zp2,zfb,znH]
theorem zvx:u4 189 zq6:=kF1 zEz zi zl zn (zk []) zR7
def zq3:Run:=rF1 (dS .ins) fun b=>(zpc b,[aT .guest (zpb b)])
def zDI (N:Nat)(a0:lI):OA:=
 (oN (zpv a0) (oN (zjg 4) (oN (zjg 4) (some [(aT .guest (⟨(zmh a0),0,0,(zgL 4),(zgL 4),⟨0,0,false⟩,0,⟨0,0,false,0⟩,false,[]⟩:Guest))]))))
theorem zRC (a0:List Ins)(hc:zpc a0=true):∃N,zDI N a0=some [aT .guest (zpb a0)]:=by
 have hs:=zy.1 hc;refine ⟨0,?_⟩;unfold zDI oN;refine mu (must rfl (must rfl ?_))
 first|rfl|(simp only [*,zpb,zfb,znH,cT,cF]<;>rfl)|simp_all[Ty.cells,zpb,zfb,znH]
theorem zvt:u4 131 zq3:=kF1 zEz zi zl zn (zk []) zRC
def zbbU:zV:=[(189,zq6),(131,zq3)]++z4P
theorem zwP:zJ zbbU:=zf zvx (zf zvt zEz)
def zSw:List (List Int):=List.replicate 8 [0,0,0,0]
def z6U (ps:List (List Ins)):Prop:=ps.length<=1048576/\∀p∈ps,p.length<=1048576
theorem zYH {α β ρ:Type}(f:α->β)(K:List β->Option ρ):∀(l:List α) (i:Nat) (acc:List β),acc.length+l.length<=2147483648 ->
 goL (fun _ x acc k=>bif few (ln (ap acc [f x])) then k (ap acc [f x]) else none) K l i acc=K (acc++l.map f)
 | [],i,acc,_=>by simp[goL]
 | x :: l,i,acc,hn=>by
  simp only[qW]at hn;have hf:few (ln (ap acc [f x]))=true:=zeO (by simp[ap];omega)
  simp only[goL,hf,cT];rw[zYH f K l (i+1) (ap acc [f x]) (by simp[ap];omega)]
  simp[ap]
theorem zTY {α β ρ:Type}(m:Nat)(f:α->β)(K:List β->Option ρ):∀(l:List α) (i:Nat) (acc:List β),acc.length+l.length<=2147483648 ->
 goL (fun (i:Nat) x acc k=>bif ilt (i:Int) (m:Int) then (cond (few (ln (ap acc [f x]))) (k (ap acc [f x])) none) else K acc) K l i acc=K (acc++(l.take (m-i)).map f)
 | [],i,acc,_=>by simp[goL]
 | x :: l,i,acc,hn=>by
  simp only[qW]at hn;have hf:few (ln (ap acc [f x]))=true:=zeO (by simp[ap];omega)
  by_cases h:i<m
  .have hi:ilt (i:Int) (m:Int)=true:=qK (by omega)
   simp only[goL,hi,hf,cT];rw[zTY m f K l (i+1) (ap acc [f x]) (by simp[ap];omega)]
   rw[show m-i=m-(i+1)+1 by omega]
   simp[ap]
  .have hi:ilt (i:Int) (m:Int)=false:=qH (by omega)
   simp only[goL,hi,cF];rw[show m-i=0 by omega]
   simp
theorem z6Q {α:Type}{l:List α}{n:Int}{x:α}(h:x∈tk l n):x∈l:=j6 (by exact h)
theorem zZB {α:Type}(l:List α)(m:Nat):tk l (ze2 (ln l) (m:Int))=l.take m/\inr 0 (ze2 (ln l) (m:Int)) (ln l)=true:=by
 unfold tk ze2
 by_cases h:(m:Int)<ln l
 .rw [if_pos h];simp only[ln]at h;exact ⟨by rw[kC],qK (by simp only[ln];omega)⟩
 .rw [if_neg h];simp only[ln]at h ⊢;refine ⟨by rw[kC,kY (qU _),kY (by omega)],qK (by omega)⟩
@[simp] abbrev zGm (a:GAct):Bool:=true
@[simp] abbrev zAr (a:GAct):Bool:=win a.Kind 1 17
def zJx:Run:=rF1 (dT .act) fun b=>(zGm b,[aB (zAr b)])
def zTl (N:Nat)(a0:GAct):OA:=
 (oN (zL a0.Kind 1 17) (some [(aB (zO a0.Kind 1 17))]))
theorem z0B (a0:GAct)(hc:zGm a0=true):∃N,zTl N a0=some [aB (zAr a0)]:=by
 refine ⟨0,?_⟩;unfold zTl oN;refine must rfl ?_
 first|rfl|(simp only [*,zAr,cT,cF]<;>rfl)|simp_all[Ty.cells,zAr]
theorem zUC:u4 106 zJx:=kF1 zwP zi zl zn (zk []) z0B
@[simp] abbrev zyJ (k:Int):Bool:=true
@[simp] abbrev zs4 (k:Int):Bool:=win k 13 17
def zCT:Run:=rF1 dI fun b=>(zyJ b,[aB (zs4 b)])
def zIM (N:Nat)(a0:Int):OA:=
 (oN (zL a0 13 17) (some [(aB (zO a0 13 17))]))
theorem zVA (a0:Int)(hc:zyJ a0=true):∃N,zIM N a0=some [aB (zs4 a0)]:=by
 refine ⟨0,?_⟩;unfold zIM oN;refine must rfl ?_
 first|rfl|(simp only [*,zs4,cT,cF]<;>rfl)|simp_all[Ty.cells,zs4]
theorem zN0:u4 108 zCT:=kF1 zwP zi zl zn (zk []) zVA
@[simp] abbrev zGn (a:GAct):Bool:=true
@[simp] abbrev zrd (a:GAct):Ctl:=⟨a.X,a.Y,ieq a.Z 1⟩
def zJy:Run:=rF1 (dT .act) fun b=>(zGn b,[.agg (zyj (zrd b))])
def zTm (N:Nat)(a0:GAct):OA:=
 (some [(.agg [(.i .i64 a0.X),(.i .i64 a0.Y),(.b (ieq a0.Z 1))])])
theorem z0C (a0:GAct)(hc:zGn a0=true):∃N,zTm N a0=some [.agg (zyj (zrd a0))]:=by
 refine ⟨0,?_⟩;unfold zTm
 first|rfl|(simp only [*,zrd,cT,cF]<;>rfl)|simp_all[Ty.cells,zrd]
theorem zUD:u4 117 zJy:=kF1 zwP zi zl zn (zk []) z0C
@[simp] abbrev zE7 (a:GAct):Bool:=true
@[simp] abbrev zqG (a:GAct):Ctl:=⟨a.X,a.Y,ieq a.Z 1⟩
def zJm:Run:=rF1 (dT .act) fun b=>(zE7 b,[.agg (zyj (zqG b))])
def zTa (N:Nat)(a0:GAct):OA:=
 (some [(.agg [(.i .i64 a0.X),(.i .i64 a0.Y),(.b (ieq a0.Z 1))])])
theorem z0p (a0:GAct)(hc:zE7 a0=true):∃N,zTa N a0=some [.agg (zyj (zqG a0))]:=by
 refine ⟨0,?_⟩;unfold zTa
 first|rfl|(simp only [*,zqG,cT,cF]<;>rfl)|simp_all[Ty.cells,zqG]
theorem zUq:u4 27 zJm:=kF1 zwP zi zl zn (zk []) z0p
def zW2:zV:=[(206,ztI),(74,ztD),(209,zpP),(76,zpL),(213,zoe),(81,zob),(214,zog),(83,zod),(215,zof),(85,zoc),(216,ztH),(87,ztC),(89,zq0),(221,ztG),(94,ztB),(220,zq5),(92,zq1),(104,zwb),(52,zv1)]++z9K
theorem zEB:zJ zW2:=zf zw7 (zf zw2 (zf ztZ (zf ztX (zf zsH (zf zsE (zf zsJ (zf zsG (zf zsI (zf zsF (zf zw6 (zf zw1 (zf zvq (zf zw5 (zf zw0 (zf zvw (zf zvr (zf zzt (zf zzs z7F))))))))))))))))))
def zcu (x:Mon):Bare:=⟨zSw,x.Guests,x.Outs,x.Pending⟩
def zAG (x:Mon)(b:Bare):Mon:={ x with Guests:=b.Guests,Pending:=b.Pending }
def zcb (h:Host)(m:Int)(b:Bare):Host:={ h with Mons:=up h.Mons m (zAG (ix h.Mons m mZ) b) }
@[simp] abbrev zeD (x:Mon):Bool:=pc (zes x)
@[simp] abbrev zbD (x:Mon):Bare:=zcu x
def zC9:Run:=rF1 (dT .mon) fun b=>(zeD b,[aT .bare (zbD b)])
def zI1 (N:Nat)(a0:Mon):OA:=
 (oN (zqd 8) (oN (zfB a0.Guests) (oN (few (ln (ap [] a0.Outs))) (some [(aT .bare (⟨(zj2 8),(zf7 a0.Guests),(ap [] a0.Outs),a0.Pending⟩:Bare))]))))
theorem zVY (a0:Mon)(hc:zeD a0=true):∃N,zI1 N a0=some [aT .bare (zbD a0)]:=by
 have hs:=zy.1 hc;refine ⟨0,?_⟩;unfold zI1 oN;exact must rfl (must (zN ((zwR _).2 hs.2.2.2.1)) (must (zos hs.2.2.2.2.1) rfl))
theorem zOo:u4 207 zC9:=kF1 zEB zi zbj zgz (zk []) zVY
@[simp] abbrev zeC (h:Host)(m:Int)(b:Bare):Bool:=pc (hasB m (ln h.Mons)=true/\znY b.Guests)
@[simp] abbrev zha (h:Host)(m:Int)(b:Bare):Host:=zcb h m b
theorem zP3 {l:List Mon}{m:Int}(hm:hasB m (ln l)=true)(b:Bare):inb m (ln (up l m { ix l m mZ with Guests:=b.Guests }))=true /\
 up (up l m { ix l m mZ with Guests:=b.Guests }) m { ix (up l m { ix l m mZ with Guests:=b.Guests }) m mZ with Pending:=b.Pending }=up l m (zAG (ix l m mZ) b):=by
 obtain ⟨k,rfl,hk⟩:=zds (n:=l.length) hm;refine ⟨zx (by rw[ln,ze0];exact hm),?_⟩
 rw[zqr,zcX hk];rfl
def ztN:List AV->Option (Bool×List AV)
 | [.agg [.s (.sl .int) b,.s .mon c,.s .entry d,.s .entry e],.one (.i .i64 f),.agg [.s (.sl .int) g,.s .guest h,.s .int j,.i .i64 k]]=>some ((zeC (⟨b,c,d,e⟩:Host) f (⟨g,h,j,k⟩:Bare)),[aH (zha (⟨b,c,d,e⟩:Host) f (⟨g,h,j,k⟩:Bare))])
 | _=>none
def zyd (N:Nat)(a0:Host)(a1:Int)(a2:Bare):OA:=
 (oN (zfB a2.Guests) (oN (inb a1 (ln a0.Mons)) (share (up a0.Mons a1 ({ (ix a0.Mons a1 zh) with Guests:=(zf7 a2.Guests) }:Mon)) (fun x4=>(oN (inb a1 (ln x4)) (share (up x4 a1 ({ (ix x4 a1 zh) with Pending:=a2.Pending }:Mon)) (fun x5=>(some [(aH ({ a0 with Mons:=x5 }:Host))]))))))))
theorem zYS (N:Nat)(a0:Host)(a1:Int)(a2:Bare):z3b (cQ zW2 zpD z3Y z8D) (zk []) N 12 208 [true,true,true,true,false,false,false,false,false] [aH a0,aI a1,aT .bare a2]=zyd N a0 a1 a2:=by kernel_rfl
theorem zVX (a0:Host)(a1:Int)(a2:Bare)(hb:zbC big [aH a0,aI a1,aT .bare a2])(hc:zeC a0 a1 a2=true):∃N,zyd N a0 a1 a2=some [aH (zha a0 a1 a2)]:=by
 obtain ⟨hm,hg⟩:=zy.1 hc;obtain ⟨h1,h2⟩:=zP3 hm a2;refine ⟨0,?_⟩;unfold zyd oN;refine must (zN ((zwR _).2 hg)) (must (zx hm) (shr (must h1 (shr ?_))));have e:zf7 a2.Guests=a2.Guests:=rfl;rw[e]
 show some [AV.agg (zS { a0 with Mons:=_ })]=some [AV.agg (zS { a0 with Mons:=_ })]
 rw[show zh=mZ from rfl,h2]
theorem zOn:zdY Tryz.prog 208 [true,true,true,true,false,false,false,false,false] none ztN:=by
 refine zQm (zcD zEB zi zbj zgz) (zdT (by kernel_rfl)) (by kernel_rfl) ?_
 intro avs rs hl hr h;have hb:=zi1 hr;unfold ztN at h;split at h
 .obtain ⟨hc,rfl⟩:=zdO h;obtain ⟨N,hN⟩:=zVX _ _ _ (by exact hb) hc
  exact ⟨_,N,12,(zYS N _ _ _ ).trans hN⟩
 .cases h
def z4V:zV:=[(207,zC9)]++zW2
theorem zd0:zJ z4V:=zf zOo zEB
def zbc0:ze9:=[(208,([true,true,true,true,false,false,false,false,false],none,ztN))]++z8D
theorem zbw:zdZ zbc0:=zro zgz (by
 intro x hx;simp only[qI,qX,or_false]at hx;rcases hx with rfl
 .exact zOn)
def z98 (h:Host)(m:Int)(cB:Bool)(B:Bare)(ok:Bool)(o0 o1:Host->Ans):OA:=
 bif zba h then (cond (zcJ h) (cond (cond (zcE h) false true) (some (o0 h)) (cond (zbx m (ln h.Mons)) (cond (cond (zbK m (ln h.Mons)) false true) (some (o0 h)) (cond (zee h m) (cond cB (cond ok (cond (zch B.Guests) (cond (inb m (ln h.Mons)) (share (up h.Mons m { ix h.Mons m mZ with Guests:=B.Guests }) fun x=>(cond (inb m (ln x)) (share (up x m { ix x m mZ with Pending:=B.Pending }) fun y=>some (o1 { h with Mons:=y })) none)) none) none) (some (o1 h))) none) none)) none)) none) else none
def zbad (h:Host)(m:Int)(cB:Bool)(B:Bare)(o0 o1:Host->Ans):OA:=
 bif zbI h then (cond (zfq h m) (cond (cond (zfp h m) false true) (some (o0 h)) (cond (inb m (ln h.Mons)) (cond (zeD (ix h.Mons m mZ)) (cond cB (cond (zeC h m B) (some (o1 (zcb h m B))) none) none) none) none)) none) else none
theorem zbd {h:Host}{m:Int}:(zbT h m=true)↔zbE h=true/\hasB m (ln h.Mons)=true:=by
 unfold zbT;cases zbE h<;>simp
theorem zoa {h:Host}{m:Int}{cB:Bool}{B:Bare}{ok:Bool}{o0 o1:Host->Ans}(hs:SmH h)(hc:zbT h m=true->cB=true)(hB:zbT h m=true->SmB B)(hno:zbT h m=true->ok=false->zcb h m B=h) :
 z98 h m cB B ok o0 o1=some (cond (zbT h m) (o1 (zcb h m B)) (o0 h)):=by
 have hS:zbA h:=(zF h).2 hs;unfold z98;refine must (zN hS) (must rfl ?_);rw[show zcE h=zbE h from rfl]
 have hc':zbE h=true->hasB m (ln h.Mons)=true->cB=true:=fun a b=>hc (zbd.2 ⟨a,b⟩);have hB':zbE h=true->hasB m (ln h.Mons)=true->SmB B:=fun a b=>hB (zbd.2 ⟨a,b⟩);unfold zbT at hno ⊢;cases h1:zbE h
 .rfl
 .refine zbN rfl (must rfl ?_);rw[show zbK m (ln h.Mons)=hasB m (ln h.Mons) from rfl]
  rw[h1]at hno;cases h2:hasB m (ln h.Mons)
  .rfl
  .rw [h2]at hno;refine zbN rfl (must (zbf hS) (must (hc' h1 h2) ?_));cases ok
   .simp only [cT,cF,hno rfl rfl]
   .obtain ⟨e1,e2⟩:=zP3 h2 B;refine must rfl (must (zN (hB' h1 h2).2.1) (must (zx h2) (shr (must e1 (shr ?_)))))
    show some (o1 { h with Mons:=_ })=_
    rw[e2];rfl
theorem zor {h:Host}{m:Int}{cB:Bool}{B:Bare}{o0 o1:Host->Ans}(hs:SmH h)(hc:zbT h m=true->cB=true)(hB:zbT h m=true->SmB B):zbad h m cB B o0 o1=some (cond (zbT h m) (o1 (zcb h m B)) (o0 h)):=by
 unfold zbad;refine must (zN ((zF h).2 hs)) (must rfl ?_);rw[show zfp h m=zbT h m from rfl]
 cases h0:zbT h m
 .rfl
 .have h2:=(zbd.1 h0).2;exact zbN rfl (must (zx h2) (must (zN (hs.2.1.2 _ (zbt h2 _))) (must (hc h0) (must (zN ⟨h2,(hB h0).2.1⟩) rfl))))
structure SameB (b c:Bare):Prop where
 g:b.Guests=c.Guests
 p:b.Pending=c.Pending
 o:zbQ b=zbQ c
theorem SameB.at {b c:Bare}(h:SameB b c)(g:Int):gAt b g=gAt c g:=by unfold gAt;rw[h.g]
theorem SameB.has {b c:Bare}(h:SameB b c)(g:Int):zbU b g=zbU c g:=by unfold zbU;rw[h.g,h.o]
theorem back_eq {h:Host}{m:Int}{b c:Bare}(hg:b.Guests=c.Guests)(hp:b.Pending=c.Pending):zcb h m b=zcb h m c:=by
 unfold zcb zAG;rw[hg,hp]
theorem zqz {b c:Bare}(hS:SameB b c)(h:Host)(m g:Int)(k:Bool)(x:Guest):zcb h m (chg b g k x)=zcb h m (chg c g k x):=by
 unfold chg;rw[hS.has];cases (cond (zbU c g) k false)
 .exact back_eq hS.g hS.p
 .exact back_eq (by simp only[cT,zeK,hS.g]) hS.p
theorem zl4 {b c:Bare}(hS:SameB b c)(g:Int)(k:Bool):zbM b g k=zbM c g k:=by
 unfold zbM;rw[hS.has]
theorem zjz {h:Host}{m:Int}(hm:hasB m (ln h.Mons)=true):zcb h m (zC h m)=h:=by
 unfold zcb zAG zC;rw[hm,cT];simp only;rw[zZ1 hm]
theorem zjH {h:Host}{m:Int}(h0:zbT h m=true)(hv:zbQ (zcu (ix h.Mons m mZ))=true):SameB (zcu (ix h.Mons m mZ)) (zC h m):=by
 obtain ⟨h1,h2⟩:=zbd.1 h0;refine ⟨?_,?_,hv.trans (zrB h1 h2).symm⟩<;>unfold zC zcu<;>rw [h2]<;>rfl
theorem zba1:ziX zSw 8=true:=by decide
theorem zoO {h:Host}{m:Int}(h0:zbT h m=true):zbQ (zcu (ix h.Mons m mZ))=true:=by
 obtain ⟨h1,h2⟩:=zbd.1 h0;have:=zrB h1 h2;unfold zC at this;rw[h2,cT] at this;unfold zbQ at this ⊢;simp only[zcu,zba1] at *
 simp_all
theorem zeL {x:Mon}(h:zes x):SmB (zcu x):=⟨show SmM zSw from ⟨by decide,by decide⟩,h.2.2.2.1,h.2.2.2.2.1⟩
theorem zvh {b:Bare}{g:Int}{k:Bool}{x:Guest}(h:zbM b g k=false):chg b g k x=b:=by
 unfold chg;unfold zbM at h;rw[h];rfl
def zcK (h:Host)(m:Int)(b:Bare):Host:=bif zbT h m then zcb h m b else h
def zcs (h:Host)(m:Int)(ok:Bool):Bool:=bif zbT h m then ok else false
@[simp] abbrev zgZ (b:Bare)(g p:Int)(s:Slot):Bare:=chg b g (zyQ p s) (zyR (gAt b g) p s)
@[simp] abbrev ziJ (b:Bare)(g p:Int)(s:Slot):Bool:=zbM b g (zyQ p s)
@[simp] abbrev zeT (b:Bare)(g v:Int):Bare:=chg b g (zyf (gAt b g) v) (zAD (gAt b g) v)
@[simp] abbrev zfM (b:Bare)(g v:Int):Bool:=zbM b g (zyf (gAt b g) v)
@[simp] abbrev zeV (b:Bare)(g:Int):Bare:=chg b g (zyB (gAt b g)) (zBp (gAt b g))
@[simp] abbrev zfO (b:Bare)(g:Int):Bool:=zbM b g (zyB (gAt b g))
@[simp] abbrev zeU (b:Bare)(g n:Int):Bare:=chg b g (zgm (gAt b g).Pending n) (zmT (gAt b g) n)
@[simp] abbrev zfN (b:Bare)(g n:Int):Bool:=zbM b g (zgm (gAt b g).Pending n)
@[simp] abbrev zgY (b:Bare)(g:Int)(c:Ctl):Bare:=chg b g (zjM c) (zJ7 (gAt b g) c)
@[simp] abbrev ziI (b:Bare)(g:Int)(c:Ctl):Bool:=zbM b g (zjM c)
@[simp] abbrev ziH (b:Bare):Bare:=zmQ b
@[simp] abbrev znp (b:Bare):Int:=zye b
@[simp] abbrev zkH (b:Bare):Bool:=znI b
@[simp] abbrev zhA (b:Bare)(n:Int):Bare:=zk0 b n
@[simp] abbrev zjj (b:Bare)(n:Int):Bool:=zgv b n
@[simp] abbrev z0X (h:Host)(m:Int)(g p:Int)(s:Slot):Host:=zcK h m (zgZ (zC h m) g p s)
@[simp] abbrev z0Y (h:Host)(m:Int)(g p:Int)(s:Slot):Bool:=zcs h m (ziJ (zC h m) g p s)
@[simp] abbrev zSp (h:Host)(m:Int)(g v:Int):Host:=zcK h m (zeT (zC h m) g v)
@[simp] abbrev zSq (h:Host)(m:Int)(g v:Int):Bool:=zcs h m (zfM (zC h m) g v)
@[simp] abbrev zSt (h:Host)(m:Int)(g:Int):Host:=zcK h m (zeV (zC h m) g)
@[simp] abbrev zSu (h:Host)(m:Int)(g:Int):Bool:=zcs h m (zfO (zC h m) g)
@[simp] abbrev zSr (h:Host)(m:Int)(g n:Int):Host:=zcK h m (zeU (zC h m) g n)
@[simp] abbrev zSs (h:Host)(m:Int)(g n:Int):Bool:=zcs h m (zfN (zC h m) g n)
@[simp] abbrev z0V (h:Host)(m:Int)(g:Int)(x:Ctl):Host:=zcK h m (zgY (zC h m) g x)
@[simp] abbrev z0W (h:Host)(m:Int)(g:Int)(x:Ctl):Bool:=zcs h m (ziI (zC h m) g x)
@[simp] abbrev zYE (h:Host)(m:Int)(n:Int):Host:=zcK h m (zhA (zC h m) n)
@[simp] abbrev zYF (h:Host)(m:Int)(n:Int):Bool:=zcs h m (zjj (zC h m) n)
@[simp] abbrev z0S (h:Host)(m:Int):Host:=zcK h m (ziH (zC h m))
@[simp] abbrev z0T (h:Host)(m:Int):Int:=bif zbT h m then znp (zC h m) else -1
@[simp] abbrev z0U (h:Host)(m:Int):Bool:=zcs h m (zkH (zC h m))
@[simp] abbrev zV2 (h:Host)(m g p:Int):Bool:=zcs h m (zbM (zC h m) g (hasB p 4))
theorem z6p {b c:Bare}(hS:SameB b c)(n:Int):(zk0 b n).Guests=(zk0 c n).Guests/\(zk0 b n).Pending=(zk0 c n).Pending/\zgv b n=zgv c n:=by
 have e:zgv b n=zgv c n:=by unfold zgv;rw[hS.o]
 unfold zk0;rw[e];cases zgv c n
 .exact ⟨hS.g,hS.p,rfl⟩
 .unfold zPg;rw[hS.g];cases ieq (ln (zd2 c.Guests n)) 0
  .exact ⟨by simp only[cT,cF],by simp only[cT,cF,hS.p],rfl⟩
  .exact ⟨by simp only[cT,hS.g],by simp only[cT,hS.p],rfl⟩
theorem z6o {b:Bare}{n:Int}(h:zgv b n=false):zk0 b n=b:=by
 unfold zk0;rw[h];rfl
theorem z6W {b c:Bare}(hS:SameB b c):(zmQ b).Guests=(zmQ c).Guests/\(zmQ b).Pending=(zmQ c).Pending/\zye b=zye c/\znI b=znI c:=by
 unfold zmQ zye znI;rw[hS.o,hS.p];cases zbQ c
 .exact ⟨hS.g,hS.p,rfl,rfl⟩
 .exact ⟨hS.g,rfl,rfl,rfl⟩
theorem z6V {b:Bare}(h:znI b=false):zmQ b=b:=by
 unfold zmQ;unfold znI at h;cases hb:zbQ b
 .rfl
 .rw [hb]at h;have h1:ilt (zcT b.Pending) 0=true:=by simpa using h
  unfold zgu;simp only[h1,cT]
theorem z6G {b:Bare}{n:Int}(h:SmB b):SmB (zk0 b n):=by
 unfold zk0;cases zgv b n
 .exact h
 .unfold zPg;cases ieq (ln (zd2 b.Guests n)) 0
  .exact ⟨h.1,(zGy _ zBm h.2.1).1,h.2.2⟩
  .exact h
theorem z8q {b:Bare}(h:SmB b):SmB (zmQ b):=by
 unfold zmQ;cases zbQ b
 .exact h
 .exact h
theorem zuQ {H H':Host}{x y:Bool}(h1:H=H')(h2:x=y):some [AV.agg (zS H),AV.one (.b x)]=some [AV.agg (zS H'),AV.one (.b y)]:=by rw[h1,h2]
theorem zbas {H H':Host}{n k:Int}{x y:Bool}(h1:H=H')(h2:n=k)(h3:x=y):some [AV.agg (zS H),AV.one (.i .i64 n),AV.one (.b x)]=some [AV.agg (zS H'),AV.one (.i .i64 k),AV.one (.b y)]:=by rw[h1,h2,h3]
theorem zSJ {b:Bare}(g p:Int)(s:Slot)(hb:SmB b):SmB (zgZ b g p s):=zoM hb (zZp _ _ (zeZ _ hb))
theorem z8e {b:Bare}(g p:Int)(s:Slot)(hk:ziJ b g p s=false):zgZ b g p s=b:=zvh hk
theorem z8o {b c:Bare}(hS:SameB b c)(h:Host)(m:Int)(g p:Int)(s:Slot):zcb h m (zgZ b g p s)=zcb h m (zgZ c g p s)/\ziJ b g p s=ziJ c g p s:=by
 have e:=hS.at g;simp only[zgZ,ziJ,e];exact ⟨zqz hS _ _ _ _ _,zl4 hS _ _⟩
@[simp] abbrev zyI (h:Host)(m:Int)(g p:Int)(s:Slot):Bool:=pc (zbA h)
@[simp] abbrev zsb (h:Host)(m:Int)(g p:Int)(s:Slot):Host:=zcK h m (zgZ (zC h m) g p s)
@[simp] abbrev zsc (h:Host)(m:Int)(g p:Int)(s:Slot):Bool:=zcs h m (ziJ (zC h m) g p s)
def zCS:Run:=rF5 dH dI dI dI (dT .slot) fun b c d e f=>(zyI b c d e f,[aH (zsb b c d e f),aB (zsc b c d e f)])
def zIL (N:Nat)(a0:Host)(a1 a2 a3:Int)(a4:Slot):OA:=
 let y1:=(zu a0);let y0:=(ix y1.Mons a1 zh); (oN (zbI a0) (oN (zfq y1 a1) (cond (nB (zfp y1 a1)) (some [(aH y1),(aB false)]) (oN (inb a1 (ln y1.Mons)) (oN (zeD y0) (oN (zr0 (zbD y0) a2 a3 a4) (oN (zeC y1 a1 (ziM (zbD y0) a2 a3 a4)) (some [(aH (zha y1 a1 (ziM (zbD y0) a2 a3 a4))),(aB (zkL (zbD y0) a2 a3 a4))]))))))))
theorem zVz (a0:Host)(a1 a2 a3:Int)(a4:Slot)(hc:zyI a0 a1 a2 a3 a4=true):∃N,zIL N a0 a1 a2 a3 a4=some [aH (zsb a0 a1 a2 a3 a4),aB (zsc a0 a1 a2 a3 a4)]:=by
 have hs:=(zF a0).1 (zy.1 hc);refine ⟨0,?_⟩;have key:=zor (h:=a0) (m:=a1) (cB:=zr0 (zcu (ix a0.Mons a1 mZ)) a2 a3 a4) (B:=ziM (zcu (ix a0.Mons a1 mZ)) a2 a3 a4) (o0:=fun H=>[.agg (zS H),.one (.b false)]) (o1:=fun H=>[.agg (zS H),.one (.b (zkL (zcu (ix a0.Mons a1 mZ)) a2 a3 a4))]) hs
  (fun h0=>zN (zeL (hs.2.1.2 _ (zbt (zbd.1 h0).2 _)))) (fun h0=>zSJ _ _ _ (zeL (hs.2.1.2 _ (zbt (zbd.1 h0).2 _))))
 refine (show zIL 0 a0 a1 a2 a3 a4=_ from key).trans ?_
 unfold zsb zsc zcK zcs;cases h0:zbT a0 a1
 .rfl
 .obtain ⟨e1,e2⟩:=z8o (zjH h0 (zoO h0)) a0 a1 a2 a3 a4;simp only[cT];exact zuQ e1 e2
theorem zNZ:u4 111 zCS:=kF5 zd0 zi zbj zbw (zk []) zVz
@[simp] abbrev zyr (h:Host)(m:Int)(g p:Int)(s:Slot):Bool:=pc (zbA h)
@[simp] abbrev zkC (h:Host)(m:Int)(g p:Int)(s:Slot):Host:=zcK h m (zgZ (zC h m) g p s)
@[simp] abbrev zne (h:Host)(m:Int)(g p:Int)(s:Slot):Bool:=zcs h m (ziJ (zC h m) g p s)
def zCv:Run:=rF5 dH dI dI dI (dT .slot) fun b c d e f=>(zyr b c d e f,[aH (zkC b c d e f),aB (zne b c d e f)])
def zIl (N:Nat)(a0:Host)(a1 a2 a3:Int)(a4:Slot):OA:=
 let y1:=(zI a0);let y0:=(zc7 a0 a1);let y3:=(zkx y0 a2 a3 a4);let y2:=(ziB y0 a2 a3 a4); (oN (zba a0) (oN (zcJ a0) (cond (nB (zcE a0)) (some [(aH y1),(aB false)]) (oN (zbx a1 (ln a0.Mons)) (cond (nB (zbK a1 (ln a0.Mons))) (some [(aH y1),(aB false)]) (oN (zee a0 a1) (oN (zrJ y0 a2 a3 a4) (cond y2 (oN (zch y3.Guests) (oN (inb a1 (ln y1.Mons)) (share (up y1.Mons a1 ({ (ix y1.Mons a1 zh) with Guests:=(zcF y3.Guests) }:Mon)) (fun x6=>(oN (inb a1 (ln x6)) (share (up x6 a1 ({ (ix x6 a1 zh) with Pending:=y3.Pending }:Mon)) (fun x7=>(some [(aH ({ y1 with Mons:=x7 }:Host)),(aB y2)])))))))) (some [(aH y1),(aB y2)])))))))))
theorem zU7 (a0:Host)(a1 a2 a3:Int)(a4:Slot)(hc:zyr a0 a1 a2 a3 a4=true):∃N,zIl N a0 a1 a2 a3 a4=some [aH (zkC a0 a1 a2 a3 a4),aB (zne a0 a1 a2 a3 a4)]:=by
 have hs:=(zF a0).1 (zy.1 hc);refine ⟨0,?_⟩;have key:=zoa (h:=a0) (m:=a1) (cB:=zrJ (zC a0 a1) a2 a3 a4) (B:=zkx (zC a0 a1) a2 a3 a4) (ok:=ziB (zC a0 a1) a2 a3 a4) (o0:=fun H=>[.agg (zS H),.one (.b false)]) (o1:=fun H=>[.agg (zS H),.one (.b (ziB (zC a0 a1) a2 a3 a4))]) hs
  (fun h0=>zN (zdG hs (zbd.1 h0).2)) (fun h0=>zSJ _ _ _ (zdG hs (zbd.1 h0).2)) (fun h0 hk=>(congrArg (zcb a0 a1) (z8e _ _ _ hk)).trans (zjz (zbd.1 h0).2))
 refine (show zIl 0 a0 a1 a2 a3 a4=_ from key).trans ?_
 unfold zkC zne zcK zcs;cases zbT a0 a1<;>rfl
theorem zNC:u4 21 zCv:=kF5 zd0 zi zbj zbw (zk []) zU7
theorem zBG {b:Bare}(g v:Int)(hb:SmB b):SmB (zeT b g v):=zoM hb (z8r _ (zeZ _ hb))
theorem z05 {b:Bare}(g v:Int)(hk:zfM b g v=false):zeT b g v=b:=zvh hk
theorem z1r {b c:Bare}(hS:SameB b c)(h:Host)(m:Int)(g v:Int):zcb h m (zeT b g v)=zcb h m (zeT c g v)/\zfM b g v=zfM c g v:=by
 have e:=hS.at g;simp only[zeT,zfM,e];exact ⟨zqz hS _ _ _ _ _,zl4 hS _ _⟩
@[simp] abbrev zrf (h:Host)(m:Int)(g v:Int):Bool:=pc (zbA h)
@[simp] abbrev zmz (h:Host)(m:Int)(g v:Int):Host:=zcK h m (zeT (zC h m) g v)
@[simp] abbrev zmA (h:Host)(m:Int)(g v:Int):Bool:=zcs h m (zfM (zC h m) g v)
def zv8:Run:=rF4 dH dI dI dI fun b c d e=>(zrf b c d e,[aH (zmz b c d e),aB (zmA b c d e)])
def zzg (N:Nat)(a0:Host)(a1 a2 a3:Int):OA:=
 let y1:=(zu a0);let y0:=(ix y1.Mons a1 zh); (oN (zbI a0) (oN (zfq y1 a1) (cond (nB (zfp y1 a1)) (some [(aH y1),(aB false)]) (oN (inb a1 (ln y1.Mons)) (oN (zeD y0) (oN (zms (zbD y0) a2 a3) (oN (zeC y1 a1 (zfP (zbD y0) a2 a3)) (some [(aH (zha y1 a1 (zfP (zbD y0) a2 a3))),(aB (zhk (zbD y0) a2 a3))]))))))))
theorem zLB (a0:Host)(a1 a2 a3:Int)(hc:zrf a0 a1 a2 a3=true):∃N,zzg N a0 a1 a2 a3=some [aH (zmz a0 a1 a2 a3),aB (zmA a0 a1 a2 a3)]:=by
 have hs:=(zF a0).1 (zy.1 hc);refine ⟨0,?_⟩;have key:=zor (h:=a0) (m:=a1) (cB:=zms (zcu (ix a0.Mons a1 mZ)) a2 a3) (B:=zfP (zcu (ix a0.Mons a1 mZ)) a2 a3) (o0:=fun H=>[.agg (zS H),.one (.b false)]) (o1:=fun H=>[.agg (zS H),.one (.b (zhk (zcu (ix a0.Mons a1 mZ)) a2 a3))]) hs
  (fun h0=>zN (zeL (hs.2.1.2 _ (zbt (zbd.1 h0).2 _)))) (fun h0=>zBG _ _ (zeL (hs.2.1.2 _ (zbt (zbd.1 h0).2 _))))
 refine (show zzg 0 a0 a1 a2 a3=_ from key).trans ?_
 unfold zmz zmA zcK zcs;cases h0:zbT a0 a1
 .rfl
 .obtain ⟨e1,e2⟩:=z1r (zjH h0 (zoO h0)) a0 a1 a2 a3;simp only[cT];exact zuQ e1 e2
theorem zE3:u4 113 zv8:=kF4 zd0 zi zbj zbw (zk []) zLB
@[simp] abbrev zqI (h:Host)(m:Int)(g v:Int):Bool:=pc (zbA h)
@[simp] abbrev zhg (h:Host)(m:Int)(g v:Int):Host:=zcK h m (zeT (zC h m) g v)
@[simp] abbrev zi9 (h:Host)(m:Int)(g v:Int):Bool:=zcs h m (zfM (zC h m) g v)
def zvY:Run:=rF4 dH dI dI dI fun b c d e=>(zqI b c d e,[aH (zhg b c d e),aB (zi9 b c d e)])
def zy5 (N:Nat)(a0:Host)(a1 a2 a3:Int):OA:=
 let y1:=(zI a0);let y0:=(zc7 a0 a1); (oN (zba a0) (oN (zcJ a0) (cond (nB (zcE a0)) (some [(aH y1),(aB false)]) (oN (zbx a1 (ln a0.Mons)) (cond (nB (zbK a1 (ln a0.Mons))) (some [(aH y1),(aB false)]) (oN (zee a0 a1) (oN (zl9 y0 a2 a3) (cond (zeb y0 a2 a3) (oN (zch (zeP y0 a2 a3).Guests) (oN (inb a1 (ln y1.Mons)) (share (up y1.Mons a1 ({ (ix y1.Mons a1 zh) with Guests:=(zcF (zeP y0 a2 a3).Guests) }:Mon)) (fun x5=>(oN (inb a1 (ln x5)) (share (up x5 a1 ({ (ix x5 a1 zh) with Pending:=(zeP y0 a2 a3).Pending }:Mon)) (fun x6=>(some [(aH ({ y1 with Mons:=x6 }:Host)),(aB (zeb y0 a2 a3))])))))))) (some [(aH y1),(aB (zeb y0 a2 a3))])))))))))
theorem zLo (a0:Host)(a1 a2 a3:Int)(hc:zqI a0 a1 a2 a3=true):∃N,zy5 N a0 a1 a2 a3=some [aH (zhg a0 a1 a2 a3),aB (zi9 a0 a1 a2 a3)]:=by
 have hs:=(zF a0).1 (zy.1 hc);refine ⟨0,?_⟩;have key:=zoa (h:=a0) (m:=a1) (cB:=zl9 (zC a0 a1) a2 a3) (B:=zeP (zC a0 a1) a2 a3) (ok:=zeb (zC a0 a1) a2 a3) (o0:=fun H=>[.agg (zS H),.one (.b false)]) (o1:=fun H=>[.agg (zS H),.one (.b (zeb (zC a0 a1) a2 a3))]) hs
  (fun h0=>zN (zdG hs (zbd.1 h0).2)) (fun h0=>zBG _ _ (zdG hs (zbd.1 h0).2)) (fun h0 hk=>(congrArg (zcb a0 a1) (z05 _ _ hk)).trans (zjz (zbd.1 h0).2))
 refine (show zy5 0 a0 a1 a2 a3=_ from key).trans ?_
 unfold zhg zi9 zcK zcs;cases zbT a0 a1<;>rfl
theorem zET:u4 23 zvY:=kF4 zd0 zi zbj zbw (zk []) zLo
theorem zBI {b:Bare}(g:Int)(hb:SmB b):SmB (zeV b g):=zoM hb (z8s (zeZ _ hb))
theorem z07 {b:Bare}(g:Int)(hk:zfO b g=false):zeV b g=b:=zvh hk
theorem z1t {b c:Bare}(hS:SameB b c)(h:Host)(m:Int)(g:Int):zcb h m (zeV b g)=zcb h m (zeV c g)/\zfO b g=zfO c g:=by
 have e:=hS.at g;simp only[zeV,zfO,e];exact ⟨zqz hS _ _ _ _ _,zl4 hS _ _⟩
@[simp] abbrev zrh (h:Host)(m:Int)(g:Int):Bool:=pc (zbA h)
@[simp] abbrev zmD (h:Host)(m:Int)(g:Int):Host:=zcK h m (zeV (zC h m) g)
@[simp] abbrev zmE (h:Host)(m:Int)(g:Int):Bool:=zcs h m (zfO (zC h m) g)
def zwa:Run:=rF3 dH dI dI fun b c d=>(zrh b c d,[aH (zmD b c d),aB (zmE b c d)])
def zzi (N:Nat)(a0:Host)(a1 a2:Int):OA:=
 let y1:=(zu a0);let y0:=(ix y1.Mons a1 zh); (oN (zbI a0) (oN (zfq y1 a1) (cond (nB (zfp y1 a1)) (some [(aH y1),(aB false)]) (oN (inb a1 (ln y1.Mons)) (oN (zeD y0) (oN (zmu (zbD y0) a2) (oN (zeC y1 a1 (zfR (zbD y0) a2)) (some [(aH (zha y1 a1 (zfR (zbD y0) a2))),(aB (zhm (zbD y0) a2))]))))))))
theorem zLD (a0:Host)(a1 a2:Int)(hc:zrh a0 a1 a2=true):∃N,zzi N a0 a1 a2=some [aH (zmD a0 a1 a2),aB (zmE a0 a1 a2)]:=by
 have hs:=(zF a0).1 (zy.1 hc);refine ⟨0,?_⟩;have key:=zor (h:=a0) (m:=a1) (cB:=zmu (zcu (ix a0.Mons a1 mZ)) a2) (B:=zfR (zcu (ix a0.Mons a1 mZ)) a2) (o0:=fun H=>[.agg (zS H),.one (.b false)]) (o1:=fun H=>[.agg (zS H),.one (.b (zhm (zcu (ix a0.Mons a1 mZ)) a2))]) hs
  (fun h0=>zN (zeL (hs.2.1.2 _ (zbt (zbd.1 h0).2 _)))) (fun h0=>zBI _ (zeL (hs.2.1.2 _ (zbt (zbd.1 h0).2 _))))
 refine (show zzi 0 a0 a1 a2=_ from key).trans ?_
 unfold zmD zmE zcK zcs;cases h0:zbT a0 a1
 .rfl
 .obtain ⟨e1,e2⟩:=z1t (zjH h0 (zoO h0)) a0 a1 a2;simp only[cT];exact zuQ e1 e2
theorem zE5:u4 114 zwa:=kF3 zd0 zi zbj zbw (zk []) zLD
@[simp] abbrev zqK (h:Host)(m:Int)(g:Int):Bool:=pc (zbA h)
@[simp] abbrev zhi (h:Host)(m:Int)(g:Int):Host:=zcK h m (zeV (zC h m) g)
@[simp] abbrev zjc (h:Host)(m:Int)(g:Int):Bool:=zcs h m (zfO (zC h m) g)
def zv0:Run:=rF3 dH dI dI fun b c d=>(zqK b c d,[aH (zhi b c d),aB (zjc b c d)])
def zy7 (N:Nat)(a0:Host)(a1 a2:Int):OA:=
 let y1:=(zI a0);let y0:=(zc7 a0 a1); (oN (zba a0) (oN (zcJ a0) (cond (nB (zcE a0)) (some [(aH y1),(aB false)]) (oN (zbx a1 (ln a0.Mons)) (cond (nB (zbK a1 (ln a0.Mons))) (some [(aH y1),(aB false)]) (oN (zee a0 a1) (oN (zmb y0 a2) (cond (zed y0 a2) (oN (zch (zeR y0 a2).Guests) (oN (inb a1 (ln y1.Mons)) (share (up y1.Mons a1 ({ (ix y1.Mons a1 zh) with Guests:=(zcF (zeR y0 a2).Guests) }:Mon)) (fun x4=>(oN (inb a1 (ln x4)) (share (up x4 a1 ({ (ix x4 a1 zh) with Pending:=(zeR y0 a2).Pending }:Mon)) (fun x5=>(some [(aH ({ y1 with Mons:=x5 }:Host)),(aB (zed y0 a2))])))))))) (some [(aH y1),(aB (zed y0 a2))])))))))))
theorem zLq (a0:Host)(a1 a2:Int)(hc:zqK a0 a1 a2=true):∃N,zy7 N a0 a1 a2=some [aH (zhi a0 a1 a2),aB (zjc a0 a1 a2)]:=by
 have hs:=(zF a0).1 (zy.1 hc);refine ⟨0,?_⟩;have key:=zoa (h:=a0) (m:=a1) (cB:=zmb (zC a0 a1) a2) (B:=zeR (zC a0 a1) a2) (ok:=zed (zC a0 a1) a2) (o0:=fun H=>[.agg (zS H),.one (.b false)]) (o1:=fun H=>[.agg (zS H),.one (.b (zed (zC a0 a1) a2))]) hs
  (fun h0=>zN (zdG hs (zbd.1 h0).2)) (fun h0=>zBI _ (zdG hs (zbd.1 h0).2)) (fun h0 hk=>(congrArg (zcb a0 a1) (z07 _ hk)).trans (zjz (zbd.1 h0).2))
 refine (show zy7 0 a0 a1 a2=_ from key).trans ?_
 unfold zhi zjc zcK zcs;cases zbT a0 a1<;>rfl
theorem zEV:u4 24 zv0:=kF3 zd0 zi zbj zbw (zk []) zLq
theorem zBH {b:Bare}(g n:Int)(hb:SmB b):SmB (zeU b g n):=zoM hb (zeZ (b:=b) _ hb)
theorem z06 {b:Bare}(g n:Int)(hk:zfN b g n=false):zeU b g n=b:=zvh hk
theorem z1s {b c:Bare}(hS:SameB b c)(h:Host)(m:Int)(g n:Int):zcb h m (zeU b g n)=zcb h m (zeU c g n)/\zfN b g n=zfN c g n:=by
 have e:=hS.at g;simp only[zeU,zfN,e];exact ⟨zqz hS _ _ _ _ _,zl4 hS _ _⟩
@[simp] abbrev zrg (h:Host)(m:Int)(g n:Int):Bool:=pc (zbA h)
@[simp] abbrev zmB (h:Host)(m:Int)(g n:Int):Host:=zcK h m (zeU (zC h m) g n)
@[simp] abbrev zmC (h:Host)(m:Int)(g n:Int):Bool:=zcs h m (zfN (zC h m) g n)
def zv9:Run:=rF4 dH dI dI dI fun b c d e=>(zrg b c d e,[aH (zmB b c d e),aB (zmC b c d e)])
def zzh (N:Nat)(a0:Host)(a1 a2 a3:Int):OA:=
 let y1:=(zu a0);let y0:=(ix y1.Mons a1 zh); (oN (zbI a0) (oN (zfq y1 a1) (cond (nB (zfp y1 a1)) (some [(aH y1),(aB false)]) (oN (inb a1 (ln y1.Mons)) (oN (zeD y0) (oN (zmt (zbD y0) a2 a3) (oN (zeC y1 a1 (zfQ (zbD y0) a2 a3)) (some [(aH (zha y1 a1 (zfQ (zbD y0) a2 a3))),(aB (zhl (zbD y0) a2 a3))]))))))))
theorem zLC (a0:Host)(a1 a2 a3:Int)(hc:zrg a0 a1 a2 a3=true):∃N,zzh N a0 a1 a2 a3=some [aH (zmB a0 a1 a2 a3),aB (zmC a0 a1 a2 a3)]:=by
 have hs:=(zF a0).1 (zy.1 hc);refine ⟨0,?_⟩;have key:=zor (h:=a0) (m:=a1) (cB:=zmt (zcu (ix a0.Mons a1 mZ)) a2 a3) (B:=zfQ (zcu (ix a0.Mons a1 mZ)) a2 a3) (o0:=fun H=>[.agg (zS H),.one (.b false)]) (o1:=fun H=>[.agg (zS H),.one (.b (zhl (zcu (ix a0.Mons a1 mZ)) a2 a3))]) hs
  (fun h0=>zN (zeL (hs.2.1.2 _ (zbt (zbd.1 h0).2 _)))) (fun h0=>zBH _ _ (zeL (hs.2.1.2 _ (zbt (zbd.1 h0).2 _))))
 refine (show zzh 0 a0 a1 a2 a3=_ from key).trans ?_
 unfold zmB zmC zcK zcs;cases h0:zbT a0 a1
 .rfl
 .obtain ⟨e1,e2⟩:=z1s (zjH h0 (zoO h0)) a0 a1 a2 a3;simp only[cT];exact zuQ e1 e2
theorem zE4:u4 115 zv9:=kF4 zd0 zi zbj zbw (zk []) zLC
@[simp] abbrev zqJ (h:Host)(m:Int)(g n:Int):Bool:=pc (zbA h)
@[simp] abbrev zhh (h:Host)(m:Int)(g n:Int):Host:=zcK h m (zeU (zC h m) g n)
@[simp] abbrev zja (h:Host)(m:Int)(g n:Int):Bool:=zcs h m (zfN (zC h m) g n)
def zvZ:Run:=rF4 dH dI dI dI fun b c d e=>(zqJ b c d e,[aH (zhh b c d e),aB (zja b c d e)])
def zy6 (N:Nat)(a0:Host)(a1 a2 a3:Int):OA:=
 let y1:=(zI a0);let y0:=(zc7 a0 a1); (oN (zba a0) (oN (zcJ a0) (cond (nB (zcE a0)) (some [(aH y1),(aB false)]) (oN (zbx a1 (ln a0.Mons)) (cond (nB (zbK a1 (ln a0.Mons))) (some [(aH y1),(aB false)]) (oN (zee a0 a1) (oN (zma y0 a2 a3) (cond (zec y0 a2 a3) (oN (zch (zeQ y0 a2 a3).Guests) (oN (inb a1 (ln y1.Mons)) (share (up y1.Mons a1 ({ (ix y1.Mons a1 zh) with Guests:=(zcF (zeQ y0 a2 a3).Guests) }:Mon)) (fun x5=>(oN (inb a1 (ln x5)) (share (up x5 a1 ({ (ix x5 a1 zh) with Pending:=(zeQ y0 a2 a3).Pending }:Mon)) (fun x6=>(some [(aH ({ y1 with Mons:=x6 }:Host)),(aB (zec y0 a2 a3))])))))))) (some [(aH y1),(aB (zec y0 a2 a3))])))))))))
theorem zLp (a0:Host)(a1 a2 a3:Int)(hc:zqJ a0 a1 a2 a3=true):∃N,zy6 N a0 a1 a2 a3=some [aH (zhh a0 a1 a2 a3),aB (zja a0 a1 a2 a3)]:=by
 have hs:=(zF a0).1 (zy.1 hc);refine ⟨0,?_⟩;have key:=zoa (h:=a0) (m:=a1) (cB:=zma (zC a0 a1) a2 a3) (B:=zeQ (zC a0 a1) a2 a3) (ok:=zec (zC a0 a1) a2 a3) (o0:=fun H=>[.agg (zS H),.one (.b false)]) (o1:=fun H=>[.agg (zS H),.one (.b (zec (zC a0 a1) a2 a3))]) hs
  (fun h0=>zN (zdG hs (zbd.1 h0).2)) (fun h0=>zBH _ _ (zdG hs (zbd.1 h0).2)) (fun h0 hk=>(congrArg (zcb a0 a1) (z06 _ _ hk)).trans (zjz (zbd.1 h0).2))
 refine (show zy6 0 a0 a1 a2 a3=_ from key).trans ?_
 unfold zhh zja zcK zcs;cases zbT a0 a1<;>rfl
theorem zEU:u4 25 zvZ:=kF4 zd0 zi zbj zbw (zk []) zLp
theorem zSI {b:Bare}(g:Int)(x:Ctl)(hb:SmB b):SmB (zgY b g x):=zoM hb (zeZ (b:=b) _ hb)
theorem z8d {b:Bare}(g:Int)(x:Ctl)(hk:ziI b g x=false):zgY b g x=b:=zvh hk
theorem z8n {b c:Bare}(hS:SameB b c)(h:Host)(m:Int)(g:Int)(x:Ctl):zcb h m (zgY b g x)=zcb h m (zgY c g x)/\ziI b g x=ziI c g x:=by
 have e:=hS.at g;simp only[zgY,ziI,e];exact ⟨zqz hS _ _ _ _ _,zl4 hS _ _⟩
@[simp] abbrev zyF (h:Host)(m:Int)(g:Int)(x:Ctl):Bool:=pc (zbA h)
@[simp] abbrev zr7 (h:Host)(m:Int)(g:Int)(x:Ctl):Host:=zcK h m (zgY (zC h m) g x)
@[simp] abbrev zr8 (h:Host)(m:Int)(g:Int)(x:Ctl):Bool:=zcs h m (ziI (zC h m) g x)
def zCP:Run:=rF4 dH dI dI dC fun b c d e=>(zyF b c d e,[aH (zr7 b c d e),aB (zr8 b c d e)])
def zII (N:Nat)(a0:Host)(a1 a2:Int)(a3:Ctl):OA:=
 let y1:=(zu a0);let y0:=(ix y1.Mons a1 zh); (oN (zbI a0) (oN (zfq y1 a1) (cond (nB (zfp y1 a1)) (some [(aH y1),(aB false)]) (oN (inb a1 (ln y1.Mons)) (oN (zeD y0) (oN (zrZ (zbD y0) a2 a3) (oN (zeC y1 a1 (ziL (zbD y0) a2 a3)) (some [(aH (zha y1 a1 (ziL (zbD y0) a2 a3))),(aB (zkK (zbD y0) a2 a3))]))))))))
theorem zVw (a0:Host)(a1 a2:Int)(a3:Ctl)(hc:zyF a0 a1 a2 a3=true):∃N,zII N a0 a1 a2 a3=some [aH (zr7 a0 a1 a2 a3),aB (zr8 a0 a1 a2 a3)]:=by
 have hs:=(zF a0).1 (zy.1 hc);refine ⟨0,?_⟩;have key:=zor (h:=a0) (m:=a1) (cB:=zrZ (zcu (ix a0.Mons a1 mZ)) a2 a3) (B:=ziL (zcu (ix a0.Mons a1 mZ)) a2 a3) (o0:=fun H=>[.agg (zS H),.one (.b false)]) (o1:=fun H=>[.agg (zS H),.one (.b (zkK (zcu (ix a0.Mons a1 mZ)) a2 a3))]) hs
  (fun h0=>zN (zeL (hs.2.1.2 _ (zbt (zbd.1 h0).2 _)))) (fun h0=>zSI _ _ (zeL (hs.2.1.2 _ (zbt (zbd.1 h0).2 _))))
 refine (show zII 0 a0 a1 a2 a3=_ from key).trans ?_
 unfold zr7 zr8 zcK zcs;cases h0:zbT a0 a1
 .rfl
 .obtain ⟨e1,e2⟩:=z8n (zjH h0 (zoO h0)) a0 a1 a2 a3;simp only[cT];exact zuQ e1 e2
theorem zNW:u4 116 zCP:=kF4 zd0 zi zbj zbw (zk []) zVw
@[simp] abbrev zyo (h:Host)(m:Int)(g:Int)(x:Ctl):Bool:=pc (zbA h)
@[simp] abbrev znc (h:Host)(m:Int)(g:Int)(x:Ctl):Host:=zcK h m (zgY (zC h m) g x)
@[simp] abbrev znd (h:Host)(m:Int)(g:Int)(x:Ctl):Bool:=zcs h m (ziI (zC h m) g x)
def zCs:Run:=rF4 dH dI dI dC fun b c d e=>(zyo b c d e,[aH (znc b c d e),aB (znd b c d e)])
def zIi (N:Nat)(a0:Host)(a1 a2:Int)(a3:Ctl):OA:=
 let y1:=(zI a0);let y0:=(zc7 a0 a1); (oN (zba a0) (oN (zcJ a0) (cond (nB (zcE a0)) (some [(aH y1),(aB false)]) (oN (zbx a1 (ln a0.Mons)) (cond (nB (zbK a1 (ln a0.Mons))) (some [(aH y1),(aB false)]) (oN (zee a0 a1) (oN (zrI y0 a2 a3) (cond (zfZ y0 a2 a3) (oN (zch (zgT y0 a2 a3).Guests) (oN (inb a1 (ln y1.Mons)) (share (up y1.Mons a1 ({ (ix y1.Mons a1 zh) with Guests:=(zcF (zgT y0 a2 a3).Guests) }:Mon)) (fun x5=>(oN (inb a1 (ln x5)) (share (up x5 a1 ({ (ix x5 a1 zh) with Pending:=(zgT y0 a2 a3).Pending }:Mon)) (fun x6=>(some [(aH ({ y1 with Mons:=x6 }:Host)),(aB (zfZ y0 a2 a3))])))))))) (some [(aH y1),(aB (zfZ y0 a2 a3))])))))))))
theorem zU4 (a0:Host)(a1 a2:Int)(a3:Ctl)(hc:zyo a0 a1 a2 a3=true):∃N,zIi N a0 a1 a2 a3=some [aH (znc a0 a1 a2 a3),aB (znd a0 a1 a2 a3)]:=by
 have hs:=(zF a0).1 (zy.1 hc);refine ⟨0,?_⟩;have key:=zoa (h:=a0) (m:=a1) (cB:=zrI (zC a0 a1) a2 a3) (B:=zgT (zC a0 a1) a2 a3) (ok:=zfZ (zC a0 a1) a2 a3) (o0:=fun H=>[.agg (zS H),.one (.b false)]) (o1:=fun H=>[.agg (zS H),.one (.b (zfZ (zC a0 a1) a2 a3))]) hs
  (fun h0=>zN (zdG hs (zbd.1 h0).2)) (fun h0=>zSI _ _ (zdG hs (zbd.1 h0).2)) (fun h0 hk=>(congrArg (zcb a0 a1) (z8d _ _ hk)).trans (zjz (zbd.1 h0).2))
 refine (show zIi 0 a0 a1 a2 a3=_ from key).trans ?_
 unfold znc znd zcK zcs;cases zbT a0 a1<;>rfl
theorem zNz:u4 26 zCs:=kF4 zd0 zi zbj zbw (zk []) zU4
theorem zLW {b:Bare}(n:Int)(hb:SmB b):SmB (zhA b n):=z6G hb
theorem z6e {b:Bare}(n:Int)(hk:zjj b n=false):zhA b n=b:=z6o hk
theorem z6D {b c:Bare}(hS:SameB b c)(h:Host)(m n:Int):zcb h m (zhA b n)=zcb h m (zhA c n)/\zjj b n=zjj c n:=by
 obtain ⟨e1,e2,e3⟩:=z6p hS n;exact ⟨back_eq e1 e2,e3⟩
@[simp] abbrev zwk (h:Host)(m:Int)(n:Int):Bool:=pc (zbA h)
@[simp] abbrev zp7 (h:Host)(m:Int)(n:Int):Host:=zcK h m (zhA (zC h m) n)
@[simp] abbrev zp8 (h:Host)(m:Int)(n:Int):Bool:=zcs h m (zjj (zC h m) n)
def zAf:Run:=rF3 dH dI dI fun b c d=>(zwk b c d,[aH (zp7 b c d),aB (zp8 b c d)])
def zEg (N:Nat)(a0:Host)(a1 a2:Int):OA:=
 let y1:=(zu a0);let y0:=(ix y1.Mons a1 zh); (oN (zbI a0) (oN (zfq y1 a1) (cond (nB (zfp y1 a1)) (some [(aH y1),(aB false)]) (oN (inb a1 (ln y1.Mons)) (oN (zeD y0) (oN (zpZ (zbD y0) a2) (oN (zeC y1 a1 (zjo (zbD y0) a2)) (some [(aH (zha y1 a1 (zjo (zbD y0) a2))),(aB (zlD (zbD y0) a2))]))))))))
theorem zSa (a0:Host)(a1 a2:Int)(hc:zwk a0 a1 a2=true):∃N,zEg N a0 a1 a2=some [aH (zp7 a0 a1 a2),aB (zp8 a0 a1 a2)]:=by
 have hs:=(zF a0).1 (zy.1 hc);refine ⟨0,?_⟩;have key:=zor (h:=a0) (m:=a1) (cB:=zpZ (zcu (ix a0.Mons a1 mZ)) a2) (B:=zjo (zcu (ix a0.Mons a1 mZ)) a2) (o0:=fun H=>[.agg (zS H),.one (.b false)]) (o1:=fun H=>[.agg (zS H),.one (.b (zlD (zcu (ix a0.Mons a1 mZ)) a2))]) hs
  (fun h0=>zN (zeL (hs.2.1.2 _ (zbt (zbd.1 h0).2 _)))) (fun h0=>zLW _ (zeL (hs.2.1.2 _ (zbt (zbd.1 h0).2 _))))
 refine (show zEg 0 a0 a1 a2=_ from key).trans ?_
 unfold zp7 zp8 zcK zcs;cases h0:zbT a0 a1
 .rfl
 .obtain ⟨e1,e2⟩:=z6D (zjH h0 (zoO h0)) a0 a1 a2;simp only[cT];exact zuQ e1 e2
theorem zKX:u4 119 zAf:=kF3 zd0 zi zbj zbw (zk []) zSa
@[simp] abbrev zvG (h:Host)(m:Int)(n:Int):Bool:=pc (zbA h)
@[simp] abbrev zjb (h:Host)(m:Int)(n:Int):Host:=zcK h m (zhA (zC h m) n)
@[simp] abbrev zln (h:Host)(m:Int)(n:Int):Bool:=zcs h m (zjj (zC h m) n)
def zzN:Run:=rF3 dH dI dI fun b c d=>(zvG b c d,[aH (zjb b c d),aB (zln b c d)])
def zDL (N:Nat)(a0:Host)(a1 a2:Int):OA:=
 let y1:=(zI a0);let y0:=(zc7 a0 a1); (oN (zba a0) (oN (zcJ a0) (cond (nB (zcE a0)) (some [(aH y1),(aB false)]) (oN (zbx a1 (ln a0.Mons)) (cond (nB (zbK a1 (ln a0.Mons))) (some [(aH y1),(aB false)]) (oN (zee a0 a1) (oN (zo5 y0 a2) (cond (zgg y0 a2) (oN (zch (zht y0 a2).Guests) (oN (inb a1 (ln y1.Mons)) (share (up y1.Mons a1 ({ (ix y1.Mons a1 zh) with Guests:=(zcF (zht y0 a2).Guests) }:Mon)) (fun x4=>(oN (inb a1 (ln x4)) (share (up x4 a1 ({ (ix x4 a1 zh) with Pending:=(zht y0 a2).Pending }:Mon)) (fun x5=>(some [(aH ({ y1 with Mons:=x5 }:Host)),(aB (zgg y0 a2))])))))))) (some [(aH y1),(aB (zgg y0 a2))])))))))))
theorem zRF (a0:Host)(a1 a2:Int)(hc:zvG a0 a1 a2=true):∃N,zDL N a0 a1 a2=some [aH (zjb a0 a1 a2),aB (zln a0 a1 a2)]:=by
 have hs:=(zF a0).1 (zy.1 hc);refine ⟨0,?_⟩;have key:=zoa (h:=a0) (m:=a1) (cB:=zo5 (zC a0 a1) a2) (B:=zht (zC a0 a1) a2) (ok:=zgg (zC a0 a1) a2) (o0:=fun H=>[.agg (zS H),.one (.b false)]) (o1:=fun H=>[.agg (zS H),.one (.b (zgg (zC a0 a1) a2))]) hs
  (fun h0=>zN (zdG hs (zbd.1 h0).2)) (fun h0=>zLW _ (zdG hs (zbd.1 h0).2)) (fun h0 hk=>(congrArg (zcb a0 a1) (z6e _ hk)).trans (zjz (zbd.1 h0).2))
 refine (show zDL 0 a0 a1 a2=_ from key).trans ?_
 unfold zjb zln zcK zcs;cases zbT a0 a1<;>rfl
theorem zKu:u4 29 zzN:=kF3 zd0 zi zbj zbw (zk []) zRF
theorem zSH {b:Bare}(hb:SmB b):SmB (ziH b):=z8q hb
theorem z8c {b:Bare}(hk:zkH b=false):ziH b=b:=z6V hk
theorem z8m {b c:Bare}(hS:SameB b c)(h:Host)(m:Int):zcb h m (ziH b)=zcb h m (ziH c)/\znp b=znp c/\zkH b=zkH c:=by
 obtain ⟨e1,e2,e3,e4⟩:=z6W hS;exact ⟨back_eq e1 e2,e3,e4⟩
@[simp] abbrev zyE (h:Host)(m:Int):Bool:=pc (zbA h)
@[simp] abbrev zr3 (h:Host)(m:Int):Host:=zcK h m (ziH (zC h m))
@[simp] abbrev zr4 (h:Host)(m:Int):Int:=bif zbT h m then znp (zC h m) else -1
@[simp] abbrev zr5 (h:Host)(m:Int):Bool:=zcs h m (zkH (zC h m))
def zCN:Run:=rF2 dH dI fun b c=>(zyE b c,[aH (zr3 b c),aI (zr4 b c),aB (zr5 b c)])
def zIG (N:Nat)(a0:Host)(a1:Int):OA:=
 let y1:=(zu a0);let y0:=(ix y1.Mons a1 zh); (oN (zbI a0) (oN (zfq y1 a1) (cond (nB (zfp y1 a1)) (some [(aH y1),(aI (-1)),(aB false)]) (oN (inb a1 (ln y1.Mons)) (oN (zeD y0) (oN (zrY (zbD y0)) (oN (zeC y1 a1 (ziK (zbD y0))) (some [(aH (zha y1 a1 (ziK (zbD y0)))),(aI (zkI (zbD y0))),(aB (zkJ (zbD y0)))]))))))))
theorem zVu (a0:Host)(a1:Int)(hc:zyE a0 a1=true):∃N,zIG N a0 a1=some [aH (zr3 a0 a1),aI (zr4 a0 a1),aB (zr5 a0 a1)]:=by
 have hs:=(zF a0).1 (zy.1 hc);refine ⟨0,?_⟩;have key:=zor (h:=a0) (m:=a1) (cB:=zrY (zcu (ix a0.Mons a1 mZ))) (B:=ziK (zcu (ix a0.Mons a1 mZ))) (o0:=fun H=>[.agg (zS H),.one (.i .i64 (-1)),.one (.b false)]) (o1:=fun H=>[.agg (zS H),.one (.i .i64 (zkI (zcu (ix a0.Mons a1 mZ)))),.one (.b (zkJ (zcu (ix a0.Mons a1 mZ))))]) hs
  (fun h0=>zN (zeL (hs.2.1.2 _ (zbt (zbd.1 h0).2 _)))) (fun h0=>zSH (zeL (hs.2.1.2 _ (zbt (zbd.1 h0).2 _))))
 refine (show zIG 0 a0 a1=_ from key).trans ?_
 unfold zr3 zr4 zr5 zcK zcs;cases h0:zbT a0 a1
 .rfl
 .obtain ⟨e1,e2,e3⟩:=z8m (zjH h0 (zoO h0)) a0 a1;simp only[cT];exact zbas e1 e2 e3
theorem zNU:u4 120 zCN:=kF2 zd0 zi zbj zbw (zk []) zVu
@[simp] abbrev zyn (h:Host)(m:Int):Bool:=pc (zbA h)
@[simp] abbrev zkz (h:Host)(m:Int):Host:=zcK h m (ziH (zC h m))
@[simp] abbrev zm9 (h:Host)(m:Int):Int:=bif zbT h m then znp (zC h m) else -1
@[simp] abbrev zna (h:Host)(m:Int):Bool:=zcs h m (zkH (zC h m))
def zCr:Run:=rF2 dH dI fun b c=>(zyn b c,[aH (zkz b c),aI (zm9 b c),aB (zna b c)])
def zIg (N:Nat)(a0:Host)(a1:Int):OA:=
 let y1:=(zI a0);let y0:=(zc7 a0 a1); (oN (zba a0) (oN (zcJ a0) (cond (nB (zcE a0)) (some [(aH y1),(aI (-1)),(aB false)]) (oN (zbx a1 (ln a0.Mons)) (cond (nB (zbK a1 (ln a0.Mons))) (some [(aH y1),(aI (-1)),(aB false)]) (oN (zee a0 a1) (oN (zrH y0) (cond (zfY y0) (oN (zch (zgS y0).Guests) (oN (inb a1 (ln y1.Mons)) (share (up y1.Mons a1 ({ (ix y1.Mons a1 zh) with Guests:=(zcF (zgS y0).Guests) }:Mon)) (fun x3=>(oN (inb a1 (ln x3)) (share (up x3 a1 ({ (ix x3 a1 zh) with Pending:=(zgS y0).Pending }:Mon)) (fun x4=>(some [(aH ({ y1 with Mons:=x4 }:Host)),(aI (ziA y0)),(aB (zfY y0))])))))))) (some [(aH y1),(aI (ziA y0)),(aB (zfY y0))])))))))))
theorem zU2 (a0:Host)(a1:Int)(hc:zyn a0 a1=true):∃N,zIg N a0 a1=some [aH (zkz a0 a1),aI (zm9 a0 a1),aB (zna a0 a1)]:=by
 have hs:=(zF a0).1 (zy.1 hc);refine ⟨0,?_⟩;have key:=zoa (h:=a0) (m:=a1) (cB:=zrH (zC a0 a1)) (B:=zgS (zC a0 a1)) (ok:=zfY (zC a0 a1)) (o0:=fun H=>[.agg (zS H),.one (.i .i64 (-1)),.one (.b false)]) (o1:=fun H=>[.agg (zS H),.one (.i .i64 (ziA (zC a0 a1))),.one (.b (zfY (zC a0 a1)))]) hs
  (fun h0=>zN (zdG hs (zbd.1 h0).2)) (fun h0=>zSH (zdG hs (zbd.1 h0).2)) (fun h0 hk=>(congrArg (zcb a0 a1) (z8c hk)).trans (zjz (zbd.1 h0).2))
 refine (show zIg 0 a0 a1=_ from key).trans ?_
 unfold zkz zm9 zna zcK zcs;cases zbT a0 a1<;>rfl
theorem zNy:u4 30 zCr:=kF2 zd0 zi zbj zbw (zk []) zU2
def z4W:zV:=[(111,zCS),(21,zCv),(113,zv8),(23,zvY),(114,zwa),(24,zv0),(115,zv9),(25,zvZ),(116,zCP),(26,zCs),(119,zAf),(29,zzN),(120,zCN),(30,zCr)]++z4V
theorem zld:zJ z4W:=zf zNZ (zf zNC (zf zE3 (zf zET (zf zE5 (zf zEV (zf zE4 (zf zEU (zf zNW (zf zNz (zf zKX (zf zKu (zf zNU (zf zNy zd0)))))))))))))
def zlU (h:Host)(m t:Int):Host:=bif zbE h then (cond (hasB m (ln h.Mons)) (cond (win t 0 3) { h with Mons:=up h.Mons m { ix h.Mons m mZ with Traps:=t } } h) h) else h
def zmL (h:Host)(m t:Int):Bool:=bif zbE h then (cond (hasB m (ln h.Mons)) (win t 0 3) false) else false
@[simp] abbrev zwo (h:Host)(m t:Int):Bool:=pc (zbA h)
@[simp] abbrev zqg (h:Host)(m t:Int):Host:=zlU h m t
@[simp] abbrev zqh (h:Host)(m t:Int):Bool:=zmL h m t
@[simp] abbrev zvL (h:Host)(m t:Int):Bool:=pc (zbA h)
@[simp] abbrev zls (h:Host)(m t:Int):Host:=zlU h m t
@[simp] abbrev zpr (h:Host)(m t:Int):Bool:=zmL h m t
def zAk:Run:=rF3 dH dI dI fun b c d=>(zwo b c d,[aH (zqg b c d),aB (zqh b c d)])
def zEk (N:Nat)(a0:Host)(a1 a2:Int):OA:=
 let y0:=(zu a0); (oN (zbI a0) (oN (zfi y0) (cond (nB (zfh y0)) (some [(aH y0),(aB false)]) (oN (zL a1 0 (wsub .i64 (ln y0.Mons) 1)) (cond (nB (zO a1 0 (wsub .i64 (ln y0.Mons) 1))) (some [(aH y0),(aB false)]) (oN (zL a2 0 3) (cond (nB (zO a2 0 3)) (some [(aH y0),(aB false)]) (oN (inb a1 (ln y0.Mons)) (share (up y0.Mons a1 ({ (ix y0.Mons a1 zh) with Traps:=a2 }:Mon)) (fun x4=>(some [(aH ({ y0 with Mons:=x4 }:Host)),(aB true)])))))))))))
theorem zSf (a0:Host)(a1 a2:Int)(hc:zwo a0 a1 a2=true):∃N,zEk N a0 a1 a2=some [aH (zqg a0 a1 a2),aB (zqh a0 a1 a2)]:=by
 have hs:=(zF a0).1 (zy.1 hc);refine ⟨0,?_⟩;unfold zEk zqg zqh zlU zmL oN nB
 conv=>zeta
 refine must hc (must rfl ?_);rw[show zfh (zu a0)=zbE a0 from rfl]
 cases hh:zbE a0
 .rfl
 .refine zbN rfl (must rfl ?_);rw[show zO a1 0 (wsub .i64 (ln (zu a0).Mons) 1)=hasB a1 (ln a0.Mons) from zS7 hh a1]
  cases hm:hasB a1 (ln a0.Mons)
  .rfl
  .refine zbN rfl (must rfl ?_);rw[show zO a2 0 3=win a2 0 3 from rfl]
   cases ht:win a2 0 3
   .rfl
   .exact zbN rfl (must (zx hm) rfl)
theorem zK4:u4 197 zAk:=kF3 zld zi zbj zbw (zk []) zSf
def zzU:Run:=rF3 dH dI dI fun b c d=>(zvL b c d,[aH (zls b c d),aB (zpr b c d)])
def zDR (N:Nat)(a0:Host)(a1 a2:Int):OA:=
 let y0:=(zI a0); (oN (zba a0) (oN (zcJ a0) (cond (nB (zcE a0)) (some [(aH y0),(aB false)]) (oN (zbx a1 (ln a0.Mons)) (cond (nB (zbK a1 (ln a0.Mons))) (some [(aH y0),(aB false)]) (oN (zbk a2 0 3) (cond (nB (zbr a2 0 3)) (some [(aH y0),(aB false)]) (oN (inb a1 (ln y0.Mons)) (share (up y0.Mons a1 ({ (ix y0.Mons a1 zh) with Traps:=a2 }:Mon)) (fun x4=>(some [(aH ({ y0 with Mons:=x4 }:Host)),(aB true)])))))))))))
theorem zRM (a0:Host)(a1 a2:Int)(hc:zvL a0 a1 a2=true):∃N,zDR N a0 a1 a2=some [aH (zls a0 a1 a2),aB (zpr a0 a1 a2)]:=by
 have hs:=(zF a0).1 (zy.1 hc);refine ⟨0,?_⟩;unfold zDR zls zpr zlU zmL oN nB
 conv=>zeta
 refine must hc (must rfl ?_);rw[show zcE a0=zbE a0 from rfl]
 cases hh:zbE a0
 .rfl
 .refine zbN rfl (must rfl ?_);rw[show zbK a1 (ln a0.Mons)=hasB a1 (ln a0.Mons) from rfl]
  cases hm:hasB a1 (ln a0.Mons)
  .rfl
  .refine zbN rfl (must rfl ?_);rw[show zbr a2 0 3=win a2 0 3 from rfl]
   cases ht:win a2 0 3
   .rfl
   .exact zbN rfl (must (zx hm) rfl)
theorem zKC:u4 36 zzU:=kF3 zld zi zbj zbw (zk []) zRM
theorem zg2 {h:Host}{m p:Int}:(zbL h m p=true)↔zbE h=true/\hasB m (ln h.Mons)=true/\hasB p 8=true:=by
 unfold zbL;cases zbE h<;>cases hasB m (ln h.Mons)<;>simp
def ziY (h:Host)(m p:Int):Bool:=ieq (ix (ix h.Mons m mZ).Outer p sZ).Page (-1)
def zoF (h:Host)(m p:Int):Host:=bif zbL h m p then (cond (ziY h m p) h (zfu h m p)) else h
def zoG (h:Host)(m p:Int):Bool:=bif zbL h m p then !ziY h m p else false
def zsV (h:Host)(m p:Int):Host:=bif zbL h m p then (cond (ziY h m p) (fetched h m p) h) else h
def zqR (h:Host)(m p:Int):Bool:=bif zbL h m p then ziY h m p else false
@[simp] abbrev zyM (h:Host)(m p:Int):Bool:=pc (zbA h)
@[simp] abbrev zse (h:Host)(m p:Int):Host:=zoF h m p
@[simp] abbrev zsf (h:Host)(m p:Int):Bool:=zoG h m p
@[simp] abbrev zBw (h:Host)(m p:Int):Bool:=pc (zbA h)
@[simp] abbrev zuB (h:Host)(m p:Int):Host:=zsV h m p
@[simp] abbrev zuC (h:Host)(m p:Int):Bool:=zqR h m p
@[simp] abbrev zyv (h:Host)(m p:Int):Bool:=pc (zbA h)
@[simp] abbrev znf (h:Host)(m p:Int):Host:=zoF h m p
@[simp] abbrev zrN (h:Host)(m p:Int):Bool:=zoG h m p
@[simp] abbrev zA6 (h:Host)(m p:Int):Bool:=pc (zbA h)
@[simp] abbrev zpo (h:Host)(m p:Int):Host:=zsV h m p
@[simp] abbrev zuk (h:Host)(m p:Int):Bool:=zqR h m p
theorem zO9 {h:Host}(hs:SmH h)(hh:zbE h=true){m p:Int}(hm:hasB m (ln h.Mons)=true)(hp:hasB p 8=true) :
 (cond (ieq (ix (ix h.Mons m mZ).Outer p sZ).Page (-1)) (ieq (ix (ix h.Mons m mZ).Outer p sZ).Rights 0) false)=ziY h m p:=by
 have hf:=(zuv (zgR hh _ (zbt hm mZ)) hp).no;unfold zc2 at hf;unfold ziY;rw[<- hf];cases h1:ieq (ix (ix h.Mons m mZ).Outer p sZ).Page (-1)<;>simp [noSlot,h1]
theorem zxd {h:Host}(hs:SmH h)(hh:zbE h=true){m p:Int}(hm:hasB m (ln h.Mons)=true)(hp:hasB p 8=true):inb p (ln (ix h.Mons m mZ).Outer)=true :=
 zx (by rw[ln,((zea hs hh).1.2 _ (zbt hm mZ)).1];exact hp)
def zCX:Run:=rF3 dH dI dI fun b c d=>(zyM b c d,[aH (zse b c d),aB (zsf b c d)])
def zIP (N:Nat)(a0:Host)(a1 a2:Int):OA:=
 let y1:=(zu a0);let y0:=(ix y1.Mons a1 zh).Outer; (oN (zbI a0) (oN (zoK y1 a1 a2) (cond (nB (zhW y1 a1 a2)) (some [(aH y1),(aB false)]) (oN (inb a1 (ln y1.Mons)) (oN (inb a2 (ln y0)) (oN zcg (cond (cond (ieq (ix y0 a2 zK).Page zbs.Page) (ieq (ix y0 a2 zK).Rights zbs.Rights) false) (some [(aH y1),(aB false)]) (oN (zuJ y1 a1 a2) (some [(aH (zBD y1 a1 a2)),(aB true)])))))))))
theorem zVE (a0:Host)(a1 a2:Int)(hc:zyM a0 a1 a2=true):∃N,zIP N a0 a1 a2=some [aH (zse a0 a1 a2),aB (zsf a0 a1 a2)]:=by
 have hs:=(zF a0).1 (zy.1 hc);refine ⟨0,?_⟩;unfold zIP zse zsf zoF zoG oN nB
 conv=>zeta
 refine must hc (must rfl ?_);rw[show zhW (zu a0) a1 a2=zbL a0 a1 a2 from rfl]
 cases h0:zbL a0 a1 a2
 .rfl
 .obtain ⟨hh,hm,hp⟩:=zg2.1 h0;refine zbN rfl (must (zx hm) (must (zxd hs hh hm hp) (must rfl ?_)));rw[show (cond (ieq (ix (ix (zu a0).Mons a1 zh).Outer a2 zK).Page zbs.Page) (ieq (ix (ix (zu a0).Mons a1 zh).Outer a2 zK).Rights zbs.Rights) false)=ziY a0 a1 a2 from zO9 hs hh hm hp]
  cases h1:ziY a0 a1 a2
  .exact zbN rfl (must (zN ⟨(zea hs hh).1,hm,hp⟩) rfl)
  .rfl
theorem zN4:u4 194 zCX:=kF3 zld zi zbj zbw (zk []) zVE
def zCz:Run:=rF3 dH dI dI fun b c d=>(zyv b c d,[aH (znf b c d),aB (zrN b c d)])
def zIo (N:Nat)(a0:Host)(a1 a2:Int):OA:=
 let y0:=(ix a0.Mons a1 zh).Outer; (oN (zba a0) (oN (znj a0 a1 a2) (cond (nB (zia a0 a1 a2)) (some [(aH (zI a0)),(aB false)]) (oN (inb a1 (ln a0.Mons)) (oN (inb a2 (ln y0)) (cond (ieq (ix y0 a2 zK).Page (-1)) (some [(aH (zI a0)),(aB false)]) (oN (zBc (zI a0) a1 a2) (some [(aH (zBd (zI a0) a1 a2)),(aB true)]))))))))
theorem zVb (a0:Host)(a1 a2:Int)(hc:zyv a0 a1 a2=true):∃N,zIo N a0 a1 a2=some [aH (znf a0 a1 a2),aB (zrN a0 a1 a2)]:=by
 have hs:=(zF a0).1 (zy.1 hc);refine ⟨0,?_⟩;unfold zIo znf zrN zoF zoG oN nB
 conv=>zeta
 refine must hc (must rfl ?_);rw[show zia a0 a1 a2=zbL a0 a1 a2 from rfl]
 cases h0:zbL a0 a1 a2
 .rfl
 .obtain ⟨hh,hm,hp⟩:=zg2.1 h0;refine zbN rfl (must (zx hm) (must (zxd hs hh hm hp) ?_));rw[show ieq (ix (ix a0.Mons a1 zh).Outer a2 zK).Page (-1)=ziY a0 a1 a2 from rfl]
  cases h1:ziY a0 a1 a2
  .exact zbN rfl (must (zN ⟨(zea hs hh).1,hm,hp⟩) rfl)
  .rfl
theorem zNG:u4 33 zCz:=kF3 zld zi zbj zbw (zk []) zVb
def zF8:Run:=rF3 dH dI dI fun b c d=>(zBw b c d,[aH (zuB b c d),aB (zuC b c d)])
def zMM (N:Nat)(a0:Host)(a1 a2:Int):OA:=
 let y1:=(zu a0);let y0:=(ix y1.Mons a1 zh).Outer; (oN (zbI a0) (oN (zoK y1 a1 a2) (cond (nB (zhW y1 a1 a2)) (some [(aH y1),(aB false)]) (oN (inb a1 (ln y1.Mons)) (oN (inb a2 (ln y0)) (oN zcg (cond (nB (cond (ieq (ix y0 a2 zK).Page zbs.Page) (ieq (ix y0 a2 zK).Rights zbs.Rights) false)) (some [(aH y1),(aB false)]) (oN (zx7 y1 a1 a2) (some [(aH (zAx y1 a1 a2)),(aB true)])))))))))
theorem zYi (a0:Host)(a1 a2:Int)(hc:zBw a0 a1 a2=true):∃N,zMM N a0 a1 a2=some [aH (zuB a0 a1 a2),aB (zuC a0 a1 a2)]:=by
 have hs:=(zF a0).1 (zy.1 hc);refine ⟨0,?_⟩;unfold zMM zuB zuC zsV zqR oN nB
 conv=>zeta
 refine must hc (must rfl ?_);rw[show zhW (zu a0) a1 a2=zbL a0 a1 a2 from rfl]
 cases h0:zbL a0 a1 a2
 .rfl
 .obtain ⟨hh,hm,hp⟩:=zg2.1 h0;refine zbN rfl (must (zx hm) (must (zxd hs hh hm hp) (must rfl ?_)));rw[show (cond (ieq (ix (ix (zu a0).Mons a1 zh).Outer a2 zK).Page zbs.Page) (ieq (ix (ix (zu a0).Mons a1 zh).Outer a2 zK).Rights zbs.Rights) false)=ziY a0 a1 a2 from zO9 hs hh hm hp]
  cases h1:ziY a0 a1 a2
  .rfl
  .exact zbN rfl (must (zN ⟨zea hs hh,hm,hp⟩) rfl)
theorem zQ5:u4 195 zF8:=kF3 zld zi zbj zbw (zk []) zYi
def zFF:Run:=rF3 dH dI dI fun b c d=>(zA6 b c d,[aH (zpo b c d),aB (zuk b c d)])
def zMk (N:Nat)(a0:Host)(a1 a2:Int):OA:=
 let y0:=(ix a0.Mons a1 zh).Outer; (oN (zba a0) (oN (znj a0 a1 a2) (cond (nB (zia a0 a1 a2)) (some [(aH (zI a0)),(aB false)]) (oN (inb a1 (ln a0.Mons)) (oN (inb a2 (ln y0)) (cond (ine (ix y0 a2 zK).Page (-1)) (some [(aH (zI a0)),(aB false)]) (oN (zxb (zI a0) a1 a2) (some [(aH (zsQ (zI a0) a1 a2)),(aB true)]))))))))
theorem zXO (a0:Host)(a1 a2:Int)(hc:zA6 a0 a1 a2=true):∃N,zMk N a0 a1 a2=some [aH (zpo a0 a1 a2),aB (zuk a0 a1 a2)]:=by
 have hs:=(zF a0).1 (zy.1 hc);refine ⟨0,?_⟩;unfold zMk zpo zuk zsV zqR oN nB
 conv=>zeta
 refine must hc (must rfl ?_);rw[show zia a0 a1 a2=zbL a0 a1 a2 from rfl]
 cases h0:zbL a0 a1 a2
 .rfl
 .obtain ⟨hh,hm,hp⟩:=zg2.1 h0;refine zbN rfl (must (zx hm) (must (zxd hs hh hm hp) ?_));rw[show ine (ix (ix a0.Mons a1 zh).Outer a2 zK).Page (-1) = !ziY a0 a1 a2 from zhR _ _]
  cases h1:ziY a0 a1 a2
  .rfl
  .exact zbN rfl (must (zN ⟨zea hs hh,hm,hp⟩) rfl)
theorem zQC:u4 34 zFF:=kF3 zld zi zbj zbw (zk []) zXO
def z4X:zV:=[(197,zAk),(36,zzU),(194,zCX),(33,zCz),(195,zF8),(34,zFF)]++z4W
theorem zEC:zJ z4X:=zf zK4 (zf zKC (zf zN4 (zf zNG (zf zQ5 (zf zQC zld)))))
theorem z4t {x:Mon}{b:Bare}(h:zes x)(hb:znY b.Guests):zes (zAG x b):=⟨h.1,h.2.1,h.2.2.1,hb,h.2.2.2.2⟩
theorem zBJ {h:Host}{m:Int}{b:Bare}(hs:SmH h)(hm:hasB m (ln h.Mons)=true)(hb:znY b.Guests):SmH (zcb h m b) :=
 ⟨hs.1,zis hs.2.1 (z4t (hs.2.1.2 _ (zbt hm _)) hb),hs.2.2⟩
theorem zJ4 {h:Host}{m:Int}(b:Bare)(hm:hasB m (ln h.Mons)=true):hasB m (ln (zcb h m b).Mons)=true:=by
 show hasB m (ln (up h.Mons m _))=true
 rw[ln,ze0];exact hm
theorem zbak {h:Host}{m:Int}(b:Bare)(hm:hasB m (ln h.Mons)=true):ix (zcb h m b).Mons m mZ=zAG (ix h.Mons m mZ) b:=by
 obtain ⟨k,rfl,hk⟩:=zds (n:=h.Mons.length) hm;exact zcX hk _ _
def z5B (h:Host)(m g p:Int):Host:=⟨h.Memory,up h.Mons m { ix h.Mons m mZ with Tables:=up (ix h.Mons m mZ).Tables g (zc3 (ix (ix h.Mons m mZ).Tables g kZ) p) },zcZ h.Buffer (zgy m g) p,zcZ h.IoBuffer (zgy m g) p⟩
def z5A (H:Host)(m g p:Int)(o:Host->Ans):OA:=
 bif inb m (ln H.Mons) then (bif inb m (ln H.Mons) then (bif inb g (ln (ix H.Mons m mZ).Tables) then (bif zmx (ix (ix H.Mons m mZ).Tables g kZ) p then (bif inb g (ln (ix H.Mons m mZ).Tables) then (share (up H.Mons m { ix H.Mons m mZ with Tables:=up (ix H.Mons m mZ).Tables g (zc3 (ix (ix H.Mons m mZ).Tables g kZ) p) }) fun x =>
  (cond (zlI m g) (cond (zgE H.Buffer (zgy m g) p) (cond (zlI m g) (cond (zgE H.IoBuffer (zgy m g) p) (some (o ⟨H.Memory,x,zcZ H.Buffer (zgy m g) p,zcZ H.IoBuffer (zgy m g) p⟩)) none) none) none) none)) else none) else none) else none) else none) else none
theorem zTM {H:Host}{m g p:Int}{o:Host->Ans}(hs:SmH H)(hm:hasB m (ln H.Mons)=true)(hg:hasB g (ln (ix H.Mons m mZ).Tables)=true):z5A H m g p o=some (o (z5B H m g p)):=by
 have hx:=hs.2.1.2 _ (zbt hm mZ);unfold z5A;exact must (zx hm) (must (zx hm) (must (zx hg) (must (zN (hx.2.2.2.2.2.2 _ (zbt hg _))) (must (zx hg) (shr (must rfl (must (zN hs.2.2.1) (must rfl (must (zN hs.2.2.2) rfl)))))))))
def zjA (h:Host)(m g p:Int):Host:=bif zbT h m then (cond (zbM (zC h m) g (hasB p 4)) (z5B (zcb h m (chg (zC h m) g (hasB p 4) (zh3 (gAt (zC h m) g) p))) m g p) h) else h
@[simp] abbrev ztR (h:Host)(m g p:Int):Bool:=pc (zbA h)
@[simp] abbrev znV (h:Host)(m g p:Int):Host:=zjA h m g p
@[simp] abbrev znW (h:Host)(m g p:Int):Bool:=zcs h m (zbM (zC h m) g (hasB p 4))
@[simp] abbrev ztp (h:Host)(m g p:Int):Bool:=pc (zbA h)
@[simp] abbrev zkd (h:Host)(m g p:Int):Host:=zjA h m g p
@[simp] abbrev zke (h:Host)(m g p:Int):Bool:=zcs h m (zbM (zC h m) g (hasB p 4))
theorem z1u {h:Host}{m:Int}(hm:hasB m (ln h.Mons)=true):(zC h m).Guests=(ix h.Mons m mZ).Guests:=by unfold zC;rw[hm];rfl
theorem zEN {h:Host}{m g:Int}{k:Bool}(hs:SmH h)(h0:zbT h m=true)(b:Bare)(hk:zbM (zC h m) g k=true):hasB g (ln (ix (zcb h m b).Mons m mZ).Tables)=true:=by
 obtain ⟨hh,hm⟩:=zbd.1 h0;rw[zbak b hm]
 show hasB g (ln (ix h.Mons m mZ).Tables)=true
 rw[ln,((zea hs hh).1.2 _ (zbt hm mZ)).2.2.2,<- z1u hm];unfold zbM at hk;cases hb:zbU (zC h m) g
 .rw [hb]at hk;cases hk
 .exact (zdx.1 hb).2
def zxC:Run:=rF4 dH dI dI dI fun b c d e=>(ztR b c d e,[aH (znV b c d e),aB (znW b c d e)])
def zCg (N:Nat)(a0:Host)(a1 a2 a3:Int):OA:=
 let y5:=(zu7 a1 a2);let y3:=(zu a0);let y2:=(ix y3.Mons a1 zh);let y0:=(zha y3 a1 (zeG (zbD y2) a2 a3));let y1:=(ix y0.Mons a1 zh);let y4:=(ix y1.Tables a2 zcU); (oN (zbI a0) (oN (zfq y3 a1) (cond (nB (zfp y3 a1)) (some [(aH y3),(aB false)]) (oN (inb a1 (ln y3.Mons)) (oN (zeD y2) (oN (ztO (zbD y2) a2 a3) (cond (nB (zhU (zbD y2) a2 a3)) (some [(aH y3),(aB false)]) (oN (zeC y3 a1 (zeG (zbD y2) a2 a3)) (oN (inb a1 (ln y0.Mons)) (oN (inb a1 (ln y0.Mons)) (oN (inb a2 (ln y1.Tables)) (oN (zmx y4 a3) (oN (inb a2 (ln y1.Tables)) (share (up y0.Mons a1 ({ y1 with Tables:=(up y1.Tables a2 (zlE y4 a3)) }:Mon)) (fun x5=>(oN (zlI a1 a2) (oN (zgE y0.Buffer y5 a3) (oN (zlI a1 a2) (oN (zgE y0.IoBuffer y5 a3) (some [(aH (⟨y0.Memory,x5,(znt y0.Buffer y5 a3),(znt y0.IoBuffer y5 a3)⟩:Host)),(aB true)]))))))))))))))))))))
theorem zOY (a0:Host)(a1 a2 a3:Int)(hb:zbC big [aH a0,aI a1,aI a2,aI a3])(hc:ztR a0 a1 a2 a3=true):∃N,zCg N a0 a1 a2 a3=some [aH (znV a0 a1 a2 a3),aB (znW a0 a1 a2 a3)]:=by
 have hs:=(zF a0).1 (zy.1 hc);refine ⟨0,?_⟩;unfold zCg znV znW zjA zcs oN nB
 conv=>zeta
 refine must hc (must rfl ?_);rw[show zfp (zu a0) a1=zbT a0 a1 from rfl]
 cases h0:zbT a0 a1
 .rfl
 .obtain ⟨hh,hm⟩:=zbd.1 h0;have hx:=hs.2.1.2 _ (zbt hm mZ);have hv:=zeL hx;have hS:=zjH h0 (zoO h0);have hk:zbM (zcu (ix a0.Mons a1 mZ)) a2 (hasB a3 4)=zbM (zC a0 a1) a2 (hasB a3 4):=zl4 hS _ _;have hB:zcb a0 a1 (zeG (zcu (ix a0.Mons a1 mZ)) a2 a3)=zcb a0 a1 (chg (zC a0 a1) a2 (hasB a3 4) (zh3 (gAt (zC a0 a1) a2) a3)):=by
   rw[<- hS.at];exact zqz hS _ _ _ _ _
  refine zbN rfl (must (zx hm) (must (zN hx) (must (zN hv) ?_)));rw[show zhU (zbD (ix (zu a0).Mons a1 zh)) a2 a3=zbM (zC a0 a1) a2 (hasB a3 4) from hk]
  cases hf:zbM (zC a0 a1) a2 (hasB a3 4)
  .rfl
  .have hb:SmB (zeG (zcu (ix a0.Mons a1 mZ)) a2 a3):=zoM hv (zuO _ (zeZ _ hv));refine zbN rfl (must (zN ⟨hm,hb.2.1⟩) ?_);have key:=zTM (H:=zcb a0 a1 (zeG (zcu (ix a0.Mons a1 mZ)) a2 a3)) (m:=a1) (g:=a2) (p:=a3) (o:=fun H=>[.agg (zS H),.one (.b true)]) (zBJ hs hm hb.2.1) (zJ4 _ hm) (zEN hs h0 _ hf);refine (show _=_ from key).trans ?_
   rw[hB];rfl
theorem zHz:u4 112 zxC:=hF4 zEC zi zbj zbw (zk []) zOY
def zxl:Run:=rF4 dH dI dI dI fun b c d e=>(ztp b c d e,[aH (zkd b c d e),aB (zke b c d e)])
def zBY (N:Nat)(a0:Host)(a1 a2 a3:Int):OA:=
 let y8:=(zsP a1 a2);let y5:=(zfw (zc7 a0 a1) a2 a3);let y4:=(zuX a1 a2);let y2:=(zI a0);let y6:=(inb a1 (ln y2.Mons));let y1:=(zhO (zc7 a0 a1) a2 a3);let y0:=(ix y2.Mons a1 zh);let y9:=(ix y0.Tables a2 zcU); (oN (zba a0) (oN (zcJ a0) (cond (nB (zcE a0)) (some [(aH y2),(aB false)]) (oN (zbx a1 (ln a0.Mons)) (cond (nB (zbK a1 (ln a0.Mons))) (some [(aH y2),(aB false)]) (oN (zee a0 a1) (oN (ztm (zc7 a0 a1) a2 a3) (cond y1 (oN (zch y5.Guests) (oN y6 (share (up y2.Mons a1 ({ y0 with Guests:=(zcF y5.Guests) }:Mon)) (fun x5=>(oN (inb a1 (ln x5)) (share (up x5 a1 ({ (ix x5 a1 zh) with Pending:=y5.Pending }:Mon)) (fun x6=>let y3:=(ix x6 a1 zh);let y7:=(ix y3.Tables a2 zcU); (cond y1 (oN (inb a1 (ln x6)) (oN (inb a1 (ln x6)) (oN (inb a2 (ln y3.Tables)) (oN (zgJ y7 a3) (oN (inb a2 (ln y3.Tables)) (share (up x6 a1 ({ y3 with Tables:=(up y3.Tables a2 (zfK y7 a3)) }:Mon)) (fun x7=>(oN y8 (oN (zgA y2.Buffer y4 a3) (oN y8 (oN (zgA y2.IoBuffer y4 a3) (some [(aH (⟨y2.Memory,x7,(zgV y2.Buffer y4 a3),(zgV y2.IoBuffer y4 a3)⟩:Host)),(aB y1)])))))))))))) (some [(aH ({ y2 with Mons:=x6 }:Host)),(aB y1)]))))))))) (cond y1 (oN y6 (oN y6 (oN (inb a2 (ln y0.Tables)) (oN (zgJ y9 a3) (oN (inb a2 (ln y0.Tables)) (share (up y2.Mons a1 ({ y0 with Tables:=(up y0.Tables a2 (zfK y9 a3)) }:Mon)) (fun x5=>(oN y8 (oN (zgA y2.Buffer y4 a3) (oN y8 (oN (zgA y2.IoBuffer y4 a3) (some [(aH (⟨y2.Memory,x5,(zgV y2.Buffer y4 a3),(zgV y2.IoBuffer y4 a3)⟩:Host)),(aB y1)])))))))))))) (some [(aH y2),(aB y1)]))))))))))
theorem zOF (a0:Host)(a1 a2 a3:Int)(hb:zbC big [aH a0,aI a1,aI a2,aI a3])(hc:ztp a0 a1 a2 a3=true):∃N,zBY N a0 a1 a2 a3=some [aH (zkd a0 a1 a2 a3),aB (zke a0 a1 a2 a3)]:=by
 have hs:=(zF a0).1 (zy.1 hc);refine ⟨0,?_⟩;unfold zBY zkd zke zjA zcs oN nB
 conv=>zeta
 refine must hc (must rfl ?_);rw[show zcE a0=zbE a0 from rfl]
 cases hh:zbE a0
 .unfold zbT;rw[hh];rfl
 .refine zbN rfl (must rfl ?_);rw[show zbK a1 (ln a0.Mons)=hasB a1 (ln a0.Mons) from rfl]
  cases hm:hasB a1 (ln a0.Mons)
  .unfold zbT;rw[hh,hm];rfl
  .have h0:zbT a0 a1=true:=zbd.2 ⟨hh,hm⟩;have hv:=zdG hs hm;have hb:SmB (zfw (zC a0 a1) a2 a3):=zoM hv (zuO _ (zeZ _ hv));rw[h0];refine zbN rfl (must hc (must (zN hv) ?_));rw[show zhO (zc7 a0 a1) a2 a3=zbM (zC a0 a1) a2 (hasB a3 4) from rfl]
   cases hf:zbM (zC a0 a1) a2 (hasB a3 4)
   .rfl
   .obtain ⟨e1,e2⟩:=zP3 hm (zfw (zC a0 a1) a2 a3);refine must rfl (must (zN hb.2.1) (must (zx hm) (shr (must e1 (shr ?_)))));rw[show zh=mZ from rfl,e2]
    have key:=zTM (H:=zcb a0 a1 (zfw (zC a0 a1) a2 a3)) (m:=a1) (g:=a2) (p:=a3) (o:=fun H=>[.agg (zS H),.one (.b true)]) (zBJ hs hm hb.2.1) (zJ4 _ hm) (zEN hs h0 _ hf);exact must rfl (show _=_ from key)
theorem zHi:u4 22 zxl:=hF4 zEC zi zbj zbw (zk []) zOF
def z4Y:zV:=[(112,zxC),(22,zxl)]++z4X
theorem zED:zJ z4Y:=zf zHz (zf zHi zEC)
def zY7 (h:Host)(m p c v:Int):Host:={ mended h m p 2 with Memory:=zer (mended h m p 2).Memory (ix (ix (mended h m p 2).Mons m mZ).Outer p sZ).Page c v }
def zdD (h:Host)(m p c v:Int):Bool:=bif zbL h m p then (cond (hasB c 4) (win v 0 99) false) else false
def zlh (h:Host)(m p c v:Int):Host:=bif zdD h m p c v then zY7 h m p c v else h
@[simp] abbrev zwj (h:Host)(m p c v:Int):Bool:=pc (zbA h)
@[simp] abbrev zp5 (h:Host)(m p c v:Int):Host:=zlh h m p c v
@[simp] abbrev zp6 (h:Host)(m p c v:Int):Bool:=zdD h m p c v
@[simp] abbrev zvF (h:Host)(m p c v:Int):Bool:=pc (zbA h)
@[simp] abbrev zpe (h:Host)(m p c v:Int):Host:=zlh h m p c v
@[simp] abbrev zpf (h:Host)(m p c v:Int):Bool:=zdD h m p c v
def z96 (H:Host)(m p c v:Int)(o:Host->Ans):OA:=
 bif znE H m p 2 then (cond (inb m (ln (mended H m p 2).Mons)) (cond (inb p (ln (ix (mended H m p 2).Mons m mZ).Outer)) (cond (zjt (mended H m p 2).Memory (ix (ix (mended H m p 2).Mons m mZ).Outer p sZ).Page c v) (some (o (zY7 H m p c v))) none) none) none) else none
theorem zY6 {h:Host}{m p c v:Int}{o:Host->Ans}(hs:SmH h)(h0:zbL h m p=true):z96 h m p c v o=some (o (zY7 h m p c v)):=by
 obtain ⟨hh,hm,hp⟩:=zg2.1 h0;have hf:=zea hs hh;obtain ⟨h1,h2⟩:=zwu (n:=2) hf hm hp;unfold z96;refine must (zN ⟨hf,hm,hp,.inr rfl,zuv (zgR hh _ (zbt hm mZ)) hp⟩) (must (zx h2) (must (zx ?_) (must (zN h1.1.1) rfl)));rw[ln,(h1.2 _ (zbt h2 mZ)).1];exact hp
def zAe:Run:=rF5 dH dI dI dI dI fun b c d e f=>(zwj b c d e f,[aH (zp5 b c d e f),aB (zp6 b c d e f)])
def zEf (N:Nat)(a0:Host)(a1 a2:Int)(a3 a4:Int):OA:=
 let y2:=(zu a0);let y0:=(zoL y2 a1 a2 2);let y1:=(ix y0.Mons a1 zh).Outer;let y3:=(ix y1 a2 zK).Page; (oN (zbI a0) (oN (zoK y2 a1 a2) (cond (nB (zhW y2 a1 a2)) (some [(aH y2),(aB false)]) (oN (zL a3 0 3) (cond (nB (zO a3 0 3)) (some [(aH y2),(aB false)]) (oN (zL a4 0 99) (cond (nB (zO a4 0 99)) (some [(aH y2),(aB false)]) (oN (znE y2 a1 a2 2) (oN (inb a1 (ln y0.Mons)) (oN (inb a2 (ln y1)) (oN (zjt y0.Memory y3 a3 a4) (some [(aH ({ y0 with Memory:=(zj4 y0.Memory y3 a3 a4) }:Host)),(aB true)]))))))))))))
theorem zR9 (a0:Host)(a1 a2:Int)(a3 a4:Int)(hc:zwj a0 a1 a2 a3 a4=true):∃N,zEf N a0 a1 a2 a3 a4=some [aH (zp5 a0 a1 a2 a3 a4),aB (zp6 a0 a1 a2 a3 a4)]:=by
 have hs:=(zF a0).1 (zy.1 hc);refine ⟨0,?_⟩;unfold zEf zp5 zp6 zlh zdD oN nB
 conv=>zeta
 refine must hc (must rfl ?_);rw[show zhW (zu a0) a1 a2=zbL a0 a1 a2 from rfl]
 cases h0:zbL a0 a1 a2
 .rfl
 .refine zbN rfl (must rfl ?_);rw[show zO a3 0 3=hasB a3 4 from zbcs a3]
  cases h1:hasB a3 4
  .rfl
  .refine zbN rfl (must rfl ?_);rw[show zO a4 0 99=win a4 0 99 from rfl]
   cases h2:win a4 0 99
   .rfl
   .have key:=zY6 (c:=a3) (v:=a4) (o:=fun H=>[.agg (zS H),.one (.b true)]) hs h0;exact zbN rfl (show _=_ from key)
theorem zKW:u4 118 zAe:=kF5 zED zi zbj zbw (zk []) zR9
theorem z6n {h:Host}{m p c v:Int}(hm:hasB m (ln h.Mons)=true):zcb h m (zxe (zC h m) p c v)=h:=by
 have e:zcb h m (zxe (zC h m) p c v)=zcb h m (zC h m):=by
  refine back_eq ?_ ?_<;>unfold zxe<;>cases zsX (zC h m) p c v<;>rfl
 rw[e];exact zjz hm
theorem zbbd {h:Host}{m p c v:Int}(hh:zbE h=true)(hm:hasB m (ln h.Mons)=true):zsX (zC h m) p c v=zdD h m p c v:=by
 unfold zsX zdD zWs zbL;rw[zrB hh hm,hh,hm];cases hasB p 8<;>rfl
def zzM:Run:=rF5 dH dI dI dI dI fun b c d e f=>(zvF b c d e f,[aH (zpe b c d e f),aB (zpf b c d e f)])
def zDK (N:Nat)(a0:Host)(a1 a2:Int)(a3 a4:Int):OA:=
 let y7:=(zgf (zc7 a0 a1) a2 a3 a4);let y6:=(zI a0);let y2:=(zn6 y6 a1 a2 2);let y5:=(ix y2.Mons a1 zh).Outer;let y9:=(ix y5 a2 zK).Page;let y1:=(zi5 (zc7 a0 a1) a2 a3 a4); (oN (zba a0) (oN (zcJ a0) (cond (nB (zcE a0)) (some [(aH y6),(aB false)]) (oN (zbx a1 (ln a0.Mons)) (cond (nB (zbK a1 (ln a0.Mons))) (some [(aH y6),(aB false)]) (oN (zee a0 a1) (oN (zvA (zc7 a0 a1) a2 a3 a4) (cond y1 (oN (zch y7.Guests) (oN (inb a1 (ln y6.Mons)) (share (up y6.Mons a1 ({ (ix y6.Mons a1 zh) with Guests:=(zcF y7.Guests) }:Mon)) (fun x6=>(oN (inb a1 (ln x6)) (share (up x6 a1 ({ (ix x6 a1 zh) with Pending:=y7.Pending }:Mon)) (fun x7=>let y3:=({ y6 with Mons:=x7 }:Host);let y0:=(zn6 y3 a1 a2 2);let y4:=(ix y0.Mons a1 zh).Outer;let y8:=(ix y4 a2 zK).Page; (cond y1 (oN (zvM y3 a1 a2 2) (oN (inb a1 (ln y0.Mons)) (oN (inb a2 (ln y4)) (oN (zfc y0.Memory y8 a3 a4) (some [(aH ({ y0 with Memory:=(zf0 y0.Memory y8 a3 a4) }:Host)),(aB y1)]))))) (some [(aH y3),(aB y1)]))))))))) (cond y1 (oN (zvM y6 a1 a2 2) (oN (inb a1 (ln y2.Mons)) (oN (inb a2 (ln y5)) (oN (zfc y2.Memory y9 a3 a4) (some [(aH ({ y2 with Memory:=(zf0 y2.Memory y9 a3 a4) }:Host)),(aB y1)]))))) (some [(aH y6),(aB y1)]))))))))))
theorem zRE (a0:Host)(a1 a2:Int)(a3 a4:Int)(hb:zbC big [aH a0,aI a1,aI a2,aI a3,aI a4])(hc:zvF a0 a1 a2 a3 a4=true):∃N,zDK N a0 a1 a2 a3 a4=some [aH (zpe a0 a1 a2 a3 a4),aB (zpf a0 a1 a2 a3 a4)]:=by
 have hs:=(zF a0).1 (zy.1 hc);refine ⟨0,?_⟩;unfold zDK zpe zpf zlh oN nB
 conv=>zeta
 refine must hc (must rfl ?_);rw[show zcE a0=zbE a0 from rfl]
 cases hh:zbE a0
 .unfold zdD zbL;rw[hh];rfl
 .refine zbN rfl (must rfl ?_);rw[show zbK a1 (ln a0.Mons)=hasB a1 (ln a0.Mons) from rfl]
  cases hm:hasB a1 (ln a0.Mons)
  .unfold zdD zbL;rw[hh,hm];rfl
  .have hv:=zdG hs hm;have hb:SmB (zgf (zC a0 a1) a2 a3 a4):=by
    show SmB (zxe _ _ _ _)
    unfold zxe;cases zsX (zC a0 a1) a2 a3 a4
    .exact hv
    .exact ⟨zww hv.1,hv.2⟩
   refine zbN rfl (must hc (must (zN hv) ?_));rw[show zi5 (zc7 a0 a1) a2 a3 a4=zdD a0 a1 a2 a3 a4 from zbbd hh hm]
   cases hf:zdD a0 a1 a2 a3 a4
   .rfl
   .have h0:zbL a0 a1 a2=true:=by
     unfold zdD at hf;cases hp:zbL a0 a1 a2
     .rw [hp]at hf;cases hf
     .rfl
    obtain ⟨e1,e2⟩:=zP3 hm (zgf (zC a0 a1) a2 a3 a4);refine must rfl (must (zN hb.2.1) (must (zx hm) (shr (must e1 (shr ?_)))));rw[show zh=mZ from rfl,e2]
    have hbk:({ zI a0 with Mons:=up (zI a0).Mons a1 (zAG (ix (zI a0).Mons a1 mZ) (zgf (zC a0 a1) a2 a3 a4)) }:Host)=a0:=z6n hm;have key:=zY6 (c:=a3) (v:=a4) (o:=fun H=>[.agg (zS H),.one (.b true)]) hs h0;refine must rfl ?_;rw[hbk];exact (show _=_ from key)
theorem zKt:u4 28 zzM:=hF5 zED zi zbj zbw (zk []) zRE
def z4Z:zV:=[(118,zAe),(28,zzM)]++z4Y
theorem zTD:zJ z4Z:=zf zKW (zf zKt zED)
@[simp] abbrev zpl (h:Host)(m g page need:Int):Bool:=pc (zbA h)
@[simp] abbrev zpk (h:Host)(m g page need:Int):Host:=(lookOf h h.IoBuffer m g page need true).1
@[simp] abbrev zjd (h:Host)(m g page need:Int):Int:=(lookOf h h.IoBuffer m g page need true).2.1
@[simp] abbrev zje (h:Host)(m g page need:Int):Bool:=(lookOf h h.IoBuffer m g page need true).2.2
def zzQ:Run:=rF5 dH dI dI dI dI fun b c d e f=>(zpl b c d e f,[aH (zpk b c d e f),aI (zjd b c d e f),aB (zje b c d e f)])
def zDO (N:Nat)(a0:Host)(a1 a2:Int)(a3 a4:Int):OA:=
 (oN (zur a0 a1 a2 a3 a4 true) (some [(aH (zuo a0 a1 a2 a3 a4 true)),(aI (zup a0 a1 a2 a3 a4 true)),(aB (zuq a0 a1 a2 a3 a4 true))]))
theorem zRI (a0:Host)(a1 a2:Int)(a3 a4:Int)(hc:zpl a0 a1 a2 a3 a4=true):∃N,zDO N a0 a1 a2 a3 a4=some [aH (zpk a0 a1 a2 a3 a4),aI (zjd a0 a1 a2 a3 a4),aB (zje a0 a1 a2 a3 a4)]:=by
 refine ⟨0,?_⟩;unfold zDO oN;exact must hc rfl
theorem zKx:u4 95 zzQ:=kF5 zTD zi zbj zbw (zk []) zRI
def z5a:zV:=[(95,zzQ)]++z4Z
theorem zsx:zJ z5a:=zf zKx zTD
theorem zO1 (h:Host)(b:List Entry)(m g page need:Int)(io:Bool):(lookOf h b m g page need io).2.2=zbX h m g page need:=by
 cases hl:zbX h m g page need
 .rw [zhj hl]
 .rw [zLI hl];unfold zic ze1;generalize zkw b m g page need=x;cases x
  .generalize zeE _ m g page need=y;cases y<;>rfl
  .rfl
theorem z15 {h:Host}{m g page need:Int}(b:List Entry)(io:Bool)(hs:SmH h)(hl:zbX h m g page need=true):SmM (lookOf h b m g page need io).1.Memory:=by
 have hg:zb5 h m g=true:=by
  unfold zbX at hl;cases h1:zb5 h m g
  .rw [h1]at hl;cases hl
  .rfl
 exact (zuZ hs hg).shape.1.1
def zRs (h:Host)(m g a n:Int):Host×Int×Bool:=lookOf h h.IoBuffer m g (zb0 a) n true
def zh4 (h:Host)(m g a v:Int):Bool:=bif win a 0 15 then (cond (win v 0 99) (zbX h m g (zb0 a) 2) false) else false
def zow (h:Host)(m g a v:Int):Host:=bif zh4 h m g a v then { (zRs h m g a 2).1 with Memory:=zer (zRs h m g a 2).1.Memory (zRs h m g a 2).2.1 (zfF a) v } else h
def zfX (h:Host)(m g a:Int):Bool:=bif win a 0 15 then zbX h m g (zb0 a) 1 else false
def zli (h:Host)(m g a:Int):Host:=bif zfX h m g a then (zRs h m g a 1).1 else h
def zox (h:Host)(m g a:Int):Int:=bif zfX h m g a then cellAt (zRs h m g a 1).1.Memory (zRs h m g a 1).2.1 (zfF a) else 0
@[simp] abbrev zyG (h:Host)(m g a v:Int):Bool:=pc (zbA h)
@[simp] abbrev zr9 (h:Host)(m g a v:Int):Host:=zow h m g a v
@[simp] abbrev zsa (h:Host)(m g a v:Int):Bool:=zh4 h m g a v
@[simp] abbrev zwl (h:Host)(m g a:Int):Bool:=pc (zbA h)
@[simp] abbrev zp9 (h:Host)(m g a:Int):Host:=zli h m g a
@[simp] abbrev zqa (h:Host)(m g a:Int):Int:=zox h m g a
@[simp] abbrev zqb (h:Host)(m g a:Int):Bool:=zfX h m g a
@[simp] abbrev zyp (h:Host)(m g a v:Int):Bool:=pc (zbA h)
@[simp] abbrev zrL (h:Host)(m g a v:Int):Host:=zow h m g a v
@[simp] abbrev zrM (h:Host)(m g a v:Int):Bool:=zh4 h m g a v
@[simp] abbrev zvH (h:Host)(m g a:Int):Bool:=pc (zbA h)
@[simp] abbrev zlo (h:Host)(m g a:Int):Host:=zli h m g a
@[simp] abbrev zpg (h:Host)(m g a:Int):Int:=zox h m g a
@[simp] abbrev zph (h:Host)(m g a:Int):Bool:=zfX h m g a
def zCQ:Run:=rF5 dH dI dI dI dI fun b c d e f=>(zyG b c d e f,[aH (zr9 b c d e f),aB (zsa b c d e f)])
def zIJ (N:Nat)(a0:Host)(a1 a2:Int)(a3 a4:Int):OA:=
 let y1:=(zu a0);let y2:=(zkS y1 y1.IoBuffer a1 a2 (zcp a3) 2 true);let y0:=(ze7 y1 y1.IoBuffer a1 a2 (zcp a3) 2 true); (oN (zbI a0) (oN (zL a3 0 15) (cond (nB (zO a3 0 15)) (some [(aH y1),(aB false)]) (oN (zL a4 0 99) (cond (nB (zO a4 0 99)) (some [(aH y1),(aB false)]) (oN (zgo a3) (oN (zkT y1 y1.IoBuffer a1 a2 (zcp a3) 2 true) (cond (nB (zg8 y1 y1.IoBuffer a1 a2 (zcp a3) 2 true)) (some [(aH y0),(aB false)]) (oN (zjn a3) (oN (zjt y0.Memory y2 (zei a3) a4) (some [(aH ({ y0 with Memory:=(zj4 y0.Memory y2 (zei a3) a4) }:Host)),(aB true)])))))))))))
theorem zVx (a0:Host)(a1 a2:Int)(a3 a4:Int)(hc:zyG a0 a1 a2 a3 a4=true):∃N,zIJ N a0 a1 a2 a3 a4=some [aH (zr9 a0 a1 a2 a3 a4),aB (zsa a0 a1 a2 a3 a4)]:=by
 have hs:=(zF a0).1 (zy.1 hc);refine ⟨0,?_⟩;unfold zIJ zr9 zsa zow zh4 oN nB
 conv=>zeta
 refine must hc (must rfl ?_);rw[show zO a3 0 15=win a3 0 15 from rfl]
 cases h1:win a3 0 15
 .rfl
 .refine zbN rfl (must rfl ?_);rw[show zO a4 0 99=win a4 0 99 from rfl]
  cases h2:win a4 0 99
  .rfl
  .refine zbN rfl (must rfl (must hc ?_));rw[show zg8 (zu a0) (zu a0).IoBuffer a1 a2 (zcp a3) 2 true=zbX a0 a1 a2 (zb0 a3) 2 from zO1 _ _ _ _ _ _ _]
   cases h3:zbX a0 a1 a2 (zb0 a3) 2
   .rw [show ze7 (zu a0) (zu a0).IoBuffer a1 a2 (zcp a3) 2 true=a0 from congrArg Prod.fst (zhj h3)]
    rfl
   .exact zbN rfl (must rfl (must (zN (z15 a0.IoBuffer true hs h3)) rfl))
theorem zNX:u4 121 zCQ:=kF5 zsx zi zbj zbw (zk []) zVx
def zCt:Run:=rF5 dH dI dI dI dI fun b c d e f=>(zyp b c d e f,[aH (zrL b c d e f),aB (zrM b c d e f)])
def zIj (N:Nat)(a0:Host)(a1 a2:Int)(a3 a4:Int):OA:=
 let y0:=(zpk a0 a1 a2 (zbZ a3) 2); (oN (zez a3) (oN (zpl a0 a1 a2 (zbZ a3) 2) (oN (zbk a3 0 15) (cond (nB (zbr a3 0 15)) (oN (zba a0) (some [(aH (zI a0)),(aB false)])) (oN (zbk a4 0 99) (cond (nB (zbr a4 0 99)) (oN (zba a0) (some [(aH (zI a0)),(aB false)])) (cond (nB (zje a0 a1 a2 (zbZ a3) 2)) (oN (zba a0) (some [(aH (zI a0)),(aB false)])) (oN (zey a3) (oN (zfc y0.Memory (zjd a0 a1 a2 (zbZ a3) 2) (zdU a3) a4) (some [(aH ({ y0 with Memory:=(zf0 y0.Memory (zjd a0 a1 a2 (zbZ a3) 2) (zdU a3) a4) }:Host)),(aB true)]))))))))))
theorem zU5 (a0:Host)(a1 a2:Int)(a3 a4:Int)(hc:zyp a0 a1 a2 a3 a4=true):∃N,zIj N a0 a1 a2 a3 a4=some [aH (zrL a0 a1 a2 a3 a4),aB (zrM a0 a1 a2 a3 a4)]:=by
 have hs:=(zF a0).1 (zy.1 hc);refine ⟨0,?_⟩;unfold zIj zrL zrM zow zh4 oN nB
 conv=>zeta
 refine must rfl (must hc (must rfl ?_));rw[show zbr a3 0 15=win a3 0 15 from rfl]
 cases h1:win a3 0 15
 .exact must rfl (must hc rfl)
 .refine zbN rfl (must rfl ?_);rw[show zbr a4 0 99=win a4 0 99 from rfl]
  cases h2:win a4 0 99
  .exact must rfl (must hc rfl)
  .refine zbN rfl ?_;rw[show zje a0 a1 a2 (zbZ a3) 2=zbX a0 a1 a2 (zb0 a3) 2 from zO1 _ _ _ _ _ _ _]
   cases h3:zbX a0 a1 a2 (zb0 a3) 2
   .exact must rfl (must hc rfl)
   .exact zbN rfl (must rfl (must (zN (z15 a0.IoBuffer true hs h3)) rfl))
theorem zNA:u4 31 zCt:=kF5 zsx zi zbj zbw (zk []) zU5
def zAg:Run:=rF4 dH dI dI dI fun b c d e=>(zwl b c d e,[aH (zp9 b c d e),aI (zqa b c d e),aB (zqb b c d e)])
def zEh (N:Nat)(a0:Host)(a1 a2 a3:Int):OA:=
 let y1:=(zu a0);let y2:=(zkS y1 y1.IoBuffer a1 a2 (zcp a3) 1 true);let y0:=(ze7 y1 y1.IoBuffer a1 a2 (zcp a3) 1 true); (oN (zbI a0) (oN (zL a3 0 15) (cond (nB (zO a3 0 15)) (some [(aH y1),(aI 0),(aB false)]) (oN (zgo a3) (oN (zkT y1 y1.IoBuffer a1 a2 (zcp a3) 1 true) (cond (nB (zg8 y1 y1.IoBuffer a1 a2 (zcp a3) 1 true)) (some [(aH y0),(aI 0),(aB false)]) (oN (zjn a3) (oN (zuy y0.Memory y2 (zei a3)) (some [(aH y0),(aI (zoh y0.Memory y2 (zei a3))),(aB true)])))))))))
theorem zSb (a0:Host)(a1 a2 a3:Int)(hc:zwl a0 a1 a2 a3=true):∃N,zEh N a0 a1 a2 a3=some [aH (zp9 a0 a1 a2 a3),aI (zqa a0 a1 a2 a3),aB (zqb a0 a1 a2 a3)]:=by
 have hs:=(zF a0).1 (zy.1 hc);refine ⟨0,?_⟩;unfold zEh zp9 zqa zqb zli zox zfX oN nB
 conv=>zeta
 refine must hc (must rfl ?_);rw[show zO a3 0 15=win a3 0 15 from rfl]
 cases h1:win a3 0 15
 .rfl
 .refine zbN rfl (must rfl (must hc ?_));rw[show zg8 (zu a0) (zu a0).IoBuffer a1 a2 (zcp a3) 1 true=zbX a0 a1 a2 (zb0 a3) 1 from zO1 _ _ _ _ _ _ _]
  cases h3:zbX a0 a1 a2 (zb0 a3) 1
  .rw [show ze7 (zu a0) (zu a0).IoBuffer a1 a2 (zcp a3) 1 true=a0 from congrArg Prod.fst (zhj h3)]
   rfl
  .exact zbN rfl (must rfl (must rfl rfl))
theorem zKY:u4 122 zAg:=kF4 zsx zi zbj zbw (zk []) zSb
def zzO:Run:=rF4 dH dI dI dI fun b c d e=>(zvH b c d e,[aH (zlo b c d e),aI (zpg b c d e),aB (zph b c d e)])
def zDM (N:Nat)(a0:Host)(a1 a2 a3:Int):OA:=
 let y0:=(zpk a0 a1 a2 (zbZ a3) 1); (oN (zez a3) (oN (zpl a0 a1 a2 (zbZ a3) 1) (oN (zbk a3 0 15) (cond (nB (zbr a3 0 15)) (oN (zba a0) (some [(aH (zI a0)),(aI 0),(aB false)])) (cond (nB (zje a0 a1 a2 (zbZ a3) 1)) (oN (zba a0) (some [(aH (zI a0)),(aI 0),(aB false)])) (oN (zey a3) (oN (zmc y0.Memory (zjd a0 a1 a2 (zbZ a3) 1) (zdU a3)) (some [(aH y0),(aI (zlk y0.Memory (zjd a0 a1 a2 (zbZ a3) 1) (zdU a3))),(aB true)]))))))))
theorem zRG (a0:Host)(a1 a2 a3:Int)(hc:zvH a0 a1 a2 a3=true):∃N,zDM N a0 a1 a2 a3=some [aH (zlo a0 a1 a2 a3),aI (zpg a0 a1 a2 a3),aB (zph a0 a1 a2 a3)]:=by
 have hs:=(zF a0).1 (zy.1 hc);refine ⟨0,?_⟩;unfold zDM zlo zpg zph zli zox zfX oN nB
 conv=>zeta
 refine must rfl (must hc (must rfl ?_));rw[show zbr a3 0 15=win a3 0 15 from rfl]
 cases h1:win a3 0 15
 .exact must rfl (must hc rfl)
 .refine zbN rfl ?_;rw[show zje a0 a1 a2 (zbZ a3) 1=zbX a0 a1 a2 (zb0 a3) 1 from zO1 _ _ _ _ _ _ _]
  cases h3:zbX a0 a1 a2 (zb0 a3) 1
  .exact must rfl (must hc rfl)
  .exact zbN rfl (must rfl (must rfl rfl))
theorem zKv:u4 32 zzO:=kF4 zsx zi zbj zbw (zk []) zRG
def z5b:zV:=[(121,zCQ),(31,zCt),(122,zAg),(32,zzO)]++z5a
theorem z5c:zJ z5b:=zf zNX (zf zNA (zf zKY (zf zKv zsx)))
def z5d:zV:=[(188,zq9),(130,zmr),(189,zq6),(131,zq3)]++z5b
theorem zEE:zJ z5d:=zf zvz (zf zvv (zf zvx (zf zvt z5c)))
def zmj:Kept:=⟨rp 4 false,znH⟩
@[simp] abbrev zyK (n:Int):Bool:=ieq n 4
@[simp] abbrev zx5 (n:Int):Kept:=zmj
def zCU:Run:=rF1 dI fun b=>(zyK b,[aT .kept (zx5 b)])
def zZ8 (N:Nat)(a0:Int):OA:=
 let y0:=(ln (zgP a0)); (oN (zjs a0) (oN (cond (few y0) (ieq y0 y0) false) (some [(aT .kept (⟨(rp y0 false),(zgP a0)⟩:Kept))])))
theorem zVB (a0:Int)(hc:zyK a0=true):∃N,zZ8 N a0=some [aT .kept (zx5 a0)]:=by
 refine ⟨0,?_⟩;have h:a0=4:=qD hc;subst h
 change _=_
 kernel_rfl
theorem zN1:u4 190 zCU:=kF1 zEE zi zbj zbw (zk []) zVB
@[simp] abbrev zys (n:Int):Bool:=ieq n 4
@[simp] abbrev zxa (n:Int):Kept:=zmj
def zCw:Run:=rF1 dI fun b=>(zys b,[aT .kept (zxa b)])
def zZ7 (N:Nat)(a0:Int):OA:=
 let y0:=(zoy a0 0 24); (oN (zrK a0 0 24) (oN (cond (few y0) (ieq y0 y0) false) (oN (zjg a0) (some [(aT .kept (⟨(rp y0 false),(zgL a0)⟩:Kept))]))))
theorem zU8 (a0:Int)(hc:zys a0=true):∃N,zZ7 N a0=some [aT .kept (zxa a0)]:=by
 refine ⟨0,?_⟩;have h:a0=4:=qD hc;subst h
 change _=_
 kernel_rfl
theorem zND:u4 132 zCw:=kF1 zEE zi zbj zbw (zk []) zU8
def z5e:zV:=[(190,zCU),(132,zCw)]++z5d
theorem zEF:zJ z5e:=zf zN1 (zf zND zEE)
def zZm:List Slot:=List.replicate 8 ⟨-1,0⟩
def zid (ps:List (List Ins)):Mon:=⟨zZm,zSw,rp 8 false,(ps.take 2).map zfb,[],0,0,(ps.take 2).map (fun _=>zmj),0⟩
theorem zTV {α β γ ρ:Type}(f:α->β)(g:α->γ)(K:List β×List γ->Option ρ):∀(l:List α) (i:Nat) (u:List β×List γ),u.1.length+l.length<=2147483648->u.2.length+l.length<=2147483648 ->
 goL (fun (_:Nat) x (u:List β×List γ) k=>bif few (ln (ap u.1 [f x])) then (cond (few (ln (ap u.2 [g x]))) (k (ap u.1 [f x],ap u.2 [g x])) none) else none) K l i u=K (u.1++l.map f,u.2++l.map g)
 | [],i,u,_,_=>by simp[goL]
 | x :: l,i,u,h1,h2=>by
  simp only[qW]at h1 h2;have e1:few (ln (ap u.1 [f x]))=true:=zeO (by simp[ap];omega)
  have e2:few (ln (ap u.2 [g x]))=true:=zeO (by simp[ap];omega)
  simp only[goL,e1,e2,cT];rw[zTV f g K l (i+1) _ (by simp[ap];omega) (by simp[ap];omega)]
  simp[ap]
theorem zO2 {α β γ ρ:Type}(m:Nat)(f:α->β)(g:α->γ)(K:List β×List γ->Option ρ):∀(l:List α) (i:Nat) (u:List β×List γ),u.1.length+l.length<=2147483648->u.2.length+l.length<=2147483648 ->
 goL (fun (i:Nat) x (u:List β×List γ) k=>bif ilt (i:Int) (m:Int) then (cond (few (ln (ap u.1 [f x]))) (cond (few (ln (ap u.2 [g x]))) (k (ap u.1 [f x],ap u.2 [g x])) none) none) else K u) K l i u=K (u.1++(l.take (m-i)).map f,u.2++(l.take (m-i)).map g)
 | [],i,u,_,_=>by simp[goL]
 | x :: l,i,u,h1,h2=>by
  simp only[qW]at h1 h2;have e1:few (ln (ap u.1 [f x]))=true:=zeO (by simp[ap];omega)
  have e2:few (ln (ap u.2 [g x]))=true:=zeO (by simp[ap];omega)
  by_cases h:i<m
  .have hi:ilt (i:Int) (m:Int)=true:=qK (by omega)
   simp only[goL,hi,e1,e2,cT];rw[zO2 m f g K l (i+1) _ (by simp[ap];omega) (by simp[ap];omega)]
   rw[show m-i=m-(i+1)+1 by omega]
   simp[ap]
  .have hi:ilt (i:Int) (m:Int)=false:=qH (by omega)
   simp only[goL,hi,cF];rw[show m-i=0 by omega]
   simp
def zYK (u:List Guest×List Kept):OA:=some [AV.agg (Ty.cells .mon (⟨zZm,zSw,rp 8 false,u.1,[],0,0,u.2,0⟩:Mon))]
@[simp] abbrev zuz (ps:List (List Ins)):Bool:=pc (z6U ps)
@[simp] abbrev zLT (ps:List (List Ins)):Mon:=zid ps
@[simp] abbrev zuj (ps:List (List Ins)):Bool:=pc (z6U ps)
@[simp] abbrev zLf (ps:List (List Ins)):Mon:=zid ps
def zF4:Run:=rF1 (dS (.sl .ins)) fun b=>(zuz b,[aT .mon (zLT b)])
def zMJ (N:Nat)(a0:lP):OA:=
 (oN (zjs 8) (oN (zqd 8) (oN (cond (few 8) (ieq 8 8) false) (iter (σ:=(Int×(Int×(Int×(Int×(Int×(Int×(Int×(lP×(lS×(lM×(lB×(lG×((List Int)×(lK×(lS×(lM×(lB×(lG×((List Int)×(lK×Unit))))))))))))))))))))) N (fun r2 s3=>let y8:=s3.2.2.2.2.2.2.2.2.2.2.2.2.2.2.1;let y7:=s3.2.2.2.2.2.2.2.2.2.2.2.2.2.2.2.1;let y6:=s3.2.2.2.2.2.2.2.2.2.2.2.2.2.2.2.2.1;let y5:=s3.2.2.2.2.2.2.2.2.2.2.2.2.2.2.2.2.2.1;let y4:=s3.2.2.2.2.2.2.2.2.2.2.2.2.2.2.2.2.2.2.1;let y3:=s3.2.2.2.2.2.2.2.1;let y2:=s3.2.2.2.2.2.2.2.2.2.2.2.2.2.2.2.2.2.2.2.1;let y1:=(ap y5 [(zp2 (ix y3 s3.1 []))]);let y0:=(aT .mon (⟨y8,y7,y6,y5,y4,s3.2.2.2.2.1,s3.2.2.2.2.2.1,y2,s3.2.2.2.2.2.2.1⟩:Mon)); (cond (ilt s3.1 (ln y3)) (cond (ilt s3.1 2) (oN (inb s3.1 (ln y3)) (oN (zp3 (ix y3 s3.1 [])) (oN (few (ln y1)) (oN (zyK 4) (oN (few (ln (ap y2 [(zx5 4)]))) (r2 ((zD .i64 s3.1 1),(s3.2.1,(s3.2.2.1,(s3.2.2.2.1,(s3.2.2.2.2.1,(s3.2.2.2.2.2.1,(s3.2.2.2.2.2.2.1,(y3,(s3.2.2.2.2.2.2.2.2.1,(s3.2.2.2.2.2.2.2.2.2.1,(s3.2.2.2.2.2.2.2.2.2.2.1,(s3.2.2.2.2.2.2.2.2.2.2.2.1,(s3.2.2.2.2.2.2.2.2.2.2.2.2.1,(s3.2.2.2.2.2.2.2.2.2.2.2.2.2.1,(y8,(y7,(y6,(y1,(y4,((ap y2 [(zx5 4)]),())))))))))))))))))))))))))) (some [y0])) (some [y0]))) (0,(0,(0,(0,(0,(0,(0,(a0,([],([],([],([],([],([],((zgP 8),((zj2 8),((rp 8 false),([],([],([],()))))))))))))))))))))))))
def zZQ:FuncId->Nat->Option Tmpl:=zk [(105,0,{ n:=36,tm:=[(0,.sl 0 []),(2,.lp 0 0),(3,.lp 1 0),(4,ti)],lo:=[(0,[.sl 1 [],.sl 2 [],.sl 3 [],.sl 4 [],.sl 5 [],ti,ti,.sl 6 [],ti]),(1,[.sl 7 [],.sl 8 [],.sl 9 [],.sl 10 [],.sl 11 [],ti,ti,.sl 12 [],ti])],ro:=[(0,(.sl .ins),false),(1,.slot,true),(2,(.sl .int),true),(3,.bool,true),(4,.guest,true),(5,.int,true),(6,.kept,true),(7,.slot,true),(8,(.sl .int),true),(9,.bool,true),(10,.guest,true),(11,.int,true),(12,.kept,true)] })]
theorem zYe (a0:List lI)(hc:zuz a0=true):∃N,zMJ N a0=some [aT .mon (zLT a0)]:=by
 have hs:=zy.1 hc;have hl:=zb4 hs.1;refine zbV fun N hNN=>?_;unfold zMJ oN
 conv=>zeta
 refine must rfl (must rfl (must rfl ?_));refine (zbb a0 (fun i (t:lG×lK)=>((i:Int),0,0,0,0,0,0,a0,[],[],[],[],[],[],(zgP 8),(zj2 8),(rp 8 false),t.1,[],t.2,())) _ (fun i (x:List Ins) (u:List Guest×List Kept) κ=>bif ilt (i:Int) ((2:Nat):Int) then (cond (few (ln (ap u.1 [zfb x]))) (cond (few (ln (ap u.2 [zmj]))) (κ (ap u.1 [zfb x],ap u.2 [zmj])) none) none) else zYK u) (fun (t:lG×lK)=>(some [(.agg (Ty.cells .mon (⟨(zgP 8),(zj2 8),(rp 8 false),t.1,[],0,0,t.2,0⟩:Mon)))])) (fun i hi t rec=>?_) (fun t rec=>?_) _ ([],[]) (hNN hl.1)).trans ?_
 .simp only [zbi hi,zQ hi,zbc hi,zU hi hl.1,cT];have hx:zp3 a0[i]=true:=zN (hs.2 _ (jC hi));simp only[hx,cT];rfl
 .simp only [zbe,cF]
 exact zO2 2 zfb (fun _=>zmj) zYK a0 0 ([],[]) (by simpa using hl.2) (by simpa using hl.2)
theorem zQ1:u4 105 zF4:=kF1 zEF zi zbj zbw zZQ zYe
def zFB:Run:=rF1 (dS (.sl .ins)) fun b=>(zuj b,[aT .mon (zLf b)])
def zMh (N:Nat)(a0:lP):OA:=
 let y8:=(ze2 (ln a0) 2); (oN (zjg 8) (oN (zui 8) (oN (cond (few 8) (ieq 8 8) false) (oN (inr 0 y8 (ln a0)) (iter (σ:=(Int×(Int×(Int×(Int×(Int×(Int×(Int×(Int×(lP×(lS×(lM×(lB×(lG×((List Int)×(lK×(lS×(lM×(lB×(lG×((List Int)×(lK×Unit)))))))))))))))))))))) N (fun r2 s3=>let y7:=s3.2.2.2.2.2.2.2.2.2.2.2.2.2.2.2.1;let y6:=s3.2.2.2.2.2.2.2.2.2.2.2.2.2.2.2.2.1;let y5:=s3.2.2.2.2.2.2.2.2.2.2.2.2.2.2.2.2.2.1;let y4:=s3.2.2.2.2.2.2.2.2.2.2.2.2.2.2.2.2.2.2.1;let y3:=s3.2.2.2.2.2.2.2.2.2.2.2.2.2.2.2.2.2.2.2.1;let y2:=s3.2.2.2.2.2.2.2.2.1;let y1:=s3.2.2.2.2.2.2.2.2.2.2.2.2.2.2.2.2.2.2.2.2.1;let y0:=(ap y4 [(zpb (ix y2 s3.2.1 []))]); (cond (ilt s3.2.1 s3.1) (oN (inb s3.2.1 (ln y2)) (oN (zpc (ix y2 s3.2.1 [])) (oN (few (ln y0)) (oN (zys 4) (oN (few (ln (ap y1 [(zxa 4)]))) (r2 (s3.1,((zD .i64 s3.2.1 1),(s3.2.2.1,(s3.2.2.2.1,(s3.2.2.2.2.1,(s3.2.2.2.2.2.1,(s3.2.2.2.2.2.2.1,(s3.2.2.2.2.2.2.2.1,(y2,(s3.2.2.2.2.2.2.2.2.2.1,(s3.2.2.2.2.2.2.2.2.2.2.1,(s3.2.2.2.2.2.2.2.2.2.2.2.1,(s3.2.2.2.2.2.2.2.2.2.2.2.2.1,(s3.2.2.2.2.2.2.2.2.2.2.2.2.2.1,(s3.2.2.2.2.2.2.2.2.2.2.2.2.2.2.1,(y7,(y6,(y5,(y0,(y3,((ap y1 [(zxa 4)]),()))))))))))))))))))))))))))) (some [(aT .mon (⟨y7,y6,y5,y4,y3,s3.2.2.2.2.2.1,s3.2.2.2.2.2.2.1,y1,s3.2.2.2.2.2.2.2.1⟩:Mon))]))) ((ln (tk a0 y8)),(0,(0,(0,(0,(0,(0,(0,((tk a0 y8),([],([],([],([],([],([],((zgL 8),((zlq 8),((rp 8 false),([],([],([],()))))))))))))))))))))))))))
def zZG:FuncId->Nat->Option Tmpl:=zk [(53,0,{ n:=35,tm:=[(2,.lp 0 0),(3,.lp 1 0),(14,.sl 0 []),(15,ti),(16,ti)],lo:=[(0,[.sl 1 [],.sl 2 [],.sl 3 [],.sl 4 [],.sl 5 [],ti,ti,.sl 6 [],ti]),(1,[.sl 7 [],.sl 8 [],.sl 9 [],.sl 10 [],.sl 11 [],ti,ti,.sl 12 [],ti])],ro:=[(0,(.sl .ins),false),(1,.slot,true),(2,(.sl .int),true),(3,.bool,true),(4,.guest,true),(5,.int,true),(6,.kept,true),(7,.slot,true),(8,(.sl .int),true),(9,.bool,true),(10,.guest,true),(11,.int,true),(12,.kept,true)] })]
theorem zXK (a0:List lI)(hc:zuj a0=true):∃N,zMh N a0=some [aT .mon (zLf a0)]:=by
 have hs:=zy.1 hc;have hl:=zb4 hs.1;have ht:=zZB a0 2;have e1:tk a0 (ze2 (ln a0) 2)=a0.take 2:=ht.1;have h01:(tk a0 (ze2 (ln a0) 2)).length<=1048576:=by rw[e1];exact jA (by simp;omega) hs.1
 have hlen:=(zb4 h01).1;refine zbV fun N hNN=>?_;unfold zMh oN
 conv=>zeta
 refine must rfl (must rfl (must rfl (must ht.2 ?_)));refine (zbb (tk a0 (ze2 (ln a0) 2)) (fun i (t:lG×lK)=>((ln (tk a0 (ze2 (ln a0) 2))),(i:Int),0,0,0,0,0,0,(tk a0 (ze2 (ln a0) 2)),[],[],[],[],[],[],(zgL 8),(zlq 8),(rp 8 false),t.1,[],t.2,())) _ (fun _ (x:List Ins) (u:List Guest×List Kept) κ=>bif few (ln (ap u.1 [zfb x])) then (cond (few (ln (ap u.2 [zmj]))) (κ (ap u.1 [zfb x],ap u.2 [zmj])) none) else none) (fun (t:lG×lK)=>(some [(.agg (Ty.cells .mon (⟨(zgL 8),(zlq 8),(rp 8 false),t.1,[],0,0,t.2,0⟩:Mon)))])) (fun i hi t rec=>?_) (fun t rec=>?_) _ ([],[]) (hNN hlen)).trans ?_
 .simp only [zbi hi,zQ hi,zbc hi,zU hi hlen,cT];have hx:zpc (tk a0 (ze2 (ln a0) 2))[i]=true:=zN (hs.2 _ (z6Q (jC hi)));simp only[hx,cT];rfl
 .simp only [zbe,cF]
 refine (zTV zfb (fun _=>zmj) zYK _ 0 ([],[]) (by simp only[uE];omega) (by simp only[uE];omega)).trans ?_
 rw[e1];rfl
theorem zQy:u4 53 zFB:=kF1 zEF zi zbj zbw zZG zXK
def z5f:zV:=[(105,zF4),(53,zFB)]++z5e
theorem zEG:zJ z5f:=zf zQ1 (zf zQy zEF)
def z3C:List (List Int):=List.replicate 12 [0,0,0,0]
def zi4 (ps:List (List (List Ins))):Host:=⟨z3C,(ps.take 3).map zid,[],[]⟩
def zoX (ps:List (List (List Ins))):Prop:=ps.length<=1048576/\∀p∈ps,z6U p
@[simp] abbrev zyH (ps:List (List (List Ins))):Bool:=pc (zoX ps)
@[simp] abbrev zg4 (ps:List (List (List Ins))):Host:=zi4 ps
@[simp] abbrev zyq (ps:List (List (List Ins))):Bool:=pc (zoX ps)
@[simp] abbrev zgW (ps:List (List (List Ins))):Host:=zi4 ps
def zRo (t:List Mon):OA:=some [AV.agg (zS ⟨z3C,t,[],[]⟩)]
def zCR:Run:=rF1 (dS (.sl (.sl .ins))) fun b=>(zyH b,[aH (zg4 b)])
def zIK (N:Nat)(a0:lQ):OA:=
 (oN (zqd 12) (iter (σ:=(Int×(lQ×(lM×(lN×(lE×(lE×(lM×(lN×(lE×(lE×Unit))))))))))) N (fun r2 s3=>let y1:=(ap s3.2.2.2.2.2.2.2.1 [(zLT (ix s3.2.1 s3.1 []))]);let y0:=(aH (⟨s3.2.2.2.2.2.2.1,s3.2.2.2.2.2.2.2.1,s3.2.2.2.2.2.2.2.2.1,s3.2.2.2.2.2.2.2.2.2.1⟩:Host)); (cond (ilt s3.1 (ln s3.2.1)) (cond (ilt s3.1 3) (oN (inb s3.1 (ln s3.2.1)) (oN (zuz (ix s3.2.1 s3.1 [])) (oN (few (ln y1)) (r2 ((zD .i64 s3.1 1),(s3.2.1,(s3.2.2.1,(s3.2.2.2.1,(s3.2.2.2.2.1,(s3.2.2.2.2.2.1,(s3.2.2.2.2.2.2.1,(y1,(s3.2.2.2.2.2.2.2.2.1,(s3.2.2.2.2.2.2.2.2.2.1,())))))))))))))) (some [y0])) (some [y0]))) (0,(a0,([],([],([],([],((zj2 12),([],([],([],()))))))))))))
def zWb:FuncId->Nat->Option Tmpl:=zk [(39,0,{ n:=28,tm:=[(0,.sl 0 []),(2,.lp 0 0),(3,.lp 1 0),(4,ti)],lo:=[(0,[.sl 1 [],.sl 2 [],.sl 3 [],.sl 4 []]),(1,[.sl 5 [],.sl 6 [],.sl 7 [],.sl 8 []])],ro:=[(0,(.sl (.sl .ins)),false),(1,(.sl .int),true),(2,.mon,true),(3,.entry,true),(4,.entry,true),(5,(.sl .int),true),(6,.mon,true),(7,.entry,true),(8,.entry,true)] })]
theorem zVy (a0:List lP)(hc:zyH a0=true):∃N,zIK N a0=some [aH (zg4 a0)]:=by
 have hs:=zy.1 hc;have hl:=zb4 hs.1;refine zbV fun N hNN=>?_;unfold zIK oN
 conv=>zeta
 refine must rfl ?_;refine (zbb a0 (fun i (t:lN)=>((i:Int),a0,[],[],[],[],(zj2 12),t,[],[],())) _ (fun i (x:List lI) (t:List Mon) κ=>bif ilt (i:Int) ((3:Nat):Int) then (cond (few (ln (ap t [zid x]))) (κ (ap t [zid x])) none) else zRo t) (fun (t:lN)=>(some [(.agg (zS (⟨(zj2 12),t,[],[]⟩:Host)))])) (fun i hi t rec=>?_) (fun t rec=>?_) _ ([]) (hNN hl.1)).trans ?_
 .simp only [zbi hi,zQ hi,zbc hi,zU hi hl.1,cT];have hx:zuz a0[i]=true:=zN (hs.2 _ (jC hi));simp only[hx,cT];rfl
 .simp only [zbe,cF]
 exact zTY 3 zid zRo a0 0 [] (by simpa using hl.2)
theorem zNY:u4 39 zCR:=kF1 zEG zi zbj zbw zWb zVy
def zCu:Run:=rF1 (dS (.sl (.sl .ins))) fun b=>(zyq b,[aH (zgW b)])
def zIk (N:Nat)(a0:lQ):OA:=
 let y1:=(ze2 (ln a0) 3); (oN (zui 12) (oN (inr 0 y1 (ln a0)) (iter (σ:=(Int×(Int×(lQ×(lM×(lN×(lE×(lE×(lM×(lN×(lE×(lE×Unit)))))))))))) N (fun r2 s3=>let y0:=(ap s3.2.2.2.2.2.2.2.2.1 [(zLf (ix s3.2.2.1 s3.2.1 []))]); (cond (ilt s3.2.1 s3.1) (oN (inb s3.2.1 (ln s3.2.2.1)) (oN (zuj (ix s3.2.2.1 s3.2.1 [])) (oN (few (ln y0)) (r2 (s3.1,((zD .i64 s3.2.1 1),(s3.2.2.1,(s3.2.2.2.1,(s3.2.2.2.2.1,(s3.2.2.2.2.2.1,(s3.2.2.2.2.2.2.1,(s3.2.2.2.2.2.2.2.1,(y0,(s3.2.2.2.2.2.2.2.2.2.1,(s3.2.2.2.2.2.2.2.2.2.2.1,()))))))))))))))) (some [(aH (⟨s3.2.2.2.2.2.2.2.1,s3.2.2.2.2.2.2.2.2.1,s3.2.2.2.2.2.2.2.2.2.1,s3.2.2.2.2.2.2.2.2.2.2.1⟩:Host))]))) ((ln (tk a0 y1)),(0,((tk a0 y1),([],([],([],([],((zlq 12),([],([],([],()))))))))))))))
def zV7:FuncId->Nat->Option Tmpl:=zk [(18,0,{ n:=27,tm:=[(2,.lp 0 0),(3,.lp 1 0),(12,.sl 0 []),(13,ti),(14,ti)],lo:=[(0,[.sl 1 [],.sl 2 [],.sl 3 [],.sl 4 []]),(1,[.sl 5 [],.sl 6 [],.sl 7 [],.sl 8 []])],ro:=[(0,(.sl (.sl .ins)),false),(1,(.sl .int),true),(2,.mon,true),(3,.entry,true),(4,.entry,true),(5,(.sl .int),true),(6,.mon,true),(7,.entry,true),(8,.entry,true)] })]
theorem zU6 (a0:List lP)(hc:zyq a0=true):∃N,zIk N a0=some [aH (zgW a0)]:=by
 have hs:=zy.1 hc;have ht:=zZB a0 3;have e1:tk a0 (ze2 (ln a0) 3)=a0.take 3:=ht.1;have h01:(tk a0 (ze2 (ln a0) 3)).length<=1048576:=by rw[e1];exact jA (by simp;omega) hs.1
 have hlen:=(zb4 h01).1;refine zbV fun N hNN=>?_;unfold zIk oN
 conv=>zeta
 refine must rfl (must ht.2 ?_);refine (zbb (tk a0 (ze2 (ln a0) 3)) (fun i (t:lN)=>((ln (tk a0 (ze2 (ln a0) 3))),(i:Int),(tk a0 (ze2 (ln a0) 3)),[],[],[],[],(zlq 12),t,[],[],())) _ (fun _ (x:List lI) (t:List Mon) κ=>bif few (ln (ap t [zid x])) then κ (ap t [zid x]) else none) (fun (t:lN)=>(some [(.agg (zS (⟨(zlq 12),t,[],[]⟩:Host)))])) (fun i hi t rec=>?_) (fun t rec=>?_) _ ([]) (hNN hlen)).trans ?_
 .simp only [zbi hi,zQ hi,zbc hi,zU hi hlen,cT];have hx:zuj (tk a0 (ze2 (ln a0) 3))[i]=true:=zN (hs.2 _ (z6Q (jC hi)));simp only[hx,cT]
 .simp only [zbe,cF]
 refine (zYH zid zRo _ 0 [] (by simp only[uE];omega)).trans ?_
 rw[e1];rfl
theorem zNB:u4 18 zCu:=kF1 zEG zi zbj zbw zV7 zU6
def z5g:zV:=[(39,zCR),(18,zCu)]++z5f
theorem zEH:zJ z5g:=zf zNY (zf zNB zEG)
def zuU:Nat->Nat->Kept->Kept
 | 0,_,k=>k
 | n+1,i,k=>zuU n (i+1) (zc3 k (i:Int))
def zjP (k:Kept):Kept:=zuU k.Known.length 0 k
theorem z3h (k:Kept)(p:Int):(zc3 k p).Known.length=k.Known.length:=by
 unfold zc3;cases zeh k p
 .rfl
 .exact ze0 _ _ _
theorem zsq:∀(n i:Nat) (k:Kept),SmK k->SmK (zuU n i k)
 | 0,_,_,h=>h
 | n+1,i,k,h=>zsq n (i+1) _ (zmM h)
@[simp] abbrev ztQ (k:Kept):Bool:=pc (SmK k)
@[simp] abbrev zyD (k:Kept):Kept:=zjP k
@[simp] abbrev zto (k:Kept):Bool:=pc (SmK k)
@[simp] abbrev zym (k:Kept):Kept:=zjP k
theorem zJa {α ρ:Type}(K:List Bool×List Slot->Option ρ):∀(l:List α) (i:Nat) (k:Kept),SmK k ->
 goL (fun (i:Nat) _ (t:List Bool×List Slot) κ=>bif zgJ ⟨t.1,t.2⟩ (i:Int) then κ ((zfK ⟨t.1,t.2⟩ (i:Int)).Known,(zfK ⟨t.1,t.2⟩ (i:Int)).Slots) else none) K l i (k.Known,k.Slots)=K ((zuU l.length i k).Known,(zuU l.length i k).Slots)
 | [],_,_,_=>rfl
 | x :: l,i,k,h=>by
  have hc:zgJ ⟨k.Known,k.Slots⟩ (i:Int)=true:=zN h;simp only[goL,hc,cT];exact zJa K l (i+1) (zc3 k (i:Int)) (zmM h)
def zxk:Run:=rF1 (dT .kept) fun b=>(zto b,[aT .kept (zym b)])
def zBX (N:Nat)(a0:Kept):OA:=
 (oN (zfd a0) (iter (σ:=(Int×(Int×(lB×(lS×(lB×(lS×Unit))))))) N (fun r2 s3=>let y0:=(⟨s3.2.2.2.2.1,s3.2.2.2.2.2.1⟩:Kept); (cond (ilt s3.2.1 s3.1) (oN (zgJ y0 s3.2.1) (r2 (s3.1,((zD .i64 s3.2.1 1),(s3.2.2.1,(s3.2.2.2.1,((zfK y0 s3.2.1).Known,((zfK y0 s3.2.1).Slots,())))))))) (some [(aT .kept y0)]))) ((ln a0.Known),(0,([],([],((zci a0).Known,((zci a0).Slots,()))))))))
def zPR:FuncId->Nat->Option Tmpl:=zk [(101,0,{ n:=18,tm:=[(2,.lp 0 0),(3,.lp 1 0),(9,ti),(10,ti)],lo:=[(0,[.sl 0 [],.sl 1 []]),(1,[.sl 2 [],.sl 3 []])],ro:=[(0,.bool,true),(1,.slot,true),(2,.bool,true),(3,.slot,true)] })]
theorem zOE (a0:Kept)(hc:zto a0=true):∃N,zBX N a0=some [aT .kept (zym a0)]:=by
 have hs:=zy.1 hc;have hl:=zb4 hs.1;refine zbV fun N hNN=>?_;unfold zBX oN
 conv=>zeta
 refine must (zN hs) ?_;refine (zbb a0.Known (fun i (t:lB×lS)=>((ln a0.Known),(i:Int),[],[],t.1,t.2,())) _ (fun i (x:Bool) (t:List Bool×List Slot) κ=>bif zgJ ⟨t.1,t.2⟩ (i:Int) then κ ((zfK ⟨t.1,t.2⟩ (i:Int)).Known,(zfK ⟨t.1,t.2⟩ (i:Int)).Slots) else none) (fun (t:lB×lS)=>(some [(.agg (Ty.cells .kept (⟨t.1,t.2⟩:Kept)))])) (fun i hi t rec=>?_) (fun t rec=>?_) _ ((zci a0).Known,(zci a0).Slots) (hNN hl.1)).trans ?_
 .simp only [zbi hi,zQ hi,zbc hi,zU hi hl.1,cT]
 .simp only [zbe,cF]
 exact zJa _ a0.Known 0 a0 hs
theorem zHh:u4 101 zxk:=kF1 zEH zi zbj zbw zPR zOE
def zxB:Run:=rF1 (dT .kept) fun b=>(ztQ b,[aT .kept (zyD b)])
def zCf (N:Nat)(a0:Kept):OA:=
 (oN (zf5 a0) (iter (σ:=(Int×(lB×(lS×(lB×(lS×Unit)))))) N (fun r2 s3=>let y0:=(⟨s3.2.1,s3.2.2.1⟩:Kept); (cond (ilt s3.1 (ln s3.2.1)) (oN (zmx y0 s3.1) (r2 ((zD .i64 s3.1 1),((zlE y0 s3.1).Known,((zlE y0 s3.1).Slots,(s3.2.2.2.1,(s3.2.2.2.2.1,()))))))) (some [(aT .kept y0)]))) (0,((zdi a0).Known,((zdi a0).Slots,([],([],())))))))
def zP0:FuncId->Nat->Option Tmpl:=zk [(257,0,{ n:=17,tm:=[(1,.lp 0 0),(2,.lp 1 0),(3,ti)],lo:=[(0,[.sl 0 [],.sl 1 []]),(1,[.sl 2 [],.sl 3 []])],ro:=[(0,.bool,true),(1,.slot,true),(2,.bool,true),(3,.slot,true)] })]
theorem zOX (a0:Kept)(hc:ztQ a0=true):∃N,zCf N a0=some [aT .kept (zyD a0)]:=by
 have hs:=zy.1 hc;have hl:=zb4 hs.1;refine zbV fun N hNN=>?_;unfold zCf oN
 conv=>zeta
 refine must (zbf ((zzk _).2 hs)) ?_;refine (zqO a0.Known.length (fun i (k:Kept)=>((i:Int),(k.Known,(k.Slots,([],([],())))))) _ (fun i k=>SmK k/\k.Known.length=a0.Known.length) (fun i k=>some [AV.agg (Ty.cells .kept (zuU (a0.Known.length-i) i k))]) (fun i k rec hi hI hr=>?_) (fun k rec hI=>?_) N 0 a0 ⟨hs,rfl⟩ (jU _) (hNN hl.1)).trans rfl
 .refine must (zbi (by rw[hI.2];exact hi)) (must (zN hI.1) ?_)
  have q:=hr (zc3 k (i:Int)) ⟨zmM hI.1,by rw[z3h];exact hI.2⟩
  rw[show a0.Known.length-i=a0.Known.length-(i+1)+1 by omega]
  rw[zU hi hl.1];exact q
 .refine zbN (by show ilt (a0.Known.length:Int) (ln k.Known)=false;rw[ln,hI.2];exact qH (by omega)) ?_
  rw[kN];rfl
theorem zHy:u4 257 zxB:=kF1 zEH zi zbj zbw zP0 zOX
def z5h:zV:=[(257,zxB),(101,zxk)]++z5g
theorem zTE:zJ z5h:=zf zHy (zf zHh zEH)
def z2J:Nat->Nat->List Kept->List Kept
 | 0,_,l=>l
 | n+1,j,l=>z2J n (j+1) (up l (j:Int) (zjP (ix l (j:Int) kZ)))
def zGI (x:Mon)(n j:Nat):Mon:={ x with Tables:=z2J n j x.Tables }
def zEw:Nat->Nat->List Mon->List Mon
 | 0,_,t=>t
 | n+1,i,t=>zEw n (i+1) (up t (i:Int) (zGI (ix t (i:Int) mZ) (ix t (i:Int) mZ).Tables.length 0))
def cold (h:Host):Host:=⟨h.Memory,zEw h.Mons.length 0 h.Mons,[],[]⟩
theorem zPD:∀(n j:Nat) (l:List Kept),j+n<=l.length->zEr l->zEr (z2J n j l)
 | 0,_,_,_,h=>h
 | n+1,j,l,hn,h=>by
  have hj:j<l.length:=by omega
  refine zPD n (j+1) _ (by rw[ze0];omega) (zu8 h (zsq _ _ _ ?_))
  rw[zbc hj];exact h.2 _ (jC hj)
theorem zBL {x:Mon}(h:zes x){n j:Nat}(hn:j+n<=x.Tables.length):zes (zGI x n j):=⟨h.1,h.2.1,h.2.2.1,h.2.2.2.1,h.2.2.2.2.1,zPD n j _ hn h.2.2.2.2.2⟩
@[simp] abbrev zLQ (h:Host):Bool:=pc (zbA h)
@[simp] abbrev zZd (h:Host):Host:=cold h
def zPp:Run:=rF1 dH fun b=>(zLQ b,[aH (zZd b)])
def zWH (N:Nat)(a0:Host):OA:=
 (oN (zbI a0) (iter (σ:=(Int×(lM×(lN×(lE×(lE×(lM×(lN×(lE×(lE×Unit)))))))))) N (fun r2 s3=>(cond (ilt s3.1 (ln s3.2.2.1)) (iter (σ:=(Int×(Int×(lM×(lN×(lE×(lE×(lM×(lN×(lE×(lE×Unit))))))))))) N (fun r4 s5=>let y1:=(inb s5.1 (ln s5.2.2.2.1));let y0:=(ix s5.2.2.2.1 s5.1 zh);let y2:=(ix y0.Tables s5.2.1 zcU); (oN y1 (cond (ilt s5.2.1 (ln y0.Tables)) (oN y1 (oN y1 (oN (inb s5.2.1 (ln y0.Tables)) (oN (ztQ y2) (oN (inb s5.2.1 (ln y0.Tables)) (share (up s5.2.2.2.1 s5.1 ({ y0 with Tables:=(up y0.Tables s5.2.1 (zyD y2)) }:Mon)) (fun x6=>(r4 (s5.1,((zD .i64 s5.2.1 1),(s5.2.2.1,(x6,(s5.2.2.2.2.1,(s5.2.2.2.2.2.1,(s5.2.2.2.2.2.2.1,(s5.2.2.2.2.2.2.2.1,(s5.2.2.2.2.2.2.2.2.1,(s5.2.2.2.2.2.2.2.2.2.1,())))))))))))))))))) (r2 ((zD .i64 s5.1 1),(s5.2.2.1,(s5.2.2.2.1,(s5.2.2.2.2.1,(s5.2.2.2.2.2.1,(s5.2.2.2.2.2.2.1,(s5.2.2.2.2.2.2.2.1,(s5.2.2.2.2.2.2.2.2.1,(s5.2.2.2.2.2.2.2.2.2.1,()))))))))))))) (s3.1,(0,(s3.2.1,(s3.2.2.1,(s3.2.2.2.1,(s3.2.2.2.2.1,(s3.2.2.2.2.2.1,(s3.2.2.2.2.2.2.1,(s3.2.2.2.2.2.2.2.1,(s3.2.2.2.2.2.2.2.2.1,()))))))))))) (some [(aH (⟨s3.2.1,s3.2.2.1,[],[]⟩:Host))]))) (0,((zu a0).Memory,((zu a0).Mons,((zu a0).Buffer,((zu a0).IoBuffer,([],([],([],([],())))))))))))
def z4C:FuncId->Nat->Option Tmpl:=zk [(198,0,{ n:=48,tm:=[(1,.lp 0 0),(2,.lp 1 0),(3,ti)],lo:=[(0,[.sl 0 [],.sl 1 [],.sl 2 [],.sl 3 []]),(1,[.sl 4 [],.sl 5 [],.sl 6 [],.sl 7 []])],ro:=[(0,(.sl .int),true),(1,.mon,true),(2,.entry,true),(3,.entry,true),(4,(.sl .int),true),(5,.mon,true),(6,.entry,true),(7,.entry,true)] }),(198,2,{ n:=48,tm:=[(1,.lp 0 0),(2,.lp 1 0),(3,ti),(4,ti)],lo:=[(0,[.sl 0 [],.sl 1 [],.sl 2 [],.sl 3 []]),(1,[.sl 4 [],.sl 5 [],.sl 6 [],.sl 7 []])],ro:=[(0,(.sl .int),true),(1,.mon,true),(2,.entry,true),(3,.entry,true),(4,(.sl .int),true),(5,.mon,true),(6,.entry,true),(7,.entry,true)] })]
theorem z3y (a0:Host)(hc:zLQ a0=true):∃N,zWH N a0=some [aH (zZd a0)]:=by
 have hs:=(zF a0).1 (zy.1 hc);have hl:=zb4 hs.2.1.1;refine zbV fun N hNN=>?_;unfold zWH oN
 conv=>zeta
 refine must hc ?_;refine (zqO a0.Mons.length (fun i (t:List Mon)=>((i:Int),(a0.Memory,(t,(a0.Buffer,(a0.IoBuffer,([],([],([],([],())))))))))) _ (fun i t=>zoW t/\t.length=a0.Mons.length) (fun i t=>some [AV.agg (zS ⟨a0.Memory,zEw (a0.Mons.length-i) i t,[],[]⟩)]) (fun i t rec hi hI hr=>?_) (fun t rec hI=>?_) N 0 a0.Mons ⟨hs.2.1,rfl⟩ (jU _) (hNN hl.1)).trans rfl
 .have hit:i<t.length:=by rw[hI.2];exact hi
  have hx:zes (ix t (i:Int) mZ):=by rw[zbc hit];exact hI.1.2 _ (jC hit)
  have hk:=zb4 hx.2.2.2.2.2.1;refine must (zbi hit) ?_;refine (zqO (ix t (i:Int) mZ).Tables.length (fun j (u:List Mon)=>((i:Int),((j:Int),(a0.Memory,(u,(a0.Buffer,(a0.IoBuffer,([],([],([],([],())))))))))))
   _ (fun j u=>u.length=t.length/\zes (ix u (i:Int) mZ)/\(ix u (i:Int) mZ).Tables.length=(ix t (i:Int) mZ).Tables.length)
   (fun j u=>rec (((i+1:Nat):Int),(a0.Memory,(up u (i:Int) (zGI (ix u (i:Int) mZ) ((ix t (i:Int) mZ).Tables.length-j) j),(a0.Buffer,(a0.IoBuffer,([],([],([],([],()))))))))))
   (fun j u rec1 hj hJ hr1=>?_) (fun u rec1 hJ=>?_) N 0 t ⟨rfl,hx,rfl⟩ (jU _) (hNN hk.1)).trans ?_
  .have hiu:i<u.length:=by rw[hJ.1];exact hit
   have hju:j<(ix u (i:Int) mZ).Tables.length:=by rw[hJ.2.2];exact hj
   have hkj:SmK (ix (ix u (i:Int) mZ).Tables (j:Int) kZ):=by rw[zbc hju];exact hJ.2.1.2.2.2.2.2.2 _ (jC hju)
   refine must (zQ hiu) (must (zbi hju) (must (zQ hiu) (must (zQ hiu) (must (zQ hju) (must (zN hkj) (must (zQ hju) (shr ?_)))))));have hn:zes { ix u (i:Int) mZ with Tables:=up (ix u (i:Int) mZ).Tables (j:Int) (zjP (ix (ix u (i:Int) mZ).Tables (j:Int) kZ)) } :=
    ⟨hJ.2.1.1,hJ.2.1.2.1,hJ.2.1.2.2.1,hJ.2.1.2.2.2.1,hJ.2.1.2.2.2.2.1,zu8 hJ.2.1.2.2.2.2.2 (zsq _ _ _ hkj)⟩
   have q:=hr1 (up u (i:Int) { ix u (i:Int) mZ with Tables:=up (ix u (i:Int) mZ).Tables (j:Int) (zjP (ix (ix u (i:Int) mZ).Tables (j:Int) kZ)) }) ⟨by rw[ze0];exact hJ.1,by rw[zcX hiu];exact hn,by rw[zcX hiu];simp only[ze0];exact hJ.2.2⟩
   rw[zU hj hk.1];refine q.trans ?_;rw[zcX hiu,zqr,show (ix t (i:Int) mZ).Tables.length-j=(ix t (i:Int) mZ).Tables.length-(j+1)+1 by omega]
   rfl
  .have hiu:i<u.length:=by rw[hJ.1];exact hit
   refine must (zQ hiu) (zbN (by show ilt ((ix t (i:Int) mZ).Tables.length:Int) (ln (ix u (i:Int) mZ).Tables)=false;rw[ln,hJ.2.2];exact qH (by omega)) ?_)
   rw[zU hi hl.1,kN]
   show rec (_,(a0.Memory,(u,_)))=rec (_,(a0.Memory,(up u (i:Int) (ix u (i:Int) mZ),_)))
   rw[zHa hiu]
  .have q:=hr (up t (i:Int) (zGI (ix t (i:Int) mZ) (ix t (i:Int) mZ).Tables.length 0)) ⟨zis hI.1 (zBL hx (by omega)),by rw[ze0];exact hI.2⟩
   refine q.trans ?_;rw[show a0.Mons.length-i=a0.Mons.length-(i+1)+1 by omega]
   rfl
 .refine zbN (by show ilt (a0.Mons.length:Int) (ln t)=false;rw[ln,hI.2];exact qH (by omega)) ?_
  rw[kN];rfl
theorem zXn:u4 198 zPp:=kF1 zTE zi zbj zbw z4C z3y
def z5i:zV:=[(198,zPp)]++z5h
theorem zTF:zJ z5i:=zf zXn zTE
@[simp] abbrev zLd (h:Host):Bool:=pc (zbA h)
@[simp] abbrev zOr (h:Host):Host:=cold h
def zPm:Run:=rF1 dH fun b=>(zLd b,[aH (zOr b)])
def zWD (N:Nat)(a0:Host):OA:=
 (oN (zba a0) (iter (σ:=(Int×(Int×(lM×(lN×(lE×(lE×(lM×(lN×(lE×(lE×Unit))))))))))) N (fun r2 s3=>let y4:=s3.2.2.2.2.2.2.2.1; (cond (ilt s3.2.1 s3.1) (oN (inb s3.2.1 (ln y4)) (iter (σ:=(Int×(Int×(Int×(Int×(Int×(Int×(lN×(lM×(lN×(lE×(lE×(lM×(lE×(lE×Unit))))))))))))))) N (fun r4 s5=>let y6:=s5.2.2.2.2.2.2.2.2.2.2.2.2.1;let y5:=s5.2.2.2.2.2.2.2.2.2.2.2.2.2.1;let y1:=s5.2.2.2.2.2.1;let y0:=s5.2.2.2.2.2.2.1;let y3:=(ix y0 s5.1 zh);let y2:=(ix y0 s5.2.2.2.1 zh).Tables; (cond (ilt y1 s5.2.2.2.2.1) (oN (inb y1 (ln y2)) (oN (inb s5.1 (ln y0)) (oN (zto (ix y2 y1 zcU)) (oN (inb y1 (ln y3.Tables)) (share (up y0 s5.1 ({ y3 with Tables:=(up y3.Tables y1 (zym (ix y2 y1 zcU))) }:Mon)) (fun x6=>(r4 (s5.1,(s5.2.1,(s5.2.2.1,(s5.2.2.2.1,(s5.2.2.2.2.1,((zD .i64 y1 1),(x6,(s5.2.2.2.2.2.2.2.1,(s5.2.2.2.2.2.2.2.2.1,(s5.2.2.2.2.2.2.2.2.2.1,(s5.2.2.2.2.2.2.2.2.2.2.1,(s5.2.2.2.2.2.2.2.2.2.2.2.1,(y6,(y5,()))))))))))))))))))))) (r2 (s5.2.1,((zD .i64 s5.2.2.1 1),(s5.2.2.2.2.2.2.2.1,(s5.2.2.2.2.2.2.2.2.1,(s5.2.2.2.2.2.2.2.2.2.1,(s5.2.2.2.2.2.2.2.2.2.2.1,(s5.2.2.2.2.2.2.2.2.2.2.2.1,(y0,(y6,(y5,()))))))))))))) (s3.2.1,(s3.1,(s3.2.1,(s3.2.1,((ln (ix y4 s3.2.1 zh).Tables),(0,(y4,(s3.2.2.1,(s3.2.2.2.1,(s3.2.2.2.2.1,(s3.2.2.2.2.2.1,(s3.2.2.2.2.2.2.1,(s3.2.2.2.2.2.2.2.2.1,(s3.2.2.2.2.2.2.2.2.2.1,())))))))))))))))) (share [] (fun x4=>(share [] (fun x5=>(some [(aH (⟨s3.2.2.2.2.2.2.1,y4,x4,x5⟩:Host))]))))))) ((ln (zI a0).Mons),(0,([],([],([],([],((zI a0).Memory,((zI a0).Mons,((zI a0).Buffer,((zI a0).IoBuffer,()))))))))))))
def z4B:FuncId->Nat->Option Tmpl:=zk [(37,0,{ n:=42,tm:=[(2,.lp 0 0),(3,.lp 1 0),(11,ti),(12,ti)],lo:=[(0,[.sl 0 [],.sl 1 [],.sl 2 [],.sl 3 []]),(1,[.sl 4 [],.sl 5 [],.sl 6 [],.sl 7 []])],ro:=[(0,(.sl .int),true),(1,.mon,true),(2,.entry,true),(3,.entry,true),(4,(.sl .int),true),(5,.mon,true),(6,.entry,true),(7,.entry,true)] }),(37,2,{ n:=42,tm:=[(2,.lp 0 0),(3,.lp 1 0),(4,ti),(11,ti),(12,ti),(20,.sl 0 [7]),(21,ti),(22,ti)],lo:=[(0,[.sl 1 [],.sl 2 [],.sl 3 [],.sl 4 []]),(1,[.sl 5 [],.sl 0 [],.sl 6 [],.sl 7 []])],ro:=[(0,.mon,true),(1,(.sl .int),true),(2,.mon,true),(3,.entry,true),(4,.entry,true),(5,(.sl .int),true),(6,.entry,true),(7,.entry,true)] })]
theorem z3t (a0:Host)(hc:zLd a0=true):∃N,zWD N a0=some [aH (zOr a0)]:=by
 have hs:=(zF a0).1 (zy.1 hc);have hl:=zb4 hs.2.1.1;refine zbV fun N hNN=>?_;unfold zWD oN
 conv=>zeta
 refine must hc ?_;refine (zqO a0.Mons.length (fun i (t:List Mon)=>(ln a0.Mons,((i:Int),([],([],([],([],(a0.Memory,(t,(a0.Buffer,(a0.IoBuffer,()))))))))))) _ (fun i t=>zoW t/\t.length=a0.Mons.length) (fun i t=>some [AV.agg (zS ⟨a0.Memory,zEw (a0.Mons.length-i) i t,[],[]⟩)]) (fun i t rec hi hI hr=>?_) (fun t rec hI=>?_) N 0 a0.Mons ⟨hs.2.1,rfl⟩ (jU _) (hNN hl.1)).trans rfl
 .have hit:i<t.length:=by rw[hI.2];exact hi
  have hx:zes (ix t (i:Int) mZ):=by rw[zbc hit];exact hI.1.2 _ (jC hit)
  have hk:=zb4 hx.2.2.2.2.2.1;refine must (zbi hi) (must (zQ hit) ?_);refine (zqO (ix t (i:Int) mZ).Tables.length (fun j (u:List Mon)=>((i:Int),(ln a0.Mons,((i:Int),((i:Int),(ln (ix t (i:Int) mZ).Tables,((j:Int),(u,([],([],([],([],(a0.Memory,(a0.Buffer,(a0.IoBuffer,())))))))))))))))
   _ (fun j u=>u.length=t.length/\zes (ix u (i:Int) mZ)/\(ix u (i:Int) mZ).Tables.length=(ix t (i:Int) mZ).Tables.length)
   (fun j u=>rec (ln a0.Mons,(((i+1:Nat):Int),([],([],([],([],(a0.Memory,(up u (i:Int) (zGI (ix u (i:Int) mZ) ((ix t (i:Int) mZ).Tables.length-j) j),(a0.Buffer,(a0.IoBuffer,())))))))))))
   (fun j u rec1 hj hJ hr1=>?_) (fun u rec1 hJ=>?_) N 0 t ⟨rfl,hx,rfl⟩ (jU _) (hNN hk.1)).trans ?_
  .have hiu:i<u.length:=by rw[hJ.1];exact hit
   have hju:j<(ix u (i:Int) mZ).Tables.length:=by rw[hJ.2.2];exact hj
   have hkj:SmK (ix (ix u (i:Int) mZ).Tables (j:Int) kZ):=by rw[zbc hju];exact hJ.2.1.2.2.2.2.2.2 _ (jC hju)
   refine must (zbi hj) (must (zQ hju) (must (zQ hiu) (must (zN hkj) (must (zQ hju) (shr ?_)))));have hn:zes { ix u (i:Int) mZ with Tables:=up (ix u (i:Int) mZ).Tables (j:Int) (zjP (ix (ix u (i:Int) mZ).Tables (j:Int) kZ)) } :=
    ⟨hJ.2.1.1,hJ.2.1.2.1,hJ.2.1.2.2.1,hJ.2.1.2.2.2.1,hJ.2.1.2.2.2.2.1,zu8 hJ.2.1.2.2.2.2.2 (zsq _ _ _ hkj)⟩
   have q:=hr1 (up u (i:Int) { ix u (i:Int) mZ with Tables:=up (ix u (i:Int) mZ).Tables (j:Int) (zjP (ix (ix u (i:Int) mZ).Tables (j:Int) kZ)) }) ⟨by rw[ze0];exact hJ.1,by rw[zcX hiu];exact hn,by rw[zcX hiu];simp only[ze0];exact hJ.2.2⟩
   rw[zU hj hk.1];refine q.trans ?_;rw[zcX hiu,zqr,show (ix t (i:Int) mZ).Tables.length-j=(ix t (i:Int) mZ).Tables.length-(j+1)+1 by omega]
   rfl
  .have hiu:i<u.length:=by rw[hJ.1];exact hit
   refine zbN (by show ilt ((ix t (i:Int) mZ).Tables.length:Int) (ln (ix t (i:Int) mZ).Tables)=false;exact qH (by simp only[ln];omega)) ?_
   rw[zU hi hl.1,kN]
   show rec _=rec (ln a0.Mons,(_,([],([],([],([],(a0.Memory,(up u (i:Int) (ix u (i:Int) mZ),_))))))))
   rw[zHa hiu]
  .have q:=hr (up t (i:Int) (zGI (ix t (i:Int) mZ) (ix t (i:Int) mZ).Tables.length 0)) ⟨zis hI.1 (zBL hx (by omega)),by rw[ze0];exact hI.2⟩
   refine q.trans ?_;rw[show a0.Mons.length-i=a0.Mons.length-(i+1)+1 by omega]
   rfl
 .refine zbN (by show ilt (a0.Mons.length:Int) (ln a0.Mons)=false;exact qH (by simp only[ln];omega)) ?_
  rw[kN];rfl
theorem zXi:u4 37 zPm:=kF1 zTF zi zbj zbw z4B z3t
def z5j:zV:=[(37,zPm)]++z5i
theorem zTG:zJ z5j:=zf zXi zTF
theorem zDj:∀(n i:Nat) (t:List Mon),i+n<=t.length->zoW t->zoW (zEw n i t)
 | 0,_,_,_,h=>h
 | n+1,i,t,hn,h=>by
  have hi:i<t.length:=by omega
  refine zDj n (i+1) _ (by rw[ze0];omega) (zis h (zBL ?_ (by omega)))
  rw[zbc hi];exact h.2 _ (jC hi)
theorem z8t {h:Host}(hs:SmH h):SmH (cold h):=⟨hs.1,zDj _ _ _ (by omega) hs.2.1,by simp[cold],by simp[cold]⟩
theorem zoo {h:Host}{m:Int}{b:Bare}(hs:SmH h)(hb:zbT h m=true->SmB b):SmH (zcK h m b):=by
 unfold zcK;cases h0:zbT h m
 .exact hs
 .exact zBJ hs (zbd.1 h0).2 (hb h0).2.1
theorem z6H {h:Host}{m g p:Int}(hs:SmH h):SmH (zjA h m g p):=by
 unfold zjA;cases h0:zbT h m
 .exact hs
 .cases hk:zbM (zC h m) g (hasB p 4)
  .exact hs
  .have hm:=(zbd.1 h0).2;have hv:=zdG hs hm;have hb:SmB (chg (zC h m) g (hasB p 4) (zh3 (gAt (zC h m) g) p)):=zoM hv (zuO _ (zeZ _ hv));have h1:=zBJ hs hm hb.2.1;have h2:=zJ4 (chg (zC h m) g (hasB p 4) (zh3 (gAt (zC h m) g) p)) hm;have h3:=zEN hs h0 (chg (zC h m) g (hasB p 4) (zh3 (gAt (zC h m) g) p)) hk;have hx:=h1.2.1.2 _ (zbt h2 mZ);simp only[cT];exact ⟨h1.1,zis h1.2.1 ⟨hx.1,hx.2.1,hx.2.2.1,hx.2.2.2.1,hx.2.2.2.2.1,zu8 hx.2.2.2.2.2 (zmM (hx.2.2.2.2.2.2 _ (zbt h3 _)))⟩,jA (zAS _ _ _) h1.2.2.1,jA (zAS _ _ _) h1.2.2.2⟩
theorem z8u {h:Host}{m p c v:Int}(hs:SmH h):SmH (zlh h m p c v):=by
 unfold zlh;cases hf:zdD h m p c v
 .exact hs
 .have h0:zbL h m p=true:=by
   unfold zdD at hf;cases hp:zbL h m p
   .rw [hp]at hf;cases hf
   .rfl
  obtain ⟨hh,hm,hp⟩:=zg2.1 h0;have h1:=(zwu (n:=2) (zea hs hh) hm hp).1.1;exact ⟨zww h1.1,h1.2⟩
theorem zYD {h:Host}{m g page need:Int}(b:List Entry)(io:Bool)(hs:SmH h)(hl:zbX h m g page need=true):SmH (lookOf h b m g page need io).1:=by
 have hg:zb5 h m g=true:=by
  unfold zbX at hl;cases h1:zb5 h m g
  .rw [h1]at hl;cases hl
  .rfl
 exact (zuZ hs hg).shape.1
theorem zbbp {h:Host}{m g a v:Int}(hs:SmH h):SmH (zow h m g a v):=by
 unfold zow;cases hf:zh4 h m g a v
 .exact hs
 .have hl:zbX h m g (zb0 a) 2=true:=by
   unfold zh4 at hf;cases h1:win a 0 15
   .rw [h1]at hf;cases hf
   .cases h2:win v 0 99
    .rw [h1,h2]at hf;cases hf
    .rw [h1,h2]at hf;exact hf
  have h1:=zYD h.IoBuffer true hs hl;exact ⟨zww h1.1,h1.2⟩
theorem z8v {h:Host}{m g a:Int}(hs:SmH h):SmH (zli h m g a):=by
 unfold zli;cases hf:zfX h m g a
 .exact hs
 .have hl:zbX h m g (zb0 a) 1=true:=by
   unfold zfX at hf;cases h1:win a 0 15
   .rw [h1]at hf;cases hf
   .rw [h1]at hf;exact hf
  exact zYD h.IoBuffer true hs hl
theorem zbbq {h:Host}{m p:Int}(hs:SmH h):SmH (zoF h m p):=by
 unfold zoF;cases h0:zbL h m p
 .exact hs
 .obtain ⟨hh,hm,hp⟩:=zg2.1 h0;cases ziY h m p
  .exact (zPA (zea hs hh).1 hm).1
  .exact hs
theorem zbcn {h:Host}{m p:Int}(hs:SmH h):SmH (zsV h m p):=by
 unfold zsV;cases h0:zbL h m p
 .exact hs
 .obtain ⟨hh,hm,hp⟩:=zg2.1 h0;cases ziY h m p
  .exact hs
  .exact (zkr (zea hs hh) hm hp).1.1
theorem z6L {h:Host}{m t:Int}(hs:SmH h):SmH (zlU h m t):=by
 unfold zlU;cases zbE h
 .exact hs
 .cases hm:hasB m (ln h.Mons)
  .exact hs
  .cases win t 0 3
   .exact hs
   .have hx:zes (ix h.Mons m mZ):=hs.2.1.2 _ (zbt hm mZ);exact ⟨hs.1,zis hs.2.1 ⟨hx.1,hx.2.1,hx.2.2.1,hx.2.2.2.1,hx.2.2.2.2.1,hx.2.2.2.2.2⟩,hs.2.2⟩
def zgi (h:Host)(a:GAct):Host:=bif ieq a.Kind 1 then (zbq h a.M a.G).1 else (cond (ieq a.Kind 2) (z0X h a.M a.G a.X ⟨a.Y,a.Z⟩) (cond (ieq a.Kind 3) (zjA h a.M a.G a.X) (cond (ieq a.Kind 4) (zSp h a.M a.G a.X) (cond (ieq a.Kind 5) (zSt h a.M a.G) (cond (ieq a.Kind 6) (zSr h a.M a.G a.X) (cond (ieq a.Kind 7) (z0V h a.M a.G ⟨a.X,a.Y,ieq a.Z 1⟩) (cond (ieq a.Kind 8) (zlh h a.M a.X a.Y a.Z) (cond (ieq a.Kind 9) (zYE h a.M a.X) (cond (ieq a.Kind 10) (z0S h a.M) (cond (ieq a.Kind 11) (zow h a.M a.G a.X a.Y) (zli h a.M a.G a.X)))))))))))
def zhy (h:Host)(a:GAct):Told:=bif ieq a.Kind 1 then ⟨(zbq h a.M a.G).2,0⟩ else (cond (ieq a.Kind 2) ⟨z0Y h a.M a.G a.X ⟨a.Y,a.Z⟩,0⟩ (cond (ieq a.Kind 3) ⟨zV2 h a.M a.G a.X,0⟩ (cond (ieq a.Kind 4) ⟨zSq h a.M a.G a.X,0⟩ (cond (ieq a.Kind 5) ⟨zSu h a.M a.G,0⟩ (cond (ieq a.Kind 6) ⟨zSs h a.M a.G a.X,0⟩ (cond (ieq a.Kind 7) ⟨z0W h a.M a.G ⟨a.X,a.Y,ieq a.Z 1⟩,0⟩ (cond (ieq a.Kind 8) ⟨zdD h a.M a.X a.Y a.Z,0⟩ (cond (ieq a.Kind 9) ⟨zYF h a.M a.X,0⟩ (cond (ieq a.Kind 10) ⟨z0U h a.M,z0T h a.M⟩ (cond (ieq a.Kind 11) ⟨zh4 h a.M a.G a.X a.Y,0⟩ (⟨zfX h a.M a.G a.X,zox h a.M a.G a.X⟩)))))))))))
def zlA (h:Host)(a:GAct):Host:=bif ieq a.Kind 13 then zoF h a.M a.X else (cond (ieq a.Kind 14) (zsV h a.M a.X) (cond (ieq a.Kind 15) (zsD h a.M a.X) (cond (ieq a.Kind 16) (zlU h a.M a.X) (cold h))))
def zpG (h:Host)(a:GAct):Told:=bif ieq a.Kind 13 then ⟨zoG h a.M a.X,0⟩ else (cond (ieq a.Kind 14) ⟨zqR h a.M a.X,0⟩ (cond (ieq a.Kind 15) ⟨zbL h a.M a.X,0⟩ (cond (ieq a.Kind 16) ⟨zmL h a.M a.X,0⟩ (⟨true,0⟩))))
def zbB (h:Host)(a:GAct):Host:=bif win a.Kind 1 17 then (cond (win a.Kind 13 17) (zlA h a) (zgi h a)) else h
def zbP (h:Host)(a:GAct):Told:=bif win a.Kind 1 17 then (cond (win a.Kind 13 17) (zpG h a) (zhy h a)) else ⟨false,0⟩
theorem z6K {h:Host}{a:GAct}(hs:SmH h):SmH (zlA h a):=by
 unfold zlA;cases ieq a.Kind 13
 .cases ieq a.Kind 14
  .cases ieq a.Kind 15
   .cases ieq a.Kind 16
    .exact z8t hs
    .exact z6L hs
   .exact z6I hs
  .exact zbcn hs
 .exact zbbq hs
theorem z6J {h:Host}{a:GAct}(hs:SmH h):SmH (zgi h a):=by
 have hv:zbT h a.M=true->SmB (zC h a.M):=fun h0=>zdG hs (zbd.1 h0).2;unfold zgi;cases ieq a.Kind 1
 .cases ieq a.Kind 2
  .cases ieq a.Kind 3
   .cases ieq a.Kind 4
    .cases ieq a.Kind 5
     .cases ieq a.Kind 6
      .cases ieq a.Kind 7
       .cases ieq a.Kind 8
        .cases ieq a.Kind 9
         .cases ieq a.Kind 10
          .cases ieq a.Kind 11
           .exact z8v hs
           .exact zbbp hs
          .exact zoo hs (fun h0=>zSH (hv h0))
         .exact zoo hs (fun h0=>zLW _ (hv h0))
        .exact z8u hs
       .exact zoo hs (fun h0=>zSI _ _ (hv h0))
      .exact zoo hs (fun h0=>zBH _ _ (hv h0))
     .exact zoo hs (fun h0=>zBI _ (hv h0))
    .exact zoo hs (fun h0=>zBG _ _ (hv h0))
   .exact z6H hs
  .exact zoo hs (fun h0=>zSJ _ _ _ (hv h0))
 .exact (z6E a.M a.G hs).sm
theorem zG8 {h:Host}{a:GAct}(hs:SmH h):SmH (zbB h a):=by
 unfold zbB;cases win a.Kind 1 17
 .exact hs
 .cases win a.Kind 13 17
  .exact z6J hs
  .exact z6K hs
@[simp] abbrev zwt (h:Host)(a:GAct):Bool:=pc (zbA h)
@[simp] abbrev zlS (h:Host)(a:GAct):Host:=zlA h a
@[simp] abbrev zjw (h:Host)(a:GAct):Told:=zpG h a
def zAq:Run:=rF2 dH (dT .act) fun b c=>(zwt b c,[aH (zlS b c),aT .told (zjw b c)])
def zEq (N:Nat)(a0:Host)(a1:GAct):OA:=
 (cond (ieq a1.Kind 13) (oN (zyM a0 a1.M a1.X) (some [(aH (zse a0 a1.M a1.X)),(.agg [(.b (zsf a0 a1.M a1.X)),(.i .i64 0)])])) (cond (ieq a1.Kind 14) (oN (zBw a0 a1.M a1.X) (some [(aH (zuB a0 a1.M a1.X)),(.agg [(.b (zuC a0 a1.M a1.X)),(.i .i64 0)])])) (cond (ieq a1.Kind 15) (oN (zGp a0 a1.M a1.X) (some [(aH (zxF a0 a1.M a1.X)),(.agg [(.b (zxG a0 a1.M a1.X)),(.i .i64 0)])])) (cond (ieq a1.Kind 16) (oN (zwo a0 a1.M a1.X) (some [(aH (zqg a0 a1.M a1.X)),(.agg [(.b (zqh a0 a1.M a1.X)),(.i .i64 0)])])) (oN (zLQ a0) (some [(aH (zZd a0)),(.agg [(.b true),(.i .i64 0)])]))))))
theorem zSo (a0:Host)(a1:GAct)(hc:zwt a0 a1=true):∃N,zEq N a0 a1=some [aH (zlS a0 a1),aT .told (zjw a0 a1)]:=by
 have hs:=zy.1 hc;refine ⟨0,?_⟩;unfold zEq oN;refine br (fun _=>mu ?_) (fun _=>br (fun _=>mu ?_) (fun _=>br (fun _=>mu ?_) (fun _=>br (fun _=>mu ?_) (fun _=>mu ?_))))
 all_goals first|rfl|(simp only [*,zlS,zjw,zlA,zpG,cT,cF]<;>rfl)|simp_all[Ty.cells,zlS,zjw,zlA,zpG]
theorem zLc:u4 109 zAq:=kF2 zTG zi zbj zbw (zk []) zSo
def z5k:zV:=[(109,zAq),(106,zJx),(108,zCT),(117,zJy),(27,zJm)]++z5j
theorem zEI:zJ z5k:=zf zLc (zf zUC (zf zN0 (zf zUD (zf zUq zTG))))
@[simp] abbrev zr6 (h:Host)(a:GAct):Bool:=pc (zbA h)
@[simp] abbrev znv (h:Host)(a:GAct):Host:=zbB h a
@[simp] abbrev znw (h:Host)(a:GAct):Told:=zbP h a
def zCO:Run:=rF2 dH (dT .act) fun b c=>(zr6 b c,[aH (znv b c),aT .told (znw b c)])
def zIH (N:Nat)(a0:Host)(a1:GAct):OA:=
 let y0:=(⟨a1.Y,a1.Z⟩:Slot); (oN (zGm a1) (cond (nB (zAr a1)) (oN (zbI a0) (some [(aH (zu a0)),(.agg [(.b false),(.i .i64 0)])])) (oN (zyJ a1.Kind) (cond (zs4 a1.Kind) (oN (zwt a0 a1) (some [(aH (zlS a0 a1)),(.agg [(.b (zjw a0 a1).Ok),(.i .i64 (zjw a0 a1).N)])])) (cond (ieq a1.Kind 1) (oN (zeA a0 a1.M a1.G) (some [(aH (zGq a0 a1.M a1.G)),(.agg [(.b (zGr a0 a1.M a1.G)),(.i .i64 0)])])) (cond (ieq a1.Kind 2) (oN (zyI a0 a1.M a1.G a1.X y0) (some [(aH (zsb a0 a1.M a1.G a1.X y0)),(.agg [(.b (zsc a0 a1.M a1.G a1.X y0)),(.i .i64 0)])])) (cond (ieq a1.Kind 3) (oN (ztR a0 a1.M a1.G a1.X) (some [(aH (znV a0 a1.M a1.G a1.X)),(.agg [(.b (znW a0 a1.M a1.G a1.X)),(.i .i64 0)])])) (cond (ieq a1.Kind 4) (oN (zrf a0 a1.M a1.G a1.X) (some [(aH (zmz a0 a1.M a1.G a1.X)),(.agg [(.b (zmA a0 a1.M a1.G a1.X)),(.i .i64 0)])])) (cond (ieq a1.Kind 5) (oN (zrh a0 a1.M a1.G) (some [(aH (zmD a0 a1.M a1.G)),(.agg [(.b (zmE a0 a1.M a1.G)),(.i .i64 0)])])) (cond (ieq a1.Kind 6) (oN (zrg a0 a1.M a1.G a1.X) (some [(aH (zmB a0 a1.M a1.G a1.X)),(.agg [(.b (zmC a0 a1.M a1.G a1.X)),(.i .i64 0)])])) (cond (ieq a1.Kind 7) (oN (zGn a1) (oN (zyF a0 a1.M a1.G (zrd a1)) (some [(aH (zr7 a0 a1.M a1.G (zrd a1))),(.agg [(.b (zr8 a0 a1.M a1.G (zrd a1))),(.i .i64 0)])]))) (cond (ieq a1.Kind 8) (oN (zwj a0 a1.M a1.X a1.Y a1.Z) (some [(aH (zp5 a0 a1.M a1.X a1.Y a1.Z)),(.agg [(.b (zp6 a0 a1.M a1.X a1.Y a1.Z)),(.i .i64 0)])])) (cond (ieq a1.Kind 9) (oN (zwk a0 a1.M a1.X) (some [(aH (zp7 a0 a1.M a1.X)),(.agg [(.b (zp8 a0 a1.M a1.X)),(.i .i64 0)])])) (cond (ieq a1.Kind 10) (oN (zyE a0 a1.M) (some [(aH (zr3 a0 a1.M)),(.agg [(.b (zr5 a0 a1.M)),(.i .i64 (zr4 a0 a1.M))])])) (cond (ieq a1.Kind 11) (oN (zyG a0 a1.M a1.G a1.X a1.Y) (some [(aH (zr9 a0 a1.M a1.G a1.X a1.Y)),(.agg [(.b (zsa a0 a1.M a1.G a1.X a1.Y)),(.i .i64 0)])])) (oN (zwl a0 a1.M a1.G a1.X) (some [(aH (zp9 a0 a1.M a1.G a1.X)),(.agg [(.b (zqb a0 a1.M a1.G a1.X)),(.i .i64 (zqa a0 a1.M a1.G a1.X))])])))))))))))))))))
theorem zVv (a0:Host)(a1:GAct)(hc:zr6 a0 a1=true):∃N,zIH N a0 a1=some [aH (znv a0 a1),aT .told (znw a0 a1)]:=by
 have hs:=zy.1 hc;refine ⟨0,?_⟩;unfold zIH oN nB
 conv=>zeta
 refine must rfl (brN (fun _=>mu ?_) (fun _=>must rfl (br (fun _=>mu ?_) (fun _=>br (fun _=>mu ?_) (fun _=>br (fun _=>mu ?_) (fun _=>br (fun _=>mu ?_) (fun _=>br (fun _=>mu ?_) (fun _=>br (fun _=>mu ?_) (fun _=>br (fun _=>mu ?_) (fun _=>br (fun _=>must rfl (mu ?_)) (fun _=>br (fun _=>mu ?_) (fun _=>br (fun _=>mu ?_) (fun _=>br (fun _=>mu ?_) (fun _=>br (fun _=>mu ?_) (fun _=>mu ?_)))))))))))))))
 all_goals first|rfl|(simp only [*,znv,znw,zbB,zbP,zgi,zhy,cT,cF]<;>rfl)|simp_all[Ty.cells,znv,znw,zbB,zbP,zgi,zhy]
theorem zNV:u4 40 zCO:=kF2 zEI zi zbj zbw (zk []) zVv
theorem zbcz {h:Host}{a:GAct}(hk:ieq a.Kind 1=true):zbB h a=(zbq h a.M a.G).1/\zbP h a=⟨(zbq h a.M a.G).2,0⟩:=by
 have e:a.Kind=1:=qD hk;constructor
 .unfold zbB zgi;rw[e];rfl
 .unfold zbP zhy;rw[e];rfl
theorem zbcA {h:Host}{a:GAct}(hk:ieq a.Kind 2=true):zbB h a=zkC h a.M a.G a.X ⟨a.Y,a.Z⟩/\zbP h a=⟨zne h a.M a.G a.X ⟨a.Y,a.Z⟩,0⟩:=by
 have e:a.Kind=2:=qD hk;constructor
 .unfold zbB zgi;rw[e];rfl
 .unfold zbP zhy;rw[e];rfl
theorem zbcB {h:Host}{a:GAct}(hk:ieq a.Kind 3=true):zbB h a=zjA h a.M a.G a.X/\zbP h a=⟨zke h a.M a.G a.X,0⟩:=by
 have e:a.Kind=3:=qD hk;constructor
 .unfold zbB zgi;rw[e];rfl
 .unfold zbP zhy;rw[e];rfl
theorem zbcC {h:Host}{a:GAct}(hk:ieq a.Kind 4=true):zbB h a=zhg h a.M a.G a.X/\zbP h a=⟨zi9 h a.M a.G a.X,0⟩:=by
 have e:a.Kind=4:=qD hk;constructor
 .unfold zbB zgi;rw[e];rfl
 .unfold zbP zhy;rw[e];rfl
theorem zbcD {h:Host}{a:GAct}(hk:ieq a.Kind 5=true):zbB h a=zhi h a.M a.G/\zbP h a=⟨zjc h a.M a.G,0⟩:=by
 have e:a.Kind=5:=qD hk;constructor
 .unfold zbB zgi;rw[e];rfl
 .unfold zbP zhy;rw[e];rfl
theorem zbcE {h:Host}{a:GAct}(hk:ieq a.Kind 6=true):zbB h a=zhh h a.M a.G a.X/\zbP h a=⟨zja h a.M a.G a.X,0⟩:=by
 have e:a.Kind=6:=qD hk;constructor
 .unfold zbB zgi;rw[e];rfl
 .unfold zbP zhy;rw[e];rfl
theorem zbcF {h:Host}{a:GAct}(hk:ieq a.Kind 7=true):zbB h a=znc h a.M a.G ⟨a.X,a.Y,ieq a.Z 1⟩/\zbP h a=⟨znd h a.M a.G ⟨a.X,a.Y,ieq a.Z 1⟩,0⟩:=by
 have e:a.Kind=7:=qD hk;constructor
 .unfold zbB zgi;rw[e];rfl
 .unfold zbP zhy;rw[e];rfl
theorem zbcG {h:Host}{a:GAct}(hk:ieq a.Kind 8=true):zbB h a=zlh h a.M a.X a.Y a.Z/\zbP h a=⟨zdD h a.M a.X a.Y a.Z,0⟩:=by
 have e:a.Kind=8:=qD hk;constructor
 .unfold zbB zgi;rw[e];rfl
 .unfold zbP zhy;rw[e];rfl
theorem zbcH {h:Host}{a:GAct}(hk:ieq a.Kind 9=true):zbB h a=zjb h a.M a.X/\zbP h a=⟨zln h a.M a.X,0⟩:=by
 have e:a.Kind=9:=qD hk;constructor
 .unfold zbB zgi;rw[e];rfl
 .unfold zbP zhy;rw[e];rfl
theorem zbbx {h:Host}{a:GAct}(hk:ieq a.Kind 10=true):zbB h a=zkz h a.M/\zbP h a=⟨zna h a.M,zm9 h a.M⟩:=by
 have e:a.Kind=10:=qD hk;constructor
 .unfold zbB zgi;rw[e];rfl
 .unfold zbP zhy;rw[e];rfl
theorem zbby {h:Host}{a:GAct}(hk:ieq a.Kind 11=true):zbB h a=zow h a.M a.G a.X a.Y/\zbP h a=⟨zh4 h a.M a.G a.X a.Y,0⟩:=by
 have e:a.Kind=11:=qD hk;constructor
 .unfold zbB zgi;rw[e];rfl
 .unfold zbP zhy;rw[e];rfl
theorem zbbz {h:Host}{a:GAct}(hk:ieq a.Kind 12=true):zbB h a=zli h a.M a.G a.X/\zbP h a=⟨zfX h a.M a.G a.X,zox h a.M a.G a.X⟩:=by
 have e:a.Kind=12:=qD hk;constructor
 .unfold zbB zgi;rw[e];rfl
 .unfold zbP zhy;rw[e];rfl
theorem zbbA {h:Host}{a:GAct}(hk:ieq a.Kind 13=true):zbB h a=zoF h a.M a.X/\zbP h a=⟨zoG h a.M a.X,0⟩:=by
 have e:a.Kind=13:=qD hk;constructor
 .unfold zbB zlA;rw[e];rfl
 .unfold zbP zpG;rw[e];rfl
theorem zbbB {h:Host}{a:GAct}(hk:ieq a.Kind 14=true):zbB h a=zsV h a.M a.X/\zbP h a=⟨zqR h a.M a.X,0⟩:=by
 have e:a.Kind=14:=qD hk;constructor
 .unfold zbB zlA;rw[e];rfl
 .unfold zbP zpG;rw[e];rfl
theorem zbbC {h:Host}{a:GAct}(hk:ieq a.Kind 15=true):zbB h a=zsD h a.M a.X/\zbP h a=⟨zbL h a.M a.X,0⟩:=by
 have e:a.Kind=15:=qD hk;constructor
 .unfold zbB zlA;rw[e];rfl
 .unfold zbP zpG;rw[e];rfl
theorem zbbD {h:Host}{a:GAct}(hk:ieq a.Kind 16=true):zbB h a=zlU h a.M a.X/\zbP h a=⟨zmL h a.M a.X,0⟩:=by
 have e:a.Kind=16:=qD hk;constructor
 .unfold zbB zlA;rw[e];rfl
 .unfold zbP zpG;rw[e];rfl
theorem zbbE {h:Host}{a:GAct}(hk:ieq a.Kind 17=true):zbB h a=cold h/\zbP h a=⟨true,0⟩:=by
 have e:a.Kind=17:=qD hk;constructor
 .unfold zbB zlA;rw[e];rfl
 .unfold zbP zpG;rw[e];rfl
theorem zbcy {h:Host}{a:GAct}(h1:ieq a.Kind 1=false)(h2:ieq a.Kind 2=false)(h3:ieq a.Kind 3=false)(h4:ieq a.Kind 4=false)(h5:ieq a.Kind 5=false)(h6:ieq a.Kind 6=false)(h7:ieq a.Kind 7=false)(h8:ieq a.Kind 8=false)(h9:ieq a.Kind 9=false)(h10:ieq a.Kind 10=false)(h11:ieq a.Kind 11=false)(h12:ieq a.Kind 12=false)(h13:ieq a.Kind 13=false)(h14:ieq a.Kind 14=false)(h15:ieq a.Kind 15=false)(h16:ieq a.Kind 16=false)(h17:ieq a.Kind 17=false):zbB h a=h/\zbP h a=⟨false,0⟩:=by
 have hw:win a.Kind 1 17=false:=by
  cases hw:win a.Kind 1 17
  .rfl
  .have:=zeM.1 hw;have:=qV h1;have:=qV h2;have:=qV h3;have:=qV h4;have:=qV h5;have:=qV h6;have:=qV h7;have:=qV h8;have:=qV h9;have:=qV h10;have:=qV h11;have:=qV h12;have:=qV h13;have:=qV h14;have:=qV h15;have:=qV h16;have:=qV h17;omega
 unfold zbB zbP;rw[hw];exact ⟨rfl,rfl⟩
@[simp] abbrev znb (h:Host)(a:GAct):Bool:=pc (zbA h)
@[simp] abbrev zkA (h:Host)(a:GAct):Host:=zbB h a
@[simp] abbrev zkB (h:Host)(a:GAct):Told:=zbP h a
def ztF:Run:=rF2 dH (dT .act) fun b c=>(znb b c,[aH (zkA b c),aT .told (zkB b c)])
def zIh (N:Nat)(a0:Host)(a1:GAct):OA:=
 let y3:=(znc a0 a1.M a1.G (zqG a1));let y2:=(zrL a0 a1.M a1.G a1.X a1.Y);let y1:=(zpe a0 a1.M a1.X a1.Y a1.Z);let y0:=(⟨a1.Y,a1.Z⟩:Slot); (cond (ieq a1.Kind 1) (oN (zvJ a0 a1.M a1.G) (oN (zba (zpi a0 a1.M a1.G)) (some [(aH (zI (zpi a0 a1.M a1.G))),(.agg [(.b (zvI a0 a1.M a1.G)),(.i .i64 0)])]))) (cond (ieq a1.Kind 2) (oN (zyr a0 a1.M a1.G a1.X y0) (oN (zba (zkC a0 a1.M a1.G a1.X y0)) (some [(aH (zI (zkC a0 a1.M a1.G a1.X y0))),(.agg [(.b (zne a0 a1.M a1.G a1.X y0)),(.i .i64 0)])]))) (cond (ieq a1.Kind 3) (oN (ztp a0 a1.M a1.G a1.X) (oN (zba (zkd a0 a1.M a1.G a1.X)) (some [(aH (zI (zkd a0 a1.M a1.G a1.X))),(.agg [(.b (zke a0 a1.M a1.G a1.X)),(.i .i64 0)])]))) (cond (ieq a1.Kind 4) (oN (zqI a0 a1.M a1.G a1.X) (oN (zba (zhg a0 a1.M a1.G a1.X)) (some [(aH (zI (zhg a0 a1.M a1.G a1.X))),(.agg [(.b (zi9 a0 a1.M a1.G a1.X)),(.i .i64 0)])]))) (cond (ieq a1.Kind 5) (oN (zqK a0 a1.M a1.G) (oN (zba (zhi a0 a1.M a1.G)) (some [(aH (zI (zhi a0 a1.M a1.G))),(.agg [(.b (zjc a0 a1.M a1.G)),(.i .i64 0)])]))) (cond (ieq a1.Kind 6) (oN (zqJ a0 a1.M a1.G a1.X) (oN (zba (zhh a0 a1.M a1.G a1.X)) (some [(aH (zI (zhh a0 a1.M a1.G a1.X))),(.agg [(.b (zja a0 a1.M a1.G a1.X)),(.i .i64 0)])]))) (cond (ieq a1.Kind 7) (oN (zE7 a1) (oN (zyo a0 a1.M a1.G (zqG a1)) (oN (zba y3) (some [(aH (zI y3)),(.agg [(.b (znd a0 a1.M a1.G (zqG a1))),(.i .i64 0)])])))) (cond (ieq a1.Kind 8) (oN (zvF a0 a1.M a1.X a1.Y a1.Z) (oN (zba y1) (some [(aH (zI y1)),(.agg [(.b (zpf a0 a1.M a1.X a1.Y a1.Z)),(.i .i64 0)])]))) (cond (ieq a1.Kind 9) (oN (zvG a0 a1.M a1.X) (oN (zba (zjb a0 a1.M a1.X)) (some [(aH (zI (zjb a0 a1.M a1.X))),(.agg [(.b (zln a0 a1.M a1.X)),(.i .i64 0)])]))) (cond (ieq a1.Kind 10) (oN (zyn a0 a1.M) (oN (zba (zkz a0 a1.M)) (some [(aH (zI (zkz a0 a1.M))),(.agg [(.b (zna a0 a1.M)),(.i .i64 (zm9 a0 a1.M))])]))) (cond (ieq a1.Kind 11) (oN (zyp a0 a1.M a1.G a1.X a1.Y) (oN (zba y2) (some [(aH (zI y2)),(.agg [(.b (zrM a0 a1.M a1.G a1.X a1.Y)),(.i .i64 0)])]))) (cond (ieq a1.Kind 12) (oN (zvH a0 a1.M a1.G a1.X) (oN (zba (zlo a0 a1.M a1.G a1.X)) (some [(aH (zI (zlo a0 a1.M a1.G a1.X))),(.agg [(.b (zph a0 a1.M a1.G a1.X)),(.i .i64 (zpg a0 a1.M a1.G a1.X))])]))) (cond (ieq a1.Kind 13) (oN (zyv a0 a1.M a1.X) (oN (zba (znf a0 a1.M a1.X)) (some [(aH (zI (znf a0 a1.M a1.X))),(.agg [(.b (zrN a0 a1.M a1.X)),(.i .i64 0)])]))) (cond (ieq a1.Kind 14) (oN (zA6 a0 a1.M a1.X) (oN (zba (zpo a0 a1.M a1.X)) (some [(aH (zI (zpo a0 a1.M a1.X))),(.agg [(.b (zuk a0 a1.M a1.X)),(.i .i64 0)])]))) (cond (ieq a1.Kind 15) (oN (zE8 a0 a1.M a1.X) (oN (zba (zsL a0 a1.M a1.X)) (some [(aH (zI (zsL a0 a1.M a1.X))),(.agg [(.b (zw9 a0 a1.M a1.X)),(.i .i64 0)])]))) (cond (ieq a1.Kind 16) (oN (zvL a0 a1.M a1.X) (oN (zba (zls a0 a1.M a1.X)) (some [(aH (zI (zls a0 a1.M a1.X))),(.agg [(.b (zpr a0 a1.M a1.X)),(.i .i64 0)])]))) (cond (ieq a1.Kind 17) (oN (zLd a0) (oN (zba (zOr a0)) (some [(aH (zI (zOr a0))),(.agg [(.b true),(.i .i64 0)])]))) (oN (zba a0) (some [(aH (zI a0)),(.agg [(.b false),(.i .i64 0)])])))))))))))))))))))
theorem zU3 (a0:Host)(a1:GAct)(hc:znb a0 a1=true):∃N,zIh N a0 a1=some [aH (zkA a0 a1),aT .told (zkB a0 a1)]:=by
 have hs:=zy.1 hc;have hsm:zbA (zbB a0 a1):=(zF _).2 (zG8 ((zF _).1 hs));have q1:=@zbcz a0 a1;have q2:=@zbcA a0 a1;have q3:=@zbcB a0 a1;have q4:=@zbcC a0 a1;have q5:=@zbcD a0 a1;have q6:=@zbcE a0 a1;have q7:=@zbcF a0 a1;have q8:=@zbcG a0 a1;have q9:=@zbcH a0 a1;have q10:=@zbbx a0 a1;have q11:=@zbby a0 a1;have q12:=@zbbz a0 a1;have q13:=@zbbA a0 a1;have q14:=@zbbB a0 a1;have q15:=@zbbC a0 a1;have q16:=@zbbD a0 a1;have q17:=@zbbE a0 a1;have q0:=@zbcy a0 a1
 refine ⟨0,?_⟩;unfold zIh oN
 conv=>zeta
 refine br (fun _=>mu (mu ?_)) (fun _=>br (fun _=>mu (mu ?_)) (fun _=>br (fun _=>mu (mu ?_)) (fun _=>br (fun _=>mu (mu ?_)) (fun _=>br (fun _=>mu (mu ?_)) (fun _=>br (fun _=>mu (mu ?_)) (fun _=>br (fun _=>must rfl (mu (mu ?_))) (fun _=>br (fun _=>mu (mu ?_)) (fun _=>br (fun _=>mu (mu ?_)) (fun _=>br (fun _=>mu (mu ?_)) (fun _=>br (fun _=>mu (mu ?_)) (fun _=>br (fun _=>mu (mu ?_)) (fun _=>br (fun _=>mu (mu ?_)) (fun _=>br (fun _=>mu (mu ?_)) (fun _=>br (fun _=>mu (mu ?_)) (fun _=>br (fun _=>mu (mu ?_)) (fun _=>br (fun _=>mu (mu ?_)) (fun _=>mu ?_)))))))))))))))))
 all_goals first|rfl|(simp only [*,zkA,zkB,cT,cF]<;>rfl)|simp_all[Ty.cells,zkA,zkB]
theorem zw4:u4 9 ztF:=kF2 zEI zi zbj zbw (zk []) zU3
def z5l:zV:=[(40,zCO),(9,ztF)]++z5k
theorem zEJ:zJ z5l:=zf zNV (zf zw4 zEI)
def zqZ:List GAct->Host×List Told->Host×List Told
 | [],u=>u
 | a :: l,u=>zqZ l (zbB u.1 a,ap u.2 [zbP u.1 a])
def zjR (ps:List (List (List Ins)))(l:List GAct):Host×List Told:=zqZ (l.take 80) (zi4 ps,[])
abbrev HSt:Type:=(List Told)×(List (List Int))×(List Mon)×(List Entry)×(List Entry)
def hOf (t:HSt):Host:=⟨t.2.1,t.2.2.1,t.2.2.2.1,t.2.2.2.2⟩
def tOf (u:Host×List Told):HSt:=(u.2,u.1.Memory,u.1.Mons,u.1.Buffer,u.1.IoBuffer)
def zqQ (t:HSt):OA:=some [AV.agg (zS (hOf t)),AV.one (.s .told t.1)]
theorem zSK {ps:List (List (List Ins))}(h:zoX ps):SmH (zi4 ps):=by
 refine ⟨show SmM z3C from ⟨by decide,by decide⟩,⟨?_,?_⟩,by simp[zi4],by simp[zi4]⟩
 .simp only [zi4,uT,kK];omega
 .intro x hx;simp only[zi4,jD]at hx;obtain ⟨p,hp,rfl⟩:=hx;have hps:=h.2 p (j6 hp);refine ⟨show zZm.length<=1048576 by decide,show SmM zSw from ⟨by decide,by decide⟩,show (rp 8 false).length<=1048576 by decide,⟨?_,?_⟩,by simp[zid],⟨?_,?_⟩⟩
  .simp only [zid,uT,kK];omega
  .intro y hy;simp only[zid,jD]at hy;obtain ⟨q,hq,rfl⟩:=hy;exact ⟨hps.2 q (j6 hq),show znH.length<=1048576 by decide,show znH.length<=1048576 by decide,by simp[zfb]⟩
  .simp only [zid,uT,kK];omega
  .intro y hy;simp only[zid,jD]at hy;obtain ⟨q,hq,rfl⟩:=hy;exact ⟨show (rp 4 false).length<=1048576 by decide,show znH.length<=1048576 by decide⟩
theorem zJc {c:Host->GAct->Bool}(hc:∀h a,SmH h->c h a=true)(m:Nat):∀(l:List GAct) (i:Nat) (u:Host×List Told),SmH u.1->u.2.length+l.length<=2147483648 ->
 goL (fun (i:Nat) x (t:HSt) κ=>bif ilt (i:Int) (m:Int) then (cond (c (hOf t) x) (cond (few (ln (ap t.1 [zbP (hOf t) x]))) (κ (ap t.1 [zbP (hOf t) x],(zbB (hOf t) x).Memory,(zbB (hOf t) x).Mons,(zbB (hOf t) x).Buffer,(zbB (hOf t) x).IoBuffer)) none) none) else zqQ t) zqQ l i (tOf u)=zqQ (tOf (zqZ (l.take (m-i)) u))
 | [],i,u,_,_=>by simp[goL,zqZ]
 | a :: l,i,u,hs,hn=>by
  simp only[qW]at hn;have hf:few (ln (ap u.2 [zbP u.1 a]))=true:=zeO (by simp[ap];omega)
  have hh:hOf (tOf u)=u.1:=rfl;have h2:(tOf u).1=u.2:=rfl
  by_cases h:i<m
  .have hi:ilt (i:Int) (m:Int)=true:=qK (by omega)
   simp only[goL,hi,hh,h2,hf,hc _ _ hs,cT];refine (zJc hc m l (i+1) (zbB u.1 a,ap u.2 [zbP u.1 a]) (zG8 hs) (by simp[ap];omega)).trans ?_
   rw[show m-i=m-(i+1)+1 by omega]
   rfl
  .have hi:ilt (i:Int) (m:Int)=false:=qH (by omega)
   simp only[goL,hi,cF];rw[show m-i=0 by omega]
   rfl
theorem zNt {c:Host->GAct->Bool}(hc:∀h a,SmH h->c h a=true):∀(l:List GAct) (i:Nat) (u:Host×List Told),SmH u.1->u.2.length+l.length<=2147483648 ->
 goL (fun (_:Nat) x (t:HSt) κ=>bif c (hOf t) x then (cond (few (ln (ap t.1 [zbP (hOf t) x]))) (κ (ap t.1 [zbP (hOf t) x],(zbB (hOf t) x).Memory,(zbB (hOf t) x).Mons,(zbB (hOf t) x).Buffer,(zbB (hOf t) x).IoBuffer)) none) else none) zqQ l i (tOf u)=zqQ (tOf (zqZ l u))
 | [],i,u,_,_=>rfl
 | a :: l,i,u,hs,hn=>by
  simp only[qW]at hn;have hf:few (ln (ap u.2 [zbP u.1 a]))=true:=zeO (by simp[ap];omega)
  have hh:hOf (tOf u)=u.1:=rfl;have h2:(tOf u).1=u.2:=rfl;simp only[goL,hh,h2,hf,hc _ _ hs,cT];exact zNt hc l (i+1) (zbB u.1 a,ap u.2 [zbP u.1 a]) (zG8 hs) (by simp[ap];omega)
@[simp] abbrev zlH (ps:List (List (List Ins)))(l:List GAct):Bool:=pc (zoX ps/\l.length<=1048576)
@[simp] abbrev zlG (ps:List (List (List Ins)))(l:List GAct):Host:=(zjR ps l).1
@[simp] abbrev zp4 (ps:List (List (List Ins)))(l:List GAct):List Told:=(zjR ps l).2
@[simp] abbrev zpd (ps:List (List (List Ins)))(l:List GAct):Bool:=pc (zoX ps/\l.length<=1048576)
@[simp] abbrev zvD (ps:List (List (List Ins)))(l:List GAct):Host:=(zjR ps l).1
@[simp] abbrev zvE (ps:List (List (List Ins)))(l:List GAct):List Told:=(zjR ps l).2
def zq7:Run:=rF2 (dS (.sl (.sl .ins))) (dS .act) fun b c=>(zlH b c,[aH (zlG b c),aS .told (zp4 b c)])
def zEe (N:Nat)(a0:lQ)(a1:lA):OA:=
 (oN (zyH a0) (iter (σ:=(Int×(lA×(lT×(lM×(lN×(lE×(lE×(lM×(lN×(lE×(lE×Unit)))))))))))) N (fun r3 s4=>let y1:=(ix s4.2.1 s4.1 z4G);let y0:=(⟨s4.2.2.2.2.2.2.2.1,s4.2.2.2.2.2.2.2.2.1,s4.2.2.2.2.2.2.2.2.2.1,s4.2.2.2.2.2.2.2.2.2.2.1⟩:Host);let y3:=(ap s4.2.2.1 [(znw y0 y1)]);let y2:=(znv y0 y1); (cond (ilt s4.1 (ln s4.2.1)) (cond (ilt s4.1 80) (oN (inb s4.1 (ln s4.2.1)) (oN (zr6 y0 y1) (oN (few (ln y3)) (r3 ((zD .i64 s4.1 1),(s4.2.1,(y3,(s4.2.2.2.1,(s4.2.2.2.2.1,(s4.2.2.2.2.2.1,(s4.2.2.2.2.2.2.1,(y2.Memory,(y2.Mons,(y2.Buffer,(y2.IoBuffer,()))))))))))))))) (some [(aH y0),(aS .told s4.2.2.1)])) (some [(aH y0),(aS .told s4.2.2.1)]))) (0,(a1,([],([],([],([],([],((zg4 a0).Memory,((zg4 a0).Mons,((zg4 a0).Buffer,((zg4 a0).IoBuffer,())))))))))))))
def zS0:FuncId->Nat->Option Tmpl:=zk [(10,0,{ n:=39,tm:=[(1,.sl 0 []),(4,.lp 0 0),(6,.lp 1 0),(7,.sl 1 []),(8,ti)],lo:=[(0,[.sl 2 [],.sl 3 [],.sl 4 [],.sl 5 []]),(1,[.sl 6 [],.sl 7 [],.sl 8 [],.sl 9 []])],ro:=[(0,.act,false),(1,.told,true),(2,(.sl .int),true),(3,.mon,true),(4,.entry,true),(5,.entry,true),(6,(.sl .int),true),(7,.mon,true),(8,.entry,true),(9,.entry,true)] })]
theorem zR8 (a0:List lP)(a1:List GAct)(hc:zlH a0 a1=true):∃N,zEe N a0 a1=some [aH (zlG a0 a1),aS .told (zp4 a0 a1)]:=by
 obtain ⟨hs,hl1⟩:=zy.1 hc;have hl:=zb4 hl1;refine zbV fun N hNN=>?_;unfold zEe oN
 conv=>zeta
 refine must (zN hs) ?_;refine (zbb a1 (fun i (t:lT×lM×lN×lE×lE)=>((i:Int),a1,t.1,[],[],[],[],t.2.1,t.2.2.1,t.2.2.2.1,t.2.2.2.2,())) _ (fun i (x:GAct) (t:HSt) κ=>bif ilt (i:Int) ((80:Nat):Int) then (cond (zr6 (hOf t) x) (cond (few (ln (ap t.1 [zbP (hOf t) x]))) (κ (ap t.1 [zbP (hOf t) x],(zbB (hOf t) x).Memory,(zbB (hOf t) x).Mons,(zbB (hOf t) x).Buffer,(zbB (hOf t) x).IoBuffer)) none) none) else zqQ t) (fun (t:lT×lM×lN×lE×lE)=>(some [(.agg (zS (⟨t.2.1,t.2.2.1,t.2.2.2.1,t.2.2.2.2⟩:Host))),(.one (.s .told t.1))])) (fun i hi t rec=>?_) (fun t rec=>?_) _ ([],(zg4 a0).Memory,(zg4 a0).Mons,(zg4 a0).Buffer,(zg4 a0).IoBuffer) (hNN hl.1)).trans ?_
 .simp only [zbi hi,zQ hi,zbc hi,zU hi hl.1,cT];rfl
 .simp only [zbe,cF]
 exact zJc (fun h a hh=>zN ((zF h).2 hh)) 80 a1 0 (zi4 a0,[]) (zSK hs) (by simpa using hl.2)
theorem zvy:u4 10 zq7:=kF2 zEJ zi zbj zbw zS0 zR8
def zq4:Run:=rF2 (dS (.sl (.sl .ins))) (dS .act) fun b c=>(zpd b c,[aH (zvD b c),aS .told (zvE b c)])
def zDJ (N:Nat)(a0:lQ)(a1:lA):OA:=
 let y2:=(ze2 (ln a1) 80); (oN (zyq a0) (oN (inr 0 y2 (ln a1)) (iter (σ:=(Int×(Int×(lT×(lA×(lM×(lN×(lE×(lE×(lM×(lN×(lE×(lE×Unit))))))))))))) N (fun r3 s4=>let y1:=(ix s4.2.2.2.1 s4.2.1 z4G);let y0:=(⟨s4.2.2.2.2.2.2.2.2.1,s4.2.2.2.2.2.2.2.2.2.1,s4.2.2.2.2.2.2.2.2.2.2.1,s4.2.2.2.2.2.2.2.2.2.2.2.1⟩:Host);let y4:=(ap s4.2.2.1 [(zkB y0 y1)]);let y3:=(zkA y0 y1); (cond (ilt s4.2.1 s4.1) (oN (inb s4.2.1 (ln s4.2.2.2.1)) (oN (znb y0 y1) (oN (few (ln y4)) (r3 (s4.1,((zD .i64 s4.2.1 1),(y4,(s4.2.2.2.1,(s4.2.2.2.2.1,(s4.2.2.2.2.2.1,(s4.2.2.2.2.2.2.1,(s4.2.2.2.2.2.2.2.1,(y3.Memory,(y3.Mons,(y3.Buffer,(y3.IoBuffer,())))))))))))))))) (some [(aH y0),(aS .told s4.2.2.1)]))) ((ln (tk a1 y2)),(0,([],((tk a1 y2),([],([],([],([],((zgW a0).Memory,((zgW a0).Mons,((zgW a0).Buffer,((zgW a0).IoBuffer,())))))))))))))))
def zSR:FuncId->Nat->Option Tmpl:=zk [(8,0,{ n:=36,tm:=[(4,.lp 0 0),(6,.lp 1 0),(7,.sl 0 []),(16,.sl 1 []),(17,ti),(18,ti)],lo:=[(0,[.sl 2 [],.sl 3 [],.sl 4 [],.sl 5 []]),(1,[.sl 6 [],.sl 7 [],.sl 8 [],.sl 9 []])],ro:=[(0,.told,true),(1,.act,false),(2,(.sl .int),true),(3,.mon,true),(4,.entry,true),(5,.entry,true),(6,(.sl .int),true),(7,.mon,true),(8,.entry,true),(9,.entry,true)] })]
theorem zRD (a0:List lP)(a1:List GAct)(hc:zpd a0 a1=true):∃N,zDJ N a0 a1=some [aH (zvD a0 a1),aS .told (zvE a0 a1)]:=by
 obtain ⟨hs,hl1⟩:=zy.1 hc;have ht:=zZB a1 80;have e1:tk a1 (ze2 (ln a1) 80)=a1.take 80:=ht.1;have h01:(tk a1 (ze2 (ln a1) 80)).length<=1048576:=by rw[e1];exact jA (by simp;omega) hl1
 have hl:=zb4 h01;refine zbV fun N hNN=>?_;unfold zDJ oN
 conv=>zeta
 refine must (zN hs) (must ht.2 ?_);refine (zbb (tk a1 (ze2 (ln a1) 80)) (fun i (t:lT×lM×lN×lE×lE)=>((ln (tk a1 (ze2 (ln a1) 80))),(i:Int),t.1,(tk a1 (ze2 (ln a1) 80)),[],[],[],[],t.2.1,t.2.2.1,t.2.2.2.1,t.2.2.2.2,())) _ (fun _ (x:GAct) (t:HSt) κ=>bif znb (hOf t) x then (cond (few (ln (ap t.1 [zbP (hOf t) x]))) (κ (ap t.1 [zbP (hOf t) x],(zbB (hOf t) x).Memory,(zbB (hOf t) x).Mons,(zbB (hOf t) x).Buffer,(zbB (hOf t) x).IoBuffer)) none) else none) (fun (t:lT×lM×lN×lE×lE)=>(some [(.agg (zS (⟨t.2.1,t.2.2.1,t.2.2.2.1,t.2.2.2.2⟩:Host))),(.one (.s .told t.1))])) (fun i hi t rec=>?_) (fun t rec=>?_) _ ([],(zgW a0).Memory,(zgW a0).Mons,(zgW a0).Buffer,(zgW a0).IoBuffer) (hNN hl.1)).trans ?_
 .simp only [zbi hi,zQ hi,zbc hi,zU hi hl.1,cT];rfl
 .simp only [zbe,cF]
 refine (zNt (fun h a hh=>zN ((zF h).2 hh)) _ 0 (zi4 a0,[]) (zSK hs) (by simpa using hl.2)).trans ?_
 rw[e1];rfl
theorem zvu:u4 8 zq4:=kF2 zEJ zi zbj zbw zSR zRD
def zKb:zV:=[(10,zq7),(8,zq4)]++z5l
theorem zyk:zJ zKb:=zf zvy (zf zvu zEJ)
def z8J (h:Host):Prop:=∃ps l,zoX ps/\(1<=ps.length/\∀p∈ps,1<=p.length/\∀x∈p,zdz x=true)/\h=(zjR ps l).1
theorem z8i {p:List Ins}(h:zdz p=true):p.length<=12:=by
 unfold zdz at h;cases hc:p.all zgt with
 | false=>rw[hc]at h;cases h
 | true =>
  rw[hc,cT]at h;have h2:=(zeM.1 h).2;unfold ln at h2;omega
def zya (N:Nat)(c:Cur)  : OA :=
 let y0:=({ (zej c) with b:=c.b }:Cur); (oN (zf8 c) (oN (ze8 y0 20) (oN (zlH (zlO c) (ziq y0 20)) (some [(.agg [(.s .u8 c.b),(.i .i64 (zd8 y0 20).i),(.i .i64 (zd8 y0 20).h)]),(aH (zlG (zlO c) (ziq y0 20)))]))))
theorem zYP (N:Nat)(c:Cur)  : zfW (cQ zKb zly z3V zj6) (zk []) N 12 44 [false,true,true] (zbv c) []=zya N c:=by kernel_rfl
def zlP (c:Cur)(s:Cur)(v0:Host):Prop:=(∃N,zya N c=some (AV.agg (zbv s) :: [aH v0]))/\(s.b=c.b/\0<=s.i)/\(z8J v0)
def zkR (c:Cur)  : Bool:=pc (∃s v0,zlP c s v0)
def zsk (c:Cur)  : Cur×Host:=Classical.epsilon fun r=>zlP c r.1 r.2
def zsl (c:Cur)  : Cur:=bif zkR c then (zsk c).1 else ⟨[],0,0⟩
def zs8 (c:Cur)  : Host:=(zsk c).2
theorem z1k {c:Cur}(h:zkR c=true):zlP c (zsl c) (zs8 c):=by
 obtain ⟨s,v0,h2⟩:=zy.1 h;have h3:zlP c (zsk c).1 (zsk c).2:=Classical.epsilon_spec (p:=fun r=>zlP c r.1 r.2) ⟨(s,v0),h2⟩;unfold zsl;rw[h,cT];exact h3
def zqW:List CV->List AV->Option (Bool×List CV×List AV)
 | [.s .u8 b,.i .i64 c,.i .i64 d],[]=>some ((zkR (⟨b,c,d⟩:Cur)),zbv (zsl (⟨b,c,d⟩:Cur)),[aH (zs8 (⟨b,c,d⟩:Cur))])
 | _,_=>none
theorem zVT (c:Cur)(hb:zbC big (.agg (zbv c) :: []))(hc:zkR c=true):∃N,zya N c=some (.agg (zbv (zsl c)) :: [aH (zs8 c)]):=by
 exact (z1k hc).1
theorem zOj:zdp Tryz.prog 44 [false,true,true] zqW:=by
 refine zbW (zcD zyk zbg zY1 zn) (zdT (by kernel_rfl)) ?_
 intro cs avs cs' rs hl hr h;have hb:=zb9 hr;unfold zqW at h;split at h
 .obtain ⟨hc,rfl,rfl⟩:=zcj h;obtain ⟨N,hN⟩:=zVT _ (by exact hb) hc
  exact ⟨rfl,_,N,12,(zYP N _ ).trans hN⟩
 .cases h
def z3W:zdq:=[(44,([false,true,true],zqW))]++z3V
theorem zLN:zck z3W:=zdR zY1 (by
 intro x hx;simp only[qI,qX,or_false]at hx;rcases hx with rfl
 .exact zOj)
def zEc (N:Nat)(a0:List Int):OA:=
 (iter (σ:=(Int×(Int×((List Int)×(lM×(lN×(lE×(lE×Unit)))))))) N (fun r2 s3=>let y0:=(⟨s3.2.2.1,0,s3.1⟩:Cur); (cond (ilt s3.2.1 (ln s3.2.2.1)) (cond (ilt s3.2.1 4000) (oN (inb s3.2.1 (ln s3.2.2.1)) (r2 ((wand .i64 (zD .i64 (zD .i64 (zmW .i64 s3.1 131) (wcv .i64 (ix s3.2.2.1 s3.2.1 0))) 7) 1073741823),((zD .i64 s3.2.1 1),(s3.2.2.1,(s3.2.2.2.1,(s3.2.2.2.2.1,(s3.2.2.2.2.2.1,(s3.2.2.2.2.2.2.1,()))))))))) (oN (zkR y0) (some [(aH (zs8 y0))]))) (oN (zkR y0) (some [(aH (zs8 y0))])))) ((zD .i64 94701 (ln a0)),(0,(a0,([],([],([],([],()))))))))
def zSZ:FuncId->Nat->Option Tmpl:=zk [(16,0,{ n:=32,tm:=[(0,.sl 0 []),(3,ti),(4,ti)],lo:=[(0,[.sl 1 [],.sl 2 [],.sl 3 [],.sl 4 []])],ro:=[(0,.u8,false),(1,(.sl .int),true),(2,.mon,true),(3,.entry,true),(4,.entry,true)],sk:=[(0,2,0,.lp 0 0)] })]
def zkj (a0:List Int)(v0:Host):Prop:=(∃N,zEc N a0=some [aH v0])/\(z8J v0)
def zwg (a0:List Int):Bool:=pc (∃v0,zkj a0 v0)
def zGo (a0:List Int):Host:=Classical.epsilon fun r=>zkj a0 r
def zBr (a0:List Int):Host:=(zGo a0)
theorem zZe {a0:List Int}(h:zwg a0=true):zkj a0 (zBr a0):=by
 obtain ⟨v0,h2⟩:=zy.1 h;have h3:zkj a0 (zGo a0):=Classical.epsilon_spec (p:=fun r=>zkj a0 r) ⟨v0,h2⟩;exact h3
def zAd:Run:=rF1 (dS .u8) fun b=>(zwg b,[aH (zBr b)])
theorem zR6 (a0:List Int)(hc:zwg a0=true):∃N,zEc N a0=some [aH (zBr a0)]:=by
 exact (zZe hc).1
theorem zKV:u4 13 zAd:=kF1 zyk zbg zLN zn zSZ zR6
def z4S:zV:=[(13,zAd)]++zKb
theorem z4T:zJ z4S:=zf zKV zyk
theorem zjQ {i n:Int}:hasB i n=true↔0<=i/\i<n:=by unfold hasB;exact decide_eq_true_iff
theorem z7N {x y:Int}:ieq x y=true↔x=y:=by simp[ieq]
theorem zbaY {x y:Int}:ine x y=true↔x≠y:=by simp[ine]
theorem zbb8 {x y:Int}:ieq x y=false↔x≠y:=by simp[ieq]
theorem zx9 {α:Type}(l:List α)(i:Int)(x:α):(up l i x).length=l.length:=by simp[up]
theorem z9U {α:Type}{l:List α}{i:Int}(h:hasB i (ln l)=true)(d:α):∃k:Nat,∃hk:k<l.length,i=(k:Int)/\ix l i d=l[k]:=by
 rw[zjQ]at h;unfold ln at h;refine ⟨i.toNat,by omega,by omega,?_⟩
 simp[ix,List.getD,qB (show i.toNat<l.length by omega)]
theorem zbca {α:Type}{l:List α}{k:Nat}(h:k<l.length)(d:α):ix l (k:Int) d=l[k]:=by
 simp[ix,List.getD,qB h]
theorem z3p {α:Type}{l:List α}{i:Int}(h:hasB i (ln l)=true)(d:α):ix l i d∈l:=by
 obtain ⟨k,hk,_,e⟩:=z9U h d;rw[e];exact jC hk
theorem zXu {α:Type}{l:List α}{i:Int}(h:hasB i (ln l)=true)(x d:α):ix (up l i x) i d=x:=by
 rw[zjQ]at h;unfold ln at h;simp[ix,up,List.getD,show i.toNat<l.length by omega]
theorem zXv {α:Type}{l:List α}{i j:Int}(hi:0<=i)(hj:0<=j)(h:i≠j)(x d:α):ix (up l i x) j d=ix l j d:=by
 have:i.toNat≠j.toNat:=by omega
 simp[ix,up,List.getD,jG,this]
def cPg (x:Mon)(q:Int):Nat:=x.Outer.countP fun s=>ieq s.Page q
def zP9 (l:List Mon)(q:Int):Nat:=(l.map fun x=>cPg x q).sum
theorem zbcp {l:List Mon}{m:Int}(h:hasB m (ln l)=true)(x:Mon)(q:Int):zP9 (up l m x) q+cPg (ix l m mZ) q=zP9 l q+cPg x q:=by
 obtain ⟨k,hk,rfl,e⟩:=z9U h mZ;rw[e]
 clear h e
 unfold up;simp only[kC]
 induction l generalizing k with
 | nil=>simp at hk
 | cons y l ih =>
  cases k with
  | zero=>simp[zP9];omega
  | succ k =>
   have:=ih k (by simpa using hk)
   simp[zP9] at this ⊢;omega
def SOk (s:Slot):Prop:=s=noSlot\/(0<=s.Page/\s.Page<=11/\1<=s.Rights/\s.Rights<=3)
theorem SOk.none {s:Slot}(h:SOk s)(hp:s.Page = -1):s=noSlot:=by
 rcases h with h|h
 .exact h
 .omega
structure MOk (x:Mon):Prop where
 g1:1<=x.Guests.length
 g2:x.Guests.length<=2
 gt:x.Tables.length=x.Guests.length
 o8:x.Outer.length=8
 sl:∀s∈x.Outer,SOk s
 u8:x.Out.length=8
 d8:x.Dirty.length=8
 outs:x.Outs.length<=40
 pend:zeX x.Pending=true
 tr:win x.Traps 0 3=true
 own:win x.Own 0 1000000000=true
 gs:∀g∈x.Guests,zcP g=true
 fit:∀p,hasB p 8=true->zu4 (ix x.Outer p sZ) (ix x.Out p [])=true
structure HOk (h:Host):Prop where
 m12:h.Memory.length=12
 pgs:∀c∈h.Memory,zcH c=true
 n1:1<=h.Mons.length
 n3:h.Mons.length<=3
 b1:zrC h.Buffer=true
 b2:zrC h.IoBuffer=true
 mons:∀x∈h.Mons,MOk x
 uq:∀q,0<=q->zP9 h.Mons q<=1
theorem HOk.mon {h:Host}(H:HOk h){m:Int}(hm:hasB m (ln h.Mons)=true):MOk (ix h.Mons m mZ):=H.mons _ (z3p hm _)
theorem MOk.hasO {x:Mon}(H:MOk x){p:Int}(hp:hasB p 8=true):hasB p (ln x.Outer)=true:=by rw[ln,H.o8];exact hp
theorem MOk.hasU {x:Mon}(H:MOk x){p:Int}(hp:hasB p 8=true):hasB p (ln x.Out)=true:=by rw[ln,H.u8];exact hp
theorem MOk.slot {x:Mon}(H:MOk x){p:Int}(hp:hasB p 8=true):SOk (ix x.Outer p sZ):=H.sl _ (z3p (H.hasO hp) _)
theorem HOk.up {h:Host}(H:HOk h){m:Int}(hm:hasB m (ln h.Mons)=true){x:Mon}(hx:MOk x){h':Host}(e:h'.Mons=up h.Mons m x)(m12:h'.Memory.length=12)(pgs:∀c∈h'.Memory,zcH c=true)(b1:zrC h'.Buffer=true)(b2:zrC h'.IoBuffer=true)(uq:∀q,0<=q->cPg x q<=cPg (ix h.Mons m mZ) q\/zP9 h.Mons q=0/\cPg x q<=1):HOk h':=by
 refine ⟨m12,pgs,by rw[e,zx9];exact H.n1,by rw[e,zx9];exact H.n3,b1,b2,fun y hy=>?_,fun q hq=>?_⟩
 .rw [e]at hy;unfold E.up at hy;rcases jP hy with h|h
  .exact H.mons y h
  .rw [h];exact hx
 .rw [e];have h1:=zbcp hm x q;have h2:=H.uq q hq;have h3:=uq q hq;omega
structure KOk (k:Kept) (inner outer:List Slot):Prop where
 l1:k.Known.length=inner.length
 l2:k.Slots.length=inner.length
 at':∀i,hasB i (ln inner)=true->ix k.Slots i sZ=bif ix k.Known i false then zfV (ix inner i sZ) outer else noSlot
def TOk (x:Mon):Prop:=∀g,hasB g (ln x.Guests)=true->KOk (ix x.Tables g kZ) (ix x.Guests g gZ).Live x.Outer
structure Rt (h:Host):Prop where
 t:∀m,hasB m (ln h.Mons)=true->TOk (ix h.Mons m mZ)
 e1:∀e∈h.Buffer,zNe h e=true
 e2:∀e∈h.IoBuffer,zNe h e=true
structure Safe (h:Host):Prop where
 ok:HOk h
 rt:Rt h
structure Chg (x x':Mon) (p:Int) (s:Slot) (c:List Int):Prop where
 o:x'.Outer=up x.Outer p s
 u:x'.Out=up x.Out p c
 g:x'.Guests=x.Guests
 t:x'.Tables.length=x.Tables.length
 d:x'.Dirty.length=x.Dirty.length
 a1:x'.Outs=x.Outs
 a2:x'.Pending=x.Pending
 a3:x'.Traps=x.Traps
 a4:x'.Own=x.Own
theorem MOk.chg {x x':Mon}(H:MOk x){p:Int}(hp:hasB p 8=true){s:Slot}{c:List Int}(k:Chg x x' p s c)(hs:SOk s)(hf:zu4 s c=true):MOk x':=by
 refine ⟨by rw[k.g];exact H.g1,by rw[k.g];exact H.g2,by rw[k.t,k.g];exact H.gt,by rw[k.o,zx9];exact H.o8,fun y hy=>?_,by rw[k.u,zx9];exact H.u8,by rw[k.d];exact H.d8,by rw[k.a1];exact H.outs,by rw[k.a2];exact H.pend,by rw[k.a3];exact H.tr,by rw[k.a4];exact H.own,by rw[k.g];exact H.gs,fun q hq=>?_⟩
 .rw [k.o]at hy;rcases jP hy with h|h
  .exact H.sl y h
  .rw [h];exact hs
 .rw [k.o,k.u]
  by_cases e:p=q
  .subst e;rw[zXu (H.hasO hp),zXu (H.hasU hp)];exact hf
  .rw [zXv (zjQ.1 hp).1 (zjQ.1 hq).1 e,zXv (zjQ.1 hp).1 (zjQ.1 hq).1 e];exact H.fit q hq
structure Like (h r:Host):Prop where
 len:r.Mons.length=h.Mons.length
 g:∀i,hasB i (ln h.Mons)=true->(ix r.Mons i mZ).Guests=(ix h.Mons i mZ).Guests
 o:∀i,hasB i (ln h.Mons)=true->(ix r.Mons i mZ).Outs=(ix h.Mons i mZ).Outs
 p:∀i,hasB i (ln h.Mons)=true->(ix r.Mons i mZ).Pending=(ix h.Mons i mZ).Pending
 tr:∀i,hasB i (ln h.Mons)=true->(ix r.Mons i mZ).Traps=(ix h.Mons i mZ).Traps
 ow:∀i,hasB i (ln h.Mons)=true->(ix r.Mons i mZ).Own=(ix h.Mons i mZ).Own
 pg:∀i k,hasB i (ln h.Mons)=true->hasB k 8=true->zhD r i k=zhD h i k
theorem Like.refl (h:Host):Like h h:=⟨rfl,fun _ _=>rfl,fun _ _=>rfl,fun _ _=>rfl,fun _ _=>rfl,fun _ _=>rfl,fun _ _ _ _=>rfl⟩
theorem Like.trans {a b c:Host}(x:Like a b)(y:Like b c):Like a c:=by
 have k:∀i,hasB i (ln a.Mons)=true->hasB i (ln b.Mons)=true:=fun i hi=>by unfold ln at hi ⊢;rwa [x.len]
 exact ⟨y.len.trans x.len,fun i h=>(y.g i (k i h)).trans (x.g i h),fun i h=>(y.o i (k i h)).trans (x.o i h),fun i h=>(y.p i (k i h)).trans (x.p i h),fun i h=>(y.tr i (k i h)).trans (x.tr i h),fun i h=>(y.ow i (k i h)).trans (x.ow i h),fun i q h hq=>(y.pg i q (k i h) hq).trans (x.pg i q h hq)⟩
theorem Like.has {h r:Host}(k:Like h r){i:Int}:hasB i (ln r.Mons)=hasB i (ln h.Mons):=by unfold ln;rw[k.len]
theorem zJj {h r:Host}{m:Int}:∀(n i:Nat),(∀k:Nat,i<=k->k<i+n->zhD r m (k:Int)=zhD h m (k:Int))->zhE r m n i=zhE h m n i
 | 0,i,_=>rfl
 | n+1,i,h=>by
  rw[zhE,zhE,h i (by omega) (by omega),zJj n (i+1) (fun k h1 h2=>h k (by omega) (by omega))]
theorem Like.seen {h r:Host}(k:Like h r)(m:Int):zC r m=zC h m:=by
 unfold zC;rw[k.has];cases hm:hasB m (ln h.Mons) with
 | false=>rfl
 | true =>
  simp only[cond_true];rw[k.g m hm,k.o m hm,k.p m hm,zJj 8 0 (fun j h1 h2=>k.pg m j hm (zjQ.2 (by omega)))]
structure Op (h r:Host):Prop where
 ok:HOk r
 like:Like h r
 rt:Rt h->Rt r
theorem Op.refl {h:Host}(H:HOk h):Op h h:=⟨H,Like.refl h,id⟩
theorem Op.trans {a b c:Host}(x:Op a b)(y:Op b c):Op a c:=⟨y.ok,x.like.trans y.like,fun h=>y.rt (x.rt h)⟩
theorem Op.safe {h r:Host}(k:Op h r)(s:Safe h):Safe r:=⟨k.ok,k.rt s.rt⟩
structure But (h r:Host) (m p:Int):Prop where
 ne:∀i k,hasB i (ln h.Mons)=true->hasB k 8=true->¬ (i=m/\k=p)->ix (ix r.Mons i mZ).Outer k sZ=ix (ix h.Mons i mZ).Outer k sZ
structure Roomy (h r:Host):Prop where
 op:Op h r
 free:zcz r≠[]
 sl:∀i k,hasB i (ln h.Mons)=true->hasB k 8=true->ix (ix r.Mons i mZ).Outer k sZ=ix (ix h.Mons i mZ).Outer k sZ\/ix (ix r.Mons i mZ).Outer k sZ=noSlot
 dirt:∀i,(ix r.Mons i mZ).Dirty=(ix h.Mons i mZ).Dirty
structure Mark (x y:Mon):Prop where
 o:y.Outer=x.Outer
 u:y.Out=x.Out
 g:y.Guests=x.Guests
 t:y.Tables=x.Tables
 d:y.Dirty.length=x.Dirty.length
 a1:y.Outs=x.Outs
 a2:y.Pending=x.Pending
 a3:y.Traps=x.Traps
 a4:y.Own=x.Own
structure Mended (h r:Host) (m p n:Int):Prop where
 op:Op h r
 inn:(ix (ix r.Mons m mZ).Outer p sZ).Page≠-1
 ri:ieq (wand .i64 n 2) 0=false->(ix (ix r.Mons m mZ).Outer p sZ).Rights=3
 dt:ieq (wand .i64 n 2) 0=false->ix (ix r.Mons m mZ).Dirty p false=true
 d0:ieq (wand .i64 n 2) 0=true->(ix r.Mons m mZ).Dirty=(ix h.Mons m mZ).Dirty
 dk:∀k,hasB k 8=true->k≠p->ix (ix r.Mons m mZ).Dirty k false=ix (ix h.Mons m mZ).Dirty k false
 dm:∀i,hasB i (ln h.Mons)=true->i≠m->(ix r.Mons i mZ).Dirty=(ix h.Mons i mZ).Dirty
structure KeepP (x y:Mon):Prop where
 o:y.Outer=x.Outer
 u:y.Out=x.Out
structure GOk (x:Guest):Prop where
 prog:zdz x.Prog=true
 a:win x.A 0 99=true
 pc:win x.Pc 0 12=true
 w:zdd x.Written 4 8=true
 l:zdd x.Live 4 8=true
 ctl:zjM x.Ctl=true
 pend:zeX x.Pending=true
 ex:zsA x.Exit=true
 seen:ile (ln x.Seen) 40=true
theorem zbaU {x:Guest}:zcP x=true↔GOk x:=by
 unfold zcP;simp only[qE];exact ⟨fun ⟨a,b,c,d,e,f,g,h,i⟩=>⟨a,b,c,d,e,f,g,h,i⟩,fun ⟨a,b,c,d,e,f,g,h,i⟩=>⟨a,b,c,d,e,f,g,h,i⟩⟩
theorem HOk.guest {h:Host}(H:HOk h){m g:Int}(hm:hasB m (ln h.Mons)=true)(hg:hasB g (ln (ix h.Mons m mZ).Guests)=true):GOk (ix (ix h.Mons m mZ).Guests g gZ):=zbaU.1 ((H.mon hm).gs _ (z3p hg _))
structure Walked (l:List Slot) (p n q:Int):Prop where
 hp:hasB p (ln l)=true
 pg:(ix l p sZ).Page=q
 q8:hasB q 8=true
 en:enough (ix l p sZ).Rights n=true
structure Looked (h r:Host) (m g page need q host:Int):Prop where
 op:Op h r
 inn:(ix (ix r.Mons m mZ).Outer q sZ).Page=host
 ne:host≠-1
 en:enough (zfV (ix (ix (ix h.Mons m mZ).Guests g gZ).Live page sZ) (ix r.Mons m mZ).Outer).Rights need=true
 cp:(zfV (ix (ix (ix h.Mons m mZ).Guests g gZ).Live page sZ) (ix r.Mons m mZ).Outer).Page=host
 dk:∀k,hasB k 8=true->k≠q->ix (ix r.Mons m mZ).Dirty k false=ix (ix h.Mons m mZ).Dirty k false
 dq:need=2->ix (ix r.Mons m mZ).Dirty q false=true
 d1:need=1->(ix r.Mons m mZ).Dirty=(ix h.Mons m mZ).Dirty
 dm:∀i,hasB i (ln h.Mons)=true->i≠m->(ix r.Mons i mZ).Dirty=(ix h.Mons i mZ).Dirty
structure GKeep (x y:Guest):Prop where
 ok:GOk y
 live:y.Live=x.Live
structure SimT (h r:Host) (m:Int) (f:Bare->Bare):Prop where
 safe:Safe r
 seen:∀i,zC r i=bif ieq i m then f (zC h i) else zC h i
 len:r.Mons.length=h.Mons.length
theorem SimT.trans {a b c:Host}{m:Int}{f g:Bare->Bare}(x:SimT a b m f)(y:SimT b c m g):SimT a c m (fun t=>g (f t)):=by
 refine ⟨y.safe,fun i=>?_,y.len.trans x.len⟩;rw[y.seen i,x.seen i];cases ieq i m<;>rfl
theorem SimT.congr {h r:Host}{m:Int}{f g:Bare->Bare}(x:SimT h r m f)(e:f (zC h m)=g (zC h m)):SimT h r m g:=by
 refine ⟨x.safe,fun i=>?_,x.len⟩;rw[x.seen i]
 by_cases hi:i=m
 .subst hi;rw[z7N.2 rfl,cond_true,cond_true,e]
 .rw [zbb8.2 hi];rfl
theorem SimT.has {h r:Host}{m:Int}{f:Bare->Bare}(x:SimT h r m f)(i:Int):hasB i (ln r.Mons)=hasB i (ln h.Mons):=by unfold ln;rw[x.len]
theorem SimT.refl {h:Host}(S:Safe h)(m:Int):SimT h h m id:=⟨S,fun i=>by cases ieq i m<;>rfl,rfl⟩
structure BackOk (b c:Bare):Prop where
 m:c.Memory=b.Memory
 o:c.Outs=b.Outs
 n:c.Guests.length=b.Guests.length
 g:∀j,hasB j (ln b.Guests)=true->GKeep (ix b.Guests j gZ) (ix c.Guests j gZ)
 p:zeX b.Pending=true->zeX c.Pending=true
def zbai (h:Host):List Bare:=(List.range h.Mons.length).map fun (i:Nat)=>zC h (i:Int)
structure Live (u:Host×List Told) (v:List Bare×List Told):Prop where
 safe:Safe u.1
 seen:zbai u.1=v.1
def zGC:List GAct->Host->List Told
 | [],_=>[]
 | a :: l,h=>zbP h a :: zGC l (zbB h a)
def zWm:List GAct->Host->Host
 | [],h=>h
 | a :: l,h=>zWm l (zbB h a)
theorem z2g:∀(l:List GAct) (u:Host×List Told),zqZ l u=(zWm l u.1,u.2++zGC l u.1)
 | [],u=>by simp[zqZ,zWm,zGC]
 | a :: l,u=>by rw[zqZ,z2g l];simp[zWm,zGC,ap]
def zzj (ps:List (List (List Ins))):Prop:=1<=ps.length/\∀p∈ps,1<=p.length/\∀x∈p,zdz x=true
theorem z2j:∀(l:List GAct) (u:Host×List Told),SmH u.1->SmH (zqZ l u).1
 | [],u,h=>h
 | a :: l,u,h=>z2j l (zbB u.1 a,ap u.2 [zbP u.1 a]) (zG8 h)
def zNa:zV:=z4S
theorem zsw:zJ zNa:=z4T
end
end Go.Proofs.YtdnmkiajccpnoaaGreat.E
