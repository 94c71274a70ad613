/- What is proved here: a part of the proof that the statement of this claim holds (several texts of wip/, laid together). -/
import Derived.Test.YthdlghbibaoabaaGreatU5
import Derived.WalkKit
import Derived.Tactics2
import Derived.Deep.RegionWith
import Derived.Laws.Rows
namespace Go.Proofs.YthdlghbibaoabaaGreat.E
open Go
set_option linter.constructorNameAsVariable false
set_option linter.unusedVariables false
set_option maxRecDepth 100000
set_option linter.unusedSimpArgs false
set_option linter.unusedSectionVars false
noncomputable section
def zWU:zbb:=[(240,ztk),(243,zpk),(246,zn0),(247,zn2),(248,zn1),(249,ztj),(253,zti),(252,zqT),(84,zvM)]++zbbW
theorem zEx:zM zWU:=zi zwN (zi ztF (zi zss (zi zsu (zi zst (zi zwM (zi zwL (zi zu9 (zi zzk z9y))))))))
def zc7 (x:Mon):Bare:=⟨zR9,x.Guests,x.Outs,x.Pending⟩
def zww (x:Mon)(b:Bare):Mon:={x with Guests:=b.Guests,Pending:=b.Pending}
def zdg (h:Host)(m:Int)(b:Bare):Host:={h with Mons:=up h.Mons m (zww (ix h.Mons m mZ) b)}
@[simp] abbrev zeT (x:Mon):Bool:=pc (zft x)
@[simp] abbrev zbO (x:Mon):Bare:=zc7 x
def zDg:Run:=rF1 (dT .mon) fun b=>(zeT b,[aT .bare (zbO b)])
def zIP (N:Nat)(a:Mon):OA:=
 (oN (zpL 8) (oN (zfS a.Guests) (oN (few (ln (ap [] a.Outs))) (some [(aT .bare (⟨(zjX 8),(zgl a.Guests),(ap [] a.Outs),a.Pending⟩:Bare))]))))
theorem zVA (a:Mon)(c:zeT a=true):∃N,zIP N a=some [aT .bare (zbO a)]:=by have b:=zN.1 c;refine⟨0,?_⟩;unfold zIP oN;exact must rfl (must (zby ((zwC _).2 b.2.2.2.1)) (must (zoi b.2.2.2.2.1) rfl))
theorem zOh:vL 241 zDg:=kF1 zEx zu zb9 zgM (zx []) zVA
@[simp] abbrev zeS (h:Host)(m:Int)(b:Bare):Bool:=pc (hasB m (ln h.Mons)=true/\zk3 b.Guests)
@[simp] abbrev zhi (h:Host)(m:Int)(b:Bare):Host:=zdg h m b
theorem zbfe {l:List Mon}{m:Int}(a:hasB m (ln l)=true)(b:Bare):inb m (ln (up l m {ix l m mZ with Guests:=b.Guests}))=true/\
 up (up l m {ix l m mZ with Guests:=b.Guests}) m {ix (up l m {ix l m mZ with Guests:=b.Guests}) m mZ with Pending:=b.Pending}=up l m (zww (ix l m mZ) b):=by
 obtain⟨k,rfl,c⟩:=zdX (n:=l.length) a;refine⟨zy (by rw[ln,zgX];exact a),?_⟩
 rw[zxW,zd3 c];rfl
def ztr:List AV->Option (Bool×List AV)
 |[.agg [.s (.sl .int) b,.s .mon c,.s .entry d,.s .entry e],.one (.i .i64 f),.agg [.s (.sl .int) g,.s .guest h,.s .int j,.i .i64 k]]=>some ((zeS (⟨b,c,d,e⟩:Host) f (⟨g,h,j,k⟩:Bare)),[aH (zhi (⟨b,c,d,e⟩:Host) f (⟨g,h,j,k⟩:Bare))])
 |_=>none
def zx8 (N:Nat)(b:Host)(a:Int)(c:Bare):OA:=
 (oN (zfS c.Guests) (oN (inb a (ln b.Mons)) (share (up b.Mons a ({ (ix b.Mons a zh) with Guests:=(zgl c.Guests)}:Mon)) (fun d=>(oN (inb a (ln d)) (share (up d a ({ (ix d a zh) with Pending:=c.Pending}:Mon)) (fun e=>(some [(aH ({b with Mons:=e}:Host))]))))))))
theorem zYQ (N:Nat)(a:Host)(b:Int)(c:Bare):z4a (cQ zWU zpd z4Z tctN) (zx []) N 12 242 [true,true,true,true,false,false,false,false,false] [aH a,aI b,aT .bare c]=zx8 N a b c:=by kernel_rfl
theorem zVz (b:Host)(c:Int)(a:Bare)(i:zcE big [aH b,aI c,aT .bare a])(h:zeS b c a=true):∃N,zx8 N b c a=some [aH (zhi b c a)]:=by obtain⟨d,hg⟩:=zN.1 h;obtain⟨f,g⟩:=zbfe d a;refine⟨0,?_⟩;unfold zx8 oN;refine must (zby ((zwC _).2 hg)) (must (zy d) (shr (must f (shr ?_))));have e:zgl a.Guests=a.Guests:=rfl;rw[e];show some [AV.agg (zbi {b with Mons:=_})]=some [AV.agg (zbi {b with Mons:=_})];rw[show zh=mZ from rfl,g]
theorem zOg:zeh Tryz.prog 242 [true,true,true,true,false,false,false,false,false] none ztr:=by refine zQg (zgF zEx zu zb9 zgM) (ziQ (by kernel_rfl)) (by kernel_rfl) ?_;intro a g f e h;have c:=ziT e;unfold ztr at h;split at h;{obtain⟨d,rfl⟩:=zd7 h;obtain⟨N,b⟩:=zVz _ _ _ (by exact c) d;exact⟨_,N,12,(zYQ N _ _ _ ).trans b⟩};{cases h}
def z6m:zbb:=[(241,zDg)]++zWU
theorem zjo:zM z6m:=zi zOh zEx
def zbfI:zfh:=[(242,([true,true,true,true,false,false,false,false,false],none,ztr))]++tctN
theorem zdq:zec zbfI:=zre zgM (by
 intro x a;simp only[qG,qN,or_false]at a;rcases a with rfl
 .exact zOg)
def zbcH (h:Host)(m:Int)(a:Bool)(B:Bare)(b c:Host->Ans):OA:=
 bif zbV h then (cond (zfK h m) (cond (cond (zfJ h m) false true) (some (b h)) (cond (inb m (ln h.Mons)) (cond (zeT (ix h.Mons m mZ)) (cond a (cond (zeS h m B) (some (c (zdg h m B))) none) none) none) none)) none) else none
theorem zcL {h:Host}{m:Int}:(zcR h m=true)↔zce h=true/\hasB m (ln h.Mons)=true:=by unfold zcR;cases zce h<;>simp
theorem zoe {h:Host}{m:Int}{cB:Bool}{B:Bare}{o0 o1:Host->Ans}(c:SmH h)(e:zcR h m=true->cB=true)(d:zcR h m=true->SmB B):zbcH h m cB B o0 o1=some (cond (zcR h m) (o1 (zdg h m B)) (o0 h)):=by unfold zbcH;refine must (zby ((zS h).2 c)) (must rfl ?_);rw[show zfJ h m=zcR h m from rfl];cases a:zcR h m;{rfl};{have b:=(zcL.1 a).2;exact zdh rfl (must (zy b) (must (zby (c.2.1.2 _ (zbB b _))) (must (e a) (must (zby ⟨b,(d a).2.1⟩) rfl))))}
structure SameB (b c:Bare):Prop where
 g:b.Guests=c.Guests
 p:b.Pending=c.Pending
 o:zbR b=zbR c
theorem SameB.at {b c:Bare}(h:SameB b c)(g:Int):gAt b g=gAt c g:=by unfold gAt;rw[h.g]
theorem SameB.has {b c:Bare}(h:SameB b c)(g:Int):zci b g=zci c g:=by unfold zci;rw[h.g,h.o]
theorem back_eq {h:Host}{m:Int}{b c:Bare}(hg:b.Guests=c.Guests)(a:b.Pending=c.Pending):zdg h m b=zdg h m c:=by unfold zdg zww;rw[hg,a]
theorem zqq {b c:Bare}(a:SameB b c)(h:Host)(m g:Int)(k:Bool)(x:Guest):zdg h m (chg b g k x)=zdg h m (chg c g k x):=by unfold chg;rw[a.has];cases (cond (zci c g) k false);{exact back_eq a.g a.p};{exact back_eq (by simp only[cT,zdG,a.g]) a.p}
theorem zl0 {b c:Bare}(a:SameB b c)(g:Int)(k:Bool):zb7 b g k=zb7 c g k:=by unfold zb7;rw[a.has]
theorem zjx {h:Host}{m:Int}(b:zcR h m=true)(d:zbR (zc7 (ix h.Mons m mZ))=true):SameB (zc7 (ix h.Mons m mZ)) (zG h m):=by obtain⟨c,a⟩:=zcL.1 b;refine⟨?_,?_,d.trans (zyb c a).symm⟩<;>unfold zG zc7<;>rw [a]<;>rfl
theorem zbdI:zhT zR9 8=true:=by decide
theorem zoB {h:Host}{m:Int}(b:zcR h m=true):zbR (zc7 (ix h.Mons m mZ))=true:=by obtain⟨c,a⟩:=zcL.1 b;have:=zyb c a;unfold zG at this;rw[a,cT] at this;unfold zbR at this ⊢;simp only[zc7,zbdI] at *;simp_all
theorem ze3 {x:Mon}(h:zft x):SmB (zc7 x):=⟨show SmM zR9 from ⟨by decide,by decide⟩,h.2.2.2.1,h.2.2.2.2.1⟩
def zeW (h:Host)(m:Int)(b:Bare):Host:=bif zcR h m then zdg h m b else h
def zeg (h:Host)(m:Int)(ok:Bool):Bool:=bif zcR h m then ok else false
@[simp] abbrev zkE (b:Bare)(g p:Int)(s:Slot):Bare:=chg b g (ztA p s) (zBX (gAt b g) p s)
@[simp] abbrev zm7 (b:Bare)(g p:Int)(s:Slot):Bool:=zb7 b g (ztA p s)
@[simp] abbrev zhp (b:Bare)(g v:Int):Bare:=chg b g (zs8 (gAt b g) v) (zya (gAt b g) v)
@[simp] abbrev zi3 (b:Bare)(g v:Int):Bool:=zb7 b g (zs8 (gAt b g) v)
@[simp] abbrev zhr (b:Bare)(g:Int):Bare:=chg b g (zyt (gAt b g)) (zyu (gAt b g))
@[simp] abbrev zi5 (b:Bare)(g:Int):Bool:=zb7 b g (zyt (gAt b g))
@[simp] abbrev zhq (b:Bare)(g n:Int):Bare:=chg b g (zgx (gAt b g).Pending n) (znV (gAt b g) n)
@[simp] abbrev zi4 (b:Bare)(g n:Int):Bool:=zb7 b g (zgx (gAt b g).Pending n)
@[simp] abbrev zkD (b:Bare)(g:Int)(c:Ctl):Bare:=chg b g (zhR c) (zJ2 (gAt b g) c)
@[simp] abbrev zm6 (b:Bare)(g:Int)(c:Ctl):Bool:=zb7 b g (zhR c)
@[simp] abbrev zm5 (b:Bare):Bare:=zmK b
@[simp] abbrev zrD (b:Bare):Int:=zs7 b
@[simp] abbrev zrE (b:Bare):Bool:=zlY b
@[simp] abbrev zln (b:Bare)(n:Int):Bare:=zjT b n
@[simp] abbrev zpc (b:Bare)(n:Int):Bool:=zfb b n
@[simp] abbrev z1q (h:Host)(m:Int)(g p:Int)(s:Slot):Host:=zeW h m (zkE (zG h m) g p s)
@[simp] abbrev z1r (h:Host)(m:Int)(g p:Int)(s:Slot):Bool:=zeg h m (zm7 (zG h m) g p s)
@[simp] abbrev zR1 (h:Host)(m:Int)(g v:Int):Host:=zeW h m (zhp (zG h m) g v)
@[simp] abbrev zR2 (h:Host)(m:Int)(g v:Int):Bool:=zeg h m (zi3 (zG h m) g v)
@[simp] abbrev zR5 (h:Host)(m:Int)(g:Int):Host:=zeW h m (zhr (zG h m) g)
@[simp] abbrev zR6 (h:Host)(m:Int)(g:Int):Bool:=zeg h m (zi5 (zG h m) g)
@[simp] abbrev zR3 (h:Host)(m:Int)(g n:Int):Host:=zeW h m (zhq (zG h m) g n)
@[simp] abbrev zR4 (h:Host)(m:Int)(g n:Int):Bool:=zeg h m (zi4 (zG h m) g n)
@[simp] abbrev z1o (h:Host)(m:Int)(g:Int)(x:Ctl):Host:=zeW h m (zkD (zG h m) g x)
@[simp] abbrev z1p (h:Host)(m:Int)(g:Int)(x:Ctl):Bool:=zeg h m (zm6 (zG h m) g x)
@[simp] abbrev zYF (h:Host)(m:Int)(n:Int):Host:=zeW h m (zln (zG h m) n)
@[simp] abbrev zYG (h:Host)(m:Int)(n:Int):Bool:=zeg h m (zpc (zG h m) n)
@[simp] abbrev z1k (h:Host)(m:Int):Host:=zeW h m (zm5 (zG h m))
@[simp] abbrev z1l (h:Host)(m:Int):Int:=bif zcR h m then zrD (zG h m) else -1
@[simp] abbrev z1m (h:Host)(m:Int):Bool:=zeg h m (zrE (zG h m))
@[simp] abbrev zVB (h:Host)(m g p:Int):Bool:=zeg h m (zb7 (zG h m) g (hasB p 4))
theorem z7U {b c:Bare}(a:SameB b c)(n:Int):(zjT b n).Guests=(zjT c n).Guests/\(zjT b n).Pending=(zjT c n).Pending/\zfb b n=zfb c n:=by have e:zfb b n=zfb c n:=(by unfold zfb;rw[a.o]);unfold zjT;rw[e];cases zfb c n;{exact⟨a.g,a.p,rfl⟩};{unfold zG8;rw[a.g];cases ieq (ln (zej c.Guests n)) 0;{exact⟨by simp only[cT,cF],by simp only[cT,cF,a.p],rfl⟩};{exact⟨by simp only[cT,a.g],by simp only[cT,a.p],rfl⟩}}
theorem z8K {b c:Bare}(a:SameB b c):(zmK b).Guests=(zmK c).Guests/\(zmK b).Pending=(zmK c).Pending/\zs7 b=zs7 c/\zlY b=zlY c:=by unfold zmK zs7 zlY;rw[a.o,a.p];cases zbR c;{exact⟨a.g,a.p,rfl,rfl⟩};{exact⟨a.g,rfl,rfl,rfl⟩}
theorem z8s {b:Bare}{n:Int}(h:SmB b):SmB (zjT b n):=by unfold zjT;cases zfb b n;{exact h};{unfold zG8;cases ieq (ln (zej b.Guests n)) 0;{exact⟨h.1,(zGu _ zO3 h.2.1).1,h.2.2⟩};{exact h}}
theorem zbaz {b:Bare}(h:SmB b):SmB (zmK b):=by unfold zmK;cases zbR b;{exact h};{exact h}
theorem zus {H a:Host}{x y:Bool}(c:H=a)(d:x=y):some [AV.agg (zbi H),AV.one (.b x)]=some [AV.agg (zbi a),AV.one (.b y)]:=by rw[c,d]
theorem zbcY {H a:Host}{n k:Int}{x y:Bool}(c:H=a)(d:n=k)(e:x=y):some [AV.agg (zbi H),AV.one (.i .i64 n),AV.one (.b x)]=some [AV.agg (zbi a),AV.one (.i .i64 k),AV.one (.b y)]:=by rw[c,d,e]
theorem z2Y {b:Bare}(g p:Int)(s:Slot)(a:SmB b):SmB (zkE b g p s):=zrb a (zbaC _ _ (zjm _ a))
theorem zbav {b c:Bare}(a:SameB b c)(h:Host)(m:Int)(g p:Int)(s:Slot):zdg h m (zkE b g p s)=zdg h m (zkE c g p s)/\zm7 b g p s=zm7 c g p s:=by have e:=a.at g;simp only[zkE,zm7,e];exact⟨zqq a _ _ _ _ _,zl0 a _ _⟩
@[simp] abbrev zyC (h:Host)(m:Int)(g p:Int)(s:Slot):Bool:=pc (zct h)
@[simp] abbrev zrV (h:Host)(m:Int)(g p:Int)(s:Slot):Host:=zeW h m (zkE (zG h m) g p s)
@[simp] abbrev zrW (h:Host)(m:Int)(g p:Int)(s:Slot):Bool:=zeg h m (zm7 (zG h m) g p s)
def zC0:Run:=rF5 dH dI dI dI (dT .slot) fun b c d e f=>(zyC b c d e f,[aH (zrV b c d e f),aB (zrW b c d e f)])
def zIz (N:Nat)(g:Host)(b d e:Int)(f:Slot):OA:=
 let a:=(zB g);let c:=(ix a.Mons b zh); (oN (zbV g) (oN (zfK a b) (cond (nB (zfJ a b)) (some [(aH a),(aB false)]) (oN (inb b (ln a.Mons)) (oN (zeT c) (oN (zrL (zbO c) d e f) (oN (zeS a b (ziD (zbO c) d e f)) (some [(aH (zhi a b (ziD (zbO c) d e f))),(aB (zkJ (zbO c) d e f))]))))))))
theorem zVe (a:Host)(c d e:Int)(f:Slot)(n:zyC a c d e f=true):∃N,zIz N a c d e f=some [aH (zrV a c d e f),aB (zrW a c d e f)]:=by
 have i:=(zS a).1 (zN.1 n);refine⟨0,?_⟩;have j:=zoe (h:=a) (m:=c) (cB:=zrL (zc7 (ix a.Mons c mZ)) d e f) (B:=ziD (zc7 (ix a.Mons c mZ)) d e f) (o0:=fun H=>[.agg (zbi H),.one (.b false)]) (o1:=fun H=>[.agg (zbi H),.one (.b (zkJ (zc7 (ix a.Mons c mZ)) d e f))]) i
  (fun g=>zby (ze3 (i.2.1.2 _ (zbB (zcL.1 g).2 _)))) (fun g=>z2Y _ _ _ (ze3 (i.2.1.2 _ (zbB (zcL.1 g).2 _))))
 refine(show zIz 0 a c d e f=_ from j).trans ?_;unfold zrV zrW zeW zeg;cases g:zcR a c;{rfl};{obtain⟨k,l⟩:=zbav (zjx g (zoB g)) a c d e f;simp only[cT];exact zus k l}
theorem zNO:vL 157 zC0:=kF5 zjo zu zb9 zdq (zx []) zVe
theorem zPs {b:Bare}(g v:Int)(a:SmB b):SmB (zhp b g v):=zrb a (zbaA _ (zjm _ a))
theorem z1Q {b c:Bare}(a:SameB b c)(h:Host)(m:Int)(g v:Int):zdg h m (zhp b g v)=zdg h m (zhp c g v)/\zi3 b g v=zi3 c g v:=by have e:=a.at g;simp only[zhp,zi3,e];exact⟨zqq a _ _ _ _ _,zl0 a _ _⟩
@[simp] abbrev zq2 (h:Host)(m:Int)(g v:Int):Bool:=pc (zct h)
@[simp] abbrev zmr (h:Host)(m:Int)(g v:Int):Host:=zeW h m (zhp (zG h m) g v)
@[simp] abbrev zms (h:Host)(m:Int)(g v:Int):Bool:=zeg h m (zi3 (zG h m) g v)
def zvJ:Run:=rF4 dH dI dI dI fun b c d e=>(zq2 b c d e,[aH (zmr b c d e),aB (zms b c d e)])
def zy4 (N:Nat)(f:Host)(b d e:Int):OA:=
 let a:=(zB f);let c:=(ix a.Mons b zh); (oN (zbV f) (oN (zfK a b) (cond (nB (zfJ a b)) (some [(aH a),(aB false)]) (oN (inb b (ln a.Mons)) (oN (zeT c) (oN (zml (zbO c) d e) (oN (zeS a b (zf4 (zbO c) d e)) (some [(aH (zhi a b (zf4 (zbO c) d e))),(aB (zht (zbO c) d e))]))))))))
theorem zLj (a:Host)(c d e:Int)(l:zq2 a c d e=true):∃N,zy4 N a c d e=some [aH (zmr a c d e),aB (zms a c d e)]:=by
 have g:=(zS a).1 (zN.1 l);refine⟨0,?_⟩;have i:=zoe (h:=a) (m:=c) (cB:=zml (zc7 (ix a.Mons c mZ)) d e) (B:=zf4 (zc7 (ix a.Mons c mZ)) d e) (o0:=fun H=>[.agg (zbi H),.one (.b false)]) (o1:=fun H=>[.agg (zbi H),.one (.b (zht (zc7 (ix a.Mons c mZ)) d e))]) g
  (fun f=>zby (ze3 (g.2.1.2 _ (zbB (zcL.1 f).2 _)))) (fun f=>zPs _ _ (ze3 (g.2.1.2 _ (zbB (zcL.1 f).2 _))))
 refine(show zy4 0 a c d e=_ from i).trans ?_;unfold zmr zms zeW zeg;cases f:zcR a c;{rfl};{obtain⟨j,k⟩:=z1Q (zjx f (zoB f)) a c d e;simp only[cT];exact zus j k}
theorem zEP:vL 159 zvJ:=kF4 zjo zu zb9 zdq (zx []) zLj
theorem zPu {b:Bare}(g:Int)(a:SmB b):SmB (zhr b g):=zrb a (zbaB (zjm _ a))
theorem z1S {b c:Bare}(a:SameB b c)(h:Host)(m:Int)(g:Int):zdg h m (zhr b g)=zdg h m (zhr c g)/\zi5 b g=zi5 c g:=by have e:=a.at g;simp only[zhr,zi5,e];exact⟨zqq a _ _ _ _ _,zl0 a _ _⟩
@[simp] abbrev zq4 (h:Host)(m:Int)(g:Int):Bool:=pc (zct h)
@[simp] abbrev zmv (h:Host)(m:Int)(g:Int):Host:=zeW h m (zhr (zG h m) g)
@[simp] abbrev zmw (h:Host)(m:Int)(g:Int):Bool:=zeg h m (zi5 (zG h m) g)
def zvL:Run:=rF3 dH dI dI fun b c d=>(zq4 b c d,[aH (zmv b c d),aB (zmw b c d)])
def zy6 (N:Nat)(e:Host)(b d:Int):OA:=
 let a:=(zB e);let c:=(ix a.Mons b zh); (oN (zbV e) (oN (zfK a b) (cond (nB (zfJ a b)) (some [(aH a),(aB false)]) (oN (inb b (ln a.Mons)) (oN (zeT c) (oN (zmn (zbO c) d) (oN (zeS a b (zf6 (zbO c) d)) (some [(aH (zhi a b (zf6 (zbO c) d))),(aB (zhv (zbO c) d))]))))))))
theorem zLl (a:Host)(c d:Int)(k:zq4 a c d=true):∃N,zy6 N a c d=some [aH (zmv a c d),aB (zmw a c d)]:=by
 have f:=(zS a).1 (zN.1 k);refine⟨0,?_⟩;have g:=zoe (h:=a) (m:=c) (cB:=zmn (zc7 (ix a.Mons c mZ)) d) (B:=zf6 (zc7 (ix a.Mons c mZ)) d) (o0:=fun H=>[.agg (zbi H),.one (.b false)]) (o1:=fun H=>[.agg (zbi H),.one (.b (zhv (zc7 (ix a.Mons c mZ)) d))]) f
  (fun e=>zby (ze3 (f.2.1.2 _ (zbB (zcL.1 e).2 _)))) (fun e=>zPu _ (ze3 (f.2.1.2 _ (zbB (zcL.1 e).2 _))))
 refine(show zy6 0 a c d=_ from g).trans ?_;unfold zmv zmw zeW zeg;cases e:zcR a c;{rfl};{obtain⟨i,j⟩:=z1S (zjx e (zoB e)) a c d;simp only[cT];exact zus i j}
theorem zER:vL 160 zvL:=kF3 zjo zu zb9 zdq (zx []) zLl
theorem zPt {b:Bare}(g n:Int)(a:SmB b):SmB (zhq b g n):=zrb a (zjm (b:=b) _ a)
theorem z1R {b c:Bare}(a:SameB b c)(h:Host)(m:Int)(g n:Int):zdg h m (zhq b g n)=zdg h m (zhq c g n)/\zi4 b g n=zi4 c g n:=by have e:=a.at g;simp only[zhq,zi4,e];exact⟨zqq a _ _ _ _ _,zl0 a _ _⟩
@[simp] abbrev zq3 (h:Host)(m:Int)(g n:Int):Bool:=pc (zct h)
@[simp] abbrev zmt (h:Host)(m:Int)(g n:Int):Host:=zeW h m (zhq (zG h m) g n)
@[simp] abbrev zmu (h:Host)(m:Int)(g n:Int):Bool:=zeg h m (zi4 (zG h m) g n)
def zvK:Run:=rF4 dH dI dI dI fun b c d e=>(zq3 b c d e,[aH (zmt b c d e),aB (zmu b c d e)])
def zy5 (N:Nat)(f:Host)(b d e:Int):OA:=
 let a:=(zB f);let c:=(ix a.Mons b zh); (oN (zbV f) (oN (zfK a b) (cond (nB (zfJ a b)) (some [(aH a),(aB false)]) (oN (inb b (ln a.Mons)) (oN (zeT c) (oN (zmm (zbO c) d e) (oN (zeS a b (zf5 (zbO c) d e)) (some [(aH (zhi a b (zf5 (zbO c) d e))),(aB (zhu (zbO c) d e))]))))))))
theorem zLk (a:Host)(c d e:Int)(l:zq3 a c d e=true):∃N,zy5 N a c d e=some [aH (zmt a c d e),aB (zmu a c d e)]:=by
 have g:=(zS a).1 (zN.1 l);refine⟨0,?_⟩;have i:=zoe (h:=a) (m:=c) (cB:=zmm (zc7 (ix a.Mons c mZ)) d e) (B:=zf5 (zc7 (ix a.Mons c mZ)) d e) (o0:=fun H=>[.agg (zbi H),.one (.b false)]) (o1:=fun H=>[.agg (zbi H),.one (.b (zhu (zc7 (ix a.Mons c mZ)) d e))]) g
  (fun f=>zby (ze3 (g.2.1.2 _ (zbB (zcL.1 f).2 _)))) (fun f=>zPt _ _ (ze3 (g.2.1.2 _ (zbB (zcL.1 f).2 _))))
 refine(show zy5 0 a c d e=_ from i).trans ?_;unfold zmt zmu zeW zeg;cases f:zcR a c;{rfl};{obtain⟨j,k⟩:=z1R (zjx f (zoB f)) a c d e;simp only[cT];exact zus j k}
theorem zEQ:vL 161 zvK:=kF4 zjo zu zb9 zdq (zx []) zLk
theorem z2X {b:Bare}(g:Int)(x:Ctl)(a:SmB b):SmB (zkD b g x):=zrb a (zjm (b:=b) _ a)
theorem zbau {b c:Bare}(a:SameB b c)(h:Host)(m:Int)(g:Int)(x:Ctl):zdg h m (zkD b g x)=zdg h m (zkD c g x)/\zm6 b g x=zm6 c g x:=by have e:=a.at g;simp only[zkD,zm6,e];exact⟨zqq a _ _ _ _ _,zl0 a _ _⟩
@[simp] abbrev zyz (h:Host)(m:Int)(g:Int)(x:Ctl):Bool:=pc (zct h)
@[simp] abbrev zrR (h:Host)(m:Int)(g:Int)(x:Ctl):Host:=zeW h m (zkD (zG h m) g x)
@[simp] abbrev zrS (h:Host)(m:Int)(g:Int)(x:Ctl):Bool:=zeg h m (zm6 (zG h m) g x)
def zCX:Run:=rF4 dH dI dI dC fun b c d e=>(zyz b c d e,[aH (zrR b c d e),aB (zrS b c d e)])
def zIw (N:Nat)(f:Host)(b d:Int)(e:Ctl):OA:=
 let a:=(zB f);let c:=(ix a.Mons b zh); (oN (zbV f) (oN (zfK a b) (cond (nB (zfJ a b)) (some [(aH a),(aB false)]) (oN (inb b (ln a.Mons)) (oN (zeT c) (oN (zrK (zbO c) d e) (oN (zeS a b (ziC (zbO c) d e)) (some [(aH (zhi a b (ziC (zbO c) d e))),(aB (zkI (zbO c) d e))]))))))))
theorem zVb (a:Host)(c d:Int)(e:Ctl)(l:zyz a c d e=true):∃N,zIw N a c d e=some [aH (zrR a c d e),aB (zrS a c d e)]:=by
 have g:=(zS a).1 (zN.1 l);refine⟨0,?_⟩;have i:=zoe (h:=a) (m:=c) (cB:=zrK (zc7 (ix a.Mons c mZ)) d e) (B:=ziC (zc7 (ix a.Mons c mZ)) d e) (o0:=fun H=>[.agg (zbi H),.one (.b false)]) (o1:=fun H=>[.agg (zbi H),.one (.b (zkI (zc7 (ix a.Mons c mZ)) d e))]) g
  (fun f=>zby (ze3 (g.2.1.2 _ (zbB (zcL.1 f).2 _)))) (fun f=>z2X _ _ (ze3 (g.2.1.2 _ (zbB (zcL.1 f).2 _))))
 refine(show zIw 0 a c d e=_ from i).trans ?_;unfold zrR zrS zeW zeg;cases f:zcR a c;{rfl};{obtain⟨j,k⟩:=zbau (zjx f (zoB f)) a c d e;simp only[cT];exact zus j k}
theorem zNL:vL 162 zCX:=kF4 zjo zu zb9 zdq (zx []) zVb
theorem zZE {b:Bare}(n:Int)(a:SmB b):SmB (zln b n):=z8s a
theorem z8l {b c:Bare}(f:SameB b c)(h:Host)(m n:Int):zdg h m (zln b n)=zdg h m (zln c n)/\zpc b n=zpc c n:=by obtain⟨a,d,e⟩:=z7U f n;exact⟨back_eq a d,e⟩
@[simp] abbrev zvV (h:Host)(m:Int)(n:Int):Bool:=pc (zct h)
@[simp] abbrev zpF (h:Host)(m:Int)(n:Int):Host:=zeW h m (zln (zG h m) n)
@[simp] abbrev zpG (h:Host)(m:Int)(n:Int):Bool:=zeg h m (zpc (zG h m) n)
def zz5:Run:=rF3 dH dI dI fun b c d=>(zvV b c d,[aH (zpF b c d),aB (zpG b c d)])
def zD7 (N:Nat)(e:Host)(b d:Int):OA:=
 let a:=(zB e);let c:=(ix a.Mons b zh); (oN (zbV e) (oN (zfK a b) (cond (nB (zfJ a b)) (some [(aH a),(aB false)]) (oN (inb b (ln a.Mons)) (oN (zeT c) (oN (zpx (zbO c) d) (oN (zeS a b (zi8 (zbO c) d)) (some [(aH (zhi a b (zi8 (zbO c) d))),(aB (zly (zbO c) d))]))))))))
theorem zRM (a:Host)(c d:Int)(k:zvV a c d=true):∃N,zD7 N a c d=some [aH (zpF a c d),aB (zpG a c d)]:=by
 have f:=(zS a).1 (zN.1 k);refine⟨0,?_⟩;have g:=zoe (h:=a) (m:=c) (cB:=zpx (zc7 (ix a.Mons c mZ)) d) (B:=zi8 (zc7 (ix a.Mons c mZ)) d) (o0:=fun H=>[.agg (zbi H),.one (.b false)]) (o1:=fun H=>[.agg (zbi H),.one (.b (zly (zc7 (ix a.Mons c mZ)) d))]) f
  (fun e=>zby (ze3 (f.2.1.2 _ (zbB (zcL.1 e).2 _)))) (fun e=>zZE _ (ze3 (f.2.1.2 _ (zbB (zcL.1 e).2 _))))
 refine(show zD7 0 a c d=_ from g).trans ?_;unfold zpF zpG zeW zeg;cases e:zcR a c;{rfl};{obtain⟨i,j⟩:=z8l (zjx e (zoB e)) a c d;simp only[cT];exact zus i j}
theorem zKJ:vL 165 zz5:=kF3 zjo zu zb9 zdq (zx []) zRM
theorem z2W {b:Bare}(a:SmB b):SmB (zm5 b):=zbaz a
theorem zbat {b c:Bare}(g:SameB b c)(h:Host)(m:Int):zdg h m (zm5 b)=zdg h m (zm5 c)/\zrD b=zrD c/\zrE b=zrE c:=by obtain⟨a,d,e,f⟩:=z8K g;exact⟨back_eq a d,e,f⟩
@[simp] abbrev zyy (h:Host)(m:Int):Bool:=pc (zct h)
@[simp] abbrev zrO (h:Host)(m:Int):Host:=zeW h m (zm5 (zG h m))
@[simp] abbrev zrP (h:Host)(m:Int):Int:=bif zcR h m then zrD (zG h m) else -1
@[simp] abbrev zrQ (h:Host)(m:Int):Bool:=zeg h m (zrE (zG h m))
def zCW:Run:=rF2 dH dI fun b c=>(zyy b c,[aH (zrO b c),aI (zrP b c),aB (zrQ b c)])
def zIu (N:Nat)(d:Host)(b:Int):OA:=
 let a:=(zB d);let c:=(ix a.Mons b zh); (oN (zbV d) (oN (zfK a b) (cond (nB (zfJ a b)) (some [(aH a),(aI (-1)),(aB false)]) (oN (inb b (ln a.Mons)) (oN (zeT c) (oN (zrJ (zbO c)) (oN (zeS a b (ziB (zbO c))) (some [(aH (zhi a b (ziB (zbO c)))),(aI (zkG (zbO c))),(aB (zkH (zbO c)))]))))))))
theorem zU9 (a:Host)(c:Int)(l:zyy a c=true):∃N,zIu N a c=some [aH (zrO a c),aI (zrP a c),aB (zrQ a c)]:=by
 have e:=(zS a).1 (zN.1 l);refine⟨0,?_⟩;have f:=zoe (h:=a) (m:=c) (cB:=zrJ (zc7 (ix a.Mons c mZ))) (B:=ziB (zc7 (ix a.Mons c mZ))) (o0:=fun H=>[.agg (zbi H),.one (.i .i64 (-1)),.one (.b false)]) (o1:=fun H=>[.agg (zbi H),.one (.i .i64 (zkG (zc7 (ix a.Mons c mZ)))),.one (.b (zkH (zc7 (ix a.Mons c mZ))))]) e
  (fun d=>zby (ze3 (e.2.1.2 _ (zbB (zcL.1 d).2 _)))) (fun d=>z2W (ze3 (e.2.1.2 _ (zbB (zcL.1 d).2 _))))
 refine(show zIu 0 a c=_ from f).trans ?_;unfold zrO zrP zrQ zeW zeg;cases d:zcR a c;{rfl};{obtain⟨g,j,k⟩:=zbat (zjx d (zoB d)) a c;simp only[cT];exact zbcY g j k}
theorem zNK:vL 166 zCW:=kF2 zjo zu zb9 zdq (zx []) zU9
def z6n:zbb:=[(157,zC0),(159,zvJ),(160,zvL),(161,zvK),(162,zCX),(165,zz5),(166,zCW)]++z6m
theorem zwB:zM z6n:=zi zNO (zi zEP (zi zER (zi zEQ (zi zNL (zi zKJ (zi zNK zjo))))))
def zj6 (h:Host)(m t:Int):Host:=bif zce h then (cond (hasB m (ln h.Mons)) (cond (win t 0 3) {h with Mons:=up h.Mons m {ix h.Mons m mZ with Traps:=t}} h) h) else h
def zBW (h:Host)(m t:Int):Bool:=bif zce h then (cond (hasB m (ln h.Mons)) (win t 0 3) false) else false
@[simp] abbrev zvZ (h:Host)(m t:Int):Bool:=pc (zct h)
@[simp] abbrev zpN (h:Host)(m t:Int):Host:=zj6 h m t
@[simp] abbrev zpO (h:Host)(m t:Int):Bool:=zBW h m t
def zAa:Run:=rF3 dH dI dI fun b c d=>(zvZ b c d,[aH (zpN b c d),aB (zpO b c d)])
def zEc (N:Nat)(d:Host)(b c:Int):OA:=
 let a:=(zB d); (oN (zbV d) (oN (zfD a) (cond (nB (zfC a)) (some [(aH a),(aB false)]) (oN (zO b 0 (wsub .i64 (ln a.Mons) 1)) (cond (nB (zU b 0 (wsub .i64 (ln a.Mons) 1))) (some [(aH a),(aB false)]) (oN (zO c 0 3) (cond (nB (zU c 0 3)) (some [(aH a),(aB false)]) (oN (inb b (ln a.Mons)) (share (up a.Mons b ({ (ix a.Mons b zh) with Traps:=c}:Mon)) (fun e=>(some [(aH ({a with Mons:=e}:Host)),(aB true)])))))))))))
theorem zRS (a:Host)(b c:Int)(d:zvZ a b c=true):∃N,zEc N a b c=some [aH (zpN a b c),aB (zpO a b c)]:=by
 have g:=(zS a).1 (zN.1 d);refine⟨0,?_⟩;unfold zEc zpN zpO zj6 zBW oN nB;conv=>zeta
 refine must d (must rfl ?_);rw[show zfC (zB a)=zce a from rfl];cases e:zce a;{rfl};{refine zdh rfl (must rfl ?_);rw[show zU b 0 (wsub .i64 (ln (zB a).Mons) 1)=hasB b (ln a.Mons) from zSL e b];cases f:hasB b (ln a.Mons);{rfl};{refine zdh rfl (must rfl ?_);rw[show zU c 0 3=win c 0 3 from rfl];cases h:win c 0 3;{rfl};{exact zdh rfl (must (zy f) rfl)}}}
theorem zKP:vL 231 zAa:=kF3 zwB zu zb9 zdq (zx []) zRS
theorem zkF {h:Host}{m p:Int}:(zcC h m p=true)↔zce h=true/\hasB m (ln h.Mons)=true/\hasB p 8=true:=by unfold zcC;cases zce h<;>cases hasB m (ln h.Mons)<;>simp
def zkX (h:Host)(m p:Int):Bool:=ieq (ix (ix h.Mons m mZ).Outer p sZ).Page (-1)
def zqM (h:Host)(m p:Int):Host:=bif zcC h m p then (cond (zkX h m p) h (zdD h m p)) else h
def zFg (h:Host)(m p:Int):Bool:=bif zcC h m p then !zkX h m p else false
def zvt (h:Host)(m p:Int):Host:=bif zcC h m p then (cond (zkX h m p) (fetched h m p) h) else h
def zLt (h:Host)(m p:Int):Bool:=bif zcC h m p then zkX h m p else false
@[simp] abbrev zyF (h:Host)(m p:Int):Bool:=pc (zct h)
@[simp] abbrev zrZ (h:Host)(m p:Int):Host:=zqM h m p
@[simp] abbrev zr0 (h:Host)(m p:Int):Bool:=zFg h m p
@[simp] abbrev zBJ (h:Host)(m p:Int):Bool:=pc (zct h)
@[simp] abbrev zuf (h:Host)(m p:Int):Host:=zvt h m p
@[simp] abbrev zug (h:Host)(m p:Int):Bool:=zLt h m p
theorem zOR {h:Host}(f:SmH h)(c:zce h=true){m p:Int}(d:hasB m (ln h.Mons)=true)(e:hasB p 8=true) :
 (cond (ieq (ix (ix h.Mons m mZ).Outer p sZ).Page (-1)) (ieq (ix (ix h.Mons m mZ).Outer p sZ).Rights 0) false)=zkX h m p:=by
 have a:=(zt4 (zg9 c _ (zbB d mZ)) e).no;unfold zc4 at a;unfold zkX;rw[<- a];cases b:ieq (ix (ix h.Mons m mZ).Outer p sZ).Page (-1)<;>simp [noSlot,b]
theorem zTQ {h:Host}(d:SmH h)(a:zce h=true){m p:Int}(b:hasB m (ln h.Mons)=true)(c:hasB p 8=true):inb p (ln (ix h.Mons m mZ).Outer)=true :=
 zy (by rw[ln,((zfx d a).1.2 _ (zbB b mZ)).1];exact c)
def zC4:Run:=rF3 dH dI dI fun b c d=>(zyF b c d,[aH (zrZ b c d),aB (zr0 b c d)])
def zID (N:Nat)(e:Host)(c b:Int):OA:=
 let a:=(zB e);let d:=(ix a.Mons c zh).Outer; (oN (zbV e) (oN (zow a c b) (cond (nB (zh4 a c b)) (some [(aH a),(aB false)]) (oN (inb c (ln a.Mons)) (oN (inb b (ln d)) (oN zcA (cond (cond (ieq (ix d b zW).Page zbw.Page) (ieq (ix d b zW).Rights zbw.Rights) false) (some [(aH a),(aB false)]) (oN (zup a c b) (some [(aH (zBV a c b)),(aB true)])))))))))
theorem zVj (a:Host)(b c:Int)(h:zyF a b c=true):∃N,zID N a b c=some [aH (zrZ a b c),aB (zr0 a b c)]:=by
 have g:=(zS a).1 (zN.1 h);refine⟨0,?_⟩;unfold zID zrZ zr0 zqM zFg oN nB;conv=>zeta
 refine must h (must rfl ?_);rw[show zh4 (zB a) b c=zcC a b c from rfl];cases i:zcC a b c;{rfl};{obtain⟨e,d,f⟩:=zkF.1 i;refine zdh rfl (must (zy d) (must (zTQ g e d f) (must rfl ?_)));rw[show (cond (ieq (ix (ix (zB a).Mons b zh).Outer c zW).Page zbw.Page) (ieq (ix (ix (zB a).Mons b zh).Outer c zW).Rights zbw.Rights) false)=zkX a b c from zOR g e d f];cases j:zkX a b c;{exact zdh rfl (must (zby ⟨(zfx g e).1,d,f⟩) rfl)};{rfl}}
theorem zNS:vL 29 zC4:=kF3 zwB zu zb9 zdq (zx []) zVj
def zFZ:Run:=rF3 dH dI dI fun b c d=>(zBJ b c d,[aH (zuf b c d),aB (zug b c d)])
def zMC (N:Nat)(e:Host)(c b:Int):OA:=
 let a:=(zB e);let d:=(ix a.Mons c zh).Outer; (oN (zbV e) (oN (zow a c b) (cond (nB (zh4 a c b)) (some [(aH a),(aB false)]) (oN (inb c (ln a.Mons)) (oN (inb b (ln d)) (oN zcA (cond (nB (cond (ieq (ix d b zW).Page zbw.Page) (ieq (ix d b zW).Rights zbw.Rights) false)) (some [(aH a),(aB false)]) (oN (zxQ a c b) (some [(aH (zAn a c b)),(aB true)])))))))))
theorem zYm (a:Host)(b c:Int)(h:zBJ a b c=true):∃N,zMC N a b c=some [aH (zuf a b c),aB (zug a b c)]:=by
 have g:=(zS a).1 (zN.1 h);refine⟨0,?_⟩;unfold zMC zuf zug zvt zLt oN nB;conv=>zeta
 refine must h (must rfl ?_);rw[show zh4 (zB a) b c=zcC a b c from rfl];cases i:zcC a b c;{rfl};{obtain⟨e,d,f⟩:=zkF.1 i;refine zdh rfl (must (zy d) (must (zTQ g e d f) (must rfl ?_)));rw[show (cond (ieq (ix (ix (zB a).Mons b zh).Outer c zW).Page zbw.Page) (ieq (ix (ix (zB a).Mons b zh).Outer c zW).Rights zbw.Rights) false)=zkX a b c from zOR g e d f];cases j:zkX a b c;{rfl};{exact zdh rfl (must (zby ⟨zfx g e,d,f⟩) rfl)}}
theorem zQT:vL 30 zFZ:=kF3 zwB zu zb9 zdq (zx []) zYm
def z6o:zbb:=[(231,zAa),(29,zC4),(30,zFZ)]++z6n
theorem zTl:zM z6o:=zi zKP (zi zNS (zi zQT zwB))
theorem z5J {x:Mon}{b:Bare}(h:zft x)(a:zk3 b.Guests):zft (zww x b):=⟨h.1,h.2.1,h.2.2.1,a,h.2.2.2.2⟩
theorem zLN {h:Host}{m:Int}{b:Bare}(a:SmH h)(d:hasB m (ln h.Mons)=true)(c:zk3 b.Guests):SmH (zdg h m b):=
 ⟨a.1,zjy a.2.1 (z5J (a.2.1.2 _ (zbB d _)) c),a.2.2⟩
theorem zWA {h:Host}{m:Int}(b:Bare)(a:hasB m (ln h.Mons)=true):hasB m (ln (zdg h m b).Mons)=true:=by show hasB m (ln (up h.Mons m _))=true;rw[ln,zgX];exact a
theorem zbcP {h:Host}{m:Int}(b:Bare)(c:hasB m (ln h.Mons)=true):ix (zdg h m b).Mons m mZ=zww (ix h.Mons m mZ) b:=by obtain⟨k,rfl,a⟩:=zdX (n:=h.Mons.length) c;exact zd3 a _ _
def zED (h:Host)(m g p:Int):Host:=⟨h.Memory,up h.Mons m {ix h.Mons m mZ with Tables:=up (ix h.Mons m mZ).Tables g (zbY (ix (ix h.Mons m mZ).Tables g kZ) p)},zcF h.Buffer (zdT m g) p,zcF h.IoBuffer (zdT m g) p⟩
def z6R (H:Host)(m g p:Int)(o:Host->Ans):OA:=
 bif inb m (ln H.Mons) then (bif inb m (ln H.Mons) then (bif inb g (ln (ix H.Mons m mZ).Tables) then (bif zmp (ix (ix H.Mons m mZ).Tables g kZ) p then (bif inb g (ln (ix H.Mons m mZ).Tables) then (share (up H.Mons m {ix H.Mons m mZ with Tables:=up (ix H.Mons m mZ).Tables g (zbY (ix (ix H.Mons m mZ).Tables g kZ) p)}) fun x=>
  (cond (zlD m g) (cond (zgT H.Buffer (zdT m g) p) (cond (zlD m g) (cond (zgT H.IoBuffer (zdT m g) p) (some (o ⟨H.Memory,x,zcF H.Buffer (zdT m g) p,zcF H.IoBuffer (zdT m g) p⟩)) none) none) none) none)) else none) else none) else none) else none) else none
theorem z6S {H:Host}{m g p:Int}{o:Host->Ans}(b:SmH H)(a:hasB m (ln H.Mons)=true)(hg:hasB g (ln (ix H.Mons m mZ).Tables)=true):z6R H m g p o=some (o (zED H m g p)):=by have c:=b.2.1.2 _ (zbB a mZ);unfold z6R;exact must (zy a) (must (zy a) (must (zy hg) (must (zby (c.2.2.2.2.2.2 _ (zbB hg _))) (must (zy hg) (shr (must rfl (must (zby b.2.2.1) (must rfl (must (zby b.2.2.2) rfl)))))))))
def zlc (h:Host)(m g p:Int):Host:=bif zcR h m then (cond (zb7 (zG h m) g (hasB p 4)) (zED (zdg h m (chg (zG h m) g (hasB p 4) (zd1 (gAt (zG h m) g) p))) m g p) h) else h
@[simp] abbrev ztw (h:Host)(m g p:Int):Bool:=pc (zct h)
@[simp] abbrev znz (h:Host)(m g p:Int):Host:=zlc h m g p
@[simp] abbrev znA (h:Host)(m g p:Int):Bool:=zeg h m (zb7 (zG h m) g (hasB p 4))
theorem z1T {h:Host}{m:Int}(a:hasB m (ln h.Mons)=true):(zG h m).Guests=(ix h.Mons m mZ).Guests:=by unfold zG;rw[a];rfl
theorem zTy {h:Host}{m g:Int}{k:Bool}(i:SmH h)(e:zcR h m=true)(b:Bare)(a:zb7 (zG h m) g k=true):hasB g (ln (ix (zdg h m b).Mons m mZ).Tables)=true:=by obtain⟨f,c⟩:=zcL.1 e;rw[zbcP b c];show hasB g (ln (ix h.Mons m mZ).Tables)=true;rw[ln,((zfx i f).1.2 _ (zbB c mZ)).2.2.2,<- z1T c];unfold zb7 at a;cases d:zci (zG h m) g;{rw [d]at a;cases a};{exact(zdR.1 d).2}
def zxl:Run:=rF4 dH dI dI dI fun b c d e=>(ztw b c d e,[aH (znz b c d e),aB (znA b c d e)])
def zCo (N:Nat)(i:Host)(a b c:Int):OA:=
 let h:=(zuG a b);let e:=(zB i);let g:=(ix e.Mons a zh);let d:=(zhi e a (zeX (zbO g) b c));let f:=(ix d.Mons a zh);let j:=(ix f.Tables b zeU); (oN (zbV i) (oN (zfK e a) (cond (nB (zfJ e a)) (some [(aH e),(aB false)]) (oN (inb a (ln e.Mons)) (oN (zeT g) (oN (zts (zbO g) b c) (cond (nB (zh2 (zbO g) b c)) (some [(aH e),(aB false)]) (oN (zeS e a (zeX (zbO g) b c)) (oN (inb a (ln d.Mons)) (oN (inb a (ln d.Mons)) (oN (inb b (ln f.Tables)) (oN (zmp j c) (oN (inb b (ln f.Tables)) (share (up d.Mons a ({f with Tables:=(up f.Tables b (zlz j c))}:Mon)) (fun k=>(oN (zlD a b) (oN (zgT d.Buffer h c) (oN (zlD a b) (oN (zgT d.IoBuffer h c) (some [(aH (⟨d.Memory,k,(zne d.Buffer h c),(zne d.IoBuffer h c)⟩:Host)),(aB true)]))))))))))))))))))))
theorem zOJ (a:Host)(c d e:Int)(j:zcE big [aH a,aI c,aI d,aI e])(q:ztw a c d e=true):∃N,zCo N a c d e=some [aH (znz a c d e),aB (znA a c d e)]:=by
 have k:=(zS a).1 (zN.1 q);refine⟨0,?_⟩;unfold zCo znz znA zlc zeg oN nB;conv=>zeta
 refine must q (must rfl ?_);rw[show zfJ (zB a) c=zcR a c from rfl];cases h:zcR a c;{rfl};{obtain⟨v,f⟩:=zcL.1 h;have r:=k.2.1.2 _ (zbB f mZ);have l:=ze3 r;have i:=zjx h (zoB h);have u:zb7 (zc7 (ix a.Mons c mZ)) d (hasB e 4)=zb7 (zG a c) d (hasB e 4):=zl0 i _ _;have s:zdg a c (zeX (zc7 (ix a.Mons c mZ)) d e)=zdg a c (chg (zG a c) d (hasB e 4) (zd1 (gAt (zG a c) d) e)):=(by rw[<- i.at];exact zqq i _ _ _ _ _);refine zdh rfl (must (zy f) (must (zby r) (must (zby l) ?_)));rw[show zh2 (zbO (ix (zB a).Mons c zh)) d e=zb7 (zG a c) d (hasB e 4) from u];cases t:zb7 (zG a c) d (hasB e 4);{rfl};{have j:SmB (zeX (zc7 (ix a.Mons c mZ)) d e):=zrb l (zPw _ (zjm _ l));refine zdh rfl (must (zby ⟨f,j.2.1⟩) ?_);have n:=z6S (H:=zdg a c (zeX (zc7 (ix a.Mons c mZ)) d e)) (m:=c) (g:=d) (p:=e) (o:=fun H=>[.agg (zbi H),.one (.b true)]) (zLN k f j.2.1) (zWA _ f) (zTy k h _ t);refine(show _=_ from n).trans ?_;rw[s];rfl}}
theorem zHy:vL 158 zxl:=hF4 zTl zu zb9 zdq (zx []) zOJ
def z6p:zbb:=[(158,zxl)]++z6o
theorem zTm:zM z6p:=zi zHy zTl
def zZc (h:Host)(m p c v:Int):Host:={mended h m p 2 with Memory:=zbF (mended h m p 2).Memory (ix (ix (mended h m p 2).Mons m mZ).Outer p sZ).Page c v}
def zfy (h:Host)(m p c v:Int):Bool:=bif zcC h m p then (cond (hasB c 4) (win v 0 99) false) else false
def znO (h:Host)(m p c v:Int):Host:=bif zfy h m p c v then zZc h m p c v else h
@[simp] abbrev zvU (h:Host)(m p c v:Int):Bool:=pc (zct h)
@[simp] abbrev zpD (h:Host)(m p c v:Int):Host:=znO h m p c v
@[simp] abbrev zpE (h:Host)(m p c v:Int):Bool:=zfy h m p c v
def zbcB (H:Host)(m p c v:Int)(o:Host->Ans):OA:=
 bif zno H m p 2 then (cond (inb m (ln (mended H m p 2).Mons)) (cond (inb p (ln (ix (mended H m p 2).Mons m mZ).Outer)) (cond (zjd (mended H m p 2).Memory (ix (ix (mended H m p 2).Mons m mZ).Outer p sZ).Page c v) (some (o (zZc H m p c v))) none) none) none) else none
theorem zbak {h:Host}{m p c v:Int}{o:Host->Ans}(j:SmH h)(i:zcC h m p=true):zbcB h m p c v o=some (o (zZc h m p c v)):=by obtain⟨g,b,a⟩:=zkF.1 i;have f:=zfx j g;obtain⟨d,e⟩:=zv8 (n:=2) f b a;unfold zbcB;refine must (zby ⟨f,b,a,.inr rfl,zt4 (zg9 g _ (zbB b mZ)) a⟩) (must (zy e) (must (zy ?_) (must (zby d.1.1) rfl)));rw[ln,(d.2 _ (zbB e mZ)).1];exact a
def zz4:Run:=rF5 dH dI dI dI dI fun b c d e f=>(zvU b c d e f,[aH (zpD b c d e f),aB (zpE b c d e f)])
def zD6 (N:Nat)(g:Host)(b c:Int)(e f:Int):OA:=
 let a:=(zB g);let d:=(zox a b c 2);let h:=(ix d.Mons b zh).Outer;let i:=(ix h c zW).Page; (oN (zbV g) (oN (zow a b c) (cond (nB (zh4 a b c)) (some [(aH a),(aB false)]) (oN (zO e 0 3) (cond (nB (zU e 0 3)) (some [(aH a),(aB false)]) (oN (zO f 0 99) (cond (nB (zU f 0 99)) (some [(aH a),(aB false)]) (oN (zno a b c 2) (oN (inb b (ln d.Mons)) (oN (inb c (ln h)) (oN (zjd d.Memory i e f) (some [(aH ({d with Memory:=(zj0 d.Memory i e f)}:Host)),(aB true)]))))))))))))
theorem zRL (d:Host)(f g:Int)(a e:Int)(i:zvU d f g a e=true):∃N,zD6 N d f g a e=some [aH (zpD d f g a e),aB (zpE d f g a e)]:=by
 have k:=(zS d).1 (zN.1 i);refine⟨0,?_⟩;unfold zD6 zpD zpE znO zfy oN nB;conv=>zeta
 refine must i (must rfl ?_);rw[show zh4 (zB d) f g=zcC d f g from rfl];cases j:zcC d f g;{rfl};{refine zdh rfl (must rfl ?_);rw[show zU a 0 3=hasB a 4 from zbff a];cases l:hasB a 4;{rfl};{refine zdh rfl (must rfl ?_);rw[show zU e 0 99=win e 0 99 from rfl];cases m:win e 0 99;{rfl};{have h:=zbak (c:=a) (v:=e) (o:=fun H=>[.agg (zbi H),.one (.b true)]) k j;exact zdh rfl (show _=_ from h)}}}
theorem zKI:vL 164 zz4:=kF5 zTm zu zb9 zdq (zx []) zRL
def z6q:zbb:=[(164,zz4)]++z6p
theorem z6r:zM z6q:=zi zKI zTm
def z6s:zbb:=z6q
theorem zEy:zM z6s:=z6r
theorem z7w (h:Host)(b:List Entry)(m g c a:Int)(e:Bool):(lookOf h b m g c a e).2.2=zbW h m g c a:=by cases d:zbW h m g c a;{rw [zho d]};{rw [zLp d];unfold zgf zeA;generalize zhY b m g c a=x;cases x;{generalize zeq _ m g c a=y;cases y<;>rfl};{rfl}}
theorem zbdF {h:Host}{m g c a:Int}(b:List Entry)(i:Bool)(f:SmH h)(d:zbW h m g c a=true):SmM (lookOf h b m g c a i).1.Memory:=by have hg:zbM h m g=true:=(by unfold zbW at d;cases e:zbM h m g;{rw [e]at d;cases d};{rfl});exact(zuz f hg).shape.1.1
def zE0 (h:Host)(m g a n:Int):Host×Int×Bool:=lookOf h h.IoBuffer m g (zbe a) n true
def zg8 (h:Host)(m g a v:Int):Bool:=bif win a 0 15 then (cond (win v 0 99) (zbW h m g (zbe a) 2) false) else false
def zqD (h:Host)(m g a v:Int):Host:=bif zg8 h m g a v then { (zE0 h m g a 2).1 with Memory:=zbF (zE0 h m g a 2).1.Memory (zE0 h m g a 2).2.1 (zcP a) v} else h
def zgb (h:Host)(m g a:Int):Bool:=bif win a 0 15 then zbW h m g (zbe a) 1 else false
def znP (h:Host)(m g a:Int):Host:=bif zgb h m g a then (zE0 h m g a 1).1 else h
def zsw (h:Host)(m g a:Int):Int:=bif zgb h m g a then cellAt (zE0 h m g a 1).1.Memory (zE0 h m g a 1).2.1 (zcP a) else 0
@[simp] abbrev zyA (h:Host)(m g a v:Int):Bool:=pc (zct h)
@[simp] abbrev zrT (h:Host)(m g a v:Int):Host:=zqD h m g a v
@[simp] abbrev zrU (h:Host)(m g a v:Int):Bool:=zg8 h m g a v
@[simp] abbrev zvW (h:Host)(m g a:Int):Bool:=pc (zct h)
@[simp] abbrev zpH (h:Host)(m g a:Int):Host:=znP h m g a
@[simp] abbrev zpI (h:Host)(m g a:Int):Int:=zsw h m g a
@[simp] abbrev zpJ (h:Host)(m g a:Int):Bool:=zgb h m g a
def zCY:Run:=rF5 dH dI dI dI dI fun b c d e f=>(zyA b c d e f,[aH (zrT b c d e f),aB (zrU b c d e f)])
def zIx (N:Nat)(g:Host)(c d:Int)(a e:Int):OA:=
 let b:=(zB g);let h:=(zkP b b.IoBuffer c d (zcZ a) 2 true);let f:=(zfq b b.IoBuffer c d (zcZ a) 2 true); (oN (zbV g) (oN (zO a 0 15) (cond (nB (zU a 0 15)) (some [(aH b),(aB false)]) (oN (zO e 0 99) (cond (nB (zU e 0 99)) (some [(aH b),(aB false)]) (oN (zgz a) (oN (zkQ b b.IoBuffer c d (zcZ a) 2 true) (cond (nB (zhg b b.IoBuffer c d (zcZ a) 2 true)) (some [(aH f),(aB false)]) (oN (zi7 a) (oN (zjd f.Memory h (zeB a) e) (some [(aH ({f with Memory:=(zj0 f.Memory h (zeB a) e)}:Host)),(aB true)])))))))))))
theorem zVc (a:Host)(c d:Int)(b e:Int)(f:zyA a c d b e=true):∃N,zIx N a c d b e=some [aH (zrT a c d b e),aB (zrU a c d b e)]:=by
 have h:=(zS a).1 (zN.1 f);refine⟨0,?_⟩;unfold zIx zrT zrU zqD zg8 oN nB;conv=>zeta
 refine must f (must rfl ?_);rw[show zU b 0 15=win b 0 15 from rfl];cases i:win b 0 15;{rfl};{refine zdh rfl (must rfl ?_);rw[show zU e 0 99=win e 0 99 from rfl];cases j:win e 0 99;{rfl};{refine zdh rfl (must rfl (must f ?_));rw[show zhg (zB a) (zB a).IoBuffer c d (zcZ b) 2 true=zbW a c d (zbe b) 2 from z7w _ _ _ _ _ _ _];cases g:zbW a c d (zbe b) 2;{rw [show zfq (zB a) (zB a).IoBuffer c d (zcZ b) 2 true=a from congrArg Prod.fst (zho g)];rfl};{exact zdh rfl (must rfl (must (zby (zbdF a.IoBuffer true h g)) rfl))}}}
theorem zNM:vL 167 zCY:=kF5 zEy zu zb9 zdq (zx []) zVc
def zz6:Run:=rF4 dH dI dI dI fun b c d e=>(zvW b c d e,[aH (zpH b c d e),aI (zpI b c d e),aB (zpJ b c d e)])
def zD8 (N:Nat)(f:Host)(c d a:Int):OA:=
 let b:=(zB f);let g:=(zkP b b.IoBuffer c d (zcZ a) 1 true);let e:=(zfq b b.IoBuffer c d (zcZ a) 1 true); (oN (zbV f) (oN (zO a 0 15) (cond (nB (zU a 0 15)) (some [(aH b),(aI 0),(aB false)]) (oN (zgz a) (oN (zkQ b b.IoBuffer c d (zcZ a) 1 true) (cond (nB (zhg b b.IoBuffer c d (zcZ a) 1 true)) (some [(aH e),(aI 0),(aB false)]) (oN (zi7 a) (oN (zt9 e.Memory g (zeB a)) (some [(aH e),(aI (zn4 e.Memory g (zeB a))),(aB true)])))))))))
theorem zRN (a:Host)(c d b:Int)(e:zvW a c d b=true):∃N,zD8 N a c d b=some [aH (zpH a c d b),aI (zpI a c d b),aB (zpJ a c d b)]:=by
 have h:=(zS a).1 (zN.1 e);refine⟨0,?_⟩;unfold zD8 zpH zpI zpJ znP zsw zgb oN nB;conv=>zeta
 refine must e (must rfl ?_);rw[show zU b 0 15=win b 0 15 from rfl];cases g:win b 0 15;{rfl};{refine zdh rfl (must rfl (must e ?_));rw[show zhg (zB a) (zB a).IoBuffer c d (zcZ b) 1 true=zbW a c d (zbe b) 1 from z7w _ _ _ _ _ _ _];cases f:zbW a c d (zbe b) 1;{rw [show zfq (zB a) (zB a).IoBuffer c d (zcZ b) 1 true=a from congrArg Prod.fst (zho f)];rfl};{exact zdh rfl (must rfl (must rfl rfl))}}
theorem zKK:vL 168 zz6:=kF4 zEy zu zb9 zdq (zx []) zRN
def z6t:zbb:=[(167,zCY),(168,zz6)]++z6s
theorem z6u:zM z6t:=zi zNM (zi zKK zEy)
def z6v:zbb:=[(144,zqX),(145,zmk)]++z6t
theorem zTn:zM z6v:=zi zvc (zi znN z6u)
def zkC:Kept:=⟨rp 4 false,zlN⟩
@[simp] abbrev zyE (n:Int):Bool:=ieq n 4
@[simp] abbrev zxO (n:Int):Kept:=zkC
def zC2:Run:=rF1 dI fun b=>(zyE b,[aT .kept (zxO b)])
def z0s (N:Nat)(b:Int):OA:=
 let a:=(ln (zg6 b)); (oN (zjc b) (oN (cond (few a) (ieq a a) false) (some [(aT .kept (⟨(rp a false),(zg6 b)⟩:Kept))])))
theorem zVg (a:Int)(b:zyE a=true):∃N,z0s N a=some [aT .kept (zxO a)]:=by refine⟨0,?_⟩;have h:a=4:=qD b;subst h;change _=_;kernel_rfl
theorem zNQ:vL 146 zC2:=kF1 zTn zu zb9 zdq (zx []) zVg
def z6w:zbb:=[(146,zC2)]++z6v
theorem zTo:zM z6w:=zi zNQ zTn
def zwa:List Slot:=List.replicate 8 ⟨-1,0⟩
def zgW (a:List (List Ins)):Mon:=⟨zwa,zR9,rp 8 false,(a.take 2).map ze0,[],0,0,(a.take 2).map (fun _=>zkC),0⟩
theorem zON {d a b q:Type}(m:Nat)(f:d->a)(g:d->b)(K:List a×List b->Option q):∀(l:List d) (i:Nat) (u:List a×List b),u.1.length+l.length<=2147483648->u.2.length+l.length<=2147483648->
 goL (fun (i:Nat) x (u:List a×List b) k=>bif ilt (i:Int) (m:Int) then (cond (few (ln (ap u.1 [f x]))) (cond (few (ln (ap u.2 [g x]))) (k (ap u.1 [f x],ap u.2 [g x])) none) none) else K u) K l i u=K (u.1++(l.take (m-i)).map f,u.2++(l.take (m-i)).map g)
 |[],i,u,_,_=>by simp[goL]
 |x::l,i,u,n,p=>by simp only[qZ]at n p;have e:few (ln (ap u.1 [f x]))=true:=zgV (by simp[ap];omega);have j:few (ln (ap u.2 [g x]))=true:=zgV (by simp[ap];omega);by_cases h:i<m;{have c:ilt (i:Int) (m:Int)=true:=qJ (by omega);simp only[goL,c,e,j,cT];rw[zON m f g K l (i+1) _ (by simp[ap];omega) (by simp[ap];omega)];rw[show m-i=m-(i+1)+1 by omega];simp[ap]};{have c:ilt (i:Int) (m:Int)=false:=qH (by omega);simp only[goL,c,cF];rw[show m-i=0 by omega];simp}
def z7D (u:List Guest×List Kept):OA:=some [AV.agg (Ty.cells .mon (⟨zwa,zR9,rp 8 false,u.1,[],0,0,u.2,0⟩:Mon))]
@[simp] abbrev zua (a:List (List Ins)):Bool:=pc (SmPs a)
@[simp] abbrev zLI (a:List (List Ins)):Mon:=zgW a
def zFW:Run:=rF1 (dS (.sl .ins)) fun b=>(zua b,[aT .mon (zLI b)])
def zMz (N:Nat)(k:lP):OA:=
 (oN (zjc 8) (oN (zpL 8) (oN (cond (few 8) (ieq 8 8) false) (iter (σ:=(Int×(Int×(Int×(Int×(Int×(Int×(Int×(lP×(lS×(lM×(lB×(lG×((List Int)×(lK×(lS×(lM×(lB×(lG×((List Int)×(lK×Unit))))))))))))))))))))) N (fun l a=>let j:=a.2.2.2.2.2.2.2.2.2.2.2.2.2.2.1;let i:=a.2.2.2.2.2.2.2.2.2.2.2.2.2.2.2.1;let h:=a.2.2.2.2.2.2.2.2.2.2.2.2.2.2.2.2.1;let g:=a.2.2.2.2.2.2.2.2.2.2.2.2.2.2.2.2.2.1;let f:=a.2.2.2.2.2.2.2.2.2.2.2.2.2.2.2.2.2.2.1;let b:=a.2.2.2.2.2.2.2.1;let c:=a.2.2.2.2.2.2.2.2.2.2.2.2.2.2.2.2.2.2.2.1;let e:=(ap g [(zcr (ix b a.1 []))]);let d:=(aT .mon (⟨j,i,h,g,f,a.2.2.2.2.1,a.2.2.2.2.2.1,c,a.2.2.2.2.2.2.1⟩:Mon)); (cond (ilt a.1 (ln b)) (cond (ilt a.1 2) (oN (inb a.1 (ln b)) (oN (zja (ix b a.1 [])) (oN (few (ln e)) (oN (zyE 4) (oN (few (ln (ap c [(zxO 4)]))) (l ((zL .i64 a.1 1),(a.2.1,(a.2.2.1,(a.2.2.2.1,(a.2.2.2.2.1,(a.2.2.2.2.2.1,(a.2.2.2.2.2.2.1,(b,(a.2.2.2.2.2.2.2.2.1,(a.2.2.2.2.2.2.2.2.2.1,(a.2.2.2.2.2.2.2.2.2.2.1,(a.2.2.2.2.2.2.2.2.2.2.2.1,(a.2.2.2.2.2.2.2.2.2.2.2.2.1,(a.2.2.2.2.2.2.2.2.2.2.2.2.2.1,(j,(i,(h,(e,(f,((ap c [(zxO 4)]),())))))))))))))))))))))))))) (some [d])) (some [d]))) (0,(0,(0,(0,(0,(0,(0,(k,([],([],([],([],([],([],((zg6 8),((zjX 8),((rp 8 false),([],([],([],()))))))))))))))))))))))))
def zZ8:FuncId->Nat->Option Tmpl:=zx [(85,0,{n:=36,tm:=[(0,.sl 0 []),(2,.lp 0 0),(3,.lp 1 0),(4,ti)],lo:=[(0,[.sl 1 [],.sl 2 [],.sl 3 [],.sl 4 [],.sl 5 [],ti,ti,.sl 6 [],ti]),(1,[.sl 7 [],.sl 8 [],.sl 9 [],.sl 10 [],.sl 11 [],ti,ti,.sl 12 [],ti])],ro:=[(0,(.sl .ins),false),(1,.slot,true),(2,(.sl .int),true),(3,.bool,true),(4,.guest,true),(5,.int,true),(6,.kept,true),(7,.slot,true),(8,(.sl .int),true),(9,.bool,true),(10,.guest,true),(11,.int,true),(12,.kept,true)]})]
theorem zYi (a:List lI)(f:zua a=true):∃N,zMz N a=some [aT .mon (zLI a)]:=by
 have e:=zN.1 f;have c:=zc5 e.1;refine zcw fun N d=>?_;unfold zMz oN;conv=>zeta
 refine must rfl (must rfl (must rfl ?_));refine(zbj a (fun i (t:lG×lK)=>((i:Int),0,0,0,0,0,0,a,[],[],[],[],[],[],(zg6 8),(zjX 8),(rp 8 false),t.1,[],t.2,())) _ (fun i (x:List Ins) (u:List Guest×List Kept) h=>bif ilt (i:Int) ((2:Nat):Int) then (cond (few (ln (ap u.1 [ze0 x]))) (cond (few (ln (ap u.2 [zkC]))) (h (ap u.1 [ze0 x],ap u.2 [zkC])) none) none) else z7D u) (fun (t:lG×lK)=>(some [(.agg (Ty.cells .mon (⟨(zg6 8),(zjX 8),(rp 8 false),t.1,[],0,0,t.2,0⟩:Mon)))])) (fun i b t rec=>?_) (fun t rec=>?_) _ ([],[]) (d c.1)).trans ?_;{simp only [zbS b,zbl b,zbv b,zbh b c.1,cT];have g:zja a[i]=true:=zby (e.2 _ (jK b));simp only[g,cT];rfl};{simp only [zbK,cF]};exact zON 2 ze0 (fun _=>zkC) z7D a 0 ([],[]) (by simpa using c.2) (by simpa using c.2)
theorem zQQ:vL 85 zFW:=kF1 zTo zu zb9 zdq zZ8 zYi
def z6x:zbb:=[(85,zFW)]++z6w
theorem zTp:zM z6x:=zi zQQ zTo
def z4K:List (List Int):=List.replicate 12 [0,0,0,0]
def zfM (a:List (List (List Ins))):Host:=⟨z4K,(a.take 3).map zgW,[],[]⟩
def zMR (a:List (List (List Ins))):Prop:=a.length<=1048576/\∀p∈a,SmPs p
@[simp] abbrev zyB (a:List (List (List Ins))):Bool:=pc (zMR a)
@[simp] abbrev zhb (a:List (List (List Ins))):Host:=zfM a
def z2z (t:List Mon):OA:=some [AV.agg (zbi ⟨z4K,t,[],[]⟩)]
def zCZ:Run:=rF1 (dS (.sl (.sl .ins))) fun b=>(zyB b,[aH (zhb b)])
def zIy (N:Nat)(d:lQ):OA:=
 (oN (zpL 12) (iter (σ:=(Int×(lQ×(lM×(lN×(lE×(lE×(lM×(lN×(lE×(lE×Unit))))))))))) N (fun e a=>let c:=(ap a.2.2.2.2.2.2.2.1 [(zLI (ix a.2.1 a.1 []))]);let b:=(aH (⟨a.2.2.2.2.2.2.1,a.2.2.2.2.2.2.2.1,a.2.2.2.2.2.2.2.2.1,a.2.2.2.2.2.2.2.2.2.1⟩:Host)); (cond (ilt a.1 (ln a.2.1)) (cond (ilt a.1 3) (oN (inb a.1 (ln a.2.1)) (oN (zua (ix a.2.1 a.1 [])) (oN (few (ln c)) (e ((zL .i64 a.1 1),(a.2.1,(a.2.2.1,(a.2.2.2.1,(a.2.2.2.2.1,(a.2.2.2.2.2.1,(a.2.2.2.2.2.2.1,(c,(a.2.2.2.2.2.2.2.2.1,(a.2.2.2.2.2.2.2.2.2.1,())))))))))))))) (some [b])) (some [b]))) (0,(d,([],([],([],([],((zjX 12),([],([],([],()))))))))))))
def zVQ:FuncId->Nat->Option Tmpl:=zx [(37,0,{n:=28,tm:=[(0,.sl 0 []),(2,.lp 0 0),(3,.lp 1 0),(4,ti)],lo:=[(0,[.sl 1 [],.sl 2 [],.sl 3 [],.sl 4 []]),(1,[.sl 5 [],.sl 6 [],.sl 7 [],.sl 8 []])],ro:=[(0,(.sl (.sl .ins)),false),(1,(.sl .int),true),(2,.mon,true),(3,.entry,true),(4,.entry,true),(5,(.sl .int),true),(6,.mon,true),(7,.entry,true),(8,.entry,true)]})]
theorem zVd (a:List lP)(f:zyB a=true):∃N,zIy N a=some [aH (zhb a)]:=by
 have e:=zN.1 f;have d:=zc5 e.1;refine zcw fun N c=>?_;unfold zIy oN;conv=>zeta
 refine must rfl ?_;refine(zbj a (fun i (t:lN)=>((i:Int),a,[],[],[],[],(zjX 12),t,[],[],())) _ (fun i (x:List lI) (t:List Mon) h=>bif ilt (i:Int) ((3:Nat):Int) then (cond (few (ln (ap t [zgW x]))) (h (ap t [zgW x])) none) else z2z t) (fun (t:lN)=>(some [(.agg (zbi (⟨(zjX 12),t,[],[]⟩:Host)))])) (fun i b t rec=>?_) (fun t rec=>?_) _ ([]) (c d.1)).trans ?_;{simp only [zbS b,zbl b,zbv b,zbh b d.1,cT];have g:zua a[i]=true:=zby (e.2 _ (jK b));simp only[g,cT];rfl};{simp only [zbK,cF]};exact zTK 3 zgW z2z a 0 [] (by simpa using d.2)
theorem zNN:vL 37 zCZ:=kF1 zTp zu zb9 zdq zVQ zVd
def z6y:zbb:=[(37,zCZ)]++z6x
theorem zTq:zM z6y:=zi zNN zTp
def ziW:Nat->Nat->Kept->Kept
 | 0,_,k=>k
 |n+1,i,k=>ziW n (i+1) (zbY k (i:Int))
def zjD (k:Kept):Kept:=ziW k.Known.length 0 k
theorem z4h (k:Kept)(p:Int):(zbY k p).Known.length=k.Known.length:=by unfold zbY;cases zdr k p;{rfl};{exact zgX _ _ _}
theorem zyO:∀(n i:Nat) (k:Kept),SmK k->SmK (ziW n i k)
 | 0,_,_,h=>h
 |n+1,i,k,h=>zyO n (i+1) _ (zqi h)
@[simp] abbrev ztv (k:Kept):Bool:=pc (SmK k)
@[simp] abbrev zyx (k:Kept):Kept:=zjD k
def zxk:Run:=rF1 (dT .kept) fun b=>(ztv b,[aT .kept (zyx b)])
def zCn (N:Nat)(c:Kept):OA:=
 (oN (zgj c) (iter (σ:=(Int×(lB×(lS×(lB×(lS×Unit)))))) N (fun d a=>let b:=(⟨a.2.1,a.2.2.1⟩:Kept); (cond (ilt a.1 (ln a.2.1)) (oN (zmp b a.1) (d ((zL .i64 a.1 1),((zlz b a.1).Known,((zlz b a.1).Slots,(a.2.2.2.1,(a.2.2.2.2.1,()))))))) (some [(aT .kept b)]))) (0,((zdI c).Known,((zdI c).Slots,([],([],())))))))
def zPP:FuncId->Nat->Option Tmpl:=zx [(286,0,{n:=17,tm:=[(1,.lp 0 0),(2,.lp 1 0),(3,ti)],lo:=[(0,[.sl 0 [],.sl 1 []]),(1,[.sl 2 [],.sl 3 []])],ro:=[(0,.bool,true),(1,.slot,true),(2,.bool,true),(3,.slot,true)]})]
theorem zOI (a:Kept)(g:ztv a=true):∃N,zCn N a=some [aT .kept (zyx a)]:=by
 have d:=zN.1 g;have f:=zc5 d.1;refine zcw fun N c=>?_;unfold zCn oN;conv=>zeta
 refine must (zbn ((zy8 _).2 d)) ?_;refine(zG1 a.Known.length (fun i (k:Kept)=>((i:Int),(k.Known,(k.Slots,([],([],())))))) _ (fun i k=>SmK k/\k.Known.length=a.Known.length) (fun i k=>some [AV.agg (Ty.cells .kept (ziW (a.Known.length-i) i k))]) (fun i k rec e b h=>?_) (fun k rec b=>?_) N 0 a ⟨d,rfl⟩ (jZ _) (c f.1)).trans rfl;{refine must (zbS (by rw[b.2];exact e)) (must (zby b.1) ?_);have q:=h (zbY k (i:Int)) ⟨zqi b.1,by rw[z4h];exact b.2⟩;rw[show a.Known.length-i=a.Known.length-(i+1)+1 by omega];rw[zbh e f.1];exact q};{refine zdh (by show ilt (a.Known.length:Int) (ln k.Known)=false;rw[ln,b.2];exact qH (by omega)) ?_;rw[kY];rfl}
theorem zHx:vL 286 zxk:=kF1 zTq zu zb9 zdq zPP zOI
def z6z:zbb:=[(286,zxk)]++z6y
theorem zTr:zM z6z:=zi zHx zTq
def zwy:Nat->Nat->List Kept->List Kept
 | 0,_,l=>l
 |n+1,j,l=>zwy n (j+1) (up l (j:Int) (zjD (ix l (j:Int) kZ)))
def zwz (x:Mon)(n j:Nat):Mon:={x with Tables:=zwy n j x.Tables}
def zoL:Nat->Nat->List Mon->List Mon
 | 0,_,t=>t
 |n+1,i,t=>zoL n (i+1) (up t (i:Int) (zwz (ix t (i:Int) mZ) (ix t (i:Int) mZ).Tables.length 0))
def cold (h:Host):Host:=⟨h.Memory,zoL h.Mons.length 0 h.Mons,[],[]⟩
theorem zPy:∀(n j:Nat) (l:List Kept),j+n<=l.length->zEl l->zEl (zwy n j l)
 | 0,_,_,_,h=>h
 |n+1,j,l,b,h=>by have a:j<l.length:=(by omega);refine zPy n (j+1) _ (by rw[zgX];omega) (zAp h (zyO _ _ _ ?_));rw[zbv a];exact h.2 _ (jK a)
theorem zPA {x:Mon}(h:zft x){n j:Nat}(a:j+n<=x.Tables.length):zft (zwz x n j):=⟨h.1,h.2.1,h.2.2.1,h.2.2.2.1,h.2.2.2.2.1,zPy n j _ a h.2.2.2.2.2⟩
@[simp] abbrev zLF (h:Host):Bool:=pc (zct h)
@[simp] abbrev zZh (h:Host):Host:=cold h
def zPc:Run:=rF1 dH fun b=>(zLF b,[aH (zZh b)])
def zWm (N:Nat)(d:Host):OA:=
 (oN (zbV d) (iter (σ:=(Int×(lM×(lN×(lE×(lE×(lM×(lN×(lE×(lE×Unit)))))))))) N (fun g b=>(cond (ilt b.1 (ln b.2.2.1)) (iter (σ:=(Int×(Int×(lM×(lN×(lE×(lE×(lM×(lN×(lE×(lE×Unit))))))))))) N (fun h a=>let e:=(inb a.1 (ln a.2.2.2.1));let c:=(ix a.2.2.2.1 a.1 zh);let f:=(ix c.Tables a.2.1 zeU); (oN e (cond (ilt a.2.1 (ln c.Tables)) (oN e (oN e (oN (inb a.2.1 (ln c.Tables)) (oN (ztv f) (oN (inb a.2.1 (ln c.Tables)) (share (up a.2.2.2.1 a.1 ({c with Tables:=(up c.Tables a.2.1 (zyx f))}:Mon)) (fun i=>(h (a.1,((zL .i64 a.2.1 1),(a.2.2.1,(i,(a.2.2.2.2.1,(a.2.2.2.2.2.1,(a.2.2.2.2.2.2.1,(a.2.2.2.2.2.2.2.1,(a.2.2.2.2.2.2.2.2.1,(a.2.2.2.2.2.2.2.2.2.1,())))))))))))))))))) (g ((zL .i64 a.1 1),(a.2.2.1,(a.2.2.2.1,(a.2.2.2.2.1,(a.2.2.2.2.2.1,(a.2.2.2.2.2.2.1,(a.2.2.2.2.2.2.2.1,(a.2.2.2.2.2.2.2.2.1,(a.2.2.2.2.2.2.2.2.2.1,()))))))))))))) (b.1,(0,(b.2.1,(b.2.2.1,(b.2.2.2.1,(b.2.2.2.2.1,(b.2.2.2.2.2.1,(b.2.2.2.2.2.2.1,(b.2.2.2.2.2.2.2.1,(b.2.2.2.2.2.2.2.2.1,()))))))))))) (some [(aH (⟨b.2.1,b.2.2.1,[],[]⟩:Host))]))) (0,((zB d).Memory,((zB d).Mons,((zB d).Buffer,((zB d).IoBuffer,([],([],([],([],())))))))))))
def z5P:FuncId->Nat->Option Tmpl:=zx [(232,0,{n:=48,tm:=[(1,.lp 0 0),(2,.lp 1 0),(3,ti)],lo:=[(0,[.sl 0 [],.sl 1 [],.sl 2 [],.sl 3 []]),(1,[.sl 4 [],.sl 5 [],.sl 6 [],.sl 7 []])],ro:=[(0,(.sl .int),true),(1,.mon,true),(2,.entry,true),(3,.entry,true),(4,(.sl .int),true),(5,.mon,true),(6,.entry,true),(7,.entry,true)]}),(232,2,{n:=48,tm:=[(1,.lp 0 0),(2,.lp 1 0),(3,ti),(4,ti)],lo:=[(0,[.sl 0 [],.sl 1 [],.sl 2 [],.sl 3 []]),(1,[.sl 4 [],.sl 5 [],.sl 6 [],.sl 7 []])],ro:=[(0,(.sl .int),true),(1,.mon,true),(2,.entry,true),(3,.entry,true),(4,(.sl .int),true),(5,.mon,true),(6,.entry,true),(7,.entry,true)]})]
theorem z4H (a:Host)(m:zLF a=true):∃N,zWm N a=some [aH (zZh a)]:=by
 have v:=(zS a).1 (zN.1 m);have s:=zc5 v.2.1.1;refine zcw fun N f=>?_;unfold zWm oN;conv=>zeta
 refine must m ?_;refine(zG1 a.Mons.length (fun i (t:List Mon)=>((i:Int),(a.Memory,(t,(a.Buffer,(a.IoBuffer,([],([],([],([],())))))))))) _ (fun i t=>zsi t/\t.length=a.Mons.length) (fun i t=>some [AV.agg (zbi ⟨a.Memory,zoL (a.Mons.length-i) i t,[],[]⟩)]) (fun i t rec n e x=>?_) (fun t rec e=>?_) N 0 a.Mons ⟨v.2.1,rfl⟩ (jZ _) (f s.1)).trans rfl
 .have hit:i<t.length:=(by rw[e.2];exact n);have l:zft (ix t (i:Int) mZ):=by rw[zbv hit];exact e.1.2 _ (jK hit)
  have r:=zc5 l.2.2.2.2.2.1;refine must (zbS hit) ?_;refine(zG1 (ix t (i:Int) mZ).Tables.length (fun j (u:List Mon)=>((i:Int),((j:Int),(a.Memory,(u,(a.Buffer,(a.IoBuffer,([],([],([],([],())))))))))))
   _ (fun j u=>u.length=t.length/\zft (ix u (i:Int) mZ)/\(ix u (i:Int) mZ).Tables.length=(ix t (i:Int) mZ).Tables.length)
   (fun j u=>rec (((i+1:Nat):Int),(a.Memory,(up u (i:Int) (zwz (ix u (i:Int) mZ) ((ix t (i:Int) mZ).Tables.length-j) j),(a.Buffer,(a.IoBuffer,([],([],([],([],()))))))))))
   (fun j u h p c k=>?_) (fun u h c=>?_) N 0 t ⟨rfl,l,rfl⟩ (jZ _) (f r.1)).trans ?_
  .have b:i<u.length:=(by rw[c.1];exact hit);have d:j<(ix u (i:Int) mZ).Tables.length:=(by rw[c.2.2];exact p);have g:SmK (ix (ix u (i:Int) mZ).Tables (j:Int) kZ):=by rw[zbv d];exact c.2.1.2.2.2.2.2.2 _ (jK d)
   refine must (zbl b) (must (zbS d) (must (zbl b) (must (zbl b) (must (zbl d) (must (zby g) (must (zbl d) (shr ?_)))))));have w:zft {ix u (i:Int) mZ with Tables:=up (ix u (i:Int) mZ).Tables (j:Int) (zjD (ix (ix u (i:Int) mZ).Tables (j:Int) kZ))} :=
    ⟨c.2.1.1,c.2.1.2.1,c.2.1.2.2.1,c.2.1.2.2.2.1,c.2.1.2.2.2.2.1,zAp c.2.1.2.2.2.2.2 (zyO _ _ _ g)⟩
   have q:=k (up u (i:Int) {ix u (i:Int) mZ with Tables:=up (ix u (i:Int) mZ).Tables (j:Int) (zjD (ix (ix u (i:Int) mZ).Tables (j:Int) kZ))}) ⟨by rw[zgX];exact c.1,by rw[zd3 b];exact w,by rw[zd3 b];simp only[zgX];exact c.2.2⟩;rw[zbh p r.1];refine q.trans ?_;rw[zd3 b,zxW,show (ix t (i:Int) mZ).Tables.length-j=(ix t (i:Int) mZ).Tables.length-(j+1)+1 by omega];rfl
  {have b:i<u.length:=(by rw[c.1];exact hit);refine must (zbl b) (zdh (by show ilt ((ix t (i:Int) mZ).Tables.length:Int) (ln (ix u (i:Int) mZ).Tables)=false;rw[ln,c.2.2];exact qH (by omega)) ?_);rw[zbh n s.1,kY];show rec (_,(a.Memory,(u,_)))=rec (_,(a.Memory,(up u (i:Int) (ix u (i:Int) mZ),_)));rw[zSG b]};{have q:=x (up t (i:Int) (zwz (ix t (i:Int) mZ) (ix t (i:Int) mZ).Tables.length 0)) ⟨zjy e.1 (zPA l (by omega)),by rw[zgX];exact e.2⟩;refine q.trans ?_;rw[show a.Mons.length-i=a.Mons.length-(i+1)+1 by omega];rfl}
 {refine zdh (by show ilt (a.Mons.length:Int) (ln t)=false;rw[ln,e.2];exact qH (by omega)) ?_;rw[kY];rfl}
theorem zXt:vL 232 zPc:=kF1 zTr zu zb9 zdq z5P z4H
def z6A:zbb:=[(232,zPc)]++z6z
theorem z6B:zM z6A:=zi zXt zTr
def z6C:zbb:=z6A
theorem zTs:zM z6C:=z6B
theorem zDq:∀(n i:Nat) (t:List Mon),i+n<=t.length->zsi t->zsi (zoL n i t)
 | 0,_,_,_,h=>h
 |n+1,i,t,b,h=>by have a:i<t.length:=(by omega);refine zDq n (i+1) _ (by rw[zgX];omega) (zjy h (zPA ?_ (by omega)));rw[zbv a];exact h.2 _ (jK a)
theorem zbaE {h:Host}(a:SmH h):SmH (cold h):=⟨a.1,zDq _ _ _ (by omega) a.2.1,by simp[cold],by simp[cold]⟩
theorem zoc {h:Host}{m:Int}{b:Bare}(c:SmH h)(d:zcR h m=true->SmB b):SmH (zeW h m b):=by unfold zeW;cases a:zcR h m;{exact c};{exact zLN c (zcL.1 a).2 (d a).2.1}
theorem z8t {h:Host}{m g p:Int}(c:SmH h):SmH (zlc h m g p):=by unfold zlc;cases e:zcR h m;{exact c};{cases l:zb7 (zG h m) g (hasB p 4);{exact c};{have d:=(zcL.1 e).2;have f:=zLM c d;have k:SmB (chg (zG h m) g (hasB p 4) (zd1 (gAt (zG h m) g) p)):=zrb f (zPw _ (zjm _ f));have b:=zLN c d k.2.1;have i:=zWA (chg (zG h m) g (hasB p 4) (zd1 (gAt (zG h m) g) p)) d;have j:=zTy c e (chg (zG h m) g (hasB p 4) (zd1 (gAt (zG h m) g) p)) l;have a:=b.2.1.2 _ (zbB i mZ);simp only[cT];exact⟨b.1,zjy b.2.1 ⟨a.1,a.2.1,a.2.2.1,a.2.2.2.1,a.2.2.2.2.1,zAp a.2.2.2.2.2 (zqi (a.2.2.2.2.2.2 _ (zbB j _)))⟩,qU (zAT _ _ _) b.2.2.1,qU (zAT _ _ _) b.2.2.2⟩}}
theorem zbaF {h:Host}{m p c v:Int}(e:SmH h):SmH (znO h m p c v):=by unfold znO;cases a:zfy h m p c v;{exact e};{have f:zcC h m p=true:=(by unfold zfy at a;cases b:zcC h m p;{rw [b]at a;cases a};{rfl});obtain⟨g,i,b⟩:=zkF.1 f;have d:=(zv8 (n:=2) (zfx e g) i b).1.1;exact⟨zB0 d.1,d.2⟩}
theorem zYE {h:Host}{m g c a:Int}(b:List Entry)(i:Bool)(f:SmH h)(d:zbW h m g c a=true):SmH (lookOf h b m g c a i).1:=by have hg:zbM h m g=true:=(by unfold zbW at d;cases e:zbM h m g;{rw [e]at d;cases d};{rfl});exact(zuz f hg).shape.1
theorem zbd7 {h:Host}{m g a v:Int}(e:SmH h):SmH (zqD h m g a v):=by unfold zqD;cases b:zg8 h m g a v;{exact e};{have f:zbW h m g (zbe a) 2=true:=(by unfold zg8 at b;cases c:win a 0 15;{rw [c]at b;cases b};{cases d:win v 0 99;{rw [c,d]at b;cases b};{rw [c,d]at b;exact b}});have c:=zYE h.IoBuffer true e f;exact⟨zB0 c.1,c.2⟩}
theorem zbaG {h:Host}{m g a:Int}(d:SmH h):SmH (znP h m g a):=by unfold znP;cases b:zgb h m g a;{exact d};{have e:zbW h m g (zbe a) 1=true:=(by unfold zgb at b;cases c:win a 0 15;{rw [c]at b;cases b};{rw [c]at b;exact b});exact zYE h.IoBuffer true d e}
theorem zbd8 {h:Host}{m p:Int}(a:SmH h):SmH (zqM h m p):=by unfold zqM;cases b:zcC h m p;{exact a};{obtain⟨c,d,e⟩:=zkF.1 b;cases zkX h m p;{exact(zPq (zfx a c).1 d).1};{exact a}}
theorem zbfa {h:Host}{m p:Int}(a:SmH h):SmH (zvt h m p):=by unfold zvt;cases b:zcC h m p;{exact a};{obtain⟨c,d,e⟩:=zkF.1 b;cases zkX h m p;{exact a};{exact(zks (zfx a c) d e).1.1}}
theorem z8x {h:Host}{m t:Int}(a:SmH h):SmH (zj6 h m t):=by unfold zj6;cases zce h;{exact a};{cases c:hasB m (ln h.Mons);{exact a};{cases win t 0 3;{exact a};{have b:zft (ix h.Mons m mZ):=a.2.1.2 _ (zbB c mZ);exact⟨a.1,zjy a.2.1 ⟨b.1,b.2.1,b.2.2.1,b.2.2.2.1,b.2.2.2.2.1,b.2.2.2.2.2⟩,a.2.2⟩}}}
def zvp (h:Host)(a:GAct):Host:=bif ieq a.Kind 1 then (zbd h a.M a.G).1 else (cond (ieq a.Kind 2) (z1q h a.M a.G a.X ⟨a.Y,a.Z⟩) (cond (ieq a.Kind 3) (zlc h a.M a.G a.X) (cond (ieq a.Kind 4) (zR1 h a.M a.G a.X) (cond (ieq a.Kind 5) (zR5 h a.M a.G) (cond (ieq a.Kind 6) (zR3 h a.M a.G a.X) (cond (ieq a.Kind 7) (z1o h a.M a.G ⟨a.X,a.Y,ieq a.Z 1⟩) (cond (ieq a.Kind 8) (znO h a.M a.X a.Y a.Z) (cond (ieq a.Kind 9) (zYF h a.M a.X) (cond (ieq a.Kind 10) (z1k h a.M) (cond (ieq a.Kind 11) (zqD h a.M a.G a.X a.Y) (znP h a.M a.G a.X)))))))))))
def zEY (h:Host)(a:GAct):Told:=bif ieq a.Kind 1 then ⟨(zbd h a.M a.G).2,0⟩ else (cond (ieq a.Kind 2) ⟨z1r h a.M a.G a.X ⟨a.Y,a.Z⟩,0⟩ (cond (ieq a.Kind 3) ⟨zVB h a.M a.G a.X,0⟩ (cond (ieq a.Kind 4) ⟨zR2 h a.M a.G a.X,0⟩ (cond (ieq a.Kind 5) ⟨zR6 h a.M a.G,0⟩ (cond (ieq a.Kind 6) ⟨zR4 h a.M a.G a.X,0⟩ (cond (ieq a.Kind 7) ⟨z1p h a.M a.G ⟨a.X,a.Y,ieq a.Z 1⟩,0⟩ (cond (ieq a.Kind 8) ⟨zfy h a.M a.X a.Y a.Z,0⟩ (cond (ieq a.Kind 9) ⟨zYG h a.M a.X,0⟩ (cond (ieq a.Kind 10) ⟨z1m h a.M,z1l h a.M⟩ (cond (ieq a.Kind 11) ⟨zg8 h a.M a.G a.X a.Y,0⟩ (⟨zgb h a.M a.G a.X,zsw h a.M a.G a.X⟩)))))))))))
def znb (h:Host)(a:GAct):Host:=bif ieq a.Kind 13 then zqM h a.M a.X else (cond (ieq a.Kind 14) (zvt h a.M a.X) (cond (ieq a.Kind 15) (zu6 h a.M a.X) (cond (ieq a.Kind 16) (zj6 h a.M a.X) (cold h))))
def zOV (h:Host)(a:GAct):Told:=bif ieq a.Kind 13 then ⟨zFg h a.M a.X,0⟩ else (cond (ieq a.Kind 14) ⟨zLt h a.M a.X,0⟩ (cond (ieq a.Kind 15) ⟨zcC h a.M a.X,0⟩ (cond (ieq a.Kind 16) ⟨zBW h a.M a.X,0⟩ (⟨true,0⟩))))
def zeJ (h:Host)(a:GAct):Host:=bif win a.Kind 1 17 then (cond (win a.Kind 13 17) (znb h a) (zvp h a)) else h
def zjG (h:Host)(a:GAct):Told:=bif win a.Kind 1 17 then (cond (win a.Kind 13 17) (zOV h a) (zEY h a)) else ⟨false,0⟩
theorem z8w {h:Host}{a:GAct}(b:SmH h):SmH (znb h a):=by unfold znb;cases ieq a.Kind 13;{cases ieq a.Kind 14;{cases ieq a.Kind 15;{cases ieq a.Kind 16;{exact zbaE b};{exact z8x b}};{exact z8u b}};{exact zbfa b}};{exact zbd8 b}
theorem z8v {h:Host}{a:GAct}(c:SmH h):SmH (zvp h a):=by have d:zcR h a.M=true->SmB (zG h a.M):=fun b=>zLM c (zcL.1 b).2;unfold zvp;cases ieq a.Kind 1;{cases ieq a.Kind 2;{cases ieq a.Kind 3;{cases ieq a.Kind 4;{cases ieq a.Kind 5;{cases ieq a.Kind 6;{cases ieq a.Kind 7;{cases ieq a.Kind 8;{cases ieq a.Kind 9;{cases ieq a.Kind 10;{cases ieq a.Kind 11;{exact zbaG c};{exact zbd7 c}};{exact zoc c (fun b=>z2W (d b))}};{exact zoc c (fun b=>zZE _ (d b))}};{exact zbaF c}};{exact zoc c (fun b=>z2X _ _ (d b))}};{exact zoc c (fun b=>zPt _ _ (d b))}};{exact zoc c (fun b=>zPu _ (d b))}};{exact zoc c (fun b=>zPs _ _ (d b))}};{exact z8t c}};{exact zoc c (fun b=>z2Y _ _ _ (d b))}};{exact(z8m a.M a.G c).sm}
theorem zSn {h:Host}{a:GAct}(b:SmH h):SmH (zeJ h a):=by unfold zeJ;cases win a.Kind 1 17;{exact b};{cases win a.Kind 13 17;{exact z8v b};{exact z8w b}}
@[simp] abbrev zv6 (h:Host)(a:GAct):Bool:=pc (zct h)
@[simp] abbrev zlL (h:Host)(a:GAct):Host:=znb h a
@[simp] abbrev zjl (h:Host)(a:GAct):Told:=zOV h a
def zAf:Run:=rF2 dH (dT .act) fun b c=>(zv6 b c,[aH (zlL b c),aT .told (zjl b c)])
def zEk (N:Nat)(c:Host)(a:GAct):OA:=
 (cond (ieq a.Kind 13) (oN (zyF c a.M a.X) (some [(aH (zrZ c a.M a.X)),(.agg [(.b (zr0 c a.M a.X)),(.i .i64 0)])])) (cond (ieq a.Kind 14) (oN (zBJ c a.M a.X) (some [(aH (zuf c a.M a.X)),(.agg [(.b (zug c a.M a.X)),(.i .i64 0)])])) (cond (ieq a.Kind 15) (oN (zGg c a.M a.X) (some [(aH (zxo c a.M a.X)),(.agg [(.b (zxp c a.M a.X)),(.i .i64 0)])])) (cond (ieq a.Kind 16) (oN (zvZ c a.M a.X) (some [(aH (zpN c a.M a.X)),(.agg [(.b (zpO c a.M a.X)),(.i .i64 0)])])) (oN (zLF c) (some [(aH (zZh c)),(.agg [(.b true),(.i .i64 0)])]))))))
theorem zRZ (a:Host)(b:GAct)(c:zv6 a b=true):∃N,zEk N a b=some [aH (zlL a b),aT .told (zjl a b)]:=by have d:=zN.1 c;refine⟨0,?_⟩;unfold zEk oN;refine br (fun _=>mu ?_) (fun _=>br (fun _=>mu ?_) (fun _=>br (fun _=>mu ?_) (fun _=>br (fun _=>mu ?_) (fun _=>mu ?_))));all_goals first|rfl|(simp only [*,zlL,zjl,znb,zOV,cT,cF]<;>rfl)|simp_all[Ty.cells,zlL,zjl,znb,zOV]
theorem zK1:vL 155 zAf:=kF2 zTs zu zb9 zdq (zx []) zRZ
def z6D:zbb:=[(155,zAf),(153,zJk),(154,zC1),(163,zJl)]++z6C
theorem zTt:zM z6D:=zi zK1 (zi zUw (zi zNP (zi zUx zTs)))
@[simp] abbrev zkK (h:Host)(a:GAct):Bool:=pc (zct h)
@[simp] abbrev ziF (h:Host)(a:GAct):Host:=zeJ h a
@[simp] abbrev zng (h:Host)(a:GAct):Told:=zjG h a
def ztm:Run:=rF2 dH (dT .act) fun b c=>(zkK b c,[aH (ziF b c),aT .told (zng b c)])
def zIv (N:Nat)(c:Host)(a:GAct):OA:=
 let d:=(⟨a.Y,a.Z⟩:Slot); (oN (zGd a) (cond (nB (zAg a)) (oN (zbV c) (some [(aH (zB c)),(.agg [(.b false),(.i .i64 0)])])) (oN (zyD a.Kind) (cond (zsI a.Kind) (oN (zv6 c a) (some [(aH (zlL c a)),(.agg [(.b (zjl c a).Ok),(.i .i64 (zjl c a).N)])])) (cond (ieq a.Kind 1) (oN (zeR c a.M a.G) (some [(aH (zGi c a.M a.G)),(.agg [(.b (zGj c a.M a.G)),(.i .i64 0)])])) (cond (ieq a.Kind 2) (oN (zyC c a.M a.G a.X d) (some [(aH (zrV c a.M a.G a.X d)),(.agg [(.b (zrW c a.M a.G a.X d)),(.i .i64 0)])])) (cond (ieq a.Kind 3) (oN (ztw c a.M a.G a.X) (some [(aH (znz c a.M a.G a.X)),(.agg [(.b (znA c a.M a.G a.X)),(.i .i64 0)])])) (cond (ieq a.Kind 4) (oN (zq2 c a.M a.G a.X) (some [(aH (zmr c a.M a.G a.X)),(.agg [(.b (zms c a.M a.G a.X)),(.i .i64 0)])])) (cond (ieq a.Kind 5) (oN (zq4 c a.M a.G) (some [(aH (zmv c a.M a.G)),(.agg [(.b (zmw c a.M a.G)),(.i .i64 0)])])) (cond (ieq a.Kind 6) (oN (zq3 c a.M a.G a.X) (some [(aH (zmt c a.M a.G a.X)),(.agg [(.b (zmu c a.M a.G a.X)),(.i .i64 0)])])) (cond (ieq a.Kind 7) (oN (zGe a) (oN (zyz c a.M a.G (zq0 a)) (some [(aH (zrR c a.M a.G (zq0 a))),(.agg [(.b (zrS c a.M a.G (zq0 a))),(.i .i64 0)])]))) (cond (ieq a.Kind 8) (oN (zvU c a.M a.X a.Y a.Z) (some [(aH (zpD c a.M a.X a.Y a.Z)),(.agg [(.b (zpE c a.M a.X a.Y a.Z)),(.i .i64 0)])])) (cond (ieq a.Kind 9) (oN (zvV c a.M a.X) (some [(aH (zpF c a.M a.X)),(.agg [(.b (zpG c a.M a.X)),(.i .i64 0)])])) (cond (ieq a.Kind 10) (oN (zyy c a.M) (some [(aH (zrO c a.M)),(.agg [(.b (zrQ c a.M)),(.i .i64 (zrP c a.M))])])) (cond (ieq a.Kind 11) (oN (zyA c a.M a.G a.X a.Y) (some [(aH (zrT c a.M a.G a.X a.Y)),(.agg [(.b (zrU c a.M a.G a.X a.Y)),(.i .i64 0)])])) (oN (zvW c a.M a.G a.X) (some [(aH (zpH c a.M a.G a.X)),(.agg [(.b (zpJ c a.M a.G a.X)),(.i .i64 (zpI c a.M a.G a.X))])])))))))))))))))))
theorem zVa (a:Host)(b:GAct)(c:zkK a b=true):∃N,zIv N a b=some [aH (ziF a b),aT .told (zng a b)]:=by
 have d:=zN.1 c;refine⟨0,?_⟩;unfold zIv oN nB;conv=>zeta
 refine must rfl (brN (fun _=>mu ?_) (fun _=>must rfl (br (fun _=>mu ?_) (fun _=>br (fun _=>mu ?_) (fun _=>br (fun _=>mu ?_) (fun _=>br (fun _=>mu ?_) (fun _=>br (fun _=>mu ?_) (fun _=>br (fun _=>mu ?_) (fun _=>br (fun _=>mu ?_) (fun _=>br (fun _=>must rfl (mu ?_)) (fun _=>br (fun _=>mu ?_) (fun _=>br (fun _=>mu ?_) (fun _=>br (fun _=>mu ?_) (fun _=>br (fun _=>mu ?_) (fun _=>mu ?_)))))))))))))));all_goals first|rfl|(simp only [*,ziF,zng,zeJ,zjG,zvp,zEY,cT,cF]<;>rfl)|simp_all[Ty.cells,ziF,zng,zeJ,zjG,zvp,zEY]
theorem zwP:vL 92 ztm:=kF2 zTt zu zb9 zdq (zx []) zVa
def z6E:zbb:=[(92,ztm)]++z6D
theorem zTu:zM z6E:=zi zwP zTt
def zFm:List GAct->Host×List Told->Host×List Told
 |[],u=>u
 |a::l,u=>zFm l (zeJ u.1 a,ap u.2 [zjG u.1 a])
def zA6 (a:List (List (List Ins)))(l:List GAct):Host×List Told:=zFm (l.take 80) (zfM a,[])
abbrev HSt:Type:=(List Told)×(List (List Int))×(List Mon)×(List Entry)×(List Entry)
def hOf (t:HSt):Host:=⟨t.2.1,t.2.2.1,t.2.2.2.1,t.2.2.2.2⟩
def tOf (u:Host×List Told):HSt:=(u.2,u.1.Memory,u.1.Mons,u.1.Buffer,u.1.IoBuffer)
def zBv (t:HSt):OA:=some [AV.agg (zbi (hOf t)),AV.one (.s .told t.1)]
theorem z3b {e:List (List (List Ins))}(h:zMR e):SmH (zfM e):=by refine⟨show SmM z4K from ⟨by decide,by decide⟩,⟨?_,?_⟩,by simp[zfM],by simp[zfM]⟩;{simp only [zfM,uI,vJ];omega};{intro x d;simp only[zfM,jD]at d;obtain⟨p,f,rfl⟩:=d;have b:=h.2 p (jT f);refine⟨show zwa.length<=1048576 by decide,show SmM zR9 from ⟨by decide,by decide⟩,show (rp 8 false).length<=1048576 by decide,⟨?_,?_⟩,by simp[zgW],⟨?_,?_⟩⟩;{simp only [zgW,uI,vJ];omega};{intro y a;simp only[zgW,jD]at a;obtain⟨q,c,rfl⟩:=a;exact⟨b.2 q (jT c),show zlN.length<=1048576 by decide,show zlN.length<=1048576 by decide,by simp[ze0]⟩};{simp only [zgW,uI,vJ];omega};{intro y a;simp only[zgW,jD]at a;obtain⟨q,c,rfl⟩:=a;exact⟨show (rp 4 false).length<=1048576 by decide,show zlN.length<=1048576 by decide⟩}}
theorem zI2 {c:Host->GAct->Bool}(d:∀h a,SmH h->c h a=true)(m:Nat):∀(l:List GAct) (i:Nat) (u:Host×List Told),SmH u.1->u.2.length+l.length<=2147483648->
 goL (fun (i:Nat) x (t:HSt) n=>bif ilt (i:Int) (m:Int) then (cond (c (hOf t) x) (cond (few (ln (ap t.1 [zjG (hOf t) x]))) (n (ap t.1 [zjG (hOf t) x],(zeJ (hOf t) x).Memory,(zeJ (hOf t) x).Mons,(zeJ (hOf t) x).Buffer,(zeJ (hOf t) x).IoBuffer)) none) none) else zBv t) zBv l i (tOf u)=zBv (tOf (zFm (l.take (m-i)) u))
 |[],i,u,_,_=>by simp[goL,zFm]
 |a::l,i,u,e,k=>by simp only[qZ]at k;have g:few (ln (ap u.2 [zjG u.1 a]))=true:=zgV (by simp[ap];omega);have j:hOf (tOf u)=u.1:=rfl;have f:(tOf u).1=u.2:=rfl;by_cases h:i<m;{have b:ilt (i:Int) (m:Int)=true:=qJ (by omega);simp only[goL,b,j,f,g,d _ _ e,cT];refine(zI2 d m l (i+1) (zeJ u.1 a,ap u.2 [zjG u.1 a]) (zSn e) (by simp[ap];omega)).trans ?_;rw[show m-i=m-(i+1)+1 by omega];rfl};{have b:ilt (i:Int) (m:Int)=false:=qH (by omega);simp only[goL,b,cF];rw[show m-i=0 by omega];rfl}
@[simp] abbrev zvT (a:List (List (List Ins)))(l:List GAct):Bool:=pc (zMR a/\l.length<=1048576)
@[simp] abbrev zvS (a:List (List (List Ins)))(l:List GAct):Host:=(zA6 a l).1
@[simp] abbrev zGh (a:List (List (List Ins)))(l:List GAct):List Told:=(zA6 a l).2
def zz3:Run:=rF2 (dS (.sl (.sl .ins))) (dS .act) fun b c=>(zvT b c,[aH (zvS b c),aS .told (zGh b c)])
def zD5 (N:Nat)(b:lQ)(g:lA):OA:=
 (oN (zyB b) (iter (σ:=(Int×(lA×(lT×(lM×(lN×(lE×(lE×(lM×(lN×(lE×(lE×Unit)))))))))))) N (fun h a=>let e:=(ix a.2.1 a.1 zbfN);let c:=(⟨a.2.2.2.2.2.2.2.1,a.2.2.2.2.2.2.2.2.1,a.2.2.2.2.2.2.2.2.2.1,a.2.2.2.2.2.2.2.2.2.2.1⟩:Host);let f:=(ap a.2.2.1 [(zng c e)]);let d:=(ziF c e); (cond (ilt a.1 (ln a.2.1)) (cond (ilt a.1 80) (oN (inb a.1 (ln a.2.1)) (oN (zkK c e) (oN (few (ln f)) (h ((zL .i64 a.1 1),(a.2.1,(f,(a.2.2.2.1,(a.2.2.2.2.1,(a.2.2.2.2.2.1,(a.2.2.2.2.2.2.1,(d.Memory,(d.Mons,(d.Buffer,(d.IoBuffer,()))))))))))))))) (some [(aH c),(aS .told a.2.2.1)])) (some [(aH c),(aS .told a.2.2.1)]))) (0,(g,([],([],([],([],([],((zhb b).Memory,((zhb b).Mons,((zhb b).Buffer,((zhb b).IoBuffer,())))))))))))))
def zSy:FuncId->Nat->Option Tmpl:=zx [(120,0,{n:=39,tm:=[(1,.sl 0 []),(4,.lp 0 0),(6,.lp 1 0),(7,.sl 1 []),(8,ti)],lo:=[(0,[.sl 2 [],.sl 3 [],.sl 4 [],.sl 5 []]),(1,[.sl 6 [],.sl 7 [],.sl 8 [],.sl 9 []])],ro:=[(0,.act,false),(1,.told,true),(2,(.sl .int),true),(3,.mon,true),(4,.entry,true),(5,.entry,true),(6,(.sl .int),true),(7,.mon,true),(8,.entry,true),(9,.entry,true)]})]
theorem zRK (b:List lP)(c:List GAct)(k:zvT b c=true):∃N,zD5 N b c=some [aH (zvS b c),aS .told (zGh b c)]:=by
 obtain⟨j,g⟩:=zN.1 k;have f:=zc5 g;refine zcw fun N e=>?_;unfold zD5 oN;conv=>zeta
 refine must (zby j) ?_;refine(zbj c (fun i (t:lT×lM×lN×lE×lE)=>((i:Int),c,t.1,[],[],[],[],t.2.1,t.2.2.1,t.2.2.2.1,t.2.2.2.2,())) _ (fun i (x:GAct) (t:HSt) m=>bif ilt (i:Int) ((80:Nat):Int) then (cond (zkK (hOf t) x) (cond (few (ln (ap t.1 [zjG (hOf t) x]))) (m (ap t.1 [zjG (hOf t) x],(zeJ (hOf t) x).Memory,(zeJ (hOf t) x).Mons,(zeJ (hOf t) x).Buffer,(zeJ (hOf t) x).IoBuffer)) none) none) else zBv t) (fun (t:lT×lM×lN×lE×lE)=>(some [(.agg (zbi (⟨t.2.1,t.2.2.1,t.2.2.2.1,t.2.2.2.2⟩:Host))),(.one (.s .told t.1))])) (fun i d t rec=>?_) (fun t rec=>?_) _ ([],(zhb b).Memory,(zhb b).Mons,(zhb b).Buffer,(zhb b).IoBuffer) (e f.1)).trans ?_;{simp only [zbS d,zbl d,zbv d,zbh d f.1,cT];rfl};{simp only [zbK,cF]};exact zI2 (fun h a l=>zby ((zS h).2 l)) 80 c 0 (zfM b,[]) (z3b j) (by simpa using f.2)
theorem zKH:vL 120 zz3:=kF2 zTu zu zb9 zdq zSy zRK
def zWV:zbb:=[(120,zz3)]++z6E
theorem zyf:zM zWV:=zi zKH zTu
def zGG (h:Host):Prop:=∃a l,zMR a/\(1<=a.length/\∀p∈a,1<=p.length/\∀x∈p,zda x=true)/\h=(zA6 a l).1
theorem zLC {p:List Ins}(h:zda p=true):p.length<=12:=by unfold zda at h;cases a:p.all zdL with|false=>rw[a]at h;cases h|true=>rw[a,cT]at h;have b:=(ze4.1 h).2;unfold ln at b;omega
def zx5 (N:Nat)(c:Cur)  : OA :=
 let a:=({ (zmG c) with b:=c.b}:Cur); (oN (zqd c) (oN (znp a 20) (oN (zvT (zv4 c) (zsN a 20)) (some [(.agg [(.s .u8 c.b),(.i .i64 (znq a 20).i),(.i .i64 (znq a 20).h)]),(aH (zvS (zv4 c) (zsN a 20)))]))))
def zqe (c:Cur)(s:Cur)(a:Host):Prop:=(∃N,zx5 N c=some (AV.agg (zb0 s)::[aH a]))/\(s.b=c.b/\0<=s.i)/\(zGG a)
def zfo (c:Cur)  : Bool:=wC (zqe c)
def ziL (c:Cur)  : Cur:=wS (zqe c)
def zhe (c:Cur)  : Host:=wV (zqe c)
theorem zyL {c:Cur}(h:zfo c=true):zqe c (ziL c) (zhe c):=wG h
theorem z1L (c:Cur)  : 0<=(ziL c).i:=wP fun h=>h.2.1.2
theorem z1K (c:Cur)(h:∃N,Ends (wE (fun a=>aH a) c.b fun a=>zGG a) (zx5 N c)):zfo c=true:=wI (fun _ _ h=>h) h
def zzH:zdU:=rP0 fun c=>(zfo c,ziL c,[aH (zhe c)])
theorem zOc:zbP Tryz.prog 66 [false,true,true] zzH:=hP0 zyf zbg zY2 zo (zx []) (fun _ h=>(zyL h).1)
theorem zOj {c:Cur}(h:zbc c):zfo c=true:=by
 refine z1K c ⟨0,?_⟩;have e:zbc {zmG c with b:=c.b}:=zbL h (z5v _);have a:=(zPl (zbaZ h)).2.2;have f:=(zJD (z5V e (m:=20) (by omega) (by omega))).2.2;unfold zx5 oN;conv=>zeta
 have i:(zsN {zmG c with b:=c.b} 20).length<=65:=by unfold ln at f;omega
 have S:zMR (zv4 c):=⟨by omega,fun p d=>by
  have g:=a.2.2 p d;exact⟨by omega,fun x j=>by have:=zLC (g.2.2 x j);omega⟩⟩
 exact zq (zbaZ h) (zq (z5V e (by omega) (by omega)) (zq (zby ⟨S,qU i (by decide)⟩) (zbJ aH (z1N _ _) ⟨_,_,S,⟨a.1,fun p d=>⟨(a.2.2 p d).1,(a.2.2 p d).2.2⟩⟩,rfl⟩)))
def z4Y:zcN:=[(66,([false,true,true],zzH))]++zbcm
theorem zvv:zb2 z4Y:=zcs zY2 (by
 intro x a;simp only[qG,qN,or_false]at a;rcases a with rfl
 .exact zOc)
theorem zXh {f c b:Type}{G:b->Prop}{a:Nat->f->c->(c->Option b)->Option b}{K:c->Option b}(e:∀i x t g,(∀t,Ends G (g t))->Ends G (a i x t g))(d:∀t,Ends G (K t)):∀(l:List f) (i:Nat) (t:c),Ends G (goL a K l i t)
 |[],i,t=>d t
 |x::l,i,t=>e i x t _ (fun t=>zXh e d l (i+1) t)
def zoD (N:Nat)(c:List Int):OA:=
 (iter (σ:=(Int×(Int×((List Int)×(lM×(lN×(lE×(lE×Unit)))))))) N (fun d a=>let b:=(⟨a.2.2.1,0,a.1⟩:Cur); (cond (ilt a.2.1 (ln a.2.2.1)) (cond (ilt a.2.1 4000) (oN (inb a.2.1 (ln a.2.2.1)) (d ((wand .i64 (zL .i64 (zL .i64 (zkS .i64 a.1 131) (wcv .i64 (ix a.2.2.1 a.2.1 0))) 7) 1073741823),((zL .i64 a.2.1 1),(a.2.2.1,(a.2.2.2.1,(a.2.2.2.2.1,(a.2.2.2.2.2.1,(a.2.2.2.2.2.2.1,()))))))))) (oN (zfo b) (some [(aH (zhe b))]))) (oN (zfo b) (some [(aH (zhe b))])))) ((zL .i64 94701 (ln c)),(0,(c,([],([],([],([],()))))))))
def zSx:FuncId->Nat->Option Tmpl:=zx [(52,0,{n:=32,tm:=[(0,.sl 0 []),(3,ti),(4,ti)],lo:=[(0,[.sl 1 [],.sl 2 [],.sl 3 [],.sl 4 []])],ro:=[(0,.u8,false),(1,(.sl .int),true),(2,.mon,true),(3,.entry,true),(4,.entry,true)],sk:=[(0,2,0,.lp 0 0)]})]
def ztu (b:List Int)(a:Host):Prop:=(∃N,zoD N b=some [aH a])/\(zGG a)
def zi9 (a:List Int):Bool:=uC (T:=Host) (fun r=>ztu a r)
def zZj (a:List Int):Host:=uV (fun r=>ztu a r)
def zpB (a:List Int):Host:=(zZj a)
theorem zGf {a:List Int}(h:zi9 a=true):ztu a (zpB a):=uG h
theorem zZi (c:List Int)(h:∃N,Ends (fun a=>∃b,a=[aH b]/\(zGG b)) (zoD N c)):zi9 c=true:=by obtain⟨N,a,e,b,rfl,h⟩:=h;exact zby ⟨b,⟨N,e⟩,h⟩
def zz2:Run:=rF1 (dS .u8) fun b=>(zi9 b,[aH (zpB b)])
theorem zRI (a:List Int)(b:zi9 a=true):∃N,zoD N a=some [aH (zpB a)]:=by exact(zGf b).1
theorem zKG:vL 23 zz2:=kF1 zyf zbg zvv zo zSx zRI
theorem zNc {b:List Int}(h:b.length<=big):zi9 b=true:=by
 refine zZi b (zcw fun N e=>?_);unfold zoD oN;conv=>zeta
 have c:∀t,Ends (fun a=>∃g,a=[aH g]/\zGG g) (cond (zfo ⟨b,0,t⟩) (some [aH (zhe ⟨b,0,t⟩)]) none):=fun t=>
  have f:zbc ⟨b,0,t⟩:=⟨kD 0,h⟩
  zq (zOj f) ⟨_,rfl,_,rfl,(zyL (zOj f)).2.2⟩
 refine(congrArg (Ends _) (zbj b (fun i (t:Int)=>(t,(i:Int),b,[],[],[],[],())) _ (fun i x (t:Int) j=>bif ilt (i:Int) 4000 then j (wand .i64 (zL .i64 (zL .i64 (zkS .i64 t 131) (wcv .i64 x)) 7) 1073741823) else (cond (zfo ⟨b,0,t⟩) (some [aH (zhe ⟨b,0,t⟩)]) none)) (fun (t:Int)=>(cond (zfo ⟨b,0,t⟩) (some [aH (zhe ⟨b,0,t⟩)]) none)) (fun i d t rec=>?_) (fun t rec=>?_) N (zL .i64 94701 (ln b)) (e h))).mpr ?_;{simp only [zbS d,zbl d,zbv d,zbh d h,cT]};{simp only [zbK,cF]};exact zXh (fun i x t j k=>zbp (fun _=>k _) (fun _=>c t)) c _ _ _
def z6j:zbb:=[(23,zz2)]++zWV
theorem z6k:zM z6j:=zi zKG zyf
instance:Inhabited Slot:=⟨⟨0,0⟩⟩
instance:Inhabited Entry:=⟨⟨0,0,0,0⟩⟩
instance:Inhabited GExit:=⟨⟨0,0,false,0⟩⟩
instance:Inhabited Guest:=⟨⟨[],0,0,[],[],⟨0,0,false⟩,0,⟨0,0,false,0⟩,false,[]⟩⟩
theorem zwx {c:Cur}(h:zbc c){n m:Int}(a:0<n)(b:n<=m):inb (zk c n) m=true:=by have:=zfu h a;exact qJ (by omega)
theorem zEr {c:Cur}(h:zbc c){n m:Int}(a:0<n)(b:n<=m+1):inr 0 (zk c n) m=true:=by have:=zfu h a;exact qJ (by omega)
theorem zE7 {a:Type}(l:List a)(n:Int):(tk l n).length<=l.length:=by simp[tk];omega
theorem zih {a:Type}(l:List a)(n:Int)(x:a):(up l n x).length=l.length:=by simp[up]
theorem z9W {a:Type}(l:List a)(n:Int):ln (tk l n)<=ln l:=by have:=zE7 l n;unfold ln;omega
theorem z9X {a:Type}(l:List a)(n:Int)(x:a):ln (up l n x)=ln l:=by unfold ln;rw[zih]
def I64 (x:Int):Prop:=-9223372036854775808<=x/\x<=9223372036854775807
theorem zYM {f:Type}{c:Cur}(h:zbc c){P:f->Prop}{m:Int}(r:0<=m)(I:m<=1000){fc:Cur->Bool}{fs:Cur->Cur}{fv:Cur->f}(z:∀{c:Cur},zbc c->fc c=true)(C:∀c,0<=(fs c).i)(hg:∀{c:Cur},zbc c->P (fv c)){G:Ans->Prop}{R:Cur->List f->Ans}(w:∀s l,s.b=c.b->0<=s.i->ln l=m->(∀x∈l,P x)->G (R s l)){j:Type}(S:Int->Int×Int×List f->j){F:(j->OA)->j->OA}(v:∀rec t i k l,F rec (S t (i,k,l))=bif ilt t m then (cond (fc ⟨c.b,i,k⟩) (cond (few (ln (ap l [fv ⟨c.b,i,k⟩]))) (rec (S (zL .i64 t 1) ((fs ⟨c.b,i,k⟩).i,(fs ⟨c.b,i,k⟩).h,ap l [fv ⟨c.b,i,k⟩]))) none) none) else some (R ⟨c.b,i,k⟩ l)):Ends G (iter 1002 F (S 0 (c.i,c.h,[]))):=by refine zka (fun n s=>∃t i k l,s=S t (i,k,l)/\t+(n:Int)=1000/\0<=t/\t<=m/\0<=i/\(∀x∈l,P x)/\ln l=t) ?_ 1002 1000 _ ⟨0,c.i,c.h,[],rfl,rfl,kD 0,r,h.1,by simp,rfl⟩ (by omega);rintro n s rec ⟨t,i,k,l,rfl,D,u,E,p,q,H⟩ d;rw[v];have a:zbc ⟨c.b,i,k⟩:=zbL h p;refine zbp (fun g=>?_) (fun g=>?_);{have B:t<m:=qD g;have J:=zhx (y:=1) u (by omega) (by omega) (by omega);refine zq (z a) (zq (zkb (by rw[zg3];omega)) (d (n-1) _ (by omega) ⟨_,_,_,_,rfl,by omega,by omega,by omega,C _,?_,by rw[zg3];omega⟩));intro x e;rcases jG.1 e with e|e;{exact q x e};{rw [qF.1 e];exact hg a}};{have A:¬ t<m:=jQ g;exact zhB (w _ l rfl p (by omega) q)}
def zsZ (N:Nat)(c:Cur)  : OA :=
 let a:=(zZ c [3,3,1,2,0,3,1,(-1),4,9223372036854775807]); (oN (zbq c [3,3,1,2,0,3,1,(-1),4,9223372036854775807]) (some [(.agg [(.s .u8 c.b),(.i .i64 a.i),(.i .i64 a.h)]),(aI (zbk c [3,3,1,2,0,3,1,(-1),4,9223372036854775807]))]))
def zmB (c:Cur)(s:Cur)(a:Int):Prop:=(∃N,zsZ N c=some (AV.agg (zb0 s)::[aI a]))/\(s.b=c.b/\0<=s.i)/\(True)
def zkm (c:Cur)  : Bool:=wC (zmB c)
def zkn (c:Cur)  : Cur:=wS (zmB c)
def zr2 (c:Cur)  : Int:=wV (zmB c)
theorem zVC {c:Cur}(h:zkm c=true):zmB c (zkn c) (zr2 c):=wG h
theorem zVE (c:Cur)  : 0<=(zkn c).i:=wP fun h=>h.2.1.2
theorem zVD (c:Cur)(h:∃N,Ends (wE (fun a=>aI a) c.b fun a=>True) (zsZ N c)):zkm c=true:=wI (fun _ _ h=>h) h
def zvx:zdU:=rP0 fun c=>(zkm c,zkn c,[aI (zr2 c)])
theorem zHI:zbP Tryz.prog 278 [false,true,true] zvx:=hP0 zfX zbg zvv zo (zx []) (fun _ h=>(zVC h).1)
theorem zbao {c:Cur}(h:zbc c):zkm c=true:=by
 refine zVD c ⟨0,?_⟩;unfold zsZ oN;conv=>zeta
 exact zq (zeQ h (by simp)) (zbJ aI (zb1 _ _) trivial)
def zbco:zcN:=[(278,([false,true,true],zvx))]++z4Y
theorem zY3:zb2 zbco:=zcs zvv (by
 intro x a;simp only[qG,qN,or_false]at a;rcases a with rfl
 .exact zHI)
def zbby:zbb:=[(75,zvN),(293,zpm),(318,zqU),(319,ztn)]++z3H
theorem zd9:zM zbby:=zi zzl (zi ztG (zi zva (zi zwQ zfX)))
def zx0 (N:Nat)(c:Cur)(d:Int):OA:=
 let e:=({ (zQ c 5) with b:=c.b}:Cur);let a:=({ (zf e d) with b:=c.b}:Cur); (oN (zcK c 5) (cond (zcT c 5) (oN zcA (some [(.agg [(.s .u8 c.b),(.i .i64 (zQ c 5).i),(.i .i64 (zQ c 5).h)]),(.agg [(.i .i64 zbw.Page),(.i .i64 zbw.Rights)])])) (oN (zD e d) (oN (zbq a [3,3,3,1,2]) (some [(.agg [(.s .u8 c.b),(.i .i64 (zZ a [3,3,3,1,2]).i),(.i .i64 (zZ a [3,3,3,1,2]).h)]),(.agg [(.i .i64 (zk e d)),(.i .i64 (zbk a [3,3,3,1,2]))])])))))
def zpY (c:Cur)(a:Int)(s:Cur)(d:Slot):Prop:=(∃N,zx0 N c a=some (AV.agg (zb0 s)::[aT .slot d]))/\(s.b=c.b/\0<=s.i)/\((0<a->a<=1000->I64 d.Page))
def ziG (c:Cur)(a:Int):Bool:=wC (zpY c a)
def zgh (c:Cur)(a:Int):Cur:=wS (zpY c a)
def zfR (c:Cur)(a:Int):Slot:=wV (zpY c a)
theorem zyH {c:Cur}{a:Int}(h:ziG c a=true):zpY c a (zgh c a) (zfR c a):=wG h
theorem zJB (c:Cur)(a:Int):0<=(zgh c a).i:=wP fun h=>h.2.1.2
theorem z1C (c:Cur)(a:Int)(h:∃N,Ends (wE (fun d=>aT .slot d) c.b fun d=>(0<a->a<=1000->I64 d.Page)) (zx0 N c a)):ziG c a=true:=wI (fun _ _ h=>h) h
def zzC:zdU:=rP1 dI fun c b=>(ziG c b,zgh c b,[aT .slot (zfR c b)])
theorem zN1:zbP Tryz.prog 277 [false,true,true] zzC:=hP1 zd9 zbg zY3 zo (zx []) (fun _ _ h=>(zyH h).1)
theorem zPr {c:Cur}(h:zbc c)(a:Int):ziG c a=true:=by
 refine z1C c a ⟨0,?_⟩;unfold zx0 oN;conv=>zeta
 have d:zbc {zQ c 5 with b:=c.b}:=zbL h (zb6 _ _);have g:zbc {zf {zQ c 5 with b:=c.b} a with b:=c.b}:=zbL h (zJ _ _);refine zq (zii h 5) (zbp (fun _=>zq rfl (zbJ (aT .slot) (v:=⟨_,_⟩) (zb6 _ _) (fun _ _=>?_))) (fun _=>zq (zbx d a) (zq (zeQ g (by simp)) (zbJ (aT .slot) (v:=⟨_,_⟩) (zb1 _ _) (fun e f=>?_)))));{exact⟨by decide,by decide⟩};{have:=zfu d e;exact⟨Int.le_trans (by decide) this.1,Int.le_trans (vK this.2) (by omega)⟩}
def zbcp:zcN:=[(277,([false,true,true],zzC))]++zbco
theorem zLx:zb2 zbcp:=zcs zY3 (by
 intro x a;simp only[qG,qN,or_false]at a;rcases a with rfl
 .exact zN1)
def zAw (N:Nat)(c:Cur)(a:Int):OA:=
 let e:=({ (zgh c a) with b:=c.b}:Cur);let d:=({ (zf e 12) with b:=c.b}:Cur);let f:=(zZ d [(-1),(-2),a,9223372036854775807,(-9223372036854775808)]); (oN (ziG c a) (oN (zD e 12) (cond (ieq (zk e 12) 0) (oN (zbq d [(-1),(-2),a,9223372036854775807,(-9223372036854775808)]) (some [(.agg [(.s .u8 c.b),(.i .i64 f.i),(.i .i64 f.h)]),(.agg [(.i .i64 (zbk d [(-1),(-2),a,9223372036854775807,(-9223372036854775808)])),(.i .i64 (zfR c a).Rights)])])) (cond (ieq (zk e 12) 1) (oN (zkm d) (some [(.agg [(.s .u8 c.b),(.i .i64 (zkn d).i),(.i .i64 (zkn d).h)]),(.agg [(.i .i64 (zfR c a).Page),(.i .i64 (zr2 d))])])) (some [(.agg [(.s .u8 c.b),(.i .i64 (zf e 12).i),(.i .i64 (zf e 12).h)]),(.agg [(.i .i64 (zfR c a).Page),(.i .i64 (zfR c a).Rights)])])))))
def zr3 (c:Cur)(a:Int)(s:Cur)(d:Slot):Prop:=(∃N,zAw N c a=some (AV.agg (zb0 s)::[aT .slot d]))/\(s.b=c.b/\0<=s.i)/\((0<a->a<=1000->I64 d.Page))
def zpV (c:Cur)(a:Int):Bool:=wC (zr3 c a)
def zpW (c:Cur)(a:Int):Cur:=wS (zr3 c a)
def zLJ (c:Cur)(a:Int):Slot:=wV (zr3 c a)
theorem zPh {c:Cur}{a:Int}(h:zpV c a=true):zr3 c a (zpW c a) (zLJ c a):=wG h
theorem z5e (c:Cur)(a:Int):0<=(zpW c a).i:=wP fun h=>h.2.1.2
theorem z5d (c:Cur)(a:Int)(h:∃N,Ends (wE (fun d=>aT .slot d) c.b fun d=>(0<a->a<=1000->I64 d.Page)) (zAw N c a)):zpV c a=true:=wI (fun _ _ h=>h) h
def zCw:zdU:=rP1 dI fun c b=>(zpV c b,zpW c b,[aT .slot (zLJ c b)])
theorem zQ2:zbP Tryz.prog 213 [false,true,true] zCw:=hP1 zd9 zbg zLx zo (zx []) (fun _ _ h=>(zPh h).1)
theorem zTe {c:Cur}(h:zbc c)(a:Int):zpV c a=true:=by
 refine z5d c a ⟨0,?_⟩;unfold zAw oN;conv=>zeta
 have d:zbc {zgh c a with b:=c.b}:=zbL h (zJB _ _);have f:zbc {zf {zgh c a with b:=c.b} 12 with b:=c.b}:=zbL h (zJ _ _);have g:=(zyH (zPr h a)).2.2;refine zq (zPr h a) (zq (zbx d 12) (zbp (fun _=>zq (zeQ f (by simp)) (zbJ (aT .slot) (v:=⟨zbk _ _,(zfR c a).Rights⟩) (zb1 _ _) (fun e i=>?_))) (fun _=>zbp (fun _=>zq (zbao f) (zbJ (aT .slot) (v:=⟨(zfR c a).Page,zr2 _⟩) (zVE _) (fun e d=>g e d))) (fun _=>zbJ (aT .slot) (v:=⟨(zfR c a).Page,(zfR c a).Rights⟩) (zJ _ _) (fun e d=>g e d)))));have j:=z2O f (l:=[-1,-2,a,9223372036854775807,-9223372036854775808]) (by simp);simp only[qG,qN,or_false]at j;unfold I64;dsimp only;omega
def zuN (N:Nat)(c:Cur)(g j:Int):OA:=
 (iter (σ:=(Int×(Int×(Int×(Int×(Int×(lS×((List Int)×Unit)))))))) N (fun k a=>let e:=a.2.2.2.2.2.2.1;let d:=(⟨e,a.2.2.2.1,a.2.2.2.2.1⟩:Cur);let f:=(ap a.2.2.2.2.2.1 [(zfR d a.2.1)]); (cond (ilt a.2.2.1 a.1) (oN (ziG d a.2.1) (oN (few (ln f)) (k (a.1,(a.2.1,((zL .i64 a.2.2.1 1),((zgh d a.2.1).i,((zgh d a.2.1).h,(f,(e,())))))))))) (some [(.agg [(.s .u8 e),(.i .i64 a.2.2.2.1),(.i .i64 a.2.2.2.2.1)]),(aS .slot a.2.2.2.2.2.1)]))) (g,(j,(0,(c.i,(c.h,([],(c.b,()))))))))
def zSB:FuncId->Nat->Option Tmpl:=zx [(212,0,{n:=22,tm:=[(0,.lp 0 0),(1,ti),(2,ti),(7,.sl 0 []),(8,ti)],lo:=[(0,[.sl 1 [],ti,ti])],ro:=[(0,.slot,true),(1,.u8,false)]})]
def znC (c:Cur)(a:Int)(d:Int)(s:Cur)(e:List Slot):Prop:=(∃N,zuN N c a d=some (AV.agg (zb0 s)::[aS .slot e]))/\(s.b=c.b/\0<=s.i)/\((0<=a->a<=1000->ln e=a/\(0<d->d<=1000->∀s∈e,I64 s.Page)))
def zhN (c:Cur)(a:Int)(b:Int):Bool:=wC (znC c a b)
def zK (c:Cur)(a:Int)(b:Int):Cur:=wS (znC c a b)
def zdy (c:Cur)(a:Int)(b:Int):List Slot:=wV (znC c a b)
theorem zv1 {c:Cur}{a:Int}{b:Int}(h:zhN c a b=true):znC c a b (zK c a b) (zdy c a b):=wG h
theorem zhO (c:Cur)(a:Int)(b:Int):0<=(zK c a b).i:=wP fun h=>h.2.1.2
theorem zZm (c:Cur)(a:Int)(d:Int)(h:∃N,Ends (wE (fun e=>aS .slot e) c.b fun e=>(0<=a->a<=1000->ln e=a/\(0<d->d<=1000->∀s∈e,I64 s.Page))) (zuN N c a d)):zhN c a d=true:=wI (fun _ _ h=>h) h
def zwZ:zdU:=rP2 dI dI fun c b d=>(zhN c b d,zK c b d,[aS .slot (zdy c b d)])
theorem zKT:zbP Tryz.prog 212 [false,true,true] zwZ:=hP2 zd9 zbg zLx zo zSB (fun _ _ _ h=>(zv1 h).1)
theorem zAr {c:Cur}(h:zbc c){d:Int}(g:0<=d)(j:d<=1000)(a:Int):zhN c d a=true:=by
 refine zZm c d a ⟨1002,?_⟩;unfold zuN oN;conv=>zeta
 exact zYM h (P:=fun s=>0<a->a<=1000->I64 s.Page) g j (fc:=fun c=>ziG c a) (fs:=fun c=>zgh c a) (fv:=fun c=>zfR c a) (R:=fun s l=>AV.agg (zb0 s)::[aS .slot l]) (fun h=>zPr h a) (fun c=>zJB c a) (fun h=>(zyH (zPr h a)).2.2) (fun s l m n p q=>⟨s,l,rfl,⟨m,n⟩,fun _ _=>⟨p,fun e f s r=>q s r e f⟩⟩) ((fun i t=>(d,a,(i:Int),t.1,t.2.1,t.2.2,c.b,())):Int->Int×Int×List Slot->_) (fun rec t i k l=>rfl)
theorem zbea {c:Cur}(h:zbc c){n m:Int}(a:0<=n)(b:n<=1000)(d:0<m)(e:m<=1000):ln (zdy c n m)=n/\∀s∈zdy c n m,I64 s.Page:=by have g:=(zv1 (zAr h a b m)).2.2 a b;exact⟨g.1,g.2 d e⟩
def zbcq:zcN:=[(213,([false,true,true],zCw)),(212,([false,true,true],zwZ))]++zbcp
theorem zLy:zb2 zbcq:=zcs zLx (by
 intro x a;simp only[qG,qN,or_false]at a;rcases a with rfl|rfl
 .exact zQ2
 .exact zKT)
def zoE (N:Nat)(c:Cur)(a d:Int):OA:=
 let g:=(zdy c a d);let f:=({ (zK c a d) with b:=c.b}:Cur);let e:=({ (zf f 8) with b:=c.b}:Cur);let k:=(zk e a);let j:=({ (zf e a) with b:=c.b}:Cur); (oN (zhN c a d) (oN (zD f 8) (cond (ieq (zk f 8) 0) (oN (zD e a) (oN (zpV j d) (oN (inb k (ln g)) (share (up g k (zLJ j d)) (fun l=>(some [(.agg [(.s .u8 c.b),(.i .i64 (zpW j d).i),(.i .i64 (zpW j d).h)]),(aS .slot l)])))))) (cond (ieq (zk f 8) 1) (oN (zD e a) (oN (inr 0 k (ln g)) (some [(.agg [(.s .u8 c.b),(.i .i64 (zf e a).i),(.i .i64 (zf e a).h)]),(aS .slot (tk g k))]))) (some [(.agg [(.s .u8 c.b),(.i .i64 (zf f 8).i),(.i .i64 (zf f 8).h)]),(aS .slot g)])))))
def zj2 (c:Cur)(a:Int)(d:Int)(s:Cur)(e:List Slot):Prop:=(∃N,zoE N c a d=some (AV.agg (zb0 s)::[aS .slot e]))/\(s.b=c.b/\0<=s.i)/\((0<a->a<=1000->ln e<=a/\(0<d->d<=1000->∀s∈e,I64 s.Page)))
def zfI (c:Cur)(a:Int)(b:Int):Bool:=wC (zj2 c a b)
def zgL (c:Cur)(a:Int)(b:Int):Cur:=wS (zj2 c a b)
def zeZ (c:Cur)(a:Int)(b:Int):List Slot:=wV (zj2 c a b)
theorem zpT {c:Cur}{a:Int}{b:Int}(h:zfI c a b=true):zj2 c a b (zgL c a b) (zeZ c a b):=wG h
theorem zpU (c:Cur)(a:Int)(b:Int):0<=(zgL c a b).i:=wP fun h=>h.2.1.2
theorem zPg (c:Cur)(a:Int)(d:Int)(h:∃N,Ends (wE (fun e=>aS .slot e) c.b fun e=>(0<a->a<=1000->ln e<=a/\(0<d->d<=1000->∀s∈e,I64 s.Page))) (zoE N c a d)):zfI c a d=true:=wI (fun _ _ h=>h) h
def zsD:zdU:=rP2 dI dI fun c b d=>(zfI c b d,zgL c b d,[aS .slot (zeZ c b d)])
theorem zDG:zbP Tryz.prog 137 [false,true,true] zsD:=hP2 zd9 zbg zLy zo (zx []) (fun _ _ _ h=>(zpT h).1)
theorem zoH {c:Cur}(h:zbc c){n:Int}(a:0<n)(j:n<=1000)(m:Int):zfI c n m=true:=by
 refine zPg c n m ⟨0,?_⟩;unfold zoE oN;conv=>zeta
 have l:zbc {zK c n m with b:=c.b}:=zbL h (zhO _ _ _);have i:zbc {zf {zK c n m with b:=c.b} 8 with b:=c.b}:=zbL h (zJ _ _);have k:zbc {zf {zf {zK c n m with b:=c.b} 8 with b:=c.b} n with b:=c.b}:=zbL h (zJ _ _);have g:=(zv1 (zAr h (vK a) j m)).2.2 (vK a) j;generalize zdy c n m=T at g;refine zq (zAr h (vK a) j m) (zq (zbx l 8) (zbp (fun _=>zq (zbx i n) (zq (zTe k m) (zq (zwx i a (by omega)) (zl3 (zbJ (aS .slot) (z5e _ _) (fun _ _=>⟨by rw[z9X];omega,fun e f s d=>?_⟩)))))) (fun _=>zbp (fun _=>zq (zbx i n) (zq (zEr i a (by omega)) (zbJ (aS .slot) (zJ _ _) (fun _ _=>⟨?_,fun e f s d=>g.2 e f s (jT d)⟩)))) (fun _=>zbJ (aS .slot) (zJ _ _) (fun _ _=>⟨by omega,g.2⟩)))));{rcases qW d with d|rfl;{exact g.2 e f s d};{exact(zPh (zTe k m)).2.2 e f}};{have:=z9W T;exact Int.le_trans (this _) (by omega)}
def zx1 (N:Nat)(c:Cur)  : OA :=
 (iter (σ:=(Int×(Int×(Int×((List Int)×((List Int)×Unit)))))) N (fun f a=>let d:=(⟨a.2.2.2.2.1,a.2.1,a.2.2.1⟩:Cur);let e:=(ap a.2.2.2.1 [(zk d 100)]); (cond (ilt a.1 4) (oN (zD d 100) (oN (few (ln e)) (f ((zL .i64 a.1 1),((zf d 100).i,((zf d 100).h,(e,(a.2.2.2.2.1,())))))))) (some [(.agg [(.s .u8 a.2.2.2.2.1),(.i .i64 a.2.1),(.i .i64 a.2.2.1)]),(aS .int a.2.2.2.1)]))) (0,(c.i,(c.h,([],(c.b,()))))))
def zVT:FuncId->Nat->Option Tmpl:=zx [(214,0,{n:=16,tm:=[(0,.lp 0 0),(3,.sl 0 []),(4,ti)],lo:=[(0,[.sl 1 [],ti,ti])],ro:=[(0,.int,true),(1,.u8,false)]})]
def zp0 (c:Cur)(s:Cur)(a:List Int):Prop:=(∃N,zx1 N c=some (AV.agg (zb0 s)::[aS .int a]))/\(s.b=c.b/\0<=s.i)/\(a.length=4)
def ziH (c:Cur)  : Bool:=wC (zp0 c)
def zfl (c:Cur)  : Cur:=wS (zp0 c)
def zov (c:Cur)  : List Int:=wV (zp0 c)
theorem zyI {c:Cur}(h:ziH c=true):zp0 c (zfl c) (zov c):=wG h
theorem zJC (c:Cur)  : 0<=(zfl c).i:=wP fun h=>h.2.1.2
theorem z1D (c:Cur)(h:∃N,Ends (wE (fun a=>aS .int a) c.b fun a=>a.length=4) (zx1 N c)):ziH c=true:=wI (fun _ _ h=>h) h
def zzD:zdU:=rP0 fun c=>(ziH c,zfl c,[aS .int (zov c)])
theorem zN3:zbP Tryz.prog 214 [false,true,true] zzD:=hP0 zd9 zbg zLy zo zVT (fun _ h=>(zyI h).1)
theorem zO1 {c:Cur}(h:zbc c):ziH c=true:=by
 refine z1D c ⟨1002,?_⟩;unfold zx1 oN;conv=>zeta
 exact zYM h (P:=fun _=>True) (m:=4) (by omega) (by omega) (fc:=fun c=>zD c 100) (fs:=fun c=>zf c 100) (fv:=fun c=>zk c 100) (R:=fun s l=>AV.agg (zb0 s)::[aS .int l]) (fun h=>zbx h _) (fun c=>zJ c _) (fun _=>trivial) (fun s l a d e f=>⟨s,l,rfl,⟨a,d⟩,by unfold ln at e;omega⟩) ((fun i t=>((i:Int),t.1,t.2.1,t.2.2,c.b,())):Int->Int×Int×List Int->_) (fun rec t i k l=>rfl)
def zbcr:zcN:=[(137,([false,true,true],zsD)),(214,([false,true,true],zzD))]++zbcq
theorem zLz:zb2 zbcr:=zcs zLy (by
 intro x a;simp only[qG,qN,or_false]at a;rcases a with rfl|rfl
 .exact zDG
 .exact zN3)
def zAx (N:Nat)(c:Cur)(f:Int):OA:=
 (iter (σ:=(Int×(Int×(Int×(Int×(lM×((List Int)×Unit))))))) N (fun g a=>let d:=(⟨a.2.2.2.2.2.1,a.2.2.1,a.2.2.2.1⟩:Cur);let e:=(ap a.2.2.2.2.1 [(zov d)]); (cond (ilt a.2.1 a.1) (oN (ziH d) (oN (few (ln e)) (g (a.1,((zL .i64 a.2.1 1),((zfl d).i,((zfl d).h,(e,(a.2.2.2.2.2.1,()))))))))) (some [(.agg [(.s .u8 a.2.2.2.2.2.1),(.i .i64 a.2.2.1),(.i .i64 a.2.2.2.1)]),(aS (.sl .int) a.2.2.2.2.1)]))) (f,(0,(c.i,(c.h,([],(c.b,())))))))
def z0d:FuncId->Nat->Option Tmpl:=zx [(222,0,{n:=19,tm:=[(0,.lp 0 0),(1,ti),(5,.sl 0 []),(6,ti)],lo:=[(0,[.sl 1 [],ti,ti])],ro:=[(0,(.sl .int),true),(1,.u8,false)]})]
def zr5 (c:Cur)(a:Int)(s:Cur)(d:List (List Int)):Prop:=(∃N,zAx N c a=some (AV.agg (zb0 s)::[aS (.sl .int) d]))/\(s.b=c.b/\0<=s.i)/\((0<=a->a<=1000->ln d=a/\∀r∈d,r.length=4))
def zir (c:Cur)(a:Int):Bool:=wC (zr5 c a)
def zmC (c:Cur)(a:Int):Cur:=wS (zr5 c a)
def zv2 (c:Cur)(a:Int):List (List Int):=wV (zr5 c a)
theorem zBO {c:Cur}{a0:Int}(h:zir c a0=true):zr5 c a0 (zmC c a0) (zv2 c a0):=wG h
theorem z5i (c:Cur)(a0:Int):0<=(zmC c a0).i:=wP fun h=>h.2.1.2
theorem z5h (c:Cur)(a:Int)(h:∃N,Ends (wE (fun d=>aS (.sl .int) d) c.b fun d=>(0<=a->a<=1000->ln d=a/\∀r∈d,r.length=4)) (zAx N c a)):zir c a=true:=wI (fun _ _ h=>h) h
def zCx:zdU:=rP1 dI fun c b=>(zir c b,zmC c b,[aS (.sl .int) (zv2 c b)])
theorem zzm:zbP Tryz.prog 222 [false,true,true] zCx:=hP1 zd9 zbg zLz zo z0d (fun _ _ h=>(zBO h).1)
theorem zbfw {c:Cur}(h:zbc c){a0:Int}(a:0<=a0)(d:a0<=1000):zir c a0=true:=by
 refine z5h c a0 ⟨1002,?_⟩;unfold zAx oN;conv=>zeta
 exact zYM h (P:=fun r=>r.length=4) a d (fc:=ziH) (fs:=zfl) (fv:=zov) (R:=fun s l=>AV.agg (zb0 s)::[aS (.sl .int) l]) zO1 zJC (fun h=>(zyI (zO1 h)).2.2) (fun s l e f g j=>⟨s,l,rfl,⟨e,f⟩,fun _ _=>⟨g,j⟩⟩) ((fun i t=>(a0,(i:Int),t.1,t.2.1,t.2.2,c.b,())):Int->Int×Int×List (List Int)->_) (fun rec t i k l=>rfl)
def zuO (N:Nat)(c:Cur)  : OA :=
 let d:=(zov c);let e:=({ (zfl c) with b:=c.b}:Cur);let f:=(zf e 6);let a:=({f with b:=c.b}:Cur);let g:=({ (zf a 4) with b:=c.b}:Cur); (oN (ziH c) (oN (zD e 6) (cond (ieq (zk e 6) 0) (oN (zD a 4) (oN (inr 0 (zk a 4) (ln d)) (some [(.agg [(.s .u8 c.b),(.i .i64 (zf a 4).i),(.i .i64 (zf a 4).h)]),(aS .int (tk d (zk a 4)))]))) (cond (ieq (zk e 6) 1) (oN (zD a 4) (oN (zbq g [(-1),99,100]) (oN (inb (zk a 4) (ln d)) (share (up d (zk a 4) (zbk g [(-1),99,100])) (fun j=>(some [(.agg [(.s .u8 c.b),(.i .i64 (zZ g [(-1),99,100]).i),(.i .i64 (zZ g [(-1),99,100]).h)]),(aS .int j)])))))) (cond (ieq (zk e 6) 2) (oN (few (ln (ap d [1]))) (some [(.agg [(.s .u8 c.b),(.i .i64 f.i),(.i .i64 f.h)]),(aS .int (ap d [1]))])) (some [(.agg [(.s .u8 c.b),(.i .i64 f.i),(.i .i64 f.h)]),(aS .int d)]))))))
def znD (c:Cur)(s:Cur)(a:List Int):Prop:=(∃N,zuO N c=some (AV.agg (zb0 s)::[aS .int a]))/\(s.b=c.b/\0<=s.i)/\(a.length<=5)
def zlG (c:Cur)  : Bool:=wC (znD c)
def zlH (c:Cur)  : Cur:=wS (znD c)
def zuk (c:Cur)  : List Int:=wV (znD c)
theorem zGn {c:Cur}(h:zlG c=true):znD c (zlH c) (zuk c):=wG h
theorem zZo (c:Cur)  : 0<=(zlH c).i:=wP fun h=>h.2.1.2
theorem zZn (c:Cur)(h:∃N,Ends (wE (fun a=>aS .int a) c.b fun a=>a.length<=5) (zuO N c)):zlG c=true:=wI (fun _ _ h=>h) h
def zw0:zdU:=rP0 fun c=>(zlG c,zlH c,[aS .int (zuk c)])
theorem zKU:zbP Tryz.prog 138 [false,true,true] zw0:=hP0 zd9 zbg zLz zo (zx []) (fun _ h=>(zGn h).1)
theorem z2k {c:Cur}(h:zbc c):zlG c=true:=by
 refine zZn c ⟨0,?_⟩;unfold zuO oN;conv=>zeta
 have e:zbc {zfl c with b:=c.b}:=zbL h (zJC _);have a:zbc {zf {zfl c with b:=c.b} 6 with b:=c.b}:=zbL h (zJ _ _);have f:zbc {zf {zf {zfl c with b:=c.b} 6 with b:=c.b} 4 with b:=c.b}:=zbL h (zJ _ _);have g:=(zyI (zO1 h)).2.2;generalize zov c=T at g;have d:ln T=4:=(by unfold ln;omega);refine zq (zO1 h) (zq (zbx e 6) (zbp (fun _=>zq (zbx a 4) (zq (zEr a (by omega) (by omega)) (zbJ (aS .int) (zJ _ _) (qU (zE7 T _) (by omega))))) (fun _=>zbp (fun _=>zq (zbx a 4) (zq (zeQ f (by simp)) (zq (zwx a (by omega) (by omega)) (zl3 (zbJ (aS .int) (zb1 _ _) (by rw[zih];omega)))))) (fun _=>zbp (fun _=>zq (zkb (by rw[zg3];omega)) (zbJ (aS .int) (zJ _ _) ?_)) (fun _=>zbJ (aS .int) (zJ _ _) (by omega))))));simp[ap];omega
def zbcs:zcN:=[(222,([false,true,true],zCx)),(138,([false,true,true],zw0))]++zbcr
theorem zY4:zb2 zbcs:=zcs zLz (by
 intro x a;simp only[qG,qN,or_false]at a;rcases a with rfl|rfl
 .exact zzm
 .exact zKU)
def zs4 (N:Nat)(c:Cur)  : OA :=
 let d:=({ (zgk c) with b:=c.b}:Cur);let a:=({ (zf d 10) with b:=c.b}:Cur);let e:=(zZ a [(-1),0,12,15,16,99,100,9223372036854775807]); (oN (zj3 c) (oN (zD d 10) (cond (ieq (zk d 10) 0) (oN (zD a 11) (some [(.agg [(.s .u8 c.b),(.i .i64 (zf a 11).i),(.i .i64 (zf a 11).h)]),(.agg [(.i .i64 (wsub .i64 (zk a 11) 1)),(.i .i64 (zf8 c).X)])])) (cond (ieq (zk d 10) 1) (oN (zbq a [(-1),0,12,15,16,99,100,9223372036854775807]) (some [(.agg [(.s .u8 c.b),(.i .i64 e.i),(.i .i64 e.h)]),(.agg [(.i .i64 (zf8 c).Op),(.i .i64 (zbk a [(-1),0,12,15,16,99,100,9223372036854775807]))])])) (some [(.agg [(.s .u8 c.b),(.i .i64 (zf d 10).i),(.i .i64 (zf d 10).h)]),(.agg [(.i .i64 (zf8 c).Op),(.i .i64 (zf8 c).X)])])))))
def zmF (c:Cur)(s:Cur)(a:Ins):Prop:=(∃N,zs4 N c=some (AV.agg (zb0 s)::[aT .ins a]))/\(s.b=c.b/\0<=s.i)/\(True)
def zkq (c:Cur)  : Bool:=wC (zmF c)
def zkr (c:Cur)  : Cur:=wS (zmF c)
def zyJ (c:Cur)  : Ins:=wV (zmF c)
theorem zVH {c:Cur}(h:zkq c=true):zmF c (zkr c) (zyJ c):=wG h
theorem zVJ (c:Cur)  : 0<=(zkr c).i:=wP fun h=>h.2.1.2
theorem zVI (c:Cur)(h:∃N,Ends (wE (fun a=>aT .ins a) c.b fun a=>True) (zs4 N c)):zkq c=true:=wI (fun _ _ h=>h) h
def zvz:zdU:=rP0 fun c=>(zkq c,zkr c,[aT .ins (zyJ c)])
theorem zHK:zbP Tryz.prog 280 [false,true,true] zvz:=hP0 zd9 zbg zY4 zo (zx []) (fun _ h=>(zVH h).1)
theorem z8O {c:Cur}(h:zbc c):zkq c=true:=by
 refine zVI c ⟨0,?_⟩;unfold zs4 oN;conv=>zeta
 have d:zbc {zgk c with b:=c.b}:=zbL h (zBP _);have a:zbc {zf {zgk c with b:=c.b} 10 with b:=c.b}:=zbL h (zJ _ _);exact zq (zV6 h) (zq (zbx d 10) (zbp (fun _=>zq (zbx a 11) (zbJ (aT .ins) (v:=⟨wsub .i64 _ 1,(zf8 c).X⟩) (zJ _ _) trivial)) (fun _=>zbp (fun _=>zq (zeQ a (by simp)) (zbJ (aT .ins) (v:=⟨(zf8 c).Op,zbk _ _⟩) (zb1 _ _) trivial)) (fun _=>zbJ (aT .ins) (v:=zf8 c) (zJ _ _) trivial))))
def zbct:zcN:=[(280,([false,true,true],zvz))]++zbcs
theorem zBC:zb2 zbct:=zcs zY4 (by
 intro x a;simp only[qG,qN,or_false]at a;rcases a with rfl
 .exact zHK)
def zqo (N:Nat)(c:Cur)  : OA :=
 let e:=(zb5 c);let g:=({ (zX c) with b:=c.b}:Cur);let k:=(zf g 8);let d:=({k with b:=c.b}:Cur); (oN (zhd c) (oN (zD g 8) (cond (ieq (zk g 8) 0) (oN (zkq d) (oN (inb 0 (ln e)) (share (up e 0 (zyJ d)) (fun m=>(some [(.agg [(.s .u8 c.b),(.i .i64 (zkr d).i),(.i .i64 (zkr d).h)]),(aS .ins m)]))))) (cond (ieq (zk g 8) 1) (iter (σ:=(Int×(Int×(lI×((List Int)×Unit))))) N (fun l a=>let j:=(⟨a.2.2.2.1,a.1,a.2.1⟩:Cur);let f:=({ (zf j 2) with b:=a.2.2.2.1}:Cur); (oN (zD j 2) (cond (ilt (ln a.2.2.1) (zL .i64 12 (zk j 2))) (oN (zj3 f) (oN (few (ln (ap a.2.2.1 [(zf8 f)]))) (l ((zgk f).i,((zgk f).h,((ap a.2.2.1 [(zf8 f)]),(a.2.2.2.1,()))))))) (some [(.agg [(.s .u8 a.2.2.2.1),(.i .i64 (zf j 2).i),(.i .i64 (zf j 2).h)]),(aS .ins a.2.2.1)])))) (k.i,(k.h,(e,(c.b,()))))) (cond (ieq (zk g 8) 2) (oN (zD d 2) (oN (inr 0 (zk d 2) (ln e)) (some [(.agg [(.s .u8 c.b),(.i .i64 (zf d 2).i),(.i .i64 (zf d 2).h)]),(aS .ins (tk e (zk d 2)))]))) (some [(.agg [(.s .u8 c.b),(.i .i64 k.i),(.i .i64 k.h)]),(aS .ins e)]))))))
def zLU:FuncId->Nat->Option Tmpl:=zx [(216,1,{n:=34,tm:=[(0,.lp 0 0),(3,.sl 0 [])],lo:=[(0,[.sl 1 [],ti,ti])],ro:=[(0,.ins,true),(1,.u8,false)]})]
def zk1 (c:Cur)(s:Cur)(a:List Ins):Prop:=(∃N,zqo N c=some (AV.agg (zb0 s)::[aS .ins a]))/\(s.b=c.b/\0<=s.i)/\(a.length<=13)
def zje (c:Cur)  : Bool:=wC (zk1 c)
def zjf (c:Cur)  : Cur:=wS (zk1 c)
def zp2 (c:Cur)  : List Ins:=wV (zk1 c)
theorem zAm {c:Cur}(h:zje c=true):zk1 c (zjf c) (zp2 c):=wG h
theorem zSm (c:Cur)  : 0<=(zjf c).i:=wP fun h=>h.2.1.2
theorem zSl (c:Cur)(h:∃N,Ends (wE (fun a=>aS .ins a) c.b fun a=>a.length<=13) (zqo N c)):zje c=true:=wI (fun _ _ h=>h) h
def ztI:zdU:=rP0 fun c=>(zje c,zjf c,[aS .ins (zp2 c)])
theorem zES:zbP Tryz.prog 216 [false,true,true] ztI:=hP0 zd9 zbg zBC zo zLU (fun _ h=>(zAm h).1)
theorem zTd {c:Cur}(h:zbc c):zje c=true:=by
 refine zSl c ⟨1002,?_⟩;unfold zqo oN;conv=>zeta
 have B:zbc {zX c with b:=c.b}:=zbL h (ziJ _);have q:zbc {zf {zX c with b:=c.b} 8 with b:=c.b}:=zbL h (zJ _ _);have g:=(zr8 (zFi h)).2.2;have p:=zLC g;have j:1<=(zb5 c).length:=(by unfold zda at g;cases d:(zb5 c).all zdL with|false=>rw[d] at g;cases g|true=>rw[d,cT] at g;have:=(ze4.1 g).1;unfold ln at this;omega);generalize zb5 c=T at p j;have y:1<=ln T/\ln T<=12:=(by unfold ln;omega);have e:(2:Int)<=ln T+1:=(by omega);refine zq (zFi h) (zq (zbx B 8) (zbp (fun _=>zq (z8O q) (zq (qJ (by omega)) (zl3 (zbJ (aS .ins) (zVJ _) (by rw[zih];omega))))) (fun _=>zbp (fun _=>?_) (fun _=>zbp (fun _=>zq (zbx q 2) (zq (zEr q (n:=2) (by omega) e) (zbJ (aS .ins) (zJ _ _) (qU (zE7 T _) (by omega))))) (fun _=>zbJ (aS .ins) (zJ _ _) (by omega))))));{refine zka (fun n s=>s.2.2.1.length+n=13/\0<=s.1/\s.2.2.2.1=c.b) ?_ 1002 (13-T.length) _ ⟨by dsimp only;omega,zJ _ _,rfl⟩ (by omega);rintro n ⟨i,k,l,b,u⟩ rec ⟨v,r,t⟩ m;dsimp only at v r t ⊢;subst t;have a:zbc ⟨c.b,i,k⟩:=zbL h r;have A:=zfu a (n:=2) (by omega);have z:=zhx (x:=12) (by omega) (by omega) A.1 (by omega);have w:zbc {zf ⟨c.b,i,k⟩ 2 with b:=c.b}:=zbL h (zJ _ _);refine zq (zbx a 2) (zbp (fun d=>?_) (fun d=>?_));{have f:ln l<zL .i64 12 (zk ⟨c.b,i,k⟩ 2):=qD d;rw[z]at f;unfold ln at f;exact zq (zV6 w) (zq (zkb (by rw[zg3];unfold ln;omega)) (m (n-1) _ (by omega) ⟨by simp[ap];omega,zBP _,rfl⟩))};{exact zbJ (aS .ins) (zJ _ _) (by omega)}}
def zAz (N:Nat)(c:Cur)  : OA :=
 let a:=(zcB c);let e:=({ (zch c) with b:=c.b}:Cur);let f:=(zf e 8);let d:=({f with b:=c.b}:Cur);let g:=(zZ d [(-1),255,256,9223372036854775807]); (oN (zj4 c) (oN (zD e 8) (cond (ieq (zk e 8) 0) (oN (zbq d [(-1),2,3,4]) (some [(.agg [(.s .u8 c.b),(.i .i64 (zZ d [(-1),2,3,4]).i),(.i .i64 (zZ d [(-1),2,3,4]).h)]),(.agg [(.i .i64 (zbk d [(-1),2,3,4])),(.i .i64 a.Post),(.b a.Open)])])) (cond (ieq (zk e 8) 1) (oN (zbq d [(-1),255,256,9223372036854775807]) (some [(.agg [(.s .u8 c.b),(.i .i64 g.i),(.i .i64 g.h)]),(.agg [(.i .i64 a.Traps),(.i .i64 (zbk d [(-1),255,256,9223372036854775807])),(.b a.Open)])])) (cond (ieq (zk e 8) 2) (some [(.agg [(.s .u8 c.b),(.i .i64 f.i),(.i .i64 f.h)]),(.agg [(.i .i64 a.Traps),(.i .i64 a.Post),(.b (nB a.Open))])]) (some [(.agg [(.s .u8 c.b),(.i .i64 f.i),(.i .i64 f.h)]),(.agg [(.i .i64 a.Traps),(.i .i64 a.Post),(.b a.Open)])]))))))
def zr9 (c:Cur)(s:Cur)(a:Ctl):Prop:=(∃N,zAz N c=some (AV.agg (zb0 s)::[.agg (zoM a)]))/\(s.b=c.b/\0<=s.i)/\(True)
def zp4 (c:Cur)  : Bool:=wC (zr9 c)
def zp5 (c:Cur)  : Cur:=wS (zr9 c)
def zBQ (c:Cur)  : Ctl:=wV (zr9 c)
theorem z5k {c:Cur}(h:zp4 c=true):zr9 c (zp5 c) (zBQ c):=wG h
theorem z5m (c:Cur)  : 0<=(zp5 c).i:=wP fun h=>h.2.1.2
theorem z5l (c:Cur)(h:∃N,Ends (wE (fun a=>.agg (zoM a)) c.b fun a=>True) (zAz N c)):zp4 c=true:=wI (fun _ _ h=>h) h
def zCz:zdU:=rP0 fun c=>(zp4 c,zp5 c,[.agg (zoM (zBQ c))])
theorem zQ7:zbP Tryz.prog 217 [false,true,true] zCz:=hP0 zd9 zbg zBC zo (zx []) (fun _ h=>(z5k h).1)
theorem z8N {c:Cur}(h:zbc c):zp4 c=true:=by
 refine z5l c ⟨0,?_⟩;unfold zAz oN nB;conv=>zeta
 have d:zbc {zch c with b:=c.b}:=zbL h (zBR _);have a:zbc {zf {zch c with b:=c.b} 8 with b:=c.b}:=zbL h (zJ _ _);exact zq (z3G h) (zq (zbx d 8) (zbp (fun _=>zq (zeQ a (by simp)) (zbJ (fun x=>AV.agg (zoM x)) (v:=⟨zbk _ _,(zcB c).Post,(zcB c).Open⟩) (zb1 _ _) trivial)) (fun _=>zbp (fun _=>zq (zeQ a (by simp)) (zbJ (fun x=>AV.agg (zoM x)) (v:=⟨(zcB c).Traps,zbk _ _,(zcB c).Open⟩) (zb1 _ _) trivial)) (fun _=>zbp (fun _=>zbJ (fun x=>AV.agg (zoM x)) (v:=⟨(zcB c).Traps,(zcB c).Post,bif (zcB c).Open then false else true⟩) (zJ _ _) trivial) (fun _=>zbJ (fun x=>AV.agg (zoM x)) (v:=(zcB c)) (zJ _ _) trivial)))))
def zx3 (N:Nat)(c:Cur)  : OA :=
 let f:=(zf c 5);let d:=({f with b:=c.b}:Cur);let j:=(zf d 100);let a:=(zk d 100);let e:=({ (zf d 4) with b:=c.b}:Cur);let g:=(zfk (zk d 4) (zcT e 2)); (oN (zD c 5) (cond (ieq (zk c 5) 0) (oN (zD d 4) (oN (zcK e 2) (oN (zkh (zk d 4) (zcT e 2)) (some [(.agg [(.s .u8 c.b),(.i .i64 (zQ e 2).i),(.i .i64 (zQ e 2).h)]),(.agg [(.i .i64 g.Kind),(.i .i64 g.Page),(.b g.Write),(.i .i64 g.N)])])))) (cond (ieq (zk c 5) 1) (oN (zD d 100) (oN (zpA a) (some [(.agg [(.s .u8 c.b),(.i .i64 j.i),(.i .i64 j.h)]),(.agg [(.i .i64 (zfA a).Kind),(.i .i64 (zfA a).Page),(.b (zfA a).Write),(.i .i64 (zfA a).N)])]))) (cond (ieq (zk c 5) 2) (oN (zD d 100) (oN (zrX a) (some [(.agg [(.s .u8 c.b),(.i .i64 j.i),(.i .i64 j.h)]),(.agg [(.i .i64 (zgB a).Kind),(.i .i64 (zgB a).Page),(.b (zgB a).Write),(.i .i64 (zgB a).N)])]))) (cond (ieq (zk c 5) 3) (some [(.agg [(.s .u8 c.b),(.i .i64 f.i),(.i .i64 f.h)]),(.agg [(.i .i64 4),(.i .i64 0),(.b false),(.i .i64 0)])]) (some [(.agg [(.s .u8 c.b),(.i .i64 f.i),(.i .i64 f.h)]),(.agg [(.i .i64 0),(.i .i64 0),(.b false),(.i .i64 0)])]))))))
def zp8 (c:Cur)(s:Cur)(a:GExit):Prop:=(∃N,zx3 N c=some (AV.agg (zb0 s)::[.agg (zee a)]))/\(s.b=c.b/\0<=s.i)/\(True)
def ziK (c:Cur)  : Bool:=wC (zp8 c)
def zfm (c:Cur)  : Cur:=wS (zp8 c)
def zcf (c:Cur)  : GExit:=wV (zp8 c)
theorem z1F {c:Cur}(h:ziK c=true):zp8 c (zfm c) (zcf c):=wG h
theorem zyK (c:Cur)  : 0<=(zfm c).i:=wP fun h=>h.2.1.2
theorem z1G (c:Cur)(h:∃N,Ends (wE (fun a=>.agg (zee a)) c.b fun a=>True) (zx3 N c)):ziK c=true:=wI (fun _ _ h=>h) h
def zzF:zdU:=rP0 fun c=>(ziK c,zfm c,[.agg (zee (zcf c))])
theorem zN6:zbP Tryz.prog 279 [false,true,true] zzF:=hP0 zd9 zbg zBC zo (zx []) (fun _ h=>(z1F h).1)
theorem zXa {c:Cur}(h:zbc c):ziK c=true:=by
 refine z1G c ⟨0,?_⟩;unfold zx3 oN;conv=>zeta
 have a:zbc {zf c 5 with b:=c.b}:=zbL h (zJ _ _);have d:zbc {zf {zf c 5 with b:=c.b} 4 with b:=c.b}:=zbL h (zJ _ _);exact zq (zbx h 5) (zbp (fun _=>zq (zbx a 4) (zq (zii d 2) (zq rfl (zbJ (fun x=>AV.agg (zee x)) (v:=zfk _ _) (zb6 _ _) trivial)))) (fun _=>zbp (fun _=>zq (zbx a 100) (zq rfl (zbJ (fun x=>AV.agg (zee x)) (v:=zfA _) (zJ _ _) trivial))) (fun _=>zbp (fun _=>zq (zbx a 100) (zq rfl (zbJ (fun x=>AV.agg (zee x)) (v:=zgB _) (zJ _ _) trivial))) (fun _=>zbp (fun _=>zbJ (fun x=>AV.agg (zee x)) (v:=⟨4,0,false,0⟩) (zJ _ _) trivial) (fun _=>zbJ (fun x=>AV.agg (zee x)) (v:=⟨0,0,false,0⟩) (zJ _ _) trivial)))))
def zbcu:zcN:=[(216,([false,true,true],ztI)),(217,([false,true,true],zCz)),(279,([false,true,true],zzF))]++zbct
theorem znW:zb2 zbcu:=zcs zBC (by
 intro x a;simp only[qG,qN,or_false]at a;rcases a with rfl|rfl|rfl
 .exact zES
 .exact zQ7
 .exact zN6)
def zAB (N:Nat)(c:Cur)  : OA :=
 let a:=(zcf c);let e:=({ (zfm c) with b:=c.b}:Cur);let d:=({ (zf e 8) with b:=c.b}:Cur); (oN (ziK c) (oN (zD e 8) (cond (ieq (zk e 8) 0) (oN (zD d 7) (some [(.agg [(.s .u8 c.b),(.i .i64 (zf d 7).i),(.i .i64 (zf d 7).h)]),(.agg [(.i .i64 (wsub .i64 (zk d 7) 1)),(.i .i64 a.Page),(.b a.Write),(.i .i64 a.N)])])) (cond (ieq (zk e 8) 1) (oN (zbq d [(-1),3,4]) (some [(.agg [(.s .u8 c.b),(.i .i64 (zZ d [(-1),3,4]).i),(.i .i64 (zZ d [(-1),3,4]).h)]),(.agg [(.i .i64 a.Kind),(.i .i64 (zbk d [(-1),3,4])),(.b a.Write),(.i .i64 a.N)])])) (cond (ieq (zk e 8) 2) (oN (zbq d [(-1),99,100]) (some [(.agg [(.s .u8 c.b),(.i .i64 (zZ d [(-1),99,100]).i),(.i .i64 (zZ d [(-1),99,100]).h)]),(.agg [(.i .i64 a.Kind),(.i .i64 a.Page),(.b a.Write),(.i .i64 (zbk d [(-1),99,100]))])])) (some [(.agg [(.s .u8 c.b),(.i .i64 (zf e 8).i),(.i .i64 (zf e 8).h)]),(.agg [(.i .i64 a.Kind),(.i .i64 a.Page),(.b a.Write),(.i .i64 a.N)])]))))))
def zsb (c:Cur)(s:Cur)(a:GExit):Prop:=(∃N,zAB N c=some (AV.agg (zb0 s)::[.agg (zee a)]))/\(s.b=c.b/\0<=s.i)/\(True)
def zp6 (c:Cur)  : Bool:=wC (zsb c)
def zp7 (c:Cur)  : Cur:=wS (zsb c)
def zBS (c:Cur)  : GExit:=wV (zsb c)
theorem z5p {c:Cur}(h:zp6 c=true):zsb c (zp7 c) (zBS c):=wG h
theorem z5r (c:Cur)  : 0<=(zp7 c).i:=wP fun h=>h.2.1.2
theorem z5q (c:Cur)(h:∃N,Ends (wE (fun a=>.agg (zee a)) c.b fun a=>True) (zAB N c)):zp6 c=true:=wI (fun _ _ h=>h) h
def zCB:zdU:=rP0 fun c=>(zp6 c,zp7 c,[.agg (zee (zBS c))])
theorem zQ9:zbP Tryz.prog 219 [false,true,true] zCB:=hP0 zd9 zbg znW zo (zx []) (fun _ h=>(z5p h).1)
theorem z5W {c:Cur}(h:zbc c):zp6 c=true:=by
 refine z5q c ⟨0,?_⟩;unfold zAB oN;conv=>zeta
 have d:zbc {zfm c with b:=c.b}:=zbL h (zyK _);have a:zbc {zf {zfm c with b:=c.b} 8 with b:=c.b}:=zbL h (zJ _ _);exact zq (zXa h) (zq (zbx d 8) (zbp (fun _=>zq (zbx a 7) (zbJ (fun x=>AV.agg (zee x)) (v:=⟨wsub .i64 _ 1,(zcf c).Page,(zcf c).Write,(zcf c).N⟩) (zJ _ _) trivial)) (fun _=>zbp (fun _=>zq (zeQ a (by simp)) (zbJ (fun x=>AV.agg (zee x)) (v:=⟨(zcf c).Kind,zbk _ _,(zcf c).Write,(zcf c).N⟩) (zb1 _ _) trivial)) (fun _=>zbp (fun _=>zq (zeQ a (by simp)) (zbJ (fun x=>AV.agg (zee x)) (v:=⟨(zcf c).Kind,(zcf c).Page,(zcf c).Write,zbk _ _⟩) (zb1 _ _) trivial)) (fun _=>zbJ (fun x=>AV.agg (zee x)) (v:=(zcf c)) (zJ _ _) trivial)))))
def zx4 (N:Nat)(c:Cur)  : OA :=
 let a:=({ (zf c 256) with b:=c.b}:Cur);let d:=({ (zf a 256) with b:=c.b}:Cur);let e:=(zZ d [0,1,128,255,(zk c 256),(zk a 256),(-1),256,9223372036854775807]); (oN (zD c 256) (oN (zD a 256) (oN (zbq d [0,1,128,255,(zk c 256),(zk a 256),(-1),256,9223372036854775807]) (some [(.agg [(.s .u8 c.b),(.i .i64 e.i),(.i .i64 e.h)]),(aI (zbk d [0,1,128,255,(zk c 256),(zk a 256),(-1),256,9223372036854775807]))]))))
def zp9 (c:Cur)(s:Cur)(a:Int):Prop:=(∃N,zx4 N c=some (AV.agg (zb0 s)::[aI a]))/\(s.b=c.b/\0<=s.i)/\(True)
def znm (c:Cur)  : Bool:=wC (zp9 c)
def znn (c:Cur)  : Cur:=wS (zp9 c)
def zxP (c:Cur)  : Int:=wV (zp9 c)
theorem z1H {c:Cur}(h:znm c=true):zp9 c (znn c) (zxP c):=wG h
theorem z1J (c:Cur)  : 0<=(znn c).i:=wP fun h=>h.2.1.2
theorem z1I (c:Cur)(h:∃N,Ends (wE (fun a=>aI a) c.b fun a=>True) (zx4 N c)):znm c=true:=wI (fun _ _ h=>h) h
def zzG:zdU:=rP0 fun c=>(znm c,znn c,[aI (zxP c)])
theorem zN7:zbP Tryz.prog 218 [false,true,true] zzG:=hP0 zd9 zbg znW zo (zx []) (fun _ h=>(z1H h).1)
theorem zbe2 {c:Cur}(h:zbc c):znm c=true:=by
 refine z1I c ⟨0,?_⟩;unfold zx4 oN;conv=>zeta
 have a:zbc {zf c 256 with b:=c.b}:=zbL h (zJ _ _);have d:zbc {zf {zf c 256 with b:=c.b} 256 with b:=c.b}:=zbL h (zJ _ _);exact zq (zbx h 256) (zq (zbx a 256) (zq (zeQ d (by simp)) (zbJ aI (zb1 _ _) trivial)))
def zuQ (N:Nat)(c:Cur)  : OA :=
 let a:=(zZ c [0,1,2,3,0,1,(-1),4,9223372036854775807]); (oN (zbq c [0,1,2,3,0,1,(-1),4,9223372036854775807]) (some [(.agg [(.s .u8 c.b),(.i .i64 a.i),(.i .i64 a.h)]),(aI (zbk c [0,1,2,3,0,1,(-1),4,9223372036854775807]))]))
def znF (c:Cur)(s:Cur)(a:Int):Prop:=(∃N,zuQ N c=some (AV.agg (zb0 s)::[aI a]))/\(s.b=c.b/\0<=s.i)/\(True)
def zlI (c:Cur)  : Bool:=wC (znF c)
def zlJ (c:Cur)  : Cur:=wS (znF c)
def zum (c:Cur)  : Int:=wV (znF c)
theorem zZr {c:Cur}(h:zlI c=true):znF c (zlJ c) (zum c):=wG h
theorem zZt (c:Cur)  : 0<=(zlJ c).i:=wP fun h=>h.2.1.2
theorem zZs (c:Cur)(h:∃N,Ends (wE (fun a=>aI a) c.b fun a=>True) (zuQ N c)):zlI c=true:=wI (fun _ _ h=>h) h
def zw2:zdU:=rP0 fun c=>(zlI c,zlJ c,[aI (zum c)])
theorem zKW:zbP Tryz.prog 141 [false,true,true] zw2:=hP0 zd9 zbg znW zo (zx []) (fun _ h=>(zZr h).1)
theorem zbec {c:Cur}(h:zbc c):zlI c=true:=by
 refine zZs c ⟨0,?_⟩;unfold zuQ oN;conv=>zeta
 exact zq (zeQ h (by simp)) (zbJ aI (zb1 _ _) trivial)
def zEh (N:Nat)(c:Cur)  : OA :=
 let a:=(zZ c [0,0,1,1,2,(-1),9223372036854775807]); (oN (zbq c [0,0,1,1,2,(-1),9223372036854775807]) (some [(.agg [(.s .u8 c.b),(.i .i64 a.i),(.i .i64 a.h)]),(aI (zbk c [0,0,1,1,2,(-1),9223372036854775807]))]))
def zun (c:Cur)(s:Cur)(a:Int):Prop:=(∃N,zEh N c=some (AV.agg (zb0 s)::[aI a]))/\(s.b=c.b/\0<=s.i)/\(True)
def zju (c:Cur)  : Bool:=wC (zun c)
def zT5 (c:Cur)  : Cur:=wS (zun c)
def zuH (c:Cur)  : Int:=wV (zun c)
theorem z8g {c:Cur}(h:zju c=true):zun c (zT5 c) (zuH c):=wG h
theorem z8h (c:Cur)(h:∃N,Ends (wE (fun a=>aI a) c.b fun a=>True) (zEh N c)):zju c=true:=wI (fun _ _ h=>h) h
def zFj:zdU:=rP0 fun c=>(zju c,zT5 c,[aI (zuH c)])
theorem zUI:zbP Tryz.prog 96 [false,true,true] zFj:=hP0 zd9 zbg znW zo (zx []) (fun _ h=>(z8g h).1)
theorem z5Z {c:Cur}(h:zbc c):zju c=true:=by
 refine z8h c ⟨0,?_⟩;unfold zEh oN;conv=>zeta
 exact zq (zeQ h (by simp)) (zbJ aI (zb1 _ _) trivial)
def z0t (N:Nat)(c:Cur)  : OA :=
 let a:=(zZ c [0,1,2,3,3,4,7,8,(-1),9223372036854775807,(-9223372036854775808)]); (oN (zbq c [0,1,2,3,3,4,7,8,(-1),9223372036854775807,(-9223372036854775808)]) (some [(.agg [(.s .u8 c.b),(.i .i64 a.i),(.i .i64 a.h)]),(aI (zbk c [0,1,2,3,3,4,7,8,(-1),9223372036854775807,(-9223372036854775808)]))]))
def zpX (c:Cur)(s:Cur)(a:Int):Prop:=(∃N,z0t N c=some (AV.agg (zb0 s)::[aI a]))/\(s.b=c.b/\0<=s.i)/\(True)
def zJz (c:Cur)  : Bool:=wC (zpX c)
def zJA (c:Cur)  : Cur:=wS (zpX c)
def zT4 (c:Cur)  : Int:=wV (zpX c)
theorem z1B {c:Cur}(h:zJz c=true):zpX c (zJA c) (zT4 c):=wG h
def zzB:zdU:=rP0 fun c=>(zJz c,zJA c,[aI (zT4 c)])
theorem zN0:zbP Tryz.prog 122 [false,true,true] zzB:=hP0 zd9 zbg znW zo (zx []) (fun _ h=>(z1B h).1)
def zuP (N:Nat)(c:Cur)  : OA :=
 let e:=({ (zf c 3) with b:=c.b}:Cur);let d:=({ (zf e 4) with b:=c.b}:Cur);let a:=({ (zf d 6) with b:=c.b}:Cur); (oN (zD c 3) (oN (zD e 4) (oN (zD d 6) (oN (zD a 3) (some [(.agg [(.s .u8 c.b),(.i .i64 (zf a 3).i),(.i .i64 (zf a 3).h)]),(.agg [(.i .i64 (zL .i64 1 (zk c 3))),(.i .i64 (zk e 4)),(.i .i64 (zk d 6)),(.i .i64 (zL .i64 1 (zk a 3)))])])))))
def znE (c:Cur)(s:Cur)(a:Entry):Prop:=(∃N,zuP N c=some (AV.agg (zb0 s)::[aT .entry a]))/\(s.b=c.b/\0<=s.i)/\(True)
def zhP (c:Cur)  : Bool:=wC (znE c)
def zgD (c:Cur)  : Cur:=wS (znE c)
def zmE (c:Cur)  : Entry:=wV (znE c)
theorem zZp {c:Cur}(h:zhP c=true):znE c (zgD c) (zmE c):=wG h
theorem zv3 (c:Cur)  : 0<=(zgD c).i:=wP fun h=>h.2.1.2
theorem zZq (c:Cur)(h:∃N,Ends (wE (fun a=>aT .entry a) c.b fun a=>True) (zuP N c)):zhP c=true:=wI (fun _ _ h=>h) h
def zw1:zdU:=rP0 fun c=>(zhP c,zgD c,[aT .entry (zmE c)])
theorem zKV:zbP Tryz.prog 221 [false,true,true] zw1:=hP0 zd9 zbg znW zo (zx []) (fun _ h=>(zZp h).1)
theorem zP6 {c:Cur}(h:zbc c):zhP c=true:=by
 refine zZq c ⟨0,?_⟩;unfold zuP oN;conv=>zeta
 have a:zbc {zf c 3 with b:=c.b}:=zbL h (zJ _ _);have d:zbc {zf {zf c 3 with b:=c.b} 4 with b:=c.b}:=zbL h (zJ _ _);have e:zbc {zf {zf {zf c 3 with b:=c.b} 4 with b:=c.b} 6 with b:=c.b}:=zbL h (zJ _ _);exact zq (zbx h 3) (zq (zbx a 4) (zq (zbx d 6) (zq (zbx e 3) (zbJ (aT .entry) (v:=⟨_,_,_,_⟩) (zJ _ _) trivial))))
def zbcv:zcN:=[(219,([false,true,true],zCB)),(218,([false,true,true],zzG)),(141,([false,true,true],zw2)),(96,([false,true,true],zFj)),(122,([false,true,true],zzB)),(221,([false,true,true],zw1))]++zbcu
theorem zbah:zb2 zbcv:=zcs znW (by
 intro x a;simp only[qG,qN,or_false]at a;rcases a with rfl|rfl|rfl|rfl|rfl|rfl
 .exact zQ9
 .exact zN7
 .exact zKW
 .exact zUI
 .exact zN0
 .exact zKV)
section
open Go Go.RowKit
structure Cw (w0:World) (blk:Nat) (u:Value) (c:Cur) (w:World):Prop where
 os:w.os=w0.os
 tape:w.tape=w0.tape
 output:w.output=w0.output
 size:w0.heap.size<=w.heap.size
 keep:∀b,b<w0.heap.size->b≠blk->w.heap[b]?=w0.heap[b]?
 cur:∃e,w.heap[blk]?=some (.cells #[u,.int .i64 c.i,.int .i64 c.h] e (0,0))
theorem Cw.trans {g w1 h:World}{blk:Nat}{u:Value}{i d:Cur}(a:Cw g blk u i w1)(c:Cw w1 blk u d h):Cw g blk u d h :=
 ⟨c.os.trans a.os,c.tape.trans a.tape,c.output.trans a.output,qU a.size c.size,fun b e f=>(c.keep b (jJ e a.size) f).trans (a.keep b e f),c.cur⟩
theorem Cw.drew {a w:World}{blk:Nat}{u:Value}{c:Cur}(h:Cw a blk u c w):Cw a blk u c w.drew:=⟨h.os,h.tape,h.output,h.size,h.keep,h.cur⟩
theorem Cw.at (w:World)(blk:Nat)(u:Value)(c:Cur)(h:∃e,w.heap[blk]?=some (.cells #[u,.int .i64 c.i,.int .i64 c.h] e (0,0))):Cw w blk u c w:=⟨rfl,rfl,rfl,qY _,fun _ _ _=>rfl,h⟩
theorem Cw.alloc {d w:World}{blk:Nat}{u:Value}{c:Cur}(h:Cw d blk u c w)(a:blk<w.heap.size)(o:Obj):Cw d blk u c (w.alloc o):=
 ⟨h.os,h.tape,h.output,qU h.size (by simp),fun b a g=>(heap_alloc_old w o (jJ a h.size)).trans (h.keep b a g),by obtain⟨e,f⟩:=h.cur;exact⟨e,(heap_alloc_old w o a).trans f⟩⟩
theorem Cw.lt {b w:World}{blk:Nat}{u:Value}{c:Cur}(h:Cw b blk u c w):blk<w.heap.size:=by obtain⟨e,a⟩:=h.cur;exact(qQ.1 a).1
theorem zKd {P:Program}{f:FuncId}{y:List CV->List AV->Option (Bool×List CV×List AV)}(V:zbP P f [false,true,true] y){w:World}{blk:Nat}{u:Value}{c c2:Cur}{z:zV}(q:∃e,w.heap[blk]?=some (.cells #[u,.int .i64 c.i,.int .i64 c.h] e (0,0)))(hu:Rep false w u (.s .u8 c.b) z)(W:∀x,z x->x<w.heap.size/\x≠blk){avs rs:List AV}{xs:List Value}{Ka:zV}(l:zdu false w (zF avs) xs (fun _=>Ka))(p:∀x,Ka x->x<w.heap.size/\x≠blk)(hr:y (zb0 c) avs=some (true,zb0 c2,rs)) :
 Calls P f (#[.pointer (some ⟨blk,0,none⟩)]++(zbX avs xs).toArray) w fun e B=>∃C A,e = .returned (zjV (zbX rs C))/\Cw w blk u c2 B/\zur (zpg f) B (zF rs) C A/\(∀i x,i<(zF rs).length->A i x->w.heap.size<=x/\x<B.heap.size):=by
 obtain⟨e,Y⟩:=q;refine(V.2 w blk _ e (zb0 c) (fun j x=>j=0/\z x) avs xs Ka (zb0 c2) rs Y rfl rfl ?_ ?_ ?_ l ?_ hr).mono ?_
 .intro j cv v m k
  match j,m,k with
  | 0,m,k=>cases m;cases k;exact hu.weak (fun x l=>⟨rfl,l⟩)
  | 1,m,k=>cases m;cases k;exact .i _ _ _
  | 2,m,k=>cases m;cases k;exact .i _ _ _
  |j+3,m,k=>simp[zb0]at m
 .intro j x _ l;exact W x l.2
 .intro i j x r t n hne l hx2;have:i=0:=l.1;subst this;simp[zba]at n
 .intro x l;refine⟨(p x l).1,(p x l).2,fun j t n d=>?_⟩;have:j=0:=d.1;subst this;simp[zba]at n
 .intro E B hp;cases E with
  |panicked _=>exact hp.elim
  |outgrown=>exact hp.elim
  |returned v=>
   obtain⟨Q,R,S,T,U,a,G,K',C,A,I,L,g3,F,M,N,g7,O,g9,J,K⟩:=hp;have g:∀i x,i<(zb0 c).length->zba [false,true,true] i->¬ ((fun (j:Nat) x=>j=0/\z x) i x):=by intro i x r n d;have:i=0:=d.1;subst this;simp[zba]at n
   have k:a = #[u,.int .i64 c2.i,.int .i64 c2.h]:=by
    have hs:a.size=3:=L;have D:=(F 0 _ (a[0]'(by omega)) rfl (jH _)).2 (by simp[zba]);have H:=F 1 _ (a[1]'(by omega)) rfl (jH _);have E:=F 2 _ (a[2]'(by omega)) rfl (jH _);have D:u=a[0]'(by omega):=(by simpa using D);apply Array.ext;{exact hs}
    .intro i r hi2
     match i,r with
     | 0,_=>exact D.symm
     | 1,_=>exact H
     | 2,_=>exact E
     |i+3,h=>omega
   subst k;refine⟨C,A,by rw[N],⟨Q,R,S,T,fun b X Z=>U b X Z (fun j t n d=>g j b t n d),G,I⟩,M,fun i x r d=>?_⟩;obtain⟨k1,k2,k3⟩:=O i x r d;rcases k3 with⟨j,t,n,d⟩|d;{exact absurd d (g j x t n)};{exact⟨d,k1⟩}
def zeG (c:Cur):List (List Int):=zv2 c 3
def zBr (c:Cur):Cur:={zmC c 3 with b:=c.b}
def z4A (c:Cur):Int:=zk (zBr c) 8
def zhS (c:Cur):Cur:={zf (zBr c) 8 with b:=c.b}
def z4z (c:Cur):Int:=zk (zhS c) 3
def zt2 (c:Cur):Cur:={zf (zhS c) 3 with b:=c.b}
def l04n (c:Cur):Int:=zk (zt2 c) 4
def z4x (c:Cur):Cur:={zf (zt2 c) 4 with b:=c.b}
def zvq (c:Cur):Int:=zbk (zhS c) [-1,100]
def z4y (c:Cur):Cur:={zZ (zhS c) [-1,100] with b:=c.b}
def zoF (_:Nat)(c:Cur):OA:=
 bif zir c 3 then (bif zD (zBr c) 8 then (bif ieq (z4A c) 0 then (cond (zD (zhS c) 3) (cond (zD (zt2 c) 4) (some (AV.agg (zb0 (z4x c))::[aS (.sl .int) (up (zeG c) (z4z c) (tk (ix (zeG c) 0 []) (l04n c)))])) none) none)
  else (bif ieq (z4A c) 1 then (cond (zbq (zhS c) [-1,100]) (some (AV.agg (zb0 (z4y c))::[aS (.sl .int) (up (zeG c) 1 (up (ix (zeG c) 1 []) 2 (zvq c)))])) none)
  else (cond (ieq (z4A c) 2) (cond (zD (zhS c) 3) (some (AV.agg (zb0 (zt2 c))::[aS (.sl .int) (tk (zeG c) (z4z c))])) none) (some (AV.agg (zb0 (zhS c))::[aS (.sl .int) (zeG c)]))))) else none) else none
def zr4 (c:Cur)(s:Cur)(a:List (List Int)):Prop:=(∃N,zoF N c=some (AV.agg (zb0 s)::[aS (.sl .int) a]))/\(s.b=c.b/\0<=s.i)/\(a.length<=3/\∀r∈a,r.length<=4)
def zpZ (c:Cur)  : Bool:=wC (zr4 c)
def ziq (c:Cur)  : Cur:=wS (zr4 c)
def zq7 (c:Cur)  : List (List Int):=wV (zr4 c)
theorem zPi {c:Cur}(h:zpZ c=true):zr4 c (ziq c) (zq7 c):=wG h
theorem z5g (c:Cur)  : 0<=(ziq c).i:=wP fun h=>h.2.1.2
theorem z5f (c:Cur)(h:∃N,Ends (wE (fun a=>aS (.sl .int) a) c.b fun a=>a.length<=3/\∀r∈a,r.length<=4) (zoF N c)):zpZ c=true:=wI (fun _ _ h=>h) h
def ztg:zdU:=rP0 fun c=>(zpZ c,ziq c,[aS (.sl .int) (zq7 c)])
theorem z96 {w:World}{blk:Nat}{u:Value}{c:Cur}{l:zV}{n:Int}(g:∃e,w.heap[blk]?=some (.cells #[u,.int .i64 c.i,.int .i64 c.h] e (0,0)))(t:Rep false w u (.s .u8 c.b) l)(q:∀x,l x->x<w.heap.size/\x≠blk)(r:zir c n=true) :
 Calls Tryz.prog 222 #[.pointer (some ⟨blk,0,none⟩),.int .i64 n] w fun e k=>∃v j,e = .returned v/\Cw w blk u {zmC c n with b:=c.b} k/\Rep true k v (.s (.sl .int) (zv2 c n)) j/\(∀x,j x->w.heap.size<=x/\x<k.heap.size):=by
 have:=zKd (c:=c) (c2:=zmC c n) zzm g t q (avs:=[.one (.i .i64 n)]) (rs:=[aS (.sl .int) (zv2 c n)]) (xs:=[.int .i64 n]) (Ka:=fun _=>False) ⟨rfl,fun i A x a d=>by
  match i,a,d with
  | 0,a,d=>cases a;cases d;exact .i _ _ _
  |i+1,a,d=>simp at d⟩ (fun x d=>d.elim) (by show some (zir ⟨c.b,c.i,c.h⟩ n,_,_)=_;rw[show (⟨c.b,c.i,c.h⟩:Cur)=c from rfl,r])
 refine Calls.mono this ?_
 rintro e k ⟨z,j,rfl,f,m,p⟩
 match z,m.1 with
 |[y],_=>exact⟨y,j 0,rfl,⟨f.os,f.tape,f.output,f.size,f.keep,f.cur⟩,m.2 0 _ y rfl rfl,fun x d=>p 0 x (by simp[zF,AV.cvs]) d⟩
theorem ztR {w:World}{blk:Nat}{u:Value}{c:Cur}{j:zV}{n:Int}(g:∃e,w.heap[blk]?=some (.cells #[u,.int .i64 c.i,.int .i64 c.h] e (0,0)))(r:Rep false w u (.s .u8 c.b) j)(p:∀x,j x->x<w.heap.size/\x≠blk)(q:zD c n=true) :
 Calls Tryz.prog 54 #[.pointer (some ⟨blk,0,none⟩),.int .i64 n] w fun e l=>e = .returned (.int .i64 (zk c n))/\Cw w blk u {zf c n with b:=c.b} l:=by
 have:=zKd (c:=c) (c2:=zf c n) zve g r p (avs:=[.one (.i .i64 n)]) (rs:=[aI (zk c n)]) (xs:=[.int .i64 n]) (Ka:=fun _=>False) ⟨rfl,fun i z x a d=>by
  match i,a,d with
  | 0,a,d=>cases a;cases d;exact .i _ _ _
  |i+1,a,d=>simp at d⟩ (fun x d=>d.elim) (by show some (zD ⟨c.b,c.i,c.h⟩ n,_,_)=_;rw[show (⟨c.b,c.i,c.h⟩:Cur)=c from rfl,q])
 refine Calls.mono this ?_
 rintro e l ⟨t,v,rfl,f,k,A⟩
 match t,k.1,k.2 with
 |[y],_,m=>have:=(m 0 _ y rfl rfl).int_inv;subst this;exact⟨rfl,f.os,f.tape,f.output,f.size,f.keep,f.cur⟩
theorem z7T {w:World}{blk:Nat}{u:Value}{c:Cur}{k:zV}{l:List Int}{v:Value}{Ka:zV}(f:∃e,w.heap[blk]?=some (.cells #[u,.int .i64 c.i,.int .i64 c.h] e (0,0)))(t:Rep false w u (.s .u8 c.b) k)(q:∀x,k x->x<w.heap.size/\x≠blk)(r:zbq c l=true)(z:Rep false w v (.s .int l) Ka)(j:∀x,Ka x->x<w.heap.size/\x≠blk) :
 Calls Tryz.prog 83 #[.pointer (some ⟨blk,0,none⟩),v] w fun e n=>e = .returned (.int .i64 (zbk c l))/\Cw w blk u {zZ c l with b:=c.b} n:=by
 have:=zKd (c:=c) (c2:=zZ c l) zsv f t q (avs:=[.one (.s .int l)]) (rs:=[aI (zbk c l)]) (xs:=[v]) (Ka:=Ka) ⟨rfl,fun i C x a g=>by
  match i,a,g with
  | 0,a,g=>cases a;cases g;exact z
  |i+1,a,g=>simp at g⟩ j (by show some (zbq ⟨c.b,c.i,c.h⟩ l,_,_)=_;rw[show (⟨c.b,c.i,c.h⟩:Cur)=c from rfl,r])
 refine Calls.mono this ?_
 rintro e n ⟨A,B,rfl,d,m,D⟩
 match A,m.1,m.2 with
 |[y],_,p=>have:=(p 0 _ y rfl rfl).int_inv;subst this;exact⟨rfl,d.os,d.tape,d.output,d.size,d.keep,d.cur⟩
theorem z8a {w:World}{v:Value}{l:List (List Int)}{K:zV}(h:Rep true w v (.s (.sl .int) l) K)(n:l.length=3):∃(b off cap:Nat) (arr:Array Value) (e:TypeId) (V:Nat->Value) (c:Nat->zV),v = .slice (some ⟨b,off,none⟩) 3 cap/\w.heap[b]?=some (.cells arr e (0,0))/\3<=cap/\off+cap<=arr.size/\K b/\
 (∀i x,i<3->c i x->K x/\x≠b)/\(∀i g x,i<3->g<3->c i x->c g x->i=g)/\(∀i,i<3->arr[off+i]?=some (V i))/\∀i x,l[i]?=some x->Rep true w (V i) (.s .int x) (c i):=by
 cases h with
 |nil=>simp at n
 |void _ _ _ B=>cases B
 |sl _ _ b off cap arr e E V c _ y k r p f u a d C z=>have:=k rfl;subst this;have t:Ty.width (.sl .int)=1:=rfl;rw[t,uW]at f;refine⟨b,off,cap,arr,e,fun i=>V i 0,fun i=>c i 0,by rw[n],y,by omega,f,u,fun i x q j=>⟨(a i 0 x (by omega) (by decide) j).1,(a i 0 x (by omega) (by decide) j).2 rfl⟩,fun i g x q A j m=>(d rfl i 0 g 0 x (by omega) (by decide) (by omega) (by decide) j m).1,fun i q=>?_,fun i x D=>z i x D 0 _ rfl⟩;have:=C i 0 (by omega) (by decide);rwa [t,uW,jU] at this
theorem zZg {w:World}{v:Value}{l:List Int}{K:zV}(h:Rep true w v (.s .int l) K)(d:l.length=4):∃(b off cap:Nat) (arr:Array Value) (e:TypeId),v = .slice (some ⟨b,off,none⟩) 4 cap/\w.heap[b]?=some (.cells arr e (0,0))/\4<=cap/\off+cap<=arr.size/\K b/\
 ∀i x,l[i]?=some x->arr[off+i]?=some (.int .i64 x):=by
 cases h with
 |nil=>simp at d
 |void _ _ _ u=>cases u
 |sl _ _ b off cap arr e A V z _ q c j f a p k g y r=>have:=c rfl;subst this;have m:Ty.width .int=1:=rfl;rw[m,uW]at a;refine⟨b,off,cap,arr,e,by rw[d],q,by omega,a,p,fun i x n=>?_⟩;have t:i<l.length:=(qA.1 n).1;have:=y i 0 t (by decide);rw[m,uW,jU] at this;rw[this,(r i x n 0 (.i .i64 x) rfl).int_inv]
theorem zLD {o:Bool}{w:World}{b off cap:Nat}{arr:Array Value}{e:TypeId}(g:w.heap[b]?=some (.cells arr e (0,0))){l:List Int}(r:l.length<=1000)(c:l.length<=cap)(m:off+cap<=arr.size)(n:∀i x,l[i]?=some x->arr[off+i]?=some (.int .i64 x)):Rep o w (.slice (some ⟨b,off,none⟩) l.length cap) (.s .int l) (fun x=>x=b):=by
 refine .sl .int l b off cap arr e (0,0) (fun i j=>.int .i64 (l.getD i 0)) (fun _ _ _=>False) _ g (fun _=>rfl) (by rw[zog];omega) c (by show off+cap*1<=arr.size;omega) rfl (fun i j x _ _ h=>h.elim) (fun _ i j t u x _ _ _ _ h=>h.elim) (fun i j f k=>?_) (fun i x p j q a=>?_);{have d:j=0:=(by have:j<1:=k;omega);subst d;have:=n i _ (qB f);show arr[off+i*1+0]?=_;rw[uW,jU,this];simp[List.getD,qB f]}
 .match j,a with
  | 0,a=>cases a;have:l.getD i 0=x:=(by simp[List.getD,p]);show Rep o w (.int .i64 (l.getD i 0)) _ _;rw[this];exact .i _ _ _
  |j+1,a=>simp[Ty.cells]at a
theorem zLE {w:World}{b off cap:Nat}{arr:Array Value}{e:TypeId}(n:w.heap[b]?=some (.cells arr e (0,0))){l:List (List Int)}(A:l.length<=1000)(c:l.length<=cap)(t:off+cap<=arr.size)(V:Nat->Value){K:zV}(f:K b)(u:∀i,i<l.length->arr[off+i]?=some (V i))(r:∀i x,l[i]?=some x->∃d,Rep false w (V i) (.s .int x) d/\∀y,d y->K y):Rep false w (.slice (some ⟨b,off,none⟩) l.length cap) (.s (.sl .int) l) K:=by
 refine .sl (.sl .int) l b off cap arr e (0,0) (fun i _=>V i) (fun _ _=>K) _ n (fun _=>rfl) (by rw[zog];omega) c (by show off+cap*1<=arr.size;omega) f (fun i j x _ _ h=>⟨h,fun h=>by cases h⟩) (fun h=>by cases h) (fun i j p q=>?_) (fun i x v j z a=>?_);{have g:j=0:=(by have:j<1:=q;omega);subst g;show arr[off+i*1+0]?=_;rw[uW,jU];exact u i p}
 .match j,a with
  | 0,a=>cases a;obtain⟨d,k,m⟩:=r i x v;exact k.weak m
  |j+1,a=>simp[Ty.cells]at a
theorem zwI {w:World}{b o:Nat}{arr:Array Value}{e:TypeId}(a:w.heap[b]?=some (.cells arr e (0,0))):w.frozen? ⟨b,o,none⟩=false:=by simp[World.frozen?,a]
set_option maxHeartbeats 3000000 in
theorem z0T {w:World}{blk:Nat}{u:Value}{c:Cur}{K0:zV}{r:Ans}(N:Nat)(b5:∃e,w.heap[blk]?=some (.cells #[u,.int .i64 c.i,.int .i64 c.h] e (0,0)))(hu:Rep false w u (.s .u8 c.b) K0)(hK:∀x,K0 x->x<w.heap.size/\x≠blk)(hE:zoF N c=some r) :
 Calls Tryz.prog 142 #[.pointer (some ⟨blk,0,none⟩)] w fun e p=>∃c2 l v Kr,r=AV.agg (zb0 c2)::[aS (.sl .int) l]/\e = .returned v/\Cw w blk u c2 p/\Rep false p v (.s (.sl .int) l) Kr/\(∀x,Kr x->w.heap.size<=x/\x<p.heap.size):=by
 unfold zoF at hE;cases hm:zir c 3 with
 |false=>rw[hm]at hE;cases hE
 |true=>
 cases K:zD (zBr c) 8 with
 |false=>rw[hm,K]at hE;cases hE
 |true=>
 rw[hm,K,cT,cT]at hE;have a7:∀{p:World} {O:Cur},Cw w blk u O p->O.b=c.b->Rep false p u (.s .u8 O.b) K0/\∀x,K0 x->x<p.heap.size/\x≠blk:=by intro p O h e;rw[e];exact⟨hu.frame (fun x d=>h.keep x (hK x d).1 (hK x d).2),fun x d=>⟨jJ (hK x d).1 h.size,(hK x d).2⟩⟩
 have hM:=(zBO hm).2.2 (by omega) (by omega)
 have a8:(zeG c).length=3:=by have:=hM.1;unfold ln at this;unfold zeG;omega
 have h5:=(zhM K).2.2 (by omega)
 obtain⟨k,hk⟩:∃k,zk (zBr c) 8=k:=⟨_,rfl⟩;have f1:z4A c=k:=hk;rw[f1]at hE
 go_enter Tryz.func142,Tryz.ntmps142
 go_wp2_with fail
 refine(z96 b5 hu hK hm).mono ?_
 rintro e L ⟨v,K1,rfl,F,b3,m⟩
 have b3:Rep true L v (.s (.sl .int) (zeG c)) K1:=b3;have F:Cw w blk u (zBr c) L:=F;obtain⟨E,t,a3,d7,e0,V,Kc,rfl,c3,g9,d1,Z,G,e9,hV,c1⟩:=z8a b3 a8;have h3:blk<w.heap.size:=by obtain⟨e,he⟩:=b5;exact(qQ.1 he).1
 have e5:E≠blk:=by have:=(m E Z).1;omega
 have cellAt:∀{p:World} {O:Cur},Cw L blk u O p->p.heap[E]?=some (.cells d7 e0 (0,0)):=fun h=>(h.keep E (m E Z).2 e5).trans c3
 go_wp2_with fail
 obtain⟨g1,f2⟩:=a7 F rfl;refine(ztR F.cur g1 f2 K).mono ?_;rw[hk]
 rintro e X ⟨rfl,B⟩
 have B:Cw L blk u (zhS c) X:=B;obtain⟨g2,f3⟩:=a7 (F.trans B) rfl;have g0:=B.size;have g8:w.heap.size<=E/\E<L.heap.size:=m E Z
 have b2:∀{p:World} (i:Nat) (x:List Int),(∀b,Kc i b->b<L.heap.size->b≠blk->b≠E->p.heap[b]?=L.heap[b]?)->i<3->(zeG c)[i]?=some x->Rep false p (V i) (.s .int x) (Kc i)/\∀y,Kc i y->w.heap.size<=y/\y<L.heap.size:=by intro p i x hf P d;refine⟨((c1 i x d).frame (fun y S=>?_)).ro,fun y S=>m y (G i y P S).1⟩;have:=m y (G i y P S).1;exact hf y S this.2 (by omega) (G i y P S).2
 go_wp2_with fail
 .have h0:ieq k 0=true:=by assumption
  rw[h0,cT]at hE;cases J:zD (zhS c) 3 with
  |false=>rw[J]at hE;cases hE
  |true=>
  cases b4:zD (zt2 c) 4 with
  |false=>rw[J,b4]at hE;cases hE
  |true=>
   rw[J,b4,cT,cT]at hE;have hj:=(zhM J).2.2 (by omega);obtain⟨j,a0⟩:=uR hj.1;have c8:z4z c=(j:Int):=a0;have hn:=(zhM b4).2.2 (by omega);obtain⟨n,c9⟩:=uR hn.1;have f8:l04n c=(n:Int):=c9;rw[c8,f8]at hE;rw[a0]at hj;rw[c9]at hn;have e6:j<3:=(by omega);have h6:n<4:=(by omega);obtain⟨R0,c0⟩:∃R0,(zeG c)[0]?=some R0:=⟨_,qB (by omega)⟩;have e2:R0.length=4:=hM.2 R0 (qK c0);obtain⟨f,a,g,T,e1,f0,c4,c6,a9,D,W⟩:=zZg (c1 0 R0 c0) e2;have Q:∀{p:World} {O:Cur},Cw L blk u O p->p.cell? ⟨E,t,none⟩=some (.slice (some ⟨f,a,none⟩) 4 g):=fun h=>(by have:=hV 0 (by omega);rw[jU,f0] at this;rw[cell_of_block (cellAt h)];exact this);have b7:∀{p:World} {O:Cur},Cw L blk u O p->p.cell? ⟨E,t+j,none⟩=some (V j)/\p.frozen? ⟨E,t+j,none⟩=false:=fun h=>by rw[cell_of_block (cellAt h)];exact⟨hV j e6,zwI (cellAt h)⟩
   have d8:∀{I:World},Cw L blk u (z4x c) I->∃c2 l v Kr,r=AV.agg (zb0 c2)::[aS (.sl .int) l]/\Ending.returned (.slice (some ⟨E,t,none⟩) 3 a3) = .returned v/\Cw w blk u c2 (I.setCell ⟨E,t+j,none⟩ (.slice (some ⟨f,a,none⟩) n g))/\Rep false (I.setCell ⟨E,t+j,none⟩ (.slice (some ⟨f,a,none⟩) n g)) v (.s (.sl .int) l) Kr/\
    (∀x,Kr x->w.heap.size<=x/\x<(I.setCell ⟨E,t+j,none⟩ (.slice (some ⟨f,a,none⟩) n g)).heap.size):=by
    intro I h4;have hz:=h4.size;have a6:=m f (G 0 f (by omega) D).1
    have U:f≠blk:=by omega
    have a5:f≠E:=(G 0 f (by omega) D).2
    have ho:∀b,b≠E->(I.setCell ⟨E,t+j,none⟩ (.slice (some ⟨f,a,none⟩) n g)).heap[b]?=I.heap[b]?:=fun b K=>heap_setCell_other I _ b _ K;have d0:=heap_setCell_same I E (t+j) d7 e0 (.slice (some ⟨f,a,none⟩) n g) (cellAt h4);have A:=F.trans h4;refine⟨_,_,_,K1,(Option.some.inj hE).symm,rfl,⟨A.os,A.tape,A.output,by rw[World.size_setCell];exact A.size,fun b K hn=>(ho b (by omega)).trans (A.keep b K hn),by obtain⟨e,he⟩:=A.cur;exact⟨e,(ho blk (fun h=>e5 h.symm)).trans he⟩⟩,?_,fun x d=>⟨(m x d).1,by rw[World.size_setCell];have:=m x d;omega⟩⟩
    have c7:ix (zeG c) 0 []=R0:=by unfold ix;simp[List.getD,c0]
    have a1:(up (zeG c) (j:Int) (tk (ix (zeG c) 0 []) (n:Int))).length=3:=by rw[zih];exact a8
    have:=zLE d0 (l:=up (zeG c) (j:Int) (tk (ix (zeG c) 0 []) (n:Int))) (by omega) (cap:=a3) (off:=t) (by omega) (by simpa using d1) (fun i=>if i=j then .slice (some ⟨f,a,none⟩) n g else V i) Z (fun i P=>by
     rw[a1]at P;rw[k5]
     by_cases M:i=j
     .subst M;rw[if_pos rfl,if_pos (by omega),if_pos rfl]
     .rw [if_neg (by omega),if_neg M]
      exact hV i P) (fun i x d=>by
     have P:i<3:=by rw[<- a1];exact(qA.1 d).1
     unfold up at d;rw[q9]at d
     by_cases M:i=j
     .subst M;rw[kB,if_pos rfl,if_pos (by omega),c7]at d
      cases d;refine⟨fun x=>x=f,?_,fun y S=>by rw[S];exact(G 0 f (by omega) D).1⟩
      have hl:(tk R0 (n:Int)).length=n:=by simp[tk];omega
      have:=zLD (o:=false) (w:=I.setCell ⟨E,t+i,none⟩ (.slice (some ⟨f,a,none⟩) n g)) (b:=f) (off:=a) (cap:=g) (arr:=T) (e:=e1) ((ho f a5).trans ((h4.keep f a6.2 U).trans c4)) (l:=tk R0 (n:Int)) (by omega) (by omega) a9 (fun q z hq=>by
       unfold tk at hq;rw[jI]at hq;split at hq
       .exact W q z hq
       .cases hq)
      rw[hl] at this;rw[if_pos rfl];exact this
     .rw [kB,if_neg (by omega)]at d
      rw[if_neg M];exact⟨Kc i,(b2 i x (fun b _ K hn c3=>(ho b c3).trans (h4.keep b K hn)) P d).1,fun y S=>(G i y P S).1⟩)
    rw[a1] at this;exact this
   have Y:Cw L blk u (zhS c) X.drew:=B.drew;obtain⟨e8,e7⟩:=a7 (F.trans Y) rfl;have d2:=Q Y
   go_region_with (first
    |(go_at_call_of 54 (Value.int IntKind.i64 3);refine(ztR (c:=zhS c) (n:=3) Y.cur e8 e7 J).mono ?_;rw[a0];rintro e w3 ⟨rfl,H⟩;have H:Cw X.drew blk u (zt2 c) w3:=H;have C:=Y.trans H;have d3:=Q C;obtain⟨g3,f4⟩:=a7 (F.trans C) rfl)
    |(go_at_call_of 54 (Value.int IntKind.i64 4);refine(ztR (c:=zt2 c) (n:=4) C.cur g3 f4 b4).mono ?_;rw[c9];rintro e I ⟨rfl,b8⟩;have b8:Cw w3 blk u (z4x c) I:=b8;have b9:=C.trans b8;have d4:=Q b9;obtain⟨d5,d6⟩:=b7 b9))
   (all_goals go_wp2);(all_goals go_ret);all_goals exact d8 b9
 .have h0:ieq k 0=false:=by assumption
  have h1:ieq k 1=true:=by assumption
  rw[h0,h1,cF,cT]at hE;cases c5:zbq (zhS c) [-1,100] with
  |false=>rw[c5]at hE;cases hE
  |true=>
   rw[c5,cT]at hE;obtain⟨R1,a4⟩:∃R1,(zeG c)[1]?=some R1:=⟨_,qB (by omega)⟩;have e3:R1.length=4:=hM.2 R1 (qK a4);obtain⟨f,a,g,T,e1,e4,c4,c6,a9,D,W⟩:=zZg (c1 1 R1 a4) e3;have a6:=m f (G 1 f (by omega) D).1;have U:f≠blk:=(by omega);have a5:f≠E:=(G 1 f (by omega) D).2;have R:∀{p:World} {O:Cur},Cw L blk u O p->p.cell? ⟨E,t+1,none⟩=some (.slice (some ⟨f,a,none⟩) 4 g):=fun h=>(by have:=hV 1 (by omega);rw[e4] at this;rw[cell_of_block (cellAt h)];exact this);have a2:∀{p:World} {O:Cur},Cw L blk u O p->p.heap[f]?=some (.cells T e1 (0,0)):=fun h=>(h.keep f a6.2 U).trans c4;have b6:∀{p:World} {O:Cur},Cw L blk u O p->p.cell? ⟨f,a+2,none⟩=some (.int .i64 R1[2])/\p.frozen? ⟨f,a+2,none⟩=false:=fun h=>by rw[cell_of_block (a2 h)];exact⟨W 2 _ (qB (by omega)),zwI (a2 h)⟩
   have Y:Cw L blk u (zhS c) X.drew:=B.drew;have d2:=R Y;have d9:∀{I:World},Cw L blk u (z4y c) I->∃c2 l v Kr,r=AV.agg (zb0 c2)::[aS (.sl .int) l]/\Ending.returned (.slice (some ⟨E,t,none⟩) 3 a3) = .returned v/\Cw w blk u c2 (I.setCell ⟨f,a+2,none⟩ (.int .i64 (zvq c)))/\Rep false (I.setCell ⟨f,a+2,none⟩ (.int .i64 (zvq c))) v (.s (.sl .int) l) Kr/\
    (∀x,Kr x->w.heap.size<=x/\x<(I.setCell ⟨f,a+2,none⟩ (.int .i64 (zvq c))).heap.size):=by
    intro I h4;have hz:=h4.size;have ho:∀b,b≠f->(I.setCell ⟨f,a+2,none⟩ (.int .i64 (zvq c))).heap[b]?=I.heap[b]?:=fun b K=>heap_setCell_other I _ b _ K;have d0:=heap_setCell_same I f (a+2) T e1 (.int .i64 (zvq c)) (a2 h4);have A:=F.trans h4;refine⟨_,_,_,K1,(Option.some.inj hE).symm,rfl,⟨A.os,A.tape,A.output,by rw[World.size_setCell];exact A.size,fun b K hn=>(ho b (by omega)).trans (A.keep b K hn),by obtain⟨e,he⟩:=A.cur;exact⟨e,(ho blk (fun h=>U h.symm)).trans he⟩⟩,?_,fun x d=>⟨(m x d).1,by rw[World.size_setCell];have:=m x d;omega⟩⟩
    have c7:ix (zeG c) 1 []=R1:=by unfold ix;show (zeG c).getD 1 []=R1;simp[List.getD,a4]
    have a1:(up (zeG c) 1 (up (ix (zeG c) 1 []) 2 (zvq c))).length=3:=by rw[zih];exact a8
    have:=zLE ((ho E (fun h=>a5 h.symm)).trans (cellAt h4)) (l:=up (zeG c) 1 (up (ix (zeG c) 1 []) 2 (zvq c))) (by omega) (cap:=a3) (off:=t) (by omega) d1 V Z (fun i P=>hV i (by omega)) (fun i x d=>by
     have P:i<3:=by rw[<- a1];exact(qA.1 d).1
     unfold up at d;rw[q9]at d
     by_cases M:i=1
     .subst M;rw[show (1:Int).toNat=1 from rfl,if_pos rfl,if_pos (by omega),c7]at d
      cases d;refine⟨fun x=>x=f,?_,fun y S=>by rw[S];exact(G 1 f (by omega) D).1⟩
      have hl:(List.set R1 (2:Int).toNat (zvq c)).length=4:=by simp;omega
      have:=zLD (o:=false) (w:=I.setCell ⟨f,a+2,none⟩ (.int .i64 (zvq c))) (b:=f) (off:=a) (cap:=g) d0 (l:=List.set R1 (2:Int).toNat (zvq c)) (by omega) (by omega) (by simpa using a9) (fun q z hq=>by
       rw[q9]at hq;rw[k5]
       by_cases f9:q=2
       .subst f9;rw[show (2:Int).toNat=2 from rfl,if_pos rfl,if_pos (by omega)]at hq
        cases hq;rw[if_pos rfl,if_pos (by omega)]
       .rw [show (2:Int).toNat=2 from rfl,if_neg (by omega)]at hq
        rw[if_neg (by omega)]
        exact W q z hq)
      rw[hl] at this;rw[e4];exact this
     .rw [show (1:Int).toNat=1 from rfl,if_neg (by omega)]at d
      refine⟨Kc i,(b2 i x (fun b f6 K hn g7=>?_) P d).1,fun y S=>(G i y P S).1⟩;exact(ho b (fun e=>M (e9 i 1 b P (by omega) f6 (by rw[e];exact D)))).trans (h4.keep b K hn))
    rw[a1] at this;exact this
   have hA:Cw L blk u (zhS c) (X.alloc (Obj.cells #[Value.int .i64 (-1),Value.int .i64 100] 3)).drew:=(B.alloc B.lt _).drew;obtain⟨g4,f5⟩:=a7 (F.trans hA) rfl;have dA:=R hA;have g5:Rep false (X.alloc (Obj.cells #[Value.int .i64 (-1),Value.int .i64 100] 3)).drew (.slice (some ⟨X.heap.size,0,none⟩) 2 2) (.s .int [-1,100]) (fun x=>x=X.heap.size):=by
    have hh:(X.alloc (Obj.cells #[Value.int .i64 (-1),Value.int .i64 100] 3)).drew.heap[X.heap.size]?=some (.cells #[Value.int .i64 (-1),Value.int .i64 100] 3 (0,0)):=heap_alloc_new X _;exact zLD (o:=false) hh (l:=[-1,100]) (cap:=2) (off:=0) (by decide) (by decide) (by decide) (fun i x d=>by
     match i,d with
     | 0,d=>cases d;rfl
     | 1,d=>cases d;rfl
     |i+2,d=>simp at d)
   go_region_with (first
    |(go_at_call_of 83 (Value.slice (some ⟨X.heap.size,0,none⟩) 2 2);refine(z7T (c:=zhS c) (l:=[-1,100]) hA.cur g4 f5 c5 g5 (fun x d=>by rw[d];exact⟨by simp,Nat.ne_of_gt B.lt⟩)).mono ?_;rintro e w3 ⟨rfl,H⟩;have H:Cw (X.alloc (Obj.cells #[Value.int .i64 (-1),Value.int .i64 100] 3)).drew blk u (z4y c) w3:=H;have C:=hA.trans H;have d3:=R C;obtain⟨d4,d5⟩:=b6 C))
   (all_goals go_wp2);(all_goals go_ret);all_goals exact d9 C
 .have h0:ieq k 0=false:=by assumption
  have h1:ieq k 1=false:=by assumption
  have h2:ieq k 2=true:=by assumption
  rw[h0,h1,h2,cF,cF,cT]at hE;cases J:zD (zhS c) 3 with
  |false=>rw[J]at hE;cases hE
  |true=>
   rw[J,cT]at hE;have hj:=(zhM J).2.2 (by omega);obtain⟨j,a0⟩:=uR hj.1;have c8:z4z c=(j:Int):=a0;rw[c8]at hE;refine(ztR B.cur g2 f3 J).mono ?_;rw[a0];rintro e w3 ⟨rfl,H⟩;have H:Cw X blk u (zt2 c) w3:=H;go_wp2;go_ret;have e6:j<3:=(by omega);have f7:(tk (zeG c) (j:Int)).length=j:=(by simp[tk];omega);have C:=B.trans H;refine⟨_,_,_,K1,(Option.some.inj hE).symm,rfl,F.trans C,?_,fun x d=>⟨(m x d).1,by have:=m x d;have:=C.size;omega⟩⟩
   have:=zLE (cellAt C) (l:=tk (zeG c) (j:Int)) (by omega) (cap:=a3) (off:=t) (by omega) d1 V Z (fun i P=>hV i (by omega)) (fun i x d=>by
    have P:i<(tk (zeG c) (j:Int)).length:=(qA.1 d).1;have g6:(zeG c)[i]?=some x:=by unfold tk at d;rw[jI]at d;split at d;{exact d};{cases d}
    exact⟨Kc i,(b2 i x (fun b _ K hn _=>C.keep b K hn) (by omega) g6).1,fun y S=>(G i y (by omega) S).1⟩)
   rw[f7] at this;exact this
 .have h0:ieq k 0=false:=by assumption
  have h1:ieq k 1=false:=by assumption
  have h2:ieq k 2=false:=by assumption
  rw[h0,h1,h2,cF,cF,cF]at hE
  go_ret
  exact⟨_,_,_,K1,(Option.some.inj hE).symm,rfl,F.trans B,(b3.frame (fun x d=>B.keep x (m x d).2 (by have:=m x d;omega))).ro,fun x d=>⟨(m x d).1,by have:=m x d;omega⟩⟩
theorem zXD {c:Cur}(h:zbc c):zpZ c=true:=by
 refine z5f c ⟨0,?_⟩;unfold zoF;have t:=zbfw h (a0:=3) (by omega) (by omega);have y:zbc (zBr c):=zbL h (z5i _ _);have k:zbc (zhS c):=zbL h (zJ _ _);have z:zbc (zt2 c):=zbL h (zJ _ _);have p:=(zBO t).2.2 (by omega) (by omega);have A:(zeG c).length=3:=(by have:=p.1;unfold ln at this;unfold zeG;omega);have f:∀r∈zeG c,r.length<=4:=fun r f=>kV (p.2 r f);have u:∀n,(ix (zeG c) n []).length<=4:=(by intro n;unfold ix List.getD;cases e:(zeG c)[n.toNat]? with|none=>simp|some r=>exact f r (qK e));have g:∀(n:Int) (r:List Int),r.length<=4->∀q∈up (zeG c) n r,q.length<=4:=by intro n r j q e;rcases qW e with e|rfl;{exact f q e};{exact j}
 have d:∀(s:Cur) (l:List (List Int)),s.b=c.b->0<=s.i->l.length<=3->(∀r∈l,r.length<=4)->Ends (fun a=>∃s m,a=(AV.agg (zb0 s)::[aS (.sl .int) m])/\(s.b=c.b/\0<=s.i)/\(m.length<=3/\∀r∈m,r.length<=4)) (some (AV.agg (zb0 s)::[aS (.sl .int) l])):=
  fun s l v w x j=>⟨_,rfl,s,l,rfl,⟨v,w⟩,x,j⟩
 exact zq t (zq (zbx y 8) (zbp (fun _=>zq (zbx k 3) (zq (zbx z 4) (d _ _ rfl (zJ _ _) (by rw[zih];omega) (g _ _ (qU (zE7 _ _) (u _))))))
  (fun _=>zbp (fun _=>zq (zeQ k (by simp)) (d _ _ rfl (zb1 _ _) (by rw[zih];omega) (g _ _ (by rw[zih];exact u _)))) (fun _=>zbp (fun _=>zq (zbx k 3) (d _ _ rfl (zJ _ _) (qU (zE7 _ _) (by omega)) (fun r e=>f r (jT e)))) (fun _=>d _ _ rfl (zJ _ _) (by omega) f)))))
theorem zQ3:zbP Tryz.prog 142 [false,true,true] ztg:=by
 refine⟨ziQ (by kernel_rfl),?_⟩;intro w blk d e cs K T xs Ka U rs D P a4 k A X n W g;unfold ztg rP0 at g;obtain⟨⟨p,q,r⟩,rfl,g⟩:=z7O g;obtain⟨rfl,R,rfl,rfl⟩:=zwW g;dsimp only at R ⊢;have hs:d.size=3:=P;have M:xs=[]:=List.eq_nil_of_length_eq_zero n.1;subst M;obtain⟨N,hE⟩:=(zPi R).1;have v1:=(k 1 _ (d[1]'(by omega)) rfl (jH _)).int_inv;have v2:=(k 2 _ (d[2]'(by omega)) rfl (jH _)).int_inv
 have m:d = #[d[0]'(by omega),.int .i64 q,.int .i64 r]:=by
  apply Array.ext;{exact hs}
  .intro i E hi2
   match i,E with
   | 0,_=>rfl
   | 1,_=>exact v1
   | 2,_=>exact v2
   |i+3,h=>omega
 have hu:=k 0 _ (d[0]'(by omega)) rfl (jH _);have f:Rep false w (d[0]'(by omega)) (.s .u8 p) (K 0):=hu;generalize d[0]'(by omega)=u at m f;subst m;refine(z0T (c:=⟨p,q,r⟩) (u:=u) (K0:=K 0) N ⟨e,D⟩ f (fun x n=>A 0 x (show 0<3 by decide) n) hE).mono ?_;rintro e2 w' ⟨z,l,v,S,hr,rfl,y,Y,t⟩;have B:AV.agg (zb0 (ziq ⟨p,q,r⟩))::[aS (.sl .int) (zq7 ⟨p,q,r⟩)]=AV.agg (zb0 z)::[aS (.sl .int) l]:=hr;simp only[List.cons.injEq,AV.agg.injEq,AV.one.injEq,and_true]at B;obtain⟨C,I⟩:=B;have I:zq7 ⟨p,q,r⟩=l:=(by cases I;rfl);subst I;have O:ziq ⟨p,q,r⟩=z:=(by have C:=C;simp only[zb0,List.cons.injEq,CV.s.injEq,CV.i.injEq,true_and,and_true,heq_eq_eq]at C;obtain⟨F,G,H⟩:=C;generalize ziq ⟨p,q,r⟩=s at F G H;obtain⟨a1,a2,a3⟩:=s;obtain⟨b1,b2,b3⟩:=z;simp only at F G H;rw[F,G,H]);rw[O];obtain⟨V,J⟩:=y.cur;refine⟨y.os,y.tape,y.output,y.size,fun b D hn _=>y.keep b D hn,#[u,.int .i64 z.i,.int .i64 z.h],V,fun _ _=>False,[v],fun _=>S,J,rfl,rfl,?_,⟨rfl,fun i Q x a n=>?_⟩,rfl,fun j x _ h=>h.elim,fun i x E L=>⟨(t x L).2,?_,.inr (t x L).1⟩,fun i j x _ _ _ h=>h.elim,?_,fun i j x _ _ h=>h.elim⟩
 .intro j Q u' a f
  match j,a,f with
  | 0,a,f=>cases a;exact⟨fun h=>by simp[zba]at h,fun _=>f⟩
  | 1,a,f=>cases a;cases f;rfl
  | 2,a,f=>cases a;cases f;rfl
  |j+3,a,f=>simp[zb0]at a
 .match i,a,n with
  | 0,a,n=>cases a;cases n;exact Y
  |i+1,a,n=>simp at n
 {have:=(qQ.1 D).1;have:=(t x L).1;omega};{intro i j Q x E ho Z a0 _;have h1:i<1:=(qA.1 E).1;have h2:j<1:=Z;omega}
def zbcw:zcN:=[(142,([false,true,true],ztg))]++zbcv
theorem zY5:zb2 zbcw:=zcs zbah (by
 intro x a;simp only[qG,qN,or_false]at a;rcases a with rfl
 .exact zQ3)
end
def zbfn:zbb:=[(145,zmk),(220,zqW)]++zbby
theorem zJ6:zM zbfn:=zi znN (zi zvb zd9)
theorem zGM {g:Type}{c e:Cur}(h:zbc c)(j:0<=e.i){P:g->Prop}{q:Int}(A:0<q)(M:q<=1000){fc:Cur->Bool}{fs:Cur->Cur}{fv:Cur->g}(E:∀{c:Cur},zbc c->fc c=true)(H:∀c,0<=(fs c).i)(hg:∀{c:Cur},zbc c->P (fv c)){G:Ans->Prop}{l0:List g}{z:Nat}(O:l0.length<=z)(I:z<=1000)(m:∀x∈l0,P x){p:Type}(S:Nat->Int×Int×Int×List g->p){F:(p->OA)->p->OA}(D:∀rec t i k l,∃r,F rec (S 0 (t,i,k,l))=(bif zD ⟨c.b,i,k⟩ q then (bif ilt t (zk ⟨c.b,i,k⟩ q) then (bif fc { zf ⟨c.b,i,k⟩ q with b:=c.b } then (bif few (ln (ap l [fv { zf ⟨c.b,i,k⟩ q with b:=c.b }])) then
        rec (S 0 (zL .i64 t 1,(fs {zf ⟨c.b,i,k⟩ q with b:=c.b}).i,(fs {zf ⟨c.b,i,k⟩ q with b:=c.b}).h,ap l [fv {zf ⟨c.b,i,k⟩ q with b:=c.b}])) else none) else none) else some r) else none)/\(ln l<=z+q->(∀x∈l,P x)->G r)):Ends G (iter 1002 F (S 0 (0,e.i,e.h,l0))):=by
 refine zka (fun n s=>∃t i k l,s=S 0 (t,i,k,l)/\t+(n:Int)=1000/\0<=t/\t<=q/\0<=i/\(∀x∈l,P x)/\ln l<=z+t) ?_ 1002 1000 _ ⟨0,e.i,e.h,l0,rfl,rfl,kD 0,by omega,j,m,by unfold ln;omega⟩ (by omega)
 rintro n s rec ⟨t,i,k,l,rfl,J,B,K,C,u,L⟩ f
 obtain⟨r,hF1,hF2⟩:=D rec t i k l;rw[hF1];have a:zbc ⟨c.b,i,k⟩:=zbL h C;have d:=zfu a A;have v:zbc {zf ⟨c.b,i,k⟩ q with b:=c.b}:=zbL h (zJ _ _);refine zq (zbx a _) (zbp (fun w=>?_) (fun w=>?_))
 .have hlt:t<zk ⟨c.b,i,k⟩ q:=qD w;have N:=zhx (y:=1) B (by omega) (by omega) (by omega)
  refine zq (E v) (zq (zkb (by rw[zg3];omega)) (f (n-1) _ (by omega) ⟨_,_,_,_,rfl,by omega,by omega,by omega,H _,?_,by rw[zg3];omega⟩))
  intro x d;rcases jG.1 d with d|d
  .exact u x d
  .rw [qF.1 d];exact hg v
 .exact zhB (hF2 (by omega) u)
theorem zbeJ {c d:Cur}(h:zbc c)(f:0<=d.i){m q x:Int}(t:0<q)(g:0<=m)(D:m+q<=1000){G:Ans->Prop}{l0:List Int}(B:ln l0<=m+q){j:Type}(S:Nat->Int×Int×List Int->j){F:(j->OA)->j->OA}(w:∀rec i k l,∃r,F rec (S 0 (i,k,l))=(bif zD ⟨c.b,i,k⟩ q then (bif ilt (ln l) (zL .i64 m (zk ⟨c.b,i,k⟩ q)) then (bif few (ln (ap l [x])) then
        rec (S 0 ((zf ⟨c.b,i,k⟩ q).i,(zf ⟨c.b,i,k⟩ q).h,ap l [x])) else none) else some r) else none)/\(ln l<=m+q->G r)):Ends G (iter 1002 F (S 0 (d.i,d.h,l0))):=by
 refine zka (fun n s=>∃i k l,s=S 0 (i,k,l)/\ln l+(n:Int)=1000/\0<=i/\ln l<=m+q) ?_ 1002 (1000-ln l0).toNat _ ⟨d.i,d.h,l0,rfl,by unfold ln at *;omega,f,B⟩ (by unfold ln at *;omega)
 rintro n s rec ⟨i,k,l,rfl,C,u,v⟩ e
 obtain⟨r,hF1,hF2⟩:=w rec i k l;rw[hF1];have a:zbc ⟨c.b,i,k⟩:=zbL h u;have A:=zfu a t;have z:=zhx (x:=m) (y:=zk ⟨c.b,i,k⟩ q) g (by omega) A.1 (by omega)
 refine zq (zbx a _) (zbp (fun p=>?_) (fun p=>?_))
 .have hlt:ln l<zL .i64 m (zk ⟨c.b,i,k⟩ q):=qD p;rw[z]at hlt;exact zq (zkb (by rw[zg3];omega)) (e (n-1) _ (by unfold ln at *;omega) ⟨_,_,_,rfl,by rw[zg3];omega,zJ _ _,by rw[zg3];omega⟩)
 .exact zhB (hF2 v)
def GuS (g:Guest):Prop:=g.Prog.length<=13/\g.Written.length<=4/\g.Live.length<=4/\g.Seen.length<=50
theorem zGw {c:Cur}(h:zbc c):(zdy c 4 8).length<=4:=by have:=(zbea h (n:=4) (m:=8) (by omega) (by omega) (by omega) (by omega)).1;unfold ln at this;omega
def zuR (N:Nat)(c:Cur)  : OA :=
 let C:=({ (zX c) with b:=c.b}:Cur);let v:=(zdy C 4 8);let d:=(zcr (zb5 c));let y9:=({ (zK C 4 8) with b:=c.b}:Cur);let x:=(zdy y9 4 8);let y2:=({ (zK y9 4 8) with b:=c.b}:Cur);let w:=(zk y2 100);let B:=({ (zf y2 100) with b:=c.b}:Cur);let y:=(zk B 4);let y0:=({ (zf B 4) with b:=c.b}:Cur);let I:=({ (zch y0) with b:=c.b}:Cur);let e:=(zcB y0);let A:=({ (zQ I 3) with b:=c.b}:Cur);let H:=({ (zf A 256) with b:=c.b}:Cur);let r:=({ (zQ A 4) with b:=c.b}:Cur);let u:=({ (zfm r) with b:=c.b}:Cur);let q:=({ (zQ H 4) with b:=c.b}:Cur);let t:=({ (zfm q) with b:=c.b}:Cur); (oN (zhd c) (oN (zja (zb5 c)) (oN (zhN C 4 8) (oN (zhN y9 4 8) (oN (zD y2 100) (oN (zD B 4) (oN (zj4 y0) (oN (zcK I 3) (cond (zcT I 3) (oN (zD A 256) (oN (zcK H 4) (cond (zcT H 4) (oN (ziK q) (oN (zcK t 12) (iter (σ:=(Int×(Int×(Int×(Int×(Int×(Int×(Int×(Bool×(Int×(Int×(Int×(Bool×(Int×(Bool×(Int×(Int×(Int×(Int×(Bool×(Int×(Int×(Int×(Bool×(Int×(Bool×((List Int)×(lI×(lS×(lS×((List Int)×(lI×(lS×(lS×((List Int)×Unit))))))))))))))))))))))))))))))))))) N (fun z a=>let d6:=a.2.2.2.2.2.2.2.2.2.2.2.2.2.2.1;let d2:=a.2.2.2.2.2.2.2.2.2.2.2.2.2.2.2.1;let c8:=a.2.2.2.2.2.2.2.2.2.2.2.2.2.2.2.2.1;let c4:=a.2.2.2.2.2.2.2.2.2.2.2.2.2.2.2.2.2.1;let c0:=a.2.2.2.2.2.2.2.2.2.2.2.2.2.2.2.2.2.2.1;let b6:=a.2.2.2.2.2.2.2.2.2.2.2.2.2.2.2.2.2.2.2.1;let b2:=a.2.2.2.2.2.2.2.2.2.2.2.2.2.2.2.2.2.2.2.2.1;let a8:=a.2.2.2.2.2.2.2.2.2.2.2.2.2.2.2.2.2.2.2.2.2.1;let a4:=a.2.2.2.2.2.2.2.2.2.2.2.2.2.2.2.2.2.2.2.2.2.2.1;let a0:=a.2.2.2.2.2.2.2.2.2.2.2.2.2.2.2.2.2.2.2.2.2.2.2.1;let W:=a.2.2.2.2.2.2.2.2.2.2.2.2.2.2.2.2.2.2.2.2.2.2.2.2.1;let S:=a.2.2.2.2.2.2.2.2.2.2.2.2.2.2.2.2.2.2.2.2.2.2.2.2.2.2.2.2.2.2.1;let O:=a.2.2.2.2.2.2.2.2.2.2.2.2.2.2.2.2.2.2.2.2.2.2.2.2.2.2.2.2.2.2.2.1;let J:=a.2.2.2.2.2.2.2.2.2.2.2.2.2.2.2.2.2.2.2.2.2.2.2.2.2.2.2.2.2.2.2.2.1;let D:=a.2.2.2.2.2.2.2.2.2.2.2.2.2.2.2.2.2.2.2.2.2.2.2.2.2.2.2.2.2.2.2.2.2.1;let y4:=a.2.2.2.2.2.2.2.2.2.2.2.2.2.2.2.2.2.2.2.2.2.2.2.2.2.1;let l:=(⟨y4,a.2.1,a.2.2.1⟩:Cur);let f:=({ (zf l 4) with b:=y4}:Cur); (oN (zD l 4) (cond (ilt a.1 (zk l 4)) (oN (zD f 100) (oN (few (ln (ap D [(zk f 100)]))) (z ((zL .i64 a.1 1),((zf f 100).i,((zf f 100).h,(a.2.2.2.1,(a.2.2.2.2.1,(a.2.2.2.2.2.1,(a.2.2.2.2.2.2.1,(a.2.2.2.2.2.2.2.1,(a.2.2.2.2.2.2.2.2.1,(a.2.2.2.2.2.2.2.2.2.1,(a.2.2.2.2.2.2.2.2.2.2.1,(a.2.2.2.2.2.2.2.2.2.2.2.1,(a.2.2.2.2.2.2.2.2.2.2.2.2.1,(a.2.2.2.2.2.2.2.2.2.2.2.2.2.1,(d6,(d2,(c8,(c4,(c0,(b6,(b2,(a8,(a4,(a0,(W,(y4,(a.2.2.2.2.2.2.2.2.2.2.2.2.2.2.2.2.2.2.2.2.2.2.2.2.2.2.1,(a.2.2.2.2.2.2.2.2.2.2.2.2.2.2.2.2.2.2.2.2.2.2.2.2.2.2.2.1,(a.2.2.2.2.2.2.2.2.2.2.2.2.2.2.2.2.2.2.2.2.2.2.2.2.2.2.2.2.1,(a.2.2.2.2.2.2.2.2.2.2.2.2.2.2.2.2.2.2.2.2.2.2.2.2.2.2.2.2.2.1,(S,(O,(J,((ap D [(zk f 100)]),()))))))))))))))))))))))))))))))))))))) (some [(.agg [(.s .u8 y4),(.i .i64 (zf l 4).i),(.i .i64 (zf l 4).h)]),(aT .guest (⟨S,d6,d2,O,J,⟨c8,c4,c0⟩,b6,⟨b2,a8,a4,a0⟩,W,D⟩:Guest))])))) (0,((zQ t 12).i,((zQ t 12).h,(0,(0,(0,(0,(false,(0,(0,(0,(false,(0,(false,(w,(y,(e.Traps,(e.Post,(e.Open,((zk A 256),((zcf q).Kind,((zcf q).Page,((zcf q).Write,((zcf q).N,((zcT t 12),(c.b,([],([],([],([],(d.Prog,(v,(x,(d.Seen,()))))))))))))))))))))))))))))))))))))) (oN (zcK q 12) (iter (σ:=(Int×(Int×(Int×(Int×(Int×(Int×(Int×(Bool×(Int×(Int×(Int×(Bool×(Int×(Bool×(Int×(Int×(Int×(Int×(Bool×(Int×(Int×(Int×(Bool×(Int×(Bool×((List Int)×(lI×(lS×(lS×((List Int)×(lI×(lS×(lS×((List Int)×Unit))))))))))))))))))))))))))))))))))) N (fun z a=>let d7:=a.2.2.2.2.2.2.2.2.2.2.2.2.2.2.1;let d3:=a.2.2.2.2.2.2.2.2.2.2.2.2.2.2.2.1;let c9:=a.2.2.2.2.2.2.2.2.2.2.2.2.2.2.2.2.1;let c5:=a.2.2.2.2.2.2.2.2.2.2.2.2.2.2.2.2.2.1;let c1:=a.2.2.2.2.2.2.2.2.2.2.2.2.2.2.2.2.2.2.1;let b7:=a.2.2.2.2.2.2.2.2.2.2.2.2.2.2.2.2.2.2.2.1;let b3:=a.2.2.2.2.2.2.2.2.2.2.2.2.2.2.2.2.2.2.2.2.1;let a9:=a.2.2.2.2.2.2.2.2.2.2.2.2.2.2.2.2.2.2.2.2.2.1;let a5:=a.2.2.2.2.2.2.2.2.2.2.2.2.2.2.2.2.2.2.2.2.2.2.1;let a1:=a.2.2.2.2.2.2.2.2.2.2.2.2.2.2.2.2.2.2.2.2.2.2.2.1;let X:=a.2.2.2.2.2.2.2.2.2.2.2.2.2.2.2.2.2.2.2.2.2.2.2.2.1;let T:=a.2.2.2.2.2.2.2.2.2.2.2.2.2.2.2.2.2.2.2.2.2.2.2.2.2.2.2.2.2.2.1;let P:=a.2.2.2.2.2.2.2.2.2.2.2.2.2.2.2.2.2.2.2.2.2.2.2.2.2.2.2.2.2.2.2.1;let K:=a.2.2.2.2.2.2.2.2.2.2.2.2.2.2.2.2.2.2.2.2.2.2.2.2.2.2.2.2.2.2.2.2.1;let E:=a.2.2.2.2.2.2.2.2.2.2.2.2.2.2.2.2.2.2.2.2.2.2.2.2.2.2.2.2.2.2.2.2.2.1;let y5:=a.2.2.2.2.2.2.2.2.2.2.2.2.2.2.2.2.2.2.2.2.2.2.2.2.2.1;let m:=(⟨y5,a.2.1,a.2.2.1⟩:Cur);let g:=({ (zf m 4) with b:=y5}:Cur); (oN (zD m 4) (cond (ilt a.1 (zk m 4)) (oN (zD g 100) (oN (few (ln (ap E [(zk g 100)]))) (z ((zL .i64 a.1 1),((zf g 100).i,((zf g 100).h,(a.2.2.2.1,(a.2.2.2.2.1,(a.2.2.2.2.2.1,(a.2.2.2.2.2.2.1,(a.2.2.2.2.2.2.2.1,(a.2.2.2.2.2.2.2.2.1,(a.2.2.2.2.2.2.2.2.2.1,(a.2.2.2.2.2.2.2.2.2.2.1,(a.2.2.2.2.2.2.2.2.2.2.2.1,(a.2.2.2.2.2.2.2.2.2.2.2.2.1,(a.2.2.2.2.2.2.2.2.2.2.2.2.2.1,(d7,(d3,(c9,(c5,(c1,(b7,(b3,(a9,(a5,(a1,(X,(y5,(a.2.2.2.2.2.2.2.2.2.2.2.2.2.2.2.2.2.2.2.2.2.2.2.2.2.2.1,(a.2.2.2.2.2.2.2.2.2.2.2.2.2.2.2.2.2.2.2.2.2.2.2.2.2.2.2.1,(a.2.2.2.2.2.2.2.2.2.2.2.2.2.2.2.2.2.2.2.2.2.2.2.2.2.2.2.2.1,(a.2.2.2.2.2.2.2.2.2.2.2.2.2.2.2.2.2.2.2.2.2.2.2.2.2.2.2.2.2.1,(T,(P,(K,((ap E [(zk g 100)]),()))))))))))))))))))))))))))))))))))))) (some [(.agg [(.s .u8 y5),(.i .i64 (zf m 4).i),(.i .i64 (zf m 4).h)]),(aT .guest (⟨T,d7,d3,P,K,⟨c9,c5,c1⟩,b7,⟨b3,a9,a5,a1⟩,X,E⟩:Guest))])))) (0,((zQ q 12).i,((zQ q 12).h,(0,(0,(0,(0,(false,(0,(0,(0,(false,(0,(false,(w,(y,(e.Traps,(e.Post,(e.Open,((zk A 256),(d.Exit.Kind,(d.Exit.Page,(d.Exit.Write,(d.Exit.N,((zcT q 12),(c.b,([],([],([],([],(d.Prog,(v,(x,(d.Seen,()))))))))))))))))))))))))))))))))))))))) (oN (zcK A 4) (cond (zcT A 4) (oN (ziK r) (oN (zcK u 12) (iter (σ:=(Int×(Int×(Int×(Int×(Int×(Int×(Int×(Bool×(Int×(Int×(Int×(Bool×(Int×(Bool×(Int×(Int×(Int×(Int×(Bool×(Int×(Int×(Int×(Bool×(Int×(Bool×((List Int)×(lI×(lS×(lS×((List Int)×(lI×(lS×(lS×((List Int)×Unit))))))))))))))))))))))))))))))))))) N (fun z a=>let d8:=a.2.2.2.2.2.2.2.2.2.2.2.2.2.2.1;let d4:=a.2.2.2.2.2.2.2.2.2.2.2.2.2.2.2.1;let d0:=a.2.2.2.2.2.2.2.2.2.2.2.2.2.2.2.2.1;let c6:=a.2.2.2.2.2.2.2.2.2.2.2.2.2.2.2.2.2.1;let c2:=a.2.2.2.2.2.2.2.2.2.2.2.2.2.2.2.2.2.2.1;let b8:=a.2.2.2.2.2.2.2.2.2.2.2.2.2.2.2.2.2.2.2.1;let b4:=a.2.2.2.2.2.2.2.2.2.2.2.2.2.2.2.2.2.2.2.2.1;let b0:=a.2.2.2.2.2.2.2.2.2.2.2.2.2.2.2.2.2.2.2.2.2.1;let a6:=a.2.2.2.2.2.2.2.2.2.2.2.2.2.2.2.2.2.2.2.2.2.2.1;let a2:=a.2.2.2.2.2.2.2.2.2.2.2.2.2.2.2.2.2.2.2.2.2.2.2.1;let Y:=a.2.2.2.2.2.2.2.2.2.2.2.2.2.2.2.2.2.2.2.2.2.2.2.2.1;let U:=a.2.2.2.2.2.2.2.2.2.2.2.2.2.2.2.2.2.2.2.2.2.2.2.2.2.2.2.2.2.2.1;let Q:=a.2.2.2.2.2.2.2.2.2.2.2.2.2.2.2.2.2.2.2.2.2.2.2.2.2.2.2.2.2.2.2.1;let L:=a.2.2.2.2.2.2.2.2.2.2.2.2.2.2.2.2.2.2.2.2.2.2.2.2.2.2.2.2.2.2.2.2.1;let F:=a.2.2.2.2.2.2.2.2.2.2.2.2.2.2.2.2.2.2.2.2.2.2.2.2.2.2.2.2.2.2.2.2.2.1;let y6:=a.2.2.2.2.2.2.2.2.2.2.2.2.2.2.2.2.2.2.2.2.2.2.2.2.2.1;let n:=(⟨y6,a.2.1,a.2.2.1⟩:Cur);let j:=({ (zf n 4) with b:=y6}:Cur); (oN (zD n 4) (cond (ilt a.1 (zk n 4)) (oN (zD j 100) (oN (few (ln (ap F [(zk j 100)]))) (z ((zL .i64 a.1 1),((zf j 100).i,((zf j 100).h,(a.2.2.2.1,(a.2.2.2.2.1,(a.2.2.2.2.2.1,(a.2.2.2.2.2.2.1,(a.2.2.2.2.2.2.2.1,(a.2.2.2.2.2.2.2.2.1,(a.2.2.2.2.2.2.2.2.2.1,(a.2.2.2.2.2.2.2.2.2.2.1,(a.2.2.2.2.2.2.2.2.2.2.2.1,(a.2.2.2.2.2.2.2.2.2.2.2.2.1,(a.2.2.2.2.2.2.2.2.2.2.2.2.2.1,(d8,(d4,(d0,(c6,(c2,(b8,(b4,(b0,(a6,(a2,(Y,(y6,(a.2.2.2.2.2.2.2.2.2.2.2.2.2.2.2.2.2.2.2.2.2.2.2.2.2.2.1,(a.2.2.2.2.2.2.2.2.2.2.2.2.2.2.2.2.2.2.2.2.2.2.2.2.2.2.2.1,(a.2.2.2.2.2.2.2.2.2.2.2.2.2.2.2.2.2.2.2.2.2.2.2.2.2.2.2.2.1,(a.2.2.2.2.2.2.2.2.2.2.2.2.2.2.2.2.2.2.2.2.2.2.2.2.2.2.2.2.2.1,(U,(Q,(L,((ap F [(zk j 100)]),()))))))))))))))))))))))))))))))))))))) (some [(.agg [(.s .u8 y6),(.i .i64 (zf n 4).i),(.i .i64 (zf n 4).h)]),(aT .guest (⟨U,d8,d4,Q,L,⟨d0,c6,c2⟩,b8,⟨b4,b0,a6,a2⟩,Y,F⟩:Guest))])))) (0,((zQ u 12).i,((zQ u 12).h,(0,(0,(0,(0,(false,(0,(0,(0,(false,(0,(false,(w,(y,(e.Traps,(e.Post,(e.Open,(d.Pending,((zcf r).Kind,((zcf r).Page,((zcf r).Write,((zcf r).N,((zcT u 12),(c.b,([],([],([],([],(d.Prog,(v,(x,(d.Seen,()))))))))))))))))))))))))))))))))))))) (oN (zcK r 12) (iter (σ:=(Int×(Int×(Int×(Int×(Int×(Int×(Int×(Bool×(Int×(Int×(Int×(Bool×(Int×(Bool×(Int×(Int×(Int×(Int×(Bool×(Int×(Int×(Int×(Bool×(Int×(Bool×((List Int)×(lI×(lS×(lS×((List Int)×(lI×(lS×(lS×((List Int)×Unit))))))))))))))))))))))))))))))))))) N (fun z a=>let d9:=a.2.2.2.2.2.2.2.2.2.2.2.2.2.2.1;let d5:=a.2.2.2.2.2.2.2.2.2.2.2.2.2.2.2.1;let d1:=a.2.2.2.2.2.2.2.2.2.2.2.2.2.2.2.2.1;let c7:=a.2.2.2.2.2.2.2.2.2.2.2.2.2.2.2.2.2.1;let c3:=a.2.2.2.2.2.2.2.2.2.2.2.2.2.2.2.2.2.2.1;let b9:=a.2.2.2.2.2.2.2.2.2.2.2.2.2.2.2.2.2.2.2.1;let b5:=a.2.2.2.2.2.2.2.2.2.2.2.2.2.2.2.2.2.2.2.2.1;let b1:=a.2.2.2.2.2.2.2.2.2.2.2.2.2.2.2.2.2.2.2.2.2.1;let a7:=a.2.2.2.2.2.2.2.2.2.2.2.2.2.2.2.2.2.2.2.2.2.2.1;let a3:=a.2.2.2.2.2.2.2.2.2.2.2.2.2.2.2.2.2.2.2.2.2.2.2.1;let Z:=a.2.2.2.2.2.2.2.2.2.2.2.2.2.2.2.2.2.2.2.2.2.2.2.2.1;let V:=a.2.2.2.2.2.2.2.2.2.2.2.2.2.2.2.2.2.2.2.2.2.2.2.2.2.2.2.2.2.2.1;let R:=a.2.2.2.2.2.2.2.2.2.2.2.2.2.2.2.2.2.2.2.2.2.2.2.2.2.2.2.2.2.2.2.1;let M:=a.2.2.2.2.2.2.2.2.2.2.2.2.2.2.2.2.2.2.2.2.2.2.2.2.2.2.2.2.2.2.2.2.1;let G:=a.2.2.2.2.2.2.2.2.2.2.2.2.2.2.2.2.2.2.2.2.2.2.2.2.2.2.2.2.2.2.2.2.2.1;let y7:=a.2.2.2.2.2.2.2.2.2.2.2.2.2.2.2.2.2.2.2.2.2.2.2.2.2.1;let p:=(⟨y7,a.2.1,a.2.2.1⟩:Cur);let k:=({ (zf p 4) with b:=y7}:Cur); (oN (zD p 4) (cond (ilt a.1 (zk p 4)) (oN (zD k 100) (oN (few (ln (ap G [(zk k 100)]))) (z ((zL .i64 a.1 1),((zf k 100).i,((zf k 100).h,(a.2.2.2.1,(a.2.2.2.2.1,(a.2.2.2.2.2.1,(a.2.2.2.2.2.2.1,(a.2.2.2.2.2.2.2.1,(a.2.2.2.2.2.2.2.2.1,(a.2.2.2.2.2.2.2.2.2.1,(a.2.2.2.2.2.2.2.2.2.2.1,(a.2.2.2.2.2.2.2.2.2.2.2.1,(a.2.2.2.2.2.2.2.2.2.2.2.2.1,(a.2.2.2.2.2.2.2.2.2.2.2.2.2.1,(d9,(d5,(d1,(c7,(c3,(b9,(b5,(b1,(a7,(a3,(Z,(y7,(a.2.2.2.2.2.2.2.2.2.2.2.2.2.2.2.2.2.2.2.2.2.2.2.2.2.2.1,(a.2.2.2.2.2.2.2.2.2.2.2.2.2.2.2.2.2.2.2.2.2.2.2.2.2.2.2.1,(a.2.2.2.2.2.2.2.2.2.2.2.2.2.2.2.2.2.2.2.2.2.2.2.2.2.2.2.2.1,(a.2.2.2.2.2.2.2.2.2.2.2.2.2.2.2.2.2.2.2.2.2.2.2.2.2.2.2.2.2.1,(V,(R,(M,((ap G [(zk k 100)]),()))))))))))))))))))))))))))))))))))))) (some [(.agg [(.s .u8 y7),(.i .i64 (zf p 4).i),(.i .i64 (zf p 4).h)]),(aT .guest (⟨V,d9,d5,R,M,⟨d1,c7,c3⟩,b9,⟨b5,b1,a7,a3⟩,Z,G⟩:Guest))])))) (0,((zQ r 12).i,((zQ r 12).h,(0,(0,(0,(0,(false,(0,(0,(0,(false,(0,(false,(w,(y,(e.Traps,(e.Post,(e.Open,(d.Pending,(d.Exit.Kind,(d.Exit.Page,(d.Exit.Write,(d.Exit.N,((zcT r 12),(c.b,([],([],([],([],(d.Prog,(v,(x,(d.Seen,())))))))))))))))))))))))))))))))))))))))))))))))
def zSC:FuncId->Nat->Option Tmpl:=zx [(215,0,{n:=50,tm:=[(0,.lp 0 0),(2,.lp 1 0),(3,.lp 2 0),(4,ti)],lo:=[(0,[.sl 0 [],ti,ti]),(1,[.sl 1 [],ti,ti,.sl 2 [],.sl 3 [],ti,ti,.b,ti,ti,ti,.b,ti,.b,.sl 4 []]),(2,[.sl 5 [],ti,ti,.sl 6 [],.sl 7 [],ti,ti,.b,ti,ti,ti,.b,ti,.b,.sl 8 []])],ro:=[(0,.u8,false),(1,.ins,true),(2,.slot,true),(3,.slot,true),(4,.int,true),(5,.ins,true),(6,.slot,true),(7,.slot,true),(8,.int,true)]})]
def znG (c:Cur)(s:Cur)(a:Guest):Prop:=(∃N,zuR N c=some (AV.agg (zb0 s)::[aT .guest a]))/\(s.b=c.b/\0<=s.i)/\(GuS a/\a.Seen.length<=4)
def zlK (c:Cur)  : Bool:=wC (znG c)
def zjg (c:Cur)  : Cur:=wS (znG c)
def zca (c:Cur)  : Guest:=wV (znG c)
theorem zGo {c:Cur}(h:zlK c=true):znG c (zjg c) (zca c):=wG h
theorem zZv (c:Cur)  : 0<=(zjg c).i:=wP fun h=>h.2.1.2
theorem zZu (c:Cur)(h:∃N,Ends (wE (fun a=>aT .guest a) c.b fun a=>GuS a/\a.Seen.length<=4) (zuR N c)):zlK c=true:=wI (fun _ _ h=>h) h
def zw3:zdU:=rP0 fun c=>(zlK c,zjg c,[aT .guest (zca c)])
theorem zKX:zbP Tryz.prog 215 [false,true,true] zw3:=hP0 zJ6 zbg zY5 zo zSC (fun _ h=>(zGo h).1)
theorem zW7 {c:Cur}(h:zbc c):zlK c=true:=by
 refine zZu c ⟨1002,?_⟩;unfold zuR oN;conv=>zeta
 have f:=zFi h;have j:=zLC (zr8 f).2.2;have e:zja (zb5 c)=true:=zby (by omega);have q:∀{s:Cur},0<=s.i->zbc {s with b:=c.b}:=fun g=>zbL h g;have d:GuS ⟨zb5 c,0,0,[],[],⟨0,0,false⟩,0,⟨0,0,false,0⟩,false,[]⟩:=⟨by dsimp only;omega,by simp,by simp,by simp⟩
 refine zq f (zq e (zq (zAr (q (ziJ _)) (by omega) (by omega) _) (zq (zAr (q (zhO _ _ _)) (by omega) (by omega) _) (zq (zbx (q (zhO _ _ _)) _) (zq (zbx (q (zJ _ _)) _) (zq (z3G (q (zJ _ _))) (zq (zii (q (zBR _)) _)
  (zbp (fun _=>zq (zbx (q (zb6 _ _)) _) (zq (zii (q (zJ _ _)) _) (zbp (fun _=>zq (zXa (q (zb6 _ _))) (zq (zii (q (zyK _)) _) ?_)) (fun _=>zq (zii (q (zb6 _ _)) _) ?_))))
   (fun _=>zq (zii (q (zb6 _ _)) _) (zbp (fun _=>zq (zXa (q (zb6 _ _))) (zq (zii (q (zyK _)) _) ?_)) (fun _=>zq (zii (q (zb6 _ _)) _) ?_)))))))))))
 .exact zGM h (zb6 _ _) (P:=fun _=>True) (q:=4) (by omega) (by omega) (fc:=fun c=>zD c 100) (fs:=fun c=>zf c 100) (fv:=fun c=>zk c 100) (fun h=>zbx h _) (fun c=>zJ c _) (fun _=>trivial) (z:=0) (l0:=(zcr (zb5 c)).Seen) (qY 0) (by omega) (by simp) ((fun _ t=>(t.1,t.2.1,t.2.2.1,0,0,0,0,false,0,0,0,false,0,false,(zk ({ (zK ({ (zK ({ (zX c) with b:=c.b }:Cur) 4 8) with b:=c.b }:Cur) 4 8) with b:=c.b }:Cur) 100),(zk ({ (zf ({ (zK ({ (zK ({ (zX c) with b:=c.b }:Cur) 4 8) with b:=c.b }:Cur) 4 8) with b:=c.b }:Cur) 100) with b:=c.b }:Cur) 4),(zcB ({ (zf ({ (zf ({ (zK ({ (zK ({ (zX c) with b:=c.b }:Cur) 4 8) with b:=c.b }:Cur) 4 8) with b:=c.b }:Cur) 100) with b:=c.b }:Cur) 4) with b:=c.b }:Cur)).Traps,(zcB ({ (zf ({ (zf ({ (zK ({ (zK ({ (zX c) with b:=c.b }:Cur) 4 8) with b:=c.b }:Cur) 4 8) with b:=c.b }:Cur) 100) with b:=c.b }:Cur) 4) with b:=c.b }:Cur)).Post,(zcB ({ (zf ({ (zf ({ (zK ({ (zK ({ (zX c) with b:=c.b }:Cur) 4 8) with b:=c.b }:Cur) 4 8) with b:=c.b }:Cur) 100) with b:=c.b }:Cur) 4) with b:=c.b }:Cur)).Open,(zk ({ (zQ ({ (zch ({ (zf ({ (zf ({ (zK ({ (zK ({ (zX c) with b:=c.b }:Cur) 4 8) with b:=c.b }:Cur) 4 8) with b:=c.b }:Cur) 100) with b:=c.b }:Cur) 4) with b:=c.b }:Cur)) with b:=c.b }:Cur) 3) with b:=c.b }:Cur) 256),(zcf ({ (zQ ({ (zf ({ (zQ ({ (zch ({ (zf ({ (zf ({ (zK ({ (zK ({ (zX c) with b:=c.b }:Cur) 4 8) with b:=c.b }:Cur) 4 8) with b:=c.b }:Cur) 100) with b:=c.b }:Cur) 4) with b:=c.b }:Cur)) with b:=c.b }:Cur) 3) with b:=c.b }:Cur) 256) with b:=c.b }:Cur) 4) with b:=c.b }:Cur)).Kind,(zcf ({ (zQ ({ (zf ({ (zQ ({ (zch ({ (zf ({ (zf ({ (zK ({ (zK ({ (zX c) with b:=c.b }:Cur) 4 8) with b:=c.b }:Cur) 4 8) with b:=c.b }:Cur) 100) with b:=c.b }:Cur) 4) with b:=c.b }:Cur)) with b:=c.b }:Cur) 3) with b:=c.b }:Cur) 256) with b:=c.b }:Cur) 4) with b:=c.b }:Cur)).Page,(zcf ({ (zQ ({ (zf ({ (zQ ({ (zch ({ (zf ({ (zf ({ (zK ({ (zK ({ (zX c) with b:=c.b }:Cur) 4 8) with b:=c.b }:Cur) 4 8) with b:=c.b }:Cur) 100) with b:=c.b }:Cur) 4) with b:=c.b }:Cur)) with b:=c.b }:Cur) 3) with b:=c.b }:Cur) 256) with b:=c.b }:Cur) 4) with b:=c.b }:Cur)).Write,(zcf ({ (zQ ({ (zf ({ (zQ ({ (zch ({ (zf ({ (zf ({ (zK ({ (zK ({ (zX c) with b:=c.b }:Cur) 4 8) with b:=c.b }:Cur) 4 8) with b:=c.b }:Cur) 100) with b:=c.b }:Cur) 4) with b:=c.b }:Cur)) with b:=c.b }:Cur) 3) with b:=c.b }:Cur) 256) with b:=c.b }:Cur) 4) with b:=c.b }:Cur)).N,(zcT ({ (zfm ({ (zQ ({ (zf ({ (zQ ({ (zch ({ (zf ({ (zf ({ (zK ({ (zK ({ (zX c) with b:=c.b }:Cur) 4 8) with b:=c.b }:Cur) 4 8) with b:=c.b }:Cur) 100) with b:=c.b }:Cur) 4) with b:=c.b }:Cur)) with b:=c.b }:Cur) 3) with b:=c.b }:Cur) 256) with b:=c.b }:Cur) 4) with b:=c.b }:Cur)) with b:=c.b }:Cur) 12),c.b,[],[],[],[],(zcr (zb5 c)).Prog,(zdy ({ (zX c) with b:=c.b }:Cur) 4 8),(zdy ({ (zK ({ (zX c) with b:=c.b }:Cur) 4 8) with b:=c.b }:Cur) 4 8),t.2.2.2,())):Nat->Int×Int×Int×List Int->_)
   (fun rec t i k l=>⟨_,rfl,fun a _=>⟨⟨_,_,_⟩,_,rfl,⟨rfl,zJ _ _⟩,⟨⟨d.1,zGw (q (ziJ _)),zGw (q (zhO _ _ _)),by unfold ln at a;dsimp only;omega⟩,by unfold ln at a;dsimp only;omega⟩⟩⟩)
 .exact zGM h (zb6 _ _) (P:=fun _=>True) (q:=4) (by omega) (by omega) (fc:=fun c=>zD c 100) (fs:=fun c=>zf c 100) (fv:=fun c=>zk c 100) (fun h=>zbx h _) (fun c=>zJ c _) (fun _=>trivial) (z:=0) (l0:=(zcr (zb5 c)).Seen) (qY 0) (by omega) (by simp) ((fun _ t=>(t.1,t.2.1,t.2.2.1,0,0,0,0,false,0,0,0,false,0,false,(zk ({ (zK ({ (zK ({ (zX c) with b:=c.b }:Cur) 4 8) with b:=c.b }:Cur) 4 8) with b:=c.b }:Cur) 100),(zk ({ (zf ({ (zK ({ (zK ({ (zX c) with b:=c.b }:Cur) 4 8) with b:=c.b }:Cur) 4 8) with b:=c.b }:Cur) 100) with b:=c.b }:Cur) 4),(zcB ({ (zf ({ (zf ({ (zK ({ (zK ({ (zX c) with b:=c.b }:Cur) 4 8) with b:=c.b }:Cur) 4 8) with b:=c.b }:Cur) 100) with b:=c.b }:Cur) 4) with b:=c.b }:Cur)).Traps,(zcB ({ (zf ({ (zf ({ (zK ({ (zK ({ (zX c) with b:=c.b }:Cur) 4 8) with b:=c.b }:Cur) 4 8) with b:=c.b }:Cur) 100) with b:=c.b }:Cur) 4) with b:=c.b }:Cur)).Post,(zcB ({ (zf ({ (zf ({ (zK ({ (zK ({ (zX c) with b:=c.b }:Cur) 4 8) with b:=c.b }:Cur) 4 8) with b:=c.b }:Cur) 100) with b:=c.b }:Cur) 4) with b:=c.b }:Cur)).Open,(zk ({ (zQ ({ (zch ({ (zf ({ (zf ({ (zK ({ (zK ({ (zX c) with b:=c.b }:Cur) 4 8) with b:=c.b }:Cur) 4 8) with b:=c.b }:Cur) 100) with b:=c.b }:Cur) 4) with b:=c.b }:Cur)) with b:=c.b }:Cur) 3) with b:=c.b }:Cur) 256),(zcr (zb5 c)).Exit.Kind,(zcr (zb5 c)).Exit.Page,(zcr (zb5 c)).Exit.Write,(zcr (zb5 c)).Exit.N,(zcT ({ (zQ ({ (zf ({ (zQ ({ (zch ({ (zf ({ (zf ({ (zK ({ (zK ({ (zX c) with b:=c.b }:Cur) 4 8) with b:=c.b }:Cur) 4 8) with b:=c.b }:Cur) 100) with b:=c.b }:Cur) 4) with b:=c.b }:Cur)) with b:=c.b }:Cur) 3) with b:=c.b }:Cur) 256) with b:=c.b }:Cur) 4) with b:=c.b }:Cur) 12),c.b,[],[],[],[],(zcr (zb5 c)).Prog,(zdy ({ (zX c) with b:=c.b }:Cur) 4 8),(zdy ({ (zK ({ (zX c) with b:=c.b }:Cur) 4 8) with b:=c.b }:Cur) 4 8),t.2.2.2,())):Nat->Int×Int×Int×List Int->_)
   (fun rec t i k l=>⟨_,rfl,fun a _=>⟨⟨_,_,_⟩,_,rfl,⟨rfl,zJ _ _⟩,⟨⟨d.1,zGw (q (ziJ _)),zGw (q (zhO _ _ _)),by unfold ln at a;dsimp only;omega⟩,by unfold ln at a;dsimp only;omega⟩⟩⟩)
 .exact zGM h (zb6 _ _) (P:=fun _=>True) (q:=4) (by omega) (by omega) (fc:=fun c=>zD c 100) (fs:=fun c=>zf c 100) (fv:=fun c=>zk c 100) (fun h=>zbx h _) (fun c=>zJ c _) (fun _=>trivial) (z:=0) (l0:=(zcr (zb5 c)).Seen) (qY 0) (by omega) (by simp) ((fun _ t=>(t.1,t.2.1,t.2.2.1,0,0,0,0,false,0,0,0,false,0,false,(zk ({ (zK ({ (zK ({ (zX c) with b:=c.b }:Cur) 4 8) with b:=c.b }:Cur) 4 8) with b:=c.b }:Cur) 100),(zk ({ (zf ({ (zK ({ (zK ({ (zX c) with b:=c.b }:Cur) 4 8) with b:=c.b }:Cur) 4 8) with b:=c.b }:Cur) 100) with b:=c.b }:Cur) 4),(zcB ({ (zf ({ (zf ({ (zK ({ (zK ({ (zX c) with b:=c.b }:Cur) 4 8) with b:=c.b }:Cur) 4 8) with b:=c.b }:Cur) 100) with b:=c.b }:Cur) 4) with b:=c.b }:Cur)).Traps,(zcB ({ (zf ({ (zf ({ (zK ({ (zK ({ (zX c) with b:=c.b }:Cur) 4 8) with b:=c.b }:Cur) 4 8) with b:=c.b }:Cur) 100) with b:=c.b }:Cur) 4) with b:=c.b }:Cur)).Post,(zcB ({ (zf ({ (zf ({ (zK ({ (zK ({ (zX c) with b:=c.b }:Cur) 4 8) with b:=c.b }:Cur) 4 8) with b:=c.b }:Cur) 100) with b:=c.b }:Cur) 4) with b:=c.b }:Cur)).Open,(zcr (zb5 c)).Pending,(zcf ({ (zQ ({ (zQ ({ (zch ({ (zf ({ (zf ({ (zK ({ (zK ({ (zX c) with b:=c.b }:Cur) 4 8) with b:=c.b }:Cur) 4 8) with b:=c.b }:Cur) 100) with b:=c.b }:Cur) 4) with b:=c.b }:Cur)) with b:=c.b }:Cur) 3) with b:=c.b }:Cur) 4) with b:=c.b }:Cur)).Kind,(zcf ({ (zQ ({ (zQ ({ (zch ({ (zf ({ (zf ({ (zK ({ (zK ({ (zX c) with b:=c.b }:Cur) 4 8) with b:=c.b }:Cur) 4 8) with b:=c.b }:Cur) 100) with b:=c.b }:Cur) 4) with b:=c.b }:Cur)) with b:=c.b }:Cur) 3) with b:=c.b }:Cur) 4) with b:=c.b }:Cur)).Page,(zcf ({ (zQ ({ (zQ ({ (zch ({ (zf ({ (zf ({ (zK ({ (zK ({ (zX c) with b:=c.b }:Cur) 4 8) with b:=c.b }:Cur) 4 8) with b:=c.b }:Cur) 100) with b:=c.b }:Cur) 4) with b:=c.b }:Cur)) with b:=c.b }:Cur) 3) with b:=c.b }:Cur) 4) with b:=c.b }:Cur)).Write,(zcf ({ (zQ ({ (zQ ({ (zch ({ (zf ({ (zf ({ (zK ({ (zK ({ (zX c) with b:=c.b }:Cur) 4 8) with b:=c.b }:Cur) 4 8) with b:=c.b }:Cur) 100) with b:=c.b }:Cur) 4) with b:=c.b }:Cur)) with b:=c.b }:Cur) 3) with b:=c.b }:Cur) 4) with b:=c.b }:Cur)).N,(zcT ({ (zfm ({ (zQ ({ (zQ ({ (zch ({ (zf ({ (zf ({ (zK ({ (zK ({ (zX c) with b:=c.b }:Cur) 4 8) with b:=c.b }:Cur) 4 8) with b:=c.b }:Cur) 100) with b:=c.b }:Cur) 4) with b:=c.b }:Cur)) with b:=c.b }:Cur) 3) with b:=c.b }:Cur) 4) with b:=c.b }:Cur)) with b:=c.b }:Cur) 12),c.b,[],[],[],[],(zcr (zb5 c)).Prog,(zdy ({ (zX c) with b:=c.b }:Cur) 4 8),(zdy ({ (zK ({ (zX c) with b:=c.b }:Cur) 4 8) with b:=c.b }:Cur) 4 8),t.2.2.2,())):Nat->Int×Int×Int×List Int->_)
   (fun rec t i k l=>⟨_,rfl,fun a _=>⟨⟨_,_,_⟩,_,rfl,⟨rfl,zJ _ _⟩,⟨⟨d.1,zGw (q (ziJ _)),zGw (q (zhO _ _ _)),by unfold ln at a;dsimp only;omega⟩,by unfold ln at a;dsimp only;omega⟩⟩⟩)
 .exact zGM h (zb6 _ _) (P:=fun _=>True) (q:=4) (by omega) (by omega) (fc:=fun c=>zD c 100) (fs:=fun c=>zf c 100) (fv:=fun c=>zk c 100) (fun h=>zbx h _) (fun c=>zJ c _) (fun _=>trivial) (z:=0) (l0:=(zcr (zb5 c)).Seen) (qY 0) (by omega) (by simp) ((fun _ t=>(t.1,t.2.1,t.2.2.1,0,0,0,0,false,0,0,0,false,0,false,(zk ({ (zK ({ (zK ({ (zX c) with b:=c.b }:Cur) 4 8) with b:=c.b }:Cur) 4 8) with b:=c.b }:Cur) 100),(zk ({ (zf ({ (zK ({ (zK ({ (zX c) with b:=c.b }:Cur) 4 8) with b:=c.b }:Cur) 4 8) with b:=c.b }:Cur) 100) with b:=c.b }:Cur) 4),(zcB ({ (zf ({ (zf ({ (zK ({ (zK ({ (zX c) with b:=c.b }:Cur) 4 8) with b:=c.b }:Cur) 4 8) with b:=c.b }:Cur) 100) with b:=c.b }:Cur) 4) with b:=c.b }:Cur)).Traps,(zcB ({ (zf ({ (zf ({ (zK ({ (zK ({ (zX c) with b:=c.b }:Cur) 4 8) with b:=c.b }:Cur) 4 8) with b:=c.b }:Cur) 100) with b:=c.b }:Cur) 4) with b:=c.b }:Cur)).Post,(zcB ({ (zf ({ (zf ({ (zK ({ (zK ({ (zX c) with b:=c.b }:Cur) 4 8) with b:=c.b }:Cur) 4 8) with b:=c.b }:Cur) 100) with b:=c.b }:Cur) 4) with b:=c.b }:Cur)).Open,(zcr (zb5 c)).Pending,(zcr (zb5 c)).Exit.Kind,(zcr (zb5 c)).Exit.Page,(zcr (zb5 c)).Exit.Write,(zcr (zb5 c)).Exit.N,(zcT ({ (zQ ({ (zQ ({ (zch ({ (zf ({ (zf ({ (zK ({ (zK ({ (zX c) with b:=c.b }:Cur) 4 8) with b:=c.b }:Cur) 4 8) with b:=c.b }:Cur) 100) with b:=c.b }:Cur) 4) with b:=c.b }:Cur)) with b:=c.b }:Cur) 3) with b:=c.b }:Cur) 4) with b:=c.b }:Cur) 12),c.b,[],[],[],[],(zcr (zb5 c)).Prog,(zdy ({ (zX c) with b:=c.b }:Cur) 4 8),(zdy ({ (zK ({ (zX c) with b:=c.b }:Cur) 4 8) with b:=c.b }:Cur) 4 8),t.2.2.2,())):Nat->Int×Int×Int×List Int->_)
   (fun rec t i k l=>⟨_,rfl,fun a _=>⟨⟨_,_,_⟩,_,rfl,⟨rfl,zJ _ _⟩,⟨⟨d.1,zGw (q (ziJ _)),zGw (q (zhO _ _ _)),by unfold ln at a;dsimp only;omega⟩,by unfold ln at a;dsimp only;omega⟩⟩⟩)
def zbcx:zcN:=[(215,([false,true,true],zw3))]++zbcw
theorem zLA:zb2 zbcx:=zcs zY5 (by
 intro x a;simp only[qG,qN,or_false]at a;rcases a with rfl
 .exact zKX)
def zAC (N:Nat)(c:Cur)  : OA :=
 let e:=(zca c);let B:=({ (zjg c) with b:=c.b}:Cur);let f:=(zf B 14);let j:=(zk B 14);let d:=({f with b:=c.b}:Cur);let g:=(zgL d 4 8);let p:=(zZ d [(-1),12,13,9223372036854775807]); (oN (zlK c) (oN (zD B 14) (cond (ieq j 0) (oN (zje d) (some [(.agg [(.s .u8 c.b),(.i .i64 (zjf d).i),(.i .i64 (zjf d).h)]),(aT .guest ({e with Prog:=(zp2 d)}:Guest))])) (cond (ieq j 1) (oN (zbq d [(-1),100]) (some [(.agg [(.s .u8 c.b),(.i .i64 (zZ d [(-1),100]).i),(.i .i64 (zZ d [(-1),100]).h)]),(aT .guest ({e with A:=(zbk d [(-1),100])}:Guest))])) (cond (ieq j 2) (oN (zbq d [(-1),12,13,9223372036854775807]) (some [(.agg [(.s .u8 c.b),(.i .i64 p.i),(.i .i64 p.h)]),(aT .guest ({e with Pc:=(zbk d [(-1),12,13,9223372036854775807])}:Guest))])) (cond (ieq j 3) (oN (zfI d 4 8) (some [(.agg [(.s .u8 c.b),(.i .i64 g.i),(.i .i64 g.h)]),(aT .guest ({e with Live:=(zeZ d 4 8)}:Guest))])) (cond (ieq j 4) (oN (zp4 d) (some [(.agg [(.s .u8 c.b),(.i .i64 (zp5 d).i),(.i .i64 (zp5 d).h)]),(aT .guest ({e with Ctl:=(zBQ d)}:Guest))])) (cond (ieq j 5) (oN (znm d) (some [(.agg [(.s .u8 c.b),(.i .i64 (znn d).i),(.i .i64 (znn d).h)]),(aT .guest ({e with Pending:=(zxP d)}:Guest))])) (cond (ieq j 6) (oN (zp6 d) (some [(.agg [(.s .u8 c.b),(.i .i64 (zp7 d).i),(.i .i64 (zp7 d).h)]),(aT .guest ({e with Exit:=(zBS d)}:Guest))])) (cond (ieq j 7) (iter (σ:=(Int×(Int×(Int×(Int×(Int×(Int×(Bool×(Int×(Int×(Int×(Bool×(Int×(Bool×(Int×(Int×(Int×(Int×(Bool×(Int×(Int×(Int×(Bool×(Int×(Bool×((List Int)×(lI×(lS×(lS×((List Int)×(lI×(lS×(lS×((List Int)×Unit)))))))))))))))))))))))))))))))))) N (fun G a=>let y:=a.2.2.2.2.2.2.2.2.2.2.2.2.2.1;let x:=a.2.2.2.2.2.2.2.2.2.2.2.2.2.2.1;let w:=a.2.2.2.2.2.2.2.2.2.2.2.2.2.2.2.1;let v:=a.2.2.2.2.2.2.2.2.2.2.2.2.2.2.2.2.1;let u:=a.2.2.2.2.2.2.2.2.2.2.2.2.2.2.2.2.2.1;let t:=a.2.2.2.2.2.2.2.2.2.2.2.2.2.2.2.2.2.2.1;let r:=a.2.2.2.2.2.2.2.2.2.2.2.2.2.2.2.2.2.2.2.1;let q:=a.2.2.2.2.2.2.2.2.2.2.2.2.2.2.2.2.2.2.2.2.1;let n:=a.2.2.2.2.2.2.2.2.2.2.2.2.2.2.2.2.2.2.2.2.2.1;let m:=a.2.2.2.2.2.2.2.2.2.2.2.2.2.2.2.2.2.2.2.2.2.2.1;let l:=a.2.2.2.2.2.2.2.2.2.2.2.2.2.2.2.2.2.2.2.2.2.2.2.1;let F:=a.2.2.2.2.2.2.2.2.2.2.2.2.2.2.2.2.2.2.2.2.2.2.2.2.2.2.2.2.2.1;let E:=a.2.2.2.2.2.2.2.2.2.2.2.2.2.2.2.2.2.2.2.2.2.2.2.2.2.2.2.2.2.2.1;let D:=a.2.2.2.2.2.2.2.2.2.2.2.2.2.2.2.2.2.2.2.2.2.2.2.2.2.2.2.2.2.2.2.1;let C:=a.2.2.2.2.2.2.2.2.2.2.2.2.2.2.2.2.2.2.2.2.2.2.2.2.1;let z:=a.2.2.2.2.2.2.2.2.2.2.2.2.2.2.2.2.2.2.2.2.2.2.2.2.2.2.2.2.2.2.2.2.1;let k:=(⟨C,a.1,a.2.1⟩:Cur); (oN (zD k 3) (cond (ilt (ln z) (zL .i64 39 (zk k 3))) (oN (few (ln (ap z [1]))) (G ((zf k 3).i,((zf k 3).h,(a.2.2.1,(a.2.2.2.1,(a.2.2.2.2.1,(a.2.2.2.2.2.1,(a.2.2.2.2.2.2.1,(a.2.2.2.2.2.2.2.1,(a.2.2.2.2.2.2.2.2.1,(a.2.2.2.2.2.2.2.2.2.1,(a.2.2.2.2.2.2.2.2.2.2.1,(a.2.2.2.2.2.2.2.2.2.2.2.1,(a.2.2.2.2.2.2.2.2.2.2.2.2.1,(y,(x,(w,(v,(u,(t,(r,(q,(n,(m,(l,(C,(a.2.2.2.2.2.2.2.2.2.2.2.2.2.2.2.2.2.2.2.2.2.2.2.2.2.1,(a.2.2.2.2.2.2.2.2.2.2.2.2.2.2.2.2.2.2.2.2.2.2.2.2.2.2.1,(a.2.2.2.2.2.2.2.2.2.2.2.2.2.2.2.2.2.2.2.2.2.2.2.2.2.2.2.1,(a.2.2.2.2.2.2.2.2.2.2.2.2.2.2.2.2.2.2.2.2.2.2.2.2.2.2.2.2.1,(F,(E,(D,((ap z [1]),()))))))))))))))))))))))))))))))))))) (some [(.agg [(.s .u8 C),(.i .i64 (zf k 3).i),(.i .i64 (zf k 3).h)]),(aT .guest (⟨F,y,x,E,D,⟨w,v,u⟩,t,⟨r,q,n,m⟩,l,z⟩:Guest))])))) (f.i,(f.h,(0,(0,(0,(0,(false,(0,(0,(0,(false,(0,(false,(e.A,(e.Pc,(e.Ctl.Traps,(e.Ctl.Post,(e.Ctl.Open,(e.Pending,(e.Exit.Kind,(e.Exit.Page,(e.Exit.Write,(e.Exit.N,(e.Halted,(c.b,([],([],([],([],(e.Prog,(e.Written,(e.Live,(e.Seen,())))))))))))))))))))))))))))))))))) (cond (ieq j 8) (oN (zfI d 4 8) (some [(.agg [(.s .u8 c.b),(.i .i64 g.i),(.i .i64 g.h)]),(aT .guest ({e with Written:=(zeZ d 4 8)}:Guest))])) (some [(.agg [(.s .u8 c.b),(.i .i64 f.i),(.i .i64 f.h)]),(aT .guest e)]))))))))))))
def z0e:FuncId->Nat->Option Tmpl:=zx [(139,1,{n:=65,tm:=[(0,.lp 0 0),(2,.lp 1 0),(3,.lp 2 0)],lo:=[(0,[.sl 0 [],ti,ti]),(1,[.sl 1 [],ti,ti,.sl 2 [],.sl 3 [],ti,ti,.b,ti,ti,ti,.b,ti,.b,.sl 4 []]),(2,[.sl 5 [],ti,ti,.sl 6 [],.sl 7 [],ti,ti,.b,ti,ti,ti,.b,ti,.b,.sl 8 []])],ro:=[(0,.u8,false),(1,.ins,true),(2,.slot,true),(3,.slot,true),(4,.int,true),(5,.ins,true),(6,.slot,true),(7,.slot,true),(8,.int,true)]})]
def zsc (c:Cur)(s:Cur)(a:Guest):Prop:=(∃N,zAC N c=some (AV.agg (zb0 s)::[aT .guest a]))/\(s.b=c.b/\0<=s.i)/\(GuS a)
def zqa (c:Cur)  : Bool:=wC (zsc c)
def zqb (c:Cur)  : Cur:=wS (zsc c)
def zBT (c:Cur)  : Guest:=wV (zsc c)
theorem zPk {c:Cur}(h:zqa c=true):zsc c (zqb c) (zBT c):=wG h
theorem z5t (c:Cur)  : 0<=(zqb c).i:=wP fun h=>h.2.1.2
theorem z5s (c:Cur)(h:∃N,Ends (wE (fun a=>aT .guest a) c.b fun a=>GuS a) (zAC N c)):zqa c=true:=wI (fun _ _ h=>h) h
def zCC:zdU:=rP0 fun c=>(zqa c,zqb c,[aT .guest (zBT c)])
theorem zRa:zbP Tryz.prog 139 [false,true,true] zCC:=hP0 zJ6 zbg zLA zo z0e (fun _ h=>(zPk h).1)
theorem zMT {c:Cur}(h:zbc c):zqa c=true:=by
 refine z5s c ⟨1002,?_⟩;unfold zAC oN;conv=>zeta
 have q:∀{s:Cur},0<=s.i->zbc {s with b:=c.b}:=fun r=>zbL h r;have a:zbc {zf {zjg c with b:=c.b} 14 with b:=c.b}:=q (zJ _ _);obtain⟨⟨d,e,f,g⟩,w⟩:=(zGo (zW7 h)).2.2;have p:(zeZ {zf {zjg c with b:=c.b} 14 with b:=c.b} 4 8).length<=4:=by have:=((zpT (zoH a (n:=4) (by omega) (by omega) 8)).2.2 (by omega) (by omega)).1;unfold ln at this;omega
 have j:=(zAm (zTd a)).2.2;refine zq (zW7 h) (zq (zbx (q (zZv _)) _) (zbp (fun _=>zq (zTd a) (zbJ (aT .guest) (v:={zca c with Prog:=zp2 _}) (zSm _) ⟨j,e,f,g⟩))
  (fun _=>zbp (fun _=>zq (zeQ a (by simp)) (zbJ (aT .guest) (v:={zca c with A:=zbk _ _}) (zb1 _ _) ⟨d,e,f,g⟩))
  (fun _=>zbp (fun _=>zq (zeQ a (by simp)) (zbJ (aT .guest) (v:={zca c with Pc:=zbk _ _}) (zb1 _ _) ⟨d,e,f,g⟩))
  (fun _=>zbp (fun _=>zq (zoH a (by omega) (by omega) _) (zbJ (aT .guest) (v:={zca c with Live:=zeZ _ _ _}) (zpU _ _ _) ⟨d,e,p,g⟩))
  (fun _=>zbp (fun _=>zq (z8N a) (zbJ (aT .guest) (v:={zca c with Ctl:=zBQ _}) (z5m _) ⟨d,e,f,g⟩))
  (fun _=>zbp (fun _=>zq (zbe2 a) (zbJ (aT .guest) (v:={zca c with Pending:=zxP _}) (z1J _) ⟨d,e,f,g⟩))
  (fun _=>zbp (fun _=>zq (z5W a) (zbJ (aT .guest) (v:={zca c with Exit:=zBS _}) (z5r _) ⟨d,e,f,g⟩))
  (fun _=>zbp (fun _=>?_)
  (fun _=>zbp (fun _=>zq (zoH a (by omega) (by omega) _) (zbJ (aT .guest) (v:={zca c with Written:=zeZ _ _ _}) (zpU _ _ _) ⟨d,p,f,g⟩))
  (fun _=>zbJ (aT .guest) (v:=zca c) (zJ _ _) ⟨d,e,f,g⟩)))))))))))
 exact zbeJ h (zJ _ _) (m:=39) (q:=3) (x:=1) (by omega) (by omega) (by omega) (l0:=(zca c).Seen) (by unfold ln;omega) ((fun _ t=>(t.1,t.2.1,0,0,0,0,false,0,0,0,false,0,false,(zca c).A,(zca c).Pc,(zca c).Ctl.Traps,(zca c).Ctl.Post,(zca c).Ctl.Open,(zca c).Pending,(zca c).Exit.Kind,(zca c).Exit.Page,(zca c).Exit.Write,(zca c).Exit.N,(zca c).Halted,c.b,[],[],[],[],(zca c).Prog,(zca c).Written,(zca c).Live,t.2.2,())):Nat->Int×Int×List Int->_)
  (fun rec i k l=>⟨_,rfl,fun u=>⟨⟨_,_,_⟩,_,rfl,⟨rfl,zJ _ _⟩,⟨d,e,f,by unfold ln at u;dsimp only;omega⟩⟩⟩)
theorem zbdU (b:List Entry)(e:Entry)(h:b.length<=1048576):(znY b e).length<=6:=by have c:=(zvB e h).2;unfold znY;generalize ap (zcF b e.Tag e.Page) [e]=l at c;cases a:igt (ln l) 6 with|false=>have:¬ ln l>6:=jQ a;rw[cF];unfold ln at this;omega|true=>rw[cT,zrj (by unfold ln;omega) (by unfold ln;omega)];have:ln l>6:=qD a;simp only[dp,vI];unfold ln at *;omega
def zs3 (N:Nat)(c:Cur)  : OA :=
 (iter (σ:=(Int×(Int×(Int×(lE×((List Int)×Unit)))))) N (fun l d=>let e:=d.2.2.2.2.1;let j:=(⟨e,d.2.1,d.2.2.1⟩:Cur);let a:=({ (zf j 9) with b:=e}:Cur);let g:=({ (zQ a 8) with b:=e}:Cur);let f:=({ (zgD g) with b:=e}:Cur);let k:=(ap d.2.2.2.1 [(zmE g),(zmE f)]); (oN (zD j 9) (cond (ilt d.1 (zk j 9)) (oN (zhP a) (oN (zlC d.2.2.2.1 (zmE a)) (l ((zL .i64 d.1 1),((zgD a).i,((zgD a).h,((zmz d.2.2.2.1 (zmE a)),(e,())))))))) (oN (zcK a 8) (cond (zcT a 8) (oN (zhP g) (oN (zhP f) (oN (few (ln k)) (some [(.agg [(.s .u8 e),(.i .i64 (zgD f).i),(.i .i64 (zgD f).h)]),(aS .entry k)])))) (some [(.agg [(.s .u8 e),(.i .i64 (zQ a 8).i),(.i .i64 (zQ a 8).h)]),(aS .entry d.2.2.2.1)])))))) (0,(c.i,(c.h,([],(c.b,()))))))
def zPQ:FuncId->Nat->Option Tmpl:=zx [(140,0,{n:=26,tm:=[(0,.lp 0 0),(3,.sl 0 []),(4,ti)],lo:=[(0,[.sl 1 [],ti,ti])],ro:=[(0,.entry,true),(1,.u8,false)]})]
def zmD (c:Cur)(s:Cur)(a:List Entry):Prop:=(∃N,zs3 N c=some (AV.agg (zb0 s)::[aS .entry a]))/\(s.b=c.b/\0<=s.i)/\(a.length<=8)
def zko (c:Cur)  : Bool:=wC (zmD c)
def zkp (c:Cur)  : Cur:=wS (zmD c)
def zr6 (c:Cur)  : List Entry:=wV (zmD c)
theorem zDp {c:Cur}(h:zko c=true):zmD c (zkp c) (zr6 c):=wG h
theorem zVG (c:Cur)  : 0<=(zkp c).i:=wP fun h=>h.2.1.2
theorem zVF (c:Cur)(h:∃N,Ends (wE (fun a=>aS .entry a) c.b fun a=>a.length<=8) (zs3 N c)):zko c=true:=wI (fun _ _ h=>h) h
def zvy:zdU:=rP0 fun c=>(zko c,zkp c,[aS .entry (zr6 c)])
theorem zHJ:zbP Tryz.prog 140 [false,true,true] zvy:=hP0 zJ6 zbg zLA zo zPQ (fun _ h=>(zDp h).1)
theorem zWD {c:Cur}(h:zbc c):zko c=true:=by
 refine zVF c ⟨1002,?_⟩;unfold zs3 oN;conv=>zeta
 refine zka (fun n s=>∃t i k l,s=(((fun _ t=>(t.1,t.2.1,t.2.2.1,t.2.2.2,c.b,())):Nat->Int×Int×Int×List Entry->_) 0 (t,i,k,l))/\t+(n:Int)=10/\0<=t/\0<=i/\l.length<=6) ?_ 1002 10 _ ⟨0,c.i,c.h,[],rfl,rfl,kD 0,h.1,by simp⟩ (by omega);rintro n s rec ⟨t,i,k,l,rfl,p,g,j,r⟩ d;dsimp only;have a:zbc ⟨c.b,i,k⟩:=zbL h j;have v:=zfu a (n:=9) (by omega);have q:∀{s:Cur},0<=s.i->zbc {s with b:=c.b}:=fun f=>zbL h f;refine zq (zbx a 9) (zbp (fun e=>?_) (fun e=>?_));{have m:t<zk ⟨c.b,i,k⟩ 9:=qD e;have u:=zhx (y:=1) g (by omega) (by omega) (by omega);exact zq (zP6 (q (zJ _ _))) (zq (zby (by omega)) (d (n-1) _ (by omega) ⟨zL .i64 t 1,_,_,_,rfl,by omega,by omega,zv3 _,zbdU _ _ (by omega)⟩))};{refine zq (zii (q (zJ _ _)) 8) (zbp (fun _=>zq (zP6 (q (zb6 _ _))) (zq (zP6 (q (zv3 _))) (zq (zkb ?_) (zbJ (aS .entry) (zv3 _) ?_)))) (fun _=>zbJ (aS .entry) (zb6 _ _) (by omega)));{simp only [ln,ap,j8,qZ,uF];omega};{simp only [ap,j8,qZ,uF];omega}}
def zbcy:zcN:=[(139,([false,true,true],zCC)),(140,([false,true,true],zvy))]++zbcx
theorem zY6:zb2 zbcy:=zcs zLA (by
 intro x a;simp only[qG,qN,or_false]at a;rcases a with rfl|rfl
 .exact zRa
 .exact zHJ)
def zMU (b:Bare)(a:GAct):Bare:=bif ieq a.Kind 1 then zd8 b a.G else (cond (ieq a.Kind 2) (chg b a.G (ztA a.X ⟨a.Y,a.Z⟩) (zBX (gAt b a.G) a.X ⟨a.Y,a.Z⟩)) (cond (ieq a.Kind 3) (chg b a.G (hasB a.X 4) (zd1 (gAt b a.G) a.X)) (cond (ieq a.Kind 4) (chg b a.G (zs8 (gAt b a.G) a.X) (zya (gAt b a.G) a.X)) (cond (ieq a.Kind 5) (chg b a.G (zyt (gAt b a.G)) (zyu (gAt b a.G))) (cond (ieq a.Kind 6) (chg b a.G (zgx (gAt b a.G).Pending a.X) (znV (gAt b a.G) a.X)) (cond (ieq a.Kind 7) (chg b a.G (zhR ⟨a.X,a.Y,ieq a.Z 1⟩) (zJ2 (gAt b a.G) ⟨a.X,a.Y,ieq a.Z 1⟩)) (cond (ieq a.Kind 8) (zV8 b a.X a.Y a.Z) (cond (ieq a.Kind 9) (zjT b a.X) (cond (ieq a.Kind 10) (zmK b) (cond (ieq a.Kind 11) (z3Y b a.G a.X a.Y) (b)))))))))))
def zMV (b:Bare)(a:GAct):Told:=bif ieq a.Kind 1 then ⟨zfW b a.G,0⟩ else (cond (ieq a.Kind 2) ⟨zb7 b a.G (ztA a.X ⟨a.Y,a.Z⟩),0⟩ (cond (ieq a.Kind 3) ⟨zb7 b a.G (hasB a.X 4),0⟩ (cond (ieq a.Kind 4) ⟨zb7 b a.G (zs8 (gAt b a.G) a.X),0⟩ (cond (ieq a.Kind 5) ⟨zb7 b a.G (zyt (gAt b a.G)),0⟩ (cond (ieq a.Kind 6) ⟨zb7 b a.G (zgx (gAt b a.G).Pending a.X),0⟩ (cond (ieq a.Kind 7) ⟨zb7 b a.G (zhR ⟨a.X,a.Y,ieq a.Z 1⟩),0⟩ (cond (ieq a.Kind 8) ⟨zzx b a.X a.Y a.Z,0⟩ (cond (ieq a.Kind 9) ⟨zfb b a.X,0⟩ (cond (ieq a.Kind 10) ⟨zlY b,zs7 b⟩ (cond (ieq a.Kind 11) ⟨zAS b a.G a.X a.Y,0⟩ (⟨zoP b a.G a.X 1,zWc b a.G a.X⟩)))))))))))
def zMW (l:List Bare)(a:GAct):List Bare:=bif win a.Kind 1 17 then (cond (win a.Kind 13 17) l (cond (hasB a.M (ln l)) (up l a.M (zMU (ix l a.M z0p) a)) l)) else l
def z3x (l:List Bare)(a:GAct):Told:=bif win a.Kind 1 17 then (cond (win a.Kind 13 17) ⟨false,0⟩ (cond (hasB a.M (ln l)) (zMV (ix l a.M z0p) a) (cond (ieq a.Kind 10) ⟨false,-1⟩ ⟨false,0⟩))) else ⟨false,0⟩
theorem zI {i n:Int}:hasB i n=true↔0<=i/\i<n:=by unfold hasB;exact decide_eq_true_iff
theorem zcD {x a b:Int}:win x a b=true↔a<=x/\x<=b:=by simp[win,ige,ile]
theorem zbo {x y:Int}:ieq x y=true↔x=y:=by simp[ieq]
theorem zmc {x y:Int}:ine x y=true↔x≠y:=by simp[ine]
theorem zbT {x y:Int}:ieq x y=false↔x≠y:=by simp[ieq]
theorem zcg {a b:Bool}:(cond a b false)=true↔a=true/\b=true:=by cases a<;>simp
theorem zbN {a:Type}(l:List a)(i:Int)(x:a):(up l i x).length=l.length:=by simp[up]
theorem zdV {a:Type}(l:List a)(i:Int)(x:a):ln (up l i x)=ln l:=by simp[up,ln]
theorem zBq {a:Type}{l:List a}{i:Int}(h:hasB i (ln l)=true)(d:a):∃k:Nat,∃b:k<l.length,i=(k:Int)/\ix l i d=l[k]:=by rw[zI]at h;unfold ln at h;refine⟨i.toNat,by omega,by omega,?_⟩;simp[ix,List.getD,qB (show i.toNat<l.length by omega)]
theorem zm3 {a:Type}{l:List a}{k:Nat}(h:k<l.length)(d:a):ix l (k:Int) d=l[k]:=by simp[ix,List.getD,qB h]
theorem zkW {a:Type}{l:List a}{i:Int}(h:hasB i (ln l)=true)(d:a):ix l i d∈l:=by obtain⟨k,b,_,e⟩:=zBq h d;rw[e];exact jK b
theorem zYJ {a:Type}{l:List a}{x:a}(h:x∈l)(d:a):∃i,hasB i (ln l)=true/\ix l i d=x:=by obtain⟨k,b,e⟩:=List.mem_iff_getElem.1 h;exact⟨(k:Int),zI.2 (by unfold ln;omega),(zm3 b d).trans e⟩
theorem zbf {a:Type}{l:List a}{i:Int}(h:hasB i (ln l)=true)(x d:a):ix (up l i x) i d=x:=by rw[zI]at h;unfold ln at h;simp[ix,up,List.getD,show i.toNat<l.length by omega]
theorem zbt {a:Type}{l:List a}{i j:Int}(b:0<=i)(c:0<=j)(h:i≠j)(x d:a):ix (up l i x) j d=ix l j d:=by have:i.toNat≠j.toNat:=(by omega);simp[ix,up,List.getD,q9,this]
theorem z8F {a:Type}(l:List a)(i:Int)(x y:a):up (up l i x) i y=up l i y:=by simp[up]
theorem zR0 {a:Type}{l m:List a}(d:a)(h:l.length=m.length)(e:∀i,hasB i (ln l)=true->ix l i d=ix m i d):l=m:=by refine List.ext_getElem h fun k b c=>?_;have:=e (k:Int) (zI.2 (by unfold ln;omega));rwa [zm3 b,zm3 c] at this
theorem zLV {a:Type}{l:List a}{i:Int}(h:hasB i (ln l)=true)(d:a):up l i (ix l i d)=l:=by obtain⟨k,b,rfl,e⟩:=zBq h d;rw[e];simp[up]
def cPg (x:Mon)(q:Int):Nat:=x.Outer.countP fun s=>ieq s.Page q
def zfi (l:List Mon)(q:Int):Nat:=(l.map fun x=>cPg x q).sum
theorem zTj {a:Type}(P:a->Bool){l:List a}{i:Int}(h:hasB i (ln l)=true)(x d:a):(up l i x).countP P+(if P (ix l i d) then 1 else 0)=l.countP P+(if P x then 1 else 0):=by
 obtain⟨k,b,rfl,e⟩:=zBq h d;rw[e];simp only[up,kB,List.countP_set b];have:(if P l[k]=true then 1 else 0)<=l.countP P:=by
  split
  .rename_i hp;exact List.countP_pos_iff.2 ⟨l[k],jK b,hp⟩
  .omega
 omega
theorem zAq {l:List Mon}{m:Int}(h:hasB m (ln l)=true)(x:Mon)(q:Int):zfi (up l m x) q+cPg (ix l m mZ) q=zfi l q+cPg x q:=by obtain⟨k,a,rfl,e⟩:=zBq h mZ;rw[e];clear h e;unfold up;simp only[kB];induction l generalizing k with|nil=>simp at a|cons y l b=>(cases k with|zero=>simp[zfi];omega|succ k=>have:=b k (by simpa using a);simp[zfi] at this ⊢;omega)
theorem zJY {l:List Mon}{m p:Int}(a:hasB m (ln l)=true)(b:hasB p (ln (ix l m mZ).Outer)=true):1<=zfi l (ix (ix l m mZ).Outer p sZ).Page:=by have d:1<=cPg (ix l m mZ) (ix (ix l m mZ).Outer p sZ).Page:=List.countP_pos_iff.2 ⟨_,zkW b sZ,by simp[ieq]⟩;have:=zAq a (⟨[],[],[],[],[],0,0,[],0⟩:Mon) (ix (ix l m mZ).Outer p sZ).Page;have c:cPg (⟨[],[],[],[],[],0,0,[],0⟩:Mon) (ix (ix l m mZ).Outer p sZ).Page=0:=rfl;omega
theorem z8S {l:List Mon}{m p n k:Int}{q:Int}(b:hasB m (ln l)=true)(v:hasB p (ln (ix l m mZ).Outer)=true)(u:hasB n (ln l)=true)(f:hasB k (ln (ix l n mZ).Outer)=true)(z:(ix (ix l m mZ).Outer p sZ).Page=q)(t:(ix (ix l n mZ).Outer k sZ).Page=q)(h:zfi l q<=1):m=n/\p=k:=by have c:=zI.1 b;have d:=zI.1 u;have i:=zI.1 v;have g:=zI.1 f;have B:¬ ieq q (q+1)=true:=(by simp[ieq];omega);obtain⟨y,r⟩:∃y:Mon,y.Outer=up (ix l m mZ).Outer p ⟨q+1,0⟩:=⟨{ix l m mZ with Outer:=up (ix l m mZ).Outer p ⟨q+1,0⟩},rfl⟩;have x:=zTj (fun s=>ieq s.Page q) v (⟨q+1,0⟩:Slot) sZ;simp only[z,show ieq q q=true by simp[ieq],show ieq (q+1) q=false by simp[ieq];omega,if_true,j9,if_false] at x;have C:=zAq b y q;simp only[cPg,r] at C;have D:zfi (up l m y) q=0:=(by omega);apply Classical.byContradiction;intro A;have w:1<=zfi (up l m y) q:=(by by_cases a:m=n;{subst a;have j:p≠k:=fun e=>A ⟨rfl,e⟩;have:=zJY (l:=up l m y) (m:=m) (p:=k) (by rw[zdV];exact b) (by rw[zbf b,r,zdV];exact f);rw[zbf b,r,zbt i.1 g.1 j,t] at this;exact this};{have:=zJY (l:=up l m y) (m:=n) (p:=k) (by rw[zdV];exact u) (by rw[zbt c.1 d.1 a];exact f);rw[zbt c.1 d.1 a,t] at this;exact this});omega
theorem zuU {a b c:Bool}:(cond a b c)=true↔(a=true/\b=true)\/(a=false/\c=true):=by cases a<;>simp
def SOk (s:Slot):Prop:=s=noSlot\/(0<=s.Page/\s.Page<=11/\1<=s.Rights/\s.Rights<=3)
theorem zZD {a b:Slot}(c:a.Page=b.Page)(d:a.Rights=b.Rights):a=b:=by cases a;cases b;simp_all
theorem zqg {a b:Slot}:zc4 a b=true↔a=b:=by simp only[zc4,qE,zbo];exact⟨fun h=>zZD h.1 h.2,fun h=>by rw[h];exact⟨rfl,rfl⟩⟩
theorem zsO {a b:Slot}:zc4 a b=false↔a≠b:=by rw[<- uZ,zqg]
theorem z2U {s:Slot}:zdQ s 12=true↔SOk s:=by unfold zdQ SOk;rw[zuU,zqg,zsO];have:wsub .i64 12 1=11:=(by decide);simp only[this,zuU,zcD];simp[igt];constructor;{rintro (h|⟨h,⟨a,b⟩,c⟩);{exact .inl h};{exact .inr ⟨a,b,c⟩}};{intro h;by_cases d:s=noSlot;{exact .inl d};{rcases h with h|⟨a,b,c⟩;{exact .inl h};{exact .inr ⟨d,⟨a,b⟩,c⟩}}}
theorem SOk.none {s:Slot}(h:SOk s)(a:s.Page = -1):s=noSlot:=by rcases h with h|h;{exact h};{omega}
theorem SOk.pos {s:Slot}(h:SOk s)(a:s.Page≠-1):0<=s.Page/\s.Page<=11/\1<=s.Rights/\s.Rights<=3:=by rcases h with h|h;{rw [h]at a;exact absurd rfl a};{exact h}
structure MOk (x:Mon):Prop where
 g1:1<=x.Guests.length
 g2:x.Guests.length<=2
 gt:x.Tables.length=x.Guests.length
 o8:x.Outer.length=8
 sl:∀s∈x.Outer,SOk s
 u8:x.Out.length=8
 d8:x.Dirty.length=8
 outs:x.Outs.length<=40
 pend:zc3 x.Pending=true
 tr:win x.Traps 0 3=true
 own:win x.Own 0 1000000000=true
 gs:∀g∈x.Guests,zdd g=true
 fit:∀p,hasB p 8=true->zmh (ix x.Outer p sZ) (ix x.Out p [])=true
theorem zWv {P:Nat->Bool}:∀{n i:Nat},zoG P n i=true↔∀j,i<=j->j<i+n->P j=true
 | 0,i=>by simp[zoG];intro j a b;omega
 |n+1,i=>by rw[zoG,qE,zWv];constructor;{rintro⟨a,b⟩ j c d;by_cases e:j=i;{rw [e];exact a};{exact b j (by omega) (by omega)}};{intro h;exact⟨h i (by omega) (by omega),fun j a b=>h j (by omega) (by omega)⟩}
theorem zsh {t:List Slot}{n p:Int}:zc1 t n p=true↔(∀s∈t,zdQ s p=true)/\ln t=n:=by unfold zc1;rw[zcg,qM,zbo]
theorem zbdG {x:Mon}:zef x=true↔MOk x:=by unfold zef;simp only[zcg,zcD,zbo,zsh,zWv,qM,ile,q0];constructor;{rintro⟨⟨g,i⟩,m,⟨k,l⟩,n,q,r,e,a,b,c,d⟩;unfold ln at *;refine⟨by omega,by omega,by omega,by omega,fun s f=>z2U.1 (k s f),by omega,by omega,by omega,e,zcD.2 a,zcD.2 b,c,fun p t=>?_⟩;have u:=zI.1 t;have:=d p.toNat (by omega) (by omega);unfold fits at this;rwa [show ((p.toNat:Nat):Int)=p by omega] at this};{intro h;obtain⟨g,i,m,k,l,n,q,r,e,a,b,c,d⟩:=h;unfold ln;exact⟨⟨by omega,by omega⟩,by omega,⟨fun s f=>z2U.2 (l s f),by omega⟩,by omega,by omega,by omega,e,zcD.1 a,zcD.1 b,c,fun j g i=>d (j:Int) (zI.2 (by omega))⟩}
theorem zAL (o:List Slot)(s:Slot)(q:Int):(s::o).countP (fun s=>ieq s.Page q)=o.countP (fun s=>ieq s.Page q)+if s.Page=q then 1 else 0:=by rw[vE];simp[ieq]
theorem zB3:∀{o:List Slot} {u:List Bool},(∀s∈o,s.Page<u.length)->
 (∀c,zgY o u=some c↔(∀q,0<=q->o.countP (fun s=>ieq s.Page q)+(if ix u q false then 1 else 0)<=1)/\
  c=(o.foldl (fun u s=>bif ilt s.Page 0 then u else up u s.Page true) u))
 |[],u,h,c=>by simp[zgY];exact⟨fun h=>⟨fun q _=>by split<;>omega,h.symm⟩,fun h=>h.2.symm⟩
 |s::o,u,h,c=>by
  unfold zgY;by_cases g:s.Page<0;{have b:ilt s.Page 0=true:=qJ g;rw[b,cond_true,zB3 (fun y d=>h y (qX _ d))];simp only[uH,b,cond_true];refine and_congr (forall_congr' fun q=>forall_congr' fun f=>?_) Iff.rfl;have e:(if s.Page=q then 1 else 0)=0:=if_neg (by omega);rw[zAL,e,jU]};{have b:ilt s.Page 0=false:=qH g;have k:=h s jA;have j:hasB s.Page (ln u)=true:=zI.2 ⟨by omega,by unfold ln;omega⟩;rw[b,cond_false];cases i:ix u s.Page false with|true=>rw[cond_true];constructor;{intro h;cases h};{rintro⟨h,_⟩;have:=h s.Page (by omega);rw[zAL,if_pos rfl,i] at this;simp at this}|false=>rw[cond_false,zB3 (fun y d=>by rw[zbN];exact h y (qX _ d))];simp only[uH,b,cond_false];refine and_congr (forall_congr' fun q=>forall_congr' fun f=>?_) Iff.rfl;rw[zAL];by_cases a:s.Page=q;{subst a;rw[zbf j,i];simp};{rw [zbt (by omega) f a,if_neg a,jU]}}
theorem zLW:∀(o:List Slot) (u:List Bool),(o.foldl (fun u s=>bif ilt s.Page 0 then u else up u s.Page true) u).length=u.length
 |[],u=>rfl
 |s::o,u=>by rw[uH,zLW];cases ilt s.Page 0<;>simp [zbN]
theorem zSH:∀(o:List Slot) (u:List Bool) (q:Int),0<=q->(∀s∈o,s.Page<u.length)->(ix (o.foldl (fun u s=>bif ilt s.Page 0 then u else up u s.Page true) u) q false=true↔ix u q false=true\/1<=o.countP (fun s=>ieq s.Page q))
 |[],u,q,b,h=>by simp
 |s::o,u,q,b,h=>by
  rw[uH,zSH _ _ q b (fun y f=>by have:=h y (qX _ f);cases ilt s.Page 0<;>simpa [zbN] using this),zAL];by_cases c:s.Page<0;{rw [show ilt s.Page 0=true from qJ c,cond_true,if_neg (by omega),jU]};{rw [show ilt s.Page 0=false from qH c,cond_false];have e:=h s jA;have d:hasB s.Page (ln u)=true:=zI.2 ⟨by omega,by unfold ln;omega⟩;by_cases a:s.Page=q;{subst a;rw[zbf d];simp};{rw [zbt (by omega) b a,if_neg a,jU]}}
theorem zA5:∀{l:List Mon} {u:List Bool},u.length=12->(ziX l u=true↔(∀x∈l,MOk x)/\∀q,0<=q->zfi l q+(if l≠[]/\ix u q false then 1 else 0)<=1)
 |[],u,c=>by simp[ziX,zfi]
 |x::l,u,c=>by
  unfold ziX;rw[zcg,zbdG];constructor;{rintro⟨f,b⟩;have k:∀s∈x.Outer,s.Page<u.length:=fun s n=>(by rcases f.sl s n with h|h;{rw [h,c];decide};{rw [c];omega});split at b;{rename_i B d;obtain⟨g,rfl⟩:=(zB3 k B).1 d;rw[zA5 (by rw[zLW,c])]at b;obtain⟨v,w⟩:=b;refine⟨by simpa using ⟨f,v⟩,fun q a=>?_⟩;have z:=g q a;have i:=w q a;have m:=zSH x.Outer u q a k;simp only[zfi,jB,uE]at i ⊢;unfold cPg at i ⊢;simp only[ne_eq,reduceCtorEq,not_false_eq_true,true_and];by_cases r:l=[];{subst r;simpa using z};{simp only [r,ne_eq,not_false_eq_true,true_and]at i;by_cases j:ix (x.Outer.foldl (fun u s=>bif ilt s.Page 0 then u else up u s.Page true) u) q false=true;{rw [if_pos j]at i;omega};{rw [if_neg j]at i;have p:¬ (ix u q false=true\/1<=x.Outer.countP (fun s=>ieq s.Page q)):=fun e=>j (m.2 e);rw[not_or]at p;rw[if_neg p.1];omega}}};{cases b}}
  .rintro⟨f,b⟩;have t:MOk x:=f x jA;refine⟨t,?_⟩;have k:∀s∈x.Outer,s.Page<u.length:=fun s n=>by rcases t.sl s n with h|h;{rw [h,c];decide};{rw [c];omega}
   have d:=(zB3 k _).2 ⟨fun q a=>by
    have:=b q a;simp only[zfi,jB,uE,ne_eq,reduceCtorEq,not_false_eq_true,true_and] at this;unfold cPg at this;omega,rfl⟩
   rw[d];simp only;rw[zA5 (by rw[zLW,c])];refine⟨fun y A=>f y (qX _ A),fun q a=>?_⟩;have g:=b q a;have m:=zSH x.Outer u q a k;simp only[zfi,jB,uE,ne_eq,reduceCtorEq,not_false_eq_true,true_and]at g ⊢;unfold cPg at g ⊢;split;{rename_i j;rcases m.1 j.2 with h|h;{rw [if_pos h]at g;omega};{omega}};{omega}
structure HOk (h:Host):Prop where
 m12:h.Memory.length=12
 pgs:∀c∈h.Memory,zco c=true
 n1:1<=h.Mons.length
 n3:h.Mons.length<=3
 b1:zfg h.Buffer=true
 b2:zfg h.IoBuffer=true
 mons:∀x∈h.Mons,MOk x
 uq:∀q,0<=q->zfi h.Mons q<=1
theorem zky {h:Host}:zce h=true↔HOk h:=by unfold zce zhT;simp only[zcg,zcD,zbo,qM];rw[zA5 (by simp[rp])];have g:∀q,ix (rp 12 false) q false=false:=fun q=>(by unfold ix rp;rw[j5,kA];split<;>rfl);simp only[g,j9,and_false,if_false,jU];unfold ln;constructor;{rintro⟨⟨e,f⟩,⟨i,j⟩,a,b,c,d⟩;exact⟨by omega,e,by omega,by omega,a,b,c,d⟩};{rintro⟨e,f,i,j,a,b,c,d⟩;exact⟨⟨f,by omega⟩,⟨by omega,by omega⟩,a,b,c,d⟩}
theorem HOk.mon {h:Host}(H:HOk h){m:Int}(a:hasB m (ln h.Mons)=true):MOk (ix h.Mons m mZ):=H.mons _ (zkW a _)
theorem MOk.hasO {x:Mon}(H:MOk x){p:Int}(a:hasB p 8=true):hasB p (ln x.Outer)=true:=by rw[ln,H.o8];exact a
theorem MOk.hasU {x:Mon}(H:MOk x){p:Int}(a:hasB p 8=true):hasB p (ln x.Out)=true:=by rw[ln,H.u8];exact a
theorem MOk.hasD {x:Mon}(H:MOk x){p:Int}(a:hasB p 8=true):hasB p (ln x.Dirty)=true:=by rw[ln,H.d8];exact a
theorem MOk.slot {x:Mon}(H:MOk x){p:Int}(a:hasB p 8=true):SOk (ix x.Outer p sZ):=H.sl _ (zkW (H.hasO a) _)
theorem HOk.uniq {h:Host}(H:HOk h){m p n k q:Int}(a:hasB m (ln h.Mons)=true)(f:hasB p 8=true)(b:hasB n (ln h.Mons)=true)(e:hasB k 8=true)(c:(ix (ix h.Mons m mZ).Outer p sZ).Page=q)(d:(ix (ix h.Mons n mZ).Outer k sZ).Page=q)(g:0<=q):m=n/\p=k :=
 z8S a ((H.mon a).hasO f) b ((H.mon b).hasO e) c d (H.uq q g)
theorem HOk.up {h:Host}(H:HOk h){m:Int}(k:hasB m (ln h.Mons)=true){x:Mon}(l:MOk x){a:Host}(e:a.Mons=up h.Mons m x)(d:a.Memory.length=12)(f:∀c∈a.Memory,zco c=true)(i:zfg a.Buffer=true)(j:zfg a.IoBuffer=true)(n:∀q,0<=q->cPg x q<=cPg (ix h.Mons m mZ) q\/zfi h.Mons q=0/\cPg x q<=1):HOk a:=by refine⟨d,f,by rw[e,zbN];exact H.n1,by rw[e,zbN];exact H.n3,i,j,fun y b=>?_,fun q g=>?_⟩;{rw [e]at b;unfold E.up at b;rcases qW b with h|h;{exact H.mons y h};{rw [h];exact l}};{rw [e];have p:=zAq k x q;have r:=H.uq q g;have s:=n q g;omega}
structure KOk (k:Kept) (inner outer:List Slot):Prop where
 l1:k.Known.length=inner.length
 l2:k.Slots.length=inner.length
 at':∀i,hasB i (ln inner)=true->ix k.Slots i sZ=bif ix k.Known i false then zbr (ix inner i sZ) outer else noSlot
def TOk (x:Mon):Prop:=∀g,hasB g (ln x.Guests)=true->KOk (ix x.Tables g kZ) (ix x.Guests g gZ).Live x.Outer
structure Rt (h:Host):Prop where
 t:∀m,hasB m (ln h.Mons)=true->TOk (ix h.Mons m mZ)
 e1:∀e∈h.Buffer,zc8 h e=true
 e2:∀e∈h.IoBuffer,zc8 h e=true
structure Safe (h:Host):Prop where
 ok:HOk h
 rt:Rt h
theorem zsk {a b:Slot}:below' a b=true↔a=noSlot\/(a.Page=b.Page/\enough b.Rights a.Rights=true):=by unfold below';rw[zuU,zqg,zsO,zcg,zbo];by_cases h:a=noSlot<;>simp [h]
theorem z8G (x:Int):wand .i64 0 x=0:=by unfold wand;have:(BitVec.ofInt 64 0 &&& BitVec.ofInt 64 x)=0#64:=(by rw[show BitVec.ofInt 64 0=0#64 from rfl,BitVec.zero_and]);show IntKind.wrap .i64 ((BitVec.ofInt 64 0 &&& BitVec.ofInt 64 x).toNat:Int)=0;rw[this];rfl
theorem z8R {a:Slot}(h:below' a noSlot=true):a=noSlot:=by rcases zsk.1 h with h|⟨c,b⟩;{exact h};{refine zZD c ?_;unfold enough at b;rw[show noSlot.Rights=0 from rfl,z8G]at b;simp only[zcg,zbo]at b;exact b.2.2.symm}
theorem zfP {h:Host}{e:Entry}:zc8 h e=true↔hasB (zdF e.Tag) (ln h.Mons)=true/\hasB (zer e.Tag) (ln (ix h.Mons (zdF e.Tag) mZ).Guests)=true/\
 below' ⟨e.Host,e.Rights⟩ (zbr (zbu (ix (ix h.Mons (zdF e.Tag) mZ).Guests (zer e.Tag) gZ).Live e.Page) (ix h.Mons (zdF e.Tag) mZ).Outer)=true:=by
 unfold zc8;rw[zcg,zcg]
theorem zUa {o:List Slot}{p q:Int}{s:Slot}(a:0<=p)(h:q≠p):zbu (up o p s) q=zbu o q:=by unfold zbu;rw[zdV];cases b:hasB q (ln o) with|false=>rfl|true=>rw[cond_true,cond_true,zbt a (zI.1 b).1 (Ne.symm h)]
theorem zM7 {s:Slot}{o:List Slot}{p:Int}{t:Slot}(a:0<=p)(h:s.Page≠p):zbr s (up o p t)=zbr s o:=by unfold zbr;rw[zUa a h]
theorem z3C {s:Slot}{o:List Slot}:zbr s o=noSlot\/(zbr s o).Page=(zbu o s.Page).Page:=by unfold zbr;cases ieq s.Page (-1)<;>cases ieq (zbu o s.Page).Page (-1)<;>cases ieq (zdv s.Rights (zbu o s.Page).Rights) 0<;>simp
theorem zla (k:Kept)(q:Int):(zbY k q).Known.length=k.Known.length/\(zbY k q).Slots.length=k.Slots.length:=by unfold zbY;cases zdr k q<;>simp [zbN]
theorem zCs:∀(l:List Int) (k:Kept),(zeI k l).Known.length=k.Known.length/\(zeI k l).Slots.length=k.Slots.length
 |[],k=>⟨rfl,rfl⟩
 |q::l,k=>by have a:=zCs l (zbY k q);have b:=zla k q;exact⟨a.1.trans b.1,a.2.trans b.2⟩
theorem zyg {k:Kept}{q i:Int}(d:k.Known.length=k.Slots.length)(b:hasB i (ln k.Known)=true) :
 ix (zbY k q).Known i false=(cond (ieq q i) false (ix k.Known i false))/\ix (zbY k q).Slots i sZ=(cond (ieq q i) noSlot (ix k.Slots i sZ)):=by
 have c:hasB i (ln k.Slots)=true:=by unfold ln at b ⊢;rwa [<- d]
 unfold zbY zdr
 by_cases e:q=i
 .subst e;simp only[b,c,cond_true,ieq,beq_self_eq_true];exact⟨zbf b _ _,zbf c _ _⟩
 .rw [show ieq q i=false from zbT.2 e]
  by_cases a:hasB q (ln k.Known)=true
  .have hq':hasB q (ln k.Slots)=true:=by unfold ln at a ⊢;rwa [<- d]
   simp only[a,hq',cond_true,cond_false];exact⟨zbt (zI.1 a).1 (zI.1 b).1 e _ _,zbt (zI.1 a).1 (zI.1 b).1 e _ _⟩
  .rw [uZ]at a;simp[a]
theorem zEF:∀(l:List Int) {k:Kept} {i:Int},k.Known.length=k.Slots.length->hasB i (ln k.Known)=true->
 (i∈l->ix (zeI k l).Known i false=false/\ix (zeI k l).Slots i sZ=noSlot)/\
 (i∉l->ix (zeI k l).Known i false=ix k.Known i false/\ix (zeI k l).Slots i sZ=ix k.Slots i sZ)
 |[],k,i,d,c=>⟨fun h=>by simp at h,fun _=>⟨rfl,rfl⟩⟩
 |q::l,k,i,d,c=>by have b:=zla k q;have g:=zyg (q:=q) d c;have f:=zEF l (k:=zbY k q) (i:=i) (by rw[b.1,b.2,d]) (by unfold ln at c ⊢;rwa [b.1]);show (_->ix (zeI (zbY k q) l).Known i false=_/\ix (zeI (zbY k q) l).Slots i sZ=_)/\(_->ix (zeI (zbY k q) l).Known i false=_/\ix (zeI (zbY k q) l).Slots i sZ=_);by_cases a:i∈l;{refine⟨fun _=>f.1 a,fun h=>absurd (qX _ a) h⟩};{rw [(f.2 a).1,(f.2 a).2,g.1,g.2];by_cases e:q=i;{subst e;simp[ieq]};{rw [zbT.2 e];simp[a,Ne.symm e]}}
theorem zK7 {e:Type}{P:e->Bool}{d:e}:∀{l:List e} {n:Nat} {i:Int},i∈idxs P l n↔∃k:Nat,∃h:k<l.length,i=((n+k:Nat):Int)/\P l[k]=true
 |[],n,i=>by simp[idxs]
 |x::l,n,i=>by
  have g:=@zK7 e P d l (n+1) i;unfold idxs;constructor
  .intro h;cases f:P x with
   |true=>rw[f,cond_true,qG]at h;rcases h with h|h;{exact⟨0,by simp,by simpa using h,f⟩};{obtain⟨k,c,b,a⟩:=g.1 h;exact⟨k+1,by simpa using c,by rw[b];congr 1;omega,by simpa using a⟩}
   |false=>rw[f,cond_false]at h;obtain⟨k,c,b,a⟩:=g.1 h;exact⟨k+1,by simpa using c,by rw[b];congr 1;omega,by simpa using a⟩
  {rintro⟨k,c,b,a⟩;cases k with|zero=>simp only[List.getElem_cons_zero]at a;rw[a,cond_true,b];exact jA|succ k=>have:=g.2 ⟨k,by simpa using c,by rw[b];congr 1;omega,by simpa using a⟩;cases P x;{exact this};{exact qX _ this}}
theorem z0n {l:List Slot}{p i:Int}:i∈zGE l p↔hasB i (ln l)=true/\(ix l i sZ).Page=p:=by unfold zGE;rw[zK7 (d:=sZ)];constructor;{rintro⟨k,a,rfl,c⟩;rw[jX,zm3 a];exact⟨zI.2 (by unfold ln;omega),zbo.1 c⟩};{rintro⟨a,b⟩;obtain⟨k,f,rfl,e⟩:=zBq a sZ;exact⟨k,f,by simp,by rw[e]at b;exact zbo.2 b⟩}
theorem z4u {k:Kept}{a b:List Slot}(h:KOk k a b){p:Int}(j:0<=p)(s:Slot):KOk (zic k a p) a (up b p s):=by have g:=zCs (zGE a p) k;refine⟨g.1.trans h.l1,g.2.trans h.l2,fun i d=>?_⟩;have e:hasB i (ln k.Known)=true:=(by unfold ln at d ⊢;rwa [h.l1]);have f:=zEF (zGE a p) (by rw[h.l1,h.l2]) e;unfold zic;by_cases c:(ix a i sZ).Page=p;{have:=f.1 (z0n.2 ⟨d,c⟩);rw[this.1,this.2];rfl};{have:=f.2 (fun h=>c (z0n.1 h).2);rw[this.1,this.2,h.at' i d,zM7 j c]}
theorem zGx (b:List Guest)(p:Int):∀(n:Nat) (a:List Kept),(zlP b p n a).length=a.length
 | 0,a=>rfl
 |n+1,a=>by rw[zlP,zbN,zGx b p n]
theorem zSr (b:List Guest)(p:Int):∀(n:Nat) (a:List Kept),n<=a.length->∀i,0<=i->ix (zlP b p n a) i kZ=if i<n then zic (ix a i kZ) (ix b i gZ).Live p else ix a i kZ
 | 0,a,_,i,c=>by rw[if_neg (by omega)];rfl
 |n+1,a,d,i,c=>by rw[zlP];by_cases e:i=n;{subst e;rw[zbf (by rw[ln,zGx];exact zI.2 (by omega)),if_pos (by omega),zSr b p n a (by omega) _ c,if_neg (by omega)]};{rw [zbt (by omega) c (Ne.symm e),zSr b p n a (by omega) i c];by_cases h:i<n;{rw [if_pos h,if_pos (by omega)]};{rw [if_neg h,if_neg (by omega)]}}
def zj7 (x:Mon)(p:Int)(s:Slot):Mon:={zkR x p x.Tables.length with Outer:=up x.Outer p s}
theorem z8r {x:Mon}(h:TOk x)(c:x.Tables.length=x.Guests.length){p:Int}(b:0<=p)(s:Slot):TOk (zj7 x p s):=by intro g hg;have a:hasB g (ln x.Guests)=true:=hg;show KOk (ix (zlP x.Guests p x.Tables.length x.Tables) g kZ) (ix x.Guests g gZ).Live (up x.Outer p s);rw[zSr _ _ _ _ (qY _) _ (zI.1 a).1,if_pos (by have:=zI.1 a;unfold ln at this;omega)];exact z4u (h g a) b s
theorem ztD (h:Host)(m p:Int)(s:Slot):(zcp h m p s).Mons=up h.Mons m (zj7 (ix h.Mons m mZ) p s):=by unfold zcp;cases ine (ix (ix h.Mons m zh).Outer p zW).Page (-1)<;>rfl
theorem zyN (h:Host)(m p:Int)(s:Slot):(zcp h m p s).Memory=h.Memory:=by unfold zcp;cases ine (ix (ix h.Mons m zh).Outer p zW).Page (-1)<;>rfl
theorem zUc (h:Host)(m p:Int)(s:Slot):(zcp h m p s).Buffer=(cond (ieq (ix (ix h.Mons m mZ).Outer p sZ).Page (-1)) h.Buffer (flushed h.Buffer (ix (ix h.Mons m mZ).Outer p sZ).Page))/\
 (zcp h m p s).IoBuffer=(cond (ieq (ix (ix h.Mons m mZ).Outer p sZ).Page (-1)) h.IoBuffer (flushed h.IoBuffer (ix (ix h.Mons m mZ).Outer p sZ).Page)):=by
 unfold zcp
 by_cases e:(ix (ix h.Mons m zh).Outer p zW).Page = -1
 .rw [show ine (ix (ix h.Mons m zh).Outer p zW).Page (-1)=false by simp[ine,e],show ieq (ix (ix h.Mons m mZ).Outer p sZ).Page (-1)=true from zbo.2 e]
  exact⟨rfl,rfl⟩
 .rw [show ine (ix (ix h.Mons m zh).Outer p zW).Page (-1)=true from zmc.2 e,show ieq (ix (ix h.Mons m mZ).Outer p sZ).Page (-1)=false from zbT.2 e]
  exact⟨rfl,rfl⟩
theorem zNd {h k:Host}{m p:Int}{s:Slot}(n:hasB m (ln h.Mons)=true)(q:hasB p (ln (ix h.Mons m mZ).Outer)=true){x:Mon}(u:k.Mons=up h.Mons m x)(t:x.Guests=(ix h.Mons m mZ).Guests)(v:x.Outer=up (ix h.Mons m mZ).Outer p s){e:Entry}(w:zc8 h e=true)(c:(ix (ix h.Mons m mZ).Outer p sZ).Page = -1\/e.Host≠(ix (ix h.Mons m mZ).Outer p sZ).Page):zc8 k e=true:=by obtain⟨f,g,b⟩:=zfP.1 w;rw[zfP,u,zdV];refine⟨f,?_⟩;by_cases l:m=zdF e.Tag;{rw [<- l]at f g b ⊢;rw[zbf n,t,v];refine⟨g,?_⟩;by_cases j:(zbu (ix (ix h.Mons m mZ).Guests (zer e.Tag) gZ).Live e.Page).Page=p;{have a:zbr (zbu (ix (ix h.Mons m mZ).Guests (zer e.Tag) gZ).Live e.Page) (ix h.Mons m mZ).Outer=noSlot\/e.Host≠(zbr (zbu (ix (ix h.Mons m mZ).Guests (zer e.Tag) gZ).Live e.Page) (ix h.Mons m mZ).Outer).Page:=(by rcases z3C (s:=zbu (ix (ix h.Mons m mZ).Guests (zer e.Tag) gZ).Live e.Page) (o:=(ix h.Mons m mZ).Outer) with d|d;{exact .inl d};{rw [j]at d;have r:zbu (ix h.Mons m mZ).Outer p=ix (ix h.Mons m mZ).Outer p sZ:=(by unfold zbu;rw[q];rfl);rw[r]at d;rcases c with c|c;{left;unfold zbr;rw[j,r,c,show ieq (-1) (-1)=true from rfl];cases ieq p (-1)<;>rfl};{exact .inr (by rw[d];exact c)}});have i:(⟨e.Host,e.Rights⟩:Slot)=noSlot:=(by rcases a with a|a;{rw [a]at b;exact z8R b};{rcases zsk.1 b with h|h;{exact h};{exact absurd h.1 a}});rw[i];exact zsk.2 (.inl rfl)};{rw [zM7 (zI.1 q).1 j];exact b}};{rw [zbt (zI.1 n).1 (zI.1 f).1 l];exact⟨g,b⟩}
theorem zBD {h:Host}(H:Rt h){m p:Int}(d:hasB m (ln h.Mons)=true)(q:hasB p (ln (ix h.Mons m mZ).Outer)=true)(u:(ix h.Mons m mZ).Tables.length=(ix h.Mons m mZ).Guests.length)(s:Slot):Rt (zcp h m p s):=by have c:=zUc h m p s;have i:=ztD h m p s;have f:∀(b:List Entry),(∀e∈b,zc8 h e=true)->∀e∈(cond (ieq (ix (ix h.Mons m mZ).Outer p sZ).Page (-1)) b (flushed b (ix (ix h.Mons m mZ).Outer p sZ).Page)),zc8 (zcp h m p s) e=true:=(by intro b c e a;by_cases n:(ix (ix h.Mons m mZ).Outer p sZ).Page = -1;{rw [zbo.2 n,cond_true]at a;exact zNd d q i rfl rfl (c e a) (.inl n)};{rw [zbT.2 n,cond_false]at a;obtain⟨j,l⟩:=List.mem_filter.1 a;exact zNd d q i rfl rfl (c e j) (.inr (by simpa [ieq] using l))});refine⟨fun k g=>?_,fun e a=>f _ H.e1 e (by rwa [c.1]at a),fun e a=>f _ H.e2 e (by rwa [c.2]at a)⟩;rw[i]at g ⊢;rw[zdV]at g;by_cases r:m=k;{subst r;rw[zbf d];exact z8r (H.t m d) u (zI.1 q).1 s};{rw [zbt (zI.1 d).1 (zI.1 g).1 r];exact H.t k g}
theorem zTc:∀(l a:List Entry),allI (alone (a++l)) l a.length=true↔(∀x∈l,∀y∈a,sameKey x y=false)/\l.Pairwise (fun y x=>sameKey x y=false)
 |[],a=>by simp[allI]
 |x::l,a=>by have g:=zTc l (a++[x]);rw[j6,List.singleton_append,j8,k6] at g;rw[allI,qE,g,List.pairwise_cons];have h:alone (a++x::l) a.length x=true↔∀y∈a,sameKey x y=false:=(by unfold alone;rw[kK rfl,qM];simp);rw[h];constructor;{rintro⟨d,e,f⟩;refine⟨fun z c y b=>?_,fun z c=>e z c x (by simp),f⟩;rcases qG.1 c with rfl|c;{exact d y b};{exact e z c y (by simp[b])}};{rintro⟨d,e,f⟩;refine⟨fun y b=>d x (by simp) y b,fun z c y b=>?_,f⟩;rcases jG.1 b with b|b;{exact d z (by simp[c]) y b};{rw [qF.1 b];exact e z c}}
theorem zGJ {l:List Entry}:zfg l=true↔l.Pairwise (fun y x=>sameKey x y=false)/\l.length<=6:=by unfold zfg;have:=zTc l [];simp only[jS,uF] at this;have a:ile (ln l) 6=true↔l.length<=6:=(by rw[ile,q0,ln];omega);rw[zcg,this,a];simp
theorem zAK {l:List Entry}(h:zfg l=true)(P:Entry->Bool):zfg (l.filter P)=true:=by rw[zGJ]at h ⊢;exact⟨h.1.sublist List.filter_sublist,qU (k7 _ _) h.2⟩
theorem zIR {l:List Entry}(h:zfg l=true)(p:Int):zfg (flushed l p)=true:=zAK h _
theorem zWE {x x':Mon}{p:Int}(a:hasB p (ln x.Outer)=true){s:Slot}(h:x'.Outer=up x.Outer p s)(q:Int):cPg x' q+(if (ix x.Outer p sZ).Page=q then 1 else 0)=cPg x q+(if s.Page=q then 1 else 0):=by have:=zTj (fun s=>ieq s.Page q) a s sZ;simp only[zbo] at this;unfold cPg;rw[h];exact this
theorem zqy {s:Slot}(d:SOk s){c:List Int}:zmh s c=true↔(s.Page = -1->zco c=true)/\(s.Page≠-1->enough s.Rights 1=true/\c=[]):=by unfold zmh;by_cases e:s=noSlot;{rw [zqg.2 e,cond_true,e];simp[noSlot]};{rw [zsO.2 e,cond_false,zcg];have:s.Page≠-1:=fun h=>e (d.none h);have b:ile (ln c) 0=true↔c=[]:=(by rw[ile,q0,ln,<- uP];omega);rw[b];exact⟨fun h=>⟨fun a=>absurd a this,fun _=>h⟩,fun h=>h.2 this⟩}
structure Chg (x x':Mon) (p:Int) (s:Slot) (c:List Int):Prop where
 o:x'.Outer=up x.Outer p s
 u:x'.Out=up x.Out p c
 g:x'.Guests=x.Guests
 t:x'.Tables.length=x.Tables.length
 d:x'.Dirty.length=x.Dirty.length
 a1:x'.Outs=x.Outs
 a2:x'.Pending=x.Pending
 a3:x'.Traps=x.Traps
 a4:x'.Own=x.Own
theorem MOk.chg {x i:Mon}(H:MOk x){p:Int}(a:hasB p 8=true){s:Slot}{c:List Int}(k:Chg x i p s c)(l:SOk s)(j:zmh s c=true):MOk i:=by refine⟨by rw[k.g];exact H.g1,by rw[k.g];exact H.g2,by rw[k.t,k.g];exact H.gt,by rw[k.o,zbN];exact H.o8,fun y f=>?_,by rw[k.u,zbN];exact H.u8,by rw[k.d];exact H.d8,by rw[k.a1];exact H.outs,by rw[k.a2];exact H.pend,by rw[k.a3];exact H.tr,by rw[k.a4];exact H.own,by rw[k.g];exact H.gs,fun q b=>?_⟩;{rw [k.o]at f;rcases qW f with h|h;{exact H.sl y h};{rw [h];exact l}};{rw [k.o,k.u];by_cases e:p=q;{subst e;rw[zbf (H.hasO a),zbf (H.hasU a)];exact j};{rw [zbt (zI.1 a).1 (zI.1 b).1 e,zbt (zI.1 a).1 (zI.1 b).1 e];exact H.fit q b}}
structure Like (h r:Host):Prop where
 len:r.Mons.length=h.Mons.length
 g:∀i,hasB i (ln h.Mons)=true->(ix r.Mons i mZ).Guests=(ix h.Mons i mZ).Guests
 o:∀i,hasB i (ln h.Mons)=true->(ix r.Mons i mZ).Outs=(ix h.Mons i mZ).Outs
 p:∀i,hasB i (ln h.Mons)=true->(ix r.Mons i mZ).Pending=(ix h.Mons i mZ).Pending
 tr:∀i,hasB i (ln h.Mons)=true->(ix r.Mons i mZ).Traps=(ix h.Mons i mZ).Traps
 ow:∀i,hasB i (ln h.Mons)=true->(ix r.Mons i mZ).Own=(ix h.Mons i mZ).Own
 pg:∀i k,hasB i (ln h.Mons)=true->hasB k 8=true->zcM r i k=zcM h i k
theorem Like.refl (h:Host):Like h h:=⟨rfl,fun _ _=>rfl,fun _ _=>rfl,fun _ _=>rfl,fun _ _=>rfl,fun _ _=>rfl,fun _ _ _ _=>rfl⟩
theorem Like.trans {a b c:Host}(x:Like a b)(y:Like b c):Like a c:=by have k:∀i,hasB i (ln a.Mons)=true->hasB i (ln b.Mons)=true:=fun i e=>(by unfold ln at e ⊢;rwa [x.len]);exact⟨y.len.trans x.len,fun i h=>(y.g i (k i h)).trans (x.g i h),fun i h=>(y.o i (k i h)).trans (x.o i h),fun i h=>(y.p i (k i h)).trans (x.p i h),fun i h=>(y.tr i (k i h)).trans (x.tr i h),fun i h=>(y.ow i (k i h)).trans (x.ow i h),fun i q h d=>(y.pg i q (k i h) d).trans (x.pg i q h d)⟩
theorem Like.has {h r:Host}(k:Like h r){i:Int}:hasB i (ln r.Mons)=hasB i (ln h.Mons):=by unfold ln;rw[k.len]
theorem zrG {h r:Host}{m:Int}:∀(n i:Nat),(∀k:Nat,i<=k->k<i+n->zcM r m (k:Int)=zcM h m (k:Int))->zcz r m n i=zcz h m n i
 | 0,i,_=>rfl
 |n+1,i,h=>by rw[zcz,zcz,h i (by omega) (by omega),zrG n (i+1) (fun k a b=>h k (by omega) (by omega))]
theorem Like.seen {h r:Host}(k:Like h r)(m:Int):zG r m=zG h m:=by unfold zG;rw[k.has];cases a:hasB m (ln h.Mons) with|false=>rfl|true=>simp only[cond_true];rw[k.g m a,k.o m a,k.p m a,zrG 8 0 (fun j b c=>k.pg m j a (zI.2 (by omega)))]
theorem zos {h:Host}{m p:Int}(a:hasB m (ln h.Mons)=true)(c:hasB p 8=true)(b:hasB p (ln (ix h.Mons m mZ).Outer)=true) :
 zcM h m p=bif ieq (ix (ix h.Mons m mZ).Outer p sZ).Page (-1) then zcv (ix h.Mons m mZ).Out p else zcv h.Memory (ix (ix h.Mons m mZ).Outer p sZ).Page:=by
 unfold zcM;have:zbu (ix h.Mons m mZ).Outer p=ix (ix h.Mons m mZ).Outer p sZ:=by unfold zbu;rw[b];rfl
 rw[a,c,cond_true,cond_true,this]
 by_cases e:(ix (ix h.Mons m mZ).Outer p sZ).Page = -1
 .rw [zbo.2 e,show ine (ix (ix h.Mons m mZ).Outer p sZ).Page (-1)=false by simp[ine,e]];rfl
 .rw [zbT.2 e,show ine (ix (ix h.Mons m mZ).Outer p sZ).Page (-1)=true from zmc.2 e];rfl
theorem zlt {m:List (List Int)}{p:Int}(h:hasB p (ln m)=true):zcv m p=ix m p []:=by unfold zcv;rw[h];rfl
theorem zTR {m:List (List Int)}(h:∀c∈m,zco c=true)(p:Int):zco (zcv m p)=true:=by unfold zcv;cases a:hasB p (ln m) with|false=>rfl|true=>exact h _ (zkW a _)
theorem zxV {h r:Host}(H:HOk h){m p:Int}(b:hasB m (ln h.Mons)=true)(i:hasB p 8=true){x:Mon}{s:Slot}{c:List Int}(n:r.Mons=up h.Mons m x)(k:Chg (ix h.Mons m mZ) x p s c)(u:SOk s)(t:zmh s c=true)(f:r.Memory.length=12)(g:∀c∈r.Memory,zco c=true)(j:zfg r.Buffer=true)(l:zfg r.IoBuffer=true)(v:0<=s.Page->s.Page=(ix (ix h.Mons m mZ).Outer p sZ).Page\/zfi h.Mons s.Page=0):HOk r:=by refine H.up b ((H.mon b).chg i k u t) n f g j l fun q z=>?_;have d:=zWE ((H.mon b).hasO i) k.o q;by_cases e:s.Page=q;{have a:=v (by omega);rw[if_pos e]at d;rcases a with a|a;{rw [if_pos (by omega)]at d;left;omega};{right;rw[e] at a;refine⟨a,?_⟩;have:=zAq b x q;have y:cPg (ix h.Mons m mZ) q<=zfi h.Mons q:=(by have:=zAq b (⟨[],[],[],[],[],0,0,[],0⟩:Mon) q;have w:cPg (⟨[],[],[],[],[],0,0,[],0⟩:Mon) q=0:=rfl;omega);omega}};{rw [if_neg e]at d;left;split at d<;>omega}
theorem zwU {h r:Host}(H:HOk h){m p:Int}(a:hasB m (ln h.Mons)=true)(y:hasB p 8=true){x:Mon}{s:Slot}{c:List Int}(n:r.Mons=up h.Mons m x)(k:Chg (ix h.Mons m mZ) x p s c)(B:(cond (ieq s.Page (-1)) c (zcv r.Memory s.Page))=zcM h m p)(f:∀i q,hasB i (ln h.Mons)=true->hasB q 8=true->¬ (i=m/\q=p)->(ix (ix h.Mons i mZ).Outer q sZ).Page≠-1->zcv r.Memory (ix (ix h.Mons i mZ).Outer q sZ).Page=zcv h.Memory (ix (ix h.Mons i mZ).Outer q sZ).Page):Like h r:=by have l:=(zI.1 a).1;have t:=(zI.1 y).1;have e:∀{C:Type} (F:Mon->C),F x=F (ix h.Mons m mZ)->∀i,hasB i (ln h.Mons)=true->F (ix r.Mons i mZ)=F (ix h.Mons i mZ):=(by intro C F D i d;rw[n];by_cases e:m=i;{subst e;rw[zbf a];exact D};{rw [zbt l (zI.1 d).1 e]});refine⟨by rw[n,zbN],e Mon.Guests k.g,e Mon.Outs k.a1,e Mon.Pending k.a2,e Mon.Traps k.a3,e Mon.Own k.a4,fun i q d b=>?_⟩;have A:hasB i (ln r.Mons)=true:=(by rw[n,zdV];exact d);have w:=(H.mon d).hasO b;have z:hasB q (ln (ix r.Mons i mZ).Outer)=true:=(by rw[n];by_cases e:m=i;{subst e;rw[zbf a,k.o,zdV];exact w};{rw [zbt l (zI.1 d).1 e];exact w});rw[zos A b z];by_cases e:m=i;{subst e;rw[n,zbf a,k.o,k.u];by_cases v:p=q;{subst v;rw[zbf ((H.mon a).hasO y),<- B];cases ieq s.Page (-1);{rfl};{rw [cond_true,cond_true,zlt (by rw[zdV];exact(H.mon a).hasU y),zbf ((H.mon a).hasU y)]}};{rw [zbt t (zI.1 b).1 v,zos a b w];by_cases j:(ix (ix h.Mons m mZ).Outer q sZ).Page = -1;{rw [zbo.2 j,cond_true,cond_true,zlt (by rw[zdV];exact(H.mon a).hasU b),zlt ((H.mon a).hasU b),zbt t (zI.1 b).1 v]};{rw [zbT.2 j,cond_false,cond_false,f m q a b (fun h=>v h.2.symm) j]}}};{rw [n,zbt l (zI.1 d).1 e,zos d b w];by_cases j:(ix (ix h.Mons i mZ).Outer q sZ).Page = -1;{rw [zbo.2 j,cond_true,cond_true]};{rw [zbT.2 j,cond_false,cond_false,f i q d b (fun h=>e h.1.symm) j]}}
structure Op (h r:Host):Prop where
 ok:HOk r
 like:Like h r
 rt:Rt h->Rt r
theorem Op.refl {h:Host}(H:HOk h):Op h h:=⟨H,Like.refl h,id⟩
theorem Op.trans {a b c:Host}(x:Op a b)(y:Op b c):Op a c:=⟨y.ok,x.like.trans y.like,fun h=>y.rt (x.rt h)⟩
theorem Op.safe {h r:Host}(k:Op h r)(s:Safe h):Safe r:=⟨k.ok,k.rt s.rt⟩
theorem zO7 {h r:Host}(H:Rt h){m:Int}(l:hasB m (ln h.Mons)=true){x:Mon}(u:r.Mons=up h.Mons m x)(q:r.Buffer=h.Buffer)(s:r.IoBuffer=h.IoBuffer)(y:x.Guests.length=(ix h.Mons m mZ).Guests.length)(w:∀g,hasB g (ln (ix h.Mons m mZ).Guests)=true->(ix x.Guests g gZ).Live=(ix (ix h.Mons m mZ).Guests g gZ).Live)(z:x.Tables=(ix h.Mons m mZ).Tables)(v:x.Outer=(ix h.Mons m mZ).Outer):Rt r:=by have d:=(zI.1 l).1;have hg:∀g,hasB g (ln x.Guests)=hasB g (ln (ix h.Mons m mZ).Guests):=fun g=>(by unfold ln;rw[y]);have f:∀e,zc8 h e=true->zc8 r e=true:=(by intro e c;obtain⟨n,i,p⟩:=zfP.1 c;rw[zfP,u,zdV];refine⟨n,?_⟩;by_cases b:m=zdF e.Tag;{rw [<- b]at n i p ⊢;rw[zbf l,hg,w _ i,v];exact⟨i,p⟩};{rw [zbt d (zI.1 n).1 b];exact⟨i,p⟩});refine⟨fun k j=>?_,fun e c=>f e (H.e1 e (by rwa [q]at c)),fun e c=>f e (H.e2 e (by rwa [s]at c))⟩;rw[u]at j ⊢;rw[zdV]at j;by_cases b:m=k;{subst b;rw[zbf l];intro g a;rw[hg]at a;rw[z,w g a,v];exact H.t m l g a};{rw [zbt d (zI.1 j).1 b];exact H.t k j}
theorem zqh {h a:Host}{m p:Int}{s:Slot}{x:Mon}(b:hasB m (ln h.Mons)=true)(e:a.Mons=up h.Mons m x):(zcp a m p s).Mons=up h.Mons m (zj7 x p s):=by rw[ztD,e,zbf b,z8F]
theorem zEs {x a:Mon}{p:Int}{s:Slot}{c:List Int}(h:a.Outer=x.Outer)(j:a.Out=up x.Out p c)(hg:a.Guests=x.Guests)(i:a.Tables=x.Tables)(g:a.Dirty.length=x.Dirty.length)(b:a.Outs=x.Outs)(d:a.Pending=x.Pending)(e:a.Traps=x.Traps)(f:a.Own=x.Own):Chg x (zj7 a p s) p s c :=
 ⟨by show up a.Outer p s=_;rw[h],j,hg,by show (zlP a.Guests p a.Tables.length a.Tables).length=_;rw[zGx,i],g,b,d,e,f⟩
theorem zwb {h:Host}{m p:Int}{s:Slot}(a:zfg h.Buffer=true)(b:zfg h.IoBuffer=true):zfg (zcp h m p s).Buffer=true/\zfg (zcp h m p s).IoBuffer=true:=by have:=zUc h m p s;rw[this.1,this.2];cases ieq (ix (ix h.Mons m mZ).Outer p sZ).Page (-1);{exact⟨zIR a _,zIR b _⟩};{exact⟨a,b⟩}
theorem hasM {h:Host}(H:HOk h){s:Slot}(b:SOk s)(a:s.Page≠-1):hasB s.Page (ln h.Memory)=true:=by have:=b.pos a;exact zI.2 ⟨this.1,by unfold ln;rw[H.m12];omega⟩
theorem z2I {h:Host}(H:HOk h){m p:Int}(b:hasB m (ln h.Mons)=true)(c:hasB p 8=true)(l:(ix (ix h.Mons m mZ).Outer p sZ).Page≠-1):Op h (zdD h m p):=by
 have X:=H.mon b;have f:(zdD h m p).Mons=up h.Mons m (zj7 {ix h.Mons m mZ with Out:=up (ix h.Mons m mZ).Out p (zcv h.Memory (ix (ix h.Mons m mZ).Outer p sZ).Page)} p noSlot):=zqh b rfl;have k:Chg (ix h.Mons m mZ) (zj7 {ix h.Mons m mZ with Out:=up (ix h.Mons m mZ).Out p (zcv h.Memory (ix (ix h.Mons m mZ).Outer p sZ).Page)} p noSlot) p noSlot (zcv h.Memory (ix (ix h.Mons m mZ).Outer p sZ).Page):=zEs rfl rfl rfl rfl rfl rfl rfl rfl rfl;have a:(zdD h m p).Memory=h.Memory:=zyN _ _ _ _;have g:=zwb (h:=zeV h m p) (m:=m) (p:=p) (s:=noSlot) H.b1 H.b2;refine⟨zxV H b c f k (.inl rfl) ((zqy (.inl rfl)).2 ⟨fun _=>zTR H.pgs _,fun h=>absurd rfl h⟩) (by rw[a];exact H.m12) (by rw[a];exact H.pgs) g.1 g.2 (fun h=>absurd h (by decide)),
  zwU H b c f k ?_ (fun i q _ _ _ _=>by rw[a]),fun R=>?_⟩
 {rw [zos b c (X.hasO c),zbT.2 l];rfl};{have j:Rt (zeV h m p):=zO7 (x:={ix h.Mons m mZ with Out:=up (ix h.Mons m mZ).Out p (zcv h.Memory (ix (ix h.Mons m mZ).Outer p sZ).Page)}) R b rfl rfl rfl rfl (fun _ _=>rfl) rfl rfl;have d:hasB m (ln (zeV h m p).Mons)=true:=(by show hasB m (ln (up h.Mons m _))=true;rw[zdV];exact b);have e:ix (zeV h m p).Mons m mZ={ix h.Mons m mZ with Out:=up (ix h.Mons m mZ).Out p (zcv h.Memory (ix (ix h.Mons m mZ).Outer p sZ).Page)}:=zbf b _ _;exact zBD j d (by rw[e];exact X.hasO c) (by rw[e];exact X.gt) noSlot}
theorem zIW {o:List Slot}{q:Int}:zoS o q=none↔o.countP (fun s=>ieq s.Page q)=0:=by unfold zoS;rw[List.findIdx?_eq_none_iff,u3];simp
theorem z0I {o:List Slot}{q:Int}{k:Nat}(h:zoS o q=some k):∃a:k<o.length,o[k].Page=q:=by unfold zoS at h;rw[uU]at h;obtain⟨a,b,_⟩:=h;exact⟨a,zbo.1 b⟩
theorem zBz {q:Int}:∀(l:List Mon) (i:Nat),((zij q l i).1<0↔zfi l q=0)/\(¬ (zij q l i).1<0->∃a b:Nat,∃f:a<l.length,∃g:b<l[a].Outer.length,zij q l i=(((i+a:Nat):Int),(b:Int))/\l[a].Outer[b].Page=q)
 |[],i=>⟨by simp[zij,zfi],fun h=>absurd (show (-1:Int)<0 by decide) h⟩
 |x::l,i=>by have j:=zBz (q:=q) l (i+1);unfold zij;split;{rename_i k c;obtain⟨m,n⟩:=z0I c;refine⟨⟨fun h=>by simp at h;omega,fun h=>?_⟩,fun _=>⟨0,k,by simp,m,by simp,n⟩⟩;exfalso;simp only[zfi,jB,uE]at h;have d:x.Outer.countP (fun s=>ieq s.Page q)=0:=(by unfold cPg at h;omega);rw[zIW.2 d]at c;cases c};{rename_i c;have d:=zIW.1 c;refine⟨?_,fun h=>?_⟩;{rw [j.1];simp only[zfi,jB,uE];unfold cPg;omega};{obtain⟨a,b,f,g,e,p⟩:=j.2 h;exact⟨a+1,b,by simpa using f,by simpa using g,by rw[e];simp;omega,by simpa using p⟩}}
theorem zLr {h:Host}{q:Int}(a:0<=q):(zbH h q).1<0↔zfi h.Mons q=0:=by unfold zbH;rw[show ilt q 0=false from qH (by omega),cond_false];exact(zBz h.Mons 0).1
theorem zbac {h:Host}(H:HOk h){q:Int}(j:0<=q)(c:¬ (zbH h q).1<0):hasB (zbH h q).1 (ln h.Mons)=true/\hasB (zbH h q).2 8=true/\(ix (ix h.Mons (zbH h q).1 mZ).Outer (zbH h q).2 sZ).Page=q:=by unfold zbH at c ⊢;rw[show ilt q 0=false from qH (by omega),cond_false]at c ⊢;obtain⟨a,b,d,f,e,g⟩:=(zBz h.Mons 0).2 c;rw[e,jX];have i:=(H.mons _ (jK d)).o8;exact⟨zI.2 (by unfold ln;simp;omega),zI.2 (by simp;omega),by rw[zm3 d,zm3 f];exact g⟩
theorem zXx {P:Nat->Bool}:∀{n i:Nat} {q:Int},q∈zyn P n i↔∃k:Nat,q=(k:Int)/\i<=k/\k<i+n/\P k=true
 | 0,i,q=>by simp[zyn];intro k _ _ _;omega
 |n+1,i,q=>by
  have d:=@zXx P n (i+1) q;unfold zyn;constructor
  .intro h;cases c:P i with
   |true=>rw[c,cond_true,qG]at h;rcases h with h|h;{exact⟨i,h,by omega,by omega,c⟩};{obtain⟨k,a,f,g,b⟩:=d.1 h;exact⟨k,a,by omega,by omega,b⟩}
   |false=>rw[c,cond_false]at h;obtain⟨k,a,f,g,b⟩:=d.1 h;exact⟨k,a,by omega,by omega,b⟩
  {rintro⟨k,a,f,g,b⟩;by_cases e:k=i;{subst e;rw[b,cond_true,a];exact jA};{have:=d.2 ⟨k,a,by omega,by omega,b⟩;cases P i;{exact this};{exact qX _ this}}}
theorem zKi {h:Host}{q:Int}:q∈zcj h↔hasB q (ln h.Memory)=true/\zfi h.Mons q=0:=by unfold zcj;rw[zXx];constructor;{rintro⟨k,rfl,b,c,d⟩;exact⟨zI.2 (by unfold ln;omega),(zLr (by omega)).1 (qD d)⟩};{rintro⟨b,c⟩;have a:=zI.1 b;unfold ln at a;refine⟨q.toNat,by omega,by omega,by omega,?_⟩;rw[show ((q.toNat:Nat):Int)=q by omega];exact qJ ((zLr a.1).2 c)}
theorem z4j {h:Host}(a:zcj h≠[]):hasB (ix (zcj h) 0 0) (ln h.Memory)=true/\zfi h.Mons (ix (zcj h) 0 0)=0:=by refine zKi.1 (zkW (zI.2 ⟨by omega,?_⟩) 0);unfold ln;have:=kO.2 a;omega
structure But (h r:Host) (m p:Int):Prop where
 ne:∀i k,hasB i (ln h.Mons)=true->hasB k 8=true->¬ (i=m/\k=p)->ix (ix r.Mons i mZ).Outer k sZ=ix (ix h.Mons i mZ).Outer k sZ
theorem zJX {h r:Host}{m p:Int}(a:hasB m (ln h.Mons)=true)(j:hasB p 8=true){x:Mon}{s:Slot}(b:r.Mons=up h.Mons m x)(g:x.Outer=up (ix h.Mons m mZ).Outer p s):But h r m p:=by refine⟨fun i k d f c=>?_⟩;rw[b];by_cases e:m=i;{subst e;rw[zbf a,g,zbt (zI.1 j).1 (zI.1 f).1 (fun e=>c ⟨rfl,e.symm⟩)]};{rw [zbt (zI.1 a).1 (zI.1 d).1 e]}
theorem z8n {h:Host}(H:HOk h){m p:Int}(a:hasB m (ln h.Mons)=true)(c:hasB p 8=true):But h (zdD h m p) m p/\ix (ix (zdD h m p).Mons m mZ).Outer p sZ=noSlot:=by have b:(zdD h m p).Mons=up h.Mons m (zj7 {ix h.Mons m mZ with Out:=up (ix h.Mons m mZ).Out p (zcv h.Memory (ix (ix h.Mons m mZ).Outer p sZ).Page)} p noSlot):=zqh a rfl;refine⟨zJX a c b rfl,?_⟩;rw[b,zbf a];exact zbf ((H.mon a).hasO c) _ _
structure Roomy (h r:Host):Prop where
 op:Op h r
 free:zcj r≠[]
 sl:∀i k,hasB i (ln h.Mons)=true->hasB k 8=true->ix (ix r.Mons i mZ).Outer k sZ=ix (ix h.Mons i mZ).Outer k sZ\/ix (ix r.Mons i mZ).Outer k sZ=noSlot
 dirt:∀i,(ix r.Mons i mZ).Dirty=(ix h.Mons i mZ).Dirty
theorem zP4 {h r:Host}{m:Int}(c:hasB m (ln h.Mons)=true){x:Mon}(a:r.Mons=up h.Mons m x)(b:x.Dirty=(ix h.Mons m mZ).Dirty)(i:Int):(ix r.Mons i mZ).Dirty=(ix h.Mons i mZ).Dirty:=by
 rw[a];by_cases e:i.toNat=m.toNat
 {have:∀l:List Mon,ix l i mZ=ix l m mZ:=fun l=>(by unfold ix;rw[e]);rw[this,this,zbf c,b]};{unfold ix up;simp[List.getD,q9,Ne.symm e]}
theorem roomy {h:Host}(H:HOk h):Roomy h (zdf h):=by unfold zdf;by_cases b:zcj h=[];{rw [show ieq (ln (zcj h)) 0=true by rw[b];rfl,cond_true];have p:¬ (zbH h 0).1<0:=fun d=>(by have:(0:Int)∈zcj h:=zKi.2 ⟨zI.2 (by unfold ln;rw[H.m12];omega),(zLr (by omega)).1 d⟩;rw[b] at this;cases this);obtain⟨a,c,f⟩:=zbac H (by omega) p;have k:=z2I H a c (by rw[f];decide);have j:=z8n H a c;refine⟨k,fun d=>?_,fun i q g r=>?_,fun i=>zP4 (x:=zj7 {ix h.Mons (zbH h 0).1 mZ with Out:=up (ix h.Mons (zbH h 0).1 mZ).Out (zbH h 0).2 (zcv h.Memory (ix (ix h.Mons (zbH h 0).1 mZ).Outer (zbH h 0).2 sZ).Page)} (zbH h 0).2 noSlot) a (zqh a rfl) rfl i⟩;{have:(0:Int)∈zcj (zdD h (zbH h 0).1 (zbH h 0).2):=(by refine zKi.2 ⟨zI.2 (by unfold ln;rw[k.ok.m12];omega),?_⟩;have n:(zdD h (zbH h 0).1 (zbH h 0).2).Mons=up h.Mons (zbH h 0).1 (zj7 {ix h.Mons (zbH h 0).1 mZ with Out:=up (ix h.Mons (zbH h 0).1 mZ).Out (zbH h 0).2 (zcv h.Memory (ix (ix h.Mons (zbH h 0).1 mZ).Outer (zbH h 0).2 sZ).Page)} (zbH h 0).2 noSlot):=zqh a rfl;have l:=zAq a (zj7 {ix h.Mons (zbH h 0).1 mZ with Out:=up (ix h.Mons (zbH h 0).1 mZ).Out (zbH h 0).2 (zcv h.Memory (ix (ix h.Mons (zbH h 0).1 mZ).Outer (zbH h 0).2 sZ).Page)} (zbH h 0).2 noSlot) 0;rw[<- n] at l;have m:=zWE (x':=zj7 {ix h.Mons (zbH h 0).1 mZ with Out:=up (ix h.Mons (zbH h 0).1 mZ).Out (zbH h 0).2 (zcv h.Memory (ix (ix h.Mons (zbH h 0).1 mZ).Outer (zbH h 0).2 sZ).Page)} (zbH h 0).2 noSlot) ((H.mon a).hasO c) (s:=noSlot) rfl 0;rw[if_pos f,if_neg (by decide)] at m;have t:=H.uq 0 (by omega);omega);rw[d] at this;cases this};{by_cases e:i=(zbH h 0).1/\q=(zbH h 0).2;{rw [e.1,e.2];exact .inr j.2};{exact .inl (j.1.ne i q g r e)}}};{have:ieq (ln (zcj h)) 0=false:=zbT.2 (by unfold ln;have:=kO.2 b;omega);rw[this,cond_false];exact⟨Op.refl H,b,fun i k g u=>.inl rfl,fun _=>rfl⟩}
theorem z16 {m:List (List Int)}{p:Int}{c:List Int}(b:hasB p (ln m)=true)(a:zco c=true):zhQ m p c=up m p c:=by unfold zhQ;rw[b,a];rfl
theorem zFf {m:List (List Int)}{p q:Int}{c:List Int}(a:0<=p)(h:q≠p):zcv (up m p c) q=zcv m q:=by unfold zcv;rw[zdV];cases b:hasB q (ln m) with|false=>rfl|true=>rw[cond_true,cond_true,zbt a (zI.1 b).1 (Ne.symm h)]
theorem zFe {m:List (List Int)}{p:Int}{c:List Int}(a:hasB p (ln m)=true):zcv (up m p c) p=c:=by rw[zlt (by rw[zdV];exact a),zbf a]
theorem z4R {h:Host}(H:HOk h){m p a:Int}(d:hasB m (ln h.Mons)=true)(f:hasB p 8=true)(z:(ix (ix h.Mons m mZ).Outer p sZ).Page = -1)(u:hasB a (ln h.Memory)=true)(B:zfi h.Mons a=0) :
 Op h (ze5 h m p a)/\But h (ze5 h m p a) m p/\ix (ix (ze5 h m p a).Mons m mZ).Outer p sZ=⟨a,3⟩/\∀i,(ix (ze5 h m p a).Mons i mZ).Dirty=(ix h.Mons i mZ).Dirty:=by
 have X:=H.mon d;have g:=zI.1 u;unfold ln at g;rw[H.m12]at g;have l:(ze5 h m p a).Mons=up h.Mons m (zj7 {ix h.Mons m mZ with Out:=up (ix h.Mons m mZ).Out p []} p ⟨a,3⟩):=zqh d rfl;have k:Chg (ix h.Mons m mZ) (zj7 {ix h.Mons m mZ with Out:=up (ix h.Mons m mZ).Out p []} p ⟨a,3⟩) p ⟨a,3⟩ []:=zEs rfl rfl rfl rfl rfl rfl rfl rfl rfl;have j:=((zqy (X.slot f)).1 (X.fit p f)).1 z;have b:(ze5 h m p a).Memory=up h.Memory a (ix (ix h.Mons m mZ).Out p []):=by show (zcp (landing h m p a) m p ⟨a,3⟩).Memory=_;rw[zyN];exact z16 u j
 have A:SOk ⟨a,3⟩:=.inr ⟨g.1,by show a<=11;omega,by show (1:Int)<=3;omega,by show (3:Int)<=3;omega⟩
 have w:=zwb (h:=landing h m p a) (m:=m) (p:=p) (s:=⟨a,3⟩) H.b1 H.b2;refine⟨⟨zxV H d f l k A ((zqy A).2 ⟨fun h=>absurd h (by show a≠-1;omega),fun _=>⟨show enough 3 1=true by decide,rfl⟩⟩) (by rw[b,zbN];exact H.m12) (fun c r=>?_) w.1 w.2 (fun _=>.inr B),
  zwU H d f l k ?_ (fun i q y D r C=>?_),fun R=>?_⟩,zJX d f l rfl,?_,fun i=>zP4 (x:=zj7 {ix h.Mons m mZ with Out:=up (ix h.Mons m mZ).Out p []} p ⟨a,3⟩) d l rfl i⟩
 .rw [b]at r;rcases qW r with n|n
  .exact H.pgs c n
  .rw [n];exact j
 .rw [zos d f (X.hasO f),zbo.2 z,cond_true,zlt (X.hasU f)];rw[show ieq (⟨a,3⟩:Slot).Page (-1)=false from zbT.2 (by show a≠-1;omega),cond_false,b]
  exact zFe u
 .rw [b];refine zFf g.1 (fun e=>?_);have:=zJY y ((H.mon y).hasO D);rw[e] at this;omega
 .have R1:Rt (landing h m p a):=zO7 (x:={ix h.Mons m mZ with Out:=up (ix h.Mons m mZ).Out p []}) R d rfl rfl rfl rfl (fun _ _=>rfl) rfl rfl;have t:hasB m (ln (landing h m p a).Mons)=true:=by show hasB m (ln (up h.Mons m _))=true;rw[zdV];exact d
  have v:ix (landing h m p a).Mons m mZ={ix h.Mons m mZ with Out:=up (ix h.Mons m mZ).Out p []}:=zbf d _ _;exact zBD R1 t (by rw[v];exact X.hasO f) (by rw[v];exact X.gt) _
 .rw [l,zbf d];exact zbf (X.hasO f) _ _
theorem zOU {h:Host}(H:HOk h){m p:Int}(f:hasB m (ln h.Mons)=true)(g:hasB p 8=true)(k:(ix (ix h.Mons m mZ).Outer p sZ).Page = -1) :
 Op h (fetched h m p)/\(∃e,0<=e/\e<=11/\ix (ix (fetched h m p).Mons m mZ).Outer p sZ=⟨e,3⟩)/\∀i,(ix (fetched h m p).Mons i mZ).Dirty=(ix h.Mons i mZ).Dirty:=by
 have R:=roomy H;have c:hasB m (ln (zdf h).Mons)=true:=by rw[R.op.like.has];exact f
 have d:(ix (ix (zdf h).Mons m mZ).Outer p sZ).Page = -1:=by rcases R.sl m p f g with b|b<;>rw [b];{exact k};{rfl}
 obtain⟨b,j⟩:=z4j R.free;obtain⟨l,r,n,q⟩:=z4R R.op.ok c g d b j;have a:=zI.1 b;unfold ln at a;rw[R.op.ok.m12]at a;exact⟨R.op.trans l,⟨_,a.1,by omega,n⟩,fun i=>(q i).trans (R.dirt i)⟩
theorem zoy {o:List Slot}{p:Int}(h:hasB p (ln o)=true):zbu o p=ix o p sZ:=by unfold zbu;rw[h];rfl
theorem zlu {h:Host}(H:HOk h){m p:Int}(a:hasB m (ln h.Mons)=true)(b:hasB p 8=true) :
 (cond (ieq (ix (ix h.Mons m mZ).Outer p sZ).Page (-1)) (ix (ix h.Mons m mZ).Out p []) (zcv h.Memory (ix (ix h.Mons m mZ).Outer p sZ).Page))=zcM h m p:=by
 rw[zos a b ((H.mon a).hasO b),zlt ((H.mon a).hasU b)]
structure Mark (x y:Mon):Prop where
 o:y.Outer=x.Outer
 u:y.Out=x.Out
 g:y.Guests=x.Guests
 t:y.Tables=x.Tables
 d:y.Dirty.length=x.Dirty.length
 a1:y.Outs=x.Outs
 a2:y.Pending=x.Pending
 a3:y.Traps=x.Traps
 a4:y.Own=x.Own
theorem z2H {h:Host}(H:HOk h){m:Int}(b:hasB m (ln h.Mons)=true){y:Mon}(k:Mark (ix h.Mons m mZ) y):Op h {h with Mons:=up h.Mons m y}/\∀i q,ix (ix (up h.Mons m y) i mZ).Outer q sZ=ix (ix h.Mons i mZ).Outer q sZ:=by
 have X:=H.mon b;have a:hasB 0 8=true:=(by decide);have c:Chg (ix h.Mons m mZ) y 0 (ix (ix h.Mons m mZ).Outer 0 sZ) (ix (ix h.Mons m mZ).Out 0 []):=⟨by rw[zLV (X.hasO a),k.o],by rw[zLV (X.hasU a),k.u],k.g,by rw[k.t],k.d,k.a1,k.a2,k.a3,k.a4⟩
 refine⟨⟨zxV H b a rfl c (X.slot a) (X.fit 0 a) H.m12 H.pgs H.b1 H.b2 (fun _=>.inl rfl),zwU H b a rfl c (zlu H b a) (fun _ _ _ _ _ _=>rfl),
  fun R=>zO7 R b rfl rfl rfl (by rw[k.g]) (fun g _=>by rw[k.g]) k.t k.o⟩,fun i q=>?_⟩
 by_cases e:i.toNat=m.toNat
 {have:∀l:List Mon,ix l i mZ=ix l m mZ:=fun l=>(by unfold ix;rw[e]);rw[this,this,zbf b,k.o]};{have:ix (up h.Mons m y) i mZ=ix h.Mons i mZ:=(by unfold ix up;simp[List.getD,q9,Ne.symm e]);rw[this]}
theorem zOT {h:Host}(H:HOk h){m:Int}(a:hasB m (ln h.Mons)=true)(p:Int):Op h (zbE h m p)/\∀i q,ix (ix (zbE h m p).Mons i mZ).Outer q sZ=ix (ix h.Mons i mZ).Outer q sZ :=
 z2H H a ⟨rfl,rfl,rfl,rfl,zbN _ _ _,rfl,rfl,rfl,rfl⟩
theorem z7L {h:Host}(H:HOk h){m:Int}(a:hasB m (ln h.Mons)=true)(p:Int):Op h (zrg h m p)/\∀i q,ix (ix (zrg h m p).Mons i mZ).Outer q sZ=ix (ix h.Mons i mZ).Outer q sZ :=
 z2H H a ⟨rfl,rfl,rfl,rfl,zbN _ _ _,rfl,rfl,rfl,rfl⟩
theorem rights {r:Int}(a:1<=r)(b:r<=3):r=1\/r=2\/r=3:=by omega
theorem MOk.enough1 {x:Mon}(X:MOk x){p:Int}(a:hasB p 8=true)(d:(ix x.Outer p sZ).Page≠-1):(ix x.Outer p sZ).Rights=1\/(ix x.Outer p sZ).Rights=3:=by have b:=(((zqy (X.slot a)).1 (X.fit p a)).2 d).1;have c:=(X.slot a).pos d;rcases rights c.2.2.1 c.2.2.2 with e|e|e;{exact .inl e};{rw [e]at b;exact absurd b (by decide)};{exact .inr e}
theorem zTO {h:Host}(H:HOk h){m p:Int}(c:hasB m (ln h.Mons)=true)(b:hasB p 8=true)(g:(ix (ix h.Mons m mZ).Outer p sZ).Page≠-1){r:Int}(n:r=1\/r=3) :
 Op h (zcp h m p ⟨(ix (ix h.Mons m mZ).Outer p sZ).Page,r⟩)/\But h (zcp h m p ⟨(ix (ix h.Mons m mZ).Outer p sZ).Page,r⟩) m p/\
  ix (ix (zcp h m p ⟨(ix (ix h.Mons m mZ).Outer p sZ).Page,r⟩).Mons m mZ).Outer p sZ=⟨(ix (ix h.Mons m mZ).Outer p sZ).Page,r⟩/\∀i,(ix (zcp h m p ⟨(ix (ix h.Mons m mZ).Outer p sZ).Page,r⟩).Mons i mZ).Dirty=(ix h.Mons i mZ).Dirty:=by
 have X:=H.mon c;have d:=(X.slot b).pos g;have e:=ztD h m p ⟨(ix (ix h.Mons m mZ).Outer p sZ).Page,r⟩;have k:Chg (ix h.Mons m mZ) (zj7 (ix h.Mons m mZ) p ⟨(ix (ix h.Mons m mZ).Outer p sZ).Page,r⟩) p ⟨(ix (ix h.Mons m mZ).Outer p sZ).Page,r⟩ (ix (ix h.Mons m mZ).Out p []):=
  zEs rfl (zLV (X.hasU b) _).symm rfl rfl rfl rfl rfl rfl rfl
 have l:SOk ⟨(ix (ix h.Mons m mZ).Outer p sZ).Page,r⟩:=.inr ⟨d.1,d.2.1,by show 1<=r;omega,by show r<=3;omega⟩
 have f:=((zqy (X.slot b)).1 (X.fit p b)).2 g;have j:=zwb (h:=h) (m:=m) (p:=p) (s:=⟨(ix (ix h.Mons m mZ).Outer p sZ).Page,r⟩) H.b1 H.b2;have a:=zyN h m p ⟨(ix (ix h.Mons m mZ).Outer p sZ).Page,r⟩;refine⟨⟨zxV H c b e k l ((zqy l).2 ⟨fun h=>absurd h g,fun _=>⟨?_,f.2⟩⟩) (by rw[a];exact H.m12) (by rw[a];exact H.pgs) j.1 j.2 (fun _=>.inl rfl),
  zwU H c b e k (by rw[a];exact zlu H c b) (fun i q _ _ _ _=>by rw[a]),fun R=>zBD R c (X.hasO b) X.gt _⟩,zJX c b e rfl,?_,fun i=>zP4 c e rfl i⟩
 .show enough r 1=true
  rcases n with rfl|rfl<;>decide
 .rw [e,zbf c];exact zbf (X.hasO b) _ _
structure Mended (h r:Host) (m p n:Int):Prop where
 op:Op h r
 inn:(ix (ix r.Mons m mZ).Outer p sZ).Page≠-1
 ri:ieq (wand .i64 n 2) 0=false->(ix (ix r.Mons m mZ).Outer p sZ).Rights=3
 dt:ieq (wand .i64 n 2) 0=false->ix (ix r.Mons m mZ).Dirty p false=true
 d0:ieq (wand .i64 n 2) 0=true->(ix r.Mons m mZ).Dirty=(ix h.Mons m mZ).Dirty
 dk:∀k,hasB k 8=true->k≠p->ix (ix r.Mons m mZ).Dirty k false=ix (ix h.Mons m mZ).Dirty k false
 dm:∀i,hasB i (ln h.Mons)=true->i≠m->(ix r.Mons i mZ).Dirty=(ix h.Mons i mZ).Dirty
theorem zYR {h:Host}(H:HOk h){m p:Int}(n:Int)(c:hasB m (ln h.Mons)=true)(g:hasB p 8=true)(v:(ix (ix h.Mons m mZ).Outer p sZ).Page≠-1):Mended h (zjP h m p n) m p n:=by
 unfold zjP;cases s:ieq (wand .i64 n 2) 0 with
 |true=>exact⟨Op.refl H,v,fun e=>(Bool.noConfusion (s.symm.trans e)),fun e=>(Bool.noConfusion (s.symm.trans e)),fun _=>rfl,fun _ _ _=>rfl,fun _ _ _=>rfl⟩
 |false=>rw[cond_false];obtain⟨f,C⟩:=zOT H c p;have d:hasB m (ln (zbE h m p).Mons)=true:=(by rw[f.like.has];exact c);have a:(ix (ix (zbE h m p).Mons m mZ).Outer p sZ).Page≠-1:=(by rw[C];exact v);have u:(ix (zbE h m p).Mons m mZ).Dirty=up (ix h.Mons m mZ).Dirty p true:=(by show (ix (up h.Mons m _) m mZ).Dirty=_;rw[zbf c]);have l:∀i,hasB i (ln h.Mons)=true->i≠m->(ix (zbE h m p).Mons i mZ).Dirty=(ix h.Mons i mZ).Dirty:=fun i q b=>(by show (ix (up h.Mons m _) i mZ).Dirty=_;rw[zbt (zI.1 c).1 (zI.1 q).1 (Ne.symm b)]);have A:=(f.ok.mon d).enough1 g a;have t:∀r:Host,(∀i,(ix r.Mons i mZ).Dirty=(ix (zbE h m p).Mons i mZ).Dirty)->Op (zbE h m p) r->(ix (ix r.Mons m mZ).Outer p sZ).Page≠-1->(ix (ix r.Mons m mZ).Outer p sZ).Rights=3->Mended h r m p n:=(by intro r j x y z;refine⟨f.trans x,y,fun _=>z,fun _=>?_,fun e=>(Bool.noConfusion (s.symm.trans e)),fun k B b=>?_,fun i q b=>by rw[j,l i q b]⟩;{rw [j,u,zbf ((H.mon c).hasD g)]};{rw [j,u,zbt (zI.1 g).1 (zI.1 B).1 (Ne.symm b)]});unfold opened;rcases A with e|e;{rw [e,show ieq (wand .i64 1 2) 0=true by decide,cond_true];obtain⟨D,F,w,E⟩:=zTO f.ok d g a (r:=3) (.inr rfl);exact t _ E D (by rw[w];exact a) (by rw[w])};{rw [e,show ieq (wand .i64 3 2) 0=false by decide,cond_false];exact t _ (fun _=>rfl) (Op.refl f.ok) a e}
theorem zTN {h:Host}(H:HOk h){m p:Int}(n:Int)(c:hasB m (ln h.Mons)=true)(d:hasB p 8=true):Mended h (mended h m p n) m p n:=by unfold mended;by_cases e:(ix (ix h.Mons m mZ).Outer p sZ).Page = -1;{rw [zbo.2 e,cond_true];obtain⟨a,⟨q,r,s,l⟩,f⟩:=zOU H c d e;have K:=zYR a.ok n (by rw[a.like.has];exact c) d (by rw[l];show q≠-1;omega);exact⟨a.trans K.op,K.inn,K.ri,K.dt,fun e=>by rw[K.d0 e,f],fun k j b=>by rw[K.dk k j b,f],fun i g b=>by rw[K.dm i (by rw[a.like.has];exact g) b,f]⟩};{rw [zbT.2 e,cond_false];exact zYR H n c d e}
theorem zph {h:Host}{m p:Int}:zcC h m p=true↔HOk h/\hasB m (ln h.Mons)=true/\hasB p 8=true:=by unfold zcC;rw[zcg,zcg,zky]
theorem z4S {h:Host}(H:HOk h)(m p:Int):Op h (zqM h m p):=by unfold zqM;cases a:zcC h m p with|false=>exact Op.refl H|true=>obtain⟨_,b,c⟩:=zph.1 a;rw[cond_true];unfold zkX;by_cases e:(ix (ix h.Mons m mZ).Outer p sZ).Page = -1;{rw [zbo.2 e];exact Op.refl H};{rw [zbT.2 e];exact z2I H b c e}
theorem z7K {h:Host}(H:HOk h)(m p:Int):Op h (zvt h m p):=by unfold zvt;cases a:zcC h m p with|false=>exact Op.refl H|true=>obtain⟨_,b,c⟩:=zph.1 a;rw[cond_true];unfold zkX;by_cases e:(ix (ix h.Mons m mZ).Outer p sZ).Page = -1;{rw [zbo.2 e];exact(zOU H b c e).1};{rw [zbT.2 e];exact Op.refl H}
theorem z7J {h:Host}(H:HOk h)(m p:Int):Op h (zu6 h m p):=by unfold zu6;cases g:zcC h m p with|false=>exact Op.refl H|true=>obtain⟨_,b,c⟩:=zph.1 g;rw[cond_true];obtain⟨a,d⟩:=z7L H b p;(cases e:zc4 (ix (ix h.Mons m zh).Outer p zW) noSlot with|true=>exact a|false=>rw[cond_false];have i:(ix (ix h.Mons m mZ).Outer p sZ).Page≠-1:=fun f=>zsO.1 e (((H.mon b).slot c).none f);have:=zTO a.ok (m:=m) (p:=p) (by rw[a.like.has];exact b) c (by rw[d];exact i) (r:=1) (.inl rfl);rw[d m p] at this;exact a.trans this.1)
end
end Go.Proofs.YthdlghbibaoabaaGreat.E
