/- What is proved here: a part of the proof that the statement of this claim holds (several texts of wip/, laid together). -/
import Derived.Test.YtkbkcnjpecmckaaGreatV5
import Derived.WalkKit
import Derived.Tactics2
import Derived.Deep.RegionWith
import Derived.Laws.Rows
namespace Go.Proofs.YtkbkcnjpecmckaaGreat.E
open Go
set_option linter.defProp false
set_option linter.constructorNameAsVariable false
set_option linter.unusedVariables false
set_option maxRecDepth 100000
set_option linter.unusedSimpArgs false
set_option linter.unusedSectionVars false
noncomputable section
def zVx:zY:=[(361,ztT),(364,zqa),(365,zoU),(366,zoW),(367,zoV),(368,ztS),(370,ztR),(369,zrL),(82,zv0)]++zbag
def zDY:zS zVx:=zh zwZ (zh zue<|zh ztd<|zh ztf<|zh zte<|zh zwY<|zh zwX<|zh zvy<|zh zzc z7D)
def zdi (x:Mon):Bare:=⟨zQT,x.Guests,x.Outs,x.Pending⟩
def zwH (x:Mon)(b:Bare):Mon:={x with Guests:=b.Guests,Pending:=b.Pending}
def zdA (h:Host)(m:Int)(b:Bare):Host:={h with Mons:=up h.Mons m (zwH (ix h.Mons m mZ) b)}
@[simp] abbrev zfA (x:Mon):Bool:=pc (zgf x)
@[simp] abbrev zbU (x:Mon):Bare:=zdi x
def zCv:Run:=rF1 (dT .mon) λb=>(zfA b,[aT .bare<|zbU b])
def zHK (N:Nat)(a:Mon):OA:=
 (oN (zqG 8)<|oN (zgG a.Guests)<|oN (few<|ln<|ap [] a.Outs)<|some [aT .bare (⟨zk1 8,zhc a.Guests,ap [] a.Outs,a.Pending⟩:Bare)])
def zUk (a:Mon)(c:zfA a=true):∃N,zHK N a=some [aT .bare<|zbU a]:=by have b:=zO.1 c;refine⟨0,?_⟩;unfold zHK oN;exact must rfl (must (zbd<|(zwN _).2 b.2.2.2.1) (must (zpc b.2.2.2.2.1) rfl))
def zM2:vM 362 zCv:=kF1 zDY zA zcf zhy (zq []) zUk
@[simp] abbrev zfz (h:Host)(m:Int)(b:Bare):Bool:=pc (hasB m (ln h.Mons)=true/\zl0 b.Guests)
@[simp] abbrev zih (h:Host)(m:Int)(b:Bare):Host:=zdA h m b
def zbdD {l:List Mon}{m:Int}(a:hasB m (ln l)=true)(b:Bare):inb m (ln<|up l m {ix l m mZ with Guests:=b.Guests})=true/\
 up (up l m {ix l m mZ with Guests:=b.Guests}) m {ix (up l m {ix l m mZ with Guests:=b.Guests}) m mZ with Pending:=b.Pending}=up l m (zwH (ix l m mZ) b):=by
 obtain⟨k,rfl,c⟩:=zeo (n:=l.length) a;refine⟨zB (by rw[ln,zhR];exact a),?_⟩
 rw[zxQ,zez c];rfl
def zt0:LW
 |[.agg [.s (.sl .int) b,.s .mon c,.s .entry d,.s .entry e],.one<|.i .i64 f,.agg [.s (.sl .int) g,.s .guest h,.s .int j,.i .i64 k]]=>some (zfz (⟨b,c,d,e⟩:Host) f (⟨g,h,j,k⟩:Bare),[aH<|zih (⟨b,c,d,e⟩:Host) f (⟨g,h,j,k⟩:Bare)])
 |_=>none
def zx1 (N:Nat)(b:Host)(a:Int)(c:Bare):OA:=
 (oN (zgG c.Guests)<|oN (inb a<|ln b.Mons)<|share (up b.Mons a ({ (ix b.Mons a zi) with Guests:=(zhc c.Guests)}:Mon)) λd=>oN (inb a<|ln d)<|share (up d a ({ (ix d a zi) with Pending:=c.Pending}:Mon)) λe=>some [aH ({b with Mons:=e}:Host)])
def zXc (N:Nat)(a:Host)(b:Int)(c:Bare):z14 (cQ zVx zpX z2S z9b) (zq []) N 12 363 [true,true,true,true,false,false,false,false,false] [aH a,aI b,aT .bare c]=zx1 N a b c:=by kernel_rfl
def zUj (b:Host)(c:Int)(a:Bare)(i:zbL big [aH b,aI c,aT .bare a])(h:zfz b c a=true):∃N,zx1 N b c a=some [aH<|zih b c a]:=by obtain⟨d,hg⟩:=zO.1 h;obtain⟨f,g⟩:=zbdD d a;refine⟨0,?_⟩;unfold zx1 oN;refine must (zbd<|(zwN _).2 hg) (must (zB d)<|shr<|must f<|shr ?_);have e:zhc a.Guests=a.Guests:=rfl;rw[e];show some [AV.agg<|zbn {b with Mons:=_}]=some [AV.agg<|zbn {b with Mons:=_}];rw[show zi=mZ from rfl,g]
def zM1:zeU Tryz.prog 363 [true,true,true,true,false,false,false,false,false] none zt0:=by refine zO3 (zhv zDY zA zcf zhy) (zjT (by kernel_rfl)) (by kernel_rfl) ?_;intro a g f e h;have c:=zjZ e;unfold zt0 at h;split at h;{obtain⟨d,rfl⟩:=zeF h;obtain⟨N,b⟩:=zUj _ _ _ (by exact c) d;exact⟨_,N,12,(zXc N _ _ _ ).trans b⟩};{cases h}
def z4i:zY:=[(362,zCv)]++zVx
def zkz:zS z4i:=zh zM2 zDY
def zbeb:zfZ:=[(363,[true,true,true,true,false,false,false,false,false],none,zt0)]++z9b
def zdy:zeK zbeb:=zrZ zhy (by
 intro x a;simp only[qG,qO,or_false]at a;rcases a with rfl
 .exact zM1)
def zba4 (h:Host)(m:Int)(a:Bool)(B:Bare)(b c:Host->Ans):OA:=
 bif zbt h then (cond (zgt h m) (cond (cond (zgs h m) false true) (some<|b h)<|cond (inb m<|ln h.Mons) (cond (zfA<|ix h.Mons m mZ) (cond a (cond (zfz h m B) (some<|c<|zdA h m B) none) none) none) none) none) else none
def zcX {h:Host}{m:Int}:(zc9 h m=true)↔zb2 h=true/\hasB m (ln h.Mons)=true:=by unfold zc9;cases zb2 h<;>simp
def zo8 {h:Host}{m:Int}{cB:Bool}{B:Bare}{o0 o1:Host->Ans}(c:SmH h)(e:zc9 h m=true->cB=true)(d:zc9 h m=true->SmB B):zba4 h m cB B o0 o1=some (cond (zc9 h m) (o1<|zdA h m B)<|o0 h):=by unfold zba4;refine must (zbd<|(zT h).2 c) (must rfl ?_);rw[show zgs h m=zc9 h m from rfl];cases a:zc9 h m;{rfl};{have b:=(zcX.1 a).2;exact zda rfl (must (zB b)<|must (zbd<|c.2.1.2 _<|zbK b _)<|must (e a) (must (zbd ⟨b,(d a).2.1⟩) rfl))}
structure SameB (b c:Bare):Prop where
 g:b.Guests=c.Guests
 p:b.Pending=c.Pending
 o:zbY b=zbY c
def SameB.at {b c:Bare}(h:SameB b c)(g:Int):gAt b g=gAt c g:=by unfold gAt;rw[h.g]
def SameB.has {b c:Bare}(h:SameB b c)(g:Int):zct b g=zct c g:=by unfold zct;rw[h.g,h.o]
def back_eq {h:Host}{m:Int}{b c:Bare}(hg:b.Guests=c.Guests)(a:b.Pending=c.Pending):zdA h m b=zdA h m c:=by unfold zdA zwH;rw[hg,a]
def zrn {b c:Bare}(a:SameB b c)(h:Host)(m g:Int)(k:Bool)(x:Guest):zdA h m (chg b g k x)=zdA h m (chg c g k x):=by unfold chg;rw[a.has];cases (cond (zct c g) k false);{exact back_eq a.g a.p};{exact back_eq (by simp only[cT,zd3,a.g]) a.p}
def zmU {b c:Bare}(a:SameB b c)(g:Int)(k:Bool):zcu b g k=zcu c g k:=by unfold zcu;rw[a.has]
def zkE {h:Host}{m:Int}(b:zc9 h m=true)(d:zbY (zdi<|ix h.Mons m mZ)=true):SameB (zdi<|ix h.Mons m mZ) (zK h m):=by obtain⟨c,a⟩:=zcX.1 b;refine⟨?_,?_,d.trans (zx4 c a).symm⟩<;>unfold zK zdi<;>rw [a]<;>rfl
def zbb0:zjl zQT 8=true:=by decide
def zpu {h:Host}{m:Int}(b:zc9 h m=true):zbY (zdi<|ix h.Mons m mZ)=true:=by obtain⟨c,a⟩:=zcX.1 b;have:=zx4 c a;unfold zK at this;rw[a,cT] at this;unfold zbY at this ⊢;simp only[zdi,zbb0] at *;simp_all
def zfK {x:Mon}(h:zgf x):SmB (zdi x):=⟨show SmM zQT from ⟨by decide,by decide⟩,h.2.2.2.1,h.2.2.2.2.1⟩
def zi0 (h:Host)(m:Int)(b:Bare):Host:=bif zc9 h m then zdA h m b else h
def zhw (h:Host)(m:Int)(ok:Bool):Bool:=bif zc9 h m then ok else false
@[simp] abbrev zn0 (h:Host)(m:Int)(g p:Int)(s:Slot):Host:=zi0 h m (ze9 (zK h m) g p s)
@[simp] abbrev zn1 (h:Host)(m:Int)(g p:Int)(s:Slot):Bool:=zhw h m (zf5 (zK h m) g p s)
@[simp] abbrev zkc (h:Host)(m:Int)(g v:Int):Host:=zi0 h m (zdN (zK h m) g v)
@[simp] abbrev zkd (h:Host)(m:Int)(g v:Int):Bool:=zhw h m (zeB (zK h m) g v)
@[simp] abbrev zkg (h:Host)(m:Int)(g:Int):Host:=zi0 h m (zdP (zK h m) g)
@[simp] abbrev zkh (h:Host)(m:Int)(g:Int):Bool:=zhw h m (zeD (zK h m) g)
@[simp] abbrev zke (h:Host)(m:Int)(g n:Int):Host:=zi0 h m (zdO (zK h m) g n)
@[simp] abbrev zkf (h:Host)(m:Int)(g n:Int):Bool:=zhw h m (zeC (zK h m) g n)
@[simp] abbrev znY (h:Host)(m:Int)(g:Int)(x:Ctl):Host:=zi0 h m (ze8 (zK h m) g x)
@[simp] abbrev znZ (h:Host)(m:Int)(g:Int)(x:Ctl):Bool:=zhw h m (zf4 (zK h m) g x)
@[simp] abbrev zmg (h:Host)(m:Int)(n:Int):Host:=zi0 h m (zfx (zK h m) n)
@[simp] abbrev zmh (h:Host)(m:Int)(n:Int):Bool:=zhw h m (zhm (zK h m) n)
@[simp] abbrev znV (h:Host)(m:Int):Host:=zi0 h m (zfw<|zK h m)
@[simp] abbrev znW (h:Host)(m:Int):Int:=bif zc9 h m then zg1 (zK h m) else -1
@[simp] abbrev znX (h:Host)(m:Int):Bool:=zhw h m (zg2<|zK h m)
@[simp] abbrev zlj (h:Host)(m g p:Int):Bool:=zhw h m (zcu (zK h m) g<|hasB p 4)
def z5V {b c:Bare}(a:SameB b c)(n:Int):(zlQ b n).Guests=(zlQ c n).Guests/\(zlQ b n).Pending=(zlQ c n).Pending/\zgw b n=zgw c n:=by have e:zgw b n=zgw c n:=(by unfold zgw;rw[a.o]);unfold zlQ;rw[e];cases zgw c n;{exact⟨a.g,a.p,rfl⟩};{unfold zF4;rw[a.g];cases ieq (ln<|ze0 c.Guests n) 0;{exact⟨by simp only[cT,cF],by simp only[cT,cF,a.p],rfl⟩};{exact⟨by simp only[cT,a.g],by simp only[cT,a.p],rfl⟩}}
def z6M {b c:Bare}(a:SameB b c):(zoG b).Guests=(zoG c).Guests/\(zoG b).Pending=(zoG c).Pending/\zvf b=zvf c/\zok b=zok c:=by unfold zoG zvf zok;rw[a.o,a.p];cases zbY c;{exact⟨a.g,a.p,rfl,rfl⟩};{exact⟨a.g,rfl,rfl,rfl⟩}
def z6u {b:Bare}{n:Int}(h:SmB b):SmB (zlQ b n):=by unfold zlQ;cases zgw b n;{exact h};{unfold zF4;cases ieq (ln<|ze0 b.Guests n) 0;{exact⟨h.1,(zFq _ zNP h.2.1).1,h.2.2⟩};{exact h}}
def z8O {b:Bare}(h:SmB b):SmB (zoG b):=by unfold zoG;cases zbY b;{exact h};{exact h}
def zuQ {H a:Host}{x y:Bool}(c:H=a)(d:x=y):some [AV.agg<|zbn H,AV.one<|.b x]=some [AV.agg<|zbn a,AV.one<|.b y]:=by rw[c,d]
def zbbl {H a:Host}{n k:Int}{x y:Bool}(c:H=a)(d:n=k)(e:x=y):some [AV.agg<|zbn H,AV.one<|.i .i64 n,AV.one<|.b x]=some [AV.agg<|zbn a,AV.one<|.i .i64 k,AV.one<|.b y]:=by rw[c,d,e]
def z04 {b:Bare}(g p:Int)(s:Slot)(a:SmB b):SmB (ze9 b g p s):=zrX a (z8R _ _<|zjv _ a)
def z8K {b c:Bare}(a:SameB b c)(h:Host)(m:Int)(g p:Int)(s:Slot):zdA h m (ze9 b g p s)=zdA h m (ze9 c g p s)/\zf5 b g p s=zf5 c g p s:=by have e:=a.at g;simp only[ze9,zf5,e];exact⟨zrn a _ _ _ _ _,zmU a _ _⟩
@[simp] abbrev zym (h:Host)(m:Int)(g p:Int)(s:Slot):Bool:=pc (zdm h)
def zCl:Run:=rF5 dH dI dI dI (dT .slot) λb c d e f=>(zym b c d e f,[aH<|zn0 b c d e f,aB<|zn1 b c d e f])
def zHu (N:Nat)(g:Host)(b d e:Int)(f:Slot):OA:=
 let a:=zl g;let c:=ix a.Mons b zi; (oN (zbt g)<|oN (zgt a b)<|cond (nB<|zgs a b) (some [aH a,aB false])<|oN (inb b<|ln a.Mons)<|oN (zfA c)<|oN (zsw (zbU c) d e f)<|oN (zfz a b<|ze9 (zbU c) d e f)<|some [aH<|zih a b<|ze9 (zbU c) d e f,aB<|zf5 (zbU c) d e f])
def zT0 (a:Host)(c d e:Int)(f:Slot)(n:zym a c d e f=true):∃N,zHu N a c d e f=some [aH<|zn0 a c d e f,aB<|zn1 a c d e f]:=by
 have i:=(zT a).1 (zO.1 n);refine⟨0,?_⟩;have j:=zo8 (h:=a) (m:=c) (cB:=zsw (zdi<|ix a.Mons c mZ) d e f) (B:=ze9 (zdi<|ix a.Mons c mZ) d e f) (o0:=λH=>[.agg<|zbn H,.one<|.b false]) (o1:=λH=>[.agg<|zbn H,.one<|.b<|zf5 (zdi<|ix a.Mons c mZ) d e f]) i
  (λg=>zbd (zfK<|i.2.1.2 _<|zbK (zcX.1 g).2 _)) (λg=>z04 _ _ _ (zfK<|i.2.1.2 _<|zbK (zcX.1 g).2 _))
 refine(show zHu 0 a c d e f=_ from j).trans ?_;unfold zn0 zn1 zi0 zhw;cases g:zc9 a c;{rfl};{obtain⟨k,l⟩:=z8K (zkE g<|zpu g) a c d e f;simp only[cT];exact zuQ k l}
def zMz:vM 332 zCl:=kF5 zkz zA zcf zdy (zq []) zT0
def zN6 {b:Bare}(g v:Int)(a:SmB b):SmB (zdN b g v):=zrX a (z8P _<|zjv _ a)
def zZ2 {b c:Bare}(a:SameB b c)(h:Host)(m:Int)(g v:Int):zdA h m (zdN b g v)=zdA h m (zdN c g v)/\zeB b g v=zeB c g v:=by have e:=a.at g;simp only[zdN,zeB,e];exact⟨zrn a _ _ _ _ _,zmU a _ _⟩
@[simp] abbrev zrP (h:Host)(m:Int)(g v:Int):Bool:=pc (zdm h)
def zvX:Run:=rF4 dH dI dI dI λb c d e=>(zrP b c d e,[aH<|zkc b c d e,aB<|zkd b c d e])
def zyP (N:Nat)(f:Host)(b d e:Int):OA:=
 let a:=zl f;let c:=ix a.Mons b zi; (oN (zbt f)<|oN (zgt a b)<|cond (nB<|zgs a b) (some [aH a,aB false])<|oN (inb b<|ln a.Mons)<|oN (zfA c)<|oN (znl (zbU c) d e)<|oN (zfz a b<|zdN (zbU c) d e)<|some [aH<|zih a b<|zdN (zbU c) d e,aB<|zeB (zbU c) d e])
def zJ5 (a:Host)(c d e:Int)(l:zrP a c d e=true):∃N,zyP N a c d e=some [aH<|zkc a c d e,aB<|zkd a c d e]:=by
 have g:=(zT a).1 (zO.1 l);refine⟨0,?_⟩;have i:=zo8 (h:=a) (m:=c) (cB:=znl (zdi<|ix a.Mons c mZ) d e) (B:=zdN (zdi<|ix a.Mons c mZ) d e) (o0:=λH=>[.agg<|zbn H,.one<|.b false]) (o1:=λH=>[.agg<|zbn H,.one<|.b<|zeB (zdi<|ix a.Mons c mZ) d e]) g
  (λf=>zbd (zfK<|g.2.1.2 _<|zbK (zcX.1 f).2 _)) (λf=>zN6 _ _ (zfK<|g.2.1.2 _<|zbK (zcX.1 f).2 _))
 refine(show zyP 0 a c d e=_ from i).trans ?_;unfold zkc zkd zi0 zhw;cases f:zc9 a c;{rfl};{obtain⟨j,k⟩:=zZ2 (zkE f<|zpu f) a c d e;simp only[cT];exact zuQ j k}
def zEm:vM 334 zvX:=kF4 zkz zA zcf zdy (zq []) zJ5
def zN8 {b:Bare}(g:Int)(a:SmB b):SmB (zdP b g):=zrX a (z8Q<|zjv _ a)
def zZ4 {b c:Bare}(a:SameB b c)(h:Host)(m:Int)(g:Int):zdA h m (zdP b g)=zdA h m (zdP c g)/\zeD b g=zeD c g:=by have e:=a.at g;simp only[zdP,zeD,e];exact⟨zrn a _ _ _ _ _,zmU a _ _⟩
@[simp] abbrev zrR (h:Host)(m:Int)(g:Int):Bool:=pc (zdm h)
def zvZ:Run:=rF3 dH dI dI λb c d=>(zrR b c d,[aH<|zkg b c d,aB<|zkh b c d])
def zyR (N:Nat)(e:Host)(b d:Int):OA:=
 let a:=zl e;let c:=ix a.Mons b zi; (oN (zbt e)<|oN (zgt a b)<|cond (nB<|zgs a b) (some [aH a,aB false])<|oN (inb b<|ln a.Mons)<|oN (zfA c)<|oN (zc4 (zbU c) d)<|oN (zfz a b<|zdP (zbU c) d)<|some [aH<|zih a b<|zdP (zbU c) d,aB<|zeD (zbU c) d])
def zJ7 (a:Host)(c d:Int)(k:zrR a c d=true):∃N,zyR N a c d=some [aH<|zkg a c d,aB<|zkh a c d]:=by
 have f:=(zT a).1 (zO.1 k);refine⟨0,?_⟩;have g:=zo8 (h:=a) (m:=c) (cB:=zc4 (zdi<|ix a.Mons c mZ) d) (B:=zdP (zdi<|ix a.Mons c mZ) d) (o0:=λH=>[.agg<|zbn H,.one<|.b false]) (o1:=λH=>[.agg<|zbn H,.one<|.b<|zeD (zdi<|ix a.Mons c mZ) d]) f
  (λe=>zbd (zfK<|f.2.1.2 _<|zbK (zcX.1 e).2 _)) (λe=>zN8 _ (zfK<|f.2.1.2 _<|zbK (zcX.1 e).2 _))
 refine(show zyR 0 a c d=_ from g).trans ?_;unfold zkg zkh zi0 zhw;cases e:zc9 a c;{rfl};{obtain⟨i,j⟩:=zZ4 (zkE e<|zpu e) a c d;simp only[cT];exact zuQ i j}
def zEo:vM 335 zvZ:=kF3 zkz zA zcf zdy (zq []) zJ7
def zN7 {b:Bare}(g n:Int)(a:SmB b):SmB (zdO b g n):=zrX a (zjv (b:=b) _ a)
def zZ3 {b c:Bare}(a:SameB b c)(h:Host)(m:Int)(g n:Int):zdA h m (zdO b g n)=zdA h m (zdO c g n)/\zeC b g n=zeC c g n:=by have e:=a.at g;simp only[zdO,zeC,e];exact⟨zrn a _ _ _ _ _,zmU a _ _⟩
@[simp] abbrev zrQ (h:Host)(m:Int)(g n:Int):Bool:=pc (zdm h)
def zvY:Run:=rF4 dH dI dI dI λb c d e=>(zrQ b c d e,[aH<|zke b c d e,aB<|zkf b c d e])
def zyQ (N:Nat)(f:Host)(b d e:Int):OA:=
 let a:=zl f;let c:=ix a.Mons b zi; (oN (zbt f)<|oN (zgt a b)<|cond (nB<|zgs a b) (some [aH a,aB false])<|oN (inb b<|ln a.Mons)<|oN (zfA c)<|oN (znm (zbU c) d e)<|oN (zfz a b<|zdO (zbU c) d e)<|some [aH<|zih a b<|zdO (zbU c) d e,aB<|zeC (zbU c) d e])
def zJ6 (a:Host)(c d e:Int)(l:zrQ a c d e=true):∃N,zyQ N a c d e=some [aH<|zke a c d e,aB<|zkf a c d e]:=by
 have g:=(zT a).1 (zO.1 l);refine⟨0,?_⟩;have i:=zo8 (h:=a) (m:=c) (cB:=znm (zdi<|ix a.Mons c mZ) d e) (B:=zdO (zdi<|ix a.Mons c mZ) d e) (o0:=λH=>[.agg<|zbn H,.one<|.b false]) (o1:=λH=>[.agg<|zbn H,.one<|.b<|zeC (zdi<|ix a.Mons c mZ) d e]) g
  (λf=>zbd (zfK<|g.2.1.2 _<|zbK (zcX.1 f).2 _)) (λf=>zN7 _ _ (zfK<|g.2.1.2 _<|zbK (zcX.1 f).2 _))
 refine(show zyQ 0 a c d e=_ from i).trans ?_;unfold zke zkf zi0 zhw;cases f:zc9 a c;{rfl};{obtain⟨j,k⟩:=zZ3 (zkE f<|zpu f) a c d e;simp only[cT];exact zuQ j k}
def zEn:vM 336 zvY:=kF4 zkz zA zcf zdy (zq []) zJ6
def z03 {b:Bare}(g:Int)(x:Ctl)(a:SmB b):SmB (ze8 b g x):=zrX a (zjv (b:=b) _ a)
def z8J {b c:Bare}(a:SameB b c)(h:Host)(m:Int)(g:Int)(x:Ctl):zdA h m (ze8 b g x)=zdA h m (ze8 c g x)/\zf4 b g x=zf4 c g x:=by have e:=a.at g;simp only[ze8,zf4,e];exact⟨zrn a _ _ _ _ _,zmU a _ _⟩
@[simp] abbrev zyk (h:Host)(m:Int)(g:Int)(x:Ctl):Bool:=pc (zdm h)
def zCj:Run:=rF4 dH dI dI dC λb c d e=>(zyk b c d e,[aH<|znY b c d e,aB<|znZ b c d e])
def zHr (N:Nat)(f:Host)(b d:Int)(e:Ctl):OA:=
 let a:=zl f;let c:=ix a.Mons b zi; (oN (zbt f)<|oN (zgt a b)<|cond (nB<|zgs a b) (some [aH a,aB false])<|oN (inb b<|ln a.Mons)<|oN (zfA c)<|oN (zsv (zbU c) d e)<|oN (zfz a b<|ze8 (zbU c) d e)<|some [aH<|zih a b<|ze8 (zbU c) d e,aB<|zf4 (zbU c) d e])
def zTX (a:Host)(c d:Int)(e:Ctl)(l:zyk a c d e=true):∃N,zHr N a c d e=some [aH<|znY a c d e,aB<|znZ a c d e]:=by
 have g:=(zT a).1 (zO.1 l);refine⟨0,?_⟩;have i:=zo8 (h:=a) (m:=c) (cB:=zsv (zdi<|ix a.Mons c mZ) d e) (B:=ze8 (zdi<|ix a.Mons c mZ) d e) (o0:=λH=>[.agg<|zbn H,.one<|.b false]) (o1:=λH=>[.agg<|zbn H,.one<|.b<|zf4 (zdi<|ix a.Mons c mZ) d e]) g
  (λf=>zbd (zfK<|g.2.1.2 _<|zbK (zcX.1 f).2 _)) (λf=>z03 _ _ (zfK<|g.2.1.2 _<|zbK (zcX.1 f).2 _))
 refine(show zHr 0 a c d e=_ from i).trans ?_;unfold znY znZ zi0 zhw;cases f:zc9 a c;{rfl};{obtain⟨j,k⟩:=z8J (zkE f<|zpu f) a c d e;simp only[cT];exact zuQ j k}
def zMx:vM 337 zCj:=kF4 zkz zA zcf zdy (zq []) zTX
def zXY {b:Bare}(n:Int)(a:SmB b):SmB (zfx b n):=z6u a
def z6m {b c:Bare}(f:SameB b c)(h:Host)(m n:Int):zdA h m (zfx b n)=zdA h m (zfx c n)/\zhm b n=zhm c n:=by obtain⟨a,d,e⟩:=z5V f n;exact⟨back_eq a d,e⟩
@[simp] abbrev zwa (h:Host)(m:Int)(n:Int):Bool:=pc (zdm h)
def zzR:Run:=rF3 dH dI dI λb c d=>(zwa b c d,[aH<|zmg b c d,aB<|zmh b c d])
def zDu (N:Nat)(e:Host)(b d:Int):OA:=
 let a:=zl e;let c:=ix a.Mons b zi; (oN (zbt e)<|oN (zgt a b)<|cond (nB<|zgs a b) (some [aH a,aB false])<|oN (inb b<|ln a.Mons)<|oN (zfA c)<|oN (zeO (zbU c) d)<|oN (zfz a b<|zfx (zbU c) d)<|some [aH<|zih a b<|zfx (zbU c) d,aB<|zhm (zbU c) d])
def zQC (a:Host)(c d:Int)(k:zwa a c d=true):∃N,zDu N a c d=some [aH<|zmg a c d,aB<|zmh a c d]:=by
 have f:=(zT a).1 (zO.1 k);refine⟨0,?_⟩;have g:=zo8 (h:=a) (m:=c) (cB:=zeO (zdi<|ix a.Mons c mZ) d) (B:=zfx (zdi<|ix a.Mons c mZ) d) (o0:=λH=>[.agg<|zbn H,.one<|.b false]) (o1:=λH=>[.agg<|zbn H,.one<|.b<|zhm (zdi<|ix a.Mons c mZ) d]) f
  (λe=>zbd (zfK<|f.2.1.2 _<|zbK (zcX.1 e).2 _)) (λe=>zXY _ (zfK<|f.2.1.2 _<|zbK (zcX.1 e).2 _))
 refine(show zDu 0 a c d=_ from g).trans ?_;unfold zmg zmh zi0 zhw;cases e:zc9 a c;{rfl};{obtain⟨i,j⟩:=z6m (zkE e<|zpu e) a c d;simp only[cT];exact zuQ i j}
def zJA:vM 340 zzR:=kF3 zkz zA zcf zdy (zq []) zQC
def z02 {b:Bare}(a:SmB b):SmB (zfw b):=z8O a
def z8I {b c:Bare}(g:SameB b c)(h:Host)(m:Int):zdA h m (zfw b)=zdA h m (zfw c)/\zg1 b=zg1 c/\zg2 b=zg2 c:=by obtain⟨a,d,e,f⟩:=z6M g;exact⟨back_eq a d,e,f⟩
def zCi:Run:=rF2 dH dI λb c=>(zdo b c,[aH<|znV b c,aI<|znW b c,aB<|znX b c])
def zHp (N:Nat)(d:Host)(b:Int):OA:=
 let a:=zl d;let c:=ix a.Mons b zi; (oN (zbt d)<|oN (zgt a b)<|cond (nB<|zgs a b) (some [aH a,aI<|-1,aB false])<|oN (inb b<|ln a.Mons)<|oN (zfA c)<|oN (zcl<|zbU c)<|oN (zfz a b<|zfw<|zbU c)<|some [aH<|zih a b<|zfw<|zbU c,aI<|zg1<|zbU c,aB<|zg2<|zbU c])
def zTV (a:Host)(c:Int)(l:zdo a c=true):∃N,zHp N a c=some [aH<|znV a c,aI<|znW a c,aB<|znX a c]:=by
 have e:=(zT a).1 (zO.1 l);refine⟨0,?_⟩;have f:=zo8 (h:=a) (m:=c) (cB:=zcl (zdi<|ix a.Mons c mZ)) (B:=zfw (zdi<|ix a.Mons c mZ)) (o0:=λH=>[.agg<|zbn H,.one<|.i .i64<|-1,.one<|.b false]) (o1:=λH=>[.agg<|zbn H,.one<|.i .i64<|zg1<|zdi<|ix a.Mons c mZ,.one<|.b<|zg2<|zdi<|ix a.Mons c mZ]) e
  (λd=>zbd (zfK<|e.2.1.2 _<|zbK (zcX.1 d).2 _)) (λd=>z02 (zfK<|e.2.1.2 _<|zbK (zcX.1 d).2 _))
 refine(show zHp 0 a c=_ from f).trans ?_;unfold znV znW znX zi0 zhw;cases d:zc9 a c;{rfl};{obtain⟨g,j,k⟩:=z8I (zkE d<|zpu d) a c;simp only[cT];exact zbbl g j k}
def zMw:vM 341 zCi:=kF2 zkz zA zcf zdy (zq []) zTV
def z4j:zY:=[(332,zCl),(334,zvX),(335,zvZ),(336,zvY),(337,zCj),(340,zzR),(341,zCi)]++z4i
def zs6:zS z4j:=zh zMz (zh zEm<|zh zEo<|zh zEn<|zh zMx<|zh zJA<|zh zMw zkz)
def zjM (h:Host)(m t:Int):Host:=bif zb2 h then (cond (hasB m<|ln h.Mons) (cond (zk t 0 3) {h with Mons:=up h.Mons m {ix h.Mons m mZ with Traps:=t}} h) h) else h
def zuO (h:Host)(m t:Int):Bool:=bif zb2 h then (cond (hasB m<|ln h.Mons) (zk t 0 3) false) else false
@[simp] abbrev zkp (h:Host)(m t:Int):Bool:=pc (zdm h)
@[simp] abbrev zfy (h:Host)(m t:Int):Host:=zjM h m t
@[simp] abbrev zhp (h:Host)(m t:Int):Bool:=zuO h m t
def zis:Run:=rF3 dH dI dI λb c d=>(zkp b c d,[aH<|zfy b c d,aB<|zhp b c d])
def zDA (N:Nat)(d:Host)(b c:Int):OA:=
 let a:=zl d; (oN (zbt d)<|oN (zeb a)<|cond (nB<|zdZ a) (some [aH a,aB false])<|oN (zL b 0<|wsub .i64 (ln a.Mons) 1)<|cond (nB<|zk b 0<|wsub .i64 (ln a.Mons) 1) (some [aH a,aB false])<|oN (zL c 0 3)<|cond (nB<|zk c 0 3) (some [aH a,aB false])<|oN (inb b<|ln a.Mons)<|share (up a.Mons b ({ (ix a.Mons b zi) with Traps:=c}:Mon)) λe=>some [aH ({a with Mons:=e}:Host),aB true])
def zQI (a:Host)(b c:Int)(d:zkp a b c=true):∃N,zDA N a b c=some [aH<|zfy a b c,aB<|zhp a b c]:=by
 have g:=(zT a).1 (zO.1 d);refine⟨0,?_⟩;unfold zDA zfy zhp zjM zuO oN nB;conv=>zeta
 refine must d (must rfl ?_);rw[show zdZ (zl a)=zb2 a from rfl];cases e:zb2 a;{rfl};{refine zda rfl (must rfl ?_);rw[show zk b 0 (wsub .i64 (ln (zl a).Mons) 1)=hasB b (ln a.Mons) from zRy e b];cases f:hasB b (ln a.Mons);{rfl};{refine zda rfl (must rfl ?_);rw[show zk c 0 3=zk c 0 3 from rfl];cases h:zk c 0 3;{rfl};{exact zda rfl (must (zB f) rfl)}}}
def zvC:vM 44 zis:=kF3 zs6 zA zcf zdy (zq []) zQI
def zC5 (N:Nat)(b:Host)(c d:Int):OA:=
 let a:=zl b; (oN (zbt b)<|oN (zeb b)<|cond (nB<|zdZ b) (some [aH a,aB false])<|oN (zby c<|ln b.Mons)<|cond (nB<|zdk c<|ln b.Mons) (some [aH a,aB false])<|oN (zL d 0 3)<|cond (nB<|zk d 0 3) (some [aH a,aB false])<|oN (inb c<|ln a.Mons)<|share (up a.Mons c ({ (ix a.Mons c zi) with Traps:=d}:Mon)) λe=>some [aH ({a with Mons:=e}:Host),aB true])
def zQh (a:Host)(b c:Int)(d:zkp a b c=true):∃N,zC5 N a b c=some [aH<|zfy a b c,aB<|zhp a b c]:=by
 have g:=(zT a).1 (zO.1 d);refine⟨0,?_⟩;unfold zC5 zfy zhp zjM zuO oN nB;conv=>zeta
 refine must d (must rfl ?_);rw[show zdZ a=zb2 a from rfl];cases f:zb2 a;{rfl};{refine zda rfl (must rfl ?_);rw[show zdk b (ln a.Mons)=hasB b (ln a.Mons) from rfl];cases e:hasB b (ln a.Mons);{rfl};{refine zda rfl (must rfl ?_);rw[show zk c 0 3=zk c 0 3 from rfl];cases h:zk c 0 3;{rfl};{exact zda rfl (must (zB e) rfl)}}}
def zvv:vM 43 zis:=kF3 zs6 zA zcf zdy (zq []) zQh
def zlE {h:Host}{m p:Int}:(zcW h m p=true)↔zb2 h=true/\hasB m (ln h.Mons)=true/\hasB p 8=true:=by unfold zcW;cases zb2 h<;>cases hasB m (ln h.Mons)<;>simp
def zlP (h:Host)(m p:Int):Bool:=ieq (ix (ix h.Mons m mZ).Outer p sZ).Page (-1)
def zrF (h:Host)(m p:Int):Host:=bif zcW h m p then (cond (zlP h m p) h<|zef h m p) else h
def zEW (h:Host)(m p:Int):Bool:=bif zcW h m p then !zlP h m p else false
def zvN (h:Host)(m p:Int):Host:=bif zcW h m p then (cond (zlP h m p) (fetched h m p) h) else h
def zKh (h:Host)(m p:Int):Bool:=bif zcW h m p then zlP h m p else false
@[simp] abbrev zsB (h:Host)(m p:Int):Host:=zrF h m p
@[simp] abbrev zsC (h:Host)(m p:Int):Bool:=zEW h m p
@[simp] abbrev zuG (h:Host)(m p:Int):Host:=zvN h m p
@[simp] abbrev zuH (h:Host)(m p:Int):Bool:=zKh h m p
def zND {h:Host}(f:SmH h)(c:zb2 h=true){m p:Int}(d:hasB m (ln h.Mons)=true)(e:hasB p 8=true) :
 (cond (ieq (ix (ix h.Mons m mZ).Outer p sZ).Page<|-1) (ieq (ix (ix h.Mons m mZ).Outer p sZ).Rights 0) false)=zlP h m p:=by
 have a:=(zuv (zh2 c _<|zbK d mZ) e).no;unfold zc1 at a;unfold zlP;rw[<- a];cases b:ieq (ix (ix h.Mons m mZ).Outer p sZ).Page (-1)<;>simp [noSlot,b]
def zSI {h:Host}(d:SmH h)(a:zb2 h=true){m p:Int}(b:hasB m (ln h.Mons)=true)(c:hasB p 8=true):inb p (ln (ix h.Mons m mZ).Outer)=true :=
 zB (by rw[ln,((zgj d a).1.2 _ (zbK b mZ)).1];exact c)
def zCo:Run:=rF3 dH dI dI λb c d=>(zjq b c d,[aH<|zsB b c d,aB<|zsC b c d])
def zHy (N:Nat)(e:Host)(c b:Int):OA:=
 let a:=zl e;let d:=(ix a.Mons c zi).Outer; (oN (zbt e)<|oN (zpq a c b)<|cond (nB<|zgz a c b) (some [aH a,aB false])<|oN (inb c<|ln a.Mons)<|oN (inb b<|ln d)<|oN zbI<|cond (cond (ieq (ix d b zX).Page zbc.Page) (ieq (ix d b zX).Rights zbc.Rights) false) (some [aH a,aB false])<|oN (zk8 a c b)<|some [aH<|zo1 a c b,aB true])
def zT3 (a:Host)(b c:Int)(h:zjq a b c=true):∃N,zHy N a b c=some [aH<|zsB a b c,aB<|zsC a b c]:=by
 have g:=(zT a).1 (zO.1 h);refine⟨0,?_⟩;unfold zHy zsB zsC zrF zEW oN nB;conv=>zeta
 refine must h (must rfl ?_);rw[show zgz (zl a) b c=zcW a b c from rfl];cases i:zcW a b c;{rfl};{obtain⟨e,d,f⟩:=zlE.1 i;refine zda rfl (must (zB d)<|must (zSI g e d f) (must rfl ?_));rw[show (cond (ieq (ix (ix (zl a).Mons b zi).Outer c zX).Page zbc.Page) (ieq (ix (ix (zl a).Mons b zi).Outer c zX).Rights zbc.Rights) false)=zlP a b c from zND g e d f];cases j:zlP a b c;{exact zda rfl (must (zbd ⟨(zgj g e).1,d,f⟩) rfl)};{rfl}}
def zMD:vM 357 zCo:=kF3 zs6 zA zcf zdy (zq []) zT3
def zE9:Run:=rF3 dH dI dI λb c d=>(zjq b c d,[aH<|zuG b c d,aB<|zuH b c d])
def zLn (N:Nat)(e:Host)(c b:Int):OA:=
 let a:=zl e;let d:=(ix a.Mons c zi).Outer; (oN (zbt e)<|oN (zpq a c b)<|cond (nB<|zgz a c b) (some [aH a,aB false])<|oN (inb c<|ln a.Mons)<|oN (inb b<|ln d)<|oN zbI<|cond (nB<|cond (ieq (ix d b zX).Page zbc.Page) (ieq (ix d b zX).Rights zbc.Rights) false) (some [aH a,aB false])<|oN (zmE a c b)<|some [aH<|zny a c b,aB true])
def zWM (a:Host)(b c:Int)(h:zjq a b c=true):∃N,zLn N a b c=some [aH<|zuG a b c,aB<|zuH a b c]:=by
 have g:=(zT a).1 (zO.1 h);refine⟨0,?_⟩;unfold zLn zuG zuH zvN zKh oN nB;conv=>zeta
 refine must h (must rfl ?_);rw[show zgz (zl a) b c=zcW a b c from rfl];cases i:zcW a b c;{rfl};{obtain⟨e,d,f⟩:=zlE.1 i;refine zda rfl (must (zB d)<|must (zSI g e d f) (must rfl ?_));rw[show (cond (ieq (ix (ix (zl a).Mons b zi).Outer c zX).Page zbc.Page) (ieq (ix (ix (zl a).Mons b zi).Outer c zX).Rights zbc.Rights) false)=zlP a b c from zND g e d f];cases j:zlP a b c;{rfl};{exact zda rfl (must (zbd ⟨zgj g e,d,f⟩) rfl)}}
def zPF:vM 358 zE9:=kF3 zs6 zA zcf zdy (zq []) zWM
def z4k:zY:=[(44,zis),(43,zis),(357,zCo),(358,zE9)]++z4j
def zR9:zS z4k:=zh zvC (zh zvv<|zh zMD<|zh zPF zs6)
def z3D {x:Mon}{b:Bare}(h:zgf x)(a:zl0 b.Guests):zgf (zwH x b):=⟨h.1,h.2.1,h.2.2.1,a,h.2.2.2.2⟩
def zKB {h:Host}{m:Int}{b:Bare}(a:SmH h)(d:hasB m (ln h.Mons)=true)(c:zl0 b.Guests):SmH (zdA h m b):=
 ⟨a.1,zkF a.2.1<|z3D (a.2.1.2 _<|zbK d _) c,a.2.2⟩
def zVe {h:Host}{m:Int}(b:Bare)(a:hasB m (ln h.Mons)=true):hasB m (ln (zdA h m b).Mons)=true:=by show hasB m (ln<|up h.Mons m _)=true;rw[ln,zhR];exact a
def zbbc {h:Host}{m:Int}(b:Bare)(c:hasB m (ln h.Mons)=true):ix (zdA h m b).Mons m mZ=zwH (ix h.Mons m mZ) b:=by obtain⟨k,rfl,a⟩:=zeo (n:=h.Mons.length) c;exact zez a _ _
def zD7 (h:Host)(m g p:Int):Host:=⟨h.Memory,up h.Mons m {ix h.Mons m mZ with Tables:=up (ix h.Mons m mZ).Tables g (zb8 (ix (ix h.Mons m mZ).Tables g kZ) p)},zcY h.Buffer (zes m g) p,zcY h.IoBuffer (zes m g) p⟩
def z4S (H:Host)(m g p:Int)(o:Host->Ans):OA:=
 bif inb m (ln H.Mons) then (bif inb m (ln H.Mons) then (bif inb g (ln (ix H.Mons m mZ).Tables) then (bif zdY (ix (ix H.Mons m mZ).Tables g kZ) p then (bif inb g (ln (ix H.Mons m mZ).Tables) then (share (up H.Mons m {ix H.Mons m mZ with Tables:=up (ix H.Mons m mZ).Tables g (zb8 (ix (ix H.Mons m mZ).Tables g kZ) p)}) λx=>
  (cond (zh9 m g) (cond (zfH H.Buffer (zes m g) p) (cond (zh9 m g) (cond (zfH H.IoBuffer (zes m g) p) (some<|o ⟨H.Memory,x,zcY H.Buffer (zes m g) p,zcY H.IoBuffer (zes m g) p⟩) none) none) none) none)) else none) else none) else none) else none) else none
def z4T {H:Host}{m g p:Int}{o:Host->Ans}(b:SmH H)(a:hasB m (ln H.Mons)=true)(hg:hasB g (ln (ix H.Mons m mZ).Tables)=true):z4S H m g p o=some (o<|zD7 H m g p):=by have c:=b.2.1.2 _ (zbK a mZ);unfold z4S;exact must (zB a) (must (zB a)<|must (zB hg)<|must (zbd<|c.2.2.2.2.2.2 _<|zbK hg _)<|must (zB hg)<|shr (must rfl (must (zbd b.2.2.1) (must rfl (must (zbd b.2.2.2) rfl)))))
def zl9 (h:Host)(m g p:Int):Host:=bif zc9 h m then (cond (zcu (zK h m) g<|hasB p 4) (zD7 (zdA h m<|chg (zK h m) g (hasB p 4)<|zet (gAt (zK h m) g) p) m g p) h) else h
@[simp] abbrev zt2 (h:Host)(m g p:Int):Bool:=pc (zdm h)
@[simp] abbrev zox (h:Host)(m g p:Int):Host:=zl9 h m g p
def zZ5 {h:Host}{m:Int}(a:hasB m (ln h.Mons)=true):(zK h m).Guests=(ix h.Mons m mZ).Guests:=by unfold zK;rw[a];rfl
def zSq {h:Host}{m g:Int}{k:Bool}(i:SmH h)(e:zc9 h m=true)(b:Bare)(a:zcu (zK h m) g k=true):hasB g (ln (ix (zdA h m b).Mons m mZ).Tables)=true:=by obtain⟨f,c⟩:=zcX.1 e;rw[zbbc b c];show hasB g (ln (ix h.Mons m mZ).Tables)=true;rw[ln,((zgj i f).1.2 _ (zbK c mZ)).2.2.2,<- zZ5 c];unfold zcu at a;cases d:zct (zK h m) g;{rw [d]at a;cases a};{exact(zeh.1 d).2}
def zxu:Run:=rF4 dH dI dI dI λb c d e=>(zt2 b c d e,[aH<|zox b c d e,aB<|zlj b c d e])
def zBS (N:Nat)(i:Host)(a b c:Int):OA:=
 let h:=zlG a b;let e:=zl i;let g:=ix e.Mons a zi;let d:=zih e a<|zfF (zbU g) b c;let f:=ix d.Mons a zi;let j:=ix f.Tables b zdz; (oN (zbt i)<|oN (zgt e a)<|cond (nB<|zgs e a) (some [aH e,aB false])<|oN (inb a<|ln e.Mons)<|oN (zfA g)<|oN (zt1 (zbU g) b c)<|cond (nB<|zi9 (zbU g) b c) (some [aH e,aB false])<|oN (zfz e a<|zfF (zbU g) b c)<|oN (inb a<|ln d.Mons)<|oN (inb a<|ln d.Mons)<|oN (inb b<|ln f.Tables)<|oN (zdY j c)<|oN (inb b<|ln f.Tables)<|share (up d.Mons a ({f with Tables:=(up f.Tables b<|zhI j c)}:Mon)) λk=>oN (zh9 a b)<|oN (zfH d.Buffer h c)<|oN (zh9 a b)<|oN (zfH d.IoBuffer h c)<|some [aH (⟨d.Memory,k,zh6 d.Buffer h c,zh6 d.IoBuffer h c⟩:Host),aB true])
def zNv (a:Host)(c d e:Int)(j:zbL big [aH a,aI c,aI d,aI e])(q:zt2 a c d e=true):∃N,zBS N a c d e=some [aH<|zox a c d e,aB<|zlj a c d e]:=by
 have k:=(zT a).1 (zO.1 q);refine⟨0,?_⟩;unfold zBS zox zlj zl9 zhw oN nB;conv=>zeta
 refine must q (must rfl ?_);rw[show zgs (zl a) c=zc9 a c from rfl];cases h:zc9 a c;{rfl};{obtain⟨v,f⟩:=zcX.1 h;have r:=k.2.1.2 _ (zbK f mZ);have l:=zfK r;have i:=zkE h (zpu h);have u:zcu (zdi<|ix a.Mons c mZ) d (hasB e 4)=zcu (zK a c) d (hasB e 4):=zmU i _ _;have s:zdA a c (zfF (zdi<|ix a.Mons c mZ) d e)=zdA a c (chg (zK a c) d (hasB e 4)<|zet (gAt (zK a c) d) e):=(by rw[<- i.at];exact zrn i _ _ _ _ _);refine zda rfl (must (zB f)<|must (zbd r)<|must (zbd l) ?_);rw[show zi9 (zbU<|ix (zl a).Mons c zi) d e=zcu (zK a c) d (hasB e 4) from u];cases t:zcu (zK a c) d (hasB e 4);{rfl};{have j:SmB (zfF (zdi<|ix a.Mons c mZ) d e):=zrX l (zOa _<|zjv _ l);refine zda rfl (must (zbd ⟨f,j.2.1⟩) ?_);have n:=z4T (H:=zdA a c (zfF (zdi<|ix a.Mons c mZ) d e)) (m:=c) (g:=d) (p:=e) (o:=λH=>[.agg<|zbn H,.one<|.b true]) (zKB k f j.2.1) (zVe _ f) (zSq k h _ t);refine(show _=_ from n).trans ?_;rw[s];rfl}}
def zGt:vM 333 zxu:=hF4 zR9 zA zcf zdy (zq []) zNv
def z4l:zY:=[(333,zxu)]++z4k
def zSa:zS z4l:=zh zGt zR9
def zXx (h:Host)(m p c v:Int):Host:={mended h m p 2 with Memory:=zbQ (mended h m p 2).Memory (ix (ix (mended h m p 2).Mons m mZ).Outer p sZ).Page c v}
def zgk (h:Host)(m p c v:Int):Bool:=bif zcW h m p then (cond (hasB c 4) (zk v 0 99) false) else false
def zoP (h:Host)(m p c v:Int):Host:=bif zgk h m p c v then zXx h m p c v else h
@[simp] abbrev zv9 (h:Host)(m p c v:Int):Bool:=pc (zdm h)
@[simp] abbrev zqB (h:Host)(m p c v:Int):Host:=zoP h m p c v
@[simp] abbrev zqC (h:Host)(m p c v:Int):Bool:=zgk h m p c v
def zbaY (H:Host)(m p c v:Int)(o:Host->Ans):OA:=
 bif zid H m p 2 then (cond (inb m<|ln (mended H m p 2).Mons) (cond (inb p<|ln (ix (mended H m p 2).Mons m mZ).Outer) (cond (zey (mended H m p 2).Memory (ix (ix (mended H m p 2).Mons m mZ).Outer p sZ).Page c v) (some<|o<|zXx H m p c v) none) none) none) else none
def z8z {h:Host}{m p c v:Int}{o:Host->Ans}(j:SmH h)(i:zcW h m p=true):zbaY h m p c v o=some (o<|zXx h m p c v):=by obtain⟨g,b,a⟩:=zlE.1 i;have f:=zgj j g;obtain⟨d,e⟩:=zwl (n:=2) f b a;unfold zbaY;refine must (zbd ⟨f,b,a,.inr rfl,zuv (zh2 g _<|zbK b mZ) a⟩) (must (zB e)<|must (zB ?_) (must (zbd d.1.1) rfl));rw[ln,(d.2 _<|zbK e mZ).1];exact a
def zzQ:Run:=rF5 dH dI dI dI dI λb c d e f=>(zv9 b c d e f,[aH<|zqB b c d e f,aB<|zqC b c d e f])
def zDt (N:Nat)(g:Host)(b c:Int)(e f:Int):OA:=
 let a:=zl g;let d:=zhs a b c 2;let h:=(ix d.Mons b zi).Outer;let i:=(ix h c zX).Page; (oN (zbt g)<|oN (zpq a b c)<|cond (nB<|zgz a b c) (some [aH a,aB false])<|oN (zL e 0 3)<|cond (nB<|zk e 0 3) (some [aH a,aB false])<|oN (zL f 0 99)<|cond (nB<|zk f 0 99) (some [aH a,aB false])<|oN (zid a b c 2)<|oN (inb b<|ln d.Mons)<|oN (inb c<|ln h)<|oN (zey d.Memory i e f)<|some [aH ({d with Memory:=(zeP d.Memory i e f)}:Host),aB true])
def zQB (d:Host)(f g:Int)(a e:Int)(i:zv9 d f g a e=true):∃N,zDt N d f g a e=some [aH<|zqB d f g a e,aB<|zqC d f g a e]:=by
 have k:=(zT d).1 (zO.1 i);refine⟨0,?_⟩;unfold zDt zqB zqC zoP zgk oN nB;conv=>zeta
 refine must i (must rfl ?_);rw[show zgz (zl d) f g=zcW d f g from rfl];cases j:zcW d f g;{rfl};{refine zda rfl (must rfl ?_);rw[show zk a 0 3=hasB a 4 from zbdE a];cases l:hasB a 4;{rfl};{refine zda rfl (must rfl ?_);rw[show zk e 0 99=zk e 0 99 from rfl];cases m:zk e 0 99;{rfl};{have h:=z8z (c:=a) (v:=e) (o:=λH=>[.agg<|zbn H,.one<|.b true]) k j;exact zda rfl (show _=_ from h)}}}
def zJz:vM 339 zzQ:=kF5 zSa zA zcf zdy (zq []) zQB
def z4m:zY:=[(339,zzQ)]++z4l
def z4n:zS z4m:=zh zJz zSa
def z4o:zY:=z4m
def zDZ:zS z4o:=z4n
def z5x (h:Host)(b:List Entry)(m g c a:Int)(e:Bool):(lookOf h b m g c a e).2.2=zb5 h m g c a:=by cases d:zb5 h m g c a;{rw [zio d]};{rw [zKc d];unfold zg0 zff;generalize zi5 b m g c a=x;cases x;{generalize ze5 _ m g c a=y;cases y<;>rfl};{rfl}}
def zbbX {h:Host}{m g c a:Int}(b:List Entry)(i:Bool)(f:SmH h)(d:zb5 h m g c a=true):SmM (lookOf h b m g c a i).1.Memory:=by have hg:zbZ h m g=true:=(by unfold zb5 at d;cases e:zbZ h m g;{rw [e]at d;cases d};{rfl});exact(zuX f hg).shape.1.1
def zEw (h:Host)(m g a n:Int):Host×Int×Bool:=lookOf h h.IoBuffer m g (zbo a) n true
def zh1 (h:Host)(m g a v:Int):Bool:=bif zk a 0 15 then (cond (zk v 0 99) (zb5 h m g (zbo a) 2) false) else false
def zrA (h:Host)(m g a v:Int):Host:=bif zh1 h m g a v then { (zEw h m g a 2).1 with Memory:=zbQ (zEw h m g a 2).1.Memory (zEw h m g a 2).2.1 (zdJ a) v} else h
def zgY (h:Host)(m g a:Int):Bool:=bif zk a 0 15 then zb5 h m g (zbo a) 1 else false
def zoQ (h:Host)(m g a:Int):Host:=bif zgY h m g a then (zEw h m g a 1).1 else h
def zth (h:Host)(m g a:Int):Int:=bif zgY h m g a then cellAt (zEw h m g a 1).1.Memory (zEw h m g a 1).2.1 (zdJ a) else 0
@[simp] abbrev zyl (h:Host)(m g a v:Int):Bool:=pc (zdm h)
@[simp] abbrev zsy (h:Host)(m g a v:Int):Host:=zrA h m g a v
@[simp] abbrev zsz (h:Host)(m g a v:Int):Bool:=zh1 h m g a v
@[simp] abbrev zwb (h:Host)(m g a:Int):Bool:=pc (zdm h)
@[simp] abbrev zqD (h:Host)(m g a:Int):Host:=zoQ h m g a
@[simp] abbrev zqE (h:Host)(m g a:Int):Int:=zth h m g a
@[simp] abbrev zqF (h:Host)(m g a:Int):Bool:=zgY h m g a
def zCk:Run:=rF5 dH dI dI dI dI λb c d e f=>(zyl b c d e f,[aH<|zsy b c d e f,aB<|zsz b c d e f])
def zHs (N:Nat)(g:Host)(c d:Int)(a e:Int):OA:=
 let b:=zl g;let h:=zlI b b.IoBuffer c d (zb0 a) 2 true;let f:=zgc b b.IoBuffer c d (zb0 a) 2 true; (oN (zbt g)<|oN (zL a 0 15)<|cond (nB<|zk a 0 15) (some [aH b,aB false])<|oN (zL e 0 99)<|cond (nB<|zk e 0 99) (some [aH b,aB false])<|oN (zbz a)<|oN (zlJ b b.IoBuffer c d (zb0 a) 2 true)<|cond (nB<|zif b b.IoBuffer c d (zb0 a) 2 true) (some [aH f,aB false])<|oN (zbz a)<|oN (zey f.Memory h (zdc a) e)<|some [aH ({f with Memory:=(zeP f.Memory h (zdc a) e)}:Host),aB true])
def zTY (a:Host)(c d:Int)(b e:Int)(f:zyl a c d b e=true):∃N,zHs N a c d b e=some [aH<|zsy a c d b e,aB<|zsz a c d b e]:=by
 have h:=(zT a).1 (zO.1 f);refine⟨0,?_⟩;unfold zHs zsy zsz zrA zh1 oN nB;conv=>zeta
 refine must f (must rfl ?_);rw[show zk b 0 15=zk b 0 15 from rfl];cases i:zk b 0 15;{rfl};{refine zda rfl (must rfl ?_);rw[show zk e 0 99=zk e 0 99 from rfl];cases j:zk e 0 99;{rfl};{refine zda rfl (must rfl (must f ?_));rw[show zif (zl a) (zl a).IoBuffer c d (zb0 b) 2 true=zb5 a c d (zbo b) 2 from z5x _ _ _ _ _ _ _];cases g:zb5 a c d (zbo b) 2;{rw [show zgc (zl a) (zl a).IoBuffer c d (zb0 b) 2 true=a from congrArg Prod.fst (zio g)];rfl};{exact zda rfl (must rfl (must (zbd<|zbbX a.IoBuffer true h g) rfl))}}}
def zMy:vM 342 zCk:=kF5 zDZ zA zcf zdy (zq []) zTY
def zzS:Run:=rF4 dH dI dI dI λb c d e=>(zwb b c d e,[aH<|zqD b c d e,aI<|zqE b c d e,aB<|zqF b c d e])
def zDv (N:Nat)(f:Host)(c d a:Int):OA:=
 let b:=zl f;let g:=zlI b b.IoBuffer c d (zb0 a) 1 true;let e:=zgc b b.IoBuffer c d (zb0 a) 1 true; (oN (zbt f)<|oN (zL a 0 15)<|cond (nB<|zk a 0 15) (some [aH b,aI 0,aB false])<|oN (zbz a)<|oN (zlJ b b.IoBuffer c d (zb0 a) 1 true)<|cond (nB<|zif b b.IoBuffer c d (zb0 a) 1 true) (some [aH e,aI 0,aB false])<|oN (zbz a)<|oN (zeQ e.Memory g<|zdc a)<|some [aH e,aI<|zgl e.Memory g<|zdc a,aB true])
def zQD (a:Host)(c d b:Int)(e:zwb a c d b=true):∃N,zDv N a c d b=some [aH<|zqD a c d b,aI<|zqE a c d b,aB<|zqF a c d b]:=by
 have h:=(zT a).1 (zO.1 e);refine⟨0,?_⟩;unfold zDv zqD zqE zqF zoQ zth zgY oN nB;conv=>zeta
 refine must e (must rfl ?_);rw[show zk b 0 15=zk b 0 15 from rfl];cases g:zk b 0 15;{rfl};{refine zda rfl (must rfl (must e ?_));rw[show zif (zl a) (zl a).IoBuffer c d (zb0 b) 1 true=zb5 a c d (zbo b) 1 from z5x _ _ _ _ _ _ _];cases f:zb5 a c d (zbo b) 1;{rw [show zgc (zl a) (zl a).IoBuffer c d (zb0 b) 1 true=a from congrArg Prod.fst (zio f)];rfl};{exact zda rfl (must rfl (must rfl rfl))}}
def zJB:vM 343 zzS:=kF4 zDZ zA zcf zdy (zq []) zQD
def z4p:zY:=[(342,zCk),(343,zzS)]++z4o
def z4q:zS z4p:=zh zMy (zh zJB zDZ)
def z4r:zY:=[(86,zrM),(87,zng)]++z4p
def zSb:zS z4r:=zh zvD (zh zoN z4q)
def zlC:Kept:=⟨rp 4 false,zmH⟩
@[simp] abbrev zyo (n:Int):Bool:=ieq n 4
@[simp] abbrev zxI (n:Int):Kept:=zlC
def zCn:Run:=rF1 dI λb=>(zyo b,[aT .kept<|zxI b])
def zYM (N:Nat)(b:Int):OA:=
 let a:=ln<|zhY b; (oN (zkq b)<|oN (cond (few a) (ieq a a) false)<|some [aT .kept (⟨rp a false,zhY b⟩:Kept)])
def zT2 (a:Int)(b:zyo a=true):∃N,zYM N a=some [aT .kept<|zxI a]:=by refine⟨0,?_⟩;have h:a=4:=qD b;subst h;change _=_;kernel_rfl
def zMB:vM 88 zCn:=kF1 zSb zA zcf zdy (zq []) zT2
def z4s:zY:=[(88,zCn)]++z4r
def zSc:zS z4s:=zh zMB zSb
def zwn:List Slot:=List.replicate 8 ⟨-1,0⟩
def zhN (a:List (List Ins)):Mon:=⟨zwn,zQT,rp 8 false,(a.take 2).map zfJ,[],0,0,(a.take 2).map λ_=>zlC,0⟩
def zNz {d a b q:Type}(m:Nat)(f:d->a)(g:d->b)(K:List a×List b->Option q):∀(l:List d) (i:Nat) (u:List a×List b),u.1.length+l.length<=2147483648->u.2.length+l.length<=2147483648->
 goL (λ(i:Nat) x (u:List a×List b) k=>bif ilt (i:Int) (m:Int) then (cond (few<|ln<|ap u.1 [f x]) (cond (few<|ln<|ap u.2 [g x]) (k (ap u.1 [f x],ap u.2 [g x])) none) none) else K u) K l i u=K (u.1++(l.take<|m-i).map f,u.2++(l.take<|m-i).map g)
 |[],i,u,_,_=>by simp[goL]
 |x::l,i,u,n,p=>by simp only[qV]at n p;have e:few (ln<|ap u.1 [f x])=true:=zfP (by simp[ap];omega);have j:few (ln<|ap u.2 [g x])=true:=zfP (by simp[ap];omega);by_cases h:i<m;{have c:ilt (i:Int) (m:Int)=true:=qI (by omega);simp only[goL,c,e,j,cT];rw[zNz m f g K l (i+1) _ (by simp[ap];omega) (by simp[ap];omega)];rw[show m-i=m-(i+1)+1 by omega];simp[ap]};{have c:ilt (i:Int) (m:Int)=false:=qJ (by omega);simp only[goL,c,cF];rw[show m-i=0 by omega];simp}
def z5E (u:List Guest×List Kept):OA:=some [AV.agg<|Ty.cells .mon (⟨zwn,zQT,rp 8 false,u.1,[],0,0,u.2,0⟩:Mon)]
@[simp] abbrev zuF (a:List (List Ins)):Bool:=pc (SmPs a)
@[simp] abbrev zKw (a:List (List Ins)):Mon:=zhN a
def zE8:Run:=rF1 (dS<|.sl .ins) λb=>(zuF b,[aT .mon<|zKw b])
def zLk (N:Nat)(k:lP):OA:=
 (oN (zkq 8)<|oN (zqG 8)<|oN (cond (few 8) (ieq 8 8) false)<|iter (σ:=(Int×Int×Int×Int×Int×Int×Int×lP×lS×lM×lB×lG×LI×lK×lS×lM×lB×lG×LI×lK×Unit)) N (λl a=>let j:=a.2.2.2.2.2.2.2.2.2.2.2.2.2.2.1;let i:=a.2.2.2.2.2.2.2.2.2.2.2.2.2.2.2.1;let h:=a.2.2.2.2.2.2.2.2.2.2.2.2.2.2.2.2.1;let g:=a.2.2.2.2.2.2.2.2.2.2.2.2.2.2.2.2.2.1;let f:=a.2.2.2.2.2.2.2.2.2.2.2.2.2.2.2.2.2.2.1;let b:=a.2.2.2.2.2.2.2.1;let c:=a.2.2.2.2.2.2.2.2.2.2.2.2.2.2.2.2.2.2.2.1;let e:=ap g [zcE<|ix b a.1 []];let d:=aT .mon (⟨j,i,h,g,f,a.2.2.2.2.1,a.2.2.2.2.2.1,c,a.2.2.2.2.2.2.1⟩:Mon); (cond (ilt a.1<|ln b) (cond (ilt a.1 2) (oN (inb a.1<|ln b)<|oN (zko<|ix b a.1 [])<|oN (few<|ln e)<|oN (zyo 4)<|oN (few<|ln<|ap c [zxI 4])<|l (zM .i64 a.1 1,a.2.1,a.2.2.1,a.2.2.2.1,a.2.2.2.2.1,a.2.2.2.2.2.1,a.2.2.2.2.2.2.1,b,a.2.2.2.2.2.2.2.2.1,a.2.2.2.2.2.2.2.2.2.1,a.2.2.2.2.2.2.2.2.2.2.1,a.2.2.2.2.2.2.2.2.2.2.2.1,a.2.2.2.2.2.2.2.2.2.2.2.2.1,a.2.2.2.2.2.2.2.2.2.2.2.2.2.1,j,i,h,e,f,ap c [zxI 4],()))<|some [d])<|some [d])) (0,0,0,0,0,0,0,k,[],[],[],[],[],[],zhY 8,zk1 8,rp 8 false,[],[],[],()))
def zYs:=zq [(15,0,{n:=36,tm:=[(0,.sl 0 []),(2,.lp 0 0),(3,.lp 1 0),(4,ti)],lo:=[(0,[.sl 1 [],.sl 2 [],.sl 3 [],.sl 4 [],.sl 5 [],ti,ti,.sl 6 [],ti]),(1,[.sl 7 [],.sl 8 [],.sl 9 [],.sl 10 [],.sl 11 [],ti,ti,.sl 12 [],ti])],ro:=[(0,.sl .ins,false),(1,.slot,true),(2,.sl .int,true),(3,.bool,true),(4,.guest,true),(5,.int,true),(6,.kept,true),(7,.slot,true),(8,.sl .int,true),(9,.bool,true),(10,.guest,true),(11,.int,true),(12,.kept,true)]})]
def zWK (a:List lI)(f:zuF a=true):∃N,zLk N a=some [aT .mon<|zKw a]:=by
 have e:=zO.1 f;have c:=zcJ e.1;refine zcg λN d=>?_;unfold zLk oN;conv=>zeta
 refine must rfl (must rfl (must rfl ?_));refine(zbj a (λi (t:lG×lK)=>((i:Int),0,0,0,0,0,0,a,[],[],[],[],[],[],zhY 8,zk1 8,rp 8 false,t.1,[],t.2,())) _ (λi (x:List Ins) (u:List Guest×List Kept) h=>bif ilt (i:Int) ((2:Nat):Int) then (cond (few<|ln<|ap u.1 [zfJ x]) (cond (few<|ln<|ap u.2 [zlC]) (h (ap u.1 [zfJ x],ap u.2 [zlC])) none) none) else z5E u) (λ(t:lG×lK)=>some [.agg<|Ty.cells .mon (⟨zhY 8,zk1 8,rp 8 false,t.1,[],0,0,t.2,0⟩:Mon)]) (λi b t rec=>?_) (λt rec=>?_) _ ([],[])<|d c.1).trans ?_;{simp only [zbr b,zZ b,zbk b,zba b c.1,cT];have g:zko a[i]=true:=zbd (e.2 _<|jG b);simp only[g,cT];rfl};{simp only [zbl,cF]};exact zNz 2 zfJ (λ_=>zlC) z5E a 0 ([],[]) (by simpa using c.2) (by simpa using c.2)
def zPC:vM 15 zE8:=kF1 zSc zA zcf zdy zYs zWK
def z4t:zY:=[(15,zE8)]++z4s
def zSd:zS z4t:=zh zPC zSc
def z2E:List LI:=List.replicate 12 [0,0,0,0]
def zgv (a:List (List<|List Ins)):Host:=⟨z2E,(a.take 3).map zhN,[],[]⟩
def zFF (a:List (List<|List Ins)):Prop:=a.length<=1048576/\∀p∈a,SmPs p
@[simp] abbrev zsA (a:List (List<|List Ins)):Bool:=pc (zFF a)
@[simp] abbrev ze2 (a:List (List<|List Ins)):Host:=zgv a
def z0E (t:List Mon):OA:=some [AV.agg<|zbn ⟨z2E,t,[],[]⟩]
def ztW:Run:=rF1 (dS<|.sl<|.sl .ins) λb=>(zsA b,[aH<|ze2 b])
def zHt (N:Nat)(d:lQ):OA:=
 (oN (zqG 12)<|iter (σ:=(Int×lQ×lM×lN×lE×lE×lM×lN×lE×lE×Unit)) N (λe a=>let c:=ap a.2.2.2.2.2.2.2.1 [zKw<|ix a.2.1 a.1 []];let b:=aH (⟨a.2.2.2.2.2.2.1,a.2.2.2.2.2.2.2.1,a.2.2.2.2.2.2.2.2.1,a.2.2.2.2.2.2.2.2.2.1⟩:Host); (cond (ilt a.1<|ln a.2.1) (cond (ilt a.1 3) (oN (inb a.1<|ln a.2.1)<|oN (zuF<|ix a.2.1 a.1 [])<|oN (few<|ln c)<|e (zM .i64 a.1 1,a.2.1,a.2.2.1,a.2.2.2.1,a.2.2.2.2.1,a.2.2.2.2.2.1,a.2.2.2.2.2.2.1,c,a.2.2.2.2.2.2.2.2.1,a.2.2.2.2.2.2.2.2.2.1,()))<|some [b])<|some [b])) (0,d,[],[],[],[],zk1 12,[],[],[],()))
def zUz:=zq [(13,0,{n:=28,tm:=[(0,.sl 0 []),(2,.lp 0 0),(3,.lp 1 0),(4,ti)],lo:=[(0,[.sl 1 [],.sl 2 [],.sl 3 [],.sl 4 []]),(1,[.sl 5 [],.sl 6 [],.sl 7 [],.sl 8 []])],ro:=[(0,.sl<|.sl .ins,false),(1,.sl .int,true),(2,.mon,true),(3,.entry,true),(4,.entry,true),(5,.sl .int,true),(6,.mon,true),(7,.entry,true),(8,.entry,true)]})]
def zTZ (a:List lP)(f:zsA a=true):∃N,zHt N a=some [aH<|ze2 a]:=by
 have e:=zO.1 f;have d:=zcJ e.1;refine zcg λN c=>?_;unfold zHt oN;conv=>zeta
 refine must rfl ?_;refine(zbj a (λi (t:lN)=>((i:Int),a,[],[],[],[],zk1 12,t,[],[],())) _ (λi (x:List lI) (t:List Mon) h=>bif ilt (i:Int) ((3:Nat):Int) then (cond (few<|ln<|ap t [zhN x]) (h<|ap t [zhN x]) none) else z0E t) (λ(t:lN)=>some [.agg<|zbn (⟨zk1 12,t,[],[]⟩:Host)]) (λi b t rec=>?_) (λt rec=>?_) _ ([])<|c d.1).trans ?_;{simp only [zbr b,zZ b,zbk b,zba b d.1,cT];have g:zuF a[i]=true:=zbd (e.2 _<|jG b);simp only[g,cT];rfl};{simp only [zbl,cF]};exact zSC 3 zhN z0E a 0 [] (by simpa using d.2)
def zw3:vM 13 ztW:=kF1 zSd zA zcf zdy zUz zTZ
def z4u:zY:=[(13,ztW)]++z4t
def zSe:zS z4u:=zh zw3 zSd
def zj4:Nat->Nat->Kept->Kept
 | 0,_,k=>k
 |n+1,i,k=>zj4 n (i+1) (zb8 k (i:Int))
def zkL (k:Kept):Kept:=zj4 k.Known.length 0 k
def z2d (k:Kept)(p:Int):(zb8 k p).Known.length=k.Known.length:=by unfold zb8;cases zdM k p;{rfl};{exact zhR _ _ _}
def zyx:∀(n i:Nat) (k:Kept),SmK k->SmK (zj4 n i k)
 | 0,_,_,h=>h
 |n+1,i,k,h=>zyx n (i+1) _ (zrd h)
@[simp] abbrev zyj (k:Kept):Kept:=zkL k
def zxt:Run:=rF1 (dT .kept) λb=>(zeY b,[aT .kept<|zyj b])
def zBR (N:Nat)(c:Kept):OA:=
 (oN (zha c)<|iter (σ:=(Int×lB×lS×lB×lS×Unit)) N (λd a=>let b:=(⟨a.2.1,a.2.2.1⟩:Kept); (cond (ilt a.1<|ln a.2.1) (oN (zdY b a.1)<|d (zM .i64 a.1 1,(zhI b a.1).Known,(zhI b a.1).Slots,a.2.2.2.1,a.2.2.2.2.1,()))<|some [aT .kept b])) (0,(zea c).Known,(zea c).Slots,[],[],()))
def zOB:=zq [(180,0,{n:=17,tm:=[(1,.lp 0 0),(2,.lp 1 0),(3,ti)],lo:=[(0,[.sl 0 [],.sl 1 []]),(1,[.sl 2 [],.sl 3 []])],ro:=[(0,.bool,true),(1,.slot,true),(2,.bool,true),(3,.slot,true)]})]
def zNt (a:Kept)(g:zeY a=true):∃N,zBR N a=some [aT .kept<|zyj a]:=by
 have d:=zO.1 g;have f:=zcJ d.1;refine zcg λN c=>?_;unfold zBR oN;conv=>zeta
 refine must (zbq<|(zyW _).2 d) ?_;refine(zuV a.Known.length (λi (k:Kept)=>((i:Int),k.Known,k.Slots,[],[],())) _ (λi k=>SmK k/\k.Known.length=a.Known.length) (λi k=>some [AV.agg<|Ty.cells .kept<|zj4 (a.Known.length-i) i k]) (λi k rec e b h=>?_) (λk rec b=>?_) N 0 a ⟨d,rfl⟩ (jW _)<|c f.1).trans rfl;{refine must (zbr (by rw[b.2];exact e)) (must (zbd b.1) ?_);have q:=h (zb8 k (i:Int)) ⟨zrd b.1,by rw[z2d];exact b.2⟩;rw[show a.Known.length-i=a.Known.length-(i+1)+1 by omega];rw[zba e f.1];exact q};{refine zda (by show ilt (a.Known.length:Int) (ln k.Known)=false;rw[ln,b.2];exact qJ (by omega)) ?_;rw[k6];rfl}
def zGs:vM 180 zxt:=kF1 zSe zA zcf zdy zOB zNt
def z4v:zY:=[(180,zxt)]++z4u
def zSf:zS z4v:=zh zGs zSe
def zwJ:Nat->Nat->List Kept->List Kept
 | 0,_,l=>l
 |n+1,j,l=>zwJ n (j+1) (up l (j:Int)<|zkL<|ix l (j:Int) kZ)
def zwK (x:Mon)(n j:Nat):Mon:={x with Tables:=zwJ n j x.Tables}
def zpC:Nat->Nat->List Mon->List Mon
 | 0,_,t=>t
 |n+1,i,t=>zpC n (i+1) (up t (i:Int)<|zwK (ix t (i:Int) mZ) (ix t (i:Int) mZ).Tables.length 0)
def cold (h:Host):Host:=⟨h.Memory,zpC h.Mons.length 0 h.Mons,[],[]⟩
def zOd:∀(n j:Nat) (l:List Kept),j+n<=l.length->zDK l->zDK (zwJ n j l)
 | 0,_,_,_,h=>h
 |n+1,j,l,b,h=>by have a:j<l.length:=(by omega);refine zOd n (j+1) _ (by rw[zhR];omega) (zz6 h<|zyx _ _ _ ?_);rw[zbk a];exact h.2 _ (jG a)
def zOf {x:Mon}(h:zgf x){n j:Nat}(a:j+n<=x.Tables.length):zgf (zwK x n j):=⟨h.1,h.2.1,h.2.2.1,h.2.2.2.1,h.2.2.2.2.1,zOd n j _ a h.2.2.2.2.2⟩
@[simp] abbrev zXD (h:Host):Host:=cold h
def zNW:Run:=rF1 dH λb=>(zbt b,[aH<|zXD b])
def zU3 (N:Nat)(d:Host):OA:=
 (oN (zbt d)<|iter (σ:=(Int×lM×lN×lE×lE×lM×lN×lE×lE×Unit)) N (λg b=>cond (ilt b.1<|ln b.2.2.1) (iter (σ:=(Int×Int×lM×lN×lE×lE×lM×lN×lE×lE×Unit)) N (λh a=>let e:=inb a.1<|ln a.2.2.2.1;let c:=ix a.2.2.2.1 a.1 zi;let f:=ix c.Tables a.2.1 zdz; (oN e<|cond (ilt a.2.1<|ln c.Tables) (oN e<|oN e<|oN (inb a.2.1<|ln c.Tables)<|oN (zeY f)<|oN (inb a.2.1<|ln c.Tables)<|share (up a.2.2.2.1 a.1 ({c with Tables:=(up c.Tables a.2.1<|zyj f)}:Mon)) λi=>h (a.1,zM .i64 a.2.1 1,a.2.2.1,i,a.2.2.2.2.1,a.2.2.2.2.2.1,a.2.2.2.2.2.2.1,a.2.2.2.2.2.2.2.1,a.2.2.2.2.2.2.2.2.1,a.2.2.2.2.2.2.2.2.2.1,()))<|g (zM .i64 a.1 1,a.2.2.1,a.2.2.2.1,a.2.2.2.2.1,a.2.2.2.2.2.1,a.2.2.2.2.2.2.1,a.2.2.2.2.2.2.2.1,a.2.2.2.2.2.2.2.2.1,a.2.2.2.2.2.2.2.2.2.1,()))) (b.1,0,b.2.1,b.2.2.1,b.2.2.2.1,b.2.2.2.2.1,b.2.2.2.2.2.1,b.2.2.2.2.2.2.1,b.2.2.2.2.2.2.2.1,b.2.2.2.2.2.2.2.2.1,()))<|some [aH (⟨b.2.1,b.2.2.1,[],[]⟩:Host)]) (0,(zl d).Memory,(zl d).Mons,(zl d).Buffer,(zl d).IoBuffer,[],[],[],[],()))
def z3K:=zq [(70,0,{n:=48,tm:=[(1,.lp 0 0),(2,.lp 1 0),(3,ti)],lo:=[(0,[.sl 0 [],.sl 1 [],.sl 2 [],.sl 3 []]),(1,[.sl 4 [],.sl 5 [],.sl 6 [],.sl 7 []])],ro:=[(0,.sl .int,true),(1,.mon,true),(2,.entry,true),(3,.entry,true),(4,.sl .int,true),(5,.mon,true),(6,.entry,true),(7,.entry,true)]}),(70,2,{n:=48,tm:=[(1,.lp 0 0),(2,.lp 1 0),(3,ti),(4,ti)],lo:=[(0,[.sl 0 [],.sl 1 [],.sl 2 [],.sl 3 []]),(1,[.sl 4 [],.sl 5 [],.sl 6 [],.sl 7 []])],ro:=[(0,.sl .int,true),(1,.mon,true),(2,.entry,true),(3,.entry,true),(4,.sl .int,true),(5,.mon,true),(6,.entry,true),(7,.entry,true)]})]
def z2C (a:Host)(m:zbt a=true):∃N,zU3 N a=some [aH<|zXD a]:=by
 have v:=(zT a).1 (zO.1 m);have s:=zcJ v.2.1.1;refine zcg λN f=>?_;unfold zU3 oN;conv=>zeta
 refine must m ?_;refine(zuV a.Mons.length (λi (t:List Mon)=>((i:Int),a.Memory,t,a.Buffer,a.IoBuffer,[],[],[],[],())) _ (λi t=>zsZ t/\t.length=a.Mons.length) (λi t=>some [AV.agg<|zbn ⟨a.Memory,zpC (a.Mons.length-i) i t,[],[]⟩]) (λi t rec n e x=>?_) (λt rec e=>?_) N 0 a.Mons ⟨v.2.1,rfl⟩ (jW _)<|f s.1).trans rfl
 .have hit:i<t.length:=(by rw[e.2];exact n);have l:zgf (ix t (i:Int) mZ):=by rw[zbk hit];exact e.1.2 _ (jG hit)
  have r:=zcJ l.2.2.2.2.2.1;refine must (zbr hit) ?_;refine(zuV (ix t (i:Int) mZ).Tables.length (λj (u:List Mon)=>((i:Int),(j:Int),a.Memory,u,a.Buffer,a.IoBuffer,[],[],[],[],()))
   _ (λj u=>u.length=t.length/\zgf (ix u (i:Int) mZ)/\(ix u (i:Int) mZ).Tables.length=(ix t (i:Int) mZ).Tables.length)
   (λj u=>rec (((i+1:Nat):Int),a.Memory,up u (i:Int)<|zwK (ix u (i:Int) mZ) ((ix t (i:Int) mZ).Tables.length-j) j,a.Buffer,a.IoBuffer,[],[],[],[],()))
   (λj u h p c k=>?_) (λu h c=>?_) N 0 t ⟨rfl,l,rfl⟩ (jW _) (f r.1)).trans ?_
  .have b:i<u.length:=(by rw[c.1];exact hit);have d:j<(ix u (i:Int) mZ).Tables.length:=(by rw[c.2.2];exact p);have g:SmK (ix (ix u (i:Int) mZ).Tables (j:Int) kZ):=by rw[zbk d];exact c.2.1.2.2.2.2.2.2 _ (jG d)
   refine must (zZ b) (must (zbr d)<|must (zZ b)<|must (zZ b)<|must (zZ d)<|must (zbd g)<|must (zZ d)<|shr ?_);have w:zgf {ix u (i:Int) mZ with Tables:=up (ix u (i:Int) mZ).Tables (j:Int) (zkL<|ix (ix u (i:Int) mZ).Tables (j:Int) kZ)} :=
    ⟨c.2.1.1,c.2.1.2.1,c.2.1.2.2.1,c.2.1.2.2.2.1,c.2.1.2.2.2.2.1,zz6 c.2.1.2.2.2.2.2<|zyx _ _ _ g⟩
   have q:=k (up u (i:Int) {ix u (i:Int) mZ with Tables:=up (ix u (i:Int) mZ).Tables (j:Int) (zkL<|ix (ix u (i:Int) mZ).Tables (j:Int) kZ)}) ⟨by rw[zhR];exact c.1,by rw[zez b];exact w,by rw[zez b];simp only[zhR];exact c.2.2⟩;rw[zba p r.1];refine q.trans ?_;rw[zez b,zxQ,show (ix t (i:Int) mZ).Tables.length-j=(ix t (i:Int) mZ).Tables.length-(j+1)+1 by omega];rfl
  {have b:i<u.length:=(by rw[c.1];exact hit);refine must (zZ b) (zda (by show ilt ((ix t (i:Int) mZ).Tables.length:Int) (ln (ix u (i:Int) mZ).Tables)=false;rw[ln,c.2.2];exact qJ (by omega)) ?_);rw[zba n s.1,k6];show rec (_,a.Memory,u,_)=rec (_,a.Memory,up u (i:Int)<|ix u (i:Int) mZ,_);rw[zRt b]};{have q:=x (up t (i:Int)<|zwK (ix t (i:Int) mZ) (ix t (i:Int) mZ).Tables.length 0) ⟨zkF e.1<|zOf l (by omega),by rw[zhR];exact e.2⟩;refine q.trans ?_;rw[show a.Mons.length-i=a.Mons.length-(i+1)+1 by omega];rfl}
 {refine zda (by show ilt (a.Mons.length:Int) (ln t)=false;rw[ln,e.2];exact qJ (by omega)) ?_;rw[k6];rfl}
def zV6:vM 70 zNW:=kF1 zSf zA zcf zdy z3K z2C
def z4w:zY:=[(70,zNW)]++z4v
def z4x:zS z4w:=zh zV6 zSf
def z4y:zY:=z4w
def zSg:zS z4y:=z4x
def zCF:∀(n i:Nat) (t:List Mon),i+n<=t.length->zsZ t->zsZ (zpC n i t)
 | 0,_,_,_,h=>h
 |n+1,i,t,b,h=>by have a:i<t.length:=(by omega);refine zCF n (i+1) _ (by rw[zhR];omega) (zkF h<|zOf ?_ (by omega));rw[zbk a];exact h.2 _ (jG a)
def z8T {h:Host}(a:SmH h):SmH (cold h):=⟨a.1,zCF _ _ _ (by omega) a.2.1,by simp[cold],by simp[cold]⟩
def zo5 {h:Host}{m:Int}{b:Bare}(c:SmH h)(d:zc9 h m=true->SmB b):SmH (zi0 h m b):=by unfold zi0;cases a:zc9 h m;{exact c};{exact zKB c (zcX.1 a).2 (d a).2.1}
def z6v {h:Host}{m g p:Int}(c:SmH h):SmH (zl9 h m g p):=by unfold zl9;cases e:zc9 h m;{exact c};{cases l:zcu (zK h m) g (hasB p 4);{exact c};{have d:=(zcX.1 e).2;have f:=zBp c d;have k:SmB (chg (zK h m) g (hasB p 4)<|zet (gAt (zK h m) g) p):=zrX f (zOa _<|zjv _ f);have b:=zKB c d k.2.1;have i:=zVe (chg (zK h m) g (hasB p 4)<|zet (gAt (zK h m) g) p) d;have j:=zSq c e (chg (zK h m) g (hasB p 4)<|zet (gAt (zK h m) g) p) l;have a:=b.2.1.2 _ (zbK i mZ);simp only[cT];exact⟨b.1,zkF b.2.1 ⟨a.1,a.2.1,a.2.2.1,a.2.2.2.1,a.2.2.2.2.1,zz6 a.2.2.2.2.2<|zrd<|a.2.2.2.2.2.2 _<|zbK j _⟩,qU (zAE _ _ _) b.2.2.1,qU (zAE _ _ _) b.2.2.2⟩}}
def z8U {h:Host}{m p c v:Int}(e:SmH h):SmH (zoP h m p c v):=by unfold zoP;cases a:zgk h m p c v;{exact e};{have f:zcW h m p=true:=(by unfold zgk at a;cases b:zcW h m p;{rw [b]at a;cases a};{rfl});obtain⟨g,i,b⟩:=zlE.1 f;have d:=(zwl (n:=2) (zgj e g) i b).1.1;exact⟨zBr d.1,d.2⟩}
def zW4 {h:Host}{m g c a:Int}(b:List Entry)(i:Bool)(f:SmH h)(d:zb5 h m g c a=true):SmH (lookOf h b m g c a i).1:=by have hg:zbZ h m g=true:=(by unfold zb5 at d;cases e:zbZ h m g;{rw [e]at d;cases d};{rfl});exact(zuX f hg).shape.1
def zbcr {h:Host}{m g a v:Int}(e:SmH h):SmH (zrA h m g a v):=by unfold zrA;cases b:zh1 h m g a v;{exact e};{have f:zb5 h m g (zbo a) 2=true:=(by unfold zh1 at b;cases c:zk a 0 15;{rw [c]at b;cases b};{cases d:zk v 0 99;{rw [c,d]at b;cases b};{rw [c,d]at b;exact b}});have c:=zW4 h.IoBuffer true e f;exact⟨zBr c.1,c.2⟩}
def z8V {h:Host}{m g a:Int}(d:SmH h):SmH (zoQ h m g a):=by unfold zoQ;cases b:zgY h m g a;{exact d};{have e:zb5 h m g (zbo a) 1=true:=(by unfold zgY at b;cases c:zk a 0 15;{rw [c]at b;cases b};{rw [c]at b;exact b});exact zW4 h.IoBuffer true d e}
def zbcs {h:Host}{m p:Int}(a:SmH h):SmH (zrF h m p):=by unfold zrF;cases b:zcW h m p;{exact a};{obtain⟨c,d,e⟩:=zlE.1 b;cases zlP h m p;{exact(zN4 (zgj a c).1 d).1};{exact a}}
def zbdy {h:Host}{m p:Int}(a:SmH h):SmH (zvN h m p):=by unfold zvN;cases b:zcW h m p;{exact a};{obtain⟨c,d,e⟩:=zlE.1 b;cases zlP h m p;{exact a};{exact(zlu (zgj a c) d e).1.1}}
def z6z {h:Host}{m t:Int}(a:SmH h):SmH (zjM h m t):=by unfold zjM;cases zb2 h;{exact a};{cases c:hasB m (ln h.Mons);{exact a};{cases zk t 0 3;{exact a};{have b:zgf (ix h.Mons m mZ):=a.2.1.2 _ (zbK c mZ);exact⟨a.1,zkF a.2.1 ⟨b.1,b.2.1,b.2.2.1,b.2.2.2.1,b.2.2.2.2.1,b.2.2.2.2.2⟩,a.2.2⟩}}}
def zvG (h:Host)(a:GAct):Host:=bif ieq a.Kind 1 then (zbv h a.M a.G).1 else (cond (ieq a.Kind 2) (zn0 h a.M a.G a.X ⟨a.Y,a.Z⟩)<|cond (ieq a.Kind 3) (zl9 h a.M a.G a.X)<|cond (ieq a.Kind 4) (zkc h a.M a.G a.X)<|cond (ieq a.Kind 5) (zkg h a.M a.G)<|cond (ieq a.Kind 6) (zke h a.M a.G a.X)<|cond (ieq a.Kind 7) (znY h a.M a.G ⟨a.X,a.Y,ieq a.Z 1⟩)<|cond (ieq a.Kind 8) (zoP h a.M a.X a.Y a.Z)<|cond (ieq a.Kind 9) (zmg h a.M a.X)<|cond (ieq a.Kind 10) (znV h a.M)<|cond (ieq a.Kind 11) (zrA h a.M a.G a.X a.Y)<|zoQ h a.M a.G a.X)
def zEu (h:Host)(a:GAct):Told:=bif ieq a.Kind 1 then ⟨(zbv h a.M a.G).2,0⟩ else (cond (ieq a.Kind 2) ⟨zn1 h a.M a.G a.X ⟨a.Y,a.Z⟩,0⟩<|cond (ieq a.Kind 3) ⟨zlj h a.M a.G a.X,0⟩<|cond (ieq a.Kind 4) ⟨zkd h a.M a.G a.X,0⟩<|cond (ieq a.Kind 5) ⟨zkh h a.M a.G,0⟩<|cond (ieq a.Kind 6) ⟨zkf h a.M a.G a.X,0⟩<|cond (ieq a.Kind 7) ⟨znZ h a.M a.G ⟨a.X,a.Y,ieq a.Z 1⟩,0⟩<|cond (ieq a.Kind 8) ⟨zgk h a.M a.X a.Y a.Z,0⟩<|cond (ieq a.Kind 9) ⟨zmh h a.M a.X,0⟩<|cond (ieq a.Kind 10) ⟨znX h a.M,znW h a.M⟩<|cond (ieq a.Kind 11) ⟨zh1 h a.M a.G a.X a.Y,0⟩<|⟨zgY h a.M a.G a.X,zth h a.M a.G a.X⟩)
def zn4 (h:Host)(a:GAct):Host:=bif ieq a.Kind 13 then zrF h a.M a.X else (cond (ieq a.Kind 14) (zvN h a.M a.X)<|cond (ieq a.Kind 15) (zvt h a.M a.X)<|cond (ieq a.Kind 16) (zjM h a.M a.X)<|cold h)
def zNH (h:Host)(a:GAct):Told:=bif ieq a.Kind 13 then ⟨zEW h a.M a.X,0⟩ else (cond (ieq a.Kind 14) ⟨zKh h a.M a.X,0⟩<|cond (ieq a.Kind 15) ⟨zcW h a.M a.X,0⟩<|cond (ieq a.Kind 16) ⟨zuO h a.M a.X,0⟩<|⟨true,0⟩)
def zfo (h:Host)(a:GAct):Host:=bif zk a.Kind 1 17 then (cond (zk a.Kind 13 17) (zn4 h a)<|zvG h a) else h
def zkP (h:Host)(a:GAct):Told:=bif zk a.Kind 1 17 then (cond (zk a.Kind 13 17) (zNH h a)<|zEu h a) else ⟨false,0⟩
def z6y {h:Host}{a:GAct}(b:SmH h):SmH (zn4 h a):=by unfold zn4;cases ieq a.Kind 13;{cases ieq a.Kind 14;{cases ieq a.Kind 15;{cases ieq a.Kind 16;{exact z8T b};{exact z6z b}};{exact z6w b}};{exact zbdy b}};{exact zbcs b}
def z6x {h:Host}{a:GAct}(c:SmH h):SmH (zvG h a):=by have d:zc9 h a.M=true->SmB (zK h a.M):=λb=>zBp c (zcX.1 b).2;unfold zvG;cases ieq a.Kind 1;{cases ieq a.Kind 2;{cases ieq a.Kind 3;{cases ieq a.Kind 4;{cases ieq a.Kind 5;{cases ieq a.Kind 6;{cases ieq a.Kind 7;{cases ieq a.Kind 8;{cases ieq a.Kind 9;{cases ieq a.Kind 10;{cases ieq a.Kind 11;{exact z8V c};{exact zbcr c}};{exact zo5 c (λb=>z02 (d b))}};{exact zo5 c (λb=>zXY _ (d b))}};{exact z8U c}};{exact zo5 c (λb=>z03 _ _ (d b))}};{exact zo5 c (λb=>zN7 _ _ (d b))}};{exact zo5 c (λb=>zN8 _ (d b))}};{exact zo5 c (λb=>zN6 _ _ (d b))}};{exact z6v c}};{exact zo5 c (λb=>z04 _ _ _ (d b))}};{exact(zFl a.M a.G c).sm}
def z07 {h:Host}{a:GAct}(b:SmH h):SmH (zfo h a):=by unfold zfo;cases zk a.Kind 1 17;{exact b};{cases zk a.Kind 13 17;{exact z6x b};{exact z6y b}}
@[simp] abbrev ziX (h:Host)(a:GAct):Bool:=pc (zdm h)
@[simp] abbrev zmF (h:Host)(a:GAct):Host:=zn4 h a
@[simp] abbrev zky (h:Host)(a:GAct):Told:=zNH h a
def zzZ:Run:=rF2 dH (dT .act) λb c=>(ziX b c,[aH<|zmF b c,aT .told<|zky b c])
def zDJ (N:Nat)(c:Host)(a:GAct):OA:=
 (cond (ieq a.Kind 13) (oN (zjq c a.M a.X)<|some [aH<|zsB c a.M a.X,.agg [.b<|zsC c a.M a.X,.i .i64 0]])<|cond (ieq a.Kind 14) (oN (zjq c a.M a.X)<|some [aH<|zuG c a.M a.X,.agg [.b<|zuH c a.M a.X,.i .i64 0]])<|cond (ieq a.Kind 15) (oN (zjq c a.M a.X)<|some [aH<|zxy c a.M a.X,.agg [.b<|zgz c a.M a.X,.i .i64 0]])<|cond (ieq a.Kind 16) (oN (zkp c a.M a.X)<|some [aH<|zfy c a.M a.X,.agg [.b<|zhp c a.M a.X,.i .i64 0]])<|oN (zbt c)<|some [aH<|zXD c,.agg [.b true,.i .i64 0]])
def zQP (a:Host)(b:GAct)(c:ziX a b=true):∃N,zDJ N a b=some [aH<|zmF a b,aT .told<|zky a b]:=by have d:=zO.1 c;refine⟨0,?_⟩;unfold zDJ oN;refine br (λ_=>mu ?_) (λ_=>br (λ_=>mu ?_) λ_=>br (λ_=>mu ?_) λ_=>br (λ_=>mu ?_) λ_=>mu ?_);all_goals first|rfl|(simp only [*,zmF,zky,zn4,zNH,cT,cF]<;>rfl)|simp_all[Ty.cells,zmF,zky,zn4,zNH]
def zJS:vM 331 zzZ:=kF2 zSg zA zcf zdy (zq []) zQP
def z4z:zY:=[(331,zzZ),(329,zId),(330,zCm),(338,zIf)]++z4y
def zSh:zS z4z:=zh zJS (zh zTj<|zh zMA<|zh zTl zSg)
@[simp] abbrev zn8 (h:Host)(a:GAct):Host:=zfo h a
@[simp] abbrev zn9 (h:Host)(a:GAct):Told:=zkP h a
def ztV:Run:=rF2 dH (dT .act) λb c=>(ziX b c,[aH<|zn8 b c,aT .told<|zn9 b c])
def zHq (N:Nat)(c:Host)(a:GAct):OA:=
 let d:=(⟨a.Y,a.Z⟩:Slot); (oN (zpl a)<|cond (nB<|zz0 a) (oN (zbt c)<|some [aH<|zl c,.agg [.b false,.i .i64 0]])<|oN (zyn a.Kind)<|cond (ztr a.Kind) (oN (ziX c a)<|some [aH<|zmF c a,.agg [.b (zky c a).Ok,.i .i64 (zky c a).N]])<|cond (ieq a.Kind 1) (oN (zcn c a.M a.G)<|some [aH<|zb3 c a.M a.G,.agg [.b<|zbT c a.M a.G,.i .i64 0]])<|cond (ieq a.Kind 2) (oN (zym c a.M a.G a.X d)<|some [aH<|zn0 c a.M a.G a.X d,.agg [.b<|zn1 c a.M a.G a.X d,.i .i64 0]])<|cond (ieq a.Kind 3) (oN (zt2 c a.M a.G a.X)<|some [aH<|zox c a.M a.G a.X,.agg [.b<|zlj c a.M a.G a.X,.i .i64 0]])<|cond (ieq a.Kind 4) (oN (zrP c a.M a.G a.X)<|some [aH<|zkc c a.M a.G a.X,.agg [.b<|zkd c a.M a.G a.X,.i .i64 0]])<|cond (ieq a.Kind 5) (oN (zrR c a.M a.G)<|some [aH<|zkg c a.M a.G,.agg [.b<|zkh c a.M a.G,.i .i64 0]])<|cond (ieq a.Kind 6) (oN (zrQ c a.M a.G a.X)<|some [aH<|zke c a.M a.G a.X,.agg [.b<|zkf c a.M a.G a.X,.i .i64 0]])<|cond (ieq a.Kind 7) (oN (zpl a)<|oN (zyk c a.M a.G<|zrN a)<|some [aH<|znY c a.M a.G<|zrN a,.agg [.b<|znZ c a.M a.G<|zrN a,.i .i64 0]])<|cond (ieq a.Kind 8) (oN (zv9 c a.M a.X a.Y a.Z)<|some [aH<|zqB c a.M a.X a.Y a.Z,.agg [.b<|zqC c a.M a.X a.Y a.Z,.i .i64 0]])<|cond (ieq a.Kind 9) (oN (zwa c a.M a.X)<|some [aH<|zmg c a.M a.X,.agg [.b<|zmh c a.M a.X,.i .i64 0]])<|cond (ieq a.Kind 10) (oN (zdo c a.M)<|some [aH<|znV c a.M,.agg [.b<|znX c a.M,.i .i64<|znW c a.M]])<|cond (ieq a.Kind 11) (oN (zyl c a.M a.G a.X a.Y)<|some [aH<|zsy c a.M a.G a.X a.Y,.agg [.b<|zsz c a.M a.G a.X a.Y,.i .i64 0]])<|oN (zwb c a.M a.G a.X)<|some [aH<|zqD c a.M a.G a.X,.agg [.b<|zqF c a.M a.G a.X,.i .i64<|zqE c a.M a.G a.X]])
def zTW (a:Host)(b:GAct)(c:ziX a b=true):∃N,zHq N a b=some [aH<|zn8 a b,aT .told<|zn9 a b]:=by
 have d:=zO.1 c;refine⟨0,?_⟩;unfold zHq oN nB;conv=>zeta
 refine must rfl (brN (λ_=>mu ?_) λ_=>must rfl (br (λ_=>mu ?_) λ_=>br (λ_=>mu ?_) λ_=>br (λ_=>mu ?_) λ_=>br (λ_=>mu ?_) λ_=>br (λ_=>mu ?_) λ_=>br (λ_=>mu ?_) λ_=>br (λ_=>mu ?_) λ_=>br (λ_=>must rfl (mu ?_)) λ_=>br (λ_=>mu ?_) λ_=>br (λ_=>mu ?_) λ_=>br (λ_=>mu ?_) λ_=>br (λ_=>mu ?_) λ_=>mu ?_));all_goals first|rfl|(simp only [*,zn8,zn9,zfo,zkP,zvG,zEu,cT,cF]<;>rfl)|simp_all[Ty.cells,zn8,zn9,zfo,zkP,zvG,zEu]
def zw2:vM 286 ztV:=kF2 zSh zA zcf zdy (zq []) zTW
def z4A:zY:=[(286,ztV)]++z4z
def zSi:zS z4A:=zh zw2 zSh
def zE3:List GAct->Host×List Told->Host×List Told
 |[],u=>u
 |a::l,u=>zE3 l (zfo u.1 a,ap u.2 [zkP u.1 a])
def zAS (a:List (List<|List Ins))(l:List GAct):Host×List Told:=zE3 (l.take 80) (zgv a,[])
abbrev HSt:Type:=(List Told)×(List<|LI)×(List Mon)×(List Entry)×(List Entry)
def hOf (t:HSt):Host:=⟨t.2.1,t.2.2.1,t.2.2.2.1,t.2.2.2.2⟩
def tOf (u:Host×List Told):HSt:=(u.2,u.1.Memory,u.1.Mons,u.1.Buffer,u.1.IoBuffer)
def zA5 (t:HSt):OA:=some [AV.agg<|zbn<|hOf t,AV.one<|.s .told t.1]
def zQ7 {e:List (List<|List Ins)}(h:zFF e):SmH (zgv e):=by refine⟨show SmM z2E from ⟨by decide,by decide⟩,⟨?_,?_⟩,by simp[zgv],by simp[zgv]⟩;{simp only [zgv,uK,vK];omega};{intro x d;simp only[zgv,jD]at d;obtain⟨p,f,rfl⟩:=d;have b:=h.2 p (jU f);refine⟨show zwn.length<=1048576 by decide,show SmM zQT from ⟨by decide,by decide⟩,show (rp 8 false).length<=1048576 by decide,⟨?_,?_⟩,by simp[zhN],⟨?_,?_⟩⟩;{simp only [zhN,uK,vK];omega};{intro y a;simp only[zhN,jD]at a;obtain⟨q,c,rfl⟩:=a;exact⟨b.2 q<|jU c,show zmH.length<=1048576 by decide,show zmH.length<=1048576 by decide,by simp[zfJ]⟩};{simp only [zhN,uK,vK];omega};{intro y a;simp only[zhN,jD]at a;obtain⟨q,c,rfl⟩:=a;exact⟨show (rp 4 false).length<=1048576 by decide,show zmH.length<=1048576 by decide⟩}}
def zHY {c:Host->GAct->Bool}(d:∀h a,SmH h->c h a=true)(m:Nat):∀(l:List GAct) (i:Nat) (u:Host×List Told),SmH u.1->u.2.length+l.length<=2147483648->
 goL (λ(i:Nat) x (t:HSt) n=>bif ilt (i:Int) (m:Int) then (cond (c (hOf t) x) (cond (few<|ln<|ap t.1 [zkP (hOf t) x]) (n (ap t.1 [zkP (hOf t) x],(zfo (hOf t) x).Memory,(zfo (hOf t) x).Mons,(zfo (hOf t) x).Buffer,(zfo (hOf t) x).IoBuffer)) none) none) else zA5 t) zA5 l i (tOf u)=zA5 (tOf<|zE3 (l.take<|m-i) u)
 |[],i,u,_,_=>by simp[goL,zE3]
 |a::l,i,u,e,k=>by simp only[qV]at k;have g:few (ln<|ap u.2 [zkP u.1 a])=true:=zfP (by simp[ap];omega);have j:hOf (tOf u)=u.1:=rfl;have f:(tOf u).1=u.2:=rfl;by_cases h:i<m;{have b:ilt (i:Int) (m:Int)=true:=qI (by omega);simp only[goL,b,j,f,g,d _ _ e,cT];refine(zHY d m l (i+1) (zfo u.1 a,ap u.2 [zkP u.1 a]) (z07 e) (by simp[ap];omega)).trans ?_;rw[show m-i=m-(i+1)+1 by omega];rfl};{have b:ilt (i:Int) (m:Int)=false:=qJ (by omega);simp only[goL,b,cF];rw[show m-i=0 by omega];rfl}
@[simp] abbrev zv8 (a:List (List<|List Ins))(l:List GAct):Bool:=pc (zFF a/\l.length<=1048576)
@[simp] abbrev zv7 (a:List (List<|List Ins))(l:List GAct):Host:=(zAS a l).1
@[simp] abbrev zFf (a:List (List<|List Ins))(l:List GAct):List Told:=(zAS a l).2
def zzP:Run:=rF2 (dS<|.sl<|.sl .ins) (dS .act) λb c=>(zv8 b c,[aH<|zv7 b c,aS .told<|zFf b c])
def zDs (N:Nat)(b:lQ)(g:lA):OA:=
 (oN (zsA b)<|iter (σ:=(Int×lA×lT×lM×lN×lE×lE×lM×lN×lE×lE×Unit)) N (λh a=>let e:=ix a.2.1 a.1 zbef;let c:=(⟨a.2.2.2.2.2.2.2.1,a.2.2.2.2.2.2.2.2.1,a.2.2.2.2.2.2.2.2.2.1,a.2.2.2.2.2.2.2.2.2.2.1⟩:Host);let f:=ap a.2.2.1 [zn9 c e];let d:=zn8 c e; (cond (ilt a.1<|ln a.2.1) (cond (ilt a.1 80) (oN (inb a.1<|ln a.2.1)<|oN (ziX c e)<|oN (few<|ln f)<|h (zM .i64 a.1 1,a.2.1,f,a.2.2.2.1,a.2.2.2.2.1,a.2.2.2.2.2.1,a.2.2.2.2.2.2.1,d.Memory,d.Mons,d.Buffer,d.IoBuffer,()))<|some [aH c,aS .told a.2.2.1])<|some [aH c,aS .told a.2.2.1])) (0,g,[],[],[],[],[],(ze2 b).Memory,(ze2 b).Mons,(ze2 b).Buffer,(ze2 b).IoBuffer,()))
def zRk:=zq [(203,0,{n:=39,tm:=[(1,.sl 0 []),(4,.lp 0 0),(6,.lp 1 0),(7,.sl 1 []),(8,ti)],lo:=[(0,[.sl 2 [],.sl 3 [],.sl 4 [],.sl 5 []]),(1,[.sl 6 [],.sl 7 [],.sl 8 [],.sl 9 []])],ro:=[(0,.act,false),(1,.told,true),(2,.sl .int,true),(3,.mon,true),(4,.entry,true),(5,.entry,true),(6,.sl .int,true),(7,.mon,true),(8,.entry,true),(9,.entry,true)]})]
def zQA (b:List lP)(c:List GAct)(k:zv8 b c=true):∃N,zDs N b c=some [aH<|zv7 b c,aS .told<|zFf b c]:=by
 obtain⟨j,g⟩:=zO.1 k;have f:=zcJ g;refine zcg λN e=>?_;unfold zDs oN;conv=>zeta
 refine must (zbd j) ?_;refine(zbj c (λi (t:lT×lM×lN×lE×lE)=>((i:Int),c,t.1,[],[],[],[],t.2.1,t.2.2.1,t.2.2.2.1,t.2.2.2.2,())) _ (λi (x:GAct) (t:HSt) m=>bif ilt (i:Int) ((80:Nat):Int) then (cond (ziX (hOf t) x) (cond (few<|ln<|ap t.1 [zkP (hOf t) x]) (m (ap t.1 [zkP (hOf t) x],(zfo (hOf t) x).Memory,(zfo (hOf t) x).Mons,(zfo (hOf t) x).Buffer,(zfo (hOf t) x).IoBuffer)) none) none) else zA5 t) (λ(t:lT×lM×lN×lE×lE)=>some [.agg<|zbn (⟨t.2.1,t.2.2.1,t.2.2.2.1,t.2.2.2.2⟩:Host),.one<|.s .told t.1]) (λi d t rec=>?_) (λt rec=>?_) _ ([],(ze2 b).Memory,(ze2 b).Mons,(ze2 b).Buffer,(ze2 b).IoBuffer)<|e f.1).trans ?_;{simp only [zbr d,zZ d,zbk d,zba d f.1,cT];rfl};{simp only [zbl,cF]};exact zHY (λh a l=>zbd ((zT h).2 l)) 80 c 0 (zgv b,[]) (zQ7 j) (by simpa using f.2)
def zJy:vM 203 zzP:=kF2 zSi zA zcf zdy zRk zQA
def zVy:zY:=[(203,zzP)]++z4A
def zHP:zS zVy:=zh zJy zSi
def z1r (h:Host):Prop:=∃a l,zFF a/\(1<=a.length/\∀p∈a,1<=p.length/\∀x∈p,zdI x=true)/\h=(zAS a l).1
def zKr {p:List Ins}(h:zdI p=true):p.length<=12:=by unfold zdI at h;cases a:p.all zeS with|false=>rw[a]at h;cases h|true=>rw[a,cT]at h;have b:=(zfL.1 h).2;unfold ln at b;omega
def zxY (N:Nat)(c:Cur)  : OA :=
 let a:=({ (znx c) with b:=c.b}:Cur); (oN (zq8 c)<|oN (zoh a 20)<|oN (zv8 (zwi c)<|ztv a 20)<|some [.agg [.s .u8 c.b,.i .i64 (zoi a 20).i,.i .i64 (zoi a 20).h],aH<|zv7 (zwi c)<|ztv a 20])
def zq9 (c:Cur)(s:Cur)(a:Host):Prop:=(∃N,zxY N c=some (AV.agg (zb4 s)::[aH a]))/\(s.b=c.b/\0<=s.i)/\(z1r a)
def zog (c:Cur)  : Bool:=wC (zq9 c)
def zjL (c:Cur)  : Cur:=wS (zq9 c)
def ztu (c:Cur)  : Host:=wV (zq9 c)
def zIq {c:Cur}(h:zog c=true):zq9 c (zjL c) (ztu c):=wG h
def zZW (c:Cur)  : 0<=(zjL c).i:=wP λh=>h.2.1.2
def zZV (c:Cur)(h:∃N,Ends (wE (λa=>aH a) c.b λa=>z1r a)<|zxY N c):zog c=true:=wI (λ_ _ h=>h) h
def zzD:zek:=rP0 λc=>(zog c,zjL c,[aH<|ztu c])
def zMW:zbW Tryz.prog 95 [false,true,true] zzD:=hP0 zHP zU zXo zn (zq []) (λ_ h=>(zIq h).1)
def z5g {c:Cur}(h:zbi c):zog c=true:=by
 refine zZV c ⟨0,?_⟩;have e:zbi {znx c with b:=c.b}:=zbS h (z3o _);have a:=(zN2<|z9i h).2.2;have f:=(zIs<|z3Q e (m:=20) (by omega) (by omega)).2.2;unfold zxY oN;conv=>zeta
 have i:(ztv {znx c with b:=c.b} 20).length<=65:=by unfold ln at f;omega
 have S:zFF (zwi c):=⟨by omega,λp d=>by
  have g:=a.2.2 p d;exact⟨by omega,λx j=>by have:=zKr (g.2.2 x j);omega⟩⟩
 exact zC (z9i h) (zC (z3Q e (by omega) (by omega))<|zC (zbd ⟨S,qU i (by decide)⟩)<|zbP aH (zZZ _ _) ⟨_,_,S,⟨a.1,λp d=>⟨(a.2.2 p d).1,(a.2.2 p d).2.2⟩⟩,rfl⟩)
def zbaK:zc3:=[(95,[false,true,true],zzD)]++zbaJ
def zKl:zcd zbaK:=zcP zXo (by
 intro x a;simp only[qG,qO,or_false]at a;rcases a with rfl
 .exact zMW)
def z4e:zY:=zVy
def z4f:zS z4e:=zHP
instance:Inhabited Slot:=⟨⟨0,0⟩⟩
instance:Inhabited Entry:=⟨⟨0,0,0,0⟩⟩
instance:Inhabited GExit:=⟨⟨0,0,false,0⟩⟩
instance:Inhabited Guest:=⟨⟨[],0,0,[],[],⟨0,0,false⟩,0,⟨0,0,false,0⟩,false,[]⟩⟩
def zwI {c:Cur}(h:zbi c){n m:Int}(a:0<n)(b:n<=m):inb (zx c n) m=true:=by have:=zgg h a;exact qI (by omega)
def zDQ {c:Cur}(h:zbi c){n m:Int}(a:0<n)(b:n<=m+1):inr 0 (zx c n) m=true:=by have:=zgg h a;exact qI (by omega)
def zEO {a:Type}(l:List a)(n:Int):(tk l n).length<=l.length:=by simp[tk];omega
def zjk {a:Type}(l:List a)(n:Int)(x:a):(up l n x).length=l.length:=by simp[up]
def z8g {a:Type}(l:List a)(n:Int):ln (tk l n)<=ln l:=by have:=zEO l n;unfold ln;omega
def z8h {a:Type}(l:List a)(n:Int)(x:a):ln (up l n x)=ln l:=by unfold ln;rw[zjk]
def I64 (x:Int):Prop:=-9223372036854775808<=x/\x<=9223372036854775807
def zW9 {f:Type}{c:Cur}(h:zbi c){P:f->Prop}{m:Int}(r:0<=m)(I:m<=1000){fc:Cur->Bool}{fs:Cur->Cur}{fv:Cur->f}(z:∀{c:Cur},zbi c->fc c=true)(C:∀c,0<=(fs c).i)(hg:∀{c:Cur},zbi c->P (fv c)){G:Ans->Prop}{R:Cur->List f->Ans}(w:∀s l,s.b=c.b->0<=s.i->ln l=m->(∀x∈l,P x)->G (R s l)){j:Type}(S:Int->Int×Int×List f->j){F:(j->OA)->j->OA}(v:∀rec t i k l,F rec (S t (i,k,l))=bif ilt t m then (cond (fc ⟨c.b,i,k⟩) (cond (few<|ln<|ap l [fv ⟨c.b,i,k⟩]) (rec<|S (zM .i64 t 1) ((fs ⟨c.b,i,k⟩).i,(fs ⟨c.b,i,k⟩).h,ap l [fv ⟨c.b,i,k⟩])) none) none) else some (R ⟨c.b,i,k⟩ l)):Ends G (iter 1002 F<|S 0 (c.i,c.h,[])):=by refine zl6 (λn s=>∃t i k l,s=S t (i,k,l)/\t+(n:Int)=1000/\0<=t/\t<=m/\0<=i/\(∀x∈l,P x)/\ln l=t) ?_ 1002 1000 _ ⟨0,c.i,c.h,[],rfl,rfl,kS 0,r,h.1,by simp,rfl⟩ (by omega);rintro n s rec ⟨t,i,k,l,rfl,D,u,E,p,q,H⟩ d;rw[v];have a:zbi ⟨c.b,i,k⟩:=zbS h p;refine zbJ (λg=>?_) (λg=>?_);{have B:t<m:=qD g;have J:=ziu (y:=1) u (by omega) (by omega) (by omega);refine zC (z a) (zC (zlf (by rw[zhW];omega))<|d (n-1) _ (by omega) ⟨_,_,_,_,rfl,by omega,by omega,by omega,C _,?_,by rw[zhW];omega⟩);intro x e;rcases jJ.1 e with e|e;{exact q x e};{rw [qF.1 e];exact hg a}};{have A:¬ t<m:=jP g;exact znQ (w _ l rfl p (by omega) q)}
def ztE (N:Nat)(c:Cur)  : OA :=
 let a:=zbg c [3,3,1,2,0,3,1,-1,4,9223372036854775807]; (oN (zbA c [3,3,1,2,0,3,1,-1,4,9223372036854775807])<|some [.agg [.s .u8 c.b,.i .i64 a.i,.i .i64 a.h],aI<|zbs c [3,3,1,2,0,3,1,-1,4,9223372036854775807]])
def znr (c:Cur)(s:Cur)(a:Int):Prop:=(∃N,ztE N c=some (AV.agg (zb4 s)::[aI a]))/\(s.b=c.b/\0<=s.i)/\(True)
def zlo (c:Cur)  : Bool:=wC (znr c)
def zlp (c:Cur)  : Cur:=wS (znr c)
def zsD (c:Cur)  : Int:=wV (znr c)
def zUl {c:Cur}(h:zlo c=true):znr c (zlp c) (zsD c):=wG h
def zUn (c:Cur)  : 0<=(zlp c).i:=wP λh=>h.2.1.2
def zUm (c:Cur)(h:∃N,Ends (wE (λa=>aI a) c.b λa=>True)<|ztE N c):zlo c=true:=wI (λ_ _ h=>h) h
def zvQ:zek:=rP0 λc=>(zlo c,zlp c,[aI<|zsD c])
def zGE:zbW Tryz.prog 327 [false,true,true] zvQ:=hP0 zdv zU zKl zn (zq []) (λ_ h=>(zUl h).1)
def z8D {c:Cur}(h:zbi c):zlo c=true:=by
 refine zUm c ⟨0,?_⟩;unfold ztE oN;conv=>zeta
 exact zC (zfv h (by simp)) (zbP aI (zb6 _ _) trivial)
def zbaL:zc3:=[(327,[false,true,true],zvQ)]++zbaK
def zXp:zcd zbaL:=zcP zKl (by
 intro x a;simp only[qG,qO,or_false]at a;rcases a with rfl
 .exact zGE)
def z9Q:zY:=[(113,zmu),(163,zjn),(264,zkk),(266,zlm)]++zx8
def zeH:zS z9Q:=zh zzd (zh zuf<|zh zvA<|zh zw4 zdv)
def zxT (N:Nat)(c:Cur)(d:Int):OA:=
 let e:=({ (zV c 5) with b:=c.b}:Cur);let a:=({ (zf e d) with b:=c.b}:Cur); (oN (zde c 5)<|cond (zdq c 5) (oN zbI<|some [.agg [.s .u8 c.b,.i .i64 (zV c 5).i,.i .i64 (zV c 5).h],.agg [.i .i64 zbc.Page,.i .i64 zbc.Rights]])<|oN (zD e d)<|oN (zbA a [3,3,3,1,2])<|some [.agg [.s .u8 c.b,.i .i64 (zbg a [3,3,3,1,2]).i,.i .i64 (zbg a [3,3,3,1,2]).h],.agg [.i .i64<|zx e d,.i .i64<|zbs a [3,3,3,1,2]]])
def zqU (c:Cur)(a:Int)(s:Cur)(d:Slot):Prop:=(∃N,zxT N c a=some (AV.agg (zb4 s)::[aT .slot d]))/\(s.b=c.b/\0<=s.i)/\(0<a->a<=1000->I64 d.Page)
def zjG (c:Cur)(a:Int):Bool:=wC (zqU c a)
def zg8 (c:Cur)(a:Int):Cur:=wS (zqU c a)
def zgF (c:Cur)(a:Int):Slot:=wV (zqU c a)
def zyp {c:Cur}{a:Int}(h:zjG c a=true):zqU c a (zg8 c a) (zgF c a):=wG h
def zIo (c:Cur)(a:Int):0<=(zg8 c a).i:=wP λh=>h.2.1.2
def zZN (c:Cur)(a:Int)(h:∃N,Ends (wE (λd=>aT .slot d) c.b λd=>0<a->a<=1000->I64 d.Page)<|zxT N c a):zjG c a=true:=wI (λ_ _ h=>h) h
def zzx:zek:=rP1 dI λc b=>(zjG c b,zg8 c b,[aT .slot<|zgF c b])
def zMM:zbW Tryz.prog 326 [false,true,true] zzx:=hP1 zeH zU zXp zn (zq []) (λ_ _ h=>(zyp h).1)
def zN5 {c:Cur}(h:zbi c)(a:Int):zjG c a=true:=by
 refine zZN c a ⟨0,?_⟩;unfold zxT oN;conv=>zeta
 have d:zbi {zV c 5 with b:=c.b}:=zbS h (zcw _ _);have g:zbi {zf {zV c 5 with b:=c.b} a with b:=c.b}:=zbS h (zI _ _);refine zC (zkj h 5) (zbJ (λ_=>zC rfl (zbP (aT .slot) (v:=⟨_,_⟩) (zcw _ _) λ_ _=>?_)) λ_=>zC (zbF d a) (zC (zfv g (by simp))<|zbP (aT .slot) (v:=⟨_,_⟩) (zb6 _ _) λe f=>?_));{exact⟨by decide,by decide⟩};{have:=zgg d e;exact⟨Int.le_trans (by decide) this.1,Int.le_trans (vL this.2) (by omega)⟩}
def zbaM:zc3:=[(326,[false,true,true],zzx)]++zbaL
def zKm:zcd zbaM:=zcP zXp (by
 intro x a;simp only[qG,qO,or_false]at a;rcases a with rfl
 .exact zMM)
def zAd (N:Nat)(c:Cur)(a:Int):OA:=
 let e:=({ (zg8 c a) with b:=c.b}:Cur);let d:=({ (zf e 12) with b:=c.b}:Cur);let f:=zbg d [-1,-2,a,9223372036854775807,-9223372036854775808]; (oN (zjG c a)<|oN (zD e 12)<|cond (ieq (zx e 12) 0) (oN (zbA d [-1,-2,a,9223372036854775807,-9223372036854775808])<|some [.agg [.s .u8 c.b,.i .i64 f.i,.i .i64 f.h],.agg [.i .i64<|zbs d [-1,-2,a,9223372036854775807,-9223372036854775808],.i .i64 (zgF c a).Rights]])<|cond (ieq (zx e 12) 1) (oN (zlo d)<|some [.agg [.s .u8 c.b,.i .i64 (zlp d).i,.i .i64 (zlp d).h],.agg [.i .i64 (zgF c a).Page,.i .i64<|zsD d]])<|some [.agg [.s .u8 c.b,.i .i64 (zf e 12).i,.i .i64 (zf e 12).h],.agg [.i .i64 (zgF c a).Page,.i .i64 (zgF c a).Rights]])
def zsE (c:Cur)(a:Int)(s:Cur)(d:Slot):Prop:=(∃N,zAd N c a=some (AV.agg (zb4 s)::[aT .slot d]))/\(s.b=c.b/\0<=s.i)/\(0<a->a<=1000->I64 d.Page)
def zqR (c:Cur)(a:Int):Bool:=wC (zsE c a)
def zqS (c:Cur)(a:Int):Cur:=wS (zsE c a)
def zKx (c:Cur)(a:Int):Slot:=wV (zsE c a)
def zNY {c:Cur}{a:Int}(h:zqR c a=true):zsE c a (zqS c a) (zKx c a):=wG h
def z2X (c:Cur)(a:Int):0<=(zqS c a).i:=wP λh=>h.2.1.2
def z2W (c:Cur)(a:Int)(h:∃N,Ends (wE (λd=>aT .slot d) c.b λd=>0<a->a<=1000->I64 d.Page)<|zAd N c a):zqR c a=true:=wI (λ_ _ h=>h) h
def zB4:zek:=rP1 dI λc b=>(zqR c b,zqS c b,[aT .slot<|zKx c b])
def zPR:zbW Tryz.prog 280 [false,true,true] zB4:=hP1 zeH zU zKm zn (zq []) (λ_ _ h=>(zNY h).1)
def zR2 {c:Cur}(h:zbi c)(a:Int):zqR c a=true:=by
 refine z2W c a ⟨0,?_⟩;unfold zAd oN;conv=>zeta
 have d:zbi {zg8 c a with b:=c.b}:=zbS h (zIo _ _);have f:zbi {zf {zg8 c a with b:=c.b} 12 with b:=c.b}:=zbS h (zI _ _);have g:=(zyp<|zN5 h a).2.2;refine zC (zN5 h a) (zC (zbF d 12)<|zbJ (λ_=>zC (zfv f (by simp)) (zbP (aT .slot) (v:=⟨zbs _ _,(zgF c a).Rights⟩) (zb6 _ _) λe i=>?_)) λ_=>zbJ (λ_=>zC (z8D f) (zbP (aT .slot) (v:=⟨(zgF c a).Page,zsD _⟩) (zUn _) λe d=>g e d)) λ_=>zbP (aT .slot) (v:=⟨(zgF c a).Page,(zgF c a).Rights⟩) (zI _ _) λe d=>g e d);have j:=z0U f (l:=[-1,-2,a,9223372036854775807,-9223372036854775808]) (by simp);simp only[qG,qO,or_false]at j;unfold I64;dsimp only;omega
def zu9 (N:Nat)(c:Cur)(g j:Int):OA:=
 (iter (σ:=(Int×Int×Int×Int×Int×lS×LI×Unit)) N (λk a=>let e:=a.2.2.2.2.2.2.1;let d:=(⟨e,a.2.2.2.1,a.2.2.2.2.1⟩:Cur);let f:=ap a.2.2.2.2.2.1 [zgF d a.2.1]; (cond (ilt a.2.2.1 a.1) (oN (zjG d a.2.1)<|oN (few<|ln f)<|k (a.1,a.2.1,zM .i64 a.2.2.1 1,(zg8 d a.2.1).i,(zg8 d a.2.1).h,f,e,()))<|some [.agg [.s .u8 e,.i .i64 a.2.2.2.1,.i .i64 a.2.2.2.2.1],aS .slot a.2.2.2.2.2.1])) (g,j,0,c.i,c.h,[],c.b,()))
def zRo:=zq [(279,0,{n:=22,tm:=[(0,.lp 0 0),(1,ti),(2,ti),(7,.sl 0 []),(8,ti)],lo:=[(0,[.sl 1 [],ti,ti])],ro:=[(0,.slot,true),(1,.u8,false)]})]
def zoz (c:Cur)(a:Int)(d:Int)(s:Cur)(e:List Slot):Prop:=(∃N,zu9 N c a d=some (AV.agg (zb4 s)::[aS .slot e]))/\(s.b=c.b/\0<=s.i)/\(0<=a->a<=1000->ln e=a/\(0<d->d<=1000->∀s∈e,I64 s.Page))
def ziT (c:Cur)(a:Int)(b:Int):Bool:=wC (zoz c a b)
def zJ (c:Cur)(a:Int)(b:Int):Cur:=wS (zoz c a b)
def zdX (c:Cur)(a:Int)(b:Int):List Slot:=wV (zoz c a b)
def zwf {c:Cur}{a:Int}{b:Int}(h:ziT c a b=true):zoz c a b (zJ c a b) (zdX c a b):=wG h
def ziU (c:Cur)(a:Int)(b:Int):0<=(zJ c a b).i:=wP λh=>h.2.1.2
def zXG (c:Cur)(a:Int)(d:Int)(h:∃N,Ends (wE (λe=>aS .slot e) c.b λe=>0<=a->a<=1000->ln e=a/\(0<d->d<=1000->∀s∈e,I64 s.Page))<|zu9 N c a d):ziT c a d=true:=wI (λ_ _ h=>h) h
def zxe:zek:=rP2 dI dI λc b d=>(ziT c b d,zJ c b d,[aS .slot<|zdX c b d])
def zJL:zbW Tryz.prog 279 [false,true,true] zxe:=hP2 zeH zU zKm zn zRo (λ_ _ _ h=>(zwf h).1)
def zz8 {c:Cur}(h:zbi c){d:Int}(g:0<=d)(j:d<=1000)(a:Int):ziT c d a=true:=by
 refine zXG c d a ⟨1002,?_⟩;unfold zu9 oN;conv=>zeta
 exact zW9 h (P:=λs=>0<a->a<=1000->I64 s.Page) g j (fc:=λc=>zjG c a) (fs:=λc=>zg8 c a) (fv:=λc=>zgF c a) (R:=λs l=>AV.agg (zb4 s)::[aS .slot l]) (λh=>zN5 h a) (λc=>zIo c a) (λh=>(zyp<|zN5 h a).2.2) (λs l m n p q=>⟨s,l,rfl,⟨m,n⟩,λ_ _=>⟨p,λe f s r=>q s r e f⟩⟩) ((λi t=>(d,a,(i:Int),t.1,t.2.1,t.2.2,c.b,())):Int->Int×Int×List Slot->_) (λrec t i k l=>rfl)
def zbcv {c:Cur}(h:zbi c){n m:Int}(a:0<=n)(b:n<=1000)(d:0<m)(e:m<=1000):ln (zdX c n m)=n/\∀s∈zdX c n m,I64 s.Page:=by have g:=(zwf<|zz8 h a b m).2.2 a b;exact⟨g.1,g.2 d e⟩
def zbaN:zc3:=[(280,[false,true,true],zB4),(279,[false,true,true],zxe)]++zbaM
def zKn:zcd zbaN:=zcP zKm (by
 intro x a;simp only[qG,qO,or_false]at a;rcases a with rfl|rfl
 .exact zPR
 .exact zJL)
def zpw (N:Nat)(c:Cur)(a d:Int):OA:=
 let g:=zdX c a d;let f:=({ (zJ c a d) with b:=c.b}:Cur);let e:=({ (zf f 8) with b:=c.b}:Cur);let k:=zx e a;let j:=({ (zf e a) with b:=c.b}:Cur); (oN (ziT c a d)<|oN (zD f 8)<|cond (ieq (zx f 8) 0) (oN (zD e a)<|oN (zqR j d)<|oN (inb k<|ln g)<|share (up g k<|zKx j d) λl=>some [.agg [.s .u8 c.b,.i .i64 (zqS j d).i,.i .i64 (zqS j d).h],aS .slot l])<|cond (ieq (zx f 8) 1) (oN (zD e a)<|oN (inr 0 k<|ln g)<|some [.agg [.s .u8 c.b,.i .i64 (zf e a).i,.i .i64 (zf e a).h],aS .slot<|tk g k])<|some [.agg [.s .u8 c.b,.i .i64 (zf f 8).i,.i .i64 (zf f 8).h],aS .slot g])
def zk4 (c:Cur)(a:Int)(d:Int)(s:Cur)(e:List Slot):Prop:=(∃N,zpw N c a d=some (AV.agg (zb4 s)::[aS .slot e]))/\(s.b=c.b/\0<=s.i)/\(0<a->a<=1000->ln e<=a/\(0<d->d<=1000->∀s∈e,I64 s.Page))
def zgr (c:Cur)(a:Int)(b:Int):Bool:=wC (zk4 c a b)
def zhx (c:Cur)(a:Int)(b:Int):Cur:=wS (zk4 c a b)
def zfI (c:Cur)(a:Int)(b:Int):List Slot:=wV (zk4 c a b)
def zqP {c:Cur}{a:Int}{b:Int}(h:zgr c a b=true):zk4 c a b (zhx c a b) (zfI c a b):=wG h
def zqQ (c:Cur)(a:Int)(b:Int):0<=(zhx c a b).i:=wP λh=>h.2.1.2
def zNX (c:Cur)(a:Int)(d:Int)(h:∃N,Ends (wE (λe=>aS .slot e) c.b λe=>0<a->a<=1000->ln e<=a/\(0<d->d<=1000->∀s∈e,I64 s.Page))<|zpw N c a d):zgr c a d=true:=wI (λ_ _ h=>h) h
def ztm:zek:=rP2 dI dI λc b d=>(zgr c b d,zhx c b d,[aS .slot<|zfI c b d])
def zCW:zbW Tryz.prog 189 [false,true,true] ztm:=hP2 zeH zU zKn zn (zq []) (λ_ _ _ h=>(zqP h).1)
def zpy {c:Cur}(h:zbi c){n:Int}(a:0<n)(j:n<=1000)(m:Int):zgr c n m=true:=by
 refine zNX c n m ⟨0,?_⟩;unfold zpw oN;conv=>zeta
 have l:zbi {zJ c n m with b:=c.b}:=zbS h (ziU _ _ _);have i:zbi {zf {zJ c n m with b:=c.b} 8 with b:=c.b}:=zbS h (zI _ _);have k:zbi {zf {zf {zJ c n m with b:=c.b} 8 with b:=c.b} n with b:=c.b}:=zbS h (zI _ _);have g:=(zwf<|zz8 h (vL a) j m).2.2 (vL a) j;generalize zdX c n m=T at g;refine zC (zz8 h (vL a) j m) (zC (zbF l 8)<|zbJ (λ_=>zC (zbF i n) (zC (zR2 k m)<|zC (zwI i a (by omega))<|zmY<|zbP (aS .slot) (z2X _ _) λ_ _=>⟨by rw[z8h];omega,λe f s d=>?_⟩)) λ_=>zbJ (λ_=>zC (zbF i n) (zC (zDQ i a (by omega))<|zbP (aS .slot) (zI _ _) λ_ _=>⟨?_,λe f s d=>g.2 e f s (jU d)⟩)) λ_=>zbP (aS .slot) (zI _ _) λ_ _=>⟨by omega,g.2⟩);{rcases qX d with d|rfl;{exact g.2 e f s d};{exact(zNY<|zR2 k m).2.2 e f}};{have:=z8g T;exact Int.le_trans (this _) (by omega)}
def zxU (N:Nat)(c:Cur)  : OA :=
 (iter (σ:=(Int×Int×Int×LI×LI×Unit)) N (λf a=>let d:=(⟨a.2.2.2.2.1,a.2.1,a.2.2.1⟩:Cur);let e:=ap a.2.2.2.1 [zx d 100]; (cond (ilt a.1 4) (oN (zD d 100)<|oN (few<|ln e)<|f (zM .i64 a.1 1,(zf d 100).i,(zf d 100).h,e,a.2.2.2.2.1,()))<|some [.agg [.s .u8 a.2.2.2.2.1,.i .i64 a.2.1,.i .i64 a.2.2.1],aS .int a.2.2.2.1])) (0,c.i,c.h,[],c.b,()))
def zUC:=zq [(281,0,{n:=16,tm:=[(0,.lp 0 0),(3,.sl 0 []),(4,ti)],lo:=[(0,[.sl 1 [],ti,ti])],ro:=[(0,.int,true),(1,.u8,false)]})]
def zqW (c:Cur)(s:Cur)(a:LI):Prop:=(∃N,zxU N c=some (AV.agg (zb4 s)::[aS .int a]))/\(s.b=c.b/\0<=s.i)/\(a.length=4)
def zjH (c:Cur)  : Bool:=wC (zqW c)
def zf9 (c:Cur)  : Cur:=wS (zqW c)
def zpn (c:Cur)  : LI:=wV (zqW c)
def zyq {c:Cur}(h:zjH c=true):zqW c (zf9 c) (zpn c):=wG h
def zIp (c:Cur)  : 0<=(zf9 c).i:=wP λh=>h.2.1.2
def zZO (c:Cur)(h:∃N,Ends (wE (λa=>aS .int a) c.b λa=>a.length=4)<|zxU N c):zjH c=true:=wI (λ_ _ h=>h) h
def zzy:zek:=rP0 λc=>(zjH c,zf9 c,[aS .int<|zpn c])
def zMO:zbW Tryz.prog 281 [false,true,true] zzy:=hP0 zeH zU zKn zn zUC (λ_ h=>(zyq h).1)
def zNN {c:Cur}(h:zbi c):zjH c=true:=by
 refine zZO c ⟨1002,?_⟩;unfold zxU oN;conv=>zeta
 exact zW9 h (P:=λ_=>True) (m:=4) (by omega) (by omega) (fc:=λc=>zD c 100) (fs:=λc=>zf c 100) (fv:=λc=>zx c 100) (R:=λs l=>AV.agg (zb4 s)::[aS .int l]) (λh=>zbF h _) (λc=>zI c _) (λ_=>trivial) (λs l a d e f=>⟨s,l,rfl,⟨a,d⟩,by unfold ln at e;omega⟩) ((λi t=>((i:Int),t.1,t.2.1,t.2.2,c.b,())):Int->Int×Int×LI->_) (λrec t i k l=>rfl)
def zbaO:zc3:=[(189,[false,true,true],ztm),(281,[false,true,true],zzy)]++zbaN
def zKo:zcd zbaO:=zcP zKn (by
 intro x a;simp only[qG,qO,or_false]at a;rcases a with rfl|rfl
 .exact zCW
 .exact zMO)
def zAe (N:Nat)(c:Cur)(f:Int):OA:=
 (iter (σ:=(Int×Int×Int×Int×lM×LI×Unit)) N (λg a=>let d:=(⟨a.2.2.2.2.2.1,a.2.2.1,a.2.2.2.1⟩:Cur);let e:=ap a.2.2.2.2.1 [zpn d]; (cond (ilt a.2.1 a.1) (oN (zjH d)<|oN (few<|ln e)<|g (a.1,zM .i64 a.2.1 1,(zf9 d).i,(zf9 d).h,e,a.2.2.2.2.2.1,()))<|some [.agg [.s .u8 a.2.2.2.2.2.1,.i .i64 a.2.2.1,.i .i64 a.2.2.2.1],aS (.sl .int) a.2.2.2.2.1])) (f,0,c.i,c.h,[],c.b,()))
def zYy:=zq [(285,0,{n:=19,tm:=[(0,.lp 0 0),(1,ti),(5,.sl 0 []),(6,ti)],lo:=[(0,[.sl 1 [],ti,ti])],ro:=[(0,.sl .int,true),(1,.u8,false)]})]
def zsG (c:Cur)(a:Int)(s:Cur)(d:List LI):Prop:=(∃N,zAe N c a=some (AV.agg (zb4 s)::[aS (.sl .int) d]))/\(s.b=c.b/\0<=s.i)/\(0<=a->a<=1000->ln d=a/\∀r∈d,r.length=4)
def zju (c:Cur)(a:Int):Bool:=wC (zsG c a)
def zns (c:Cur)(a:Int):Cur:=wS (zsG c a)
def zwg (c:Cur)(a:Int):List LI:=wV (zsG c a)
def zBh {c:Cur}{a0:Int}(h:zju c a0=true):zsG c a0 (zns c a0) (zwg c a0):=wG h
def z3b (c:Cur)(a0:Int):0<=(zns c a0).i:=wP λh=>h.2.1.2
def z3a (c:Cur)(a:Int)(h:∃N,Ends (wE (λd=>aS (.sl .int) d) c.b λd=>(0<=a->a<=1000->ln d=a/\∀r∈d,r.length=4))<|zAe N c a):zju c a=true:=wI (λ_ _ h=>h) h
def zB5:zek:=rP1 dI λc b=>(zju c b,zns c b,[aS (.sl .int)<|zwg c b])
def zze:zbW Tryz.prog 285 [false,true,true] zB5:=hP1 zeH zU zKo zn zYy (λ_ _ h=>(zBh h).1)
def zbd0 {c:Cur}(h:zbi c){a0:Int}(a:0<=a0)(d:a0<=1000):zju c a0=true:=by
 refine z3a c a0 ⟨1002,?_⟩;unfold zAe oN;conv=>zeta
 exact zW9 h (P:=λr=>r.length=4) a d (fc:=zjH) (fs:=zf9) (fv:=zpn) (R:=λs l=>AV.agg (zb4 s)::[aS (.sl .int) l]) zNN zIp (λh=>(zyq<|zNN h).2.2) (λs l e f g j=>⟨s,l,rfl,⟨e,f⟩,λ_ _=>⟨g,j⟩⟩) ((λi t=>(a0,(i:Int),t.1,t.2.1,t.2.2,c.b,())):Int->Int×Int×List LI->_) (λrec t i k l=>rfl)
def zva (N:Nat)(c:Cur)  : OA :=
 let d:=zpn c;let e:=({ (zf9 c) with b:=c.b}:Cur);let f:=zf e 6;let a:=({f with b:=c.b}:Cur);let g:=({ (zf a 4) with b:=c.b}:Cur); (oN (zjH c)<|oN (zD e 6)<|cond (ieq (zx e 6) 0) (oN (zD a 4)<|oN (inr 0 (zx a 4)<|ln d)<|some [.agg [.s .u8 c.b,.i .i64 (zf a 4).i,.i .i64 (zf a 4).h],aS .int<|tk d<|zx a 4])<|cond (ieq (zx e 6) 1) (oN (zD a 4)<|oN (zbA g [-1,99,100])<|oN (inb (zx a 4)<|ln d)<|share (up d (zx a 4)<|zbs g [-1,99,100]) λj=>some [.agg [.s .u8 c.b,.i .i64 (zbg g [-1,99,100]).i,.i .i64 (zbg g [-1,99,100]).h],aS .int j])<|cond (ieq (zx e 6) 2) (oN (few<|ln<|ap d [1])<|some [.agg [.s .u8 c.b,.i .i64 f.i,.i .i64 f.h],aS .int<|ap d [1]])<|some [.agg [.s .u8 c.b,.i .i64 f.i,.i .i64 f.h],aS .int d])
def zoA (c:Cur)(s:Cur)(a:LI):Prop:=(∃N,zva N c=some (AV.agg (zb4 s)::[aS .int a]))/\(s.b=c.b/\0<=s.i)/\(a.length<=5)
def zmz (c:Cur)  : Bool:=wC (zoA c)
def zmA (c:Cur)  : Cur:=wS (zoA c)
def zuJ (c:Cur)  : LI:=wV (zoA c)
def zFh {c:Cur}(h:zmz c=true):zoA c (zmA c) (zuJ c):=wG h
def zXI (c:Cur)  : 0<=(zmA c).i:=wP λh=>h.2.1.2
def zXH (c:Cur)(h:∃N,Ends (wE (λa=>aS .int a) c.b λa=>a.length<=5)<|zva N c):zmz c=true:=wI (λ_ _ h=>h) h
def zxf:zek:=rP0 λc=>(zmz c,zmA c,[aS .int<|zuJ c])
def zJM:zbW Tryz.prog 190 [false,true,true] zxf:=hP0 zeH zU zKo zn (zq []) (λ_ h=>(zFh h).1)
def z0q {c:Cur}(h:zbi c):zmz c=true:=by
 refine zXH c ⟨0,?_⟩;unfold zva oN;conv=>zeta
 have e:zbi {zf9 c with b:=c.b}:=zbS h (zIp _);have a:zbi {zf {zf9 c with b:=c.b} 6 with b:=c.b}:=zbS h (zI _ _);have f:zbi {zf {zf {zf9 c with b:=c.b} 6 with b:=c.b} 4 with b:=c.b}:=zbS h (zI _ _);have g:=(zyq<|zNN h).2.2;generalize zpn c=T at g;have d:ln T=4:=(by unfold ln;omega);refine zC (zNN h) (zC (zbF e 6)<|zbJ (λ_=>zC (zbF a 4) (zC (zDQ a (by omega) (by omega))<|zbP (aS .int) (zI _ _)<|qU (zEO T _) (by omega))) λ_=>zbJ (λ_=>zC (zbF a 4) (zC (zfv f (by simp))<|zC (zwI a (by omega) (by omega))<|zmY<|zbP (aS .int) (zb6 _ _) (by rw[zjk];omega))) λ_=>zbJ (λ_=>zC (zlf (by rw[zhW];omega)) (zbP (aS .int) (zI _ _) ?_)) λ_=>zbP (aS .int) (zI _ _) (by omega));simp[ap];omega
def zbaP:zc3:=[(285,[false,true,true],zB5),(190,[false,true,true],zxf)]++zbaO
def zXq:zcd zbaP:=zcP zKo (by
 intro x a;simp only[qG,qO,or_false]at a;rcases a with rfl|rfl
 .exact zze
 .exact zJM)
def ztG (N:Nat)(c:Cur)  : OA :=
 let d:=({ (zhb c) with b:=c.b}:Cur);let a:=({ (zf d 10) with b:=c.b}:Cur);let e:=zbg a [-1,0,12,15,16,99,100,9223372036854775807]; (oN (zk5 c)<|oN (zD d 10)<|cond (ieq (zx d 10) 0) (oN (zD a 11)<|some [.agg [.s .u8 c.b,.i .i64 (zf a 11).i,.i .i64 (zf a 11).h],.agg [.i .i64<|wsub .i64 (zx a 11) 1,.i .i64 (zgV c).X]])<|cond (ieq (zx d 10) 1) (oN (zbA a [-1,0,12,15,16,99,100,9223372036854775807])<|some [.agg [.s .u8 c.b,.i .i64 e.i,.i .i64 e.h],.agg [.i .i64 (zgV c).Op,.i .i64<|zbs a [-1,0,12,15,16,99,100,9223372036854775807]]])<|some [.agg [.s .u8 c.b,.i .i64 (zf d 10).i,.i .i64 (zf d 10).h],.agg [.i .i64 (zgV c).Op,.i .i64 (zgV c).X]])
def znv (c:Cur)(s:Cur)(a:Ins):Prop:=(∃N,ztG N c=some (AV.agg (zb4 s)::[aT .ins a]))/\(s.b=c.b/\0<=s.i)/\(True)
def zls (c:Cur)  : Bool:=wC (znv c)
def zlt (c:Cur)  : Cur:=wS (znv c)
def zyr (c:Cur)  : Ins:=wV (znv c)
def zUq {c:Cur}(h:zls c=true):znv c (zlt c) (zyr c):=wG h
def zUs (c:Cur)  : 0<=(zlt c).i:=wP λh=>h.2.1.2
def zUr (c:Cur)(h:∃N,Ends (wE (λa=>aT .ins a) c.b λa=>True)<|ztG N c):zls c=true:=wI (λ_ _ h=>h) h
def zvS:zek:=rP0 λc=>(zls c,zlt c,[aT .ins<|zyr c])
def zGG:zbW Tryz.prog 276 [false,true,true] zvS:=hP0 zeH zU zXq zn (zq []) (λ_ h=>(zUq h).1)
def z6Q {c:Cur}(h:zbi c):zls c=true:=by
 refine zUr c ⟨0,?_⟩;unfold ztG oN;conv=>zeta
 have d:zbi {zhb c with b:=c.b}:=zbS h (zBi _);have a:zbi {zf {zhb c with b:=c.b} 10 with b:=c.b}:=zbS h (zI _ _);exact zC (zUO h) (zC (zbF d 10)<|zbJ (λ_=>zC (zbF a 11) (zbP (aT .ins) (v:=⟨wsub .i64 _ 1,(zgV c).X⟩) (zI _ _) trivial)) λ_=>zbJ (λ_=>zC (zfv a (by simp)) (zbP (aT .ins) (v:=⟨(zgV c).Op,zbs _ _⟩) (zb6 _ _) trivial)) λ_=>zbP (aT .ins) (v:=zgV c) (zI _ _) trivial)
def zbaQ:zc3:=[(276,[false,true,true],zvS)]++zbaP
def zBc:zcd zbaQ:=zcP zXq (by
 intro x a;simp only[qG,qO,or_false]at a;rcases a with rfl
 .exact zGG)
def zrl (N:Nat)(c:Cur)  : OA :=
 let e:=zce c;let g:=({ (zbe c) with b:=c.b}:Cur);let k:=zf g 8;let d:=({k with b:=c.b}:Cur); (oN (zib c)<|oN (zD g 8)<|cond (ieq (zx g 8) 0) (oN (zls d)<|oN (inb 0<|ln e)<|share (up e 0<|zyr d) λm=>some [.agg [.s .u8 c.b,.i .i64 (zlt d).i,.i .i64 (zlt d).h],aS .ins m])<|cond (ieq (zx g 8) 1) (iter (σ:=(Int×Int×lI×LI×Unit)) N (λl a=>let j:=(⟨a.2.2.2.1,a.1,a.2.1⟩:Cur);let f:=({ (zf j 2) with b:=a.2.2.2.1}:Cur); (oN (zD j 2)<|cond (ilt (ln a.2.2.1)<|zM .i64 12<|zx j 2) (oN (zk5 f)<|oN (few<|ln<|ap a.2.2.1 [zgV f])<|l ((zhb f).i,(zhb f).h,ap a.2.2.1 [zgV f],a.2.2.2.1,()))<|some [.agg [.s .u8 a.2.2.2.1,.i .i64 (zf j 2).i,.i .i64 (zf j 2).h],aS .ins a.2.2.1])) (k.i,k.h,e,c.b,()))<|cond (ieq (zx g 8) 2) (oN (zD d 2)<|oN (inr 0 (zx d 2)<|ln e)<|some [.agg [.s .u8 c.b,.i .i64 (zf d 2).i,.i .i64 (zf d 2).h],aS .ins<|tk e<|zx d 2])<|some [.agg [.s .u8 c.b,.i .i64 k.i,.i .i64 k.h],aS .ins e])
def zKM:=zq [(183,1,{n:=34,tm:=[(0,.lp 0 0),(3,.sl 0 [])],lo:=[(0,[.sl 1 [],ti,ti])],ro:=[(0,.ins,true),(1,.u8,false)]})]
def zlY (c:Cur)(s:Cur)(a:List Ins):Prop:=(∃N,zrl N c=some (AV.agg (zb4 s)::[aS .ins a]))/\(s.b=c.b/\0<=s.i)/\(a.length<=13)
def zkr (c:Cur)  : Bool:=wC (zlY c)
def zks (c:Cur)  : Cur:=wS (zlY c)
def zqX (c:Cur)  : List Ins:=wV (zlY c)
def zz4 {c:Cur}(h:zkr c=true):zlY c (zks c) (zqX c):=wG h
def zQ5 (c:Cur)  : 0<=(zks c).i:=wP λh=>h.2.1.2
def zQ4 (c:Cur)(h:∃N,Ends (wE (λa=>aS .ins a) c.b λa=>a.length<=13)<|zrl N c):zkr c=true:=wI (λ_ _ h=>h) h
def zui:zek:=rP0 λc=>(zkr c,zks c,[aS .ins<|zqX c])
def zEr:zbW Tryz.prog 183 [false,true,true] zui:=hP0 zeH zU zBc zn zKM (λ_ h=>(zz4 h).1)
def zR1 {c:Cur}(h:zbi c):zkr c=true:=by
 refine zQ4 c ⟨1002,?_⟩;unfold zrl oN;conv=>zeta
 have B:zbi {zbe c with b:=c.b}:=zbS h (zjJ _);have q:zbi {zf {zbe c with b:=c.b} 8 with b:=c.b}:=zbS h (zI _ _);have g:=(zsJ<|zEY h).2.2;have p:=zKr g;have j:1<=(zce c).length:=(by unfold zdI at g;cases d:(zce c).all zeS with|false=>rw[d] at g;cases g|true=>rw[d,cT] at g;have:=(zfL.1 g).1;unfold ln at this;omega);generalize zce c=T at p j;have y:1<=ln T/\ln T<=12:=(by unfold ln;omega);have e:(2:Int)<=ln T+1:=(by omega);refine zC (zEY h) (zC (zbF B 8)<|zbJ (λ_=>zC (z6Q q) (zC (qI (by omega))<|zmY<|zbP (aS .ins) (zUs _) (by rw[zjk];omega))) λ_=>zbJ (λ_=>?_) λ_=>zbJ (λ_=>zC (zbF q 2) (zC (zDQ q (n:=2) (by omega) e)<|zbP (aS .ins) (zI _ _)<|qU (zEO T _) (by omega))) λ_=>zbP (aS .ins) (zI _ _) (by omega));{refine zl6 (λn s=>s.2.2.1.length+n=13/\0<=s.1/\s.2.2.2.1=c.b) ?_ 1002 (13-T.length) _ ⟨by dsimp only;omega,zI _ _,rfl⟩ (by omega);rintro n ⟨i,k,l,b,u⟩ rec ⟨v,r,t⟩ m;dsimp only at v r t ⊢;subst t;have a:zbi ⟨c.b,i,k⟩:=zbS h r;have A:=zgg a (n:=2) (by omega);have z:=ziu (x:=12) (by omega) (by omega) A.1 (by omega);have w:zbi {zf ⟨c.b,i,k⟩ 2 with b:=c.b}:=zbS h (zI _ _);refine zC (zbF a 2) (zbJ (λd=>?_) λd=>?_);{have f:ln l<zM .i64 12 (zx ⟨c.b,i,k⟩ 2):=qD d;rw[z]at f;unfold ln at f;exact zC (zUO w) (zC (zlf (by rw[zhW];unfold ln;omega))<|m (n-1) _ (by omega) ⟨by simp[ap];omega,zBi _,rfl⟩)};{exact zbP (aS .ins) (zI _ _) (by omega)}}
def zAg (N:Nat)(c:Cur)  : OA :=
 let a:=zcQ c;let e:=({ (zcs c) with b:=c.b}:Cur);let f:=zf e 8;let d:=({f with b:=c.b}:Cur);let g:=zbg d [-1,255,256,9223372036854775807]; (oN (zk6 c)<|oN (zD e 8)<|cond (ieq (zx e 8) 0) (oN (zbA d [-1,2,3,4])<|some [.agg [.s .u8 c.b,.i .i64 (zbg d [-1,2,3,4]).i,.i .i64 (zbg d [-1,2,3,4]).h],.agg [.i .i64<|zbs d [-1,2,3,4],.i .i64 a.Post,.b a.Open]])<|cond (ieq (zx e 8) 1) (oN (zbA d [-1,255,256,9223372036854775807])<|some [.agg [.s .u8 c.b,.i .i64 g.i,.i .i64 g.h],.agg [.i .i64 a.Traps,.i .i64<|zbs d [-1,255,256,9223372036854775807],.b a.Open]])<|cond (ieq (zx e 8) 2) (some [.agg [.s .u8 c.b,.i .i64 f.i,.i .i64 f.h],.agg [.i .i64 a.Traps,.i .i64 a.Post,.b<|nB a.Open]])<|some [.agg [.s .u8 c.b,.i .i64 f.i,.i .i64 f.h],.agg [.i .i64 a.Traps,.i .i64 a.Post,.b a.Open]])
def zsK (c:Cur)(s:Cur)(a:Ctl):Prop:=(∃N,zAg N c=some (AV.agg (zb4 s)::[.agg<|znF a]))/\(s.b=c.b/\0<=s.i)/\(True)
def zqZ (c:Cur)  : Bool:=wC (zsK c)
def zq0 (c:Cur)  : Cur:=wS (zsK c)
def zBj (c:Cur)  : Ctl:=wV (zsK c)
def z3d {c:Cur}(h:zqZ c=true):zsK c (zq0 c) (zBj c):=wG h
def z3f (c:Cur)  : 0<=(zq0 c).i:=wP λh=>h.2.1.2
def z3e (c:Cur)(h:∃N,Ends (wE (λa=>.agg (znF a)) c.b λa=>True)<|zAg N c):zqZ c=true:=wI (λ_ _ h=>h) h
def zB7:zek:=rP0 λc=>(zqZ c,zq0 c,[.agg<|znF<|zBj c])
def zPW:zbW Tryz.prog 282 [false,true,true] zB7:=hP0 zeH zU zBc zn (zq []) (λ_ h=>(z3d h).1)
def z6P {c:Cur}(h:zbi c):zqZ c=true:=by
 refine z3e c ⟨0,?_⟩;unfold zAg oN nB;conv=>zeta
 have d:zbi {zcs c with b:=c.b}:=zbS h (zBk _);have a:zbi {zf {zcs c with b:=c.b} 8 with b:=c.b}:=zbS h (zI _ _);exact zC (z1G h) (zC (zbF d 8)<|zbJ (λ_=>zC (zfv a (by simp)) (zbP (λx=>AV.agg (znF x)) (v:=⟨zbs _ _,(zcQ c).Post,(zcQ c).Open⟩) (zb6 _ _) trivial)) λ_=>zbJ (λ_=>zC (zfv a (by simp)) (zbP (λx=>AV.agg (znF x)) (v:=⟨(zcQ c).Traps,zbs _ _,(zcQ c).Open⟩) (zb6 _ _) trivial)) λ_=>zbJ (λ_=>zbP (λx=>AV.agg (znF x)) (v:=⟨(zcQ c).Traps,(zcQ c).Post,bif (zcQ c).Open then false else true⟩) (zI _ _) trivial) λ_=>zbP (λx=>AV.agg (znF x)) (v:=(zcQ c)) (zI _ _) trivial)
def zxW (N:Nat)(c:Cur)  : OA :=
 let f:=zf c 5;let d:=({f with b:=c.b}:Cur);let j:=zf d 100;let a:=zx d 100;let e:=({ (zf d 4) with b:=c.b}:Cur);let g:=zdF (zx d 4)<|zdq e 2; (oN (zD c 5)<|cond (ieq (zx c 5) 0) (oN (zD d 4)<|oN (zde e 2)<|oN (zfa (zx d 4)<|zdq e 2)<|some [.agg [.s .u8 c.b,.i .i64 (zV e 2).i,.i .i64 (zV e 2).h],.agg [.i .i64 g.Kind,.i .i64 g.Page,.b g.Write,.i .i64 g.N]])<|cond (ieq (zx c 5) 1) (oN (zD d 100)<|oN (ze1 a)<|some [.agg [.s .u8 c.b,.i .i64 j.i,.i .i64 j.h],.agg [.i .i64 (zeN a).Kind,.i .i64 (zeN a).Page,.b (zeN a).Write,.i .i64 (zeN a).N]])<|cond (ieq (zx c 5) 2) (oN (zD d 100)<|oN (ze1 a)<|some [.agg [.s .u8 c.b,.i .i64 j.i,.i .i64 j.h],.agg [.i .i64 (zfV a).Kind,.i .i64 (zfV a).Page,.b (zfV a).Write,.i .i64 (zfV a).N]])<|cond (ieq (zx c 5) 3) (some [.agg [.s .u8 c.b,.i .i64 f.i,.i .i64 f.h],.agg [.i .i64 4,.i .i64 0,.b false,.i .i64 0]])<|some [.agg [.s .u8 c.b,.i .i64 f.i,.i .i64 f.h],.agg [.i .i64 0,.i .i64 0,.b false,.i .i64 0]])
def zq3 (c:Cur)(s:Cur)(a:GExit):Prop:=(∃N,zxW N c=some (AV.agg (zb4 s)::[.agg<|zgI a]))/\(s.b=c.b/\0<=s.i)/\(True)
def zjK (c:Cur)  : Bool:=wC (zq3 c)
def zga (c:Cur)  : Cur:=wS (zq3 c)
def zcm (c:Cur)  : GExit:=wV (zq3 c)
def zZQ {c:Cur}(h:zjK c=true):zq3 c (zga c) (zcm c):=wG h
def zys (c:Cur)  : 0<=(zga c).i:=wP λh=>h.2.1.2
def zZR (c:Cur)(h:∃N,Ends (wE (λa=>.agg (zgI a)) c.b λa=>True)<|zxW N c):zjK c=true:=wI (λ_ _ h=>h) h
def zzB:zek:=rP0 λc=>(zjK c,zga c,[.agg<|zgI<|zcm c])
def zMR:zbW Tryz.prog 321 [false,true,true] zzB:=hP0 zeH zU zBc zn (zq []) (λ_ h=>(zZQ h).1)
def zVM {c:Cur}(h:zbi c):zjK c=true:=by
 refine zZR c ⟨0,?_⟩;unfold zxW oN;conv=>zeta
 have a:zbi {zf c 5 with b:=c.b}:=zbS h (zI _ _);have d:zbi {zf {zf c 5 with b:=c.b} 4 with b:=c.b}:=zbS h (zI _ _);exact zC (zbF h 5) (zbJ (λ_=>zC (zbF a 4) (zC (zkj d 2) (zC rfl (zbP (λx=>AV.agg (zgI x)) (v:=zdF _ _) (zcw _ _) trivial)))) λ_=>zbJ (λ_=>zC (zbF a 100) (zC rfl (zbP (λx=>AV.agg (zgI x)) (v:=zeN _) (zI _ _) trivial))) λ_=>zbJ (λ_=>zC (zbF a 100) (zC rfl (zbP (λx=>AV.agg (zgI x)) (v:=zfV _) (zI _ _) trivial))) λ_=>zbJ (λ_=>zbP (λx=>AV.agg (zgI x)) (v:=⟨4,0,false,0⟩) (zI _ _) trivial) λ_=>zbP (λx=>AV.agg (zgI x)) (v:=⟨0,0,false,0⟩) (zI _ _) trivial)
def zbaR:zc3:=[(183,[false,true,true],zui),(282,[false,true,true],zB7),(321,[false,true,true],zzB)]++zbaQ
def zoR:zcd zbaR:=zcP zBc (by
 intro x a;simp only[qG,qO,or_false]at a;rcases a with rfl|rfl|rfl
 .exact zEr
 .exact zPW
 .exact zMR)
def zAi (N:Nat)(c:Cur)  : OA :=
 let a:=zcm c;let e:=({ (zga c) with b:=c.b}:Cur);let d:=({ (zf e 8) with b:=c.b}:Cur); (oN (zjK c)<|oN (zD e 8)<|cond (ieq (zx e 8) 0) (oN (zD d 7)<|some [.agg [.s .u8 c.b,.i .i64 (zf d 7).i,.i .i64 (zf d 7).h],.agg [.i .i64<|wsub .i64 (zx d 7) 1,.i .i64 a.Page,.b a.Write,.i .i64 a.N]])<|cond (ieq (zx e 8) 1) (oN (zbA d [-1,3,4])<|some [.agg [.s .u8 c.b,.i .i64 (zbg d [-1,3,4]).i,.i .i64 (zbg d [-1,3,4]).h],.agg [.i .i64 a.Kind,.i .i64<|zbs d [-1,3,4],.b a.Write,.i .i64 a.N]])<|cond (ieq (zx e 8) 2) (oN (zbA d [-1,99,100])<|some [.agg [.s .u8 c.b,.i .i64 (zbg d [-1,99,100]).i,.i .i64 (zbg d [-1,99,100]).h],.agg [.i .i64 a.Kind,.i .i64 a.Page,.b a.Write,.i .i64<|zbs d [-1,99,100]]])<|some [.agg [.s .u8 c.b,.i .i64 (zf e 8).i,.i .i64 (zf e 8).h],.agg [.i .i64 a.Kind,.i .i64 a.Page,.b a.Write,.i .i64 a.N]])
def zsM (c:Cur)(s:Cur)(a:GExit):Prop:=(∃N,zAi N c=some (AV.agg (zb4 s)::[.agg<|zgI a]))/\(s.b=c.b/\0<=s.i)/\(True)
def zq1 (c:Cur)  : Bool:=wC (zsM c)
def zq2 (c:Cur)  : Cur:=wS (zsM c)
def zBl (c:Cur)  : GExit:=wV (zsM c)
def z3i {c:Cur}(h:zq1 c=true):zsM c (zq2 c) (zBl c):=wG h
def z3k (c:Cur)  : 0<=(zq2 c).i:=wP λh=>h.2.1.2
def z3j (c:Cur)(h:∃N,Ends (wE (λa=>.agg (zgI a)) c.b λa=>True)<|zAi N c):zq1 c=true:=wI (λ_ _ h=>h) h
def zB9:zek:=rP0 λc=>(zq1 c,zq2 c,[.agg<|zgI<|zBl c])
def zPY:zbW Tryz.prog 283 [false,true,true] zB9:=hP0 zeH zU zoR zn (zq []) (λ_ h=>(z3i h).1)
def z3R {c:Cur}(h:zbi c):zq1 c=true:=by
 refine z3j c ⟨0,?_⟩;unfold zAi oN;conv=>zeta
 have d:zbi {zga c with b:=c.b}:=zbS h (zys _);have a:zbi {zf {zga c with b:=c.b} 8 with b:=c.b}:=zbS h (zI _ _);exact zC (zVM h) (zC (zbF d 8)<|zbJ (λ_=>zC (zbF a 7) (zbP (λx=>AV.agg (zgI x)) (v:=⟨wsub .i64 _ 1,(zcm c).Page,(zcm c).Write,(zcm c).N⟩) (zI _ _) trivial)) λ_=>zbJ (λ_=>zC (zfv a (by simp)) (zbP (λx=>AV.agg (zgI x)) (v:=⟨(zcm c).Kind,zbs _ _,(zcm c).Write,(zcm c).N⟩) (zb6 _ _) trivial)) λ_=>zbJ (λ_=>zC (zfv a (by simp)) (zbP (λx=>AV.agg (zgI x)) (v:=⟨(zcm c).Kind,(zcm c).Page,(zcm c).Write,zbs _ _⟩) (zb6 _ _) trivial)) λ_=>zbP (λx=>AV.agg (zgI x)) (v:=(zcm c)) (zI _ _) trivial)
def zxX (N:Nat)(c:Cur)  : OA :=
 let a:=({ (zf c 256) with b:=c.b}:Cur);let d:=({ (zf a 256) with b:=c.b}:Cur);let e:=zbg d [0,1,128,255,zx c 256,zx a 256,-1,256,9223372036854775807]; (oN (zD c 256)<|oN (zD a 256)<|oN (zbA d [0,1,128,255,zx c 256,zx a 256,-1,256,9223372036854775807])<|some [.agg [.s .u8 c.b,.i .i64 e.i,.i .i64 e.h],aI<|zbs d [0,1,128,255,zx c 256,zx a 256,-1,256,9223372036854775807]])
def zq4 (c:Cur)(s:Cur)(a:Int):Prop:=(∃N,zxX N c=some (AV.agg (zb4 s)::[aI a]))/\(s.b=c.b/\0<=s.i)/\(True)
def zoe (c:Cur)  : Bool:=wC (zq4 c)
def zof (c:Cur)  : Cur:=wS (zq4 c)
def zxK (c:Cur)  : Int:=wV (zq4 c)
def zZS {c:Cur}(h:zoe c=true):zq4 c (zof c) (zxK c):=wG h
def zZU (c:Cur)  : 0<=(zof c).i:=wP λh=>h.2.1.2
def zZT (c:Cur)(h:∃N,Ends (wE (λa=>aI a) c.b λa=>True)<|zxX N c):zoe c=true:=wI (λ_ _ h=>h) h
def zzC:zek:=rP0 λc=>(zoe c,zof c,[aI<|zxK c])
def zMS:zbW Tryz.prog 270 [false,true,true] zzC:=hP0 zeH zU zoR zn (zq []) (λ_ h=>(zZS h).1)
def zbdq {c:Cur}(h:zbi c):zoe c=true:=by
 refine zZT c ⟨0,?_⟩;unfold zxX oN;conv=>zeta
 have a:zbi {zf c 256 with b:=c.b}:=zbS h (zI _ _);have d:zbi {zf {zf c 256 with b:=c.b} 256 with b:=c.b}:=zbS h (zI _ _);exact zC (zbF h 256) (zC (zbF a 256)<|zC (zfv d (by simp))<|zbP aI (zb6 _ _) trivial)
def zvc (N:Nat)(c:Cur)  : OA :=
 let a:=zbg c [0,1,2,3,0,1,-1,4,9223372036854775807]; (oN (zbA c [0,1,2,3,0,1,-1,4,9223372036854775807])<|some [.agg [.s .u8 c.b,.i .i64 a.i,.i .i64 a.h],aI<|zbs c [0,1,2,3,0,1,-1,4,9223372036854775807]])
def zoC (c:Cur)(s:Cur)(a:Int):Prop:=(∃N,zvc N c=some (AV.agg (zb4 s)::[aI a]))/\(s.b=c.b/\0<=s.i)/\(True)
def ziW (c:Cur)  : Bool:=wC (zoC c)
def zmB (c:Cur)  : Cur:=wS (zoC c)
def znw (c:Cur)  : Int:=wV (zoC c)
def zXL {c:Cur}(h:ziW c=true):zoC c (zmB c) (znw c):=wG h
def zXN (c:Cur)  : 0<=(zmB c).i:=wP λh=>h.2.1.2
def zXM (c:Cur)(h:∃N,Ends (wE (λa=>aI a) c.b λa=>True)<|zvc N c):ziW c=true:=wI (λ_ _ h=>h) h
def zxh:zek:=rP0 λc=>(ziW c,zmB c,[aI<|znw c])
def zJO:zbW Tryz.prog 149 [false,true,true] zxh:=hP0 zeH zU zoR zn (zq []) (λ_ h=>(zXL h).1)
def z1k {c:Cur}(h:zbi c):ziW c=true:=by
 refine zXM c ⟨0,?_⟩;unfold zvc oN;conv=>zeta
 exact zC (zfv h (by simp)) (zbP aI (zb6 _ _) trivial)
def zDG (N:Nat)(c:Cur)  : OA :=
 let a:=zbg c [0,0,1,1,2,-1,9223372036854775807]; (oN (zbA c [0,0,1,1,2,-1,9223372036854775807])<|some [.agg [.s .u8 c.b,.i .i64 a.i,.i .i64 a.h],aI<|zbs c [0,0,1,1,2,-1,9223372036854775807]])
def zuK (c:Cur)(s:Cur)(a:Int):Prop:=(∃N,zDG N c=some (AV.agg (zb4 s)::[aI a]))/\(s.b=c.b/\0<=s.i)/\(True)
def zkD (c:Cur)  : Bool:=wC (zuK c)
def zmD (c:Cur)  : Cur:=wS (zuK c)
def zpo (c:Cur)  : Int:=wV (zuK c)
def z6g {c:Cur}(h:zkD c=true):zuK c (zmD c) (zpo c):=wG h
def z6i (c:Cur)  : 0<=(zmD c).i:=wP λh=>h.2.1.2
def z6h (c:Cur)(h:∃N,Ends (wE (λa=>aI a) c.b λa=>True)<|zDG N c):zkD c=true:=wI (λ_ _ h=>h) h
def zEZ:zek:=rP0 λc=>(zkD c,zmD c,[aI<|zpo c])
def zTx:zbW Tryz.prog 148 [false,true,true] zEZ:=hP0 zeH zU zoR zn (zq []) (λ_ h=>(z6g h).1)
def z3V {c:Cur}(h:zbi c):zkD c=true:=by
 refine z6h c ⟨0,?_⟩;unfold zDG oN;conv=>zeta
 exact zC (zfv h (by simp)) (zbP aI (zb6 _ _) trivial)
def zYN (N:Nat)(c:Cur)  : OA :=
 let a:=zbg c [0,1,2,3,3,4,7,8,-1,9223372036854775807,-9223372036854775808]; (oN (zbA c [0,1,2,3,3,4,7,8,-1,9223372036854775807,-9223372036854775808])<|some [.agg [.s .u8 c.b,.i .i64 a.i,.i .i64 a.h],aI<|zbs c [0,1,2,3,3,4,7,8,-1,9223372036854775807,-9223372036854775808]])
def zqT (c:Cur)(s:Cur)(a:Int):Prop:=(∃N,zYN N c=some (AV.agg (zb4 s)::[aI a]))/\(s.b=c.b/\0<=s.i)/\(True)
def zIm (c:Cur)  : Bool:=wC (zqT c)
def zIn (c:Cur)  : Cur:=wS (zqT c)
def zSV (c:Cur)  : Int:=wV (zqT c)
def zZM {c:Cur}(h:zIm c=true):zqT c (zIn c) (zSV c):=wG h
def zzw:zek:=rP0 λc=>(zIm c,zIn c,[aI<|zSV c])
def zML:zbW Tryz.prog 224 [false,true,true] zzw:=hP0 zeH zU zoR zn (zq []) (λ_ h=>(zZM h).1)
def zvb (N:Nat)(c:Cur)  : OA :=
 let e:=({ (zf c 3) with b:=c.b}:Cur);let d:=({ (zf e 4) with b:=c.b}:Cur);let a:=({ (zf d 6) with b:=c.b}:Cur); (oN (zD c 3)<|oN (zD e 4)<|oN (zD d 6)<|oN (zD a 3)<|some [.agg [.s .u8 c.b,.i .i64 (zf a 3).i,.i .i64 (zf a 3).h],.agg [.i .i64<|zM .i64 1<|zx c 3,.i .i64<|zx e 4,.i .i64<|zx d 6,.i .i64<|zM .i64 1<|zx a 3]])
def zoB (c:Cur)(s:Cur)(a:Entry):Prop:=(∃N,zvb N c=some (AV.agg (zb4 s)::[aT .entry a]))/\(s.b=c.b/\0<=s.i)/\(True)
def ziV (c:Cur)  : Bool:=wC (zoB c)
def zhr (c:Cur)  : Cur:=wS (zoB c)
def znu (c:Cur)  : Entry:=wV (zoB c)
def zXJ {c:Cur}(h:ziV c=true):zoB c (zhr c) (znu c):=wG h
def zwh (c:Cur)  : 0<=(zhr c).i:=wP λh=>h.2.1.2
def zXK (c:Cur)(h:∃N,Ends (wE (λa=>aT .entry a) c.b λa=>True)<|zvb N c):ziV c=true:=wI (λ_ _ h=>h) h
def zxg:zek:=rP0 λc=>(ziV c,zhr c,[aT .entry<|znu c])
def zJN:zbW Tryz.prog 98 [false,true,true] zxg:=hP0 zeH zU zoR zn (zq []) (λ_ h=>(zXJ h).1)
def zOT {c:Cur}(h:zbi c):ziV c=true:=by
 refine zXK c ⟨0,?_⟩;unfold zvb oN;conv=>zeta
 have a:zbi {zf c 3 with b:=c.b}:=zbS h (zI _ _);have d:zbi {zf {zf c 3 with b:=c.b} 4 with b:=c.b}:=zbS h (zI _ _);have e:zbi {zf {zf {zf c 3 with b:=c.b} 4 with b:=c.b} 6 with b:=c.b}:=zbS h (zI _ _);exact zC (zbF h 3) (zC (zbF a 4)<|zC (zbF d 6)<|zC (zbF e 3)<|zbP (aT .entry) (v:=⟨_,_,_,_⟩) (zI _ _) trivial)
def zbaS:zc3:=[(283,[false,true,true],zB9),(270,[false,true,true],zzC),(149,[false,true,true],zxh),(148,[false,true,true],zEZ),(224,[false,true,true],zzw),(98,[false,true,true],zxg)]++zbaR
def z8x:zcd zbaS:=zcP zoR (by
 intro x a;simp only[qG,qO,or_false]at a;rcases a with rfl|rfl|rfl|rfl|rfl|rfl
 .exact zPY
 .exact zMS
 .exact zJO
 .exact zTx
 .exact zML
 .exact zJN)
section
open Go Go.RowKit
structure Cw (w0:World) (blk:Nat) (u:Value) (c:Cur) (w:World):Prop where
 os:w.os=w0.os
 tape:w.tape=w0.tape
 output:w.output=w0.output
 size:w0.heap.size<=w.heap.size
 keep:∀b,b<w0.heap.size->b≠blk->w.heap[b]?=w0.heap[b]?
 cur:∃e,w.heap[blk]?=some (.cells #[u,.int .i64 c.i,.int .i64 c.h] e (0,0))
def Cw.trans {g w1 h:World}{blk:Nat}{u:Value}{i d:Cur}(a:Cw g blk u i w1)(c:Cw w1 blk u d h):Cw g blk u d h :=
 ⟨c.os.trans a.os,c.tape.trans a.tape,c.output.trans a.output,qU a.size c.size,λb e f=>(c.keep b (jK e a.size) f).trans (a.keep b e f),c.cur⟩
def Cw.drew {a w:World}{blk:Nat}{u:Value}{c:Cur}(h:Cw a blk u c w):Cw a blk u c w.drew:=⟨h.os,h.tape,h.output,h.size,h.keep,h.cur⟩
def Cw.at (w:World)(blk:Nat)(u:Value)(c:Cur)(h:∃e,w.heap[blk]?=some (.cells #[u,.int .i64 c.i,.int .i64 c.h] e (0,0))):Cw w blk u c w:=⟨rfl,rfl,rfl,qZ _,λ_ _ _=>rfl,h⟩
def Cw.alloc {d w:World}{blk:Nat}{u:Value}{c:Cur}(h:Cw d blk u c w)(a:blk<w.heap.size)(o:Obj):Cw d blk u c (w.alloc o):=
 ⟨h.os,h.tape,h.output,qU h.size (by simp),λb a g=>(heap_alloc_old w o<|jK a h.size).trans (h.keep b a g),by obtain⟨e,f⟩:=h.cur;exact⟨e,(heap_alloc_old w o a).trans f⟩⟩
def Cw.lt {b w:World}{blk:Nat}{u:Value}{c:Cur}(h:Cw b blk u c w):blk<w.heap.size:=by obtain⟨e,a⟩:=h.cur;exact(qQ.1 a).1
def zI2 {P:Program}{f:FuncId}{y:LC->LA->Option (Bool×LC×LA)}(V:zbW P f [false,true,true] y){w:World}{blk:Nat}{u:Value}{c c2:Cur}{z:zbb}(q:∃e,w.heap[blk]?=some (.cells #[u,.int .i64 c.i,.int .i64 c.h] e (0,0)))(hu:Rep false w u (.s .u8 c.b) z)(W:∀x,z x->x<w.heap.size/\x≠blk){avs rs:LA}{xs:List Value}{Ka:zbb}(l:zdR false w (zF avs) xs λ_=>Ka)(p:∀x,Ka x->x<w.heap.size/\x≠blk)(hr:y (zb4 c) avs=some (true,zb4 c2,rs)) :
 Calls P f (#[.pointer<|some ⟨blk,0,none⟩]++(zb1 avs xs).toArray) w λe B=>∃C A,e = .returned (zkV<|zb1 rs C)/\Cw w blk u c2 B/\zuP (zp0 f) B (zF rs) C A/\(∀i x,i<(zF rs).length->A i x->w.heap.size<=x/\x<B.heap.size):=by
 obtain⟨e,Y⟩:=q;refine(V.2 w blk _ e (zb4 c) (λj x=>j=0/\z x) avs xs Ka (zb4 c2) rs Y rfl rfl ?_ ?_ ?_ l ?_ hr).mono ?_
 .intro j cv v m k
  match j,m,k with
  | 0,m,k=>cases m;cases k;exact hu.weak (λx l=>⟨rfl,l⟩)
  | 1,m,k=>cases m;cases k;exact .i _ _ _
  | 2,m,k=>cases m;cases k;exact .i _ _ _
  |j+3,m,k=>simp[zb4]at m
 .intro j x _ l;exact W x l.2
 .intro i j x r t n hne l hx2;have:i=0:=l.1;subst this;simp[zbh]at n
 .intro x l;refine⟨(p x l).1,(p x l).2,λj t n d=>?_⟩;have:j=0:=d.1;subst this;simp[zbh]at n
 .intro E B hp;cases E with
  |panicked _=>exact hp.elim
  |outgrown=>exact hp.elim
  |returned v=>
   obtain⟨Q,R,S,T,U,a,G,K',C,A,I,L,g3,F,M,N,g7,O,g9,J,K⟩:=hp;have g:∀i x,i<(zb4 c).length->zbh [false,true,true] i->¬ ((λ(j:Nat) x=>j=0/\z x) i x):=by intro i x r n d;have:i=0:=d.1;subst this;simp[zbh]at n
   have k:a = #[u,.int .i64 c2.i,.int .i64 c2.h]:=by
    have hs:a.size=3:=L;have D:=(F 0 _ (a[0]'(by omega)) rfl (jH _)).2 (by simp[zbh]);have H:=F 1 _ (a[1]'(by omega)) rfl (jH _);have E:=F 2 _ (a[2]'(by omega)) rfl (jH _);have D:u=a[0]'(by omega):=(by simpa using D);apply Array.ext;{exact hs}
    .intro i r hi2
     match i,r with
     | 0,_=>exact D.symm
     | 1,_=>exact H
     | 2,_=>exact E
     |i+3,h=>omega
   subst k;refine⟨C,A,by rw[N],⟨Q,R,S,T,λb X Z=>U b X Z λj t n d=>g j b t n d,G,I⟩,M,λi x r d=>?_⟩;obtain⟨k1,k2,k3⟩:=O i x r d;rcases k3 with⟨j,t,n,d⟩|d;{exact absurd d (g j x t n)};{exact⟨d,k1⟩}
def zfm (c:Cur):List LI:=zwg c 3
def zA1 (c:Cur):Cur:={zns c 3 with b:=c.b}
def z2w (c:Cur):Int:=zx (zA1 c) 8
def ziY (c:Cur):Cur:={zf (zA1 c) 8 with b:=c.b}
def z2v (c:Cur):Int:=zx (ziY c) 3
def zus (c:Cur):Cur:={zf (ziY c) 3 with b:=c.b}
def l04n (c:Cur):Int:=zx (zus c) 4
def z2t (c:Cur):Cur:={zf (zus c) 4 with b:=c.b}
def zvI (c:Cur):Int:=zbs (ziY c) [-1,100]
def z2u (c:Cur):Cur:={zbg (ziY c) [-1,100] with b:=c.b}
def zpx (_:Nat)(c:Cur):OA:=
 bif zju c 3 then (bif zD (zA1 c) 8 then (bif ieq (z2w c) 0 then (cond (zD (ziY c) 3) (cond (zD (zus c) 4) (some (AV.agg (zb4<|z2t c)::[aS (.sl .int)<|up (zfm c) (z2v c)<|tk (ix (zfm c) 0 [])<|l04n c])) none) none)
  else (bif ieq (z2w c) 1 then (cond (zbA (ziY c) [-1,100]) (some (AV.agg (zb4<|z2u c)::[aS (.sl .int)<|up (zfm c) 1<|up (ix (zfm c) 1 []) 2<|zvI c])) none)
  else (cond (ieq (z2w c) 2) (cond (zD (ziY c) 3) (some (AV.agg (zb4<|zus c)::[aS (.sl .int)<|tk (zfm c)<|z2v c])) none)<|some (AV.agg (zb4<|ziY c)::[aS (.sl .int)<|zfm c])))) else none) else none
def zsF (c:Cur)(s:Cur)(a:List LI):Prop:=(∃N,zpx N c=some (AV.agg (zb4 s)::[aS (.sl .int) a]))/\(s.b=c.b/\0<=s.i)/\(a.length<=3/\∀r∈a,r.length<=4)
def zqV (c:Cur)  : Bool:=wC (zsF c)
def zjt (c:Cur)  : Cur:=wS (zsF c)
def zrT (c:Cur)  : List LI:=wV (zsF c)
def zNZ {c:Cur}(h:zqV c=true):zsF c (zjt c) (zrT c):=wG h
def z2Z (c:Cur)  : 0<=(zjt c).i:=wP λh=>h.2.1.2
def z2Y (c:Cur)(h:∃N,Ends (wE (λa=>aS (.sl .int) a) c.b λa=>a.length<=3/\∀r∈a,r.length<=4)<|zpx N c):zqV c=true:=wI (λ_ _ h=>h) h
def ztP:zek:=rP0 λc=>(zqV c,zjt c,[aS (.sl .int)<|zrT c])
def z8o {w:World}{blk:Nat}{u:Value}{c:Cur}{l:zbb}{n:Int}(g:∃e,w.heap[blk]?=some (.cells #[u,.int .i64 c.i,.int .i64 c.h] e (0,0)))(t:Rep false w u (.s .u8 c.b) l)(q:∀x,l x->x<w.heap.size/\x≠blk)(r:zju c n=true) :
 Calls Tryz.prog 285 #[.pointer<|some ⟨blk,0,none⟩,.int .i64 n] w λe k=>∃v j,e = .returned v/\Cw w blk u {zns c n with b:=c.b} k/\Rep true k v (.s (.sl .int)<|zwg c n) j/\(∀x,j x->w.heap.size<=x/\x<k.heap.size):=by
 have:=zI2 (c:=c) (c2:=zns c n) zze g t q (avs:=[.one<|.i .i64 n]) (rs:=[aS (.sl .int)<|zwg c n]) (xs:=[.int .i64 n]) (Ka:=λ_=>False) ⟨rfl,λi A x a d=>by
  match i,a,d with
  | 0,a,d=>cases a;cases d;exact .i _ _ _
  |i+1,a,d=>simp at d⟩ (λx d=>d.elim) (by show some (zju ⟨c.b,c.i,c.h⟩ n,_,_)=_;rw[show (⟨c.b,c.i,c.h⟩:Cur)=c from rfl,r])
 refine Calls.mono this ?_
 rintro e k ⟨z,j,rfl,f,m,p⟩
 match z,m.1 with
 |[y],_=>exact⟨y,j 0,rfl,⟨f.os,f.tape,f.output,f.size,f.keep,f.cur⟩,m.2 0 _ y rfl rfl,λx d=>p 0 x (by simp[zF,AV.cvs]) d⟩
def zum {w:World}{blk:Nat}{u:Value}{c:Cur}{j:zbb}{n:Int}(g:∃e,w.heap[blk]?=some (.cells #[u,.int .i64 c.i,.int .i64 c.h] e (0,0)))(r:Rep false w u (.s .u8 c.b) j)(p:∀x,j x->x<w.heap.size/\x≠blk)(q:zD c n=true) :
 Calls Tryz.prog 97 #[.pointer<|some ⟨blk,0,none⟩,.int .i64 n] w λe l=>e = .returned (.int .i64<|zx c n)/\Cw w blk u {zf c n with b:=c.b} l:=by
 have:=zI2 (c:=c) (c2:=zf c n) zvE g r p (avs:=[.one<|.i .i64 n]) (rs:=[aI<|zx c n]) (xs:=[.int .i64 n]) (Ka:=λ_=>False) ⟨rfl,λi z x a d=>by
  match i,a,d with
  | 0,a,d=>cases a;cases d;exact .i _ _ _
  |i+1,a,d=>simp at d⟩ (λx d=>d.elim) (by show some (zD ⟨c.b,c.i,c.h⟩ n,_,_)=_;rw[show (⟨c.b,c.i,c.h⟩:Cur)=c from rfl,q])
 refine Calls.mono this ?_
 rintro e l ⟨t,v,rfl,f,k,A⟩
 match t,k.1,k.2 with
 |[y],_,m=>have:=(m 0 _ y rfl rfl).int_inv;subst this;exact⟨rfl,f.os,f.tape,f.output,f.size,f.keep,f.cur⟩
def z5U {w:World}{blk:Nat}{u:Value}{c:Cur}{k:zbb}{l:LI}{v:Value}{Ka:zbb}(f:∃e,w.heap[blk]?=some (.cells #[u,.int .i64 c.i,.int .i64 c.h] e (0,0)))(t:Rep false w u (.s .u8 c.b) k)(q:∀x,k x->x<w.heap.size/\x≠blk)(r:zbA c l=true)(z:Rep false w v (.s .int l) Ka)(j:∀x,Ka x->x<w.heap.size/\x≠blk) :
 Calls Tryz.prog 193 #[.pointer<|some ⟨blk,0,none⟩,v] w λe n=>e = .returned (.int .i64<|zbs c l)/\Cw w blk u {zbg c l with b:=c.b} n:=by
 have:=zI2 (c:=c) (c2:=zbg c l) ztg f t q (avs:=[.one<|.s .int l]) (rs:=[aI<|zbs c l]) (xs:=[v]) (Ka:=Ka) ⟨rfl,λi C x a g=>by
  match i,a,g with
  | 0,a,g=>cases a;cases g;exact z
  |i+1,a,g=>simp at g⟩ j (by show some (zbA ⟨c.b,c.i,c.h⟩ l,_,_)=_;rw[show (⟨c.b,c.i,c.h⟩:Cur)=c from rfl,r])
 refine Calls.mono this ?_
 rintro e n ⟨A,B,rfl,d,m,D⟩
 match A,m.1,m.2 with
 |[y],_,p=>have:=(p 0 _ y rfl rfl).int_inv;subst this;exact⟨rfl,d.os,d.tape,d.output,d.size,d.keep,d.cur⟩
def z6b {w:World}{v:Value}{l:List LI}{K:zbb}(h:Rep true w v (.s (.sl .int) l) K)(n:l.length=3):∃(b off cap:Nat) (arr:LV) (e:TypeId) (V:Nat->Value) (c:Nat->zbb),v = .slice (some ⟨b,off,none⟩) 3 cap/\w.heap[b]?=some (.cells arr e (0,0))/\3<=cap/\off+cap<=arr.size/\K b/\
 (∀i x,i<3->c i x->K x/\x≠b)/\(∀i g x,i<3->g<3->c i x->c g x->i=g)/\(∀i,i<3->arr[off+i]?=some (V i))/\∀i x,l[i]?=some x->Rep true w (V i) (.s .int x) (c i):=by
 cases h with
 |nil=>simp at n
 |void _ _ _ B=>cases B
 |sl _ _ b off cap arr e E V c _ y k r p f u a d C z=>have:=k rfl;subst this;have t:Ty.width (.sl .int)=1:=rfl;rw[t,uY]at f;refine⟨b,off,cap,arr,e,λi=>V i 0,λi=>c i 0,by rw[n],y,by omega,f,u,λi x q j=>⟨(a i 0 x (by omega) (by decide) j).1,(a i 0 x (by omega) (by decide) j).2 rfl⟩,λi g x q A j m=>(d rfl i 0 g 0 x (by omega) (by decide) (by omega) (by decide) j m).1,λi q=>?_,λi x D=>z i x D 0 _ rfl⟩;have:=C i 0 (by omega) (by decide);rwa [t,uY,jY] at this
def zXC {w:World}{v:Value}{l:LI}{K:zbb}(h:Rep true w v (.s .int l) K)(d:l.length=4):∃(b off cap:Nat) (arr:LV) (e:TypeId),v = .slice (some ⟨b,off,none⟩) 4 cap/\w.heap[b]?=some (.cells arr e (0,0))/\4<=cap/\off+cap<=arr.size/\K b/\
 ∀i x,l[i]?=some x->arr[off+i]?=some (.int .i64 x):=by
 cases h with
 |nil=>simp at d
 |void _ _ _ u=>cases u
 |sl _ _ b off cap arr e A V z _ q c j f a p k g y r=>have:=c rfl;subst this;have m:Ty.width .int=1:=rfl;rw[m,uY]at a;refine⟨b,off,cap,arr,e,by rw[d],q,by omega,a,p,λi x n=>?_⟩;have t:i<l.length:=(qA.1 n).1;have:=y i 0 t (by decide);rw[m,uY,jY] at this;rw[this,(r i x n 0 (.i .i64 x) rfl).int_inv]
def zKs {o:Bool}{w:World}{b off cap:Nat}{arr:LV}{e:TypeId}(g:w.heap[b]?=some (.cells arr e (0,0))){l:LI}(r:l.length<=1000)(c:l.length<=cap)(m:off+cap<=arr.size)(n:∀i x,l[i]?=some x->arr[off+i]?=some (.int .i64 x)):Rep o w (.slice (some ⟨b,off,none⟩) l.length cap) (.s .int l) (λx=>x=b):=by
 refine .sl .int l b off cap arr e (0,0) (λi j=>.int .i64 (l.getD i 0)) (λ_ _ _=>False) _ g (λ_=>rfl) (by rw[zly];omega) c (by show off+cap*1<=arr.size;omega) rfl (λi j x _ _ h=>h.elim) (λ_ i j t u x _ _ _ _ h=>h.elim) (λi j f k=>?_) (λi x p j q a=>?_);{have d:j=0:=(by have:j<1:=k;omega);subst d;have:=n i _ (qB f);show arr[off+i*1+0]?=_;rw[uY,jY,this];simp[List.getD,qB f]}
 .match j,a with
  | 0,a=>cases a;have:l.getD i 0=x:=(by simp[List.getD,p]);show Rep o w (.int .i64<|l.getD i 0) _ _;rw[this];exact .i _ _ _
  |j+1,a=>simp[Ty.cells]at a
def zKt {w:World}{b off cap:Nat}{arr:LV}{e:TypeId}(n:w.heap[b]?=some (.cells arr e (0,0))){l:List LI}(A:l.length<=1000)(c:l.length<=cap)(t:off+cap<=arr.size)(V:Nat->Value){K:zbb}(f:K b)(u:∀i,i<l.length->arr[off+i]?=some (V i))(r:∀i x,l[i]?=some x->∃d,Rep false w (V i) (.s .int x) d/\∀y,d y->K y):Rep false w (.slice (some ⟨b,off,none⟩) l.length cap) (.s (.sl .int) l) K:=by
 refine .sl (.sl .int) l b off cap arr e (0,0) (λi _=>V i) (λ_ _=>K) _ n (λ_=>rfl) (by rw[zly];omega) c (by show off+cap*1<=arr.size;omega) f (λi j x _ _ h=>⟨h,λh=>by cases h⟩) (λh=>by cases h) (λi j p q=>?_) (λi x v j z a=>?_);{have g:j=0:=(by have:j<1:=q;omega);subst g;show arr[off+i*1+0]?=_;rw[uY,jY];exact u i p}
 .match j,a with
  | 0,a=>cases a;obtain⟨d,k,m⟩:=r i x v;exact k.weak m
  |j+1,a=>simp[Ty.cells]at a
def zwU {w:World}{b o:Nat}{arr:LV}{e:TypeId}(a:w.heap[b]?=some (.cells arr e (0,0))):w.frozen? ⟨b,o,none⟩=false:=by simp[World.frozen?,a]
set_option maxHeartbeats 3000000 in
def zZe {w:World}{blk:Nat}{u:Value}{c:Cur}{K0:zbb}{r:Ans}(N:Nat)(b5:∃e,w.heap[blk]?=some (.cells #[u,.int .i64 c.i,.int .i64 c.h] e (0,0)))(hu:Rep false w u (.s .u8 c.b) K0)(hK:∀x,K0 x->x<w.heap.size/\x≠blk)(hE:zpx N c=some r) :
 Calls Tryz.prog 194 #[.pointer<|some ⟨blk,0,none⟩] w λe p=>∃c2 l v Kr,r=AV.agg (zb4 c2)::[aS (.sl .int) l]/\e = .returned v/\Cw w blk u c2 p/\Rep false p v (.s (.sl .int) l) Kr/\(∀x,Kr x->w.heap.size<=x/\x<p.heap.size):=by
 unfold zpx at hE;cases hm:zju c 3 with
 |false=>rw[hm]at hE;cases hE
 |true=>
 cases K:zD (zA1 c) 8 with
 |false=>rw[hm,K]at hE;cases hE
 |true=>
 rw[hm,K,cT,cT]at hE;have a7:∀{p:World} {O:Cur},Cw w blk u O p->O.b=c.b->Rep false p u (.s .u8 O.b) K0/\∀x,K0 x->x<p.heap.size/\x≠blk:=by intro p O h e;rw[e];exact⟨hu.frame λx d=>h.keep x (hK x d).1 (hK x d).2,λx d=>⟨jK (hK x d).1 h.size,(hK x d).2⟩⟩
 have hM:=(zBh hm).2.2 (by omega) (by omega)
 have a8:(zfm c).length=3:=by have:=hM.1;unfold ln at this;unfold zfm;omega
 have h5:=(ziS K).2.2 (by omega)
 obtain⟨k,hk⟩:∃k,zx (zA1 c) 8=k:=⟨_,rfl⟩;have f1:z2w c=k:=hk;rw[f1]at hE
 go_enter Tryz.func194,Tryz.ntmps194
 go_wp2_with fail
 refine(z8o b5 hu hK hm).mono ?_
 rintro e L ⟨v,K1,rfl,F,b3,m⟩
 have b3:Rep true L v (.s (.sl .int)<|zfm c) K1:=b3;have F:Cw w blk u (zA1 c) L:=F;obtain⟨E,t,a3,d7,e0,V,Kc,rfl,c3,g9,d1,Z,G,e9,hV,c1⟩:=z6b b3 a8;have h3:blk<w.heap.size:=by obtain⟨e,he⟩:=b5;exact(qQ.1 he).1
 have e5:E≠blk:=by have:=(m E Z).1;omega
 have cellAt:∀{p:World} {O:Cur},Cw L blk u O p->p.heap[E]?=some (.cells d7 e0 (0,0)):=λh=>(h.keep E (m E Z).2 e5).trans c3
 go_wp2_with fail
 obtain⟨g1,f2⟩:=a7 F rfl;refine(zum F.cur g1 f2 K).mono ?_;rw[hk]
 rintro e X ⟨rfl,B⟩
 have B:Cw L blk u (ziY c) X:=B;obtain⟨g2,f3⟩:=a7 (F.trans B) rfl;have g0:=B.size;have g8:w.heap.size<=E/\E<L.heap.size:=m E Z
 have b2:∀{p:World} (i:Nat) (x:LI),(∀b,Kc i b->b<L.heap.size->b≠blk->b≠E->p.heap[b]?=L.heap[b]?)->i<3->(zfm c)[i]?=some x->Rep false p (V i) (.s .int x) (Kc i)/\∀y,Kc i y->w.heap.size<=y/\y<L.heap.size:=by intro p i x hf P d;refine⟨((c1 i x d).frame λy S=>?_).ro,λy S=>m y (G i y P S).1⟩;have:=m y (G i y P S).1;exact hf y S this.2 (by omega) (G i y P S).2
 go_wp2_with fail
 .have h0:ieq k 0=true:=by assumption
  rw[h0,cT]at hE;cases J:zD (ziY c) 3 with
  |false=>rw[J]at hE;cases hE
  |true=>
  cases b4:zD (zus c) 4 with
  |false=>rw[J,b4]at hE;cases hE
  |true=>
   rw[J,b4,cT,cT]at hE;have hj:=(ziS J).2.2 (by omega);obtain⟨j,a0⟩:=uT hj.1;have c8:z2v c=(j:Int):=a0;have hn:=(ziS b4).2.2 (by omega);obtain⟨n,c9⟩:=uT hn.1;have f8:l04n c=(n:Int):=c9;rw[c8,f8]at hE;rw[a0]at hj;rw[c9]at hn;have e6:j<3:=(by omega);have h6:n<4:=(by omega);obtain⟨R0,c0⟩:∃R0,(zfm c)[0]?=some R0:=⟨_,qB (by omega)⟩;have e2:R0.length=4:=hM.2 R0 (qK c0);obtain⟨f,a,g,T,e1,f0,c4,c6,a9,D,W⟩:=zXC (c1 0 R0 c0) e2;have Q:∀{p:World} {O:Cur},Cw L blk u O p->p.cell? ⟨E,t,none⟩=some (.slice (some ⟨f,a,none⟩) 4 g):=λh=>(by have:=hV 0 (by omega);rw[jY,f0] at this;rw[cell_of_block<|cellAt h];exact this);have b7:∀{p:World} {O:Cur},Cw L blk u O p->p.cell? ⟨E,t+j,none⟩=some (V j)/\p.frozen? ⟨E,t+j,none⟩=false:=λh=>by rw[cell_of_block<|cellAt h];exact⟨hV j e6,zwU<|cellAt h⟩
   have d8:∀{I:World},Cw L blk u (z2t c) I->∃c2 l v Kr,r=AV.agg (zb4 c2)::[aS (.sl .int) l]/\Ending.returned (.slice (some ⟨E,t,none⟩) 3 a3) = .returned v/\Cw w blk u c2 (I.setCell ⟨E,t+j,none⟩<|.slice (some ⟨f,a,none⟩) n g)/\Rep false (I.setCell ⟨E,t+j,none⟩<|.slice (some ⟨f,a,none⟩) n g) v (.s (.sl .int) l) Kr/\
    (∀x,Kr x->w.heap.size<=x/\x<(I.setCell ⟨E,t+j,none⟩<|.slice (some ⟨f,a,none⟩) n g).heap.size):=by
    intro I h4;have hz:=h4.size;have a6:=m f (G 0 f (by omega) D).1
    have U:f≠blk:=by omega
    have a5:f≠E:=(G 0 f (by omega) D).2
    have ho:∀b,b≠E->(I.setCell ⟨E,t+j,none⟩<|.slice (some ⟨f,a,none⟩) n g).heap[b]?=I.heap[b]?:=λb K=>heap_setCell_other I _ b _ K;have d0:=heap_setCell_same I E (t+j) d7 e0 (.slice (some ⟨f,a,none⟩) n g) (cellAt h4);have A:=F.trans h4;refine⟨_,_,_,K1,(Option.some.inj hE).symm,rfl,⟨A.os,A.tape,A.output,by rw[World.size_setCell];exact A.size,λb K hn=>(ho b (by omega)).trans (A.keep b K hn),by obtain⟨e,he⟩:=A.cur;exact⟨e,(ho blk λh=>e5 h.symm).trans he⟩⟩,?_,λx d=>⟨(m x d).1,by rw[World.size_setCell];have:=m x d;omega⟩⟩
    have c7:ix (zfm c) 0 []=R0:=by unfold ix;simp[List.getD,c0]
    have a1:(up (zfm c) (j:Int)<|tk (ix (zfm c) 0 []) (n:Int)).length=3:=by rw[zjk];exact a8
    have:=zKt d0 (l:=up (zfm c) (j:Int) (tk (ix (zfm c) 0 []) (n:Int))) (by omega) (cap:=a3) (off:=t) (by omega) (by simpa using d1) (λi=>if i=j then .slice (some ⟨f,a,none⟩) n g else V i) Z (λi P=>by
     rw[a1]at P;rw[k7]
     by_cases M:i=j
     .subst M;rw[if_pos rfl,if_pos (by omega),if_pos rfl]
     .rw [if_neg (by omega),if_neg M]
      exact hV i P) (λi x d=>by
     have P:i<3:=by rw[<- a1];exact(qA.1 d).1
     unfold up at d;rw[q9]at d
     by_cases M:i=j
     .subst M;rw[kF,if_pos rfl,if_pos (by omega),c7]at d
      cases d;refine⟨λx=>x=f,?_,λy S=>by rw[S];exact(G 0 f (by omega) D).1⟩
      have hl:(tk R0 (n:Int)).length=n:=by simp[tk];omega
      have:=zKs (o:=false) (w:=I.setCell ⟨E,t+i,none⟩ (.slice (some ⟨f,a,none⟩) n g)) (b:=f) (off:=a) (cap:=g) (arr:=T) (e:=e1) ((ho f a5).trans ((h4.keep f a6.2 U).trans c4)) (l:=tk R0 (n:Int)) (by omega) (by omega) a9 (λq z hq=>by
       unfold tk at hq;rw[jI]at hq;split at hq
       .exact W q z hq
       .cases hq)
      rw[hl] at this;rw[if_pos rfl];exact this
     .rw [kF,if_neg (by omega)]at d
      rw[if_neg M];exact⟨Kc i,(b2 i x (λb _ K hn c3=>(ho b c3).trans (h4.keep b K hn)) P d).1,λy S=>(G i y P S).1⟩)
    rw[a1] at this;exact this
   have Y:Cw L blk u (ziY c) X.drew:=B.drew;obtain⟨e8,e7⟩:=a7 (F.trans Y) rfl;have d2:=Q Y
   go_region_with (first
    |(go_at_call_of 97 (Value.int IntKind.i64 3);refine(zum (c:=ziY c) (n:=3) Y.cur e8 e7 J).mono ?_;rw[a0];rintro e w3 ⟨rfl,H⟩;have H:Cw X.drew blk u (zus c) w3:=H;have C:=Y.trans H;have d3:=Q C;obtain⟨g3,f4⟩:=a7 (F.trans C) rfl)
    |(go_at_call_of 97 (Value.int IntKind.i64 4);refine(zum (c:=zus c) (n:=4) C.cur g3 f4 b4).mono ?_;rw[c9];rintro e I ⟨rfl,b8⟩;have b8:Cw w3 blk u (z2t c) I:=b8;have b9:=C.trans b8;have d4:=Q b9;obtain⟨d5,d6⟩:=b7 b9))
   (all_goals go_wp2);(all_goals go_ret);all_goals exact d8 b9
 .have h0:ieq k 0=false:=by assumption
  have h1:ieq k 1=true:=by assumption
  rw[h0,h1,cF,cT]at hE;cases c5:zbA (ziY c) [-1,100] with
  |false=>rw[c5]at hE;cases hE
  |true=>
   rw[c5,cT]at hE;obtain⟨R1,a4⟩:∃R1,(zfm c)[1]?=some R1:=⟨_,qB (by omega)⟩;have e3:R1.length=4:=hM.2 R1 (qK a4);obtain⟨f,a,g,T,e1,e4,c4,c6,a9,D,W⟩:=zXC (c1 1 R1 a4) e3;have a6:=m f (G 1 f (by omega) D).1;have U:f≠blk:=(by omega);have a5:f≠E:=(G 1 f (by omega) D).2;have R:∀{p:World} {O:Cur},Cw L blk u O p->p.cell? ⟨E,t+1,none⟩=some (.slice (some ⟨f,a,none⟩) 4 g):=λh=>(by have:=hV 1 (by omega);rw[e4] at this;rw[cell_of_block<|cellAt h];exact this);have a2:∀{p:World} {O:Cur},Cw L blk u O p->p.heap[f]?=some (.cells T e1 (0,0)):=λh=>(h.keep f a6.2 U).trans c4;have b6:∀{p:World} {O:Cur},Cw L blk u O p->p.cell? ⟨f,a+2,none⟩=some (.int .i64 R1[2])/\p.frozen? ⟨f,a+2,none⟩=false:=λh=>by rw[cell_of_block<|a2 h];exact⟨W 2 _<|qB (by omega),zwU<|a2 h⟩
   have Y:Cw L blk u (ziY c) X.drew:=B.drew;have d2:=R Y;have d9:∀{I:World},Cw L blk u (z2u c) I->∃c2 l v Kr,r=AV.agg (zb4 c2)::[aS (.sl .int) l]/\Ending.returned (.slice (some ⟨E,t,none⟩) 3 a3) = .returned v/\Cw w blk u c2 (I.setCell ⟨f,a+2,none⟩<|.int .i64<|zvI c)/\Rep false (I.setCell ⟨f,a+2,none⟩<|.int .i64<|zvI c) v (.s (.sl .int) l) Kr/\
    (∀x,Kr x->w.heap.size<=x/\x<(I.setCell ⟨f,a+2,none⟩<|.int .i64<|zvI c).heap.size):=by
    intro I h4;have hz:=h4.size;have ho:∀b,b≠f->(I.setCell ⟨f,a+2,none⟩<|.int .i64<|zvI c).heap[b]?=I.heap[b]?:=λb K=>heap_setCell_other I _ b _ K;have d0:=heap_setCell_same I f (a+2) T e1 (.int .i64<|zvI c) (a2 h4);have A:=F.trans h4;refine⟨_,_,_,K1,(Option.some.inj hE).symm,rfl,⟨A.os,A.tape,A.output,by rw[World.size_setCell];exact A.size,λb K hn=>(ho b (by omega)).trans (A.keep b K hn),by obtain⟨e,he⟩:=A.cur;exact⟨e,(ho blk λh=>U h.symm).trans he⟩⟩,?_,λx d=>⟨(m x d).1,by rw[World.size_setCell];have:=m x d;omega⟩⟩
    have c7:ix (zfm c) 1 []=R1:=by unfold ix;show (zfm c).getD 1 []=R1;simp[List.getD,a4]
    have a1:(up (zfm c) 1<|up (ix (zfm c) 1 []) 2<|zvI c).length=3:=by rw[zjk];exact a8
    have:=zKt ((ho E λh=>a5 h.symm).trans (cellAt h4)) (l:=up (zfm c) 1 (up (ix (zfm c) 1 []) 2<|zvI c)) (by omega) (cap:=a3) (off:=t) (by omega) d1 V Z (λi P=>hV i (by omega)) (λi x d=>by
     have P:i<3:=by rw[<- a1];exact(qA.1 d).1
     unfold up at d;rw[q9]at d
     by_cases M:i=1
     .subst M;rw[show (1:Int).toNat=1 from rfl,if_pos rfl,if_pos (by omega),c7]at d
      cases d;refine⟨λx=>x=f,?_,λy S=>by rw[S];exact(G 1 f (by omega) D).1⟩
      have hl:(List.set R1 (2:Int).toNat<|zvI c).length=4:=by simp;omega
      have:=zKs (o:=false) (w:=I.setCell ⟨f,a+2,none⟩ (.int .i64<|zvI c)) (b:=f) (off:=a) (cap:=g) d0 (l:=List.set R1 (2:Int).toNat (zvI c)) (by omega) (by omega) (by simpa using a9) (λq z hq=>by
       rw[q9]at hq;rw[k7]
       by_cases f9:q=2
       .subst f9;rw[show (2:Int).toNat=2 from rfl,if_pos rfl,if_pos (by omega)]at hq
        cases hq;rw[if_pos rfl,if_pos (by omega)]
       .rw [show (2:Int).toNat=2 from rfl,if_neg (by omega)]at hq
        rw[if_neg (by omega)]
        exact W q z hq)
      rw[hl] at this;rw[e4];exact this
     .rw [show (1:Int).toNat=1 from rfl,if_neg (by omega)]at d
      refine⟨Kc i,(b2 i x (λb f6 K hn g7=>?_) P d).1,λy S=>(G i y P S).1⟩;exact(ho b λe=>M (e9 i 1 b P (by omega) f6 (by rw[e];exact D))).trans (h4.keep b K hn))
    rw[a1] at this;exact this
   have hA:Cw L blk u (ziY c) (X.alloc<|Obj.cells #[Value.int .i64<|-1,Value.int .i64 100] 3).drew:=(B.alloc B.lt _).drew;obtain⟨g4,f5⟩:=a7 (F.trans hA) rfl;have dA:=R hA;have g5:Rep false (X.alloc<|Obj.cells #[Value.int .i64<|-1,Value.int .i64 100] 3).drew (.slice (some ⟨X.heap.size,0,none⟩) 2 2) (.s .int [-1,100]) (λx=>x=X.heap.size):=by
    have hh:(X.alloc<|Obj.cells #[Value.int .i64<|-1,Value.int .i64 100] 3).drew.heap[X.heap.size]?=some (.cells #[Value.int .i64<|-1,Value.int .i64 100] 3 (0,0)):=heap_alloc_new X _;exact zKs (o:=false) hh (l:=[-1,100]) (cap:=2) (off:=0) (by decide) (by decide) (by decide) (λi x d=>by
     match i,d with
     | 0,d=>cases d;rfl
     | 1,d=>cases d;rfl
     |i+2,d=>simp at d)
   go_region_with (first
    |(go_at_call_of 193 (Value.slice (some ⟨X.heap.size,0,none⟩) 2 2);refine(z5U (c:=ziY c) (l:=[-1,100]) hA.cur g4 f5 c5 g5 (λx d=>by rw[d];exact⟨by simp,Nat.ne_of_gt B.lt⟩)).mono ?_;rintro e w3 ⟨rfl,H⟩;have H:Cw (X.alloc<|Obj.cells #[Value.int .i64<|-1,Value.int .i64 100] 3).drew blk u (z2u c) w3:=H;have C:=hA.trans H;have d3:=R C;obtain⟨d4,d5⟩:=b6 C))
   (all_goals go_wp2);(all_goals go_ret);all_goals exact d9 C
 .have h0:ieq k 0=false:=by assumption
  have h1:ieq k 1=false:=by assumption
  have h2:ieq k 2=true:=by assumption
  rw[h0,h1,h2,cF,cF,cT]at hE;cases J:zD (ziY c) 3 with
  |false=>rw[J]at hE;cases hE
  |true=>
   rw[J,cT]at hE;have hj:=(ziS J).2.2 (by omega);obtain⟨j,a0⟩:=uT hj.1;have c8:z2v c=(j:Int):=a0;rw[c8]at hE;refine(zum B.cur g2 f3 J).mono ?_;rw[a0];rintro e w3 ⟨rfl,H⟩;have H:Cw X blk u (zus c) w3:=H;go_wp2;go_ret;have e6:j<3:=(by omega);have f7:(tk (zfm c) (j:Int)).length=j:=(by simp[tk];omega);have C:=B.trans H;refine⟨_,_,_,K1,(Option.some.inj hE).symm,rfl,F.trans C,?_,λx d=>⟨(m x d).1,by have:=m x d;have:=C.size;omega⟩⟩
   have:=zKt (cellAt C) (l:=tk (zfm c) (j:Int)) (by omega) (cap:=a3) (off:=t) (by omega) d1 V Z (λi P=>hV i (by omega)) (λi x d=>by
    have P:i<(tk (zfm c) (j:Int)).length:=(qA.1 d).1;have g6:(zfm c)[i]?=some x:=by unfold tk at d;rw[jI]at d;split at d;{exact d};{cases d}
    exact⟨Kc i,(b2 i x (λb _ K hn _=>C.keep b K hn) (by omega) g6).1,λy S=>(G i y (by omega) S).1⟩)
   rw[f7] at this;exact this
 .have h0:ieq k 0=false:=by assumption
  have h1:ieq k 1=false:=by assumption
  have h2:ieq k 2=false:=by assumption
  rw[h0,h1,h2,cF,cF,cF]at hE
  go_ret
  exact⟨_,_,_,K1,(Option.some.inj hE).symm,rfl,F.trans B,(b3.frame λx d=>B.keep x (m x d).2 (by have:=m x d;omega)).ro,λx d=>⟨(m x d).1,by have:=m x d;omega⟩⟩
def zWg {c:Cur}(h:zbi c):zqV c=true:=by
 refine z2Y c ⟨0,?_⟩;unfold zpx;have t:=zbd0 h (a0:=3) (by omega) (by omega);have y:zbi (zA1 c):=zbS h (z3b _ _);have k:zbi (ziY c):=zbS h (zI _ _);have z:zbi (zus c):=zbS h (zI _ _);have p:=(zBh t).2.2 (by omega) (by omega);have A:(zfm c).length=3:=(by have:=p.1;unfold ln at this;unfold zfm;omega);have f:∀r∈zfm c,r.length<=4:=λr f=>kX (p.2 r f);have u:∀n,(ix (zfm c) n []).length<=4:=(by intro n;unfold ix List.getD;cases e:(zfm c)[n.toNat]? with|none=>simp|some r=>exact f r (qK e));have g:∀(n:Int) (r:LI),r.length<=4->∀q∈up (zfm c) n r,q.length<=4:=by intro n r j q e;rcases qX e with e|rfl;{exact f q e};{exact j}
 have d:∀(s:Cur) (l:List LI),s.b=c.b->0<=s.i->l.length<=3->(∀r∈l,r.length<=4)->Ends (λa=>∃s m,a=(AV.agg (zb4 s)::[aS (.sl .int) m])/\(s.b=c.b/\0<=s.i)/\(m.length<=3/\∀r∈m,r.length<=4)) (some (AV.agg (zb4 s)::[aS (.sl .int) l])):=
  λs l v w x j=>⟨_,rfl,s,l,rfl,⟨v,w⟩,x,j⟩
 exact zC t (zC (zbF y 8) (zbJ (λ_=>zC (zbF k 3) (zC (zbF z 4) (d _ _ rfl (zI _ _) (by rw[zjk];omega) (g _ _<|qU (zEO _ _)<|u _))))
  (λ_=>zbJ (λ_=>zC (zfv k (by simp)) (d _ _ rfl (zb6 _ _) (by rw[zjk];omega) (g _ _ (by rw[zjk];exact u _)))) λ_=>zbJ (λ_=>zC (zbF k 3) (d _ _ rfl (zI _ _) (qU (zEO _ _) (by omega)) λr e=>f r (jU e))) λ_=>d _ _ rfl (zI _ _) (by omega) f)))
def zPS:zbW Tryz.prog 194 [false,true,true] ztP:=by
 refine⟨zjT (by kernel_rfl),?_⟩;intro w blk d e cs K T xs Ka U rs D P a4 k A X n W g;unfold ztP rP0 at g;obtain⟨⟨p,q,r⟩,rfl,g⟩:=z5P g;obtain⟨rfl,R,rfl,rfl⟩:=zxb g;dsimp only at R ⊢;have hs:d.size=3:=P;have M:xs=[]:=List.eq_nil_of_length_eq_zero n.1;subst M;obtain⟨N,hE⟩:=(zNZ R).1;have v1:=(k 1 _ (d[1]'(by omega)) rfl (jH _)).int_inv;have v2:=(k 2 _ (d[2]'(by omega)) rfl (jH _)).int_inv
 have m:d = #[d[0]'(by omega),.int .i64 q,.int .i64 r]:=by
  apply Array.ext;{exact hs}
  .intro i E hi2
   match i,E with
   | 0,_=>rfl
   | 1,_=>exact v1
   | 2,_=>exact v2
   |i+3,h=>omega
 have hu:=k 0 _ (d[0]'(by omega)) rfl (jH _);have f:Rep false w (d[0]'(by omega)) (.s .u8 p) (K 0):=hu;generalize d[0]'(by omega)=u at m f;subst m;refine(zZe (c:=⟨p,q,r⟩) (u:=u) (K0:=K 0) N ⟨e,D⟩ f (λx n=>A 0 x (show 0<3 by decide) n) hE).mono ?_;rintro e2 w' ⟨z,l,v,S,hr,rfl,y,Y,t⟩;have B:AV.agg (zb4<|zjt ⟨p,q,r⟩)::[aS (.sl .int)<|zrT ⟨p,q,r⟩]=AV.agg (zb4 z)::[aS (.sl .int) l]:=hr;simp only[List.cons.injEq,AV.agg.injEq,AV.one.injEq,and_true]at B;obtain⟨C,I⟩:=B;have I:zrT ⟨p,q,r⟩=l:=(by cases I;rfl);subst I;have O:zjt ⟨p,q,r⟩=z:=(by have C:=C;simp only[zb4,List.cons.injEq,CV.s.injEq,CV.i.injEq,true_and,and_true,heq_eq_eq]at C;obtain⟨F,G,H⟩:=C;generalize zjt ⟨p,q,r⟩=s at F G H;obtain⟨a1,a2,a3⟩:=s;obtain⟨b1,b2,b3⟩:=z;simp only at F G H;rw[F,G,H]);rw[O];obtain⟨V,J⟩:=y.cur;refine⟨y.os,y.tape,y.output,y.size,λb D hn _=>y.keep b D hn,#[u,.int .i64 z.i,.int .i64 z.h],V,λ_ _=>False,[v],λ_=>S,J,rfl,rfl,?_,⟨rfl,λi Q x a n=>?_⟩,rfl,λj x _ h=>h.elim,λi x E L=>⟨(t x L).2,?_,.inr (t x L).1⟩,λi j x _ _ _ h=>h.elim,?_,λi j x _ _ h=>h.elim⟩
 .intro j Q u' a f
  match j,a,f with
  | 0,a,f=>cases a;exact⟨λh=>by simp[zbh]at h,λ_=>f⟩
  | 1,a,f=>cases a;cases f;rfl
  | 2,a,f=>cases a;cases f;rfl
  |j+3,a,f=>simp[zb4]at a
 .match i,a,n with
  | 0,a,n=>cases a;cases n;exact Y
  |i+1,a,n=>simp at n
 {have:=(qQ.1 D).1;have:=(t x L).1;omega};{intro i j Q x E ho Z a0 _;have h1:i<1:=(qA.1 E).1;have h2:j<1:=Z;omega}
def zbaT:zc3:=[(194,[false,true,true],ztP)]++zbaS
def zXr:zcd zbaT:=zcP z8x (by
 intro x a;simp only[qG,qO,or_false]at a;rcases a with rfl
 .exact zPS)
end
def zbdO:zY:=[(87,zng),(284,zkn)]++z9Q
def zIV:zS zbdO:=zh zoN (zh zvB zeH)
def zFL {g:Type}{c e:Cur}(h:zbi c)(j:0<=e.i){P:g->Prop}{q:Int}(A:0<q)(M:q<=1000){fc:Cur->Bool}{fs:Cur->Cur}{fv:Cur->g}(E:∀{c:Cur},zbi c->fc c=true)(H:∀c,0<=(fs c).i)(hg:∀{c:Cur},zbi c->P (fv c)){G:Ans->Prop}{l0:List g}{z:Nat}(O:l0.length<=z)(I:z<=1000)(m:∀x∈l0,P x){p:Type}(S:Nat->Int×Int×Int×List g->p){F:(p->OA)->p->OA}(D:∀rec t i k l,∃r,F rec (S 0 (t,i,k,l))=(bif zD ⟨c.b,i,k⟩ q then (bif ilt t (zx ⟨c.b,i,k⟩ q) then (bif fc { zf ⟨c.b,i,k⟩ q with b:=c.b } then (bif few (ln (ap l [fv { zf ⟨c.b,i,k⟩ q with b:=c.b }])) then
        rec (S 0 (zM .i64 t 1,(fs {zf ⟨c.b,i,k⟩ q with b:=c.b}).i,(fs {zf ⟨c.b,i,k⟩ q with b:=c.b}).h,ap l [fv {zf ⟨c.b,i,k⟩ q with b:=c.b}])) else none) else none) else some r) else none)/\(ln l<=z+q->(∀x∈l,P x)->G r)):Ends G (iter 1002 F (S 0 (0,e.i,e.h,l0))):=by
 refine zl6 (fun n s=>∃t i k l,s=S 0 (t,i,k,l)/\t+(n:Int)=1000/\0<=t/\t<=q/\0<=i/\(∀x∈l,P x)/\ln l<=z+t) ?_ 1002 1000 _ ⟨0,e.i,e.h,l0,rfl,rfl,kS 0,by omega,j,m,by unfold ln;omega⟩ (by omega)
 rintro n s rec ⟨t,i,k,l,rfl,J,B,K,C,u,L⟩ f
 obtain⟨r,hF1,hF2⟩:=D rec t i k l;rw[hF1];have a:zbi ⟨c.b,i,k⟩:=zbS h C;have d:=zgg a A;have v:zbi {zf ⟨c.b,i,k⟩ q with b:=c.b}:=zbS h (zI _ _);refine zC (zbF a _) (zbJ (fun w=>?_) (fun w=>?_))
 .have hlt:t<zx ⟨c.b,i,k⟩ q:=qD w;have N:=ziu (y:=1) B (by omega) (by omega) (by omega)
  refine zC (E v) (zC (zlf (by rw[zhW];omega)) (f (n-1) _ (by omega) ⟨_,_,_,_,rfl,by omega,by omega,by omega,H _,?_,by rw[zhW];omega⟩))
  intro x d;rcases jJ.1 d with d|d
  .exact u x d
  .rw [qF.1 d];exact hg v
 .exact znQ (hF2 (by omega) u)
def zbc6 {c d:Cur}(h:zbi c)(f:0<=d.i){m q x:Int}(t:0<q)(g:0<=m)(D:m+q<=1000){G:Ans->Prop}{l0:LI}(B:ln l0<=m+q){j:Type}(S:Nat->Int×Int×LI->j){F:(j->OA)->j->OA}(w:∀rec i k l,∃r,F rec (S 0 (i,k,l))=(bif zD ⟨c.b,i,k⟩ q then (bif ilt (ln l) (zM .i64 m (zx ⟨c.b,i,k⟩ q)) then (bif few (ln (ap l [x])) then
        rec (S 0 ((zf ⟨c.b,i,k⟩ q).i,(zf ⟨c.b,i,k⟩ q).h,ap l [x])) else none) else some r) else none)/\(ln l<=m+q->G r)):Ends G (iter 1002 F (S 0 (d.i,d.h,l0))):=by
 refine zl6 (fun n s=>∃i k l,s=S 0 (i,k,l)/\ln l+(n:Int)=1000/\0<=i/\ln l<=m+q) ?_ 1002 (1000-ln l0).toNat _ ⟨d.i,d.h,l0,rfl,by unfold ln at *;omega,f,B⟩ (by unfold ln at *;omega)
 rintro n s rec ⟨i,k,l,rfl,C,u,v⟩ e
 obtain⟨r,hF1,hF2⟩:=w rec i k l;rw[hF1];have a:zbi ⟨c.b,i,k⟩:=zbS h u;have A:=zgg a t;have z:=ziu (x:=m) (y:=zx ⟨c.b,i,k⟩ q) g (by omega) A.1 (by omega)
 refine zC (zbF a _) (zbJ (fun p=>?_) (fun p=>?_))
 .have hlt:ln l<zM .i64 m (zx ⟨c.b,i,k⟩ q):=qD p;rw[z]at hlt;exact zC (zlf (by rw[zhW];omega)) (e (n-1) _ (by unfold ln at *;omega) ⟨_,_,_,rfl,by rw[zhW];omega,zI _ _,by rw[zhW];omega⟩)
 .exact znQ (hF2 v)
def GuS (g:Guest):Prop:=g.Prog.length<=13/\g.Written.length<=4/\g.Live.length<=4/\g.Seen.length<=50
def zFt {c:Cur}(h:zbi c):(zdX c 4 8).length<=4:=by have:=(zbcv h (n:=4) (m:=8) (by omega) (by omega) (by omega) (by omega)).1;unfold ln at this;omega
def zvd (N:Nat)(c:Cur)  : OA :=
 let C:=({ (zbe c) with b:=c.b}:Cur);let v:=zdX C 4 8;let d:=zcE<|zce c;let y9:=({ (zJ C 4 8) with b:=c.b}:Cur);let x:=zdX y9 4 8;let y2:=({ (zJ y9 4 8) with b:=c.b}:Cur);let w:=zx y2 100;let B:=({ (zf y2 100) with b:=c.b}:Cur);let y:=zx B 4;let y0:=({ (zf B 4) with b:=c.b}:Cur);let I:=({ (zcs y0) with b:=c.b}:Cur);let e:=zcQ y0;let A:=({ (zV I 3) with b:=c.b}:Cur);let H:=({ (zf A 256) with b:=c.b}:Cur);let r:=({ (zV A 4) with b:=c.b}:Cur);let u:=({ (zga r) with b:=c.b}:Cur);let q:=({ (zV H 4) with b:=c.b}:Cur);let t:=({ (zga q) with b:=c.b}:Cur); (oN (zib c)<|oN (zko<|zce c)<|oN (ziT C 4 8)<|oN (ziT y9 4 8)<|oN (zD y2 100)<|oN (zD B 4)<|oN (zk6 y0)<|oN (zde I 3)<|cond (zdq I 3) (oN (zD A 256)<|oN (zde H 4)<|cond (zdq H 4) (oN (zjK q)<|oN (zde t 12)<|iter (σ:=(Int×Int×Int×Int×Int×Int×Int×Bool×Int×Int×Int×Bool×Int×Bool×Int×Int×Int×Int×Bool×Int×Int×Int×Bool×Int×Bool×LI×lI×lS×lS×LI×lI×lS×lS×LI×Unit)) N (λz a=>let d6:=a.2.2.2.2.2.2.2.2.2.2.2.2.2.2.1;let d2:=a.2.2.2.2.2.2.2.2.2.2.2.2.2.2.2.1;let c8:=a.2.2.2.2.2.2.2.2.2.2.2.2.2.2.2.2.1;let c4:=a.2.2.2.2.2.2.2.2.2.2.2.2.2.2.2.2.2.1;let c0:=a.2.2.2.2.2.2.2.2.2.2.2.2.2.2.2.2.2.2.1;let b6:=a.2.2.2.2.2.2.2.2.2.2.2.2.2.2.2.2.2.2.2.1;let b2:=a.2.2.2.2.2.2.2.2.2.2.2.2.2.2.2.2.2.2.2.2.1;let a8:=a.2.2.2.2.2.2.2.2.2.2.2.2.2.2.2.2.2.2.2.2.2.1;let a4:=a.2.2.2.2.2.2.2.2.2.2.2.2.2.2.2.2.2.2.2.2.2.2.1;let a0:=a.2.2.2.2.2.2.2.2.2.2.2.2.2.2.2.2.2.2.2.2.2.2.2.1;let W:=a.2.2.2.2.2.2.2.2.2.2.2.2.2.2.2.2.2.2.2.2.2.2.2.2.1;let S:=a.2.2.2.2.2.2.2.2.2.2.2.2.2.2.2.2.2.2.2.2.2.2.2.2.2.2.2.2.2.2.1;let O:=a.2.2.2.2.2.2.2.2.2.2.2.2.2.2.2.2.2.2.2.2.2.2.2.2.2.2.2.2.2.2.2.1;let J:=a.2.2.2.2.2.2.2.2.2.2.2.2.2.2.2.2.2.2.2.2.2.2.2.2.2.2.2.2.2.2.2.2.1;let D:=a.2.2.2.2.2.2.2.2.2.2.2.2.2.2.2.2.2.2.2.2.2.2.2.2.2.2.2.2.2.2.2.2.2.1;let y4:=a.2.2.2.2.2.2.2.2.2.2.2.2.2.2.2.2.2.2.2.2.2.2.2.2.2.1;let l:=(⟨y4,a.2.1,a.2.2.1⟩:Cur);let f:=({ (zf l 4) with b:=y4}:Cur); (oN (zD l 4)<|cond (ilt a.1<|zx l 4) (oN (zD f 100)<|oN (few<|ln<|ap D [zx f 100])<|z (zM .i64 a.1 1,(zf f 100).i,(zf f 100).h,a.2.2.2.1,a.2.2.2.2.1,a.2.2.2.2.2.1,a.2.2.2.2.2.2.1,a.2.2.2.2.2.2.2.1,a.2.2.2.2.2.2.2.2.1,a.2.2.2.2.2.2.2.2.2.1,a.2.2.2.2.2.2.2.2.2.2.1,a.2.2.2.2.2.2.2.2.2.2.2.1,a.2.2.2.2.2.2.2.2.2.2.2.2.1,a.2.2.2.2.2.2.2.2.2.2.2.2.2.1,d6,d2,c8,c4,c0,b6,b2,a8,a4,a0,W,y4,a.2.2.2.2.2.2.2.2.2.2.2.2.2.2.2.2.2.2.2.2.2.2.2.2.2.2.1,a.2.2.2.2.2.2.2.2.2.2.2.2.2.2.2.2.2.2.2.2.2.2.2.2.2.2.2.1,a.2.2.2.2.2.2.2.2.2.2.2.2.2.2.2.2.2.2.2.2.2.2.2.2.2.2.2.2.1,a.2.2.2.2.2.2.2.2.2.2.2.2.2.2.2.2.2.2.2.2.2.2.2.2.2.2.2.2.2.1,S,O,J,ap D [zx f 100],()))<|some [.agg [.s .u8 y4,.i .i64 (zf l 4).i,.i .i64 (zf l 4).h],aT .guest (⟨S,d6,d2,O,J,⟨c8,c4,c0⟩,b6,⟨b2,a8,a4,a0⟩,W,D⟩:Guest)])) (0,(zV t 12).i,(zV t 12).h,0,0,0,0,false,0,0,0,false,0,false,w,y,e.Traps,e.Post,e.Open,zx A 256,(zcm q).Kind,(zcm q).Page,(zcm q).Write,(zcm q).N,zdq t 12,c.b,[],[],[],[],d.Prog,v,x,d.Seen,()))<|oN (zde q 12)<|iter (σ:=(Int×Int×Int×Int×Int×Int×Int×Bool×Int×Int×Int×Bool×Int×Bool×Int×Int×Int×Int×Bool×Int×Int×Int×Bool×Int×Bool×LI×lI×lS×lS×LI×lI×lS×lS×LI×Unit)) N (λz a=>let d7:=a.2.2.2.2.2.2.2.2.2.2.2.2.2.2.1;let d3:=a.2.2.2.2.2.2.2.2.2.2.2.2.2.2.2.1;let c9:=a.2.2.2.2.2.2.2.2.2.2.2.2.2.2.2.2.1;let c5:=a.2.2.2.2.2.2.2.2.2.2.2.2.2.2.2.2.2.1;let c1:=a.2.2.2.2.2.2.2.2.2.2.2.2.2.2.2.2.2.2.1;let b7:=a.2.2.2.2.2.2.2.2.2.2.2.2.2.2.2.2.2.2.2.1;let b3:=a.2.2.2.2.2.2.2.2.2.2.2.2.2.2.2.2.2.2.2.2.1;let a9:=a.2.2.2.2.2.2.2.2.2.2.2.2.2.2.2.2.2.2.2.2.2.1;let a5:=a.2.2.2.2.2.2.2.2.2.2.2.2.2.2.2.2.2.2.2.2.2.2.1;let a1:=a.2.2.2.2.2.2.2.2.2.2.2.2.2.2.2.2.2.2.2.2.2.2.2.1;let X:=a.2.2.2.2.2.2.2.2.2.2.2.2.2.2.2.2.2.2.2.2.2.2.2.2.1;let T:=a.2.2.2.2.2.2.2.2.2.2.2.2.2.2.2.2.2.2.2.2.2.2.2.2.2.2.2.2.2.2.1;let P:=a.2.2.2.2.2.2.2.2.2.2.2.2.2.2.2.2.2.2.2.2.2.2.2.2.2.2.2.2.2.2.2.1;let K:=a.2.2.2.2.2.2.2.2.2.2.2.2.2.2.2.2.2.2.2.2.2.2.2.2.2.2.2.2.2.2.2.2.1;let E:=a.2.2.2.2.2.2.2.2.2.2.2.2.2.2.2.2.2.2.2.2.2.2.2.2.2.2.2.2.2.2.2.2.2.1;let y5:=a.2.2.2.2.2.2.2.2.2.2.2.2.2.2.2.2.2.2.2.2.2.2.2.2.2.1;let m:=(⟨y5,a.2.1,a.2.2.1⟩:Cur);let g:=({ (zf m 4) with b:=y5}:Cur); (oN (zD m 4)<|cond (ilt a.1<|zx m 4) (oN (zD g 100)<|oN (few<|ln<|ap E [zx g 100])<|z (zM .i64 a.1 1,(zf g 100).i,(zf g 100).h,a.2.2.2.1,a.2.2.2.2.1,a.2.2.2.2.2.1,a.2.2.2.2.2.2.1,a.2.2.2.2.2.2.2.1,a.2.2.2.2.2.2.2.2.1,a.2.2.2.2.2.2.2.2.2.1,a.2.2.2.2.2.2.2.2.2.2.1,a.2.2.2.2.2.2.2.2.2.2.2.1,a.2.2.2.2.2.2.2.2.2.2.2.2.1,a.2.2.2.2.2.2.2.2.2.2.2.2.2.1,d7,d3,c9,c5,c1,b7,b3,a9,a5,a1,X,y5,a.2.2.2.2.2.2.2.2.2.2.2.2.2.2.2.2.2.2.2.2.2.2.2.2.2.2.1,a.2.2.2.2.2.2.2.2.2.2.2.2.2.2.2.2.2.2.2.2.2.2.2.2.2.2.2.1,a.2.2.2.2.2.2.2.2.2.2.2.2.2.2.2.2.2.2.2.2.2.2.2.2.2.2.2.2.1,a.2.2.2.2.2.2.2.2.2.2.2.2.2.2.2.2.2.2.2.2.2.2.2.2.2.2.2.2.2.1,T,P,K,ap E [zx g 100],()))<|some [.agg [.s .u8 y5,.i .i64 (zf m 4).i,.i .i64 (zf m 4).h],aT .guest (⟨T,d7,d3,P,K,⟨c9,c5,c1⟩,b7,⟨b3,a9,a5,a1⟩,X,E⟩:Guest)])) (0,(zV q 12).i,(zV q 12).h,0,0,0,0,false,0,0,0,false,0,false,w,y,e.Traps,e.Post,e.Open,zx A 256,d.Exit.Kind,d.Exit.Page,d.Exit.Write,d.Exit.N,zdq q 12,c.b,[],[],[],[],d.Prog,v,x,d.Seen,()))<|oN (zde A 4)<|cond (zdq A 4) (oN (zjK r)<|oN (zde u 12)<|iter (σ:=(Int×Int×Int×Int×Int×Int×Int×Bool×Int×Int×Int×Bool×Int×Bool×Int×Int×Int×Int×Bool×Int×Int×Int×Bool×Int×Bool×LI×lI×lS×lS×LI×lI×lS×lS×LI×Unit)) N (λz a=>let d8:=a.2.2.2.2.2.2.2.2.2.2.2.2.2.2.1;let d4:=a.2.2.2.2.2.2.2.2.2.2.2.2.2.2.2.1;let d0:=a.2.2.2.2.2.2.2.2.2.2.2.2.2.2.2.2.1;let c6:=a.2.2.2.2.2.2.2.2.2.2.2.2.2.2.2.2.2.1;let c2:=a.2.2.2.2.2.2.2.2.2.2.2.2.2.2.2.2.2.2.1;let b8:=a.2.2.2.2.2.2.2.2.2.2.2.2.2.2.2.2.2.2.2.1;let b4:=a.2.2.2.2.2.2.2.2.2.2.2.2.2.2.2.2.2.2.2.2.1;let b0:=a.2.2.2.2.2.2.2.2.2.2.2.2.2.2.2.2.2.2.2.2.2.1;let a6:=a.2.2.2.2.2.2.2.2.2.2.2.2.2.2.2.2.2.2.2.2.2.2.1;let a2:=a.2.2.2.2.2.2.2.2.2.2.2.2.2.2.2.2.2.2.2.2.2.2.2.1;let Y:=a.2.2.2.2.2.2.2.2.2.2.2.2.2.2.2.2.2.2.2.2.2.2.2.2.1;let U:=a.2.2.2.2.2.2.2.2.2.2.2.2.2.2.2.2.2.2.2.2.2.2.2.2.2.2.2.2.2.2.1;let Q:=a.2.2.2.2.2.2.2.2.2.2.2.2.2.2.2.2.2.2.2.2.2.2.2.2.2.2.2.2.2.2.2.1;let L:=a.2.2.2.2.2.2.2.2.2.2.2.2.2.2.2.2.2.2.2.2.2.2.2.2.2.2.2.2.2.2.2.2.1;let F:=a.2.2.2.2.2.2.2.2.2.2.2.2.2.2.2.2.2.2.2.2.2.2.2.2.2.2.2.2.2.2.2.2.2.1;let y6:=a.2.2.2.2.2.2.2.2.2.2.2.2.2.2.2.2.2.2.2.2.2.2.2.2.2.1;let n:=(⟨y6,a.2.1,a.2.2.1⟩:Cur);let j:=({ (zf n 4) with b:=y6}:Cur); (oN (zD n 4)<|cond (ilt a.1<|zx n 4) (oN (zD j 100)<|oN (few<|ln<|ap F [zx j 100])<|z (zM .i64 a.1 1,(zf j 100).i,(zf j 100).h,a.2.2.2.1,a.2.2.2.2.1,a.2.2.2.2.2.1,a.2.2.2.2.2.2.1,a.2.2.2.2.2.2.2.1,a.2.2.2.2.2.2.2.2.1,a.2.2.2.2.2.2.2.2.2.1,a.2.2.2.2.2.2.2.2.2.2.1,a.2.2.2.2.2.2.2.2.2.2.2.1,a.2.2.2.2.2.2.2.2.2.2.2.2.1,a.2.2.2.2.2.2.2.2.2.2.2.2.2.1,d8,d4,d0,c6,c2,b8,b4,b0,a6,a2,Y,y6,a.2.2.2.2.2.2.2.2.2.2.2.2.2.2.2.2.2.2.2.2.2.2.2.2.2.2.1,a.2.2.2.2.2.2.2.2.2.2.2.2.2.2.2.2.2.2.2.2.2.2.2.2.2.2.2.1,a.2.2.2.2.2.2.2.2.2.2.2.2.2.2.2.2.2.2.2.2.2.2.2.2.2.2.2.2.1,a.2.2.2.2.2.2.2.2.2.2.2.2.2.2.2.2.2.2.2.2.2.2.2.2.2.2.2.2.2.1,U,Q,L,ap F [zx j 100],()))<|some [.agg [.s .u8 y6,.i .i64 (zf n 4).i,.i .i64 (zf n 4).h],aT .guest (⟨U,d8,d4,Q,L,⟨d0,c6,c2⟩,b8,⟨b4,b0,a6,a2⟩,Y,F⟩:Guest)])) (0,(zV u 12).i,(zV u 12).h,0,0,0,0,false,0,0,0,false,0,false,w,y,e.Traps,e.Post,e.Open,d.Pending,(zcm r).Kind,(zcm r).Page,(zcm r).Write,(zcm r).N,zdq u 12,c.b,[],[],[],[],d.Prog,v,x,d.Seen,()))<|oN (zde r 12)<|iter (σ:=(Int×Int×Int×Int×Int×Int×Int×Bool×Int×Int×Int×Bool×Int×Bool×Int×Int×Int×Int×Bool×Int×Int×Int×Bool×Int×Bool×LI×lI×lS×lS×LI×lI×lS×lS×LI×Unit)) N (λz a=>let d9:=a.2.2.2.2.2.2.2.2.2.2.2.2.2.2.1;let d5:=a.2.2.2.2.2.2.2.2.2.2.2.2.2.2.2.1;let d1:=a.2.2.2.2.2.2.2.2.2.2.2.2.2.2.2.2.1;let c7:=a.2.2.2.2.2.2.2.2.2.2.2.2.2.2.2.2.2.1;let c3:=a.2.2.2.2.2.2.2.2.2.2.2.2.2.2.2.2.2.2.1;let b9:=a.2.2.2.2.2.2.2.2.2.2.2.2.2.2.2.2.2.2.2.1;let b5:=a.2.2.2.2.2.2.2.2.2.2.2.2.2.2.2.2.2.2.2.2.1;let b1:=a.2.2.2.2.2.2.2.2.2.2.2.2.2.2.2.2.2.2.2.2.2.1;let a7:=a.2.2.2.2.2.2.2.2.2.2.2.2.2.2.2.2.2.2.2.2.2.2.1;let a3:=a.2.2.2.2.2.2.2.2.2.2.2.2.2.2.2.2.2.2.2.2.2.2.2.1;let Z:=a.2.2.2.2.2.2.2.2.2.2.2.2.2.2.2.2.2.2.2.2.2.2.2.2.1;let V:=a.2.2.2.2.2.2.2.2.2.2.2.2.2.2.2.2.2.2.2.2.2.2.2.2.2.2.2.2.2.2.1;let R:=a.2.2.2.2.2.2.2.2.2.2.2.2.2.2.2.2.2.2.2.2.2.2.2.2.2.2.2.2.2.2.2.1;let M:=a.2.2.2.2.2.2.2.2.2.2.2.2.2.2.2.2.2.2.2.2.2.2.2.2.2.2.2.2.2.2.2.2.1;let G:=a.2.2.2.2.2.2.2.2.2.2.2.2.2.2.2.2.2.2.2.2.2.2.2.2.2.2.2.2.2.2.2.2.2.1;let y7:=a.2.2.2.2.2.2.2.2.2.2.2.2.2.2.2.2.2.2.2.2.2.2.2.2.2.1;let p:=(⟨y7,a.2.1,a.2.2.1⟩:Cur);let k:=({ (zf p 4) with b:=y7}:Cur); (oN (zD p 4)<|cond (ilt a.1<|zx p 4) (oN (zD k 100)<|oN (few<|ln<|ap G [zx k 100])<|z (zM .i64 a.1 1,(zf k 100).i,(zf k 100).h,a.2.2.2.1,a.2.2.2.2.1,a.2.2.2.2.2.1,a.2.2.2.2.2.2.1,a.2.2.2.2.2.2.2.1,a.2.2.2.2.2.2.2.2.1,a.2.2.2.2.2.2.2.2.2.1,a.2.2.2.2.2.2.2.2.2.2.1,a.2.2.2.2.2.2.2.2.2.2.2.1,a.2.2.2.2.2.2.2.2.2.2.2.2.1,a.2.2.2.2.2.2.2.2.2.2.2.2.2.1,d9,d5,d1,c7,c3,b9,b5,b1,a7,a3,Z,y7,a.2.2.2.2.2.2.2.2.2.2.2.2.2.2.2.2.2.2.2.2.2.2.2.2.2.2.1,a.2.2.2.2.2.2.2.2.2.2.2.2.2.2.2.2.2.2.2.2.2.2.2.2.2.2.2.1,a.2.2.2.2.2.2.2.2.2.2.2.2.2.2.2.2.2.2.2.2.2.2.2.2.2.2.2.2.1,a.2.2.2.2.2.2.2.2.2.2.2.2.2.2.2.2.2.2.2.2.2.2.2.2.2.2.2.2.2.1,V,R,M,ap G [zx k 100],()))<|some [.agg [.s .u8 y7,.i .i64 (zf p 4).i,.i .i64 (zf p 4).h],aT .guest (⟨V,d9,d5,R,M,⟨d1,c7,c3⟩,b9,⟨b5,b1,a7,a3⟩,Z,G⟩:Guest)])) (0,(zV r 12).i,(zV r 12).h,0,0,0,0,false,0,0,0,false,0,false,w,y,e.Traps,e.Post,e.Open,d.Pending,d.Exit.Kind,d.Exit.Page,d.Exit.Write,d.Exit.N,zdq r 12,c.b,[],[],[],[],d.Prog,v,x,d.Seen,()))
def zRp:=zq [(269,0,{n:=50,tm:=[(0,.lp 0 0),(2,.lp 1 0),(3,.lp 2 0),(4,ti)],lo:=[(0,[.sl 0 [],ti,ti]),(1,[.sl 1 [],ti,ti,.sl 2 [],.sl 3 [],ti,ti,.b,ti,ti,ti,.b,ti,.b,.sl 4 []]),(2,[.sl 5 [],ti,ti,.sl 6 [],.sl 7 [],ti,ti,.b,ti,ti,ti,.b,ti,.b,.sl 8 []])],ro:=[(0,.u8,false),(1,.ins,true),(2,.slot,true),(3,.slot,true),(4,.int,true),(5,.ins,true),(6,.slot,true),(7,.slot,true),(8,.int,true)]})]
def zoD (c:Cur)(s:Cur)(a:Guest):Prop:=(∃N,zvd N c=some (AV.agg (zb4 s)::[aT .guest a]))/\(s.b=c.b/\0<=s.i)/\(GuS a/\a.Seen.length<=4)
def zmC (c:Cur)  : Bool:=wC (zoD c)
def zkt (c:Cur)  : Cur:=wS (zoD c)
def zck (c:Cur)  : Guest:=wV (zoD c)
def zFi {c:Cur}(h:zmC c=true):zoD c (zkt c) (zck c):=wG h
def zXP (c:Cur)  : 0<=(zkt c).i:=wP λh=>h.2.1.2
def zXO (c:Cur)(h:∃N,Ends (wE (λa=>aT .guest a) c.b λa=>GuS a/\a.Seen.length<=4)<|zvd N c):zmC c=true:=wI (λ_ _ h=>h) h
def zxi:zek:=rP0 λc=>(zmC c,zkt c,[aT .guest<|zck c])
def zJP:zbW Tryz.prog 269 [false,true,true] zxi:=hP0 zIV zU zXr zn zRp (λ_ h=>(zFi h).1)
def zVJ {c:Cur}(h:zbi c):zmC c=true:=by
 refine zXO c ⟨1002,?_⟩;unfold zvd oN;conv=>zeta
 have f:=zEY h;have j:=zKr (zsJ f).2.2;have e:zko (zce c)=true:=zbd (by omega);have q:∀{s:Cur},0<=s.i->zbi {s with b:=c.b}:=fun g=>zbS h g;have d:GuS ⟨zce c,0,0,[],[],⟨0,0,false⟩,0,⟨0,0,false,0⟩,false,[]⟩:=⟨by dsimp only;omega,by simp,by simp,by simp⟩
 refine zC f (zC e (zC (zz8 (q (zjJ _)) (by omega) (by omega) _) (zC (zz8 (q (ziU _ _ _)) (by omega) (by omega) _) (zC (zbF (q (ziU _ _ _)) _) (zC (zbF (q (zI _ _)) _) (zC (z1G (q (zI _ _))) (zC (zkj (q (zBk _)) _)
  (zbJ (fun _=>zC (zbF (q (zcw _ _)) _) (zC (zkj (q (zI _ _)) _) (zbJ (fun _=>zC (zVM (q (zcw _ _))) (zC (zkj (q (zys _)) _) ?_)) (fun _=>zC (zkj (q (zcw _ _)) _) ?_))))
   (fun _=>zC (zkj (q (zcw _ _)) _) (zbJ (fun _=>zC (zVM (q (zcw _ _))) (zC (zkj (q (zys _)) _) ?_)) (fun _=>zC (zkj (q (zcw _ _)) _) ?_)))))))))))
 .exact zFL h (zcw _ _) (P:=fun _=>True) (q:=4) (by omega) (by omega) (fc:=fun c=>zD c 100) (fs:=fun c=>zf c 100) (fv:=fun c=>zx c 100) (fun h=>zbF h _) (fun c=>zI c _) (fun _=>trivial) (z:=0) (l0:=(zcE (zce c)).Seen) (qZ 0) (by omega) (by simp) ((fun _ t=>(t.1,t.2.1,t.2.2.1,0,0,0,0,false,0,0,0,false,0,false,(zx ({ (zJ ({ (zJ ({ (zbe c) with b:=c.b }:Cur) 4 8) with b:=c.b }:Cur) 4 8) with b:=c.b }:Cur) 100),(zx ({ (zf ({ (zJ ({ (zJ ({ (zbe c) with b:=c.b }:Cur) 4 8) with b:=c.b }:Cur) 4 8) with b:=c.b }:Cur) 100) with b:=c.b }:Cur) 4),(zcQ ({ (zf ({ (zf ({ (zJ ({ (zJ ({ (zbe c) with b:=c.b }:Cur) 4 8) with b:=c.b }:Cur) 4 8) with b:=c.b }:Cur) 100) with b:=c.b }:Cur) 4) with b:=c.b }:Cur)).Traps,(zcQ ({ (zf ({ (zf ({ (zJ ({ (zJ ({ (zbe c) with b:=c.b }:Cur) 4 8) with b:=c.b }:Cur) 4 8) with b:=c.b }:Cur) 100) with b:=c.b }:Cur) 4) with b:=c.b }:Cur)).Post,(zcQ ({ (zf ({ (zf ({ (zJ ({ (zJ ({ (zbe c) with b:=c.b }:Cur) 4 8) with b:=c.b }:Cur) 4 8) with b:=c.b }:Cur) 100) with b:=c.b }:Cur) 4) with b:=c.b }:Cur)).Open,(zx ({ (zV ({ (zcs ({ (zf ({ (zf ({ (zJ ({ (zJ ({ (zbe c) with b:=c.b }:Cur) 4 8) with b:=c.b }:Cur) 4 8) with b:=c.b }:Cur) 100) with b:=c.b }:Cur) 4) with b:=c.b }:Cur)) with b:=c.b }:Cur) 3) with b:=c.b }:Cur) 256),(zcm ({ (zV ({ (zf ({ (zV ({ (zcs ({ (zf ({ (zf ({ (zJ ({ (zJ ({ (zbe c) with b:=c.b }:Cur) 4 8) with b:=c.b }:Cur) 4 8) with b:=c.b }:Cur) 100) with b:=c.b }:Cur) 4) with b:=c.b }:Cur)) with b:=c.b }:Cur) 3) with b:=c.b }:Cur) 256) with b:=c.b }:Cur) 4) with b:=c.b }:Cur)).Kind,(zcm ({ (zV ({ (zf ({ (zV ({ (zcs ({ (zf ({ (zf ({ (zJ ({ (zJ ({ (zbe c) with b:=c.b }:Cur) 4 8) with b:=c.b }:Cur) 4 8) with b:=c.b }:Cur) 100) with b:=c.b }:Cur) 4) with b:=c.b }:Cur)) with b:=c.b }:Cur) 3) with b:=c.b }:Cur) 256) with b:=c.b }:Cur) 4) with b:=c.b }:Cur)).Page,(zcm ({ (zV ({ (zf ({ (zV ({ (zcs ({ (zf ({ (zf ({ (zJ ({ (zJ ({ (zbe c) with b:=c.b }:Cur) 4 8) with b:=c.b }:Cur) 4 8) with b:=c.b }:Cur) 100) with b:=c.b }:Cur) 4) with b:=c.b }:Cur)) with b:=c.b }:Cur) 3) with b:=c.b }:Cur) 256) with b:=c.b }:Cur) 4) with b:=c.b }:Cur)).Write,(zcm ({ (zV ({ (zf ({ (zV ({ (zcs ({ (zf ({ (zf ({ (zJ ({ (zJ ({ (zbe c) with b:=c.b }:Cur) 4 8) with b:=c.b }:Cur) 4 8) with b:=c.b }:Cur) 100) with b:=c.b }:Cur) 4) with b:=c.b }:Cur)) with b:=c.b }:Cur) 3) with b:=c.b }:Cur) 256) with b:=c.b }:Cur) 4) with b:=c.b }:Cur)).N,(zdq ({ (zga ({ (zV ({ (zf ({ (zV ({ (zcs ({ (zf ({ (zf ({ (zJ ({ (zJ ({ (zbe c) with b:=c.b }:Cur) 4 8) with b:=c.b }:Cur) 4 8) with b:=c.b }:Cur) 100) with b:=c.b }:Cur) 4) with b:=c.b }:Cur)) with b:=c.b }:Cur) 3) with b:=c.b }:Cur) 256) with b:=c.b }:Cur) 4) with b:=c.b }:Cur)) with b:=c.b }:Cur) 12),c.b,[],[],[],[],(zcE (zce c)).Prog,(zdX ({ (zbe c) with b:=c.b }:Cur) 4 8),(zdX ({ (zJ ({ (zbe c) with b:=c.b }:Cur) 4 8) with b:=c.b }:Cur) 4 8),t.2.2.2,())):Nat->Int×Int×Int×LI->_)
   (fun rec t i k l=>⟨_,rfl,fun a _=>⟨⟨_,_,_⟩,_,rfl,⟨rfl,zI _ _⟩,⟨⟨d.1,zFt (q (zjJ _)),zFt (q (ziU _ _ _)),by unfold ln at a;dsimp only;omega⟩,by unfold ln at a;dsimp only;omega⟩⟩⟩)
 .exact zFL h (zcw _ _) (P:=fun _=>True) (q:=4) (by omega) (by omega) (fc:=fun c=>zD c 100) (fs:=fun c=>zf c 100) (fv:=fun c=>zx c 100) (fun h=>zbF h _) (fun c=>zI c _) (fun _=>trivial) (z:=0) (l0:=(zcE (zce c)).Seen) (qZ 0) (by omega) (by simp) ((fun _ t=>(t.1,t.2.1,t.2.2.1,0,0,0,0,false,0,0,0,false,0,false,(zx ({ (zJ ({ (zJ ({ (zbe c) with b:=c.b }:Cur) 4 8) with b:=c.b }:Cur) 4 8) with b:=c.b }:Cur) 100),(zx ({ (zf ({ (zJ ({ (zJ ({ (zbe c) with b:=c.b }:Cur) 4 8) with b:=c.b }:Cur) 4 8) with b:=c.b }:Cur) 100) with b:=c.b }:Cur) 4),(zcQ ({ (zf ({ (zf ({ (zJ ({ (zJ ({ (zbe c) with b:=c.b }:Cur) 4 8) with b:=c.b }:Cur) 4 8) with b:=c.b }:Cur) 100) with b:=c.b }:Cur) 4) with b:=c.b }:Cur)).Traps,(zcQ ({ (zf ({ (zf ({ (zJ ({ (zJ ({ (zbe c) with b:=c.b }:Cur) 4 8) with b:=c.b }:Cur) 4 8) with b:=c.b }:Cur) 100) with b:=c.b }:Cur) 4) with b:=c.b }:Cur)).Post,(zcQ ({ (zf ({ (zf ({ (zJ ({ (zJ ({ (zbe c) with b:=c.b }:Cur) 4 8) with b:=c.b }:Cur) 4 8) with b:=c.b }:Cur) 100) with b:=c.b }:Cur) 4) with b:=c.b }:Cur)).Open,(zx ({ (zV ({ (zcs ({ (zf ({ (zf ({ (zJ ({ (zJ ({ (zbe c) with b:=c.b }:Cur) 4 8) with b:=c.b }:Cur) 4 8) with b:=c.b }:Cur) 100) with b:=c.b }:Cur) 4) with b:=c.b }:Cur)) with b:=c.b }:Cur) 3) with b:=c.b }:Cur) 256),(zcE (zce c)).Exit.Kind,(zcE (zce c)).Exit.Page,(zcE (zce c)).Exit.Write,(zcE (zce c)).Exit.N,(zdq ({ (zV ({ (zf ({ (zV ({ (zcs ({ (zf ({ (zf ({ (zJ ({ (zJ ({ (zbe c) with b:=c.b }:Cur) 4 8) with b:=c.b }:Cur) 4 8) with b:=c.b }:Cur) 100) with b:=c.b }:Cur) 4) with b:=c.b }:Cur)) with b:=c.b }:Cur) 3) with b:=c.b }:Cur) 256) with b:=c.b }:Cur) 4) with b:=c.b }:Cur) 12),c.b,[],[],[],[],(zcE (zce c)).Prog,(zdX ({ (zbe c) with b:=c.b }:Cur) 4 8),(zdX ({ (zJ ({ (zbe c) with b:=c.b }:Cur) 4 8) with b:=c.b }:Cur) 4 8),t.2.2.2,())):Nat->Int×Int×Int×LI->_)
   (fun rec t i k l=>⟨_,rfl,fun a _=>⟨⟨_,_,_⟩,_,rfl,⟨rfl,zI _ _⟩,⟨⟨d.1,zFt (q (zjJ _)),zFt (q (ziU _ _ _)),by unfold ln at a;dsimp only;omega⟩,by unfold ln at a;dsimp only;omega⟩⟩⟩)
 .exact zFL h (zcw _ _) (P:=fun _=>True) (q:=4) (by omega) (by omega) (fc:=fun c=>zD c 100) (fs:=fun c=>zf c 100) (fv:=fun c=>zx c 100) (fun h=>zbF h _) (fun c=>zI c _) (fun _=>trivial) (z:=0) (l0:=(zcE (zce c)).Seen) (qZ 0) (by omega) (by simp) ((fun _ t=>(t.1,t.2.1,t.2.2.1,0,0,0,0,false,0,0,0,false,0,false,(zx ({ (zJ ({ (zJ ({ (zbe c) with b:=c.b }:Cur) 4 8) with b:=c.b }:Cur) 4 8) with b:=c.b }:Cur) 100),(zx ({ (zf ({ (zJ ({ (zJ ({ (zbe c) with b:=c.b }:Cur) 4 8) with b:=c.b }:Cur) 4 8) with b:=c.b }:Cur) 100) with b:=c.b }:Cur) 4),(zcQ ({ (zf ({ (zf ({ (zJ ({ (zJ ({ (zbe c) with b:=c.b }:Cur) 4 8) with b:=c.b }:Cur) 4 8) with b:=c.b }:Cur) 100) with b:=c.b }:Cur) 4) with b:=c.b }:Cur)).Traps,(zcQ ({ (zf ({ (zf ({ (zJ ({ (zJ ({ (zbe c) with b:=c.b }:Cur) 4 8) with b:=c.b }:Cur) 4 8) with b:=c.b }:Cur) 100) with b:=c.b }:Cur) 4) with b:=c.b }:Cur)).Post,(zcQ ({ (zf ({ (zf ({ (zJ ({ (zJ ({ (zbe c) with b:=c.b }:Cur) 4 8) with b:=c.b }:Cur) 4 8) with b:=c.b }:Cur) 100) with b:=c.b }:Cur) 4) with b:=c.b }:Cur)).Open,(zcE (zce c)).Pending,(zcm ({ (zV ({ (zV ({ (zcs ({ (zf ({ (zf ({ (zJ ({ (zJ ({ (zbe c) with b:=c.b }:Cur) 4 8) with b:=c.b }:Cur) 4 8) with b:=c.b }:Cur) 100) with b:=c.b }:Cur) 4) with b:=c.b }:Cur)) with b:=c.b }:Cur) 3) with b:=c.b }:Cur) 4) with b:=c.b }:Cur)).Kind,(zcm ({ (zV ({ (zV ({ (zcs ({ (zf ({ (zf ({ (zJ ({ (zJ ({ (zbe c) with b:=c.b }:Cur) 4 8) with b:=c.b }:Cur) 4 8) with b:=c.b }:Cur) 100) with b:=c.b }:Cur) 4) with b:=c.b }:Cur)) with b:=c.b }:Cur) 3) with b:=c.b }:Cur) 4) with b:=c.b }:Cur)).Page,(zcm ({ (zV ({ (zV ({ (zcs ({ (zf ({ (zf ({ (zJ ({ (zJ ({ (zbe c) with b:=c.b }:Cur) 4 8) with b:=c.b }:Cur) 4 8) with b:=c.b }:Cur) 100) with b:=c.b }:Cur) 4) with b:=c.b }:Cur)) with b:=c.b }:Cur) 3) with b:=c.b }:Cur) 4) with b:=c.b }:Cur)).Write,(zcm ({ (zV ({ (zV ({ (zcs ({ (zf ({ (zf ({ (zJ ({ (zJ ({ (zbe c) with b:=c.b }:Cur) 4 8) with b:=c.b }:Cur) 4 8) with b:=c.b }:Cur) 100) with b:=c.b }:Cur) 4) with b:=c.b }:Cur)) with b:=c.b }:Cur) 3) with b:=c.b }:Cur) 4) with b:=c.b }:Cur)).N,(zdq ({ (zga ({ (zV ({ (zV ({ (zcs ({ (zf ({ (zf ({ (zJ ({ (zJ ({ (zbe c) with b:=c.b }:Cur) 4 8) with b:=c.b }:Cur) 4 8) with b:=c.b }:Cur) 100) with b:=c.b }:Cur) 4) with b:=c.b }:Cur)) with b:=c.b }:Cur) 3) with b:=c.b }:Cur) 4) with b:=c.b }:Cur)) with b:=c.b }:Cur) 12),c.b,[],[],[],[],(zcE (zce c)).Prog,(zdX ({ (zbe c) with b:=c.b }:Cur) 4 8),(zdX ({ (zJ ({ (zbe c) with b:=c.b }:Cur) 4 8) with b:=c.b }:Cur) 4 8),t.2.2.2,())):Nat->Int×Int×Int×LI->_)
   (fun rec t i k l=>⟨_,rfl,fun a _=>⟨⟨_,_,_⟩,_,rfl,⟨rfl,zI _ _⟩,⟨⟨d.1,zFt (q (zjJ _)),zFt (q (ziU _ _ _)),by unfold ln at a;dsimp only;omega⟩,by unfold ln at a;dsimp only;omega⟩⟩⟩)
 .exact zFL h (zcw _ _) (P:=fun _=>True) (q:=4) (by omega) (by omega) (fc:=fun c=>zD c 100) (fs:=fun c=>zf c 100) (fv:=fun c=>zx c 100) (fun h=>zbF h _) (fun c=>zI c _) (fun _=>trivial) (z:=0) (l0:=(zcE (zce c)).Seen) (qZ 0) (by omega) (by simp) ((fun _ t=>(t.1,t.2.1,t.2.2.1,0,0,0,0,false,0,0,0,false,0,false,(zx ({ (zJ ({ (zJ ({ (zbe c) with b:=c.b }:Cur) 4 8) with b:=c.b }:Cur) 4 8) with b:=c.b }:Cur) 100),(zx ({ (zf ({ (zJ ({ (zJ ({ (zbe c) with b:=c.b }:Cur) 4 8) with b:=c.b }:Cur) 4 8) with b:=c.b }:Cur) 100) with b:=c.b }:Cur) 4),(zcQ ({ (zf ({ (zf ({ (zJ ({ (zJ ({ (zbe c) with b:=c.b }:Cur) 4 8) with b:=c.b }:Cur) 4 8) with b:=c.b }:Cur) 100) with b:=c.b }:Cur) 4) with b:=c.b }:Cur)).Traps,(zcQ ({ (zf ({ (zf ({ (zJ ({ (zJ ({ (zbe c) with b:=c.b }:Cur) 4 8) with b:=c.b }:Cur) 4 8) with b:=c.b }:Cur) 100) with b:=c.b }:Cur) 4) with b:=c.b }:Cur)).Post,(zcQ ({ (zf ({ (zf ({ (zJ ({ (zJ ({ (zbe c) with b:=c.b }:Cur) 4 8) with b:=c.b }:Cur) 4 8) with b:=c.b }:Cur) 100) with b:=c.b }:Cur) 4) with b:=c.b }:Cur)).Open,(zcE (zce c)).Pending,(zcE (zce c)).Exit.Kind,(zcE (zce c)).Exit.Page,(zcE (zce c)).Exit.Write,(zcE (zce c)).Exit.N,(zdq ({ (zV ({ (zV ({ (zcs ({ (zf ({ (zf ({ (zJ ({ (zJ ({ (zbe c) with b:=c.b }:Cur) 4 8) with b:=c.b }:Cur) 4 8) with b:=c.b }:Cur) 100) with b:=c.b }:Cur) 4) with b:=c.b }:Cur)) with b:=c.b }:Cur) 3) with b:=c.b }:Cur) 4) with b:=c.b }:Cur) 12),c.b,[],[],[],[],(zcE (zce c)).Prog,(zdX ({ (zbe c) with b:=c.b }:Cur) 4 8),(zdX ({ (zJ ({ (zbe c) with b:=c.b }:Cur) 4 8) with b:=c.b }:Cur) 4 8),t.2.2.2,())):Nat->Int×Int×Int×LI->_)
   (fun rec t i k l=>⟨_,rfl,fun a _=>⟨⟨_,_,_⟩,_,rfl,⟨rfl,zI _ _⟩,⟨⟨d.1,zFt (q (zjJ _)),zFt (q (ziU _ _ _)),by unfold ln at a;dsimp only;omega⟩,by unfold ln at a;dsimp only;omega⟩⟩⟩)
def zbaU:zc3:=[(269,[false,true,true],zxi)]++zbaT
def zKp:zcd zbaU:=zcP zXr (by
 intro x a;simp only[qG,qO,or_false]at a;rcases a with rfl
 .exact zJP)
def zAj (N:Nat)(c:Cur)  : OA :=
 let e:=zck c;let B:=({ (zkt c) with b:=c.b}:Cur);let f:=zf B 14;let j:=zx B 14;let d:=({f with b:=c.b}:Cur);let g:=zhx d 4 8;let p:=zbg d [-1,12,13,9223372036854775807]; (oN (zmC c)<|oN (zD B 14)<|cond (ieq j 0) (oN (zkr d)<|some [.agg [.s .u8 c.b,.i .i64 (zks d).i,.i .i64 (zks d).h],aT .guest ({e with Prog:=(zqX d)}:Guest)])<|cond (ieq j 1) (oN (zbA d [-1,100])<|some [.agg [.s .u8 c.b,.i .i64 (zbg d [-1,100]).i,.i .i64 (zbg d [-1,100]).h],aT .guest ({e with A:=(zbs d [-1,100])}:Guest)])<|cond (ieq j 2) (oN (zbA d [-1,12,13,9223372036854775807])<|some [.agg [.s .u8 c.b,.i .i64 p.i,.i .i64 p.h],aT .guest ({e with Pc:=(zbs d [-1,12,13,9223372036854775807])}:Guest)])<|cond (ieq j 3) (oN (zgr d 4 8)<|some [.agg [.s .u8 c.b,.i .i64 g.i,.i .i64 g.h],aT .guest ({e with Live:=(zfI d 4 8)}:Guest)])<|cond (ieq j 4) (oN (zqZ d)<|some [.agg [.s .u8 c.b,.i .i64 (zq0 d).i,.i .i64 (zq0 d).h],aT .guest ({e with Ctl:=(zBj d)}:Guest)])<|cond (ieq j 5) (oN (zoe d)<|some [.agg [.s .u8 c.b,.i .i64 (zof d).i,.i .i64 (zof d).h],aT .guest ({e with Pending:=(zxK d)}:Guest)])<|cond (ieq j 6) (oN (zq1 d)<|some [.agg [.s .u8 c.b,.i .i64 (zq2 d).i,.i .i64 (zq2 d).h],aT .guest ({e with Exit:=(zBl d)}:Guest)])<|cond (ieq j 7) (iter (σ:=(Int×Int×Int×Int×Int×Int×Bool×Int×Int×Int×Bool×Int×Bool×Int×Int×Int×Int×Bool×Int×Int×Int×Bool×Int×Bool×LI×lI×lS×lS×LI×lI×lS×lS×LI×Unit)) N (λG a=>let y:=a.2.2.2.2.2.2.2.2.2.2.2.2.2.1;let x:=a.2.2.2.2.2.2.2.2.2.2.2.2.2.2.1;let w:=a.2.2.2.2.2.2.2.2.2.2.2.2.2.2.2.1;let v:=a.2.2.2.2.2.2.2.2.2.2.2.2.2.2.2.2.1;let u:=a.2.2.2.2.2.2.2.2.2.2.2.2.2.2.2.2.2.1;let t:=a.2.2.2.2.2.2.2.2.2.2.2.2.2.2.2.2.2.2.1;let r:=a.2.2.2.2.2.2.2.2.2.2.2.2.2.2.2.2.2.2.2.1;let q:=a.2.2.2.2.2.2.2.2.2.2.2.2.2.2.2.2.2.2.2.2.1;let n:=a.2.2.2.2.2.2.2.2.2.2.2.2.2.2.2.2.2.2.2.2.2.1;let m:=a.2.2.2.2.2.2.2.2.2.2.2.2.2.2.2.2.2.2.2.2.2.2.1;let l:=a.2.2.2.2.2.2.2.2.2.2.2.2.2.2.2.2.2.2.2.2.2.2.2.1;let F:=a.2.2.2.2.2.2.2.2.2.2.2.2.2.2.2.2.2.2.2.2.2.2.2.2.2.2.2.2.2.1;let E:=a.2.2.2.2.2.2.2.2.2.2.2.2.2.2.2.2.2.2.2.2.2.2.2.2.2.2.2.2.2.2.1;let D:=a.2.2.2.2.2.2.2.2.2.2.2.2.2.2.2.2.2.2.2.2.2.2.2.2.2.2.2.2.2.2.2.1;let C:=a.2.2.2.2.2.2.2.2.2.2.2.2.2.2.2.2.2.2.2.2.2.2.2.2.1;let z:=a.2.2.2.2.2.2.2.2.2.2.2.2.2.2.2.2.2.2.2.2.2.2.2.2.2.2.2.2.2.2.2.2.1;let k:=(⟨C,a.1,a.2.1⟩:Cur); (oN (zD k 3)<|cond (ilt (ln z)<|zM .i64 39<|zx k 3) (oN (few<|ln<|ap z [1])<|G ((zf k 3).i,(zf k 3).h,a.2.2.1,a.2.2.2.1,a.2.2.2.2.1,a.2.2.2.2.2.1,a.2.2.2.2.2.2.1,a.2.2.2.2.2.2.2.1,a.2.2.2.2.2.2.2.2.1,a.2.2.2.2.2.2.2.2.2.1,a.2.2.2.2.2.2.2.2.2.2.1,a.2.2.2.2.2.2.2.2.2.2.2.1,a.2.2.2.2.2.2.2.2.2.2.2.2.1,y,x,w,v,u,t,r,q,n,m,l,C,a.2.2.2.2.2.2.2.2.2.2.2.2.2.2.2.2.2.2.2.2.2.2.2.2.2.1,a.2.2.2.2.2.2.2.2.2.2.2.2.2.2.2.2.2.2.2.2.2.2.2.2.2.2.1,a.2.2.2.2.2.2.2.2.2.2.2.2.2.2.2.2.2.2.2.2.2.2.2.2.2.2.2.1,a.2.2.2.2.2.2.2.2.2.2.2.2.2.2.2.2.2.2.2.2.2.2.2.2.2.2.2.2.1,F,E,D,ap z [1],()))<|some [.agg [.s .u8 C,.i .i64 (zf k 3).i,.i .i64 (zf k 3).h],aT .guest (⟨F,y,x,E,D,⟨w,v,u⟩,t,⟨r,q,n,m⟩,l,z⟩:Guest)])) (f.i,f.h,0,0,0,0,false,0,0,0,false,0,false,e.A,e.Pc,e.Ctl.Traps,e.Ctl.Post,e.Ctl.Open,e.Pending,e.Exit.Kind,e.Exit.Page,e.Exit.Write,e.Exit.N,e.Halted,c.b,[],[],[],[],e.Prog,e.Written,e.Live,e.Seen,()))<|cond (ieq j 8) (oN (zgr d 4 8)<|some [.agg [.s .u8 c.b,.i .i64 g.i,.i .i64 g.h],aT .guest ({e with Written:=(zfI d 4 8)}:Guest)])<|some [.agg [.s .u8 c.b,.i .i64 f.i,.i .i64 f.h],aT .guest e])
def zYz:=zq [(191,1,{n:=65,tm:=[(0,.lp 0 0),(2,.lp 1 0),(3,.lp 2 0)],lo:=[(0,[.sl 0 [],ti,ti]),(1,[.sl 1 [],ti,ti,.sl 2 [],.sl 3 [],ti,ti,.b,ti,ti,ti,.b,ti,.b,.sl 4 []]),(2,[.sl 5 [],ti,ti,.sl 6 [],.sl 7 [],ti,ti,.b,ti,ti,ti,.b,ti,.b,.sl 8 []])],ro:=[(0,.u8,false),(1,.ins,true),(2,.slot,true),(3,.slot,true),(4,.int,true),(5,.ins,true),(6,.slot,true),(7,.slot,true),(8,.int,true)]})]
def zsN (c:Cur)(s:Cur)(a:Guest):Prop:=(∃N,zAj N c=some (AV.agg (zb4 s)::[aT .guest a]))/\(s.b=c.b/\0<=s.i)/\(GuS a)
def zq5 (c:Cur)  : Bool:=wC (zsN c)
def zq6 (c:Cur)  : Cur:=wS (zsN c)
def zBm (c:Cur)  : Guest:=wV (zsN c)
def zN1 {c:Cur}(h:zq5 c=true):zsN c (zq6 c) (zBm c):=wG h
def z3m (c:Cur)  : 0<=(zq6 c).i:=wP λh=>h.2.1.2
def z3l (c:Cur)(h:∃N,Ends (wE (λa=>aT .guest a) c.b λa=>GuS a)<|zAj N c):zq5 c=true:=wI (λ_ _ h=>h) h
def zCa:zek:=rP0 λc=>(zq5 c,zq6 c,[aT .guest<|zBm c])
def zPZ:zbW Tryz.prog 191 [false,true,true] zCa:=hP0 zIV zU zKp zn zYz (λ_ h=>(zN1 h).1)
def zLH {c:Cur}(h:zbi c):zq5 c=true:=by
 refine z3l c ⟨1002,?_⟩;unfold zAj oN;conv=>zeta
 have q:∀{s:Cur},0<=s.i->zbi {s with b:=c.b}:=λr=>zbS h r;have a:zbi {zf {zkt c with b:=c.b} 14 with b:=c.b}:=q (zI _ _);obtain⟨⟨d,e,f,g⟩,w⟩:=(zFi<|zVJ h).2.2;have p:(zfI {zf {zkt c with b:=c.b} 14 with b:=c.b} 4 8).length<=4:=by have:=((zqP<|zpy a (n:=4) (by omega) (by omega) 8).2.2 (by omega) (by omega)).1;unfold ln at this;omega
 have j:=(zz4<|zR1 a).2.2;refine zC (zVJ h) (zC (zbF (q<|zXP _) _) (zbJ (λ_=>zC (zR1 a) (zbP (aT .guest) (v:={zck c with Prog:=zqX _}) (zQ5 _) ⟨j,e,f,g⟩))
  (λ_=>zbJ (λ_=>zC (zfv a (by simp)) (zbP (aT .guest) (v:={zck c with A:=zbs _ _}) (zb6 _ _) ⟨d,e,f,g⟩))
  (λ_=>zbJ (λ_=>zC (zfv a (by simp)) (zbP (aT .guest) (v:={zck c with Pc:=zbs _ _}) (zb6 _ _) ⟨d,e,f,g⟩))
  (λ_=>zbJ (λ_=>zC (zpy a (by omega) (by omega) _) (zbP (aT .guest) (v:={zck c with Live:=zfI _ _ _}) (zqQ _ _ _) ⟨d,e,p,g⟩))
  (λ_=>zbJ (λ_=>zC (z6P a) (zbP (aT .guest) (v:={zck c with Ctl:=zBj _}) (z3f _) ⟨d,e,f,g⟩))
  (λ_=>zbJ (λ_=>zC (zbdq a) (zbP (aT .guest) (v:={zck c with Pending:=zxK _}) (zZU _) ⟨d,e,f,g⟩))
  (λ_=>zbJ (λ_=>zC (z3R a) (zbP (aT .guest) (v:={zck c with Exit:=zBl _}) (z3k _) ⟨d,e,f,g⟩))
  (λ_=>zbJ (λ_=>?_)
  (λ_=>zbJ (λ_=>zC (zpy a (by omega) (by omega) _) (zbP (aT .guest) (v:={zck c with Written:=zfI _ _ _}) (zqQ _ _ _) ⟨d,p,f,g⟩))
  (λ_=>zbP (aT .guest) (v:=zck c) (zI _ _) ⟨d,e,f,g⟩)))))))))))
 exact zbc6 h (zI _ _) (m:=39) (q:=3) (x:=1) (by omega) (by omega) (by omega) (l0:=(zck c).Seen) (by unfold ln;omega) ((λ_ t=>(t.1,t.2.1,0,0,0,0,false,0,0,0,false,0,false,(zck c).A,(zck c).Pc,(zck c).Ctl.Traps,(zck c).Ctl.Post,(zck c).Ctl.Open,(zck c).Pending,(zck c).Exit.Kind,(zck c).Exit.Page,(zck c).Exit.Write,(zck c).Exit.N,(zck c).Halted,c.b,[],[],[],[],(zck c).Prog,(zck c).Written,(zck c).Live,t.2.2,())):Nat->Int×Int×LI->_)
  (λrec i k l=>⟨_,rfl,λu=>⟨⟨_,_,_⟩,_,rfl,⟨rfl,zI _ _⟩,⟨d,e,f,by unfold ln at u;dsimp only;omega⟩⟩⟩)
def zbcc (b:List Entry)(e:Entry)(h:b.length<=1048576):(zp3 b e).length<=6:=by have c:=(zvT e h).2;unfold zp3;generalize ap (zcY b e.Tag e.Page) [e]=l at c;cases a:igt (ln l) 6 with|false=>have:¬ ln l>6:=jP a;rw[cF];unfold ln at this;omega|true=>rw[cT,zr4 (by unfold ln;omega) (by unfold ln;omega)];have:ln l>6:=qD a;simp only[dp,vJ];unfold ln at *;omega
def ztF (N:Nat)(c:Cur)  : OA :=
 (iter (σ:=(Int×Int×Int×lE×LI×Unit)) N (λl d=>let e:=d.2.2.2.2.1;let j:=(⟨e,d.2.1,d.2.2.1⟩:Cur);let a:=({ (zf j 9) with b:=e}:Cur);let g:=({ (zV a 8) with b:=e}:Cur);let f:=({ (zhr g) with b:=e}:Cur);let k:=ap d.2.2.2.1 [znu g,znu f]; (oN (zD j 9)<|cond (ilt d.1<|zx j 9) (oN (ziV a)<|oN (zho d.2.2.2.1<|znu a)<|l (zM .i64 d.1 1,(zhr a).i,(zhr a).h,zg6 d.2.2.2.1<|znu a,e,()))<|oN (zde a 8)<|cond (zdq a 8) (oN (ziV g)<|oN (ziV f)<|oN (few<|ln k)<|some [.agg [.s .u8 e,.i .i64 (zhr f).i,.i .i64 (zhr f).h],aS .entry k])<|some [.agg [.s .u8 e,.i .i64 (zV a 8).i,.i .i64 (zV a 8).h],aS .entry d.2.2.2.1])) (0,c.i,c.h,[],c.b,()))
def zOD:=zq [(192,0,{n:=26,tm:=[(0,.lp 0 0),(3,.sl 0 []),(4,ti)],lo:=[(0,[.sl 1 [],ti,ti])],ro:=[(0,.entry,true),(1,.u8,false)]})]
def znt (c:Cur)(s:Cur)(a:List Entry):Prop:=(∃N,ztF N c=some (AV.agg (zb4 s)::[aS .entry a]))/\(s.b=c.b/\0<=s.i)/\(a.length<=8)
def zlq (c:Cur)  : Bool:=wC (znt c)
def zlr (c:Cur)  : Cur:=wS (znt c)
def zsH (c:Cur)  : List Entry:=wV (znt c)
def zCE {c:Cur}(h:zlq c=true):znt c (zlr c) (zsH c):=wG h
def zUp (c:Cur)  : 0<=(zlr c).i:=wP λh=>h.2.1.2
def zUo (c:Cur)(h:∃N,Ends (wE (λa=>aS .entry a) c.b λa=>a.length<=8)<|ztF N c):zlq c=true:=wI (λ_ _ h=>h) h
def zvR:zek:=rP0 λc=>(zlq c,zlr c,[aS .entry<|zsH c])
def zGF:zbW Tryz.prog 192 [false,true,true] zvR:=hP0 zIV zU zKp zn zOD (λ_ h=>(zCE h).1)
def zVh {c:Cur}(h:zbi c):zlq c=true:=by
 refine zUo c ⟨1002,?_⟩;unfold ztF oN;conv=>zeta
 refine zl6 (λn s=>∃t i k l,s=(((λ_ t=>(t.1,t.2.1,t.2.2.1,t.2.2.2,c.b,())):Nat->Int×Int×Int×List Entry->_) 0 (t,i,k,l))/\t+(n:Int)=10/\0<=t/\0<=i/\l.length<=6) ?_ 1002 10 _ ⟨0,c.i,c.h,[],rfl,rfl,kS 0,h.1,by simp⟩ (by omega);rintro n s rec ⟨t,i,k,l,rfl,p,g,j,r⟩ d;dsimp only;have a:zbi ⟨c.b,i,k⟩:=zbS h j;have v:=zgg a (n:=9) (by omega);have q:∀{s:Cur},0<=s.i->zbi {s with b:=c.b}:=λf=>zbS h f;refine zC (zbF a 9) (zbJ (λe=>?_) λe=>?_);{have m:t<zx ⟨c.b,i,k⟩ 9:=qD e;have u:=ziu (y:=1) g (by omega) (by omega) (by omega);exact zC (zOT<|q<|zI _ _) (zC (zbd (by omega))<|d (n-1) _ (by omega) ⟨zM .i64 t 1,_,_,_,rfl,by omega,by omega,zwh _,zbcc _ _ (by omega)⟩)};{refine zC (zkj (q<|zI _ _) 8) (zbJ (λ_=>zC (zOT<|q<|zcw _ _) (zC (zOT<|q<|zwh _)<|zC (zlf ?_)<|zbP (aS .entry) (zwh _) ?_)) λ_=>zbP (aS .entry) (zcw _ _) (by omega));{simp only [ln,ap,kC,qV,uI];omega};{simp only [ap,kC,qV,uI];omega}}
def zbaV:zc3:=[(191,[false,true,true],zCa),(192,[false,true,true],zvR)]++zbaU
def zXs:zcd zbaV:=zcP zKp (by
 intro x a;simp only[qG,qO,or_false]at a;rcases a with rfl|rfl
 .exact zPZ
 .exact zGF)
def zLI (b:Bare)(a:GAct):Bare:=bif ieq a.Kind 1 then zeG b a.G else (cond (ieq a.Kind 2) (chg b a.G (zyu a.X ⟨a.Y,a.Z⟩)<|zFm (gAt b a.G) a.X ⟨a.Y,a.Z⟩)<|cond (ieq a.Kind 3) (chg b a.G (hasB a.X 4)<|zet (gAt b a.G) a.X)<|cond (ieq a.Kind 4) (chg b a.G (zx3 (gAt b a.G) a.X)<|zAo (gAt b a.G) a.X)<|cond (ieq a.Kind 5) (chg b a.G (zE1<|gAt b a.G)<|zBe<|gAt b a.G)<|cond (ieq a.Kind 6) (chg b a.G (ziI (gAt b a.G).Pending a.X)<|zpN (gAt b a.G) a.X)<|cond (ieq a.Kind 7) (chg b a.G (zmV ⟨a.X,a.Y,ieq a.Z 1⟩)<|zOP (gAt b a.G) ⟨a.X,a.Y,ieq a.Z 1⟩)<|cond (ieq a.Kind 8) (zUQ b a.X a.Y a.Z)<|cond (ieq a.Kind 9) (zlQ b a.X)<|cond (ieq a.Kind 10) (zoG b)<|cond (ieq a.Kind 11) (z1Y b a.G a.X a.Y)<|b)
def zLJ (b:Bare)(a:GAct):Told:=bif ieq a.Kind 1 then ⟨zfN b a.G,0⟩ else (cond (ieq a.Kind 2) ⟨zcu b a.G<|zyu a.X ⟨a.Y,a.Z⟩,0⟩<|cond (ieq a.Kind 3) ⟨zcu b a.G<|hasB a.X 4,0⟩<|cond (ieq a.Kind 4) ⟨zcu b a.G<|zx3 (gAt b a.G) a.X,0⟩<|cond (ieq a.Kind 5) ⟨zcu b a.G<|zE1<|gAt b a.G,0⟩<|cond (ieq a.Kind 6) ⟨zcu b a.G<|ziI (gAt b a.G).Pending a.X,0⟩<|cond (ieq a.Kind 7) ⟨zcu b a.G<|zmV ⟨a.X,a.Y,ieq a.Z 1⟩,0⟩<|cond (ieq a.Kind 8) ⟨zzt b a.X a.Y a.Z,0⟩<|cond (ieq a.Kind 9) ⟨zgw b a.X,0⟩<|cond (ieq a.Kind 10) ⟨zok b,zvf b⟩<|cond (ieq a.Kind 11) ⟨zAC b a.G a.X a.Y,0⟩<|⟨zpF b a.G a.X 1,zUU b a.G a.X⟩)
def zLK (l:List Bare)(a:GAct):List Bare:=bif zk a.Kind 1 17 then (cond (zk a.Kind 13 17) l<|cond (hasB a.M<|ln l) (up l a.M<|zLI (ix l a.M zYJ) a) l) else l
def z1x (l:List Bare)(a:GAct):Told:=bif zk a.Kind 1 17 then (cond (zk a.Kind 13 17) ⟨false,0⟩<|cond (hasB a.M<|ln l) (zLJ (ix l a.M zYJ) a)<|cond (ieq a.Kind 10) ⟨false,-1⟩ ⟨false,0⟩) else ⟨false,0⟩
def zG {i n:Int}:hasB i n=true↔0<=i/\i<n:=by unfold hasB;exact decide_eq_true_iff
def zc2 {x a b:Int}:zk x a b=true↔a<=x/\x<=b:=by simp[zk,ige,ile]
def zbB {x y:Int}:ieq x y=true↔x=y:=by simp[ieq]
def zFX {x y:Int}:ine x y=true↔x≠y:=by simp[ine]
def zb9 {x y:Int}:ieq x y=false↔x≠y:=by simp[ieq]
def zb7 {a b:Bool}:(cond a b false)=true↔a=true/\b=true:=by cases a<;>simp
def zbV {a:Type}(l:List a)(i:Int)(x:a):(up l i x).length=l.length:=by simp[up]
def zem {a:Type}(l:List a)(i:Int)(x:a):ln (up l i x)=ln l:=by simp[up,ln]
def zw6 {a:Type}{l:List a}{i:Int}(h:hasB i (ln l)=true)(d:a):∃k:Nat,∃b:k<l.length,i=(k:Int)/\ix l i d=l[k]:=by rw[zG]at h;unfold ln at h;refine⟨i.toNat,by omega,by omega,?_⟩;simp[ix,List.getD,qB (show i.toNat<l.length by omega)]
def zmd {a:Type}{l:List a}{k:Nat}(h:k<l.length)(d:a):ix l (k:Int) d=l[k]:=by simp[ix,List.getD,qB h]
def zlO {a:Type}{l:List a}{i:Int}(h:hasB i (ln l)=true)(d:a):ix l i d∈l:=by obtain⟨k,b,_,e⟩:=zw6 h d;rw[e];exact jG b
def zER {a:Type}{l:List a}{x:a}(h:x∈l)(d:a):∃i,hasB i (ln l)=true/\ix l i d=x:=by obtain⟨k,b,e⟩:=List.mem_iff_getElem.1 h;exact⟨(k:Int),zG.2 (by unfold ln;omega),(zmd b d).trans e⟩
def zbm {a:Type}{l:List a}{i:Int}(h:hasB i (ln l)=true)(x d:a):ix (up l i x) i d=x:=by rw[zG]at h;unfold ln at h;simp[ix,up,List.getD,show i.toNat<l.length by omega]
def zbD {a:Type}{l:List a}{i j:Int}(b:0<=i)(c:0<=j)(h:i≠j)(x d:a):ix (up l i x) j d=ix l j d:=by have:i.toNat≠j.toNat:=(by omega);simp[ix,up,List.getD,q9,this]
def z6G {a:Type}(l:List a)(i:Int)(x y:a):up (up l i x) i y=up l i y:=by simp[up]
def zQQ {a:Type}{l m:List a}(d:a)(h:l.length=m.length)(e:∀i,hasB i (ln l)=true->ix l i d=ix m i d):l=m:=by refine List.ext_getElem h λk b c=>?_;have:=e (k:Int) (zG.2 (by unfold ln;omega));rwa [zmd b,zmd c] at this
def zKN {a:Type}{l:List a}{i:Int}(h:hasB i (ln l)=true)(d:a):up l i (ix l i d)=l:=by obtain⟨k,b,rfl,e⟩:=zw6 h d;rw[e];simp[up]
def cPg (x:Mon)(q:Int):Nat:=x.Outer.countP λs=>ieq s.Page q
def zf0 (l:List Mon)(q:Int):Nat:=(l.map λx=>cPg x q).sum
def zR7 {a:Type}(P:a->Bool){l:List a}{i:Int}(h:hasB i (ln l)=true)(x d:a):(up l i x).countP P+(if P (ix l i d) then 1 else 0)=l.countP P+(if P x then 1 else 0):=by
 obtain⟨k,b,rfl,e⟩:=zw6 h d;rw[e];simp only[up,kF,List.countP_set b];have:(if P l[k]=true then 1 else 0)<=l.countP P:=by
  split
  .rename_i hp;exact List.countP_pos_iff.2 ⟨l[k],jG b,hp⟩
  .omega
 omega
def zz7 {l:List Mon}{m:Int}(h:hasB m (ln l)=true)(x:Mon)(q:Int):zf0 (up l m x) q+cPg (ix l m mZ) q=zf0 l q+cPg x q:=by obtain⟨k,a,rfl,e⟩:=zw6 h mZ;rw[e];clear h e;unfold up;simp only[kF];induction l generalizing k with|nil=>simp at a|cons y l b=>(cases k with|zero=>simp[zf0];omega|succ k=>have:=b k (by simpa using a);simp[zf0] at this ⊢;omega)
def zIN {l:List Mon}{m p:Int}(a:hasB m (ln l)=true)(b:hasB p (ln (ix l m mZ).Outer)=true):1<=zf0 l (ix (ix l m mZ).Outer p sZ).Page:=by have d:1<=cPg (ix l m mZ) (ix (ix l m mZ).Outer p sZ).Page:=List.countP_pos_iff.2 ⟨_,zlO b sZ,by simp[ieq]⟩;have:=zz7 a (⟨[],[],[],[],[],0,0,[],0⟩:Mon) (ix (ix l m mZ).Outer p sZ).Page;have c:cPg (⟨[],[],[],[],[],0,0,[],0⟩:Mon) (ix (ix l m mZ).Outer p sZ).Page=0:=rfl;omega
def z6W {l:List Mon}{m p n k:Int}{q:Int}(b:hasB m (ln l)=true)(v:hasB p (ln (ix l m mZ).Outer)=true)(u:hasB n (ln l)=true)(f:hasB k (ln (ix l n mZ).Outer)=true)(z:(ix (ix l m mZ).Outer p sZ).Page=q)(t:(ix (ix l n mZ).Outer k sZ).Page=q)(h:zf0 l q<=1):m=n/\p=k:=by have c:=zG.1 b;have d:=zG.1 u;have i:=zG.1 v;have g:=zG.1 f;have B:¬ ieq q (q+1)=true:=(by simp[ieq];omega);obtain⟨y,r⟩:∃y:Mon,y.Outer=up (ix l m mZ).Outer p ⟨q+1,0⟩:=⟨{ix l m mZ with Outer:=up (ix l m mZ).Outer p ⟨q+1,0⟩},rfl⟩;have x:=zR7 (λs=>ieq s.Page q) v (⟨q+1,0⟩:Slot) sZ;simp only[z,show ieq q q=true by simp[ieq],show ieq (q+1) q=false by simp[ieq];omega,if_true,kD,if_false] at x;have C:=zz7 b y q;simp only[cPg,r] at C;have D:zf0 (up l m y) q=0:=(by omega);apply Classical.byContradiction;intro A;have w:1<=zf0 (up l m y) q:=(by by_cases a:m=n;{subst a;have j:p≠k:=λe=>A ⟨rfl,e⟩;have:=zIN (l:=up l m y) (m:=m) (p:=k) (by rw[zem];exact b) (by rw[zbm b,r,zem];exact f);rw[zbm b,r,zbD i.1 g.1 j,t] at this;exact this};{have:=zIN (l:=up l m y) (m:=n) (p:=k) (by rw[zem];exact u) (by rw[zbD c.1 d.1 a];exact f);rw[zbD c.1 d.1 a,t] at this;exact this});omega
def zvh {a b c:Bool}:(cond a b c)=true↔(a=true/\b=true)\/(a=false/\c=true):=by cases a<;>simp
def SOk (s:Slot):Prop:=s=noSlot\/(0<=s.Page/\s.Page<=11/\1<=s.Rights/\s.Rights<=3)
def zXX {a b:Slot}(c:a.Page=b.Page)(d:a.Rights=b.Rights):a=b:=by cases a;cases b;simp_all
def zla {a b:Slot}:zc1 a b=true↔a=b:=by simp only[zc1,qE,zbB];exact⟨λh=>zXX h.1 h.2,λh=>by rw[h];exact⟨rfl,rfl⟩⟩
def ztw {a b:Slot}:zc1 a b=false↔a≠b:=by rw[<- Bool.not_eq_true,zla]
def z00 {s:Slot}:zen s 12=true↔SOk s:=by unfold zen SOk;rw[zvh,zla,ztw];have:wsub .i64 12 1=11:=(by decide);simp only[this,zvh,zc2];simp[igt];constructor;{rintro (h|⟨h,⟨a,b⟩,c⟩);{exact .inl h};{exact .inr ⟨a,b,c⟩}};{intro h;by_cases d:s=noSlot;{exact .inl d};{rcases h with h|⟨a,b,c⟩;{exact .inl h};{exact .inr ⟨d,⟨a,b⟩,c⟩}}}
def SOk.none {s:Slot}(h:SOk s)(a:s.Page = -1):s=noSlot:=by rcases h with h|h;{exact h};{omega}
def SOk.pos {s:Slot}(h:SOk s)(a:s.Page≠-1):0<=s.Page/\s.Page<=11/\1<=s.Rights/\s.Rights<=3:=by rcases h with h|h;{rw [h]at a;exact absurd rfl a};{exact h}
structure MOk (x:Mon):Prop where
 g1:1<=x.Guests.length
 g2:x.Guests.length<=2
 gt:x.Tables.length=x.Guests.length
 o8:x.Outer.length=8
 sl:∀s∈x.Outer,SOk s
 u8:x.Out.length=8
 d8:x.Dirty.length=8
 outs:x.Outs.length<=40
 pend:zdU x.Pending=true
 tr:zk x.Traps 0 3=true
 own:zk x.Own 0 1000000000=true
 gs:∀g∈x.Guests,zd4 g=true
 fit:∀p,hasB p 8=true->zm8 (ix x.Outer p sZ) (ix x.Out p [])=true
def zIJ {P:Nat->Bool}:∀{n i:Nat},znC P n i=true↔∀j,i<=j->j<i+n->P j=true
 | 0,i=>by simp[znC];intro j a b;omega
 |n+1,i=>by rw[znC,qE,zIJ];constructor;{rintro⟨a,b⟩ j c d;by_cases e:j=i;{rw [e];exact a};{exact b j (by omega) (by omega)}};{intro h;exact⟨h i (by omega) (by omega),λj a b=>h j (by omega) (by omega)⟩}
def zsW {t:List Slot}{n p:Int}:zdj t n p=true↔(∀s∈t,zen s p=true)/\ln t=n:=by unfold zdj;rw[zb7,qM,zbB]
def zbbY {x:Mon}:zeq x=true↔MOk x:=by unfold zeq;simp only[zb7,zc2,zbB,zsW,zIJ,qM,ile,q0];constructor;{rintro⟨⟨g,i⟩,m,⟨k,l⟩,n,q,r,e,a,b,c,d⟩;unfold ln at *;refine⟨by omega,by omega,by omega,by omega,λs f=>z00.1 (k s f),by omega,by omega,by omega,e,zc2.2 a,zc2.2 b,c,λp t=>?_⟩;have u:=zG.1 t;have:=d p.toNat (by omega) (by omega);unfold fits at this;rwa [show ((p.toNat:Nat):Int)=p by omega] at this};{intro h;obtain⟨g,i,m,k,l,n,q,r,e,a,b,c,d⟩:=h;unfold ln;exact⟨⟨by omega,by omega⟩,by omega,⟨λs f=>z00.2 (l s f),by omega⟩,by omega,by omega,by omega,e,zc2.1 a,zc2.1 b,c,λj g i=>d (j:Int) (zG.2 (by omega))⟩}
def zAt (o:List Slot)(s:Slot)(q:Int):(s::o).countP (λs=>ieq s.Page q)=o.countP (λs=>ieq s.Page q)+if s.Page=q then 1 else 0:=by rw[vF];simp[ieq]
def zBu:∀{o:List Slot} {u:List Bool},(∀s∈o,s.Page<u.length)->
 (∀c,zht o u=some c↔(∀q,0<=q->o.countP (λs=>ieq s.Page q)+(if ix u q false then 1 else 0)<=1)/\
  c=(o.foldl (λu s=>bif ilt s.Page 0 then u else up u s.Page true) u))
 |[],u,h,c=>by simp[zht];exact⟨λh=>⟨λq _=>by split<;>omega,h.symm⟩,λh=>h.2.symm⟩
 |s::o,u,h,c=>by
  unfold zht;by_cases g:s.Page<0;{have b:ilt s.Page 0=true:=qI g;rw[b,cond_true,zBu λy d=>h y (qY _ d)];simp only[uJ,b,cond_true];refine and_congr (forall_congr' λq=>forall_congr' λf=>?_) Iff.rfl;have e:(if s.Page=q then 1 else 0)=0:=if_neg (by omega);rw[zAt,e,jY]};{have b:ilt s.Page 0=false:=qJ g;have k:=h s jA;have j:hasB s.Page (ln u)=true:=zG.2 ⟨by omega,by unfold ln;omega⟩;rw[b,cond_false];cases i:ix u s.Page false with|true=>rw[cond_true];constructor;{intro h;cases h};{rintro⟨h,_⟩;have:=h s.Page (by omega);rw[zAt,if_pos rfl,i] at this;simp at this}|false=>rw[cond_false,zBu (λy d=>by rw[zbV];exact h y (qY _ d))];simp only[uJ,b,cond_false];refine and_congr (forall_congr' λq=>forall_congr' λf=>?_) Iff.rfl;rw[zAt];by_cases a:s.Page=q;{subst a;rw[zbm j,i];simp};{rw [zbD (by omega) f a,if_neg a,jY]}}
def zKO:∀(o:List Slot) (u:List Bool),(o.foldl (λu s=>bif ilt s.Page 0 then u else up u s.Page true) u).length=u.length
 |[],u=>rfl
 |s::o,u=>by rw[uJ,zKO];cases ilt s.Page 0<;>simp [zbV]
def zRu:∀(o:List Slot) (u:List Bool) (q:Int),0<=q->(∀s∈o,s.Page<u.length)->(ix (o.foldl (λu s=>bif ilt s.Page 0 then u else up u s.Page true) u) q false=true↔ix u q false=true\/1<=o.countP λs=>ieq s.Page q)
 |[],u,q,b,h=>by simp
 |s::o,u,q,b,h=>by
  rw[uJ,zRu _ _ q b (λy f=>by have:=h y (qY _ f);cases ilt s.Page 0<;>simpa [zbV] using this),zAt];by_cases c:s.Page<0;{rw [show ilt s.Page 0=true from qI c,cond_true,if_neg (by omega),jY]};{rw [show ilt s.Page 0=false from qJ c,cond_false];have e:=h s jA;have d:hasB s.Page (ln u)=true:=zG.2 ⟨by omega,by unfold ln;omega⟩;by_cases a:s.Page=q;{subst a;rw[zbm d];simp};{rw [zbD (by omega) b a,if_neg a,jY]}}
def zAR:∀{l:List Mon} {u:List Bool},u.length=12->(ziA l u=true↔(∀x∈l,MOk x)/\∀q,0<=q->zf0 l q+(if l≠[]/\ix u q false then 1 else 0)<=1)
 |[],u,c=>by simp[ziA,zf0]
 |x::l,u,c=>by
  unfold ziA;rw[zb7,zbbY];constructor;{rintro⟨f,b⟩;have k:∀s∈x.Outer,s.Page<u.length:=λs n=>(by rcases f.sl s n with h|h;{rw [h,c];decide};{rw [c];omega});split at b;{rename_i B d;obtain⟨g,rfl⟩:=(zBu k B).1 d;rw[zAR (by rw[zKO,c])]at b;obtain⟨v,w⟩:=b;refine⟨by simpa using ⟨f,v⟩,λq a=>?_⟩;have z:=g q a;have i:=w q a;have m:=zRu x.Outer u q a k;simp only[zf0,jB,uH]at i ⊢;unfold cPg at i ⊢;simp only[ne_eq,reduceCtorEq,not_false_eq_true,true_and];by_cases r:l=[];{subst r;simpa using z};{simp only [r,ne_eq,not_false_eq_true,true_and]at i;by_cases j:ix (x.Outer.foldl (λu s=>bif ilt s.Page 0 then u else up u s.Page true) u) q false=true;{rw [if_pos j]at i;omega};{rw [if_neg j]at i;have p:¬ (ix u q false=true\/1<=x.Outer.countP λs=>ieq s.Page q):=λe=>j (m.2 e);rw[not_or]at p;rw[if_neg p.1];omega}}};{cases b}}
  .rintro⟨f,b⟩;have t:MOk x:=f x jA;refine⟨t,?_⟩;have k:∀s∈x.Outer,s.Page<u.length:=λs n=>by rcases t.sl s n with h|h;{rw [h,c];decide};{rw [c];omega}
   have d:=(zBu k _).2 ⟨λq a=>by
    have:=b q a;simp only[zf0,jB,uH,ne_eq,reduceCtorEq,not_false_eq_true,true_and] at this;unfold cPg at this;omega,rfl⟩
   rw[d];simp only;rw[zAR (by rw[zKO,c])];refine⟨λy A=>f y (qY _ A),λq a=>?_⟩;have g:=b q a;have m:=zRu x.Outer u q a k;simp only[zf0,jB,uH,ne_eq,reduceCtorEq,not_false_eq_true,true_and]at g ⊢;unfold cPg at g ⊢;split;{rename_i j;rcases m.1 j.2 with h|h;{rw [if_pos h]at g;omega};{omega}};{omega}
structure HOk (h:Host):Prop where
 m12:h.Memory.length=12
 pgs:∀c∈h.Memory,zcI c=true
 n1:1<=h.Mons.length
 n3:h.Mons.length<=3
 b1:zgh h.Buffer=true
 b2:zgh h.IoBuffer=true
 mons:∀x∈h.Mons,MOk x
 uq:∀q,0<=q->zf0 h.Mons q<=1
def zj5 {h:Host}:zb2 h=true↔HOk h:=by unfold zb2 zjl;simp only[zb7,zc2,zbB,qM];rw[zAR (by simp[rp])];have g:∀q,ix (rp 12 false) q false=false:=λq=>(by unfold ix rp;rw[j9,kE];split<;>rfl);simp only[g,kD,and_false,if_false,jY];unfold ln;constructor;{rintro⟨⟨e,f⟩,⟨i,j⟩,a,b,c,d⟩;exact⟨by omega,e,by omega,by omega,a,b,c,d⟩};{rintro⟨e,f,i,j,a,b,c,d⟩;exact⟨⟨f,by omega⟩,⟨by omega,by omega⟩,a,b,c,d⟩}
def HOk.mon {h:Host}(H:HOk h){m:Int}(a:hasB m (ln h.Mons)=true):MOk (ix h.Mons m mZ):=H.mons _ (zlO a _)
def MOk.hasO {x:Mon}(H:MOk x){p:Int}(a:hasB p 8=true):hasB p (ln x.Outer)=true:=by rw[ln,H.o8];exact a
def MOk.hasU {x:Mon}(H:MOk x){p:Int}(a:hasB p 8=true):hasB p (ln x.Out)=true:=by rw[ln,H.u8];exact a
def MOk.hasD {x:Mon}(H:MOk x){p:Int}(a:hasB p 8=true):hasB p (ln x.Dirty)=true:=by rw[ln,H.d8];exact a
def MOk.slot {x:Mon}(H:MOk x){p:Int}(a:hasB p 8=true):SOk (ix x.Outer p sZ):=H.sl _ (zlO (H.hasO a) _)
def HOk.uniq {h:Host}(H:HOk h){m p n k q:Int}(a:hasB m (ln h.Mons)=true)(f:hasB p 8=true)(b:hasB n (ln h.Mons)=true)(e:hasB k 8=true)(c:(ix (ix h.Mons m mZ).Outer p sZ).Page=q)(d:(ix (ix h.Mons n mZ).Outer k sZ).Page=q)(g:0<=q):m=n/\p=k :=
 z6W a ((H.mon a).hasO f) b ((H.mon b).hasO e) c d (H.uq q g)
def HOk.up {h:Host}(H:HOk h){m:Int}(k:hasB m (ln h.Mons)=true){x:Mon}(l:MOk x){a:Host}(e:a.Mons=up h.Mons m x)(d:a.Memory.length=12)(f:∀c∈a.Memory,zcI c=true)(i:zgh a.Buffer=true)(j:zgh a.IoBuffer=true)(n:∀q,0<=q->cPg x q<=cPg (ix h.Mons m mZ) q\/zf0 h.Mons q=0/\cPg x q<=1):HOk a:=by refine⟨d,f,by rw[e,zbV];exact H.n1,by rw[e,zbV];exact H.n3,i,j,λy b=>?_,λq g=>?_⟩;{rw [e]at b;unfold E.up at b;rcases qX b with h|h;{exact H.mons y h};{rw [h];exact l}};{rw [e];have p:=zz7 k x q;have r:=H.uq q g;have s:=n q g;omega}
structure KOk (k:Kept) (inner outer:List Slot):Prop where
 l1:k.Known.length=inner.length
 l2:k.Slots.length=inner.length
 at':∀i,hasB i (ln inner)=true->ix k.Slots i sZ=bif ix k.Known i false then zbx (ix inner i sZ) outer else noSlot
def zbbW {k:Kept}{d e:List Slot}:zpP k d e=true↔KOk k d e:=by unfold zpP;have f:∀{a b:Int} {c:Bool},(cond (ine a b) false c)=true↔a=b/\c=true:=(by intro a b c;by_cases h:a=b;{simp [ine,h]};{simp [ine,h]});rw[f,f,zIJ];unfold ln zrB;constructor;{rintro⟨m,n,g⟩;refine⟨by omega,by omega,λi p=>?_⟩;have l:=zG.1 p;unfold ln at l;have:=zla.1 (g i.toNat (by omega) (by omega));rwa [show ((i.toNat:Nat):Int)=i by omega] at this};{rintro⟨m,n,g⟩;exact⟨by omega,by omega,λj q r=>zla.2 (g _<|zG.2 (by unfold ln;omega))⟩}
def TOk (x:Mon):Prop:=∀g,hasB g (ln x.Guests)=true->KOk (ix x.Tables g kZ) (ix x.Guests g gZ).Live x.Outer
def zFv {o:List Slot}{b:List Kept}:∀{l:List Guest} {i:Nat},b.length=i+l.length->(zo6 o b l i=true↔∀j:Nat,(a:j<l.length)->KOk (ix b ((i+j:Nat):Int) kZ) l[j].Live o)
 |[],i,h=>by simp[zo6]
 |g::l,i,h=>by
  simp only[qV]at h;unfold zo6;rw[show ilt (i:Int) (ln b)=true from qI (by unfold ln;omega),cond_true,zb7,zbbW,zFv (by omega)];constructor;{rintro⟨d,e⟩ j a;cases j with|zero=>exact d|succ j=>have:=e j (by simpa using a);rw[show i+1+j=i+(j+1) by omega] at this;simpa using this};{intro c;refine⟨c 0 (by simp),λj a=>?_⟩;have:=c (j+1) (by simpa using a);rw[show i+(j+1)=i+1+j by omega] at this;simpa using this}
def zbcu {x:Mon}(h:x.Tables.length=x.Guests.length):tablesOf x=true↔TOk x:=by unfold tablesOf TOk;rw[zFv (by omega)];constructor;{intro a g hg;obtain⟨k,c,rfl,e⟩:=zw6 hg gZ;have:=a k c;rw[e];rwa [jX] at this};{intro a j b;have:=a (j:Int) (zG.2 (by unfold ln;omega));rw[zmd b] at this;rwa [jX]}
structure Rt (h:Host):Prop where
 t:∀m,hasB m (ln h.Mons)=true->TOk (ix h.Mons m mZ)
 e1:∀e∈h.Buffer,zcM h e=true
 e2:∀e∈h.IoBuffer,zcM h e=true
structure Safe (h:Host):Prop where
 ok:HOk h
 rt:Rt h
def zs4 {a b:Slot}:below' a b=true↔a=noSlot\/(a.Page=b.Page/\enough b.Rights a.Rights=true):=by unfold below';rw[zvh,zla,ztw,zb7,zbB];by_cases h:a=noSlot<;>simp [h]
def z6H (x:Int):wand .i64 0 x=0:=by unfold wand;have:(BitVec.ofInt 64 0 &&& BitVec.ofInt 64 x)=0#64:=(by rw[show BitVec.ofInt 64 0=0#64 from rfl,BitVec.zero_and]);show IntKind.wrap .i64 ((BitVec.ofInt 64 0 &&& BitVec.ofInt 64 x).toNat:Int)=0;rw[this];rfl
def z6V {a:Slot}(h:below' a noSlot=true):a=noSlot:=by rcases zs4.1 h with h|⟨c,b⟩;{exact h};{refine zXX c ?_;unfold enough at b;rw[show noSlot.Rights=0 from rfl,z6H]at b;simp only[zb7,zbB]at b;exact b.2.2.symm}
def zgA {h:Host}{e:Entry}:zcM h e=true↔hasB (zcR e.Tag) (ln h.Mons)=true/\hasB (zdx e.Tag) (ln (ix h.Mons (zcR e.Tag) mZ).Guests)=true/\
 below' ⟨e.Host,e.Rights⟩ (zbx (zbE (ix (ix h.Mons (zcR e.Tag) mZ).Guests (zdx e.Tag) gZ).Live e.Page) (ix h.Mons (zcR e.Tag) mZ).Outer)=true:=by
 unfold zcM;rw[zb7,zb7]
def zSY {o:List Slot}{p q:Int}{s:Slot}(a:0<=p)(h:q≠p):zbE (up o p s) q=zbE o q:=by unfold zbE;rw[zem];cases b:hasB q (ln o) with|false=>rfl|true=>rw[cond_true,cond_true,zbD a (zG.1 b).1<|Ne.symm h]
def zLU {s:Slot}{o:List Slot}{p:Int}{t:Slot}(a:0<=p)(h:s.Page≠p):zbx s (up o p t)=zbx s o:=by unfold zbx;rw[zSY a h]
def z1C {s:Slot}{o:List Slot}:zbx s o=noSlot\/(zbx s o).Page=(zbE o s.Page).Page:=by unfold zbx;cases ieq s.Page (-1)<;>cases ieq (zbE o s.Page).Page (-1)<;>cases ieq (zeL s.Rights (zbE o s.Page).Rights) 0<;>simp
def zl7 (k:Kept)(q:Int):(zb8 k q).Known.length=k.Known.length/\(zb8 k q).Slots.length=k.Slots.length:=by unfold zb8;cases zdM k q<;>simp [zbV]
def zBX:∀(l:LI) (k:Kept),(zfn k l).Known.length=k.Known.length/\(zfn k l).Slots.length=k.Slots.length
 |[],k=>⟨rfl,rfl⟩
 |q::l,k=>by have a:=zBX l (zb8 k q);have b:=zl7 k q;exact⟨a.1.trans b.1,a.2.trans b.2⟩
def zx9 {k:Kept}{q i:Int}(d:k.Known.length=k.Slots.length)(b:hasB i (ln k.Known)=true) :
 ix (zb8 k q).Known i false=(cond (ieq q i) false<|ix k.Known i false)/\ix (zb8 k q).Slots i sZ=(cond (ieq q i) noSlot<|ix k.Slots i sZ):=by
 have c:hasB i (ln k.Slots)=true:=by unfold ln at b ⊢;rwa [<- d]
 unfold zb8 zdM
 by_cases e:q=i
 .subst e;simp only[b,c,cond_true,ieq,beq_self_eq_true];exact⟨zbm b _ _,zbm c _ _⟩
 .rw [show ieq q i=false from zb9.2 e]
  by_cases a:hasB q (ln k.Known)=true
  .have hq':hasB q (ln k.Slots)=true:=by unfold ln at a ⊢;rwa [<- d]
   simp only[a,hq',cond_true,cond_false];exact⟨zbD (zG.1 a).1 (zG.1 b).1 e _ _,zbD (zG.1 a).1 (zG.1 b).1 e _ _⟩
  .rw [Bool.not_eq_true]at a;simp[a]
def zD9:∀(l:LI) {k:Kept} {i:Int},k.Known.length=k.Slots.length->hasB i (ln k.Known)=true->
 (i∈l->ix (zfn k l).Known i false=false/\ix (zfn k l).Slots i sZ=noSlot)/\
 (i∉l->ix (zfn k l).Known i false=ix k.Known i false/\ix (zfn k l).Slots i sZ=ix k.Slots i sZ)
 |[],k,i,d,c=>⟨λh=>by simp at h,λ_=>⟨rfl,rfl⟩⟩
 |q::l,k,i,d,c=>by have b:=zl7 k q;have g:=zx9 (q:=q) d c;have f:=zD9 l (k:=zb8 k q) (i:=i) (by rw[b.1,b.2,d]) (by unfold ln at c ⊢;rwa [b.1]);show (_->ix (zfn (zb8 k q) l).Known i false=_/\ix (zfn (zb8 k q) l).Slots i sZ=_)/\(_->ix (zfn (zb8 k q) l).Known i false=_/\ix (zfn (zb8 k q) l).Slots i sZ=_);by_cases a:i∈l;{refine⟨λ_=>f.1 a,λh=>absurd (qY _ a) h⟩};{rw [(f.2 a).1,(f.2 a).2,g.1,g.2];by_cases e:q=i;{subst e;simp[ieq]};{rw [zb9.2 e];simp[a,Ne.symm e]}}
def zJU {e:Type}{P:e->Bool}{d:e}:∀{l:List e} {n:Nat} {i:Int},i∈idxs P l n↔∃k:Nat,∃h:k<l.length,i=((n+k:Nat):Int)/\P l[k]=true
 |[],n,i=>by simp[idxs]
 |x::l,n,i=>by
  have g:=@zJU e P d l (n+1) i;unfold idxs;constructor
  .intro h;cases f:P x with
   |true=>rw[f,cond_true,qG]at h;rcases h with h|h;{exact⟨0,by simp,by simpa using h,f⟩};{obtain⟨k,c,b,a⟩:=g.1 h;exact⟨k+1,by simpa using c,by rw[b];congr 1;omega,by simpa using a⟩}
   |false=>rw[f,cond_false]at h;obtain⟨k,c,b,a⟩:=g.1 h;exact⟨k+1,by simpa using c,by rw[b];congr 1;omega,by simpa using a⟩
  {rintro⟨k,c,b,a⟩;cases k with|zero=>simp only[List.getElem_cons_zero]at a;rw[a,cond_true,b];exact jA|succ k=>have:=g.2 ⟨k,by simpa using c,by rw[b];congr 1;omega,by simpa using a⟩;cases P x;{exact this};{exact qY _ this}}
def zYI {l:List Slot}{p i:Int}:i∈zFD l p↔hasB i (ln l)=true/\(ix l i sZ).Page=p:=by unfold zFD;rw[zJU (d:=sZ)];constructor;{rintro⟨k,a,rfl,c⟩;rw[jX,zmd a];exact⟨zG.2 (by unfold ln;omega),zbB.1 c⟩};{rintro⟨a,b⟩;obtain⟨k,f,rfl,e⟩:=zw6 a sZ;exact⟨k,f,by simp,by rw[e]at b;exact zbB.2 b⟩}
def z2q {k:Kept}{a b:List Slot}(h:KOk k a b){p:Int}(j:0<=p)(s:Slot):KOk (zkM k a p) a (up b p s):=by have g:=zBX (zFD a p) k;refine⟨g.1.trans h.l1,g.2.trans h.l2,λi d=>?_⟩;have e:hasB i (ln k.Known)=true:=(by unfold ln at d ⊢;rwa [h.l1]);have f:=zD9 (zFD a p) (by rw[h.l1,h.l2]) e;unfold zkM;by_cases c:(ix a i sZ).Page=p;{have:=f.1 (zYI.2 ⟨d,c⟩);rw[this.1,this.2];rfl};{have:=f.2 (λh=>c (zYI.1 h).2);rw[this.1,this.2,h.at' i d,zLU j c]}
def zFu (b:List Guest)(p:Int):∀(n:Nat) (a:List Kept),(zmJ b p n a).length=a.length
 | 0,a=>rfl
 |n+1,a=>by rw[zmJ,zbV,zFu b p n]
def zRa (b:List Guest)(p:Int):∀(n:Nat) (a:List Kept),n<=a.length->∀i,0<=i->ix (zmJ b p n a) i kZ=if i<n then zkM (ix a i kZ) (ix b i gZ).Live p else ix a i kZ
 | 0,a,_,i,c=>by rw[if_neg (by omega)];rfl
 |n+1,a,d,i,c=>by rw[zmJ];by_cases e:i=n;{subst e;rw[zbm (by rw[ln,zFu];exact zG.2 (by omega)),if_pos (by omega),zRa b p n a (by omega) _ c,if_neg (by omega)]};{rw [zbD (by omega) c<|Ne.symm e,zRa b p n a (by omega) i c];by_cases h:i<n;{rw [if_pos h,if_pos (by omega)]};{rw [if_neg h,if_neg (by omega)]}}
def zlb (x:Mon)(p:Int)(s:Slot):Mon:={zlL x p x.Tables.length with Outer:=up x.Outer p s}
def z6t {x:Mon}(h:TOk x)(c:x.Tables.length=x.Guests.length){p:Int}(b:0<=p)(s:Slot):TOk (zlb x p s):=by intro g hg;have a:hasB g (ln x.Guests)=true:=hg;show KOk (ix (zmJ x.Guests p x.Tables.length x.Tables) g kZ) (ix x.Guests g gZ).Live (up x.Outer p s);rw[zRa _ _ _ _ (qZ _) _ (zG.1 a).1,if_pos (by have:=zG.1 a;unfold ln at this;omega)];exact z2q (h g a) b s
def zt7 (h:Host)(m p:Int)(s:Slot):(zcC h m p s).Mons=up h.Mons m (zlb (ix h.Mons m mZ) p s):=by unfold zcC;cases ine (ix (ix h.Mons m zi).Outer p zX).Page (-1)<;>rfl
def zyw (h:Host)(m p:Int)(s:Slot):(zcC h m p s).Memory=h.Memory:=by unfold zcC;cases ine (ix (ix h.Mons m zi).Outer p zX).Page (-1)<;>rfl
def zS0 (h:Host)(m p:Int)(s:Slot):(zcC h m p s).Buffer=(cond (ieq (ix (ix h.Mons m mZ).Outer p sZ).Page<|-1) h.Buffer<|flushed h.Buffer (ix (ix h.Mons m mZ).Outer p sZ).Page)/\
 (zcC h m p s).IoBuffer=(cond (ieq (ix (ix h.Mons m mZ).Outer p sZ).Page<|-1) h.IoBuffer<|flushed h.IoBuffer (ix (ix h.Mons m mZ).Outer p sZ).Page):=by
 unfold zcC
 by_cases e:(ix (ix h.Mons m zi).Outer p zX).Page = -1
 .rw [show ine (ix (ix h.Mons m zi).Outer p zX).Page (-1)=false by simp[ine,e],show ieq (ix (ix h.Mons m mZ).Outer p sZ).Page (-1)=true from zbB.2 e]
  exact⟨rfl,rfl⟩
 .rw [show ine (ix (ix h.Mons m zi).Outer p zX).Page (-1)=true from zFX.2 e,show ieq (ix (ix h.Mons m mZ).Outer p sZ).Page (-1)=false from zb9.2 e]
  exact⟨rfl,rfl⟩
def zLY {h k:Host}{m p:Int}{s:Slot}(n:hasB m (ln h.Mons)=true)(q:hasB p (ln (ix h.Mons m mZ).Outer)=true){x:Mon}(u:k.Mons=up h.Mons m x)(t:x.Guests=(ix h.Mons m mZ).Guests)(v:x.Outer=up (ix h.Mons m mZ).Outer p s){e:Entry}(w:zcM h e=true)(c:(ix (ix h.Mons m mZ).Outer p sZ).Page = -1\/e.Host≠(ix (ix h.Mons m mZ).Outer p sZ).Page):zcM k e=true:=by obtain⟨f,g,b⟩:=zgA.1 w;rw[zgA,u,zem];refine⟨f,?_⟩;by_cases l:m=zcR e.Tag;{rw [<- l]at f g b ⊢;rw[zbm n,t,v];refine⟨g,?_⟩;by_cases j:(zbE (ix (ix h.Mons m mZ).Guests (zdx e.Tag) gZ).Live e.Page).Page=p;{have a:zbx (zbE (ix (ix h.Mons m mZ).Guests (zdx e.Tag) gZ).Live e.Page) (ix h.Mons m mZ).Outer=noSlot\/e.Host≠(zbx (zbE (ix (ix h.Mons m mZ).Guests (zdx e.Tag) gZ).Live e.Page) (ix h.Mons m mZ).Outer).Page:=(by rcases z1C (s:=zbE (ix (ix h.Mons m mZ).Guests (zdx e.Tag) gZ).Live e.Page) (o:=(ix h.Mons m mZ).Outer) with d|d;{exact .inl d};{rw [j]at d;have r:zbE (ix h.Mons m mZ).Outer p=ix (ix h.Mons m mZ).Outer p sZ:=(by unfold zbE;rw[q];rfl);rw[r]at d;rcases c with c|c;{left;unfold zbx;rw[j,r,c,show ieq (-1) (-1)=true from rfl];cases ieq p (-1)<;>rfl};{exact .inr (by rw[d];exact c)}});have i:(⟨e.Host,e.Rights⟩:Slot)=noSlot:=(by rcases a with a|a;{rw [a]at b;exact z6V b};{rcases zs4.1 b with h|h;{exact h};{exact absurd h.1 a}});rw[i];exact zs4.2 (.inl rfl)};{rw [zLU (zG.1 q).1 j];exact b}};{rw [zbD (zG.1 n).1 (zG.1 f).1 l];exact⟨g,b⟩}
def zBf {h:Host}(H:Rt h){m p:Int}(d:hasB m (ln h.Mons)=true)(q:hasB p (ln (ix h.Mons m mZ).Outer)=true)(u:(ix h.Mons m mZ).Tables.length=(ix h.Mons m mZ).Guests.length)(s:Slot):Rt (zcC h m p s):=by have c:=zS0 h m p s;have i:=zt7 h m p s;have f:∀(b:List Entry),(∀e∈b,zcM h e=true)->∀e∈(cond (ieq (ix (ix h.Mons m mZ).Outer p sZ).Page<|-1) b<|flushed b (ix (ix h.Mons m mZ).Outer p sZ).Page),zcM (zcC h m p s) e=true:=(by intro b c e a;by_cases n:(ix (ix h.Mons m mZ).Outer p sZ).Page = -1;{rw [zbB.2 n,cond_true]at a;exact zLY d q i rfl rfl (c e a) (.inl n)};{rw [zb9.2 n,cond_false]at a;obtain⟨j,l⟩:=List.mem_filter.1 a;exact zLY d q i rfl rfl (c e j) (.inr (by simpa [ieq] using l))});refine⟨λk g=>?_,λe a=>f _ H.e1 e (by rwa [c.1]at a),λe a=>f _ H.e2 e (by rwa [c.2]at a)⟩;rw[i]at g ⊢;rw[zem]at g;by_cases r:m=k;{subst r;rw[zbm d];exact z6t (H.t m d) u (zG.1 q).1 s};{rw [zbD (zG.1 d).1 (zG.1 g).1 r];exact H.t k g}
def zR0:∀(l a:List Entry),allI (alone<|a++l) l a.length=true↔(∀x∈l,∀y∈a,sameKey x y=false)/\l.Pairwise (λy x=>sameKey x y=false)
 |[],a=>by simp[allI]
 |x::l,a=>by have g:=zR0 l (a++[x]);rw[kA,List.singleton_append,kC,k8] at g;rw[allI,qE,g,List.pairwise_cons];have h:alone (a++x::l) a.length x=true↔∀y∈a,sameKey x y=false:=(by unfold alone;rw[kN rfl,qM];simp);rw[h];constructor;{rintro⟨d,e,f⟩;refine⟨λz c y b=>?_,λz c=>e z c x (by simp),f⟩;rcases qG.1 c with rfl|c;{exact d y b};{exact e z c y (by simp[b])}};{rintro⟨d,e,f⟩;refine⟨λy b=>d x (by simp) y b,λz c y b=>?_,f⟩;rcases jJ.1 b with b|b;{exact d z (by simp[c]) y b};{rw [qF.1 b];exact e z c}}
def zFI {l:List Entry}:zgh l=true↔l.Pairwise (λy x=>sameKey x y=false)/\l.length<=6:=by unfold zgh;have:=zR0 l [];simp only[jR,uI] at this;have a:ile (ln l) 6=true↔l.length<=6:=(by rw[ile,q0,ln];omega);rw[zb7,this,a];simp
def zAs {l:List Entry}(h:zgh l=true)(P:Entry->Bool):zgh (l.filter P)=true:=by rw[zFI]at h ⊢;exact⟨h.1.sublist List.filter_sublist,qU (k9 _ _) h.2⟩
def zHM {l:List Entry}(h:zgh l=true)(p:Int):zgh (flushed l p)=true:=zAs h _
def zVi {x x':Mon}{p:Int}(a:hasB p (ln x.Outer)=true){s:Slot}(h:x'.Outer=up x.Outer p s)(q:Int):cPg x' q+(if (ix x.Outer p sZ).Page=q then 1 else 0)=cPg x q+(if s.Page=q then 1 else 0):=by have:=zR7 (λs=>ieq s.Page q) a s sZ;simp only[zbB] at this;unfold cPg;rw[h];exact this
def zru {s:Slot}(d:SOk s){c:LI}:zm8 s c=true↔(s.Page = -1->zcI c=true)/\(s.Page≠-1->enough s.Rights 1=true/\c=[]):=by unfold zm8;by_cases e:s=noSlot;{rw [zla.2 e,cond_true,e];simp[noSlot]};{rw [ztw.2 e,cond_false,zb7];have:s.Page≠-1:=λh=>e (d.none h);have b:ile (ln c) 0=true↔c=[]:=(by rw[ile,q0,ln,<- uR];omega);rw[b];exact⟨λh=>⟨λa=>absurd a this,λ_=>h⟩,λh=>h.2 this⟩}
structure Chg (x x':Mon) (p:Int) (s:Slot) (c:List Int):Prop where
 o:x'.Outer=up x.Outer p s
 u:x'.Out=up x.Out p c
 g:x'.Guests=x.Guests
 t:x'.Tables.length=x.Tables.length
 d:x'.Dirty.length=x.Dirty.length
 a1:x'.Outs=x.Outs
 a2:x'.Pending=x.Pending
 a3:x'.Traps=x.Traps
 a4:x'.Own=x.Own
def MOk.chg {x i:Mon}(H:MOk x){p:Int}(a:hasB p 8=true){s:Slot}{c:LI}(k:Chg x i p s c)(l:SOk s)(j:zm8 s c=true):MOk i:=by refine⟨by rw[k.g];exact H.g1,by rw[k.g];exact H.g2,by rw[k.t,k.g];exact H.gt,by rw[k.o,zbV];exact H.o8,λy f=>?_,by rw[k.u,zbV];exact H.u8,by rw[k.d];exact H.d8,by rw[k.a1];exact H.outs,by rw[k.a2];exact H.pend,by rw[k.a3];exact H.tr,by rw[k.a4];exact H.own,by rw[k.g];exact H.gs,λq b=>?_⟩;{rw [k.o]at f;rcases qX f with h|h;{exact H.sl y h};{rw [h];exact l}};{rw [k.o,k.u];by_cases e:p=q;{subst e;rw[zbm<|H.hasO a,zbm<|H.hasU a];exact j};{rw [zbD (zG.1 a).1 (zG.1 b).1 e,zbD (zG.1 a).1 (zG.1 b).1 e];exact H.fit q b}}
structure Like (h r:Host):Prop where
 len:r.Mons.length=h.Mons.length
 g:∀i,hasB i (ln h.Mons)=true->(ix r.Mons i mZ).Guests=(ix h.Mons i mZ).Guests
 o:∀i,hasB i (ln h.Mons)=true->(ix r.Mons i mZ).Outs=(ix h.Mons i mZ).Outs
 p:∀i,hasB i (ln h.Mons)=true->(ix r.Mons i mZ).Pending=(ix h.Mons i mZ).Pending
 tr:∀i,hasB i (ln h.Mons)=true->(ix r.Mons i mZ).Traps=(ix h.Mons i mZ).Traps
 ow:∀i,hasB i (ln h.Mons)=true->(ix r.Mons i mZ).Own=(ix h.Mons i mZ).Own
 pg:∀i k,hasB i (ln h.Mons)=true->hasB k 8=true->zcH r i k=zcH h i k
def Like.refl (h:Host):Like h h:=⟨rfl,λ_ _=>rfl,λ_ _=>rfl,λ_ _=>rfl,λ_ _=>rfl,λ_ _=>rfl,λ_ _ _ _=>rfl⟩
def Like.trans {a b c:Host}(x:Like a b)(y:Like b c):Like a c:=by have k:∀i,hasB i (ln a.Mons)=true->hasB i (ln b.Mons)=true:=λi e=>(by unfold ln at e ⊢;rwa [x.len]);exact⟨y.len.trans x.len,λi h=>(y.g i<|k i h).trans (x.g i h),λi h=>(y.o i<|k i h).trans (x.o i h),λi h=>(y.p i<|k i h).trans (x.p i h),λi h=>(y.tr i<|k i h).trans (x.tr i h),λi h=>(y.ow i<|k i h).trans (x.ow i h),λi q h d=>(y.pg i q (k i h) d).trans (x.pg i q h d)⟩
def Like.has {h r:Host}(k:Like h r){i:Int}:hasB i (ln r.Mons)=hasB i (ln h.Mons):=by unfold ln;rw[k.len]
def zsl {h r:Host}{m:Int}:∀(n i:Nat),(∀k:Nat,i<=k->k<i+n->zcH r m (k:Int)=zcH h m (k:Int))->zcO r m n i=zcO h m n i
 | 0,i,_=>rfl
 |n+1,i,h=>by rw[zcO,zcO,h i (by omega) (by omega),zsl n (i+1) λk a b=>h k (by omega) (by omega)]
def Like.seen {h r:Host}(k:Like h r)(m:Int):zK r m=zK h m:=by unfold zK;rw[k.has];cases a:hasB m (ln h.Mons) with|false=>rfl|true=>simp only[cond_true];rw[k.g m a,k.o m a,k.p m a,zsl 8 0 λj b c=>k.pg m j a (zG.2 (by omega))]
def zpk {h:Host}{m p:Int}(a:hasB m (ln h.Mons)=true)(c:hasB p 8=true)(b:hasB p (ln (ix h.Mons m mZ).Outer)=true) :
 zcH h m p=bif ieq (ix (ix h.Mons m mZ).Outer p sZ).Page (-1) then zcN (ix h.Mons m mZ).Out p else zcN h.Memory (ix (ix h.Mons m mZ).Outer p sZ).Page:=by
 unfold zcH;have:zbE (ix h.Mons m mZ).Outer p=ix (ix h.Mons m mZ).Outer p sZ:=by unfold zbE;rw[b];rfl
 rw[a,c,cond_true,cond_true,this]
 by_cases e:(ix (ix h.Mons m mZ).Outer p sZ).Page = -1
 .rw [zbB.2 e,show ine (ix (ix h.Mons m mZ).Outer p sZ).Page (-1)=false by simp[ine,e]];rfl
 .rw [zb9.2 e,show ine (ix (ix h.Mons m mZ).Outer p sZ).Page (-1)=true from zFX.2 e];rfl
def zmm {m:List LI}{p:Int}(h:hasB p (ln m)=true):zcN m p=ix m p []:=by unfold zcN;rw[h];rfl
def zSK {m:List LI}(h:∀c∈m,zcI c=true)(p:Int):zcI (zcN m p)=true:=by unfold zcN;cases a:hasB p (ln m) with|false=>rfl|true=>exact h _ (zlO a _)
def zxP {h r:Host}(H:HOk h){m p:Int}(b:hasB m (ln h.Mons)=true)(i:hasB p 8=true){x:Mon}{s:Slot}{c:LI}(n:r.Mons=up h.Mons m x)(k:Chg (ix h.Mons m mZ) x p s c)(u:SOk s)(t:zm8 s c=true)(f:r.Memory.length=12)(g:∀c∈r.Memory,zcI c=true)(j:zgh r.Buffer=true)(l:zgh r.IoBuffer=true)(v:0<=s.Page->s.Page=(ix (ix h.Mons m mZ).Outer p sZ).Page\/zf0 h.Mons s.Page=0):HOk r:=by refine H.up b ((H.mon b).chg i k u t) n f g j l λq z=>?_;have d:=zVi ((H.mon b).hasO i) k.o q;by_cases e:s.Page=q;{have a:=v (by omega);rw[if_pos e]at d;rcases a with a|a;{rw [if_pos (by omega)]at d;left;omega};{right;rw[e] at a;refine⟨a,?_⟩;have:=zz7 b x q;have y:cPg (ix h.Mons m mZ) q<=zf0 h.Mons q:=(by have:=zz7 b (⟨[],[],[],[],[],0,0,[],0⟩:Mon) q;have w:cPg (⟨[],[],[],[],[],0,0,[],0⟩:Mon) q=0:=rfl;omega);omega}};{rw [if_neg e]at d;left;split at d<;>omega}
def zw9 {h r:Host}(H:HOk h){m p:Int}(a:hasB m (ln h.Mons)=true)(y:hasB p 8=true){x:Mon}{s:Slot}{c:LI}(n:r.Mons=up h.Mons m x)(k:Chg (ix h.Mons m mZ) x p s c)(B:(cond (ieq s.Page<|-1) c<|zcN r.Memory s.Page)=zcH h m p)(f:∀i q,hasB i (ln h.Mons)=true->hasB q 8=true->¬ (i=m/\q=p)->(ix (ix h.Mons i mZ).Outer q sZ).Page≠-1->zcN r.Memory (ix (ix h.Mons i mZ).Outer q sZ).Page=zcN h.Memory (ix (ix h.Mons i mZ).Outer q sZ).Page):Like h r:=by have l:=(zG.1 a).1;have t:=(zG.1 y).1;have e:∀{C:Type} (F:Mon->C),F x=F (ix h.Mons m mZ)->∀i,hasB i (ln h.Mons)=true->F (ix r.Mons i mZ)=F (ix h.Mons i mZ):=(by intro C F D i d;rw[n];by_cases e:m=i;{subst e;rw[zbm a];exact D};{rw [zbD l (zG.1 d).1 e]});refine⟨by rw[n,zbV],e Mon.Guests k.g,e Mon.Outs k.a1,e Mon.Pending k.a2,e Mon.Traps k.a3,e Mon.Own k.a4,λi q d b=>?_⟩;have A:hasB i (ln r.Mons)=true:=(by rw[n,zem];exact d);have w:=(H.mon d).hasO b;have z:hasB q (ln (ix r.Mons i mZ).Outer)=true:=(by rw[n];by_cases e:m=i;{subst e;rw[zbm a,k.o,zem];exact w};{rw [zbD l (zG.1 d).1 e];exact w});rw[zpk A b z];by_cases e:m=i;{subst e;rw[n,zbm a,k.o,k.u];by_cases v:p=q;{subst v;rw[zbm<|(H.mon a).hasO y,<- B];cases ieq s.Page (-1);{rfl};{rw [cond_true,cond_true,zmm (by rw[zem];exact(H.mon a).hasU y),zbm<|(H.mon a).hasU y]}};{rw [zbD t (zG.1 b).1 v,zpk a b w];by_cases j:(ix (ix h.Mons m mZ).Outer q sZ).Page = -1;{rw [zbB.2 j,cond_true,cond_true,zmm (by rw[zem];exact(H.mon a).hasU b),zmm<|(H.mon a).hasU b,zbD t (zG.1 b).1 v]};{rw [zb9.2 j,cond_false,cond_false,f m q a b (λh=>v h.2.symm) j]}}};{rw [n,zbD l (zG.1 d).1 e,zpk d b w];by_cases j:(ix (ix h.Mons i mZ).Outer q sZ).Page = -1;{rw [zbB.2 j,cond_true,cond_true]};{rw [zb9.2 j,cond_false,cond_false,f i q d b (λh=>e h.1.symm) j]}}
structure Op (h r:Host):Prop where
 ok:HOk r
 like:Like h r
 rt:Rt h->Rt r
def Op.refl {h:Host}(H:HOk h):Op h h:=⟨H,Like.refl h,id⟩
def Op.trans {a b c:Host}(x:Op a b)(y:Op b c):Op a c:=⟨y.ok,x.like.trans y.like,λh=>y.rt (x.rt h)⟩
def Op.safe {h r:Host}(k:Op h r)(s:Safe h):Safe r:=⟨k.ok,k.rt s.rt⟩
def zNT {h r:Host}(H:Rt h){m:Int}(l:hasB m (ln h.Mons)=true){x:Mon}(u:r.Mons=up h.Mons m x)(q:r.Buffer=h.Buffer)(s:r.IoBuffer=h.IoBuffer)(y:x.Guests.length=(ix h.Mons m mZ).Guests.length)(w:∀g,hasB g (ln (ix h.Mons m mZ).Guests)=true->(ix x.Guests g gZ).Live=(ix (ix h.Mons m mZ).Guests g gZ).Live)(z:x.Tables=(ix h.Mons m mZ).Tables)(v:x.Outer=(ix h.Mons m mZ).Outer):Rt r:=by have d:=(zG.1 l).1;have hg:∀g,hasB g (ln x.Guests)=hasB g (ln (ix h.Mons m mZ).Guests):=λg=>(by unfold ln;rw[y]);have f:∀e,zcM h e=true->zcM r e=true:=(by intro e c;obtain⟨n,i,p⟩:=zgA.1 c;rw[zgA,u,zem];refine⟨n,?_⟩;by_cases b:m=zcR e.Tag;{rw [<- b]at n i p ⊢;rw[zbm l,hg,w _ i,v];exact⟨i,p⟩};{rw [zbD d (zG.1 n).1 b];exact⟨i,p⟩});refine⟨λk j=>?_,λe c=>f e (H.e1 e (by rwa [q]at c)),λe c=>f e (H.e2 e (by rwa [s]at c))⟩;rw[u]at j ⊢;rw[zem]at j;by_cases b:m=k;{subst b;rw[zbm l];intro g a;rw[hg]at a;rw[z,w g a,v];exact H.t m l g a};{rw [zbD d (zG.1 j).1 b];exact H.t k j}
def zrb {h a:Host}{m p:Int}{s:Slot}{x:Mon}(b:hasB m (ln h.Mons)=true)(e:a.Mons=up h.Mons m x):(zcC a m p s).Mons=up h.Mons m (zlb x p s):=by rw[zt7,e,zbm b,z6G]
def zDR {x a:Mon}{p:Int}{s:Slot}{c:LI}(h:a.Outer=x.Outer)(j:a.Out=up x.Out p c)(hg:a.Guests=x.Guests)(i:a.Tables=x.Tables)(g:a.Dirty.length=x.Dirty.length)(b:a.Outs=x.Outs)(d:a.Pending=x.Pending)(e:a.Traps=x.Traps)(f:a.Own=x.Own):Chg x (zlb a p s) p s c :=
 ⟨by show up a.Outer p s=_;rw[h],j,hg,by show (zmJ a.Guests p a.Tables.length a.Tables).length=_;rw[zFu,i],g,b,d,e,f⟩
def zwo {h:Host}{m p:Int}{s:Slot}(a:zgh h.Buffer=true)(b:zgh h.IoBuffer=true):zgh (zcC h m p s).Buffer=true/\zgh (zcC h m p s).IoBuffer=true:=by have:=zS0 h m p s;rw[this.1,this.2];cases ieq (ix (ix h.Mons m mZ).Outer p sZ).Page (-1);{exact⟨zHM a _,zHM b _⟩};{exact⟨a,b⟩}
def hasM {h:Host}(H:HOk h){s:Slot}(b:SOk s)(a:s.Page≠-1):hasB s.Page (ln h.Memory)=true:=by have:=b.pos a;exact zG.2 ⟨this.1,by unfold ln;rw[H.m12];omega⟩
def z0O {h:Host}(H:HOk h){m p:Int}(b:hasB m (ln h.Mons)=true)(c:hasB p 8=true)(l:(ix (ix h.Mons m mZ).Outer p sZ).Page≠-1):Op h (zef h m p):=by
 have X:=H.mon b;have f:(zef h m p).Mons=up h.Mons m (zlb {ix h.Mons m mZ with Out:=up (ix h.Mons m mZ).Out p (zcN h.Memory (ix (ix h.Mons m mZ).Outer p sZ).Page)} p noSlot):=zrb b rfl;have k:Chg (ix h.Mons m mZ) (zlb {ix h.Mons m mZ with Out:=up (ix h.Mons m mZ).Out p (zcN h.Memory (ix (ix h.Mons m mZ).Outer p sZ).Page)} p noSlot) p noSlot (zcN h.Memory (ix (ix h.Mons m mZ).Outer p sZ).Page):=zDR rfl rfl rfl rfl rfl rfl rfl rfl rfl;have a:(zef h m p).Memory=h.Memory:=zyw _ _ _ _;have g:=zwo (h:=zfE h m p) (m:=m) (p:=p) (s:=noSlot) H.b1 H.b2;refine⟨zxP H b c f k (.inl rfl) ((zru (.inl rfl)).2 ⟨λ_=>zSK H.pgs _,λh=>absurd rfl h⟩) (by rw[a];exact H.m12) (by rw[a];exact H.pgs) g.1 g.2 λh=>absurd h (by decide),
  zw9 H b c f k ?_ (λi q _ _ _ _=>by rw[a]),λR=>?_⟩
 {rw [zpk b c<|X.hasO c,zb9.2 l];rfl};{have j:Rt (zfE h m p):=zNT (x:={ix h.Mons m mZ with Out:=up (ix h.Mons m mZ).Out p (zcN h.Memory (ix (ix h.Mons m mZ).Outer p sZ).Page)}) R b rfl rfl rfl rfl (λ_ _=>rfl) rfl rfl;have d:hasB m (ln (zfE h m p).Mons)=true:=(by show hasB m (ln<|up h.Mons m _)=true;rw[zem];exact b);have e:ix (zfE h m p).Mons m mZ={ix h.Mons m mZ with Out:=up (ix h.Mons m mZ).Out p (zcN h.Memory (ix (ix h.Mons m mZ).Outer p sZ).Page)}:=zbm b _ _;exact zBf j d (by rw[e];exact X.hasO c) (by rw[e];exact X.gt) noSlot}
def zHS {o:List Slot}{q:Int}:zpI o q=none↔o.countP (λs=>ieq s.Page q)=0:=by unfold zpI;rw[List.findIdx?_eq_none_iff,u4];simp
def zY2 {o:List Slot}{q:Int}{k:Nat}(h:zpI o q=some k):∃a:k<o.length,o[k].Page=q:=by unfold zpI at h;rw[uX]at h;obtain⟨a,b,_⟩:=h;exact⟨a,zbB.1 b⟩
def zA9 {q:Int}:∀(l:List Mon) (i:Nat),((zjm q l i).1<0↔zf0 l q=0)/\(¬ (zjm q l i).1<0->∃a b:Nat,∃f:a<l.length,∃g:b<l[a].Outer.length,zjm q l i=(((i+a:Nat):Int),(b:Int))/\l[a].Outer[b].Page=q)
 |[],i=>⟨by simp[zjm,zf0],λh=>absurd (show (-1:Int)<0 by decide) h⟩
 |x::l,i=>by have j:=zA9 (q:=q) l (i+1);unfold zjm;split;{rename_i k c;obtain⟨m,n⟩:=zY2 c;refine⟨⟨λh=>by simp at h;omega,λh=>?_⟩,λ_=>⟨0,k,by simp,m,by simp,n⟩⟩;exfalso;simp only[zf0,jB,uH]at h;have d:x.Outer.countP (λs=>ieq s.Page q)=0:=(by unfold cPg at h;omega);rw[zHS.2 d]at c;cases c};{rename_i c;have d:=zHS.1 c;refine⟨?_,λh=>?_⟩;{rw [j.1];simp only[zf0,jB,uH];unfold cPg;omega};{obtain⟨a,b,f,g,e,p⟩:=j.2 h;exact⟨a+1,b,by simpa using f,by simpa using g,by rw[e];simp;omega,by simpa using p⟩}}
def zKf {h:Host}{q:Int}(a:0<=q):(zbR h q).1<0↔zf0 h.Mons q=0:=by unfold zbR;rw[show ilt q 0=false from qJ (by omega),cond_false];exact(zA9 h.Mons 0).1
def z8u {h:Host}(H:HOk h){q:Int}(j:0<=q)(c:¬ (zbR h q).1<0):hasB (zbR h q).1 (ln h.Mons)=true/\hasB (zbR h q).2 8=true/\(ix (ix h.Mons (zbR h q).1 mZ).Outer (zbR h q).2 sZ).Page=q:=by unfold zbR at c ⊢;rw[show ilt q 0=false from qJ (by omega),cond_false]at c ⊢;obtain⟨a,b,d,f,e,g⟩:=(zA9 h.Mons 0).2 c;rw[e,jX];have i:=(H.mons _<|jG d).o8;exact⟨zG.2 (by unfold ln;simp;omega),zG.2 (by simp;omega),by rw[zmd d,zmd f];exact g⟩
def zWa {P:Nat->Bool}:∀{n i:Nat} {q:Int},q∈zyc P n i↔∃k:Nat,q=(k:Int)/\i<=k/\k<i+n/\P k=true
 | 0,i,q=>by simp[zyc];intro k _ _ _;omega
 |n+1,i,q=>by
  have d:=@zWa P n (i+1) q;unfold zyc;constructor
  .intro h;cases c:P i with
   |true=>rw[c,cond_true,qG]at h;rcases h with h|h;{exact⟨i,h,by omega,by omega,c⟩};{obtain⟨k,a,f,g,b⟩:=d.1 h;exact⟨k,a,by omega,by omega,b⟩}
   |false=>rw[c,cond_false]at h;obtain⟨k,a,f,g,b⟩:=d.1 h;exact⟨k,a,by omega,by omega,b⟩
  {rintro⟨k,a,f,g,b⟩;by_cases e:k=i;{subst e;rw[b,cond_true,a];exact jA};{have:=d.2 ⟨k,a,by omega,by omega,b⟩;cases P i;{exact this};{exact qY _ this}}}
def zI7 {h:Host}{q:Int}:q∈zcx h↔hasB q (ln h.Memory)=true/\zf0 h.Mons q=0:=by unfold zcx;rw[zWa];constructor;{rintro⟨k,rfl,b,c,d⟩;exact⟨zG.2 (by unfold ln;omega),(zKf (by omega)).1 (qD d)⟩};{rintro⟨b,c⟩;have a:=zG.1 b;unfold ln at a;refine⟨q.toNat,by omega,by omega,by omega,?_⟩;rw[show ((q.toNat:Nat):Int)=q by omega];exact qI ((zKf a.1).2 c)}
def z2f {h:Host}(a:zcx h≠[]):hasB (ix (zcx h) 0 0) (ln h.Memory)=true/\zf0 h.Mons (ix (zcx h) 0 0)=0:=by refine zI7.1 (zlO (zG.2 ⟨by omega,?_⟩) 0);unfold ln;have:=kR.2 a;omega
structure But (h r:Host) (m p:Int):Prop where
 ne:∀i k,hasB i (ln h.Mons)=true->hasB k 8=true->¬ (i=m/\k=p)->ix (ix r.Mons i mZ).Outer k sZ=ix (ix h.Mons i mZ).Outer k sZ
def zIM {h r:Host}{m p:Int}(a:hasB m (ln h.Mons)=true)(j:hasB p 8=true){x:Mon}{s:Slot}(b:r.Mons=up h.Mons m x)(g:x.Outer=up (ix h.Mons m mZ).Outer p s):But h r m p:=by refine⟨λi k d f c=>?_⟩;rw[b];by_cases e:m=i;{subst e;rw[zbm a,g,zbD (zG.1 j).1 (zG.1 f).1 λe=>c ⟨rfl,e.symm⟩]};{rw [zbD (zG.1 a).1 (zG.1 d).1 e]}
def z6n {h:Host}(H:HOk h){m p:Int}(a:hasB m (ln h.Mons)=true)(c:hasB p 8=true):But h (zef h m p) m p/\ix (ix (zef h m p).Mons m mZ).Outer p sZ=noSlot:=by have b:(zef h m p).Mons=up h.Mons m (zlb {ix h.Mons m mZ with Out:=up (ix h.Mons m mZ).Out p (zcN h.Memory (ix (ix h.Mons m mZ).Outer p sZ).Page)} p noSlot):=zrb a rfl;refine⟨zIM a c b rfl,?_⟩;rw[b,zbm a];exact zbm ((H.mon a).hasO c) _ _
structure Roomy (h r:Host):Prop where
 op:Op h r
 free:zcx r≠[]
 sl:∀i k,hasB i (ln h.Mons)=true->hasB k 8=true->ix (ix r.Mons i mZ).Outer k sZ=ix (ix h.Mons i mZ).Outer k sZ\/ix (ix r.Mons i mZ).Outer k sZ=noSlot
 dirt:∀i,(ix r.Mons i mZ).Dirty=(ix h.Mons i mZ).Dirty
def zOS {h r:Host}{m:Int}(c:hasB m (ln h.Mons)=true){x:Mon}(a:r.Mons=up h.Mons m x)(b:x.Dirty=(ix h.Mons m mZ).Dirty)(i:Int):(ix r.Mons i mZ).Dirty=(ix h.Mons i mZ).Dirty:=by
 rw[a];by_cases e:i.toNat=m.toNat
 {have:∀l:List Mon,ix l i mZ=ix l m mZ:=λl=>(by unfold ix;rw[e]);rw[this,this,zbm c,b]};{unfold ix up;simp[List.getD,q9,Ne.symm e]}
def roomy {h:Host}(H:HOk h):Roomy h (zdw h):=by unfold zdw;by_cases b:zcx h=[];{rw [show ieq (ln<|zcx h) 0=true by rw[b];rfl,cond_true];have p:¬ (zbR h 0).1<0:=λd=>(by have:(0:Int)∈zcx h:=zI7.2 ⟨zG.2 (by unfold ln;rw[H.m12];omega),(zKf (by omega)).1 d⟩;rw[b] at this;cases this);obtain⟨a,c,f⟩:=z8u H (by omega) p;have k:=z0O H a c (by rw[f];decide);have j:=z6n H a c;refine⟨k,λd=>?_,λi q g r=>?_,λi=>zOS (x:=zlb {ix h.Mons (zbR h 0).1 mZ with Out:=up (ix h.Mons (zbR h 0).1 mZ).Out (zbR h 0).2 (zcN h.Memory (ix (ix h.Mons (zbR h 0).1 mZ).Outer (zbR h 0).2 sZ).Page)} (zbR h 0).2 noSlot) a (zrb a rfl) rfl i⟩;{have:(0:Int)∈zcx (zef h (zbR h 0).1 (zbR h 0).2):=(by refine zI7.2 ⟨zG.2 (by unfold ln;rw[k.ok.m12];omega),?_⟩;have n:(zef h (zbR h 0).1 (zbR h 0).2).Mons=up h.Mons (zbR h 0).1 (zlb {ix h.Mons (zbR h 0).1 mZ with Out:=up (ix h.Mons (zbR h 0).1 mZ).Out (zbR h 0).2 (zcN h.Memory (ix (ix h.Mons (zbR h 0).1 mZ).Outer (zbR h 0).2 sZ).Page)} (zbR h 0).2 noSlot):=zrb a rfl;have l:=zz7 a (zlb {ix h.Mons (zbR h 0).1 mZ with Out:=up (ix h.Mons (zbR h 0).1 mZ).Out (zbR h 0).2 (zcN h.Memory (ix (ix h.Mons (zbR h 0).1 mZ).Outer (zbR h 0).2 sZ).Page)} (zbR h 0).2 noSlot) 0;rw[<- n] at l;have m:=zVi (x':=zlb {ix h.Mons (zbR h 0).1 mZ with Out:=up (ix h.Mons (zbR h 0).1 mZ).Out (zbR h 0).2 (zcN h.Memory (ix (ix h.Mons (zbR h 0).1 mZ).Outer (zbR h 0).2 sZ).Page)} (zbR h 0).2 noSlot) ((H.mon a).hasO c) (s:=noSlot) rfl 0;rw[if_pos f,if_neg (by decide)] at m;have t:=H.uq 0 (by omega);omega);rw[d] at this;cases this};{by_cases e:i=(zbR h 0).1/\q=(zbR h 0).2;{rw [e.1,e.2];exact .inr j.2};{exact .inl (j.1.ne i q g r e)}}};{have:ieq (ln<|zcx h) 0=false:=zb9.2 (by unfold ln;have:=kR.2 b;omega);rw[this,cond_false];exact⟨Op.refl H,b,λi k g u=>.inl rfl,λ_=>rfl⟩}
def z0e {m:List LI}{p:Int}{c:LI}(b:hasB p (ln m)=true)(a:zcI c=true):zjQ m p c=up m p c:=by unfold zjQ;rw[b,a];rfl
def zEV {m:List LI}{p q:Int}{c:LI}(a:0<=p)(h:q≠p):zcN (up m p c) q=zcN m q:=by unfold zcN;rw[zem];cases b:hasB q (ln m) with|false=>rfl|true=>rw[cond_true,cond_true,zbD a (zG.1 b).1<|Ne.symm h]
def zEU {m:List LI}{p:Int}{c:LI}(a:hasB p (ln m)=true):zcN (up m p c) p=c:=by rw[zmm (by rw[zem];exact a),zbm a]
def z2L {h:Host}(H:HOk h){m p a:Int}(d:hasB m (ln h.Mons)=true)(f:hasB p 8=true)(z:(ix (ix h.Mons m mZ).Outer p sZ).Page = -1)(u:hasB a (ln h.Memory)=true)(B:zf0 h.Mons a=0) :
 Op h (zfM h m p a)/\But h (zfM h m p a) m p/\ix (ix (zfM h m p a).Mons m mZ).Outer p sZ=⟨a,3⟩/\∀i,(ix (zfM h m p a).Mons i mZ).Dirty=(ix h.Mons i mZ).Dirty:=by
 have X:=H.mon d;have g:=zG.1 u;unfold ln at g;rw[H.m12]at g;have l:(zfM h m p a).Mons=up h.Mons m (zlb {ix h.Mons m mZ with Out:=up (ix h.Mons m mZ).Out p []} p ⟨a,3⟩):=zrb d rfl;have k:Chg (ix h.Mons m mZ) (zlb {ix h.Mons m mZ with Out:=up (ix h.Mons m mZ).Out p []} p ⟨a,3⟩) p ⟨a,3⟩ []:=zDR rfl rfl rfl rfl rfl rfl rfl rfl rfl;have j:=((zru<|X.slot f).1 (X.fit p f)).1 z;have b:(zfM h m p a).Memory=up h.Memory a (ix (ix h.Mons m mZ).Out p []):=by show (zcC (landing h m p a) m p ⟨a,3⟩).Memory=_;rw[zyw];exact z0e u j
 have A:SOk ⟨a,3⟩:=.inr ⟨g.1,by show a<=11;omega,by show (1:Int)<=3;omega,by show (3:Int)<=3;omega⟩
 have w:=zwo (h:=landing h m p a) (m:=m) (p:=p) (s:=⟨a,3⟩) H.b1 H.b2;refine⟨⟨zxP H d f l k A ((zru A).2 ⟨λh=>absurd h (by show a≠-1;omega),λ_=>⟨show enough 3 1=true by decide,rfl⟩⟩) (by rw[b,zbV];exact H.m12) (λc r=>?_) w.1 w.2 λ_=>.inr B,
  zw9 H d f l k ?_ λi q y D r C=>?_,λR=>?_⟩,zIM d f l rfl,?_,λi=>zOS (x:=zlb {ix h.Mons m mZ with Out:=up (ix h.Mons m mZ).Out p []} p ⟨a,3⟩) d l rfl i⟩
 .rw [b]at r;rcases qX r with n|n
  .exact H.pgs c n
  .rw [n];exact j
 .rw [zpk d f<|X.hasO f,zbB.2 z,cond_true,zmm<|X.hasU f];rw[show ieq (⟨a,3⟩:Slot).Page (-1)=false from zb9.2 (by show a≠-1;omega),cond_false,b]
  exact zEU u
 .rw [b];refine zEV g.1 (λe=>?_);have:=zIN y ((H.mon y).hasO D);rw[e] at this;omega
 .have R1:Rt (landing h m p a):=zNT (x:={ix h.Mons m mZ with Out:=up (ix h.Mons m mZ).Out p []}) R d rfl rfl rfl rfl (λ_ _=>rfl) rfl rfl;have t:hasB m (ln (landing h m p a).Mons)=true:=by show hasB m (ln<|up h.Mons m _)=true;rw[zem];exact d
  have v:ix (landing h m p a).Mons m mZ={ix h.Mons m mZ with Out:=up (ix h.Mons m mZ).Out p []}:=zbm d _ _;exact zBf R1 t (by rw[v];exact X.hasO f) (by rw[v];exact X.gt) _
 .rw [l,zbm d];exact zbm (X.hasO f) _ _
def zNG {h:Host}(H:HOk h){m p:Int}(f:hasB m (ln h.Mons)=true)(g:hasB p 8=true)(k:(ix (ix h.Mons m mZ).Outer p sZ).Page = -1) :
 Op h (fetched h m p)/\(∃e,0<=e/\e<=11/\ix (ix (fetched h m p).Mons m mZ).Outer p sZ=⟨e,3⟩)/\∀i,(ix (fetched h m p).Mons i mZ).Dirty=(ix h.Mons i mZ).Dirty:=by
 have R:=roomy H;have c:hasB m (ln (zdw h).Mons)=true:=by rw[R.op.like.has];exact f
 have d:(ix (ix (zdw h).Mons m mZ).Outer p sZ).Page = -1:=by rcases R.sl m p f g with b|b<;>rw [b];{exact k};{rfl}
 obtain⟨b,j⟩:=z2f R.free;obtain⟨l,r,n,q⟩:=z2L R.op.ok c g d b j;have a:=zG.1 b;unfold ln at a;rw[R.op.ok.m12]at a;exact⟨R.op.trans l,⟨_,a.1,by omega,n⟩,λi=>(q i).trans (R.dirt i)⟩
def zpr {o:List Slot}{p:Int}(h:hasB p (ln o)=true):zbE o p=ix o p sZ:=by unfold zbE;rw[h];rfl
def zmn {h:Host}(H:HOk h){m p:Int}(a:hasB m (ln h.Mons)=true)(b:hasB p 8=true) :
 (cond (ieq (ix (ix h.Mons m mZ).Outer p sZ).Page<|-1) (ix (ix h.Mons m mZ).Out p [])<|zcN h.Memory (ix (ix h.Mons m mZ).Outer p sZ).Page)=zcH h m p:=by
 rw[zpk a b<|(H.mon a).hasO b,zmm<|(H.mon a).hasU b]
structure Mark (x y:Mon):Prop where
 o:y.Outer=x.Outer
 u:y.Out=x.Out
 g:y.Guests=x.Guests
 t:y.Tables=x.Tables
 d:y.Dirty.length=x.Dirty.length
 a1:y.Outs=x.Outs
 a2:y.Pending=x.Pending
 a3:y.Traps=x.Traps
 a4:y.Own=x.Own
def z0N {h:Host}(H:HOk h){m:Int}(b:hasB m (ln h.Mons)=true){y:Mon}(k:Mark (ix h.Mons m mZ) y):Op h {h with Mons:=up h.Mons m y}/\∀i q,ix (ix (up h.Mons m y) i mZ).Outer q sZ=ix (ix h.Mons i mZ).Outer q sZ:=by
 have X:=H.mon b;have a:hasB 0 8=true:=(by decide);have c:Chg (ix h.Mons m mZ) y 0 (ix (ix h.Mons m mZ).Outer 0 sZ) (ix (ix h.Mons m mZ).Out 0 []):=⟨by rw[zKN<|X.hasO a,k.o],by rw[zKN<|X.hasU a,k.u],k.g,by rw[k.t],k.d,k.a1,k.a2,k.a3,k.a4⟩
 refine⟨⟨zxP H b a rfl c (X.slot a) (X.fit 0 a) H.m12 H.pgs H.b1 H.b2 λ_=>.inl rfl,zw9 H b a rfl c (zmn H b a) λ_ _ _ _ _ _=>rfl,
  λR=>zNT R b rfl rfl rfl (by rw[k.g]) (λg _=>by rw[k.g]) k.t k.o⟩,λi q=>?_⟩
 by_cases e:i.toNat=m.toNat
 {have:∀l:List Mon,ix l i mZ=ix l m mZ:=λl=>(by unfold ix;rw[e]);rw[this,this,zbm b,k.o]};{have:ix (up h.Mons m y) i mZ=ix h.Mons i mZ:=(by unfold ix up;simp[List.getD,q9,Ne.symm e]);rw[this]}
def zNF {h:Host}(H:HOk h){m:Int}(a:hasB m (ln h.Mons)=true)(p:Int):Op h (zbN h m p)/\∀i q,ix (ix (zbN h m p).Mons i mZ).Outer q sZ=ix (ix h.Mons i mZ).Outer q sZ :=
 z0N H a ⟨rfl,rfl,rfl,rfl,zbV _ _ _,rfl,rfl,rfl,rfl⟩
def z5M {h:Host}(H:HOk h){m:Int}(a:hasB m (ln h.Mons)=true)(p:Int):Op h (zr1 h m p)/\∀i q,ix (ix (zr1 h m p).Mons i mZ).Outer q sZ=ix (ix h.Mons i mZ).Outer q sZ :=
 z0N H a ⟨rfl,rfl,rfl,rfl,zbV _ _ _,rfl,rfl,rfl,rfl⟩
def rights {r:Int}(a:1<=r)(b:r<=3):r=1\/r=2\/r=3:=by omega
def MOk.enough1 {x:Mon}(X:MOk x){p:Int}(a:hasB p 8=true)(d:(ix x.Outer p sZ).Page≠-1):(ix x.Outer p sZ).Rights=1\/(ix x.Outer p sZ).Rights=3:=by have b:=(((zru<|X.slot a).1 (X.fit p a)).2 d).1;have c:=(X.slot a).pos d;rcases rights c.2.2.1 c.2.2.2 with e|e|e;{exact .inl e};{rw [e]at b;exact absurd b (by decide)};{exact .inr e}
def zSG {h:Host}(H:HOk h){m p:Int}(c:hasB m (ln h.Mons)=true)(b:hasB p 8=true)(g:(ix (ix h.Mons m mZ).Outer p sZ).Page≠-1){r:Int}(n:r=1\/r=3) :
 Op h (zcC h m p ⟨(ix (ix h.Mons m mZ).Outer p sZ).Page,r⟩)/\But h (zcC h m p ⟨(ix (ix h.Mons m mZ).Outer p sZ).Page,r⟩) m p/\
  ix (ix (zcC h m p ⟨(ix (ix h.Mons m mZ).Outer p sZ).Page,r⟩).Mons m mZ).Outer p sZ=⟨(ix (ix h.Mons m mZ).Outer p sZ).Page,r⟩/\∀i,(ix (zcC h m p ⟨(ix (ix h.Mons m mZ).Outer p sZ).Page,r⟩).Mons i mZ).Dirty=(ix h.Mons i mZ).Dirty:=by
 have X:=H.mon c;have d:=(X.slot b).pos g;have e:=zt7 h m p ⟨(ix (ix h.Mons m mZ).Outer p sZ).Page,r⟩;have k:Chg (ix h.Mons m mZ) (zlb (ix h.Mons m mZ) p ⟨(ix (ix h.Mons m mZ).Outer p sZ).Page,r⟩) p ⟨(ix (ix h.Mons m mZ).Outer p sZ).Page,r⟩ (ix (ix h.Mons m mZ).Out p []):=
  zDR rfl (zKN (X.hasU b) _).symm rfl rfl rfl rfl rfl rfl rfl
 have l:SOk ⟨(ix (ix h.Mons m mZ).Outer p sZ).Page,r⟩:=.inr ⟨d.1,d.2.1,by show 1<=r;omega,by show r<=3;omega⟩
 have f:=((zru<|X.slot b).1 (X.fit p b)).2 g;have j:=zwo (h:=h) (m:=m) (p:=p) (s:=⟨(ix (ix h.Mons m mZ).Outer p sZ).Page,r⟩) H.b1 H.b2;have a:=zyw h m p ⟨(ix (ix h.Mons m mZ).Outer p sZ).Page,r⟩;refine⟨⟨zxP H c b e k l ((zru l).2 ⟨λh=>absurd h g,λ_=>⟨?_,f.2⟩⟩) (by rw[a];exact H.m12) (by rw[a];exact H.pgs) j.1 j.2 λ_=>.inl rfl,
  zw9 H c b e k (by rw[a];exact zmn H c b) (λi q _ _ _ _=>by rw[a]),λR=>zBf R c (X.hasO b) X.gt _⟩,zIM c b e rfl,?_,λi=>zOS c e rfl i⟩
 .show enough r 1=true
  rcases n with rfl|rfl<;>decide
 .rw [e,zbm c];exact zbm (X.hasO b) _ _
structure Mended (h r:Host) (m p n:Int):Prop where
 op:Op h r
 inn:(ix (ix r.Mons m mZ).Outer p sZ).Page≠-1
 ri:ieq (wand .i64 n 2) 0=false->(ix (ix r.Mons m mZ).Outer p sZ).Rights=3
 dt:ieq (wand .i64 n 2) 0=false->ix (ix r.Mons m mZ).Dirty p false=true
 d0:ieq (wand .i64 n 2) 0=true->(ix r.Mons m mZ).Dirty=(ix h.Mons m mZ).Dirty
 dk:∀k,hasB k 8=true->k≠p->ix (ix r.Mons m mZ).Dirty k false=ix (ix h.Mons m mZ).Dirty k false
 dm:∀i,hasB i (ln h.Mons)=true->i≠m->(ix r.Mons i mZ).Dirty=(ix h.Mons i mZ).Dirty
def zXd {h:Host}(H:HOk h){m p:Int}(n:Int)(c:hasB m (ln h.Mons)=true)(g:hasB p 8=true)(v:(ix (ix h.Mons m mZ).Outer p sZ).Page≠-1):Mended h (zkS h m p n) m p n:=by
 unfold zkS;cases s:ieq (wand .i64 n 2) 0 with
 |true=>exact⟨Op.refl H,v,λe=>Bool.noConfusion<|s.symm.trans e,λe=>Bool.noConfusion<|s.symm.trans e,λ_=>rfl,λ_ _ _=>rfl,λ_ _ _=>rfl⟩
 |false=>rw[cond_false];obtain⟨f,C⟩:=zNF H c p;have d:hasB m (ln (zbN h m p).Mons)=true:=(by rw[f.like.has];exact c);have a:(ix (ix (zbN h m p).Mons m mZ).Outer p sZ).Page≠-1:=(by rw[C];exact v);have u:(ix (zbN h m p).Mons m mZ).Dirty=up (ix h.Mons m mZ).Dirty p true:=(by show (ix (up h.Mons m _) m mZ).Dirty=_;rw[zbm c]);have l:∀i,hasB i (ln h.Mons)=true->i≠m->(ix (zbN h m p).Mons i mZ).Dirty=(ix h.Mons i mZ).Dirty:=λi q b=>(by show (ix (up h.Mons m _) i mZ).Dirty=_;rw[zbD (zG.1 c).1 (zG.1 q).1<|Ne.symm b]);have A:=(f.ok.mon d).enough1 g a;have t:∀r:Host,(∀i,(ix r.Mons i mZ).Dirty=(ix (zbN h m p).Mons i mZ).Dirty)->Op (zbN h m p) r->(ix (ix r.Mons m mZ).Outer p sZ).Page≠-1->(ix (ix r.Mons m mZ).Outer p sZ).Rights=3->Mended h r m p n:=(by intro r j x y z;refine⟨f.trans x,y,λ_=>z,λ_=>?_,λe=>Bool.noConfusion<|s.symm.trans e,λk B b=>?_,λi q b=>by rw[j,l i q b]⟩;{rw [j,u,zbm<|(H.mon c).hasD g]};{rw [j,u,zbD (zG.1 g).1 (zG.1 B).1<|Ne.symm b]});unfold opened;rcases A with e|e;{rw [e,show ieq (wand .i64 1 2) 0=true by decide,cond_true];obtain⟨D,F,w,E⟩:=zSG f.ok d g a (r:=3) (.inr rfl);exact t _ E D (by rw[w];exact a) (by rw[w])};{rw [e,show ieq (wand .i64 3 2) 0=false by decide,cond_false];exact t _ (λ_=>rfl) (Op.refl f.ok) a e}
def zSF {h:Host}(H:HOk h){m p:Int}(n:Int)(c:hasB m (ln h.Mons)=true)(d:hasB p 8=true):Mended h (mended h m p n) m p n:=by unfold mended;by_cases e:(ix (ix h.Mons m mZ).Outer p sZ).Page = -1;{rw [zbB.2 e,cond_true];obtain⟨a,⟨q,r,s,l⟩,f⟩:=zNG H c d e;have K:=zXd a.ok n (by rw[a.like.has];exact c) d (by rw[l];show q≠-1;omega);exact⟨a.trans K.op,K.inn,K.ri,K.dt,λe=>by rw[K.d0 e,f],λk j b=>by rw[K.dk k j b,f],λi g b=>by rw[K.dm i (by rw[a.like.has];exact g) b,f]⟩};{rw [zb9.2 e,cond_false];exact zXd H n c d e}
def zp1 {h:Host}{m p:Int}:zcW h m p=true↔HOk h/\hasB m (ln h.Mons)=true/\hasB p 8=true:=by unfold zcW;rw[zb7,zb7,zj5]
def z2M {h:Host}(H:HOk h)(m p:Int):Op h (zrF h m p):=by unfold zrF;cases a:zcW h m p with|false=>exact Op.refl H|true=>obtain⟨_,b,c⟩:=zp1.1 a;rw[cond_true];unfold zlP;by_cases e:(ix (ix h.Mons m mZ).Outer p sZ).Page = -1;{rw [zbB.2 e];exact Op.refl H};{rw [zb9.2 e];exact z0O H b c e}
def z5L {h:Host}(H:HOk h)(m p:Int):Op h (zvN h m p):=by unfold zvN;cases a:zcW h m p with|false=>exact Op.refl H|true=>obtain⟨_,b,c⟩:=zp1.1 a;rw[cond_true];unfold zlP;by_cases e:(ix (ix h.Mons m mZ).Outer p sZ).Page = -1;{rw [zbB.2 e];exact(zNG H b c e).1};{rw [zb9.2 e];exact Op.refl H}
def z5K {h:Host}(H:HOk h)(m p:Int):Op h (zvt h m p):=by unfold zvt;cases g:zcW h m p with|false=>exact Op.refl H|true=>obtain⟨_,b,c⟩:=zp1.1 g;rw[cond_true];obtain⟨a,d⟩:=z5M H b p;(cases e:zc1 (ix (ix h.Mons m zi).Outer p zX) noSlot with|true=>exact a|false=>rw[cond_false];have i:(ix (ix h.Mons m mZ).Outer p sZ).Page≠-1:=λf=>ztw.1 e (((H.mon b).slot c).none f);have:=zSG a.ok (m:=m) (p:=p) (by rw[a.like.has];exact b) c (by rw[d];exact i) (r:=1) (.inl rfl);rw[d m p] at this;exact a.trans this.1)
end
end Go.Proofs.YtkbkcnjpecmckaaGreat.E
