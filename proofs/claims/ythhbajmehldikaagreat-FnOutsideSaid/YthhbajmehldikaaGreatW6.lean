/- What is proved here: a part of the proof that the statement of this claim holds (several texts of wip/, laid together). -/
import Derived.Test.YthhbajmehldikaaGreatW5
import Derived.WalkKit
import Derived.Tactics2
import Derived.Deep.RegionWith
import Derived.Laws.Rows
namespace Go.Proofs.YthhbajmehldikaaGreat.E
open Go
set_option linter.constructorNameAsVariable false
set_option linter.unusedVariables false
set_option maxRecDepth 100000
set_option linter.unusedSimpArgs false
set_option linter.unusedSectionVars false
noncomputable section
theorem z6n {x:Mon}{b:Bare}(h:zfd x)(a:zlg b.Guests):zfd (zuu x b):=⟨h.1,h.2.1,h.2.2.1,a,h.2.2.2.2⟩
theorem zMS {h:Host}{m:Int}{b:Bare}(a:SmH h)(d:hasB m (ln h.Mons)=true)(c:zlg b.Guests):SmH (zcK h m b):=
 ⟨a.1,zjn a.2.1 (z6n (a.2.1.2 _ (zbD d _)) c),a.2.2⟩
theorem zXp {h:Host}{m:Int}(b:Bare)(a:hasB m (ln h.Mons)=true):hasB m (ln (zcK h m b).Mons)=true:=by show hasB m (ln (up h.Mons m _))=true;rw[ln,zgG];exact a
theorem zbdp {h:Host}{m:Int}(b:Bare)(c:hasB m (ln h.Mons)=true):ix (zcK h m b).Mons m mZ=zuu (ix h.Mons m mZ) b:=by obtain⟨k,rfl,a⟩:=zdS (n:=h.Mons.length) c;exact zdX a _ _
def zFt (h:Host)(m g p:Int):Host:=⟨h.Memory,up h.Mons m {ix h.Mons m mZ with Tables:=up (ix h.Mons m mZ).Tables g (zbY (ix (ix h.Mons m mZ).Tables g kZ) p)},zcF h.Buffer (zdN m g) p,zcF h.IoBuffer (zdN m g) p⟩
def z7z (H:Host)(m g p:Int)(o:Host->Ans):OA:=
 bif inb m (ln H.Mons) then (bif inb m (ln H.Mons) then (bif inb g (ln (ix H.Mons m mZ).Tables) then (bif zmz (ix (ix H.Mons m mZ).Tables g kZ) p then (bif inb g (ln (ix H.Mons m mZ).Tables) then (share (up H.Mons m {ix H.Mons m mZ with Tables:=up (ix H.Mons m mZ).Tables g (zbY (ix (ix H.Mons m mZ).Tables g kZ) p)}) fun x=>
  (cond (zlS m g) (cond (zgD H.Buffer (zdN m g) p) (cond (zlS m g) (cond (zgD H.IoBuffer (zdN m g) p) (some (o ⟨H.Memory,x,zcF H.Buffer (zdN m g) p,zcF H.IoBuffer (zdN m g) p⟩)) none) none) none) none)) else none) else none) else none) else none) else none
theorem z7A {H:Host}{m g p:Int}{o:Host->Ans}(b:SmH H)(a:hasB m (ln H.Mons)=true)(hg:hasB g (ln (ix H.Mons m mZ).Tables)=true):z7z H m g p o=some (o (zFt H m g p)):=by have c:=b.2.1.2 _ (zbD a mZ);unfold z7z;exact must (zC a) (must (zC a) (must (zC hg) (must (zbd (c.2.2.2.2.2.2 _ (zbD hg _))) (must (zC hg) (shr (must rfl (must (zbd b.2.2.1) (must rfl (must (zbd b.2.2.2) rfl)))))))))
def zls (h:Host)(m g p:Int):Host:=bif zcg h m then (cond (zb7 (zD h m) g (hasB p 4)) (zFt (zcK h m (chg (zD h m) g (hasB p 4) (zdW (gAt (zD h m) g) p))) m g p) h) else h
@[simp] abbrev zt5 (h:Host)(m g p:Int):Bool:=pc (zcc h)
@[simp] abbrev zn2 (h:Host)(m g p:Int):Host:=zls h m g p
@[simp] abbrev zn3 (h:Host)(m g p:Int):Bool:=zdM h m (zb7 (zD h m) g (hasB p 4))
theorem z2s {h:Host}{m:Int}(a:hasB m (ln h.Mons)=true):(zD h m).Guests=(ix h.Mons m mZ).Guests:=by unfold zD;rw[a];rfl
theorem zUy {h:Host}{m g:Int}{k:Bool}(i:SmH h)(e:zcg h m=true)(b:Bare)(a:zb7 (zD h m) g k=true):hasB g (ln (ix (zcK h m b).Mons m mZ).Tables)=true:=by obtain⟨f,c⟩:=zbV.1 e;rw[zbdp b c];show hasB g (ln (ix h.Mons m mZ).Tables)=true;rw[ln,((zff i f).1.2 _ (zbD c mZ)).2.2.2,<- z2s c];unfold zb7 at a;cases d:zck (zD h m) g;{rw [d]at a;cases a};{exact(zdL.1 d).2}
def zx6:Run:=rF4 dH dI dI dI fun b c d e=>(zt5 b c d e,[aH (zn2 b c d e),aB (zn3 b c d e)])
def zDf (N:Nat)(i:Host)(a b c:Int):OA:=
 let h:=(zvd a b);let e:=(zu i);let g:=(ix e.Mons a zi);let d:=(zg3 e a (zeM (zbQ g) b c));let f:=(ix d.Mons a zi);let j:=(ix f.Tables b zd9); (oN (zbW i) (oN (zfu e a) (cond (nB (zft e a)) (some [(aH e),(aB false)]) (oN (inb a (ln e.Mons)) (oN (zeI g) (oN (zt2 (zbQ g) b c) (cond (nB (zhO (zbQ g) b c)) (some [(aH e),(aB false)]) (oN (zeH e a (zeM (zbQ g) b c)) (oN (inb a (ln d.Mons)) (oN (inb a (ln d.Mons)) (oN (inb b (ln f.Tables)) (oN (zmz j c) (oN (inb b (ln f.Tables)) (share (up d.Mons a ({f with Tables:=(up f.Tables b (zlM j c))}:Mon)) (fun k=>(oN (zlS a b) (oN (zgD d.Buffer h c) (oN (zlS a b) (oN (zgD d.IoBuffer h c) (some [(aH (⟨d.Memory,k,(zns d.Buffer h c),(zns d.IoBuffer h c)⟩:Host)),(aB true)]))))))))))))))))))))
theorem zPA (a:Host)(c d e:Int)(j:zce big [aH a,aI c,aI d,aI e])(q:zt5 a c d e=true):∃N,zDf N a c d e=some [aH (zn2 a c d e),aB (zn3 a c d e)]:=by
 have k:=(zQ a).1 (zM.1 q);refine⟨0,?_⟩;unfold zDf zn2 zn3 zls zdM oN nB;conv=>zeta
 refine must q (must rfl ?_);rw[show zft (zu a) c=zcg a c from rfl];cases h:zcg a c;{rfl};{obtain⟨v,f⟩:=zbV.1 h;have r:=k.2.1.2 _ (zbD f mZ);have l:=zeR r;have i:=zjm h (zo3 h);have u:zb7 (zc2 (ix a.Mons c mZ)) d (hasB e 4)=zb7 (zD a c) d (hasB e 4):=zl9 i _ _;have s:zcK a c (zeM (zc2 (ix a.Mons c mZ)) d e)=zcK a c (chg (zD a c) d (hasB e 4) (zdW (gAt (zD a c) d) e)):=(by rw[<- i.at];exact zqQ i _ _ _ _ _);refine zcS rfl (must (zC f) (must (zbd r) (must (zbd l) ?_)));rw[show zhO (zbQ (ix (zu a).Mons c zi)) d e=zb7 (zD a c) d (hasB e 4) from u];cases t:zb7 (zD a c) d (hasB e 4);{rfl};{have j:SmB (zeM (zc2 (ix a.Mons c mZ)) d e):=zrE l (zQp _ (zkw _ l));refine zcS rfl (must (zbd ⟨f,j.2.1⟩) ?_);have n:=z7A (H:=zcK a c (zeM (zc2 (ix a.Mons c mZ)) d e)) (m:=c) (g:=d) (p:=e) (o:=fun H=>[.agg (zbk H),.one (.b true)]) (zMS k f j.2.1) (zXp _ f) (zUy k h _ t);refine(show _=_ from n).trans ?_;rw[s];rfl}}
theorem zIs:vN 29 zx6:=hF4 zUj zx zb0 zcH (zo []) zPA
def z6T:zX:=[(29,zx6)]++z6S
theorem zUk:zL z6T:=zh zIs zUj
def zZF (h:Host)(m p c v:Int):Host:={mended h m p 2 with Memory:=zbH (mended h m p 2).Memory (ix (ix (mended h m p 2).Mons m mZ).Outer p sZ).Page c v}
def zfg (h:Host)(m p c v:Int):Bool:=bif zcE h m p then (cond (hasB c 4) (win v 0 99) false) else false
def zol (h:Host)(m p c v:Int):Host:=bif zfg h m p c v then zZF h m p c v else h
@[simp] abbrev zww (h:Host)(m p c v:Int):Bool:=pc (zcc h)
@[simp] abbrev zp2 (h:Host)(m p c v:Int):Host:=zol h m p c v
@[simp] abbrev zp3 (h:Host)(m p c v:Int):Bool:=zfg h m p c v
def zbdb (H:Host)(m p c v:Int)(o:Host->Ans):OA:=
 bif znI H m p 2 then (cond (inb m (ln (mended H m p 2).Mons)) (cond (inb p (ln (ix (mended H m p 2).Mons m mZ).Outer)) (cond (zi8 (mended H m p 2).Memory (ix (ix (mended H m p 2).Mons m mZ).Outer p sZ).Page c v) (some (o (zZF H m p c v))) none) none) none) else none
theorem zbaU {h:Host}{m p c v:Int}{o:Host->Ans}(j:SmH h)(i:zcE h m p=true):zbdb h m p c v o=some (o (zZF h m p c v)):=by obtain⟨g,b,a⟩:=zkH.1 i;have f:=zff j g;obtain⟨d,e⟩:=zwI (n:=2) f b a;unfold zbdb;refine must (zbd ⟨f,b,a,.inr rfl,zuD (zgT g _ (zbD b mZ)) a⟩) (must (zC e) (must (zC ?_) (must (zbd d.1.1) rfl)));rw[ln,(d.2 _ (zbD e mZ)).1];exact a
def zAT:Run:=rF5 dH dI dI dI dI fun b c d e f=>(zww b c d e f,[aH (zp2 b c d e f),aB (zp3 b c d e f)])
def zEX (N:Nat)(g:Host)(b c:Int)(e f:Int):OA:=
 let a:=(zu g);let d:=(zoZ a b c 2);let h:=(ix d.Mons b zi).Outer;let i:=(ix h c zV).Page; (oN (zbW g) (oN (zoY a b c) (cond (nB (zhR a b c)) (some [(aH a),(aB false)]) (oN (zN e 0 3) (cond (nB (zT e 0 3)) (some [(aH a),(aB false)]) (oN (zN f 0 99) (cond (nB (zT f 0 99)) (some [(aH a),(aB false)]) (oN (znI a b c 2) (oN (inb b (ln d.Mons)) (oN (inb c (ln h)) (oN (zi8 d.Memory i e f) (some [(aH ({d with Memory:=(zjX d.Memory i e f)}:Host)),(aB true)]))))))))))))
theorem zSF (d:Host)(f g:Int)(a e:Int)(i:zww d f g a e=true):∃N,zEX N d f g a e=some [aH (zp2 d f g a e),aB (zp3 d f g a e)]:=by
 have k:=(zQ d).1 (zM.1 i);refine⟨0,?_⟩;unfold zEX zp2 zp3 zol zfg oN nB;conv=>zeta
 refine must i (must rfl ?_);rw[show zhR (zu d) f g=zcE d f g from rfl];cases j:zcE d f g;{rfl};{refine zcS rfl (must rfl ?_);rw[show zT a 0 3=hasB a 4 from zbfC a];cases l:hasB a 4;{rfl};{refine zcS rfl (must rfl ?_);rw[show zT e 0 99=win e 0 99 from rfl];cases m:win e 0 99;{rfl};{have h:=zbaU (c:=a) (v:=e) (o:=fun H=>[.agg (zbk H),.one (.b true)]) k j;exact zcS rfl (show _=_ from h)}}}
theorem zLN:vN 32 zAT:=kF5 zUk zx zb0 zcH (zo []) zSF
def z6U:zX:=[(32,zAT)]++z6T
theorem zUl:zL z6U:=zh zLN zUk
@[simp] abbrev zps (h:Host)(m g b a:Int):Bool:=pc (zcc h)
@[simp] abbrev zpr (h:Host)(m g b a:Int):Host:=(lookOf h h.IoBuffer m g b a true).1
@[simp] abbrev ziO (h:Host)(m g b a:Int):Int:=(lookOf h h.IoBuffer m g b a true).2.1
@[simp] abbrev ziP (h:Host)(m g b a:Int):Bool:=(lookOf h h.IoBuffer m g b a true).2.2
def zAz:Run:=rF5 dH dI dI dI dI fun b c d e f=>(zps b c d e f,[aH (zpr b c d e f),aI (ziO b c d e f),aB (ziP b c d e f)])
def zEA (N:Nat)(a:Host)(b c:Int)(d e:Int):OA:=
 (oN (zB9 a b c d e true) (some [(aH (zB6 a b c d e true)),(aI (zB7 a b c d e true)),(aB (zB8 a b c d e true))]))
theorem zSi (a:Host)(b c:Int)(d e:Int)(f:zps a b c d e=true):∃N,zEA N a b c d e=some [aH (zpr a b c d e),aI (ziO a b c d e),aB (ziP a b c d e)]:=by refine⟨0,?_⟩;unfold zEA oN;exact must f rfl
theorem zLt:vN 42 zAz:=kF5 zUl zx zb0 zcH (zo []) zSi
def z6V:zX:=[(42,zAz)]++z6U
theorem zsN:zL z6V:=zh zLt zUl
theorem zPD (h:Host)(b:List Entry)(m g c a:Int)(e:Bool):(lookOf h b m g c a e).2.2=zbO h m g c a:=by cases d:zbO h m g c a;{rw [zg8 d]};{rw [zMs d];unfold zf3 zer;generalize zhK b m g c a=x;cases x;{generalize zeh _ m g c a=y;cases y<;>rfl};{rfl}}
theorem z3j {h:Host}{m g c a:Int}(b:List Entry)(i:Bool)(f:SmH h)(d:zbO h m g c a=true):SmM (lookOf h b m g c a i).1.Memory:=by have hg:zbZ h m g=true:=(by unfold zbO at d;cases e:zbZ h m g;{rw [e]at d;cases d};{rfl});exact(zAb f hg).shape.1.1
def zFS (h:Host)(m g a n:Int):Host×Int×Bool:=lookOf h h.IoBuffer m g (zbf a) n true
def zfB (h:Host)(m g a v:Int):Bool:=bif win a 0 15 then (cond (win v 0 99) (zbO h m g (zbf a) 2) false) else false
def zmh (h:Host)(m g a v:Int):Host:=bif zfB h m g a v then { (zFS h m g a 2).1 with Memory:=zbH (zFS h m g a 2).1.Memory (zFS h m g a 2).2.1 (zcZ a) v} else h
def zeJ (h:Host)(m g a:Int):Bool:=bif win a 0 15 then zbO h m g (zbf a) 1 else false
def zjB (h:Host)(m g a:Int):Host:=bif zeJ h m g a then (zFS h m g a 1).1 else h
def zlt (h:Host)(m g a:Int):Int:=bif zeJ h m g a then cellAt (zFS h m g a 1).1.Memory (zFS h m g a 1).2.1 (zcZ a) else 0
@[simp] abbrev zsh (h:Host)(m g a v:Int):Bool:=pc (zcc h)
@[simp] abbrev zny (h:Host)(m g a v:Int):Host:=zmh h m g a v
@[simp] abbrev znz (h:Host)(m g a v:Int):Bool:=zfB h m g a v
@[simp] abbrev zp5 (h:Host)(m g a:Int):Bool:=pc (zcc h)
@[simp] abbrev zi5 (h:Host)(m g a:Int):Host:=zjB h m g a
@[simp] abbrev zlP (h:Host)(m g a:Int):Int:=zlt h m g a
@[simp] abbrev zlQ (h:Host)(m g a:Int):Bool:=zeJ h m g a
@[simp] abbrev zy6 (h:Host)(m g a v:Int):Bool:=pc (zcc h)
@[simp] abbrev zrY (h:Host)(m g a v:Int):Host:=zmh h m g a v
@[simp] abbrev zrZ (h:Host)(m g a v:Int):Bool:=zfB h m g a v
@[simp] abbrev zvQ (h:Host)(m g a:Int):Bool:=pc (zcc h)
@[simp] abbrev zlw (h:Host)(m g a:Int):Host:=zjB h m g a
@[simp] abbrev zpp (h:Host)(m g a:Int):Int:=zlt h m g a
@[simp] abbrev zpq (h:Host)(m g a:Int):Bool:=zeJ h m g a
def ztV:Run:=rF5 dH dI dI dI dI fun b c d e f=>(zsh b c d e f,[aH (zny b c d e f),aB (znz b c d e f)])
def zJr (N:Nat)(g:Host)(c d:Int)(a e:Int):OA:=
 let b:=(zu g);let h:=(zkS b b.IoBuffer c d (zcW a) 2 true);let f:=(zfa b b.IoBuffer c d (zcW a) 2 true); (oN (zbW g) (oN (zN a 0 15) (cond (nB (zT a 0 15)) (some [(aH b),(aB false)]) (oN (zN e 0 99) (cond (nB (zT e 0 99)) (some [(aH b),(aB false)]) (oN (zgk a) (oN (zkT b b.IoBuffer c d (zcW a) 2 true) (cond (nB (zg1 b b.IoBuffer c d (zcW a) 2 true)) (some [(aH f),(aB false)]) (oN (zi1 a) (oN (zi8 f.Memory h (zes a) e) (some [(aH ({f with Memory:=(zjX f.Memory h (zes a) e)}:Host)),(aB true)])))))))))))
theorem zV5 (a:Host)(c d:Int)(b e:Int)(f:zsh a c d b e=true):∃N,zJr N a c d b e=some [aH (zny a c d b e),aB (znz a c d b e)]:=by
 have h:=(zQ a).1 (zM.1 f);refine⟨0,?_⟩;unfold zJr zny znz zmh zfB oN nB;conv=>zeta
 refine must f (must rfl ?_);rw[show zT b 0 15=win b 0 15 from rfl];cases i:win b 0 15;{rfl};{refine zcS rfl (must rfl ?_);rw[show zT e 0 99=win e 0 99 from rfl];cases j:win e 0 99;{rfl};{refine zcS rfl (must rfl (must f ?_));rw[show zg1 (zu a) (zu a).IoBuffer c d (zcW b) 2 true=zbO a c d (zbf b) 2 from zPD _ _ _ _ _ _ _];cases g:zbO a c d (zbf b) 2;{rw [show zfa (zu a) (zu a).IoBuffer c d (zcW b) 2 true=a from congrArg Prod.fst (zg8 g)];rfl};{exact zcS rfl (must rfl (must (zbd (z3j a.IoBuffer true h g)) rfl))}}}
theorem zxt:vN 59 ztV:=kF5 zsN zx zb0 zcH (zo []) zV5
def ztO:Run:=rF5 dH dI dI dI dI fun b c d e f=>(zy6 b c d e f,[aH (zrY b c d e f),aB (zrZ b c d e f)])
def zJa (N:Nat)(a:Host)(c d:Int)(b e:Int):OA:=
 let f:=(zpr a c d (zdE b) 2); (oN (zpk b) (oN (zps a c d (zdE b) 2) (oN (zbM b 0 15) (cond (nB (zbU b 0 15)) (oN (zee a) (some [(aH (zf1 a)),(aB false)])) (oN (zbM e 0 99) (cond (nB (zbU e 0 99)) (oN (zee a) (some [(aH (zf1 a)),(aB false)])) (cond (nB (ziP a c d (zdE b) 2)) (oN (zee a) (some [(aH (zf1 a)),(aB false)])) (oN (zpj b) (oN (zvU f.Memory (ziO a c d (zdE b) 2) (zhZ b) e) (some [(aH ({f with Memory:=(zpw f.Memory (ziO a c d (zdE b) 2) (zhZ b) e)}:Host)),(aB true)]))))))))))
theorem zVN (b:Host)(c d:Int)(a e:Int)(f:zy6 b c d a e=true):∃N,zJa N b c d a e=some [aH (zrY b c d a e),aB (zrZ b c d a e)]:=by
 have h:=(zQ b).1 (zM.1 f);refine⟨0,?_⟩;unfold zJa zrY zrZ zmh zfB oN nB;conv=>zeta
 refine must rfl (must f (must rfl ?_));rw[show zbU a 0 15=win a 0 15 from rfl];cases i:win a 0 15;{exact must rfl (must f rfl)};{refine zcS rfl (must rfl ?_);rw[show zbU e 0 99=win e 0 99 from rfl];cases j:win e 0 99;{exact must rfl (must f rfl)};{refine zcS rfl ?_;rw[show ziP b c d (zdE a) 2=zbO b c d (zbf a) 2 from zPD _ _ _ _ _ _ _];cases g:zbO b c d (zbf a) 2;{exact must rfl (must f rfl)};{exact zcS rfl (must rfl (must (zbd (z3j b.IoBuffer true h g)) rfl))}}}
theorem zxm:vN 58 ztO:=kF5 zsN zx zb0 zcH (zo []) zVN
def zrk:Run:=rF4 dH dI dI dI fun b c d e=>(zp5 b c d e,[aH (zi5 b c d e),aI (zlP b c d e),aB (zlQ b c d e)])
def zEZ (N:Nat)(f:Host)(c d a:Int):OA:=
 let b:=(zu f);let g:=(zkS b b.IoBuffer c d (zcW a) 1 true);let e:=(zfa b b.IoBuffer c d (zcW a) 1 true); (oN (zbW f) (oN (zN a 0 15) (cond (nB (zT a 0 15)) (some [(aH b),(aI 0),(aB false)]) (oN (zgk a) (oN (zkT b b.IoBuffer c d (zcW a) 1 true) (cond (nB (zg1 b b.IoBuffer c d (zcW a) 1 true)) (some [(aH e),(aI 0),(aB false)]) (oN (zi1 a) (oN (zuJ e.Memory g (zes a)) (some [(aH e),(aI (zow e.Memory g (zes a))),(aB true)])))))))))
theorem zSH (a:Host)(c d b:Int)(e:zp5 a c d b=true):∃N,zEZ N a c d b=some [aH (zi5 a c d b),aI (zlP a c d b),aB (zlQ a c d b)]:=by
 have h:=(zQ a).1 (zM.1 e);refine⟨0,?_⟩;unfold zEZ zi5 zlP zlQ zjB zlt zeJ oN nB;conv=>zeta
 refine must e (must rfl ?_);rw[show zT b 0 15=win b 0 15 from rfl];cases g:win b 0 15;{rfl};{refine zcS rfl (must rfl (must e ?_));rw[show zg1 (zu a) (zu a).IoBuffer c d (zcW b) 1 true=zbO a c d (zbf b) 1 from zPD _ _ _ _ _ _ _];cases f:zbO a c d (zbf b) 1;{rw [show zfa (zu a) (zu a).IoBuffer c d (zcW b) 1 true=a from congrArg Prod.fst (zg8 f)];rfl};{exact zcS rfl (must rfl (must rfl rfl))}}
theorem zvI:vN 62 zrk:=kF4 zsN zx zb0 zcH (zo []) zSH
def zrg:Run:=rF4 dH dI dI dI fun b c d e=>(zvQ b c d e,[aH (zlw b c d e),aI (zpp b c d e),aB (zpq b c d e)])
def zEz (N:Nat)(b:Host)(c d a:Int):OA:=
 let e:=(zpr b c d (zdE a) 1); (oN (zpk a) (oN (zps b c d (zdE a) 1) (oN (zbM a 0 15) (cond (nB (zbU a 0 15)) (oN (zee b) (some [(aH (zf1 b)),(aI 0),(aB false)])) (cond (nB (ziP b c d (zdE a) 1)) (oN (zee b) (some [(aH (zf1 b)),(aI 0),(aB false)])) (oN (zpj a) (oN (zBX e.Memory (ziO b c d (zdE a) 1) (zhZ a)) (some [(aH e),(aI (zvM e.Memory (ziO b c d (zdE a) 1) (zhZ a))),(aB true)]))))))))
theorem zSh (b:Host)(c d a:Int)(e:zvQ b c d a=true):∃N,zEz N b c d a=some [aH (zlw b c d a),aI (zpp b c d a),aB (zpq b c d a)]:=by
 have h:=(zQ b).1 (zM.1 e);refine⟨0,?_⟩;unfold zEz zlw zpp zpq zjB zlt zeJ oN nB;conv=>zeta
 refine must rfl (must e (must rfl ?_));rw[show zbU a 0 15=win a 0 15 from rfl];cases f:win a 0 15;{exact must rfl (must e rfl)};{refine zcS rfl ?_;rw[show ziP b c d (zdE a) 1=zbO b c d (zbf a) 1 from zPD _ _ _ _ _ _ _];cases g:zbO b c d (zbf a) 1;{exact must rfl (must e rfl)};{exact zcS rfl (must rfl (must rfl rfl))}}
theorem zvE:vN 61 zrg:=kF4 zsN zx zb0 zcH (zo []) zSh
def z6W:zX:=[(59,ztV),(58,ztO),(62,zrk),(61,zrg)]++z6V
theorem z6X:zL z6W:=zh zxt (zh zxm (zh zvI (zh zvE zsN)))
def z6Y:zX:=[(194,zrn),(195,zmu)]++z6W
theorem zUm:zL z6Y:=zh zvK (zh zok z6X)
def zkD:Kept:=⟨rp 4 false,zl1⟩
@[simp] abbrev zzm (n:Int):Bool:=ieq n 4
@[simp] abbrev zyC (n:Int):Kept:=zkD
def zDK:Run:=rF1 dI fun b=>(zzm b,[aT .kept (zyC b)])
def z0U (N:Nat)(b:Int):OA:=
 let a:=(ln (zgQ b)); (oN (zi7 b) (oN (cond (few a) (ieq a a) false) (some [(aT .kept (⟨(rp a false),(zgQ b)⟩:Kept))])))
theorem zV9 (a:Int)(b:zzm a=true):∃N,z0U N a=some [aT .kept (zyC a)]:=by refine⟨0,?_⟩;have h:a=4:=qE b;subst h;change _=_;kernel_rfl
theorem zOF:vN 196 zDK:=kF1 zUm zx zb0 zcH (zo []) zV9
def z6Z:zX:=[(196,zDK)]++z6Y
theorem zUn:zL z6Z:=zh zOF zUm
def zwK:List Slot:=List.replicate 8 ⟨-1,0⟩
def zgF (a:List (List Ins)):Mon:=⟨zwK,zS2,rp 8 false,(a.take 2).map zeP,[],0,0,(a.take 2).map (fun _=>zkD),0⟩
theorem zPE {d a b q:Type}(m:Nat)(f:d->a)(g:d->b)(K:List a×List b->Option q):∀(l:List d) (i:Nat) (u:List a×List b),u.1.length+l.length<=2147483648->u.2.length+l.length<=2147483648->
 goL (fun (i:Nat) x (u:List a×List b) k=>bif ilt (i:Int) (m:Int) then (cond (few (ln (ap u.1 [f x]))) (cond (few (ln (ap u.2 [g x]))) (k (ap u.1 [f x],ap u.2 [g x])) none) none) else K u) K l i u=K (u.1++(l.take (m-i)).map f,u.2++(l.take (m-i)).map g)
 |[],i,u,_,_=>by simp[goL]
 |x::l,i,u,n,p=>by simp only[q0]at n p;have e:few (ln (ap u.1 [f x]))=true:=zgE (by simp[ap];omega);have j:few (ln (ap u.2 [g x]))=true:=zgE (by simp[ap];omega);by_cases h:i<m;{have c:ilt (i:Int) (m:Int)=true:=qJ (by omega);simp only[goL,c,e,j,cT];rw[zPE m f g K l (i+1) _ (by simp[ap];omega) (by simp[ap];omega)];rw[show m-i=m-(i+1)+1 by omega];simp[ap]};{have c:ilt (i:Int) (m:Int)=false:=qH (by omega);simp only[goL,c,cF];rw[show m-i=0 by omega];simp}
def z8i (u:List Guest×List Kept):OA:=some [AV.agg (Ty.cells .mon (⟨zwK,zS2,rp 8 false,u.1,[],0,0,u.2,0⟩:Mon))]
@[simp] abbrev zuK (a:List (List Ins)):Bool:=pc (SmPs a)
@[simp] abbrev zMO (a:List (List Ins)):Mon:=zgF a
def zGK:Run:=rF1 (dS (.sl .ins)) fun b=>(zuK b,[aT .mon (zMO b)])
def zNx (N:Nat)(k:lP):OA:=
 (oN (zi7 8) (oN (zp7 8) (oN (cond (few 8) (ieq 8 8) false) (iter (σ:=(Int×(Int×(Int×(Int×(Int×(Int×(Int×(lP×(lS×(lM×(lB×(lG×((List Int)×(lK×(lS×(lM×(lB×(lG×((List Int)×(lK×Unit))))))))))))))))))))) N (fun l a=>let j:=a.2.2.2.2.2.2.2.2.2.2.2.2.2.2.1;let i:=a.2.2.2.2.2.2.2.2.2.2.2.2.2.2.2.1;let h:=a.2.2.2.2.2.2.2.2.2.2.2.2.2.2.2.2.1;let g:=a.2.2.2.2.2.2.2.2.2.2.2.2.2.2.2.2.2.1;let f:=a.2.2.2.2.2.2.2.2.2.2.2.2.2.2.2.2.2.2.1;let b:=a.2.2.2.2.2.2.2.1;let c:=a.2.2.2.2.2.2.2.2.2.2.2.2.2.2.2.2.2.2.2.1;let e:=(ap g [(zcu (ix b a.1 []))]);let d:=(aT .mon (⟨j,i,h,g,f,a.2.2.2.2.1,a.2.2.2.2.2.1,c,a.2.2.2.2.2.2.1⟩:Mon)); (cond (ilt a.1 (ln b)) (cond (ilt a.1 2) (oN (inb a.1 (ln b)) (oN (zi3 (ix b a.1 [])) (oN (few (ln e)) (oN (zzm 4) (oN (few (ln (ap c [(zyC 4)]))) (l ((zK .i64 a.1 1),(a.2.1,(a.2.2.1,(a.2.2.2.1,(a.2.2.2.2.1,(a.2.2.2.2.2.1,(a.2.2.2.2.2.2.1,(b,(a.2.2.2.2.2.2.2.2.1,(a.2.2.2.2.2.2.2.2.2.1,(a.2.2.2.2.2.2.2.2.2.2.1,(a.2.2.2.2.2.2.2.2.2.2.2.1,(a.2.2.2.2.2.2.2.2.2.2.2.2.1,(a.2.2.2.2.2.2.2.2.2.2.2.2.2.1,(j,(i,(h,(e,(f,((ap c [(zyC 4)]),())))))))))))))))))))))))))) (some [d])) (some [d]))) (0,(0,(0,(0,(0,(0,(0,(k,([],([],([],([],([],([],((zgQ 8),((zjU 8),((rp 8 false),([],([],([],()))))))))))))))))))))))))
def z0z:FuncId->Nat->Option Tmpl:=zo [(95,0,{n:=36,tm:=[(0,.sl 0 []),(2,.lp 0 0),(3,.lp 1 0),(4,ti)],lo:=[(0,[.sl 1 [],.sl 2 [],.sl 3 [],.sl 4 [],.sl 5 [],ti,ti,.sl 6 [],ti]),(1,[.sl 7 [],.sl 8 [],.sl 9 [],.sl 10 [],.sl 11 [],ti,ti,.sl 12 [],ti])],ro:=[(0,(.sl .ins),false),(1,.slot,true),(2,(.sl .int),true),(3,.bool,true),(4,.guest,true),(5,.int,true),(6,.kept,true),(7,.slot,true),(8,(.sl .int),true),(9,.bool,true),(10,.guest,true),(11,.int,true),(12,.kept,true)]})]
theorem zYO (a:List lI)(f:zuK a=true):∃N,zNx N a=some [aT .mon (zMO a)]:=by
 have e:=zM.1 f;have c:=zcQ e.1;refine zcd fun N d=>?_;unfold zNx oN;conv=>zeta
 refine must rfl (must rfl (must rfl ?_));refine(zbl a (fun i (t:lG×lK)=>((i:Int),0,0,0,0,0,0,a,[],[],[],[],[],[],(zgQ 8),(zjU 8),(rp 8 false),t.1,[],t.2,())) _ (fun i (x:List Ins) (u:List Guest×List Kept) h=>bif ilt (i:Int) ((2:Nat):Int) then (cond (few (ln (ap u.1 [zeP x]))) (cond (few (ln (ap u.2 [zkD]))) (h (ap u.1 [zeP x],ap u.2 [zkD])) none) none) else z8i u) (fun (t:lG×lK)=>(some [(.agg (Ty.cells .mon (⟨(zgQ 8),(zjU 8),(rp 8 false),t.1,[],0,0,t.2,0⟩:Mon)))])) (fun i b t rec=>?_) (fun t rec=>?_) _ ([],[]) (d c.1)).trans ?_;{simp only [zbA b,zbh b,zbo b,zbg b c.1,cT];have g:zi3 a[i]=true:=zbd (e.2 _ (jL b));simp only[g,cT];rfl};{simp only [zbq,cF]};exact zPE 2 zeP (fun _=>zkD) z8i a 0 ([],[]) (by simpa using c.2) (by simpa using c.2)
theorem zRE:vN 95 zGK:=kF1 zUn zx zb0 zcH z0z zYO
def z7a:zX:=[(95,zGK)]++z6Z
theorem zUo:zL z7a:=zh zRE zUn
def z5m:List (List Int):=List.replicate 12 [0,0,0,0]
def zfw (a:List (List (List Ins))):Host:=⟨z5m,(a.take 3).map zgF,[],[]⟩
def zHy (a:List (List (List Ins))):Prop:=a.length<=1048576/\∀p∈a,SmPs p
@[simp] abbrev zsi (a:List (List (List Ins))):Bool:=pc (zHy a)
@[simp] abbrev zef (a:List (List (List Ins))):Host:=zfw a
def z3e (t:List Mon):OA:=some [AV.agg (zbk ⟨z5m,t,[],[]⟩)]
def ztW:Run:=rF1 (dS (.sl (.sl .ins))) fun b=>(zsi b,[aH (zef b)])
def zJs (N:Nat)(d:lQ):OA:=
 (oN (zp7 12) (iter (σ:=(Int×(lQ×(lM×(lN×(lE×(lE×(lM×(lN×(lE×(lE×Unit))))))))))) N (fun e a=>let c:=(ap a.2.2.2.2.2.2.2.1 [(zMO (ix a.2.1 a.1 []))]);let b:=(aH (⟨a.2.2.2.2.2.2.1,a.2.2.2.2.2.2.2.1,a.2.2.2.2.2.2.2.2.1,a.2.2.2.2.2.2.2.2.2.1⟩:Host)); (cond (ilt a.1 (ln a.2.1)) (cond (ilt a.1 3) (oN (inb a.1 (ln a.2.1)) (oN (zuK (ix a.2.1 a.1 [])) (oN (few (ln c)) (e ((zK .i64 a.1 1),(a.2.1,(a.2.2.1,(a.2.2.2.1,(a.2.2.2.2.1,(a.2.2.2.2.2.1,(a.2.2.2.2.2.2.1,(c,(a.2.2.2.2.2.2.2.2.1,(a.2.2.2.2.2.2.2.2.2.1,())))))))))))))) (some [b])) (some [b]))) (0,(d,([],([],([],([],((zjU 12),([],([],([],()))))))))))))
def zWJ:FuncId->Nat->Option Tmpl:=zo [(23,0,{n:=28,tm:=[(0,.sl 0 []),(2,.lp 0 0),(3,.lp 1 0),(4,ti)],lo:=[(0,[.sl 1 [],.sl 2 [],.sl 3 [],.sl 4 []]),(1,[.sl 5 [],.sl 6 [],.sl 7 [],.sl 8 []])],ro:=[(0,(.sl (.sl .ins)),false),(1,(.sl .int),true),(2,.mon,true),(3,.entry,true),(4,.entry,true),(5,(.sl .int),true),(6,.mon,true),(7,.entry,true),(8,.entry,true)]})]
theorem zV6 (a:List lP)(f:zsi a=true):∃N,zJs N a=some [aH (zef a)]:=by
 have e:=zM.1 f;have d:=zcQ e.1;refine zcd fun N c=>?_;unfold zJs oN;conv=>zeta
 refine must rfl ?_;refine(zbl a (fun i (t:lN)=>((i:Int),a,[],[],[],[],(zjU 12),t,[],[],())) _ (fun i (x:List lI) (t:List Mon) h=>bif ilt (i:Int) ((3:Nat):Int) then (cond (few (ln (ap t [zgF x]))) (h (ap t [zgF x])) none) else z3e t) (fun (t:lN)=>(some [(.agg (zbk (⟨(zjU 12),t,[],[]⟩:Host)))])) (fun i b t rec=>?_) (fun t rec=>?_) _ ([]) (c d.1)).trans ?_;{simp only [zbA b,zbh b,zbo b,zbg b d.1,cT];have g:zuK a[i]=true:=zbd (e.2 _ (jL b));simp only[g,cT];rfl};{simp only [zbq,cF]};exact zUJ 3 zgF z3e a 0 [] (by simpa using d.2)
theorem zxu:vN 23 ztW:=kF1 zUo zx zb0 zcH zWJ zV6
def z7b:zX:=[(23,ztW)]++z7a
theorem zUp:zL z7b:=zh zxu zUo
def ziL:Nat->Nat->Kept->Kept
 | 0,_,k=>k
 |n+1,i,k=>ziL n (i+1) (zbY k (i:Int))
def zjx (k:Kept):Kept:=ziL k.Known.length 0 k
theorem z4L (k:Kept)(p:Int):(zbY k p).Known.length=k.Known.length:=by unfold zbY;cases zdk k p;{rfl};{exact zgG _ _ _}
theorem zzv:∀(n i:Nat) (k:Kept),SmK k->SmK (ziL n i k)
 | 0,_,_,h=>h
 |n+1,i,k,h=>zzv n (i+1) _ (zqH h)
@[simp] abbrev zt4 (k:Kept):Bool:=pc (SmK k)
@[simp] abbrev zzi (k:Kept):Kept:=zjx k
def zx5:Run:=rF1 (dT .kept) fun b=>(zt4 b,[aT .kept (zzi b)])
def zDe (N:Nat)(c:Kept):OA:=
 (oN (zf7 c) (iter (σ:=(Int×(lB×(lS×(lB×(lS×Unit)))))) N (fun d a=>let b:=(⟨a.2.1,a.2.2.1⟩:Kept); (cond (ilt a.1 (ln a.2.1)) (oN (zmz b a.1) (d ((zK .i64 a.1 1),((zlM b a.1).Known,((zlM b a.1).Slots,(a.2.2.2.1,(a.2.2.2.2.1,()))))))) (some [(aT .kept b)]))) (0,((zdD c).Known,((zdD c).Slots,([],([],())))))))
def zQN:FuncId->Nat->Option Tmpl:=zo [(125,0,{n:=17,tm:=[(1,.lp 0 0),(2,.lp 1 0),(3,ti)],lo:=[(0,[.sl 0 [],.sl 1 []]),(1,[.sl 2 [],.sl 3 []])],ro:=[(0,.bool,true),(1,.slot,true),(2,.bool,true),(3,.slot,true)]})]
theorem zPz (a:Kept)(g:zt4 a=true):∃N,zDe N a=some [aT .kept (zzi a)]:=by
 have d:=zM.1 g;have f:=zcQ d.1;refine zcd fun N c=>?_;unfold zDe oN;conv=>zeta
 refine must (zbz ((zzQ _).2 d)) ?_;refine(zHS a.Known.length (fun i (k:Kept)=>((i:Int),(k.Known,(k.Slots,([],([],())))))) _ (fun i k=>SmK k/\k.Known.length=a.Known.length) (fun i k=>some [AV.agg (Ty.cells .kept (ziL (a.Known.length-i) i k))]) (fun i k rec e b h=>?_) (fun k rec b=>?_) N 0 a ⟨d,rfl⟩ (j4 _) (c f.1)).trans rfl;{refine must (zbA (by rw[b.2];exact e)) (must (zbd b.1) ?_);have q:=h (zbY k (i:Int)) ⟨zqH b.1,by rw[z4L];exact b.2⟩;rw[show a.Known.length-i=a.Known.length-(i+1)+1 by omega];rw[zbg e f.1];exact q};{refine zcS (by show ilt (a.Known.length:Int) (ln k.Known)=false;rw[ln,b.2];exact qH (by omega)) ?_;rw[k8];rfl}
theorem zIr:vN 125 zx5:=kF1 zUp zx zb0 zcH zQN zPz
def z7c:zX:=[(125,zx5)]++z7b
theorem zUq:zL z7c:=zh zIr zUp
def zw4:Nat->Nat->List Kept->List Kept
 | 0,_,l=>l
 |n+1,j,l=>zw4 n (j+1) (up l (j:Int) (zjx (ix l (j:Int) kZ)))
def zw5 (x:Mon)(n j:Nat):Mon:={x with Tables:=zw4 n j x.Tables}
def zpc:Nat->Nat->List Mon->List Mon
 | 0,_,t=>t
 |n+1,i,t=>zpc n (i+1) (up t (i:Int) (zw5 (ix t (i:Int) mZ) (ix t (i:Int) mZ).Tables.length 0))
def cold (h:Host):Host:=⟨h.Memory,zpc h.Mons.length 0 h.Mons,[],[]⟩
theorem zQr:∀(n j:Nat) (l:List Kept),j+n<=l.length->zFb l->zFb (zw4 n j l)
 | 0,_,_,_,h=>h
 |n+1,j,l,b,h=>by have a:j<l.length:=(by omega);refine zQr n (j+1) _ (by rw[zgG];omega) (zBb h (zzv _ _ _ ?_));rw[zbo a];exact h.2 _ (jL a)
theorem zQt {x:Mon}(h:zfd x){n j:Nat}(a:j+n<=x.Tables.length):zfd (zw5 x n j):=⟨h.1,h.2.1,h.2.2.1,h.2.2.2.1,h.2.2.2.2.1,zQr n j _ a h.2.2.2.2.2⟩
@[simp] abbrev zMK (h:Host):Bool:=pc (zcc h)
@[simp] abbrev zZL (h:Host):Host:=cold h
def zP3:Run:=rF1 dH fun b=>(zMK b,[aH (zZL b)])
def zXc (N:Nat)(d:Host):OA:=
 (oN (zbW d) (iter (σ:=(Int×(lM×(lN×(lE×(lE×(lM×(lN×(lE×(lE×Unit)))))))))) N (fun g b=>(cond (ilt b.1 (ln b.2.2.1)) (iter (σ:=(Int×(Int×(lM×(lN×(lE×(lE×(lM×(lN×(lE×(lE×Unit))))))))))) N (fun h a=>let e:=(inb a.1 (ln a.2.2.2.1));let c:=(ix a.2.2.2.1 a.1 zi);let f:=(ix c.Tables a.2.1 zd9); (oN e (cond (ilt a.2.1 (ln c.Tables)) (oN e (oN e (oN (inb a.2.1 (ln c.Tables)) (oN (zt4 f) (oN (inb a.2.1 (ln c.Tables)) (share (up a.2.2.2.1 a.1 ({c with Tables:=(up c.Tables a.2.1 (zzi f))}:Mon)) (fun i=>(h (a.1,((zK .i64 a.2.1 1),(a.2.2.1,(i,(a.2.2.2.2.1,(a.2.2.2.2.2.1,(a.2.2.2.2.2.2.1,(a.2.2.2.2.2.2.2.1,(a.2.2.2.2.2.2.2.2.1,(a.2.2.2.2.2.2.2.2.2.1,())))))))))))))))))) (g ((zK .i64 a.1 1),(a.2.2.1,(a.2.2.2.1,(a.2.2.2.2.1,(a.2.2.2.2.2.1,(a.2.2.2.2.2.2.1,(a.2.2.2.2.2.2.2.1,(a.2.2.2.2.2.2.2.2.1,(a.2.2.2.2.2.2.2.2.2.1,()))))))))))))) (b.1,(0,(b.2.1,(b.2.2.1,(b.2.2.2.1,(b.2.2.2.2.1,(b.2.2.2.2.2.1,(b.2.2.2.2.2.2.1,(b.2.2.2.2.2.2.2.1,(b.2.2.2.2.2.2.2.2.1,()))))))))))) (some [(aH (⟨b.2.1,b.2.2.1,[],[]⟩:Host))]))) (0,((zu d).Memory,((zu d).Mons,((zu d).Buffer,((zu d).IoBuffer,([],([],([],([],())))))))))))
def z6t:FuncId->Nat->Option Tmpl:=zo [(46,0,{n:=48,tm:=[(1,.lp 0 0),(2,.lp 1 0),(3,ti)],lo:=[(0,[.sl 0 [],.sl 1 [],.sl 2 [],.sl 3 []]),(1,[.sl 4 [],.sl 5 [],.sl 6 [],.sl 7 []])],ro:=[(0,(.sl .int),true),(1,.mon,true),(2,.entry,true),(3,.entry,true),(4,(.sl .int),true),(5,.mon,true),(6,.entry,true),(7,.entry,true)]}),(46,2,{n:=48,tm:=[(1,.lp 0 0),(2,.lp 1 0),(3,ti),(4,ti)],lo:=[(0,[.sl 0 [],.sl 1 [],.sl 2 [],.sl 3 []]),(1,[.sl 4 [],.sl 5 [],.sl 6 [],.sl 7 []])],ro:=[(0,(.sl .int),true),(1,.mon,true),(2,.entry,true),(3,.entry,true),(4,(.sl .int),true),(5,.mon,true),(6,.entry,true),(7,.entry,true)]})]
theorem z5j (a:Host)(m:zMK a=true):∃N,zXc N a=some [aH (zZL a)]:=by
 have v:=(zQ a).1 (zM.1 m);have s:=zcQ v.2.1.1;refine zcd fun N f=>?_;unfold zXc oN;conv=>zeta
 refine must m ?_;refine(zHS a.Mons.length (fun i (t:List Mon)=>((i:Int),(a.Memory,(t,(a.Buffer,(a.IoBuffer,([],([],([],([],())))))))))) _ (fun i t=>zsJ t/\t.length=a.Mons.length) (fun i t=>some [AV.agg (zbk ⟨a.Memory,zpc (a.Mons.length-i) i t,[],[]⟩)]) (fun i t rec n e x=>?_) (fun t rec e=>?_) N 0 a.Mons ⟨v.2.1,rfl⟩ (j4 _) (f s.1)).trans rfl
 .have hit:i<t.length:=(by rw[e.2];exact n);have l:zfd (ix t (i:Int) mZ):=by rw[zbo hit];exact e.1.2 _ (jL hit)
  have r:=zcQ l.2.2.2.2.2.1;refine must (zbA hit) ?_;refine(zHS (ix t (i:Int) mZ).Tables.length (fun j (u:List Mon)=>((i:Int),((j:Int),(a.Memory,(u,(a.Buffer,(a.IoBuffer,([],([],([],([],())))))))))))
   _ (fun j u=>u.length=t.length/\zfd (ix u (i:Int) mZ)/\(ix u (i:Int) mZ).Tables.length=(ix t (i:Int) mZ).Tables.length)
   (fun j u=>rec (((i+1:Nat):Int),(a.Memory,(up u (i:Int) (zw5 (ix u (i:Int) mZ) ((ix t (i:Int) mZ).Tables.length-j) j),(a.Buffer,(a.IoBuffer,([],([],([],([],()))))))))))
   (fun j u h p c k=>?_) (fun u h c=>?_) N 0 t ⟨rfl,l,rfl⟩ (j4 _) (f r.1)).trans ?_
  .have b:i<u.length:=(by rw[c.1];exact hit);have d:j<(ix u (i:Int) mZ).Tables.length:=(by rw[c.2.2];exact p);have g:SmK (ix (ix u (i:Int) mZ).Tables (j:Int) kZ):=by rw[zbo d];exact c.2.1.2.2.2.2.2.2 _ (jL d)
   refine must (zbh b) (must (zbA d) (must (zbh b) (must (zbh b) (must (zbh d) (must (zbd g) (must (zbh d) (shr ?_)))))));have w:zfd {ix u (i:Int) mZ with Tables:=up (ix u (i:Int) mZ).Tables (j:Int) (zjx (ix (ix u (i:Int) mZ).Tables (j:Int) kZ))} :=
    ⟨c.2.1.1,c.2.1.2.1,c.2.1.2.2.1,c.2.1.2.2.2.1,c.2.1.2.2.2.2.1,zBb c.2.1.2.2.2.2.2 (zzv _ _ _ g)⟩
   have q:=k (up u (i:Int) {ix u (i:Int) mZ with Tables:=up (ix u (i:Int) mZ).Tables (j:Int) (zjx (ix (ix u (i:Int) mZ).Tables (j:Int) kZ))}) ⟨by rw[zgG];exact c.1,by rw[zdX b];exact w,by rw[zdX b];simp only[zgG];exact c.2.2⟩;rw[zbg p r.1];refine q.trans ?_;rw[zdX b,zyL,show (ix t (i:Int) mZ).Tables.length-j=(ix t (i:Int) mZ).Tables.length-(j+1)+1 by omega];rfl
  {have b:i<u.length:=(by rw[c.1];exact hit);refine must (zbh b) (zcS (by show ilt ((ix t (i:Int) mZ).Tables.length:Int) (ln (ix u (i:Int) mZ).Tables)=false;rw[ln,c.2.2];exact qH (by omega)) ?_);rw[zbg n s.1,k8];show rec (_,(a.Memory,(u,_)))=rec (_,(a.Memory,(up u (i:Int) (ix u (i:Int) mZ),_)));rw[zTE b]};{have q:=x (up t (i:Int) (zw5 (ix t (i:Int) mZ) (ix t (i:Int) mZ).Tables.length 0)) ⟨zjn e.1 (zQt l (by omega)),by rw[zgG];exact e.2⟩;refine q.trans ?_;rw[show a.Mons.length-i=a.Mons.length-(i+1)+1 by omega];rfl}
 {refine zcS (by show ilt (a.Mons.length:Int) (ln t)=false;rw[ln,e.2];exact qH (by omega)) ?_;rw[k8];rfl}
theorem zX9:vN 46 zP3:=kF1 zUq zx zb0 zcH z6t z5j
def z7d:zX:=[(46,zP3)]++z7c
theorem z7e:zL z7d:=zh zX9 zUq
def z7f:zX:=z7d
theorem zUr:zL z7f:=z7e
theorem zEa:∀(n i:Nat) (t:List Mon),i+n<=t.length->zsJ t->zsJ (zpc n i t)
 | 0,_,_,_,h=>h
 |n+1,i,t,b,h=>by have a:i<t.length:=(by omega);refine zEa n (i+1) _ (by rw[zgG];omega) (zjn h (zQt ?_ (by omega)));rw[zbo a];exact h.2 _ (jL a)
theorem zbbe {h:Host}(a:SmH h):SmH (cold h):=⟨a.1,zEa _ _ _ (by omega) a.2.1,by simp[cold],by simp[cold]⟩
theorem zl3 {h:Host}{m:Int}{b:Bare}(c:SmH h)(d:zcg h m=true->SmB b):SmH (zd7 h m b):=by unfold zd7;cases a:zcg h m;{exact c};{exact zMS c (zbV.1 a).2 (d a).2.1}
theorem z9a {h:Host}{m g p:Int}(c:SmH h):SmH (zls h m g p):=by unfold zls;cases e:zcg h m;{exact c};{cases l:zb7 (zD h m) g (hasB p 4);{exact c};{have d:=(zbV.1 e).2;have f:=zoH c d;have k:SmB (chg (zD h m) g (hasB p 4) (zdW (gAt (zD h m) g) p)):=zrE f (zQp _ (zkw _ f));have b:=zMS c d k.2.1;have i:=zXp (chg (zD h m) g (hasB p 4) (zdW (gAt (zD h m) g) p)) d;have j:=zUy c e (chg (zD h m) g (hasB p 4) (zdW (gAt (zD h m) g) p)) l;have a:=b.2.1.2 _ (zbD i mZ);simp only[cT];exact⟨b.1,zjn b.2.1 ⟨a.1,a.2.1,a.2.2.1,a.2.2.2.1,a.2.2.2.2.1,zBb a.2.2.2.2.2 (zqH (a.2.2.2.2.2.2 _ (zbD j _)))⟩,qU (zBI _ _ _) b.2.2.1,qU (zBI _ _ _) b.2.2.2⟩}}
theorem zbbf {h:Host}{m p c v:Int}(e:SmH h):SmH (zol h m p c v):=by unfold zol;cases a:zfg h m p c v;{exact e};{have f:zcE h m p=true:=(by unfold zfg at a;cases b:zcE h m p;{rw [b]at a;cases a};{rfl});obtain⟨g,i,b⟩:=zkH.1 f;have d:=(zwI (n:=2) (zff e g) i b).1.1;exact⟨zCP d.1,d.2⟩}
theorem zZb {h:Host}{m g c a:Int}(b:List Entry)(i:Bool)(f:SmH h)(d:zbO h m g c a=true):SmH (lookOf h b m g c a i).1:=by have hg:zbZ h m g=true:=(by unfold zbO at d;cases e:zbZ h m g;{rw [e]at d;cases d};{rfl});exact(zAb f hg).shape.1
theorem zbez {h:Host}{m g a v:Int}(e:SmH h):SmH (zmh h m g a v):=by unfold zmh;cases b:zfB h m g a v;{exact e};{have f:zbO h m g (zbf a) 2=true:=(by unfold zfB at b;cases c:win a 0 15;{rw [c]at b;cases b};{cases d:win v 0 99;{rw [c,d]at b;cases b};{rw [c,d]at b;exact b}});have c:=zZb h.IoBuffer true e f;exact⟨zCP c.1,c.2⟩}
theorem zbbg {h:Host}{m g a:Int}(d:SmH h):SmH (zjB h m g a):=by unfold zjB;cases b:zeJ h m g a;{exact d};{have e:zbO h m g (zbf a) 1=true:=(by unfold zeJ at b;cases c:win a 0 15;{rw [c]at b;cases b};{rw [c]at b;exact b});exact zZb h.IoBuffer true d e}
theorem zbeA {h:Host}{m p:Int}(a:SmH h):SmH (zq7 h m p):=by unfold zq7;cases b:zcE h m p;{exact a};{obtain⟨c,d,e⟩:=zkH.1 b;cases zk2 h m p;{exact(zQk (zff a c).1 d).1};{exact a}}
theorem zbfz {h:Host}{m p:Int}(a:SmH h):SmH (zv3 h m p):=by unfold zv3;cases b:zcE h m p;{exact a};{obtain⟨c,d,e⟩:=zkH.1 b;cases zk2 h m p;{exact a};{exact(zkv (zff a c) d e).1.1}}
theorem z9e {h:Host}{m t:Int}(a:SmH h):SmH (zj4 h m t):=by unfold zj4;cases zb3 h;{exact a};{cases c:hasB m (ln h.Mons);{exact a};{cases win t 0 3;{exact a};{have b:zfd (ix h.Mons m mZ):=a.2.1.2 _ (zbD c mZ);exact⟨a.1,zjn a.2.1 ⟨b.1,b.2.1,b.2.2.1,b.2.2.2.1,b.2.2.2.2.1,b.2.2.2.2.2⟩,a.2.2⟩}}}
def zvY (h:Host)(a:GAct):Host:=bif ieq a.Kind 1 then (zbG h a.M a.G).1 else (cond (ieq a.Kind 2) (z1P h a.M a.G a.X ⟨a.Y,a.Z⟩) (cond (ieq a.Kind 3) (zls h a.M a.G a.X) (cond (ieq a.Kind 4) (zSU h a.M a.G a.X) (cond (ieq a.Kind 5) (zSY h a.M a.G) (cond (ieq a.Kind 6) (zSW h a.M a.G a.X) (cond (ieq a.Kind 7) (z1N h a.M a.G ⟨a.X,a.Y,ieq a.Z 1⟩) (cond (ieq a.Kind 8) (zol h a.M a.X a.Y a.Z) (cond (ieq a.Kind 9) (zZc h a.M a.X) (cond (ieq a.Kind 10) (z1K h a.M) (cond (ieq a.Kind 11) (zmh h a.M a.G a.X a.Y) (zjB h a.M a.G a.X)))))))))))
def zFQ (h:Host)(a:GAct):Told:=bif ieq a.Kind 1 then ⟨(zbG h a.M a.G).2,0⟩ else (cond (ieq a.Kind 2) ⟨z1Q h a.M a.G a.X ⟨a.Y,a.Z⟩,0⟩ (cond (ieq a.Kind 3) ⟨zWt h a.M a.G a.X,0⟩ (cond (ieq a.Kind 4) ⟨zSV h a.M a.G a.X,0⟩ (cond (ieq a.Kind 5) ⟨zSZ h a.M a.G,0⟩ (cond (ieq a.Kind 6) ⟨zSX h a.M a.G a.X,0⟩ (cond (ieq a.Kind 7) ⟨z1O h a.M a.G ⟨a.X,a.Y,ieq a.Z 1⟩,0⟩ (cond (ieq a.Kind 8) ⟨zfg h a.M a.X a.Y a.Z,0⟩ (cond (ieq a.Kind 9) ⟨zZd h a.M a.X,0⟩ (cond (ieq a.Kind 10) ⟨z1M h a.M,z1L h a.M⟩ (cond (ieq a.Kind 11) ⟨zfB h a.M a.G a.X a.Y,0⟩ (⟨zeJ h a.M a.G a.X,zlt h a.M a.G a.X⟩)))))))))))
def znp (h:Host)(a:GAct):Host:=bif ieq a.Kind 13 then zq7 h a.M a.X else (cond (ieq a.Kind 14) (zv3 h a.M a.X) (cond (ieq a.Kind 15) (zvB h a.M a.X) (cond (ieq a.Kind 16) (zj4 h a.M a.X) (cold h))))
def zPO (h:Host)(a:GAct):Told:=bif ieq a.Kind 13 then ⟨zGa h a.M a.X,0⟩ else (cond (ieq a.Kind 14) ⟨zMw h a.M a.X,0⟩ (cond (ieq a.Kind 15) ⟨zcE h a.M a.X,0⟩ (cond (ieq a.Kind 16) ⟨zCK h a.M a.X,0⟩ (⟨true,0⟩))))
def zeA (h:Host)(a:GAct):Host:=bif win a.Kind 1 17 then (cond (win a.Kind 13 17) (znp h a) (zvY h a)) else h
def zjA (h:Host)(a:GAct):Told:=bif win a.Kind 1 17 then (cond (win a.Kind 13 17) (zPO h a) (zFQ h a)) else ⟨false,0⟩
theorem z9d {h:Host}{a:GAct}(b:SmH h):SmH (znp h a):=by unfold znp;cases ieq a.Kind 13;{cases ieq a.Kind 14;{cases ieq a.Kind 15;{cases ieq a.Kind 16;{exact zbbe b};{exact z9e b}};{exact z9b b}};{exact zbfz b}};{exact zbeA b}
theorem z9c {h:Host}{a:GAct}(c:SmH h):SmH (zvY h a):=by have d:zcg h a.M=true->SmB (zD h a.M):=fun b=>zoH c (zbV.1 b).2;unfold zvY;cases ieq a.Kind 1;{cases ieq a.Kind 2;{cases ieq a.Kind 3;{cases ieq a.Kind 4;{cases ieq a.Kind 5;{cases ieq a.Kind 6;{cases ieq a.Kind 7;{cases ieq a.Kind 8;{cases ieq a.Kind 9;{cases ieq a.Kind 10;{cases ieq a.Kind 11;{exact zbbg c};{exact zbez c}};{exact zl3 c (fun b=>zTg (d b))}};{exact zl3 c (fun b=>zCN _ (d b))}};{exact zbbf c}};{exact zl3 c (fun b=>z3x _ _ (d b))}};{exact zl3 c (fun b=>zQn _ _ (d b))}};{exact zl3 c (fun b=>zQo _ (d b))}};{exact zl3 c (fun b=>zQm _ _ (d b))}};{exact z9a c}};{exact zl3 c (fun b=>z3y _ _ _ (d b))}};{exact(z8S a.M a.G c).sm}
theorem z3B {h:Host}{a:GAct}(b:SmH h):SmH (zeA h a):=by unfold zeA;cases win a.Kind 1 17;{exact b};{cases win a.Kind 13 17;{exact z9c b};{exact z9d b}}
@[simp] abbrev zwG (h:Host)(a:GAct):Bool:=pc (zcc h)
@[simp] abbrev zlZ (h:Host)(a:GAct):Host:=znp h a
@[simp] abbrev zjg (h:Host)(a:GAct):Told:=zPO h a
def zA2:Run:=rF2 dH (dT .act) fun b c=>(zwG b c,[aH (zlZ b c),aT .told (zjg b c)])
def zFa (N:Nat)(c:Host)(a:GAct):OA:=
 (cond (ieq a.Kind 13) (oN (zzn c a.M a.X) (some [(aH (zsn c a.M a.X)),(.agg [(.b (zso c a.M a.X)),(.i .i64 0)])])) (cond (ieq a.Kind 14) (oN (zCu c a.M a.X) (some [(aH (zuM c a.M a.X)),(.agg [(.b (zuN c a.M a.X)),(.i .i64 0)])])) (cond (ieq a.Kind 15) (oN (zG4 c a.M a.X) (some [(aH (zyc c a.M a.X)),(.agg [(.b (zyd c a.M a.X)),(.i .i64 0)])])) (cond (ieq a.Kind 16) (oN (zwA c a.M a.X) (some [(aH (zp8 c a.M a.X)),(.agg [(.b (zp9 c a.M a.X)),(.i .i64 0)])])) (oN (zMK c) (some [(aH (zZL c)),(.agg [(.b true),(.i .i64 0)])]))))))
theorem zSS (a:Host)(b:GAct)(c:zwG a b=true):∃N,zFa N a b=some [aH (zlZ a b),aT .told (zjg a b)]:=by have d:=zM.1 c;refine⟨0,?_⟩;unfold zFa oN;refine br (fun _=>mu ?_) (fun _=>br (fun _=>mu ?_) (fun _=>br (fun _=>mu ?_) (fun _=>br (fun _=>mu ?_) (fun _=>mu ?_))));all_goals first|rfl|(simp only [*,zlZ,zjg,znp,zPO,cT,cF]<;>rfl)|simp_all[Ty.cells,zlZ,zjg,znp,zPO]
theorem zL4:vN 325 zA2:=kF2 zUr zx zb0 zcH (zo []) zSS
def z7g:zX:=[(325,zA2),(323,zKg),(324,zDJ),(327,zKh)]++z7f
theorem zUs:zL z7g:=zh zL4 (zh zVq (zh zOE (zh zVr zUr)))
@[simp] abbrev zse (h:Host)(a:GAct):Bool:=pc (zcc h)
@[simp] abbrev znw (h:Host)(a:GAct):Host:=zeA h a
@[simp] abbrev znx (h:Host)(a:GAct):Told:=zjA h a
def ztU:Run:=rF2 dH (dT .act) fun b c=>(zse b c,[aH (znw b c),aT .told (znx b c)])
def zJp (N:Nat)(c:Host)(a:GAct):OA:=
 let d:=(⟨a.Y,a.Z⟩:Slot); (oN (zG2 a) (cond (nB (zA3 a)) (oN (zbW c) (some [(aH (zu c)),(.agg [(.b false),(.i .i64 0)])])) (oN (zzl a.Kind) (cond (ztf a.Kind) (oN (zwG c a) (some [(aH (zlZ c a)),(.agg [(.b (zjg c a).Ok),(.i .i64 (zjg c a).N)])])) (cond (ieq a.Kind 1) (oN (zeG c a.M a.G) (some [(aH (zG6 c a.M a.G)),(.agg [(.b (zG7 c a.M a.G)),(.i .i64 0)])])) (cond (ieq a.Kind 2) (oN (zzk c a.M a.G a.X d) (some [(aH (zsj c a.M a.G a.X d)),(.agg [(.b (zsk c a.M a.G a.X d)),(.i .i64 0)])])) (cond (ieq a.Kind 3) (oN (zt5 c a.M a.G a.X) (some [(aH (zn2 c a.M a.G a.X)),(.agg [(.b (zn3 c a.M a.G a.X)),(.i .i64 0)])])) (cond (ieq a.Kind 4) (oN (zru c a.M a.G a.X) (some [(aH (zmB c a.M a.G a.X)),(.agg [(.b (zmC c a.M a.G a.X)),(.i .i64 0)])])) (cond (ieq a.Kind 5) (oN (zrx c a.M a.G) (some [(aH (zmF c a.M a.G)),(.agg [(.b (zmG c a.M a.G)),(.i .i64 0)])])) (cond (ieq a.Kind 6) (oN (zrv c a.M a.G a.X) (some [(aH (zmD c a.M a.G a.X)),(.agg [(.b (zmE c a.M a.G a.X)),(.i .i64 0)])])) (cond (ieq a.Kind 7) (oN (zG3 a) (oN (zzj c a.M a.G (zrq a)) (some [(aH (zsf c a.M a.G (zrq a))),(.agg [(.b (zsg c a.M a.G (zrq a))),(.i .i64 0)])]))) (cond (ieq a.Kind 8) (oN (zww c a.M a.X a.Y a.Z) (some [(aH (zp2 c a.M a.X a.Y a.Z)),(.agg [(.b (zp3 c a.M a.X a.Y a.Z)),(.i .i64 0)])])) (cond (ieq a.Kind 9) (oN (zp4 c a.M a.X) (some [(aH (zi4 c a.M a.X)),(.agg [(.b (zlO c a.M a.X)),(.i .i64 0)])])) (cond (ieq a.Kind 10) (oN (zsd c a.M) (some [(aH (zkM c a.M)),(.agg [(.b (znv c a.M)),(.i .i64 (znu c a.M))])])) (cond (ieq a.Kind 11) (oN (zsh c a.M a.G a.X a.Y) (some [(aH (zny c a.M a.G a.X a.Y)),(.agg [(.b (znz c a.M a.G a.X a.Y)),(.i .i64 0)])])) (oN (zp5 c a.M a.G a.X) (some [(aH (zi5 c a.M a.G a.X)),(.agg [(.b (zlQ c a.M a.G a.X)),(.i .i64 (zlP c a.M a.G a.X))])])))))))))))))))))
theorem zV3 (a:Host)(b:GAct)(c:zse a b=true):∃N,zJp N a b=some [aH (znw a b),aT .told (znx a b)]:=by
 have d:=zM.1 c;refine⟨0,?_⟩;unfold zJp oN nB;conv=>zeta
 refine must rfl (brN (fun _=>mu ?_) (fun _=>must rfl (br (fun _=>mu ?_) (fun _=>br (fun _=>mu ?_) (fun _=>br (fun _=>mu ?_) (fun _=>br (fun _=>mu ?_) (fun _=>br (fun _=>mu ?_) (fun _=>br (fun _=>mu ?_) (fun _=>br (fun _=>mu ?_) (fun _=>br (fun _=>must rfl (mu ?_)) (fun _=>br (fun _=>mu ?_) (fun _=>br (fun _=>mu ?_) (fun _=>br (fun _=>mu ?_) (fun _=>br (fun _=>mu ?_) (fun _=>mu ?_)))))))))))))));all_goals first|rfl|(simp only [*,znw,znx,zeA,zjA,zvY,zFQ,cT,cF]<;>rfl)|simp_all[Ty.cells,znw,znx,zeA,zjA,zvY,zFQ]
theorem zxs:vN 298 ztU:=kF2 zUs zx zb0 zcH (zo []) zV3
def z7h:zX:=[(298,ztU)]++z7g
theorem zUt:zL z7h:=zh zxs zUs
def zGg:List GAct->Host×List Told->Host×List Told
 |[],u=>u
 |a::l,u=>zGg l (zeA u.1 a,ap u.2 [zjA u.1 a])
def zBW (a:List (List (List Ins)))(l:List GAct):Host×List Told:=zGg (l.take 80) (zfw a,[])
abbrev HSt:Type:=(List Told)×(List (List Int))×(List Mon)×(List Entry)×(List Entry)
def hOf (t:HSt):Host:=⟨t.2.1,t.2.2.1,t.2.2.2.1,t.2.2.2.2⟩
def tOf (u:Host×List Told):HSt:=(u.2,u.1.Memory,u.1.Mons,u.1.Buffer,u.1.IoBuffer)
def zCg (t:HSt):OA:=some [AV.agg (zbk (hOf t)),AV.one (.s .told t.1)]
theorem zTi {e:List (List (List Ins))}(h:zHy e):SmH (zfw e):=by refine⟨show SmM z5m from ⟨by decide,by decide⟩,⟨?_,?_⟩,by simp[zfw],by simp[zfw]⟩;{simp only [zfw,uM,vL];omega};{intro x d;simp only[zfw,jE]at d;obtain⟨p,f,rfl⟩:=d;have b:=h.2 p (jV f);refine⟨show zwK.length<=1048576 by decide,show SmM zS2 from ⟨by decide,by decide⟩,show (rp 8 false).length<=1048576 by decide,⟨?_,?_⟩,by simp[zgF],⟨?_,?_⟩⟩;{simp only [zgF,uM,vL];omega};{intro y a;simp only[zgF,jE]at a;obtain⟨q,c,rfl⟩:=a;exact⟨b.2 q (jV c),show zl1.length<=1048576 by decide,show zl1.length<=1048576 by decide,by simp[zeP]⟩};{simp only [zgF,uM,vL];omega};{intro y a;simp only[zgF,jE]at a;obtain⟨q,c,rfl⟩:=a;exact⟨show (rp 4 false).length<=1048576 by decide,show zl1.length<=1048576 by decide⟩}}
theorem zJZ {c:Host->GAct->Bool}(d:∀h a,SmH h->c h a=true)(m:Nat):∀(l:List GAct) (i:Nat) (u:Host×List Told),SmH u.1->u.2.length+l.length<=2147483648->
 goL (fun (i:Nat) x (t:HSt) n=>bif ilt (i:Int) (m:Int) then (cond (c (hOf t) x) (cond (few (ln (ap t.1 [zjA (hOf t) x]))) (n (ap t.1 [zjA (hOf t) x],(zeA (hOf t) x).Memory,(zeA (hOf t) x).Mons,(zeA (hOf t) x).Buffer,(zeA (hOf t) x).IoBuffer)) none) none) else zCg t) zCg l i (tOf u)=zCg (tOf (zGg (l.take (m-i)) u))
 |[],i,u,_,_=>by simp[goL,zGg]
 |a::l,i,u,e,k=>by simp only[q0]at k;have g:few (ln (ap u.2 [zjA u.1 a]))=true:=zgE (by simp[ap];omega);have j:hOf (tOf u)=u.1:=rfl;have f:(tOf u).1=u.2:=rfl;by_cases h:i<m;{have b:ilt (i:Int) (m:Int)=true:=qJ (by omega);simp only[goL,b,j,f,g,d _ _ e,cT];refine(zJZ d m l (i+1) (zeA u.1 a,ap u.2 [zjA u.1 a]) (z3B e) (by simp[ap];omega)).trans ?_;rw[show m-i=m-(i+1)+1 by omega];rfl};{have b:ilt (i:Int) (m:Int)=false:=qH (by omega);simp only[goL,b,cF];rw[show m-i=0 by omega];rfl}
@[simp] abbrev zwv (a:List (List (List Ins)))(l:List GAct):Bool:=pc (zHy a/\l.length<=1048576)
@[simp] abbrev zwu (a:List (List (List Ins)))(l:List GAct):Host:=(zBW a l).1
@[simp] abbrev zG5 (a:List (List (List Ins)))(l:List GAct):List Told:=(zBW a l).2
def zAS:Run:=rF2 (dS (.sl (.sl .ins))) (dS .act) fun b c=>(zwv b c,[aH (zwu b c),aS .told (zG5 b c)])
def zEW (N:Nat)(b:lQ)(g:lA):OA:=
 (oN (zsi b) (iter (σ:=(Int×(lA×(lT×(lM×(lN×(lE×(lE×(lM×(lN×(lE×(lE×Unit)))))))))))) N (fun h a=>let e:=(ix a.2.1 a.1 zbgc);let c:=(⟨a.2.2.2.2.2.2.2.1,a.2.2.2.2.2.2.2.2.1,a.2.2.2.2.2.2.2.2.2.1,a.2.2.2.2.2.2.2.2.2.2.1⟩:Host);let f:=(ap a.2.2.1 [(znx c e)]);let d:=(znw c e); (cond (ilt a.1 (ln a.2.1)) (cond (ilt a.1 80) (oN (inb a.1 (ln a.2.1)) (oN (zse c e) (oN (few (ln f)) (h ((zK .i64 a.1 1),(a.2.1,(f,(a.2.2.2.1,(a.2.2.2.2.1,(a.2.2.2.2.2.1,(a.2.2.2.2.2.2.1,(d.Memory,(d.Mons,(d.Buffer,(d.IoBuffer,()))))))))))))))) (some [(aH c),(aS .told a.2.2.1)])) (some [(aH c),(aS .told a.2.2.1)]))) (0,(g,([],([],([],([],([],((zef b).Memory,((zef b).Mons,((zef b).Buffer,((zef b).IoBuffer,())))))))))))))
def zTw:FuncId->Nat->Option Tmpl:=zo [(240,0,{n:=39,tm:=[(1,.sl 0 []),(4,.lp 0 0),(6,.lp 1 0),(7,.sl 1 []),(8,ti)],lo:=[(0,[.sl 2 [],.sl 3 [],.sl 4 [],.sl 5 []]),(1,[.sl 6 [],.sl 7 [],.sl 8 [],.sl 9 []])],ro:=[(0,.act,false),(1,.told,true),(2,(.sl .int),true),(3,.mon,true),(4,.entry,true),(5,.entry,true),(6,(.sl .int),true),(7,.mon,true),(8,.entry,true),(9,.entry,true)]})]
theorem zSE (b:List lP)(c:List GAct)(k:zwv b c=true):∃N,zEW N b c=some [aH (zwu b c),aS .told (zG5 b c)]:=by
 obtain⟨j,g⟩:=zM.1 k;have f:=zcQ g;refine zcd fun N e=>?_;unfold zEW oN;conv=>zeta
 refine must (zbd j) ?_;refine(zbl c (fun i (t:lT×lM×lN×lE×lE)=>((i:Int),c,t.1,[],[],[],[],t.2.1,t.2.2.1,t.2.2.2.1,t.2.2.2.2,())) _ (fun i (x:GAct) (t:HSt) m=>bif ilt (i:Int) ((80:Nat):Int) then (cond (zse (hOf t) x) (cond (few (ln (ap t.1 [zjA (hOf t) x]))) (m (ap t.1 [zjA (hOf t) x],(zeA (hOf t) x).Memory,(zeA (hOf t) x).Mons,(zeA (hOf t) x).Buffer,(zeA (hOf t) x).IoBuffer)) none) none) else zCg t) (fun (t:lT×lM×lN×lE×lE)=>(some [(.agg (zbk (⟨t.2.1,t.2.2.1,t.2.2.2.1,t.2.2.2.2⟩:Host))),(.one (.s .told t.1))])) (fun i d t rec=>?_) (fun t rec=>?_) _ ([],(zef b).Memory,(zef b).Mons,(zef b).Buffer,(zef b).IoBuffer) (e f.1)).trans ?_;{simp only [zbA d,zbh d,zbo d,zbg d f.1,cT];rfl};{simp only [zbq,cF]};exact zJZ (fun h a l=>zbd ((zQ h).2 l)) 80 c 0 (zfw b,[]) (zTi j) (by simpa using f.2)
theorem zLM:vN 240 zAS:=kF2 zUt zx zb0 zcH zTw zSE
def zXJ:zX:=[(240,zAS)]++z7h
theorem zJP:zL zXJ:=zh zLM zUt
def z3V (h:Host):Prop:=∃a l,zHy a/\(1<=a.length/\∀p∈a,1<=p.length/\∀x∈p,zda x=true)/\h=(zBW a l).1
theorem zMG {p:List Ins}(h:zda p=true):p.length<=12:=by unfold zda at h;cases a:p.all zdU with|false=>rw[a]at h;cases h|true=>rw[a,cT]at h;have b:=(zfv.1 h).2;unfold ln at b;omega
def zyV (N:Nat)(c:Cur)  : OA :=
 let a:=({ (zmS c) with b:=c.b}:Cur); (oN (zqA c) (oN (znJ a 20) (oN (zwv (zwF c) (ztm a 20)) (some [(.agg [(.s .u8 c.b),(.i .i64 (znK a 20).i),(.i .i64 (znK a 20).h)]),(aH (zwu (zwF c) (ztm a 20)))]))))
def zqC (c:Cur)(s:Cur)(a:Host):Prop:=(∃N,zyV N c=some (AV.agg (zbT s)::[aH a]))/\(s.b=c.b/\0<=s.i)/\(z3V a)
def znH (c:Cur)  : Bool:=wC (zqC c)
def ziC (c:Cur)  : Cur:=wS (zqC c)
def ztl (c:Cur)  : Host:=wV (zqC c)
theorem zKA {c:Cur}(h:znH c=true):zqC c (ziC c) (ztl c):=wG h
theorem z2j (c:Cur)  : 0<=(ziC c).i:=wP fun h=>h.2.1.2
theorem z2i (c:Cur)(h:∃N,Ends (wE (fun a=>aH a) c.b fun a=>z3V a) (zyV N c)):znH c=true:=wI (fun _ _ h=>h) h
def zAt:zdr:=rP0 fun c=>(znH c,ziC c,[aH (ztl c)])
theorem zO2:zbN Tryz.prog 149 [false,true,true] zAt:=hP0 zJP zU zZw zn (zo []) (fun _ h=>(zKA h).1)
theorem z7M {c:Cur}(h:zbc c):znH c=true:=by
 refine z2i c ⟨0,?_⟩;have e:zbc {zmS c with b:=c.b}:=zbL h (z5X _);have a:=(zQf (zbbu h)).2.2;have f:=(zKB (z6z e (m:=20) (by omega) (by omega))).2.2;unfold zyV oN;conv=>zeta
 have i:(ztm {zmS c with b:=c.b} 20).length<=65:=by unfold ln at f;omega
 have S:zHy (zwF c):=⟨by omega,fun p d=>by
  have g:=a.2.2 p d;exact⟨by omega,fun x j=>by have:=zMG (g.2.2 x j);omega⟩⟩
 exact zq (zbbu h) (zq (z6z e (by omega) (by omega)) (zq (zbd ⟨S,qU i (by decide)⟩) (zbF aH (z2l _ _) ⟨_,_,S,⟨a.1,fun p d=>⟨(a.2.2 p d).1,(a.2.2 p d).2.2⟩⟩,rfl⟩)))
def zbcV:zcJ:=[(149,([false,true,true],zAt))]++zbcU
theorem zMA:zb2 zbcV:=zcv zZw (by
 intro x a;simp only[qG,qN,or_false]at a;rcases a with rfl
 .exact zO2)
def z6N:zX:=zXJ
theorem z6O:zL z6N:=zJP
instance:Inhabited Slot:=⟨⟨0,0⟩⟩
instance:Inhabited Entry:=⟨⟨0,0,0,0⟩⟩
instance:Inhabited GExit:=⟨⟨0,0,false,0⟩⟩
instance:Inhabited Guest:=⟨⟨[],0,0,[],[],⟨0,0,false⟩,0,⟨0,0,false,0⟩,false,[]⟩⟩
theorem zw2 {c:Cur}(h:zbc c){n m:Int}(a:0<n)(b:n<=m):inb (zk c n) m=true:=by have:=zfK h a;exact qJ (by omega)
theorem zFh {c:Cur}(h:zbc c){n m:Int}(a:0<n)(b:n<=m+1):inr 0 (zk c n) m=true:=by have:=zfK h a;exact qJ (by omega)
theorem zF1 {a:Type}(l:List a)(n:Int):(tk l n).length<=l.length:=by simp[tk];omega
theorem zh5 {a:Type}(l:List a)(n:Int)(x:a):(up l n x).length=l.length:=by simp[up]
theorem zbaA {a:Type}(l:List a)(n:Int):ln (tk l n)<=ln l:=by have:=zF1 l n;unfold ln;omega
theorem zbaB {a:Type}(l:List a)(n:Int)(x:a):ln (up l n x)=ln l:=by unfold ln;rw[zh5]
def I64 (x:Int):Prop:=-9223372036854775808<=x/\x<=9223372036854775807
theorem zZh {f:Type}{c:Cur}(h:zbc c){P:f->Prop}{m:Int}(r:0<=m)(I:m<=1000){fc:Cur->Bool}{fs:Cur->Cur}{fv:Cur->f}(z:∀{c:Cur},zbc c->fc c=true)(C:∀c,0<=(fs c).i)(hg:∀{c:Cur},zbc c->P (fv c)){G:Ans->Prop}{R:Cur->List f->Ans}(w:∀s l,s.b=c.b->0<=s.i->ln l=m->(∀x∈l,P x)->G (R s l)){j:Type}(S:Int->Int×Int×List f->j){F:(j->OA)->j->OA}(v:∀rec t i k l,F rec (S t (i,k,l))=bif ilt t m then (cond (fc ⟨c.b,i,k⟩) (cond (few (ln (ap l [fv ⟨c.b,i,k⟩]))) (rec (S (zK .i64 t 1) ((fs ⟨c.b,i,k⟩).i,(fs ⟨c.b,i,k⟩).h,ap l [fv ⟨c.b,i,k⟩]))) none) none) else some (R ⟨c.b,i,k⟩ l)):Ends G (iter 1002 F (S 0 (c.i,c.h,[]))):=by refine zm7 (fun n s=>∃t i k l,s=S t (i,k,l)/\t+(n:Int)=1000/\0<=t/\t<=m/\0<=i/\(∀x∈l,P x)/\ln l=t) ?_ 1002 1000 _ ⟨0,c.i,c.h,[],rfl,rfl,kS 0,r,h.1,by simp,rfl⟩ (by omega);rintro n s rec ⟨t,i,k,l,rfl,D,u,E,p,q,H⟩ d;rw[v];have a:zbc ⟨c.b,i,k⟩:=zbL h p;refine zbE (fun g=>?_) (fun g=>?_);{have B:t<m:=qE g;have J:=zhg (y:=1) u (by omega) (by omega) (by omega);refine zq (z a) (zq (zlo (by rw[zhC];omega)) (d (n-1) _ (by omega) ⟨_,_,_,_,rfl,by omega,by omega,by omega,C _,?_,by rw[zhC];omega⟩));intro x e;rcases jJ.1 e with e|e;{exact q x e};{rw [qF.1 e];exact hg a}};{have A:¬ t<m:=jT g;exact zvx (w _ l rfl p (by omega) q)}
def ztw (N:Nat)(c:Cur)  : OA :=
 let a:=(zW c [3,3,1,2,0,3,1,(-1),4,9223372036854775807]); (oN (zbm c [3,3,1,2,0,3,1,(-1),4,9223372036854775807]) (some [(.agg [(.s .u8 c.b),(.i .i64 a.i),(.i .i64 a.h)]),(aI (zbj c [3,3,1,2,0,3,1,(-1),4,9223372036854775807]))]))
def zmM (c:Cur)(s:Cur)(a:Int):Prop:=(∃N,ztw N c=some (AV.agg (zbT s)::[aI a]))/\(s.b=c.b/\0<=s.i)/\(True)
def zkp (c:Cur)  : Bool:=wC (zmM c)
def zkq (c:Cur)  : Cur:=wS (zmM c)
def zsq (c:Cur)  : Int:=wV (zmM c)
theorem zWv {c:Cur}(h:zkp c=true):zmM c (zkq c) (zsq c):=wG h
theorem zWx (c:Cur)  : 0<=(zkq c).i:=wP fun h=>h.2.1.2
theorem zWw (c:Cur)(h:∃N,Ends (wE (fun a=>aI a) c.b fun a=>True) (ztw N c)):zkp c=true:=wI (fun _ _ h=>h) h
def zv7:zdr:=rP0 fun c=>(zkp c,zkq c,[aI (zsq c)])
theorem zIC:zbN Tryz.prog 158 [false,true,true] zv7:=hP0 zdR zU zMA zn (zo []) (fun _ h=>(zWv h).1)
theorem zbaY {c:Cur}(h:zbc c):zkp c=true:=by
 refine zWw c ⟨0,?_⟩;unfold ztw oN;conv=>zeta
 exact zq (zd6 h (by simp)) (zbF aI (zbP _ _) trivial)
def zbcW:zcJ:=[(158,([false,true,true],zv7))]++zbcV
theorem zZx:zb2 zbcW:=zcv zMA (by
 intro x a;simp only[qG,qN,or_false]at a;rcases a with rfl
 .exact zIC)
def zbb1:zX:=[(100,zwm),(260,zpN),(261,zri),(262,ztX)]++zQ0
theorem zd2:zL zbb1:=zh zz3 (zh zui (zh zvG (zh zxv zdR)))
def zyP (N:Nat)(c:Cur)(d:Int):OA:=
 let e:=({ (zO c 5) with b:=c.b}:Cur);let a:=({ (zf e d) with b:=c.b}:Cur); (oN (zcL c 5) (cond (zc0 c 5) (oN zcC (some [(.agg [(.s .u8 c.b),(.i .i64 (zO c 5).i),(.i .i64 (zO c 5).h)]),(.agg [(.i .i64 zbx.Page),(.i .i64 zbx.Rights)])])) (oN (zA e d) (oN (zbm a [3,3,3,1,2]) (some [(.agg [(.s .u8 c.b),(.i .i64 (zW a [3,3,3,1,2]).i),(.i .i64 (zW a [3,3,3,1,2]).h)]),(.agg [(.i .i64 (zk e d)),(.i .i64 (zbj a [3,3,3,1,2]))])])))))
def zqj (c:Cur)(a:Int)(s:Cur)(d:Slot):Prop:=(∃N,zyP N c a=some (AV.agg (zbT s)::[aT .slot d]))/\(s.b=c.b/\0<=s.i)/\((0<a->a<=1000->I64 d.Page))
def ziy (c:Cur)(a:Int):Bool:=wC (zqj c a)
def zf5 (c:Cur)(a:Int):Cur:=wS (zqj c a)
def zfE (c:Cur)(a:Int):Slot:=wV (zqj c a)
theorem zzp {c:Cur}{a:Int}(h:ziy c a=true):zqj c a (zf5 c a) (zfE c a):=wG h
theorem zKx (c:Cur)(a:Int):0<=(zf5 c a).i:=wP fun h=>h.2.1.2
theorem z15 (c:Cur)(a:Int)(h:∃N,Ends (wE (fun d=>aT .slot d) c.b fun d=>(0<a->a<=1000->I64 d.Page)) (zyP N c a)):ziy c a=true:=wI (fun _ _ h=>h) h
def zAn:zdr:=rP1 dI fun c b=>(ziy c b,zf5 c b,[aT .slot (zfE c b)])
theorem zOQ:zbN Tryz.prog 157 [false,true,true] zAn:=hP1 zd2 zU zZx zn (zo []) (fun _ _ h=>(zzp h).1)
theorem zQl {c:Cur}(h:zbc c)(a:Int):ziy c a=true:=by
 refine z15 c a ⟨0,?_⟩;unfold zyP oN;conv=>zeta
 have d:zbc {zO c 5 with b:=c.b}:=zbL h (zcm _ _);have g:zbc {zf {zO c 5 with b:=c.b} a with b:=c.b}:=zbL h (zF _ _);refine zq (zi0 h 5) (zbE (fun _=>zq rfl (zbF (aT .slot) (v:=⟨_,_⟩) (zcm _ _) (fun _ _=>?_))) (fun _=>zq (zbt d a) (zq (zd6 g (by simp)) (zbF (aT .slot) (v:=⟨_,_⟩) (zbP _ _) (fun e f=>?_)))));{exact⟨by decide,by decide⟩};{have:=zfK d e;exact⟨Int.le_trans (by decide) this.1,Int.le_trans (vM this.2) (by omega)⟩}
def zbcX:zcJ:=[(157,([false,true,true],zAn))]++zbcW
theorem zMB:zb2 zbcX:=zcv zZx (by
 intro x a;simp only[qG,qN,or_false]at a;rcases a with rfl
 .exact zOQ)
def zBj (N:Nat)(c:Cur)(a:Int):OA:=
 let e:=({ (zf5 c a) with b:=c.b}:Cur);let d:=({ (zf e 12) with b:=c.b}:Cur);let f:=(zW d [(-1),(-2),a,9223372036854775807,(-9223372036854775808)]); (oN (ziy c a) (oN (zA e 12) (cond (ieq (zk e 12) 0) (oN (zbm d [(-1),(-2),a,9223372036854775807,(-9223372036854775808)]) (some [(.agg [(.s .u8 c.b),(.i .i64 f.i),(.i .i64 f.h)]),(.agg [(.i .i64 (zbj d [(-1),(-2),a,9223372036854775807,(-9223372036854775808)])),(.i .i64 (zfE c a).Rights)])])) (cond (ieq (zk e 12) 1) (oN (zkp d) (some [(.agg [(.s .u8 c.b),(.i .i64 (zkq d).i),(.i .i64 (zkq d).h)]),(.agg [(.i .i64 (zfE c a).Page),(.i .i64 (zsq d))])])) (some [(.agg [(.s .u8 c.b),(.i .i64 (zf e 12).i),(.i .i64 (zf e 12).h)]),(.agg [(.i .i64 (zfE c a).Page),(.i .i64 (zfE c a).Rights)])])))))
def zsr (c:Cur)(a:Int)(s:Cur)(d:Slot):Prop:=(∃N,zBj N c a=some (AV.agg (zbT s)::[aT .slot d]))/\(s.b=c.b/\0<=s.i)/\((0<a->a<=1000->I64 d.Page))
def zqg (c:Cur)(a:Int):Bool:=wC (zsr c a)
def zqh (c:Cur)(a:Int):Cur:=wS (zsr c a)
def zMP (c:Cur)(a:Int):Slot:=wV (zsr c a)
theorem zQa {c:Cur}{a:Int}(h:zqg c a=true):zsr c a (zqh c a) (zMP c a):=wG h
theorem z5E (c:Cur)(a:Int):0<=(zqh c a).i:=wP fun h=>h.2.1.2
theorem z5D (c:Cur)(a:Int)(h:∃N,Ends (wE (fun d=>aT .slot d) c.b fun d=>(0<a->a<=1000->I64 d.Page)) (zBj N c a)):zqg c a=true:=wI (fun _ _ h=>h) h
def zDm:zdr:=rP1 dI fun c b=>(zqg c b,zqh c b,[aT .slot (zMP c b)])
theorem zRR:zbN Tryz.prog 69 [false,true,true] zDm:=hP1 zd2 zU zMB zn (zo []) (fun _ _ h=>(zQa h).1)
theorem zUb {c:Cur}(h:zbc c)(a:Int):zqg c a=true:=by
 refine z5D c a ⟨0,?_⟩;unfold zBj oN;conv=>zeta
 have d:zbc {zf5 c a with b:=c.b}:=zbL h (zKx _ _);have f:zbc {zf {zf5 c a with b:=c.b} 12 with b:=c.b}:=zbL h (zF _ _);have g:=(zzp (zQl h a)).2.2;refine zq (zQl h a) (zq (zbt d 12) (zbE (fun _=>zq (zd6 f (by simp)) (zbF (aT .slot) (v:=⟨zbj _ _,(zfE c a).Rights⟩) (zbP _ _) (fun e i=>?_))) (fun _=>zbE (fun _=>zq (zbaY f) (zbF (aT .slot) (v:=⟨(zfE c a).Page,zsq _⟩) (zWx _) (fun e d=>g e d))) (fun _=>zbF (aT .slot) (v:=⟨(zfE c a).Page,(zfE c a).Rights⟩) (zF _ _) (fun e d=>g e d)))));have j:=z3r f (l:=[-1,-2,a,9223372036854775807,-9223372036854775808]) (by simp);simp only[qG,qN,or_false]at j;unfold I64;dsimp only;omega
def zvj (N:Nat)(c:Cur)(g j:Int):OA:=
 (iter (σ:=(Int×(Int×(Int×(Int×(Int×(lS×((List Int)×Unit)))))))) N (fun k a=>let e:=a.2.2.2.2.2.2.1;let d:=(⟨e,a.2.2.2.1,a.2.2.2.2.1⟩:Cur);let f:=(ap a.2.2.2.2.2.1 [(zfE d a.2.1)]); (cond (ilt a.2.2.1 a.1) (oN (ziy d a.2.1) (oN (few (ln f)) (k (a.1,(a.2.1,((zK .i64 a.2.2.1 1),((zf5 d a.2.1).i,((zf5 d a.2.1).h,(f,(e,())))))))))) (some [(.agg [(.s .u8 e),(.i .i64 a.2.2.2.1),(.i .i64 a.2.2.2.2.1)]),(aS .slot a.2.2.2.2.2.1)]))) (g,(j,(0,(c.i,(c.h,([],(c.b,()))))))))
def zTz:FuncId->Nat->Option Tmpl:=zo [(244,0,{n:=22,tm:=[(0,.lp 0 0),(1,ti),(2,ti),(7,.sl 0 []),(8,ti)],lo:=[(0,[.sl 1 [],ti,ti])],ro:=[(0,.slot,true),(1,.u8,false)]})]
def zn5 (c:Cur)(a:Int)(d:Int)(s:Cur)(e:List Slot):Prop:=(∃N,zvj N c a d=some (AV.agg (zbT s)::[aS .slot e]))/\(s.b=c.b/\0<=s.i)/\((0<=a->a<=1000->ln e=a/\(0<d->d<=1000->∀s∈e,I64 s.Page)))
def zhu (c:Cur)(a:Int)(b:Int):Bool:=wC (zn5 c a b)
def zJ (c:Cur)(a:Int)(b:Int):Cur:=wS (zn5 c a b)
def zdq (c:Cur)(a:Int)(b:Int):List Slot:=wV (zn5 c a b)
theorem zwC {c:Cur}{a:Int}{b:Int}(h:zhu c a b=true):zn5 c a b (zJ c a b) (zdq c a b):=wG h
theorem zhv (c:Cur)(a:Int)(b:Int):0<=(zJ c a b).i:=wP fun h=>h.2.1.2
theorem zZO (c:Cur)(a:Int)(d:Int)(h:∃N,Ends (wE (fun e=>aS .slot e) c.b fun e=>(0<=a->a<=1000->ln e=a/\(0<d->d<=1000->∀s∈e,I64 s.Page))) (zvj N c a d)):zhu c a d=true:=wI (fun _ _ h=>h) h
def zxF:zdr:=rP2 dI dI fun c b d=>(zhu c b d,zJ c b d,[aS .slot (zdq c b d)])
theorem zLW:zbN Tryz.prog 244 [false,true,true] zxF:=hP2 zd2 zU zMB zn zTz (fun _ _ _ h=>(zwC h).1)
theorem zBd {c:Cur}(h:zbc c){d:Int}(g:0<=d)(j:d<=1000)(a:Int):zhu c d a=true:=by
 refine zZO c d a ⟨1002,?_⟩;unfold zvj oN;conv=>zeta
 exact zZh h (P:=fun s=>0<a->a<=1000->I64 s.Page) g j (fc:=fun c=>ziy c a) (fs:=fun c=>zf5 c a) (fv:=fun c=>zfE c a) (R:=fun s l=>AV.agg (zbT s)::[aS .slot l]) (fun h=>zQl h a) (fun c=>zKx c a) (fun h=>(zzp (zQl h a)).2.2) (fun s l m n p q=>⟨s,l,rfl,⟨m,n⟩,fun _ _=>⟨p,fun e f s r=>q s r e f⟩⟩) ((fun i t=>(d,a,(i:Int),t.1,t.2.1,t.2.2,c.b,())):Int->Int×Int×List Slot->_) (fun rec t i k l=>rfl)
theorem zbeC {c:Cur}(h:zbc c){n m:Int}(a:0<=n)(b:n<=1000)(d:0<m)(e:m<=1000):ln (zdq c n m)=n/\∀s∈zdq c n m,I64 s.Page:=by have g:=(zwC (zBd h a b m)).2.2 a b;exact⟨g.1,g.2 d e⟩
def zbcY:zcJ:=[(69,([false,true,true],zDm)),(244,([false,true,true],zxF))]++zbcX
theorem zMC:zb2 zbcY:=zcv zMB (by
 intro x a;simp only[qG,qN,or_false]at a;rcases a with rfl|rfl
 .exact zRR
 .exact zLW)
def zo5 (N:Nat)(c:Cur)(a d:Int):OA:=
 let g:=(zdq c a d);let f:=({ (zJ c a d) with b:=c.b}:Cur);let e:=({ (zf f 8) with b:=c.b}:Cur);let k:=(zk e a);let j:=({ (zf e a) with b:=c.b}:Cur); (oN (zhu c a d) (oN (zA f 8) (cond (ieq (zk f 8) 0) (oN (zA e a) (oN (zqg j d) (oN (inb k (ln g)) (share (up g k (zMP j d)) (fun l=>(some [(.agg [(.s .u8 c.b),(.i .i64 (zqh j d).i),(.i .i64 (zqh j d).h)]),(aS .slot l)])))))) (cond (ieq (zk f 8) 1) (oN (zA e a) (oN (inr 0 k (ln g)) (some [(.agg [(.s .u8 c.b),(.i .i64 (zf e a).i),(.i .i64 (zf e a).h)]),(aS .slot (tk g k))]))) (some [(.agg [(.s .u8 c.b),(.i .i64 (zf f 8).i),(.i .i64 (zf f 8).h)]),(aS .slot g)])))))
def zjZ (c:Cur)(a:Int)(d:Int)(s:Cur)(e:List Slot):Prop:=(∃N,zo5 N c a d=some (AV.agg (zbT s)::[aS .slot e]))/\(s.b=c.b/\0<=s.i)/\((0<a->a<=1000->ln e<=a/\(0<d->d<=1000->∀s∈e,I64 s.Page)))
def zfs (c:Cur)(a:Int)(b:Int):Bool:=wC (zjZ c a b)
def zgw (c:Cur)(a:Int)(b:Int):Cur:=wS (zjZ c a b)
def zeO (c:Cur)(a:Int)(b:Int):List Slot:=wV (zjZ c a b)
theorem zqe {c:Cur}{a:Int}{b:Int}(h:zfs c a b=true):zjZ c a b (zgw c a b) (zeO c a b):=wG h
theorem zqf (c:Cur)(a:Int)(b:Int):0<=(zgw c a b).i:=wP fun h=>h.2.1.2
theorem zP9 (c:Cur)(a:Int)(d:Int)(h:∃N,Ends (wE (fun e=>aS .slot e) c.b fun e=>(0<a->a<=1000->ln e<=a/\(0<d->d<=1000->∀s∈e,I64 s.Page))) (zo5 N c a d)):zfs c a d=true:=wI (fun _ _ h=>h) h
def zta:zdr:=rP2 dI dI fun c b d=>(zfs c b d,zgw c b d,[aS .slot (zeO c b d)])
theorem zEs:zbN Tryz.prog 151 [false,true,true] zta:=hP2 zd2 zU zMC zn (zo []) (fun _ _ _ h=>(zqe h).1)
theorem zo8 {c:Cur}(h:zbc c){n:Int}(a:0<n)(j:n<=1000)(m:Int):zfs c n m=true:=by
 refine zP9 c n m ⟨0,?_⟩;unfold zo5 oN;conv=>zeta
 have l:zbc {zJ c n m with b:=c.b}:=zbL h (zhv _ _ _);have i:zbc {zf {zJ c n m with b:=c.b} 8 with b:=c.b}:=zbL h (zF _ _);have k:zbc {zf {zf {zJ c n m with b:=c.b} 8 with b:=c.b} n with b:=c.b}:=zbL h (zF _ _);have g:=(zwC (zBd h (vM a) j m)).2.2 (vM a) j;generalize zdq c n m=T at g;refine zq (zBd h (vM a) j m) (zq (zbt l 8) (zbE (fun _=>zq (zbt i n) (zq (zUb k m) (zq (zw2 i a (by omega)) (zmc (zbF (aS .slot) (z5E _ _) (fun _ _=>⟨by rw[zbaB];omega,fun e f s d=>?_⟩)))))) (fun _=>zbE (fun _=>zq (zbt i n) (zq (zFh i a (by omega)) (zbF (aS .slot) (zF _ _) (fun _ _=>⟨?_,fun e f s d=>g.2 e f s (jV d)⟩)))) (fun _=>zbF (aS .slot) (zF _ _) (fun _ _=>⟨by omega,g.2⟩)))));{rcases qY d with d|rfl;{exact g.2 e f s d};{exact(zQa (zUb k m)).2.2 e f}};{have:=zbaA T;exact Int.le_trans (this _) (by omega)}
def zyQ (N:Nat)(c:Cur)  : OA :=
 (iter (σ:=(Int×(Int×(Int×((List Int)×((List Int)×Unit)))))) N (fun f a=>let d:=(⟨a.2.2.2.2.1,a.2.1,a.2.2.1⟩:Cur);let e:=(ap a.2.2.2.1 [(zk d 100)]); (cond (ilt a.1 4) (oN (zA d 100) (oN (few (ln e)) (f ((zK .i64 a.1 1),((zf d 100).i,((zf d 100).h,(e,(a.2.2.2.2.1,())))))))) (some [(.agg [(.s .u8 a.2.2.2.2.1),(.i .i64 a.2.1),(.i .i64 a.2.2.1)]),(aS .int a.2.2.2.1)]))) (0,(c.i,(c.h,([],(c.b,()))))))
def zWM:FuncId->Nat->Option Tmpl:=zo [(245,0,{n:=16,tm:=[(0,.lp 0 0),(3,.sl 0 []),(4,ti)],lo:=[(0,[.sl 1 [],ti,ti])],ro:=[(0,.int,true),(1,.u8,false)]})]
def zql (c:Cur)(s:Cur)(a:List Int):Prop:=(∃N,zyQ N c=some (AV.agg (zbT s)::[aS .int a]))/\(s.b=c.b/\0<=s.i)/\(a.length=4)
def ziz (c:Cur)  : Bool:=wC (zql c)
def ze7 (c:Cur)  : Cur:=wS (zql c)
def zoV (c:Cur)  : List Int:=wV (zql c)
theorem zzq {c:Cur}(h:ziz c=true):zql c (ze7 c) (zoV c):=wG h
theorem zKz (c:Cur)  : 0<=(ze7 c).i:=wP fun h=>h.2.1.2
theorem z16 (c:Cur)(h:∃N,Ends (wE (fun a=>aS .int a) c.b fun a=>a.length=4) (zyQ N c)):ziz c=true:=wI (fun _ _ h=>h) h
def zAo:zdr:=rP0 fun c=>(ziz c,ze7 c,[aS .int (zoV c)])
theorem zOS:zbN Tryz.prog 245 [false,true,true] zAo:=hP0 zd2 zU zMC zn zWM (fun _ h=>(zzq h).1)
theorem zPU {c:Cur}(h:zbc c):ziz c=true:=by
 refine z16 c ⟨1002,?_⟩;unfold zyQ oN;conv=>zeta
 exact zZh h (P:=fun _=>True) (m:=4) (by omega) (by omega) (fc:=fun c=>zA c 100) (fs:=fun c=>zf c 100) (fv:=fun c=>zk c 100) (R:=fun s l=>AV.agg (zbT s)::[aS .int l]) (fun h=>zbt h _) (fun c=>zF c _) (fun _=>trivial) (fun s l a d e f=>⟨s,l,rfl,⟨a,d⟩,by unfold ln at e;omega⟩) ((fun i t=>((i:Int),t.1,t.2.1,t.2.2,c.b,())):Int->Int×Int×List Int->_) (fun rec t i k l=>rfl)
def zbcZ:zcJ:=[(151,([false,true,true],zta)),(245,([false,true,true],zAo))]++zbcY
theorem zMD:zb2 zbcZ:=zcv zMC (by
 intro x a;simp only[qG,qN,or_false]at a;rcases a with rfl|rfl
 .exact zEs
 .exact zOS)
def zBk (N:Nat)(c:Cur)(f:Int):OA:=
 (iter (σ:=(Int×(Int×(Int×(Int×(lM×((List Int)×Unit))))))) N (fun g a=>let d:=(⟨a.2.2.2.2.2.1,a.2.2.1,a.2.2.2.1⟩:Cur);let e:=(ap a.2.2.2.2.1 [(zoV d)]); (cond (ilt a.2.1 a.1) (oN (ziz d) (oN (few (ln e)) (g (a.1,((zK .i64 a.2.1 1),((ze7 d).i,((ze7 d).h,(e,(a.2.2.2.2.2.1,()))))))))) (some [(.agg [(.s .u8 a.2.2.2.2.2.1),(.i .i64 a.2.2.1),(.i .i64 a.2.2.2.1)]),(aS (.sl .int) a.2.2.2.2.1)]))) (f,(0,(c.i,(c.h,([],(c.b,())))))))
def z0F:FuncId->Nat->Option Tmpl:=zo [(251,0,{n:=19,tm:=[(0,.lp 0 0),(1,ti),(5,.sl 0 []),(6,ti)],lo:=[(0,[.sl 1 [],ti,ti])],ro:=[(0,(.sl .int),true),(1,.u8,false)]})]
def zst (c:Cur)(a:Int)(s:Cur)(d:List (List Int)):Prop:=(∃N,zBk N c a=some (AV.agg (zbT s)::[aS (.sl .int) d]))/\(s.b=c.b/\0<=s.i)/\((0<=a->a<=1000->ln d=a/\∀r∈d,r.length=4))
def zic (c:Cur)(a:Int):Bool:=wC (zst c a)
def zmN (c:Cur)(a:Int):Cur:=wS (zst c a)
def zwD (c:Cur)(a:Int):List (List Int):=wV (zst c a)
theorem zCC {c:Cur}{a0:Int}(h:zic c a0=true):zst c a0 (zmN c a0) (zwD c a0):=wG h
theorem z5I (c:Cur)(a0:Int):0<=(zmN c a0).i:=wP fun h=>h.2.1.2
theorem z5H (c:Cur)(a:Int)(h:∃N,Ends (wE (fun d=>aS (.sl .int) d) c.b fun d=>(0<=a->a<=1000->ln d=a/\∀r∈d,r.length=4)) (zBk N c a)):zic c a=true:=wI (fun _ _ h=>h) h
def zDn:zdr:=rP1 dI fun c b=>(zic c b,zmN c b,[aS (.sl .int) (zwD c b)])
theorem zz5:zbN Tryz.prog 251 [false,true,true] zDn:=hP1 zd2 zU zMD zn z0F (fun _ _ h=>(zCC h).1)
theorem zbfV {c:Cur}(h:zbc c){a0:Int}(a:0<=a0)(d:a0<=1000):zic c a0=true:=by
 refine z5H c a0 ⟨1002,?_⟩;unfold zBk oN;conv=>zeta
 exact zZh h (P:=fun r=>r.length=4) a d (fc:=ziz) (fs:=ze7) (fv:=zoV) (R:=fun s l=>AV.agg (zbT s)::[aS (.sl .int) l]) zPU zKz (fun h=>(zzq (zPU h)).2.2) (fun s l e f g j=>⟨s,l,rfl,⟨e,f⟩,fun _ _=>⟨g,j⟩⟩) ((fun i t=>(a0,(i:Int),t.1,t.2.1,t.2.2,c.b,())):Int->Int×Int×List (List Int)->_) (fun rec t i k l=>rfl)
def zvk (N:Nat)(c:Cur)  : OA :=
 let d:=(zoV c);let e:=({ (ze7 c) with b:=c.b}:Cur);let f:=(zf e 6);let a:=({f with b:=c.b}:Cur);let g:=({ (zf a 4) with b:=c.b}:Cur); (oN (ziz c) (oN (zA e 6) (cond (ieq (zk e 6) 0) (oN (zA a 4) (oN (inr 0 (zk a 4) (ln d)) (some [(.agg [(.s .u8 c.b),(.i .i64 (zf a 4).i),(.i .i64 (zf a 4).h)]),(aS .int (tk d (zk a 4)))]))) (cond (ieq (zk e 6) 1) (oN (zA a 4) (oN (zbm g [(-1),99,100]) (oN (inb (zk a 4) (ln d)) (share (up d (zk a 4) (zbj g [(-1),99,100])) (fun j=>(some [(.agg [(.s .u8 c.b),(.i .i64 (zW g [(-1),99,100]).i),(.i .i64 (zW g [(-1),99,100]).h)]),(aS .int j)])))))) (cond (ieq (zk e 6) 2) (oN (few (ln (ap d [1]))) (some [(.agg [(.s .u8 c.b),(.i .i64 f.i),(.i .i64 f.h)]),(aS .int (ap d [1]))])) (some [(.agg [(.s .u8 c.b),(.i .i64 f.i),(.i .i64 f.h)]),(aS .int d)]))))))
def zn6 (c:Cur)(s:Cur)(a:List Int):Prop:=(∃N,zvk N c=some (AV.agg (zbT s)::[aS .int a]))/\(s.b=c.b/\0<=s.i)/\(a.length<=5)
def zlU (c:Cur)  : Bool:=wC (zn6 c)
def zlV (c:Cur)  : Cur:=wS (zn6 c)
def zuQ (c:Cur)  : List Int:=wV (zn6 c)
theorem zHb {c:Cur}(h:zlU c=true):zn6 c (zlV c) (zuQ c):=wG h
theorem zZQ (c:Cur)  : 0<=(zlV c).i:=wP fun h=>h.2.1.2
theorem zZP (c:Cur)(h:∃N,Ends (wE (fun a=>aS .int a) c.b fun a=>a.length<=5) (zvk N c)):zlU c=true:=wI (fun _ _ h=>h) h
def zxG:zdr:=rP0 fun c=>(zlU c,zlV c,[aS .int (zuQ c)])
theorem zLX:zbN Tryz.prog 152 [false,true,true] zxG:=hP0 zd2 zU zMD zn (zo []) (fun _ h=>(zHb h).1)
theorem z2M {c:Cur}(h:zbc c):zlU c=true:=by
 refine zZP c ⟨0,?_⟩;unfold zvk oN;conv=>zeta
 have e:zbc {ze7 c with b:=c.b}:=zbL h (zKz _);have a:zbc {zf {ze7 c with b:=c.b} 6 with b:=c.b}:=zbL h (zF _ _);have f:zbc {zf {zf {ze7 c with b:=c.b} 6 with b:=c.b} 4 with b:=c.b}:=zbL h (zF _ _);have g:=(zzq (zPU h)).2.2;generalize zoV c=T at g;have d:ln T=4:=(by unfold ln;omega);refine zq (zPU h) (zq (zbt e 6) (zbE (fun _=>zq (zbt a 4) (zq (zFh a (by omega) (by omega)) (zbF (aS .int) (zF _ _) (qU (zF1 T _) (by omega))))) (fun _=>zbE (fun _=>zq (zbt a 4) (zq (zd6 f (by simp)) (zq (zw2 a (by omega) (by omega)) (zmc (zbF (aS .int) (zbP _ _) (by rw[zh5];omega)))))) (fun _=>zbE (fun _=>zq (zlo (by rw[zhC];omega)) (zbF (aS .int) (zF _ _) ?_)) (fun _=>zbF (aS .int) (zF _ _) (by omega))))));simp[ap];omega
def zbc0:zcJ:=[(251,([false,true,true],zDn)),(152,([false,true,true],zxG))]++zbcZ
theorem zZy:zb2 zbc0:=zcv zMD (by
 intro x a;simp only[qG,qN,or_false]at a;rcases a with rfl|rfl
 .exact zz5
 .exact zLX)
def zty (N:Nat)(c:Cur)  : OA :=
 let d:=({ (zf8 c) with b:=c.b}:Cur);let a:=({ (zf d 10) with b:=c.b}:Cur);let e:=(zW a [(-1),0,12,15,16,99,100,9223372036854775807]); (oN (zj0 c) (oN (zA d 10) (cond (ieq (zk d 10) 0) (oN (zA a 11) (some [(.agg [(.s .u8 c.b),(.i .i64 (zf a 11).i),(.i .i64 (zf a 11).h)]),(.agg [(.i .i64 (wsub .i64 (zk a 11) 1)),(.i .i64 (zfW c).X)])])) (cond (ieq (zk d 10) 1) (oN (zbm a [(-1),0,12,15,16,99,100,9223372036854775807]) (some [(.agg [(.s .u8 c.b),(.i .i64 e.i),(.i .i64 e.h)]),(.agg [(.i .i64 (zfW c).Op),(.i .i64 (zbj a [(-1),0,12,15,16,99,100,9223372036854775807]))])])) (some [(.agg [(.s .u8 c.b),(.i .i64 (zf d 10).i),(.i .i64 (zf d 10).h)]),(.agg [(.i .i64 (zfW c).Op),(.i .i64 (zfW c).X)])])))))
def zmQ (c:Cur)(s:Cur)(a:Ins):Prop:=(∃N,zty N c=some (AV.agg (zbT s)::[aT .ins a]))/\(s.b=c.b/\0<=s.i)/\(True)
def zkt (c:Cur)  : Bool:=wC (zmQ c)
def zku (c:Cur)  : Cur:=wS (zmQ c)
def zzr (c:Cur)  : Ins:=wV (zmQ c)
theorem zWA {c:Cur}(h:zkt c=true):zmQ c (zku c) (zzr c):=wG h
theorem zWC (c:Cur)  : 0<=(zku c).i:=wP fun h=>h.2.1.2
theorem zWB (c:Cur)(h:∃N,Ends (wE (fun a=>aT .ins a) c.b fun a=>True) (zty N c)):zkt c=true:=wI (fun _ _ h=>h) h
def zv9:zdr:=rP0 fun c=>(zkt c,zku c,[aT .ins (zzr c)])
theorem zIE:zbN Tryz.prog 303 [false,true,true] zv9:=hP0 zd2 zU zZy zn (zo []) (fun _ h=>(zWA h).1)
theorem z9w {c:Cur}(h:zbc c):zkt c=true:=by
 refine zWB c ⟨0,?_⟩;unfold zty oN;conv=>zeta
 have d:zbc {zf8 c with b:=c.b}:=zbL h (zCD _);have a:zbc {zf {zf8 c with b:=c.b} 10 with b:=c.b}:=zbL h (zF _ _);exact zq (zWX h) (zq (zbt d 10) (zbE (fun _=>zq (zbt a 11) (zbF (aT .ins) (v:=⟨wsub .i64 _ 1,(zfW c).X⟩) (zF _ _) trivial)) (fun _=>zbE (fun _=>zq (zd6 a (by simp)) (zbF (aT .ins) (v:=⟨(zfW c).Op,zbj _ _⟩) (zbP _ _) trivial)) (fun _=>zbF (aT .ins) (v:=zfW c) (zF _ _) trivial))))
def zbc1:zcJ:=[(303,([false,true,true],zv9))]++zbc0
theorem zCn:zb2 zbc1:=zcv zZy (by
 intro x a;simp only[qG,qN,or_false]at a;rcases a with rfl
 .exact zIE)
def zqO (N:Nat)(c:Cur)  : OA :=
 let e:=(zb5 c);let g:=({ (zZ c) with b:=c.b}:Cur);let k:=(zf g 8);let d:=({k with b:=c.b}:Cur); (oN (zgX c) (oN (zA g 8) (cond (ieq (zk g 8) 0) (oN (zkt d) (oN (inb 0 (ln e)) (share (up e 0 (zzr d)) (fun m=>(some [(.agg [(.s .u8 c.b),(.i .i64 (zku d).i),(.i .i64 (zku d).h)]),(aS .ins m)]))))) (cond (ieq (zk g 8) 1) (iter (σ:=(Int×(Int×(lI×((List Int)×Unit))))) N (fun l a=>let j:=(⟨a.2.2.2.1,a.1,a.2.1⟩:Cur);let f:=({ (zf j 2) with b:=a.2.2.2.1}:Cur); (oN (zA j 2) (cond (ilt (ln a.2.2.1) (zK .i64 12 (zk j 2))) (oN (zj0 f) (oN (few (ln (ap a.2.2.1 [(zfW f)]))) (l ((zf8 f).i,((zf8 f).h,((ap a.2.2.1 [(zfW f)]),(a.2.2.2.1,()))))))) (some [(.agg [(.s .u8 a.2.2.2.1),(.i .i64 (zf j 2).i),(.i .i64 (zf j 2).h)]),(aS .ins a.2.2.1)])))) (k.i,(k.h,(e,(c.b,()))))) (cond (ieq (zk g 8) 2) (oN (zA d 2) (oN (inr 0 (zk d 2) (ln e)) (some [(.agg [(.s .u8 c.b),(.i .i64 (zf d 2).i),(.i .i64 (zf d 2).h)]),(aS .ins (tk e (zk d 2)))]))) (some [(.agg [(.s .u8 c.b),(.i .i64 k.i),(.i .i64 k.h)]),(aS .ins e)]))))))
def zM1:FuncId->Nat->Option Tmpl:=zo [(247,1,{n:=34,tm:=[(0,.lp 0 0),(3,.sl 0 [])],lo:=[(0,[.sl 1 [],ti,ti])],ro:=[(0,.ins,true),(1,.u8,false)]})]
def zld (c:Cur)(s:Cur)(a:List Ins):Prop:=(∃N,zqO N c=some (AV.agg (zbT s)::[aS .ins a]))/\(s.b=c.b/\0<=s.i)/\(a.length<=13)
def zi9 (c:Cur)  : Bool:=wC (zld c)
def zja (c:Cur)  : Cur:=wS (zld c)
def zqn (c:Cur)  : List Ins:=wV (zld c)
theorem zA8 {c:Cur}(h:zi9 c=true):zld c (zja c) (zqn c):=wG h
theorem zTf (c:Cur)  : 0<=(zja c).i:=wP fun h=>h.2.1.2
theorem zTe (c:Cur)(h:∃N,Ends (wE (fun a=>aS .ins a) c.b fun a=>a.length<=13) (zqO N c)):zi9 c=true:=wI (fun _ _ h=>h) h
def zuk:zdr:=rP0 fun c=>(zi9 c,zja c,[aS .ins (zqn c)])
theorem zFK:zbN Tryz.prog 247 [false,true,true] zuk:=hP0 zd2 zU zCn zn zM1 (fun _ h=>(zA8 h).1)
theorem zUa {c:Cur}(h:zbc c):zi9 c=true:=by
 refine zTe c ⟨1002,?_⟩;unfold zqO oN;conv=>zeta
 have B:zbc {zZ c with b:=c.b}:=zbL h (ziB _);have q:zbc {zf {zZ c with b:=c.b} 8 with b:=c.b}:=zbL h (zF _ _);have g:=(zsw (zGc h)).2.2;have p:=zMG g;have j:1<=(zb5 c).length:=(by unfold zda at g;cases d:(zb5 c).all zdU with|false=>rw[d] at g;cases g|true=>rw[d,cT] at g;have:=(zfv.1 g).1;unfold ln at this;omega);generalize zb5 c=T at p j;have y:1<=ln T/\ln T<=12:=(by unfold ln;omega);have e:(2:Int)<=ln T+1:=(by omega);refine zq (zGc h) (zq (zbt B 8) (zbE (fun _=>zq (z9w q) (zq (qJ (by omega)) (zmc (zbF (aS .ins) (zWC _) (by rw[zh5];omega))))) (fun _=>zbE (fun _=>?_) (fun _=>zbE (fun _=>zq (zbt q 2) (zq (zFh q (n:=2) (by omega) e) (zbF (aS .ins) (zF _ _) (qU (zF1 T _) (by omega))))) (fun _=>zbF (aS .ins) (zF _ _) (by omega))))));{refine zm7 (fun n s=>s.2.2.1.length+n=13/\0<=s.1/\s.2.2.2.1=c.b) ?_ 1002 (13-T.length) _ ⟨by dsimp only;omega,zF _ _,rfl⟩ (by omega);rintro n ⟨i,k,l,b,u⟩ rec ⟨v,r,t⟩ m;dsimp only at v r t ⊢;subst t;have a:zbc ⟨c.b,i,k⟩:=zbL h r;have A:=zfK a (n:=2) (by omega);have z:=zhg (x:=12) (by omega) (by omega) A.1 (by omega);have w:zbc {zf ⟨c.b,i,k⟩ 2 with b:=c.b}:=zbL h (zF _ _);refine zq (zbt a 2) (zbE (fun d=>?_) (fun d=>?_));{have f:ln l<zK .i64 12 (zk ⟨c.b,i,k⟩ 2):=qE d;rw[z]at f;unfold ln at f;exact zq (zWX w) (zq (zlo (by rw[zhC];unfold ln;omega)) (m (n-1) _ (by omega) ⟨by simp[ap];omega,zCD _,rfl⟩))};{exact zbF (aS .ins) (zF _ _) (by omega)}}
def zBm (N:Nat)(c:Cur)  : OA :=
 let a:=(zcD c);let e:=({ (zcj c) with b:=c.b}:Cur);let f:=(zf e 8);let d:=({f with b:=c.b}:Cur);let g:=(zW d [(-1),255,256,9223372036854775807]); (oN (zj1 c) (oN (zA e 8) (cond (ieq (zk e 8) 0) (oN (zbm d [(-1),2,3,4]) (some [(.agg [(.s .u8 c.b),(.i .i64 (zW d [(-1),2,3,4]).i),(.i .i64 (zW d [(-1),2,3,4]).h)]),(.agg [(.i .i64 (zbj d [(-1),2,3,4])),(.i .i64 a.Post),(.b a.Open)])])) (cond (ieq (zk e 8) 1) (oN (zbm d [(-1),255,256,9223372036854775807]) (some [(.agg [(.s .u8 c.b),(.i .i64 g.i),(.i .i64 g.h)]),(.agg [(.i .i64 a.Traps),(.i .i64 (zbj d [(-1),255,256,9223372036854775807])),(.b a.Open)])])) (cond (ieq (zk e 8) 2) (some [(.agg [(.s .u8 c.b),(.i .i64 f.i),(.i .i64 f.h)]),(.agg [(.i .i64 a.Traps),(.i .i64 a.Post),(.b (nB a.Open))])]) (some [(.agg [(.s .u8 c.b),(.i .i64 f.i),(.i .i64 f.h)]),(.agg [(.i .i64 a.Traps),(.i .i64 a.Post),(.b a.Open)])]))))))
def zsx (c:Cur)(s:Cur)(a:Ctl):Prop:=(∃N,zBm N c=some (AV.agg (zbT s)::[.agg (zpd a)]))/\(s.b=c.b/\0<=s.i)/\(True)
def zqp (c:Cur)  : Bool:=wC (zsx c)
def zqq (c:Cur)  : Cur:=wS (zsx c)
def zCE (c:Cur)  : Ctl:=wV (zsx c)
theorem z5K {c:Cur}(h:zqp c=true):zsx c (zqq c) (zCE c):=wG h
theorem z5M (c:Cur)  : 0<=(zqq c).i:=wP fun h=>h.2.1.2
theorem z5L (c:Cur)(h:∃N,Ends (wE (fun a=>.agg (zpd a)) c.b fun a=>True) (zBm N c)):zqp c=true:=wI (fun _ _ h=>h) h
def zDp:zdr:=rP0 fun c=>(zqp c,zqq c,[.agg (zpd (zCE c))])
theorem zRW:zbN Tryz.prog 90 [false,true,true] zDp:=hP0 zd2 zU zCn zn (zo []) (fun _ h=>(z5K h).1)
theorem z9v {c:Cur}(h:zbc c):zqp c=true:=by
 refine z5L c ⟨0,?_⟩;unfold zBm oN nB;conv=>zeta
 have d:zbc {zcj c with b:=c.b}:=zbL h (zCF _);have a:zbc {zf {zcj c with b:=c.b} 8 with b:=c.b}:=zbL h (zF _ _);exact zq (z4l h) (zq (zbt d 8) (zbE (fun _=>zq (zd6 a (by simp)) (zbF (fun x=>AV.agg (zpd x)) (v:=⟨zbj _ _,(zcD c).Post,(zcD c).Open⟩) (zbP _ _) trivial)) (fun _=>zbE (fun _=>zq (zd6 a (by simp)) (zbF (fun x=>AV.agg (zpd x)) (v:=⟨(zcD c).Traps,zbj _ _,(zcD c).Open⟩) (zbP _ _) trivial)) (fun _=>zbE (fun _=>zbF (fun x=>AV.agg (zpd x)) (v:=⟨(zcD c).Traps,(zcD c).Post,bif (zcD c).Open then false else true⟩) (zF _ _) trivial) (fun _=>zbF (fun x=>AV.agg (zpd x)) (v:=(zcD c)) (zF _ _) trivial)))))
def zyS (N:Nat)(c:Cur)  : OA :=
 let f:=(zf c 5);let d:=({f with b:=c.b}:Cur);let j:=(zf d 100);let a:=(zk d 100);let e:=({ (zf d 4) with b:=c.b}:Cur);let g:=(ze6 (zk d 4) (zc0 e 2)); (oN (zA c 5) (cond (ieq (zk c 5) 0) (oN (zA d 4) (oN (zcL e 2) (oN (zkk (zk d 4) (zc0 e 2)) (some [(.agg [(.s .u8 c.b),(.i .i64 (zO e 2).i),(.i .i64 (zO e 2).h)]),(.agg [(.i .i64 g.Kind),(.i .i64 g.Page),(.b g.Write),(.i .i64 g.N)])])))) (cond (ieq (zk c 5) 1) (oN (zA d 100) (oN (zp1 a) (some [(.agg [(.s .u8 c.b),(.i .i64 j.i),(.i .i64 j.h)]),(.agg [(.i .i64 (zfk a).Kind),(.i .i64 (zfk a).Page),(.b (zfk a).Write),(.i .i64 (zfk a).N)])]))) (cond (ieq (zk c 5) 2) (oN (zA d 100) (oN (zsl a) (some [(.agg [(.s .u8 c.b),(.i .i64 j.i),(.i .i64 j.h)]),(.agg [(.i .i64 (zgl a).Kind),(.i .i64 (zgl a).Page),(.b (zgl a).Write),(.i .i64 (zgl a).N)])]))) (cond (ieq (zk c 5) 3) (some [(.agg [(.s .u8 c.b),(.i .i64 f.i),(.i .i64 f.h)]),(.agg [(.i .i64 4),(.i .i64 0),(.b false),(.i .i64 0)])]) (some [(.agg [(.s .u8 c.b),(.i .i64 f.i),(.i .i64 f.h)]),(.agg [(.i .i64 0),(.i .i64 0),(.b false),(.i .i64 0)])]))))))
def zqu (c:Cur)(s:Cur)(a:GExit):Prop:=(∃N,zyS N c=some (AV.agg (zbT s)::[.agg (zfH a)]))/\(s.b=c.b/\0<=s.i)/\(True)
def zgY (c:Cur)  : Bool:=wC (zqu c)
def zem (c:Cur)  : Cur:=wS (zqu c)
def zca (c:Cur)  : GExit:=wV (zqu c)
theorem z19 {c:Cur}(h:zgY c=true):zqu c (zem c) (zca c):=wG h
theorem zzs (c:Cur)  : 0<=(zem c).i:=wP fun h=>h.2.1.2
theorem z2a (c:Cur)(h:∃N,Ends (wE (fun a=>.agg (zfH a)) c.b fun a=>True) (zyS N c)):zgY c=true:=wI (fun _ _ h=>h) h
def zAq:zdr:=rP0 fun c=>(zgY c,zem c,[.agg (zfH (zca c))])
theorem zOV:zbN Tryz.prog 175 [false,true,true] zAq:=hP0 zd2 zU zCn zn (zo []) (fun _ h=>(z19 h).1)
theorem zXU {c:Cur}(h:zbc c):zgY c=true:=by
 refine z2a c ⟨0,?_⟩;unfold zyS oN;conv=>zeta
 have a:zbc {zf c 5 with b:=c.b}:=zbL h (zF _ _);have d:zbc {zf {zf c 5 with b:=c.b} 4 with b:=c.b}:=zbL h (zF _ _);exact zq (zbt h 5) (zbE (fun _=>zq (zbt a 4) (zq (zi0 d 2) (zq rfl (zbF (fun x=>AV.agg (zfH x)) (v:=ze6 _ _) (zcm _ _) trivial)))) (fun _=>zbE (fun _=>zq (zbt a 100) (zq rfl (zbF (fun x=>AV.agg (zfH x)) (v:=zfk _) (zF _ _) trivial))) (fun _=>zbE (fun _=>zq (zbt a 100) (zq rfl (zbF (fun x=>AV.agg (zfH x)) (v:=zgl _) (zF _ _) trivial))) (fun _=>zbE (fun _=>zbF (fun x=>AV.agg (zfH x)) (v:=⟨4,0,false,0⟩) (zF _ _) trivial) (fun _=>zbF (fun x=>AV.agg (zfH x)) (v:=⟨0,0,false,0⟩) (zF _ _) trivial)))))
def zbc2:zcJ:=[(247,([false,true,true],zuk)),(90,([false,true,true],zDp)),(175,([false,true,true],zAq))]++zbc1
theorem zop:zb2 zbc2:=zcv zCn (by
 intro x a;simp only[qG,qN,or_false]at a;rcases a with rfl|rfl|rfl
 .exact zFK
 .exact zRW
 .exact zOV)
def zBo (N:Nat)(c:Cur)  : OA :=
 let a:=(zca c);let e:=({ (zem c) with b:=c.b}:Cur);let d:=({ (zf e 8) with b:=c.b}:Cur); (oN (zgY c) (oN (zA e 8) (cond (ieq (zk e 8) 0) (oN (zA d 7) (some [(.agg [(.s .u8 c.b),(.i .i64 (zf d 7).i),(.i .i64 (zf d 7).h)]),(.agg [(.i .i64 (wsub .i64 (zk d 7) 1)),(.i .i64 a.Page),(.b a.Write),(.i .i64 a.N)])])) (cond (ieq (zk e 8) 1) (oN (zbm d [(-1),3,4]) (some [(.agg [(.s .u8 c.b),(.i .i64 (zW d [(-1),3,4]).i),(.i .i64 (zW d [(-1),3,4]).h)]),(.agg [(.i .i64 a.Kind),(.i .i64 (zbj d [(-1),3,4])),(.b a.Write),(.i .i64 a.N)])])) (cond (ieq (zk e 8) 2) (oN (zbm d [(-1),99,100]) (some [(.agg [(.s .u8 c.b),(.i .i64 (zW d [(-1),99,100]).i),(.i .i64 (zW d [(-1),99,100]).h)]),(.agg [(.i .i64 a.Kind),(.i .i64 a.Page),(.b a.Write),(.i .i64 (zbj d [(-1),99,100]))])])) (some [(.agg [(.s .u8 c.b),(.i .i64 (zf e 8).i),(.i .i64 (zf e 8).h)]),(.agg [(.i .i64 a.Kind),(.i .i64 a.Page),(.b a.Write),(.i .i64 a.N)])]))))))
def zsz (c:Cur)(s:Cur)(a:GExit):Prop:=(∃N,zBo N c=some (AV.agg (zbT s)::[.agg (zfH a)]))/\(s.b=c.b/\0<=s.i)/\(True)
def zqr (c:Cur)  : Bool:=wC (zsz c)
def zqs (c:Cur)  : Cur:=wS (zsz c)
def zCG (c:Cur)  : GExit:=wV (zsz c)
theorem z5P {c:Cur}(h:zqr c=true):zsz c (zqs c) (zCG c):=wG h
theorem z5R (c:Cur)  : 0<=(zqs c).i:=wP fun h=>h.2.1.2
theorem z5Q (c:Cur)(h:∃N,Ends (wE (fun a=>.agg (zfH a)) c.b fun a=>True) (zBo N c)):zqr c=true:=wI (fun _ _ h=>h) h
def zDr:zdr:=rP0 fun c=>(zqr c,zqs c,[.agg (zfH (zCG c))])
theorem zRY:zbN Tryz.prog 249 [false,true,true] zDr:=hP0 zd2 zU zop zn (zo []) (fun _ h=>(z5P h).1)
theorem z6B {c:Cur}(h:zbc c):zqr c=true:=by
 refine z5Q c ⟨0,?_⟩;unfold zBo oN;conv=>zeta
 have d:zbc {zem c with b:=c.b}:=zbL h (zzs _);have a:zbc {zf {zem c with b:=c.b} 8 with b:=c.b}:=zbL h (zF _ _);exact zq (zXU h) (zq (zbt d 8) (zbE (fun _=>zq (zbt a 7) (zbF (fun x=>AV.agg (zfH x)) (v:=⟨wsub .i64 _ 1,(zca c).Page,(zca c).Write,(zca c).N⟩) (zF _ _) trivial)) (fun _=>zbE (fun _=>zq (zd6 a (by simp)) (zbF (fun x=>AV.agg (zfH x)) (v:=⟨(zca c).Kind,zbj _ _,(zca c).Write,(zca c).N⟩) (zbP _ _) trivial)) (fun _=>zbE (fun _=>zq (zd6 a (by simp)) (zbF (fun x=>AV.agg (zfH x)) (v:=⟨(zca c).Kind,(zca c).Page,(zca c).Write,zbj _ _⟩) (zbP _ _) trivial)) (fun _=>zbF (fun x=>AV.agg (zfH x)) (v:=(zca c)) (zF _ _) trivial)))))
def zyT (N:Nat)(c:Cur)  : OA :=
 let a:=({ (zf c 256) with b:=c.b}:Cur);let d:=({ (zf a 256) with b:=c.b}:Cur);let e:=(zW d [0,1,128,255,(zk c 256),(zk a 256),(-1),256,9223372036854775807]); (oN (zA c 256) (oN (zA a 256) (oN (zbm d [0,1,128,255,(zk c 256),(zk a 256),(-1),256,9223372036854775807]) (some [(.agg [(.s .u8 c.b),(.i .i64 e.i),(.i .i64 e.h)]),(aI (zbj d [0,1,128,255,(zk c 256),(zk a 256),(-1),256,9223372036854775807]))]))))
def zqv (c:Cur)(s:Cur)(a:Int):Prop:=(∃N,zyT N c=some (AV.agg (zbT s)::[aI a]))/\(s.b=c.b/\0<=s.i)/\(True)
def znF (c:Cur)  : Bool:=wC (zqv c)
def znG (c:Cur)  : Cur:=wS (zqv c)
def zyD (c:Cur)  : Int:=wV (zqv c)
theorem z2c {c:Cur}(h:znF c=true):zqv c (znG c) (zyD c):=wG h
theorem z2e (c:Cur)  : 0<=(znG c).i:=wP fun h=>h.2.1.2
theorem z2d (c:Cur)(h:∃N,Ends (wE (fun a=>aI a) c.b fun a=>True) (zyT N c)):znF c=true:=wI (fun _ _ h=>h) h
def zAr:zdr:=rP0 fun c=>(znF c,znG c,[aI (zyD c)])
theorem zOW:zbN Tryz.prog 248 [false,true,true] zAr:=hP0 zd2 zU zop zn (zo []) (fun _ h=>(z2c h).1)
theorem zbfs {c:Cur}(h:zbc c):znF c=true:=by
 refine z2d c ⟨0,?_⟩;unfold zyT oN;conv=>zeta
 have a:zbc {zf c 256 with b:=c.b}:=zbL h (zF _ _);have d:zbc {zf {zf c 256 with b:=c.b} 256 with b:=c.b}:=zbL h (zF _ _);exact zq (zbt h 256) (zq (zbt a 256) (zq (zd6 d (by simp)) (zbF aI (zbP _ _) trivial)))
def zvm (N:Nat)(c:Cur)  : OA :=
 let a:=(zW c [0,1,2,3,0,1,(-1),4,9223372036854775807]); (oN (zbm c [0,1,2,3,0,1,(-1),4,9223372036854775807]) (some [(.agg [(.s .u8 c.b),(.i .i64 a.i),(.i .i64 a.h)]),(aI (zbj c [0,1,2,3,0,1,(-1),4,9223372036854775807]))]))
def zn8 (c:Cur)(s:Cur)(a:Int):Prop:=(∃N,zvm N c=some (AV.agg (zbT s)::[aI a]))/\(s.b=c.b/\0<=s.i)/\(True)
def zlW (c:Cur)  : Bool:=wC (zn8 c)
def zlX (c:Cur)  : Cur:=wS (zn8 c)
def zuS (c:Cur)  : Int:=wV (zn8 c)
theorem zZT {c:Cur}(h:zlW c=true):zn8 c (zlX c) (zuS c):=wG h
theorem zZV (c:Cur)  : 0<=(zlX c).i:=wP fun h=>h.2.1.2
theorem zZU (c:Cur)(h:∃N,Ends (wE (fun a=>aI a) c.b fun a=>True) (zvm N c)):zlW c=true:=wI (fun _ _ h=>h) h
def zxI:zdr:=rP0 fun c=>(zlW c,zlX c,[aI (zuS c)])
theorem zLZ:zbN Tryz.prog 155 [false,true,true] zxI:=hP0 zd2 zU zop zn (zo []) (fun _ h=>(zZT h).1)
theorem zbeE {c:Cur}(h:zbc c):zlW c=true:=by
 refine zZU c ⟨0,?_⟩;unfold zvm oN;conv=>zeta
 exact zq (zd6 h (by simp)) (zbF aI (zbP _ _) trivial)
def zE7 (N:Nat)(c:Cur)  : OA :=
 let a:=(zW c [0,0,1,1,2,(-1),9223372036854775807]); (oN (zbm c [0,0,1,1,2,(-1),9223372036854775807]) (some [(.agg [(.s .u8 c.b),(.i .i64 a.i),(.i .i64 a.h)]),(aI (zbj c [0,0,1,1,2,(-1),9223372036854775807]))]))
def zuT (c:Cur)(s:Cur)(a:Int):Prop:=(∃N,zE7 N c=some (AV.agg (zbT s)::[aI a]))/\(s.b=c.b/\0<=s.i)/\(True)
def zjk (c:Cur)  : Bool:=wC (zuT c)
def ztk (c:Cur)  : Cur:=wS (zuT c)
def zve (c:Cur)  : Int:=wV (zuT c)
theorem z8L {c:Cur}(h:zjk c=true):zuT c (ztk c) (zve c):=wG h
theorem zU3 (c:Cur)  : 0<=(ztk c).i:=wP fun h=>h.2.1.2
theorem z8M (c:Cur)(h:∃N,Ends (wE (fun a=>aI a) c.b fun a=>True) (zE7 N c)):zjk c=true:=wI (fun _ _ h=>h) h
def zGd:zdr:=rP0 fun c=>(zjk c,ztk c,[aI (zve c)])
theorem zVC:zbN Tryz.prog 67 [false,true,true] zGd:=hP0 zd2 zU zop zn (zo []) (fun _ h=>(z8L h).1)
theorem z6E {c:Cur}(h:zbc c):zjk c=true:=by
 refine z8M c ⟨0,?_⟩;unfold zE7 oN;conv=>zeta
 exact zq (zd6 h (by simp)) (zbF aI (zbP _ _) trivial)
def z0V (N:Nat)(c:Cur)  : OA :=
 let a:=(zW c [0,1,2,3,3,4,7,8,(-1),9223372036854775807,(-9223372036854775808)]); (oN (zbm c [0,1,2,3,3,4,7,8,(-1),9223372036854775807,(-9223372036854775808)]) (some [(.agg [(.s .u8 c.b),(.i .i64 a.i),(.i .i64 a.h)]),(aI (zbj c [0,1,2,3,3,4,7,8,(-1),9223372036854775807,(-9223372036854775808)]))]))
def zqi (c:Cur)(s:Cur)(a:Int):Prop:=(∃N,z0V N c=some (AV.agg (zbT s)::[aI a]))/\(s.b=c.b/\0<=s.i)/\(True)
def zKv (c:Cur)  : Bool:=wC (zqi c)
def zKw (c:Cur)  : Cur:=wS (zqi c)
def zU2 (c:Cur)  : Int:=wV (zqi c)
theorem z14 {c:Cur}(h:zKv c=true):zqi c (zKw c) (zU2 c):=wG h
def zAm:zdr:=rP0 fun c=>(zKv c,zKw c,[aI (zU2 c)])
theorem zOP:zbN Tryz.prog 68 [false,true,true] zAm:=hP0 zd2 zU zop zn (zo []) (fun _ h=>(z14 h).1)
def zvl (N:Nat)(c:Cur)  : OA :=
 let e:=({ (zf c 3) with b:=c.b}:Cur);let d:=({ (zf e 4) with b:=c.b}:Cur);let a:=({ (zf d 6) with b:=c.b}:Cur); (oN (zA c 3) (oN (zA e 4) (oN (zA d 6) (oN (zA a 3) (some [(.agg [(.s .u8 c.b),(.i .i64 (zf a 3).i),(.i .i64 (zf a 3).h)]),(.agg [(.i .i64 (zK .i64 1 (zk c 3))),(.i .i64 (zk e 4)),(.i .i64 (zk d 6)),(.i .i64 (zK .i64 1 (zk a 3)))])])))))
def zn7 (c:Cur)(s:Cur)(a:Entry):Prop:=(∃N,zvl N c=some (AV.agg (zbT s)::[aT .entry a]))/\(s.b=c.b/\0<=s.i)/\(True)
def zhw (c:Cur)  : Bool:=wC (zn7 c)
def zgn (c:Cur)  : Cur:=wS (zn7 c)
def zmP (c:Cur)  : Entry:=wV (zn7 c)
theorem zZR {c:Cur}(h:zhw c=true):zn7 c (zgn c) (zmP c):=wG h
theorem zwE (c:Cur)  : 0<=(zgn c).i:=wP fun h=>h.2.1.2
theorem zZS (c:Cur)(h:∃N,Ends (wE (fun a=>aT .entry a) c.b fun a=>True) (zvl N c)):zhw c=true:=wI (fun _ _ h=>h) h
def zxH:zdr:=rP0 fun c=>(zhw c,zgn c,[aT .entry (zmP c)])
theorem zLY:zbN Tryz.prog 250 [false,true,true] zxH:=hP0 zd2 zU zop zn (zo []) (fun _ h=>(zZR h).1)
theorem zQ4 {c:Cur}(h:zbc c):zhw c=true:=by
 refine zZS c ⟨0,?_⟩;unfold zvl oN;conv=>zeta
 have a:zbc {zf c 3 with b:=c.b}:=zbL h (zF _ _);have d:zbc {zf {zf c 3 with b:=c.b} 4 with b:=c.b}:=zbL h (zF _ _);have e:zbc {zf {zf {zf c 3 with b:=c.b} 4 with b:=c.b} 6 with b:=c.b}:=zbL h (zF _ _);exact zq (zbt h 3) (zq (zbt a 4) (zq (zbt d 6) (zq (zbt e 3) (zbF (aT .entry) (v:=⟨_,_,_,_⟩) (zF _ _) trivial))))
def zbc3:zcJ:=[(249,([false,true,true],zDr)),(248,([false,true,true],zAr)),(155,([false,true,true],zxI)),(67,([false,true,true],zGd)),(68,([false,true,true],zAm)),(250,([false,true,true],zxH))]++zbc2
theorem zbaS:zb2 zbc3:=zcv zop (by
 intro x a;simp only[qG,qN,or_false]at a;rcases a with rfl|rfl|rfl|rfl|rfl|rfl
 .exact zRY
 .exact zOW
 .exact zLZ
 .exact zVC
 .exact zOP
 .exact zLY)
section
open Go Go.RowKit
structure Cw (w0:World) (blk:Nat) (u:Value) (c:Cur) (w:World):Prop where
 os:w.os=w0.os
 tape:w.tape=w0.tape
 output:w.output=w0.output
 size:w0.heap.size<=w.heap.size
 keep:∀b,b<w0.heap.size->b≠blk->w.heap[b]?=w0.heap[b]?
 cur:∃e,w.heap[blk]?=some (.cells #[u,.int .i64 c.i,.int .i64 c.h] e (0,0))
theorem Cw.trans {g w1 h:World}{blk:Nat}{u:Value}{i d:Cur}(a:Cw g blk u i w1)(c:Cw w1 blk u d h):Cw g blk u d h :=
 ⟨c.os.trans a.os,c.tape.trans a.tape,c.output.trans a.output,qU a.size c.size,fun b e f=>(c.keep b (jK e a.size) f).trans (a.keep b e f),c.cur⟩
theorem Cw.drew {a w:World}{blk:Nat}{u:Value}{c:Cur}(h:Cw a blk u c w):Cw a blk u c w.drew:=⟨h.os,h.tape,h.output,h.size,h.keep,h.cur⟩
theorem Cw.at (w:World)(blk:Nat)(u:Value)(c:Cur)(h:∃e,w.heap[blk]?=some (.cells #[u,.int .i64 c.i,.int .i64 c.h] e (0,0))):Cw w blk u c w:=⟨rfl,rfl,rfl,qW _,fun _ _ _=>rfl,h⟩
theorem Cw.alloc {d w:World}{blk:Nat}{u:Value}{c:Cur}(h:Cw d blk u c w)(a:blk<w.heap.size)(o:Obj):Cw d blk u c (w.alloc o):=
 ⟨h.os,h.tape,h.output,qU h.size (by simp),fun b a g=>(heap_alloc_old w o (jK a h.size)).trans (h.keep b a g),by obtain⟨e,f⟩:=h.cur;exact⟨e,(heap_alloc_old w o a).trans f⟩⟩
theorem Cw.lt {b w:World}{blk:Nat}{u:Value}{c:Cur}(h:Cw b blk u c w):blk<w.heap.size:=by obtain⟨e,a⟩:=h.cur;exact(qQ.1 a).1
theorem zLd {P:Program}{f:FuncId}{y:List CV->List AV->Option (Bool×List CV×List AV)}(V:zbN P f [false,true,true] y){w:World}{blk:Nat}{u:Value}{c c2:Cur}{z:zY}(q:∃e,w.heap[blk]?=some (.cells #[u,.int .i64 c.i,.int .i64 c.h] e (0,0)))(hu:Rep false w u (.s .u8 c.b) z)(W:∀x,z x->x<w.heap.size/\x≠blk){avs rs:List AV}{xs:List Value}{Ka:zY}(l:zdl false w (zB avs) xs (fun _=>Ka))(p:∀x,Ka x->x<w.heap.size/\x≠blk)(hr:y (zbT c) avs=some (true,zbT c2,rs)) :
 Calls P f (#[.pointer (some ⟨blk,0,none⟩)]++(zbX avs xs).toArray) w fun e B=>∃C A,e = .returned (zjL (zbX rs C))/\Cw w blk u c2 B/\zuY (zpH f) B (zB rs) C A/\(∀i x,i<(zB rs).length->A i x->w.heap.size<=x/\x<B.heap.size):=by
 obtain⟨e,Y⟩:=q;refine(V.2 w blk _ e (zbT c) (fun j x=>j=0/\z x) avs xs Ka (zbT c2) rs Y rfl rfl ?_ ?_ ?_ l ?_ hr).mono ?_
 .intro j cv v m k
  match j,m,k with
  | 0,m,k=>cases m;cases k;exact hu.weak (fun x l=>⟨rfl,l⟩)
  | 1,m,k=>cases m;cases k;exact .i _ _ _
  | 2,m,k=>cases m;cases k;exact .i _ _ _
  |j+3,m,k=>simp[zbT]at m
 .intro j x _ l;exact W x l.2
 .intro i j x r t n hne l hx2;have:i=0:=l.1;subst this;simp[zbb]at n
 .intro x l;refine⟨(p x l).1,(p x l).2,fun j t n d=>?_⟩;have:j=0:=d.1;subst this;simp[zbb]at n
 .intro E B hp;cases E with
  |panicked _=>exact hp.elim
  |outgrown=>exact hp.elim
  |returned v=>
   obtain⟨Q,R,S,T,U,a,G,K',C,A,I,L,g3,F,M,N,g7,O,g9,J,K⟩:=hp;have g:∀i x,i<(zbT c).length->zbb [false,true,true] i->¬ ((fun (j:Nat) x=>j=0/\z x) i x):=by intro i x r n d;have:i=0:=d.1;subst this;simp[zbb]at n
   have k:a = #[u,.int .i64 c2.i,.int .i64 c2.h]:=by
    have hs:a.size=3:=L;have D:=(F 0 _ (a[0]'(by omega)) rfl (jH _)).2 (by simp[zbb]);have H:=F 1 _ (a[1]'(by omega)) rfl (jH _);have E:=F 2 _ (a[2]'(by omega)) rfl (jH _);have D:u=a[0]'(by omega):=(by simpa using D);apply Array.ext;{exact hs}
    .intro i r hi2
     match i,r with
     | 0,_=>exact D.symm
     | 1,_=>exact H
     | 2,_=>exact E
     |i+3,h=>omega
   subst k;refine⟨C,A,by rw[N],⟨Q,R,S,T,fun b X Z=>U b X Z (fun j t n d=>g j b t n d),G,I⟩,M,fun i x r d=>?_⟩;obtain⟨k1,k2,k3⟩:=O i x r d;rcases k3 with⟨j,t,n,d⟩|d;{exact absurd d (g j x t n)};{exact⟨d,k1⟩}
def zey (c:Cur):List (List Int):=zwD c 3
def zCd (c:Cur):Cur:={zmN c 3 with b:=c.b}
def z5e (c:Cur):Int:=zk (zCd c) 8
def zhB (c:Cur):Cur:={zf (zCd c) 8 with b:=c.b}
def z5d (c:Cur):Int:=zk (zhB c) 3
def zuB (c:Cur):Cur:={zf (zhB c) 3 with b:=c.b}
def l04n (c:Cur):Int:=zk (zuB c) 4
def z5b (c:Cur):Cur:={zf (zuB c) 4 with b:=c.b}
def zv0 (c:Cur):Int:=zbj (zhB c) [-1,100]
def z5c (c:Cur):Cur:={zW (zhB c) [-1,100] with b:=c.b}
def zo6 (_:Nat)(c:Cur):OA:=
 bif zic c 3 then (bif zA (zCd c) 8 then (bif ieq (z5e c) 0 then (cond (zA (zhB c) 3) (cond (zA (zuB c) 4) (some (AV.agg (zbT (z5b c))::[aS (.sl .int) (up (zey c) (z5d c) (tk (ix (zey c) 0 []) (l04n c)))])) none) none)
  else (bif ieq (z5e c) 1 then (cond (zbm (zhB c) [-1,100]) (some (AV.agg (zbT (z5c c))::[aS (.sl .int) (up (zey c) 1 (up (ix (zey c) 1 []) 2 (zv0 c)))])) none)
  else (cond (ieq (z5e c) 2) (cond (zA (zhB c) 3) (some (AV.agg (zbT (zuB c))::[aS (.sl .int) (tk (zey c) (z5d c))])) none) (some (AV.agg (zbT (zhB c))::[aS (.sl .int) (zey c)]))))) else none) else none
def zss (c:Cur)(s:Cur)(a:List (List Int)):Prop:=(∃N,zo6 N c=some (AV.agg (zbT s)::[aS (.sl .int) a]))/\(s.b=c.b/\0<=s.i)/\(a.length<=3/\∀r∈a,r.length<=4)
def zqk (c:Cur)  : Bool:=wC (zss c)
def zib (c:Cur)  : Cur:=wS (zss c)
def zrA (c:Cur)  : List (List Int):=wV (zss c)
theorem zQb {c:Cur}(h:zqk c=true):zss c (zib c) (zrA c):=wG h
theorem z5G (c:Cur)  : 0<=(zib c).i:=wP fun h=>h.2.1.2
theorem z5F (c:Cur)(h:∃N,Ends (wE (fun a=>aS (.sl .int) a) c.b fun a=>a.length<=3/\∀r∈a,r.length<=4) (zo6 N c)):zqk c=true:=wI (fun _ _ h=>h) h
def ztK:zdr:=rP0 fun c=>(zqk c,zib c,[aS (.sl .int) (zrA c)])
theorem zbaI {w:World}{blk:Nat}{u:Value}{c:Cur}{l:zY}{n:Int}(g:∃e,w.heap[blk]?=some (.cells #[u,.int .i64 c.i,.int .i64 c.h] e (0,0)))(t:Rep false w u (.s .u8 c.b) l)(q:∀x,l x->x<w.heap.size/\x≠blk)(r:zic c n=true) :
 Calls Tryz.prog 251 #[.pointer (some ⟨blk,0,none⟩),.int .i64 n] w fun e k=>∃v j,e = .returned v/\Cw w blk u {zmN c n with b:=c.b} k/\Rep true k v (.s (.sl .int) (zwD c n)) j/\(∀x,j x->w.heap.size<=x/\x<k.heap.size):=by
 have:=zLd (c:=c) (c2:=zmN c n) zz5 g t q (avs:=[.one (.i .i64 n)]) (rs:=[aS (.sl .int) (zwD c n)]) (xs:=[.int .i64 n]) (Ka:=fun _=>False) ⟨rfl,fun i A x a d=>by
  match i,a,d with
  | 0,a,d=>cases a;cases d;exact .i _ _ _
  |i+1,a,d=>simp at d⟩ (fun x d=>d.elim) (by show some (zic ⟨c.b,c.i,c.h⟩ n,_,_)=_;rw[show (⟨c.b,c.i,c.h⟩:Cur)=c from rfl,r])
 refine Calls.mono this ?_
 rintro e k ⟨z,j,rfl,f,m,p⟩
 match z,m.1 with
 |[y],_=>exact⟨y,j 0,rfl,⟨f.os,f.tape,f.output,f.size,f.keep,f.cur⟩,m.2 0 _ y rfl rfl,fun x d=>p 0 x (by simp[zB,AV.cvs]) d⟩
theorem zuv {w:World}{blk:Nat}{u:Value}{c:Cur}{j:zY}{n:Int}(g:∃e,w.heap[blk]?=some (.cells #[u,.int .i64 c.i,.int .i64 c.h] e (0,0)))(r:Rep false w u (.s .u8 c.b) j)(p:∀x,j x->x<w.heap.size/\x≠blk)(q:zA c n=true) :
 Calls Tryz.prog 150 #[.pointer (some ⟨blk,0,none⟩),.int .i64 n] w fun e l=>e = .returned (.int .i64 (zk c n))/\Cw w blk u {zf c n with b:=c.b} l:=by
 have:=zLd (c:=c) (c2:=zf c n) zvL g r p (avs:=[.one (.i .i64 n)]) (rs:=[aI (zk c n)]) (xs:=[.int .i64 n]) (Ka:=fun _=>False) ⟨rfl,fun i z x a d=>by
  match i,a,d with
  | 0,a,d=>cases a;cases d;exact .i _ _ _
  |i+1,a,d=>simp at d⟩ (fun x d=>d.elim) (by show some (zA ⟨c.b,c.i,c.h⟩ n,_,_)=_;rw[show (⟨c.b,c.i,c.h⟩:Cur)=c from rfl,q])
 refine Calls.mono this ?_
 rintro e l ⟨t,v,rfl,f,k,A⟩
 match t,k.1,k.2 with
 |[y],_,m=>have:=(m 0 _ y rfl rfl).int_inv;subst this;exact⟨rfl,f.os,f.tape,f.output,f.size,f.keep,f.cur⟩
theorem z8z {w:World}{blk:Nat}{u:Value}{c:Cur}{k:zY}{l:List Int}{v:Value}{Ka:zY}(f:∃e,w.heap[blk]?=some (.cells #[u,.int .i64 c.i,.int .i64 c.h] e (0,0)))(t:Rep false w u (.s .u8 c.b) k)(q:∀x,k x->x<w.heap.size/\x≠blk)(r:zbm c l=true)(z:Rep false w v (.s .int l) Ka)(j:∀x,Ka x->x<w.heap.size/\x≠blk) :
 Calls Tryz.prog 86 #[.pointer (some ⟨blk,0,none⟩),v] w fun e n=>e = .returned (.int .i64 (zbj c l))/\Cw w blk u {zW c l with b:=c.b} n:=by
 have:=zLd (c:=c) (c2:=zW c l) zsZ f t q (avs:=[.one (.s .int l)]) (rs:=[aI (zbj c l)]) (xs:=[v]) (Ka:=Ka) ⟨rfl,fun i C x a g=>by
  match i,a,g with
  | 0,a,g=>cases a;cases g;exact z
  |i+1,a,g=>simp at g⟩ j (by show some (zbm ⟨c.b,c.i,c.h⟩ l,_,_)=_;rw[show (⟨c.b,c.i,c.h⟩:Cur)=c from rfl,r])
 refine Calls.mono this ?_
 rintro e n ⟨A,B,rfl,d,m,D⟩
 match A,m.1,m.2 with
 |[y],_,p=>have:=(p 0 _ y rfl rfl).int_inv;subst this;exact⟨rfl,d.os,d.tape,d.output,d.size,d.keep,d.cur⟩
theorem z8G {w:World}{v:Value}{l:List (List Int)}{K:zY}(h:Rep true w v (.s (.sl .int) l) K)(n:l.length=3):∃(b off cap:Nat) (arr:Array Value) (e:TypeId) (V:Nat->Value) (c:Nat->zY),v = .slice (some ⟨b,off,none⟩) 3 cap/\w.heap[b]?=some (.cells arr e (0,0))/\3<=cap/\off+cap<=arr.size/\K b/\
 (∀i x,i<3->c i x->K x/\x≠b)/\(∀i g x,i<3->g<3->c i x->c g x->i=g)/\(∀i,i<3->arr[off+i]?=some (V i))/\∀i x,l[i]?=some x->Rep true w (V i) (.s .int x) (c i):=by
 cases h with
 |nil=>simp at n
 |void _ _ _ B=>cases B
 |sl _ _ b off cap arr e E V c _ y k r p f u a d C z=>have:=k rfl;subst this;have t:Ty.width (.sl .int)=1:=rfl;rw[t,uZ]at f;refine⟨b,off,cap,arr,e,fun i=>V i 0,fun i=>c i 0,by rw[n],y,by omega,f,u,fun i x q j=>⟨(a i 0 x (by omega) (by decide) j).1,(a i 0 x (by omega) (by decide) j).2 rfl⟩,fun i g x q A j m=>(d rfl i 0 g 0 x (by omega) (by decide) (by omega) (by decide) j m).1,fun i q=>?_,fun i x D=>z i x D 0 _ rfl⟩;have:=C i 0 (by omega) (by decide);rwa [t,uZ,jY] at this
theorem zZK {w:World}{v:Value}{l:List Int}{K:zY}(h:Rep true w v (.s .int l) K)(d:l.length=4):∃(b off cap:Nat) (arr:Array Value) (e:TypeId),v = .slice (some ⟨b,off,none⟩) 4 cap/\w.heap[b]?=some (.cells arr e (0,0))/\4<=cap/\off+cap<=arr.size/\K b/\
 ∀i x,l[i]?=some x->arr[off+i]?=some (.int .i64 x):=by
 cases h with
 |nil=>simp at d
 |void _ _ _ u=>cases u
 |sl _ _ b off cap arr e A V z _ q c j f a p k g y r=>have:=c rfl;subst this;have m:Ty.width .int=1:=rfl;rw[m,uZ]at a;refine⟨b,off,cap,arr,e,by rw[d],q,by omega,a,p,fun i x n=>?_⟩;have t:i<l.length:=(qA.1 n).1;have:=y i 0 t (by decide);rw[m,uZ,jY] at this;rw[this,(r i x n 0 (.i .i64 x) rfl).int_inv]
theorem zMI {o:Bool}{w:World}{b off cap:Nat}{arr:Array Value}{e:TypeId}(g:w.heap[b]?=some (.cells arr e (0,0))){l:List Int}(r:l.length<=1000)(c:l.length<=cap)(m:off+cap<=arr.size)(n:∀i x,l[i]?=some x->arr[off+i]?=some (.int .i64 x)):Rep o w (.slice (some ⟨b,off,none⟩) l.length cap) (.s .int l) (fun x=>x=b):=by
 refine .sl .int l b off cap arr e (0,0) (fun i j=>.int .i64 (l.getD i 0)) (fun _ _ _=>False) _ g (fun _=>rfl) (by rw[zqR];omega) c (by show off+cap*1<=arr.size;omega) rfl (fun i j x _ _ h=>h.elim) (fun _ i j t u x _ _ _ _ h=>h.elim) (fun i j f k=>?_) (fun i x p j q a=>?_);{have d:j=0:=(by have:j<1:=k;omega);subst d;have:=n i _ (qB f);show arr[off+i*1+0]?=_;rw[uZ,jY,this];simp[List.getD,qB f]}
 .match j,a with
  | 0,a=>cases a;have:l.getD i 0=x:=(by simp[List.getD,p]);show Rep o w (.int .i64 (l.getD i 0)) _ _;rw[this];exact .i _ _ _
  |j+1,a=>simp[Ty.cells]at a
theorem zMJ {w:World}{b off cap:Nat}{arr:Array Value}{e:TypeId}(n:w.heap[b]?=some (.cells arr e (0,0))){l:List (List Int)}(A:l.length<=1000)(c:l.length<=cap)(t:off+cap<=arr.size)(V:Nat->Value){K:zY}(f:K b)(u:∀i,i<l.length->arr[off+i]?=some (V i))(r:∀i x,l[i]?=some x->∃d,Rep false w (V i) (.s .int x) d/\∀y,d y->K y):Rep false w (.slice (some ⟨b,off,none⟩) l.length cap) (.s (.sl .int) l) K:=by
 refine .sl (.sl .int) l b off cap arr e (0,0) (fun i _=>V i) (fun _ _=>K) _ n (fun _=>rfl) (by rw[zqR];omega) c (by show off+cap*1<=arr.size;omega) f (fun i j x _ _ h=>⟨h,fun h=>by cases h⟩) (fun h=>by cases h) (fun i j p q=>?_) (fun i x v j z a=>?_);{have g:j=0:=(by have:j<1:=q;omega);subst g;show arr[off+i*1+0]?=_;rw[uZ,jY];exact u i p}
 .match j,a with
  | 0,a=>cases a;obtain⟨d,k,m⟩:=r i x v;exact k.weak m
  |j+1,a=>simp[Ty.cells]at a
theorem zxh {w:World}{b o:Nat}{arr:Array Value}{e:TypeId}(a:w.heap[b]?=some (.cells arr e (0,0))):w.frozen? ⟨b,o,none⟩=false:=by simp[World.frozen?,a]
set_option maxHeartbeats 3000000 in
theorem z1j {w:World}{blk:Nat}{u:Value}{c:Cur}{K0:zY}{r:Ans}(N:Nat)(b5:∃e,w.heap[blk]?=some (.cells #[u,.int .i64 c.i,.int .i64 c.h] e (0,0)))(hu:Rep false w u (.s .u8 c.b) K0)(hK:∀x,K0 x->x<w.heap.size/\x≠blk)(hE:zo6 N c=some r) :
 Calls Tryz.prog 156 #[.pointer (some ⟨blk,0,none⟩)] w fun e p=>∃c2 l v Kr,r=AV.agg (zbT c2)::[aS (.sl .int) l]/\e = .returned v/\Cw w blk u c2 p/\Rep false p v (.s (.sl .int) l) Kr/\(∀x,Kr x->w.heap.size<=x/\x<p.heap.size):=by
 unfold zo6 at hE;cases hm:zic c 3 with
 |false=>rw[hm]at hE;cases hE
 |true=>
 cases K:zA (zCd c) 8 with
 |false=>rw[hm,K]at hE;cases hE
 |true=>
 rw[hm,K,cT,cT]at hE;have a7:∀{p:World} {O:Cur},Cw w blk u O p->O.b=c.b->Rep false p u (.s .u8 O.b) K0/\∀x,K0 x->x<p.heap.size/\x≠blk:=by intro p O h e;rw[e];exact⟨hu.frame (fun x d=>h.keep x (hK x d).1 (hK x d).2),fun x d=>⟨jK (hK x d).1 h.size,(hK x d).2⟩⟩
 have hM:=(zCC hm).2.2 (by omega) (by omega)
 have a8:(zey c).length=3:=by have:=hM.1;unfold ln at this;unfold zey;omega
 have h5:=(zht K).2.2 (by omega)
 obtain⟨k,hk⟩:∃k,zk (zCd c) 8=k:=⟨_,rfl⟩;have f1:z5e c=k:=hk;rw[f1]at hE
 go_enter Tryz.func156,Tryz.ntmps156
 go_wp2_with fail
 refine(zbaI b5 hu hK hm).mono ?_
 rintro e L ⟨v,K1,rfl,F,b3,m⟩
 have b3:Rep true L v (.s (.sl .int) (zey c)) K1:=b3;have F:Cw w blk u (zCd c) L:=F;obtain⟨E,t,a3,d7,e0,V,Kc,rfl,c3,g9,d1,Z,G,e9,hV,c1⟩:=z8G b3 a8;have h3:blk<w.heap.size:=by obtain⟨e,he⟩:=b5;exact(qQ.1 he).1
 have e5:E≠blk:=by have:=(m E Z).1;omega
 have cellAt:∀{p:World} {O:Cur},Cw L blk u O p->p.heap[E]?=some (.cells d7 e0 (0,0)):=fun h=>(h.keep E (m E Z).2 e5).trans c3
 go_wp2_with fail
 obtain⟨g1,f2⟩:=a7 F rfl;refine(zuv F.cur g1 f2 K).mono ?_;rw[hk]
 rintro e X ⟨rfl,B⟩
 have B:Cw L blk u (zhB c) X:=B;obtain⟨g2,f3⟩:=a7 (F.trans B) rfl;have g0:=B.size;have g8:w.heap.size<=E/\E<L.heap.size:=m E Z
 have b2:∀{p:World} (i:Nat) (x:List Int),(∀b,Kc i b->b<L.heap.size->b≠blk->b≠E->p.heap[b]?=L.heap[b]?)->i<3->(zey c)[i]?=some x->Rep false p (V i) (.s .int x) (Kc i)/\∀y,Kc i y->w.heap.size<=y/\y<L.heap.size:=by intro p i x hf P d;refine⟨((c1 i x d).frame (fun y S=>?_)).ro,fun y S=>m y (G i y P S).1⟩;have:=m y (G i y P S).1;exact hf y S this.2 (by omega) (G i y P S).2
 go_wp2_with fail
 .have h0:ieq k 0=true:=by assumption
  rw[h0,cT]at hE;cases J:zA (zhB c) 3 with
  |false=>rw[J]at hE;cases hE
  |true=>
  cases b4:zA (zuB c) 4 with
  |false=>rw[J,b4]at hE;cases hE
  |true=>
   rw[J,b4,cT,cT]at hE;have hj:=(zht J).2.2 (by omega);obtain⟨j,a0⟩:=uU hj.1;have c8:z5d c=(j:Int):=a0;have hn:=(zht b4).2.2 (by omega);obtain⟨n,c9⟩:=uU hn.1;have f8:l04n c=(n:Int):=c9;rw[c8,f8]at hE;rw[a0]at hj;rw[c9]at hn;have e6:j<3:=(by omega);have h6:n<4:=(by omega);obtain⟨R0,c0⟩:∃R0,(zey c)[0]?=some R0:=⟨_,qB (by omega)⟩;have e2:R0.length=4:=hM.2 R0 (qK c0);obtain⟨f,a,g,T,e1,f0,c4,c6,a9,D,W⟩:=zZK (c1 0 R0 c0) e2;have Q:∀{p:World} {O:Cur},Cw L blk u O p->p.cell? ⟨E,t,none⟩=some (.slice (some ⟨f,a,none⟩) 4 g):=fun h=>(by have:=hV 0 (by omega);rw[jY,f0] at this;rw[cell_of_block (cellAt h)];exact this);have b7:∀{p:World} {O:Cur},Cw L blk u O p->p.cell? ⟨E,t+j,none⟩=some (V j)/\p.frozen? ⟨E,t+j,none⟩=false:=fun h=>by rw[cell_of_block (cellAt h)];exact⟨hV j e6,zxh (cellAt h)⟩
   have d8:∀{I:World},Cw L blk u (z5b c) I->∃c2 l v Kr,r=AV.agg (zbT c2)::[aS (.sl .int) l]/\Ending.returned (.slice (some ⟨E,t,none⟩) 3 a3) = .returned v/\Cw w blk u c2 (I.setCell ⟨E,t+j,none⟩ (.slice (some ⟨f,a,none⟩) n g))/\Rep false (I.setCell ⟨E,t+j,none⟩ (.slice (some ⟨f,a,none⟩) n g)) v (.s (.sl .int) l) Kr/\
    (∀x,Kr x->w.heap.size<=x/\x<(I.setCell ⟨E,t+j,none⟩ (.slice (some ⟨f,a,none⟩) n g)).heap.size):=by
    intro I h4;have hz:=h4.size;have a6:=m f (G 0 f (by omega) D).1
    have U:f≠blk:=by omega
    have a5:f≠E:=(G 0 f (by omega) D).2
    have ho:∀b,b≠E->(I.setCell ⟨E,t+j,none⟩ (.slice (some ⟨f,a,none⟩) n g)).heap[b]?=I.heap[b]?:=fun b K=>heap_setCell_other I _ b _ K;have d0:=heap_setCell_same I E (t+j) d7 e0 (.slice (some ⟨f,a,none⟩) n g) (cellAt h4);have A:=F.trans h4;refine⟨_,_,_,K1,(Option.some.inj hE).symm,rfl,⟨A.os,A.tape,A.output,by rw[World.size_setCell];exact A.size,fun b K hn=>(ho b (by omega)).trans (A.keep b K hn),by obtain⟨e,he⟩:=A.cur;exact⟨e,(ho blk (fun h=>e5 h.symm)).trans he⟩⟩,?_,fun x d=>⟨(m x d).1,by rw[World.size_setCell];have:=m x d;omega⟩⟩
    have c7:ix (zey c) 0 []=R0:=by unfold ix;simp[List.getD,c0]
    have a1:(up (zey c) (j:Int) (tk (ix (zey c) 0 []) (n:Int))).length=3:=by rw[zh5];exact a8
    have:=zMJ d0 (l:=up (zey c) (j:Int) (tk (ix (zey c) 0 []) (n:Int))) (by omega) (cap:=a3) (off:=t) (by omega) (by simpa using d1) (fun i=>if i=j then .slice (some ⟨f,a,none⟩) n g else V i) Z (fun i P=>by
     rw[a1]at P;rw[kF]
     by_cases M:i=j
     .subst M;rw[if_pos rfl,if_pos (by omega),if_pos rfl]
     .rw [if_neg (by omega),if_neg M]
      exact hV i P) (fun i x d=>by
     have P:i<3:=by rw[<- a1];exact(qA.1 d).1
     unfold up at d;rw[q9]at d
     by_cases M:i=j
     .subst M;rw[kH,if_pos rfl,if_pos (by omega),c7]at d
      cases d;refine⟨fun x=>x=f,?_,fun y S=>by rw[S];exact(G 0 f (by omega) D).1⟩
      have hl:(tk R0 (n:Int)).length=n:=by simp[tk];omega
      have:=zMI (o:=false) (w:=I.setCell ⟨E,t+i,none⟩ (.slice (some ⟨f,a,none⟩) n g)) (b:=f) (off:=a) (cap:=g) (arr:=T) (e:=e1) ((ho f a5).trans ((h4.keep f a6.2 U).trans c4)) (l:=tk R0 (n:Int)) (by omega) (by omega) a9 (fun q z hq=>by
       unfold tk at hq;rw[jI]at hq;split at hq
       .exact W q z hq
       .cases hq)
      rw[hl] at this;rw[if_pos rfl];exact this
     .rw [kH,if_neg (by omega)]at d
      rw[if_neg M];exact⟨Kc i,(b2 i x (fun b _ K hn c3=>(ho b c3).trans (h4.keep b K hn)) P d).1,fun y S=>(G i y P S).1⟩)
    rw[a1] at this;exact this
   have Y:Cw L blk u (zhB c) X.drew:=B.drew;obtain⟨e8,e7⟩:=a7 (F.trans Y) rfl;have d2:=Q Y
   go_region_with (first
    |(go_at_call_of 150 (Value.int IntKind.i64 3);refine(zuv (c:=zhB c) (n:=3) Y.cur e8 e7 J).mono ?_;rw[a0];rintro e w3 ⟨rfl,H⟩;have H:Cw X.drew blk u (zuB c) w3:=H;have C:=Y.trans H;have d3:=Q C;obtain⟨g3,f4⟩:=a7 (F.trans C) rfl)
    |(go_at_call_of 150 (Value.int IntKind.i64 4);refine(zuv (c:=zuB c) (n:=4) C.cur g3 f4 b4).mono ?_;rw[c9];rintro e I ⟨rfl,b8⟩;have b8:Cw w3 blk u (z5b c) I:=b8;have b9:=C.trans b8;have d4:=Q b9;obtain⟨d5,d6⟩:=b7 b9))
   (all_goals go_wp2);(all_goals go_ret);all_goals exact d8 b9
 .have h0:ieq k 0=false:=by assumption
  have h1:ieq k 1=true:=by assumption
  rw[h0,h1,cF,cT]at hE;cases c5:zbm (zhB c) [-1,100] with
  |false=>rw[c5]at hE;cases hE
  |true=>
   rw[c5,cT]at hE;obtain⟨R1,a4⟩:∃R1,(zey c)[1]?=some R1:=⟨_,qB (by omega)⟩;have e3:R1.length=4:=hM.2 R1 (qK a4);obtain⟨f,a,g,T,e1,e4,c4,c6,a9,D,W⟩:=zZK (c1 1 R1 a4) e3;have a6:=m f (G 1 f (by omega) D).1;have U:f≠blk:=(by omega);have a5:f≠E:=(G 1 f (by omega) D).2;have R:∀{p:World} {O:Cur},Cw L blk u O p->p.cell? ⟨E,t+1,none⟩=some (.slice (some ⟨f,a,none⟩) 4 g):=fun h=>(by have:=hV 1 (by omega);rw[e4] at this;rw[cell_of_block (cellAt h)];exact this);have a2:∀{p:World} {O:Cur},Cw L blk u O p->p.heap[f]?=some (.cells T e1 (0,0)):=fun h=>(h.keep f a6.2 U).trans c4;have b6:∀{p:World} {O:Cur},Cw L blk u O p->p.cell? ⟨f,a+2,none⟩=some (.int .i64 R1[2])/\p.frozen? ⟨f,a+2,none⟩=false:=fun h=>by rw[cell_of_block (a2 h)];exact⟨W 2 _ (qB (by omega)),zxh (a2 h)⟩
   have Y:Cw L blk u (zhB c) X.drew:=B.drew;have d2:=R Y;have d9:∀{I:World},Cw L blk u (z5c c) I->∃c2 l v Kr,r=AV.agg (zbT c2)::[aS (.sl .int) l]/\Ending.returned (.slice (some ⟨E,t,none⟩) 3 a3) = .returned v/\Cw w blk u c2 (I.setCell ⟨f,a+2,none⟩ (.int .i64 (zv0 c)))/\Rep false (I.setCell ⟨f,a+2,none⟩ (.int .i64 (zv0 c))) v (.s (.sl .int) l) Kr/\
    (∀x,Kr x->w.heap.size<=x/\x<(I.setCell ⟨f,a+2,none⟩ (.int .i64 (zv0 c))).heap.size):=by
    intro I h4;have hz:=h4.size;have ho:∀b,b≠f->(I.setCell ⟨f,a+2,none⟩ (.int .i64 (zv0 c))).heap[b]?=I.heap[b]?:=fun b K=>heap_setCell_other I _ b _ K;have d0:=heap_setCell_same I f (a+2) T e1 (.int .i64 (zv0 c)) (a2 h4);have A:=F.trans h4;refine⟨_,_,_,K1,(Option.some.inj hE).symm,rfl,⟨A.os,A.tape,A.output,by rw[World.size_setCell];exact A.size,fun b K hn=>(ho b (by omega)).trans (A.keep b K hn),by obtain⟨e,he⟩:=A.cur;exact⟨e,(ho blk (fun h=>U h.symm)).trans he⟩⟩,?_,fun x d=>⟨(m x d).1,by rw[World.size_setCell];have:=m x d;omega⟩⟩
    have c7:ix (zey c) 1 []=R1:=by unfold ix;show (zey c).getD 1 []=R1;simp[List.getD,a4]
    have a1:(up (zey c) 1 (up (ix (zey c) 1 []) 2 (zv0 c))).length=3:=by rw[zh5];exact a8
    have:=zMJ ((ho E (fun h=>a5 h.symm)).trans (cellAt h4)) (l:=up (zey c) 1 (up (ix (zey c) 1 []) 2 (zv0 c))) (by omega) (cap:=a3) (off:=t) (by omega) d1 V Z (fun i P=>hV i (by omega)) (fun i x d=>by
     have P:i<3:=by rw[<- a1];exact(qA.1 d).1
     unfold up at d;rw[q9]at d
     by_cases M:i=1
     .subst M;rw[show (1:Int).toNat=1 from rfl,if_pos rfl,if_pos (by omega),c7]at d
      cases d;refine⟨fun x=>x=f,?_,fun y S=>by rw[S];exact(G 1 f (by omega) D).1⟩
      have hl:(List.set R1 (2:Int).toNat (zv0 c)).length=4:=by simp;omega
      have:=zMI (o:=false) (w:=I.setCell ⟨f,a+2,none⟩ (.int .i64 (zv0 c))) (b:=f) (off:=a) (cap:=g) d0 (l:=List.set R1 (2:Int).toNat (zv0 c)) (by omega) (by omega) (by simpa using a9) (fun q z hq=>by
       rw[q9]at hq;rw[kF]
       by_cases f9:q=2
       .subst f9;rw[show (2:Int).toNat=2 from rfl,if_pos rfl,if_pos (by omega)]at hq
        cases hq;rw[if_pos rfl,if_pos (by omega)]
       .rw [show (2:Int).toNat=2 from rfl,if_neg (by omega)]at hq
        rw[if_neg (by omega)]
        exact W q z hq)
      rw[hl] at this;rw[e4];exact this
     .rw [show (1:Int).toNat=1 from rfl,if_neg (by omega)]at d
      refine⟨Kc i,(b2 i x (fun b f6 K hn g7=>?_) P d).1,fun y S=>(G i y P S).1⟩;exact(ho b (fun e=>M (e9 i 1 b P (by omega) f6 (by rw[e];exact D)))).trans (h4.keep b K hn))
    rw[a1] at this;exact this
   have hA:Cw L blk u (zhB c) (X.alloc (Obj.cells #[Value.int .i64 (-1),Value.int .i64 100] 3)).drew:=(B.alloc B.lt _).drew;obtain⟨g4,f5⟩:=a7 (F.trans hA) rfl;have dA:=R hA;have g5:Rep false (X.alloc (Obj.cells #[Value.int .i64 (-1),Value.int .i64 100] 3)).drew (.slice (some ⟨X.heap.size,0,none⟩) 2 2) (.s .int [-1,100]) (fun x=>x=X.heap.size):=by
    have hh:(X.alloc (Obj.cells #[Value.int .i64 (-1),Value.int .i64 100] 3)).drew.heap[X.heap.size]?=some (.cells #[Value.int .i64 (-1),Value.int .i64 100] 3 (0,0)):=heap_alloc_new X _;exact zMI (o:=false) hh (l:=[-1,100]) (cap:=2) (off:=0) (by decide) (by decide) (by decide) (fun i x d=>by
     match i,d with
     | 0,d=>cases d;rfl
     | 1,d=>cases d;rfl
     |i+2,d=>simp at d)
   go_region_with (first
    |(go_at_call_of 86 (Value.slice (some ⟨X.heap.size,0,none⟩) 2 2);refine(z8z (c:=zhB c) (l:=[-1,100]) hA.cur g4 f5 c5 g5 (fun x d=>by rw[d];exact⟨by simp,Nat.ne_of_gt B.lt⟩)).mono ?_;rintro e w3 ⟨rfl,H⟩;have H:Cw (X.alloc (Obj.cells #[Value.int .i64 (-1),Value.int .i64 100] 3)).drew blk u (z5c c) w3:=H;have C:=hA.trans H;have d3:=R C;obtain⟨d4,d5⟩:=b6 C))
   (all_goals go_wp2);(all_goals go_ret);all_goals exact d9 C
 .have h0:ieq k 0=false:=by assumption
  have h1:ieq k 1=false:=by assumption
  have h2:ieq k 2=true:=by assumption
  rw[h0,h1,h2,cF,cF,cT]at hE;cases J:zA (zhB c) 3 with
  |false=>rw[J]at hE;cases hE
  |true=>
   rw[J,cT]at hE;have hj:=(zht J).2.2 (by omega);obtain⟨j,a0⟩:=uU hj.1;have c8:z5d c=(j:Int):=a0;rw[c8]at hE;refine(zuv B.cur g2 f3 J).mono ?_;rw[a0];rintro e w3 ⟨rfl,H⟩;have H:Cw X blk u (zuB c) w3:=H;go_wp2;go_ret;have e6:j<3:=(by omega);have f7:(tk (zey c) (j:Int)).length=j:=(by simp[tk];omega);have C:=B.trans H;refine⟨_,_,_,K1,(Option.some.inj hE).symm,rfl,F.trans C,?_,fun x d=>⟨(m x d).1,by have:=m x d;have:=C.size;omega⟩⟩
   have:=zMJ (cellAt C) (l:=tk (zey c) (j:Int)) (by omega) (cap:=a3) (off:=t) (by omega) d1 V Z (fun i P=>hV i (by omega)) (fun i x d=>by
    have P:i<(tk (zey c) (j:Int)).length:=(qA.1 d).1;have g6:(zey c)[i]?=some x:=by unfold tk at d;rw[jI]at d;split at d;{exact d};{cases d}
    exact⟨Kc i,(b2 i x (fun b _ K hn _=>C.keep b K hn) (by omega) g6).1,fun y S=>(G i y (by omega) S).1⟩)
   rw[f7] at this;exact this
 .have h0:ieq k 0=false:=by assumption
  have h1:ieq k 1=false:=by assumption
  have h2:ieq k 2=false:=by assumption
  rw[h0,h1,h2,cF,cF,cF]at hE
  go_ret
  exact⟨_,_,_,K1,(Option.some.inj hE).symm,rfl,F.trans B,(b3.frame (fun x d=>B.keep x (m x d).2 (by have:=m x d;omega))).ro,fun x d=>⟨(m x d).1,by have:=m x d;omega⟩⟩
theorem zYj {c:Cur}(h:zbc c):zqk c=true:=by
 refine z5F c ⟨0,?_⟩;unfold zo6;have t:=zbfV h (a0:=3) (by omega) (by omega);have y:zbc (zCd c):=zbL h (z5I _ _);have k:zbc (zhB c):=zbL h (zF _ _);have z:zbc (zuB c):=zbL h (zF _ _);have p:=(zCC t).2.2 (by omega) (by omega);have A:(zey c).length=3:=(by have:=p.1;unfold ln at this;unfold zey;omega);have f:∀r∈zey c,r.length<=4:=fun r f=>kY (p.2 r f);have u:∀n,(ix (zey c) n []).length<=4:=(by intro n;unfold ix List.getD;cases e:(zey c)[n.toNat]? with|none=>simp|some r=>exact f r (qK e));have g:∀(n:Int) (r:List Int),r.length<=4->∀q∈up (zey c) n r,q.length<=4:=by intro n r j q e;rcases qY e with e|rfl;{exact f q e};{exact j}
 have d:∀(s:Cur) (l:List (List Int)),s.b=c.b->0<=s.i->l.length<=3->(∀r∈l,r.length<=4)->Ends (fun a=>∃s m,a=(AV.agg (zbT s)::[aS (.sl .int) m])/\(s.b=c.b/\0<=s.i)/\(m.length<=3/\∀r∈m,r.length<=4)) (some (AV.agg (zbT s)::[aS (.sl .int) l])):=
  fun s l v w x j=>⟨_,rfl,s,l,rfl,⟨v,w⟩,x,j⟩
 exact zq t (zq (zbt y 8) (zbE (fun _=>zq (zbt k 3) (zq (zbt z 4) (d _ _ rfl (zF _ _) (by rw[zh5];omega) (g _ _ (qU (zF1 _ _) (u _))))))
  (fun _=>zbE (fun _=>zq (zd6 k (by simp)) (d _ _ rfl (zbP _ _) (by rw[zh5];omega) (g _ _ (by rw[zh5];exact u _)))) (fun _=>zbE (fun _=>zq (zbt k 3) (d _ _ rfl (zF _ _) (qU (zF1 _ _) (by omega)) (fun r e=>f r (jV e)))) (fun _=>d _ _ rfl (zF _ _) (by omega) f)))))
theorem zRS:zbN Tryz.prog 156 [false,true,true] ztK:=by
 refine⟨ziG (by kernel_rfl),?_⟩;intro w blk d e cs K T xs Ka U rs D P a4 k A X n W g;unfold ztK rP0 at g;obtain⟨⟨p,q,r⟩,rfl,g⟩:=z8u g;obtain⟨rfl,R,rfl,rfl⟩:=zxC g;dsimp only at R ⊢;have hs:d.size=3:=P;have M:xs=[]:=List.eq_nil_of_length_eq_zero n.1;subst M;obtain⟨N,hE⟩:=(zQb R).1;have v1:=(k 1 _ (d[1]'(by omega)) rfl (jH _)).int_inv;have v2:=(k 2 _ (d[2]'(by omega)) rfl (jH _)).int_inv
 have m:d = #[d[0]'(by omega),.int .i64 q,.int .i64 r]:=by
  apply Array.ext;{exact hs}
  .intro i E hi2
   match i,E with
   | 0,_=>rfl
   | 1,_=>exact v1
   | 2,_=>exact v2
   |i+3,h=>omega
 have hu:=k 0 _ (d[0]'(by omega)) rfl (jH _);have f:Rep false w (d[0]'(by omega)) (.s .u8 p) (K 0):=hu;generalize d[0]'(by omega)=u at m f;subst m;refine(z1j (c:=⟨p,q,r⟩) (u:=u) (K0:=K 0) N ⟨e,D⟩ f (fun x n=>A 0 x (show 0<3 by decide) n) hE).mono ?_;rintro e2 w' ⟨z,l,v,S,hr,rfl,y,Y,t⟩;have B:AV.agg (zbT (zib ⟨p,q,r⟩))::[aS (.sl .int) (zrA ⟨p,q,r⟩)]=AV.agg (zbT z)::[aS (.sl .int) l]:=hr;simp only[List.cons.injEq,AV.agg.injEq,AV.one.injEq,and_true]at B;obtain⟨C,I⟩:=B;have I:zrA ⟨p,q,r⟩=l:=(by cases I;rfl);subst I;have O:zib ⟨p,q,r⟩=z:=(by have C:=C;simp only[zbT,List.cons.injEq,CV.s.injEq,CV.i.injEq,true_and,and_true,heq_eq_eq]at C;obtain⟨F,G,H⟩:=C;generalize zib ⟨p,q,r⟩=s at F G H;obtain⟨a1,a2,a3⟩:=s;obtain⟨b1,b2,b3⟩:=z;simp only at F G H;rw[F,G,H]);rw[O];obtain⟨V,J⟩:=y.cur;refine⟨y.os,y.tape,y.output,y.size,fun b D hn _=>y.keep b D hn,#[u,.int .i64 z.i,.int .i64 z.h],V,fun _ _=>False,[v],fun _=>S,J,rfl,rfl,?_,⟨rfl,fun i Q x a n=>?_⟩,rfl,fun j x _ h=>h.elim,fun i x E L=>⟨(t x L).2,?_,.inr (t x L).1⟩,fun i j x _ _ _ h=>h.elim,?_,fun i j x _ _ h=>h.elim⟩
 .intro j Q u' a f
  match j,a,f with
  | 0,a,f=>cases a;exact⟨fun h=>by simp[zbb]at h,fun _=>f⟩
  | 1,a,f=>cases a;cases f;rfl
  | 2,a,f=>cases a;cases f;rfl
  |j+3,a,f=>simp[zbT]at a
 .match i,a,n with
  | 0,a,n=>cases a;cases n;exact Y
  |i+1,a,n=>simp at n
 {have:=(qQ.1 D).1;have:=(t x L).1;omega};{intro i j Q x E ho Z a0 _;have h1:i<1:=(qA.1 E).1;have h2:j<1:=Z;omega}
def zbc4:zcJ:=[(156,([false,true,true],ztK))]++zbc3
theorem zZz:zb2 zbc4:=zcv zbaS (by
 intro x a;simp only[qG,qN,or_false]at a;rcases a with rfl
 .exact zRS)
end
def zbfL:zX:=[(195,zmu),(224,zrm)]++zbb1
theorem zK5:zL zbfL:=zh zok (zh zvJ zd2)
theorem zHE {g:Type}{c e:Cur}(h:zbc c)(j:0<=e.i){P:g->Prop}{q:Int}(A:0<q)(M:q<=1000){fc:Cur->Bool}{fs:Cur->Cur}{fv:Cur->g}(E:∀{c:Cur},zbc c->fc c=true)(H:∀c,0<=(fs c).i)(hg:∀{c:Cur},zbc c->P (fv c)){G:Ans->Prop}{l0:List g}{z:Nat}(O:l0.length<=z)(I:z<=1000)(m:∀x∈l0,P x){p:Type}(S:Nat->Int×Int×Int×List g->p){F:(p->OA)->p->OA}(D:∀rec t i k l,∃r,F rec (S 0 (t,i,k,l))=(bif zA ⟨c.b,i,k⟩ q then (bif ilt t (zk ⟨c.b,i,k⟩ q) then (bif fc { zf ⟨c.b,i,k⟩ q with b:=c.b } then (bif few (ln (ap l [fv { zf ⟨c.b,i,k⟩ q with b:=c.b }])) then
        rec (S 0 (zK .i64 t 1,(fs {zf ⟨c.b,i,k⟩ q with b:=c.b}).i,(fs {zf ⟨c.b,i,k⟩ q with b:=c.b}).h,ap l [fv {zf ⟨c.b,i,k⟩ q with b:=c.b}])) else none) else none) else some r) else none)/\(ln l<=z+q->(∀x∈l,P x)->G r)):Ends G (iter 1002 F (S 0 (0,e.i,e.h,l0))):=by
 refine zm7 (fun n s=>∃t i k l,s=S 0 (t,i,k,l)/\t+(n:Int)=1000/\0<=t/\t<=q/\0<=i/\(∀x∈l,P x)/\ln l<=z+t) ?_ 1002 1000 _ ⟨0,e.i,e.h,l0,rfl,rfl,kS 0,by omega,j,m,by unfold ln;omega⟩ (by omega)
 rintro n s rec ⟨t,i,k,l,rfl,J,B,K,C,u,L⟩ f
 obtain⟨r,hF1,hF2⟩:=D rec t i k l;rw[hF1];have a:zbc ⟨c.b,i,k⟩:=zbL h C;have d:=zfK a A;have v:zbc {zf ⟨c.b,i,k⟩ q with b:=c.b}:=zbL h (zF _ _);refine zq (zbt a _) (zbE (fun w=>?_) (fun w=>?_))
 .have hlt:t<zk ⟨c.b,i,k⟩ q:=qE w;have N:=zhg (y:=1) B (by omega) (by omega) (by omega)
  refine zq (E v) (zq (zlo (by rw[zhC];omega)) (f (n-1) _ (by omega) ⟨_,_,_,_,rfl,by omega,by omega,by omega,H _,?_,by rw[zhC];omega⟩))
  intro x d;rcases jJ.1 d with d|d
  .exact u x d
  .rw [qF.1 d];exact hg v
 .exact zvx (hF2 (by omega) u)
theorem zbfc {c d:Cur}(h:zbc c)(f:0<=d.i){m q x:Int}(t:0<q)(g:0<=m)(D:m+q<=1000){G:Ans->Prop}{l0:List Int}(B:ln l0<=m+q){j:Type}(S:Nat->Int×Int×List Int->j){F:(j->OA)->j->OA}(w:∀rec i k l,∃r,F rec (S 0 (i,k,l))=(bif zA ⟨c.b,i,k⟩ q then (bif ilt (ln l) (zK .i64 m (zk ⟨c.b,i,k⟩ q)) then (bif few (ln (ap l [x])) then
        rec (S 0 ((zf ⟨c.b,i,k⟩ q).i,(zf ⟨c.b,i,k⟩ q).h,ap l [x])) else none) else some r) else none)/\(ln l<=m+q->G r)):Ends G (iter 1002 F (S 0 (d.i,d.h,l0))):=by
 refine zm7 (fun n s=>∃i k l,s=S 0 (i,k,l)/\ln l+(n:Int)=1000/\0<=i/\ln l<=m+q) ?_ 1002 (1000-ln l0).toNat _ ⟨d.i,d.h,l0,rfl,by unfold ln at *;omega,f,B⟩ (by unfold ln at *;omega)
 rintro n s rec ⟨i,k,l,rfl,C,u,v⟩ e
 obtain⟨r,hF1,hF2⟩:=w rec i k l;rw[hF1];have a:zbc ⟨c.b,i,k⟩:=zbL h u;have A:=zfK a t;have z:=zhg (x:=m) (y:=zk ⟨c.b,i,k⟩ q) g (by omega) A.1 (by omega)
 refine zq (zbt a _) (zbE (fun p=>?_) (fun p=>?_))
 .have hlt:ln l<zK .i64 m (zk ⟨c.b,i,k⟩ q):=qE p;rw[z]at hlt;exact zq (zlo (by rw[zhC];omega)) (e (n-1) _ (by unfold ln at *;omega) ⟨_,_,_,rfl,by rw[zhC];omega,zF _ _,by rw[zhC];omega⟩)
 .exact zvx (hF2 v)
def GuS (g:Guest):Prop:=g.Prog.length<=13/\g.Written.length<=4/\g.Live.length<=4/\g.Seen.length<=50
theorem zHn {c:Cur}(h:zbc c):(zdq c 4 8).length<=4:=by have:=(zbeC h (n:=4) (m:=8) (by omega) (by omega) (by omega) (by omega)).1;unfold ln at this;omega
def zvn (N:Nat)(c:Cur)  : OA :=
 let C:=({ (zZ c) with b:=c.b}:Cur);let v:=(zdq C 4 8);let d:=(zcu (zb5 c));let y9:=({ (zJ C 4 8) with b:=c.b}:Cur);let x:=(zdq y9 4 8);let y2:=({ (zJ y9 4 8) with b:=c.b}:Cur);let w:=(zk y2 100);let B:=({ (zf y2 100) with b:=c.b}:Cur);let y:=(zk B 4);let y0:=({ (zf B 4) with b:=c.b}:Cur);let I:=({ (zcj y0) with b:=c.b}:Cur);let e:=(zcD y0);let A:=({ (zO I 3) with b:=c.b}:Cur);let H:=({ (zf A 256) with b:=c.b}:Cur);let r:=({ (zO A 4) with b:=c.b}:Cur);let u:=({ (zem r) with b:=c.b}:Cur);let q:=({ (zO H 4) with b:=c.b}:Cur);let t:=({ (zem q) with b:=c.b}:Cur); (oN (zgX c) (oN (zi3 (zb5 c)) (oN (zhu C 4 8) (oN (zhu y9 4 8) (oN (zA y2 100) (oN (zA B 4) (oN (zj1 y0) (oN (zcL I 3) (cond (zc0 I 3) (oN (zA A 256) (oN (zcL H 4) (cond (zc0 H 4) (oN (zgY q) (oN (zcL t 12) (iter (σ:=(Int×(Int×(Int×(Int×(Int×(Int×(Int×(Bool×(Int×(Int×(Int×(Bool×(Int×(Bool×(Int×(Int×(Int×(Int×(Bool×(Int×(Int×(Int×(Bool×(Int×(Bool×((List Int)×(lI×(lS×(lS×((List Int)×(lI×(lS×(lS×((List Int)×Unit))))))))))))))))))))))))))))))))))) N (fun z a=>let d6:=a.2.2.2.2.2.2.2.2.2.2.2.2.2.2.1;let d2:=a.2.2.2.2.2.2.2.2.2.2.2.2.2.2.2.1;let c8:=a.2.2.2.2.2.2.2.2.2.2.2.2.2.2.2.2.1;let c4:=a.2.2.2.2.2.2.2.2.2.2.2.2.2.2.2.2.2.1;let c0:=a.2.2.2.2.2.2.2.2.2.2.2.2.2.2.2.2.2.2.1;let b6:=a.2.2.2.2.2.2.2.2.2.2.2.2.2.2.2.2.2.2.2.1;let b2:=a.2.2.2.2.2.2.2.2.2.2.2.2.2.2.2.2.2.2.2.2.1;let a8:=a.2.2.2.2.2.2.2.2.2.2.2.2.2.2.2.2.2.2.2.2.2.1;let a4:=a.2.2.2.2.2.2.2.2.2.2.2.2.2.2.2.2.2.2.2.2.2.2.1;let a0:=a.2.2.2.2.2.2.2.2.2.2.2.2.2.2.2.2.2.2.2.2.2.2.2.1;let W:=a.2.2.2.2.2.2.2.2.2.2.2.2.2.2.2.2.2.2.2.2.2.2.2.2.1;let S:=a.2.2.2.2.2.2.2.2.2.2.2.2.2.2.2.2.2.2.2.2.2.2.2.2.2.2.2.2.2.2.1;let O:=a.2.2.2.2.2.2.2.2.2.2.2.2.2.2.2.2.2.2.2.2.2.2.2.2.2.2.2.2.2.2.2.1;let J:=a.2.2.2.2.2.2.2.2.2.2.2.2.2.2.2.2.2.2.2.2.2.2.2.2.2.2.2.2.2.2.2.2.1;let D:=a.2.2.2.2.2.2.2.2.2.2.2.2.2.2.2.2.2.2.2.2.2.2.2.2.2.2.2.2.2.2.2.2.2.1;let y4:=a.2.2.2.2.2.2.2.2.2.2.2.2.2.2.2.2.2.2.2.2.2.2.2.2.2.1;let l:=(⟨y4,a.2.1,a.2.2.1⟩:Cur);let f:=({ (zf l 4) with b:=y4}:Cur); (oN (zA l 4) (cond (ilt a.1 (zk l 4)) (oN (zA f 100) (oN (few (ln (ap D [(zk f 100)]))) (z ((zK .i64 a.1 1),((zf f 100).i,((zf f 100).h,(a.2.2.2.1,(a.2.2.2.2.1,(a.2.2.2.2.2.1,(a.2.2.2.2.2.2.1,(a.2.2.2.2.2.2.2.1,(a.2.2.2.2.2.2.2.2.1,(a.2.2.2.2.2.2.2.2.2.1,(a.2.2.2.2.2.2.2.2.2.2.1,(a.2.2.2.2.2.2.2.2.2.2.2.1,(a.2.2.2.2.2.2.2.2.2.2.2.2.1,(a.2.2.2.2.2.2.2.2.2.2.2.2.2.1,(d6,(d2,(c8,(c4,(c0,(b6,(b2,(a8,(a4,(a0,(W,(y4,(a.2.2.2.2.2.2.2.2.2.2.2.2.2.2.2.2.2.2.2.2.2.2.2.2.2.2.1,(a.2.2.2.2.2.2.2.2.2.2.2.2.2.2.2.2.2.2.2.2.2.2.2.2.2.2.2.1,(a.2.2.2.2.2.2.2.2.2.2.2.2.2.2.2.2.2.2.2.2.2.2.2.2.2.2.2.2.1,(a.2.2.2.2.2.2.2.2.2.2.2.2.2.2.2.2.2.2.2.2.2.2.2.2.2.2.2.2.2.1,(S,(O,(J,((ap D [(zk f 100)]),()))))))))))))))))))))))))))))))))))))) (some [(.agg [(.s .u8 y4),(.i .i64 (zf l 4).i),(.i .i64 (zf l 4).h)]),(aT .guest (⟨S,d6,d2,O,J,⟨c8,c4,c0⟩,b6,⟨b2,a8,a4,a0⟩,W,D⟩:Guest))])))) (0,((zO t 12).i,((zO t 12).h,(0,(0,(0,(0,(false,(0,(0,(0,(false,(0,(false,(w,(y,(e.Traps,(e.Post,(e.Open,((zk A 256),((zca q).Kind,((zca q).Page,((zca q).Write,((zca q).N,((zc0 t 12),(c.b,([],([],([],([],(d.Prog,(v,(x,(d.Seen,()))))))))))))))))))))))))))))))))))))) (oN (zcL q 12) (iter (σ:=(Int×(Int×(Int×(Int×(Int×(Int×(Int×(Bool×(Int×(Int×(Int×(Bool×(Int×(Bool×(Int×(Int×(Int×(Int×(Bool×(Int×(Int×(Int×(Bool×(Int×(Bool×((List Int)×(lI×(lS×(lS×((List Int)×(lI×(lS×(lS×((List Int)×Unit))))))))))))))))))))))))))))))))))) N (fun z a=>let d7:=a.2.2.2.2.2.2.2.2.2.2.2.2.2.2.1;let d3:=a.2.2.2.2.2.2.2.2.2.2.2.2.2.2.2.1;let c9:=a.2.2.2.2.2.2.2.2.2.2.2.2.2.2.2.2.1;let c5:=a.2.2.2.2.2.2.2.2.2.2.2.2.2.2.2.2.2.1;let c1:=a.2.2.2.2.2.2.2.2.2.2.2.2.2.2.2.2.2.2.1;let b7:=a.2.2.2.2.2.2.2.2.2.2.2.2.2.2.2.2.2.2.2.1;let b3:=a.2.2.2.2.2.2.2.2.2.2.2.2.2.2.2.2.2.2.2.2.1;let a9:=a.2.2.2.2.2.2.2.2.2.2.2.2.2.2.2.2.2.2.2.2.2.1;let a5:=a.2.2.2.2.2.2.2.2.2.2.2.2.2.2.2.2.2.2.2.2.2.2.1;let a1:=a.2.2.2.2.2.2.2.2.2.2.2.2.2.2.2.2.2.2.2.2.2.2.2.1;let X:=a.2.2.2.2.2.2.2.2.2.2.2.2.2.2.2.2.2.2.2.2.2.2.2.2.1;let T:=a.2.2.2.2.2.2.2.2.2.2.2.2.2.2.2.2.2.2.2.2.2.2.2.2.2.2.2.2.2.2.1;let P:=a.2.2.2.2.2.2.2.2.2.2.2.2.2.2.2.2.2.2.2.2.2.2.2.2.2.2.2.2.2.2.2.1;let K:=a.2.2.2.2.2.2.2.2.2.2.2.2.2.2.2.2.2.2.2.2.2.2.2.2.2.2.2.2.2.2.2.2.1;let E:=a.2.2.2.2.2.2.2.2.2.2.2.2.2.2.2.2.2.2.2.2.2.2.2.2.2.2.2.2.2.2.2.2.2.1;let y5:=a.2.2.2.2.2.2.2.2.2.2.2.2.2.2.2.2.2.2.2.2.2.2.2.2.2.1;let m:=(⟨y5,a.2.1,a.2.2.1⟩:Cur);let g:=({ (zf m 4) with b:=y5}:Cur); (oN (zA m 4) (cond (ilt a.1 (zk m 4)) (oN (zA g 100) (oN (few (ln (ap E [(zk g 100)]))) (z ((zK .i64 a.1 1),((zf g 100).i,((zf g 100).h,(a.2.2.2.1,(a.2.2.2.2.1,(a.2.2.2.2.2.1,(a.2.2.2.2.2.2.1,(a.2.2.2.2.2.2.2.1,(a.2.2.2.2.2.2.2.2.1,(a.2.2.2.2.2.2.2.2.2.1,(a.2.2.2.2.2.2.2.2.2.2.1,(a.2.2.2.2.2.2.2.2.2.2.2.1,(a.2.2.2.2.2.2.2.2.2.2.2.2.1,(a.2.2.2.2.2.2.2.2.2.2.2.2.2.1,(d7,(d3,(c9,(c5,(c1,(b7,(b3,(a9,(a5,(a1,(X,(y5,(a.2.2.2.2.2.2.2.2.2.2.2.2.2.2.2.2.2.2.2.2.2.2.2.2.2.2.1,(a.2.2.2.2.2.2.2.2.2.2.2.2.2.2.2.2.2.2.2.2.2.2.2.2.2.2.2.1,(a.2.2.2.2.2.2.2.2.2.2.2.2.2.2.2.2.2.2.2.2.2.2.2.2.2.2.2.2.1,(a.2.2.2.2.2.2.2.2.2.2.2.2.2.2.2.2.2.2.2.2.2.2.2.2.2.2.2.2.2.1,(T,(P,(K,((ap E [(zk g 100)]),()))))))))))))))))))))))))))))))))))))) (some [(.agg [(.s .u8 y5),(.i .i64 (zf m 4).i),(.i .i64 (zf m 4).h)]),(aT .guest (⟨T,d7,d3,P,K,⟨c9,c5,c1⟩,b7,⟨b3,a9,a5,a1⟩,X,E⟩:Guest))])))) (0,((zO q 12).i,((zO q 12).h,(0,(0,(0,(0,(false,(0,(0,(0,(false,(0,(false,(w,(y,(e.Traps,(e.Post,(e.Open,((zk A 256),(d.Exit.Kind,(d.Exit.Page,(d.Exit.Write,(d.Exit.N,((zc0 q 12),(c.b,([],([],([],([],(d.Prog,(v,(x,(d.Seen,()))))))))))))))))))))))))))))))))))))))) (oN (zcL A 4) (cond (zc0 A 4) (oN (zgY r) (oN (zcL u 12) (iter (σ:=(Int×(Int×(Int×(Int×(Int×(Int×(Int×(Bool×(Int×(Int×(Int×(Bool×(Int×(Bool×(Int×(Int×(Int×(Int×(Bool×(Int×(Int×(Int×(Bool×(Int×(Bool×((List Int)×(lI×(lS×(lS×((List Int)×(lI×(lS×(lS×((List Int)×Unit))))))))))))))))))))))))))))))))))) N (fun z a=>let d8:=a.2.2.2.2.2.2.2.2.2.2.2.2.2.2.1;let d4:=a.2.2.2.2.2.2.2.2.2.2.2.2.2.2.2.1;let d0:=a.2.2.2.2.2.2.2.2.2.2.2.2.2.2.2.2.1;let c6:=a.2.2.2.2.2.2.2.2.2.2.2.2.2.2.2.2.2.1;let c2:=a.2.2.2.2.2.2.2.2.2.2.2.2.2.2.2.2.2.2.1;let b8:=a.2.2.2.2.2.2.2.2.2.2.2.2.2.2.2.2.2.2.2.1;let b4:=a.2.2.2.2.2.2.2.2.2.2.2.2.2.2.2.2.2.2.2.2.1;let b0:=a.2.2.2.2.2.2.2.2.2.2.2.2.2.2.2.2.2.2.2.2.2.1;let a6:=a.2.2.2.2.2.2.2.2.2.2.2.2.2.2.2.2.2.2.2.2.2.2.1;let a2:=a.2.2.2.2.2.2.2.2.2.2.2.2.2.2.2.2.2.2.2.2.2.2.2.1;let Y:=a.2.2.2.2.2.2.2.2.2.2.2.2.2.2.2.2.2.2.2.2.2.2.2.2.1;let U:=a.2.2.2.2.2.2.2.2.2.2.2.2.2.2.2.2.2.2.2.2.2.2.2.2.2.2.2.2.2.2.1;let Q:=a.2.2.2.2.2.2.2.2.2.2.2.2.2.2.2.2.2.2.2.2.2.2.2.2.2.2.2.2.2.2.2.1;let L:=a.2.2.2.2.2.2.2.2.2.2.2.2.2.2.2.2.2.2.2.2.2.2.2.2.2.2.2.2.2.2.2.2.1;let F:=a.2.2.2.2.2.2.2.2.2.2.2.2.2.2.2.2.2.2.2.2.2.2.2.2.2.2.2.2.2.2.2.2.2.1;let y6:=a.2.2.2.2.2.2.2.2.2.2.2.2.2.2.2.2.2.2.2.2.2.2.2.2.2.1;let n:=(⟨y6,a.2.1,a.2.2.1⟩:Cur);let j:=({ (zf n 4) with b:=y6}:Cur); (oN (zA n 4) (cond (ilt a.1 (zk n 4)) (oN (zA j 100) (oN (few (ln (ap F [(zk j 100)]))) (z ((zK .i64 a.1 1),((zf j 100).i,((zf j 100).h,(a.2.2.2.1,(a.2.2.2.2.1,(a.2.2.2.2.2.1,(a.2.2.2.2.2.2.1,(a.2.2.2.2.2.2.2.1,(a.2.2.2.2.2.2.2.2.1,(a.2.2.2.2.2.2.2.2.2.1,(a.2.2.2.2.2.2.2.2.2.2.1,(a.2.2.2.2.2.2.2.2.2.2.2.1,(a.2.2.2.2.2.2.2.2.2.2.2.2.1,(a.2.2.2.2.2.2.2.2.2.2.2.2.2.1,(d8,(d4,(d0,(c6,(c2,(b8,(b4,(b0,(a6,(a2,(Y,(y6,(a.2.2.2.2.2.2.2.2.2.2.2.2.2.2.2.2.2.2.2.2.2.2.2.2.2.2.1,(a.2.2.2.2.2.2.2.2.2.2.2.2.2.2.2.2.2.2.2.2.2.2.2.2.2.2.2.1,(a.2.2.2.2.2.2.2.2.2.2.2.2.2.2.2.2.2.2.2.2.2.2.2.2.2.2.2.2.1,(a.2.2.2.2.2.2.2.2.2.2.2.2.2.2.2.2.2.2.2.2.2.2.2.2.2.2.2.2.2.1,(U,(Q,(L,((ap F [(zk j 100)]),()))))))))))))))))))))))))))))))))))))) (some [(.agg [(.s .u8 y6),(.i .i64 (zf n 4).i),(.i .i64 (zf n 4).h)]),(aT .guest (⟨U,d8,d4,Q,L,⟨d0,c6,c2⟩,b8,⟨b4,b0,a6,a2⟩,Y,F⟩:Guest))])))) (0,((zO u 12).i,((zO u 12).h,(0,(0,(0,(0,(false,(0,(0,(0,(false,(0,(false,(w,(y,(e.Traps,(e.Post,(e.Open,(d.Pending,((zca r).Kind,((zca r).Page,((zca r).Write,((zca r).N,((zc0 u 12),(c.b,([],([],([],([],(d.Prog,(v,(x,(d.Seen,()))))))))))))))))))))))))))))))))))))) (oN (zcL r 12) (iter (σ:=(Int×(Int×(Int×(Int×(Int×(Int×(Int×(Bool×(Int×(Int×(Int×(Bool×(Int×(Bool×(Int×(Int×(Int×(Int×(Bool×(Int×(Int×(Int×(Bool×(Int×(Bool×((List Int)×(lI×(lS×(lS×((List Int)×(lI×(lS×(lS×((List Int)×Unit))))))))))))))))))))))))))))))))))) N (fun z a=>let d9:=a.2.2.2.2.2.2.2.2.2.2.2.2.2.2.1;let d5:=a.2.2.2.2.2.2.2.2.2.2.2.2.2.2.2.1;let d1:=a.2.2.2.2.2.2.2.2.2.2.2.2.2.2.2.2.1;let c7:=a.2.2.2.2.2.2.2.2.2.2.2.2.2.2.2.2.2.1;let c3:=a.2.2.2.2.2.2.2.2.2.2.2.2.2.2.2.2.2.2.1;let b9:=a.2.2.2.2.2.2.2.2.2.2.2.2.2.2.2.2.2.2.2.1;let b5:=a.2.2.2.2.2.2.2.2.2.2.2.2.2.2.2.2.2.2.2.2.1;let b1:=a.2.2.2.2.2.2.2.2.2.2.2.2.2.2.2.2.2.2.2.2.2.1;let a7:=a.2.2.2.2.2.2.2.2.2.2.2.2.2.2.2.2.2.2.2.2.2.2.1;let a3:=a.2.2.2.2.2.2.2.2.2.2.2.2.2.2.2.2.2.2.2.2.2.2.2.1;let Z:=a.2.2.2.2.2.2.2.2.2.2.2.2.2.2.2.2.2.2.2.2.2.2.2.2.1;let V:=a.2.2.2.2.2.2.2.2.2.2.2.2.2.2.2.2.2.2.2.2.2.2.2.2.2.2.2.2.2.2.1;let R:=a.2.2.2.2.2.2.2.2.2.2.2.2.2.2.2.2.2.2.2.2.2.2.2.2.2.2.2.2.2.2.2.1;let M:=a.2.2.2.2.2.2.2.2.2.2.2.2.2.2.2.2.2.2.2.2.2.2.2.2.2.2.2.2.2.2.2.2.1;let G:=a.2.2.2.2.2.2.2.2.2.2.2.2.2.2.2.2.2.2.2.2.2.2.2.2.2.2.2.2.2.2.2.2.2.1;let y7:=a.2.2.2.2.2.2.2.2.2.2.2.2.2.2.2.2.2.2.2.2.2.2.2.2.2.1;let p:=(⟨y7,a.2.1,a.2.2.1⟩:Cur);let k:=({ (zf p 4) with b:=y7}:Cur); (oN (zA p 4) (cond (ilt a.1 (zk p 4)) (oN (zA k 100) (oN (few (ln (ap G [(zk k 100)]))) (z ((zK .i64 a.1 1),((zf k 100).i,((zf k 100).h,(a.2.2.2.1,(a.2.2.2.2.1,(a.2.2.2.2.2.1,(a.2.2.2.2.2.2.1,(a.2.2.2.2.2.2.2.1,(a.2.2.2.2.2.2.2.2.1,(a.2.2.2.2.2.2.2.2.2.1,(a.2.2.2.2.2.2.2.2.2.2.1,(a.2.2.2.2.2.2.2.2.2.2.2.1,(a.2.2.2.2.2.2.2.2.2.2.2.2.1,(a.2.2.2.2.2.2.2.2.2.2.2.2.2.1,(d9,(d5,(d1,(c7,(c3,(b9,(b5,(b1,(a7,(a3,(Z,(y7,(a.2.2.2.2.2.2.2.2.2.2.2.2.2.2.2.2.2.2.2.2.2.2.2.2.2.2.1,(a.2.2.2.2.2.2.2.2.2.2.2.2.2.2.2.2.2.2.2.2.2.2.2.2.2.2.2.1,(a.2.2.2.2.2.2.2.2.2.2.2.2.2.2.2.2.2.2.2.2.2.2.2.2.2.2.2.2.1,(a.2.2.2.2.2.2.2.2.2.2.2.2.2.2.2.2.2.2.2.2.2.2.2.2.2.2.2.2.2.1,(V,(R,(M,((ap G [(zk k 100)]),()))))))))))))))))))))))))))))))))))))) (some [(.agg [(.s .u8 y7),(.i .i64 (zf p 4).i),(.i .i64 (zf p 4).h)]),(aT .guest (⟨V,d9,d5,R,M,⟨d1,c7,c3⟩,b9,⟨b5,b1,a7,a3⟩,Z,G⟩:Guest))])))) (0,((zO r 12).i,((zO r 12).h,(0,(0,(0,(0,(false,(0,(0,(0,(false,(0,(false,(w,(y,(e.Traps,(e.Post,(e.Open,(d.Pending,(d.Exit.Kind,(d.Exit.Page,(d.Exit.Write,(d.Exit.N,((zc0 r 12),(c.b,([],([],([],([],(d.Prog,(v,(x,(d.Seen,())))))))))))))))))))))))))))))))))))))))))))))))
def zTA:FuncId->Nat->Option Tmpl:=zo [(246,0,{n:=50,tm:=[(0,.lp 0 0),(2,.lp 1 0),(3,.lp 2 0),(4,ti)],lo:=[(0,[.sl 0 [],ti,ti]),(1,[.sl 1 [],ti,ti,.sl 2 [],.sl 3 [],ti,ti,.b,ti,ti,ti,.b,ti,.b,.sl 4 []]),(2,[.sl 5 [],ti,ti,.sl 6 [],.sl 7 [],ti,ti,.b,ti,ti,ti,.b,ti,.b,.sl 8 []])],ro:=[(0,.u8,false),(1,.ins,true),(2,.slot,true),(3,.slot,true),(4,.int,true),(5,.ins,true),(6,.slot,true),(7,.slot,true),(8,.int,true)]})]
def zn9 (c:Cur)(s:Cur)(a:Guest):Prop:=(∃N,zvn N c=some (AV.agg (zbT s)::[aT .guest a]))/\(s.b=c.b/\0<=s.i)/\(GuS a/\a.Seen.length<=4)
def zlY (c:Cur)  : Bool:=wC (zn9 c)
def zjb (c:Cur)  : Cur:=wS (zn9 c)
def zb9 (c:Cur)  : Guest:=wV (zn9 c)
theorem zHc {c:Cur}(h:zlY c=true):zn9 c (zjb c) (zb9 c):=wG h
theorem zZX (c:Cur)  : 0<=(zjb c).i:=wP fun h=>h.2.1.2
theorem zZW (c:Cur)(h:∃N,Ends (wE (fun a=>aT .guest a) c.b fun a=>GuS a/\a.Seen.length<=4) (zvn N c)):zlY c=true:=wI (fun _ _ h=>h) h
def zxJ:zdr:=rP0 fun c=>(zlY c,zjb c,[aT .guest (zb9 c)])
theorem zL0:zbN Tryz.prog 246 [false,true,true] zxJ:=hP0 zK5 zU zZz zn zTA (fun _ h=>(zHc h).1)
theorem zXR {c:Cur}(h:zbc c):zlY c=true:=by
 refine zZW c ⟨1002,?_⟩;unfold zvn oN;conv=>zeta
 have f:=zGc h;have j:=zMG (zsw f).2.2;have e:zi3 (zb5 c)=true:=zbd (by omega);have q:∀{s:Cur},0<=s.i->zbc {s with b:=c.b}:=fun g=>zbL h g;have d:GuS ⟨zb5 c,0,0,[],[],⟨0,0,false⟩,0,⟨0,0,false,0⟩,false,[]⟩:=⟨by dsimp only;omega,by simp,by simp,by simp⟩
 refine zq f (zq e (zq (zBd (q (ziB _)) (by omega) (by omega) _) (zq (zBd (q (zhv _ _ _)) (by omega) (by omega) _) (zq (zbt (q (zhv _ _ _)) _) (zq (zbt (q (zF _ _)) _) (zq (z4l (q (zF _ _))) (zq (zi0 (q (zCF _)) _)
  (zbE (fun _=>zq (zbt (q (zcm _ _)) _) (zq (zi0 (q (zF _ _)) _) (zbE (fun _=>zq (zXU (q (zcm _ _))) (zq (zi0 (q (zzs _)) _) ?_)) (fun _=>zq (zi0 (q (zcm _ _)) _) ?_))))
   (fun _=>zq (zi0 (q (zcm _ _)) _) (zbE (fun _=>zq (zXU (q (zcm _ _))) (zq (zi0 (q (zzs _)) _) ?_)) (fun _=>zq (zi0 (q (zcm _ _)) _) ?_)))))))))))
 .exact zHE h (zcm _ _) (P:=fun _=>True) (q:=4) (by omega) (by omega) (fc:=fun c=>zA c 100) (fs:=fun c=>zf c 100) (fv:=fun c=>zk c 100) (fun h=>zbt h _) (fun c=>zF c _) (fun _=>trivial) (z:=0) (l0:=(zcu (zb5 c)).Seen) (qW 0) (by omega) (by simp) ((fun _ t=>(t.1,t.2.1,t.2.2.1,0,0,0,0,false,0,0,0,false,0,false,(zk ({ (zJ ({ (zJ ({ (zZ c) with b:=c.b }:Cur) 4 8) with b:=c.b }:Cur) 4 8) with b:=c.b }:Cur) 100),(zk ({ (zf ({ (zJ ({ (zJ ({ (zZ c) with b:=c.b }:Cur) 4 8) with b:=c.b }:Cur) 4 8) with b:=c.b }:Cur) 100) with b:=c.b }:Cur) 4),(zcD ({ (zf ({ (zf ({ (zJ ({ (zJ ({ (zZ c) with b:=c.b }:Cur) 4 8) with b:=c.b }:Cur) 4 8) with b:=c.b }:Cur) 100) with b:=c.b }:Cur) 4) with b:=c.b }:Cur)).Traps,(zcD ({ (zf ({ (zf ({ (zJ ({ (zJ ({ (zZ c) with b:=c.b }:Cur) 4 8) with b:=c.b }:Cur) 4 8) with b:=c.b }:Cur) 100) with b:=c.b }:Cur) 4) with b:=c.b }:Cur)).Post,(zcD ({ (zf ({ (zf ({ (zJ ({ (zJ ({ (zZ c) with b:=c.b }:Cur) 4 8) with b:=c.b }:Cur) 4 8) with b:=c.b }:Cur) 100) with b:=c.b }:Cur) 4) with b:=c.b }:Cur)).Open,(zk ({ (zO ({ (zcj ({ (zf ({ (zf ({ (zJ ({ (zJ ({ (zZ c) with b:=c.b }:Cur) 4 8) with b:=c.b }:Cur) 4 8) with b:=c.b }:Cur) 100) with b:=c.b }:Cur) 4) with b:=c.b }:Cur)) with b:=c.b }:Cur) 3) with b:=c.b }:Cur) 256),(zca ({ (zO ({ (zf ({ (zO ({ (zcj ({ (zf ({ (zf ({ (zJ ({ (zJ ({ (zZ c) with b:=c.b }:Cur) 4 8) with b:=c.b }:Cur) 4 8) with b:=c.b }:Cur) 100) with b:=c.b }:Cur) 4) with b:=c.b }:Cur)) with b:=c.b }:Cur) 3) with b:=c.b }:Cur) 256) with b:=c.b }:Cur) 4) with b:=c.b }:Cur)).Kind,(zca ({ (zO ({ (zf ({ (zO ({ (zcj ({ (zf ({ (zf ({ (zJ ({ (zJ ({ (zZ c) with b:=c.b }:Cur) 4 8) with b:=c.b }:Cur) 4 8) with b:=c.b }:Cur) 100) with b:=c.b }:Cur) 4) with b:=c.b }:Cur)) with b:=c.b }:Cur) 3) with b:=c.b }:Cur) 256) with b:=c.b }:Cur) 4) with b:=c.b }:Cur)).Page,(zca ({ (zO ({ (zf ({ (zO ({ (zcj ({ (zf ({ (zf ({ (zJ ({ (zJ ({ (zZ c) with b:=c.b }:Cur) 4 8) with b:=c.b }:Cur) 4 8) with b:=c.b }:Cur) 100) with b:=c.b }:Cur) 4) with b:=c.b }:Cur)) with b:=c.b }:Cur) 3) with b:=c.b }:Cur) 256) with b:=c.b }:Cur) 4) with b:=c.b }:Cur)).Write,(zca ({ (zO ({ (zf ({ (zO ({ (zcj ({ (zf ({ (zf ({ (zJ ({ (zJ ({ (zZ c) with b:=c.b }:Cur) 4 8) with b:=c.b }:Cur) 4 8) with b:=c.b }:Cur) 100) with b:=c.b }:Cur) 4) with b:=c.b }:Cur)) with b:=c.b }:Cur) 3) with b:=c.b }:Cur) 256) with b:=c.b }:Cur) 4) with b:=c.b }:Cur)).N,(zc0 ({ (zem ({ (zO ({ (zf ({ (zO ({ (zcj ({ (zf ({ (zf ({ (zJ ({ (zJ ({ (zZ c) with b:=c.b }:Cur) 4 8) with b:=c.b }:Cur) 4 8) with b:=c.b }:Cur) 100) with b:=c.b }:Cur) 4) with b:=c.b }:Cur)) with b:=c.b }:Cur) 3) with b:=c.b }:Cur) 256) with b:=c.b }:Cur) 4) with b:=c.b }:Cur)) with b:=c.b }:Cur) 12),c.b,[],[],[],[],(zcu (zb5 c)).Prog,(zdq ({ (zZ c) with b:=c.b }:Cur) 4 8),(zdq ({ (zJ ({ (zZ c) with b:=c.b }:Cur) 4 8) with b:=c.b }:Cur) 4 8),t.2.2.2,())):Nat->Int×Int×Int×List Int->_)
   (fun rec t i k l=>⟨_,rfl,fun a _=>⟨⟨_,_,_⟩,_,rfl,⟨rfl,zF _ _⟩,⟨⟨d.1,zHn (q (ziB _)),zHn (q (zhv _ _ _)),by unfold ln at a;dsimp only;omega⟩,by unfold ln at a;dsimp only;omega⟩⟩⟩)
 .exact zHE h (zcm _ _) (P:=fun _=>True) (q:=4) (by omega) (by omega) (fc:=fun c=>zA c 100) (fs:=fun c=>zf c 100) (fv:=fun c=>zk c 100) (fun h=>zbt h _) (fun c=>zF c _) (fun _=>trivial) (z:=0) (l0:=(zcu (zb5 c)).Seen) (qW 0) (by omega) (by simp) ((fun _ t=>(t.1,t.2.1,t.2.2.1,0,0,0,0,false,0,0,0,false,0,false,(zk ({ (zJ ({ (zJ ({ (zZ c) with b:=c.b }:Cur) 4 8) with b:=c.b }:Cur) 4 8) with b:=c.b }:Cur) 100),(zk ({ (zf ({ (zJ ({ (zJ ({ (zZ c) with b:=c.b }:Cur) 4 8) with b:=c.b }:Cur) 4 8) with b:=c.b }:Cur) 100) with b:=c.b }:Cur) 4),(zcD ({ (zf ({ (zf ({ (zJ ({ (zJ ({ (zZ c) with b:=c.b }:Cur) 4 8) with b:=c.b }:Cur) 4 8) with b:=c.b }:Cur) 100) with b:=c.b }:Cur) 4) with b:=c.b }:Cur)).Traps,(zcD ({ (zf ({ (zf ({ (zJ ({ (zJ ({ (zZ c) with b:=c.b }:Cur) 4 8) with b:=c.b }:Cur) 4 8) with b:=c.b }:Cur) 100) with b:=c.b }:Cur) 4) with b:=c.b }:Cur)).Post,(zcD ({ (zf ({ (zf ({ (zJ ({ (zJ ({ (zZ c) with b:=c.b }:Cur) 4 8) with b:=c.b }:Cur) 4 8) with b:=c.b }:Cur) 100) with b:=c.b }:Cur) 4) with b:=c.b }:Cur)).Open,(zk ({ (zO ({ (zcj ({ (zf ({ (zf ({ (zJ ({ (zJ ({ (zZ c) with b:=c.b }:Cur) 4 8) with b:=c.b }:Cur) 4 8) with b:=c.b }:Cur) 100) with b:=c.b }:Cur) 4) with b:=c.b }:Cur)) with b:=c.b }:Cur) 3) with b:=c.b }:Cur) 256),(zcu (zb5 c)).Exit.Kind,(zcu (zb5 c)).Exit.Page,(zcu (zb5 c)).Exit.Write,(zcu (zb5 c)).Exit.N,(zc0 ({ (zO ({ (zf ({ (zO ({ (zcj ({ (zf ({ (zf ({ (zJ ({ (zJ ({ (zZ c) with b:=c.b }:Cur) 4 8) with b:=c.b }:Cur) 4 8) with b:=c.b }:Cur) 100) with b:=c.b }:Cur) 4) with b:=c.b }:Cur)) with b:=c.b }:Cur) 3) with b:=c.b }:Cur) 256) with b:=c.b }:Cur) 4) with b:=c.b }:Cur) 12),c.b,[],[],[],[],(zcu (zb5 c)).Prog,(zdq ({ (zZ c) with b:=c.b }:Cur) 4 8),(zdq ({ (zJ ({ (zZ c) with b:=c.b }:Cur) 4 8) with b:=c.b }:Cur) 4 8),t.2.2.2,())):Nat->Int×Int×Int×List Int->_)
   (fun rec t i k l=>⟨_,rfl,fun a _=>⟨⟨_,_,_⟩,_,rfl,⟨rfl,zF _ _⟩,⟨⟨d.1,zHn (q (ziB _)),zHn (q (zhv _ _ _)),by unfold ln at a;dsimp only;omega⟩,by unfold ln at a;dsimp only;omega⟩⟩⟩)
 .exact zHE h (zcm _ _) (P:=fun _=>True) (q:=4) (by omega) (by omega) (fc:=fun c=>zA c 100) (fs:=fun c=>zf c 100) (fv:=fun c=>zk c 100) (fun h=>zbt h _) (fun c=>zF c _) (fun _=>trivial) (z:=0) (l0:=(zcu (zb5 c)).Seen) (qW 0) (by omega) (by simp) ((fun _ t=>(t.1,t.2.1,t.2.2.1,0,0,0,0,false,0,0,0,false,0,false,(zk ({ (zJ ({ (zJ ({ (zZ c) with b:=c.b }:Cur) 4 8) with b:=c.b }:Cur) 4 8) with b:=c.b }:Cur) 100),(zk ({ (zf ({ (zJ ({ (zJ ({ (zZ c) with b:=c.b }:Cur) 4 8) with b:=c.b }:Cur) 4 8) with b:=c.b }:Cur) 100) with b:=c.b }:Cur) 4),(zcD ({ (zf ({ (zf ({ (zJ ({ (zJ ({ (zZ c) with b:=c.b }:Cur) 4 8) with b:=c.b }:Cur) 4 8) with b:=c.b }:Cur) 100) with b:=c.b }:Cur) 4) with b:=c.b }:Cur)).Traps,(zcD ({ (zf ({ (zf ({ (zJ ({ (zJ ({ (zZ c) with b:=c.b }:Cur) 4 8) with b:=c.b }:Cur) 4 8) with b:=c.b }:Cur) 100) with b:=c.b }:Cur) 4) with b:=c.b }:Cur)).Post,(zcD ({ (zf ({ (zf ({ (zJ ({ (zJ ({ (zZ c) with b:=c.b }:Cur) 4 8) with b:=c.b }:Cur) 4 8) with b:=c.b }:Cur) 100) with b:=c.b }:Cur) 4) with b:=c.b }:Cur)).Open,(zcu (zb5 c)).Pending,(zca ({ (zO ({ (zO ({ (zcj ({ (zf ({ (zf ({ (zJ ({ (zJ ({ (zZ c) with b:=c.b }:Cur) 4 8) with b:=c.b }:Cur) 4 8) with b:=c.b }:Cur) 100) with b:=c.b }:Cur) 4) with b:=c.b }:Cur)) with b:=c.b }:Cur) 3) with b:=c.b }:Cur) 4) with b:=c.b }:Cur)).Kind,(zca ({ (zO ({ (zO ({ (zcj ({ (zf ({ (zf ({ (zJ ({ (zJ ({ (zZ c) with b:=c.b }:Cur) 4 8) with b:=c.b }:Cur) 4 8) with b:=c.b }:Cur) 100) with b:=c.b }:Cur) 4) with b:=c.b }:Cur)) with b:=c.b }:Cur) 3) with b:=c.b }:Cur) 4) with b:=c.b }:Cur)).Page,(zca ({ (zO ({ (zO ({ (zcj ({ (zf ({ (zf ({ (zJ ({ (zJ ({ (zZ c) with b:=c.b }:Cur) 4 8) with b:=c.b }:Cur) 4 8) with b:=c.b }:Cur) 100) with b:=c.b }:Cur) 4) with b:=c.b }:Cur)) with b:=c.b }:Cur) 3) with b:=c.b }:Cur) 4) with b:=c.b }:Cur)).Write,(zca ({ (zO ({ (zO ({ (zcj ({ (zf ({ (zf ({ (zJ ({ (zJ ({ (zZ c) with b:=c.b }:Cur) 4 8) with b:=c.b }:Cur) 4 8) with b:=c.b }:Cur) 100) with b:=c.b }:Cur) 4) with b:=c.b }:Cur)) with b:=c.b }:Cur) 3) with b:=c.b }:Cur) 4) with b:=c.b }:Cur)).N,(zc0 ({ (zem ({ (zO ({ (zO ({ (zcj ({ (zf ({ (zf ({ (zJ ({ (zJ ({ (zZ c) with b:=c.b }:Cur) 4 8) with b:=c.b }:Cur) 4 8) with b:=c.b }:Cur) 100) with b:=c.b }:Cur) 4) with b:=c.b }:Cur)) with b:=c.b }:Cur) 3) with b:=c.b }:Cur) 4) with b:=c.b }:Cur)) with b:=c.b }:Cur) 12),c.b,[],[],[],[],(zcu (zb5 c)).Prog,(zdq ({ (zZ c) with b:=c.b }:Cur) 4 8),(zdq ({ (zJ ({ (zZ c) with b:=c.b }:Cur) 4 8) with b:=c.b }:Cur) 4 8),t.2.2.2,())):Nat->Int×Int×Int×List Int->_)
   (fun rec t i k l=>⟨_,rfl,fun a _=>⟨⟨_,_,_⟩,_,rfl,⟨rfl,zF _ _⟩,⟨⟨d.1,zHn (q (ziB _)),zHn (q (zhv _ _ _)),by unfold ln at a;dsimp only;omega⟩,by unfold ln at a;dsimp only;omega⟩⟩⟩)
 .exact zHE h (zcm _ _) (P:=fun _=>True) (q:=4) (by omega) (by omega) (fc:=fun c=>zA c 100) (fs:=fun c=>zf c 100) (fv:=fun c=>zk c 100) (fun h=>zbt h _) (fun c=>zF c _) (fun _=>trivial) (z:=0) (l0:=(zcu (zb5 c)).Seen) (qW 0) (by omega) (by simp) ((fun _ t=>(t.1,t.2.1,t.2.2.1,0,0,0,0,false,0,0,0,false,0,false,(zk ({ (zJ ({ (zJ ({ (zZ c) with b:=c.b }:Cur) 4 8) with b:=c.b }:Cur) 4 8) with b:=c.b }:Cur) 100),(zk ({ (zf ({ (zJ ({ (zJ ({ (zZ c) with b:=c.b }:Cur) 4 8) with b:=c.b }:Cur) 4 8) with b:=c.b }:Cur) 100) with b:=c.b }:Cur) 4),(zcD ({ (zf ({ (zf ({ (zJ ({ (zJ ({ (zZ c) with b:=c.b }:Cur) 4 8) with b:=c.b }:Cur) 4 8) with b:=c.b }:Cur) 100) with b:=c.b }:Cur) 4) with b:=c.b }:Cur)).Traps,(zcD ({ (zf ({ (zf ({ (zJ ({ (zJ ({ (zZ c) with b:=c.b }:Cur) 4 8) with b:=c.b }:Cur) 4 8) with b:=c.b }:Cur) 100) with b:=c.b }:Cur) 4) with b:=c.b }:Cur)).Post,(zcD ({ (zf ({ (zf ({ (zJ ({ (zJ ({ (zZ c) with b:=c.b }:Cur) 4 8) with b:=c.b }:Cur) 4 8) with b:=c.b }:Cur) 100) with b:=c.b }:Cur) 4) with b:=c.b }:Cur)).Open,(zcu (zb5 c)).Pending,(zcu (zb5 c)).Exit.Kind,(zcu (zb5 c)).Exit.Page,(zcu (zb5 c)).Exit.Write,(zcu (zb5 c)).Exit.N,(zc0 ({ (zO ({ (zO ({ (zcj ({ (zf ({ (zf ({ (zJ ({ (zJ ({ (zZ c) with b:=c.b }:Cur) 4 8) with b:=c.b }:Cur) 4 8) with b:=c.b }:Cur) 100) with b:=c.b }:Cur) 4) with b:=c.b }:Cur)) with b:=c.b }:Cur) 3) with b:=c.b }:Cur) 4) with b:=c.b }:Cur) 12),c.b,[],[],[],[],(zcu (zb5 c)).Prog,(zdq ({ (zZ c) with b:=c.b }:Cur) 4 8),(zdq ({ (zJ ({ (zZ c) with b:=c.b }:Cur) 4 8) with b:=c.b }:Cur) 4 8),t.2.2.2,())):Nat->Int×Int×Int×List Int->_)
   (fun rec t i k l=>⟨_,rfl,fun a _=>⟨⟨_,_,_⟩,_,rfl,⟨rfl,zF _ _⟩,⟨⟨d.1,zHn (q (ziB _)),zHn (q (zhv _ _ _)),by unfold ln at a;dsimp only;omega⟩,by unfold ln at a;dsimp only;omega⟩⟩⟩)
def zbc5:zcJ:=[(246,([false,true,true],zxJ))]++zbc4
theorem zME:zb2 zbc5:=zcv zZz (by
 intro x a;simp only[qG,qN,or_false]at a;rcases a with rfl
 .exact zL0)
def zBp (N:Nat)(c:Cur)  : OA :=
 let e:=(zb9 c);let B:=({ (zjb c) with b:=c.b}:Cur);let f:=(zf B 14);let j:=(zk B 14);let d:=({f with b:=c.b}:Cur);let g:=(zgw d 4 8);let p:=(zW d [(-1),12,13,9223372036854775807]); (oN (zlY c) (oN (zA B 14) (cond (ieq j 0) (oN (zi9 d) (some [(.agg [(.s .u8 c.b),(.i .i64 (zja d).i),(.i .i64 (zja d).h)]),(aT .guest ({e with Prog:=(zqn d)}:Guest))])) (cond (ieq j 1) (oN (zbm d [(-1),100]) (some [(.agg [(.s .u8 c.b),(.i .i64 (zW d [(-1),100]).i),(.i .i64 (zW d [(-1),100]).h)]),(aT .guest ({e with A:=(zbj d [(-1),100])}:Guest))])) (cond (ieq j 2) (oN (zbm d [(-1),12,13,9223372036854775807]) (some [(.agg [(.s .u8 c.b),(.i .i64 p.i),(.i .i64 p.h)]),(aT .guest ({e with Pc:=(zbj d [(-1),12,13,9223372036854775807])}:Guest))])) (cond (ieq j 3) (oN (zfs d 4 8) (some [(.agg [(.s .u8 c.b),(.i .i64 g.i),(.i .i64 g.h)]),(aT .guest ({e with Live:=(zeO d 4 8)}:Guest))])) (cond (ieq j 4) (oN (zqp d) (some [(.agg [(.s .u8 c.b),(.i .i64 (zqq d).i),(.i .i64 (zqq d).h)]),(aT .guest ({e with Ctl:=(zCE d)}:Guest))])) (cond (ieq j 5) (oN (znF d) (some [(.agg [(.s .u8 c.b),(.i .i64 (znG d).i),(.i .i64 (znG d).h)]),(aT .guest ({e with Pending:=(zyD d)}:Guest))])) (cond (ieq j 6) (oN (zqr d) (some [(.agg [(.s .u8 c.b),(.i .i64 (zqs d).i),(.i .i64 (zqs d).h)]),(aT .guest ({e with Exit:=(zCG d)}:Guest))])) (cond (ieq j 7) (iter (σ:=(Int×(Int×(Int×(Int×(Int×(Int×(Bool×(Int×(Int×(Int×(Bool×(Int×(Bool×(Int×(Int×(Int×(Int×(Bool×(Int×(Int×(Int×(Bool×(Int×(Bool×((List Int)×(lI×(lS×(lS×((List Int)×(lI×(lS×(lS×((List Int)×Unit)))))))))))))))))))))))))))))))))) N (fun G a=>let y:=a.2.2.2.2.2.2.2.2.2.2.2.2.2.1;let x:=a.2.2.2.2.2.2.2.2.2.2.2.2.2.2.1;let w:=a.2.2.2.2.2.2.2.2.2.2.2.2.2.2.2.1;let v:=a.2.2.2.2.2.2.2.2.2.2.2.2.2.2.2.2.1;let u:=a.2.2.2.2.2.2.2.2.2.2.2.2.2.2.2.2.2.1;let t:=a.2.2.2.2.2.2.2.2.2.2.2.2.2.2.2.2.2.2.1;let r:=a.2.2.2.2.2.2.2.2.2.2.2.2.2.2.2.2.2.2.2.1;let q:=a.2.2.2.2.2.2.2.2.2.2.2.2.2.2.2.2.2.2.2.2.1;let n:=a.2.2.2.2.2.2.2.2.2.2.2.2.2.2.2.2.2.2.2.2.2.1;let m:=a.2.2.2.2.2.2.2.2.2.2.2.2.2.2.2.2.2.2.2.2.2.2.1;let l:=a.2.2.2.2.2.2.2.2.2.2.2.2.2.2.2.2.2.2.2.2.2.2.2.1;let F:=a.2.2.2.2.2.2.2.2.2.2.2.2.2.2.2.2.2.2.2.2.2.2.2.2.2.2.2.2.2.1;let E:=a.2.2.2.2.2.2.2.2.2.2.2.2.2.2.2.2.2.2.2.2.2.2.2.2.2.2.2.2.2.2.1;let D:=a.2.2.2.2.2.2.2.2.2.2.2.2.2.2.2.2.2.2.2.2.2.2.2.2.2.2.2.2.2.2.2.1;let C:=a.2.2.2.2.2.2.2.2.2.2.2.2.2.2.2.2.2.2.2.2.2.2.2.2.1;let z:=a.2.2.2.2.2.2.2.2.2.2.2.2.2.2.2.2.2.2.2.2.2.2.2.2.2.2.2.2.2.2.2.2.1;let k:=(⟨C,a.1,a.2.1⟩:Cur); (oN (zA k 3) (cond (ilt (ln z) (zK .i64 39 (zk k 3))) (oN (few (ln (ap z [1]))) (G ((zf k 3).i,((zf k 3).h,(a.2.2.1,(a.2.2.2.1,(a.2.2.2.2.1,(a.2.2.2.2.2.1,(a.2.2.2.2.2.2.1,(a.2.2.2.2.2.2.2.1,(a.2.2.2.2.2.2.2.2.1,(a.2.2.2.2.2.2.2.2.2.1,(a.2.2.2.2.2.2.2.2.2.2.1,(a.2.2.2.2.2.2.2.2.2.2.2.1,(a.2.2.2.2.2.2.2.2.2.2.2.2.1,(y,(x,(w,(v,(u,(t,(r,(q,(n,(m,(l,(C,(a.2.2.2.2.2.2.2.2.2.2.2.2.2.2.2.2.2.2.2.2.2.2.2.2.2.1,(a.2.2.2.2.2.2.2.2.2.2.2.2.2.2.2.2.2.2.2.2.2.2.2.2.2.2.1,(a.2.2.2.2.2.2.2.2.2.2.2.2.2.2.2.2.2.2.2.2.2.2.2.2.2.2.2.1,(a.2.2.2.2.2.2.2.2.2.2.2.2.2.2.2.2.2.2.2.2.2.2.2.2.2.2.2.2.1,(F,(E,(D,((ap z [1]),()))))))))))))))))))))))))))))))))))) (some [(.agg [(.s .u8 C),(.i .i64 (zf k 3).i),(.i .i64 (zf k 3).h)]),(aT .guest (⟨F,y,x,E,D,⟨w,v,u⟩,t,⟨r,q,n,m⟩,l,z⟩:Guest))])))) (f.i,(f.h,(0,(0,(0,(0,(false,(0,(0,(0,(false,(0,(false,(e.A,(e.Pc,(e.Ctl.Traps,(e.Ctl.Post,(e.Ctl.Open,(e.Pending,(e.Exit.Kind,(e.Exit.Page,(e.Exit.Write,(e.Exit.N,(e.Halted,(c.b,([],([],([],([],(e.Prog,(e.Written,(e.Live,(e.Seen,())))))))))))))))))))))))))))))))))) (cond (ieq j 8) (oN (zfs d 4 8) (some [(.agg [(.s .u8 c.b),(.i .i64 g.i),(.i .i64 g.h)]),(aT .guest ({e with Written:=(zeO d 4 8)}:Guest))])) (some [(.agg [(.s .u8 c.b),(.i .i64 f.i),(.i .i64 f.h)]),(aT .guest e)]))))))))))))
def z0G:FuncId->Nat->Option Tmpl:=zo [(153,1,{n:=65,tm:=[(0,.lp 0 0),(2,.lp 1 0),(3,.lp 2 0)],lo:=[(0,[.sl 0 [],ti,ti]),(1,[.sl 1 [],ti,ti,.sl 2 [],.sl 3 [],ti,ti,.b,ti,ti,ti,.b,ti,.b,.sl 4 []]),(2,[.sl 5 [],ti,ti,.sl 6 [],.sl 7 [],ti,ti,.b,ti,ti,ti,.b,ti,.b,.sl 8 []])],ro:=[(0,.u8,false),(1,.ins,true),(2,.slot,true),(3,.slot,true),(4,.int,true),(5,.ins,true),(6,.slot,true),(7,.slot,true),(8,.int,true)]})]
def zsA (c:Cur)(s:Cur)(a:Guest):Prop:=(∃N,zBp N c=some (AV.agg (zbT s)::[aT .guest a]))/\(s.b=c.b/\0<=s.i)/\(GuS a)
def zqw (c:Cur)  : Bool:=wC (zsA c)
def zqx (c:Cur)  : Cur:=wS (zsA c)
def zCH (c:Cur)  : Guest:=wV (zsA c)
theorem zQd {c:Cur}(h:zqw c=true):zsA c (zqx c) (zCH c):=wG h
theorem z5T (c:Cur)  : 0<=(zqx c).i:=wP fun h=>h.2.1.2
theorem z5S (c:Cur)(h:∃N,Ends (wE (fun a=>aT .guest a) c.b fun a=>GuS a) (zBp N c)):zqw c=true:=wI (fun _ _ h=>h) h
def zDs:zdr:=rP0 fun c=>(zqw c,zqx c,[aT .guest (zCH c)])
theorem zRZ:zbN Tryz.prog 153 [false,true,true] zDs:=hP0 zK5 zU zME zn z0G (fun _ h=>(zQd h).1)
theorem zNU {c:Cur}(h:zbc c):zqw c=true:=by
 refine z5S c ⟨1002,?_⟩;unfold zBp oN;conv=>zeta
 have q:∀{s:Cur},0<=s.i->zbc {s with b:=c.b}:=fun r=>zbL h r;have a:zbc {zf {zjb c with b:=c.b} 14 with b:=c.b}:=q (zF _ _);obtain⟨⟨d,e,f,g⟩,w⟩:=(zHc (zXR h)).2.2;have p:(zeO {zf {zjb c with b:=c.b} 14 with b:=c.b} 4 8).length<=4:=by have:=((zqe (zo8 a (n:=4) (by omega) (by omega) 8)).2.2 (by omega) (by omega)).1;unfold ln at this;omega
 have j:=(zA8 (zUa a)).2.2;refine zq (zXR h) (zq (zbt (q (zZX _)) _) (zbE (fun _=>zq (zUa a) (zbF (aT .guest) (v:={zb9 c with Prog:=zqn _}) (zTf _) ⟨j,e,f,g⟩))
  (fun _=>zbE (fun _=>zq (zd6 a (by simp)) (zbF (aT .guest) (v:={zb9 c with A:=zbj _ _}) (zbP _ _) ⟨d,e,f,g⟩))
  (fun _=>zbE (fun _=>zq (zd6 a (by simp)) (zbF (aT .guest) (v:={zb9 c with Pc:=zbj _ _}) (zbP _ _) ⟨d,e,f,g⟩))
  (fun _=>zbE (fun _=>zq (zo8 a (by omega) (by omega) _) (zbF (aT .guest) (v:={zb9 c with Live:=zeO _ _ _}) (zqf _ _ _) ⟨d,e,p,g⟩))
  (fun _=>zbE (fun _=>zq (z9v a) (zbF (aT .guest) (v:={zb9 c with Ctl:=zCE _}) (z5M _) ⟨d,e,f,g⟩))
  (fun _=>zbE (fun _=>zq (zbfs a) (zbF (aT .guest) (v:={zb9 c with Pending:=zyD _}) (z2e _) ⟨d,e,f,g⟩))
  (fun _=>zbE (fun _=>zq (z6B a) (zbF (aT .guest) (v:={zb9 c with Exit:=zCG _}) (z5R _) ⟨d,e,f,g⟩))
  (fun _=>zbE (fun _=>?_)
  (fun _=>zbE (fun _=>zq (zo8 a (by omega) (by omega) _) (zbF (aT .guest) (v:={zb9 c with Written:=zeO _ _ _}) (zqf _ _ _) ⟨d,p,f,g⟩))
  (fun _=>zbF (aT .guest) (v:=zb9 c) (zF _ _) ⟨d,e,f,g⟩)))))))))))
 exact zbfc h (zF _ _) (m:=39) (q:=3) (x:=1) (by omega) (by omega) (by omega) (l0:=(zb9 c).Seen) (by unfold ln;omega) ((fun _ t=>(t.1,t.2.1,0,0,0,0,false,0,0,0,false,0,false,(zb9 c).A,(zb9 c).Pc,(zb9 c).Ctl.Traps,(zb9 c).Ctl.Post,(zb9 c).Ctl.Open,(zb9 c).Pending,(zb9 c).Exit.Kind,(zb9 c).Exit.Page,(zb9 c).Exit.Write,(zb9 c).Exit.N,(zb9 c).Halted,c.b,[],[],[],[],(zb9 c).Prog,(zb9 c).Written,(zb9 c).Live,t.2.2,())):Nat->Int×Int×List Int->_)
  (fun rec i k l=>⟨_,rfl,fun u=>⟨⟨_,_,_⟩,_,rfl,⟨rfl,zF _ _⟩,⟨d,e,f,by unfold ln at u;dsimp only;omega⟩⟩⟩)
theorem zbem (b:List Entry)(e:Entry)(h:b.length<=1048576):(zor b e).length<=6:=by have c:=(zwa e h).2;unfold zor;generalize ap (zcF b e.Tag e.Page) [e]=l at c;cases a:igt (ln l) 6 with|false=>have:¬ ln l>6:=jT a;rw[cF];unfold ln at this;omega|true=>rw[cT,zrJ (by unfold ln;omega) (by unfold ln;omega)];have:ln l>6:=qE a;simp only[dp,vK];unfold ln at *;omega
def ztx (N:Nat)(c:Cur)  : OA :=
 (iter (σ:=(Int×(Int×(Int×(lE×((List Int)×Unit)))))) N (fun l d=>let e:=d.2.2.2.2.1;let j:=(⟨e,d.2.1,d.2.2.1⟩:Cur);let a:=({ (zf j 9) with b:=e}:Cur);let g:=({ (zO a 8) with b:=e}:Cur);let f:=({ (zgn g) with b:=e}:Cur);let k:=(ap d.2.2.2.1 [(zmP g),(zmP f)]); (oN (zA j 9) (cond (ilt d.1 (zk j 9)) (oN (zhw a) (oN (zlR d.2.2.2.1 (zmP a)) (l ((zK .i64 d.1 1),((zgn a).i,((zgn a).h,((zmJ d.2.2.2.1 (zmP a)),(e,())))))))) (oN (zcL a 8) (cond (zc0 a 8) (oN (zhw g) (oN (zhw f) (oN (few (ln k)) (some [(.agg [(.s .u8 e),(.i .i64 (zgn f).i),(.i .i64 (zgn f).h)]),(aS .entry k)])))) (some [(.agg [(.s .u8 e),(.i .i64 (zO a 8).i),(.i .i64 (zO a 8).h)]),(aS .entry d.2.2.2.1)])))))) (0,(c.i,(c.h,([],(c.b,()))))))
def zQO:FuncId->Nat->Option Tmpl:=zo [(154,0,{n:=26,tm:=[(0,.lp 0 0),(3,.sl 0 []),(4,ti)],lo:=[(0,[.sl 1 [],ti,ti])],ro:=[(0,.entry,true),(1,.u8,false)]})]
def zmO (c:Cur)(s:Cur)(a:List Entry):Prop:=(∃N,ztx N c=some (AV.agg (zbT s)::[aS .entry a]))/\(s.b=c.b/\0<=s.i)/\(a.length<=8)
def zkr (c:Cur)  : Bool:=wC (zmO c)
def zks (c:Cur)  : Cur:=wS (zmO c)
def zsu (c:Cur)  : List Entry:=wV (zmO c)
theorem zD9 {c:Cur}(h:zkr c=true):zmO c (zks c) (zsu c):=wG h
theorem zWz (c:Cur)  : 0<=(zks c).i:=wP fun h=>h.2.1.2
theorem zWy (c:Cur)(h:∃N,Ends (wE (fun a=>aS .entry a) c.b fun a=>a.length<=8) (ztx N c)):zkr c=true:=wI (fun _ _ h=>h) h
def zv8:zdr:=rP0 fun c=>(zkr c,zks c,[aS .entry (zsu c)])
theorem zID:zbN Tryz.prog 154 [false,true,true] zv8:=hP0 zK5 zU zME zn zQO (fun _ h=>(zD9 h).1)
theorem zXs {c:Cur}(h:zbc c):zkr c=true:=by
 refine zWy c ⟨1002,?_⟩;unfold ztx oN;conv=>zeta
 refine zm7 (fun n s=>∃t i k l,s=(((fun _ t=>(t.1,t.2.1,t.2.2.1,t.2.2.2,c.b,())):Nat->Int×Int×Int×List Entry->_) 0 (t,i,k,l))/\t+(n:Int)=10/\0<=t/\0<=i/\l.length<=6) ?_ 1002 10 _ ⟨0,c.i,c.h,[],rfl,rfl,kS 0,h.1,by simp⟩ (by omega);rintro n s rec ⟨t,i,k,l,rfl,p,g,j,r⟩ d;dsimp only;have a:zbc ⟨c.b,i,k⟩:=zbL h j;have v:=zfK a (n:=9) (by omega);have q:∀{s:Cur},0<=s.i->zbc {s with b:=c.b}:=fun f=>zbL h f;refine zq (zbt a 9) (zbE (fun e=>?_) (fun e=>?_));{have m:t<zk ⟨c.b,i,k⟩ 9:=qE e;have u:=zhg (y:=1) g (by omega) (by omega) (by omega);exact zq (zQ4 (q (zF _ _))) (zq (zbd (by omega)) (d (n-1) _ (by omega) ⟨zK .i64 t 1,_,_,_,rfl,by omega,by omega,zwE _,zbem _ _ (by omega)⟩))};{refine zq (zi0 (q (zF _ _)) 8) (zbE (fun _=>zq (zQ4 (q (zcm _ _))) (zq (zQ4 (q (zwE _))) (zq (zlo ?_) (zbF (aS .entry) (zwE _) ?_)))) (fun _=>zbF (aS .entry) (zcm _ _) (by omega)));{simp only [ln,ap,kD,q0,uK];omega};{simp only [ap,kD,q0,uK];omega}}
def zbc6:zcJ:=[(153,([false,true,true],zDs)),(154,([false,true,true],zv8))]++zbc5
theorem zZA:zb2 zbc6:=zcv zME (by
 intro x a;simp only[qG,qN,or_false]at a;rcases a with rfl|rfl
 .exact zRZ
 .exact zID)
def zNV (b:Bare)(a:GAct):Bare:=bif ieq a.Kind 1 then zik b a.G else (cond (ieq a.Kind 2) (chg b a.G (zt9 a.X ⟨a.Y,a.Z⟩) (zCL (gAt b a.G) a.X ⟨a.Y,a.Z⟩)) (cond (ieq a.Kind 3) (chg b a.G (hasB a.X 4) (zdW (gAt b a.G) a.X)) (cond (ieq a.Kind 4) (chg b a.G (ztB (gAt b a.G) a.X) (zy0 (gAt b a.G) a.X)) (cond (ieq a.Kind 5) (chg b a.G (zze (gAt b a.G)) (zzf (gAt b a.G))) (cond (ieq a.Kind 6) (chg b a.G (zeY (gAt b a.G).Pending a.X) (zmY (gAt b a.G) a.X)) (cond (ieq a.Kind 7) (chg b a.G (zhA ⟨a.X,a.Y,ieq a.Z 1⟩) (zKZ (gAt b a.G) ⟨a.X,a.Y,ieq a.Z 1⟩)) (cond (ieq a.Kind 8) (zWZ b a.X a.Y a.Z) (cond (ieq a.Kind 9) (zgN b a.X) (cond (ieq a.Kind 10) (zih b) (cond (ieq a.Kind 11) (z4C b a.G a.X a.Y) (b)))))))))))
def zNW (b:Bare)(a:GAct):Told:=bif ieq a.Kind 1 then ⟨zl8 b a.G,0⟩ else (cond (ieq a.Kind 2) ⟨zb7 b a.G (zt9 a.X ⟨a.Y,a.Z⟩),0⟩ (cond (ieq a.Kind 3) ⟨zb7 b a.G (hasB a.X 4),0⟩ (cond (ieq a.Kind 4) ⟨zb7 b a.G (ztB (gAt b a.G) a.X),0⟩ (cond (ieq a.Kind 5) ⟨zb7 b a.G (zze (gAt b a.G)),0⟩ (cond (ieq a.Kind 6) ⟨zb7 b a.G (zeY (gAt b a.G).Pending a.X),0⟩ (cond (ieq a.Kind 7) ⟨zb7 b a.G (zhA ⟨a.X,a.Y,ieq a.Z 1⟩),0⟩ (cond (ieq a.Kind 8) ⟨zAj b a.X a.Y a.Z,0⟩ (cond (ieq a.Kind 9) ⟨zea b a.X,0⟩ (cond (ieq a.Kind 10) ⟨zhz b,zod b⟩ (cond (ieq a.Kind 11) ⟨zBH b a.G a.X a.Y,0⟩ (⟨zpe b a.G a.X 1,zW3 b a.G a.X⟩)))))))))))
def zNX (l:List Bare)(a:GAct):List Bare:=bif win a.Kind 1 17 then (cond (win a.Kind 13 17) l (cond (hasB a.M (ln l)) (up l a.M (zNV (ix l a.M z0R) a)) l)) else l
def z4b (l:List Bare)(a:GAct):Told:=bif win a.Kind 1 17 then (cond (win a.Kind 13 17) ⟨false,0⟩ (cond (hasB a.M (ln l)) (zNW (ix l a.M z0R) a) (cond (ieq a.Kind 10) ⟨false,-1⟩ ⟨false,0⟩))) else ⟨false,0⟩
theorem zI {i n:Int}:hasB i n=true↔0<=i/\i<n:=by unfold hasB;exact decide_eq_true_iff
theorem zcN {x a b:Int}:win x a b=true↔a<=x/\x<=b:=by simp[win,ige,ile]
theorem zbv {x y:Int}:ieq x y=true↔x=y:=by simp[ieq]
theorem zHR {x y:Int}:ine x y=true↔x≠y:=by simp[ine]
theorem zb1 {x y:Int}:ieq x y=false↔x≠y:=by simp[ieq]
theorem zcf {a b:Bool}:(cond a b false)=true↔a=true/\b=true:=by cases a<;>simp
theorem zbR {a:Type}(l:List a)(i:Int)(x:a):(up l i x).length=l.length:=by simp[up]
theorem zdP {a:Type}(l:List a)(i:Int)(x:a):ln (up l i x)=ln l:=by simp[up,ln]
theorem zCb {a:Type}{l:List a}{i:Int}(h:hasB i (ln l)=true)(d:a):∃k:Nat,∃b:k<l.length,i=(k:Int)/\ix l i d=l[k]:=by rw[zI]at h;unfold ln at h;refine⟨i.toNat,by omega,by omega,?_⟩;simp[ix,List.getD,qB (show i.toNat<l.length by omega)]
theorem zng {a:Type}{l:List a}{k:Nat}(h:k<l.length)(d:a):ix l (k:Int) d=l[k]:=by simp[ix,List.getD,qB h]
theorem zmm {a:Type}{l:List a}{i:Int}(h:hasB i (ln l)=true)(d:a):ix l i d∈l:=by obtain⟨k,b,_,e⟩:=zCb h d;rw[e];exact jL b
theorem zF5 {a:Type}{l:List a}{x:a}(h:x∈l)(d:a):∃i,hasB i (ln l)=true/\ix l i d=x:=by obtain⟨k,b,e⟩:=List.mem_iff_getElem.1 h;exact⟨(k:Int),zI.2 (by unfold ln;omega),(zng b d).trans e⟩
theorem zbi {a:Type}{l:List a}{i:Int}(h:hasB i (ln l)=true)(x d:a):ix (up l i x) i d=x:=by rw[zI]at h;unfold ln at h;simp[ix,up,List.getD,show i.toNat<l.length by omega]
theorem zbw {a:Type}{l:List a}{i j:Int}(b:0<=i)(c:0<=j)(h:i≠j)(x d:a):ix (up l i x) j d=ix l j d:=by have:i.toNat≠j.toNat:=(by omega);simp[ix,up,List.getD,q9,this]
theorem z9n {a:Type}(l:List a)(i:Int)(x y:a):up (up l i x) i y=up l i y:=by simp[up]
theorem zST {a:Type}{l m:List a}(d:a)(h:l.length=m.length)(e:∀i,hasB i (ln l)=true->ix l i d=ix m i d):l=m:=by refine List.ext_getElem h fun k b c=>?_;have:=e (k:Int) (zI.2 (by unfold ln;omega));rwa [zng b,zng c] at this
theorem zM2 {a:Type}{l:List a}{i:Int}(h:hasB i (ln l)=true)(d:a):up l i (ix l i d)=l:=by obtain⟨k,b,rfl,e⟩:=zCb h d;rw[e];simp[up]
def cPg (x:Mon)(q:Int):Nat:=x.Outer.countP fun s=>ieq s.Page q
def ze3 (l:List Mon)(q:Int):Nat:=(l.map fun x=>cPg x q).sum
theorem zUh {a:Type}(P:a->Bool){l:List a}{i:Int}(h:hasB i (ln l)=true)(x d:a):(up l i x).countP P+(if P (ix l i d) then 1 else 0)=l.countP P+(if P x then 1 else 0):=by
 obtain⟨k,b,rfl,e⟩:=zCb h d;rw[e];simp only[up,kH,List.countP_set b];have:(if P l[k]=true then 1 else 0)<=l.countP P:=by
  split
  .rename_i hp;exact List.countP_pos_iff.2 ⟨l[k],jL b,hp⟩
  .omega
 omega
theorem zBc {l:List Mon}{m:Int}(h:hasB m (ln l)=true)(x:Mon)(q:Int):ze3 (up l m x) q+cPg (ix l m mZ) q=ze3 l q+cPg x q:=by obtain⟨k,a,rfl,e⟩:=zCb h mZ;rw[e];clear h e;unfold up;simp only[kH];induction l generalizing k with|nil=>simp at a|cons y l b=>(cases k with|zero=>simp[ze3];omega|succ k=>have:=b k (by simpa using a);simp[ze3] at this ⊢;omega)
theorem zKV {l:List Mon}{m p:Int}(a:hasB m (ln l)=true)(b:hasB p (ln (ix l m mZ).Outer)=true):1<=ze3 l (ix (ix l m mZ).Outer p sZ).Page:=by have d:1<=cPg (ix l m mZ) (ix (ix l m mZ).Outer p sZ).Page:=List.countP_pos_iff.2 ⟨_,zmm b sZ,by simp[ieq]⟩;have:=zBc a (⟨[],[],[],[],[],0,0,[],0⟩:Mon) (ix (ix l m mZ).Outer p sZ).Page;have c:cPg (⟨[],[],[],[],[],0,0,[],0⟩:Mon) (ix (ix l m mZ).Outer p sZ).Page=0:=rfl;omega
theorem z9A {l:List Mon}{m p n k:Int}{q:Int}(b:hasB m (ln l)=true)(v:hasB p (ln (ix l m mZ).Outer)=true)(u:hasB n (ln l)=true)(f:hasB k (ln (ix l n mZ).Outer)=true)(z:(ix (ix l m mZ).Outer p sZ).Page=q)(t:(ix (ix l n mZ).Outer k sZ).Page=q)(h:ze3 l q<=1):m=n/\p=k:=by have c:=zI.1 b;have d:=zI.1 u;have i:=zI.1 v;have g:=zI.1 f;have B:¬ ieq q (q+1)=true:=(by simp[ieq];omega);obtain⟨y,r⟩:∃y:Mon,y.Outer=up (ix l m mZ).Outer p ⟨q+1,0⟩:=⟨{ix l m mZ with Outer:=up (ix l m mZ).Outer p ⟨q+1,0⟩},rfl⟩;have x:=zUh (fun s=>ieq s.Page q) v (⟨q+1,0⟩:Slot) sZ;simp only[z,show ieq q q=true by simp[ieq],show ieq (q+1) q=false by simp[ieq];omega,if_true,kE,if_false] at x;have C:=zBc b y q;simp only[cPg,r] at C;have D:ze3 (up l m y) q=0:=(by omega);apply Classical.byContradiction;intro A;have w:1<=ze3 (up l m y) q:=(by by_cases a:m=n;{subst a;have j:p≠k:=fun e=>A ⟨rfl,e⟩;have:=zKV (l:=up l m y) (m:=m) (p:=k) (by rw[zdP];exact b) (by rw[zbi b,r,zdP];exact f);rw[zbi b,r,zbw i.1 g.1 j,t] at this;exact this};{have:=zKV (l:=up l m y) (m:=n) (p:=k) (by rw[zdP];exact u) (by rw[zbw c.1 d.1 a];exact f);rw[zbw c.1 d.1 a,t] at this;exact this});omega
theorem zvq {a b c:Bool}:(cond a b c)=true↔(a=true/\b=true)\/(a=false/\c=true):=by cases a<;>simp
def SOk (s:Slot):Prop:=s=noSlot\/(0<=s.Page/\s.Page<=11/\1<=s.Rights/\s.Rights<=3)
theorem zZ6 {a b:Slot}(c:a.Page=b.Page)(d:a.Rights=b.Rights):a=b:=by cases a;cases b;simp_all
theorem zqE {a b:Slot}:zc1 a b=true↔a=b:=by simp only[zc1,qD,zbv];exact⟨fun h=>zZ6 h.1 h.2,fun h=>by rw[h];exact⟨rfl,rfl⟩⟩
theorem ztn {a b:Slot}:zc1 a b=false↔a≠b:=by rw[<- Bool.not_eq_true,zqE]
theorem z3w {s:Slot}:zdK s 12=true↔SOk s:=by unfold zdK SOk;rw[zvq,zqE,ztn];have:wsub .i64 12 1=11:=(by decide);simp only[this,zvq,zcN];simp[igt];constructor;{rintro (h|⟨h,⟨a,b⟩,c⟩);{exact .inl h};{exact .inr ⟨a,b,c⟩}};{intro h;by_cases d:s=noSlot;{exact .inl d};{rcases h with h|⟨a,b,c⟩;{exact .inl h};{exact .inr ⟨d,⟨a,b⟩,c⟩}}}
theorem SOk.none {s:Slot}(h:SOk s)(a:s.Page = -1):s=noSlot:=by rcases h with h|h;{exact h};{omega}
theorem SOk.pos {s:Slot}(h:SOk s)(a:s.Page≠-1):0<=s.Page/\s.Page<=11/\1<=s.Rights/\s.Rights<=3:=by rcases h with h|h;{rw [h]at a;exact absurd rfl a};{exact h}
structure MOk (x:Mon):Prop where
 g1:1<=x.Guests.length
 g2:x.Guests.length<=2
 gt:x.Tables.length=x.Guests.length
 o8:x.Outer.length=8
 sl:∀s∈x.Outer,SOk s
 u8:x.Out.length=8
 d8:x.Dirty.length=8
 outs:x.Outs.length<=40
 pend:zc7 x.Pending=true
 tr:win x.Traps 0 3=true
 own:win x.Own 0 1000000000=true
 gs:∀g∈x.Guests,zc9 g=true
 fit:∀p,hasB p 8=true->zmr (ix x.Outer p sZ) (ix x.Out p [])=true
theorem zXl {P:Nat->Bool}:∀{n i:Nat},zo7 P n i=true↔∀j,i<=j->j<i+n->P j=true
 | 0,i=>by simp[zo7];intro j a b;omega
 |n+1,i=>by rw[zo7,qD,zXl];constructor;{rintro⟨a,b⟩ j c d;by_cases e:j=i;{rw [e];exact a};{exact b j (by omega) (by omega)}};{intro h;exact⟨h i (by omega) (by omega),fun j a b=>h j (by omega) (by omega)⟩}
theorem zsH {t:List Slot}{n p:Int}:zcY t n p=true↔(∀s∈t,zdK s p=true)/\ln t=n:=by unfold zcY;rw[zcf,qM,zbv]
theorem zbd8 {x:Mon}:zeb x=true↔MOk x:=by unfold zeb;simp only[zcf,zcN,zbv,zsH,zXl,qM,ile,qX];constructor;{rintro⟨⟨g,i⟩,m,⟨k,l⟩,n,q,r,e,a,b,c,d⟩;unfold ln at *;refine⟨by omega,by omega,by omega,by omega,fun s f=>z3w.1 (k s f),by omega,by omega,by omega,e,zcN.2 a,zcN.2 b,c,fun p t=>?_⟩;have u:=zI.1 t;have:=d p.toNat (by omega) (by omega);unfold fits at this;rwa [show ((p.toNat:Nat):Int)=p by omega] at this};{intro h;obtain⟨g,i,m,k,l,n,q,r,e,a,b,c,d⟩:=h;unfold ln;exact⟨⟨by omega,by omega⟩,by omega,⟨fun s f=>z3w.2 (l s f),by omega⟩,by omega,by omega,by omega,e,zcN.1 a,zcN.1 b,c,fun j g i=>d (j:Int) (zI.2 (by omega))⟩}
theorem zBz (o:List Slot)(s:Slot)(q:Int):(s::o).countP (fun s=>ieq s.Page q)=o.countP (fun s=>ieq s.Page q)+if s.Page=q then 1 else 0:=by rw[vG];simp[ieq]
theorem zCS:∀{o:List Slot} {u:List Bool},(∀s∈o,s.Page<u.length)->
 (∀c,zgH o u=some c↔(∀q,0<=q->o.countP (fun s=>ieq s.Page q)+(if ix u q false then 1 else 0)<=1)/\
  c=(o.foldl (fun u s=>bif ilt s.Page 0 then u else up u s.Page true) u))
 |[],u,h,c=>by simp[zgH];exact⟨fun h=>⟨fun q _=>by split<;>omega,h.symm⟩,fun h=>h.2.symm⟩
 |s::o,u,h,c=>by
  unfold zgH;by_cases g:s.Page<0;{have b:ilt s.Page 0=true:=qJ g;rw[b,cond_true,zCS (fun y d=>h y (qZ _ d))];simp only[uL,b,cond_true];refine and_congr (forall_congr' fun q=>forall_congr' fun f=>?_) Iff.rfl;have e:(if s.Page=q then 1 else 0)=0:=if_neg (by omega);rw[zBz,e,jY]};{have b:ilt s.Page 0=false:=qH g;have k:=h s jC;have j:hasB s.Page (ln u)=true:=zI.2 ⟨by omega,by unfold ln;omega⟩;rw[b,cond_false];cases i:ix u s.Page false with|true=>rw[cond_true];constructor;{intro h;cases h};{rintro⟨h,_⟩;have:=h s.Page (by omega);rw[zBz,if_pos rfl,i] at this;simp at this}|false=>rw[cond_false,zCS (fun y d=>by rw[zbR];exact h y (qZ _ d))];simp only[uL,b,cond_false];refine and_congr (forall_congr' fun q=>forall_congr' fun f=>?_) Iff.rfl;rw[zBz];by_cases a:s.Page=q;{subst a;rw[zbi j,i];simp};{rw [zbw (by omega) f a,if_neg a,jY]}}
theorem zM3:∀(o:List Slot) (u:List Bool),(o.foldl (fun u s=>bif ilt s.Page 0 then u else up u s.Page true) u).length=u.length
 |[],u=>rfl
 |s::o,u=>by rw[uL,zM3];cases ilt s.Page 0<;>simp [zbR]
theorem zTF:∀(o:List Slot) (u:List Bool) (q:Int),0<=q->(∀s∈o,s.Page<u.length)->(ix (o.foldl (fun u s=>bif ilt s.Page 0 then u else up u s.Page true) u) q false=true↔ix u q false=true\/1<=o.countP (fun s=>ieq s.Page q))
 |[],u,q,b,h=>by simp
 |s::o,u,q,b,h=>by
  rw[uL,zTF _ _ q b (fun y f=>by have:=h y (qZ _ f);cases ilt s.Page 0<;>simpa [zbR] using this),zBz];by_cases c:s.Page<0;{rw [show ilt s.Page 0=true from qJ c,cond_true,if_neg (by omega),jY]};{rw [show ilt s.Page 0=false from qH c,cond_false];have e:=h s jC;have d:hasB s.Page (ln u)=true:=zI.2 ⟨by omega,by unfold ln;omega⟩;by_cases a:s.Page=q;{subst a;rw[zbi d];simp};{rw [zbw (by omega) b a,if_neg a,jY]}}
theorem zBV:∀{l:List Mon} {u:List Bool},u.length=12->(ziM l u=true↔(∀x∈l,MOk x)/\∀q,0<=q->ze3 l q+(if l≠[]/\ix u q false then 1 else 0)<=1)
 |[],u,c=>by simp[ziM,ze3]
 |x::l,u,c=>by
  unfold ziM;rw[zcf,zbd8];constructor;{rintro⟨f,b⟩;have k:∀s∈x.Outer,s.Page<u.length:=fun s n=>(by rcases f.sl s n with h|h;{rw [h,c];decide};{rw [c];omega});split at b;{rename_i B d;obtain⟨g,rfl⟩:=(zCS k B).1 d;rw[zBV (by rw[zM3,c])]at b;obtain⟨v,w⟩:=b;refine⟨by simpa using ⟨f,v⟩,fun q a=>?_⟩;have z:=g q a;have i:=w q a;have m:=zTF x.Outer u q a k;simp only[ze3,jD,uJ]at i ⊢;unfold cPg at i ⊢;simp only[ne_eq,reduceCtorEq,not_false_eq_true,true_and];by_cases r:l=[];{subst r;simpa using z};{simp only [r,ne_eq,not_false_eq_true,true_and]at i;by_cases j:ix (x.Outer.foldl (fun u s=>bif ilt s.Page 0 then u else up u s.Page true) u) q false=true;{rw [if_pos j]at i;omega};{rw [if_neg j]at i;have p:¬ (ix u q false=true\/1<=x.Outer.countP (fun s=>ieq s.Page q)):=fun e=>j (m.2 e);rw[not_or]at p;rw[if_neg p.1];omega}}};{cases b}}
  .rintro⟨f,b⟩;have t:MOk x:=f x jC;refine⟨t,?_⟩;have k:∀s∈x.Outer,s.Page<u.length:=fun s n=>by rcases t.sl s n with h|h;{rw [h,c];decide};{rw [c];omega}
   have d:=(zCS k _).2 ⟨fun q a=>by
    have:=b q a;simp only[ze3,jD,uJ,ne_eq,reduceCtorEq,not_false_eq_true,true_and] at this;unfold cPg at this;omega,rfl⟩
   rw[d];simp only;rw[zBV (by rw[zM3,c])];refine⟨fun y A=>f y (qZ _ A),fun q a=>?_⟩;have g:=b q a;have m:=zTF x.Outer u q a k;simp only[ze3,jD,uJ,ne_eq,reduceCtorEq,not_false_eq_true,true_and]at g ⊢;unfold cPg at g ⊢;split;{rename_i j;rcases m.1 j.2 with h|h;{rw [if_pos h]at g;omega};{omega}};{omega}
structure HOk (h:Host):Prop where
 m12:h.Memory.length=12
 pgs:∀c∈h.Memory,zcr c=true
 n1:1<=h.Mons.length
 n3:h.Mons.length<=3
 b1:ze1 h.Buffer=true
 b2:ze1 h.IoBuffer=true
 mons:∀x∈h.Mons,MOk x
 uq:∀q,0<=q->ze3 h.Mons q<=1
theorem zkA {h:Host}:zb3 h=true↔HOk h:=by unfold zb3 zhD;simp only[zcf,zcN,zbv,qM];rw[zBV (by simp[rp])];have g:∀q,ix (rp 12 false) q false=false:=fun q=>(by unfold ix rp;rw[kB,kG];split<;>rfl);simp only[g,kE,and_false,if_false,jY];unfold ln;constructor;{rintro⟨⟨e,f⟩,⟨i,j⟩,a,b,c,d⟩;exact⟨by omega,e,by omega,by omega,a,b,c,d⟩};{rintro⟨e,f,i,j,a,b,c,d⟩;exact⟨⟨f,by omega⟩,⟨by omega,by omega⟩,a,b,c,d⟩}
theorem HOk.mon {h:Host}(H:HOk h){m:Int}(a:hasB m (ln h.Mons)=true):MOk (ix h.Mons m mZ):=H.mons _ (zmm a _)
theorem MOk.hasO {x:Mon}(H:MOk x){p:Int}(a:hasB p 8=true):hasB p (ln x.Outer)=true:=by rw[ln,H.o8];exact a
theorem MOk.hasU {x:Mon}(H:MOk x){p:Int}(a:hasB p 8=true):hasB p (ln x.Out)=true:=by rw[ln,H.u8];exact a
theorem MOk.hasD {x:Mon}(H:MOk x){p:Int}(a:hasB p 8=true):hasB p (ln x.Dirty)=true:=by rw[ln,H.d8];exact a
theorem MOk.slot {x:Mon}(H:MOk x){p:Int}(a:hasB p 8=true):SOk (ix x.Outer p sZ):=H.sl _ (zmm (H.hasO a) _)
theorem HOk.uniq {h:Host}(H:HOk h){m p n k q:Int}(a:hasB m (ln h.Mons)=true)(f:hasB p 8=true)(b:hasB n (ln h.Mons)=true)(e:hasB k 8=true)(c:(ix (ix h.Mons m mZ).Outer p sZ).Page=q)(d:(ix (ix h.Mons n mZ).Outer k sZ).Page=q)(g:0<=q):m=n/\p=k :=
 z9A a ((H.mon a).hasO f) b ((H.mon b).hasO e) c d (H.uq q g)
theorem HOk.up {h:Host}(H:HOk h){m:Int}(k:hasB m (ln h.Mons)=true){x:Mon}(l:MOk x){a:Host}(e:a.Mons=up h.Mons m x)(d:a.Memory.length=12)(f:∀c∈a.Memory,zcr c=true)(i:ze1 a.Buffer=true)(j:ze1 a.IoBuffer=true)(n:∀q,0<=q->cPg x q<=cPg (ix h.Mons m mZ) q\/ze3 h.Mons q=0/\cPg x q<=1):HOk a:=by refine⟨d,f,by rw[e,zbR];exact H.n1,by rw[e,zbR];exact H.n3,i,j,fun y b=>?_,fun q g=>?_⟩;{rw [e]at b;unfold E.up at b;rcases qY b with h|h;{exact H.mons y h};{rw [h];exact l}};{rw [e];have p:=zBc k x q;have r:=H.uq q g;have s:=n q g;omega}
structure KOk (k:Kept) (inner outer:List Slot):Prop where
 l1:k.Known.length=inner.length
 l2:k.Slots.length=inner.length
 at':∀i,hasB i (ln inner)=true->ix k.Slots i sZ=bif ix k.Known i false then zbr (ix inner i sZ) outer else noSlot
def TOk (x:Mon):Prop:=∀g,hasB g (ln x.Guests)=true->KOk (ix x.Tables g kZ) (ix x.Guests g gZ).Live x.Outer
structure Rt (h:Host):Prop where
 t:∀m,hasB m (ln h.Mons)=true->TOk (ix h.Mons m mZ)
 e1:∀e∈h.Buffer,zc3 h e=true
 e2:∀e∈h.IoBuffer,zc3 h e=true
structure Safe (h:Host):Prop where
 ok:HOk h
 rt:Rt h
theorem zsL {a b:Slot}:below' a b=true↔a=noSlot\/(a.Page=b.Page/\enough b.Rights a.Rights=true):=by unfold below';rw[zvq,zqE,ztn,zcf,zbv];by_cases h:a=noSlot<;>simp [h]
theorem z9o (x:Int):wand .i64 0 x=0:=by unfold wand;have:(BitVec.ofInt 64 0 &&& BitVec.ofInt 64 x)=0#64:=(by rw[show BitVec.ofInt 64 0=0#64 from rfl,BitVec.zero_and]);show IntKind.wrap .i64 ((BitVec.ofInt 64 0 &&& BitVec.ofInt 64 x).toNat:Int)=0;rw[this];rfl
theorem z9z {a:Slot}(h:below' a noSlot=true):a=noSlot:=by rcases zsL.1 h with h|⟨c,b⟩;{exact h};{refine zZ6 c ?_;unfold enough at b;rw[show noSlot.Rights=0 from rfl,z9o]at b;simp only[zcf,zbv]at b;exact b.2.2.symm}
theorem zfA {h:Host}{e:Entry}:zc3 h e=true↔hasB (zdA e.Tag) (ln h.Mons)=true/\hasB (zei e.Tag) (ln (ix h.Mons (zdA e.Tag) mZ).Guests)=true/\
 below' ⟨e.Host,e.Rights⟩ (zbr (zbs (ix (ix h.Mons (zdA e.Tag) mZ).Guests (zei e.Tag) gZ).Live e.Page) (ix h.Mons (zdA e.Tag) mZ).Outer)=true:=by
 unfold zc3;rw[zcf,zcf]
theorem zU6 {o:List Slot}{p q:Int}{s:Slot}(a:0<=p)(h:q≠p):zbs (up o p s) q=zbs o q:=by unfold zbs;rw[zdP];cases b:hasB q (ln o) with|false=>rfl|true=>rw[cond_true,cond_true,zbw a (zI.1 b).1 (Ne.symm h)]
theorem zN7 {s:Slot}{o:List Slot}{p:Int}{t:Slot}(a:0<=p)(h:s.Page≠p):zbr s (up o p t)=zbr s o:=by unfold zbr;rw[zU6 a h]
theorem z4h {s:Slot}{o:List Slot}:zbr s o=noSlot\/(zbr s o).Page=(zbs o s.Page).Page:=by unfold zbr;cases ieq s.Page (-1)<;>cases ieq (zbs o s.Page).Page (-1)<;>cases ieq (zdm s.Rights (zbs o s.Page).Rights) 0<;>simp
theorem zlq (k:Kept)(q:Int):(zbY k q).Known.length=k.Known.length/\(zbY k q).Slots.length=k.Slots.length:=by unfold zbY;cases zdk k q<;>simp [zbR]
theorem zDj:∀(l:List Int) (k:Kept),(zez k l).Known.length=k.Known.length/\(zez k l).Slots.length=k.Slots.length
 |[],k=>⟨rfl,rfl⟩
 |q::l,k=>by have a:=zDj l (zbY k q);have b:=zlq k q;exact⟨a.1.trans b.1,a.2.trans b.2⟩
theorem zy4 {k:Kept}{q i:Int}(d:k.Known.length=k.Slots.length)(b:hasB i (ln k.Known)=true) :
 ix (zbY k q).Known i false=(cond (ieq q i) false (ix k.Known i false))/\ix (zbY k q).Slots i sZ=(cond (ieq q i) noSlot (ix k.Slots i sZ)):=by
 have c:hasB i (ln k.Slots)=true:=by unfold ln at b ⊢;rwa [<- d]
 unfold zbY zdk
 by_cases e:q=i
 .subst e;simp only[b,c,cond_true,ieq,beq_self_eq_true];exact⟨zbi b _ _,zbi c _ _⟩
 .rw [show ieq q i=false from zb1.2 e]
  by_cases a:hasB q (ln k.Known)=true
  .have hq':hasB q (ln k.Slots)=true:=by unfold ln at a ⊢;rwa [<- d]
   simp only[a,hq',cond_true,cond_false];exact⟨zbw (zI.1 a).1 (zI.1 b).1 e _ _,zbw (zI.1 a).1 (zI.1 b).1 e _ _⟩
  .rw [Bool.not_eq_true]at a;simp[a]
theorem zFu:∀(l:List Int) {k:Kept} {i:Int},k.Known.length=k.Slots.length->hasB i (ln k.Known)=true->
 (i∈l->ix (zez k l).Known i false=false/\ix (zez k l).Slots i sZ=noSlot)/\
 (i∉l->ix (zez k l).Known i false=ix k.Known i false/\ix (zez k l).Slots i sZ=ix k.Slots i sZ)
 |[],k,i,d,c=>⟨fun h=>by simp at h,fun _=>⟨rfl,rfl⟩⟩
 |q::l,k,i,d,c=>by have b:=zlq k q;have g:=zy4 (q:=q) d c;have f:=zFu l (k:=zbY k q) (i:=i) (by rw[b.1,b.2,d]) (by unfold ln at c ⊢;rwa [b.1]);show (_->ix (zez (zbY k q) l).Known i false=_/\ix (zez (zbY k q) l).Slots i sZ=_)/\(_->ix (zez (zbY k q) l).Known i false=_/\ix (zez (zbY k q) l).Slots i sZ=_);by_cases a:i∈l;{refine⟨fun _=>f.1 a,fun h=>absurd (qZ _ a) h⟩};{rw [(f.2 a).1,(f.2 a).2,g.1,g.2];by_cases e:q=i;{subst e;simp[ieq]};{rw [zb1.2 e];simp[a,Ne.symm e]}}
theorem zMa {e:Type}{P:e->Bool}{d:e}:∀{l:List e} {n:Nat} {i:Int},i∈idxs P l n↔∃k:Nat,∃h:k<l.length,i=((n+k:Nat):Int)/\P l[k]=true
 |[],n,i=>by simp[idxs]
 |x::l,n,i=>by
  have g:=@zMa e P d l (n+1) i;unfold idxs;constructor
  .intro h;cases f:P x with
   |true=>rw[f,cond_true,qG]at h;rcases h with h|h;{exact⟨0,by simp,by simpa using h,f⟩};{obtain⟨k,c,b,a⟩:=g.1 h;exact⟨k+1,by simpa using c,by rw[b];congr 1;omega,by simpa using a⟩}
   |false=>rw[f,cond_false]at h;obtain⟨k,c,b,a⟩:=g.1 h;exact⟨k+1,by simpa using c,by rw[b];congr 1;omega,by simpa using a⟩
  {rintro⟨k,c,b,a⟩;cases k with|zero=>simp only[List.getElem_cons_zero]at a;rw[a,cond_true,b];exact jC|succ k=>have:=g.2 ⟨k,by simpa using c,by rw[b];congr 1;omega,by simpa using a⟩;cases P x;{exact this};{exact qZ _ this}}
theorem z0Q {l:List Slot}{p i:Int}:i∈zHw l p↔hasB i (ln l)=true/\(ix l i sZ).Page=p:=by unfold zHw;rw[zMa (d:=sZ)];constructor;{rintro⟨k,a,rfl,c⟩;rw[j6,zng a];exact⟨zI.2 (by unfold ln;omega),zbv.1 c⟩};{rintro⟨a,b⟩;obtain⟨k,f,rfl,e⟩:=zCb a sZ;exact⟨k,f,by simp,by rw[e]at b;exact zbv.2 b⟩}
theorem z4Y {k:Kept}{a b:List Slot}(h:KOk k a b){p:Int}(j:0<=p)(s:Slot):KOk (zhY k a p) a (up b p s):=by have g:=zDj (zHw a p) k;refine⟨g.1.trans h.l1,g.2.trans h.l2,fun i d=>?_⟩;have e:hasB i (ln k.Known)=true:=(by unfold ln at d ⊢;rwa [h.l1]);have f:=zFu (zHw a p) (by rw[h.l1,h.l2]) e;unfold zhY;by_cases c:(ix a i sZ).Page=p;{have:=f.1 (z0Q.2 ⟨d,c⟩);rw[this.1,this.2];rfl};{have:=f.2 (fun h=>c (z0Q.1 h).2);rw[this.1,this.2,h.at' i d,zN7 j c]}
theorem zHo (b:List Guest)(p:Int):∀(n:Nat) (a:List Kept),(zl4 b p n a).length=a.length
 | 0,a=>rfl
 |n+1,a=>by rw[zl4,zbR,zHo b p n]
theorem zTl (b:List Guest)(p:Int):∀(n:Nat) (a:List Kept),n<=a.length->∀i,0<=i->ix (zl4 b p n a) i kZ=if i<n then zhY (ix a i kZ) (ix b i gZ).Live p else ix a i kZ
 | 0,a,_,i,c=>by rw[if_neg (by omega)];rfl
 |n+1,a,d,i,c=>by rw[zl4];by_cases e:i=n;{subst e;rw[zbi (by rw[ln,zHo];exact zI.2 (by omega)),if_pos (by omega),zTl b p n a (by omega) _ c,if_neg (by omega)]};{rw [zbw (by omega) c (Ne.symm e),zTl b p n a (by omega) i c];by_cases h:i<n;{rw [if_pos h,if_pos (by omega)]};{rw [if_neg h,if_neg (by omega)]}}
def zj5 (x:Mon)(p:Int)(s:Slot):Mon:={zkU x p x.Tables.length with Outer:=up x.Outer p s}
theorem z8Z {x:Mon}(h:TOk x)(c:x.Tables.length=x.Guests.length){p:Int}(b:0<=p)(s:Slot):TOk (zj5 x p s):=by intro g hg;have a:hasB g (ln x.Guests)=true:=hg;show KOk (ix (zl4 x.Guests p x.Tables.length x.Tables) g kZ) (ix x.Guests g gZ).Live (up x.Outer p s);rw[zTl _ _ _ _ (qW _) _ (zI.1 a).1,if_pos (by have:=zI.1 a;unfold ln at this;omega)];exact z4Y (h g a) b s
theorem zuf (h:Host)(m p:Int)(s:Slot):(zcs h m p s).Mons=up h.Mons m (zj5 (ix h.Mons m mZ) p s):=by unfold zcs;cases ine (ix (ix h.Mons m zi).Outer p zV).Page (-1)<;>rfl
theorem zzu (h:Host)(m p:Int)(s:Slot):(zcs h m p s).Memory=h.Memory:=by unfold zcs;cases ine (ix (ix h.Mons m zi).Outer p zV).Page (-1)<;>rfl
theorem zU8 (h:Host)(m p:Int)(s:Slot):(zcs h m p s).Buffer=(cond (ieq (ix (ix h.Mons m mZ).Outer p sZ).Page (-1)) h.Buffer (flushed h.Buffer (ix (ix h.Mons m mZ).Outer p sZ).Page))/\
 (zcs h m p s).IoBuffer=(cond (ieq (ix (ix h.Mons m mZ).Outer p sZ).Page (-1)) h.IoBuffer (flushed h.IoBuffer (ix (ix h.Mons m mZ).Outer p sZ).Page)):=by
 unfold zcs
 by_cases e:(ix (ix h.Mons m zi).Outer p zV).Page = -1
 .rw [show ine (ix (ix h.Mons m zi).Outer p zV).Page (-1)=false by simp[ine,e],show ieq (ix (ix h.Mons m mZ).Outer p sZ).Page (-1)=true from zbv.2 e]
  exact⟨rfl,rfl⟩
 .rw [show ine (ix (ix h.Mons m zi).Outer p zV).Page (-1)=true from zHR.2 e,show ieq (ix (ix h.Mons m mZ).Outer p sZ).Page (-1)=false from zb1.2 e]
  exact⟨rfl,rfl⟩
theorem zOb {h k:Host}{m p:Int}{s:Slot}(n:hasB m (ln h.Mons)=true)(q:hasB p (ln (ix h.Mons m mZ).Outer)=true){x:Mon}(u:k.Mons=up h.Mons m x)(t:x.Guests=(ix h.Mons m mZ).Guests)(v:x.Outer=up (ix h.Mons m mZ).Outer p s){e:Entry}(w:zc3 h e=true)(c:(ix (ix h.Mons m mZ).Outer p sZ).Page = -1\/e.Host≠(ix (ix h.Mons m mZ).Outer p sZ).Page):zc3 k e=true:=by obtain⟨f,g,b⟩:=zfA.1 w;rw[zfA,u,zdP];refine⟨f,?_⟩;by_cases l:m=zdA e.Tag;{rw [<- l]at f g b ⊢;rw[zbi n,t,v];refine⟨g,?_⟩;by_cases j:(zbs (ix (ix h.Mons m mZ).Guests (zei e.Tag) gZ).Live e.Page).Page=p;{have a:zbr (zbs (ix (ix h.Mons m mZ).Guests (zei e.Tag) gZ).Live e.Page) (ix h.Mons m mZ).Outer=noSlot\/e.Host≠(zbr (zbs (ix (ix h.Mons m mZ).Guests (zei e.Tag) gZ).Live e.Page) (ix h.Mons m mZ).Outer).Page:=(by rcases z4h (s:=zbs (ix (ix h.Mons m mZ).Guests (zei e.Tag) gZ).Live e.Page) (o:=(ix h.Mons m mZ).Outer) with d|d;{exact .inl d};{rw [j]at d;have r:zbs (ix h.Mons m mZ).Outer p=ix (ix h.Mons m mZ).Outer p sZ:=(by unfold zbs;rw[q];rfl);rw[r]at d;rcases c with c|c;{left;unfold zbr;rw[j,r,c,show ieq (-1) (-1)=true from rfl];cases ieq p (-1)<;>rfl};{exact .inr (by rw[d];exact c)}});have i:(⟨e.Host,e.Rights⟩:Slot)=noSlot:=(by rcases a with a|a;{rw [a]at b;exact z9z b};{rcases zsL.1 b with h|h;{exact h};{exact absurd h.1 a}});rw[i];exact zsL.2 (.inl rfl)};{rw [zN7 (zI.1 q).1 j];exact b}};{rw [zbw (zI.1 n).1 (zI.1 f).1 l];exact⟨g,b⟩}
theorem zCq {h:Host}(H:Rt h){m p:Int}(d:hasB m (ln h.Mons)=true)(q:hasB p (ln (ix h.Mons m mZ).Outer)=true)(u:(ix h.Mons m mZ).Tables.length=(ix h.Mons m mZ).Guests.length)(s:Slot):Rt (zcs h m p s):=by have c:=zU8 h m p s;have i:=zuf h m p s;have f:∀(b:List Entry),(∀e∈b,zc3 h e=true)->∀e∈(cond (ieq (ix (ix h.Mons m mZ).Outer p sZ).Page (-1)) b (flushed b (ix (ix h.Mons m mZ).Outer p sZ).Page)),zc3 (zcs h m p s) e=true:=(by intro b c e a;by_cases n:(ix (ix h.Mons m mZ).Outer p sZ).Page = -1;{rw [zbv.2 n,cond_true]at a;exact zOb d q i rfl rfl (c e a) (.inl n)};{rw [zb1.2 n,cond_false]at a;obtain⟨j,l⟩:=List.mem_filter.1 a;exact zOb d q i rfl rfl (c e j) (.inr (by simpa [ieq] using l))});refine⟨fun k g=>?_,fun e a=>f _ H.e1 e (by rwa [c.1]at a),fun e a=>f _ H.e2 e (by rwa [c.2]at a)⟩;rw[i]at g ⊢;rw[zdP]at g;by_cases r:m=k;{subst r;rw[zbi d];exact z8Z (H.t m d) u (zI.1 q).1 s};{rw [zbw (zI.1 d).1 (zI.1 g).1 r];exact H.t k g}
theorem zT9:∀(l a:List Entry),allI (alone (a++l)) l a.length=true↔(∀x∈l,∀y∈a,sameKey x y=false)/\l.Pairwise (fun y x=>sameKey x y=false)
 |[],a=>by simp[allI]
 |x::l,a=>by have g:=zT9 l (a++[x]);rw[kC,List.singleton_append,kD,k9] at g;rw[allI,qD,g,List.pairwise_cons];have h:alone (a++x::l) a.length x=true↔∀y∈a,sameKey x y=false:=(by unfold alone;rw[kN rfl,qM];simp);rw[h];constructor;{rintro⟨d,e,f⟩;refine⟨fun z c y b=>?_,fun z c=>e z c x (by simp),f⟩;rcases qG.1 c with rfl|c;{exact d y b};{exact e z c y (by simp[b])}};{rintro⟨d,e,f⟩;refine⟨fun y b=>d x (by simp) y b,fun z c y b=>?_,f⟩;rcases jJ.1 b with b|b;{exact d z (by simp[c]) y b};{rw [qF.1 b];exact e z c}}
theorem zHB {l:List Entry}:ze1 l=true↔l.Pairwise (fun y x=>sameKey x y=false)/\l.length<=6:=by unfold ze1;have:=zT9 l [];simp only[jP,uK] at this;have a:ile (ln l) 6=true↔l.length<=6:=(by rw[ile,qX,ln];omega);rw[zcf,this,a];simp
theorem zBy {l:List Entry}(h:ze1 l=true)(P:Entry->Bool):ze1 (l.filter P)=true:=by rw[zHB]at h ⊢;exact⟨h.1.sublist List.filter_sublist,qU (uA _ _) h.2⟩
theorem zJM {l:List Entry}(h:ze1 l=true)(p:Int):ze1 (flushed l p)=true:=zBy h _
theorem zXt {x x':Mon}{p:Int}(a:hasB p (ln x.Outer)=true){s:Slot}(h:x'.Outer=up x.Outer p s)(q:Int):cPg x' q+(if (ix x.Outer p sZ).Page=q then 1 else 0)=cPg x q+(if s.Page=q then 1 else 0):=by have:=zUh (fun s=>ieq s.Page q) a s sZ;simp only[zbv] at this;unfold cPg;rw[h];exact this
theorem zqV {s:Slot}(d:SOk s){c:List Int}:zmr s c=true↔(s.Page = -1->zcr c=true)/\(s.Page≠-1->enough s.Rights 1=true/\c=[]):=by unfold zmr;by_cases e:s=noSlot;{rw [zqE.2 e,cond_true,e];simp[noSlot]};{rw [ztn.2 e,cond_false,zcf];have:s.Page≠-1:=fun h=>e (d.none h);have b:ile (ln c) 0=true↔c=[]:=(by rw[ile,qX,ln,<- uS];omega);rw[b];exact⟨fun h=>⟨fun a=>absurd a this,fun _=>h⟩,fun h=>h.2 this⟩}
structure Chg (x x':Mon) (p:Int) (s:Slot) (c:List Int):Prop where
 o:x'.Outer=up x.Outer p s
 u:x'.Out=up x.Out p c
 g:x'.Guests=x.Guests
 t:x'.Tables.length=x.Tables.length
 d:x'.Dirty.length=x.Dirty.length
 a1:x'.Outs=x.Outs
 a2:x'.Pending=x.Pending
 a3:x'.Traps=x.Traps
 a4:x'.Own=x.Own
theorem MOk.chg {x i:Mon}(H:MOk x){p:Int}(a:hasB p 8=true){s:Slot}{c:List Int}(k:Chg x i p s c)(l:SOk s)(j:zmr s c=true):MOk i:=by refine⟨by rw[k.g];exact H.g1,by rw[k.g];exact H.g2,by rw[k.t,k.g];exact H.gt,by rw[k.o,zbR];exact H.o8,fun y f=>?_,by rw[k.u,zbR];exact H.u8,by rw[k.d];exact H.d8,by rw[k.a1];exact H.outs,by rw[k.a2];exact H.pend,by rw[k.a3];exact H.tr,by rw[k.a4];exact H.own,by rw[k.g];exact H.gs,fun q b=>?_⟩;{rw [k.o]at f;rcases qY f with h|h;{exact H.sl y h};{rw [h];exact l}};{rw [k.o,k.u];by_cases e:p=q;{subst e;rw[zbi (H.hasO a),zbi (H.hasU a)];exact j};{rw [zbw (zI.1 a).1 (zI.1 b).1 e,zbw (zI.1 a).1 (zI.1 b).1 e];exact H.fit q b}}
structure Like (h r:Host):Prop where
 len:r.Mons.length=h.Mons.length
 g:∀i,hasB i (ln h.Mons)=true->(ix r.Mons i mZ).Guests=(ix h.Mons i mZ).Guests
 o:∀i,hasB i (ln h.Mons)=true->(ix r.Mons i mZ).Outs=(ix h.Mons i mZ).Outs
 p:∀i,hasB i (ln h.Mons)=true->(ix r.Mons i mZ).Pending=(ix h.Mons i mZ).Pending
 tr:∀i,hasB i (ln h.Mons)=true->(ix r.Mons i mZ).Traps=(ix h.Mons i mZ).Traps
 ow:∀i,hasB i (ln h.Mons)=true->(ix r.Mons i mZ).Own=(ix h.Mons i mZ).Own
 pg:∀i k,hasB i (ln h.Mons)=true->hasB k 8=true->zcq r i k=zcq h i k
theorem Like.refl (h:Host):Like h h:=⟨rfl,fun _ _=>rfl,fun _ _=>rfl,fun _ _=>rfl,fun _ _=>rfl,fun _ _=>rfl,fun _ _ _ _=>rfl⟩
theorem Like.trans {a b c:Host}(x:Like a b)(y:Like b c):Like a c:=by have k:∀i,hasB i (ln a.Mons)=true->hasB i (ln b.Mons)=true:=fun i e=>(by unfold ln at e ⊢;rwa [x.len]);exact⟨y.len.trans x.len,fun i h=>(y.g i (k i h)).trans (x.g i h),fun i h=>(y.o i (k i h)).trans (x.o i h),fun i h=>(y.p i (k i h)).trans (x.p i h),fun i h=>(y.tr i (k i h)).trans (x.tr i h),fun i h=>(y.ow i (k i h)).trans (x.ow i h),fun i q h d=>(y.pg i q (k i h) d).trans (x.pg i q h d)⟩
theorem Like.has {h r:Host}(k:Like h r){i:Int}:hasB i (ln r.Mons)=hasB i (ln h.Mons):=by unfold ln;rw[k.len]
theorem zr5 {h r:Host}{m:Int}:∀(n i:Nat),(∀k:Nat,i<=k->k<i+n->zcq r m (k:Int)=zcq h m (k:Int))->zcB r m n i=zcB h m n i
 | 0,i,_=>rfl
 |n+1,i,h=>by rw[zcB,zcB,h i (by omega) (by omega),zr5 n (i+1) (fun k a b=>h k (by omega) (by omega))]
theorem Like.seen {h r:Host}(k:Like h r)(m:Int):zD r m=zD h m:=by unfold zD;rw[k.has];cases a:hasB m (ln h.Mons) with|false=>rfl|true=>simp only[cond_true];rw[k.g m a,k.o m a,k.p m a,zr5 8 0 (fun j b c=>k.pg m j a (zI.2 (by omega)))]
theorem zoT {h:Host}{m p:Int}(a:hasB m (ln h.Mons)=true)(c:hasB p 8=true)(b:hasB p (ln (ix h.Mons m mZ).Outer)=true) :
 zcq h m p=bif ieq (ix (ix h.Mons m mZ).Outer p sZ).Page (-1) then zcx (ix h.Mons m mZ).Out p else zcx h.Memory (ix (ix h.Mons m mZ).Outer p sZ).Page:=by
 unfold zcq;have:zbs (ix h.Mons m mZ).Outer p=ix (ix h.Mons m mZ).Outer p sZ:=by unfold zbs;rw[b];rfl
 rw[a,c,cond_true,cond_true,this]
 by_cases e:(ix (ix h.Mons m mZ).Outer p sZ).Page = -1
 .rw [zbv.2 e,show ine (ix (ix h.Mons m mZ).Outer p sZ).Page (-1)=false by simp[ine,e]];rfl
 .rw [zb1.2 e,show ine (ix (ix h.Mons m mZ).Outer p sZ).Page (-1)=true from zHR.2 e];rfl
theorem zlF {m:List (List Int)}{p:Int}(h:hasB p (ln m)=true):zcx m p=ix m p []:=by unfold zcx;rw[h];rfl
theorem zUQ {m:List (List Int)}(h:∀c∈m,zcr c=true)(p:Int):zcr (zcx m p)=true:=by unfold zcx;cases a:hasB p (ln m) with|false=>rfl|true=>exact h _ (zmm a _)
theorem zyJ {h r:Host}(H:HOk h){m p:Int}(b:hasB m (ln h.Mons)=true)(i:hasB p 8=true){x:Mon}{s:Slot}{c:List Int}(n:r.Mons=up h.Mons m x)(k:Chg (ix h.Mons m mZ) x p s c)(u:SOk s)(t:zmr s c=true)(f:r.Memory.length=12)(g:∀c∈r.Memory,zcr c=true)(j:ze1 r.Buffer=true)(l:ze1 r.IoBuffer=true)(v:0<=s.Page->s.Page=(ix (ix h.Mons m mZ).Outer p sZ).Page\/ze3 h.Mons s.Page=0):HOk r:=by refine H.up b ((H.mon b).chg i k u t) n f g j l fun q z=>?_;have d:=zXt ((H.mon b).hasO i) k.o q;by_cases e:s.Page=q;{have a:=v (by omega);rw[if_pos e]at d;rcases a with a|a;{rw [if_pos (by omega)]at d;left;omega};{right;rw[e] at a;refine⟨a,?_⟩;have:=zBc b x q;have y:cPg (ix h.Mons m mZ) q<=ze3 h.Mons q:=(by have:=zBc b (⟨[],[],[],[],[],0,0,[],0⟩:Mon) q;have w:cPg (⟨[],[],[],[],[],0,0,[],0⟩:Mon) q=0:=rfl;omega);omega}};{rw [if_neg e]at d;left;split at d<;>omega}
theorem zxA {h r:Host}(H:HOk h){m p:Int}(a:hasB m (ln h.Mons)=true)(y:hasB p 8=true){x:Mon}{s:Slot}{c:List Int}(n:r.Mons=up h.Mons m x)(k:Chg (ix h.Mons m mZ) x p s c)(B:(cond (ieq s.Page (-1)) c (zcx r.Memory s.Page))=zcq h m p)(f:∀i q,hasB i (ln h.Mons)=true->hasB q 8=true->¬ (i=m/\q=p)->(ix (ix h.Mons i mZ).Outer q sZ).Page≠-1->zcx r.Memory (ix (ix h.Mons i mZ).Outer q sZ).Page=zcx h.Memory (ix (ix h.Mons i mZ).Outer q sZ).Page):Like h r:=by have l:=(zI.1 a).1;have t:=(zI.1 y).1;have e:∀{C:Type} (F:Mon->C),F x=F (ix h.Mons m mZ)->∀i,hasB i (ln h.Mons)=true->F (ix r.Mons i mZ)=F (ix h.Mons i mZ):=(by intro C F D i d;rw[n];by_cases e:m=i;{subst e;rw[zbi a];exact D};{rw [zbw l (zI.1 d).1 e]});refine⟨by rw[n,zbR],e Mon.Guests k.g,e Mon.Outs k.a1,e Mon.Pending k.a2,e Mon.Traps k.a3,e Mon.Own k.a4,fun i q d b=>?_⟩;have A:hasB i (ln r.Mons)=true:=(by rw[n,zdP];exact d);have w:=(H.mon d).hasO b;have z:hasB q (ln (ix r.Mons i mZ).Outer)=true:=(by rw[n];by_cases e:m=i;{subst e;rw[zbi a,k.o,zdP];exact w};{rw [zbw l (zI.1 d).1 e];exact w});rw[zoT A b z];by_cases e:m=i;{subst e;rw[n,zbi a,k.o,k.u];by_cases v:p=q;{subst v;rw[zbi ((H.mon a).hasO y),<- B];cases ieq s.Page (-1);{rfl};{rw [cond_true,cond_true,zlF (by rw[zdP];exact(H.mon a).hasU y),zbi ((H.mon a).hasU y)]}};{rw [zbw t (zI.1 b).1 v,zoT a b w];by_cases j:(ix (ix h.Mons m mZ).Outer q sZ).Page = -1;{rw [zbv.2 j,cond_true,cond_true,zlF (by rw[zdP];exact(H.mon a).hasU b),zlF ((H.mon a).hasU b),zbw t (zI.1 b).1 v]};{rw [zb1.2 j,cond_false,cond_false,f m q a b (fun h=>v h.2.symm) j]}}};{rw [n,zbw l (zI.1 d).1 e,zoT d b w];by_cases j:(ix (ix h.Mons i mZ).Outer q sZ).Page = -1;{rw [zbv.2 j,cond_true,cond_true]};{rw [zb1.2 j,cond_false,cond_false,f i q d b (fun h=>e h.1.symm) j]}}
structure Op (h r:Host):Prop where
 ok:HOk r
 like:Like h r
 rt:Rt h->Rt r
theorem Op.refl {h:Host}(H:HOk h):Op h h:=⟨H,Like.refl h,id⟩
theorem Op.trans {a b c:Host}(x:Op a b)(y:Op b c):Op a c:=⟨y.ok,x.like.trans y.like,fun h=>y.rt (x.rt h)⟩
theorem Op.safe {h r:Host}(k:Op h r)(s:Safe h):Safe r:=⟨k.ok,k.rt s.rt⟩
theorem zPZ {h r:Host}(H:Rt h){m:Int}(l:hasB m (ln h.Mons)=true){x:Mon}(u:r.Mons=up h.Mons m x)(q:r.Buffer=h.Buffer)(s:r.IoBuffer=h.IoBuffer)(y:x.Guests.length=(ix h.Mons m mZ).Guests.length)(w:∀g,hasB g (ln (ix h.Mons m mZ).Guests)=true->(ix x.Guests g gZ).Live=(ix (ix h.Mons m mZ).Guests g gZ).Live)(z:x.Tables=(ix h.Mons m mZ).Tables)(v:x.Outer=(ix h.Mons m mZ).Outer):Rt r:=by have d:=(zI.1 l).1;have hg:∀g,hasB g (ln x.Guests)=hasB g (ln (ix h.Mons m mZ).Guests):=fun g=>(by unfold ln;rw[y]);have f:∀e,zc3 h e=true->zc3 r e=true:=(by intro e c;obtain⟨n,i,p⟩:=zfA.1 c;rw[zfA,u,zdP];refine⟨n,?_⟩;by_cases b:m=zdA e.Tag;{rw [<- b]at n i p ⊢;rw[zbi l,hg,w _ i,v];exact⟨i,p⟩};{rw [zbw d (zI.1 n).1 b];exact⟨i,p⟩});refine⟨fun k j=>?_,fun e c=>f e (H.e1 e (by rwa [q]at c)),fun e c=>f e (H.e2 e (by rwa [s]at c))⟩;rw[u]at j ⊢;rw[zdP]at j;by_cases b:m=k;{subst b;rw[zbi l];intro g a;rw[hg]at a;rw[z,w g a,v];exact H.t m l g a};{rw [zbw d (zI.1 j).1 b];exact H.t k j}
theorem zqF {h a:Host}{m p:Int}{s:Slot}{x:Mon}(b:hasB m (ln h.Mons)=true)(e:a.Mons=up h.Mons m x):(zcs a m p s).Mons=up h.Mons m (zj5 x p s):=by rw[zuf,e,zbi b,z9n]
theorem zFi {x a:Mon}{p:Int}{s:Slot}{c:List Int}(h:a.Outer=x.Outer)(j:a.Out=up x.Out p c)(hg:a.Guests=x.Guests)(i:a.Tables=x.Tables)(g:a.Dirty.length=x.Dirty.length)(b:a.Outs=x.Outs)(d:a.Pending=x.Pending)(e:a.Traps=x.Traps)(f:a.Own=x.Own):Chg x (zj5 a p s) p s c :=
 ⟨by show up a.Outer p s=_;rw[h],j,hg,by show (zl4 a.Guests p a.Tables.length a.Tables).length=_;rw[zHo,i],g,b,d,e,f⟩
theorem zwL {h:Host}{m p:Int}{s:Slot}(a:ze1 h.Buffer=true)(b:ze1 h.IoBuffer=true):ze1 (zcs h m p s).Buffer=true/\ze1 (zcs h m p s).IoBuffer=true:=by have:=zU8 h m p s;rw[this.1,this.2];cases ieq (ix (ix h.Mons m mZ).Outer p sZ).Page (-1);{exact⟨zJM a _,zJM b _⟩};{exact⟨a,b⟩}
theorem hasM {h:Host}(H:HOk h){s:Slot}(b:SOk s)(a:s.Page≠-1):hasB s.Page (ln h.Memory)=true:=by have:=b.pos a;exact zI.2 ⟨this.1,by unfold ln;rw[H.m12];omega⟩
theorem z3n {h:Host}(H:HOk h){m p:Int}(b:hasB m (ln h.Mons)=true)(c:hasB p 8=true)(l:(ix (ix h.Mons m mZ).Outer p sZ).Page≠-1):Op h (zdx h m p):=by
 have X:=H.mon b;have f:(zdx h m p).Mons=up h.Mons m (zj5 {ix h.Mons m mZ with Out:=up (ix h.Mons m mZ).Out p (zcx h.Memory (ix (ix h.Mons m mZ).Outer p sZ).Page)} p noSlot):=zqF b rfl;have k:Chg (ix h.Mons m mZ) (zj5 {ix h.Mons m mZ with Out:=up (ix h.Mons m mZ).Out p (zcx h.Memory (ix (ix h.Mons m mZ).Outer p sZ).Page)} p noSlot) p noSlot (zcx h.Memory (ix (ix h.Mons m mZ).Outer p sZ).Page):=zFi rfl rfl rfl rfl rfl rfl rfl rfl rfl;have a:(zdx h m p).Memory=h.Memory:=zzu _ _ _ _;have g:=zwL (h:=zeL h m p) (m:=m) (p:=p) (s:=noSlot) H.b1 H.b2;refine⟨zyJ H b c f k (.inl rfl) ((zqV (.inl rfl)).2 ⟨fun _=>zUQ H.pgs _,fun h=>absurd rfl h⟩) (by rw[a];exact H.m12) (by rw[a];exact H.pgs) g.1 g.2 (fun h=>absurd h (by decide)),
  zxA H b c f k ?_ (fun i q _ _ _ _=>by rw[a]),fun R=>?_⟩
 {rw [zoT b c (X.hasO c),zb1.2 l];rfl};{have j:Rt (zeL h m p):=zPZ (x:={ix h.Mons m mZ with Out:=up (ix h.Mons m mZ).Out p (zcx h.Memory (ix (ix h.Mons m mZ).Outer p sZ).Page)}) R b rfl rfl rfl rfl (fun _ _=>rfl) rfl rfl;have d:hasB m (ln (zeL h m p).Mons)=true:=(by show hasB m (ln (up h.Mons m _))=true;rw[zdP];exact b);have e:ix (zeL h m p).Mons m mZ={ix h.Mons m mZ with Out:=up (ix h.Mons m mZ).Out p (zcx h.Memory (ix (ix h.Mons m mZ).Outer p sZ).Page)}:=zbi b _ _;exact zCq j d (by rw[e];exact X.hasO c) (by rw[e];exact X.gt) noSlot}
theorem zJT {o:List Slot}{q:Int}:zph o q=none↔o.countP (fun s=>ieq s.Page q)=0:=by unfold zph;rw[List.findIdx?_eq_none_iff,vA];simp
theorem z09 {o:List Slot}{q:Int}{k:Nat}(h:zph o q=some k):∃a:k<o.length,o[k].Page=q:=by unfold zph at h;rw[uY]at h;obtain⟨a,b,_⟩:=h;exact⟨a,zbv.1 b⟩
theorem zCj {q:Int}:∀(l:List Mon) (i:Nat),((zh6 q l i).1<0↔ze3 l q=0)/\(¬ (zh6 q l i).1<0->∃a b:Nat,∃f:a<l.length,∃g:b<l[a].Outer.length,zh6 q l i=(((i+a:Nat):Int),(b:Int))/\l[a].Outer[b].Page=q)
 |[],i=>⟨by simp[zh6,ze3],fun h=>absurd (show (-1:Int)<0 by decide) h⟩
 |x::l,i=>by have j:=zCj (q:=q) l (i+1);unfold zh6;split;{rename_i k c;obtain⟨m,n⟩:=z09 c;refine⟨⟨fun h=>by simp at h;omega,fun h=>?_⟩,fun _=>⟨0,k,by simp,m,by simp,n⟩⟩;exfalso;simp only[ze3,jD,uJ]at h;have d:x.Outer.countP (fun s=>ieq s.Page q)=0:=(by unfold cPg at h;omega);rw[zJT.2 d]at c;cases c};{rename_i c;have d:=zJT.1 c;refine⟨?_,fun h=>?_⟩;{rw [j.1];simp only[ze3,jD,uJ];unfold cPg;omega};{obtain⟨a,b,f,g,e,p⟩:=j.2 h;exact⟨a+1,b,by simpa using f,by simpa using g,by rw[e];simp;omega,by simpa using p⟩}}
theorem zMu {h:Host}{q:Int}(a:0<=q):(zbI h q).1<0↔ze3 h.Mons q=0:=by unfold zbI;rw[show ilt q 0=false from qH (by omega),cond_false];exact(zCj h.Mons 0).1
theorem zbaP {h:Host}(H:HOk h){q:Int}(j:0<=q)(c:¬ (zbI h q).1<0):hasB (zbI h q).1 (ln h.Mons)=true/\hasB (zbI h q).2 8=true/\(ix (ix h.Mons (zbI h q).1 mZ).Outer (zbI h q).2 sZ).Page=q:=by unfold zbI at c ⊢;rw[show ilt q 0=false from qH (by omega),cond_false]at c ⊢;obtain⟨a,b,d,f,e,g⟩:=(zCj h.Mons 0).2 c;rw[e,j6];have i:=(H.mons _ (jL d)).o8;exact⟨zI.2 (by unfold ln;simp;omega),zI.2 (by simp;omega),by rw[zng d,zng f];exact g⟩
theorem zYd {P:Nat->Bool}:∀{n i:Nat} {q:Int},q∈zy8 P n i↔∃k:Nat,q=(k:Int)/\i<=k/\k<i+n/\P k=true
 | 0,i,q=>by simp[zy8];intro k _ _ _;omega
 |n+1,i,q=>by
  have d:=@zYd P n (i+1) q;unfold zy8;constructor
  .intro h;cases c:P i with
   |true=>rw[c,cond_true,qG]at h;rcases h with h|h;{exact⟨i,h,by omega,by omega,c⟩};{obtain⟨k,a,f,g,b⟩:=d.1 h;exact⟨k,a,by omega,by omega,b⟩}
   |false=>rw[c,cond_false]at h;obtain⟨k,a,f,g,b⟩:=d.1 h;exact⟨k,a,by omega,by omega,b⟩
  {rintro⟨k,a,f,g,b⟩;by_cases e:k=i;{subst e;rw[b,cond_true,a];exact jC};{have:=d.2 ⟨k,a,by omega,by omega,b⟩;cases P i;{exact this};{exact qZ _ this}}}
theorem zLj {h:Host}{q:Int}:q∈zcl h↔hasB q (ln h.Memory)=true/\ze3 h.Mons q=0:=by unfold zcl;rw[zYd];constructor;{rintro⟨k,rfl,b,c,d⟩;exact⟨zI.2 (by unfold ln;omega),(zMu (by omega)).1 (qE d)⟩};{rintro⟨b,c⟩;have a:=zI.1 b;unfold ln at a;refine⟨q.toNat,by omega,by omega,by omega,?_⟩;rw[show ((q.toNat:Nat):Int)=q by omega];exact qJ ((zMu a.1).2 c)}
theorem z4N {h:Host}(a:zcl h≠[]):hasB (ix (zcl h) 0 0) (ln h.Memory)=true/\ze3 h.Mons (ix (zcl h) 0 0)=0:=by refine zLj.1 (zmm (zI.2 ⟨by omega,?_⟩) 0);unfold ln;have:=kR.2 a;omega
structure But (h r:Host) (m p:Int):Prop where
 ne:∀i k,hasB i (ln h.Mons)=true->hasB k 8=true->¬ (i=m/\k=p)->ix (ix r.Mons i mZ).Outer k sZ=ix (ix h.Mons i mZ).Outer k sZ
theorem zKU {h r:Host}{m p:Int}(a:hasB m (ln h.Mons)=true)(j:hasB p 8=true){x:Mon}{s:Slot}(b:r.Mons=up h.Mons m x)(g:x.Outer=up (ix h.Mons m mZ).Outer p s):But h r m p:=by refine⟨fun i k d f c=>?_⟩;rw[b];by_cases e:m=i;{subst e;rw[zbi a,g,zbw (zI.1 j).1 (zI.1 f).1 (fun e=>c ⟨rfl,e.symm⟩)]};{rw [zbw (zI.1 a).1 (zI.1 d).1 e]}
theorem z8T {h:Host}(H:HOk h){m p:Int}(a:hasB m (ln h.Mons)=true)(c:hasB p 8=true):But h (zdx h m p) m p/\ix (ix (zdx h m p).Mons m mZ).Outer p sZ=noSlot:=by have b:(zdx h m p).Mons=up h.Mons m (zj5 {ix h.Mons m mZ with Out:=up (ix h.Mons m mZ).Out p (zcx h.Memory (ix (ix h.Mons m mZ).Outer p sZ).Page)} p noSlot):=zqF a rfl;refine⟨zKU a c b rfl,?_⟩;rw[b,zbi a];exact zbi ((H.mon a).hasO c) _ _
structure Roomy (h r:Host):Prop where
 op:Op h r
 free:zcl r≠[]
 sl:∀i k,hasB i (ln h.Mons)=true->hasB k 8=true->ix (ix r.Mons i mZ).Outer k sZ=ix (ix h.Mons i mZ).Outer k sZ\/ix (ix r.Mons i mZ).Outer k sZ=noSlot
 dirt:∀i,(ix r.Mons i mZ).Dirty=(ix h.Mons i mZ).Dirty
theorem zQ3 {h r:Host}{m:Int}(c:hasB m (ln h.Mons)=true){x:Mon}(a:r.Mons=up h.Mons m x)(b:x.Dirty=(ix h.Mons m mZ).Dirty)(i:Int):(ix r.Mons i mZ).Dirty=(ix h.Mons i mZ).Dirty:=by
 rw[a];by_cases e:i.toNat=m.toNat
 {have:∀l:List Mon,ix l i mZ=ix l m mZ:=fun l=>(by unfold ix;rw[e]);rw[this,this,zbi c,b]};{unfold ix up;simp[List.getD,q9,Ne.symm e]}
theorem roomy {h:Host}(H:HOk h):Roomy h (zdb h):=by unfold zdb;by_cases b:zcl h=[];{rw [show ieq (ln (zcl h)) 0=true by rw[b];rfl,cond_true];have p:¬ (zbI h 0).1<0:=fun d=>(by have:(0:Int)∈zcl h:=zLj.2 ⟨zI.2 (by unfold ln;rw[H.m12];omega),(zMu (by omega)).1 d⟩;rw[b] at this;cases this);obtain⟨a,c,f⟩:=zbaP H (by omega) p;have k:=z3n H a c (by rw[f];decide);have j:=z8T H a c;refine⟨k,fun d=>?_,fun i q g r=>?_,fun i=>zQ3 (x:=zj5 {ix h.Mons (zbI h 0).1 mZ with Out:=up (ix h.Mons (zbI h 0).1 mZ).Out (zbI h 0).2 (zcx h.Memory (ix (ix h.Mons (zbI h 0).1 mZ).Outer (zbI h 0).2 sZ).Page)} (zbI h 0).2 noSlot) a (zqF a rfl) rfl i⟩;{have:(0:Int)∈zcl (zdx h (zbI h 0).1 (zbI h 0).2):=(by refine zLj.2 ⟨zI.2 (by unfold ln;rw[k.ok.m12];omega),?_⟩;have n:(zdx h (zbI h 0).1 (zbI h 0).2).Mons=up h.Mons (zbI h 0).1 (zj5 {ix h.Mons (zbI h 0).1 mZ with Out:=up (ix h.Mons (zbI h 0).1 mZ).Out (zbI h 0).2 (zcx h.Memory (ix (ix h.Mons (zbI h 0).1 mZ).Outer (zbI h 0).2 sZ).Page)} (zbI h 0).2 noSlot):=zqF a rfl;have l:=zBc a (zj5 {ix h.Mons (zbI h 0).1 mZ with Out:=up (ix h.Mons (zbI h 0).1 mZ).Out (zbI h 0).2 (zcx h.Memory (ix (ix h.Mons (zbI h 0).1 mZ).Outer (zbI h 0).2 sZ).Page)} (zbI h 0).2 noSlot) 0;rw[<- n] at l;have m:=zXt (x':=zj5 {ix h.Mons (zbI h 0).1 mZ with Out:=up (ix h.Mons (zbI h 0).1 mZ).Out (zbI h 0).2 (zcx h.Memory (ix (ix h.Mons (zbI h 0).1 mZ).Outer (zbI h 0).2 sZ).Page)} (zbI h 0).2 noSlot) ((H.mon a).hasO c) (s:=noSlot) rfl 0;rw[if_pos f,if_neg (by decide)] at m;have t:=H.uq 0 (by omega);omega);rw[d] at this;cases this};{by_cases e:i=(zbI h 0).1/\q=(zbI h 0).2;{rw [e.1,e.2];exact .inr j.2};{exact .inl (j.1.ne i q g r e)}}};{have:ieq (ln (zcl h)) 0=false:=zb1.2 (by unfold ln;have:=kR.2 b;omega);rw[this,cond_false];exact⟨Op.refl H,b,fun i k g u=>.inl rfl,fun _=>rfl⟩}
theorem z2B {m:List (List Int)}{p:Int}{c:List Int}(b:hasB p (ln m)=true)(a:zcr c=true):zhy m p c=up m p c:=by unfold zhy;rw[b,a];rfl
theorem zF9 {m:List (List Int)}{p q:Int}{c:List Int}(a:0<=p)(h:q≠p):zcx (up m p c) q=zcx m q:=by unfold zcx;rw[zdP];cases b:hasB q (ln m) with|false=>rfl|true=>rw[cond_true,cond_true,zbw a (zI.1 b).1 (Ne.symm h)]
theorem zF8 {m:List (List Int)}{p:Int}{c:List Int}(a:hasB p (ln m)=true):zcx (up m p c) p=c:=by rw[zlF (by rw[zdP];exact a),zbi a]
theorem z5t {h:Host}(H:HOk h){m p a:Int}(d:hasB m (ln h.Mons)=true)(f:hasB p 8=true)(z:(ix (ix h.Mons m mZ).Outer p sZ).Page = -1)(u:hasB a (ln h.Memory)=true)(B:ze3 h.Mons a=0) :
 Op h (zeS h m p a)/\But h (zeS h m p a) m p/\ix (ix (zeS h m p a).Mons m mZ).Outer p sZ=⟨a,3⟩/\∀i,(ix (zeS h m p a).Mons i mZ).Dirty=(ix h.Mons i mZ).Dirty:=by
 have X:=H.mon d;have g:=zI.1 u;unfold ln at g;rw[H.m12]at g;have l:(zeS h m p a).Mons=up h.Mons m (zj5 {ix h.Mons m mZ with Out:=up (ix h.Mons m mZ).Out p []} p ⟨a,3⟩):=zqF d rfl;have k:Chg (ix h.Mons m mZ) (zj5 {ix h.Mons m mZ with Out:=up (ix h.Mons m mZ).Out p []} p ⟨a,3⟩) p ⟨a,3⟩ []:=zFi rfl rfl rfl rfl rfl rfl rfl rfl rfl;have j:=((zqV (X.slot f)).1 (X.fit p f)).1 z;have b:(zeS h m p a).Memory=up h.Memory a (ix (ix h.Mons m mZ).Out p []):=by show (zcs (landing h m p a) m p ⟨a,3⟩).Memory=_;rw[zzu];exact z2B u j
 have A:SOk ⟨a,3⟩:=.inr ⟨g.1,by show a<=11;omega,by show (1:Int)<=3;omega,by show (3:Int)<=3;omega⟩
 have w:=zwL (h:=landing h m p a) (m:=m) (p:=p) (s:=⟨a,3⟩) H.b1 H.b2;refine⟨⟨zyJ H d f l k A ((zqV A).2 ⟨fun h=>absurd h (by show a≠-1;omega),fun _=>⟨show enough 3 1=true by decide,rfl⟩⟩) (by rw[b,zbR];exact H.m12) (fun c r=>?_) w.1 w.2 (fun _=>.inr B),
  zxA H d f l k ?_ (fun i q y D r C=>?_),fun R=>?_⟩,zKU d f l rfl,?_,fun i=>zQ3 (x:=zj5 {ix h.Mons m mZ with Out:=up (ix h.Mons m mZ).Out p []} p ⟨a,3⟩) d l rfl i⟩
 .rw [b]at r;rcases qY r with n|n
  .exact H.pgs c n
  .rw [n];exact j
 .rw [zoT d f (X.hasO f),zbv.2 z,cond_true,zlF (X.hasU f)];rw[show ieq (⟨a,3⟩:Slot).Page (-1)=false from zb1.2 (by show a≠-1;omega),cond_false,b]
  exact zF8 u
 .rw [b];refine zF9 g.1 (fun e=>?_);have:=zKV y ((H.mon y).hasO D);rw[e] at this;omega
 .have R1:Rt (landing h m p a):=zPZ (x:={ix h.Mons m mZ with Out:=up (ix h.Mons m mZ).Out p []}) R d rfl rfl rfl rfl (fun _ _=>rfl) rfl rfl;have t:hasB m (ln (landing h m p a).Mons)=true:=by show hasB m (ln (up h.Mons m _))=true;rw[zdP];exact d
  have v:ix (landing h m p a).Mons m mZ={ix h.Mons m mZ with Out:=up (ix h.Mons m mZ).Out p []}:=zbi d _ _;exact zCq R1 t (by rw[v];exact X.hasO f) (by rw[v];exact X.gt) _
 .rw [l,zbi d];exact zbi (X.hasO f) _ _
theorem zPN {h:Host}(H:HOk h){m p:Int}(f:hasB m (ln h.Mons)=true)(g:hasB p 8=true)(k:(ix (ix h.Mons m mZ).Outer p sZ).Page = -1) :
 Op h (fetched h m p)/\(∃e,0<=e/\e<=11/\ix (ix (fetched h m p).Mons m mZ).Outer p sZ=⟨e,3⟩)/\∀i,(ix (fetched h m p).Mons i mZ).Dirty=(ix h.Mons i mZ).Dirty:=by
 have R:=roomy H;have c:hasB m (ln (zdb h).Mons)=true:=by rw[R.op.like.has];exact f
 have d:(ix (ix (zdb h).Mons m mZ).Outer p sZ).Page = -1:=by rcases R.sl m p f g with b|b<;>rw [b];{exact k};{rfl}
 obtain⟨b,j⟩:=z4N R.free;obtain⟨l,r,n,q⟩:=z5t R.op.ok c g d b j;have a:=zI.1 b;unfold ln at a;rw[R.op.ok.m12]at a;exact⟨R.op.trans l,⟨_,a.1,by omega,n⟩,fun i=>(q i).trans (R.dirt i)⟩
theorem zo0 {o:List Slot}{p:Int}(h:hasB p (ln o)=true):zbs o p=ix o p sZ:=by unfold zbs;rw[h];rfl
theorem zlG {h:Host}(H:HOk h){m p:Int}(a:hasB m (ln h.Mons)=true)(b:hasB p 8=true) :
 (cond (ieq (ix (ix h.Mons m mZ).Outer p sZ).Page (-1)) (ix (ix h.Mons m mZ).Out p []) (zcx h.Memory (ix (ix h.Mons m mZ).Outer p sZ).Page))=zcq h m p:=by
 rw[zoT a b ((H.mon a).hasO b),zlF ((H.mon a).hasU b)]
structure Mark (x y:Mon):Prop where
 o:y.Outer=x.Outer
 u:y.Out=x.Out
 g:y.Guests=x.Guests
 t:y.Tables=x.Tables
 d:y.Dirty.length=x.Dirty.length
 a1:y.Outs=x.Outs
 a2:y.Pending=x.Pending
 a3:y.Traps=x.Traps
 a4:y.Own=x.Own
theorem z3m {h:Host}(H:HOk h){m:Int}(b:hasB m (ln h.Mons)=true){y:Mon}(k:Mark (ix h.Mons m mZ) y):Op h {h with Mons:=up h.Mons m y}/\∀i q,ix (ix (up h.Mons m y) i mZ).Outer q sZ=ix (ix h.Mons i mZ).Outer q sZ:=by
 have X:=H.mon b;have a:hasB 0 8=true:=(by decide);have c:Chg (ix h.Mons m mZ) y 0 (ix (ix h.Mons m mZ).Outer 0 sZ) (ix (ix h.Mons m mZ).Out 0 []):=⟨by rw[zM2 (X.hasO a),k.o],by rw[zM2 (X.hasU a),k.u],k.g,by rw[k.t],k.d,k.a1,k.a2,k.a3,k.a4⟩
 refine⟨⟨zyJ H b a rfl c (X.slot a) (X.fit 0 a) H.m12 H.pgs H.b1 H.b2 (fun _=>.inl rfl),zxA H b a rfl c (zlG H b a) (fun _ _ _ _ _ _=>rfl),
  fun R=>zPZ R b rfl rfl rfl (by rw[k.g]) (fun g _=>by rw[k.g]) k.t k.o⟩,fun i q=>?_⟩
 by_cases e:i.toNat=m.toNat
 {have:∀l:List Mon,ix l i mZ=ix l m mZ:=fun l=>(by unfold ix;rw[e]);rw[this,this,zbi b,k.o]};{have:ix (up h.Mons m y) i mZ=ix h.Mons i mZ:=(by unfold ix up;simp[List.getD,q9,Ne.symm e]);rw[this]}
theorem zPM {h:Host}(H:HOk h){m:Int}(a:hasB m (ln h.Mons)=true)(p:Int):Op h (zbC h m p)/\∀i q,ix (ix (zbC h m p).Mons i mZ).Outer q sZ=ix (ix h.Mons i mZ).Outer q sZ :=
 z3m H a ⟨rfl,rfl,rfl,rfl,zbR _ _ _,rfl,rfl,rfl,rfl⟩
theorem z8r {h:Host}(H:HOk h){m:Int}(a:hasB m (ln h.Mons)=true)(p:Int):Op h (zrH h m p)/\∀i q,ix (ix (zrH h m p).Mons i mZ).Outer q sZ=ix (ix h.Mons i mZ).Outer q sZ :=
 z3m H a ⟨rfl,rfl,rfl,rfl,zbR _ _ _,rfl,rfl,rfl,rfl⟩
theorem rights {r:Int}(a:1<=r)(b:r<=3):r=1\/r=2\/r=3:=by omega
theorem MOk.enough1 {x:Mon}(X:MOk x){p:Int}(a:hasB p 8=true)(d:(ix x.Outer p sZ).Page≠-1):(ix x.Outer p sZ).Rights=1\/(ix x.Outer p sZ).Rights=3:=by have b:=(((zqV (X.slot a)).1 (X.fit p a)).2 d).1;have c:=(X.slot a).pos d;rcases rights c.2.2.1 c.2.2.2 with e|e|e;{exact .inl e};{rw [e]at b;exact absurd b (by decide)};{exact .inr e}
theorem zUN {h:Host}(H:HOk h){m p:Int}(c:hasB m (ln h.Mons)=true)(b:hasB p 8=true)(g:(ix (ix h.Mons m mZ).Outer p sZ).Page≠-1){r:Int}(n:r=1\/r=3) :
 Op h (zcs h m p ⟨(ix (ix h.Mons m mZ).Outer p sZ).Page,r⟩)/\But h (zcs h m p ⟨(ix (ix h.Mons m mZ).Outer p sZ).Page,r⟩) m p/\
  ix (ix (zcs h m p ⟨(ix (ix h.Mons m mZ).Outer p sZ).Page,r⟩).Mons m mZ).Outer p sZ=⟨(ix (ix h.Mons m mZ).Outer p sZ).Page,r⟩/\∀i,(ix (zcs h m p ⟨(ix (ix h.Mons m mZ).Outer p sZ).Page,r⟩).Mons i mZ).Dirty=(ix h.Mons i mZ).Dirty:=by
 have X:=H.mon c;have d:=(X.slot b).pos g;have e:=zuf h m p ⟨(ix (ix h.Mons m mZ).Outer p sZ).Page,r⟩;have k:Chg (ix h.Mons m mZ) (zj5 (ix h.Mons m mZ) p ⟨(ix (ix h.Mons m mZ).Outer p sZ).Page,r⟩) p ⟨(ix (ix h.Mons m mZ).Outer p sZ).Page,r⟩ (ix (ix h.Mons m mZ).Out p []):=
  zFi rfl (zM2 (X.hasU b) _).symm rfl rfl rfl rfl rfl rfl rfl
 have l:SOk ⟨(ix (ix h.Mons m mZ).Outer p sZ).Page,r⟩:=.inr ⟨d.1,d.2.1,by show 1<=r;omega,by show r<=3;omega⟩
 have f:=((zqV (X.slot b)).1 (X.fit p b)).2 g;have j:=zwL (h:=h) (m:=m) (p:=p) (s:=⟨(ix (ix h.Mons m mZ).Outer p sZ).Page,r⟩) H.b1 H.b2;have a:=zzu h m p ⟨(ix (ix h.Mons m mZ).Outer p sZ).Page,r⟩;refine⟨⟨zyJ H c b e k l ((zqV l).2 ⟨fun h=>absurd h g,fun _=>⟨?_,f.2⟩⟩) (by rw[a];exact H.m12) (by rw[a];exact H.pgs) j.1 j.2 (fun _=>.inl rfl),
  zxA H c b e k (by rw[a];exact zlG H c b) (fun i q _ _ _ _=>by rw[a]),fun R=>zCq R c (X.hasO b) X.gt _⟩,zKU c b e rfl,?_,fun i=>zQ3 c e rfl i⟩
 .show enough r 1=true
  rcases n with rfl|rfl<;>decide
 .rw [e,zbi c];exact zbi (X.hasO b) _ _
structure Mended (h r:Host) (m p n:Int):Prop where
 op:Op h r
 inn:(ix (ix r.Mons m mZ).Outer p sZ).Page≠-1
 ri:ieq (wand .i64 n 2) 0=false->(ix (ix r.Mons m mZ).Outer p sZ).Rights=3
 dt:ieq (wand .i64 n 2) 0=false->ix (ix r.Mons m mZ).Dirty p false=true
 d0:ieq (wand .i64 n 2) 0=true->(ix r.Mons m mZ).Dirty=(ix h.Mons m mZ).Dirty
 dk:∀k,hasB k 8=true->k≠p->ix (ix r.Mons m mZ).Dirty k false=ix (ix h.Mons m mZ).Dirty k false
 dm:∀i,hasB i (ln h.Mons)=true->i≠m->(ix r.Mons i mZ).Dirty=(ix h.Mons i mZ).Dirty
theorem zZl {h:Host}(H:HOk h){m p:Int}(n:Int)(c:hasB m (ln h.Mons)=true)(g:hasB p 8=true)(v:(ix (ix h.Mons m mZ).Outer p sZ).Page≠-1):Mended h (zjI h m p n) m p n:=by
 unfold zjI;cases s:ieq (wand .i64 n 2) 0 with
 |true=>exact⟨Op.refl H,v,fun e=>(Bool.noConfusion (s.symm.trans e)),fun e=>(Bool.noConfusion (s.symm.trans e)),fun _=>rfl,fun _ _ _=>rfl,fun _ _ _=>rfl⟩
 |false=>rw[cond_false];obtain⟨f,C⟩:=zPM H c p;have d:hasB m (ln (zbC h m p).Mons)=true:=(by rw[f.like.has];exact c);have a:(ix (ix (zbC h m p).Mons m mZ).Outer p sZ).Page≠-1:=(by rw[C];exact v);have u:(ix (zbC h m p).Mons m mZ).Dirty=up (ix h.Mons m mZ).Dirty p true:=(by show (ix (up h.Mons m _) m mZ).Dirty=_;rw[zbi c]);have l:∀i,hasB i (ln h.Mons)=true->i≠m->(ix (zbC h m p).Mons i mZ).Dirty=(ix h.Mons i mZ).Dirty:=fun i q b=>(by show (ix (up h.Mons m _) i mZ).Dirty=_;rw[zbw (zI.1 c).1 (zI.1 q).1 (Ne.symm b)]);have A:=(f.ok.mon d).enough1 g a;have t:∀r:Host,(∀i,(ix r.Mons i mZ).Dirty=(ix (zbC h m p).Mons i mZ).Dirty)->Op (zbC h m p) r->(ix (ix r.Mons m mZ).Outer p sZ).Page≠-1->(ix (ix r.Mons m mZ).Outer p sZ).Rights=3->Mended h r m p n:=(by intro r j x y z;refine⟨f.trans x,y,fun _=>z,fun _=>?_,fun e=>(Bool.noConfusion (s.symm.trans e)),fun k B b=>?_,fun i q b=>by rw[j,l i q b]⟩;{rw [j,u,zbi ((H.mon c).hasD g)]};{rw [j,u,zbw (zI.1 g).1 (zI.1 B).1 (Ne.symm b)]});unfold opened;rcases A with e|e;{rw [e,show ieq (wand .i64 1 2) 0=true by decide,cond_true];obtain⟨D,F,w,E⟩:=zUN f.ok d g a (r:=3) (.inr rfl);exact t _ E D (by rw[w];exact a) (by rw[w])};{rw [e,show ieq (wand .i64 3 2) 0=false by decide,cond_false];exact t _ (fun _=>rfl) (Op.refl f.ok) a e}
theorem zUM {h:Host}(H:HOk h){m p:Int}(n:Int)(c:hasB m (ln h.Mons)=true)(d:hasB p 8=true):Mended h (mended h m p n) m p n:=by unfold mended;by_cases e:(ix (ix h.Mons m mZ).Outer p sZ).Page = -1;{rw [zbv.2 e,cond_true];obtain⟨a,⟨q,r,s,l⟩,f⟩:=zPN H c d e;have K:=zZl a.ok n (by rw[a.like.has];exact c) d (by rw[l];show q≠-1;omega);exact⟨a.trans K.op,K.inn,K.ri,K.dt,fun e=>by rw[K.d0 e,f],fun k j b=>by rw[K.dk k j b,f],fun i g b=>by rw[K.dm i (by rw[a.like.has];exact g) b,f]⟩};{rw [zb1.2 e,cond_false];exact zZl H n c d e}
theorem zpI {h:Host}{m p:Int}:zcE h m p=true↔HOk h/\hasB m (ln h.Mons)=true/\hasB p 8=true:=by unfold zcE;rw[zcf,zcf,zkA]
theorem z5u {h:Host}(H:HOk h)(m p:Int):Op h (zq7 h m p):=by unfold zq7;cases a:zcE h m p with|false=>exact Op.refl H|true=>obtain⟨_,b,c⟩:=zpI.1 a;rw[cond_true];unfold zk2;by_cases e:(ix (ix h.Mons m mZ).Outer p sZ).Page = -1;{rw [zbv.2 e];exact Op.refl H};{rw [zb1.2 e];exact z3n H b c e}
theorem z8q {h:Host}(H:HOk h)(m p:Int):Op h (zv3 h m p):=by unfold zv3;cases a:zcE h m p with|false=>exact Op.refl H|true=>obtain⟨_,b,c⟩:=zpI.1 a;rw[cond_true];unfold zk2;by_cases e:(ix (ix h.Mons m mZ).Outer p sZ).Page = -1;{rw [zbv.2 e];exact(zPN H b c e).1};{rw [zb1.2 e];exact Op.refl H}
theorem z8p {h:Host}(H:HOk h)(m p:Int):Op h (zvB h m p):=by unfold zvB;cases g:zcE h m p with|false=>exact Op.refl H|true=>obtain⟨_,b,c⟩:=zpI.1 g;rw[cond_true];obtain⟨a,d⟩:=z8r H b p;(cases e:zc1 (ix (ix h.Mons m zi).Outer p zV) noSlot with|true=>exact a|false=>rw[cond_false];have i:(ix (ix h.Mons m mZ).Outer p sZ).Page≠-1:=fun f=>ztn.1 e (((H.mon b).slot c).none f);have:=zUN a.ok (m:=m) (p:=p) (by rw[a.like.has];exact b) c (by rw[d];exact i) (r:=1) (.inl rfl);rw[d m p] at this;exact a.trans this.1)
structure KeepP (x y:Mon):Prop where
 o:y.Outer=x.Outer
 u:y.Out=x.Out
theorem zPT {h r:Host}{m:Int}(b:hasB m (ln h.Mons)=true){y:Mon}(c:r.Mons=up h.Mons m y)(a:r.Memory=h.Memory)(k:KeepP (ix h.Mons m mZ) y)(i q:Int):zcq r i q=zcq h i q:=by unfold zcq;rw[c,zdP,a];cases d:hasB i (ln h.Mons) with|false=>rfl|true=>by_cases e:m=i;{subst e;rw[zbi b,k.o,k.u]};{rw [zbw (zI.1 b).1 (zI.1 d).1 e]}
theorem zwH {h r:Host}{m:Int}(b:hasB m (ln h.Mons)=true){y:Mon}(c:r.Mons=up h.Mons m y)(a:r.Memory=h.Memory)(k:KeepP (ix h.Mons m mZ) y)(i:Int) :
 zD r i=bif ieq i m then ⟨(zD h i).Memory,y.Guests,y.Outs,y.Pending⟩ else zD h i:=by
 have f:zcB r i 8 0=zcB h i 8 0:=zr5 8 0 (fun j _ _=>zPT b c a k i j);unfold zD;rw[f,c,zdP]
 by_cases e:i=m
 .subst e;rw[b,zbv.2 rfl,zbi b];rfl
 .rw [zb1.2 e,cond_false];cases d:hasB i (ln h.Mons) with
  |false=>rfl
  |true=>rw[zbw (zI.1 b).1 (zI.1 d).1 (Ne.symm e)]
theorem zlB {x y:Mon}(X:MOk x)(k:KeepP x y)(g:y.Guests.length=x.Guests.length)(t:y.Tables.length=x.Tables.length)(d:y.Dirty.length=x.Dirty.length)(o:y.Outs.length<=40)(p:zc7 y.Pending=true)(tr:win y.Traps 0 3=true)(b:win y.Own 0 1000000000=true)(a:∀g∈y.Guests,zc9 g=true):MOk y :=
 ⟨by rw[g];exact X.g1,by rw[g];exact X.g2,by rw[t,g];exact X.gt,by rw[k.o];exact X.o8,by rw[k.o];exact X.sl,by rw[k.u];exact X.u8,by rw[d];exact X.d8,o,p,tr,b,a,by rw[k.o,k.u];exact X.fit⟩
theorem zX3 {h:Host}(H:HOk h){m:Int}(a:hasB m (ln h.Mons)=true){y:Mon}(k:KeepP (ix h.Mons m mZ) y)(b:MOk y):HOk {h with Mons:=up h.Mons m y} :=
 H.up a b rfl H.m12 H.pgs H.b1 H.b2 fun q _=>.inl (by unfold cPg;rw[k.o];exact qW _)
theorem zyF {h:Host}(S:Safe h){m:Int}(a:hasB m (ln h.Mons)=true){y:Mon}(k:KeepP (ix h.Mons m mZ) y)(d:MOk y)(hg:y.Guests.length=(ix h.Mons m mZ).Guests.length)(c:∀g,hasB g (ln (ix h.Mons m mZ).Guests)=true->(ix y.Guests g gZ).Live=(ix (ix h.Mons m mZ).Guests g gZ).Live)(b:y.Tables=(ix h.Mons m mZ).Tables):Safe {h with Mons:=up h.Mons m y} :=
 ⟨zX3 S.ok a k d,zPZ S.rt a rfl rfl rfl hg c b k.o⟩
theorem zWD {h:Host}(S:Safe h)(m t:Int):Safe (zj4 h m t)/\∀i,zD (zj4 h m t) i=zD h i:=by
 unfold zj4;rw[zkA.2 S.ok,cond_true];cases a:hasB m (ln h.Mons) with
 |false=>exact⟨S,fun _=>rfl⟩
 |true=>
  cases b:win t 0 3 with
  |false=>exact⟨S,fun _=>rfl⟩
  |true=>have X:=S.ok.mon a;have k:KeepP (ix h.Mons m mZ) {ix h.Mons m mZ with Traps:=t}:=⟨rfl,rfl⟩;refine⟨zyF S a k (zlB X k rfl rfl rfl X.outs X.pend b X.own X.gs) rfl (fun _ _=>rfl) rfl,fun i=>?_⟩;rw[cond_true,cond_true];refine(zwH (h:=h) (r:={h with Mons:=up h.Mons m {ix h.Mons m mZ with Traps:=t}}) a rfl rfl k i).trans ?_;by_cases e:i=m;{subst e;rw[zbv.2 rfl,cond_true];unfold zD;rw[a];rfl};{rw [zb1.2 e];rfl}
theorem zJW:∀(n i:Nat) (k:Kept),(ziL n i k).Known.length=k.Known.length/\(ziL n i k).Slots.length=k.Slots.length
 | 0,i,k=>⟨rfl,rfl⟩
 |n+1,i,k=>by have a:=zJW n (i+1) (zbY k (i:Int));have b:=zlq k (i:Int);exact⟨a.1.trans b.1,a.2.trans b.2⟩
theorem zOi:∀(n i:Nat) (k:Kept),k.Known.length=k.Slots.length->∀j,hasB j (ln k.Known)=true->
 ((i:Int)<=j/\j<((i+n:Nat):Int)->ix (ziL n i k).Known j false=false/\ix (ziL n i k).Slots j sZ=noSlot)/\
 (¬ ((i:Int)<=j/\j<((i+n:Nat):Int))->ix (ziL n i k).Known j false=ix k.Known j false/\ix (ziL n i k).Slots j sZ=ix k.Slots j sZ)
 | 0,i,k,_,j,_=>⟨fun h=>by omega,fun _=>⟨rfl,rfl⟩⟩
 |n+1,i,k,g,j,f=>by have b:=zlq k (i:Int);have d:=zy4 (q:=(i:Int)) g f;have c:=zOi n (i+1) (zbY k (i:Int)) (by rw[b.1,b.2,g]) j (by unfold ln at f ⊢;rwa [b.1]);rw[ziL];by_cases a:((i+1:Nat):Int)<=j/\j<((i+1+n:Nat):Int);{exact⟨fun _=>c.1 a,fun h=>absurd (by omega) h⟩};{rw [(c.2 a).1,(c.2 a).2,d.1,d.2];by_cases e:(i:Int)=j;{rw [zbv.2 e];exact⟨fun _=>⟨rfl,rfl⟩,fun h=>absurd (by omega) h⟩};{rw [zb1.2 e];exact⟨fun h=>absurd (by omega) a,fun _=>⟨rfl,rfl⟩⟩}}
theorem zVI {k:Kept}{a b:List Slot}(h:KOk k a b):KOk (zjx k) a b:=by have e:=zJW k.Known.length 0 k;refine⟨e.1.trans h.l1,e.2.trans h.l2,fun i f=>?_⟩;have c:hasB i (ln k.Known)=true:=(by unfold ln at f ⊢;rwa [h.l1]);have d:=zI.1 c;unfold ln at d;have:=(zOi k.Known.length 0 k (by rw[h.l1,h.l2]) i c).1 ⟨by omega,by omega⟩;unfold zjx;rw[this.1,this.2];rfl
theorem zN6:∀(n j:Nat) (l:List Kept),(zw4 n j l).length=l.length
 | 0,_,_=>rfl
 |n+1,j,l=>by rw[zw4,zN6 n,zbR]
theorem zXx:∀(n j:Nat) (l:List Kept),j+n<=l.length->∀g,0<=g->ix (zw4 n j l) g kZ=if (j:Int)<=g/\g<((j+n:Nat):Int) then zjx (ix l g kZ) else ix l g kZ
 | 0,j,l,_,g,hg=>by rw[if_neg (by omega)];rfl
 |n+1,j,l,a,g,hg=>by rw[zw4,zXx n (j+1) _ (by rw[zbR];omega) g hg];by_cases e:(j:Int)=g;{subst e;rw[if_neg (by omega),if_pos (by omega),zbi (zI.2 ⟨by omega,by unfold ln;omega⟩)]};{rw [zbw (by omega) hg e];by_cases h:((j+1:Nat):Int)<=g/\g<((j+1+n:Nat):Int);{rw [if_pos h,if_pos (by omega)]};{rw [if_neg h,if_neg (by omega)]}}
theorem zN5:∀(n i:Nat) (l:List Mon),(zpc n i l).length=l.length
 | 0,_,_=>rfl
 |n+1,i,l=>by rw[zpc,zN5 n,zbR]
theorem zUg:∀(n i:Nat) (l:List Mon),i+n<=l.length->∀m,0<=m->ix (zpc n i l) m mZ=if (i:Int)<=m/\m<((i+n:Nat):Int) then zw5 (ix l m mZ) (ix l m mZ).Tables.length 0 else ix l m mZ
 | 0,i,l,_,m,a=>by rw[if_neg (by omega)];rfl
 |n+1,i,l,b,m,a=>by rw[zpc,zUg n (i+1) _ (by rw[zbR];omega) m a];by_cases e:(i:Int)=m;{subst e;rw[if_neg (by omega),if_pos (by omega),zbi (zI.2 ⟨by omega,by unfold ln;omega⟩)]};{rw [zbw (by omega) a e];by_cases h:((i+1:Nat):Int)<=m/\m<((i+1+n:Nat):Int);{rw [if_pos h,if_pos (by omega)]};{rw [if_neg h,if_neg (by omega)]}}
theorem z9G (h:Host){m:Int}(a:hasB m (ln h.Mons)=true):ix (cold h).Mons m mZ=zw5 (ix h.Mons m mZ) (ix h.Mons m mZ).Tables.length 0:=by have:=zI.1 a;unfold ln at this;show ix (zpc h.Mons.length 0 h.Mons) m mZ=_;rw[zUg _ _ _ (by omega) m this.1,if_pos (by omega)]
theorem zzS (h:Host):(cold h).Mons.length=h.Mons.length:=zN5 _ _ _
theorem zKX (h:Host)(m:Int):hasB m (ln (cold h).Mons)=hasB m (ln h.Mons):=by unfold ln;rw[zzS]
theorem zbdq {l a:List Mon}(d:a.length=l.length)(h:∀m,hasB m (ln l)=true->(ix a m mZ).Outer=(ix l m mZ).Outer)(q:Int):ze3 a q=ze3 l q:=by have:a.map (fun x=>cPg x q)=l.map (fun x=>cPg x q):=(by refine List.ext_getElem (by simp[d]) fun k b c=>?_;simp only[uM]at b c;have:=h (k:Int) (zI.2 ⟨by omega,by unfold ln;omega⟩);rw[zng b,zng c] at this;simp[cPg,this]);unfold ze3;rw[this]
theorem zbej {h:Host}(H:HOk h):Op h (cold h):=by have c:∀m,hasB m (ln h.Mons)=true->ix (cold h).Mons m mZ=zw5 (ix h.Mons m mZ) (ix h.Mons m mZ).Tables.length 0:=fun m a=>z9G h a;have n:∀i q,zcq (cold h) i q=zcq h i q:=(by intro i q;unfold zcq;rw[zKX];cases b:hasB i (ln h.Mons) with|false=>rfl|true=>rw[c i b];rfl);refine⟨⟨H.m12,H.pgs,by rw[zzS];exact H.n1,by rw[zzS];exact H.n3,rfl,rfl,fun y s=>?_,fun q r=>?_⟩,⟨zzS h,fun i b=>by rw[c i b];rfl,fun i b=>by rw[c i b];rfl,fun i b=>by rw[c i b];rfl,fun i b=>by rw[c i b];rfl,fun i b=>by rw[c i b];rfl,fun i k _ _=>n i k⟩,fun R=>⟨fun m a=>?_,fun e j=>(by cases j),fun e j=>(by cases j)⟩⟩;{obtain⟨m,a,rfl⟩:=zF5 s mZ;rw[zKX]at a;rw[c m a];have X:=H.mon a;have k:KeepP (ix h.Mons m mZ) (zw5 (ix h.Mons m mZ) (ix h.Mons m mZ).Tables.length 0):=⟨rfl,rfl⟩;exact zlB X k rfl (zN6 _ _ _) rfl X.outs X.pend X.tr X.own X.gs};{rw [zbdq (l:=h.Mons) (zzS h) (fun m a=>by rw[c m a];rfl)];exact H.uq q r};{rw [zKX]at a;rw[c m a];have X:=H.mon a;intro g hg;show KOk (ix (zw4 (ix h.Mons m mZ).Tables.length 0 (ix h.Mons m mZ).Tables) g kZ) (ix (ix h.Mons m mZ).Guests g gZ).Live (ix h.Mons m mZ).Outer;have d:hasB g (ln (ix h.Mons m mZ).Guests)=true:=hg;have f:=zI.1 d;unfold ln at f;have p:=X.gt;rw[zXx _ _ _ (by omega) g f.1,if_pos (by omega)];exact zVI (R.t m a g d)}
theorem z0h {m g:Int}(c:win m 0 2=true)(hg:win g 0 1=true):zdA (zdN m g)=m/\zei (zdN m g)=g/\1<=zdN m g/\zdN m g<=6:=by have d:=zcN.1 c;have e:=zcN.1 hg;have a:m=0\/m=1\/m=2:=(by omega);have b:g=0\/g=1:=(by omega);rcases a with rfl|rfl|rfl<;>rcases b with rfl|rfl<;>decide
theorem HOk.tag {h:Host}(H:HOk h){m g:Int}(a:hasB m (ln h.Mons)=true)(hg:hasB g (ln (ix h.Mons m mZ).Guests)=true):win m 0 2=true/\win g 0 1=true:=by have b:=zI.1 a;have c:=zI.1 hg;have d:=H.n3;have e:=(H.mon a).g2;unfold ln at b c;exact⟨zcN.2 (by omega),zcN.2 (by omega)⟩
theorem zgj {r:Int}:zcP r=true↔r=0\/r=1\/r=2\/r=3:=by unfold zcP ige ile;rw[qD,qX,qX];omega
theorem zsO {a b:Int}(h:enough a b=true):zcP a=true/\zcP b=true:=by unfold enough at h;rw[zcf,zcf]at h;exact⟨h.1,h.2.1⟩
theorem zXS {a b c:Int}(d:enough a b=true)(e:enough b c=true):enough a c=true:=by have f:=zgj.1 (zsO d).1;have g:=zgj.1 (zsO d).2;have h:=zgj.1 (zsO e).2;rcases f with rfl|rfl|rfl|rfl<;>rcases g with rfl|rfl|rfl|rfl<;>rcases h with rfl|rfl|rfl|rfl<;>revert d e<;>decide
theorem z00 {a b n:Int}(g:n=1\/n=2)(c:enough a n=true)(d:enough b n=true):zdm a b≠0/\enough (zdm a b) n=true:=by have e:=zgj.1 (zsO c).1;have f:=zgj.1 (zsO d).1;rcases g with rfl|rfl<;>rcases e with rfl|rfl|rfl|rfl<;>rcases f with rfl|rfl|rfl|rfl<;>revert c d<;>decide
theorem both_ok (a b:Int):zcP (zdm a b)=true:=by
 unfold zdm;cases c:zcP a with
 |false=>rfl
 |true=>
  cases d:zcP b with
  |false=>rfl
  |true=>have c:=zgj.1 c;have d:=zgj.1 d;rcases c with rfl|rfl|rfl|rfl<;>rcases d with rfl|rfl|rfl|rfl<;>decide
theorem z07 {a:Int}(h:zcP a=true):enough a a=true:=by rcases zgj.1 h with rfl|rfl|rfl|rfl<;>decide
theorem zrR {n:Int}(a:n=1\/n=2):enough 0 n=false:=by rcases a with rfl|rfl<;>decide
theorem z4i {s:Slot}{o:List Slot}(a:s.Page≠-1)(b:(zbs o s.Page).Page≠-1):zbr s o=bif ieq (zdm s.Rights (zbs o s.Page).Rights) 0 then noSlot else ⟨(zbs o s.Page).Page,zdm s.Rights (zbs o s.Page).Rights⟩:=by unfold zbr;rw[zb1.2 a,zb1.2 b];rfl
theorem zqT {s:Slot}{o:List Slot}{n:Int}(c:n=1\/n=2)(h:enough (zbr s o).Rights n=true):s.Page≠-1/\(zbs o s.Page).Page≠-1/\(zbr s o).Page=(zbs o s.Page).Page:=by unfold zbr at h ⊢;by_cases a:s.Page = -1;{rw [zbv.2 a,cond_true]at h;rw[show noSlot.Rights=0 from rfl,zrR c]at h;cases h};{rw [zb1.2 a,cond_false]at h ⊢;by_cases b:(zbs o s.Page).Page = -1;{rw [zbv.2 b,cond_true]at h;rw[show noSlot.Rights=0 from rfl,zrR c]at h;cases h};{rw [zb1.2 b,cond_false]at h ⊢;by_cases d:zdm s.Rights (zbs o s.Page).Rights=0;{rw [zbv.2 d,cond_true]at h;rw[show noSlot.Rights=0 from rfl,zrR c]at h;cases h};{rw [zb1.2 d];exact⟨a,b,rfl⟩}}}
theorem zXy {s:Slot}{o:List Slot}{n:Int}(e:n=1\/n=2)(a:s.Page≠-1)(b:(zbs o s.Page).Page≠-1)(c:enough s.Rights n=true)(d:enough (zbs o s.Page).Rights n=true) :
 (zbr s o).Page=(zbs o s.Page).Page/\enough (zbr s o).Rights n=true:=by
 have:=z00 e c d;rw[z4i a b,zb1.2 this.1];exact⟨rfl,this.2⟩
theorem z4j (s:Slot)(o:List Slot):zcP (zbr s o).Rights=true:=by unfold zbr;cases ieq s.Page (-1)<;>cases ieq (zbs o s.Page).Page (-1)<;>cases ieq (zdm s.Rights (zbs o s.Page).Rights) 0<;>first|rfl|exact both_ok _ _
theorem zBJ {b:List Entry}{t p:Int}{e:Entry}:e∈zcF b t p↔e∈b/\¬ (e.Tag=t/\e.Page=p):=by unfold zcF;rw[List.mem_filter];refine and_congr Iff.rfl ?_;unfold zs8;by_cases h:e.Tag=t;{rw [show ine e.Tag t=false by simp[ine,h],cond_false,zHR];simp[h]};{rw [zHR.2 h];simp[h]}
theorem zbaW {b:List Entry}{e x:Entry}(h:x∈zor b e):x∈b\/x=e:=by unfold zor ap at h;have:x∈zcF b e.Tag e.Page++[e]:=(by cases a:igt (ln (zcF b e.Tag e.Page++[e])) 6 with|true=>rw[a,cond_true]at h;exact kM h|false=>rw[a,cond_false]at h;exact h);rcases jJ.1 this with h|h;{exact .inl (zBJ.1 h).1};{exact .inr (qF.1 h)}
theorem zbgb {n:Nat}(h:n<=100):wsub .i64 (n:Int) 6=(n:Int)-6:=by unfold wsub IntKind.wrap;simp[IntKind.signed,IntKind.bits];omega
theorem z2K {b:List Entry}(h:ze1 b=true)(e:Entry):ze1 (zor b e)=true:=by have c:=zHB.1 h;have k:(zcF b e.Tag e.Page).length<=6:=qU (uA _ _) c.2;have d:(zcF b e.Tag e.Page++[e]).Pairwise (fun y x=>sameKey x y=false):=(by rw[List.pairwise_append];refine⟨c.1.sublist List.filter_sublist,List.pairwise_singleton _ _,fun x i y j=>?_⟩;rw[qF.1 j];have:=(zBJ.1 i).2;unfold sameKey;by_cases a:e.Tag=x.Tag;{rw [zbv.2 a,cond_true,zb1];exact fun f=>this ⟨a.symm,f.symm⟩};{rw [zb1.2 a];rfl});unfold zor ap;cases g:igt (ln (zcF b e.Tag e.Page++[e])) 6 with|true=>rw[cond_true,zHB];refine⟨d.sublist (List.drop_sublist _ _),?_⟩;unfold dp ln;rw[kD,k9,zbgb (by omega),vK,kD,k9];omega|false=>rw[cond_false,zHB];refine⟨d,?_⟩;have:=jT g;unfold ln at this;omega
theorem z8a {h r:Host}{m:Int}(c:hasB m (ln h.Mons)=true){y:Mon}(b:r.Mons=up h.Mons m y)(a:r.Memory=h.Memory)(k:KeepP (ix h.Mons m mZ) y)(g:y.Guests=(ix h.Mons m mZ).Guests)(o:y.Outs=(ix h.Mons m mZ).Outs)(p:y.Pending=(ix h.Mons m mZ).Pending)(t:y.Traps=(ix h.Mons m mZ).Traps)(w:y.Own=(ix h.Mons m mZ).Own):Like h r:=by have e:∀{d:Type} (F:Mon->d),F y=F (ix h.Mons m mZ)->∀i,hasB i (ln h.Mons)=true->F (ix r.Mons i mZ)=F (ix h.Mons i mZ):=(by intro d F f i j;rw[b];by_cases e:m=i;{subst e;rw[zbi c];exact f};{rw [zbw (zI.1 c).1 (zI.1 j).1 e]});exact⟨by rw[b,zbR],e Mon.Guests g,e Mon.Outs o,e Mon.Pending p,e Mon.Traps t,e Mon.Own w,fun i q _ _=>zPT c b a k i q⟩
theorem zbaZ {h:Host}(R:Rt h){m g:Int}(d:hasB m (ln h.Mons)=true)(r:hasB g (ln (ix h.Mons m mZ).Tables)=true){k:Kept}(u:KOk k (ix (ix h.Mons m mZ).Guests g gZ).Live (ix h.Mons m mZ).Outer) :
 Rt {h with Mons:=up h.Mons m {ix h.Mons m mZ with Tables:=up (ix h.Mons m mZ).Tables g k}}:=by
 have f:∀e,zc3 h e=true->zc3 {h with Mons:=up h.Mons m {ix h.Mons m mZ with Tables:=up (ix h.Mons m mZ).Tables g k}} e=true:=by intro e b;obtain⟨l,n,p⟩:=zfA.1 b;rw[zfA];show hasB (zdA e.Tag) (ln (up h.Mons m _))=true/\hasB (zei e.Tag) (ln (ix (up h.Mons m _) (zdA e.Tag) mZ).Guests)=true/\below' _ (zbr (zbs (ix (ix (up h.Mons m _) (zdA e.Tag) mZ).Guests (zei e.Tag) gZ).Live e.Page) (ix (up h.Mons m _) (zdA e.Tag) mZ).Outer)=true;rw[zdP];refine⟨l,?_⟩;by_cases a:m=zdA e.Tag;{rw [<- a]at l n p ⊢;rw[zbi d];exact⟨n,p⟩};{rw [zbw (zI.1 d).1 (zI.1 l).1 a];exact⟨n,p⟩}
 refine⟨fun i s=>?_,fun e b=>f e (R.e1 e b),fun e b=>f e (R.e2 e b)⟩
 show TOk (ix (up h.Mons m _) i mZ)
 have c:hasB i (ln h.Mons)=true:=by have:hasB i (ln (up h.Mons m {ix h.Mons m mZ with Tables:=up (ix h.Mons m mZ).Tables g k}))=true:=s;rwa [zdP] at this
 by_cases a:m=i
 .subst a;rw[zbi d];intro j q
  by_cases e:g=j
  .subst e
   show KOk (ix (up _ g k) g kZ) _ _
   rw[zbi r];exact u
  .show KOk (ix (up _ g k) j kZ) _ _
   rw[zbw (zI.1 r).1 (zI.1 q).1 e];exact R.t m d j q
 .rw [zbw (zI.1 d).1 (zI.1 c).1 a];exact R.t i c
theorem zbaM {h:Host}(H:HOk h){m g:Int}(a:hasB m (ln h.Mons)=true)(c:hasB g (ln (ix h.Mons m mZ).Tables)=true){k:Kept}(b:Rt h->KOk k (ix (ix h.Mons m mZ).Guests g gZ).Live (ix h.Mons m mZ).Outer) :
 Op h {h with Mons:=up h.Mons m {ix h.Mons m mZ with Tables:=up (ix h.Mons m mZ).Tables g k}}:=by
 have X:=H.mon a;have kp:KeepP (ix h.Mons m mZ) {ix h.Mons m mZ with Tables:=up (ix h.Mons m mZ).Tables g k}:=⟨rfl,rfl⟩;exact⟨zX3 H a kp (zlB X kp rfl (zbR _ _ _) rfl X.outs X.pend X.tr X.own X.gs),z8a (y:={ix h.Mons m mZ with Tables:=up (ix h.Mons m mZ).Tables g k}) a rfl rfl kp rfl rfl rfl rfl rfl,fun R=>zbaZ R a c (b R)⟩
theorem zPc {k:Kept}{a b:List Slot}(h:KOk k a b)(p:Int):KOk (filled k a b p) a b:=by unfold filled zdk;cases d:hasB p (ln k.Known) with|false=>exact h|true=>have f:hasB p (ln k.Slots)=true:=(by unfold ln at d ⊢;rw[h.l2,<- h.l1];exact d);have g:hasB p (ln a)=true:=(by unfold ln at d ⊢;rw[<- h.l1];exact d);rw[cond_true,f,cond_true,g,cond_true];refine⟨by rw[zbR];exact h.l1,by rw[zbR];exact h.l2,fun i c=>?_⟩;by_cases e:p=i;{subst e;show ix (up _ p _) p sZ=bif ix (up _ p true) p false then _ else _;rw[zbi f,zbi d];rfl};{show ix (up _ p _) i sZ=bif ix (up _ p true) i false then _ else _;rw[zbw (zI.1 f).1 (zI.1 c).1 e,zbw (zI.1 f).1 (zI.1 c).1 e];exact h.at' i c}
theorem zbek {h:Host}(H:HOk h){m g:Int}(b:hasB m (ln h.Mons)=true)(hg:hasB g (ln (ix h.Mons m mZ).Guests)=true)(a:Int):Op h (zct h m g a):=
 zbaM H b (by unfold ln;rw[(H.mon b).gt];exact hg) fun R=>zPc (R.t m b g hg) a
theorem z6D {k:Kept}{a b:List Slot}(h:KOk k a b){p:Int}(c:hasB p (ln a)=true):zdI k p=bif ix k.Known p false then zbr (ix a p sZ) b else noSlot:=by have d:hasB p (ln k.Known)=true:=(by unfold ln at c ⊢;rw[h.l1];exact c);have e:hasB p (ln k.Slots)=true:=(by unfold ln at c ⊢;rw[h.l2];exact c);unfold zdI ziR zdk;rw[d,e,cond_true,cond_true,h.at' p c];cases ix k.Known p false<;>rfl
theorem z3Z {k:Kept}{a b:List Slot}(h:KOk k a b){p:Int}(c:hasB p (ln a)=true):zdI (filled k a b p) p=zbr (ix a p sZ) b:=by rw[z6D (zPc h p) c];have d:hasB p (ln k.Known)=true:=(by unfold ln at c ⊢;rw[h.l1];exact c);have e:hasB p (ln k.Slots)=true:=(by unfold ln at c ⊢;rw[h.l2];exact c);have:ix (filled k a b p).Known p false=true:=(by unfold filled zdk;rw[d,e,c];exact zbi d _ _);rw[this];rfl
theorem zbfq {h:Host}(H:HOk h){m g a:Int}(i:Bool)(n:Rt h->zc3 h (zWV h m g a)=true):Op h (zxM h m g a i):=by have f:∀(j k:List Entry),Like h ⟨h.Memory,h.Mons,j,k⟩:=fun _ _=>⟨rfl,fun _ _=>rfl,fun _ _=>rfl,fun _ _=>rfl,fun _ _=>rfl,fun _ _=>rfl,fun _ _ _ _=>rfl⟩;have d:∀(b:List Entry),(∀e∈b,zc3 h e=true)->Rt h->∀e∈zor b (zWV h m g a),zc3 h e=true:=(by intro b l R e c;rcases zbaW c with c|c;{exact l e c};{rw [c];exact n R});unfold zxM;cases i;{exact⟨⟨H.m12,H.pgs,H.n1,H.n3,z2K H.b1 _,H.b2,H.mons,H.uq⟩,f _ _,fun R=>⟨R.t,fun e c=>d _ R.e1 R e c,R.e2⟩⟩};{exact⟨⟨H.m12,H.pgs,H.n1,H.n3,H.b1,z2K H.b2 _,H.mons,H.uq⟩,f _ _,fun R=>⟨R.t,R.e1,fun e c=>d _ R.e2 R e c⟩⟩}
theorem zbam {b:List Entry}{t p:Int}{e:Entry}(h:zuy b t p=some e):e∈b/\e.Tag=t/\e.Page=p:=by unfold zuy at h;have a:=List.find?_some h;rw[zcf,zbv,zbv]at a;exact⟨uN h,a⟩
theorem zkb {h:Host}{m g:Int}:zbZ h m g=true↔HOk h/\hasB m (ln h.Mons)=true/\hasB g (ln (ix h.Mons m mZ).Guests)=true:=by unfold zbZ;rw[zcf,zcf,zkA]
structure GOk (x:Guest):Prop where
 prog:zda x.Prog=true
 a:win x.A 0 99=true
 pc:win x.Pc 0 12=true
 w:zcY x.Written 4 8=true
 l:zcY x.Live 4 8=true
 ctl:zhA x.Ctl=true
 pend:zc7 x.Pending=true
 ex:zhk x.Exit=true
 seen:ile (ln x.Seen) 40=true
theorem zu3 {x:Guest}:zc9 x=true↔GOk x:=by unfold zc9;simp only[qD];exact⟨fun⟨a,b,c,d,e,f,g,h,i⟩=>⟨a,b,c,d,e,f,g,h,i⟩,fun⟨a,b,c,d,e,f,g,h,i⟩=>⟨a,b,c,d,e,f,g,h,i⟩⟩
theorem z8Y {s:Slot}:zdK s 8=true↔s=noSlot\/(0<=s.Page/\s.Page<=7/\1<=s.Rights/\s.Rights<=3):=by unfold zdK;rw[zvq,zqE,ztn];have:wsub .i64 8 1=7:=(by decide);simp only[this,zvq,zcN];simp[igt];constructor;{rintro (h|⟨h,⟨a,b⟩,c⟩);{exact .inl h};{exact .inr ⟨a,b,c⟩}};{intro h;by_cases d:s=noSlot;{exact .inl d};{rcases h with h|⟨a,b,c⟩;{exact .inl h};{exact .inr ⟨d,⟨a,b⟩,c⟩}}}
theorem HOk.guest {h:Host}(H:HOk h){m g:Int}(a:hasB m (ln h.Mons)=true)(hg:hasB g (ln (ix h.Mons m mZ).Guests)=true):GOk (ix (ix h.Mons m mZ).Guests g gZ):=zu3.1 ((H.mon a).gs _ (zmm hg _))
structure Walked (l:List Slot) (p n q:Int):Prop where
 hp:hasB p (ln l)=true
 pg:(ix l p sZ).Page=q
 q8:hasB q 8=true
 en:enough (ix l p sZ).Rights n=true
theorem walked {x:Guest}(X:GOk x){p n:Int}(a:zd8 x.Live p n=true):Walked x.Live p n (zcb x.Live p n):=by have e:zcb x.Live p n=(zbs x.Live p).Page:=(by unfold zcb;rw[a];rfl);unfold zd8 at a;by_cases b:(zbs x.Live p).Page = -1;{rw [zbv.2 b]at a;cases a};{rw [zb1.2 b,cond_false,zcf]at a;have c:hasB p (ln x.Live)=true:=(by cases c:hasB p (ln x.Live) with|true=>rfl|false=>exact absurd (by unfold zbs;rw[c];rfl) b);rw[zo0 c] at e b a;rw[e];have d:=z8Y.1 ((zsH.1 X.l).1 _ (zmm c sZ));refine⟨c,rfl,?_,a.1⟩;rcases d with d|d;{rw [d]at b;exact absurd rfl b};{exact zI.2 (by omega)}}
structure Looked (h r:Host) (m g page need q host:Int):Prop where
 op:Op h r
 inn:(ix (ix r.Mons m mZ).Outer q sZ).Page=host
 ne:host≠-1
 en:enough (zbr (ix (ix (ix h.Mons m mZ).Guests g gZ).Live page sZ) (ix r.Mons m mZ).Outer).Rights need=true
 cp:(zbr (ix (ix (ix h.Mons m mZ).Guests g gZ).Live page sZ) (ix r.Mons m mZ).Outer).Page=host
 dk:∀k,hasB k 8=true->k≠q->ix (ix r.Mons m mZ).Dirty k false=ix (ix h.Mons m mZ).Dirty k false
 dq:need=2->ix (ix r.Mons m mZ).Dirty q false=true
 d1:need=1->(ix r.Mons m mZ).Dirty=(ix h.Mons m mZ).Dirty
 dm:∀i,hasB i (ln h.Mons)=true->i≠m->(ix r.Mons i mZ).Dirty=(ix h.Mons i mZ).Dirty
theorem zUE {h:Host}(S:Safe h){m g a b q:Int}(f:hasB m (ln h.Mons)=true)(hg:hasB g (ln (ix h.Mons m mZ).Guests)=true)(l:b=1\/b=2)(W:Walked (ix (ix h.Mons m mZ).Guests g gZ).Live a b q)(c:Bool)(d:zdI (zb4 h m g) a=zbr (ix (ix (ix h.Mons m mZ).Guests g gZ).Live a sZ) (ix h.Mons m mZ).Outer)(i:enough (zdI (zb4 h m g) a).Rights b=true) :
 Op h (zer h m g a c).1/\(zer h m g a c).2=((ix (ix h.Mons m mZ).Outer q sZ).Page,true)/\(ix (ix h.Mons m mZ).Outer q sZ).Page≠-1/\(zer h m g a c).1.Mons=h.Mons:=by
 rw[d]at i;have e:=zqT l i;rw[W.pg,zo0 ((S.ok.mon f).hasO W.q8)]at e;refine⟨zbfq S.ok c fun R=>?_,?_,e.2.1,?_⟩
 .obtain⟨t1,t2⟩:=S.ok.tag f hg;obtain⟨j,k,_⟩:=z0h t1 t2;rw[zfA]
  show hasB (zdA (zdN m g)) _=true/\hasB (zei (zdN m g)) (ln (ix h.Mons (zdA (zdN m g)) mZ).Guests)=true/\below' ⟨(zdI (zb4 h m g) a).Page,(zdI (zb4 h m g) a).Rights⟩ (zbr (zbs (ix (ix h.Mons (zdA (zdN m g)) mZ).Guests (zei (zdN m g)) gZ).Live a) (ix h.Mons (zdA (zdN m g)) mZ).Outer)=true
  rw[j,k,zo0 W.hp,d];exact⟨f,hg,zsL.2 (.inr ⟨rfl,z07 (z4j _ _)⟩)⟩
 .show ((zdI (zb4 h m g) a).Page,true)=_
  rw[d,e.2.2]
 .show (zxM h m g a c).Mons=_
  unfold zxM;cases c<;>rfl
theorem zZa {h:Host}(S:Safe h){m g page need q:Int}(x:hasB m (ln h.Mons)=true)(hg:hasB g (ln (ix h.Mons m mZ).Guests)=true)(D:need=1\/need=2)(W:Walked (ix (ix h.Mons m mZ).Guests g gZ).Live page need q)(N:Bool){b:List Entry}(hb:∀e∈b,zc3 h e=true)(hd:need=2->ix (ix h.Mons m mZ).Dirty q false=true) :
 Looked h (zf3 h b m g page need q N).1 m g page need q (zf3 h b m g page need q N).2.1/\(zf3 h b m g page need q N).2.2=true:=by
 have X:=S.ok.mon x;have r:=W.q8;have L:=zo0 (X.hasO W.q8);unfold zf3;cases K:zhK b m g page need with
 |true=>
  rw[cond_true];unfold zhK at K;cases B:zsR b m g page with
  |none=>rw[B]at K;cases K
  |some e=>rw[B]at K;have A:enough e.Rights need=true:=K;obtain⟨f1,f2,f3⟩:=zbam B;obtain⟨t1,t2⟩:=S.ok.tag x hg;obtain⟨b1,b2,_⟩:=z0h t1 t2;obtain⟨_,_,v⟩:=zfA.1 (hb e f1);rw[f2,b1,b2,f3,zo0 W.hp]at v;have T:(⟨e.Host,e.Rights⟩:Slot)≠noSlot:=fun f=>(by have:e.Rights=0:=congrArg Slot.Rights f;rw[this,zrR D]at A;cases A);rcases zsL.1 v with v|⟨v,h4⟩;{exact absurd v T};{have h5:=zXS h4 A;have f:=zqT D h5;rw[W.pg,L]at f;have O:e.Host=_:=v;refine⟨⟨Op.refl S.ok,f.2.2.symm.trans v.symm,?_,h5,v.symm,fun _ _ _=>rfl,hd,fun _=>rfl,fun _ _ _=>rfl⟩,rfl⟩;show e.Host≠-1;rw[O,f.2.2];exact f.2.1}
 |false=>
  rw[cond_false];have P:=S.rt.t m x g hg;cases y:zeh h m g page need with
  |false=>rw[cond_false];have E:ix (zb4 h m g).Known page false=true/\enough (zdI (zb4 h m g) page).Rights need=true:=(by unfold zeh at y;cases n:ziR (zb4 h m g) page with|false=>rw[n]at y;cases y|true=>rw[n,cond_true]at y;refine⟨?_,?_⟩;{unfold ziR at n;cases hh:zdk (zb4 h m g) page with|false=>rw[hh]at n;cases n|true=>rw[hh]at n;exact n};{cases hz:ieq (zdI (zb4 h m g) page).Page (-1) with|true=>rw[hz]at y;cases y|false=>rw[hz]at y;simpa using y});have H:zdI (zb4 h m g) page=zbr (ix (ix (ix h.Mons m mZ).Guests g gZ).Live page sZ) (ix h.Mons m mZ).Outer:=(by have Z:=z6D P W.hp;have h1:ix (ix (ix h.Mons m mZ).Tables g kZ).Known page false=true:=E.1;rw[h1]at Z;exact Z);obtain⟨U,V,Y,d⟩:=zUE S x hg D W N H E.2;rw[V];have J:=E.2;rw[H]at J;have f:=zqT D J;rw[W.pg,L]at f;exact⟨⟨U,by rw[d],Y,by rw[d];exact J,by rw[d];exact f.2.2,fun _ _ _=>by rw[d],fun e=>by rw[d];exact hd e,fun _=>by rw[d],fun _ _ _=>by rw[d]⟩,rfl⟩
  |true=>
   rw[cond_true];have M:=zUM S.ok (m:=m) (p:=q) need x r;have c:hasB m (ln (mended h m q need).Mons)=true:=(by rw[M.op.like.has];exact x);have C:(ix (mended h m q need).Mons m mZ).Guests=(ix h.Mons m mZ).Guests:=M.op.like.g m x;have l:hasB g (ln (ix (mended h m q need).Mons m mZ).Guests)=true:=(by rw[C];exact hg);have G:Safe (mended h m q need):=M.op.safe S;have F:=zbek G.ok c l page;have S2:Safe (zct (mended h m q need) m g page):=F.safe G;have R:hasB m (ln (zct (mended h m q need) m g page).Mons)=true:=(by rw[F.like.has];exact c);have u:ix (zct (mended h m q need) m g page).Mons m mZ={ix (mended h m q need).Mons m mZ with Tables:=up (ix (mended h m q need).Mons m mZ).Tables g (filled (zb4 (mended h m q need) m g) (zcp (mended h m q need) m g) (ix (mended h m q need).Mons m mZ).Outer page)}:=zbi c _ _;have Q:hasB g (ln (ix (zct (mended h m q need) m g page).Mons m mZ).Guests)=true:=(by rw[u];exact l);have w:(ix (zct (mended h m q need) m g page).Mons m mZ).Guests=(ix h.Mons m mZ).Guests:=(by rw[u];exact C);have W2:Walked (ix (ix (zct (mended h m q need) m g page).Mons m mZ).Guests g gZ).Live page need q:=(by rw[w];exact W);have H:zdI (zb4 (zct (mended h m q need) m g page) m g) page=zbr (ix (ix (ix (zct (mended h m q need) m g page).Mons m mZ).Guests g gZ).Live page sZ) (ix (zct (mended h m q need) m g page).Mons m mZ).Outer:=(by have:zb4 (zct (mended h m q need) m g page) m g=filled (zb4 (mended h m q need) m g) (zcp (mended h m q need) m g) (ix (mended h m q need).Mons m mZ).Outer page:=(by unfold zb4;rw[u];exact zbi (by unfold ln;rw[(G.ok.mon c).gt];exact l) _ _);rw[this];refine(z3Z (p:=page) (G.rt.t m c g l) (by rw[C];exact W.hp)).trans ?_;rw[u]);have z:(ix (zct (mended h m q need) m g page).Mons m mZ).Outer=(ix (mended h m q need).Mons m mZ).Outer:=by rw[u]
   have j:=zo0 ((G.ok.mon c).hasO r);have a:=zXy (s:=ix (ix (ix h.Mons m mZ).Guests g gZ).Live page sZ) (o:=(ix (mended h m q need).Mons m mZ).Outer) D (by rw[W.pg];have:=zI.1 r;omega) (by rw[W.pg,j];exact M.inn) W.en (by
    rw[W.pg,j];rcases D with rfl|rfl
    .rcases (G.ok.mon c).enough1 r M.inn with e|e<;>rw [e]<;>decide
    .rw [M.ri (by decide)];decide)
   have J:enough (zdI (zb4 (zct (mended h m q need) m g page) m g) page).Rights need=true:=(by rw[H,w,z];exact a.2);obtain⟨U,V,Y,d⟩:=zUE S2 R Q D W2 N H J;rw[V];have I:=a.1;rw[W.pg,j]at I;refine⟨⟨(M.op.trans F).trans U,by rw[d],Y,by rw[d,z];exact a.2,by rw[d,z];exact I,fun k n f=>?_,fun e=>?_,fun e=>?_,fun i hi f=>?_⟩,rfl⟩;{rw [d,u];exact M.dk k n f};{rw [d,u];exact M.dt (by rw[e];decide)};{rw [d,u];exact M.d0 (by rw[e];decide)};{rw [d];show (ix (up (mended h m q need).Mons m _) i mZ).Dirty=_;rw[zbw (zI.1 x).1 (zI.1 hi).1 (Ne.symm f)];exact M.dm i hi f}
theorem zJ1 {n:Int}:zfJ n=true↔n=1\/n=2:=by unfold zfJ;by_cases h:n=1;{rw [zbv.2 h];simp[h]};{rw [zb1.2 h,cond_false,zbv];simp[h]}
theorem zr3 {h:Host}{m g page need:Int}:zbO h m g page need=true↔zbZ h m g=true/\(need=1\/need=2)/\zd8 (zcp h m g) page need=true:=by unfold zbO;rw[zcf,zcf,zJ1]
theorem zUF {h:Host}(S:Safe h){m g page need:Int}(j:Bool)(t:zbO h m g page need=true){b:List Entry}(r:∀e∈b,zc3 h e=true) :
 Looked h (lookOf h b m g page need j).1 m g page need (zcb (zcp h m g) page need) (lookOf h b m g page need j).2.1/\(lookOf h b m g page need j).2.2=true:=by
 obtain⟨w,A,B⟩:=zr3.1 t;obtain⟨_,a,hg⟩:=zkb.1 w;have W:=walked (S.ok.guest a hg) B;unfold lookOf;rw[t,cond_true];rcases A with rfl|rfl
 .rw [show ieq 1 2=false by decide,cond_false]
  exact zZa S a hg (.inl rfl) W j r (fun e=>absurd e (by decide))
 .rw [show ieq 2 2=true by decide,cond_true]
  obtain⟨d,C⟩:=zPM S.ok a (zcb (zcp h m g) page 2);have p:hasB m (ln (zbC h m (zcb (zcp h m g) page 2)).Mons)=true:=by rw[d.like.has];exact a
  have f:ix (zbC h m (zcb (zcp h m g) page 2)).Mons m mZ={ix h.Mons m mZ with Dirty:=up (ix h.Mons m mZ).Dirty (zcb (zcp h m g) page 2) true}:=zbi a _ _;have x:=(S.ok.mon a).hasD W.q8;obtain⟨L,y⟩:=zZa (d.safe S) p (g:=g) (page:=page) (need:=2) (q:=zcb (zcp h m g) page 2) (by rw[f];exact hg) (.inr rfl) (by rw[f];exact W) j (b:=b) (fun e z=>by
   obtain⟨l,u,v⟩:=zfA.1 (r e z);rw[zfA];have n:hasB (zdA e.Tag) (ln (zbC h m (zcb (zcp h m g) page 2)).Mons)=true:=by rw[d.like.has];exact l
   refine⟨n,by rw[d.like.g _ l];exact u,?_⟩
   rw[d.like.g _ l];have:(ix (zbC h m (zcb (zcp h m g) page 2)).Mons (zdA e.Tag) mZ).Outer=(ix h.Mons (zdA e.Tag) mZ).Outer:=by show (ix (up h.Mons m _) _ mZ).Outer=_;by_cases c:m=zdA e.Tag;{rw [<- c,zbi a]};{rw [zbw (zI.1 a).1 (zI.1 l).1 c]}
   rw[this];exact v) (fun _=>by rw[f];exact zbi x _ _)
  refine⟨⟨d.trans L.op,L.inn,L.ne,?_,?_,fun k s c=>?_,L.dq,fun e=>absurd e (by decide),fun i n c=>?_⟩,y⟩
  .have:=L.en;rw[f] at this;exact this
  .have:=L.cp;rw[f] at this;exact this
  .rw [L.dk k s c,f];exact zbw (zI.1 W.q8).1 (zI.1 s).1 (Ne.symm c) _ _
  .rw [L.dm i (by rw[d.like.has];exact n) c]
   show (ix (up h.Mons m _) i mZ).Dirty=_
   rw[zbw (zI.1 a).1 (zI.1 n).1 (Ne.symm c)]
end
end Go.Proofs.YthhbajmehldikaaGreat.E
